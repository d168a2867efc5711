/-
  The plane: turns, chains of points in order, convex polygons. Plain, no condition.
-/
import Derived.Test.YtfknaeamhcpfgaaGreatPl4
namespace Go.Proofs.YtfknaeamhcpfgaaGreat
set_option linter.unusedVariables false
namespace Hull
abbrev Pt:=Int×Int
def tn (a b c:Pt):Int:=(b.1-a.1)*(c.2-a.2)-(b.2-a.2)*(c.1-a.1)
def lx (a b:Pt):Prop:=a.1<b.1∨(a.1=b.1∧a.2<b.2)
instance (a b:Pt):Decidable (lx a b):=by unfold lx;infer_instance
def pos (x y:Int):Prop:=0<x∨(x=0∧0<y)
theorem tr0 {a b c d e f:Int}(hu:pos a b)(hv:pos c d)(hw:pos e f)(h1:0≤a*d-b*c)(h2:0≤c*f-d*e):0≤a*f-b*e:=by
 have key:(a*f-b*e)*c=(c*f-d*e)*a+(a*d-b*c)*e:=by grind
 have ha:0≤a:=by unfold pos at hu;omega
 have he:0≤e:=by unfold pos at hw;omega
 rcases hv with hc | ⟨rfl,hd⟩
 ·have:0≤(a*f-b*e)*c:=by rw[key];exact Int.add_nonneg (Int.mul_nonneg h2 ha) (Int.mul_nonneg h1 he)
  exact Int.nonneg_of_mul_nonneg_left this hc
 ·have:d*e≤0:=by omega
  have he0:e=0:=by
   rcases Int.lt_or_eq_of_le he with h | h
   ·have:=Int.mul_pos hd h;omega
   ·exact h.symm
  subst he0;have hf:0<f:=by unfold pos at hw;omega
  have:=Int.mul_nonneg ha (Int.le_of_lt hf);omega
theorem tr1 {a b c d e f:Int}(hu:pos a b)(hv:pos c d)(hw:pos e f)(h1:0<a*d-b*c)(h2:0≤c*f-d*e):0<a*f-b*e:=by
 have key:(a*f-b*e)*c=(c*f-d*e)*a+(a*d-b*c)*e:=by grind
 have ha:0≤a:=by unfold pos at hu;omega
 have he:0≤e:=by unfold pos at hw;omega
 rcases hv with hc | ⟨rfl,hd⟩
 ·rcases Int.lt_or_eq_of_le he with h | h
  ·have:0<(a*f-b*e)*c:=by rw[key];exact Int.add_pos_of_nonneg_of_pos (Int.mul_nonneg h2 ha) (Int.mul_pos h1 h)
   exact Int.pos_of_mul_pos_left this hc
  ·subst h;have hf:0<f:=by unfold pos at hw;omega
   have ha':0<a:=by
    rcases hu with h | ⟨rfl,hb⟩
    ·exact h
    ·have:=Int.mul_pos hb hc;omega
   have:=Int.mul_pos ha' hf;omega
 ·have hde:d*e≤0:=by omega
  have he0:e=0:=by
   rcases Int.lt_or_eq_of_le he with h | h
   ·have:=Int.mul_pos hd h;omega
   ·exact h.symm
  subst he0;have hf:0<f:=by unfold pos at hw;omega
  have ha':0<a:=by
   rcases Int.lt_or_eq_of_le ha with h | h
   ·exact h
   ·subst h;omega
  have:=Int.mul_pos ha' hf;omega
theorem tr2 {a b c d e f:Int}(hu:pos a b)(hv:pos c d)(hw:pos e f)(h1:0≤a*d-b*c)(h2:0<c*f-d*e):0<a*f-b*e:=by
 rcases Int.lt_trichotomy 0 (a*f-b*e)with h | h | h
 ·exact h
 ·exfalso;have hz:0≤e*b-f*a:=by have:a*f-b*e=0:=h.symm;grind
  have:=tr0 hw hu hv hz h1;grind
 ·exfalso;have hz:0≤e*b-f*a:=by grind
  have:=tr0 hw hu hv hz h1;grind
theorem lx_pos {a b:Pt}(h:lx a b):pos (b.1-a.1) (b.2-a.2):=by unfold lx at h;unfold pos;omega
theorem lx_trans {a b c:Pt}(h:lx a b)(k:lx b c):lx a c:=by unfold lx at *;omega
theorem lx_irr {a:Pt}(h:lx a a):False:=by unfold lx at h;omega
theorem lx_asym {a b:Pt}(h:lx a b)(k:lx b a):False:=by unfold lx at *;omega
theorem lx_tri (a b:Pt):lx a b∨a=b∨lx b a:=by
 rcases a with⟨a1,a2⟩;rcases b with⟨b1,b2⟩;simp only[lx,Prod.mk.injEq];omega
theorem tn_cyc (a b c:Pt):tn b c a=tn a b c:=by unfold tn;grind
theorem tn_swap (a b c:Pt):tn a c b=- tn a b c:=by unfold tn;grind
@[simp] theorem tn_aa (a b:Pt):tn a b a=0:=by unfold tn;grind
@[simp] theorem tn_bb (a b:Pt):tn a b b=0:=by unfold tn;grind
theorem tn_e (a b c:Pt):tn a b c=(b.1-a.1)*(c.2-b.2)-(b.2-a.2)*(c.1-b.1):=by unfold tn;grind
theorem tn_abd {a b c d:Pt}(h1:lx a b)(h2:lx b c)(h3:lx b d)(t1:0<tn a b c)(t2:0≤tn b c d):0<tn a b d:=by
 rw[tn_e]at t1 ⊢;exact tr1 (lx_pos h1) (lx_pos h2) (lx_pos h3) t1 t2
theorem tn_acd {a b c d:Pt}(h1:lx a b)(h2:lx b c)(h3:lx c d)(t1:0<tn a b c)(t2:0<tn b c d):0<tn a c d:=by
 have t3:0<tn a b d:=tn_abd h1 h2 (lx_trans h2 h3) t1 (Int.le_of_lt t2);have e:tn a c d=tn a b d-tn a b c+tn b c d:=by unfold tn;grind
 have k:0<(b.1-a.1)*(d.2-c.2)-(b.2-a.2)*(d.1-c.1):=by
  rw[tn_e]at t1 t2;exact tr1 (lx_pos h1) (lx_pos h2) (lx_pos h3) t1 (Int.le_of_lt t2)
 have:(b.1-a.1)*(d.2-c.2)-(b.2-a.2)*(d.1-c.1)=tn a b d-tn a b c:=by unfold tn;grind
 omega
def Asc (l:List Pt):Prop:=l.Pairwise lx
def Cvx (l:List Pt):Prop:=∀p a b c q,l=p++a::b::c::q→0<tn a b c
def Lft (l:List Pt)(y:Pt):Prop:=∀p a b q,l=p++a::b::q→0≤tn a b y
def Tri (l:List Pt):Prop:=∀a b c,[a,b,c].Sublist l→0<tn a b c
theorem Cvx.tail {a:Pt}{l:List Pt}(h:Cvx (a::l)):Cvx l:=fun p x y z q e=>h (a::p) x y z q (by rw[e];rfl)
theorem Lft.tail {a y:Pt}{l:List Pt}(h:Lft (a::l) y):Lft l y:=fun p x z q e=>h (a::p) x z q (by rw[e];rfl)
theorem Cvx.front {l m:List Pt}(h:Cvx (l++m)):Cvx l:=fun p x y z q e=>h p x y z (q++m) (by rw[e];simp)
theorem Lft.front {y:Pt}{l m:List Pt}(h:Lft (l++m) y):Lft l y:=fun p x z q e=>h p x z (q++m) (by rw[e];simp)
theorem Asc.mem_lt {a b:Pt}{l:List Pt}(h:Asc (a::l))(hb:b∈l):lx a b:=(List.pairwise_cons.1 h).1 b hb
theorem Asc.tail {a:Pt}{l:List Pt}(h:Asc (a::l)):Asc l:=(List.pairwise_cons.1 h).2
theorem tri_of:(l:List Pt)→Asc l→Cvx l→Tri l
 | [],_,_=>fun a b c h=>by simp at h
 | [x],_,_=>fun a b c h=>by have:=h.length_le;simp at this
 | [x,y],_,_=>fun a b c h=>by have:=h.length_le;simp at this
 | x::y::z::r,ha,hc=>by
  have ih:=tri_of (y::z::r) ha.tail hc.tail;intro a b c h;have hxyz:=hc [] x y z r rfl;have hxy:lx x y:=ha.mem_lt (by simp)
  have hyz:lx y z:=ha.tail.mem_lt (by simp)
  have k1:∀w,w∈z::r→0<tn x y w:=fun w hw=>by
   rcases List.mem_cons.1 hw with rfl | hw
   ·exact hxyz
   ·exact tn_abd hxy hyz (ha.tail.mem_lt (by simp[hw])) hxyz (Int.le_of_lt (ih y z w (by
     have:[w].Sublist r:=List.singleton_sublist.2 hw;exact(this.cons_cons z).cons_cons y)))
  cases h with
  | cons _ h=>exact ih a b c h
  | cons_cons _ h =>
   cases h with
   | cons_cons _ h =>
    exact k1 c (List.singleton_sublist.1 h)
   | cons _ h =>
    have hb:b∈z::r:=h.subset (by simp)
    have hcm:c∈z::r:=h.subset (by simp)
    have hbc:lx b c:=by
     have:=(ha.tail.tail).sublist h;exact(List.pairwise_cons.1 this).1 c (by simp)
    exact tn_acd hxy (ha.tail.mem_lt hb) hbc (k1 b hb) (ih y b c (h.cons_cons y))
theorem Tri.lft {l:List Pt}(h:Tri l){y:Pt}(hy:y∈l):Lft l y:=by
 intro p a b q e;subst e;simp only[List.mem_append,List.mem_cons]at hy;rcases hy with hy | rfl | rfl | hy
 ·have:=h y a b (List.Sublist.append (l₁:=[y]) (List.singleton_sublist.2 hy) (((List.nil_sublist q).cons_cons b).cons_cons a));have e2:tn a b y=tn y a b:=tn_cyc y a b;omega
 ·simp
 ·simp
 ·exact Int.le_of_lt (h a b y ((((List.singleton_sublist.2 hy).cons_cons b).cons_cons a).trans (List.sublist_append_right p _)))
theorem uniq:(L M:List Pt)→Asc L→Asc M→Cvx L→Cvx M→L.head? = M.head?→L.getLast? = M.getLast?→(∀y∈M,Lft L y)→(∀y∈L,Lft M y)→L=M
 | [],M,_,_,_,_,hh,_,_,_=>by cases M with
  | nil=>rfl
  | cons _ _=>simp at hh
 | [a],M,_,hM,_,_,hh,hl,_,_=>by
  match M,hM,hh,hl with
  | [b],_,hh,_=>simpa using hh
  | b::c::r,hM,hh,hl =>
   exfalso;simp only[List.head?_cons,Option.some.injEq]at hh;subst hh;rw[List.getLast?_cons_cons,List.getLast?_singleton]at hl;have:=List.mem_of_getLast? hl.symm;exact lx_irr (hM.mem_lt this)
 | a::b::r,M,hL,hM,cL,cM,hh,hl,h1,h2=>by
  match M,hM,cM,hh,hl,h1,h2 with
  | [],_,_,hh,_,_,_=>simp at hh
  | [x],_,_,hh,hl,_,_ =>
   exfalso;simp only[List.head?_cons,Option.some.injEq]at hh;subst hh;rw[List.getLast?_cons_cons,List.getLast?_singleton]at hl;exact lx_irr (hL.mem_lt (List.mem_of_getLast? hl))
  | x::b'::r',hM,cM,hh,hl,h1,h2 =>
   simp only[List.head?_cons,Option.some.injEq]at hh;subst hh;have e1:0≤tn a b b':=h1 b' (by simp) [] a b r rfl
   have e2:0≤tn a b' b:=h2 b (by simp) [] a b' r' rfl
   rw[tn_swap]at e2;have e0:tn a b b'=0:=by omega
   rw[List.getLast?_cons_cons,List.getLast?_cons_cons]at hl;have key:∀(b b':Pt) (r r':List Pt),Asc (a::b::r)→Asc (a::b'::r')→Cvx (a::b::r)→(b::r).getLast? = (b'::r').getLast?→Lft (a::b::r) b'→tn a b b'=0→¬lx b b':=by
    intro b b' r r' hL hM cL hl h1 e0 hbb;cases r with
    | nil =>
     rw[List.getLast?_singleton]at hl;have:=List.mem_of_getLast? hl.symm;rcases List.mem_cons.1 this with rfl | h
     ·exact lx_irr hbb
     ·exact lx_asym hbb (hM.tail.mem_lt h)
    | cons c r2 =>
     have t1:=cL [] a b c r2 rfl;have t2:=h1 [a] b c r2 rfl;have:=tn_abd (hL.mem_lt (by simp)) (hL.tail.mem_lt (by simp)) hbb t1 t2
     omega
   rcases lx_tri b b' with h | rfl | h
   ·exact absurd h (key b b' r r' hL hM cL hl (h1 b' (by simp)) e0)
   ·rw[uniq (b::r) (b::r') hL.tail hM.tail cL.tail cM.tail rfl hl (fun y hy=>(h1 y (List.mem_cons_of_mem _ hy)).tail) (fun y hy=>(h2 y (List.mem_cons_of_mem _ hy)).tail)]
   ·exact absurd h (key b' b r' r hM hL cM hl.symm (h2 b (by simp)) (by rw[tn_swap];omega))
def pops (x:Pt):List Pt→List Pt
 | t::u::r=>if tn u t x≤0 then pops x (u::r)else t::u::r
 | s=>s
def push (s:List Pt)(x:Pt):List Pt:=x::pops x s
def chain (l:List Pt):List Pt:=l.foldl push []
theorem pops_suffix (x:Pt):(s:List Pt)→∃p,s=p++pops x s
 | []=>⟨[],rfl⟩
 | [t]=>⟨[],rfl⟩
 | t::u::r=>by
  unfold pops;split
  ·obtain⟨p,hp⟩:=pops_suffix x (u::r);exact⟨t::p,by rw[List.cons_append,←hp]⟩
  ·exact⟨[],rfl⟩
structure Inv (S:List Pt) (Y:Pt→Prop):Prop where
 ne:S≠[]
 asc:Asc S.reverse
 cvx:Cvx S.reverse
 lft:∀y,Y y→Lft S.reverse y
 top:∀t r,S=t::r→∀y,Y y→y=t∨lx y t
 bot:∀t r,S=r++[t]→∀y,Y y→y=t∨lx t y
 sub:∀y∈S,Y y
theorem pops_spec {x:Pt} {Y:Pt→Prop} (hx:∀ y,Y y→lx y x):(S:List Pt)→S≠[]→Asc S.reverse→(∀ y∈S,Y y)→(∀ y,Y y→Lft S.reverse y)→(∀ t r,S = t :: r→∀ y,Y y→lx t y→0≤tn t x y) →
  ∃t r,pops x S=t::r∧(∀y,Y y→lx t y→0≤tn t x y)∧∀u r',r=u::r'→0<tn u t x
 | [],h,_,_,_,_=>absurd rfl h
 | [t],_,_,_,_,hp=>⟨t,[],rfl,hp t [] rfl,fun u r' h=>by simp at h⟩
 | t::u::r,_,ha,hs,hl,hp=>by
  unfold pops;split
  ·rename_i hle;have e:(t::u::r).reverse=(u::r).reverse++[t]:=by simp
   have ha':Asc (u::r).reverse:=by rw[e]at ha;exact(List.pairwise_append.1 ha).1
   refine pops_spec hx (u::r) (by simp) ha' (fun y hy=>hs y (List.mem_cons_of_mem _ hy)) (fun y hy=>by have:=hl y hy;rw[e]at this;exact this.front) (fun t' r' he y hy hty=>?_)
   simp only[List.cons.injEq]at he;obtain⟨rfl,rfl⟩:=he;have k1:0≤tn u t y:=hl y hy r.reverse u t [] (by simp)
   have hut:lx u t:=by
    rw[e]at ha;exact(List.pairwise_append.1 ha).2.2 u (by simp) t (by simp)
   have hux:lx u x:=hx u (hs u (by simp))
   have k2:0≤tn u x t:=by rw[tn_swap];omega
   unfold tn at k1 k2 ⊢;exact tr0 (lx_pos hux) (lx_pos hut) (lx_pos hty) k2 k1
  ·rename_i hgt;refine⟨t,u::r,rfl,hp t _ rfl,fun u' r' h=>?_⟩;simp only[List.cons.injEq]at h;obtain⟨rfl,rfl⟩:=h;omega
theorem Cvx.snoc {l:List Pt}{x:Pt}(h:Cvx l)(hx:∀p u t,l=p++[u,t]→0<tn u t x):Cvx (l++[x]):=by
 intro p a b c q e;rcases List.eq_nil_or_concat q with rfl | ⟨q',z,rfl⟩
 ·have e':l++[x]=(p++[a,b])++[c]:=by rw[e];simp
  obtain⟨h1,h2⟩:=List.append_inj' e' rfl;simp only[List.cons.injEq,and_true]at h2;subst h2;exact hx p a b h1
 ·have e':l++[x]=(p++a::b::c::q')++[z]:=by rw[e];simp
  obtain⟨h1,_⟩:=List.append_inj' e' rfl;exact h p a b c q' h1
theorem Lft.snoc {l:List Pt}{x y:Pt}(h:Lft l y)(hx:∀p t,l=p++[t]→0≤tn t x y):Lft (l++[x]) y:=by
 intro p a b q e;rcases List.eq_nil_or_concat q with rfl | ⟨q',z,rfl⟩
 ·have e':l++[x]=(p++[a])++[b]:=by rw[e];simp
  obtain⟨h1,h2⟩:=List.append_inj' e' rfl;simp only[List.cons.injEq,and_true]at h2;subst h2;exact hx p a h1
 ·have e':l++[x]=(p++a::b::q')++[z]:=by rw[e];simp
  obtain⟨h1,_⟩:=List.append_inj' e' rfl;exact h p a b q' h1
theorem Asc.snoc {l:List Pt}{x:Pt}(h:Asc l)(hx:∀y∈l,lx y x):Asc (l++[x]) :=
 List.pairwise_append.2 ⟨h,by simp,fun y hy z hz=>by simp only[List.mem_singleton]at hz;subst hz;exact hx y hy⟩
theorem Inv.push {S:List Pt}{Y:Pt→Prop}{x:Pt}(h:Inv S Y)(hx:∀y,Y y→lx y x):Inv (push S x) (fun y=>Y y∨y=x):=by
 obtain⟨p,hp⟩:=pops_suffix x S;obtain⟨t,r,h1,h2,h3⟩:=pops_spec hx S h.ne h.asc h.sub h.lft (fun t r e y hy hty=>by
  rcases h.top t r e y hy with rfl | h'
  ·exact(lx_irr hty).elim
  ·exact(lx_asym hty h').elim)
 have hT:S=p++t::r:=by rw[←h1];exact hp
 have er:S.reverse=(t::r).reverse++p.reverse:=by rw[hT];simp
 have asc:Asc (t::r).reverse:=by have:=h.asc;rw[er]at this;exact(List.pairwise_append.1 this).1
 have cvx:Cvx (t::r).reverse:=by have:=h.cvx;rw[er]at this;exact this.front
 have lft:∀y,Y y→Lft (t::r).reverse y:=fun y hy=>by have:=h.lft y hy;rw[er]at this;exact this.front
 have sub:∀y∈t::r,Y y:=fun y hy=>h.sub y (by rw[hT];exact List.mem_append_right _ hy)
 have hpush:Hull.push S x=x::t::r:=by unfold Hull.push;rw[h1]
 have erx:(x::t::r).reverse=(t::r).reverse++[x]:=by simp
 have ascx:Asc (x::t::r).reverse:=by
  rw[erx];exact asc.snoc fun y hy=>hx y (sub y (List.mem_reverse.1 hy))
 have cvxx:Cvx (x::t::r).reverse:=by
  rw[erx];refine cvx.snoc fun p' u t' e=>?_;have e2:t::r=t'::u::p'.reverse:=by
   have:=congrArg List.reverse e;simpa using this
  simp only[List.cons.injEq]at e2;obtain⟨rfl,h4⟩:=e2;exact h3 u _ h4
 have tri:=tri_of _ ascx cvxx;have hlast:∀b q,t::r=q++[b]→∀y,Y y→y=b∨lx b y:=fun b q e=>h.bot b (p++q) (by rw[hT,e];simp)
 refine⟨by rw[hpush];simp,by rw[hpush];exact ascx,by rw[hpush];exact cvxx,fun y hy=>?_,fun t' r' e y hy=>?_,fun b q e y hy=>?_,fun y hy=>?_⟩
 ·rw[hpush];rcases hy with hy | rfl
  ·rw[erx];refine(lft y hy).snoc fun p' t' e=>?_;have e2:t::r=t'::p'.reverse:=by
    have:=congrArg List.reverse e;simpa using this
   simp only[List.cons.injEq]at e2;obtain⟨rfl,h4⟩:=e2;rcases lx_tri t y with hty | rfl | hyt
   ·exact h2 y hy hty
   ·simp
   ·cases r with
    | nil =>
     rcases hlast t [] rfl y hy with rfl | h5
     ·exact(lx_irr hyt).elim
     ·exact(lx_asym hyt h5).elim
    | cons u r' =>
     have k1:=h3 u r' rfl;have k2:0≤tn u t y:=lft y hy r'.reverse u t [] (by simp)
     have hut:lx u t:=asc |> fun a=>by
      have e:(t::u::r').reverse=r'.reverse++[u,t]:=by simp
      rw[e]at a;have:=(List.pairwise_append.1 a).2.1;exact(List.pairwise_cons.1 this).1 t (by simp)
     have htx:lx t x:=hx t (sub t (by simp))
     have q1:0≤(t.1-y.1)*(t.2-u.2)-(t.2-y.2)*(t.1-u.1):=by
      have:(t.1-y.1)*(t.2-u.2)-(t.2-y.2)*(t.1-u.1)=tn u t y:=by unfold tn;grind
      omega
     have q2:0≤(t.1-u.1)*(x.2-t.2)-(t.2-u.2)*(x.1-t.1):=by rw[tn_e]at k1;omega
     have q3:=tr0 (lx_pos hyt) (lx_pos hut) (lx_pos htx) q1 q2;have:(t.1-y.1)*(x.2-t.2)-(t.2-y.2)*(x.1-t.1)=tn t x y:=by unfold tn;grind
     omega
  ·exact tri.lft (by simp)
 ·rw[hpush]at e;simp only[List.cons.injEq]at e;obtain⟨rfl,_⟩:=e;rcases hy with hy | rfl
  ·exact .inr (hx y hy)
  ·exact .inl rfl
 ·rw[hpush]at e;cases q with
  | nil=>simp at e
  | cons x' q =>
   simp only[List.cons_append,List.cons.injEq]at e;obtain⟨rfl,e⟩:=e;rcases hy with hy | rfl
   ·exact hlast b q e y hy
   ·right;have:b∈t::r:=by rw[e];simp
    exact hx b (sub b this)
 ·rw[hpush]at hy;rcases List.mem_cons.1 hy with rfl | hy
  ·exact .inr rfl
  ·exact .inl (sub y hy)
theorem Inv.one (x:Pt):Inv [x] (fun y=>y=x):=by
 refine⟨by simp,by simp[Asc],fun p a b c q e=>?_,fun y _ p a b q e=>?_,fun t r e y hy=>?_,fun t r e y hy=>?_,fun y hy=>by simpa using hy⟩
 ·have:=congrArg List.length e;simp at this;omega
 ·have:=congrArg List.length e;simp at this;omega
 ·simp only[List.cons.injEq]at e;exact .inl (hy.trans e.1)
 ·left;have h2:=congrArg List.getLast? e;simp at h2;exact hy.trans h2
theorem Inv.fold {Y:Pt→Prop}:(l:List Pt)→{S:List Pt}→Inv S Y→(∀y,Y y→∀x∈l,lx y x)→Asc l→Inv (l.foldl Hull.push S) (fun y=>Y y∨y∈l)
 | [],S,h,_,_=>by simpa using h
 | x::l,S,h,hx,ha=>by
  have h1:=h.push (x:=x) fun y hy=>hx y hy x (by simp)
  have h2:=Inv.fold l h1 (fun y hy z hz=>by
   rcases hy with hy | rfl
   ·exact hx y hy z (List.mem_cons_of_mem _ hz)
   ·exact ha.mem_lt hz) ha.tail
  have e:(fun y=>(Y y∨y=x)∨y∈l)=fun y=>Y y∨y∈x::l:=by
   funext y;simp[or_assoc]
  rw[e]at h2;exact h2
theorem chain_inv {x:Pt}{l:List Pt}(h:Asc (x::l)):Inv (chain (x::l)) (·∈x::l):=by
 have h1:=Inv.fold l (Inv.one x) (fun y hy z hz=>by subst hy;exact h.mem_lt hz) h.tail
 have e:(fun y=>y=x∨y∈l)=(·∈x::l):=by funext y;simp
 rw[e]at h1;exact h1
def ng (p:Pt):Pt:=(-p.1,-p.2)
@[simp] theorem ng_ng (p:Pt):ng (ng p)=p:=by simp[ng]
@[simp] theorem tn_ng (a b c:Pt):tn (ng a) (ng b) (ng c)=tn a b c:=by simp only[tn,ng];grind
@[simp] theorem lx_ng (a b:Pt):lx (ng a) (ng b)↔lx b a:=by simp only[lx,ng];omega
theorem ng_inj {a b:Pt}(h:ng a=ng b):a=b:=by rw[←ng_ng a,h,ng_ng]
@[simp] theorem map_ng_ng (l:List Pt):(l.map ng).map ng=l:=by
 rw[List.map_map,show ng∘ng=id from funext fun p=>by simp[Function.comp]];simp
theorem pops_ng (x:Pt):(s:List Pt)→pops (ng x) (s.map ng)=(pops x s).map ng
 | []=>rfl
 | [t]=>rfl
 | t::u::r=>by
  simp only[List.map_cons,pops,tn_ng];split
  ·exact pops_ng x (u::r)
  ·rfl
theorem chain_ng (l:List Pt):chain (l.map ng)=(chain l).map ng:=by
 have:∀(l s:List Pt),(l.map ng).foldl push (s.map ng)=(l.foldl push s).map ng:=by
  intro l;induction l with
  | nil=>intro s;rfl
  | cons x l ih =>
   intro s;simp only[List.map_cons,List.foldl_cons];rw[←ih];congr 1
   unfold push;rw[pops_ng];rfl
 exact this l []
theorem Cvx.ng {l:List Pt}(h:Cvx l):Cvx (l.map ng):=by
 intro p a b c q e;obtain⟨p',t,rfl,rfl,e2⟩:=List.map_eq_append_iff.1 e;obtain⟨a',t',rfl,rfl,e3⟩:=List.map_eq_cons_iff.1 e2;obtain⟨b',t2,rfl,rfl,e4⟩:=List.map_eq_cons_iff.1 e3;obtain⟨c',t3,rfl,rfl,_⟩:=List.map_eq_cons_iff.1 e4;rw[tn_ng];exact h p' a' b' c' t3 rfl
theorem Lft.ng {l:List Pt}{y:Pt}(h:Lft l y):Lft (l.map ng) (ng y):=by
 intro p a b q e;obtain⟨p',t,rfl,rfl,e2⟩:=List.map_eq_append_iff.1 e;obtain⟨a',t',rfl,rfl,e3⟩:=List.map_eq_cons_iff.1 e2;obtain⟨b',t2,rfl,rfl,e4⟩:=List.map_eq_cons_iff.1 e3;rw[tn_ng];exact h p' a' b' t2 rfl
def Dsc (l:List Pt):Prop:=l.Pairwise fun a b=>lx b a
theorem asc_ng {l:List Pt}:Asc (l.map ng)↔Dsc l:=by
 unfold Asc Dsc;rw[List.pairwise_map];simp only[lx_ng]
theorem dsc_ng {l:List Pt}:Dsc (l.map ng)↔Asc l:=by
 unfold Asc Dsc;rw[List.pairwise_map];simp only[lx_ng]
theorem dsc_rev {l:List Pt}:Dsc l.reverse↔Asc l:=by unfold Asc Dsc;rw[List.pairwise_reverse]
theorem over_lft {L:List Pt}{a z y:Pt}(hA:Asc L)(hC:Cvx L)(ha:a∈L)(hz:z∈L)(hay:lx a y)(hyz:lx y z)(h:0≤tn a z y):Lft L y:=by
 have tri:=tri_of L hA hC;intro p c d q e;have fa:=tri.lft ha p c d q e;have fz:=tri.lft hz p c d q e;have hcd:lx c d:=by
  rw[e]at hA;exact(List.pairwise_cons.1 (List.pairwise_append.1 hA).2.1).1 d (by simp)
 by_cases hc:0≤(d.1-c.1)*(y.2-a.2)-(d.2-c.2)*(y.1-a.1)
 ·have:tn c d y=tn c d a+((d.1-c.1)*(y.2-a.2)-(d.2-c.2)*(y.1-a.1)):=by unfold tn;grind
  omega
 ·have h1:0≤(z.1-y.1)*(y.2-a.2)-(z.2-y.2)*(y.1-a.1):=by
   have:(z.1-y.1)*(y.2-a.2)-(z.2-y.2)*(y.1-a.1)=tn a z y:=by unfold tn;grind
   omega
  have h2:0<(y.1-a.1)*(d.2-c.2)-(y.2-a.2)*(d.1-c.1):=by
   have:(y.1-a.1)*(d.2-c.2)-(y.2-a.2)*(d.1-c.1)=- ((d.1-c.1)*(y.2-a.2)-(d.2-c.2)*(y.1-a.1)):=by grind
   omega
  have h3:=tr2 (lx_pos hyz) (lx_pos hay) (lx_pos hcd) h1 h2;have:tn c d y=tn c d z+((z.1-y.1)*(d.2-c.2)-(z.2-y.2)*(d.1-c.1)):=by unfold tn;grind
  omega
theorem lower_eq {s L:List Pt} {a z:Pt} (hs:Asc s) (hL:Asc L) (cL:Cvx L) (hh:L.head? = some a) (hl:L.getLast? = some z) (hsub:∀ y∈L,y∈s)
  (hover:∀y∈s,y∉L→lx a y∧lx y z∧0≤tn a z y):(chain s).reverse=L:=by
 have ha:a∈L:=List.mem_of_head? hh;have hz:z∈L:=List.mem_of_getLast? hl;cases s with
 | nil=>exact absurd (hsub a ha) (by simp)
 | cons x r =>
  have inv:=chain_inv hs;have tri:=tri_of L hL cL;have lftL:∀y∈x::r,Lft L y:=fun y hy=>by
   by_cases hyL:y∈L
   ·exact tri.lft hyL
   ·obtain⟨h1,h2,h3⟩:=hover y hy hyL;exact over_lft hL cL ha hz h1 h2 h3
  have amin:∀y∈x::r,y=a∨lx a y:=fun y hy=>by
   by_cases hyL:y∈L
   ·cases L with
    | nil=>simp at hh
    | cons b L =>
     simp only[List.head?_cons,Option.some.injEq]at hh;subst hh;rcases List.mem_cons.1 hyL with rfl | h
     ·exact .inl rfl
     ·exact .inr (hL.mem_lt h)
   ·exact .inr (hover y hy hyL).1
  have zmax:∀y∈x::r,y=z∨lx y z:=fun y hy=>by
   by_cases hyL:y∈L
   ·rcases List.eq_nil_or_concat L with rfl | ⟨L',w,rfl⟩
    ·simp at hl
    ·rw[List.concat_eq_append]at hl hyL hL;simp at hl;subst hl;rcases List.mem_append.1 hyL with h | h
     ·exact .inr ((List.pairwise_append.1 hL).2.2 y h w (by simp))
     ·exact .inl (by simpa using h)
   ·exact .inr (hover y hy hyL).2.1
  refine uniq _ L inv.asc hL inv.cvx cL ?_ ?_ (fun y hy=>inv.lft y (hsub y hy)) (fun y hy=>lftL y (inv.sub y (List.mem_reverse.1 hy)))
  ·rw[hh];rcases List.eq_nil_or_concat (chain (x::r))with h0 | ⟨q,t,h0⟩
   ·exact absurd h0 inv.ne
   ·rw[h0];simp only[List.concat_eq_append,List.reverse_append,List.reverse_cons,List.reverse_nil,List.nil_append,List.singleton_append,List.head?_cons,Option.some.injEq];rw[List.concat_eq_append]at h0;rcases inv.bot t q h0 a (hsub a ha)with h | h
    ·exact h.symm
    ·rcases amin t (inv.sub t (by rw[h0];simp))with h' | h'
     ·exact h'
     ·exact(lx_asym h h').elim
  ·rw[hl];cases h0:chain (x::r)with
   | nil=>exact absurd h0 inv.ne
   | cons t q =>
    simp only[List.reverse_cons,List.getLast?_append,List.getLast?_singleton,Option.some_or,Option.some.injEq];rcases inv.top t q h0 z (hsub z hz)with h | h
    ·exact h.symm
    ·rcases zmax t (inv.sub t (by rw[h0];simp))with h' | h'
     ·exact h'
     ·exact(lx_asym h h').elim
def hull (s:List Pt):List Pt:=(chain s).reverse.dropLast++(chain s.reverse).reverse.dropLast
structure Pol (p:List Pt):Prop where
 len:3≤p.length
 cyc:∀a b r,p=a::b::r→Cvx (a::b::r++[a,b])
 min:∀a r,p=a::r→∀y∈r,lx a y
 star:∀a r q x y t,p=a::r→r=q++x::y::t→0<tn a x y
theorem dsc_of {a:Pt}:(x y:Pt)→(t:List Pt)→(∀w∈x::y::t,lx a w)→(∀q u v r,x::y::t=q++u::v::r→0<tn a u v)→Cvx (x::y::t)→lx y x→Dsc (x::y::t)
 | x,y,[],_,_,_,h=>by simp[Dsc,h]
 | x,y,w::t,ha,hs,hc,h=>by
  have h1:=hs [] x y (w::t) rfl;have h2:=hs [x] y w t rfl;have h3:=hc [] x y w t rfl;have hwy:lx w y:=by
   rcases lx_tri y w with hyw | rfl | h
   ·exfalso;have k1:0<(w.1-y.1)*(x.2-y.2)-(w.2-y.2)*(x.1-y.1):=by
     have:(w.1-y.1)*(x.2-y.2)-(w.2-y.2)*(x.1-y.1)=tn x y w:=by unfold tn;grind
     omega
    have k2:0<(x.1-y.1)*(y.2-a.2)-(x.2-y.2)*(y.1-a.1):=by
     have:(x.1-y.1)*(y.2-a.2)-(x.2-y.2)*(y.1-a.1)=tn a x y:=by unfold tn;grind
     omega
    have k3:=tr1 (lx_pos hyw) (lx_pos h) (lx_pos (ha y (by simp))) k1 (Int.le_of_lt k2)
    have:(w.1-y.1)*(y.2-a.2)-(w.2-y.2)*(y.1-a.1)=- tn a y w:=by unfold tn;grind
    omega
   ·simp at h3
   ·exact h
  have ih:=dsc_of y w t (fun u hu=>ha u (List.mem_cons_of_mem _ hu)) (fun q u v r e=>hs (x::q) u v r (by rw[e];rfl)) hc.tail hwy
  refine List.pairwise_cons.2 ⟨fun u hu=>?_,ih⟩;rcases List.mem_cons.1 hu with rfl | hu
  ·exact h
  ·exact lx_trans ((List.pairwise_cons.1 ih).1 u hu) h
theorem split_of {a:Pt}:(x:Pt)→(t:List Pt)→(∀ w∈x :: t,lx a w)→(∀ q u v r,x :: t = q ++ u :: v :: r→0 < tn a u v)→Cvx (x :: t) →
  ∃l z u,x::t=l++z::u∧Asc (l++[z])∧Dsc (z::u)
 | x,[],_,_,_=>⟨[],x,[],rfl,by simp[Asc],by simp[Dsc]⟩
 | x,y::t,ha,hs,hc=>by
  have h1:=hs [] x y t rfl;rcases lx_tri x y with h | rfl | h
  ·obtain⟨l,z,u,e,h2,h3⟩:=split_of y t (fun u hu=>ha u (List.mem_cons_of_mem _ hu)) (fun q u v r e=>hs (x::q) u v r (by rw[e];rfl)) hc.tail
   refine⟨x::l,z,u,by rw[e];rfl,List.pairwise_cons.2 ⟨fun w hw=>?_,h2⟩,h3⟩
   have hw:w∈l++[z]:=hw;cases l with
   | nil =>
    simp only[List.nil_append,List.cons.injEq]at e;simp only[List.nil_append,List.mem_singleton]at hw;rw[hw,←e.1];exact h
   | cons b l =>
    simp only[List.cons_append,List.cons.injEq]at e;obtain⟨rfl,e⟩:=e;rcases List.mem_cons.1 hw with rfl | hw
    ·exact h
    ·exact lx_trans h ((List.pairwise_cons.1 h2).1 w hw)
  ·simp at h1
  ·exact⟨[],x,y::t,rfl,by simp[Asc],dsc_of x y t ha hs hc h⟩
theorem hull_pol {p s:List Pt}(h:Pol p)(hs:Asc s)(hm:∀y,y∈s↔y∈p):hull s=p:=by
 match p,h with
 | [],h=>exact absurd h.len (by simp)
 | [_],h=>exact absurd h.len (by simp)
 | a::b::r,h =>
  have hC:Cvx (a::b::r++[a,b]):=h.cyc a b r rfl;have hmin:=h.min a (b::r) rfl;obtain⟨l,z,u,e,h1,h2⟩:=split_of b r hmin (fun q x y t e=>h.star a _ q x y t rfl e) (by
   have:Cvx (a::b::r):=hC.front;exact this.tail)
  have eL:a::b::r=(a::l++[z])++u:=by rw[e];simp
  have hL:Asc (a::l++[z]):=List.pairwise_cons.2 ⟨fun w hw=>hmin w (by
   rw[e];have hw:w∈l++[z]:=hw;rcases List.mem_append.1 hw with hw | hw
   ·exact List.mem_append_left _ hw
   ·exact List.mem_append_right _ (by simp only[List.mem_singleton]at hw;simp[hw])),h1⟩
  have cL:Cvx (a::l++[z]):=by
   have:Cvx (a::b::r):=hC.front;rw[eL]at this;exact this.front
  have hU:Dsc (z::u++[a]):=by
   refine List.pairwise_append.2 ⟨h2,by simp,fun w hw y hy=>?_⟩
   simp only[List.mem_singleton]at hy;subst hy;exact hmin w (by rw[e];exact List.mem_append_right _ hw)
  have cU:Cvx (z::u++[a]):=by
   intro p x y w q e2;refine hC (a::l++p) x y w (q++[b]) ?_;have:a::b::r++[a,b]=(a::l)++(z::u++[a])++[b]:=by rw[e];simp
   rw[this,e2];simp
  have haz:lx a z:=hmin z (by rw[e];simp)
  have memp:∀y,y∈a::b::r↔y∈a::l∨y∈z::u:=fun y=>by rw[e];simp[or_assoc]
  have triU:Tri ((z::u++[a]).map ng):=tri_of _ (asc_ng.2 hU) cU.ng;have triL:Tri (a::l++[z]):=tri_of _ hL cL;have zu:∀y∈u,lx y z:=fun y hy=>(List.pairwise_cons.1 h2).1 y hy;have lz:∀y∈a::l,lx y z:=fun y hy=>(List.pairwise_append.1 hL).2.2 y hy z (by simp)
  have up:∀y∈u,0<tn a z y:=fun y hy=>by
   have:=triU (ng z) (ng y) (ng a) (by
    have e3:(z::u++[a]).map ng=ng z::(u.map ng++[ng a]):=by simp
    rw[e3];exact(List.Sublist.append (l₁:=[ng y]) (List.singleton_sublist.2 (List.mem_map_of_mem hy)) (List.Sublist.refl [ng a])).cons_cons _)
   rw[tn_ng]at this;have e4:tn a z y=tn z y a:=(tn_cyc a z y).symm;omega
  have lp:∀y∈l,0<tn z a y:=fun y hy=>by
   have:=triL a y z (by
    exact(List.Sublist.append (l₁:=[y]) (List.singleton_sublist.2 hy) (List.Sublist.refl [z])).cons_cons _)
   have e4:tn z a y=tn a y z:=(tn_cyc z a y).symm;omega
  have low:(chain s).reverse=a::l++[z]:=by
   refine lower_eq (a:=a) (z:=z) hs hL cL rfl (List.getLast?_concat ..) (fun y hy=>?_) fun y hy hn=>?_
   ·rw[hm,memp];rcases List.mem_append.1 hy with h | h
    ·exact .inl h
    ·right;simp only[List.mem_singleton]at h;simp[h]
   ·rw[hm,memp]at hy;rcases hy with hy | hy
    ·exact absurd (List.mem_append_left _ hy) hn
    ·rcases List.mem_cons.1 hy with rfl | hy
     ·exact absurd (by simp) hn
     ·exact⟨hmin y (by rw[e];simp[hy]),zu y hy,Int.le_of_lt (up y hy)⟩
  have high:(chain s.reverse).reverse=z::u++[a]:=by
   have h5:(chain (s.reverse.map ng)).reverse=(z::u++[a]).map ng:=by
    refine lower_eq (a:=ng z) (z:=ng a) (asc_ng.2 (dsc_rev.2 hs)) (asc_ng.2 hU) cU.ng (by simp) (by rw[List.map_append];exact List.getLast?_concat ..) (fun y hy=>?_) fun y hy hn=>?_
    ·obtain⟨y,hy',rfl⟩:=List.mem_map.1 hy;clear hy;have hy:y∈z::u++[a]:=hy';refine List.mem_map_of_mem (List.mem_reverse.2 ?_);rw[hm,memp];rcases List.mem_append.1 hy with h | h
     ·exact .inr h
     ·left;simp only[List.mem_singleton]at h;simp[h]
    ·obtain⟨y,hy',rfl⟩:=List.mem_map.1 hy;have hn:y∉z::u++[a]:=fun h=>hn (List.mem_map_of_mem h);have hy:=(hm y).1 (List.mem_reverse.1 hy');rw[memp]at hy;rcases hy with hy | hy
     ·rcases List.mem_cons.1 hy with rfl | hy
      ·exact absurd (by simp) hn
      ·exact⟨(lx_ng z y).2 (lz y (by simp[hy])),(lx_ng y a).2 (hL.mem_lt (by simp[hy])),by rw[tn_ng];exact Int.le_of_lt (lp y hy)⟩
     ·exact absurd (List.mem_append_left _ hy) hn
   rw[chain_ng,←List.map_reverse]at h5;have:=congrArg (List.map ng) h5
   rwa [map_ng_ng,map_ng_ng]at this
  unfold hull;rw[low,high,List.dropLast_concat,List.dropLast_concat,e];rfl
theorem Cvx.join {l u:List Pt}{z:Pt}(h1:Cvx (l++[z]))(h2:Cvx (z::u))(hj:∀p x y q,l=p++[x]→u=y::q→0<tn x z y):Cvx (l++z::u):=by
 intro p a b c q e;rcases List.append_eq_append_iff.1 e with⟨t,e1,e2⟩ | ⟨t,e1,e2⟩
 ·
  subst e1;exact h2 t a b c q e2
 ·
  subst e1;match t,e2 with
  | [],e2 =>
   simp only[List.nil_append]at e2;exact h2 [] a b c q e2.symm
  | [x],e2 =>
   simp only[List.cons_append,List.nil_append,List.cons.injEq]at e2;obtain⟨e7,e8,e9⟩:=e2;subst e7;subst e8;exact hj p a c q rfl e9.symm
  | [x,y],e2 =>
   simp only[List.cons_append,List.nil_append,List.cons.injEq]at e2;obtain⟨e6,e7,e8,e9⟩:=e2;subst e6;subst e7;subst e8;exact h1 p a b c [] (by simp)
  | x::y::w::t,e2 =>
   simp only[List.cons_append,List.cons.injEq]at e2;obtain⟨e6,e7,e8,e9⟩:=e2;subst e6;subst e7;subst e8;exact h1 p a b c (t++[z]) (by simp)
structure Low (s L:List Pt) (a z:Pt):Prop where
 head:L.head? = some a
 last:L.getLast? = some z
 asc:Asc L
 cvx:Cvx L
 lft:∀y∈s,Lft L y
 sub:∀y∈L,y∈s
 amin:∀y∈s,y=a∨lx a y
 zmax:∀y∈s,y=z∨lx y z
theorem low_of {s:List Pt}(hs:Asc s)(hne:s≠[]):∃a z,Low s (chain s).reverse a z:=by
 cases s with
 | nil=>exact absurd rfl hne
 | cons x r =>
  have inv:=chain_inv hs;cases h0:chain (x::r)with
  | nil=>exact absurd h0 inv.ne
  | cons z q =>
   rcases List.eq_nil_or_concat (z::q)with h1 | ⟨q',a,h1⟩
   ·simp at h1
   ·rw[List.concat_eq_append]at h1;refine⟨a,z,?_,?_,?_,?_,fun y hy=>?_,fun y hy=>?_,?_,inv.top z q h0⟩
    ·rw[h1];simp
    ·simp
    ·rw[←h0];exact inv.asc
    ·rw[←h0];exact inv.cvx
    ·rw[←h0];exact inv.lft y hy
    ·rw[←h0]at hy;exact inv.sub y (List.mem_reverse.1 hy)
    ·exact inv.bot a q' (by rw[h0,h1])
theorem shape {L:List Pt}{a z:Pt}(h1:L.head? = some a)(h2:L.getLast? = some z)(hne:a≠z):∃l,L=a::l++[z]:=by
 cases L with
 | nil=>simp at h1
 | cons b r =>
  simp only[List.head?_cons,Option.some.injEq]at h1;subst h1;rcases List.eq_nil_or_concat r with rfl | ⟨l,w,rfl⟩
  ·simp at h2;exact absurd h2 hne
  ·rw[List.concat_eq_append]at h2 ⊢;rw[List.getLast?_cons,List.getLast?_concat]at h2;simp at h2;subst h2;exact⟨l,rfl⟩
theorem meet {s:List Pt} {x y z:Pt} (hxz:lx x z) (hyz:lx y z) (hz:∀ w∈s,w = z∨lx w z) (h1:∀ w∈s,0≤tn x z w) (h2:∀ w∈s,0≤tn z y w) (hy:y∈s) :
  0<tn x z y∨∀w∈s,tn x z w=0∧tn z y w=0:=by
 rcases Int.lt_or_eq_of_le (h1 y hy)with h | h
 ·exact .inl h
 ·right;intro w hw;rcases hz w hw with rfl | hwz
  ·simp only[tn_bb];refine⟨trivial,?_⟩;unfold tn;grind
  ·have a1:=h1 w hw;have a2:=h2 w hw;have e1:tn x z w=- ((z.1-x.1)*(z.2-w.2)-(z.2-x.2)*(z.1-w.1)):=by unfold tn;grind
   have e2:tn z y w=(z.1-y.1)*(z.2-w.2)-(z.2-y.2)*(z.1-w.1):=by unfold tn;grind
   have e3:tn x z y=- ((z.1-x.1)*(z.2-y.2)-(z.2-x.2)*(z.1-y.1)):=by unfold tn;grind
   have p1:=lx_pos hxz;have p2:=lx_pos hyz;have p3:=lx_pos hwz;have c2:tn z y w=0:=by
    rcases Int.lt_or_eq_of_le a2 with h' | h'
    ·exfalso;rw[e2]at h';have:=tr2 p1 p2 p3 (by omega) h'
     omega
    ·exact h'.symm
   refine⟨?_,c2⟩;rcases Int.lt_or_eq_of_le a1 with h' | h'
   ·exfalso;have q1:0<(z.1-w.1)*(z.2-x.2)-(z.2-w.2)*(z.1-x.1):=by
     have:(z.1-w.1)*(z.2-x.2)-(z.2-w.2)*(z.1-x.1)=tn x z w:=by unfold tn;grind
     omega
    have:=tr1 p3 p1 p2 q1 (by omega)
    have e4:(z.1-w.1)*(z.2-y.2)-(z.2-w.2)*(z.1-y.1)=- tn z y w:=by unfold tn;grind
    omega
   ·exact h'.symm
theorem meet_pos {s l u:List Pt} {a z:Pt} (lo:Low s (a :: l ++ [z]) a z) (hU:Dsc (z :: u ++ [a])) (cU:Cvx (z :: u ++ [a])) (lU:∀ w∈s,Lft (z :: u ++ [a]) w) (sU:∀ y∈u,y∈s) (hne:l≠[]∨u≠[])
  {p q:List Pt} {x y:Pt} (e1:a::l=p++[x]) (e2:u++[a]=y::q):0<tn x z y:=by
 have eL:a::l++[z]=p++[x,z]:=by
  have:a::l++[z]=(a::l)++[z]:=rfl;rw[this,e1];simp
 have eU:z::u++[a]=z::y::q:=by rw[List.cons_append,e2]
 have hxs:x∈s:=lo.sub x (by rw[eL];simp)
 have hys:y∈s:=by
  have:y∈u++[a]:=by rw[e2];simp
  rcases List.mem_append.1 this with h | h
  ·exact sU y h
  ·simp only[List.mem_singleton]at h;subst h;exact lo.sub y (by simp)
 have hxz:lx x z:=by
  have:=lo.asc;rw[eL]at this;exact(List.pairwise_cons.1 (List.pairwise_append.1 this).2.1).1 z (by simp)
 have hyz:lx y z:=by
  rw[eU]at hU;exact(List.pairwise_cons.1 hU).1 y (by simp)
 rcases meet hxz hyz lo.zmax (fun w hw=>lo.lft w hw p x z [] eL) (fun w hw=>lU w hw [] z y q eU) hys with h | h
 ·exact h
 ·exfalso;rcases hne with hl | hu
  ·
   rcases List.eq_nil_or_concat p with rfl | ⟨p',x',rfl⟩
   ·simp only[List.nil_append,List.cons.injEq]at e1;exact hl e1.2
   ·rw[List.concat_eq_append]at eL;have t:=lo.cvx p' x' x z [] (by rw[eL];simp)
    have:=(h x' (lo.sub x' (by rw[eL];simp))).1
    rw[tn_cyc]at this;omega
  ·cases u with
   | nil=>exact hu rfl
   | cons y' u =>
    simp only[List.cons_append,List.cons.injEq]at e2;obtain⟨rfl,rfl⟩:=e2;cases h3:u++[a]with
    | nil=>simp at h3
    | cons w q =>
     have t:=cU [] z y' w q (by simp[h3])
     have hw:w∈s:=by
      have:w∈u++[a]:=by rw[h3];simp
      rcases List.mem_append.1 this with h | h
      ·exact sU w (by simp[h])
      ·simp only[List.mem_singleton]at h;subst h;exact lo.sub w (by simp)
     have:=(h w hw).2;omega
theorem Low.ng_mem {s:List Pt}{y:Pt}(h:y∈s.reverse.map ng):ng y∈s:=by
 obtain⟨x,hx,rfl⟩:=List.mem_map.1 h;rw[ng_ng];exact List.mem_reverse.1 hx
theorem pol_hull {s:List Pt}(hs:Asc s)(h3:3≤(hull s).length):Pol (hull s):=by
 have hne:s≠[]:=by rintro rfl;simp[hull,chain]at h3
 obtain⟨a,z,lo⟩:=low_of hs hne;obtain⟨z',a',hi⟩:=low_of (s:=s.reverse.map ng) (asc_ng.2 (dsc_rev.2 hs)) (by simpa using hne)
 have mem_ng:∀y,y∈s→ng y∈s.reverse.map ng:=fun y hy=>List.mem_map_of_mem (List.mem_reverse.2 hy);have has:a∈s:=lo.sub a (List.mem_of_head? lo.head);have hzs:z∈s:=lo.sub z (List.mem_of_getLast? lo.last);have ez:z'=ng z:=by
  have h1:=Low.ng_mem (hi.sub z' (List.mem_of_head? hi.head));rcases hi.amin (ng z) (mem_ng z hzs)with h | h
  ·exact h.symm
  ·rcases lo.zmax _ h1 with h' | h'
   ·rw[←h',ng_ng]
   ·rw[←lx_ng,ng_ng]at h';exact(lx_asym h h').elim
 have ea:a'=ng a:=by
  have h1:=Low.ng_mem (hi.sub a' (List.mem_of_getLast? hi.last));rcases hi.zmax (ng a) (mem_ng a has)with h | h
  ·exact h.symm
  ·rcases lo.amin _ h1 with h' | h'
   ·rw[←h',ng_ng]
   ·rw[←lx_ng,ng_ng]at h';exact(lx_asym h h').elim
 subst ez;subst ea;have eH:(chain s.reverse).reverse=((chain (s.reverse.map ng)).reverse).map ng:=by
  rw[chain_ng,←List.map_reverse,map_ng_ng]
 have haz:a≠z:=by
  rintro rfl
  have one:∀(L:List Pt) (b:Pt),Asc L→L.head? = some b→L.getLast? = some b→L.dropLast=[]:=by
   intro L b hA h1 h2;cases L with
   | nil=>rfl
   | cons c r =>
    simp only[List.head?_cons,Option.some.injEq]at h1;subst h1;cases r with
    | nil=>rfl
    | cons d r =>
     rw[List.getLast?_cons_cons]at h2;exact(lx_irr (hA.mem_lt (List.mem_of_getLast? h2))).elim
  have h1:=one _ _ lo.asc lo.head lo.last;have h2:=one _ _ hi.asc hi.head hi.last;unfold hull at h3;rw[eH,←List.map_dropLast,h1,h2]at h3;simp at h3
 obtain⟨l,el⟩:=shape lo.head lo.last haz;obtain⟨u',eu⟩:=shape hi.head hi.last (fun h=>haz (ng_inj h).symm);rw[el]at lo;rw[eu]at hi;let u:=u'.map ng
 have eu':u'=u.map ng:=(map_ng_ng u').symm;have eU:(chain s.reverse).reverse=z::u++[a]:=by rw[eH,eu];simp[u]
 have eUn:ng z::u'++[ng a]=(z::u++[a]).map ng:=by rw[eu'];simp only[List.map_append,List.map_cons,List.map_nil,List.cons_append]
 have ehull:hull s=a::l++z::u:=by
  unfold hull;rw[el,eU,List.dropLast_concat,List.dropLast_concat]
 have hU:Dsc (z::u++[a]):=by rw[←asc_ng,←eUn];exact hi.asc
 have cU:Cvx (z::u++[a]):=by
  have:=hi.cvx.ng;rw[eUn,map_ng_ng]at this;exact this
 have lU:∀w∈s,Lft (z::u++[a]) w:=fun w hw=>by
  have:=(hi.lft (ng w) (mem_ng w hw)).ng;rw[eUn,map_ng_ng,ng_ng]at this;exact this
 have sU:∀y∈u,y∈s:=fun y hy=>by
  have:=hi.sub (ng y) (by rw[eUn];exact List.mem_map_of_mem (by simp[hy]))
  have:=Low.ng_mem this
  rwa [ng_ng]at this
 have hlu:l≠[]∨u≠[]:=by
  rw[ehull]at h3;by_cases hl:l=[]
  ·right;rintro hu;rw[hl,hu]at h3;simp at h3
  ·exact .inl hl
 have jz:∀p x y q,a::l=p++[x]→u++[a]=y::q→0<tn x z y:=fun p x y q e1 e2=>meet_pos lo hU cU lU sU hlu e1 e2;have ja:∀p x y q,z::u=p++[x]→l++[z]=y::q→0<tn x a y:=fun p x y q e1 e2=>by
  have:=meet_pos (s:=s.reverse.map ng) (l:=u') (u:=l.map ng) (a:=ng z) (z:=ng a) hi
   (by have:ng a :: l.map ng ++ [ng z] = (a :: l ++ [z]).map ng:=by simp
       rw[this];exact dsc_ng.2 lo.asc)
   (by have:ng a :: l.map ng ++ [ng z] = (a :: l ++ [z]).map ng:=by simp
       rw[this];exact lo.cvx.ng)
   (fun w hw=>by
    have:ng a::l.map ng++[ng z]=(a::l++[z]).map ng:=by simp
    rw[this];have:=(lo.lft (ng w) (Low.ng_mem hw)).ng
    rwa [ng_ng]at this)
   (fun y hy=>by
    obtain⟨y,hy',rfl⟩:=List.mem_map.1 hy;exact mem_ng y (lo.sub y (by simp[hy'])))
   (by
    rcases hlu with h | h
    ·right;simpa using h
    ·left;rw[eu'];simpa using h)
   (p:=p.map ng) (q:=q.map ng) (x:=ng x) (y:=ng y)
   (by have:=congrArg (List.map ng) e1
       simp only[List.map_cons,List.map_append,List.map_nil]at this;rw[eu'];exact this)
   (by have:=congrArg (List.map ng) e2
       simp only[List.map_cons,List.map_append,List.map_nil]at this;exact this)
  rwa [tn_ng]at this
 have amin:∀y∈l++z::u,lx a y:=fun y hy=>by
  rcases List.mem_append.1 hy with h | h
  ·exact lo.asc.mem_lt (by simp[h])
  ·rcases List.mem_cons.1 h with rfl | h
   ·exact lo.asc.mem_lt (by simp)
   ·exact(List.pairwise_append.1 hU).2.2 y (by simp[h]) a (by simp)
 refine⟨h3,fun a0 b r e=>?_,fun a0 r e y hy=>?_,fun a0 r q x y t e e2=>?_⟩
 ·rw[ehull]at e;obtain⟨rfl,e8⟩:=List.cons.inj (show a::(l++z::u)=a0::b::r from e)
  clear e;have e:=e8;have hb:∃q,l++[z]=b::q:=by
   cases l with
   | nil =>
    simp only[List.nil_append,List.cons.injEq]at e;exact⟨[],by rw[←e.1];rfl⟩
   | cons c l =>
    simp only[List.cons_append,List.cons.injEq]at e;exact⟨l++[z],by rw[←e.1];rfl⟩
  obtain⟨q,hq⟩:=hb;have full:a::b::r++[a,b]=(a::l)++z::(u++a::[b]):=by rw[←e];simp
  rw[full];refine Cvx.join lo.cvx ?_ fun p x y q' e1 e2=>?_
  ·have:z::(u++a::[b])=(z::u)++a::[b]:=rfl;rw[this];refine Cvx.join cU (fun p x y w q' e3=>?_) fun p x y q' e1 e2=>?_
   ·have:=congrArg List.length e3;simp at this;omega
   ·simp only[List.cons.injEq]at e2;obtain⟨rfl,_⟩:=e2;exact ja p x b q e1 hq
  ·cases h5:u++[a]with
   | nil=>simp at h5
   | cons w t =>
    have:u++a::[b]=w::(t++[b]):=by
     have:u++a::[b]=(u++[a])++[b]:=by simp
     rw[this,h5];rfl
    rw[this]at e2;simp only[List.cons.injEq]at e2;obtain⟨rfl,_⟩:=e2;exact jz p x w t e1 h5
 ·rw[ehull]at e;obtain⟨rfl,rfl⟩:=List.cons.inj (show a::(l++z::u)=a0::r from e)
  exact amin y hy
 ·rw[ehull]at e;obtain⟨rfl,rfl⟩:=List.cons.inj (show a::(l++z::u)=a0::r from e)
  have triL:=tri_of _ lo.asc lo.cvx;have triU:=tri_of _ hi.asc hi.cvx;rcases List.append_eq_append_iff.1 e2 with⟨t',e3,e4⟩ | ⟨t',e3,e4⟩
  ·
   have:=triU (ng x) (ng y) (ng a) (by
    rw[eUn,e4];have:[ng x,ng y,ng a]=([x,y]++[a]).map ng:=rfl;rw[this];refine List.Sublist.map _ (List.Sublist.append ?_ (List.Sublist.refl _));exact((((List.nil_sublist t).cons_cons y).cons_cons x).trans (List.sublist_append_right t' _)))
   rw[tn_ng]at this;have e5:tn a x y=tn x y a:=(tn_cyc a x y).symm;omega
  ·match t',e4 with
   | [],e4 =>
    simp only[List.nil_append]at e4;have:=triU (ng x) (ng y) (ng a) (by
     rw[eUn,←e4];have:[ng x,ng y,ng a]=([x,y]++[a]).map ng:=rfl;rw[this];refine List.Sublist.map _ (List.Sublist.append (l₂:=x::y::t) ?_ (List.Sublist.refl _));exact((List.nil_sublist t).cons_cons y).cons_cons x)
    rw[tn_ng]at this;have e5:tn a x y=tn x y a:=(tn_cyc a x y).symm;omega
   | [w],e4 =>
    simp only[List.cons_append,List.nil_append,List.cons.injEq]at e4;obtain⟨e6,e7,_⟩:=e4;subst e6;subst e7;exact triL a x y (by
     rw[e3];have:a::(q++[x])++[y]=a::(q++[x,y]):=by simp
     rw[this];exact(List.sublist_append_right q _).cons_cons a)
   | w::v::t',e4 =>
    simp only[List.cons_append,List.cons.injEq]at e4;obtain⟨e6,e7,_⟩:=e4;subst e6;subst e7;exact triL a x y (by
     rw[e3];have:a::(q++x::y::t')++[z]=a::(q++x::y::(t'++[z])):=by simp
     rw[this];exact((((List.nil_sublist _).cons_cons y).cons_cons x).trans (List.sublist_append_right q _)).cons_cons a)
def ins (v:Pt):List Pt→List Pt
 | []=>[v]
 | x::r=>if lx v x then v::x::r else if v=x then x::r else x::ins v r
theorem mem_ins {v y:Pt}:{s:List Pt}→(y∈ins v s↔y=v∨y∈s)
 | []=>by simp[ins]
 | x::r=>by
  unfold ins;split
  ·simp
  ·split
   ·rename_i h;subst h;simp
   ·rw[List.mem_cons,mem_ins,List.mem_cons];constructor<;>(rintro(h | h | h)<;>simp[h])
theorem asc_ins {v:Pt}:{s:List Pt}→Asc s→Asc (ins v s)
 | [],_=>by simp[ins,Asc]
 | x::r,h=>by
  unfold ins;split
  ·rename_i hv;refine List.pairwise_cons.2 ⟨fun y hy=>?_,h⟩;rcases List.mem_cons.1 hy with rfl | hy
   ·exact hv
   ·exact lx_trans hv (h.mem_lt hy)
  ·split
   ·exact h
   ·rename_i h1 h2;refine List.pairwise_cons.2 ⟨fun y hy=>?_,asc_ins h.tail⟩;rcases mem_ins.1 hy with rfl | hy
    ·rcases lx_tri x y with h3 | h3 | h3
     ·exact h3
     ·exact absurd h3.symm h2
     ·exact absurd h3 h1
    ·exact h.mem_lt hy
theorem ins_at {v:Pt}:{l r:List Pt}→(∀y∈l,lx y v)→(∀y∈r,lx v y)→ins v (l++r)=l++v::r
 | [],[],_,_=>rfl
 | [],y::r,_,h=>by simp[ins,h y (by simp)]
 | x::l,r,hl,hr=>by
  have hx:=hl x (by simp)
  simp only[List.cons_append,ins];rw[if_neg (fun h=>lx_asym hx h),if_neg (fun h=>by subst h;exact lx_irr hx),ins_at (fun y hy=>hl y (List.mem_cons_of_mem _ hy)) hr]
theorem ins_mem {v:Pt}:{s:List Pt}→Asc s→v∈s→ins v s=s
 | x::r,h,hv=>by
  unfold ins;rcases List.mem_cons.1 hv with rfl | hv
  ·rw[if_neg (fun h=>lx_irr h),if_pos rfl]
  ·have:=h.mem_lt hv;rw[if_neg (fun h=>lx_asym this h),if_neg (fun h=>by subst h;exact lx_irr this),ins_mem h.tail hv]
def sorted (l:List Pt):List Pt:=l.foldl (fun s v=>ins v s) []
theorem sorted_spec (l:List Pt):Asc (sorted l)∧∀y,y∈sorted l↔y∈l:=by
 have:∀(l s:List Pt),Asc s→Asc (l.foldl (fun s v=>ins v s) s)∧∀y,y∈l.foldl (fun s v=>ins v s) s↔y∈s∨y∈l:=by
  intro l;induction l with
  | nil=>intro s h;exact⟨h,fun y=>by simp⟩
  | cons v l ih =>
   intro s h;obtain⟨h1,h2⟩:=ih (ins v s) (asc_ins h);refine⟨h1,fun y=>?_⟩;rw[List.foldl_cons,h2,mem_ins,List.mem_cons];constructor
   ·rintro((h | h) | h)<;>simp[h]
   ·rintro(h | h | h)<;>simp[h]
 obtain⟨h1,h2⟩:=this l [] (by simp[Asc])
 exact⟨h1,fun y=>by rw[sorted,h2];simp⟩
theorem pol_iff (p:List Pt):Pol p↔3≤p.length∧3≤(sorted p).length∧hull (sorted p)=p:=by
 obtain⟨h1,h2⟩:=sorted_spec p;constructor
 ·intro h;refine⟨h.len,?_,hull_pol h h1 h2⟩;match p,h,h1,h2 with
  | [],h,_,_=>exact absurd h.len (by simp)
  | [_],h,_,_=>exact absurd h.len (by simp)
  | [_,_],h,_,_=>exact absurd h.len (by simp)
  | a::b::c::r,h,h1,h2 =>
   have hab:=h.min a _ rfl b (by simp)
   have hac:=h.min a _ rfl c (by simp)
   have hbc:b≠c:=by
    rintro rfl
    have:=h.star a _ [] b b r rfl rfl;simp at this
   have ha:=(h2 a).2 (by simp)
   have hb:=(h2 b).2 (by simp)
   have hc:=(h2 c).2 (by simp)
   generalize sorted (a::b::c::r)=s at ha hb hc h1;have hne:∀{x y:Pt},lx x y→x≠y:=fun h e=>by subst e;exact lx_irr h
   match s,ha,hb,hc with
   | [],ha,_,_=>simp at ha
   | [x],ha,hb,_ =>
    simp only[List.mem_singleton]at ha hb;exact absurd (ha.trans hb.symm) (hne hab)
   | [x,y],ha,hb,hc =>
    simp only[List.mem_cons,List.not_mem_nil,or_false]at ha hb hc;rcases ha with rfl | rfl<;>rcases hb with rfl | rfl<;>rcases hc with rfl | rfl<;>first | exact absurd rfl (hne hab) | exact absurd rfl (hne hac) | exact absurd rfl hbc
   | x::y::z::t,_,_,_=>simp
 ·rintro⟨h3,_,h5⟩
  have:=pol_hull h1 (by rw[h5];exact h3)
  rwa [h5]at this
end Hull
end Go.Proofs.YtfknaeamhcpfgaaGreat
