/-
  Texts put together: PlWt, PlSf. No condition.
-/
import Derived.Test.YtfknaeamhcpfgaaGreatPlJ
namespace Go.Proofs.YtfknaeamhcpfgaaGreat
open Go Go.Proofs.YtfknaeamhcpfgaaGreat.Eng
set_option linter.all false
open Hull (Pt Pol tn lx pos at_ at_some at_of at_mem Asc Dsc Cvx Lft)
theorem star_next {P:List Pt}(h:Pol P){k:Nat}(h0:1≤k)(h1:k+1<P.length):0<tn (at_ P 0) (at_ P k) (at_ P (k+1)):=by
 have hc:=(Hull.pol_chk h.len).1 h k (by omega)
 unfold Hull.chk at hc;simp only[Bool.and_eq_true,Bool.or_eq_true,decide_eq_true_eq,beq_iff_eq]at hc;rcases hc.2 with h | ⟨_,h | h⟩
 ·omega
 ·omega
 ·exact h
theorem star_lx {P:List Pt}(h:Pol P){k:Nat}(h0:1≤k)(h1:k<P.length):lx (at_ P 0) (at_ P k):=by
 have hc:=(Hull.pol_chk h.len).1 h k h1;unfold Hull.chk at hc;simp only[Bool.and_eq_true,Bool.or_eq_true,decide_eq_true_eq,beq_iff_eq]at hc;rcases hc.2 with h | ⟨h,_⟩
 ·omega
 ·exact h
theorem star_far {P:List Pt}(h:Pol P){i:Nat}(h0:1≤i):∀(d:Nat),i+d+1<P.length→0<tn (at_ P 0) (at_ P i) (at_ P (i+d+1))
 | 0,hd=>star_next h h0 (by omega)
 | d+1,hd=>by
  have ih:=star_far h h0 d (by omega)
  have hn:=star_next h (k:=i+d+1) (by omega) (by omega)
  have p1:=Hull.lx_pos (star_lx h h0 (by omega))
  have p2:=Hull.lx_pos (star_lx h (k:=i+d+1) (by omega) (by omega))
  have p3:=Hull.lx_pos (star_lx h (k:=i+(d+1)+1) (by omega) (by omega))
  unfold tn at ih hn ⊢;exact Hull.tr1 p1 p2 p3 ih (Int.le_of_lt hn)
theorem pol_inj {P:List Pt}(h:Pol P){i j:Nat}(hi:i<P.length)(hj:j<P.length)(he:at_ P i=at_ P j):i=j:=by
 have key:∀{i j:Nat},i<j→j<P.length→at_ P i≠at_ P j:=fun{i j} hij hj he=>by
  rcases Nat.eq_zero_or_pos i with rfl | h0
  ·have:=star_lx h (k:=j) (by omega) hj
   rw[←he]at this;exact Hull.lx_irr this
  ·obtain⟨d,rfl⟩:∃d,j=i+d+1:=⟨j-i-1,by omega⟩
   have:=star_far h h0 d hj;rw[←he]at this;unfold tn at this;have e:∀x y:Int,x*y-y*x=0:=fun x y=>by rw[Int.mul_comm x y];omega
   rw[e]at this;omega
 rcases Nat.lt_trichotomy i j with h | h | h
 ·exact absurd he (key h hj)
 ·exact h
 ·exact absurd he.symm (key h hi)
theorem lft_join {l1 l2:List Pt}{z y:Pt}(h1:Lft (l1++[z]) y)(h2:Lft (z::l2) y):Lft (l1++z::l2) y:=by
 intro p a b q e;rcases List.append_eq_append_iff.1 e with⟨t,e1,e2⟩ | ⟨t,e1,e2⟩
 ·exact h2 t a b q (by rw[e2])
 ·cases t with
  | nil=>simp only[List.nil_append]at e2;exact h2 [] a b q (by rw[←e2];rfl)
  | cons x t =>
   cases t with
   | nil =>
    simp only[List.cons_append,List.nil_append,List.cons.injEq]at e2;obtain⟨rfl,rfl,_⟩:=e2;exact h1 p _ _ [] (by rw[e1];simp)
   | cons w t =>
    simp only[List.cons_append,List.cons.injEq]at e2;obtain⟨rfl,rfl,_⟩:=e2;exact h1 p a b (t++[z]) (by rw[e1];simp)
theorem hull_shape {s:List Pt}(hs:Asc s)(hne:s≠[]):(∃a,∀w∈s,w=a)∨∃a z l u,a≠z∧Hull.hull s=a::(l++z::u)∧(∀w∈s,Lft (a::l++[z]) w)∧∀w∈s,Lft (z::u++[a]) w:=by
 obtain⟨a,z,lo⟩:=Hull.low_of hs hne;obtain⟨z',a',hi⟩:=Hull.low_of (s:=s.reverse.map Hull.ng) (Hull.asc_ng.2 (Hull.dsc_rev.2 hs)) (by simpa using hne)
 have mem_ng:∀y,y∈s→Hull.ng y∈s.reverse.map Hull.ng:=fun y hy=>List.mem_map_of_mem (List.mem_reverse.2 hy);have has:a∈s:=lo.sub a (List.mem_of_head? lo.head);have hzs:z∈s:=lo.sub z (List.mem_of_getLast? lo.last);have ez:z'=Hull.ng z:=by
  have h1:=Hull.Low.ng_mem (hi.sub z' (List.mem_of_head? hi.head));rcases hi.amin (Hull.ng z) (mem_ng z hzs)with h | h
  ·exact h.symm
  ·rcases lo.zmax _ h1 with h' | h'
   ·rw[←h',Hull.ng_ng]
   ·rw[←Hull.lx_ng,Hull.ng_ng]at h';exact(Hull.lx_asym h h').elim
 have ea:a'=Hull.ng a:=by
  have h1:=Hull.Low.ng_mem (hi.sub a' (List.mem_of_getLast? hi.last));rcases hi.zmax (Hull.ng a) (mem_ng a has)with h | h
  ·exact h.symm
  ·rcases lo.amin _ h1 with h' | h'
   ·rw[←h',Hull.ng_ng]
   ·rw[←Hull.lx_ng,Hull.ng_ng]at h';exact(Hull.lx_asym h h').elim
 subst ez;subst ea;have eH:(Hull.chain s.reverse).reverse=((Hull.chain (s.reverse.map Hull.ng)).reverse).map Hull.ng:=by
  rw[Hull.chain_ng,←List.map_reverse,Hull.map_ng_ng]
 by_cases haz:a=z
 ·refine .inl ⟨a,fun w hw=>?_⟩;rcases lo.amin w hw with h | h
  ·exact h
  ·rcases lo.zmax w hw with h' | h'
   ·rw[h',haz]
   ·rw[←haz]at h';exact(Hull.lx_asym h h').elim
 obtain⟨l,el⟩:=Hull.shape lo.head lo.last haz;obtain⟨u',eu⟩:=Hull.shape hi.head hi.last (fun h=>haz (Hull.ng_inj h).symm);rw[el]at lo;rw[eu]at hi;let u:=u'.map Hull.ng
 have eu':u'=u.map Hull.ng:=(Hull.map_ng_ng u').symm;have eU:(Hull.chain s.reverse).reverse=z::u++[a]:=by rw[eH,eu];simp[u]
 have eUn:Hull.ng z::u'++[Hull.ng a]=(z::u++[a]).map Hull.ng:=by rw[eu'];simp only[List.map_append,List.map_cons,List.map_nil,List.cons_append]
 have ehull:Hull.hull s=a::(l++z::u):=by
  unfold Hull.hull;rw[el,eU,List.dropLast_concat,List.dropLast_concat];rfl
 have lU:∀w∈s,Lft (z::u++[a]) w:=fun w hw=>by
  have:=(hi.lft (Hull.ng w) (mem_ng w hw)).ng;rw[eUn,Hull.map_ng_ng,Hull.ng_ng]at this;exact this
 exact .inr ⟨a,z,l,u,haz,ehull,fun w hw=>lo.lft w hw,lU⟩
theorem hull_lft {s:List Pt}(hs:Asc s)(h3:3≤(Hull.hull s).length):∃a r,Hull.hull s=a::r∧∀w∈s,Lft (a::r++[a]) w:=by
 have hne:s≠[]:=by rintro rfl;simp[Hull.hull,Hull.chain]at h3
 rcases hull_shape hs hne with⟨a,h⟩ | ⟨a,z,l,u,haz,e,h1,h2⟩
 ·exfalso;match s,hs,hne,h,h3 with
  | [x],_,_,_,h3=>simp[Hull.hull,Hull.chain,Hull.push,Hull.pops]at h3
  | x::y::r,hs,_,h,_ =>
   have:=Hull.Asc.mem_lt hs (show y∈y::r by simp)
   rw[h x (by simp),h y (by simp)]at this
   exact Hull.lx_irr this
 ·refine⟨a,l++z::u,e,fun w hw=>?_⟩;have:=lft_join (l1:=a::l) (l2:=u++[a]) (h1 w hw) (h2 w hw);simpa using this
theorem hull_three {s:List Pt}(hs:Asc s){x y v:Pt}(hx:x∈s)(hy:y∈s)(hv:v∈s)(ht:tn x y v≠0):3≤(Hull.hull s).length:=by
 rcases hull_shape hs (List.ne_nil_of_mem hx)with⟨a,h⟩ | ⟨a,z,l,u,haz,e,h1,h2⟩
 ·exfalso;apply ht
  rw[h x hx,h y hy,h v hv];unfold tn;simp
 ·rw[e];simp only[List.length_cons,List.length_append];rcases Nat.eq_zero_or_pos (l.length+u.length)with h0 | h0
  ·exfalso;have el:l=[]:=List.length_eq_zero_iff.1 (by omega)
   have eu:u=[]:=List.length_eq_zero_iff.1 (by omega)
   subst el;subst eu;have on:∀w∈s,tn a z w=0:=fun w hw=>by
    have p1:=h1 w hw [] a z [] rfl;have p2:=h2 w hw [] z a [] rfl;have:tn z a w=- tn a z w:=by unfold tn;grind
    omega
   have o1:=on x hx;have o2:=on y hy;have o3:=on v hv;have q1:(z.1-a.1)*tn x y v=0:=by
    have:(z.1-a.1)*tn x y v=(y.1-x.1)*(tn a z v-tn a z x)-(v.1-x.1)*(tn a z y-tn a z x):=by unfold tn;grind
    rw[this,o1,o2,o3];omega
   have q2:(z.2-a.2)*tn x y v=0:=by
    have:(z.2-a.2)*tn x y v=(y.2-x.2)*(tn a z v-tn a z x)-(v.2-x.2)*(tn a z y-tn a z x):=by unfold tn;grind
    rw[this,o1,o2,o3];omega
   rcases Int.mul_eq_zero.1 q1 with z1 | z1
   ·rcases Int.mul_eq_zero.1 q2 with z2 | z2
    ·exact haz (Prod.ext (by omega) (by omega))
    ·exact ht z2
   ·exact ht z1
  ·omega
theorem lft_inP {P:List Pt}{a:Pt}{r:List Pt}(e:P=a::r){w:Pt}(h:Lft (a::r++[a]) w):inP P w:=by
 intro k hk;unfold sd;have ha:at_ P 0=a:=by rw[e];rfl
 have g:∀j,j≤P.length→(P++[a])[j]? = some (at_ P (j % P.length)):=fun j hj=>by
  rcases Nat.lt_or_ge j P.length with h1 | h1
  ·rw[List.getElem?_append_left h1,Nat.mod_eq_of_lt h1,at_some h1]
  ·have:j=P.length:=by omega
   subst this;rw[List.getElem?_append_right (Nat.le_refl _),Nat.sub_self,Nat.mod_self,ha];rfl
 have g1:=g k (by omega)
 rw[Nat.mod_eq_of_lt hk]at g1;have:=Hull.drop2 g1 (g (k+1) (by omega))
 rw[e]at this;rw[e];exact h _ _ _ _ this
theorem hull_in {s:List Pt}(hs:Asc s)(h3:3≤(Hull.hull s).length){w:Pt}(hw:w∈s):inP (Hull.hull s) w:=by
 obtain⟨a,r,e,h⟩:=hull_lft hs h3;exact lft_inP e (h w hw)
theorem mem_in {P:List Pt}(h:Pol P){q:Pt}(hq:q∈P):inP P q:=by
 obtain⟨hs,hm⟩:=Hull.sorted_spec P;have e:=Hull.hull_pol h hs hm;have:=hull_in hs (by rw[e];exact h.len) ((hm q).2 hq)
 rw[e]at this;exact this
def sumN:Nat→(Nat→Int)→Int
 | 0,_=>0
 | n+1,f=>sumN n f+f n
theorem sumN_congr {f g:Nat→Int}:∀(n:Nat),(∀k,k<n→f k=g k)→sumN n f=sumN n g
 | 0,_=>rfl
 | n+1,h=>by unfold sumN;rw[sumN_congr n fun k hk=>h k (by omega),h n (by omega)]
theorem sumN_add (f g:Nat→Int):∀n:Nat,sumN n (fun k=>f k+g k)=sumN n f+sumN n g
 | 0=>rfl
 | n+1=>by unfold sumN;rw[sumN_add f g n];dsimp only;omega
theorem sumN_zero {f:Nat→Int}:∀(n:Nat),(∀k,k<n→f k=0)→sumN n f=0
 | 0,_=>rfl
 | n+1,h=>by unfold sumN;rw[sumN_zero n fun k hk=>h k (by omega),h n (by omega)];rfl
def nx (P:List Pt)(k:Nat):Pt:=at_ P ((k+1) % P.length)
def gcdP (a b:Pt):Int:=(Int.gcd (b.1-a.1) (b.2-a.2):Nat)
theorem tn_lin {a c:Pt}(hd:a.1*c.2-a.2*c.1=1)(x y w:Pt):tn x y w=(dt a y-dt a x)*(dt c w-dt c x)-(dt c y-dt c x)*(dt a w-dt a x):=by
 have:(dt a y-dt a x)*(dt c w-dt c x)-(dt c y-dt c x)*(dt a w-dt a x)=(a.1*c.2-a.2*c.1)*tn x y w:=by unfold dt tn;grind
 rw[this,hd,Int.one_mul]
theorem width_pos {P:List Pt}(h:Pol P){a:Pt}(ha:a≠(0,0))(m:Int):¬∀q∈P,dt a q=m:=fun hl=>by
 have h3:=h.len;have hc:=(Hull.pol_chk h3).1 h 0 (by omega)
 unfold Hull.chk at hc;simp only[Bool.and_eq_true,decide_eq_true_eq]at hc;have ht:=hc.1;have e0:=hl _ (at_mem (P:=P) (k:=0) (by omega))
 have e1:=hl _ (at_mem (P:=P) (k:=(0+1) % P.length) (Nat.mod_lt _ (by omega)))
 have e2:=hl _ (at_mem (P:=P) (k:=(0+2) % P.length) (Nat.mod_lt _ (by omega)))
 generalize at_ P 0=x at *;generalize at_ P ((0+1) % P.length)=y at *;generalize at_ P ((0+2) % P.length)=w at *;have f1:a.1*tn x y w=0:=by
  have:a.1*tn x y w=(dt a y-dt a x)*(w.2-x.2)-(dt a w-dt a x)*(y.2-x.2):=by unfold dt tn;grind
  rw[this,e0,e1,e2];omega
 have f2:a.2*tn x y w=0:=by
  have:a.2*tn x y w=(dt a w-dt a x)*(y.1-x.1)-(dt a y-dt a x)*(w.1-x.1):=by unfold dt tn;grind
  rw[this,e0,e1,e2];omega
 rcases Int.mul_eq_zero.1 f1 with g1 | g1
 ·rcases Int.mul_eq_zero.1 f2 with g2 | g2
  ·exact ha (Prod.ext g1 g2)
  ·omega
 ·omega
open Go Go.Proofs.YtfknaeamhcpfgaaGreat.Eng
set_option linter.all false
open Hull (Pt Pol tn lx at_ at_some at_of at_mem)
theorem sumN_single {f:Nat→Int}{j:Nat}{v:Int}:∀(n:Nat),j<n→f j=v→(∀k,k<n→k≠j→f k=0)→sumN n f=v
 | 0,h,_,_=>by omega
 | n+1,h,hj,h0=>by
  unfold sumN;rcases Nat.lt_or_ge j n with h1 | h1
  ·rw[sumN_single n h1 hj fun k hk=>h0 k (by omega),h0 n (by omega) (by omega)];omega
  ·have:j=n:=by omega
   subst this;rw[sumN_zero _ fun k hk=>h0 k (by omega) (by omega),hj];omega
theorem sumN_swap (F:Nat→Nat→Int)(m:Nat):∀n:Nat,sumN n (fun i=>sumN m (fun j=>F i j))=sumN m (fun j=>sumN n (fun i=>F i j))
 | 0=>by rw[sumN_zero (f:=fun j=>sumN 0 (fun i=>F i j)) m fun k _=>rfl];rfl
 | n+1=>by
  have e:sumN m (fun j=>sumN (n+1) (fun i=>F i j))=sumN m (fun j=>sumN n (fun i=>F i j)+F n j):=rfl;rw[e,sumN_add (fun j=>sumN n (fun i=>F i j)) (fun j=>F n j),←sumN_swap F m n];rfl
def RR:Int:=1000
def InB (d:Pt):Prop:=-RR≤d.1∧d.1≤RR∧-RR≤d.2∧d.2≤RR
def S2 (F:Pt→Int):Int:=sumN 2001 fun i=>sumN 2001 fun j=>F ((i:Int)-RR,(j:Int)-RR)
theorem S2_congr {F G:Pt→Int}(h:∀d,F d=G d):S2 F=S2 G:=by
 have:F=G:=funext h;rw[this]
theorem S2_sum (F:Pt→Nat→Int)(n:Nat):S2 (fun d=>sumN n (fun k=>F d k))=sumN n fun k=>S2 fun d=>F d k:=by
 unfold S2;rw[sumN_congr (g:=fun i=>sumN n fun k=>sumN 2001 fun j=>F ((i:Int)-RR,(j:Int)-RR) k) 2001 fun i _=>sumN_swap (fun j k=>F ((i:Int)-RR,(j:Int)-RR) k) n 2001];exact sumN_swap (fun i k=>sumN 2001 fun j=>F ((i:Int)-RR,(j:Int)-RR) k) n 2001
theorem S2_single {F:Pt→Int}{d:Pt}{v:Int}(hd:InB d)(hv:F d=v)(h0:∀e,e≠d→F e=0):S2 F=v:=by
 obtain⟨x,y⟩:=d;unfold InB RR at hd;simp only at hd;have e1:((x+1000).toNat:Int)-RR=x:=by unfold RR;omega
 have e2:((y+1000).toNat:Int)-RR=y:=by unfold RR;omega
 unfold S2;refine sumN_single (j:=(x+1000).toNat) 2001 (by omega) ?_ fun i hi hne=>?_
 ·refine sumN_single (j:=(y+1000).toNat) 2001 (by omega) ?_ fun j hj hne=>?_
  ·rw[e1,e2];exact hv
  ·rw[e1];exact h0 _ fun h=>hne (by have:=congrArg Prod.snd h;simp only at this;unfold RR at this;omega)
 ·exact sumN_zero _ fun j hj=>h0 _ fun h=>hne (by have:=congrArg Prod.fst h;simp only at this;unfold RR at this;omega)
def Prim (d:Pt):Prop:=∃c:Pt,d.1*c.2-d.2*c.1=1
theorem bezout:∀a b:Nat,∃x y:Int,(a:Int)*x+b*y=(Nat.gcd a b:Nat):=fun a b=>by
 induction a,b using Nat.gcd.induction with
 | H0 n=>exact⟨0,1,by simp⟩
 | H1 m n hm ih =>
  obtain⟨x,y,h⟩:=ih;refine⟨y-(n / m:Nat)*x,x,?_⟩;rw[Nat.gcd_rec m n,←h];have e:(n:Int)=((n % m:Nat):Int)+m*((n / m:Nat):Int):=by
   have:=Nat.mod_add_div n m;rw[←Int.natCast_mul,←Int.natCast_add,this]
  have e2:(n:Int)*x=(((n % m:Nat):Int)+m*((n / m:Nat):Int))*x:=by rw[←e]
  rw[e2];grind
theorem bezoutI (a b:Int):∃x y:Int,a*x+b*y=(Int.gcd a b:Nat):=by
 obtain⟨x,y,h⟩:=bezout a.natAbs b.natAbs;have ha:a=a.natAbs∨a=-a.natAbs:=by omega
 have hb:b=b.natAbs∨b=-b.natAbs:=by omega
 have hg:Int.gcd a b=Nat.gcd a.natAbs b.natAbs:=rfl;rw[hg,←h];rcases ha with ha | ha<;>rcases hb with hb | hb
 ·exact⟨x,y,by rw[←ha,←hb]⟩
 ·refine⟨x,-y,?_⟩;have:(b.natAbs:Int)=-b:=by omega
  rw[←ha,this];grind
 ·refine⟨-x,y,?_⟩;have:(a.natAbs:Int)=-a:=by omega
  rw[←hb,this];grind
 ·refine⟨-x,-y,?_⟩;have e1:(b.natAbs:Int)=-b:=by omega
  have e2:(a.natAbs:Int)=-a:=by omega
  rw[e1,e2];grind
theorem prim_of {e:Pt}(h:e≠(0,0)):∃d:Pt,Prim d∧e.1=(Int.gcd e.1 e.2:Nat)*-d.2∧e.2=(Int.gcd e.1 e.2:Nat)*d.1∧d.1.natAbs≤e.2.natAbs∧d.2.natAbs≤e.1.natAbs:=by
 obtain⟨x,y,hb⟩:=bezoutI e.1 e.2;have hg:(Int.gcd e.1 e.2:Int)≠0:=fun h0=>h (by
  have:Int.gcd e.1 e.2=0:=by omega
  rw[Int.gcd_eq_zero_iff]at this;exact Prod.ext this.1 this.2)
 have h1:(Int.gcd e.1 e.2:Int)∣e.1:=Int.gcd_dvd_left ..;have h2:(Int.gcd e.1 e.2:Int)∣e.2:=Int.gcd_dvd_right ..;generalize (Int.gcd e.1 e.2:Int)=g at *;obtain⟨p,hp⟩:=h1;obtain⟨q,hq⟩:=h2;have hone:p*x+q*y=1:=by
  have:g*(p*x+q*y)=g*1:=by rw[Int.mul_one,←hb,hp,hq];grind
  exact Int.eq_of_mul_eq_mul_left hg this
 refine⟨(q,-p),⟨(x,y),?_⟩,by rw[Int.neg_neg];exact hp,hq,?_,?_⟩
 ·show q*y - -p*x=1;rw[←hone];grind
 ·show q.natAbs≤e.2.natAbs;rw[hq,Int.natAbs_mul];have:1≤g.natAbs:=by omega
  exact Nat.le_trans (by omega) (Nat.mul_le_mul_right q.natAbs this)
 ·show(-p).natAbs≤e.1.natAbs;rw[hp,Int.natAbs_mul,Int.natAbs_neg];have:1≤g.natAbs:=by omega
  exact Nat.le_trans (by omega) (Nat.mul_le_mul_right p.natAbs this)
open Classical in
noncomputable def comp (d:Pt):Pt:=if h:Prim d then h.choose else(0,0)
theorem comp_one {d:Pt}(h:Prim d):d.1*(comp d).2-d.2*(comp d).1=1:=by
 unfold comp;rw[dif_pos h];exact h.choose_spec
noncomputable def far (d:Pt):Int:=2*(((comp d).1.natAbs+(comp d).2.natAbs:Nat):Int)*1000+1
noncomputable def Lf (f:Pt→Int)(d:Pt):Int :=
 f (far d*d.1+(comp d).1,far d*d.2+(comp d).2)+f (far d*d.1-(comp d).1,far d*d.2-(comp d).2)-2*(far d*f d)
open Classical in
noncomputable def XX (u f:Pt→Int):Int:=S2 fun d=>if Prim d then u d*Lf f d else 0
theorem sup_spec {P:List Pt}(hP:0<P.length)(a:Pt):(∀q∈P,dt a q≤sup P a)∧∃q∈P,sup P a=dt a q:=hi_spec (dt a) hP
theorem sup_val {P:List Pt}{a:Pt}{v:Int}{x:Pt}(hx:x∈P)(h1:dt a x=v)(h2:∀q∈P,dt a q≤v):sup P a=v:=by
 obtain⟨k1,q,k2,k3⟩:=sup_spec (List.length_pos_of_mem hx) a;have:=k1 x hx;have:=h2 q k2;omega
theorem two_num {a c:Pt}(hd:a.1*c.2-a.2*c.1=1){x y:Pt}(h1:dt a x=dt a y)(h2:dt c x=dt c y):x=y:=by
 have f1:∀q:Pt,q.1=c.2*dt a q-a.2*dt c q:=fun q=>by
  have:c.2*dt a q-a.2*dt c q=(a.1*c.2-a.2*c.1)*q.1:=by unfold dt;grind
  rw[this,hd,Int.one_mul]
 have f2:∀q:Pt,q.2=a.1*dt c q-c.1*dt a q:=fun q=>by
  have:a.1*dt c q-c.1*dt a q=(a.1*c.2-a.2*c.1)*q.2:=by unfold dt;grind
  rw[this,hd,Int.one_mul]
 exact Prod.ext (by rw[f1 x,f1 y,h1,h2]) (by rw[f2 x,f2 y,h1,h2])
theorem off_side {P:List Pt}(h:Pol P){d c:Pt}(hd:d.1*c.2-d.2*c.1=1):∃w∈P,dt d w<sup P d:=by
 have h3:=h.len;by_cases hx:∃w∈P,dt d w<sup P d
 ·exact hx
 ·exfalso;refine width_pos h (a:=d) (fun h0=>?_) (sup P d) fun q hq=>?_
  ·rw[h0]at hd;simp at hd
  ·have h1:=(sup_spec (P:=P) (by omega) d).1 q hq
   rcases Int.lt_or_le (dt d q) (sup P d)with h2 | h2
   ·exact absurd ⟨q,hq,h2⟩ hx
   ·omega
theorem nx_mem {P:List Pt}(hP:0<P.length)(k:Nat):nx P k∈P:=at_mem (Nat.mod_lt _ hP)
theorem side_on {P:List Pt} (h:Pol P) {d c:Pt} (hd:d.1 * c.2 - d.2 * c.1 = 1) {i j:Nat} (hi:i < P.length) (hj:j < P.length) (ei:dt d (at_ P i) = sup P d) (ej:dt d (at_ P j) = sup P d)
  (hc:dt c (at_ P i)<dt c (at_ P j)):dt d (nx P i)=sup P d:=by
 have h3:=h.len;have s:=mem_in h (at_mem hj) i hi;have s:0≤tn (at_ P i) (nx P i) (at_ P j):=s;rw[tn_lin hd,ei,ej,Int.sub_self,Int.mul_zero,Int.sub_zero]at s;have hn:=(sup_spec (P:=P) (by omega) d).1 _ (nx_mem (by omega) i)
 rcases Int.lt_or_le (dt d (nx P i)) (sup P d)with hl | hl
 ·exfalso;have:=Int.mul_neg_of_neg_of_pos (show dt d (nx P i)-sup P d<0 by omega) (show 0<dt c (at_ P j)-dt c (at_ P i) by omega)
  omega
 ·omega
theorem next_ne {P:List Pt}(h:Pol P){k:Nat}(hk:k<P.length):at_ P k≠nx P k:=fun he=>by
 have h3:=h.len;have he2:=pol_inj h hk (Nat.mod_lt _ (by omega)) he
 rcases Nat.lt_or_ge (k+1) P.length with h1 | h1
 ·rw[Nat.mod_eq_of_lt h1]at he2;omega
 ·have:k+1=P.length:=by omega
  rw[this,Nat.mod_self]at he2;omega
theorem side_top {P:List Pt}(h:Pol P){d c:Pt}(hd:d.1*c.2-d.2*c.1=1){k:Nat}(hk:k<P.length)(e1:dt d (at_ P k)=sup P d)(e2:dt d (nx P k)=sup P d){j:Nat}(hj:j<P.length)(ej:dt d (at_ P j)=sup P d):dt c (at_ P j)≤dt c (nx P k):=by
 have h3:=h.len;rcases Int.lt_or_le (dt c (nx P k)) (dt c (at_ P j))with g | g
 ·exfalso;have e3:=side_on h hd (i:=(k+1) % P.length) (Nat.mod_lt _ (by omega)) hj e2 ej g
  have hc:=(Hull.pol_chk h3).1 h k hk;unfold Hull.chk at hc;simp only[Bool.and_eq_true,decide_eq_true_eq]at hc;have ht:=hc.1;have e4:at_ P ((k+2) % P.length)=nx P ((k+1) % P.length):=by
   unfold nx;rw[Nat.mod_add_mod]
  have e5:at_ P ((k+1) % P.length)=nx P k:=rfl;rw[e4,e5,tn_lin hd,e1,e2,e3,Int.sub_self,Int.zero_mul,Int.mul_zero]at ht;omega
 ·exact g
theorem nx_inj {P:List Pt}(h:Pol P){j k:Nat}(hj:j<P.length)(hk:k<P.length)(he:nx P j=nx P k):j=k:=by
 have h3:=h.len;have:=pol_inj h (Nat.mod_lt _ (by omega)) (Nat.mod_lt _ (by omega)) he
 rcases Nat.lt_or_ge (j+1) P.length with h1 | h1<;>rcases Nat.lt_or_ge (k+1) P.length with h2 | h2
 ·rw[Nat.mod_eq_of_lt h1,Nat.mod_eq_of_lt h2]at this;omega
 ·have e:k+1=P.length:=by omega
  rw[Nat.mod_eq_of_lt h1,e,Nat.mod_self]at this;omega
 ·have e:j+1=P.length:=by omega
  rw[Nat.mod_eq_of_lt h2,e,Nat.mod_self]at this;omega
 ·omega
theorem side_bot {P:List Pt}(h:Pol P){d c:Pt}(hd:d.1*c.2-d.2*c.1=1){k:Nat}(hk:k<P.length)(e1:dt d (at_ P k)=sup P d)(e2:dt d (nx P k)=sup P d){j:Nat}(hj:j<P.length)(ej:dt d (at_ P j)=sup P d):dt c (at_ P k)≤dt c (at_ P j):=by
 have h3:=h.len;rcases Int.lt_or_le (dt c (at_ P j)) (dt c (at_ P k))with g | g
 ·exfalso;have e3:=side_on h hd hj hk ej e1 g;have t1:=side_top h hd hj ej e3 (j:=(k+1) % P.length) (Nat.mod_lt _ (by omega)) e2
  have t2:=side_top h hd hk e1 e2 (j:=(j+1) % P.length) (Nat.mod_lt _ (by omega)) e3
  have t1:dt c (nx P k)≤dt c (nx P j):=t1;have t2:dt c (nx P j)≤dt c (nx P k):=t2;have:nx P j=nx P k:=two_num hd (by rw[e2,e3]) (by omega)
  have:=nx_inj h hj hk this;subst this;omega
 ·exact g
theorem sup_far {P:List Pt} {d c:Pt} {N K:Int} (hN:2 * K + 1≤N) (hK:∀ q∈P,-K≤dt c q∧dt c q≤K) {x:Pt} (hx:x∈P) (e:dt d x = sup P d) (hm:∀ q∈P,dt d q = sup P d→dt c q≤dt c x) :
  sup P (N*d.1+c.1,N*d.2+c.2)=N*sup P d+dt c x:=by
 have lin:∀q:Pt,dt (N*d.1+c.1,N*d.2+c.2) q=N*dt d q+dt c q:=fun q=>by unfold dt;grind
 refine sup_val hx (by rw[lin,e]) fun q hq=>?_
 rw[lin];have hk:=hK x hx;have hq2:=hK q hq;have hle:=(sup_spec (List.length_pos_of_mem hx) d).1 q hq;rcases Int.lt_or_le (dt d q) (sup P d)with g | g
 ·have:N*dt d q≤N*(sup P d-1):=Int.mul_le_mul_of_nonneg_left (by omega) (by omega)
  rw[Int.mul_sub,Int.mul_one]at this;omega
 ·have:dt d q=sup P d:=by omega
  rw[this];have:=hm q hq this;omega
theorem dt_bd {c q:Pt}{M:Int}(hM:0≤M)(h:Bd M q):-((((c.1.natAbs+c.2.natAbs:Nat):Int))*M)≤dt c q∧dt c q≤(((c.1.natAbs+c.2.natAbs:Nat):Int))*M:=by
 have one:∀{x y:Int},-M≤y→y≤M→-((x.natAbs:Int)*M)≤x*y∧x*y≤(x.natAbs:Int)*M:=fun{x y} h1 h2=>by
  have h5:x.natAbs*y.natAbs≤x.natAbs*M.toNat:=Nat.mul_le_mul_left _ (by omega)
  have h6:=Int.natAbs_mul x y;have h7:((x.natAbs*M.toNat:Nat):Int)=x.natAbs*M:=by rw[Int.natCast_mul];congr 1;omega
  omega
 have h1:=one (x:=c.1) h.1 h.2.1;have h2:=one (x:=c.2) h.2.2.1 h.2.2.2;rw[Int.natCast_add,Int.add_mul];unfold dt;omega
theorem dt_neg (c q:Pt):dt (-c.1,-c.2) q=- dt c q:=by unfold dt;grind
theorem Lf_val {P:List Pt} (hB:∀ q∈P,Bd 1000 q) {d:Pt} (hp:Prim d) {x y:Pt} (hx:x∈P) (hy:y∈P) (ex:dt d x = sup P d) (ey:dt d y = sup P d)
  (mx':∀q∈P,dt d q=sup P d→dt (comp d) q≤dt (comp d) y) (mn':∀q∈P,dt d q=sup P d→dt (comp d) x≤dt (comp d) q):Lf (sup P) d=dt (comp d) y-dt (comp d) x:=by
 have hK:∀q∈P,-((((comp d).1.natAbs+(comp d).2.natAbs:Nat):Int)*1000)≤dt (comp d) q∧dt (comp d) q≤(((comp d).1.natAbs+(comp d).2.natAbs:Nat):Int)*1000:=fun q hq=>dt_bd (by omega) (hB q hq)
 have hN:2*((((comp d).1.natAbs+(comp d).2.natAbs:Nat):Int)*1000)+1≤far d:=by unfold far;omega
 have a1:=sup_far hN hK hy ey mx';have a2:=sup_far (c:=(-(comp d).1,-(comp d).2)) hN (fun q hq=>by rw[dt_neg];have:=hK q hq;omega) hx ex (fun q hq e=>by rw[dt_neg,dt_neg];have:=mn' q hq e;omega)
 unfold Lf;rw[dt_neg]at a2;have e:((far d*d.1-(comp d).1,far d*d.2-(comp d).2):Pt)=(far d*d.1+-(comp d).1,far d*d.2+-(comp d).2):=by simp only[Int.sub_eq_add_neg]
 rw[a1,e,a2];omega
theorem normal_of {P:List Pt} (h:Pol P) (hB:∀ q∈P,Bd 400 q) {k:Nat} (hk:k < P.length):∃ d:Pt,Prim d∧InB d∧dt d (at_ P k) = sup P d∧dt d (nx P k) = sup P d ∧
  (nx P k).1-(at_ P k).1=gcdP (at_ P k) (nx P k)*-d.2∧(nx P k).2-(at_ P k).2=gcdP (at_ P k) (nx P k)*d.1 ∧
  (∀e,Prim e→dt e (at_ P k)=sup P e→dt e (nx P k)=sup P e→e=d):=by
 have h3:=h.len;have hne:(((nx P k).1-(at_ P k).1,(nx P k).2-(at_ P k).2):Pt)≠(0,0):=fun h0=>by
  have h1:=congrArg Prod.fst h0;have h2:=congrArg Prod.snd h0;simp only at h1 h2;exact next_ne h hk (Prod.ext (by omega) (by omega))
 obtain⟨d,hp,e1,e2,b1,b2⟩:=prim_of hne;simp only at e1 e2 b1 b2;have e1:(nx P k).1-(at_ P k).1=gcdP (at_ P k) (nx P k)*-d.2:=e1;have e2:(nx P k).2-(at_ P k).2=gcdP (at_ P k) (nx P k)*d.1:=e2;have hb1:=hB _ (at_mem hk);have hb2:=hB _ (nx_mem (by omega) k)
 unfold Bd at hb1 hb2;have g0:0<gcdP (at_ P k) (nx P k):=by
  unfold gcdP;rcases Nat.eq_zero_or_pos (Int.gcd ((nx P k).1-(at_ P k).1) ((nx P k).2-(at_ P k).2))with h0 | h0
  ·rw[Int.gcd_eq_zero_iff]at h0;exact absurd (Prod.ext h0.1 h0.2) hne
  ·omega
 have el:dt d (nx P k)=dt d (at_ P k):=by
  have:dt d (nx P k)-dt d (at_ P k)=d.1*((nx P k).1-(at_ P k).1)+d.2*((nx P k).2-(at_ P k).2):=by unfold dt;grind
  rw[e1,e2]at this;grind
 have es:dt d (at_ P k)=sup P d:=by
  refine(sup_val (at_mem hk) rfl fun q hq=>?_).symm;have s:=mem_in h hq k hk;have s:0≤tn (at_ P k) (nx P k) q:=s;have e3:tn (at_ P k) (nx P k) q=gcdP (at_ P k) (nx P k)*(dt d (at_ P k)-dt d q):=by
   have:tn (at_ P k) (nx P k) q=((nx P k).1-(at_ P k).1)*(q.2-(at_ P k).2)-((nx P k).2-(at_ P k).2)*(q.1-(at_ P k).1):=rfl;rw[this,e1,e2];unfold dt;grind
  rw[e3]at s;rcases Int.lt_or_le (dt d (at_ P k)) (dt d q)with hl | hl
  ·exfalso;have:=Int.mul_neg_of_pos_of_neg g0 (show dt d (at_ P k)-dt d q<0 by omega)
   omega
  ·exact hl
 refine⟨d,hp,⟨?_,?_,?_,?_⟩,es,by rw[el];exact es,e1,e2,fun e hpe f1 f2=>?_⟩
 ·unfold RR;omega
 ·unfold RR;omega
 ·unfold RR;omega
 ·unfold RR;omega
 ·
  obtain⟨c,hc⟩:=hp;obtain⟨c',hc'⟩:=hpe;have z:gcdP (at_ P k) (nx P k)*(e.2*d.1-e.1*d.2)=0:=by
   have:dt e (nx P k)-dt e (at_ P k)=e.1*((nx P k).1-(at_ P k).1)+e.2*((nx P k).2-(at_ P k).2):=by unfold dt;grind
   rw[e1,e2,f1,f2]at this;grind
  have z:e.2*d.1-e.1*d.2=0:=by
   rcases Int.mul_eq_zero.1 z with z | z
   ·omega
   ·exact z
  have m1:e.1=d.1*(e.1*c.2-e.2*c.1):=by
   have:d.1*(e.1*c.2-e.2*c.1)=e.1*(d.1*c.2-d.2*c.1)-c.1*(e.2*d.1-e.1*d.2):=by grind
   rw[this,hc,z];omega
  have m2:e.2=d.2*(e.1*c.2-e.2*c.1):=by
   have:d.2*(e.1*c.2-e.2*c.1)=e.2*(d.1*c.2-d.2*c.1)-c.2*(e.2*d.1-e.1*d.2):=by grind
   rw[this,hc,z];omega
  generalize hm:e.1*c.2-e.2*c.1=m at m1 m2;have hu:m*(d.1*c'.2-d.2*c'.1)=1:=by
   have:m*(d.1*c'.2-d.2*c'.1)=e.1*c'.2-e.2*c'.1:=by rw[m1,m2];grind
   rw[this,hc']
  have hm2:m=1∨m=-1:=by
   have h1:=congrArg Int.natAbs hu;rw[Int.natAbs_mul]at h1;have:=Nat.eq_one_of_mul_eq_one_right h1;omega
  rcases hm2 with hm1 | hm1
  ·rw[hm1,Int.mul_one]at m1 m2;exact Prod.ext m1 m2
  ·exfalso;obtain⟨w,hw,hl⟩:=off_side h hc;have hle:=(sup_spec (P:=P) (by omega) e).1 w hw
   have e3:∀q:Pt,dt e q=- dt d q:=fun q=>by unfold dt;rw[m1,m2,hm1];grind
   rw[←f1,e3,e3,es]at hle;omega
theorem side_sum {P : List Pt} (h : Pol P) (hB : ∀ q ∈ P, Bd 400 q) : ∃ nr : Nat → Pt, (∀ k, k < P.length → Prim (nr k) ∧ dt (nr k) (at_ P k) = sup P (nr k) ∧ dt (nr k) (nx P k) = sup P (nr k) ∧
   (nx P k).1-(at_ P k).1=gcdP (at_ P k) (nx P k)*-(nr k).2∧(nx P k).2-(at_ P k).2=gcdP (at_ P k) (nx P k)*(nr k).1) ∧
  ∀u:Pt→Int,XX u (sup P)=sumN P.length fun k=>u (nr k)*gcdP (at_ P k) (nx P k):=by
 classical
 have h3:=h.len;have ex:∀ k,∃ d:Pt,k < P.length→Prim d∧InB d∧dt d (at_ P k) = sup P d∧dt d (nx P k) = sup P d ∧
   (nx P k).1-(at_ P k).1=gcdP (at_ P k) (nx P k)*-d.2∧(nx P k).2-(at_ P k).2=gcdP (at_ P k) (nx P k)*d.1 ∧
   (∀e,Prim e→dt e (at_ P k)=sup P e→dt e (nx P k)=sup P e→e=d):=fun k=>by
  by_cases hk:k<P.length
  ·obtain⟨d,hd⟩:=normal_of h hB hk;exact⟨d,fun _=>hd⟩
  ·exact⟨(0,0),fun h=>absurd h hk⟩
 obtain ⟨nr,hnr⟩:∃ nr:Nat→Pt,∀ k,k < P.length→Prim (nr k)∧InB (nr k)∧dt (nr k) (at_ P k) = sup P (nr k)∧dt (nr k) (nx P k) = sup P (nr k) ∧
   (nx P k).1-(at_ P k).1=gcdP (at_ P k) (nx P k)*-(nr k).2∧(nx P k).2-(at_ P k).2=gcdP (at_ P k) (nx P k)*(nr k).1 ∧
   (∀e,Prim e→dt e (at_ P k)=sup P e→dt e (nx P k)=sup P e→e=nr k):=⟨fun k=>(ex k).choose,fun k=>(ex k).choose_spec⟩
 refine⟨nr,fun k hk=>⟨(hnr k hk).1,(hnr k hk).2.2.1,(hnr k hk).2.2.2.1,(hnr k hk).2.2.2.2.1,(hnr k hk).2.2.2.2.2.1⟩,fun u=>?_⟩;have hB':∀q∈P,Bd 1000 q:=fun q hq=>by have:=hB q hq;unfold Bd at *;omega
 have dir:∀d:Pt,(if Prim d then u d*Lf (sup P) d else 0)=sumN P.length fun k=>if d=nr k then u (nr k)*gcdP (at_ P k) (nx P k)else 0:=fun d=>by
  by_cases hp:Prim d
  ·rw[if_pos hp];have hc:=comp_one hp;by_cases hk:∃k,k<P.length∧d=nr k
   ·obtain⟨k,hk,rfl⟩:=hk;obtain⟨_,_,k1,k2,k3,k4,_⟩:=hnr k hk;have hL:Lf (sup P) (nr k)=gcdP (at_ P k) (nx P k):=by
     rw[Lf_val hB' hp (at_mem hk) (nx_mem (by omega) k) k1 k2 (fun q hq e=>by
      obtain⟨j,hj,ej⟩:=List.mem_iff_getElem.1 hq;have ej:at_ P j=q:=at_of (by rw[List.getElem?_eq_getElem hj,ej])
      rw[←ej]at e ⊢;exact side_top h hc hk k1 k2 hj e) (fun q hq e=>by
      obtain⟨j,hj,ej⟩:=List.mem_iff_getElem.1 hq;have ej:at_ P j=q:=at_of (by rw[List.getElem?_eq_getElem hj,ej])
      rw[←ej]at e ⊢;exact side_bot h hc hk k1 k2 hj e)]
     have e1:dt (comp (nr k)) (nx P k)-dt (comp (nr k)) (at_ P k)=(comp (nr k)).1*((nx P k).1-(at_ P k).1)+(comp (nr k)).2*((nx P k).2-(at_ P k).2):=by unfold dt;grind
     rw[e1,k3,k4];have e2:(comp (nr k)).1*(gcdP (at_ P k) (nx P k)*-(nr k).2)+(comp (nr k)).2*(gcdP (at_ P k) (nx P k)*(nr k).1)=gcdP (at_ P k) (nx P k)*((nr k).1*(comp (nr k)).2-(nr k).2*(comp (nr k)).1):=by grind
     rw[e2,hc,Int.mul_one]
    rw[hL];refine(sumN_single (j:=k) P.length hk (if_pos rfl) fun j hj hne=>if_neg fun he=>?_).symm;obtain⟨_,_,j1,j2,_⟩:=hnr j hj;rw[←he]at j1 j2;have t1:=side_bot h hc hk k1 k2 hj j1;have t2:=side_bot h hc hj j1 j2 hk k1;exact hne (pol_inj h hj hk (two_num hc (by rw[j1,k1]) (by omega)))
   ·have hz:∀k,k<P.length→¬d=nr k:=fun k h1 h2=>hk ⟨k,h1,h2⟩;rw[sumN_zero _ fun k h1=>if_neg (hz k h1)];obtain⟨x,hx,ex'⟩:=(sup_spec (P:=P) (by omega) d).2
    have all:∀q∈P,dt d q=sup P d→dt (comp d) q=dt (comp d) x:=fun q hq e=>by
     obtain⟨i,hi,ei⟩:=List.mem_iff_getElem.1 hx;obtain⟨j,hj,ej⟩:=List.mem_iff_getElem.1 hq;have ei:at_ P i=x:=at_of (by rw[List.getElem?_eq_getElem hi,ei])
     have ej:at_ P j=q:=at_of (by rw[List.getElem?_eq_getElem hj,ej])
     have key:∀i j,i<P.length→j<P.length→dt d (at_ P i)=sup P d→dt d (at_ P j)=sup P d→¬dt (comp d) (at_ P i)<dt (comp d) (at_ P j):=fun i j hi hj e1 e2 hlt=>by
      have e3:=side_on h hc hi hj e1 e2 hlt;exact hz i hi ((hnr i hi).2.2.2.2.2.2 d hp e1 e3)
     rw[←ei]at ex' ⊢;rw[←ej]at e ⊢;have k1:=key i j hi hj ex'.symm e;have k2:=key j i hj hi e ex'.symm;omega
    rw[Lf_val hB' hp hx hx ex'.symm ex'.symm (fun q hq e=>by rw[all q hq e];exact Int.le_refl _) (fun q hq e=>by rw[all q hq e];exact Int.le_refl _),Int.sub_self,Int.mul_zero]
  ·rw[if_neg hp,sumN_zero _ fun k hk=>if_neg fun he=>hp (by rw[he];exact(hnr k hk).1)]
 unfold XX;rw[S2_congr dir,S2_sum];exact sumN_congr _ fun k hk=>S2_single (d:=nr k) (hnr k hk).2.1 (if_pos rfl) fun e he=>if_neg he
end Go.Proofs.YtfknaeamhcpfgaaGreat
