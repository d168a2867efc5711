/-
  Polygons: the program's test and the reference's test say the same. Plain, no condition.
-/
import Derived.Test.YtfknaeamhcpfgaaGreatPlP
namespace Go.Proofs.YtfknaeamhcpfgaaGreat
open Go Go.Proofs.YtfknaeamhcpfgaaGreat.Eng
open Hull (Pt tn lx)
set_option linter.all false
namespace Hull
theorem drop3 {l:List Pt}{i:Nat}{a b c:Pt}(ha:l[i]? = some a)(hb:l[i+1]? = some b)(hc:l[i+2]? = some c):l=l.take i++a::b::c::l.drop (i+3):=by
 have h1:=(List.getElem?_eq_some_iff.1 ha);have h2:=(List.getElem?_eq_some_iff.1 hb);have h3:=(List.getElem?_eq_some_iff.1 hc);obtain⟨l1,e1⟩:=h1;obtain⟨l2,e2⟩:=h2;obtain⟨l3,e3⟩:=h3;have d1:=List.drop_eq_getElem_cons l1;have d2:=List.drop_eq_getElem_cons l2;have d3:=List.drop_eq_getElem_cons l3;rw[e1]at d1;rw[e2]at d2;rw[e3]at d3;rw[←d3,←d2,←d1,List.take_append_drop]
theorem drop2 {l:List Pt}{i:Nat}{a b:Pt}(ha:l[i]? = some a)(hb:l[i+1]? = some b):l=l.take i++a::b::l.drop (i+2):=by
 obtain⟨l1,e1⟩:=(List.getElem?_eq_some_iff.1 ha);obtain⟨l2,e2⟩:=(List.getElem?_eq_some_iff.1 hb);have d1:=List.drop_eq_getElem_cons l1;have d2:=List.drop_eq_getElem_cons l2;rw[e1]at d1;rw[e2]at d2;rw[←d2,←d1,List.take_append_drop]
theorem cvx_iff {l:List Pt}:Cvx l↔∀i a b c,l[i]? = some a→l[i+1]? = some b→l[i+2]? = some c→0<tn a b c:=by
 constructor
 ·intro h i a b c ha hb hc;exact h _ a b c _ (drop3 ha hb hc)
 ·intro h p a b c q e;subst e;refine h p.length a b c ?_ ?_ ?_
  ·rw[List.getElem?_append_right (Nat.le_refl _)];simp
  ·rw[List.getElem?_append_right (by omega)];simp
  ·rw[List.getElem?_append_right (by omega)];simp
def at_ (P:List Pt)(k:Nat):Pt:=P.getD k (0,0)
theorem at_some {P:List Pt}{k:Nat}(h:k<P.length):P[k]? = some (at_ P k):=by simp[at_,List.getD_eq_getElem?_getD,h]
theorem at_of {P:List Pt}{k:Nat}{x:Pt}(h:P[k]? = some x):at_ P k=x:=by simp[at_,List.getD_eq_getElem?_getD,h]
theorem at_mem {P:List Pt}{k:Nat}(h:k<P.length):at_ P k∈P:=List.mem_of_getElem? (at_some h)
def chk (P:List Pt)(k:Nat):Bool :=
 decide (0<tn (at_ P k) (at_ P ((k+1) % P.length)) (at_ P ((k+2) % P.length))) &&
  (k==0||(decide (lx (at_ P 0) (at_ P k))&&(decide (P.length≤k+1)||decide (0<tn (at_ P 0) (at_ P k) (at_ P (k+1))))))
theorem ext_get {P:List Pt}{a b:Pt}{r:List Pt}(e:P=a::b::r){j:Nat}(h:j<P.length+2):(P++[a,b])[j]? = some (at_ P (j % P.length)):=by
 have hn:2≤P.length:=by rw[e];simp
 have e0:at_ P 0=a:=at_of (by rw[e];rfl)
 have e1:at_ P 1=b:=at_of (by rw[e];rfl)
 rcases Nat.lt_or_ge j P.length with h1 | h1
 ·rw[List.getElem?_append_left h1,Nat.mod_eq_of_lt h1,at_some h1]
 ·rw[List.getElem?_append_right h1];have:j=P.length∨j=P.length+1:=by omega
  rcases this with rfl | rfl
  ·rw[Nat.sub_self,Nat.mod_self,e0];rfl
  ·rw[Nat.add_sub_cancel_left,Nat.add_mod_left,Nat.mod_eq_of_lt (by omega),e1];rfl
theorem pol_chk {P:List Pt}(h3:3≤P.length):Pol P↔∀k,k<P.length→chk P k=true:=by
 match P,h3 with
 | a::b::r,h3 =>
  generalize hP:a::b::r=P at h3;have eP:P=a::b::r:=hP.symm;have e0:at_ P 0=a:=at_of (by rw[eP];rfl)
  constructor
  ·intro h k hk;have hc:=cvx_iff.1 (h.cyc a b r eP) k;rw[←eP]at hc;have t:=hc _ _ _ (ext_get eP (by omega)) (ext_get eP (by omega)) (ext_get eP (by omega))
   rw[Nat.mod_eq_of_lt hk]at t;unfold chk;simp only[Bool.and_eq_true,Bool.or_eq_true,decide_eq_true_eq,beq_iff_eq];refine⟨t,?_⟩;by_cases hk0:k=0
   ·exact .inl hk0
   ·right;have hmem:at_ P k∈b::r:=by
     have:=at_some hk;rw[eP]at this;cases k with
     | zero=>exact absurd rfl hk0
     | succ k=>rw[List.getElem?_cons_succ]at this;rw[eP];exact List.mem_of_getElem? this
    refine⟨by rw[e0];exact h.min a (b::r) eP _ hmem,?_⟩
    by_cases hkn:P.length≤k+1
    ·exact .inl hkn
    ·right;have h1:=at_some hk;have h2:=at_some (P:=P) (k:=k+1) (by omega)
     cases k with
     | zero=>exact absurd rfl hk0
     | succ k =>
      rw[e0];have h1':(b::r)[k]? = some (at_ P (k+1)):=by rw[eP]at h1;rw[eP];simpa using h1
      have h2':(b::r)[k+1]? = some (at_ P (k+1+1)):=by rw[eP]at h2;rw[eP];simpa using h2
      exact h.star a (b::r) _ _ _ _ eP (drop2 h1' h2')
  ·intro h;have hk:∀k,k<P.length→0<tn (at_ P k) (at_ P ((k+1) % P.length)) (at_ P ((k+2) % P.length))∧(k≠0→lx a (at_ P k)∧(k+1<P.length→0<tn a (at_ P k) (at_ P (k+1)))):=fun k hk=>by
    have:=h k hk;unfold chk at this;simp only[Bool.and_eq_true,Bool.or_eq_true,decide_eq_true_eq,beq_iff_eq]at this;refine⟨this.1,fun h0=>?_⟩;rcases this.2 with h1 | ⟨h1,h2⟩
    ·exact absurd h1 h0
    ·rw[e0]at h1 h2;exact⟨h1,fun hl=>h2.resolve_left (by omega)⟩
   refine⟨h3,fun a' b' r' e=>?_,fun a' r' e y hy=>?_,fun a' r' q x y t e e2=>?_⟩
   ·rw[eP]at e;simp only[List.cons.injEq]at e;obtain⟨q1,q2,q3⟩:=e;subst q1;subst q2;subst q3;refine cvx_iff.2 fun i x y z hx hy hz=>?_;rw[←eP]at hx hy hz;have hil:i+2<P.length+2:=by
     have:=(List.getElem?_eq_some_iff.1 hz).1;simpa using this
    rw[ext_get eP (by omega)]at hx hy hz
    obtain rfl:=Option.some.inj hx;obtain rfl:=Option.some.inj hy;obtain rfl:=Option.some.inj hz;have:=(hk i (by omega)).1
    rw[Nat.mod_eq_of_lt (show i<P.length by omega)]
    exact this
   ·rw[eP]at e;obtain⟨rfl,rfl⟩:=List.cons.inj e;obtain⟨i,hi⟩:=List.getElem?_of_mem hy;have hi':P[i+1]? = some y:=by rw[eP];simpa using hi
    have:=((hk (i+1) (List.getElem?_eq_some_iff.1 hi').1).2 (by omega)).1
    rwa [at_of hi']at this
   ·rw[eP]at e;obtain⟨rfl,rfl⟩:=List.cons.inj e;have h1:P[q.length+1]? = some x:=by
     rw[eP,List.getElem?_cons_succ,e2,List.getElem?_append_right (Nat.le_refl _)];simp
    have h2:P[q.length+1+1]? = some y:=by
     rw[eP,List.getElem?_cons_succ,e2,List.getElem?_append_right (by omega)];simp
    have:=((hk (q.length+1) (List.getElem?_eq_some_iff.1 h1).1).2 (by omega)).2 (List.getElem?_eq_some_iff.1 h2).1
    rwa [at_of h1,at_of h2]at this
end Hull
open Hull
theorem idxP {P:List Pt}{k:Nat}(h:k<P.length):idx (P.map em) (k:Int)=some (em (at_ P k)):=by
 rw[idx_nat,List.getElem?_map,at_some h];rfl
theorem remP {j n:Nat}(hn:0<n):remI .i64 (j:Int) (n:Int)=some ((j % n:Nat):Int):=by
 rw[remI_some (by omega)]
 rfl
theorem poly_step {P:List Pt} (hB:∀ q∈P,Bd 50 q) (h3:3≤P.length) (h12:P.length≤12) {k:Nat} (hk:k < P.length) :
  i_IsPolygon_s11 (P.map em) k=some (if chk P k then .inl ((k:Int)+1)else .inr (.inr false)):=by
 have bd:∀{j},j<P.length→Bd 50 (at_ P j):=fun h=>hB _ (at_mem h);have hm:∀j,j % P.length<P.length:=fun j=>Nat.mod_lt _ (by omega)
 unfold i_IsPolygon_s11;have d:decide ((k:Int)<((P.map em).length:Int))=true:=by simp;omega
 have w1:IntKind.i64.wrap ((k:Int)+1)=((k+1:Nat):Int):=by rw[wrap_small (by omega) (by omega)];omega
 have w2:IntKind.i64.wrap ((k:Int)+2)=((k+2:Nat):Int):=by rw[wrap_small (by omega) (by omega)];omega
 have e0:idx (P.map em) 0=some (em (at_ P 0)):=by
  have:=idxP (P:=P) (k:=0) (by omega)
  simpa using this
 rw[d,cond_true,idxP hk];simp only[Option.bind_some,w1,w2];rw[List.length_map,remP (by omega),remP (by omega)]
 simp only[Option.bind_some];rw[idxP (hm _),idxP (hm _)];simp only[Option.bind_some];rw[turn_em (by decide) (bd hk) (bd (hm _)) (bd (hm _))]
 simp only[Option.bind_some];unfold chk;by_cases ht:0<tn (at_ P k) (at_ P ((k+1) % P.length)) (at_ P ((k+2) % P.length))
 ·rw[show decide (tn (at_ P k) (at_ P ((k+1) % P.length)) (at_ P ((k+2) % P.length))≤0)=false from by simp;omega]
  rw[show decide (0<tn (at_ P k) (at_ P ((k+1) % P.length)) (at_ P ((k+2) % P.length)))=true from by simpa using ht]
  rw[cond_false,Bool.true_and];by_cases hk0:k=0
  ·subst hk0;simp
  ·have d1:decide ((k:Int)>0)=true:=by simp;omega
   rw[d1,cond_true,e0];simp only[Option.bind_some,compare_em];rw[show(k==0)=false from by simp[hk0],Bool.false_or]
   by_cases hl:lx (at_ P 0) (at_ P k)
   ·rw[if_pos hl,show decide ((-1:Int)≥0)=false from rfl,cond_false,cond_true,show decide (lx (at_ P 0) (at_ P k))=true from by simpa using hl,Bool.true_and]
    have w3:IntKind.i64.wrap ((P.length:Int)-1)=(P.length:Int)-1:=wrap_small (by omega) (by omega)
    rw[w3];by_cases hn:P.length≤k+1
    ·rw[show decide ((k:Int)<(P.length:Int)-1)=false from by simp;omega,cond_false,show decide (P.length≤k+1)=true from by simpa using hn]
     simp
    ·rw[show decide ((k:Int)<(P.length:Int)-1)=true from by simp;omega,cond_true,show decide (P.length≤k+1)=false from by simpa using hn,Bool.false_or]
     rw[idxP (show k+1<P.length by omega)]
     simp only[Option.bind_some];rw[turn_em (by decide) (bd (by omega)) (bd hk) (bd (by omega))]
     simp only[Option.bind_some];by_cases hs:0<tn (at_ P 0) (at_ P k) (at_ P (k+1))
     ·rw[show decide (tn (at_ P 0) (at_ P k) (at_ P (k+1))≤0)=false from by simp;omega,cond_false,show decide (0<tn (at_ P 0) (at_ P k) (at_ P (k+1)))=true from by simpa using hs]
      simp
     ·rw[show decide (tn (at_ P 0) (at_ P k) (at_ P (k+1))≤0)=true from by simp;omega,cond_true,show decide (0<tn (at_ P 0) (at_ P k) (at_ P (k+1)))=false from by simpa using hs]
      rfl
   ·rw[if_neg hl,show decide (lx (at_ P 0) (at_ P k))=false from by simpa using hl,Bool.false_and]
    by_cases h2:lx (at_ P k) (at_ P 0)
    ·rw[if_pos h2];rfl
    ·rw[if_neg h2];rfl
 ·rw[show decide (tn (at_ P k) (at_ P ((k+1) % P.length)) (at_ P ((k+2) % P.length))≤0)=true from by simp;omega]
  rw[show decide (0<tn (at_ P k) (at_ P ((k+1) % P.length)) (at_ P ((k+2) % P.length)))=false from by simpa using ht]
  rfl
theorem map_toP (P:List Pt):(P.map em).map toP=P:=by
 rw[List.map_map];have:P.map (toP∘em)=P.map id:=List.map_congr_left fun q _=>rfl;rw[this,List.map_id]
def isPoly (p:List (List Int)):Bool:=inR 3 12 p.length&&p.all (isPt 50)&&(List.range p.length).all (chk (p.map toP))
theorem isPoly_iff {P:List Pt}(hB:∀q∈P,Bd 50 q):isPoly (P.map em)=true↔P.length≤12∧Pol P:=by
 unfold isPoly;have e:=map_toP P;rw[e,all_pts hB,List.length_map];simp only[Bool.and_eq_true,inR_iff,List.all_eq_true,List.mem_range,and_true];constructor
 ·rintro⟨⟨h1,h2⟩,h3⟩
  exact⟨by omega,(pol_chk (by omega)).2 h3⟩
 ·rintro⟨h1,h2⟩
  have:=h2.len;exact⟨⟨by omega,by omega⟩,(pol_chk this).1 h2⟩
theorem iter_range {step:Int→Option (Int ⊕ (Unit ⊕ Bool))} (n:Nat) (p:Nat→Bool) (hs:∀ k,k < n→step k = some (if p k then .inl ((k:Int) + 1) else .inr (.inr false)))
  (he:step n=some (.inr (.inl ()))):iter step 0=some (if(List.range n).all p then .inl ()else .inr false):=by
 refine iter_all (step:=step) (List.range n) p (fun k x hx=>?_) (by rw[List.length_range];exact he)
 have hk:k<n:=by have:=(List.getElem?_eq_some_iff.1 hx).1;simpa using this
 rw[List.getElem?_range hk]at hx;obtain rfl:=Option.some.inj hx;exact hs k hk
theorem i_IsPolygon_eq {p:List (List Int)}(hl:p.length≤lim)(hx:∀v∈p,v.length≤lim):i_IsPolygon p=some (isPoly p):=by
 simp only[i_IsPolygon,within_eq,Option.bind_some];unfold isPoly;cases h1:inR 3 12 (p.length:Int)with
 | false=>rfl
 | true =>
  rw[Bool.not_true,cond_false,isPoints_eq hl hx];simp only[Option.bind_some,Bool.true_and];cases h2:p.all (isPt 50)with
  | false=>rfl
  | true =>
   simp only[if_true,Bool.true_and];obtain⟨P,rfl,hB⟩:=pts_of h2;have e:=map_toP P;rw[e];rw[inR_iff,List.length_map]at h1;have:=iter_range (step:=i_IsPolygon_s11 (P.map em)) P.length (chk P) (fun k hk=>poly_step hB (by omega) (by omega) hk) (by
    unfold i_IsPolygon_s11;simp)
   rw[this,List.length_map];cases (List.range P.length).all (chk P)<;>rfl
end Go.Proofs.YtfknaeamhcpfgaaGreat
