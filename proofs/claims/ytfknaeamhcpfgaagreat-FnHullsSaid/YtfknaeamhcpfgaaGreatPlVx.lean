/-
  Plain: what a hull's support function and corners are. No condition.
-/
import Derived.Test.YtfknaeamhcpfgaaGreatPlSf
import Derived.Test.YtfknaeamhcpfgaaGreatPlL
namespace Go.Proofs.YtfknaeamhcpfgaaGreat
open Go Go.Proofs.YtfknaeamhcpfgaaGreat.Eng
set_option linter.all false
open Hull (Pt Pol tn lx at_ at_some at_of at_mem Asc)
theorem hull_sub {S:List Pt}{q:Pt}(hq:q∈Hull.hull S):q∈S:=by
 unfold Hull.hull at hq;rcases List.mem_append.1 hq with hq | hq
 ·have hq:=(List.dropLast_sublist _).subset hq;rw[List.mem_reverse]at hq;rcases fold_push_sub _ _ q hq with h | h
  ·exact h
  ·simp at h
 ·have hq:=(List.dropLast_sublist _).subset hq;rw[List.mem_reverse]at hq;rcases fold_push_sub _ _ q hq with h | h
  ·simpa using h
  ·simp at h
theorem gcd_pos_side {P:List Pt}(h:Pol P){k:Nat}(hk:k<P.length):0<gcdP (at_ P k) (nx P k):=by
 unfold gcdP;rcases Nat.eq_zero_or_pos (Int.gcd ((nx P k).1-(at_ P k).1) ((nx P k).2-(at_ P k).2))with h0 | h0
 ·rw[Int.gcd_eq_zero_iff]at h0;exact absurd (Prod.ext (by omega) (by omega)) (next_ne h hk)
 ·omega
def pv (P:List Pt)(k:Nat):Nat:=(k+P.length-1) % P.length
theorem nx_pv {P:List Pt}{k:Nat}(hk:k<P.length):nx P (pv P k)=at_ P k:=by
 unfold nx pv;rw[Nat.mod_add_mod,show k+P.length-1+1=k+P.length by omega,Nat.add_mod_right,Nat.mod_eq_of_lt hk]
theorem vert {P:List Pt}(h:Pol P)(hB:∀q∈P,Bd 400 q){q:Pt}(hq:q∈P):∃a:Pt,∀r∈P,r≠q→dt a r<dt a q:=by
 have h3:=h.len;obtain⟨k,hk,ek⟩:=List.mem_iff_getElem.1 hq;have ek:at_ P k=q:=at_of (by rw[List.getElem?_eq_getElem hk,ek])
 obtain⟨nr,hn,_⟩:=side_sum h hB;have hp:pv P k<P.length:=Nat.mod_lt _ (by omega)
 obtain⟨_,a1,a2,a3,a4⟩:=hn k hk;obtain⟨_,b1,b2,b3,b4⟩:=hn (pv P k) hp;rw[nx_pv hk]at b2 b3 b4;have g1:=gcd_pos_side h hk;have g2:=gcd_pos_side h hp;rw[nx_pv hk]at g2;have hc:=(Hull.pol_chk h3).1 h (pv P k) hp;unfold Hull.chk at hc;simp only[Bool.and_eq_true,decide_eq_true_eq]at hc;have ht:=hc.1;have e1:at_ P ((pv P k+1) % P.length)=at_ P k:=nx_pv hk;have e2:at_ P ((pv P k+2) % P.length)=nx P k:=by
  unfold nx pv;rw[Nat.mod_add_mod,show k+P.length-1+2=(k+1)+P.length by omega,Nat.add_mod_right]
 rw[e1,e2]at ht;generalize nr k=d at *;generalize nr (pv P k)=e at *;have det:tn (at_ P (pv P k)) (at_ P k) (nx P k)=gcdP (at_ P (pv P k)) (at_ P k)*gcdP (at_ P k) (nx P k)*(e.1*d.2-e.2*d.1):=by
  have:tn (at_ P (pv P k)) (at_ P k) (nx P k)=((at_ P k).1-(at_ P (pv P k)).1)*((nx P k).2-(at_ P k).2)-((at_ P k).2-(at_ P (pv P k)).2)*((nx P k).1-(at_ P k).1):=by unfold tn;grind
  rw[this,a3,a4,b3,b4];grind
 have dne:e.1*d.2-e.2*d.1≠0:=fun h0=>by
  rw[det,h0,Int.mul_zero]at ht;omega
 refine⟨(d.1+e.1,d.2+e.2),fun r hr hne=>?_⟩;have s1:=(sup_spec (P:=P) (by omega) d).1 r hr
 have s2:=(sup_spec (P:=P) (by omega) e).1 r hr
 have ad:∀x:Pt,dt ((d.1+e.1,d.2+e.2)) x=dt d x+dt e x:=fun x=>by unfold dt;grind
 rw[ad,ad,←ek,a1,b2];rcases Int.lt_or_le (dt d r) (sup P d)with l1 | l1
 ·omega
 ·rcases Int.lt_or_le (dt e r) (sup P e)with l2 | l2
  ·omega
  ·exfalso;apply hne
   rw[←ek];have f1:dt d r=dt d (at_ P k):=by omega
   have f2:dt e r=dt e (at_ P k):=by omega
   have z1:(e.1*d.2-e.2*d.1)*(r.1-(at_ P k).1)=0:=by
    have:(e.1*d.2-e.2*d.1)*(r.1-(at_ P k).1)=d.2*(dt e r-dt e (at_ P k))-e.2*(dt d r-dt d (at_ P k)):=by unfold dt;grind
    rw[this,f1,f2];omega
   have z2:(e.1*d.2-e.2*d.1)*(r.2-(at_ P k).2)=0:=by
    have:(e.1*d.2-e.2*d.1)*(r.2-(at_ P k).2)=e.1*(dt d r-dt d (at_ P k))-d.1*(dt e r-dt e (at_ P k)):=by unfold dt;grind
    rw[this,f1,f2];omega
   rcases Int.mul_eq_zero.1 z1 with z | z
   ·exact absurd z dne
   rcases Int.mul_eq_zero.1 z2 with y | y
   ·exact absurd y dne
   exact Prod.ext (by omega) (by omega)
theorem sup_hull {S:List Pt}(hs:Asc S)(h3:3≤(Hull.hull S).length)(a:Pt):(∀s∈S,dt a s≤sup (Hull.hull S) a)∧∃q∈S,q∈Hull.hull S∧sup (Hull.hull S) a=dt a q:=by
 have hp:=Hull.pol_hull hs h3;obtain⟨_,q,hq,e⟩:=sup_spec (P:=Hull.hull S) (by omega) a
 exact⟨fun s hs'=>in_sup h3 hp a (hull_in hs h3 hs'),q,hull_sub hq,hq,e⟩
theorem vert_mem {S:List Pt}(hs:Asc S)(h3:3≤(Hull.hull S).length){x a:Pt}(hx:x∈S)(h:∀r∈S,r≠x→dt a r<dt a x):x∈Hull.hull S:=by
 obtain⟨h1,q,h2,h4,h5⟩:=sup_hull hs h3 a;by_cases he:q=x
 ·exact he▸h4
 ·have:=h q h2 he;have:=h1 x hx;omega
end Go.Proofs.YtfknaeamhcpfgaaGreat
