/-
  Whole points of polygons in the program; layers. Plain, no condition.
-/
import Derived.Test.YtfknaeamhcpfgaaGreatPlO
import Derived.Test.YtfknaeamhcpfgaaGreatPlG
namespace Go.Proofs.YtfknaeamhcpfgaaGreat
open Go Go.Proofs.YtfknaeamhcpfgaaGreat.Eng
open Hull (Pt tn lx at_ at_some at_mem)
set_option linter.all false
theorem in_sup {P:List Pt}(h3:3≤P.length)(hp:Hull.Pol P)(a:Pt){q:Pt}(hq:inP P q):dt a q≤sup P a:=by
 obtain⟨h1,V,hV,hs⟩:=hi_spec (dt a) (P:=P) (by omega)
 have hs:sup P a=dt a V:=hs;have h1:∀q∈P,dt a q≤sup P a:=h1;obtain⟨k,hk,rfl⟩:=List.mem_iff_getElem.1 hV;have hkV:at_ P k=P[k]:=Hull.at_of (List.getElem?_eq_getElem hk);rw[←hkV]at hs;have hj:(k+P.length-1) % P.length<P.length:=Nat.mod_lt _ (by omega)
 generalize hje:(k+P.length-1) % P.length=j at hj;have hj1:(j+1) % P.length=k:=by
  rw[←hje,Nat.add_mod,Nat.mod_mod,←Nat.add_mod,show k+P.length-1+1=k+P.length from by omega,Nat.add_mod_right,Nat.mod_eq_of_lt hk]
 have hj2:(j+2) % P.length=(k+1) % P.length:=by
  rw[show j+2=j+1+1 from rfl,Nat.add_mod (j+1),hj1,Nat.add_mod_mod]
 have hc:=(Hull.pol_chk h3).1 hp j hj;unfold Hull.chk at hc;simp only[Bool.and_eq_true,decide_eq_true_eq]at hc;have hc:=hc.1;rw[hj1,hj2]at hc;have q1:=hq j hj;have q2:=hq k hk;unfold sd at q1 q2;rw[hj1]at q1;have hw:(k+1) % P.length<P.length:=Nat.mod_lt _ (by omega)
 have m1:=h1 _ (at_mem hj);have m2:=h1 _ (at_mem hw);rw[hs]at m1 m2 ⊢;generalize at_ P j=U at hc q1 m1;generalize at_ P ((k+1) % P.length)=W at hc q2 m2;generalize at_ P k=V at hc q1 q2 m1 m2;unfold dt at m1 m2 ⊢;unfold tn at hc q1 q2;have e1:((V.1 - U.1) * (W.2 - U.2) - (V.2 - U.2) * (W.1 - U.1)) * ((a.1 * q.1 + a.2 * q.2) - (a.1 * V.1 + a.2 * V.2)) =
   ((V.1-U.1)*(q.2-U.2)-(V.2-U.2)*(q.1-U.1))*((a.1*W.1+a.2*W.2)-(a.1*V.1+a.2*V.2))+((W.1-V.1)*(q.2-V.2)-(W.2-V.2)*(q.1-V.1))*((a.1*U.1+a.2*U.2)-(a.1*V.1+a.2*V.2)):=by grind
 generalize (V.1-U.1)*(W.2-U.2)-(V.2-U.2)*(W.1-U.1)=X at e1 hc;generalize (V.1-U.1)*(q.2-U.2)-(V.2-U.2)*(q.1-U.1)=Y at e1 q1;generalize (W.1-V.1)*(q.2-V.2)-(W.2-V.2)*(q.1-V.1)=Z at e1 q2;have n1:Y*((a.1*W.1+a.2*W.2)-(a.1*V.1+a.2*V.2))≤0:=Int.mul_nonpos_of_nonneg_of_nonpos q1 (by omega)
 have n2:Z*((a.1*U.1+a.2*U.2)-(a.1*V.1+a.2*V.2))≤0:=Int.mul_nonpos_of_nonneg_of_nonpos q2 (by omega)
 refine Int.not_lt.1 fun hlt=>?_;have:0<X*((a.1*q.1+a.2*q.2)-(a.1*V.1+a.2*V.2)):=Int.mul_pos hc (by omega)
 omega
end Go.Proofs.YtfknaeamhcpfgaaGreat
