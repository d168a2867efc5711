/-
  Corner cones; smooth corners. Plain, no condition.
-/
import Derived.Test.YtfknaeamhcpfgaaGreatPlX
import Derived.Test.YtfknaeamhcpfgaaGreatPlM
namespace Go.Proofs.YtfknaeamhcpfgaaGreat
open Go Go.Proofs.YtfknaeamhcpfgaaGreat.Eng
open Hull (Pt tn lx at_ at_some at_mem)
set_option linter.all false
def prm (d:Pt):Pt:=(d.1.tdiv (Int.gcd d.1 d.2),d.2.tdiv (Int.gcd d.1 d.2))
theorem gcd_pos {d:Pt}(h:d≠(0,0)):0<Int.gcd d.1 d.2:=by
 rcases Nat.eq_zero_or_pos (Int.gcd d.1 d.2)with h0 | h0
 ·exfalso;rw[Int.gcd_eq_zero_iff]at h0;exact h (Prod.ext h0.1 h0.2)
 ·exact h0
def sbp (a b:Pt):Pt:=(a.1-b.1,a.2-b.2)
theorem sbp_em {a b:Pt}(ha:Bd 50 a)(hb:Bd 50 b):i_minus (em a) (em b)=some (em (sbp a b))∧s_l2Less (em a) (em b)=some (em (sbp a b))∧Bd 1000 (sbp a b) :=
 ⟨minus_em (by decide) ha hb,less_em (by decide) ha hb,by unfold Bd sbp at *;simp only;omega⟩
theorem edge_ne {P:List Pt}(h:Hull.Pol P){k:Nat}(hk:k<P.length):sbp (at_ P ((k+1) % P.length)) (at_ P k)≠(0,0)∧sbp (at_ P ((k+P.length-1) % P.length)) (at_ P k)≠(0,0):=by
 have h3:=h.len;have key:∀j,j<P.length→at_ P j≠at_ P ((j+1) % P.length):=fun j hj e=>by
  have:=(Hull.pol_chk h3).1 h j hj;unfold Hull.chk at this;simp only[Bool.and_eq_true,decide_eq_true_eq]at this;have t:=this.1;rw[←e]at t;have z:tn (at_ P j) (at_ P j) (at_ P ((j+2) % P.length))=0:=by unfold Hull.tn;grind
  omega
 have sb0:∀a b:Pt,sbp a b=(0,0)→a=b:=fun a b e=>by
  unfold sbp at e;have e1:=congrArg Prod.fst e;have e2:=congrArg Prod.snd e;simp only at e1 e2;exact Prod.ext (by omega) (by omega)
 refine⟨fun e=>key k hk (sb0 _ _ e).symm,fun e=>?_⟩;have hj:(k+P.length-1) % P.length<P.length:=Nat.mod_lt _ (by omega)
 have:=key _ hj;have e3:((k+P.length-1) % P.length+1) % P.length=k:=by
  rcases Nat.eq_zero_or_pos k with rfl | h0
  ·have e4:(0+P.length-1) % P.length=P.length-1:=by rw[Nat.zero_add];exact Nat.mod_eq_of_lt (by omega)
   rw[e4,show P.length-1+1=P.length by omega,Nat.mod_self]
  ·rw[show k+P.length-1=(k-1)+P.length by omega,Nat.add_mod_right,Nat.mod_eq_of_lt (show k-1<P.length by omega),show k-1+1=k by omega,Nat.mod_eq_of_lt hk]
 rw[e3]at this;exact this (sb0 _ _ e)
end Go.Proofs.YtfknaeamhcpfgaaGreat
