/-
  Polygons: the program's test and the reference's test say the same. Plain, no condition.
-/
import Derived.Test.YtednadbkcpcmfaaPlP
namespace Go.Proofs.Ytednadbkcpcmfaa
open Go Go.Proofs.Ytednadbkcpcmfaa.Eng
open Hull (Pt tn lx)
set_option linter.unusedVariables false
set_option linter.unusedSimpArgs false
namespace Hull
theorem drop2 {l : List Pt} {i : Nat} {a b : Pt} (ha : l[i]? = some a) (hb : l[i + 1]? = some b) : l = l.take i ++ a :: b :: l.drop (i + 2) := by
  obtain ⟨l1, e1⟩ := (List.getElem?_eq_some_iff.1 ha)
  obtain ⟨l2, e2⟩ := (List.getElem?_eq_some_iff.1 hb)
  have d1 := List.drop_eq_getElem_cons l1
  have d2 := List.drop_eq_getElem_cons l2
  rw [e1] at d1; rw [e2] at d2
  rw [← d2, ← d1, List.take_append_drop]
def at_ (P : List Pt) (k : Nat) : Pt := P.getD k (0, 0)
theorem at_some {P : List Pt} {k : Nat} (h : k < P.length) : P[k]? = some (at_ P k) := by simp [at_, List.getD_eq_getElem?_getD, h]
theorem at_mem {P : List Pt} {k : Nat} (h : k < P.length) : at_ P k ∈ P := List.mem_of_getElem? (at_some h)
/-- What the program asks at one corner. -/
def chk (P : List Pt) (k : Nat) : Bool :=
  decide (0 < tn (at_ P k) (at_ P ((k + 1) % P.length)) (at_ P ((k + 2) % P.length))) &&
    (k == 0 || (decide (lx (at_ P 0) (at_ P k)) && (decide (P.length ≤ k + 1) || decide (0 < tn (at_ P 0) (at_ P k) (at_ P (k + 1))))))
end Hull
open Hull
end Go.Proofs.Ytednadbkcpcmfaa
