/-
  Polygons: both ways to tell one. Plain, no condition.
-/
import Derived.Test.YtednadbkcpcmfaaPlQ
namespace Go.Proofs.Ytednadbkcpcmfaa
open Go Go.Proofs.Ytednadbkcpcmfaa.Eng
open Hull (Pt tn lx)
set_option linter.unusedVariables false
set_option linter.unusedSimpArgs false
def em (q : Pt) : List Int := [q.1, q.2]
def toP (v : List Int) : Pt := (v.getD 0 0, v.getD 1 0)
def Bd (m : Int) (q : Pt) : Prop := -m ≤ q.1 ∧ q.1 ≤ m ∧ -m ≤ q.2 ∧ q.2 ≤ m
@[simp] theorem toP_em (q : Pt) : toP (em q) = q := rfl
theorem wrap_small {x : Int} (h : -4611686018427387904 ≤ x) (h2 : x ≤ 4611686018427387904) : IntKind.i64.wrap x = x := wrap_id (by omega) (by omega)
theorem l2Same_eq {xs ys : List Int} (hl : xs.length ≤ lim) : s_l2Same xs ys = some (xs == ys) := by
  unfold s_l2Same
  by_cases h : xs.length = ys.length
  · have e : ((xs.length : Int) != (ys.length : Int)) = false := by simp [h]
    rw [e, cond_false]
    have := iter_eqs (step := s_l2Same_s4 xs ys) xs ys (fun a b => a == b) h (fun k x y hx hy => by
      have hk := len_lt hx
      unfold s_l2Same_s4
      have d : decide ((k : Int) < (xs.length : Int)) = true := by simp; omega
      rw [d, cond_true, idx_some hx, idx_some hy]
      simp only [Option.bind_some]
      rw [wrap_succ (by omega)]
      by_cases hxy : x = y
      · simp [hxy]
      · have : (x != y) = true := by simp [hxy]
        rw [this, cond_true, show (x == y) = false from by simp [hxy]]
        rfl) (by
      unfold s_l2Same_s4
      simp)
    rw [this, eqL_beq]
    cases hq : xs == ys <;> simp
  · have e : ((xs.length : Int) != (ys.length : Int)) = true := by simp; omega
    rw [e, cond_true]
    have : (xs == ys) = false := by
      cases hq : xs == ys with
      | false => rfl
      | true => exact absurd (by rw [eq_of_beq hq]) h
    rw [this]
end Go.Proofs.Ytednadbkcpcmfaa
