/-
  Supports and widths of polygons. Plain, no condition.
-/
import Derived.Test.YtfknaeamhcpfgaaGreatPlU
namespace Go.Proofs.YtfknaeamhcpfgaaGreat
open Go Go.Proofs.YtfknaeamhcpfgaaGreat.Eng
open Hull (Pt tn lx at_ at_some at_mem)
set_option linter.unusedVariables false
set_option linter.unusedSimpArgs false
def vecB (a : List Int) : Bool := inR 1 3 a.length && a.all (inR (-1000) 1000)
theorem i_IsVector_eq {a : List Int} (h : a.length ≤ lim) : i_IsVector a = some (vecB a) := by
  simp only [i_IsVector, within_eq, Option.bind_some, vecB]
  cases inR 1 3 (a.length : Int) with
  | false => rfl
  | true => rw [cond_true, allWithin_eq h]; rfl
def dt (a b : Pt) : Int := a.1 * b.1 + a.2 * b.2
theorem abs_mul_le {a b m n : Int} (h1 : -m ≤ a) (h2 : a ≤ m) (h3 : -n ≤ b) (h4 : b ≤ n) : -(m * n) ≤ a * b ∧ a * b ≤ m * n := by
  have ha : a.natAbs ≤ m.natAbs := by omega
  have hb : b.natAbs ≤ n.natAbs := by omega
  have h := Nat.mul_le_mul ha hb
  rw [← Int.natAbs_mul, ← Int.natAbs_mul] at h
  have hm : 0 ≤ m := by omega
  have hn : 0 ≤ n := by omega
  have := Int.mul_nonneg hm hn
  omega
theorem Bd.mono {m n : Int} {q : Pt} (h : Bd m q) (hmn : m ≤ n) : Bd n q := by unfold Bd at *; omega
def mx (a b : Int) : Int := if b > a then b else a
def mn (a b : Int) : Int := if b < a then b else a
/-- The greatest product with the corners. -/
def sup (P : List Pt) (a : Pt) : Int := P.foldl (fun m q => mx m (dt a q)) (dt a (at_ P 0))
theorem foldl_take_succ {α β : Type} (f : β → α → β) {l : List α} {k : Nat} {x : α} (h : l[k]? = some x) (b : β) : (l.take (k + 1)).foldl f b = f ((l.take k).foldl f b) x := by
  rw [List.take_add_one, h]; simp
def ngp (a : Pt) : Pt := (-a.1, -a.2)
theorem Bd.ngp {m : Int} {a : Pt} (h : Bd m a) : Bd m (ngp a) := by
  unfold Bd at h ⊢
  refine ⟨?_, ?_, ?_, ?_⟩ <;> simp only [Go.Proofs.YtfknaeamhcpfgaaGreat.ngp] <;> omega
end Go.Proofs.YtfknaeamhcpfgaaGreat
