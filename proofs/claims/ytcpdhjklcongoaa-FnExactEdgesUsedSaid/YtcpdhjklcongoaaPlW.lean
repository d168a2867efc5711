/-
  Supports and widths of polygons. Plain, no condition.
-/
import Derived.Test.YtcpdhjklcongoaaPlU
namespace Go.Proofs.Ytcpdhjklcongoaa
open Go Go.Proofs.Ytcpdhjklcongoaa.Eng
open Hull (Pt tn lx at_ at_some at_mem)
set_option linter.unusedVariables false
set_option linter.unusedSimpArgs false
/-- A law on one list of lists, its answer a plain value. -/
theorem law_LLp (x : List (List Int)) (hx : TyOk (.list (.list (.int .i64))) x) {β : Type} (ne : β → β → Bool) (hne : ∀ b, ne b b = false) (s i : List (List Int) → Option β) (w : Option Bool)
    (hw : w = (w_szIntSS x 1048576).bind fun v1 => cond (decide (v1 < 0)) (some true) ((w_toIntSS x).bind fun v2 => (s v2).bind fun v3 => (w_toIntSS x).bind fun v4 => (i v4).bind fun v5 => cond (ne v5 v3) (some false)
      ((w_toIntSS x).bind fun v6 => (w_eqIntSS v4 v6).bind fun v7 => cond (!v7) (some false) (some true))))
    (hs : FitLL x → ∃ r, s x = some r ∧ i x = some r) : w = some true := by
  obtain ⟨a1, a2, _⟩ := ok_LL hx
  rw [hw, szIntSS_eq a1 a2 (by omega) (by omega)]
  simp only [Option.bind_some]
  by_cases h : (1048576 : Int) < totL x
  · rw [if_pos h]; rfl
  · rw [if_neg h]
    have hf := fitLL_of h (Int.le_refl _)
    have hd : decide ((1048576 : Int) - totL x < 0) = false := by simp; omega
    obtain ⟨r, h1, h2⟩ := hs hf
    simp only [hd, cond_false, hf.to, Option.bind_some, h1, h2, eqIntSS_eq hf.lim hf.eachLim, hne]
    simp
def dt (a b : Pt) : Int := a.1 * b.1 + a.2 * b.2
theorem abs_mul_le {a b m n : Int} (h1 : -m ≤ a) (h2 : a ≤ m) (h3 : -n ≤ b) (h4 : b ≤ n) : -(m * n) ≤ a * b ∧ a * b ≤ m * n := by
  have ha : a.natAbs ≤ m.natAbs := by omega
  have hb : b.natAbs ≤ n.natAbs := by omega
  have h := Nat.mul_le_mul ha hb
  rw [← Int.natAbs_mul, ← Int.natAbs_mul] at h
  have hm : 0 ≤ m := by omega
  have hn : 0 ≤ n := by omega
  have := Int.mul_nonneg hm hn
  omega
theorem Bd.mono {m n : Int} {q : Pt} (h : Bd m q) (hmn : m ≤ n) : Bd n q := by unfold Bd at *; omega
def mx (a b : Int) : Int := if b > a then b else a
def mn (a b : Int) : Int := if b < a then b else a
theorem l1Max_eq (a b : Int) : s_l1Max a b = some (mx a b) := by
  unfold s_l1Max mx
  by_cases h : a > b
  · rw [show decide (a > b) = true from by simpa using h, cond_true, if_neg (by omega)]
  · rw [show decide (a > b) = false from by simpa using h, cond_false]
    by_cases h2 : b > a
    · rw [if_pos h2]
    · rw [if_neg h2]; congr 1; omega
theorem l1Min_eq (a b : Int) : s_l1Min a b = some (mn a b) := by
  unfold s_l1Min mn
  by_cases h : a < b
  · rw [show decide (a < b) = true from by simpa using h, cond_true, if_neg (by omega)]
  · rw [show decide (a < b) = false from by simpa using h, cond_false]
    by_cases h2 : b < a
    · rw [if_pos h2]
    · rw [if_neg h2]; congr 1; omega
/-- The greatest product with the corners. -/
def sup (P : List Pt) (a : Pt) : Int := P.foldl (fun m q => mx m (dt a q)) (dt a (at_ P 0))
theorem foldl_take_succ {α β : Type} (f : β → α → β) {l : List α} {k : Nat} {x : α} (h : l[k]? = some x) (b : β) : (l.take (k + 1)).foldl f b = f ((l.take k).foldl f b) x := by
  rw [List.take_add_one, h]; simp
theorem poly_of {p : List (List Int)} (h : isPoly p = true) : ∃ P : List Pt, p = P.map em ∧ (∀ q ∈ P, Bd 50 q) ∧ 3 ≤ P.length ∧ P.length ≤ 12 ∧ Hull.Pol P := by
  have h' := h
  unfold isPoly at h'
  simp only [Bool.and_eq_true] at h'
  obtain ⟨P, rfl, hB⟩ := pts_of h'.1.2
  obtain ⟨h1, h2⟩ := (isPoly_iff hB).1 h
  exact ⟨P, rfl, hB, h2.len, h1, h2⟩
def ngp (a : Pt) : Pt := (-a.1, -a.2)
theorem Bd.ngp {m : Int} {a : Pt} (h : Bd m a) : Bd m (ngp a) := by
  unfold Bd at h ⊢
  refine ⟨?_, ?_, ?_, ?_⟩ <;> simp only [Go.Proofs.Ytcpdhjklcongoaa.ngp] <;> omega
end Go.Proofs.Ytcpdhjklcongoaa
