/-
  Plain: partners of primitive vectors, by going through all of them. No condition.
-/
import Derived.Test.YtmdagdopfgiaiaaPlK
namespace Go.Proofs.Ytmdagdopfgiaiaa
open Go Go.Proofs.Ytmdagdopfgiaiaa.Eng
set_option linter.unusedVariables false
set_option linter.unusedSimpArgs false
def pEnd (v : List Int × Int) : Option (List Int) :=
  match v with
  | ([x, y], r) => some [IntKind.i64.wrap (IntKind.i64.wrap (0 - y) * r), IntKind.i64.wrap (x * r)]
  | _ => none
def pGood (a b : Int) (w : Option (List Int)) : Bool :=
  match w with
  | some [x, y] => (a * y - b * x == 1) && inR (-30) 30 x && inR (-30) 30 y
  | _ => false
noncomputable def pChk (a b : Int) : Bool := (Int.gcd a b != 1) || pGood a b ((iterN i_partner_s3 16 ([1, 0], ([0, 1], (a, b)))).bind pEnd)
noncomputable def pAll : Bool := (List.range 61).all fun i => (List.range 61).all fun j => pChk ((i : Int) - 30) ((j : Int) - 30)
set_option maxRecDepth 100000 in
theorem pAll_true : pAll = true := by decide +kernel
theorem pChk_all {a b : Int} (ha : -30 ≤ a ∧ a ≤ 30) (hb : -30 ≤ b ∧ b ≤ 30) : pChk a b = true := by
  have h := pAll_true
  unfold pAll at h
  have h1 := List.all_eq_true.1 h (a + 30).toNat (List.mem_range.2 (by omega))
  have h2 := List.all_eq_true.1 h1 (b + 30).toNat (List.mem_range.2 (by omega))
  have e1 : (((a + 30).toNat : Nat) : Int) - 30 = a := by omega
  have e2 : (((b + 30).toNat : Nat) : Int) - 30 = b := by omega
  rw [e1, e2] at h2
  exact h2
theorem partner_eq {a b : Int} (ha : -30 ≤ a ∧ a ≤ 30) (hb : -30 ≤ b ∧ b ≤ 30) (hg : Int.gcd a b = 1) : ∃ x y, i_partner [a, b] = some [x, y] ∧ a * y - b * x = 1 ∧ (-30 ≤ x ∧ x ≤ 30) ∧ (-30 ≤ y ∧ y ≤ 30) := by
  have h := pChk_all ha hb
  unfold pChk at h
  have hn : (Int.gcd a b != 1) = false := by simp [hg]
  rw [hn, Bool.false_or] at h
  cases hi : iterN i_partner_s3 16 ([1, 0], ([0, 1], (a, b))) with
  | none => rw [hi] at h; simp [pGood] at h
  | some v =>
    rw [hi, Option.bind_some] at h
    obtain ⟨l, r⟩ := v
    match l, h with
    | [x, y], h =>
      simp only [pEnd, pGood, Bool.and_eq_true, beq_iff_eq, inR_iff] at h
      have := iter_of hi
      refine ⟨_, _, ?_, h.1.1, h.1.2, h.2⟩
      have e0 : idx [a, b] 0 = some a := rfl
      have e1 : idx [a, b] 1 = some b := rfl
      simp only [i_partner, e0, e1, Option.bind_some, this]
      rfl
    | [], h => simp [pEnd, pGood] at h
    | [_], h => simp [pEnd, pGood] at h
    | _ :: _ :: _ :: _, h => simp [pEnd, pGood] at h
end Go.Proofs.Ytmdagdopfgiaiaa
