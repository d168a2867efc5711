/-
  The whole points of a polygon in the reference; empty triangles. Plain, no condition.
-/
import Derived.Test.YtbmcboancoanfaaPlJ
namespace Go.Proofs.Ytbmcboancoanfaa
open Go Go.Proofs.Ytbmcboancoanfaa.Eng
open Hull (Pt tn lx at_ at_some at_mem)
set_option linter.unusedVariables false
set_option linter.unusedSimpArgs false

def rowF (P : List Pt) (x : Int) : List (List Int) := (row x (lo (·.2) P) (hi (·.2) P)).filter fun v => decide (inP P (toP v))

theorem ptsP_eq (P : List Pt) : ptsP P = (rng (lo (·.1) P) (hi (·.1) P)).flatMap (rowF P) := by
  unfold ptsP box rowF
  rw [latt2, List.filter_flatMap]

theorem row_get {x a b : Int} {k : Nat} (h : k < (b + 1 - a).toNat) : (row x a b)[k]? = some (em (x, a + (k : Int))) := by
  unfold row
  rw [List.getElem?_map, rng_get h]; rfl
theorem row_len (x a b : Int) : (row x a b).length = (b + 1 - a).toNat := by unfold row; rw [List.length_map, rng_len]

theorem rowF_len {P : List Pt} (hB : ∀ q ∈ P, Bd 50 q) (hP : 0 < P.length) (x : Int) : (rowF P x).length ≤ 101 := by
  have h2 := box_bd hB hP (·.2) fun q h => ⟨h.2.2.1, h.2.2.2⟩
  have := List.length_filter_le (fun v => decide (inP P (toP v))) (row x (lo (·.2) P) (hi (·.2) P))
  rw [row_len] at this
  unfold rowF
  omega

theorem flat_len {P : List Pt} (hB : ∀ q ∈ P, Bd 50 q) (hP : 0 < P.length) : (l : List Int) → (l.flatMap (rowF P)).length ≤ 101 * l.length
  | [] => by simp
  | x :: l => by
    have := flat_len hB hP l
    have := rowF_len hB hP x
    rw [List.flatMap_cons, List.length_append, List.length_cons]
    omega

/-! Triangles. -/

theorem sd2 (X Y Z q : Pt) : sd [X, Y, Z] q 0 = tn X Y q ∧ sd [X, Y, Z] q 1 = tn Y Z q ∧ sd [X, Y, Z] q 2 = tn Z X q := by
  simp [sd, at_]

theorem inP3 {X Y Z q : Pt} : inP [X, Y, Z] q ↔ 0 ≤ tn X Y q ∧ 0 ≤ tn Y Z q ∧ 0 ≤ tn Z X q := by
  constructor
  · intro h
    obtain ⟨e0, e1, e2⟩ := sd2 X Y Z q
    rw [← e0, ← e1, ← e2]
    exact ⟨h 0 (by simp), h 1 (by simp), h 2 (by simp)⟩
  · rintro ⟨h1, h2, h3⟩ k hk
    have : k = 0 ∨ k = 1 ∨ k = 2 := by simp at hk; omega
    obtain ⟨e0, e1, e2⟩ := sd2 X Y Z q
    rcases this with rfl | rfl | rfl
    · rw [e0]; exact h1
    · rw [e1]; exact h2
    · rw [e2]; exact h3

theorem pol3 {X Y Z : Pt} (h1 : lx X Y) (h2 : lx X Z) (h : 0 < tn X Y Z) : Hull.Pol [X, Y, Z] := by
  rw [Hull.pol_chk (by simp)]
  intro k hk
  have : k = 0 ∨ k = 1 ∨ k = 2 := by simp at hk; omega
  have c1 : 0 < tn Y Z X := by rw [Hull.tn_cyc]; exact h
  have c2 : 0 < tn Z X Y := by rw [Hull.tn_cyc]; exact c1
  rcases this with rfl | rfl | rfl
  · simpa [Hull.chk, at_] using h
  · simp [Hull.chk, at_]
    exact ⟨c1, h1, h⟩
  · simp [Hull.chk, at_]
    exact ⟨c2, h2⟩

theorem tri_rot {A B C : Pt} (h : 0 < tn A B C) : ∃ X Y Z, Hull.Pol [X, Y, Z] ∧ (∀ q, q ∈ [X, Y, Z] ↔ q ∈ [A, B, C]) ∧ ∀ q, inP [X, Y, Z] q ↔ inP [A, B, C] q := by
  have c1 : 0 < tn B C A := by rw [Hull.tn_cyc]; exact h
  have c2 : 0 < tn C A B := by rw [Hull.tn_cyc]; exact c1
  have nAB : A ≠ B := fun e => by subst e; unfold tn at h; simp at h
  have nBC : B ≠ C := fun e => by subst e; simp at h
  have nAC : A ≠ C := fun e => by subst e; simp at h
  have key : (lx A B ∧ lx A C) ∨ (lx B C ∧ lx B A) ∨ (lx C A ∧ lx C B) := by
    rcases Hull.lx_tri A B with h1 | h1 | h1
    · rcases Hull.lx_tri A C with h2 | h2 | h2
      · exact .inl ⟨h1, h2⟩
      · exact absurd h2 nAC
      · exact .inr (.inr ⟨h2, Hull.lx_trans h2 h1⟩)
    · exact absurd h1 nAB
    · rcases Hull.lx_tri B C with h2 | h2 | h2
      · exact .inr (.inl ⟨h2, h1⟩)
      · exact absurd h2 nBC
      · exact .inr (.inr ⟨Hull.lx_trans h2 h1, h2⟩)
  rcases key with ⟨h1, h2⟩ | ⟨h1, h2⟩ | ⟨h1, h2⟩
  · exact ⟨A, B, C, pol3 h1 h2 h, fun q => Iff.rfl, fun q => Iff.rfl⟩
  · refine ⟨B, C, A, pol3 h1 h2 c1, fun q => ?_, fun q => ?_⟩
    · simp only [List.mem_cons, List.not_mem_nil, or_false]
      constructor <;> (rintro (h | h | h) <;> simp [h])
    · rw [inP3, inP3]
      constructor <;> (rintro ⟨h1, h2, h3⟩; simp [*])
  · refine ⟨C, A, B, pol3 h1 h2 c2, fun q => ?_, fun q => ?_⟩
    · simp only [List.mem_cons, List.not_mem_nil, or_false]
      constructor <;> (rintro (h | h | h) <;> simp [h])
    · rw [inP3, inP3]
      constructor <;> (rintro ⟨h1, h2, h3⟩; simp [*])

/-- The corners in turn. -/
def ori (A B C : Pt) : List Pt := if tn A B C < 0 then [A, C, B] else [A, B, C]
theorem ori_mem {A B C q : Pt} : q ∈ ori A B C ↔ q ∈ [A, B, C] := by
  unfold ori
  split
  · simp only [List.mem_cons, List.not_mem_nil, or_false]
    constructor <;> (rintro (h | h | h) <;> simp [h])
  · rfl

theorem tri_norm {A B C : Pt} (h : tn A B C ≠ 0) : ∃ X Y Z, Hull.Pol [X, Y, Z] ∧ (∀ q, q ∈ [X, Y, Z] ↔ q ∈ [A, B, C]) ∧ ∀ q, inP [X, Y, Z] q ↔ inP (ori A B C) q := by
  by_cases hn : tn A B C < 0
  · obtain ⟨X, Y, Z, h1, h2, h3⟩ := tri_rot (A := A) (B := C) (C := B) (by rw [Hull.tn_swap]; omega)
    refine ⟨X, Y, Z, h1, fun q => ?_, fun q => ?_⟩
    · rw [h2, ← ori_mem (A := A) (B := B) (C := C)]
      unfold ori
      rw [if_pos hn]
    · rw [h3]; unfold ori; rw [if_pos hn]
  · obtain ⟨X, Y, Z, h1, h2, h3⟩ := tri_rot (A := A) (B := B) (C := C) (by omega)
    refine ⟨X, Y, Z, h1, h2, fun q => ?_⟩
    rw [h3]; unfold ori; rw [if_neg hn]

theorem hull_tri {X Y Z A B C : Pt} (h : Hull.Pol [X, Y, Z]) (hm : ∀ q, q ∈ [X, Y, Z] ↔ q ∈ [A, B, C]) : Hull.hull (Hull.sorted [A, B, C]) = [X, Y, Z] := by
  obtain ⟨h1, h2⟩ := Hull.sorted_spec [A, B, C]
  exact Hull.hull_pol h h1 fun y => by rw [h2, hm]

end Go.Proofs.Ytbmcboancoanfaa
