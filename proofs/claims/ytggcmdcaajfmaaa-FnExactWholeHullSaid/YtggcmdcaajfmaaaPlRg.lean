/-
  Regions: of a polygon, tightened. Plain, no condition.
-/
import Derived.Test.YtggcmdcaajfmaaaPlHv
import Derived.Test.YtggcmdcaajfmaaaPlTh
namespace Go.Proofs.Ytggcmdcaajfmaaa
open Go Go.Proofs.Ytggcmdcaajfmaaa.Eng
set_option linter.unusedVariables false
set_option linter.unusedSimpArgs false

/-! Marks of regions. -/

theorem markRegion_ms {n : Int} {xs : List Hf} (hl : xs.length ≤ 2097152) (ht : totC cH xs ≤ 2097152) (h0 : 0 ≤ n) (h1 : n ≤ 549755813888) : d_markRegion xs n = some (msH n xs, n + totC cH xs) := by
  unfold d_markRegion
  rw [d_markHalfS_ms hl ht h0 h1]; rfl

def regionL (p : List (List Int)) : Rg × Bool := if (halvesL p).2 && regB (2, (halvesL p).1) then ((2, (halvesL p).1), true) else ((0, []), false)

theorem region_fit {p : List (List Int)} : (regionL p).1.2.length ≤ 12 ∧ ∀ h ∈ (regionL p).1.2, h.1.length = 2 := by
  obtain ⟨f1, f2⟩ := halves_fit (p := p)
  unfold regionL
  split
  · exact ⟨f1, f2⟩
  · simp

/-! Tightened. -/

/-- One more half. -/
def tgB (a : List Hf) (h : Hf) : List Hf := if a.any (fun q => q == tight h) then a else a ++ [tight h]

structure SmH (n : Nat) (xs : List Hf) : Prop where
  len : xs.length ≤ n
  each : ∀ h ∈ xs, h.1.length ≤ 3

theorem tight_small {h : Hf} (hl : h.1.length ≤ 3) : (tight h).1.length ≤ 3 := by simp [tight]; exact hl

theorem tg_fold {xs : List Hf} (hx : ∀ h ∈ xs, h.1.length ≤ 3) : (k : Nat) → k ≤ xs.length → SmH k ((xs.take k).foldl tgB [])
  | 0, _ => ⟨by simp, by simp⟩
  | k + 1, hk => by
    have hg : xs[k]? = some xs[k] := List.getElem?_eq_getElem (by omega)
    have ih := tg_fold hx k (by omega)
    rw [List.take_add_one, hg, Option.toList_some, List.foldl_append]
    simp only [List.foldl_cons, List.foldl_nil, tgB]
    split
    · exact ⟨Nat.le_succ_of_le ih.len, ih.each⟩
    · refine ⟨by have := ih.len; simp; omega, fun h hh => ?_⟩
      rcases List.mem_append.1 hh with hh | hh
      · exact ih.each h hh
      · simp only [List.mem_singleton] at hh; subst hh; exact tight_small (hx _ (List.getElem_mem _))

def tightR (r : Rg) : Rg × Bool := if regB r then ((r.1, r.2.foldl tgB []), true) else ((0, []), false)

theorem tightR_fit {r : Rg} : SmH 8 (tightR r).1.2 := by
  unfold tightR
  split
  · rename_i hb
    unfold regB at hb
    simp only [Bool.and_eq_true, decide_eq_true_eq, List.all_eq_true] at hb
    have := tg_fold (xs := r.2) (fun h hm => (halfB_iff.1 (hb.2 h hm)).small) r.2.length (Nat.le_refl _)
    rw [List.take_length] at this
    exact ⟨Nat.le_trans this.len hb.1.2, this.each⟩
  · exact ⟨by simp, by simp⟩

theorem totH_sm {xs : List Hf} {n : Nat} (h : SmH n xs) : totC cH xs ≤ 4 * n := by
  have : ∀ (xs : List Hf), (∀ h ∈ xs, h.1.length ≤ 3) → totC cH xs ≤ 4 * xs.length := by
    intro xs
    induction xs with
    | nil => intro _; simp [totC]
    | cons x r ih =>
      intro h
      have := ih fun q hq => h q (List.mem_cons_of_mem _ hq)
      have h0 := h x List.mem_cons_self
      unfold totC cH at *
      simp only [List.map_cons, List.sum_cons, List.length_cons]
      omega
  have h1 := this xs h.each
  have h2 := h.len
  omega

theorem totC_H (xs : List Hf) : totC cH xs = totH xs := by
  unfold totC totH cH
  induction xs with
  | nil => rfl
  | cons x r ih => simp only [List.map_cons, List.sum_cons, List.length_cons]; omega

end Go.Proofs.Ytggcmdcaajfmaaa
