/-
  Regions: of a polygon, tightened. Plain, no condition.
-/
import Derived.Test.YtednadbkcpcmfaaPlHv
import Derived.Test.YtednadbkcpcmfaaPlTh
namespace Go.Proofs.Ytednadbkcpcmfaa
open Go Go.Proofs.Ytednadbkcpcmfaa.Eng
set_option linter.unusedVariables false
set_option linter.unusedSimpArgs false
/-! Tightened. -/
theorem l4SameHalf_eq {a b : Hf} (hl : a.1.length ≤ lim) : s_l4SameHalf a b = some (a == b) := by
  unfold s_l4SameHalf
  rw [l2Same_eq hl]
  simp only [Option.bind_some]
  have : (a == b) = ((a.1 == b.1) && (a.2 == b.2)) := rfl
  rw [this]
  cases a.1 == b.1 <;> rfl
theorem equalHalf_eq {a b : Hf} (hl : a.1.length ≤ lim) : i_equalHalf a b = some (a == b) := by
  unfold i_equalHalf
  rw [slEqual_eq hl]
  simp only [Option.bind_some]
  have : (a == b) = ((a.1 == b.1) && (a.2 == b.2)) := rfl
  rw [this]
  cases a.1 == b.1 <;> rfl
/-- One more half. -/
def tgB (a : List Hf) (h : Hf) : List Hf := if a.any (fun q => q == tight h) then a else a ++ [tight h]
structure SmH (n : Nat) (xs : List Hf) : Prop where
  len : xs.length ≤ n
  each : ∀ h ∈ xs, h.1.length ≤ 3
theorem found_loop {o out : Rg} {t : Hf} (hs : SmH 100 out.2) : iter s_TightenRegion_s10 ((o.1, o.2), ((out.1, out.2), ((t.1, t.2), (false, 0)))) = some ((o.1, o.2), ((out.1, out.2), ((t.1, t.2), out.2.any fun q => q == t))) := by
  have hl := hs.len
  have := iter_up (step := s_TightenRegion_s10) out.2.length (fun k => ((o.1, o.2), ((out.1, out.2), ((t.1, t.2), ((out.2.take k).any (fun q => q == t), (k : Int)))))) ((o.1, o.2), ((out.1, out.2), ((t.1, t.2), out.2.any fun q => q == t))) (fun k hk => by
    have hg : out.2[k]? = some out.2[k] := List.getElem?_eq_getElem hk
    have h3 := hs.each _ (List.getElem_mem hk)
    have et : (out.2.take (k + 1)).any (fun q => q == t) = ((out.2.take k).any (fun q => q == t) || (out.2[k] == t)) := by
      rw [List.take_add_one, hg, Option.toList_some, List.any_append, List.any_cons, List.any_nil, Bool.or_false]
    unfold s_TightenRegion_s10
    simp only
    rw [show decide ((k : Int) < (out.2.length : Int)) = true from by simp; omega, cond_true, wrap_small (x := (k : Int) + 1) (by omega) (by omega), et, Int.toNat_natCast, inIdx_nat hk, idx_some hg]
    cases (out.2.take k).any (fun q => q == t) with
    | true => rfl
    | false =>
      simp only [cond_false, Option.bind_some, Bool.false_or]
      rw [l4SameHalf_eq (a := out.2[k]) (b := (t.1, t.2)) (Nat.le_trans h3 (by decide))]
      rfl) (by
    unfold s_TightenRegion_s10
    simp)
  simpa using this
theorem find_loop {v2 : Rg × Rg × Int} {v4 : Hf × Bool} (hs : SmH 100 v2.2.1.2) : ∃ r, iter (i_TightenRegion_s70_2 v2 v4) 0 = some r ∧ (match r with
    | .inl _ => v2.2.1.2.any (fun q => q == v4.1) = false
    | .inr j => v2.2.1.2.any (fun q => q == v4.1) = true ∧ 0 ≤ j) := by
  have hl := hs.len
  obtain ⟨y, e, hy⟩ := iter_run (step := i_TightenRegion_s70_2 v2 v4) (fun s => 0 ≤ s ∧ s ≤ v2.2.1.2.length ∧ (v2.2.1.2.take s.toNat).any (fun q => q == v4.1) = false) (fun s => v2.2.1.2.length - s.toNat) (fun _ r => match r with
    | .inl _ => v2.2.1.2.any (fun q => q == v4.1) = false
    | .inr j => v2.2.1.2.any (fun q => q == v4.1) = true ∧ 0 ≤ j) (fun s ⟨g0, g1, g2⟩ => by
    obtain ⟨k, rfl⟩ := Int.eq_ofNat_of_zero_le g0
    rw [Int.toNat_natCast] at g2
    unfold i_TightenRegion_s70_2
    by_cases h : k < v2.2.1.2.length
    · have hg : v2.2.1.2[k]? = some v2.2.1.2[k] := List.getElem?_eq_getElem h
      have h3 := hs.each _ (List.getElem_mem h)
      have et : (v2.2.1.2.take (k + 1)).any (fun q => q == v4.1) = (v2.2.1.2[k] == v4.1) := by
        rw [List.take_add_one, hg]; simp only [Option.toList_some, List.any_append, List.any_cons, List.any_nil, Bool.or_false, g2, Bool.false_or]
      rw [show decide ((k : Int) < (v2.2.1.2.length : Int)) = true from by simp; omega, cond_true, idx_some hg]
      simp only [Option.bind_some]
      rw [equalHalf_eq (a := (v2.2.1.2[k].1, v2.2.1.2[k].2)) (b := (v4.1.1, v4.1.2)) (Nat.le_trans h3 (by decide))]
      simp only [Option.bind_some]
      cases hc : ((v2.2.1.2[k].1, v2.2.1.2[k].2) == (v4.1.1, v4.1.2) : Bool) with
      | true =>
        left
        refine ⟨_, rfl, ?_, by omega⟩
        rw [List.any_eq_true]
        exact ⟨_, List.getElem_mem h, hc⟩
      | false =>
        right
        refine ⟨_, rfl, ?_, ?_, fun y hy => hy⟩
        · rw [wrap_small (x := (k : Int) + 1) (by omega) (by omega)]
          refine ⟨by omega, by omega, ?_⟩
          rw [show ((k : Int) + 1).toNat = k + 1 from by omega, et]; exact hc
        · rw [wrap_small (x := (k : Int) + 1) (by omega) (by omega)]; omega
    · left
      rw [show decide ((k : Int) < (v2.2.1.2.length : Int)) = false from by simp; omega, cond_false]
      refine ⟨_, rfl, ?_⟩
      simp only
      rwa [List.take_of_length_le (by omega)] at g2) (0 : Int) ⟨by omega, by omega, by simp⟩
  exact ⟨y, e, hy⟩
theorem tight_small {h : Hf} (hl : h.1.length ≤ 3) : (tight h).1.length ≤ 3 := by simp [tight]; exact hl
theorem tg_fold {xs : List Hf} (hx : ∀ h ∈ xs, h.1.length ≤ 3) : (k : Nat) → k ≤ xs.length → SmH k ((xs.take k).foldl tgB [])
  | 0, _ => ⟨by simp, by simp⟩
  | k + 1, hk => by
    have hg : xs[k]? = some xs[k] := List.getElem?_eq_getElem (by omega)
    have ih := tg_fold hx k (by omega)
    rw [List.take_add_one, hg, Option.toList_some, List.foldl_append]
    simp only [List.foldl_cons, List.foldl_nil, tgB]
    split
    · exact ⟨Nat.le_succ_of_le ih.len, ih.each⟩
    · refine ⟨by have := ih.len; simp; omega, fun h hh => ?_⟩
      rcases List.mem_append.1 hh with hh | hh
      · exact ih.each h hh
      · simp only [List.mem_singleton] at hh; subst hh; exact tight_small (hx _ (List.getElem_mem _))
def tightR (r : Rg) : Rg × Bool := if regB r then ((r.1, r.2.foldl tgB []), true) else ((0, []), false)
theorem tightR_eq {r : Rg} (hl : r.2.length ≤ lim) (hh : ∀ h ∈ r.2, h.1.length ≤ lim) : s_TightenRegion r = some (tightR r) ∧ i_TightenRegion r = some (tightR r) := by
  unfold s_TightenRegion i_TightenRegion tightR
  rw [s_IsRegion_eq (r := (r.1, r.2)) hl hh, i_IsRegion_eq (r := (r.1, r.2)) hl hh]
  simp only [Option.bind_some]
  cases hb : regB (r.1, r.2) with
  | false =>
    exact ⟨rfl, rfl⟩
  | true =>
    have hb' : regB r = true := hb
    rw [Bool.not_true, cond_false, cond_false, if_pos rfl]
    unfold regB at hb'
    simp only [Bool.and_eq_true, decide_eq_true_eq, List.all_eq_true] at hb'
    obtain ⟨⟨n1, n8⟩, hall⟩ := hb'
    have isH : ∀ h ∈ r.2, IsHf r.1 h := fun h hm => halfB_iff.1 (hall h hm)
    have x3 : ∀ h ∈ r.2, h.1.length ≤ 3 := fun h hm => (isH h hm).small
    have S := iter_up (step := s_TightenRegion_s5 r) r.2.length (fun k => (((0 : Int), ([] : List Hf)), ((r.1, (r.2.take k).foldl tgB []), (k : Int)))) (((0 : Int), ([] : List Hf)), (r.1, r.2.foldl tgB [])) (fun k hk => by
      have hg : r.2[k]? = some r.2[k] := List.getElem?_eq_getElem hk
      have hm := List.getElem_mem hk
      have hs := tg_fold x3 k (by omega)
      have hsl := hs.len
      unfold s_TightenRegion_s5
      simp only
      rw [show decide ((k : Int) < (r.2.length : Int)) = true from by simp; omega, cond_true, idx_some hg]
      simp only [Option.bind_some]
      rw [s_Tight_eq (isH _ hm)]
      simp only [Option.bind_some]
      rw [found_loop (o := (0, [])) (out := (r.1, (r.2.take k).foldl tgB [])) (t := tight r.2[k]) ⟨by simp only; omega, hs.each⟩]
      simp only [Option.bind_some]
      rw [wrap_small (x := (k : Int) + 1) (by omega) (by omega), List.take_add_one, hg, Option.toList_some, List.foldl_append]
      simp only [List.foldl_cons, List.foldl_nil, tgB]
      cases ((r.2.take k).foldl tgB []).any (fun q => q == tight r.2[k]) with
      | true => rfl
      | false =>
        rw [Bool.not_false, cond_true, appD_some (by rw [lim_eq]; simp; omega) (by rw [lim_eq]; simp; omega)]
        rfl) (by
      unfold s_TightenRegion_s5
      simp)
    have T := iter_up (step := i_TightenRegion_s5 r) r.2.length (fun k => (((0 : Int), ([] : List Hf)), ((r.1, (r.2.take k).foldl tgB []), (k : Int)))) (((0 : Int), ([] : List Hf)), (r.1, r.2.foldl tgB [])) (fun k hk => by
      have hg : r.2[k]? = some r.2[k] := List.getElem?_eq_getElem hk
      have hm := List.getElem_mem hk
      have hs := tg_fold x3 k (by omega)
      have hsl := hs.len
      have q1 := isH _ hm
      have ql : halfB (r.2[k].1.length : Int) (r.2[k].1, r.2[k].2) = true := by
        have := hall _ hm
        rw [← q1.len] at this
        exact this
      unfold i_TightenRegion_s5
      simp only
      rw [show decide ((k : Int) < (r.2.length : Int)) = true from by simp; omega, cond_true, idx_some hg]
      simp only [Option.bind_some]
      rw [i_TightenHalf_eq (h := (r.2[k].1, r.2[k].2)) q1.lim, if_pos ql]
      simp only [Option.bind_some]
      obtain ⟨w, e1, e2⟩ := find_loop (v2 := (((0 : Int), ([] : List Hf)), ((r.1, (r.2.take k).foldl tgB []), (k : Int)))) (v4 := (tight (r.2[k].1, r.2[k].2), true)) ⟨by simp only; omega, hs.each⟩
      rw [e1]
      simp only [Option.bind_some]
      rw [wrap_small (x := (k : Int) + 1) (by omega) (by omega), List.take_add_one, hg, Option.toList_some, List.foldl_append]
      simp only [List.foldl_cons, List.foldl_nil, tgB]
      cases w with
      | inl u =>
        simp only at e2 ⊢
        have e2' : ((r.2.take k).foldl tgB []).any (fun q => q == tight r.2[k]) = false := e2
        rw [e2', show decide ((-1 : Int) ≥ 0) = false from rfl, Bool.not_false, cond_true, appD_some (by rw [lim_eq]; simp; omega) (by rw [lim_eq]; simp; omega)]
        rfl
      | inr j =>
        simp only at e2 ⊢
        have e2' : ((r.2.take k).foldl tgB []).any (fun q => q == tight r.2[k]) = true := e2.1
        rw [e2', show decide (j ≥ 0) = true from by simpa using e2.2]
        rfl) (by
      unfold i_TightenRegion_s5
      simp)
    have e0 : ((((0 : Int), ([] : List Hf)), ((r.1, ([] : List Hf)), (0 : Int)))) = (((0 : Int), ([] : List Hf)), ((r.1, (r.2.take 0).foldl tgB []), ((0 : Nat) : Int))) := rfl
    rw [e0, S, T]
    exact ⟨rfl, rfl⟩
theorem tightR_fit {r : Rg} : SmH 8 (tightR r).1.2 := by
  unfold tightR
  split
  · rename_i hb
    unfold regB at hb
    simp only [Bool.and_eq_true, decide_eq_true_eq, List.all_eq_true] at hb
    have := tg_fold (xs := r.2) (fun h hm => (halfB_iff.1 (hb.2 h hm)).small) r.2.length (Nat.le_refl _)
    rw [List.take_length] at this
    exact ⟨Nat.le_trans this.len hb.1.2, this.each⟩
  · exact ⟨by simp, by simp⟩
end Go.Proofs.Ytednadbkcpcmfaa
