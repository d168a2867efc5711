/-
  Plain: the directions of least width. No condition.
-/
import Derived.Test.YtampigdidkhigaaPlX
import Derived.Test.YtampigdidkhigaaPlMs
namespace Go.Proofs.Ytampigdidkhigaa
open Go Go.Proofs.Ytampigdidkhigaa.Eng Go.Proofs.Ytampigdidkhigaa.Hull
set_option linter.unusedVariables false
set_option linter.unusedSimpArgs false
/-- The best of a list, and all where it is found. -/
theorem bst_all {P : List Pt} : (l pre : List (List Int)) → (s : Int × List (List Int)) → (∀ v ∈ pre ++ l, 0 ≤ wid P (toP v)) →
    ((pre = [] ∧ s = (-1, [])) ∨ (0 ≤ s.1 ∧ (∀ v ∈ pre, s.1 ≤ wid P (toP v)) ∧ s.2 = pre.filter fun v => wid P (toP v) == s.1)) →
    (pre ++ l = [] ∨ (0 ≤ (l.foldl (bst P) s).1 ∧ (l.foldl (bst P) s).2 = (pre ++ l).filter fun v => wid P (toP v) == (l.foldl (bst P) s).1))
  | [], pre, s, hw, h => by
    rcases h with ⟨h, _⟩ | ⟨h1, h2, h3⟩
    · exact .inl (by simpa using h)
    · exact .inr ⟨h1, by simpa using h3⟩
  | v :: l, pre, s, hw, h => by
    have hv := hw v (by simp)
    have ih := bst_all l (pre ++ [v]) (bst P s v) (by simpa using hw) (by
      right
      rcases h with ⟨rfl, rfl⟩ | ⟨h1, h2, h3⟩
      · have e : bst P (-1, []) v = (wid P (toP v), [v]) := by unfold bst; simp
        rw [e]
        exact ⟨hv, by simp, by simp⟩
      · unfold bst
        by_cases c1 : s.1 < 0 ∨ wid P (toP v) < s.1
        · rw [if_pos c1]
          have c1 : wid P (toP v) < s.1 := c1.elim (fun h => by omega) id
          refine ⟨hv, fun u hu => ?_, ?_⟩
          · rcases List.mem_append.1 hu with hu | hu
            · have := h2 u hu; simp only; omega
            · simp at hu; subst hu; exact Int.le_refl _
          · simp only [List.filter_append]
            have : (pre.filter fun u => wid P (toP u) == wid P (toP v)) = [] := by
              rw [List.filter_eq_nil_iff]
              intro u hu
              have := h2 u hu
              simp; omega
            rw [this]; simp
        · rw [if_neg c1]
          by_cases c2 : wid P (toP v) = s.1
          · rw [if_pos c2]
            refine ⟨h1, fun u hu => ?_, ?_⟩
            · rcases List.mem_append.1 hu with hu | hu
              · exact h2 u hu
              · simp at hu; subst hu; simp only; omega
            · simp only [List.filter_append, ← h3]
              simp [c2]
          · rw [if_neg c2]
            refine ⟨h1, fun u hu => ?_, ?_⟩
            · rcases List.mem_append.1 hu with hu | hu
              · exact h2 u hu
              · simp at hu; subst hu; omega
            · rw [List.filter_append, ← h3]
              simp [c2])
    simp only [List.foldl_cons]
    rcases ih with ih | ih
    · simp at ih
    · right
      simpa using ih
theorem wid_pos {P : List Pt} (hB : ∀ q ∈ P, Bd 50 q) (h1 : 0 < P.length) {a : Pt} (ha : Bd 1000 a) : 0 ≤ wid P a := by
  have s1 := (sup_bd hB h1 ha).2.2 (at_ P 0) (at_mem h1)
  have s2 := (sup_bd hB h1 ha.ngp).2.2 (at_ P 0) (at_mem h1)
  rw [dt_ngp] at s2
  unfold wid
  omega
/-- The width of a polygon, and of what is none. -/
theorem i_widthIn_poly {P : List Pt} (hp : FitLL (P.map em)) (hP : isPoly (P.map em) = true) {A : Pt} (hA : Bd 1000 A) : i_WidthIn (P.map em) (em A) = some (wid P A) := by
  unfold i_WidthIn
  obtain ⟨P', e, hB, g3, g12, _⟩ := poly_of hP
  have : P = P' := by
    have := congrArg (List.map toP) e
    rwa [map_toP, map_toP] at this
  subst this
  have hs1 := sup_bd hB (by omega) hA
  have hs2 := sup_bd hB (by omega) hA.ngp
  have hw : IntKind.i64.wrap (sup P A + sup P (ngp A)) = sup P A + sup P (ngp A) := wrap_small (by omega) (by omega)
  rw [i_IsPolygon_eq hp.lim hp.eachLim, hP]
  simp only [Option.bind_some, Bool.not_true, cond_false]
  rw [i_IsVector_eq (by simp [em, lim_eq]), vecB_em hA]
  simp only [Option.bind_some, Bool.not_true, cond_false]
  rw [show (((em A).length : Int) != 2) = false from rfl, cond_false, support_eq hB (by omega) g12 hA]
  simp only [Option.bind_some]
  have hA' := hA
  unfold Bd at hA'
  rw [show idx (em A) 0 = some A.1 from rfl, show idx (em A) 1 = some A.2 from rfl]
  simp only [Option.bind_some]
  rw [wrap_small (x := 0 - A.1) (by omega) (by omega), wrap_small (x := 0 - A.2) (by omega) (by omega)]
  have e : ([0 - A.1, 0 - A.2] : List Int) = em (ngp A) := by simp [em, ngp]
  rw [e, support_eq hB (by omega) g12 hA.ngp]
  simp only [Option.bind_some, hw]
  rfl
theorem i_widthIn_none {p : List (List Int)} (hp : FitLL p) (hP : isPoly p = false) (a : List Int) : i_WidthIn p a = some (-1) := by
  unfold i_WidthIn
  rw [i_IsPolygon_eq hp.lim hp.eachLim, hP]
  rfl
/-- What the picking loop gives. -/
theorem bestDirections_loop {p : List (List Int)} {f : List Int → Int} {m : Int} (hf : ∀ v ∈ dirs, i_WidthIn p v = some (f v)) (hm : i_LeastWidth p = some m) (h0 : 0 ≤ m) : i_BestDirections p = some (dirs.filter fun v => f v == m) := by
  unfold i_BestDirections
  rw [hm, directions_eq]
  simp only [Option.bind_some]
  rw [show decide (m < 0) = false from by simp; omega, cond_false]
  have hle := dirs_len
  generalize dirs = L at hf hle
  let g : Nat → Bool := fun j => f (L[j]?.getD []) == m
  have := iter_up (step := i_BestDirections_s6 p m L) L.length (fun k => ((k : Int), (List.range k).filter g)) ((List.range L.length).filter g) (fun k hk => by
    have hg : L[k]? = some L[k] := List.getElem?_eq_getElem hk
    unfold i_BestDirections_s6
    simp only
    rw [show decide ((k : Int) < (L.length : Int)) = true from by simp; omega, cond_true, inIdx_nat hk]
    simp only [Option.bind_some, Int.toNat_natCast, if_pos hk, hg, hf _ (List.getElem_mem hk)]
    have hfl : ((List.range k).filter g).length ≤ 400 := by
      have := List.length_filter_le g (List.range k)
      simp at this; omega
    have ap : appD 24 ((List.range k).filter g) [k] = some ((List.range k).filter g ++ [k]) := appD_some (by simp [lim_eq]; omega) (by simp [lim_eq]; omega)
    have hgk : g k = (f L[k] == m) := by
      show (f (L[k]?.getD []) == m) = _
      rw [hg]; rfl
    rw [range_filter_succ, hgk, wrap_small (by omega) (by omega), ap]
    cases c1 : (f L[k] == m) with
    | true => rfl
    | false => simp) (by
    unfold i_BestDirections_s6
    simp)
  have e : ((0, []) : Int × List Nat) = (((0 : Nat) : Int), (List.range 0).filter g) := by simp
  rw [e, this]
  simp only [Option.bind_some]
  rw [if_pos (range_filter_nodup g _)]
  exact congrArg some (pick_filter (fun v => f v == m) L)
theorem bestDirections_eq {p : List (List Int)} (hp : FitLL p) : ∃ r, s_BestDirections p = some r ∧ i_BestDirections p = some r ∧ r.length ≤ 2000 ∧ ∀ v ∈ r, v.length = 2 := by
  unfold s_BestDirections
  rw [s_IsPolygon_eq hp.lim hp.eachLim]
  simp only [Option.bind_some]
  cases h1 : isPoly p with
  | false =>
    refine ⟨[], rfl, ?_, by simp, by simp⟩
    have e2 : i_LeastWidth p = some (-1) := by
      rw [leastWidth_loop (f := fun _ => -1) fun v hv => i_widthIn_none hp h1 v]
      exact congrArg some (lst_none dirs)
    unfold i_BestDirections
    rw [e2]
    rfl
  | true =>
    obtain ⟨P, rfl, hB, g3, g12, _⟩ := poly_of h1
    rw [Bool.not_true, cond_false, best_eq hB (by omega) g12]
    simp only [Option.bind_some]
    have key := bst_all (P := P) dirs [] (-1, []) (fun v hv => wid_pos hB (by omega) ((isPt_em (dirs_pt v (by simpa using hv))).2.mono (by decide))) (.inl ⟨rfl, rfl⟩)
    have hne : ([] : List (List Int)) ++ dirs ≠ [] := fun h => by
      have := dirs_len
      rw [List.nil_append] at h
      rw [h] at this
      simp at this
    rcases key with key | ⟨k1, k2⟩
    · exact absurd key hne
    rw [List.nil_append] at k2
    have hw : ∀ v ∈ dirs, i_WidthIn (P.map em) v = some (wid P (toP v)) := fun v hv => by
      obtain ⟨e, hq⟩ := isPt_em (dirs_pt v hv)
      have := i_widthIn_poly hp h1 (hq.mono (n := 1000) (by decide))
      rw [← e] at this
      exact this
    have hm : i_LeastWidth (P.map em) = some (dirs.foldl (bst P) (-1, [])).1 := by
      rw [leastWidth_loop hw, bst_lst]
    refine ⟨(dirs.foldl (bst P) (-1, [])).2, rfl, ?_, ?_, fun v hv => ?_⟩
    · rw [bestDirections_loop hw hm k1]
      exact congrArg some k2.symm
    · rw [k2]
      have := List.length_filter_le (fun v => wid P (toP v) == (dirs.foldl (bst P) (-1, [])).1) dirs
      have h2 := dirs_len
      omega
    · rw [k2] at hv
      obtain ⟨e, hq⟩ := isPt_em (dirs_pt v (List.mem_filter.1 hv).1)
      rw [e]; rfl
end Go.Proofs.Ytampigdidkhigaa
