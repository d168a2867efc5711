/-
  Plain: generators. No condition.
-/
import Derived.Test.YtilggmmanhinbaaPl4
namespace Go.Proofs.Ytilggmmanhinbaa
open Go Go.Proofs.Ytilggmmanhinbaa.Eng
set_option linter.unusedVariables false
set_option linter.unusedSimpArgs false
theorem crsL_le {g h : List Int} (hg : isPt 6 g = true) (hh : isPt 6 h = true) : (crsL g h).natAbs ≤ 72 := by
  obtain ⟨a, b, rfl, h1, h2, h3, h4⟩ := isPt_iff.1 hg
  obtain ⟨c, d, rfl, h5, h6, h7, h8⟩ := isPt_iff.1 hh
  have e1 : (a * d).natAbs ≤ 6 * 6 := by rw [Int.natAbs_mul]; exact Nat.mul_le_mul (by omega) (by omega)
  have e2 : (b * c).natAbs ≤ 6 * 6 := by rw [Int.natAbs_mul]; exact Nat.mul_le_mul (by omega) (by omega)
  show (a * d - b * c).natAbs ≤ 72
  omega
def okG (g : List Int) : Bool := isPt 6 g && (gcdL g != 0)
/-- The sizes of the determinants of one with others. -/
def detR (g : List Int) (r : List (List Int)) : Int := (r.map fun h => ((crsL g h).natAbs : Int)).sum
/-- The sizes of all determinants. -/
def detL : List (List Int) → Int
  | [] => 0
  | g :: r => detR g r + detL r
theorem detR_nonneg (g : List Int) : ∀ r : List (List Int), 0 ≤ detR g r
  | [] => by simp [detR]
  | h :: r => by have := detR_nonneg g r; simp only [detR, List.map_cons, List.sum_cons] at *; omega
theorem detL_nonneg : ∀ x : List (List Int), 0 ≤ detL x
  | [] => by simp [detL]
  | g :: r => by have := detL_nonneg r; have := detR_nonneg g r; simp only [detL]; omega
theorem detR_le {g : List Int} (hg : isPt 6 g = true) : ∀ r : List (List Int), (∀ h ∈ r, isPt 6 h = true) → detR g r ≤ 72 * r.length
  | [], _ => by simp [detR]
  | h :: r, hr => by
    have h1 := detR_le hg r fun h hh => hr h (List.mem_cons_of_mem _ hh)
    have h2 := crsL_le hg (hr h (by simp))
    simp only [detR, List.map_cons, List.sum_cons, List.length_cons] at *
    omega
theorem detR_foldl (g : List Int) : ∀ (r : List (List Int)) (n : Int), r.foldl (fun n h => n + ((crsL g h).natAbs : Int)) n = n + detR g r
  | [], n => by simp [detR]
  | h :: r, n => by
    rw [List.foldl_cons, detR_foldl g r]
    simp only [detR, List.map_cons, List.sum_cons]; omega
theorem det_inner {g : List Int} {r : List (List Int)} (hg : isPt 6 g = true) (hr : ∀ h ∈ r, isPt 6 h = true) (hl : r.length ≤ 5) {n : Int} (h0 : 0 ≤ n) (h1 : n ≤ 100000) : iter (i_determinants_s6 g r) (n, 0) = some (n + detR g r) := by
  have := iter_list0 (step := i_determinants_s6 g r) (fun a k => (a, k)) r (fun n h => .inl (n + ((crsL g h).natAbs : Int))) (fun n => n) (fun k m => 0 ≤ m ∧ m ≤ 100000 + 72 * k) (fun k a x hk ha => ?_) (fun a _ => by simp [i_determinants_s6]) n ⟨h0, by omega⟩
  · rw [this, runL_fold, detR_foldl]
  · have hlt := len_lt hk
    have hd : decide ((k : Int) < (r.length : Int)) = true := by simp; omega
    have hx := hr x (List.mem_of_getElem? hk)
    have hc := crsL_le hg hx
    have hsm : Sm (crsL g x) := by unfold Sm; omega
    have hw : IntKind.i64.wrap (a + ((crsL g x).natAbs : Int)) = a + ((crsL g x).natAbs : Int) := wrap_id (by omega) (by omega)
    refine ⟨by simp only [i_determinants_s6, hd, cond_true, idx_some hk, Option.bind_some, (crossL_eq (by decide) hg hx).1, magnitude_eq hsm, hw, wrap_succ (Nat.le_trans (Nat.le_of_lt hlt) (Nat.le_trans hl (by decide)))], fun a' ha' => ?_⟩
    simp only [Sum.inl.injEq] at ha'
    omega
theorem detL_le : ∀ (x : List (List Int)), (∀ g ∈ x, isPt 6 g = true) → x.length ≤ 5 → detL x ≤ 72 * 5 * x.length
  | [], _, _ => by simp [detL]
  | g :: r, hx, hl => by
    have h1 := detL_le r (fun g hg => hx g (List.mem_cons_of_mem _ hg)) (by simp at hl; omega)
    have h2 := detR_le (hx g (by simp)) r fun g hg => hx g (List.mem_cons_of_mem _ hg)
    simp only [detL, List.length_cons] at *
    omega
theorem determinants_eq {x : List (List Int)} (hx : ∀ g ∈ x, isPt 6 g = true) (hl : x.length ≤ 5) : i_determinants x = some (detL x) := by
  unfold i_determinants
  have key := iter_fun (step := i_determinants_s3 x) (fun s : Int × Int => ∃ k : Nat, s.2 = k ∧ k ≤ x.length ∧ 0 ≤ s.1 ∧ s.1 ≤ 360 * k) (fun s => x.length - s.2.toNat) (fun s => s.1 + detL (x.drop s.2.toNat)) (fun s hs => ?_) (s := (0, 0)) ⟨0, rfl, by omega, by simp, by simp⟩
  · rw [key]; simp
  · obtain ⟨n, k'⟩ := s
    obtain ⟨k, hk, hkl, h0, h1⟩ := hs
    simp only at hk h0 h1
    subst hk
    by_cases hlt : k < x.length
    · have hxk : x[k]? = some x[k] := List.getElem?_eq_getElem hlt
      have hg := hx x[k] (List.getElem_mem hlt)
      have hd : decide ((k : Int) < (x.length : Int)) = true := by simp; omega
      have hlim : x.length ≤ lim := Nat.le_trans hl (by decide)
      have hs : subl x ((k : Int) + 1) (x.length : Int) = some (x.drop (k + 1)) := by
        have := subl_nat (xs := x) (a := k + 1) (b := x.length) (by omega) (Nat.le_refl _)
        rw [List.take_length] at this
        exact_mod_cast this
      have hr : ∀ h ∈ x.drop (k + 1), isPt 6 h = true := fun h hh => hx h (List.mem_of_mem_drop hh)
      have hb := detR_le hg _ hr
      have hb0 := detR_nonneg x[k] (x.drop (k + 1))
      have hdl : (x.drop (k + 1)).length = x.length - (k + 1) := by simp
      refine .inr ⟨(n + detR x[k] (x.drop (k + 1)), (k : Int) + 1), ?_, ⟨k + 1, by simp, by omega, by omega, by rw [hdl] at hb; omega⟩, by simp; omega, ?_⟩
      · simp only [i_determinants_s3, hd, cond_true, idx_some hxk, Option.bind_some, wrap_succ (Nat.le_trans hkl hlim), hs, det_inner hg hr (by rw [hdl]; omega) h0 (by omega)]
      · have e1 : ((k : Int) + 1).toNat = k + 1 := by omega
        simp only [e1, Int.toNat_natCast]
        rw [List.drop_eq_getElem_cons hlt]
        simp only [detL]; omega
    · have hkl' : k = x.length := by omega
      subst hkl'
      refine .inl ?_
      simp [i_determinants_s3, detL]
theorem gcdSum_eq {x : List (List Int)} (hx : ∀ g ∈ x, isPt 6 g = true) (hl : x.length ≤ 5) : i_gcdSum x = some ((x.map gcdL).sum) := by
  have hg6 : ∀ g, isPt 6 g = true → 0 ≤ gcdL g ∧ gcdL g ≤ 6 := fun g hg => by
    obtain ⟨a, b, rfl, h1, h2, h3, h4⟩ := isPt_iff.1 hg
    rw [gcdL_two]
    refine ⟨by omega, ?_⟩
    by_cases ha : a = 0
    · subst ha; rw [Int.zero_gcd]; omega
    · have := Int.gcd_le_natAbs_left b ha; omega
  have hf : ∀ (r : List (List Int)) (n : Int), r.foldl (fun n g => n + gcdL g) n = n + (r.map gcdL).sum := by
    intro r
    induction r with
    | nil => intro n; simp
    | cons g r ih => intro n; simp only [List.foldl_cons, ih, List.map_cons, List.sum_cons]; omega
  unfold i_gcdSum
  have := iter_list0 (step := i_gcdSum_s3 x) (fun a k => (a, k)) x (fun n g => .inl (n + gcdL g)) (fun n => n) (fun k m => 0 ≤ m ∧ m ≤ 6 * k) (fun k a g hk ha => ?_) (fun a _ => by simp [i_gcdSum_s3]) 0 ⟨by omega, by omega⟩
  · rw [this, runL_fold, hf]; simp
  · have hlt := len_lt hk
    have hd : decide ((k : Int) < (x.length : Int)) = true := by simp; omega
    have hg := hx g (List.mem_of_getElem? hk)
    have hb := hg6 g hg
    have hgl : g.length ≤ lim := by
      obtain ⟨a, b, rfl, _⟩ := isPt_iff.1 hg
      show 2 ≤ lim
      decide
    have hw : IntKind.i64.wrap (a + gcdL g) = a + gcdL g := wrap_id (by omega) (by omega)
    refine ⟨by simp only [i_gcdSum_s3, hd, cond_true, idx_some hk, Option.bind_some, gcdAll_eq hgl (isPt_sm (by decide) hg), hw, wrap_succ (Nat.le_trans (Nat.le_of_lt hlt) (Nat.le_trans hl (by decide)))], fun a' ha' => ?_⟩
    simp only [Sum.inl.injEq] at ha'
    omega
theorem i_AreGens_eq {x : List (List Int)} (h : FitLL x) : i_AreGens x = some (inR 2 5 x.length && x.all okG && decide (0 < detL x)) := by
  unfold i_AreGens
  rw [within_eq]
  simp only [Option.bind_some]
  cases hr : inR 2 5 (x.length : Int) with
  | false => rfl
  | true =>
    have hl := inR_iff.1 hr
    rw [iter_all x okG (fun k g hk => ?_) (by simp [i_AreGens_s4])]
    · cases ha : x.all okG with
      | false => rfl
      | true =>
        have hx : ∀ g ∈ x, isPt 6 g = true := fun g hg => by
          have := List.all_eq_true.1 ha g hg
          unfold okG at this
          simp only [Bool.and_eq_true] at this; exact this.1
        simp [determinants_eq hx (by omega)]
    · have hlt := len_lt hk
      have hd : decide ((k : Int) < (x.length : Int)) = true := by simp; omega
      have hgl := h.eachLim g (List.mem_of_getElem? hk)
      simp only [i_AreGens_s4, hd, cond_true, idx_some hk, Option.bind_some, isPoint_eq hgl (m := 6) (by decide) (by decide), wrap_succ (Nat.le_trans (Nat.le_of_lt hlt) h.lim)]
      unfold okG
      cases hp : isPt 6 g with
      | false => rfl
      | true =>
        simp only [Bool.not_true, cond_false, gcdAll_eq hgl (isPt_sm (by decide) hp), Option.bind_some, Bool.true_and, bne]
        cases gcdL g == 0 <;> rfl
/-- What the reference's loop does with one generator. -/
def genB (g0 : List Int) (flag : Bool) (g : List Int) : Bool ⊕ (Bool ⊕ Bool) := if okG g then .inl (flag && (crsL g0 g == 0)) else .inr (.inr false)
theorem s_AreGens_loop {x : List (List Int)} (h : FitLL x) : iter (s_AreGens_s3 x) (true, 0) = some (runL (genB (x.headD [])) (fun f => .inl f) true x) := by
  refine iter_list0 (fun a k => (a, k)) x _ _ (fun k _ => 0 < k → isPt 6 (x.headD []) = true) (fun k flag g hk hinv => ?_) (fun a _ => by simp [s_AreGens_s3]) true (by omega)
  have hlt := len_lt hk
  have hd : decide ((k : Int) < (x.length : Int)) = true := by simp; omega
  have hgl := h.eachLim g (List.mem_of_getElem? hk)
  have hx0 : idx x (0 : Int) = some (x.headD []) := by
    cases x with
    | nil => simp at hlt
    | cons a r => exact idx_of (by decide) rfl
  have h0 : okG g = true → isPt 6 (x.headD []) = true := fun hg => by
    by_cases hk0 : k = 0
    · subst hk0
      cases x with
      | nil => simp at hlt
      | cons a r =>
        simp at hk; subst hk
        unfold okG at hg
        simp only [Bool.and_eq_true] at hg; exact hg.1
    · exact hinv (by omega)
  refine ⟨?_, fun a' ha' _ => ?_⟩
  · simp only [s_AreGens_s3, hd, cond_true, idx_some hk, Option.bind_some, l2Small_eq hgl (m := 6) (by decide) (by decide), wrap_succ (Nat.le_trans (Nat.le_of_lt hlt) h.lim)]
    unfold genB okG isPt
    by_cases h2 : g.length = 2
    · have e1 : ((g.length : Int) != 2) = false := by simp [h2]
      have e2 : (g.length == 2) = true := by simp [h2]
      rw [e1, e2]
      simp only [cond_false, Bool.true_and]
      cases hp : g.all (inR (-6) 6) with
      | false => rfl
      | true =>
        have hpt : isPt 6 g = true := by unfold isPt; rw [e2, hp]; rfl
        simp only [Bool.not_true, cond_false, l2All_eq hgl (isPt_sm (by decide) hpt), Option.bind_some, Bool.true_and, bne]
        cases hgc : gcdL g == 0 with
        | true => rfl
        | false =>
          have hok : okG g = true := by unfold okG; rw [hpt]; simp [bne, hgc]
          cases flag with
          | false => rfl
          | true => simp only [cond_true, hx0, Option.bind_some, (crossL_eq (by decide) (h0 hok) hpt).2, Bool.true_and, Bool.not_false, hok, if_true, cond_false]
    · have e1 : ((g.length : Int) != 2) = true := by simp; omega
      have e2 : (g.length == 2) = false := by simp [h2]
      rw [e1, e2]; rfl
  · unfold genB at ha'
    by_cases hg : okG g = true
    · exact h0 hg
    · rw [if_neg hg] at ha'; simp at ha'
theorem genB_run (g0 : List Int) : ∀ (x : List (List Int)) (f : Bool), runL (genB g0) (fun f => (.inl f : Bool ⊕ Bool)) f x = if x.all okG then .inl (f && x.all fun g => crsL g0 g == 0) else .inr false
  | [], f => by simp [runL]
  | g :: r, f => by
    simp only [runL, List.all_cons]
    by_cases hg : okG g = true
    · have : genB g0 f g = .inl (f && (crsL g0 g == 0)) := by simp [genB, hg]
      rw [this]
      simp only [genB_run g0 r, hg, Bool.true_and, Bool.and_assoc]
    · have : genB g0 f g = .inr (.inr false) := by simp [genB, hg]
      rw [this]
      simp [hg]
theorem parallel {a b c d e f : Int} (h : a ≠ 0 ∨ b ≠ 0) (h1 : a * d - b * c = 0) (h2 : a * f - b * e = 0) : c * f - d * e = 0 := by
  have e1 : a * (c * f - d * e) = 0 := by
    have : a * (c * f - d * e) = c * (a * f - b * e) - e * (a * d - b * c) := by grind
    rw [this, h1, h2]; simp
  have e2 : b * (c * f - d * e) = 0 := by
    have : b * (c * f - d * e) = d * (a * f - b * e) - f * (a * d - b * c) := by grind
    rw [this, h1, h2]; simp
  rcases h with h | h
  · exact (Int.mul_eq_zero.1 e1).resolve_left h
  · exact (Int.mul_eq_zero.1 e2).resolve_left h
theorem okG_ne {g : List Int} (h : okG g = true) : ∃ a b, g = [a, b] ∧ (a ≠ 0 ∨ b ≠ 0) := by
  unfold okG at h
  simp only [Bool.and_eq_true, bne_iff_ne] at h
  obtain ⟨a, b, rfl, _⟩ := isPt_iff.1 h.1
  refine ⟨a, b, rfl, Classical.byContradiction fun hc => h.2 ?_⟩
  have ha : a = 0 := Classical.byContradiction fun h => hc (.inl h)
  have hb : b = 0 := Classical.byContradiction fun h => hc (.inr h)
  subst ha; subst hb
  rw [gcdL_two]; simp
theorem detR_pos {g : List Int} : ∀ {r : List (List Int)}, 0 < detR g r ↔ ∃ h ∈ r, crsL g h ≠ 0
  | [] => by simp [detR]
  | h :: r => by
    have ih := detR_pos (g := g) (r := r)
    have := detR_nonneg g r
    simp only [detR, List.map_cons, List.sum_cons, List.mem_cons, exists_eq_or_imp] at *
    rw [← ih]
    omega
theorem detL_zero {g0 : List Int} (h0 : okG g0 = true) : ∀ {x : List (List Int)}, (∀ g ∈ x, okG g = true) → (∀ g ∈ x, crsL g0 g = 0) → detL x = 0
  | [], _, _ => rfl
  | g :: r, hx, hc => by
    have h1 := detL_zero h0 (x := r) (fun g hg => hx g (List.mem_cons_of_mem _ hg)) (fun g hg => hc g (List.mem_cons_of_mem _ hg))
    have h2 : ¬ 0 < detR g r := fun hp => by
      obtain ⟨h, hh, hne⟩ := detR_pos.1 hp
      obtain ⟨a, b, e0, hab⟩ := okG_ne h0
      obtain ⟨c, d, e1, _⟩ := okG_ne (hx g (by simp))
      obtain ⟨e, f, e2, _⟩ := okG_ne (hx h (List.mem_cons_of_mem _ hh))
      have k1 := hc g (by simp)
      have k2 := hc h (List.mem_cons_of_mem _ hh)
      subst e0 e1 e2
      exact hne (parallel hab k1 k2)
    have := detR_nonneg g r
    simp only [detL]; omega
theorem flag_det {x : List (List Int)} (hx : x.all okG = true) : (!(x.all fun g => crsL (x.headD []) g == 0)) = decide (0 < detL x) := by
  cases x with
  | nil => rfl
  | cons g0 r =>
    have hx' := List.all_eq_true.1 hx
    have h0 : okG g0 = true := hx' g0 (by simp)
    simp only [List.headD_cons]
    cases hb : (g0 :: r).all fun g => crsL g0 g == 0 with
    | true =>
      have := detL_zero h0 (x := g0 :: r) hx' fun g hg => by simpa using List.all_eq_true.1 hb g hg
      rw [this]; rfl
    | false =>
      have : ∃ g ∈ g0 :: r, crsL g0 g ≠ 0 := Classical.byContradiction fun hc => by
        have : ((g0 :: r).all fun g => crsL g0 g == 0) = true := List.all_eq_true.2 fun g hg => by
          simp only [beq_iff_eq]
          exact Classical.byContradiction fun hn => hc ⟨g, hg, hn⟩
        rw [this] at hb; simp at hb
      obtain ⟨g, hg, hne⟩ := this
      have hg2 : g ∈ r := by
        rcases List.mem_cons.1 hg with rfl | hg
        · obtain ⟨a, b, rfl, _⟩ := okG_ne h0
          exact absurd (by show a * b - b * a = 0; grind) hne
        · exact hg
      have h1 : 0 < detR g0 r := detR_pos.2 ⟨g, hg2, hne⟩
      have := detL_nonneg r
      have : 0 < detL (g0 :: r) := by simp only [detL]; omega
      simp [this]
theorem s_AreGens_eq {x : List (List Int)} (h : FitLL x) : s_AreGens x = i_AreGens x := by
  rw [i_AreGens_eq h]
  unfold s_AreGens
  rw [s_AreGens_loop h, genB_run]
  cases ha : x.all okG with
  | false => simp
  | true =>
    have := flag_det ha
    simp only [if_true, Option.bind_some, Bool.true_and, l1In_eq, Bool.and_true]
    rw [← this]
    cases inR 2 5 (x.length : Int) <;> rfl
/-- A law on one list of lists, its answer a plain value. -/
theorem gens_of {x : List (List Int)} (h : (inR 2 5 (x.length : Int) && x.all okG && decide (0 < detL x)) = true) : (∀ g ∈ x, isPt 6 g = true) ∧ x.length ≤ 5 := by
  simp only [Bool.and_eq_true, List.all_eq_true] at h
  have hl := inR_iff.1 h.1.1
  exact ⟨fun g hg => by have := h.1.2 g hg; unfold okG at this; simp only [Bool.and_eq_true] at this; exact this.1, by omega⟩
end Go.Proofs.Ytilggmmanhinbaa
