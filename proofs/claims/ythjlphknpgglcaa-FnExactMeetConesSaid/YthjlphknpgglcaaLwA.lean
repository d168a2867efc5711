/-
  The first laws, in plain terms. No condition.
-/
import Derived.Test.YthjlphknpgglcaaPl3
namespace Go.Proofs.Ythjlphknpgglcaa
open Go Eng
set_option linter.unusedVariables false
set_option linter.unusedSimpArgs false

theorem example_eq {x : Int} (h : I64 x) : i_ExampleText x = s_ExampleText x := by
  unfold i_ExampleText s_ExampleText
  rw [within_eq]
  simp only [Option.bind_some, List.length_cons, List.length_nil]
  by_cases hx : 1 ≤ x ∧ x ≤ 6
  · have : x = 1 ∨ x = 2 ∨ x = 3 ∨ x = 4 ∨ x = 5 ∨ x = 6 := by omega
    rcases this with rfl | rfl | rfl | rfl | rfl | rfl <;> rfl
  · have h1 : inR 1 ((0 + 1 + 1 + 1 + 1 + 1 + 1 : Nat) : Int) x = false := by
      cases hb : inR 1 ((0 + 1 + 1 + 1 + 1 + 1 + 1 : Nat) : Int) x with
      | false => rfl
      | true => exact absurd (inR_iff.1 hb) hx
    rw [h1]
    have e1 : (x == 1) = false := by simp; omega
    have e2 : (x == 2) = false := by simp; omega
    have e3 : (x == 3) = false := by simp; omega
    have e4 : (x == 4) = false := by simp; omega
    have e5 : (x == 5) = false := by simp; omega
    have e6 : (x == 6) = false := by simp; omega
    rw [e1, e2, e3, e4, e5, e6]; rfl

theorem s_ExampleText_some (x : Int) : ∃ s, s_ExampleText x = some s := by
  unfold s_ExampleText
  simp only [cond_ite]
  repeat' split
  all_goals exact ⟨_, rfl⟩

theorem law_ExampleText (x : Int) (h : TyOk (.int .i64) x) : w_FnExactExampleText x = some true := by
  obtain ⟨s, hs⟩ := s_ExampleText_some x
  unfold w_FnExactExampleText
  rw [example_eq (ok_I64 h), hs]
  simp

/-! Sessions. -/

/-- Lists that the laws let by. -/
structure FitLL (x : List (List Int)) : Prop where
  len : x.length ≤ 1048576
  each : ∀ y ∈ x, y.length ≤ 1048576

theorem FitLL.lim {x : List (List Int)} (h : FitLL x) : x.length ≤ Eng.lim := Nat.le_trans h.len (by decide)
theorem FitLL.eachLim {x : List (List Int)} (h : FitLL x) : ∀ y ∈ x, y.length ≤ Eng.lim := fun y hy => Nat.le_trans (h.each y hy) (by decide)
theorem FitLL.to {x : List (List Int)} (h : FitLL x) : w_toIntSS x = some x := toIntSS_eq (by have := h.len; rw [lim_eq]; omega) fun y hy => by have := h.each y hy; rw [lim_eq]; omega

theorem ok_LL {x : List (List Int)} (h : TyOk (.list (.list (.int .i64))) x) : x.length ≤ lim ∧ (∀ y ∈ x, y.length ≤ lim) ∧ ∀ y ∈ x, ∀ z ∈ y, I64 z :=
  ⟨h.1, fun y hy => (h.2 y hy).1, fun y hy z hz => ok_I64 ((h.2 y hy).2 z hz)⟩

theorem sum_mem {l : List Nat} {n : Nat} (h : n ∈ l) : n ≤ l.sum := by
  induction l with
  | nil => simp at h
  | cons a l ih =>
    simp only [List.sum_cons]
    rcases List.mem_cons.1 h with rfl | h
    · omega
    · have := ih h; omega

theorem fitLL_of {x : List (List Int)} {left : Int} (h : ¬ left < totL x) (h1 : left ≤ 1048576) : FitLL x := by
  unfold totL at h
  refine ⟨by omega, fun y hy => ?_⟩
  have := sum_mem (List.mem_map.2 ⟨y, hy, rfl⟩ : y.length ∈ x.map List.length)
  omega

theorem l2Same_eq {xs ys : List Int} (hl : xs.length ≤ lim) : s_l2Same xs ys = some (xs == ys) := by
  unfold s_l2Same
  rw [cond_ite]
  by_cases h : xs.length = ys.length
  · rw [if_neg (by simp [h]), iter_eqs xs ys (fun a b => a == b) h (fun k x y hx hy => ?_) (by simp [s_l2Same_s4])]
    · rw [eqL_beq]
      cases xs == ys <;> rfl
    · have hlt := len_lt hx
      have hd : decide ((k : Int) < (xs.length : Int)) = true := by simp; omega
      simp only [s_l2Same_s4, hd, cond_true, idx_some hx, idx_some hy, Option.bind_some, wrap_succ (Nat.le_trans (Nat.le_of_lt hlt) hl)]
      by_cases hxy : x = y
      · simp [hxy]
      · have hb : (x == y) = false := by simp [hxy]
        simp [bne, hb]
  · rw [if_pos (by simp; omega)]
    congr 1
    exact (beq_eq_false_iff_ne.2 fun e => h (by rw [e])).symm

theorem slEqual_eq {xs ys : List Int} (hl : xs.length ≤ lim) : g_slices_Equal xs ys = some (xs == ys) := by
  unfold g_slices_Equal
  rw [cond_ite]
  by_cases h : xs.length = ys.length
  · rw [if_neg (by simp [h]), iter_eqs xs ys (fun a b => a == b) h (fun k x y hx hy => ?_) (by simp [g_slices_Equal_s4])]
    · rw [eqL_beq]
      cases xs == ys <;> rfl
    · have hlt := len_lt hx
      have hd : decide ((k : Int) < (xs.length : Int)) = true := by simp; omega
      simp only [g_slices_Equal_s4, hd, cond_true, idx_some hx, idx_some hy, Option.bind_some, wrap_succ (Nat.le_trans (Nat.le_of_lt hlt) hl)]
      by_cases hxy : x = y
      · simp [hxy]
      · have hb : (x == y) = false := by simp [hxy]
        simp [bne, hb]
  · rw [if_pos (by simp; omega)]
    congr 1
    exact (beq_eq_false_iff_ne.2 fun e => h (by rw [e])).symm

theorem l7SameList_eq {xs ys : List (List Int)} (hl : xs.length ≤ lim) (hx : ∀ x ∈ xs, x.length ≤ lim) : s_l7SameList xs ys = some (xs == ys) := by
  unfold s_l7SameList
  rw [cond_ite]
  by_cases h : xs.length = ys.length
  · rw [if_neg (by simp [h]), iter_eqs xs ys (fun a b => a == b) h (fun k x y hkx hky => ?_) (by simp [s_l7SameList_s4])]
    · rw [eqL_beq]
      cases xs == ys <;> rfl
    · have hlt := len_lt hkx
      have hd : decide ((k : Int) < (xs.length : Int)) = true := by simp; omega
      simp only [s_l7SameList_s4, hd, cond_true, idx_some hkx, idx_some hky, Option.bind_some, l2Same_eq (hx x (List.mem_of_getElem? hkx)), wrap_succ (Nat.le_trans (Nat.le_of_lt hlt) hl)]
      cases x == y <;> rfl
  · rw [if_pos (by simp; omega)]
    congr 1
    exact (beq_eq_false_iff_ne.2 fun e => h (by rw [e])).symm

theorem slEqualFunc_eq {xs ys : List (List Int)} (hl : xs.length ≤ lim) (hx : ∀ x ∈ xs, x.length ≤ lim) : g_slices_EqualFunc xs ys = some (xs == ys) := by
  unfold g_slices_EqualFunc
  rw [cond_ite]
  by_cases h : xs.length = ys.length
  · rw [if_neg (by simp [h]), iter_eqs xs ys (fun a b => a == b) h (fun k x y hkx hky => ?_) (by simp [g_slices_EqualFunc_s4])]
    · rw [eqL_beq]
      cases xs == ys <;> rfl
    · have hlt := len_lt hkx
      have hd : decide ((k : Int) < (xs.length : Int)) = true := by simp; omega
      simp only [g_slices_EqualFunc_s4, hd, cond_true, idx_some hkx, idx_some hky, Option.bind_some, slEqual_eq (hx x (List.mem_of_getElem? hkx)), wrap_succ (Nat.le_trans (Nat.le_of_lt hlt) hl)]
      cases x == y <;> rfl
  · rw [if_pos (by simp; omega)]
    congr 1
    exact (beq_eq_false_iff_ne.2 fun e => h (by rw [e])).symm

def SesTy : Ty := .prod (.list (.list (.int .i64))) (.list (.list (.int .i64)))

theorem szSession_eq {a b : List (List Int)} (ha : a.length ≤ lim) (ha2 : ∀ x ∈ a, x.length ≤ lim) (hb : b.length ≤ lim) (hb2 : ∀ x ∈ b, x.length ≤ lim) {left : Int} (h0 : 0 ≤ left) (h1 : left ≤ 1048576) :
    ∃ r, w_szSession (a, b) left = some r ∧ (¬ r < 0 → FitLL a ∧ FitLL b ∧ 0 ≤ r ∧ r ≤ left) := by
  unfold w_szSession
  simp only [szIntSS_eq ha ha2 h0 h1, Option.bind_some, cond_ite]
  by_cases hx : left < totL a
  · rw [if_pos hx]; exact ⟨-1, by simp, by simp⟩
  · rw [if_neg hx, if_neg (by simp; omega), szIntSS_eq hb hb2 (by omega) (by omega), Option.bind_some]
    by_cases hy : left - totL a < totL b
    · rw [if_pos hy]; exact ⟨-1, by simp, by simp⟩
    · rw [if_neg hy]
      refine ⟨left - totL a - totL b, by rw [if_neg (by simp; omega)], fun _ => ⟨fitLL_of hx h1, fitLL_of hy (by omega), by omega, by omega⟩⟩

theorem toSession_eq {a b : List (List Int)} (ha : FitLL a) (hb : FitLL b) : w_toSession (a, b) = some (a, b) := by
  unfold w_toSession
  simp only [ha.to, hb.to, Option.bind_some]

theorem eqSession_eq {a b c d : List (List Int)} (ha : FitLL a) (hb : FitLL b) : w_eqSession (a, b) (c, d) = some (a == c && b == d) := by
  unfold w_eqSession
  simp only [eqIntSS_eq ha.lim ha.eachLim, eqIntSS_eq hb.lim hb.eachLim, Option.bind_some]
  cases a == c <;> cases b == d <;> rfl

theorem law_EqualSession (x y : List (List Int) × List (List Int)) (hx : TyOk SesTy x) (hy : TyOk SesTy y) : w_FnExactEqualSession x y = some true := by
  obtain ⟨a, b⟩ := x
  obtain ⟨c, d⟩ := y
  obtain ⟨a1, a2, _⟩ := ok_LL hx.1
  obtain ⟨b1, b2, _⟩ := ok_LL hx.2
  obtain ⟨c1, c2, _⟩ := ok_LL hy.1
  obtain ⟨d1, d2, _⟩ := ok_LL hy.2
  unfold w_FnExactEqualSession
  obtain ⟨r, hr, hr2⟩ := szSession_eq a1 a2 b1 b2 (left := 1048576) (by omega) (by omega)
  simp only [hr, Option.bind_some]
  by_cases h1 : r < 0
  · simp [h1]
  · obtain ⟨fa, fb, r0, r1⟩ := hr2 h1
    obtain ⟨q, hq, hq2⟩ := szSession_eq c1 c2 d1 d2 r0 r1
    simp only [hq, Option.bind_some]
    by_cases h2 : q < 0
    · simp [h1, h2]
    · obtain ⟨fc, fd, _, _⟩ := hq2 h2
      have e1 : s_EqualSession (a, b) (c, d) = some (a == c && b == d) := by
        unfold s_EqualSession
        simp only [l7SameList_eq fa.lim fa.eachLim, l7SameList_eq fb.lim fb.eachLim, Option.bind_some]
        cases a == c <;> rfl
      have e2 : i_EqualSession (a, b) (c, d) = some (a == c && b == d) := by
        unfold i_EqualSession i_equalPoints
        simp only [slEqualFunc_eq fa.lim fa.eachLim, slEqualFunc_eq fb.lim fb.eachLim, Option.bind_some]
        cases a == c <;> rfl
      have h1' : decide (r < 0) = false := by simp; omega
      have h2' : decide (q < 0) = false := by simp; omega
      simp only [h1', h2', cond_false, toSession_eq fa fb, toSession_eq fc fd, Option.bind_some, e1, e2, eqSession_eq fa fb, eqSession_eq fc fd]
      simp

end Go.Proofs.Ythjlphknpgglcaa
