/-
  Plain: halves, tightened and combined. No condition.
-/
import Derived.Test.YthjlphknpgglcaaPlM
namespace Go.Proofs.Ythjlphknpgglcaa
open Go Go.Proofs.Ythjlphknpgglcaa.Eng
set_option linter.unusedVariables false
set_option linter.unusedSimpArgs false

/-- A loop whose states are known beforehand. -/
theorem iter_up {S β : Type} {step : S → Option (S ⊕ β)} (n : Nat) (st : Nat → S) (r : β) (hs : ∀ k, k < n → step (st k) = some (.inl (st (k + 1)))) (he : step (st n) = some (.inr r)) : iter step (st 0) = some r := by
  have : ∀ (d k : Nat), k + d = n → iter step (st k) = some r := by
    intro d
    induction d with
    | zero => intro k hk; have : k = n := by omega
              subst this; exact iter_end he
    | succ d ih => intro k hk; rw [iter_next (hs k (by omega))]; exact ih (k + 1) (by omega)
  exact this n 0 (by omega)

theorem take_map_succ {α β : Type} {xs : List α} (f : α → β) {k : Nat} {x : α} (h : xs[k]? = some x) : (xs.take (k + 1)).map f = (xs.take k).map f ++ [f x] := by
  rw [List.take_add_one, h]; simp

/-- A mixed list, set once more. -/
theorem set_mix {α : Type} {xs : List α} (f : α → α) {k : Nat} {x : α} (h : xs[k]? = some x) : ((xs.take k).map f ++ xs.drop k).set k (f x) = (xs.take (k + 1)).map f ++ xs.drop (k + 1) := by
  have hlt := len_lt h
  have hl : ((xs.take k).map f).length = k := by simp; omega
  rw [List.set_append_right _ _ (by omega), hl, Nat.sub_self, List.drop_eq_getElem_cons hlt, List.set_cons_zero, take_map_succ f h, List.append_assoc]
  rfl

theorem mix_len {α : Type} {xs : List α} (f : α → α) {k : Nat} (h : k ≤ xs.length) : ((xs.take k).map f ++ xs.drop k).length = xs.length := by simp; omega

theorem mix_get {α : Type} {xs : List α} (f : α → α) {k : Nat} {x : α} (h : xs[k]? = some x) : ((xs.take k).map f ++ xs.drop k)[k]? = some x := by
  have hlt := len_lt h
  have hl : ((xs.take k).map f).length = k := by simp; omega
  rw [List.getElem?_append_right (by omega), hl, Nat.sub_self, List.getElem?_drop]
  simpa using h

abbrev Hf : Type := List Int × Int
def HalfTy : Ty := .prod (.list (.int .i64)) (.int .i64)

def isHf (n : Int) (h : Hf) : Bool := inR 1 3 n && ((h.1.length : Int) == n) && h.1.all (inR (-20) 20) && decide (0 < gcdL h.1) && inR (-200) 200 h.2

theorem all_sm {m : Int} (hm : m ≤ 1000000) {v : List Int} (h : v.all (inR (-m) m) = true) : ∀ x ∈ v, Sm x := fun x hx => inR_sm hm (List.all_eq_true.1 h x hx)

theorem i_IsHalf_eq {n : Int} {h : Hf} (hl : h.1.length ≤ lim) : i_IsHalf n h = some (isHf n h) := by
  simp only [i_IsHalf, isHf, within_eq, Option.bind_some, allWithin_eq hl]
  cases inR 1 3 n
  · simp
  cases ((h.1.length : Int) == n)
  · simp
  cases ha : h.1.all (inR (-20) 20)
  · simp
  simp only [cond_true, gcdAll_eq hl (all_sm (m := 20) (by omega) ha), Option.bind_some]
  cases hg : decide (0 < gcdL h.1)
  · have : decide (gcdL h.1 > 0) = false := hg
    simp [this]
  · have : decide (gcdL h.1 > 0) = true := hg
    simp [this]

theorem s_IsHalf_eq {n : Int} {h : Hf} (hl : h.1.length ≤ lim) : s_IsHalf n h = some (isHf n h) := by
  simp only [s_IsHalf, isHf, l1In_eq, Option.bind_some, l2Small_eq hl (m := 20) (by omega) (by omega)]
  cases inR 1 3 n
  · simp
  cases ((h.1.length : Int) == n)
  · simp
  cases ha : h.1.all (inR (-20) 20)
  · simp
  simp only [cond_true, l2All_eq hl (all_sm (m := 20) (by omega) ha), Option.bind_some]
  cases hg : decide (0 < gcdL h.1)
  · have : decide (gcdL h.1 > 0) = false := hg
    simp [this]
  · have : decide (gcdL h.1 > 0) = true := hg
    simp [this]

structure IsHf (n : Int) (h : Hf) : Prop where
  n1 : 1 ≤ n
  n3 : n ≤ 3
  len : (h.1.length : Int) = n
  all : ∀ x ∈ h.1, -20 ≤ x ∧ x ≤ 20
  g : 0 < gcdL h.1
  b1 : -200 ≤ h.2
  b2 : h.2 ≤ 200

theorem isHf_iff {n : Int} {h : Hf} : isHf n h = true ↔ IsHf n h := by
  simp only [isHf, Bool.and_eq_true, inR_iff, beq_iff_eq, decide_eq_true_eq, List.all_eq_true]
  constructor
  · rintro ⟨⟨⟨⟨⟨a, b⟩, c⟩, d⟩, e⟩, f, g⟩; exact ⟨a, b, c, d, e, f, g⟩
  · rintro ⟨a, b, c, d, e, f, g⟩; exact ⟨⟨⟨⟨⟨a, b⟩, c⟩, d⟩, e⟩, f, g⟩

theorem quo_some {a b : Int} (hb : 0 < b) (ha : Sm a) : quoI .i64 a b = some (a.tdiv b) := by
  have hne : b ≠ 0 := by omega
  have h1 : (a.tdiv b).natAbs ≤ a.natAbs := Int.natAbs_tdiv_le_natAbs a b
  unfold Sm at ha
  simp only [quoI, if_neg hne]
  rw [wrap_id (by omega) (by omega)]

/-- The bound, rounded down. -/
def flr (a b : Int) : Int := if a.tmod b < 0 then a.tdiv b - 1 else a.tdiv b

theorem down_eq {a b : Int} (hb : 0 < b) (ha : Sm a) : i_down a b = some (flr a b) := by
  have h1 : (a.tdiv b).natAbs ≤ a.natAbs := Int.natAbs_tdiv_le_natAbs a b
  have ha' := ha
  unfold Sm at ha'
  simp only [i_down, quo_some hb ha, remI_some (show b ≠ 0 by omega), Option.bind_some, flr]
  by_cases h : a.tmod b < 0
  · have hd : decide (a.tmod b < 0) = true := by simpa using h
    rw [hd, cond_true, if_pos h, wrap_id (by omega) (by omega)]
  · have hd : decide (a.tmod b < 0) = false := by simpa using h
    rw [hd, cond_false, if_neg h]

theorem l3Floor_eq {a b : Int} (hb : 0 < b) (ha : Sm a) : s_l3Floor a b = some (flr a b) := down_eq hb ha

/-- A half, tightened. -/
def tight (h : Hf) : Hf := (h.1.map (fun x => x.tdiv (gcdL h.1)), flr h.2 (gcdL h.1))

theorem IsHf.sm {n : Int} {h : Hf} (hh : IsHf n h) : ∀ x ∈ h.1, Sm x := fun x hx => by have := hh.all x hx; unfold Sm; omega
theorem IsHf.lim {n : Int} {h : Hf} (hh : IsHf n h) : h.1.length ≤ Eng.lim := by have h1 := hh.len; have h2 := hh.n3; exact Nat.le_trans (show h.1.length ≤ 3 by omega) (by decide)
theorem IsHf.small {n : Int} {h : Hf} (hh : IsHf n h) : h.1.length ≤ 3 := by have h1 := hh.len; have h2 := hh.n3; omega

theorem l2Prime_eq {v : List Int} (hl : v.length ≤ 3) (hv : ∀ x ∈ v, Sm x) (hg : 0 < gcdL v) : s_l2Prime v = some (v.map fun x => x.tdiv (gcdL v)) := by
  have hlim : v.length ≤ lim := Nat.le_trans hl (by decide)
  simp only [s_l2Prime, l2All_eq hlim hv, Option.bind_some]
  have := iter_up (step := s_l2Prime_s4 v (gcdL v)) v.length (fun k => ((v.take k).map fun x => x.tdiv (gcdL v), (k : Int))) (v.map fun x => x.tdiv (gcdL v)) (fun k hk => ?_) ?_
  · rw [show (([] : List Int), (0 : Int)) = ((v.take 0).map fun x => x.tdiv (gcdL v), ((0 : Nat) : Int)) from by simp, this]; rfl
  · have hx : v[k]? = some v[k] := List.getElem?_eq_getElem hk
    have hd : decide ((k : Int) < (v.length : Int)) = true := by simp; omega
    have hmax : s_l1Max (gcdL v) 1 = some (gcdL v) := by
      unfold s_l1Max
      by_cases h1 : gcdL v > 1
      · simp [h1]
      · have : gcdL v = 1 := by omega
        simp [this]
    have happ : appD 8 ((v.take k).map fun x => x.tdiv (gcdL v)) [v[k].tdiv (gcdL v)] = some ((v.take (k + 1)).map fun x => x.tdiv (gcdL v)) := by
      rw [appD_some (by rw [lim_eq]; simp; omega) (by rw [lim_eq]; simp; omega), take_map_succ _ hx]
    simp only [s_l2Prime_s4, hd, cond_true, idx_some hx, hmax, quo_some hg (hv _ (List.getElem_mem hk)), happ, Option.bind_some, wrap_succ (Nat.le_trans (Nat.le_of_lt hk) hlim)]
    rfl
  · have hd : decide ((v.length : Int) < (v.length : Int)) = false := by simp
    simp only [s_l2Prime_s4, hd, cond_false, List.take_length]

theorem s_Tight_eq {n : Int} {h : Hf} (hh : IsHf n h) : s_l24Tight h = some (tight h) := by
  have hb : Sm h.2 := by have h1 := hh.b1; have h2 := hh.b2; unfold Sm; omega
  simp only [s_l24Tight, l2All_eq hh.lim hh.sm, l2Prime_eq hh.small hh.sm hh.g, l3Floor_eq hh.g hb, Option.bind_some, tight]

theorem s_TightenHalf_eq {h : Hf} (hl : h.1.length ≤ lim) : s_TightenHalf h = some (if isHf h.1.length h then (tight h, true) else (([], 0), false)) := by
  simp only [s_TightenHalf, s_IsHalf_eq (h := (h.1, h.2)) hl, Option.bind_some]
  cases hc : isHf h.1.length h
  · have : isHf h.1.length (h.1, h.2) = false := hc
    simp [this]
  · have : isHf h.1.length (h.1, h.2) = true := hc
    have ht : s_l24Tight (h.1, h.2) = some (tight h) := s_Tight_eq (isHf_iff.1 hc)
    simp [this, ht]

theorem tight_loop {h : Hf} {g f : Int} {p : Hf} (hl : h.1.length ≤ 3) (hg : 0 < g) (hs : ∀ x ∈ h.1, Sm x) : iter (i_TightenHalf_s6 g h.1) (p, ((h.1, f), 0)) = some (p, (h.1.map (fun x => x.tdiv g), f)) := by
  have hlim : h.1.length ≤ lim := Nat.le_trans hl (by decide)
  have := iter_up (step := i_TightenHalf_s6 g h.1) h.1.length (fun k => (p, (((h.1.take k).map (fun x => x.tdiv g) ++ h.1.drop k, f), (k : Int)))) (p, (h.1.map (fun x => x.tdiv g), f)) (fun k hk => ?_) ?_
  · simpa using this
  · have hx : h.1[k]? = some h.1[k] := List.getElem?_eq_getElem hk
    have hd : decide ((k : Int) < (h.1.length : Int)) = true := by simp; omega
    have hin := inIdx_nat hk
    simp only [i_TightenHalf_s6, hd, cond_true, mix_len _ (Nat.le_of_lt hk), Int.toNat_natCast, hin, Option.bind_some, idx_some (mix_get _ hx), quo_some hg (hs _ (List.getElem_mem hk)), set_mix (fun x => x.tdiv g) hx, wrap_succ (Nat.le_trans (Nat.le_of_lt hk) hlim)]
    rfl
  · have hd : decide ((h.1.length : Int) < (h.1.length : Int)) = false := by simp
    simp only [i_TightenHalf_s6, hd, cond_false, List.take_length, List.drop_length, List.append_nil]

theorem copyInts_eq {v : List Int} (h : v.length * 8 ≤ lim) : i_copyInts v = some v := by
  simp only [i_copyInts, appD_some (b := 8) (xs := []) (ys := v) (by simpa using h) (by simp; omega), Option.bind_some, List.nil_append]

theorem i_TightenHalf_eq {h : Hf} (hl : h.1.length ≤ lim) : i_TightenHalf h = some (if isHf h.1.length h then (tight h, true) else (([], 0), false)) := by
  simp only [i_TightenHalf, i_IsHalf_eq (h := (h.1, h.2)) hl, Option.bind_some]
  cases hc : isHf h.1.length h
  · have : isHf h.1.length (h.1, h.2) = false := hc
    simp [this]
  · have hc' : isHf h.1.length (h.1, h.2) = true := hc
    have hh := isHf_iff.1 hc
    have hb : Sm h.2 := by have h1 := hh.b1; have h2 := hh.b2; unfold Sm; omega
    have hs := hh.small
    have hcp := copyInts_eq (v := h.1) (by rw [lim_eq]; omega)
    simp only [hc', Bool.not_true, cond_false, gcdAll_eq hl hh.sm, hcp, down_eq hh.g hb, Option.bind_some, tight_loop (p := ([], 0)) hh.small hh.g hh.sm, if_true]
    rfl

/-! The law's helpers on halves. -/

theorem szHalf_eq {h : Hf} (hl : h.1.length ≤ lim) {left : Int} (h0 : 0 ≤ left) (h1 : left ≤ 1048576) : w_szHalf h left = some (if left < h.1.length then -1 else left - h.1.length) := by
  simp only [w_szHalf, szIntS_eq hl h0 h1, Option.bind_some]
  by_cases hc : left < h.1.length
  · simp [hc]
  · have hd : decide (left - (h.1.length : Int) < 0) = false := by simp; omega
    simp only [if_neg hc, hd, cond_false]

theorem toHalf_eq {h : Hf} (hl : h.1.length ≤ 1048576) : w_toHalf h = some h := by
  simp only [w_toHalf, toIntS_eq (xs := h.1) (by rw [lim_eq]; omega), Option.bind_some]

theorem eqHalf_eq {h k : Hf} (hl : h.1.length ≤ lim) : w_eqHalf h k = some (h == k) := by
  simp only [w_eqHalf, eqIntS_eq hl, Option.bind_some]
  have : (h == k) = ((h.1 == k.1) && (h.2 == k.2)) := rfl
  rw [this, bne]
  cases (h.1 == k.1) <;> cases (h.2 == k.2) <;> rfl

theorem heldHalf_eq {n : Nat} (hn : n ≤ 2097152) {b k : Int} (h0 : 0 ≤ k) (h1 : k ≤ 4194304) : w_heldHalf (ms k n, b) k = some (k + n) := by
  have hd1 : decide (k + (n : Int) < 0) = false := by simp; omega
  simp only [w_heldHalf, heldIntS_eq hn h0 (by omega : k ≤ 1099511627776), Option.bind_some, hd1, cond_false]

theorem tight_len {h : Hf} : (if isHf h.1.length h then (tight h, true) else (([], 0), false)).1.1.length ≤ h.1.length := by
  split
  · simp [tight]
  · simp

theorem law_TightenHalf (x : Hf) (hx : TyOk HalfTy x) : w_FnExactTightenHalf x = some true := by
  have a1 : x.1.length ≤ lim := hx.1.1
  simp only [w_FnExactTightenHalf, szHalf_eq (h := (x.1, x.2)) a1 (left := 1048576) (by omega) (by omega), Option.bind_some]
  by_cases h : (1048576 : Int) < x.1.length
  · rw [if_pos h]; rfl
  · rw [if_neg h]
    have f1 : x.1.length ≤ 1048576 := by omega
    have hd : decide ((1048576 : Int) - x.1.length < 0) = false := by simp; omega
    have hlen := tight_len (h := x)
    have es := s_TightenHalf_eq (h := (x.1, x.2)) a1
    have ei := i_TightenHalf_eq (h := (x.1, x.2)) a1
    generalize (if isHf ((x.1, x.2) : Hf).1.length ((x.1, x.2) : Hf) then (tight (x.1, x.2), true) else ((([], 0) : Hf), false)) = r at es ei hlen
    obtain ⟨⟨r, q⟩, b⟩ := r
    have hlen : r.length ≤ x.1.length := hlen
    have e1 : decide ((1 : Int) + x.1.length < 0) = false := by simp; omega
    have e2 : decide ((1 : Int) + r.length < 0) = false := by simp; omega
    simp only [hd, cond_false, toHalf_eq (h := (x.1, x.2)) f1, Option.bind_some, es, ei, eqHalf_eq (h := (r, q)) (lim_of (Nat.le_trans hlen f1)), eqHalf_eq (h := (x.1, x.2)) (lim_of f1), beq_self_eq_true, Bool.not_true, cond_false,
      markIntS_eq (xs := x.1) (by omega) (k := 1) (by omega) (by omega), e1, markIntS_eq (xs := r) (by omega) (k := 1) (by omega) (by omega), heldHalf_eq (n := r.length) (b := q) (by omega) (k := 1) (by omega) (by omega), e2, bne_self_eq_false]

end Go.Proofs.Ythjlphknpgglcaa
