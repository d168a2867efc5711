/-
  Plain: halves, tightened and combined (on the regions' words). No condition.
-/
import Derived.Test.YtednadbkcpcmfaaPlI
import Derived.Test.YtednadbkcpcmfaaPlK
namespace Go.Proofs.Ytednadbkcpcmfaa
open Go Go.Proofs.Ytednadbkcpcmfaa.Eng
set_option linter.unusedVariables false
set_option linter.unusedSimpArgs false
/-- A mixed list, set once more. -/
theorem set_mix {α : Type} {xs : List α} (f : α → α) {k : Nat} {x : α} (h : xs[k]? = some x) : ((xs.take k).map f ++ xs.drop k).set k (f x) = (xs.take (k + 1)).map f ++ xs.drop (k + 1) := by
  have hlt := len_lt h
  have hl : ((xs.take k).map f).length = k := by simp; omega
  rw [List.set_append_right _ _ (by omega), hl, Nat.sub_self, List.drop_eq_getElem_cons hlt, List.set_cons_zero, take_map_succ f h, List.append_assoc]
  rfl
theorem mix_len {α : Type} {xs : List α} (f : α → α) {k : Nat} (h : k ≤ xs.length) : ((xs.take k).map f ++ xs.drop k).length = xs.length := by simp; omega
theorem mix_get {α : Type} {xs : List α} (f : α → α) {k : Nat} {x : α} (h : xs[k]? = some x) : ((xs.take k).map f ++ xs.drop k)[k]? = some x := by
  have hlt := len_lt h
  have hl : ((xs.take k).map f).length = k := by simp; omega
  rw [List.getElem?_append_right (by omega), hl, Nat.sub_self, List.getElem?_drop]
  simpa using h
structure IsHf (n : Int) (h : Hf) : Prop where
  n1 : 1 ≤ n
  n3 : n ≤ 3
  len : (h.1.length : Int) = n
  all : ∀ x ∈ h.1, -20 ≤ x ∧ x ≤ 20
  g : 0 < gcdL h.1
  b1 : -200 ≤ h.2
  b2 : h.2 ≤ 200
theorem halfB_iff {n : Int} {h : Hf} : halfB n h = true ↔ IsHf n h := by
  simp only [halfB, Bool.and_eq_true, inR_iff, beq_iff_eq, decide_eq_true_eq, List.all_eq_true]
  constructor
  · rintro ⟨⟨⟨⟨⟨a, b⟩, c⟩, d⟩, e⟩, f, g⟩; exact ⟨a, b, c, d, e, f, g⟩
  · rintro ⟨a, b, c, d, e, f, g⟩; exact ⟨⟨⟨⟨⟨a, b⟩, c⟩, d⟩, e⟩, f, g⟩
/-- A half, tightened. -/
def tight (h : Hf) : Hf := (h.1.map (fun x => x.tdiv (gcdL h.1)), flr h.2 (gcdL h.1))
theorem IsHf.sm {n : Int} {h : Hf} (hh : IsHf n h) : ∀ x ∈ h.1, Sm x := fun x hx => by have := hh.all x hx; unfold Sm; omega
theorem IsHf.lim {n : Int} {h : Hf} (hh : IsHf n h) : h.1.length ≤ Eng.lim := by have h1 := hh.len; have h2 := hh.n3; exact Nat.le_trans (show h.1.length ≤ 3 by omega) (by decide)
theorem IsHf.small {n : Int} {h : Hf} (hh : IsHf n h) : h.1.length ≤ 3 := by have h1 := hh.len; have h2 := hh.n3; omega
theorem l2Prime_eq {v : List Int} (hl : v.length ≤ 3) (hv : ∀ x ∈ v, Sm x) (hg : 0 < gcdL v) : s_l2Prime v = some (v.map fun x => x.tdiv (gcdL v)) := by
  have hlim : v.length ≤ lim := Nat.le_trans hl (by decide)
  simp only [s_l2Prime, l2All_eq hlim hv, Option.bind_some]
  have := iter_up (step := s_l2Prime_s4 v (gcdL v)) v.length (fun k => ((v.take k).map fun x => x.tdiv (gcdL v), (k : Int))) (v.map fun x => x.tdiv (gcdL v)) (fun k hk => ?_) ?_
  · rw [show (([] : List Int), (0 : Int)) = ((v.take 0).map fun x => x.tdiv (gcdL v), ((0 : Nat) : Int)) from by simp, this]; rfl
  · have hx : v[k]? = some v[k] := List.getElem?_eq_getElem hk
    have hd : decide ((k : Int) < (v.length : Int)) = true := by simp; omega
    have hmax : s_l1Max (gcdL v) 1 = some (gcdL v) := by
      unfold s_l1Max
      by_cases h1 : gcdL v > 1
      · simp [h1]
      · have : gcdL v = 1 := by omega
        simp [this]
    have happ : appD 8 ((v.take k).map fun x => x.tdiv (gcdL v)) [v[k].tdiv (gcdL v)] = some ((v.take (k + 1)).map fun x => x.tdiv (gcdL v)) := by
      rw [appD_some (by rw [lim_eq]; simp; omega) (by rw [lim_eq]; simp; omega), take_map_succ _ hx]
    simp only [s_l2Prime_s4, hd, cond_true, idx_some hx, hmax, quo_some hg (hv _ (List.getElem_mem hk)), happ, Option.bind_some, wrap_succ (Nat.le_trans (Nat.le_of_lt hk) hlim)]
    rfl
  · have hd : decide ((v.length : Int) < (v.length : Int)) = false := by simp
    simp only [s_l2Prime_s4, hd, cond_false, List.take_length]
theorem s_Tight_eq {n : Int} {h : Hf} (hh : IsHf n h) : s_l24Tight h = some (tight h) := by
  have hb : Sm h.2 := by have h1 := hh.b1; have h2 := hh.b2; unfold Sm; omega
  simp only [s_l24Tight, l2All_eq hh.lim hh.sm, l2Prime_eq hh.small hh.sm hh.g, l3Floor_eq hh.g hb, Option.bind_some, tight]
theorem s_TightenHalf_eq {h : Hf} (hl : h.1.length ≤ lim) : s_TightenHalf h = some (if halfB h.1.length h then (tight h, true) else (([], 0), false)) := by
  simp only [s_TightenHalf, s_IsHalf_eq (h := (h.1, h.2)) hl, Option.bind_some]
  cases hc : halfB h.1.length h
  · have : halfB h.1.length (h.1, h.2) = false := hc
    simp [this]
  · have : halfB h.1.length (h.1, h.2) = true := hc
    have ht : s_l24Tight (h.1, h.2) = some (tight h) := s_Tight_eq (halfB_iff.1 hc)
    simp [this, ht]
theorem tight_loop {h : Hf} {g f : Int} {p : Hf} (hl : h.1.length ≤ 3) (hg : 0 < g) (hs : ∀ x ∈ h.1, Sm x) : iter (i_TightenHalf_s6 g h.1) (p, ((h.1, f), 0)) = some (p, (h.1.map (fun x => x.tdiv g), f)) := by
  have hlim : h.1.length ≤ lim := Nat.le_trans hl (by decide)
  have := iter_up (step := i_TightenHalf_s6 g h.1) h.1.length (fun k => (p, (((h.1.take k).map (fun x => x.tdiv g) ++ h.1.drop k, f), (k : Int)))) (p, (h.1.map (fun x => x.tdiv g), f)) (fun k hk => ?_) ?_
  · simpa using this
  · have hx : h.1[k]? = some h.1[k] := List.getElem?_eq_getElem hk
    have hd : decide ((k : Int) < (h.1.length : Int)) = true := by simp; omega
    have hin := inIdx_nat hk
    simp only [i_TightenHalf_s6, hd, cond_true, mix_len _ (Nat.le_of_lt hk), Int.toNat_natCast, hin, Option.bind_some, idx_some (mix_get _ hx), quo_some hg (hs _ (List.getElem_mem hk)), set_mix (fun x => x.tdiv g) hx, wrap_succ (Nat.le_trans (Nat.le_of_lt hk) hlim)]
    rfl
  · have hd : decide ((h.1.length : Int) < (h.1.length : Int)) = false := by simp
    simp only [i_TightenHalf_s6, hd, cond_false, List.take_length, List.drop_length, List.append_nil]
theorem i_TightenHalf_eq {h : Hf} (hl : h.1.length ≤ lim) : i_TightenHalf h = some (if halfB h.1.length h then (tight h, true) else (([], 0), false)) := by
  simp only [i_TightenHalf, i_IsHalf_eq (h := (h.1, h.2)) hl, Option.bind_some]
  cases hc : halfB h.1.length h
  · have : halfB h.1.length (h.1, h.2) = false := hc
    simp [this]
  · have hc' : halfB h.1.length (h.1, h.2) = true := hc
    have hh := halfB_iff.1 hc
    have hb : Sm h.2 := by have h1 := hh.b1; have h2 := hh.b2; unfold Sm; omega
    have hs := hh.small
    have hcp := copyInts_eq (v := h.1) (by rw [lim_eq]; omega)
    simp only [hc', Bool.not_true, cond_false, gcdAll_eq hl hh.sm, hcp, down_eq hh.g hb, Option.bind_some, tight_loop (p := ([], 0)) hh.small hh.g hh.sm, if_true]
    rfl
theorem tight_len {h : Hf} : (if halfB h.1.length h then (tight h, true) else (([], 0), false)).1.1.length ≤ h.1.length := by
  split
  · simp [tight]
  · simp
theorem mul_ten {p x m : Int} (h0 : 0 ≤ p) (h1 : p ≤ 10) (h2 : -m ≤ x) (h3 : x ≤ m) : -(10 * m) ≤ p * x ∧ p * x ≤ 10 * m := by
  have : p = 0 ∨ p = 1 ∨ p = 2 ∨ p = 3 ∨ p = 4 ∨ p = 5 ∨ p = 6 ∨ p = 7 ∨ p = 8 ∨ p = 9 ∨ p = 10 := by omega
  rcases this with rfl | rfl | rfl | rfl | rfl | rfl | rfl | rfl | rfl | rfl | rfl <;> omega
theorem zip_fst : ∀ (xs ys : List Int), xs.length = ys.length → (xs.zip ys).map (·.1) = xs
  | [], [], _ => rfl
  | x :: xs, y :: ys, h => by simp [zip_fst xs ys (by simpa using h)]
  | [], _ :: _, h => by simp at h
  | _ :: _, [], h => by simp at h
theorem zip_snd : ∀ (xs ys : List Int), xs.length = ys.length → (xs.zip ys).map (·.2) = ys
  | [], [], _ => rfl
  | x :: xs, y :: ys, h => by simp [zip_snd xs ys (by simpa using h)]
  | [], _ :: _, h => by simp at h
  | _ :: _, [], h => by simp at h
def combN (h k : Hf) (p q : Int) : List Int := (h.1.zip k.1).map fun z => p * z.1 + q * z.2
def combH (h k : Hf) (p q : Int) : Hf := (combN h k p q, p * h.2 + q * k.2)
def combR (h k : Hf) (p q : Int) : Hf × Bool :=
  if halfB h.1.length h && halfB h.1.length k && inR 0 10 p && inR 0 10 q then (if halfB (combH h k p q).1.length (combH h k p q) then (tight (combH h k p q), true) else (([], 0), false)) else (([], 0), false)
theorem combine_eq {h k : Hf} (hl : h.1.length ≤ lim) (kl : k.1.length ≤ lim) (p q : Int) : s_CombineHalves h k p q = some (combR h k p q) ∧ i_CombineHalves h k p q = some (combR h k p q) := by
  simp only [s_CombineHalves, i_CombineHalves, s_IsHalf_eq (h := (h.1, h.2)) hl, i_IsHalf_eq (h := (h.1, h.2)) hl, s_IsHalf_eq (h := (k.1, k.2)) kl, i_IsHalf_eq (h := (k.1, k.2)) kl, Option.bind_some, l1In_eq, within_eq, combR]
  cases c1 : halfB h.1.length h
  · have : halfB h.1.length (h.1, h.2) = false := c1
    simp [this]
  cases c2 : halfB h.1.length k
  · have e1 : halfB h.1.length (h.1, h.2) = true := c1
    have e2 : halfB h.1.length (k.1, k.2) = false := c2
    simp [e1, e2]
  have e1 : halfB h.1.length (h.1, h.2) = true := c1
  have e2 : halfB h.1.length (k.1, k.2) = true := c2
  cases c3 : inR 0 10 p
  · simp [e1, e2]
  cases c4 : inR 0 10 q
  · simp [e1, e2]
  have h1 := halfB_iff.1 c1
  have h2 := halfB_iff.1 c2
  obtain ⟨p0, p1⟩ := inR_iff.1 c3
  obtain ⟨q0, q1⟩ := inR_iff.1 c4
  have hs := h1.small
  have hks : k.1.length = h.1.length := by have := h2.len; omega
  have hzl : (h.1.zip k.1).length = h.1.length := by simp; omega
  have zf := zip_fst h.1 k.1 hks.symm
  have zs := zip_snd h.1 k.1 hks.symm
  have hz1 : ∀ z ∈ h.1.zip k.1, -20 ≤ z.1 ∧ z.1 ≤ 20 := fun z hz => h1.all _ (List.of_mem_zip hz).1
  have hz2 : ∀ z ∈ h.1.zip k.1, -20 ≤ z.2 ∧ z.2 ≤ 20 := fun z hz => h2.all _ (List.of_mem_zip hz).2
  have tnp : Tn p := by unfold Tn; omega
  have tnq : Tn q := by unfold Tn; omega
  have b1 := mul_ten (m := 200) p0 p1 h1.b1 h1.b2
  have b2 := mul_ten (m := 200) q0 q1 h2.b1 h2.b2
  have hbd : IntKind.i64.wrap (IntKind.i64.wrap (p * h.2) + IntKind.i64.wrap (q * k.2)) = p * h.2 + q * k.2 := by
    rw [wrap_id (x := p * h.2) (by omega) (by omega), wrap_id (x := q * k.2) (by omega) (by omega), wrap_id (by omega) (by omega)]
  have hw : ∀ {x : Int}, 0 ≤ x → x ≤ 10 → IntKind.i64.wrap (0 - x) = 0 - x := fun h0 h1 => wrap_id (by omega) (by omega)
  -- the reference
  have s1 : s_l2Scale h.1 p = some ((h.1.zip k.1).map fun z => z.1 * p) := by
    rw [l2Scale_eq (by omega) (fun x hx => by have := h1.all x hx; unfold Tn; omega) tnp]
    conv => lhs; rw [← zf]
    rw [List.map_map]; rfl
  have s2 : s_l2Scale k.1 q = some ((h.1.zip k.1).map fun z => z.2 * q) := by
    rw [l2Scale_eq (by omega) (fun x hx => by have := h2.all x hx; unfold Tn; omega) tnq]
    conv => lhs; rw [← zs]
    rw [List.map_map]; rfl
  have t1 : ∀ z ∈ h.1.zip k.1, Tn (z.1 * p) := fun z hz => by
    have := mul_ten (m := 20) p0 p1 (hz1 z hz).1 (hz1 z hz).2
    rw [Int.mul_comm]; unfold Tn; omega
  have t2 : ∀ z ∈ h.1.zip k.1, Tn (z.2 * q) := fun z hz => by
    have := mul_ten (m := 20) q0 q1 (hz2 z hz).1 (hz2 z hz).2
    rw [Int.mul_comm]; unfold Tn; omega
  have s3 : s_l2Add ((h.1.zip k.1).map fun z => z.1 * p) ((h.1.zip k.1).map fun z => z.2 * q) = some (combN h k p q) := by
    rw [l2Add_eq _ _ _ (by omega) t1 t2]
    congr 1
    refine List.map_congr_left fun z _ => ?_
    rw [Int.mul_comm z.1, Int.mul_comm z.2]
  -- the program
  have i0 : mkD 8 (h.1.length : Int) (0 : Int) = some ((h.1.zip k.1).map fun _ => 0) := by
    rw [mkD_some (by rw [lim_eq]; omega) (by rw [lim_eq]; omega), List.map_const', hzl]
  have i1 : i_less ((h.1.zip k.1).map fun _ => 0) (0 - p) h.1 = some ((), ((h.1.zip k.1).map fun z => 0 - (0 - p) * z.1, ())) := by
    have := less_eq (h.1.zip k.1) (fun _ => 0) (fun z => z.1) (c := 0 - p) (by omega) (fun z hz => by unfold Tn; omega) (fun z hz => by have := hz1 z hz; unfold Tn; omega) (by unfold Tn; omega)
    rw [zf] at this; exact this
  have i2 : i_less ((h.1.zip k.1).map fun z => 0 - (0 - p) * z.1) (0 - q) k.1 = some ((), (combN h k p q, ())) := by
    have := less_eq (h.1.zip k.1) (fun z => 0 - (0 - p) * z.1) (fun z => z.2) (c := 0 - q) (by omega) (fun z hz => by
      have := mul_ten (m := 20) p0 p1 (hz1 z hz).1 (hz1 z hz).2
      have e : 0 - (0 - p) * z.1 = p * z.1 := by grind
      rw [e]; unfold Tn; omega) (fun z hz => by have := hz2 z hz; unfold Tn; omega) (by unfold Tn; omega)
    rw [zs] at this; rw [this]
    have e : (h.1.zip k.1).map (fun z => 0 - (0 - p) * z.1 - (0 - q) * z.2) = combN h k p q := List.map_congr_left fun z _ => by grind
    rw [e]
  have hcl : (combN h k p q).length = h.1.length := by simp [combN]; omega
  have hcn : (combH h k p q).1.length ≤ lim := by show (combN h k p q).length ≤ lim; rw [hcl]; exact hl
  have hs4 := s_IsHalf_eq (n := h.1.length) (h := combH h k p q) hcn
  have hi4 := i_TightenHalf_eq (h := combH h k p q) hcn
  have hn : (combH h k p q).1.length = h.1.length := hcl
  simp only [combH] at hs4 hi4 hn
  simp only [e1, e2, Bool.not_true, cond_false, s1, s2, s3, i0, hw p0 p1, hw q0 q1, i1, i2, hbd, Option.bind_some, hs4, hi4, combH, hn, Bool.and_true, if_true]
  refine ⟨?_, ?_⟩
  · cases c5 : halfB h.1.length (combN h k p q, p * h.2 + q * k.2)
    · simp
    · have := s_Tight_eq (halfB_iff.1 c5)
      simp [this]
  · trivial
theorem comb_len (h k : Hf) (p q : Int) : (combR h k p q).1.1.length ≤ h.1.length := by
  unfold combR
  split
  · have : (combH h k p q).1.length ≤ h.1.length := by simp [combH, combN]; omega
    exact Nat.le_trans tight_len this
  · simp
end Go.Proofs.Ytednadbkcpcmfaa
