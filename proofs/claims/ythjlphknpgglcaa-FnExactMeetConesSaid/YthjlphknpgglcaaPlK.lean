/-
  Plain: halves, combined. No condition.
-/
import Derived.Test.YthjlphknpgglcaaPlH
namespace Go.Proofs.Ythjlphknpgglcaa
open Go Go.Proofs.Ythjlphknpgglcaa.Eng
set_option linter.unusedVariables false
set_option linter.unusedSimpArgs false

section
variable {α : Type} (zs : List α)

theorem mix2_len (f g : α → Int) {k : Nat} (h : k ≤ zs.length) : ((zs.take k).map g ++ (zs.drop k).map f).length = zs.length := by simp; omega

theorem mix2_get (f g : α → Int) {k : Nat} {z : α} (h : zs[k]? = some z) : ((zs.take k).map g ++ (zs.drop k).map f)[k]? = some (f z) := by
  have hlt := len_lt h
  have hl : ((zs.take k).map g).length = k := by simp; omega
  rw [List.getElem?_append_right (by omega), hl, Nat.sub_self, List.getElem?_map, List.getElem?_drop, Nat.add_zero, h]
  rfl

theorem mix2_set (f g : α → Int) {k : Nat} {z : α} (h : zs[k]? = some z) : ((zs.take k).map g ++ (zs.drop k).map f).set k (g z) = (zs.take (k + 1)).map g ++ (zs.drop (k + 1)).map f := by
  have hlt := len_lt h
  have hl : ((zs.take k).map g).length = k := by simp; omega
  rw [List.set_append_right _ _ (by omega), hl, Nat.sub_self, List.drop_eq_getElem_cons hlt, List.map_cons, List.set_cons_zero, take_map_succ g h, List.append_assoc]
  rfl

theorem less_eq (f g : α → Int) {c : Int} (hl : zs.length ≤ 4194304) (hf : ∀ z ∈ zs, Tn (f z)) (hg : ∀ z ∈ zs, Tn (g z)) (hc : Tn c) :
    i_less (zs.map f) c (zs.map g) = some ((), (zs.map (fun z => f z - c * g z), ())) := by
  have hlim : zs.length ≤ lim := Nat.le_trans hl (by decide)
  have := iter_up (step := i_less_s1 (zs.map f) c (zs.map g)) zs.length (fun k => ((zs.take k).map (fun z => f z - c * g z) ++ (zs.drop k).map f, (k : Int))) (zs.map (fun z => f z - c * g z)) (fun k hk => ?_) ?_
  · simp only [List.take_zero, List.map_nil, List.drop_zero, List.nil_append] at this
    simp only [i_less, show ((0 : Nat) : Int) = 0 from rfl] at this ⊢
    rw [this]; rfl
  · have hz : zs[k]? = some zs[k] := List.getElem?_eq_getElem hk
    have hm := List.getElem_mem hk
    have hgk : (zs.map g)[k]? = some (g zs[k]) := by rw [List.getElem?_map, hz]; rfl
    have hd : decide ((k : Int) < ((zs.map f).length : Nat)) = true := by simp; omega
    have hin := inIdx_nat hk
    have hp := mul_tn hc (hg _ hm)
    have hf1 := hf _ hm
    unfold Tn at hf1
    have hw : IntKind.i64.wrap (f zs[k] - IntKind.i64.wrap (c * g zs[k])) = f zs[k] - c * g zs[k] := by
      rw [wrap_mul hc (hg _ hm), wrap_id (by omega) (by omega)]
    simp only [i_less_s1, hd, cond_true, mix2_len zs f _ (Nat.le_of_lt hk), Int.toNat_natCast, hin, Option.bind_some, idx_some (mix2_get zs f _ hz), idx_some hgk, hw, mix2_set zs f (fun z => f z - c * g z) hz, wrap_succ (Nat.le_trans (Nat.le_of_lt hk) hlim)]
    rfl
  · have hd : decide ((zs.length : Int) < ((zs.map f).length : Nat)) = false := by simp
    simp only [i_less_s1, hd, cond_false, List.take_length, List.drop_length, List.map_nil, List.append_nil]

theorem l2Scale_eq {xs : List Int} {c : Int} (hl : xs.length ≤ 4194304) (hx : ∀ x ∈ xs, Tn x) (hc : Tn c) : s_l2Scale xs c = some (xs.map (fun x => x * c)) := by
  have hlim : xs.length ≤ lim := Nat.le_trans hl (by decide)
  have := iter_up (step := s_l2Scale_s3 xs c) xs.length (fun k => ((xs.take k).map (fun x => x * c), (k : Int))) (xs.map (fun x => x * c)) (fun k hk => ?_) ?_
  · simp only [List.take_zero, List.map_nil, show ((0 : Nat) : Int) = 0 from rfl] at this
    simp only [s_l2Scale, this, Option.bind_some]
  · have hz : xs[k]? = some xs[k] := List.getElem?_eq_getElem hk
    have hd : decide ((k : Int) < (xs.length : Nat)) = true := by simp; omega
    have happ : appD 8 ((xs.take k).map (fun x => x * c)) [xs[k] * c] = some ((xs.take (k + 1)).map (fun x => x * c)) := by
      rw [appD_some (by rw [lim_eq]; simp; omega) (by rw [lim_eq]; simp; omega), take_map_succ _ hz]
    simp only [s_l2Scale_s3, hd, cond_true, idx_some hz, Option.bind_some, wrap_mul (hx _ (List.getElem_mem hk)) hc, happ, wrap_succ (Nat.le_trans (Nat.le_of_lt hk) hlim)]
    rfl
  · have hd : decide ((xs.length : Int) < (xs.length : Nat)) = false := by simp
    simp only [s_l2Scale_s3, hd, cond_false, List.take_length]

theorem l2Add_eq (f g : α → Int) (hl : zs.length ≤ 4194304) (hf : ∀ z ∈ zs, Tn (f z)) (hg : ∀ z ∈ zs, Tn (g z)) : s_l2Add (zs.map f) (zs.map g) = some (zs.map (fun z => f z + g z)) := by
  have hlim : zs.length ≤ lim := Nat.le_trans hl (by decide)
  have := iter_up (step := s_l2Add_s3 (zs.map f) (zs.map g)) zs.length (fun k => ((zs.take k).map (fun z => f z + g z), (k : Int))) (zs.map (fun z => f z + g z)) (fun k hk => ?_) ?_
  · simp only [List.take_zero, List.map_nil, show ((0 : Nat) : Int) = 0 from rfl] at this
    simp only [s_l2Add, this, Option.bind_some]
  · have hz : zs[k]? = some zs[k] := List.getElem?_eq_getElem hk
    have hm := List.getElem_mem hk
    have hfk : (zs.map f)[k]? = some (f zs[k]) := by rw [List.getElem?_map, hz]; rfl
    have hgk : (zs.map g)[k]? = some (g zs[k]) := by rw [List.getElem?_map, hz]; rfl
    have hd : decide ((k : Int) < ((zs.map f).length : Nat)) = true := by simp; omega
    have h1 := hf _ hm
    have h2 := hg _ hm
    unfold Tn at h1 h2
    have hw : IntKind.i64.wrap (f zs[k] + g zs[k]) = f zs[k] + g zs[k] := wrap_id (by omega) (by omega)
    have happ : appD 8 ((zs.take k).map (fun z => f z + g z)) [f zs[k] + g zs[k]] = some ((zs.take (k + 1)).map (fun z => f z + g z)) := by
      rw [appD_some (by rw [lim_eq]; simp; omega) (by rw [lim_eq]; simp; omega), take_map_succ _ hz]
    simp only [s_l2Add_s3, hd, cond_true, idx_some hfk, idx_some hgk, Option.bind_some, hw, happ, wrap_succ (Nat.le_trans (Nat.le_of_lt hk) hlim)]
    rfl
  · have hd : decide ((zs.length : Int) < ((zs.map f).length : Nat)) = false := by simp
    simp only [s_l2Add_s3, hd, cond_false, List.take_length]

end

theorem mul_ten {p x m : Int} (h0 : 0 ≤ p) (h1 : p ≤ 10) (h2 : -m ≤ x) (h3 : x ≤ m) : -(10 * m) ≤ p * x ∧ p * x ≤ 10 * m := by
  have : p = 0 ∨ p = 1 ∨ p = 2 ∨ p = 3 ∨ p = 4 ∨ p = 5 ∨ p = 6 ∨ p = 7 ∨ p = 8 ∨ p = 9 ∨ p = 10 := by omega
  rcases this with rfl | rfl | rfl | rfl | rfl | rfl | rfl | rfl | rfl | rfl | rfl <;> omega

theorem zip_fst : ∀ (xs ys : List Int), xs.length = ys.length → (xs.zip ys).map (·.1) = xs
  | [], [], _ => rfl
  | x :: xs, y :: ys, h => by simp [zip_fst xs ys (by simpa using h)]
  | [], _ :: _, h => by simp at h
  | _ :: _, [], h => by simp at h

theorem zip_snd : ∀ (xs ys : List Int), xs.length = ys.length → (xs.zip ys).map (·.2) = ys
  | [], [], _ => rfl
  | x :: xs, y :: ys, h => by simp [zip_snd xs ys (by simpa using h)]
  | [], _ :: _, h => by simp at h
  | _ :: _, [], h => by simp at h

def combN (h k : Hf) (p q : Int) : List Int := (h.1.zip k.1).map fun z => p * z.1 + q * z.2
def combH (h k : Hf) (p q : Int) : Hf := (combN h k p q, p * h.2 + q * k.2)
def combR (h k : Hf) (p q : Int) : Hf × Bool :=
  if isHf h.1.length h && isHf h.1.length k && inR 0 10 p && inR 0 10 q then (if isHf (combH h k p q).1.length (combH h k p q) then (tight (combH h k p q), true) else (([], 0), false)) else (([], 0), false)

theorem combine_eq {h k : Hf} (hl : h.1.length ≤ lim) (kl : k.1.length ≤ lim) (p q : Int) : s_CombineHalves h k p q = some (combR h k p q) ∧ i_CombineHalves h k p q = some (combR h k p q) := by
  simp only [s_CombineHalves, i_CombineHalves, s_IsHalf_eq (h := (h.1, h.2)) hl, i_IsHalf_eq (h := (h.1, h.2)) hl, s_IsHalf_eq (h := (k.1, k.2)) kl, i_IsHalf_eq (h := (k.1, k.2)) kl, Option.bind_some, l1In_eq, within_eq, combR]
  cases c1 : isHf h.1.length h
  · have : isHf h.1.length (h.1, h.2) = false := c1
    simp [this]
  cases c2 : isHf h.1.length k
  · have e1 : isHf h.1.length (h.1, h.2) = true := c1
    have e2 : isHf h.1.length (k.1, k.2) = false := c2
    simp [e1, e2]
  have e1 : isHf h.1.length (h.1, h.2) = true := c1
  have e2 : isHf h.1.length (k.1, k.2) = true := c2
  cases c3 : inR 0 10 p
  · simp [e1, e2]
  cases c4 : inR 0 10 q
  · simp [e1, e2]
  have h1 := isHf_iff.1 c1
  have h2 := isHf_iff.1 c2
  obtain ⟨p0, p1⟩ := inR_iff.1 c3
  obtain ⟨q0, q1⟩ := inR_iff.1 c4
  have hs := h1.small
  have hks : k.1.length = h.1.length := by have := h2.len; omega
  have hzl : (h.1.zip k.1).length = h.1.length := by simp; omega
  have zf := zip_fst h.1 k.1 hks.symm
  have zs := zip_snd h.1 k.1 hks.symm
  have hz1 : ∀ z ∈ h.1.zip k.1, -20 ≤ z.1 ∧ z.1 ≤ 20 := fun z hz => h1.all _ (List.of_mem_zip hz).1
  have hz2 : ∀ z ∈ h.1.zip k.1, -20 ≤ z.2 ∧ z.2 ≤ 20 := fun z hz => h2.all _ (List.of_mem_zip hz).2
  have tnp : Tn p := by unfold Tn; omega
  have tnq : Tn q := by unfold Tn; omega
  have b1 := mul_ten (m := 200) p0 p1 h1.b1 h1.b2
  have b2 := mul_ten (m := 200) q0 q1 h2.b1 h2.b2
  have hbd : IntKind.i64.wrap (IntKind.i64.wrap (p * h.2) + IntKind.i64.wrap (q * k.2)) = p * h.2 + q * k.2 := by
    rw [wrap_id (x := p * h.2) (by omega) (by omega), wrap_id (x := q * k.2) (by omega) (by omega), wrap_id (by omega) (by omega)]
  have hw : ∀ {x : Int}, 0 ≤ x → x ≤ 10 → IntKind.i64.wrap (0 - x) = 0 - x := fun h0 h1 => wrap_id (by omega) (by omega)
  -- the reference
  have s1 : s_l2Scale h.1 p = some ((h.1.zip k.1).map fun z => z.1 * p) := by
    rw [l2Scale_eq (by omega) (fun x hx => by have := h1.all x hx; unfold Tn; omega) tnp]
    conv => lhs; rw [← zf]
    rw [List.map_map]; rfl
  have s2 : s_l2Scale k.1 q = some ((h.1.zip k.1).map fun z => z.2 * q) := by
    rw [l2Scale_eq (by omega) (fun x hx => by have := h2.all x hx; unfold Tn; omega) tnq]
    conv => lhs; rw [← zs]
    rw [List.map_map]; rfl
  have t1 : ∀ z ∈ h.1.zip k.1, Tn (z.1 * p) := fun z hz => by
    have := mul_ten (m := 20) p0 p1 (hz1 z hz).1 (hz1 z hz).2
    rw [Int.mul_comm]; unfold Tn; omega
  have t2 : ∀ z ∈ h.1.zip k.1, Tn (z.2 * q) := fun z hz => by
    have := mul_ten (m := 20) q0 q1 (hz2 z hz).1 (hz2 z hz).2
    rw [Int.mul_comm]; unfold Tn; omega
  have s3 : s_l2Add ((h.1.zip k.1).map fun z => z.1 * p) ((h.1.zip k.1).map fun z => z.2 * q) = some (combN h k p q) := by
    rw [l2Add_eq _ _ _ (by omega) t1 t2]
    congr 1
    refine List.map_congr_left fun z _ => ?_
    rw [Int.mul_comm z.1, Int.mul_comm z.2]
  -- the program
  have i0 : mkD 8 (h.1.length : Int) (0 : Int) = some ((h.1.zip k.1).map fun _ => 0) := by
    rw [mkD_some (by rw [lim_eq]; omega) (by rw [lim_eq]; omega), List.map_const', hzl]
  have i1 : i_less ((h.1.zip k.1).map fun _ => 0) (0 - p) h.1 = some ((), ((h.1.zip k.1).map fun z => 0 - (0 - p) * z.1, ())) := by
    have := less_eq (h.1.zip k.1) (fun _ => 0) (fun z => z.1) (c := 0 - p) (by omega) (fun z hz => by unfold Tn; omega) (fun z hz => by have := hz1 z hz; unfold Tn; omega) (by unfold Tn; omega)
    rw [zf] at this; exact this
  have i2 : i_less ((h.1.zip k.1).map fun z => 0 - (0 - p) * z.1) (0 - q) k.1 = some ((), (combN h k p q, ())) := by
    have := less_eq (h.1.zip k.1) (fun z => 0 - (0 - p) * z.1) (fun z => z.2) (c := 0 - q) (by omega) (fun z hz => by
      have := mul_ten (m := 20) p0 p1 (hz1 z hz).1 (hz1 z hz).2
      have e : 0 - (0 - p) * z.1 = p * z.1 := by grind
      rw [e]; unfold Tn; omega) (fun z hz => by have := hz2 z hz; unfold Tn; omega) (by unfold Tn; omega)
    rw [zs] at this; rw [this]
    have e : (h.1.zip k.1).map (fun z => 0 - (0 - p) * z.1 - (0 - q) * z.2) = combN h k p q := List.map_congr_left fun z _ => by grind
    rw [e]
  have hcl : (combN h k p q).length = h.1.length := by simp [combN]; omega
  have hcn : (combH h k p q).1.length ≤ lim := by show (combN h k p q).length ≤ lim; rw [hcl]; exact hl
  have hs4 := s_IsHalf_eq (n := h.1.length) (h := combH h k p q) hcn
  have hi4 := i_TightenHalf_eq (h := combH h k p q) hcn
  have hn : (combH h k p q).1.length = h.1.length := hcl
  simp only [combH] at hs4 hi4 hn
  simp only [e1, e2, Bool.not_true, cond_false, s1, s2, s3, i0, hw p0 p1, hw q0 q1, i1, i2, hbd, Option.bind_some, hs4, hi4, combH, hn, Bool.and_true, if_true]
  refine ⟨?_, ?_⟩
  · cases c5 : isHf h.1.length (combN h k p q, p * h.2 + q * k.2)
    · simp
    · have := s_Tight_eq (isHf_iff.1 c5)
      simp [this]
  · trivial

theorem comb_len (h k : Hf) (p q : Int) : (combR h k p q).1.1.length ≤ h.1.length := by
  unfold combR
  split
  · have : (combH h k p q).1.length ≤ h.1.length := by simp [combH, combN]; omega
    exact Nat.le_trans tight_len this
  · simp

theorem law_CombineHalves (x y : Hf) (p q : Int) (hx : TyOk HalfTy x) (hy : TyOk HalfTy y) (_ : TyOk (.int .i64) p) (_ : TyOk (.int .i64) q) : w_FnExactCombineHalves x y p q = some true := by
  have a1 : x.1.length ≤ lim := hx.1.1
  have a2 : y.1.length ≤ lim := hy.1.1
  simp only [w_FnExactCombineHalves, szHalf_eq (h := (x.1, x.2)) a1 (left := 1048576) (by omega) (by omega), Option.bind_some]
  by_cases h : (1048576 : Int) < x.1.length
  · rw [if_pos h]; rfl
  · rw [if_neg h]
    have hd : decide ((1048576 : Int) - x.1.length < 0) = false := by simp; omega
    simp only [hd, cond_false, szHalf_eq (h := (y.1, y.2)) a2 (left := 1048576 - x.1.length) (by omega) (by omega), Option.bind_some]
    by_cases h' : (1048576 : Int) - x.1.length < y.1.length
    · rw [if_pos h']; rfl
    · rw [if_neg h']
      have f1 : x.1.length ≤ 1048576 := by omega
      have f2 : y.1.length ≤ 1048576 := by omega
      have hd2 : decide ((1048576 : Int) - x.1.length - y.1.length < 0) = false := by simp; omega
      obtain ⟨es, ei⟩ := combine_eq (h := (x.1, x.2)) (k := (y.1, y.2)) a1 a2 p q
      have hlen := comb_len (x.1, x.2) (y.1, y.2) p q
      generalize combR (x.1, x.2) (y.1, y.2) p q = r at es ei hlen
      obtain ⟨⟨r, t⟩, b⟩ := r
      have hlen : r.length ≤ x.1.length := hlen
      have e1 : decide ((1 : Int) + x.1.length + y.1.length < 0) = false := by simp; omega
      have e2 : decide ((1 : Int) + r.length < 0) = false := by simp; omega
      simp only [hd2, cond_false, toHalf_eq (h := (x.1, x.2)) f1, toHalf_eq (h := (y.1, y.2)) f2, Option.bind_some, es, ei, eqHalf_eq (h := (r, t)) (lim_of (Nat.le_trans hlen f1)), eqHalf_eq (h := (x.1, x.2)) (lim_of f1), eqHalf_eq (h := (y.1, y.2)) (lim_of f2), beq_self_eq_true, Bool.not_true, cond_false,
        markIntS_eq (xs := x.1) (by omega) (k := 1) (by omega) (by omega), markIntS_eq (xs := y.1) (by omega) (k := 1 + x.1.length) (by omega) (by omega), e1, markIntS_eq (xs := r) (by omega) (k := 1) (by omega) (by omega), heldHalf_eq (n := r.length) (b := t) (by omega) (k := 1) (by omega) (by omega), e2, bne_self_eq_false]

end Go.Proofs.Ythjlphknpgglcaa
