/-
  The law FnTightened. Plain, no condition.
-/
import Derived.Test.YtednadbkcpcmfaaPlVu
import Derived.Test.YtednadbkcpcmfaaPlRg
import Derived.Test.YtednadbkcpcmfaaPlHd
namespace Go.Proofs.Ytednadbkcpcmfaa
open Go Go.Proofs.Ytednadbkcpcmfaa.Eng
set_option linter.unusedVariables false
set_option linter.unusedSimpArgs false
/-! Products, divisors. -/
theorem foldP_add (Z : List (Int × Int)) : ∀ s : Int, Z.foldl (fun (s : Int) (p : Int × Int) => s + p.1 * p.2) s = s + Z.foldl (fun (s : Int) (p : Int × Int) => s + p.1 * p.2) 0 := by
  induction Z with
  | nil => intro s; simp
  | cons z Z ih =>
    intro s
    simp only [List.foldl_cons]
    rw [ih (s + z.1 * z.2), ih (0 + z.1 * z.2)]
    omega
theorem dtL_cons (a b : Int) (u v : List Int) : dtL (a :: u) (b :: v) = a * b + dtL u v := by
  unfold dtL
  simp only [List.zip_cons_cons, List.foldl_cons]
  rw [foldP_add]; omega
theorem dtL_nil (b : List Int) : dtL [] b = 0 := rfl
theorem dtL_nil' (a : List Int) : dtL a [] = 0 := by unfold dtL; simp
theorem dtL_scale (g : Int) : ∀ (v x : List Int), dtL (v.map (· * g)) x = dtL v x * g
  | [], x => by simp [dtL_nil]
  | a :: v, [] => by simp [dtL_nil']
  | a :: v, b :: x => by
    simp only [List.map_cons, dtL_cons, dtL_scale g v x]
    rw [Int.add_mul, Int.mul_right_comm]
theorem dtL_comb (p q : Int) : ∀ (a b x : List Int), a.length = b.length → dtL ((a.zip b).map fun z => p * z.1 + q * z.2) x = p * dtL a x + q * dtL b x
  | [], [], x, _ => by simp [dtL_nil]
  | a :: u, b :: v, [], _ => by simp [dtL_nil']
  | a :: u, b :: v, c :: x, h => by
    simp only [List.length_cons, Nat.add_right_cancel_iff] at h
    simp only [List.zip_cons_cons, List.map_cons, dtL_cons, dtL_comb p q u v x h]
    grind
  | [], _ :: _, _, h => by simp at h
  | _ :: _, [], _, h => by simp at h
theorem gcdF_dvd : ∀ (v : List Int) (g : Int), v.foldl (fun g x => (Int.gcd g x : Int)) g ∣ g ∧ ∀ x ∈ v, v.foldl (fun g x => (Int.gcd g x : Int)) g ∣ x
  | [], g => by simp
  | y :: v, g => by
    simp only [List.foldl_cons]
    obtain ⟨h1, h2⟩ := gcdF_dvd v (Int.gcd g y : Int)
    refine ⟨Int.dvd_trans h1 (Int.gcd_dvd_left ..), fun x hx => ?_⟩
    rcases List.mem_cons.1 hx with rfl | hx
    · exact Int.dvd_trans h1 (Int.gcd_dvd_right ..)
    · exact h2 x hx
theorem gcdL_dvd {v : List Int} {x : Int} (h : x ∈ v) : gcdL v ∣ x := (gcdF_dvd v 0).2 x h
theorem gcdF_scale {c : Int} (hc : 0 ≤ c) : ∀ (v : List Int) (g : Int), (v.map (· * c)).foldl (fun g x => (Int.gcd g x : Int)) (g * c) = v.foldl (fun g x => (Int.gcd g x : Int)) g * c
  | [], g => rfl
  | y :: v, g => by
    simp only [List.map_cons, List.foldl_cons]
    have : ((Int.gcd (g * c) (y * c) : Nat) : Int) = (Int.gcd g y : Int) * c := by
      rw [Int.gcd_mul_right, Int.natCast_mul, Int.natAbs_of_nonneg hc]
    rw [this, gcdF_scale hc v]
theorem gcdL_scale {c : Int} (hc : 0 ≤ c) (v : List Int) : gcdL (v.map (· * c)) = gcdL v * c := by
  have := gcdF_scale hc v 0
  rw [Int.zero_mul] at this
  exact this
theorem prime_back {v : List Int} (hg : 0 < gcdL v) : (v.map fun x => x.tdiv (gcdL v)).map (· * gcdL v) = v := by
  rw [List.map_map]
  conv => rhs; rw [← List.map_id v]
  refine List.map_congr_left fun x hx => ?_
  exact Int.tdiv_mul_cancel (gcdL_dvd hx)
theorem prime_one {v : List Int} (hg : 0 < gcdL v) : gcdL (v.map fun x => x.tdiv (gcdL v)) = 1 := by
  have h := gcdL_scale (Int.le_of_lt hg) (v.map fun x => x.tdiv (gcdL v))
  rw [prime_back hg] at h
  have h1 : 1 * gcdL v = gcdL (v.map fun x => x.tdiv (gcdL v)) * gcdL v := by rw [Int.one_mul]; exact h
  exact (Int.eq_of_mul_eq_mul_right (by omega) h1).symm
theorem flr_bd {e d : Int} (hd : 0 < d) : 0 ≤ e - flr e d * d ∧ e - flr e d * d < d := by
  unfold flr
  have h0 := Int.mul_tdiv_add_tmod e d
  have h1 := Int.tmod_lt_of_pos e hd
  have h2 := Int.lt_tmod_of_pos e hd
  split
  · rw [Int.sub_mul, Int.one_mul, Int.mul_comm]; omega
  · rw [Int.mul_comm]; omega
theorem flr_le {e d m : Int} (hd : 0 < d) (h : -m ≤ e ∧ e ≤ m) (hm : 0 ≤ m) : -m ≤ flr e d ∧ flr e d ≤ m := by
  obtain ⟨h1, h2⟩ := flr_bd (e := e) hd
  constructor
  · apply Decidable.byContradiction; intro hn
    have : flr e d * d ≤ (-m - 1) * d := Int.mul_le_mul_of_nonneg_right (by omega) (by omega)
    have e1 : (-m - 1) * d = -(m * d) - d := by grind
    have : m * 1 ≤ m * d := Int.mul_le_mul_of_nonneg_left (by omega) hm
    omega
  · apply Decidable.byContradiction; intro hn
    have : (m + 1) * d ≤ flr e d * d := Int.mul_le_mul_of_nonneg_right (by omega) (by omega)
    have e1 : (m + 1) * d = m * d + d := by grind
    have : m * 1 ≤ m * d := Int.mul_le_mul_of_nonneg_left (by omega) hm
    omega
theorem flr_one (e : Int) : flr e 1 = e := by
  obtain ⟨h1, h2⟩ := flr_bd (e := e) (d := 1) (by omega)
  omega
theorem tight_iff {n : Int} {h : Hf} (hh : IsHf n h) (x : List Int) : dtL (tight h).1 x ≤ (tight h).2 ↔ dtL h.1 x ≤ h.2 := by
  have hg := hh.g
  obtain ⟨h1, h2⟩ := flr_bd (e := h.2) hg
  have hs := dtL_scale (gcdL h.1) (h.1.map fun x => x.tdiv (gcdL h.1)) x
  rw [prime_back hg] at hs
  unfold tight
  simp only
  generalize dtL (h.1.map fun x => x.tdiv (gcdL h.1)) x = D at *
  constructor
  · intro h
    have := Int.mul_le_mul_of_nonneg_right h (Int.le_of_lt hg)
    omega
  · intro h
    apply Decidable.byContradiction; intro hn
    have := Int.mul_le_mul_of_nonneg_right (show flr _ (gcdL _) + 1 ≤ D by exact Int.not_le.1 hn) (Int.le_of_lt hg)
    rw [Int.add_mul] at this
    omega
theorem tight_hf {n : Int} {h : Hf} (hh : IsHf n h) : IsHf n (tight h) := by
  have hg := hh.g
  have hb := flr_le (e := h.2) (m := 200) hg ⟨hh.b1, hh.b2⟩ (by omega)
  refine ⟨hh.n1, hh.n3, by simp [tight, hh.len], fun x hx => ?_, by show 0 < gcdL (tight h).1; unfold tight; rw [prime_one hg]; omega, hb.1, hb.2⟩
  obtain ⟨y, hy, rfl⟩ := List.mem_map.1 hx
  have := hh.all y hy
  have h2 := tdiv_bd (a := y) (b := gcdL h.1)
  omega
theorem map_tdiv_one : ∀ (v : List Int), (v.map fun x => x.tdiv 1) = v
  | [] => rfl
  | x :: v => by simp [map_tdiv_one v]
theorem tight_twice {n : Int} {h : Hf} (hh : IsHf n h) : tight (tight h) = tight h := by
  have hg := hh.g
  have h1 : gcdL (tight h).1 = 1 := prime_one hg
  show ((tight h).1.map (fun x => x.tdiv (gcdL (tight h).1)), flr (tight h).2 (gcdL (tight h).1)) = tight h
  rw [h1, flr_one, map_tdiv_one]
/-! What is drawn. -/
theorem tt1 : s_DrawTightenHalf_s26_3 = cstep := rfl
theorem tt2 : s_DrawTightenRegion_s26_3 = cstep := rfl
theorem tt3 : s_DrawCombineHalves_s26_3 = cstep := rfl
theorem tt4 : s_DrawIsImplied_s26_3 = cstep := rfl
theorem tt5 : s_DrawHasRational_s26_3 = cstep := rfl
/-- A drawn region. -/
structure HwR (r : Rg) : Prop where
  d0 : 0 ≤ r.1
  d4 : r.1 ≤ 4
  len : r.2.length ≤ 6
  each : ∀ p ∈ r.2, Hw p
theorem HwR.lim {r : Rg} (h : HwR r) : r.2.length ≤ Eng.lim := by have := h.len; rw [lim_eq]; omega
theorem HwR.lims {r : Rg} (h : HwR r) : ∀ p ∈ r.2, p.1.length ≤ Eng.lim := fun p hp => by have := (h.each p hp).len; rw [lim_eq]; omega
theorem bent_ok {s : Cur} (h : CurOk s) : ∃ (r : Rg) (s' : Cur), s_l4Bent s = some (r, (s', ())) ∧ CurOk s' ∧ HwR r := by
  obtain ⟨r, s', h1, h2, h3, h4, h5, h6⟩ := l4Bent_ok h
  exact ⟨r, s', h1, h2, h3, h4, h5, h6⟩
theorem drawTH_ok {code : List Int} (hc : code.length ≤ 1048576) : ∃ h : Hf, s_DrawTightenHalf code = some h ∧ h.1.length ≤ 3 := by
  unfold s_DrawTightenHalf
  rw [tt1]
  obtain ⟨y, e⟩ := new_loop hc (IntKind.i64.wrap (26583 + (code.length : Int)))
  obtain ⟨r, c, a1, a2, a3⟩ := bent_ok (s := (code, (0, y))) ⟨by simp, by simp, hc⟩
  rw [e]
  simp only [Option.bind_some, a1]
  by_cases h0 : r.2.length = 0
  · rw [show ((r.2.length : Int) == 0) = true from by simp [h0], cond_true]
    exact ⟨([], 0), rfl, by simp⟩
  · rw [show ((r.2.length : Int) == 0) = false from by simp; intro hn; rw [hn] at h0; simp at h0, cond_false]
    have i0 : inIdx r.2.length 0 = some () := inIdx_nat (k := 0) (by omega)
    have g0 : idx r.2 (((0 : Int)).toNat : Int) = some (r.2[0]'(by omega)) := idx_some (k := 0) (List.getElem?_eq_getElem (by omega))
    have hw := a3.each (r.2[0]'(by omega)) (List.getElem_mem _)
    have hl := hw.len
    rw [i0, g0]
    simp only [Option.bind_some]
    rw [l2Small_eq (by rw [lim_eq]; omega) (by omega) (by omega)]
    simp only [Option.bind_some]
    cases hb : (r.2[0]'(by omega)).1.all (inR (-3) 3) with
    | false => rw [cond_false]; exact ⟨_, rfl, hl⟩
    | true =>
      obtain ⟨m, d, b1, b2, b3, b4, b5⟩ := below_ok a2 (n := 3) (by omega)
      have b1 : s_l1Below (c.1, (c.2.1, c.2.2)) 3 = some (m, (d, ())) := b1
      have b6 := b5 (by omega)
      rw [cond_true, b1]
      simp only [Option.bind_some]
      rw [wrap_small (by omega) (by omega), l2Scale_eq (by omega) (fun x hx => by have := hw.cells x hx; unfold Tn; omega) (by unfold Tn; omega)]
      exact ⟨_, rfl, by simpa using hl⟩
theorem drawTR_ok {code : List Int} (hc : code.length ≤ 1048576) : ∃ r : Rg, s_DrawTightenRegion code = some r ∧ HwR r := by
  unfold s_DrawTightenRegion
  rw [tt2]
  obtain ⟨y, e⟩ := new_loop hc (IntKind.i64.wrap (26583 + (code.length : Int)))
  obtain ⟨r, c, a1, a2, a3⟩ := bent_ok (s := (code, (0, y))) ⟨by simp, by simp, hc⟩
  rw [e]
  simp only [Option.bind_some, a1]
  exact ⟨r, rfl, a3⟩
theorem l1Bit_some (b : Bool) : s_l1Bit b = some (if b then 1 else 0) := by cases b <;> rfl
theorem drawCH_ok {code : List Int} (hc : code.length ≤ 1048576) : ∃ (h k : Hf) (p q : Int), s_DrawCombineHalves code = some (h, k, p, q) ∧ h.1.length ≤ 3 ∧ k.1.length ≤ 3 := by
  unfold s_DrawCombineHalves
  rw [tt3]
  obtain ⟨y, e⟩ := new_loop hc (IntKind.i64.wrap (26583 + (code.length : Int)))
  obtain ⟨m, c, a1, a2, a3, a4, a5⟩ := below_ok (s := (code, (0, y))) ⟨by simp, by simp, hc⟩ (n := 3) (by omega)
  have a1 : s_l1Below (code, (0, y)) 3 = some (m, (c, ())) := a1
  have a6 := a5 (by omega)
  obtain ⟨r, d, b1, b2, b3, b4, b5, b6⟩ := l4Draw_ok a2 (n := 1 + m) (by omega) (by omega)
  have b1 : s_l4Draw (c.1, (c.2.1, c.2.2)) (1 + m) = some (r, (d, ())) := b1
  rw [e]
  simp only [Option.bind_some, a1]
  rw [wrap_small (by omega) (by omega), b1]
  simp only [Option.bind_some]
  have i0 : inIdx r.2.length 0 = some () := inIdx_nat (k := 0) (by omega)
  have g0 : idx r.2 (((0 : Int)).toNat : Int) = some (r.2[0]'(by omega)) := idx_some (k := 0) (List.getElem?_eq_getElem (by omega))
  have we : IntKind.i64.wrap ((r.2.length : Int) - 1) = ((r.2.length - 1 : Nat) : Int) := by rw [wrap_small (by omega) (by omega)]; omega
  have i1 : inIdx r.2.length ((r.2.length - 1 : Nat) : Int) = some () := inIdx_nat (by omega)
  have g1 : idx r.2 ((((r.2.length - 1 : Nat) : Int)).toNat : Int) = some (r.2[r.2.length - 1]'(by omega)) := by rw [Int.toNat_natCast]; exact idx_some (List.getElem?_eq_getElem (by omega))
  have f0 := (b6 _ (List.getElem_mem (by omega : 0 < r.2.length))).len
  have f1 := (b6 _ (List.getElem_mem (by omega : r.2.length - 1 < r.2.length))).len
  obtain ⟨t, f, q1, q2⟩ := once_ok b2 (n := 10) (by omega)
  have q1 : s_l1Once (d.1, (d.2.1, d.2.2)) 10 = some (t, (f, ())) := q1
  rw [i0, g0, we, i1, g1]
  simp only [Option.bind_some, q1]
  cases t with
  | true =>
    obtain ⟨k, g, r1, r2, r3⟩ := l4Half_ok q2 (n := 2) (by omega) (by omega)
    have r1 : s_l4Half (f.1, (f.2.1, f.2.2)) 2 = some (k, (g, ())) := r1
    obtain ⟨w, g', t1, t2, t3, t4, _⟩ := below_ok r2 (n := 4) (by omega)
    have t1 : s_l1Below (g.1, (g.2.1, g.2.2)) 4 = some (w, (g', ())) := t1
    obtain ⟨u, g2, u1, u2⟩ := once_ok t2 (n := 12) (by omega)
    have u1 : s_l1Once (g'.1, (g'.2.1, g'.2.2)) 12 = some (u, (g2, ())) := u1
    obtain ⟨z, g3, v1, v2, v3⟩ := pickInt_ok u2 (l := [0, 1, 2, 3, 1, 10, 11]) (by simp) (by simp)
    have v1 : s_l1PickInt (g2.1, (g2.2.1, g2.2.2)) [0, 1, 2, 3, 1, 10, 11] = some (z, (g3, ())) := v1
    simp only [cond_true, r1, t1, u1, v1, l1Bit_some, Option.bind_some]
    exact ⟨_, _, _, _, rfl, by simp only; omega, by have := r3.len; simp only; omega⟩
  | false =>
    obtain ⟨w, g', t1, t2, t3, t4, _⟩ := below_ok q2 (n := 4) (by omega)
    have t1 : s_l1Below (f.1, (f.2.1, f.2.2)) 4 = some (w, (g', ())) := t1
    obtain ⟨u, g2, u1, u2⟩ := once_ok t2 (n := 12) (by omega)
    have u1 : s_l1Once (g'.1, (g'.2.1, g'.2.2)) 12 = some (u, (g2, ())) := u1
    obtain ⟨z, g3, v1, v2, v3⟩ := pickInt_ok u2 (l := [0, 1, 2, 3, 1, 10, 11]) (by simp) (by simp)
    have v1 : s_l1PickInt (g2.1, (g2.2.1, g2.2.2)) [0, 1, 2, 3, 1, 10, 11] = some (z, (g3, ())) := v1
    simp only [cond_false, t1, u1, v1, l1Bit_some, Option.bind_some]
    exact ⟨_, _, _, _, rfl, by simp only; omega, by simp only; omega⟩
theorem drawII_ok {code : List Int} (hc : code.length ≤ 1048576) : ∃ (r : Rg) (h : Hf), s_DrawIsImplied code = some (r, h) ∧ HwR r ∧ h.1.length ≤ 3 := by
  unfold s_DrawIsImplied
  rw [tt4]
  obtain ⟨y, e⟩ := new_loop hc (IntKind.i64.wrap (26583 + (code.length : Int)))
  obtain ⟨r, c, a1, a2, a3⟩ := bent_ok (s := (code, (0, y))) ⟨by simp, by simp, hc⟩
  have last : ∀ {f : Cur}, CurOk f → ∃ k : Hf, ((s_l1Min 3 r.1).bind fun v12 => (s_l1Max 1 v12).bind fun v13 => (s_l4Half (f.1, (f.2.1, f.2.2)) v13).bind fun v14 => some ((r.1, r.2), (v14.1.1, v14.1.2))) = some (r, k) ∧ k.1.length ≤ 3 := fun {f} hf => by
    rw [l1Min_eq, Option.bind_some, l1Max_eq, Option.bind_some]
    have hb : 1 ≤ mx 1 (mn 3 r.1) ∧ mx 1 (mn 3 r.1) ≤ 3 := by unfold mx mn; split <;> split <;> omega
    obtain ⟨k, g, r1, r2, r3⟩ := l4Half_ok hf hb.1 hb.2
    have r1 : s_l4Half (f.1, (f.2.1, f.2.2)) (mx 1 (mn 3 r.1)) = some (k, (g, ())) := r1
    rw [r1]
    exact ⟨k, rfl, by have := r3.len; omega⟩
  rw [e]
  simp only [Option.bind_some, a1]
  by_cases h1 : 1 < r.2.length
  · rw [show decide ((r.2.length : Int) > 1) = true from by simp; omega, cond_true]
    obtain ⟨t, f, q1, q2⟩ := once_ok a2 (n := 2) (by omega)
    have q1 : s_l1Once (c.1, (c.2.1, c.2.2)) 2 = some (t, (f, ())) := q1
    rw [q1]
    simp only [Option.bind_some]
    cases t with
    | false =>
      rw [cond_false]
      have hl : ((s_l1Min 3 r.1).bind fun v12 => (s_l1Max 1 v12).bind fun v13 => (s_l4Half (f.1, (f.2.1, f.2.2)) v13).bind fun v14 => some ((r.1, r.2), (v14.1.1, v14.1.2))) = _ := (last q2).choose_spec.1
      exact ⟨r, _, hl, a3, (last q2).choose_spec.2⟩
    | true =>
      have i0 : inIdx r.2.length 0 = some () := inIdx_nat (k := 0) (by omega)
      have g0 : idx r.2 (((0 : Int)).toNat : Int) = some (r.2[0]'(by omega)) := idx_some (k := 0) (List.getElem?_eq_getElem (by omega))
      have i1 : inIdx r.2.length 1 = some () := inIdx_nat (k := 1) (by omega)
      have g1 : idx r.2 (((1 : Int)).toNat : Int) = some (r.2[1]'(by omega)) := idx_some (k := 1) (List.getElem?_eq_getElem (by omega))
      have f0 := (a3.each _ (List.getElem_mem (by omega : 0 < r.2.length))).len
      have f1 := (a3.each _ (List.getElem_mem (by omega : 1 < r.2.length))).len
      rw [cond_true, i0, g0, i1, g1]
      simp only [Option.bind_some]
      rw [(combine_eq (by rw [lim_eq]; omega) (by rw [lim_eq]; omega) 1 1).1]
      simp only [Option.bind_some]
      have hcl := comb_len (r.2[0]'(by omega)) (r.2[1]'(by omega)) 1 1
      cases hc : (combR (r.2[0]'(by omega)) (r.2[1]'(by omega)) 1 1).2 with
      | true => rw [cond_true]; exact ⟨r, _, rfl, a3, by simp only; omega⟩
      | false =>
        rw [cond_false]
        have hl : ((s_l1Min 3 r.1).bind fun v12 => (s_l1Max 1 v12).bind fun v13 => (s_l4Half (f.1, (f.2.1, f.2.2)) v13).bind fun v14 => some ((r.1, r.2), (v14.1.1, v14.1.2))) = _ := (last q2).choose_spec.1
        exact ⟨r, _, hl, a3, (last q2).choose_spec.2⟩
  · rw [show decide ((r.2.length : Int) > 1) = false from by simp; omega, cond_false]
    have hl : ((s_l1Min 3 r.1).bind fun v12 => (s_l1Max 1 v12).bind fun v13 => (s_l4Half (c.1, (c.2.1, c.2.2)) v13).bind fun v14 => some ((r.1, r.2), (v14.1.1, v14.1.2))) = _ := (last a2).choose_spec.1
    exact ⟨r, _, hl, a3, (last a2).choose_spec.2⟩
theorem l6Bent_ok {s : Cur} (h : CurOk s) {n : Int} (h0 : 0 ≤ n) (h3 : n ≤ 3) : ∃ (p : Ra) (s' : Cur), s_l6Bent s n = some (p, (s', ())) ∧ CurOk s' ∧ p.1.length ≤ 3 := by
  obtain ⟨v, c, a1, a2, a3, a4⟩ := draw_ok h (n := n) (size := 9) h0 h3 (by omega) (by omega)
  have a1 : s_l2Draw (s.1, (s.2.1, s.2.2)) n 9 = some (v, (c, ())) := a1
  obtain ⟨m, d, b1, b2, b3, b4, b5⟩ := below_ok a2 (n := 4) (by omega)
  have b1 : s_l1Below (c.1, (c.2.1, c.2.2)) 4 = some (m, (d, ())) := b1
  obtain ⟨t, f, q1, q2⟩ := once_ok b2 (n := 12) (by omega)
  have q1 : s_l1Once (d.1, (d.2.1, d.2.2)) 12 = some (t, (f, ())) := q1
  have last : ∀ {g : Cur} (D : Int), CurOk g → ∃ (p : Ra) (s' : Cur), ((s_l1Once (g.1, (g.2.1, g.2.2)) 16).bind fun v5 => cond v5.1
      (cond (decide (n > 0)) ((s_l1PickInt (v5.2.1.1, (v5.2.1.2.1, v5.2.1.2.2)) [10000000, 10000001, -10000001]).bind fun v6 => (inIdx v.length 0).bind fun _ => (inIdx v.length (((0 : Int)).toNat : Int)).bind fun _ => some (((v.set (((0 : Int)).toNat) v6.1), D), ((v6.2.1.1, (v6.2.1.2.1, v6.2.1.2.2)), ())))
        (some ((v, D), ((v5.2.1.1, (v5.2.1.2.1, v5.2.1.2.2)), ()))))
      (some ((v, D), ((v5.2.1.1, (v5.2.1.2.1, v5.2.1.2.2)), ())))) = some (p, (s', ())) ∧ CurOk s' ∧ p.1.length ≤ 3 := fun {g} D hg => by
    obtain ⟨u, g2, u1, u2⟩ := once_ok hg (n := 16) (by omega)
    have u1 : s_l1Once (g.1, (g.2.1, g.2.2)) 16 = some (u, (g2, ())) := u1
    rw [u1]
    simp only [Option.bind_some]
    cases u with
    | false => exact ⟨_, g2, rfl, u2, by simp only; omega⟩
    | true =>
      rw [cond_true]
      by_cases hn : n > 0
      · obtain ⟨z, g3, v1, v2, v3⟩ := pickInt_ok u2 (l := [10000000, 10000001, -10000001]) (by simp) (by simp)
        have v1 : s_l1PickInt (g2.1, (g2.2.1, g2.2.2)) [10000000, 10000001, -10000001] = some (z, (g3, ())) := v1
        have i0 : inIdx v.length 0 = some () := inIdx_nat (k := 0) (by omega)
        have i1 : inIdx v.length (((0 : Int)).toNat : Int) = some () := inIdx_nat (k := 0) (by omega)
        rw [decide_eq_true hn, cond_true, v1]
        simp only [Option.bind_some]
        rw [i0, i1]
        simp only [Option.bind_some]
        exact ⟨_, g3, rfl, v2, by simp; omega⟩
      · rw [decide_eq_false hn, cond_false]
        exact ⟨_, g2, rfl, u2, by simp only; omega⟩
  unfold s_l6Bent
  rw [a1]
  simp only [Option.bind_some, b1, q1]
  cases t with
  | false =>
    rw [cond_false]
    exact last _ q2
  | true =>
    obtain ⟨z, g3, v1, v2, v3⟩ := pickInt_ok q2 (l := [0, -1, 100000, 100001]) (by simp) (by simp)
    have v1 : s_l1PickInt (f.1, (f.2.1, f.2.2)) [0, -1, 100000, 100001] = some (z, (g3, ())) := v1
    rw [cond_true, v1]
    simp only [Option.bind_some]
    exact last _ v2
theorem drawHR_ok {code : List Int} (hc : code.length ≤ 1048576) : ∃ (r : Rg) (p : Ra), s_DrawHasRational code = some (r, p) ∧ HwR r ∧ p.1.length ≤ 3 := by
  unfold s_DrawHasRational
  rw [tt5]
  obtain ⟨y, e⟩ := new_loop hc (IntKind.i64.wrap (26583 + (code.length : Int)))
  obtain ⟨r, c, a1, a2, a3⟩ := bent_ok (s := (code, (0, y))) ⟨by simp, by simp, hc⟩
  have last : ∀ {f : Cur}, CurOk f → ∃ p : Ra, ((s_l1Min 3 r.1).bind fun v12 => (s_l1Max 0 v12).bind fun v13 => (s_l6Bent (f.1, (f.2.1, f.2.2)) v13).bind fun v14 => some ((r.1, r.2), (v14.1.1, v14.1.2))) = some (r, p) ∧ p.1.length ≤ 3 := fun {f} hf => by
    rw [l1Min_eq, Option.bind_some, l1Max_eq, Option.bind_some]
    have hb : 0 ≤ mx 0 (mn 3 r.1) ∧ mx 0 (mn 3 r.1) ≤ 3 := by unfold mx mn; split <;> split <;> omega
    obtain ⟨k, g, r1, r2, r3⟩ := l6Bent_ok hf hb.1 hb.2
    have r1 : s_l6Bent (f.1, (f.2.1, f.2.2)) (mx 0 (mn 3 r.1)) = some (k, (g, ())) := r1
    rw [r1]
    exact ⟨k, rfl, r3⟩
  obtain ⟨n, n3, vo, vl⟩ := vertS_ok (r := r)
  rw [e]
  simp only [Option.bind_some, a1]
  rw [vertS_eq (r := (r.1, r.2)) a3.lim a3.lims]
  obtain ⟨V, hV⟩ : ∃ V, vertS r = V := ⟨_, rfl⟩
  rw [hV] at vo vl
  rw [show vertS (r.1, r.2) = V from hV]
  simp only [Option.bind_some]
  by_cases h1 : 0 < V.length
  · rw [show decide ((V.length : Int) > 0) = true from by simp; omega, cond_true]
    obtain ⟨t, f, q1, q2⟩ := once_ok a2 (n := 3) (by omega)
    have q1 : s_l1Once (c.1, (c.2.1, c.2.2)) 3 = some (t, (f, ())) := q1
    rw [q1]
    simp only [Option.bind_some]
    cases t with
    | false =>
      rw [cond_false]
      have hl : ((s_l1Min 3 r.1).bind fun v12 => (s_l1Max 0 v12).bind fun v13 => (s_l6Bent (f.1, (f.2.1, f.2.2)) v13).bind fun v14 => some ((r.1, r.2), (v14.1.1, v14.1.2))) = _ := (last q2).choose_spec.1
      exact ⟨r, _, hl, a3, (last q2).choose_spec.2⟩
    | true =>
      obtain ⟨m, d, b1, b2, b3, b4, b5⟩ := below_ok q2 (n := (V.length : Int)) (by omega)
      have b1 : s_l1Below (f.1, (f.2.1, f.2.2)) (V.length : Int) = some (m, (d, ())) := b1
      have b6 := b5 (by omega)
      obtain ⟨m, rfl⟩ := Int.eq_ofNat_of_zero_le b3
      rw [cond_true, b1]
      simp only [Option.bind_some]
      have hm : m < V.length := by omega
      rw [idx_some (List.getElem?_eq_getElem hm)]
      have := (vo.fine _ (List.getElem_mem hm)).len
      exact ⟨r, _, rfl, a3, by simp only; omega⟩
  · rw [show decide ((V.length : Int) > 0) = false from decide_eq_false (by omega), cond_false]
    have hl : ((s_l1Min 3 r.1).bind fun v12 => (s_l1Max 0 v12).bind fun v13 => (s_l6Bent (c.1, (c.2.1, c.2.2)) v13).bind fun v14 => some ((r.1, r.2), (v14.1.1, v14.1.2))) = _ := (last a2).choose_spec.1
    exact ⟨r, _, hl, a3, (last a2).choose_spec.2⟩
/-! What both say of it. -/
theorem sameInts_refl {xs : List Int} (hl : xs.length ≤ lim) : w_sameInts xs xs = some true := by
  have hlim : lim = 140737488355328 := lim_eq
  have e := iter_up (step := w_sameInts_s4 xs xs) xs.length (fun k => (k : Int)) (.inl ()) (fun k hk => by
    unfold w_sameInts_s4
    rw [show decide ((k : Int) < (xs.length : Int)) = true from by simp; omega, cond_true, idx_nat, List.getElem?_eq_getElem hk]
    simp only [Option.bind_some, bne_self_eq_false, cond_false]
    rw [wrap_id (by omega) (by omega)]
    rfl) (by
    unfold w_sameInts_s4
    rw [show decide ((xs.length : Int) < (xs.length : Int)) = false from by simp, cond_false])
  unfold w_sameInts
  have e : iter (w_sameInts_s4 xs xs) 0 = some (.inl ()) := e
  simp only [bne_self_eq_false, cond_false, e, Option.bind_some]
theorem sameLists_refl {xs : List (List Int)} (hl : xs.length ≤ lim) (h : ∀ x ∈ xs, x.length ≤ lim) : w_sameLists xs xs = some true := by
  have hlim : lim = 140737488355328 := lim_eq
  have e := iter_up (step := w_sameLists_s4 xs xs) xs.length (fun k => (k : Int)) (.inl ()) (fun k hk => by
    unfold w_sameLists_s4
    rw [show decide ((k : Int) < (xs.length : Int)) = true from by simp; omega, cond_true, idx_nat, List.getElem?_eq_getElem hk]
    simp only [Option.bind_some, sameInts_refl (h _ (List.getElem_mem hk)), Bool.not_true, cond_false]
    rw [wrap_id (by omega) (by omega)]
    rfl) (by
    unfold w_sameLists_s4
    rw [show decide ((xs.length : Int) < (xs.length : Int)) = false from by simp, cond_false])
  unfold w_sameLists
  have e : iter (w_sameLists_s4 xs xs) 0 = some (.inl ()) := e
  simp only [bne_self_eq_false, cond_false, e, Option.bind_some]
theorem sameHalf_refl {h : Hf} (hl : h.1.length ≤ 1000) : w_sameHalf h h = some true := by
  unfold w_sameHalf
  rw [beq_self_eq_true, cond_true, sameInts_refl (by rw [lim_eq]; omega)]; rfl
theorem equalRegion_refl {r : Rg} (hl : r.2.length ≤ 1000) (hh : ∀ h ∈ r.2, h.1.length ≤ 1000) : s_EqualRegion r r = some true := by
  have e := iter_up (step := s_EqualRegion_s4 r r) r.2.length (fun k => (k : Int)) (.inl ()) (fun k hk => by
    unfold s_EqualRegion_s4
    rw [show decide ((k : Int) < (r.2.length : Int)) = true from by simp; omega, cond_true, idx_nat, List.getElem?_eq_getElem hk]
    simp only [Option.bind_some]
    rw [l4SameHalf_eq (by have := hh _ (List.getElem_mem hk); rw [lim_eq]; omega)]
    simp only [Option.bind_some, beq_self_eq_true, Bool.not_true, cond_false]
    rw [wrap_id (by omega) (by omega)]
    rfl) (by
    unfold s_EqualRegion_s4
    rw [show decide ((r.2.length : Int) < (r.2.length : Int)) = false from by simp, cond_false])
  unfold s_EqualRegion
  have e : iter (s_EqualRegion_s4 r r) 0 = some (.inl ()) := e
  simp only [bne_self_eq_false, cond_false, e, Option.bind_some]
/-- A half that all points keep is implied. -/
theorem implied_true {r : Rg} {h : Hf} {n : Nat} (hr : regB r = true) (ho : RegOk r n) (hb : halfB r.1 h = true) (hp : ∀ x ∈ ptsL n, hasR r x = true → dtL h.1 x ≤ h.2) : i_IsImplied r h = some true := by
  have hlim : r.2.length ≤ lim := by have := ho.len; rw [lim_eq]; omega
  have hhl : ∀ q ∈ r.2, q.1.length ≤ lim := fun q hq => by have := (ho.halves q hq).1; have := ho.hi; rw [lim_eq]; omega
  have hf := halfB_of hb
  have hn := ho.hi
  have e1 : h.1.length = n := by have := hf.1; rw [ho.dim] at this; exact Int.ofNat.inj this
  unfold i_IsImplied
  rw [i_IsRegion_eq (r := (r.1, r.2)) hlim hhl, show regB (r.1, r.2) = true from hr]
  simp only [Option.bind_some, Bool.not_true, cond_false]
  rw [i_IsHalf_eq (h := (h.1, h.2)) (by rw [lim_eq]; simp only; omega), show halfB r.1 (h.1, h.2) = true from hb]
  simp only [Option.bind_some, Bool.not_true, cond_false]
  obtain ⟨p1, p2⟩ := pointsIn_eq ho hr
  rw [show i_PointsIn (r.1, r.2) = _ from p1]
  simp only [Option.bind_some]
  obtain ⟨f1, f2⟩ := pts_facts ho.hi
  have hd : ∀ x ∈ (ptsL n).filter (hasR r), i_dot h.1 x = some (dtL h.1 x) ∧ dtL h.1 x ≤ h.2 := fun x hx => by
    obtain ⟨x1, x2⟩ := List.mem_filter.1 hx
    have hx' := f1 x x1
    exact ⟨(dotL_eq (by rw [e1, hx'.1]) (by omega) (fun y hy => by have := hf.2.1 y hy; omega) (fun y hy => by have := hx'.2 y hy; omega)).1, hp x x1 x2⟩
  have hLl : ((ptsL n).filter (hasR r)).length ≤ 8000000 := Nat.le_trans (List.length_filter_le _ _) f2
  generalize (ptsL n).filter (hasR r) = L at hd hLl
  have B := iter_all (step := i_IsImplied_s4 h L) L (fun x => decide (dtL h.1 x ≤ h.2)) (fun k x hx => by
    have hk := len_lt hx
    unfold i_IsImplied_s4
    rw [show decide ((k : Int) < (L.length : Int)) = true from by simp; omega, cond_true, idx_some hx]
    simp only [Option.bind_some, (hd x (List.mem_of_getElem? hx)).1]
    rw [wrap_small (by omega) (by omega)]
    by_cases hc : dtL h.1 x ≤ h.2
    · rw [show decide (dtL h.1 x > h.2) = false from by simp; omega, cond_false, if_pos (by simpa using hc)]
    · rw [show decide (dtL h.1 x > h.2) = true from by simp; omega, cond_true, if_neg (by simpa using hc)]) (by
    unfold i_IsImplied_s4
    simp)
  have B : iter (i_IsImplied_s4 (h.1, h.2) L) 0 = _ := B
  rw [B, show (L.all fun x => decide (dtL h.1 x ≤ h.2)) = true from List.all_eq_true.2 fun x hx => by simpa using (hd x hx).2]
  rfl
/-- A combination of two halves, if there is one. -/
theorem comb_told {h k : Hf} {p q : Int} (hc : (combR h k p q).2 = true) : ∃ n : Int, IsHf n h ∧ IsHf n k ∧ IsHf n (combH h k p q) ∧ 0 ≤ p ∧ 0 ≤ q ∧ (combR h k p q).1 = tight (combH h k p q) := by
  unfold combR at hc ⊢
  split at hc
  · rename_i h1
    rw [if_pos h1]
    split at hc
    · rename_i h2
      rw [if_pos h2]
      simp only [Bool.and_eq_true, inR_iff] at h1
      have w1 := halfB_iff.1 h1.1.1.1
      have w2 := halfB_iff.1 h1.1.1.2
      have w3 := halfB_iff.1 h2
      have e : (combH h k p q).1.length = h.1.length := by
        have := w2.len
        have := w1.len
        show ((h.1.zip k.1).map _).length = _
        rw [List.length_map, List.length_zip]; omega
      rw [e] at w3
      exact ⟨_, w1, w2, w3, h1.1.2.1, h1.2.1, rfl⟩
    · cases hc
  · cases hc
theorem comb_keeps {h k : Hf} {p q : Int} (hc : (combR h k p q).2 = true) {x : List Int} (h1 : dtL h.1 x ≤ h.2) (h2 : dtL k.1 x ≤ k.2) : dtL (combR h k p q).1.1 x ≤ (combR h k p q).1.2 := by
  obtain ⟨n, a1, a2, a3, a4, a5, a6⟩ := comb_told hc
  rw [a6, tight_iff a3]
  have e : dtL (combH h k p q).1 x = p * dtL h.1 x + q * dtL k.1 x := dtL_comb p q h.1 k.1 x (by have := a1.len; have := a2.len; omega)
  have m1 := Int.mul_le_mul_of_nonneg_left h1 a4
  have m2 := Int.mul_le_mul_of_nonneg_left h2 a5
  rw [e]
  show _ ≤ p * h.2 + q * k.2
  omega
theorem comb_implied {r : Rg} {n : Nat} (hr : regB r = true) (ho : RegOk r n) {h k : Hf} (hh : h ∈ r.2) (hk : k ∈ r.2) {p q : Int} (hc : (combR h k p q).2 = true) : i_IsImplied r (combR h k p q).1 = some true := by
  obtain ⟨m, a1, a2, a3, a4, a5, a6⟩ := comb_told hc
  have hm : m = r.1 := by have := a1.len; have := (ho.halves h hh).1; have := ho.dim; omega
  subst hm
  refine implied_true hr ho (by rw [a6]; exact halfB_iff.2 (tight_hf a3)) fun x hx hR => ?_
  unfold hasR at hR
  rw [List.all_eq_true] at hR
  exact comb_keeps hc (by simpa using hR h hh) (by simpa using hR k hk)
/-- The tightened region has the same points. -/
theorem tg_all (P : Hf → Bool) : ∀ (xs a : List Hf), (xs.foldl tgB a).all P = (a.all P && xs.all fun h => P (tight h))
  | [], a => by simp
  | h :: xs, a => by
    simp only [List.foldl_cons, List.all_cons]
    rw [tg_all P xs]
    have : (tgB a h).all P = (a.all P && P (tight h)) := by
      unfold tgB
      split
      · rename_i hm
        obtain ⟨q, h1, h2⟩ := List.any_eq_true.1 hm
        have h2 : q = tight h := by simpa using h2
        subst h2
        cases ha : a.all P with
        | false => rfl
        | true => rw [List.all_eq_true.1 ha _ h1]; rfl
      · simp
    rw [this, Bool.and_assoc]
theorem tightR_told {r : Rg} {n : Nat} (hr : regB r = true) (ho : RegOk r n) : (tightR r).2 = true ∧ regB (tightR r).1 = true ∧ RegOk (tightR r).1 n ∧ ∀ x, hasR (tightR r).1 x = hasR r x := by
  have e : tightR r = ((r.1, r.2.foldl tgB []), true) := by unfold tightR; rw [if_pos hr]
  have hB : ∀ h ∈ r.2, IsHf r.1 h := fun h hh => by
    unfold regB at hr
    simp only [Bool.and_eq_true, List.all_eq_true] at hr
    exact halfB_iff.1 (hr.2 h hh)
  have hfit := tightR_fit (r := r)
  rw [e] at hfit ⊢
  have hlen := hfit.len
  have hreg : regB (r.1, r.2.foldl tgB []) = true := by
    unfold regB
    simp only [Bool.and_eq_true, decide_eq_true_eq, inR_iff]
    refine ⟨⟨⟨by have := ho.dim; have := ho.lo; omega, by have := ho.dim; have := ho.hi; omega⟩, hlen⟩, ?_⟩
    rw [tg_all]
    simp only [List.all_nil, Bool.true_and, List.all_eq_true]
    exact fun h hh => halfB_iff.2 (tight_hf (hB h hh))
  refine ⟨rfl, hreg, ?_, fun x => ?_⟩
  · obtain ⟨m, hm⟩ := regOk hreg
    have : m = n := by have h1 := hm.dim; have h2 := ho.dim; simp only at h1; omega
    exact this ▸ hm
  · unfold hasR
    simp only
    rw [tg_all]
    simp only [List.all_nil, Bool.true_and]
    rw [Bool.eq_iff_iff]
    simp only [List.all_eq_true, decide_eq_true_eq]
    exact ⟨fun h y hy => (tight_iff (hB y hy) x).1 (h y hy), fun h y hy => (tight_iff (hB y hy) x).2 (h y hy)⟩
/-- What a cut is. -/
theorem cut_told {r : Rg} {x : Ra} (hc : (cutL r x).2 = true) : hasRat r x = true ∧ ∃ (h k : Hf) (a b : Nat), h ∈ r.2 ∧ k ∈ r.2 ∧ (combR h k a b).2 = true ∧ (cutL r x).1 = (combR h k a b).1 ∧ dtL (combR h k a b).1.1 x.1 > (combR h k a b).1.2 * x.2 := by
  unfold cutL at hc ⊢
  split at hc
  · rename_i h1
    rw [if_pos h1]
    refine ⟨h1, ?_⟩
    split at hc
    · rename_i c hfs
      obtain ⟨i, hi, h4⟩ := List.exists_of_findSome?_eq_some hfs
      unfold try4 at h4
      obtain ⟨d, hd, h3⟩ := List.exists_of_findSome?_eq_some h4
      unfold try3 at h3
      obtain ⟨a, ha, h2⟩ := List.exists_of_findSome?_eq_some h3
      unfold try2 at h2
      obtain ⟨b, hb, h1'⟩ := List.exists_of_findSome?_eq_some h2
      rw [List.mem_range] at hi hd
      have mi : r.2.getD i ([], 0) ∈ r.2 := by rw [List.getD_eq_getElem?_getD, List.getElem?_eq_getElem hi]; exact List.getElem_mem _
      have mj : r.2.getD (i + 1 + d) ([], 0) ∈ r.2 := by rw [List.getD_eq_getElem?_getD, List.getElem?_eq_getElem (by omega)]; exact List.getElem_mem _
      unfold try1 at h1'
      split at h1'
      · rename_i hcc
        simp only [Bool.and_eq_true, decide_eq_true_eq] at hcc
        simp only [Option.some.injEq] at h1'
        subst h1'
        exact ⟨_, _, a, b, mi, mj, hcc.1, rfl, hcc.2⟩
      · cases h1'
    · cases hc
  · cases hc
/-! The law. -/
theorem law_Tightened (x : List Int) (hx : TyOk (.list (.int .u8)) x) : w_FnTightened x = some true := by
  unfold w_FnTightened w_big
  simp only [Option.bind_some]
  by_cases hbig : (x.length : Int) > 1048576
  · rw [show decide ((x.length : Int) > 1048576) = true from by simpa using hbig]; rfl
  rw [show decide ((x.length : Int) > 1048576) = false from by simpa using hbig, cond_false]
  obtain ⟨h, d1, hl⟩ := drawTH_ok (code := x) (by omega)
  obtain ⟨r, d2, hr⟩ := drawTR_ok (code := x) (by omega)
  obtain ⟨a, b, p, q, d3, al, bl⟩ := drawCH_ok (code := x) (by omega)
  obtain ⟨e, f, d4, he, fl⟩ := drawII_ok (code := x) (by omega)
  obtain ⟨g, v, d5, hg, vl⟩ := drawHR_ok (code := x) (by omega)
  have d5' : s_DrawCutFor x = some (g, v) := by unfold s_DrawCutFor; rw [d5]; rfl
  have hlim : lim = 140737488355328 := lim_eq
  -- what both sides say
  have t1 : i_TightenHalf (h.1, h.2) = some (if halfB h.1.length h then (tight h, true) else (([], 0), false)) := i_TightenHalf_eq (h := h) (by omega)
  have t2 : s_TightenHalf (h.1, h.2) = some (if halfB h.1.length h then (tight h, true) else (([], 0), false)) := s_TightenHalf_eq (h := h) (by omega)
  have r1 : s_TightenRegion (r.1, r.2) = some (tightR r) := (tightR_eq (r := r) hr.lim hr.lims).1
  have r2 : i_TightenRegion (r.1, r.2) = some (tightR r) := (tightR_eq (r := r) hr.lim hr.lims).2
  have c1 : s_CombineHalves (a.1, a.2) (b.1, b.2) p q = some (combR a b p q) := (combine_eq (h := a) (k := b) (by omega) (by omega) p q).1
  have c2 : i_CombineHalves (a.1, a.2) (b.1, b.2) p q = some (combR a b p q) := (combine_eq (h := a) (k := b) (by omega) (by omega) p q).2
  obtain ⟨w, i1, i2⟩ := isImplied_eq (r := (e.1, e.2)) (h := (f.1, f.2)) he.lim he.lims (show f.1.length ≤ lim by omega)
  have k1 : s_CutFor (g.1, g.2) (v.1, v.2) = some (cutL g v) := (cutL_eq (r := g) (x := v) hg.lim hg.lims (by omega)).1
  have k2 : i_CutFor (g.1, g.2) (v.1, v.2) = some (cutL g v) := (cutL_eq (r := g) (x := v) hg.lim hg.lims (by omega)).2
  have f1 : (if halfB h.1.length h then (tight h, true) else ((([], 0) : Hf), false)).1.1.length ≤ 1000 := Nat.le_trans tight_len (by omega)
  have f2 := tightR_fit (r := r)
  have f2l := f2.len
  have f3 := comb_len a b p q
  have f4 := cutL_fit (r := g) (x := v)
  -- the cut
  have hT : (cond (!(cutL g v).2) (some true) ((i_IsImplied (g.1, g.2) ((cutL g v).1.1, (cutL g v).1.2)).bind fun v28 => cond v28 ((w_dot (cutL g v).1.1 v.1).bind fun v29 => some (decide (v29 > (IntKind.i64.wrap ((cutL g v).1.2 * v.2))))) (some false))) = some true := by
    cases hc : (cutL g v).2 with
    | false => rfl
    | true =>
      obtain ⟨hrat, h1, h2, a1, b1, m1, m2, hcb, e1, e2⟩ := cut_told hc
      have hrb : regB g = true ∧ ratB v = true ∧ (v.1.length : Int) = g.1 := by
        unfold hasRat at hrat
        simp only [Bool.and_eq_true, beq_iff_eq] at hrat
        exact ⟨hrat.1.1.1, hrat.1.1.2, hrat.1.2⟩
      obtain ⟨n, ho⟩ := regOk hrb.1
      have him := comb_implied hrb.1 ho m1 m2 hcb
      obtain ⟨b1', b2, b3, b4, b5⟩ := comb_bd hcb
      have hl1 := (ho.halves h1 m1).1
      have hdim := ho.dim
      have hd := half_dot (h := (combR h1 h2 a1 b1).1) (p := v) (by omega) (by omega) b3 ⟨b4, b5⟩ hrb.2.1
      rw [e1, Bool.not_true, cond_false, show i_IsImplied (g.1, g.2) ((combR h1 h2 a1 b1).1.1, (combR h1 h2 a1 b1).1.2) = some true from him]
      simp only [Option.bind_some, cond_true]
      rw [show w_dot (combR h1 h2 a1 b1).1.1 v.1 = s_l2Dot (combR h1 h2 a1 b1).1.1 v.1 from rfl, hd.2.1, hd.2.2]
      simp only [Option.bind_some]
      rw [decide_eq_true e2]
  -- the combination
  have hC : ∀ (T : Option Bool), T = some true → (cond (combR a b p q).2 ((i_IsImplied ((a.1.length : Int), ([(a.1, a.2), (b.1, b.2)] : List ((List Int) × Int))) ((combR a b p q).1.1, (combR a b p q).1.2)).bind fun v27 => cond (!v27) (some false) T) T) = some true := fun T hT => by
    subst hT
    cases hc : (combR a b p q).2 with
    | false => rfl
    | true =>
      obtain ⟨n, a1, a2, a3, a4, a5, a6⟩ := comb_told hc
      have hreg : regB ((a.1.length : Int), [a, b]) = true := by
        unfold regB
        have q1 := halfB_iff.2 a1
        have q2 := halfB_iff.2 a2
        have := a1.len
        simp only [Bool.and_eq_true, decide_eq_true_eq, inR_iff, List.all_cons, List.all_nil, Bool.and_true]
        rw [this]
        exact ⟨⟨⟨a1.n1, a1.n3⟩, by simp⟩, q1, q2⟩
      obtain ⟨m, ho⟩ := regOk hreg
      have him := comb_implied hreg ho (h := a) (k := b) (by simp) (by simp) hc
      rw [cond_true, show i_IsImplied ((a.1.length : Int), [(a.1, a.2), (b.1, b.2)]) ((combR a b p q).1.1, (combR a b p q).1.2) = some true from him]
      rfl
  -- the region
  have hR : ∀ (T : Option Bool), T = some true → (cond (tightR r).2 ((s_PointsIn ((tightR r).1.1, (tightR r).1.2)).bind fun v24 => (s_PointsIn (r.1, r.2)).bind fun v25 => (w_sameLists v24 v25).bind fun v26 => cond (!v26) (some false) T) T) = some true := fun T hT => by
    subst hT
    cases hc : (tightR r).2 with
    | false => rfl
    | true =>
      have hrb : regB r = true := by
        cases hb : regB r with
        | true => rfl
        | false => unfold tightR at hc; rw [hb] at hc; cases hc
      obtain ⟨n, ho⟩ := regOk hrb
      obtain ⟨q1, q2, q3, q4⟩ := tightR_told hrb ho
      have e1 : s_PointsIn ((tightR r).1.1, (tightR r).1.2) = some ((ptsL n).filter (hasR (tightR r).1)) := (pointsIn_eq q3 q2).2
      have e2 : s_PointsIn (r.1, r.2) = some ((ptsL n).filter (hasR r)) := (pointsIn_eq ho hrb).2
      have e3 : hasR (tightR r).1 = hasR r := funext q4
      obtain ⟨p1, p2⟩ := pts_facts ho.hi
      have hhi := ho.hi
      rw [cond_true, e1, e2, e3]
      simp only [Option.bind_some]
      rw [sameLists_refl (by have := List.length_filter_le (hasR r) (ptsL n); omega) fun y hy => by have := (p1 y (List.mem_filter.1 hy).1).1; omega]
      rfl
  rw [d1]
  simp only [Option.bind_some]
  rw [t1, t2, d2]
  simp only [Option.bind_some]
  rw [r1, r2, d3]
  simp only [Option.bind_some]
  rw [c1, c2, d4, d5']
  simp only [Option.bind_some]
  rw [k1, k2]
  simp only [Option.bind_some, beq_self_eq_true, Bool.not_true, cond_false]
  have s1 := sameHalf_refl f1
  rw [show w_sameHalf ((if halfB h.1.length h then (tight h, true) else ((([], 0) : Hf), false)).1.1, (if halfB h.1.length h then (tight h, true) else ((([], 0) : Hf), false)).1.2) ((if halfB h.1.length h then (tight h, true) else ((([], 0) : Hf), false)).1.1, (if halfB h.1.length h then (tight h, true) else ((([], 0) : Hf), false)).1.2) = some true from s1]
  simp only [Option.bind_some, Bool.not_true, cond_false]
  rw [show s_EqualRegion ((tightR r).1.1, (tightR r).1.2) ((tightR r).1.1, (tightR r).1.2) = some true from equalRegion_refl (r := (tightR r).1) (by omega) fun y hy => by have := f2.each y hy; omega]
  simp only [Option.bind_some, Bool.not_true, cond_false]
  rw [show w_sameHalf ((combR a b p q).1.1, (combR a b p q).1.2) ((combR a b p q).1.1, (combR a b p q).1.2) = some true from sameHalf_refl (h := (combR a b p q).1) (by omega)]
  simp only [Option.bind_some, Bool.not_true, cond_false]
  rw [show i_IsImplied (e.1, e.2) (f.1, f.2) = some w from i2, show s_IsImplied (e.1, e.2) (f.1, f.2) = some w from i1]
  simp only [Option.bind_some, beq_self_eq_true, Bool.not_true, cond_false]
  rw [show w_sameHalf ((cutL g v).1.1, (cutL g v).1.2) ((cutL g v).1.1, (cutL g v).1.2) = some true from sameHalf_refl (h := (cutL g v).1) (by omega)]
  simp only [Option.bind_some, Bool.not_true, cond_false]
  have hrest := hR _ (hC _ hT)
  cases hb : halfB h.1.length h with
  | false =>
    rw [if_neg (by simp)]
    simp only [cond_false]
    exact hrest
  | true =>
    rw [if_pos rfl]
    have hh := halfB_iff.1 hb
    have hth := tight_hf hh
    have e1 : i_TightenHalf ((tight h).1, (tight h).2) = some (tight h, true) := by
      have := i_TightenHalf_eq (h := tight h) (by have := hth.small; omega)
      rw [hth.len, ] at this
      rw [show i_TightenHalf ((tight h).1, (tight h).2) = i_TightenHalf (tight h) from rfl, this, if_pos (halfB_iff.2 hth), tight_twice hh]
    have e2 : s_GcdOf (tight h).1 = some 1 := by
      unfold s_GcdOf
      rw [s_IsVector_eq (by have := hth.small; omega)]
      have hv : vecB (tight h).1 = true := by
        unfold vecB
        simp only [Bool.and_eq_true, inR_iff, List.all_eq_true]
        have := hth.len
        have := hth.n1
        have := hth.n3
        exact ⟨by omega, fun y hy => by have := hth.all y hy; omega⟩
      rw [hv]
      simp only [Option.bind_some, Bool.not_true, cond_false]
      rw [l2All_eq hth.lim hth.sm, show gcdL (tight h).1 = 1 from prime_one hh.g]; rfl
    simp only [cond_true]
    rw [e1]
    simp only [Option.bind_some, Bool.not_true, cond_false]
    rw [show w_sameHalf ((tight h).1, (tight h).2) ((tight h).1, (tight h).2) = some true from sameHalf_refl (h := tight h) (by have := hth.small; omega)]
    simp only [Option.bind_some, Bool.not_true, cond_false]
    rw [e2]
    simp only [Option.bind_some, bne_self_eq_false, cond_false]
    exact hrest
end Go.Proofs.Ytednadbkcpcmfaa
