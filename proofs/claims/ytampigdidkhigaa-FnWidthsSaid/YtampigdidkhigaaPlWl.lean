/-
  Plain: the law FnWidths. No condition.
-/
import Derived.Test.YtampigdidkhigaaPlAr
import Derived.Test.YtampigdidkhigaaPlBd
import Derived.Test.YtampigdidkhigaaPlPd
namespace Go.Proofs.Ytampigdidkhigaa
open Go Go.Proofs.Ytampigdidkhigaa.Eng
set_option linter.unusedVariables false
set_option linter.unusedSimpArgs false
open Hull (Pt Pol tn lx at_ at_some at_of at_mem)
/-! The laws' helpers. -/
theorem sameInts_self {xs : List Int} (hl : xs.length ≤ lim) : w_sameInts xs xs = some true := by
  have hlim : lim = 140737488355328 := lim_eq
  have e := iter_up (step := w_sameInts_s4 xs xs) xs.length (fun k => (k : Int)) (.inl ()) (fun k hk => by
    unfold w_sameInts_s4
    rw [show decide ((k : Int) < (xs.length : Int)) = true from by simp; omega, cond_true, idx_nat, List.getElem?_eq_getElem hk]
    simp only [Option.bind_some, bne_self_eq_false, cond_false]
    rw [wrap_id (by omega) (by omega)]
    rfl) (by
    unfold w_sameInts_s4
    rw [show decide ((xs.length : Int) < (xs.length : Int)) = false from by simp, cond_false])
  unfold w_sameInts
  have e : iter (w_sameInts_s4 xs xs) 0 = some (.inl ()) := e
  simp only [bne_self_eq_false, cond_false, e, Option.bind_some]
theorem sameLists_self {xs : List (List Int)} (hl : xs.length ≤ lim) (h : ∀ x ∈ xs, x.length ≤ lim) : w_sameLists xs xs = some true := by
  have hlim : lim = 140737488355328 := lim_eq
  have e := iter_up (step := w_sameLists_s4 xs xs) xs.length (fun k => (k : Int)) (.inl ()) (fun k hk => by
    unfold w_sameLists_s4
    rw [show decide ((k : Int) < (xs.length : Int)) = true from by simp; omega, cond_true, idx_nat, List.getElem?_eq_getElem hk]
    simp only [Option.bind_some, sameInts_self (h _ (List.getElem_mem hk)), Bool.not_true, cond_false]
    rw [wrap_id (by omega) (by omega)]
    rfl) (by
    unfold w_sameLists_s4
    rw [show decide ((xs.length : Int) < (xs.length : Int)) = false from by simp, cond_false])
  unfold w_sameLists
  have e : iter (w_sameLists_s4 xs xs) 0 = some (.inl ()) := e
  simp only [bne_self_eq_false, cond_false, e, Option.bind_some]
theorem sum_take_succ {xs : List Int} {k : Nat} (hk : k < xs.length) : (xs.take (k + 1)).sum = (xs.take k).sum + xs[k] := by
  rw [List.take_add_one, List.getElem?_eq_getElem hk, List.sum_append]
  simp
theorem sum_bd {M : Int} (hM : 0 ≤ M) : ∀ (xs : List Int), (∀ x ∈ xs, -M ≤ x ∧ x ≤ M) → -(M * xs.length) ≤ xs.sum ∧ xs.sum ≤ M * xs.length
  | [], _ => by simp
  | x :: xs, h => by
    have ih := sum_bd hM xs fun y hy => h y (List.mem_cons_of_mem _ hy)
    have hx := h x (by simp)
    have e : M * ((x :: xs).length : Int) = M * xs.length + M := by simp only [List.length_cons]; grind
    rw [List.sum_cons]
    omega
theorem total_eq {xs : List Int} (hl : xs.length ≤ 1000000) (h : ∀ x ∈ xs, -1000000 ≤ x ∧ x ≤ 1000000) : w_total xs = some xs.sum := by
  have e := iter_up (step := w_total_s3 xs) xs.length (fun k => ((xs.take k).sum, (k : Int))) xs.sum (fun k hk => by
    have hb := sum_bd (M := 1000000) (by omega) (xs.take k) fun x hx => h x (List.mem_of_mem_take hx)
    have hx := h _ (List.getElem_mem hk)
    have hlen : ((xs.take k).length : Int) ≤ 1000000 := by simp; omega
    unfold w_total_s3
    simp only
    rw [show decide ((k : Int) < (xs.length : Int)) = true from by simp; omega, cond_true, idx_nat, List.getElem?_eq_getElem hk]
    simp only [Option.bind_some]
    rw [wrap_id (by omega) (by omega), wrap_id (by omega) (by omega), sum_take_succ hk]
    rfl) (by
    unfold w_total_s3
    simp only [List.take_length]
    rw [show decide ((xs.length : Int) < (xs.length : Int)) = false from by simp, cond_false])
  unfold w_total
  have e : iter (w_total_s3 xs) (0, 0) = some xs.sum := by simpa using e
  rw [e]
  rfl
theorem scaled_neg {xs : List Int} (hl : xs.length ≤ 1000) (h : ∀ x ∈ xs, -1000 ≤ x ∧ x ≤ 1000) : w_scaled xs (-1) = some (xs.map fun x => -x) := by
  have e := iter_up (step := w_scaled_s3 xs (-1)) xs.length (fun k => ((xs.take k).map fun x => -x, (k : Int))) (xs.map fun x => -x) (fun k hk => by
    have hx := h _ (List.getElem_mem hk)
    unfold w_scaled_s3
    simp only
    rw [show decide ((k : Int) < (xs.length : Int)) = true from by simp; omega, cond_true, idx_nat, List.getElem?_eq_getElem hk]
    simp only [Option.bind_some]
    rw [wrap_id (by omega) (by omega), wrap_id (by omega) (by omega), appD_some (by rw [lim_eq]; simp; omega) (by rw [lim_eq]; simp; omega), take_map_succ (fun x => -x) (List.getElem?_eq_getElem hk)]
    simp only [Option.bind_some]
    rw [show xs[k] * -1 = -xs[k] by omega]
    rfl) (by
    unfold w_scaled_s3
    simp only [List.take_length]
    rw [show decide ((xs.length : Int) < (xs.length : Int)) = false from by simp, cond_false])
  unfold w_scaled
  have e : iter (w_scaled_s3 xs (-1)) ([], 0) = some (xs.map fun x => -x) := e
  rw [e]
  rfl
/-! The best directions, in full. -/
theorem bst_ne (P : List Pt) : (l : List (List Int)) → (s : Int × List (List Int)) → s.2 ≠ [] → (l.foldl (bst P) s).2 ≠ []
  | [], s, h => h
  | v :: l, s, h => by
    rw [List.foldl_cons]
    apply bst_ne P l
    unfold bst
    split
    · simp
    · split
      · simp
      · exact h
theorem bestDirections_full {p : List (List Int)} (hp : FitLL p) : ∃ (r : List (List Int)) (m : Int), s_BestDirections p = some r ∧ i_BestDirections p = some r ∧ r.length ≤ 2000 ∧ (∀ v ∈ r, v.length = 2) ∧ i_LeastWidth p = some m ∧ s_LeastWidth p = some m ∧
    (isPoly p = false → r = [] ∧ m = -1) ∧ (isPoly p = true → r ≠ [] ∧ ∀ v ∈ r, i_WidthIn p v = some m ∧ ∃ P A, p = P.map em ∧ v = em A ∧ A ≠ (0, 0) ∧ m = wid P A) := by
  obtain ⟨r, e1, e2, e3, e4⟩ := bestDirections_eq hp
  obtain ⟨m, m1, m2⟩ := leastWidth_eq hp
  refine ⟨r, m, e1, e2, e3, e4, m2, m1, fun h1 => ?_, fun h1 => ?_⟩
  · unfold s_BestDirections at e1
    unfold s_LeastWidth at m1
    rw [s_IsPolygon_eq hp.lim hp.eachLim, h1] at e1 m1
    exact ⟨(Option.some.inj e1).symm, (Option.some.inj m1).symm⟩
  · obtain ⟨P, rfl, hB, g3, g12, _⟩ := poly_of h1
    have hw : ∀ v ∈ dirs, i_WidthIn (P.map em) v = some (wid P (toP v)) := fun v hv => by
      obtain ⟨e, hq⟩ := isPt_em (dirs_pt v hv)
      have := i_widthIn_poly hp h1 (hq.mono (n := 1000) (by decide))
      rw [← e] at this
      exact this
    have key := bst_all (P := P) dirs [] (-1, []) (fun v hv => wid_pos hB (by omega) ((isPt_em (dirs_pt v (by simpa using hv))).2.mono (by decide))) (.inl ⟨rfl, rfl⟩)
    have hne : ([] : List (List Int)) ++ dirs ≠ [] := fun h => by
      have := dirs_len
      rw [List.nil_append] at h
      rw [h] at this
      simp at this
    rcases key with key | ⟨k1, k2⟩
    · exact absurd key hne
    rw [List.nil_append] at k2
    have hm : i_LeastWidth (P.map em) = some (dirs.foldl (bst P) (-1, [])).1 := by
      rw [leastWidth_loop hw, bst_lst]
    have hbl := bestDirections_loop hw hm k1
    rw [← k2, e2] at hbl
    have hr := Option.some.inj hbl
    rw [m2] at hm
    have hmm := Option.some.inj hm
    clear hbl hm
    have hfst : (dirs.foldl (bst P) (-1, [])).2 ≠ [] := by
      have hlen := dirs_len
      cases hd : dirs with
      | nil => rw [hd] at hlen; simp at hlen
      | cons v l =>
        rw [List.foldl_cons]
        apply bst_ne
        unfold bst
        rw [if_pos (.inl (by decide))]
        simp
    generalize dirs.foldl (bst P) (-1, []) = F at *
    subst hmm
    subst hr
    have hd0 : ∀ v ∈ dirs, v ≠ em (0, 0) := fun v hv he => by
      have := (List.mem_filter.1 hv).2
      rw [he] at this
      exact absurd this (by decide)
    refine ⟨hfst, fun v hv => ?_⟩
    · rw [k2] at hv
      obtain ⟨v1, v2⟩ := List.mem_filter.1 hv
      have v2 : wid P (toP v) = F.1 := by simpa using v2
      obtain ⟨e, hq⟩ := isPt_em (dirs_pt v v1)
      refine ⟨by rw [hw v v1, v2], P, toP v, rfl, e, fun h0 => ?_, v2.symm⟩
      rw [h0] at e
      exact hd0 v v1 e
/-- A polygon's width is positive; where it is one, there is no inner point. -/
theorem wid_facts {P : List Pt} (h : Pol P) {A : Pt} (hA : A ≠ (0, 0)) : 1 ≤ wid P A ∧ (wid P A = 1 → areaS P - bndS P + 2 = 0) := by
  have h3 := h.len
  obtain ⟨l1, q1, m1, e1⟩ := lo_spec (dt A) (P := P) (by omega)
  obtain ⟨l2, q2, m2, e2⟩ := hi_spec (dt A) (P := P) (by omega)
  have ei : inf P A = lo (dt A) P := rfl
  have es : sup P A = hi (dt A) P := rfl
  have hw : wid P A = hi (dt A) P - lo (dt A) P := by rw [wid_eq, es, ei]
  have hp := width_pos h hA (lo (dt A) P)
  have hle : lo (dt A) P ≤ hi (dt A) P := by have := l1 _ m2; omega
  rw [hw]
  constructor
  · rcases Int.lt_or_le (lo (dt A) P) (hi (dt A) P) with h | h
    · omega
    · exfalso
      apply hp
      intro q hq
      have := l1 q hq
      have := l2 q hq
      omega
  · intro h1
    refine width_one h (a := A) (m := lo (dt A) P) (fun q hq => ?_) ⟨q1, m1, e1.symm⟩ ⟨q2, m2, by omega⟩
    have := l1 q hq
    have := l2 q hq
    omega
/-! What is drawn. -/
theorem new1 : s_DrawPlaceOf_s57_3 = cstep := rfl
theorem new2 : s_DrawBestDirections_s57_3 = cstep := rfl
theorem new3 : s_DrawLayersOf_s57_3 = cstep := rfl
theorem draw1 {code : List Int} (hc : code.length ≤ 1048576) : ∃ p v, s_DrawWidthIn code = some (p, v) ∧ p.length ≤ 12 ∧ (∀ u ∈ p, u.length ≤ 3) ∧ v.length ≤ 3 ∧ ∀ x ∈ v, -127 ≤ x ∧ x ≤ 255 := by
  unfold s_DrawWidthIn s_DrawPlaceOf
  rw [new1]
  obtain ⟨y, e⟩ := new_loop hc (IntKind.i64.wrap (26583 + (code.length : Int)))
  rw [e]
  simp only [Option.bind_some]
  obtain ⟨p, s, a1, a2, _, a3, a4⟩ := l7Bent_ok (s := (code, (0, y))) ⟨by simp, by simp, hc⟩
  have a1 : s_l7Bent (code, (0, y)) = some (p, (s, ())) := a1
  obtain ⟨t, s1, f1, f2⟩ := once_ok a2 (n := 14) (by omega)
  have f1 : s_l1Once (s.1, (s.2.1, s.2.2)) 14 = some (t, (s1, ())) := f1
  obtain ⟨z, g1, g2, g3⟩ := bit_ok t
  have wz : IntKind.i64.wrap (2 + z) = 2 + z := wrap_id (by omega) (by omega)
  obtain ⟨v, s2, k1, k2, k3, k4⟩ := draw_ok f2 (n := 2 + z) (size := 4) (by omega) (by omega) (by omega) (by omega)
  have k1 : s_l2Draw (s1.1, (s1.2.1, s1.2.2)) (2 + z) 4 = some (v, (s2, ())) := k1
  simp only [a1, f1, g1, wz, k1, Option.bind_some]
  exact ⟨p, v, rfl, a3, a4, by omega, k4⟩
theorem draw2 {code : List Int} (hc : code.length ≤ 1048576) : ∃ p, s_DrawBestDirections code = some p ∧ p.length ≤ 12 ∧ ∀ u ∈ p, u.length ≤ 3 := by
  unfold s_DrawBestDirections
  rw [new2]
  obtain ⟨y, e⟩ := new_loop hc (IntKind.i64.wrap (26583 + (code.length : Int)))
  rw [e]
  simp only [Option.bind_some]
  obtain ⟨p, s, a1, a2, _, a3, a4⟩ := l7Bent_ok (s := (code, (0, y))) ⟨by simp, by simp, hc⟩
  have a1 : s_l7Bent (code, (0, y)) = some (p, (s, ())) := a1
  simp only [a1, Option.bind_some]
  exact ⟨p, rfl, a3, a4⟩
theorem draw3 {code : List Int} (hc : code.length ≤ 1048576) : ∃ p v, s_DrawLayersOf code = some (p, v) ∧ p.length ≤ 12 ∧ (∀ u ∈ p, u.length ≤ 3) ∧ v.length ≤ 3 := by
  unfold s_DrawLayersOf
  rw [new3]
  obtain ⟨y, e⟩ := new_loop hc (IntKind.i64.wrap (26583 + (code.length : Int)))
  rw [e]
  simp only [Option.bind_some]
  obtain ⟨p, s, a1, a2, _, a3, a4⟩ := l7Bent_ok (s := (code, (0, y))) ⟨by simp, by simp, hc⟩
  have a1 : s_l7Bent (code, (0, y)) = some (p, (s, ())) := a1
  obtain ⟨t, s1, f1, f2⟩ := once_ok a2 (n := 14) (by omega)
  have f1 : s_l1Once (s.1, (s.2.1, s.2.2)) 14 = some (t, (s1, ())) := f1
  obtain ⟨z, g1, g2, g3⟩ := bit_ok t
  have wz : IntKind.i64.wrap (2 + z) = 2 + z := wrap_id (by omega) (by omega)
  obtain ⟨v, s2, k1, k2, k3, k4⟩ := draw_ok f2 (n := 2 + z) (size := 3) (by omega) (by omega) (by omega) (by omega)
  have k1 : s_l2Draw (s1.1, (s1.2.1, s1.2.2)) (2 + z) 3 = some (v, (s2, ())) := k1
  obtain ⟨b, s3, o1, o2⟩ := once_ok k2 (n := 14) (by omega)
  have o1 : s_l1Once (s2.1, (s2.2.1, s2.2.2)) 14 = some (b, (s3, ())) := o1
  simp only [a1, f1, g1, wz, k1, o1, Option.bind_some]
  cases b with
  | false => exact ⟨p, v, rfl, a3, a4, by omega⟩
  | true =>
    obtain ⟨x, s4, x1, x2, _⟩ := pickInt_ok o2 (l := [12, 13, -13]) (by simp) (by simp)
    have x1 : s_l1PickInt (s3.1, (s3.2.1, s3.2.2)) [12, 13, -13] = some (x, (s4, ())) := x1
    have i0 : inIdx v.length 0 = some () := inIdx_nat (k := 0) (by omega)
    have j0 : inIdx v.length (((0 : Int)).toNat : Int) = some () := inIdx_nat (k := 0) (by omega)
    simp only [cond_true, x1, Option.bind_some, i0, j0]
    exact ⟨p, _, rfl, a3, a4, by simp; omega⟩
/-! The width in a direction and against it. -/
theorem width_mirror {p : List (List Int)} (hp : FitLL p) {a : List Int} (hl : a.length ≤ 3) (ha : ∀ x ∈ a, -1000 ≤ x ∧ x ≤ 1000) {n : Int} (h : i_WidthIn p a = some n) : i_WidthIn p (a.map fun x => -x) = some n := by
  cases h1 : isPoly p with
  | false => rw [i_widthIn_none hp h1] at h ⊢; exact h
  | true =>
    have hlm : a.length ≤ lim := by rw [lim_eq]; omega
    have hlm2 : (a.map fun x => -x).length ≤ lim := by rw [List.length_map]; exact hlm
    have hv : vecB (a.map fun x => -x) = vecB a := by
      unfold vecB
      rw [List.length_map]
      congr 1
      rw [Bool.eq_iff_iff, List.all_eq_true, List.all_eq_true]
      constructor
      · intro _ x hx
        have := ha x hx
        exact inR_iff.2 ⟨by omega, by omega⟩
      · intro _ x hx
        obtain ⟨y, hy, rfl⟩ := List.mem_map.1 hx
        have := ha y hy
        exact inR_iff.2 ⟨by omega, by omega⟩
    by_cases h2 : a.length = 2
    · match a, h2 with
      | [x, y], _ =>
        have hx := ha x (by simp)
        have hy := ha y (by simp)
        obtain ⟨P, rfl, _⟩ := poly_of h1
        have b1 : Bd 1000 ((x, y) : Pt) := ⟨hx.1, hx.2, hy.1, hy.2⟩
        have e1 := i_widthIn_poly hp h1 b1
        have e2 := i_widthIn_poly hp h1 b1.ngp
        have h : i_WidthIn (P.map em) (em (x, y)) = some n := h
        rw [e1] at h
        show i_WidthIn (P.map em) (em (ngp (x, y))) = some n
        rw [e2, ← h]
        unfold wid
        have : ngp (ngp (x, y)) = (x, y) := by simp [ngp]
        rw [this, Int.add_comm]
    · have nn : ∀ b : List Int, b.length ≤ lim → b.length ≠ 2 → i_WidthIn p b = some (-1) := fun b hb hb2 => by
        unfold i_WidthIn
        rw [i_IsPolygon_eq hp.lim hp.eachLim, h1]
        simp only [Option.bind_some, Bool.not_true, cond_false]
        rw [i_IsVector_eq hb]
        simp only [Option.bind_some]
        cases vecB b
        · rfl
        · rw [Bool.not_true, cond_false, show ((b.length : Int) != 2) = true from by simp; omega]
          rfl
      rw [nn a hlm h2] at h
      rw [nn _ hlm2 (by rw [List.length_map]; exact h2)]
      exact h
theorem law_Widths (x : List Int) (hx : TyOk (.list (.int .u8)) x) : w_FnWidths x = some true := by
  unfold w_FnWidths w_big
  simp only [Option.bind_some]
  by_cases hbig : (x.length : Int) > 1048576
  · rw [show decide ((x.length : Int) > 1048576) = true from by simpa using hbig]; rfl
  rw [show decide ((x.length : Int) > 1048576) = false from by simpa using hbig, cond_false]
  obtain ⟨p, a, q1, l1, l2, l3, l4⟩ := draw1 (code := x) (by omega)
  obtain ⟨b, q2, l5, l6⟩ := draw2 (code := x) (by omega)
  obtain ⟨c, d, q3, l7, l8, l9⟩ := draw3 (code := x) (by omega)
  have fp : FitLL p := fit_small (by omega) fun v hv => by have := l2 v hv; omega
  have fb : FitLL b := fit_small (by omega) fun v hv => by have := l6 v hv; omega
  have fc : FitLL c := fit_small (by omega) fun v hv => by have := l8 v hv; omega
  obtain ⟨n, w1, w2, _⟩ := widthIn_eq (p := p) (a := a) fp (by omega)
  obtain ⟨r, m, b1, b2, b3, b4, b5, b6, b7, b8⟩ := bestDirections_full fb
  obtain ⟨y, y1, y2, y3, y4⟩ := layersOf_full (p := c) (v := d) fc (by omega)
  have s1 : w_sameLists r r = some true := sameLists_self (by rw [lim_eq]; omega) fun v hv => by rw [b4 v hv, lim_eq]; omega
  have s2 : w_sameInts y y = some true := sameInts_self (by rw [lim_eq]; omega)
  have s3 := scaled_neg (xs := a) (by omega) fun x hx => by have := l4 x hx; omega
  have s4 := width_mirror fp l3 (fun x hx => by have := l4 x hx; omega) w2
  have hloop : iter (w_FnWidths_s13 b r m) 0 = some (.inl ()) := iter_up r.length (fun k => (k : Int)) _ (fun k hk => by
    have hmem := List.getElem_mem hk
    have hw : i_WidthIn b r[k] = some m := by
      cases h1 : isPoly b with
      | false => rw [(b7 h1).1] at hk; simp at hk
      | true => exact ((b8 h1).2 _ hmem).1
    unfold w_FnWidths_s13
    rw [show decide ((k : Int) < (r.length : Int)) = true from by simp; omega, cond_true, idx_nat, List.getElem?_eq_getElem hk]
    simp only [Option.bind_some, hw, bne_self_eq_false, cond_false]
    rw [wrap_id (by omega) (by omega)]
    rfl) (by
    unfold w_FnWidths_s13
    rw [show decide ((r.length : Int) < (r.length : Int)) = false from by simp, cond_false])
  simp only [q1, q2, q3, Option.bind_some, w1, w2, b1, b2, b5, b6, y1, y2, bne_self_eq_false, cond_false, s1, s2, s3, s4, Bool.not_true, hloop, s_IsPolygon_eq fb.lim fb.eachLim]
  -- the polygon's part
  have poly : (cond (!isPoly b) (cond (m == (-1 : Int)) (some ((r.length : Int) == (0 : Int))) (some false))
      (cond (decide ((r.length : Int) > (0 : Int))) (cond (decide (m ≥ (1 : Int))) ((s_InnerCount b).bind fun v26 => cond (v26 == (0 : Int)) (some true) (some (decide (m ≥ (2 : Int))))) (some false)) (some false))) = some true := by
    cases h1 : isPoly b with
    | false =>
      obtain ⟨rfl, rfl⟩ := b7 h1
      rfl
    | true =>
      obtain ⟨hne, hall⟩ := b8 h1
      obtain ⟨P, hb, hB, g3, g12, hpol⟩ := poly_of h1
      cases hr : r with
      | nil => exact absurd hr hne
      | cons v l =>
        obtain ⟨_, P', A, e1, e2, e3, e4⟩ := hall v (by rw [hr]; simp)
        have : P = P' := by
          have := congrArg (List.map toP) (hb.symm.trans e1)
          rwa [map_toP, map_toP] at this
        subst this
        obtain ⟨f1, f2⟩ := wid_facts hpol e3
        rw [← e4] at f1 f2
        have hic := inner_eq hB (by omega) g12 (by rw [← hb]; exact h1)
        rw [← hb] at hic
        rw [Bool.not_true, cond_false, show decide ((((v :: l).length : Nat) : Int) > 0) = true from by simp, cond_true, show decide (m ≥ 1) = true from by simpa using f1, cond_true, hic]
        simp only [Option.bind_some]
        by_cases hm : m = 1
        · rw [f2 hm]
          rfl
        · rw [show decide (m ≥ 2) = true from by simp; omega]
          cases (IntKind.i64.wrap ((areaS P - bndS P + 2).tdiv 2) == 0) <;> rfl
  by_cases hy : y = []
  · subst hy
    exact poly
  · obtain ⟨pts, z1, z2, z3⟩ := y4 hy
    have ht := total_eq y3 fun x hx => by have := z3 x hx; omega
    have hpos : decide ((y.length : Int) > 0) = true := by
      cases y with
      | nil => exact absurd rfl hy
      | cons _ _ => simp
    rw [hpos, cond_true, ht, z1]
    simp only [Option.bind_some, z2, bne_self_eq_false, cond_false]
    exact poly
end Go.Proofs.Ytampigdidkhigaa
