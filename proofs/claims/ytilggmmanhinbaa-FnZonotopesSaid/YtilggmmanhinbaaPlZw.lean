/-
  Plain: the law FnZonotopes. No condition.
-/
import Derived.Test.YtilggmmanhinbaaPlZt
import Derived.Test.YtilggmmanhinbaaPlHp
namespace Go.Proofs.Ytilggmmanhinbaa
open Go Go.Proofs.Ytilggmmanhinbaa.Eng
set_option linter.unusedVariables false
set_option linter.unusedSimpArgs false
open Hull (Pt Pol tn lx at_ at_some at_of at_mem Asc ng)
/-! How many corners. -/
theorem len_le_sub {α : Type} [DecidableEq α] : ∀ (l m : List α), l.Nodup → (∀ x ∈ l, x ∈ m) → l.length ≤ m.length
  | [], m, _, _ => Nat.zero_le _
  | x :: l, m, hn, hs => by
    obtain ⟨h1, h2⟩ := List.nodup_cons.1 hn
    have hx := hs x (by simp)
    have ih := len_le_sub l (m.erase x) h2 fun y hy => by
      have hne : y ≠ x := fun he => h1 (he ▸ hy)
      exact (List.mem_erase_of_ne hne).2 (hs y (List.mem_cons_of_mem _ hy))
    rw [List.length_erase_of_mem hx] at ih
    have := List.length_pos_of_mem hx
    simp only [List.length_cons]
    omega
theorem normal_inj {P : List Pt} (h : Pol P) {e : Pt} (hp : Prim e) {j k : Nat} (hj : j < P.length) (hk : k < P.length) (j1 : dt e (at_ P j) = sup P e) (j2 : dt e (nx P j) = sup P e) (k1 : dt e (at_ P k) = sup P e) (k2 : dt e (nx P k) = sup P e) : j = k := by
  have hc := comp_one hp
  have t1 := side_bot h hc hk k1 k2 hj j1
  have t2 := side_bot h hc hj j1 j2 hk k1
  exact pol_inj h hj hk (two_num hc (by rw [j1, k1]) (by omega))
/-- A polygon whose support function is a sum of vectors' has two corners a vector at most. -/
theorem corners_le {H P : List Pt} (h : Pol H) (hB : ∀ q ∈ H, Bd 400 q) (hP : ∀ g ∈ P, Bd 400 g ∧ g ≠ (0, 0)) (hsup : sup H = hs P) : H.length ≤ 2 * P.length := by
  classical
  obtain ⟨nr, hn, hsum⟩ := side_sum h hB
  have ex : ∀ g : Pt, ∃ d : Pt, g ∈ P → ∀ u : Pt → Int, XX u (hg g) = gcdP (0, 0) g * (u d + u (ngp d)) := fun g => by
    by_cases hg' : g ∈ P
    · obtain ⟨d, _, _, hd⟩ := XX_hg (hP g hg').1 (hP g hg').2
      exact ⟨d, fun _ => hd⟩
    · exact ⟨(0, 0), fun h => absurd h hg'⟩
  obtain ⟨dg, hdg⟩ : ∃ dg : Pt → Pt, ∀ g, g ∈ P → ∀ u : Pt → Int, XX u (hg g) = gcdP (0, 0) g * (u (dg g) + u (ngp (dg g))) := ⟨fun g => (ex g).choose, fun g => (ex g).choose_spec⟩
  have hmem : ∀ k, k < H.length → nr k ∈ P.flatMap fun g => [dg g, ngp (dg g)] := fun k hk => by
    by_cases hx : nr k ∈ P.flatMap fun g => [dg g, ngp (dg g)]
    · exact hx
    · exfalso
      have h1 := hsum fun x => if x = nr k then 1 else 0
      rw [hsup, XX_hs] at h1
      have h2 : (P.map fun g => XX (fun x => if x = nr k then 1 else 0) (hg g)).sum = 0 := by
        have : ∀ l : List Pt, (∀ g ∈ l, g ∈ P) → (l.map fun g => XX (fun x => if x = nr k then 1 else 0) (hg g)).sum = 0 := fun l => by
          induction l with
          | nil => intro _; rfl
          | cons g l ih =>
            intro hl
            have hgP := hl g (by simp)
            have n1 : dg g ≠ nr k := fun he => hx (List.mem_flatMap.2 ⟨g, hgP, by rw [he]; simp⟩)
            have n2 : ngp (dg g) ≠ nr k := fun he => hx (List.mem_flatMap.2 ⟨g, hgP, by rw [he]; simp⟩)
            rw [List.map_cons, List.sum_cons, ih fun x hx' => hl x (List.mem_cons_of_mem _ hx'), hdg g hgP, if_neg n1, if_neg n2]
            simp
        exact this P fun g h => h
      rw [h2] at h1
      have h3 := sumN_le_mem H.length (f := fun j => (if nr j = nr k then 1 else 0) * gcdP (at_ H j) (nx H j)) (fun j hj => Int.mul_nonneg (by split <;> omega) (Int.le_of_lt (gcd_pos_side h hj))) k hk
      rw [← h1, if_pos rfl, Int.one_mul] at h3
      have := gcd_pos_side h hk
      omega
  have hnd : ((List.range H.length).map nr).Nodup := by
    unfold List.Nodup
    rw [List.pairwise_map]
    refine List.Pairwise.imp_of_mem ?_ (List.nodup_range (n := H.length))
    intro i j hi hj hne he
    obtain ⟨p1, a1, a2, _⟩ := hn i (List.mem_range.1 hi)
    obtain ⟨_, b1, b2, _⟩ := hn j (List.mem_range.1 hj)
    rw [he] at p1 a1 a2
    exact hne (normal_inj h p1 (List.mem_range.1 hi) (List.mem_range.1 hj) a1 a2 b1 b2)
  have hl := len_le_sub _ _ hnd fun x hx => by
    obtain ⟨k, hk, rfl⟩ := List.mem_map.1 hx
    exact hmem k (List.mem_range.1 hk)
  have e : ∀ l : List Pt, (l.flatMap fun g => [dg g, ngp (dg g)]).length = 2 * l.length := fun l => by
    induction l with
    | nil => rfl
    | cons g l ih => rw [List.flatMap_cons, List.length_append, ih]; simp only [List.length_cons, List.length_nil]; omega
  rw [e] at hl
  simpa using hl
/-! The sums' points. -/
theorem zs_zero (P : List Pt) : ∀ k, (0, 0) ∈ zs P k
  | 0 => by
    have e : zs P 0 = [(0, 0)] := rfl
    rw [e]; simp
  | k + 1 => by rw [zs_succ]; exact List.mem_append_left _ (zs_zero P k)
theorem zs_one (P : List Pt) : ∀ k i, i < k → at_ P i ∈ zs P k
  | 0, i, h => by omega
  | k + 1, i, h => by
    rw [zs_succ]
    rcases Nat.lt_or_ge i k with h1 | h1
    · exact List.mem_append_left _ (zs_one P k i h1)
    · have : i = k := by omega
      subst this
      refine List.mem_append_right _ (List.mem_map.2 ⟨(0, 0), zs_zero P i, ?_⟩)
      unfold addP
      exact Prod.ext (by simp) (by simp)
theorem detL_ex : ∀ (x : List (List Int)), 0 < detL x → ∃ i j, i < x.length ∧ j < x.length ∧ crsL (x.getD i []) (x.getD j []) ≠ 0
  | [], h => by simp [detL] at h
  | g :: r, h => by
    have e : detL (g :: r) = detR g r + detL r := rfl
    rw [e] at h
    have n1 := detR_nonneg g r
    have n2 := detL_nonneg r
    rcases Int.lt_or_le 0 (detR g r) with h1 | h1
    · obtain ⟨y, hy, hc⟩ := detR_pos.1 h1
      obtain ⟨j, hj, ej⟩ := List.mem_iff_getElem.1 hy
      refine ⟨0, j + 1, by simp, by simp; omega, ?_⟩
      rw [List.getD_cons_zero, List.getD_cons_succ, List.getD_eq_getElem?_getD, List.getElem?_eq_getElem hj, ej]
      exact hc
    · obtain ⟨i, j, hi, hj, hc⟩ := detL_ex r (by omega)
      exact ⟨i + 1, j + 1, by simp; omega, by simp; omega, by rw [List.getD_cons_succ, List.getD_cons_succ]; exact hc⟩
/-- The zonotope of generators. -/
theorem zono_full {P : List Pt} (hg : (inR 2 5 ((P.map em).length : Int) && (P.map em).all okG && decide (0 < detL (P.map em))) = true) :
    ∃ H, hullS ((zs P P.length).map em) = (H.map em, true) ∧ H = Hull.hull (Hull.sorted (zs P P.length)) ∧ Pol H ∧ 3 ≤ H.length ∧ H.length ≤ 12 ∧ (∀ q ∈ H, Bd 50 q) ∧ areaS H = 2 * detL (P.map em) ∧ bndS H = 2 * ((P.map em).map gcdL).sum := by
  simp only [Bool.and_eq_true, decide_eq_true_eq] at hg
  obtain ⟨⟨g1, g2⟩, g3⟩ := hg
  have g1 := inR_iff.1 g1
  rw [List.length_map] at g1
  have hP : ∀ q ∈ P, Bd 6 q ∧ q ≠ (0, 0) := fun q hq => by
    have := List.all_eq_true.1 g2 _ (List.mem_map_of_mem hq)
    unfold okG at this
    simp only [Bool.and_eq_true] at this
    have hb := (isPt_em this.1).2
    rw [toP_em] at hb
    refine ⟨hb, fun h0 => ?_⟩
    rw [h0] at this
    exact absurd this.2 (by decide)
  have hzb : ∀ z ∈ zs P P.length, Bd 50 z := fun z hz => by
    unfold zs at hz
    obtain ⟨s, _, rfl⟩ := List.mem_map.1 hz
    have := vs_bd (fun q hq => (hP q hq).1) s P.length (Nat.le_refl _)
    unfold Bd at *
    omega
  have hzl : (zs P P.length).length ≤ 32 := by
    unfold zs
    rw [List.length_map, List.length_range]
    exact Nat.pow_le_pow_right (by omega) (show P.length ≤ 5 by omega)
  obtain ⟨s1, s2⟩ := Hull.sorted_spec (zs P P.length)
  obtain ⟨i, j, hi, hj, hc⟩ := detL_ex _ g3
  rw [List.length_map] at hi hj
  have gi : (P.map em).getD i [] = em (at_ P i) := by rw [List.getD_eq_getElem?_getD, List.getElem?_map, at_some hi]; rfl
  have gj : (P.map em).getD j [] = em (at_ P j) := by rw [List.getD_eq_getElem?_getD, List.getElem?_map, at_some hj]; rfl
  rw [gi, gj] at hc
  have h3 : 3 ≤ (Hull.hull (Hull.sorted (zs P P.length))).length := hull_three s1 ((s2 _).2 (zs_zero P _)) ((s2 _).2 (zs_one P _ i hi)) ((s2 _).2 (zs_one P _ j hj)) (by
    have : tn (0, 0) (at_ P i) (at_ P j) = crsL (em (at_ P i)) (em (at_ P j)) := by
      show _ = (at_ P i).1 * (at_ P j).2 - (at_ P i).2 * (at_ P j).1
      unfold tn
      simp
    rw [this]; exact hc)
  have hpol := Hull.pol_hull s1 h3
  have hbd : ∀ q ∈ Hull.hull (Hull.sorted (zs P P.length)), Bd 50 q := fun q hq => hzb q ((s2 q).1 (hull_sub hq))
  have hsup := sup_zono h3
  have hP' : ∀ g ∈ P, Bd 400 g ∧ g ≠ (0, 0) := fun g hg => ⟨(hP g hg).1.mono (by decide), (hP g hg).2⟩
  have h12 := corners_le hpol (fun q hq => (hbd q hq).mono (by decide)) hP' hsup
  have hS3 : 3 ≤ (Hull.sorted (zs P P.length)).length := by
    refine Nat.le_trans h3 ?_
    refine len_le_sub _ _ ?_ fun x hx => hull_sub hx
    unfold List.Nodup
    rw [List.pairwise_iff_getElem]
    intro a b ha hb hab he
    have ea : at_ (Hull.hull (Hull.sorted (zs P P.length))) a = _ := at_of (List.getElem?_eq_getElem ha)
    have eb : at_ (Hull.hull (Hull.sorted (zs P P.length))) b = _ := at_of (List.getElem?_eq_getElem hb)
    have := pol_inj hpol ha hb (by rw [ea, eb, he])
    omega
  refine ⟨_, ?_, rfl, hpol, h3, by omega, hbd, ?_, ?_⟩
  · unfold hullS
    rw [if_pos ⟨by simp; omega, all_pts hzb⟩]
    simp only [map_em_toP]
    rw [if_pos ⟨hS3, h3, by omega⟩]
  · rw [area_sup hpol (fun q hq => (hbd q hq).mono (by decide)), hsup, hs_area hP', pairs_two]
  · rw [bnd_sup hpol (fun q hq => (hbd q hq).mono (by decide)), hsup, hs_bnd hP', List.map_map]
    congr 2
    refine List.map_congr_left fun g _ => ?_
    rw [gcd_zero]
    exact (gcdL_two g.1 g.2).symm
/-! What is drawn. -/
theorem znew : s_DrawZonotopeOf_s57_3 = cstep := rfl
theorem l21Draw_ok {s : Cur} (h : CurOk s) : ∃ (p : List (List Int)) (s' : Cur), s_l21Draw s = some (p, (s', ())) ∧ CurOk s' ∧ FitLL p := by
  unfold s_l21Draw
  obtain ⟨n, c, a1, a2, a3, a4, a5⟩ := below_ok h (n := 3) (by omega)
  have a1 : s_l1Below (s.1, (s.2.1, s.2.2)) 3 = some (n, (c, ())) := a1
  have a5 := a5 (by omega)
  have w : IntKind.i64.wrap (2 + n) = 2 + n := wrap_id (by omega) (by omega)
  obtain ⟨y, e, hy⟩ := iter_run (step := s_l21Draw_s4 (n, (c, ()))) (fun t => CurOk t.1 ∧ 0 ≤ t.2.2 ∧ t.2.2 ≤ 2 + n ∧ t.2.1.length = t.2.2.toNat ∧ ∀ v ∈ t.2.1, v.length = 2) (fun t => (2 + n - t.2.2).toNat) (fun _ y => CurOk y.1 ∧ 2 ≤ y.2.length ∧ y.2.length ≤ 200 ∧ ∀ v ∈ y.2, v.length = 2) (fun t ht => by
    obtain ⟨c, l, k⟩ := t
    obtain ⟨g1, g2, g3, g4, g5⟩ := ht
    simp only at g1 g2 g3 g4 g5
    unfold s_l21Draw_s4
    simp only [w]
    by_cases hk : k < 2 + n
    · right
      rw [show decide (k < 2 + n) = true from by simpa using hk, cond_true]
      obtain ⟨v, c', q1, q2, q3, _⟩ := draw_ok g1 (n := 2) (size := 3) (by omega) (by omega) (by omega) (by omega)
      have q1 : s_l2Draw (c.1, c.2.1, c.2.2) 2 3 = some (v, (c', ())) := q1
      have wk : IntKind.i64.wrap (k + 1) = k + 1 := wrap_id (by omega) (by omega)
      rw [q1]
      simp only [Option.bind_some, wk]
      rw [appD_some (by rw [lim_eq]; simp; omega) (by rw [lim_eq]; simp; omega)]
      refine ⟨_, rfl, ⟨q2, by simp only; omega, by simp only; omega, by simp; omega, fun z hz => ?_⟩, by simp only; omega, fun _ hy => hy⟩
      rcases List.mem_append.1 hz with hz | hz
      · exact g5 z hz
      · simp at hz; subst hz; exact q3
    · left
      rw [show decide (k < 2 + n) = false from by simpa using hk, cond_false]
      exact ⟨_, rfl, g1, by simp only; omega, by simp only; omega, g5⟩) (c, ([], 0)) ⟨a2, by simp, by simp only; omega, by simp, by simp⟩
  have e : iter (s_l21Draw_s4 (n, (c, ()))) ((c.1, (c.2.1, c.2.2)), (([] : List (List Int)), (0 : Int))) = some y := e
  obtain ⟨h1, h2, h3, h4⟩ := hy
  obtain ⟨t, s1, f1, f2⟩ := once_ok h1 (n := 14) (by omega)
  have f1 : s_l1Once (y.1.1, (y.1.2.1, y.1.2.2)) 14 = some (t, (s1, ())) := f1
  simp only [a1, e, f1, Option.bind_some]
  cases t with
  | false => exact ⟨y.2, s1, rfl, f2, fit_small (by omega) fun v hv => by rw [h4 v hv]; omega⟩
  | true =>
    obtain ⟨b, s2, b1, b2⟩ := once_ok f2 (n := 2) (by omega)
    have b1 : s_l1Once (s1.1, (s1.2.1, s1.2.2)) 2 = some (b, (s2, ())) := b1
    obtain ⟨z, k1, k2, k3⟩ := bit_ok b
    have wz : IntKind.i64.wrap (2 + z) = 2 + z := wrap_id (by omega) (by omega)
    obtain ⟨v, s3, d1, d2, d3, _⟩ := draw_ok b2 (n := 2 + z) (size := 9) (by omega) (by omega) (by omega) (by omega)
    have d1 : s_l2Draw (s2.1, (s2.2.1, s2.2.2)) (2 + z) 9 = some (v, (s3, ())) := d1
    have i0 : inIdx y.2.length 0 = some () := inIdx_nat (k := 0) (by omega)
    have j0 : inIdx y.2.length (((0 : Int)).toNat : Int) = some () := inIdx_nat (k := 0) (by omega)
    simp only [cond_true, b1, k1, wz, d1, Option.bind_some, i0, j0]
    refine ⟨_, s3, rfl, d2, fit_small (by simp; omega) fun u hu => ?_⟩
    rcases List.mem_or_eq_of_mem_set hu with hu | rfl
    · rw [h4 u hu]; omega
    · omega
theorem drawZono_ok {code : List Int} (hc : code.length ≤ 1048576) : ∃ p, s_DrawZonotopeOf code = some p ∧ FitLL p := by
  unfold s_DrawZonotopeOf
  rw [znew]
  obtain ⟨y, e⟩ := new_loop hc (IntKind.i64.wrap (26583 + (code.length : Int)))
  rw [e]
  simp only [Option.bind_some]
  obtain ⟨p, c, a1, a2, a3⟩ := l21Draw_ok (s := (code, (0, y))) ⟨by simp, by simp, hc⟩
  have a1 : s_l21Draw (code, (0, y)) = some (p, (c, ())) := a1
  simp only [a1, Option.bind_some]
  exact ⟨p, rfl, a3⟩
theorem zonoS_fit {p : List (List Int)} : (zonoS p).1.length ≤ 12 ∧ ∀ v ∈ (zonoS p).1, v.length = 2 := by
  unfold zonoS
  split
  · exact hullS_fit
  · simp
theorem law_Zonotopes (x : List Int) (hx : TyOk (.list (.int .u8)) x) : w_FnZonotopes x = some true := by
  unfold w_FnZonotopes w_big
  simp only [Option.bind_some]
  by_cases hbig : (x.length : Int) > 1048576
  · rw [show decide ((x.length : Int) > 1048576) = true from by simpa using hbig]; rfl
  rw [show decide ((x.length : Int) > 1048576) = false from by simpa using hbig, cond_false]
  obtain ⟨p, q1, fp⟩ := drawZono_ok (code := x) (by omega)
  obtain ⟨s1, s2⟩ := zono_eq fp
  have hA := i_AreGens_eq fp
  have hA2 : s_AreGens p = _ := (s_AreGens_eq fp).trans hA
  have fz : FitLL (zonoS p).1 := fit_small (by have := (zonoS_fit (p := p)).1; omega) fun v hv => by rw [(zonoS_fit (p := p)).2 v hv]; omega
  have e1 : w_sameLists (zonoS p).1 (zonoS p).1 = some true := sameLists_self fz.lim fz.eachLim
  cases hc : (inR 2 5 (p.length : Int) && p.all okG && decide (0 < detL p)) with
  | false =>
    rw [hc] at hA hA2
    have hz : zonoS p = ([], false) := by unfold zonoS; rw [if_neg (by rw [hc]; simp)]
    have c1 : i_ZonotopeCount p = some (-1) := by simp only [i_ZonotopeCount, hA, Option.bind_some]; rfl
    have c2 : s_ZonotopeCount p = some (-1) := by simp only [s_ZonotopeCount, hA2, Option.bind_some]; rfl
    have c3 : i_ZonotopeArea p = some (-1) := by simp only [i_ZonotopeArea, hA, Option.bind_some]; rfl
    have c4 : s_ZonotopeArea p = some (-1) := by simp only [s_ZonotopeArea, hA2, Option.bind_some]; rfl
    have c5 : i_ZonotopeInner p = some (-1) := by simp only [i_ZonotopeInner, hA, Option.bind_some]; rfl
    have c6 : s_ZonotopeInner p = some (-1) := by simp only [s_ZonotopeInner, hA2, Option.bind_some]; rfl
    rw [hz] at e1 s1 s2
    have e1 : w_sameLists [] [] = some true := e1
    simp only [q1, Option.bind_some, s1, s2, c1, c2, c3, c4, c5, c6, hA, hA2, beq_self_eq_true, bne_self_eq_false, Bool.not_true, cond_false, e1, Bool.not_false, cond_true]
  | true =>
    rw [hc] at hA hA2
    obtain ⟨hx6, hl5⟩ := gens_of hc
    obtain ⟨P, rfl, hB⟩ := pts_of (m := 6) (p := p) (List.all_eq_true.2 fun v hv => hx6 v hv)
    obtain ⟨H, h1, hH, hpol, h3, h12, hbd, har, hbn⟩ := zono_full hc
    have hz : zonoS (P.map em) = (H.map em, true) := by unfold zonoS; rw [if_pos hc, map_toP, List.length_map]; exact h1
    have hgs := gcdsum_le hx6
    have hdl := detL_le (P.map em) hx6 hl5
    have hd0 := detL_nonneg (P.map em)
    have hlen : ((P.map em).length : Int) ≤ 5 := by omega
    have hdt := determinants_eq hx6 hl5
    have hgc := gcdSum_eq hx6 hl5
    have hls := l21Sums_eq hx6 hl5
    generalize detL (P.map em) = D at *
    generalize ((P.map em).map gcdL).sum = G at *
    have c1 : i_ZonotopeCount (P.map em) = some (1 + G + D) := by
      simp only [i_ZonotopeCount, hA, Option.bind_some, Bool.not_true, cond_false, hgc, hdt]
      rw [wrap_small (x := 1 + G) (by omega) (by omega), wrap_small (by omega) (by omega)]
    have c2 : s_ZonotopeCount (P.map em) = some (1 + G + D) := by
      simp only [s_ZonotopeCount, hA2, Option.bind_some, Bool.not_true, cond_false, hls]
      rw [wrap_small (x := 1 + G) (by omega) (by omega), wrap_small (by omega) (by omega)]
    have c3 : i_ZonotopeArea (P.map em) = some D := by simp only [i_ZonotopeArea, hA, Option.bind_some, Bool.not_true, cond_false, hdt]
    have c4 : s_ZonotopeArea (P.map em) = some D := by simp only [s_ZonotopeArea, hA2, Option.bind_some, Bool.not_true, cond_false, hls]
    have c5 : i_ZonotopeInner (P.map em) = some (D - G + 1) := by
      simp only [i_ZonotopeInner, hA, Option.bind_some, Bool.not_true, cond_false, hgc, hdt]
      rw [wrap_small (x := D - G) (by omega) (by omega), wrap_small (by omega) (by omega)]
    have c6 : s_ZonotopeInner (P.map em) = some (D - G + 1) := by
      simp only [s_ZonotopeInner, hA2, Option.bind_some, Bool.not_true, cond_false, hls]
      rw [wrap_small (x := D - G) (by omega) (by omega), wrap_small (by omega) (by omega)]
    have hHp : isPoly (H.map em) = true := (isPoly_iff hbd).2 ⟨h12, hpol⟩
    have d1 : s_AreaTwice (H.map em) = some (2 * D) := by
      unfold s_AreaTwice
      rw [s_IsPolygon_eq (by rw [List.length_map, lim_eq]; omega) (fun v hv => by obtain ⟨q, _, rfl⟩ := List.mem_map.1 hv; simp [em, lim_eq]), hHp]
      simp only [Option.bind_some, Bool.not_true, cond_false, area_eq hbd (by omega) h12, har]
    have d2 : s_InnerCount (H.map em) = some (D - G + 1) := by
      rw [inner_eq hbd (by omega) h12 hHp, har, hbn]
      have : (2 * D - 2 * G + 2).tdiv 2 = D - G + 1 := by
        have e : 2 * D - 2 * G + 2 = (D - G + 1) * 2 := by omega
        rw [e, Int.mul_tdiv_cancel _ (by decide)]
      rw [this, wrap_small (by omega) (by omega)]
    have d3 : s_EhrhartAt (H.map em) 1 = some (1 + G + D) := by
      unfold s_EhrhartAt
      rw [s_IsPolygon_eq (by rw [List.length_map, lim_eq]; omega) (fun v hv => by obtain ⟨q, _, rfl⟩ := List.mem_map.1 hv; simp [em, lim_eq]), hHp]
      have hin : s_l1In 1 (-1000) 1000 = some true := rfl
      simp only [Option.bind_some, Bool.not_true, cond_false, hin, bnd_eq hbd (by omega) h12 hHp, area_eq hbd (by omega) h12, har, hbn]
      rw [wrap_small (x := 2 * G * 1) (by omega) (by omega), wrap_small (x := 2 * D * 1) (by omega) (by omega), wrap_small (x := 2 * D * 1 * 1) (by omega) (by omega), wrap_small (x := 2 + 2 * G * 1) (by omega) (by omega), wrap_small (x := 2 + 2 * G * 1 + 2 * D * 1 * 1) (by omega) (by omega)]
      unfold quoI
      rw [if_neg (by decide)]
      have : (2 + 2 * G * 1 + 2 * D * 1 * 1).tdiv 2 = 1 + G + D := by
        have e : 2 + 2 * G * 1 + 2 * D * 1 * 1 = (1 + G + D) * 2 := by omega
        rw [e, Int.mul_tdiv_cancel _ (by decide)]
      rw [this, wrap_small (by omega) (by omega)]
      rfl
    rw [hz] at e1 s1 s2 fz
    have e1 : w_sameLists (H.map em) (H.map em) = some true := e1
    -- the symmetry
    obtain ⟨b, y1, _, y3⟩ := sym_full fz
    obtain ⟨o1, _⟩ := mirror_back hpol hbd h12
    have hsym := hull_sym (t := tot P P.length) (zs_sym P P.length) (by rw [← hH]; exact h3)
    rw [← hH] at hsym
    have hb : b = true := y3 H _ rfl o1 fun k hk => by
      have hlen2 : (Hull.hull (Hull.sorted (H.map ng))).length = H.length := by rw [hull_ng_len, ((Hull.pol_iff H).1 hpol).2.2]
      generalize Hull.hull (Hull.sorted (H.map ng)) = Q at *
      have ea : ∀ k, k < H.length → sbp (at_ H k) (at_ Q k) = tot P P.length := fun k hk => by
        have h2 : at_ H k = tr (tot P P.length) (at_ Q k) := by
          have := congrArg (fun l : List Pt => l[k]?) hsym
          simp only [List.getElem?_map] at this
          rw [at_some hk, at_some (P := Q) (by omega)] at this
          exact Option.some.inj this
        rw [h2]
        unfold sbp tr
        exact Prod.ext (by simp only; omega) (by simp only; omega)
      rw [ea k hk, ea 0 (by omega)]
    subst hb
    simp only [q1, Option.bind_some, s1, s2, c1, c2, c3, c4, c5, c6, hA, hA2, beq_self_eq_true, bne_self_eq_false, Bool.not_true, cond_false, e1, d1, d2, d3, y1, cond_true]
    rw [wrap_small (x := 2 * D) (by omega) (by omega)]
    simp
end Go.Proofs.Ytilggmmanhinbaa
