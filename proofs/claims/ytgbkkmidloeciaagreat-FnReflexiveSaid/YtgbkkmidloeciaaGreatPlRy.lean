/-
  Plain: the law of reflexive polygons for all codes. No condition.
-/
import Derived.Test.YtgbkkmidloeciaaGreatPlRx
import Derived.Test.YtgbkkmidloeciaaGreatPlXd
import Derived.Test.YtgbkkmidloeciaaGreatPlHp
namespace Go.Proofs.YtgbkkmidloeciaaGreat
open Go Go.Proofs.YtgbkkmidloeciaaGreat.Eng
set_option linter.unusedVariables false
set_option linter.unusedSimpArgs false
open Hull (Pt Pol tn lx at_ at_some at_of at_mem Asc ng)
theorem newR1 : s_DrawDualPolygon_s23_3 = cstep := rfl
theorem newR2 : s_DrawSmoothCorners_s23_3 = cstep := rfl
theorem drawDualP_ok {code : List Int} (hc : code.length ≤ 1048576) : ∃ p, s_DrawDualPolygon code = some p ∧ s_DrawSmoothCorners code = some p ∧ FitLL p := by
  unfold s_DrawDualPolygon s_DrawSmoothCorners
  rw [newR1, newR2]
  obtain ⟨y, e⟩ := new_loop hc (IntKind.i64.wrap (26583 + (code.length : Int)))
  rw [e]
  simp only [Option.bind_some]
  obtain ⟨p, s', q1, q2⟩ := l18Draw_ok (s := (code, (0, y))) ⟨by simp, by simp, hc⟩
  have q1 : s_l18Draw (code, (0, y)) = some (p, (s', ())) := q1
  simp only [q1, Option.bind_some]
  exact ⟨p, rfl, rfl, q2⟩
/-! Numbers of sides. -/
def sideL (p : List (List Int)) : List Int := if isPoly p then (List.range (p.map toP).length).map (gS (p.map toP)) else []
theorem sideL_em {P : List Pt} (h : isPoly (P.map em) = true) : sideL (P.map em) = (List.range P.length).map (gS P) := by
  unfold sideL
  rw [if_pos h, map_em_toP]
theorem sideNumbers_eq {p : List (List Int)} (hp : FitLL p) : s_SideNumbers p = some (sideL p) ∧ i_SideNumbers p = some (sideL p) := by
  unfold s_SideNumbers i_SideNumbers
  rw [i_IsPolygon_eq hp.lim hp.eachLim]
  cases h1 : isPoly p with
  | false =>
    have hs : sideL p = [] := by unfold sideL; rw [if_neg (by rw [h1]; decide)]
    have e : s_SideNumbers_s3 p ([], 0) = some (.inr []) := by
      unfold s_SideNumbers_s3
      rw [s_IsPolygon_eq hp.lim hp.eachLim, h1]
      simp only [Option.bind_some, cond_false]
      cases decide ((0 : Int) < (p.length : Int)) <;> rfl
    rw [iter_end e, hs]
    exact ⟨rfl, rfl⟩
  | true =>
    obtain ⟨P, rfl, hB, g3, g12, hpol⟩ := poly_of h1
    rw [sideL_em h1]
    have hm : ∀ j, j % P.length < P.length := fun j => Nat.mod_lt _ (by omega)
    have rs : ∀ k, (List.range (k + 1)).map (gS P) = (List.range k).map (gS P) ++ [gS P k] := fun k => by
      rw [List.range_succ, List.map_append]; rfl
    have A := iter_up (step := s_SideNumbers_s3 (P.map em)) P.length (fun k => ((List.range k).map (gS P), (k : Int))) ((List.range P.length).map (gS P)) (fun k hk => by
      unfold s_SideNumbers_s3
      simp only
      rw [show decide ((k : Int) < ((P.map em).length : Int)) = true from by simp; omega, cond_true, s_IsPolygon_eq hp.lim hp.eachLim, h1]
      simp only [Option.bind_some, cond_true, (side_em hB hk g12).1]
      rw [appD_some (by rw [lim_eq]; simp; omega) (by rw [lim_eq]; simp; omega), wrap_small (x := (k : Int) + 1) (by omega) (by omega), rs]
      rfl) (by
      unfold s_SideNumbers_s3
      simp)
    have B := iter_up (step := i_SideNumbers_s5 (P.map em)) P.length (fun k => ((List.range k).map (gS P), (k : Int))) ((List.range P.length).map (gS P)) (fun k hk => by
      have hr : remI .i64 (IntKind.i64.wrap ((k : Int) + 1)) ((P.map em).length : Int) = some (((k + 1) % P.length : Nat) : Int) := by
        rw [wrap_small (by omega) (by omega), List.length_map]
        exact remP (j := k + 1) (by omega)
      unfold i_SideNumbers_s5
      simp only
      rw [show decide ((k : Int) < ((P.map em).length : Int)) = true from by simp; omega, cond_true, idxP hk, hr]
      simp only [Option.bind_some]
      rw [idxP (hm _)]
      simp only [Option.bind_some, (sbp_em (hB _ (at_mem (hm (k + 1)))) (hB _ (at_mem hk))).1, (side_em hB hk g12).2]
      rw [appD_some (by rw [lim_eq]; simp; omega) (by rw [lim_eq]; simp; omega), wrap_small (x := (k : Int) + 1) (by omega) (by omega), rs]
      rfl) (by
      unfold i_SideNumbers_s5
      simp)
    have e0 : (([], 0) : List Int × Int) = ((List.range 0).map (gS P), ((0 : Nat) : Int)) := rfl
    rw [e0, A, B]
    exact ⟨rfl, rfl⟩
theorem sum_range (f : Nat → Int) : ∀ n, ((List.range n).map f).sum = sumF f n
  | 0 => rfl
  | n + 1 => by rw [List.range_succ, List.map_append, List.sum_append, sum_range f n]; simp [sumF]
theorem wdot_em {a b : Pt} (ha : Bd 50 a) (hb : Bd 50 b) : w_dot (em a) (em b) = some (dt a b) := by
  unfold Bd at ha hb
  have b1 := abs_mul_le (m := 50) (n := 50) (a := a.1) (b := b.1) (by omega) (by omega) (by omega) (by omega)
  have b2 := abs_mul_le (m := 50) (n := 50) (a := a.2) (b := b.2) (by omega) (by omega) (by omega) (by omega)
  have s1 : w_dot_s3 (em a) (em b) (0, 0) = some (.inl (a.1 * b.1, 1)) := by
    simp only [w_dot_s3]
    rw [show decide ((0 : Int) < ((em a).length : Int)) = true from rfl, cond_true, show decide ((0 : Int) < ((em b).length : Int)) = true from rfl, cond_true, (idx_em a).1, (idx_em b).1]
    simp only [Option.bind_some]
    rw [wrap_small (x := a.1 * b.1) (by omega) (by omega), wrap_small (x := 0 + a.1 * b.1) (by omega) (by omega), wrap_small (x := (0 : Int) + 1) (by omega) (by omega)]
    simp
  have s2 : w_dot_s3 (em a) (em b) (a.1 * b.1, 1) = some (.inl (a.1 * b.1 + a.2 * b.2, 2)) := by
    simp only [w_dot_s3]
    rw [show decide ((1 : Int) < ((em a).length : Int)) = true from rfl, cond_true, show decide ((1 : Int) < ((em b).length : Int)) = true from rfl, cond_true, (idx_em a).2, (idx_em b).2]
    simp only [Option.bind_some]
    rw [wrap_small (x := a.2 * b.2) (by omega) (by omega), wrap_small (x := a.1 * b.1 + a.2 * b.2) (by omega) (by omega), wrap_small (x := (1 : Int) + 1) (by omega) (by omega)]
    simp
  unfold w_dot
  rw [iter_next s1, iter_next s2, iter_end (y := a.1 * b.1 + a.2 * b.2) (by
    simp only [w_dot_s3]
    rw [show decide ((2 : Int) < ((em a).length : Int)) = false from rfl, cond_false])]
  rfl
/-- The last loops of the law, whatever their names. -/
theorem dots_loop {P R : List Pt} (hP : ∀ q ∈ P, Bd 50 q) (hR : ∀ q ∈ R, Bd 50 q) (lP : P.length ≤ 12) (lR : R.length ≤ 12) (hd : ∀ p ∈ P, ∀ q ∈ R, dt p q ≤ 1)
    (inner : Int → Int → Option (Int ⊕ (Unit ⊕ Bool))) (outer : Int → Option (Int ⊕ (Unit ⊕ Bool)))
    (hi : ∀ i j, inner i j = cond (decide (j < ((R.map em).length : Int))) ((idx (P.map em) i).bind fun v23 => (idx (R.map em) j).bind fun v24 => (w_dot v23 v24).bind fun v25 => cond (decide (v25 > (1 : Int))) (some (.inr (.inr false))) (some (.inl (IntKind.i64.wrap (j + (1 : Int)))))) (some (.inr (.inl ()))))
    (ho : ∀ i, outer i = cond (decide (i < ((P.map em).length : Int))) ((iter (inner i) (0 : Int)).bind fun v26 => match v26 with | .inl v27 => (some (.inl (IntKind.i64.wrap (i + (1 : Int))))) | .inr v28 => (some (.inr (.inr v28)))) (some (.inr (.inl ())))) :
    iter outer 0 = some (.inl ()) := by
  have A : ∀ k, k < P.length → iter (inner k) 0 = some (.inl ()) := fun k hk => by
    refine iter_up (step := inner k) R.length (fun j => (j : Int)) (.inl ()) (fun j hj => ?_) ?_
    · have h1 := hd _ (at_mem hk) _ (at_mem hj)
      rw [hi, show decide ((j : Int) < ((R.map em).length : Int)) = true from by simp; omega, cond_true, idxP hk, idxP hj]
      simp only [Option.bind_some, wdot_em (hP _ (at_mem hk)) (hR _ (at_mem hj))]
      rw [show decide (dt (at_ P k) (at_ R j) > 1) = false from by simpa using h1, cond_false, wrap_small (by omega) (by omega)]
      rfl
    · rw [hi, show decide ((R.length : Int) < ((R.map em).length : Int)) = false from by simp, cond_false]
  refine iter_up (step := outer) P.length (fun j => (j : Int)) (.inl ()) (fun k hk => ?_) ?_
  · rw [ho, show decide ((k : Int) < ((P.map em).length : Int)) = true from by simp; omega, cond_true, A k hk]
    simp only [Option.bind_some]
    rw [wrap_small (by omega) (by omega)]
    rfl
  · rw [ho, show decide ((P.length : Int) < ((P.map em).length : Int)) = false from by simp, cond_false]
theorem law_Reflexive (x : List Int) (hx : TyOk (.list (.int .u8)) x) : w_FnReflexive x = some true := by
  unfold w_FnReflexive w_big
  simp only [Option.bind_some]
  by_cases hbig : (x.length : Int) > 1048576
  · rw [show decide ((x.length : Int) > 1048576) = true from by simpa using hbig]; rfl
  rw [show decide ((x.length : Int) > 1048576) = false from by simpa using hbig, cond_false]
  obtain ⟨p, q1, q2, fp⟩ := drawDualP_ok (code := x) (by omega)
  obtain ⟨r, d1, d2, d3⟩ := dual_full fp
  obtain ⟨m, m1, m2⟩ := smooth_eq fp
  obtain ⟨n1, n2⟩ := sideNumbers_eq fp
  obtain ⟨b, b1, b2, b3⟩ := reflex_eq fp
  have fr : FitLL r.1 := by
    rcases d3 with ⟨rfl, _⟩ | ⟨P, _, _, _, _, _, _, _, rfl⟩
    · exact ⟨by simp, fun y hy => by cases hy⟩
    · exact fit_small (by have := (hullS_fit (p := (List.range P.length).map fun j => (sideH P j).1)).1; omega) fun v hv => by rw [hullS_fit.2 v hv]; omega
  have e1 : w_sameLists r.1 r.1 = some true := sameLists_self fr.lim fr.eachLim
  have e2 : w_sameInts (sideL p) (sideL p) = some true := sameInts_self (by
    unfold sideL
    split
    · have := fp.lim; simp; exact this
    · simp)
  obtain ⟨t, t1, t2⟩ := twelve_eq fp
  -- the numbers of the sides add up
  have e3 : decide (((sideL p).length : Int) > 0) = true → ∃ s, w_total (sideL p) = some s ∧ s_BoundaryCount p = some s := fun hpos => by
    cases h1 : isPoly p with
    | false =>
      have hs : sideL p = [] := by unfold sideL; rw [if_neg (by rw [h1]; decide)]
      rw [hs] at hpos
      simp at hpos
    | true =>
      obtain ⟨P, rfl, hB, g3, g12, hpol⟩ := poly_of h1
      rw [sideL_em h1]
      refine ⟨sumF (gS P) P.length, ?_, (boundary_eq hB g12 h1).1⟩
      rw [total_eq (by simp; omega) (fun y hy => by
        obtain ⟨k, hk, rfl⟩ := List.mem_map.1 hy
        have := gS_bd hB (List.mem_range.1 hk)
        omega), sum_range]
  -- the end
  have fin : r.2 = false → t = -1 := fun hr => by
    unfold s_TwelveOf at t1
    rw [d1] at t1
    simp only [Option.bind_some, hr, Bool.not_false, cond_true, Option.some.injEq] at t1
    exact t1.symm
  have fin2 : r.2 = true → ∃ P R : List Pt, p = P.map em ∧ r.1 = R.map em ∧ t = 12 ∧ i_IsReflexive r.1 = some true ∧ i_DualPolygon r.1 = some (p, true) ∧ R.length = P.length ∧ (∀ q ∈ P, Bd 50 q) ∧ (∀ q ∈ R, Bd 50 q) ∧ P.length ≤ 12 ∧ ∀ a ∈ P, ∀ b ∈ R, dt a b ≤ 1 := fun hr => by
    rcases d3 with ⟨rfl, _⟩ | ⟨P, rfl, hB, g3, g12, hpol, hpp, hh, rfl⟩
    · cases hr
    · obtain ⟨R, k1, k2, k3, k4, k5, k6, k7, k8⟩ := dual_all hB g3 g12 hpol hh hr
      rw [k1] at d1 d2 fr ⊢
      have hRp : isPoly (R.map em) = true := (isPoly_iff k3).2 ⟨by omega, k4⟩
      refine ⟨P, R, rfl, rfl, ?_, (reflex_true k3 (by omega) (by omega) hRp k5).2, ?_, k2, hB, k3, g12, k8⟩
      · unfold s_TwelveOf at t1
        rw [d1] at t1
        simp only [Option.bind_some, Bool.not_true, cond_false, (boundary_eq hB g12 hpp).1, (boundary_eq k3 (by omega) hRp).1, k6, Option.some.injEq] at t1
        rw [← t1]; rfl
      · obtain ⟨r', a1, a2, a3⟩ := dual_full fr
        obtain ⟨b', c1, c2, c3⟩ := reflex_eq fr
        rcases a3 with ⟨_, a3⟩ | ⟨P', eP, _, _, _, _, _, _, rfl⟩
        · -- the dual is reflexive: it is not refused
          have := (reflex_true k3 (by omega) (by omega) hRp k5).2
          rw [a3] at this
          cases this
        · have : P' = R := by
            have := congrArg (List.map toP) eP
            simp only [map_em_toP] at this
            exact this.symm
          subst this
          rw [a2, k7]
  simp only [q1, q2, d1, d2, t1, t2, m1, m2, n1, n2, b1, b2, e1, e2, Option.bind_some, beq_self_eq_true, bne_self_eq_false, Bool.not_true, cond_false]
  cases hr : r.2 with
  | false =>
    rw [fin hr]
    simp only [Bool.not_false, cond_true, beq_self_eq_true]
    cases hpos : decide (((sideL p).length : Int) > 0) with
    | false => rfl
    | true =>
      obtain ⟨s, f1, f2⟩ := e3 hpos
      simp only [f1, f2, Option.bind_some, cond_true, bne_self_eq_false, cond_false]
  | true =>
    obtain ⟨P, R, rfl, hR, rfl, g2, g3, g4, g5, g6, g7, g8⟩ := fin2 hr
    have e4 : w_sameLists (P.map em) (P.map em) = some true := sameLists_self fp.lim fp.eachLim
    have L1 := dots_loop g5 g6 g7 (by omega) g8 (w_FnReflexive_s22 (P.map em) (R.map em, true)) (w_FnReflexive_s19 (P.map em) (R.map em, true)) (fun _ _ => rfl) (fun _ => rfl)
    have L2 := dots_loop g5 g6 g7 (by omega) g8 (w_FnReflexive_s22b39 (P.map em) (R.map em, true)) (w_FnReflexive_s19b42 (P.map em) (R.map em, true)) (fun _ _ => rfl) (fun _ => rfl)
    have hrr : r = (R.map em, true) := Prod.ext hR hr
    subst hrr
    simp only [g2, g3, e4, L1, L2, List.length_map, g4, Option.bind_some, bne_self_eq_false, Bool.not_true, cond_false]
    cases hpos : decide (((sideL (P.map em)).length : Int) > 0) with
    | false => rfl
    | true =>
      obtain ⟨s, f1, f2⟩ := e3 hpos
      simp only [f1, f2, Option.bind_some, cond_true, bne_self_eq_false, cond_false]
end Go.Proofs.YtgbkkmidloeciaaGreat
