/-
  Plain: the law FnSums. No condition.
-/
import Derived.Test.YtilggmmanhinbaaPlSu
import Derived.Test.YtilggmmanhinbaaPlHp
namespace Go.Proofs.Ytilggmmanhinbaa
open Go Go.Proofs.Ytilggmmanhinbaa.Eng
set_option linter.unusedVariables false
set_option linter.unusedSimpArgs false
open Hull (Pt Pol tn lx at_ at_some at_of at_mem Asc ng)
/-! What is drawn. -/
theorem snew1 : s_l19Two_s57_3 = cstep := rfl
theorem snew2 : s_DrawMirrorPolygon_s57_3 = cstep := rfl
theorem snew3 : s_DrawIsSymmetricPolygon_s57_3 = cstep := rfl
theorem drawSum_ok {code : List Int} (hc : code.length ≤ 1048576) : ∃ p q, s_DrawSumPolygons code = some (p, q) ∧ FitLL p ∧ FitLL q := by
  unfold s_DrawSumPolygons s_l19Two
  rw [snew1]
  obtain ⟨y, e⟩ := new_loop hc (IntKind.i64.wrap (26583 + (code.length : Int)))
  rw [e]
  simp only [Option.bind_some]
  obtain ⟨p, c, a1, a2, a3, a4, a5⟩ := l7Draw_ok (s := (code, (0, y))) ⟨by simp, by simp, hc⟩ (size := 3) (by omega) (by omega)
  have a1 : s_l7Draw (code, (0, y)) 3 = some (p, (c, ())) := a1
  have a1' : s_l7Draw_1 (code, (0, y)) 3 = some (p, (c, ())) := a1
  have fp : FitLL p := fit_small (by omega) fun v hv => by rw [a5 v hv]; omega
  obtain ⟨t, s1, f1, f2⟩ := once_ok a2 (n := 8) (by omega)
  have f1 : s_l1Once (c.1, (c.2.1, c.2.2)) 8 = some (t, (s1, ())) := f1
  simp only [a1, a1', f1, Option.bind_some]
  cases t with
  | true =>
    obtain ⟨q, s2, b1, b2, _, b4, b5⟩ := l7Bent_ok f2
    have b1 : s_l7Bent (s1.1, (s1.2.1, s1.2.2)) = some (q, (s2, ())) := b1
    rw [cond_true, b1]
    exact ⟨p, q, rfl, fp, fit_small (by omega) fun v hv => by have := b5 v hv; omega⟩
  | false =>
    obtain ⟨q, s2, b1, b2, _, b4, b5⟩ := l7Draw_ok f2 (size := 3) (by omega) (by omega)
    have b1 : s_l7Draw (s1.1, (s1.2.1, s1.2.2)) 3 = some (q, (s2, ())) := b1
    have b1' : s_l7Draw_1 (s1.1, (s1.2.1, s1.2.2)) 3 = some (q, (s2, ())) := b1
    simp only [cond_false, b1, b1', Option.bind_some]
    exact ⟨p, q, rfl, fp, fit_small (by omega) fun v hv => by rw [b5 v hv]; omega⟩
theorem drawMirror_ok {code : List Int} (hc : code.length ≤ 1048576) : ∃ p, s_DrawMirrorPolygon code = some p ∧ FitLL p := by
  unfold s_DrawMirrorPolygon
  rw [snew2]
  obtain ⟨y, e⟩ := new_loop hc (IntKind.i64.wrap (26583 + (code.length : Int)))
  rw [e]
  simp only [Option.bind_some]
  obtain ⟨p, c, a1, a2, _, a4, a5⟩ := l7Bent_ok (s := (code, (0, y))) ⟨by simp, by simp, hc⟩
  have a1 : s_l7Bent (code, (0, y)) = some (p, (c, ())) := a1
  simp only [a1, Option.bind_some]
  exact ⟨p, rfl, fit_small (by omega) fun v hv => by have := a5 v hv; omega⟩
theorem mirS_fit {p : List (List Int)} : (mirS p).1.length ≤ 12 ∧ ∀ v ∈ (mirS p).1, v.length = 2 := by
  unfold mirS
  split
  · exact hullS_fit
  · simp
theorem fit2 {p : List (List Int)} (h : p.length ≤ 12 ∧ ∀ v ∈ p, v.length = 2) : FitLL p := fit_small (by omega) fun v hv => by rw [h.2 v hv]; omega
theorem drawSym_ok {code : List Int} (hc : code.length ≤ 1048576) : ∃ p, s_DrawIsSymmetricPolygon code = some p ∧ FitLL p := by
  unfold s_DrawIsSymmetricPolygon
  rw [snew3]
  obtain ⟨y, e⟩ := new_loop hc (IntKind.i64.wrap (26583 + (code.length : Int)))
  rw [e]
  simp only [Option.bind_some]
  obtain ⟨p, c, a1, a2, a3, a4, a5⟩ := l7Draw_ok (s := (code, (0, y))) ⟨by simp, by simp, hc⟩ (size := 3) (by omega) (by omega)
  have a1 : s_l7Draw (code, (0, y)) 3 = some (p, (c, ())) := a1
  have a1' : s_l7Draw_1 (code, (0, y)) 3 = some (p, (c, ())) := a1
  have fp : FitLL p := fit_small (by omega) fun v hv => by rw [a5 v hv]; omega
  have m1 := (mirror_eq fp).1
  have m2 := (sum_eq fp (fit2 (mirS_fit (p := p)))).1
  obtain ⟨t, s1, f1, f2⟩ := once_ok a2 (n := 2) (by omega)
  have f1 : s_l1Once (c.1, (c.2.1, c.2.2)) 2 = some (t, (s1, ())) := f1
  simp only [a1, a1', m1, m2, f1, Option.bind_some]
  cases (sumP p (mirS p).1).2 with
  | false => exact ⟨p, rfl, fp⟩
  | true =>
    cases t with
    | true => exact ⟨_, rfl, fit2 sum_fit⟩
    | false => exact ⟨p, rfl, fp⟩
/-! Sums of polygons. -/
theorem areaTwice_eq {P : List Pt} (hB : ∀ q ∈ P, Bd 50 q) (h3 : 3 ≤ P.length) (h12 : P.length ≤ 12) (hP : isPoly (P.map em) = true) : s_AreaTwice (P.map em) = some (areaS P) := by
  unfold s_AreaTwice
  rw [s_IsPolygon_eq (by rw [List.length_map, lim_eq]; omega) (fun v hv => by obtain ⟨q, _, rfl⟩ := List.mem_map.1 hv; simp [em, lim_eq]), hP]
  simp only [Option.bind_some, Bool.not_true, cond_false, area_eq hB (by omega) h12]
theorem bd400 {P : List Pt} (hB : ∀ q ∈ P, Bd 50 q) : ∀ q ∈ P, Bd 400 q := fun q hq => (hB q hq).mono (by decide)
theorem sum_area {P Q S : List Pt} (hP : Pol P) (hQ : Pol Q) (hS : Pol S) (bP : ∀ q ∈ P, Bd 50 q) (bQ : ∀ q ∈ Q, Bd 50 q) (bS : ∀ q ∈ S, Bd 50 q) (hs : sup S = fun a => sup P a + sup Q a) :
    areaS S = areaS P + areaS Q + (XX (sup P) (sup Q) + XX (sup Q) (sup P)) := by
  rw [area_sup hS (bd400 bS), area_sup hP (bd400 bP), area_sup hQ (bd400 bQ), hs, XX_add, XX_addL, XX_addL]
  omega
theorem support_poly {P : List Pt} (hB : ∀ q ∈ P, Bd 50 q) (h3 : 3 ≤ P.length) (h12 : P.length ≤ 12) (hP : isPoly (P.map em) = true) {a : Pt} (ha : Bd 1000 a) : i_SupportAt (P.map em) (em a) = some (sup P a, true) := by
  have hf : FitLL (P.map em) := fit_small (by simp; omega) fun v hv => by obtain ⟨q, _, rfl⟩ := List.mem_map.1 hv; simp [em]
  obtain ⟨r, _, e2, h⟩ := supportAt_eq (p := P.map em) (a := em a) hf (by simp [em])
  rw [e2]
  rcases h with ⟨_, hn⟩ | ⟨P', A, e3, e4, _, _, rfl⟩
  · exact absurd ⟨hP, vecB_em ha, rfl⟩ hn
  · have : P = P' := by
      have := congrArg (List.map toP) e3
      rwa [map_toP, map_toP] at this
    subst this
    rw [em_inj e4]
theorem law_Sums (x : List Int) (hx : TyOk (.list (.int .u8)) x) : w_FnSums x = some true := by
  have r1 : w_FnSums_s26b39 = w_FnSums_s26 := rfl
  unfold w_FnSums w_big
  rw [r1]
  simp only [Option.bind_some]
  by_cases hbig : (x.length : Int) > 1048576
  · rw [show decide ((x.length : Int) > 1048576) = true from by simpa using hbig]; rfl
  rw [show decide ((x.length : Int) > 1048576) = false from by simpa using hbig, cond_false]
  obtain ⟨p, q, q1, fp, fq⟩ := drawSum_ok (code := x) (by omega)
  obtain ⟨a, v, q2, l1, l2, l3, _⟩ := drawPlace_ok (code := x) (by omega)
  have q2' : s_DrawSupportAt x = some (a, v) := by unfold s_DrawSupportAt; rw [q2]; rfl
  obtain ⟨b, q3, fb⟩ := drawMirror_ok (code := x) (by omega)
  obtain ⟨e, q4, fe⟩ := drawSym_ok (code := x) (by omega)
  have fa : FitLL a := fit_small (by omega) fun u hu => by have := l2 u hu; omega
  obtain ⟨s1, s2⟩ := sum_eq fp fq
  obtain ⟨n, n1, n2⟩ := mixed_eq fp fq
  obtain ⟨r, t1, t2, _⟩ := supportAt_eq (p := a) (a := v) fa (by omega)
  obtain ⟨m1, m2⟩ := mirror_eq fb
  obtain ⟨z, z1, z2⟩ := sym_eq fe
  have same : ∀ {l : List (List Int)}, FitLL l → w_sameLists l l = some true := fun {l} h => sameLists_self h.lim h.eachLim
  have e1 := same (fit2 (sum_fit (p := p) (q := q)))
  have e2 := same (fit2 (mirS_fit (p := b)))
  simp only [q1, q2', q3, q4, Option.bind_some, s1, s2, n1, n2, t1, t2, m1, m2, z1, z2, beq_self_eq_true, bne_self_eq_false, Bool.not_true, cond_false, e1, e2]
  have rest : (cond (!(sumP p q).2)
 (some (n == (-1 : Int)))
 ((i_SumPolygons q p).bind fun v20 => cond (!v20.2)
 (some false)
 ((w_sameLists v20.1 (sumP p q).1).bind fun v21 => cond (!v21)
 (some false)
 (cond (decide (n < (1 : Int)))
 (some false)
 ((iter (w_FnSums_s26 (p, q) (sumP p q)) (0 : Int)).bind fun v27 => match v27 with
 | .inl v28 => ((i_SumPolygons p p).bind fun v30 => cond (!v30.2)
 (some true)
 ((s_AreaTwice v30.1).bind fun v31 => (s_AreaTwice p).bind fun v32 => some (v31 == (IntKind.i64.wrap ((4 : Int) * v32)))))
 | .inr v29 => (some v29)))))) = some true := by
    cases hs : (sumP p q).2 with
    | false =>
      unfold s_MixedArea at n1
      rw [s1] at n1
      simp only [Option.bind_some, hs, Bool.not_false, cond_true] at n1
      rw [← Option.some.inj n1]
      rfl
    | true =>
      rw [Bool.not_true, cond_false, (sum_eq fq fp).2, ← sumP_comm p q]
      simp only [Option.bind_some, hs, Bool.not_true, cond_false, e1]
      have hpq : isPoly p = true ∧ isPoly q = true := by
        unfold sumP at hs
        split at hs
        · rename_i h; simpa using h
        · cases hs
      obtain ⟨P, rfl, bP, p3, p12, polP⟩ := poly_of hpq.1
      obtain ⟨Q, rfl, bQ, k3, k12, polQ⟩ := poly_of hpq.2
      have eS : sumP (P.map em) (Q.map em) = hullS ((sumsP P Q).map em) := by
        unfold sumP
        rw [hpq.1, hpq.2, map_toP, map_toP]
        rfl
      rw [eS] at hs s1 e1 ⊢
      obtain ⟨h1, polS, h3, h12, bS, _⟩ := hullS_true hs
      have hsup := sup_sums (P := P) (Q := Q) (by omega) (by omega) h3
      rw [h1] at s1 ⊢
      generalize Hull.hull (Hull.sorted (sumsP P Q)) = S at *
      have hS : isPoly (S.map em) = true := (isPoly_iff bS).2 ⟨h12, polS⟩
      have hsa := sum_area polP polQ polS bP bQ bS hsup
      have mp := mixed_pos polP polQ (bd400 bP) (bd400 bQ)
      have mq := mixed_pos polQ polP (bd400 bQ) (bd400 bP)
      have bdS := (area_bd bS (by omega) h12).1
      have bdP := (area_bd bP (by omega) p12).1
      have bdQ := (area_bd bQ (by omega) k12).1
      have hn : 1 ≤ n := by
        unfold s_MixedArea at n1
        rw [s1] at n1
        simp only [Option.bind_some, Bool.not_true, cond_false, area_eq bS (by omega) h12, area_eq bP (by omega) p12, area_eq bQ (by omega) k12] at n1
        rw [wrap_small (x := areaS S - areaS P) (by omega) (by omega), wrap_small (by omega) (by omega)] at n1
        have := Option.some.inj n1
        omega
      rw [show decide (n < 1) = false from by simp; omega, cond_false]
      have hloop : iter (w_FnSums_s26 (P.map em, Q.map em) (S.map em, true)) 0 = some (.inl ()) := iter_up 4 (fun k => (k : Int)) _ (fun k hk => by
        have go : ∀ {A : Pt}, Bd 1000 A → ([[1, 0], [-2, 3], [0, -1], [3, 1]] : List (List Int))[k]? = some (em A) → w_FnSums_s26 (P.map em, Q.map em) (S.map em, true) (k : Int) = some (.inl ((k + 1 : Nat) : Int)) := fun {A} hA hg => by
          have c1 := sup_bd bP (by omega) hA
          have c2 := sup_bd bQ (by omega) hA
          have hsA : sup S A = sup P A + sup Q A := congrFun hsup A
          unfold w_FnSums_s26
          rw [show decide ((k : Int) < 4) = true from by simp; omega, cond_true, show inIdx ([[1, 0], [-2, 3], [0, -1], [3, 1]] : List (List Int)).length (k : Int) = some () from inIdx_nat (by simpa using hk)]
          simp only [Option.bind_some, Int.toNat_natCast, idx_nat, hg, support_poly bP p3 p12 hpq.1 hA, support_poly bQ k3 k12 hpq.2 hA, support_poly bS h3 h12 hS hA, Bool.not_true, cond_false]
          rw [wrap_small (x := sup P A + sup Q A) (by omega) (by omega), hsA, wrap_small (x := (k : Int) + 1) (by omega) (by omega)]
          simp
        match k, hk with
        | 0, _ => exact go (A := (1, 0)) (by unfold Bd; omega) rfl
        | 1, _ => exact go (A := (-2, 3)) (by unfold Bd; omega) rfl
        | 2, _ => exact go (A := (0, -1)) (by unfold Bd; omega) rfl
        | 3, _ => exact go (A := (3, 1)) (by unfold Bd; omega) rfl) (by
        unfold w_FnSums_s26
        rfl)
      rw [hloop, (sum_eq fp fp).2]
      simp only [Option.bind_some]
      have eD : sumP (P.map em) (P.map em) = hullS ((sumsP P P).map em) := by
        unfold sumP
        rw [hpq.1, map_toP]
        rfl
      rw [eD]
      cases hd : (hullS ((sumsP P P).map em)).2 with
      | false => rfl
      | true =>
        obtain ⟨g1, polD, g3, g12, bD, _⟩ := hullS_true hd
        have hsup2 := sup_sums (P := P) (Q := P) (by omega) (by omega) g3
        rw [g1]
        generalize Hull.hull (Hull.sorted (sumsP P P)) = T at *
        have hT : isPoly (T.map em) = true := (isPoly_iff bD).2 ⟨g12, polD⟩
        have hta := sum_area polP polP polD bP bP bD hsup2
        rw [← area_sup polP (bd400 bP)] at hta
        rw [Bool.not_true, cond_false, areaTwice_eq bD g3 g12 hT, areaTwice_eq bP p3 p12 hpq.1]
        simp only [Option.bind_some]
        rw [wrap_small (by omega) (by omega), show areaS T = 4 * areaS P by omega]
        simp
  cases hm : (mirS b).2 with
  | false => exact rest
  | true =>
    have hb : isPoly b = true := by
      unfold mirS at hm
      split at hm
      · assumption
      · cases hm
    obtain ⟨B, rfl, bB, b3, b12, polB⟩ := poly_of hb
    obtain ⟨o1, o2⟩ := mirror_back polB bB b12
    rw [o1]
    have fm : FitLL ((Hull.hull (Hull.sorted (B.map ng))).map em) := by
      have := fit2 (mirS_fit (p := B.map em))
      rwa [o1] at this
    rw [cond_true, (mirror_eq fm).2, o2]
    simp only [Option.bind_some, Bool.not_true, cond_false, same fb]
    exact rest
end Go.Proofs.Ytilggmmanhinbaa
