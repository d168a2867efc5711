/-
  The law FnTriangles. Plain, no condition.
-/
import Derived.Test.YtcpdhjklcongoaaPlTc
import Derived.Test.YtcpdhjklcongoaaPlAr
import Derived.Test.YtcpdhjklcongoaaPlHp
namespace Go.Proofs.Ytcpdhjklcongoaa
open Go Go.Proofs.Ytcpdhjklcongoaa.Eng
open Hull (Pt tn lx at_ at_some at_mem Pol)
set_option linter.unusedVariables false
set_option linter.unusedSimpArgs false
/-! What is drawn. -/
theorem tnew1 : s_DrawEmptyTriangles_s31_3 = cstep := rfl
theorem tnew2 : s_DrawIsEmptyTriangle_s31_3 = cstep := rfl
theorem drawEmpty_ok {code : List Int} (hc : code.length ≤ 1048576) : ∃ p, s_DrawEmptyTriangles code = some p ∧ FitLL p := by
  unfold s_DrawEmptyTriangles
  rw [tnew1]
  obtain ⟨y, e⟩ := new_loop hc (IntKind.i64.wrap (26583 + (code.length : Int)))
  rw [e]
  simp only [Option.bind_some]
  obtain ⟨t, c, a1, a2⟩ := once_ok (s := (code, (0, y))) ⟨by simp, by simp, hc⟩ (n := 8) (by omega)
  have a1 : s_l1Once (code, (0, y)) 8 = some (t, (c, ())) := a1
  simp only [a1, Option.bind_some]
  cases t with
  | true =>
    obtain ⟨p, d, b1, b2, _, b4, b5⟩ := l7Bent_ok a2
    have b1 : s_l7Bent (c.1, (c.2.1, c.2.2)) = some (p, (d, ())) := b1
    simp only [b1, cond_true, Option.bind_some]
    exact ⟨p, rfl, fit_small (by omega) fun v hv => by have := b5 v hv; omega⟩
  | false =>
    obtain ⟨p, d, b1, b2, b3, b4, b5⟩ := l7Draw_ok a2 (size := 3) (by omega) (by omega)
    have b1 : s_l7Draw_1 (c.1, (c.2.1, c.2.2)) 3 = some (p, (d, ())) := b1
    simp only [b1, cond_false, Option.bind_some]
    exact ⟨p, rfl, fit_small (by omega) fun v hv => by have := b5 v hv; omega⟩
theorem drawTriangle_ok {code : List Int} (hc : code.length ≤ 1048576) : ∃ p, s_DrawIsEmptyTriangle code = some p ∧ FitLL p := by
  unfold s_DrawIsEmptyTriangle
  rw [tnew2]
  obtain ⟨y, e⟩ := new_loop hc (IntKind.i64.wrap (26583 + (code.length : Int)))
  rw [e]
  simp only [Option.bind_some]
  obtain ⟨u, s1, a1, a2, a3, _⟩ := draw_ok (s := (code, (0, y))) ⟨by simp, by simp, hc⟩ (n := 2) (size := 2) (by omega) (by omega) (by omega) (by omega)
  have a1 : s_l2Draw (code, (0, y)) 2 2 = some (u, (s1, ())) := a1
  obtain ⟨v, s2, b1, b2, b3, _⟩ := draw_ok a2 (n := 2) (size := 2) (by omega) (by omega) (by omega) (by omega)
  have b1 : s_l2Draw (s1.1, (s1.2.1, s1.2.2)) 2 2 = some (v, (s2, ())) := b1
  obtain ⟨w, s3, c1, c2, c3, _⟩ := draw_ok b2 (n := 2) (size := 2) (by omega) (by omega) (by omega) (by omega)
  have c1 : s_l2Draw (s2.1, (s2.2.1, s2.2.2)) 2 2 = some (w, (s3, ())) := c1
  obtain ⟨n, s4, d1, d2, _⟩ := below_ok c2 (n := 14) (by omega)
  have d1 : s_l1Below (s3.1, (s3.2.1, s3.2.2)) 14 = some (n, (s4, ())) := d1
  simp only [a1, b1, c1, d1, Option.bind_some]
  have a3 : u.length ≤ 3 := by omega
  have b3 : v.length ≤ 3 := by omega
  have c3 : w.length ≤ 3 := by omega
  cases n == 0 with
  | true =>
    refine ⟨[u, v], rfl, fit_small (by simp) fun z hz => ?_⟩
    simp only [List.mem_cons, List.not_mem_nil, or_false] at hz
    rcases hz with rfl | rfl <;> omega
  | false =>
    rw [cond_false]
    cases n == 1 with
    | true =>
      rw [cond_true]
      obtain ⟨z, s5, e1, _, e3, _⟩ := draw_ok d2 (n := 2) (size := 60) (by omega) (by omega) (by omega) (by omega)
      have e1 : s_l2Draw (s4.1, (s4.2.1, s4.2.2)) 2 60 = some (z, (s5, ())) := e1
      simp only [e1, Option.bind_some]
      refine ⟨[z, v, w], rfl, fit_small (by simp) fun x hx => ?_⟩
      simp only [List.mem_cons, List.not_mem_nil, or_false] at hx
      rcases hx with rfl | rfl | rfl <;> omega
    | false =>
      rw [cond_false]
      refine ⟨[u, v, w], rfl, fit_small (by simp) fun x hx => ?_⟩
      simp only [List.mem_cons, List.not_mem_nil, or_false] at hx
      rcases hx with rfl | rfl | rfl <;> omega
/-! One triangle. -/
theorem fit_T {t : Pt × Pt × Pt} : FitLL (emT t) := fit_small (by simp [emT]) fun v hv => by
  simp only [emT, List.mem_cons, List.not_mem_nil, or_false] at hv
  rcases hv with rfl | rfl | rfl <;> simp [em]
theorem bd_T {t : Pt × Pt × Pt} (hb : BdT t) : ∀ q ∈ [t.1, t.2.1, t.2.2], Bd 50 q := fun q hq => by
  simp only [List.mem_cons, List.not_mem_nil, or_false] at hq
  rcases hq with rfl | rfl | rfl
  · exact hb.1
  · exact hb.2.1
  · exact hb.2.2
theorem isEmpty_T {t : Pt × Pt × Pt} (hb : BdT t) (hp : 0 < tnT t) (hf : fst3 t.1 t.2.1 t.2.2 = none) : i_IsEmptyTriangle (emT t) = some true := by
  obtain ⟨r, h1, h2⟩ := emptyTriangle_eq (fit_T (t := t))
  rw [h2]
  rw [← h1]
  have hB := bd_T hb
  have et' := l7Turn_em (m := 50) (by decide) hb.1 hb.2.1 hb.2.2
  have ea : s_l20Area (emT t) = some (tnT t) := by
    unfold s_l20Area emT
    simp only [i0, i1, i2, Option.bind_some, et']
    rfl
  have hall : (emT t).all (isPt 50) = true := by
    simp only [emT, List.all_cons, List.all_nil, isPt_of hb.1, isPt_of hb.2.1, isPt_of hb.2.2, Bool.and_self]
  unfold s_IsEmptyTriangle
  rw [show (((emT t).length : Int) != 3) = false from rfl, cond_false, l7Flat_eq fit_T.lim fit_T.eachLim, hall]
  simp only [Option.bind_some, ea, show (emT t).length = 3 from rfl]
  have hl := l20Other_val hB (by unfold tnT at hp; omega)
  rw [hf] at hl
  have hl : s_l20Other (emT t) = some ([], false) := hl
  rw [show (tnT t == 0) = false from by rw [beq_eq_false_iff_ne]; omega, hl]
  rfl
theorem hull_T {t : Pt × Pt × Pt} (hb : BdT t) (hp : 0 < tnT t) (he : Emp t.1 t.2.1 t.2.2) : ∃ h, s_HullOf (emT t) = some (h, true) ∧ s_AreaTwice h = some 1 := by
  obtain ⟨X, Y, Z, h1, h2, h3⟩ := tri_rot hp
  have hH := hull_tri h1 h2
  have hall : (emT t).all (isPt 50) = true := by
    simp only [emT, List.all_cons, List.all_nil, isPt_of hb.1, isPt_of hb.2.1, isPt_of hb.2.2, Bool.and_self]
  have hm : (emT t).map toP = [t.1, t.2.1, t.2.2] := rfl
  have hBX : ∀ q ∈ [X, Y, Z], Bd 50 q := fun q hq => bd_T hb q ((h2 q).1 hq)
  have hpi := (Hull.pol_iff [X, Y, Z]).1 h1
  have hs : 3 ≤ (Hull.sorted [t.1, t.2.1, t.2.2]).length := by
    have e : Hull.sorted [X, Y, Z] = Hull.sorted [t.1, t.2.1, t.2.2] := by
      have a1 := Hull.sorted_spec [X, Y, Z]
      have a2 := Hull.sorted_spec [t.1, t.2.1, t.2.2]
      have g1 : (Hull.sorted [X, Y, Z]).Nodup := a1.1.imp fun {a b} h e => by subst e; exact Hull.lx_irr h
      have g2 : (Hull.sorted [t.1, t.2.1, t.2.2]).Nodup := a2.1.imp fun {a b} h e => by subst e; exact Hull.lx_irr h
      exact List.Perm.eq_of_pairwise (fun a b _ _ h1 h2 => (Hull.lx_asym h1 h2).elim) a1.1 a2.1 ((List.perm_ext_iff_of_nodup g1 g2).2 fun q => by rw [a1.2, a2.2, h2])
    rw [← e]; exact hpi.2.1
  refine ⟨[X, Y, Z].map em, ?_, ?_⟩
  · rw [s_HullOf_eq fit_T.lim fit_T.eachLim]
    unfold hullS
    rw [if_pos ⟨by simp [emT], hall⟩, hm]
    simp only [hH]
    rw [if_pos ⟨hs, by simp, by simp⟩]
  · have hpoly : isPoly ([X, Y, Z].map em) = true := (isPoly_iff hBX).2 ⟨by simp, h1⟩
    unfold s_AreaTwice
    rw [s_IsPolygon_eq (by rw [List.length_map, lim_eq]; simp) (fun v hv => by obtain ⟨q, _, rfl⟩ := List.mem_map.1 hv; simp [em, lim_eq]), hpoly]
    simp only [Option.bind_some, Bool.not_true, cond_false, area_eq hBX (by simp) (by simp)]
    have hE : Emp X Y Z := fun q q1 q2 q3 => by
      have := (h3 q).1 (inP3.2 ⟨q1, q2, q3⟩)
      obtain ⟨r1, r2, r3⟩ := inP3.1 this
      have : q ∈ [t.1, t.2.1, t.2.2] := by
        rcases he q r1 r2 r3 with h | h | h <;> simp [h]
      simpa using (h2 q).2 this
    have hpX : 0 < tn X Y Z := by
      have := (Hull.pol_chk h1.len).1 h1 0 (by simp)
      unfold Hull.chk at this
      simp only [Bool.and_eq_true, decide_eq_true_eq] at this
      exact this.1
    have e1 := emp_one hE hpX
    have : areaS [X, Y, Z] = tn X Y Z := by
      have e : areaS [X, Y, Z] = crsP X Y + crsP Y Z + crsP Z X := by
        have z := sum_nx (P := [X, Y, Z]) (n := 2) rfl crsP
        simp only [sumN] at z
        unfold areaS
        rw [z]
        have a0 : at_ [X, Y, Z] 0 = X := rfl
        have a1 : at_ [X, Y, Z] 1 = Y := rfl
        have a2 : at_ [X, Y, Z] 2 = Z := rfl
        simp only [Nat.zero_add, a0, a1, a2, show (1 : Nat) + 1 = 2 from rfl]
        omega
      rw [e]; unfold tn crsP; grind
    rw [this, e1]
theorem place_T {P : List Pt} (hB : ∀ q ∈ P, Bd 50 q) (h0 : 0 < P.length) (hl : P.length ≤ 12) (hP : isPoly (P.map em) = true) {q : Pt} (hq : Bd 50 q) (hin : inP P q) : ∃ v, s_PlaceOf (P.map em) (em q) = some v ∧ 0 ≤ v := by
  obtain ⟨v, _, h2, h3⟩ := place_eq (m := 50) (by decide) hB (by omega) hq
  refine ⟨v, ?_, ?_⟩
  · unfold s_PlaceOf
    rw [s_IsPolygon_eq (by rw [List.length_map, lim_eq]; omega) (fun v hv => by obtain ⟨q, _, rfl⟩ := List.mem_map.1 hv; simp [em, lim_eq]), hP, s_IsVector_eq (by simp [em, lim_eq]), vecB_em (hq.mono (by decide))]
    simp only [Option.bind_some, Bool.not_true, cond_false, h2]
    rfl
  · have : decide (v ≥ 0) = true := by rw [h3]; simpa using hin
    simpa using this
/-! The law. -/
theorem step18 {P : List Pt} (hB : ∀ q ∈ P, Bd 50 q) (h0 : 0 < P.length) (hl : P.length ≤ 12) (hP : isPoly (P.map em) = true) {T : List (Pt × Pt × Pt)} {k : Nat} {t : Pt × Pt × Pt} (ht : T[k]? = some t) (hb : BdT t) (h1 : inP P t.1) (h2 : inP P t.2.1) (h3 : inP P t.2.2) :
    iter (w_FnTriangles_s18 (P.map em) (T.map emT) (k : Int)) 0 = some (.inl ()) := by
  have hk : idx (T.map emT) (k : Int) = some (emT t) := by rw [idx_nat, List.getElem?_map, ht]; rfl
  have st : ∀ (j : Nat) (q : Pt), j < 3 → idx (emT t) (j : Int) = some (em q) → Bd 50 q → inP P q → w_FnTriangles_s18 (P.map em) (T.map emT) (k : Int) (j : Int) = some (.inl ((j + 1 : Nat) : Int)) := fun j q hj hq hbq hin => by
    obtain ⟨v, e1, e2⟩ := place_T hB h0 hl hP hbq hin
    unfold w_FnTriangles_s18
    rw [hk]
    simp only [Option.bind_some]
    rw [show decide ((j : Int) < ((emT t).length : Int)) = true from by simp [emT]; omega, cond_true, hq]
    simp only [Option.bind_some]
    rw [e1]
    simp only [Option.bind_some]
    rw [show decide (v < 0) = false from by simp; omega, cond_false, wrap_small (by omega) (by omega)]
    rfl
  rw [show (0 : Int) = ((0 : Nat) : Int) from rfl, iter_next (st 0 t.1 (by omega) rfl hb.1 h1), iter_next (st 1 t.2.1 (by omega) rfl hb.2.1 h2), iter_next (st 2 t.2.2 (by omega) rfl hb.2.2 h3)]
  refine iter_end ?_
  unfold w_FnTriangles_s18
  rw [hk]
  rfl
theorem loop10 {P : List Pt} (hB : ∀ q ∈ P, Bd 50 q) (h0 : 0 < P.length) (hl : P.length ≤ 12) (hP : isPoly (P.map em) = true) {T : List (Pt × Pt × Pt)} (hT : Good T) (hin : ∀ t ∈ T, inP P t.1 ∧ inP P t.2.1 ∧ inP P t.2.2) (hn : T.length ≤ 1000000) :
    iter (w_FnTriangles_s10 (P.map em) (T.map emT) (T.map emT)) 0 = some (.inl ()) := by
  have e := iter_up (step := w_FnTriangles_s10 (P.map em) (T.map emT) (T.map emT)) T.length (fun k => (k : Int)) (.inl ()) (fun k hk => by
    have ht : T[k]? = some T[k] := List.getElem?_eq_getElem hk
    have hm := List.getElem_mem hk
    have hki : idx (T.map emT) (k : Int) = some (emT T[k]) := by rw [idx_nat, List.getElem?_map, ht]; rfl
    obtain ⟨h, e1, e2⟩ := hull_T (hT.bnd _ hm) (hT.pos _ hm) (hT.emp _ hm).1
    obtain ⟨i1, i2, i3⟩ := hin _ hm
    unfold w_FnTriangles_s10
    rw [show decide ((k : Int) < ((T.map emT).length : Int)) = true from by simp; omega, cond_true, hki]
    simp only [Option.bind_some]
    rw [sameLists_self fit_T.lim fit_T.eachLim, isEmpty_T (hT.bnd _ hm) (hT.pos _ hm) (hT.emp _ hm).2, e1]
    simp only [Option.bind_some, Bool.not_true, cond_false]
    rw [e2]
    simp only [Option.bind_some, bne_self_eq_false, cond_false]
    rw [step18 hB h0 hl hP ht (hT.bnd _ hm) i1 i2 i3]
    simp only [Option.bind_some]
    rw [wrap_small (by omega) (by omega)]
    rfl) (by
    unfold w_FnTriangles_s10
    rw [show decide ((T.length : Int) < ((T.map emT).length : Int)) = false from by simp, cond_false])
  exact e
theorem law_Triangles (x : List Int) (hx : TyOk (.list (.int .u8)) x) : w_FnTriangles x = some true := by
  unfold w_FnTriangles w_big
  simp only [Option.bind_some]
  by_cases hbig : (x.length : Int) > 1048576
  · rw [show decide ((x.length : Int) > 1048576) = true from by simpa using hbig]; rfl
  rw [show decide ((x.length : Int) > 1048576) = false from by simpa using hbig, cond_false]
  obtain ⟨p, q1, fp⟩ := drawEmpty_ok (code := x) (by omega)
  obtain ⟨a, q2, fa⟩ := drawTriangle_ok (code := x) (by omega)
  obtain ⟨r, t1, t2, t3, t4, t5⟩ := empty_eq fp
  obtain ⟨r', u1, u2, u3⟩ := empty_T fp
  have hrr : r' = r := by rw [t1] at u1; exact (Option.some.inj u1).symm
  subst hrr
  obtain ⟨b, b1, b2⟩ := emptyTriangle_eq fa
  obtain ⟨m, m1, m2⟩ := edges_eq fp
  obtain ⟨c, c1, c2⟩ := count_eq fp
  rw [q1]
  simp only [Option.bind_some]
  rw [t3, t1]
  simp only [Option.bind_some]
  rw [q2]
  simp only [Option.bind_some, bne_self_eq_false, cond_false]
  rw [c1, c2, b1, b2, m1, m2]
  simp only [Option.bind_some, bne_self_eq_false, cond_false, beq_self_eq_true, Bool.not_true]
  rcases u3 with rfl | ⟨P, rfl, hB, g3, g12, hpol, rfl⟩
  · have hc : c = -1 := by
      rw [show i_CountEmpty p = (i_EmptyTriangles p).bind fun v1 => cond v1.isEmpty (some (-1)) (some (v1.length : Int)) from rfl, t2] at c2
      exact (Option.some.inj c2).symm
    have hm : m = -1 := by
      rw [show i_EdgesUsed p = (i_EmptyTriangles p).bind fun v1 => cond v1.isEmpty (some (-1)) ((iter (i_EdgesUsed_s6 v1) (([] : List (List Int)), (0 : Int))).bind fun v18 => some (v18.length : Int)) from rfl, t2] at m2
      exact (Option.some.inj m2).symm
    subst hc
    subst hm
    have : iter (w_FnTriangles_s10 p [] []) (0 : Int) = some (.inl ()) := iter_end rfl
    rw [this]
    rfl
  · have hpoly : isPoly (P.map em) = true := (isPoly_iff hB).2 ⟨g12, hpol⟩
    obtain ⟨f1, f2, f3, f4⟩ := fan_all hB hpol
    have hlen : (fanP P (P.length - 2)).length ≤ 240000 := by rwa [List.length_map] at t4
    obtain ⟨M, k1, k2, k3⟩ := edges_T hB g3 g12 hpol t2 hlen
    rw [k1] at m2
    have hm : m = (M.length : Int) := (Option.some.inj m2).symm
    have hec := edge_count hpol f1 f3 k2 k3
    have hpos := (fan_fit hB hpol (P.length - 2) (by omega)).2.1 (by omega)
    rw [fan_P, List.length_map] at hpos
    have hin : ∀ t ∈ fanP P (P.length - 2), inP P t.1 ∧ inP P t.2.1 ∧ inP P t.2.2 := fun t ht => by
      have : ∀ k, k < P.length → InH (at_ P k) (at_ P ((k + 1) % P.length)) t := fun k hk => f4 _ _ (fun q hq => mem_in hpol hq k hk) t ht
      exact ⟨fun k hk => (this k hk).1, fun k hk => (this k hk).2.1, fun k hk => (this k hk).2.2⟩
    rw [loop10 hB (by omega) g12 hpoly f1 hin (by omega)]
    simp only [Option.bind_some]
    obtain ⟨ab1, ab2⟩ := area_bd hB (by omega) g12
    have hA : s_AreaTwice (P.map em) = some (areaS P) := by
      unfold s_AreaTwice
      rw [s_IsPolygon_eq (by rw [List.length_map, lim_eq]; omega) (fun v hv => by obtain ⟨q, _, rfl⟩ := List.mem_map.1 hv; simp [em, lim_eq]), hpoly]
      simp only [Option.bind_some, Bool.not_true, cond_false, area_eq hB (by omega) g12]
    rw [show ((((fanP P (P.length - 2)).map emT).length : Int) == 0) = false from by rw [List.length_map, beq_eq_false_iff_ne]; omega, cond_false, hA]
    simp only [Option.bind_some]
    rw [show ((((fanP P (P.length - 2)).map emT).length : Int) == areaS P) = true from by rw [List.length_map, f2]; simp, cond_true]
    rw [inner_eq hB (by omega) g12 hpoly, bnd_eq hB (by omega) g12 hpoly]
    simp only [Option.bind_some]
    have h2 : ((areaS P - bndS P + 2).tdiv 2) = 2 * areaS P - (M.length : Int) + 1 := by
      have : areaS P - bndS P + 2 = 2 * (2 * areaS P - (M.length : Int) + 1) := by omega
      rw [this]
      exact Int.mul_tdiv_cancel_left _ (by omega)
    rw [h2]
    rw [wrap_small (x := 2 * areaS P - (M.length : Int) + 1) (by omega) (by omega), wrap_small (x := 3 * (2 * areaS P - (M.length : Int) + 1)) (by omega) (by omega), wrap_small (x := 2 * bndS P) (by omega) (by omega), wrap_small (x := 3 * (2 * areaS P - (M.length : Int) + 1) + 2 * bndS P) (by omega) (by omega), wrap_small (by omega) (by omega)]
    rw [show (m == 3 * (2 * areaS P - (M.length : Int) + 1) + 2 * bndS P - 3) = true from by rw [beq_iff_eq]; omega]
end Go.Proofs.Ytcpdhjklcongoaa
