/-
  Whole points of polygons in the program; layers. Plain, no condition.
-/
import Derived.Test.YtampigdidkhigaaPlO
import Derived.Test.YtampigdidkhigaaPlG
namespace Go.Proofs.Ytampigdidkhigaa
open Go Go.Proofs.Ytampigdidkhigaa.Eng
open Hull (Pt tn lx at_ at_some at_mem)
set_option linter.unusedVariables false
set_option linter.unusedSimpArgs false
theorem area_same (x : List (List Int)) : i_areaTwice x = s_l7Area x := rfl
theorem crs_bd {a b : Pt} (ha : Bd 50 a) (hb : Bd 50 b) : -5000 ≤ a.1 * b.2 - a.2 * b.1 ∧ a.1 * b.2 - a.2 * b.1 ≤ 5000 := by
  have h1 := abs_mul_le ha.1 ha.2.1 hb.2.2.1 hb.2.2.2
  have h2 := abs_mul_le ha.2.2.1 ha.2.2.2 hb.1 hb.2.1
  omega
theorem l7Cross_em {a b : Pt} (ha : Bd 50 a) (hb : Bd 50 b) : s_l7Cross (em a) (em b) = some (a.1 * b.2 - a.2 * b.1) := by
  have h1 := abs_mul_le ha.1 ha.2.1 hb.2.2.1 hb.2.2.2
  have h2 := abs_mul_le ha.2.2.1 ha.2.2.2 hb.1 hb.2.1
  unfold s_l7Cross
  simp only [(idx_em a).1, (idx_em a).2, (idx_em b).1, (idx_em b).2, Option.bind_some]
  rw [wrap_small (x := a.1 * b.2) (by omega) (by omega), wrap_small (x := a.2 * b.1) (by omega) (by omega), wrap_small (by omega) (by omega)]
theorem area_some {P : List Pt} (hB : ∀ q ∈ P, Bd 50 q) (hl : P.length ≤ 12) : ∃ A, s_l7Area (P.map em) = some A := by
  obtain ⟨y, e, _⟩ := iter_run (step := s_l7Area_s3 (P.map em)) (fun s => ∃ k : Nat, s.2 = (k : Int) ∧ k ≤ P.length ∧ -5000 * (k : Int) ≤ s.1 ∧ s.1 ≤ 5000 * (k : Int)) (fun s => P.length - s.2.toNat) (fun _ _ => True) (fun s hs => by
    obtain ⟨c, i⟩ := s
    obtain ⟨k, rfl, g1, g2, g3⟩ := hs
    simp only at g1 g2 g3
    unfold s_l7Area_s3
    simp only
    by_cases h : k < P.length
    · right
      have hj : (k + 1) % P.length < P.length := Nat.mod_lt _ (by omega)
      have hr : remI .i64 (IntKind.i64.wrap ((k : Int) + 1)) ((P.map em).length : Int) = some (((k + 1) % P.length : Nat) : Int) := by
        rw [wrap_small (by omega) (by omega), List.length_map]
        exact remP (j := k + 1) (by omega)
      have hc := crs_bd (hB _ (at_mem h)) (hB _ (at_mem hj))
      rw [show decide ((k : Int) < ((P.map em).length : Int)) = true from by simp; omega, cond_true, idxP h, hr]
      simp only [Option.bind_some]
      rw [idxP hj]
      simp only [Option.bind_some]
      rw [l7Cross_em (hB _ (at_mem h)) (hB _ (at_mem hj))]
      refine ⟨_, rfl, ⟨k + 1, ?_, by omega, ?_, ?_⟩, ?_, fun _ _ => trivial⟩
      · simp only; rw [wrap_small (by omega) (by omega)]; rfl
      · simp only; rw [wrap_small (by omega) (by omega)]; omega
      · simp only; rw [wrap_small (by omega) (by omega)]; omega
      · simp only; rw [wrap_small (x := (k : Int) + 1) (by omega) (by omega)]; omega
    · left
      rw [show decide ((k : Int) < ((P.map em).length : Int)) = false from by simp; omega, cond_false]
      exact ⟨_, rfl, trivial⟩) (0, 0) ⟨0, rfl, Nat.zero_le _, by simp, by simp⟩
  exact ⟨y, by unfold s_l7Area; rw [e]; rfl⟩
theorem pp6 {a b c d : Int} {k : Int} {q : Pt} : iter (i_PolygonPoints_s8 ([a, b], ([c, d], k)) (em q)) ([a, b], ([c, d], 0)) = some ([mn a q.1, mn b q.2], [mx c q.1, mx d q.2]) := by
  have h1 : i_PolygonPoints_s8 ([a, b], ([c, d], k)) (em q) ([a, b], ([c, d], 0)) = some (.inl ([mn a q.1, b], ([mx c q.1, d], 1))) := rfl
  have h2 : i_PolygonPoints_s8 ([a, b], ([c, d], k)) (em q) ([mn a q.1, b], ([mx c q.1, d], 1)) = some (.inl ([mn a q.1, mn b q.2], ([mx c q.1, mx d q.2], 2))) := rfl
  have h3 : i_PolygonPoints_s8 ([a, b], ([c, d], k)) (em q) ([mn a q.1, mn b q.2], ([mx c q.1, mx d q.2], 2)) = some (.inr ([mn a q.1, mn b q.2], [mx c q.1, mx d q.2])) := rfl
  rw [iter_next h1, iter_next h2, iter_end h3]
theorem pp3 {P : List Pt} (hl : P.length ≤ 1000) : iter (i_PolygonPoints_s5 (P.map em)) ([(at_ P 0).1, (at_ P 0).2], ([(at_ P 0).1, (at_ P 0).2], 0)) = some ([lo (·.1) P, lo (·.2) P], [hi (·.1) P, hi (·.2) P]) := by
  have A := iter_up (step := i_PolygonPoints_s5 (P.map em)) P.length (fun k => ([(P.take k).foldl (fun m q => mn m q.1) (at_ P 0).1, (P.take k).foldl (fun m q => mn m q.2) (at_ P 0).2], ([(P.take k).foldl (fun m q => mx m q.1) (at_ P 0).1, (P.take k).foldl (fun m q => mx m q.2) (at_ P 0).2], (k : Int)))) ([lo (·.1) P, lo (·.2) P], [hi (·.1) P, hi (·.2) P]) (fun k hk => by
    unfold i_PolygonPoints_s5
    have hd : decide ((k : Int) < ((P.map em).length : Int)) = true := by simp; omega
    simp only [hd, cond_true, idxP hk, Option.bind_some, pp6]
    rw [wrap_small (by omega) (by omega), foldl_take_succ _ (at_some hk), foldl_take_succ _ (at_some hk), foldl_take_succ _ (at_some hk), foldl_take_succ _ (at_some hk)]
    rfl) (by
    unfold i_PolygonPoints_s5
    simp [lo, hi])
  exact A
theorem at0_in {P : List Pt} (hp : Hull.Pol P) : inP P (at_ P 0) := by
  have h3 := hp.len
  intro k hk
  unfold sd
  by_cases h0 : k = 0
  · subst h0; rw [Hull.tn_aa]; exact Int.le_refl _
  · by_cases hl : k + 1 = P.length
    · rw [hl, Nat.mod_self, Hull.tn_bb]; exact Int.le_refl _
    · rw [Nat.mod_eq_of_lt (by omega)]
      have hc := (Hull.pol_chk h3).1 hp k hk
      unfold Hull.chk at hc
      simp only [Bool.and_eq_true, Bool.or_eq_true, decide_eq_true_eq, beq_iff_eq] at hc
      rcases hc.2 with h | h
      · exact absurd h h0
      · rcases h.2 with h | h
        · omega
        · rw [Hull.tn_cyc]; omega
theorem pts_ne {P : List Pt} (hp : Hull.Pol P) : ptsP P ≠ [] := by
  have h3 := hp.len
  have : em (at_ P 0) ∈ ptsP P := by
    unfold ptsP
    rw [List.mem_filter]
    refine ⟨latt2_mem.2 ⟨at_ P 0, rfl, ?_⟩, by rw [toP_em]; exact decide_eq_true (at0_in hp)⟩
    have hm : at_ P 0 ∈ P := at_mem (by omega)
    exact ⟨(lo_spec (·.1) (by omega)).1 _ hm, (hi_spec (·.1) (by omega)).1 _ hm, (lo_spec (·.2) (by omega)).1 _ hm, (hi_spec (·.2) (by omega)).1 _ hm⟩
  intro h
  rw [h] at this
  simp at this
theorem polygonPoints_eq {P : List Pt} (hB : ∀ q ∈ P, Bd 50 q) (h12 : P.length ≤ 12) (hp : Hull.Pol P) (hP : isPoly (P.map em) = true) {A : Int} (hA : s_l7Area (P.map em) = some A) :
    i_PolygonPoints (P.map em) = some (if A > 2000 then [] else ptsP P) := by
  have h3 := hp.len
  have hlim : (P.map em).length ≤ lim := by rw [List.length_map, lim_eq]; omega
  have hel : ∀ v ∈ P.map em, v.length ≤ lim := fun v hv => by
    obtain ⟨q, _, rfl⟩ := List.mem_map.1 hv
    simp [em, lim_eq]
  have hcp : i_copyInts (em (at_ P 0)) = some (em (at_ P 0)) := copyInts_eq (by simp [em, lim_eq])
  have i0 : idx (P.map em) 0 = some (em (at_ P 0)) := idxP (k := 0) (by omega)
  unfold i_PolygonPoints
  rw [i_IsPolygon_eq hlim hel, hP]
  simp only [Option.bind_some, Bool.not_true, cond_false]
  unfold i_AreaTwice
  rw [i_IsPolygon_eq hlim hel, hP]
  simp only [Option.bind_some, Bool.not_true, cond_false, area_same, hA]
  by_cases hc : A > 2000
  · rw [decide_eq_true hc, cond_true, if_pos hc]
  · rw [decide_eq_false hc, cond_false, if_neg hc, i0]
    simp only [Option.bind_some, hcp]
    rw [show iter (i_PolygonPoints_s5 (P.map em)) (em (at_ P 0), (em (at_ P 0), 0)) = _ from pp3 (by omega)]
    simp only [Option.bind_some]
    rw [lattice_box hB (by omega)]
    simp only [Option.bind_some]
    have hL := latt_box hB (by omega)
    have hLl := latt_box_len hB (by omega)
    have D := iter_up (step := i_PolygonPoints_s15 (P.map em) (latt (box P) [[]])) (latt (box P) [[]]).length (fun k => (((latt (box P) [[]]).take k).filter (fun v => decide (inP P (toP v))), (k : Int))) (ptsP P) (fun k hk => by
      have hg : (latt (box P) [[]])[k]? = some (latt (box P) [[]])[k] := List.getElem?_eq_getElem hk
      obtain ⟨q, eq, hq⟩ := hL _ (List.getElem_mem hk)
      obtain ⟨v, p1, _, p3⟩ := place_eq (by decide) hB (by omega) hq
      have hfl := List.length_filter_le (fun v => decide (inP P (toP v))) ((latt (box P) [[]]).take k)
      rw [List.length_take] at hfl
      unfold i_PolygonPoints_s15
      simp only
      rw [show decide ((k : Int) < ((latt (box P) [[]]).length : Int)) = true from by simp; omega, cond_true, idx_some hg]
      simp only [Option.bind_some]
      rw [eq, p1]
      simp only [Option.bind_some]
      rw [p3, wrap_small (by omega) (by omega), filter_take_succ _ hg, eq, toP_em, appD_some (by simp [lim_eq]; omega) (by simp [lim_eq]; omega)]
      cases decide (inP P q) with
      | true => rfl
      | false => simp) (by
      unfold i_PolygonPoints_s15
      simp [ptsP])
    have e : (([], 0) : List (List Int) × Int) = (((latt (box P) [[]]).take 0).filter (fun v => decide (inP P (toP v))), ((0 : Nat) : Int)) := by simp
    rw [e, D]
    simp only [Option.bind_some]
    have hne : nneD (ptsP P) = some () := by
      unfold nneD
      have := pts_ne hp
      cases h : ptsP P with
      | nil => exact absurd h this
      | cons _ _ => rfl
    rw [hne]; rfl
/-- A point of the polygon goes no further than the corners. -/
theorem in_sup {P : List Pt} (h3 : 3 ≤ P.length) (hp : Hull.Pol P) (a : Pt) {q : Pt} (hq : inP P q) : dt a q ≤ sup P a := by
  obtain ⟨h1, V, hV, hs⟩ := hi_spec (dt a) (P := P) (by omega)
  have hs : sup P a = dt a V := hs
  have h1 : ∀ q ∈ P, dt a q ≤ sup P a := h1
  obtain ⟨k, hk, rfl⟩ := List.mem_iff_getElem.1 hV
  have hkV : at_ P k = P[k] := Hull.at_of (List.getElem?_eq_getElem hk)
  rw [← hkV] at hs
  have hj : (k + P.length - 1) % P.length < P.length := Nat.mod_lt _ (by omega)
  generalize hje : (k + P.length - 1) % P.length = j at hj
  have hj1 : (j + 1) % P.length = k := by
    rw [← hje, Nat.add_mod, Nat.mod_mod, ← Nat.add_mod, show k + P.length - 1 + 1 = k + P.length from by omega, Nat.add_mod_right, Nat.mod_eq_of_lt hk]
  have hj2 : (j + 2) % P.length = (k + 1) % P.length := by
    rw [show j + 2 = j + 1 + 1 from rfl, Nat.add_mod (j + 1), hj1, Nat.add_mod_mod]
  have hc := (Hull.pol_chk h3).1 hp j hj
  unfold Hull.chk at hc
  simp only [Bool.and_eq_true, decide_eq_true_eq] at hc
  have hc := hc.1
  rw [hj1, hj2] at hc
  have q1 := hq j hj
  have q2 := hq k hk
  unfold sd at q1 q2
  rw [hj1] at q1
  have hw : (k + 1) % P.length < P.length := Nat.mod_lt _ (by omega)
  have m1 := h1 _ (at_mem hj)
  have m2 := h1 _ (at_mem hw)
  rw [hs] at m1 m2 ⊢
  generalize at_ P j = U at hc q1 m1
  generalize at_ P ((k + 1) % P.length) = W at hc q2 m2
  generalize at_ P k = V at hc q1 q2 m1 m2
  unfold dt at m1 m2 ⊢
  unfold tn at hc q1 q2
  have e1 : ((V.1 - U.1) * (W.2 - U.2) - (V.2 - U.2) * (W.1 - U.1)) * ((a.1 * q.1 + a.2 * q.2) - (a.1 * V.1 + a.2 * V.2)) =
      ((V.1 - U.1) * (q.2 - U.2) - (V.2 - U.2) * (q.1 - U.1)) * ((a.1 * W.1 + a.2 * W.2) - (a.1 * V.1 + a.2 * V.2)) + ((W.1 - V.1) * (q.2 - V.2) - (W.2 - V.2) * (q.1 - V.1)) * ((a.1 * U.1 + a.2 * U.2) - (a.1 * V.1 + a.2 * V.2)) := by grind
  generalize (V.1 - U.1) * (W.2 - U.2) - (V.2 - U.2) * (W.1 - U.1) = X at e1 hc
  generalize (V.1 - U.1) * (q.2 - U.2) - (V.2 - U.2) * (q.1 - U.1) = Y at e1 q1
  generalize (W.1 - V.1) * (q.2 - V.2) - (W.2 - V.2) * (q.1 - V.1) = Z at e1 q2
  have n1 : Y * ((a.1 * W.1 + a.2 * W.2) - (a.1 * V.1 + a.2 * V.2)) ≤ 0 := Int.mul_nonpos_of_nonneg_of_nonpos q1 (by omega)
  have n2 : Z * ((a.1 * U.1 + a.2 * U.2) - (a.1 * V.1 + a.2 * V.2)) ≤ 0 := Int.mul_nonpos_of_nonneg_of_nonpos q2 (by omega)
  refine Int.not_lt.1 fun hlt => ?_
  have : 0 < X * ((a.1 * q.1 + a.2 * q.2) - (a.1 * V.1 + a.2 * V.2)) := Int.mul_pos hc (by omega)
  omega
theorem pts_range {P : List Pt} (h3 : 3 ≤ P.length) (hp : Hull.Pol P) (a : Pt) {v : List Int} (hv : v ∈ ptsP P) : ∃ q, v = em q ∧ dt a q ≤ sup P a ∧ inf P a ≤ dt a q := by
  unfold ptsP at hv
  rw [List.mem_filter] at hv
  obtain ⟨q, rfl, _⟩ := latt2_mem.1 hv.1
  have hq : inP P q := by
    have := of_decide_eq_true hv.2
    rwa [toP_em] at this
  have h1 := in_sup h3 hp a hq
  have h2 := in_sup h3 hp (ngp a) hq
  rw [inf_sup, dt_ngp] at h2
  exact ⟨q, rfl, h1, by omega⟩
/-- One more point in a layer. -/
def lay1 (a : Pt) (m : Int) (L : List Int) (v : List Int) : List Int := L.set (dt a (toP v) - m).toNat (IntKind.i64.wrap (L.getD (dt a (toP v) - m).toNat 0 + 1))
theorem lay1_len (a : Pt) (m : Int) : (l : List (List Int)) → (L : List Int) → (l.foldl (lay1 a m) L).length = L.length
  | [], _ => rfl
  | v :: l, L => by rw [List.foldl_cons, lay1_len a m l]; simp [lay1]
/-- Both lists of layers. -/
theorem sum_set : ∀ {l : List Int} {i : Nat} {v x : Int}, l[i]? = some x → (l.set i v).sum = l.sum - x + v
  | [], i, v, x, h => by simp at h
  | y :: l, 0, v, x, h => by
    simp at h
    subst h
    simp only [List.set_cons_zero, List.sum_cons]
    omega
  | y :: l, i + 1, v, x, h => by
    have := sum_set (l := l) (i := i) (v := v) (x := x) (by simpa using h)
    simp only [List.set_cons_succ, List.sum_cons, this]
    omega
theorem sum_zeros : ∀ n : Nat, (List.replicate n (0 : Int)).sum = 0
  | 0 => rfl
  | n + 1 => by rw [List.replicate_succ, List.sum_cons, sum_zeros n]; rfl
/-- The layers count every point once. -/
theorem lay_sum (a : Pt) (m : Int) {n : Nat} : (l : List (List Int)) → (L : List Int) → (c : Nat) → L.length = n → (∀ x ∈ L, 0 ≤ x ∧ x ≤ c) → c + l.length ≤ 1000000 → (∀ v ∈ l, (dt a (toP v) - m).toNat < n) →
    (l.foldl (lay1 a m) L).sum = L.sum + l.length ∧ ∀ x ∈ l.foldl (lay1 a m) L, 0 ≤ x ∧ x ≤ ((c + l.length : Nat) : Int)
  | [], L, c, h1, h2, h3, h4 => by simpa using h2
  | v :: l, L, c, h1, h2, h3, h4 => by
    have hi := h4 v (by simp)
    simp only [List.length_cons] at h3
    have hg : L[(dt a (toP v) - m).toNat]? = some L[(dt a (toP v) - m).toNat] := List.getElem?_eq_getElem (by omega)
    have hx := h2 _ (List.getElem_mem (show (dt a (toP v) - m).toNat < L.length by omega))
    have e : lay1 a m L v = L.set (dt a (toP v) - m).toNat (L[(dt a (toP v) - m).toNat] + 1) := by
      unfold lay1
      rw [List.getD_eq_getElem?_getD, hg, Option.getD_some, wrap_small (by omega) (by omega)]
    have ih := lay_sum a m (n := n) l (lay1 a m L v) (c + 1) (by rw [e, List.length_set]; exact h1) (fun x hx' => by
      rw [e] at hx'
      rcases List.mem_or_eq_of_mem_set hx' with h | h
      · have := h2 x h; omega
      · omega) (by omega) fun w hw => h4 w (List.mem_cons_of_mem _ hw)
    rw [List.foldl_cons]
    refine ⟨?_, fun x hx' => ?_⟩
    · rw [ih.1, e, sum_set hg]
      simp only [List.length_cons]
      omega
    · have := ih.2 x hx'
      simp only [List.length_cons]
      omega
theorem layersOf_full {p : List (List Int)} {v : List Int} (hp : FitLL p) (hv : v.length ≤ 1048576) : ∃ r, s_LayersOf p v = some r ∧ i_LayersOf p v = some r ∧ r.length ≤ 1000000 ∧
    (r ≠ [] → ∃ pts, s_PolygonPoints p = some pts ∧ r.sum = pts.length ∧ ∀ x ∈ r, 0 ≤ x ∧ x ≤ 1000000) := by
  unfold s_LayersOf i_LayersOf
  rw [s_IsPolygon_eq hp.lim hp.eachLim]
  simp only [Option.bind_some]
  cases h1 : isPoly p with
  | false =>
    refine ⟨[], rfl, ?_, by simp, fun h => absurd rfl h⟩
    unfold i_PolygonPoints
    rw [i_IsPolygon_eq hp.lim hp.eachLim, h1]
    rfl
  | true =>
    obtain ⟨P, rfl, hB, g3, g12, hpol⟩ := poly_of h1
    obtain ⟨A, hA⟩ := area_some hB g12
    rw [Bool.not_true, cond_false, hA, polygonPoints_eq hB g12 hpol h1 hA]
    simp only [Option.bind_some]
    by_cases hc : A > 2000
    · rw [decide_eq_true hc, cond_true, if_pos hc]
      exact ⟨[], rfl, rfl, by simp, fun h => absurd rfl h⟩
    · rw [decide_eq_false hc, cond_false, if_neg hc]
      have hne : (ptsP P).isEmpty = false := by
        have := pts_ne hpol
        cases h : ptsP P with
        | nil => exact absurd h this
        | cons _ _ => rfl
      rw [hne, cond_false, isPoint_eq (lim_of hv) (by decide) (by decide)]
      simp only [Option.bind_some]
      cases h2 : isPt 12 v with
      | false =>
        refine ⟨[], ?_, rfl, by simp, fun h => absurd rfl h⟩
        by_cases hl : v.length = 2
        · rw [show ((v.length : Int) != 2) = false from by simp; omega, cond_false, l2Small_eq (lim_of hv) (by decide) (by decide)]
          unfold isPt at h2
          rw [show (v.length == 2) = true from by simpa using hl, Bool.true_and] at h2
          rw [h2]; rfl
        · rw [show ((v.length : Int) != 2) = true from by simp; omega, cond_true]
      | true =>
        obtain ⟨ev, hb⟩ := isPt_em h2
        have hall : v.all (inR (-12) 12) = true := by unfold isPt at h2; simp only [Bool.and_eq_true] at h2; exact h2.2
        have hl2 : v.length = 2 := by rw [ev]; rfl
        generalize toP v = a at ev hb
        have hb' : Bd 1000 a := hb.mono (by decide)
        rw [show ((v.length : Int) != 2) = false from by simp; omega, cond_false, l2Small_eq (lim_of hv) (by decide) (by decide), hall]
        simp only [Option.bind_some, Bool.not_true, cond_false]
        rw [ev, range_eq hB (by omega) g12 hb']
        simp only [Option.bind_some]
        obtain ⟨w, _, w2, w3, _⟩ := widthIn_eq (p := P.map em) (a := em a) hp (by simp [em])
        have hw := w3 P a rfl rfl h1 hb'
        have s1 := sup_bd hB (by omega) hb'
        have s2 := sup_bd hB (by omega) hb'.ngp
        have hiv := inf_sup P a
        have hsi : inf P a ≤ sup P a := by
          obtain ⟨q, _, k1, k2⟩ := pts_range g3 hpol a (v := (ptsP P).head (pts_ne hpol)) (List.head_mem _)
          omega
        have hpts : s_l7Points (P.map em) = some (ptsP P) := l7Points_eq hB (by omega) (by omega) (fun q hq => by
          have hm := hpol.min
          match P, g3, hq with
          | x :: r, _, hq =>
            rcases List.mem_cons.1 hq with rfl | hq
            · exact Int.le_refl _
            · have := hm x r rfl q hq
              unfold lx at this
              show x.1 ≤ q.1
              omega)
        rw [w2, hpts]
        simp only [Option.bind_some]
        have ewid : w = sup P a - inf P a := by rw [hw]; omega
        have hb2 := hb
        unfold Bd at hb2
        rw [(idx_em a).1, (idx_em a).2]
        simp only [Option.bind_some]
        rw [wrap_small (x := sup P a - inf P a) (by omega) (by omega), ewid, wrap_small (x := 0 - a.1) (by omega) (by omega), wrap_small (x := 0 - a.2) (by omega) (by omega), wrap_small (x := sup P a - inf P a + 1) (by omega) (by omega)]
        have en : ([0 - a.1, 0 - a.2] : List Int) = em (ngp a) := by simp [em, ngp]
        rw [en, support_eq hB (by omega) g12 hb'.ngp]
        have hmk : mkD 8 (sup P a - inf P a + 1) (0 : Int) = some (List.replicate (sup P a - inf P a + 1).toNat 0) := by
          have h0 : sup P a - inf P a + 1 = (((sup P a - inf P a + 1).toNat : Nat) : Int) := by omega
          have := mkD_some (b := 8) (n := (sup P a - inf P a + 1).toNat) (d := (0 : Int)) (by rw [lim_eq]; omega) (by rw [lim_eq]; omega)
          rw [← h0] at this
          exact this
        rw [hmk]
        simp only [Option.bind_some]
        generalize hn : (sup P a - inf P a + 1).toNat = n
        have hpl : (ptsP P).length ≤ 40000 := Nat.le_trans (List.length_filter_le _ _) (latt_box_len hB (by omega))
        have stp : ∀ k, k < (ptsP P).length → ∀ (x y : Int),
            s_LayersOf_s7 (em a) (sup P a, inf P a) (ptsP P) (((ptsP P).take k).foldl (lay1 a (inf P a)) (List.replicate n 0), (k : Int)) = some (.inl (((ptsP P).take (k + 1)).foldl (lay1 a (inf P a)) (List.replicate n 0), ((k + 1 : Nat) : Int))) ∧
            i_LayersOf_s7 (em a) (ptsP P) (sup P (ngp a)) (((ptsP P).take k).foldl (lay1 a (inf P a)) (List.replicate n 0), (k : Int)) = some (.inl (((ptsP P).take (k + 1)).foldl (lay1 a (inf P a)) (List.replicate n 0), ((k + 1 : Nat) : Int))) := fun k hk x y => by
          have hg : (ptsP P)[k]? = some (ptsP P)[k] := List.getElem?_eq_getElem hk
          obtain ⟨q, eq, k1, k2⟩ := pts_range g3 hpol a (List.getElem_mem hk)
          have hq : Bd 50 q := by
            have := (List.mem_filter.1 (List.getElem_mem hk)).1
            obtain ⟨q', e', hq'⟩ := latt_box hB (by omega) _ this
            rw [eq] at e'
            rw [em_inj e']; exact hq'
          obtain ⟨d1, d2⟩ := dot_em (a := a) (b := q) (hb'.mono (by decide)) (hq.mono (by decide))
          have hll := lay1_len a (inf P a) ((ptsP P).take k) (List.replicate n 0)
          rw [List.length_replicate] at hll
          rw [foldl_take_succ _ hg, eq]
          generalize ((ptsP P).take k).foldl (lay1 a (inf P a)) (List.replicate n 0) = L at hll
          have hin : inIdx L.length (dt a q - inf P a) = some () := by unfold inIdx; rw [if_pos (by omega)]
          have hin2 : inIdx L.length (((dt a q - inf P a).toNat : Nat) : Int) = some () := by unfold inIdx; rw [if_pos (by omega)]
          have hix : idx L (((dt a q - inf P a).toNat : Nat) : Int) = some (L.getD (dt a q - inf P a).toNat 0) := by
            rw [idx_nat, List.getD_eq_getElem?_getD, List.getElem?_eq_getElem (by omega)]; rfl
          unfold s_LayersOf_s7 i_LayersOf_s7
          simp only
          rw [show decide ((k : Int) < ((ptsP P).length : Int)) = true from by simp; omega, cond_true, cond_true, idx_some hg, eq]
          simp only [Option.bind_some, d1, d2]
          rw [wrap_small (x := 0 - sup P (ngp a)) (by omega) (by omega), show dt a q - (0 - sup P (ngp a)) = dt a q - inf P a from by omega, wrap_small (x := dt a q - inf P a) (by omega) (by omega), hin]
          simp only [Option.bind_some, hix, hin2]
          rw [wrap_small (x := (k : Int) + 1) (by omega) (by omega)]
          simp only [lay1, toP_em]
          exact ⟨rfl, rfl⟩
        have X := iter_up (step := s_LayersOf_s7 (em a) (sup P a, inf P a) (ptsP P)) (ptsP P).length (fun k => (((ptsP P).take k).foldl (lay1 a (inf P a)) (List.replicate n 0), (k : Int))) ((ptsP P).foldl (lay1 a (inf P a)) (List.replicate n 0)) (fun k hk => (stp k hk 0 0).1) (by
          unfold s_LayersOf_s7; simp)
        have Y := iter_up (step := i_LayersOf_s7 (em a) (ptsP P) (sup P (ngp a))) (ptsP P).length (fun k => (((ptsP P).take k).foldl (lay1 a (inf P a)) (List.replicate n 0), (k : Int))) ((ptsP P).foldl (lay1 a (inf P a)) (List.replicate n 0)) (fun k hk => (stp k hk 0 0).2) (by
          unfold i_LayersOf_s7; simp)
        have e0 : ((List.replicate n 0, 0) : List Int × Int) = (((ptsP P).take 0).foldl (lay1 a (inf P a)) (List.replicate n 0), ((0 : Nat) : Int)) := rfl
        rw [e0, X, Y]
        have hls := lay_sum a (inf P a) (n := n) (ptsP P) (List.replicate n 0) 0 (by simp) (fun x hx => by rw [(List.mem_replicate.1 hx).2]; simp) (by omega) (fun v hv => by
          obtain ⟨q, eq, k1, k2⟩ := pts_range g3 hpol a hv
          rw [eq, toP_em]
          omega)
        refine ⟨_, rfl, rfl, by rw [lay1_len]; simp; omega, fun _ => ⟨ptsP P, ?_, ?_, fun x hx => ?_⟩⟩
        · unfold s_PolygonPoints
          rw [s_IsPolygon_eq hp.lim hp.eachLim, h1]
          simp only [Option.bind_some, Bool.not_true, cond_false, hA, decide_eq_false hc, hpts]
        · rw [hls.1, sum_zeros]
          omega
        · have := hls.2 x hx
          omega
end Go.Proofs.Ytampigdidkhigaa
