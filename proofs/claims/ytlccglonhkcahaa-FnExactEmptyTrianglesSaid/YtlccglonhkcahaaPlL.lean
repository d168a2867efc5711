/-
  Whole points of polygons in the program; layers. Plain, no condition.
-/
import Derived.Test.YtlccglonhkcahaaPlO
import Derived.Test.YtlccglonhkcahaaPlG
namespace Go.Proofs.Ytlccglonhkcahaa
open Go Go.Proofs.Ytlccglonhkcahaa.Eng
open Hull (Pt tn lx at_ at_some at_mem)
set_option linter.unusedVariables false
set_option linter.unusedSimpArgs false

theorem area_same (x : List (List Int)) : i_areaTwice x = s_l7Area x := rfl

theorem crs_bd {a b : Pt} (ha : Bd 50 a) (hb : Bd 50 b) : -5000 ≤ a.1 * b.2 - a.2 * b.1 ∧ a.1 * b.2 - a.2 * b.1 ≤ 5000 := by
  have h1 := abs_mul_le ha.1 ha.2.1 hb.2.2.1 hb.2.2.2
  have h2 := abs_mul_le ha.2.2.1 ha.2.2.2 hb.1 hb.2.1
  omega

theorem l7Cross_em {a b : Pt} (ha : Bd 50 a) (hb : Bd 50 b) : s_l7Cross (em a) (em b) = some (a.1 * b.2 - a.2 * b.1) := by
  have h1 := abs_mul_le ha.1 ha.2.1 hb.2.2.1 hb.2.2.2
  have h2 := abs_mul_le ha.2.2.1 ha.2.2.2 hb.1 hb.2.1
  unfold s_l7Cross
  simp only [(idx_em a).1, (idx_em a).2, (idx_em b).1, (idx_em b).2, Option.bind_some]
  rw [wrap_small (x := a.1 * b.2) (by omega) (by omega), wrap_small (x := a.2 * b.1) (by omega) (by omega), wrap_small (by omega) (by omega)]

theorem area_some {P : List Pt} (hB : ∀ q ∈ P, Bd 50 q) (hl : P.length ≤ 12) : ∃ A, s_l7Area (P.map em) = some A := by
  obtain ⟨y, e, _⟩ := iter_run (step := s_l7Area_s3 (P.map em)) (fun s => ∃ k : Nat, s.2 = (k : Int) ∧ k ≤ P.length ∧ -5000 * (k : Int) ≤ s.1 ∧ s.1 ≤ 5000 * (k : Int)) (fun s => P.length - s.2.toNat) (fun _ _ => True) (fun s hs => by
    obtain ⟨c, i⟩ := s
    obtain ⟨k, rfl, g1, g2, g3⟩ := hs
    simp only at g1 g2 g3
    unfold s_l7Area_s3
    simp only
    by_cases h : k < P.length
    · right
      have hj : (k + 1) % P.length < P.length := Nat.mod_lt _ (by omega)
      have hr : remI .i64 (IntKind.i64.wrap ((k : Int) + 1)) ((P.map em).length : Int) = some (((k + 1) % P.length : Nat) : Int) := by
        rw [wrap_small (by omega) (by omega), List.length_map]
        exact remP (j := k + 1) (by omega)
      have hc := crs_bd (hB _ (at_mem h)) (hB _ (at_mem hj))
      rw [show decide ((k : Int) < ((P.map em).length : Int)) = true from by simp; omega, cond_true, idxP h, hr]
      simp only [Option.bind_some]
      rw [idxP hj]
      simp only [Option.bind_some]
      rw [l7Cross_em (hB _ (at_mem h)) (hB _ (at_mem hj))]
      refine ⟨_, rfl, ⟨k + 1, ?_, by omega, ?_, ?_⟩, ?_, fun _ _ => trivial⟩
      · simp only; rw [wrap_small (by omega) (by omega)]; rfl
      · simp only; rw [wrap_small (by omega) (by omega)]; omega
      · simp only; rw [wrap_small (by omega) (by omega)]; omega
      · simp only; rw [wrap_small (x := (k : Int) + 1) (by omega) (by omega)]; omega
    · left
      rw [show decide ((k : Int) < ((P.map em).length : Int)) = false from by simp; omega, cond_false]
      exact ⟨_, rfl, trivial⟩) (0, 0) ⟨0, rfl, Nat.zero_le _, by simp, by simp⟩
  exact ⟨y, by unfold s_l7Area; rw [e]; rfl⟩

theorem at0_in {P : List Pt} (hp : Hull.Pol P) : inP P (at_ P 0) := by
  have h3 := hp.len
  intro k hk
  unfold sd
  by_cases h0 : k = 0
  · subst h0; rw [Hull.tn_aa]; exact Int.le_refl _
  · by_cases hl : k + 1 = P.length
    · rw [hl, Nat.mod_self, Hull.tn_bb]; exact Int.le_refl _
    · rw [Nat.mod_eq_of_lt (by omega)]
      have hc := (Hull.pol_chk h3).1 hp k hk
      unfold Hull.chk at hc
      simp only [Bool.and_eq_true, Bool.or_eq_true, decide_eq_true_eq, beq_iff_eq] at hc
      rcases hc.2 with h | h
      · exact absurd h h0
      · rcases h.2 with h | h
        · omega
        · rw [Hull.tn_cyc]; omega

theorem pts_ne {P : List Pt} (hp : Hull.Pol P) : ptsP P ≠ [] := by
  have h3 := hp.len
  have : em (at_ P 0) ∈ ptsP P := by
    unfold ptsP
    rw [List.mem_filter]
    refine ⟨latt2_mem.2 ⟨at_ P 0, rfl, ?_⟩, by rw [toP_em]; exact decide_eq_true (at0_in hp)⟩
    have hm : at_ P 0 ∈ P := at_mem (by omega)
    exact ⟨(lo_spec (·.1) (by omega)).1 _ hm, (hi_spec (·.1) (by omega)).1 _ hm, (lo_spec (·.2) (by omega)).1 _ hm, (hi_spec (·.2) (by omega)).1 _ hm⟩
  intro h
  rw [h] at this
  simp at this

/-- A point of the polygon goes no further than the corners. -/
theorem in_sup {P : List Pt} (h3 : 3 ≤ P.length) (hp : Hull.Pol P) (a : Pt) {q : Pt} (hq : inP P q) : dt a q ≤ sup P a := by
  obtain ⟨h1, V, hV, hs⟩ := hi_spec (dt a) (P := P) (by omega)
  have hs : sup P a = dt a V := hs
  have h1 : ∀ q ∈ P, dt a q ≤ sup P a := h1
  obtain ⟨k, hk, rfl⟩ := List.mem_iff_getElem.1 hV
  have hkV : at_ P k = P[k] := Hull.at_of (List.getElem?_eq_getElem hk)
  rw [← hkV] at hs
  have hj : (k + P.length - 1) % P.length < P.length := Nat.mod_lt _ (by omega)
  generalize hje : (k + P.length - 1) % P.length = j at hj
  have hj1 : (j + 1) % P.length = k := by
    rw [← hje, Nat.add_mod, Nat.mod_mod, ← Nat.add_mod, show k + P.length - 1 + 1 = k + P.length from by omega, Nat.add_mod_right, Nat.mod_eq_of_lt hk]
  have hj2 : (j + 2) % P.length = (k + 1) % P.length := by
    rw [show j + 2 = j + 1 + 1 from rfl, Nat.add_mod (j + 1), hj1, Nat.add_mod_mod]
  have hc := (Hull.pol_chk h3).1 hp j hj
  unfold Hull.chk at hc
  simp only [Bool.and_eq_true, decide_eq_true_eq] at hc
  have hc := hc.1
  rw [hj1, hj2] at hc
  have q1 := hq j hj
  have q2 := hq k hk
  unfold sd at q1 q2
  rw [hj1] at q1
  have hw : (k + 1) % P.length < P.length := Nat.mod_lt _ (by omega)
  have m1 := h1 _ (at_mem hj)
  have m2 := h1 _ (at_mem hw)
  rw [hs] at m1 m2 ⊢
  generalize at_ P j = U at hc q1 m1
  generalize at_ P ((k + 1) % P.length) = W at hc q2 m2
  generalize at_ P k = V at hc q1 q2 m1 m2
  unfold dt at m1 m2 ⊢
  unfold tn at hc q1 q2
  have e1 : ((V.1 - U.1) * (W.2 - U.2) - (V.2 - U.2) * (W.1 - U.1)) * ((a.1 * q.1 + a.2 * q.2) - (a.1 * V.1 + a.2 * V.2)) =
      ((V.1 - U.1) * (q.2 - U.2) - (V.2 - U.2) * (q.1 - U.1)) * ((a.1 * W.1 + a.2 * W.2) - (a.1 * V.1 + a.2 * V.2)) + ((W.1 - V.1) * (q.2 - V.2) - (W.2 - V.2) * (q.1 - V.1)) * ((a.1 * U.1 + a.2 * U.2) - (a.1 * V.1 + a.2 * V.2)) := by grind
  generalize (V.1 - U.1) * (W.2 - U.2) - (V.2 - U.2) * (W.1 - U.1) = X at e1 hc
  generalize (V.1 - U.1) * (q.2 - U.2) - (V.2 - U.2) * (q.1 - U.1) = Y at e1 q1
  generalize (W.1 - V.1) * (q.2 - V.2) - (W.2 - V.2) * (q.1 - V.1) = Z at e1 q2
  have n1 : Y * ((a.1 * W.1 + a.2 * W.2) - (a.1 * V.1 + a.2 * V.2)) ≤ 0 := Int.mul_nonpos_of_nonneg_of_nonpos q1 (by omega)
  have n2 : Z * ((a.1 * U.1 + a.2 * U.2) - (a.1 * V.1 + a.2 * V.2)) ≤ 0 := Int.mul_nonpos_of_nonneg_of_nonpos q2 (by omega)
  refine Int.not_lt.1 fun hlt => ?_
  have : 0 < X * ((a.1 * q.1 + a.2 * q.2) - (a.1 * V.1 + a.2 * V.2)) := Int.mul_pos hc (by omega)
  omega

theorem pts_range {P : List Pt} (h3 : 3 ≤ P.length) (hp : Hull.Pol P) (a : Pt) {v : List Int} (hv : v ∈ ptsP P) : ∃ q, v = em q ∧ dt a q ≤ sup P a ∧ inf P a ≤ dt a q := by
  unfold ptsP at hv
  rw [List.mem_filter] at hv
  obtain ⟨q, rfl, _⟩ := latt2_mem.1 hv.1
  have hq : inP P q := by
    have := of_decide_eq_true hv.2
    rwa [toP_em] at this
  have h1 := in_sup h3 hp a hq
  have h2 := in_sup h3 hp (ngp a) hq
  rw [inf_sup, dt_ngp] at h2
  exact ⟨q, rfl, h1, by omega⟩

/-- One more point in a layer. -/
def lay1 (a : Pt) (m : Int) (L : List Int) (v : List Int) : List Int := L.set (dt a (toP v) - m).toNat (IntKind.i64.wrap (L.getD (dt a (toP v) - m).toNat 0 + 1))
theorem lay1_len (a : Pt) (m : Int) : (l : List (List Int)) → (L : List Int) → (l.foldl (lay1 a m) L).length = L.length
  | [], _ => rfl
  | v :: l, L => by rw [List.foldl_cons, lay1_len a m l]; simp [lay1]

end Go.Proofs.Ytlccglonhkcahaa
