/-
  Plain: the corners of a sail. No condition.
-/
import Derived.Test.YtdkkjgbgodnopaaPlV
import Derived.Test.YtdkkjgbgodnopaaPlMs
namespace Go.Proofs.Ytdkkjgbgodnopaa
open Go Go.Proofs.Ytdkkjgbgodnopaa.Eng
set_option linter.unusedVariables false
set_option linter.unusedSimpArgs false

/-- Where the turns are greater than 2. -/
def cposN : Nat → List Int → List Nat
  | _, [] => []
  | k, t :: r => if 2 < t then (k + 1) :: cposN (k + 1) r else cposN (k + 1) r

theorem cpos_cast : ∀ (r : List Int) (k : Nat), cpos k r = (cposN k r).map fun (n : Nat) => (n : Int)
  | [], k => rfl
  | t :: r, k => by
    simp only [cpos, cposN, cpos_cast r (k + 1)]
    split <;> rfl

theorem cposN_mem : ∀ (r : List Int) (k : Nat), (cposN k r).length ≤ r.length ∧ (∀ z ∈ cposN k r, k < z ∧ z ≤ k + r.length) ∧ (cposN k r).Nodup
  | [], k => by simp [cposN]
  | t :: r, k => by
    obtain ⟨h1, h2, h3⟩ := cposN_mem r (k + 1)
    simp only [cposN]
    split
    · refine ⟨by simp; omega, fun z hz => ?_, ?_⟩
      · rcases List.mem_cons.1 hz with rfl | hz
        · simp
        · have := h2 z hz; simp; omega
      · rw [List.nodup_cons]
        exact ⟨fun hm => by have := (h2 _ hm).1; omega, h3⟩
    · refine ⟨by simp; omega, fun z hz => ?_, h3⟩
      have := h2 z hz; simp; omega

def cidx (T : List Int) : List Nat := 0 :: (cposN 0 T ++ [T.length + 1])

theorem cidx_ok (T : List Int) : (cidx T).Nodup ∧ (cidx T).length ≤ T.length + 2 ∧ ∀ z ∈ cidx T, z < T.length + 2 := by
  obtain ⟨h1, h2, h3⟩ := cposN_mem T 0
  unfold cidx
  refine ⟨?_, by simp; omega, fun z hz => ?_⟩
  · rw [List.nodup_cons, List.nodup_append]
    refine ⟨fun hm => ?_, h3, by simp, fun a ha b hb hab => ?_⟩
    · rcases List.mem_append.1 hm with hm | hm
      · have := (h2 _ hm).1; omega
      · simp at hm
    · simp at hb
      have := (h2 a ha).2
      omega
  · rcases List.mem_cons.1 hz with rfl | hz
    · omega
    · rcases List.mem_append.1 hz with hz | hz
      · have := (h2 z hz).2; omega
      · simp at hz; omega

theorem app24 {α : Type} {out : List α} {z : α} (h : out.length ≤ 10000) : appD 24 out [z] = some (out ++ [z]) := by rw [appD_some (by rw [lim_eq]; simp; omega) (by rw [lim_eq]; simp; omega)]

theorem i_pick {L : List (List Int)} {I : List Nat} (hI : ∀ z ∈ I, z < L.length) (hl : I.length ≤ 10000) (hL : L.length ≤ 10000) : ∀ (r pre : List Nat), I = pre ++ r → iter (i_SailCorners_s4 L (I.map fun (n : Nat) => (n : Int))) ((pre.length : Int), pre) = some I
  | [], pre, hT => by
    have hd : decide ((pre.length : Int) < ((I.map fun (n : Nat) => (n : Int)).length : Int)) = false := by rw [hT]; simp
    rw [iter_end (y := pre) (by simp only [i_SailCorners_s4, hd, cond_false])]
    rw [hT, List.append_nil]
  | z :: r, pre, hT => by
    have hlen : I.length = pre.length + 1 + r.length := by rw [hT]; simp; omega
    have hd : decide ((pre.length : Int) < ((I.map fun (n : Nat) => (n : Int)).length : Int)) = true := by rw [hT]; simp; omega
    have hz : z < L.length := hI z (by rw [hT]; simp)
    have hk : (I.map fun (n : Nat) => (n : Int))[pre.length]? = some (z : Int) := by rw [hT]; simp
    have w1 : IntKind.i64.wrap ((pre.length : Int) + 1) = (((pre ++ [z]).length : Nat) : Int) := by rw [wrap_id (by omega) (by omega)]; simp
    rw [iter_next (s' := ((((pre ++ [z]).length : Nat) : Int), pre ++ [z])) (by
      simp only [i_SailCorners_s4, hd, cond_true, idx_some hk, Option.bind_some, inIdx_nat hz, Int.toNat_natCast, if_pos hz, app24 (out := pre) (z := z) (by omega), w1])]
    exact i_pick hI hl hL r (pre ++ [z]) (by rw [hT]; simp)

theorem s_corn {T : List Int} {L : List (List Int)} (hl : T.length ≤ 1801) (hL : L.length = T.length + 2) (hv : ∀ u ∈ L, u.length = 2) : ∀ (r pre : List Int) (out : List (List Int)), T = pre ++ r → out.length ≤ pre.length + 1 →
    iter (s_SailCorners_s5 L T) (out, ((pre.length + 1 : Nat) : Int)) = some (out ++ pickU L (cposN pre.length r ++ [T.length + 1])) := by
  have get : ∀ k, k < L.length → ∃ u, L[k]? = some u ∧ appD 8 ([] : List Int) u = some u := fun k hk => by
    refine ⟨L[k], List.getElem?_eq_getElem hk, ?_⟩
    have := hv _ (List.getElem_mem hk)
    rw [appD_some (by rw [lim_eq]; simp; omega) (by rw [lim_eq]; simp; omega)]; rfl
  have w0 : IntKind.i64.wrap ((L.length : Int) - 1) = ((T.length + 1 : Nat) : Int) := by rw [hL, wrap_id (by omega) (by omega)]; omega
  intro r
  induction r with
  | nil =>
    intro pre out hT ho
    rw [List.append_nil] at hT
    subst hT
    obtain ⟨u, hu, ha⟩ := get (T.length + 1) (by omega)
    have hd : decide (((T.length + 1 : Nat) : Int) < (L.length : Int)) = true := by rw [hL]; simp
    have hd2 : decide (((T.length + 2 : Nat) : Int) < (L.length : Int)) = false := by rw [hL]; simp
    have e0 : (((T.length + 1 : Nat) : Int) == 0) = false := by simp; omega
    have w1 : IntKind.i64.wrap (((T.length + 1 : Nat) : Int) + 1) = ((T.length + 2 : Nat) : Int) := by rw [wrap_id (by omega) (by omega)]; omega
    rw [iter_next (s' := (out ++ [u], ((T.length + 2 : Nat) : Int))) (by simp only [s_SailCorners_s5, hd, cond_true, e0, cond_false, w0, beq_self_eq_true, idx_some hu, Option.bind_some, ha, app24 (out := out) (z := u) (by omega), w1])]
    rw [iter_end (y := out ++ [u]) (by simp only [s_SailCorners_s5, hd2, cond_false])]
    simp [cposN, pickU, hu]
  | cons t r ih =>
    intro pre out hT ho
    have hlen : T.length = pre.length + 1 + r.length := by rw [hT]; simp; omega
    have hk : T[pre.length]? = some t := by rw [hT]; simp
    obtain ⟨u, hu, ha⟩ := get (pre.length + 1) (by omega)
    have hd : decide (((pre.length + 1 : Nat) : Int) < (L.length : Int)) = true := by rw [hL]; simp; omega
    have e0 : (((pre.length + 1 : Nat) : Int) == 0) = false := by simp; omega
    have e1 : (((pre.length + 1 : Nat) : Int) == ((T.length + 1 : Nat) : Int)) = false := by simp; omega
    have w1 : IntKind.i64.wrap (((pre.length + 1 : Nat) : Int) + 1) = ((pre.length + 1 + 1 : Nat) : Int) := by rw [wrap_id (by omega) (by omega)]; simp
    have w2 : IntKind.i64.wrap (((pre.length + 1 : Nat) : Int) - 1) = (pre.length : Int) := by rw [wrap_id (by omega) (by omega)]; omega
    have hpl : (pre ++ [t]).length = pre.length + 1 := by simp
    by_cases h : 2 < t
    · have dt : decide (t > 2) = true := by simpa using h
      rw [iter_next (s' := (out ++ [u], ((pre.length + 1 + 1 : Nat) : Int))) (by simp only [s_SailCorners_s5, hd, cond_true, e0, cond_false, w0, e1, w2, idx_some hk, Option.bind_some, dt, idx_some hu, ha, app24 (out := out) (z := u) (by omega), w1])]
      have := ih (pre ++ [t]) (out ++ [u]) (by rw [hT]; simp) (by simp; omega)
      rw [hpl] at this
      rw [this]
      simp [cposN, if_pos h, pickU, hu]
    · have dt : decide (t > 2) = false := by simpa using h
      rw [iter_next (s' := (out, ((pre.length + 1 + 1 : Nat) : Int))) (by simp only [s_SailCorners_s5, hd, cond_true, e0, cond_false, w0, e1, w2, idx_some hk, Option.bind_some, dt, w1])]
      have := ih (pre ++ [t]) out (by rw [hT]; simp) (by simp; omega)
      rw [hpl] at this
      rw [this]
      simp [cposN, if_neg h]

theorem sailCorners_full {c : Cn} (h1 : c.1.length ≤ lim) (h2 : c.2.length ≤ lim) : ∃ r : List (List Int), s_SailCorners c = some r ∧ i_SailCorners c = some r ∧ r.length ≤ 2000 ∧ (∀ v ∈ r, v.length = 2) ∧ (isCn c = false → r = []) ∧ (isCn c = true → ∀ L, i_SplitCone c = some L → r = pickU L (cidx (turns L)) ∧ 2 ≤ L.length) := by
  obtain ⟨L, q1, q2, q3, q4, q5⟩ := split_eq h1 h2
  obtain ⟨L', r1, r2, h⟩ := split_chn h1 h2
  rw [q1] at r1
  obtain rfl := Option.some.inj r1
  have q1 : s_SplitCone (c.1, c.2) = some L := q1
  have q2 : i_SplitCone (c.1, c.2) = some L := q2
  have t1 : s_TurnsOf (c.1, c.2) = some (turns L) := by simp only [s_TurnsOf, q1, Option.bind_some, s_TurnsOf_eq h]
  have t2 : i_TurnsOf (c.1, c.2) = some (turns L) := by simp only [i_TurnsOf, q2, Option.bind_some, i_TurnsOf_eq h]
  simp only [s_SailCorners, i_SailCorners, i_corners, q1, q2, t1, t2, i_IsCone_eq (c := (c.1, c.2)) h1 h2, Option.bind_some]
  cases hb : isCn (c.1, c.2)
  · have hL := q4 hb
    subst hL
    refine ⟨[], ?_, ?_, by simp, by simp, fun _ => rfl, fun h => by cases h⟩
    · have : iter (s_SailCorners_s5 [] (turns [])) ([], 0) = some ([] : List (List Int)) := iter_end rfl
      rw [this]; rfl
    · simp only [Bool.not_false, cond_true, Option.bind_some]
      have : iter (i_SailCorners_s4 [] []) (0, []) = some ([] : List Nat) := iter_end rfl
      rw [this]; rfl
  · obtain ⟨x, y, hxy, hpv, hch, hhd⟩ := q5 hb
    have hlen2 : 2 ≤ L.length := by
      match L, hch, hhd with
      | [u], hch, hhd =>
        exfalso
        obtain ⟨a, b, rfl, _, hcr⟩ := hch
        have hc1 : c.1 = [a, b] := by simpa using hhd.symm
        have : 0 < crsL c.1 c.2 := by
          have hb : isCn c = true := hb
          simp only [isCn, Bool.and_eq_true, decide_eq_true_eq] at hb
          exact hb.2
        rw [hc1, hxy] at this
        have e : crsL [a, b] [x, y] = crs a b x y := rfl
        rw [e, hcr] at this
        omega
      | u :: u' :: r, _, _ => simp
    have hTl : (turns L).length = L.length - 2 := by simp [turns]
    have hv : ∀ u ∈ L, u.length = 2 := fun u hu => by
      obtain ⟨a, b, rfl, _⟩ := h.pv u hu; rfl
    have hT := h.len
    have hc := i_corn (T := turns L) (by omega) (turns L) [] [0] rfl (by simp)
    have hc : iter (i_corners_s6 (turns L)) ([0], 0) = some ([0] ++ cpos 0 (turns L)) := hc
    obtain ⟨m1, m2⟩ := cpos_mem (turns L) 0
    have hw : IntKind.i64.wrap (((turns L).length : Int) + 1) = (((turns L).length + 1 : Nat) : Int) := by rw [wrap_id (by omega) (by omega)]; omega
    have ha := app_one (out := [0] ++ cpos 0 (turns L)) (z := (((turns L).length + 1 : Nat) : Int)) (by simp; omega)
    obtain ⟨c1, c2, c3⟩ := cidx_ok (turns L)
    have hC : [0] ++ cpos 0 (turns L) ++ [(((turns L).length + 1 : Nat) : Int)] = (cidx (turns L)).map fun (n : Nat) => (n : Int) := by
      rw [cpos_cast]; simp [cidx]
    have hp := i_pick (L := L) (I := cidx (turns L)) (fun z hz => by have := c3 z hz; omega) (by omega) (by omega) (cidx (turns L)) [] rfl
    have hp : iter (i_SailCorners_s4 L ((cidx (turns L)).map fun (n : Nat) => (n : Int))) (0, []) = some (cidx (turns L)) := hp
    obtain ⟨u0, hu0⟩ : ∃ u, L[0]? = some u := ⟨_, List.getElem?_eq_getElem (by omega)⟩
    have hs0 : iter (s_SailCorners_s5 L (turns L)) ([], 0) = some (pickU L (cidx (turns L))) := by
      have hd : decide ((0 : Int) < (L.length : Int)) = true := by simp; omega
      have ha : appD 8 ([] : List Int) u0 = some u0 := by
        have := hv u0 (List.mem_of_getElem? hu0)
        rw [appD_some (by rw [lim_eq]; simp; omega) (by rw [lim_eq]; simp; omega)]; rfl
      have hi0 : idx L 0 = some u0 := idx_some (k := 0) hu0
      have w1 : IntKind.i64.wrap ((0 : Int) + 1) = 1 := rfl
      rw [iter_next (s' := ([u0], 1)) (by simp only [s_SailCorners_s5, hd, cond_true, beq_self_eq_true, hi0, Option.bind_some, ha, app24 (out := ([] : List (List Int))) (z := u0) (by simp), w1, List.nil_append])]
      have := s_corn (T := turns L) (L := L) (by omega) (by omega) hv (turns L) [] [u0] rfl (by simp)
      have this : iter (s_SailCorners_s5 L (turns L)) ([u0], 1) = some ([u0] ++ pickU L (cposN 0 (turns L) ++ [(turns L).length + 1])) := this
      rw [this]
      simp [cidx, pickU, hu0]
    refine ⟨pickU L (cidx (turns L)), ?_, ?_, by simp [pickU]; omega, fun v hv' => ?_, (fun h => by cases h), fun _ L' hL' => (by
      obtain rfl := Option.some.inj hL'
      exact ⟨rfl, hlen2⟩)⟩
    · rw [hs0]; rfl
    · simp only [Bool.not_true, cond_false, hc, hw, ha, Option.bind_some, hC, hp, if_pos c1]
    · unfold pickU at hv'
      obtain ⟨i, hi, rfl⟩ := List.mem_map.1 hv'
      have := c3 i hi
      rw [List.getElem?_eq_getElem (by omega)]
      exact hv _ (List.getElem_mem _)

theorem sailCorners_eq {c : Cn} (h1 : c.1.length ≤ lim) (h2 : c.2.length ≤ lim) : ∃ r : List (List Int), s_SailCorners c = some r ∧ i_SailCorners c = some r ∧ r.length ≤ 2000 ∧ ∀ v ∈ r, v.length = 2 := by
  obtain ⟨r, a1, a2, a3, a4, _⟩ := sailCorners_full h1 h2
  exact ⟨r, a1, a2, a3, a4⟩

theorem sum2 : ∀ {r : List (List Int)}, (∀ v ∈ r, v.length = 2) → (r.map List.length).sum = 2 * r.length
  | [], _ => rfl
  | x :: r, h => by
    rw [List.map_cons, List.sum_cons, sum2 fun v hv => h v (List.mem_cons_of_mem _ hv), h x (by simp), List.length_cons]
    omega

end Go.Proofs.Ytdkkjgbgodnopaa
