/-
  Plain: what is drawn for rays. No condition.
-/
import Derived.Test.YtdkkjgbgodnopaaPlDr
import Derived.Test.YtdkkjgbgodnopaaPlT
namespace Go.Proofs.Ytdkkjgbgodnopaa
open Go Go.Proofs.Ytdkkjgbgodnopaa.Eng
set_option linter.unusedVariables false
set_option linter.unusedSimpArgs false

theorem below_all {s : Cur} (h : CurOk s) {n : Int} (hn : n ≤ 1000000) : ∃ (x : Int) (s' : Cur), s_l1Below s n = some (x, (s', ())) ∧ CurOk s' ∧ 0 ≤ x ∧ (0 < n → x < n) := by
  by_cases h256 : n ≤ 256
  · obtain ⟨x, s', h1, h2, h3, _, h4⟩ := below_ok h h256
    exact ⟨x, s', h1, h2, h3, h4⟩
  · unfold s_l1Below
    rw [show decide (n ≤ 0) = false from by simp; omega, cond_false, show decide (n ≤ 256) = false from by simp; omega, cond_false]
    obtain ⟨x1, s1, a1, a2, a3, a4⟩ := byte_ok h
    obtain ⟨x2, s2, b1, b2, b3, b4⟩ := byte_ok a2
    obtain ⟨x3, s3, c1, c2, c3, c4⟩ := byte_ok b2
    obtain ⟨x4, s4, d1, d2, d3, d4⟩ := byte_ok c2
    have a1 : s_l1Byte (s.1, s.2.1, s.2.2) = some (x1, (s1, ())) := a1
    have b1 : s_l1Byte (s1.1, s1.2.1, s1.2.2) = some (x2, (s2, ())) := b1
    have c1 : s_l1Byte (s2.1, s2.2.1, s2.2.2) = some (x3, (s3, ())) := c1
    have d1 : s_l1Byte (s3.1, s3.2.1, s3.2.2) = some (x4, (s4, ())) := d1
    have w1 : IntKind.i64.wrap (x1 * 16777216) = x1 * 16777216 := wrap_id (by omega) (by omega)
    have w2 : IntKind.i64.wrap (x2 * 65536) = x2 * 65536 := wrap_id (by omega) (by omega)
    have w3 : IntKind.i64.wrap (x3 * 256) = x3 * 256 := wrap_id (by omega) (by omega)
    have w4 : IntKind.i64.wrap (x1 * 16777216 + x2 * 65536) = x1 * 16777216 + x2 * 65536 := wrap_id (by omega) (by omega)
    have w5 : IntKind.i64.wrap (x1 * 16777216 + x2 * 65536 + x3 * 256) = x1 * 16777216 + x2 * 65536 + x3 * 256 := wrap_id (by omega) (by omega)
    have w6 : IntKind.i64.wrap (x1 * 16777216 + x2 * 65536 + x3 * 256 + x4) = x1 * 16777216 + x2 * 65536 + x3 * 256 + x4 := wrap_id (by omega) (by omega)
    simp only [a1, b1, c1, d1, Option.bind_some, w1, w2, w3, w4, w5, w6, remI_some (a := x1 * 16777216 + x2 * 65536 + x3 * 256 + x4) (b := n) (by omega)]
    exact ⟨_, s4, rfl, d2, Int.tmod_nonneg n (by omega), fun h => Int.tmod_lt_of_pos _ h⟩

theorem scale_len {v : List Int} (hl : v.length ≤ 1000) (n : Int) : ∃ z, s_l2Scale v n = some z ∧ z.length = v.length := by
  obtain ⟨y, e, hy⟩ := iter_run (step := s_l2Scale_s3 v n) (fun t => 0 ≤ t.2 ∧ t.2 ≤ v.length ∧ t.1.length = t.2.toNat) (fun t => (v.length - t.2).toNat) (fun _ y => y.length = v.length) (fun t ht => by
    obtain ⟨o, k⟩ := t
    obtain ⟨g1, g2, g3⟩ := ht
    simp only at g1 g2 g3
    unfold s_l2Scale_s3
    simp only
    by_cases hk : k < v.length
    · right
      rw [show decide (k < (v.length : Int)) = true from by simpa using hk, cond_true]
      obtain ⟨x, hx, _⟩ := idx_int g1 hk
      have wk : IntKind.i64.wrap (k + 1) = k + 1 := wrap_id (by omega) (by omega)
      rw [hx]
      simp only [Option.bind_some, wk]
      rw [appD_some (by rw [lim_eq]; simp; omega) (by rw [lim_eq]; simp; omega)]
      exact ⟨_, rfl, ⟨by simp only; omega, by simp only; omega, by simp; omega⟩, by simp only; omega, fun _ h => h⟩
    · left
      rw [show decide (k < (v.length : Int)) = false from by simpa using hk, cond_false]
      exact ⟨_, rfl, by omega⟩) ([], 0) ⟨by simp, by simp, by simp⟩
  unfold s_l2Scale
  rw [e]
  exact ⟨y, rfl, hy⟩

theorem add_len {v w : List Int} (hl : v.length ≤ 1000) (hw : w.length = v.length) : ∃ z, s_l2Add v w = some z ∧ z.length = v.length := by
  obtain ⟨y, e, hy⟩ := iter_run (step := s_l2Add_s3 v w) (fun t => 0 ≤ t.2 ∧ t.2 ≤ v.length ∧ t.1.length = t.2.toNat) (fun t => (v.length - t.2).toNat) (fun _ y => y.length = v.length) (fun t ht => by
    obtain ⟨o, k⟩ := t
    obtain ⟨g1, g2, g3⟩ := ht
    simp only at g1 g2 g3
    unfold s_l2Add_s3
    simp only
    by_cases hk : k < v.length
    · right
      rw [show decide (k < (v.length : Int)) = true from by simpa using hk, cond_true]
      obtain ⟨x, hx, _⟩ := idx_int g1 hk
      obtain ⟨x', hx', _⟩ := idx_int (xs := w) g1 (by omega)
      have wk : IntKind.i64.wrap (k + 1) = k + 1 := wrap_id (by omega) (by omega)
      rw [hx]
      simp only [Option.bind_some, hx', wk]
      rw [appD_some (by rw [lim_eq]; simp; omega) (by rw [lim_eq]; simp; omega)]
      exact ⟨_, rfl, ⟨by simp only; omega, by simp only; omega, by simp; omega⟩, by simp only; omega, fun _ h => h⟩
    · left
      rw [show decide (k < (v.length : Int)) = false from by simpa using hk, cond_false]
      exact ⟨_, rfl, by omega⟩) ([], 0) ⟨by simp, by simp, by simp⟩
  unfold s_l2Add
  rw [e]
  exact ⟨y, rfl, hy⟩

theorem drawDual_ok {code : List Int} (hc : code.length ≤ 1048576) : ∃ c : List Int × List Int, s_DrawDualCone code = some c ∧ c.1.length ≤ 3 ∧ c.2.length ≤ 3 := by
  have e : s_DrawDualCone_s44_3 code = s_DrawSailCorners_s44_3 code := rfl
  unfold s_DrawDualCone
  obtain ⟨y, h⟩ := new_loop hc (IntKind.i64.wrap (26583 + (code.length : Int)))
  rw [e, h]
  simp only [Option.bind_some]
  obtain ⟨x, s', h1, _, h3, h4⟩ := l9Bent_ok (s := (code, (0, y))) ⟨by simp, by simp, hc⟩
  rw [h1]
  exact ⟨_, rfl, h3, h4⟩

theorem drawMeet_ok {code : List Int} (hc : code.length ≤ 1048576) : ∃ a b : List Int × List Int, s_DrawMeetCones code = some (a, b) ∧ a.1.length ≤ 3 ∧ a.2.length ≤ 3 ∧ b.1.length ≤ 3 ∧ b.2.length ≤ 3 := by
  have e : s_DrawMeetCones_s44_3 code = s_DrawSailCorners_s44_3 code := rfl
  unfold s_DrawMeetCones
  obtain ⟨y, h⟩ := new_loop hc (IntKind.i64.wrap (26583 + (code.length : Int)))
  rw [e, h]
  simp only [Option.bind_some]
  obtain ⟨x, s', h1, h2, h3, h4⟩ := l9Bent_ok (s := (code, (0, y))) ⟨by simp, by simp, hc⟩
  obtain ⟨x', s2, g1, _, g3, g4⟩ := l9Bent_ok h2
  have g1 : s_l9Bent (s'.1, s'.2.1, s'.2.2) = some (x', (s2, ())) := g1
  rw [h1]
  simp only [Option.bind_some, g1]
  exact ⟨_, _, rfl, h3, h4, g3, g4⟩

theorem case_loop {L : List (List Int)} (h : Chn L) (h0 : 0 < L.length) {z : List Int × List Int} {s : Cur} (hs : CurOk s) : ∃ y, iter (s_l22Case_s7 L) (z, (s, ([0, 0], 0))) = some y ∧ y.2.length = 2 := by
  obtain ⟨y, e, hy⟩ := iter_run (step := s_l22Case_s7 L) (fun t => CurOk t.2.1 ∧ t.2.2.1.length = 2 ∧ 0 ≤ t.2.2.2 ∧ t.2.2.2 ≤ 2) (fun t => (2 - t.2.2.2).toNat) (fun _ y => y.2.length = 2) (fun t ht => by
    obtain ⟨z, c, v, k⟩ := t
    obtain ⟨g1, g2, g3, g4⟩ := ht
    simp only at g1 g2 g3 g4
    unfold s_l22Case_s7
    simp only
    by_cases hk : k < 2
    · right
      rw [show decide (k < 2) = true from by simpa using hk, cond_true]
      have hl := h.len
      obtain ⟨i, c1, q1, q2, q3, q4⟩ := below_all g1 (n := L.length) (by omega)
      have q1 : s_l1Below (c.1, c.2.1, c.2.2) L.length = some (i, (c1, ())) := q1
      obtain ⟨u, hu, hm⟩ := idx_int (xs := L) q3 (q4 (by omega))
      obtain ⟨a, b, rfl, _⟩ := h.pv u hm
      obtain ⟨n, c2, r1, r2, _⟩ := below_all q2 (n := 3) (by omega)
      have r1 : s_l1Below (c1.1, c1.2.1, c1.2.2) 3 = some (n, (c2, ())) := r1
      obtain ⟨z1, hz1, hz2⟩ := scale_len (v := [a, b]) (by simp) n
      have hz2 : z1.length = 2 := hz2
      obtain ⟨z3, hz3, hz4⟩ := add_len (v := v) (w := z1) (by omega) (by omega)
      have wk : IntKind.i64.wrap (k + 1) = k + 1 := wrap_id (by omega) (by omega)
      simp only [q1, hu, r1, hz1, hz3, wk, Option.bind_some]
      exact ⟨_, rfl, ⟨r2, by simp only; omega, by simp only; omega, by simp only; omega⟩, by simp only; omega, fun _ h => h⟩
    · left
      rw [show decide (k < 2) = false from by simpa using hk, cond_false]
      exact ⟨_, rfl, g2⟩) (z, (s, ([0, 0], 0))) ⟨hs, rfl, by simp, by simp⟩
  exact ⟨y, e, hy⟩

theorem tail_ok {s : Cur} (hs : CurOk s) : ∃ (b : Bool) (s2 : Cur) (z : Int) (v : List Int) (s4 : Cur), s_l1Once (s.1, s.2.1, s.2.2) 14 = some (b, (s2, ())) ∧ s_l1Bit b = some z ∧ s_l2Draw (s2.1, s2.2.1, s2.2.2) (IntKind.i64.wrap (2 + z)) 8 = some (v, (s4, ())) ∧ v.length ≤ 3 := by
  obtain ⟨b, s2, k1, k2⟩ := once_ok hs (n := 14) (by omega)
  obtain ⟨z, hz, z0, z1⟩ := bit_ok b
  have w : IntKind.i64.wrap (2 + z) = 2 + z := wrap_id (by omega) (by omega)
  obtain ⟨v, s4, m1, m2, m3, _⟩ := draw_ok k2 (n := 2 + z) (size := 8) (by omega) (by omega) (by omega) (by omega)
  exact ⟨b, s2, z, v, s4, k1, hz, by rw [w]; exact m1, by omega⟩

theorem split_pos {c : Cn} (l1 : c.1.length ≤ lim) (l2 : c.2.length ≤ lim) (hb : isCn c = true) : ∃ L, s_SplitCone (c.1, c.2) = some L ∧ Chn L ∧ 0 < L.length := by
  obtain ⟨L, q1, q2, q3, q4, q5⟩ := split_eq (c := (c.1, c.2)) l1 l2
  obtain ⟨x, y, _, _, hch, hhd⟩ := q5 hb
  refine ⟨L, q1, ⟨q3, hch.pv, hch.one⟩, ?_⟩
  cases L with
  | nil => simp at hhd
  | cons _ _ => simp

theorem case_ok {code : List Int} (hc : code.length ≤ 1048576) : ∃ (c : List Int × List Int) (x : List Int), s_l22Case code = some (c, x) ∧ c.1.length ≤ 3 ∧ c.2.length ≤ 3 ∧ x.length ≤ 3 := by
  have e : s_l22Case_s44_3 code = s_DrawSailCorners_s44_3 code := rfl
  unfold s_l22Case
  obtain ⟨y, h⟩ := new_loop hc (IntKind.i64.wrap (26583 + (code.length : Int)))
  rw [e, h]
  generalize hy : y = y0
  clear h e hy
  simp only [Option.bind_some]
  obtain ⟨c, s1, h1, h2, h3, h4⟩ := l9Bent_ok (s := (code, (0, y0))) ⟨by simp, by simp, hc⟩
  have l1 : c.1.length ≤ lim := by rw [lim_eq]; omega
  have l2 : c.2.length ≤ lim := by rw [lim_eq]; omega
  have hic : s_IsCone (c.1, c.2) = some (isCn c) := s_IsCone_eq (c := (c.1, c.2)) l1 l2
  rw [h1]
  simp only [Option.bind_some, hic]
  cases hb : isCn c with
  | false =>
    obtain ⟨b, s2, z, v, s4, k1, k2, k3, hx⟩ := tail_ok h2
    simp only [cond_false, k1, k2, k3, Option.bind_some]
    exact ⟨(c.1, c.2), v, rfl, h3, h4, hx⟩
  | true =>
    obtain ⟨b, s2, k1, k2⟩ := once_ok h2 (n := 4) (by omega)
    have k1 : s_l1Once (s1.1, s1.2.1, s1.2.2) 4 = some (b, (s2, ())) := k1
    rw [cond_true, k1, Option.bind_some]
    cases b with
    | false =>
      obtain ⟨L, q1, hn, hpos⟩ := split_pos l1 l2 hb
      obtain ⟨p0, p1, p2⟩ := s2
      obtain ⟨y1, hy1, hy2⟩ := case_loop hn hpos (z := (([] : List Int), ([] : List Int))) k2
      simp only [Bool.not_false, cond_true, q1, hy1, Option.bind_some]
      exact ⟨(c.1, c.2), y1.2, rfl, h3, h4, by omega⟩
    | true =>
      obtain ⟨b, s3, z, v, s4, m1, m2, m3, hx⟩ := tail_ok k2
      simp only [Bool.not_true, cond_false, m1, m2, m3, Option.bind_some]
      exact ⟨(c.1, c.2), v, rfl, h3, h4, hx⟩

theorem drawExpress_ok {code : List Int} (hc : code.length ≤ 1048576) : ∃ (c : List Int × List Int) (x : List Int), s_DrawExpressIn code = some (c, x) ∧ c.1.length ≤ 3 ∧ c.2.length ≤ 3 ∧ x.length ≤ 3 := by
  obtain ⟨c, x, h1, h2, h3, h4⟩ := case_ok hc
  unfold s_DrawExpressIn
  rw [h1]
  exact ⟨(c.1, c.2), x, rfl, h2, h3, h4⟩

end Go.Proofs.Ytdkkjgbgodnopaa
