/-
  Plain: the draws of polygons with reflexive ones among them end. No condition.
-/
import Derived.Test.YtgbkkmidloeciaaGreatPlSa
import Derived.Test.YtgbkkmidloeciaaGreatPlPd
namespace Go.Proofs.YtgbkkmidloeciaaGreat
open Go Go.Proofs.YtgbkkmidloeciaaGreat.Eng
set_option linter.unusedVariables false
set_option linter.unusedSimpArgs false
/-! Totals. -/
theorem pickS_ok {s : Cur} (h : CurOk s) {l : List ByteArray} (h0 : 0 < l.length) (hl : l.length ≤ 256) : ∃ (x : ByteArray) (s' : Cur), s_l1Pick s l = some (x, (s', ())) ∧ CurOk s' ∧ x ∈ l := by
  obtain ⟨x, s', h1, h2, h3, _, h4⟩ := below_ok h (n := l.length) (by omega)
  have h1 : s_l1Below (s.1, s.2.1, s.2.2) l.length = some (x, (s', ())) := h1
  obtain ⟨v, hv, hm⟩ := idx_int (xs := l) h3 (h4 (by omega))
  unfold s_l1Pick
  rw [h1]
  simp only [Option.bind_some, hv]
  exact ⟨v, s', rfl, h2, hm⟩
theorem a8 {xs : List Int} {b : Nat} {y : Int} (hb : b ≤ 24) (h : xs.length ≤ 10) : appD b xs [y] = some (xs ++ [y]) := appD_some (by
  have : (xs.length + [y].length) * b ≤ 11 * 24 := Nat.mul_le_mul (by simp; omega) hb
  rw [lim_eq]; omega) (by rw [lim_eq]; simp; omega)
theorem a24 {xs : List (List Int)} {y : List Int} (h : xs.length ≤ 100) : appD 24 xs [y] = some (xs ++ [y]) := appD_some (by rw [lim_eq]; simp; omega) (by rw [lim_eq]; simp; omega)
theorem w01 : IntKind.i64.wrap (0 + 1) = 1 := wrap_id (by omega) (by omega)
theorem w11 : IntKind.i64.wrap (1 + 1) = 2 := wrap_id (by omega) (by omega)
theorem scale2_ok (a b c : Int) : ∃ x y, s_l2Scale [a, b] c = some [x, y] := by
  refine ⟨IntKind.i64.wrap (a * c), IntKind.i64.wrap (b * c), ?_⟩
  unfold s_l2Scale
  have s1 : s_l2Scale_s3 [a, b] c ([], 0) = some (.inl ([IntKind.i64.wrap (a * c)], 1)) := by
    simp only [s_l2Scale_s3]
    rw [show decide ((0 : Int) < (([a, b] : List Int).length : Int)) = true from by simp, cond_true, show idx [a, b] 0 = some a from rfl]
    simp only [Option.bind_some]
    rw [a8 (by omega) (by simp), w01]; rfl
  have s2 : s_l2Scale_s3 [a, b] c ([IntKind.i64.wrap (a * c)], 1) = some (.inl ([IntKind.i64.wrap (a * c), IntKind.i64.wrap (b * c)], 2)) := by
    simp only [s_l2Scale_s3]
    rw [show decide ((1 : Int) < (([a, b] : List Int).length : Int)) = true from by simp, cond_true, show idx [a, b] 1 = some b from rfl]
    simp only [Option.bind_some]
    rw [a8 (by omega) (by simp), w11]; rfl
  rw [iter_next s1, iter_next s2, iter_end (y := [IntKind.i64.wrap (a * c), IntKind.i64.wrap (b * c)]) (by
    simp only [s_l2Scale_s3]
    rw [show decide ((2 : Int) < (([a, b] : List Int).length : Int)) = false from by simp, cond_false])]
  rfl
theorem add2_ok (a b c d : Int) : ∃ x y, s_l2Add [a, b] [c, d] = some [x, y] := by
  refine ⟨IntKind.i64.wrap (a + c), IntKind.i64.wrap (b + d), ?_⟩
  unfold s_l2Add
  have s1 : s_l2Add_s3 [a, b] [c, d] ([], 0) = some (.inl ([IntKind.i64.wrap (a + c)], 1)) := by
    simp only [s_l2Add_s3]
    rw [show decide ((0 : Int) < (([a, b] : List Int).length : Int)) = true from by simp, cond_true, show idx [a, b] 0 = some a from rfl, show idx [c, d] 0 = some c from rfl]
    simp only [Option.bind_some]
    rw [a8 (by omega) (by simp), w01]; rfl
  have s2 : s_l2Add_s3 [a, b] [c, d] ([IntKind.i64.wrap (a + c)], 1) = some (.inl ([IntKind.i64.wrap (a + c), IntKind.i64.wrap (b + d)], 2)) := by
    simp only [s_l2Add_s3]
    rw [show decide ((1 : Int) < (([a, b] : List Int).length : Int)) = true from by simp, cond_true, show idx [a, b] 1 = some b from rfl, show idx [c, d] 1 = some d from rfl]
    simp only [Option.bind_some]
    rw [a8 (by omega) (by simp), w11]; rfl
  rw [iter_next s1, iter_next s2, iter_end (y := [IntKind.i64.wrap (a + c), IntKind.i64.wrap (b + d)]) (by
    simp only [s_l2Add_s3]
    rw [show decide ((2 : Int) < (([a, b] : List Int).length : Int)) = false from by simp, cond_false])]
  rfl
/-! Drawn matrices. -/
def M2 (m : List (List Int)) : Prop := ∃ a b c d : Int, m = [[a, b], [c, d]]
theorem M2.row {m : List (List Int)} (h : M2 m) {i : Int} (h0 : 0 ≤ i) (h1 : i < 2) : ∃ a b, idx m i = some [a, b] := by
  obtain ⟨a, b, c, d, rfl⟩ := h
  have : i = 0 ∨ i = 1 := by omega
  rcases this with rfl | rfl
  · exact ⟨a, b, rfl⟩
  · exact ⟨c, d, rfl⟩
theorem M2.set {m : List (List Int)} (h : M2 m) {i : Nat} (h1 : i < 2) (a b : Int) : M2 (m.set i [a, b]) := by
  obtain ⟨p, q, r, s, rfl⟩ := h
  have : i = 0 ∨ i = 1 := by omega
  rcases this with rfl | rfl
  · exact ⟨a, b, r, s, rfl⟩
  · exact ⟨p, q, a, b, rfl⟩
theorem M2.len {m : List (List Int)} (h : M2 m) : m.length = 2 := by
  obtain ⟨p, q, r, s, rfl⟩ := h; rfl
theorem unit_step {s : Cur} (h : CurOk s) (acc : List (List Int)) {k : Nat} (hk : k < 2) (ha : acc.length ≤ 10) : ∃ (a b : Int) (s' : Cur), s_l3Unit_s3 2 (s, (acc, (k : Int))) = some (.inl (s', (acc ++ [[a, b]], ((k + 1 : Nat) : Int)))) ∧ CurOk s' := by
  obtain ⟨t, s1, f1, f2⟩ := once_ok h (n := 4) (by omega)
  have f1 : s_l1Once (s.1, (s.2.1, s.2.2)) 4 = some (t, (s1, ())) := f1
  obtain ⟨z, g1, _, _⟩ := bit_ok t
  have hm : mkD 8 2 (0 : Int) = some [0, 0] := mkD_some (n := 2) (by rw [lim_eq]; omega) (by rw [lim_eq]; omega)
  unfold s_l3Unit_s3
  simp only
  rw [show decide ((k : Int) < 2) = true from by simp; omega, cond_true, hm]
  simp only [Option.bind_some, f1, g1]
  have hi : inIdx ([0, 0] : List Int).length (k : Int) = some () := inIdx_nat (by simpa using hk)
  rw [hi]
  simp only [Option.bind_some, Int.toNat_natCast]
  rw [hi]
  simp only [Option.bind_some]
  rw [a24 (by omega)]
  simp only [Option.bind_some]
  rw [wrap_id (x := (k : Int) + 1) (by omega) (by omega)]
  generalize IntKind.i64.wrap (1 - IntKind.i64.wrap (2 * z)) = e
  have : k = 0 ∨ k = 1 := by omega
  rcases this with rfl | rfl
  · exact ⟨e, 0, s1, rfl, f2⟩
  · exact ⟨0, e, s1, rfl, f2⟩
theorem unit_first {s : Cur} (h : CurOk s) : ∃ (m : List (List Int)) (s' : Cur), iter (s_l3Unit_s3 2) (s, ([], 0)) = some (s', m) ∧ CurOk s' ∧ M2 m := by
  obtain ⟨a, b, s1, e1, h1⟩ := unit_step h [] (k := 0) (by omega) (by simp)
  obtain ⟨c, d, s2, e2, h2⟩ := unit_step h1 [[a, b]] (k := 1) (by omega) (by simp)
  refine ⟨[[a, b], [c, d]], s2, ?_, h2, a, b, c, d, rfl⟩
  have e1 : s_l3Unit_s3 2 (s, ([], 0)) = some (.inl (s1, ([[a, b]], ((1 : Nat) : Int)))) := e1
  rw [iter_next e1, iter_next e2]
  refine iter_end ?_
  unfold s_l3Unit_s3
  simp only
  rw [show decide ((((1 : Nat) + 1 : Nat) : Int) < 2) = false from by simp, cond_false]
  rfl
theorem unit_second (v7 : Int × Cur × Unit) : ∀ (n : Nat) (s : Cur) (m : List (List Int)) (k : Int), (v7.1 - k).toNat ≤ n → 0 ≤ k → v7.1 ≤ 256 → CurOk s → M2 m → ∃ (m' : List (List Int)) (s' : Cur), iter (s_l3Unit_s10 2 v7) (s, (m, k)) = some (s', m') ∧ CurOk s' ∧ M2 m' := by
  intro n
  induction n with
  | zero =>
    intro s m k hn h0 hv h hm
    refine ⟨m, s, iter_end ?_, h, hm⟩
    unfold s_l3Unit_s10
    simp only
    rw [show decide (k < v7.1) = false from by simp; omega, cond_false]
    try rfl
  | succ n ih =>
    intro s m k hn h0 hv h hm
    by_cases hk : k < v7.1
    · obtain ⟨i, s1, b1, b2, b3, _, b4⟩ := below_ok h (n := 2) (by omega)
      have b1 : s_l1Below (s.1, (s.2.1, s.2.2)) 2 = some (i, (s1, ())) := b1
      obtain ⟨j, s2, c1, c2, c3, _, c4⟩ := below_ok b2 (n := 1) (by omega)
      have c1 : s_l1Below (s1.1, (s1.2.1, s1.2.2)) 1 = some (j, (s2, ())) := c1
      obtain ⟨q, s3, d1, d2, d3, d4, _⟩ := below_ok c2 (n := 5) (by omega)
      have d1 : s_l1Below (s2.1, (s2.2.1, s2.2.2)) 5 = some (q, (s3, ())) := d1
      have b4 := b4 (by omega)
      have c4 := c4 (by omega)
      have hj : j = 0 := by omega
      subst hj
      have hi2 : IntKind.i64.wrap (IntKind.i64.wrap (i + 1) + 0) = i + 1 := by rw [wrap_id (x := i + 1) (by omega) (by omega), wrap_id (by omega) (by omega)]; omega
      have hr : remI .i64 (i + 1) 2 = some ((i + 1).tmod 2) := remI_some (by decide)
      have t1 := Int.tmod_nonneg 2 (show 0 ≤ i + 1 by omega)
      have t2 := Int.tmod_lt_of_pos (i + 1) (show (0 : Int) < 2 by omega)
      obtain ⟨a, b, r1⟩ := hm.row b3 b4
      obtain ⟨c, d, r2⟩ := hm.row t1 t2
      obtain ⟨x, y, e1⟩ := scale2_ok c d (IntKind.i64.wrap (q - 2))
      obtain ⟨u, v, e2⟩ := add2_ok a b x y
      have ii : ∀ z : Int, 0 ≤ z → z < 2 → inIdx m.length z = some () ∧ inIdx m.length ((z.toNat : Nat) : Int) = some () := fun z z0 z1 => by
        have e : z = ((z.toNat : Nat) : Int) := by omega
        have := inIdx_nat (n := m.length) (k := z.toNat) (by rw [hm.len]; omega)
        exact ⟨by rw [e]; exact this, this⟩
      obtain ⟨p1, p2⟩ := ii i b3 b4
      obtain ⟨p3, p4⟩ := ii _ t1 t2
      have st : s_l3Unit_s10 2 v7 (s, (m, k)) = some (.inl (s3, (m.set i.toNat [u, v], k + 1))) := by
        unfold s_l3Unit_s10
        simp only
        rw [show decide (k < v7.1) = true from by simpa using hk, cond_true, show decide ((2 : Int) > 1) = true from rfl, cond_true, b1]
        simp only [Option.bind_some]
        rw [show IntKind.i64.wrap (2 - 1) = 1 from wrap_id (by omega) (by omega), c1]
        simp only [Option.bind_some, hi2, hr, p1, p3]
        rw [show ((i.toNat : Nat) : Int) = i by omega, r1]
        simp only [Option.bind_some]
        rw [show ((((i + 1).tmod 2).toNat : Nat) : Int) = (i + 1).tmod 2 by omega, r2]
        simp only [Option.bind_some, d1, e1, e2, p1]
        rw [wrap_id (x := k + 1) (by omega) (by omega)]
        try rfl
      obtain ⟨m', s', f1, f2, f3⟩ := ih s3 (m.set i.toNat [u, v]) (k + 1) (by omega) (by omega) hv d2 (hm.set (by omega) u v)
      exact ⟨m', s', by rw [iter_next st]; exact f1, f2, f3⟩
    · refine ⟨m, s, iter_end ?_, h, hm⟩
      unfold s_l3Unit_s10
      simp only
      rw [show decide (k < v7.1) = false from by simpa using hk, cond_false]
      try rfl
theorem unit_ok {s : Cur} (h : CurOk s) : ∃ (m : List (List Int)) (s' : Cur), s_l3Unit s 2 = some (m, (s', ())) ∧ CurOk s' ∧ M2 m := by
  obtain ⟨m, s1, e1, h1, hm⟩ := unit_first h
  obtain ⟨n, s2, b1, b2, b3, b4, _⟩ := below_ok h1 (n := 4) (by omega)
  have b1 : s_l1Below (s1.1, (s1.2.1, s1.2.2)) 4 = some (n, (s2, ())) := b1
  obtain ⟨m', s', f1, f2, f3⟩ := unit_second (n, (s2, ())) (n - 0).toNat s2 m 0 (Nat.le_refl _) (by omega) (by simp only; omega) b2 hm
  refine ⟨m', s', ?_, f2, f3⟩
  unfold s_l3Unit
  have e1 : iter (s_l3Unit_s3 2) ((s.1, (s.2.1, s.2.2)), ([], 0)) = some (s1, m) := e1
  rw [e1]
  simp only [Option.bind_some, b1]
  have f1 : iter (s_l3Unit_s10 2 (n, (s2, ()))) ((s2.1, (s2.2.1, s2.2.2)), (m, 0)) = some (s', m') := f1
  rw [f1]
  rfl
/-! Polygons moved. -/
theorem isMatrix2 {m : List (List Int)} (h : M2 m) : ∃ b, s_IsMatrix m = some b := by
  obtain ⟨a, b, c, d, rfl⟩ := h
  have k1 := l2Small_eq (xs := [a, b]) (by rw [lim_eq]; simp) (m := 100) (by omega) (by omega)
  have k2 := l2Small_eq (xs := [c, d]) (by rw [lim_eq]; simp) (m := 100) (by omega) (by omega)
  unfold s_IsMatrix
  have bad : ∀ k : Int, ∀ r : List Int, s_IsMatrix_s2 [[a, b], [c, d]] k = some (.inr (.inr false)) → True := fun _ _ _ => trivial
  have st0 : s_IsMatrix_s2 [[a, b], [c, d]] 0 = cond (!([a, b].all (inR (-100) 100))) (some (.inr (.inr false))) (some (.inl 1)) := by
    unfold s_IsMatrix_s2
    rw [show decide ((0 : Int) < (([[a, b], [c, d]] : List (List Int)).length : Int)) = true from by simp, cond_true, show idx [[a, b], [c, d]] 0 = some [a, b] from rfl]
    simp only [Option.bind_some]
    rw [show ((([a, b] : List Int).length : Int) != (([[a, b], [c, d]] : List (List Int)).length : Int)) = false from rfl, cond_false, k1, w01]
    rfl
  have st1 : s_IsMatrix_s2 [[a, b], [c, d]] 1 = cond (!([c, d].all (inR (-100) 100))) (some (.inr (.inr false))) (some (.inl 2)) := by
    unfold s_IsMatrix_s2
    rw [show decide ((1 : Int) < (([[a, b], [c, d]] : List (List Int)).length : Int)) = true from by simp, cond_true, show idx [[a, b], [c, d]] 1 = some [c, d] from rfl]
    simp only [Option.bind_some]
    rw [show ((([c, d] : List Int).length : Int) != (([[a, b], [c, d]] : List (List Int)).length : Int)) = false from rfl, cond_false, k2, w11]
    rfl
  have st2 : s_IsMatrix_s2 [[a, b], [c, d]] 2 = some (.inr (.inl ())) := by
    unfold s_IsMatrix_s2
    rw [show decide ((2 : Int) < (([[a, b], [c, d]] : List (List Int)).length : Int)) = false from by simp, cond_false]
  cases x1 : [a, b].all (inR (-100) 100) with
  | false =>
    rw [x1] at st0
    exact ⟨false, by rw [iter_end (y := .inr false) st0]; rfl⟩
  | true =>
    rw [x1] at st0
    cases x2 : [c, d].all (inR (-100) 100) with
    | false =>
      rw [x2] at st1
      exact ⟨false, by rw [iter_next st0, iter_end (y := .inr false) st1]; rfl⟩
    | true =>
      rw [x2] at st1
      refine ⟨true, ?_⟩
      rw [iter_next st0, iter_next st1, iter_end st2]
      rfl
theorem unimod2 {m : List (List Int)} (h : M2 m) : ∃ b, s_IsUnimodular m = some b := by
  obtain ⟨b, e⟩ := isMatrix2 h
  obtain ⟨p, q, r, s, rfl⟩ := h
  have ab : ∀ x : Int, ∃ y, s_l1Abs x = some y := fun x => by
    unfold s_l1Abs s_l1Max
    generalize decide (x > IntKind.i64.wrap (0 - x)) = b
    cases b <;> exact ⟨_, rfl⟩
  unfold s_IsUnimodular s_DetOf
  rw [e]
  cases b with
  | false =>
    obtain ⟨y, hy⟩ := ab 0
    simp only [Option.bind_some, Bool.not_false, cond_true, hy]
    exact ⟨_, rfl⟩
  | true =>
    simp only [Option.bind_some, Bool.not_true, cond_false]
    have hd : ∃ x, s_l3Det [[p, q], [r, s]] = some x := ⟨_, rfl⟩
    obtain ⟨x, hx⟩ := hd
    obtain ⟨y, hy⟩ := ab x
    rw [hx]
    simp only [Option.bind_some, hy]
    exact ⟨_, rfl⟩
theorem dot2_ok (a b c d : Int) : ∃ x, s_l2Dot [a, b] [c, d] = some x := by
  refine ⟨IntKind.i64.wrap (IntKind.i64.wrap (0 + IntKind.i64.wrap (a * c)) + IntKind.i64.wrap (b * d)), ?_⟩
  unfold s_l2Dot
  have s1 : s_l2Dot_s3 [a, b] [c, d] (0, 0) = some (.inl (IntKind.i64.wrap (0 + IntKind.i64.wrap (a * c)), 1)) := by
    simp only [s_l2Dot_s3]
    rw [show decide ((0 : Int) < (([a, b] : List Int).length : Int)) = true from by simp, cond_true, show decide ((0 : Int) < (([c, d] : List Int).length : Int)) = true from by simp, cond_true, show idx [a, b] 0 = some a from rfl, show idx [c, d] 0 = some c from rfl]
    simp only [Option.bind_some, w01]
  have s2 : s_l2Dot_s3 [a, b] [c, d] (IntKind.i64.wrap (0 + IntKind.i64.wrap (a * c)), 1) = some (.inl (IntKind.i64.wrap (IntKind.i64.wrap (0 + IntKind.i64.wrap (a * c)) + IntKind.i64.wrap (b * d)), 2)) := by
    simp only [s_l2Dot_s3]
    rw [show decide ((1 : Int) < (([a, b] : List Int).length : Int)) = true from by simp, cond_true, show decide ((1 : Int) < (([c, d] : List Int).length : Int)) = true from by simp, cond_true, show idx [a, b] 1 = some b from rfl, show idx [c, d] 1 = some d from rfl]
    simp only [Option.bind_some, w11]
  rw [iter_next s1, iter_next s2, iter_end (y := IntKind.i64.wrap (IntKind.i64.wrap (0 + IntKind.i64.wrap (a * c)) + IntKind.i64.wrap (b * d))) (by
    simp only [s_l2Dot_s3]
    rw [show decide ((2 : Int) < (([a, b] : List Int).length : Int)) = false from by simp, cond_false])]
  rfl
theorem moved_ok {m : List (List Int)} (h : M2 m) (c d : Int) : ∃ x y, s_l17Moved (m, [0, 0]) [c, d] = some [x, y] := by
  obtain ⟨p, q, r, s, rfl⟩ := h
  obtain ⟨x, e1⟩ := dot2_ok p q c d
  obtain ⟨y, e2⟩ := dot2_ok r s c d
  obtain ⟨u, v, e3⟩ := add2_ok x y 0 0
  refine ⟨u, v, ?_⟩
  have s1 : s_l3Apply_s3 [[p, q], [r, s]] [c, d] ([], 0) = some (.inl ([x], 1)) := by
    simp only [s_l3Apply_s3]
    rw [show decide ((0 : Int) < (([[p, q], [r, s]] : List (List Int)).length : Int)) = true from by simp, cond_true, show idx [[p, q], [r, s]] 0 = some [p, q] from rfl]
    simp only [Option.bind_some, e1]
    rw [a8 (by omega) (by simp), w01]; rfl
  have s2 : s_l3Apply_s3 [[p, q], [r, s]] [c, d] ([x], 1) = some (.inl ([x, y], 2)) := by
    simp only [s_l3Apply_s3]
    rw [show decide ((1 : Int) < (([[p, q], [r, s]] : List (List Int)).length : Int)) = true from by simp, cond_true, show idx [[p, q], [r, s]] 1 = some [r, s] from rfl]
    simp only [Option.bind_some, e2]
    rw [a8 (by omega) (by simp), w11]; rfl
  have ea : s_l3Apply [[p, q], [r, s]] [c, d] = some [x, y] := by
    unfold s_l3Apply
    rw [iter_next s1, iter_next s2, iter_end (y := [x, y]) (by
      simp only [s_l3Apply_s3]
      rw [show decide ((2 : Int) < (([[p, q], [r, s]] : List (List Int)).length : Int)) = false from by simp, cond_false])]
    rfl
  unfold s_l17Moved
  simp only [ea, Option.bind_some, e3]
theorem move_loop {m : List (List Int)} (h : M2 m) {p : List (List Int)} (hp : ∀ v ∈ p, v.length = 2) (hl : p.length ≤ 12) : ∀ (n k : Nat) (acc : List (List Int)), n = p.length - k → k ≤ p.length → acc.length = k → (∀ v ∈ acc, v.length = 2) →
    ∃ r, iter (s_MovePolygon_s5 (m, [0, 0]) p) (acc, (k : Int)) = some r ∧ r.length = p.length ∧ ∀ v ∈ r, v.length = 2
  | 0, k, acc, hn, h1, h2, h3 => by
    have hk : k = p.length := by omega
    subst hk
    refine ⟨acc, iter_end ?_, h2, h3⟩
    simp only [s_MovePolygon_s5]
    rw [show decide ((p.length : Int) < (p.length : Int)) = false from by simp, cond_false]
  | n + 1, k, acc, hn, h1, h2, h3 => by
    have hk : k < p.length := by omega
    obtain ⟨c, d, e⟩ := two_of (hp _ (List.getElem_mem hk))
    obtain ⟨x, y, em⟩ := moved_ok h c d
    have st : s_MovePolygon_s5 (m, [0, 0]) p (acc, (k : Int)) = some (.inl (acc ++ [[x, y]], ((k + 1 : Nat) : Int))) := by
      simp only [s_MovePolygon_s5]
      rw [show decide ((k : Int) < (p.length : Int)) = true from by simp; omega, cond_true, idx_some (List.getElem?_eq_getElem hk), e]
      simp only [Option.bind_some, em]
      rw [a24 (by omega), wrap_id (by omega) (by omega)]; rfl
    obtain ⟨r, r1, r2, r3⟩ := move_loop h hp hl n (k + 1) (acc ++ [[x, y]]) (by omega) (by omega) (by simp; omega) (fun v hv => by
      rcases List.mem_append.1 hv with hv | hv
      · exact h3 v hv
      · simp at hv; subst hv; rfl)
    exact ⟨r, by rw [iter_next st]; exact r1, r2, r3⟩
theorem move_ok {m : List (List Int)} (h : M2 m) (l : List UInt8) : ∃ r, s_MovePolygon (m, [0, 0]) (polyR l).1 = some r ∧ FitLL r.1 := by
  obtain ⟨k1, k2, k3⟩ := polyR_fit l
  obtain ⟨b, hb⟩ := unimod2 h
  have hv : s_IsVector [0, 0] = some true := by rw [s_IsVector_eq (by rw [lim_eq]; simp)]; rfl
  have hmv : ∃ b, s_IsMove (m, [0, 0]) = some b := by
    unfold s_IsMove
    simp only [hb, hv, Option.bind_some, h.len]
    cases b <;> exact ⟨_, rfl⟩
  obtain ⟨c, hc⟩ := hmv
  have nil : FitLL [] := ⟨by simp, fun y hy => by cases hy⟩
  unfold s_MovePolygon
  simp only [hc, Option.bind_some]
  cases c with
  | false => exact ⟨_, rfl, nil⟩
  | true =>
    rw [Bool.not_true, cond_false, s_IsPolygon_eq k1.lim k1.eachLim]
    simp only [Option.bind_some]
    cases hp : isPoly (polyR l).1 with
    | false => exact ⟨_, rfl, nil⟩
    | true =>
      rw [Bool.not_true, cond_false]
      have h12 := isPoly_le hp
      have h2 : ∀ v ∈ (polyR l).1, v.length = 2 := by
        obtain ⟨P, e, _⟩ := poly_of hp
        intro v hv
        rw [e] at hv
        obtain ⟨q, _, rfl⟩ := List.mem_map.1 hv
        rfl
      obtain ⟨r, r1, r2, r3⟩ := move_loop h h2 h12 _ 0 [] rfl (by omega) rfl (fun v hv => by cases hv)
      have r1 : iter (s_MovePolygon_s5 (m, [0, 0]) (polyR l).1) ([], 0) = some r := r1
      rw [r1]
      obtain ⟨q, b2, d1, d2⟩ := hullOf_lens (p := r) (by omega) fun v hv => by rw [r3 v hv]; omega
      simp only [Option.bind_some, d1]
      cases b2 with
      | false => exact ⟨_, rfl, nil⟩
      | true =>
        obtain ⟨d3, d4, d5⟩ := d2 rfl
        exact ⟨_, rfl, fit_small (by simp only; omega) fun v hv => by rw [d5 v hv]; omega⟩
/-! The draws. -/
theorem l18Draw_ok {s : Cur} (h : CurOk s) : ∃ (p : List (List Int)) (s' : Cur), s_l18Draw s = some (p, (s', ())) ∧ FitLL p := by
  unfold s_l18Draw
  obtain ⟨t, s1, a1, a2, a3⟩ := pickS_ok h (l := [(⟨#[45, 49, 44, 45, 49, 32, 49, 44, 48, 32, 48, 44, 49]⟩ : ByteArray), (⟨#[45, 49, 44, 45, 49, 32, 50, 44, 45, 49, 32, 45, 49, 44, 50]⟩ : ByteArray), (⟨#[45, 49, 44, 45, 49, 32, 49, 44, 45, 49, 32, 49, 44, 49, 32, 45, 49, 44, 49]⟩ : ByteArray), (⟨#[45, 49, 44, 48, 32, 48, 44, 45, 49, 32, 49, 44, 48, 32, 48, 44, 49]⟩ : ByteArray), (⟨#[45, 49, 44, 45, 49, 32, 48, 44, 45, 49, 32, 49, 44, 48, 32, 49, 44, 49, 32, 48, 44, 49, 32, 45, 49, 44, 48]⟩ : ByteArray), (⟨#[45, 49, 44, 45, 49, 32, 51, 44, 45, 49, 32, 45, 49, 44, 49]⟩ : ByteArray)]) (by simp) (by simp)
  have hl : ∃ l : List UInt8, l.length ≤ 100 ∧ t = bs l := by
    simp only [List.mem_cons, List.not_mem_nil, or_false] at a3
    rcases a3 with rfl | rfl | rfl | rfl | rfl | rfl <;> exact ⟨_, by decide, rfl⟩
  obtain ⟨l, hl, rfl⟩ := hl
  have a1 := a1
  have e1 := s_parsePolygon_eq (l := l) (by omega)
  obtain ⟨k1, k2, k3⟩ := polyR_fit l
  obtain ⟨m, s2, b1, b2, b3⟩ := unit_ok a2
  have b1 : s_l3Unit (s1.1, (s1.2.1, s1.2.2)) 2 = some (m, (s2, ())) := b1
  obtain ⟨r, c1, c2⟩ := move_ok b3 l
  have bent : ∀ {s : Cur}, CurOk s → ∃ (p : List (List Int)) (s' : Cur), s_l7Bent (s.1, (s.2.1, s.2.2)) = some (p, (s', ())) ∧ FitLL p := fun {s} hs => by
    obtain ⟨p, s', q1, _, _, q4, q5⟩ := l7Bent_ok hs
    exact ⟨p, s', q1, fit_small (by omega) fun v hv => by have := q5 v hv; omega⟩
  have a1 : s_l1Pick (s.1, (s.2.1, s.2.2)) _ = some (bs l, (s1, ())) := a1
  refine Exists.imp (fun p => Exists.imp fun s' h => ⟨h.1, h.2⟩) (?_ : ∃ (p : List (List Int)) (s' : Cur), _ ∧ FitLL p)
  show ∃ (p : List (List Int)) (s' : Cur), (s_l1Pick (s.1, (s.2.1, s.2.2)) _).bind _ = _ ∧ _
  rw [a1]
  simp only [Option.bind_some, e1, b1, c1]
  cases hr : r.2 with
  | false =>
    obtain ⟨p, s', q1, q2⟩ := bent b2
    simp only [Bool.not_false, cond_true, q1, Option.bind_some]
    exact ⟨p, s', rfl, q2⟩
  | true =>
    simp only [Bool.not_true, cond_false]
    obtain ⟨t, s3, f1, f2⟩ := once_ok b2 (n := 5) (by omega)
    have f1 : s_l1Once (s2.1, (s2.2.1, s2.2.2)) 5 = some (t, (s3, ())) := f1
    rw [f1]
    simp only [Option.bind_some]
    cases t with
    | true =>
      obtain ⟨p, s', q1, q2⟩ := bent f2
      simp only [cond_true, q1, Option.bind_some]
      exact ⟨p, s', rfl, q2⟩
    | false =>
      obtain ⟨t2, s4, g1, g2⟩ := once_ok f2 (n := 8) (by omega)
      have g1 : s_l1Once (s3.1, (s3.2.1, s3.2.2)) 8 = some (t2, (s4, ())) := g1
      simp only [cond_false, g1, Option.bind_some]
      cases t2 with
      | true => exact ⟨_, s4, rfl, k1⟩
      | false => exact ⟨_, s4, rfl, c2⟩
end Go.Proofs.YtgbkkmidloeciaaGreat
