/-
  Plain: split cones and their turns. No condition.
-/
import Derived.Test.YtdkkjgbgodnopaaPlS
namespace Go.Proofs.Ytdkkjgbgodnopaa
open Go Go.Proofs.Ytdkkjgbgodnopaa.Eng
set_option linter.unusedVariables false
set_option linter.unusedSimpArgs false

/-- The vectors of a split cone, from one of them on. -/
def Ch (c d : Int) : List (List Int) → Prop
  | [] => False
  | [u] => ∃ a b, u = [a, b] ∧ Pv a b ∧ crs a b c d = 0
  | u :: u' :: r => (∃ a b x y, u = [a, b] ∧ u' = [x, y] ∧ Pv a b ∧ Nx a b c d x y) ∧ Ch c d (u' :: r)

theorem Ch.pv {c d : Int} : ∀ {L : List (List Int)}, Ch c d L → ∀ u ∈ L, ∃ a b, u = [a, b] ∧ Pv a b
  | [u], h, v, hv => by
    obtain ⟨a, b, rfl, h1, _⟩ := h
    simp at hv; subst hv; exact ⟨a, b, rfl, h1⟩
  | u :: u' :: r, h, v, hv => by
    rcases List.mem_cons.1 hv with rfl | hv
    · obtain ⟨⟨a, b, _, _, h1, _, h2, _⟩, _⟩ := h; exact ⟨a, b, h1, h2⟩
    · exact Ch.pv h.2 v hv

theorem Ch.one {c d : Int} : ∀ {L : List (List Int)}, Ch c d L → ∀ (k : Nat) (u u' : List Int), L[k]? = some u → L[k + 1]? = some u' → crsL u u' = 1
  | [u], h, k, v, v', h1, h2 => by simp at h2
  | u :: u' :: r, h, 0, v, v', h1, h2 => by
    simp at h1 h2; subst h1; subst h2
    obtain ⟨⟨a, b, x, y, rfl, rfl, _, h3⟩, _⟩ := h
    exact h3.one
  | u :: u' :: r, h, k + 1, v, v', h1, h2 => Ch.one h.2 k v v' (by simpa using h1) (by simpa using h2)

theorem crs_pv {a b c d : Int} (h : Pv a b) (k : Pv c d) : i_cross [a, b] [c, d] = some (crs a b c d) ∧ s_l7Cross [a, b] [c, d] = some (crs a b c d) :=
  ⟨cross_eq h.ta h.tb k.ta k.tb, l7Cross_eq h.ta h.tb k.ta k.tb⟩

theorem chain {c d : Int} (hv : Pv c d) (u0 : List Int) : ∀ (n : Nat) (a b : Int), Pv a b → 0 ≤ crs a b c d → crs a b c d ≤ n → ∃ L, Ch c d L ∧ L.head? = some [a, b] ∧ L.length ≤ n + 1 ∧
    (∀ out : List (List Int), out.length + n + 2 ≤ 4096 → iter (i_SplitCone_s4 (u0, [c, d])) (out ++ [[a, b]]) = some (out ++ L)) ∧
    (∀ out : List (List Int), out.length + n + 2 ≤ 4096 → ∃ o z, iter (s_SplitCone_s5 (u0, [c, d])) (out, [a, b]) = some (o, z) ∧ o ++ [z] = out ++ L) := by
  have last : ∀ (out : List (List Int)) (u : List Int), out.length ≤ 4096 → inIdx (out ++ [u]).length (IntKind.i64.wrap (((out ++ [u]).length : Int) - 1)) = some () ∧ idx (out ++ [u]) (((IntKind.i64.wrap (((out ++ [u]).length : Int) - 1)).toNat : Int)) = some u := fun out u hl => by
    have hlen : (out ++ [u]).length = out.length + 1 := by simp
    have hw : IntKind.i64.wrap (((out ++ [u]).length : Int) - 1) = (out.length : Int) := by rw [hlen, wrap_id (by omega) (by omega)]; omega
    rw [hw]
    refine ⟨inIdx_nat (by omega), ?_⟩
    rw [Int.toNat_natCast]
    exact idx_some (by simp)
  have done : ∀ (a b : Int), Pv a b → crs a b c d = 0 → ∀ n : Nat, ∃ L, Ch c d L ∧ L.head? = some [a, b] ∧ L.length ≤ n + 1 ∧
      (∀ out : List (List Int), out.length + n + 2 ≤ 4096 → iter (i_SplitCone_s4 (u0, [c, d])) (out ++ [[a, b]]) = some (out ++ L)) ∧
      (∀ out : List (List Int), out.length + n + 2 ≤ 4096 → ∃ o z, iter (s_SplitCone_s5 (u0, [c, d])) (out, [a, b]) = some (o, z) ∧ o ++ [z] = out ++ L) := fun a b hu h0 n => by
    refine ⟨[[a, b]], ⟨a, b, rfl, hu, h0⟩, rfl, by simp, fun out ho => iter_end ?_, fun out ho => ⟨out, [a, b], iter_end ?_, rfl⟩⟩
    · obtain ⟨l1, l2⟩ := last out [a, b] (by omega)
      simp only [i_SplitCone_s4, l1, l2, Option.bind_some, (crs_pv hu hv).1, h0, beq_self_eq_true, cond_true]
    · simp only [s_SplitCone_s5, (crs_pv hu hv).2, Option.bind_some, h0]
      rfl
  intro n
  induction n with
  | zero => intro a b hu h0 h1; exact done a b hu (by omega) 0
  | succ n ih =>
    intro a b hu h0 h1
    by_cases hz : crs a b c d = 0
    · exact done a b hu hz (n + 1)
    · have hD : 0 < crs a b c d := by omega
      obtain ⟨wx, wy, x, y, i1, i2, i3, i4, hN⟩ := i_next hu hv hD
      obtain ⟨x', y', s1, hN'⟩ := s_next hu hv hD
      obtain ⟨rfl, rfl⟩ := hN.uniq hN'
      have hp := hN.pv hu hv
      obtain ⟨L, c1, c2, c3, c4, c5⟩ := ih x y hp hN.lo (by have := hN.hi; omega)
      match L, c1, c2, c3, c4, c5 with
      | z :: r, c1, c2, c3, c4, c5 =>
        simp at c2; subst c2
        refine ⟨[a, b] :: [x, y] :: r, ⟨⟨a, b, x, y, rfl, rfl, hu, hN⟩, c1⟩, rfl, by simp at c3 ⊢; omega, fun out ho => ?_, fun out ho => ?_⟩
        · obtain ⟨l1, l2⟩ := last out [a, b] (by omega)
          have hb : (crs a b c d == 0) = false := by simpa using hz
          have happ : appD 24 (out ++ [[a, b]]) [[x, y]] = some (out ++ [[a, b]] ++ [[x, y]]) := by rw [appD_some (by rw [lim_eq]; simp; omega) (by rw [lim_eq]; simp; omega)]
          rw [iter_next (s' := out ++ [[a, b]] ++ [[x, y]]) (by simp only [i_SplitCone_s4, l1, l2, Option.bind_some, (crs_pv hu hv).1, hb, cond_false, i1, i2, i3, i4, happ])]
          rw [c4 (out ++ [[a, b]]) (by simp; omega)]
          simp
        · have hd : decide (crs a b c d > 0) = true := by simpa using hD
          have happ : appD 24 out [[a, b]] = some (out ++ [[a, b]]) := by rw [appD_some (by rw [lim_eq]; simp; omega) (by rw [lim_eq]; simp; omega)]
          obtain ⟨o, z, q1, q2⟩ := c5 (out ++ [[a, b]]) (by simp; omega)
          refine ⟨o, z, ?_, by rw [q2]; simp⟩
          rw [iter_next (s' := (out ++ [[a, b]], [x, y])) (by simp only [s_SplitCone_s5, (crs_pv hu hv).2, Option.bind_some, hd, cond_true, happ, s1])]
          exact q1

theorem isCn_pv {c : Cn} (h : isCn c = true) : ∃ a b x y, c = ([a, b], [x, y]) ∧ Pv a b ∧ Pv x y ∧ 0 < crs a b x y := by
  obtain ⟨u, v⟩ := c
  simp only [isCn, Bool.and_eq_true, beq_iff_eq, decide_eq_true_eq] at h
  obtain ⟨a, b, ha, h1, h2, h3, h4⟩ := isPt_iff.1 h.1.1.1.1
  obtain ⟨x, y, hb, k1, k2, k3, k4⟩ := isPt_iff.1 h.1.1.1.2
  subst ha; subst hb
  have g1 := h.1.1.2; have g2 := h.1.2
  rw [gcdL_two] at g1 g2
  exact ⟨a, b, x, y, rfl, ⟨h1, h2, h3, h4, by omega⟩, ⟨k1, k2, k3, k4, by omega⟩, h.2⟩

/-- Both split a cone alike. -/
theorem split_eq {c : Cn} (h1 : c.1.length ≤ lim) (h2 : c.2.length ≤ lim) : ∃ L, s_SplitCone c = some L ∧ i_SplitCone c = some L ∧ L.length ≤ 1801 ∧ (isCn c = false → L = []) ∧ (isCn c = true → ∃ x y, c.2 = [x, y] ∧ Pv x y ∧ Ch x y L ∧ L.head? = some c.1) := by
  simp only [s_SplitCone, i_SplitCone, s_IsCone_eq (c := (c.1, c.2)) h1 h2, i_IsCone_eq (c := (c.1, c.2)) h1 h2, Option.bind_some]
  cases hc : isCn c
  · have hc' : isCn (c.1, c.2) = false := hc
    exact ⟨[], by simp [hc'], by simp [hc'], by simp, fun _ => rfl, fun h => by simp at h⟩
  · have hc' : isCn (c.1, c.2) = true := hc
    obtain ⟨a, b, x, y, rfl, hu, hv, hD⟩ := isCn_pv hc
    have hle := cross_le hu hv
    obtain ⟨L, q1, q2, q3, q4, q5⟩ := chain hv [a, b] 1800 a b hu (by omega) (by omega)
    have happ : appD 8 ([] : List Int) [a, b] = some [a, b] := by rw [appD_some (by rw [lim_eq]; simp) (by rw [lim_eq]; simp)]; rfl
    have hcp : i_copyInts [a, b] = some [a, b] := copyInts_eq (by rw [lim_eq]; simp)
    obtain ⟨o, z, w1, w2⟩ := q5 [] (by simp)
    have hi := q4 [] (by simp)
    rw [List.nil_append] at hi w2
    have hol : o.length + 1 = L.length := by rw [← w2]; simp
    have happ2 : appD 24 o [z] = some (o ++ [z]) := by rw [appD_some (by rw [lim_eq]; simp; omega) (by rw [lim_eq]; simp; omega)]
    refine ⟨L, ?_, ?_, by omega, fun h => by simp at h, fun _ => ⟨x, y, rfl, hv, q1, q2⟩⟩
    · simp only [hc', Bool.not_true, cond_false, happ, Option.bind_some, w1, happ2, w2]
    · simp only [hc', Bool.not_true, cond_false, hcp, Option.bind_some]
      rw [hi]; rfl

/-- A chain with the cone forgotten. -/
structure Chn (L : List (List Int)) : Prop where
  len : L.length ≤ 1801
  pv : ∀ u ∈ L, ∃ a b, u = [a, b] ∧ Pv a b
  one : ∀ (k : Nat) (u u' : List Int), L[k]? = some u → L[k + 1]? = some u' → crsL u u' = 1

theorem split_chn {c : Cn} (h1 : c.1.length ≤ lim) (h2 : c.2.length ≤ lim) : ∃ L, s_SplitCone c = some L ∧ i_SplitCone c = some L ∧ Chn L := by
  obtain ⟨L, q1, q2, q3, q4, q5⟩ := split_eq h1 h2
  refine ⟨L, q1, q2, ?_⟩
  cases hc : isCn c
  · rw [q4 hc]
    exact ⟨by simp, by simp, by simp⟩
  · obtain ⟨x, y, _, _, h, _⟩ := q5 hc
    exact ⟨q3, h.pv, h.one⟩

/-! Turns. -/

def turns (L : List (List Int)) : List Int := (List.range (L.length - 2)).map fun (i : Nat) => crsL (L.getD i []) (L.getD (i + 2) [])

theorem Chn.at {L : List (List Int)} (h : Chn L) {k : Nat} (hk : k < L.length) : ∃ a b, L[k]? = some [a, b] ∧ L.getD k [] = [a, b] ∧ Pv a b := by
  have hx : L[k]? = some L[k] := List.getElem?_eq_getElem hk
  obtain ⟨a, b, e, hp⟩ := h.pv _ (List.getElem_mem hk)
  rw [e] at hx
  exact ⟨a, b, hx, by rw [List.getD_eq_getElem?_getD, hx]; rfl, hp⟩

theorem turns_get {L : List (List Int)} {j : Nat} (h : j < L.length - 2) : (turns L)[j]? = some (crsL (L.getD j []) (L.getD (j + 2) [])) := by simp [turns, h]

theorem turns_le {L : List (List Int)} (h : Chn L) : ∀ t ∈ turns L, -1800 ≤ t ∧ t ≤ 1800 := fun t ht => by
  obtain ⟨j, hj, rfl⟩ := List.mem_map.1 ht
  rw [List.mem_range] at hj
  obtain ⟨a, b, _, e1, p1⟩ := h.at (k := j) (by omega)
  obtain ⟨c, d, _, e2, p2⟩ := h.at (k := j + 2) (by omega)
  rw [e1, e2]
  exact cross_le p1 p2

theorem take_snoc {xs : List Int} {j : Nat} {t : Int} (h : xs[j]? = some t) : xs.take j ++ [t] = xs.take (j + 1) := by rw [List.take_add_one, h]; rfl

theorem i_TurnsOf_eq {L : List (List Int)} (h : Chn L) : iter (i_TurnsOf_s4 L) ([], 1) = some (turns L) := by
  have := iter_up (step := i_TurnsOf_s4 L) (L.length - 2) (fun j => ((turns L).take j, ((j + 1 : Nat) : Int))) (turns L) (fun j hj => ?_) ?_
  · exact this
  · have hl := h.len
    have w1 : IntKind.i64.wrap (((j + 1 : Nat) : Int) + 1) = ((j + 2 : Nat) : Int) := by rw [wrap_id (by omega) (by omega)]; omega
    have w2 : IntKind.i64.wrap (((j + 1 : Nat) : Int) - 1) = (j : Int) := by rw [wrap_id (by omega) (by omega)]; omega
    have hd : decide (((j + 2 : Nat) : Int) < (L.length : Int)) = true := by simp; omega
    obtain ⟨a, b, g1, e1, p1⟩ := h.at (k := j) (by omega)
    obtain ⟨c, d, g2, e2, p2⟩ := h.at (k := j + 2) (by omega)
    have ht := turns_get hj
    rw [e1, e2] at ht
    have happ : appD 8 ((turns L).take j) [crs a b c d] = some ((turns L).take (j + 1)) := by
      rw [appD_some (by rw [lim_eq]; simp; omega) (by rw [lim_eq]; simp; omega), ← take_snoc ht]; rfl
    simp only [i_TurnsOf_s4, w1, w2, hd, cond_true, idx_some g1, idx_some g2, (crs_pv p1 p2).1, happ, Option.bind_some]
  · have hl := h.len
    have w1 : IntKind.i64.wrap (((L.length - 2 + 1 : Nat) : Int) + 1) = ((L.length - 2 + 2 : Nat) : Int) := by rw [wrap_id (by omega) (by omega)]; omega
    have hd : decide (((L.length - 2 + 2 : Nat) : Int) < (L.length : Int)) = false := by simp; omega
    have htk : (turns L).take (L.length - 2) = turns L := List.take_of_length_le (by simp [turns])
    simp only [i_TurnsOf_s4, w1, hd, cond_false, htk]

theorem s_TurnsOf_eq {L : List (List Int)} (h : Chn L) : iter (s_TurnsOf_s4 L) ([], 1) = some (turns L) := by
  have := iter_up (step := s_TurnsOf_s4 L) (L.length - 2) (fun j => ((turns L).take j, ((j + 1 : Nat) : Int))) (turns L) (fun j hj => ?_) ?_
  · exact this
  · have hl := h.len
    have w1 : IntKind.i64.wrap (((j + 1 : Nat) : Int) + 1) = ((j + 2 : Nat) : Int) := by rw [wrap_id (by omega) (by omega)]; omega
    have w2 : IntKind.i64.wrap (((j + 1 : Nat) : Int) - 1) = (j : Int) := by rw [wrap_id (by omega) (by omega)]; omega
    have hd : decide (((j + 2 : Nat) : Int) < (L.length : Int)) = true := by simp; omega
    obtain ⟨a, b, g1, e1, p1⟩ := h.at (k := j) (by omega)
    obtain ⟨x, y, g3, e3, p3⟩ := h.at (k := j + 1) (by omega)
    obtain ⟨c, d, g2, e2, p2⟩ := h.at (k := j + 2) (by omega)
    have ht := turns_get hj
    rw [e1, e2] at ht
    have o1 : crs a b x y = 1 := h.one j _ _ g1 g3
    have o2 : crs x y c d = 1 := h.one (j + 1) _ _ g3 g2
    have tle := cross_le p1 p2
    have ex : a + c = crs a b c d * x := by unfold crs at *; grind
    have ey : b + d = crs a b c d * y := by unfold crs at *; grind
    have happ : appD 8 ((turns L).take j) [crs a b c d] = some ((turns L).take (j + 1)) := by
      rw [appD_some (by rw [lim_eq]; simp; omega) (by rw [lim_eq]; simp; omega), ← take_snoc ht]; rfl
    have hadd : s_l2Add [a, b] [c, d] = some [a + c, b + d] := by
      have := l2Add_eq ([(a, c), (b, d)] : List (Int × Int)) (·.1) (·.2) (by simp) (by simp [p1.ta, p1.tb]) (by simp [p2.ta, p2.tb])
      simpa using this
    have f0 : idx [x, y] (0 : Int) = some x := rfl
    have f1 : idx [x, y] (1 : Int) = some y := rfl
    simp only [s_TurnsOf_s4, w1, w2, hd, cond_true, idx_some g1, idx_some g2, idx_some g3, hadd, Option.bind_some, f0]
    by_cases hx : x = 0
    · have hb : (x == 0) = true := by simpa using hx
      have hbit : s_l1Bit true = some 1 := rfl
      have hy : y ≠ 0 := fun hy => by have := p3.g; rw [hx, hy] at this; simp at this
      have i1 : inIdx [a + c, b + d].length (1 : Int) = some () := rfl
      have i2 : idx [a + c, b + d] (((1 : Int).toNat : Nat) : Int) = some (b + d) := rfl
      have hq : quoI .i64 (b + d) y = some (crs a b c d) := by
        rw [ey]; simp only [quoI, if_neg hy, Int.mul_tdiv_cancel _ hy]; rw [wrap_id (by omega) (by omega)]
      simp only [hb, hbit, Option.bind_some, i1, i2, f1, hq, happ]
    · have hb : (x == 0) = false := by simpa using hx
      have hbit : s_l1Bit false = some 0 := rfl
      have i1 : inIdx [a + c, b + d].length (0 : Int) = some () := rfl
      have i2 : idx [a + c, b + d] (((0 : Int).toNat : Nat) : Int) = some (a + c) := rfl
      have hq : quoI .i64 (a + c) x = some (crs a b c d) := by
        rw [ex]; simp only [quoI, if_neg hx, Int.mul_tdiv_cancel _ hx]; rw [wrap_id (by omega) (by omega)]
      simp only [hb, hbit, Option.bind_some, i1, i2, f0, hq, happ]
  · have hl := h.len
    have w1 : IntKind.i64.wrap (((L.length - 2 + 1 : Nat) : Int) + 1) = ((L.length - 2 + 2 : Nat) : Int) := by rw [wrap_id (by omega) (by omega)]; omega
    have hd : decide (((L.length - 2 + 2 : Nat) : Int) < (L.length : Int)) = false := by simp; omega
    have htk : (turns L).take (L.length - 2) = turns L := List.take_of_length_le (by simp [turns])
    simp only [s_TurnsOf_s4, w1, hd, cond_false, htk]

theorem turnsOf_eq {c : Cn} (h1 : c.1.length ≤ lim) (h2 : c.2.length ≤ lim) : ∃ T : List Int, s_TurnsOf c = some T ∧ i_TurnsOf c = some T ∧ T.length ≤ 1801 ∧ ∀ t ∈ T, -1800 ≤ t ∧ t ≤ 1800 := by
  obtain ⟨L, q1, q2, h⟩ := split_chn h1 h2
  have q1 : s_SplitCone (c.1, c.2) = some L := q1
  have q2 : i_SplitCone (c.1, c.2) = some L := q2
  refine ⟨turns L, by simp only [s_TurnsOf, q1, Option.bind_some, s_TurnsOf_eq h], by simp only [i_TurnsOf, q2, Option.bind_some, i_TurnsOf_eq h], ?_, turns_le h⟩
  have := h.len
  simp [turns]; omega

/-- A vector's test against a cone. -/
def inCn (c : Cn) (x : List Int) : Bool := decide (0 ≤ crsL c.1 x) && decide (0 ≤ crsL x c.2)

theorem vec_eq {a b : Int} (ha : -1000 ≤ a ∧ a ≤ 1000) (hb : -1000 ≤ b ∧ b ≤ 1000) : s_IsVector [a, b] = some true ∧ i_IsVector [a, b] = some true := by
  have hall : ([a, b] : List Int).all (inR (-1000) 1000) = true := by simp [inR, ha.1, ha.2, hb.1, hb.2]
  have hl : ([a, b] : List Int).length ≤ lim := by show 2 ≤ lim; decide
  have h1 : inR 1 3 ((([a, b] : List Int).length : Nat) : Int) = true := rfl
  exact ⟨by simp only [s_IsVector, l1In_eq, Option.bind_some, h1, cond_true, l2Small_eq hl (m := 1000) (by omega) (by omega), hall], by simp only [i_IsVector, within_eq, Option.bind_some, h1, cond_true, allWithin_eq hl, hall]⟩

theorem inCone_eq {c : Cn} (hc : isCn c = true) {a b : Int} (ha : -1000 ≤ a ∧ a ≤ 1000) (hb : -1000 ≤ b ∧ b ≤ 1000) : s_InCone c [a, b] = some (inCn c [a, b]) ∧ i_InCone c [a, b] = some (inCn c [a, b]) := by
  obtain ⟨p, q, r, s, rfl, hu, hv, hD⟩ := isCn_pv hc
  have l1 : ([p, q] : List Int).length ≤ lim := by show 2 ≤ lim; decide
  have l2 : ([r, s] : List Int).length ≤ lim := by show 2 ≤ lim; decide
  have ta : Tn a := by unfold Tn; omega
  have tb : Tn b := by unfold Tn; omega
  have hlen : (((([a, b] : List Int).length : Nat) : Int) == 2) = true := rfl
  obtain ⟨v1, v2⟩ := vec_eq ha hb
  have c1 : crsL [p, q] [a, b] = crs p q a b := rfl
  have c2 : crsL [a, b] [r, s] = crs a b r s := rfl
  constructor
  · simp only [s_InCone, s_IsCone_eq (c := ([p, q], [r, s])) l1 l2, Option.bind_some, hc, cond_true, v1, hlen, l7Cross_eq hu.ta hu.tb ta tb, l7Cross_eq ta tb hv.ta hv.tb, inCn, c1, c2]
    by_cases h : crs p q a b ≥ 0
    · simp [h]
    · simp [h]
  · simp only [i_InCone, i_IsCone_eq (c := ([p, q], [r, s])) l1 l2, Option.bind_some, hc, cond_true, v2, hlen, cross_eq hu.ta hu.tb ta tb, cross_eq ta tb hv.ta hv.tb, inCn, c1, c2]
    by_cases h : crs p q a b ≥ 0
    · simp [h]
    · simp [h]

/-- Primitive vectors in one line are equal or opposite. -/
theorem prim_par {a b c d : Int} (h : Pv a b) (k : Pv c d) (h0 : crs a b c d = 0) : (a = c ∧ b = d) ∨ (a = -c ∧ b = -d) := by
  obtain ⟨x, y, _, h1, _⟩ := partner_eq ⟨h.a1, h.a2⟩ ⟨h.b1, h.b2⟩ h.g
  -- the second is a multiple of the first
  have e1 : c = (c * y - d * x) * a := by unfold crs at h0; grind
  have e2 : d = (c * y - d * x) * b := by unfold crs at h0; grind
  generalize c * y - d * x = t at e1 e2
  have ht : (t.natAbs : Int) ∣ (Int.gcd c d : Int) := by
    have : t ∣ (Int.gcd c d : Int) := Int.dvd_coe_gcd ⟨a, e1⟩ ⟨b, e2⟩
    exact Int.natAbs_dvd.2 this
  rw [k.g] at ht
  have := Int.eq_one_of_dvd_one (by omega) ht
  have ht1 : t = 1 ∨ t = -1 := by omega
  rcases ht1 with rfl | rfl
  · left; omega
  · right; omega

end Go.Proofs.Ytdkkjgbgodnopaa
