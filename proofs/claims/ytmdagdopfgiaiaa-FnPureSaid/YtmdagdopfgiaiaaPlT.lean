/-
  Plain: split cones and their turns. No condition.
-/
import Derived.Test.YtmdagdopfgiaiaaPlS
namespace Go.Proofs.Ytmdagdopfgiaiaa
open Go Go.Proofs.Ytmdagdopfgiaiaa.Eng
set_option linter.unusedVariables false
set_option linter.unusedSimpArgs false
/-- The vectors of a split cone, from one of them on. -/
def Ch (c d : Int) : List (List Int) → Prop
  | [] => False
  | [u] => ∃ a b, u = [a, b] ∧ Pv a b ∧ crs a b c d = 0
  | u :: u' :: r => (∃ a b x y, u = [a, b] ∧ u' = [x, y] ∧ Pv a b ∧ Nx a b c d x y) ∧ Ch c d (u' :: r)
theorem Ch.pv {c d : Int} : ∀ {L : List (List Int)}, Ch c d L → ∀ u ∈ L, ∃ a b, u = [a, b] ∧ Pv a b
  | [u], h, v, hv => by
    obtain ⟨a, b, rfl, h1, _⟩ := h
    simp at hv; subst hv; exact ⟨a, b, rfl, h1⟩
  | u :: u' :: r, h, v, hv => by
    rcases List.mem_cons.1 hv with rfl | hv
    · obtain ⟨⟨a, b, _, _, h1, _, h2, _⟩, _⟩ := h; exact ⟨a, b, h1, h2⟩
    · exact Ch.pv h.2 v hv
theorem Ch.one {c d : Int} : ∀ {L : List (List Int)}, Ch c d L → ∀ (k : Nat) (u u' : List Int), L[k]? = some u → L[k + 1]? = some u' → crsL u u' = 1
  | [u], h, k, v, v', h1, h2 => by simp at h2
  | u :: u' :: r, h, 0, v, v', h1, h2 => by
    simp at h1 h2; subst h1; subst h2
    obtain ⟨⟨a, b, x, y, rfl, rfl, _, h3⟩, _⟩ := h
    exact h3.one
  | u :: u' :: r, h, k + 1, v, v', h1, h2 => Ch.one h.2 k v v' (by simpa using h1) (by simpa using h2)
theorem crs_pv {a b c d : Int} (h : Pv a b) (k : Pv c d) : i_cross [a, b] [c, d] = some (crs a b c d) ∧ s_l7Cross [a, b] [c, d] = some (crs a b c d) :=
  ⟨cross_eq h.ta h.tb k.ta k.tb, l7Cross_eq h.ta h.tb k.ta k.tb⟩
theorem chain {c d : Int} (hv : Pv c d) (u0 : List Int) : ∀ (n : Nat) (a b : Int), Pv a b → 0 ≤ crs a b c d → crs a b c d ≤ n → ∃ L, Ch c d L ∧ L.head? = some [a, b] ∧ L.length ≤ n + 1 ∧
    (∀ out : List (List Int), out.length + n + 2 ≤ 4096 → iter (i_SplitCone_s4 (u0, [c, d])) (out ++ [[a, b]]) = some (out ++ L)) ∧
    (∀ out : List (List Int), out.length + n + 2 ≤ 4096 → ∃ o z, iter (s_SplitCone_s5 (u0, [c, d])) (out, [a, b]) = some (o, z) ∧ o ++ [z] = out ++ L) := by
  have last : ∀ (out : List (List Int)) (u : List Int), out.length ≤ 4096 → inIdx (out ++ [u]).length (IntKind.i64.wrap (((out ++ [u]).length : Int) - 1)) = some () ∧ idx (out ++ [u]) (((IntKind.i64.wrap (((out ++ [u]).length : Int) - 1)).toNat : Int)) = some u := fun out u hl => by
    have hlen : (out ++ [u]).length = out.length + 1 := by simp
    have hw : IntKind.i64.wrap (((out ++ [u]).length : Int) - 1) = (out.length : Int) := by rw [hlen, wrap_id (by omega) (by omega)]; omega
    rw [hw]
    refine ⟨inIdx_nat (by omega), ?_⟩
    rw [Int.toNat_natCast]
    exact idx_some (by simp)
  have done : ∀ (a b : Int), Pv a b → crs a b c d = 0 → ∀ n : Nat, ∃ L, Ch c d L ∧ L.head? = some [a, b] ∧ L.length ≤ n + 1 ∧
      (∀ out : List (List Int), out.length + n + 2 ≤ 4096 → iter (i_SplitCone_s4 (u0, [c, d])) (out ++ [[a, b]]) = some (out ++ L)) ∧
      (∀ out : List (List Int), out.length + n + 2 ≤ 4096 → ∃ o z, iter (s_SplitCone_s5 (u0, [c, d])) (out, [a, b]) = some (o, z) ∧ o ++ [z] = out ++ L) := fun a b hu h0 n => by
    refine ⟨[[a, b]], ⟨a, b, rfl, hu, h0⟩, rfl, by simp, fun out ho => iter_end ?_, fun out ho => ⟨out, [a, b], iter_end ?_, rfl⟩⟩
    · obtain ⟨l1, l2⟩ := last out [a, b] (by omega)
      simp only [i_SplitCone_s4, l1, l2, Option.bind_some, (crs_pv hu hv).1, h0, beq_self_eq_true, cond_true]
    · simp only [s_SplitCone_s5, (crs_pv hu hv).2, Option.bind_some, h0]
      rfl
  intro n
  induction n with
  | zero => intro a b hu h0 h1; exact done a b hu (by omega) 0
  | succ n ih =>
    intro a b hu h0 h1
    by_cases hz : crs a b c d = 0
    · exact done a b hu hz (n + 1)
    · have hD : 0 < crs a b c d := by omega
      obtain ⟨wx, wy, x, y, i1, i2, i3, i4, hN⟩ := i_next hu hv hD
      obtain ⟨x', y', s1, hN'⟩ := s_next hu hv hD
      obtain ⟨rfl, rfl⟩ := hN.uniq hN'
      have hp := hN.pv hu hv
      obtain ⟨L, c1, c2, c3, c4, c5⟩ := ih x y hp hN.lo (by have := hN.hi; omega)
      match L, c1, c2, c3, c4, c5 with
      | z :: r, c1, c2, c3, c4, c5 =>
        simp at c2; subst c2
        refine ⟨[a, b] :: [x, y] :: r, ⟨⟨a, b, x, y, rfl, rfl, hu, hN⟩, c1⟩, rfl, by simp at c3 ⊢; omega, fun out ho => ?_, fun out ho => ?_⟩
        · obtain ⟨l1, l2⟩ := last out [a, b] (by omega)
          have hb : (crs a b c d == 0) = false := by simpa using hz
          have happ : appD 24 (out ++ [[a, b]]) [[x, y]] = some (out ++ [[a, b]] ++ [[x, y]]) := by rw [appD_some (by rw [lim_eq]; simp; omega) (by rw [lim_eq]; simp; omega)]
          rw [iter_next (s' := out ++ [[a, b]] ++ [[x, y]]) (by simp only [i_SplitCone_s4, l1, l2, Option.bind_some, (crs_pv hu hv).1, hb, cond_false, i1, i2, i3, i4, happ])]
          rw [c4 (out ++ [[a, b]]) (by simp; omega)]
          simp
        · have hd : decide (crs a b c d > 0) = true := by simpa using hD
          have happ : appD 24 out [[a, b]] = some (out ++ [[a, b]]) := by rw [appD_some (by rw [lim_eq]; simp; omega) (by rw [lim_eq]; simp; omega)]
          obtain ⟨o, z, q1, q2⟩ := c5 (out ++ [[a, b]]) (by simp; omega)
          refine ⟨o, z, ?_, by rw [q2]; simp⟩
          rw [iter_next (s' := (out ++ [[a, b]], [x, y])) (by simp only [s_SplitCone_s5, (crs_pv hu hv).2, Option.bind_some, hd, cond_true, happ, s1])]
          exact q1
theorem isCn_pv {c : Cn} (h : isCn c = true) : ∃ a b x y, c = ([a, b], [x, y]) ∧ Pv a b ∧ Pv x y ∧ 0 < crs a b x y := by
  obtain ⟨u, v⟩ := c
  simp only [isCn, Bool.and_eq_true, beq_iff_eq, decide_eq_true_eq] at h
  obtain ⟨a, b, ha, h1, h2, h3, h4⟩ := isPt_iff.1 h.1.1.1.1
  obtain ⟨x, y, hb, k1, k2, k3, k4⟩ := isPt_iff.1 h.1.1.1.2
  subst ha; subst hb
  have g1 := h.1.1.2; have g2 := h.1.2
  rw [gcdL_two] at g1 g2
  exact ⟨a, b, x, y, rfl, ⟨h1, h2, h3, h4, by omega⟩, ⟨k1, k2, k3, k4, by omega⟩, h.2⟩
/-- Both split a cone alike. -/
theorem split_eq {c : Cn} (h1 : c.1.length ≤ lim) (h2 : c.2.length ≤ lim) : ∃ L, s_SplitCone c = some L ∧ i_SplitCone c = some L ∧ L.length ≤ 1801 ∧ (isCn c = false → L = []) ∧ (isCn c = true → ∃ x y, c.2 = [x, y] ∧ Pv x y ∧ Ch x y L ∧ L.head? = some c.1) := by
  simp only [s_SplitCone, i_SplitCone, s_IsCone_eq (c := (c.1, c.2)) h1 h2, i_IsCone_eq (c := (c.1, c.2)) h1 h2, Option.bind_some]
  cases hc : isCn c
  · have hc' : isCn (c.1, c.2) = false := hc
    exact ⟨[], by simp [hc'], by simp [hc'], by simp, fun _ => rfl, fun h => by simp at h⟩
  · have hc' : isCn (c.1, c.2) = true := hc
    obtain ⟨a, b, x, y, rfl, hu, hv, hD⟩ := isCn_pv hc
    have hle := cross_le hu hv
    obtain ⟨L, q1, q2, q3, q4, q5⟩ := chain hv [a, b] 1800 a b hu (by omega) (by omega)
    have happ : appD 8 ([] : List Int) [a, b] = some [a, b] := by rw [appD_some (by rw [lim_eq]; simp) (by rw [lim_eq]; simp)]; rfl
    have hcp : i_copyInts [a, b] = some [a, b] := copyInts_eq (by rw [lim_eq]; simp)
    obtain ⟨o, z, w1, w2⟩ := q5 [] (by simp)
    have hi := q4 [] (by simp)
    rw [List.nil_append] at hi w2
    have hol : o.length + 1 = L.length := by rw [← w2]; simp
    have happ2 : appD 24 o [z] = some (o ++ [z]) := by rw [appD_some (by rw [lim_eq]; simp; omega) (by rw [lim_eq]; simp; omega)]
    refine ⟨L, ?_, ?_, by omega, fun h => by simp at h, fun _ => ⟨x, y, rfl, hv, q1, q2⟩⟩
    · simp only [hc', Bool.not_true, cond_false, happ, Option.bind_some, w1, happ2, w2]
    · simp only [hc', Bool.not_true, cond_false, hcp, Option.bind_some]
      rw [hi]; rfl
/-- A chain with the cone forgotten. -/
structure Chn (L : List (List Int)) : Prop where
  len : L.length ≤ 1801
  pv : ∀ u ∈ L, ∃ a b, u = [a, b] ∧ Pv a b
  one : ∀ (k : Nat) (u u' : List Int), L[k]? = some u → L[k + 1]? = some u' → crsL u u' = 1
theorem split_chn {c : Cn} (h1 : c.1.length ≤ lim) (h2 : c.2.length ≤ lim) : ∃ L, s_SplitCone c = some L ∧ i_SplitCone c = some L ∧ Chn L := by
  obtain ⟨L, q1, q2, q3, q4, q5⟩ := split_eq h1 h2
  refine ⟨L, q1, q2, ?_⟩
  cases hc : isCn c
  · rw [q4 hc]
    exact ⟨by simp, by simp, by simp⟩
  · obtain ⟨x, y, _, _, h, _⟩ := q5 hc
    exact ⟨q3, h.pv, h.one⟩
theorem Chn.at {L : List (List Int)} (h : Chn L) {k : Nat} (hk : k < L.length) : ∃ a b, L[k]? = some [a, b] ∧ L.getD k [] = [a, b] ∧ Pv a b := by
  have hx : L[k]? = some L[k] := List.getElem?_eq_getElem hk
  obtain ⟨a, b, e, hp⟩ := h.pv _ (List.getElem_mem hk)
  rw [e] at hx
  exact ⟨a, b, hx, by rw [List.getD_eq_getElem?_getD, hx]; rfl, hp⟩
end Go.Proofs.Ytmdagdopfgiaiaa
