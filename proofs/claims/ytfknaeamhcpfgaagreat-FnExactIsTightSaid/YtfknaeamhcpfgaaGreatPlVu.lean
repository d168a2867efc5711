/-
  Plain: vertices of regions by the reference: rationals in order, the search. No condition.
-/
import Derived.Test.YtfknaeamhcpfgaaGreatPlVt
namespace Go.Proofs.YtfknaeamhcpfgaaGreat
open Go Go.Proofs.YtfknaeamhcpfgaaGreat.Eng
set_option linter.unusedVariables false
set_option linter.unusedSimpArgs false
/-! Rationals in order. -/
def cmpL : List Int → List Int → Int → Int → Int
  | x :: xs, y :: ys, d, e => if x * e = y * d then cmpL xs ys d e else if x * e < y * d then -1 else 1
  | _, _, _, _ => 0
def cmpR (p q : Ra) : Int := cmpL p.1 q.1 p.2 q.2
/-- A rational point of 'n' cells that the reference takes. -/
structure FineR (n : Nat) (p : Ra) : Prop where
  len : p.1.length = n
  den : 1 ≤ p.2 ∧ p.2 ≤ 100000
  cells : ∀ x ∈ p.1, -10000000 ≤ x ∧ x ≤ 10000000
theorem fineR_of {n : Nat} {p : Ra} (h : ratB p = true) (hl : p.1.length = n) : FineR n p := by
  unfold ratB at h
  simp only [Bool.and_eq_true, inR_iff, List.all_eq_true] at h
  exact ⟨hl, h.1, h.2⟩
theorem FineR.rat {n : Nat} {p : Ra} (h : FineR n p) : ratB p = true := by
  unfold ratB
  simp only [Bool.and_eq_true, inR_iff, List.all_eq_true]
  exact ⟨h.den, h.cells⟩
theorem cmpL_anti : ∀ (xs ys : List Int) (d e : Int), cmpL ys xs e d = - cmpL xs ys d e
  | x :: xs, y :: ys, d, e => by
    unfold cmpL
    by_cases h : x * e = y * d
    · rw [if_pos h, if_pos h.symm]; exact cmpL_anti xs ys d e
    · rw [if_neg h, if_neg (Ne.symm h)]
      by_cases h1 : x * e < y * d
      · rw [if_pos h1, if_neg (by omega)]; rfl
      · rw [if_neg h1, if_pos (by omega)]
  | [], [], _, _ => by simp [cmpL]
  | [], _ :: _, _, _ => by simp [cmpL]
  | _ :: _, [], _, _ => by simp [cmpL]
theorem mid_lt {x y z d e f : Int} (hd : 0 < d) (he : 0 < e) (hf : 0 < f) (h1 : x * e ≤ y * d) (h2 : y * f ≤ z * e) : x * f ≤ z * d ∧ (x * e < y * d ∨ y * f < z * e → x * f < z * d) := by
  have a1 : x * e * f ≤ y * d * f := Int.mul_le_mul_of_nonneg_right h1 (by omega)
  have a2 : y * f * d ≤ z * e * d := Int.mul_le_mul_of_nonneg_right h2 (by omega)
  have e1 : x * e * f = e * (x * f) := by rw [Int.mul_assoc, Int.mul_left_comm]
  have e2 : z * e * d = e * (z * d) := by rw [Int.mul_comm z e, Int.mul_assoc]
  have e3 : y * d * f = y * f * d := by rw [Int.mul_assoc, Int.mul_comm d f, Int.mul_assoc]
  refine ⟨Int.le_of_mul_le_mul_left (a := e) (by omega) he, fun h => Int.lt_of_mul_lt_mul_left (a := e) ?_ (by omega)⟩
  rcases h with h | h
  · have : x * e * f < y * d * f := Int.mul_lt_mul_of_pos_right h hf
    omega
  · have : y * f * d < z * e * d := Int.mul_lt_mul_of_pos_right h hd
    omega
theorem cmpL_trans {d e f : Int} (hd : 0 < d) (he : 0 < e) (hf : 0 < f) : ∀ (xs ys zs : List Int), xs.length = ys.length → ys.length = zs.length → cmpL xs ys d e ≤ 0 → cmpL ys zs e f ≤ 0 →
    cmpL xs zs d f ≤ 0 ∧ (cmpL xs ys d e < 0 ∨ cmpL ys zs e f < 0 → cmpL xs zs d f < 0)
  | [], [], [], _, _, _, _ => by simp [cmpL]
  | x :: xs, y :: ys, z :: zs, l1, l2, h1, h2 => by
    simp only [List.length_cons] at l1 l2
    unfold cmpL at h1 h2 ⊢
    have le1 : x * e ≤ y * d := by
      by_cases h : x * e = y * d
      · omega
      · rw [if_neg h] at h1
        by_cases h' : x * e < y * d
        · omega
        · rw [if_neg h'] at h1; omega
    have le2 : y * f ≤ z * e := by
      by_cases h : y * f = z * e
      · omega
      · rw [if_neg h] at h2
        by_cases h' : y * f < z * e
        · omega
        · rw [if_neg h'] at h2; omega
    obtain ⟨m1, m2⟩ := mid_lt hd he hf le1 le2
    by_cases q1 : x * e = y * d
    · by_cases q2 : y * f = z * e
      · obtain ⟨m3, _⟩ := mid_lt (x := z) (y := y) (z := x) hf he hd (by omega) (by omega)
        rw [if_pos q1] at h1 ⊢
        rw [if_pos q2] at h2 ⊢
        rw [if_pos (by omega)]
        exact cmpL_trans hd he hf xs ys zs (by omega) (by omega) h1 h2
      · have := m2 (.inr (by omega))
        rw [if_neg (by omega : ¬ x * f = z * d), if_pos this]
        exact ⟨by omega, fun _ => by omega⟩
    · have := m2 (.inl (by omega))
      rw [if_neg (by omega : ¬ x * f = z * d), if_pos this]
      exact ⟨by omega, fun _ => by omega⟩
  | [], [], _ :: _, _, l, _, _ => by simp at l
  | [], _ :: _, _, l, _, _, _ => by simp at l
  | _ :: _, [], _, l, _, _, _ => by simp at l
  | _ :: _, _ :: _, [], _, l, _, _ => by simp at l
theorem cmpR_trans {n : Nat} {p q r : Ra} (hp : FineR n p) (hq : FineR n q) (hr : FineR n r) (h1 : cmpR p q ≤ 0) (h2 : cmpR q r ≤ 0) : cmpR p r ≤ 0 ∧ (cmpR p q < 0 ∨ cmpR q r < 0 → cmpR p r < 0) :=
  cmpL_trans (by have := hp.den; omega) (by have := hq.den; omega) (by have := hr.den; omega) _ _ _ (hp.len.trans hq.len.symm) (hq.len.trans hr.len.symm) h1 h2
theorem cmpR_anti (p q : Ra) : cmpR q p = - cmpR p q := cmpL_anti _ _ _ _
theorem prod_fine {n : Nat} {p q : Ra} (hp : FineR n p) (hq : FineR n q) {x : Int} (hx : x ∈ p.1) : -1000000000000 ≤ x * q.2 ∧ x * q.2 ≤ 1000000000000 := by
  have h1 := hp.cells x hx
  have h2 := hq.den
  have := abs_mul_le (a := x) (b := q.2) (m := 10000000) (n := 100000) (by omega) (by omega) (by omega) (by omega)
  omega
def exC (x : Int) : Unit ⊕ Int := if x = 0 then .inl () else .inr x
theorem compare_eq {n : Nat} {p q : Ra} (hn : n ≤ 3) (hp : FineR n p) (hq : FineR n q) : s_CompareRationals p q = some (cmpR p q) := by
  have lp := hp.len
  have lq := hq.len
  unfold s_CompareRationals
  rw [s_rational_eq (p := (p.1, p.2)) (by rw [lim_eq]; simp only; omega), s_rational_eq (p := (q.1, q.2)) (by rw [lim_eq]; simp only; omega)]
  rw [show ratB (p.1, p.2) = true from hp.rat, show ratB (q.1, q.2) = true from hq.rat]
  simp only [Option.bind_some, Bool.not_true, cond_false]
  rw [show ((p.1.length : Int) != (q.1.length : Int)) = false from by rw [lp, lq]; simp, cond_false]
  have key : ∀ (d k : Nat), k + d = n → iter (s_CompareRationals_s4 p q) (k : Int) = some (exC (cmpL (p.1.drop k) (q.1.drop k) p.2 q.2)) := by
    intro d
    induction d with
    | zero =>
      intro k hk
      have : p.1.drop k = [] := List.drop_eq_nil_of_le (by omega)
      rw [this]
      refine iter_end ?_
      unfold s_CompareRationals_s4
      rw [show decide ((k : Int) < (p.1.length : Int)) = false from by simp; omega]
      simp [cmpL, exC]
    | succ d ih =>
      intro k hk
      have h1 : p.1[k]? = some (p.1[k]'(by omega)) := List.getElem?_eq_getElem _
      have h2 : q.1[k]? = some (q.1[k]'(by omega)) := List.getElem?_eq_getElem _
      have b1 := prod_fine hp hq (List.getElem_mem (by omega : k < p.1.length))
      have b2 := prod_fine hq hp (List.getElem_mem (by omega : k < q.1.length))
      have st : s_CompareRationals_s4 p q (k : Int) = some (if (p.1[k]'(by omega)) * q.2 = (q.1[k]'(by omega)) * p.2 then .inl ((k : Int) + 1) else .inr (.inr (if (p.1[k]'(by omega)) * q.2 < (q.1[k]'(by omega)) * p.2 then -1 else 1))) := by
        unfold s_CompareRationals_s4
        rw [show decide ((k : Int) < (p.1.length : Int)) = true from by simp; omega, cond_true, idx_some h1, idx_some h2]
        simp only [Option.bind_some]
        rw [wrap_small (by omega) (by omega), wrap_small (by omega) (by omega)]
        by_cases e : (p.1[k]'(by omega)) * q.2 = (q.1[k]'(by omega)) * p.2
        · rw [if_pos e, show ((p.1[k]'(by omega)) * q.2 != (q.1[k]'(by omega)) * p.2) = false from by simpa using e, cond_false, wrap_small (by omega) (by omega)]
        · rw [if_neg e, show ((p.1[k]'(by omega)) * q.2 != (q.1[k]'(by omega)) * p.2) = true from by simpa using e, cond_true]
          by_cases l : (p.1[k]'(by omega)) * q.2 < (q.1[k]'(by omega)) * p.2
          · rw [if_pos l, decide_eq_true l]; rfl
          · rw [if_neg l, decide_eq_false l]; rfl
      rw [List.drop_eq_getElem_cons (by omega : k < p.1.length), List.drop_eq_getElem_cons (by omega : k < q.1.length)]
      unfold cmpL
      by_cases e : (p.1[k]'(by omega)) * q.2 = (q.1[k]'(by omega)) * p.2
      · rw [if_pos e] at st
        rw [if_pos e, iter_next st]
        exact ih (k + 1) (by omega)
      · rw [if_neg e] at st
        rw [if_neg e, iter_end st]
        by_cases l : (p.1[k]'(by omega)) * q.2 < (q.1[k]'(by omega)) * p.2
        · rw [if_pos l]; rfl
        · rw [if_neg l]; rfl
  have k0 := key n 0 (by omega)
  rw [show ((0 : Nat) : Int) = 0 from rfl] at k0
  rw [k0, Option.bind_some]
  simp only [List.drop_zero]
  show (match exC (cmpR p q) with | .inl v8 => some 0 | .inr v9 => some v9) = some (cmpR p q)
  unfold exC
  by_cases h : cmpR p q = 0
  · rw [if_pos h, h]
  · rw [if_neg h]
/-! Putting one into an ordered list, once. -/
def SortR (L : List Ra) : Prop := L.Pairwise fun a b => cmpR a b < 0
def insR (p : Ra) : List Ra → List Ra
  | [] => [p]
  | q :: L => if cmpR p q < 0 then p :: q :: L else if cmpR p q = 0 then q :: L else q :: insR p L
theorem insR_mem {p q : Ra} : ∀ {L : List Ra}, q ∈ insR p L → q = p ∨ q ∈ L
  | [], h => by simp [insR] at h; exact .inl h
  | x :: L, h => by
    unfold insR at h
    split at h
    · rcases List.mem_cons.1 h with h | h
      · exact .inl h
      · exact .inr h
    · split at h
      · exact .inr h
      · rcases List.mem_cons.1 h with h | h
        · exact .inr (by simp [h])
        · rcases insR_mem h with h | h
          · exact .inl h
          · exact .inr (List.mem_cons_of_mem _ h)
theorem insR_keep {p q : Ra} : ∀ {L : List Ra}, q ∈ L → q ∈ insR p L
  | x :: L, h => by
    unfold insR
    split
    · exact List.mem_cons_of_mem _ h
    · split
      · exact h
      · rcases List.mem_cons.1 h with h | h
        · simp [h]
        · exact List.mem_cons_of_mem _ (insR_keep h)
theorem insR_has {p : Ra} : ∀ {L : List Ra}, ∃ q ∈ insR p L, cmpR p q = 0
  | [] => ⟨p, by simp [insR], by
    have := cmpR_anti p p; omega⟩
  | x :: L => by
    unfold insR
    split
    · exact ⟨p, by simp, by have := cmpR_anti p p; omega⟩
    · split
      · exact ⟨x, by simp, by assumption⟩
      · obtain ⟨q, h1, h2⟩ := insR_has (p := p) (L := L)
        exact ⟨q, List.mem_cons_of_mem _ h1, h2⟩
theorem insR_len {p : Ra} : ∀ {L : List Ra}, (insR p L).length ≤ L.length + 1
  | [] => by simp [insR]
  | x :: L => by
    unfold insR
    split
    · simp
    · split
      · simp
      · have := insR_len (p := p) (L := L)
        simp only [List.length_cons]; omega
theorem insR_sort {n : Nat} {p : Ra} (hp : FineR n p) : ∀ {L : List Ra}, (∀ q ∈ L, FineR n q) → SortR L → SortR (insR p L)
  | [], _, _ => by simp [insR, SortR]
  | x :: L, hf, hs => by
    unfold SortR at hs ⊢
    obtain ⟨s1, s2⟩ := List.pairwise_cons.1 hs
    have hx := hf x (by simp)
    unfold insR
    split
    · rename_i h
      refine List.pairwise_cons.2 ⟨fun b hb => ?_, hs⟩
      rcases List.mem_cons.1 hb with rfl | hb
      · exact h
      · exact (cmpR_trans hp hx (hf b (List.mem_cons_of_mem _ hb)) (by omega) (by have := s1 b hb; omega)).2 (.inl h)
    · split
      · exact hs
      · rename_i h1 h2
        refine List.pairwise_cons.2 ⟨fun b hb => ?_, insR_sort hp (fun q hq => hf q (List.mem_cons_of_mem _ hq)) s2⟩
        rcases insR_mem hb with rfl | hb
        · have := cmpR_anti x b
          omega
        · exact s1 b hb
/-- The place where a rational goes. -/
theorem insR_at {n : Nat} {p : Ra} (hp : FineR n p) : ∀ (A B : List Ra), (∀ q ∈ A, FineR n q) → (∀ q ∈ B, cmpR p q < 0) → SortR A → (∀ q, A.getLast? = some q → 0 ≤ cmpR p q) →
    insR p (A ++ B) = if (∃ q, A.getLast? = some q ∧ cmpR p q = 0) then A ++ B else A ++ p :: B
  | [], B, _, hB, _, _ => by
    have : ¬ ∃ q, ([] : List Ra).getLast? = some q ∧ cmpR p q = 0 := by simp
    rw [if_neg this]
    cases B with
    | nil => rfl
    | cons b B => simp only [List.nil_append, insR]; rw [if_pos (hB b (by simp))]
  | [a], B, hf, hB, hs, hl => by
    have h0 := hl a rfl
    simp only [List.singleton_append, insR]
    rw [if_neg (by omega)]
    by_cases h : cmpR p a = 0
    · rw [if_pos h, if_pos ⟨a, rfl, h⟩]
    · rw [if_neg h, if_neg (by rintro ⟨q, hq, h'⟩; simp at hq; subst hq; exact h h')]
      have := insR_at hp [] B (by simp) hB (by simp [SortR]) (by simp)
      simp only [List.nil_append] at this
      rw [this, if_neg (by simp)]
  | a :: b :: A, B, hf, hB, hs, hl => by
    unfold SortR at hs
    obtain ⟨s1, s2⟩ := List.pairwise_cons.1 hs
    have hlast : (a :: b :: A).getLast? = (b :: A).getLast? := by simp [List.getLast?_cons_cons]
    rw [hlast] at hl ⊢
    have hgt : 0 < cmpR p a := by
      have hne : (b :: A) ≠ [] := by simp
      have hm : (b :: A).getLast hne ∈ b :: A := List.getLast_mem _
      have h0 := hl _ (List.getLast?_eq_some_getLast hne)
      have h1 := s1 _ hm
      have h2 := cmpR_anti p ((b :: A).getLast hne)
      have h3 := (cmpR_trans (hf a (by simp)) (hf _ (List.mem_cons_of_mem _ hm)) hp (by omega) (by omega)).2 (.inl h1)
      have h4 := cmpR_anti p a
      omega
    have ih := insR_at hp (b :: A) B (fun q hq => hf q (List.mem_cons_of_mem _ hq)) hB s2 hl
    rw [show (a :: b :: A) ++ B = a :: ((b :: A) ++ B) from rfl]
    rw [show insR p (a :: ((b :: A) ++ B)) = a :: insR p ((b :: A) ++ B) from by
      rw [insR, if_neg (by omega), if_neg (by omega)]]
    rw [ih]
    by_cases h : ∃ q, (b :: A).getLast? = some q ∧ cmpR p q = 0
    · rw [if_pos h, if_pos h]
    · rw [if_neg h, if_neg h]; rfl
theorem put_eq {n : Nat} {p : Ra} {L : List Ra} (hn : n ≤ 3) (hp : FineR n p) (hf : ∀ q ∈ L, FineR n q) (hs : SortR L) (hl : L.length ≤ 100000) : s_l6Put L p = some (insR p L) := by
  obtain ⟨y, e, hy⟩ := iter_run (step := s_l6Put_s2 p) (fun t => t.1 = L ∧ 0 ≤ t.2 ∧ t.2 ≤ L.length ∧ ∀ q ∈ L.drop t.2.toNat, cmpR p q < 0) (fun t => t.2.toNat)
    (fun _ y => y.1 = L ∧ 0 ≤ y.2 ∧ y.2 ≤ L.length ∧ (∀ q ∈ L.drop y.2.toNat, cmpR p q < 0) ∧ ∀ q, (L.take y.2.toNat).getLast? = some q → 0 ≤ cmpR p q) (fun t ht => by
    obtain ⟨M, k⟩ := t
    obtain ⟨g1, g2, g3, g4⟩ := ht
    simp only at g1 g2 g3 g4
    subst g1
    obtain ⟨k, rfl⟩ := Int.eq_ofNat_of_zero_le g2
    simp only [Int.toNat_natCast] at g4 ⊢
    unfold s_l6Put_s2
    simp only
    by_cases hk : 0 < k
    · obtain ⟨j, rfl⟩ : ∃ j, k = j + 1 := ⟨k - 1, by omega⟩
      have wj : IntKind.i64.wrap (((j + 1 : Nat) : Int) - 1) = (j : Int) := by rw [wrap_small (by omega) (by omega)]; omega
      have hj : M[j]? = some (M[j]'(by omega)) := List.getElem?_eq_getElem _
      rw [show decide (((j + 1 : Nat) : Int) > 0) = true from decide_eq_true (by omega), cond_true, wj, inIdx_nat (by omega), Option.bind_some, Int.toNat_natCast, idx_some hj, Option.bind_some, compare_eq hn hp (hf _ (List.getElem_mem _)), Option.bind_some]
      by_cases hc : cmpR p (M[j]'(by omega)) < 0
      · right
        rw [decide_eq_true hc, cond_true]
        refine ⟨_, rfl, ⟨rfl, by simp only; omega, by simp only; omega, fun q hq => ?_⟩, by simp only; omega, fun y hy => hy⟩
        simp only [Int.toNat_natCast] at hq
        rw [List.drop_eq_getElem_cons (by omega : j < M.length)] at hq
        rcases List.mem_cons.1 hq with rfl | hq
        · exact hc
        · exact g4 q hq
      · left
        rw [decide_eq_false hc, cond_false]
        refine ⟨_, rfl, rfl, by simp only; omega, by simp only; omega, by simpa using g4, fun q hq => ?_⟩
        simp only [Int.toNat_natCast] at hq
        rw [List.take_add_one, hj, Option.toList_some, List.getLast?_concat, Option.some.injEq] at hq
        subst hq
        omega
    · left
      have : k = 0 := by omega
      subst this
      rw [show decide (((0 : Nat) : Int) > 0) = false from rfl, cond_false]
      refine ⟨_, rfl, rfl, by simp only; omega, by simp only; omega, by simpa using g4, fun q hq => by simp at hq⟩) (L, (L.length : Int)) ⟨rfl, by simp only; omega, by simp only; omega, fun q hq => by simp at hq⟩
  obtain ⟨M, k⟩ := y
  obtain ⟨g1, g2, g3, g4, g5⟩ := hy
  simp only at g1 g2 g3 g4 g5
  subst g1
  obtain ⟨k, rfl⟩ := Int.eq_ofNat_of_zero_le g2
  simp only [Int.toNat_natCast] at g4 g5
  have hat := insR_at hp (M.take k) (M.drop k) (fun q hq => hf q (List.mem_of_mem_take hq)) g4 (List.Pairwise.sublist (List.take_sublist _ _) hs) g5
  rw [List.take_append_drop] at hat
  have tail : ((subl M (k : Int) (M.length : Int)).bind fun v7 => (subl M (((k : Int)).toNat : Int) (((M.length : Int)).toNat : Int)).bind fun v8 => (appD 32 ([] : List Ra) v8).bind fun v9 => (subl M 0 (k : Int)).bind fun v10 => (appD 32 v10 ([(p.1, p.2)] : List Ra)).bind fun v11 => (appD 32 v11 v9).bind fun v12 => some v12) = some (M.take k ++ p :: M.drop k) := by
    have h1 : subl M (k : Int) (M.length : Int) = some (M.drop k) := by rw [subl_nat (by omega) (by omega), List.take_length]
    rw [Int.toNat_natCast, Int.toNat_natCast, h1]
    simp only [Option.bind_some]
    rw [appD_some (by rw [lim_eq]; simp; omega) (by rw [lim_eq]; simp; omega)]
    simp only [Option.bind_some, List.nil_append]
    have h2 : subl M 0 (k : Int) = some (M.take k) := by
      have := subl_nat (xs := M) (a := 0) (b := k) (by omega) (by omega)
      simpa using this
    rw [h2, Option.bind_some, appD_some (by rw [lim_eq]; simp; omega) (by rw [lim_eq]; simp; omega), Option.bind_some, appD_some (by rw [lim_eq]; simp; omega) (by rw [lim_eq]; simp; omega)]
    simp
  unfold s_l6Put
  rw [e, Option.bind_some]
  simp only
  by_cases hk : 0 < k
  · obtain ⟨j, rfl⟩ : ∃ j, k = j + 1 := ⟨k - 1, by omega⟩
    have wj : IntKind.i64.wrap (((j + 1 : Nat) : Int) - 1) = (j : Int) := by rw [wrap_small (by omega) (by omega)]; omega
    have hj : M[j]? = some (M[j]'(by omega)) := List.getElem?_eq_getElem _
    have hlast : (M.take (j + 1)).getLast? = some (M[j]'(by omega)) := by rw [List.take_add_one, hj, Option.toList_some, List.getLast?_concat]
    rw [show decide (((j + 1 : Nat) : Int) > 0) = true from decide_eq_true (by omega), cond_true, wj, inIdx_nat (by omega), Option.bind_some, Int.toNat_natCast, idx_some hj, Option.bind_some, compare_eq hn hp (hf _ (List.getElem_mem _)), Option.bind_some]
    by_cases hc : cmpR p (M[j]'(by omega)) = 0
    · rw [show (cmpR p (M[j]'(by omega)) == 0) = true from by simpa using hc, cond_true, hat, if_pos ⟨_, hlast, hc⟩]
    · rw [show (cmpR p (M[j]'(by omega)) == 0) = false from by simpa using hc, cond_false, tail, hat, if_neg]
      rintro ⟨q, h1, h2⟩
      rw [hlast] at h1
      simp only [Option.some.injEq] at h1
      subst h1
      exact hc h2
  · have : k = 0 := by omega
    subst this
    rw [show decide (((0 : Nat) : Int) > 0) = false from rfl, cond_false, tail, hat, if_neg]
    simp
/-! The search. -/
/-- Choices of so many elements, in order. -/
def subs {α : Type} : Nat → List α → List (List α)
  | 0, _ => [[]]
  | _ + 1, [] => []
  | m + 1, x :: xs => (subs m xs).map (x :: ·) ++ subs (m + 1) xs
theorem subs_mem {α : Type} : ∀ {m : Nat} {L X : List α}, X ∈ subs m L → X.length = m ∧ ∀ x ∈ X, x ∈ L
  | 0, _, X, h => by simp [subs] at h; subst h; simp
  | _ + 1, [], X, h => by simp [subs] at h
  | m + 1, y :: L, X, h => by
    rw [subs] at h
    rcases List.mem_append.1 h with h | h
    · obtain ⟨Y, hY, rfl⟩ := List.mem_map.1 h
      obtain ⟨h1, h2⟩ := subs_mem hY
      refine ⟨by simp [h1], fun x hx => ?_⟩
      rcases List.mem_cons.1 hx with rfl | hx
      · simp
      · exact List.mem_cons_of_mem _ (h2 x hx)
    · obtain ⟨h1, h2⟩ := subs_mem h
      exact ⟨h1, fun x hx => List.mem_cons_of_mem _ (h2 x hx)⟩
theorem subs_len {α : Type} : ∀ {m : Nat} {L : List α}, (subs m L).length ≤ 2 ^ L.length
  | 0, L => by simp [subs]; exact Nat.one_le_two_pow
  | _ + 1, [] => by simp [subs]
  | m + 1, y :: L => by
    have h1 := subs_len (m := m) (L := L)
    have h2 := subs_len (m := m + 1) (L := L)
    simp only [subs, List.length_append, List.length_map, List.length_cons, Nat.pow_succ]
    omega
/-- What one choice gives. -/
def stepR (r : Rg) (n : Nat) (out : List Ra) (X : List Hf) : List Ra :=
  if (solveL X n).2 && hasRat r (solveL X n).1 then insR (solveL X n).1 out else out
structure OutOk (n : Nat) (L : List Ra) : Prop where
  fine : ∀ q ∈ L, FineR n q
  sort : SortR L
theorem RegOk.sys {r : Rg} {n : Nat} (h : RegOk r n) {X : List Hf} (hl : X.length = n) (hX : ∀ x ∈ X, x ∈ r.2) : Sys n X :=
  ⟨h.lo, h.hi, hl, fun x hx => by
    obtain ⟨a, b, c, d, _⟩ := h.halves x (hX x hx)
    exact ⟨a, fun y hy => by have := b y hy; unfold B3; omega, by unfold B3; omega⟩⟩
theorem solveL_len {n : Nat} {X : List Hf} (h : (solveL X n).2 = true) : (solveL X n).1.1.length = n := by
  unfold solveL at h ⊢
  split
  · rename_i h0; rw [if_pos h0] at h; simp at h
  · split <;> simp [numsL]
theorem hasRat_fine {r : Rg} {n : Nat} {p : Ra} (h : RegOk r n) (hp : hasRat r p = true) : FineR n p := by
  unfold hasRat at hp
  simp only [Bool.and_eq_true, beq_iff_eq] at hp
  exact fineR_of hp.1.1.2 (by have := h.dim; omega)
theorem stepR_ok {r : Rg} {n : Nat} (h : RegOk r n) {out : List Ra} (ho : OutOk n out) (X : List Hf) : OutOk n (stepR r n out X) ∧ (stepR r n out X).length ≤ out.length + 1 := by
  unfold stepR
  split
  · rename_i hc
    simp only [Bool.and_eq_true] at hc
    have hf := hasRat_fine h hc.2
    refine ⟨⟨fun q hq => ?_, insR_sort hf ho.fine ho.sort⟩, insR_len⟩
    rcases insR_mem hq with rfl | hq
    · exact hf
    · exact ho.fine q hq
  · exact ⟨ho, by omega⟩
theorem foldR_ok {r : Rg} {n : Nat} (h : RegOk r n) : ∀ (S : List (List Hf)) {out : List Ra}, OutOk n out → OutOk n (S.foldl (stepR r n) out) ∧ (S.foldl (stepR r n) out).length ≤ out.length + S.length
  | [], out, ho => ⟨ho, by simp⟩
  | X :: S, out, ho => by
    obtain ⟨h1, h2⟩ := stepR_ok h ho X
    obtain ⟨h3, h4⟩ := foldR_ok h S h1
    exact ⟨h3, by simp only [List.foldl_cons, List.length_cons]; omega⟩
theorem choose_eq {r : Rg} {n : Nat} (hr : regB r = true) (h : RegOk r n) : ∀ (m fuel : Nat) (k : Nat) (X : List Hf) (out : List Ra), m + X.length = n → (∀ x ∈ X, x ∈ r.2) → k ≤ r.2.length → OutOk n out → out.length + (subs m (r.2.drop k)).length ≤ 50000 →
    s_l6ChooseR (fuel + m + 1) r (k : Int) X out = some ((subs m (r.2.drop k)).foldl (fun o Y => stepR r n o (X ++ Y)) out) := by
  have hlim : r.2.length ≤ lim := by have := h.len; rw [lim_eq]; omega
  have hhl : ∀ q ∈ r.2, q.1.length ≤ lim := fun q hq => by have := (h.halves q hq).1; have := h.hi; rw [lim_eq]; omega
  have hdim := h.dim
  have hhi := h.hi
  intro m
  induction m with
  | zero =>
    intro fuel k X out hm hX hk ho hb
    show s_l6ChooseB (s_l6ChooseR (fuel + 0)) r (k : Int) X out = _
    unfold s_l6ChooseB
    rw [show ((X.length : Int) == r.1) = true from by simp; omega, cond_true, solve_eq (h.sys (by omega) hX), Option.bind_some]
    have : subs 0 (r.2.drop k) = [[]] := by simp [subs]
    rw [this]
    simp only [List.foldl_cons, List.foldl_nil, List.append_nil]
    unfold stepR
    cases hb2 : (solveL X n).2 with
    | false => simp only [cond_false, Bool.false_and]; rfl
    | true =>
      have hl := solveL_len hb2
      rw [cond_true, hasRatS_eq (r := (r.1, r.2)) (p := ((solveL X n).1.1, (solveL X n).1.2)) hlim hhl (by rw [lim_eq]; simp only; omega), Option.bind_some]
      cases hc : hasRat r (solveL X n).1 with
      | false =>
        rfl
      | true =>
        have := put_eq (p := ((solveL X n).1.1, (solveL X n).1.2)) h.hi (hasRat_fine h hc) ho.fine ho.sort (by simp only [this, List.length_singleton] at hb; omega)
        rw [cond_true, this]; rfl
  | succ m ih =>
    intro fuel k X out hm hX hk ho hb
    show s_l6ChooseB (s_l6ChooseR (fuel + (m + 1))) r (k : Int) X out = _
    unfold s_l6ChooseB
    rw [show ((X.length : Int) == r.1) = false from by simp; omega, cond_false]
    have key : ∀ (L : List Hf) (k : Nat) (out : List Ra), r.2.drop k = L → k ≤ r.2.length → OutOk n out → out.length + (subs (m + 1) L).length ≤ 50000 →
        iter (s_l6Choose_s7 (s_l6ChooseR (fuel + (m + 1))) r X) (out, (k : Int)) = some ((subs (m + 1) L).foldl (fun o Y => stepR r n o (X ++ Y)) out) := by
      intro L
      induction L with
      | nil =>
        intro k out hL hk ho hb
        have hk' : r.2.length ≤ k := List.drop_eq_nil_iff.1 hL
        refine iter_end ?_
        unfold s_l6Choose_s7
        simp only
        rw [show decide ((k : Int) < (r.2.length : Int)) = false from by simp; omega, cond_false]
        simp [subs]
      | cons x L ihL =>
        intro k out hL hk ho hb
        have hlt : k < r.2.length := by
          apply Decidable.byContradiction; intro hn
          rw [List.drop_eq_nil_of_le (by omega)] at hL
          simp at hL
        rw [List.drop_eq_getElem_cons hlt] at hL
        simp only [List.cons.injEq] at hL
        obtain ⟨hx, hL⟩ := hL
        have hg : r.2[k]? = some x := by rw [List.getElem?_eq_getElem hlt, hx]
        have hlen := h.len
        simp only [subs, List.length_append, List.length_map] at hb
        have hrec := ih fuel (k + 1) (X ++ [x]) out (by simp; omega) (fun y hy => by
          rcases List.mem_append.1 hy with hy | hy
          · exact hX y hy
          · simp only [List.mem_singleton] at hy; subst hy; rw [← hx]; exact List.getElem_mem _) (by omega) ho (by rw [hL]; omega)
        rw [hL] at hrec
        have hf := foldR_ok h ((subs m L).map fun Y => X ++ [x] ++ Y) ho
        rw [List.foldl_map] at hf
        simp only [List.length_map] at hf
        have st : s_l6Choose_s7 (s_l6ChooseR (fuel + (m + 1))) r X (out, (k : Int)) = some (.inl ((subs m L).foldl (fun o Y => stepR r n o (X ++ [x] ++ Y)) out, ((k + 1 : Nat) : Int))) := by
          unfold s_l6Choose_s7
          simp only
          rw [show decide ((k : Int) < (r.2.length : Int)) = true from by simp; omega, cond_true, appD_some (by rw [lim_eq]; simp; omega) (by rw [lim_eq]; simp; omega), Option.bind_some, idx_some hg, Option.bind_some, List.nil_append, appD_some (by rw [lim_eq]; simp; omega) (by rw [lim_eq]; simp; omega), Option.bind_some, wrap_small (by omega) (by omega)]
          rw [show fuel + (m + 1) = fuel + m + 1 from rfl]
          have e1 : ((k : Int) + 1) = ((k + 1 : Nat) : Int) := by omega
          rw [e1]
          have hrec' : s_l6ChooseR (fuel + m + 1) (r.1, r.2) ((k + 1 : Nat) : Int) (X ++ [(x.1, x.2)]) out = some ((subs m L).foldl (fun o Y => stepR r n o (X ++ [x] ++ Y)) out) := hrec
          rw [hrec']; rfl
        rw [iter_next st, ihL (k + 1) _ hL (by omega) hf.1 (by omega)]
        rw [subs, List.foldl_append, List.foldl_map]
        simp only [List.append_assoc, List.singleton_append]
    rw [key _ k out rfl hk ho hb]
    rfl
/-- The vertices as the reference finds them. -/
def vertS (r : Rg) : List Ra := if regB r then (subs r.1.toNat r.2).foldl (stepR r r.1.toNat) [] else []
theorem vertS_eq {r : Rg} (hl : r.2.length ≤ lim) (hh : ∀ h ∈ r.2, h.1.length ≤ lim) : s_VerticesOf r = some (vertS r) := by
  unfold s_VerticesOf vertS
  rw [s_IsRegion_eq (r := (r.1, r.2)) hl hh, Option.bind_some]
  cases hr : regB r with
  | false => rfl
  | true =>
    obtain ⟨n, h⟩ := regOk hr
    have hn : r.1.toNat = n := by have := h.dim; omega
    rw [Bool.not_true, cond_false, if_pos rfl, hn]
    have hs := subs_len (m := n) (L := r.2)
    have hp : 2 ^ r.2.length ≤ 2 ^ 8 := Nat.pow_le_pow_right (by omega) h.len
    have hhi := h.hi
    have := choose_eq hr h n (29999 - n) 0 [] [] (by simp) (by simp) (by omega) ⟨by simp, by simp [SortR]⟩ (by simp only [List.drop_zero, List.length_nil]; omega)
    rw [show 29999 - n + n + 1 = 30000 from by omega] at this
    simp only [List.drop_zero, List.nil_append] at this
    have e : s_l6Choose (r.1, r.2) 0 [] [] = some ((subs n r.2).foldl (stepR r n) []) := this
    rw [e]; rfl
theorem vertS_ok {r : Rg} : ∃ n, n ≤ 3 ∧ OutOk n (vertS r) ∧ (vertS r).length ≤ 256 := by
  unfold vertS
  split
  · rename_i hr
    obtain ⟨n, h⟩ := regOk hr
    have hn : r.1.toNat = n := by have := h.dim; omega
    rw [hn]
    have hs := subs_len (m := n) (L := r.2)
    have hp : 2 ^ r.2.length ≤ 2 ^ 8 := Nat.pow_le_pow_right (by omega) h.len
    obtain ⟨h1, h2⟩ := foldR_ok h (subs n r.2) (out := []) ⟨by simp, by simp [SortR]⟩
    exact ⟨n, h.hi, h1, by simp only [List.length_nil] at h2; omega⟩
  · exact ⟨0, by omega, ⟨by simp, by simp [SortR]⟩, by simp⟩
end Go.Proofs.YtfknaeamhcpfgaaGreat
