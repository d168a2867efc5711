/-
  Plain: vertices of regions by the program: sorted, each once; they are the reference's. No condition.
-/
import Derived.Test.YtfknaeamhcpfgaaGreatPlVj
namespace Go.Proofs.YtfknaeamhcpfgaaGreat
open Go Go.Proofs.YtfknaeamhcpfgaaGreat.Eng
set_option linter.unusedVariables false
set_option linter.unusedSimpArgs false
/-! The comparison. -/
theorem compareF_eq {n : Nat} {p q : Ra} (hn : n ≤ 3) (hp : FineR n p) (hq : FineR n q) : i_compareFractions p q = some (cmpR p q) := by
  have lp := hp.len
  have lq := hq.len
  unfold i_compareFractions
  have key : ∀ (d k : Nat), k + d = n → iter (i_compareFractions_s2 p q) (k : Int) = some (exC (cmpL (p.1.drop k) (q.1.drop k) p.2 q.2)) := by
    intro d
    induction d with
    | zero =>
      intro k hk
      have : p.1.drop k = [] := List.drop_eq_nil_of_le (by omega)
      rw [this]
      refine iter_end ?_
      unfold i_compareFractions_s2
      rw [show decide ((k : Int) < (p.1.length : Int)) = false from by simp; omega]
      simp [cmpL, exC]
    | succ d ih =>
      intro k hk
      have h1 : p.1[k]? = some (p.1[k]'(by omega)) := List.getElem?_eq_getElem _
      have h2 : q.1[k]? = some (q.1[k]'(by omega)) := List.getElem?_eq_getElem _
      have b1 := prod_fine hp hq (List.getElem_mem (by omega : k < p.1.length))
      have b2 := prod_fine hq hp (List.getElem_mem (by omega : k < q.1.length))
      have st : i_compareFractions_s2 p q (k : Int) = some (if (p.1[k]'(by omega)) * q.2 = (q.1[k]'(by omega)) * p.2 then .inl ((k : Int) + 1) else .inr (.inr (if (p.1[k]'(by omega)) * q.2 < (q.1[k]'(by omega)) * p.2 then -1 else 1))) := by
        unfold i_compareFractions_s2
        rw [show decide ((k : Int) < (p.1.length : Int)) = true from by simp; omega, cond_true, idx_some h1, idx_some h2]
        simp only [Option.bind_some]
        rw [wrap_small (x := (p.1[k]'(by omega)) * q.2) (by omega) (by omega), wrap_small (x := (q.1[k]'(by omega)) * p.2) (by omega) (by omega), cmp_eq, Option.bind_some]
        by_cases e : (p.1[k]'(by omega)) * q.2 = (q.1[k]'(by omega)) * p.2
        · rw [if_pos e, if_neg (by omega), if_neg (by omega), show ((0 : Int) != 0) = false from rfl, cond_false, wrap_small (by omega) (by omega)]
        · rw [if_neg e]
          by_cases l : (p.1[k]'(by omega)) * q.2 < (q.1[k]'(by omega)) * p.2
          · rw [if_pos l, if_pos l]; rfl
          · rw [if_neg l, if_pos (by omega), if_neg l]; rfl
      rw [List.drop_eq_getElem_cons (by omega : k < p.1.length), List.drop_eq_getElem_cons (by omega : k < q.1.length)]
      unfold cmpL
      by_cases e : (p.1[k]'(by omega)) * q.2 = (q.1[k]'(by omega)) * p.2
      · rw [if_pos e] at st
        rw [if_pos e, iter_next st]
        exact ih (k + 1) (by omega)
      · rw [if_neg e] at st
        rw [if_neg e, iter_end st]
        by_cases l : (p.1[k]'(by omega)) * q.2 < (q.1[k]'(by omega)) * p.2
        · rw [if_pos l]; rfl
        · rw [if_neg l]; rfl
  have k0 := key n 0 (by omega)
  rw [show ((0 : Nat) : Int) = 0 from rfl] at k0
  rw [k0, Option.bind_some]
  simp only [List.drop_zero]
  show (match exC (cmpR p q) with | .inl v6 => some 0 | .inr v7 => some v7) = some (cmpR p q)
  unfold exC
  by_cases h : cmpR p q = 0
  · rw [if_pos h, h]
  · rw [if_neg h]
/-! Sorted. -/
structure PtsOk (n : Nat) (L : List Ra) : Prop where
  fine : ∀ q ∈ L, FineR n q
  red : ∀ q ∈ L, RedR q
theorem cmp_on {n : Nat} {L : List Ra} (hn : n ≤ 3) (h : PtsOk n L) : CmpOn (fun a b => i_compareFractions a b) L := by
  have hc : ∀ a ∈ L, ∀ b ∈ L, i_compareFractions a b = some (cmpR a b) := fun a ha b hb => compareF_eq hn (h.fine a ha) (h.fine b hb)
  have hlt : ∀ a ∈ L, ∀ b ∈ L, ltC (fun a b => i_compareFractions a b) a b = decide (cmpR a b < 0) := fun a ha b hb => by unfold ltC; simp only [hc a ha b hb]
  refine ⟨fun a ha b hb => by rw [hc a ha b hb]; rfl, fun a ha => ?_, fun a ha b hb c hcm h1 h2 => ?_, fun a ha b hb h1 h2 => ?_⟩
  · rw [hlt a ha a ha]
    have := cmpR_anti a a
    simp; omega
  · rw [hlt a ha b hb, decide_eq_true_eq] at h1
    rw [hlt b hb c hcm, decide_eq_true_eq] at h2
    rw [hlt a ha c hcm, decide_eq_true_eq]
    exact (cmpR_trans (h.fine a ha) (h.fine b hb) (h.fine c hcm) (by omega) (by omega)).2 (.inl h1)
  · rw [hlt a ha b hb, decide_eq_false_iff_not] at h1
    rw [hlt b hb a ha, decide_eq_false_iff_not] at h2
    have := cmpR_anti a b
    exact red_same (h.red a ha) (h.red b hb) ((h.fine a ha).len.trans (h.fine b hb).len.symm) (by omega)
noncomputable def sortP (L : List Ra) : List Ra := sortC (fun a b => i_compareFractions a b) L
theorem sortP_eq {n : Nat} {L : List Ra} (hn : n ≤ 3) (h : PtsOk n L) : g_SortFunc_Rational L = some ((), (sortP L, ())) := by
  unfold g_SortFunc_Rational sortRF
  rw [if_pos (cmp_on hn h)]; rfl
theorem sortP_ok {n : Nat} {L : List Ra} (hn : n ≤ 3) (h : PtsOk n L) : (sortP L).Pairwise (fun a b => cmpR a b ≤ 0) ∧ (∀ q, q ∈ sortP L ↔ q ∈ L) ∧ (sortP L).length = L.length := by
  have hp := sortC_perm (fun a b => i_compareFractions a b) L
  have hs := sortC_sorted (cmp_on hn h)
  refine ⟨?_, fun q => hp.mem_iff, hp.length_eq⟩
  refine List.Pairwise.imp_of_mem (fun {a b} ha hb hab => ?_) hs
  have ha := hp.mem_iff.1 ha
  have hb := hp.mem_iff.1 hb
  unfold ltC at hab
  simp only [compareF_eq hn (h.fine b hb) (h.fine a ha)] at hab
  have := cmpR_anti b a
  simp only [decide_eq_false_iff_not] at hab
  omega
/-! Each once. -/
/-- The first ones, each once. -/
def ddN (L : List Ra) : Nat → List Ra
  | 0 => []
  | m + 1 => match L[m]? with
    | none => ddN L m
    | some x => if 0 < m ∧ L[m - 1]? = some x then ddN L m else ddN L m ++ [x]
theorem ddN_ok {n : Nat} {L : List Ra} (h : PtsOk n L) (hs : L.Pairwise fun a b => cmpR a b ≤ 0) : ∀ m, m ≤ L.length → SortR (ddN L m) ∧ (∀ q, q ∈ ddN L m ↔ q ∈ L.take m) ∧ (∀ q, (ddN L m).getLast? = some q → L[m - 1]? = some q)
  | 0, _ => by simp [ddN, SortR]
  | m + 1, hm => by
    obtain ⟨h1, h2, h3⟩ := ddN_ok h hs m (by omega)
    have hx : L[m]? = some (L[m]'(by omega)) := List.getElem?_eq_getElem _
    have htk : L.take (m + 1) = L.take m ++ [L[m]'(by omega)] := by rw [List.take_add_one, hx]; rfl
    have hmx : (L[m]'(by omega)) ∈ L := List.getElem_mem _
    simp only [ddN, hx]
    split
    · rename_i hc
      have hin : (L[m]'(by omega)) ∈ L.take m := by
        obtain ⟨j, rfl⟩ : ∃ j, m = j + 1 := ⟨m - 1, by omega⟩
        have := hc.2
        simp only [Nat.add_sub_cancel] at this
        rw [List.mem_iff_getElem?]
        exact ⟨j, by rw [List.getElem?_take, if_pos (by omega)]; exact this⟩
      refine ⟨h1, fun q => ?_, fun q hq => ?_⟩
      · rw [h2, htk, List.mem_append, List.mem_singleton]
        exact ⟨.inl, fun h => h.elim id fun e => e ▸ hin⟩
      · have := h3 q hq
        rw [hc.2] at this
        rw [Nat.add_sub_cancel, hx]; exact this
    · rename_i hc
      refine ⟨?_, fun q => ?_, fun q hq => ?_⟩
      · unfold SortR at h1 ⊢
        rw [List.pairwise_append]
        refine ⟨h1, List.pairwise_singleton _ _, fun a ha b hb => ?_⟩
        rw [List.mem_singleton] at hb
        subst hb
        have ham := (h2 a).1 ha
        obtain ⟨i, hi⟩ := List.mem_iff_getElem?.1 ham
        rw [List.getElem?_take] at hi
        split at hi
        · rename_i him
          obtain ⟨hil, rfl⟩ := List.getElem?_eq_some_iff.1 hi
          have hle := List.pairwise_iff_getElem.1 hs i m hil (by omega) him
          rcases Int.lt_or_eq_of_le hle with hlt | heq
          · exact hlt
          · exfalso
            -- then the one before is the same too
            have hsame := red_same (h.red _ (List.getElem_mem hil)) (h.red _ hmx) ((h.fine _ (List.getElem_mem hil)).len.trans (h.fine _ hmx).len.symm) heq
            apply hc
            refine ⟨by omega, ?_⟩
            have hp : L[m - 1]? = some (L[m - 1]'(by omega)) := List.getElem?_eq_getElem _
            rw [hp]
            by_cases hi1 : i = m - 1
            · subst hi1; rw [hsame]
            · have g1 := List.pairwise_iff_getElem.1 hs i (m - 1) hil (by omega) (by omega)
              have g2 := List.pairwise_iff_getElem.1 hs (m - 1) m (by omega) (by omega) (by omega)
              rw [hsame] at g1
              have g3 := cmpR_anti (L[m]'(by omega)) (L[m - 1]'(by omega))
              have hpm : (L[m - 1]'(by omega)) ∈ L := List.getElem_mem _
              exact congrArg some (red_same (h.red _ hpm) (h.red _ hmx) ((h.fine _ hpm).len.trans (h.fine _ hmx).len.symm) (by omega))
        · cases hi
      · rw [List.mem_append, h2, htk, List.mem_append]
      · rw [List.getLast?_concat, Option.some.injEq] at hq
        subst hq
        rw [Nat.add_sub_cancel, hx]
theorem eqR_eq {n : Nat} {p q : Ra} (hn : n ≤ 3) (hp : FineR n p) (hq : FineR n q) (rp : RedR p) (rq : RedR q) : i_VerticesOf_2 p q = some (decide (p = q)) := by
  unfold i_VerticesOf_2
  rw [show i_compareFractions (p.1, p.2) (q.1, q.2) = some (cmpR p q) from compareF_eq hn hp hq, Option.bind_some]
  congr 1
  by_cases h : p = q
  · subst h
    have := cmpR_anti p p
    rw [decide_eq_true rfl]
    simp; omega
  · rw [decide_eq_false h]
    have : cmpR p q ≠ 0 := fun h0 => h (red_same rp rq (hp.len.trans hq.len.symm) h0)
    simpa using this
/-- The inner loop: what lies behind the first repetition. -/
theorem compact9 {n : Nat} {L : List Ra} (hn : n ≤ 3) (h : PtsOk n L) (hl : L.length ≤ 100000) {k0 : Nat} (hk0 : 1 ≤ k0) (hk0l : k0 < L.length) (hpre : ddN L k0 = L.take k0) (hrep : ddN L (k0 + 1) = L.take k0) :
    ∃ k : Nat, ∃ A : List Ra, iter (g_CompactFunc_Rational_s9 ((k0 : Int), L)) ((k0 : Int), ((1 : Int), L)) = some ((k : Int), A) ∧ k ≤ A.length ∧ A.length = L.length ∧ A.take k = ddN L L.length := by
  have hev : ∀ (i j : Nat) (hi : i < L.length) (hj : j < L.length), i_VerticesOf_2 L[i] L[j] = some (decide (L[i] = L[j])) := fun i j hi hj =>
    eqR_eq hn (h.fine _ (List.getElem_mem _)) (h.fine _ (List.getElem_mem _)) (h.red _ (List.getElem_mem _)) (h.red _ (List.getElem_mem _))
  obtain ⟨y, e, hy⟩ := iter_run (step := g_CompactFunc_Rational_s9 ((k0 : Int), L)) (fun s => ∃ k j : Nat, s.1 = (k : Int) ∧ s.2.1 = (j : Int) ∧ 1 ≤ j ∧ k0 + j ≤ L.length ∧ k + 1 ≤ k0 + j ∧ s.2.2.length = L.length ∧ s.2.2.take k = ddN L (k0 + j) ∧ s.2.2.drop (k0 + j - 1) = L.drop (k0 + j - 1)) (fun s => (L.length - s.2.1).toNat)
    (fun _ y => ∃ k : Nat, y.1 = (k : Int) ∧ k ≤ y.2.length ∧ y.2.length = L.length ∧ y.2.take k = ddN L L.length) (fun s hs => by
    obtain ⟨s1, s2, A⟩ := s
    obtain ⟨k, j, e1, e2, hj1, hj2, hkj, hA, htk, hdr⟩ := hs
    simp only at e1 e2 hA htk hdr
    subst e1 e2
    have hm : ((((L.length : Int)).toNat - ((k0 : Int)).toNat : Nat) : Int) = ((L.length - k0 : Nat) : Int) := by simp
    have hmn : ((L.length : Int)).toNat - ((k0 : Int)).toNat = L.length - k0 := by simp
    unfold g_CompactFunc_Rational_s9
    simp only
    rw [hmn]
    by_cases hj : k0 + j < L.length
    · right
      have hge : ∀ i, k0 + j - 1 ≤ i → A[i]? = L[i]? := fun i hi => by
        have h1 := congrArg (fun l => l[i - (k0 + j - 1)]?) hdr
        simp only [List.getElem?_drop] at h1
        rwa [show k0 + j - 1 + (i - (k0 + j - 1)) = i from by omega] at h1
      have a1 : A[k0 + j]? = some (L[k0 + j]'hj) := by rw [hge _ (by omega)]; exact List.getElem?_eq_getElem _
      have a2 : A[k0 + (j - 1)]? = some (L[k0 + (j - 1)]'(by omega)) := by rw [hge _ (by omega)]; exact List.getElem?_eq_getElem _
      have wj : IntKind.i64.wrap ((j : Int) - 1) = ((j - 1 : Nat) : Int) := by rw [wrap_small (by omega) (by omega)]; omega
      have i1 : inIdx (L.length - k0) (j : Int) = some () := inIdx_nat (by omega)
      have i2 : inIdx (L.length - k0) ((j - 1 : Nat) : Int) = some () := inIdx_nat (by omega)
      rw [show decide ((j : Int) < ((L.length - k0 : Nat) : Int)) = true from by simp; omega, cond_true, i1, Option.bind_some, Int.toNat_natCast, Int.toNat_natCast, idx_some a1, Option.bind_some, wj, i2, Option.bind_some, Int.toNat_natCast, idx_some a2, Option.bind_some]
      rw [hev _ _ hj (by omega), Option.bind_some]
      have hdd : ddN L (k0 + j + 1) = if L[k0 + j]'hj = L[k0 + (j - 1)]'(by omega) then ddN L (k0 + j) else ddN L (k0 + j) ++ [L[k0 + j]'hj] := by
        rw [ddN, List.getElem?_eq_getElem hj]
        simp only
        have e3 : k0 + j - 1 = k0 + (j - 1) := by omega
        rw [e3, List.getElem?_eq_getElem (by omega : k0 + (j - 1) < L.length)]
        by_cases q : L[k0 + j]'hj = L[k0 + (j - 1)]'(by omega)
        · rw [if_pos q, if_pos ⟨by omega, by rw [q]⟩]
        · rw [if_neg q, if_neg (fun hc => q (Option.some.inj hc.2).symm)]
      by_cases q : L[k0 + j]'hj = L[k0 + (j - 1)]'(by omega)
      · rw [decide_eq_true q, Bool.not_true, cond_false, wrap_small (by omega) (by omega)]
        refine ⟨_, rfl, ⟨k, j + 1, rfl, by simp, by omega, by omega, by omega, hA, ?_, ?_⟩, by simp only; omega, fun y hy => hy⟩
        · rw [htk, show k0 + (j + 1) = k0 + j + 1 from rfl, hdd, if_pos q]
        · have := congrArg (List.drop 1) hdr
          simp only [List.drop_drop] at this
          rw [show k0 + (j + 1) - 1 = k0 + j - 1 + 1 from by omega]
          exact this
      · have hk : k < A.length := by omega
        rw [decide_eq_false q, Bool.not_false, cond_true, inIdx_nat hk, Option.bind_some, Option.bind_some, Int.toNat_natCast, inIdx_nat hk, Option.bind_some, wrap_small (by omega) (by omega), wrap_small (by omega) (by omega)]
        refine ⟨_, rfl, ⟨k + 1, j + 1, by simp, by simp, by omega, by omega, by omega, by simpa using hA, ?_, ?_⟩, by simp only; omega, fun y hy => hy⟩
        · rw [show k0 + (j + 1) = k0 + j + 1 from rfl, hdd, if_neg q, ← htk]
          have hgk : (A.set k ((L[k0 + j]'hj).1, (L[k0 + j]'hj).2))[k]? = some (L[k0 + j]'hj) := by rw [List.getElem?_set, if_pos rfl, if_pos hk]
          rw [List.take_add_one, hgk, List.take_set_of_le (Nat.le_refl _)]
          rfl
        · rw [show k0 + (j + 1) - 1 = k0 + j - 1 + 1 from by omega, List.drop_set_of_lt (by omega)]
          have := congrArg (List.drop 1) hdr
          simp only [List.drop_drop] at this
          exact this
    · left
      have hjl : k0 + j = L.length := by omega
      rw [show decide ((j : Int) < ((L.length - k0 : Nat) : Int)) = false from by simp; omega, cond_false]
      exact ⟨_, rfl, k, rfl, by simp only; omega, hA, by rw [htk, hjl]⟩) ((k0 : Int), ((1 : Int), L)) ⟨k0, 1, rfl, rfl, by omega, by omega, by omega, rfl, hrep.symm, rfl⟩
  obtain ⟨y1, A⟩ := y
  obtain ⟨k, e1, h1, h2, h3⟩ := hy
  simp only at e1 h1 h2 h3
  subst e1
  exact ⟨k, A, e, h1, h2, h3⟩
theorem ddN_full {L : List Ra} (h : L.length < 2) : ddN L L.length = L := by
  match L, h with
  | [], _ => rfl
  | [a], _ => rfl
  | _ :: _ :: _, h => simp at h; omega
theorem compact_eq {n : Nat} {L : List Ra} (hn : n ≤ 3) (h : PtsOk n L) (hl : L.length ≤ 100000) : g_CompactFunc_Rational L = some (ddN L L.length) := by
  have hev : ∀ (i j : Nat) (hi : i < L.length) (hj : j < L.length), i_VerticesOf_2 L[i] L[j] = some (decide (L[i] = L[j])) := fun i j hi hj =>
    eqR_eq hn (h.fine _ (List.getElem_mem _)) (h.fine _ (List.getElem_mem _)) (h.red _ (List.getElem_mem _)) (h.red _ (List.getElem_mem _))
  unfold g_CompactFunc_Rational
  by_cases h2 : L.length < 2
  · rw [show decide ((L.length : Int) < 2) = true from by simp; omega, cond_true, ddN_full h2]
  · rw [show decide ((L.length : Int) < 2) = false from by simp; omega, cond_false]
    obtain ⟨y, e, hy⟩ := iter_run (step := g_CompactFunc_Rational_s4) (fun s => ∃ k : Nat, s.1 = (k : Int) ∧ 1 ≤ k ∧ k ≤ L.length ∧ s.2 = L ∧ ddN L k = L.take k) (fun s => (L.length - s.1).toNat)
      (fun _ y => y = .inl (ddN L L.length) ∨ y = .inr (ddN L L.length)) (fun s hs => by
      obtain ⟨s1, A⟩ := s
      obtain ⟨k, e1, hk1, hkl, e2, hdd⟩ := hs
      simp only at e1 e2
      subst e1 e2
      unfold g_CompactFunc_Rational_s4
      simp only
      by_cases hk : k < A.length
      · have wk : IntKind.i64.wrap ((k : Int) - 1) = ((k - 1 : Nat) : Int) := by rw [wrap_small (by omega) (by omega)]; omega
        have a1 : A[k]? = some (A[k]'hk) := List.getElem?_eq_getElem _
        have a2 : A[k - 1]? = some (A[k - 1]'(by omega)) := List.getElem?_eq_getElem _
        rw [show decide ((k : Int) < (A.length : Int)) = true from by simp; omega, cond_true, inIdx_nat hk, Option.bind_some, Int.toNat_natCast, idx_some a1, Option.bind_some, wk, inIdx_nat (by omega : k - 1 < A.length), Option.bind_some, Int.toNat_natCast, idx_some a2, Option.bind_some, hev _ _ hk (by omega), Option.bind_some]
        have hdd1 : ddN A (k + 1) = if A[k]'hk = A[k - 1]'(by omega) then ddN A k else ddN A k ++ [A[k]'hk] := by
          rw [ddN, a1]
          simp only
          rw [a2]
          by_cases q : A[k]'hk = A[k - 1]'(by omega)
          · rw [if_pos q, if_pos ⟨by omega, by rw [q]⟩]
          · rw [if_neg q, if_neg (fun hc => q (Option.some.inj hc.2).symm)]
        by_cases q : A[k]'hk = A[k - 1]'(by omega)
        · left
          rw [decide_eq_true q, cond_true]
          obtain ⟨m, B, g1, g2, g3, g4⟩ := compact9 hn h hl hk1 hk hdd (by rw [hdd1, if_pos q, hdd])
          have s1 : subl A (k : Int) (A.length : Int) = some (A.drop k) := by
            rw [subl_nat (by omega) (by omega), List.take_length]
          have s2 : subl B (m : Int) (B.length : Int) = some (B.drop m) := by
            rw [subl_nat (by omega) (by omega), List.take_length]
          have hcl : clrD ((m : Int)).toNat ((B.length : Int)).toNat B.length = some () := by
            unfold clrD; rw [if_pos ⟨by simp; omega, by simp⟩]
          rw [s1, Option.bind_some, g1, Option.bind_some]
          simp only
          rw [s2, Option.bind_some, hcl, Option.bind_some]
          have s3 : subl (B.take ((m : Int)).toNat ++ List.replicate (((B.length : Int)).toNat - ((m : Int)).toNat) (([] : List Int), (0 : Int))) 0 (m : Int) = some (B.take m) := by
            simp only [Int.toNat_natCast]
            have := subl_nat (xs := B.take m ++ List.replicate (B.length - m) (([] : List Int), (0 : Int))) (a := 0) (b := m) (by omega) (by simp; omega)
            rw [show ((0 : Nat) : Int) = 0 from rfl] at this
            rw [this, List.drop_zero, List.take_append_of_le_length (by simp; omega), List.take_take, Nat.min_self]
          rw [s3, Option.bind_some]
          exact ⟨_, rfl, .inr (by rw [g4])⟩
        · right
          rw [decide_eq_false q, cond_false, wrap_small (by omega) (by omega)]
          refine ⟨_, rfl, ⟨k + 1, by simp, by omega, by omega, rfl, ?_⟩, by simp only; omega, fun y hy => hy⟩
          rw [hdd1, if_neg q, hdd, List.take_add_one, a1]; rfl
      · left
        have : k = A.length := by omega
        subst this
        rw [show decide ((A.length : Int) < (A.length : Int)) = false from by simp, cond_false]
        exact ⟨_, rfl, .inl (by rw [hdd, List.take_length])⟩) ((1 : Int), L) ⟨1, rfl, by omega, by omega, rfl, by
        match L, h2 with
        | a :: L, _ => rfl
        | [], h2 => simp at h2⟩
    rw [e, Option.bind_some]
    rcases hy with rfl | rfl <;> rfl
/-! The program's list is the reference's. -/
theorem pts_ok {r : Rg} {n : Nat} (h : RegOk r n) {S : List (List Hf)} (hS : ∀ X ∈ S, X.length = n ∧ ∀ x ∈ X, x ∈ r.2) : PtsOk n (S.filterMap (ptsI r n)) := by
  have key : ∀ q ∈ S.filterMap (ptsI r n), FineR n q ∧ RedR q := fun q hq => by
    obtain ⟨X, hX, hp⟩ := List.mem_filterMap.1 hq
    obtain ⟨h1, h2⟩ := hS X hX
    unfold ptsI at hp
    split at hp
    · rename_i hc
      simp only [Bool.and_eq_true] at hc
      obtain rfl := Option.some.inj hp
      have h0 : det (normals X) ≠ 0 := fun h0 => by
        have := hc.1
        unfold solveL at this
        rw [if_pos h0] at this
        cases this
      rw [solve_red h0]
      exact solve_fine h h1 h2 h0
    · cases hp
  exact ⟨fun q hq => (key q hq).1, fun q hq => (key q hq).2⟩
theorem foldR_mem {r : Rg} {n : Nat} (h : RegOk r n) : ∀ (S : List (List Hf)) (out : List Ra), (∀ X ∈ S, X.length = n ∧ ∀ x ∈ X, x ∈ r.2) → PtsOk n out → ∀ q, q ∈ S.foldl (stepR r n) out ↔ q ∈ out ∨ q ∈ S.filterMap (ptsI r n)
  | [], out, _, _, q => by simp
  | X :: S, out, hS, ho, q => by
    have hX := pts_ok h (S := [X]) (fun Y hY => hS Y (by simp only [List.mem_singleton] at hY; subst hY; simp))
    have hmem : ∀ q, q ∈ stepR r n out X ↔ q ∈ out ∨ ptsI r n X = some q := fun q => by
      unfold stepR
      have he : ptsI r n X = if (solveL X n).2 && hasRat r (solveL X n).1 then some (solveL X n).1 else none := rfl
      by_cases hc : ((solveL X n).2 && hasRat r (solveL X n).1) = true
      · rw [if_pos hc] at he ⊢
        rw [he]
        have hp : (solveL X n).1 ∈ [X].filterMap (ptsI r n) := by simp [he]
        constructor
        · intro hq
          rcases insR_mem hq with rfl | hq
          · exact .inr rfl
          · exact .inl hq
        · rintro (hq | hq)
          · exact insR_keep hq
          · obtain rfl := Option.some.inj hq
            obtain ⟨z, hz1, hz2⟩ := insR_has (p := (solveL X n).1) (L := out)
            rcases insR_mem hz1 with rfl | hz
            · exact hz1
            · have := red_same (hX.red _ hp) (ho.red z hz) ((hX.fine _ hp).len.trans (ho.fine z hz).len.symm) hz2
              exact this.symm ▸ hz1
      · rw [if_neg hc] at he ⊢
        rw [he]; simp
    have ho2 : PtsOk n (stepR r n out X) := by
      have key : ∀ q ∈ stepR r n out X, FineR n q ∧ RedR q := fun q hq => by
        rcases (hmem q).1 hq with hq | hq
        · exact ⟨ho.fine q hq, ho.red q hq⟩
        · have : q ∈ [X].filterMap (ptsI r n) := by simp [hq]
          exact ⟨hX.fine q this, hX.red q this⟩
      exact ⟨fun q hq => (key q hq).1, fun q hq => (key q hq).2⟩
    rw [List.foldl_cons, foldR_mem h S _ (fun Y hY => hS Y (List.mem_cons_of_mem _ hY)) ho2 q, hmem, List.filterMap_cons]
    cases ptsI r n X with
    | none => simp
    | some z =>
      simp only [Option.some.injEq, List.mem_cons]
      constructor
      · rintro ((a | a) | a)
        · exact .inl a
        · exact .inr (.inl a.symm)
        · exact .inr (.inr a)
      · rintro (a | a | a)
        · exact .inl (.inl a)
        · exact .inl (.inr a.symm)
        · exact .inr a
theorem sortR_nodup {L : List Ra} (h : SortR L) : L.Nodup := by
  unfold SortR at h
  refine List.Pairwise.imp (fun {a b} hab he => ?_) h
  subst he
  have := cmpR_anti a a
  omega
theorem sortR_unique {n : Nat} {K L : List Ra} (hK : SortR K) (hL : SortR L) (h : ∀ q, q ∈ K ↔ q ∈ L) : K = L := by
  have hp : K.Perm L := (List.perm_ext_iff_of_nodup (sortR_nodup hK) (sortR_nodup hL)).2 h
  refine List.Perm.eq_of_pairwise (le := fun a b => cmpR a b < 0) (fun a b _ _ h1 h2 => ?_) hK hL hp
  have := cmpR_anti a b
  omega
theorem i_vertices_eq {r : Rg} (hl : r.2.length ≤ lim) (hh : ∀ h ∈ r.2, h.1.length ≤ lim) : i_VerticesOf r = some (vertS r) := by
  unfold i_VerticesOf
  rw [i_IsRegion_eq (r := (r.1, r.2)) hl hh, Option.bind_some]
  unfold vertS
  cases hr : regB r with
  | false =>
    rfl
  | true =>
    obtain ⟨n, h⟩ := regOk hr
    have hn : r.1.toNat = n := by have := h.dim; omega
    rw [Bool.not_true, cond_false, if_pos rfl, hn]
    have hs := subs_len (m := n) (L := r.2)
    have hp : 2 ^ r.2.length ≤ 2 ^ 8 := Nat.pow_le_pow_right (by omega) h.len
    have hhi := h.hi
    have hpick := pick_eq hr h n (29999 - n) 0 [] [] (by simp) (by simp) (by omega) (by simp only [List.drop_zero, List.length_nil]; omega)
    rw [show 29999 - n + n + 1 = 30000 from by omega] at hpick
    simp only [List.drop_zero, List.nil_append] at hpick
    have e : i_VerticesOf_1 (r.1, r.2) 0 [] [] = some ((subs n r.2).filterMap (ptsI r n)) := hpick
    have hS : ∀ X ∈ subs n r.2, X.length = n ∧ ∀ x ∈ X, x ∈ r.2 := fun X hX => subs_mem hX
    have hok := pts_ok h hS
    have hlen : ((subs n r.2).filterMap (ptsI r n)).length ≤ 256 := by
      have := List.length_filterMap_le (ptsI r n) (subs n r.2)
      omega
    rw [e, Option.bind_some, sortP_eq hhi hok, Option.bind_some]
    simp only
    obtain ⟨s1, s2, s3⟩ := sortP_ok hhi hok
    have hok2 : PtsOk n (sortP ((subs n r.2).filterMap (ptsI r n))) := ⟨fun q hq => hok.fine q ((s2 q).1 hq), fun q hq => hok.red q ((s2 q).1 hq)⟩
    rw [compact_eq hhi hok2 (by omega), Option.bind_some]
    congr 1
    obtain ⟨d1, d2, _⟩ := ddN_ok hok2 s1 _ (Nat.le_refl _)
    obtain ⟨f1, _⟩ := foldR_ok h (subs n r.2) (out := []) ⟨by simp, by simp [SortR]⟩
    refine sortR_unique (n := n) d1 f1.sort fun q => ?_
    rw [d2, List.take_length, s2, foldR_mem h _ _ hS ⟨by simp, by simp⟩]
    simp
end Go.Proofs.YtfknaeamhcpfgaaGreat
