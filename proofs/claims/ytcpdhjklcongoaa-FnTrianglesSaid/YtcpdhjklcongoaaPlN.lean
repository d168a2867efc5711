/-
  The whole points of a polygon in the reference; empty triangles. Plain, no condition.
-/
import Derived.Test.YtcpdhjklcongoaaPlJ
namespace Go.Proofs.Ytcpdhjklcongoaa
open Go Go.Proofs.Ytcpdhjklcongoaa.Eng
open Hull (Pt tn lx at_ at_some at_mem)
set_option linter.unusedVariables false
set_option linter.unusedSimpArgs false
def rowF (P : List Pt) (x : Int) : List (List Int) := (row x (lo (·.2) P) (hi (·.2) P)).filter fun v => decide (inP P (toP v))
theorem ptsP_eq (P : List Pt) : ptsP P = (rng (lo (·.1) P) (hi (·.1) P)).flatMap (rowF P) := by
  unfold ptsP box rowF
  rw [latt2, List.filter_flatMap]
theorem row_get {x a b : Int} {k : Nat} (h : k < (b + 1 - a).toNat) : (row x a b)[k]? = some (em (x, a + (k : Int))) := by
  unfold row
  rw [List.getElem?_map, rng_get h]; rfl
theorem row_len (x a b : Int) : (row x a b).length = (b + 1 - a).toNat := by unfold row; rw [List.length_map, rng_len]
theorem rowF_len {P : List Pt} (hB : ∀ q ∈ P, Bd 50 q) (hP : 0 < P.length) (x : Int) : (rowF P x).length ≤ 101 := by
  have h2 := box_bd hB hP (·.2) fun q h => ⟨h.2.2.1, h.2.2.2⟩
  have := List.length_filter_le (fun v => decide (inP P (toP v))) (row x (lo (·.2) P) (hi (·.2) P))
  rw [row_len] at this
  unfold rowF
  omega
theorem flat_len {P : List Pt} (hB : ∀ q ∈ P, Bd 50 q) (hP : 0 < P.length) : (l : List Int) → (l.flatMap (rowF P)).length ≤ 101 * l.length
  | [] => by simp
  | x :: l => by
    have := flat_len hB hP l
    have := rowF_len hB hP x
    rw [List.flatMap_cons, List.length_append, List.length_cons]
    omega
theorem l7Points_eq {P : List Pt} (hB : ∀ q ∈ P, Bd 50 q) (hP : 0 < P.length) (hl : P.length ≤ 1000) (h0 : ∀ q ∈ P, (at_ P 0).1 ≤ q.1) : s_l7Points (P.map em) = some (ptsP P) := by
  have i0 : idx (P.map em) 0 = some (em (at_ P 0)) := idxP hP
  have hx0 : lo (·.1) P = (at_ P 0).1 := by
    obtain ⟨a1, q, a2, a3⟩ := lo_spec (·.1) hP
    have := a1 _ (at_mem hP)
    have := h0 q a2
    omega
  have bx := box_bd hB hP (·.1) fun q h => ⟨h.1, h.2.1⟩
  have bY := box_bd hB hP (·.2) fun q h => ⟨h.2.2.1, h.2.2.2⟩
  have A := iter_up (step := s_l7Points_s6 (P.map em)) P.length (fun k => (([] : List (List Int)), ((P.take k).foldl (fun m q => mn m q.2) (at_ P 0).2, ((P.take k).foldl (fun m q => mx m q.2) (at_ P 0).2, ((P.take k).foldl (fun m q => mx m q.1) (at_ P 0).1, (k : Int)))))) ([], (lo (·.2) P, (hi (·.2) P, hi (·.1) P))) (fun k hk => by
    unfold s_l7Points_s6
    have hd : decide ((k : Int) < ((P.map em).length : Int)) = true := by simp; omega
    simp only [hd, cond_true, idxP hk, Option.bind_some, (idx_em (at_ P k)).1, (idx_em (at_ P k)).2, l1Min_eq, l1Max_eq]
    rw [wrap_small (by omega) (by omega), foldl_take_succ _ (at_some hk), foldl_take_succ _ (at_some hk), foldl_take_succ _ (at_some hk)]
    rfl) (by
    unfold s_l7Points_s6
    simp [lo, hi])
  have inner : ∀ (v17 : List (List Int) × Int × Int × Int) (x : Int) (out : List (List Int)), v17.2.2.1 = hi (·.2) P → v17.2.1 = lo (·.2) P → -50 ≤ x → x ≤ 50 → out.length ≤ 100000 → ∀ v20 : List (List Int) × Int, v20.2 = x → iter (s_l7Points_s15 (P.map em) v17 v20) (out, lo (·.2) P) = some (out ++ rowF P x) := fun v17 x out e1 e2 x1 x2 ho v20 ev => by
    have := iter_up (step := s_l7Points_s15 (P.map em) v17 v20) (hi (·.2) P + 1 - lo (·.2) P).toNat (fun k => (out ++ ((row x (lo (·.2) P) (hi (·.2) P)).take k).filter (fun v => decide (inP P (toP v))), lo (·.2) P + (k : Int))) (out ++ rowF P x) (fun k hk => by
      unfold s_l7Points_s15
      have hd : decide (lo (·.2) P + (k : Int) ≤ v17.2.2.1) = true := by rw [e1]; simp; omega
      have hq : Bd 50 (x, lo (·.2) P + (k : Int)) := by unfold Bd; simp only; omega
      obtain ⟨v, _, p2, p3⟩ := place_eq (by decide) hB hl hq
      have p2' : s_l7Place (P.map em) [v20.2, lo (·.2) P + (k : Int)] = some v := by rw [ev]; exact p2
      have hlen := List.length_filter_le (fun v => decide (inP P (toP v))) ((row x (lo (·.2) P) (hi (·.2) P)).take k)
      rw [List.length_take] at hlen
      simp only [hd, cond_true, p2', Option.bind_some]
      rw [p3, wrap_small (by omega) (by omega), filter_take_succ _ (row_get hk)]
      rw [show (toP (em (x, lo (·.2) P + (k : Int)))) = (x, lo (·.2) P + (k : Int)) from rfl]
      rw [appD_some (by simp [lim_eq]; omega) (by simp [lim_eq]; omega), ev]
      cases decide (inP P (x, lo (·.2) P + (k : Int))) with
      | true =>
        simp only [cond_true, Option.bind_some, if_true, List.append_assoc]
        rw [Int.add_assoc]; rfl
      | false =>
        simp only [cond_false, Bool.false_eq_true, if_false, List.append_nil]
        rw [Int.add_assoc]; rfl) (by
      unfold s_l7Points_s15
      have hd : decide (lo (·.2) P + ((hi (·.2) P + 1 - lo (·.2) P).toNat : Int) ≤ v17.2.2.1) = false := by rw [e1]; simp; omega
      simp only [hd, cond_false]
      rw [List.take_of_length_le (by rw [row_len]; exact Nat.le_refl _)]
      rfl)
    simpa using this
  have B := iter_up (step := s_l7Points_s12 (P.map em) ([], (lo (·.2) P, (hi (·.2) P, hi (·.1) P)))) (hi (·.1) P + 1 - lo (·.1) P).toNat (fun k => (((rng (lo (·.1) P) (hi (·.1) P)).take k).flatMap (rowF P), lo (·.1) P + (k : Int))) (ptsP P) (fun k hk => by
    have hf := flat_len hB hP ((rng (lo (·.1) P) (hi (·.1) P)).take k)
    rw [List.length_take] at hf
    unfold s_l7Points_s12
    have hd : decide (lo (·.1) P + (k : Int) ≤ hi (·.1) P) = true := by simp; omega
    simp only [hd, cond_true]
    rw [inner _ (lo (·.1) P + (k : Int)) _ rfl rfl (by omega) (by omega) (by omega) _ rfl]
    simp only [Option.bind_some]
    rw [wrap_small (by omega) (by omega)]
    have e : (rng (lo (·.1) P) (hi (·.1) P)).take (k + 1) = (rng (lo (·.1) P) (hi (·.1) P)).take k ++ [lo (·.1) P + (k : Int)] := by rw [List.take_add_one, rng_get hk]; rfl
    rw [e, List.flatMap_append, Int.add_assoc]
    simp) (by
    unfold s_l7Points_s12
    have hd : decide (lo (·.1) P + ((hi (·.1) P + 1 - lo (·.1) P).toNat : Int) ≤ hi (·.1) P) = false := by simp; omega
    simp only [hd, cond_false]
    rw [List.take_of_length_le (by rw [rng_len]; exact Nat.le_refl _), ptsP_eq])
  unfold s_l7Points
  simp only [i0, Option.bind_some, (idx_em (at_ P 0)).1, (idx_em (at_ P 0)).2]
  have eA : (([], ((at_ P 0).2, ((at_ P 0).2, ((at_ P 0).1, 0)))) : List (List Int) × Int × Int × Int × Int) = ([], ((P.take 0).foldl (fun m q => mn m q.2) (at_ P 0).2, ((P.take 0).foldl (fun m q => mx m q.2) (at_ P 0).2, ((P.take 0).foldl (fun m q => mx m q.1) (at_ P 0).1, ((0 : Nat) : Int))))) := rfl
  rw [eA, A]
  simp only [Option.bind_some]
  have eB : (([], (at_ P 0).1) : List (List Int) × Int) = (((rng (lo (·.1) P) (hi (·.1) P)).take 0).flatMap (rowF P), lo (·.1) P + ((0 : Nat) : Int)) := by simp [hx0]
  rw [eB, B]; rfl
/-! Triangles. -/
theorem sd2 (X Y Z q : Pt) : sd [X, Y, Z] q 0 = tn X Y q ∧ sd [X, Y, Z] q 1 = tn Y Z q ∧ sd [X, Y, Z] q 2 = tn Z X q := by
  simp [sd, at_]
theorem inP3 {X Y Z q : Pt} : inP [X, Y, Z] q ↔ 0 ≤ tn X Y q ∧ 0 ≤ tn Y Z q ∧ 0 ≤ tn Z X q := by
  constructor
  · intro h
    obtain ⟨e0, e1, e2⟩ := sd2 X Y Z q
    rw [← e0, ← e1, ← e2]
    exact ⟨h 0 (by simp), h 1 (by simp), h 2 (by simp)⟩
  · rintro ⟨h1, h2, h3⟩ k hk
    have : k = 0 ∨ k = 1 ∨ k = 2 := by simp at hk; omega
    obtain ⟨e0, e1, e2⟩ := sd2 X Y Z q
    rcases this with rfl | rfl | rfl
    · rw [e0]; exact h1
    · rw [e1]; exact h2
    · rw [e2]; exact h3
theorem pol3 {X Y Z : Pt} (h1 : lx X Y) (h2 : lx X Z) (h : 0 < tn X Y Z) : Hull.Pol [X, Y, Z] := by
  rw [Hull.pol_chk (by simp)]
  intro k hk
  have : k = 0 ∨ k = 1 ∨ k = 2 := by simp at hk; omega
  have c1 : 0 < tn Y Z X := by rw [Hull.tn_cyc]; exact h
  have c2 : 0 < tn Z X Y := by rw [Hull.tn_cyc]; exact c1
  rcases this with rfl | rfl | rfl
  · simpa [Hull.chk, at_] using h
  · simp [Hull.chk, at_]
    exact ⟨c1, h1, h⟩
  · simp [Hull.chk, at_]
    exact ⟨c2, h2⟩
theorem tri_rot {A B C : Pt} (h : 0 < tn A B C) : ∃ X Y Z, Hull.Pol [X, Y, Z] ∧ (∀ q, q ∈ [X, Y, Z] ↔ q ∈ [A, B, C]) ∧ ∀ q, inP [X, Y, Z] q ↔ inP [A, B, C] q := by
  have c1 : 0 < tn B C A := by rw [Hull.tn_cyc]; exact h
  have c2 : 0 < tn C A B := by rw [Hull.tn_cyc]; exact c1
  have nAB : A ≠ B := fun e => by subst e; unfold tn at h; simp at h
  have nBC : B ≠ C := fun e => by subst e; simp at h
  have nAC : A ≠ C := fun e => by subst e; simp at h
  have key : (lx A B ∧ lx A C) ∨ (lx B C ∧ lx B A) ∨ (lx C A ∧ lx C B) := by
    rcases Hull.lx_tri A B with h1 | h1 | h1
    · rcases Hull.lx_tri A C with h2 | h2 | h2
      · exact .inl ⟨h1, h2⟩
      · exact absurd h2 nAC
      · exact .inr (.inr ⟨h2, Hull.lx_trans h2 h1⟩)
    · exact absurd h1 nAB
    · rcases Hull.lx_tri B C with h2 | h2 | h2
      · exact .inr (.inl ⟨h2, h1⟩)
      · exact absurd h2 nBC
      · exact .inr (.inr ⟨Hull.lx_trans h2 h1, h2⟩)
  rcases key with ⟨h1, h2⟩ | ⟨h1, h2⟩ | ⟨h1, h2⟩
  · exact ⟨A, B, C, pol3 h1 h2 h, fun q => Iff.rfl, fun q => Iff.rfl⟩
  · refine ⟨B, C, A, pol3 h1 h2 c1, fun q => ?_, fun q => ?_⟩
    · simp only [List.mem_cons, List.not_mem_nil, or_false]
      constructor <;> (rintro (h | h | h) <;> simp [h])
    · rw [inP3, inP3]
      constructor <;> (rintro ⟨h1, h2, h3⟩; simp [*])
  · refine ⟨C, A, B, pol3 h1 h2 c2, fun q => ?_, fun q => ?_⟩
    · simp only [List.mem_cons, List.not_mem_nil, or_false]
      constructor <;> (rintro (h | h | h) <;> simp [h])
    · rw [inP3, inP3]
      constructor <;> (rintro ⟨h1, h2, h3⟩; simp [*])
/-- The corners in turn. -/
def ori (A B C : Pt) : List Pt := if tn A B C < 0 then [A, C, B] else [A, B, C]
theorem ori_mem {A B C q : Pt} : q ∈ ori A B C ↔ q ∈ [A, B, C] := by
  unfold ori
  split
  · simp only [List.mem_cons, List.not_mem_nil, or_false]
    constructor <;> (rintro (h | h | h) <;> simp [h])
  · rfl
theorem tri_norm {A B C : Pt} (h : tn A B C ≠ 0) : ∃ X Y Z, Hull.Pol [X, Y, Z] ∧ (∀ q, q ∈ [X, Y, Z] ↔ q ∈ [A, B, C]) ∧ ∀ q, inP [X, Y, Z] q ↔ inP (ori A B C) q := by
  by_cases hn : tn A B C < 0
  · obtain ⟨X, Y, Z, h1, h2, h3⟩ := tri_rot (A := A) (B := C) (C := B) (by rw [Hull.tn_swap]; omega)
    refine ⟨X, Y, Z, h1, fun q => ?_, fun q => ?_⟩
    · rw [h2, ← ori_mem (A := A) (B := B) (C := C)]
      unfold ori
      rw [if_pos hn]
    · rw [h3]; unfold ori; rw [if_pos hn]
  · obtain ⟨X, Y, Z, h1, h2, h3⟩ := tri_rot (A := A) (B := B) (C := C) (by omega)
    refine ⟨X, Y, Z, h1, h2, fun q => ?_⟩
    rw [h3]; unfold ori; rw [if_neg hn]
theorem hull_tri {X Y Z A B C : Pt} (h : Hull.Pol [X, Y, Z]) (hm : ∀ q, q ∈ [X, Y, Z] ↔ q ∈ [A, B, C]) : Hull.hull (Hull.sorted [A, B, C]) = [X, Y, Z] := by
  obtain ⟨h1, h2⟩ := Hull.sorted_spec [A, B, C]
  exact Hull.hull_pol h h1 fun y => by rw [h2, hm]
/-- The other points of a triangle. -/
theorem l20Other_eq {A B C : Pt} (hB : ∀ q ∈ [A, B, C], Bd 50 q) (hn : tn A B C ≠ 0) : ∃ v b, s_l20Other [em A, em B, em C] = some (v, b) ∧ (b = true ↔ ∃ v ∈ latt (box [A, B, C]) [[]], inP (ori A B C) (toP v) ∧ v ∉ [em A, em B, em C]) := by
  obtain ⟨X, Y, Z, hp, hm, hi'⟩ := tri_norm hn
  have hBX : ∀ q ∈ [X, Y, Z], Bd 50 q := fun q hq => hB q ((hm q).1 hq)
  have hxx : ∀ q ∈ [X, Y, Z], (at_ [X, Y, Z] 0).1 ≤ q.1 := fun q hq => by
    rcases List.mem_cons.1 hq with rfl | hq
    · exact Int.le_refl _
    · have := hp.min X [Y, Z] rfl q hq
      unfold lx at this
      show X.1 ≤ q.1
      omega
  have e1 : s_l2Put ([] : List (List Int)) (em A) = some (([A] : List Pt).map em) := l2Put_eq (S := []) (by simp [Hull.Asc]) (by simp) A
  have a1 : Hull.Asc [A] := by simp [Hull.Asc]
  have e2 := l2Put_eq (S := [A]) a1 (by simp) B
  have a2 : Hull.Asc (Hull.ins B [A]) := Hull.asc_ins a1
  have l2 : (Hull.ins B [A]).length ≤ 2 := by have := asc_len_fold [B] [A]; simpa using this
  have e3 := l2Put_eq (S := Hull.ins B [A]) a2 (by omega) C
  have es : Hull.ins C (Hull.ins B [A]) = Hull.sorted [A, B, C] := rfl
  rw [es] at e3
  have hs := (Hull.sorted_spec [A, B, C]).2
  have e4 := l7Hull_eq 50 (by decide) (S := Hull.sorted [A, B, C]) (by have := sorted_len [A, B, C]; simp at this; omega) (by intro h; have := (hs A).2 (by simp); rw [h] at this; simp at this) (fun y hy => hB y ((hs y).1 hy))
  rw [hull_tri hp hm] at e4
  have e5 := l7Points_eq hBX (by simp) (by simp) hxx
  have ebox : box [X, Y, Z] = box [A, B, C] := box_same (by simp) (by simp) hm
  have hmem : ∀ v, v ∈ ptsP [X, Y, Z] ↔ v ∈ latt (box [A, B, C]) [[]] ∧ inP (ori A B C) (toP v) := fun v => by
    unfold ptsP
    rw [List.mem_filter, ebox]
    simp [hi']
  have hlen : (ptsP [X, Y, Z]).length ≤ 40000 := Nat.le_trans (List.length_filter_le _ _) (latt_box_len hBX (by simp))
  have hpt : ∀ v ∈ ptsP [X, Y, Z], v.length = 2 := fun v hv => by
    obtain ⟨q, rfl, _⟩ := latt_box hB (by simp) v ((hmem v).1 hv).1
    rfl
  unfold s_l20Other
  simp only [show idx [em A, em B, em C] 0 = some (em A) from rfl, show idx [em A, em B, em C] 1 = some (em B) from rfl, show idx [em A, em B, em C] 2 = some (em C) from rfl, Option.bind_some, e1, e2, e3, e4, e5]
  have D := iter_find (step := s_l20Other_s5 [em A, em B, em C] (ptsP [X, Y, Z])) (ptsP [X, Y, Z]).length (fun k => (k : Int)) (fun k => if (ptsP [X, Y, Z]).getD k [] ∉ [em A, em B, em C] then some (.inr ((ptsP [X, Y, Z]).getD k [], true)) else none) (.inl ()) (fun k hk => by
    have hg : (ptsP [X, Y, Z])[k]? = some (ptsP [X, Y, Z])[k] := List.getElem?_eq_getElem hk
    have hgd : (ptsP [X, Y, Z]).getD k [] = (ptsP [X, Y, Z])[k] := by rw [List.getD_eq_getElem?_getD, hg]; rfl
    have h2 := hpt _ (List.getElem_mem hk)
    unfold s_l20Other_s5
    simp only [show idx [em A, em B, em C] 0 = some (em A) from rfl, show idx [em A, em B, em C] 1 = some (em B) from rfl, show idx [em A, em B, em C] 2 = some (em C) from rfl, Option.bind_some, idx_some hg, hgd]
    rw [l2Same_eq (by rw [h2]; simp [lim_eq]), l2Same_eq (by rw [h2]; simp [lim_eq]), l2Same_eq (by rw [h2]; simp [lim_eq]), show decide ((k : Int) < ((ptsP [X, Y, Z]).length : Int)) = true from by simp; omega, cond_true, wrap_small (by omega) (by omega)]
    simp only [Option.bind_some]
    generalize (ptsP [X, Y, Z])[k] = v
    by_cases h1 : v = em A
    · simp [h1, fnd]
    · by_cases h2 : v = em B
      · simp [h2, fnd]
      · by_cases h3 : v = em C
        · simp [h3, fnd]
        · have b1 : (v == em A) = false := beq_eq_false_iff_ne.2 h1
          have b2 : (v == em B) = false := beq_eq_false_iff_ne.2 h2
          have b3 : (v == em C) = false := beq_eq_false_iff_ne.2 h3
          rw [b1, b2, b3, if_pos (by simp [h1, h2, h3])]
          rfl) (by
    unfold s_l20Other_s5
    simp)
  rcases D with ⟨d1, d2⟩ | ⟨k, r, d1, d2, d3⟩
  · rw [show ((0 : Int)) = ((0 : Nat) : Int) from rfl, d1]
    refine ⟨_, _, rfl, ?_⟩
    constructor
    · intro h; cases h
    · rintro ⟨v, hv, hin, hno⟩
      obtain ⟨k, hk, e⟩ := List.mem_iff_getElem.1 ((hmem v).2 ⟨hv, hin⟩)
      have := d2 k hk
      rw [show (ptsP [X, Y, Z]).getD k [] = v from by rw [List.getD_eq_getElem?_getD, List.getElem?_eq_getElem hk, e]; rfl, if_pos hno] at this
      cases this
  · rw [show ((0 : Int)) = ((0 : Nat) : Int) from rfl, d3]
    split at d2
    · rename_i hno
      cases d2
      refine ⟨_, _, rfl, ?_⟩
      constructor
      · intro _
        have hg : (ptsP [X, Y, Z]).getD k [] ∈ ptsP [X, Y, Z] := by
          rw [List.getD_eq_getElem?_getD, List.getElem?_eq_getElem d1]; exact List.getElem_mem d1
        have := (hmem _).1 hg
        exact ⟨_, this.1, this.2, hno⟩
      · intro _; rfl
    · cases d2
end Go.Proofs.Ytcpdhjklcongoaa
