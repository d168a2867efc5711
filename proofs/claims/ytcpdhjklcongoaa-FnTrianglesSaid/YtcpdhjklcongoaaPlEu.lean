/-
  Edges of the empty triangles: the law. Plain, no condition.
-/
import Derived.Test.YtcpdhjklcongoaaPlEg
namespace Go.Proofs.Ytcpdhjklcongoaa
open Go Go.Proofs.Ytcpdhjklcongoaa.Eng
open Hull (Pt tn lx at_ at_some at_mem)
set_option linter.unusedVariables false
set_option linter.unusedSimpArgs false
def emT (t : Pt × Pt × Pt) : List (List Int) := [em t.1, em t.2.1, em t.2.2]
def dsT (t : Pt × Pt × Pt) : List (Pt × Pt) := [(t.1, t.2.1), (t.2.1, t.2.2), (t.2.2, t.1)]
def sides (T : List (Pt × Pt × Pt)) : List (Pt × Pt) := T.flatMap dsT
/-- A side's key: the lower end first. -/
def keyE (e : Pt × Pt) : List Int := if lx e.2 e.1 then [e.2.1, e.2.2, e.1.1, e.1.2] else [e.1.1, e.1.2, e.2.1, e.2.2]
def triP : Nat → Pt → Pt → Pt → List (Pt × Pt × Pt)
  | 0, _, _, _ => []
  | n + 1, A, B, C => match fst3 A B C with
    | none => [(A, B, C)]
    | some v => (if tn (toP v) A B = 0 then [] else triP n (toP v) A B) ++ (if tn (toP v) B C = 0 then [] else triP n (toP v) B C) ++ (if tn (toP v) C A = 0 then [] else triP n (toP v) C A)
theorem tri_P : (n : Nat) → (A B C : Pt) → tri n A B C = (triP n A B C).map emT
  | 0, A, B, C => rfl
  | n + 1, A, B, C => by
    simp only [tri, triP]
    cases fst3 A B C with
    | none => rfl
    | some v =>
      simp only [List.map_append]
      rw [tri_P n, tri_P n, tri_P n]
      split <;> split <;> split <;> rfl
def BdT (t : Pt × Pt × Pt) : Prop := Bd 50 t.1 ∧ Bd 50 t.2.1 ∧ Bd 50 t.2.2
theorem triP_bd : (n : Nat) → {A B C : Pt} → (∀ q ∈ [A, B, C], Bd 50 q) → ∀ t ∈ triP n A B C, BdT t
  | 0, A, B, C, hB, t, ht => by simp [triP] at ht
  | n + 1, A, B, C, hB, t, ht => by
    have bA := hB A (by simp)
    have bB := hB B (by simp)
    have bC := hB C (by simp)
    simp only [triP] at ht
    cases hf : fst3 A B C with
    | none =>
      rw [hf] at ht
      simp only [List.mem_cons, List.not_mem_nil, or_false] at ht
      subst ht
      exact ⟨bA, bB, bC⟩
    | some v =>
      rw [hf] at ht
      obtain ⟨x, rfl, bx, _⟩ := fst3_mem hB hf
      simp only at ht
      have e : toP (em x) = x := rfl
      rw [e] at ht
      have go : ∀ {a b : Pt}, Bd 50 a → Bd 50 b → t ∈ (if tn x a b = 0 then [] else triP n x a b) → BdT t := fun {a b} ha hb h => by
        split at h
        · simp at h
        · exact triP_bd n (fun q hq => by
            simp only [List.mem_cons, List.not_mem_nil, or_false] at hq
            rcases hq with rfl | rfl | rfl <;> assumption) t h
      rcases List.mem_append.1 ht with ht | ht
      · rcases List.mem_append.1 ht with ht | ht
        · exact go bA bB ht
        · exact go bB bC ht
      · exact go bC bA ht
def fanP (P : List Pt) : Nat → List (Pt × Pt × Pt)
  | 0 => []
  | k + 1 => fanP P k ++ triP 30000 (at_ P 0) (at_ P (k + 1)) (at_ P (k + 2))
theorem fan_P (P : List Pt) : (k : Nat) → fan P k = (fanP P k).map emT
  | 0 => rfl
  | k + 1 => by simp only [fan, fanP, List.map_append]; rw [fan_P P k, tri_P]
theorem fanP_bd {P : List Pt} (hB : ∀ q ∈ P, Bd 50 q) : (k : Nat) → k + 1 < P.length ∨ k = 0 → ∀ t ∈ fanP P k, BdT t
  | 0, _, t, ht => by simp [fanP] at ht
  | k + 1, hk, t, ht => by
    simp only [fanP] at ht
    rcases List.mem_append.1 ht with ht | ht
    · exact fanP_bd hB k (by omega) t ht
    · exact triP_bd _ (fun q hq => by
        simp only [List.mem_cons, List.not_mem_nil, or_false] at hq
        rcases hq with rfl | rfl | rfl <;> exact hB _ (at_mem (by omega))) t ht
/-- What the two ways to the triangles answer. -/
theorem empty_T {p : List (List Int)} (hp : FitLL p) : ∃ r, s_EmptyTriangles p = some r ∧ i_EmptyTriangles p = some r ∧ (r = [] ∨ ∃ P, p = P.map em ∧ (∀ q ∈ P, Bd 50 q) ∧ 3 ≤ P.length ∧ P.length ≤ 12 ∧ Hull.Pol P ∧ r = (fanP P (P.length - 2)).map emT) := by
  obtain ⟨r, h1, h2, h3, h4, h5⟩ := empty_eq hp
  refine ⟨r, h1, h2, ?_⟩
  unfold s_EmptyTriangles at h1
  rw [s_IsPolygon_eq hp.lim hp.eachLim] at h1
  simp only [Option.bind_some] at h1
  cases hq : isPoly p with
  | false => rw [hq] at h1; exact .inl (Option.some.inj h1).symm
  | true =>
    obtain ⟨P, rfl, hB, g3, g12, hpol⟩ := poly_of hq
    obtain ⟨A, hA⟩ := area_some hB g12
    rw [hq, Bool.not_true, cond_false, hA] at h1
    simp only [Option.bind_some] at h1
    by_cases hc : A > 200
    · rw [decide_eq_true hc] at h1
      exact .inl (Option.some.inj h1).symm
    · rw [decide_eq_false hc, cond_false] at h1
      have ip : ∀ {j : Nat}, j < P.length → idx (P.map em) (j : Int) = some (em (at_ P j)) := fun h => idxP h
      have z0 : idx (P.map em) 0 = some (em (at_ P 0)) := idxP (k := 0) (by omega)
      have w1 : ∀ {k : Nat}, k < 20 → IntKind.i64.wrap (((k + 1 : Nat) : Int) + 1) = ((k + 2 : Nat) : Int) := fun h => by rw [wrap_small (by omega) (by omega)]; omega
      have S := iter_up (step := s_EmptyTriangles_s5 (P.map em)) (P.length - 2) (fun k => (fan P k, ((k + 1 : Nat) : Int))) (fan P (P.length - 2)) (fun k hk => by
        have ff := fan_fit hB hpol k (by omega)
        have fo := fan_one hB hpol (k := k) (by omega)
        unfold s_EmptyTriangles_s5
        simp only
        rw [w1 (by omega), show decide (((k + 2 : Nat) : Int) < ((P.map em).length : Int)) = true from by simp; omega, cond_true, z0, ip (by omega), ip (by omega)]
        simp only [Option.bind_some]
        rw [fo.2.1 _ (by omega)]
        rfl) (by
        unfold s_EmptyTriangles_s5
        simp only
        rw [w1 (by omega), show decide (((P.length - 2 + 2 : Nat) : Int) < ((P.map em).length : Int)) = false from by simp; omega]
        rfl)
      have e0 : (([], 1) : List (List (List Int)) × Int) = (fan P 0, ((0 + 1 : Nat) : Int)) := rfl
      rw [e0, S] at h1
      have ff := fan_fit hB hpol (P.length - 2) (by omega)
      have hne : nneD (fan P (P.length - 2)) = some () := by
        have := ff.2.1 (by omega)
        cases hx : fan P (P.length - 2) with
        | nil => rw [hx] at this; simp at this
        | cons a b => rfl
      simp only [Option.bind_some, hne] at h1
      exact .inr ⟨P, rfl, hB, g3, g12, hpol, by rw [← fan_P]; first | exact (Option.some.inj h1).symm | exact Option.some.inj h1⟩
/-! Keys in order. -/
def ltL : List Int → List Int → Bool
  | a :: x, b :: y => if a = b then ltL x y else decide (a < b)
  | _, _ => false
theorem ltL_irr : (x : List Int) → ltL x x = false
  | [] => rfl
  | a :: x => by simp only [ltL, if_true]; exact ltL_irr x
theorem ltL_trans : (x y z : List Int) → ltL x y = true → ltL y z = true → ltL x z = true
  | [], y, z, h, _ => by simp [ltL] at h
  | a :: x, [], z, h, _ => by simp [ltL] at h
  | a :: x, b :: y, [], _, h => by simp [ltL] at h
  | a :: x, b :: y, c :: z, h1, h2 => by
    simp only [ltL] at h1 h2 ⊢
    by_cases e1 : a = b
    · by_cases e2 : b = c
      · rw [if_pos e1] at h1; rw [if_pos e2] at h2; rw [if_pos (e1.trans e2)]
        exact ltL_trans x y z h1 h2
      · rw [if_neg e2] at h2; rw [if_neg (by omega)]; simp only [decide_eq_true_eq] at h2 ⊢; omega
    · rw [if_neg e1] at h1
      simp only [decide_eq_true_eq] at h1
      by_cases e2 : b = c
      · rw [if_neg (by omega)]; simp only [decide_eq_true_eq]; omega
      · rw [if_neg e2] at h2; simp only [decide_eq_true_eq] at h2
        rw [if_neg (by omega)]; simp only [decide_eq_true_eq]; omega
theorem ltL_tri : (x y : List Int) → x.length = y.length → ltL x y = true ∨ x = y ∨ ltL y x = true
  | [], [], _ => .inr (.inl rfl)
  | [], b :: y, h => by simp at h
  | a :: x, [], h => by simp at h
  | a :: x, b :: y, h => by
    simp only [ltL]
    by_cases e : a = b
    · subst e
      simp only [if_true]
      rcases ltL_tri x y (by simpa using h) with h | h | h
      · exact .inl h
      · exact .inr (.inl (by rw [h]))
      · exact .inr (.inr h)
    · rw [if_neg e, if_neg (fun h => e h.symm)]
      simp only [decide_eq_true_eq]
      omega
theorem before_from {x y : List Int} (hx : x.length ≤ 100000) : (n k : Nat) → k + n = x.length → ∃ r, iter (s_l2Before_s2 x y) (k : Int) = some r ∧ (match r with | .inl _ => false | .inr b => b) = ltL (x.drop k) (y.drop k)
  | 0, k, h => by
    refine ⟨.inl (), iter_end ?_, ?_⟩
    · unfold s_l2Before_s2
      rw [show decide ((k : Int) < (x.length : Int)) = false from by simp; omega]
      rfl
    · rw [List.drop_eq_nil_of_le (by omega)]; simp [ltL]
  | n + 1, k, h => by
    have hk : k < x.length := by omega
    by_cases hy : k < y.length
    · have gx : idx x (k : Int) = some x[k] := by rw [idx_nat]; exact List.getElem?_eq_getElem hk
      have gy : idx y (k : Int) = some y[k] := by rw [idx_nat]; exact List.getElem?_eq_getElem hy
      have st : s_l2Before_s2 x y (k : Int) = if x[k] = y[k] then some (.inl ((k + 1 : Nat) : Int)) else some (.inr (.inr (decide (x[k] < y[k])))) := by
        unfold s_l2Before_s2
        rw [show decide ((k : Int) < (x.length : Int)) = true from by simp; omega, show decide ((k : Int) < (y.length : Int)) = true from by simp; omega, gx, gy]
        simp only [cond_true, Option.bind_some]
        by_cases e : x[k] = y[k]
        · rw [if_pos e, show (x[k] != y[k]) = false from by simp [e], wrap_small (by omega) (by omega)]; rfl
        · rw [if_neg e, show (x[k] != y[k]) = true from by simp [e]]; rfl
      rw [List.drop_eq_getElem_cons hk, List.drop_eq_getElem_cons hy]
      simp only [ltL]
      by_cases e : x[k] = y[k]
      · rw [if_pos e] at st ⊢
        rw [iter_next st]
        exact before_from hx n (k + 1) (by omega)
      · rw [if_neg e] at st ⊢
        exact ⟨_, iter_end st, rfl⟩
    · refine ⟨.inl (), iter_end ?_, ?_⟩
      · unfold s_l2Before_s2
        rw [show decide ((k : Int) < (x.length : Int)) = true from by simp; omega, show decide ((k : Int) < (y.length : Int)) = false from by simp; omega]
        rfl
      · rw [show y.drop k = [] from List.drop_eq_nil_of_le (by omega)]
        cases x.drop k <;> simp [ltL]
theorem before_L {x y : List Int} (hx : x.length ≤ 100000) : s_l2Before x y = some (ltL x y) := by
  obtain ⟨r, h1, h2⟩ := before_from (y := y) hx x.length 0 (by omega)
  unfold s_l2Before
  rw [show (0 : Int) = ((0 : Nat) : Int) from rfl, h1, Option.bind_some]
  simp only [List.drop_zero] at h2
  cases r with
  | inl u => simp only at h2; rw [← h2]
  | inr b => simp only at h2; rw [← h2]
def AscL (S : List (List Int)) : Prop := S.Pairwise fun x y => ltL x y = true
theorem cut_L (v : List Int) : (S : List (List Int)) → AscL S → (∀ y ∈ S, y.length = v.length) → ∃ l r, S = l ++ r ∧ (∀ y ∈ r, ltL v y = true) ∧ ∀ y ∈ l, y = v ∨ ltL y v = true
  | [], _, _ => ⟨[], [], rfl, by simp, by simp⟩
  | x :: S, h, hl => by
    obtain ⟨h1, h2⟩ := List.pairwise_cons.1 h
    rcases ltL_tri x v (hl x (by simp)) with hx | hx | hx
    · obtain ⟨l, r, e, h3, h4⟩ := cut_L v S h2 (fun y hy => hl y (List.mem_cons_of_mem _ hy))
      exact ⟨x :: l, r, by rw [e]; rfl, h3, fun y hy => by
        rcases List.mem_cons.1 hy with rfl | hy
        · exact .inr hx
        · exact h4 y hy⟩
    · exact ⟨[x], S, rfl, fun y hy => by rw [← hx]; exact h1 y hy, fun y hy => by
        simp only [List.mem_singleton] at hy; subst hy; exact .inl hx⟩
    · exact ⟨[], x :: S, rfl, fun y hy => by
        rcases List.mem_cons.1 hy with rfl | hy
        · exact hx
        · exact ltL_trans _ _ _ hx (h1 y hy), by simp⟩
theorem putL_tail {l r : List (List Int)} {v : List Int} (hv : v.length ≤ 1000) (hl : (l ++ r).length ≤ 10000000) :
    ((subl (l ++ r) (l.length : Int) ((l ++ r).length : Int)).bind fun v7 => (subl (l ++ r) (((l.length : Int)).toNat : Int) (((l ++ r).length : Int).toNat : Int)).bind fun v8 => (appD 24 ([] : List (List Int)) v8).bind fun v9 =>
      (subl (l ++ r) 0 (l.length : Int)).bind fun v10 => (appD 8 ([] : List Int) v).bind fun v11 => (appD 24 v10 ([v11] : List (List Int))).bind fun v12 => (appD 24 v12 v9).bind fun v13 => some v13) = some (l ++ v :: r) := by
  simp only [List.length_append] at hl
  have s1 : subl (l ++ r) (l.length : Int) ((l ++ r).length : Int) = some r := by
    rw [subl_nat (by simp) (Nat.le_refl _), List.take_length, List.drop_left]
  have s2 : subl (l ++ r) 0 (l.length : Int) = some l := by
    have := subl_nat (xs := l ++ r) (a := 0) (b := l.length) (by omega) (by simp)
    rw [show ((0 : Nat) : Int) = 0 from rfl] at this
    rw [this, List.drop_zero, List.take_left]
  simp only [Int.toNat_natCast, s1, s2, Option.bind_some]
  rw [appD_some (by simp [lim_eq]; omega) (by simp [lim_eq]; omega)]
  simp only [Option.bind_some]
  rw [appD_some (by simp [lim_eq]; omega) (by simp [lim_eq]; omega)]
  simp only [Option.bind_some]
  rw [appD_some (by simp [lim_eq]; omega) (by simp [lim_eq]; omega)]
  simp only [Option.bind_some]
  rw [appD_some (by simp [lim_eq]; omega) (by simp [lim_eq]; omega)]
  simp
theorem putL_eq {S : List (List Int)} {v : List Int} (hA : AscL S) (hl : S.length ≤ 10000000) (hv : v.length ≤ 1000) (hS : ∀ y ∈ S, y.length = v.length) :
    ∃ S', s_l2Put S v = some S' ∧ AscL S' ∧ (∀ z, z ∈ S' ↔ z = v ∨ z ∈ S) ∧ S'.length ≤ S.length + 1 := by
  obtain ⟨l, r, rfl, hr, hlv⟩ := cut_L v S hA hS
  have hlen : (l ++ r).length = l.length + r.length := by simp
  have get : ∀ k, 0 < k → k ≤ l.length + r.length → ∃ y, (l ++ r)[k - 1]? = some y ∧ y ∈ l ++ r ∧ inIdx (l ++ r).length (IntKind.i64.wrap ((k : Int) - 1)) = some () ∧ idx (l ++ r) ((IntKind.i64.wrap ((k : Int) - 1)).toNat : Int) = some y := fun k h0 hk => by
    have hlt : k - 1 < (l ++ r).length := by rw [List.length_append]; omega
    refine ⟨(l ++ r)[k - 1], List.getElem?_eq_getElem hlt, List.getElem_mem hlt, ?_, ?_⟩
    · rw [wrap_small (by omega) (by omega)]
      exact inIdx_of (by omega) (by rw [hlen]; omega)
    · rw [wrap_small (by omega) (by omega), show (((k : Int) - 1).toNat : Int) = ((k - 1 : Nat) : Int) from by omega, idx_nat, List.getElem?_eq_getElem hlt]
  have step : ∀ k, 0 < k → k ≤ l.length + r.length → ∃ y, (l ++ r)[k - 1]? = some y ∧ s_l2Put_s2 v (l ++ r, (k : Int)) = if ltL v y = true then some (.inl (l ++ r, (k : Int) - 1)) else some (.inr (l ++ r, (k : Int))) := fun k h0 hk => by
    obtain ⟨y, h1, hm, h2, h3⟩ := get k h0 hk
    refine ⟨y, h1, ?_⟩
    unfold s_l2Put_s2
    simp only
    rw [show decide ((k : Int) > 0) = true from by simp; omega, cond_true, h2]
    simp only [Option.bind_some, h3]
    rw [before_L (by omega), wrap_small (by omega) (by omega)]
    simp only [Option.bind_some]
    cases ltL v y <;> rfl
  have hloop : iter (s_l2Put_s2 v) (l ++ r, ((l ++ r).length : Int)) = some (l ++ r, (l.length : Int)) := by
    have := iter_up (step := s_l2Put_s2 v) r.length (fun k => (l ++ r, ((l.length + r.length - k : Nat) : Int))) (l ++ r, (l.length : Int)) (fun k hk => by
      obtain ⟨y, h1, h2⟩ := step (l.length + r.length - k) (by omega) (by omega)
      rw [h2]
      have hy : y ∈ r := by
        rw [List.getElem?_append_right (by omega)] at h1
        exact List.mem_of_getElem? h1
      rw [if_pos (hr y hy), show ((l.length + r.length - k : Nat) : Int) - 1 = ((l.length + r.length - (k + 1) : Nat) : Int) from by omega]) (by
      show s_l2Put_s2 v (l ++ r, ((l.length + r.length - r.length : Nat) : Int)) = _
      rw [Nat.add_sub_cancel]
      by_cases h0 : l.length = 0
      · unfold s_l2Put_s2
        simp [h0]
      · obtain ⟨y, h1, h2⟩ := step l.length (by omega) (by omega)
        rw [h2]
        have hy : y ∈ l := by
          rw [List.getElem?_append_left (by omega)] at h1
          exact List.mem_of_getElem? h1
        rw [if_neg (fun hc => ?_)]
        rcases hlv y hy with rfl | h3
        · rw [ltL_irr] at hc; exact Bool.noConfusion hc
        · have := ltL_trans _ _ _ hc h3; rw [ltL_irr] at this; exact Bool.noConfusion this)
    rw [hlen]
    simpa using this
  unfold s_l2Put
  rw [hloop]
  simp only [Option.bind_some]
  have ptail := putL_tail (l := l) (r := r) (v := v) hv hl
  have hAl : AscL l := (List.pairwise_append.1 hA).1
  have hAr : AscL r := (List.pairwise_append.1 hA).2.1
  -- put below: v is new
  have new : (∀ y ∈ l, y ≠ v) → AscL (l ++ v :: r) ∧ (∀ z, z ∈ l ++ v :: r ↔ z = v ∨ z ∈ l ++ r) ∧ (l ++ v :: r).length ≤ (l ++ r).length + 1 := fun hne => by
    refine ⟨?_, fun z => ?_, by simp; omega⟩
    · refine List.pairwise_append.2 ⟨hAl, List.pairwise_cons.2 ⟨hr, hAr⟩, fun a ha b hb => ?_⟩
      have hav := (hlv a ha).resolve_left (hne a ha)
      rcases List.mem_cons.1 hb with rfl | hb
      · exact hav
      · exact ltL_trans _ _ _ hav (hr b hb)
    · simp only [List.mem_append, List.mem_cons]
      constructor
      · rintro (h | h | h)
        · exact .inr (.inl h)
        · exact .inl h
        · exact .inr (.inr h)
      · rintro (h | h | h)
        · exact .inr (.inl h)
        · exact .inl h
        · exact .inr (.inr h)
  by_cases h0 : l.length = 0
  · rw [show decide ((l.length : Int) > 0) = false from by rw [h0]; rfl, cond_false]
    have : l = [] := List.eq_nil_of_length_eq_zero h0
    exact ⟨_, ptail, new (by rw [this]; simp)⟩
  · rw [show decide ((l.length : Int) > 0) = true from by simp; omega, cond_true]
    obtain ⟨y, h1, hm, h2, h3⟩ := get l.length (by omega) (by omega)
    rw [h2]
    simp only [Option.bind_some, h3]
    have hyl := hS y hm
    rw [l2Same_eq (by rw [hyl, lim_eq]; omega)]
    simp only [Option.bind_some]
    have hy : l[l.length - 1]? = some y := by rwa [List.getElem?_append_left (by omega)] at h1
    by_cases hv : y = v
    · subst hv
      rw [show (y == y) = true from by simp, cond_true]
      exact ⟨_, rfl, hA, fun z => ⟨fun h => .inr h, fun h => h.elim (fun e => e ▸ hm) id⟩, by omega⟩
    · rw [show (y == v) = false from by simpa using hv, cond_false]
      refine ⟨_, ptail, new fun z hz hzv => ?_⟩
      subst hzv
      obtain ⟨i, hi⟩ := List.getElem?_of_mem hz
      have hil := (List.getElem?_eq_some_iff.1 hi).1
      by_cases hil' : i = l.length - 1
      · rw [hil', hy] at hi; exact hv (Option.some.inj hi)
      · have hlt : i < l.length - 1 := by omega
        have h4 : ltL z y = true := by
          have := List.pairwise_iff_getElem.1 hAl i (l.length - 1) hil (by omega) hlt
          rw [(List.getElem?_eq_some_iff.1 hi).2, (List.getElem?_eq_some_iff.1 hy).2] at this
          exact this
        rcases hlv y (List.mem_of_getElem? hy) with h5 | h5
        · exact hv h5
        · have := ltL_trans _ _ _ h4 h5; rw [ltL_irr] at this; exact Bool.noConfusion this
/-! The two lists of keys. -/
structure Same (S M : List (List Int)) (n : Nat) : Prop where
  asc : AscL S
  nod : M.Nodup
  mem : ∀ z, z ∈ S ↔ z ∈ M
  four : ∀ z ∈ S, z.length = 4
  len : S.length ≤ n
  len' : M.length ≤ n
theorem same_len {S M : List (List Int)} {n : Nat} (h : Same S M n) : S.length = M.length := by
  have hS : S.Nodup := h.asc.imp (fun {a b} hab e => by subst e; rw [ltL_irr] at hab; exact Bool.noConfusion hab)
  exact ((List.perm_ext_iff_of_nodup hS h.nod).2 h.mem).length_eq
theorem same_put {S M : List (List Int)} {n : Nat} (h : Same S M n) (hn : n ≤ 10000000) {a b c d : Int} : ∃ S', s_l2Put S [a, b, c, d] = some S' ∧ Same S' (insK M [a, b, c, d]) (n + 1) ∧ ∀ z, z ∈ insK M [a, b, c, d] ↔ z = [a, b, c, d] ∨ z ∈ M := by
  obtain ⟨S', h1, h2, h3, h4⟩ := putL_eq (v := [a, b, c, d]) h.asc (by have := h.len; omega) (by simp) (fun y hy => h.four y hy)
  have hm : ∀ z, z ∈ insK M [a, b, c, d] ↔ z = [a, b, c, d] ∨ z ∈ M := fun z => by
    unfold insK
    split
    · rename_i hc
      have : [a, b, c, d] ∈ M := by simpa using hc
      exact ⟨.inr, fun hz => hz.elim (fun e => e ▸ this) id⟩
    · simp [or_comm]
  refine ⟨S', h1, ⟨h2, ?_, fun z => ?_, fun z hz => ?_, by have := h.len; omega, ?_⟩, hm⟩
  · unfold insK
    split
    · exact h.nod
    · rename_i hc
      have : [a, b, c, d] ∉ M := by simpa using hc
      exact List.nodup_append.2 ⟨h.nod, by simp, fun x hx y hy => by
        simp only [List.mem_singleton] at hy; subst hy; intro e; exact this (e ▸ hx)⟩
  · rw [h3, hm, h.mem]
  · rcases (h3 z).1 hz with rfl | hz
    · rfl
    · exact h.four z hz
  · unfold insK
    have := h.len'
    split
    · omega
    · simp; omega
/-- One side of a triangle. -/
theorem same_one {S M : List (List Int)} {n : Nat} (h : Same S M n) (hn : n ≤ 10000000) {T : List (Pt × Pt × Pt)} {t : Pt × Pt × Pt} {j k : Nat} (ht : T[j]? = some t) (hb : BdT t) {a b : Pt} (hk : k < 3) {k2 : Int}
    (ha : idx (emT t) (k : Int) = some (em a)) (hr : remI .i64 ((k : Int) + 1) 3 = some k2) (hb2 : idx (emT t) k2 = some (em b)) (ba : Bd 50 a) (bb : Bd 50 b) {q : List (List Int)} :
    ∃ S' M', s_EdgesUsed_s7 (T.map emT) (q, (j : Int)) (S, (k : Int)) = some (.inl (S', ((k + 1 : Nat) : Int))) ∧ i_EdgesUsed_s9 (emT t) (M, (k : Int)) = some (.inl (M', ((k + 1 : Nat) : Int))) ∧ Same S' M' (n + 1) ∧ ∀ z, z ∈ M' ↔ z = keyE (a, b) ∨ z ∈ M := by
  have hj : idx (T.map emT) (j : Int) = some (emT t) := by rw [idx_nat, List.getElem?_map, ht]; rfl
  have hw : IntKind.i64.wrap ((k : Int) + 1) = (k : Int) + 1 := wrap_small (by omega) (by omega)
  have hlt : lx b a → ¬ lx a b := fun h1 h2 => Hull.lx_asym h1 h2
  have bx : ∀ {x : Pt}, Bd 50 x → i64B x.1 = true ∧ i64B x.2 = true := fun {x} hx => by
    unfold Bd at hx
    unfold i64B
    simp only [Bool.and_eq_true, decide_eq_true_eq]
    omega
  have l1 : M.length < lim := by have := h.len'; rw [lim_eq]; omega
  unfold s_EdgesUsed_s7 i_EdgesUsed_s9
  simp only
  rw [show decide ((k : Int) < 3) = true from by simp; omega, show decide ((k : Int) < ((emT t).length : Int)) = true from by simp [emT]; omega, hj, hw]
  simp only [cond_true, Option.bind_some, ha, hr, hb2, before_em, compare_em]
  have e0 : ∀ x : Pt, idx (em x) 0 = some x.1 := fun x => rfl
  have e1 : ∀ x : Pt, idx (em x) 1 = some x.2 := fun x => rfl
  simp only [e0, e1, Option.bind_some]
  by_cases hc : lx b a
  · obtain ⟨S', s1, s2, s3⟩ := same_put h hn (a := b.1) (b := b.2) (c := a.1) (d := a.2)
    have hk : keyE (a, b) = [b.1, b.2, a.1, a.2] := if_pos hc
    refine ⟨S', _, ?_, ?_, s2, by rw [hk]; exact s3⟩
    · rw [decide_eq_true hc, cond_true, s1]; rfl
    · rw [if_neg (hlt hc), if_pos hc, show decide ((1 : Int) > 0) = true from rfl, cond_true, if_pos ⟨by simp [bx ba, bx bb], l1⟩]; rfl
  · obtain ⟨S', s1, s2, s3⟩ := same_put h hn (a := a.1) (b := a.2) (c := b.1) (d := b.2)
    have hk : keyE (a, b) = [a.1, a.2, b.1, b.2] := if_neg hc
    refine ⟨S', _, ?_, ?_, s2, by rw [hk]; exact s3⟩
    · rw [decide_eq_false hc, cond_false, s1]; rfl
    · rw [show decide ((if lx a b then (-1 : Int) else if lx b a then 1 else 0) > 0) = false from by
        rw [if_neg hc]; split <;> rfl, cond_false, if_pos ⟨by simp [bx ba, bx bb], l1⟩]; rfl
theorem same_three {S M : List (List Int)} {n : Nat} (h : Same S M n) (hn : n ≤ 9000000) {T : List (Pt × Pt × Pt)} {t : Pt × Pt × Pt} {j : Nat} (ht : T[j]? = some t) (hb : BdT t) {q : List (List Int)} :
    ∃ S' M', iter (s_EdgesUsed_s7 (T.map emT) (q, (j : Int))) (S, 0) = some S' ∧ iter (i_EdgesUsed_s9 (emT t)) (M, 0) = some M' ∧ Same S' M' (n + 3) ∧ ∀ z, z ∈ M' ↔ z ∈ (dsT t).map keyE ∨ z ∈ M := by
  obtain ⟨S1, M1, a1, b1, c1, m1⟩ := same_one (q := q) h (by omega) ht hb (k := 0) (k2 := 1) (a := t.1) (b := t.2.1) (by omega) rfl rfl rfl hb.1 hb.2.1
  obtain ⟨S2, M2, a2, b2, c2, m2⟩ := same_one (q := q) c1 (by omega) ht hb (k := 1) (k2 := 2) (a := t.2.1) (b := t.2.2) (by omega) rfl rfl rfl hb.2.1 hb.2.2
  obtain ⟨S3, M3, a3, b3, c3, m3⟩ := same_one (q := q) c2 (by omega) ht hb (k := 2) (k2 := 0) (a := t.2.2) (b := t.1) (by omega) rfl rfl rfl hb.2.2 hb.1
  refine ⟨S3, M3, ?_, ?_, c3, fun z => ?_⟩
  · rw [show (0 : Int) = ((0 : Nat) : Int) from rfl, iter_next a1, iter_next a2, iter_next a3]
    exact iter_end rfl
  · rw [show (0 : Int) = ((0 : Nat) : Int) from rfl, iter_next b1, iter_next b2, iter_next b3]
    exact iter_end rfl
  · rw [m3, m2, m1]
    simp only [dsT, List.map_cons, List.map_nil, List.mem_cons, List.not_mem_nil, or_false]
    constructor
    · rintro (h | h | h | h)
      · exact .inl (.inr (.inr h))
      · exact .inl (.inr (.inl h))
      · exact .inl (.inl h)
      · exact .inr h
    · rintro ((h | h | h) | h)
      · exact .inr (.inr (.inl h))
      · exact .inr (.inl h)
      · exact .inl h
      · exact .inr (.inr (.inr h))
theorem same_all {T : List (Pt × Pt × Pt)} (hT : ∀ t ∈ T, BdT t) (hl : T.length ≤ 1000000) : (d j : Nat) → j + d = T.length → ∀ {S M : List (List Int)}, Same S M (3 * j) →
    ∃ S' M', iter (s_EdgesUsed_s4 (T.map emT)) (S, (j : Int)) = some S' ∧ iter (i_EdgesUsed_s6 (T.map emT)) (M, (j : Int)) = some M' ∧ Same S' M' (3 * T.length) ∧ ∀ z, z ∈ M' ↔ z ∈ (sides (T.drop j)).map keyE ∨ z ∈ M
  | 0, j, hj, S, M, h => by
    refine ⟨S, M, iter_end ?_, iter_end ?_, by rwa [show T.length = j from by omega], fun z => by rw [List.drop_eq_nil_of_le (by omega)]; simp [sides]⟩
    · unfold s_EdgesUsed_s4
      simp only
      rw [show decide ((j : Int) < ((T.map emT).length : Int)) = false from by simp; omega]; rfl
    · unfold i_EdgesUsed_s6
      simp only
      rw [show decide ((j : Int) < ((T.map emT).length : Int)) = false from by simp; omega]; rfl
  | d + 1, j, hj, S, M, h => by
    have hlt : j < T.length := by omega
    have ht : T[j]? = some T[j] := List.getElem?_eq_getElem hlt
    obtain ⟨S1, M1, a1, b1, c1, m1⟩ := same_three (q := S) h (by omega) ht (hT _ (List.getElem_mem hlt))
    have hji : idx (T.map emT) (j : Int) = some (emT T[j]) := by rw [idx_nat, List.getElem?_map, ht]; rfl
    have s1 : s_EdgesUsed_s4 (T.map emT) (S, (j : Int)) = some (.inl (S1, ((j + 1 : Nat) : Int))) := by
      unfold s_EdgesUsed_s4
      simp only
      rw [show decide ((j : Int) < ((T.map emT).length : Int)) = true from by simp; omega, cond_true, a1, Option.bind_some, wrap_small (by omega) (by omega)]; rfl
    have s2 : i_EdgesUsed_s6 (T.map emT) (M, (j : Int)) = some (.inl (M1, ((j + 1 : Nat) : Int))) := by
      unfold i_EdgesUsed_s6
      simp only
      rw [show decide ((j : Int) < ((T.map emT).length : Int)) = true from by simp; omega, cond_true, hji, Option.bind_some, b1, Option.bind_some, wrap_small (by omega) (by omega)]; rfl
    rw [iter_next s1, iter_next s2]
    obtain ⟨S2, M2, a2, b2, c2, m2⟩ := same_all hT hl d (j + 1) (by omega) c1
    refine ⟨S2, M2, a2, b2, c2, fun z => ?_⟩
    rw [m2, m1, List.drop_eq_getElem_cons hlt]
    have : sides (T[j] :: T.drop (j + 1)) = dsT T[j] ++ sides (T.drop (j + 1)) := rfl
    rw [this, List.map_append, List.mem_append]
    constructor
    · rintro (h | h | h)
      · exact .inl (.inr h)
      · exact .inl (.inl h)
      · exact .inr h
    · rintro ((h | h) | h)
      · exact .inr (.inl h)
      · exact .inl h
      · exact .inr (.inr h)
theorem edges_eq {p : List (List Int)} (hp : FitLL p) : ∃ n, s_EdgesUsed p = some n ∧ i_EdgesUsed p = some n := by
  obtain ⟨r, h1, h2, h3⟩ := empty_T hp
  have hlen : r.length ≤ 240000 := by
    obtain ⟨r', g1, _, _, g4, _⟩ := empty_eq hp
    rw [h1] at g1; cases g1; exact g4
  rw [show i_EdgesUsed p = (i_EmptyTriangles p).bind fun v1 => cond v1.isEmpty (some (-1)) ((iter (i_EdgesUsed_s6 v1) (([] : List (List Int)), (0 : Int))).bind fun v18 => some (v18.length : Int)) from rfl]
  unfold s_EdgesUsed
  rw [h1, h2]
  simp only [Option.bind_some]
  rcases h3 with rfl | ⟨P, rfl, hB, g3, g12, hpol, rfl⟩
  · refine ⟨-1, ?_, rfl⟩
    have : iter (s_EdgesUsed_s4 []) (([] : List (List Int)), (0 : Int)) = some [] := iter_end rfl
    rw [this]; rfl
  · have hl : (fanP P (P.length - 2)).length ≤ 240000 := by rwa [List.length_map] at hlen
    have hpos := (fan_fit hB hpol (P.length - 2) (by omega)).2.1 (by omega)
    rw [fan_P, List.length_map] at hpos
    obtain ⟨S, M, a, b, c, _⟩ := same_all (fanP_bd hB (P.length - 2) (by omega)) (by omega) (fanP P (P.length - 2)).length 0 (by omega) (S := []) (M := []) ⟨List.Pairwise.nil, List.nodup_nil, fun z => Iff.rfl, by simp, by simp, by simp⟩
    rw [show ((0 : Nat) : Int) = 0 from rfl] at a b
    rw [a, b]
    refine ⟨(S.length : Int), ?_, ?_⟩
    · have : ((((fanP P (P.length - 2)).map emT).length : Int) == 0) = false := by rw [List.length_map]; simp only [beq_eq_false_iff_ne, ne_eq]; omega
      rw [Option.bind_some, this]; rfl
    · have : ((fanP P (P.length - 2)).map emT).isEmpty = false := by
        cases hx : fanP P (P.length - 2) with
        | nil => rw [hx] at hpos; simp at hpos
        | cons a b => rfl
      rw [this, cond_false, Option.bind_some, same_len c]
/-- What the program counts. -/
theorem edges_T {P : List Pt} (hB : ∀ q ∈ P, Bd 50 q) (g3 : 3 ≤ P.length) (g12 : P.length ≤ 12) (hpol : Hull.Pol P) (hr : i_EmptyTriangles (P.map em) = some ((fanP P (P.length - 2)).map emT)) (hl : (fanP P (P.length - 2)).length ≤ 240000) :
    ∃ M : List (List Int), i_EdgesUsed (P.map em) = some (M.length : Int) ∧ M.Nodup ∧ ∀ z, z ∈ M ↔ z ∈ (sides (fanP P (P.length - 2))).map keyE := by
  rw [show i_EdgesUsed (P.map em) = (i_EmptyTriangles (P.map em)).bind fun v1 => cond v1.isEmpty (some (-1)) ((iter (i_EdgesUsed_s6 v1) (([] : List (List Int)), (0 : Int))).bind fun v18 => some (v18.length : Int)) from rfl, hr]
  simp only [Option.bind_some]
  have hpos := (fan_fit hB hpol (P.length - 2) (by omega)).2.1 (by omega)
  rw [fan_P, List.length_map] at hpos
  obtain ⟨S, M, a, b, c, m⟩ := same_all (fanP_bd hB (P.length - 2) (by omega)) (by omega) (fanP P (P.length - 2)).length 0 (by omega) (S := []) (M := []) ⟨List.Pairwise.nil, List.nodup_nil, fun z => Iff.rfl, by simp, by simp, by simp⟩
  rw [show ((0 : Nat) : Int) = 0 from rfl] at b
  rw [b]
  refine ⟨M, ?_, c.nod, fun z => ?_⟩
  · have : ((fanP P (P.length - 2)).map emT).isEmpty = false := by
      cases hx : fanP P (P.length - 2) with
      | nil => rw [hx] at hpos; simp at hpos
      | cons a b => rfl
    rw [this]; rfl
  · rw [m, List.drop_zero]; simp
end Go.Proofs.Ytcpdhjklcongoaa
