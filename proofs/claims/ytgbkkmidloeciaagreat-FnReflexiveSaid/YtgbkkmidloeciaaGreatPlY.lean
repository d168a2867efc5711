/-
  Corner cones; smooth corners. Plain, no condition.
-/
import Derived.Test.YtgbkkmidloeciaaGreatPlX
import Derived.Test.YtgbkkmidloeciaaGreatPlM
namespace Go.Proofs.YtgbkkmidloeciaaGreat
open Go Go.Proofs.YtgbkkmidloeciaaGreat.Eng
open Hull (Pt tn lx at_ at_some at_mem)
set_option linter.unusedVariables false
set_option linter.unusedSimpArgs false
/-- A vector divided by its common divisor. -/
def prm (d : Pt) : Pt := (d.1.tdiv (Int.gcd d.1 d.2), d.2.tdiv (Int.gcd d.1 d.2))
theorem gcd_pos {d : Pt} (h : d ≠ (0, 0)) : 0 < Int.gcd d.1 d.2 := by
  rcases Nat.eq_zero_or_pos (Int.gcd d.1 d.2) with h0 | h0
  · exfalso
    rw [Int.gcd_eq_zero_iff] at h0
    exact h (Prod.ext h0.1 h0.2)
  · exact h0
theorem primitive_em {d : Pt} (hd : Bd 1000 d) (h : d ≠ (0, 0)) : i_PrimitiveOf (em d) = some (em (prm d), true) ∧ s_l2Prime (em d) = some (em (prm d)) := by
  have hg := gcd_pos h
  have hd' := hd
  unfold Bd at hd'
  have hsm : ∀ x ∈ em d, Sm x := fun x hx => by
    simp only [em, List.mem_cons, List.not_mem_nil, or_false] at hx
    unfold Sm
    rcases hx with rfl | rfl <;> omega
  have hgl : gcdL (em d) = (Int.gcd d.1 d.2 : Int) := gcdL_two _ _
  have hl : (em d).length ≤ lim := by simp [em, lim_eq]
  generalize hG : Int.gcd d.1 d.2 = g at *
  have q1 : quoI .i64 d.1 (g : Int) = some (d.1.tdiv g) := quo_some (by omega) ⟨by omega, by omega⟩
  have q2 : quoI .i64 d.2 (g : Int) = some (d.2.tdiv g) := quo_some (by omega) ⟨by omega, by omega⟩
  constructor
  · unfold i_PrimitiveOf i_GcdOf
    rw [i_IsVector_eq hl, vecB_em hd]
    simp only [Option.bind_some, Bool.not_true, cond_false]
    rw [gcdAll_eq hl hsm, hgl]
    simp only [Option.bind_some]
    rw [show decide ((g : Int) ≤ 0) = false from by simp; omega, cond_false, copyInts_eq (by simp [em, lim_eq])]
    simp only [Option.bind_some]
    have e0 : i_PrimitiveOf_s6 (g : Int) (em d) (em d, 0) = some (.inl ([d.1.tdiv g, d.2], 1)) := by
      show cond (decide ((0 : Int) < 2)) ((inIdx 2 0).bind fun _ => (idx (em d) 0).bind fun v4 => (quoI .i64 v4 (g : Int)).bind fun v5 => (inIdx 2 0).bind fun _ => (inIdx 2 0).bind fun _ => some (Sum.inl ((em d).set 0 v5, IntKind.i64.wrap (0 + 1)))) _ = _
      simp only [show decide ((0 : Int) < 2) = true from rfl, cond_true, show inIdx 2 0 = some () from rfl, Option.bind_some, (idx_em d).1, q1]
      rfl
    have e1 : i_PrimitiveOf_s6 (g : Int) (em d) ([d.1.tdiv g, d.2], 1) = some (.inl ([d.1.tdiv g, d.2.tdiv g], 2)) := by
      show cond (decide ((1 : Int) < 2)) ((inIdx 2 1).bind fun _ => (idx [d.1.tdiv g, d.2] 1).bind fun v4 => (quoI .i64 v4 (g : Int)).bind fun v5 => (inIdx 2 1).bind fun _ => (inIdx 2 1).bind fun _ => some (Sum.inl ([d.1.tdiv g, d.2].set 1 v5, IntKind.i64.wrap (1 + 1)))) _ = _
      simp only [show decide ((1 : Int) < 2) = true from rfl, cond_true, show inIdx 2 1 = some () from rfl, Option.bind_some, idx1, q2]
      rfl
    have e2 : i_PrimitiveOf_s6 (g : Int) (em d) ([d.1.tdiv g, d.2.tdiv g], 2) = some (.inr [d.1.tdiv g, d.2.tdiv g]) := rfl
    rw [iter_next e0, iter_next e1, iter_end e2]
    unfold prm
    rw [hG]; rfl
  · unfold s_l2Prime
    rw [l2All_eq hl hsm, hgl]
    simp only [Option.bind_some]
    have hmx : s_l1Max (g : Int) 1 = some (g : Int) := by
      rw [l1Max_eq]; unfold mx; rw [if_neg (by omega)]
    have e0 : s_l2Prime_s4 (em d) (g : Int) ([], 0) = some (.inl ([d.1.tdiv g], 1)) := by
      show cond (decide ((0 : Int) < 2)) ((idx (em d) 0).bind fun v3 => (s_l1Max (g : Int) 1).bind fun v4 => (quoI .i64 v3 v4).bind fun v5 => (appD 8 ([] : List Int) [v5]).bind fun v6 => some (Sum.inl (v6, IntKind.i64.wrap (0 + 1)))) _ = _
      simp only [show decide ((0 : Int) < 2) = true from rfl, cond_true, Option.bind_some, (idx_em d).1, hmx, q1]
      rw [appD_some (by simp [lim_eq]) (by simp [lim_eq])]
      rfl
    have e1 : s_l2Prime_s4 (em d) (g : Int) ([d.1.tdiv g], 1) = some (.inl ([d.1.tdiv g, d.2.tdiv g], 2)) := by
      show cond (decide ((1 : Int) < 2)) ((idx (em d) 1).bind fun v3 => (s_l1Max (g : Int) 1).bind fun v4 => (quoI .i64 v3 v4).bind fun v5 => (appD 8 [d.1.tdiv g] [v5]).bind fun v6 => some (Sum.inl (v6, IntKind.i64.wrap (1 + 1)))) _ = _
      simp only [show decide ((1 : Int) < 2) = true from rfl, cond_true, Option.bind_some, (idx_em d).2, hmx, q2]
      rw [appD_some (by simp [lim_eq]) (by simp [lim_eq])]
      rfl
    have e2 : s_l2Prime_s4 (em d) (g : Int) ([d.1.tdiv g, d.2.tdiv g], 2) = some (.inr [d.1.tdiv g, d.2.tdiv g]) := rfl
    rw [iter_next e0, iter_next e1, iter_end e2]
    unfold prm
    rw [hG]; rfl
def sbp (a b : Pt) : Pt := (a.1 - b.1, a.2 - b.2)
theorem sbp_em {a b : Pt} (ha : Bd 50 a) (hb : Bd 50 b) : i_minus (em a) (em b) = some (em (sbp a b)) ∧ s_l2Less (em a) (em b) = some (em (sbp a b)) ∧ Bd 1000 (sbp a b) :=
  ⟨minus_em (by decide) ha hb, less_em (by decide) ha hb, by unfold Bd sbp at *; simp only; omega⟩
/-- The cone at a corner. -/
def corner (P : List Pt) (k : Nat) : Cn := (em (prm (sbp (at_ P ((k + 1) % P.length)) (at_ P k))), em (prm (sbp (at_ P ((k + P.length - 1) % P.length)) (at_ P k))))
theorem edge_ne {P : List Pt} (h : Hull.Pol P) {k : Nat} (hk : k < P.length) : sbp (at_ P ((k + 1) % P.length)) (at_ P k) ≠ (0, 0) ∧ sbp (at_ P ((k + P.length - 1) % P.length)) (at_ P k) ≠ (0, 0) := by
  have h3 := h.len
  have key : ∀ j, j < P.length → at_ P j ≠ at_ P ((j + 1) % P.length) := fun j hj e => by
    have := (Hull.pol_chk h3).1 h j hj
    unfold Hull.chk at this
    simp only [Bool.and_eq_true, decide_eq_true_eq] at this
    have t := this.1
    rw [← e] at t
    have z : tn (at_ P j) (at_ P j) (at_ P ((j + 2) % P.length)) = 0 := by unfold Hull.tn; grind
    omega
  have sb0 : ∀ a b : Pt, sbp a b = (0, 0) → a = b := fun a b e => by
    unfold sbp at e
    have e1 := congrArg Prod.fst e
    have e2 := congrArg Prod.snd e
    simp only at e1 e2
    exact Prod.ext (by omega) (by omega)
  refine ⟨fun e => key k hk (sb0 _ _ e).symm, fun e => ?_⟩
  have hj : (k + P.length - 1) % P.length < P.length := Nat.mod_lt _ (by omega)
  have := key _ hj
  have e3 : ((k + P.length - 1) % P.length + 1) % P.length = k := by
    rcases Nat.eq_zero_or_pos k with rfl | h0
    · have e4 : (0 + P.length - 1) % P.length = P.length - 1 := by rw [Nat.zero_add]; exact Nat.mod_eq_of_lt (by omega)
      rw [e4, show P.length - 1 + 1 = P.length by omega, Nat.mod_self]
    · rw [show k + P.length - 1 = (k - 1) + P.length by omega, Nat.add_mod_right, Nat.mod_eq_of_lt (show k - 1 < P.length by omega), show k - 1 + 1 = k by omega, Nat.mod_eq_of_lt hk]
  rw [e3] at this
  exact this (sb0 _ _ e)
theorem corner_eq {P : List Pt} (hB : ∀ q ∈ P, Bd 50 q) (h : isPoly (P.map em) = true) {k : Nat} (hk : k < P.length) :
    i_CornerCone (P.map em) k = some (if isCn (corner P k) then (corner P k, true) else (([], []), false)) ∧ s_CornerCone (P.map em) k = some (if isCn (corner P k) then (corner P k, true) else (([], []), false)) := by
  obtain ⟨h12, hpol⟩ := (isPoly_iff hB).1 h
  have h3 := hpol.len
  have hlen : (P.map em).length ≤ lim := by rw [List.length_map, lim_eq]; omega
  have hx : ∀ v ∈ P.map em, v.length ≤ lim := fun v hv => by
    obtain ⟨q, _, rfl⟩ := List.mem_map.1 hv
    simp [em, lim_eq]
  obtain ⟨n1, n2⟩ := edge_ne hpol hk
  have hm : ∀ j, j % P.length < P.length := fun j => Nat.mod_lt _ (by omega)
  have bd : ∀ {j}, j < P.length → Bd 50 (at_ P j) := fun h => hB _ (at_mem h)
  have w1 : IntKind.i64.wrap ((k : Int) + 1) = ((k + 1 : Nat) : Int) := by rw [wrap_small (by omega) (by omega)]; omega
  have w2 : IntKind.i64.wrap (IntKind.i64.wrap ((k : Int) + (P.length : Int)) - 1) = ((k + P.length - 1 : Nat) : Int) := by rw [wrap_small (x := (k : Int) + (P.length : Int)) (by omega) (by omega), wrap_small (by omega) (by omega)]; omega
  have w3 : IntKind.i64.wrap ((P.length : Int) - 1) = (P.length : Int) - 1 := wrap_small (by omega) (by omega)
  have hin : inR 0 ((P.length : Int) - 1) (k : Int) = true := inR_iff.2 ⟨by omega, by omega⟩
  have m1 := sbp_em (bd (hm (k + 1))) (bd hk)
  have m2 := sbp_em (bd (hm (k + P.length - 1))) (bd hk)
  have p1 := primitive_em m1.2.2 n1
  have p2 := primitive_em m2.2.2 n2
  have l1 : (corner P k).1.length ≤ lim := by simp [corner, em, lim_eq]
  have l2 : (corner P k).2.length ≤ lim := by simp [corner, em, lim_eq]
  constructor
  · unfold i_CornerCone
    rw [i_IsPolygon_eq hlen hx, h]
    simp only [Option.bind_some, Bool.not_true, cond_false, List.length_map, w1, w2, w3, within_eq, hin]
    rw [remP (by omega), remP (by omega)]
    simp only [Option.bind_some]
    rw [idxP (hm _), idxP hk, idxP (hm _)]
    simp only [Option.bind_some, m1.1, m2.1, p1.1, p2.1]
    have := i_IsCone_eq (c := corner P k) l1 l2
    unfold corner at this
    rw [this]
    simp only [Option.bind_some]
    unfold corner
    cases isCn _ <;> rfl
  · unfold s_CornerCone
    rw [s_IsPolygon_eq hlen hx, h]
    simp only [Option.bind_some, Bool.not_true, cond_false, List.length_map, w1, w2, w3, l1In_eq, hin]
    rw [remP (by omega), remP (by omega)]
    simp only [Option.bind_some]
    rw [idxP (hm _), idxP hk, idxP (hm _)]
    simp only [Option.bind_some, m1.2.1, m2.2.1, p1.2, p2.2]
    have := s_IsCone_eq (c := corner P k) l1 l2
    unfold corner at this
    rw [this]
    simp only [Option.bind_some]
    unfold corner
    cases isCn _ <;> rfl
theorem coneIndex_both {c : Cn} (h1 : c.1.length ≤ lim) (h2 : c.2.length ≤ lim) : ∃ n, s_ConeIndex c = some n ∧ i_ConeIndex c = some n := by
  unfold s_ConeIndex i_ConeIndex
  rw [s_IsCone_eq (c := (c.1, c.2)) h1 h2, i_IsCone_eq (c := (c.1, c.2)) h1 h2]
  simp only [Option.bind_some]
  cases h : isCn (c.1, c.2) with
  | false => exact ⟨_, rfl, rfl⟩
  | true =>
    have h' := h
    unfold isCn at h'
    simp only [Bool.and_eq_true] at h'
    have := crossL_eq (by decide) h'.1.1.1.1 h'.1.1.1.2
    rw [Bool.not_true, cond_false, cond_false, this.1, this.2]
    exact ⟨_, rfl, rfl⟩
/-- Both counts of smooth corners. -/
theorem smooth_eq {p : List (List Int)} (hp : FitLL p) : ∃ r, s_SmoothCorners p = some r ∧ i_SmoothCorners p = some r := by
  unfold i_SmoothCorners
  rw [i_IsPolygon_eq hp.lim hp.eachLim]
  simp only [Option.bind_some]
  cases h1 : isPoly p with
  | false =>
    refine ⟨-1, ?_, rfl⟩
    unfold s_SmoothCorners
    cases p with
    | nil =>
      have : s_SmoothCorners_s3 [] (0, 0) = some (.inr (.inl 0)) := rfl
      rw [iter_end this]; rfl
    | cons v p =>
      have : s_SmoothCorners_s3 (v :: p) (0, 0) = some (.inr (.inr (-1))) := by
        unfold s_SmoothCorners_s3
        simp only
        rw [show decide ((0 : Int) < ((v :: p).length : Int)) = true from by simp, cond_true]
        unfold s_CornerCone
        rw [s_IsPolygon_eq hp.lim hp.eachLim, h1]
        rfl
      rw [iter_end this]; rfl
  | true =>
    obtain ⟨P, rfl, hB, g3, g12, _⟩ := poly_of h1
    rw [Bool.not_true, cond_false]
    have hci : ∀ k, ∃ n, s_ConeIndex (corner P k) = some n ∧ i_ConeIndex (corner P k) = some n := fun k => coneIndex_both (by simp [corner, em, lim_eq]) (by simp [corner, em, lim_eq])
    let ci : Nat → Int := fun k => (hci k).choose
    have hs : ∀ k, s_ConeIndex (corner P k) = some (ci k) := fun k => (hci k).choose_spec.1
    have hi : ∀ k, i_ConeIndex (corner P k) = some (ci k) := fun k => (hci k).choose_spec.2
    let body : Int → Nat → Int ⊕ (Int ⊕ Int) := fun a k => if isCn (corner P k) then .inl (a + if ci k = 1 then 1 else 0) else .inr (.inr (-1))
    have hr : ∀ {k x : Nat}, (List.range P.length)[k]? = some x → x = k ∧ k < P.length := fun {k x} h => by
      have hk : k < P.length := by have := (List.getElem?_eq_some_iff.1 h).1; simpa using this
      rw [List.getElem?_range hk] at h
      exact ⟨(Option.some.inj h).symm, hk⟩
    have wk : ∀ {k : Nat}, k < P.length → IntKind.i64.wrap ((k : Int) + 1) = (k : Int) + 1 := fun h => wrap_small (by omega) (by omega)
    have L1 := iter_list0 (step := s_SmoothCorners_s3 (P.map em)) (fun a k => (a, k)) (List.range P.length) body (fun a => (.inl a : Int ⊕ Int)) (fun k a => 0 ≤ a ∧ a ≤ k) (fun k a x hx ha => by
      obtain ⟨rfl, hk⟩ := hr hx
      refine ⟨?_, fun a' h' => ?_⟩
      · unfold s_SmoothCorners_s3
        simp only
        rw [show decide ((x : Int) < ((P.map em).length : Int)) = true from by simp; omega, cond_true, (corner_eq hB h1 hk).2]
        simp only [Option.bind_some, body]
        cases hc : isCn (corner P x) with
        | false => rfl
        | true =>
          simp only [if_true, Bool.not_true, cond_false]
          have := hs x
          unfold corner at this ⊢
          rw [this]
          simp only [Option.bind_some, s_l1Bit]
          by_cases h : ci x = 1
          · rw [show (ci x == 1) = true from by simpa using h, cond_true, if_pos h]
            simp only [Option.bind_some]
            rw [wrap_small (by omega) (by omega), wk hk]
          · rw [show (ci x == 1) = false from by simpa using h, cond_false, if_neg h]
            simp only [Option.bind_some]
            rw [wrap_small (by omega) (by omega), wk hk]
      · simp only [body] at h'
        split at h'
        · simp only [Sum.inl.injEq] at h'
          split at h' <;> omega
        · cases h') (fun a _ => by
      unfold s_SmoothCorners_s3
      simp) 0 ⟨Int.le_refl _, by omega⟩
    have L2 := iter_list0 (step := i_SmoothCorners_s5 (P.map em)) (fun a k => (a, k)) (List.range P.length) body (fun a => (.inl a : Int ⊕ Int)) (fun k a => 0 ≤ a ∧ a ≤ k) (fun k a x hx ha => by
      obtain ⟨rfl, hk⟩ := hr hx
      refine ⟨?_, fun a' h' => ?_⟩
      · unfold i_SmoothCorners_s5
        simp only
        rw [show decide ((x : Int) < ((P.map em).length : Int)) = true from by simp; omega, cond_true, (corner_eq hB h1 hk).1]
        simp only [Option.bind_some, body]
        cases hc : isCn (corner P x) with
        | false => rfl
        | true =>
          simp only [if_true, Bool.not_true, cond_false]
          have := hi x
          unfold corner at this ⊢
          rw [this]
          simp only [Option.bind_some]
          by_cases h : ci x = 1
          · rw [show (ci x == 1) = true from by simpa using h, cond_true, if_pos h]
            rw [wrap_small (by omega) (by omega), wk hk]
          · rw [show (ci x == 1) = false from by simpa using h, cond_false, if_neg h, wk hk, Int.add_zero]
      · simp only [body] at h'
        split at h'
        · simp only [Sum.inl.injEq] at h'
          split at h' <;> omega
        · cases h') (fun a _ => by
      unfold i_SmoothCorners_s5
      simp) 0 ⟨Int.le_refl _, by omega⟩
    unfold s_SmoothCorners
    rw [L1, L2]
    simp only [Option.bind_some]
    cases runL body (fun a => (.inl a : Int ⊕ Int)) 0 (List.range P.length) with
    | inl a =>
      refine ⟨a, ?_, rfl⟩
      simp only
      rw [show (((P.map em).length : Int) == 0) = false from by simp; intro h; subst h; simp at g3]
      rfl
    | inr a => exact ⟨a, rfl, rfl⟩
end Go.Proofs.YtgbkkmidloeciaaGreat
