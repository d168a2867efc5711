/-
  Sums of polygons, their areas. Plain, no condition.
-/
import Derived.Test.YtbmcboancoanfaaPlHl
import Derived.Test.YtbmcboancoanfaaPlL
import Derived.Test.YtbmcboancoanfaaPlMs
namespace Go.Proofs.Ytbmcboancoanfaa
open Go Go.Proofs.Ytbmcboancoanfaa.Eng Hull
set_option linter.unusedVariables false
set_option linter.unusedSimpArgs false

theorem hullS_false {p : List (List Int)} (h : (hullS p).2 = false) : hullS p = ([], false) := by
  unfold hullS at h ⊢
  split at h
  · rename_i h1
    rw [if_pos h1]
    simp only at h ⊢
    split at h
    · cases h
    · rename_i h2
      rw [if_neg h2]
  · rename_i h1
    rw [if_neg h1]

theorem hullS_cond (p : List (List Int)) : cond (!(hullS p).2) (some (([] : List (List Int)), false)) (some ((hullS p).1, true)) = some (hullS p) := by
  cases h : (hullS p).2 with
  | false => rw [hullS_false h]; rfl
  | true =>
    show some ((hullS p).1, true) = _
    rw [← h]

theorem hullS_poly {p : List (List Int)} (h : (hullS p).2 = true) : isPoly (hullS p).1 = true := by
  unfold hullS at h ⊢
  split at h
  · rename_i h1
    rw [if_pos h1]
    simp only at h ⊢
    split at h
    · rename_i h2
      rw [if_pos h2]
      obtain ⟨P, rfl, hB⟩ := pts_of h1.2
      rw [map_toP] at h2 ⊢
      have hs : ∀ q ∈ Hull.hull (Hull.sorted P), Bd 50 q := fun q hq => by
        unfold Hull.hull at hq
        rcases List.mem_append.1 hq with hq | hq
        · have hq := (List.dropLast_sublist _).subset hq
          rw [List.mem_reverse] at hq
          rcases fold_push_sub _ _ q hq with h | h
          · exact hB q (((sorted_spec P).2 q).1 h)
          · simp at h
        · have hq := (List.dropLast_sublist _).subset hq
          rw [List.mem_reverse] at hq
          rcases fold_push_sub _ _ q hq with h | h
          · exact hB q (((sorted_spec P).2 q).1 (by simpa using h))
          · simp at h
      exact (isPoly_iff hs).2 ⟨h2.2.2, pol_hull (sorted_spec P).1 h2.2.1⟩
    · cases h
  · cases h

theorem poly_fit {p : List (List Int)} (h : isPoly p = true) : p.length ≤ 12 ∧ ∀ v ∈ p, v.length = 2 := by
  obtain ⟨P, rfl, hB, g3, g12, _⟩ := poly_of h
  refine ⟨by simpa using g12, fun v hv => ?_⟩
  obtain ⟨q, _, rfl⟩ := List.mem_map.1 hv
  rfl

theorem hullS_fit {p : List (List Int)} : (hullS p).1.length ≤ 12 ∧ ∀ v ∈ (hullS p).1, v.length = 2 := by
  cases h : (hullS p).2 with
  | false => rw [hullS_false h]; simp
  | true => exact poly_fit (hullS_poly h)

theorem sum_two {r : List (List Int)} (hl : r.length ≤ 12) (h : ∀ v ∈ r, v.length = 2) : (r.map List.length).sum ≤ 24 := by
  have : ∀ (r : List (List Int)), (∀ v ∈ r, v.length = 2) → (r.map List.length).sum = 2 * r.length := by
    intro r
    induction r with
    | nil => intro _; rfl
    | cons x r ih =>
      intro h
      rw [List.map_cons, List.sum_cons, ih fun v hv => h v (List.mem_cons_of_mem _ hv), h x (by simp), List.length_cons]
      omega
  rw [this r h]; omega

/-- A law of one list of lists, whose result is one too. -/
theorem law_LLr (x : List (List Int)) (hx : TyOk (.list (.list (.int .i64))) x) (s i : List (List Int) → Option (List (List Int) × Bool)) (w : Option Bool)
    (hw : w = ((w_szIntSS x (1048576 : Int)).bind fun v1 => cond (decide (v1 < (0 : Int)))
 (some true)
 ((w_toIntSS x).bind fun v2 => (s v2).bind fun v3 => (w_toIntSS x).bind fun v4 => (i v4).bind fun v5 => (w_eqIntSS v5.1 v3.1).bind fun v6 => cond (!v6)
 (some false)
 (cond (!(v5.2 == v3.2))
 (some false)
 ((w_toIntSS x).bind fun v7 => (w_eqIntSS v4 v7).bind fun v8 => cond (!v8)
 (some false)
 ((d_markIntSS v4 (1 : Int)).bind fun v9 => cond (decide (v9.2 < (0 : Int)))
 (some false)
 ((w_eqIntSS v5.1 v3.1).bind fun v10 => cond (!v10)
 (some false)
 (cond (!(v5.2 == v3.2))
 (some false)
 ((d_markIntSS v5.1 (1 : Int)).bind fun v11 => (w_heldIntSS v11.1 (1 : Int)).bind fun v12 => cond (decide (v12 < (0 : Int)))
 (some false)
 (cond (v12 != v11.2)
 (some false)
 ((w_toIntSS x).bind fun v13 => (i v13).bind fun v14 => (w_eqIntSS v14.1 v3.1).bind fun v15 => cond (!v15)
 (some false)
 (cond (!(v14.2 == v3.2))
 (some false)
 ((w_heldIntSS v11.1 (1 : Int)).bind fun v16 => cond (decide (v16 < (0 : Int)))
 (some false)
 (cond (v16 != v11.2)
 (some false)
 (some true)))))))))))))))
    (h : FitLL x → ∃ r, s x = some r ∧ i x = some r ∧ r.1.length ≤ 12 ∧ ∀ v ∈ r.1, v.length = 2) : w = some true := by
  obtain ⟨a1, a2, _⟩ := ok_LL hx
  rw [hw, szIntSS_eq a1 a2 (by omega) (by omega)]
  simp only [Option.bind_some]
  by_cases hc : (1048576 : Int) < totL x
  · rw [if_pos hc]; rfl
  · rw [if_neg hc]
    have hf := fitLL_of hc (Int.le_refl _)
    have hd : decide ((1048576 : Int) - totL x < 0) = false := by simp; omega
    obtain ⟨r, h1, h2, f1, f2⟩ := h hf
    have ht : (x.map List.length).sum ≤ 1048576 := by unfold totL at hc; omega
    have m1 := d_markIntSS_ms (xs := x) (by have := hf.len; omega) (by omega) (n := 1) (by omega) (by omega)
    have tr := sum_two f1 f2
    have m3 := d_markIntSS_ms (xs := r.1) (by omega) (by omega) (n := 1) (by omega) (by omega)
    have m4 := w_heldIntSS_ms (xs := r.1) (by omega) (by omega) (n := 1) (by omega) (by omega)
    have hk : decide (1 + (((x.map List.length).sum : Nat) : Int) < 0) = false := by simp; omega
    have hk2 : decide (1 + (((r.1.map List.length).sum : Nat) : Int) < 0) = false := by simp; omega
    have e1 : w_eqIntSS r.1 r.1 = some true := by rw [eqIntSS_eq (by rw [lim_eq]; omega) (fun v hv => by rw [f2 v hv, lim_eq]; omega)]; simp
    simp only [hd, cond_false, hf.to, Option.bind_some, h1, h2, eqIntSS_eq hf.lim hf.eachLim, e1, beq_self_eq_true, Bool.not_true, m1, hk, m3, m4, hk2, bne_self_eq_false]

/-! Sums. -/

def addP (a b : Pt) : Pt := (a.1 + b.1, a.2 + b.2)
def sumsP (P Q : List Pt) : List Pt := P.flatMap fun a => Q.map fun b => addP a b

theorem l2Add_em {a b : Pt} (ha : Bd 1000 a) (hb : Bd 1000 b) : s_l2Add (em a) (em b) = some (em (addP a b)) := by
  unfold Bd at ha hb
  have e0 : s_l2Add_s3 (em a) (em b) ([], 0) = some (.inl ([a.1 + b.1], 1)) := by
    show cond (decide ((0 : Int) < 2)) ((idx (em a) 0).bind fun v2 => (idx (em b) 0).bind fun v3 => (appD 8 ([] : List Int) [IntKind.i64.wrap (v2 + v3)]).bind fun v4 => some (Sum.inl (v4, IntKind.i64.wrap (0 + 1)))) _ = _
    simp only [show decide ((0 : Int) < 2) = true from rfl, cond_true, Option.bind_some, (idx_em a).1, (idx_em b).1]
    rw [appD_some (by simp [lim_eq]) (by simp [lim_eq]), wrap_small (by omega) (by omega)]
    rfl
  have e1 : s_l2Add_s3 (em a) (em b) ([a.1 + b.1], 1) = some (.inl ([a.1 + b.1, a.2 + b.2], 2)) := by
    show cond (decide ((1 : Int) < 2)) ((idx (em a) 1).bind fun v2 => (idx (em b) 1).bind fun v3 => (appD 8 [a.1 + b.1] [IntKind.i64.wrap (v2 + v3)]).bind fun v4 => some (Sum.inl (v4, IntKind.i64.wrap (1 + 1)))) _ = _
    simp only [show decide ((1 : Int) < 2) = true from rfl, cond_true, Option.bind_some, (idx_em a).2, (idx_em b).2]
    rw [appD_some (by simp [lim_eq]) (by simp [lim_eq]), wrap_small (by omega) (by omega)]
    rfl
  have e2 : s_l2Add_s3 (em a) (em b) ([a.1 + b.1, a.2 + b.2], 2) = some (.inr [a.1 + b.1, a.2 + b.2]) := rfl
  unfold s_l2Add
  rw [iter_next e0, iter_next e1, iter_end e2]
  rfl

theorem sums_len (P Q : List Pt) : (sumsP P Q).length = P.length * Q.length := by
  unfold sumsP
  induction P with
  | nil => simp
  | cons x P ih => simp only [List.flatMap_cons, List.length_append, List.length_map, List.length_cons]; rw [ih, Nat.succ_mul]; omega

theorem sums_take (P Q : List Pt) {k : Nat} {a : Pt} (h : P[k]? = some a) : sumsP (P.take (k + 1)) Q = sumsP (P.take k) Q ++ Q.map fun b => addP a b := by
  unfold sumsP
  rw [List.take_add_one, h, List.flatMap_append]
  simp

def sumP (p q : List (List Int)) : List (List Int) × Bool := if isPoly p && isPoly q then hullS ((sumsP (p.map toP) (q.map toP)).map em) else ([], false)

theorem sum_eq {p q : List (List Int)} (hp : FitLL p) (hq : FitLL q) : s_SumPolygons p q = some (sumP p q) ∧ i_SumPolygons p q = some (sumP p q) := by
  unfold s_SumPolygons i_SumPolygons sumP
  rw [s_IsPolygon_eq hp.lim hp.eachLim, i_IsPolygon_eq hp.lim hp.eachLim, s_IsPolygon_eq hq.lim hq.eachLim, i_IsPolygon_eq hq.lim hq.eachLim]
  simp only [Option.bind_some]
  cases h1 : isPoly p with
  | false => exact ⟨rfl, rfl⟩
  | true =>
    cases h2 : isPoly q with
    | false => exact ⟨rfl, rfl⟩
    | true =>
      obtain ⟨P, rfl, pB, p3, p12, pP⟩ := poly_of h1
      obtain ⟨Q, rfl, qB, q3, q12, qP⟩ := poly_of h2
      simp only [Bool.not_true, cond_false, Bool.and_self, if_true, map_toP]
      have big : ∀ k, (sumsP (P.take k) Q).length ≤ 144 := fun k => by
        rw [sums_len]
        have h1 : (P.take k).length ≤ 12 := by simp; omega
        exact Nat.le_trans (Nat.mul_le_mul h1 q12) (by decide)
      have wS : ∀ {a : Pt} {k : Nat}, P[k]? = some a → ∀ v3 : List (List Int) × Int, v3.1 = (sumsP (P.take k) Q).map em → v3.2 = (k : Int) → iter (s_SumPolygons_s8 (P.map em) (Q.map em) v3) (v3.1, 0) = some ((sumsP (P.take (k + 1)) Q).map em) := fun {a k} hk v3 e1 e2 => by
        have ha := List.mem_of_getElem? hk
        have hb := big k
        have := iter_up (step := s_SumPolygons_s8 (P.map em) (Q.map em) v3) Q.length (fun j => ((sumsP (P.take k) Q ++ (Q.take j).map fun b => addP a b).map em, (j : Int))) ((sumsP (P.take (k + 1)) Q).map em) (fun j hj => by
          have hg : Q[j]? = some Q[j] := List.getElem?_eq_getElem hj
          unfold s_SumPolygons_s8
          simp only
          rw [show decide ((j : Int) < ((Q.map em).length : Int)) = true from by simp; omega, cond_true, e2]
          have i1 : idx (P.map em) (k : Int) = some (em a) := idx_some (by rw [List.getElem?_map, hk]; rfl)
          have i2 : idx (Q.map em) (j : Int) = some (em Q[j]) := idx_some (by rw [List.getElem?_map, hg]; rfl)
          rw [i1, i2]
          simp only [Option.bind_some]
          rw [l2Add_em ((pB a ha).mono (by decide)) ((qB _ (List.getElem_mem hj)).mono (by decide))]
          simp only [Option.bind_some]
          rw [appD_some (by rw [lim_eq]; simp; omega) (by rw [lim_eq]; simp; omega), wrap_small (x := (j : Int) + 1) (by omega) (by omega), List.take_add_one, hg]
          simp only [Option.toList_some, List.map_append, List.map_cons, List.map_nil, List.append_assoc]
          rfl) (by
          unfold s_SumPolygons_s8
          simp only
          rw [show decide ((Q.length : Int) < ((Q.map em).length : Int)) = false from by simp, cond_false, List.take_length, sums_take P Q hk])
        have e0 : (v3.1, (0 : Int)) = ((sumsP (P.take k) Q ++ (Q.take 0).map fun b => addP a b).map em, ((0 : Nat) : Int)) := by rw [e1]; simp
        rw [e0, this]
      have wI : ∀ {a : Pt} {k : Nat}, P[k]? = some a → iter (i_SumPolygons_s8 (Q.map em) (em a)) ((sumsP (P.take k) Q).map em, 0) = some ((sumsP (P.take (k + 1)) Q).map em) := fun {a k} hk => by
        have ha := List.mem_of_getElem? hk
        have hb := big k
        have hab := pB a ha
        unfold Bd at hab
        have := iter_up (step := i_SumPolygons_s8 (Q.map em) (em a)) Q.length (fun j => ((sumsP (P.take k) Q ++ (Q.take j).map fun b => addP a b).map em, (j : Int))) ((sumsP (P.take (k + 1)) Q).map em) (fun j hj => by
          have hg : Q[j]? = some Q[j] := List.getElem?_eq_getElem hj
          have hqb := qB _ (List.getElem_mem hj)
          unfold Bd at hqb
          unfold i_SumPolygons_s8
          simp only
          rw [show decide ((j : Int) < ((Q.map em).length : Int)) = true from by simp; omega, cond_true]
          have i2 : idx (Q.map em) (j : Int) = some (em Q[j]) := idx_some (by rw [List.getElem?_map, hg]; rfl)
          rw [i2]
          simp only [Option.bind_some, (idx_em a).1, (idx_em a).2, (idx_em Q[j]).1, (idx_em Q[j]).2]
          rw [wrap_small (x := a.1 + Q[j].1) (by omega) (by omega), wrap_small (x := a.2 + Q[j].2) (by omega) (by omega)]
          rw [appD_some (by rw [lim_eq]; simp; omega) (by rw [lim_eq]; simp; omega), wrap_small (x := (j : Int) + 1) (by omega) (by omega), List.take_add_one, hg]
          simp only [Option.toList_some, List.map_append, List.map_cons, List.map_nil, List.append_assoc]
          rfl) (by
          unfold i_SumPolygons_s8
          simp only
          rw [show decide ((Q.length : Int) < ((Q.map em).length : Int)) = false from by simp, cond_false, List.take_length, sums_take P Q hk])
        have e0 : ((sumsP (P.take k) Q).map em, (0 : Int)) = ((sumsP (P.take k) Q ++ (Q.take 0).map fun b => addP a b).map em, ((0 : Nat) : Int)) := by simp
        rw [e0, this]
      have S := iter_up (step := s_SumPolygons_s5 (P.map em) (Q.map em)) P.length (fun k => ((sumsP (P.take k) Q).map em, (k : Int))) ((sumsP P Q).map em) (fun k hk => by
        have hg : P[k]? = some P[k] := List.getElem?_eq_getElem hk
        unfold s_SumPolygons_s5
        simp only
        rw [show decide ((k : Int) < ((P.map em).length : Int)) = true from by simp; omega, cond_true, wS hg ((sumsP (P.take k) Q).map em, (k : Int)) rfl rfl]
        simp only [Option.bind_some]
        rw [wrap_small (x := (k : Int) + 1) (by omega) (by omega)]
        rfl) (by
        unfold s_SumPolygons_s5
        simp)
      have T := iter_up (step := i_SumPolygons_s5 (P.map em) (Q.map em)) P.length (fun k => ((sumsP (P.take k) Q).map em, (k : Int))) ((sumsP P Q).map em) (fun k hk => by
        have hg : P[k]? = some P[k] := List.getElem?_eq_getElem hk
        unfold i_SumPolygons_s5
        simp only
        rw [show decide ((k : Int) < ((P.map em).length : Int)) = true from by simp; omega, cond_true]
        have i1 : idx (P.map em) (k : Int) = some (em P[k]) := idx_some (by rw [List.getElem?_map, hg]; rfl)
        rw [i1]
        simp only [Option.bind_some]
        rw [wI hg]
        simp only [Option.bind_some]
        rw [wrap_small (x := (k : Int) + 1) (by omega) (by omega)]
        rfl) (by
        unfold i_SumPolygons_s5
        simp)
      have hlen : ((sumsP P Q).map em).length ≤ lim := by
        have := big P.length
        rw [List.take_length] at this
        rw [List.length_map, lim_eq]; omega
      have heach : ∀ v ∈ (sumsP P Q).map em, v.length ≤ lim := fun v hv => by
        obtain ⟨q, _, rfl⟩ := List.mem_map.1 hv
        simp [em, lim_eq]
      have e0 : ((([] : List (List Int)), 0) : List (List Int) × Int) = ((sumsP (P.take 0) Q).map em, ((0 : Nat) : Int)) := by simp [sumsP]
      rw [e0, S, T]
      simp only [Option.bind_some]
      rw [s_HullOf_eq hlen heach, i_HullOf_eq hlen heach]
      simp only [Option.bind_some]
      exact ⟨hullS_cond _, trivial⟩

theorem sum_fit {p q : List (List Int)} : (sumP p q).1.length ≤ 12 ∧ ∀ v ∈ (sumP p q).1, v.length = 2 := by
  unfold sumP
  split
  · exact hullS_fit
  · simp

theorem law_SumPolygons (x y : List (List Int)) (hx : TyOk (.list (.list (.int .i64))) x) (hy : TyOk (.list (.list (.int .i64))) y) : w_FnExactSumPolygons x y = some true := by
  obtain ⟨a1, a2, _⟩ := ok_LL hx
  obtain ⟨b1, b2, _⟩ := ok_LL hy
  unfold w_FnExactSumPolygons
  rw [szIntSS_eq a1 a2 (by omega) (by omega)]
  simp only [Option.bind_some]
  by_cases hc : (1048576 : Int) < totL x
  · rw [if_pos hc]; rfl
  · rw [if_neg hc, show decide ((1048576 : Int) - totL x < 0) = false from by simp; omega, cond_false, szIntSS_eq b1 b2 (by omega) (by omega)]
    simp only [Option.bind_some]
    by_cases hc2 : (1048576 : Int) - totL x < totL y
    · rw [if_pos hc2]; rfl
    · rw [if_neg hc2, show decide ((1048576 : Int) - totL x - totL y < 0) = false from by simp; omega, cond_false]
      have hf := fitLL_of hc (Int.le_refl _)
      have hg := fitLL_of hc2 (by omega)
      obtain ⟨h1, h2⟩ := sum_eq hf hg
      obtain ⟨f1, f2⟩ := sum_fit (p := x) (q := y)
      have ht : (x.map List.length).sum ≤ 1048576 := by unfold totL at hc; omega
      have ht2 : (y.map List.length).sum ≤ 1048576 := by unfold totL at hc2; omega
      have m1 := d_markIntSS_ms (xs := x) (by have := hf.len; omega) (by omega) (n := 1) (by omega) (by omega)
      have m2 := d_markIntSS_ms (xs := y) (by have := hg.len; omega) (by omega) (n := 1 + ((x.map List.length).sum : Nat)) (by omega) (by omega)
      have tr := sum_two f1 f2
      generalize sumP x y = r at *
      have m3 := d_markIntSS_ms (xs := r.1) (by omega) (by omega) (n := 1) (by omega) (by omega)
      have m4 := w_heldIntSS_ms (xs := r.1) (by omega) (by omega) (n := 1) (by omega) (by omega)
      have hk : decide (1 + (((x.map List.length).sum : Nat) : Int) + (((y.map List.length).sum : Nat) : Int) < 0) = false := by simp; omega
      have hk2 : decide (1 + (((r.1.map List.length).sum : Nat) : Int) < 0) = false := by simp; omega
      have e1 : w_eqIntSS r.1 r.1 = some true := by rw [eqIntSS_eq (by rw [lim_eq]; omega) (fun v hv => by rw [f2 v hv, lim_eq]; omega)]; simp
      simp only [cond_false, hf.to, hg.to, Option.bind_some, h1, h2, eqIntSS_eq hf.lim hf.eachLim, eqIntSS_eq hg.lim hg.eachLim, e1, beq_self_eq_true, Bool.not_true, m1, m2, hk, m3, m4, hk2, bne_self_eq_false]

theorem mixed_eq {p q : List (List Int)} (hp : FitLL p) (hq : FitLL q) : ∃ n, s_MixedArea p q = some n ∧ i_MixedArea p q = some n := by
  obtain ⟨h1, h2⟩ := sum_eq hp hq
  unfold s_MixedArea i_MixedArea
  rw [h1, h2]
  simp only [Option.bind_some]
  cases hs : (sumP p q).2 with
  | false => exact ⟨-1, rfl, rfl⟩
  | true =>
    unfold sumP at hs ⊢
    split at hs
    · rename_i hc
      rw [if_pos hc]
      simp only [Bool.and_eq_true] at hc
      have hH := hullS_poly hs
      have ar : ∀ {p : List (List Int)}, isPoly p = true → p.length ≤ lim → (∀ v ∈ p, v.length ≤ lim) → ∃ A, s_l7Area p = some A ∧ i_AreaTwice p = some A := fun {p} h hl hx => by
        obtain ⟨P, rfl, hB, g3, g12, _⟩ := poly_of h
        obtain ⟨A, hA⟩ := area_some hB g12
        refine ⟨A, hA, ?_⟩
        unfold i_AreaTwice
        rw [i_IsPolygon_eq hl hx, h]
        simp only [Option.bind_some, Bool.not_true, cond_false, area_same, hA]
      obtain ⟨f1, f2⟩ := poly_fit hH
      obtain ⟨A, a1, a2⟩ := ar hH (by rw [lim_eq]; omega) (fun v hv => by rw [f2 v hv, lim_eq]; omega)
      obtain ⟨B, b1, b2⟩ := ar hc.1 hp.lim hp.eachLim
      obtain ⟨D, d1, d2⟩ := ar hc.2 hq.lim hq.eachLim
      rw [a1, a2, b1, b2, d1, d2]
      exact ⟨_, rfl, rfl⟩
    · cases hs

theorem law_MixedArea (x y : List (List Int)) (hx : TyOk (.list (.list (.int .i64))) x) (hy : TyOk (.list (.list (.int .i64))) y) : w_FnExactMixedArea x y = some true := by
  obtain ⟨a1, a2, _⟩ := ok_LL hx
  obtain ⟨b1, b2, _⟩ := ok_LL hy
  unfold w_FnExactMixedArea
  rw [szIntSS_eq a1 a2 (by omega) (by omega)]
  simp only [Option.bind_some]
  by_cases hc : (1048576 : Int) < totL x
  · rw [if_pos hc]; rfl
  · rw [if_neg hc, show decide ((1048576 : Int) - totL x < 0) = false from by simp; omega, cond_false, szIntSS_eq b1 b2 (by omega) (by omega)]
    simp only [Option.bind_some]
    by_cases hc2 : (1048576 : Int) - totL x < totL y
    · rw [if_pos hc2]; rfl
    · rw [if_neg hc2, show decide ((1048576 : Int) - totL x - totL y < 0) = false from by simp; omega, cond_false]
      have hf := fitLL_of hc (Int.le_refl _)
      have hg := fitLL_of hc2 (by omega)
      obtain ⟨n, h1, h2⟩ := mixed_eq hf hg
      simp only [cond_false, hf.to, hg.to, Option.bind_some, h1, h2, eqIntSS_eq hf.lim hf.eachLim, eqIntSS_eq hg.lim hg.eachLim, beq_self_eq_true, Bool.not_true, bne_self_eq_false]

end Go.Proofs.Ytbmcboancoanfaa
