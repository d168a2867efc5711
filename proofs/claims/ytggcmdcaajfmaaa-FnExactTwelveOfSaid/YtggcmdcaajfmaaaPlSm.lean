/-
  Sums of polygons, their areas. Plain, no condition.
-/
import Derived.Test.YtggcmdcaajfmaaaPlHl
import Derived.Test.YtggcmdcaajfmaaaPlL
import Derived.Test.YtggcmdcaajfmaaaPlMs
namespace Go.Proofs.Ytggcmdcaajfmaaa
open Go Go.Proofs.Ytggcmdcaajfmaaa.Eng Hull
set_option linter.unusedVariables false
set_option linter.unusedSimpArgs false

theorem hullS_false {p : List (List Int)} (h : (hullS p).2 = false) : hullS p = ([], false) := by
  unfold hullS at h ⊢
  split at h
  · rename_i h1
    rw [if_pos h1]
    simp only at h ⊢
    split at h
    · cases h
    · rename_i h2
      rw [if_neg h2]
  · rename_i h1
    rw [if_neg h1]

theorem hullS_cond (p : List (List Int)) : cond (!(hullS p).2) (some (([] : List (List Int)), false)) (some ((hullS p).1, true)) = some (hullS p) := by
  cases h : (hullS p).2 with
  | false => rw [hullS_false h]; rfl
  | true =>
    show some ((hullS p).1, true) = _
    rw [← h]

theorem hullS_poly {p : List (List Int)} (h : (hullS p).2 = true) : isPoly (hullS p).1 = true := by
  unfold hullS at h ⊢
  split at h
  · rename_i h1
    rw [if_pos h1]
    simp only at h ⊢
    split at h
    · rename_i h2
      rw [if_pos h2]
      obtain ⟨P, rfl, hB⟩ := pts_of h1.2
      rw [map_toP] at h2 ⊢
      have hs : ∀ q ∈ Hull.hull (Hull.sorted P), Bd 50 q := fun q hq => by
        unfold Hull.hull at hq
        rcases List.mem_append.1 hq with hq | hq
        · have hq := (List.dropLast_sublist _).subset hq
          rw [List.mem_reverse] at hq
          rcases fold_push_sub _ _ q hq with h | h
          · exact hB q (((sorted_spec P).2 q).1 h)
          · simp at h
        · have hq := (List.dropLast_sublist _).subset hq
          rw [List.mem_reverse] at hq
          rcases fold_push_sub _ _ q hq with h | h
          · exact hB q (((sorted_spec P).2 q).1 (by simpa using h))
          · simp at h
      exact (isPoly_iff hs).2 ⟨h2.2.2, pol_hull (sorted_spec P).1 h2.2.1⟩
    · cases h
  · cases h

theorem poly_fit {p : List (List Int)} (h : isPoly p = true) : p.length ≤ 12 ∧ ∀ v ∈ p, v.length = 2 := by
  obtain ⟨P, rfl, hB, g3, g12, _⟩ := poly_of h
  refine ⟨by simpa using g12, fun v hv => ?_⟩
  obtain ⟨q, _, rfl⟩ := List.mem_map.1 hv
  rfl

theorem hullS_fit {p : List (List Int)} : (hullS p).1.length ≤ 12 ∧ ∀ v ∈ (hullS p).1, v.length = 2 := by
  cases h : (hullS p).2 with
  | false => rw [hullS_false h]; simp
  | true => exact poly_fit (hullS_poly h)

theorem sum_two {r : List (List Int)} (hl : r.length ≤ 12) (h : ∀ v ∈ r, v.length = 2) : (r.map List.length).sum ≤ 24 := by
  have : ∀ (r : List (List Int)), (∀ v ∈ r, v.length = 2) → (r.map List.length).sum = 2 * r.length := by
    intro r
    induction r with
    | nil => intro _; rfl
    | cons x r ih =>
      intro h
      rw [List.map_cons, List.sum_cons, ih fun v hv => h v (List.mem_cons_of_mem _ hv), h x (by simp), List.length_cons]
      omega
  rw [this r h]; omega

/-- A law of one list of lists, whose result is one too. -/
theorem law_LLr (x : List (List Int)) (hx : TyOk (.list (.list (.int .i64))) x) (s i : List (List Int) → Option (List (List Int) × Bool)) (w : Option Bool)
    (hw : w = ((w_szIntSS x (1048576 : Int)).bind fun v1 => cond (decide (v1 < (0 : Int)))
 (some true)
 ((w_toIntSS x).bind fun v2 => (s v2).bind fun v3 => (w_toIntSS x).bind fun v4 => (i v4).bind fun v5 => (w_eqIntSS v5.1 v3.1).bind fun v6 => cond (!v6)
 (some false)
 (cond (!(v5.2 == v3.2))
 (some false)
 ((w_toIntSS x).bind fun v7 => (w_eqIntSS v4 v7).bind fun v8 => cond (!v8)
 (some false)
 ((d_markIntSS v4 (1 : Int)).bind fun v9 => cond (decide (v9.2 < (0 : Int)))
 (some false)
 ((w_eqIntSS v5.1 v3.1).bind fun v10 => cond (!v10)
 (some false)
 (cond (!(v5.2 == v3.2))
 (some false)
 ((d_markIntSS v5.1 (1 : Int)).bind fun v11 => (w_heldIntSS v11.1 (1 : Int)).bind fun v12 => cond (decide (v12 < (0 : Int)))
 (some false)
 (cond (v12 != v11.2)
 (some false)
 ((w_toIntSS x).bind fun v13 => (i v13).bind fun v14 => (w_eqIntSS v14.1 v3.1).bind fun v15 => cond (!v15)
 (some false)
 (cond (!(v14.2 == v3.2))
 (some false)
 ((w_heldIntSS v11.1 (1 : Int)).bind fun v16 => cond (decide (v16 < (0 : Int)))
 (some false)
 (cond (v16 != v11.2)
 (some false)
 (some true)))))))))))))))
    (h : FitLL x → ∃ r, s x = some r ∧ i x = some r ∧ r.1.length ≤ 12 ∧ ∀ v ∈ r.1, v.length = 2) : w = some true := by
  obtain ⟨a1, a2, _⟩ := ok_LL hx
  rw [hw, szIntSS_eq a1 a2 (by omega) (by omega)]
  simp only [Option.bind_some]
  by_cases hc : (1048576 : Int) < totL x
  · rw [if_pos hc]; rfl
  · rw [if_neg hc]
    have hf := fitLL_of hc (Int.le_refl _)
    have hd : decide ((1048576 : Int) - totL x < 0) = false := by simp; omega
    obtain ⟨r, h1, h2, f1, f2⟩ := h hf
    have ht : (x.map List.length).sum ≤ 1048576 := by unfold totL at hc; omega
    have m1 := d_markIntSS_ms (xs := x) (by have := hf.len; omega) (by omega) (n := 1) (by omega) (by omega)
    have tr := sum_two f1 f2
    have m3 := d_markIntSS_ms (xs := r.1) (by omega) (by omega) (n := 1) (by omega) (by omega)
    have m4 := w_heldIntSS_ms (xs := r.1) (by omega) (by omega) (n := 1) (by omega) (by omega)
    have hk : decide (1 + (((x.map List.length).sum : Nat) : Int) < 0) = false := by simp; omega
    have hk2 : decide (1 + (((r.1.map List.length).sum : Nat) : Int) < 0) = false := by simp; omega
    have e1 : w_eqIntSS r.1 r.1 = some true := by rw [eqIntSS_eq (by rw [lim_eq]; omega) (fun v hv => by rw [f2 v hv, lim_eq]; omega)]; simp
    simp only [hd, cond_false, hf.to, Option.bind_some, h1, h2, eqIntSS_eq hf.lim hf.eachLim, e1, beq_self_eq_true, Bool.not_true, m1, hk, m3, m4, hk2, bne_self_eq_false]

/-! Sums. -/

def addP (a b : Pt) : Pt := (a.1 + b.1, a.2 + b.2)
def sumsP (P Q : List Pt) : List Pt := P.flatMap fun a => Q.map fun b => addP a b

theorem sums_len (P Q : List Pt) : (sumsP P Q).length = P.length * Q.length := by
  unfold sumsP
  induction P with
  | nil => simp
  | cons x P ih => simp only [List.flatMap_cons, List.length_append, List.length_map, List.length_cons]; rw [ih, Nat.succ_mul]; omega

theorem sums_take (P Q : List Pt) {k : Nat} {a : Pt} (h : P[k]? = some a) : sumsP (P.take (k + 1)) Q = sumsP (P.take k) Q ++ Q.map fun b => addP a b := by
  unfold sumsP
  rw [List.take_add_one, h, List.flatMap_append]
  simp

def sumP (p q : List (List Int)) : List (List Int) × Bool := if isPoly p && isPoly q then hullS ((sumsP (p.map toP) (q.map toP)).map em) else ([], false)

theorem sum_fit {p q : List (List Int)} : (sumP p q).1.length ≤ 12 ∧ ∀ v ∈ (sumP p q).1, v.length = 2 := by
  unfold sumP
  split
  · exact hullS_fit
  · simp

end Go.Proofs.Ytggcmdcaajfmaaa
