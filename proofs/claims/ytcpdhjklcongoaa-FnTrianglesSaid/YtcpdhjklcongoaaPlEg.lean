/-
  Empty triangles of polygons: the laws. Plain, no condition.
-/
import Derived.Test.YtcpdhjklcongoaaPlEf
namespace Go.Proofs.Ytcpdhjklcongoaa
open Go Go.Proofs.Ytcpdhjklcongoaa.Eng
open Hull (Pt tn lx at_ at_some at_mem)
set_option linter.unusedVariables false
set_option linter.unusedSimpArgs false
def fan (P : List Pt) : Nat → List (List (List Int))
  | 0 => []
  | k + 1 => fan P k ++ tri 30000 (at_ P 0) (at_ P (k + 1)) (at_ P (k + 2))
theorem fan_tn {P : List Pt} (hp : Hull.Pol P) {k : Nat} (hk : k + 2 < P.length) : 0 < tn (at_ P 0) (at_ P (k + 1)) (at_ P (k + 2)) := by
  have h3 := hp.len
  have hc := (Hull.pol_chk h3).1 hp (k + 1) (by omega)
  unfold Hull.chk at hc
  simp only [Bool.and_eq_true, Bool.or_eq_true, decide_eq_true_eq, beq_iff_eq] at hc
  rcases hc.2 with h | h
  · omega
  · rcases h.2 with h | h
    · omega
    · exact h
theorem fan_one {P : List Pt} (hB : ∀ q ∈ P, Bd 50 q) (hp : Hull.Pol P) {k : Nat} (hk : k + 2 < P.length) :
    i_fill [em (at_ P 0), em (at_ P (k + 1)), em (at_ P (k + 2))] = some (tri 30000 (at_ P 0) (at_ P (k + 1)) (at_ P (k + 2))) ∧
    (∀ out : List (List (List Int)), out.length ≤ 900000 → s_l20Split [em (at_ P 0), em (at_ P (k + 1)), em (at_ P (k + 2))] out = some (out ++ tri 30000 (at_ P 0) (at_ P (k + 1)) (at_ P (k + 2)))) ∧
    (tri 30000 (at_ P 0) (at_ P (k + 1)) (at_ P (k + 2))).length ≤ 20000 ∧ 1 ≤ (tri 30000 (at_ P 0) (at_ P (k + 1)) (at_ P (k + 2))).length ∧ ∀ t ∈ tri 30000 (at_ P 0) (at_ P (k + 1)) (at_ P (k + 2)), t.length = 3 ∧ ∀ v ∈ t, v.length = 2 := by
  have b0 := hB _ (at_mem (show 0 < P.length by omega))
  have b1 := hB _ (at_mem (show k + 1 < P.length by omega))
  have b2 := hB _ (at_mem hk)
  have hbd := tn_bd b0 b1 b2
  have := fill_val 30000 (A := at_ P 0) (B := at_ P (k + 1)) (C := at_ P (k + 2)) (fun q hq => by
    simp only [List.mem_cons, List.not_mem_nil, or_false] at hq
    rcases hq with rfl | rfl | rfl <;> assumption) (by have := fan_tn hp hk; omega) (by omega)
  exact ⟨this.1, fun out ho => this.2.1 out (by omega), by have := this.2.2.1; omega, this.2.2.2⟩
theorem fan_fit {P : List Pt} (hB : ∀ q ∈ P, Bd 50 q) (hp : Hull.Pol P) : (k : Nat) → k + 1 < P.length → (fan P k).length ≤ 20000 * k ∧ (1 ≤ k → 1 ≤ (fan P k).length) ∧ ∀ t ∈ fan P k, t.length = 3 ∧ ∀ v ∈ t, v.length = 2
  | 0, _ => ⟨by simp [fan], fun h => by omega, by simp [fan]⟩
  | k + 1, hk => by
    have ih := fan_fit hB hp k (by omega)
    have h1 := (fan_one hB hp (k := k) (by omega)).2.2
    simp only [fan, List.length_append]
    refine ⟨by omega, fun _ => by omega, fun t ht => ?_⟩
    rcases List.mem_append.1 ht with ht | ht
    · exact ih.2.2 t ht
    · exact h1.2.2 t ht
theorem empty_eq {p : List (List Int)} (hp : FitLL p) : ∃ r, s_EmptyTriangles p = some r ∧ i_EmptyTriangles p = some r ∧ i_EmptyTriangles_1 p = some r ∧ r.length ≤ 240000 ∧ ∀ t ∈ r, t.length = 3 ∧ ∀ v ∈ t, v.length = 2 := by
  unfold s_EmptyTriangles i_EmptyTriangles i_EmptyTriangles_1
  rw [s_IsPolygon_eq hp.lim hp.eachLim, i_IsPolygon_eq hp.lim hp.eachLim]
  simp only [Option.bind_some]
  cases h1 : isPoly p with
  | false => exact ⟨[], rfl, rfl, rfl, by simp, by simp⟩
  | true =>
    obtain ⟨P, rfl, hB, g3, g12, hpol⟩ := poly_of h1
    obtain ⟨A, hA⟩ := area_some hB g12
    have hAi : i_AreaTwice (P.map em) = some A := by
      unfold i_AreaTwice
      rw [i_IsPolygon_eq hp.lim hp.eachLim, h1]
      simp only [Option.bind_some, Bool.not_true, cond_false, area_same, hA]
    rw [Bool.not_true, cond_false, cond_false, cond_false, hA, hAi]
    simp only [Option.bind_some]
    by_cases hc : A > 200
    · rw [decide_eq_true hc]
      exact ⟨[], rfl, rfl, rfl, by simp, by simp⟩
    · rw [decide_eq_false hc, cond_false, cond_false, cond_false]
      have ip : ∀ {j : Nat}, j < P.length → idx (P.map em) (j : Int) = some (em (at_ P j)) := fun h => idxP h
      have z0 : idx (P.map em) 0 = some (em (at_ P 0)) := idxP (k := 0) (by omega)
      have w1 : ∀ {k : Nat}, k < 20 → IntKind.i64.wrap (((k + 1 : Nat) : Int) + 1) = ((k + 2 : Nat) : Int) := fun h => by rw [wrap_small (by omega) (by omega)]; omega
      have S := iter_up (step := s_EmptyTriangles_s5 (P.map em)) (P.length - 2) (fun k => (fan P k, ((k + 1 : Nat) : Int))) (fan P (P.length - 2)) (fun k hk => by
        have ff := fan_fit hB hpol k (by omega)
        have fo := fan_one hB hpol (k := k) (by omega)
        unfold s_EmptyTriangles_s5
        simp only
        rw [w1 (by omega), show decide (((k + 2 : Nat) : Int) < ((P.map em).length : Int)) = true from by simp; omega, cond_true, z0, ip (by omega), ip (by omega)]
        simp only [Option.bind_some]
        rw [fo.2.1 _ (by omega)]
        rfl) (by
        unfold s_EmptyTriangles_s5
        simp only
        rw [w1 (by omega), show decide (((P.length - 2 + 2 : Nat) : Int) < ((P.map em).length : Int)) = false from by simp; omega]
        rfl)
      have I := iter_up (step := i_EmptyTriangles_s5 (P.map em)) (P.length - 2) (fun k => (fan P k, ((k + 1 : Nat) : Int))) (fan P (P.length - 2)) (fun k hk => by
        have ff := fan_fit hB hpol k (by omega)
        have fo := fan_one hB hpol (k := k) (by omega)
        unfold i_EmptyTriangles_s5
        simp only
        rw [w1 (by omega), show decide (((k + 2 : Nat) : Int) < ((P.map em).length : Int)) = true from by simp; omega, cond_true, z0, ip (by omega), ip (by omega)]
        simp only [Option.bind_some]
        rw [fo.1]
        simp only [Option.bind_some]
        rw [appD_some (by rw [lim_eq]; omega) (by rw [lim_eq]; omega)]
        rfl) (by
        unfold i_EmptyTriangles_s5
        simp only
        rw [w1 (by omega), show decide (((P.length - 2 + 2 : Nat) : Int) < ((P.map em).length : Int)) = false from by simp; omega]
        rfl)
      have e1 : i_EmptyTriangles_1_s5 (P.map em) = i_EmptyTriangles_s5 (P.map em) := rfl
      have e0 : (([], 1) : List (List (List Int)) × Int) = (fan P 0, ((0 + 1 : Nat) : Int)) := rfl
      rw [e1, e0, S, I]
      have ff := fan_fit hB hpol (P.length - 2) (by omega)
      have hne : nneD (fan P (P.length - 2)) = some () := by
        have := ff.2.1 (by omega)
        cases hx : fan P (P.length - 2) with
        | nil => rw [hx] at this; simp at this
        | cons a b => rfl
      simp only [Option.bind_some, hne]
      exact ⟨_, rfl, rfl, rfl, by omega, ff.2.2⟩
theorem count_eq {p : List (List Int)} (hp : FitLL p) : ∃ n, s_CountEmpty p = some n ∧ i_CountEmpty p = some n := by
  obtain ⟨r, h1, h2, _⟩ := empty_eq hp
  rw [show i_CountEmpty p = (i_EmptyTriangles p).bind fun v1 => cond v1.isEmpty (some (-1)) (some (v1.length : Int)) from rfl]
  unfold s_CountEmpty
  rw [h1, h2]
  simp only [Option.bind_some]
  cases r with
  | nil => exact ⟨_, rfl, rfl⟩
  | cons a b =>
    have : ((((a :: b).length : Nat) : Int) == 0) = false := by simp; omega
    rw [this]
    exact ⟨_, rfl, rfl⟩
end Go.Proofs.Ytcpdhjklcongoaa
