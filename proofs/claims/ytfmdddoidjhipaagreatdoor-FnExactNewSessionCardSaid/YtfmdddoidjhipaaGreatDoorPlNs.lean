/-
  Plain: new sessions. No condition.
-/
import Derived.Test.YtfmdddoidjhipaaGreatDoorPlDe
import Derived.Test.YtfmdddoidjhipaaGreatDoorPlMs
namespace Go.Proofs.YtfmdddoidjhipaaGreatDoor
open Go Go.Proofs.YtfmdddoidjhipaaGreatDoor.Eng
set_option linter.unusedVariables false
set_option linter.unusedSimpArgs false
theorem isPoly_lens {p : List (List Int)} (h : isPoly p = true) : ∀ v ∈ p, v.length = 2 := by
  obtain ⟨P, rfl, _, _, _, _⟩ := poly_of h
  intro v hv
  obtain ⟨q, _, rfl⟩ := List.mem_map.1 hv
  rfl
theorem lens_two : (p : List (List Int)) → (∀ v ∈ p, v.length = 2) → (p.map List.length).sum = 2 * p.length
  | [], _ => rfl
  | v :: p, h => by
    have := lens_two p fun v hv => h v (List.mem_cons_of_mem _ hv)
    simp only [List.map_cons, List.sum_cons, List.length_cons, this, h v (by simp)]
    omega
theorem newSession_eq : ∃ p : List (List Int), p.length ≤ 12 ∧ (∀ v ∈ p, v.length = 2) ∧ s_NewSession = some (p, p) ∧ i_NewSession = some (p, p) := by
  obtain ⟨l, _, h2, _, h4, h5⟩ := exPoly_eq 1
  obtain ⟨k1, k2, k3⟩ := polyR_fit l
  have hp : (polyR l).1.length ≤ 12 ∧ ∀ v ∈ (polyR l).1, v.length = 2 := by
    cases h : (polyR l).2 with
    | true => exact ⟨isPoly_le (k2 h), isPoly_lens (k2 h)⟩
    | false => rw [k3 h]; exact ⟨by simp, fun v hv => by cases hv⟩
  refine ⟨(polyR l).1, hp.1, hp.2, ?_, ?_⟩
  · unfold s_NewSession
    rw [h2]
    simp only [Option.bind_some, h4]
    rw [l7Copy_eq (by omega) fun v hv => by rw [hp.2 v hv]; omega]
    rfl
  · unfold i_NewSession
    rw [h5]
    simp only [Option.bind_some]
    rw [copyPoints_eq (by omega) fun v hv => by rw [hp.2 v hv]; omega]
    rfl
theorem law_NewSession : w_FnExactNewSession = some true := by
  obtain ⟨p, h1, h2, e1, e2⟩ := newSession_eq
  have hl : p.length ≤ lim := by rw [lim_eq]; omega
  have he : ∀ v ∈ p, v.length ≤ lim := fun v hv => by rw [h2 v hv, lim_eq]; omega
  have hs := lens_two p h2
  have m1 := d_markIntSS_ms (xs := p) (by omega) (by omega) (n := 1) (by omega) (by omega)
  have m2 := d_markIntSS_ms (xs := p) (by omega) (by omega) (n := 1 + (((p.map List.length).sum : Nat) : Int)) (by omega) (by omega)
  have q1 := w_heldIntSS_ms (xs := p) (by omega) (by omega) (n := 1) (by omega) (by omega)
  have q2 := w_heldIntSS_ms (xs := p) (by omega) (by omega) (n := 1 + (((p.map List.length).sum : Nat) : Int)) (by omega) (by omega)
  have hq : w_eqSession (p, p) (p, p) = some true := by
    unfold w_eqSession
    simp only [eqIntSS_eq hl he, Option.bind_some, beq_self_eq_true, Bool.not_true, cond_false]
  unfold w_FnExactNewSession
  rw [e1, e2]
  simp only [Option.bind_some, hq, Bool.not_true, cond_false]
  rw [m1]
  simp only [Option.bind_some]
  rw [m2]
  simp only [Option.bind_some]
  have hh : ∀ a b, w_heldIntSS a 1 = some (1 + (((p.map List.length).sum : Nat) : Int)) → w_heldIntSS b (1 + (((p.map List.length).sum : Nat) : Int)) = some (1 + (((p.map List.length).sum : Nat) : Int) + (((p.map List.length).sum : Nat) : Int)) → w_heldSession (a, b) 1 = some (1 + (((p.map List.length).sum : Nat) : Int) + (((p.map List.length).sum : Nat) : Int)) := fun a b ha hb => by
    unfold w_heldSession
    simp only [ha, hb, Option.bind_some]
    rw [show decide (1 + (((p.map List.length).sum : Nat) : Int) < 0) = false from by simp; omega, cond_false, show decide (1 + (((p.map List.length).sum : Nat) : Int) + (((p.map List.length).sum : Nat) : Int) < 0) = false from by simp; omega, cond_false]
  rw [hh _ _ q1 q2]
  simp only [Option.bind_some]
  rw [show decide (1 + (((p.map List.length).sum : Nat) : Int) + (((p.map List.length).sum : Nat) : Int) < 0) = false from by simp; omega]
  simp
end Go.Proofs.YtfmdddoidjhipaaGreatDoor
