/-
  Polygons filled with empty triangles: the splitting. Plain, no condition.
-/
import Derived.Test.YtcpdhjklcongoaaPlEt
namespace Go.Proofs.Ytcpdhjklcongoaa
open Go Go.Proofs.Ytcpdhjklcongoaa.Eng
open Hull (Pt tn lx at_ at_some at_mem)
set_option linter.unusedVariables false
set_option linter.unusedSimpArgs false
theorem copyPts_eq {x : List (List Int)} (hl : x.length ≤ 100000) (hx : ∀ v ∈ x, v.length ≤ 1000) : i_copyPoints x = some x := by
  have := iter_up (step := i_copyPoints_s3 x) x.length (fun k => (x.take k, (k : Int))) x (fun k hk => by
    have hg : x[k]? = some x[k] := List.getElem?_eq_getElem hk
    unfold i_copyPoints_s3
    simp only
    rw [show decide ((k : Int) < (x.length : Int)) = true from by simp; omega, cond_true, idx_some hg]
    simp only [Option.bind_some]
    rw [copyInts_eq (by have := hx _ (List.getElem_mem hk); rw [lim_eq]; omega)]
    simp only [Option.bind_some]
    rw [appD_some (by rw [lim_eq]; simp; omega) (by rw [lim_eq]; simp; omega), wrap_small (x := (k : Int) + 1) (by omega) (by omega), List.take_add_one, hg]
    rfl) (by
    unfold i_copyPoints_s3
    simp)
  unfold i_copyPoints
  have e : (([], 0) : List (List Int) × Int) = (x.take 0, ((0 : Nat) : Int)) := by simp
  rw [e, this]; rfl
theorem two_zero {A B C x : Pt} (h1 : tn x B C = 0) (h2 : tn x C A = 0) (h : tn A B C ≠ 0) : x = C := by
  have e1 : (x.1 - C.1) * tn A B C = (A.1 - C.1) * tn x B C + (B.1 - C.1) * tn x C A := by unfold tn; grind
  have e2 : (x.2 - C.2) * tn A B C = (A.2 - C.2) * tn x B C + (B.2 - C.2) * tn x C A := by unfold tn; grind
  rw [h1, h2, Int.mul_zero, Int.mul_zero, Int.add_zero] at e1 e2
  have a1 := (Int.mul_eq_zero.1 e1).resolve_right h
  have a2 := (Int.mul_eq_zero.1 e2).resolve_right h
  exact Prod.ext (by omega) (by omega)
theorem split_area {A B C x : Pt} (hn : tn A B C ≠ 0) (hin : inP (ori A B C) x) (nA : x ≠ A) (nB : x ≠ B) (nC : x ≠ C) :
    (tn x A B).natAbs + (tn x B C).natAbs + (tn x C A).natAbs = (tn A B C).natAbs ∧ (tn x A B).natAbs < (tn A B C).natAbs ∧ (tn x B C).natAbs < (tn A B C).natAbs ∧ (tn x C A).natAbs < (tn A B C).natAbs := by
  have hsum : tn x A B + tn x B C + tn x C A = tn A B C := by unfold tn; grind
  have z1 : ¬ (tn x B C = 0 ∧ tn x C A = 0) := fun h => nC (two_zero h.1 h.2 hn)
  have z2 : ¬ (tn x C A = 0 ∧ tn x A B = 0) := fun h => nA (two_zero (A := B) (B := C) (C := A) h.1 h.2 (by rw [Hull.tn_cyc]; exact hn))
  have z3 : ¬ (tn x A B = 0 ∧ tn x B C = 0) := fun h => nB (two_zero (A := C) (B := A) (C := B) h.1 h.2 (by rw [Hull.tn_cyc, Hull.tn_cyc]; exact hn))
  unfold ori at hin
  split at hin
  · rename_i hneg
    rw [inP3] at hin
    obtain ⟨i1, i2, i3⟩ := hin
    have j1 : tn A C x = - tn x C A := by unfold tn; grind
    have j2 : tn C B x = - tn x B C := by unfold tn; grind
    have j3 : tn B A x = - tn x A B := by unfold tn; grind
    omega
  · rename_i hpos
    rw [inP3] at hin
    obtain ⟨i1, i2, i3⟩ := hin
    have j1 : tn A B x = tn x A B := by unfold tn; grind
    have j2 : tn B C x = tn x B C := by unfold tn; grind
    have j3 : tn C A x = tn x C A := by unfold tn; grind
    omega
theorem tn_bd {A B C : Pt} (hA : Bd 50 A) (hB : Bd 50 B) (hC : Bd 50 C) : (tn A B C).natAbs ≤ 20000 := by
  unfold Bd at hA hB hC
  have h1 := abs_mul_le (a := B.1 - A.1) (b := C.2 - A.2) (m := 100) (n := 100) (by omega) (by omega) (by omega) (by omega)
  have h2 := abs_mul_le (a := B.2 - A.2) (b := C.1 - A.1) (m := 100) (n := 100) (by omega) (by omega) (by omega) (by omega)
  unfold tn
  omega
def tri : Nat → Pt → Pt → Pt → List (List (List Int))
  | 0, _, _, _ => []
  | n + 1, A, B, C => match fst3 A B C with
    | none => [[em A, em B, em C]]
    | some v => (if tn (toP v) A B = 0 then [] else tri n (toP v) A B) ++ (if tn (toP v) B C = 0 then [] else tri n (toP v) B C) ++ (if tn (toP v) C A = 0 then [] else tri n (toP v) C A)
theorem i0 {a b c : List Int} : idx [a, b, c] 0 = some a := rfl
theorem i1 {a b c : List Int} : idx [a, b, c] 1 = some b := rfl
theorem i2 {a b c : List Int} : idx [a, b, c] 2 = some c := rfl
theorem fill_val : (n : Nat) → {A B C : Pt} → (∀ q ∈ [A, B, C], Bd 50 q) → tn A B C ≠ 0 → (tn A B C).natAbs ≤ n →
    i_fillR n [em A, em B, em C] = some (tri n A B C) ∧ (∀ out : List (List (List Int)), out.length + (tn A B C).natAbs ≤ 1000000 → s_l20SplitR n [em A, em B, em C] out = some (out ++ tri n A B C)) ∧
    (tri n A B C).length ≤ (tn A B C).natAbs ∧ 1 ≤ (tri n A B C).length ∧ ∀ t ∈ tri n A B C, t.length = 3 ∧ ∀ v ∈ t, v.length = 2
  | 0, A, B, C, hB, hn, hl => by omega
  | n + 1, A, B, C, hB, hn, hl => by
    have bA := hB A (by simp)
    have bB := hB B (by simp)
    have bC := hB C (by simp)
    have hcp : i_copyPoints [em A, em B, em C] = some [em A, em B, em C] := copyPts_eq (by simp) (fun v hv => by
      simp only [List.mem_cons, List.not_mem_nil, or_false] at hv
      rcases hv with rfl | rfl | rfl <;> simp [em])
    have hcs : s_l7Copy [em A, em B, em C] = some [em A, em B, em C] := l7Copy_eq (by simp) (fun v hv => by
      simp only [List.mem_cons, List.not_mem_nil, or_false] at hv
      rcases hv with rfl | rfl | rfl <;> simp [em])
    simp only [i_fillR, s_l20SplitR]
    unfold i_fillB s_l20SplitB
    rw [firstPoint_val hB, l20Other_val hB hn]
    simp only [Option.bind_some]
    cases hf : fst3 A B C with
    | none =>
      have htri : tri (n + 1) A B C = [[em A, em B, em C]] := by simp only [tri, hf]
      rw [htri]
      simp only [Option.getD_none, Option.isSome_none, List.isEmpty_nil, cond_true, Bool.not_false, hcp, hcs, Option.bind_some]
      refine ⟨trivial, fun out ho => ?_, by simp; omega, by simp, fun t ht => ?_⟩
      · rw [appD_some (by rw [lim_eq]; simp; omega) (by rw [lim_eq]; simp; omega)]; rfl
      · simp only [List.mem_cons, List.not_mem_nil, or_false] at ht
        subst ht
        refine ⟨rfl, fun v hv => ?_⟩
        simp only [List.mem_cons, List.not_mem_nil, or_false] at hv
        rcases hv with rfl | rfl | rfl <;> rfl
    | some v =>
      obtain ⟨x, rfl, bx, hin, nA, nB, nC⟩ := fst3_mem hB hf
      obtain ⟨hs, l1, l2, l3⟩ := split_area hn hin nA nB nC
      have htri : tri (n + 1) A B C = (if tn x A B = 0 then [] else tri n x A B) ++ (if tn x B C = 0 then [] else tri n x B C) ++ (if tn x C A = 0 then [] else tri n x C A) := by simp only [tri, hf]; rfl
      rw [htri]
      clear htri
      simp only [Option.getD_some, Option.isSome_some, Bool.not_true, cond_false, show (em x).isEmpty = false from rfl]
      -- one part
      have part : ∀ {a b : Pt}, Bd 50 a → Bd 50 b → (tn x a b).natAbs < (tn A B C).natAbs → tn x a b ≠ 0 → i_fillR n [em x, em a, em b] = some (tri n x a b) ∧ (∀ out : List (List (List Int)), out.length + (tn x a b).natAbs ≤ 1000000 → s_l20SplitR n [em x, em a, em b] out = some (out ++ tri n x a b)) ∧ (tri n x a b).length ≤ (tn x a b).natAbs ∧ 1 ≤ (tri n x a b).length ∧ ∀ t ∈ tri n x a b, t.length = 3 ∧ ∀ v ∈ t, v.length = 2 := fun {a b} ha hb hlt hz =>
        fill_val n (fun q hq => by
          simp only [List.mem_cons, List.not_mem_nil, or_false] at hq
          rcases hq with rfl | rfl | rfl <;> assumption) hz (by omega)
      have tl : ∀ {a b : Pt}, Bd 50 a → Bd 50 b → (tn x a b).natAbs < (tn A B C).natAbs → (if tn x a b = 0 then [] else tri n x a b).length ≤ (tn x a b).natAbs ∧ (tn x a b ≠ 0 → 1 ≤ (if tn x a b = 0 then [] else tri n x a b).length) ∧ ∀ t ∈ (if tn x a b = 0 then [] else tri n x a b), t.length = 3 ∧ ∀ v ∈ t, v.length = 2 := fun {a b} ha hb hlt => by
        by_cases hz : tn x a b = 0
        · rw [if_pos hz]; exact ⟨by simp, fun h => absurd hz h, by simp⟩
        · rw [if_neg hz]
          have := part ha hb hlt hz
          exact ⟨this.2.2.1, fun _ => this.2.2.2.1, this.2.2.2.2⟩
      have stI : ∀ {a b : Pt} {k k1 k2 : Int} {acc : List (List (List Int))}, Bd 50 a → Bd 50 b → (tn x a b).natAbs < (tn A B C).natAbs → decide (k < (3 : Int)) = true → idx [em A, em B, em C] k = some (em a) → IntKind.i64.wrap (k + 1) = k1 → remI .i64 k1 3 = some k2 → idx [em A, em B, em C] k2 = some (em b) → acc.length ≤ 1000000 →
          i_fill_s6 (i_fillR n) [em A, em B, em C] (em x) (acc, k) = some (.inl (acc ++ (if tn x a b = 0 then [] else tri n x a b), k1)) := fun {a b k k1 k2 acc} ha hb hlt hk e1 e4 e2 e3 hacc => by
        have hbd := tn_bd bx ha hb
        unfold i_fill_s6
        simp only
        rw [show decide (k < (([em A, em B, em C] : List (List Int)).length : Int)) = true from hk, cond_true, e1, e4, e2]
        simp only [Option.bind_some]
        rw [e3]
        simp only [Option.bind_some]
        rw [turn_em (m := 50) (by decide) bx ha hb]
        simp only [Option.bind_some]
        by_cases hz : tn x a b = 0
        · rw [hz, if_pos rfl, List.append_nil]; rfl
        · have hp := part ha hb hlt hz
          rw [show (tn x a b != 0) = true from by simp [hz], cond_true, hp.1, if_neg hz]
          simp only [Option.bind_some]
          rw [appD_some (by rw [lim_eq]; omega) (by rw [lim_eq]; omega)]
          rfl
      have stS : ∀ {a b : Pt} {k k1 k2 : Int} {acc : List (List (List Int))}, Bd 50 a → Bd 50 b → (tn x a b).natAbs < (tn A B C).natAbs → decide (k < (3 : Int)) = true → idx [em A, em B, em C] k = some (em a) → IntKind.i64.wrap (k + 1) = k1 → remI .i64 k1 3 = some k2 → idx [em A, em B, em C] k2 = some (em b) → acc.length + (tn x a b).natAbs ≤ 1000000 →
          s_l20Split_s5 (s_l20SplitR n) [em A, em B, em C] (em x, true) (acc, k) = some (.inl (acc ++ (if tn x a b = 0 then [] else tri n x a b), k1)) := fun {a b k k1 k2 acc} ha hb hlt hk e1 e4 e2 e3 hacc => by
        have ea : s_l20Area [em x, em a, em b] = some (tn x a b) := by
          unfold s_l20Area
          rw [i0, i1, i2]
          simp only [Option.bind_some]
          rw [l7Turn_em (m := 50) (by decide) bx ha hb]
          rfl
        unfold s_l20Split_s5
        simp only
        rw [hk, cond_true, e1, e4, e2]
        simp only [Option.bind_some]
        rw [e3]
        simp only [Option.bind_some]
        rw [ea]
        simp only [Option.bind_some]
        by_cases hz : tn x a b = 0
        · rw [hz, if_pos rfl, List.append_nil]; rfl
        · have hp := part ha hb hlt hz
          rw [show (tn x a b != 0) = true from by simp [hz], cond_true, hp.2.1 acc hacc, if_neg hz]
          rfl
      have t1 := tl bA bB l1
      have t2 := tl bB bC l2
      have t3 := tl bC bA l3
      have b1 := tn_bd bx bA bB
      have b2 := tn_bd bx bB bC
      have b3 := tn_bd bx bC bA
      have s1 := fun (acc : List (List (List Int))) h => stI (k := 0) (k1 := 1) (k2 := 1) (acc := acc) bA bB l1 rfl rfl rfl rfl rfl h
      have s2 := fun (acc : List (List (List Int))) h => stI (k := 1) (k1 := 2) (k2 := 2) (acc := acc) bB bC l2 rfl rfl rfl rfl rfl h
      have s3 := fun (acc : List (List (List Int))) h => stI (k := 2) (k1 := 3) (k2 := 0) (acc := acc) bC bA l3 rfl rfl rfl rfl rfl h
      have r1 := fun (acc : List (List (List Int))) h => stS (k := 0) (k1 := 1) (k2 := 1) (acc := acc) bA bB l1 rfl rfl rfl rfl rfl h
      have r2 := fun (acc : List (List (List Int))) h => stS (k := 1) (k1 := 2) (k2 := 2) (acc := acc) bB bC l2 rfl rfl rfl rfl rfl h
      have r3 := fun (acc : List (List (List Int))) h => stS (k := 2) (k1 := 3) (k2 := 0) (acc := acc) bC bA l3 rfl rfl rfl rfl rfl h
      generalize (if tn x A B = 0 then [] else tri n x A B) = T1 at *
      generalize (if tn x B C = 0 then [] else tri n x B C) = T2 at *
      generalize (if tn x C A = 0 then [] else tri n x C A) = T3 at *
      refine ⟨?_, fun out ho => ?_, ?_, ?_, ?_⟩
      · rw [iter_next (s1 [] (by simp)), iter_next (s2 _ (by simp; omega)), iter_next (s3 _ (by simp; omega)), iter_end (show i_fill_s6 (i_fillR n) [em A, em B, em C] (em x) (([] ++ T1) ++ T2 ++ T3, 3) = some (.inr (([] ++ T1) ++ T2 ++ T3)) from rfl)]
        simp
      · rw [iter_next (r1 out (by omega)), iter_next (r2 _ (by simp; omega)), iter_next (r3 _ (by simp; omega)), iter_end (show s_l20Split_s5 (s_l20SplitR n) [em A, em B, em C] (em x, true) ((out ++ T1) ++ T2 ++ T3, 3) = some (.inr ((out ++ T1) ++ T2 ++ T3)) from rfl)]
        simp [List.append_assoc]
      · simp only [List.length_append]; omega
      · simp only [List.length_append]
        by_cases hz : tn x A B = 0
        · by_cases hz2 : tn x B C = 0
          · have := t3.2.1 (fun h => by omega)
            omega
          · have := t2.2.1 hz2
            omega
        · have := t1.2.1 hz
          omega
      · intro t ht
        rcases List.mem_append.1 ht with ht | ht
        · rcases List.mem_append.1 ht with ht | ht
          · exact t1.2.2 t ht
          · exact t2.2.2 t ht
        · exact t3.2.2 t ht
end Go.Proofs.Ytcpdhjklcongoaa
