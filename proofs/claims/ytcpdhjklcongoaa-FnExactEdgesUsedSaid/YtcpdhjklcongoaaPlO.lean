/-
  Empty triangles in the program; the law. Plain, no condition.
-/
import Derived.Test.YtcpdhjklcongoaaPlN
namespace Go.Proofs.Ytcpdhjklcongoaa
open Go Go.Proofs.Ytcpdhjklcongoaa.Eng
open Hull (Pt tn lx at_ at_some at_mem)
set_option linter.unusedVariables false
set_option linter.unusedSimpArgs false
theorem fp6 {a b c d : Int} {k : Int} {q : Pt} : iter (i_firstPoint_s6 ([a, b], ([c, d], k)) (em q)) ([a, b], ([c, d], 0)) = some ([mn a q.1, mn b q.2], [mx c q.1, mx d q.2]) := by
  have h1 : i_firstPoint_s6 ([a, b], ([c, d], k)) (em q) ([a, b], ([c, d], 0)) = some (.inl ([mn a q.1, b], ([mx c q.1, d], 1))) := rfl
  have h2 : i_firstPoint_s6 ([a, b], ([c, d], k)) (em q) ([mn a q.1, b], ([mx c q.1, d], 1)) = some (.inl ([mn a q.1, mn b q.2], ([mx c q.1, mx d q.2], 2))) := rfl
  have h3 : i_firstPoint_s6 ([a, b], ([c, d], k)) (em q) ([mn a q.1, mn b q.2], ([mx c q.1, mx d q.2], 2)) = some (.inr ([mn a q.1, mn b q.2], [mx c q.1, mx d q.2])) := rfl
  rw [iter_next h1, iter_next h2, iter_end h3]
theorem fp3 {P : List Pt} (hl : P.length ≤ 1000) : iter (i_firstPoint_s3 (P.map em)) ([(at_ P 0).1, (at_ P 0).2], ([(at_ P 0).1, (at_ P 0).2], 0)) = some ([lo (·.1) P, lo (·.2) P], [hi (·.1) P, hi (·.2) P]) := by
  have A := iter_up (step := i_firstPoint_s3 (P.map em)) P.length (fun k => ([(P.take k).foldl (fun m q => mn m q.1) (at_ P 0).1, (P.take k).foldl (fun m q => mn m q.2) (at_ P 0).2], ([(P.take k).foldl (fun m q => mx m q.1) (at_ P 0).1, (P.take k).foldl (fun m q => mx m q.2) (at_ P 0).2], (k : Int)))) ([lo (·.1) P, lo (·.2) P], [hi (·.1) P, hi (·.2) P]) (fun k hk => by
    unfold i_firstPoint_s3
    have hd : decide ((k : Int) < ((P.map em).length : Int)) = true := by simp; omega
    simp only [hd, cond_true, idxP hk, Option.bind_some, fp6]
    rw [wrap_small (by omega) (by omega), foldl_take_succ _ (at_some hk), foldl_take_succ _ (at_some hk), foldl_take_succ _ (at_some hk), foldl_take_succ _ (at_some hk)]
    rfl) (by
    unfold i_firstPoint_s3
    simp [lo, hi])
  exact A
/-- Where a point stands among the corners. -/
theorem idxf {T : List (List Int)} {v : List Int} (hl : T.length ≤ 1000) (hT : ∀ w ∈ T, w.length ≤ 1000) : (iter (i_firstPoint_s80_2 T v) 0 = some (.inl ()) ∧ v ∉ T) ∨ ∃ k : Nat, iter (i_firstPoint_s80_2 T v) 0 = some (.inr (k : Int)) ∧ v ∈ T := by
  have D := iter_find (step := i_firstPoint_s80_2 T v) T.length (fun k => (k : Int)) (fun k => if T[k]? = some v then some (.inr (k : Int)) else none) (.inl ()) (fun k hk => by
    have hg : T[k]? = some T[k] := List.getElem?_eq_getElem hk
    unfold i_firstPoint_s80_2
    rw [show decide ((k : Int) < (T.length : Int)) = true from by simp; omega, cond_true, idx_some hg]
    simp only [Option.bind_some]
    rw [slEqual_eq (by have := hT _ (List.getElem_mem hk); rw [lim_eq]; omega), wrap_small (by omega) (by omega), hg]
    simp only [Option.bind_some]
    by_cases h : T[k] = v
    · rw [h, if_pos rfl]; simp [fnd]
    · rw [if_neg (by simpa using h), show (T[k] == v) = false from beq_eq_false_iff_ne.2 h]; rfl) (by
    unfold i_firstPoint_s80_2
    simp)
  rcases D with ⟨d1, d2⟩ | ⟨k, r, d1, d2, d3⟩
  · refine .inl ⟨d1, fun hv => ?_⟩
    obtain ⟨k, hk, e⟩ := List.mem_iff_getElem.1 hv
    have := d2 k hk
    rw [if_pos (by rw [List.getElem?_eq_getElem hk, e])] at this
    cases this
  · split at d2
    · rename_i h
      cases d2
      exact .inr ⟨k, d3, List.mem_of_getElem? h⟩
    · cases d2
end Go.Proofs.Ytcpdhjklcongoaa
