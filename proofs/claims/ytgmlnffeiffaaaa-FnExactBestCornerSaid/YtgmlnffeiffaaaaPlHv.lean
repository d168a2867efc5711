/-
  Halves of a polygon's sides. Plain, no condition.
-/
import Derived.Test.YtgmlnffeiffaaaaPlMs
import Derived.Test.YtgmlnffeiffaaaaPlO
import Derived.Test.YtgmlnffeiffaaaaPlI
import Derived.Test.YtgmlnffeiffaaaaPlY
namespace Go.Proofs.Ytgmlnffeiffaaaa
open Go Go.Proofs.Ytgmlnffeiffaaaa.Eng Hull
set_option linter.unusedVariables false
set_option linter.unusedSimpArgs false
/-! Marks of halves. -/
def cH (h : Hf) : Nat := h.1.length + 1
def fH (m : Int) (h : Hf) : Hf := (ms m h.1.length, m + h.1.length)
def msH (n : Int) (xs : List Hf) : List Hf := mkL fH cH n xs
theorem d_markHalfS_ms {xs : List Hf} (hl : xs.length ≤ 2097152) (ht : totC cH xs ≤ 2097152) {n : Int} (h0 : 0 ≤ n) (h1 : n ≤ 549755813888) :
    d_markHalfS xs n = some (msH n xs, n + totC cH xs) := by
  have := markL_eq (step := d_markHalfS_s) fH cH xs n (fun k m ys x hx hy hyl hm hle => by
    have hk := (List.getElem?_eq_some_iff.1 hx).1
    have hxl := sum_mem (List.mem_map.2 ⟨x, List.mem_of_getElem? hx, rfl⟩ : cH x ∈ xs.map cH)
    have hxl2 : cH x ≤ totC cH xs := hxl
    unfold cH at hxl2 hle
    have hle' : m + ((x.1.length : Int) + 1) ≤ n + totC cH xs := hle
    unfold d_markHalfS_s
    simp only
    rw [show decide ((k : Int) < (ys.length : Int)) = true from by simp; omega, cond_true, inIdx_nat (by omega)]
    simp only [Option.bind_some, Int.toNat_natCast]
    rw [if_pos ⟨by omega, by decide⟩, hy]
    simp only [Option.bind_some]
    have hu : updAt i_d_markIntS (.prod (.list (.int .i64)) (.int .i64)) x 0 m = some ((ms m x.1.length, x.2), m + (x.1.length : Int)) := by
      have := updAt_list i_d_markIntS x.1 m (d_markIntS_ms (xs := x.1) (by omega) (by omega) (by omega))
      have e : updAt i_d_markIntS (.prod (.list (.int .i64)) (.int .i64)) x 0 m = (updAt i_d_markIntS (.list (.int .i64)) x.1 0 m).map fun p => ((p.1, x.2), p.2) := if_pos (show 0 < Ty.wid (.list (.int .i64)) by decide)
      exact e.trans (by rw [show updAt i_d_markIntS (.list (.int .i64)) x.1 0 m = some (ms m x.1.length, m + (x.1.length : Int)) from this]; rfl)
    rw [hu]
    simp only [Option.bind_some]
    rw [inIdx_nat (by rw [List.length_set]; omega)]
    simp only [Option.bind_some]
    rw [List.getElem?_set_self (by omega)]
    simp only [Option.bind_some]
    have hs : setInt (.prod (.list (.int .i64)) (.int .i64)) (ms m x.1.length, x.2) 1 (m + (x.1.length : Int)) = some (ms m x.1.length, m + (x.1.length : Int)) := rfl
    rw [hs]
    simp only [Option.bind_some]
    rw [wrap_id (x := (k : Int) + 1) (by omega) (by omega), wrap_id (x := m + (x.1.length : Int) + 1) (by omega) (by omega), List.set_set]
    have e1 : m + (x.1.length : Int) + 1 = m + (cH x : Nat) := by unfold cH; omega
    rw [e1]
    rfl) (fun m ys hyl => by
    unfold d_markHalfS_s
    simp only
    rw [show decide ((xs.length : Int) < (ys.length : Int)) = false from by simp; omega, cond_false])
  unfold d_markHalfS
  rw [this]
  rfl
end Go.Proofs.Ytgmlnffeiffaaaa
