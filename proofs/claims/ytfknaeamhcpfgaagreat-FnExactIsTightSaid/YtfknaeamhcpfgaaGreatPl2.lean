/-
  The laws' own helpers: sizes, copies, equality. No condition.
-/
import Derived.Test.YtfknaeamhcpfgaaGreatPl1
import Derived.Test.YtfknaeamhcpfgaaGreatGen
namespace Go.Proofs.YtfknaeamhcpfgaaGreat
open Go Eng
set_option linter.unusedVariables false
set_option linter.unusedSimpArgs false
theorem cond_ite {α : Type} (b : Bool) (x y : α) : cond b x y = if b then x else y := by cases b <;> rfl
theorem szIntS_eq {xs : List Int} {left : Int} (hl : xs.length ≤ lim) (h0 : 0 ≤ left) (h1 : left ≤ 1048576) : w_szIntS xs left = some (if left < xs.length then -1 else left - xs.length) := by
  rw [lim_eq] at hl
  unfold w_szIntS
  have hw : IntKind.i64.wrap (left - (xs.length : Int)) = left - xs.length := wrap_id (by omega) (by omega)
  rw [hw, cond_ite]
  by_cases h : left < xs.length
  · rw [if_pos (by simp; omega), if_pos h]
  · rw [if_neg (by simp; omega), if_neg h]
/-- A list that is copied element by element. -/
theorem set_take {α : Type} {xs : List α} {z : α} {k : Nat} {x : α} (h : xs[k]? = some x) : (xs.take k ++ List.replicate (xs.length - k) z).set k x = xs.take (k + 1) ++ List.replicate (xs.length - (k + 1)) z := by
  have hlt := len_lt h
  have hx : xs[k] = x := by rw [List.getElem?_eq_getElem hlt] at h; exact Option.some.inj h
  apply List.ext_getElem?
  intro i
  rw [List.getElem?_set]
  have hl1 : (xs.take k).length = k := by simp; omega
  have hl2 : (xs.take (k + 1)).length = k + 1 := by simp; omega
  by_cases hik : k = i
  · subst hik
    rw [if_pos rfl, if_pos (by simp; omega), List.getElem?_append_left (by omega), List.getElem?_take, if_pos (by omega), h]
  · rw [if_neg hik]
    by_cases hi : i < k
    · rw [List.getElem?_append_left (by omega), List.getElem?_append_left (by omega), List.getElem?_take, List.getElem?_take, if_pos hi, if_pos (by omega)]
    · rw [List.getElem?_append_right (by omega), List.getElem?_append_right (by omega), hl1, hl2, List.getElem?_replicate, List.getElem?_replicate]
      by_cases h2 : i < xs.length
      · rw [if_pos (by omega), if_pos (by omega)]
      · rw [if_neg (by omega), if_neg (by omega)]
theorem toIntS_eq {xs : List Int} (hl : xs.length * 8 ≤ lim) : w_toIntS xs = some xs := by
  have hl2 : xs.length ≤ lim := by omega
  unfold w_toIntS
  rw [mkD_some hl hl2, Option.bind_some]
  have key := iter_list (step := w_toIntS_s3 xs) (fun (_ : Unit) k => (xs.take k.toNat ++ List.replicate (xs.length - k.toNat) 0, k)) xs (fun _ _ => .inl ()) (fun _ => xs) (fun _ _ => True) (fun k a x hk _ => ⟨?_, fun _ _ => trivial⟩) (fun a _ => ?_) xs.length 0 () (by omega) trivial
  · simp only [List.drop_zero, runL_fold (fun (_ : Unit) (_ : Int) => ())] at key
    simp at key
    rw [key]; rfl
  · have hlt := len_lt hk
    have hd : decide ((k : Int) < (xs.length : Int)) = true := by simp; omega
    have hlen : (xs.take k ++ List.replicate (xs.length - k) (0 : Int)).length = xs.length := by simp; omega
    simp only [w_toIntS_s3, Int.toNat_natCast, hd, cond_true, idx_some hk, Option.bind_some, hlen, inIdx_nat hlt, set_take hk, wrap_succ (Nat.le_trans (Nat.le_of_lt hlt) hl2)]
    rfl
  · simp [w_toIntS_s3]
theorem eqIntS_eq {xs ys : List Int} (hl : xs.length ≤ lim) : w_eqIntS xs ys = some (xs == ys) := by
  unfold w_eqIntS
  rw [cond_ite]
  by_cases h : xs.length = ys.length
  · rw [if_neg (by simp [h]), iter_eqs xs ys (fun a b => a == b) h (fun k x y hx hy => ?_) (by simp [w_eqIntS_s4])]
    · rw [eqL_beq]
      cases xs == ys <;> rfl
    · have hlt := len_lt hx
      have hd : decide ((k : Int) < (xs.length : Int)) = true := by simp; omega
      simp only [w_eqIntS_s4, hd, cond_true, idx_some hx, idx_some hy, Option.bind_some, wrap_succ (Nat.le_trans (Nat.le_of_lt hlt) hl)]
      by_cases hxy : x = y
      · simp [hxy]
      · have hb : (x == y) = false := by simp [hxy]
        simp [bne, hb]
  · rw [if_pos (by simp; omega)]
    congr 1
    exact (beq_eq_false_iff_ne.2 fun e => h (by rw [e])).symm
end Go.Proofs.YtfknaeamhcpfgaaGreat
