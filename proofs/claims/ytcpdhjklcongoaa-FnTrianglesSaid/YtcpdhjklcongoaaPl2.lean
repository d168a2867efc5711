/-
  The laws' own helpers: sizes, copies, equality. No condition.
-/
import Derived.Test.YtcpdhjklcongoaaPl1
import Derived.Test.YtcpdhjklcongoaaGen
namespace Go.Proofs.Ytcpdhjklcongoaa
open Go Eng
set_option linter.unusedVariables false
set_option linter.unusedSimpArgs false
theorem cond_ite {α : Type} (b : Bool) (x y : α) : cond b x y = if b then x else y := by cases b <;> rfl
/-- A list that is copied element by element. -/
theorem set_take {α : Type} {xs : List α} {z : α} {k : Nat} {x : α} (h : xs[k]? = some x) : (xs.take k ++ List.replicate (xs.length - k) z).set k x = xs.take (k + 1) ++ List.replicate (xs.length - (k + 1)) z := by
  have hlt := len_lt h
  have hx : xs[k] = x := by rw [List.getElem?_eq_getElem hlt] at h; exact Option.some.inj h
  apply List.ext_getElem?
  intro i
  rw [List.getElem?_set]
  have hl1 : (xs.take k).length = k := by simp; omega
  have hl2 : (xs.take (k + 1)).length = k + 1 := by simp; omega
  by_cases hik : k = i
  · subst hik
    rw [if_pos rfl, if_pos (by simp; omega), List.getElem?_append_left (by omega), List.getElem?_take, if_pos (by omega), h]
  · rw [if_neg hik]
    by_cases hi : i < k
    · rw [List.getElem?_append_left (by omega), List.getElem?_append_left (by omega), List.getElem?_take, List.getElem?_take, if_pos hi, if_pos (by omega)]
    · rw [List.getElem?_append_right (by omega), List.getElem?_append_right (by omega), hl1, hl2, List.getElem?_replicate, List.getElem?_replicate]
      by_cases h2 : i < xs.length
      · rw [if_pos (by omega), if_pos (by omega)]
      · rw [if_neg (by omega), if_neg (by omega)]
theorem toIntS_eq {xs : List Int} (hl : xs.length * 8 ≤ lim) : w_toIntS xs = some xs := by
  have hl2 : xs.length ≤ lim := by omega
  unfold w_toIntS
  rw [mkD_some hl hl2, Option.bind_some]
  have key := iter_list (step := w_toIntS_s3 xs) (fun (_ : Unit) k => (xs.take k.toNat ++ List.replicate (xs.length - k.toNat) 0, k)) xs (fun _ _ => .inl ()) (fun _ => xs) (fun _ _ => True) (fun k a x hk _ => ⟨?_, fun _ _ => trivial⟩) (fun a _ => ?_) xs.length 0 () (by omega) trivial
  · simp only [List.drop_zero, runL_fold (fun (_ : Unit) (_ : Int) => ())] at key
    simp at key
    rw [key]; rfl
  · have hlt := len_lt hk
    have hd : decide ((k : Int) < (xs.length : Int)) = true := by simp; omega
    have hlen : (xs.take k ++ List.replicate (xs.length - k) (0 : Int)).length = xs.length := by simp; omega
    simp only [w_toIntS_s3, Int.toNat_natCast, hd, cond_true, idx_some hk, Option.bind_some, hlen, inIdx_nat hlt, set_take hk, wrap_succ (Nat.le_trans (Nat.le_of_lt hlt) hl2)]
    rfl
  · simp [w_toIntS_s3]
theorem toIntSS_eq {xs : List (List Int)} (hl : xs.length * 24 ≤ lim) (hx : ∀ x ∈ xs, x.length * 8 ≤ lim) : w_toIntSS xs = some xs := by
  have hl2 : xs.length ≤ lim := by omega
  unfold w_toIntSS
  rw [mkD_some hl hl2, Option.bind_some]
  have key := iter_list (step := w_toIntSS_s3 xs) (fun (_ : Unit) k => (xs.take k.toNat ++ List.replicate (xs.length - k.toNat) [], k)) xs (fun _ _ => .inl ()) (fun _ => xs) (fun _ _ => True) (fun k a x hk _ => ⟨?_, fun _ _ => trivial⟩) (fun a _ => ?_) xs.length 0 () (by omega) trivial
  · simp only [List.drop_zero, runL_fold (fun (_ : Unit) (_ : List Int) => ())] at key
    simp at key
    rw [key]; rfl
  · have hlt := len_lt hk
    have hd : decide ((k : Int) < (xs.length : Int)) = true := by simp; omega
    have hlen : (xs.take k ++ List.replicate (xs.length - k) ([] : List Int)).length = xs.length := by simp; omega
    simp only [w_toIntSS_s3, Int.toNat_natCast, hd, cond_true, idx_some hk, Option.bind_some, toIntS_eq (hx x (List.mem_of_getElem? hk)), hlen, inIdx_nat hlt, set_take hk, wrap_succ (Nat.le_trans (Nat.le_of_lt hlt) hl2)]
    rfl
  · simp [w_toIntSS_s3]
end Go.Proofs.Ytcpdhjklcongoaa
