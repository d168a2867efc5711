/-
  The laws' own helpers: sizes, copies, equality. No condition.
-/
import Derived.Test.YtcpdhjklcongoaaPl1
import Derived.Test.YtcpdhjklcongoaaGen
namespace Go.Proofs.Ytcpdhjklcongoaa
open Go Eng
set_option linter.unusedVariables false
set_option linter.unusedSimpArgs false
theorem cond_ite {α : Type} (b : Bool) (x y : α) : cond b x y = if b then x else y := by cases b <;> rfl
/-- How many numbers a list of lists holds, itself counted. -/
def totL (xs : List (List Int)) : Nat := xs.length + (xs.map List.length).sum
theorem szIntS_eq {xs : List Int} {left : Int} (hl : xs.length ≤ lim) (h0 : 0 ≤ left) (h1 : left ≤ 1048576) : w_szIntS xs left = some (if left < xs.length then -1 else left - xs.length) := by
  rw [lim_eq] at hl
  unfold w_szIntS
  have hw : IntKind.i64.wrap (left - (xs.length : Int)) = left - xs.length := wrap_id (by omega) (by omega)
  rw [hw, cond_ite]
  by_cases h : left < xs.length
  · rw [if_pos (by simp; omega), if_pos h]
  · rw [if_neg (by simp; omega), if_neg h]
/-- What sizes are left over. -/
def szB (left : Int) (x : List Int) : Int ⊕ (Int ⊕ Int) := if left < x.length then .inr (.inr (-1)) else .inl (left - x.length)
theorem szIntSS_loop {xs : List (List Int)} (hl : xs.length ≤ lim) (hx : ∀ x ∈ xs, x.length ≤ lim) {left : Int} (h0 : 0 ≤ left) (h1 : left ≤ 1048576) :
    iter (w_szIntSS_s5 xs) (left, 0) = some (runL szB (fun a => .inl a) left xs) := by
  refine iter_list0 (fun a k => (a, k)) xs szB (fun a => .inl a) (fun _ a => 0 ≤ a ∧ a ≤ 1048576) (fun k a x hk ha => ?_) (fun a ha => ?_) left ⟨h0, h1⟩
  · have hlt := len_lt hk
    have hm : x ∈ xs := List.mem_of_getElem? hk
    have hd : decide ((k : Int) < (xs.length : Int)) = true := by simp; omega
    simp only [w_szIntSS_s5, hd, cond_true, idx_some hk, Option.bind_some, szIntS_eq (hx x hm) ha.1 ha.2]
    by_cases h : a < x.length
    · simp [szB, h, cond_ite]
    · refine ⟨?_, fun a' ha' => ?_⟩
      · have : ¬ a - (x.length : Int) < 0 := by omega
        simp [szB, h, cond_ite, this, wrap_succ (Nat.le_trans (Nat.le_of_lt hlt) hl)]
      · simp [szB, h] at ha'; omega
  · simp [w_szIntSS_s5]
theorem szIntSS_run : ∀ (xs : List (List Int)) (left : Int), 0 ≤ left → (runL szB (fun a => (.inl a : Int ⊕ Int)) left xs) = if left < ((xs.map List.length).sum : Nat) then .inr (-1) else .inl (left - ((xs.map List.length).sum : Nat))
  | [], left, h => by simp [runL]; omega
  | x :: xs, left, h => by
    simp only [runL, szB, List.map_cons, List.sum_cons]
    by_cases hx : left < x.length
    · rw [if_pos hx, if_pos (by omega)]
    · rw [if_neg hx]
      simp only
      rw [szIntSS_run xs (left - x.length) (by omega)]
      by_cases h2 : left - (x.length : Int) < ((xs.map List.length).sum : Nat)
      · rw [if_pos h2, if_pos (by omega)]
      · rw [if_neg h2, if_neg (by omega)]; congr 1; omega
theorem szIntSS_eq {xs : List (List Int)} (hl : xs.length ≤ lim) (hx : ∀ x ∈ xs, x.length ≤ lim) {left : Int} (h0 : 0 ≤ left) (h1 : left ≤ 1048576) :
    w_szIntSS xs left = some (if left < totL xs then -1 else left - totL xs) := by
  have hl' := hl
  rw [lim_eq] at hl'
  unfold w_szIntSS
  have hw : IntKind.i64.wrap (left - (xs.length : Int)) = left - xs.length := wrap_id (by omega) (by omega)
  rw [hw, cond_ite]
  by_cases h : left < xs.length
  · rw [if_pos (by simp; omega), if_pos (by unfold totL; omega)]
  · rw [if_neg (by simp; omega), szIntSS_loop hl hx (by omega) (by omega), szIntSS_run xs _ (by omega)]
    by_cases h2 : left - (xs.length : Int) < ((xs.map List.length).sum : Nat)
    · rw [if_pos h2, if_pos (by unfold totL; omega)]; rfl
    · rw [if_neg h2, if_neg (by unfold totL; omega)]
      simp only [Option.bind_some]
      congr 1; unfold totL; omega
/-- A list that is copied element by element. -/
theorem set_take {α : Type} {xs : List α} {z : α} {k : Nat} {x : α} (h : xs[k]? = some x) : (xs.take k ++ List.replicate (xs.length - k) z).set k x = xs.take (k + 1) ++ List.replicate (xs.length - (k + 1)) z := by
  have hlt := len_lt h
  have hx : xs[k] = x := by rw [List.getElem?_eq_getElem hlt] at h; exact Option.some.inj h
  apply List.ext_getElem?
  intro i
  rw [List.getElem?_set]
  have hl1 : (xs.take k).length = k := by simp; omega
  have hl2 : (xs.take (k + 1)).length = k + 1 := by simp; omega
  by_cases hik : k = i
  · subst hik
    rw [if_pos rfl, if_pos (by simp; omega), List.getElem?_append_left (by omega), List.getElem?_take, if_pos (by omega), h]
  · rw [if_neg hik]
    by_cases hi : i < k
    · rw [List.getElem?_append_left (by omega), List.getElem?_append_left (by omega), List.getElem?_take, List.getElem?_take, if_pos hi, if_pos (by omega)]
    · rw [List.getElem?_append_right (by omega), List.getElem?_append_right (by omega), hl1, hl2, List.getElem?_replicate, List.getElem?_replicate]
      by_cases h2 : i < xs.length
      · rw [if_pos (by omega), if_pos (by omega)]
      · rw [if_neg (by omega), if_neg (by omega)]
theorem toIntS_eq {xs : List Int} (hl : xs.length * 8 ≤ lim) : w_toIntS xs = some xs := by
  have hl2 : xs.length ≤ lim := by omega
  unfold w_toIntS
  rw [mkD_some hl hl2, Option.bind_some]
  have key := iter_list (step := w_toIntS_s3 xs) (fun (_ : Unit) k => (xs.take k.toNat ++ List.replicate (xs.length - k.toNat) 0, k)) xs (fun _ _ => .inl ()) (fun _ => xs) (fun _ _ => True) (fun k a x hk _ => ⟨?_, fun _ _ => trivial⟩) (fun a _ => ?_) xs.length 0 () (by omega) trivial
  · simp only [List.drop_zero, runL_fold (fun (_ : Unit) (_ : Int) => ())] at key
    simp at key
    rw [key]; rfl
  · have hlt := len_lt hk
    have hd : decide ((k : Int) < (xs.length : Int)) = true := by simp; omega
    have hlen : (xs.take k ++ List.replicate (xs.length - k) (0 : Int)).length = xs.length := by simp; omega
    simp only [w_toIntS_s3, Int.toNat_natCast, hd, cond_true, idx_some hk, Option.bind_some, hlen, inIdx_nat hlt, set_take hk, wrap_succ (Nat.le_trans (Nat.le_of_lt hlt) hl2)]
    rfl
  · simp [w_toIntS_s3]
theorem toIntSS_eq {xs : List (List Int)} (hl : xs.length * 24 ≤ lim) (hx : ∀ x ∈ xs, x.length * 8 ≤ lim) : w_toIntSS xs = some xs := by
  have hl2 : xs.length ≤ lim := by omega
  unfold w_toIntSS
  rw [mkD_some hl hl2, Option.bind_some]
  have key := iter_list (step := w_toIntSS_s3 xs) (fun (_ : Unit) k => (xs.take k.toNat ++ List.replicate (xs.length - k.toNat) [], k)) xs (fun _ _ => .inl ()) (fun _ => xs) (fun _ _ => True) (fun k a x hk _ => ⟨?_, fun _ _ => trivial⟩) (fun a _ => ?_) xs.length 0 () (by omega) trivial
  · simp only [List.drop_zero, runL_fold (fun (_ : Unit) (_ : List Int) => ())] at key
    simp at key
    rw [key]; rfl
  · have hlt := len_lt hk
    have hd : decide ((k : Int) < (xs.length : Int)) = true := by simp; omega
    have hlen : (xs.take k ++ List.replicate (xs.length - k) ([] : List Int)).length = xs.length := by simp; omega
    simp only [w_toIntSS_s3, Int.toNat_natCast, hd, cond_true, idx_some hk, Option.bind_some, toIntS_eq (hx x (List.mem_of_getElem? hk)), hlen, inIdx_nat hlt, set_take hk, wrap_succ (Nat.le_trans (Nat.le_of_lt hlt) hl2)]
    rfl
  · simp [w_toIntSS_s3]
theorem eqIntS_eq {xs ys : List Int} (hl : xs.length ≤ lim) : w_eqIntS xs ys = some (xs == ys) := by
  unfold w_eqIntS
  rw [cond_ite]
  by_cases h : xs.length = ys.length
  · rw [if_neg (by simp [h]), iter_eqs xs ys (fun a b => a == b) h (fun k x y hx hy => ?_) (by simp [w_eqIntS_s4])]
    · rw [eqL_beq]
      cases xs == ys <;> rfl
    · have hlt := len_lt hx
      have hd : decide ((k : Int) < (xs.length : Int)) = true := by simp; omega
      simp only [w_eqIntS_s4, hd, cond_true, idx_some hx, idx_some hy, Option.bind_some, wrap_succ (Nat.le_trans (Nat.le_of_lt hlt) hl)]
      by_cases hxy : x = y
      · simp [hxy]
      · have hb : (x == y) = false := by simp [hxy]
        simp [bne, hb]
  · rw [if_pos (by simp; omega)]
    congr 1
    exact (beq_eq_false_iff_ne.2 fun e => h (by rw [e])).symm
theorem eqIntSS_eq {xs ys : List (List Int)} (hl : xs.length ≤ lim) (hx : ∀ x ∈ xs, x.length ≤ lim) : w_eqIntSS xs ys = some (xs == ys) := by
  unfold w_eqIntSS
  rw [cond_ite]
  by_cases h : xs.length = ys.length
  · rw [if_neg (by simp [h]), iter_eqs xs ys (fun a b => a == b) h (fun k x y hkx hky => ?_) (by simp [w_eqIntSS_s4])]
    · rw [eqL_beq]
      cases xs == ys <;> rfl
    · have hlt := len_lt hkx
      have hd : decide ((k : Int) < (xs.length : Int)) = true := by simp; omega
      simp only [w_eqIntSS_s4, hd, cond_true, idx_some hkx, idx_some hky, Option.bind_some, eqIntS_eq (hx x (List.mem_of_getElem? hkx)), wrap_succ (Nat.le_trans (Nat.le_of_lt hlt) hl)]
      cases x == y <;> rfl
  · rw [if_pos (by simp; omega)]
    congr 1
    exact (beq_eq_false_iff_ne.2 fun e => h (by rw [e])).symm
end Go.Proofs.Ytcpdhjklcongoaa
