/-
  Plain: numerals, joined texts. No condition.
-/
import Derived.Test.YtmdagdopfgiaiaaPlSb
import Derived.Lib.Join
namespace Go.Proofs.Ytmdagdopfgiaiaa
open Go Go.Proofs.Ytmdagdopfgiaiaa.Eng
set_option linter.unusedVariables false
set_option linter.unusedSimpArgs false
/-- What the reference has put together after so many parts. -/
def joinT (sep : List UInt8) : List (List UInt8) → List UInt8
  | [] => []
  | x :: r => x ++ (r.map (sep ++ ·)).flatten
theorem joinT_eq (sep : List UInt8) (xs : List (List UInt8)) : joinT sep xs = Lib.join xs sep := by
  cases xs with
  | nil => rfl
  | cons x r => rw [Lib.join_cons]; rfl
theorem joinT_snoc (sep : List UInt8) (xs : List (List UInt8)) (y : List UInt8) : joinT sep (xs ++ [y]) = if xs = [] then y else joinT sep xs ++ (sep ++ y) := by
  cases xs with
  | nil => simp [joinT]
  | cons x r => simp [joinT]
theorem join_bd {sep : List UInt8} {m : Nat} : ∀ {xs : List (List UInt8)}, (∀ x ∈ xs, x.length ≤ m) → (joinT sep xs).length ≤ xs.length * (sep.length + m) := by
  intro xs hx
  cases xs with
  | nil => simp [joinT]
  | cons x r =>
    have h1 := hx x (by simp)
    have key : ∀ r : List (List UInt8), (∀ y ∈ r, y.length ≤ m) → ((r.map (sep ++ ·)).flatten).length ≤ r.length * (sep.length + m) := by
      intro r
      induction r with
      | nil => intro _; simp
      | cons y r ih =>
        intro hr
        have h2 := hr y (by simp)
        have h3 := ih fun z hz => hr z (List.mem_cons_of_mem _ hz)
        simp only [List.map_cons, List.flatten_cons, List.length_append, List.length_cons, Nat.add_mul, Nat.one_mul]
        omega
    have h2 := key r fun y hy => hx y (List.mem_cons_of_mem _ hy)
    simp only [joinT, List.length_append, List.length_cons, Nat.add_mul, Nat.one_mul]
    omega
theorem s_Join_eq {xs : List (List UInt8)} {sep : List UInt8} (hl : xs.length ≤ 1000000) {m : Nat} (hm : ∀ x ∈ xs, x.length ≤ m) (hs : xs.length * (sep.length + m) ≤ 100000000) : s_Join (xs.map bs) (bs sep) = some (bs (Lib.join xs sep)) := by
  unfold s_Join
  have key := iter_up (step := s_Join_s3 (xs.map bs) (bs sep)) xs.length (fun k => ((joinT sep (xs.take k)).map (fun b => (b.toNat : Int)), (k : Int))) ((joinT sep xs).map fun b => (b.toNat : Int)) (fun k hk => ?_) (by simp [s_Join_s3])
  · have e0 : ((joinT sep (xs.take 0)).map (fun b => (b.toNat : Int)), ((0 : Nat) : Int)) = (([] : List Int), (0 : Int)) := rfl
    rw [e0] at key
    rw [key]
    simp only [Option.bind_some]
    rw [strI_map, joinT_eq]
  · have hx : xs[k]? = some xs[k] := List.getElem?_eq_getElem hk
    have hxm : (xs.map bs)[k]? = some (bs xs[k]) := by rw [List.getElem?_map, hx]; rfl
    have hd : decide ((k : Int) < ((xs.map bs).length : Int)) = true := by simp; omega
    have hts : xs.take (k + 1) = xs.take k ++ [xs[k]] := by rw [List.take_add_one, hx]; rfl
    have hlen : (xs.take k).length = k := by simp; omega
    have hb := join_bd (sep := sep) (m := m) (xs := xs.take (k + 1)) fun x hx => hm x (List.mem_of_mem_take hx)
    have hb2 : (xs.take (k + 1)).length * (sep.length + m) ≤ 100000000 := Nat.le_trans (Nat.mul_le_mul_right _ (by simp; omega)) hs
    have hk1 : k ≤ lim := Nat.le_trans (show k ≤ 1000000 by omega) (by decide)
    by_cases h0 : k = 0
    · subst h0
      have e1 : joinT sep (xs.take (0 + 1)) = xs[0] := by rw [hts]; simp [joinT]
      rw [e1] at hb
      simp only [s_Join_s3, hd, cond_true, show decide (((0 : Nat) : Int) > 0) = false from rfl, cond_false, idx_some hxm, Option.bind_some, bytesI_bs]
      rw [appD_some (by rw [lim_eq]; simp [joinT]; omega) (by rw [lim_eq]; simp [joinT]; omega), Option.bind_some, wrap_succ hk1, e1]
      simp [joinT]
    · have hp : decide ((k : Int) > 0) = true := by simp; omega
      have hne : xs.take k ≠ [] := fun h => by rw [h] at hlen; simp at hlen; omega
      have e1 : joinT sep (xs.take (k + 1)) = joinT sep (xs.take k) ++ (sep ++ xs[k]) := by rw [hts, joinT_snoc, if_neg hne]
      rw [e1] at hb
      simp only [List.length_append] at hb
      simp only [s_Join_s3, hd, hp, cond_true, idx_some hxm, Option.bind_some, bytesI_bs]
      rw [appD_some (by rw [lim_eq]; simp; omega) (by rw [lim_eq]; simp; omega), Option.bind_some, appD_some (by rw [lim_eq]; simp; omega) (by rw [lim_eq]; simp; omega), Option.bind_some, wrap_succ hk1, e1]
      simp
/-! Numbers, joined. -/
def numsT (v : List Int) : List UInt8 := Lib.join (v.map Lib.itoa) [44]
theorem nums_bd {v : List Int} (hv : ∀ x ∈ v, I64 x) : ∀ y ∈ v.map Lib.itoa, y.length ≤ 31 := fun y hy => by
  obtain ⟨x, hx, rfl⟩ := List.mem_map.1 hy
  have := hv x hx
  exact itoa_len30 this.1 this.2
theorem l2Text_eq {v : List Int} (hl : v.length ≤ 1000) (hv : ∀ x ∈ v, I64 x) : s_l2Text v = some (bs (numsT v)) := by
  have hS : ∀ k x, v[k]? = some x → s_FormatInt x = some (bs (Lib.itoa x)) := fun k x hx => s_FormatInt_eq (hv x (List.mem_of_getElem? hx)).1 (hv x (List.mem_of_getElem? hx)).2
  have hlm : ∀ k, k ≤ v.length → k ≤ lim := fun k hk => Nat.le_trans (Nat.le_trans hk hl) (by decide)
  have k2 := iter_up (step := s_l2Text_s3 v) v.length (fun k => (((v.take k).map fun x => bs (Lib.itoa x)), (k : Int))) (v.map fun x => bs (Lib.itoa x)) (fun k hk => by
    have hx : v[k]? = some v[k] := List.getElem?_eq_getElem hk
    have hd : decide ((k : Int) < (v.length : Int)) = true := by simp; omega
    simp only [s_l2Text_s3, hd, cond_true, idx_some hx, Option.bind_some, hS k _ hx]
    rw [appD_some (by rw [lim_eq]; simp; omega) (by rw [lim_eq]; simp; omega), Option.bind_some, wrap_succ (hlm k (by omega)), take_map_succ _ hx]
    rfl) (by simp [s_l2Text_s3])
  have e0 : ((((v.take 0).map fun x => bs (Lib.itoa x)), ((0 : Nat) : Int)) : List ByteArray × Int) = ([], 0) := rfl
  rw [e0] at k2
  have hm : (v.map fun x => bs (Lib.itoa x)) = (v.map Lib.itoa).map bs := by rw [List.map_map]; rfl
  have e1 : (⟨#[44]⟩ : ByteArray) = bs [44] := rfl
  have hb : (v.map Lib.itoa).length * (([44] : List UInt8).length + 31) ≤ 100000000 := by simp; omega
  have hl2 : (v.map Lib.itoa).length ≤ 1000000 := by simp; omega
  unfold s_l2Text
  rw [k2]
  simp only [Option.bind_some, hm, e1, s_Join_eq hl2 (nums_bd hv) hb]
  rfl
end Go.Proofs.Ytmdagdopfgiaiaa
