/-
  Plain: vertices of regions by the program: minors, determinants, adjugates, reduced points. No condition.
-/
import Derived.Test.YtfknaeamhcpfgaaGreatPlVu
namespace Go.Proofs.YtfknaeamhcpfgaaGreat
open Go Go.Proofs.YtfknaeamhcpfgaaGreat.Eng
set_option linter.unusedVariables false
set_option linter.unusedSimpArgs false
/-! Minors. -/
theorem eraseIdx_snoc {α : Type} (l : List α) (x : α) (i : Nat) : (l ++ [x]).eraseIdx i = if i = l.length then l else l.eraseIdx i ++ [x] := by
  split
  · rename_i h
    subst h
    rw [List.eraseIdx_append_of_length_le (Nat.le_refl _)]
    simp
  · rename_i h
    by_cases hl : i < l.length
    · rw [List.eraseIdx_append_of_lt_length hl]
    · rw [List.eraseIdx_append_of_length_le (by omega)]
      obtain ⟨m, hm⟩ : ∃ m, i - l.length = m + 1 := ⟨i - l.length - 1, by omega⟩
      rw [hm, List.eraseIdx_of_length_le (l := [x]) (by simp), List.eraseIdx_of_length_le (l := l) (by omega)]
def minorL (M : List (List Int)) (i j : Nat) : List (List Int) := (M.eraseIdx i).map (·.eraseIdx j)
theorem minor_eq {M : List (List Int)} {i j c : Nat} (hr : M.length ≤ 8) (hc : ∀ r ∈ M, r.length = c) (hc8 : c ≤ 8) (hj : j < c) : i_minor M (i : Int) (j : Int) = some (minorL M i j) := by
  have := iter_up (step := i_minor_s3 M (i : Int) (j : Int)) M.length (fun k => (minorL (M.take k) i j, (k : Int))) (minorL M i j) (fun k hk => by
    have hx : M[k]? = some M[k] := List.getElem?_eq_getElem hk
    have hl := hc _ (List.getElem_mem hk)
    have htk : (M.take k).length = k := by rw [List.length_take]; omega
    have e1 : minorL (M.take (k + 1)) i j = if i = k then minorL (M.take k) i j else minorL (M.take k) i j ++ [M[k].eraseIdx j] := by
      unfold minorL
      rw [List.take_add_one, hx, Option.toList_some, eraseIdx_snoc, htk]
      split
      · rename_i h
        subst h
        rw [List.eraseIdx_of_length_le (by omega)]
      · simp
    have hml : (minorL (M.take k) i j).length ≤ 8 := by
      unfold minorL
      rw [List.length_map]
      have := List.length_eraseIdx_le (M.take k) i
      omega
    unfold i_minor_s3
    simp only
    rw [show decide ((k : Int) < (M.length : Int)) = true from by simp; omega, cond_true, idx_some hx, Option.bind_some, e1, wrap_small (x := (k : Int) + 1) (by omega) (by omega)]
    by_cases hik : i = k
    · rw [if_pos hik, show ((k : Int) != (i : Int)) = false from by simp [hik], cond_false]; rfl
    · rw [if_neg hik, show ((k : Int) != (i : Int)) = true from by simp; omega, cond_true]
      have s1 : subl M[k] (0 : Int) (j : Int) = some (M[k].take j) := by
        have := subl_nat (xs := M[k]) (a := 0) (b := j) (by omega) (by omega)
        simpa using this
      have s2 : subl M[k] (IntKind.i64.wrap ((j : Int) + 1)) (M[k].length : Int) = some (M[k].drop (j + 1)) := by
        rw [wrap_small (by omega) (by omega)]
        have := subl_nat (xs := M[k]) (a := j + 1) (b := M[k].length) (by omega) (by omega)
        rw [List.take_length] at this
        exact_mod_cast this
      rw [s1, Option.bind_some, copyInts_eq (by rw [lim_eq, List.length_take]; omega), Option.bind_some, s2, Option.bind_some, appD_some (by rw [lim_eq, List.length_take, List.length_drop]; omega) (by rw [lim_eq, List.length_take, List.length_drop]; omega), Option.bind_some,
        appD_some (by rw [lim_eq, List.length_singleton]; omega) (by rw [lim_eq, List.length_singleton]; omega), Option.bind_some, List.eraseIdx_eq_take_drop_succ]
      rfl) (by
    unfold i_minor_s3
    simp)
  unfold i_minor
  have h0 : (([] : List (List Int)), (0 : Int)) = (minorL (M.take 0) i j, ((0 : Nat) : Int)) := by simp [minorL]
  rw [h0, this]; rfl
/-! Determinants. -/
def sgn (k : Nat) : Int := if k % 2 = 0 then 1 else -1
theorem sgn_succ (k : Nat) : sgn (k + 1) = - sgn k := by
  unfold sgn
  by_cases h : k % 2 = 0
  · rw [if_pos h, if_neg (by omega)]
  · rw [if_neg h, if_pos (by omega)]; rfl
def altS (r : List Int) (d : Nat → Int) : Nat → Int
  | 0 => 0
  | k + 1 => altS r d k + sgn k * (r[k]?.getD 0) * d k
theorem term_bd {s x d : Int} (hs : s = 1 ∨ s = -1) (hx : B3 x) (hd : -80000 ≤ d ∧ d ≤ 80000) : -16000000 ≤ s * x * d ∧ s * x * d ≤ 16000000 := by
  have h := b3_mul2 hx hd
  rcases hs with rfl | rfl
  · rw [Int.one_mul]; exact h
  · rw [show (-1 : Int) * x * d = -(x * d) from by rw [Int.mul_assoc, Int.neg_one_mul]]; omega
theorem sgn_or (k : Nat) : sgn k = 1 ∨ sgn k = -1 := by unfold sgn; split <;> simp
theorem altS_bd {r : List Int} {d : Nat → Int} {n : Nat} (h0 : ∀ x ∈ r, B3 x) (hd : ∀ j, j < n → -80000 ≤ d j ∧ d j ≤ 80000) : ∀ k, k ≤ n → -(16000000 * (k : Int)) ≤ altS r d k ∧ altS r d k ≤ 16000000 * (k : Int)
  | 0, _ => by simp [altS]
  | k + 1, hk => by
    have ih := altS_bd h0 hd k (by omega)
    have hb : B3 (r[k]?.getD 0) := by
      cases hx : r[k]? with
      | none => simp [B3]
      | some x => exact h0 x (List.mem_of_getElem? hx)
    have := term_bd (sgn_or k) hb (hd k (by omega))
    simp only [altS]
    omega
theorem det_step {n : Nat} (hn : n ≤ 2) {r0 : List Int} {M : List (List Int)} (hr : (r0 :: M).length = n + 1) (hc : ∀ r ∈ r0 :: M, r.length = n + 1) (h0 : ∀ x ∈ r0, B3 x) {rec : List (List Int) → Option Int} {d : Nat → Int}
    (hd : ∀ j, j < n + 1 → rec (minorL (r0 :: M) 0 j) = some (d j) ∧ -80000 ≤ d j ∧ d j ≤ 80000) : i_detB rec (r0 :: M) = some (altS r0 d (n + 1)) := by
  have hl0 := hc r0 (by simp)
  have hbd := altS_bd (n := n + 1) h0 fun j hj => (hd j hj).2
  have := iter_up (step := i_det_s5 rec (r0 :: M) r0) (n + 1) (fun k => (altS r0 d k, (sgn k, (k : Int)))) (altS r0 d (n + 1)) (fun k hk => by
    have hx : r0[k]? = some (r0[k]'(by omega)) := List.getElem?_eq_getElem _
    have b1 := hbd k (by omega)
    have b2 := hbd (k + 1) (by omega)
    have hxb := h0 _ (List.getElem_mem (by omega : k < r0.length))
    obtain ⟨d1, d2⟩ := hd k hk
    have tb := term_bd (sgn_or k) hxb d2
    have es : IntKind.i64.wrap (0 - sgn k) = sgn (k + 1) := by
      rw [sgn_succ]
      rcases sgn_or k with h | h <;> (rw [h]; rfl)
    unfold i_det_s5
    simp only
    rw [show decide ((k : Int) < (r0.length : Int)) = true from by simp; omega, cond_true, idx_some hx, Option.bind_some, wrap_small (x := (k : Int) + 1) (by omega) (by omega), es]
    have ea : altS r0 d (k + 1) = altS r0 d k + sgn k * (r0[k]'(by omega)) * d k := by simp only [altS, hx, Option.getD_some]
    by_cases hz : (r0[k]'(by omega)) = 0
    · rw [show ((r0[k]'(by omega)) != 0) = false from by simp [hz], cond_false, ea, hz]
      simp
    · have hsx : IntKind.i64.wrap (sgn k * (r0[k]'(by omega))) = sgn k * (r0[k]'(by omega)) := by
        unfold B3 at hxb
        rcases sgn_or k with h | h <;> (rw [h]; exact wrap_small (by omega) (by omega))
      have hm : i_minor (r0 :: M) 0 (k : Int) = some (minorL (r0 :: M) 0 k) := minor_eq (i := 0) (c := n + 1) (by omega) hc (by omega) hk
      rw [show ((r0[k]'(by omega)) != 0) = true from by simpa using hz, cond_true, hm, Option.bind_some, d1, Option.bind_some, hsx, wrap_small (x := sgn k * (r0[k]'(by omega)) * d k) (by omega) (by omega), ← ea, wrap_small (by omega) (by omega)]
      rfl) (by
    unfold i_det_s5
    simp only
    rw [show decide (((n + 1 : Nat) : Int) < (r0.length : Int)) = false from by simp; omega, cond_false])
  unfold i_detB
  rw [show (((r0 :: M).length : Int) == 0) = false from by simp; omega, cond_false]
  have hi : idx (r0 :: M) 0 = some r0 := idx_some (k := 0) rfl
  rw [hi, Option.bind_some]
  have e0 : ((0 : Int), ((1 : Int), (0 : Int))) = (altS r0 d 0, (sgn 0, ((0 : Nat) : Int))) := rfl
  rw [e0, this]; rfl
theorem idet0 (f : Nat) : i_detR (f + 1) [] = some 1 := rfl
theorem idet1 (f : Nat) {a : Int} (ha : B3 a) : i_detR (f + 2) [[a]] = some a := by
  have := det_step (n := 0) (rec := i_detR (f + 1)) (d := fun _ => 1) (by omega) (r0 := [a]) (M := []) rfl (by simp) (by simpa using ha) (fun j hj => by
    obtain rfl : j = 0 := by omega
    exact ⟨idet0 f, by omega, by omega⟩)
  show i_detB (i_detR (f + 1)) [[a]] = some a
  rw [this]
  simp [altS, sgn]
theorem idet2 (f : Nat) {a b c d : Int} (ha : B3 a) (hb : B3 b) (hc : B3 c) (hd : B3 d) : i_detR (f + 3) [[a, b], [c, d]] = some (a * d - b * c) := by
  have := det_step (n := 1) (rec := i_detR (f + 2)) (d := fun j => if j = 0 then d else c) (by omega) (r0 := [a, b]) (M := [[c, d]]) rfl (by simp) (fun x hx => by simp at hx; rcases hx with rfl | rfl <;> assumption) (fun j hj => by
    have : j = 0 ∨ j = 1 := by omega
    unfold B3 at hc hd
    rcases this with rfl | rfl
    · exact ⟨idet1 f hd, by simp only [if_true]; omega, by simp only [if_true]; omega⟩
    · exact ⟨idet1 f hc, by simp; omega, by simp; omega⟩)
  show i_detB (i_detR (f + 2)) [[a, b], [c, d]] = some (a * d - b * c)
  rw [this]
  have e : altS [a, b] (fun j => if j = 0 then d else c) 2 = 0 + 1 * a * d + -1 * b * c := rfl
  rw [e]
  congr 1
  grind
theorem idet3 (k : Nat) {a b c d e f g h i : Int} (ha : B3 a) (hb : B3 b) (hc : B3 c) (hd : B3 d) (he : B3 e) (hf : B3 f) (hg : B3 g) (hh : B3 h) (hi : B3 i) :
    i_detR (k + 4) [[a, b, c], [d, e, f], [g, h, i]] = some (a * (e * i - f * h) + b * (f * g - d * i) + c * (d * h - e * g)) := by
  have q1 := b3_mul he hi
  have q2 := b3_mul hf hh
  have q3 := b3_mul hd hi
  have q4 := b3_mul hf hg
  have q5 := b3_mul hd hh
  have q6 := b3_mul he hg
  have := det_step (n := 2) (rec := i_detR (k + 3)) (d := fun j => if j = 0 then e * i - f * h else if j = 1 then d * i - f * g else d * h - e * g) (by omega) (r0 := [a, b, c]) (M := [[d, e, f], [g, h, i]]) rfl (by simp) (fun x hx => by simp at hx; rcases hx with rfl | rfl | rfl <;> assumption) (fun j hj => by
    have : j = 0 ∨ j = 1 ∨ j = 2 := by omega
    rcases this with rfl | rfl | rfl
    · exact ⟨idet2 k he hf hh hi, by simp only [if_true]; omega, by simp only [if_true]; omega⟩
    · exact ⟨idet2 k hd hf hg hi, by simp; omega, by simp; omega⟩
    · exact ⟨idet2 k hd he hg hh, by simp; omega, by simp; omega⟩)
  show i_detB (i_detR (k + 3)) [[a, b, c], [d, e, f], [g, h, i]] = _
  rw [this]
  have e : altS [a, b, c] (fun j => if j = 0 then e * i - f * h else if j = 1 then d * i - f * g else d * h - e * g) 3 = 0 + 1 * a * (e * i - f * h) + -1 * b * (d * i - f * g) + 1 * c * (d * h - e * g) := rfl
  rw [e]
  congr 1
  grind
/-- Of size zero too. -/
def detI : List (List Int) → Int
  | [] => 1
  | r :: M => det (r :: M)
structure Sq0 (n : Nat) (M : List (List Int)) : Prop where
  three : n ≤ 3
  rows : M.length = n
  cols : ∀ r ∈ M, r.length = n ∧ ∀ x ∈ r, B3 x
theorem Sq.zero {n : Nat} {M : List (List Int)} (h : Sq n M) : Sq0 n M := ⟨h.three, h.rows, h.cols⟩
theorem detI_eq {n : Nat} {M : List (List Int)} (h : Sq0 n M) : i_det M = some (detI M) ∧ -48000000 ≤ detI M ∧ detI M ≤ 48000000 := by
  by_cases h0 : n = 0
  · have : M = [] := List.eq_nil_of_length_eq_zero (by rw [h.rows, h0])
    subst this
    exact ⟨rfl, by decide, by decide⟩
  · have hs : Sq n M := ⟨by omega, h.three, h.rows, h.cols⟩
    have hM : ∃ r M', M = r :: M' := by
      cases M with
      | nil => have := h.rows; simp at this; omega
      | cons r M' => exact ⟨r, M', rfl⟩
    have hbd := (l3Det_eq hs).2
    have hd : detI M = det M := by obtain ⟨r, M', rfl⟩ := hM; rfl
    rw [hd]
    refine ⟨?_, hbd⟩
    obtain ⟨h1, h3, hr, hc⟩ := hs
    have : n = 1 ∨ n = 2 ∨ n = 3 := by omega
    rcases this with rfl | rfl | rfl
    · match M, hr with
      | [r], _ =>
        obtain ⟨k, hb⟩ := hc r (by simp)
        obtain ⟨a, rfl⟩ := row_one k
        exact idet1 29998 (hb a (by simp))
    · match M, hr with
      | [r, s], _ =>
        obtain ⟨k, hb⟩ := hc r (by simp)
        obtain ⟨k', hb'⟩ := hc s (by simp)
        obtain ⟨a, b, rfl⟩ := row_two k
        obtain ⟨c, d, rfl⟩ := row_two k'
        exact idet2 29997 (hb a (by simp)) (hb b (by simp)) (hb' c (by simp)) (hb' d (by simp))
    · match M, hr with
      | [r, s, t], _ =>
        obtain ⟨k, hb⟩ := hc r (by simp)
        obtain ⟨k', hb'⟩ := hc s (by simp)
        obtain ⟨k'', hb''⟩ := hc t (by simp)
        obtain ⟨a, b, c, rfl⟩ := row_three k
        obtain ⟨d, e, f, rfl⟩ := row_three k'
        obtain ⟨g, h', i, rfl⟩ := row_three k''
        exact idet3 29996 (hb a (by simp)) (hb b (by simp)) (hb c (by simp)) (hb' d (by simp)) (hb' e (by simp)) (hb' f (by simp)) (hb'' g (by simp)) (hb'' h' (by simp)) (hb'' i (by simp))
/-! Adjugates. -/
theorem minor_sq {n : Nat} {M : List (List Int)} (h : Sq0 (n + 1) M) {i j : Nat} (hi : i < n + 1) (hj : j < n + 1) : Sq0 n (minorL M i j) := by
  refine ⟨by have := h.three; omega, ?_, fun r hr => ?_⟩
  · unfold minorL
    rw [List.length_map, List.length_eraseIdx, if_pos (by rw [h.rows]; exact hi), h.rows]; omega
  · unfold minorL at hr
    obtain ⟨q, hq, rfl⟩ := List.mem_map.1 hr
    obtain ⟨c1, c2⟩ := h.cols q (List.mem_of_mem_eraseIdx hq)
    refine ⟨?_, fun x hx => c2 x (List.mem_of_mem_eraseIdx hx)⟩
    rw [List.length_eraseIdx, if_pos (by omega), c1]; omega
def adjC (M : List (List Int)) (i j : Nat) : Int := sgn (i + j) * detI (minorL M j i)
def adjL (n : Nat) (M : List (List Int)) : List (List Int) := (List.range n).map fun i => (List.range n).map fun j => adjC M i j
theorem adj7 {n : Nat} {M : List (List Int)} (h : Sq0 (n + 1) M) {out : List (List Int)} {i : Nat} (hi : i < n + 1) : iter (i_adjugate_s7 M (out, (i : Int))) (out, (List.replicate (n + 1) 0, 0)) = some (out, (List.range (n + 1)).map fun j => adjC M i j) := by
  have hr := h.rows
  have h3 := h.three
  have := iter_up (step := i_adjugate_s7 M (out, (i : Int))) (n + 1) (fun k => (out, (((List.range k).map fun j => adjC M i j) ++ List.replicate (n + 1 - k) 0, (k : Int)))) (out, (List.range (n + 1)).map fun j => adjC M i j) (fun k hk => by
    obtain ⟨d1, d2⟩ := detI_eq (minor_sq h hk hi)
    have hm : i_minor M (k : Int) (i : Int) = some (minorL M k i) := minor_eq (c := n + 1) (by omega) (fun r hr => (h.cols r hr).1) (by omega) hi
    have hsp : List.replicate (n + 1 - k) (0 : Int) = 0 :: List.replicate (n + 1 - (k + 1)) 0 := by
      rw [show n + 1 - k = (n + 1 - (k + 1)) + 1 from by omega, List.replicate_succ]
    have hll : (((List.range k).map fun j => adjC M i j) ++ List.replicate (n + 1 - k) (0 : Int)).length = n + 1 := by simp; omega
    have hset : ∀ v : Int, (((List.range k).map fun j => adjC M i j) ++ List.replicate (n + 1 - k) (0 : Int)).set k v = ((List.range k).map fun j => adjC M i j) ++ v :: List.replicate (n + 1 - (k + 1)) 0 := fun v => by
      rw [hsp, List.set_append_right _ _ (by simp)]
      simp
    have hget : ∀ v : Int, (((List.range k).map fun j => adjC M i j) ++ v :: List.replicate (n + 1 - (k + 1)) 0)[k]? = some v := fun v => by
      rw [List.getElem?_append_right (by simp)]
      simp
    have hset2 : ∀ v u : Int, (((List.range k).map fun j => adjC M i j) ++ v :: List.replicate (n + 1 - (k + 1)) 0).set k u = ((List.range k).map fun j => adjC M i j) ++ u :: List.replicate (n + 1 - (k + 1)) 0 := fun v u => by
      rw [List.set_append_right _ _ (by simp)]
      simp
    have hll2 : ∀ v : Int, (((List.range k).map fun j => adjC M i j) ++ v :: List.replicate (n + 1 - (k + 1)) 0).length = n + 1 := fun v => by simp; omega
    have hfin : ((List.range (k + 1)).map fun j => adjC M i j) ++ List.replicate (n + 1 - (k + 1)) (0 : Int) = ((List.range k).map fun j => adjC M i j) ++ adjC M i k :: List.replicate (n + 1 - (k + 1)) 0 := by
      rw [List.range_succ]; simp
    unfold i_adjugate_s7
    simp only
    rw [hr, show decide ((k : Int) < ((n + 1 : Nat) : Int)) = true from by simp; omega, cond_true, hm, Option.bind_some, d1, Option.bind_some, hll, inIdx_nat hk, Option.bind_some, Int.toNat_natCast, inIdx_nat hk, Option.bind_some, hset, hll2, inIdx_nat hk, idx_some (hget _)]
    have hrem : remI .i64 (IntKind.i64.wrap ((i : Int) + (k : Int))) 2 = some (((i + k) % 2 : Nat) : Int) := by
      rw [wrap_small (by omega) (by omega)]
      unfold remI
      rw [if_neg (by omega)]
      congr 1
    rw [hrem]
    simp only [Option.bind_some]
    rw [wrap_small (x := (k : Int) + 1) (by omega) (by omega), hfin]
    by_cases hp : (i + k) % 2 = 1
    · rw [show ((((i + k) % 2 : Nat) : Int) == 1) = true from by simp [hp], cond_true, hset2, wrap_small (by omega) (by omega)]
      have : adjC M i k = 0 - detI (minorL M k i) := by
        unfold adjC sgn
        rw [if_neg (by omega)]; omega
      rw [this]; rfl
    · rw [show ((((i + k) % 2 : Nat) : Int) == 1) = false from by simp; omega, cond_false]
      have : adjC M i k = detI (minorL M k i) := by
        unfold adjC sgn
        rw [if_pos (by omega)]; omega
      rw [this]; rfl) (by
    unfold i_adjugate_s7
    simp only
    rw [hr, show decide (((n + 1 : Nat) : Int) < ((n + 1 : Nat) : Int)) = false from by simp, cond_false]
    simp)
  simpa using this
theorem adj_eq {n : Nat} {M : List (List Int)} (h : Sq0 (n + 1) M) : i_adjugate M = some (adjL (n + 1) M) := by
  have hr := h.rows
  have h3 := h.three
  have := iter_up (step := i_adjugate_s3 M) (n + 1) (fun k => ((List.range k).map fun i => (List.range (n + 1)).map fun j => adjC M i j, (k : Int))) (adjL (n + 1) M) (fun k hk => by
    unfold i_adjugate_s3
    simp only
    rw [hr, show decide ((k : Int) < ((n + 1 : Nat) : Int)) = true from by simp; omega, cond_true, mkD_some (by rw [lim_eq]; omega) (by rw [lim_eq]; omega), Option.bind_some, adj7 h hk, Option.bind_some]
    simp only
    rw [appD_some (by rw [lim_eq]; simp; omega) (by rw [lim_eq]; simp; omega), Option.bind_some, wrap_small (by omega) (by omega), List.range_succ (n := k), List.map_append]
    rfl) (by
    unfold i_adjugate_s3
    simp only
    rw [hr, show decide (((n + 1 : Nat) : Int) < ((n + 1 : Nat) : Int)) = false from by simp, cond_false]
    rfl)
  unfold i_adjugate
  have e0 : (([] : List (List Int)), (0 : Int)) = ((List.range 0).map fun i => (List.range (n + 1)).map fun j => adjC M i j, ((0 : Nat) : Int)) := rfl
  rw [e0, this]; rfl
theorem adj_bd {n : Nat} {M : List (List Int)} (h : Sq0 (n + 1) M) : (adjL (n + 1) M).length = n + 1 ∧ ∀ r ∈ adjL (n + 1) M, r.length = n + 1 ∧ ∀ x ∈ r, -80000 ≤ x ∧ x ≤ 80000 := by
  refine ⟨by simp [adjL], fun r hr => ?_⟩
  obtain ⟨i, hi, rfl⟩ := List.mem_map.1 hr
  refine ⟨by simp, fun x hx => ?_⟩
  obtain ⟨j, hj, rfl⟩ := List.mem_map.1 hx
  rw [List.mem_range] at hi hj
  have hsq := minor_sq h hj hi
  have hb : -80000 ≤ detI (minorL M j i) ∧ detI (minorL M j i) ≤ 80000 := by
    generalize minorL M j i = K at hsq
    have h3 := h.three
    obtain ⟨_, kr, kc⟩ := hsq
    have : n = 0 ∨ n = 1 ∨ n = 2 := by omega
    rcases this with rfl | rfl | rfl
    · have : K = [] := List.eq_nil_of_length_eq_zero kr
      subst this; decide
    · match K, kr with
      | [r], _ =>
        obtain ⟨k, hb⟩ := kc r (by simp)
        obtain ⟨a, rfl⟩ := row_one k
        have := hb a (by simp)
        unfold B3 at this
        show -80000 ≤ a ∧ a ≤ 80000
        omega
    · match K, kr with
      | [r, s], _ =>
        obtain ⟨k, hb⟩ := kc r (by simp)
        obtain ⟨k', hb'⟩ := kc s (by simp)
        obtain ⟨a, b, rfl⟩ := row_two k
        obtain ⟨c, d, rfl⟩ := row_two k'
        have q1 := b3_mul (hb a (by simp)) (hb' d (by simp))
        have q2 := b3_mul (hb b (by simp)) (hb' c (by simp))
        show -80000 ≤ a * d - b * c ∧ a * d - b * c ≤ 80000
        omega
  unfold adjC
  rcases sgn_or (i + j) with h | h <;> (rw [h]; omega)
/-- The adjugate, times the bounds: Cramer's numerators. -/
theorem adj_nums {n : Nat} {X : List Hf} (h : Sys n X) : (adjL n (normals X)).map (fun r => dtL r (X.map (·.2))) = numsL X n := by
  obtain ⟨h1, h3, hr, hc⟩ := h
  have : n = 1 ∨ n = 2 ∨ n = 3 := by omega
  rcases this with rfl | rfl | rfl
  · match X, hr with
    | [(r, p)], _ =>
      obtain ⟨a, rfl⟩ := row_one (hc (r, p) (by simp)).1
      simp [adjL, normals, numsL, swapC, adjC, minorL, detI, det, sgn, dtL]
  · match X, hr with
    | [(r, p), (s, q)], _ =>
      obtain ⟨a, b, rfl⟩ := row_two (hc (r, p) (by simp)).1
      obtain ⟨c, d, rfl⟩ := row_two (hc (s, q) (by simp)).1
      simp [adjL, normals, numsL, swapC, adjC, minorL, detI, det, sgn, dtL, List.range_succ]
      refine ⟨?_, ?_⟩ <;> grind
  · match X, hr with
    | [(r, p), (s, q), (t, u)], _ =>
      obtain ⟨a, b, c, rfl⟩ := row_three (hc (r, p) (by simp)).1
      obtain ⟨d, e, f, rfl⟩ := row_three (hc (s, q) (by simp)).1
      obtain ⟨g, h, i, rfl⟩ := row_three (hc (t, u) (by simp)).1
      simp [adjL, normals, numsL, swapC, adjC, minorL, detI, det, sgn, dtL, List.range_succ]
      refine ⟨?_, ?_, ?_⟩ <;> grind
end Go.Proofs.YtfknaeamhcpfgaaGreat
