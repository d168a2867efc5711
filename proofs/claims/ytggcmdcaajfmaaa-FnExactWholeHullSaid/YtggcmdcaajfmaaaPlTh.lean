/-
  Plain: halves, tightened and combined (on the regions' words). No condition.
-/
import Derived.Test.YtggcmdcaajfmaaaPlI
import Derived.Test.YtggcmdcaajfmaaaPlK
namespace Go.Proofs.Ytggcmdcaajfmaaa
open Go Go.Proofs.Ytggcmdcaajfmaaa.Eng
set_option linter.unusedVariables false
set_option linter.unusedSimpArgs false

/-- A mixed list, set once more. -/
theorem set_mix {α : Type} {xs : List α} (f : α → α) {k : Nat} {x : α} (h : xs[k]? = some x) : ((xs.take k).map f ++ xs.drop k).set k (f x) = (xs.take (k + 1)).map f ++ xs.drop (k + 1) := by
  have hlt := len_lt h
  have hl : ((xs.take k).map f).length = k := by simp; omega
  rw [List.set_append_right _ _ (by omega), hl, Nat.sub_self, List.drop_eq_getElem_cons hlt, List.set_cons_zero, take_map_succ f h, List.append_assoc]
  rfl

theorem mix_len {α : Type} {xs : List α} (f : α → α) {k : Nat} (h : k ≤ xs.length) : ((xs.take k).map f ++ xs.drop k).length = xs.length := by simp; omega

theorem mix_get {α : Type} {xs : List α} (f : α → α) {k : Nat} {x : α} (h : xs[k]? = some x) : ((xs.take k).map f ++ xs.drop k)[k]? = some x := by
  have hlt := len_lt h
  have hl : ((xs.take k).map f).length = k := by simp; omega
  rw [List.getElem?_append_right (by omega), hl, Nat.sub_self, List.getElem?_drop]
  simpa using h

theorem all_sm {m : Int} (hm : m ≤ 1000000) {v : List Int} (h : v.all (inR (-m) m) = true) : ∀ x ∈ v, Sm x := fun x hx => inR_sm hm (List.all_eq_true.1 h x hx)

structure IsHf (n : Int) (h : Hf) : Prop where
  n1 : 1 ≤ n
  n3 : n ≤ 3
  len : (h.1.length : Int) = n
  all : ∀ x ∈ h.1, -20 ≤ x ∧ x ≤ 20
  g : 0 < gcdL h.1
  b1 : -200 ≤ h.2
  b2 : h.2 ≤ 200

theorem halfB_iff {n : Int} {h : Hf} : halfB n h = true ↔ IsHf n h := by
  simp only [halfB, Bool.and_eq_true, inR_iff, beq_iff_eq, decide_eq_true_eq, List.all_eq_true]
  constructor
  · rintro ⟨⟨⟨⟨⟨a, b⟩, c⟩, d⟩, e⟩, f, g⟩; exact ⟨a, b, c, d, e, f, g⟩
  · rintro ⟨a, b, c, d, e, f, g⟩; exact ⟨⟨⟨⟨⟨a, b⟩, c⟩, d⟩, e⟩, f, g⟩

/-- A half, tightened. -/
def tight (h : Hf) : Hf := (h.1.map (fun x => x.tdiv (gcdL h.1)), flr h.2 (gcdL h.1))

theorem IsHf.sm {n : Int} {h : Hf} (hh : IsHf n h) : ∀ x ∈ h.1, Sm x := fun x hx => by have := hh.all x hx; unfold Sm; omega
theorem IsHf.lim {n : Int} {h : Hf} (hh : IsHf n h) : h.1.length ≤ Eng.lim := by have h1 := hh.len; have h2 := hh.n3; exact Nat.le_trans (show h.1.length ≤ 3 by omega) (by decide)
theorem IsHf.small {n : Int} {h : Hf} (hh : IsHf n h) : h.1.length ≤ 3 := by have h1 := hh.len; have h2 := hh.n3; omega

theorem tight_len {h : Hf} : (if halfB h.1.length h then (tight h, true) else (([], 0), false)).1.1.length ≤ h.1.length := by
  split
  · simp [tight]
  · simp

theorem mul_ten {p x m : Int} (h0 : 0 ≤ p) (h1 : p ≤ 10) (h2 : -m ≤ x) (h3 : x ≤ m) : -(10 * m) ≤ p * x ∧ p * x ≤ 10 * m := by
  have : p = 0 ∨ p = 1 ∨ p = 2 ∨ p = 3 ∨ p = 4 ∨ p = 5 ∨ p = 6 ∨ p = 7 ∨ p = 8 ∨ p = 9 ∨ p = 10 := by omega
  rcases this with rfl | rfl | rfl | rfl | rfl | rfl | rfl | rfl | rfl | rfl | rfl <;> omega

theorem zip_fst : ∀ (xs ys : List Int), xs.length = ys.length → (xs.zip ys).map (·.1) = xs
  | [], [], _ => rfl
  | x :: xs, y :: ys, h => by simp [zip_fst xs ys (by simpa using h)]
  | [], _ :: _, h => by simp at h
  | _ :: _, [], h => by simp at h

theorem zip_snd : ∀ (xs ys : List Int), xs.length = ys.length → (xs.zip ys).map (·.2) = ys
  | [], [], _ => rfl
  | x :: xs, y :: ys, h => by simp [zip_snd xs ys (by simpa using h)]
  | [], _ :: _, h => by simp at h
  | _ :: _, [], h => by simp at h

def combN (h k : Hf) (p q : Int) : List Int := (h.1.zip k.1).map fun z => p * z.1 + q * z.2
def combH (h k : Hf) (p q : Int) : Hf := (combN h k p q, p * h.2 + q * k.2)
def combR (h k : Hf) (p q : Int) : Hf × Bool :=
  if halfB h.1.length h && halfB h.1.length k && inR 0 10 p && inR 0 10 q then (if halfB (combH h k p q).1.length (combH h k p q) then (tight (combH h k p q), true) else (([], 0), false)) else (([], 0), false)

theorem comb_len (h k : Hf) (p q : Int) : (combR h k p q).1.1.length ≤ h.1.length := by
  unfold combR
  split
  · have : (combH h k p q).1.length ≤ h.1.length := by simp [combH, combN]; omega
    exact Nat.le_trans tight_len this
  · simp


end Go.Proofs.Ytggcmdcaajfmaaa
