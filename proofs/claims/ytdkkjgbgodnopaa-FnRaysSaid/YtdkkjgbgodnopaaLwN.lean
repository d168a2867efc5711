/-
  Plain: cones met. No condition.
-/
import Derived.Test.YtdkkjgbgodnopaaPlT
import Derived.Test.YtdkkjgbgodnopaaLwD
namespace Go.Proofs.Ytdkkjgbgodnopaa
open Go Go.Proofs.Ytdkkjgbgodnopaa.Eng
set_option linter.unusedVariables false
set_option linter.unusedSimpArgs false

def meetR (c d : Cn) : Cn × Bool :=
  if isCn c && isCn d then
    (let u := if inCn d c.1 then some c.1 else if inCn c d.1 then some d.1 else none
     let v := if inCn d c.2 then some c.2 else if inCn c d.2 then some d.2 else none
     match u, v with
     | some u, some v => if isCn (u, v) then ((u, v), true) else (([], []), false)
     | _, _ => (([], []), false))
  else (([], []), false)

theorem notCn_nil1 (v : List Int) : isCn ([], v) = false := by simp [isCn, isPt]
theorem notCn_nil2 (u : List Int) : isCn (u, []) = false := by simp [isCn, isPt]

theorem meet_eq {c d : Cn} (c1 : c.1.length ≤ lim) (c2 : c.2.length ≤ lim) (d1 : d.1.length ≤ lim) (d2 : d.2.length ≤ lim) : s_MeetCones c d = some (meetR c d) ∧ i_MeetCones c d = some (meetR c d) := by
  simp only [s_MeetCones, i_MeetCones, s_IsCone_eq (c := (c.1, c.2)) c1 c2, i_IsCone_eq (c := (c.1, c.2)) c1 c2, s_IsCone_eq (c := (d.1, d.2)) d1 d2, i_IsCone_eq (c := (d.1, d.2)) d1 d2, Option.bind_some, meetR]
  cases hc : isCn c
  · have : isCn (c.1, c.2) = false := hc
    simp [this]
  cases hd : isCn d
  · have e1 : isCn (c.1, c.2) = true := hc
    have e2 : isCn (d.1, d.2) = false := hd
    simp [e1, e2]
  obtain ⟨a, b, x, y, rfl, hu, hv, hD⟩ := isCn_pv hc
  obtain ⟨p, q, r, s, rfl, ku, kv, kD⟩ := isCn_pv hd
  have w := fun {m n : Int} (h : Pv m n) => (⟨by have := h.a1; omega, by have := h.a2; omega⟩ : -1000 ≤ m ∧ m ≤ 1000)
  have w' := fun {m n : Int} (h : Pv m n) => (⟨by have := h.b1; omega, by have := h.b2; omega⟩ : -1000 ≤ n ∧ n ≤ 1000)
  have l2 : ∀ m n : Int, ([m, n] : List Int).length ≤ lim := fun m n => by show 2 ≤ lim; decide
  have i1 := inCone_eq hd (w hu) (w' hu)
  have i2 := inCone_eq hd (w hv) (w' hv)
  have i3 := inCone_eq hc (w ku) (w' ku)
  have i4 := inCone_eq hc (w kv) (w' kv)
  have i5 := inCone_eq hd (w ku) (w' ku)
  have i6 := inCone_eq hd (w kv) (w' kv)
  have hap : ∀ m n : Int, appD 8 ([] : List Int) [m, n] = some [m, n] := fun m n => by rw [appD_some (by rw [lim_eq]; simp) (by rw [lim_eq]; simp)]; rfl
  have hcp : ∀ m n : Int, i_copyInts [m, n] = some [m, n] := fun m n => copyInts_eq (by rw [lim_eq]; simp)
  have sI : ∀ m n m' n' : Int, s_IsCone ([m, n], [m', n']) = some (isCn ([m, n], [m', n'])) := fun m n m' n' => s_IsCone_eq (c := ([m, n], [m', n'])) (l2 _ _) (l2 _ _)
  have iI : ∀ m n m' n' : Int, i_IsCone ([m, n], [m', n']) = some (isCn ([m, n], [m', n'])) := fun m n m' n' => i_IsCone_eq (c := ([m, n], [m', n'])) (l2 _ _) (l2 _ _)
  have iN1 : ∀ m n : Int, i_IsCone ([], [m, n]) = some false := fun m n => by rw [i_IsCone_eq (c := ([], [m, n])) (by simp) (l2 _ _), notCn_nil1]
  have iN2 : ∀ m n : Int, i_IsCone ([m, n], []) = some false := fun m n => by rw [i_IsCone_eq (c := ([m, n], [])) (l2 _ _) (by simp), notCn_nil2]
  have iN3 : i_IsCone ([], []) = some false := by rw [i_IsCone_eq (c := ([], [])) (by simp) (by simp), notCn_nil1]
  -- a cone's rays are in it
  have own1 : inCn ([p, q], [r, s]) [p, q] = true := by
    have e : crsL [p, q] [p, q] = 0 := by show p * q - q * p = 0; grind
    have f : crsL [p, q] [r, s] = crs p q r s := rfl
    simp only [inCn, e, f]; simp; omega
  have own2 : inCn ([p, q], [r, s]) [r, s] = true := by
    have e : crsL [r, s] [r, s] = 0 := by show r * s - s * r = 0; grind
    have f : crsL [p, q] [r, s] = crs p q r s := rfl
    simp only [inCn, e, f]; simp; omega
  -- rays in each other's cones are equal
  have same1 : inCn ([p, q], [r, s]) [a, b] = true → inCn ([a, b], [x, y]) [p, q] = true → a = p ∧ b = q := fun h1 h2 => by
    simp only [inCn, Bool.and_eq_true, decide_eq_true_eq] at h1 h2
    have t1 : 0 ≤ crs p q a b := h1.1
    have t2 : 0 ≤ crs a b r s := h1.2
    have t3 : 0 ≤ crs a b p q := h2.1
    have hz : crs a b p q = 0 := by have : crs p q a b = - crs a b p q := by unfold crs; grind
                                    omega
    rcases prim_par hu ku hz with h | ⟨e1, e2⟩
    · exact h
    · exfalso
      have : crs a b r s = - crs p q r s := by rw [e1, e2]; unfold crs; grind
      omega
  have same2 : inCn ([p, q], [r, s]) [x, y] = true → inCn ([a, b], [x, y]) [r, s] = true → x = r ∧ y = s := fun h1 h2 => by
    simp only [inCn, Bool.and_eq_true, decide_eq_true_eq] at h1 h2
    have t1 : 0 ≤ crs p q x y := h1.1
    have t2 : 0 ≤ crs x y r s := h1.2
    have t3 : 0 ≤ crs r s x y := h2.2
    have hz : crs x y r s = 0 := by have : crs r s x y = - crs x y r s := by unfold crs; grind
                                    omega
    rcases prim_par hv kv hz with h | ⟨e1, e2⟩
    · exact h
    · exfalso
      have : crs p q x y = - crs p q r s := by rw [e1, e2]; unfold crs; grind
      omega
  simp only [hc, hd, Bool.not_true, cond_false, i1.1, i1.2, i2.1, i2.2, i3.1, i3.2, i4.1, i4.2, hap, hcp, sI, iI, iN1, iN2, iN3, Option.bind_some, Bool.and_true, if_true]
  cases A : inCn ([p, q], [r, s]) [a, b] <;> cases B : inCn ([a, b], [x, y]) [p, q] <;> cases A' : inCn ([p, q], [r, s]) [x, y] <;> cases B' : inCn ([a, b], [x, y]) [r, s]
  all_goals try (have hh := same1 A B; obtain ⟨rfl, rfl⟩ := hh)
  all_goals try (have hh := same2 A' B'; obtain ⟨rfl, rfl⟩ := hh)
  all_goals simp only [hc, hd, cond_true, cond_false, i1.1, i2.1, i5.1, i6.1, A, A', own1, own2, Option.bind_some, Bool.not_true, Bool.not_false, if_true, Bool.false_eq_true, if_false]
  all_goals first
    | exact ⟨trivial, trivial⟩
    | (simp; done)
    | (generalize isCn _ = z; cases z <;> simp)

theorem meet_len {c d : Cn} : (meetR c d).1.1.length ≤ 2 ∧ (meetR c d).1.2.length ≤ 2 := by
  unfold meetR
  split
  · dsimp only
    split
    · rename_i u v _ _
      split
      · rename_i h
        obtain ⟨a, b, x, y, e, _⟩ := isCn_pv h
        obtain ⟨rfl, rfl⟩ := Prod.mk.inj e
        simp
      · simp
    · simp
  · simp

end Go.Proofs.Ytdkkjgbgodnopaa
