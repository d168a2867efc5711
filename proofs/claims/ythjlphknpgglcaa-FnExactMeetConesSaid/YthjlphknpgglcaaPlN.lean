/-
  Plain: cones met. No condition.
-/
import Derived.Test.YthjlphknpgglcaaPlT
namespace Go.Proofs.Ythjlphknpgglcaa
open Go Go.Proofs.Ythjlphknpgglcaa.Eng
set_option linter.unusedVariables false
set_option linter.unusedSimpArgs false

/-- A vector's test against a cone. -/
def inCn (c : Cn) (x : List Int) : Bool := decide (0 ≤ crsL c.1 x) && decide (0 ≤ crsL x c.2)

theorem vec_eq {a b : Int} (ha : -1000 ≤ a ∧ a ≤ 1000) (hb : -1000 ≤ b ∧ b ≤ 1000) : s_IsVector [a, b] = some true ∧ i_IsVector [a, b] = some true := by
  have hall : ([a, b] : List Int).all (inR (-1000) 1000) = true := by simp [inR, ha.1, ha.2, hb.1, hb.2]
  have hl : ([a, b] : List Int).length ≤ lim := by show 2 ≤ lim; decide
  have h1 : inR 1 3 ((([a, b] : List Int).length : Nat) : Int) = true := rfl
  exact ⟨by simp only [s_IsVector, l1In_eq, Option.bind_some, h1, cond_true, l2Small_eq hl (m := 1000) (by omega) (by omega), hall], by simp only [i_IsVector, within_eq, Option.bind_some, h1, cond_true, allWithin_eq hl, hall]⟩

theorem inCone_eq {c : Cn} (hc : isCn c = true) {a b : Int} (ha : -1000 ≤ a ∧ a ≤ 1000) (hb : -1000 ≤ b ∧ b ≤ 1000) : s_InCone c [a, b] = some (inCn c [a, b]) ∧ i_InCone c [a, b] = some (inCn c [a, b]) := by
  obtain ⟨p, q, r, s, rfl, hu, hv, hD⟩ := isCn_pv hc
  have l1 : ([p, q] : List Int).length ≤ lim := by show 2 ≤ lim; decide
  have l2 : ([r, s] : List Int).length ≤ lim := by show 2 ≤ lim; decide
  have ta : Tn a := by unfold Tn; omega
  have tb : Tn b := by unfold Tn; omega
  have hlen : (((([a, b] : List Int).length : Nat) : Int) == 2) = true := rfl
  obtain ⟨v1, v2⟩ := vec_eq ha hb
  have c1 : crsL [p, q] [a, b] = crs p q a b := rfl
  have c2 : crsL [a, b] [r, s] = crs a b r s := rfl
  constructor
  · simp only [s_InCone, s_IsCone_eq (c := ([p, q], [r, s])) l1 l2, Option.bind_some, hc, cond_true, v1, hlen, l7Cross_eq hu.ta hu.tb ta tb, l7Cross_eq ta tb hv.ta hv.tb, inCn, c1, c2]
    by_cases h : crs p q a b ≥ 0
    · simp [h]
    · simp [h]
  · simp only [i_InCone, i_IsCone_eq (c := ([p, q], [r, s])) l1 l2, Option.bind_some, hc, cond_true, v2, hlen, cross_eq hu.ta hu.tb ta tb, cross_eq ta tb hv.ta hv.tb, inCn, c1, c2]
    by_cases h : crs p q a b ≥ 0
    · simp [h]
    · simp [h]

/-- Primitive vectors in one line are equal or opposite. -/
theorem prim_par {a b c d : Int} (h : Pv a b) (k : Pv c d) (h0 : crs a b c d = 0) : (a = c ∧ b = d) ∨ (a = -c ∧ b = -d) := by
  obtain ⟨x, y, _, h1, _⟩ := partner_eq ⟨h.a1, h.a2⟩ ⟨h.b1, h.b2⟩ h.g
  -- the second is a multiple of the first
  have e1 : c = (c * y - d * x) * a := by unfold crs at h0; grind
  have e2 : d = (c * y - d * x) * b := by unfold crs at h0; grind
  generalize c * y - d * x = t at e1 e2
  have ht : (t.natAbs : Int) ∣ (Int.gcd c d : Int) := by
    have : t ∣ (Int.gcd c d : Int) := Int.dvd_coe_gcd ⟨a, e1⟩ ⟨b, e2⟩
    exact Int.natAbs_dvd.2 this
  rw [k.g] at ht
  have := Int.eq_one_of_dvd_one (by omega) ht
  have ht1 : t = 1 ∨ t = -1 := by omega
  rcases ht1 with rfl | rfl
  · left; omega
  · right; omega

def meetR (c d : Cn) : Cn × Bool :=
  if isCn c && isCn d then
    (let u := if inCn d c.1 then some c.1 else if inCn c d.1 then some d.1 else none
     let v := if inCn d c.2 then some c.2 else if inCn c d.2 then some d.2 else none
     match u, v with
     | some u, some v => if isCn (u, v) then ((u, v), true) else (([], []), false)
     | _, _ => (([], []), false))
  else (([], []), false)

theorem notCn_nil1 (v : List Int) : isCn ([], v) = false := by simp [isCn, isPt]
theorem notCn_nil2 (u : List Int) : isCn (u, []) = false := by simp [isCn, isPt]

theorem meet_eq {c d : Cn} (c1 : c.1.length ≤ lim) (c2 : c.2.length ≤ lim) (d1 : d.1.length ≤ lim) (d2 : d.2.length ≤ lim) : s_MeetCones c d = some (meetR c d) ∧ i_MeetCones c d = some (meetR c d) := by
  simp only [s_MeetCones, i_MeetCones, s_IsCone_eq (c := (c.1, c.2)) c1 c2, i_IsCone_eq (c := (c.1, c.2)) c1 c2, s_IsCone_eq (c := (d.1, d.2)) d1 d2, i_IsCone_eq (c := (d.1, d.2)) d1 d2, Option.bind_some, meetR]
  cases hc : isCn c
  · have : isCn (c.1, c.2) = false := hc
    simp [this]
  cases hd : isCn d
  · have e1 : isCn (c.1, c.2) = true := hc
    have e2 : isCn (d.1, d.2) = false := hd
    simp [e1, e2]
  obtain ⟨a, b, x, y, rfl, hu, hv, hD⟩ := isCn_pv hc
  obtain ⟨p, q, r, s, rfl, ku, kv, kD⟩ := isCn_pv hd
  have w := fun {m n : Int} (h : Pv m n) => (⟨by have := h.a1; omega, by have := h.a2; omega⟩ : -1000 ≤ m ∧ m ≤ 1000)
  have w' := fun {m n : Int} (h : Pv m n) => (⟨by have := h.b1; omega, by have := h.b2; omega⟩ : -1000 ≤ n ∧ n ≤ 1000)
  have l2 : ∀ m n : Int, ([m, n] : List Int).length ≤ lim := fun m n => by show 2 ≤ lim; decide
  have i1 := inCone_eq hd (w hu) (w' hu)
  have i2 := inCone_eq hd (w hv) (w' hv)
  have i3 := inCone_eq hc (w ku) (w' ku)
  have i4 := inCone_eq hc (w kv) (w' kv)
  have i5 := inCone_eq hd (w ku) (w' ku)
  have i6 := inCone_eq hd (w kv) (w' kv)
  have hap : ∀ m n : Int, appD 8 ([] : List Int) [m, n] = some [m, n] := fun m n => by rw [appD_some (by rw [lim_eq]; simp) (by rw [lim_eq]; simp)]; rfl
  have hcp : ∀ m n : Int, i_copyInts [m, n] = some [m, n] := fun m n => copyInts_eq (by rw [lim_eq]; simp)
  have sI : ∀ m n m' n' : Int, s_IsCone ([m, n], [m', n']) = some (isCn ([m, n], [m', n'])) := fun m n m' n' => s_IsCone_eq (c := ([m, n], [m', n'])) (l2 _ _) (l2 _ _)
  have iI : ∀ m n m' n' : Int, i_IsCone ([m, n], [m', n']) = some (isCn ([m, n], [m', n'])) := fun m n m' n' => i_IsCone_eq (c := ([m, n], [m', n'])) (l2 _ _) (l2 _ _)
  have iN1 : ∀ m n : Int, i_IsCone ([], [m, n]) = some false := fun m n => by rw [i_IsCone_eq (c := ([], [m, n])) (by simp) (l2 _ _), notCn_nil1]
  have iN2 : ∀ m n : Int, i_IsCone ([m, n], []) = some false := fun m n => by rw [i_IsCone_eq (c := ([m, n], [])) (l2 _ _) (by simp), notCn_nil2]
  have iN3 : i_IsCone ([], []) = some false := by rw [i_IsCone_eq (c := ([], [])) (by simp) (by simp), notCn_nil1]
  -- a cone's rays are in it
  have own1 : inCn ([p, q], [r, s]) [p, q] = true := by
    have e : crsL [p, q] [p, q] = 0 := by show p * q - q * p = 0; grind
    have f : crsL [p, q] [r, s] = crs p q r s := rfl
    simp only [inCn, e, f]; simp; omega
  have own2 : inCn ([p, q], [r, s]) [r, s] = true := by
    have e : crsL [r, s] [r, s] = 0 := by show r * s - s * r = 0; grind
    have f : crsL [p, q] [r, s] = crs p q r s := rfl
    simp only [inCn, e, f]; simp; omega
  -- rays in each other's cones are equal
  have same1 : inCn ([p, q], [r, s]) [a, b] = true → inCn ([a, b], [x, y]) [p, q] = true → a = p ∧ b = q := fun h1 h2 => by
    simp only [inCn, Bool.and_eq_true, decide_eq_true_eq] at h1 h2
    have t1 : 0 ≤ crs p q a b := h1.1
    have t2 : 0 ≤ crs a b r s := h1.2
    have t3 : 0 ≤ crs a b p q := h2.1
    have hz : crs a b p q = 0 := by have : crs p q a b = - crs a b p q := by unfold crs; grind
                                    omega
    rcases prim_par hu ku hz with h | ⟨e1, e2⟩
    · exact h
    · exfalso
      have : crs a b r s = - crs p q r s := by rw [e1, e2]; unfold crs; grind
      omega
  have same2 : inCn ([p, q], [r, s]) [x, y] = true → inCn ([a, b], [x, y]) [r, s] = true → x = r ∧ y = s := fun h1 h2 => by
    simp only [inCn, Bool.and_eq_true, decide_eq_true_eq] at h1 h2
    have t1 : 0 ≤ crs p q x y := h1.1
    have t2 : 0 ≤ crs x y r s := h1.2
    have t3 : 0 ≤ crs r s x y := h2.2
    have hz : crs x y r s = 0 := by have : crs r s x y = - crs x y r s := by unfold crs; grind
                                    omega
    rcases prim_par hv kv hz with h | ⟨e1, e2⟩
    · exact h
    · exfalso
      have : crs p q x y = - crs p q r s := by rw [e1, e2]; unfold crs; grind
      omega
  simp only [hc, hd, Bool.not_true, cond_false, i1.1, i1.2, i2.1, i2.2, i3.1, i3.2, i4.1, i4.2, hap, hcp, sI, iI, iN1, iN2, iN3, Option.bind_some, Bool.and_true, if_true]
  cases A : inCn ([p, q], [r, s]) [a, b] <;> cases B : inCn ([a, b], [x, y]) [p, q] <;> cases A' : inCn ([p, q], [r, s]) [x, y] <;> cases B' : inCn ([a, b], [x, y]) [r, s]
  all_goals try (have hh := same1 A B; obtain ⟨rfl, rfl⟩ := hh)
  all_goals try (have hh := same2 A' B'; obtain ⟨rfl, rfl⟩ := hh)
  all_goals simp only [hc, hd, cond_true, cond_false, i1.1, i2.1, i5.1, i6.1, A, A', own1, own2, Option.bind_some, Bool.not_true, Bool.not_false, if_true, Bool.false_eq_true, if_false]
  all_goals first
    | exact ⟨trivial, trivial⟩
    | (simp; done)
    | (generalize isCn _ = z; cases z <;> simp)

theorem meet_len {c d : Cn} : (meetR c d).1.1.length ≤ 2 ∧ (meetR c d).1.2.length ≤ 2 := by
  unfold meetR
  split
  · dsimp only
    split
    · rename_i u v _ _
      split
      · rename_i h
        obtain ⟨a, b, x, y, e, _⟩ := isCn_pv h
        obtain ⟨rfl, rfl⟩ := Prod.mk.inj e
        simp
      · simp
    · simp
  · simp

theorem law_MeetCones (x y : Cn) (hx : TyOk ConeTy x) (hy : TyOk ConeTy y) : w_FnExactMeetCones x y = some true := by
  have a1 : x.1.length ≤ lim := hx.1.1
  have a2 : x.2.length ≤ lim := hx.2.1
  have b1 : y.1.length ≤ lim := hy.1.1
  have b2 : y.2.length ≤ lim := hy.2.1
  simp only [w_FnExactMeetCones, szCone_eq (c := (x.1, x.2)) a1 a2 (left := 1048576) (by omega) (by omega), Option.bind_some]
  by_cases h : (1048576 : Int) < (x.1.length + x.2.length : Nat)
  · rw [if_pos h]; rfl
  rw [if_neg h]
  have hd : decide ((1048576 : Int) - (x.1.length + x.2.length : Nat) < 0) = false := by simp; omega
  simp only [hd, cond_false, szCone_eq (c := (y.1, y.2)) b1 b2 (left := 1048576 - (x.1.length + x.2.length : Nat)) (by omega) (by omega), Option.bind_some]
  by_cases h' : (1048576 : Int) - (x.1.length + x.2.length : Nat) < (y.1.length + y.2.length : Nat)
  · rw [if_pos h']; rfl
  rw [if_neg h']
  have f1 : x.1.length ≤ 1048576 := by omega
  have f2 : x.2.length ≤ 1048576 := by omega
  have g1 : y.1.length ≤ 1048576 := by omega
  have g2 : y.2.length ≤ 1048576 := by omega
  have hd2 : decide ((1048576 : Int) - (x.1.length + x.2.length : Nat) - (y.1.length + y.2.length : Nat) < 0) = false := by simp; omega
  obtain ⟨es, ei⟩ := meet_eq (c := (x.1, x.2)) (d := (y.1, y.2)) a1 a2 b1 b2
  have hl := meet_len (c := (x.1, x.2)) (d := (y.1, y.2))
  generalize meetR (x.1, x.2) (y.1, y.2) = r at es ei hl
  obtain ⟨⟨u, v⟩, t⟩ := r
  have h3 : u.length ≤ 2 := hl.1
  have h4 : v.length ≤ 2 := hl.2
  have e1 : decide ((1 : Int) + x.1.length + x.2.length + y.1.length + y.2.length < 0) = false := by simp; omega
  have e2 : decide ((1 : Int) + u.length + v.length < 0) = false := by simp; omega
  simp only [hd2, cond_false, toCone_eq (c := (x.1, x.2)) f1 f2, toCone_eq (c := (y.1, y.2)) g1 g2, Option.bind_some, es, ei, eqCone_eq (c := (u, v)) (lim_of (show u.length ≤ 1048576 by omega)) (lim_of (show v.length ≤ 1048576 by omega)), eqCone_eq (c := (x.1, x.2)) (lim_of f1) (lim_of f2), eqCone_eq (c := (y.1, y.2)) (lim_of g1) (lim_of g2), beq_self_eq_true, Bool.not_true, cond_false,
    markIntS_eq (xs := x.1) (by omega) (k := 1) (by omega) (by omega), markIntS_eq (xs := x.2) (by omega) (k := 1 + x.1.length) (by omega) (by omega), markIntS_eq (xs := y.1) (by omega) (k := 1 + x.1.length + x.2.length) (by omega) (by omega), markIntS_eq (xs := y.2) (by omega) (k := 1 + x.1.length + x.2.length + y.1.length) (by omega) (by omega), e1,
    markIntS_eq (xs := u) (by omega) (k := 1) (by omega) (by omega), markIntS_eq (xs := v) (by omega) (k := 1 + u.length) (by omega) (by omega),
    heldCone_eq (m := u.length) (n := v.length) (by omega) (by omega) (k := 1) (by omega) (by omega), e2, bne_self_eq_false]

end Go.Proofs.Ythjlphknpgglcaa
