/-
  Cuts. Plain, no condition.
-/
import Derived.Test.YtednadbkcpcmfaaPlHv
import Derived.Test.YtednadbkcpcmfaaPlTh
import Derived.Test.YtednadbkcpcmfaaPlFi
namespace Go.Proofs.Ytednadbkcpcmfaa
open Go Go.Proofs.Ytednadbkcpcmfaa.Eng
set_option linter.unusedVariables false
set_option linter.unusedSimpArgs false
abbrev Ra : Type := List Int × Int
def ratB (p : Ra) : Bool := inR 1 100000 p.2 && p.1.all (inR (-10000000) 10000000)
theorem i_rational_eq {p : Ra} (hl : p.1.length ≤ lim) : i_rationalOk p = some (ratB p) := by
  unfold i_rationalOk ratB
  rw [within_eq, allWithin_eq hl]
  cases inR 1 100000 p.2 <;> rfl
theorem s_rational_eq {p : Ra} (hl : p.1.length ≤ lim) : s_l6Fine p = some (ratB p) := by
  unfold s_l6Fine ratB
  rw [l1In_eq, l2Small_eq hl (by omega) (by omega)]
  cases inR 1 100000 p.2 <;> rfl
/-- A half that is small, against a rational. -/
theorem half_dot {h : Hf} {p : Ra} (hl : h.1.length = p.1.length) (h3 : h.1.length ≤ 3) (ha : ∀ x ∈ h.1, -20 ≤ x ∧ x ≤ 20) (hb : -201 ≤ h.2 ∧ h.2 ≤ 201) (hp : ratB p = true) :
    i_dot h.1 p.1 = some (dtL h.1 p.1) ∧ s_l2Dot h.1 p.1 = some (dtL h.1 p.1) ∧ IntKind.i64.wrap (h.2 * p.2) = h.2 * p.2 := by
  unfold ratB at hp
  simp only [Bool.and_eq_true, inR_iff, List.all_eq_true] at hp
  obtain ⟨⟨p1, p2⟩, p3⟩ := hp
  have d := dotG_eq hl (by omega) fun q hq => by
    have hq := List.of_mem_zip hq
    have := abs_mul_le (ha _ hq.1).1 (ha _ hq.1).2 (p3 _ hq.2).1 (p3 _ hq.2).2
    omega
  refine ⟨d.1, d.2, ?_⟩
  have := abs_mul_le (a := h.2) (b := p.2) (m := 201) (n := 100000) hb.1 hb.2 (by omega) p2
  exact wrap_small (by omega) (by omega)
def hasRat (r : Rg) (p : Ra) : Bool := regB r && ratB p && ((p.1.length : Int) == r.1) && r.2.all fun h => !decide (dtL h.1 p.1 > h.2 * p.2)
theorem hasRat_eq {r : Rg} {p : Ra} (hl : r.2.length ≤ lim) (hh : ∀ h ∈ r.2, h.1.length ≤ lim) (pl : p.1.length ≤ lim) : s_HasRational r p = some (hasRat r p) ∧ i_HasRational r p = some (hasRat r p) := by
  unfold s_HasRational i_HasRational hasRat
  rw [s_IsRegion_eq (r := (r.1, r.2)) hl hh, i_IsRegion_eq (r := (r.1, r.2)) hl hh, s_rational_eq (p := (p.1, p.2)) pl, i_rational_eq (p := (p.1, p.2)) pl]
  simp only [Option.bind_some]
  cases h1 : regB (r.1, r.2) with
  | false => exact ⟨rfl, rfl⟩
  | true =>
    cases h2 : ratB (p.1, p.2) with
    | false => exact ⟨rfl, rfl⟩
    | true =>
      simp only [Bool.not_true, cond_false, cond_true, Bool.true_and]
      cases h3 : ((p.1.length : Int) == r.1) with
      | false =>
        rw [show ((p.1.length : Int) != r.1) = true from by rw [bne, h3]; rfl]
        exact ⟨rfl, rfl⟩
      | true =>
        rw [show ((p.1.length : Int) != r.1) = false from by rw [bne, h3]; rfl, cond_false, cond_true, Bool.true_and]
        have h1' : regB r = true := h1
        unfold regB at h1'
        simp only [Bool.and_eq_true, decide_eq_true_eq, List.all_eq_true] at h1'
        have key : ∀ h ∈ r.2, _ := fun h hm => by
          have q := halfB_iff.1 (h1'.2 h hm)
          have e := q.len
          have e3 : (p.1.length : Int) = r.1 := by simpa using h3
          exact half_dot (p := p) (h := h) (by omega) q.small q.all ⟨by have := q.b1; omega, by have := q.b2; omega⟩ h2
        have hlt : ∀ {k : Nat}, k < r.2.length → IntKind.i64.wrap ((k : Int) + 1) = (k : Int) + 1 := fun h => wrap_small (by have := h1'.1.2; omega) (by have := h1'.1.2; omega)
        have A := iter_all (step := s_HasRational_s4 r p) r.2 (fun h => !decide (dtL h.1 p.1 > h.2 * p.2)) (fun k x hx => by
          obtain ⟨k1, k2, k3⟩ := key x (List.mem_of_getElem? hx)
          unfold s_HasRational_s4
          rw [show decide ((k : Int) < (r.2.length : Int)) = true from by have := len_lt hx; simp; omega, cond_true, idx_some hx]
          simp only [Option.bind_some, k2, k3, hlt (len_lt hx)]
          cases decide (dtL x.1 p.1 > x.2 * p.2) <;> rfl) (by unfold s_HasRational_s4; simp)
        have B := iter_all (step := i_hasFraction_s2 (r.1, r.2) (p.1, p.2)) r.2 (fun h => !decide (dtL h.1 p.1 > h.2 * p.2)) (fun k x hx => by
          obtain ⟨k1, k2, k3⟩ := key x (List.mem_of_getElem? hx)
          unfold i_hasFraction_s2
          simp only
          rw [show decide ((k : Int) < (r.2.length : Int)) = true from by have := len_lt hx; simp; omega, cond_true, idx_some hx]
          simp only [Option.bind_some, k1, k3, hlt (len_lt hx)]
          cases decide (dtL x.1 p.1 > x.2 * p.2) <;> rfl) (by unfold i_hasFraction_s2; simp)
        unfold i_hasFraction
        rw [A, B]
        cases r.2.all fun h => !decide (dtL h.1 p.1 > h.2 * p.2) <;> exact ⟨rfl, rfl⟩
/-! The cut. -/
theorem tdiv_bd {a b : Int} : (a.tdiv b).natAbs ≤ a.natAbs := by
  rw [Int.natAbs_tdiv]; exact Nat.div_le_self _ _
theorem comb_bd {h k : Hf} {p q : Int} (hc : (combR h k p q).2 = true) : (combR h k p q).1.1.length = h.1.length ∧ h.1.length ≤ 3 ∧ (∀ x ∈ (combR h k p q).1.1, -20 ≤ x ∧ x ≤ 20) ∧ -201 ≤ (combR h k p q).1.2 ∧ (combR h k p q).1.2 ≤ 201 := by
  unfold combR at hc ⊢
  split at hc
  · rename_i h1
    rw [if_pos h1]
    split at hc
    · rename_i h2
      rw [if_pos h2]
      simp only [Bool.and_eq_true] at h1
      have w1 := halfB_iff.1 h1.1.1.1
      have w2 := halfB_iff.1 h1.1.1.2
      have w3 := halfB_iff.1 h2
      have e : (combH h k p q).1.length = h.1.length := by
        have := w2.len
        have := w1.len
        show ((h.1.zip k.1).map _).length = _
        rw [List.length_map, List.length_zip]; omega
      refine ⟨?_, w1.small, fun x hx => ?_, ?_⟩
      · simp only [tight, List.length_map]; exact e
      · simp only [tight, List.mem_map] at hx
        obtain ⟨y, hy, rfl⟩ := hx
        have := w3.all y hy
        have := tdiv_bd (a := y) (b := gcdL (combH h k p q).1)
        omega
      · simp only [tight, flr]
        have b1 := w3.b1
        have b2 := w3.b2
        have := tdiv_bd (a := (combH h k p q).2) (b := gcdL (combH h k p q).1)
        split <;> omega
    · cases hc
  · cases hc
/-- One try. -/
def try1 (x : Ra) (h k : Hf) (a b : Nat) : Option (Hf × Bool) := if (combR h k a b).2 && decide (dtL (combR h k a b).1.1 x.1 > (combR h k a b).1.2 * x.2) then some ((combR h k a b).1, true) else none
def try2 (x : Ra) (h k : Hf) (a : Nat) : Option (Hf × Bool) := (List.range 4).findSome? (try1 x h k a)
def try3 (x : Ra) (h k : Hf) : Option (Hf × Bool) := (List.range 4).findSome? (try2 x h k)
def try4 (x : Ra) (R : List Hf) (i : Nat) : Option (Hf × Bool) := (List.range (R.length - (i + 1))).findSome? fun d => try3 x (R.getD i ([], 0)) (R.getD (i + 1 + d) ([], 0))
def cutL (r : Rg) (x : Ra) : Hf × Bool := if hasRat r x then (match (List.range r.2.length).findSome? (try4 x r.2) with
  | some c => c
  | none => (([], 0), false)) else (([], 0), false)
abbrev z0 : Hf := (([] : List Int), (0 : Int))
theorem cut13 {r : Rg} {x : Ra} {h k : Hf} {i j : Nat} {a : Nat} (hx : ratB x = true) (hi : r.2[i]? = some h) (hj : r.2[j]? = some k) (hl : h.1.length = x.1.length) (h1 : h.1.length ≤ lim) (h2 : k.1.length ≤ lim) :
    iter (s_CutFor_s13 r x (z0, (i : Int)) (z0, (j : Int)) (z0, (a : Int))) (z0, 0) = some (fnG z0 (try2 x h k a)) ∧ iter (i_CutFor_s13 x h k (z0, (a : Int))) (z0, 0) = some (fnG z0 (try2 x h k a)) := by
  have key : ∀ b : Nat, (combR h k a b).2 = true → i_dot (combR h k a b).1.1 x.1 = some (dtL (combR h k a b).1.1 x.1) ∧ s_l2Dot (combR h k a b).1.1 x.1 = some (dtL (combR h k a b).1.1 x.1) ∧ IntKind.i64.wrap ((combR h k a b).1.2 * x.2) = (combR h k a b).1.2 * x.2 := fun b hc => by
    obtain ⟨c1, c2, c3, c4, c5⟩ := comb_bd hc
    exact half_dot (by omega) (by omega) c3 ⟨c4, c5⟩ hx
  constructor
  · exact iter_first 4 (fun b => (z0, (b : Int))) (try1 x h k a) z0 (fun b hb => by
      have e := (combine_eq (h := h) (k := k) h1 h2 (a : Int) (b : Int)).1
      unfold s_CutFor_s13
      simp only
      rw [show decide ((b : Int) ≤ 3) = true from by simp; omega, cond_true, idx_some hi, idx_some hj]
      simp only [Option.bind_some]
      rw [e]
      simp only [Option.bind_some]
      rw [wrap_small (x := (b : Int) + 1) (by omega) (by omega)]
      unfold try1
      cases hc : (combR h k (a : Int) (b : Int)).2 with
      | false => rfl
      | true =>
        obtain ⟨k1, k2, k3⟩ := key b hc
        rw [cond_true, k2, k3]
        simp only [Option.bind_some, Bool.true_and]
        cases decide (dtL (combR h k (a : Int) (b : Int)).1.1 x.1 > (combR h k (a : Int) (b : Int)).1.2 * x.2) <;> rfl) rfl
  · exact iter_first 4 (fun b => (z0, (b : Int))) (try1 x h k a) z0 (fun b hb => by
      have e := (combine_eq (h := (h.1, h.2)) (k := (k.1, k.2)) h1 h2 (a : Int) (b : Int)).2
      unfold i_CutFor_s13
      simp only
      rw [show decide ((b : Int) ≤ 3) = true from by simp; omega, cond_true]
      rw [e]
      simp only [Option.bind_some]
      rw [wrap_small (x := (b : Int) + 1) (by omega) (by omega)]
      unfold try1
      cases hc : (combR h k (a : Int) (b : Int)).2 with
      | false => rfl
      | true =>
        obtain ⟨k1, k2, k3⟩ := key b hc
        have k1' : i_dot (combR (h.1, h.2) (k.1, k.2) (a : Int) (b : Int)).1.1 x.1 = some (dtL (combR h k a b).1.1 x.1) := k1
        have k3' : IntKind.i64.wrap ((combR (h.1, h.2) (k.1, k.2) (a : Int) (b : Int)).1.2 * x.2) = (combR h k a b).1.2 * x.2 := k3
        rw [cond_true, k1', k3']
        simp only [Option.bind_some, Bool.true_and]
        cases decide (dtL (combR h k (a : Int) (b : Int)).1.1 x.1 > (combR h k (a : Int) (b : Int)).1.2 * x.2) <;> rfl) rfl
theorem cut10 {r : Rg} {x : Ra} {h k : Hf} {i j : Nat} (hx : ratB x = true) (hi : r.2[i]? = some h) (hj : r.2[j]? = some k) (hl : h.1.length = x.1.length) (h1 : h.1.length ≤ lim) (h2 : k.1.length ≤ lim) :
    iter (s_CutFor_s10 r x (z0, (i : Int)) (z0, (j : Int))) (z0, 0) = some (fnG z0 (try3 x h k)) ∧ iter (i_CutFor_s10 x h k) (z0, 0) = some (fnG z0 (try3 x h k)) := by
  constructor
  · exact iter_first 4 (fun a => (z0, (a : Int))) (try2 x h k) z0 (fun a ha => by
      unfold s_CutFor_s10
      simp only
      rw [show decide ((a : Int) ≤ 3) = true from by simp; omega, cond_true, (cut13 (a := a) hx hi hj hl h1 h2).1]
      simp only [Option.bind_some]
      rw [wrap_small (x := (a : Int) + 1) (by omega) (by omega)]
      cases try2 x h k a <;> rfl) rfl
  · exact iter_first 4 (fun a => (z0, (a : Int))) (try2 x h k) z0 (fun a ha => by
      unfold i_CutFor_s10
      simp only
      rw [show decide ((a : Int) ≤ 3) = true from by simp; omega, cond_true, (cut13 (r := r) (i := i) (j := j) (a := a) hx hi hj hl h1 h2).2]
      simp only [Option.bind_some]
      rw [wrap_small (x := (a : Int) + 1) (by omega) (by omega)]
      cases try2 x h k a <;> rfl) rfl
theorem cutL_eq {r : Rg} {x : Ra} (hl : r.2.length ≤ lim) (hh : ∀ h ∈ r.2, h.1.length ≤ lim) (pl : x.1.length ≤ lim) : s_CutFor r x = some (cutL r x) ∧ i_CutFor r x = some (cutL r x) := by
  obtain ⟨a1, a2⟩ := hasRat_eq (r := (r.1, r.2)) (p := (x.1, x.2)) hl hh pl
  unfold s_CutFor i_CutFor cutL
  rw [a1, a2]
  simp only [Option.bind_some]
  cases hb : hasRat (r.1, r.2) (x.1, x.2) with
  | false => exact ⟨rfl, rfl⟩
  | true =>
    rw [Bool.not_true, cond_false, cond_false, if_pos rfl]
    have hb' : hasRat r x = true := hb
    unfold hasRat at hb'
    simp only [Bool.and_eq_true] at hb'
    obtain ⟨⟨⟨b1, b2⟩, b3⟩, _⟩ := hb'
    unfold regB at b1
    simp only [Bool.and_eq_true, decide_eq_true_eq, List.all_eq_true] at b1
    have e3 : (x.1.length : Int) = r.1 := by simpa using b3
    have len8 := b1.1.2
    have lenx : ∀ h ∈ r.2, h.1.length = x.1.length := fun h hm => by have := (halfB_iff.1 (b1.2 h hm)).len; omega
    have at_ : ∀ {i : Nat}, i < r.2.length → r.2[i]? = some (r.2.getD i z0) := fun h => by rw [List.getD_eq_getElem?_getD, List.getElem?_eq_getElem h]; rfl
    have mm : ∀ {i : Nat}, i < r.2.length → r.2.getD i z0 ∈ r.2 := fun h => List.mem_of_getElem? (at_ h)
    have S4 := iter_first (step := s_CutFor_s4 r x) r.2.length (fun i => (z0, (i : Int))) (try4 x r.2) z0 (fun i hi => by
      have S7 := iter_first (step := s_CutFor_s7 r x (z0, (i : Int))) (r.2.length - (i + 1)) (fun d => (z0, ((i + 1 + d : Nat) : Int))) (fun d => try3 x (r.2.getD i z0) (r.2.getD (i + 1 + d) z0)) z0 (fun d hd => by
        have hj : i + 1 + d < r.2.length := by omega
        unfold s_CutFor_s7
        simp only
        rw [show decide (((i + 1 + d : Nat) : Int) < (r.2.length : Int)) = true from by simp; omega, cond_true, (cut10 (r := r) b2 (at_ hi) (at_ hj) (lenx _ (mm hi)) (hh _ (mm hi)) (hh _ (mm hj))).1]
        simp only [Option.bind_some]
        rw [wrap_small (x := ((i + 1 + d : Nat) : Int) + 1) (by omega) (by omega)]
        cases try3 x (r.2.getD i z0) (r.2.getD (i + 1 + d) z0) <;> rfl) (by
        unfold s_CutFor_s7
        simp only
        rw [show decide (((i + 1 + (r.2.length - (i + 1)) : Nat) : Int) < (r.2.length : Int)) = false from by simp; omega]
        rfl)
      unfold s_CutFor_s4
      simp only
      rw [show decide ((i : Int) < (r.2.length : Int)) = true from by simp; omega, cond_true, wrap_small (x := (i : Int) + 1) (by omega) (by omega), show (i : Int) + 1 = ((i + 1 + 0 : Nat) : Int) from by omega, S7]
      simp only [Option.bind_some]
      unfold try4
      cases (List.range (r.2.length - (i + 1))).findSome? fun d => try3 x (r.2.getD i z0) (r.2.getD (i + 1 + d) z0) <;> rfl) (by unfold s_CutFor_s4; simp)
    have T4 := iter_first (step := i_CutFor_s4 r x) r.2.length (fun i => (z0, (i : Int))) (try4 x r.2) z0 (fun i hi => by
      have hdl : (r.2.drop (i + 1)).length = r.2.length - (i + 1) := by simp
      have T7 := iter_first (step := i_CutFor_s7 x (r.2.getD i z0) (r.2.drop (i + 1))) (r.2.length - (i + 1)) (fun d => (z0, (d : Int))) (fun d => try3 x (r.2.getD i z0) (r.2.getD (i + 1 + d) z0)) z0 (fun d hd => by
        have hj : i + 1 + d < r.2.length := by omega
        have hg : (r.2.drop (i + 1))[d]? = some (r.2.getD (i + 1 + d) z0) := by rw [List.getElem?_drop]; exact at_ hj
        unfold i_CutFor_s7
        simp only
        rw [hdl, show decide ((d : Int) < ((r.2.length - (i + 1) : Nat) : Int)) = true from by simp; omega, cond_true, idx_some hg]
        simp only [Option.bind_some]
        rw [(cut10 (r := r) b2 (at_ hi) (at_ hj) (lenx _ (mm hi)) (hh _ (mm hi)) (hh _ (mm hj))).2]
        simp only [Option.bind_some]
        rw [wrap_small (x := (d : Int) + 1) (by omega) (by omega)]
        cases try3 x (r.2.getD i z0) (r.2.getD (i + 1 + d) z0) <;> rfl) (by
        unfold i_CutFor_s7
        simp only
        rw [hdl, show decide (((r.2.length - (i + 1) : Nat) : Int) < ((r.2.length - (i + 1) : Nat) : Int)) = false from by simp]
        rfl)
      unfold i_CutFor_s4
      simp only
      rw [show decide ((i : Int) < (r.2.length : Int)) = true from by simp; omega, cond_true, idx_some (at_ hi), wrap_small (x := (i : Int) + 1) (by omega) (by omega)]
      have hsub : subl r.2 ((i : Int) + 1) (r.2.length : Int) = some (r.2.drop (i + 1)) := by
        have := subl_nat (xs := r.2) (a := i + 1) (b := r.2.length) (by omega) (Nat.le_refl _)
        rw [List.take_length] at this
        exact this
      rw [hsub]
      simp only [Option.bind_some]
      have e0 : ((z0.1, z0.2), (0 : Int)) = (z0, ((0 : Nat) : Int)) := rfl
      rw [e0, T7]
      simp only [Option.bind_some]
      unfold try4
      cases (List.range (r.2.length - (i + 1))).findSome? fun d => try3 x (r.2.getD i z0) (r.2.getD (i + 1 + d) z0) <;> rfl) (by unfold i_CutFor_s4; simp)
    have e0 : ((([] : List Int), (0 : Int)), (0 : Int)) = (z0, ((0 : Nat) : Int)) := rfl
    rw [e0, S4, T4]
    simp only [Option.bind_some]
    cases (List.range r.2.length).findSome? (try4 x r.2) <;> exact ⟨rfl, rfl⟩
theorem cutL_fit {r : Rg} {x : Ra} : (cutL r x).1.1.length ≤ 3 := by
  unfold cutL
  split
  · split
    · rename_i c hc
      obtain ⟨i, _, h1⟩ := List.exists_of_findSome?_eq_some hc
      obtain ⟨d, _, h2⟩ := List.exists_of_findSome?_eq_some h1
      obtain ⟨a, _, h3⟩ := List.exists_of_findSome?_eq_some h2
      obtain ⟨b, _, h4⟩ := List.exists_of_findSome?_eq_some h3
      unfold try1 at h4
      split at h4
      · rename_i hb
        obtain rfl := Option.some.inj h4
        simp only [Bool.and_eq_true] at hb
        have := comb_bd hb.1
        simp only
        omega
      · cases h4
    · simp
  · simp
end Go.Proofs.Ytednadbkcpcmfaa
