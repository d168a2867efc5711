/-
  Halves of a polygon's sides. Plain, no condition.
-/
import Derived.Test.YtggcmdcaajfmaaaPlMs
import Derived.Test.YtggcmdcaajfmaaaPlO
import Derived.Test.YtggcmdcaajfmaaaPlI
import Derived.Test.YtggcmdcaajfmaaaPlY
namespace Go.Proofs.Ytggcmdcaajfmaaa
open Go Go.Proofs.Ytggcmdcaajfmaaa.Eng Hull
set_option linter.unusedVariables false
set_option linter.unusedSimpArgs false

/-! Marks of halves. -/

def cH (h : Hf) : Nat := h.1.length + 1
def fH (m : Int) (h : Hf) : Hf := (ms m h.1.length, m + h.1.length)
def msH (n : Int) (xs : List Hf) : List Hf := mkL fH cH n xs

theorem d_markHalfS_ms {xs : List Hf} (hl : xs.length ≤ 2097152) (ht : totC cH xs ≤ 2097152) {n : Int} (h0 : 0 ≤ n) (h1 : n ≤ 549755813888) :
    d_markHalfS xs n = some (msH n xs, n + totC cH xs) := by
  have := markL_eq (step := d_markHalfS_s) fH cH xs n (fun k m ys x hx hy hyl hm hle => by
    have hk := (List.getElem?_eq_some_iff.1 hx).1
    have hxl := sum_mem (List.mem_map.2 ⟨x, List.mem_of_getElem? hx, rfl⟩ : cH x ∈ xs.map cH)
    have hxl2 : cH x ≤ totC cH xs := hxl
    unfold cH at hxl2 hle
    have hle' : m + ((x.1.length : Int) + 1) ≤ n + totC cH xs := hle
    unfold d_markHalfS_s
    simp only
    rw [show decide ((k : Int) < (ys.length : Int)) = true from by simp; omega, cond_true, inIdx_nat (by omega)]
    simp only [Option.bind_some, Int.toNat_natCast]
    rw [if_pos ⟨by omega, by decide⟩, hy]
    simp only [Option.bind_some]
    have hu : updAt i_d_markIntS (.prod (.list (.int .i64)) (.int .i64)) x 0 m = some ((ms m x.1.length, x.2), m + (x.1.length : Int)) := by
      have := updAt_list i_d_markIntS x.1 m (d_markIntS_ms (xs := x.1) (by omega) (by omega) (by omega))
      have e : updAt i_d_markIntS (.prod (.list (.int .i64)) (.int .i64)) x 0 m = (updAt i_d_markIntS (.list (.int .i64)) x.1 0 m).map fun p => ((p.1, x.2), p.2) := if_pos (show 0 < Ty.wid (.list (.int .i64)) by decide)
      exact e.trans (by rw [show updAt i_d_markIntS (.list (.int .i64)) x.1 0 m = some (ms m x.1.length, m + (x.1.length : Int)) from this]; rfl)
    rw [hu]
    simp only [Option.bind_some]
    rw [inIdx_nat (by rw [List.length_set]; omega)]
    simp only [Option.bind_some]
    rw [List.getElem?_set_self (by omega)]
    simp only [Option.bind_some]
    have hs : setInt (.prod (.list (.int .i64)) (.int .i64)) (ms m x.1.length, x.2) 1 (m + (x.1.length : Int)) = some (ms m x.1.length, m + (x.1.length : Int)) := rfl
    rw [hs]
    simp only [Option.bind_some]
    rw [wrap_id (x := (k : Int) + 1) (by omega) (by omega), wrap_id (x := m + (x.1.length : Int) + 1) (by omega) (by omega), List.set_set]
    have e1 : m + (x.1.length : Int) + 1 = m + (cH x : Nat) := by unfold cH; omega
    rw [e1]
    rfl) (fun m ys hyl => by
    unfold d_markHalfS_s
    simp only
    rw [show decide ((xs.length : Int) < (ys.length : Int)) = false from by simp; omega, cond_false])
  unfold d_markHalfS
  rw [this]
  rfl

/-! The halves. -/

/-- The half at a side. -/
def sideH (P : List Pt) (k : Nat) : Hf := (em ((prm (sbp (at_ P ((k + 1) % P.length)) (at_ P k))).2, -(prm (sbp (at_ P ((k + 1) % P.length)) (at_ P k))).1), dt ((prm (sbp (at_ P ((k + 1) % P.length)) (at_ P k))).2, -(prm (sbp (at_ P ((k + 1) % P.length)) (at_ P k))).1) (at_ P k))

theorem prm_bd {m : Int} {d : Pt} (hd : Bd m d) : Bd m (prm d) := by
  have key : ∀ (x : Int) (g : Nat), -m ≤ x → x ≤ m → -m ≤ x.tdiv g ∧ x.tdiv g ≤ m := fun x g h1 h2 => by
    have h3 : (x.tdiv (g : Int)).natAbs ≤ x.natAbs := by rw [Int.natAbs_tdiv]; exact Nat.div_le_self _ _
    omega
  unfold Bd prm at *
  have a := key d.1 (Int.gcd d.1 d.2) hd.1 hd.2.1
  have b := key d.2 (Int.gcd d.1 d.2) hd.2.2.1 hd.2.2.2
  exact ⟨a.1, a.2, b.1, b.2⟩

theorem outward_eq {P : List Pt} (hB : ∀ q ∈ P, Bd 50 q) (g3 : 3 ≤ P.length) (g12 : P.length ≤ 12) (hp : Pol P) {k : Nat} (hk : k < P.length) : i_outward (P.map em) k = some (sideH P k).1 := by
  have hm : ∀ j, j % P.length < P.length := fun j => Nat.mod_lt _ (by omega)
  have bd : ∀ {j}, j < P.length → Bd 50 (at_ P j) := fun h => hB _ (at_mem h)
  have w1 : IntKind.i64.wrap ((k : Int) + 1) = ((k + 1 : Nat) : Int) := by rw [wrap_small (by omega) (by omega)]; omega
  have m1 := sbp_em (bd (hm (k + 1))) (bd hk)
  have n1 := (edge_ne hp hk).1
  unfold i_outward sideH
  simp only [List.length_map, w1]
  rw [remP (by omega)]
  simp only [Option.bind_some]
  rw [idxP (hm _), idxP hk]
  simp only [Option.bind_some, m1.1]
  generalize sbp (at_ P ((k + 1) % P.length)) (at_ P k) = d at *
  have hg := gcd_pos n1
  have hd := m1.2.2
  unfold Bd at hd
  have hsm : ∀ x ∈ em d, Sm x := fun x hx => by
    simp only [em, List.mem_cons, List.not_mem_nil, or_false] at hx
    unfold Sm
    rcases hx with rfl | rfl <;> omega
  rw [gcdAll_eq (v := em d) (by simp [em, lim_eq]) hsm]
  have hgl : gcdL (em d) = (Int.gcd d.1 d.2 : Int) := gcdL_two _ _
  rw [hgl]
  simp only [Option.bind_some]
  rw [show inIdx (em d).length (1 : Int) = some () from rfl, show inIdx (em d).length (0 : Int) = some () from rfl, show idx (em d) (((1 : Int).toNat : Nat) : Int) = some d.2 from rfl, show idx (em d) (((0 : Int).toNat : Nat) : Int) = some d.1 from rfl]
  simp only [Option.bind_some]
  unfold prm
  generalize Int.gcd d.1 d.2 = g at *
  rw [quo_some (a := d.2) (by omega) ⟨by omega, by omega⟩, wrap_small (x := 0 - d.1) (by omega) (by omega), quo_some (a := 0 - d.1) (by omega) ⟨by omega, by omega⟩]
  simp only [Option.bind_some, em]
  rw [Int.zero_sub, Int.neg_tdiv]

theorem side_spec {P : List Pt} (hB : ∀ q ∈ P, Bd 50 q) (g3 : 3 ≤ P.length) (hp : Pol P) {k : Nat} (hk : k < P.length) :
    Bd 1000 ((prm (sbp (at_ P ((k + 1) % P.length)) (at_ P k))).2, -(prm (sbp (at_ P ((k + 1) % P.length)) (at_ P k))).1) := by
  have hm : ∀ j, j % P.length < P.length := fun j => Nat.mod_lt _ (by omega)
  have := prm_bd (sbp_em (hB _ (at_mem (hm (k + 1)))) (hB _ (at_mem hk))).2.2
  unfold Bd at *
  simp only
  omega

def hvB (P : List Pt) (a : List Hf) (k : Nat) : List Hf ⊕ (List Hf ⊕ (List Hf × Bool)) := if halfB 2 (sideH P k) then .inl (a ++ [sideH P k]) else .inr (.inr ([], false))

theorem hvB_end (P : List Pt) : ∀ (xs : List Nat) (a : List Hf) (b : List Hf), runL (hvB P) (fun a => (.inl a : List Hf ⊕ (List Hf × Bool))) a xs = .inl b → b = a ++ xs.map (sideH P)
  | [], a, b, h => by simp only [runL, Sum.inl.injEq] at h; simp [h]
  | x :: xs, a, b, h => by
    simp only [runL, hvB] at h
    split at h
    · rename_i a' h'
      split at h'
      · simp only [Sum.inl.injEq] at h'
        subst h'
        have := hvB_end P xs _ b h
        simpa using this
      · cases h'
    · rename_i b' h'
      split at h'
      · cases h'
      · simp only [Sum.inr.injEq] at h'
        subst h'
        cases h

theorem hvB_end2 (P : List Pt) : ∀ (xs : List Nat) (a : List Hf) (b : List Hf × Bool), runL (hvB P) (fun a => (.inl a : List Hf ⊕ (List Hf × Bool))) a xs = .inr b → b = ([], false)
  | [], a, b, h => by simp [runL] at h
  | x :: xs, a, b, h => by
    simp only [runL, hvB] at h
    split at h
    · exact hvB_end2 P xs _ b h
    · rename_i b' h'
      split at h'
      · cases h'
      · simp only [Sum.inr.injEq] at h'
        subst h'
        simpa using h.symm

/-- What HalvesOf hands back. -/
def halvesL (p : List (List Int)) : List Hf × Bool :=
  if isPoly p then (match runL (hvB (p.map toP)) (fun a => (.inl a : List Hf ⊕ (List Hf × Bool))) [] (List.range p.length) with
    | .inl a => (a, true)
    | .inr b => b) else ([], false)

theorem halves_fit {p : List (List Int)} : (halvesL p).1.length ≤ 12 ∧ ∀ h ∈ (halvesL p).1, h.1.length = 2 := by
  unfold halvesL
  cases h1 : isPoly p with
  | false => simp
  | true =>
    obtain ⟨P, rfl, hB, g3, g12, hpol⟩ := poly_of h1
    rw [if_pos rfl, map_toP, List.length_map]
    cases h : runL (hvB P) (fun a => (.inl a : List Hf ⊕ (List Hf × Bool))) [] (List.range P.length) with
    | inl a =>
      have := hvB_end P _ _ _ h
      rw [List.nil_append] at this
      subst this
      simp only
      refine ⟨by simp; omega, fun q hq => ?_⟩
      obtain ⟨k, _, rfl⟩ := List.mem_map.1 hq
      rfl
    | inr b =>
      have := hvB_end2 P _ _ _ h
      subst this
      simp

theorem totH_small {xs : List Hf} (hl : xs.length ≤ 12) (hx : ∀ h ∈ xs, h.1.length = 2) : totC cH xs ≤ 36 := by
  have : ∀ (xs : List Hf), (∀ h ∈ xs, h.1.length = 2) → totC cH xs = 3 * xs.length := by
    intro xs
    induction xs with
    | nil => intro _; rfl
    | cons x r ih =>
      intro h
      have := ih fun q hq => h q (List.mem_cons_of_mem _ hq)
      have h0 := h x List.mem_cons_self
      unfold totC cH at *
      simp only [List.map_cons, List.sum_cons, List.length_cons]
      omega
  rw [this xs hx]; omega

end Go.Proofs.Ytggcmdcaajfmaaa
