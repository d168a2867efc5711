/-
  Placed points, lattice points of a polygon; empty triangles. Plain, no condition.
-/
import Derived.Test.YtcpdhjklcongoaaPlX
namespace Go.Proofs.Ytcpdhjklcongoaa
open Go Go.Proofs.Ytcpdhjklcongoaa.Eng
open Hull (Pt tn lx at_ at_some at_mem)
set_option linter.unusedVariables false
set_option linter.unusedSimpArgs false
def fnd {S β : Type} (s : S) : Option β → S ⊕ β
  | some r => .inr r
  | none => .inl s
theorem iter_find {S β : Type} {step : S → Option (S ⊕ β)} (n : Nat) (st : Nat → S) (g : Nat → Option β) (fin : β)
    (hs : ∀ k, k < n → step (st k) = some (fnd (st (k + 1)) (g k))) (he : step (st n) = some (.inr fin)) :
    (iter step (st 0) = some fin ∧ ∀ k, k < n → g k = none) ∨ ∃ k r, k < n ∧ g k = some r ∧ iter step (st 0) = some r := by
  have : ∀ (d k : Nat), k + d = n → (iter step (st k) = some fin ∧ ∀ j, k ≤ j → j < n → g j = none) ∨ ∃ j r, j < n ∧ g j = some r ∧ iter step (st k) = some r := by
    intro d
    induction d with
    | zero =>
      intro k hk
      have : k = n := by omega
      subst this
      exact .inl ⟨iter_end he, fun j h1 h2 => absurd h1 (by omega)⟩
    | succ d ih =>
      intro k hk
      have h := hs k (by omega)
      cases hg : g k with
      | some r =>
        rw [hg] at h
        exact .inr ⟨k, r, by omega, hg, iter_end h⟩
      | none =>
        rw [hg] at h
        rw [iter_next h]
        rcases ih (k + 1) (by omega) with ⟨h1, h2⟩ | h1
        · refine .inl ⟨h1, fun j hj hn => ?_⟩
          rcases Nat.lt_or_ge k j with h3 | h3
          · exact h2 j h3 hn
          · rw [show j = k from by omega]; exact hg
        · exact .inr h1
  rcases this n 0 (by omega) with ⟨h1, h2⟩ | h1
  · exact .inl ⟨h1, fun k hk => h2 k (Nat.zero_le _) hk⟩
  · exact .inr h1
theorem slEqual_eq {xs ys : List Int} (hl : xs.length ≤ lim) : g_slices_Equal xs ys = some (xs == ys) := by
  unfold g_slices_Equal
  rw [cond_ite]
  by_cases h : xs.length = ys.length
  · rw [if_neg (by simp [h]), iter_eqs xs ys (fun a b => a == b) h (fun k x y hx hy => ?_) (by simp [g_slices_Equal_s4])]
    · rw [eqL_beq]
      cases xs == ys <;> rfl
    · have hlt := len_lt hx
      have hd : decide ((k : Int) < (xs.length : Int)) = true := by simp; omega
      simp only [g_slices_Equal_s4, hd, cond_true, idx_some hx, idx_some hy, Option.bind_some, wrap_succ (Nat.le_trans (Nat.le_of_lt hlt) hl)]
      by_cases hxy : x = y
      · simp [hxy]
      · have hb : (x == y) = false := by simp [hxy]
        simp [bne, hb]
  · rw [if_pos (by simp; omega)]
    congr 1
    exact (beq_eq_false_iff_ne.2 fun e => h (by rw [e])).symm
/-! Where a point lies. -/
/-- The turn of a point at one side. -/
def sd (P : List Pt) (q : Pt) (k : Nat) : Int := tn (at_ P k) (at_ P ((k + 1) % P.length)) q
def inP (P : List Pt) (q : Pt) : Prop := ∀ k, k < P.length → 0 ≤ sd P q k
instance (P : List Pt) (q : Pt) : Decidable (inP P q) := by unfold inP; infer_instance
def sideSt (P : List Pt) (q : Pt) (k : Nat) : Int := if (List.range k).any (fun j => sd P q j == 0) then 0 else 1
theorem sideSt_succ (P : List Pt) (q : Pt) (k : Nat) : sideSt P q (k + 1) = if sd P q k = 0 then 0 else sideSt P q k := by
  unfold sideSt
  rw [List.range_succ, List.any_append]
  by_cases h : sd P q k = 0
  · simp [h]
  · rw [if_neg h]
    have : (sd P q k == 0) = false := by simp [h]
    simp [this]
theorem sideSt_nn (P : List Pt) (q : Pt) (k : Nat) : 0 ≤ sideSt P q k := by unfold sideSt; split <;> omega
theorem place_eq {m : Int} (hm : m ≤ 1000000) {P : List Pt} (hB : ∀ q ∈ P, Bd m q) (hl : P.length ≤ 1000) {q : Pt} (hq : Bd m q) : ∃ v, i_placeOf (P.map em) (em q) = some v ∧ s_l7Place (P.map em) (em q) = some v ∧ decide (v ≥ 0) = decide (inP P q) := by
  have stp : ∀ k, k < P.length → i_placeOf_s3 (P.map em) (em q) (sideSt P q k, (k : Int)) = some (fnd (sideSt P q (k + 1), ((k + 1 : Nat) : Int)) (if sd P q k < 0 then some (.inr (-1)) else none : Option (Int ⊕ Int))) ∧
      s_l7Place_s3 (P.map em) (em q) (sideSt P q k, (k : Int)) = some (fnd (sideSt P q (k + 1), ((k + 1 : Nat) : Int)) (if sd P q k < 0 then some (.inr (-1)) else none : Option (Int ⊕ Int))) := fun k hk => by
    have hj : (k + 1) % P.length < P.length := Nat.mod_lt _ (by omega)
    have ht := turn_em hm (hB _ (at_mem hk)) (hB _ (at_mem hj)) hq
    have ht' := l7Turn_em hm (hB _ (at_mem hk)) (hB _ (at_mem hj)) hq
    have hr : remI .i64 (IntKind.i64.wrap ((k : Int) + 1)) ((P.map em).length : Int) = some (((k + 1) % P.length : Nat) : Int) := by
      rw [wrap_small (by omega) (by omega), List.length_map]
      exact remP (j := k + 1) (by omega)
    have hd : decide ((k : Int) < ((P.map em).length : Int)) = true := by simp; omega
    unfold i_placeOf_s3 s_l7Place_s3
    simp only [hd, cond_true, idxP hk, Option.bind_some, hr, idxP hj, ht, ht', sideSt_succ]
    rw [wrap_small (by omega) (by omega)]
    show cond (decide (sd P q k < 0)) _ _ = _ ∧ cond (decide (sd P q k < 0)) _ _ = _
    by_cases h : sd P q k < 0
    · rw [if_pos h, decide_eq_true h]; exact ⟨rfl, rfl⟩
    · rw [if_neg h, decide_eq_false h]
      by_cases h0 : sd P q k = 0
      · rw [if_pos h0]
        have : (tn (at_ P k) (at_ P ((k + 1) % P.length)) q == 0) = true := by simpa [sd] using h0
        rw [this]
        exact ⟨rfl, rfl⟩
      · rw [if_neg h0]
        have : (tn (at_ P k) (at_ P ((k + 1) % P.length)) q == 0) = false := by simpa [sd] using h0
        rw [this]
        exact ⟨rfl, rfl⟩
  have e0 : ((1, 0) : Int × Int) = (sideSt P q 0, ((0 : Nat) : Int)) := rfl
  have A := iter_find (step := i_placeOf_s3 (P.map em) (em q)) P.length (fun k => (sideSt P q k, (k : Int))) (fun k => if sd P q k < 0 then some (.inr (-1)) else none) (.inl (sideSt P q P.length)) (fun k hk => (stp k hk).1) (by
    unfold i_placeOf_s3; simp)
  have B := iter_find (step := s_l7Place_s3 (P.map em) (em q)) P.length (fun k => (sideSt P q k, (k : Int))) (fun k => if sd P q k < 0 then some (.inr (-1)) else none) (.inl (sideSt P q P.length)) (fun k hk => (stp k hk).2) (by
    unfold s_l7Place_s3; simp)
  simp only [← e0] at A B
  unfold i_placeOf s_l7Place
  rcases A with ⟨a1, a2⟩ | ⟨k, r, a1, a2, a3⟩
  · have hin : inP P q := fun k hk => by
      have := a2 k hk
      split at this
      · cases this
      · omega
    rcases B with ⟨b1, b2⟩ | ⟨k, r, b1, b2, b3⟩
    · rw [a1, b1]
      exact ⟨_, rfl, rfl, by rw [decide_eq_true hin, decide_eq_true (sideSt_nn _ _ _)]⟩
    · have := a2 k b1; rw [this] at b2; cases b2
  · have hno : ¬ inP P q := fun h => by
      have := h k a1
      rw [if_neg (by omega)] at a2; cases a2
    have hr : r = .inr (-1) := by
      split at a2
      · exact (Option.some.inj a2).symm
      · cases a2
    rcases B with ⟨b1, b2⟩ | ⟨k', r', b1, b2, b3⟩
    · have := b2 k a1; rw [this] at a2; cases a2
    · have hr' : r' = .inr (-1) := by
        split at b2
        · exact (Option.some.inj b2).symm
        · cases b2
      subst hr hr'
      rw [a3, b3]
      exact ⟨-1, rfl, rfl, by rw [decide_eq_false hno]; rfl⟩
/-! Boxes. -/
def lo (f : Pt → Int) (P : List Pt) : Int := P.foldl (fun m q => mn m (f q)) (f (at_ P 0))
def hi (f : Pt → Int) (P : List Pt) : Int := P.foldl (fun m q => mx m (f q)) (f (at_ P 0))
theorem fold_mn_spec (f : Pt → Int) : (l : List Pt) → (d : Int) → l.foldl (fun m q => mn m (f q)) d ≤ d ∧ (∀ q ∈ l, l.foldl (fun m q => mn m (f q)) d ≤ f q) ∧ (l.foldl (fun m q => mn m (f q)) d = d ∨ ∃ q ∈ l, l.foldl (fun m q => mn m (f q)) d = f q)
  | [], d => ⟨Int.le_refl _, by simp, .inl rfl⟩
  | q :: l, d => by
    obtain ⟨h1, h2, h3⟩ := fold_mn_spec f l (mn d (f q))
    have hm : mn d (f q) ≤ d ∧ mn d (f q) ≤ f q ∧ (mn d (f q) = d ∨ mn d (f q) = f q) := by unfold mn; split <;> omega
    simp only [List.foldl_cons]
    refine ⟨by omega, fun y hy => ?_, ?_⟩
    · rcases List.mem_cons.1 hy with rfl | hy
      · omega
      · exact h2 y hy
    · rcases h3 with h3 | ⟨y, hy, h3⟩
      · rcases hm.2.2 with h4 | h4
        · left; omega
        · right; exact ⟨q, by simp, by omega⟩
      · exact .inr ⟨y, List.mem_cons_of_mem _ hy, h3⟩
theorem fold_mx_spec (f : Pt → Int) : (l : List Pt) → (d : Int) → d ≤ l.foldl (fun m q => mx m (f q)) d ∧ (∀ q ∈ l, f q ≤ l.foldl (fun m q => mx m (f q)) d) ∧ (l.foldl (fun m q => mx m (f q)) d = d ∨ ∃ q ∈ l, l.foldl (fun m q => mx m (f q)) d = f q)
  | [], d => ⟨Int.le_refl _, by simp, .inl rfl⟩
  | q :: l, d => by
    obtain ⟨h1, h2, h3⟩ := fold_mx_spec f l (mx d (f q))
    have hm : d ≤ mx d (f q) ∧ f q ≤ mx d (f q) ∧ (mx d (f q) = d ∨ mx d (f q) = f q) := by unfold mx; split <;> omega
    simp only [List.foldl_cons]
    refine ⟨by omega, fun y hy => ?_, ?_⟩
    · rcases List.mem_cons.1 hy with rfl | hy
      · omega
      · exact h2 y hy
    · rcases h3 with h3 | ⟨y, hy, h3⟩
      · rcases hm.2.2 with h4 | h4
        · left; omega
        · right; exact ⟨q, by simp, by omega⟩
      · exact .inr ⟨y, List.mem_cons_of_mem _ hy, h3⟩
theorem lo_spec (f : Pt → Int) {P : List Pt} (hP : 0 < P.length) : (∀ q ∈ P, lo f P ≤ f q) ∧ ∃ q ∈ P, lo f P = f q := by
  obtain ⟨h1, h2, h3⟩ := fold_mn_spec f P (f (at_ P 0))
  refine ⟨h2, ?_⟩
  rcases h3 with h3 | h3
  · exact ⟨_, at_mem hP, h3⟩
  · exact h3
theorem hi_spec (f : Pt → Int) {P : List Pt} (hP : 0 < P.length) : (∀ q ∈ P, f q ≤ hi f P) ∧ ∃ q ∈ P, hi f P = f q := by
  obtain ⟨h1, h2, h3⟩ := fold_mx_spec f P (f (at_ P 0))
  refine ⟨h2, ?_⟩
  rcases h3 with h3 | h3
  · exact ⟨_, at_mem hP, h3⟩
  · exact h3
theorem lo_same (f : Pt → Int) {P Q : List Pt} (hP : 0 < P.length) (hQ : 0 < Q.length) (h : ∀ q, q ∈ P ↔ q ∈ Q) : lo f P = lo f Q := by
  obtain ⟨a1, q, a2, a3⟩ := lo_spec f hP
  obtain ⟨b1, r, b2, b3⟩ := lo_spec f hQ
  have := a1 r ((h r).2 b2)
  have := b1 q ((h q).1 a2)
  omega
theorem hi_same (f : Pt → Int) {P Q : List Pt} (hP : 0 < P.length) (hQ : 0 < Q.length) (h : ∀ q, q ∈ P ↔ q ∈ Q) : hi f P = hi f Q := by
  obtain ⟨a1, q, a2, a3⟩ := hi_spec f hP
  obtain ⟨b1, r, b2, b3⟩ := hi_spec f hQ
  have := a1 r ((h r).2 b2)
  have := b1 q ((h q).1 a2)
  omega
/-- The whole points of the box of a list of points. -/
def box (P : List Pt) : List (Int × Int) := [(lo (·.1) P, hi (·.1) P), (lo (·.2) P, hi (·.2) P)]
theorem box_same {P Q : List Pt} (hP : 0 < P.length) (hQ : 0 < Q.length) (h : ∀ q, q ∈ P ↔ q ∈ Q) : box P = box Q := by
  unfold box
  rw [lo_same _ hP hQ h, hi_same _ hP hQ h, lo_same _ hP hQ h, hi_same _ hP hQ h]
theorem box_bd {P : List Pt} (hB : ∀ q ∈ P, Bd 50 q) (hP : 0 < P.length) : ∀ f : Pt → Int, (∀ q, Bd 50 q → -50 ≤ f q ∧ f q ≤ 50) → -50 ≤ lo f P ∧ lo f P ≤ hi f P ∧ hi f P ≤ 50 := fun f hf => by
  obtain ⟨a1, q, a2, a3⟩ := lo_spec f hP
  obtain ⟨b1, r, b2, b3⟩ := hi_spec f hP
  have := hf q (hB q a2)
  have := hf r (hB r b2)
  have := b1 q a2
  omega
def row (x : Int) (a b : Int) : List (List Int) := (rng a b).map fun y => [x, y]
theorem latt2 (a b c d : Int) : latt [(a, b), (c, d)] [[]] = (rng a b).flatMap fun x => row x c d := by
  simp [latt, ext, row, List.flatMap_map]
theorem latt2_mem {a b c d : Int} {v : List Int} : v ∈ latt [(a, b), (c, d)] [[]] ↔ ∃ q : Pt, v = em q ∧ a ≤ q.1 ∧ q.1 ≤ b ∧ c ≤ q.2 ∧ q.2 ≤ d := by
  rw [latt2, List.mem_flatMap]
  constructor
  · rintro ⟨x, hx, hv⟩
    obtain ⟨y, hy, rfl⟩ := List.mem_map.1 hv
    rw [rng_mem] at hx hy
    exact ⟨(x, y), rfl, hx.1, hx.2, hy.1, hy.2⟩
  · rintro ⟨q, rfl, h1, h2, h3, h4⟩
    exact ⟨q.1, rng_mem.2 ⟨h1, h2⟩, List.mem_map.2 ⟨q.2, rng_mem.2 ⟨h3, h4⟩, rfl⟩⟩
/-- The whole points of a polygon in order. -/
def ptsP (P : List Pt) : List (List Int) := (latt (box P) [[]]).filter fun v => decide (inP P (toP v))
theorem latt_box {P : List Pt} (hB : ∀ q ∈ P, Bd 50 q) (hP : 0 < P.length) : ∀ v ∈ latt (box P) [[]], ∃ q : Pt, v = em q ∧ Bd 50 q := fun v hv => by
  obtain ⟨q, e, h1, h2, h3, h4⟩ := latt2_mem.1 hv
  have := box_bd hB hP (·.1) fun q h => ⟨h.1, h.2.1⟩
  have := box_bd hB hP (·.2) fun q h => ⟨h.2.2.1, h.2.2.2⟩
  refine ⟨q, e, ?_⟩
  unfold Bd
  omega
theorem latt_box_len {P : List Pt} (hB : ∀ q ∈ P, Bd 50 q) (hP : 0 < P.length) : (latt (box P) [[]]).length ≤ 40000 := by
  have h1 := box_bd hB hP (·.1) fun q h => ⟨h.1, h.2.1⟩
  have h2 := box_bd hB hP (·.2) fun q h => ⟨h.2.2.1, h.2.2.2⟩
  have := (latt_facts (box P) (by
    intro p hp
    simp only [box, List.mem_cons, List.not_mem_nil, or_false] at hp
    rcases hp with rfl | rfl
    · show -1000 ≤ lo _ P ∧ hi _ P ≤ 1000 ∧ lo _ P ≤ hi _ P + 1 ∧ hi _ P - lo _ P ≤ 199
      omega
    · show -1000 ≤ lo _ P ∧ hi _ P ≤ 1000 ∧ lo _ P ≤ hi _ P + 1 ∧ hi _ P - lo _ P ≤ 199
      omega) 2 (by simp [box])).2
  simpa [box] using this
theorem lattice_box {P : List Pt} (hB : ∀ q ∈ P, Bd 50 q) (hP : 0 < P.length) : i_lattice [lo (·.1) P, lo (·.2) P] [hi (·.1) P, hi (·.2) P] = some (latt (box P) [[]]) := by
  have h1 := box_bd hB hP (·.1) fun q h => ⟨h.1, h.2.1⟩
  have h2 := box_bd hB hP (·.2) fun q h => ⟨h.2.2.1, h.2.2.2⟩
  exact lattice_eq (box P) (by
    intro p hp
    simp only [box, List.mem_cons, List.not_mem_nil, or_false] at hp
    rcases hp with rfl | rfl
    · show -1000 ≤ lo _ P ∧ hi _ P ≤ 1000 ∧ lo _ P ≤ hi _ P + 1 ∧ hi _ P - lo _ P ≤ 199
      omega
    · show -1000 ≤ lo _ P ∧ hi _ P ≤ 1000 ∧ lo _ P ≤ hi _ P + 1 ∧ hi _ P - lo _ P ≤ 199
      omega) (by simp [box])
end Go.Proofs.Ytcpdhjklcongoaa
