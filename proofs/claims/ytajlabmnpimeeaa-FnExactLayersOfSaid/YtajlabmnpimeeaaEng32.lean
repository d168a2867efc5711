/-
  The engine, part 32. Regions whose order is drawn: every order. No condition.
-/
import Derived.Test.YtajlabmnpimeeaaEng31
namespace Go.Proofs.Ytajlabmnpimeeaa.Eng
open Go
set_option linter.unusedVariables false
set_option linter.unusedSimpArgs false

/-- How many are not listed. -/
def unl (n : Nat) (listed : Array Bool) : List Nat := (List.range n).filter fun j => !listed.getD j true

theorem unl_set {n : Nat} {listed : Array Bool} {i : Nat} (hs : listed.size = n) (hi : i ∈ unl n listed) : (unl n (listed.setIfInBounds i true)).length + 1 = (unl n listed).length := by
  have hlt : i < n := by
    unfold unl at hi; simpa using (List.mem_filter.1 hi).1
  have e : unl n (listed.setIfInBounds i true) = (unl n listed).erase i := by
    have hn : (unl n listed).Nodup := List.nodup_range.filter _
    rw [hn.erase_eq_filter]
    unfold unl
    rw [List.filter_filter]
    refine List.filter_congr fun j hj => ?_
    rw [List.mem_range] at hj
    by_cases hji : i = j
    · subst hji
      simp [Array.getD_eq_getD_getElem?, hs, hlt]
    · simp [Array.getD_eq_getD_getElem?, Array.getElem?_setIfInBounds_ne hji, Ne.symm hji]
  rw [e, List.length_erase_of_mem hi]
  have : 0 < (unl n listed).length := List.length_pos_of_mem hi
  omega

section
variable {ρ : Type} {C : Ctx} {E : En} {σ0 : Sg} {ops : Array Oper} {th ds : List Nat} {base k N : Nat} {es : List Ent}

theorem ready_mem {listed : Array Bool} {i : Nat} : i ∈ Region.ready .any ops listed ↔ i < ops.size ∧ listed.getD i true = false ∧ ∃ o, ops[i]? = some o ∧ ∀ e ∈ o.after.toList, Region.binds .any e = true → listed.getD e.on false = true := by
  unfold Region.ready
  simp only [List.mem_filter, List.mem_range, Bool.and_eq_true, Bool.not_eq_true']
  constructor
  · rintro ⟨h1, h2, h3⟩
    cases ho : ops[i]? with
    | none => rw [ho] at h3; simp at h3
    | some o =>
      rw [ho] at h3
      simp only [Option.map_some, Option.getD_some] at h3
      refine ⟨h1, h2, o, rfl, fun e he hb => ?_⟩
      rw [← Array.all_toList] at h3
      have := List.all_eq_true.1 h3 e he
      rw [hb] at this; simpa using this
  · rintro ⟨h1, h2, o, ho, h3⟩
    refine ⟨h1, h2, ?_⟩
    rw [ho]
    simp only [Option.map_some, Option.getD_some]
    rw [← Array.all_toList]
    refine List.all_eq_true.2 fun e he => ?_
    cases hb : Region.binds .any e with
    | false => simp
    | true => simp [h3 e he hb]

theorem getD_listed {listed : Array Bool} {j : Nat} (hs : j < listed.size) (b b' : Bool) : listed.getD j b = listed.getD j b' := by
  simp [Array.getD_eq_getD_getElem?, hs]

/-- The least that is not listed comes next. -/
theorem ready_least {listed : Array Bool} (hs : listed.size = ops.size) (hafter : ∀ (i : Nat) (o : Oper), ops[i]? = some o → ∀ e ∈ o.after.toList, Region.binds .any e = true → e.on < i) (h : ∃ j, j < ops.size ∧ listed.getD j true = false) : Region.ready .any ops listed ≠ [] := by
  classical
  obtain ⟨j, hj, hl⟩ := h
  have : ∃ i, i < ops.size ∧ listed.getD i true = false ∧ ∀ i' < i, listed.getD i' true = true := by
    induction j using Nat.strongRecOn with
    | ind j ih =>
      by_cases hx : ∃ i' < j, listed.getD i' true = false
      · obtain ⟨i', h1, h2⟩ := hx
        exact ih i' h1 (by omega) h2
      · refine ⟨j, hj, hl, fun i' hi' => ?_⟩
        cases hg : listed.getD i' true with
        | true => rfl
        | false => exact absurd ⟨i', hi', hg⟩ hx
  obtain ⟨i, h1, h2, h3⟩ := this
  have hm : i ∈ Region.ready .any ops listed := by
    refine ready_mem.2 ⟨h1, h2, ops[i], by simp [h1], fun e he hb => ?_⟩
    have h4 := hafter i _ (by simp [h1]) e he hb
    rw [getD_listed (b' := true) (by omega)]
    exact h3 _ h4
  intro hc; rw [hc] at hm; simp at hm

/-- The forced tail. -/
theorem any_tail {Q : Exit → Act → World → Prop} (hafter : ∀ (i : Nat) (o : Oper), ops[i]? = some o → ∀ e ∈ o.after.toList, Region.binds .any e = true → e.on < i) {m : Nat} (htail : ∀ (n : Nat) (o : Oper), m ≤ n → ops[n]? = some o → ∀ L : Nat → Prop, (∀ x o', L x → ops[x]? = some o' → ∀ d ∈ o'.after.toList, Region.binds .any d = true → L d.on) → (∀ d ∈ o.after.toList, Region.binds .any d = true → L d.on) → ∀ j < n, L j) :
    ∀ (d n fuel : Nat) (listed : Array Bool) (a : Act) (w : World), ops.size - n = d → m ≤ n → n ≤ ops.size → d ≤ fuel → listed.size = ops.size → (∀ j, j < ops.size → (listed.getD j true = true ↔ j < n)) →
      wpOps C.P ops Q (List.range' n d) a w → wpAny C.P .any ops Q fuel listed a w := by
  intro d
  induction d with
  | zero =>
    intro n fuel listed a w hd hm hn hf hs hl h
    have hr : Region.ready .any ops listed = [] := by
      cases hr : Region.ready .any ops listed with
      | nil => rfl
      | cons i r =>
        have : i ∈ Region.ready .any ops listed := by rw [hr]; simp
        obtain ⟨h1, h2, _⟩ := ready_mem.1 this
        rw [(hl i h1).2 (by omega)] at h2; simp at h2
    simp only [List.range'_zero, wpOps] at h
    cases fuel with
    | zero => exact ⟨hr, h⟩
    | succ fuel => exact ⟨fun _ => h, by rw [hr]; intro i hi; simp at hi⟩
  | succ d ih =>
    intro n fuel listed a w hd hm hn hf hs hl h
    cases fuel with
    | zero => omega
    | succ fuel =>
      have hnl : n < ops.size := by omega
      refine ⟨fun hr => absurd hr (ready_least hs hafter ⟨n, hnl, ?_⟩), fun i hi => ?_⟩
      · cases hg : listed.getD n true with
        | false => rfl
        | true => have := (hl n hnl).1 hg; omega
      · obtain ⟨h1, h2, o, ho, h3⟩ := ready_mem.1 hi
        have hni : n ≤ i := by
          rcases Nat.lt_or_ge i n with hlt | hge
          · rw [(hl i h1).2 hlt] at h2; simp at h2
          · exact hge
        have hin : i = n := by
          rcases Nat.lt_or_ge n i with hlt | hge
          · have := htail i o (by omega) ho (fun j => j < n) (fun x o' hx ho' d hd hb => by have := hafter x o' ho' d hd hb; omega) (fun d hd hb => by
              have h4 := h3 d hd hb
              have h5 := hafter i o ho d hd hb
              rw [getD_listed (b' := true) (by omega)] at h4
              exact (hl d.on (by omega)).1 h4) n hlt
            omega
          · omega
        subst hin
        rw [List.range'_succ, wpOps_cons] at h
        refine wpOp_mono (fun a w hw => ?_) h
        refine ih (i + 1) fuel _ a w (by omega) (by omega) (by omega) (by omega) (by simp [hs]) (fun j hj => ?_) hw
        by_cases hji : i = j
        · subst hji
          simp [Array.getD_eq_getD_getElem?, hs, hnl]
        · have : (listed.setIfInBounds i true).getD j true = listed.getD j true := by simp [Array.getD_eq_getD_getElem?, Array.getElem?_setIfInBounds_ne hji]
          rw [this, hl j hj]
          omega

/-- The operations ahead of the tail. -/
theorem any_prefix (hC : Ctrs C) (hFF : ∀ (i : Nat) (o : Oper), ops[i]? = some o → ∀ t, o.dst = some t → ¬ E.F t) (hk : 0 < k) {Q : Exit → Act → World → Prop} (hafter : ∀ (i : Nat) (o : Oper), ops[i]? = some o → ∀ e ∈ o.after.toList, Region.binds .any e = true → e.on < i) {m : Nat} (hm : m ≤ ops.size) (htail : ∀ (n : Nat) (o : Oper), m ≤ n → ops[n]? = some o → ∀ L : Nat → Prop, (∀ x o', L x → ops[x]? = some o' → ∀ d ∈ o'.after.toList, Region.binds .any d = true → L d.on) → (∀ d ∈ o.after.toList, Region.binds .any d = true → L d.on) → ∀ j < n, L j)
    {ancL : List Nat} {used : List Nat} {σf : Sg} (hP : PI C ops th ds m base k N σ0 ancL used es σf) (hlen : es.length = m) (hN : σ0.hp.length = N)
    (h0E : ∀ (t : Nat) (x : A), σ0.env[t]? = some x → ∀ id ∈ x.refs, id < base) (h0O : ∀ id x, σ0.ob id = some x → id < base ∧ ∀ j ∈ x.refs, j < base)
    {I0 : Nat → Prop} {G0 : Gh} {w0 : World} (hQ : ∀ σ a w G, RelG E G σ a w → StS base k ds es (· < m) σ0 σ → Keep I0 (Imm E G σ w) base base G0 G w0 w → wpOps C.P ops Q (List.range' m (ops.size - m)) a w) :
    ∀ (fuel : Nat) (listed : Array Bool) (S : Nat → Prop) (σ : Sg) (a : Act) (w : World) (G : Gh), (unl ops.size listed).length ≤ fuel → listed.size = ops.size → (∀ j, j < ops.size → (listed.getD j true = true ↔ S j)) → (∀ j, S j → j < m) →
      (∀ e ∈ es, S e.i → ∀ j ∈ e.an, S j) → RelG E G σ a w → StS base k ds es S σ0 σ → Keep I0 (Imm E G σ w) base base G0 G w0 w → wpAny C.P .any ops Q fuel listed a w := by
  classical
  intro fuel
  induction fuel with
  | zero =>
    intro listed S σ a w G hf hs hl hSm cl h hSt hKp
    have hall : ∀ j, j < ops.size → S j := fun j hj => by
      rw [← hl j hj]
      cases hg : listed.getD j true with
      | true => rfl
      | false =>
        have : j ∈ unl ops.size listed := List.mem_filter.2 ⟨List.mem_range.2 hj, by rw [hg]; rfl⟩
        have := List.length_pos_of_mem this
        omega
    have hme : m = ops.size := Nat.le_antisymm hm (by
      rcases Nat.lt_or_ge m ops.size with hlt | hge
      · have := hSm m (hall m hlt); omega
      · exact hge)
    have hSS : S = fun i => i < m := funext fun i => propext ⟨hSm i, fun hi => hall i (by omega)⟩
    subst hSS
    exact any_tail (m := m) hafter htail (ops.size - m) m 0 listed a w rfl (Nat.le_refl _) hm (by omega) hs hl (hQ σ a w G h hSt hKp)
  | succ fuel ih =>
    intro listed S σ a w G hf hs hl hSm cl h hSt hKp
    by_cases hall : ∀ j, j < m → S j
    · have hSS : S = fun i => i < m := funext fun i => propext ⟨hSm i, hall i⟩
      subst hSS
      refine any_tail (m := m) hafter htail (ops.size - m) m (fuel + 1) listed a w rfl (Nat.le_refl _) hm ?_ hs hl (hQ σ a w G h hSt hKp)
      have hsub : List.range' m (ops.size - m) ⊆ unl ops.size listed := fun j hj => by
        rw [List.mem_range'_1] at hj
        refine List.mem_filter.2 ⟨List.mem_range.2 (by omega), ?_⟩
        cases hg : listed.getD j true with
        | false => rfl
        | true => have := (hl j (by omega)).1 hg; omega
      have := (List.nodup_range' (s := m) (n := ops.size - m) (step := 1)).length_le_of_subset hsub
      simp at this
      omega
    · have hex : ∃ j, j < m ∧ ¬ S j := Classical.byContradiction fun hc => hall fun j hj => Classical.byContradiction fun hn => hc ⟨j, hj, hn⟩
      obtain ⟨j0, hj0, hn0⟩ := hex
      have hj0l : listed.getD j0 true = false := by
        cases hg : listed.getD j0 true with
        | false => rfl
        | true => exact absurd ((hl j0 (by omega)).1 hg) hn0
      refine ⟨fun hr => absurd hr (ready_least hs hafter ⟨j0, by omega, hj0l⟩), fun i hi => ?_⟩
      obtain ⟨h1, h2, o, ho, h3⟩ := ready_mem.1 hi
      have hnS : ¬ S i := fun hc => by rw [(hl i h1).2 hc] at h2; simp at h2
      have him : i < m := by
        rcases Nat.lt_or_ge i m with hlt | hge
        · exact hlt
        · have := htail i o hge ho S (fun x o' hx ho' d hd hb => by
            have hxm := hSm x hx
            have hlt : x < es.length := by omega
            have he := List.getElem_mem hlt
            have hei := hP.idx x _ (List.getElem?_eq_getElem hlt)
            obtain ⟨o2, k1, _, _, k5, _⟩ := hP.opd _ he
            rw [hei, ho'] at k1
            obtain rfl := Option.some.inj k1
            exact cl _ he (by rw [hei]; exact hx) _ (k5 d hd hb)) (fun d hd hb => by
              have h4 := h3 d hd hb
              have h5 := hafter i o ho d hd hb
              rw [getD_listed (b' := true) (by omega)] at h4
              exact (hl d.on (by omega)).1 h4) j0 (by omega)
          exact absurd this hn0
      have hlt : i < es.length := by omega
      have he := List.getElem_mem hlt
      have hei := hP.idx i _ (List.getElem?_eq_getElem hlt)
      generalize es[i] = e at he hei
      subst hei
      obtain ⟨o', k1, k2, k3, k5, k4⟩ := hP.opd e he
      have hpre : ∀ j ∈ e.an, S j := fun j hj => by
        obtain ⟨d, hd, hb, hx⟩ := k4 j hj
        rw [ho] at k1
        obtain rfl := Option.some.inj k1
        have h4 := hafter _ _ ho d hd hb
        have h5 := h3 d hd hb
        rw [getD_listed (b' := true) (by omega)] at h5
        have h6 := (hl d.on (by omega)).1 h5
        rcases hx with hx | ⟨e', he', h7, h8⟩
        · rw [← hx]; exact h6
        · exact cl e' he' (by rw [h7]; exact h6) j h8
      refine any_step (m := m) hC hk h hSt hP.E hN cl he hnS hpre k1 k2 (hFF _ _ k1) (fun e' he' hs' => ⟨hSm _ hs', by obtain ⟨o2, q1, q2, _, q5, _⟩ := hP.opd e' he'; exact ⟨o2, q1, q2, q5⟩⟩) h0E h0O k3 _ Q fun σ' a' w' G' r1 r2 r3 => ?_
      have hcnt := unl_set hs (i := e.i) (List.mem_filter.2 ⟨List.mem_range.2 h1, by rw [h2]; rfl⟩)
      refine ih (listed.setIfInBounds e.i true) (fun j => S j ∨ j = e.i) σ' a' w' G' (by omega) (by simp [hs]) (fun j hj => ?_) (fun j hj => hj.elim (hSm j) fun hj => by omega) (fun e' he' hs' j hj => ?_) r1 r2 ⟨fun b hb => r3.imm b (hKp.imm b hb), fun b hb => (r3.heap b (hKp.imm b hb)).trans (hKp.heap b hb), Nat.le_refl _, fun id hi => (r3.g id hi).trans (hKp.g id hi)⟩
      · by_cases hji : e.i = j
        · subst hji
          simp [Array.getD_eq_getD_getElem?, hs, h1]
        · have : (listed.setIfInBounds e.i true).getD j true = listed.getD j true := by simp [Array.getD_eq_getD_getElem?, Array.getElem?_setIfInBounds_ne hji]
          rw [this, hl j hj]
          exact ⟨fun h => .inl h, fun h => h.resolve_right fun hc => hji hc.symm⟩
      · rcases hs' with hs' | hs'
        · exact .inl (cl e' he' hs' j hj)
        · have : e' = e := hP.E.uniq e' he' e he hs'
          subst this
          exact .inl (hpre j hj)

/-- States that say the same. -/
theorem RelG.same {G : Gh} {σ σ' : Sg} {a : Act} {w : World} (h : RelG E G σ a w) (hl : σ'.env.length = σ.env.length) (hn : σ'.hp.length = σ.hp.length) (hob : ∀ id, σ'.ob id = σ.ob id)
    (henv : ∀ (t : Nat) (x y : A), σ.env[t]? = some x → σ'.env[t]? = some y → Eqv x y ∨ y = .l .unk) : RelG E G σ' a w := by
  have himm : Imm E G σ w = Imm E G σ' w := funext fun b => propext ⟨fun hb => ⟨hb.1, hb.2.1, fun id o ho => hb.2.2 id o (by rw [← hob]; exact ho)⟩, fun hb => ⟨hb.1, hb.2.1, fun id o ho => hb.2.2 id o (by rw [hob]; exact ho)⟩⟩
  refine
  { h with
    len := h.len.trans hl.symm
    env := fun t y hy => ?_
    obs := fun id o ho => ?_
    nodup := fun id o ho => h.nodup id o (by rw [← hob]; exact ho)
    range := fun id o ho => h.range id o (by rw [← hob]; exact ho)
    hrange := fun id o ho => h.hrange id o (by rw [← hob]; exact ho)
    disj := fun id id' o o' ho hr ho' => h.disj id id' o o' (by rw [← hob]; exact ho) hr (by rw [← hob]; exact ho') }
  · rw [← himm, hn]
    have hlt : t < σ.env.length := by rw [← hl]; exact (List.getElem?_eq_some_iff.1 hy).1
    have hx : σ.env[t]? = some σ.env[t] := List.getElem?_eq_getElem hlt
    rcases henv t _ y hx hy with hq | rfl
    · exact (hq.1 _ _ _ _ _).1 (h.env t _ hx)
    · trivial
  · rw [← himm, hn]
    exact h.obs id o (by rw [← hob]; exact ho)

theorem StS.agree {σ σ' : Sg} {S : Nat → Prop} (h : StS base k ds es S σ0 σ) (h' : StS base k ds es S σ0 σ') : σ'.env.length = σ.env.length ∧ σ'.hp.length = σ.hp.length ∧ (∀ id, σ'.ob id = σ.ob id) ∧
    ∀ (t : Nat) (x y : A), σ.env[t]? = some x → σ'.env[t]? = some y → Eqv x y ∨ y = .l .unk := by
  classical
  refine ⟨h'.len.trans h.len.symm, h'.n.trans h.n.symm, fun id => ?_, fun t x y hx hy => ?_⟩
  · rcases Nat.lt_or_ge id base with hb | hb
    · rw [h.ob0 id hb, h'.ob0 id hb]
    · by_cases h1 : ∃ e ∈ es, S e.i ∧ id ∈ e.ins
      · obtain ⟨e, he, hs, hi⟩ := h1
        rw [h.obI e he hs id hi, h'.obI e he hs id hi]
      · by_cases h2 : ∃ e ∈ es, S e.i ∧ seg base k e.i id
        · obtain ⟨e, he, hs, hi⟩ := h2
          rw [h.obS e he hs id hi fun e' he' hs' hi' => h1 ⟨e', he', hs', hi'⟩, h'.obS e he hs id hi fun e' he' hs' hi' => h1 ⟨e', he', hs', hi'⟩]
        · rw [h.obN id hb fun e he hs hi => h2 ⟨e, he, hs, hi⟩, h'.obN id hb fun e he hs hi => h2 ⟨e, he, hs, hi⟩]
  · by_cases ht : t ∈ ds
    · by_cases hex : ∃ e ∈ es, S e.i ∧ e.dst = some t
      · obtain ⟨e, he, hs, hd⟩ := hex
        exact .inl ((h.envS e he hs t x hd hx).trans (h'.envS e he hs t y hd hy).symm)
      · have h1 := h.envU t ht fun e he hs hd => hex ⟨e, he, hs, hd⟩
        have h2 := h'.envU t ht fun e he hs hd => hex ⟨e, he, hs, hd⟩
        rw [hx] at h1; rw [hy, ← h1] at h2
        obtain rfl := Option.some.inj h2
        exact .inl (Eqv.refl _)
    · have h1 := h.env0 t ht
      have h2 := h'.env0 t ht
      rw [hx] at h1; rw [hy, ← h1] at h2
      obtain rfl := Option.some.inj h2
      exact .inl (Eqv.refl _)

theorem ancAll_spec : (l : List Oper) → (acc : List Nat) → (n : Nat) → (x : Nat) → (ancAll l acc)[n]? = some x → acc[n]? = some x ∨ ∃ o, acc.length ≤ n ∧ l[n - acc.length]? = some o ∧ ∃ acc', (∀ i, i < n → acc'[i]? = (ancAll l acc)[i]?) ∧ acc'.length = n ∧ x = ancs acc' o
  | [], acc, n, x, h => .inl h
  | o :: l, acc, n, x, h => by
    have hpre : ∀ (l : List Oper) (acc : List Nat) (i : Nat), i < acc.length → (ancAll l acc)[i]? = acc[i]? := by
      intro l
      induction l with
      | nil => intro acc i _; rfl
      | cons o l ih => intro acc i hi; simp only [ancAll]; rw [ih _ i (by simp; omega), List.getElem?_append_left hi]
    simp only [ancAll] at h ⊢
    rcases ancAll_spec l _ n x h with h1 | ⟨o', h1, h2, acc', h3, h4, h5⟩
    · rcases Nat.lt_or_ge n acc.length with hl | hl
      · rw [List.getElem?_append_left hl] at h1; exact .inl h1
      · rw [List.getElem?_append_right hl] at h1
        have h0 : n - acc.length = 0 := by
          rcases Nat.eq_zero_or_pos (n - acc.length) with h0 | h0
          · exact h0
          · rw [List.getElem?_eq_none (by simp; omega)] at h1; simp at h1
        rw [h0] at h1
        simp at h1
        have hn : n = acc.length := by omega
        subst hn
        refine .inr ⟨o, Nat.le_refl _, by simp, acc, fun i hi => ?_, rfl, h1.symm⟩
        rw [hpre l _ i (by simp; omega), List.getElem?_append_left hi]
    · simp only [List.length_append, List.length_singleton] at h1 h2
      refine .inr ⟨o', by omega, ?_, acc', h3, h4, h5⟩
      rw [show n - acc.length = (n - (acc.length + 1)) + 1 from by omega]
      simpa using h2

theorem anc_closed {ops : Array Oper} {L : Nat → Prop} (hcl : ∀ x o', L x → ops[x]? = some o' → ∀ d ∈ o'.after.toList, Region.binds .any d = true → L d.on) : (n : Nat) → (x : Nat) → (o : Oper) → (ancAll ops.toList [])[n]? = some x → ops[n]? = some o → (∀ d ∈ o.after.toList, Region.binds .any d = true → d.on < n) →
    (∀ (i : Nat) (o : Oper), ops[i]? = some o → ∀ e ∈ o.after.toList, Region.binds .any e = true → e.on < i) → (∀ d ∈ o.after.toList, Region.binds .any d = true → L d.on) → ∀ j, x.testBit j = true → L j := by
  intro n
  induction n using Nat.strongRecOn with
  | ind n ih =>
    intro x o hx ho hlt hafter hd j hj
    rcases ancAll_spec _ _ n x hx with h | ⟨o', _, h2, acc', h3, h4, h5⟩
    · simp at h
    · simp only [List.length_nil, Nat.sub_zero] at h2
      rw [← Array.getElem?_toList] at ho
      rw [ho] at h2
      obtain rfl := Option.some.inj h2
      subst h5
      obtain ⟨d, hdm, hb, hx⟩ := (ancsL_bit acc' _ j).1 hj
      rcases hx with hx | hx
      · rw [← hx]; exact hd d hdm hb
      · have hdl := hlt d hdm hb
        have hg : acc'[d.on]? = some acc'[d.on] := List.getElem?_eq_getElem (by omega)
        rw [hg, Option.getD_some] at hx
        have hg2 := h3 d.on hdl
        rw [hg] at hg2
        have hon : d.on < ops.size := by
          have := (List.getElem?_eq_some_iff.1 ho).1
          simp at this; omega
        have ho2 : ops[d.on]? = some ops[d.on] := by simp [hon]
        refine ih d.on hdl _ _ hg2.symm ho2 (hafter _ _ ho2) hafter (fun d' hd' hb' => hcl d.on _ (hd d hdm hb) ho2 d' hd' hb') j hx

theorem tailAt_spec (an : List Nat) (sz : Nat) : (n : Nat) → n ≤ sz → tailAt an n ≤ n ∧ ∀ i, tailAt an n ≤ i → i < n → an[i]? = some (2 ^ i - 1)
  | 0, _ => ⟨by simp [tailAt], fun i _ hi => by omega⟩
  | n + 1, hn => by
    obtain ⟨h1, h2⟩ := tailAt_spec an sz n (by omega)
    unfold tailAt
    split
    · rename_i x hx
      split
      · rename_i hc
        refine ⟨by omega, fun i hi hin => ?_⟩
        rcases Nat.lt_or_ge i n with hlt | hge
        · exact h2 i hi hlt
        · have : i = n := by omega
          subst this
          rw [hx, hc]
      · exact ⟨Nat.le_refl _, fun i hi hin => by omega⟩
    · exact ⟨Nat.le_refl _, fun i hi hin => by omega⟩

theorem foldFrzA_frz : (xs : List A) → ∀ {σ s : Sg}, Frz σ s → Frz σ (xs.foldl frzA s)
  | [], _, _, h => h
  | x :: xs, σ, s, h => by
    rw [List.foldl_cons]
    exact foldFrzA_frz xs (h.trans (frzA_frz s x))

theorem pad_ob (σ : Sg) (n : Nat) (id : Nat) : Sg.ob { env := σ.env, hp := σ.hp ++ List.replicate n none } id = σ.ob id := by
  unfold Sg.ob
  simp only
  rcases Nat.lt_or_ge id σ.hp.length with h | h
  · rw [List.getElem?_append_left h]
  · rw [List.getElem?_append_right h, List.getElem?_replicate, List.getElem?_eq_none h]
    split <;> simp

theorem RelG.pad {G : Gh} {σ : Sg} {a : Act} {w : World} (h : RelG E G σ a w) (n : Nat) : RelG E G { env := σ.env, hp := σ.hp ++ List.replicate n none } a w := by
  have hob := pad_ob σ n
  generalize hσ' : ({ env := σ.env, hp := σ.hp ++ List.replicate n none } : Sg) = σ' at *
  have hlen : σ'.hp.length = σ.hp.length + n := by rw [← hσ']; simp
  have himm : ∀ b, Imm E G σ w b → Imm E G σ' w b := fun b hb => ⟨hb.1, hb.2.1, fun id o ho => hb.2.2 id o (by rw [← hob]; exact ho)⟩
  have hkp : Keep (Imm E G σ w) (Imm E G σ' w) σ.hp.length σ'.hp.length G G w w := ⟨himm, fun _ _ => rfl, by omega, fun _ _ => rfl⟩
  have henv : σ'.env = σ.env := by rw [← hσ']
  refine
  { h with
    len := by rw [henv]; exact h.len
    env := fun t y hy => ?_
    obs := fun id o ho => ?_
    nodup := fun id o ho => h.nodup id o (by rw [← hob]; exact ho)
    range := fun id o ho => h.range id o (by rw [← hob]; exact ho)
    hrange := fun id o ho => h.hrange id o (by rw [← hob]; exact ho)
    disj := fun id id' o o' ho hr ho' => h.disj id id' o o' (by rw [← hob]; exact ho) hr (by rw [← hob]; exact ho') }
  · rw [henv] at hy
    exact (h.env t y hy).keep hkp y
  · rw [hob] at ho
    exact (h.obs id o ho).keep hkp (Sg.ob_lt ho) rfl o fun _ _ _ => rfl

/-- A region whose order is drawn. -/
theorem regionD_some (hC : Ctrs C) {id : Nat} {K : Sg → Option ρ} {r : ρ} {G : Gh} {σ : Sg} {a : Act} {w : World} {ws : List Nat} (h : RelG E G σ a w) (hk : regionD C id ops σ K = some r)
    (hws : ∀ o ∈ ops.toList, (∀ t, o.dst = some t → t ∈ ws ∧ ¬ E.F t) ∧ ∀ j b t, o.guard = some (j, b) → (ops[j]?).bind (·.dst) = some t → t ∈ ws) (Q : Exit → Act → World → Prop)
    (hQ : ∀ σ' a' w' G', K σ' = some r → RelG E G' σ' a' w' → Kc ws σ σ' → GA E σ σ' G G' w w' → Q .normal a' w') : (Code.region id ops true).wp C.P Q a w := by
  unfold regionD at hk
  simp only at hk
  generalize hm : tailAt (ancAll ops.toList []) ops.size = m at hk
  generalize hds : (ops.toList.take m).filterMap (·.dst) = ds at hk
  generalize hth : (findD id C.Dr).th = th at hk
  have f : Frz σ (List.foldl frzA σ ((findD id C.Dr).fz.map fun t => getA σ (.tmp t))) := foldFrzA_frz _ (.refl _)
  generalize List.foldl frzA σ ((findD id C.Dr).fz.map fun t => getA σ (.tmp t)) = σ1 at hk f
  split at hk
  · rename_i hc
    simp only [Bool.and_eq_true, decide_eq_true_eq, List.all_eq_true, List.mem_range] at hc
    obtain ⟨hnd, haf⟩ := hc
    have hafter : ∀ (i : Nat) (o : Oper), ops[i]? = some o → ∀ e ∈ o.after.toList, Region.binds .any e = true → e.on < i := fun i o ho e he hb => by
      have := haf i (Array.getElem?_eq_some_iff.1 ho).1
      rw [ho] at this
      simp only [List.all_eq_true] at this
      have := this e he
      rw [hb] at this; simpa using this
    obtain ⟨hmle, htl⟩ := tailAt_spec (ancAll ops.toList []) ops.size ops.size (Nat.le_refl _)
    rw [hm] at hmle htl
    have h1 := f.rel h
    have h2 := h1.pad (m * 4)
    have hoE : ∀ (t : Nat) (x : A), σ1.env[t]? = some x → ∀ id ∈ x.refs, id < σ1.hp.length := fun t x hx => A.bd_refs x (h1.env t x hx).bd
    have hob := pad_ob σ1 (m * 4)
    generalize hσ0 : ({ env := σ1.env, hp := σ1.hp ++ List.replicate (m * 4) none } : Sg) = σ0 at *
    have hlen0 : σ0.hp.length = σ1.hp.length + m * 4 := by rw [← hσ0]; simp
    have henv0 : σ0.env = σ1.env := by rw [← hσ0]
    rw [← henv0] at hoE
    have h0O : ∀ id x, σ0.ob id = some x → id < σ1.hp.length ∧ ∀ j ∈ x.refs, j < σ1.hp.length := fun id x hx => by
      rw [hob] at hx
      exact ⟨Sg.ob_lt hx, Ob.bd_refs x (h1.obs id x hx).bd⟩
    have hP0 : PI { C with I := C.I.filter (·.dr) } ops th ds m σ1.hp.length 4 σ0.hp.length σ0 [] [] [] σ0 :=
      { idx := fun j e he => by simp at he
        opd := fun e he => by simp at he
        E := ⟨fun e he => by simp at he, fun e he => by simp at he, fun e he => by simp at he, fun e he => by simp at he, fun e he => by simp at he, fun e he => by simp at he, fun e he => by simp at he, fun e he => by simp at he, fun e he => by simp at he, fun e he => by simp at he⟩
        St := ⟨rfl, rfl, fun _ _ => rfl, fun e he => by simp at he, fun _ _ _ => rfl, fun _ _ => rfl, fun e he => by simp at he, fun e he => by simp at he, fun id hid _ => by
          rw [hob]
          unfold Sg.ob
          rw [List.getElem?_eq_none hid]; rfl⟩
        alen := rfl
        anc := fun j e he => by simp at he
        used := fun e he => by simp at he }
    have htake : (ops.toList.take m).length = m := by rw [List.length_take]; simp; omega
    obtain ⟨es, ancL, used, σf, hP, hel, hkf⟩ := plan (C := { C with I := C.I.filter (·.dr) }) (fun e he => (hC.inl e (List.mem_filter.1 he).1).2.kp (List.mem_filter.1 he).2) (fun e he => (hC.inl e (List.mem_filter.1 he).1).2.nat) (by omega) rfl (ops.toList.take m) 0 [] [] σ0 [] rfl hP0
      (fun j o hj => by
        rw [Nat.zero_add, ← Array.getElem?_toList]
        rw [List.getElem?_take] at hj
        split at hj
        · exact hj
        · simp at hj)
      (fun j o hj d hd hb => by
        rw [List.getElem?_take] at hj
        split at hj
        · have := hafter j o (by rw [← Array.getElem?_toList]; exact hj) d hd hb; omega
        · simp at hj)
      (by rw [htake, hlen0]; omega) (by rw [htake]; omega) (fun e he => by simp at he) (by rw [hds]; exact hnd) (fun o ho t ht => by rw [← hds]; exact List.mem_filterMap.2 ⟨o, ho, ht⟩) (fun e he => by simp at he) hk
    rw [Nat.zero_add, htake] at hel
    refine wp_region_any hC.mixed ?_
    refine any_prefix (C := { C with I := C.I.filter (·.dr) }) (E := E) ⟨hC.mixed, hC.ok, fun e he => hC.inl e (List.mem_filter.1 he).1⟩ (fun i o ho t ht => ((hws o (by rw [← Array.getElem?_toList] at ho; exact List.mem_of_getElem? ho)).1 t ht).2) (by omega) hafter (m := m) hmle (fun n o hn ho L hL1 hL2 j hj => by
      have hx := htl n hn (Array.getElem?_eq_some_iff.1 ho).1
      exact anc_closed hL1 n _ o hx ho (hafter n o ho) hafter hL2 j (by rw [Nat.testBit_two_pow_sub_one]; simpa using hj)) hP hel rfl hoE h0O (I0 := Imm E G σ0 w) (G0 := G) (w0 := w) (fun σs as wd Gh2 hr hSt hkp => ?_) ops.size _ (fun _ => False) σ0 a _ G (by
      unfold unl
      exact Nat.le_trans (List.length_filter_le _ _) (by simp)) (by simp) (fun j hj => by simp [Array.getD_eq_getD_getElem?, hj]) (fun j hj => hj.elim) (fun e he hs => hs.elim) (h2.ext (Ext.drew w)) ?_ ⟨fun b hb => ⟨Nat.lt_of_lt_of_le hb.1 (Ext.drew w).size, hb.2⟩, fun _ _ => rfl, Nat.le_refl _, fun _ _ => rfl⟩
    · -- the tail
      have hStf := hP.St
      rw [hel] at hStf
      obtain ⟨g1, g2, g3, g4⟩ := hSt.agree hStf
      have hrf := hr.same g1 g2 g3 g4
      have e1 : ∀ b, Imm E G σ1 w b → Imm E G σ0 w b := fun b hb => ⟨hb.1, hb.2.1, fun id o ho => hb.2.2 id o (by rw [← hob]; exact ho)⟩
      have e2 : ∀ b, Imm E Gh2 σs wd b → Imm E Gh2 σf wd b := fun b hb => ⟨hb.1, hb.2.1, fun id o ho => hb.2.2 id o (by rw [← g3]; exact ho)⟩
      have hkc : Kc ws σ σf := by
        refine ⟨?_, ?_, fun t ht => ?_, fun id o ho hro => ?_⟩
        · have := f.len; rw [hStf.n, hlen0]; omega
        · rw [hStf.len, henv0, f.kp.env]
        · have htd : t ∉ ds := fun hc => by
            rw [← hds] at hc
            obtain ⟨o, ho, hd⟩ := List.mem_filterMap.1 hc
            exact ht ((hws o (List.mem_of_mem_take ho)).1 t hd).1
          rw [hStf.env0 t htd, henv0, f.kp.env]
        · have h3 := f.kp.ob id o ho hro
          have hlt := Sg.ob_lt h3
          rw [hStf.ob0 id hlt, hob]; exact h3
      have := opersK_some (ws := ws) (ops := ops) hC (ops.toList.drop m) m (fun j o hj => by
        rw [List.getElem?_drop] at hj
        rw [← Array.getElem?_toList]; exact hj) (fun o ho => hws o (List.mem_of_mem_drop ho)) hrf hkf Q fun σ' a' w' G' k1 k2 k3 k4 => hQ σ' a' w' G' k1 k2 (hkc.trans k3) (((show GA E σ σ1 G G w w from f.keep).trans (show GA E σ1 σf G Gh2 w wd from ⟨fun b hb => e2 b (hkp.imm b (e1 b hb)), fun b hb => hkp.heap b (e1 b hb), by rw [hStf.n, hlen0]; omega, hkp.g⟩)).trans k4)
      have hdl : (ops.toList.drop m).length = ops.size - m := by simp
      rw [hdl] at this
      exact this
    · exact
      { n := rfl
        len := rfl
        env0 := fun _ _ => rfl
        envS := fun e he hs => hs.elim
        envU := fun _ _ _ => rfl
        ob0 := fun _ _ => rfl
        obI := fun e he hs => hs.elim
        obS := fun e he hs => hs.elim
        obN := fun id hid _ => by
          rw [hob]
          unfold Sg.ob
          rw [List.getElem?_eq_none hid]; rfl }
  · simp at hk

end
end Go.Proofs.Ytajlabmnpimeeaa.Eng
