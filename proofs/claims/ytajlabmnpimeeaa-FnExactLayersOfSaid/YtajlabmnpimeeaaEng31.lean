/-
  The engine, part 31. Regions whose order is drawn: what the evaluator's run tells of every order. No condition.
-/
import Derived.Test.YtajlabmnpimeeaaEng30
namespace Go.Proofs.Ytajlabmnpimeeaa.Eng
open Go
set_option linter.unusedVariables false
set_option linter.unusedSimpArgs false

theorem keepE_get (ls : List Nat) : (l : List A) → (n t : Nat) → (keepE ls n l)[t]? = (l[t]?).map fun x => if ls.contains (n + t) then x else .l .unk
  | [], n, t => by simp [keepE]
  | x :: l, n, 0 => by simp [keepE]
  | x :: l, n, t + 1 => by
    simp only [keepE, List.getElem?_cons_succ]
    rw [keepE_get ls l (n + 1) t, show n + 1 + t = n + (t + 1) from by omega]

theorem keepE_len (ls : List Nat) : (l : List A) → (n : Nat) → (keepE ls n l).length = l.length
  | [], _ => rfl
  | x :: l, n => by simp [keepE, keepE_len ls l]

theorem keepH_get (R : Bool) (ins : List Nat) (base : Nat) : (l : List (Option Ob)) → (n t : Nat) → (keepH R ins base n l)[t]? = (l[t]?).map fun o => keepO R ins base (n + t) o
  | [], n, t => by simp [keepH]
  | x :: l, n, 0 => by simp [keepH]
  | x :: l, n, t + 1 => by
    simp only [keepH, List.getElem?_cons_succ]
    rw [keepH_get R ins base l (n + 1) t, show n + 1 + t = n + (t + 1) from by omega]

theorem keepH_len (R : Bool) (ins : List Nat) (base : Nat) : (l : List (Option Ob)) → (n : Nat) → (keepH R ins base n l).length = l.length
  | [], _ => rfl
  | x :: l, n => by simp [keepH, keepH_len R ins base l]

theorem partS_ob {σ : Sg} {ls ins : List Nat} {R : Bool} {base lo id : Nat} {x : Ob} (h : (partS σ ls R ins base lo).ob id = some x) :
    σ.ob id = some x ∧ id < lo ∧ ((id < base ∧ (R = true ∨ x.ro = true)) ∨ (base ≤ id ∧ id ∈ ins)) := by
  unfold Sg.ob partS at h
  simp only [List.getElem?_take] at h
  split at h
  · rename_i hlt
    rw [keepH_get, Nat.zero_add] at h
    unfold Sg.ob
    cases hg : σ.hp[id]? with
    | none => rw [hg] at h; simp at h
    | some o =>
      rw [hg] at h
      simp only [Option.map_some, Option.join_some] at h ⊢
      unfold keepO at h
      split at h
      · rename_i hb
        cases R with
        | true => simp only at h; exact ⟨h, hlt, .inl ⟨hb, .inl rfl⟩⟩
        | false =>
          simp only at h
          split at h
          · rename_i o' 
            split at h
            · rename_i hr
              obtain rfl := Option.some.inj h
              exact ⟨rfl, hlt, .inl ⟨hb, .inr hr⟩⟩
            · simp at h
          · simp at h
      · rename_i hb
        split at h
        · rename_i hi
          exact ⟨h, hlt, .inr ⟨by omega, by simpa using hi⟩⟩
        · simp at h
  · simp at h

theorem segOk_iff {base k id an i : Nat} {al : List Nat} (hal : ∀ x, an.testBit x = true → x ∈ al) (h : segOk base k an i id = true) : id < base ∨ (base ≤ id ∧ (id - base) / k ∈ i :: al) := by
  unfold segOk at h
  simp only [Bool.or_eq_true, decide_eq_true_eq, beq_iff_eq] at h
  rcases Nat.lt_or_ge id base with h1 | h1
  · exact .inl h1
  · rcases h with (h | h) | h
    · omega
    · exact .inr ⟨h1, by rw [h]; simp⟩
    · exact .inr ⟨h1, List.mem_cons_of_mem _ (hal _ h)⟩

theorem wrOk_some {ops : Array Oper} {m i t : Nat} (h : wrOk ops m i t = true) : ∀ j o', j < m → ops[j]? = some o' → o'.dst = some t → j = i ∨ ∃ d ∈ o'.after.toList, Region.binds .any d = true ∧ d.on = i := fun j o' hj ho hd => by
  have := List.all_eq_true.1 h j (List.mem_range.2 hj)
  rw [ho] at this
  simp only [hd, Bool.or_eq_true, Bool.not_eq_true', beq_iff_eq, List.any_eq_true, Bool.and_eq_true] at this
  rcases this with (h1 | h1) | h1
  · simp at h1
  · exact .inl h1
  · obtain ⟨d, h2, h3, h4⟩ := h1; exact .inr ⟨d, h2, h3, h4⟩

theorem ancsL_bit (ancL : List Nat) : (l : List Edge) → (x : Nat) → ((ancsL ancL l).testBit x = true ↔ ∃ d ∈ l, Region.binds .any d = true ∧ (d.on = x ∨ ((ancL[d.on]?).getD 0).testBit x = true))
  | [], x => by simp [ancsL]
  | e :: r, x => by
    simp only [ancsL, Nat.testBit_or, Bool.or_eq_true, List.mem_cons, exists_eq_or_imp]
    rw [ancsL_bit ancL r x]
    refine or_congr ?_ Iff.rfl
    cases hb : Region.binds .any e with
    | false => simp
    | true => simp [Nat.testBit_or, Nat.testBit_two_pow]

/-- The evaluator's run so far. -/
structure PI (C : Ctx) (ops : Array Oper) (th ds : List Nat) (m base k N : Nat) (σ0 : Sg) (ancL : List Nat) (used : List Nat) (es : List Ent) (σ : Sg) : Prop where
  idx : ∀ (j : Nat) (e : Ent), es[j]? = some e → e.i = j
  opd : ∀ e ∈ es, ∃ o, ops[e.i]? = some o ∧ e.dst = o.dst ∧ Fact C ops th ds m base k σ0 es o e ∧ (∀ d ∈ o.after.toList, Region.binds .any d = true → d.on ∈ e.an) ∧ (∀ j ∈ e.an, ∃ d ∈ o.after.toList, Region.binds .any d = true ∧ (d.on = j ∨ ∃ e' ∈ es, e'.i = d.on ∧ j ∈ e'.an))
  E : Ents base k N ds es
  St : StS base k ds es (· < es.length) σ0 σ
  alen : ancL.length = es.length
  anc : ∀ (j : Nat) (e : Ent), es[j]? = some e → ∀ x, x ∈ e.an ↔ ((ancL[j]?).getD 0).testBit x = true
  used : ∀ e ∈ es, ∀ id ∈ e.ins, id ∈ used

section
variable {ρ : Type} {C : Ctx} {σ0 σ : Sg} {ops : Array Oper} {th ds : List Nat} {m base k N : Nat} {es : List Ent} {o : Oper} {e : Ent} {ancL : List Nat} {used : List Nat}

theorem PI.lt (h : PI C ops th ds m base k N σ0 ancL used es σ) {e : Ent} (he : e ∈ es) : e.i < es.length ∧ es[e.i]? = some e := by
  obtain ⟨j, hj, rfl⟩ := List.getElem_of_mem he
  have := h.idx j _ (List.getElem?_eq_getElem hj)
  rw [this]
  exact ⟨hj, List.getElem?_eq_getElem hj⟩

theorem ancs_some (h : PI C ops th ds m base k N σ0 ancL used es σ) {j : Nat} (hj : (ancs ancL o).testBit j = true) : ∃ d ∈ o.after.toList, Region.binds .any d = true ∧ (d.on = j ∨ ∃ e' ∈ es, e'.i = d.on ∧ j ∈ e'.an) := by
  obtain ⟨d, hd, hb, hx⟩ := (ancsL_bit ancL _ j).1 hj
  refine ⟨d, hd, hb, hx.imp_right fun hx => ?_⟩
  cases hg : es[d.on]? with
  | none =>
    have : ancL[d.on]? = none := List.getElem?_eq_none (by have := List.getElem?_eq_none_iff.1 hg; rw [h.alen]; exact this)
    rw [this] at hx; simp at hx
  | some e' => exact ⟨e', List.mem_of_getElem? hg, h.idx _ _ hg, (h.anc _ _ hg j).2 hx⟩

/-- One more entry. -/
theorem PI.push (hk : 0 < k) (h : PI C ops th ds m base k N σ0 ancL used es σ) (hN : σ0.hp.length = N) (ho : ops[es.length]? = some o) (hafter : ∀ d ∈ o.after.toList, Region.binds .any d = true → d.on < es.length) (hi : e.i = es.length) (hd : e.dst = o.dst) (han : ∀ x, x ∈ e.an ↔ (ancs ancL o).testBit x = true)
    (F : Fact C ops th ds m base k σ0 es o e) (hdd : ∀ e' ∈ es, ∀ t, e'.dst = some t → e.dst ≠ some t) (hdm : ∀ t, e.dst = some t → t ∈ ds)
    (hinsA : ∀ id ∈ e.ins, base ≤ id ∧ id < N ∧ (id - base) / k ∈ e.an) (hinsU : ∀ id ∈ e.ins, id ∉ used)
    (hrV : ∀ id ∈ e.v.refs, id < base ∨ (base ≤ id ∧ (id - base) / k ∈ e.i :: e.an))
    (hrO : ∀ id, (id ∈ e.ins ∨ seg base k e.i id) → ∀ o, e.st.ob id = some o → ∀ j ∈ o.refs, j < base ∨ (base ≤ j ∧ (j - base) / k ∈ e.i :: e.an))
    (hroom : base + (e.i + 1) * k ≤ N) {σ2 : Sg} {ids : List Nat} (hids : ∀ id, id ∈ ids ↔ (id ∈ e.ins ∨ seg base k e.i id)) (hσ2 : σ2.hp.length = σ.hp.length)
    (hob : ∀ id, σ2.ob id = if id ∈ ids ∧ id < σ.hp.length then e.st.ob id else σ.ob id) (henv : σ2.env = match e.dst with
      | some d => σ.env.set d e.v
      | none => σ.env) {used' : List Nat} (hu : ∀ id, (id ∈ used ∨ id ∈ e.ins) → id ∈ used') : PI C ops th ds m base k N σ0 (ancL ++ [ancs ancL o]) used' (es ++ [e]) σ2 := by
  have hsub : ∀ e' ∈ es, e' ∈ es ++ [e] := fun e' he' => List.mem_append_left _ he'
  have hmem : ∀ e' ∈ es ++ [e], e' ∈ es ∨ e' = e := fun e' he' => by simpa using he'
  have hne : ∀ e' ∈ es, e'.i ≠ e.i := fun e' he' hc => by have := (h.lt he').1; omega
  have hanl : ∀ j ∈ e.an, j < e.i := fun j hj => by
    rw [han] at hj
    obtain ⟨d, hd, hb, hx⟩ := ancs_some (o := o) h hj
    have h1 := hafter d hd hb
    rcases hx with hx | ⟨e', he', h2, h3⟩
    · omega
    · have := h.E.anlt e' he' j h3; omega
  have hE : Ents base k N ds (es ++ [e]) :=
    { uniq := fun e1 h1 e2 h2 h12 => by
        rcases hmem e1 h1 with k1 | k1 <;> rcases hmem e2 h2 with k2 | k2
        · exact h.E.uniq e1 k1 e2 k2 h12
        · rw [k2] at h12; exact absurd h12 (hne e1 k1)
        · rw [k1] at h12; exact absurd h12.symm (hne e2 k2)
        · rw [k1, k2]
      dsts := fun e1 h1 e2 h2 t d1 d2 => by
        rcases hmem e1 h1 with k1 | k1 <;> rcases hmem e2 h2 with k2 | k2
        · exact h.E.dsts e1 k1 e2 k2 t d1 d2
        · rw [k2] at d2; exact absurd d2 (hdd e1 k1 t d1)
        · rw [k1] at d1; exact absurd d1 (hdd e2 k2 t d2)
        · rw [k1, k2]
      dsm := fun e1 h1 => by
        rcases hmem e1 h1 with h1 | rfl
        · exact h.E.dsm e1 h1
        · exact hdm
      insA := fun e1 h1 => by
        rcases hmem e1 h1 with h1 | rfl
        · exact h.E.insA e1 h1
        · exact hinsA
      insD := fun e1 h1 e2 h2 h12 id hid hid2 => by
        rcases hmem e1 h1 with k1 | k1 <;> rcases hmem e2 h2 with k2 | k2
        · exact h.E.insD e1 k1 e2 k2 h12 id hid hid2
        · rw [k2] at hid2; exact hinsU id hid2 (h.used e1 k1 id hid)
        · rw [k1] at hid; exact hinsU id hid (h.used e2 k2 id hid2)
        · rw [k1, k2] at h12; exact absurd rfl h12
      anlt := fun e1 h1 => by
        rcases hmem e1 h1 with h1 | rfl
        · exact h.E.anlt e1 h1
        · exact hanl
      anE := fun e1 h1 j hj => by
        rcases hmem e1 h1 with h1 | rfl
        · obtain ⟨e', he', h3⟩ := h.E.anE e1 h1 j hj; exact ⟨e', hsub e' he', h3⟩
        · have hlt : j < es.length := by have := hanl j hj; omega
          exact ⟨es[j], hsub _ (List.getElem_mem hlt), h.idx j _ (List.getElem?_eq_getElem hlt)⟩
      refsV := fun e1 h1 => by
        rcases hmem e1 h1 with h1 | rfl
        · exact h.E.refsV e1 h1
        · exact hrV
      refsO := fun e1 h1 => by
        rcases hmem e1 h1 with h1 | rfl
        · exact h.E.refsO e1 h1
        · exact hrO
      room := fun e1 h1 => by
        rcases hmem e1 h1 with h1 | rfl
        · exact h.E.room e1 h1
        · exact hroom }
  have hSt0 : StS base k ds (es ++ [e]) (· < es.length) σ0 σ :=
    { h.St with
      envS := fun e1 h1 hs => by
        rcases hmem e1 h1 with h1 | rfl
        · exact h.St.envS e1 h1 hs
        · omega
      envU := fun t ht hn => h.St.envU t ht (fun e1 h1 hs => hn e1 (hsub e1 h1) hs)
      obI := fun e1 h1 hs => by
        rcases hmem e1 h1 with h1 | rfl
        · exact h.St.obI e1 h1 hs
        · omega
      obS := fun e1 h1 hs id hi hn => by
        rcases hmem e1 h1 with h1 | rfl
        · exact h.St.obS e1 h1 hs id hi fun e2 h2 hs2 => hn e2 (hsub e2 h2) hs2
        · omega
      obN := fun id hid hn => h.St.obN id hid fun e1 h1 hs => hn e1 (hsub e1 h1) hs }
  have hSt1 := hSt0.step hk hE hN (fun e1 h1 hs j hj => by
    have h2 := hE.anlt e1 h1 j hj; omega) (e := e) (by simp) (by omega) (fun j hj => by have := hanl j hj; omega) hids hσ2 hob henv
  have hSt2 : StS base k ds (es ++ [e]) (· < (es ++ [e]).length) σ0 σ2 := by
    have : (fun i => i < (es ++ [e]).length) = fun i => i < es.length ∨ i = e.i := by
      funext i; simp only [List.length_append, List.length_singleton]; exact propext ⟨fun h => by omega, fun h => by omega⟩
    rw [this]; exact hSt1
  exact
  { idx := fun j e1 hj => by
      rcases Nat.lt_or_ge j es.length with hl | hl
      · rw [List.getElem?_append_left hl] at hj; exact h.idx j e1 hj
      · rw [List.getElem?_append_right hl] at hj
        have : j - es.length = 0 := by
          rcases Nat.eq_zero_or_pos (j - es.length) with h0 | h0
          · exact h0
          · rw [List.getElem?_eq_none (by simp; omega)] at hj; simp at hj
        rw [this] at hj
        simp at hj; subst hj; omega
    opd := fun e1 h1 => by
      rcases hmem e1 h1 with h1 | rfl
      · obtain ⟨o1, k1, k2, k3, k5, k4⟩ := h.opd e1 h1
        refine ⟨o1, k1, k2, k3.mono hsub, k5, fun j hj => ?_⟩
        obtain ⟨d, hd, hb, hx⟩ := k4 j hj
        exact ⟨d, hd, hb, hx.imp_right fun ⟨e', he', hx⟩ => ⟨e', hsub e' he', hx⟩⟩
      · refine ⟨o, by rw [hi]; exact ho, hd, F.mono hsub, fun d hd hb => (han _).2 ((ancsL_bit _ _ _).2 ⟨d, hd, hb, .inl rfl⟩), fun j hj => ?_⟩
        rw [han] at hj
        obtain ⟨d, hd, hb, hx⟩ := ancs_some h hj
        exact ⟨d, hd, hb, hx.imp_right fun ⟨e', he', hx⟩ => ⟨e', hsub e' he', hx⟩⟩
    E := hE
    St := hSt2
    alen := by simp [h.alen]
    anc := fun j e1 hj => by
      rcases Nat.lt_or_ge j es.length with hl | hl
      · rw [List.getElem?_append_left hl] at hj
        rw [List.getElem?_append_left (by rw [h.alen]; exact hl)]; exact h.anc j e1 hj
      · rw [List.getElem?_append_right hl] at hj
        have h0 : j - es.length = 0 := by
          rcases Nat.eq_zero_or_pos (j - es.length) with h0 | h0
          · exact h0
          · rw [List.getElem?_eq_none (by simp; omega)] at hj; simp at hj
        rw [h0] at hj
        simp at hj; subst hj
        rw [List.getElem?_append_right (by rw [h.alen]; exact hl), h.alen, h0]
        simpa using han
    used := fun e1 h1 id hid => by
      rcases hmem e1 h1 with h1 | rfl
      · exact hu id (.inl (h.used e1 h1 id hid))
      · exact hu id (.inr hid) }

/-- A slot is said anew. -/
theorem PI.refine (h : PI C ops th ds m base k N σ0 ancL used es σ) {d : Nat} {x y : A} (hx : σ.env[d]? = some x) (hq : Eqv x y) (hd : ∃ e ∈ es, e.dst = some d) : PI C ops th ds m base k N σ0 ancL used es { σ with env := σ.env.set d y } := by
  have hget : ∀ t z, (σ.env.set d y)[t]? = some z → (t = d ∧ z = y) ∨ (t ≠ d ∧ σ.env[t]? = some z) := fun t z hz => by
    rw [List.getElem?_set] at hz
    split at hz
    · rename_i hc
      split at hz
      · exact .inl ⟨hc.symm, (Option.some.inj hz).symm⟩
      · simp at hz
    · rename_i hc; exact .inr ⟨fun e => hc e.symm, hz⟩
  obtain ⟨e0, he0, hd0⟩ := hd
  refine { h with St := { h.St with len := by simp [h.St.len], env0 := fun t ht => ?_, envS := fun e he hs t z hdt hz => ?_, envU := fun t ht hn => ?_ } }
  · have : d ≠ t := fun hc => ht (hc ▸ h.E.dsm e0 he0 d hd0)
    show (σ.env.set d y)[t]? = _
    rw [List.getElem?_set, if_neg this]; exact h.St.env0 t ht
  · rcases hget t z hz with ⟨rfl, rfl⟩ | ⟨_, hz⟩
    · exact hq.symm.trans (h.St.envS e he hs t x hdt hx)
    · exact h.St.envS e he hs t z hdt hz
  · have : d ≠ t := fun hc => hn e0 he0 (h.lt he0).1 (hc ▸ hd0)
    show (σ.env.set d y)[t]? = _
    rw [List.getElem?_set, if_neg this]; exact h.St.envU t ht hn

theorem getA_tmp {σ : Sg} {t : Nat} : getA σ (.tmp t) = (σ.env[t]?).getD (.l .unk) := by simp [getA, List.getD_eq_getElem?_getD]

/-- What the evaluator's run tells. -/
theorem plan (hI : KpI C) (hNI : NatI C) (hk : 0 < k) {K : Sg → Option ρ} {r : ρ} (hN : σ0.hp.length = N) : (rest : List Oper) → (i : Nat) → (ancL : List Nat) → (used : List Nat) → (σ : Sg) → (es : List Ent) → es.length = i → PI C ops th ds m base k N σ0 ancL used es σ →
    (∀ j o, rest[j]? = some o → ops[i + j]? = some o) → (∀ j o, rest[j]? = some o → ∀ d ∈ o.after.toList, Region.binds .any d = true → d.on < i + j) → base + (i + rest.length) * k ≤ N → i + rest.length ≤ m →
    (∀ e ∈ es, ∀ t, e.dst = some t → ∀ o ∈ rest, o.dst ≠ some t) → (rest.filterMap (·.dst)).Nodup → (∀ o ∈ rest, ∀ t, o.dst = some t → t ∈ ds) →
    (∀ e ∈ es, ∀ o, ops[e.i]? = some o → e.dst = o.dst) →
    drawK C ops th ds m base k i rest ancL used σ K = some r → ∃ es' ancL' used' σ', PI C ops th ds m base k N σ0 ancL' used' es' σ' ∧ es'.length = i + rest.length ∧ K σ' = some r
  | [], i, ancL, used, σ, es, hl, h, _, _, _, _, _, _, _, _, hr => ⟨es, ancL, used, σ, h, by simpa using hl, by simpa only [drawK] using hr⟩
  | o :: rest, i, ancL, used, σ, es, hl, h, hops, haft, hroom, hmm, hdd, hnd, hdm, hds, hr => by
    have ho : ops[es.length]? = some o := by rw [hl]; have := hops 0 o rfl; simpa using this
    have hafter : ∀ d ∈ o.after.toList, Region.binds .any d = true → d.on < es.length := fun d hd hb => by rw [hl]; have := haft 0 o rfl d hd hb; simpa using this
    have hroom1 : base + (i + 1) * k ≤ N := by
      refine Nat.le_trans ?_ hroom
      have : (i + 1) * k ≤ (i + (rest.length + 1)) * k := Nat.mul_le_mul_right _ (by omega)
      simpa using Nat.add_le_add_left this base
    have hlenN : σ.hp.length = N := h.St.n.trans hN
    -- going on behind one entry
    have next : ∀ {σ : Sg} (e : Ent) (σ2 : Sg) (used' : List Nat), PI C ops th ds m base k N σ0 (ancL ++ [ancs ancL o]) used' (es ++ [e]) σ2 → e.i = i → e.dst = o.dst → drawK C ops th ds m base k (i + 1) rest (ancL ++ [ancs ancL o]) used' σ2 K = some r →
        ∃ es' ancL' used' σ', PI C ops th ds m base k N σ0 ancL' used' es' σ' ∧ es'.length = i + (o :: rest).length ∧ K σ' = some r := fun e σ2 used' hp hei hed hr => by
      obtain ⟨es', a', u', σ', k1, k2, k3⟩ := plan hI hNI hk hN rest (i + 1) _ used' σ2 (es ++ [e]) (by simp [hl]) hp
        (fun j o' hj => by have := hops (j + 1) o' (by simpa using hj); rwa [show i + (j + 1) = i + 1 + j from by omega] at this)
        (fun j o' hj d hd hb => by have := haft (j + 1) o' (by simpa using hj) d hd hb; omega)
        (by rw [show i + 1 + rest.length = i + (rest.length + 1) from by omega]; simpa using hroom)
        (by simp at hmm; omega)
        (fun e' he' t ht o' ho' => by
          rcases List.mem_append.1 he' with he' | he'
          · exact hdd e' he' t ht o' (List.mem_cons_of_mem _ ho')
          · simp at he'; subst he'
            rw [hed] at ht
            rw [List.filterMap_cons, ht] at hnd
            intro hc
            exact (List.nodup_cons.1 hnd).1 (List.mem_filterMap.2 ⟨o', ho', hc⟩))
        (by
          rw [List.filterMap_cons] at hnd
          cases hd : o.dst with
          | none => rw [hd] at hnd; exact hnd
          | some t => rw [hd] at hnd; exact (List.nodup_cons.1 hnd).2)
        (fun o' ho' => hdm o' (List.mem_cons_of_mem _ ho'))
        (fun e' he' o' ho' => by
          rcases List.mem_append.1 he' with he' | he'
          · exact hds e' he' o' ho'
          · simp at he'; subst he'
            rw [hei, ← hl, ho] at ho'
            obtain rfl := Option.some.inj ho'
            exact hed)
        hr
      exact ⟨es', a', u', σ', k1, by rw [k2]; simp; omega, k3⟩
    have hddo : ∀ e' ∈ es, ∀ t, e'.dst = some t → o.dst ≠ some t := fun e' he' t ht => hdd e' he' t ht o (by simp)
    have putOf : ∀ {σ : Sg} {v : A} {K' : Sg → Option ρ}, putK σ o.dst v K' = some r → ∃ σ3, K' σ3 = some r ∧ σ3.hp = σ.hp ∧ σ3.env = match o.dst with
        | some d => σ.env.set d v
        | none => σ.env := fun {σ v K'} hp => by
      cases hd : o.dst with
      | none => rw [hd] at hp; exact ⟨σ, hp, rfl, rfl⟩
      | some d => rw [hd] at hp; simp only [putK, setK_eq] at hp; exact ⟨_, hp, rfl, rfl⟩
    let al := (List.range es.length).filter fun x => (ancs ancL o).testBit x
    have hal : ∀ x, x ∈ al ↔ (ancs ancL o).testBit x = true := fun x => by
      simp only [al, List.mem_filter, List.mem_range]
      refine ⟨fun hx => hx.2, fun hx => ⟨?_, hx⟩⟩
      obtain ⟨d, hd, hb, hx⟩ := ancs_some h hx
      have h1 := hafter d hd hb
      rcases hx with hx | ⟨e', he', h2, h3⟩
      · omega
      · have := h.E.anlt e' he' x h3; omega
    -- run
    have run : ∀ σ : Sg, PI C ops th ds m base k N σ0 ancL used es σ → (∀ e : Ent, e.an = al → GuardF ops σ0.env.length es o e true) →
        (let ls := looks ops o
         let an := ancs ancL o
         let lo := base + i * k
         let ins := if passing o.op then [] else (ls.flatMap fun t => (getA σ (.tmp t)).refs).eraseDups.filter (base ≤ ·)
         let pt := partS σ ls (isR C (partS σ ls false [] 0 0) o.op) ins base lo
         match (ls.all fun t => !ds.contains t || (o.after.toList.any fun e => Region.binds .any e && ((ops[e.on]?).bind (·.dst) == some t)) || wrOk ops m i t) &&
             (ls.all fun t => (getA σ (.tmp t)).refs.all (· < lo)) && (pt.hp.all fun x => match x with
               | some x => x.refs.all (· < lo)
               | none => true) && (ins.all fun id => an.testBit ((id - base) / k) && !used.contains id && (pt.ob id).isSome) with
         | true => opK C pt o.op fun v σ1 =>
           let v' := if th.contains i then thawA σ1 v else v
           let σ2 := if th.contains i then frzA σ1 v else σ1
           let ids := ins ++ List.range' lo k
           match decide (σ2.hp.length ≤ lo + k) && (!th.contains i || v.refs.all ids.contains) && (v'.refs.all (segOk base k an i)) && (ids.all fun id => match σ2.ob id with
               | some x => x.refs.all (segOk base k an i)
               | none => true) with
           | true => putK (mergeS σ σ2 ids) o.dst v' (drawK C ops th ds m base k (i + 1) rest (ancL ++ [an]) (ins ++ used) · K)
           | false => none
         | false => none) = some r → ∃ es' ancL' used' σ', PI C ops th ds m base k N σ0 ancL' used' es' σ' ∧ es'.length = i + (o :: rest).length ∧ K σ' = some r := by
      intro σ h hg hr
      have hlenN : σ.hp.length = N := h.St.n.trans hN
      simp only at hr
      split at hr
      · rename_i hchk
        simp only [Bool.and_eq_true, List.all_eq_true, Bool.or_eq_true, Bool.not_eq_true', List.any_eq_true, decide_eq_true_eq, beq_iff_eq] at hchk
        obtain ⟨⟨⟨c1, c2⟩, c3⟩, c4⟩ := hchk
        generalize hls : looks ops o = ls at *
        generalize han : ancs ancL o = an at *
        have hal' : ∀ x, an.testBit x = true → x ∈ al := fun x hx => (hal x).2 hx
        generalize hins : (if passing o.op = true then [] else ((ls.flatMap fun t => (getA σ (.tmp t)).refs).eraseDups.filter (base ≤ ·))) = ins at *
        have hinsB : ∀ id ∈ ins, base ≤ id := fun id hid => by
          rw [← hins] at hid
          split at hid
          · simp at hid
          · simpa using (List.mem_filter.1 hid).2
        generalize hR : isR C (partS σ ls false [] 0 0) o.op = R at *
        generalize hpt : partS σ ls R ins base (base + i * k) = pt at *
        rw [opK_nat hNI] at hr
        obtain ⟨⟨v1, σ1⟩, hop, hr⟩ := Option.bind_eq_some_iff.1 hr
        simp only at hr
        generalize hv' : (if th.contains i = true then thawA σ1 v1 else v1) = v' at hr
        generalize hst : (if th.contains i = true then frzA σ1 v1 else σ1) = st at hr
        split at hr
        · rename_i hchk2
          simp only [Bool.and_eq_true, List.all_eq_true, Bool.or_eq_true, Bool.not_eq_true', decide_eq_true_eq] at hchk2
          obtain ⟨⟨⟨d1, d2⟩, d3⟩, d4⟩ := hchk2
          let e : Ent := ⟨i, o.dst, v', st, ins, al⟩
          obtain ⟨σ3, hr3, hhp3, henv3⟩ := putOf hr
          have hloN : base + i * k ≤ σ.hp.length := by
            rw [hlenN]; refine Nat.le_trans ?_ hroom1
            rw [Nat.add_mul, Nat.one_mul]; omega
          have hptlen : pt.hp.length = base + i * k := by
            rw [← hpt]; simp only [partS, List.length_take, keepH_len]; omega
          have hptenv : pt.env = keepE ls 0 σ.env := by rw [← hpt]; rfl
          have hob : ∀ id x, pt.ob id = some x → σ.ob id = some x ∧ id < base + i * k ∧ ((id < base ∧ (R = true ∨ x.ro = true)) ∨ (base ≤ id ∧ id ∈ ins)) := fun id x hx => by
            rw [← hpt] at hx; exact partS_ob hx
          have hkeepL : ∀ id x, id < base → pt.ob id = some x → σ1.ob id = some x := fun id x hb hx => by
            obtain ⟨_, _, h3 | h3⟩ := hob id x hx
            · rcases h3.2 with h4 | h4
              · subst h4
                exact opK_R (C := C) (by rw [isR_env (σ' := partS σ ls false [] 0 0) (by rw [hptenv]; rfl)]; exact hR) hop id x hx
              · exact (opK_kp hI hop).ob id x hx h4
            · omega
          have hidsOf : ∀ id, id ∈ ins ++ List.range' (base + i * k) k ↔ (id ∈ e.ins ∨ seg base k e.i id) := fun id => by rw [List.mem_append, seg_iff]
          have R' : RunF C ops th ds m base k σ0 es o e pt v1 σ1 :=
            { op := hop
              v := hv'.symm
              st := hst.symm
              lo := hptlen
              hi := d1
              elen := by rw [hptenv, keepE_len]; exact h.St.len
              env := fun t x hx => by
                rw [hptenv, keepE_get, Nat.zero_add] at hx
                cases hg : σ.env[t]? with
                | none => rw [hg] at hx; simp at hx
                | some y =>
                  rw [hg] at hx
                  simp only [Option.map_some, Option.some.injEq] at hx
                  split at hx
                  · rename_i hc
                    subst hx
                    have hm : t ∈ ls := by simpa using hc
                    have hgt : getA σ (.tmp t) = y := by rw [getA_tmp, hg]; rfl
                    refine .inr ⟨fun id hid => by have := c2 t hm id (by rw [hgt]; exact hid); simpa using this, ?_⟩
                    by_cases ht : t ∈ ds
                    · rcases c1 t hm with (hc1 | ⟨d, hd, hb, hdst⟩) | hc1
                      · have : ds.contains t = true := by simpa using ht
                        rw [this] at hc1; simp at hc1
                      · have hlt := hafter d hd hb
                        have he' := List.getElem_mem hlt
                        have hi' := h.idx d.on _ (List.getElem?_eq_getElem hlt)
                        have hdst' : es[d.on].dst = some t := by
                          obtain ⟨o', k1, k2, _⟩ := h.opd _ he'
                          rw [hi'] at k1
                          rw [k1] at hdst
                          rw [k2]; simpa using hdst
                        refine .inr ⟨es[d.on], he', ?_, hdst', h.St.envS _ he' (by rw [hi']; exact hlt) t y hdst' hg⟩
                        show _ ∈ al
                        rw [hi', hal, ← han]
                        exact (ancsL_bit _ _ _).2 ⟨d, hd, hb, .inl rfl⟩
                      · have hw := wrOk_some hc1
                        refine .inl ⟨.inr ⟨ht, hw⟩, ?_⟩
                        rw [← h.St.envU t ht fun e' he' hs' hd' => ?_]
                        · exact hg
                        · have hlt' := (h.lt he').1
                          obtain ⟨o', k1, k2, _, k5, _⟩ := h.opd e' he'
                          rcases hw e'.i o' (by have hm' : i + (o :: rest).length ≤ m := hmm; rw [List.length_cons] at hm'; omega) k1 (by rw [← k2]; exact hd') with h5 | ⟨d, h5, h6, h7⟩
                          · omega
                          · have := h.E.anlt e' he' _ (k5 d h5 h6); omega
                    · exact .inl ⟨.inl ht, by rw [← h.St.env0 t ht]; exact hg⟩
                  · exact .inl hx.symm
              ob := fun id x hx => by
                obtain ⟨h1, h2, h3⟩ := hob id x hx
                refine ⟨fun j hj => ?_, ?_⟩
                · have hm : some x ∈ pt.hp := by
                    unfold Sg.ob at hx
                    cases hg : pt.hp[id]? with
                    | none => rw [hg] at hx; simp at hx
                    | some y => rw [hg] at hx; simp only [Option.join_some] at hx; subst hx; exact List.mem_of_getElem? hg
                  have := c3 _ hm
                  simp only [List.all_eq_true, decide_eq_true_eq] at this
                  exact this j hj
                · rcases h3 with ⟨h3, _⟩ | ⟨h3, h4⟩
                  · refine .inl ⟨h3, by rw [← h.St.ob0 id h3]; exact h1, ?_⟩
                    show st.ob id = some x
                    have h5 := hkeepL id x h3 hx
                    rw [← hst]
                    split
                    · rename_i ht
                      rw [frzA_ob, if_neg]
                      · exact h5
                      · intro hc
                        rcases d2 with d2 | d2
                        · rw [ht] at d2; simp at d2
                        · have := d2 id hc
                          have : id ∈ ins ++ List.range' (base + i * k) k := by simpa using this
                          rcases List.mem_append.1 this with h6 | h6
                          · have := hinsB id h6; omega
                          · have := (mem_seg.1 h6).1; omega
                    · exact h5
                  · refine .inr ⟨h4, ?_⟩
                    obtain ⟨⟨h5, h6⟩, _⟩ := c4 id h4
                    have h6 : id ∉ used := by simpa using h6
                    have h7 := h5
                    rw [← han] at h7
                    obtain ⟨dd, hdd2, hdb, hx7⟩ := ancs_some h h7
                    have h5 : (id - base) / k ∈ al := hal' _ h5
                    have hlt : (id - base) / k < es.length := by
                      have := hafter dd hdd2 hdb
                      rcases hx7 with hx7 | ⟨e', he', k1, k2⟩
                      · omega
                      · have := h.E.anlt e' he' _ k2; have := (h.lt he').1; omega
                    have he' := List.getElem_mem hlt
                    have hi' := h.idx _ _ (List.getElem?_eq_getElem hlt)
                    have hsg : seg base k es[(id - base) / k].i id := div_seg hk h3 hi'.symm
                    refine ⟨es[(id - base) / k], he', by rw [hi']; exact h5, hsg, ?_⟩
                    rw [← h.St.obS _ he' (by rw [hi']; exact hlt) id hsg fun e2 he2 _ hi2 => h6 (h.used e2 he2 id hi2)]
                    exact h1
              ins := fun id hid => (c4 id hid).2 }
          have hp := h.push (e := e) (used' := ins ++ used) (σ2 := σ3) (ids := ins ++ List.range' (base + i * k) k) hk hN ho hafter hl.symm rfl (by rw [han]; exact hal) (.inl ⟨hg e rfl, pt, v1, σ1, R'⟩) (fun e' he' t ht => hddo e' he' t ht)
            (fun t ht => hdm o (by simp) t ht)
            (fun id hid => by
              obtain ⟨⟨h5, h6⟩, h7⟩ := c4 id hid
              obtain ⟨x, hx⟩ := Option.isSome_iff_exists.1 h7
              have := (hob id x hx).2.1
              exact ⟨hinsB id hid, by rw [← hlenN]; omega, hal' _ h5⟩)
            (fun id hid => by
              obtain ⟨⟨h5, h6⟩, h7⟩ := c4 id hid
              simpa using h6)
            (fun id hid => segOk_iff hal' (d3 id hid))
            (fun id hid x hx j hj => by
              have := d4 id ((hidsOf id).2 hid)
              have hx : st.ob id = some x := hx
              rw [hx] at this
              simp only [List.all_eq_true] at this
              exact segOk_iff hal' (this j hj))
            (by show base + (i + 1) * k ≤ N; exact hroom1) hidsOf (by rw [hhp3, mergeS_len])
            (fun id => by
              have : σ3.ob id = (mergeS σ st (ins ++ List.range' (base + i * k) k)).ob id := by unfold Sg.ob; rw [hhp3]
              rw [this, mergeS_ob])
            (by rw [henv3, mergeS_env]; rfl) (fun id hid => by rw [List.mem_append]; exact hid.symm)
          rw [han] at hp
          exact next (σ := σ) e σ3 _ hp rfl rfl hr3
        · simp at hr
      · simp at hr
    have skip : ∀ σ : Sg, PI C ops th ds m base k N σ0 ancL used es σ → (∀ e : Ent, e.an = al → GuardF ops σ0.env.length es o e false) →
        putK σ o.dst (.l .und) (drawK C ops th ds m base k (i + 1) rest (ancL ++ [ancs ancL o]) used · K) = some r → ∃ es' ancL' used' σ', PI C ops th ds m base k N σ0 ancL' used' es' σ' ∧ es'.length = i + (o :: rest).length ∧ K σ' = some r := by
      intro σ h hg hr
      obtain ⟨σ3, hr3, hhp3, henv3⟩ := putOf hr
      let e : Ent := ⟨i, o.dst, .l .und, ⟨[], []⟩, [], al⟩
      have hp := h.push (e := e) (used' := used) (σ2 := σ3) (ids := List.range' (base + i * k) k) hk hN ho hafter hl.symm rfl hal (.inr ⟨hg e rfl, rfl, rfl, fun id => by simp [e, Sg.ob]⟩) (fun e' he' t ht => hddo e' he' t ht)
        (fun t ht => hdm o (by simp) t ht) (fun id hid => by simp [e] at hid) (fun id hid => by simp [e] at hid) (fun id hid => by simp [e, A.refs, L.refs] at hid) (fun id hid x hx => by simp [e, Sg.ob] at hx)
        (by show base + (i + 1) * k ≤ N; exact hroom1) (fun id => by rw [← seg_iff]; simp [e]) (by rw [hhp3])
        (fun id => by
          have : σ3.ob id = σ.ob id := by unfold Sg.ob; rw [hhp3]
          rw [this]
          split
          · rename_i hc
            have hsg := seg_iff.2 hc.1
            rw [h.St.obN id (seg_div hk hsg).1 fun e' he' hs' hsg' => ?_]
            · simp [e, Sg.ob]
            · have h1 := (seg_div hk hsg).2
              rw [(seg_div hk hsg').2] at h1
              omega
          · rfl)
        henv3 (fun id hid => hid.elim (fun h => h) fun h => by simp [e] at h)
      exact next (σ := σ) e σ3 _ hp rfl rfl hr3
    unfold drawK at hr
    simp only at hr
    split at hr
    · rename_i hgd
      exact run σ h (fun e _ => .inl ⟨hgd, rfl⟩) hr
    · rename_i j want hgd
      split at hr
      · rename_i d hdj haj
        split at hr
        · rename_i nn b hget
          have hdlt : σ.env[d]? = some (.l (.dat nn .bool b)) := by
            rw [getA_tmp] at hget
            cases hgg : σ.env[d]? with
            | none => rw [hgg] at hget; simp at hget
            | some y => rw [hgg] at hget; simp only [Option.getD_some] at hget; rw [hget]
          simp only [List.any_eq_true, Bool.and_eq_true, beq_iff_eq] at haj
          obtain ⟨dd, hdd1, hdd2, hdd3⟩ := haj
          have hjlt : j < es.length := by rw [← hdd3]; exact hafter dd hdd1 hdd2
          have he' := List.getElem_mem hjlt
          have hi' := h.idx j _ (List.getElem?_eq_getElem hjlt)
          have hdst' : es[j].dst = some d := by
            obtain ⟨o', k1, k2, _⟩ := h.opd _ he'
            rw [hi'] at k1
            rw [k1] at hdj
            rw [k2]; simpa using hdj
          have hq : Eqv es[j].v (boolA b) := (h.St.envS _ he' (by rw [hi']; exact hjlt) d _ hdst' hdlt).symm.trans (Eqv.bool _ _ b)
          have h2 := h.refine hdlt (y := boolA b) (Eqv.bool _ _ b) ⟨_, he', hdst'⟩
          have hgf : ∀ run, run = (b == want) → ∀ e : Ent, e.an = al → GuardF ops σ0.env.length es o e run := fun run hrun e hean => by
            refine .inr ⟨j, want, d, hgd, hdj, by rw [← h.St.len]; exact (List.getElem?_eq_some_iff.1 hdlt).1, ?_, _, he', hi', hdst', .inl ⟨b, hrun, hq⟩⟩
            rw [hean, hal]
            exact (ancsL_bit _ _ _).2 ⟨dd, hdd1, hdd2, .inl hdd3⟩
          have go : ∀ k' : Sg → Option ρ, putK σ (some d) (boolA b) k' = k' { σ with env := σ.env.set d (boolA b) } := fun k' => by simp only [putK, setK_eq]
          cases b with
          | true =>
            simp only [cond_true] at hr
            rw [go] at hr
            cases want with
            | true => exact run _ h2 (hgf true rfl) hr
            | false => exact skip _ h2 (hgf false rfl) hr
          | false =>
            simp only [cond_false] at hr
            rw [go] at hr
            cases want with
            | true => exact skip _ h2 (hgf false rfl) hr
            | false => exact run _ h2 (hgf true rfl) hr
        · rename_i hget
          have hdlt : σ.env[d]? = some (.l .und) := by
            rw [getA_tmp] at hget
            cases hgg : σ.env[d]? with
            | none => rw [hgg] at hget; simp at hget
            | some y => rw [hgg] at hget; simp only [Option.getD_some] at hget; rw [hget]
          simp only [List.any_eq_true, Bool.and_eq_true, beq_iff_eq] at haj
          obtain ⟨dd, hdd1, hdd2, hdd3⟩ := haj
          have hjlt : j < es.length := by rw [← hdd3]; exact hafter dd hdd1 hdd2
          have he' := List.getElem_mem hjlt
          have hi' := h.idx j _ (List.getElem?_eq_getElem hjlt)
          have hdst' : es[j].dst = some d := by
            obtain ⟨o', k1, k2, _⟩ := h.opd _ he'
            rw [hi'] at k1
            rw [k1] at hdj
            rw [k2]; simpa using hdj
          have hq : Eqv es[j].v (.l .und) := (h.St.envS _ he' (by rw [hi']; exact hjlt) d _ hdst' hdlt).symm
          refine skip σ h (fun e hean => ?_) hr
          refine .inr ⟨j, want, d, hgd, hdj, by rw [← h.St.len]; exact (List.getElem?_eq_some_iff.1 hdlt).1, ?_, _, he', hi', hdst', .inr ⟨rfl, hq⟩⟩
          rw [hean, hal]
          exact (ancsL_bit _ _ _).2 ⟨dd, hdd1, hdd2, .inl hdd3⟩
        · simp at hr
      · simp at hr

end
end Go.Proofs.Ytajlabmnpimeeaa.Eng
