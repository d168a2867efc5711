/-
  The engine, part 24. Code. No condition.
-/
import Derived.Test.YtajlabmnpimeeaaEng36
namespace Go.Proofs.Ytajlabmnpimeeaa.Eng
open Go
set_option linter.unusedVariables false
set_option linter.unusedSimpArgs false

def AEx.ex : AEx → Exit
  | .normal => .normal
  | .exit id => .exit id
  | .ret => .ret

section
variable {ρ : Type} {C : Ctx} {E : En} {G : Gh} {σ σF : Sg} {a : Act} {w : World}

/-! Loops. -/

theorem iterN_det {σ β : Type} {step : σ → Option (σ ⊕ β)} : (n m : Nat) → {s : σ} → {x y : β} → iterN step n s = some x → iterN step m s = some y → x = y
  | 0, _, s, x, y, h, _ => by simp [iterN] at h
  | _ + 1, 0, s, x, y, _, h => by simp [iterN] at h
  | n + 1, m + 1, s, x, y, h1, h2 => by
    simp only [iterN] at h1 h2
    cases hs : step s with
    | none => rw [hs] at h1; simp at h1
    | some r =>
      rw [hs] at h1 h2
      cases r with
      | inl s' => exact iterN_det n m h1 h2
      | inr b => simp at h1 h2; rw [← h1, ← h2]

theorem iter_some {σ β : Type} {step : σ → Option (σ ⊕ β)} {s : σ} {y : β} (h : iter step s = some y) : ∃ n, iterN step n s = some y := by
  unfold iter at h
  split at h
  · rename_i hx
    obtain rfl := Option.some.inj h
    exact ⟨_, hx.choose_spec.choose_spec⟩
  · simp at h

theorem iter_of {σ β : Type} {step : σ → Option (σ ⊕ β)} {s : σ} {y : β} {n : Nat} (h : iterN step n s = some y) : iter step s = some y := by
  unfold iter
  have hx : ∃ n b, iterN step n s = some b := ⟨n, y, h⟩
  rw [dif_pos hx]
  exact congrArg some (iterN_det _ _ hx.choose_spec.choose_spec h)

/-- One round of a loop. -/
theorem iter_eq {σ β : Type} (step : σ → Option (σ ⊕ β)) (s : σ) : iter step s = match step s with
    | none => none
    | some (.inl s') => iter step s'
    | some (.inr b) => some b := by
  cases h : iter step s with
  | some y =>
    obtain ⟨n, hn⟩ := iter_some h
    cases n with
    | zero => simp [iterN] at hn
    | succ n =>
      simp only [iterN] at hn
      cases hs : step s with
      | none => rw [hs] at hn; simp at hn
      | some r =>
        rw [hs] at hn
        cases r with
        | inl s' => exact (iter_of hn).symm
        | inr b => exact hn.symm
  | none =>
    cases hs : step s with
    | none => rfl
    | some r =>
      cases r with
      | inl s' =>
        simp only
        cases h' : iter step s' with
        | none => rfl
        | some y =>
          obtain ⟨n, hn⟩ := iter_some h'
          have : iterN step (n + 1) s = some y := by simp only [iterN, hs, hn]
          rw [iter_of this] at h; simp at h
      | inr b =>
        have : iterN step 1 s = some b := by simp only [iterN, hs]
        rw [iter_of this] at h; simp at h

/-- A loop's rounds, from the front of its body. -/
def Rounds (P : Program) (c : Code) (Q : Exit → Act → World → Prop) (a : Act) (w : World) : Prop :=
  ∀ (b : Frame) (k : List Item) (cs : List Frame), ∃ e a' w', Q e a' w' ∧ Arrives P (lone (b.at a (.code c :: .inLoop c :: k)) cs w) b k cs e a' w'

theorem Rounds.step {P : Program} {c : Code} {Q : Exit → Act → World → Prop} {a : Act} {w : World} (h : c.wp P (Exit.then (Rounds P c Q) Q) a w) : Rounds P c Q a w := by
  intro b k cs
  obtain ⟨e, a₁, w₁, hq, harr⟩ := h b (.inLoop c :: k) cs
  cases e with
  | normal =>
    obtain ⟨e₂, a₂, w₂, hq₂, harr₂⟩ := hq b k cs
    exact ⟨e₂, a₂, w₂, hq₂, .of_steps (Steps.trans harr (.one step_inLoop)) harr₂⟩
  | exit id => exact ⟨_, a₁, w₁, hq, .pass (x := .inLoop c) rfl (fun _ _ => .inl (by simp)) harr⟩
  | goto l => exact ⟨_, a₁, w₁, hq, .pass (x := .inLoop c) rfl (fun _ _ => .inl (by simp)) harr⟩
  | ret => exact ⟨_, a₁, w₁, hq, .pass (x := .inLoop c) rfl (fun _ _ => .inl (by simp)) harr⟩
  | panic ch => exact ⟨_, a₁, w₁, hq, .pass (x := .inLoop c) rfl (fun _ _ => .inl (by simp)) harr⟩
  | outgrown => exact ⟨_, a₁, w₁, hq, .pass (x := .inLoop c) rfl (fun _ _ => .inl (by simp)) harr⟩

theorem Rounds.loop {P : Program} {c : Code} {Q : Exit → Act → World → Prop} {a : Act} {w : World} (h : Rounds P c Q a w) : (Code.loop c).wp P Q a w := by
  intro b k cs
  obtain ⟨e, a', w', hq, harr⟩ := h b k cs
  exact ⟨e, a', w', hq, .of_steps (.one step_loop) harr⟩

theorem loop_iter {P : Program} {c : Code} {S β : Type} {step : S → Option (S ⊕ β)} {Inv : S → Act → World → Prop} {Out : β → Exit → Act → World → Prop} (hOut : ∀ y a w, ¬ Out y .normal a w)
    (hb : ∀ s a w res, Inv s a w → step s = some res → c.wp P (fun e a w => match res with
      | .inl s' => e = .normal ∧ Inv s' a w
      | .inr y => Out y e a w) a w) {s : S} {y : β} {a : Act} {w : World} (h : iter step s = some y) (hi : Inv s a w) : (Code.loop c).wp P (Out y) a w := by
  obtain ⟨n, hn⟩ := iter_some h
  refine Rounds.loop ?_
  clear h
  induction n generalizing s a w with
  | zero => simp [iterN] at hn
  | succ n ih =>
    simp only [iterN] at hn
    cases hs : step s with
    | none => rw [hs] at hn; simp at hn
    | some r =>
      rw [hs] at hn
      refine Rounds.step (wp_mono (hb s a w r hi hs) fun e a' w' hq => ?_)
      cases r with
      | inl s' =>
        obtain ⟨rfl, hq⟩ := hq
        exact ih hq hn
      | inr b =>
        simp only [Option.some.injEq] at hn
        subst hn
        cases e <;> first | exact (hOut _ _ _ hq).elim | exact hq

/-- What a loop keeps, from its start. -/
structure Frm (ws : List Nat) (σ σF : Sg) : Prop where
  hp : σF.hp.length = σ.hp.length
  len : σF.env.length = σ.env.length
  erased : ∀ t, t ∈ ws → ∀ x : A, σF.env[t]? = some x → x = .l .unk
  kept : ∀ t, t ∉ ws → σF.env[t]? = σ.env[t]?
  bdE : ∀ (t : Nat) (x : A), σF.env[t]? = some x → x.bd σF.hp.length
  ro : ∀ id o, σF.ob id = some o → o.ro = true ∧ o.bd σF.hp.length
  old : ∀ id o, σ.ob id = some o → o.ro = true → σF.ob id = some o

theorem Frm.base {ws ws' slots : List Nat} {σL σ' : Sg} (h : Frm ws σ σF) (l : Lay slots σF σL) (k : Kc ws' σL σ') (h1 : ∀ t ∈ slots, t ∈ ws) (h2 : ∀ t ∈ ws', t ∈ ws) : Base σF σ' := by
  refine ⟨by rw [k.len, l.len], fun t x hx => ?_, fun id o ho => ?_⟩
  · by_cases ht : t ∈ ws
    · exact .inl (h.erased t ht x hx)
    · refine .inr ⟨?_, h.bdE t x hx⟩
      rw [k.env t fun hm => ht (h2 t hm), l.env t fun hm => ht (h1 t hm)]
      exact hx
  · obtain ⟨k1, k2⟩ := h.ro id o ho
    refine ⟨k1, k.ob id o ?_ k1, k2⟩
    rw [l.ob id (Sg.ob_lt ho)]; exact ho

theorem Frm.kc {ws slots : List Nat} {σL : Sg} (h : Frm ws σ σF) (l : Lay slots σF σL) (h1 : ∀ t ∈ slots, t ∈ ws) : Kc ws σ σL :=
  ⟨by rw [← h.hp]; exact l.n, by rw [l.len, h.len], fun t ht => by rw [l.env t fun hm => ht (h1 t hm), h.kept t ht], fun id o ho hr => by
    have := h.old id o ho hr
    rw [l.ob id (Sg.ob_lt this)]; exact this⟩

/-- What holds at the head of a round, behind an exit. -/
def At (E : En) (σF : Sg) (I0 : Nat → Prop) (G0 : Gh) (w0 : World) (ps : List (Nat × SK)) (y : SKs.den (ps.map (·.2))) (a : Act) (w : World) : Prop :=
  ∃ σL G, (∀ (ρ : Type) (k : Sg → Option ρ), layK σF ps y k = k σL) ∧ RelG E G σL a w ∧ Lay (ps.map (·.1)) σF σL ∧ Keep I0 (Imm E G σL w) σF.hp.length σL.hp.length G0 G w0 w

/-- The slots that operations write. -/
def wrC : Code → List Nat
  | .region _ ops _ => ops.toList.filterMap (·.dst)
  | .seq a b => wrC a ++ wrC b
  | .cond _ a b => wrC a ++ wrC b
  | .block _ c => wrC c
  | .loop c => wrC c
  | _ => []

theorem kpt {I0 : Nat → Prop} {G0 G1 G2 : Gh} {w0 w1 w2 : World} {σL σ' : Sg} (h : Keep I0 (Imm E G1 σL w1) σF.hp.length σL.hp.length G0 G1 w0 w1) (k : GA E σL σ' G1 G2 w1 w2) : Keep I0 (Imm E G2 σ' w2) σF.hp.length σ'.hp.length G0 G2 w0 w2 :=
  ⟨fun b hb => k.imm b (h.imm b hb), fun b hb => (k.heap b (h.imm b hb)).trans (h.heap b hb), Nat.le_trans h.n k.n, fun id hi => (k.g id (Nat.lt_of_lt_of_le hi h.n)).trans (h.g id hi)⟩

theorem codeK_some (hC : Ctrs C) (c : Code) : (∀ t ∈ wrC c, ¬ E.F t) → ∀ {ρ : Type} {σ : Sg} {G : Gh} {a : Act} {w : World} {k : AEx → Sg → Option ρ} {r : ρ}, RelG E G σ a w → codeK C c ρ σ k = some r → ∀ (Q : Exit → Act → World → Prop),
    (∀ e σ' a' w' G', k e σ' = some r → RelG E G' σ' a' w' → Kc (writes C.An c) σ σ' → GA E σ σ' G G' w w' → Q e.ex a' w') → c.wp C.P Q a w := by
  induction c with
  | skip =>
    intro hF ρ σ G a w k r h hk Q hQ
    simp only [codeK] at hk
    exact wp_skip (hQ .normal σ a w G hk h (Kc.refl _ _) (GA.refl _ _ _ _))
  | region id ops draw =>
    intro hF ρ σ G a w k r h hk Q hQ
    cases draw with
    | true =>
      simp only [codeK] at hk
      refine regionX_some (ws := writes C.An (.region id ops true)) hC h hk (fun o ho => ⟨fun t ht => ?_, fun j b t hg hd => ?_⟩) Q fun σ' a' w' G' h1 h2 h3 h4 => hQ .normal σ' a' w' G' h1 h2 h3 h4
      · refine ⟨?_, hF t (by simp only [wrC, List.mem_filterMap]; exact ⟨o, ho, ht⟩)⟩
        simp only [writes, List.mem_append, List.mem_filterMap]
        exact .inl ⟨o, ho, ht⟩
      · simp only [writes, List.mem_append, List.mem_filterMap]
        exact .inr ⟨o, ho, by rw [hg]; exact hd⟩
    | false =>
      simp only [codeK] at hk
      refine wp_region ?_
      have := opersK_some (ws := writes C.An (.region id ops false)) (ops := ops) hC ops.toList 0 (fun j o hj => by rw [Nat.zero_add, ← Array.getElem?_toList]; exact hj) (fun o ho => ⟨fun t ht => ?_, fun j b t hg hd => ?_⟩) h hk Q
        fun σ' a' w' G' h1 h2 h3 h4 => hQ .normal σ' a' w' G' h1 h2 h3 h4
      · rw [List.range_eq_range']; simpa using this
      · refine ⟨?_, hF t (by simp only [wrC, List.mem_filterMap]; exact ⟨o, ho, ht⟩)⟩
        simp only [writes, List.mem_append, List.mem_filterMap]
        exact .inl ⟨o, ho, ht⟩
      · simp only [writes, List.mem_append, List.mem_filterMap]
        exact .inr ⟨o, ho, by rw [hg]; exact hd⟩
  | seq x y ihx ihy =>
    intro hF
    replace ihx := @ihx fun t ht => hF t (by simp only [wrC]; exact List.mem_append_left _ ht)
    replace ihy := @ihy fun t ht => hF t (by simp only [wrC]; exact List.mem_append_right _ ht)
    intro ρ σ G a w k r h hk Q hQ
    simp only [codeK] at hk
    refine wp_seq (ihx h hk _ fun e σ' a' w' G' h1 h2 h3 h4 => ?_)
    have h3' : Kc (writes C.An (.seq x y)) σ σ' := h3.mono fun t ht => by simp only [writes]; exact List.mem_append_left _ ht
    cases e with
    | normal =>
      exact ihy h2 h1 Q fun e σ2 a2 w2 G2 k1 k2 k3 k4 => hQ e σ2 a2 w2 G2 k1 k2 (h3'.trans (k3.mono fun t ht => by simp only [writes]; exact List.mem_append_right _ ht)) (h4.trans k4)
    | exit id => exact hQ _ σ' a' w' G' h1 h2 h3' h4
    | ret => exact hQ _ σ' a' w' G' h1 h2 h3' h4
  | cond c x y ihx ihy =>
    intro hF
    replace ihx := @ihx fun t ht => hF t (by simp only [wrC]; exact List.mem_append_left _ ht)
    replace ihy := @ihy fun t ht => hF t (by simp only [wrC]; exact List.mem_append_right _ ht)
    intro ρ σ G a w k r h hk Q hQ
    simp only [codeK] at hk
    split at hk
    · rename_i nn cb hc
      have hv := h.get c
      rw [hc] at hv
      have hv := datBool hv
      cases cb with
      | true => exact wp_cond_true hv (ihx h hk Q fun e σ' a' w' G' h1 h2 h3 h4 => hQ e σ' a' w' G' h1 h2 (h3.mono fun t ht => by simp only [writes]; exact List.mem_append_left _ ht) h4)
      | false => exact wp_cond_false hv (ihy h hk Q fun e σ' a' w' G' h1 h2 h3 h4 => hQ e σ' a' w' G' h1 h2 (h3.mono fun t ht => by simp only [writes]; exact List.mem_append_right _ ht) h4)
    · simp at hk
  | block id c ih =>
    intro hF
    replace ih := @ih fun t ht => hF t (by simp only [wrC]; exact ht)
    intro ρ σ G a w k r h hk Q hQ
    simp only [codeK] at hk
    refine wp_block (ih h hk _ fun e σ' a' w' G' h1 h2 h3 h4 => ?_)
    cases e with
    | normal => exact hQ .normal σ' a' w' G' h1 h2 h3 h4
    | ret => exact hQ .ret σ' a' w' G' h1 h2 h3 h4
    | exit id' =>
      simp only at h1
      by_cases hid : id' = id
      · simp only [hid, if_true] at h1
        simp only [AEx.ex, Exit.inBlock, hid, if_true]
        exact hQ .normal σ' a' w' G' h1 h2 h3 h4
      · simp only [hid, if_false] at h1
        simp only [AEx.ex, Exit.inBlock, hid, if_false]
        exact hQ (.exit id') σ' a' w' G' h1 h2 h3 h4
  | exit id =>
    intro hF ρ σ G a w k r h hk Q hQ
    simp only [codeK] at hk
    exact wp_exit (hQ (.exit id) σ a w G hk h (Kc.refl _ _) (GA.refl _ _ _ _))
  | ret =>
    intro hF ρ σ G a w k r h hk Q hQ
    simp only [codeK] at hk
    exact wp_ret (hQ .ret σ a w G hk h (Kc.refl _ _) (GA.refl _ _ _ _))
  | loop c ih =>
    intro hF
    replace ih := @ih fun t ht => hF t (by simp only [wrC]; exact ht)
    intro ρ σ G a w k r h hk Q hQ
    simp only [codeK] at hk
    split at hk
    · simp at hk
    · rename_i an han
      obtain ⟨s0, σF, hk, f1, f2, f3, f4, f5, f6, f7, hstart⟩ := enter_loop (writes C.An (.loop c)) h hk
      have frm : Frm (writes C.An (.loop c)) σ σF := ⟨f1, f2, f3, f4, f5, f6, f7⟩
      have hwc : ∀ t ∈ writes C.An c, t ∈ writes C.An (.loop c) := fun t ht => by simp only [writes]; exact List.mem_append_left _ ht
      have hsl : ∀ t ∈ slotsA an, t ∈ writes C.An (.loop c) := fun t ht => by simp only [writes, han]; exact List.mem_append_right _ ht
      have hst : ∀ t ∈ an.st.map (·.1), t ∈ writes C.An (.loop c) := fun t ht => hsl t (by unfold slotsA; exact List.mem_append_left _ (List.mem_append_left _ ht))
      have hat : At E σF (Imm E G σ w) G w an.st s0 a w := hstart
      have next : ∀ {ρ' : Type} {ps : List (Nat × SK)} {K : SKs.den (ps.map (·.2)) → Sg → Option ρ'} {r' : ρ'} {σL σ' : Sg} {G' : Gh} {a' : Act} {w' : World}, Lay (an.st.map (·.1)) σF σL → RelG E G' σ' a' w' → Kc (writes C.An c) σL σ' → Keep (Imm E G σ w) (Imm E G' σ' w') σF.hp.length σ'.hp.length G G' w w' →
          takeSs σ' (ps.map (·.2)) (getsA σ' ps) K = some r' → ∃ y σ2, K y σ2 = some r' ∧ At E σF (Imm E G σ w) G w ps y a' w' := fun l hr kc hkp hk => by
        obtain ⟨y, σ2, k1, σL2, G2, k2, k3, k4, k5⟩ := relay hr (frm.base l kc hst hwc) hk
        exact ⟨y, σ2, k1, σL2, G2, k2, k3, k4, ⟨fun b hb => k5.imm b (hkp.imm b hb), fun b hb => hkp.heap b hb, k5.n, fun id hi => (k5.g id hi).trans (hkp.g id hi)⟩⟩
      split at hk
      · -- an exit
        rename_i id bs hbr hrt
        have hbs : ∀ t ∈ bs.map (·.1), t ∈ writes C.An (.loop c) := fun t ht => hsl t (by unfold slotsA; rw [hbr]; exact List.mem_append_left _ (List.mem_append_right _ ht))
        obtain ⟨y, hit, hk⟩ := Option.bind_eq_some_iff.1 hk
        refine wp_mono (loop_iter (Inv := At E σF (Imm E G σ w) G w an.st) (Out := fun y e aa ww => e = .exit id ∧ At E σF (Imm E G σ w) G w bs y aa ww) (fun y a w hf => by simp at hf) (fun s a w res hi hs => ?_) hit hat) fun e a' w' ho => ?_
        · obtain ⟨σL, G1, l1, l2, l3, l4⟩ := hi
          rw [l1] at hs
          refine ih l2 hs _ fun e σ' a' w' G' h1 h2 h3 h4 => ?_
          cases e with
          | normal =>
            obtain ⟨y, σ2, k1, k2⟩ := next l3 h2 h3 (kpt l4 h4) h1
            obtain rfl := Option.some.inj k1
            exact ⟨rfl, k2⟩
          | exit id' =>
            simp only at h1
            split at h1
            · rename_i hid
              subst hid
              obtain ⟨y, σ2, k1, k2⟩ := next l3 h2 h3 (kpt l4 h4) h1
              obtain rfl := Option.some.inj k1
              exact ⟨rfl, k2⟩
            · simp at h1
          | ret => simp at h1
        · obtain ⟨rfl, σL, G1, l1, l2, l3, l4⟩ := ho
          rw [l1] at hk
          exact hQ (.exit id) σL a' w' G1 hk l2 (frm.kc l3 hbs) (by rw [f1] at l4; exact l4)
      · rename_i rs hbr hrt
        have hrs : ∀ t ∈ rs.map (·.1), t ∈ writes C.An (.loop c) := fun t ht => hsl t (by unfold slotsA; rw [hrt]; exact List.mem_append_right _ ht)
        obtain ⟨y, hit, hk⟩ := Option.bind_eq_some_iff.1 hk
        refine wp_mono (loop_iter (Inv := At E σF (Imm E G σ w) G w an.st) (Out := fun y e aa ww => e = .ret ∧ At E σF (Imm E G σ w) G w rs y aa ww) (fun y a w hf => by simp at hf) (fun s a w res hi hs => ?_) hit hat) fun e a' w' ho => ?_
        · obtain ⟨σL, G1, l1, l2, l3, l4⟩ := hi
          rw [l1] at hs
          refine ih l2 hs _ fun e σ' a' w' G' h1 h2 h3 h4 => ?_
          cases e with
          | normal =>
            obtain ⟨y, σ2, k1, k2⟩ := next l3 h2 h3 (kpt l4 h4) h1
            obtain rfl := Option.some.inj k1
            exact ⟨rfl, k2⟩
          | exit id' => simp at h1
          | ret =>
            obtain ⟨y, σ2, k1, k2⟩ := next l3 h2 h3 (kpt l4 h4) h1
            obtain rfl := Option.some.inj k1
            exact ⟨rfl, k2⟩
        · obtain ⟨rfl, σL, G1, l1, l2, l3, l4⟩ := ho
          rw [l1] at hk
          exact hQ .ret σL a' w' G1 hk l2 (frm.kc l3 hrs) (by rw [f1] at l4; exact l4)
      · rename_i id bs rs hbr hrt
        have hbs : ∀ t ∈ bs.map (·.1), t ∈ writes C.An (.loop c) := fun t ht => hsl t (by unfold slotsA; rw [hbr]; exact List.mem_append_left _ (List.mem_append_right _ ht))
        have hrs : ∀ t ∈ rs.map (·.1), t ∈ writes C.An (.loop c) := fun t ht => hsl t (by unfold slotsA; rw [hrt]; exact List.mem_append_right _ ht)
        obtain ⟨y, hit, hk⟩ := Option.bind_eq_some_iff.1 hk
        refine wp_mono (loop_iter (Inv := At E σF (Imm E G σ w) G w an.st) (Out := fun y e aa ww => match y with
            | .inl y => e = .exit id ∧ At E σF (Imm E G σ w) G w bs y aa ww
            | .inr y => e = .ret ∧ At E σF (Imm E G σ w) G w rs y aa ww) (fun y a w hf => by cases y <;> simp at hf) (fun s a w res hi hs => ?_) hit hat) fun e a' w' ho => ?_
        · obtain ⟨σL, G1, l1, l2, l3, l4⟩ := hi
          rw [l1] at hs
          refine ih l2 hs _ fun e σ' a' w' G' h1 h2 h3 h4 => ?_
          cases e with
          | normal =>
            obtain ⟨y, σ2, k1, k2⟩ := next l3 h2 h3 (kpt l4 h4) h1
            obtain rfl := Option.some.inj k1
            exact ⟨rfl, k2⟩
          | exit id' =>
            simp only at h1
            split at h1
            · rename_i hid
              subst hid
              obtain ⟨y, σ2, k1, k2⟩ := next l3 h2 h3 (kpt l4 h4) h1
              obtain rfl := Option.some.inj k1
              exact ⟨rfl, k2⟩
            · simp at h1
          | ret =>
            obtain ⟨y, σ2, k1, k2⟩ := next l3 h2 h3 (kpt l4 h4) h1
            obtain rfl := Option.some.inj k1
            exact ⟨rfl, k2⟩
        · cases y with
          | inl y =>
            obtain ⟨rfl, σL, G1, l1, l2, l3, l4⟩ := ho
            simp only at hk
            rw [l1] at hk
            exact hQ (.exit id) σL a' w' G1 hk l2 (frm.kc l3 hbs) (by rw [f1] at l4; exact l4)
          | inr y =>
            obtain ⟨rfl, σL, G1, l1, l2, l3, l4⟩ := ho
            simp only at hk
            rw [l1] at hk
            exact hQ .ret σL a' w' G1 hk l2 (frm.kc l3 hrs) (by rw [f1] at l4; exact l4)
      · simp at hk
  | _ =>
    intro hF ρ σ G a w k r h hk Q hQ
    simp [codeK] at hk

end
end Go.Proofs.Ytajlabmnpimeeaa.Eng
