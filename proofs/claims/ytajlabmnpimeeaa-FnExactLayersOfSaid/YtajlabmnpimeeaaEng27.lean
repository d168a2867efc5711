/-
  The engine, part 27. One operation beside others. No condition.
-/
import Derived.Test.YtajlabmnpimeeaaEng26
namespace Go.Proofs.Ytajlabmnpimeeaa.Eng
open Go
set_option linter.unusedVariables false
set_option linter.unusedSimpArgs false

section
variable {ρ : Type} {C : Ctx} {E : En} {G G' G2 : Gh} {σ σo σo' : Sg} {a : Act} {w w' : World} {I : Nat → Prop} {N : Nat}

theorem VL.ghost : (l : L) → {v : Value} → (hg : ∀ id ∈ l.refs, (G2 id).1 = (G id).1) → VL I N G w l v → VL I N G2 w l v
  | .unk, _, _, _ => trivial
  | .nils, _, _, h => h
  | .dat _ _ _, _, _, h => h
  | .cptr _ _, _, _, h => h
  | .ref id, _, hg, h => ⟨h.1, by rw [hg id (by simp [L.refs])]; exact h.2⟩
  | .optr id _ _, _, hg, h => ⟨h.1, by rw [hg id (by simp [L.refs])]; exact h.2⟩
  | .bptr id _, _, hg, h => ⟨h.1, by rw [hg id (by simp [L.refs])]; exact h.2⟩
  | .fn _, _, _, h => h
  | .und, _, _, h => h
  | .sub id _ _ _, _, hg, h => ⟨h.1, by rw [hg id (by simp [L.refs])]; exact h.2⟩
  | .clo f ids, _, hg, h => by
    have e : (ids.map fun id => (G2 id).1) = ids.map fun id => (G id).1 := List.map_congr_left fun id hi => hg id (by simpa [L.refs] using hi)
    refine ⟨by rw [e]; exact h.1, fun id hi => ⟨(h.2 id hi).1, ?_⟩⟩
    rw [hg id (by simpa [L.refs] using hi)]; exact (h.2 id hi).2

theorem VLs.ghost : (ls : List L) → {vs : List Value} → (hg : ∀ id ∈ ls.flatMap L.refs, (G2 id).1 = (G id).1) → VLs I N G w ls vs → VLs I N G2 w ls vs
  | [], [], _, _ => trivial
  | [], _ :: _, _, h => h.elim
  | _ :: _, [], _, h => h.elim
  | l :: ls, v :: vs, hg, h => ⟨⟨VL.ghost l (fun id hi => hg id (by rw [List.flatMap_cons]; exact List.mem_append_left _ hi)) h.1.1, h.1.2⟩, VLs.ghost ls (fun id hi => hg id (by rw [List.flatMap_cons]; exact List.mem_append_right _ hi)) h.2⟩

theorem VPs.ghost : (ps : List (Bool × List L)) → {vs : List Value} → (hg : ∀ id ∈ ps.flatMap (fun p => p.2.flatMap L.refs), (G2 id).1 = (G id).1) → VPs I N G w ps vs → VPs I N G2 w ps vs
  | [], [], _, _ => trivial
  | [], _ :: _, _, h => h.elim
  | _ :: _, [], _, h => h.elim
  | (true, ls) :: ps, v :: vs, hg, h => by
    refine ⟨?_, VPs.ghost ps (fun id hi => hg id (by rw [List.flatMap_cons]; exact List.mem_append_right _ hi)) h.2⟩
    obtain ⟨us, e, h1⟩ := h.1
    exact ⟨us, e, VLs.ghost ls (fun id hi => hg id (by rw [List.flatMap_cons]; exact List.mem_append_left _ hi)) h1⟩
  | (false, ls) :: ps, v :: vs, hg, h => by
    refine ⟨?_, VPs.ghost ps (fun id hi => hg id (by rw [List.flatMap_cons]; exact List.mem_append_right _ hi)) h.2⟩
    obtain ⟨l, e, h1⟩ := h.1
    subst e
    exact ⟨l, rfl, VL.ghost l (fun id hi => hg id (by rw [List.flatMap_cons]; exact List.mem_append_left _ (by simpa using hi))) h1⟩

theorem VA.ghost : (x : A) → {v : Value} → (hg : ∀ id ∈ x.refs, (G2 id).1 = (G id).1) → VA I N G w x v → VA I N G2 w x v
  | .l l, _, hg, h => VL.ghost l hg h
  | .a ls, _, hg, ⟨vs, e, h⟩ => ⟨vs, e, VLs.ghost ls hg h⟩
  | .t ps, _, hg, ⟨vs, e, h⟩ => ⟨vs, e, VPs.ghost ps hg h⟩

/-- What one operation beside others may touch. -/
def Eop (E : En) (G : Gh) (σ σo : Sg) (w : World) : En :=
  { w0 := w
    A := fun b => Imm E G σ w b ∨ ∃ id o, σo.ob id = some o ∧ o.ro = false ∧ b ∈ (G id).2
    X := fun b => ∃ id o, σo.ob id = some o ∧ o.ro = false ∧ b ∈ (G id).2
    H := fun b => ∃ id o, σo.ob id = some o ∧ o.ro = false ∧ (G id).2.head? = some b
    F := fun _ => False
    V := fun _ => undef }

/-- A part of a state, in which an operation is run. -/
structure Part (σ σo : Sg) : Prop where
  len : σo.env.length = σ.env.length
  env : ∀ (t : Nat) (x : A), σo.env[t]? = some x → x = .l .unk ∨ ((∃ y, σ.env[t]? = some y ∧ ∀ (I : Nat → Prop) (N : Nat) (G : Gh) (w : World) (v : Value), VA I N G w y v → VA I N G w x v) ∧ x.bd σo.hp.length)
  ob : ∀ id o, σo.ob id = some o → σ.ob id = some o ∧ o.bd σo.hp.length
  n : σo.hp.length ≤ σ.hp.length

theorem Part.rel (p : Part σ σo) (h : RelG E G σ a w) : RelG (Eop E G σ σo w) G σo a w := by
  have himm : ∀ b, Imm E G σ w b → Imm (Eop E G σ σo w) G σo w b := fun b hb => ⟨hb.1, fun _ => .inl hb, fun id o ho hr => hb.2.2 id o (p.ob id o ho).1 hr⟩
  have hk : Keep (Imm E G σ w) (Imm (Eop E G σ σo w) G σo w) σ.hp.length σ.hp.length G G w w := ⟨himm, fun _ _ => rfl, Nat.le_refl _, fun _ _ => rfl⟩
  exact
  { defers := h.defers
    len := by rw [p.len]; exact h.len
    env := fun t x hx => by
      rcases p.env t x hx with rfl | ⟨⟨y, hy, hw⟩, hb⟩
      · trivial
      · exact ((hw _ _ _ _ _ (h.env t y hy)).keep hk x).lower x hb
    obs := fun id o ho => by
      obtain ⟨h1, h2⟩ := p.ob id o ho
      exact ((h.obs id o h1).keep hk (Sg.ob_lt h1) rfl o fun _ _ _ => rfl).lower o h2
    nodup := fun id o ho => h.nodup id o (p.ob id o ho).1
    range := fun id o ho hr b hb => ⟨(h.range id o (p.ob id o ho).1 hr b hb).1, fun _ => ⟨id, o, ho, hr, hb⟩⟩
    hrange := fun id o ho hr b hb _ => ⟨id, o, ho, hr, hb⟩
    disj := fun id id' o o' ho hr ho' => h.disj id id' o o' (p.ob id o ho).1 hr (p.ob id' o' ho').1
    os := rfl
    tape := rfl
    output := rfl
    size := Nat.le_refl _
    frame := fun _ _ _ => rfl
    xa := fun b hb => .inr hb
    fixd := fun _ ht => ht.elim }

/-- Behind it: its objects as it left them, the others as they were. -/
theorem Part.join (p : Part σ σo) (h : RelG E G σ a w) {σ2 : Sg} {hi : Nat} (ho : RelG (Eop E G σ σo w) G' σo' a w') (hga : ∀ id, id < σo.hp.length → (G' id).1 = (G id).1) (hhi : σo'.hp.length ≤ hi) (hhi2 : hi ≤ σ.hp.length)
    (hlen : σ2.hp.length = σ.hp.length) (henv : σ2.env = σ.env)
    (hσ2 : ∀ id o, σ2.ob id = some o → (((σo.ob id).isSome = true ∨ (σo.hp.length ≤ id ∧ id < hi)) ∧ σo'.ob id = some o) ∨ ((σo.ob id = none ∧ ¬ (σo.hp.length ≤ id ∧ id < hi)) ∧ σ.ob id = some o))
    (hre : ∀ (t : Nat) (x : A), σ.env[t]? = some x → ∀ id ∈ x.refs, ¬ (σo.hp.length ≤ id ∧ id < hi)) (hro : ∀ id o, σ.ob id = some o → ∀ i ∈ o.refs, ¬ (σo.hp.length ≤ i ∧ i < hi)) :
    ∃ G2, RelG E G2 σ2 a w' ∧ (∀ id, id < hi → ((σo.ob id).isSome = true ∨ σo.hp.length ≤ id) → G2 id = G' id) ∧ (∀ id, ¬ (σo.hp.length ≤ id ∧ id < hi) → (G2 id).1 = (G id).1) ∧
      (∀ b, Imm (Eop E G σ σo w) G' σo' w' b → Imm E G2 σ2 w' b) ∧ (∀ b, Imm E G σ w b → Imm E G2 σ2 w' b ∧ w'.heap[b]? = w.heap[b]?) := by
  classical
  let mine : Nat → Prop := fun id => (σo.ob id).isSome = true ∨ (σo.hp.length ≤ id ∧ id < hi)
  let G2 : Gh := fun id => if mine id then G' id else G id
  have hG2m : ∀ id, mine id → G2 id = G' id := fun id hm => by simp only [G2, if_pos hm]
  have hG2o : ∀ id, ¬ mine id → G2 id = G id := fun id hm => by simp only [G2, if_neg hm]
  have hsome : ∀ id, (σo.ob id).isSome = true → ∃ o, σo.ob id = some o := fun id hs => Option.isSome_iff_exists.1 hs
  have hG21 : ∀ id, ¬ (σo.hp.length ≤ id ∧ id < hi) → (G2 id).1 = (G id).1 := fun id hn => by
    by_cases hm : mine id
    · rw [hG2m id hm]
      rcases hm with hm | hm
      · obtain ⟨o, hoo⟩ := hsome id hm; exact hga id (Sg.ob_lt hoo)
      · exact absurd hm hn
    · rw [hG2o id hm]
  have hcase : ∀ id o, σ2.ob id = some o → (mine id ∧ σo'.ob id = some o) ∨ (¬ mine id ∧ σ.ob id = some o) := fun id o h2 => by
    rcases hσ2 id o h2 with ⟨h1, h3⟩ | ⟨⟨h1, h3⟩, h4⟩
    · exact .inl ⟨h1, h3⟩
    · exact .inr ⟨fun hm => hm.elim (fun hs => by rw [h1] at hs; simp at hs) h3, h4⟩
  -- claims of the part
  have hX : ∀ b, (Eop E G σ σo w).X b → b < w.heap.size ∧ (b < E.B → E.X b) ∧ ∀ id o, σ.ob id = some o → o.ro = false → ¬ mine id → b ∉ (G id).2 := fun b ⟨id, o, h1, h2, h3⟩ => by
    have hs := (p.ob id o h1).1
    refine ⟨(h.range id o hs h2 b h3).1, (h.range id o hs h2 b h3).2, fun id' o' h4 h5 h6 => ?_⟩
    exact h.disj id id' o o' hs h2 h4 h5 (fun e => h6 (.inl (by rw [← e, h1]; rfl))) b h3
  have hsame : ∀ b, b < w.heap.size → ¬ (Eop E G σ σo w).H b → w'.heap[b]? = w.heap[b]? := fun b hb hH => ho.frame b hb hH
  have hHX : ∀ b, (Eop E G σ σo w).H b → (Eop E G σ σo w).X b := fun b ⟨id, o, h1, h2, h3⟩ => ⟨id, o, h1, h2, List.mem_of_mem_head? h3⟩
  have hbig : ∀ b, Imm E G σ w b → Imm E G2 σ2 w' b ∧ w'.heap[b]? = w.heap[b]? := fun b hb => by
    refine ⟨⟨Nat.lt_of_lt_of_le hb.1 ho.size, hb.2.1, fun id o h2 hr hh => ?_⟩, hsame b hb.1 fun ⟨id, o, h1, h2, h3⟩ => hb.2.2 id o (p.ob id o h1).1 h2 h3⟩
    rcases hcase id o h2 with ⟨hm, h3⟩ | ⟨hm, h3⟩
    · rw [hG2m id hm] at hh
      obtain ⟨id', o', k1, k2, k3⟩ := ho.hrange id o h3 hr b hh hb.1
      exact hb.2.2 id' o' (p.ob id' o' k1).1 k2 k3
    · rw [hG2o id hm] at hh
      exact hb.2.2 id o h3 hr hh
  have hsmall : ∀ b, Imm (Eop E G σ σo w) G' σo' w' b → Imm E G2 σ2 w' b := fun b hb => by
    refine ⟨hb.1, fun hB => ?_, fun id o h2 hr hh => ?_⟩
    · rcases hb.2.1 (Nat.lt_of_lt_of_le hB h.size) with h1 | h1
      · exact h1.2.1 hB
      · exact h.xa b ((hX b h1).2.1 hB)
    · rcases hcase id o h2 with ⟨hm, h3⟩ | ⟨hm, h3⟩
      · rw [hG2m id hm] at hh; exact hb.2.2 id o h3 hr hh
      · rw [hG2o id hm] at hh
        have hmem := List.mem_of_mem_head? hh
        rcases hb.2.1 (h.range id o h3 hr b hmem).1 with h1 | h1
        · exact h1.2.2 id o h3 hr hh
        · exact (hX b h1).2.2 id o h3 hr hm hmem
  have hkb : Keep (Imm E G σ w) (Imm E G2 σ2 w') σ.hp.length σ.hp.length G G w w' := ⟨fun b hb => (hbig b hb).1, fun b hb => (hbig b hb).2, Nat.le_refl _, fun _ _ => rfl⟩
  refine ⟨G2, ?_, fun id h1 h2 => hG2m id (h2.imp_right fun h2 => ⟨h2, h1⟩), hG21, hsmall, hbig⟩
  exact
  { defers := h.defers
    len := by rw [henv]; exact h.len
    env := fun t x hx => by
      rw [henv] at hx
      rw [hlen]
      exact VA.ghost x (fun id hi => hG21 id (hre t x hx id hi)) ((h.env t x hx).keep hkb x)
    obs := fun id o h2 => by
      rw [hlen]
      rcases hcase id o h2 with ⟨hm, h3⟩ | ⟨hm, h3⟩
      · have hor := ho.obs id o h3
        refine hor.keep ⟨hsmall, fun _ _ => rfl, Nat.le_trans hhi hhi2, fun i hi => ?_⟩ (Sg.ob_lt h3) (hG2m id hm) o fun _ _ _ => rfl
        by_cases him : mine i
        · rw [hG2m i him]
        · rw [hG2o i him]
          have : i < σo.hp.length := by
            rcases Nat.lt_or_ge i σo.hp.length with hl | hl
            · exact hl
            · exact absurd (Or.inr ⟨hl, Nat.lt_of_lt_of_le hi hhi⟩) him
          exact (hga i this).symm
      · have hor := h.obs id o h3
        have hor := hor.keep hkb (Sg.ob_lt h3) rfl o fun hr b hb => hsame b (h.range id o h3 hr b hb).1 fun hH => (hX b (hHX b hH)).2.2 id o h3 hr hm hb
        have e2 := hG2o id hm
        cases o with
        | own ro dp e t x => cases ro <;> (simp only [OR] at hor ⊢; rw [e2]; exact hor)
        | box ro e cs =>
          simp only [OR] at hor ⊢
          rw [e2]
          obtain ⟨b, arr, k1, k2, k3, k4⟩ := hor
          exact ⟨b, arr, k1, k2, VLs.ghost cs (fun i hi => hG21 i (hro id _ h3 i hi)) k3, k4⟩
    nodup := fun id o h2 hr => by
      rcases hcase id o h2 with ⟨hm, h3⟩ | ⟨hm, h3⟩
      · rw [hG2m id hm]; exact ho.nodup id o h3 hr
      · rw [hG2o id hm]; exact h.nodup id o h3 hr
    range := fun id o h2 hr b hb => by
      rcases hcase id o h2 with ⟨hm, h3⟩ | ⟨hm, h3⟩
      · rw [hG2m id hm] at hb
        obtain ⟨h4, h5⟩ := ho.range id o h3 hr b hb
        exact ⟨h4, fun hB => (hX b (h5 (Nat.lt_of_lt_of_le hB h.size))).2.1 hB⟩
      · rw [hG2o id hm] at hb
        obtain ⟨h4, h5⟩ := h.range id o h3 hr b hb
        exact ⟨Nat.lt_of_lt_of_le h4 ho.size, h5⟩
    hrange := fun id o h2 hr b hb hB => by
      rcases hcase id o h2 with ⟨hm, h3⟩ | ⟨hm, h3⟩
      · rw [hG2m id hm] at hb
        obtain ⟨id', o', k1, k2, k3⟩ := ho.hrange id o h3 hr b hb (Nat.lt_of_lt_of_le hB h.size)
        exact h.hrange id' o' (p.ob id' o' k1).1 k2 b k3 hB
      · rw [hG2o id hm] at hb
        exact h.hrange id o h3 hr b hb hB
    disj := fun i j o1 o2 h1 hr1 h2 hr2 hij b hb hb2 => by
      have cross : ∀ (i j : Nat) (o1 o2 : Ob), mine i → σo'.ob i = some o1 → o1.ro = false → ¬ mine j → σ.ob j = some o2 → o2.ro = false → b ∈ (G' i).2 → b ∈ (G j).2 → False := fun i j o1 o2 hm1 h1 hr1 hm2 h2 hr2 hb hb2 => by
        have hlt := (h.range j o2 h2 hr2 b hb2).1
        exact (hX b ((ho.range i o1 h1 hr1 b hb).2 hlt)).2.2 j o2 h2 hr2 hm2 hb2
      rcases hcase i o1 h1 with ⟨hm1, h1⟩ | ⟨hm1, h1⟩ <;> rcases hcase j o2 h2 with ⟨hm2, h2⟩ | ⟨hm2, h2⟩
      · rw [hG2m i hm1] at hb; rw [hG2m j hm2] at hb2
        exact ho.disj i j o1 o2 h1 hr1 h2 hr2 hij b hb hb2
      · rw [hG2m i hm1] at hb; rw [hG2o j hm2] at hb2
        exact cross i j o1 o2 hm1 h1 hr1 hm2 h2 hr2 hb hb2
      · rw [hG2o i hm1] at hb; rw [hG2m j hm2] at hb2
        exact cross j i o2 o1 hm2 h2 hr2 hm1 h1 hr1 hb2 hb
      · rw [hG2o i hm1] at hb; rw [hG2o j hm2] at hb2
        exact h.disj i j o1 o2 h1 hr1 h2 hr2 hij b hb hb2
    os := ho.os.trans h.os
    tape := ho.tape.trans h.tape
    output := ho.output.trans h.output
    size := Nat.le_trans h.size ho.size
    frame := fun b hB hH => (hsame b (Nat.lt_of_lt_of_le hB h.size) fun ⟨id, o, k1, k2, k3⟩ => hH (h.hrange id o (p.ob id o k1).1 k2 b k3 hB)).trans (h.frame b hB hH)
    xa := h.xa
    fixd := h.fixd }

end
end Go.Proofs.Ytajlabmnpimeeaa.Eng
