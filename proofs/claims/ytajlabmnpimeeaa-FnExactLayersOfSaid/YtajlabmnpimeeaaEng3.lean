/-
  The engine, part 3. When a state of the evaluator stands for a state of the machine. No condition.
-/
import Derived.Test.YtajlabmnpimeeaaEng2
namespace Go.Proofs.Ytajlabmnpimeeaa.Eng
open Go
open Go.RowKit (Below)
set_option linter.unusedVariables false
set_option linter.unusedSimpArgs false

/-- What is fixed in one activation: the world at its start; the old blocks that it may read ('A'), those that were handed over ('X'), those that it may write ('H'); slots that it never writes ('F'), and what they hold ('V'). -/
structure En where
  w0 : World
  A : Nat → Prop
  X : Nat → Prop
  H : Nat → Prop
  F : Nat → Prop
  V : Nat → Value

abbrev En.B (E : En) : Nat := E.w0.heap.size

abbrev Gh := Nat → Value × List Nat

/-- Old blocks are as they were, streams too. -/
structure Ext (w w' : World) : Prop where
  os : w'.os = w.os
  tape : w'.tape = w.tape
  output : w'.output = w.output
  size : w.heap.size ≤ w'.heap.size
  block : ∀ k, k < w.heap.size → w'.heap[k]? = w.heap[k]?

theorem Ext.refl (w : World) : Ext w w := ⟨rfl, rfl, rfl, Nat.le_refl _, fun _ _ => rfl⟩
theorem Ext.trans {a b c : World} (h : Ext a b) (k : Ext b c) : Ext a c :=
  ⟨k.os.trans h.os, k.tape.trans h.tape, k.output.trans h.output, Nat.le_trans h.size k.size, fun i hi => (k.block i (Nat.lt_of_lt_of_le hi h.size)).trans (h.block i hi)⟩
theorem Ext.alloc (w : World) (o : Obj) : Ext w (w.alloc o) := ⟨rfl, rfl, rfl, by simp, fun k hk => heap_alloc_old w o k hk⟩
theorem Ext.drew (w : World) : Ext w w.drew := ⟨rfl, rfl, rfl, Nat.le_refl _, fun _ _ => rfl⟩

def nnP : (t : Ty) → t.den → Value → Prop
  | .list _, x, v => (show List _ from x) = [] → v = .slice none 0 0
  | _, _, _ => True

/-- Blocks whose cells no longer change in this activation, as things stand. -/
def Imm (E : En) (G : Gh) (σ : Sg) (w : World) (b : Nat) : Prop :=
  b < w.heap.size ∧ (b < E.B → E.A b) ∧ ∀ id o, σ.ob id = some o → o.ro = false → (G id).2.head? ≠ some b

def VL (I : Nat → Prop) (N : Nat) (G : Gh) (w : World) : L → Value → Prop
  | .unk, _ => True
  | .nils, v => v = .slice none 0 0
  | .dat nn t x, v => RdV I w t x v ∧ (nn = true → nnP t x v)
  | .cptr t x, v => ∃ b o cs, v = .pointer (some ⟨b, o, none⟩) ∧ I b ∧ (∀ j, j < t.wid → w.cell? ⟨b, o + j, none⟩ = cs[j]?) ∧ RdC I w t x cs
  | .ref id, v => id < N ∧ v = (G id).1 ∧ v.oneCell' = true
  | .optr id wid i, v => id < N ∧ ∃ b n c, (G id).1 = .slice (some ⟨b, 0, none⟩) n c ∧ v = .pointer (some ⟨b, i * wid, none⟩)
  | .bptr id j, v => id < N ∧ ∃ b, (G id).1 = .pointer (some ⟨b, 0, none⟩) ∧ v = .pointer (some ⟨b, j, none⟩)
  | .fn f, v => v = .func (.func f) #[] #[]
  | .clo f ids, v => v = .func (.func f) #[] (ids.map fun id => (G id).1).toArray ∧ ∀ id ∈ ids, id < N ∧ ∃ b, (G id).1 = .pointer (some ⟨b, 0, none⟩)
  | .und, v => v = undef
  | .sub id wid l m, v => id < N ∧ ∃ p n c, (G id).1 = .slice p n c ∧ v = .slice (if c = l then p else p.map (·.add (l * wid))) (m - l) (c - l)

/-- Cell by cell. -/
def VLs (I : Nat → Prop) (N : Nat) (G : Gh) (w : World) : List L → List Value → Prop
  | [], [] => True
  | l :: ls, v :: vs => (VL I N G w l v ∧ v.oneCell' = true) ∧ VLs I N G w ls vs
  | _, _ => False

/-- One part of a tuple. -/
def VP (I : Nat → Prop) (N : Nat) (G : Gh) (w : World) : Bool × List L → Value → Prop
  | (true, ls), v => ∃ vs : List Value, v = .agg vs.toArray ∧ VLs I N G w ls vs
  | (false, ls), v => ∃ l, ls = [l] ∧ VL I N G w l v

def VPs (I : Nat → Prop) (N : Nat) (G : Gh) (w : World) : List (Bool × List L) → List Value → Prop
  | [], [] => True
  | l :: ls, v :: vs => VP I N G w l v ∧ VPs I N G w ls vs
  | _, _ => False

def VA (I : Nat → Prop) (N : Nat) (G : Gh) (w : World) : A → Value → Prop
  | .l l, v => VL I N G w l v
  | .a ls, v => ∃ vs : List Value, v = .agg vs.toArray ∧ VLs I N G w ls vs
  | .t ps, v => ∃ vs : List Value, v = .tuple vs.toArray ∧ VPs I N G w ps vs

/-- A slice of the call's own. -/
def OwnV (I : Nat → Prop) (w : World) (dp : Bool) (e : TypeId) (t : Ty) (x : List t.den) (v : Value) (bs : List Nat) : Prop :=
  x.length ≤ lim ∧ ∃ (cells : List Value) (bss : List (List Nat)), w.ownsRow 0 e t.wid v x.length cells ∧ bs = v.ownBlock.toList ++ bss.flatten ∧
    (dp = true → bss.length = x.length) ∧ (dp = false → bss = []) ∧
    ∀ i y, x[i]? = some y → ∃ ys, ys.length = t.wid ∧ (∀ j, j < t.wid → cells[i * t.wid + j]? = ys[j]?) ∧
      (if dp then DpC 0 w t y ys (bss[i]?.getD []) else RdC I w t y ys)

def OR (I : Nat → Prop) (N : Nat) (G : Gh) (w : World) (id : Nat) : Ob → Prop
  | .own false dp e t x => OwnV I w dp e t x (G id).1 (G id).2
  | .own true _ _ t x => RdV I w (.list t) x (G id).1
  | .box ro e cs => ∃ b arr, (G id).1 = .pointer (some ⟨b, 0, none⟩) ∧ w.heap[b]? = some (.cells arr e (0, 0)) ∧ VLs I N G w cs arr.toList ∧ (if ro then I b else (G id).2 = [b])

structure RelG (E : En) (G : Gh) (σ : Sg) (a : Act) (w : World) : Prop where
  defers : a.defers = []
  len : a.tmps.size = σ.env.length
  env : ∀ (t : Nat) (x : A), σ.env[t]? = some x → VA (Imm E G σ w) σ.hp.length G w x (a.tmps.getD t undef)
  obs : ∀ (id : Nat) (o : Ob), σ.ob id = some o → OR (Imm E G σ w) σ.hp.length G w id o
  nodup : ∀ (id : Nat) (o : Ob), σ.ob id = some o → o.ro = false → (G id).2.Nodup
  range : ∀ (id : Nat) (o : Ob), σ.ob id = some o → o.ro = false → ∀ b ∈ (G id).2, b < w.heap.size ∧ (b < E.B → E.X b)
  hrange : ∀ (id : Nat) (o : Ob), σ.ob id = some o → o.ro = false → ∀ b, (G id).2.head? = some b → b < E.B → E.H b
  disj : ∀ (id id' : Nat) (o o' : Ob), σ.ob id = some o → o.ro = false → σ.ob id' = some o' → o'.ro = false → id ≠ id' → ∀ b ∈ (G id).2, b ∉ (G id').2
  os : w.os = E.w0.os
  tape : w.tape = E.w0.tape
  output : w.output = E.w0.output
  size : E.B ≤ w.heap.size
  frame : ∀ b, b < E.B → ¬ E.H b → w.heap[b]? = E.w0.heap[b]?
  xa : ∀ b, E.X b → E.A b
  fixd : ∀ t, E.F t → a.tmps.getD t undef = E.V t

def Rel (E : En) (σ : Sg) (a : Act) (w : World) : Prop := ∃ G, RelG E G σ a w

/-! Keeping. -/

section mono
variable {I I' : Nat → Prop} {N N' : Nat} {G G' : Gh} {w w' : World}

/-- What must hold for facts on values to stay. -/
structure Keep (I I' : Nat → Prop) (N N' : Nat) (G G' : Gh) (w w' : World) : Prop where
  imm : ∀ b, I b → I' b
  heap : ∀ b, I b → w'.heap[b]? = w.heap[b]?
  n : N ≤ N'
  g : ∀ id, id < N → (G' id).1 = (G id).1

/-- From one state to a later one: values of objects stay, what no longer changes stays so. -/
def GA (E : En) (σ σ' : Sg) (G G' : Gh) (w w' : World) : Prop := Keep (Imm E G σ w) (Imm E G' σ' w') σ.hp.length σ'.hp.length G G' w w'
theorem GA.refl (E : En) (σ : Sg) (G : Gh) (w : World) : GA E σ σ G G w w := ⟨fun _ h => h, fun _ _ => rfl, Nat.le_refl _, fun _ _ => rfl⟩
theorem GA.trans {E : En} {σ1 σ2 σ3 : Sg} {G1 G2 G3 : Gh} {w1 w2 w3 : World} (h : GA E σ1 σ2 G1 G2 w1 w2) (k : GA E σ2 σ3 G2 G3 w2 w3) : GA E σ1 σ3 G1 G3 w1 w3 :=
  ⟨fun b hb => k.imm b (h.imm b hb), fun b hb => (k.heap b (h.imm b hb)).trans (h.heap b hb), Nat.le_trans h.n k.n, fun id hi => (k.g id (Nat.lt_of_lt_of_le hi h.n)).trans (h.g id hi)⟩

theorem RdV.keep (k : Keep I I' N N' G G' w w') {t : Ty} {x : t.den} {v : Value} (h : RdV I w t x v) : RdV I' w' t x v := h.mono k.imm k.heap

theorem VL.keep (k : Keep I I' N N' G G' w w') : (l : L) → {v : Value} → VL I N G w l v → VL I' N' G' w' l v
  | .unk, _, _ => trivial
  | .nils, _, h => h
  | .dat nn t x, _, h => ⟨RdV.keep k h.1, h.2⟩
  | .cptr t x, _, h => by
    obtain ⟨b, o, cs, hv, hb, hc, hr⟩ := h
    exact ⟨b, o, cs, hv, k.imm b hb, fun j hj => by rw [← hc j hj]; exact World.cell?_of_block (k.heap b hb), hr.mono k.imm k.heap t⟩
  | .ref id, _, h => ⟨Nat.lt_of_lt_of_le h.1 k.n, by rw [k.g id h.1]; exact h.2⟩
  | .optr id wid i, _, h => ⟨Nat.lt_of_lt_of_le h.1 k.n, by rw [k.g id h.1]; exact h.2⟩
  | .bptr id j, _, h => ⟨Nat.lt_of_lt_of_le h.1 k.n, by rw [k.g id h.1]; exact h.2⟩
  | .fn f, _, h => h
  | .und, _, h => h
  | .sub id _ _ _, _, h => ⟨Nat.lt_of_lt_of_le h.1 k.n, by rw [k.g id h.1]; exact h.2⟩
  | .clo f ids, _, h => by
    have e : (ids.map fun id => (G' id).1) = ids.map fun id => (G id).1 := List.map_congr_left fun id hi => k.g id (h.2 id hi).1
    refine ⟨by rw [e]; exact h.1, fun id hi => ⟨Nat.lt_of_lt_of_le (h.2 id hi).1 k.n, ?_⟩⟩
    rw [k.g id (h.2 id hi).1]; exact (h.2 id hi).2

theorem VLs.keep (k : Keep I I' N N' G G' w w') : (l : List L) → {v : List Value} → VLs I N G w l v → VLs I' N' G' w' l v
  | [], [], _ => trivial
  | l :: ls, v :: vs, h => ⟨⟨h.1.1.keep k l, h.1.2⟩, VLs.keep k ls h.2⟩
  | [], _ :: _, h => h.elim
  | _ :: _, [], h => h.elim

theorem VP.keep (k : Keep I I' N N' G G' w w') : (l : Bool × List L) → {v : Value} → VP I N G w l v → VP I' N' G' w' l v
  | (true, ls), _, ⟨vs, h1, h2⟩ => ⟨vs, h1, h2.keep k ls⟩
  | (false, ls), _, ⟨l, h1, h2⟩ => ⟨l, h1, h2.keep k l⟩

theorem VPs.keep (k : Keep I I' N N' G G' w w') : (l : List (Bool × List L)) → {v : List Value} → VPs I N G w l v → VPs I' N' G' w' l v
  | [], [], _ => trivial
  | l :: ls, v :: vs, h => ⟨h.1.keep k l, VPs.keep k ls h.2⟩
  | [], _ :: _, h => h.elim
  | _ :: _, [], h => h.elim

theorem VA.keep (k : Keep I I' N N' G G' w w') : (x : A) → {v : Value} → VA I N G w x v → VA I' N' G' w' x v
  | .l l, _, h => VL.keep k l h
  | .a ls, _, ⟨vs, h1, h2⟩ => ⟨vs, h1, h2.keep k ls⟩
  | .t ps, _, ⟨vs, h1, h2⟩ => ⟨vs, h1, h2.keep k ps⟩

theorem OwnV.keep {bs : List Nat} (hI : ∀ b, I b → I' b ∧ w'.heap[b]? = w.heap[b]?) {dp : Bool} {e : TypeId} {t : Ty} {x : List t.den} {v : Value}
    (h : OwnV I w dp e t x v bs) (hb : ∀ b ∈ bs, w'.heap[b]? = w.heap[b]?) : OwnV I' w' dp e t x v bs := by
  obtain ⟨hl, cells, bss, ho, hbs, h1, h2, hel⟩ := h
  refine ⟨hl, cells, bss, ?_, hbs, h1, h2, fun i y hi => ?_⟩
  · refine ⟨ho.1, ?_⟩
    rcases ho.2 with hn | ⟨g, cap, cur, hv, hg, hh, r⟩
    · exact .inl hn
    · refine .inr ⟨g, cap, cur, hv, hg, ?_, r⟩
      rw [hb g (by rw [hbs, hv]; simp [Value.ownBlock])]; exact hh
  · obtain ⟨ys, hy1, hy2, hy3⟩ := hel i y hi
    refine ⟨ys, hy1, hy2, ?_⟩
    cases dp with
    | true =>
      simp only [if_true] at hy3 ⊢
      refine hy3.mono (Nat.le_refl _) t fun b' hb' => hb b' ?_
      rw [hbs]
      cases hg : bss[i]? with
      | none => simp [hg] at hb'
      | some l =>
        simp only [hg, Option.getD_some] at hb'
        exact List.mem_append_right _ (List.mem_flatten.2 ⟨l, List.mem_of_getElem? hg, hb'⟩)
    | false =>
      simp only [Bool.false_eq_true, if_false] at hy3 ⊢
      exact hy3.mono (fun b hb => (hI b hb).1) (fun b hb => (hI b hb).2) t

theorem OR.keep (k : Keep I I' N N' G G' w w') {id : Nat} (hid : id < N) (hg : G' id = G id) : (o : Ob) → OR I N G w id o →
    (o.ro = false → ∀ b ∈ (G id).2, w'.heap[b]? = w.heap[b]?) → OR I' N' G' w' id o
  | .own false dp e t x, h, hb => by
    simp only [OR] at h ⊢
    rw [hg]
    exact h.keep (fun b hb => ⟨k.imm b hb, k.heap b hb⟩) (hb rfl)
  | .own true _ _ t x, h, _ => by
    simp only [OR] at h ⊢
    rw [hg]
    exact RdV.keep k h
  | .box ro e cs, h, hb => by
    simp only [OR] at h ⊢
    rw [hg]
    obtain ⟨b, arr, h1, h2, h3, h4⟩ := h
    refine ⟨b, arr, h1, ?_, h3.keep k cs, ?_⟩
    · cases ro with
      | true => simp only [if_true] at h4; rw [k.heap b h4]; exact h2
      | false => simp only [Bool.false_eq_true, if_false] at h4; rw [hb rfl b (by rw [h4]; simp)]; exact h2
    · cases ro with
      | true => simp only [if_true] at h4 ⊢; exact k.imm b h4
      | false => simpa using h4

end mono

theorem Sg.ob_lt {σ : Sg} {id : Nat} {o : Ob} (h : σ.ob id = some o) : id < σ.hp.length := by
  unfold Sg.ob at h
  cases hg : σ.hp[id]? with
  | none => simp [hg] at h
  | some x => exact (List.getElem?_eq_some_iff.1 hg).1

theorem ob_setHp (σ : Sg) (id i : Nat) (o : Option Ob) : (setHp σ id o).ob i = if i = id ∧ id < σ.hp.length then o else σ.ob i := by
  unfold setHp Sg.ob
  simp only [List.getElem?_set]
  by_cases h : id = i
  · subst h
    by_cases hl : id < σ.hp.length
    · simp [hl]
    · simp [hl]
  · simp [h, Ne.symm h]

theorem ob_addHp (σ : Sg) (i : Nat) (o : Ob) : (addHp σ o).ob i = if i = σ.hp.length then some o else σ.ob i := by
  unfold addHp Sg.ob
  by_cases h : i = σ.hp.length
  · subst h; simp
  · rcases Nat.lt_or_gt_of_ne h with h' | h'
    · simp only [h, if_false, List.getElem?_append_left h']
    · simp only [h, if_false]
      rw [List.getElem?_eq_none (by simp; omega), List.getElem?_eq_none (by omega)]

@[simp] theorem setHp_len (σ : Sg) (id : Nat) (o : Option Ob) : (setHp σ id o).hp.length = σ.hp.length := by simp [setHp]
@[simp] theorem addHp_len (σ : Sg) (o : Ob) : (addHp σ o).hp.length = σ.hp.length + 1 := by simp [addHp]
@[simp] theorem setHp_env (σ : Sg) (id : Nat) (o : Option Ob) : (setHp σ id o).env = σ.env := rfl
@[simp] theorem addHp_env (σ : Sg) (o : Ob) : (addHp σ o).env = σ.env := rfl

/-- The master step: the store changes, the frame stays. -/
theorem RelG.upd {E : En} {G G' : Gh} {σ σ' : Sg} {a : Act} {w w' : World} (h : RelG E G σ a w)
    (henv : σ'.env = σ.env) (hn : σ.hp.length ≤ σ'.hp.length) (hG : ∀ id, id < σ.hp.length → (G' id).1 = (G id).1)
    (os : w'.os = w.os) (tape : w'.tape = w.tape) (output : w'.output = w.output) (size : w.heap.size ≤ w'.heap.size)
    (frame : ∀ b, b < E.B → ¬ E.H b → w'.heap[b]? = w.heap[b]?)
    (himm : ∀ b, Imm E G σ w b → Imm E G' σ' w' b ∧ w'.heap[b]? = w.heap[b]?)
    (hobs : ∀ (id : Nat) (o : Ob), σ'.ob id = some o → OR (Imm E G' σ' w') σ'.hp.length G' w' id o)
    (hnd : ∀ (id : Nat) (o : Ob), σ'.ob id = some o → o.ro = false → (G' id).2.Nodup)
    (hrg : ∀ (id : Nat) (o : Ob), σ'.ob id = some o → o.ro = false → ∀ b ∈ (G' id).2, b < w'.heap.size ∧ (b < E.B → E.X b))
    (hhr : ∀ (id : Nat) (o : Ob), σ'.ob id = some o → o.ro = false → ∀ b, (G' id).2.head? = some b → b < E.B → E.H b)
    (hdj : ∀ (id id' : Nat) (o o' : Ob), σ'.ob id = some o → o.ro = false → σ'.ob id' = some o' → o'.ro = false → id ≠ id' → ∀ b ∈ (G' id).2, b ∉ (G' id').2) :
    RelG E G' σ' a w' :=
  { defers := h.defers
    len := by rw [henv]; exact h.len
    env := fun t x hx => by
      rw [henv] at hx
      exact (h.env t x hx).keep ⟨fun b hb => (himm b hb).1, fun b hb => (himm b hb).2, hn, hG⟩ x
    obs := hobs
    nodup := hnd
    range := hrg
    hrange := hhr
    disj := hdj
    os := os.trans h.os
    tape := tape.trans h.tape
    output := output.trans h.output
    size := Nat.le_trans h.size size
    frame := fun b hb hx => (frame b hb hx).trans (h.frame b hb hx)
    xa := h.xa
    fixd := h.fixd }

/-- The world goes on, old blocks stay. -/
theorem RelG.ext {E : En} {G : Gh} {σ : Sg} {a : Act} {w w' : World} (h : RelG E G σ a w) (x : Ext w w') : RelG E G σ a w' := by
  have himm : ∀ b, Imm E G σ w b → Imm E G σ w' b ∧ w'.heap[b]? = w.heap[b]? := fun b hb =>
    ⟨⟨Nat.lt_of_lt_of_le hb.1 x.size, hb.2⟩, x.block b hb.1⟩
  refine h.upd rfl (Nat.le_refl _) (fun _ _ => rfl) x.os x.tape x.output x.size (fun b hb _ => x.block b (Nat.lt_of_lt_of_le hb h.size)) himm
    (fun id o ho => ?_) h.nodup (fun id o ho hr b hb => ⟨Nat.lt_of_lt_of_le (h.range id o ho hr b hb).1 x.size, (h.range id o ho hr b hb).2⟩) h.hrange h.disj
  exact (h.obs id o ho).keep ⟨fun b hb => (himm b hb).1, fun b hb => (himm b hb).2, Nat.le_refl _, fun _ _ => rfl⟩ (Sg.ob_lt ho) rfl o
    fun hr b hb => x.block b (h.range id o ho hr b hb).1

/-- An object is given up. -/
theorem RelG.drop {E : En} {G : Gh} {σ : Sg} {a : Act} {w : World} (h : RelG E G σ a w) (id : Nat) : RelG E G (setHp σ id none) a w := by
  have hob : ∀ i o, (setHp σ id none).ob i = some o → σ.ob i = some o := fun i o ho => by
    rw [ob_setHp] at ho; split at ho
    · simp at ho
    · exact ho
  have himm : ∀ b, Imm E G σ w b → Imm E G (setHp σ id none) w b ∧ w.heap[b]? = w.heap[b]? := fun b hb =>
    ⟨⟨hb.1, hb.2.1, fun i o ho => hb.2.2 i o (hob i o ho)⟩, rfl⟩
  refine h.upd rfl (by simp) (fun _ _ => rfl) rfl rfl rfl (Nat.le_refl _) (fun _ _ _ => rfl) himm (fun i o ho => ?_)
    (fun i o ho => h.nodup i o (hob i o ho)) (fun i o ho => h.range i o (hob i o ho)) (fun i o ho => h.hrange i o (hob i o ho)) (fun i j o o' ho hr ho' => h.disj i j o o' (hob i o ho) hr (hob j o' ho'))
  exact (h.obs i o (hob i o ho)).keep ⟨fun b hb => (himm b hb).1, fun b hb => (himm b hb).2, by simp, fun _ _ => rfl⟩ (Sg.ob_lt (hob i o ho)) rfl o fun _ _ _ => rfl

/-- The store changes at one place: objects 'ds' are given up, object 'n' (a new one, or one of 'ds') is 'o' now. -/
theorem RelG.chg {E : En} {G : Gh} {σ σ' : Sg} {a : Act} {w w' : World} (h : RelG E G σ a w) (ds : List Nat) (n : Nat) (o : Ob) (v : Value) (bs : List Nat)
    (hσ : ∀ i, σ'.ob i = if i = n then some o else if i ∈ ds then none else σ.ob i) (henv : σ'.env = σ.env) (hlen : σ.hp.length ≤ σ'.hp.length)
    (hn : n = σ.hp.length ∨ (n ∈ ds ∧ (G n).1 = v)) (hro : o.ro = false)
    (os : w'.os = w.os) (tape : w'.tape = w.tape) (output : w'.output = w.output) (size : w.heap.size ≤ w'.heap.size)
    (hw : ∀ b, b < w.heap.size → (∀ d ∈ ds, ∀ o', σ.ob d = some o' → o'.ro = false → (G d).2.head? ≠ some b) → w'.heap[b]? = w.heap[b]?)
    (hnd : bs.Nodup)
    (hbs : ∀ b ∈ bs, (w.heap.size ≤ b ∧ b < w'.heap.size) ∨ (b < w.heap.size ∧ ∃ d ∈ ds, ∃ o', σ.ob d = some o' ∧ o'.ro = false ∧ b ∈ (G d).2))
    (hhd : ∀ b, bs.head? = some b → w.heap.size ≤ b ∨ ∃ d ∈ ds, ∃ o', σ.ob d = some o' ∧ o'.ro = false ∧ (G d).2.head? = some b)
    (hor : ∀ (I : Nat → Prop) (G' : Gh), Keep (Imm E G σ w) I σ.hp.length σ'.hp.length G G' w w' → G' n = (v, bs) → OR I σ'.hp.length G' w' n o) :
    ∃ G', RelG E G' σ' a w' ∧ (G' n).1 = v ∧ Keep (Imm E G σ w) (Imm E G' σ' w') σ.hp.length σ'.hp.length G G' w w' := by
  let G' : Gh := fun i => if i = n then (v, bs) else G i
  have hGn : G' n = (v, bs) := by simp [G']
  have hGo : ∀ i, i ≠ n → G' i = G i := fun i hi => by simp [G', hi]
  have hG1 : ∀ i, i < σ.hp.length → (G' i).1 = (G i).1 := fun i hi => by
    by_cases hin : i = n
    · subst hin
      rw [hGn]
      rcases hn with hn | hn
      · omega
      · exact hn.2.symm
    · rw [hGo i hin]
  have hold : ∀ i o', σ'.ob i = some o' → i ≠ n → i ∉ ds ∧ σ.ob i = some o' := fun i o' ho' hi => by
    rw [hσ i, if_neg hi] at ho'
    split at ho'
    · simp at ho'
    · exact ⟨‹_›, ho'⟩
  have hnew : ∀ o', σ'.ob n = some o' → o' = o := fun o' ho' => by rw [hσ n, if_pos rfl] at ho'; exact (Option.some.inj ho').symm
  have himm : ∀ b, Imm E G σ w b → Imm E G' σ' w' b ∧ w'.heap[b]? = w.heap[b]? := fun b hb => by
    refine ⟨⟨Nat.lt_of_lt_of_le hb.1 size, hb.2.1, fun i o' ho' hr' => ?_⟩, hw b hb.1 fun d _ o' ho' hr' => hb.2.2 d o' ho' hr'⟩
    by_cases hin : i = n
    · subst hin
      rw [hGn]
      intro hh
      rcases hhd b hh with h1 | ⟨d, _, o2, h2, h3, h4⟩
      · have := hb.1; omega
      · exact hb.2.2 d o2 h2 h3 h4
    · rw [hGo i hin]
      exact hb.2.2 i o' (hold i o' ho' hin).2 hr'
  have hk : Keep (Imm E G σ w) (Imm E G' σ' w') σ.hp.length σ'.hp.length G G' w w' := ⟨fun b hb => (himm b hb).1, fun b hb => (himm b hb).2, hlen, hG1⟩
  refine ⟨G', ?_, by rw [hGn], hk⟩
  refine h.upd henv hlen hG1 os tape output size (fun b hb hx => hw b (Nat.lt_of_lt_of_le hb h.size) fun d _ o' ho' hr' hh => hx (h.hrange d o' ho' hr' b hh hb)) himm
    (fun i o' ho' => ?_) (fun i o' ho' hr' => ?_) (fun i o' ho' hr' b hb => ?_) (fun i o' ho' hr' b hb hB => ?_) (fun i j o1 o2 h1 hr1 h2 hr2 hij b hb => ?_)
  · by_cases hin : i = n
    · subst hin
      rw [hnew o' ho']
      exact hor _ G' hk hGn
    · obtain ⟨hd, h2⟩ := hold i o' ho' hin
      refine (h.obs i o' h2).keep hk (Sg.ob_lt h2) (hGo i hin) o' fun hr b hb => hw b (h.range i o' h2 hr b hb).1 fun d hdm o3 h3 hr3 hh => ?_
      exact h.disj i d o' o3 h2 hr h3 hr3 (fun e => hd (e ▸ hdm)) b hb (List.mem_of_mem_head? hh)
  · by_cases hin : i = n
    · subst hin; rw [hGn]; exact hnd
    · rw [hGo i hin]; exact h.nodup i o' (hold i o' ho' hin).2 hr'
  · by_cases hin : i = n
    · subst hin
      rw [hGn] at hb
      rcases hbs b hb with h1 | ⟨h0, d, _, o2, h2, h3, h4⟩
      · exact ⟨h1.2, fun hB => by have := h.size; omega⟩
      · exact ⟨Nat.lt_of_lt_of_le h0 size, (h.range d o2 h2 h3 b h4).2⟩
    · rw [hGo i hin] at hb
      have := h.range i o' (hold i o' ho' hin).2 hr' b hb
      exact ⟨Nat.lt_of_lt_of_le this.1 size, this.2⟩
  · by_cases hin : i = n
    · subst hin
      rw [hGn] at hb
      rcases hhd b hb with h1 | ⟨d, hdm, o2, h2, h3, h4⟩
      · have := h.size; omega
      · exact h.hrange d o2 h2 h3 b h4 hB
    · rw [hGo i hin] at hb
      exact h.hrange i o' (hold i o' ho' hin).2 hr' b hb hB
  · have key : ∀ (i j : Nat) (o1 o2 : Ob), σ'.ob i = some o1 → o1.ro = false → i = n → σ'.ob j = some o2 → o2.ro = false → j ≠ n → ∀ b ∈ bs, b ∉ (G j).2 := by
      intro i j o1 o2 h1 hr1 hi h2 hr2 hj b hb hbj
      obtain ⟨hd, h2'⟩ := hold j o2 h2 hj
      rcases hbs b hb with h3 | ⟨_, d, hdm, o3, h3, h4, h5⟩
      · have := (h.range j o2 h2' hr2 b hbj).1; omega
      · exact h.disj j d o2 o3 h2' hr2 h3 h4 (fun e => hd (e ▸ hdm)) b hbj h5
    by_cases hin : i = n
    · have hjn : j ≠ n := fun e => hij (hin.trans e.symm)
      rw [hGo j hjn]
      rw [hin, hGn] at hb
      exact key i j o1 o2 h1 hr1 hin h2 hr2 hjn b hb
    · rw [hGo i hin] at hb
      by_cases hjn : j = n
      · rw [hjn, hGn]
        intro hb'
        exact key j i o2 o1 h2 hr2 hjn h1 hr1 hin b hb' hb
      · rw [hGo j hjn]
        exact h.disj i j o1 o2 (hold i o1 h1 hin).2 hr1 (hold j o2 h2 hjn).2 hr2 hij b hb

/-- A new object in new memory. -/
theorem RelG.add {E : En} {G : Gh} {σ : Sg} {a : Act} {w w' : World} (h : RelG E G σ a w) (x : Ext w w') (o : Ob) (v : Value) (bs : List Nat) (hro : o.ro = false)
    (hnd : bs.Nodup) (hbs : ∀ b ∈ bs, w.heap.size ≤ b ∧ b < w'.heap.size)
    (hor : ∀ (I : Nat → Prop) (G' : Gh), Keep (Imm E G σ w) I σ.hp.length (σ.hp.length + 1) G G' w w' → G' σ.hp.length = (v, bs) → OR I (σ.hp.length + 1) G' w' σ.hp.length o) :
    ∃ G', RelG E G' (addHp σ o) a w' ∧ (G' σ.hp.length).1 = v ∧ Keep (Imm E G σ w) (Imm E G' (addHp σ o) w') σ.hp.length (addHp σ o).hp.length G G' w w' := by
  refine h.chg [] σ.hp.length o v bs (fun i => by rw [ob_addHp]; simp) rfl (by simp) (.inl rfl) hro x.os x.tape x.output x.size (fun b hb _ => x.block b hb) hnd
    (fun b hb => .inl (hbs b hb)) (fun b hb => .inl (hbs b (List.mem_of_mem_head? hb)).1) (fun I G' k hG => ?_)
  rw [addHp_len] at k ⊢
  exact hor I G' k hG

/-- A frame's slot gets a value. -/
theorem RelG.put {E : En} {G : Gh} {σ : Sg} {a : Act} {w : World} (h : RelG E G σ a w) (d : Nat) {x : A} {v : Value}
    (hv : VA (Imm E G σ w) σ.hp.length G w x v) (hF : ¬ E.F d) : RelG E G { σ with env := σ.env.set d x } (a.put (some d) v) w := by
  have hi : ∀ b, Imm E G { σ with env := σ.env.set d x } w b ↔ Imm E G σ w b := fun b => Iff.rfl
  refine { h with len := by simp [Act.put, h.len], env := fun t y hy => ?_, defers := h.defers, fixd := fun t ht => ?_ }
  rotate_left
  · have hne : d ≠ t := fun e => hF (e ▸ ht)
    have : (a.put (some d) v).tmps.getD t undef = a.tmps.getD t undef := by
      simp [Act.put, Array.getElem?_setIfInBounds, hne]
    rw [this]; exact h.fixd t ht
  show VA (Imm E G σ w) σ.hp.length G w y _
  simp only [List.getElem?_set] at hy
  by_cases ht : d = t
  · subst ht
    simp only [if_true] at hy
    split at hy
    · rename_i hlt
      obtain rfl := Option.some.inj hy
      have : (a.put (some d) v).tmps.getD d undef = v := by
        simp [Act.put, Array.getElem?_setIfInBounds, h.len, hlt]
      rw [this]; exact hv
    · simp at hy
  · simp only [ht, if_false] at hy
    have : (a.put (some d) v).tmps.getD t undef = a.tmps.getD t undef := by
      simp [Act.put, Array.getElem?_setIfInBounds, ht]
    rw [this]; exact h.env t y hy

theorem setK_eq {ρ : Type} : ∀ (l : List A) (n : Nat) (v : A) (k : List A → Option ρ), setK l n v k = k (l.set n v)
  | [], _, _, _ => rfl
  | _ :: _, 0, _, _ => rfl
  | a :: r, n + 1, v, k => by simp only [setK, List.set]; exact setK_eq r n v _

end Go.Proofs.Ytajlabmnpimeeaa.Eng
