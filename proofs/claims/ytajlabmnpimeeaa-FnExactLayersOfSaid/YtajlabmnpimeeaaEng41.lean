/-
  Texts put together: Eng37, Eng38, Eng39, Eng40. No condition.
-/
import Derived.Test.YtajlabmnpimeeaaEng33

/-!
  The engine, part 37. Code that writes into slices inside slices through calls. No condition.
-/
namespace Go.Proofs.Ytajlabmnpimeeaa.Eng
open Go
set_option linter.unusedVariables false
set_option linter.unusedSimpArgs false

/-- A function that writes into a slice, its second argument a number. 'pos': the slice is a field of the first argument. -/
structure MarkE where
  f : FuncId
  pos : Option (Nat × Nat)
  e : TypeId
  t : Ty
  F : List t.den → Int → Option (List t.den × Int)

def Holds (pos : Option (Nat × Nat)) (u v : Value) : Prop :=
  match pos with
  | none => u = v
  | some (n, j) => ∃ vs : List Value, u = .agg vs.toArray ∧ vs.length = n ∧ vs[j]? = some v ∧ ∀ x ∈ vs, x.oneCell' = true

structure MarkOut (w w' : World) (bs : List Nat) : Prop where
  os : w'.os = w.os
  tape : w'.tape = w.tape
  output : w'.output = w.output
  size : w.heap.size ≤ w'.heap.size
  frame : ∀ b, b < w.heap.size → b ∉ bs → w'.heap[b]? = w.heap[b]?

def MarkOk (P : Program) (m : MarkE) : Prop :=
  ∀ y n y' n', m.F y n = some (y', n') → ∀ (w : World) (u v : Value) (bs : List Nat), OwnV (fun _ => False) w true m.e m.t y v bs → bs.Nodup → Holds m.pos u v →
    Calls P m.f #[u, .int .i64 n] w fun ex w' => ex = .returned (.int .i64 n') ∧ MarkOut w w' bs ∧ OwnV (fun _ => False) w' true m.e m.t y' v bs

def markId (pos : Option (Nat × Nat)) (x : A) : Option Nat :=
  match pos with
  | none => match x with
    | .l (.ref id) => some id
    | _ => none
  | some (n, j) => match x with
    | .a ls => if ls.length = n then (match ls[j]? with
      | some (.ref id) => some id
      | _ => none) else none
    | _ => none

/-- What of a value does not rest on cells of memory. -/
def holdL (x : L) : L :=
  match x with
  | .dat nn t y => if t.flat then .dat nn t y else .unk
  | .cptr _ _ => .unk
  | x => x

def holdA (x : A) : A :=
  match x with
  | .l x => .l (holdL x)
  | .a ls => .a (ls.map holdL)
  | .t ps => .t (ps.map fun p => (p.1, p.2.map holdL))

def holdO (o : Ob) : Option Ob :=
  match o with
  | .own false true e t x => some (.own false true e t x)
  | .own false false e t x => if t.flat then some (.own false false e t x) else none
  | .box false e cs => some (.box false e (cs.map holdL))
  | _ => none

def forget (env0 : List A) (σ : Sg) : Sg := { env := env0.take σ.env.length ++ (σ.env.drop env0.length).map holdA, hp := σ.hp.map fun o => o.bind holdO }

section
variable {ρ : Type}

def markK (env0 : List A) (σ : Sg) (m : MarkE) (x n : A) (k : A → Sg → Option ρ) : Option ρ :=
  match markId m.pos x, n with
  | some id, .l (.dat _ (.int .i64) (n : Int)) => match σ.ob id with
    | some (.own false true e t y) => if e = m.e then (castT (.list t) (.list m.t) y).bind fun y => (m.F y n).bind fun r => k (int64 r.2) (forget env0 (setHp σ id (some (.own false true m.e m.t r.1)))) else none
    | _ => none
  | _, _ => none

def findM (f : FuncId) : List MarkE → Option MarkE
  | [] => none
  | m :: r => if m.f = f then some m else findM f r

def markOf (M : List MarkE) (o : Oper) : Option (MarkE × Operand × Operand) :=
  match o.guard, o.op with
  | none, .call c => match c.callee, c.args.toList with
    | .value (.func f), [x, n] => (findM f M).map fun m => (m, x, n)
    | _, _ => none
  | _, _ => none

def topOpsK (C : Ctx) (M : List MarkE) (env0 : List A) (ops : Array Oper) : List Oper → Sg → (Sg → Option ρ) → Option ρ
  | [], σ, k => k σ
  | o :: r, σ, k => match markOf M o with
    | some (m, x, n) => markK env0 σ m (getA σ x) (getA σ n) fun v σ => putK σ o.dst v fun σ => topOpsK C M env0 ops r σ k
    | none => operK C ops σ o fun σ => topOpsK C M env0 ops r σ k

noncomputable def topK (C : Ctx) (M : List MarkE) (env0 : List A) : Code → (ρ : Type) → Sg → (AEx → Sg → Option ρ) → Option ρ
  | .region _ ops false, _, σ, k => topOpsK C M env0 ops ops.toList σ fun σ => k .normal σ
  | .seq a b, ρ, σ, k => topK C M env0 a ρ σ fun e σ => match e with
    | .normal => topK C M env0 b ρ σ k
    | e => k e σ
  | .cond c a b, ρ, σ, k => match getA σ c with
    | .l (.dat _ .bool (cb : Bool)) => cond cb (topK C M env0 a ρ σ k) (topK C M env0 b ρ σ k)
    | _ => none
  | .block id c, ρ, σ, k => topK C M env0 c ρ σ fun e σ => match e with
    | .exit id' => if id' = id then k .normal σ else k (.exit id') σ
    | e => k e σ
  | c, ρ, σ, k => codeK C c ρ σ k

/-- A law: its parameters are data, never written. -/
noncomputable def funT (C : Ctx) (M : List MarkE) (fn : Func) (ps : List PM) (rs : List SK) (x : PMs.den ps) : Option (ResB (hasIo ps) (SKs.den rs) (PMo.den ps)) :=
  match fn.body with
  | none => none
  | some c =>
    let (as, σ) := encPs ⟨List.replicate fn.ntmps (.l .unk), []⟩ ps x
    topK C M as c _ { σ with env := as ++ σ.env.drop as.length } fun e σ => match e with
      | .exit _ => none
      | _ => resK C σ fn.results.toList fun vs => ioK ps 0 (frzSs rs vs σ) fun o σ => decSs rs vs σ fun r _ => some (resJ (hasIo ps) r o)

end

section
variable {ρ : Type} {C : Ctx} {E : En} {G : Gh} {σ : Sg} {a : Act} {w : World} {I I' : Nat → Prop} {N : Nat}

theorem VL.holdL {w' : World} : (l : L) → {v : Value} → VL I N G w l v → VL I' N G w' (holdL l) v
  | .unk, _, _ => trivial
  | .nils, _, h => h
  | .dat nn t x, v, h => by
    simp only [Eng.holdL]
    by_cases hf : t.flat = true
    · rw [if_pos hf]
      obtain ⟨⟨cs, h1, h2⟩, h3⟩ := h
      exact ⟨⟨cs, flat_RdC t hf h1, h2⟩, h3⟩
    · rw [if_neg hf]; trivial
  | .cptr _ _, _, _ => trivial
  | .ref _, _, h => h
  | .optr _ _ _, _, h => h
  | .bptr _ _, _, h => h
  | .fn _, _, h => h
  | .clo _ _, _, h => h
  | .und, _, h => h
  | .sub _ _ _ _, _, h => h

theorem VLs.holdL {w' : World} : (ls : List L) → {vs : List Value} → VLs I N G w ls vs → VLs I' N G w' (ls.map Eng.holdL) vs
  | [], [], _ => trivial
  | l :: ls, v :: vs, h => ⟨⟨VL.holdL l h.1.1, h.1.2⟩, VLs.holdL ls h.2⟩
  | [], _ :: _, h => h.elim
  | _ :: _, [], h => h.elim

theorem VPs.holdL {w' : World} : (ls : List (Bool × List L)) → {vs : List Value} → VPs I N G w ls vs → VPs I' N G w' (ls.map fun p => (p.1, p.2.map Eng.holdL)) vs
  | [], [], _ => trivial
  | (true, l) :: ls, v :: vs, ⟨⟨us, h1, h2⟩, h⟩ => ⟨⟨us, h1, VLs.holdL l h2⟩, VPs.holdL ls h⟩
  | (false, l) :: ls, v :: vs, ⟨⟨x, h1, h2⟩, h⟩ => ⟨⟨Eng.holdL x, by rw [h1]; rfl, VL.holdL x h2⟩, VPs.holdL ls h⟩
  | [], _ :: _, h => h.elim
  | (true, _) :: _, [], h => h.elim
  | (false, _) :: _, [], h => h.elim

theorem VA.holdA {w' : World} : (x : A) → {v : Value} → VA I N G w x v → VA I' N G w' (holdA x) v
  | .l l, _, h => VL.holdL l h
  | .a ls, _, ⟨vs, h1, h2⟩ => ⟨vs, h1, VLs.holdL ls h2⟩
  | .t ps, _, ⟨vs, h1, h2⟩ => ⟨vs, h1, VPs.holdL ps h2⟩

/-- Slices that are wholly the call's own rest on no other memory. -/
theorem OwnV.alone {dp : Bool} {e : TypeId} {t : Ty} {x : List t.den} {v : Value} {bs : List Nat} (h : OwnV I w dp e t x v bs) (hd : dp = true ∨ t.flat = true) : OwnV I' w dp e t x v bs := by
  obtain ⟨hl, cells, bss, ho, hbs, h1, h2, hel⟩ := h
  refine ⟨hl, cells, bss, ho, hbs, h1, h2, fun i y hi => ?_⟩
  obtain ⟨ys, hy1, hy2, hy3⟩ := hel i y hi
  refine ⟨ys, hy1, hy2, ?_⟩
  cases dp with
  | true => simpa using hy3
  | false =>
    rcases hd with hd | hd
    · simp at hd
    · simp only [Bool.false_eq_true, if_false] at hy3 ⊢
      exact flat_RdC t hd hy3

/-- The parameters' first values still hold. -/
structure Par (E : En) (env0 : List A) : Prop where
  fx : ∀ (i : Nat) (x : A), env0[i]? = some x → E.F i
  rd : ∀ (i : Nat) (x : A), env0[i]? = some x → ∃ nn t y, x = .l (.dat nn t y) ∧ RdV (fun b => b < E.B ∧ E.A b ∧ ¬ E.X b ∧ ¬ E.H b) E.w0 t y (E.V i) ∧ (nn = true → nnP t y (E.V i))

theorem forget_ob (env0 : List A) (σ : Sg) (id : Nat) : (forget env0 σ).ob id = (σ.ob id).bind holdO := by
  simp only [forget, Sg.ob, List.getElem?_map]
  cases σ.hp[id]? with
  | none => rfl
  | some o => cases o <;> rfl

theorem RelG.marked (h : RelG E G σ a w) {env0 : List A} (hp : Par E env0) (hXH : ∀ b, E.X b → E.H b) {id : Nat} {e e' : TypeId} {t t' : Ty} {y : List t.den} {y' : List t'.den} (ho : σ.ob id = some (.own false true e t y))
    {w' : World} (mo : MarkOut w w' (G id).2) (hv : OwnV (fun _ => False) w' true e' t' y' (G id).1 (G id).2) : RelG E G (forget env0 (setHp σ id (some (.own false true e' t' y')))) a w' := by
  have hid := Sg.ob_lt ho
  have hob : ∀ i o, (forget env0 (setHp σ id (some (.own false true e' t' y')))).ob i = some o → o.ro = false ∧ ∃ o1, σ.ob i = some o1 ∧ o1.ro = false ∧ ((i = id ∧ o = .own false true e' t' y') ∨ (i ≠ id ∧ holdO o1 = some o)) := fun i o hi => by
    rw [forget_ob, ob_setHp] at hi
    by_cases hii : i = id
    · subst hii
      rw [if_pos ⟨rfl, hid⟩] at hi
      obtain rfl := Option.some.inj hi
      exact ⟨rfl, _, ho, rfl, .inl ⟨rfl, rfl⟩⟩
    · rw [if_neg fun hx => hii hx.1] at hi
      obtain ⟨o1, h1, h2⟩ := Option.bind_eq_some_iff.1 hi
      have hr : o1.ro = false ∧ o.ro = false := by
        unfold holdO at h2
        split at h2
        · obtain rfl := Option.some.inj h2; exact ⟨rfl, rfl⟩
        · split at h2
          · obtain rfl := Option.some.inj h2; exact ⟨rfl, rfl⟩
          · simp at h2
        · obtain rfl := Option.some.inj h2; exact ⟨rfl, rfl⟩
        · simp at h2
      exact ⟨hr.2, o1, h1, hr.1, .inr ⟨hii, h2⟩⟩
  have old : ∀ b, b < E.B → ¬ E.H b → w'.heap[b]? = w.heap[b]? := fun b hb hH => mo.frame b (Nat.lt_of_lt_of_le hb h.size) fun hm => hH (hXH b ((h.range id _ ho rfl b hm).2 hb))
  have hlen : (forget env0 (setHp σ id (some (.own false true e' t' y')))).hp.length = σ.hp.length := by simp [forget, setHp]
  refine { defers := h.defers, len := ?_, env := fun i x hx => ?_, obs := fun i o hi => ?_, nodup := fun i o hi hr => ?_, range := fun i o hi hr b hb => ?_, hrange := fun i o hi hr b hb hB => ?_, disj := fun i j o o' hi hr hj hr' hij => ?_,
           os := mo.os.trans h.os, tape := mo.tape.trans h.tape, output := mo.output.trans h.output, size := Nat.le_trans h.size mo.size, frame := fun b hb hH => (old b hb hH).trans (h.frame b hb hH), xa := h.xa, fixd := h.fixd }
  · rw [h.len]; simp only [forget, setHp_env, List.length_append, List.length_take, List.length_map, List.length_drop]; omega
  · rw [hlen]
    simp only [forget, setHp_env] at hx
    by_cases hi : i < (env0.take σ.env.length).length
    · rw [List.getElem?_append_left hi] at hx
      have hx0 : env0[i]? = some x := by
        rw [List.getElem?_take] at hx
        split at hx
        · exact hx
        · simp at hx
      obtain ⟨nn, t, y, rfl, h1, h2⟩ := hp.rd i x hx0
      have hf := h.fixd i (hp.fx i _ hx0)
      rw [hf]
      refine ⟨h1.mono (fun b hb => ?_) (fun b hb => ?_), h2⟩
      · refine ⟨Nat.lt_of_lt_of_le hb.1 (Nat.le_trans h.size mo.size), fun _ => hb.2.1, fun j o hj hr hh => ?_⟩
        obtain ⟨_, o1, k1, k2, _⟩ := hob j o hj
        exact hb.2.2.1 ((h.range j o1 k1 k2 b (List.mem_of_mem_head? hh)).2 hb.1)
      · rw [old b hb.1 hb.2.2.2]; exact h.frame b hb.1 hb.2.2.2
    · rw [List.getElem?_append_right (by omega), List.getElem?_map, List.getElem?_drop] at hx
      obtain ⟨x1, k1, rfl⟩ := Option.map_eq_some_iff.1 hx
      have hlt := (List.getElem?_eq_some_iff.1 k1).1
      rw [List.length_take] at hi hlt k1
      have hle : env0.length ≤ σ.env.length := by omega
      rw [Nat.min_eq_right hle] at k1 hi
      rw [show env0.length + (i - env0.length) = i from by omega] at k1
      exact VA.holdA x1 (h.env i x1 k1)
  · rw [hlen]
    obtain ⟨_, o1, k1, k2, k3⟩ := hob i o hi
    rcases k3 with ⟨rfl, rfl⟩ | ⟨hne, k3⟩
    · simp only [OR]; exact hv.alone (.inl rfl)
    · have hb : ∀ b ∈ (G i).2, w'.heap[b]? = w.heap[b]? := fun b hb => mo.frame b (h.range i o1 k1 k2 b hb).1 (h.disj i id o1 _ k1 k2 ho rfl hne b hb)
      have ho1 := h.obs i o1 k1
      unfold holdO at k3
      split at k3
      · obtain rfl := Option.some.inj k3
        simp only [OR] at ho1 ⊢
        have := (ho1.alone (I' := fun _ => False) (.inl rfl)).keep (I' := fun _ => False) (w' := w') (fun b hb => hb.elim) hb
        exact this.alone (.inl rfl)
      · split at k3
        · rename_i hf
          obtain rfl := Option.some.inj k3
          simp only [OR] at ho1 ⊢
          have := (ho1.alone (I' := fun _ => False) (.inr hf)).keep (I' := fun _ => False) (w' := w') (fun b hb => hb.elim) hb
          exact this.alone (.inr hf)
        · simp at k3
      · obtain rfl := Option.some.inj k3
        simp only [OR] at ho1 ⊢
        obtain ⟨b, arr, q1, q2, q3, q4⟩ := ho1
        simp only [Bool.false_eq_true, if_false] at q4 ⊢
        exact ⟨b, arr, q1, by rw [hb b (by rw [q4]; simp)]; exact q2, VLs.holdL _ q3, q4⟩
      · simp at k3
  · obtain ⟨_, o1, k1, k2, _⟩ := hob i o hi; exact h.nodup i o1 k1 k2
  · obtain ⟨_, o1, k1, k2, _⟩ := hob i o hi
    exact ⟨Nat.lt_of_lt_of_le (h.range i o1 k1 k2 b hb).1 mo.size, (h.range i o1 k1 k2 b hb).2⟩
  · obtain ⟨_, o1, k1, k2, _⟩ := hob i o hi; exact h.hrange i o1 k1 k2 b hb hB
  · obtain ⟨_, o1, k1, k2, _⟩ := hob i o hi
    obtain ⟨_, o2, q1, q2, _⟩ := hob j o' hj
    exact h.disj i j o1 o2 k1 k2 q1 q2 hij

theorem findM_some {f : FuncId} : {M : List MarkE} → {m : MarkE} → findM f M = some m → m ∈ M ∧ m.f = f
  | [], m, h => by simp [findM] at h
  | x :: M, m, h => by
    unfold findM at h
    split at h
    · obtain rfl := Option.some.inj h; exact ⟨by simp, by assumption⟩
    · obtain ⟨h1, h2⟩ := findM_some h; exact ⟨List.mem_cons_of_mem _ h1, h2⟩

theorem markId_some {pos : Option (Nat × Nat)} {x : A} {id : Nat} {u : Value} (hx : markId pos x = some id) (hv : VA I N G w x u) : id < N ∧ Holds pos u (G id).1 := by
  unfold markId at hx
  unfold Holds
  split at hx
  · split at hx
    · obtain rfl := Option.some.inj hx
      exact ⟨hv.1, hv.2.1⟩
    · simp at hx
  · rename_i n j
    split at hx
    · rename_i ls
      split at hx
      · rename_i hl
        split at hx
        · rename_i id' hj
          obtain rfl := Option.some.inj hx
          obtain ⟨vs, rfl, h2⟩ := hv
          have key : ∀ (ls : List L) (vs : List Value) (j : Nat), VLs I N G w ls vs → ls[j]? = some (.ref id') → id' < N ∧ vs[j]? = some (G id').1 := by
            intro ls
            induction ls with
            | nil => intro vs j _ hj; simp at hj
            | cons l ls ih =>
              intro vs j hv hj
              cases vs with
              | nil => exact hv.elim
              | cons v vs =>
                cases j with
                | zero => simp at hj; subst hj; exact ⟨hv.1.1.1, by simp [hv.1.1.2.1]⟩
                | succ j => simpa using ih vs j hv.2 (by simpa using hj)
          obtain ⟨k1, k2⟩ := key ls vs j h2 hj
          exact ⟨k1, vs, rfl, by rw [← hl]; exact (VLs.length ls h2).symm, k2, VLs.one ls h2⟩
        · simp at hx
      · simp at hx
    · simp at hx

theorem topOpsK_some {M : List MarkE} {env0 : List A} {ops : Array Oper} {r : ρ} (hC : Ctrs C) (hM : ∀ m ∈ M, FnOk C.P m.f ∧ MarkOk C.P m) (hp : Par E env0) (hXH : ∀ b, E.X b → E.H b) :
    (os : List Oper) → (i : Nat) → {σ : Sg} → {G : Gh} → {a : Act} → {w : World} → {k : Sg → Option ρ} → (∀ j o, os[j]? = some o → ops[i + j]? = some o) → (∀ o ∈ os, ∀ t, o.dst = some t → ¬ E.F t) → RelG E G σ a w → topOpsK C M env0 ops os σ k = some r →
    (Q : Exit → Act → World → Prop) → (∀ σ' a' w' G', k σ' = some r → RelG E G' σ' a' w' → Q .normal a' w') → wpOps C.P ops Q (List.range' i os.length) a w
  | [], i, σ, G, a, w, k, ho, hws, h, hk, Q, hQ => by
    simp only [topOpsK] at hk
    simp only [List.length_nil, List.range'_zero, wpOps]
    exact hQ σ a w G hk h
  | o :: os, i, σ, G, a, w, k, ho, hws, h, hk, Q, hQ => by
    simp only [topOpsK] at hk
    simp only [List.length_cons, List.range'_succ, wpOps]
    have hoi : ops[i]? = some o := by have := ho 0 o rfl; simpa using this
    rw [hoi]
    simp only
    have rest : ∀ {σ' : Sg} {G' : Gh} {a' : Act} {w' : World}, topOpsK C M env0 ops os σ' k = some r → RelG E G' σ' a' w' → wpOps C.P ops Q (List.range' (i + 1) os.length) a' w' := fun h1 h2 =>
      topOpsK_some hC hM hp hXH os (i + 1) (fun j o' hj => by have := ho (j + 1) o' (by simpa using hj); rwa [show i + (j + 1) = i + 1 + j from by omega] at this) (fun o' ho' => hws o' (List.mem_cons_of_mem _ ho')) h2 h1 Q hQ
    split at hk
    · rename_i m x n hm
      have hg : o.guard = none ∧ ∃ c f, o.op = .call c ∧ c.callee = .value (.func f) ∧ c.args.toList = [x, n] ∧ findM f M = some m := by
        unfold markOf at hm
        split at hm
        · rename_i c hgd hop
          split at hm
          · rename_i f p q hca hal
            obtain ⟨m', k1, k2⟩ := Option.map_eq_some_iff.1 hm
            simp only [Prod.mk.injEq] at k2
            obtain ⟨rfl, rfl, rfl⟩ := k2
            exact ⟨hgd, c, f, hop, hca, hal, k1⟩
          · simp at hm
        · simp at hm
      obtain ⟨hgd, c, f, hop, hca, hal, hfm⟩ := hg
      obtain ⟨hmem, rfl⟩ := findM_some hfm
      have hw : Region.wanted o (yielded ops a.tmps) = true := by simp [Region.wanted, hgd]
      rw [if_pos hw]
      refine .inl ?_
      obtain ⟨hok, hmk⟩ := hM m hmem
      unfold markK at hk
      have hvx := h.get x
      have hvn := h.get n
      split at hk
      · rename_i id nn nv hid hnv
        rw [hnv] at hvn
        have hvn := datInt hvn
        obtain ⟨_, hh⟩ := markId_some hid hvx
        split at hk
        · rename_i e t y hob
          split at hk
          · rename_i he
            subst he
            generalize hca2 : castT (.list t) (.list m.t) y = q at hk
            cases q with
            | none => simp at hk
            | some z =>
              simp only [Option.bind_some] at hk
              obtain ⟨e0, hz⟩ := castT_some hca2
              obtain ⟨⟨y', n'⟩, hF, hk⟩ := Option.bind_eq_some_iff.1 hk
              have hor := h.obs id _ hob
              simp only [OR] at hor
              have hor' : OwnV (fun _ => False) w true m.e m.t z (G id).1 (G id).2 := by
                have e1 : t = m.t := by simpa using e0
                have : ∀ (t' : Ty) (e1 : t = t') (z : List t'.den), (∃ e2 : Ty.list t = Ty.list t', (e2 ▸ (show (Ty.list t).den from y) : (Ty.list t').den) = z) → OwnV (fun _ => False) w true m.e t' z (G id).1 (G id).2 := by
                  intro t' e1 z hz
                  subst e1
                  obtain ⟨_, rfl⟩ := hz
                  exact hor.alone (.inl rfl)
                exact this m.t e1 z ⟨e0, hz⟩
              have hcall := hmk z nv y' n' hF w (a.eval x) (G id).1 (G id).2 hor' (h.nodup id _ hob rfl) hh
              unfold Oper.wp
              have hrun : (execOp a.eval o).run C.P w = .ok (.enter m.f #[a.eval x, .int .i64 nv]) w := by
                obtain ⟨dst, op, type, pos, after, guard⟩ := o
                obtain ⟨callee, args, argTypes⟩ := c
                simp only at hop hca hal
                subst hop hca
                have : args.map a.eval = #[a.eval x, .int .i64 nv] := by rw [mapL, hal]; simp [hvn]
                have e2 : a.eval (.func m.f) = .func (.func m.f) #[] #[] := rfl
                simp [execOp, resolve, e2, Deferred.ofValue, invoke, run_callFunc hok, this]
              rw [hrun]
              show Calls C.P m.f _ w _
              refine Calls.mono hcall fun ex w' hpost => ?_
              obtain ⟨rfl, mo, hv⟩ := hpost
              have hr := h.marked (env0 := env0) hp hXH hob mo hv
              cases hd : o.dst with
              | none =>
                rw [hd] at hk
                simp only [putK] at hk
                exact rest hk hr
              | some d =>
                rw [hd] at hk
                simp only [putK, setK_eq] at hk
                exact rest hk (hr.put d intVA (hws o (by simp) d hd))
          · simp at hk
        · simp at hk
      · simp at hk
    · have hst := operK_some (E := E) (ws := o.dst.toList ++ (match o.guard with
          | some (j, _) => ((ops[j]?).bind (·.dst)).toList
          | none => [])) (a := a) (w := w) hC h hk (fun t ht => ⟨by rw [ht]; simp, hws o (by simp) t ht⟩) (fun j b t hg hd => by rw [hg]; simp [hd]) (wpOps C.P ops Q (List.range' (i + 1) os.length)) Q fun σ' a' w' G' h1 h2 h3 h4 => rest h1 h2
      split at hst
      · rename_i hw; rw [if_pos hw]; exact .inl hst
      · rename_i hw; rw [if_neg hw]; exact hst

theorem topK_some {M : List MarkE} {env0 : List A} (hC : Ctrs C) (hM : ∀ m ∈ M, FnOk C.P m.f ∧ MarkOk C.P m) (hp : Par E env0) (hXH : ∀ b, E.X b → E.H b) (c : Code) : (∀ t ∈ wrC c, ¬ E.F t) → ∀ {ρ : Type} {σ : Sg} {G : Gh} {a : Act} {w : World} {k : AEx → Sg → Option ρ} {r : ρ}, RelG E G σ a w → topK C M env0 c ρ σ k = some r → ∀ (Q : Exit → Act → World → Prop),
    (∀ e σ' a' w' G', k e σ' = some r → RelG E G' σ' a' w' → Q e.ex a' w') → c.wp C.P Q a w := by
  have base : ∀ c : Code, (∀ t ∈ wrC c, ¬ E.F t) → ∀ {ρ : Type} {σ : Sg} {G : Gh} {a : Act} {w : World} {k : AEx → Sg → Option ρ} {r : ρ}, RelG E G σ a w → codeK C c ρ σ k = some r → ∀ (Q : Exit → Act → World → Prop),
      (∀ e σ' a' w' G', k e σ' = some r → RelG E G' σ' a' w' → Q e.ex a' w') → c.wp C.P Q a w := fun c hF ρ σ G a w k r h hk Q hQ =>
    codeK_some hC c hF h hk Q fun e σ' a' w' G' h1 h2 _ _ => hQ e σ' a' w' G' h1 h2
  induction c with
  | region id ops draw =>
    cases draw with
    | true =>
      intro hF ρ σ G a w k r h hk Q hQ
      simp only [topK] at hk
      exact base _ hF h hk Q hQ
    | false =>
      intro hF ρ σ G a w k r h hk Q hQ
      simp only [topK] at hk
      refine wp_region ?_
      have := topOpsK_some (ops := ops) hC hM hp hXH ops.toList 0 (fun j o hj => by rw [Nat.zero_add, ← Array.getElem?_toList]; exact hj) (fun o ho t ht => hF t (by simp only [wrC, List.mem_filterMap]; exact ⟨o, ho, ht⟩)) h hk Q
        fun σ' a' w' G' h1 h2 => hQ .normal σ' a' w' G' h1 h2
      rw [List.range_eq_range']; simpa using this
  | seq x y ihx ihy =>
    intro hF
    replace ihx := @ihx fun t ht => hF t (by simp only [wrC]; exact List.mem_append_left _ ht)
    replace ihy := @ihy fun t ht => hF t (by simp only [wrC]; exact List.mem_append_right _ ht)
    intro ρ σ G a w k r h hk Q hQ
    simp only [topK] at hk
    refine wp_seq (ihx h hk _ fun e σ' a' w' G' h1 h2 => ?_)
    cases e with
    | normal => exact ihy h2 h1 Q hQ
    | exit id => exact hQ _ σ' a' w' G' h1 h2
    | ret => exact hQ _ σ' a' w' G' h1 h2
  | cond c x y ihx ihy =>
    intro hF
    replace ihx := @ihx fun t ht => hF t (by simp only [wrC]; exact List.mem_append_left _ ht)
    replace ihy := @ihy fun t ht => hF t (by simp only [wrC]; exact List.mem_append_right _ ht)
    intro ρ σ G a w k r h hk Q hQ
    simp only [topK] at hk
    split at hk
    · rename_i nn cb hc
      have hv := h.get c
      rw [hc] at hv
      have hv := datBool hv
      cases cb with
      | true => exact wp_cond_true hv (ihx h hk Q hQ)
      | false => exact wp_cond_false hv (ihy h hk Q hQ)
    · simp at hk
  | block id c ih =>
    intro hF
    replace ih := @ih fun t ht => hF t (by simp only [wrC]; exact ht)
    intro ρ σ G a w k r h hk Q hQ
    simp only [topK] at hk
    refine wp_block (ih h hk _ fun e σ' a' w' G' h1 h2 => ?_)
    cases e with
    | normal => exact hQ .normal σ' a' w' G' h1 h2
    | ret => exact hQ .ret σ' a' w' G' h1 h2
    | exit id' =>
      simp only at h1
      by_cases hid : id' = id
      · simp only [hid, if_true] at h1
        simp only [AEx.ex, Exit.inBlock, hid, if_true]
        exact hQ .normal σ' a' w' G' h1 h2
      · simp only [hid, if_false] at h1
        simp only [AEx.ex, Exit.inBlock, hid, if_false]
        exact hQ (.exit id') σ' a' w' G' h1 h2
  | _ =>
    intro hF ρ σ G a w k r h hk Q hQ
    simp only [topK] at hk
    exact base _ hF h hk Q hQ

end
end Go.Proofs.Ytajlabmnpimeeaa.Eng

/-!
  The engine, part 38. Contracts of laws. No condition.
-/
namespace Go.Proofs.Ytajlabmnpimeeaa.Eng
open Go
set_option linter.unusedVariables false
set_option linter.unusedSimpArgs false

section
variable {ρ : Type} {C : Ctx} {E : En} {G : Gh} {σ σF : Sg} {a : Act} {w : World} {I U : Nat → Prop}

def isD : PM → Bool
  | .d _ _ => true
  | _ => false

theorem argsD_nil : (ps : List PM) → {y : PMs.den ps} → {vs : List Value} → {bss : List (List Nat)} → ps.all isD = true → ArgsV I w ps y vs bss → bss.flatten = []
  | [], y, [], bss, _, h => by simp only [ArgsV] at h; subst h; rfl
  | [p], y, [v], bss, hd, h => by
    obtain ⟨bs, rfl, h⟩ := h
    cases p <;> simp [isD] at hd
    simp only [ArgV] at h
    simp [h.2.2]
  | p :: p' :: r, y, v :: vs, bss, hd, h => by
    obtain ⟨bs, rest, rfl, h1, h2⟩ := h
    simp only [List.all_cons, Bool.and_eq_true] at hd
    have := argsD_nil (p' :: r) (by simp [hd.2]) h2
    cases p <;> simp [isD] at hd
    simp only [ArgV] at h1
    rw [List.flatten_cons, this, h1.2.2]; rfl
  | [], _, _ :: _, _, _, hv => hv.elim
  | [_], _, [], _, _, hv => hv.elim
  | [_], _, _ :: _ :: _, _, _, hv => hv.elim
  | _ :: _ :: _, _, [], _, _, hv => hv.elim

theorem encPs_par : (ps : List PM) → (σ : Sg) → {y : PMs.den ps} → {vs : List Value} → {bss : List (List Nat)} → ps.all isD = true → ArgsV I w ps y vs bss → ∀ (i : Nat) (x : A), (encPs σ ps y).1[i]? = some x →
    ∃ nn t z, x = .l (.dat nn t z) ∧ ∃ v, vs[i]? = some v ∧ RdV I w t z v ∧ (nn = true → nnP t z v)
  | [], σ, y, [], bss, _, h, i, x, hx => by simp [encPs] at hx
  | [p], σ, y, [v], bss, hd, h, i, x, hx => by
    obtain ⟨bs, rfl, h⟩ := h
    cases p <;> simp [isD] at hd
    rename_i nn t
    simp only [ArgV] at h
    cases i with
    | zero => simp [encPs, encP] at hx; subst hx; exact ⟨nn, t, y, rfl, v, rfl, h.1, h.2.1⟩
    | succ i => simp [encPs, encP] at hx
  | p :: p' :: r, σ, y, v :: vs, bss, hd, h, i, x, hx => by
    obtain ⟨bs, rest, rfl, h1, h2⟩ := h
    simp only [List.all_cons, Bool.and_eq_true] at hd
    have hd2 : (p' :: r).all isD = true := by simp [hd.2]
    cases p <;> simp [isD] at hd
    rename_i nn t
    simp only [ArgV] at h1
    cases i with
    | zero => simp [encPs, encP] at hx; subst hx; exact ⟨nn, t, y.1, rfl, v, rfl, h1.1, h1.2.1⟩
    | succ i =>
      have := encPs_par (p' :: r) σ hd2 h2 i x (by simpa [encPs, encP] using hx)
      simpa using this
  | [], _, _, _ :: _, _, _, hv, _, _, _ => hv.elim
  | [_], _, _, [], _, _, hv, _, _, _ => hv.elim
  | [_], _, _, _ :: _ :: _, _, _, hv, _, _, _ => hv.elim
  | _ :: _ :: _, _, _, [], _, _, hv, _, _, _ => hv.elim

/-- A law that the evaluator runs has the contract of the plain function. -/
theorem funT_ctr {M : List MarkE} (hC : Ctrs C) (hM : ∀ m ∈ M, FnOk C.P m.f ∧ MarkOk C.P m) {e : CallE} {fn : Func} {c : Code} (hf : C.P.funcs[e.f]? = some fn) (hname : (fn.name == "runtime.NumGoroutine") = false) (hbody : fn.body = some c) (hn : e.ps.length ≤ fn.ntmps)
    (hio : ∀ (i : Nat) (p : PM), e.ps[i]? = some p → isIo p = true → i ∉ wrC c) (hd : e.ps.all isD = true) (hpw : ∀ i, i < e.ps.length → i ∉ wrC c) (hF : ∀ x r, e.F x = some r → funT C M fn e.ps e.rs x = some r) : FnOk C.P e.f ∧ Ctr C.P e := by
  refine ⟨⟨fn, c, hf, hname, hbody⟩, fun x r hx I w vs bss hin hargs => ?_⟩
  have hk := hF x r hx
  have hvl : vs.length = e.ps.length := by
    have : ∀ (ps : List PM) (y : PMs.den ps) (vs : List Value) (bss : List (List Nat)), ArgsV I w ps y vs bss → vs.length = ps.length := by
      intro ps
      induction ps with
      | nil => intro y vs bss h; cases vs with
        | nil => rfl
        | cons _ _ => exact h.elim
      | cons p ps ih =>
        intro y vs bss h
        cases ps with
        | nil => match vs, h with
          | [v], _ => rfl
        | cons p' r => match vs, h with
          | v :: vs, ⟨b1, b2, _, _, h⟩ => simp only [List.length_cons]; rw [ih _ _ _ h]; rfl
    exact this _ _ _ _ hargs
  let a : Act := { tmps := vs.toArray ++ Array.replicate (fn.ntmps - vs.toArray.size) undef, defers := [] }
  let E : En := ⟨w, fun b => I b ∨ b ∈ bss.flatten, fun b => b ∈ bss.flatten, fun b => ∃ bs ∈ bss, bs.head? = some b, fun t => t ∉ wrC c, fun t => a.tmps.getD t undef⟩
  have hsz : a.tmps.size = fn.ntmps := by simp [a]; omega
  have h0 : Pre E I (fun _ => False) (fun _ => (undef, [])) ⟨List.replicate fn.ntmps (.l .unk), []⟩ a w :=
    { defers := rfl
      len := by rw [hsz]; simp
      env := fun t x hx => by
        rw [List.getElem?_replicate] at hx
        split at hx
        · obtain rfl := Option.some.inj hx; trivial
        · simp at hx
      obs := fun id o ho => by simp [Sg.ob] at ho
      nodup := fun id o ho => by simp [Sg.ob] at ho
      range := fun id o ho => by simp [Sg.ob] at ho
      hrange := fun id o ho => by simp [Sg.ob] at ho
      disj := fun id id' o o' ho => by simp [Sg.ob] at ho
      os := rfl
      tape := rfl
      output := rfl
      size := Nat.le_refl _
      frame := fun _ _ _ => rfl
      xa := fun b hb => .inr hb
      fixd := fun _ _ => rfl
      acc := fun b hb => ⟨hin.acc b hb, fun _ => .inl hb⟩ }
  have hadm : Adm E I (fun _ => False) w bss := ⟨hin.nodup, fun b hb => ⟨hin.range b hb, fun _ => hb, fun hf => hf⟩, fun bs hbs b hb => ⟨fun _ => ⟨bs, hbs, hb⟩, hin.head bs hbs b hb⟩⟩
  obtain ⟨G1, h1, h2, h3⟩ := encPs_some e.ps h0 hargs hadm
  unfold funT at hk
  rw [hbody] at hk
  simp only at hk
  have hpar := encPs_par e.ps ⟨List.replicate fn.ntmps (.l .unk), []⟩ hd hargs
  have hfl := argsD_nil e.ps hd hargs
  have hal := encPs_len e.ps ⟨List.replicate fn.ntmps (.l .unk), []⟩ x
  generalize encPs ⟨List.replicate fn.ntmps (.l .unk), []⟩ e.ps x = q at hk h1 h2 h3 hal hpar
  obtain ⟨as, σ1⟩ := q
  simp only at hk h1 h2 h3 hal hpar
  have hstart : RelG E G1 { σ1 with env := as ++ σ1.env.drop as.length } a w := by
    have hr := h1.rel
    have h2' := h2.keep h1.keep as
    refine { hr with len := ?_, env := fun t y hy => ?_ }
    · show a.tmps.size = (as ++ σ1.env.drop as.length).length
      rw [hsz, h3.env]; simp; omega
    · show VA (Imm E G1 σ1 w) σ1.hp.length G1 w y _
      have hy : (as ++ σ1.env.drop as.length)[t]? = some y := hy
      by_cases ht : t < as.length
      · rw [List.getElem?_append_left ht] at hy
        have : ∀ (as : List A) (vs : List Value) (t : Nat) (y : A), VAs (Imm E G1 σ1 w) σ1.hp.length G1 w as vs → as[t]? = some y → ∃ v, vs[t]? = some v ∧ VA (Imm E G1 σ1 w) σ1.hp.length G1 w y v := by
          intro as
          induction as with
          | nil => intro vs t y _ hy; simp at hy
          | cons a as ih =>
            intro vs t y hv hy
            cases vs with
            | nil => exact hv.elim
            | cons v vs =>
              cases t with
              | zero => simp at hy; subst hy; exact ⟨v, rfl, hv.1⟩
              | succ t => simpa using ih vs t y hv.2 (by simpa using hy)
        obtain ⟨v, hv1, hv2⟩ := this as vs t y h2' hy
        have hlt := (List.getElem?_eq_some_iff.1 hv1).1
        have : a.tmps.getD t undef = v := by
          simp only [a, Array.getD_eq_getD_getElem?]
          rw [Array.getElem?_append_left (by simpa using hlt)]
          simp [hv1]
        rw [this]; exact hv2
      · rw [List.getElem?_append_right (by omega), List.getElem?_drop, h3.env, List.getElem?_replicate] at hy
        split at hy
        · obtain rfl := Option.some.inj hy; trivial
        · simp at hy
  refine calls_of_wp hf hbody ?_
  have hX : ∀ b, ¬ E.X b := fun b hb => by
    have hb : b ∈ bss.flatten := hb
    rw [hfl] at hb; simp at hb
  have hH : ∀ b, ¬ E.H b := fun b hb => by
    obtain ⟨bs, h1, h2⟩ : ∃ bs ∈ bss, bs.head? = some b := hb
    exact hX b (List.mem_flatten.2 ⟨bs, h1, List.mem_of_mem_head? h2⟩)
  have hp : Par E as := ⟨fun i x hx => hpw i (by rw [← hal]; exact (List.getElem?_eq_some_iff.1 hx).1), fun i x hx => by
    obtain ⟨nn, t, z, e1, v, hv, h1, h2⟩ := hpar i x hx
    have hlt := (List.getElem?_eq_some_iff.1 hv).1
    have : E.V i = v := by
      show a.tmps.getD i undef = v
      simp only [a, Array.getD_eq_getD_getElem?]
      rw [Array.getElem?_append_left (by simpa using hlt)]
      simp [hv]
    rw [this]
    exact ⟨nn, t, z, e1, h1.mono (fun b hb => ⟨hin.acc b hb, .inl hb, hX b, hH b⟩) fun _ _ => rfl, h2⟩⟩
  refine topK_some (E := E) hC hM hp (fun b hb => absurd hb (hX b)) c (fun t ht hf => hf ht) hstart hk _ fun ex σ' a' w' G' hk2 hr => ?_
  have fin : (resK C σ' fn.results.toList fun vs => ioK e.ps 0 (frzSs e.rs vs σ') fun o σ => decSs e.rs vs σ fun r _ => some (resJ (hasIo e.ps) r o)) = some r → a'.defers = [] ∧ ∃ v, (results fn a'.tmps).run C.P w' = .ok v w' ∧
      ∃ (I' : Nat → Prop) (rvs : List Value) (rbss ibss : List (List Nat)), Ending.returned v = .returned (retV rvs) ∧ CallOut I w w' bss (ibss ++ rbss) I' ∧
      SVs I' w' e.rs (resB (hasIo e.ps) r).1 rvs rbss ∧ ((resB (hasIo e.ps) r).2 = none → ibss = []) ∧ ∀ o, (resB (hasIo e.ps) r).2 = some o → IoV I' w' e.ps o vs ibss := fun hk3 => by
    refine ⟨hr.defers, ?_⟩
    obtain ⟨xs, rvs, k1, k2, k3, k4⟩ := resK_some hr _ hk3
    have f := frzSs_frz e.rs xs σ'
    have hr2 := f.rel hr
    generalize frzSs e.rs xs σ' = σ2 at k1 f hr2
    obtain ⟨o, σ3, new1, ibss, q1, q2, q3⟩ := ioK_some hr2 e.ps 0 (vs := vs) (Gone.refl _) (by simp [Mine]) hvl (fun j p v hp hi hv => by
      have hfx := hr2.fixd (0 + j) (by show 0 + j ∉ wrC c; rw [Nat.zero_add]; exact hio j p hp hi)
      rw [hfx]
      show a.tmps.getD (0 + j) undef = v
      have hlt := (List.getElem?_eq_some_iff.1 hv).1
      simp only [a, Array.getD_eq_getD_getElem?, Nat.zero_add]
      rw [Array.getElem?_append_left (by simpa using hlt)]
      simp [hv]) k1
    obtain ⟨y, σ4, new2, rbss, q4, q5, hsv⟩ := decSs_some e.rs hr2 q2.gone (by simpa using q2.mine) q1 (k2.keep f.keep _)
    obtain rfl := Option.some.inj q4
    have tk := Took.trans hr2 q2 q5
    obtain ⟨z1, z2, z3⟩ := resB_resJ (hasIo e.ps) y o
    refine ⟨_, run_results k3 k4, Imm E G' σ2 w', rvs, rbss, ibss, rfl, ?_, ?_, fun hno => IoV.noIo e.ps (z2 hno) q3, fun o' ho => ?_⟩
    · have had := tk.cls.adm hr2 tk.mine (U := fun _ => False) (fun _ _ _ _ hf => hf)
      exact ⟨hr2.os, hr2.tape, hr2.output, hr2.size, fun b hb hh => hr2.frame b hb fun ⟨bs, hbs, hx⟩ => hh bs hbs hx, fun b hb => ⟨hb.1, hb.2.1⟩, had.nodup,
        fun b hb => ⟨(had.range b hb).1, (had.range b hb).2.1⟩, fun bs hbs b hb => ⟨(had.head bs hbs b hb).2, (had.head bs hbs b hb).1⟩⟩
    · rw [z1]; exact hsv
    · rw [z3 o' ho]; exact q3
  cases ex with
  | normal => exact fin hk2
  | ret => exact fin hk2
  | exit id => simp at hk2

end

def AllM (P : Program) : List MarkE → Prop
  | [] => True
  | m :: r => (FnOk P m.f ∧ MarkOk P m) ∧ AllM P r

theorem allM {P : Program} : {M : List MarkE} → AllM P M → ∀ m ∈ M, FnOk P m.f ∧ MarkOk P m
  | [], _, m, hm => by simp at hm
  | x :: M, h, m, hm => by
    rcases List.mem_cons.1 hm with rfl | hm
    · exact h.1
    · exact allM h.2 m hm

def okLaw (fn : Func) (ps : List PM) : Bool := ps.all isD && (match fn.body with
  | some c => (List.range ps.length).all fun i => !(wrC c).contains i
  | none => false)

theorem mkLaw {C : Ctx} {M : List MarkE} {e : CallE} {fn : Func} (hm : C.P.follows .mixedOrders = true) (h : AllC C.P C.O) (hM : AllM C.P M) (hf : C.P.funcs[e.f]? = some fn) (hok : okFn fn e.ps = true) (hlw : okLaw fn e.ps = true)
    (hF : ∀ x, funT C M fn e.ps e.rs x = e.F x) (hi : AllI C.P C.I := by trivial) : FnOk C.P e.f ∧ Ctr C.P e := by
  unfold okFn at hok
  unfold okLaw at hlw
  simp only [Bool.and_eq_true, Bool.not_eq_true', decide_eq_true_eq] at hok hlw
  obtain ⟨⟨h1, h2⟩, h3⟩ := hok
  obtain ⟨g1, g2⟩ := hlw
  split at h2
  · rename_i c hc
    rw [hc] at g2
    simp only at g2
    exact funT_ctr (ctrs_of hm h hi) (allM hM) hf h1 hc h3 (fun i p hp hi => by
      have := ioOk_some e.ps 0 h2 i p hp hi
      rwa [Nat.zero_add] at this) g1 (fun i hi => by
      have := List.all_eq_true.1 g2 i (List.mem_range.2 hi)
      simpa using this) fun x r hx => (hF x).trans hx
  · simp at h2

end Go.Proofs.Ytajlabmnpimeeaa.Eng

/-!
  The engine, part 39. One element of a slice changes, its own slices with it. No condition.
-/
namespace Go.Proofs.Ytajlabmnpimeeaa.Eng
open Go
set_option linter.unusedVariables false
set_option linter.unusedSimpArgs false

/-- A function that writes into a slice whose block may be of any type. -/
structure InnerE where
  f : FuncId
  t : Ty
  F : List t.den → Int → Option (List t.den × Int)

def InnerE.mark (m : InnerE) (e : TypeId) : MarkE := ⟨m.f, none, e, m.t, m.F⟩

/-- A number is put into cell 'j'. -/
def setInt : (t : Ty) → t.den → Nat → Int → Option t.den
  | .int .i64, _, 0, n => some n
  | .prod a b, x, j, n => if j < a.wid then (setInt a x.1 j n).map fun y => (y, x.2) else (setInt b x.2 (j - a.wid) n).map fun y => (x.1, y)
  | _, _, _, _ => none

/-- The slice in cell 'j' is written into. -/
def updAt (m : InnerE) : (t : Ty) → t.den → Nat → Int → Option (t.den × Int)
  | .list t', x, 0, n => (castT (.list t') (.list m.t) x).bind fun x => (m.F x n).bind fun r => (castT (.list m.t) (.list t') r.1).bind fun y => some (y, r.2)
  | .prod a b, x, j, n => if j < a.wid then (updAt m a x.1 j n).map fun r => ((r.1, x.2), r.2) else (updAt m b x.2 (j - a.wid) n).map fun r => ((x.1, r.1), r.2)
  | _, _, _, _ => none

section
variable {w w' : World}

theorem setInt_some : (t : Ty) → {x x' : t.den} → {j : Nat} → {n : Int} → {cs : List Value} → {bs : List Nat} → DpC 0 w t x cs bs → setInt t x j n = some x' → j < t.wid ∧ DpC 0 w t x' (cs.set j (.int .i64 n)) bs
  | .int k, x, x', j, n, cs, bs, h, hs => by
    cases k <;> cases j <;> simp only [setInt] at hs <;> first | (simp at hs; done) | skip
    all_goals first | (cases hs; done) | skip
    simp only [DpC] at h ⊢
    obtain ⟨rfl, rfl⟩ := h
    cases hs
    exact ⟨Nat.zero_lt_one, rfl, rfl⟩
  | .bool, x, x', j, n, cs, bs, h, hs => by simp [setInt] at hs
  | .str, x, x', j, n, cs, bs, h, hs => by simp [setInt] at hs
  | .list t, x, x', j, n, cs, bs, h, hs => by simp [setInt] at hs
  | .prod a b, x, x', j, n, cs, bs, h, hs => by
    simp only [setInt] at hs
    simp only [DpC] at h
    obtain ⟨c1, c2, b1, b2, rfl, rfl, h1, h2⟩ := h
    have l1 := h1.length
    split at hs
    · rename_i hj
      obtain ⟨y, hy, rfl⟩ := Option.map_eq_some_iff.1 hs
      obtain ⟨k1, k2⟩ := setInt_some a h1 hy
      refine ⟨Nat.lt_of_lt_of_le k1 (Nat.le_add_right _ _), ?_⟩
      rw [List.set_append, if_pos (by omega)]
      simp only [DpC]
      exact ⟨_, c2, b1, b2, rfl, rfl, k2, h2⟩
    · rename_i hj
      obtain ⟨y, hy, rfl⟩ := Option.map_eq_some_iff.1 hs
      obtain ⟨k1, k2⟩ := setInt_some b h2 hy
      refine ⟨by simp only [Ty.wid]; omega, ?_⟩
      rw [List.set_append, if_neg (by omega), l1]
      simp only [DpC]
      exact ⟨c1, _, b1, b2, rfl, rfl, h1, k2⟩

/-- A list inside an element is a slice of the call's own. -/
theorem DpC.own {t : Ty} {x : List t.den} {v : Value} {bs : List Nat} (h : DpC 0 w (.list t) x [v] bs) : ∃ e, OwnV (fun _ => False) w true e t x v bs := by
  simp only [DpC] at h
  obtain ⟨a, n, c, hv, rfl, h3, h4, h5, h6⟩ := h
  simp only [List.cons.injEq, and_true] at hv
  subst hv
  rcases h6 with ⟨rfl, rfl, rfl, rfl⟩ | ⟨b, o, arr, e, bss, rfl, rfl, hl, _, ⟨hh, rfl, hz⟩, hel⟩
  · refine ⟨0, Nat.zero_le _, [], [], ⟨by simp, .inl ⟨rfl, rfl⟩⟩, rfl, fun _ => rfl, fun hf => by simp at hf, fun i y hi => by simp at hi⟩
  · refine ⟨e, h5, arr.toList.take (x.length * t.wid), bss, ⟨?_, .inr ⟨b, c, arr, rfl, Nat.zero_le _, hh, h3, h4, hz, rfl⟩⟩, by simp [Value.ownBlock], fun _ => hl, fun hf => by simp at hf, fun i y hi => ?_⟩
    · have hsz : arr.toList.length = arr.size := Array.length_toList
      rw [List.length_take, hsz, hz]
      exact Nat.min_eq_left (Nat.mul_le_mul_right _ h3)
    · obtain ⟨ys, hy1, hy2, hy3⟩ := hel i y hi
      have hil := (List.getElem?_eq_some_iff.1 hi).1
      refine ⟨ys, hy1, fun j hj => ?_, by simpa using hy3⟩
      rw [List.getElem?_take, if_pos (chunk_lt hil hj), Array.getElem?_toList, ← hy2 j hj, Nat.zero_add]

theorem updAt_some {m : InnerE} : (t : Ty) → {x x' : t.den} → {j : Nat} → {n n' : Int} → {cs : List Value} → {bs : List Nat} → DpC 0 w t x cs bs → bs.Nodup → updAt m t x j n = some (x', n') →
    ∃ u e z z' bj, j < t.wid ∧ cs[j]? = some u ∧ m.F z n = some (z', n') ∧ OwnV (fun _ => False) w true e m.t z u bj ∧ bj.Nodup ∧ (∀ b ∈ bj, b ∈ bs) ∧
      ∀ w' : World, MarkOut w w' bj → OwnV (fun _ => False) w' true e m.t z' u bj → DpC 0 w' t x' cs bs
  | .int k, x, x', j, n, n', cs, bs, h, hn, hs => by simp [updAt] at hs
  | .bool, x, x', j, n, n', cs, bs, h, hn, hs => by simp [updAt] at hs
  | .str, x, x', j, n, n', cs, bs, h, hn, hs => by simp [updAt] at hs
  | .list t, x, x', 0, n, n', cs, bs, h, hn, hs => by
    simp only [updAt] at hs
    cases hc : castT (.list t) (.list m.t) x with
    | none => simp [hc] at hs
    | some z =>
      simp only [hc, Option.bind_some] at hs
      obtain ⟨⟨z', n''⟩, hF, hs⟩ := Option.bind_eq_some_iff.1 hs
      simp only at hs
      cases hc2 : castT (.list m.t) (.list t) z' with
      | none => simp [hc2] at hs
      | some y =>
        simp only [hc2, Option.bind_some, Option.some.injEq, Prod.mk.injEq] at hs
        obtain ⟨rfl, rfl⟩ := hs
        have hl := h.length
        have : ∃ v, cs = [v] := by
          match cs, hl with
          | [v], _ => exact ⟨v, rfl⟩
        obtain ⟨v, rfl⟩ := this
        obtain ⟨e, ho⟩ := h.own
        obtain ⟨e1, hz⟩ := castT_some hc
        obtain ⟨e2, hy⟩ := castT_some hc2
        have e3 : t = m.t := by simpa using e1
        have key : ∀ (t' : Ty) (e3 : t = t') (z z' : List t'.den), (∃ e1 : Ty.list t = Ty.list t', (e1 ▸ (show (Ty.list t).den from x) : (Ty.list t').den) = z) → (∃ e2 : Ty.list t' = Ty.list t, (e2 ▸ (show (Ty.list t').den from z') : (Ty.list t).den) = y) →
            OwnV (fun _ => False) w true e t' z v bs ∧ ∀ w' : World, OwnV (fun _ => False) w' true e t' z' v bs → DpC 0 w' (.list t) y [v] bs := by
          intro t' e3 z z' hz hy
          subst e3
          obtain ⟨_, rfl⟩ := hz
          obtain ⟨_, rfl⟩ := hy
          exact ⟨ho, fun w' h' => h'.dpC (.inl rfl)⟩
        obtain ⟨k1, k2⟩ := key m.t e3 z z' ⟨e1, hz⟩ ⟨e2, hy⟩
        exact ⟨v, e, z, z', bs, Nat.zero_lt_one, rfl, hF, k1, hn, fun b hb => hb, fun w' _ h' => k2 w' h'⟩
  | .list t, x, x', j + 1, n, n', cs, bs, h, hn, hs => by simp [updAt] at hs
  | .prod a b, x, x', j, n, n', cs, bs, h, hn, hs => by
    simp only [updAt] at hs
    simp only [DpC] at h
    obtain ⟨c1, c2, b1, b2, rfl, rfl, h1, h2⟩ := h
    have l1 := h1.length
    rw [List.nodup_append] at hn
    obtain ⟨n1, n2, n3⟩ := hn
    split at hs
    · rename_i hj
      obtain ⟨⟨y, m'⟩, hy, he⟩ := Option.map_eq_some_iff.1 hs
      simp only [Prod.mk.injEq] at he
      obtain ⟨rfl, rfl⟩ := he
      obtain ⟨u, e, z, z', bj, k0, k1, k2, k3, k4, k5, k6⟩ := updAt_some a h1 n1 hy
      refine ⟨u, e, z, z', bj, Nat.lt_of_lt_of_le k0 (Nat.le_add_right _ _), by rw [List.getElem?_append_left (by omega)]; exact k1, k2, k3, k4, fun b hb => List.mem_append_left _ (k5 b hb), fun w' mo ho => ?_⟩
      simp only [DpC]
      refine ⟨c1, c2, b1, b2, rfl, rfl, k6 w' mo ho, h2.mono (Nat.le_refl _) b fun q hq => mo.frame q (h2.range b q hq).2 fun hb => n3 q (k5 q hb) q hq rfl⟩
    · rename_i hj
      obtain ⟨⟨y, m'⟩, hy, he⟩ := Option.map_eq_some_iff.1 hs
      simp only [Prod.mk.injEq] at he
      obtain ⟨rfl, rfl⟩ := he
      obtain ⟨u, e, z, z', bj, k0, k1, k2, k3, k4, k5, k6⟩ := updAt_some b h2 n2 hy
      refine ⟨u, e, z, z', bj, by simp only [Ty.wid]; omega, by rw [List.getElem?_append_right (by omega), l1]; exact k1, k2, k3, k4, fun b hb => List.mem_append_right _ (k5 b hb), fun w' mo ho => ?_⟩
      simp only [DpC]
      refine ⟨c1, c2, b1, b2, rfl, rfl, h1.mono (Nat.le_refl _) a fun q hq => mo.frame q (h1.range a q hq).2 fun hb => n3 q hq q (k5 q hb) rfl, k6 w' mo ho⟩

theorem MarkOut.refl (w : World) (bs : List Nat) : MarkOut w w bs := ⟨rfl, rfl, rfl, Nat.le_refl _, fun _ _ _ => rfl⟩
theorem MarkOut.trans {a b c : World} {bs : List Nat} (h : MarkOut a b bs) (k : MarkOut b c bs) : MarkOut a c bs :=
  ⟨k.os.trans h.os, k.tape.trans h.tape, k.output.trans h.output, Nat.le_trans h.size k.size, fun i hi hn => (k.frame i (Nat.lt_of_lt_of_le hi h.size) hn).trans (h.frame i hi hn)⟩
theorem MarkOut.mono {a b : World} {bs bs' : List Nat} (h : MarkOut a b bs) (hs : ∀ x ∈ bs, x ∈ bs') : MarkOut a b bs' :=
  ⟨h.os, h.tape, h.output, h.size, fun i hi hn => h.frame i hi fun hm => hn (hs i hm)⟩

theorem nodup_parts {b : Nat} {bss : List (List Nat)} (h : (b :: bss.flatten).Nodup) : (∀ (i : Nat) (l : List Nat), bss[i]? = some l → l.Nodup ∧ b ∉ l) ∧ ∀ (i j : Nat) (l m : List Nat), bss[i]? = some l → bss[j]? = some m → i ≠ j → ∀ x ∈ l, x ∉ m := by
  rw [List.nodup_cons] at h
  obtain ⟨h1, h2⟩ := h
  refine ⟨fun i l hl => ⟨?_, fun hb => h1 (List.mem_flatten.2 ⟨l, List.mem_of_getElem? hl, hb⟩)⟩, ?_⟩
  · exact (List.pairwise_flatten.1 h2).1 l (List.mem_of_getElem? hl)
  · intro i j l m hl hm hij x hx hxm
    have hp := (List.pairwise_flatten.1 h2).2
    rw [List.pairwise_iff_getElem] at hp
    obtain ⟨hi, rfl⟩ := List.getElem?_eq_some_iff.1 hl
    obtain ⟨hj, rfl⟩ := List.getElem?_eq_some_iff.1 hm
    rcases Nat.lt_or_gt_of_ne hij with h3 | h3
    · exact hp i j hi hj h3 x hx x hxm rfl
    · exact hp j i hj hi h3 x hxm x hx rfl

/-- One element, and what may be done to it. -/
theorem OwnV.elem {e : TypeId} {t : Ty} {y : List t.den} {v : Value} {bs : List Nat} (h : OwnV (fun _ => False) w true e t y v bs) (hn : bs.Nodup) {i : Nat} {q : t.den} (hi : y[i]? = some q) :
    ∃ (b c : Nat) (cur : Array Value) (ys : List Value) (bi : List Nat), v = .slice (some ⟨b, 0, none⟩) y.length c ∧ w.heap[b]? = some (.cells cur e (0, 0)) ∧ (∀ j, j < t.wid → cur[i * t.wid + j]? = ys[j]?) ∧ ys.length = t.wid ∧ DpC 0 w t q ys bi ∧
      bi.Nodup ∧ (∀ x ∈ bi, x ∈ bs) ∧ b ∈ bs ∧ (∀ (w' : World) (q' : t.den), MarkOut w w' bi → DpC 0 w' t q' ys bi → OwnV (fun _ => False) w' true e t (y.set i q') v bs) ∧
      (∀ (q' : t.den) (j : Nat) (u : Value), j < t.wid → DpC 0 w t q' (ys.set j u) bi → OwnV (fun _ => False) (w.setRow b (cur.toList.set (i * t.wid + j) u).toArray) true e t (y.set i q') v bs) := by
  have h0 := h
  obtain ⟨hl, cells, bss, ho, rfl, hd, _, hel⟩ := h
  obtain ⟨ys, hy1, hy2, hy3⟩ := hel i q hi
  simp only [if_true] at hy3
  have hil := (List.getElem?_eq_some_iff.1 hi).1
  rcases ho.2 with ⟨_, hz⟩ | ⟨b, c, cur, rfl, _, hh, hnc, hcm, hcs, htake⟩
  · omega
  · have hbl : bss.length = y.length := hd rfl
    obtain ⟨bi, hbi⟩ : ∃ bi, bss[i]? = some bi := ⟨bss[i]'(by omega), List.getElem?_eq_getElem (by omega)⟩
    rw [hbi] at hy3
    simp only [Option.getD_some] at hy3
    have hn' : (b :: bss.flatten).Nodup := by simpa [Value.ownBlock] using hn
    obtain ⟨np1, np2⟩ := nodup_parts hn'
    obtain ⟨ni, nb⟩ := np1 i bi hbi
    have hsub : ∀ (j : Nat) (l : List Nat), bss[j]? = some l → ∀ x ∈ l, x ∈ bss.flatten := fun j l hj x hx => List.mem_flatten.2 ⟨l, List.mem_of_getElem? hj, hx⟩
    refine ⟨b, c, cur, ys, bi, rfl, hh, fun j hj => ?_, hy1, hy3, ni, fun x hx => List.mem_append_right _ (hsub i bi hbi x hx), by simp [Value.ownBlock], fun w' q' mo hq => ?_, fun q' j u hj hq => ?_⟩
    · rw [← hy2 j hj, ← htake, List.getElem?_take, if_pos (chunk_lt hil hj), Array.getElem?_toList]
    · have hb : w'.heap[b]? = w.heap[b]? := mo.frame b (Array.getElem?_eq_some_iff.1 hh).1 nb
      refine ⟨by simpa using hl, cells, bss, ⟨by simpa using ho.1, .inr ⟨b, c, cur, by simp, Nat.zero_le _, by rw [hb]; exact hh, by simpa using hnc, hcm, hcs, by simpa using htake⟩⟩, rfl, fun _ => by simpa using hbl, fun hf => by simp at hf, fun k z hk => ?_⟩
      rw [List.getElem?_set] at hk
      simp only [if_true]
      by_cases hik : i = k
      · subst hik
        simp only [if_true, hil] at hk
        obtain rfl := Option.some.inj hk
        exact ⟨ys, hy1, hy2, by rw [hbi]; exact hq⟩
      · rw [if_neg hik] at hk
        obtain ⟨zs, hz1, hz2, hz3⟩ := hel k z hk
        simp only [if_true] at hz3
        refine ⟨zs, hz1, hz2, hz3.mono (Nat.le_refl _) t fun x hx => ?_⟩
        cases hbk : bss[k]? with
        | none => simp [hbk] at hx
        | some l =>
          simp only [hbk, Option.getD_some] at hx hz3
          exact mo.frame x (hz3.range t x hx).2 fun hm => np2 k i l bi hbk hbi (fun e => hik e.symm) x hx hm
    · have hle : i * t.wid + j < cur.size := by
        have := chunk_lt hil hj
        have := Nat.mul_le_mul_right t.wid hnc
        omega
      have ho2 : ∀ x, x ≠ b → (w.setRow b (cur.toList.set (i * t.wid + j) u).toArray).heap[x]? = w.heap[x]? := fun x hx => setRow_other w b x _ hx
      refine ⟨by simpa using hl, cells.set (i * t.wid + j) u, bss, ⟨by simpa using ho.1, .inr ⟨b, c, (cur.toList.set (i * t.wid + j) u).toArray, by simp, Nat.zero_le _, setRow_heap w b cur _ e _ hh, by simpa using hnc, hcm, by simpa using hcs, ?_⟩⟩, rfl, fun _ => by simpa using hbl, fun hf => by simp at hf, fun k z hk => ?_⟩
      · rw [← htake, List.length_set]
        simp only
        rw [List.take_set]
      · rw [List.getElem?_set] at hk
        simp only [if_true]
        have oth : ∀ (k j' : Nat), k < y.length → j' < t.wid → k ≠ i → (cells.set (i * t.wid + j) u)[k * t.wid + j']? = cells[k * t.wid + j']? := fun k j' hk hj' hki => by
          rw [List.getElem?_set, if_neg]
          intro he
          have : k = i := by
            have a1 : (i * t.wid + j) / t.wid = i := by rw [Nat.mul_comm, Nat.mul_add_div t.wid_pos, Nat.div_eq_of_lt hj, Nat.add_zero]
            have a2 : (k * t.wid + j') / t.wid = k := by rw [Nat.mul_comm, Nat.mul_add_div t.wid_pos, Nat.div_eq_of_lt hj', Nat.add_zero]
            rw [he, a2] at a1; exact a1
          exact hki this
        by_cases hik : i = k
        · subst hik
          simp only [if_true, hil] at hk
          obtain rfl := Option.some.inj hk
          refine ⟨ys.set j u, by simpa using hy1, fun j' hj' => ?_, by
            rw [hbi]
            exact hq.mono (Nat.le_refl _) t fun x hx => ho2 x fun hxb => nb (hxb ▸ hx)⟩
          rw [List.getElem?_set, List.getElem?_set]
          by_cases hjj : j = j'
          · subst hjj
            have hcl : i * t.wid + j < cells.length := by rw [ho.1]; exact chunk_lt hil hj
            simp [hcl, hy1, hj]
          · rw [if_neg (by omega), if_neg hjj]; exact hy2 j' hj'
        · rw [if_neg hik] at hk
          have hkl := (List.getElem?_eq_some_iff.1 hk).1
          obtain ⟨zs, hz1, hz2, hz3⟩ := hel k z hk
          simp only [if_true] at hz3
          refine ⟨zs, hz1, fun j' hj' => by rw [oth k j' hkl hj' (fun e => hik e.symm)]; exact hz2 j' hj', hz3.mono (Nat.le_refl _) t fun x hx => ho2 x fun hxb => ?_⟩
          cases hbk : bss[k]? with
          | none => simp [hbk] at hx
          | some l =>
            simp only [hbk, Option.getD_some] at hx
            exact (np1 k l hbk).2 (hxb ▸ hx)

end
end Go.Proofs.Ytajlabmnpimeeaa.Eng

/-!
  The engine, part 40. Functions that write into a slice and the slices inside it: their code, run over the slice's data. No condition.
-/
namespace Go.Proofs.Ytajlabmnpimeeaa.Eng
open Go
set_option linter.unusedVariables false
set_option linter.unusedSimpArgs false

/-- What is known of a slot: the slice, a number, a truth value, a pointer to a cell of an element, the value that stands there. -/
inductive MV where
  | unk
  | sl
  | int (n : Int)
  | bool (b : Bool)
  | fp (i j : Nat)
  | cell (i j : Nat)

def MV.still : MV → MV
  | .cell _ _ => .unk
  | x => x

def mget (env : List MV) (x : Operand) : MV :=
  match x with
  | .tmp t => env.getD t .unk
  | .const v => match v with
    | .int .i64 n => .int n
    | _ => .unk
  | _ => .unk

def findIn (f : FuncId) : List InnerE → Option InnerE
  | [] => none
  | m :: r => if m.f = f then some m else findIn f r

/-- The loop: its exit, the slots of the count, of the index, of the slice. -/
structure MarkL where
  id : Nat
  c : Nat
  i : Nat
  x : Nat

section
variable {ρ : Type} (C : Ctx) (S : List InnerE) (t : Ty)

def mOp (env : List MV) (y : List t.den) (o : Op) (k : MV → List MV → List t.den → Option ρ) : Option ρ :=
  match o with
  | .move x => k (mget env x) env y
  | .assign x => k (mget env x) env y
  | .binOp op ty x z q => match mget env x, mget env z with
    | .int a, .int b => match op with
      | .add => k (.int (IntKind.i64.wrap (a + b))) env y
      | .lss => k (.bool (decide (a < b))) env y
      | _ => none
    | _, _ => none
  | .call c => match c.callee with
    | .builtin .len => match c.args.toList, c.argTypes.toList with
      | [x], [ty] => match mget env x with
        | .sl => (elT C ty).bind fun _ => k (.int y.length) env y
        | _ => none
      | _, _ => none
    | .value (.func f) => match c.args.toList, findIn f S with
      | [x, n], some m => match mget env x, mget env n with
        | .cell i j, .int n => (y[i]?).bind fun q => (updAt m t q j n).bind fun r => k (.int r.2) (env.map MV.still) (y.set i r.1)
        | _, _ => none
      | _, _ => none
    | _ => none
  | .indexAddr ty x i => match elT C ty, mget env x, mget env i with
    | some e, .sl, .int i => if szT C e = some t.wid then (inIdx y.length i).bind fun _ => k (.fp i.toNat 0) env y else none
    | _, _, _ => none
  | .fieldAddr s x f => match mget env x, C.P.underlying s with
    | .fp i j, some (.struct fs) => match fs[f]? with
      | some fd => match szT C fd.type with
        | some (_ + 1) => k (.fp i (j + fd.offset)) env y
        | _ => none
      | none => none
    | _, _ => none
  | .load ty p => match mget env p with
    | .fp i j => match isAggT C ty with
      | some false => if i < y.length ∧ j < t.wid then k (.cell i j) env y else none
      | _ => none
    | _ => none
  | .store ty p x => match mget env p, mget env x with
    | .fp i j, .int n => if szT C ty = some 1 then (y[i]?).bind fun q => (setInt t q j n).bind fun q' => k .unk (env.map MV.still) (y.set i q') else none
    | _, _ => none
  | _ => none

def mPut (d : Option Tmp) (x : MV) (env : List MV) : List MV :=
  match d with
  | some d => env.set d x
  | none => env

def opsM : List Oper → List MV → List t.den → (List MV → List t.den → Option ρ) → Option ρ
  | [], env, y, k => k env y
  | o :: r, env, y, k => match o.guard with
    | none => mOp C S t env y o.op fun x env y => opsM r (mPut o.dst x env) y k
    | some _ => none

def layM (L : MarkL) (n : Nat) (cur i : Int) : List MV := (((List.replicate n .unk).set L.x .sl).set L.c (.int cur)).set L.i (.int i)
def endM (L : MarkL) (n : Nat) (cur : Int) : List MV := ((List.replicate n .unk).set L.x .sl).set L.c (.int cur)

noncomputable def codeM (L : MarkL) : Code → (ρ : Type) → List MV → List t.den → (AEx → List MV → List t.den → Option ρ) → Option ρ
  | .skip, _, env, y, k => k .normal env y
  | .region _ ops false, _, env, y, k => opsM C S t ops.toList env y fun env y => k .normal env y
  | .seq a b, ρ, env, y, k => codeM L a ρ env y fun e env y => match e with
    | .normal => codeM L b ρ env y k
    | e => k e env y
  | .cond c a b, ρ, env, y, k => match mget env c with
    | .bool cb => cond cb (codeM L a ρ env y k) (codeM L b ρ env y k)
    | _ => none
  | .block id c, ρ, env, y, k => codeM L c ρ env y fun e env y => match e with
    | .exit id' => if id' = id then k .normal env y else k (.exit id') env y
    | e => k e env y
  | .exit id, _, env, y, k => k (.exit id) env y
  | .ret, _, env, y, k => k .ret env y
  | .loop c, ρ, env, y, k => match env[L.x]?, env[L.c]?, env[L.i]? with
    | some .sl, some (.int cur), some (.int i) => (iter (fun s : Int × Int × List t.den => codeM L c ((Int × Int × List t.den) ⊕ (Int × List t.den)) (layM L env.length s.1 s.2.1) s.2.2 fun e env y => match e with
        | .normal => match env[L.x]?, env[L.c]?, env[L.i]? with
          | some .sl, some (.int cur), some (.int i) => some (.inl (cur, i, y))
          | _, _, _ => none
        | .exit id => if id = L.id then (match env[L.x]?, env[L.c]? with
          | some .sl, some (.int cur) => some (.inr (cur, y))
          | _, _ => none) else none
        | .ret => none) (cur, i, y)).bind fun r => k (.exit L.id) (endM L env.length r.1) r.2
    | _, _, _ => none
  | _, _, _, _, _ => none

noncomputable def funM (L : MarkL) (fn : Func) (y : List t.den) (n : Int) : Option (List t.den × Int) :=
  match fn.body with
  | none => none
  | some c => codeM C S t L c _ ([.sl, .int n] ++ List.replicate (fn.ntmps - 2) .unk) y fun e env y => match e with
    | .exit _ => none
    | _ => match fn.results.toList with
      | [.tmp r] => match env[r]? with
        | some (.int n) => some (y, n)
        | _ => none
      | _ => none

end

/-! What this stands for. -/

def MVOk (wd : Nat) (w : World) (v : Value) : MV → Value → Prop
  | .unk, _ => True
  | .sl, u => u = v
  | .int n, u => u = .int .i64 n
  | .bool b, u => u = .bool b
  | .fp i j, u => ∃ b n c, v = .slice (some ⟨b, 0, none⟩) n c ∧ u = .pointer (some ⟨b, i * wd + j, none⟩)
  | .cell i j, u => ∃ b n c, v = .slice (some ⟨b, 0, none⟩) n c ∧ w.cell? ⟨b, i * wd + j, none⟩ = some u

structure MI (w0 : World) (v : Value) (bs : List Nat) (e : TypeId) (t : Ty) (env : List MV) (y : List t.den) (a : Act) (w : World) : Prop where
  defers : a.defers = []
  len : a.tmps.size = env.length
  env : ∀ (i : Nat) (x : MV), env[i]? = some x → MVOk t.wid w v x (a.tmps.getD i undef)
  out : MarkOut w0 w bs
  own : OwnV (fun _ => False) w true e t y v bs

section
variable {ρ : Type} {C : Ctx} {S : List InnerE} {t : Ty} {w0 w : World} {v : Value} {bs : List Nat} {e : TypeId} {env : List MV} {y : List t.den} {a : Act}

theorem MV.still_ok {w' : World} {wd : Nat} : (x : MV) → {u : Value} → MVOk wd w v x u → MVOk wd w' v x.still u
  | .unk, _, _ => trivial
  | .sl, _, h => h
  | .int _, _, h => h
  | .bool _, _, h => h
  | .fp _ _, _, h => h
  | .cell _ _, _, _ => trivial

theorem MI.get (h : MI w0 v bs e t env y a w) (x : Operand) : MVOk t.wid w v (mget env x) (a.eval x) := by
  unfold mget
  split
  · rename_i i
    simp only [List.getD_eq_getElem?_getD, Act.eval]
    cases hx : env[i]? with
    | none => trivial
    | some x => exact h.env i x hx
  · split
    · rfl
    · trivial
  · trivial

theorem MI.put (h : MI w0 v bs e t env y a w) (d : Option Tmp) {x : MV} {u : Value} (hu : MVOk t.wid w v x u) : MI w0 v bs e t (mPut d x env) y (a.put d u) w := by
  cases d with
  | none => exact h
  | some d =>
    refine { h with len := by simp [Act.put, mPut, h.len], env := fun i z hz => ?_, defers := h.defers }
    simp only [mPut, List.getElem?_set] at hz
    by_cases hi : d = i
    · subst hi
      simp only [if_true] at hz
      split at hz
      · rename_i hlt
        obtain rfl := Option.some.inj hz
        have : (a.put (some d) u).tmps.getD d undef = u := by simp [Act.put, Array.getElem?_setIfInBounds, h.len, hlt]
        rw [this]; exact hu
      · simp at hz
    · rw [if_neg hi] at hz
      have : (a.put (some d) u).tmps.getD i undef = a.tmps.getD i undef := by simp [Act.put, Array.getElem?_setIfInBounds, hi]
      rw [this]; exact h.env i z hz

theorem MI.next (h : MI w0 v bs e t env y a w) {w' : World} {y' : List t.den} (ho : MarkOut w w' bs) (hw : OwnV (fun _ => False) w' true e t y' v bs) : MI w0 v bs e t (env.map MV.still) y' a w' :=
  ⟨h.defers, by rw [h.len]; simp, fun i x hx => by
    rw [List.getElem?_map] at hx
    obtain ⟨z, hz, rfl⟩ := Option.map_eq_some_iff.1 hx
    exact MV.still_ok z (h.env i z hz), h.out.trans ho, hw⟩

theorem findIn_some {f : FuncId} : {S : List InnerE} → {m : InnerE} → findIn f S = some m → m ∈ S ∧ m.f = f
  | [], m, h => by simp [findIn] at h
  | x :: M, m, h => by
    unfold findIn at h
    split at h
    · obtain rfl := Option.some.inj h; exact ⟨by simp, by assumption⟩
    · obtain ⟨h1, h2⟩ := findIn_some h; exact ⟨List.mem_cons_of_mem _ h1, h2⟩

theorem cellEq {b : Nat} {cur : Array Value} {e : TypeId} (hh : w.heap[b]? = some (.cells cur e (0, 0))) (o : Nat) : w.cell? ⟨b, o, none⟩ = cur[o]? := cell_of_row w b _ cur e (0, 0) hh

theorem mOp_some {o : Oper} {k : MV → List MV → List t.den → Option ρ} {r : ρ} (hS : ∀ m ∈ S, FnOk C.P m.f ∧ ∀ e, MarkOk C.P (m.mark e)) (hn : bs.Nodup) (h : MI w0 v bs e t env y a w) (hk : mOp C S t env y o.op k = some r)
    (next : Act → World → Prop) (Q : Exit → Act → World → Prop) (hnx : ∀ x env' y' u w', k x env' y' = some r → MI w0 v bs e t env' y' a w' → MVOk t.wid w' v x u → env'.length = env.length → next (a.put o.dst u) w') : o.wp C.P a w next Q := by
  obtain ⟨dst, op, type, pos, after, guard⟩ := o
  simp only at hk hnx
  have val : ∀ {x : MV} {u : Value}, k x env y = some r → (execOp a.eval ⟨dst, op, type, pos, after, guard⟩).run C.P w = .ok (.value u) w → MVOk t.wid w v x u → Oper.wp C.P ⟨dst, op, type, pos, after, guard⟩ a w next Q := fun h1 h2 h3 => by
    unfold Oper.wp
    rw [h2]
    exact hnx _ _ _ _ _ h1 h h3 rfl
  unfold mOp at hk
  split at hk
  · exact val hk (by simp [execOp]) (h.get _)
  · exact val hk (by simp [execOp]) (h.get _)
  · rename_i op ty x z q
    have hx := h.get x
    have hz := h.get z
    split at hk
    · rename_i p q' h1 h2
      rw [h1] at hx
      rw [h2] at hz
      have hx : a.eval x = .int .i64 p := hx
      have hz : a.eval z = .int .i64 q' := hz
      split at hk
      · exact val hk (by simp [execOp, hx, hz, eqGuard, binOp, Op.intArith]) rfl
      · exact val hk (by simp [execOp, hx, hz, eqGuard, binOp, Op.intCmp]) rfl
      · simp at hk
    · simp at hk
  · rename_i c
    obtain ⟨callee, args, argTypes⟩ := c
    simp only at hk
    split at hk
    · split at hk
      · rename_i x ty hal htl
        have hx := h.get x
        split at hk
        · rename_i h1
          rw [h1] at hx
          have hx : a.eval x = v := hx
          cases he : elT C ty with
          | none => simp [he] at hk
          | some e' =>
            simp only [he, Option.bind_some] at hk
            have hv : ∃ p c, v = .slice p y.length c := by
              obtain ⟨_, cells, bss, how, _⟩ := h.own
              rcases how.2 with ⟨h1, h2⟩ | ⟨g, c, cur, h1, _⟩
              · exact ⟨none, 0, by rw [h1, h2]⟩
              · exact ⟨_, c, h1⟩
            obtain ⟨p, c, hv⟩ := hv
            obtain ⟨tl⟩ := argTypes
            simp only at htl
            subst htl
            have hargs : args.map a.eval = #[v] := by rw [mapL, hal]; simp [hx]
            refine val hk ?_ rfl
            simp [execOp, resolve, invoke, builtin, hargs, Builtin.len_, run_underlying (elT_some he), hv]
            rfl
        · simp at hk
      · simp at hk
    · rename_i f
      split at hk
      · rename_i x n m hal hf
        obtain ⟨hmem, rfl⟩ := findIn_some hf
        obtain ⟨hok, hmk⟩ := hS m hmem
        have hx := h.get x
        have hnv := h.get n
        split at hk
        · rename_i i j nv h1 h2
          rw [h1] at hx
          rw [h2] at hnv
          have hnv : a.eval n = .int .i64 nv := hnv
          obtain ⟨q, hq, hk⟩ := Option.bind_eq_some_iff.1 hk
          obtain ⟨⟨q', n'⟩, hu, hk⟩ := Option.bind_eq_some_iff.1 hk
          obtain ⟨b, c, cur, ys, bi, e1, e2, e3, e4, e5, e6, e7, _, e8, _⟩ := h.own.elem hn hq
          obtain ⟨u, e', z, z', bj, u0, u1, u2, u3, u4, u5, u6⟩ := updAt_some t e5 e6 hu
          obtain ⟨b', n2, c', hv', hc⟩ := hx
          rw [e1] at hv'
          simp only [Value.slice.injEq, Option.some.injEq, Addr.mk.injEq, and_true] at hv'
          obtain ⟨rfl, _, _⟩ := hv'
          rw [cellEq e2, e3 j u0, u1] at hc
          have hc : u = a.eval x := Option.some.inj hc
          have hcall := hmk e' z nv z' n' u2 w (a.eval x) u bj u3 u4 hc.symm
          have hargs : args.map a.eval = #[a.eval x, .int .i64 nv] := by rw [mapL, hal]; simp [hnv]
          unfold Oper.wp
          have e2 : a.eval (.func m.f) = .func (.func m.f) #[] #[] := rfl
          rw [show (execOp a.eval ⟨dst, .call ⟨.value (.func m.f), args, argTypes⟩, type, pos, after, guard⟩).run C.P w = .ok (.enter m.f #[a.eval x, .int .i64 nv]) w from by
            simp [execOp, resolve, e2, Deferred.ofValue, invoke, run_callFunc hok, hargs]]
          show Calls C.P m.f _ w _
          refine Calls.mono hcall fun ex w' hpost => ?_
          obtain ⟨rfl, mo, ho⟩ := hpost
          have hd := u6 w' mo ho
          have mo2 : MarkOut w w' bi := mo.mono u5
          exact hnx _ _ _ _ _ hk (h.next (mo2.mono e7) (e8 w' q' mo2 hd)) rfl (by simp)
        · simp at hk
      · simp at hk
    · simp at hk
  · rename_i ty x i
    have hx := h.get x
    have hi := h.get i
    split at hk
    · rename_i e' iv he h1 h2
      rw [h1] at hx
      rw [h2] at hi
      have hx : a.eval x = v := hx
      have hi : a.eval i = .int .i64 iv := hi
      split at hk
      · rename_i hsz
        unfold inIdx at hk
        split at hk
        · rename_i hin
          simp only [Option.bind_some] at hk
          have hv : ∃ b c, v = .slice (some ⟨b, 0, none⟩) y.length c := by
            obtain ⟨_, cells, bss, how, _⟩ := h.own
            rcases how.2 with ⟨h1, h2⟩ | ⟨g, c, cur, h1, _⟩
            · omega
            · exact ⟨g, c, h1⟩
          obtain ⟨b, c, hv⟩ := hv
          refine val hk (u := .pointer (some ⟨b, iv.toNat * t.wid + 0, none⟩)) ?_ ⟨b, _, c, hv, rfl⟩
          simp [execOp, hx, hi, hv, Instr.indexAt, run_underlying (elT_some he), asIntOf, hin.1, hin.2, run_sizeOf hsz, add_none]
        · simp at hk
      · simp at hk
    · simp at hk
  · rename_i s x f
    have hx := h.get x
    split at hk
    · rename_i i j fs h1 hfs
      rw [h1] at hx
      split at hk
      · rename_i fd hfd
        split at hk
        · rename_i n hsz
          obtain ⟨b, n2, c, hv, hp⟩ := hx
          refine val hk (u := .pointer (some ⟨b, i * t.wid + (j + fd.offset), none⟩)) ?_ ⟨b, n2, c, hv, rfl⟩
          simp [execOp, hp, Instr.fieldAt, run_underlying hfs, hfd, Instr.sureAddr, fieldPlace, run_sizeOf hsz w, add_none, Nat.add_assoc]
        · simp at hk
      · simp at hk
    · simp at hk
  · rename_i ty p
    have hx := h.get p
    split at hk
    · rename_i i j h1
      rw [h1] at hx
      split at hk
      · rename_i hag
        split at hk
        · rename_i hij
          obtain ⟨q, hq⟩ : ∃ q, y[i]? = some q := ⟨_, List.getElem?_eq_getElem hij.1⟩
          obtain ⟨b, c, cur, ys, bi, e1, e2, e3, e4, _⟩ := h.own.elem hn hq
          obtain ⟨b', n2, c', hv', hp⟩ := hx
          rw [e1] at hv'
          simp only [Value.slice.injEq, Option.some.injEq, Addr.mk.injEq, and_true] at hv'
          obtain ⟨rfl, _, _⟩ := hv'
          have hcell : w.cell? ⟨b, i * t.wid + j, none⟩ = some (ys[j]'(by omega)) := by
            rw [cellEq e2, e3 j hij.2]; exact List.getElem?_eq_getElem (by omega)
          refine val hk (u := ys[j]'(by omega)) ?_ ⟨b, _, c, e1, hcell⟩
          simp [execOp, hp, Instr.loadAt, Instr.sureAddr, loadVar, isAggT_run hag w, load, Sem.run, hcell]
        · simp at hk
      · simp at hk
    · simp at hk
  · rename_i ty p x
    have hp := h.get p
    have hx := h.get x
    split at hk
    · rename_i i j n h1 h2
      rw [h1] at hp
      rw [h2] at hx
      have hx : a.eval x = .int .i64 n := hx
      split at hk
      · rename_i hsz
        obtain ⟨q, hq, hk⟩ := Option.bind_eq_some_iff.1 hk
        obtain ⟨q', hs, hk⟩ := Option.bind_eq_some_iff.1 hk
        obtain ⟨b, c, cur, ys, bi, e1, e2, e3, e4, e5, e6, e7, e8, _, e9⟩ := h.own.elem hn hq
        obtain ⟨s1, s2⟩ := setInt_some t e5 hs
        obtain ⟨b', n2, c', hv', hpp⟩ := hp
        rw [e1] at hv'
        simp only [Value.slice.injEq, Option.some.injEq, Addr.mk.injEq, and_true] at hv'
        obtain ⟨rfl, _, _⟩ := hv'
        have hlt : i * t.wid + j < cur.size := by
          have : ys[j]? = some (ys[j]'(by omega)) := List.getElem?_eq_getElem (by omega)
          have h3 := e3 j s1
          rw [this] at h3
          exact (Array.getElem?_eq_some_iff.1 h3).1
        have hrun := run_storeVar (C := C) (w := w) (t := ty) (o := i * t.wid + j) (v := .int .i64 n) e2 (by simpa [Value.cells] using hsz) (by simp [Value.cells]; omega) (by simp [Value.cells, Value.oneCell'])
        have hset : (cur.toList.take (i * t.wid + j) ++ (Value.int IntKind.i64 n).cells.toList ++ cur.toList.drop (i * t.wid + j + (Value.int IntKind.i64 n).cells.size)) = cur.toList.set (i * t.wid + j) (.int .i64 n) := by
          rw [List.set_eq_take_append_cons_drop, if_pos (by simpa using hlt)]
          simp [Value.cells]
        rw [hset] at hrun
        unfold Oper.wp
        rw [show (execOp a.eval ⟨dst, .store ty p x, type, pos, after, guard⟩).run C.P w = .ok .skip (w.setRow b (cur.toList.set (i * t.wid + j) (.int .i64 n)).toArray) from by
          simp [execOp, hpp, hx, hrun]]
        refine hnx _ _ _ _ _ hk (h.next ⟨rfl, rfl, rfl, by simp, fun x hx hxb => setRow_other w b x _ fun hxe => hxb (hxe ▸ e8)⟩ (e9 q' j _ s1 s2)) trivial (by simp)
      · simp at hk
    · simp at hk
  · simp at hk

theorem opsM_some {r : ρ} {ops : Array Oper} (hS : ∀ m ∈ S, FnOk C.P m.f ∧ ∀ e, MarkOk C.P (m.mark e)) (hn : bs.Nodup) : (os : List Oper) → (i : Nat) → {env : List MV} → {y : List t.den} → {a : Act} → {w : World} → {k : List MV → List t.den → Option ρ} →
    (∀ j o, os[j]? = some o → ops[i + j]? = some o) → MI w0 v bs e t env y a w → opsM C S t os env y k = some r → (Q : Exit → Act → World → Prop) →
    (∀ env' y' a' w', k env' y' = some r → MI w0 v bs e t env' y' a' w' → env'.length = env.length → Q .normal a' w') → wpOps C.P ops Q (List.range' i os.length) a w
  | [], i, env, y, a, w, k, ho, h, hk, Q, hQ => by
    simp only [opsM] at hk
    simp only [List.length_nil, List.range'_zero, wpOps]
    exact hQ env y a w hk h rfl
  | o :: os, i, env, y, a, w, k, ho, h, hk, Q, hQ => by
    simp only [opsM] at hk
    split at hk
    · rename_i hg
      simp only [List.length_cons, List.range'_succ, wpOps]
      have hoi : ops[i]? = some o := by have := ho 0 o rfl; simpa using this
      rw [hoi]
      simp only
      have hw : Region.wanted o (yielded ops a.tmps) = true := by simp [Region.wanted, hg]
      rw [if_pos hw]
      refine .inl (mOp_some hS hn h hk _ Q fun x env' y' u w' h1 h2 h3 h4 => ?_)
      exact opsM_some hS hn os (i + 1) (fun j o' hj => by have := ho (j + 1) o' (by simpa using hj); rwa [show i + (j + 1) = i + 1 + j from by omega] at this) (h2.put o.dst h3) h1 Q
        fun env2 y2 a2 w2 k1 k2 k3 => hQ env2 y2 a2 w2 k1 k2 (by
          rw [k3, ← h4]
          unfold mPut
          split <;> simp)
    · simp at hk

theorem codeM_some {L : MarkL} (hS : ∀ m ∈ S, FnOk C.P m.f ∧ ∀ e, MarkOk C.P (m.mark e)) (hn : bs.Nodup) (c : Code) : ∀ {ρ : Type} {env : List MV} {y : List t.den} {a : Act} {w : World} {k : AEx → List MV → List t.den → Option ρ} {r : ρ}, MI w0 v bs e t env y a w → codeM C S t L c ρ env y k = some r → ∀ (Q : Exit → Act → World → Prop),
    (∀ e' env' y' a' w', k e' env' y' = some r → MI w0 v bs e t env' y' a' w' → env'.length = env.length → Q e'.ex a' w') → c.wp C.P Q a w := by
  induction c with
  | skip =>
    intro ρ env y a w k r h hk Q hQ
    simp only [codeM] at hk
    exact wp_skip (hQ .normal env y a w hk h rfl)
  | region id ops draw =>
    intro ρ env y a w k r h hk Q hQ
    cases draw with
    | true => simp [codeM] at hk
    | false =>
      simp only [codeM] at hk
      refine wp_region ?_
      have := opsM_some (ops := ops) hS hn ops.toList 0 (fun j o hj => by rw [Nat.zero_add, ← Array.getElem?_toList]; exact hj) h hk Q fun env' y' a' w' h1 h2 h3 => hQ .normal env' y' a' w' h1 h2 h3
      rw [List.range_eq_range']; simpa using this
  | seq x y ihx ihy =>
    intro ρ env z a w k r h hk Q hQ
    simp only [codeM] at hk
    refine wp_seq (ihx h hk _ fun e' env' y' a' w' h1 h2 h3 => ?_)
    cases e' with
    | normal => exact ihy h2 h1 Q fun e2 env2 y2 a2 w2 k1 k2 k3 => hQ e2 env2 y2 a2 w2 k1 k2 (k3.trans h3)
    | exit id => exact hQ _ env' y' a' w' h1 h2 h3
    | ret => exact hQ _ env' y' a' w' h1 h2 h3
  | cond c x y ihx ihy =>
    intro ρ env z a w k r h hk Q hQ
    simp only [codeM] at hk
    split at hk
    · rename_i cb hc
      have hv := h.get c
      rw [hc] at hv
      have hv : a.eval c = .bool cb := hv
      cases cb with
      | true => exact wp_cond_true hv (ihx h hk Q hQ)
      | false => exact wp_cond_false hv (ihy h hk Q hQ)
    · simp at hk
  | block id c ih =>
    intro ρ env z a w k r h hk Q hQ
    simp only [codeM] at hk
    refine wp_block (ih h hk _ fun e' env' y' a' w' h1 h2 h3 => ?_)
    cases e' with
    | normal => exact hQ .normal env' y' a' w' h1 h2 h3
    | ret => exact hQ .ret env' y' a' w' h1 h2 h3
    | exit id' =>
      simp only at h1
      by_cases hid : id' = id
      · simp only [hid, if_true] at h1
        simp only [AEx.ex, Exit.inBlock, hid, if_true]
        exact hQ .normal env' y' a' w' h1 h2 h3
      · simp only [hid, if_false] at h1
        simp only [AEx.ex, Exit.inBlock, hid, if_false]
        exact hQ (.exit id') env' y' a' w' h1 h2 h3
  | exit id =>
    intro ρ env y a w k r h hk Q hQ
    simp only [codeM] at hk
    exact wp_exit (hQ (.exit id) env y a w hk h rfl)
  | ret =>
    intro ρ env y a w k r h hk Q hQ
    simp only [codeM] at hk
    exact wp_ret (hQ .ret env y a w hk h rfl)
  | loop c ih =>
    intro ρ env y a w k r h hk Q hQ
    simp only [codeM] at hk
    split at hk
    · rename_i cur i0 hx hc hi
      obtain ⟨res, hit, hk⟩ := Option.bind_eq_some_iff.1 hk
      have lay : ∀ {env1 : List MV} {y1 : List t.den} {a1 : Act} {w1 : World} {cur i : Int}, MI w0 v bs e t env1 y1 a1 w1 → env1.length = env.length → env1[L.x]? = some .sl → env1[L.c]? = some (.int cur) → env1[L.i]? = some (.int i) → MI w0 v bs e t (layM L env.length cur i) y1 a1 w1 := fun {env1 y1 a1 w1 cur i} h1 hl q1 q2 q3 => by
        refine { h1 with len := by rw [h1.len, hl]; simp [layM], env := fun j z hz => ?_, defers := h1.defers }
        unfold layM at hz
        rw [List.getElem?_set] at hz
        split at hz
        · rename_i hj
          subst hj
          split at hz
          · obtain rfl := Option.some.inj hz; exact h1.env _ _ q3
          · simp at hz
        · rw [List.getElem?_set] at hz
          split at hz
          · rename_i hj
            subst hj
            split at hz
            · obtain rfl := Option.some.inj hz; exact h1.env _ _ q2
            · simp at hz
          · rw [List.getElem?_set] at hz
            split at hz
            · rename_i hj
              subst hj
              split at hz
              · obtain rfl := Option.some.inj hz; exact h1.env _ _ q1
              · simp at hz
            · rw [List.getElem?_replicate] at hz
              split at hz
              · obtain rfl := Option.some.inj hz; trivial
              · simp at hz
      have layE : ∀ {env1 : List MV} {y1 : List t.den} {a1 : Act} {w1 : World} {cur : Int}, MI w0 v bs e t env1 y1 a1 w1 → env1.length = env.length → env1[L.x]? = some .sl → env1[L.c]? = some (.int cur) → MI w0 v bs e t (endM L env.length cur) y1 a1 w1 := fun {env1 y1 a1 w1 cur} h1 hl q1 q2 => by
        refine { h1 with len := by rw [h1.len, hl]; simp [endM], env := fun j z hz => ?_, defers := h1.defers }
        unfold endM at hz
        rw [List.getElem?_set] at hz
        split at hz
        · rename_i hj
          subst hj
          split at hz
          · obtain rfl := Option.some.inj hz; exact h1.env _ _ q2
          · simp at hz
        · rw [List.getElem?_set] at hz
          split at hz
          · rename_i hj
            subst hj
            split at hz
            · obtain rfl := Option.some.inj hz; exact h1.env _ _ q1
            · simp at hz
          · rw [List.getElem?_replicate] at hz
            split at hz
            · obtain rfl := Option.some.inj hz; trivial
            · simp at hz
      refine wp_mono (loop_iter (Inv := fun s aa ww => MI w0 v bs e t (layM L env.length s.1 s.2.1) s.2.2 aa ww) (Out := fun q e' aa ww => e' = .exit L.id ∧ MI w0 v bs e t (endM L env.length q.1) q.2 aa ww) (fun y a w hf => by simp at hf) (fun s a w res hi hs => ?_) hit (lay h rfl hx hc hi)) fun e' a' w' ho => ?_
      · refine ih hi hs _ fun e' env' y' a' w' h1 h2 h3 => ?_
        have h3 : env'.length = env.length := by rw [h3]; simp [layM]
        cases e' with
        | normal =>
          simp only at h1
          split at h1
          · rename_i q1 q2 q3
            obtain rfl := Option.some.inj h1
            exact ⟨rfl, lay h2 h3 q1 q2 q3⟩
          · simp at h1
        | exit id' =>
          simp only at h1
          split at h1
          · rename_i hid
            subst hid
            split at h1
            · rename_i q1 q2
              obtain rfl := Option.some.inj h1
              exact ⟨rfl, layE h2 h3 q1 q2⟩
            · simp at h1
          · simp at h1
        | ret => simp at h1
      · obtain ⟨rfl, ho⟩ := ho
        exact hQ (.exit L.id) _ _ a' w' hk ho (by simp [endM])
    · simp at hk
  | _ =>
    intro ρ env y a w k r h hk Q hQ
    simp [codeM] at hk

/-- A function whose code the evaluator runs writes as the plain function says. -/
theorem funM_ok {L : MarkL} (hS : ∀ m ∈ S, FnOk C.P m.f ∧ ∀ e, MarkOk C.P (m.mark e)) {m : InnerE} {fn : Func} {c : Code} (hf : C.P.funcs[m.f]? = some fn) (hname : (fn.name == "runtime.NumGoroutine") = false) (hbody : fn.body = some c)
    (hF : ∀ y n r, m.F y n = some r → funM C S m.t L fn y n = some r) : FnOk C.P m.f ∧ ∀ e, MarkOk C.P (m.mark e) := by
  refine ⟨⟨fn, c, hf, hname, hbody⟩, fun e y n y' n' hx w u v bs ho hnd hh => ?_⟩
  have hh : u = v := hh
  subst hh
  have hk := hF y n _ hx
  unfold funM at hk
  rw [hbody] at hk
  simp only at hk
  refine calls_of_wp hf hbody ?_
  have start : MI w u bs e m.t ([.sl, .int n] ++ List.replicate (fn.ntmps - 2) .unk) y { tmps := #[u, .int .i64 n] ++ Array.replicate (fn.ntmps - 2) undef, defers := [] } w :=
    ⟨rfl, by simp; omega, fun i x hx => by
      match i with
      | 0 =>
        simp at hx; subst hx
        simp only [MVOk]
        rw [Array.getD_eq_getD_getElem?, Array.getElem?_append_left (by simp)]; rfl
      | 1 =>
        simp at hx; subst hx
        simp only [MVOk]
        rw [Array.getD_eq_getD_getElem?, Array.getElem?_append_left (by simp)]; rfl
      | i + 2 =>
        have : ([MV.sl, .int n] ++ List.replicate (fn.ntmps - 2) .unk)[i + 2]? = (List.replicate (fn.ntmps - 2) MV.unk)[i]? := by simp
        rw [this, List.getElem?_replicate] at hx
        split at hx
        · obtain rfl := Option.some.inj hx; trivial
        · simp at hx, MarkOut.refl w bs, ho⟩
  refine codeM_some hS hnd c start hk _ fun ex env' y2 a' w' h1 h2 h3 => ?_
  have fin : (match fn.results.toList with
      | [.tmp r] => match env'[r]? with
        | some (.int n) => some (y2, n)
        | _ => none
      | _ => none) = some (y', n') → a'.defers = [] ∧ ∃ v, (results fn a'.tmps).run C.P w' = .ok v w' ∧ Ending.returned v = .returned (.int .i64 n') ∧ MarkOut w w' bs ∧ OwnV (fun _ => False) w' true e m.t y' u bs := fun hk => by
    refine ⟨h2.defers, ?_⟩
    split at hk
    · rename_i r hr
      split at hk
      · rename_i n2 hn2
        simp only [Option.some.injEq, Prod.mk.injEq] at hk
        obtain ⟨rfl, rfl⟩ := hk
        have hv := h2.env r _ hn2
        have hv : a'.tmps.getD r undef = .int .i64 n' := hv
        refine ⟨_, run_results (vs := [.int .i64 n']) (by rw [hr]; rfl) (fun i x v hi hu => ?_), rfl, h2.out, h2.own⟩
        rw [hr] at hi
        match i with
        | 0 =>
          simp at hi hu
          subst hi hu
          simp only [resM, hv]; rfl
        | i + 1 => simp at hi
      · simp at hk
    · simp at hk
  cases ex with
  | normal => exact fin h1
  | ret => exact fin h1
  | exit id => simp at h1

end

def AllS (P : Program) : List InnerE → Prop
  | [] => True
  | m :: r => (FnOk P m.f ∧ ∀ e, MarkOk P (m.mark e)) ∧ AllS P r

theorem allS {P : Program} : {S : List InnerE} → AllS P S → ∀ m ∈ S, FnOk P m.f ∧ ∀ e, MarkOk P (m.mark e)
  | [], _, m, hm => by simp at hm
  | x :: M, h, m, hm => by
    rcases List.mem_cons.1 hm with rfl | hm
    · exact h.1
    · exact allS h.2 m hm

theorem mkMark {C : Ctx} {S : List InnerE} {L : MarkL} {m : InnerE} {fn : Func} (h : AllS C.P S) (hf : C.P.funcs[m.f]? = some fn) (hok : okFn fn [] = true) (hF : ∀ y n, funM C S m.t L fn y n = m.F y n) : FnOk C.P m.f ∧ ∀ e, MarkOk C.P (m.mark e) := by
  unfold okFn at hok
  simp only [Bool.and_eq_true, Bool.not_eq_true', decide_eq_true_eq] at hok
  obtain ⟨⟨h1, h2⟩, h3⟩ := hok
  split at h2
  · rename_i c hc
    exact funM_ok (allS h) hf h1 hc fun y n r hx => (hF y n).trans hx
  · simp at h2

end Go.Proofs.Ytajlabmnpimeeaa.Eng
