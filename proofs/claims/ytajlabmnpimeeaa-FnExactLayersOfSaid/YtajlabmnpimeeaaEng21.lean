/-
  The engine, part 21. Operations. No condition.
-/
import Derived.Test.YtajlabmnpimeeaaEng20
namespace Go.Proofs.Ytajlabmnpimeeaa.Eng
open Go
set_option linter.unusedVariables false
set_option linter.unusedSimpArgs false

/-- A function that is entered. -/
def FnOk (P : Program) (f : FuncId) : Prop := ∃ fn c, P.funcs[f]? = some fn ∧ (fn.name == "runtime.NumGoroutine") = false ∧ fn.body = some c

structure Ctrs (C : Ctx) : Prop where
  mixed : C.P.follows .mixedOrders = true
  ok : ∀ e ∈ C.O, FnOk C.P e.f ∧ Ctr C.P e
  inl : ∀ e ∈ C.I, FnOk C.P e.f ∧ InOk C.P e

section
variable {ρ : Type} {C : Ctx} {E : En} {G : Gh} {σ : Sg} {a : Act} {w : World}

theorem run_callFunc {P : Program} {f : FuncId} (h : FnOk P f) (args : Array Value) (w : World) : (callFunc f args).run P w = .ok (.enter f args) w := by
  obtain ⟨fn, c, hf, hn, hb⟩ := h
  have h1 : fn.name ≠ "runtime.NumGoroutine" := by simpa using hn
  simp [callFunc, hf, h1, hb]

theorem mapL {α β : Type} (f : α → β) (xs : Array α) : xs.map f = (xs.toList.map f).toArray := by
  cases xs; simp

theorem OpOut.of {k : A → Sg → Option ρ} {r : ρ} {x y : Result Next} (h : OpOut C E G σ a w k r x) (e : y = x) : OpOut C E G σ a w k r y := e ▸ h

theorem VAs.map (h : RelG E G σ a w) : (l : List Operand) → VAs (Imm E G σ w) σ.hp.length G w (l.map (getA σ)) (l.map a.eval)
  | [] => trivial
  | x :: l => ⟨h.get x, VAs.map h l⟩

theorem opK_some {o : Oper} {k : A → Sg → Option ρ} {r : ρ} (hC : Ctrs C) (h : RelG E G σ a w) (hk : opK C σ o.op k = some r) : OpOut C E G σ a w k r ((execOp a.eval o).run C.P w) := by
  obtain ⟨dst, op, type, pos, after, guard⟩ := o
  simp only at hk
  have val : ∀ {s : Sem Value} {z : A} {u : Value}, k z σ = some r → s.run C.P w = .ok u w → VA (Imm E G σ w) σ.hp.length G w z u → OpOut C E G σ a w k r ((do let x ← s; pure (Next.value x) : Sem Next).run C.P w) := fun hk hr hv =>
    (OpOut.val h hk hv).of (by simp [hr])
  have val2 : ∀ {s : Sem Value} {u : Value} {w' : World}, s.run C.P w = .ok u w' → OpOut C E G σ a w k r (.ok (.value u) w') → OpOut C E G σ a w k r ((do let x ← s; pure (Next.value x) : Sem Next).run C.P w) := fun hr ho =>
    ho.of (by simp [hr])
  unfold opK at hk
  split at hk
  · exact (OpOut.val h hk (h.get _)).of (by simp [execOp])
  · exact (OpOut.val h hk (h.get _)).of (by simp [execOp])
  · rename_i c x y
    split at hk
    · rename_i nn cb hc
      have hv := h.get c
      rw [hc] at hv
      have hv := datBool hv
      cases cb with
      | true => exact (OpOut.val h hk (h.get x)).of (by simp [execOp, hv, asBool])
      | false => exact (OpOut.val h hk (h.get y)).of (by simp [execOp, hv, asBool])
    · simp at hk
  · obtain ⟨z, u, h1, h2, h3⟩ := unK_some (C := C) hk (h.get _)
    exact val h1 h2 h3
  · rename_i bo t x y q
    obtain ⟨z, u, h1, h2, h3, h4⟩ := binK_some h hk (h.get _) (h.get _)
    refine val h1 ?_ h4
    simp [h2, h3]
  · obtain ⟨z, u, h1, h2, h3⟩ := loadK_some h hk (h.get _)
    exact val h1 h2 h3
  · rename_i t x y
    obtain ⟨w', σ', h1, h2, h3, G', h4, hga⟩ := storeK_some h hk (h.get x) (h.get y)
    refine OpOut.of (x := .ok .skip w') ⟨_, σ', h2, h3, rfl, G', h4, hga⟩ ?_
    simp [execOp, h1]
  · obtain ⟨z, u, h1, h2, h3⟩ := fieldAddrK_some (C := C) hk (h.get _)
    exact val h1 h2 h3
  · obtain ⟨z, u, h1, h2, h3⟩ := indexAddrK_some h hk (h.get _) (h.get _)
    exact val h1 h2 h3
  · split at hk
    · rename_i zs hz
      obtain ⟨v, w', h1, h2⟩ := alloc_some (k := k) (r := r) h hz hk
      exact val2 h1 h2
    · simp at hk
  · simp only at hk
    split at hk
    · simp at hk
    · rename_i hne
      obtain ⟨v, w', h1, h2⟩ := box_some (k := k) (r := r) h (h.get _) (by intro h0; rw [h0] at hne; simp at hne) hk
      exact val2 h1 h2
  · obtain ⟨z, u, h1, h2, h3⟩ := build_some h hk
    exact val h1 h2 h3
  · obtain ⟨u, w', h1, h2⟩ := buildSliceK_some h hk
    exact val2 h1 h2
  · obtain ⟨u, w', h1, h2⟩ := makeSliceK_some h hk
    exact val2 h1 h2
  · obtain ⟨u, h1, h2⟩ := sliceK_some h hk (h.get _)
    exact val2 h1 h2
  · obtain ⟨z, u, h1, h2, h3⟩ := extractK_some (C := C) hk (h.get _)
    exact val h1 h2 h3
  · obtain ⟨z, u, h1, h2, h3⟩ := convertK_some h hk (h.get _)
    exact val h1 h2 h3
  · obtain ⟨z, u, h1, h2, h3⟩ := indexK_some (C := C) hk (h.get _) (h.get _)
    exact val h1 h2 h3
  · rename_i f first captured
    have hcap : ∀ (l : List Operand) (ids : List Nat), capIds (l.map (getA σ)) = some ids → l.map a.eval = ids.map (fun id => (G id).1) ∧ ∀ id ∈ ids, id < σ.hp.length ∧ ∃ b, (G id).1 = .pointer (some ⟨b, 0, none⟩) := by
      intro l
      induction l with
      | nil => intro ids hi; simp only [List.map_nil, capIds, Option.some.injEq] at hi; subst hi; simp
      | cons x l ih =>
        intro ids hi
        simp only [List.map_cons] at hi
        have hx := h.get x
        generalize getA σ x = y at hi hx
        unfold capIds at hi
        split at hi
        · rename_i he; simp at he
        · rename_i id r he
          obtain ⟨rfl, rfl⟩ := List.cons.inj he
          obtain ⟨ids', h1, rfl⟩ := Option.map_eq_some_iff.1 hi
          obtain ⟨h2, h3⟩ := ih ids' h1
          obtain ⟨hl, b, hb, hv⟩ := hx
          refine ⟨by simp only [List.map_cons, h2, hv, hb], fun id' hi' => ?_⟩
          rcases List.mem_cons.1 hi' with rfl | hi'
          · exact ⟨hl, b, hb⟩
          · exact h3 id' hi'
        · simp at hi
    have mk : ∀ l : List Operand, l = captured.toList → captured.map a.eval = (l.map a.eval).toArray := fun l hl => by subst hl; simp [mapL]
    split at hk
    · rename_i hf hc
      obtain ⟨h1, h2⟩ := hcap _ _ hc
      refine (OpOut.val (v := .l (.fn f)) (val := .func (.func f) #[] #[]) h hk rfl).of ?_
      have e1 : first = #[] := by simpa using hf
      have e2 := mk _ rfl
      rw [h1] at e2
      simp [execOp, Instr.makeFunc, e1, e2]
    · rename_i id ids hf hc
      obtain ⟨h1, h2⟩ := hcap _ _ hc
      refine (OpOut.val (v := .l (.clo f (id :: ids))) (val := .func (.func f) #[] ((id :: ids).map fun id => (G id).1).toArray) h hk ⟨rfl, h2⟩).of ?_
      have e1 : first = #[] := by simpa using hf
      have e2 := mk _ rfl
      rw [h1] at e2
      simp [execOp, Instr.makeFunc, e1, e2]
    · simp at hk
  · rename_i c
    obtain ⟨callee, args, argTypes⟩ := c
    simp only at hk
    split at hk
    · rename_i b
      have hex : ∀ {v : Sem Value}, (∀ cs, builtin b argTypes type cs (args.map a.eval) = (do let x ← v; pure (.value x))) →
          (execOp a.eval ⟨dst, .call ⟨.builtin b, args, argTypes⟩, type, pos, after, guard⟩).run C.P w = (do let x ← v; pure (Next.value x) : Sem Next).run C.P w := fun hb => by
        simp only [execOp, resolve, Sem.run_bind, Sem.run_pure, Result.andThen_ok, invoke, hb]
      unfold builtinK at hk
      have hlist : ∀ {xs : List Value}, args.toList.map a.eval = xs → args.map a.eval = xs.toArray := fun hx => by rw [mapL, hx]
      split at hk
      · rename_i x hargs
        split at hk
        · rename_i t hts
          obtain ⟨tl⟩ := argTypes
          simp only at hts
          subst hts
          cases hal : args.toList with
          | nil => rw [hal] at hargs; simp at hargs
          | cons p q =>
            cases q with
            | cons _ _ => rw [hal] at hargs; simp at hargs
            | nil =>
              rw [hal] at hargs
              simp only [List.map_cons, List.map_nil, List.cons.injEq, and_true] at hargs
              subst hargs
              obtain ⟨z, u, h1, h2, h3⟩ := lenK_some h hk (h.get p)
              have := hlist (xs := [a.eval p]) (by rw [hal]; rfl)
              refine OpOut.of (val h1 (h2 type) h3) (hex ?_)
              intro cs; simp only [builtin, this]
        · simp at hk
      · rename_i x y hargs
        cases hal : args.toList with
        | nil => rw [hal] at hargs; simp at hargs
        | cons p q =>
          cases q with
          | nil => rw [hal] at hargs; simp at hargs
          | cons p2 q =>
            cases q with
            | cons _ _ => rw [hal] at hargs; simp at hargs
            | nil =>
              rw [hal] at hargs
              simp only [List.map_cons, List.map_nil, List.cons.injEq, and_true] at hargs
              obtain ⟨rfl, rfl⟩ := hargs
              obtain ⟨u, w', h1, h2⟩ := appendK_some h hk (h.get p) (h.get p2)
              have := hlist (xs := [a.eval p, a.eval p2]) (by rw [hal]; rfl)
              refine OpOut.of (val2 (h1 type) h2) (hex ?_)
              intro cs; simp only [builtin, this]
      · rename_i x y hargs
        cases hal : args.toList with
        | nil => rw [hal] at hargs; simp at hargs
        | cons p q =>
          cases q with
          | nil => rw [hal] at hargs; simp at hargs
          | cons p2 q =>
            cases q with
            | cons _ _ => rw [hal] at hargs; simp at hargs
            | nil =>
              rw [hal] at hargs
              simp only [List.map_cons, List.map_nil, List.cons.injEq, and_true] at hargs
              obtain ⟨rfl, rfl⟩ := hargs
              obtain ⟨z, u, h1, h2, h3⟩ := max2K_some (C := C) hk (h.get p) (h.get p2)
              have := hlist (xs := [a.eval p, a.eval p2]) (by rw [hal]; rfl)
              refine OpOut.of (val h1 (h2 argTypes type) h3) (hex ?_)
              intro cs; simp only [builtin, this, if_true]
      · rename_i x y hargs
        cases hal : args.toList with
        | nil => rw [hal] at hargs; simp at hargs
        | cons p q =>
          cases q with
          | nil => rw [hal] at hargs; simp at hargs
          | cons p2 q =>
            cases q with
            | cons _ _ => rw [hal] at hargs; simp at hargs
            | nil =>
              rw [hal] at hargs
              simp only [List.map_cons, List.map_nil, List.cons.injEq, and_true] at hargs
              obtain ⟨rfl, rfl⟩ := hargs
              obtain ⟨z, u, h1, h2, h3⟩ := max2K_some (C := C) hk (h.get p) (h.get p2)
              have := hlist (xs := [a.eval p, a.eval p2]) (by rw [hal]; rfl)
              refine OpOut.of (val h1 (h2 argTypes type) h3) (hex ?_)
              intro cs; simp only [builtin, this, Bool.false_eq_true, if_false]
      · simp at hk
    · rename_i fo
      split at hk
      · rename_i f hf
        have hfv := h.get fo
        rw [hf] at hfv
        simp only [VA, VL] at hfv
        have hok : FnOk C.P f := by
          clear hfv hf
          unfold callK at hk
          split at hk
          · rename_i e hfe
            obtain ⟨hm, rfl⟩ := findE_some hfe
            exact (hC.ok e hm).1
          · split at hk
            · rename_i e hfe
              obtain ⟨hm, rfl⟩ := findI_some hfe
              exact (hC.inl e hm).1
            · simp at hk
        have := callK_some (fun e he => (hC.ok e he).2) (fun e he => (hC.inl e he).2) h hk (VAs.map h args.toList)
        refine OpOut.of this ?_
        simp [execOp, resolve, hfv, Deferred.ofValue, invoke, run_callFunc hok, mapL]
      · rename_i f ids hf
        have hfv := h.get fo
        rw [hf] at hfv
        obtain ⟨hfv, hids⟩ := hfv
        have hok : FnOk C.P f := by
          clear hfv hf
          unfold callK at hk
          split at hk
          · rename_i e hfe
            obtain ⟨hm, rfl⟩ := findE_some hfe
            exact (hC.ok e hm).1
          · split at hk
            · rename_i e hfe
              obtain ⟨hm, rfl⟩ := findI_some hfe
              exact (hC.inl e hm).1
            · simp at hk
        have happ : ∀ (xs : List A) (vs : List Value), VAs (Imm E G σ w) σ.hp.length G w xs vs → VAs (Imm E G σ w) σ.hp.length G w (xs ++ ids.map fun id => .l (.bptr id 0)) (vs ++ ids.map fun id => (G id).1) := by
          have hb : ∀ ids : List Nat, (∀ id ∈ ids, id < σ.hp.length ∧ ∃ b, (G id).1 = .pointer (some ⟨b, 0, none⟩)) → VAs (Imm E G σ w) σ.hp.length G w (ids.map fun id => .l (.bptr id 0)) (ids.map fun id => (G id).1) := by
            intro ids
            induction ids with
            | nil => intro _; trivial
            | cons id ids ih =>
              intro hi
              obtain ⟨h1, b, h2⟩ := hi id (by simp)
              exact ⟨⟨h1, b, h2, h2⟩, ih fun id' hi' => hi id' (List.mem_cons_of_mem _ hi')⟩
          intro xs
          induction xs with
          | nil => intro vs hv; cases vs with
            | nil => exact hb ids hids
            | cons _ _ => exact hv.elim
          | cons x xs ih => intro vs hv; cases vs with
            | nil => exact hv.elim
            | cons v vs => exact ⟨hv.1, ih vs hv.2⟩
        have := callK_some (fun e he => (hC.ok e he).2) (fun e he => (hC.inl e he).2) h hk (happ _ _ (VAs.map h args.toList))
        refine OpOut.of this ?_
        simp [execOp, resolve, hfv, Deferred.ofValue, invoke, run_callFunc hok, mapL]
      · simp at hk
    · simp at hk
  · simp at hk

end
end Go.Proofs.Ytajlabmnpimeeaa.Eng
