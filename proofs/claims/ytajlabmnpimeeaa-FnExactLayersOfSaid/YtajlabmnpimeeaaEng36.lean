/-
  The engine, part 36. Regions whose order is drawn, in one order that serves for all. No condition.
-/
import Derived.Test.YtajlabmnpimeeaaEng32
namespace Go.Proofs.Ytajlabmnpimeeaa.Eng
open Go
set_option linter.unusedVariables false
set_option linter.unusedSimpArgs false

section
variable {ρ : Type} {C : Ctx} {E : En} {G : Gh} {σ : Sg} {a : Act} {w : World} {ops : Array Oper}

theorem opK_quiet {o : Oper} {k : A → Sg → Option ρ} {r : ρ} (h : RelG E G σ a w) (hq : quietO o = true) (hk : opK C σ o.op k = some r) : ∃ u, (execOp a.eval o).run C.P w = .ok (.value u) w := by
  obtain ⟨dst, op, type, pos, after, guard⟩ := o
  simp only at hk
  have val : ∀ {s : Sem Value} {u : Value}, s.run C.P w = .ok u w → ∃ u, (do let x ← s; pure (Next.value x) : Sem Next).run C.P w = .ok (.value u) w := fun {s u} hr => ⟨u, by simp [hr]⟩
  unfold opK at hk
  split at hk
  · exact ⟨_, by simp [execOp]; rfl⟩
  · exact ⟨_, by simp [execOp]; rfl⟩
  · rename_i c x y
    split at hk
    · rename_i nn cb hc
      have hv := h.get c
      rw [hc] at hv
      have hv := datBool hv
      cases cb with
      | true => exact ⟨_, by simp [execOp, hv, asBool]; rfl⟩
      | false => exact ⟨_, by simp [execOp, hv, asBool]; rfl⟩
    · simp at hk
  · obtain ⟨z, u, h1, h2, h3⟩ := unK_some (C := C) hk (h.get _)
    exact val h2
  · obtain ⟨z, u, h1, h2, h3, h4⟩ := binK_some h hk (h.get _) (h.get _)
    exact val (u := u) (by simp [h2, h3])
  · obtain ⟨z, u, h1, h2, h3⟩ := loadK_some h hk (h.get _)
    exact val h2
  · simp [quietO] at hq
  · obtain ⟨z, u, h1, h2, h3⟩ := fieldAddrK_some (C := C) hk (h.get _)
    exact val h2
  · obtain ⟨z, u, h1, h2, h3⟩ := indexAddrK_some h hk (h.get _) (h.get _)
    exact val h2
  · simp [quietO] at hq
  · simp [quietO] at hq
  · simp [quietO] at hq
  · simp [quietO] at hq
  · simp [quietO] at hq
  · obtain ⟨u, h1, h2⟩ := sliceK_some h hk (h.get _)
    exact val h1
  · obtain ⟨z, u, h1, h2, h3⟩ := extractK_some (C := C) hk (h.get _)
    exact val h2
  · simp [quietO] at hq
  · obtain ⟨z, u, h1, h2, h3⟩ := indexK_some (C := C) hk (h.get _) (h.get _)
    exact val h2
  · simp [quietO] at hq
  · rename_i c
    obtain ⟨callee, args, argTypes⟩ := c
    simp only at hk
    split at hk
    · rename_i b
      have hex : ∀ {v : Sem Value} {u : Value}, (∀ cs, builtin b argTypes type cs (args.map a.eval) = (do let x ← v; pure (.value x))) → v.run C.P w = .ok u w →
          ∃ u, (execOp a.eval ⟨dst, .call ⟨.builtin b, args, argTypes⟩, type, pos, after, guard⟩).run C.P w = .ok (.value u) w := fun {v u} hb hr => by
        refine ⟨u, ?_⟩
        simp only [execOp, resolve, Sem.run_bind, Sem.run_pure, Result.andThen_ok, invoke, hb, hr]
      unfold builtinK at hk
      have hlist : ∀ {xs : List Value}, args.toList.map a.eval = xs → args.map a.eval = xs.toArray := fun hx => by rw [mapL, hx]
      have two : ∀ {x y : A}, args.toList.map (getA σ) = [x, y] → ∃ p q, x = getA σ p ∧ y = getA σ q ∧ args.map a.eval = #[a.eval p, a.eval q] := by
        intro x y hargs
        cases hal : args.toList with
        | nil => rw [hal] at hargs; simp at hargs
        | cons p q =>
          cases q with
          | nil => rw [hal] at hargs; simp at hargs
          | cons p2 q =>
            cases q with
            | cons _ _ => rw [hal] at hargs; simp at hargs
            | nil =>
              rw [hal] at hargs
              simp only [List.map_cons, List.map_nil, List.cons.injEq, and_true] at hargs
              obtain ⟨rfl, rfl⟩ := hargs
              exact ⟨p, p2, rfl, rfl, hlist (by rw [hal]; rfl)⟩
      split at hk
      · rename_i x hargs
        split at hk
        · rename_i t hts
          obtain ⟨tl⟩ := argTypes
          simp only at hts
          subst hts
          cases hal : args.toList with
          | nil => rw [hal] at hargs; simp at hargs
          | cons p q =>
            cases q with
            | cons _ _ => rw [hal] at hargs; simp at hargs
            | nil =>
              rw [hal] at hargs
              simp only [List.map_cons, List.map_nil, List.cons.injEq, and_true] at hargs
              subst hargs
              obtain ⟨z, u, h1, h2, h3⟩ := lenK_some h hk (h.get p)
              have := hlist (xs := [a.eval p]) (by rw [hal]; rfl)
              exact hex (v := Builtin.len_ #[t] type #[a.eval p]) (fun cs => by simp only [builtin, this]) (h2 type)
        · simp at hk
      · simp [quietO] at hq
      · rename_i x y hargs
        obtain ⟨p, q, rfl, rfl, hm⟩ := two hargs
        obtain ⟨z, u, h1, h2, h3⟩ := max2K_some (C := C) hk (h.get p) (h.get q)
        have h2' := h2 argTypes type
        simp only [if_true] at h2'
        exact hex (v := Builtin.max_ argTypes type #[a.eval p, a.eval q]) (fun cs => by simp only [builtin, hm]) h2'
      · rename_i x y hargs
        obtain ⟨p, q, rfl, rfl, hm⟩ := two hargs
        obtain ⟨z, u, h1, h2, h3⟩ := max2K_some (C := C) hk (h.get p) (h.get q)
        have h2' := h2 argTypes type
        simp only [Bool.false_eq_true, if_false] at h2'
        exact hex (v := Builtin.min_ argTypes type #[a.eval p, a.eval q]) (fun cs => by simp only [builtin, hm]) h2'
      · simp at hk
    · simp [quietO] at hq
    · simp at hk
  · simp at hk

theorem sliceK_pure {t : TypeId} {x : A} {lo hi : Option Operand} {k : A → Sg → Option ρ} {r : ρ} {v : Value} {vw : Bool} (h : RelG E G σ a w) (hk : sliceK C σ t x lo hi vw k = some r)
    (hv : VA (Imm E G σ w) σ.hp.length G w x v) : ∃ u, ∀ w2, (Instr.sliceAt t v (lo.map a.eval) (hi.map a.eval) none).run C.P w2 = .ok u w2 := by
  unfold sliceK at hk
  split at hk
  · rename_i nn s_
    split at hk
    · rename_i ht
      obtain ⟨rfl, hsl⟩ := datStr hv
      obtain ⟨l, hk, hlo⟩ := intOptK_some h hk
      obtain ⟨m, hk, hhi⟩ := intOptK_some h hk
      obtain ⟨h0, h1, h2, hk⟩ := subs_some hk
      exact ⟨.string (s_.extract l.toNat m.toNat), fun w2 => by simp [Instr.sliceAt, Instr.slice, run_underlying ht, run_bounds hlo hhi h0 h1 h2 (Nat.le_refl _)]⟩
    · simp at hk
  · split at hk
    · rename_i e he
      split at hk
      · rename_i hs
        obtain ⟨l, hk, hlo⟩ := intOptK_some h hk
        obtain ⟨m, hk, hhi⟩ := intOptK_some h hk
        obtain ⟨h0, h1, h2, hk⟩ := subl_some hk
        obtain ⟨p, c, rfl, h3, _⟩ := RdV_list hv.1
        exact ⟨_, fun w2 => run_sliceAt he hs hlo hhi h0 h1 h2 h3⟩
      · simp at hk
    · simp at hk
  · rename_i id
    obtain ⟨hid, rfl, _⟩ := hv
    split at hk
    · rename_i e ro dp e' ty xs he ho
      obtain ⟨p, c, hG, hc3, _⟩ := RdV_list (h.ownRd ho)
      split at hk
      · rename_i hs
        split at hk
        · split at hk
          · simp at hk
          · obtain ⟨m, hk, hhi⟩ := intOptK_some h hk
            obtain ⟨h0, h1, h2, hk⟩ := subl_some hk
            rw [hG]
            exact ⟨_, fun w2 => run_sliceAt (l := 0) he hs (.inl ⟨rfl, rfl⟩) hhi h0 h1 h2 hc3⟩
        · obtain ⟨l, hk, hlo⟩ := intOptK_some h hk
          obtain ⟨m, hk, hhi⟩ := intOptK_some h hk
          obtain ⟨h0, h1, h2, hk⟩ := subl_some hk
          rw [hG]
          exact ⟨_, fun w2 => run_sliceAt he hs hlo hhi h0 h1 h2 hc3⟩
      · simp at hk
    · simp at hk
  · simp at hk

theorem max2K_pure {op : Bool} {x y : A} {k : A → Option ρ} {r : ρ} {v u : Value} {I : Nat → Prop} {N : Nat} (hk : max2K op x y k = some r) (hv : VA I N G w x v) (hu : VA I N G w y u) :
    ∃ s, ∀ w2 ts ty, ((if op then Builtin.max_ else Builtin.min_) ts ty #[v, u]).run C.P w2 = .ok s w2 := by
  unfold max2K at hk
  split at hk
  · rename_i n1 kd p n2 kd2 q
    have h1 := datInt hv; have h2 := datInt hu; subst h1; subst h2
    have hv2 : ∀ w2, VA I N G w2 (.l (.dat n1 (.int kd) p)) (.int kd p) := fun w2 => ⟨RdV_int.2 rfl, fun _ => trivial⟩
    have hu2 : ∀ w2, VA I N G w2 (.l (.dat n2 (.int kd2) q)) (.int kd2 q) := fun w2 => ⟨RdV_int.2 rfl, fun _ => trivial⟩
    refine ⟨.int kd (if op then (if q > p then q else p) else (if q < p then q else p)), fun w2 ts ty => ?_⟩
    obtain ⟨z, s, hz, hs, hva⟩ := max2K_some (C := C) (w := w2) (op := op) (x := .l (.dat n1 (.int kd) p)) (y := .l (.dat n2 (.int kd2) q)) (k := fun z => some z) (r := .l (.dat true (.int kd) (if op then (if q > p then q else p) else (if q < p then q else p)))) rfl (hv2 w2) (hu2 w2)
    obtain rfl := Option.some.inj hz
    have := datInt hva
    subst this
    exact hs ts ty
  · simp at hk

theorem opK_pure {o : Oper} {k : A → Sg → Option ρ} {r : ρ} (h : RelG E G σ a w) (hq : pureO o = true) (hk : opK C σ o.op k = some r) : ∃ u, ∀ w2, (execOp a.eval o).run C.P w2 = .ok (.value u) w2 := by
  obtain ⟨dst, op, type, pos, after, guard⟩ := o
  unfold pureO at hq
  simp only at hq hk
  split at hq
  · exact ⟨_, fun w2 => by simp [execOp]; rfl⟩
  · exact ⟨_, fun w2 => by simp [execOp]; rfl⟩
  · simp only [opK] at hk
    obtain ⟨u, hu⟩ := sliceK_pure h hk (h.get _)
    exact ⟨u, fun w2 => by
      have := hu w2
      simp only [execOp]
      simp only [Option.map_none, Sem.run_bind, this, Result.andThen_ok, Sem.run_pure]⟩
  · rename_i c
    obtain ⟨callee, args, argTypes⟩ := c
    simp only at hq
    have two : ∀ {x y : A}, args.toList.map (getA σ) = [x, y] → ∃ p q, x = getA σ p ∧ y = getA σ q ∧ args.map a.eval = #[a.eval p, a.eval q] := by
      intro x y hargs
      have hlist : ∀ {xs : List Value}, args.toList.map a.eval = xs → args.map a.eval = xs.toArray := fun hx => by rw [mapL, hx]
      cases hal : args.toList with
      | nil => rw [hal] at hargs; simp at hargs
      | cons p q =>
        cases q with
        | nil => rw [hal] at hargs; simp at hargs
        | cons p2 q =>
          cases q with
          | cons _ _ => rw [hal] at hargs; simp at hargs
          | nil =>
            rw [hal] at hargs
            simp only [List.map_cons, List.map_nil, List.cons.injEq, and_true] at hargs
            obtain ⟨rfl, rfl⟩ := hargs
            exact ⟨p, p2, rfl, rfl, hlist (by rw [hal]; rfl)⟩
    split at hq
    · simp only [opK, builtinK] at hk
      generalize hargs : args.toList.map (getA σ) = xs at hk
      match xs, hargs, hk with
      | [], _, hk => simp at hk
      | [_], _, hk => simp at hk
      | _ :: _ :: _ :: _, _, hk => simp at hk
      | [x, y], hargs, hk =>
        simp only at hk
        obtain ⟨p, q, rfl, rfl, hm⟩ := two hargs
        obtain ⟨s, hs⟩ := max2K_pure (C := C) hk (h.get p) (h.get q)
        refine ⟨s, fun w2 => ?_⟩
        have h2' := hs w2 argTypes type
        simp only [if_true] at h2'
        simp only [execOp, resolve, Sem.run_bind, Sem.run_pure, Result.andThen_ok, invoke, builtin, hm, h2']
    · simp only [opK, builtinK] at hk
      generalize hargs : args.toList.map (getA σ) = xs at hk
      match xs, hargs, hk with
      | [], _, hk => simp at hk
      | [_], _, hk => simp at hk
      | _ :: _ :: _ :: _, _, hk => simp at hk
      | [x, y], hargs, hk =>
        simp only at hk
        obtain ⟨p, q, rfl, rfl, hm⟩ := two hargs
        obtain ⟨s, hs⟩ := max2K_pure (C := C) hk (h.get p) (h.get q)
        refine ⟨s, fun w2 => ?_⟩
        have h2' := hs w2 argTypes type
        simp only [Bool.false_eq_true, if_false] at h2'
        simp only [execOp, resolve, Sem.run_bind, Sem.run_pure, Result.andThen_ok, invoke, builtin, hm, h2']
    · cases hq
  · cases hq

theorem operK_pure {k : Sg → Option ρ} {r : ρ} {o : Oper} (h : RelG E G σ a w) (hq : pureO o = true) (hk : operK C ops σ o k = some r) (hw : Region.wanted o (yielded ops a.tmps) = true) :
    ∃ u, ∀ w2, (execOp a.eval o).run C.P w2 = .ok (.value u) w2 := by
  unfold operK at hk
  split at hk
  · exact opK_pure h hq hk
  · rename_i j want hgd
    split at hk
    · rename_i d hdj
      split at hk
      · rename_i nn b hget
        have hv := h.get (.tmp d)
        rw [hget] at hv
        have hb := datBool hv
        simp only [Act.eval] at hb
        have hy : yielded ops a.tmps j = some b := by
          unfold yielded
          rw [hdj]
          simp only [Option.bind_some]
          cases ht : a.tmps[d]? with
          | none => rw [Array.getD_eq_getD_getElem?, ht] at hb; simp [undef] at hb
          | some u =>
            rw [Array.getD_eq_getD_getElem?, ht] at hb
            simp only [Option.getD_some] at hb
            subst hb; rfl
        have hbw : b = want := by
          simp only [Region.wanted, hgd, hy] at hw
          cases b <;> cases want <;> first | rfl | (exact absurd hw (by decide))
        subst hbw
        have ref : RelG E G { σ with env := σ.env.set d (boolA b) } a w := h.refine d (by
          show VA _ _ _ _ (boolA b) _
          rw [hb]; exact boolVA)
        have go : ∀ k' : Sg → Option ρ, putK σ (some d) (boolA b) k' = k' { σ with env := σ.env.set d (boolA b) } := fun k' => by simp only [putK, setK_eq]
        cases b with
        | true =>
          simp only [cond_true] at hk
          rw [go] at hk
          exact opK_pure ref hq hk
        | false =>
          simp only [cond_false] at hk
          rw [go] at hk
          exact opK_pure ref hq hk
      · rename_i hget
        exfalso
        have hv := h.get (.tmp d)
        rw [hget] at hv
        have hv : a.tmps.getD d undef = undef := hv
        have hy : yielded ops a.tmps j = none := by
          unfold yielded
          rw [hdj]
          simp only [Option.bind_some]
          cases ht : a.tmps[d]? with
          | none => rfl
          | some u =>
            rw [Array.getD_eq_getD_getElem?, ht] at hv
            simp only [Option.getD_some] at hv
            subst hv; rfl
        simp only [Region.wanted, hgd, hy] at hw
        cases want <;> exact absurd hw (by decide)
      · simp at hk
    · simp at hk

theorem operK_quiet {k : Sg → Option ρ} {r : ρ} {o : Oper} (h : RelG E G σ a w) (hq : quietO o = true) (hk : operK C ops σ o k = some r) (hw : Region.wanted o (yielded ops a.tmps) = true) :
    ∃ u, (execOp a.eval o).run C.P w = .ok (.value u) w := by
  unfold operK at hk
  split at hk
  · exact opK_quiet h hq hk
  · rename_i j want hgd
    split at hk
    · rename_i d hdj
      split at hk
      · rename_i nn b hget
        have hv := h.get (.tmp d)
        rw [hget] at hv
        have hb := datBool hv
        simp only [Act.eval] at hb
        have hy : yielded ops a.tmps j = some b := by
          unfold yielded
          rw [hdj]
          simp only [Option.bind_some]
          cases ht : a.tmps[d]? with
          | none => rw [Array.getD_eq_getD_getElem?, ht] at hb; simp [undef] at hb
          | some u =>
            rw [Array.getD_eq_getD_getElem?, ht] at hb
            simp only [Option.getD_some] at hb
            subst hb; rfl
        have hbw : b = want := by
          simp only [Region.wanted, hgd, hy] at hw
          cases b <;> cases want <;> first | rfl | (exact absurd hw (by decide))
        subst hbw
        have ref : RelG E G { σ with env := σ.env.set d (boolA b) } a w := h.refine d (by
          show VA _ _ _ _ (boolA b) _
          rw [hb]; exact boolVA)
        have go : ∀ k' : Sg → Option ρ, putK σ (some d) (boolA b) k' = k' { σ with env := σ.env.set d (boolA b) } := fun k' => by simp only [putK, setK_eq]
        cases b with
        | true =>
          simp only [cond_true] at hk
          rw [go] at hk
          exact opK_quiet ref hq hk
        | false =>
          simp only [cond_false] at hk
          rw [go] at hk
          exact opK_quiet ref hq hk
      · rename_i hget
        exfalso
        have hv := h.get (.tmp d)
        rw [hget] at hv
        have hv : a.tmps.getD d undef = undef := hv
        have hy : yielded ops a.tmps j = none := by
          unfold yielded
          rw [hdj]
          simp only [Option.bind_some]
          cases ht : a.tmps[d]? with
          | none => rfl
          | some u =>
            rw [Array.getD_eq_getD_getElem?, ht] at hv
            simp only [Option.getD_some] at hv
            subst hv; rfl
        simp only [Region.wanted, hgd, hy] at hw
        cases want <;> exact absurd hw (by decide)
      · simp at hk
    · simp at hk

/-! Every order. -/

/-- A quiet operation's turn. -/
def stillOp (P : Program) (ops : Array Oper) (i : Nat) (K : Act → World → Prop) (a : Act) (w : World) : Prop :=
  match ops[i]? with
  | none => False
  | some o => if Region.wanted o (yielded ops a.tmps) then ∃ v, (execOp a.eval o).run P w = .ok (.value v) w ∧ K (a.put o.dst v) w else K (a.put o.dst undef) w

def wpW (P : Program) (ops : Array Oper) (Q : Exit → Act → World → Prop) : Nat → Array Bool → Act → World → Prop
  | 0, listed, a, w => Region.ready .any ops listed = [] ∧ Q .normal a w
  | fuel + 1, listed, a, w => (Region.ready .any ops listed = [] → Q .normal a w) ∧ ∀ i ∈ Region.ready .any ops listed,
      if quietAt ops i = true then stillOp P ops i (wpW P ops Q fuel (listed.setIfInBounds i true)) a w else wpOp P ops Q i (wpW P ops Q fuel (listed.setIfInBounds i true)) a w

theorem stillOp.wpOp {P : Program} {Q : Exit → Act → World → Prop} {i : Nat} {K : Act → World → Prop} (h : stillOp P ops i K a w) : wpOp P ops Q i K a w := by
  unfold stillOp at h
  unfold Go.wpOp
  split at h
  · exact h.elim
  · rename_i o ho
    rw [ho]
    simp only
    split at h
    · rename_i hw
      obtain ⟨v, h1, h2⟩ := h
      rw [if_pos hw]
      refine .inl ?_
      unfold Oper.wp
      rw [h1]
      exact h2
    · rename_i hw
      rw [if_neg hw]; exact h

theorem wpW_any {P : Program} {Q : Exit → Act → World → Prop} : (fuel : Nat) → (listed : Array Bool) → (a : Act) → (w : World) → wpW P ops Q fuel listed a w → wpAny P .any ops Q fuel listed a w
  | 0, _, _, _, h => h
  | fuel + 1, listed, a, w, h => ⟨h.1, fun i hi => by
    have := h.2 i hi
    split at this
    · exact (show stillOp P ops i _ a w from by
        unfold stillOp at this ⊢
        split at this
        · exact this
        · rename_i o ho
          split at this
          · rename_i hw
            obtain ⟨v, h1, h2⟩ := this
            rw [if_pos hw]
            exact ⟨v, h1, wpW_any fuel _ _ _ h2⟩
          · rename_i hw
            rw [if_neg hw]
            exact wpW_any fuel _ _ _ this).wpOp
    · exact wpOp_mono (fun a w h => wpW_any fuel _ _ _ h) this⟩

theorem stillOp_mono {P : Program} {i : Nat} {K K' : Act → World → Prop} (h : ∀ a w, K a w → K' a w) (hh : stillOp P ops i K a w) : stillOp P ops i K' a w := by
  unfold stillOp at hh ⊢
  split at hh
  · exact hh
  · split at hh
    · rename_i hw
      obtain ⟨v, h1, h2⟩ := hh
      rw [if_pos hw]; exact ⟨v, h1, h _ _ h2⟩
    · rename_i hw
      rw [if_neg hw]; exact h _ _ hh

def YieldsW (P : Program) (ops : Array Oper) (o : Oper) (v : Value) (a : Act) (w : World) : Prop :=
  (Region.wanted o (yielded ops a.tmps) = true ∧ (execOp a.eval o).run P w = .ok (.value v) w) ∨ (Region.wanted o (yielded ops a.tmps) = false ∧ v = undef)

theorem YieldsW.still {P : Program} {i : Nat} {o : Oper} {v : Value} (hi : ops[i]? = some o) (hy : YieldsW P ops o v a w) {K : Act → World → Prop} (h : K (a.put o.dst v) w) : stillOp P ops i K a w := by
  unfold stillOp
  rw [hi]
  simp only
  rcases hy with ⟨hw, hv⟩ | ⟨hw, rfl⟩
  · rw [if_pos hw]; exact ⟨v, hv, h⟩
  · rw [if_neg (by rw [hw]; simp)]; exact h

theorem stillOp_put {P : Program} {j : Nat} {oi oj : Oper} {v : Value} (hj : ops[j]? = some oj) (hap : oi.apart ops oj = true) (hsi : ∀ cs b, oi.op ≠ .select cs b) (hsj : ∀ cs b, oj.op ≠ .select cs b)
    {K : Act → World → Prop} (hy : YieldsW P ops oi v a w) (h : stillOp P ops j K (a.put oi.dst v) w) : stillOp P ops j (fun a' w' => YieldsW P ops oi v a' w' ∧ K (a'.put oi.dst v) w') a w := by
  obtain ⟨h1, h2, h3⟩ := Oper.apart_spec hap
  have keep : ∀ u, YieldsW P ops oi v (a.put oj.dst u) w := fun u => by
    unfold YieldsW at hy ⊢
    rw [wanted_put oi a oj.dst u h3, execOp_put oi hsi a oj.dst u h3]
    exact hy
  unfold stillOp at h ⊢
  rw [hj] at h ⊢
  simp only at h ⊢
  rw [wanted_put oj a oi.dst v h1, execOp_put oj hsj a oi.dst v h1] at h
  split
  · rename_i hw
    rw [if_pos hw] at h
    obtain ⟨u, h4, h5⟩ := h
    exact ⟨u, h4, keep u, by rw [← Act.put_comm a v u h2]; exact h5⟩
  · rename_i hw
    rw [if_neg hw] at h
    exact ⟨keep _, by rw [← Act.put_comm a v undef h2]; exact h⟩

/-- What is listed has what it waits for listed. -/
def Cl (ops : Array Oper) (listed : Array Bool) : Prop := ∀ (x : Nat) (o : Oper), listed.getD x false = true → ops[x]? = some o → ∀ e ∈ o.after.toList, Region.binds .any e = true → listed.getD e.on false = true

theorem Cl.set {listed : Array Bool} {i : Nat} (h : Cl ops listed) (hi : i ∈ Region.ready .any ops listed) : Cl ops (listed.setIfInBounds i true) := by
  intro x o hx ho e he hb
  by_cases hxi : i = x
  · subst hxi
    obtain ⟨_, o', ho', hall⟩ := mem_ready.1 hi
    rw [ho] at ho'
    obtain rfl := Option.some.inj ho'
    exact getD_set_true (hall e (Array.mem_toList_iff.1 he) hb)
  · rw [getD_set_ne false hxi] at hx
    exact getD_set_true (h x o hx ho e he hb)

theorem wpW_first {P : Program} {Q : Exit → Act → World → Prop} {i : Nat} {oi : Oper} {v : Value} (hi : ops[i]? = some oi) (hq : quietAt ops i = true) (hsel : ∀ (j : Nat) (o : Oper) cs b, ops[j]? = some o → o.op ≠ .select cs b)
    (hafter : ∀ (i : Nat) (o : Oper), ops[i]? = some o → ∀ e ∈ o.after.toList, Region.binds .any e = true → e.on < i) :
    ∀ (fuel : Nat) (listed : Array Bool) (a : Act), listed.size = ops.size → Cl ops listed →
      (∀ j oj, ops[j]? = some oj → j ≠ i → listed.getD j true = false → (∀ e ∈ oj.after, Region.binds .any e = true → e.on ≠ i) → oi.apart ops oj = true) →
      (∀ j oj, ops[j]? = some oj → j ≠ i → listed.getD j true = false → quietAt ops j = true ∨ (((ancAll ops.toList [])[j]?).getD 0).testBit i = true) →
      i ∈ Region.ready .any ops listed → YieldsW P ops oi v a w →
      wpW P ops Q fuel (listed.setIfInBounds i true) (a.put oi.dst v) w → wpW P ops Q (fuel + 1) listed a w := by
  intro fuel
  induction fuel with
  | zero =>
    intro listed a hs hcl _ _ hr hy H
    refine ⟨fun h => (by rw [h] at hr; cases hr), fun j hj => ?_⟩
    by_cases hji : j = i
    · subst hji; rw [if_pos hq]; exact hy.still hi H
    · have := ready_mono hj hji
      rw [H.1] at this
      cases this
  | succ fuel ih =>
    intro listed a hs hcl hfree hqa hr hy H
    refine ⟨fun h => (by rw [h] at hr; cases hr), fun j hj => ?_⟩
    by_cases hji : j = i
    · subst hji; rw [if_pos hq]; exact hy.still hi H
    · have h1 := H.2 j (ready_mono hj hji)
      obtain ⟨hjun, oj, hoj, hall⟩ := mem_ready.1 hj
      have hiun : listed.getD i false = false := by
        have h0 := (mem_ready.1 hr).1
        have hlt := (Array.getElem?_eq_some_iff.1 hi).1
        rwa [getD_listed (b' := true) (by omega)]
      have hnot : ∀ e ∈ oj.after, Region.binds .any e = true → e.on ≠ i := fun e he hb heq => by
        have h1 := hall e he hb
        rw [heq, hiun] at h1; cases h1
      have hqj : quietAt ops j = true := by
        rcases hqa j oj hoj hji hjun with h2 | h2
        · exact h2
        · exfalso
          cases hg : (ancAll ops.toList [])[j]? with
          | none => rw [hg] at h2; simp at h2
          | some x =>
            rw [hg] at h2
            simp only [Option.getD_some] at h2
            have := anc_closed (ops := ops) (L := fun x => listed.getD x false = true) (fun x o' hx ho' d hd hb => hcl x o' hx ho' d hd hb) j x oj hg hoj (hafter j oj hoj) hafter (fun d hd hb => hall d (Array.mem_toList_iff.1 hd) hb) i h2
            rw [hiun] at this; cases this
      rw [if_pos hqj] at h1 ⊢
      have h2 := stillOp_put hoj (hfree j oj hoj hji hjun hnot) (fun cs b => hsel i oi cs b hi) (fun cs b => hsel j oj cs b hoj) hy h1
      have sub : ∀ {k : Nat}, (listed.setIfInBounds j true).getD k true = false → listed.getD k true = false := fun {k} hun => by
        by_cases hjk : j = k
        · subst hjk; exact hjun
        · rw [getD_set_ne true hjk] at hun; exact hun
      have hlt : j < listed.size := by rw [hs]; exact (Array.getElem?_eq_some_iff.1 hoj).1
      -- the world is the same: the operation is quiet
      unfold stillOp at h2 ⊢
      rw [hoj] at h2 ⊢
      simp only at h2 ⊢
      have goal : ∀ a', (YieldsW P ops oi v a' w ∧ wpW P ops Q fuel ((listed.setIfInBounds i true).setIfInBounds j true) (a'.put oi.dst v) w) → wpW P ops Q (fuel + 1) (listed.setIfInBounds j true) a' w := fun a' h3 => by
        refine ih (listed.setIfInBounds j true) a' (by simp [hs]) (hcl.set hj) (fun k ok hk hki hun hno => hfree k ok hk hki (sub hun) hno) (fun k ok hk hki hun => hqa k ok hk hki (sub hun)) (ready_mono hr (Ne.symm hji)) h3.1 ?_
        rw [Array.setIfInBounds_comm _ _ hji]
        exact h3.2
      split
      · rename_i hw
        rw [if_pos hw] at h2
        obtain ⟨u, h4, h5⟩ := h2
        exact ⟨u, h4, goal _ h5⟩
      · rename_i hw
        rw [if_neg hw] at h2
        exact goal _ h2

theorem wpW_firstP {P : Program} {Q : Exit → Act → World → Prop} (hQ : ∀ c a w, ¬ Q (.panic c) a w) {i : Nat} {oi : Oper} {v : Value} (hi : ops[i]? = some oi) (hsel : ∀ (j : Nat) (o : Oper) cs b, ops[j]? = some o → o.op ≠ .select cs b) :
    ∀ (fuel : Nat) (listed : Array Bool) (a : Act) (w : World), listed.size = ops.size →
      (∀ j oj, ops[j]? = some oj → j ≠ i → listed.getD j true = false → (∀ e ∈ oj.after, Region.binds .any e = true → e.on ≠ i) → oi.apart ops oj = true) →
      i ∈ Region.ready .any ops listed → Yields P ops oi v a →
      wpW P ops Q fuel (listed.setIfInBounds i true) (a.put oi.dst v) w → wpW P ops Q (fuel + 1) listed a w := by
  intro fuel
  have toW : ∀ {a : Act} {w : World}, Yields P ops oi v a → YieldsW P ops oi v a w := fun {a w} hy => hy.imp (fun h => ⟨h.1, h.2 w⟩) id
  have self : ∀ {a : Act} {w : World} {K : Act → World → Prop}, Yields P ops oi v a → K (a.put oi.dst v) w → if quietAt ops i = true then stillOp P ops i K a w else wpOp P ops Q i K a w := fun hy hk => by
    split
    · exact (toW hy).still hi hk
    · exact ((toW hy).still hi hk).wpOp
  induction fuel with
  | zero =>
    intro listed a w hs _ hr hy H
    refine ⟨fun h => (by rw [h] at hr; cases hr), fun j hj => ?_⟩
    by_cases hji : j = i
    · subst hji; exact self hy H
    · have := ready_mono hj hji
      rw [H.1] at this
      cases this
  | succ fuel ih =>
    intro listed a w hs hfree hr hy H
    refine ⟨fun h => (by rw [h] at hr; cases hr), fun j hj => ?_⟩
    by_cases hji : j = i
    · subst hji; exact self hy H
    · have h1 := H.2 j (ready_mono hj hji)
      obtain ⟨hjun, oj, hoj, hall⟩ := mem_ready.1 hj
      have hiun : listed.getD i false = false := by
        have h0 := (mem_ready.1 hr).1
        have hlt := (Array.getElem?_eq_some_iff.1 hi).1
        rwa [getD_listed (b' := true) (by omega)]
      have hnot : ∀ e ∈ oj.after, Region.binds .any e = true → e.on ≠ i := fun e he hb heq => by
        have h1 := hall e he hb
        rw [heq, hiun] at h1; cases h1
      have hap := hfree j oj hoj hji hjun hnot
      have sub : ∀ {k : Nat}, (listed.setIfInBounds j true).getD k true = false → listed.getD k true = false := fun {k} hun => by
        by_cases hjk : j = k
        · subst hjk; exact hjun
        · rw [getD_set_ne true hjk] at hun; exact hun
      have goal : ∀ a' w', (Yields P ops oi v a' ∧ wpW P ops Q fuel ((listed.setIfInBounds i true).setIfInBounds j true) (a'.put oi.dst v) w') → wpW P ops Q (fuel + 1) (listed.setIfInBounds j true) a' w' := fun a' w' h3 => by
        refine ih (listed.setIfInBounds j true) a' w' (by simp [hs]) (fun k ok hk hki hun hno => hfree k ok hk hki (sub hun) hno) (ready_mono hr (Ne.symm hji)) h3.1 ?_
        rw [Array.setIfInBounds_comm _ _ hji]
        exact h3.2
      split at h1
      · rename_i hq
        rw [if_pos hq]
        obtain ⟨p1, p2, p3⟩ := Oper.apart_spec hap
        have keep : ∀ u, Yields P ops oi v (a.put oj.dst u) := fun u => hy.of_same (execOp_put oi (fun cs b => hsel i oi cs b hi) a oj.dst u p3) (wanted_put oi a oj.dst u p3)
        unfold stillOp at h1 ⊢
        rw [hoj] at h1 ⊢
        simp only at h1 ⊢
        rw [wanted_put oj a oi.dst v p1, execOp_put oj (fun cs b => hsel j oj cs b hoj) a oi.dst v p1] at h1
        split
        · rename_i hw
          rw [if_pos hw] at h1
          obtain ⟨u, h4, h5⟩ := h1
          exact ⟨u, h4, goal _ _ ⟨keep u, by rw [← Act.put_comm a v u p2]; exact h5⟩⟩
        · rename_i hw
          rw [if_neg hw] at h1
          exact goal _ _ ⟨keep _, by rw [← Act.put_comm a v undef p2]; exact h1⟩
      · rename_i hq
        rw [if_neg hq]
        exact wpOp_mono goal (wpOp_put hoj hap (fun cs b => hsel i oi cs b hi) (fun cs b => hsel j oj cs b hoj) (fun c a w h => (hQ c _ w h).elim) hy h1)

theorem seqK_some (hC : Ctrs C) {ws : List Nat} (hnos : Region.noSelect ops = true) (hafter : ∀ (i : Nat) (o : Oper), ops[i]? = some o → ∀ e ∈ o.after.toList, Region.binds .any e = true → e.on < i)
    (hws : ∀ o ∈ ops.toList, (∀ t, o.dst = some t → t ∈ ws ∧ ¬ E.F t) ∧ ∀ j b t, o.guard = some (j, b) → (ops[j]?).bind (·.dst) = some t → t ∈ ws) {Q : Exit → Act → World → Prop} (hQp : ∀ c a w, ¬ Q (.panic c) a w) :
    (ord : List Nat) → {listed : Array Bool} → {σ : Sg} → {G : Gh} → {a : Act} → {w : World} → {K : Sg → Option ρ} → {r : ρ} → listed.size = ops.size → Cl ops listed → RelG E G σ a w → seqK C ops (ancAll ops.toList []) ord listed σ K = some r →
      (∀ σ' a' w' G', K σ' = some r → RelG E G' σ' a' w' → Kc ws σ σ' → GA E σ σ' G G' w w' → Q .normal a' w') → wpW C.P ops Q ord.length listed a w
  | [], listed, σ, G, a, w, K, r, hs, hcl, h, hk, hQ => by
    simp only [seqK] at hk
    split at hk
    · rename_i hr
      exact ⟨hr, hQ σ a w G hk h (Kc.refl _ _) (GA.refl _ _ _ _)⟩
    · simp at hk
  | i :: ord, listed, σ, G, a, w, K, r, hs, hcl, h, hk, hQ => by
    simp only [seqK] at hk
    split at hk
    · rename_i o ho hok
      have hom : o ∈ ops.toList := by rw [← Array.getElem?_toList] at ho; exact List.mem_of_getElem? ho
      unfold seqOk at hok
      simp only [Bool.or_eq_true, Bool.and_eq_true, beq_iff_eq] at hok
      have next : i ∈ Region.ready .any ops listed → ∀ σ' a' w' G', (seqK C ops (ancAll ops.toList []) ord (listed.setIfInBounds i true) σ' K) = some r → RelG E G' σ' a' w' → Kc ws σ σ' → GA E σ σ' G G' w w' → wpW C.P ops Q ord.length (listed.setIfInBounds i true) a' w' := fun hi σ' a' w' G' h1 h2 h3 h4 =>
        seqK_some hC hnos hafter hws hQp ord (by simp [hs]) (hcl.set hi) h2 h1 fun σ2 a2 w2 G2 k1 k2 k3 k4 => hQ σ2 a2 w2 G2 k1 k2 (h3.trans k3) (h4.trans k4)
      have hst := operK_some (a := a) (w := w) hC h hk (hws o hom).1 (hws o hom).2
      -- a quiet operation's value
      have still : quietO o = true → i ∈ Region.ready .any ops listed → ∃ v, YieldsW C.P ops o v a w ∧ wpW C.P ops Q ord.length (listed.setIfInBounds i true) (a.put o.dst v) w := fun hqo hi => by
        have hn := hst (fun a' w' => wpW C.P ops Q ord.length (listed.setIfInBounds i true) a' w') (fun _ _ _ => False) (next hi)
        cases hw : Region.wanted o (yielded ops a.tmps) with
        | true =>
          rw [hw, if_pos rfl] at hn
          obtain ⟨u, hu⟩ := operK_quiet h hqo hk hw
          refine ⟨u, .inl ⟨hw, hu⟩, ?_⟩
          unfold Oper.wp at hn
          rw [hu] at hn
          exact hn
        | false =>
          rw [hw] at hn
          exact ⟨undef, .inr ⟨hw, rfl⟩, by simpa using hn⟩
      have hqat : quietAt ops i = quietO o := by simp [quietAt, ho]
      rcases hok with (hone | ⟨⟨hr, hq⟩, hfree⟩) | ⟨⟨⟨hr, hq⟩, hfree⟩, hall⟩
      · -- no other can come
        refine ⟨fun h0 => by rw [hone] at h0; simp at h0, fun j hj => ?_⟩
        rw [hone, List.mem_singleton] at hj
        subst hj
        have hi : j ∈ Region.ready .any ops listed := by rw [hone]; simp
        split
        · rename_i hq
          rw [hqat] at hq
          obtain ⟨v, h1, h2⟩ := still hq hi
          exact h1.still ho h2
        · have hn := hst (fun a' w' => wpW C.P ops Q ord.length (listed.setIfInBounds j true) a' w') Q (next hi)
          unfold wpOp
          rw [ho]
          simp only
          split at hn
          · rename_i hw; rw [if_pos hw]; exact .inl hn
          · rename_i hw; rw [if_neg hw]; exact hn
      · have hi : i ∈ Region.ready .any ops listed := by simpa using hr
        have hqo : pureO o = true := by simpa [pureAt, ho] using hq
        have hn := hst (fun a' w' => wpW C.P ops Q ord.length (listed.setIfInBounds i true) a' w') (fun _ _ _ => False) (next hi)
        have : ∃ v, Yields C.P ops o v a ∧ wpW C.P ops Q ord.length (listed.setIfInBounds i true) (a.put o.dst v) w := by
          cases hw : Region.wanted o (yielded ops a.tmps) with
          | true =>
            rw [hw, if_pos rfl] at hn
            obtain ⟨u, hu⟩ := operK_pure h hqo hk hw
            refine ⟨u, .inl ⟨hw, hu⟩, ?_⟩
            unfold Oper.wp at hn
            rw [hu w] at hn
            exact hn
          | false =>
            rw [hw] at hn
            exact ⟨undef, .inr ⟨hw, rfl⟩, by simpa using hn⟩
        obtain ⟨v, h1, h2⟩ := this
        exact wpW_firstP hQp ho (Region.noSelect_spec hnos) ord.length listed a w hs (Region.free_spec ho hfree) hi h1 h2
      · have hi : i ∈ Region.ready .any ops listed := by simpa using hr
        rw [hqat] at hq
        obtain ⟨v, h1, h2⟩ := still hq hi
        rw [List.all_eq_true] at hall
        refine wpW_first ho (by rw [hqat]; exact hq) (Region.noSelect_spec hnos) hafter ord.length listed a hs hcl (Region.free_spec ho hfree) (fun j oj hj hne hun => ?_) hi h1 h2
        have := hall j (List.mem_range.2 (Array.getElem?_eq_some_iff.1 hj).1)
        simp only [Bool.or_eq_true, beq_iff_eq] at this
        rcases this with ((h3 | h3) | h3) | h3
        · exact absurd h3 hne
        · rw [hun] at h3; cases h3
        · exact .inl h3
        · exact .inr h3
    · simp at hk

/-- A region whose order is drawn, either way. -/
theorem regionX_some (hC : Ctrs C) {id : Nat} {K : Sg → Option ρ} {r : ρ} {ws : List Nat} (h : RelG E G σ a w) (hk : regionX C id ops σ K = some r)
    (hws : ∀ o ∈ ops.toList, (∀ t, o.dst = some t → t ∈ ws ∧ ¬ E.F t) ∧ ∀ j b t, o.guard = some (j, b) → (ops[j]?).bind (·.dst) = some t → t ∈ ws) (Q : Exit → Act → World → Prop)
    (hQ : ∀ σ' a' w' G', K σ' = some r → RelG E G' σ' a' w' → Kc ws σ σ' → GA E σ σ' G G' w w' → Q .normal a' w') : (Code.region id ops true).wp C.P Q a w := by
  unfold regionX at hk
  split at hk
  · rename_i ord _
    unfold regionS at hk
    split at hk
    · rename_i hc
      simp only [Bool.and_eq_true, beq_iff_eq, List.all_eq_true, List.mem_range] at hc
      obtain ⟨⟨hnos, hlen⟩, haf⟩ := hc
      have hafter : ∀ (i : Nat) (o : Oper), ops[i]? = some o → ∀ e ∈ o.after.toList, Region.binds .any e = true → e.on < i := fun i o ho e he hb => by
        have := haf i (Array.getElem?_eq_some_iff.1 ho).1
        rw [ho] at this
        simp only [List.all_eq_true] at this
        have := this e he
        rw [hb] at this; simpa using this
      refine wp_mono (Q := fun e a w => e = .normal ∧ Q .normal a w) ?_ fun e a w hq => by obtain ⟨rfl, hq⟩ := hq; exact hq
      refine wp_region_any hC.mixed (wpW_any _ _ _ _ ?_)
      have hk : seqK C ops (ancAll ops.toList []) ord (Array.replicate ord.length false) σ K = some r := by rw [hlen]; exact hk
      rw [← hlen]
      refine seqK_some hC hnos hafter hws (fun c a w hp => by cases hp.1) ord (by simp [hlen]) (fun x o hx ho => ?_) (h.ext (Ext.drew w)) hk fun σ' a' w' G' k1 k2 k3 k4 => ⟨rfl, hQ σ' a' w' G' k1 k2 k3 ?_⟩
      · have hlt := (Array.getElem?_eq_some_iff.1 ho).1
        simp [Array.getD_eq_getD_getElem?, hlen, hlt] at hx
      · exact (show GA E σ σ G G w _ from ⟨fun b hb => ⟨Nat.lt_of_lt_of_le hb.1 (Ext.drew w).size, hb.2⟩, fun _ _ => rfl, Nat.le_refl _, fun _ _ => rfl⟩).trans k4
    · simp at hk
  · exact regionD_some hC h hk hws Q hQ

end
end Go.Proofs.Ytajlabmnpimeeaa.Eng
