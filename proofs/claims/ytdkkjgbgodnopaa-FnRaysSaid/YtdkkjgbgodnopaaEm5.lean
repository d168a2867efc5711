/-
  The engine, part 43. Calls that are run in their caller's state and leave it as it was. No condition.
-/
import Derived.Test.YtdkkjgbgodnopaaEm4
namespace Go.Proofs.Ytdkkjgbgodnopaa.Eng
open Go
set_option linter.unusedVariables false
set_option linter.unusedSimpArgs false

/-- Everything is frozen. -/
def allF (σ : Sg) : Sg := { env := σ.env, hp := σ.hp.map (Option.map Ob.freeze) }

/-- The call is run with everything frozen; it hands back a plain value, and the state is as it was. -/
def quietK (K : (ρ : Type) → List A → Sg → (A → Sg → Option ρ) → Option ρ) (ρ : Type) (xs : List A) (σ : Sg) (k : A → Sg → Option ρ) : Option ρ :=
  K ρ xs (allF σ) fun v _ => match v with
    | .l (.dat nn t x) => cond t.flat (k (.l (.dat nn t x)) σ) none
    | _ => none

section
variable {E : En} {G : Gh} {σ : Sg} {a : Act} {w : World}

theorem allF_ob (σ : Sg) (id : Nat) : (allF σ).ob id = (σ.ob id).map Ob.freeze := by
  simp only [allF, Sg.ob, List.getElem?_map]
  cases σ.hp[id]? <;> rfl

theorem allF_frz (σ : Sg) : Frz σ (allF σ) := by
  obtain ⟨s, f, h⟩ := frzAll σ [] σ.hp.length
  have e : s = allF σ := by
    have e1 : s.env = (allF σ).env := by
      have := f.kp.env
      rw [this]; rfl
    have e2 : s.hp = (allF σ).hp := by
      refine List.ext_getElem? fun i => ?_
      have hl : s.hp.length = (allF σ).hp.length := by rw [f.len]; simp [allF]
      by_cases hi : i < s.hp.length
      · have h1 := h i
        rw [if_pos ⟨by rw [← f.len]; exact hi, by simp⟩, ← allF_ob] at h1
        unfold Sg.ob at h1
        rw [List.getElem?_eq_getElem hi, List.getElem?_eq_getElem (by omega)] at h1 ⊢
        simpa using h1
      · rw [List.getElem?_eq_none (by omega), List.getElem?_eq_none (by omega)]
    cases s; cases h0 : allF σ; rw [h0] at e1 e2; simp only at e1 e2; rw [e1, e2]
  rw [← e]; exact f

theorem quiet_ok {P : Program} {e : InE} (h : InOk P e) : InOk P ⟨e.f, true, quietK e.K⟩ := by
  refine ⟨fun _ xs σ σ' x hk => ?_, fun ρ xs σ k => ?_, @fun E G σ σ' a w xs vs x hr hv hk => ?_⟩
  · simp only [quietK] at hk
    rw [h.nat] at hk
    obtain ⟨p, h1, h2⟩ := Option.bind_eq_some_iff.1 hk
    split at h2
    · rename_i nn t y hp
      cases hf : t.flat with
      | false => rw [hf, cond_false] at h2; cases h2
      | true => rw [hf, cond_true] at h2; simp only [Option.some.injEq, Prod.mk.injEq] at h2; rw [← h2.2]; exact Kp.refl _
    · cases h2
  · simp only [quietK]
    rw [h.nat ρ, h.nat (A × Sg) xs (allF σ) (fun v _ => match v with
      | .l (.dat nn t x) => cond t.flat (some (.l (.dat nn t x), σ)) none
      | _ => none)]
    cases e.K (A × Sg) xs (allF σ) fun v s => some (v, s) with
    | none => rfl
    | some p =>
      simp only [Option.bind_some]
      split
      · rename_i nn t y hp
        cases t.flat <;> rfl
      · rfl
  · simp only [quietK] at hk
    rw [h.nat] at hk
    obtain ⟨⟨v, σ1⟩, h1, h2⟩ := Option.bind_eq_some_iff.1 hk
    simp only at h2
    split at h2
    · rename_i nn t y
      cases hf : t.flat with
      | false => rw [hf, cond_false] at h2; cases h2
      | true =>
        rw [hf, cond_true] at h2
        simp only [Option.some.injEq, Prod.mk.injEq] at h2
        obtain ⟨rfl, rfl⟩ := h2
        have f := allF_frz σ
        obtain ⟨_, hc⟩ := h.ok (f.rel hr) (hv.keep f.keep) h1
        refine ⟨Kp.refl _, hc.mono fun ex w' hpost => ?_⟩
        obtain ⟨val, rfl, G', hr', ga, hval⟩ := hpost
        refine ⟨val, rfl, G, ?_⟩
        have same : ∀ id o, σ.ob id = some o → o.ro = false → ∀ b ∈ (G id).2, w'.heap[b]? = w.heap[b]? := fun id o ho hro b hb => by
          refine ga.heap b ⟨(hr.range id o ho hro b hb).1, fun hB => hr.xa b ((hr.range id o ho hro b hb).2 hB), fun i q hq hqr => ?_⟩
          rw [allF_ob] at hq
          obtain ⟨q', _, rfl⟩ := Option.map_eq_some_iff.1 hq
          rw [freeze_ro] at hqr; cases hqr
        have hsz : w.heap.size ≤ w'.heap.size := by
          by_cases h0 : w.heap.size = 0
          · omega
          · by_cases hB : w.heap.size ≤ E.B
            · exact Nat.le_trans hB hr'.size
            · have := (ga.imm (w.heap.size - 1) ⟨by omega, fun hb => by omega, fun i q hq hqr => by
                rw [allF_ob] at hq
                obtain ⟨q', _, rfl⟩ := Option.map_eq_some_iff.1 hq
                rw [freeze_ro] at hqr; cases hqr⟩).1
              omega
        have keep : Keep (Imm E G σ w) (Imm E G σ w') σ.hp.length σ.hp.length G G w w' := ⟨fun b hb => ⟨Nat.lt_of_lt_of_le hb.1 hsz, hb.2⟩, fun b hb => ga.heap b (f.keep.imm b hb), Nat.le_refl _, fun _ _ => rfl⟩
        refine ⟨{ defers := hr.defers, len := hr.len, env := fun t x hx => (hr.env t x hx).keep keep x, obs := fun id o ho => (hr.obs id o ho).keep keep (Sg.ob_lt ho) rfl o (same id o ho), nodup := hr.nodup,
                  range := fun id o ho hro b hb => ⟨Nat.lt_of_lt_of_le (hr.range id o ho hro b hb).1 hsz, (hr.range id o ho hro b hb).2⟩, hrange := hr.hrange, disj := hr.disj,
                  os := hr'.os, tape := hr'.tape, output := hr'.output, size := hr'.size, frame := hr'.frame, xa := hr.xa, fixd := hr.fixd }, keep, ?_⟩
        obtain ⟨⟨cs, k1, k2⟩, k3⟩ := hval
        exact ⟨⟨cs, flat_RdC t hf k1, k2⟩, k3⟩
    · cases h2

theorem mkQuiet {C : Ctx} {fn : Func} {f : FuncId} (hm : C.P.follows .mixedOrders = true) (h : AllC C.P C.O) (hf : C.P.funcs[f]? = some fn) (hok : okFn fn [] = true) (hi : AllI C.P C.I := by trivial) : FnOk C.P f ∧ InOk C.P ⟨f, true, quietK (inlK C fn)⟩ := by
  obtain ⟨h1, h2⟩ := mkInl hm h hf hok hi
  exact ⟨h1, quiet_ok h2⟩

end

/-! Laws whose parameters are structs: their boxes come first. -/

/-- What the slots of the boxes hold. -/
def proL (as : List A) : Nat → List Oper → Option (List A)
  | _, [] => some []
  | d, o :: r => match o.guard, o.op, o.dst with
    | none, .box _ (.tmp i), some d' => if d' = d then (match as[i]? with
      | some (.l (.dat _ (.prod s t) x)) => (proL as (d + 1) r).map fun bs => .l (.cptr (.prod s t) x) :: bs
      | _ => none) else none
    | _, _, _ => none

def headOps : Code → Option (Array Oper)
  | .region _ ops false => some ops
  | .seq a _ => headOps a
  | _ => none

/-- The slots that the code behind the boxes writes. -/
def wrP (nb : Nat) : Code → List Nat
  | .region _ ops _ => (ops.toList.drop nb).filterMap (·.dst)
  | .seq a b => wrP nb a ++ wrC b
  | c => wrC c

noncomputable def topP (C : Ctx) (M : List MarkE) (env0 : List A) (nb : Nat) : Code → (ρ : Type) → Sg → (AEx → Sg → Option ρ) → Option ρ
  | .region _ ops false, _, σ, k => topOpsK C M env0 ops (ops.toList.drop nb) σ fun σ => k .normal σ
  | .seq a b, ρ, σ, k => topP C M env0 nb a ρ σ fun e σ => match e with
    | .normal => topK C M env0 b ρ σ k
    | e => k e σ
  | _, _, _, _ => none

/-- As funT, the first operations lay the parameters into boxes. -/
noncomputable def funP (C : Ctx) (M : List MarkE) (nb : Nat) (fn : Func) (ps : List PM) (rs : List SK) (x : PMs.den ps) : Option (ResB (hasIo ps) (SKs.den rs) (PMo.den ps)) :=
  match fn.body with
  | none => none
  | some c => match headOps c with
    | none => none
    | some ops =>
      let as := (encPs ⟨List.replicate fn.ntmps (.l .unk), []⟩ ps x).1
      match proL as as.length (ops.toList.take nb) with
      | none => none
      | some bs => topP C M (as ++ bs) nb c _ { env := (as ++ bs) ++ List.replicate (fn.ntmps - (as.length + bs.length)) (.l .unk), hp := [] } fun e σ => match e with
        | .exit _ => none
        | _ => resK C σ fn.results.toList fun vs => ioK ps 0 (frzSs rs vs σ) fun o σ => decSs rs vs σ fun r _ => some (resJ (hasIo ps) r o)

section
variable {ρ : Type} {C : Ctx} {E : En} {G : Gh} {σ : Sg} {a : Act} {w : World} {I : Nat → Prop}

theorem pro_some {P : Program} {ops : Array Oper} {as : List A} : (os : List Oper) → (i d : Nat) → {bs : List A} → {a : Act} → {w : World} → (∀ j o, os[j]? = some o → ops[i + j]? = some o) → proL as d os = some bs →
    as.length ≤ d → d + os.length ≤ a.tmps.size → (∀ (k : Nat) (nn : Bool) (t : Ty) (y : t.den), as[k]? = some (.l (.dat nn t y)) → RdV I w t y (a.tmps.getD k undef)) → (∀ b, I b → b < w.heap.size) →
    ∃ (a1 : Act) (w1 : World), (∀ (Q : Exit → Act → World → Prop) (rest : List Nat), wpOps P ops Q rest a1 w1 → wpOps P ops Q (List.range' i os.length ++ rest) a w) ∧ Ext w w1 ∧ a1.defers = a.defers ∧ a1.tmps.size = a.tmps.size ∧
      (∀ t, (t < d ∨ d + os.length ≤ t) → a1.tmps.getD t undef = a.tmps.getD t undef) ∧ bs.length = os.length ∧
      ∀ (j : Nat) (x : A), bs[j]? = some x → ∃ l, x = .l l ∧ ∀ (N : Nat) (G : Gh), VL (fun b => I b ∨ (w.heap.size ≤ b ∧ b < w1.heap.size)) N G w1 l (a1.tmps.getD (d + j) undef)
  | [], i, d, bs, a, w, ho, hp, had, hsz, hpar, hI => by
    simp only [proL, Option.some.injEq] at hp
    subst hp
    exact ⟨a, w, fun Q rest h => h, .refl _, rfl, rfl, fun _ _ => rfl, rfl, fun j x hx => by simp at hx⟩
  | o :: os, i, d, bs, a, w, ho, hp, had, hsz, hpar, hI => by
    unfold proL at hp
    split at hp
    · rename_i e p d2 hg hop hd
      split at hp
      · rename_i hdd
        have hdd' := hdd.symm
        subst hdd'
        clear hdd
        split at hp
        · rename_i nn s t x hx
          obtain ⟨bs', hp', rfl⟩ := Option.map_eq_some_iff.1 hp
          have hr := hpar p nn _ x hx
          have hplt := (List.getElem?_eq_some_iff.1 hx).1
          obtain ⟨cs, hc, hv⟩ := hr
          simp only [mkV, Ty.isProd, if_true] at hv
          simp only [List.length_cons] at hsz
          let a2 := a.put (some d) (.pointer (some ⟨w.heap.size, 0, none⟩))
          let w2 := w.alloc (.cells cs.toArray e)
          have x2 : Ext w w2 := Ext.alloc w _
          have h2sz : w2.heap.size = w.heap.size + 1 := by simp [w2]
          have tm : ∀ t, t ≠ d → a2.tmps.getD t undef = a.tmps.getD t undef := fun t ht => by
            have hne : d ≠ t := fun h => ht h.symm
            simp [a2, Act.put, Array.getElem?_setIfInBounds, hne]
          have tmd : a2.tmps.getD d undef = .pointer (some ⟨w.heap.size, 0, none⟩) := by
            have : d < a.tmps.size := by omega
            simp [a2, Act.put, Array.getElem?_setIfInBounds, this]
          obtain ⟨a1, w1, k1, k2, k3, k4, k5, k6, k7⟩ := pro_some (P := P) (ops := ops) (as := as) os (i + 1) (d + 1) (bs := bs') (a := a2) (w := w2) (fun j o' hj => by have := ho (j + 1) o' (by simpa using hj); rwa [show i + (j + 1) = i + 1 + j from by omega] at this)
            hp' (by omega) (by simp [a2, Act.put]; omega) (fun k nn t y hk => by
              rw [tm k (by have := (List.getElem?_eq_some_iff.1 hk).1; omega)]
              exact (hpar k nn t y hk).mono (fun _ h => h) fun b hb => x2.block b (hI b hb)) (fun b hb => by rw [h2sz]; have := hI b hb; omega)
          refine ⟨a1, w1, fun Q rest h => ?_, x2.trans k2, k3, by rw [k4]; simp [a2, Act.put], fun t ht => ?_, by simp [k6], fun j y hy => ?_⟩
          · simp only [List.length_cons, List.range'_succ, List.cons_append, wpOps]
            have hoi : ops[i]? = some o := by have := ho 0 o rfl; simpa using this
            rw [hoi]
            simp only
            have hw : Region.wanted o (yielded ops a.tmps) = true := by simp [Region.wanted, hg]
            rw [if_pos hw]
            refine .inl ?_
            unfold Oper.wp
            have hev : a.eval (.tmp p) = .agg cs.toArray := hv
            obtain ⟨dst, op, type, pos, after, guard⟩ := o
            simp only at hg hop hd
            subst hg hop hd
            rw [show (execOp a.eval ⟨some d, .box e (.tmp p), type, pos, after, none⟩).run P w = .ok (.value (.pointer (some ⟨w.heap.size, 0, none⟩))) (w.alloc (.cells cs.toArray e)) from by
              simp [execOp, hev, Instr.box, newVar, newRow, Value.cells]]
            rw [Oper.upon_value]
            exact k1 Q rest h
          · rw [k5 t (by simp only [List.length_cons] at ht; omega)]
            exact tm t (by simp only [List.length_cons] at ht; omega)
          · cases j with
            | zero =>
              simp at hy
              subst hy
              refine ⟨_, rfl, fun N G => ?_⟩
              rw [k5 (d + 0) (by omega), Nat.add_zero, tmd]
              have hb1 : w1.heap[w.heap.size]? = some (.cells cs.toArray e) := by
                rw [k2.block _ (by rw [h2sz]; omega)]; exact heap_alloc_new w _
              refine ⟨w.heap.size, 0, cs, rfl, .inr ⟨Nat.le_refl _, ?_⟩, fun j hj => ?_, ?_⟩
              · have := k2.size; rw [h2sz] at this; omega
              · rw [cell_of_row w1 _ _ _ _ _ hb1]; simp
              · exact hc.mono (fun b hb => .inl hb) (fun b hb => (x2.trans k2).block b (hI b hb)) _
            | succ j =>
              obtain ⟨l, e1, e2⟩ := k7 j y (by simpa using hy)
              refine ⟨l, e1, fun N G => ?_⟩
              rw [show d + (j + 1) = d + 1 + j from by omega]
              refine VL.keep (N := N) (G := G) ⟨fun b hb => ?_, fun _ _ => rfl, Nat.le_refl _, fun _ _ => rfl⟩ l (e2 N G)
              rcases hb with hb | hb
              · exact .inl hb
              · exact .inr ⟨by rw [h2sz] at hb; omega, hb.2⟩
        · cases hp
      · cases hp
    · cases hp

theorem topP_some {M : List MarkE} {env0 : List A} {nb : Nat} {ops : Array Oper} {a1 : Act} {w1 : World} (hC : Ctrs C) (hM : ∀ m ∈ M, FnOk C.P m.f ∧ MarkOk C.P m) (hp : Par E env0) (hXH : ∀ b, E.X b → E.H b)
    (hnb : nb ≤ ops.size) (hpro : ∀ (Q : Exit → Act → World → Prop), wpOps C.P ops Q (List.range' nb (ops.size - nb)) a1 w1 → wpOps C.P ops Q (List.range ops.size) a w) (h : RelG E G σ a1 w1) :
    (c : Code) → headOps c = some ops → (∀ t ∈ wrP nb c, ¬ E.F t) → ∀ {ρ : Type} {k : AEx → Sg → Option ρ} {r : ρ}, topP C M env0 nb c ρ σ k = some r → ∀ (Q : Exit → Act → World → Prop),
    (∀ e σ' a' w' G', k e σ' = some r → RelG E G' σ' a' w' → Q e.ex a' w') → c.wp C.P Q a w := by
  intro c
  induction c with
  | region id ops' draw =>
    intro hh hF ρ k r hk Q hQ
    cases draw with
    | true => simp [headOps] at hh
    | false =>
      simp only [headOps, Option.some.injEq] at hh
      subst hh
      simp only [topP] at hk
      refine wp_region (hpro Q ?_)
      have hl : (ops'.toList.drop nb).length = ops'.size - nb := by simp
      have := topOpsK_some (ops := ops') (σ := σ) (G := G) hC hM hp hXH (ops'.toList.drop nb) nb (fun j o hj => by rw [List.getElem?_drop] at hj; rw [← Array.getElem?_toList]; exact hj) (fun o ho t ht => hF t (by simp only [wrP, List.mem_filterMap]; exact ⟨o, ho, ht⟩)) h hk Q
        fun σ' a' w' G' h1 h2 => hQ .normal σ' a' w' G' h1 h2
      rw [hl] at this
      exact this
  | seq x y ihx ihy =>
    intro hh hF ρ k r hk Q hQ
    simp only [headOps] at hh
    simp only [topP] at hk
    simp only [wrP] at hF
    refine wp_seq (ihx hh (fun t ht => hF t (List.mem_append_left _ ht)) hk _ fun e σ' a' w' G' h1 h2 => ?_)
    cases e with
    | normal => exact topK_some hC hM hp hXH y (fun t ht => hF t (List.mem_append_right _ ht)) h2 h1 Q hQ
    | exit id => exact hQ _ σ' a' w' G' h1 h2
    | ret => exact hQ _ σ' a' w' G' h1 h2
  | _ => intro hh; simp [headOps] at hh

theorem funP_ctr {M : List MarkE} {nb : Nat} (hC : Ctrs C) (hM : ∀ m ∈ M, FnOk C.P m.f ∧ MarkOk C.P m) {e : CallE} {fn : Func} {c : Code} (hf : C.P.funcs[e.f]? = some fn) (hname : (fn.name == "runtime.NumGoroutine") = false) (hbody : fn.body = some c)
    (hn : e.ps.length + nb ≤ fn.ntmps) (hnb : ∀ ops, headOps c = some ops → nb ≤ ops.size) (hd : e.ps.all isD = true) (hpw : ∀ i, i < e.ps.length + nb → i ∉ wrP nb c) (hF : ∀ x r, e.F x = some r → funP C M nb fn e.ps e.rs x = some r) : FnOk C.P e.f ∧ Ctr C.P e := by
  refine ⟨⟨fn, c, hf, hname, hbody⟩, fun x r hx I w vs bss hin hargs => ?_⟩
  have hk := hF x r hx
  have hvl : vs.length = e.ps.length := by
    have : ∀ (ps : List PM) (y : PMs.den ps) (vs : List Value) (bss : List (List Nat)), ArgsV I w ps y vs bss → vs.length = ps.length := by
      intro ps
      induction ps with
      | nil => intro y vs bss h; cases vs with
        | nil => rfl
        | cons _ _ => exact h.elim
      | cons p ps ih =>
        intro y vs bss h
        cases ps with
        | nil => match vs, h with
          | [v], _ => rfl
        | cons p' r => match vs, h with
          | v :: vs, ⟨b1, b2, _, _, h⟩ => simp only [List.length_cons]; rw [ih _ _ _ h]; rfl
    exact this _ _ _ _ hargs
  let a : Act := { tmps := vs.toArray ++ Array.replicate (fn.ntmps - vs.toArray.size) undef, defers := [] }
  have hsz : a.tmps.size = fn.ntmps := by simp [a]; omega
  have hav : ∀ (i : Nat) (v : Value), vs[i]? = some v → a.tmps.getD i undef = v := fun i v hv => by
    have hlt := (List.getElem?_eq_some_iff.1 hv).1
    simp only [a, Array.getD_eq_getD_getElem?]
    rw [Array.getElem?_append_left (by simpa using hlt)]
    simp [hv]
  unfold funP at hk
  rw [hbody] at hk
  simp only at hk
  split at hk
  · cases hk
  rename_i ops hh
  have hpar := encPs_par e.ps ⟨List.replicate fn.ntmps (.l .unk), []⟩ hd hargs
  have hfl := argsD_nil e.ps hd hargs
  have hal := encPs_len e.ps ⟨List.replicate fn.ntmps (.l .unk), []⟩ x
  generalize (encPs ⟨List.replicate fn.ntmps (.l .unk), []⟩ e.ps x).1 = as at hk hal hpar
  split at hk
  · cases hk
  rename_i bs hbs
  have hnb' := hnb ops hh
  have htl : (ops.toList.take nb).length = nb := by simp; omega
  obtain ⟨a1, w1, k1, k2, k3, k4, k5, k6, k7⟩ := pro_some (P := C.P) (ops := ops) (as := as) (I := I) (ops.toList.take nb) 0 as.length (a := a) (w := w) (fun j o hj => by
      rw [List.getElem?_take] at hj
      split at hj
      · rw [Nat.zero_add, ← Array.getElem?_toList]; exact hj
      · cases hj) hbs (Nat.le_refl _) (by rw [htl, hsz, hal]; omega) (fun k nn t y hy => by
      obtain ⟨nn', t', z, e1, v, hv, h1, _⟩ := hpar k _ hy
      simp only [A.l.injEq, L.dat.injEq] at e1
      obtain ⟨_, rfl, e1⟩ := e1
      obtain rfl := eq_of_heq e1
      rw [hav k v hv]; exact h1) hin.acc
  rw [htl] at k6
  let E : En := ⟨w1, fun b => I b ∨ (w.heap.size ≤ b ∧ b < w1.heap.size), fun _ => False, fun _ => False, fun t => t ∉ wrP nb c, fun t => a1.tmps.getD t undef⟩
  have accI : ∀ b, I b ∨ (w.heap.size ≤ b ∧ b < w1.heap.size) → b < w1.heap.size := fun b hb => by
    rcases hb with hb | hb
    · exact Nat.lt_of_lt_of_le (hin.acc b hb) k2.size
    · exact hb.2
  have hall : ∀ (i : Nat) (x : A), (as ++ bs)[i]? = some x → ∃ l, x = .l l ∧ ∀ (N : Nat) (G : Gh), VL (fun b => I b ∨ (w.heap.size ≤ b ∧ b < w1.heap.size)) N G w1 l (a1.tmps.getD i undef) := fun i x hx => by
    by_cases hi : i < as.length
    · rw [List.getElem?_append_left hi] at hx
      obtain ⟨nn, t, z, e1, v, hv, h1, h2⟩ := hpar i x hx
      refine ⟨_, e1, fun N G => ?_⟩
      rw [k5 i (.inl hi), hav i v hv]
      exact ⟨h1.mono (fun b hb => .inl hb) fun b hb => k2.block b (hin.acc b hb), h2⟩
    · rw [List.getElem?_append_right (by omega)] at hx
      obtain ⟨l, e1, e2⟩ := k7 (i - as.length) x hx
      refine ⟨l, e1, fun N G => ?_⟩
      have := e2 N G
      rwa [show as.length + (i - as.length) = i from by omega] at this
  have hp : Par E (as ++ bs) := ⟨fun i x hx => .inr (hpw i (by have := (List.getElem?_eq_some_iff.1 hx).1; rw [List.length_append, hal, k6] at this; exact this)), fun i x hx => by
    obtain ⟨l, e1, e2⟩ := hall i x hx
    refine ⟨l, e1, fun N G => VL.keep (N := N) (G := G) ⟨fun b hb => ⟨accI b hb, hb, fun h => h, fun h => h⟩, fun _ _ => rfl, Nat.le_refl _, fun _ _ => rfl⟩ l (e2 N G)⟩⟩
  have hstart : RelG E (fun _ => (undef, [])) { env := (as ++ bs) ++ List.replicate (fn.ntmps - (as.length + bs.length)) (.l .unk), hp := [] } a1 w1 :=
    { defers := k3
      len := by rw [k4, hsz]; simp only [List.length_append, List.length_replicate, hal, k6]; omega
      env := fun t x hx => by
        have hx : ((as ++ bs) ++ List.replicate (fn.ntmps - (as.length + bs.length)) (.l .unk))[t]? = some x := hx
        by_cases ht : t < (as ++ bs).length
        · rw [List.getElem?_append_left ht] at hx
          obtain ⟨l, rfl, e2⟩ := hall t x hx
          exact VL.keep (N := 0) (G := fun _ => (undef, [])) ⟨fun b hb => ⟨accI b hb, fun _ => hb, fun id o ho => by simp [Sg.ob] at ho⟩, fun _ _ => rfl, Nat.le_refl _, fun _ _ => rfl⟩ l (e2 0 _)
        · rw [List.getElem?_append_right (by omega), List.getElem?_replicate] at hx
          split at hx
          · obtain rfl := Option.some.inj hx; trivial
          · cases hx
      obs := fun id o ho => by simp [Sg.ob] at ho
      nodup := fun id o ho => by simp [Sg.ob] at ho
      range := fun id o ho => by simp [Sg.ob] at ho
      hrange := fun id o ho => by simp [Sg.ob] at ho
      disj := fun id id' o o' ho => by simp [Sg.ob] at ho
      os := rfl
      tape := rfl
      output := .refl _
      size := Nat.le_refl _
      frame := fun _ _ _ => rfl
      xa := fun b hb => hb.elim
      fixd := fun _ _ => rfl }
  refine calls_of_wp hf hbody ?_
  refine topP_some (E := E) hC hM hp (fun b hb => hb) hnb' (fun Q h => by
    have := k1 Q (List.range' nb (ops.size - nb)) h
    rw [htl] at this
    have e3 : List.range' 0 nb ++ List.range' nb (ops.size - nb) = List.range ops.size := by
      rw [List.range_eq_range']
      have := List.range'_append_1 (s := 0) (m := nb) (n := ops.size - nb)
      rw [Nat.zero_add] at this
      rw [this]; congr 1; omega
    rwa [e3] at this) hstart c hh (fun t ht hf => hf ht) hk _ fun ex σ' a' w' G' hk2 hr => ?_
  have fin : (resK C σ' fn.results.toList fun vs => ioK e.ps 0 (frzSs e.rs vs σ') fun o σ => decSs e.rs vs σ fun r _ => some (resJ (hasIo e.ps) r o)) = some r → a'.defers = [] ∧ ∃ v, (results fn a'.tmps).run C.P w' = .ok v w' ∧
      ∃ (I' : Nat → Prop) (rvs : List Value) (rbss ibss : List (List Nat)), Ending.returned v = .returned (retV rvs) ∧ CallOut I w w' bss (ibss ++ rbss) I' ∧
      SVs I' w' e.rs (resB (hasIo e.ps) r).1 rvs rbss ∧ ((resB (hasIo e.ps) r).2 = none → ibss = []) ∧ ∀ o, (resB (hasIo e.ps) r).2 = some o → IoV I' w' e.ps o vs ibss := fun hk3 => by
    refine ⟨hr.defers, ?_⟩
    obtain ⟨xs, rvs, k1', k2', k3', k4'⟩ := resK_some hr _ hk3
    have f := frzSs_frz e.rs xs σ'
    have hr2 := f.rel hr
    generalize frzSs e.rs xs σ' = σ2 at k1' f hr2
    have noio : ∀ (ps : List PM) (p : PM) (j : Nat), ps.all isD = true → ps[j]? = some p → isIo p = true → False := fun ps p j h1 h2 h3 => by
      have := List.all_eq_true.1 h1 p (List.mem_of_getElem? h2)
      cases p <;> simp_all [isD, isIo]
    obtain ⟨o, σ3, new1, ibss, q1, q2, q3⟩ := ioK_some hr2 e.ps 0 (vs := vs) (Gone.refl _) (by simp [Mine]) hvl (fun j p v hp hi hv => (noio e.ps p j hd hp hi).elim) k1'
    obtain ⟨y, σ4, new2, rbss, q4, q5, hsv⟩ := decSs_some e.rs hr2 q2.gone (by simpa using q2.mine) q1 (k2'.keep f.keep _)
    obtain rfl := Option.some.inj q4
    have tk := Took.trans hr2 q2 q5
    obtain ⟨z1, z2, z3⟩ := resB_resJ (hasIo e.ps) y o
    refine ⟨_, run_results k3' k4', Imm E G' σ2 w', rvs, rbss, ibss, rfl, ?_, ?_, fun hno => IoV.noIo e.ps (z2 hno) q3, fun o' ho => ?_⟩
    · have had := tk.cls.adm hr2 tk.mine (U := fun _ => False) (fun _ _ _ _ hf => hf)
      have lt1 : ∀ b, b < w.heap.size → b < w1.heap.size := fun b hb => Nat.lt_of_lt_of_le hb k2.size
      exact ⟨hr2.os.trans k2.os, hr2.tape.trans k2.tape, hr2.output.trans k2.output, Nat.le_trans k2.size hr2.size, fun b hb hh => (hr2.frame b (lt1 b hb) fun h => h).trans (k2.block b hb), fun b hb => ⟨hb.1, fun hlt => by
          rcases hb.2.1 (lt1 b hlt) with h | h
          · exact .inl h
          · omega⟩, had.nodup,
        fun b hb => ⟨(had.range b hb).1, fun hlt => ((had.range b hb).2.1 (lt1 b hlt)).elim⟩, fun bs hbs b hb => ⟨(had.head bs hbs b hb).2, fun hlt => ((had.head bs hbs b hb).1 (lt1 b hlt)).elim⟩⟩
    · rw [z1]; exact hsv
    · rw [z3 o' ho]; exact q3
  cases ex with
  | normal => exact fin hk2
  | ret => exact fin hk2
  | exit id => simp at hk2

end


def okLawP (nb : Nat) (fn : Func) (ps : List PM) : Bool := ps.all isD && (match fn.body with
  | some c => (match headOps c with
    | some ops => decide (nb ≤ ops.size)
    | none => true) && decide (ps.length + nb ≤ fn.ntmps) && (List.range (ps.length + nb)).all fun i => !(wrP nb c).contains i
  | none => false)

theorem mkLawP {C : Ctx} {M : List MarkE} {e : CallE} {fn : Func} (nb : Nat) (hm : C.P.follows .mixedOrders = true) (h : AllC C.P C.O) (hM : AllM C.P M) (hf : C.P.funcs[e.f]? = some fn) (hok : okFn fn [] = true) (hlw : okLawP nb fn e.ps = true)
    (hF : ∀ x, funP C M nb fn e.ps e.rs x = e.F x) (hi : AllI C.P C.I := by trivial) : FnOk C.P e.f ∧ Ctr C.P e := by
  unfold okFn at hok
  unfold okLawP at hlw
  simp only [Bool.and_eq_true, Bool.not_eq_true', decide_eq_true_eq] at hok hlw
  obtain ⟨⟨h1, h2⟩, h3⟩ := hok
  obtain ⟨g1, g2⟩ := hlw
  split at h2
  · rename_i c hc
    rw [hc] at g2
    simp only [Bool.and_eq_true, decide_eq_true_eq] at g2
    obtain ⟨⟨g2, g3⟩, g4⟩ := g2
    exact funP_ctr (ctrs_of hm h hi) (allM hM) hf h1 hc g3 (fun ops ho => by rw [ho] at g2; simpa using g2) g1 (fun i hi hm => by
      have := List.all_eq_true.1 g4 i (List.mem_range.2 hi)
      simp at this
      exact this hm) fun x r hx => (hF x).trans hx
  · simp at h2

end Go.Proofs.Ytdkkjgbgodnopaa.Eng
