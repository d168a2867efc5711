/-
  The engine, part 43. Calls that are run in their caller's state and leave it as it was. No condition.
-/
import Derived.Test.YtednadbkcpcmfaaEm4
namespace Go.Proofs.Ytednadbkcpcmfaa.Eng
open Go
set_option linter.unusedVariables false
set_option linter.unusedSimpArgs false
/-- Everything is frozen. -/
def allF (σ : Sg) : Sg := { env := σ.env, hp := σ.hp.map (Option.map Ob.freeze) }
/-- The call is run with everything frozen; it hands back a plain value, and the state is as it was. -/
def quietK (K : (ρ : Type) → List A → Sg → (A → Sg → Option ρ) → Option ρ) (ρ : Type) (xs : List A) (σ : Sg) (k : A → Sg → Option ρ) : Option ρ :=
  K ρ xs (allF σ) fun v _ => match v with
    | .l (.dat nn t x) => cond t.flat (k (.l (.dat nn t x)) σ) none
    | _ => none
section
variable {E : En} {G : Gh} {σ : Sg} {a : Act} {w : World}
theorem allF_ob (σ : Sg) (id : Nat) : (allF σ).ob id = (σ.ob id).map Ob.freeze := by
  simp only [allF, Sg.ob, List.getElem?_map]
  cases σ.hp[id]? <;> rfl
theorem allF_frz (σ : Sg) : Frz σ (allF σ) := by
  obtain ⟨s, f, h⟩ := frzAll σ [] σ.hp.length
  have e : s = allF σ := by
    have e1 : s.env = (allF σ).env := by
      have := f.kp.env
      rw [this]; rfl
    have e2 : s.hp = (allF σ).hp := by
      refine List.ext_getElem? fun i => ?_
      have hl : s.hp.length = (allF σ).hp.length := by rw [f.len]; simp [allF]
      by_cases hi : i < s.hp.length
      · have h1 := h i
        rw [if_pos ⟨by rw [← f.len]; exact hi, by simp⟩, ← allF_ob] at h1
        unfold Sg.ob at h1
        rw [List.getElem?_eq_getElem hi, List.getElem?_eq_getElem (by omega)] at h1 ⊢
        simpa using h1
      · rw [List.getElem?_eq_none (by omega), List.getElem?_eq_none (by omega)]
    cases s; cases h0 : allF σ; rw [h0] at e1 e2; simp only at e1 e2; rw [e1, e2]
  rw [← e]; exact f
theorem quiet_ok {D : Prop} {P : Program} {e : InE} (h : InOk D P e) : InOk D P ⟨e.f, true, quietK e.K⟩ := by
  refine ⟨fun _ xs σ σ' x hk => ?_, fun ρ xs σ k => ?_, @fun E G σ σ' a w xs vs x hd hr hv hk => ?_⟩
  · simp only [quietK] at hk
    rw [h.nat] at hk
    obtain ⟨p, h1, h2⟩ := Option.bind_eq_some_iff.1 hk
    split at h2
    · rename_i nn t y hp
      cases hf : t.flat with
      | false => rw [hf, cond_false] at h2; cases h2
      | true => rw [hf, cond_true] at h2; simp only [Option.some.injEq, Prod.mk.injEq] at h2; rw [← h2.2]; exact Kp.refl _
    · cases h2
  · simp only [quietK]
    rw [h.nat ρ, h.nat (A × Sg) xs (allF σ) (fun v _ => match v with
      | .l (.dat nn t x) => cond t.flat (some (.l (.dat nn t x), σ)) none
      | _ => none)]
    cases e.K (A × Sg) xs (allF σ) fun v s => some (v, s) with
    | none => rfl
    | some p =>
      simp only [Option.bind_some]
      split
      · rename_i nn t y hp
        cases t.flat <;> rfl
      · rfl
  · simp only [quietK] at hk
    rw [h.nat] at hk
    obtain ⟨⟨v, σ1⟩, h1, h2⟩ := Option.bind_eq_some_iff.1 hk
    simp only at h2
    split at h2
    · rename_i nn t y
      cases hf : t.flat with
      | false => rw [hf, cond_false] at h2; cases h2
      | true =>
        rw [hf, cond_true] at h2
        simp only [Option.some.injEq, Prod.mk.injEq] at h2
        obtain ⟨rfl, rfl⟩ := h2
        have f := allF_frz σ
        obtain ⟨_, hc⟩ := h.ok hd (f.rel hr) (hv.keep f.keep) h1
        refine ⟨Kp.refl _, hc.mono fun ex w' hpost => ?_⟩
        obtain ⟨val, rfl, G', hr', ga, hval⟩ := hpost
        refine ⟨val, rfl, G, ?_⟩
        have same : ∀ id o, σ.ob id = some o → o.ro = false → ∀ b ∈ (G id).2, w'.heap[b]? = w.heap[b]? := fun id o ho hro b hb => by
          refine ga.heap b ⟨(hr.range id o ho hro b hb).1, fun hB => hr.xa.a b ((hr.range id o ho hro b hb).2 hB), fun i q hq hqr => ?_⟩
          rw [allF_ob] at hq
          obtain ⟨q', _, rfl⟩ := Option.map_eq_some_iff.1 hq
          rw [freeze_ro] at hqr; cases hqr
        have hsz : w.heap.size ≤ w'.heap.size := by
          by_cases h0 : w.heap.size = 0
          · omega
          · by_cases hB : w.heap.size ≤ E.B
            · exact Nat.le_trans hB hr'.size
            · have := (ga.imm (w.heap.size - 1) ⟨by omega, fun hb => by omega, fun i q hq hqr => by
                rw [allF_ob] at hq
                obtain ⟨q', _, rfl⟩ := Option.map_eq_some_iff.1 hq
                rw [freeze_ro] at hqr; cases hqr⟩).1
              omega
        have keep : Keep (Imm E G σ w) (Imm E G σ w') σ.hp.length σ.hp.length G G w w' := ⟨fun b hb => ⟨Nat.lt_of_lt_of_le hb.1 hsz, hb.2⟩, fun b hb => ga.heap b (f.keep.imm b hb), Nat.le_refl _, fun _ _ => rfl⟩
        refine ⟨{ defers := hr.defers, len := hr.len, env := fun t x hx => (hr.env t x hx).keep keep x, obs := fun id o ho => (hr.obs id o ho).keep keep (Sg.ob_lt ho) rfl o (same id o ho), nodup := hr.nodup,
                  range := fun id o ho hro b hb => ⟨Nat.lt_of_lt_of_le (hr.range id o ho hro b hb).1 hsz, (hr.range id o ho hro b hb).2⟩, hrange := hr.hrange, disj := hr.disj,
                  os := hr'.os, tape := hr'.tape, output := hr'.output, size := hr'.size, frame := hr'.frame, xa := hr.xa, fixd := hr.fixd }, keep, ?_⟩
        obtain ⟨⟨cs, k1, k2⟩, k3⟩ := hval
        exact ⟨⟨cs, flat_RdC t hf k1, k2⟩, k3⟩
    · cases h2
theorem mkQuiet {D : Prop} {C : Ctx} {fn : Func} {f : FuncId} (hm : C.P.follows .mixedOrders = true) (h : AllC D C.P C.O) (hf : C.P.funcs[f]? = some fn) (hok : okFn fn [] = true) (hi : AllI D C.P C.I := by trivial) : FnOk C.P f ∧ InOk D C.P ⟨f, true, quietK (inlK C fn)⟩ := by
  obtain ⟨h1, h2⟩ := mkInl hm h hf hok hi
  exact ⟨h1, quiet_ok h2⟩
end
section
variable {ρ : Type} {C : Ctx} {E : En} {G : Gh} {σ : Sg} {a : Act} {w : World} {I : Nat → Prop}
end
end Go.Proofs.Ytednadbkcpcmfaa.Eng
