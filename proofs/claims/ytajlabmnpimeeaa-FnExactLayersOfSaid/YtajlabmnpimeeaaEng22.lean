/-
  The engine, part 22. Regions in their written order. No condition.
-/
import Derived.Test.YtajlabmnpimeeaaEng21
namespace Go.Proofs.Ytajlabmnpimeeaa.Eng
open Go
set_option linter.unusedVariables false
set_option linter.unusedSimpArgs false

/-- What code leaves alone: slots that it does not write, frozen objects. -/
structure Kc (ws : List Nat) (σ σ' : Sg) : Prop where
  n : σ.hp.length ≤ σ'.hp.length
  len : σ'.env.length = σ.env.length
  env : ∀ t, t ∉ ws → σ'.env[t]? = σ.env[t]?
  ob : ∀ id o, σ.ob id = some o → o.ro = true → σ'.ob id = some o

theorem Kc.refl (ws : List Nat) (σ : Sg) : Kc ws σ σ := ⟨Nat.le_refl _, rfl, fun _ _ => rfl, fun _ _ h _ => h⟩
theorem Kc.trans {ws : List Nat} {a b c : Sg} (h : Kc ws a b) (k : Kc ws b c) : Kc ws a c :=
  ⟨Nat.le_trans h.n k.n, k.len.trans h.len, fun t ht => (k.env t ht).trans (h.env t ht), fun id o ho hr => k.ob id o (h.ob id o ho hr) hr⟩
theorem Kc.mono {ws ws' : List Nat} {a b : Sg} (h : Kc ws a b) (hs : ∀ t ∈ ws, t ∈ ws') : Kc ws' a b :=
  ⟨h.n, h.len, fun t ht => h.env t fun hm => ht (hs t hm), h.ob⟩
theorem Kp.kc {ws : List Nat} {a b : Sg} (h : Kp a b) : Kc ws a b := ⟨h.n, by rw [h.env], fun t _ => by rw [h.env], h.ob⟩

section
variable {ρ : Type} {C : Ctx} {E : En} {G : Gh} {σ : Sg} {a : Act} {w : World}

theorem Kc.set (σ : Sg) (d : Nat) (x : A) {ws : List Nat} (hd : d ∈ ws) : Kc ws σ { σ with env := σ.env.set d x } :=
  ⟨Nat.le_refl _, by simp, fun t ht => by
    simp only [List.getElem?_set]
    rw [if_neg]
    intro e; subst e; exact ht hd, fun _ _ h _ => h⟩

theorem putK_some {d : Option Tmp} {x : A} {k : Sg → Option ρ} {r : ρ} {v : Value} {ws : List Nat} (h : RelG E G σ a w) (hk : putK σ d x k = some r) (hv : VA (Imm E G σ w) σ.hp.length G w x v) (hd : ∀ t, d = some t → t ∈ ws ∧ ¬ E.F t) :
    ∃ σ', k σ' = some r ∧ RelG E G σ' (a.put d v) w ∧ Kc ws σ σ' ∧ GA E σ σ' G G w w := by
  cases d with
  | none => exact ⟨σ, hk, h, Kc.refl _ _, GA.refl _ _ _ _⟩
  | some d =>
    simp only [putK, setK_eq] at hk
    exact ⟨_, hk, h.put d hv (hd d rfl).2, Kc.set σ d x (hd d rfl).1, GA.refl E σ G w⟩

/-- A slot that holds what is said. -/
theorem RelG.refine (h : RelG E G σ a w) (d : Nat) {x : A} (hv : VA (Imm E G σ w) σ.hp.length G w x (a.tmps.getD d undef)) : RelG E G { σ with env := σ.env.set d x } a w := by
  refine { h with len := by simp [h.len], env := fun t y hy => ?_ }
  show VA (Imm E G σ w) σ.hp.length G w y _
  simp only [List.getElem?_set] at hy
  by_cases ht : d = t
  · subst ht
    simp only [if_true] at hy
    split at hy
    · obtain rfl := Option.some.inj hy; exact hv
    · simp at hy
  · simp only [ht, if_false] at hy; exact h.env t y hy

/-- What one operation's step must give. -/
def StepOk (C : Ctx) (E : En) (G : Gh) (σ : Sg) (ws : List Nat) (k : Sg → Option ρ) (r : ρ) (ops : Array Oper) (o : Oper) (a : Act) (w : World) : Prop :=
  ∀ (next : Act → World → Prop) (Q : Exit → Act → World → Prop),
    (∀ σ' a' w' G', k σ' = some r → RelG E G' σ' a' w' → Kc ws σ σ' → GA E σ σ' G G' w w' → next a' w') →
    if Region.wanted o (yielded ops a.tmps) then o.wp C.P a w next Q else next (a.put o.dst undef) w

theorem opStep {ws : List Nat} {k : Sg → Option ρ} {r : ρ} {o : Oper} (hC : Ctrs C) (h : RelG E G σ a w) (hk : (opK C σ o.op fun v σ => putK σ o.dst v k) = some r) (hd : ∀ t, o.dst = some t → t ∈ ws ∧ ¬ E.F t)
    (next : Act → World → Prop) (Q : Exit → Act → World → Prop) (hn : ∀ σ' a' w' G', k σ' = some r → RelG E G' σ' a' w' → Kc ws σ σ' → GA E σ σ' G G' w w' → next a' w') : o.wp C.P a w next Q := by
  have hop := opK_some (a := a) (w := w) hC h hk
  obtain ⟨v, σ', hk', kp, hx⟩ := hop
  unfold Oper.wp
  generalize (execOp a.eval o).run C.P w = x at hx
  have fin : ∀ {G' : Gh} {w' : World} {val : Value}, RelG E G' σ' a w' → GA E σ σ' G G' w w' → VA (Imm E G' σ' w') σ'.hp.length G' w' v val → next (a.put o.dst val) w' := fun h1 hg h2 => by
    obtain ⟨σ2, h3, h4, h5, h6⟩ := putK_some h1 hk' h2 hd
    exact hn σ2 _ _ _ h3 h4 (kp.kc.trans h5) (hg.trans h6)
  cases x with
  | ok n w' =>
    cases n <;> simp only at hx <;> first | exact hx.elim | skip
    · obtain ⟨G', h1, hg, h2⟩ := hx
      exact fin h1 hg h2
    · obtain ⟨rfl, G', h1, hg⟩ := hx
      exact fin h1 hg trivial
    · rename_i f args
      show Calls C.P f args w' _
      refine Calls.mono hx fun e w'' he => ?_
      obtain ⟨val, rfl, G', h1, hg, h2⟩ := he
      exact fin h1 hg h2
  | halt e w' => exact hx.elim

theorem operK_some {ws : List Nat} {ops : Array Oper} {k : Sg → Option ρ} {r : ρ} {o : Oper} (hC : Ctrs C) (h : RelG E G σ a w) (hk : operK C ops σ o k = some r) (hd : ∀ t, o.dst = some t → t ∈ ws ∧ ¬ E.F t)
    (hg : ∀ j b t, o.guard = some (j, b) → (ops[j]?).bind (·.dst) = some t → t ∈ ws) : StepOk C E G σ ws k r ops o a w := by
  intro next Q hn
  unfold operK at hk
  split at hk
  · rename_i hgd
    have : Region.wanted o (yielded ops a.tmps) = true := by simp [Region.wanted, hgd]
    rw [if_pos this]
    exact opStep hC h hk hd next Q hn
  · rename_i j want hgd
    split at hk
    · rename_i d hdj
      split at hk
      · rename_i nn b hget
        have hv := h.get (.tmp d)
        rw [hget] at hv
        have hb := datBool hv
        simp only [Act.eval] at hb
        have hy : yielded ops a.tmps j = some b := by
          unfold yielded
          rw [hdj]
          simp only [Option.bind_some]
          cases ht : a.tmps[d]? with
          | none => rw [Array.getD_eq_getD_getElem?, ht] at hb; simp [undef] at hb
          | some u =>
            rw [Array.getD_eq_getD_getElem?, ht] at hb
            simp only [Option.getD_some] at hb
            subst hb; rfl
        have hw : Region.wanted o (yielded ops a.tmps) = (b == want) := by
          simp only [Region.wanted, hgd, hy]
          cases b <;> cases want <;> rfl
        have hdw : d ∈ ws := hg j want d hgd hdj
        have ref : RelG E G { σ with env := σ.env.set d (boolA b) } a w := h.refine d (by
          show VA _ _ _ _ (boolA b) _
          rw [hb]; exact boolVA)
        have kset : Kc ws σ { σ with env := σ.env.set d (boolA b) } := Kc.set σ d _ hdw
        have go : ∀ k' : Sg → Option ρ, putK σ (some d) (boolA b) k' = k' { σ with env := σ.env.set d (boolA b) } := fun k' => by simp only [putK, setK_eq]
        have run : (opK C { σ with env := σ.env.set d (boolA b) } o.op fun v σ => putK σ o.dst v k) = some r → o.wp C.P a w next Q := fun hk =>
          opStep hC ref hk hd next Q fun σ' a' w' G' h1 h2 h3 h4 => hn σ' a' w' G' h1 h2 (kset.trans h3) h4
        have skip : putK { σ with env := σ.env.set d (boolA b) } o.dst (.l .und) k = some r → next (a.put o.dst undef) w := fun hk => by
          obtain ⟨σ2, h1, h2, h3, h4⟩ := putK_some (v := undef) ref hk rfl hd
          exact hn σ2 _ _ _ h1 h2 (kset.trans h3) h4
        rw [hw]
        cases b with
        | true =>
          simp only [cond_true] at hk
          rw [go] at hk
          cases want with
          | true => exact run hk
          | false => exact skip hk
        | false =>
          simp only [cond_false] at hk
          rw [go] at hk
          cases want with
          | true => exact skip hk
          | false => exact run hk
      · rename_i hget
        have hv := h.get (.tmp d)
        rw [hget] at hv
        have hv : a.tmps.getD d undef = undef := hv
        have hy : yielded ops a.tmps j = none := by
          unfold yielded
          rw [hdj]
          simp only [Option.bind_some]
          cases ht : a.tmps[d]? with
          | none => rfl
          | some u =>
            rw [Array.getD_eq_getD_getElem?, ht] at hv
            simp only [Option.getD_some] at hv
            subst hv; rfl
        have hw : Region.wanted o (yielded ops a.tmps) = false := by
          simp only [Region.wanted, hgd, hy]
          cases want <;> rfl
        obtain ⟨σ2, h1, h2, h3, h4⟩ := putK_some (v := undef) h hk rfl hd
        rw [hw]
        exact hn σ2 _ _ _ h1 h2 h3 h4
      · simp at hk
    · simp at hk

theorem opersK_some {ws : List Nat} {ops : Array Oper} {r : ρ} (hC : Ctrs C) : (os : List Oper) → (i : Nat) → {σ : Sg} → {G : Gh} → {a : Act} → {w : World} → {k : Sg → Option ρ} → (∀ j o, os[j]? = some o → ops[i + j]? = some o) →
    (∀ o ∈ os, (∀ t, o.dst = some t → t ∈ ws ∧ ¬ E.F t) ∧ ∀ j b t, o.guard = some (j, b) → (ops[j]?).bind (·.dst) = some t → t ∈ ws) → RelG E G σ a w → opersK C ops σ os k = some r →
    (Q : Exit → Act → World → Prop) → (∀ σ' a' w' G', k σ' = some r → RelG E G' σ' a' w' → Kc ws σ σ' → GA E σ σ' G G' w w' → Q .normal a' w') → wpOps C.P ops Q (List.range' i os.length) a w
  | [], i, σ, G, a, w, k, ho, hws, h, hk, Q, hQ => by
    simp only [opersK] at hk
    simp only [List.length_nil, List.range'_zero, wpOps]
    exact hQ σ a w G hk h (Kc.refl _ _) (GA.refl _ _ _ _)
  | o :: os, i, σ, G, a, w, k, ho, hws, h, hk, Q, hQ => by
    simp only [opersK] at hk
    simp only [List.length_cons, List.range'_succ, wpOps]
    have hoi : ops[i]? = some o := by have := ho 0 o rfl; simpa using this
    rw [hoi]
    simp only
    have hst := operK_some (a := a) (w := w) hC h hk (hws o (by simp)).1 (hws o (by simp)).2 (wpOps C.P ops Q (List.range' (i + 1) os.length)) Q fun σ' a' w' G' h1 h2 h3 h4 =>
      opersK_some hC os (i + 1) (fun j o' hj => by have := ho (j + 1) o' (by simpa using hj); rwa [show i + (j + 1) = i + 1 + j from by omega] at this) (fun o' ho' => hws o' (List.mem_cons_of_mem _ ho')) h2 h1 Q
        fun σ2 a2 w2 G2 k1 k2 k3 k4 => hQ σ2 a2 w2 G2 k1 k2 (h3.trans k3) (h4.trans k4)
    split at hst
    · rename_i hw; rw [if_pos hw]; exact .inl hst
    · rename_i hw; rw [if_neg hw]; exact hst

end
end Go.Proofs.Ytajlabmnpimeeaa.Eng
