/-
  The engine, part 25. Functions. No condition.
-/
import Derived.Test.YtajlabmnpimeeaaEng24
namespace Go.Proofs.Ytajlabmnpimeeaa.Eng
open Go
set_option linter.unusedVariables false
set_option linter.unusedSimpArgs false

section
variable {ρ : Type} {C : Ctx} {E : En} {G : Gh} {σ σF : Sg} {a : Act} {w : World} {I U : Nat → Prop}

theorem encP_some (h : Pre E I U G σ a w) : (p : PM) → {y : p.den} → {v : Value} → {bs : List Nat} → ArgV I w p y v bs → Adm E I U w [bs] →
    ∃ G', Pre E I (fun b => U b ∨ b ∈ bs) G' (encP σ p y).2 a w ∧ VA I (encP σ p y).2.hp.length G' w (encP σ p y).1 v ∧ Grow σ (encP σ p y).2 G G'
  | .d nn t, y, v, bs, hv, ha => ⟨G, h.wide fun _ hb => .inl hb, ⟨hv.1, hv.2.1⟩, Grow.refl _ _⟩
  | .f f, y, v, bs, hv, ha => ⟨G, h.wide fun _ hb => .inl hb, hv.1, Grow.refl _ _⟩
  | .mv dp e t, y, v, bs, hv, ha => by
    obtain ⟨G', h1, h2, h3⟩ := h.add (.own false dp e t y) v bs rfl ha (fun G' _ hn => by simp only [OR, hn]; exact hv)
    exact ⟨G', h1, ⟨by simp [encP], by rw [h2], OwnV.one hv⟩, h3⟩
  | .io dp e t, y, v, bs, hv, ha => by
    obtain ⟨G', h1, h2, h3⟩ := h.add (.own false dp e t y) v bs rfl ha (fun G' _ hn => by simp only [OR, hn]; exact hv)
    exact ⟨G', h1, ⟨by simp [encP], by rw [h2], OwnV.one hv⟩, h3⟩

theorem encPs_some : (ps : List PM) → {σ : Sg} → {G : Gh} → {U : Nat → Prop} → Pre E I U G σ a w → {y : PMs.den ps} → {vs : List Value} → {bss : List (List Nat)} → ArgsV I w ps y vs bss → Adm E I U w bss →
    ∃ G', Pre E I (fun b => U b ∨ b ∈ bss.flatten) G' (encPs σ ps y).2 a w ∧ VAs I (encPs σ ps y).2.hp.length G' w (encPs σ ps y).1 vs ∧ Grow σ (encPs σ ps y).2 G G'
  | [], σ, G, U, h, y, [], bss, hv, ha => ⟨G, h.wide fun _ hb => .inl hb, trivial, Grow.refl _ _⟩
  | [p], σ, G, U, h, y, [v], bss, hv, ha => by
    obtain ⟨bs, rfl, hv⟩ := hv
    obtain ⟨G', h1, h2, h3⟩ := encP_some h p hv ha
    exact ⟨G', h1.wide fun b hb => hb.imp (fun h => h) fun h => by simpa using h, ⟨h2, trivial⟩, h3⟩
  | p :: p' :: r, σ, G, U, h, y, v :: vs, bss, hv, ha => by
    obtain ⟨bs, rest, rfl, hv, hvs⟩ := hv
    obtain ⟨G', h1, h2, h3⟩ := encP_some h p hv ha.single
    obtain ⟨G2, k1, k2, k3⟩ := encPs_some (p' :: r) h1 hvs ha.tail
    refine ⟨G2, k1.wide fun b hb => ?_, ⟨h2.keep k3.keep _, k2⟩, h3.trans k3⟩
    rw [List.flatten_cons, List.mem_append]
    rcases hb with (hb | hb) | hb
    · exact .inl hb
    · exact .inr (.inl hb)
    · exact .inr (.inr hb)
  | [], _, _, _, _, _, _ :: _, _, hv, _ => hv.elim
  | [_], _, _, _, _, _, [], _, hv, _ => hv.elim
  | [_], _, _, _, _, _, _ :: _ :: _, _, hv, _ => hv.elim
  | _ :: _ :: _, _, _, _, _, _, [], _, hv, _ => hv.elim

/-- A result's value. -/
def resM (tmps : Array Value) : ResultVar → Sem Value
  | .tmp t => pure (tmps.getD t undef)
  | .cell a t => do loadVar t (← asAddr (tmps.getD a undef))

theorem run_mapM {P : Program} {α : Type} {f : α → Sem Value} : (l : List α) → {vs : List Value} → (vs.length = l.length) → (∀ (i : Nat) (x : α) (v : Value), l[i]? = some x → vs[i]? = some v → (f x).run P w = .ok v w) → (l.mapM f).run P w = .ok vs w
  | [], [], _, _ => by simp
  | x :: l, v :: vs, hl, h => by
    have h1 := h 0 x v rfl rfl
    have h2 := run_mapM l (vs := vs) (by simpa using hl) fun i y u hi hu => h (i + 1) y u (by simpa using hi) (by simpa using hu)
    simp [List.mapM_cons, h1, h2]
  | [], _ :: _, hl, _ => by simp at hl
  | _ :: _, [], hl, _ => by simp at hl

theorem resK_some (h : RelG E G σ a w) : (l : List ResultVar) → {k : List A → Option ρ} → {r : ρ} → resK C σ l k = some r →
    ∃ as vs, k as = some r ∧ VAs (Imm E G σ w) σ.hp.length G w as vs ∧ vs.length = l.length ∧ ∀ (i : Nat) (x : ResultVar) (v : Value), l[i]? = some x → vs[i]? = some v → (resM a.tmps x).run C.P w = .ok v w
  | [], k, r, hk => ⟨[], [], hk, trivial, rfl, fun i x v hi => by simp at hi⟩
  | .tmp t :: l, k, r, hk => by
    simp only [resK] at hk
    obtain ⟨as, vs, h1, h2, h3, h4⟩ := resK_some h l hk
    refine ⟨_ :: as, a.tmps.getD t undef :: vs, h1, ⟨h.get (.tmp t), h2⟩, by simp [h3], fun i x v hi hv => ?_⟩
    cases i with
    | zero => simp at hi hv; subst hi; subst hv; simp [resM]
    | succ i => exact h4 i x v (by simpa using hi) (by simpa using hv)
  | .cell c t :: l, k, r, hk => by
    simp only [resK] at hk
    split at hk
    · rename_i id j hg
      have hv := h.get (.tmp c)
      rw [hg] at hv
      obtain ⟨z, u, h1, h2, h3⟩ := loadK_some h hk hv
      obtain ⟨as, vs, k1, k2, k3, k4⟩ := resK_some h l h1
      obtain ⟨_, b, _, hp⟩ := hv
      simp only [Act.eval] at hp h2
      refine ⟨_, u :: vs, k1, ⟨h3, k2⟩, by simp [k3], fun i x v hi hv => ?_⟩
      cases i with
      | zero =>
        simp at hi hv; subst hi; subst hv
        simp only [resM]
        rw [hp] at h2 ⊢
        simpa [Instr.loadAt, Instr.sureAddr, asAddr] using h2
      | succ i => exact k4 i x v (by simpa using hi) (by simpa using hv)
    · simp at hk

theorem run_results {fn : Func} {tmps : Array Value} {vs : List Value} (hl : vs.length = fn.results.toList.length) (h : ∀ (i : Nat) (x : ResultVar) (v : Value), fn.results.toList[i]? = some x → vs[i]? = some v → (resM tmps x).run C.P w = .ok v w) :
    (results fn tmps).run C.P w = .ok (retV vs) w := by
  have hm := run_mapM (P := C.P) (w := w) (f := resM tmps) fn.results.toList hl h
  have e1 : results fn tmps = (do
      let us ← fn.results.mapM (resM tmps)
      pure (if h : us.size = 1 then us[0] else .tuple us)) := by
    unfold results
    congr 1
  rw [e1, Array.mapM_eq_mapM_toList]
  simp only [Sem.run_bind, Sem.run_map, hm, Result.andThen_ok, Sem.run_pure]
  match vs with
  | [] => simp [retV]
  | [v] => simp [retV]
  | v :: v' :: vs => simp [retV]

theorem encPs_len : (ps : List PM) → (σ : Sg) → (y : PMs.den ps) → (encPs σ ps y).1.length = ps.length
  | [], _, _ => rfl
  | [p], _, _ => rfl
  | p :: p' :: r, σ, y => by simp only [encPs, List.length_cons]; rw [encPs_len (p' :: r)]; rfl

def isIo : PM → Bool
  | .io _ _ _ => true
  | _ => false

theorem ioK_some (h : RelG E G σ a w) : (ps : List PM) → (i : Nat) → {ids : List Nat} → {σ' : Sg} → {k : PMo.den ps → Sg → Option ρ} → {r : ρ} → {vs : List Value} → Gone σ σ' ids → Mine σ ids → vs.length = ps.length →
    (∀ (j : Nat) (p : PM) (v : Value), ps[j]? = some p → isIo p = true → vs[j]? = some v → a.tmps.getD (i + j) undef = v) → ioK ps i σ' k = some r →
    ∃ o σ2 new bss, k o σ2 = some r ∧ Took G σ σ2 ids new bss ∧ IoV (Imm E G σ w) w ps o vs bss
  | [], i, ids, σ', k, r, [], hg, hm, _, _, hk => ⟨(), σ', [], [], hk, Took.none hg, rfl⟩
  | .io dp e t :: ps, i, ids, σ', k, r, v :: vs, hg, hm, hl, hv, hk => by
    simp only [ioK] at hk
    have hva := h.get (.tmp i)
    have h0 := hv 0 _ v rfl rfl rfl
    simp only [Act.eval, Nat.add_zero] at hva h0
    rw [h0] at hva
    have hge : getA σ' (.tmp i) = getA σ (.tmp i) := by simp [getA, hg.env]
    rw [hge] at hk
    obtain ⟨y, σ2, new, bss, h1, h2, h3⟩ := decS_some h hg hm hk hva
    obtain ⟨bs, rfl, h3⟩ := h3
    obtain ⟨o, σ3, n2, b2, k1, k2, k3⟩ := ioK_some h ps (i + 1) (vs := vs) h2.gone (hm.append h2.mine) (by simpa using hl) (fun j p v hp hi hj => by
      have := hv (j + 1) p v (by simpa using hp) hi (by simpa using hj)
      rwa [show i + (j + 1) = i + 1 + j from by omega] at this) h1
    exact ⟨(y, o), σ3, new ++ n2, [bs] ++ b2, k1, Took.trans h h2 k2, bs, b2, rfl, h3, k3⟩
  | .d _ _ :: ps, i, ids, σ', k, r, v :: vs, hg, hm, hl, hv, hk => by
    simp only [ioK] at hk
    exact ioK_some h ps (i + 1) (vs := vs) hg hm (by simpa using hl) (fun j p v hp hi hj => by
      have := hv (j + 1) p v (by simpa using hp) hi (by simpa using hj)
      rwa [show i + (j + 1) = i + 1 + j from by omega] at this) hk
  | .f _ :: ps, i, ids, σ', k, r, v :: vs, hg, hm, hl, hv, hk => by
    simp only [ioK] at hk
    exact ioK_some h ps (i + 1) (vs := vs) hg hm (by simpa using hl) (fun j p v hp hi hj => by
      have := hv (j + 1) p v (by simpa using hp) hi (by simpa using hj)
      rwa [show i + (j + 1) = i + 1 + j from by omega] at this) hk
  | .mv _ _ _ :: ps, i, ids, σ', k, r, v :: vs, hg, hm, hl, hv, hk => by
    simp only [ioK] at hk
    exact ioK_some h ps (i + 1) (vs := vs) hg hm (by simpa using hl) (fun j p v hp hi hj => by
      have := hv (j + 1) p v (by simpa using hp) hi (by simpa using hj)
      rwa [show i + (j + 1) = i + 1 + j from by omega] at this) hk
  | [], _, _, _, _, _, _ :: _, _, _, hl, _, _ => by simp at hl
  | _ :: _, _, _, _, _, _, [], _, _, hl, _, _ => by simp at hl

theorem IoV.noIo {I : Nat → Prop} : (ps : List PM) → {y : PMo.den ps} → {vs : List Value} → {bss : List (List Nat)} → hasIo ps = false → IoV I w ps y vs bss → bss = []
  | [], y, [], bss, _, h => h
  | .io _ _ _ :: _, y, v :: vs, bss, hn, h => by simp [hasIo] at hn
  | .d _ _ :: ps, y, v :: vs, bss, hn, h => IoV.noIo ps (by simpa [hasIo] using hn) h
  | .f _ :: ps, y, v :: vs, bss, hn, h => IoV.noIo ps (by simpa [hasIo] using hn) h
  | .mv _ _ _ :: ps, y, v :: vs, bss, hn, h => IoV.noIo ps (by simpa [hasIo] using hn) h
  | [], y, _ :: _, bss, _, h => h.elim
  | _ :: _, y, [], bss, _, h => by simp [IoV] at h

theorem resB_resJ {R O : Type} (b : Bool) (r : R) (o : O) : (resB b (resJ b r o)).1 = r ∧ ((resB b (resJ b r o)).2 = none → b = false) ∧ ∀ o', (resB b (resJ b r o)).2 = some o' → o' = o := by
  cases b <;> simp [resB, resJ]

/-- A function whose code the evaluator runs has the contract of the plain function. -/
theorem funK_ctr (hC : Ctrs C) {e : CallE} {fn : Func} {c : Code} (hf : C.P.funcs[e.f]? = some fn) (hname : (fn.name == "runtime.NumGoroutine") = false) (hbody : fn.body = some c) (hn : e.ps.length ≤ fn.ntmps)
    (hio : ∀ (i : Nat) (p : PM), e.ps[i]? = some p → isIo p = true → i ∉ wrC c) (hF : ∀ x r, e.F x = some r → funK C fn e.ps e.rs x = some r) : FnOk C.P e.f ∧ Ctr C.P e := by
  refine ⟨⟨fn, c, hf, hname, hbody⟩, fun x r hx I w vs bss hin hargs => ?_⟩
  have hk := hF x r hx
  have hvl : vs.length = e.ps.length := by
    have : ∀ (ps : List PM) (y : PMs.den ps) (vs : List Value) (bss : List (List Nat)), ArgsV I w ps y vs bss → vs.length = ps.length := by
      intro ps
      induction ps with
      | nil => intro y vs bss h; cases vs with
        | nil => rfl
        | cons _ _ => exact h.elim
      | cons p ps ih =>
        intro y vs bss h
        cases ps with
        | nil => match vs, h with
          | [v], _ => rfl
        | cons p' r => match vs, h with
          | v :: vs, ⟨b1, b2, _, _, h⟩ => simp only [List.length_cons]; rw [ih _ _ _ h]; rfl
    exact this _ _ _ _ hargs
  let a : Act := { tmps := vs.toArray ++ Array.replicate (fn.ntmps - vs.toArray.size) undef, defers := [] }
  let E : En := ⟨w, fun b => I b ∨ b ∈ bss.flatten, fun b => b ∈ bss.flatten, fun b => ∃ bs ∈ bss, bs.head? = some b, fun t => t ∉ wrC c, fun t => a.tmps.getD t undef⟩
  have hsz : a.tmps.size = fn.ntmps := by simp [a]; omega
  have h0 : Pre E I (fun _ => False) (fun _ => (undef, [])) ⟨List.replicate fn.ntmps (.l .unk), []⟩ a w :=
    { defers := rfl
      len := by rw [hsz]; simp
      env := fun t x hx => by
        rw [List.getElem?_replicate] at hx
        split at hx
        · obtain rfl := Option.some.inj hx; trivial
        · simp at hx
      obs := fun id o ho => by simp [Sg.ob] at ho
      nodup := fun id o ho => by simp [Sg.ob] at ho
      range := fun id o ho => by simp [Sg.ob] at ho
      hrange := fun id o ho => by simp [Sg.ob] at ho
      disj := fun id id' o o' ho => by simp [Sg.ob] at ho
      os := rfl
      tape := rfl
      output := rfl
      size := Nat.le_refl _
      frame := fun _ _ _ => rfl
      xa := fun b hb => .inr hb
      fixd := fun _ _ => rfl
      acc := fun b hb => ⟨hin.acc b hb, fun _ => .inl hb⟩ }
  have hadm : Adm E I (fun _ => False) w bss := ⟨hin.nodup, fun b hb => ⟨hin.range b hb, fun _ => hb, fun hf => hf⟩, fun bs hbs b hb => ⟨fun _ => ⟨bs, hbs, hb⟩, hin.head bs hbs b hb⟩⟩
  obtain ⟨G1, h1, h2, h3⟩ := encPs_some e.ps h0 hargs hadm
  unfold funK at hk
  rw [hbody] at hk
  simp only at hk
  have hal := encPs_len e.ps ⟨List.replicate fn.ntmps (.l .unk), []⟩ x
  generalize encPs ⟨List.replicate fn.ntmps (.l .unk), []⟩ e.ps x = q at hk h1 h2 h3 hal
  obtain ⟨as, σ1⟩ := q
  simp only at hk h1 h2 h3 hal
  have hstart : RelG E G1 { σ1 with env := as ++ σ1.env.drop as.length } a w := by
    have hr := h1.rel
    have h2' := h2.keep h1.keep as
    refine { hr with len := ?_, env := fun t y hy => ?_ }
    · show a.tmps.size = (as ++ σ1.env.drop as.length).length
      rw [hsz, h3.env]; simp; omega
    · show VA (Imm E G1 σ1 w) σ1.hp.length G1 w y _
      have hy : (as ++ σ1.env.drop as.length)[t]? = some y := hy
      by_cases ht : t < as.length
      · rw [List.getElem?_append_left ht] at hy
        have : ∀ (as : List A) (vs : List Value) (t : Nat) (y : A), VAs (Imm E G1 σ1 w) σ1.hp.length G1 w as vs → as[t]? = some y → ∃ v, vs[t]? = some v ∧ VA (Imm E G1 σ1 w) σ1.hp.length G1 w y v := by
          intro as
          induction as with
          | nil => intro vs t y _ hy; simp at hy
          | cons a as ih =>
            intro vs t y hv hy
            cases vs with
            | nil => exact hv.elim
            | cons v vs =>
              cases t with
              | zero => simp at hy; subst hy; exact ⟨v, rfl, hv.1⟩
              | succ t => simpa using ih vs t y hv.2 (by simpa using hy)
        obtain ⟨v, hv1, hv2⟩ := this as vs t y h2' hy
        have hlt := (List.getElem?_eq_some_iff.1 hv1).1
        have : a.tmps.getD t undef = v := by
          simp only [a, Array.getD_eq_getD_getElem?]
          rw [Array.getElem?_append_left (by simpa using hlt)]
          simp [hv1]
        rw [this]; exact hv2
      · rw [List.getElem?_append_right (by omega), List.getElem?_drop, h3.env, List.getElem?_replicate] at hy
        split at hy
        · obtain rfl := Option.some.inj hy; trivial
        · simp at hy
  refine calls_of_wp hf hbody ?_
  refine codeK_some (E := E) hC c (fun t ht hf => hf ht) hstart hk _ fun ex σ' a' w' G' hk2 hr hkc _ => ?_
  have fin : (resK C σ' fn.results.toList fun vs => ioK e.ps 0 (frzSs e.rs vs σ') fun o σ => decSs e.rs vs σ fun r _ => some (resJ (hasIo e.ps) r o)) = some r → a'.defers = [] ∧ ∃ v, (results fn a'.tmps).run C.P w' = .ok v w' ∧
      ∃ (I' : Nat → Prop) (rvs : List Value) (rbss ibss : List (List Nat)), Ending.returned v = .returned (retV rvs) ∧ CallOut I w w' bss (ibss ++ rbss) I' ∧
      SVs I' w' e.rs (resB (hasIo e.ps) r).1 rvs rbss ∧ ((resB (hasIo e.ps) r).2 = none → ibss = []) ∧ ∀ o, (resB (hasIo e.ps) r).2 = some o → IoV I' w' e.ps o vs ibss := fun hk3 => by
    refine ⟨hr.defers, ?_⟩
    obtain ⟨xs, rvs, k1, k2, k3, k4⟩ := resK_some hr _ hk3
    have f := frzSs_frz e.rs xs σ'
    have hr2 := f.rel hr
    generalize frzSs e.rs xs σ' = σ2 at k1 f hr2
    obtain ⟨o, σ3, new1, ibss, q1, q2, q3⟩ := ioK_some hr2 e.ps 0 (vs := vs) (Gone.refl _) (by simp [Mine]) hvl (fun j p v hp hi hv => by
      have hfx := hr2.fixd (0 + j) (by show 0 + j ∉ wrC c; rw [Nat.zero_add]; exact hio j p hp hi)
      rw [hfx]
      show a.tmps.getD (0 + j) undef = v
      have hlt := (List.getElem?_eq_some_iff.1 hv).1
      simp only [a, Array.getD_eq_getD_getElem?, Nat.zero_add]
      rw [Array.getElem?_append_left (by simpa using hlt)]
      simp [hv]) k1
    obtain ⟨y, σ4, new2, rbss, q4, q5, hsv⟩ := decSs_some e.rs hr2 q2.gone (by simpa using q2.mine) q1 (k2.keep f.keep _)
    obtain rfl := Option.some.inj q4
    have tk := Took.trans hr2 q2 q5
    obtain ⟨z1, z2, z3⟩ := resB_resJ (hasIo e.ps) y o
    refine ⟨_, run_results k3 k4, Imm E G' σ2 w', rvs, rbss, ibss, rfl, ?_, ?_, fun hno => IoV.noIo e.ps (z2 hno) q3, fun o' ho => ?_⟩
    · have had := tk.cls.adm hr2 tk.mine (U := fun _ => False) (fun _ _ _ _ hf => hf)
      exact ⟨hr2.os, hr2.tape, hr2.output, hr2.size, fun b hb hh => hr2.frame b hb fun ⟨bs, hbs, hx⟩ => hh bs hbs hx, fun b hb => ⟨hb.1, hb.2.1⟩, had.nodup,
        fun b hb => ⟨(had.range b hb).1, (had.range b hb).2.1⟩, fun bs hbs b hb => ⟨(had.head bs hbs b hb).2, (had.head bs hbs b hb).1⟩⟩
    · rw [z1]; exact hsv
    · rw [z3 o' ho]; exact q3
  cases ex with
  | normal => exact fin hk2
  | ret => exact fin hk2
  | exit id => simp at hk2

end
end Go.Proofs.Ytajlabmnpimeeaa.Eng
