/-
  The engine: laws whose later part stands on a state of plain data and writes into slices of its own. No condition.
-/
import Derived.Test.YtmdagdopfgiaiaaEm9
namespace Go.Proofs.Ytmdagdopfgiaiaa.Eng
open Go
set_option linter.unusedVariables false
set_option linter.unusedSimpArgs false
section
variable {ρ : Type} (C : Ctx)
/-- 'hk': the first region of the later part; 'n0': how many slots hold what its marks do not reach. -/
noncomputable def topBW (Bs : List TB) (n0 hk : Nat) : Code → (ρ : Type) → Sg → (AEx → Sg → Option ρ) → Option ρ
  | .seq a b, ρ, σ, k => codeK C a ρ σ fun e σ => match e with
    | .normal => if firstReg b = hk then topW C (clobL (wrC b) 0 ((baseS σ).env.take n0)) Bs b ρ (baseS σ) k else topBW Bs n0 hk b ρ σ k
    | e => k e σ
  | c, ρ, σ, k => codeK C c ρ σ k
noncomputable def funBW (Bs : List TB) (n0 hk : Nat) (fn : Func) (ps : List PM) (x : PMs.den ps) : Option (ResB (hasIo ps) Bool (PMo.den ps)) :=
  match fn.body, fn.results.toList with
  | some c, [.tmp rl] =>
    let (as, σ) := encPs ⟨List.replicate fn.ntmps (.l .unk), []⟩ ps x
    topBW C Bs n0 hk c _ { σ with env := as ++ σ.env.drop as.length } (endB ps rl)
  | _, _ => none
end
section
variable {ρ : Type} {C : Ctx} {E : En} {G : Gh} {σ : Sg} {a : Act} {w : World}
theorem topBW_some {Bs : List TB} {n0 hk : Nat} (hC : Ctrs E.d C) (c : Code) : (∀ t ∈ wrC c, ¬ E.F t) → ∀ {ρ : Type} {σ : Sg} {G : Gh} {a : Act} {w : World} {k : AEx → Sg → Option ρ} {r : ρ}, RelG E G σ a w → topBW C Bs n0 hk c ρ σ k = some r → ∀ (Q : Exit → Act → World → Prop),
    (∀ e σ' a' w' G' E', k e σ' = some r → RelG E' G' σ' a' w' → Reb E E' → Q e.ex a' w') → c.wp C.P Q a w := by
  have base : ∀ c : Code, (∀ t ∈ wrC c, ¬ E.F t) → ∀ {ρ : Type} {σ : Sg} {G : Gh} {a : Act} {w : World} {k : AEx → Sg → Option ρ} {r : ρ}, RelG E G σ a w → codeK C c ρ σ k = some r → ∀ (Q : Exit → Act → World → Prop),
      (∀ e σ' a' w' G', k e σ' = some r → RelG E G' σ' a' w' → Q e.ex a' w') → c.wp C.P Q a w := fun c hF ρ σ G a w k r h hk Q hQ =>
    codeK_some hC c rfl hF h hk Q fun e σ' a' w' G' h1 h2 _ _ => hQ e σ' a' w' G' h1 h2
  induction c with
  | seq x z ihx ihy =>
    intro hF
    have hFx : ∀ t ∈ wrC x, ¬ E.F t := fun t ht => hF t (by simp only [wrC]; exact List.mem_append_left _ ht)
    replace ihy := @ihy fun t ht => hF t (by simp only [wrC]; exact List.mem_append_right _ ht)
    intro ρ σ G a w k r h hk Q hQ
    simp only [topBW] at hk
    refine wp_seq (base x hFx h hk _ fun e σ' a' w' G' h1 h2 => ?_)
    cases e with
    | normal =>
      simp only at h1
      split at h1
      · let E' : En := ⟨w', fun b => b < w'.heap.size, fun _ => False, fun _ => False, fun t => t ∉ wrC z, fun t => a'.tmps.getD t undef, E.d⟩
        have hrel : RelG E' (fun _ => (undef, [])) (baseS σ') a' w' :=
          { defers := h2.defers
            len := by rw [h2.len]; simp [baseS]
            env := fun t x hx => by
              obtain ⟨x0, hx0, rfl⟩ := getD_map hx
              obtain ⟨l, e1, e2⟩ := baseA_ok h2 (h2.env t x0 hx0)
              rw [e1]
              exact e2 _ _ _ fun b hb => ⟨hb, fun _ => hb, fun id o ho => by simp [Sg.ob, baseS] at ho⟩
            obs := fun id o ho => by simp [Sg.ob, baseS] at ho
            nodup := fun id o ho => by simp [Sg.ob, baseS] at ho
            range := fun id o ho => by simp [Sg.ob, baseS] at ho
            hrange := fun id o ho => by simp [Sg.ob, baseS] at ho
            disj := fun id id' o o' ho => by simp [Sg.ob, baseS] at ho
            os := rfl
            tape := rfl
            output := .refl _
            size := Nat.le_refl _
            frame := fun _ _ _ => rfl
            xa := ⟨fun b hb => hb.elim, h2.gl, fun b hb => hb.elim, fun b hb => hb.elim⟩
            fixd := fun _ _ => rfl }
        have hp : Par E' (clobL (wrC z) 0 ((baseS σ').env.take n0)) := by
          have at_ : ∀ (i : Nat) (x : A), (clobL (wrC z) 0 ((baseS σ').env.take n0))[i]? = some x → x = .l .unk ∨ (i ∉ wrC z ∧ ∃ x0, σ'.env[i]? = some x0 ∧ baseA σ' x0 = x) := fun i x hx => by
            rw [clobL_get, Nat.zero_add] at hx
            obtain ⟨z1, hz1, rfl⟩ := Option.map_eq_some_iff.1 hx
            split
            · exact .inl rfl
            · rename_i hw
              right
              refine ⟨by simpa using hw, ?_⟩
              rw [List.getElem?_take] at hz1
              split at hz1
              · exact getD_map hz1
              · cases hz1
          refine ⟨fun i x hx => ?_, fun i x hx => ?_⟩
          · rcases at_ i x hx with h1 | ⟨h1, _⟩
            · exact .inl h1
            · exact .inr h1
          · rcases at_ i x hx with rfl | ⟨_, x0, hx0, rfl⟩
            · exact ⟨.unk, rfl, fun _ _ => trivial⟩
            · obtain ⟨l, e1, e2⟩ := baseA_ok h2 (h2.env i x0 hx0)
              exact ⟨l, e1, fun N G => e2 _ N G fun b hb => ⟨hb, hb, fun hf => hf, fun hf => hf⟩⟩
        exact topW_some (E := E') hC hp (fun b hb => hb.elim) z (fun t ht hf => hf ht) hrel h1 Q fun e σ3 a3 w3 G3 k1 k2 =>
          hQ e σ3 a3 w3 G3 E' k1 k2 ⟨h2.os, h2.tape, h2.output, h2.size, h2.frame, fun b _ hb => hb.elim, rfl⟩
      · exact ihy h2 h1 Q hQ
    | exit id => exact hQ _ σ' a' w' G' E h1 h2 (.refl E)
    | ret => exact hQ _ σ' a' w' G' E h1 h2 (.refl E)
  | _ =>
    intro hF ρ σ G a w k r h hk Q hQ
    simp only [topBW] at hk
    exact base _ hF h hk Q fun e σ' a' w' G' h1 h2 => hQ e σ' a' w' G' E h1 h2 (.refl E)
theorem funBW_ctr {Bs : List TB} {n0 hk rl : Nat} {D : Prop} (hC : Ctrs D C) {f : FuncId} {ps : List PM} {F : PMs.den ps → Option (ResB (hasIo ps) (SKs.den rsB) (PMo.den ps))} {fn : Func} {c : Code} (hf : C.P.funcs[f]? = some fn) (hname : (fn.name == "runtime.NumGoroutine") = false) (hbody : fn.body = some c) (hres : fn.results.toList = [.tmp rl]) (hn : ps.length ≤ fn.ntmps)
    (hio : ∀ (i : Nat) (p : PM), ps[i]? = some p → isIo p = true → i ∉ wrC c) (hd : ps.all isD = true) (hF : ∀ x r, F x = some r → funBW C Bs n0 hk fn ps x = some r) : FnOk C.P f ∧ Ctr D C.P ⟨f, ps, rsB, F⟩ := by
  refine ⟨⟨fn, c, hf, hname, hbody⟩, fun x r hx I w vs bss hin hargs => ?_⟩
  have hk := hF x r hx
  have hargs : ArgsV I w ps x vs bss := hargs
  have hvl : vs.length = ps.length := by
    have : ∀ (ps : List PM) (y : PMs.den ps) (vs : List Value) (bss : List (List Nat)), ArgsV I w ps y vs bss → vs.length = ps.length := by
      intro ps
      induction ps with
      | nil => intro y vs bss h; cases vs with
        | nil => rfl
        | cons _ _ => exact h.elim
      | cons p ps ih =>
        intro y vs bss h
        cases ps with
        | nil => match vs, h with
          | [v], _ => rfl
        | cons p' r => match vs, h with
          | v :: vs, ⟨b1, b2, _, _, h⟩ => simp only [List.length_cons]; rw [ih _ _ _ h]; rfl
    exact this _ _ _ _ hargs
  let a : Act := { tmps := vs.toArray ++ Array.replicate (fn.ntmps - vs.toArray.size) undef, defers := [] }
  let E : En := ⟨w, fun b => I b ∨ b ∈ bss.flatten, fun b => b ∈ bss.flatten, fun b => ∃ bs ∈ bss, bs.head? = some b, fun t => t ∉ wrC c, fun t => a.tmps.getD t undef, D⟩
  have hsz : a.tmps.size = fn.ntmps := by simp [a]; omega
  have h0 : Pre E I (fun _ => False) (fun _ => (undef, [])) ⟨List.replicate fn.ntmps (.l .unk), []⟩ a w :=
    { defers := rfl
      len := by rw [hsz]; simp
      env := fun t x hx => by
        rw [List.getElem?_replicate] at hx
        split at hx
        · obtain rfl := Option.some.inj hx; trivial
        · simp at hx
      obs := fun id o ho => by simp [Sg.ob] at ho
      nodup := fun id o ho => by simp [Sg.ob] at ho
      range := fun id o ho => by simp [Sg.ob] at ho
      hrange := fun id o ho => by simp [Sg.ob] at ho
      disj := fun id id' o o' ho => by simp [Sg.ob] at ho
      os := rfl
      tape := rfl
      output := .refl _
      size := Nat.le_refl _
      frame := fun _ _ _ => rfl
      xa := ⟨fun b hb => .inr hb, hin.gl, hin.gx, fun b ⟨bs, hbs, hb⟩ => hin.gx b (List.mem_flatten.2 ⟨bs, hbs, List.mem_of_mem_head? hb⟩)⟩
      fixd := fun _ _ => rfl
      acc := fun b hb => ⟨hin.acc b hb, fun _ => .inl hb⟩ }
  have hadm : Adm E I (fun _ => False) w bss := ⟨hin.nodup, fun b hb => ⟨hin.range b hb, fun _ => hb, fun hf => hf⟩, fun bs hbs b hb => ⟨fun _ => ⟨bs, hbs, hb⟩, hin.head bs hbs b hb⟩⟩
  obtain ⟨G1, h1, h2, h3⟩ := encPs_some ps h0 hargs hadm
  unfold funBW at hk
  rw [hbody, hres] at hk
  simp only at hk
  have hfl := argsD_nil ps hd hargs
  have hal := encPs_len ps ⟨List.replicate fn.ntmps (.l .unk), []⟩ x
  generalize encPs ⟨List.replicate fn.ntmps (.l .unk), []⟩ ps x = q at hk h1 h2 h3 hal
  obtain ⟨as, σ1⟩ := q
  simp only at hk h1 h2 h3 hal
  have hstart : RelG E G1 { σ1 with env := as ++ σ1.env.drop as.length } a w := by
    have hr := h1.rel
    have h2' := h2.keep h1.keep as
    refine { hr with len := ?_, env := fun t y hy => ?_ }
    · show a.tmps.size = (as ++ σ1.env.drop as.length).length
      rw [hsz, h3.env]; simp; omega
    · show VA (Imm E G1 σ1 w) σ1.hp.length G1 w y _
      have hy : (as ++ σ1.env.drop as.length)[t]? = some y := hy
      by_cases ht : t < as.length
      · rw [List.getElem?_append_left ht] at hy
        have : ∀ (as : List A) (vs : List Value) (t : Nat) (y : A), VAs (Imm E G1 σ1 w) σ1.hp.length G1 w as vs → as[t]? = some y → ∃ v, vs[t]? = some v ∧ VA (Imm E G1 σ1 w) σ1.hp.length G1 w y v := by
          intro as
          induction as with
          | nil => intro vs t y _ hy; simp at hy
          | cons a as ih =>
            intro vs t y hv hy
            cases vs with
            | nil => exact hv.elim
            | cons v vs =>
              cases t with
              | zero => simp at hy; subst hy; exact ⟨v, rfl, hv.1⟩
              | succ t => simpa using ih vs t y hv.2 (by simpa using hy)
        obtain ⟨v, hv1, hv2⟩ := this as vs t y h2' hy
        have hlt := (List.getElem?_eq_some_iff.1 hv1).1
        have : a.tmps.getD t undef = v := by
          simp only [a, Array.getD_eq_getD_getElem?]
          rw [Array.getElem?_append_left (by simpa using hlt)]
          simp [hv1]
        rw [this]; exact hv2
      · rw [List.getElem?_append_right (by omega), List.getElem?_drop, h3.env, List.getElem?_replicate] at hy
        split at hy
        · obtain rfl := Option.some.inj hy; trivial
        · simp at hy
  refine calls_of_wp hf hbody ?_
  have hX : ∀ b, ¬ E.X b := fun b hb => by
    have hb : b ∈ bss.flatten := hb
    rw [hfl] at hb; simp at hb
  have hH : ∀ b, ¬ E.H b := fun b hb => by
    obtain ⟨bs, h1, h2⟩ : ∃ bs ∈ bss, bs.head? = some b := hb
    exact hX b (List.mem_flatten.2 ⟨bs, h1, List.mem_of_mem_head? h2⟩)
  refine topBW_some (E := E) hC c (fun t ht hf => hf ht) hstart hk _ fun ex σ' a' w' G' E' hk2 hr hb => ?_
  have fin : endB ps rl ex σ' = some r → ex ≠ .normal ∨ ex = .normal → a'.defers = [] ∧ ∃ v, (results fn a'.tmps).run C.P w' = .ok v w' ∧
      ∃ (I' : Nat → Prop) (rvs : List Value) (rbss ibss : List (List Nat)), Ending.returned v = .returned (retV rvs) ∧ CallOut D I w w' bss (ibss ++ rbss) I' ∧
      SVs I' w' rsB (resB (hasIo ps) r).1 rvs rbss ∧ ((resB (hasIo ps) r).2 = none → ibss = []) ∧ ∀ o, (resB (hasIo ps) r).2 = some o → IoV I' w' ps o vs ibss := fun hk2 _ => by
    refine ⟨hr.defers, ?_⟩
    have hk3 : ∃ nn bb o, getA σ' (.tmp rl) = .l (.dat nn .bool bb) ∧ ioU ps = some o ∧ r = resJ (hasIo ps) bb o := by
      unfold endB at hk2
      split at hk2
      · cases hk2
      · split at hk2
        · rename_i nn bb hg
          obtain ⟨o, ho, hreq⟩ := Option.bind_eq_some_iff.1 hk2
          exact ⟨nn, bb, o, hg, ho, (Option.some.inj hreq).symm⟩
        · cases hk2
    obtain ⟨nn, bb, o, hg, ho, hreq⟩ := hk3
    have hv := hr.get (.tmp rl)
    rw [hg] at hv
    have hv : a'.tmps.getD rl undef = .bool bb := by have := datBool hv; simpa only [Act.eval] using this
    obtain ⟨z1, z2, z3⟩ := resB_resJ (hasIo ps) bb o
    refine ⟨_, run_results (vs := [.bool bb]) (by rw [hres]; rfl) (by
      rw [hres]
      intro i x v hi hvv
      match i, hi, hvv with
      | 0, hi, hvv =>
        obtain rfl := Option.some.inj hi
        obtain rfl := Option.some.inj hvv
        simp [resM, hv]), fun _ => False, [.bool bb], [[]], [], rfl, ?_, ?_, fun _ => rfl, fun o' ho' => ?_⟩
    · refine ⟨hr.os.trans hb.os, hr.tape.trans hb.tape, (hb.d ▸ hr.output : Out E.d _ _).trans hb.output, Nat.le_trans hb.size hr.size, fun b hb1 hh => ?_, fun b hb => hb.elim, by simp, fun b hb => by simp at hb, fun q hq b hb => ?_⟩
      · have hnH : ¬ E.H b := fun ⟨q, hq, hx⟩ => hh q hq hx
        rw [hr.frame b (Nat.lt_of_lt_of_le hb1 hb.size) fun hH => hnH (hb.H b hb1 hH)]
        exact hb.frame b hb1 hnH
      · simp only [List.nil_append, List.mem_singleton] at hq
        subst hq
        simp at hb
    · rw [hreq, z1]
      exact ⟨[], rfl, RdV_bool.2 rfl, (fun hf => by cases hf), rfl⟩
    · rw [hreq] at ho'
      rw [z3 o' ho']
      exact ioU_some ps ho hvl
  cases ex with
  | normal => exact fin hk2 (.inr rfl)
  | ret => exact fin hk2 (.inl (by simp))
  | exit id => simp [endB] at hk2
end
theorem mkLawBW {D : Prop} {C : Ctx} {Bs : List TB} (n0 hk : Nat) {f : FuncId} {ps : List PM} {F : PMs.den ps → Option (ResB (hasIo ps) (SKs.den rsB) (PMo.den ps))} {fn : Func} (rl : Nat) (hm : C.P.follows .mixedOrders = true) (h : AllC D C.P C.O) (hf : C.P.funcs[f]? = some fn) (hok : okFn fn ps = true) (hres : fn.results.toList = [.tmp rl]) (hlw : ps.all isD = true)
    (hF : ∀ x, funBW C Bs n0 hk fn ps x = F x) (hi : AllI D C.P C.I := by trivial) : FnOk C.P f ∧ Ctr D C.P ⟨f, ps, rsB, F⟩ := by
  unfold okFn at hok
  simp only [Bool.and_eq_true, Bool.not_eq_true', decide_eq_true_eq] at hok
  obtain ⟨⟨h1, h2⟩, h3⟩ := hok
  split at h2
  · rename_i c hc
    exact funBW_ctr (ctrs_of hm h hi) hf h1 hc hres h3 (fun i p hp hi => by
      have := ioOk_some ps 0 h2 i p hp hi
      rwa [Nat.zero_add] at this) hlw fun x r hx => (hF x).trans hx
  · simp at h2
end Go.Proofs.Ytmdagdopfgiaiaa.Eng
