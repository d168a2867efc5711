/-
  The engine, part 29. Regions whose order is drawn: what one operation leaves alone. No condition.
-/
import Derived.Test.YtajlabmnpimeeaaEng28
namespace Go.Proofs.Ytajlabmnpimeeaa.Eng
open Go
set_option linter.unusedVariables false
set_option linter.unusedSimpArgs false

theorem L.bd_of {N : Nat} : (l : L) → (∀ id ∈ l.refs, id < N) → l.bd N
  | .unk, _ => trivial
  | .nils, _ => trivial
  | .dat _ _ _, _ => trivial
  | .cptr _ _, _ => trivial
  | .ref id, h => h id (by simp [L.refs])
  | .optr id _ _, h => h id (by simp [L.refs])
  | .bptr id _, h => h id (by simp [L.refs])
  | .fn _, _ => trivial
  | .clo _ ids, h => fun id hi => h id (by simpa [L.refs] using hi)
  | .und, _ => trivial
  | .sub id _ _ _, h => h id (by simp [L.refs])
theorem L.bd_refs {N : Nat} : (l : L) → l.bd N → ∀ id ∈ l.refs, id < N
  | .unk, _, _, h => by simp [L.refs] at h
  | .nils, _, _, h => by simp [L.refs] at h
  | .dat _ _ _, _, _, h => by simp [L.refs] at h
  | .cptr _ _, _, _, h => by simp [L.refs] at h
  | .ref id, b, i, h => by simp only [L.refs, List.mem_singleton] at h; subst h; exact b
  | .optr id _ _, b, i, h => by simp only [L.refs, List.mem_singleton] at h; subst h; exact b
  | .bptr id _, b, i, h => by simp only [L.refs, List.mem_singleton] at h; subst h; exact b
  | .fn _, _, _, h => by simp [L.refs] at h
  | .clo _ ids, b, i, h => b i (by simpa [L.refs] using h)
  | .und, _, _, h => by simp [L.refs] at h
  | .sub id _ _ _, b, i, h => by simp only [L.refs, List.mem_singleton] at h; subst h; exact b
theorem A.bd_of {N : Nat} : (x : A) → (∀ id ∈ x.refs, id < N) → x.bd N
  | .l y, h => L.bd_of y h
  | .a ls, h => fun y hl => L.bd_of y fun id hi => h id (List.mem_flatMap.2 ⟨y, hl, hi⟩)
  | .t ps, h => fun p hp y hl => L.bd_of y fun id hi => h id (List.mem_flatMap.2 ⟨p, hp, List.mem_flatMap.2 ⟨y, hl, hi⟩⟩)
theorem A.bd_refs {N : Nat} : (x : A) → x.bd N → ∀ id ∈ x.refs, id < N
  | .l y, h, id, hi => L.bd_refs y h id hi
  | .a ls, h, id, hi => by
    obtain ⟨y, hl, hi⟩ := List.mem_flatMap.1 hi
    exact L.bd_refs y (h y hl) id hi
  | .t ps, h, id, hi => by
    obtain ⟨p, hp, hi⟩ := List.mem_flatMap.1 hi
    obtain ⟨y, hl, hi⟩ := List.mem_flatMap.1 hi
    exact L.bd_refs y (h p hp y hl) id hi
theorem Ob.bd_of {N : Nat} : (o : Ob) → (∀ id ∈ o.refs, id < N) → o.bd N
  | .own _ _ _ _ _, _ => trivial
  | .box _ _ cs, h => fun l hl => L.bd_of l fun id hi => h id (List.mem_flatMap.2 ⟨l, hl, hi⟩)
theorem Ob.bd_refs {N : Nat} : (o : Ob) → o.bd N → ∀ id ∈ o.refs, id < N
  | .own _ _ _ _ _, _, id, hi => by simp [Ob.refs] at hi
  | .box _ _ cs, h, id, hi => by
    obtain ⟨l, hl, hi⟩ := List.mem_flatMap.1 hi
    exact L.bd_refs l (h l hl) id hi

/-- All objects stay as they are. -/
def Gs (σ σ' : Sg) : Prop := ∀ id o, σ.ob id = some o → σ'.ob id = some o
theorem Gs.refl (σ : Sg) : Gs σ σ := fun _ _ h => h
theorem Gs.trans {a b c : Sg} (h : Gs a b) (k : Gs b c) : Gs a c := fun id o ho => k id o (h id o ho)
theorem Gs.add (σ : Sg) (o : Ob) : Gs σ (addHp σ o) := fun i o' ho' => by
  rw [ob_addHp, if_neg (by have := Sg.ob_lt ho'; omega)]; exact ho'

theorem encL_gs (σ : Sg) (c : LK) (y : c.den) : ∃ l σ', Gs σ σ' ∧ ∀ (ρ : Type) (k : L → Sg → Option ρ), encL σ c y k = k l σ' := by
  cases c with
  | d nn t => exact ⟨_, _, Gs.refl _, fun _ _ => rfl⟩
  | o dp e t => exact ⟨_, _, Gs.add _ _, fun _ _ => rfl⟩

theorem encLs_gs : (cs : List LK) → (σ : Sg) → (y : LKs.den cs) → ∃ ls σ', Gs σ σ' ∧ ∀ (ρ : Type) (k : List L → Sg → Option ρ), encLs σ cs y k = k ls σ'
  | [], σ, y => ⟨[], σ, Gs.refl _, fun _ _ => rfl⟩
  | [c], σ, y => by obtain ⟨l, σ', hk, h⟩ := encL_gs σ c y; exact ⟨[l], σ', hk, fun ρ k => by simp only [encLs]; exact h ρ _⟩
  | c :: c' :: r, σ, y => by
    obtain ⟨l, σ', hk, h⟩ := encL_gs σ c y.1
    obtain ⟨ls, σ2, hk2, h2⟩ := encLs_gs (c' :: r) σ' y.2
    exact ⟨l :: ls, σ2, hk.trans hk2, fun ρ k => by simp only [encLs]; rw [h, h2]⟩

theorem encS_gs (σ : Sg) : (c : SK) → (y : c.den) → ∃ l σ', Gs σ σ' ∧ ∀ (ρ : Type) (k : A → Sg → Option ρ), encS σ c y k = k l σ'
  | .l c, y => by obtain ⟨l, σ', hk, h⟩ := encL_gs σ c y; exact ⟨_, σ', hk, fun ρ k => by simp only [encS]; exact h ρ _⟩
  | .a cs, y => by obtain ⟨l, σ', hk, h⟩ := encLs_gs cs σ y; exact ⟨_, σ', hk, fun ρ k => by simp only [encS]; exact h ρ _⟩
  | .b e cs, y => by obtain ⟨l, σ', hk, h⟩ := encLs_gs cs σ y; exact ⟨_, _, hk.trans (Gs.add _ _), fun ρ k => by simp only [encS]; exact h ρ _⟩

theorem encSs_gs : (cs : List SK) → (σ : Sg) → (y : SKs.den cs) → ∃ xs σ', Gs σ σ' ∧ ∀ (ρ : Type) (k : List A → Sg → Option ρ), encSs σ cs y k = k xs σ'
  | [], σ, y => ⟨[], _, Gs.refl _, fun _ _ => rfl⟩
  | [c], σ, y => by obtain ⟨l, σ', hk, h⟩ := encS_gs σ c y; exact ⟨[l], σ', hk, fun ρ k => by simp only [encSs]; exact h ρ _⟩
  | c :: c' :: r, σ, y => by
    obtain ⟨l, σ', hk, h⟩ := encS_gs σ c y.1
    obtain ⟨ls, σ2, hk2, h2⟩ := encSs_gs (c' :: r) σ' y.2
    exact ⟨l :: ls, σ2, hk.trans hk2, fun ρ k => by simp only [encSs]; rw [h, h2]⟩

section
variable {ρ : Type} {C : Ctx}

theorem argsK_still (al : Bool) : (ps : List PM) → (xs : List A) → (σ : Sg) → (ρ : Type) → (k : PMs.den ps → Sg → Option ρ) → (r : ρ) → ps.all PM.still = true → argsK al ps xs σ k = some r → ∃ y, k y σ = some r
  | [], [], σ, ρ, k, r, _, hk => ⟨(), hk⟩
  | [p], [x], σ, ρ, k, r, hs, hk => by
    simp only [argsK] at hk
    cases p with
    | d nn t =>
      simp only [argK] at hk
      split at hk
      · rw [rdA_nat] at hk
        obtain ⟨y, _, hk⟩ := Option.bind_eq_some_iff.1 hk
        rw [nnA_nat] at hk
        obtain ⟨_, _, hk⟩ := Option.bind_eq_some_iff.1 hk
        exact ⟨y, hk⟩
      · simp at hk
    | f g =>
      simp only [argK] at hk
      split at hk
      · split at hk
        · exact ⟨(), hk⟩
        · simp at hk
      · simp at hk
    | mv dp e t => simp [PM.still] at hs
    | io dp e t => simp [PM.still] at hs
  | p :: p' :: r', x :: xs, σ, ρ, k, r, hs, hk => by
    simp only [argsK] at hk
    have hs' : (p' :: r').all PM.still = true := by simp only [List.all_cons, Bool.and_eq_true] at hs ⊢; exact hs.2
    cases p with
    | d nn t =>
      simp only [argK] at hk
      obtain ⟨ys, hk⟩ := argsK_still al (p' :: r') xs σ _ _ _ hs' hk
      split at hk
      · rw [rdA_nat] at hk
        obtain ⟨y, _, hk⟩ := Option.bind_eq_some_iff.1 hk
        rw [nnA_nat] at hk
        obtain ⟨_, _, hk⟩ := Option.bind_eq_some_iff.1 hk
        exact ⟨_, hk⟩
      · simp at hk
    | f g =>
      simp only [argK] at hk
      split at hk
      · split at hk
        · obtain ⟨ys, hk⟩ := argsK_still al (p' :: r') xs σ _ _ _ hs' hk
          exact ⟨_, hk⟩
        · simp at hk
      · simp at hk
    | mv dp e t => simp [PM.still] at hs
    | io dp e t => simp [PM.still] at hs
  | [], _ :: _, _, _, _, _, _, hk => by simp [argsK] at hk
  | [_], [], _, _, _, _, _, hk => by simp [argsK] at hk
  | [_], _ :: _ :: _, _, _, _, _, _, hk => by simp [argsK] at hk
  | _ :: _ :: _, [], _, _, _, _, _, hk => by simp [argsK] at hk

theorem hasIo_still : (ps : List PM) → ps.all PM.still = true → hasIo ps = false
  | [], _ => rfl
  | .d _ _ :: r, h => hasIo_still r (by simpa [PM.still] using h)
  | .f _ :: r, h => hasIo_still r (by simpa [PM.still] using h)
  | .mv _ _ _ :: r, h => by simp [PM.still] at h
  | .io _ _ _ :: r, h => by simp [PM.still] at h

theorem resB_none {R O : Type} : (b : Bool) → b = false → (x : ResB b R O) → (resB b x).2 = none
  | false, _, _ => rfl
  | true, h, _ => by simp at h

theorem isR_env {σ σ' : Sg} (h : σ.env = σ'.env) (op : Op) : isR C σ op = isR C σ' op := by
  have hg : ∀ x, getA σ x = getA σ' x := fun x => by cases x <;> simp [getA, h]
  unfold isR
  split <;> first | rfl | skip
  split <;> first | rfl | skip
  rw [hg]

theorem callK_still {σ : Sg} {f : FuncId} {xs : List A} {e : CallE} {v : A} {s : Sg} (hf : findE f C.O = some e) (ha : (e.rs.any SK.alias || e.ps.any PM.alias) = false) (hs : e.ps.all PM.still = true)
    (hk : (callK C σ f xs fun v s => some (v, s)) = some (v, s)) : Gs σ s := by
  unfold callK at hk
  rw [hf] at hk
  simp only [ha] at hk
  split at hk
  · simp only [frzArgs] at hk
    obtain ⟨y, hk⟩ := argsK_still false e.ps xs σ _ _ _ hs hk
    obtain ⟨r, _, hk⟩ := Option.bind_eq_some_iff.1 hk
    have hn := resB_none _ (hasIo_still e.ps hs) r
    generalize resB (hasIo e.ps) r = q at hk hn
    obtain ⟨q1, q2⟩ := q
    simp only at hn
    subst hn
    simp only at hk
    obtain ⟨xs', σ', hg, h⟩ := encSs_gs e.rs σ q1
    rw [h] at hk
    simp only [Option.some.injEq, Prod.mk.injEq] at hk
    rw [← hk.2]; exact hg
  · simp at hk

/-- Operations of the kind R leave every object as it is. -/
theorem opK_R {σ : Sg} {op : Op} {v : A} {s : Sg} (hR : isR C σ op = true) (hk : (opK C σ op fun v s => some (v, s)) = some (v, s)) : Gs σ s := by
  have same : ∀ {f : {ρ : Type} → (A → Option ρ) → Option ρ}, (∀ (ρ : Type) (k : A → Option ρ), f k = (f some).bind k) → (f fun v => some (v, σ)) = some (v, s) → Gs σ s := fun hf h => by
    rw [hf] at h
    obtain ⟨_, _, h⟩ := Option.bind_eq_some_iff.1 h
    simp only [Option.some.injEq, Prod.mk.injEq] at h
    rw [← h.2]; exact Gs.refl _
  have here : ∀ {x : A}, some (x, σ) = some (v, s) → Gs σ s := fun h => by
    simp only [Option.some.injEq, Prod.mk.injEq] at h
    rw [← h.2]; exact Gs.refl _
  unfold opK at hk
  split at hk
  · exact here hk
  · exact here hk
  · split at hk
    · rename_i cb _; cases cb <;> exact here hk
    · simp at hk
  · exact same (f := fun {ρ} => unK (ρ := ρ) _ _) (fun ρ k => unK_nat k) hk
  · exact same (f := fun {ρ} => binK (ρ := ρ) C _ _ σ _ _) (fun ρ k => binK_nat k) hk
  · exact same (f := fun {ρ} => loadK (ρ := ρ) C σ _ _) (fun ρ k => loadK_nat k) hk
  · simp [isR] at hR
  · exact same (f := fun {ρ} => fieldAddrK (ρ := ρ) C _ _ _) (fun ρ k => fieldAddrK_nat k) hk
  · exact same (f := fun {ρ} => indexAddrK (ρ := ρ) C σ _ _ _) (fun ρ k => indexAddrK_nat k) hk
  · split at hk
    · simp only [Option.some.injEq, Prod.mk.injEq] at hk
      rw [← hk.2]; exact Gs.add _ _
    · simp at hk
  · simp only at hk
    split at hk
    · simp at hk
    · simp only [Option.some.injEq, Prod.mk.injEq] at hk
      rw [← hk.2]; exact Gs.add _ _
  · exact same (f := fun {ρ} => buildK (ρ := ρ) C σ _ _) (fun ρ k => buildK_nat k) hk
  · simp [isR] at hR
  · unfold makeSliceK at hk
    repeat' split at hk
    all_goals first
      | (simp at hk; done)
      | (obtain ⟨_, _, hk⟩ := Option.bind_eq_some_iff.1 hk
         simp only [Option.some.injEq, Prod.mk.injEq] at hk
         rw [← hk.2]; exact Gs.add _ _)
  · simp [isR] at hR
  · exact same (f := fun {ρ} => extractK (ρ := ρ) _ _) (fun ρ k => extractK_nat k) hk
  · exact same (f := fun {ρ} => convertK (ρ := ρ) C σ _ _ _) (fun ρ k => convertK_nat k) hk
  · exact same (f := fun {ρ} => indexK (ρ := ρ) C _ _ _) (fun ρ k => indexK_nat k) hk
  · simp [isR] at hR
  · rename_i c
    split at hk
    · rename_i b hb
      simp only [isR, hb] at hR
      unfold builtinK at hk
      split at hk
      · split at hk
        · exact same (f := fun {ρ} => lenK (ρ := ρ) C σ _ _) (fun ρ k => lenK_nat k) hk
        · simp at hk
      · simp at hR
      · exact same (f := fun {ρ} => max2K (ρ := ρ) true _ _) (fun ρ k => max2K_nat k) hk
      · exact same (f := fun {ρ} => max2K (ρ := ρ) false _ _) (fun ρ k => max2K_nat k) hk
      · simp at hk
    · rename_i f hf
      split at hk
      · rename_i g hg
        simp only [isR, hf, hg] at hR
        split at hR
        · rename_i e he
          simp only [Bool.and_eq_true, Bool.not_eq_true'] at hR
          exact callK_still he hR.1 hR.2 hk
        · simp at hR
      · rename_i g ids hg
        simp [isR, hf, hg] at hR
      · simp at hk
    · simp at hk
  · simp at hk

theorem tkO_kp {σ : Sg} {dp : Bool} {e : TypeId} {t : Ty} {x : L} {k : List t.den → Sg → Option ρ} {r : ρ} (hk : tkO σ dp e t x k = some r) : ∃ y s, k y s = some r ∧ Kp σ s := by
  unfold tkO at hk
  split at hk
  · exact ⟨_, _, hk, Kp.refl _⟩
  · split at hk
    · rename_i ho
      split at hk
      · obtain ⟨y, _, hk⟩ := Option.bind_eq_some_iff.1 hk
        exact ⟨y, _, hk, Kp.set _ ho rfl⟩
      · simp at hk
    · simp at hk
  · simp at hk

theorem tkLs_kp (dp : Bool) : (t : Ty) → (σ : Sg) → (ls : List L) → (ρ : Type) → (k : t.den → List L → Sg → Option ρ) → (r : ρ) → tkLs dp t σ ls k = some r → ∃ y l s, k y l s = some r ∧ Kp σ s
  | .prod a b, σ, ls, ρ, k, r, hk => by
    simp only [tkLs] at hk
    obtain ⟨x, l, s, hk, h1⟩ := tkLs_kp dp a σ ls ρ _ r hk
    obtain ⟨y, l2, s2, hk, h2⟩ := tkLs_kp dp b s l ρ _ r hk
    exact ⟨_, _, _, hk, h1.trans h2⟩
  | .list t, σ, x :: l, ρ, k, r, hk => by
    simp only [tkLs] at hk
    split at hk
    · split at hk
      · exact ⟨_, _, _, hk, Kp.refl _⟩
      · split at hk
        · rename_i ho
          split at hk
          · obtain ⟨y, _, hk⟩ := Option.bind_eq_some_iff.1 hk
            exact ⟨_, _, _, hk, Kp.set _ ho rfl⟩
          · simp at hk
        · simp at hk
      · simp at hk
    · rw [rdL_nat] at hk
      obtain ⟨y, _, hk⟩ := Option.bind_eq_some_iff.1 hk
      exact ⟨_, _, _, hk, Kp.freezeL _ _⟩
  | .int _, σ, x :: l, ρ, k, r, hk => by
    simp only [tkLs] at hk
    rw [rdL_nat] at hk
    obtain ⟨y, _, hk⟩ := Option.bind_eq_some_iff.1 hk
    exact ⟨_, _, _, hk, Kp.refl _⟩
  | .bool, σ, x :: l, ρ, k, r, hk => by
    simp only [tkLs] at hk
    rw [rdL_nat] at hk
    obtain ⟨y, _, hk⟩ := Option.bind_eq_some_iff.1 hk
    exact ⟨_, _, _, hk, Kp.refl _⟩
  | .str, σ, x :: l, ρ, k, r, hk => by
    simp only [tkLs] at hk
    rw [rdL_nat] at hk
    obtain ⟨y, _, hk⟩ := Option.bind_eq_some_iff.1 hk
    exact ⟨_, _, _, hk, Kp.refl _⟩
  | .int _, _, [], _, _, _, hk => by simp [tkLs] at hk
  | .bool, _, [], _, _, _, hk => by simp [tkLs] at hk
  | .str, _, [], _, _, _, hk => by simp [tkLs] at hk
  | .list _, _, [], _, _, _, hk => by simp [tkLs] at hk

theorem elemsK_kp (dp : Bool) (ty : Ty) : (xs : List A) → (σ : Sg) → (ρ : Type) → (k : List ty.den → Sg → Option ρ) → (r : ρ) → elemsK dp ty σ xs k = some r → ∃ y s, k y s = some r ∧ Kp σ s
  | [], σ, ρ, k, r, hk => ⟨_, _, hk, Kp.refl _⟩
  | x :: xs, σ, ρ, k, r, hk => by
    simp only [elemsK] at hk
    obtain ⟨y, l, s, hk, h1⟩ := tkLs_kp dp ty σ _ ρ _ r hk
    split at hk
    · obtain ⟨ys, s2, hk, h2⟩ := elemsK_kp dp ty xs s ρ _ r hk
      exact ⟨_, _, hk, h1.trans h2⟩
    · simp at hk

theorem srcK_kp {σ : Sg} {dp : Bool} {ty : Ty} {x : A} {k : Bool → List ty.den → Sg → Option ρ} {r : ρ} (hk : srcK σ dp ty x k = some r) : ∃ d y s, k d y s = some r ∧ Kp σ s := by
  unfold srcK at hk
  split at hk
  · split at hk
    · split at hk
      · obtain ⟨_, _, hk⟩ := Option.bind_eq_some_iff.1 hk
        obtain ⟨_, _, hk⟩ := Option.bind_eq_some_iff.1 hk
        exact ⟨_, _, _, hk, Kp.refl _⟩
      · simp at hk
    · simp at hk
  · split at hk
    · split at hk
      · rename_i ho
        obtain ⟨y, _, hk⟩ := Option.bind_eq_some_iff.1 hk
        exact ⟨_, _, _, hk, Kp.set _ ho rfl⟩
      · rw [rdL_nat] at hk
        obtain ⟨y, _, hk⟩ := Option.bind_eq_some_iff.1 hk
        exact ⟨_, _, _, hk, Kp.refl _⟩
    · rw [rdL_nat] at hk
      obtain ⟨y, _, hk⟩ := Option.bind_eq_some_iff.1 hk
      exact ⟨_, _, _, hk, Kp.refl _⟩
  · simp at hk

theorem argK_kp {β : Type} {al : Bool} {p : PM} {x : A} {σ : Sg} {rest : Sg → (β → Sg → Option ρ) → Option ρ} {k : p.den → β → Sg → Option ρ} {r : ρ} (hr : ∀ σ k, rest σ k = some r → ∃ y s, k y s = some r ∧ Kp σ s) (hk : argK al p x σ rest k = some r) :
    ∃ y ys s, k y ys s = some r ∧ Kp σ s := by
  cases p with
  | d nn t =>
    simp only [argK] at hk
    obtain ⟨ys, s, hk, h1⟩ := hr _ _ hk
    split at hk
    · rw [rdA_nat] at hk
      obtain ⟨y, _, hk⟩ := Option.bind_eq_some_iff.1 hk
      rw [nnA_nat] at hk
      obtain ⟨_, _, hk⟩ := Option.bind_eq_some_iff.1 hk
      exact ⟨y, ys, s, hk, h1⟩
    · simp at hk
  | f g =>
    simp only [argK] at hk
    split at hk
    · split at hk
      · obtain ⟨ys, s, hk, h1⟩ := hr _ _ hk
        exact ⟨(), ys, s, hk, h1⟩
      · simp at hk
    · simp at hk
  | mv dp e t =>
    simp only [argK] at hk
    split at hk
    · obtain ⟨y, s, hk, h1⟩ := tkO_kp hk
      obtain ⟨ys, s2, hk, h2⟩ := hr _ _ hk
      exact ⟨y, ys, s2, hk, h1.trans h2⟩
    · simp at hk
  | io dp e t =>
    simp only [argK] at hk
    split at hk
    · split at hk
      · rename_i ho
        split at hk
        · obtain ⟨y, _, hk⟩ := Option.bind_eq_some_iff.1 hk
          obtain ⟨ys, s2, hk, h2⟩ := hr _ _ hk
          exact ⟨y, ys, s2, hk, (Kp.set _ ho rfl).trans h2⟩
        · simp at hk
      · simp at hk
    · simp at hk

theorem argsK_kp (al : Bool) : (ps : List PM) → (xs : List A) → (σ : Sg) → (k : PMs.den ps → Sg → Option ρ) → (r : ρ) → argsK al ps xs σ k = some r → ∃ y s, k y s = some r ∧ Kp σ s
  | [], [], σ, k, r, hk => ⟨(), σ, hk, Kp.refl _⟩
  | [p], [x], σ, k, r, hk => by
    simp only [argsK] at hk
    obtain ⟨y, _, s, hk, h⟩ := argK_kp (β := Unit) (fun σ k hk => ⟨(), σ, hk, Kp.refl _⟩) hk
    exact ⟨y, s, hk, h⟩
  | p :: p' :: r', x :: xs, σ, k, r, hk => by
    simp only [argsK] at hk
    obtain ⟨y, ys, s, hk, h⟩ := argK_kp (fun σ k hk => argsK_kp al (p' :: r') xs σ k r hk) hk
    exact ⟨_, s, hk, h⟩
  | [], _ :: _, _, _, _, hk => by simp [argsK] at hk
  | [_], [], _, _, _, hk => by simp [argsK] at hk
  | [_], _ :: _ :: _, _, _, _, hk => by simp [argsK] at hk
  | _ :: _ :: _, [], _, _, _, hk => by simp [argsK] at hk

def KpI (C : Ctx) : Prop := ∀ e ∈ C.I, ∀ (xs : List A) (σ σ' : Sg) (x : A), e.K (A × Sg) xs σ (fun v s => some (v, s)) = some (x, σ') → Kp σ σ'

theorem callK_kp (hI : KpI C) {σ : Sg} {f : FuncId} {xs : List A} {v : A} {s : Sg} (hk : (callK C σ f xs fun v s => some (v, s)) = some (v, s)) : Kp σ s := by
  unfold callK at hk
  split at hk
  · rename_i e he
    simp only at hk
    split at hk
    · have h0 : Kp σ (frzArgs (e.rs.any SK.alias || e.ps.any PM.alias) σ e.ps xs) := by
        unfold frzArgs; split
        · exact (freezeAs_frz e.ps xs σ).kp
        · exact Kp.refl _
      obtain ⟨y, s1, hk, h1⟩ := argsK_kp _ e.ps xs _ _ _ hk
      obtain ⟨r, _, hk⟩ := Option.bind_eq_some_iff.1 hk
      split at hk
      · obtain ⟨s2, hk, b1, b2, b3, _⟩ := backK_some e.ps hk
        obtain ⟨xs', s3, hg, h3⟩ := encSs_gs e.rs s2 (by assumption)
        obtain ⟨xs3, s4, _, kp4, hs4⟩ := encSs_shape e.rs s2 (by assumption)
        rw [hs4] at hk
        simp only [Option.some.injEq, Prod.mk.injEq] at hk
        rw [← hk.2]
        exact (h0.trans h1).trans ((⟨b1, by rw [b2]; exact Nat.le_refl _, fun id o ho _ => b3 id o ho⟩ : Kp s1 s2).trans kp4)
      · obtain ⟨xs3, s4, _, kp4, hs4⟩ := encSs_shape e.rs s1 (by assumption)
        rw [hs4] at hk
        simp only [Option.some.injEq, Prod.mk.injEq] at hk
        rw [← hk.2]
        exact (h0.trans h1).trans kp4
    · simp at hk
  · split at hk
    · rename_i e he
      exact hI e (findI_some he).1 _ _ _ _ hk
    · simp at hk

/-- Frozen objects stay. -/
theorem opK_kp (hI : KpI C) {σ : Sg} {op : Op} {v : A} {s : Sg} (hk : (opK C σ op fun v s => some (v, s)) = some (v, s)) : Kp σ s := by
  have same : ∀ {f : {ρ : Type} → (A → Option ρ) → Option ρ}, (∀ (ρ : Type) (k : A → Option ρ), f k = (f some).bind k) → (f fun v => some (v, σ)) = some (v, s) → Kp σ s := fun hf h => by
    rw [hf] at h
    obtain ⟨_, _, h⟩ := Option.bind_eq_some_iff.1 h
    simp only [Option.some.injEq, Prod.mk.injEq] at h
    rw [← h.2]; exact Kp.refl _
  have here : ∀ {x : A} {s' : Sg}, Kp σ s' → some (x, s') = some (v, s) → Kp σ s := fun hs h => by
    simp only [Option.some.injEq, Prod.mk.injEq] at h
    rw [← h.2]; exact hs
  unfold opK at hk
  split at hk
  · exact here (Kp.refl _) hk
  · exact here (Kp.refl _) hk
  · split at hk
    · rename_i cb _; cases cb <;> exact here (Kp.refl _) hk
    · simp at hk
  · exact same (f := fun {ρ} => unK (ρ := ρ) _ _) (fun ρ k => unK_nat k) hk
  · exact same (f := fun {ρ} => binK (ρ := ρ) C _ _ σ _ _) (fun ρ k => binK_nat k) hk
  · exact same (f := fun {ρ} => loadK (ρ := ρ) C σ _ _) (fun ρ k => loadK_nat k) hk
  · unfold storeK at hk
    split at hk
    · split at hk
      · rename_i ho
        simp only at hk
        split at hk
        · exact here (Kp.set _ ho rfl) hk
        · simp at hk
      · simp at hk
    · split at hk
      · rename_i ho
        split at hk
        · obtain ⟨y, l, s1, hk, h1⟩ := tkLs_kp _ _ _ _ _ _ _ hk
          split at hk
          · rename_i ho2
            split at hk
            · obtain ⟨_, _, hk⟩ := Option.bind_eq_some_iff.1 hk
              obtain ⟨_, _, hk⟩ := Option.bind_eq_some_iff.1 hk
              exact here (h1.trans (Kp.set _ ho2 rfl)) hk
            · simp at hk
          · simp at hk
        · simp at hk
      · simp at hk
    · simp at hk
  · exact same (f := fun {ρ} => fieldAddrK (ρ := ρ) C _ _ _) (fun ρ k => fieldAddrK_nat k) hk
  · exact same (f := fun {ρ} => indexAddrK (ρ := ρ) C σ _ _ _) (fun ρ k => indexAddrK_nat k) hk
  · split at hk
    · exact here (Kp.add _ _) hk
    · simp at hk
  · simp only at hk
    split at hk
    · simp at hk
    · exact here (Kp.add _ _) hk
  · exact same (f := fun {ρ} => buildK (ρ := ρ) C σ _ _) (fun ρ k => buildK_nat k) hk
  · unfold buildSliceK at hk
    repeat' split at hk
    all_goals first
      | (simp at hk; done)
      | (obtain ⟨y, s1, hk, h1⟩ := elemsK_kp _ _ _ _ _ _ _ hk
         exact here (h1.trans (Kp.add _ _)) hk)
  · unfold makeSliceK at hk
    repeat' split at hk
    all_goals first
      | (simp at hk; done)
      | (obtain ⟨_, _, hk⟩ := Option.bind_eq_some_iff.1 hk
         exact here (Kp.add _ _) hk)
  · unfold sliceK at hk
    split at hk
    · split at hk
      · rw [intOptK_nat] at hk
        obtain ⟨_, _, hk⟩ := Option.bind_eq_some_iff.1 hk
        rw [intOptK_nat] at hk
        obtain ⟨_, _, hk⟩ := Option.bind_eq_some_iff.1 hk
        obtain ⟨_, _, hk⟩ := Option.bind_eq_some_iff.1 hk
        exact here (Kp.refl _) hk
      · simp at hk
    · split at hk
      · split at hk
        · rw [intOptK_nat] at hk
          obtain ⟨_, _, hk⟩ := Option.bind_eq_some_iff.1 hk
          rw [intOptK_nat] at hk
          obtain ⟨_, _, hk⟩ := Option.bind_eq_some_iff.1 hk
          obtain ⟨_, _, hk⟩ := Option.bind_eq_some_iff.1 hk
          exact here (Kp.refl _) hk
        · simp at hk
      · simp at hk
    · split at hk
      · rename_i ho
        split at hk
        · split at hk
          · split at hk
            · simp at hk
            · rename_i hro
              rw [intOptK_nat] at hk
              obtain ⟨_, _, hk⟩ := Option.bind_eq_some_iff.1 hk
              obtain ⟨_, _, hk⟩ := Option.bind_eq_some_iff.1 hk
              exact here ((Kp.set none ho (by simpa [Ob.ro] using hro)).trans (Kp.add _ _)) hk
          · rw [intOptK_nat] at hk
            obtain ⟨_, _, hk⟩ := Option.bind_eq_some_iff.1 hk
            rw [intOptK_nat] at hk
            obtain ⟨_, _, hk⟩ := Option.bind_eq_some_iff.1 hk
            obtain ⟨_, _, hk⟩ := Option.bind_eq_some_iff.1 hk
            split at hk
            · exact here (Kp.refl _) hk
            · rw [ho] at hk
              exact here (Kp.freeze ho) hk
        · simp at hk
      · simp at hk
    · simp at hk
  · exact same (f := fun {ρ} => extractK (ρ := ρ) _ _) (fun ρ k => extractK_nat k) hk
  · exact same (f := fun {ρ} => convertK (ρ := ρ) C σ _ _ _) (fun ρ k => convertK_nat k) hk
  · exact same (f := fun {ρ} => indexK (ρ := ρ) C _ _ _) (fun ρ k => indexK_nat k) hk
  · split at hk
    · exact here (Kp.refl _) hk
    · exact here (Kp.refl _) hk
    · simp at hk
  · rename_i c
    split at hk
    · rename_i b hb
      unfold builtinK at hk
      split at hk
      · split at hk
        · exact same (f := fun {ρ} => lenK (ρ := ρ) C σ _ _) (fun ρ k => lenK_nat k) hk
        · simp at hk
      · unfold appendK at hk
        split at hk
        · split at hk
          · split at hk
            · split at hk
              · split at hk
                · obtain ⟨d, y, s1, hk, h1⟩ := srcK_kp hk
                  obtain ⟨_, _, hk⟩ := Option.bind_eq_some_iff.1 hk
                  exact here (h1.trans (Kp.add _ _)) hk
                · split at hk
                  · rename_i ho
                    split at hk
                    · obtain ⟨_, _, hk⟩ := Option.bind_eq_some_iff.1 hk
                      obtain ⟨d, y, s1, hk, h1⟩ := srcK_kp hk
                      obtain ⟨_, _, hk⟩ := Option.bind_eq_some_iff.1 hk
                      exact here (((Kp.set none ho rfl).trans h1).trans (Kp.add _ _)) hk
                    · simp at hk
                  · simp at hk
                · simp at hk
              · simp at hk
            · simp at hk
          · simp at hk
        · simp at hk
      · exact same (f := fun {ρ} => max2K (ρ := ρ) true _ _) (fun ρ k => max2K_nat k) hk
      · exact same (f := fun {ρ} => max2K (ρ := ρ) false _ _) (fun ρ k => max2K_nat k) hk
      · simp at hk
    · rename_i f hf
      split at hk
      · exact callK_kp hI hk
      · exact callK_kp hI hk
      · simp at hk
    · simp at hk
  · simp at hk

end
end Go.Proofs.Ytajlabmnpimeeaa.Eng
