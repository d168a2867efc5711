/-
  The engine, part 35. Calls that are run in their caller's state. No condition.
-/
import Derived.Test.YtajlabmnpimeeaaEng25
namespace Go.Proofs.Ytajlabmnpimeeaa.Eng
open Go
set_option linter.unusedVariables false
set_option linter.unusedSimpArgs false

section
variable {ρ : Type} {C : Ctx} {σ : Sg}

theorem putK_nat {d : Option Tmp} {v : A} (K : Sg → Option ρ) : putK σ d v K = (putK σ d v some).bind K := by
  unfold putK
  cases d with
  | none => rfl
  | some d =>
    have : ∀ (β : Type) (l : List A) (n : Nat) (f : List A → Sg) (k : Sg → Option β), (setK l n v fun e => k (f e)) = (setK l n v fun e => some (f e)).bind k := by
      intro β l
      induction l with
      | nil => intro n f k; rfl
      | cons x l ih =>
        intro n f k
        cases n with
        | zero => rfl
        | succ n => exact ih n (fun e => f (x :: e)) k
    exact this ρ σ.env d (fun env => { σ with env := env }) K

theorem natThen {f : (ρ : Type) → (Sg → Option ρ) → Option ρ} (hf : ∀ (ρ : Type) (K : Sg → Option ρ), f ρ K = (f Sg some).bind K) {β γ : Type} {K : γ → Option β} {g : Sg → Option β} {h : Sg → Option γ} (hg : ∀ s, g s = (h s).bind K) : f β g = (f γ h).bind K := by
  rw [hf β g, hf γ h, Option.bind_assoc]
  congr 1; funext s; exact hg s

theorem natOp (hN : NatI C) {op : Op} {β γ : Type} {K : γ → Option β} {g : A → Sg → Option β} {h : A → Sg → Option γ} (hg : ∀ v s, g v s = (h v s).bind K) : opK C σ op g = (opK C σ op h).bind K := by
  rw [opK_nat hN g, opK_nat hN h, Option.bind_assoc]
  congr 1; funext p; exact hg p.1 p.2

theorem natPut {d : Option Tmp} {v : A} {β γ : Type} {K : γ → Option β} {g : Sg → Option β} {h : Sg → Option γ} (hg : ∀ s, g s = (h s).bind K) : putK σ d v g = (putK σ d v h).bind K :=
  natThen (f := fun ρ => putK (ρ := ρ) σ d v) (fun ρ K => putK_nat K) hg

theorem operK_nat (hN : NatI C) {ops : Array Oper} {o : Oper} (K : Sg → Option ρ) : operK C ops σ o K = (operK C ops σ o some).bind K := by
  have hr : ∀ (s : Sg), (opK C s o.op fun v s => putK s o.dst v K) = (opK C s o.op fun v s => putK s o.dst v some).bind K := fun s => natOp hN fun v s => putK_nat K
  unfold operK
  split
  · exact hr _
  · split
    · split
      · rename_i want _ _ _ _ _ _ b _
        cases b
        · simp only [cond_false]; refine natPut fun s => ?_
          cases want
          · exact hr _
          · exact putK_nat K
        · simp only [cond_true]; refine natPut fun s => ?_
          cases want
          · exact putK_nat K
          · exact hr _
      · exact putK_nat K
      · rfl
    · rfl

theorem opersK_nat (hN : NatI C) {ops : Array Oper} : (l : List Oper) → (σ : Sg) → (ρ : Type) → (K : Sg → Option ρ) → opersK C ops σ l K = (opersK C ops σ l some).bind K
  | [], _, _, _ => rfl
  | o :: r, σ, ρ, K => natThen (f := fun ρ => operK (ρ := ρ) C ops σ o) (fun ρ K => operK_nat hN K) fun s => opersK_nat hN r s ρ K

theorem drawK_nat (hN : NatI C) {ops : Array Oper} {th ds : List Nat} {m base k : Nat} : (l : List Oper) → (i : Nat) → (ancL used : List Nat) → (σ : Sg) → (ρ : Type) → (K : Sg → Option ρ) →
    drawK C ops th ds m base k i l ancL used σ K = (drawK C ops th ds m base k i l ancL used σ some).bind K
  | [], _, _, _, _, _, _ => rfl
  | o :: r, i, ancL, used, σ, ρ, K => by
    have put : ∀ (s : Sg) (d : Option Tmp) (v : A) (u : List Nat), (putK s d v fun s => drawK C ops th ds m base k (i + 1) r (ancL ++ [ancs ancL o]) u s K) =
        (putK s d v fun s => drawK C ops th ds m base k (i + 1) r (ancL ++ [ancs ancL o]) u s some).bind K := fun s d v u => natPut fun s => drawK_nat hN r (i + 1) _ u s ρ K
    simp only [drawK]
    split
    · split
      · refine natOp hN fun v s => ?_
        split
        · exact put _ _ _ _
        · rfl
      · rfl
    · split
      · split
        · rename_i want _ _ _ _ _ _ _ _ b _
          cases b
          · simp only [cond_false]; refine natPut fun s => ?_
            cases want
            · simp only [cond_false]
              split
              · refine natOp hN fun v s => ?_
                split
                · exact put _ _ _ _
                · rfl
              · rfl
            · exact put _ _ _ _
          · simp only [cond_true]; refine natPut fun s => ?_
            cases want
            · exact put _ _ _ _
            · simp only [cond_true]
              split
              · refine natOp hN fun v s => ?_
                split
                · exact put _ _ _ _
                · rfl
              · rfl
        · exact put _ _ _ _
        · rfl
      · rfl

theorem regionD_nat {id : Nat} (hN : NatI C) {ops : Array Oper} (K : Sg → Option ρ) : regionD C id ops σ K = (regionD C id ops σ some).bind K := by
  unfold regionD
  simp only
  split
  · refine natThen (f := fun ρ => drawK (ρ := ρ) { C with I := C.I.filter (·.dr) } ops _ _ _ _ 4 0 _ [] [] _) (fun ρ K => drawK_nat (fun e he => hN e (List.mem_filter.1 he).1) _ _ _ _ _ ρ K) fun s => opersK_nat hN _ _ _ _
  · rfl

theorem seqK_nat (hN : NatI C) {ops : Array Oper} {an : List Nat} : (ord : List Nat) → (listed : Array Bool) → (σ : Sg) → (ρ : Type) → (K : Sg → Option ρ) → seqK C ops an ord listed σ K = (seqK C ops an ord listed σ some).bind K
  | [], listed, σ, ρ, K => by
    simp only [seqK]
    split <;> rfl
  | i :: r, listed, σ, ρ, K => by
    simp only [seqK]
    split
    · exact natThen (f := fun ρ => operK (ρ := ρ) C ops σ _) (fun ρ K => operK_nat hN K) fun s => seqK_nat hN r _ s ρ K
    · rfl

theorem regionX_nat {id : Nat} (hN : NatI C) {ops : Array Oper} (K : Sg → Option ρ) : regionX C id ops σ K = (regionX C id ops σ some).bind K := by
  unfold regionX
  split
  · unfold regionS
    split
    · exact seqK_nat hN _ _ _ _ _
    · rfl
  · exact regionD_nat hN K

theorem frameK_nat {ws : List Nat} {β γ : Type} {K : γ → Option β} {g : Sg → Option β} {h : Sg → Option γ} (hg : ∀ s, g s = (h s).bind K) : frameK ws σ g = (frameK ws σ h).bind K := by
  rw [frameK_eq, frameK_eq]; exact hg _

theorem nnK_nat {nn : Bool} {t : Ty} {x : L} {y : t.den} (k : Option ρ) : nnK nn t x y k = (nnK nn t x y (some ())).bind fun _ => k := by
  unfold nnK
  split
  · exact nnL_nat k
  · rfl

theorem decL_nat {c : LK} {x : L} (k : c.den → Sg → Option ρ) : decL σ c x k = (decL σ c x fun y s => some (y, s)).bind fun p => k p.1 p.2 := by
  cases c with
  | d nn t =>
    simp only [decL]
    split
    · rw [rdL_nat (ρ := ρ), rdL_nat (ρ := LK.den (.d nn t) × Sg), Option.bind_assoc]
      congr 1; funext y
      rw [nnK_nat (ρ := ρ), nnK_nat (ρ := LK.den (.d nn t) × Sg), Option.bind_assoc]; rfl
    · rfl
  | o dp e t => exact tkO_nat k

theorem decLs_nat : (cs : List LK) → (ls : List L) → (σ : Sg) → (ρ : Type) → (k : LKs.den cs → Sg → Option ρ) → decLs cs ls σ k = (decLs cs ls σ fun y s => some (y, s)).bind fun p => k p.1 p.2
  | [], [], _, _, _ => rfl
  | [], _ :: _, _, _, _ => rfl
  | [c], [x], σ, ρ, k => decL_nat k
  | [_], [], _, _, _ => rfl
  | [_], _ :: _ :: _, _, _, _ => rfl
  | c :: c' :: r, [], _, _, _ => rfl
  | c :: c' :: r, x :: xs, σ, ρ, k => by
    simp only [decLs]
    rw [decL_nat (ρ := ρ), decL_nat (ρ := LKs.den (c :: c' :: r) × Sg), Option.bind_assoc]
    congr 1; funext p
    rw [decLs_nat (c' :: r) xs p.2 ρ, decLs_nat (c' :: r) xs p.2 (LKs.den (c :: c' :: r) × Sg), Option.bind_assoc]; rfl

theorem decS_nat {c : SK} {x : A} (k : c.den → Sg → Option ρ) : decS c x σ k = (decS c x σ fun y s => some (y, s)).bind fun p => k p.1 p.2 := by
  cases c with
  | l c =>
    cases x with
    | l x => exact decL_nat k
    | a ls =>
      cases c with
      | d nn t =>
        simp only [decS]
        split
        · rw [rdA_nat (ρ := ρ), rdA_nat (ρ := SK.den (.l (.d nn t)) × Sg), Option.bind_assoc]; rfl
        · rfl
      | o dp e t => rfl
    | t ps => rfl
  | a cs =>
    simp only [decS]
    split
    · exact decLs_nat _ _ _ _ k
    · exact decLs_nat _ _ _ _ k
    · rfl
  | b e cs =>
    simp only [decS]
    split
    · split
      · split
        · exact decLs_nat _ _ _ _ k
        · rfl
      · rfl
    · rfl

theorem decSs_nat : (cs : List SK) → (xs : List A) → (σ : Sg) → (ρ : Type) → (k : SKs.den cs → Sg → Option ρ) → decSs cs xs σ k = (decSs cs xs σ fun y s => some (y, s)).bind fun p => k p.1 p.2
  | [], [], _, _, _ => rfl
  | [], _ :: _, _, _, _ => rfl
  | [c], [x], σ, ρ, k => decS_nat k
  | [_], [], _, _, _ => rfl
  | [_], _ :: _ :: _, _, _, _ => rfl
  | c :: c' :: r, [], _, _, _ => rfl
  | c :: c' :: r, x :: xs, σ, ρ, k => by
    simp only [decSs]
    rw [decS_nat (ρ := ρ), decS_nat (ρ := SKs.den (c :: c' :: r) × Sg), Option.bind_assoc]
    congr 1; funext p
    rw [decSs_nat (c' :: r) xs p.2 ρ, decSs_nat (c' :: r) xs p.2 (SKs.den (c :: c' :: r) × Sg), Option.bind_assoc]; rfl

theorem takeSs_nat {cs : List SK} {xs : List A} {β γ : Type} {K : γ → Option β} {g : SKs.den cs → Sg → Option β} {h : SKs.den cs → Sg → Option γ} (hg : ∀ y s, g y s = (h y s).bind K) : takeSs σ cs xs g = (takeSs σ cs xs h).bind K := by
  unfold takeSs
  rw [decSs_nat cs xs _ β, decSs_nat cs xs _ γ, Option.bind_assoc]
  congr 1; funext p; exact hg _ _

theorem putsK_nat : (ps : List (Nat × SK)) → (xs : List A) → (σ : Sg) → {β γ : Type} → {K : γ → Option β} → {g : Sg → Option β} → {h : Sg → Option γ} → (hg : ∀ s, g s = (h s).bind K) → putsK σ ps xs g = (putsK σ ps xs h).bind K
  | [], [], σ, _, _, _, _, _, hg => hg σ
  | [], _ :: _, _, _, _, _, _, _, _ => rfl
  | (p, _) :: r, [], _, _, _, _, _, _, _ => rfl
  | (p, _) :: r, x :: xs, σ, _, _, _, _, _, hg => natPut fun s => putsK_nat r xs s hg

theorem layK_nat {ps : List (Nat × SK)} {x : SKs.den (ps.map (·.2))} {β γ : Type} {K : γ → Option β} {g : Sg → Option β} {h : Sg → Option γ} (hg : ∀ s, g s = (h s).bind K) : layK σ ps x g = (layK σ ps x h).bind K := by
  unfold layK
  rw [encSs_nat (ρ := β), encSs_nat (ρ := γ), Option.bind_assoc]
  congr 1; funext p; exact putsK_nat ps _ _ hg

theorem codeK_nat (hN : NatI C) (c : Code) : ∀ (β γ : Type) (σ : Sg) (K : γ → Option β) (g : AEx → Sg → Option β) (h : AEx → Sg → Option γ), (∀ e s, g e s = (h e s).bind K) → codeK C c β σ g = (codeK C c γ σ h).bind K := by
  induction c with
  | skip => intro β γ σ K g h hg; exact hg _ _
  | region id ops draw =>
    intro β γ σ K g h hg
    cases draw with
    | true => exact natThen (f := fun ρ => regionX (ρ := ρ) C id ops σ) (fun ρ K => regionX_nat hN K) fun s => hg _ s
    | false => exact natThen (f := fun ρ => opersK (ρ := ρ) C ops σ ops.toList) (fun ρ K => opersK_nat hN _ _ _ K) fun s => hg _ s
  | seq x y ihx ihy =>
    intro β γ σ K g h hg
    simp only [codeK]
    refine ihx _ _ _ _ _ _ fun e s => ?_
    cases e with
    | normal => exact ihy _ _ _ _ _ _ hg
    | exit id => exact hg _ _
    | ret => exact hg _ _
  | cond c x y ihx ihy =>
    intro β γ σ K g h hg
    simp only [codeK]
    split
    · rename_i b _
      cases b
      · exact ihy _ _ _ _ _ _ hg
      · exact ihx _ _ _ _ _ _ hg
    · rfl
  | block id c ih =>
    intro β γ σ K g h hg
    simp only [codeK]
    refine ih _ _ _ _ _ _ fun e s => ?_
    cases e with
    | normal => exact hg _ _
    | ret => exact hg _ _
    | exit id' =>
      simp only
      split
      · exact hg _ _
      · exact hg _ _
  | exit id => intro β γ σ K g h hg; exact hg _ _
  | ret => intro β γ σ K g h hg; exact hg _ _
  | loop c ih =>
    intro β γ σ K g h hg
    simp only [codeK]
    split
    · rfl
    · refine takeSs_nat fun y s => frameK_nat fun s => ?_
      split
      · rw [Option.bind_assoc]; congr 1; funext z; exact layK_nat fun s => hg _ s
      · rw [Option.bind_assoc]; congr 1; funext z; exact layK_nat fun s => hg _ s
      · rw [Option.bind_assoc]; congr 1; funext z
        cases z with
        | inl z => exact layK_nat fun s => hg _ s
        | inr z => exact layK_nat fun s => hg _ s
      · rfl
  | _ => intro β γ σ K g h hg; simp [codeK]

theorem resK_nat : (l : List ResultVar) → {β γ : Type} → {K : γ → Option β} → {g : List A → Option β} → {h : List A → Option γ} → (hg : ∀ as, g as = (h as).bind K) → resK C σ l g = (resK C σ l h).bind K
  | [], _, _, _, _, _, hg => hg _
  | .tmp t :: r, _, _, _, _, _, hg => by simp only [resK]; exact resK_nat r fun as => hg _
  | .cell a t :: r, β, γ, _, g, h, hg => by
    simp only [resK]
    split
    · rename_i id j _
      rw [loadK_nat (ρ := β), loadK_nat (ρ := γ), Option.bind_assoc]
      congr 1; funext x; exact resK_nat r fun as => hg _
    · rfl

end

section
variable {ρ : Type} {C : Ctx} {E : En} {G G' : Gh} {σ σ' : Sg} {a : Act} {w : World}

theorem natI (hC : Ctrs C) : NatI C := fun e he => (hC.inl e he).2.nat

theorem inlK_nat (hC : Ctrs C) {fn : Func} (xs : List A) (σ : Sg) (k : A → Sg → Option ρ) : inlK C fn ρ xs σ k = (inlK C fn (A × Sg) xs σ fun v s => some (v, s)).bind fun p => k p.1 p.2 := by
  unfold inlK
  split
  · refine codeK_nat (natI hC) _ _ _ _ _ _ _ fun e s => ?_
    cases e with
    | exit id => rfl
    | normal =>
      refine resK_nat _ fun as => ?_
      split <;> rfl
    | ret =>
      refine resK_nat _ fun as => ?_
      split <;> rfl
  · rfl

/-! Frozen objects stay, also without a machine. -/

structure Kq (σ σ' : Sg) : Prop where
  n : σ.hp.length ≤ σ'.hp.length
  ob : ∀ id o, σ.ob id = some o → o.ro = true → σ'.ob id = some o

theorem Kq.refl (σ : Sg) : Kq σ σ := ⟨Nat.le_refl _, fun _ _ h _ => h⟩
theorem Kq.trans {a b c : Sg} (h : Kq a b) (k : Kq b c) : Kq a c := ⟨Nat.le_trans h.n k.n, fun id o ho hr => k.ob id o (h.ob id o ho hr) hr⟩
theorem Kq.of {a b : Sg} (h : a.hp = b.hp) : Kq a b := ⟨by rw [h]; exact Nat.le_refl _, fun id o ho _ => by unfold Sg.ob at ho ⊢; rw [← h]; exact ho⟩
theorem Kp.kq {a b : Sg} (h : Kp a b) : Kq a b := ⟨h.n, h.ob⟩

theorem putK_kq {d : Option Tmp} {v : A} {K : Sg → Option ρ} {r : ρ} (hk : putK σ d v K = some r) : ∃ σ', K σ' = some r ∧ Kq σ σ' := by
  unfold putK at hk
  cases d with
  | none => exact ⟨σ, hk, Kq.refl _⟩
  | some d =>
    have : ∀ (l : List A) (n : Nat) (k : List A → Option ρ), setK l n v k = some r → ∃ l', k l' = some r := by
      intro l
      induction l with
      | nil => intro n k h; exact ⟨_, h⟩
      | cons x l ih =>
        intro n k h
        cases n with
        | zero => exact ⟨_, h⟩
        | succ n => exact (ih n (fun e => k (x :: e)) h).elim fun l' hl => ⟨_, hl⟩
    obtain ⟨l', hl⟩ := this σ.env d (fun env => K { σ with env := env }) hk
    exact ⟨_, hl, Kq.of rfl⟩

theorem operK_kq (hI : KpI C) (hN : NatI C) {ops : Array Oper} {o : Oper} {K : Sg → Option ρ} {r : ρ} (hk : operK C ops σ o K = some r) : ∃ σ', K σ' = some r ∧ Kq σ σ' := by
  have hr : ∀ (s : Sg), (opK C s o.op fun v s => putK s o.dst v K) = some r → ∃ σ', K σ' = some r ∧ Kq s σ' := fun s h => by
    rw [opK_nat hN] at h
    obtain ⟨⟨v, s'⟩, h1, h2⟩ := Option.bind_eq_some_iff.1 h
    obtain ⟨σ', h3, h4⟩ := putK_kq h2
    exact ⟨σ', h3, (opK_kp hI h1).kq.trans h4⟩
  unfold operK at hk
  split at hk
  · exact hr _ hk
  · split at hk
    · split at hk
      · rename_i want _ _ _ _ _ _ b _
        cases b
        · simp only [cond_false] at hk
          obtain ⟨s, h1, h2⟩ := putK_kq hk
          cases want
          · obtain ⟨s', h3, h4⟩ := hr _ h1; exact ⟨s', h3, h2.trans h4⟩
          · obtain ⟨s', h3, h4⟩ := putK_kq h1; exact ⟨s', h3, h2.trans h4⟩
        · simp only [cond_true] at hk
          obtain ⟨s, h1, h2⟩ := putK_kq hk
          cases want
          · obtain ⟨s', h3, h4⟩ := putK_kq h1; exact ⟨s', h3, h2.trans h4⟩
          · obtain ⟨s', h3, h4⟩ := hr _ h1; exact ⟨s', h3, h2.trans h4⟩
      · exact putK_kq hk
      · simp at hk
    · simp at hk

theorem opersK_kq (hI : KpI C) (hN : NatI C) {ops : Array Oper} : (l : List Oper) → {σ : Sg} → {K : Sg → Option ρ} → {r : ρ} → opersK C ops σ l K = some r → ∃ σ', K σ' = some r ∧ Kq σ σ'
  | [], σ, K, r, hk => ⟨σ, hk, Kq.refl _⟩
  | o :: l, σ, K, r, hk => by
    simp only [opersK] at hk
    obtain ⟨s, h1, h2⟩ := operK_kq hI hN hk
    obtain ⟨s', h3, h4⟩ := opersK_kq hI hN l h1
    exact ⟨s', h3, h2.trans h4⟩

theorem simple_kq (hI : KpI C) (hN : NatI C) (c : Code) : simpleC c = true → ∀ {ρ : Type} {σ : Sg} {k : AEx → Sg → Option ρ} {r : ρ}, codeK C c ρ σ k = some r → ∃ e σ', k e σ' = some r ∧ Kq σ σ' := by
  induction c with
  | skip => intro _ ρ σ k r h; exact ⟨_, _, h, Kq.refl _⟩
  | region id ops draw =>
    intro hs ρ σ k r h
    cases draw with
    | true => simp [simpleC] at hs
    | false =>
      obtain ⟨s, h1, h2⟩ := opersK_kq hI hN _ h
      exact ⟨_, s, h1, h2⟩
  | seq x y ihx ihy =>
    intro hs ρ σ k r h
    simp only [simpleC, Bool.and_eq_true] at hs
    simp only [codeK] at h
    obtain ⟨e, s, h1, h2⟩ := ihx hs.1 h
    cases e with
    | normal => obtain ⟨e, s', h3, h4⟩ := ihy hs.2 h1; exact ⟨e, s', h3, h2.trans h4⟩
    | exit id => exact ⟨_, s, h1, h2⟩
    | ret => exact ⟨_, s, h1, h2⟩
  | cond c x y ihx ihy =>
    intro hs ρ σ k r h
    simp only [simpleC, Bool.and_eq_true] at hs
    simp only [codeK] at h
    split at h
    · rename_i b _
      cases b
      · exact ihy hs.2 h
      · exact ihx hs.1 h
    · simp at h
  | block id c ih =>
    intro hs ρ σ k r h
    simp only [codeK] at h
    obtain ⟨e, s, h1, h2⟩ := ih hs h
    cases e with
    | normal => exact ⟨_, s, h1, h2⟩
    | ret => exact ⟨_, s, h1, h2⟩
    | exit id' =>
      simp only at h1
      split at h1
      · exact ⟨_, s, h1, h2⟩
      · exact ⟨_, s, h1, h2⟩
  | exit id => intro _ ρ σ k r h; exact ⟨_, _, h, Kq.refl _⟩
  | ret => intro _ ρ σ k r h; exact ⟨_, _, h, Kq.refl _⟩
  | _ => intro hs; simp [simpleC] at hs

theorem inlK_kp (hI : C.I = []) {fn : Func} {c : Code} (hb : fn.body = some c) (hs : simpleC c = true) {xs : List A} {σ σ' : Sg} {x : A} (hk : inlK C fn (A × Sg) xs σ (fun v s => some (v, s)) = some (x, σ')) : Kp σ σ' := by
  have hKI : KpI C := fun e he => by rw [hI] at he; simp at he
  have hNI : NatI C := fun e he => by rw [hI] at he; simp at he
  have res : ∀ (l : List ResultVar) (s : Sg) (k : List A → Option (A × Sg)) (r : A × Sg), resK C s l k = some r → ∃ as, k as = some r := by
    intro l s
    induction l with
    | nil => intro k r h; exact ⟨_, h⟩
    | cons v l ih =>
      intro k r h
      cases v with
      | tmp t => simp only [resK] at h; obtain ⟨as, h⟩ := ih _ _ h; exact ⟨_, h⟩
      | cell a t =>
        simp only [resK] at h
        split at h
        · rw [loadK_nat] at h
          obtain ⟨y, _, h⟩ := Option.bind_eq_some_iff.1 h
          obtain ⟨as, h⟩ := ih _ _ h; exact ⟨_, h⟩
        · simp at h
  unfold inlK at hk
  rw [hb] at hk
  simp only at hk
  split at hk
  · rename_i c' hcc _
    obtain rfl := Option.some.inj hcc
    obtain ⟨e, s, h1, h2⟩ := simple_kq hKI hNI c hs hk
    have fin : (resK C s fn.results.toList fun as => match as.all noT with
        | true => some (retA as, ({ env := σ.env, hp := s.hp } : Sg))
        | false => none) = some (x, σ') → Kp σ σ' := fun h => by
      obtain ⟨as, h⟩ := res _ _ _ _ h
      split at h
      · simp only [Option.some.injEq, Prod.mk.injEq] at h
        rw [← h.2]
        exact ⟨rfl, h2.n, h2.ob⟩
      · simp at h
    cases e with
    | normal => exact fin h1
    | ret => exact fin h1
    | exit id => simp at h1
  · simp at hk

/-- The same state behind another activation. -/
def unF (E : En) : En := { E with F := fun _ => False }

theorem RelG.enter (h : RelG E G σ a w) {xs : List A} {vs : List Value} {n : Nat} (hv : VAs (Imm E G σ w) σ.hp.length G w xs vs) (hn : xs.length ≤ n) :
    RelG (unF E) G { env := xs ++ List.replicate (n - xs.length) (.l .unk), hp := σ.hp } { tmps := vs.toArray ++ Array.replicate (n - vs.toArray.size) undef, defers := [] } w := by
  have hl := hv.length'
  exact
  { defers := rfl
    len := by simp; omega
    env := fun t y hy => by
      have hy : (xs ++ List.replicate (n - xs.length) (.l .unk))[t]? = some y := hy
      by_cases ht : t < xs.length
      · rw [List.getElem?_append_left ht] at hy
        have : ∀ (as : List A) (vs : List Value) (t : Nat) (y : A), VAs (Imm E G σ w) σ.hp.length G w as vs → as[t]? = some y → ∃ v, vs[t]? = some v ∧ VA (Imm E G σ w) σ.hp.length G w y v := by
          intro as
          induction as with
          | nil => intro vs t y _ hy; simp at hy
          | cons a as ih =>
            intro vs t y hv hy
            cases vs with
            | nil => exact hv.elim
            | cons v vs =>
              cases t with
              | zero => simp at hy; subst hy; exact ⟨v, rfl, hv.1⟩
              | succ t => simpa using ih vs t y hv.2 (by simpa using hy)
        obtain ⟨v, hv1, hv2⟩ := this xs vs t y hv hy
        have hlt := (List.getElem?_eq_some_iff.1 hv1).1
        have : (vs.toArray ++ Array.replicate (n - vs.toArray.size) undef).getD t undef = v := by
          simp only [Array.getD_eq_getD_getElem?]
          rw [Array.getElem?_append_left (by simpa using hlt)]
          simp [hv1]
        show VA _ _ _ _ y ((vs.toArray ++ Array.replicate (n - vs.toArray.size) undef).getD t undef)
        rw [this]; exact hv2
      · rw [List.getElem?_append_right (by omega), List.getElem?_replicate] at hy
        split at hy
        · obtain rfl := Option.some.inj hy; trivial
        · simp at hy
    obs := h.obs
    nodup := h.nodup
    range := h.range
    hrange := h.hrange
    disj := h.disj
    os := h.os
    tape := h.tape
    output := h.output
    size := h.size
    frame := h.frame
    xa := h.xa
    fixd := fun _ ht => ht.elim }

theorem RelG.back (h : RelG E G σ a w) {σc : Sg} {a' : Act} {w' : World} (hc : σc.hp = σ.hp) (k : RelG (unF E) G' σ' a' w') (ga : GA (unF E) σc σ' G G' w w') :
    RelG E G' { env := σ.env, hp := σ'.hp } a w' ∧ GA E σ { env := σ.env, hp := σ'.hp } G G' w w' := by
  have g : GA E σ { env := σ.env, hp := σ'.hp } G G' w w' := by
    obtain ⟨g1, g2, g3, g4⟩ := ga
    have e : ∀ b, Imm E G σ w b → Imm (unF E) G σc w b := fun b hb => ⟨hb.1, hb.2.1, fun id o ho => hb.2.2 id o (by unfold Sg.ob at ho ⊢; rw [← hc]; exact ho)⟩
    refine ⟨fun b hb => ?_, fun b hb => g2 b (e b hb), by rw [← hc]; exact g3, fun id hi => g4 id (by rw [hc]; exact hi)⟩
    have := g1 b (e b hb)
    exact ⟨this.1, this.2.1, fun id o ho => this.2.2 id o ho⟩
  refine ⟨?_, g⟩
  exact
  { defers := h.defers
    len := h.len
    env := fun t x hx => (h.env t x hx).keep g x
    obs := k.obs
    nodup := k.nodup
    range := k.range
    hrange := k.hrange
    disj := k.disj
    os := k.os
    tape := k.tape
    output := k.output
    size := k.size
    frame := k.frame
    xa := k.xa
    fixd := h.fixd }

theorem inlK_ok (hC : Ctrs C) {f : FuncId} {fn : Func} {c : Code} (dr : Bool) (hdr : dr = true → simpleC c = true ∧ C.I = []) (hf : C.P.funcs[f]? = some fn) (hbody : fn.body = some c) : InOk C.P ⟨f, dr, inlK C fn⟩ := by
  refine ⟨fun hd xs σ σ' x hk => ?_, fun ρ xs σ k => inlK_nat hC xs σ k, @fun E G σ σ' a w xs vs x h hv hk => ?_⟩
  · obtain ⟨h1, h2⟩ := hdr hd
    exact inlK_kp h2 hbody h1 hk
  have hl := hv.length'
  simp only at hk
  unfold inlK at hk
  rw [hbody] at hk
  simp only at hk
  split at hk
  · rename_i c' hcc hb
    obtain rfl := Option.some.inj hcc
    have hle : xs.length ≤ fn.ntmps := Nat.le_of_ble_eq_true hb
    have hcalls : Calls C.P f vs.toArray w fun ex w' => Kp σ σ' ∧ ∃ val, ex = .returned val ∧ ∃ G', RelG E G' σ' a w' ∧ GA E σ σ' G G' w w' ∧ VA (Imm E G' σ' w') σ'.hp.length G' w' x val := by
      refine calls_of_wp hf hbody ?_
      refine codeK_some (E := unF E) hC c (fun t ht hf => hf) (h.enter hv hle) hk _ fun ex σ1 a1 w1 G1 hk2 hr hkc hga => ?_
      have fin : (resK C σ1 fn.results.toList fun as => match as.all noT with
          | true => some (retA as, ({ env := σ.env, hp := σ1.hp } : Sg))
          | false => none) = some (x, σ') → a1.defers = [] ∧ ∃ v, (results fn a1.tmps).run C.P w1 = .ok v w1 ∧
            (Kp σ σ' ∧ ∃ val, Ending.returned v = .returned val ∧ ∃ G', RelG E G' σ' a w1 ∧ GA E σ σ' G G' w w1 ∧ VA (Imm E G' σ' w1) σ'.hp.length G' w1 x val) := fun hk3 => by
        refine ⟨hr.defers, ?_⟩
        obtain ⟨as, rvs, k1, k2, k3, k4⟩ := resK_some hr _ hk3
        split at k1
        · rename_i hall
          simp only [Option.some.injEq, Prod.mk.injEq] at k1
          obtain ⟨rfl, rfl⟩ := k1
          obtain ⟨b1, b2⟩ := h.back (σc := { env := xs ++ List.replicate (fn.ntmps - xs.length) (.l .unk), hp := σ.hp }) rfl hr hga
          refine ⟨retV rvs, run_results k3 k4, ⟨rfl, hkc.n, hkc.ob⟩, _, rfl, G1, b1, b2, ?_⟩
          exact retA_VA as (fun x hx => List.all_eq_true.1 hall x hx) k2
        · simp at k1
      cases ex with
      | normal => exact fin hk2
      | ret => exact fin hk2
      | exit id => simp at hk2
    refine ⟨?_, Calls.mono hcalls fun _ _ h => h.2⟩
    obtain ⟨_, _, _, ⟨kp, _⟩, _⟩ := hcalls []
    exact kp
  · simp at hk

end
end Go.Proofs.Ytajlabmnpimeeaa.Eng
