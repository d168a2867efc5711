/-
  The engine, part 19. Contracts; what a call is given. No condition.
-/
import Derived.Test.YtajlabmnpimeeaaEng18
namespace Go.Proofs.Ytajlabmnpimeeaa.Eng
open Go
set_option linter.unusedVariables false
set_option linter.unusedSimpArgs false

def ArgV (I : Nat → Prop) (w : World) : (p : PM) → p.den → Value → List Nat → Prop
  | .d nn t, y, v, bs => RdV I w t y v ∧ (nn = true → nnP t y v) ∧ bs = []
  | .f f, _, v, bs => v = .func (.func f) #[] #[] ∧ bs = []
  | .mv dp e t, y, v, bs => OwnV I w dp e t y v bs
  | .io dp e t, y, v, bs => OwnV I w dp e t y v bs

def ArgsV (I : Nat → Prop) (w : World) : (ps : List PM) → PMs.den ps → List Value → List (List Nat) → Prop
  | [], _, [], bss => bss = []
  | [p], y, [v], bss => ∃ bs, bss = [bs] ∧ ArgV I w p y v bs
  | p :: p' :: r, y, v :: vs, bss => ∃ bs rest, bss = bs :: rest ∧ ArgV I w p y.1 v bs ∧ ArgsV I w (p' :: r) y.2 vs rest
  | _, _, _, _ => False

def IoV (I : Nat → Prop) (w : World) : (ps : List PM) → PMo.den ps → List Value → List (List Nat) → Prop
  | [], _, [], bss => bss = []
  | .io dp e t :: r, y, v :: vs, bss => ∃ bs rest, bss = bs :: rest ∧ OwnV I w dp e t y.1 v bs ∧ IoV I w r y.2 vs rest
  | .d _ _ :: r, y, _ :: vs, bss => IoV I w r y vs bss
  | .f _ :: r, y, _ :: vs, bss => IoV I w r y vs bss
  | .mv _ _ _ :: r, y, _ :: vs, bss => IoV I w r y vs bss
  | _, _, _, _ => False

structure CallIn (I : Nat → Prop) (w : World) (bss : List (List Nat)) : Prop where
  nodup : bss.flatten.Nodup
  range : ∀ b ∈ bss.flatten, b < w.heap.size
  acc : ∀ b, I b → b < w.heap.size
  head : ∀ bs ∈ bss, ∀ b, bs.head? = some b → ¬ I b

structure CallOut (I : Nat → Prop) (w w' : World) (bss rbss : List (List Nat)) (I' : Nat → Prop) : Prop where
  os : w'.os = w.os
  tape : w'.tape = w.tape
  output : w'.output = w.output
  size : w.heap.size ≤ w'.heap.size
  frame : ∀ b, b < w.heap.size → (∀ bs ∈ bss, bs.head? ≠ some b) → w'.heap[b]? = w.heap[b]?
  imm : ∀ b, I' b → b < w'.heap.size ∧ (b < w.heap.size → I b ∨ b ∈ bss.flatten)
  nodup : rbss.flatten.Nodup
  range : ∀ b ∈ rbss.flatten, b < w'.heap.size ∧ (b < w.heap.size → b ∈ bss.flatten)
  head : ∀ bs ∈ rbss, ∀ b, bs.head? = some b → ¬ I' b ∧ (b < w.heap.size → ∃ q ∈ bss, q.head? = some b)

def retV (vs : List Value) : Value :=
  match vs with
  | [v] => v
  | vs => .tuple vs.toArray

/-- The contract of a callee: it is the plain function 'F', slices handed over and handed back. -/
def Ctr (P : Program) (e : CallE) : Prop :=
  ∀ x r, e.F x = some r → ∀ (I : Nat → Prop) (w : World) (vs : List Value) (bss : List (List Nat)), CallIn I w bss → ArgsV I w e.ps x vs bss →
    Calls P e.f vs.toArray w fun ex w' => ∃ (I' : Nat → Prop) (rvs : List Value) (rbss ibss : List (List Nat)), ex = .returned (retV rvs) ∧ CallOut I w w' bss (ibss ++ rbss) I' ∧
      SVs I' w' e.rs (resB (hasIo e.ps) r).1 rvs rbss ∧ ((resB (hasIo e.ps) r).2 = none → ibss = []) ∧ ∀ o, (resB (hasIo e.ps) r).2 = some o → IoV I' w' e.ps o vs ibss

/-- What an entry for a function that is run in its caller's state must give. -/
structure InOk (P : Program) (e : InE) : Prop where
  kp : e.dr = true → ∀ (xs : List A) (σ σ' : Sg) (x : A), e.K (A × Sg) xs σ (fun v s => some (v, s)) = some (x, σ') → Kp σ σ'
  nat : ∀ (ρ : Type) (xs : List A) (σ : Sg) (k : A → Sg → Option ρ), e.K ρ xs σ k = (e.K (A × Sg) xs σ fun v s => some (v, s)).bind fun p => k p.1 p.2
  ok : ∀ {E : En} {G : Gh} {σ σ' : Sg} {a : Act} {w : World} {xs : List A} {vs : List Value} {x : A}, RelG E G σ a w → VAs (Imm E G σ w) σ.hp.length G w xs vs → e.K (A × Sg) xs σ (fun v s => some (v, s)) = some (x, σ') →
    Kp σ σ' ∧ Calls P e.f vs.toArray w fun ex w' => ∃ val, ex = .returned val ∧ ∃ G', RelG E G' σ' a w' ∧ GA E σ σ' G G' w w' ∧ VA (Imm E G' σ' w') σ'.hp.length G' w' x val

section
variable {ρ : Type} {C : Ctx} {E : En} {G : Gh} {σ σ' : Sg} {a : Act} {w : World} {ids : List Nat}

theorem freezeAs_frz : (ps : List PM) → (xs : List A) → (σ : Sg) → Frz σ (freezeAs σ ps xs)
  | [], xs, σ => by cases xs <;> simp only [freezeAs] <;> exact .refl _
  | .d nn t :: ps, x :: r, σ => by simp only [freezeAs]; exact (Frz.foldl _ (.refl _)).trans (freezeAs_frz ps r _)
  | .f _ :: ps, x :: r, σ => by simp only [freezeAs]; exact freezeAs_frz ps r _
  | .mv _ _ _ :: ps, x :: r, σ => by simp only [freezeAs]; exact freezeAs_frz ps r _
  | .io _ _ _ :: ps, x :: r, σ => by simp only [freezeAs]; exact freezeAs_frz ps r _
  | .d nn t :: ps, [], σ => by simp only [freezeAs]; exact .refl _
  | .f _ :: ps, [], σ => by simp only [freezeAs]; exact .refl _
  | .mv _ _ _ :: ps, [], σ => by simp only [freezeAs]; exact .refl _
  | .io _ _ _ :: ps, [], σ => by simp only [freezeAs]; exact .refl _

/-- What a callee may read. -/
def Sb (E : En) (G : Gh) (σ : Sg) (w : World) (al : Bool) (ids : List Nat) (b : Nat) : Prop := if al then Imm E G σ w b else Rdb E G w ids b

theorem Imm.sb (hm : Mine σ ids) {al : Bool} {b : Nat} (h : Imm E G σ w b) : Sb E G σ w al ids b := by
  unfold Sb; split
  · exact h
  · exact h.rdb hm

theorem OwnV.imp {I I' : Nat → Prop} {dp : Bool} {e : TypeId} {t : Ty} {x : List t.den} {v : Value} {bs : List Nat} (h : OwnV I w dp e t x v bs) (hI : ∀ b, I b → I' b) : OwnV I' w dp e t x v bs :=
  h.keep (fun b hb => ⟨hI b hb, rfl⟩) fun _ _ => rfl

theorem argD_some {al nn : Bool} {t : Ty} {x : A} {k : t.den → Option ρ} {r : ρ} {v : Value} (h : RelG E G σ a w) (hg : Gone σ σ' ids) (hm : Mine σ ids)
    (hk : (match !al || okA σ' x with
      | true => rdA σ' t x fun y => nnA nn t x y (k y)
      | false => none) = some r) (hv : VA (Imm E G σ w) σ.hp.length G w x v) :
    ∃ y, k y = some r ∧ RdV (Sb E G σ w al ids) w t y v ∧ (nn = true → nnP t y v) := by
  split at hk
  · rename_i hok
    obtain ⟨y, h1, h2, h3, h4⟩ := rdA_gone h hg hm hk hv
    have hs : RdV (Sb E G σ w al ids) w t y v := by
      unfold Sb
      cases al with
      | true => simp only [if_true]; exact h3 (by simpa using hok)
      | false => simp only [Bool.false_eq_true, if_false]; exact h2
    obtain ⟨h5, h6⟩ := nnA_some h1 h4
    exact ⟨y, h5, hs, h6⟩
  · simp at hk

/-- One argument, the rest behind it. -/
theorem argK_some {β : Type} {al : Bool} {p : PM} {x : A} {rest : Sg → (β → Sg → Option ρ) → Option ρ} {k : p.den → β → Sg → Option ρ} {r : ρ} {v : Value} {Q : List Nat → β → List (List Nat) → Prop}
    (h : RelG E G σ a w) (hg : Gone σ σ' ids) (hm : Mine σ ids) (hk : argK al p x σ' rest k = some r) (hv : VA (Imm E G σ w) σ.hp.length G w x v)
    (hr : ∀ (ids : List Nat) (σ' : Sg) (k : β → Sg → Option ρ), Gone σ σ' ids → Mine σ ids → rest σ' k = some r → ∃ ys σ2 new bss, k ys σ2 = some r ∧ Took G σ σ2 ids new bss ∧ Q (ids ++ new) ys bss) :
    ∃ y ys σ2 new bs bss, k y ys σ2 = some r ∧ Took G σ σ2 ids new (bs :: bss) ∧ ArgV (Sb E G σ w al (ids ++ new)) w p y v bs ∧ Q (ids ++ new) ys bss := by
  unfold argK at hk
  split at hk
  · obtain ⟨ys, σ2, new, bss, h1, h2, h3⟩ := hr ids σ' _ hg hm hk
    obtain ⟨y, h4, h5, h6⟩ := argD_some h h2.gone (hm.append h2.mine) h1 hv
    exact ⟨y, ys, σ2, new, [], bss, h4, ⟨h2.gone, h2.mine, h2.fresh, h2.nodup, by simpa using h2.cls.nodup, fun q hq => by
      rcases List.mem_cons.1 hq with rfl | hq
      · simp
      · exact h2.cls.mem q hq, fun q hq => by
      rcases List.mem_cons.1 hq with rfl | hq
      · simp
      · exact h2.cls.head q hq⟩, ⟨h5, h6, rfl⟩, h3⟩
  · split at hk
    · split at hk
      · rename_i hf
        subst hf
        obtain ⟨ys, σ2, new, bss, h1, h2, h3⟩ := hr ids σ' _ hg hm hk
        refine ⟨(), ys, σ2, new, [], bss, h1, ⟨h2.gone, h2.mine, h2.fresh, h2.nodup, by simpa using h2.cls.nodup, fun q hq => ?_, fun q hq => ?_⟩, ⟨hv, rfl⟩, h3⟩
        · rcases List.mem_cons.1 hq with rfl | hq
          · simp
          · exact h2.cls.mem q hq
        · rcases List.mem_cons.1 hq with rfl | hq
          · simp
          · exact h2.cls.head q hq
      · simp at hk
    · simp at hk
  · split at hk
    · obtain ⟨y, σ1, n1, bs, h1, h2, h3⟩ := tkO_some h hg hk hv
      obtain ⟨ys, σ2, n2, bss, h4, h5, h6⟩ := hr _ σ1 _ h2.gone (hm.append h2.mine) h1
      have ht := Took.trans h h2 h5
      rw [List.append_assoc] at h6
      exact ⟨y, ys, σ2, n1 ++ n2, bs, bss, h4, ht, h3.imp fun b hb => hb.sb (hm.append ht.mine), h6⟩
    · simp at hk
  · split at hk
    · rename_i id
      split at hk
      · rename_i dp' e' t' y ho
        split at hk
        · rename_i hc
          obtain ⟨rfl, rfl⟩ := hc
          generalize hca : castT (.list t') _ y = q at hk
          cases q with
          | none => simp at hk
          | some z =>
            simp only [Option.bind_some] at hk
            obtain ⟨e0, rfl⟩ := castT_some hca
            simp only [Ty.list.injEq] at e0
            subst e0
            obtain ⟨hni, ho'⟩ := hg.sub ho
            obtain ⟨_, rfl, _⟩ := hv
            have hor := h.obs id _ ho'
            simp only [OR] at hor
            have hmine : Mine σ [id] := fun i hi => by simp only [List.mem_singleton] at hi; subst hi; exact ⟨_, ho', rfl⟩
            have t1 : Took G σ (setHp σ' id none) ids [id] [(G id).2] := ⟨hg.step ho, hmine, fun i hi => by simp only [List.mem_singleton] at hi; subst hi; exact hni, by simp, by simpa using h.nodup id _ ho' rfl,
              fun q hq b hb => by simp only [List.mem_singleton] at hq; subst hq; exact ⟨id, by simp, hb⟩,
              fun q hq b hb => by simp only [List.mem_singleton] at hq; subst hq; exact ⟨id, by simp, hb⟩⟩
            obtain ⟨ys, σ2, n2, bss, h4, h5, h6⟩ := hr _ _ _ t1.gone (hm.append hmine) hk
            have ht := Took.trans h t1 h5
            rw [List.append_assoc] at h6
            exact ⟨_, ys, σ2, [id] ++ n2, _, bss, h4, ht, hor.imp fun b hb => hb.sb (hm.append ht.mine), h6⟩
        · simp at hk
      · simp at hk
    · simp at hk

theorem argsK_some {al : Bool} : (ps : List PM) → {ids : List Nat} → {σ' : Sg} → {xs : List A} → {k : PMs.den ps → Sg → Option ρ} → {r : ρ} → {vs : List Value} → (h : RelG E G σ a w) → (hg : Gone σ σ' ids) → (hm : Mine σ ids) →
    (hk : argsK al ps xs σ' k = some r) → (hv : VAs (Imm E G σ w) σ.hp.length G w xs vs) → ∃ y σ2 new bss, k y σ2 = some r ∧ Took G σ σ2 ids new bss ∧ ArgsV (Sb E G σ w al (ids ++ new)) w ps y vs bss
  | [], ids, σ', [], k, r, [], h, hg, hm, hk, hv => ⟨(), σ', [], [], hk, Took.none hg, rfl⟩
  | [p], ids, σ', [x], k, r, [v], h, hg, hm, hk, hv => by
    simp only [argsK] at hk
    obtain ⟨y, _, σ2, new, bs, bss, h1, h2, h3, h4⟩ := argK_some (Q := fun _ _ bss => bss = []) h hg hm hk hv.1 fun ids σ' k hg hm hk => ⟨(), σ', [], [], hk, Took.none hg, rfl⟩
    subst h4
    exact ⟨y, σ2, new, [bs], h1, h2, bs, rfl, h3⟩
  | p :: p' :: r', ids, σ', x :: xs, k, r, v :: vs, h, hg, hm, hk, hv => by
    simp only [argsK] at hk
    obtain ⟨y, ys, σ2, new, bs, bss, h1, h2, h3, h4⟩ := argK_some (Q := fun ids ys bss => ArgsV (Sb E G σ w al ids) w (p' :: r') ys vs bss) h hg hm hk hv.1
      fun ids σ' k hg hm hk => argsK_some (p' :: r') h hg hm hk hv.2
    exact ⟨(y, ys), σ2, new, bs :: bss, h1, h2, bs, bss, rfl, h3, h4⟩
  | [], _, _, _ :: _, _, _, _, _, _, _, hk, _ => by simp [argsK] at hk
  | [_], _, _, [], _, _, _, _, _, _, hk, _ => by simp [argsK] at hk
  | [_], _, _, _ :: _ :: _, _, _, _, _, _, _, hk, _ => by simp [argsK] at hk
  | _ :: _ :: _, _, _, [], _, _, _, _, _, _, hk, _ => by simp [argsK] at hk
  | [], _, _, [], _, _, _ :: _, _, _, _, _, hv => hv.elim
  | [_], _, _, [_], _, _, [], _, _, _, _, hv => hv.elim
  | [_], _, _, [_], _, _, _ :: _ :: _, _, _, _, _, hv => hv.2.elim
  | _ :: _ :: _, _, _, _ :: _, _, _, [], _, _, _, _, hv => hv.elim

end
end Go.Proofs.Ytajlabmnpimeeaa.Eng
