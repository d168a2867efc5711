/-
  The engine, part 4. Reading and taking over. No condition.
-/
import Derived.Test.YtajlabmnpimeeaaEng3
namespace Go.Proofs.Ytajlabmnpimeeaa.Eng
open Go
set_option linter.unusedVariables false
set_option linter.unusedSimpArgs false

theorem castT_some {t t' : Ty} {x : t.den} {y : t'.den} (h : castT t t' x = some y) : ∃ e : t = t', e ▸ x = y := by
  unfold castT at h
  split at h
  · rename_i e _; exact ⟨e, by simpa using h⟩
  · simp at h

/-- Blocks that may be read, those of the call's own slices too. -/
def Acc (E : En) (w : World) (b : Nat) : Prop := b < w.heap.size ∧ (b < E.B → E.A b)

section
variable {E : En} {G : Gh} {σ : Sg} {a : Act} {w : World}

theorem Imm.acc {b : Nat} (h : Imm E G σ w b) : Acc E w b := ⟨h.1, h.2.1⟩

/-- What a slice of the call's own reads as, in blocks 'S'. -/
theorem OwnV.rd {I S : Nat → Prop} {dp : Bool} {e : TypeId} {t : Ty} {x : List t.den} {v : Value} {bs : List Nat} (h : OwnV I w dp e t x v bs)
    (hI : ∀ b, I b → S b) (hb : ∀ b ∈ bs, S b) : RdV S w (.list t) x v := by
  obtain ⟨hl, cells, bss, ho, hbs, h1, h2, hel⟩ := h
  rcases ho.2 with ⟨hv, hn⟩ | ⟨g, cap, cur, hv, hg, hh, hnc, hcm, hcs, htake⟩
  · subst hv
    refine ⟨[.slice none 0 0], ?_, rfl⟩
    have hx : x = [] := List.eq_nil_of_length_eq_zero hn
    simp only [RdC]
    exact ⟨none, 0, 0, rfl, by simp [hx], Nat.le_refl _, Nat.zero_le _, Nat.zero_le _, fun hne => absurd hx hne⟩
  · subst hv
    refine ⟨[.slice (some ⟨g, 0, none⟩) x.length cap], ?_, rfl⟩
    simp only [RdC]
    refine ⟨_, _, _, rfl, rfl, hnc, hcm, hl, fun hne => ⟨g, 0, rfl, hb g (by rw [hbs]; simp [Value.ownBlock]), fun i y hi => ?_⟩⟩
    obtain ⟨ys, hy1, hy2, hy3⟩ := hel i y hi
    have hil : i < x.length := (List.getElem?_eq_some_iff.1 hi).1
    refine ⟨ys, hy1, fun j hj => ?_, ?_⟩
    · rw [← hy2 j hj, cell_of_row w g _ cur e (0, 0) hh, Nat.zero_add, ← htake, List.getElem?_take, if_pos, Array.getElem?_toList]
      calc i * t.wid + j < i * t.wid + t.wid := by omega
        _ = (i + 1) * t.wid := by rw [Nat.add_mul, Nat.one_mul]
        _ ≤ x.length * t.wid := Nat.mul_le_mul_right _ hil
    · cases dp with
      | true =>
        simp only [if_true] at hy3
        refine hy3.rd t fun b' hb' => hb b' ?_
        rw [hbs]
        cases hg : bss[i]? with
        | none => simp [hg] at hb'
        | some l =>
          simp only [hg, Option.getD_some] at hb'
          exact List.mem_append_right _ (List.mem_flatten.2 ⟨l, List.mem_of_getElem? hg, hb'⟩)
      | false =>
        simp only [Bool.false_eq_true, if_false] at hy3
        exact hy3.mono hI (fun _ _ => rfl) t

theorem RelG.ownRd (h : RelG E G σ a w) {id : Nat} {ro dp : Bool} {e : TypeId} {t : Ty} {x : List t.den} (ho : σ.ob id = some (.own ro dp e t x)) :
    RdV (Acc E w) w (.list t) x (G id).1 := by
  have hor := h.obs id _ ho
  cases ro with
  | true => simp only [OR] at hor; exact hor.mono (fun b hb => hb.acc) fun _ _ => rfl
  | false =>
    simp only [OR] at hor
    exact hor.rd (fun b hb => hb.acc) fun b hb => ⟨(h.range id _ ho rfl b hb).1, fun hB => h.xa b ((h.range id _ ho rfl b hb).2 hB)⟩

abbrev RelG.VLr (_ : RelG E G σ a w) : L → Value → Prop := VL (Imm E G σ w) σ.hp.length G w

theorem rdL_some {ρ : Type} {t : Ty} {x : L} {k : t.den → Option ρ} {r : ρ} {v : Value} (h : RelG E G σ a w) (hk : rdL σ t x k = some r)
    (hv : VL (Imm E G σ w) σ.hp.length G w x v) : ∃ y, k y = some r ∧ RdV (Acc E w) w t y v ∧
      ((∀ id, x ≠ .ref id) → RdV (Imm E G σ w) w t y v) ∧ (∀ id, x = .ref id → ∃ ro dp e t' z, σ.ob id = some (.own ro dp e t' z) ∧ t = .list t' ∧ HEq z y) := by
  unfold rdL at hk
  split at hk
  · rename_i nn t' y
    cases hc : castT t' t y with
    | none => simp [hc] at hk
    | some z =>
      simp only [hc, Option.bind_some] at hk
      obtain ⟨e, rfl⟩ := castT_some hc
      subst e
      exact ⟨_, hk, hv.1.mono (fun b hb => hb.acc) fun _ _ => rfl, fun _ => hv.1, fun id hid => by simp at hid⟩
  · split at hk
    · rename_i t' _
      have : RdV (Imm E G σ w) w (.list t') [] v := by
        simp only [VL] at hv
        subst hv
        refine ⟨[.slice none 0 0], ?_, rfl⟩
        simp only [RdC]
        exact ⟨none, 0, 0, rfl, rfl, Nat.le_refl _, Nat.zero_le _, Nat.zero_le _, fun hne => absurd rfl hne⟩
      exact ⟨_, hk, this.mono (fun b hb => hb.acc) fun _ _ => rfl, fun _ => this, fun id hid => by simp at hid⟩
    · simp at hk
  · rename_i id
    split at hk
    · rename_i ro dp e t' y ho
      cases hc : castT (.list t') t y with
      | none => simp [hc] at hk
      | some z =>
        simp only [hc, Option.bind_some] at hk
        obtain ⟨e', rfl⟩ := castT_some hc
        subst e'
        refine ⟨_, hk, ?_, fun hn => absurd rfl (hn id), fun id' hid' => ?_⟩
        · have := h.ownRd ho
          simp only [VL] at hv
          rw [hv.2.1]; exact this
        · simp only [L.ref.injEq] at hid'
          subst hid'
          exact ⟨ro, dp, e, t', y, ho, rfl, HEq.rfl⟩
    · simp at hk
  · simp at hk

/-- Freezing. -/
theorem RelG.freeze (h : RelG E G σ a w) (id : Nat) (o : Ob) (ho : σ.ob id = some o) : RelG E G (setHp σ id (some o.freeze)) a w := by
  have hlt := Sg.ob_lt ho
  have hob : ∀ i o', (setHp σ id (some o.freeze)).ob i = some o' → (i = id ∧ o' = o.freeze) ∨ (i ≠ id ∧ σ.ob i = some o') := fun i o' ho' => by
    rw [ob_setHp] at ho'; split at ho'
    · rename_i hc; exact .inl ⟨hc.1, (Option.some.inj ho').symm⟩
    · rename_i hc; exact .inr ⟨fun e => hc ⟨e, hlt⟩, ho'⟩
  have hro : o.freeze.ro = true := by cases o <;> rfl
  have himm : ∀ b, Imm E G σ w b → Imm E G (setHp σ id (some o.freeze)) w b ∧ w.heap[b]? = w.heap[b]? := fun b hb =>
    ⟨⟨hb.1, hb.2.1, fun i o' ho' hr' => by
      rcases hob i o' ho' with ⟨rfl, rfl⟩ | ⟨_, h2⟩
      · rw [hro] at hr'; simp at hr'
      · exact hb.2.2 i o' h2 hr'⟩, rfl⟩
  have hk : Keep (Imm E G σ w) (Imm E G (setHp σ id (some o.freeze)) w) σ.hp.length (setHp σ id (some o.freeze)).hp.length G G w w :=
    ⟨fun b hb => (himm b hb).1, fun b hb => (himm b hb).2, by simp, fun _ _ => rfl⟩
  refine h.upd rfl (by simp) (fun _ _ => rfl) rfl rfl rfl (Nat.le_refl _) (fun _ _ _ => rfl) himm (fun i o' ho' => ?_) (fun i o' ho' hr => ?_) (fun i o' ho' hr => ?_) (fun i o' ho' hr => ?_) (fun i j o1 o2 h1 hr1 h2 hr2 => ?_)
  · rcases hob i o' ho' with ⟨rfl, rfl⟩ | ⟨hne, h2⟩
    · have hor := (h.obs i o ho).keep hk hlt rfl o fun _ _ _ => rfl
      -- every block that it claims is now one that no longer changes
      have hmine : o.ro = false → ∀ b ∈ (G i).2, Imm E G (setHp σ i (some o.freeze)) w b := fun hr b hb => by
        have hrg := h.range i o ho hr b hb
        refine ⟨hrg.1, fun hB => h.xa b (hrg.2 hB), fun j o' ho' hr' hhd => ?_⟩
        rcases hob j o' ho' with ⟨rfl, rfl⟩ | ⟨hne, h2⟩
        · rw [hro] at hr'; simp at hr'
        · exact h.disj j i o' o h2 hr' ho hr hne b (List.mem_of_mem_head? hhd) hb
      cases o with
      | own ro dp e t x =>
        cases ro with
        | true => exact hor
        | false =>
          simp only [OR] at hor
          simp only [Ob.freeze, OR]
          exact hor.rd (fun b hb => hb) (hmine rfl)
      | box ro e cs =>
        simp only [OR] at hor
        simp only [Ob.freeze, OR]
        obtain ⟨b, arr, h1, h2, h3, h4⟩ := hor
        refine ⟨b, arr, h1, h2, h3, ?_⟩
        simp only [if_true]
        cases ro with
        | true => simp only [if_true] at h4; exact h4
        | false => exact hmine rfl b (by simp only [Bool.false_eq_true, if_false] at h4; rw [h4]; simp)
    · exact (h.obs i o' h2).keep hk (Sg.ob_lt h2) rfl o' fun _ _ _ => rfl
  · rcases hob i o' ho' with ⟨rfl, rfl⟩ | ⟨_, h2⟩
    · rw [hro] at hr; simp at hr
    · exact h.nodup i o' h2 hr
  · rcases hob i o' ho' with ⟨rfl, rfl⟩ | ⟨_, h2⟩
    · rw [hro] at hr; simp at hr
    · exact h.range i o' h2 hr
  · rcases hob i o' ho' with ⟨rfl, rfl⟩ | ⟨_, h2⟩
    · rw [hro] at hr; simp at hr
    · exact h.hrange i o' h2 hr
  · rcases hob i o1 h1 with ⟨rfl, rfl⟩ | ⟨_, h1'⟩
    · rw [hro] at hr1; simp at hr1
    · rcases hob j o2 h2 with ⟨rfl, rfl⟩ | ⟨_, h2'⟩
      · rw [hro] at hr2; simp at hr2
      · exact h.disj i j o1 o2 h1' hr1 h2' hr2

theorem RelG.freezeL (h : RelG E G σ a w) (x : L) : RelG E G (freezeL σ x) a w := by
  unfold Eng.freezeL
  split
  · split
    · rename_i ho; exact h.freeze _ _ ho
    · exact h
  · exact h

theorem freezeL_len (σ : Sg) (x : L) : (freezeL σ x).hp.length = σ.hp.length := by
  unfold freezeL; split
  · split <;> simp
  · rfl
theorem freezeL_env (σ : Sg) (x : L) : (freezeL σ x).env = σ.env := by
  unfold freezeL; split
  · split <;> rfl
  · rfl

end
end Go.Proofs.Ytajlabmnpimeeaa.Eng
