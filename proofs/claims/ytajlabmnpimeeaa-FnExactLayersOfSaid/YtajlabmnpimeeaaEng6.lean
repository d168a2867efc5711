/-
  The engine, part 6. More operations that leave memory alone. No condition.
-/
import Derived.Test.YtajlabmnpimeeaaEng5
import Derived.Laws.Small
namespace Go.Proofs.Ytajlabmnpimeeaa.Eng
open Go
set_option linter.unusedVariables false
set_option linter.unusedSimpArgs false

section
variable {ρ : Type} {C : Ctx} {E : En} {G : Gh} {σ : Sg} {a : Act} {w : World}

theorem elT_some {t e : TypeId} (h : elT C t = some e) : C.P.underlying t = some (.slice e) := by
  unfold elT at h
  split at h
  · rename_i e' he; obtain rfl := Option.some.inj h; exact he
  · simp at h

theorem szT_some {t : TypeId} {n : Nat} (h : szT C t = some n) : ∃ i, C.P.info? t = some i ∧ i.size = n := by
  unfold szT at h
  cases hi : C.P.info? t with
  | none => simp [hi] at h
  | some i => simp [hi] at h; exact ⟨i, rfl, h⟩

theorem byT_some {t : TypeId} {n : Nat} (h : byT C t = some n) : ∃ i, C.P.info? t = some i ∧ i.bytes = n := by
  unfold byT at h
  cases hi : C.P.info? t with
  | none => simp [hi] at h
  | some i => simp [hi] at h; exact ⟨i, rfl, h⟩

theorem run_sizeOf {t : TypeId} {n : Nat} (h : szT C t = some n) (w : World) : (sizeOf t).run C.P w = .ok n w := by
  obtain ⟨i, hi, rfl⟩ := szT_some h
  simp [sizeOf, typeInfo, hi]

theorem isAggT_run {t : TypeId} {b : Bool} (h : isAggT C t = some b) (w : World) : (isAgg t).run C.P w = .ok b w := by
  unfold isAggT at h
  cases hu : C.P.underlying t with
  | none => simp [hu] at h
  | some d =>
    unfold isAgg
    rw [Sem.run_bind, run_underlying hu w]
    cases d <;> simp_all

theorem eqGuard_int {op : BinOp} {t : TypeId} {x y : Operand} {k k' : IntKind} {p q : Int} : (eqGuard op t x y (.int k p) (.int k' q)).run C.P w = .ok () w := by
  unfold eqGuard; cases op <;> simp
theorem eqGuard_bool {op : BinOp} {t : TypeId} {x y : Operand} {p q : Bool} : (eqGuard op t x y (.bool p) (.bool q)).run C.P w = .ok () w := by
  unfold eqGuard; cases op <;> simp
theorem eqGuard_str {op : BinOp} {t : TypeId} {x y : Operand} {p q : ByteArray} : (eqGuard op t x y (.string p) (.string q)).run C.P w = .ok () w := by
  unfold eqGuard; cases op <;> simp
theorem eqGuard_slice {op : BinOp} {t : TypeId} {x y : Operand} {p q : Option Addr} {n c n' c' : Nat} : (eqGuard op t x y (.slice p n c) (.slice q n' c')).run C.P w = .ok () w := by
  unfold eqGuard; cases op <;> simp

theorem neq_bool (t : TypeId) (p q : Bool) (h : C.P.underlying t = some .bool) : (binOp .neq t (.bool p) (.bool q)).run C.P w = .ok (.bool (!(p == q))) w := by
  simp [binOp, run_equal_bool w t p q h]

/-- A slice's value. -/
theorem RdV_list {S : Nat → Prop} {t : Ty} {x : List t.den} {v : Value} (h : RdV S w (.list t) x v) : ∃ p c, v = .slice p x.length c ∧ x.length ≤ c ∧ c ≤ maxLen ∧ x.length ≤ lim ∧
    (x ≠ [] → ∃ b o, p = some ⟨b, o, none⟩ ∧ S b ∧ ∀ i y, x[i]? = some y → ∃ ys, ys.length = t.wid ∧ (∀ j, j < t.wid → w.cell? ⟨b, o + i * t.wid + j, none⟩ = ys[j]?) ∧ RdC S w t y ys) := by
  obtain ⟨cs, h1, rfl⟩ := h
  simp only [RdC] at h1
  obtain ⟨p, n, c, rfl, rfl, h2, h3, h4, h5⟩ := h1
  exact ⟨p, c, rfl, h2, h3, h4, h5⟩

theorem nne_slice {S : Nat → Prop} {t : Ty} {x : List t.den} {v : Value} (h : RdV S w (.list t) x v) (hx : x ≠ []) : ∃ ad c, v = .slice (some ad) x.length c := by
  obtain ⟨p, c, rfl, _, _, _, h5⟩ := RdV_list h
  obtain ⟨b, o, rfl, _⟩ := h5 hx
  exact ⟨_, _, rfl⟩

theorem eql_nil (t e : TypeId) (p : Option Addr) (n c : Nat) (h : C.P.underlying t = some (.slice e)) :
    (binOp .eql t (.slice p n c) (.slice none 0 0)).run C.P w = .ok (.bool p.isNone) w := by
  simp only [binOp]
  simp [run_equal_slice_nil w t e p n c h]

theorem neq_nil (t e : TypeId) (p : Option Addr) (n c : Nat) (h : C.P.underlying t = some (.slice e)) :
    (binOp .neq t (.slice p n c) (.slice none 0 0)).run C.P w = .ok (.bool (!p.isNone)) w := by
  simp only [binOp]
  simp [run_equal_slice_nil w t e p n c h]

theorem nneD_some {α β : Type} {x : List α} {k : Unit → Option β} {r : β} (h : (nneD x).bind k = some r) : x ≠ [] ∧ k () = some r := by
  unfold nneD at h
  split at h
  · simp at h
  · rename_i hx; exact ⟨by simpa using hx, h⟩

theorem nilK_some {x : L} {k : Bool → Option ρ} {r : ρ} {v : Value} (h : RelG E G σ a w) (hk : nilK σ x k = some r) (hv : VL (Imm E G σ w) σ.hp.length G w x v) :
    ∃ p n c, v = .slice p n c ∧ k p.isNone = some r := by
  unfold nilK at hk
  split at hk
  · simp only [VL] at hv; subst hv; exact ⟨none, 0, 0, rfl, hk⟩
  · rename_i t y
    obtain ⟨p, c, rfl, _, _, _, h5⟩ := RdV_list hv.1
    refine ⟨p, _, c, rfl, ?_⟩
    by_cases hy : y = []
    · have := hv.2 rfl hy
      simp only [Value.slice.injEq] at this
      rw [this.1]; subst hy; exact hk
    · obtain ⟨b, o, rfl, _⟩ := h5 hy
      have : List.isEmpty y = false := by cases y with
        | nil => exact absurd rfl hy
        | cons _ _ => rfl
      rw [this] at hk; exact hk
  · obtain ⟨hy, hk⟩ := nneD_some hk
    obtain ⟨ad, c, rfl⟩ := nne_slice hv.1 hy
    exact ⟨some ad, _, c, rfl, hk⟩
  · split at hk
    · rename_i ho
      obtain ⟨hy, hk⟩ := nneD_some hk
      obtain ⟨ad, c, he⟩ := nne_slice (h.ownRd ho) hy
      exact ⟨some ad, _, c, by simp only [VL] at hv; rw [hv.2.1, he], hk⟩
    · simp at hk
  · simp at hk

theorem run_cat (t : TypeId) (p q : ByteArray) (h : p.size + q.size ≤ lim) : (binOp .add t (.string p) (.string q)).run C.P w = .ok (.string (p ++ q)) w := by
  unfold lim at h
  simp [binOp, Op.stringOp, IntKind.max, IntKind.signed, IntKind.bits]
  omega

theorem binK_some {op : BinOp} {t : TypeId} {x y : A} {k : A → Option ρ} {r : ρ} {v u : Value} (h : RelG E G σ a w) (hk : binK C op t σ x y k = some r)
    (hv : VA (Imm E G σ w) σ.hp.length G w x v) (hu : VA (Imm E G σ w) σ.hp.length G w y u) :
    ∃ z s, k z = some r ∧ (∀ X Y, (eqGuard op t X Y v u).run C.P w = .ok () w) ∧ (binOp op t v u).run C.P w = .ok s w ∧ VA (Imm E G σ w) σ.hp.length G w z s := by
  unfold binK at hk
  split at hk
  · have h1 := datInt hv; have h2 := datInt hu; subst h1; subst h2
    split at hk
    · unfold shlI at hk
      split at hk
      · simp at hk
      · rename_i hb; exact ⟨_, _, hk, fun X Y => eqGuard_int, by simp [binOp, Op.shift, hb], intVA⟩
    · unfold shrI at hk
      split at hk
      · simp at hk
      · rename_i hb; exact ⟨_, _, hk, fun X Y => eqGuard_int, by simp [binOp, Op.shift, hb], intVA⟩
    · rename_i n1 n2
      split at hk
      · rename_i he; subst he
        obtain ⟨z, s, hz, hs⟩ := intOp_some (C := C) (G := G) (w := w) (I := Imm E G σ w) (N := σ.hp.length) hk (fun e => n1 e) (fun e => n2 e)
        exact ⟨z, s, hz, fun X Y => eqGuard_int, (hs t).1, (hs t).2⟩
      · simp at hk
  · obtain ⟨h1, h1'⟩ := datStr hv; obtain ⟨h2, h2'⟩ := datStr hu; subst h1; subst h2
    split at hk
    · unfold catS at hk
      split at hk
      · rename_i hb; exact ⟨_, _, hk, fun X Y => eqGuard_str, run_cat t _ _ hb, RdV_str.2 ⟨rfl, by simpa using hb⟩, fun _ => trivial⟩
      · simp at hk
    · exact ⟨_, _, hk, fun X Y => eqGuard_str, by simp [binOp, Op.stringOp], boolVA⟩
    · exact ⟨_, _, hk, fun X Y => eqGuard_str, by simp [binOp, Op.stringOp], boolVA⟩
    · simp at hk
  · have h1 := datBool hv; have h2 := datBool hu; subst h1; subst h2
    split at hk
    · rename_i hb
      split at hk
      · exact ⟨_, _, hk, fun X Y => eqGuard_bool, run_eql_bool w t _ _ hb, boolVA⟩
      · exact ⟨_, _, hk, fun X Y => eqGuard_bool, neq_bool t _ _ hb, boolVA⟩
      · simp at hk
    · simp at hk
  · split at hk
    · rename_i e he
      simp only [VA, VL] at hu; subst hu
      split at hk
      · obtain ⟨p, n, c, rfl, hk⟩ := nilK_some h hk hv
        exact ⟨_, _, hk, fun X Y => eqGuard_slice, eql_nil t e p n c (elT_some he), boolVA⟩
      · obtain ⟨p, n, c, rfl, hk⟩ := nilK_some h hk hv
        exact ⟨_, _, hk, fun X Y => eqGuard_slice, neq_nil t e p n c (elT_some he), boolVA⟩
      · simp at hk
    · simp at hk
  · simp at hk

theorem max2K_some {op : Bool} {x y : A} {k : A → Option ρ} {r : ρ} {v u : Value} {I : Nat → Prop} {N : Nat} (hk : max2K op x y k = some r)
    (hv : VA I N G w x v) (hu : VA I N G w y u) : ∃ z s, k z = some r ∧ (∀ ts ty, ((if op then Builtin.max_ else Builtin.min_) ts ty #[v, u]).run C.P w = .ok s w) ∧ VA I N G w z s := by
  unfold max2K at hk
  split at hk
  · have h1 := datInt hv; have h2 := datInt hu; subst h1; subst h2
    refine ⟨_, _, hk, fun ts ty => ?_, intVA⟩
    cases op <;> simp [Builtin.max_, Builtin.min_, Builtin.max2, Builtin.min2]
  · simp at hk

theorem extractK_some {x : A} {i : Nat} {k : A → Option ρ} {r : ρ} {v : Value} {I : Nat → Prop} {N : Nat} (hk : extractK x i k = some r) (hv : VA I N G w x v) :
    ∃ z s, k z = some r ∧ (Instr.extract v i).run C.P w = .ok s w ∧ VA I N G w z s := by
  unfold extractK at hk
  split at hk
  · rename_i vs
    obtain ⟨us, rfl, hus⟩ := hv
    have key : ∀ (vs : List (Bool × List L)) (us : List Value) (i : Nat) (p : Bool × List L), VPs I N G w vs us → vs[i]? = some p → ∃ u, us[i]? = some u ∧ VP I N G w p u := by
      intro vs
      induction vs with
      | nil => intro us i p _ hp; simp at hp
      | cons q vs ih =>
        intro us i p hus hp
        cases us with
        | nil => exact hus.elim
        | cons u us =>
          cases i with
          | zero => simp at hp; subst hp; exact ⟨u, rfl, hus.1⟩
          | succ i => simp at hp ⊢; exact ih us i p hus.2 hp
    split at hk
    · rename_i ls hi
      obtain ⟨u, hu, hp⟩ := key vs us i _ hus hi
      obtain ⟨as, rfl, has⟩ := hp
      exact ⟨_, _, hk, by simp [Instr.extract, hu], as, rfl, has⟩
    · rename_i l hi
      obtain ⟨u, hu, hp⟩ := key vs us i _ hus hi
      obtain ⟨l', hl', has⟩ := hp
      simp only [List.cons.injEq, and_true] at hl'
      subst hl'
      exact ⟨_, _, hk, by simp [Instr.extract, hu], has⟩
    · simp at hk
  · simp at hk

end
end Go.Proofs.Ytajlabmnpimeeaa.Eng
