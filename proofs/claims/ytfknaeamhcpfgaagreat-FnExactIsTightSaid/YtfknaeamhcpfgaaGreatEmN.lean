/-
  The engine: a cell within a slice of one's own is written into, as the last operation of a region whose order is drawn. No condition.
-/
import Derived.Test.YtfknaeamhcpfgaaGreatEm7
namespace Go.Proofs.YtfknaeamhcpfgaaGreat.Eng
open Go
set_option linter.unusedVariables false
set_option linter.unusedSimpArgs false
/-! A region's last operation, when it comes after all others. -/
section
variable {P : Program}
end
end Go.Proofs.YtfknaeamhcpfgaaGreat.Eng
/-! One order that serves for all, and what comes behind it. -/
namespace Go.Proofs.YtfknaeamhcpfgaaGreat.Eng
open Go
set_option linter.unusedVariables false
set_option linter.unusedSimpArgs false
section
variable {ρ : Type} {C : Ctx} {E : En} {G : Gh} {σ : Sg} {a : Act} {w : World} {ops : Array Oper}
/-- Blocks that do not change: those that no longer change, and old ones that are not written. -/
def Fast (E : En) (G : Gh) (σ : Sg) (w : World) (b : Nat) : Prop := Imm E G σ w b ∨ (b < E.B ∧ ¬ E.H b)
theorem Fast.heap {G' : Gh} {σ' : Sg} {a' : Act} {w' : World} (h : RelG E G σ a w) (h' : RelG E G' σ' a' w') (hg : GA E σ σ' G G' w w') {b : Nat} (hb : Fast E G σ w b) : w'.heap[b]? = w.heap[b]? ∧ Fast E G' σ' w' b := by
  rcases hb with hb | hb
  · exact ⟨hg.heap b hb, .inl (hg.imm b hb)⟩
  · exact ⟨(h'.frame b hb.1 hb.2).trans (h.frame b hb.1 hb.2).symm, .inr hb⟩
end
end Go.Proofs.YtfknaeamhcpfgaaGreat.Eng
/-! A later start that leaves one slice aside, and the way back. -/
namespace Go.Proofs.YtfknaeamhcpfgaaGreat.Eng
open Go
set_option linter.unusedVariables false
set_option linter.unusedSimpArgs false
/-- What of a value does not rest on cells that may be written: flat data, lists of bytes (no cell of theirs holds an int). -/
def hkL (x : L) : L :=
  match x with
  | .dat nn t y => if t.flat then .dat nn t y else match t, y with
    | .list (.int .u8), y => .dat nn (.list (.int .u8)) y
    | _, _ => .unk
  | .cptr _ _ => .unk
  | .full _ _ => .unk
  | x => x
def hkA (x : A) : A :=
  match x with
  | .l x => .l (hkL x)
  | .a ls => .a (ls.map hkL)
  | .t ps => .t (ps.map fun p => (p.1, p.2.map hkL))
section
variable {ρ : Type} {C : Ctx} {E : En} {G : Gh} {σ : Sg} {a : Act} {w w' : World} {I I' : Nat → Prop} {N : Nat}
/-- Cells that hold a byte are as they were. -/
def By (w w' : World) : Prop := ∀ b o n, w.cell? ⟨b, o, none⟩ = some (.int .u8 n) → w'.cell? ⟨b, o, none⟩ = some (.int .u8 n)
theorem By.rd (hI : ∀ b, I b → I' b) (hu : By w w') {x : List Int} {v : Value} (h : RdV I w (.list (.int .u8)) x v) : RdV I' w' (.list (.int .u8)) x v := by
  obtain ⟨cs, h1, h2⟩ := h
  refine ⟨cs, ?_, h2⟩
  simp only [RdC] at h1 ⊢
  obtain ⟨a, n, c, k1, k2, k3, k4, k5, k6⟩ := h1
  refine ⟨a, n, c, k1, k2, k3, k4, k5, fun hx => ?_⟩
  obtain ⟨b, o, q1, q2, q3⟩ := k6 hx
  refine ⟨b, o, q1, hI b q2, fun i y hi => ?_⟩
  obtain ⟨ys, p1, p2, rfl⟩ := q3 i y hi
  refine ⟨[.int .u8 y], p1, fun j hj => ?_, rfl⟩
  have h0 := p2 j hj
  have hw : (Ty.int .u8).wid = 1 := rfl
  have hj0 : j = 0 := by omega
  subst hj0
  exact hu _ _ _ h0
theorem VL.hk {G' : Gh} (hI : ∀ b, I b → I' b) (hu : By w w') (hG : ∀ i, i < N → (G' i).1 = (G i).1) : (l : L) → {v : Value} → VL I N G w l v → VL I' N G' w' (hkL l) v
  | .unk, _, _ => trivial
  | .nils, _, h => h
  | .dat nn t x, v, h => by
    simp only [hkL]
    by_cases hf : t.flat = true
    · rw [if_pos hf]
      obtain ⟨⟨cs, h1, h2⟩, h3⟩ := h
      exact ⟨⟨cs, flat_RdC t hf h1, h2⟩, h3⟩
    · rw [if_neg hf]
      split
      · exact ⟨By.rd hI hu h.1, h.2⟩
      · trivial
  | .cptr _ _, _, _ => trivial
  | .ref id, _, h => ⟨h.1, by rw [hG id h.1]; exact h.2⟩
  | .optr id _ _, _, h => ⟨h.1, by rw [hG id h.1]; exact h.2⟩
  | .bptr id _, _, h => ⟨h.1, by rw [hG id h.1]; exact h.2⟩
  | .fn _, _, h => h
  | .clo f ids, _, h => by
    have e : (ids.map fun id => (G' id).1) = ids.map fun id => (G id).1 := List.map_congr_left fun id hi => hG id (h.2 id hi).1
    refine ⟨by rw [e]; exact h.1, fun id hi => ⟨(h.2 id hi).1, ?_⟩⟩
    rw [hG id (h.2 id hi).1]; exact (h.2 id hi).2
  | .und, _, h => h
  | .sub id _ _ _, _, h => ⟨h.1, by rw [hG id h.1]; exact h.2⟩
  | .full _ _, _, _ => trivial
theorem VLs.hk {G' : Gh} (hI : ∀ b, I b → I' b) (hu : By w w') (hG : ∀ i, i < N → (G' i).1 = (G i).1) : (ls : List L) → {vs : List Value} → VLs I N G w ls vs → VLs I' N G' w' (ls.map hkL) vs
  | [], [], _ => trivial
  | l :: ls, v :: vs, h => ⟨⟨VL.hk hI hu hG l h.1.1, h.1.2⟩, VLs.hk hI hu hG ls h.2⟩
  | [], _ :: _, h => h.elim
  | _ :: _, [], h => h.elim
theorem VPs.hk {G' : Gh} (hI : ∀ b, I b → I' b) (hu : By w w') (hG : ∀ i, i < N → (G' i).1 = (G i).1) : (ls : List (Bool × List L)) → {vs : List Value} → VPs I N G w ls vs → VPs I' N G' w' (ls.map fun p => (p.1, p.2.map hkL)) vs
  | [], [], _ => trivial
  | (true, l) :: ls, v :: vs, ⟨⟨us, h1, h2⟩, h⟩ => ⟨⟨us, h1, VLs.hk hI hu hG l h2⟩, VPs.hk hI hu hG ls h⟩
  | (false, l) :: ls, v :: vs, ⟨⟨x, h1, h2⟩, h⟩ => ⟨⟨hkL x, by rw [h1]; rfl, VL.hk hI hu hG x h2⟩, VPs.hk hI hu hG ls h⟩
  | [], _ :: _, h => h.elim
  | (true, _) :: _, [], h => h.elim
  | (false, _) :: _, [], h => h.elim
theorem VA.hk {G' : Gh} (hI : ∀ b, I b → I' b) (hu : By w w') (hG : ∀ i, i < N → (G' i).1 = (G i).1) : (x : A) → {v : Value} → VA I N G w x v → VA I' N G' w' (hkA x) v
  | .l l, _, h => VL.hk hI hu hG l h
  | .a ls, _, ⟨vs, h1, h2⟩ => ⟨vs, h1, VLs.hk hI hu hG ls h2⟩
  | .t ps, _, ⟨vs, h1, h2⟩ => ⟨vs, h1, VPs.hk hI hu hG ps h2⟩
def OwnB (G : Gh) (σ : Sg) (id jd : Nat) (b : Nat) : Prop := ∃ j o, (j ≠ id ∧ j ≠ jd) ∧ σ.ob j = some o ∧ o.ro = false ∧ b ∈ (G j).2
def OwnHd (G : Gh) (σ : Sg) (id jd : Nat) (b : Nat) : Prop := ∃ j o, (j ≠ id ∧ j ≠ jd) ∧ σ.ob j = some o ∧ o.ro = false ∧ (G j).2.head? = some b
theorem OwnHd.own {id jd b : Nat} (h : OwnHd G σ id jd b) : OwnB G σ id jd b := by
  obtain ⟨j, o, h1, h2, h3, h4⟩ := h
  exact ⟨j, o, h1, h2, h3, List.mem_of_mem_head? h4⟩
/-- A start at this point; the slice 'id' and the variable 'jd' are left aside, the slots of 'F' are no longer written. -/
def rebE (E : En) (G : Gh) (σ : Sg) (a : Act) (w : World) (id jd : Nat) (F : Nat → Prop) : En :=
  ⟨w, fun b => Imm E G σ w b ∨ OwnB G σ id jd b, fun b => OwnB G σ id jd b, fun b => OwnHd G σ id jd b, fun t => E.F t ∨ F t, fun t => a.tmps.getD t undef, E.d⟩
def drop2 (σ : Sg) (id jd : Nat) : Sg := setHp (setHp σ id none) jd none
theorem drop2_ob {id jd i : Nat} {o : Ob} (hi : (drop2 σ id jd).ob i = some o) : (i ≠ id ∧ i ≠ jd) ∧ σ.ob i = some o := by
  unfold drop2 at hi
  rw [ob_setHp] at hi
  split at hi
  · cases hi
  · rename_i hc
    rw [ob_setHp] at hi
    split at hi
    · cases hi
    · rename_i hc2
      have hl := Sg.ob_lt hi
      exact ⟨⟨fun he => hc2 ⟨he, he ▸ hl⟩, fun he => hc ⟨he, by simpa [setHp] using he ▸ hl⟩⟩, hi⟩
theorem drop2_len (σ : Sg) (id jd : Nat) : (drop2 σ id jd).hp.length = σ.hp.length := by simp [drop2, setHp]
theorem rebase (h : RelG E G σ a w) (id jd : Nat) (F : Nat → Prop) : RelG (rebE E G σ a w id jd F) G (drop2 σ id jd) a w := by
  have hob : ∀ i o, (drop2 σ id jd).ob i = some o → (i ≠ id ∧ i ≠ jd) ∧ σ.ob i = some o := fun i o hi => drop2_ob hi
  have k : Keep (Imm E G σ w) (Imm (rebE E G σ a w id jd F) G (drop2 σ id jd) w) σ.hp.length (drop2 σ id jd).hp.length G G w w :=
    ⟨fun b hb => ⟨hb.1, fun _ => .inl hb, fun i o hi hr => hb.2.2 i o (hob i o hi).2 hr⟩, fun _ _ => rfl, by rw [drop2_len]; exact Nat.le_refl _, fun _ _ => rfl⟩
  exact
    { defers := h.defers
      len := h.len
      env := fun t x hx => VA.keep k x (h.env t x hx)
      obs := fun i o hi => OR.keep k (Sg.ob_lt (hob i o hi).2) rfl o (h.obs i o (hob i o hi).2) fun _ _ _ => rfl
      nodup := fun i o hi hr => h.nodup i o (hob i o hi).2 hr
      range := fun i o hi hr b hb => ⟨(h.range i o (hob i o hi).2 hr b hb).1, fun _ => ⟨i, o, (hob i o hi).1, (hob i o hi).2, hr, hb⟩⟩
      hrange := fun i o hi hr b hb _ => ⟨i, o, (hob i o hi).1, (hob i o hi).2, hr, hb⟩
      disj := fun i j o o' hi hr hj hr' hij => h.disj i j o o' (hob i o hi).2 hr (hob j o' hj).2 hr' hij
      os := rfl
      tape := rfl
      output := .refl _
      size := Nat.le_refl _
      frame := fun _ _ _ => rfl
      xa := ⟨fun b hb => .inr hb, h.gl, fun b hb => by
        obtain ⟨j, o, _, h2, h3, h4⟩ := hb
        exact h.gb h2 h3 b h4, fun b hb => by
        obtain ⟨j, o, _, h2, h3, h4⟩ := OwnHd.own hb
        exact h.gb h2 h3 b h4⟩
      fixd := fun _ _ => rfl }
end
end Go.Proofs.YtfknaeamhcpfgaaGreat.Eng
/-! Writing into a half plane of a list of them. -/
namespace Go.Proofs.YtfknaeamhcpfgaaGreat.Eng
open Go
set_option linter.unusedVariables false
set_option linter.unusedSimpArgs false
section
variable {w : World}
theorem By.row {b j : Nat} {cur : Array Value} {e : TypeId} {n0 : Int} {u : Value} (hh : w.heap[b]? = some (.cells cur e (0, 0))) (hj : cur[j]? = some (.int .i64 n0)) : By w (w.setRow b (cur.toList.set j u).toArray) := fun b1 o n h => by
  by_cases hb : b1 = b
  · subst hb
    rw [cellEq hh] at h
    rw [cellEq (setRow_heap w b1 cur _ e _ hh)]
    by_cases ho : o = j
    · subst ho
      rw [hj] at h
      cases h
    · simp only [List.getElem?_toArray, List.getElem?_set]
      rw [if_neg fun hx => ho hx.symm, Array.getElem?_toList]
      exact h
  · rw [← h]
    exact World.cell?_of_block (setRow_other w b b1 _ hb)
end
end Go.Proofs.YtfknaeamhcpfgaaGreat.Eng
/-! A region whose last operations write a bound. -/
namespace Go.Proofs.YtfknaeamhcpfgaaGreat.Eng
open Go
set_option linter.unusedVariables false
set_option linter.unusedSimpArgs false
def dep (o : Oper) (j : Nat) : Bool := o.after.toList.any fun e => Region.binds .any e && e.on == j
def lastOk (ops : Array Oper) (o : Oper) : Bool :=
  (List.range ops.size).all (fun j => dep o j || (List.range ops.size).any fun k => decide (j < k) && (match ops[k]? with
    | some o' => dep o' j
    | none => false)) && o.after.toList.all (fun e => !Region.binds .any e || decide (e.on < ops.size)) && o.guard.isNone
def Shp (ops : Array Oper) : Prop := (∀ (j : Nat) (oj : Oper), ops[j]? = some oj → ∀ e ∈ oj.after, Region.binds .any e = true → e.on < j) ∧ ∀ (j : Nat) (oj : Oper) g b, ops[j]? = some oj → oj.guard = some (g, b) → g < ops.size
section
variable {P : Program} {a : Act} {w : World}
theorem lastOk_spec {ops : Array Oper} {o : Oper} (h : lastOk ops o = true) : (∀ listed : Array Bool, Cl ops listed → (∀ e ∈ o.after, Region.binds .any e = true → listed.getD e.on false = true) → ∀ j, j < ops.size → listed.getD j false = true) ∧ (∀ e ∈ o.after, Region.binds .any e = true → e.on < ops.size) ∧ o.guard = none := by
  unfold lastOk at h
  simp only [Bool.and_eq_true, List.all_eq_true, List.mem_range, Bool.or_eq_true, Bool.not_eq_true', decide_eq_true_eq, Option.isNone_iff_eq_none] at h
  obtain ⟨⟨h1, h2⟩, h3⟩ := h
  have hd : ∀ {o : Oper} {j : Nat}, dep o j = true → ∃ e ∈ o.after, Region.binds .any e = true ∧ e.on = j := fun {o j} hd => by
    unfold dep at hd
    simp only [List.any_eq_true, Bool.and_eq_true, beq_iff_eq] at hd
    obtain ⟨e, he, hb, hj⟩ := hd
    exact ⟨e, Array.mem_toList_iff.1 he, hb, hj⟩
  refine ⟨fun listed hcl hdir => ?_, fun e he hb => ?_, h3⟩
  · have key : ∀ (m j : Nat), ops.size - j ≤ m → j < ops.size → listed.getD j false = true := by
      intro m
      induction m with
      | zero => intro j h1 h2; omega
      | succ m ih =>
        intro j hm hj
        rcases h1 j hj with h | h
        · obtain ⟨e, he, hb, rfl⟩ := hd h
          exact hdir e he hb
        · simp only [List.any_eq_true, List.mem_range, Bool.and_eq_true, decide_eq_true_eq] at h
          obtain ⟨k, hk, hjk, hdep⟩ := h
          have hl := ih k (by omega) hk
          obtain ⟨o', ho'⟩ : ∃ o', ops[k]? = some o' := ⟨ops[k], Array.getElem?_eq_getElem hk⟩
          rw [ho'] at hdep
          obtain ⟨e, he, hb, rfl⟩ := hd hdep
          exact hcl k o' hl ho' e (Array.mem_toList_iff.2 he) hb
    exact fun j hj => key _ j (Nat.le_refl _) hj
  · rcases h2 e (Array.mem_toList_iff.2 he) with h | h
    · rw [hb] at h; cases h
    · exact h
theorem Shp.push {ops : Array Oper} {o : Oper} (h : Shp ops) (hl : lastOk ops o = true) : Shp (ops.push o) := by
  obtain ⟨_, l2, l3⟩ := lastOk_spec hl
  have key : ∀ (j : Nat) (oj : Oper), (ops.push o)[j]? = some oj → (j < ops.size ∧ ops[j]? = some oj) ∨ (j = ops.size ∧ oj = o) := fun j oj hj => by
    rw [Array.getElem?_push] at hj
    split at hj
    · rename_i he
      exact .inr ⟨he, (Option.some.inj hj).symm⟩
    · exact .inl ⟨(Array.getElem?_eq_some_iff.1 hj).1, hj⟩
  refine ⟨fun j oj hj e he hb => ?_, fun j oj g b hj hg => ?_⟩
  · rcases key j oj hj with ⟨_, k⟩ | ⟨rfl, rfl⟩
    · exact h.1 j oj k e he hb
    · exact l2 e he hb
  · rcases key j oj hj with ⟨_, k⟩ | ⟨rfl, rfl⟩
    · have := h.2 j oj g b k hg; rw [Array.size_push]; omega
    · rw [l3] at hg; cases hg
end
section
variable {ρ : Type} {C : Ctx} {E : En} {G : Gh} {σ : Sg} {a : Act} {w : World}
end
end Go.Proofs.YtfknaeamhcpfgaaGreat.Eng
/-! A region that reads a plane's list and, at last, writes a cell of it. -/
namespace Go.Proofs.YtfknaeamhcpfgaaGreat.Eng
open Go
set_option linter.unusedVariables false
set_option linter.unusedSimpArgs false
section
variable {ρ : Type} {C : Ctx} {E : En} {G : Gh} {σ : Sg} {a : Act} {w : World}
end
end Go.Proofs.YtfknaeamhcpfgaaGreat.Eng
/-! The slice is read out of its variable. -/
namespace Go.Proofs.YtfknaeamhcpfgaaGreat.Eng
open Go
set_option linter.unusedVariables false
set_option linter.unusedSimpArgs false
section
variable {ρ : Type} {C : Ctx} {E : En} {G : Gh} {σ : Sg} {a : Act} {w : World}
theorem VLs.at_ {I : Nat → Prop} {N : Nat} : (ls : List L) → {vs : List Value} → {j : Nat} → {l : L} → VLs I N G w ls vs → ls[j]? = some l → ∃ v, vs[j]? = some v ∧ VL I N G w l v
  | [], vs, j, l, _, hj => by simp at hj
  | x :: ls, [], j, l, h, _ => h.elim
  | x :: ls, v :: vs, 0, l, h, hj => by
    simp only [List.getElem?_cons_zero, Option.some.injEq] at hj
    subst hj
    exact ⟨v, rfl, h.1.1⟩
  | x :: ls, v :: vs, j + 1, l, h, hj => by
    rw [List.getElem?_cons_succ] at hj ⊢
    exact VLs.at_ ls h.2 hj
end
end Go.Proofs.YtfknaeamhcpfgaaGreat.Eng
/-! Such regions. -/
namespace Go.Proofs.YtfknaeamhcpfgaaGreat.Eng
open Go
set_option linter.unusedVariables false
set_option linter.unusedSimpArgs false
/-- A region 'rg': the slot of the struct's pointer, the cell that holds the slice; the order of its first part; what reads the list (or nothing); the order of the rest. -/
structure NW where
  rg : Nat
  bx : Nat
  fl : Nat
  ch : List Nat
  oc : List Nat
section
variable {ρ : Type} {C : Ctx} {E : En} {G : Gh} {σ : Sg} {a : Act} {w : World} {ops : Array Oper}
end
end Go.Proofs.YtfknaeamhcpfgaaGreat.Eng
/-! Code with such regions, and its contract. -/
namespace Go.Proofs.YtfknaeamhcpfgaaGreat.Eng
open Go
set_option linter.unusedVariables false
set_option linter.unusedSimpArgs false
section
variable {ρ : Type} (C : Ctx)
end
section
variable {ρ : Type} {C : Ctx} {E : En} {G : Gh} {σ : Sg} {a : Act} {w : World} {I : Nat → Prop}
end
end Go.Proofs.YtfknaeamhcpfgaaGreat.Eng
