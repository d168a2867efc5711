/-
  The engine, part 5. Operations that leave memory alone. No condition.
-/
import Derived.Test.YtajlabmnpimeeaaEng4
import Derived.Laws.Entries
import Derived.Laws.Concat
import Derived.Laws.Cover3
import Derived.Laws.Slices
import Derived.Laws.BytesString
namespace Go.Proofs.Ytajlabmnpimeeaa.Eng
open Go
set_option linter.unusedVariables false
set_option linter.unusedSimpArgs false

/-- Frozen objects stay. -/
structure Kp (σ σ' : Sg) : Prop where
  env : σ'.env = σ.env
  n : σ.hp.length ≤ σ'.hp.length
  ob : ∀ id o, σ.ob id = some o → o.ro = true → σ'.ob id = some o

theorem Kp.refl (σ : Sg) : Kp σ σ := ⟨rfl, Nat.le_refl _, fun _ _ h _ => h⟩
theorem Kp.trans {a b c : Sg} (h : Kp a b) (k : Kp b c) : Kp a c :=
  ⟨k.env.trans h.env, Nat.le_trans h.n k.n, fun id o ho hr => k.ob id o (h.ob id o ho hr) hr⟩
theorem Kp.set {σ : Sg} {id : Nat} {o : Ob} (n : Option Ob) (h : σ.ob id = some o) (hr : o.ro = false) : Kp σ (setHp σ id n) :=
  ⟨rfl, by simp, fun i o' ho' hr' => by
    rw [ob_setHp]; split
    · rename_i hc; rw [hc.1, h] at ho'; obtain rfl := Option.some.inj ho'; simp [hr] at hr'
    · exact ho'⟩
theorem Kp.add (σ : Sg) (o : Ob) : Kp σ (addHp σ o) :=
  ⟨rfl, by simp, fun i o' ho' hr' => by
    rw [ob_addHp]; split
    · rename_i hc; have := Sg.ob_lt ho'; omega
    · exact ho'⟩
theorem Kp.freeze {σ : Sg} {id : Nat} {o : Ob} (h : σ.ob id = some o) : Kp σ (setHp σ id (some o.freeze)) :=
  ⟨rfl, by simp, fun i o' ho' hr' => by
    rw [ob_setHp]; split
    · rename_i hc
      rw [hc.1, h] at ho'; obtain rfl := Option.some.inj ho'
      cases o with
      | own ro _ _ _ _ => simp only [Ob.ro] at hr'; subst hr'; rfl
      | box ro _ _ => simp only [Ob.ro] at hr'; subst hr'; rfl
    · exact ho'⟩
theorem Kp.freezeL (σ : Sg) (x : L) : Kp σ (freezeL σ x) := by
  unfold Eng.freezeL; split
  · split
    · rename_i h; exact Kp.freeze h
    · exact Kp.refl _
  · exact Kp.refl _

section
variable {ρ : Type} {C : Ctx} {E : En} {G : Gh} {σ : Sg} {a : Act} {w : World}

/-- What an operation's run must give. -/
def OpOut (C : Ctx) (E : En) (G : Gh) (σ : Sg) (a : Act) (w : World) (k : A → Sg → Option ρ) (r : ρ) (x : Result Next) : Prop :=
  ∃ v σ', k v σ' = some r ∧ Kp σ σ' ∧
    match x with
    | .ok (.value val) w' => ∃ G', RelG E G' σ' a w' ∧ GA E σ σ' G G' w w' ∧ VA (Imm E G' σ' w') σ'.hp.length G' w' v val
    | .ok .skip w' => v = .l .unk ∧ ∃ G', RelG E G' σ' a w' ∧ GA E σ σ' G G' w w'
    | .ok (.enter f args) w' => Calls C.P f args w' fun e w'' => ∃ val, e = .returned val ∧ ∃ G', RelG E G' σ' a w'' ∧ GA E σ σ' G G' w w'' ∧ VA (Imm E G' σ' w'') σ'.hp.length G' w'' v val
    | _ => False

theorem OpOut.val {k : A → Sg → Option ρ} {r : ρ} {v : A} {val : Value} (h : RelG E G σ a w) (hk : k v σ = some r)
    (hv : VA (Imm E G σ w) σ.hp.length G w v val) : OpOut C E G σ a w k r (.ok (.value val) w) :=
  ⟨v, σ, hk, Kp.refl σ, G, h, GA.refl _ _ _ _, hv⟩

theorem ofConst_VA (I : Nat → Prop) (N : Nat) (G : Gh) (w : World) (v : Value) : VA I N G w (ofConst v) v := by
  unfold ofConst
  split
  · exact ⟨RdV_int.2 rfl, fun _ => trivial⟩
  · exact ⟨RdV_bool.2 rfl, fun _ => trivial⟩
  · split
    · rename_i hs; exact ⟨RdV_str.2 ⟨rfl, hs⟩, fun _ => trivial⟩
    · trivial
  · rfl
  · trivial

theorem RelG.get (h : RelG E G σ a w) (x : Operand) : VA (Imm E G σ w) σ.hp.length G w (getA σ x) (a.eval x) := by
  cases x with
  | tmp t =>
    simp only [getA, Act.eval]
    cases ht : σ.env[t]? with
    | none => simp [List.getD, ht, VA, VL]
    | some y => simp only [List.getD, ht, Option.getD_some]; exact h.env t y ht
  | const v => exact ofConst_VA _ _ _ _ v
  | func f => rfl
  | global g => trivial

theorem datInt {kd : IntKind} {nn : Bool} {n : Int} {v : Value} {I : Nat → Prop} {N : Nat} (h : VA I N G w (.l (.dat nn (.int kd) n)) v) : v = .int kd n := RdV_int.1 h.1
theorem datBool {nn : Bool} {b : Bool} {v : Value} {I : Nat → Prop} {N : Nat} (h : VA I N G w (.l (.dat nn .bool b)) v) : v = .bool b := RdV_bool.1 h.1
theorem datStr {nn : Bool} {s : ByteArray} {v : Value} {I : Nat → Prop} {N : Nat} (h : VA I N G w (.l (.dat nn .str s)) v) : v = .string s ∧ s.size ≤ lim := RdV_str.1 h.1
theorem intVA {kd : IntKind} {nn : Bool} {n : Int} {I : Nat → Prop} {N : Nat} : VA I N G w (.l (.dat nn (.int kd) n)) (.int kd n) := ⟨RdV_int.2 rfl, fun _ => trivial⟩
theorem boolVA {nn : Bool} {b : Bool} {I : Nat → Prop} {N : Nat} : VA I N G w (.l (.dat nn .bool b)) (.bool b) := ⟨RdV_bool.2 rfl, fun _ => trivial⟩

theorem unK_some {op : UnOp} {x : A} {k : A → Option ρ} {r : ρ} {v : Value} {I : Nat → Prop} {N : Nat} (hk : unK op x k = some r) (hv : VA I N G w x v) :
    ∃ y u, k y = some r ∧ (Op.unary op v).run C.P w = .ok u w ∧ VA I N G w y u := by
  unfold unK at hk
  split at hk
  · have := datInt hv; subst this
    exact ⟨_, _, hk, by simp [Op.unary, Op.intArith], intVA⟩
  · have := datBool hv; subst this
    exact ⟨_, _, hk, by simp [Op.unary], boolVA⟩
  · simp at hk

theorem intOp_some {op : BinOp} {kd : IntKind} {p q : Int} {k : A → Option ρ} {r : ρ} {I : Nat → Prop} {N : Nat} (hk : intOpK op kd p q k = some r) (hs : op ≠ .shl) (hs' : op ≠ .shr) :
    ∃ y u, k y = some r ∧ ∀ t, (binOp op t (.int kd p) (.int kd q)).run C.P w = .ok u w ∧ VA I N G w y u := by
  unfold intOpK at hk
  split at hk
  case h_1 => exact ⟨_, _, hk, fun t => ⟨by simp [binOp, Op.intArith], intVA⟩⟩
  case h_2 => exact ⟨_, _, hk, fun t => ⟨by simp [binOp, Op.intArith], intVA⟩⟩
  case h_3 => exact ⟨_, _, hk, fun t => ⟨by simp [binOp, Op.intArith], intVA⟩⟩
  case h_4 =>
    unfold quoI at hk
    split at hk
    · simp at hk
    · rename_i hq; exact ⟨_, _, hk, fun t => ⟨by simp [binOp, Op.intDiv, hq], intVA⟩⟩
  case h_5 =>
    unfold remI at hk
    split at hk
    · simp at hk
    · rename_i hq; exact ⟨_, _, hk, fun t => ⟨by simp [binOp, Op.intDiv, hq], intVA⟩⟩
  case h_6 => exact ⟨_, _, hk, fun t => ⟨by simp [binOp, Op.intBits, andI], intVA⟩⟩
  case h_7 => exact ⟨_, _, hk, fun t => ⟨by simp [binOp, Op.intBits, orI], intVA⟩⟩
  case h_8 => exact ⟨_, _, hk, fun t => ⟨by simp [binOp, Op.intBits, xorI], intVA⟩⟩
  case h_9 => exact ⟨_, _, hk, fun t => ⟨by simp [binOp, Op.intCmp], boolVA⟩⟩
  case h_10 => exact ⟨_, _, hk, fun t => ⟨by simp [binOp, Op.intCmp], boolVA⟩⟩
  case h_11 => exact ⟨_, _, hk, fun t => ⟨by simp [binOp, Op.intCmp], boolVA⟩⟩
  case h_12 => exact ⟨_, _, hk, fun t => ⟨by simp [binOp, Op.intCmp], boolVA⟩⟩
  case h_13 => exact ⟨_, _, hk, fun t => ⟨by simp [binOp, Op.intCmp], boolVA⟩⟩
  case h_14 => exact ⟨_, _, hk, fun t => ⟨by simp [binOp, Op.intCmp], boolVA⟩⟩
  case h_15 => simp at hk

end
end Go.Proofs.Ytajlabmnpimeeaa.Eng
