/-
  The engine: code that writes into the elements of a slice of its own. No condition.
-/
import Derived.Test.YtmdagdopfgiaiaaEm5
namespace Go.Proofs.Ytmdagdopfgiaiaa.Eng
open Go
set_option linter.unusedVariables false
set_option linter.unusedSimpArgs false
/-- What is known of a slot: the slice, a number, a truth value, a pointer to an element, the slice that stands there, a pointer to a cell of that one. -/
inductive TV where
  | unk
  | sl
  | int (n : Int)
  | bool (b : Bool)
  | fp (i : Nat)
  | es (i : Nat)
  | ip (i j : Nat)
def tget (env : List TV) (x : Operand) : TV :=
  match x with
  | .tmp t => env.getD t .unk
  | .const v => match v with
    | .int .i64 n => .int n
    | _ => .unk
  | _ => .unk
/-- A loop: the first region of its body, its exit, the slot of its index. -/
structure TL where
  rg : Nat
  ex : Nat
  ix : Nat
def findT (rg : Nat) : List TL → Option TL
  | [] => none
  | l :: r => if l.rg = rg then some l else findT rg r
abbrev LL : Ty := .list (.int .i64)
def tPut (d : Option Tmp) (x : TV) (env : List TV) : List TV :=
  match d with
  | some d => env.set d x
  | none => env
def keepT (W : List Nat) : Nat → List TV → List TV
  | _, [] => []
  | n, x :: r => (if W.contains n then .unk else x) :: keepT W (n + 1) r
def layT (W : List Nat) (ix : Nat) (env : List TV) (i : Int) : List TV := (keepT W 0 env).set ix (.int i)
section
variable {ρ : Type} (C : Ctx)
def tOp (env : List TV) (y : List (List Int)) (o : Op) (k : TV → List (List Int) → Option ρ) : Option ρ :=
  match o with
  | .move x => k (tget env x) y
  | .assign x => k (tget env x) y
  | .binOp op ty x z q => match tget env x, tget env z with
    | .int a, .int b => match op with
      | .add => k (.int (IntKind.i64.wrap (a + b))) y
      | .mul => k (.int (IntKind.i64.wrap (a * b))) y
      | .lss => k (.bool (decide (a < b))) y
      | _ => none
    | _, _ => none
  | .call c => match c.callee with
    | .builtin .len => match c.args.toList, c.argTypes.toList with
      | [x], [ty] => match tget env x with
        | .sl => (elT C ty).bind fun _ => k (.int y.length) y
        | .es i => (elT C ty).bind fun _ => (y[i]?).bind fun q => k (.int q.length) y
        | _ => none
      | _, _ => none
    | _ => none
  | .indexAddr ty x i => match elT C ty, tget env x, tget env i with
    | some e, .sl, .int i => if szT C e = some 1 then (inIdx y.length i).bind fun _ => k (.fp i.toNat) y else none
    | some e, .es j, .int i => if szT C e = some 1 then (y[j]?).bind fun q => (inIdx q.length i).bind fun _ => k (.ip j i.toNat) y else none
    | _, _, _ => none
  | .load ty p => match tget env p with
    | .fp i => match isAggT C ty with
      | some false => if i < y.length then k (.es i) y else none
      | _ => none
    | .ip i j => match isAggT C ty with
      | some false => (y[i]?).bind fun q => (q[j]?).bind fun n => k (.int n) y
      | _ => none
    | _ => none
  | .store ty p x => match tget env p, tget env x with
    | .ip i j, .int n => if szT C ty = some 1 then (y[i]?).bind fun q => (q[j]?).bind fun _ => k .unk (y.set i (q.set j n)) else none
    | _, _ => none
  | _ => none
def opsT : List Oper → List TV → List (List Int) → (List TV → List (List Int) → Option ρ) → Option ρ
  | [], env, y, k => k env y
  | o :: r, env, y, k => match o.guard with
    | none => tOp C env y o.op fun x y => opsT r (tPut o.dst x env) y k
    | some _ => none
noncomputable def codeT (Ls : List TL) : Code → (ρ : Type) → List TV → List (List Int) → (AEx → List TV → List (List Int) → Option ρ) → Option ρ
  | .skip, _, env, y, k => k .normal env y
  | .region _ ops false, _, env, y, k => opsT C ops.toList env y fun env y => k .normal env y
  | .seq a b, ρ, env, y, k => codeT Ls a ρ env y fun e env y => match e with
    | .normal => codeT Ls b ρ env y k
    | e => k e env y
  | .cond c a b, ρ, env, y, k => match tget env c with
    | .bool cb => cond cb (codeT Ls a ρ env y k) (codeT Ls b ρ env y k)
    | _ => none
  | .block id c, ρ, env, y, k => codeT Ls c ρ env y fun e env y => match e with
    | .exit id' => if id' = id then k .normal env y else k (.exit id') env y
    | e => k e env y
  | .exit id, _, env, y, k => k (.exit id) env y
  | .loop c, ρ, env, y, k => match findT (firstReg c) Ls with
    | some L => if (wrC c).contains L.ix = false then none else match env[L.ix]? with
      | some (.int i) => (iter (fun s : Int × List (List Int) => codeT Ls c ((Int × List (List Int)) ⊕ List (List Int)) (layT (wrC c) L.ix env s.1) s.2 fun e env' y' => match e with
          | .normal => match env'[L.ix]? with
            | some (.int i') => some (.inl (i', y'))
            | _ => none
          | .exit id => if id = L.ex then some (.inr y') else none
          | .ret => none) (i, y)).bind fun y' => k (.exit L.ex) (keepT (wrC c) 0 env) y'
      | _ => none
    | none => none
  | _, _, _, _, _ => none
/-- Every cell of every list of an own deep slice is overwritten with one number: what such loops compute. -/
noncomputable def wrIn (v : Int) (i : Int) (s : Int × List (List Int)) : Option ((Int × List (List Int)) ⊕ List (List Int)) :=
  (inIdx s.2.length i).bind fun _ => if i.toNat < s.2.length then (s.2[i.toNat]?).bind fun q => cond (decide (s.1 < (q.length : Int)))
    ((inIdx s.2.length i).bind fun _ => if i.toNat < s.2.length then (s.2[i.toNat]?).bind fun q => (inIdx q.length s.1).bind fun _ => (s.2[i.toNat]?).bind fun q => (q[s.1.toNat]?).bind fun _ =>
      some (.inl (IntKind.i64.wrap (s.1 + 1), s.2.set i.toNat (q.set s.1.toNat v))) else none) (some (.inr s.2)) else none
noncomputable def wrOut (v : Int) (s : Int × List (List Int)) : Option ((Int × List (List Int)) ⊕ List (List Int)) :=
  cond (decide (s.1 < (s.2.length : Int))) ((iter (wrIn v s.1) (0, s.2)).bind fun y => some (.inl (IntKind.i64.wrap (s.1 + 1), y))) (some (.inr s.2))
noncomputable def wrAll (v : Int) (y : List (List Int)) : Option (List (List Int)) := iter (wrOut v) (0, y)
def tvOf (id : Nat) (x : A) : TV :=
  match x with
  | .l (.ref i) => if i = id then .sl else .unk
  | .l (.dat _ (.int .i64) (n : Int)) => .int n
  | _ => .unk
def clobL (W : List Nat) : Nat → List A → List A
  | _, [] => []
  | n, x :: r => (if W.contains n then .l .unk else x) :: clobL W (n + 1) r
def clobS (W : List Nat) (σ : Sg) : Sg := { σ with env := clobL W 0 σ.env }
/-- A block that writes: its number, the slice's slot, its loops. -/
structure TB where
  id : Nat
  xs : Nat
  Ls : List TL
def findB (id : Nat) : List TB → Option TB
  | [] => none
  | b :: r => if b.id = id then some b else findB id r
noncomputable def topW (env0 : List A) (Bs : List TB) : Code → (ρ : Type) → Sg → (AEx → Sg → Option ρ) → Option ρ
  | .seq a b, ρ, σ, k => topW env0 Bs a ρ σ fun e σ => match e with
    | .normal => topW env0 Bs b ρ σ k
    | e => k e σ
  | .cond c a b, ρ, σ, k => match getA σ c with
    | .l (.dat _ .bool (cb : Bool)) => cond cb (topW env0 Bs a ρ σ k) (topW env0 Bs b ρ σ k)
    | _ => none
  | .block id c, ρ, σ, k => match findB id Bs with
    | some B => (match σ.env[B.xs]? with
      | some (.l (.ref ob)) => match σ.ob ob with
        | some (.own false true e t y) => (castT (.list t) (.list LL) y).bind fun y => codeT C B.Ls (.block id c) ρ (σ.env.map (tvOf ob)) y fun ex _ y' => match ex with
          | .normal => k .normal (clobS (wrC c) (forget env0 (setHp σ ob (some (.own false true e LL y')))))
          | _ => none
        | _ => none
      | _ => none)
    | none => codeK C (.block id c) ρ σ k
  | c, ρ, σ, k => codeK C c ρ σ k
noncomputable def funWr (Bs : List TB) (fn : Func) (ps : List PM) (rs : List SK) (x : PMs.den ps) : Option (ResB (hasIo ps) (SKs.den rs) (PMo.den ps)) :=
  match fn.body with
  | none => none
  | some c =>
    let (as, σ) := encPs ⟨List.replicate fn.ntmps (.l .unk), []⟩ ps x
    topW C [] Bs c _ { σ with env := as ++ σ.env.drop as.length } fun e σ => match e with
      | .exit _ => none
      | _ => resK C σ fn.results.toList fun vs => ioK ps 0 (frzSs rs vs σ) fun o σ => decSs rs vs σ fun r _ => some (resJ (hasIo ps) r o)
end
section
variable {w : World}
theorem OwnV.elem2 {e : TypeId} {t : Ty} {y : List t.den} {v : Value} {bs : List Nat} (h : OwnV (fun _ => False) w true e t y v bs) (hn : bs.Nodup) {i : Nat} {q : t.den} (hi : y[i]? = some q) :
    ∃ (b c : Nat) (cur : Array Value) (ys : List Value) (bi : List Nat), v = .slice (some ⟨b, 0, none⟩) y.length c ∧ w.heap[b]? = some (.cells cur e (0, 0)) ∧ (∀ j, j < t.wid → cur[i * t.wid + j]? = ys[j]?) ∧ ys.length = t.wid ∧ DpC 0 w t q ys bi ∧
      bi.Nodup ∧ b ∉ bi ∧ (∀ x ∈ bi, x ∈ bs) ∧ b ∈ bs ∧ (∀ (w' : World) (q' : t.den), MarkOut w w' bi → DpC 0 w' t q' ys bi → OwnV (fun _ => False) w' true e t (y.set i q') v bs) ∧
      (∀ (q' : t.den) (j : Nat) (u : Value), j < t.wid → DpC 0 w t q' (ys.set j u) bi → OwnV (fun _ => False) (w.setRow b (cur.toList.set (i * t.wid + j) u).toArray) true e t (y.set i q') v bs) := by
  have h0 := h
  obtain ⟨hl, cells, bss, ho, rfl, hd, _, hel⟩ := h
  obtain ⟨ys, hy1, hy2, hy3⟩ := hel i q hi
  simp only [if_true] at hy3
  have hil := (List.getElem?_eq_some_iff.1 hi).1
  rcases ho.2 with ⟨_, hz⟩ | ⟨b, c, cur, rfl, _, hh, hnc, hcm, hcs, htake⟩
  · omega
  · have hbl : bss.length = y.length := hd rfl
    obtain ⟨bi, hbi⟩ : ∃ bi, bss[i]? = some bi := ⟨bss[i]'(by omega), List.getElem?_eq_getElem (by omega)⟩
    rw [hbi] at hy3
    simp only [Option.getD_some] at hy3
    have hn' : (b :: bss.flatten).Nodup := by simpa [Value.ownBlock] using hn
    obtain ⟨np1, np2⟩ := nodup_parts hn'
    obtain ⟨ni, nb⟩ := np1 i bi hbi
    have hsub : ∀ (j : Nat) (l : List Nat), bss[j]? = some l → ∀ x ∈ l, x ∈ bss.flatten := fun j l hj x hx => List.mem_flatten.2 ⟨l, List.mem_of_getElem? hj, hx⟩
    refine ⟨b, c, cur, ys, bi, rfl, hh, fun j hj => ?_, hy1, hy3, ni, nb, fun x hx => List.mem_append_right _ (hsub i bi hbi x hx), by simp [Value.ownBlock], fun w' q' mo hq => ?_, fun q' j u hj hq => ?_⟩
    · rw [← hy2 j hj, ← htake, List.getElem?_take, if_pos (chunk_lt hil hj), Array.getElem?_toList]
    · have hb : w'.heap[b]? = w.heap[b]? := mo.frame b (Array.getElem?_eq_some_iff.1 hh).1 nb
      refine ⟨by simpa using hl, cells, bss, ⟨by simpa using ho.1, .inr ⟨b, c, cur, by simp, Nat.zero_le _, by rw [hb]; exact hh, by simpa using hnc, hcm, hcs, by simpa using htake⟩⟩, rfl, fun _ => by simpa using hbl, fun hf => by simp at hf, fun k z hk => ?_⟩
      rw [List.getElem?_set] at hk
      simp only [if_true]
      by_cases hik : i = k
      · subst hik
        simp only [if_true, hil] at hk
        obtain rfl := Option.some.inj hk
        exact ⟨ys, hy1, hy2, by rw [hbi]; exact hq⟩
      · rw [if_neg hik] at hk
        obtain ⟨zs, hz1, hz2, hz3⟩ := hel k z hk
        simp only [if_true] at hz3
        refine ⟨zs, hz1, hz2, hz3.mono (Nat.le_refl _) t fun x hx => ?_⟩
        cases hbk : bss[k]? with
        | none => simp [hbk] at hx
        | some l =>
          simp only [hbk, Option.getD_some] at hx hz3
          exact mo.frame x (hz3.range t x hx).2 fun hm => np2 k i l bi hbk hbi (fun e => hik e.symm) x hx hm
    · have hle : i * t.wid + j < cur.size := by
        have := chunk_lt hil hj
        have := Nat.mul_le_mul_right t.wid hnc
        omega
      have ho2 : ∀ x, x ≠ b → (w.setRow b (cur.toList.set (i * t.wid + j) u).toArray).heap[x]? = w.heap[x]? := fun x hx => setRow_other w b x _ hx
      refine ⟨by simpa using hl, cells.set (i * t.wid + j) u, bss, ⟨by simpa using ho.1, .inr ⟨b, c, (cur.toList.set (i * t.wid + j) u).toArray, by simp, Nat.zero_le _, setRow_heap w b cur _ e _ hh, by simpa using hnc, hcm, by simpa using hcs, ?_⟩⟩, rfl, fun _ => by simpa using hbl, fun hf => by simp at hf, fun k z hk => ?_⟩
      · rw [← htake, List.length_set]
        simp only
        rw [List.take_set]
      · rw [List.getElem?_set] at hk
        simp only [if_true]
        have oth : ∀ (k j' : Nat), k < y.length → j' < t.wid → k ≠ i → (cells.set (i * t.wid + j) u)[k * t.wid + j']? = cells[k * t.wid + j']? := fun k j' hk hj' hki => by
          rw [List.getElem?_set, if_neg]
          intro he
          have : k = i := by
            have a1 : (i * t.wid + j) / t.wid = i := by rw [Nat.mul_comm, Nat.mul_add_div t.wid_pos, Nat.div_eq_of_lt hj, Nat.add_zero]
            have a2 : (k * t.wid + j') / t.wid = k := by rw [Nat.mul_comm, Nat.mul_add_div t.wid_pos, Nat.div_eq_of_lt hj', Nat.add_zero]
            rw [he, a2] at a1; exact a1
          exact hki this
        by_cases hik : i = k
        · subst hik
          simp only [if_true, hil] at hk
          obtain rfl := Option.some.inj hk
          refine ⟨ys.set j u, by simpa using hy1, fun j' hj' => ?_, by
            rw [hbi]
            exact hq.mono (Nat.le_refl _) t fun x hx => ho2 x fun hxb => nb (hxb ▸ hx)⟩
          rw [List.getElem?_set, List.getElem?_set]
          by_cases hjj : j = j'
          · subst hjj
            have hcl : i * t.wid + j < cells.length := by rw [ho.1]; exact chunk_lt hil hj
            simp [hcl, hy1, hj]
          · rw [if_neg (by omega), if_neg hjj]; exact hy2 j' hj'
        · rw [if_neg hik] at hk
          have hkl := (List.getElem?_eq_some_iff.1 hk).1
          obtain ⟨zs, hz1, hz2, hz3⟩ := hel k z hk
          simp only [if_true] at hz3
          refine ⟨zs, hz1, fun j' hj' => by rw [oth k j' hkl hj' (fun e => hik e.symm)]; exact hz2 j' hj', hz3.mono (Nat.le_refl _) t fun x hx => ho2 x fun hxb => ?_⟩
          cases hbk : bss[k]? with
          | none => simp [hbk] at hx
          | some l =>
            simp only [hbk, Option.getD_some] at hx
            exact (np1 k l hbk).2 (hxb ▸ hx)
end
def TVOk (w : World) (v : Value) : TV → Value → Prop
  | .unk, _ => True
  | .sl, u => u = v
  | .int n, u => u = .int .i64 n
  | .bool b, u => u = .bool b
  | .fp i, u => ∃ b n c, v = .slice (some ⟨b, 0, none⟩) n c ∧ u = .pointer (some ⟨b, i, none⟩)
  | .es i, u => ∃ b n c, v = .slice (some ⟨b, 0, none⟩) n c ∧ w.cell? ⟨b, i, none⟩ = some u
  | .ip i j, u => ∃ b n c b' n' c', v = .slice (some ⟨b, 0, none⟩) n c ∧ w.cell? ⟨b, i, none⟩ = some (.slice (some ⟨b', 0, none⟩) n' c') ∧ u = .pointer (some ⟨b', j, none⟩)
theorem TVOk.next {w w' : World} {v : Value} (hb : ∀ b n c, v = .slice (some ⟨b, 0, none⟩) n c → w'.heap[b]? = w.heap[b]?) : (x : TV) → {u : Value} → TVOk w v x u → TVOk w' v x u
  | .unk, _, _ => trivial
  | .sl, _, h => h
  | .int _, _, h => h
  | .bool _, _, h => h
  | .fp _, _, h => h
  | .es _, _, ⟨b, n, c, h1, h2⟩ => ⟨b, n, c, h1, by rw [← h2]; exact World.cell?_of_block (hb b n c h1)⟩
  | .ip _ _, _, ⟨b, n, c, b', n', c', h1, h2, h3⟩ => ⟨b, n, c, b', n', c', h1, by rw [← h2]; exact World.cell?_of_block (hb b n c h1), h3⟩
structure TI (W : List Nat) (a0 : Act) (w0 : World) (v : Value) (bs : List Nat) (e : TypeId) (env : List TV) (y : List (List Int)) (a : Act) (w : World) : Prop where
  defers : a.defers = []
  len : a.tmps.size = env.length
  env : ∀ (i : Nat) (x : TV), env[i]? = some x → TVOk w v x (a.tmps.getD i undef)
  size : a.tmps.size = a0.tmps.size
  fix : ∀ t, t ∉ W → a.tmps.getD t undef = a0.tmps.getD t undef
  out : MarkOut w0 w bs
  own : OwnV (fun _ => False) w true e LL y v bs
section
variable {ρ : Type} {C : Ctx} {Ls : List TL} {W : List Nat} {a0 : Act} {w0 w : World} {v : Value} {bs : List Nat} {e : TypeId} {env : List TV} {y : List (List Int)} {a : Act}
theorem TI.get (h : TI W a0 w0 v bs e env y a w) (x : Operand) : TVOk w v (tget env x) (a.eval x) := by
  unfold tget
  split
  · rename_i i
    simp only [List.getD_eq_getElem?_getD, Act.eval]
    cases hx : env[i]? with
    | none => trivial
    | some x => exact h.env i x hx
  · split
    · rfl
    · trivial
  · trivial
theorem TI.put (h : TI W a0 w0 v bs e env y a w) (d : Option Tmp) (hd : ∀ t, d = some t → t ∈ W) {x : TV} {u : Value} (hu : TVOk w v x u) : TI W a0 w0 v bs e (tPut d x env) y (a.put d u) w := by
  cases d with
  | none => exact h
  | some d =>
    refine { h with len := by simp [Act.put, tPut, h.len], env := fun i z hz => ?_, defers := h.defers, size := by rw [← h.size]; simp [Act.put], fix := fun t ht => ?_ }
    · simp only [tPut, List.getElem?_set] at hz
      by_cases hi : d = i
      · subst hi
        simp only [if_true] at hz
        split at hz
        · rename_i hlt
          obtain rfl := Option.some.inj hz
          have : (a.put (some d) u).tmps.getD d undef = u := by simp [Act.put, Array.getElem?_setIfInBounds, h.len, hlt]
          rw [this]; exact hu
        · simp at hz
      · rw [if_neg hi] at hz
        have : (a.put (some d) u).tmps.getD i undef = a.tmps.getD i undef := by simp [Act.put, Array.getElem?_setIfInBounds, hi]
        rw [this]; exact h.env i z hz
    · have hne : d ≠ t := fun hx => ht (hx ▸ hd d rfl)
      rw [← h.fix t ht]
      simp [Act.put, Array.getElem?_setIfInBounds, hne]
theorem TI.next (h : TI W a0 w0 v bs e env y a w) {w' : World} {y' : List (List Int)} (ho : MarkOut w w' bs) (hb : ∀ b n c, v = .slice (some ⟨b, 0, none⟩) n c → w'.heap[b]? = w.heap[b]?) (hw : OwnV (fun _ => False) w' true e LL y' v bs) : TI W a0 w0 v bs e env y' a w' :=
  ⟨h.defers, h.len, fun i x hx => TVOk.next hb x (h.env i x hx), h.size, h.fix, h.out.trans ho, hw⟩
/-- An element as a slice of its own. -/
theorem TI.elem (h : TI W a0 w0 v bs e env y a w) (hn : bs.Nodup) {i : Nat} {q : List Int} (hq : y[i]? = some q) {u : Value} {b n c : Nat} (hv : v = .slice (some ⟨b, 0, none⟩) n c) (hc : w.cell? ⟨b, i, none⟩ = some u) :
    ∃ bi e', OwnV (fun _ => False) w true e' (.int .i64) q u bi ∧ bi.Nodup ∧ (∀ x ∈ bi, x ∈ bs) ∧ b ∉ bi ∧ ∀ (w' : World) (q' : List Int), MarkOut w w' bi → OwnV (fun _ => False) w' true e' (.int .i64) q' u bi → OwnV (fun _ => False) w' true e LL (y.set i q') v bs := by
  obtain ⟨b1, c1, cur, ys, bi, e1, e2, e3, e4, e5, e6, e7, e8, e9, e10, _⟩ := h.own.elem2 hn hq
  rw [hv] at e1
  simp only [Value.slice.injEq, Option.some.injEq, Addr.mk.injEq, and_true] at e1
  obtain ⟨rfl, _, _⟩ := e1
  have hw : (LL).wid = 1 := rfl
  have h3 := e3 0 (by rw [hw]; omega)
  rw [hw] at h3 e4
  rw [cellEq e2] at hc
  have hys : ys = [u] := by
    match ys, e4 with
    | [z], _ =>
      have : cur[i * 1 + 0]? = some z := h3
      rw [show i * 1 + 0 = i from by omega, hc] at this
      rw [Option.some.inj this]
  subst hys
  obtain ⟨e', ho, heo⟩ := e5.own
  exact ⟨bi, e', ho, e6, e8, e7, fun w' q' mo hq' => e10 w' q' mo (hq'.dpC (.inl rfl) heo)⟩
theorem tOp_some {o : Oper} {k : TV → List (List Int) → Option ρ} {r : ρ} (hn : bs.Nodup) (h : TI W a0 w0 v bs e env y a w) (hk : tOp C env y o.op k = some r)
    (next : Act → World → Prop) (Q : Exit → Act → World → Prop) (hnx : ∀ x y' u w', k x y' = some r → TI W a0 w0 v bs e env y' a w' → TVOk w' v x u → next (a.put o.dst u) w') : o.wp C.P a w next Q := by
  obtain ⟨dst, op, type, pos, after, guard⟩ := o
  simp only at hk hnx
  have val : ∀ {x : TV} {u : Value}, k x y = some r → (execOp a.eval ⟨dst, op, type, pos, after, guard⟩).run C.P w = .ok (.value u) w → TVOk w v x u → Oper.wp C.P ⟨dst, op, type, pos, after, guard⟩ a w next Q := fun h1 h2 h3 => by
    unfold Oper.wp
    rw [h2]
    exact hnx _ _ _ _ h1 h h3
  unfold tOp at hk
  split at hk
  · exact val hk (by simp [execOp]) (h.get _)
  · exact val hk (by simp [execOp]) (h.get _)
  · rename_i op ty x z q
    have hx := h.get x
    have hz := h.get z
    split at hk
    · rename_i p q' h1 h2
      rw [h1] at hx
      rw [h2] at hz
      have hx : a.eval x = .int .i64 p := hx
      have hz : a.eval z = .int .i64 q' := hz
      split at hk
      · exact val hk (by simp [execOp, hx, hz, eqGuard, binOp, Op.intArith]) rfl
      · exact val hk (by simp [execOp, hx, hz, eqGuard, binOp, Op.intArith]) rfl
      · exact val hk (by simp [execOp, hx, hz, eqGuard, binOp, Op.intCmp]) rfl
      · simp at hk
    · simp at hk
  · rename_i c
    obtain ⟨callee, args, argTypes⟩ := c
    simp only at hk
    split at hk
    · split at hk
      · rename_i x ty hal htl
        have hx := h.get x
        obtain ⟨tl⟩ := argTypes
        simp only at htl
        subst htl
        split at hk
        · rename_i h1
          rw [h1] at hx
          have hx : a.eval x = v := hx
          cases he : elT C ty with
          | none => simp [he] at hk
          | some e' =>
            simp only [he, Option.bind_some] at hk
            have hv : ∃ p c, v = .slice p y.length c := by
              obtain ⟨_, cells, bss, how, _⟩ := h.own
              rcases how.2 with ⟨h1, h2⟩ | ⟨g, c, cur, h1, _⟩
              · exact ⟨none, 0, by rw [h1, h2]⟩
              · exact ⟨_, c, h1⟩
            obtain ⟨p, c, hv⟩ := hv
            have hargs : args.map a.eval = #[v] := by rw [mapL, hal]; simp [hx]
            refine val hk ?_ rfl
            simp [execOp, resolve, invoke, builtin, hargs, Builtin.len_, run_underlying (elT_some he), hv]
            rfl
        · rename_i i h1
          rw [h1] at hx
          obtain ⟨b, n, c, hv, hcell⟩ := hx
          cases he : elT C ty with
          | none => simp [he] at hk
          | some e' =>
            simp only [he, Option.bind_some] at hk
            obtain ⟨q, hq, hk⟩ := Option.bind_eq_some_iff.1 hk
            obtain ⟨bi, e2, ho, _⟩ := h.elem hn hq hv hcell
            have hv2 : ∃ p c, a.eval x = .slice p q.length c := by
              obtain ⟨_, cells, bss, how, _⟩ := ho
              rcases how.2 with ⟨h1, h2⟩ | ⟨g, c, cur, h1, _⟩
              · exact ⟨none, 0, by rw [h1, h2]⟩
              · exact ⟨_, c, h1⟩
            obtain ⟨p, c2, hv2⟩ := hv2
            have hargs : args.map a.eval = #[.slice p q.length c2] := by rw [mapL, hal]; simp [hv2]
            refine val hk ?_ rfl
            simp [execOp, resolve, invoke, builtin, hargs, Builtin.len_, run_underlying (elT_some he)]
            rfl
        · simp at hk
      · simp at hk
    · simp at hk
  · rename_i ty x i
    have hx := h.get x
    have hi := h.get i
    split at hk
    · rename_i e' iv he h1 h2
      rw [h1] at hx
      rw [h2] at hi
      have hx : a.eval x = v := hx
      have hi : a.eval i = .int .i64 iv := hi
      split at hk
      · rename_i hsz
        unfold inIdx at hk
        split at hk
        · rename_i hin
          simp only [Option.bind_some] at hk
          have hv : ∃ b c, v = .slice (some ⟨b, 0, none⟩) y.length c := by
            obtain ⟨_, cells, bss, how, _⟩ := h.own
            rcases how.2 with ⟨h1, h2⟩ | ⟨g, c, cur, h1, _⟩
            · omega
            · exact ⟨g, c, h1⟩
          obtain ⟨b, c, hv⟩ := hv
          refine val hk (u := .pointer (some ⟨b, iv.toNat, none⟩)) ?_ ⟨b, _, c, hv, rfl⟩
          simp [execOp, hx, hi, hv, Instr.indexAt, run_underlying (elT_some he), asIntOf, hin.1, hin.2, run_sizeOf hsz, add_none]
        · simp at hk
      · simp at hk
    · rename_i e' jv iv he h1 h2
      rw [h1] at hx
      rw [h2] at hi
      obtain ⟨b, n, c, hv, hcell⟩ := hx
      have hi : a.eval i = .int .i64 iv := hi
      split at hk
      · rename_i hsz
        obtain ⟨q, hq, hk⟩ := Option.bind_eq_some_iff.1 hk
        unfold inIdx at hk
        split at hk
        · rename_i hin
          simp only [Option.bind_some] at hk
          obtain ⟨bi, e2, ho, _⟩ := h.elem hn hq hv hcell
          have hv2 : ∃ b' c', a.eval x = .slice (some ⟨b', 0, none⟩) q.length c' := by
            obtain ⟨_, cells, bss, how, _⟩ := ho
            rcases how.2 with ⟨h1, h2⟩ | ⟨g, c, cur, h1, _⟩
            · omega
            · exact ⟨g, c, h1⟩
          obtain ⟨b', c', hv2⟩ := hv2
          refine val hk (u := .pointer (some ⟨b', iv.toNat, none⟩)) ?_ ⟨b, n, c, b', _, c', hv, by rw [← hv2]; exact hcell, rfl⟩
          simp [execOp, hi, hv2, Instr.indexAt, run_underlying (elT_some he), asIntOf, hin.1, hin.2, run_sizeOf hsz, add_none]
        · simp at hk
      · simp at hk
    · simp at hk
  · rename_i ty p
    have hx := h.get p
    split at hk
    · rename_i i h1
      rw [h1] at hx
      split at hk
      · rename_i hag
        split at hk
        · rename_i hij
          obtain ⟨q, hq⟩ : ∃ q, y[i]? = some q := ⟨_, List.getElem?_eq_getElem hij⟩
          obtain ⟨b, c, cur, ys, bi, e1, e2, e3, e4, _⟩ := h.own.elem2 hn hq
          obtain ⟨b', n2, c', hv', hp⟩ := hx
          rw [e1] at hv'
          simp only [Value.slice.injEq, Option.some.injEq, Addr.mk.injEq, and_true] at hv'
          obtain ⟨rfl, _, _⟩ := hv'
          have hw : (LL).wid = 1 := rfl
          rw [hw] at e4
          have h3 := e3 0 (by rw [hw]; omega)
          rw [hw, show i * 1 + 0 = i from by omega] at h3
          have hcell : w.cell? ⟨b, i, none⟩ = some (ys[0]'(by omega)) := by
            rw [cellEq e2, h3]; exact List.getElem?_eq_getElem (by omega)
          refine val hk (u := ys[0]'(by omega)) ?_ ⟨b, _, c, e1, hcell⟩
          simp [execOp, hp, Instr.loadAt, Instr.sureAddr, loadVar, isAggT_run hag w, load, Sem.run, hcell]
        · simp at hk
      · simp at hk
    · rename_i i j h1
      rw [h1] at hx
      split at hk
      · rename_i hag
        obtain ⟨q, hq, hk⟩ := Option.bind_eq_some_iff.1 hk
        obtain ⟨n0, hn0, hk⟩ := Option.bind_eq_some_iff.1 hk
        obtain ⟨b, n, c, b', n', c', hv, hcell, hp⟩ := hx
        obtain ⟨bi, e2, ho, hnb, _⟩ := h.elem hn hq hv hcell
        obtain ⟨b2, c2, cur, ys, bj, f1, f2, f3, f4, f5, _⟩ := ho.elem2 hnb hn0
        simp only [Value.slice.injEq, Option.some.injEq, Addr.mk.injEq, and_true] at f1
        obtain ⟨rfl, _, _⟩ := f1
        have hw : (Ty.int .i64).wid = 1 := rfl
        have h3 := f3 0 (by rw [hw]; omega)
        rw [hw, show j * 1 + 0 = j from by omega] at h3
        simp only [DpC] at f5
        obtain ⟨rfl, _⟩ := f5
        have hcell2 : w.cell? ⟨b', j, none⟩ = some (.int .i64 n0) := by
          rw [cellEq f2, h3]; rfl
        refine val hk (u := .int .i64 n0) ?_ rfl
        simp [execOp, hp, Instr.loadAt, Instr.sureAddr, loadVar, isAggT_run hag w, load, Sem.run, hcell2]
      · simp at hk
    · simp at hk
  · rename_i ty p x
    have hp := h.get p
    have hx := h.get x
    split at hk
    · rename_i i j n h1 h2
      rw [h1] at hp
      rw [h2] at hx
      have hx : a.eval x = .int .i64 n := hx
      split at hk
      · rename_i hsz
        obtain ⟨q, hq, hk⟩ := Option.bind_eq_some_iff.1 hk
        obtain ⟨n0, hn0, hk⟩ := Option.bind_eq_some_iff.1 hk
        obtain ⟨b, m, c, b', n', c', hv, hcell, hpp⟩ := hp
        obtain ⟨bi, e2, ho, hnb, hsub, hni, hback⟩ := h.elem hn hq hv hcell
        obtain ⟨b2, c2, cur, ys, bj, f1, f2, f3, f4, f5, f6, f7, f8, f9, _, f11⟩ := ho.elem2 hnb hn0
        simp only [Value.slice.injEq, Option.some.injEq, Addr.mk.injEq, and_true] at f1
        obtain ⟨rfl, _, _⟩ := f1
        obtain ⟨s1, s2⟩ := setInt_some (.int .i64) (x := n0) (x' := n) (j := 0) (n := n) f5 rfl
        have hw : (Ty.int .i64).wid = 1 := rfl
        have h3 := f3 0 (by rw [hw]; omega)
        have h11 := f11 n 0 (.int .i64 n) s1 s2
        rw [hw, show j * 1 + 0 = j from by omega] at h3 h11
        have hlt : j < cur.size := by
          rw [hw] at f4
          rw [List.getElem?_eq_getElem (by omega)] at h3
          exact (Array.getElem?_eq_some_iff.1 h3).1
        have hrun := run_storeVar (C := C) (w := w) (t := ty) (o := j) (v := .int .i64 n) f2 (by simpa [Value.cells] using hsz) (by simp [Value.cells]; omega) (by simp [Value.cells, Value.oneCell'])
        have hset : (cur.toList.take j ++ (Value.int IntKind.i64 n).cells.toList ++ cur.toList.drop (j + (Value.int IntKind.i64 n).cells.size)) = cur.toList.set j (.int .i64 n) := by
          rw [List.set_eq_take_append_cons_drop, if_pos (by simpa using hlt)]
          simp [Value.cells]
        rw [hset] at hrun
        unfold Oper.wp
        rw [show (execOp a.eval ⟨dst, .store ty p x, type, pos, after, guard⟩).run C.P w = .ok .skip (w.setRow b' (cur.toList.set j (.int .i64 n)).toArray) from by
          simp [execOp, hpp, hx, hrun]]
        have mo : MarkOut w (w.setRow b' (cur.toList.set j (.int .i64 n)).toArray) bi := ⟨rfl, rfl, ⟨rfl, fun _ => Nat.le_refl _⟩, by simp, fun x hx hxb => setRow_other w b' x _ fun hxe => hxb (hxe ▸ f9)⟩
        refine hnx _ _ _ _ hk (h.next (mo.mono hsub) (fun b1 n1 c1 hv1 => ?_) (hback _ _ mo h11)) trivial
        rw [hv] at hv1
        simp only [Value.slice.injEq, Option.some.injEq, Addr.mk.injEq, and_true] at hv1
        obtain ⟨rfl, _, _⟩ := hv1
        exact setRow_other w b' b _ fun hxe => hni (hxe ▸ f9)
      · simp at hk
    · simp at hk
  · simp at hk
theorem tPut_other (d : Option Tmp) (x : TV) (env : List TV) {t : Nat} (h : d ≠ some t) : (tPut d x env)[t]? = env[t]? := by
  unfold tPut
  split
  · rename_i d
    rw [List.getElem?_set, if_neg fun hx => h (by rw [hx])]
  · rfl
theorem opsT_some {r : ρ} {ops : Array Oper} (hn : bs.Nodup) : (os : List Oper) → (i : Nat) → {env : List TV} → {y : List (List Int)} → {a : Act} → {w : World} → {k : List TV → List (List Int) → Option ρ} →
    (∀ j o, os[j]? = some o → ops[i + j]? = some o) → (∀ o ∈ os, ∀ t, o.dst = some t → t ∈ W) → TI W a0 w0 v bs e env y a w → opsT C os env y k = some r → (Q : Exit → Act → World → Prop) →
    (∀ env' y' a' w', k env' y' = some r → TI W a0 w0 v bs e env' y' a' w' → env'.length = env.length → (∀ t, (∀ o ∈ os, o.dst ≠ some t) → env'[t]? = env[t]?) → Q .normal a' w') → wpOps C.P ops Q (List.range' i os.length) a w
  | [], i, env, y, a, w, k, ho, hW, h, hk, Q, hQ => by
    simp only [opsT] at hk
    simp only [List.length_nil, List.range'_zero, wpOps]
    exact hQ env y a w hk h rfl fun _ _ => rfl
  | o :: os, i, env, y, a, w, k, ho, hW, h, hk, Q, hQ => by
    simp only [opsT] at hk
    split at hk
    · rename_i hg
      simp only [List.length_cons, List.range'_succ, wpOps]
      have hoi : ops[i]? = some o := by have := ho 0 o rfl; simpa using this
      rw [hoi]
      simp only
      have hw : Region.wanted o (yielded ops a.tmps) = true := by simp [Region.wanted, hg]
      rw [if_pos hw]
      refine .inl (tOp_some hn h hk _ Q fun x y' u w' h1 h2 h3 => ?_)
      exact opsT_some hn os (i + 1) (fun j o' hj => by have := ho (j + 1) o' (by simpa using hj); rwa [show i + (j + 1) = i + 1 + j from by omega] at this) (fun o' ho' => hW o' (List.mem_cons_of_mem _ ho')) (h2.put o.dst (hW o List.mem_cons_self) h3) h1 Q
        fun env2 y2 a2 w2 k1 k2 k3 k4 => hQ env2 y2 a2 w2 k1 k2 (by
          rw [k3]
          unfold tPut
          split <;> simp) fun t ht => by
          rw [k4 t fun o' ho' => ht o' (List.mem_cons_of_mem _ ho')]
          exact tPut_other _ _ _ (ht o List.mem_cons_self)
    · simp at hk
theorem keepT_len (W : List Nat) : (n : Nat) → (env : List TV) → (keepT W n env).length = env.length
  | _, [] => rfl
  | n, x :: r => by simp only [keepT, List.length_cons, keepT_len W (n + 1) r]
theorem keepT_get (W : List Nat) : (n : Nat) → (env : List TV) → (t : Nat) → (keepT W n env)[t]? = (env[t]?).map fun x => if W.contains (n + t) then .unk else x
  | _, [], t => by simp [keepT]
  | n, x :: r, 0 => by simp [keepT]
  | n, x :: r, t + 1 => by
    simp only [keepT, List.getElem?_cons_succ]
    rw [keepT_get W (n + 1) r t, show n + 1 + t = n + (t + 1) from by omega]
theorem codeT_some (hn : bs.Nodup) (c : Code) : (∀ t ∈ wrC c, t ∈ W) → ∀ {ρ : Type} {env : List TV} {y : List (List Int)} {a : Act} {w : World} {k : AEx → List TV → List (List Int) → Option ρ} {r : ρ}, TI W a0 w0 v bs e env y a w → codeT C Ls c ρ env y k = some r → ∀ (Q : Exit → Act → World → Prop),
    (∀ e' env' y' a' w', k e' env' y' = some r → TI W a0 w0 v bs e env' y' a' w' → env'.length = env.length → (∀ t, t ∉ wrC c → env'[t]? = env[t]?) → Q e'.ex a' w') → c.wp C.P Q a w := by
  induction c with
  | skip =>
    intro hW ρ env y a w k r h hk Q hQ
    simp only [codeT] at hk
    exact wp_skip (hQ .normal env y a w hk h rfl fun _ _ => rfl)
  | region id ops draw =>
    intro hW ρ env y a w k r h hk Q hQ
    cases draw with
    | true => simp [codeT] at hk
    | false =>
      simp only [codeT] at hk
      refine wp_region ?_
      have := opsT_some (ops := ops) hn ops.toList 0 (fun j o hj => by rw [Nat.zero_add, ← Array.getElem?_toList]; exact hj) (fun o ho t ht => hW t (by simp only [wrC, List.mem_filterMap]; exact ⟨o, ho, ht⟩)) h hk Q
        fun env' y' a' w' h1 h2 h3 h4 => hQ .normal env' y' a' w' h1 h2 h3 fun t ht => h4 t fun o ho hd => ht (by simp only [wrC, List.mem_filterMap]; exact ⟨o, ho, hd⟩)
      rw [List.range_eq_range']; simpa using this
  | seq x y ihx ihy =>
    intro hW
    replace ihx := @ihx fun t ht => hW t (by simp only [wrC]; exact List.mem_append_left _ ht)
    replace ihy := @ihy fun t ht => hW t (by simp only [wrC]; exact List.mem_append_right _ ht)
    intro ρ env z a w k r h hk Q hQ
    simp only [codeT] at hk
    have nx : ∀ {t}, t ∉ wrC (.seq x y) → t ∉ wrC x ∧ t ∉ wrC y := fun {t} ht => ⟨fun hx => ht (by simp only [wrC]; exact List.mem_append_left _ hx), fun hx => ht (by simp only [wrC]; exact List.mem_append_right _ hx)⟩
    refine wp_seq (ihx h hk _ fun e' env' y' a' w' h1 h2 h3 h4 => ?_)
    cases e' with
    | normal => exact ihy h2 h1 Q fun e2 env2 y2 a2 w2 k1 k2 k3 k4 => hQ e2 env2 y2 a2 w2 k1 k2 (k3.trans h3) fun t ht => (k4 t (nx ht).2).trans (h4 t (nx ht).1)
    | exit id => exact hQ _ env' y' a' w' h1 h2 h3 fun t ht => h4 t (nx ht).1
    | ret => exact hQ _ env' y' a' w' h1 h2 h3 fun t ht => h4 t (nx ht).1
  | cond c x y ihx ihy =>
    intro hW
    replace ihx := @ihx fun t ht => hW t (by simp only [wrC]; exact List.mem_append_left _ ht)
    replace ihy := @ihy fun t ht => hW t (by simp only [wrC]; exact List.mem_append_right _ ht)
    intro ρ env z a w k r h hk Q hQ
    simp only [codeT] at hk
    have nx : ∀ {t}, t ∉ wrC (.cond c x y) → t ∉ wrC x ∧ t ∉ wrC y := fun {t} ht => ⟨fun hx => ht (by simp only [wrC]; exact List.mem_append_left _ hx), fun hx => ht (by simp only [wrC]; exact List.mem_append_right _ hx)⟩
    split at hk
    · rename_i cb hc
      have hv := h.get c
      rw [hc] at hv
      have hv : a.eval c = .bool cb := hv
      cases cb with
      | true => exact wp_cond_true hv (ihx h hk Q fun e' env' y' a' w' h1 h2 h3 h4 => hQ e' env' y' a' w' h1 h2 h3 fun t ht => h4 t (nx ht).1)
      | false => exact wp_cond_false hv (ihy h hk Q fun e' env' y' a' w' h1 h2 h3 h4 => hQ e' env' y' a' w' h1 h2 h3 fun t ht => h4 t (nx ht).2)
    · simp at hk
  | block id c ih =>
    intro hW
    replace ih := @ih fun t ht => hW t (by simp only [wrC]; exact ht)
    intro ρ env z a w k r h hk Q hQ
    simp only [codeT] at hk
    have nx : ∀ {t}, t ∉ wrC (.block id c) → t ∉ wrC c := fun {t} ht hx => ht (by simp only [wrC]; exact hx)
    refine wp_block (ih h hk _ fun e' env' y' a' w' h1 h2 h3 h4 => ?_)
    have h4' : ∀ t, t ∉ wrC (.block id c) → env'[t]? = env[t]? := fun t ht => h4 t (nx ht)
    cases e' with
    | normal => exact hQ .normal env' y' a' w' h1 h2 h3 h4'
    | ret => exact hQ .ret env' y' a' w' h1 h2 h3 h4'
    | exit id' =>
      simp only at h1
      by_cases hid : id' = id
      · simp only [hid, if_true] at h1
        simp only [AEx.ex, Exit.inBlock, hid, if_true]
        exact hQ .normal env' y' a' w' h1 h2 h3 h4'
      · simp only [hid, if_false] at h1
        simp only [AEx.ex, Exit.inBlock, hid, if_false]
        exact hQ (.exit id') env' y' a' w' h1 h2 h3 h4'
  | exit id =>
    intro hW ρ env y a w k r h hk Q hQ
    simp only [codeT] at hk
    exact wp_exit (hQ (.exit id) env y a w hk h rfl fun _ _ => rfl)
  | loop c ih =>
    intro hW
    replace ih := @ih fun t ht => hW t (by simp only [wrC]; exact ht)
    intro ρ env y a w k r h hk Q hQ
    simp only [codeT] at hk
    split at hk
    · rename_i L hL
      split at hk
      · cases hk
      rename_i hix
      have hix : L.ix ∈ wrC c := by simpa using hix
      split at hk
      · rename_i i0 hi0
        obtain ⟨res, hit, hk⟩ := Option.bind_eq_some_iff.1 hk
        have lay : ∀ {env1 : List TV} {y1 : List (List Int)} {a1 : Act} {w1 : World} {i : Int}, TI W a0 w0 v bs e env1 y1 a1 w1 → env1.length = env.length → (∀ t, t ∉ wrC c → t ≠ L.ix → env1[t]? = env[t]?) → env1[L.ix]? = some (.int i) → TI W a0 w0 v bs e (layT (wrC c) L.ix env i) y1 a1 w1 := fun {env1 y1 a1 w1 i} h1 hl q1 q2 => by
          refine { h1 with len := by rw [h1.len, hl]; simp [layT, keepT_len], env := fun j z hz => ?_, defers := h1.defers }
          unfold layT at hz
          rw [List.getElem?_set] at hz
          split at hz
          · rename_i hj
            subst hj
            split at hz
            · obtain rfl := Option.some.inj hz; exact h1.env _ _ q2
            · simp at hz
          · rename_i hj
            rw [keepT_get, Nat.zero_add] at hz
            obtain ⟨x, hx, rfl⟩ := Option.map_eq_some_iff.1 hz
            split
            · trivial
            · rename_i hw
              exact h1.env j x (by rw [q1 j (by simpa using hw) fun hx => hj hx.symm]; exact hx)
        have layE : ∀ {env1 : List TV} {y1 : List (List Int)} {a1 : Act} {w1 : World}, TI W a0 w0 v bs e env1 y1 a1 w1 → env1.length = env.length → (∀ t, t ∉ wrC c → env1[t]? = env[t]?) → TI W a0 w0 v bs e (keepT (wrC c) 0 env) y1 a1 w1 := fun {env1 y1 a1 w1} h1 hl q1 => by
          refine { h1 with len := by rw [h1.len, hl, keepT_len], env := fun j z hz => ?_, defers := h1.defers }
          rw [keepT_get, Nat.zero_add] at hz
          obtain ⟨x, hx, rfl⟩ := Option.map_eq_some_iff.1 hz
          split
          · trivial
          · rename_i hw
            have hw : j ∉ wrC c := by simpa using hw
            exact h1.env j x (by rw [q1 j hw]; exact hx)
        refine wp_mono (loop_iter (Inv := fun s aa ww => TI W a0 w0 v bs e (layT (wrC c) L.ix env s.1) s.2 aa ww) (Out := fun q e' aa ww => e' = .exit L.ex ∧ TI W a0 w0 v bs e (keepT (wrC c) 0 env) q aa ww) (fun y a w hf => by simp at hf) (fun s a w res hi hs => ?_) hit (lay h rfl (fun _ _ _ => rfl) hi0)) fun e' a' w' ho => ?_
        · refine ih hi hs _ fun e' env' y' a' w' h1 h2 h3 h4 => ?_
          have h3 : env'.length = env.length := by rw [h3]; simp [layT, keepT_len]
          have h5 : ∀ t, t ∉ wrC c → t ≠ L.ix → env'[t]? = env[t]? := fun t ht hx => by
            rw [h4 t ht]
            unfold layT
            rw [List.getElem?_set, if_neg fun hx' => hx hx'.symm, keepT_get, Nat.zero_add]
            cases env[t]? with
            | none => rfl
            | some x => simp [ht]
          cases e' with
          | normal =>
            simp only at h1
            split at h1
            · rename_i i' q3
              obtain rfl := Option.some.inj h1
              exact ⟨rfl, lay h2 h3 h5 q3⟩
            · simp at h1
          | exit id' =>
            simp only at h1
            split at h1
            · rename_i hid
              subst hid
              obtain rfl := Option.some.inj h1
              exact ⟨rfl, layE h2 h3 fun t ht => h5 t ht fun hx => ht (hx ▸ hix)⟩
            · simp at h1
          | ret => simp at h1
        · obtain ⟨rfl, ho⟩ := ho
          refine hQ (.exit L.ex) _ _ a' w' hk ho (by simp [keepT_len]) fun t ht => ?_
          have ht : t ∉ wrC c := fun hx => ht (by simp only [wrC]; exact hx)
          rw [keepT_get, Nat.zero_add]
          cases env[t]? with
          | none => rfl
          | some x => simp [ht]
      · simp at hk
    · simp at hk
  | _ =>
    intro hW ρ env y a w k r h hk Q hQ
    simp [codeT] at hk
end
section
variable {ρ : Type} {C : Ctx} {E : En} {G : Gh} {σ : Sg} {a : Act} {w : World}
theorem clobL_get (W : List Nat) : (n : Nat) → (env : List A) → (t : Nat) → (clobL W n env)[t]? = (env[t]?).map fun x => if W.contains (n + t) then .l .unk else x
  | _, [], t => by simp [clobL]
  | n, x :: r, 0 => by simp [clobL]
  | n, x :: r, t + 1 => by
    simp only [clobL, List.getElem?_cons_succ]
    rw [clobL_get W (n + 1) r t, show n + 1 + t = n + (t + 1) from by omega]
theorem clobL_len (W : List Nat) : (n : Nat) → (env : List A) → (clobL W n env).length = env.length
  | _, [] => rfl
  | n, x :: r => by simp only [clobL, List.length_cons, clobL_len W (n + 1) r]
theorem RelG.clob (h : RelG E G σ a w) {W : List Nat} {a' : Act} (hd : a'.defers = []) (hl : a'.tmps.size = a.tmps.size) (hf : ∀ t, t ∉ W → a'.tmps.getD t undef = a.tmps.getD t undef) (hW : ∀ t ∈ W, ¬ E.F t) : RelG E G (clobS W σ) a' w :=
  { defers := hd
    len := by rw [hl, h.len]; exact (clobL_len W 0 σ.env).symm
    env := fun t x hx => by
      have hx : (clobL W 0 σ.env)[t]? = some x := hx
      rw [clobL_get, Nat.zero_add] at hx
      obtain ⟨z, hz, rfl⟩ := Option.map_eq_some_iff.1 hx
      split
      · trivial
      · rename_i ht
        rw [hf t (by simpa using ht)]
        exact h.env t z hz
    obs := h.obs
    nodup := h.nodup
    range := h.range
    hrange := h.hrange
    disj := h.disj
    os := h.os
    tape := h.tape
    output := h.output
    size := h.size
    frame := h.frame
    xa := h.xa
    fixd := fun t ht => by rw [hf t fun hm => hW t hm ht]; exact h.fixd t ht }
theorem tvOf_ok (h : RelG E G σ a w) {id : Nat} {t : Nat} {x : A} (hx : σ.env[t]? = some x) : TVOk w (G id).1 (tvOf id x) (a.tmps.getD t undef) := by
  have hv := h.env t x hx
  unfold tvOf
  split
  · rename_i i
    split
    · rename_i hi
      subst hi
      exact hv.2.1
    · trivial
  · exact datInt hv
  · trivial
theorem topW_some {Bs : List TB} {env0 : List A} (hC : Ctrs E.d C) (hp : Par E env0) (hXH : ∀ b, E.X b → E.H b) (c : Code) : (∀ t ∈ wrC c, ¬ E.F t) → ∀ {ρ : Type} {σ : Sg} {G : Gh} {a : Act} {w : World} {k : AEx → Sg → Option ρ} {r : ρ}, RelG E G σ a w → topW C env0 Bs c ρ σ k = some r → ∀ (Q : Exit → Act → World → Prop),
    (∀ e σ' a' w' G', k e σ' = some r → RelG E G' σ' a' w' → Q e.ex a' w') → c.wp C.P Q a w := by
  have base : ∀ c : Code, (∀ t ∈ wrC c, ¬ E.F t) → ∀ {ρ : Type} {σ : Sg} {G : Gh} {a : Act} {w : World} {k : AEx → Sg → Option ρ} {r : ρ}, RelG E G σ a w → codeK C c ρ σ k = some r → ∀ (Q : Exit → Act → World → Prop),
      (∀ e σ' a' w' G', k e σ' = some r → RelG E G' σ' a' w' → Q e.ex a' w') → c.wp C.P Q a w := fun c hF ρ σ G a w k r h hk Q hQ =>
    codeK_some hC c rfl hF h hk Q fun e σ' a' w' G' h1 h2 _ _ => hQ e σ' a' w' G' h1 h2
  induction c with
  | seq x y ihx ihy =>
    intro hF
    replace ihx := @ihx fun t ht => hF t (by simp only [wrC]; exact List.mem_append_left _ ht)
    replace ihy := @ihy fun t ht => hF t (by simp only [wrC]; exact List.mem_append_right _ ht)
    intro ρ σ G a w k r h hk Q hQ
    simp only [topW] at hk
    refine wp_seq (ihx h hk _ fun e σ' a' w' G' h1 h2 => ?_)
    cases e with
    | normal => exact ihy h2 h1 Q hQ
    | exit id => exact hQ _ σ' a' w' G' h1 h2
    | ret => exact hQ _ σ' a' w' G' h1 h2
  | cond c x y ihx ihy =>
    intro hF
    replace ihx := @ihx fun t ht => hF t (by simp only [wrC]; exact List.mem_append_left _ ht)
    replace ihy := @ihy fun t ht => hF t (by simp only [wrC]; exact List.mem_append_right _ ht)
    intro ρ σ G a w k r h hk Q hQ
    simp only [topW] at hk
    have hg := h.get c
    split at hk
    · rename_i nn cb h1
      rw [h1] at hg
      have hv : a.eval c = .bool cb := by
        obtain ⟨⟨cs, q1, q2⟩, _⟩ := hg
        simp only [RdC] at q1
        rw [q2, q1]; rfl
      cases cb with
      | true => exact wp_cond_true hv (ihx h hk Q hQ)
      | false => exact wp_cond_false hv (ihy h hk Q hQ)
    · simp at hk
  | block id c ih =>
    intro hF ρ σ G a w k r h hk Q hQ
    simp only [topW] at hk
    split at hk
    · split at hk
      · rename_i ob hob
        split at hk
        · rename_i e t y ho
          obtain ⟨y1, hc, hk⟩ := Option.bind_eq_some_iff.1 hk
          obtain ⟨e1, hy⟩ := castT_some hc
          have e3 : t = LL := by simpa using e1
          subst e3
          have hy : y = y1 := hy
          subst hy
          have hoo := h.obs ob _ ho
          have hown : OwnV (fun _ => False) w true e LL y (G ob).1 (G ob).2 := OwnV.alone (by simpa only [OR] using hoo) (.inl rfl)
          have hn := h.nodup ob _ ho rfl
          have hti : TI (wrC (.block id c)) a w (G ob).1 (G ob).2 e (σ.env.map (tvOf ob)) y a w :=
            ⟨h.defers, by rw [h.len]; simp, fun i x hx => by
              rw [List.getElem?_map] at hx
              obtain ⟨z, hz, rfl⟩ := Option.map_eq_some_iff.1 hx
              exact tvOf_ok h hz, rfl, fun _ _ => rfl, .refl _ _, hown⟩
          refine codeT_some (W := wrC (.block id c)) hn (.block id c) (fun t ht => ht) hti hk Q fun ex env' y' a' w' h1 h2 h3 h4 => ?_
          cases ex with
          | normal =>
            have hm := h.marked (env0 := env0) hp hXH ho h2.out h2.own
            exact hQ .normal _ a' w' G h1 (hm.clob h2.defers h2.size (fun t ht => h2.fix t (fun hx => ht (by simp only [wrC] at hx; exact hx))) fun t ht => hF t (by simp only [wrC]; exact ht))
          | exit id' => simp at h1
          | ret => simp at h1
        · simp at hk
      · simp at hk
    · exact base _ hF h hk Q hQ
  | _ =>
    intro hF ρ σ G a w k r h hk Q hQ
    simp only [topW] at hk
    exact base _ hF h hk Q hQ
theorem funWr_ctr {Bs : List TB} {D : Prop} (hC : Ctrs D C) {e : CallE} {fn : Func} {c : Code} (hf : C.P.funcs[e.f]? = some fn) (hname : (fn.name == "runtime.NumGoroutine") = false) (hbody : fn.body = some c) (hn : e.ps.length ≤ fn.ntmps)
    (hio : ∀ (i : Nat) (p : PM), e.ps[i]? = some p → isIo p = true → i ∉ wrC c) (hd : e.ps.all isD = true) (hF : ∀ x r, e.F x = some r → funWr C Bs fn e.ps e.rs x = some r) : FnOk C.P e.f ∧ Ctr D C.P e := by
  refine ⟨⟨fn, c, hf, hname, hbody⟩, fun x r hx I w vs bss hin hargs => ?_⟩
  have hk := hF x r hx
  have hvl : vs.length = e.ps.length := by
    have : ∀ (ps : List PM) (y : PMs.den ps) (vs : List Value) (bss : List (List Nat)), ArgsV I w ps y vs bss → vs.length = ps.length := by
      intro ps
      induction ps with
      | nil => intro y vs bss h; cases vs with
        | nil => rfl
        | cons _ _ => exact h.elim
      | cons p ps ih =>
        intro y vs bss h
        cases ps with
        | nil => match vs, h with
          | [v], _ => rfl
        | cons p' r => match vs, h with
          | v :: vs, ⟨b1, b2, _, _, h⟩ => simp only [List.length_cons]; rw [ih _ _ _ h]; rfl
    exact this _ _ _ _ hargs
  let a : Act := { tmps := vs.toArray ++ Array.replicate (fn.ntmps - vs.toArray.size) undef, defers := [] }
  let E : En := ⟨w, fun b => I b ∨ b ∈ bss.flatten, fun b => b ∈ bss.flatten, fun b => ∃ bs ∈ bss, bs.head? = some b, fun t => t ∉ wrC c, fun t => a.tmps.getD t undef, D⟩
  have hsz : a.tmps.size = fn.ntmps := by simp [a]; omega
  have h0 : Pre E I (fun _ => False) (fun _ => (undef, [])) ⟨List.replicate fn.ntmps (.l .unk), []⟩ a w :=
    { defers := rfl
      len := by rw [hsz]; simp
      env := fun t x hx => by
        rw [List.getElem?_replicate] at hx
        split at hx
        · obtain rfl := Option.some.inj hx; trivial
        · simp at hx
      obs := fun id o ho => by simp [Sg.ob] at ho
      nodup := fun id o ho => by simp [Sg.ob] at ho
      range := fun id o ho => by simp [Sg.ob] at ho
      hrange := fun id o ho => by simp [Sg.ob] at ho
      disj := fun id id' o o' ho => by simp [Sg.ob] at ho
      os := rfl
      tape := rfl
      output := .refl _
      size := Nat.le_refl _
      frame := fun _ _ _ => rfl
      xa := ⟨fun b hb => .inr hb, hin.gl, hin.gx, fun b ⟨bs, hbs, hb⟩ => hin.gx b (List.mem_flatten.2 ⟨bs, hbs, List.mem_of_mem_head? hb⟩)⟩
      fixd := fun _ _ => rfl
      acc := fun b hb => ⟨hin.acc b hb, fun _ => .inl hb⟩ }
  have hadm : Adm E I (fun _ => False) w bss := ⟨hin.nodup, fun b hb => ⟨hin.range b hb, fun _ => hb, fun hf => hf⟩, fun bs hbs b hb => ⟨fun _ => ⟨bs, hbs, hb⟩, hin.head bs hbs b hb⟩⟩
  obtain ⟨G1, h1, h2, h3⟩ := encPs_some e.ps h0 hargs hadm
  unfold funWr at hk
  rw [hbody] at hk
  simp only at hk
  have hfl := argsD_nil e.ps hd hargs
  have hal := encPs_len e.ps ⟨List.replicate fn.ntmps (.l .unk), []⟩ x
  generalize encPs ⟨List.replicate fn.ntmps (.l .unk), []⟩ e.ps x = q at hk h1 h2 h3 hal
  obtain ⟨as, σ1⟩ := q
  simp only at hk h1 h2 h3 hal
  have hstart : RelG E G1 { σ1 with env := as ++ σ1.env.drop as.length } a w := by
    have hr := h1.rel
    have h2' := h2.keep h1.keep as
    refine { hr with len := ?_, env := fun t y hy => ?_ }
    · show a.tmps.size = (as ++ σ1.env.drop as.length).length
      rw [hsz, h3.env]; simp; omega
    · show VA (Imm E G1 σ1 w) σ1.hp.length G1 w y _
      have hy : (as ++ σ1.env.drop as.length)[t]? = some y := hy
      by_cases ht : t < as.length
      · rw [List.getElem?_append_left ht] at hy
        have : ∀ (as : List A) (vs : List Value) (t : Nat) (y : A), VAs (Imm E G1 σ1 w) σ1.hp.length G1 w as vs → as[t]? = some y → ∃ v, vs[t]? = some v ∧ VA (Imm E G1 σ1 w) σ1.hp.length G1 w y v := by
          intro as
          induction as with
          | nil => intro vs t y _ hy; simp at hy
          | cons a as ih =>
            intro vs t y hv hy
            cases vs with
            | nil => exact hv.elim
            | cons v vs =>
              cases t with
              | zero => simp at hy; subst hy; exact ⟨v, rfl, hv.1⟩
              | succ t => simpa using ih vs t y hv.2 (by simpa using hy)
        obtain ⟨v, hv1, hv2⟩ := this as vs t y h2' hy
        have hlt := (List.getElem?_eq_some_iff.1 hv1).1
        have : a.tmps.getD t undef = v := by
          simp only [a, Array.getD_eq_getD_getElem?]
          rw [Array.getElem?_append_left (by simpa using hlt)]
          simp [hv1]
        rw [this]; exact hv2
      · rw [List.getElem?_append_right (by omega), List.getElem?_drop, h3.env, List.getElem?_replicate] at hy
        split at hy
        · obtain rfl := Option.some.inj hy; trivial
        · simp at hy
  refine calls_of_wp hf hbody ?_
  have hX : ∀ b, ¬ E.X b := fun b hb => by
    have hb : b ∈ bss.flatten := hb
    rw [hfl] at hb; simp at hb
  have hH : ∀ b, ¬ E.H b := fun b hb => by
    obtain ⟨bs, h1, h2⟩ : ∃ bs ∈ bss, bs.head? = some b := hb
    exact hX b (List.mem_flatten.2 ⟨bs, h1, List.mem_of_mem_head? h2⟩)
  refine topW_some (E := E) (env0 := []) hC ⟨fun i x hx => by simp at hx, fun i x hx => by simp at hx⟩ (fun b hb => absurd hb (hX b)) c (fun t ht hf => hf ht) hstart hk _ fun ex σ' a' w' G' hk2 hr => ?_
  have fin : (resK C σ' fn.results.toList fun vs => ioK e.ps 0 (frzSs e.rs vs σ') fun o σ => decSs e.rs vs σ fun r _ => some (resJ (hasIo e.ps) r o)) = some r → a'.defers = [] ∧ ∃ v, (results fn a'.tmps).run C.P w' = .ok v w' ∧
      ∃ (I' : Nat → Prop) (rvs : List Value) (rbss ibss : List (List Nat)), Ending.returned v = .returned (retV rvs) ∧ CallOut D I w w' bss (ibss ++ rbss) I' ∧
      SVs I' w' e.rs (resB (hasIo e.ps) r).1 rvs rbss ∧ ((resB (hasIo e.ps) r).2 = none → ibss = []) ∧ ∀ o, (resB (hasIo e.ps) r).2 = some o → IoV I' w' e.ps o vs ibss := fun hk3 => by
    refine ⟨hr.defers, ?_⟩
    obtain ⟨xs, rvs, k1, k2, k3, k4⟩ := resK_some hr _ hk3
    have f := frzSs_frz e.rs xs σ'
    have hr2 := f.rel hr
    generalize frzSs e.rs xs σ' = σ2 at k1 f hr2
    obtain ⟨o, σ3, new1, ibss, q1, q2, q3⟩ := ioK_some hr2 e.ps 0 (vs := vs) (Gone.refl _) (by simp [Mine]) hvl (fun j p v hp hi hv => by
      have hfx := hr2.fixd (0 + j) (by show 0 + j ∉ wrC c; rw [Nat.zero_add]; exact hio j p hp hi)
      rw [hfx]
      show a.tmps.getD (0 + j) undef = v
      have hlt := (List.getElem?_eq_some_iff.1 hv).1
      simp only [a, Array.getD_eq_getD_getElem?, Nat.zero_add]
      rw [Array.getElem?_append_left (by simpa using hlt)]
      simp [hv]) k1
    obtain ⟨y, σ4, new2, rbss, q4, q5, hsv⟩ := decSs_some e.rs hr2 q2.gone (by simpa using q2.mine) q1 (k2.keep f.keep _)
    obtain rfl := Option.some.inj q4
    have tk := Took.trans hr2 q2 q5
    obtain ⟨z1, z2, z3⟩ := resB_resJ (hasIo e.ps) y o
    refine ⟨_, run_results k3 k4, Imm E G' σ2 w', rvs, rbss, ibss, rfl, ?_, ?_, fun hno => IoV.noIo e.ps (z2 hno) q3, fun o' ho => ?_⟩
    · have had := tk.cls.adm hr2 tk.mine (U := fun _ => False) (fun _ _ _ _ hf => hf)
      exact ⟨hr2.os, hr2.tape, hr2.output, hr2.size, fun b hb hh => hr2.frame b hb fun ⟨bs, hbs, hx⟩ => hh bs hbs hx, fun b hb => ⟨hb.1, hb.2.1⟩, had.nodup,
        fun b hb => ⟨(had.range b hb).1, (had.range b hb).2.1⟩, fun bs hbs b hb => ⟨(had.head bs hbs b hb).2, (had.head bs hbs b hb).1⟩⟩
    · rw [z1]; exact hsv
    · rw [z3 o' ho]; exact q3
  cases ex with
  | normal => exact fin hk2
  | ret => exact fin hk2
  | exit id => simp at hk2
end
theorem mkCtrW {D : Prop} {C : Ctx} {Bs : List TB} {e : CallE} {fn : Func} (hm : C.P.follows .mixedOrders = true) (h : AllC D C.P C.O) (hf : C.P.funcs[e.f]? = some fn) (hok : okFn fn e.ps = true) (hlw : e.ps.all isD = true)
    (hF : ∀ x, funWr C Bs fn e.ps e.rs x = e.F x) (hi : AllI D C.P C.I := by trivial) : FnOk C.P e.f ∧ Ctr D C.P e := by
  unfold okFn at hok
  simp only [Bool.and_eq_true, Bool.not_eq_true', decide_eq_true_eq] at hok
  obtain ⟨⟨h1, h2⟩, h3⟩ := hok
  split at h2
  · rename_i c hc
    exact funWr_ctr (ctrs_of hm h hi) hf h1 hc h3 (fun i p hp hi => by
      have := ioOk_some e.ps 0 h2 i p hp hi
      rwa [Nat.zero_add] at this) hlw fun x r hx => (hF x).trans hx
  · simp at h2
end Go.Proofs.Ytmdagdopfgiaiaa.Eng
