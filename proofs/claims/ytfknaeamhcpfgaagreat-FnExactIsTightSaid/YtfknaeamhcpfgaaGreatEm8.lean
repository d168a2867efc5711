/-
  The engine: code that picks one element out of a slice of its own. No condition.
-/
import Derived.Test.YtfknaeamhcpfgaaGreatEm7
namespace Go.Proofs.YtfknaeamhcpfgaaGreat.Eng
open Go
set_option linter.unusedVariables false
set_option linter.unusedSimpArgs false
/-- What is known of a slot: the slice, data of the first world, a pointer to an element, the slice that stands there, a pointer to data, what was picked. -/
inductive UV where
  | unk
  | sl
  | dat (t : Ty) (x : t.den)
  | fp (i : Nat)
  | es (i : Nat)
  | ip (t : Ty) (x : t.den)
  | out
  | und
def uget (env : List UV) (x : Operand) : UV :=
  match x with
  | .tmp t => env.getD t .unk
  | .const v => match v with
    | .int .i64 n => .dat (.int .i64) n
    | .bool b => .dat .bool b
    | _ => .unk
  | _ => .unk
def UV.stale : UV → UV
  | .out => .unk
  | x => x
def uPut (d : Option Tmp) (x : UV) (env : List UV) : List UV :=
  match d with
  | some d => env.set d x
  | none => env
def keepU (W : List Nat) : Nat → List UV → List UV
  | _, [] => []
  | n, x :: r => (if W.contains n then .unk else x.stale) :: keepU W (n + 1) r
/-- The state of a loop: its index; the list's slot always holds the list. -/
def layU (W : List Nat) (ix ou : Nat) (env : List UV) (i : Int) : List UV := ((keepU W 0 env).set ix (.dat (.int .i64) i)).set ou .out
/-- An argument as data. -/
def uDat (y : List (List Int)) (is : List Nat) (x : UV) (t : Ty) : Option t.den :=
  match x with
  | .dat t' x => castT t' t x
  | .es i => (y[i]?).bind fun q => castT (.list (.int .i64)) t q
  | .out => match is with
    | [i] => (y[i]?).bind fun q => castT (.list (.int .i64)) t q
    | _ => none
  | _ => none
def uArgs (y : List (List Int)) (is : List Nat) : (ps : List PM) → List UV → Option (PMs.den ps)
  | [], [] => some ()
  | [.d false t], [x] => uDat y is x t
  | .d false t :: p :: r, x :: xs => (uDat y is x t).bind fun a => (uArgs y is (p :: r) xs).bind fun b => some (a, b)
  | _, _ => none
section
variable {ρ : Type} (C : Ctx) (y : List (List Int))
end
/-! What this stands for: all blocks of the first world stay as they are. -/
def UVOk (w0 w : World) (v vo : Value) : UV → Value → Prop
  | .unk, _ => True
  | .sl, u => u = v
  | .dat t x, u => RdV (fun b => b < w0.heap.size) w0 t x u
  | .fp i, u => ∃ b n c, v = .slice (some ⟨b, 0, none⟩) n c ∧ u = .pointer (some ⟨b, i, none⟩)
  | .es i, u => ∃ b n c, v = .slice (some ⟨b, 0, none⟩) n c ∧ w0.cell? ⟨b, i, none⟩ = some u ∧ i < n ∧ u.oneCell' = true
  | .ip t x, u => ∃ b o cs, u = .pointer (some ⟨b, o, none⟩) ∧ b < w0.heap.size ∧ (∀ j, j < t.wid → w0.cell? ⟨b, o + j, none⟩ = cs[j]?) ∧ RdC (fun b => b < w0.heap.size) w0 t x cs
  | .out, u => u = vo
  | .und, u => u = undef
/-- What is picked: the cell of the slice at the index. -/
def UOut (w0 : World) (v : Value) (is : List Nat) (vo : Value) : Prop := ∀ i, is = [i] → ∃ b n c, v = .slice (some ⟨b, 0, none⟩) n c ∧ w0.cell? ⟨b, i, none⟩ = some vo ∧ i < n ∧ vo.oneCell' = true
structure UI (W : List Nat) (a0 : Act) (w0 : World) (v : Value) (bs : List Nat) (e : TypeId) (y : List (List Int)) (env : List UV) (is : List Nat) (vo : Value) (a : Act) (w : World) : Prop where
  defers : a.defers = []
  len : a.tmps.size = env.length
  env : ∀ (i : Nat) (x : UV), env[i]? = some x → UVOk w0 w v vo x (a.tmps.getD i undef)
  size : a.tmps.size = a0.tmps.size
  fix : ∀ t, t ∉ W → a.tmps.getD t undef = a0.tmps.getD t undef
  ext : Ext w0 w
  own : OwnV (fun _ => False) w0 true e LL y v bs
  out : UOut w0 v is vo
  gl : Gl w0
section
variable {ρ : Type} {C : Ctx} {W : List Nat} {a0 : Act} {w0 w : World} {v vo : Value} {bs : List Nat} {e : TypeId} {env : List UV} {is : List Nat} {y : List (List Int)} {a : Act}
theorem UI.get (h : UI W a0 w0 v bs e y env is vo a w) (x : Operand) : UVOk w0 w v vo (uget env x) (a.eval x) := by
  unfold uget
  split
  · rename_i i
    simp only [List.getD_eq_getElem?_getD, Act.eval]
    cases hx : env[i]? with
    | none => trivial
    | some x => exact h.env i x hx
  · split
    · exact ⟨[.int .i64 _], by simp only [RdC], rfl⟩
    · exact ⟨[.bool _], by simp only [RdC], rfl⟩
    · trivial
  · trivial
theorem UI.put (h : UI W a0 w0 v bs e y env is vo a w) (d : Option Tmp) (hd : ∀ t, d = some t → t ∈ W) {x : UV} {u : Value} (hu : UVOk w0 w v vo x u) : UI W a0 w0 v bs e y (uPut d x env) is vo (a.put d u) w := by
  cases d with
  | none => exact h
  | some d =>
    refine { h with len := by simp [Act.put, uPut, h.len], env := fun i z hz => ?_, defers := h.defers, size := by rw [← h.size]; simp [Act.put], fix := fun t ht => ?_ }
    · simp only [uPut, List.getElem?_set] at hz
      by_cases hi : d = i
      · subst hi
        simp only [if_true] at hz
        split at hz
        · rename_i hlt
          obtain rfl := Option.some.inj hz
          have : (a.put (some d) u).tmps.getD d undef = u := by simp [Act.put, Array.getElem?_setIfInBounds, h.len, hlt]
          rw [this]; exact hu
        · simp at hz
      · rw [if_neg hi] at hz
        have : (a.put (some d) u).tmps.getD i undef = a.tmps.getD i undef := by simp [Act.put, Array.getElem?_setIfInBounds, hi]
        rw [this]; exact h.env i z hz
    · have hne : d ≠ t := fun hx => ht (hx ▸ hd d rfl)
      rw [← h.fix t ht]
      simp [Act.put, Array.getElem?_setIfInBounds, hne]
/-- One element as data of the first world. -/
theorem UI.cell (h : UI W a0 w0 v bs e y env is vo a w) (hn : bs.Nodup) {i : Nat} {q : List Int} (hq : y[i]? = some q) {u : Value} {b n c : Nat} (hv : v = .slice (some ⟨b, 0, none⟩) n c) (hc : w0.cell? ⟨b, i, none⟩ = some u) :
    ∃ bi, DpC 0 w0 LL q [u] bi ∧ bi.Nodup ∧ ∀ x ∈ bi, x ∈ bs := by
  obtain ⟨b1, c1, cur, ys, bi, e1, e2, e3, e4, e5, e6, e7, e8, _⟩ := h.own.elem2 hn hq
  rw [hv] at e1
  simp only [Value.slice.injEq, Option.some.injEq, Addr.mk.injEq, and_true] at e1
  obtain ⟨rfl, _, _⟩ := e1
  have hw : (LL).wid = 1 := rfl
  have h3 := e3 0 (by rw [hw]; omega)
  rw [hw] at h3 e4
  rw [cellEq e2] at hc
  have hys : ys = [u] := by
    match ys, e4 with
    | [z], _ =>
      have : cur[i * 1 + 0]? = some z := h3
      rw [show i * 1 + 0 = i from by omega, hc] at this
      rw [Option.some.inj this]
  subst hys
  exact ⟨bi, e5, e6, e8⟩
theorem UI.dat (h : UI W a0 w0 v bs e y env is vo a w) (hn : bs.Nodup) {x : UV} {u : Value} (hx : UVOk w0 w v vo x u) {t : Ty} {d : t.den} (hd : uDat y is x t = some d) : RdV (fun b => b < w0.heap.size) w0 t d u := by
  unfold uDat at hd
  split at hd
  · obtain ⟨rfl, rfl⟩ := castT_some hd
    exact hx
  · rename_i i
    obtain ⟨q, hq, hd⟩ := Option.bind_eq_some_iff.1 hd
    obtain ⟨rfl, rfl⟩ := castT_some hd
    obtain ⟨b, n, c, hv, hc, _⟩ := hx
    obtain ⟨bi, h1, _, _⟩ := h.cell hn hq hv hc
    exact ⟨[u], h1.rd LL fun b hb => (DpC.range LL h1 b hb).2, rfl⟩
  · split at hd
    · rename_i i
      obtain ⟨q, hq, hd⟩ := Option.bind_eq_some_iff.1 hd
      obtain ⟨rfl, rfl⟩ := castT_some hd
      obtain ⟨b, n, c, hv, hc, _⟩ := h.out i rfl
      have hx : u = vo := hx
      subst hx
      obtain ⟨bi, h1, _, _⟩ := h.cell hn hq hv hc
      exact ⟨[u], h1.rd LL fun b hb => (DpC.range LL h1 b hb).2, rfl⟩
    · cases hd
  · cases hd
theorem UI.args (h : UI W a0 w0 v bs e y env is vo a w) (hn : bs.Nodup) : (ps : List PM) → (os : List Operand) → {d : PMs.den ps} → uArgs y is ps (os.map (uget env)) = some d →
    ArgsV (fun b => b < w0.heap.size) w ps d (os.map a.eval) (ps.map fun _ => []) ∧ ps.all isD = true
  | [], [], d, _ => ⟨by simp only [List.map_nil, ArgsV], rfl⟩
  | [.d false t], [o], d, hd => by
    simp only [List.map_cons, List.map_nil, uArgs] at hd
    exact ⟨⟨[], rfl, (h.dat hn (h.get o) hd).mono (fun _ hb => hb) (fun b hb => h.ext.block b hb), (fun hf => by cases hf), rfl⟩, rfl⟩
  | .d false t :: p :: r, o :: os, d, hd => by
    simp only [List.map_cons, uArgs] at hd
    obtain ⟨d1, h1, hd⟩ := Option.bind_eq_some_iff.1 hd
    obtain ⟨d2, h2, hd⟩ := Option.bind_eq_some_iff.1 hd
    obtain rfl := Option.some.inj hd
    obtain ⟨k1, k2⟩ := UI.args h hn (p :: r) os h2
    exact ⟨⟨[], _, rfl, ⟨(h.dat hn (h.get o) h1).mono (fun _ hb => hb) (fun b hb => h.ext.block b hb), (fun hf => by cases hf), rfl⟩, k1⟩, by simpa [isD] using k2⟩
theorem UVOk.ext {w' : World} (he : Ext w w') : (x : UV) → {u : Value} → UVOk w0 w v vo x u → UVOk w0 w' v vo x u
  | .unk, _, _ => trivial
  | .sl, _, h => h
  | .dat _ _, _, h => h
  | .fp _, _, h => h
  | .es _, _, h => h
  | .ip _ _, _, h => h
  | .out, _, h => h
  | .und, _, h => h
theorem UVOk.stale {w' : World} {vo' : Value} : (x : UV) → {u : Value} → UVOk w0 w v vo x u → UVOk w0 w' v vo' x.stale u
  | .unk, _, _ => trivial
  | .sl, _, h => h
  | .dat _ _, _, h => h
  | .fp _, _, h => h
  | .es _, _, h => h
  | .ip _ _, _, h => h
  | .out, _, _ => trivial
  | .und, _, h => h
theorem UI.grow {w' : World} (he : Ext w w') (h : UI W a0 w0 v bs e y env is vo a w) : UI W a0 w0 v bs e y env is vo a w' :=
  { h with env := fun i x hx => (h.env i x hx).ext he, ext := h.ext.trans he }
/-- What a later list of slots keeps of an earlier one. -/
def St (W : List Nat) (env env' : List UV) : Prop := env'.length = env.length ∧ ∀ t, t ∉ W → env'[t]? = env[t]? ∨ env'[t]? = (env[t]?).map UV.stale
theorem stale_stale (x : UV) : x.stale.stale = x.stale := by cases x <;> rfl
theorem St.refl (W : List Nat) (env : List UV) : St W env env := ⟨rfl, fun _ _ => .inl rfl⟩
theorem St.trans {e1 e2 e3 : List UV} (h : St W e1 e2) (k : St W e2 e3) : St W e1 e3 := by
  refine ⟨k.1.trans h.1, fun t ht => ?_⟩
  rcases k.2 t ht with k1 | k1 <;> rcases h.2 t ht with h1 | h1
  · exact .inl (k1.trans h1)
  · exact .inr (k1.trans h1)
  · exact .inr (by rw [k1, h1])
  · refine .inr ?_
    rw [k1, h1, Option.map_map]
    congr 1
    funext x
    exact stale_stale x
theorem St.mono {W' : List Nat} {e1 e2 : List UV} (h : St W e1 e2) (hs : ∀ t ∈ W, t ∈ W') : St W' e1 e2 := ⟨h.1, fun t ht => h.2 t fun hx => ht (hs t hx)⟩
theorem getD_map {α β : Type} {f : α → β} {l : List α} {i : Nat} {x : β} (h : (l.map f)[i]? = some x) : ∃ z, l[i]? = some z ∧ f z = x := by
  rw [List.getElem?_map] at h
  obtain ⟨z, hz, hx⟩ := Option.map_eq_some_iff.1 h
  exact ⟨z, hz, hx⟩
/-- An element is picked. -/
theorem UI.pick (h : UI W a0 w0 v bs e y env is vo a w) {ou i : Nat} (hW : ou ∈ W) {u : Value} (hu : UVOk w0 w v vo (.es i) u) : UI W a0 w0 v bs e y ((env.map UV.stale).set ou .out) [i] u (a.put (some ou) u) w := by
  refine { h with len := by simp [Act.put, h.len], env := fun j z hz => ?_, defers := h.defers, size := by rw [← h.size]; simp [Act.put], fix := fun t ht => ?_, out := fun i' hi' => ?_ }
  · rw [List.getElem?_set] at hz
    by_cases hi : ou = j
    · subst hi
      simp only [if_true] at hz
      split at hz
      · rename_i hlt
        obtain rfl := Option.some.inj hz
        have hlt : ou < env.length := by simpa using hlt
        have : (a.put (some ou) u).tmps.getD ou undef = u := by simp [Act.put, Array.getElem?_setIfInBounds, h.len, hlt]
        rw [this]; exact rfl
      · simp at hz
    · rw [if_neg hi] at hz
      have : (a.put (some ou) u).tmps.getD j undef = a.tmps.getD j undef := by simp [Act.put, Array.getElem?_setIfInBounds, hi]
      rw [this]
      obtain ⟨x0, hx0, rfl⟩ := getD_map hz
      exact (h.env j x0 hx0).stale x0
  · have hne : ou ≠ t := fun hx => ht (hx ▸ hW)
    rw [← h.fix t ht]
    simp [Act.put, Array.getElem?_setIfInBounds, hne]
  · obtain rfl : i = i' := by simpa using hi'
    exact hu
theorem keepU_len (W : List Nat) : (n : Nat) → (env : List UV) → (keepU W n env).length = env.length
  | _, [] => rfl
  | n, x :: r => by simp only [keepU, List.length_cons, keepU_len W (n + 1) r]
theorem keepU_get (W : List Nat) : (n : Nat) → (env : List UV) → (t : Nat) → (keepU W n env)[t]? = (env[t]?).map fun x => if W.contains (n + t) then .unk else x.stale
  | _, [], t => by simp [keepU]
  | n, x :: r, 0 => by simp [keepU]
  | n, x :: r, t + 1 => by
    simp only [keepU, List.getElem?_cons_succ]
    rw [keepU_get W (n + 1) r t, show n + 1 + t = n + (t + 1) from by omega]
theorem UI.at_ (h : UI W a0 w0 v bs e y env is vo a w) {W' : List Nat} {env1 : List UV} {is1 : List Nat} {vo1 : Value} {a1 : Act} {w1 : World} (h1 : UI W a0 w0 v bs e y env1 is1 vo1 a1 w1) (hl : env1.length = env.length) {ou : Nat}
    (hs : ∀ t, t ∉ W' → t ≠ ou → env1[t]? = env[t]? ∨ env1[t]? = (env[t]?).map UV.stale) (ho : env1[ou]? = some .out) : UI W a0 w0 v bs e y ((keepU W' 0 env).set ou .out) is1 vo1 a1 w1 := by
  refine { h1 with len := by rw [h1.len, hl]; simp [keepU_len], env := fun j z hz => ?_ }
  rw [List.getElem?_set] at hz
  by_cases hj : ou = j
  · subst hj
    simp only [if_true] at hz
    split at hz
    · obtain rfl := Option.some.inj hz
      exact h1.env _ _ ho
    · cases hz
  · rw [if_neg hj, keepU_get, Nat.zero_add] at hz
    obtain ⟨x, hx, rfl⟩ := Option.map_eq_some_iff.1 hz
    split
    · trivial
    · rename_i hw
      have hw : j ∉ W' := by simpa using hw
      rcases hs j hw (fun h => hj h.symm) with q | q
      · rw [hx] at q
        exact (h1.env j x q).stale x
      · rw [hx] at q
        exact h1.env j _ q
theorem layU_eq (W' : List Nat) (ix ou : Nat) (env : List UV) (i : Int) (hne : ix ≠ ou) : layU W' ix ou env i = ((keepU W' 0 env).set ou .out).set ix (.dat (.int .i64) i) := by
  unfold layU
  rw [List.set_comm _ _ hne]
theorem UI.lay (h : UI W a0 w0 v bs e y env is vo a w) {W' : List Nat} {env1 : List UV} {is1 : List Nat} {vo1 : Value} {a1 : Act} {w1 : World} (h1 : UI W a0 w0 v bs e y env1 is1 vo1 a1 w1) (hl : env1.length = env.length) {ix ou : Nat} {i : Int} (hne : ix ≠ ou)
    (hs : ∀ t, t ∉ W' → t ≠ ou → env1[t]? = env[t]? ∨ env1[t]? = (env[t]?).map UV.stale) (ho : env1[ou]? = some .out) (hi : env1[ix]? = some (.dat (.int .i64) i)) : UI W a0 w0 v bs e y (layU W' ix ou env i) is1 vo1 a1 w1 := by
  have h2 := h.at_ (W' := W') h1 hl hs ho
  rw [layU_eq _ _ _ _ _ hne]
  refine { h2 with len := by rw [h2.len]; simp, env := fun j z hz => ?_ }
  rw [List.getElem?_set] at hz
  by_cases hj : ix = j
  · subst hj
    simp only [if_true] at hz
    split at hz
    · obtain rfl := Option.some.inj hz
      exact h1.env _ _ hi
    · cases hz
  · rw [if_neg hj] at hz
    exact h2.env j z hz
end
section
variable {ρ : Type} (C : Ctx)
end
section
variable {w : World}
end
section
variable {ρ : Type} {C : Ctx} {W : List Nat} {a0 : Act} {w0 w : World} {v vo : Value} {bs : List Nat} {e eo : TypeId} {env : List UV} {is : List Nat} {y : List (List Int)} {a : Act}
end
section
variable {ρ : Type} {C : Ctx} {E : En} {G : Gh} {σ : Sg} {a : Act} {w : World}
end
theorem Ctr.to {D : Prop} {P : Program} {e : CallE} (h : Ctr True P e) : Ctr D P e := fun x r hx I w vs bss hin hargs => (h x r hx I w vs bss hin hargs).mono fun ex w' hp => by
  obtain ⟨I', rvs, rbss, ibss, h1, h2, h3⟩ := hp
  exact ⟨I', rvs, rbss, ibss, h1, ⟨h2.os, h2.tape, h2.output.to, h2.size, h2.frame, h2.imm, h2.nodup, h2.range, h2.head⟩, h3⟩
theorem AllC.to {D : Prop} {P : Program} : {l : List CallE} → AllC True P l → AllC D P l
  | [], _ => trivial
  | _ :: _, h => ⟨⟨h.1.1, h.1.2.to⟩, AllC.to h.2⟩
end Go.Proofs.YtfknaeamhcpfgaaGreat.Eng
