/-
  The engine, part 1. Plain data types, and what it means that cells of memory read as plain data. No condition.
-/
import Derived.Calls
import Derived.Orders
import Derived.Below
import Derived.Laws.AppendOwn
import Derived.Laws.OwnMore
import Derived.Laws.MakeOwn
import Derived.KernelRfl
namespace Go.Proofs.Ytajlabmnpimeeaa.Eng
open Go
set_option linter.unusedVariables false

/-- Types of plain data. -/
inductive Ty where
  | int (k : IntKind)
  | bool
  | str
  | list (t : Ty)
  | prod (a b : Ty)
  deriving DecidableEq

@[reducible] def Ty.den : Ty → Type
  | .int _ => Int
  | .bool => Bool
  | .str => ByteArray
  | .list t => List t.den
  | .prod a b => a.den × b.den

/-- How many cells. -/
def Ty.wid : Ty → Nat
  | .prod a b => a.wid + b.wid
  | _ => 1

def Ty.isProd : Ty → Bool
  | .prod _ _ => true
  | _ => false

/-- Holds no list. -/
def Ty.flat : Ty → Bool
  | .list _ => false
  | .prod a b => a.flat && b.flat
  | _ => true

theorem Ty.wid_pos : (t : Ty) → 0 < t.wid
  | .int _ | .bool | .str | .list _ => Nat.zero_lt_one
  | .prod a b => Nat.lt_of_lt_of_le a.wid_pos (Nat.le_add_right _ _)

/-- The bound on lengths. -/
def lim : Nat := 140737488355328

/-- The cells 'cs' read as 'x'; all memory that the reading goes through lies in blocks of 'S'. -/
def RdC (S : Nat → Prop) (w : World) : (t : Ty) → t.den → List Value → Prop
  | .int k, x, cs => cs = [.int k x]
  | .bool, x, cs => cs = [.bool x]
  | .str, x, cs => cs = [.string x] ∧ x.size ≤ lim
  | .list t, x, cs => ∃ a n c, cs = [.slice a n c] ∧ n = x.length ∧ n ≤ c ∧ c ≤ maxLen ∧ n ≤ lim ∧
      (x ≠ [] → ∃ b o, a = some ⟨b, o, none⟩ ∧ S b ∧ ∀ i y, x[i]? = some y →
        ∃ ys, ys.length = t.wid ∧ (∀ j, j < t.wid → w.cell? ⟨b, o + i * t.wid + j, none⟩ = ys[j]?) ∧ RdC S w t y ys)
  | .prod a b, x, cs => ∃ c1 c2, cs = c1 ++ c2 ∧ RdC S w a x.1 c1 ∧ RdC S w b x.2 c2

theorem RdC.length {S : Nat → Prop} {w : World} : (t : Ty) → {x : t.den} → {cs : List Value} → RdC S w t x cs → cs.length = t.wid
  | .int _, _, _, h => by simp only [RdC] at h; subst h; rfl
  | .bool, _, _, h => by simp only [RdC] at h; subst h; rfl
  | .str, _, _, h => by simp only [RdC] at h; obtain ⟨h, _⟩ := h; subst h; rfl
  | .list _, _, _, h => by simp only [RdC] at h; obtain ⟨_, _, _, h, _⟩ := h; subst h; rfl
  | .prod a b, _, _, h => by
    simp only [RdC] at h
    obtain ⟨c1, c2, rfl, h1, h2⟩ := h
    rw [List.length_append, RdC.length a h1, RdC.length b h2]; rfl

theorem RdC.mono {S S' : Nat → Prop} {w w' : World} (hS : ∀ b, S b → S' b) (hw : ∀ b, S b → w'.heap[b]? = w.heap[b]?) :
    (t : Ty) → {x : t.den} → {cs : List Value} → RdC S w t x cs → RdC S' w' t x cs
  | .int _, _, _, h => by simpa only [RdC] using h
  | .bool, _, _, h => by simpa only [RdC] using h
  | .str, _, _, h => by simpa only [RdC] using h
  | .list t, _, _, h => by
    simp only [RdC] at h ⊢
    obtain ⟨a, n, c, h1, h2, h3, h4, h5, h6⟩ := h
    refine ⟨a, n, c, h1, h2, h3, h4, h5, fun hx => ?_⟩
    obtain ⟨b, o, ha, hb, hel⟩ := h6 hx
    refine ⟨b, o, ha, hS b hb, fun i y hi => ?_⟩
    obtain ⟨ys, hl, hc, hr⟩ := hel i y hi
    refine ⟨ys, hl, fun j hj => ?_, RdC.mono hS hw t hr⟩
    rw [← hc j hj]
    exact World.cell?_of_block (hw b hb)
  | .prod a b, _, _, h => by
    simp only [RdC] at h ⊢
    obtain ⟨c1, c2, rfl, h1, h2⟩ := h
    exact ⟨c1, c2, rfl, RdC.mono hS hw a h1, RdC.mono hS hw b h2⟩

/-- A value made of cells. -/
def mkV (t : Ty) (cs : List Value) : Value := if t.isProd then .agg cs.toArray else cs.headD undef

/-- The value 'v' reads as 'x'. -/
def RdV (S : Nat → Prop) (w : World) (t : Ty) (x : t.den) (v : Value) : Prop := ∃ cs, RdC S w t x cs ∧ v = mkV t cs

theorem RdV.mono {S S' : Nat → Prop} {w w' : World} (hS : ∀ b, S b → S' b) (hw : ∀ b, S b → w'.heap[b]? = w.heap[b]?)
    {t : Ty} {x : t.den} {v : Value} (h : RdV S w t x v) : RdV S' w' t x v :=
  let ⟨cs, h1, h2⟩ := h
  ⟨cs, h1.mono hS hw t, h2⟩

theorem RdV.cells {S : Nat → Prop} {w : World} {t : Ty} {x : t.den} {v : Value} (h : RdV S w t x v) : RdC S w t x v.cells.toList := by
  obtain ⟨cs, h1, rfl⟩ := h
  cases t with
  | prod a b => simpa [mkV, Ty.isProd, Value.cells] using h1
  | int k => simp only [RdC] at h1; subst h1; simp [mkV, Ty.isProd, Value.cells, RdC]
  | bool => simp only [RdC] at h1; subst h1; simp [mkV, Ty.isProd, Value.cells, RdC]
  | str => simp only [RdC] at h1; obtain ⟨h1, h2⟩ := h1; subst h1; simp [mkV, Ty.isProd, Value.cells, RdC, h2]
  | list t =>
    have h0 := h1
    simp only [RdC] at h1
    obtain ⟨a, n, c, h1, _⟩ := h1
    subst h1
    simpa [mkV, Ty.isProd, Value.cells] using h0

/-- Plain readings of one cell. -/
theorem RdV_int {S : Nat → Prop} {w : World} {k : IntKind} {x : Int} {v : Value} : RdV S w (.int k) x v ↔ v = .int k x := by
  constructor
  · rintro ⟨cs, h, rfl⟩; simp only [RdC] at h; subst h; rfl
  · rintro rfl; exact ⟨_, rfl, rfl⟩
theorem RdV_bool {S : Nat → Prop} {w : World} {x : Bool} {v : Value} : RdV S w .bool x v ↔ v = .bool x := by
  constructor
  · rintro ⟨cs, h, rfl⟩; simp only [RdC] at h; subst h; rfl
  · rintro rfl; exact ⟨_, rfl, rfl⟩
theorem RdV_str {S : Nat → Prop} {w : World} {x : ByteArray} {v : Value} : RdV S w .str x v ↔ v = .string x ∧ x.size ≤ lim := by
  constructor
  · rintro ⟨cs, h, rfl⟩; simp only [RdC] at h; obtain ⟨h, h2⟩ := h; subst h; exact ⟨rfl, h2⟩
  · rintro ⟨rfl, h⟩; exact ⟨_, ⟨rfl, h⟩, rfl⟩

/-- As RdC, and each list that is not empty has a block of its own, not frozen, from 'B' on; 'bs': these blocks. -/
def DpC (B : Nat) (w : World) : (t : Ty) → t.den → List Value → List Nat → Prop
  | .int k, x, cs, bs => cs = [.int k x] ∧ bs = []
  | .bool, x, cs, bs => cs = [.bool x] ∧ bs = []
  | .str, x, cs, bs => cs = [.string x] ∧ x.size ≤ lim ∧ bs = []
  | .list t, x, cs, bs => ∃ a n c, cs = [.slice a n c] ∧ n = x.length ∧ n ≤ c ∧ c ≤ maxLen ∧ n ≤ lim ∧
      ((x = [] ∧ bs = [] ∧ a = none ∧ c = 0) ∨ ∃ (b o : Nat) (arr : Array Value) (e : TypeId) (bss : List (List Nat)), a = some ⟨b, o, none⟩ ∧ bs = b :: bss.flatten ∧ bss.length = x.length ∧
        B ≤ b ∧ (w.heap[b]? = some (.cells arr e (0, 0)) ∧ o = 0 ∧ arr.size = c * t.wid) ∧ ∀ i y, x[i]? = some y →
        ∃ ys, ys.length = t.wid ∧ (∀ j, j < t.wid → arr[o + i * t.wid + j]? = ys[j]?) ∧ DpC B w t y ys (bss[i]?.getD []))
  | .prod a b, x, cs, bs => ∃ c1 c2 b1 b2, cs = c1 ++ c2 ∧ bs = b1 ++ b2 ∧ DpC B w a x.1 c1 b1 ∧ DpC B w b x.2 c2 b2

theorem DpC.rd {B : Nat} {S : Nat → Prop} {w : World} : (t : Ty) → {x : t.den} → {cs : List Value} → {bs : List Nat} → DpC B w t x cs bs → (∀ b ∈ bs, S b) → RdC S w t x cs
  | .int _, _, _, _, h, _ => by simp only [DpC] at h; simpa only [RdC] using h.1
  | .bool, _, _, _, h, _ => by simp only [DpC] at h; simpa only [RdC] using h.1
  | .str, _, _, _, h, _ => by simp only [DpC] at h; simp only [RdC]; exact ⟨h.1, h.2.1⟩
  | .list t, x, _, _, h, hS => by
    simp only [DpC] at h
    simp only [RdC]
    obtain ⟨a, n, c, h1, h2, h3, h4, h5, h6⟩ := h
    refine ⟨a, n, c, h1, h2, h3, h4, h5, fun hx => ?_⟩
    rcases h6 with ⟨he, _⟩ | ⟨b, o, arr, e, bss, ha, hbs, hbl, hB, ⟨hh, _⟩, hel⟩
    · exact absurd he hx
    · subst hbs
      refine ⟨b, o, ha, hS b (by simp), fun i y hi => ?_⟩
      obtain ⟨ys, hl, hc, hr⟩ := hel i y hi
      refine ⟨ys, hl, fun j hj => ?_, DpC.rd t hr fun b' hb' => hS b' ?_⟩
      · rw [cell_of_row w b _ arr e (0, 0) hh, hc j hj]
      · cases hg : bss[i]? with
        | none => simp [hg] at hb'
        | some l =>
          simp only [hg, Option.getD_some] at hb'
          exact List.mem_cons_of_mem _ (List.mem_flatten.2 ⟨l, List.mem_of_getElem? hg, hb'⟩)
  | .prod a b, _, _, _, h, hS => by
    simp only [DpC] at h
    simp only [RdC]
    obtain ⟨c1, c2, b1, b2, rfl, rfl, h1, h2⟩ := h
    exact ⟨c1, c2, rfl, DpC.rd a h1 fun b' hb' => hS b' (List.mem_append_left _ hb'), DpC.rd b h2 fun b' hb' => hS b' (List.mem_append_right _ hb')⟩

theorem DpC.range {B : Nat} {w : World} : (t : Ty) → {x : t.den} → {cs : List Value} → {bs : List Nat} → DpC B w t x cs bs → ∀ b ∈ bs, B ≤ b ∧ b < w.heap.size
  | .int _, _, _, _, h, _, hb => by unfold DpC at h; simp [h.2] at hb
  | .bool, _, _, _, h, _, hb => by unfold DpC at h; simp [h.2] at hb
  | .str, _, _, _, h, _, hb => by unfold DpC at h; simp [h.2.2] at hb
  | .list t, x, _, _, h, b', hb' => by
    simp only [DpC] at h
    obtain ⟨a, n, c, h1, h2, h3, h4, h5, h6⟩ := h
    rcases h6 with ⟨_, he, _⟩ | ⟨b, o, arr, e, bss, ha, hbs, hbl, hB, ⟨hh, _⟩, hel⟩
    · simp [he] at hb'
    · subst hbs
      rcases List.mem_cons.1 hb' with rfl | hb'
      · exact ⟨hB, (Array.getElem?_eq_some_iff.1 hh).1⟩
      · obtain ⟨l, hl, hm⟩ := List.mem_flatten.1 hb'
        obtain ⟨i, hi, rfl⟩ := List.getElem_of_mem hl
        have hx : x[i]? = some (x[i]'(by omega)) := List.getElem?_eq_getElem (by omega)
        obtain ⟨ys, _, _, hr⟩ := hel i _ hx
        have hg : bss[i]? = some bss[i] := List.getElem?_eq_getElem hi
        simp only [hg, Option.getD_some] at hr
        exact DpC.range t hr b' hm
  | .prod a b, _, _, _, h, b', hb' => by
    simp only [DpC] at h
    obtain ⟨c1, c2, b1, b2, rfl, rfl, h1, h2⟩ := h
    rcases List.mem_append.1 hb' with hb' | hb'
    · exact DpC.range a h1 b' hb'
    · exact DpC.range b h2 b' hb'

theorem DpC.mono {B B' : Nat} {w w' : World} (hB : B' ≤ B) : (t : Ty) → {x : t.den} → {cs : List Value} → {bs : List Nat} → DpC B w t x cs bs →
    (∀ b ∈ bs, w'.heap[b]? = w.heap[b]?) → DpC B' w' t x cs bs
  | .int _, _, _, _, h, _ => by simpa only [DpC] using h
  | .bool, _, _, _, h, _ => by simpa only [DpC] using h
  | .str, _, _, _, h, _ => by simpa only [DpC] using h
  | .list t, x, _, _, h, hw => by
    simp only [DpC] at h ⊢
    obtain ⟨a, n, c, h1, h2, h3, h4, h5, h6⟩ := h
    refine ⟨a, n, c, h1, h2, h3, h4, h5, ?_⟩
    rcases h6 with he | ⟨b, o, arr, e, bss, ha, hbs, hbl, hB', ⟨hh, hz⟩, hel⟩
    · exact .inl he
    · subst hbs
      refine .inr ⟨b, o, arr, e, bss, ha, rfl, hbl, by omega, ⟨by rw [hw b (by simp)]; exact hh, hz⟩, fun i y hi => ?_⟩
      obtain ⟨ys, hl, hc, hr⟩ := hel i y hi
      refine ⟨ys, hl, hc, DpC.mono hB t hr fun b' hb' => hw b' ?_⟩
      cases hg : bss[i]? with
      | none => simp [hg] at hb'
      | some l =>
        simp only [hg, Option.getD_some] at hb'
        exact List.mem_cons_of_mem _ (List.mem_flatten.2 ⟨l, List.mem_of_getElem? hg, hb'⟩)
  | .prod a b, _, _, _, h, hw => by
    simp only [DpC] at h ⊢
    obtain ⟨c1, c2, b1, b2, rfl, rfl, h1, h2⟩ := h
    exact ⟨c1, c2, b1, b2, rfl, rfl, DpC.mono hB a h1 fun b' hb' => hw b' (List.mem_append_left _ hb'), DpC.mono hB b h2 fun b' hb' => hw b' (List.mem_append_right _ hb')⟩

theorem DpC.length {B : Nat} {w : World} {t : Ty} {x : t.den} {cs : List Value} {bs : List Nat} (h : DpC B w t x cs bs) : cs.length = t.wid :=
  (h.rd (S := fun _ => True) t fun _ _ => trivial).length t

end Go.Proofs.Ytajlabmnpimeeaa.Eng
