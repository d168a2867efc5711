/-
  The engine, part 10. Strings by the library: numerals, joining, splitting. No condition.
-/
import Derived.Test.YtfmdddoidjhipaaGreatDoorEm5
import Derived.Shelf.Strings.Split
import Derived.Shelf.Strings.OnBuilder
import Derived.Shelf.Strconv.Itoa3
import Derived.Shelf.Strconv.AtoiAll
namespace Go.Proofs.YtfmdddoidjhipaaGreatDoor.Eng
open Go Go.Shelf Go.RowKit
set_option linter.unusedVariables false
set_option linter.unusedSimpArgs false
section
variable {P : Program} {ρ : Go.Shelf.Ren} {D : Prop}
theorem CallIn.out {I : Nat → Prop} {w w' : World} {bss : List (List Nat)} (h : CallIn I w bss) (os : w'.os = w.os) (tape : w'.tape = w.tape) (output : w'.output = w.output) (drawn : D → w.drawn ≤ w'.drawn)
    (size : w.heap.size ≤ w'.heap.size) (block : ∀ b, b < w.heap.size → w'.heap[b]? = w.heap[b]?) : CallOut D I w w' bss ([] ++ [[]]) I :=
  ⟨os, tape, ⟨output, drawn⟩, size, fun b hb _ => block b hb, fun b hb => ⟨Nat.lt_of_lt_of_le (h.acc b hb) size, fun _ => .inl hb⟩, by simp, fun b hb => by simp at hb, fun bs hbs b hb => by
    simp only [List.nil_append, List.mem_singleton] at hbs
    subst hbs; simp at hb⟩
theorem splitB_size (sep : ByteArray) (save : Nat) : (k : Nat) → (s y : ByteArray) → y ∈ Lib.splitB sep save k s → y.size ≤ s.size
  | 0, s, y, h => by
    simp only [Lib.splitB, List.mem_singleton] at h
    subst h; exact Nat.le_refl _
  | k + 1, s, y, h => by
    simp only [Lib.splitB] at h
    split at h
    · simp only [List.mem_singleton] at h
      subst h; exact Nat.le_refl _
    · rcases List.mem_cons.1 h with rfl | h
      · simp only [ByteArray.size_extract]; omega
      · have := splitB_size sep save k _ y h
        simp only [ByteArray.size_extract] at this
        omega
def splitF (s sep : ByteArray) : Option (List ByteArray) :=
  if s.size < 4294967281 ∧ 1 ≤ sep.size then some (Lib.splitB sep 0 (Lib.countB s sep) s) else none
theorem split_ctr (L : Lays.n146 P ρ) (hi9 : (P.info? (ρ.t 9)).map (fun i => (i.zero, i.size, i.bytes)) = some (some (.string ByteArray.empty), 1, 16)) (hg : ∀ w, Gl w → ∃ m, w.cell? ⟨(ρ.g 1), 0, none⟩ = some (.int .i64 m))
    {f : FuncId} {e : TypeId} (hf : ρ.f 146 = f) (he : ρ.t 9 = e) : Ctr D P ⟨f, [.d false .str, .d false .str], [.l (.o true e .str)], fun x => splitF x.1 x.2⟩ := by
  intro x r hx I w vs bss hin hargs
  obtain ⟨s, sep⟩ := x
  have hx : splitF s sep = some r := hx
  unfold splitF at hx
  split at hx
  · rename_i hr
    obtain rfl := Option.some.inj hx
    match vs, hargs with
    | [v, v2], ⟨bs, rest, hb1, ⟨hv, _, hb2⟩, bs2, hb3, hv2, _, hb4⟩ =>
      subst hb2
      subst hb4
      subst hb3
      subst hb1
      obtain ⟨rfl, hs2⟩ := RdV_str.1 hv2
      obtain ⟨rfl, hs1⟩ := RdV_str.1 hv
      subst hf
      subst he
      obtain ⟨m, hm⟩ := hg w hin.gl
      refine (Any.strings_Split L hi9 s sep m w hr.1 hm hr.2).mono fun ex w' hpost => ?_
      obtain ⟨rfl, rfl⟩ := hpost
      have hcl := Lib.countB_le sep hr.2 s.size s (Nat.le_refl _)
      have hlen := Lib.splitB_all sep hr.2 0 _ s rfl
      generalize hxs : Lib.splitB sep 0 (Lib.countB s sep) s = xs at *
      rw [← hlen]
      have hxl : xs.length ≤ lim := by
        rw [hlen]
        exact Nat.le_trans (show Lib.countB s sep + 1 ≤ 4294967296 by omega) (by decide)
      have hsz : ∀ y ∈ xs, y.size ≤ lim := fun y hy => by
        have := splitB_size sep 0 (Lib.countB s sep) s y (by rw [hxs]; exact hy)
        exact Nat.le_trans (Nat.le_trans this (show s.size ≤ 4294967296 by omega)) (by decide)
      refine ⟨I, [.slice (some ⟨w.heap.size, 0, none⟩) xs.length xs.length], [[w.heap.size]], [], rfl, ⟨rfl, rfl, ⟨rfl, fun _ => Nat.le_refl _⟩, by simp, fun b hb _ => (Ext.alloc w _).block b hb, fun b hb => ⟨Nat.lt_of_lt_of_le (hin.acc b hb) (by simp), fun _ => .inl hb⟩, by simp, fun b hb => ?_, fun bs hbs b hb => ?_⟩, ⟨[w.heap.size], rfl, ?_⟩, fun _ => rfl, fun o ho => by simp [resB, hasIo] at ho⟩
      · simp only [List.nil_append, List.flatten_cons, List.flatten_nil, List.append_nil, List.mem_singleton] at hb
        subst hb
        exact ⟨by simp, fun h => absurd h (Nat.lt_irrefl _)⟩
      · simp only [List.nil_append, List.mem_singleton] at hbs
        subst hbs
        simp only [List.head?_cons, Option.some.injEq] at hb
        subst hb
        exact ⟨fun h => absurd (hin.acc _ h) (Nat.lt_irrefl _), fun h => absurd h (Nat.lt_irrefl _)⟩
      · show OwnV I _ true (ρ.t 9) .str xs _ [w.heap.size]
        refine ⟨hxl, xs.map Value.string, xs.map fun _ => [], ⟨by simp [Ty.wid], .inr ⟨w.heap.size, xs.length, (xs.map Value.string).toArray, rfl, Nat.zero_le _, by show (w.heap.push _)[w.heap.size]? = _; simp, Nat.le_refl _, ?_, by simp [Ty.wid], by simp only [Ty.wid, Nat.mul_one]; exact List.take_of_length_le (by simp)⟩⟩, ?_, fun _ => by simp, fun h => by simp at h, fun i y hi => ⟨[.string y], rfl, fun j hj => ?_, ?_⟩⟩
        · unfold maxLen; have := hcl; omega
        · have : ∀ l : List ByteArray, (l.map fun _ => ([] : List Nat)).flatten = [] := fun l => by induction l <;> simp_all
          rw [this]; rfl
        · have hj : j = 0 := by simp only [Ty.wid] at hj; omega
          subst hj
          simp [Ty.wid, hi]
        · rw [if_pos rfl]
          unfold DpC
          refine ⟨rfl, hsz y (List.mem_of_getElem? hi), ?_⟩
          rw [List.getElem?_map, hi]; rfl
  · cases hx
end
end Go.Proofs.YtfmdddoidjhipaaGreatDoor.Eng
