/-
  The law FnExamples returns true for every input. No condition.
-/
import Derived.Test.YtfmdddoidjhipaaGreatDoorRows
import Derived.Test.YtfmdddoidjhipaaGreatDoorCards
import Derived.Test.YtfmdddoidjhipaaGreatDoorTie
import Derived.Test.YtfmdddoidjhipaaGreatDoorPlEx
import Derived.Test.YtfmdddoidjhipaaGreatDoorEmL
import Derived.SevenTiedAt
namespace Go.Proofs.YtfmdddoidjhipaaGreatDoor.fnExamples
open Go Go.ChangeShapes Go.WideShapes Go.ChangeAt Go.RowKit Eng
set_option linter.unusedVariables false

theorem own : ownKnob Tryz.prog.godebug = none := by kernel_rfl

theorem gl_of (W : World) (hsh : W.ShapedOpen Tryz.prog) (hL : laidMet Tryz.prog Rows.fnExamplesRow.laid W) : Gl W := by
  have h0 := tab_of_laid (n := "internal/strconv.uint64pow10") (k := .u64) (zs := Lib.pow10Tab) (g := 0) hL (List.mem_of_getElem? (i := 2) (by kernel_rfl)) (by kernel_rfl) (t := 132) (by kernel_rfl) Tryz.underlying132 Tryz.underlying121 (by kernel_rfl) (by kernel_rfl)
  have h1 := int_of_cell (by have := laySplit.s1_3 W hsh; exact this)
  have h2 := iface_of_laid (n := "strconv.ErrSyntax") (nm := "*errors.errorString") (d := (.ptr (.agg [.lit (.string [105, 110, 118, 97, 108, 105, 100, 32, 115, 121, 110, 116, 97, 120])]))) (g := 2) (t := 112) hL (List.mem_of_getElem? (i := 5) (by kernel_rfl)) (by kernel_rfl) (by kernel_rfl) Tryz.underlying112
  have h3 := iface_of_laid (n := "strconv.ErrRange") (nm := "*errors.errorString") (d := (.ptr (.agg [.lit (.string [118, 97, 108, 117, 101, 32, 111, 117, 116, 32, 111, 102, 32, 114, 97, 110, 103, 101])]))) (g := 3) (t := 112) hL (List.mem_of_getElem? (i := 4) (by kernel_rfl)) (by kernel_rfl) (by kernel_rfl) Tryz.underlying112
  have hs : 3 < W.heap.size := by
    obtain ⟨o, ho, _⟩ := h3
    exact (Array.getElem?_eq_some_iff.1 ho).1
  refine ⟨hs, fun p hp => ?_⟩
  simp only [glT, List.mem_cons, List.not_mem_nil, or_false] at hp
  rcases hp with rfl | rfl | rfl | rfl
  · exact h0
  · exact h1
  · exact h2
  · exact h3

set_option maxRecDepth 100000 in
theorem lifted (os : Os) (started : os.Started) (H : Type) (enc : TypeId × Value → H) :
    ReturnsInHanded {} Tryz.checked os 6 .any (fun w args => (Rows.fnExamplesSpec.pre enc Tryz.prog Tryz.f6 Rows.fnExamplesRow.domain false w args ∧ laidMetH Tryz.prog Rows.fnExamplesRow.laid w) ∧ sizedMet enc Tryz.prog Tryz.f6 (OpenSpec.ofChange Rows.fnExamplesSpec) false w args) (Rows.fnExamplesSpec.post enc Tryz.prog Tryz.f6 false true false false) := by
  refine law_lifted_laid (C := Tryz.checked) (L := Rows.fnExamplesRow.laid) (tb := 4) [(.list (.int .u8))] own started (by kernel_rfl) Tryz.func6
    (ChangeSpec.witness_shaped (enc := enc) (C := Tryz.checked) (os := os) (X := fun w _ => laidMetH Tryz.prog Rows.fnExamplesRow.laid w) false (World.laidAll Tryz.prog os Rows.fnExamplesRow.laid) #[.slice none 0 0] 12 (World.laidAll_os _ _ _)
      (World.shaped_of_ZipB (by kernel_rfl) (by kernel_rfl)) (by kernel_rfl) (by kernel_rfl) (by kernel_rfl)
      (by rw [MakeChecks.laidMetH_plain _ _ _ (by kernel_rfl)]; exact laidMet_laidAll _ (by kernel_rfl) (by kernel_rfl))) rfl (by kernel_rfl) Tryz.underlying4 rfl
    (fun ds h => ?_) (o_w_FnExamples : FnOk _ _ ∧ Ctr False _ _).2 (fun x hx => ⟨true, ?_, rfl⟩) (by kernel_rfl) gl_of
  · match ds, h with
    | [d0], _ => exact ⟨rfl, rfl, rfl⟩
  · exact law_Examples x hx

theorem over : Rows.fnExamplesRow.holds Tryz.pinned (OpenSpec.ofChange Rows.fnExamplesSpec) :=
  OpenClaim.holds_of_wide 6 Tryz.f6 rfl rfl rfl rfl rfl rfl rfl ⟨rfl, rfl, rfl, rfl, rfl⟩ rfl rfl rfl rfl rfl (by kernel_rfl) Tryz.func6 (by kernel_rfl)
    (of_decide_eq_true (by kernel_rfl)) (by unfold Func.isWrapper; first | (rw [if_pos (by decide +kernel)]; kernel_rfl) | (rw [if_neg (by decide +kernel)]; exact ⟨rfl, rfl⟩))
    (fun os started H enc _ => lifted os started H enc)

/-- The statement. -/
theorem proved : Rows.FnExamplesCardSaid :=
  Claim7.holds_tied_plain_at .later [] [.data, .data, .data, .data, .sentinel, .sentinel, .pinned] true (true, "0b1d3d0b5593e98bcdbad03e7af827457a40025a93321e5e1ccd0dcd328e274e") true over (fun _ h => by cases h) (by kernel_rfl) (fun _ h => by cases h) fnExamples_row_tie rfl ⟨rfl, rfl⟩ (by kernel_rfl) rfl
    (fun f fn hf hfn => by
      obtain rfl : f = 6 := Option.some.inj ((show Tryz.prog.funcNamed "loop.example/g00959/laws.FnExamples" = some 6 by kernel_rfl).symm.trans hf) |>.symm
      obtain rfl : fn = Tryz.f6 := (Option.some.inj (Tryz.func6.symm.trans hfn)).symm
      exact ⟨by kernel_rfl, fun j t ht => by
        have hp : Tryz.f6.params = #[36] := by kernel_rfl
        rw [hp] at ht
        have hm : t ∈ [36] := by simpa using Array.mem_of_getElem? ht
        have hall : ([36].all fun u => !Tryz.prog.wantsStandIn u) = true := by kernel_rfl
        exact (show Tryz.prog.wantsStandIn t = false by simpa using List.all_eq_true.1 hall t hm)⟩)
    (by kernel_rfl)

end Go.Proofs.YtfmdddoidjhipaaGreatDoor.fnExamples
