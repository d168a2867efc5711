/- Plain functions. -/
import Derived.Test.YtfknaeamhcpfgaaGreatProg
import Derived.Test.YtfknaeamhcpfgaaGreatLay
import Derived.Test.YtfknaeamhcpfgaaGreatEm8
import Derived.Test.YtfknaeamhcpfgaaGreatEmN
import Derived.Test.YtfknaeamhcpfgaaGreatEmV
import Derived.KernelRfl
namespace Go.Proofs.YtfknaeamhcpfgaaGreat
open Go Go.Proofs.YtfknaeamhcpfgaaGreat.Eng
set_option linter.unusedVariables false
set_option maxRecDepth 100000
noncomputable def TT : List (TypeId × Ty) := [(3, (.int .i64)), (5, (.int .u8)), (36, (.list (.int .i64))), (64, (.prod (.list (.int .i64)) (.int .i64))), (78, (.prod (.list (.int .i64)) (.int .i64))), (108, (.prod (.list (.int .i64)) (.int .i64)))]
theorem m_ : Tryz.prog.follows .mixedOrders = true := by kernel_rfl
/-! loop.example/g00959/spec.l1Max -/
noncomputable def s_l1Max (x0 : Int) (x1 : Int) : Option (Int) :=
 cond (decide (x0 > x1))
 (some x0)
 (some x1)
noncomputable def e_s_l1Max : CallE := ⟨91, [.d false (.int .i64), .d false (.int .i64)], [.l (.d false (.int .i64))], fun x => s_l1Max x.1 x.2⟩
noncomputable def c_s_l1Max : Ctx := ⟨Tryz.prog, TT, [], [], [], [], [], []⟩
theorem k_s_l1Max (x : PMs.den e_s_l1Max.ps) : funK c_s_l1Max Tryz.f91 e_s_l1Max.ps e_s_l1Max.rs x = e_s_l1Max.F x := by kernel_rfl
theorem o_s_l1Max {D : Prop} : FnOk Tryz.prog e_s_l1Max.f ∧ Ctr D Tryz.prog e_s_l1Max := mkCtr (C := c_s_l1Max) m_ (trivial) Tryz.func91 (by kernel_rfl) k_s_l1Max
/-! loop.example/g00959/spec.l1Abs -/
noncomputable def s_l1Abs (x0 : Int) : Option (Int) :=
(s_l1Max x0 (IntKind.i64.wrap (0 - x0))).bind fun v1 => some v1
noncomputable def e_s_l1Abs : CallE := ⟨138, [.d false (.int .i64)], [.l (.d false (.int .i64))], fun x => s_l1Abs x⟩
noncomputable def c_s_l1Abs : Ctx := ⟨Tryz.prog, TT, [e_s_l1Max], [], [], [], [], []⟩
theorem k_s_l1Abs (x : PMs.den e_s_l1Abs.ps) : funK c_s_l1Abs Tryz.f138 e_s_l1Abs.ps e_s_l1Abs.rs x = e_s_l1Abs.F x := by kernel_rfl
theorem o_s_l1Abs {D : Prop} : FnOk Tryz.prog e_s_l1Abs.f ∧ Ctr D Tryz.prog e_s_l1Abs := mkCtr (C := c_s_l1Abs) m_ (⟨o_s_l1Max, trivial⟩) Tryz.func138 (by kernel_rfl) k_s_l1Abs
/-! loop.example/g00959/spec.l2Gcd -/
noncomputable def s_l2Gcd_s3 (v3 : Int × Int) : Option ((Int × Int) ⊕ (Int)) :=
 cond (v3.2 != (0 : Int))
 ((remI .i64 v3.1 v3.2).bind fun v4 => some (.inl (v3.2, v4)))
 (some (.inr v3.1))
noncomputable def s_l2Gcd (x0 : Int) (x1 : Int) : Option (Int) :=
(s_l1Abs x0).bind fun v1 => (s_l1Abs x1).bind fun v2 => (iter (s_l2Gcd_s3) (v1, v2)).bind fun v5 => some v5
noncomputable def e_s_l2Gcd : CallE := ⟨116, [.d false (.int .i64), .d false (.int .i64)], [.l (.d false (.int .i64))], fun x => s_l2Gcd x.1 x.2⟩
noncomputable def c_s_l2Gcd : Ctx := ⟨Tryz.prog, TT, [e_s_l1Abs], [⟨3, [(0, .l (.d false (.int .i64))), (1, .l (.d false (.int .i64)))], some (0, [(0, .l (.d false (.int .i64)))]), none, false, none⟩], [], [], [], []⟩
theorem k_s_l2Gcd (x : PMs.den e_s_l2Gcd.ps) : funK c_s_l2Gcd Tryz.f116 e_s_l2Gcd.ps e_s_l2Gcd.rs x = e_s_l2Gcd.F x := by kernel_rfl
theorem o_s_l2Gcd {D : Prop} : FnOk Tryz.prog e_s_l2Gcd.f ∧ Ctr D Tryz.prog e_s_l2Gcd := mkCtr (C := c_s_l2Gcd) m_ (⟨o_s_l1Abs, trivial⟩) Tryz.func116 (by kernel_rfl) k_s_l2Gcd
/-! loop.example/g00959/spec.l2All -/
noncomputable def s_l2All_s3 (x0 : List Int) (v1 : Int × Int) : Option ((Int × Int) ⊕ (Int)) :=
 cond (decide (v1.2 < (x0.length : Int)))
 ((idx x0 v1.2).bind fun v2 => (s_l2Gcd v1.1 v2).bind fun v3 => some (.inl (v3, (IntKind.i64.wrap (v1.2 + (1 : Int))))))
 (some (.inr v1.1))
noncomputable def s_l2All (x0 : List Int) : Option (Int) :=
(iter (s_l2All_s3 x0) ((0 : Int), (0 : Int))).bind fun v4 => some v4
noncomputable def e_s_l2All : CallE := ⟨90, [.d false (.list (.int .i64))], [.l (.d false (.int .i64))], fun x => s_l2All x⟩
noncomputable def c_s_l2All : Ctx := ⟨Tryz.prog, TT, [e_s_l2Gcd], [⟨3, [(3, .l (.d false (.int .i64))), (4, .l (.d false (.int .i64)))], some (0, [(3, .l (.d false (.int .i64)))]), none, false, none⟩], [], [], [], []⟩
theorem k_s_l2All (x : PMs.den e_s_l2All.ps) : funK c_s_l2All Tryz.f90 e_s_l2All.ps e_s_l2All.rs x = e_s_l2All.F x := by kernel_rfl
theorem o_s_l2All {D : Prop} : FnOk Tryz.prog e_s_l2All.f ∧ Ctr D Tryz.prog e_s_l2All := mkCtr (C := c_s_l2All) m_ (⟨o_s_l2Gcd, trivial⟩) Tryz.func90 (by kernel_rfl) k_s_l2All
/-! loop.example/g00959/impl.within -/
noncomputable def i_within (x0 : Int) (x1 : Int) (x2 : Int) : Option (Bool) :=
 cond (decide (x0 ≥ x1))
 (some (decide (x0 ≤ x2)))
 (some false)
noncomputable def e_i_within : CallE := ⟨70, [.d false (.int .i64), .d false (.int .i64), .d false (.int .i64)], [.l (.d false .bool)], fun x => i_within x.1 x.2.1 x.2.2⟩
noncomputable def c_i_within : Ctx := ⟨Tryz.prog, TT, [], [], [], [], [], []⟩
theorem k_i_within (x : PMs.den e_i_within.ps) : funK c_i_within Tryz.f70 e_i_within.ps e_i_within.rs x = e_i_within.F x := by kernel_rfl
theorem o_i_within {D : Prop} : FnOk Tryz.prog e_i_within.f ∧ Ctr D Tryz.prog e_i_within := mkCtr (C := c_i_within) m_ (trivial) Tryz.func70 (by kernel_rfl) k_i_within
/-! loop.example/g00959/impl.allWithin -/
noncomputable def i_allWithin_s2 (x0 : List Int) (x1 : Int) (x2 : Int) (v1 : Int) : Option ((Int) ⊕ ((Unit) ⊕ (Bool))) :=
 cond (decide (v1 < (x0.length : Int)))
 ((idx x0 v1).bind fun v2 => (i_within v2 x1 x2).bind fun v3 => cond (!v3)
 (some (.inr (.inr false)))
 (some (.inl (IntKind.i64.wrap (v1 + (1 : Int))))))
 (some (.inr (.inl ())))
noncomputable def i_allWithin (x0 : List Int) (x1 : Int) (x2 : Int) : Option (Bool) :=
(iter (i_allWithin_s2 x0 x1 x2) (0 : Int)).bind fun v4 => match v4 with
 | .inl v5 => (some true)
 | .inr v6 => (some v6)
noncomputable def e_i_allWithin : CallE := ⟨61, [.d false (.list (.int .i64)), .d false (.int .i64), .d false (.int .i64)], [.l (.d false .bool)], fun x => i_allWithin x.1 x.2.1 x.2.2⟩
noncomputable def c_i_allWithin : Ctx := ⟨Tryz.prog, TT, [e_i_within], [⟨2, [(11, .l (.d false (.int .i64)))], some (0, []), some [(6, .l (.d false .bool))], false, none⟩], [], [], [], []⟩
theorem k_i_allWithin (x : PMs.den e_i_allWithin.ps) : funK c_i_allWithin Tryz.f61 e_i_allWithin.ps e_i_allWithin.rs x = e_i_allWithin.F x := by kernel_rfl
theorem o_i_allWithin {D : Prop} : FnOk Tryz.prog e_i_allWithin.f ∧ Ctr D Tryz.prog e_i_allWithin := mkCtr (C := c_i_allWithin) m_ (⟨o_i_within, trivial⟩) Tryz.func61 (by kernel_rfl) k_i_allWithin
/-! loop.example/g00959/impl.magnitude -/
noncomputable def i_magnitude (x0 : Int) : Option (Int) :=
 some (if (IntKind.i64.wrap (0 - x0)) > x0 then (IntKind.i64.wrap (0 - x0)) else x0)
noncomputable def e_i_magnitude : CallE := ⟨137, [.d false (.int .i64)], [.l (.d false (.int .i64))], fun x => i_magnitude x⟩
noncomputable def c_i_magnitude : Ctx := ⟨Tryz.prog, TT, [], [], [], [], [], []⟩
theorem k_i_magnitude (x : PMs.den e_i_magnitude.ps) : funK c_i_magnitude Tryz.f137 e_i_magnitude.ps e_i_magnitude.rs x = e_i_magnitude.F x := by kernel_rfl
theorem o_i_magnitude {D : Prop} : FnOk Tryz.prog e_i_magnitude.f ∧ Ctr D Tryz.prog e_i_magnitude := mkCtr (C := c_i_magnitude) m_ (trivial) Tryz.func137 (by kernel_rfl) k_i_magnitude
/-! loop.example/g00959/impl.divisor -/
noncomputable def i_divisor_s1 (v1 : Int × Int) : Option ((Int × Int) ⊕ (Int)) :=
 cond (v1.2 != (0 : Int))
 ((remI .i64 v1.1 v1.2).bind fun v2 => some (.inl (v1.2, v2)))
 (some (.inr v1.1))
noncomputable def i_divisor (x0 : Int) (x1 : Int) : Option (Int) :=
(iter (i_divisor_s1) (x0, x1)).bind fun v3 => (i_magnitude v3).bind fun v4 => some v4
noncomputable def e_i_divisor : CallE := ⟨115, [.d false (.int .i64), .d false (.int .i64)], [.l (.d false (.int .i64))], fun x => i_divisor x.1 x.2⟩
noncomputable def c_i_divisor : Ctx := ⟨Tryz.prog, TT, [e_i_magnitude], [⟨1, [(0, .l (.d false (.int .i64))), (1, .l (.d false (.int .i64)))], some (0, [(0, .l (.d false (.int .i64)))]), none, false, none⟩], [⟨2, [], [], [], 0⟩], [], [], []⟩
theorem k_i_divisor (x : PMs.den e_i_divisor.ps) : funK c_i_divisor Tryz.f115 e_i_divisor.ps e_i_divisor.rs x = e_i_divisor.F x := by kernel_rfl
theorem o_i_divisor {D : Prop} : FnOk Tryz.prog e_i_divisor.f ∧ Ctr D Tryz.prog e_i_divisor := mkCtr (C := c_i_divisor) m_ (⟨o_i_magnitude, trivial⟩) Tryz.func115 (by kernel_rfl) k_i_divisor
/-! loop.example/g00959/impl.gcdAll -/
noncomputable def i_gcdAll_s3 (x0 : List Int) (v1 : Int × Int) : Option ((Int × Int) ⊕ (Int)) :=
 cond (decide (v1.2 < (x0.length : Int)))
 ((idx x0 v1.2).bind fun v2 => (i_divisor v1.1 v2).bind fun v3 => some (.inl (v3, (IntKind.i64.wrap (v1.2 + (1 : Int))))))
 (some (.inr v1.1))
noncomputable def i_gcdAll (x0 : List Int) : Option (Int) :=
(iter (i_gcdAll_s3 x0) ((0 : Int), (0 : Int))).bind fun v4 => some v4
noncomputable def e_i_gcdAll : CallE := ⟨88, [.d false (.list (.int .i64))], [.l (.d false (.int .i64))], fun x => i_gcdAll x⟩
noncomputable def c_i_gcdAll : Ctx := ⟨Tryz.prog, TT, [e_i_divisor], [⟨3, [(3, .l (.d false (.int .i64))), (8, .l (.d false (.int .i64)))], some (0, [(3, .l (.d false (.int .i64)))]), none, false, none⟩], [], [], [], []⟩
theorem k_i_gcdAll (x : PMs.den e_i_gcdAll.ps) : funK c_i_gcdAll Tryz.f88 e_i_gcdAll.ps e_i_gcdAll.rs x = e_i_gcdAll.F x := by kernel_rfl
theorem o_i_gcdAll {D : Prop} : FnOk Tryz.prog e_i_gcdAll.f ∧ Ctr D Tryz.prog e_i_gcdAll := mkCtr (C := c_i_gcdAll) m_ (⟨o_i_divisor, trivial⟩) Tryz.func88 (by kernel_rfl) k_i_gcdAll
/-! loop.example/g00959/impl.IsHalf -/
noncomputable def i_IsHalf (x0 : Int) (x1 : (List Int) × Int) : Option (Bool) :=
(i_within x0 (1 : Int) (3 : Int)).bind fun v1 => cond v1
 (cond ((x1.1.length : Int) == x0)
 ((i_allWithin x1.1 (-20 : Int) (20 : Int)).bind fun v2 => cond v2
 ((i_gcdAll x1.1).bind fun v3 => cond (decide (v3 > (0 : Int)))
 ((i_within x1.2 (-200 : Int) (200 : Int)).bind fun v4 => some v4)
 (some false))
 (some false))
 (some false))
 (some false)
noncomputable def e_i_IsHalf : CallE := ⟨44, [.d false (.int .i64), .d false (.prod (.list (.int .i64)) (.int .i64))], [.l (.d false .bool)], fun x => i_IsHalf x.1 x.2⟩
noncomputable def c_i_IsHalf : Ctx := ⟨Tryz.prog, TT, [e_i_within, e_i_allWithin, e_i_gcdAll], [], [], [], [], []⟩
theorem k_i_IsHalf (x : PMs.den e_i_IsHalf.ps) : funK c_i_IsHalf Tryz.f44 e_i_IsHalf.ps e_i_IsHalf.rs x = e_i_IsHalf.F x := by kernel_rfl
theorem o_i_IsHalf {D : Prop} : FnOk Tryz.prog e_i_IsHalf.f ∧ Ctr D Tryz.prog e_i_IsHalf := mkCtr (C := c_i_IsHalf) m_ (⟨o_i_within, o_i_allWithin, o_i_gcdAll, trivial⟩) Tryz.func44 (by kernel_rfl) k_i_IsHalf
/-! loop.example/g00959/impl.IsRegion -/
noncomputable def i_IsRegion_s4 (x0 : Int × (List ((List Int) × Int))) (v2 : Int) : Option ((Int) ⊕ ((Unit) ⊕ (Bool))) :=
 cond (decide (v2 < (x0.2.length : Int)))
 ((idx x0.2 v2).bind fun v3 => (i_IsHalf x0.1 (v3.1, v3.2)).bind fun v4 => cond (!v4)
 (some (.inr (.inr false)))
 (some (.inl (IntKind.i64.wrap (v2 + (1 : Int))))))
 (some (.inr (.inl ())))
noncomputable def i_IsRegion (x0 : Int × (List ((List Int) × Int))) : Option (Bool) :=
(i_within x0.1 (1 : Int) (3 : Int)).bind fun v1 => cond (!v1)
 (some false)
 (cond (decide ((x0.2.length : Int) > (8 : Int)))
 (some false)
 ((iter (i_IsRegion_s4 x0) (0 : Int)).bind fun v5 => match v5 with
 | .inl v6 => (some true)
 | .inr v7 => (some v7)))
noncomputable def e_i_IsRegion : CallE := ⟨33, [.d false (.prod (.int .i64) (.list (.prod (.list (.int .i64)) (.int .i64))))], [.l (.d false .bool)], fun x => i_IsRegion x⟩
noncomputable def c_i_IsRegion : Ctx := ⟨Tryz.prog, TT, [e_i_within, e_i_IsHalf], [⟨4, [(18, .l (.d false (.int .i64)))], some (0, []), some [(2, .l (.d false .bool))], false, none⟩], [], [], [], []⟩
theorem k_i_IsRegion (x : PMs.den e_i_IsRegion.ps) : funK c_i_IsRegion Tryz.f33 e_i_IsRegion.ps e_i_IsRegion.rs x = e_i_IsRegion.F x := by kernel_rfl
theorem o_i_IsRegion {D : Prop} : FnOk Tryz.prog e_i_IsRegion.f ∧ Ctr D Tryz.prog e_i_IsRegion := mkCtr (C := c_i_IsRegion) m_ (⟨o_i_within, o_i_IsHalf, trivial⟩) Tryz.func33 (by kernel_rfl) k_i_IsRegion
/-! loop.example/g00959/impl.copyInts -/
noncomputable def i_copyInts (x0 : List Int) : Option (List Int) :=
(appD 8 ([] : List Int) x0).bind fun v1 => some v1
noncomputable def e_i_copyInts : CallE := ⟨76, [.d false (.list (.int .i64))], [.l (.o true 3 (.int .i64))], fun x => i_copyInts x⟩
noncomputable def c_i_copyInts : Ctx := ⟨Tryz.prog, TT, [], [], [], [], [], []⟩
theorem k_i_copyInts (x : PMs.den e_i_copyInts.ps) : funK c_i_copyInts Tryz.f76 e_i_copyInts.ps e_i_copyInts.rs x = e_i_copyInts.F x := by kernel_rfl
theorem o_i_copyInts {D : Prop} : FnOk Tryz.prog e_i_copyInts.f ∧ Ctr D Tryz.prog e_i_copyInts := mkCtr (C := c_i_copyInts) m_ (trivial) Tryz.func76 (by kernel_rfl) k_i_copyInts
/-! loop.example/g00959/impl.lattice -/
noncomputable def i_lattice_s10 (x1 : List Int) (v1 : List (List Int) × Int) (v3 : List Int) (v5 : List (List Int) × Int) : Option ((List (List Int) × Int) ⊕ (List (List Int))) :=
(idx x1 v1.2).bind fun v6 => cond (decide (v5.2 ≤ v6))
 ((i_copyInts v3).bind fun v7 => (appD 8 v7 ([v5.2] : List Int)).bind fun v8 => (appD 24 v5.1 ([v8] : List (List Int))).bind fun v9 => some (.inl (v9, (IntKind.i64.wrap (v5.2 + (1 : Int))))))
 (some (.inr v5.1))
noncomputable def i_lattice_s7 (x0 : List Int) (x1 : List Int) (v1 : List (List Int) × Int) (v2 : List (List Int) × Int) : Option ((List (List Int) × Int) ⊕ (List (List Int))) :=
 cond (decide (v2.2 < (v1.1.length : Int)))
 ((idx v1.1 v2.2).bind fun v3 => (idx x0 v1.2).bind fun v4 => (iter (i_lattice_s10 x1 v1 v3) (v2.1, v4)).bind fun v10 => some (.inl (v10, (IntKind.i64.wrap (v2.2 + (1 : Int))))))
 (some (.inr v2.1))
noncomputable def i_lattice_s3 (x0 : List Int) (x1 : List Int) (v1 : List (List Int) × Int) : Option ((List (List Int) × Int) ⊕ (List (List Int))) :=
 cond (decide (v1.2 < (x0.length : Int)))
 ((iter (i_lattice_s7 x0 x1 v1) (([] : List (List Int)), (0 : Int))).bind fun v11 => some (.inl (v11, (IntKind.i64.wrap (v1.2 + (1 : Int))))))
 (some (.inr v1.1))
noncomputable def i_lattice (x0 : List Int) (x1 : List Int) : Option (List (List Int)) :=
(iter (i_lattice_s3 x0 x1) (([([] : List Int)] : List (List Int)), (0 : Int))).bind fun v12 => some v12
noncomputable def e_i_lattice : CallE := ⟨78, [.d false (.list (.int .i64)), .d false (.list (.int .i64))], [.l (.o true 36 (.list (.int .i64)))], fun x => i_lattice x.1 x.2⟩
noncomputable def c_i_lattice : Ctx := ⟨Tryz.prog, TT, [e_i_copyInts], [⟨3, [(5, .l (.o true 36 (.list (.int .i64)))), (14, .l (.d false (.int .i64)))], some (0, [(5, .l (.o true 36 (.list (.int .i64))))]), none, false, none⟩, ⟨7, [(7, .l (.o true 36 (.list (.int .i64)))), (19, .l (.d false (.int .i64)))], some (2, [(7, .l (.o true 36 (.list (.int .i64))))]), none, false, none⟩, ⟨10, [(7, .l (.o true 36 (.list (.int .i64)))), (10, .l (.d false (.int .i64)))], some (4, [(7, .l (.o true 36 (.list (.int .i64))))]), none, false, none⟩], [], [], [], []⟩
theorem k_i_lattice (x : PMs.den e_i_lattice.ps) : funK c_i_lattice Tryz.f78 e_i_lattice.ps e_i_lattice.rs x = e_i_lattice.F x := by kernel_rfl
theorem o_i_lattice {D : Prop} : FnOk Tryz.prog e_i_lattice.f ∧ Ctr D Tryz.prog e_i_lattice := mkCtr (C := c_i_lattice) m_ (⟨o_i_copyInts, trivial⟩) Tryz.func78 (by kernel_rfl) k_i_lattice
/-! loop.example/g00959/impl.IsVector -/
noncomputable def i_IsVector (x0 : List Int) : Option (Bool) :=
(i_within (x0.length : Int) (1 : Int) (3 : Int)).bind fun v1 => cond v1
 ((i_allWithin x0 (-1000 : Int) (1000 : Int)).bind fun v2 => some v2)
 (some false)
noncomputable def e_i_IsVector : CallE := ⟨54, [.d false (.list (.int .i64))], [.l (.d false .bool)], fun x => i_IsVector x⟩
noncomputable def c_i_IsVector : Ctx := ⟨Tryz.prog, TT, [e_i_within, e_i_allWithin], [], [], [], [], []⟩
theorem k_i_IsVector (x : PMs.den e_i_IsVector.ps) : funK c_i_IsVector Tryz.f54 e_i_IsVector.ps e_i_IsVector.rs x = e_i_IsVector.F x := by kernel_rfl
theorem o_i_IsVector {D : Prop} : FnOk Tryz.prog e_i_IsVector.f ∧ Ctr D Tryz.prog e_i_IsVector := mkCtr (C := c_i_IsVector) m_ (⟨o_i_within, o_i_allWithin, trivial⟩) Tryz.func54 (by kernel_rfl) k_i_IsVector
/-! loop.example/g00959/impl.dot -/
noncomputable def i_dot_s3 (x0 : List Int) (x1 : List Int) (v1 : Int × Int) : Option ((Int × Int) ⊕ (Int)) :=
 cond (decide (v1.2 < (x0.length : Int)))
 ((idx x0 v1.2).bind fun v2 => (idx x1 v1.2).bind fun v3 => some (.inl ((IntKind.i64.wrap (v1.1 + (IntKind.i64.wrap (v2 * v3)))), (IntKind.i64.wrap (v1.2 + (1 : Int))))))
 (some (.inr v1.1))
noncomputable def i_dot (x0 : List Int) (x1 : List Int) : Option (Int) :=
(iter (i_dot_s3 x0 x1) ((0 : Int), (0 : Int))).bind fun v4 => some v4
noncomputable def e_i_dot : CallE := ⟨43, [.d false (.list (.int .i64)), .d false (.list (.int .i64))], [.l (.d false (.int .i64))], fun x => i_dot x.1 x.2⟩
noncomputable def c_i_dot : Ctx := ⟨Tryz.prog, TT, [], [⟨3, [(5, .l (.d false (.int .i64))), (9, .l (.d false (.int .i64)))], some (0, [(5, .l (.d false (.int .i64)))]), none, false, none⟩], [⟨5, [], [], [], 0⟩], [], [], []⟩
theorem k_i_dot (x : PMs.den e_i_dot.ps) : funK c_i_dot Tryz.f43 e_i_dot.ps e_i_dot.rs x = e_i_dot.F x := by kernel_rfl
theorem o_i_dot {D : Prop} : FnOk Tryz.prog e_i_dot.f ∧ Ctr D Tryz.prog e_i_dot := mkCtr (C := c_i_dot) m_ (trivial) Tryz.func43 (by kernel_rfl) k_i_dot
/-! loop.example/g00959/impl.HasPoint -/
noncomputable def i_HasPoint_s4 (x0 : Int × (List ((List Int) × Int))) (x1 : List Int) (v3 : Int) : Option ((Int) ⊕ ((Unit) ⊕ (Bool))) :=
 cond (decide (v3 < (x0.2.length : Int)))
 ((idx x0.2 v3).bind fun v4 => (i_dot v4.1 x1).bind fun v5 => cond (decide (v5 > v4.2))
 (some (.inr (.inr false)))
 (some (.inl (IntKind.i64.wrap (v3 + (1 : Int))))))
 (some (.inr (.inl ())))
noncomputable def i_HasPoint (x0 : Int × (List ((List Int) × Int))) (x1 : List Int) : Option (Bool) :=
(i_IsRegion (x0.1, x0.2)).bind fun v1 => cond (!v1)
 (some false)
 ((i_IsVector x1).bind fun v2 => cond (!v2)
 (some false)
 (cond ((x1.length : Int) != x0.1)
 (some false)
 ((iter (i_HasPoint_s4 x0 x1) (0 : Int)).bind fun v6 => match v6 with
 | .inl v7 => (some true)
 | .inr v8 => (some v8))))
noncomputable def e_i_HasPoint : CallE := ⟨79, [.d false (.prod (.int .i64) (.list (.prod (.list (.int .i64)) (.int .i64)))), .d false (.list (.int .i64))], [.l (.d false .bool)], fun x => i_HasPoint x.1 x.2⟩
noncomputable def c_i_HasPoint : Ctx := ⟨Tryz.prog, TT, [e_i_IsRegion, e_i_IsVector, e_i_dot], [⟨4, [(25, .l (.d false (.int .i64)))], some (0, []), some [(4, .l (.d false .bool))], false, none⟩], [⟨6, [], [], [], 0⟩], [], [], []⟩
theorem k_i_HasPoint (x : PMs.den e_i_HasPoint.ps) : funK c_i_HasPoint Tryz.f79 e_i_HasPoint.ps e_i_HasPoint.rs x = e_i_HasPoint.F x := by kernel_rfl
theorem o_i_HasPoint {D : Prop} : FnOk Tryz.prog e_i_HasPoint.f ∧ Ctr D Tryz.prog e_i_HasPoint := mkCtr (C := c_i_HasPoint) m_ (⟨o_i_IsRegion, o_i_IsVector, o_i_dot, trivial⟩) Tryz.func79 (by kernel_rfl) k_i_HasPoint
/-! loop.example/g00959/impl.PointsIn -/
noncomputable def i_PointsIn_s5 (v2 : List Int) (v4 : List Int × List Int × Int) : Option ((List Int × List Int × Int) ⊕ (List Int × List Int)) :=
 cond (decide (v4.2.2 < (v2.length : Int)))
 ((inIdx v4.1.length v4.2.2).bind fun _ => (inIdx v4.1.length (((v4.2.2).toNat : Nat) : Int)).bind fun _ => (inIdx v4.2.1.length v4.2.2).bind fun _ => (inIdx v4.2.1.length (((v4.2.2).toNat : Nat) : Int)).bind fun _ => some (.inl ((v4.1.set ((v4.2.2).toNat) (-6 : Int)), ((v4.2.1.set ((v4.2.2).toNat) (6 : Int)), (IntKind.i64.wrap (v4.2.2 + (1 : Int)))))))
 (some (.inr (v4.1, v4.2.1)))
noncomputable def i_PointsIn_s11 (x0 : Int × (List ((List Int) × Int))) (v6 : List (List Int)) (v7 : List (List Int) × Int) : Option ((List (List Int) × Int) ⊕ (List (List Int))) :=
 cond (decide (v7.2 < (v6.length : Int)))
 ((idx v6 v7.2).bind fun v8 => (i_HasPoint (x0.1, x0.2) v8).bind fun v9 => cond v9
 ((appD 24 v7.1 ([v8] : List (List Int))).bind fun v10 => some (.inl (v10, (IntKind.i64.wrap (v7.2 + (1 : Int))))))
 (some (.inl (v7.1, (IntKind.i64.wrap (v7.2 + (1 : Int)))))))
 (some (.inr v7.1))
noncomputable def i_PointsIn (x0 : Int × (List ((List Int) × Int))) : Option (List (List Int)) :=
(i_IsRegion (x0.1, x0.2)).bind fun v1 => cond (!v1)
 (some ([] : List (List Int)))
 ((mkD 8 x0.1 (0 : Int)).bind fun v2 => (mkD 8 x0.1 (0 : Int)).bind fun v3 => (iter (i_PointsIn_s5 v2) (v2, (v3, (0 : Int)))).bind fun v5 => (i_lattice v5.1 v5.2).bind fun v6 => (iter (i_PointsIn_s11 x0 v6) (([] : List (List Int)), (0 : Int))).bind fun v11 => some v11)
noncomputable def e_i_PointsIn : CallE := ⟨35, [.d false (.prod (.int .i64) (.list (.prod (.list (.int .i64)) (.int .i64))))], [.l (.o false 36 (.list (.int .i64)))], fun x => i_PointsIn x⟩
noncomputable def c_i_PointsIn : Ctx := ⟨Tryz.prog, TT, [e_i_IsRegion, e_i_lattice, e_i_HasPoint], [⟨5, [(3, .l (.o true 3 (.int .i64))), (4, .l (.o true 3 (.int .i64))), (20, .l (.d false (.int .i64)))], some (0, [(3, .l (.o true 3 (.int .i64))), (4, .l (.o true 3 (.int .i64)))]), none, false, none⟩, ⟨11, [(6, .l (.o false 36 (.list (.int .i64)))), (34, .l (.d false (.int .i64)))], some (2, [(6, .l (.o false 36 (.list (.int .i64))))]), none, false, none⟩], [⟨3, [], [], [], 0⟩], [], [], []⟩
theorem k_i_PointsIn (x : PMs.den e_i_PointsIn.ps) : funK c_i_PointsIn Tryz.f35 e_i_PointsIn.ps e_i_PointsIn.rs x = e_i_PointsIn.F x := by kernel_rfl
theorem o_i_PointsIn {D : Prop} : FnOk Tryz.prog e_i_PointsIn.f ∧ Ctr D Tryz.prog e_i_PointsIn := mkCtr (C := c_i_PointsIn) m_ (⟨o_i_IsRegion, o_i_lattice, o_i_HasPoint, trivial⟩) Tryz.func35 (by kernel_rfl) k_i_PointsIn
/-! loop.example/g00959/impl.isPoint -/
noncomputable def i_isPoint (x0 : List Int) (x1 : Int) : Option (Bool) :=
 cond ((x0.length : Int) == (2 : Int))
 ((i_allWithin x0 (IntKind.i64.wrap (0 - x1)) x1).bind fun v1 => some v1)
 (some false)
noncomputable def e_i_isPoint : CallE := ⟨71, [.d false (.list (.int .i64)), .d false (.int .i64)], [.l (.d false .bool)], fun x => i_isPoint x.1 x.2⟩
noncomputable def c_i_isPoint : Ctx := ⟨Tryz.prog, TT, [e_i_allWithin], [], [], [], [], []⟩
theorem k_i_isPoint (x : PMs.den e_i_isPoint.ps) : funK c_i_isPoint Tryz.f71 e_i_isPoint.ps e_i_isPoint.rs x = e_i_isPoint.F x := by kernel_rfl
theorem o_i_isPoint {D : Prop} : FnOk Tryz.prog e_i_isPoint.f ∧ Ctr D Tryz.prog e_i_isPoint := mkCtr (C := c_i_isPoint) m_ (⟨o_i_allWithin, trivial⟩) Tryz.func71 (by kernel_rfl) k_i_isPoint
/-! loop.example/g00959/impl.copyPoints -/
noncomputable def i_copyPoints_s3 (x0 : List (List Int)) (v1 : List (List Int) × Int) : Option ((List (List Int) × Int) ⊕ (List (List Int))) :=
 cond (decide (v1.2 < (x0.length : Int)))
 ((idx x0 v1.2).bind fun v2 => (i_copyInts v2).bind fun v3 => (appD 24 v1.1 ([v3] : List (List Int))).bind fun v4 => some (.inl (v4, (IntKind.i64.wrap (v1.2 + (1 : Int))))))
 (some (.inr v1.1))
noncomputable def i_copyPoints (x0 : List (List Int)) : Option (List (List Int)) :=
(iter (i_copyPoints_s3 x0) (([] : List (List Int)), (0 : Int))).bind fun v5 => some v5
noncomputable def e_i_copyPoints : CallE := ⟨72, [.d false (.list (.list (.int .i64)))], [.l (.o true 36 (.list (.int .i64)))], fun x => i_copyPoints x⟩
noncomputable def c_i_copyPoints : Ctx := ⟨Tryz.prog, TT, [e_i_copyInts], [⟨3, [(3, .l (.o true 36 (.list (.int .i64)))), (8, .l (.d false (.int .i64)))], some (0, [(3, .l (.o true 36 (.list (.int .i64))))]), none, false, none⟩], [], [], [], []⟩
theorem k_i_copyPoints (x : PMs.den e_i_copyPoints.ps) : funK c_i_copyPoints Tryz.f72 e_i_copyPoints.ps e_i_copyPoints.rs x = e_i_copyPoints.F x := by kernel_rfl
theorem o_i_copyPoints {D : Prop} : FnOk Tryz.prog e_i_copyPoints.f ∧ Ctr D Tryz.prog e_i_copyPoints := mkCtr (C := c_i_copyPoints) m_ (⟨o_i_copyInts, trivial⟩) Tryz.func72 (by kernel_rfl) k_i_copyPoints
/-! cmp.isNaN[int] -/
noncomputable def g_cmp_isNaN (x0 : Int) : Option (Bool) :=
 some (x0 != x0)
noncomputable def e_g_cmp_isNaN : CallE := ⟨135, [.d false (.int .i64)], [.l (.d false .bool)], fun x => g_cmp_isNaN x⟩
noncomputable def c_g_cmp_isNaN : Ctx := ⟨Tryz.prog, TT, [], [], [], [], [], []⟩
theorem k_g_cmp_isNaN (x : PMs.den e_g_cmp_isNaN.ps) : funK c_g_cmp_isNaN Tryz.f135 e_g_cmp_isNaN.ps e_g_cmp_isNaN.rs x = e_g_cmp_isNaN.F x := by kernel_rfl
theorem o_g_cmp_isNaN {D : Prop} : FnOk Tryz.prog e_g_cmp_isNaN.f ∧ Ctr D Tryz.prog e_g_cmp_isNaN := mkCtr (C := c_g_cmp_isNaN) m_ (trivial) Tryz.func135 (by kernel_rfl) k_g_cmp_isNaN
/-! cmp.Compare[int] -/
noncomputable def g_cmp_Compare (x0 : Int) (x1 : Int) : Option (Int) :=
(g_cmp_isNaN x0).bind fun v1 => (g_cmp_isNaN x1).bind fun v2 => cond v1
 (cond v2
 (some (0 : Int))
 (some (-1 : Int)))
 (cond v2
 (some (1 : Int))
 (cond (decide (x0 < x1))
 (some (-1 : Int))
 (cond (decide (x0 > x1))
 (some (1 : Int))
 (some (0 : Int)))))
noncomputable def e_g_cmp_Compare : CallE := ⟨111, [.d false (.int .i64), .d false (.int .i64)], [.l (.d false (.int .i64))], fun x => g_cmp_Compare x.1 x.2⟩
noncomputable def c_g_cmp_Compare : Ctx := ⟨Tryz.prog, TT, [e_g_cmp_isNaN], [], [], [], [], []⟩
theorem k_g_cmp_Compare (x : PMs.den e_g_cmp_Compare.ps) : funK c_g_cmp_Compare Tryz.f111 e_g_cmp_Compare.ps e_g_cmp_Compare.rs x = e_g_cmp_Compare.F x := by kernel_rfl
theorem o_g_cmp_Compare {D : Prop} : FnOk Tryz.prog e_g_cmp_Compare.f ∧ Ctr D Tryz.prog e_g_cmp_Compare := mkCtr (C := c_g_cmp_Compare) m_ (⟨o_g_cmp_isNaN, trivial⟩) Tryz.func111 (by kernel_rfl) k_g_cmp_Compare
/-! slices.Compare[[]int,int] -/
noncomputable def g_slices_Compare_s2 (x0 : List Int) (x1 : List Int) (v1 : Int) : Option ((Int) ⊕ ((Unit) ⊕ (Int))) :=
 cond (decide (v1 < (x0.length : Int)))
 ((idx x0 v1).bind fun v2 => cond (decide (v1 ≥ (x1.length : Int)))
 (some (.inr (.inr (1 : Int))))
 ((idx x1 v1).bind fun v3 => (g_cmp_Compare v2 v3).bind fun v4 => cond (v4 != (0 : Int))
 (some (.inr (.inr v4)))
 (some (.inl (IntKind.i64.wrap (v1 + (1 : Int)))))))
 (some (.inr (.inl ())))
noncomputable def g_slices_Compare (x0 : List Int) (x1 : List Int) : Option (Int) :=
(iter (g_slices_Compare_s2 x0 x1) (0 : Int)).bind fun v5 => match v5 with
 | .inl v6 => (cond (decide ((x0.length : Int) < (x1.length : Int)))
 (some (-1 : Int))
 (some (0 : Int)))
 | .inr v7 => (some v7)
noncomputable def e_g_slices_Compare : CallE := ⟨74, [.d false (.list (.int .i64)), .d false (.list (.int .i64))], [.l (.d false (.int .i64))], fun x => g_slices_Compare x.1 x.2⟩
noncomputable def c_g_slices_Compare : Ctx := ⟨Tryz.prog, TT, [e_g_cmp_Compare], [⟨2, [(11, .l (.d false (.int .i64)))], some (0, []), some [(4, .l (.d false (.int .i64)))], false, none⟩], [], [], [], []⟩
theorem k_g_slices_Compare (x : PMs.den e_g_slices_Compare.ps) : funK c_g_slices_Compare Tryz.f74 e_g_slices_Compare.ps e_g_slices_Compare.rs x = e_g_slices_Compare.F x := by kernel_rfl
theorem o_g_slices_Compare {D : Prop} : FnOk Tryz.prog e_g_slices_Compare.f ∧ Ctr D Tryz.prog e_g_slices_Compare := mkCtr (C := c_g_slices_Compare) m_ (⟨o_g_cmp_Compare, trivial⟩) Tryz.func74 (by kernel_rfl) k_g_slices_Compare
/-! slices.SortFunc[[][]int,[]int] -/
noncomputable def g_slices_SortFunc (x0 : List (List Int)) : Option (Unit × ((List (List Int)) × Unit)) := sortF (fun a b => g_slices_Compare a b) x0
noncomputable def e_g_slices_SortFunc : CallE := ⟨73, [.io true 36 (.list (.int .i64)), .f 74], [], fun x => g_slices_SortFunc x.1⟩
theorem o_g_slices_SortFunc {D : Prop} : FnOk Tryz.prog e_g_slices_SortFunc.f ∧ Ctr D Tryz.prog e_g_slices_SortFunc := ⟨⟨Tryz.f73, _, Tryz.func73, by kernel_rfl, rfl⟩, sort_ctr laySort rfl (o_g_slices_Compare (D := True)).1 (o_g_slices_Compare (D := True)).2⟩
/-! loop.example/g00959/impl.minus -/
noncomputable def i_minus (x0 : List Int) (x1 : List Int) : Option (List Int) :=
(idx x0 (0 : Int)).bind fun v1 => (idx x1 (0 : Int)).bind fun v2 => (idx x0 (1 : Int)).bind fun v3 => (idx x1 (1 : Int)).bind fun v4 => some ([(IntKind.i64.wrap (v1 - v2)), (IntKind.i64.wrap (v3 - v4))] : List Int)
noncomputable def e_i_minus : CallE := ⟨87, [.d false (.list (.int .i64)), .d false (.list (.int .i64))], [.l (.o true 3 (.int .i64))], fun x => i_minus x.1 x.2⟩
noncomputable def c_i_minus : Ctx := ⟨Tryz.prog, TT, [], [], [⟨1, [], [], [], 0⟩], [], [], []⟩
theorem k_i_minus (x : PMs.den e_i_minus.ps) : funK c_i_minus Tryz.f87 e_i_minus.ps e_i_minus.rs x = e_i_minus.F x := by kernel_rfl
theorem o_i_minus {D : Prop} : FnOk Tryz.prog e_i_minus.f ∧ Ctr D Tryz.prog e_i_minus := mkCtr (C := c_i_minus) m_ (trivial) Tryz.func87 (by kernel_rfl) k_i_minus
/-! loop.example/g00959/impl.cross -/
noncomputable def i_cross (x0 : List Int) (x1 : List Int) : Option (Int) :=
(idx x0 (0 : Int)).bind fun v1 => (idx x1 (1 : Int)).bind fun v2 => (idx x0 (1 : Int)).bind fun v3 => (idx x1 (0 : Int)).bind fun v4 => some (IntKind.i64.wrap ((IntKind.i64.wrap (v1 * v2)) - (IntKind.i64.wrap (v3 * v4))))
noncomputable def e_i_cross : CallE := ⟨112, [.d false (.list (.int .i64)), .d false (.list (.int .i64))], [.l (.d false (.int .i64))], fun x => i_cross x.1 x.2⟩
noncomputable def c_i_cross : Ctx := ⟨Tryz.prog, TT, [], [], [⟨1, [], [], [], 0⟩], [], [], []⟩
theorem k_i_cross (x : PMs.den e_i_cross.ps) : funK c_i_cross Tryz.f112 e_i_cross.ps e_i_cross.rs x = e_i_cross.F x := by kernel_rfl
theorem o_i_cross {D : Prop} : FnOk Tryz.prog e_i_cross.f ∧ Ctr D Tryz.prog e_i_cross := mkCtr (C := c_i_cross) m_ (trivial) Tryz.func112 (by kernel_rfl) k_i_cross
/-! loop.example/g00959/impl.turn -/
noncomputable def i_turn (x0 : List Int) (x1 : List Int) (x2 : List Int) : Option (Int) :=
(i_minus x1 x0).bind fun v1 => (i_minus x2 x0).bind fun v2 => (i_cross v1 v2).bind fun v3 => some v3
noncomputable def e_i_turn : CallE := ⟨75, [.d false (.list (.int .i64)), .d false (.list (.int .i64)), .d false (.list (.int .i64))], [.l (.d false (.int .i64))], fun x => i_turn x.1 x.2.1 x.2.2⟩
noncomputable def c_i_turn : Ctx := ⟨Tryz.prog, TT, [e_i_minus, e_i_cross], [], [], [], [], []⟩
theorem k_i_turn (x : PMs.den e_i_turn.ps) : funK c_i_turn Tryz.f75 e_i_turn.ps e_i_turn.rs x = e_i_turn.F x := by kernel_rfl
theorem o_i_turn {D : Prop} : FnOk Tryz.prog e_i_turn.f ∧ Ctr D Tryz.prog e_i_turn := mkCtr (C := c_i_turn) m_ (⟨o_i_minus, o_i_cross, trivial⟩) Tryz.func75 (by kernel_rfl) k_i_turn
/-! slices.Reverse[[][]int,[]int] -/
noncomputable def g_slices_Reverse (x0 : List (List Int)) : Option (Unit × ((List (List Int)) × Unit)) := some ((), (x0.reverse, ()))
noncomputable def e_g_slices_Reverse : CallE := ⟨77, [.io true 36 (.list (.int .i64))], [], fun x => g_slices_Reverse x⟩
theorem o_g_slices_Reverse {D : Prop} : FnOk Tryz.prog e_g_slices_Reverse.f ∧ Ctr D Tryz.prog e_g_slices_Reverse := ⟨⟨Tryz.f77, _, Tryz.func77, by kernel_rfl, rfl⟩, rev_ctr layRev rfl⟩
/-! loop.example/g00959/impl.IsPolygon -/
noncomputable def i_IsPolygon_s4 (x0 : List (List Int)) (v2 : Int) : Option ((Int) ⊕ ((Unit) ⊕ (Bool))) :=
 cond (decide (v2 < (x0.length : Int)))
 ((idx x0 v2).bind fun v3 => (i_isPoint v3 (50 : Int)).bind fun v4 => cond (!v4)
 (some (.inr (.inr false)))
 (some (.inl (IntKind.i64.wrap (v2 + (1 : Int))))))
 (some (.inr (.inl ())))
noncomputable def i_IsPolygon_s11 (x0 : List (List Int)) (v8 : Int) : Option ((Int) ⊕ ((Unit) ⊕ (Bool))) :=
 cond (decide (v8 < (x0.length : Int)))
 ((idx x0 v8).bind fun v9 => (remI .i64 (IntKind.i64.wrap (v8 + (1 : Int))) (x0.length : Int)).bind fun v10 => (idx x0 v10).bind fun v11 => (remI .i64 (IntKind.i64.wrap (v8 + (2 : Int))) (x0.length : Int)).bind fun v12 => (idx x0 v12).bind fun v13 => (i_turn v9 v11 v13).bind fun v14 => cond (decide (v14 ≤ (0 : Int)))
 (some (.inr (.inr false)))
 (cond (decide (v8 > (0 : Int)))
 ((idx x0 (0 : Int)).bind fun v15 => (g_slices_Compare v15 v9).bind fun v16 => cond (decide (v16 ≥ (0 : Int)))
 (some (.inr (.inr false)))
 (cond (decide (v8 > (0 : Int)))
 (cond (decide (v8 < (IntKind.i64.wrap ((x0.length : Int) - (1 : Int)))))
 ((idx x0 (0 : Int)).bind fun v17 => (idx x0 (IntKind.i64.wrap (v8 + (1 : Int)))).bind fun v18 => (i_turn v17 v9 v18).bind fun v19 => cond (decide (v19 ≤ (0 : Int)))
 (some (.inr (.inr false)))
 (some (.inl (IntKind.i64.wrap (v8 + (1 : Int))))))
 (some (.inl (IntKind.i64.wrap (v8 + (1 : Int))))))
 (some (.inl (IntKind.i64.wrap (v8 + (1 : Int)))))))
 (cond (decide (v8 > (0 : Int)))
 (cond (decide (v8 < (IntKind.i64.wrap ((x0.length : Int) - (1 : Int)))))
 ((idx x0 (0 : Int)).bind fun v20 => (idx x0 (IntKind.i64.wrap (v8 + (1 : Int)))).bind fun v21 => (i_turn v20 v9 v21).bind fun v22 => cond (decide (v22 ≤ (0 : Int)))
 (some (.inr (.inr false)))
 (some (.inl (IntKind.i64.wrap (v8 + (1 : Int))))))
 (some (.inl (IntKind.i64.wrap (v8 + (1 : Int))))))
 (some (.inl (IntKind.i64.wrap (v8 + (1 : Int))))))))
 (some (.inr (.inl ())))
noncomputable def i_IsPolygon (x0 : List (List Int)) : Option (Bool) :=
(i_within (x0.length : Int) (3 : Int) (12 : Int)).bind fun v1 => cond (!v1)
 (some false)
 ((iter (i_IsPolygon_s4 x0) (0 : Int)).bind fun v5 => match v5 with
 | .inl v6 => ((iter (i_IsPolygon_s11 x0) (0 : Int)).bind fun v23 => match v23 with
 | .inl v24 => (some true)
 | .inr v25 => (some v25))
 | .inr v7 => (some v7))
noncomputable def e_i_IsPolygon : CallE := ⟨41, [.d false (.list (.list (.int .i64)))], [.l (.d false .bool)], fun x => i_IsPolygon x⟩
noncomputable def c_i_IsPolygon : Ctx := ⟨Tryz.prog, TT, [e_i_within, e_i_isPoint, e_i_turn, e_g_slices_Compare], [⟨4, [(14, .l (.d false (.int .i64)))], some (0, []), some [(2, .l (.d false .bool))], false, none⟩, ⟨11, [(26, .l (.d false (.int .i64)))], some (2, []), some [(2, .l (.d false .bool))], false, none⟩], [⟨13, [], [], [], 0⟩], [], [], []⟩
theorem k_i_IsPolygon (x : PMs.den e_i_IsPolygon.ps) : funK c_i_IsPolygon Tryz.f41 e_i_IsPolygon.ps e_i_IsPolygon.rs x = e_i_IsPolygon.F x := by kernel_rfl
theorem o_i_IsPolygon {D : Prop} : FnOk Tryz.prog e_i_IsPolygon.f ∧ Ctr D Tryz.prog e_i_IsPolygon := mkCtr (C := c_i_IsPolygon) m_ (⟨o_i_within, o_i_isPoint, o_i_turn, o_g_slices_Compare, trivial⟩) Tryz.func41 (by kernel_rfl) k_i_IsPolygon
/-! loop.example/g00959/impl.HullOf -/
noncomputable def i_HullOf_s4 (x0 : List (List Int)) (v1 : Int) : Option ((Int) ⊕ ((Unit) ⊕ (List (List Int) × Bool))) :=
 cond (decide (v1 < (x0.length : Int)))
 ((idx x0 v1).bind fun v2 => (i_isPoint v2 (50 : Int)).bind fun v3 => cond (!v3)
 (some (.inr (.inr (([] : List (List Int)), false))))
 (some (.inl (IntKind.i64.wrap (v1 + (1 : Int))))))
 (some (.inr (.inl ())))
noncomputable def i_HullOf_s19 (v9 : List (List Int) × List (List Int) × Int) (v11 : List Int) (v12 : List (List Int)) : Option ((List (List Int)) ⊕ (List (List Int))) :=
 cond (decide ((v12.length : Int) ≥ (IntKind.i64.wrap ((v9.2.1.length : Int) + (2 : Int)))))
 ((inIdx v12.length (IntKind.i64.wrap ((v12.length : Int) - (2 : Int)))).bind fun _ => (idx v12 ((((IntKind.i64.wrap ((v12.length : Int) - (2 : Int)))).toNat : Nat) : Int)).bind fun v13 => (inIdx v12.length (IntKind.i64.wrap ((v12.length : Int) - (1 : Int)))).bind fun _ => (idx v12 ((((IntKind.i64.wrap ((v12.length : Int) - (1 : Int)))).toNat : Nat) : Int)).bind fun v14 => (i_turn v13 v14 v11).bind fun v15 => cond (decide (v15 ≤ (0 : Int)))
 ((subl v12 0 (IntKind.i64.wrap ((v12.length : Int) - (1 : Int)))).bind fun v16 => some (.inl v16))
 (some (.inr v12)))
 (some (.inr v12))
noncomputable def i_HullOf_s17 (v9 : List (List Int) × List (List Int) × Int) (v10 : List (List Int) × Int) : Option ((List (List Int) × Int) ⊕ (List (List Int))) :=
 cond (decide (v10.2 < (v9.1.length : Int)))
 ((idx v9.1 v10.2).bind fun v11 => (iter (i_HullOf_s19 v9 v11) v10.1).bind fun v17 => (i_copyInts v11).bind fun v18 => (appD 24 v17 ([v18] : List (List Int))).bind fun v19 => some (.inl (v19, (IntKind.i64.wrap (v10.2 + (1 : Int))))))
 (some (.inr v10.1))
noncomputable def i_HullOf_s13 (v9 : List (List Int) × List (List Int) × Int) : Option ((List (List Int) × List (List Int) × Int) ⊕ (List (List Int))) :=
 cond (decide (v9.2.2 < (2 : Int)))
 ((iter (i_HullOf_s17 v9) (v9.2.1, (0 : Int))).bind fun v20 => (subl v20 0 (if (IntKind.i64.wrap ((v20.length : Int) - (1 : Int))) > (0 : Int) then (IntKind.i64.wrap ((v20.length : Int) - (1 : Int))) else (0 : Int))).bind fun v21 => (g_slices_Reverse v9.1).bind fun v22 => some (.inl (v22.2.1, (v21, (IntKind.i64.wrap (v9.2.2 + (1 : Int)))))))
 (some (.inr v9.2.1))
noncomputable def i_HullOf (x0 : List (List Int)) : Option (List (List Int) × Bool) :=
 cond (decide ((x0.length : Int) > (200 : Int)))
 (some (([] : List (List Int)), false))
 ((iter (i_HullOf_s4 x0) (0 : Int)).bind fun v4 => match v4 with
 | .inl v5 => ((i_copyPoints x0).bind fun v7 => (g_slices_SortFunc v7).bind fun v8 => (iter (i_HullOf_s13) (v8.2.1, (([] : List (List Int)), (0 : Int)))).bind fun v23 => (i_IsPolygon v23).bind fun v24 => cond (!v24)
 (some (([] : List (List Int)), false))
 (some (v23, true)))
 | .inr v6 => (some (v6.1, v6.2)))
noncomputable def e_i_HullOf : CallE := ⟨34, [.d false (.list (.list (.int .i64)))], [.l (.o true 36 (.list (.int .i64))), .l (.d false .bool)], fun x => i_HullOf x⟩
noncomputable def c_i_HullOf : Ctx := ⟨Tryz.prog, TT, [e_i_isPoint, e_i_copyPoints, e_g_slices_SortFunc, e_i_turn, e_i_copyInts, e_g_slices_Reverse, e_i_IsPolygon], [⟨4, [(17, .l (.d false (.int .i64)))], some (0, []), some [(2, .l (.o true 36 (.list (.int .i64)))), (3, .l (.d false .bool))], false, none⟩, ⟨13, [(6, .l (.o true 36 (.list (.int .i64)))), (7, .l (.o true 36 (.list (.int .i64)))), (8, .l (.d false (.int .i64)))], some (2, [(7, .l (.o true 36 (.list (.int .i64))))]), none, false, none⟩, ⟨17, [(7, .l (.o true 36 (.list (.int .i64)))), (37, .l (.d false (.int .i64)))], some (4, [(7, .l (.o true 36 (.list (.int .i64))))]), none, true, none⟩, ⟨19, [(7, .l (.o true 36 (.list (.int .i64))))], some (6, [(7, .l (.o true 36 (.list (.int .i64))))]), none, false, none⟩], [⟨19, [], [], [], 0⟩], [], [], []⟩
theorem k_i_HullOf (x : PMs.den e_i_HullOf.ps) : funK c_i_HullOf Tryz.f34 e_i_HullOf.ps e_i_HullOf.rs x = e_i_HullOf.F x := by kernel_rfl
theorem o_i_HullOf {D : Prop} : FnOk Tryz.prog e_i_HullOf.f ∧ Ctr D Tryz.prog e_i_HullOf := mkCtr (C := c_i_HullOf) m_ (⟨o_i_isPoint, o_i_copyPoints, o_g_slices_SortFunc, o_i_turn, o_i_copyInts, o_g_slices_Reverse, o_i_IsPolygon, trivial⟩) Tryz.func34 (by kernel_rfl) k_i_HullOf
/-! loop.example/g00959/impl.WholeHull -/
noncomputable def i_WholeHull (x0 : Int × (List ((List Int) × Int))) : Option (List (List Int) × Bool) :=
(i_IsRegion (x0.1, x0.2)).bind fun v1 => cond (!v1)
 (some (([] : List (List Int)), false))
 (cond (x0.1 != (2 : Int))
 (some (([] : List (List Int)), false))
 ((i_PointsIn (x0.1, x0.2)).bind fun v2 => (i_HullOf v2).bind fun v3 => some (v3.1, v3.2)))
noncomputable def e_i_WholeHull : CallE := ⟨7, [.d false (.prod (.int .i64) (.list (.prod (.list (.int .i64)) (.int .i64))))], [.l (.o true 36 (.list (.int .i64))), .l (.d false .bool)], fun x => i_WholeHull x⟩
noncomputable def c_i_WholeHull : Ctx := ⟨Tryz.prog, TT, [e_i_IsRegion, e_i_PointsIn, e_i_HullOf], [], [], [], [], []⟩
theorem k_i_WholeHull (x : PMs.den e_i_WholeHull.ps) : funK c_i_WholeHull Tryz.f7 e_i_WholeHull.ps e_i_WholeHull.rs x = e_i_WholeHull.F x := by kernel_rfl
theorem o_i_WholeHull {D : Prop} : FnOk Tryz.prog e_i_WholeHull.f ∧ Ctr D Tryz.prog e_i_WholeHull := mkCtr (C := c_i_WholeHull) m_ (⟨o_i_IsRegion, o_i_PointsIn, o_i_HullOf, trivial⟩) Tryz.func7 (by kernel_rfl) k_i_WholeHull
/-! loop.example/g00959/spec.l1In -/
noncomputable def s_l1In (x0 : Int) (x1 : Int) (x2 : Int) : Option (Bool) :=
 cond (decide (x0 ≥ x1))
 (some (decide (x0 ≤ x2)))
 (some false)
noncomputable def e_s_l1In : CallE := ⟨80, [.d false (.int .i64), .d false (.int .i64), .d false (.int .i64)], [.l (.d false .bool)], fun x => s_l1In x.1 x.2.1 x.2.2⟩
noncomputable def c_s_l1In : Ctx := ⟨Tryz.prog, TT, [], [], [], [], [], []⟩
theorem k_s_l1In (x : PMs.den e_s_l1In.ps) : funK c_s_l1In Tryz.f80 e_s_l1In.ps e_s_l1In.rs x = e_s_l1In.F x := by kernel_rfl
theorem o_s_l1In {D : Prop} : FnOk Tryz.prog e_s_l1In.f ∧ Ctr D Tryz.prog e_s_l1In := mkCtr (C := c_s_l1In) m_ (trivial) Tryz.func80 (by kernel_rfl) k_s_l1In
/-! loop.example/g00959/spec.l2Small -/
noncomputable def s_l2Small_s2 (x0 : List Int) (x1 : Int) (v1 : Int) : Option ((Int) ⊕ ((Unit) ⊕ (Bool))) :=
 cond (decide (v1 < (x0.length : Int)))
 ((idx x0 v1).bind fun v2 => (s_l1In v2 (IntKind.i64.wrap (0 - x1)) x1).bind fun v3 => cond (!v3)
 (some (.inr (.inr false)))
 (some (.inl (IntKind.i64.wrap (v1 + (1 : Int))))))
 (some (.inr (.inl ())))
noncomputable def s_l2Small (x0 : List Int) (x1 : Int) : Option (Bool) :=
(iter (s_l2Small_s2 x0 x1) (0 : Int)).bind fun v4 => match v4 with
 | .inl v5 => (some true)
 | .inr v6 => (some v6)
noncomputable def e_s_l2Small : CallE := ⟨92, [.d false (.list (.int .i64)), .d false (.int .i64)], [.l (.d false .bool)], fun x => s_l2Small x.1 x.2⟩
noncomputable def c_s_l2Small : Ctx := ⟨Tryz.prog, TT, [e_s_l1In], [⟨2, [(5, .l (.d false (.int .i64)))], some (0, []), some [(4, .l (.d false .bool))], false, none⟩], [], [], [], []⟩
theorem k_s_l2Small (x : PMs.den e_s_l2Small.ps) : funK c_s_l2Small Tryz.f92 e_s_l2Small.ps e_s_l2Small.rs x = e_s_l2Small.F x := by kernel_rfl
theorem o_s_l2Small {D : Prop} : FnOk Tryz.prog e_s_l2Small.f ∧ Ctr D Tryz.prog e_s_l2Small := mkCtr (C := c_s_l2Small) m_ (⟨o_s_l1In, trivial⟩) Tryz.func92 (by kernel_rfl) k_s_l2Small
/-! loop.example/g00959/spec.IsHalf -/
noncomputable def s_IsHalf (x0 : Int) (x1 : (List Int) × Int) : Option (Bool) :=
(s_l1In x0 (1 : Int) (3 : Int)).bind fun v1 => cond v1
 (cond ((x1.1.length : Int) == x0)
 ((s_l2Small x1.1 (20 : Int)).bind fun v2 => cond v2
 ((s_l2All x1.1).bind fun v3 => cond (decide (v3 > (0 : Int)))
 ((s_l1In x1.2 (-200 : Int) (200 : Int)).bind fun v4 => some v4)
 (some false))
 (some false))
 (some false))
 (some false)
noncomputable def e_s_IsHalf : CallE := ⟨49, [.d false (.int .i64), .d false (.prod (.list (.int .i64)) (.int .i64))], [.l (.d false .bool)], fun x => s_IsHalf x.1 x.2⟩
noncomputable def c_s_IsHalf : Ctx := ⟨Tryz.prog, TT, [e_s_l1In, e_s_l2Small, e_s_l2All], [], [], [], [], []⟩
theorem k_s_IsHalf (x : PMs.den e_s_IsHalf.ps) : funK c_s_IsHalf Tryz.f49 e_s_IsHalf.ps e_s_IsHalf.rs x = e_s_IsHalf.F x := by kernel_rfl
theorem o_s_IsHalf {D : Prop} : FnOk Tryz.prog e_s_IsHalf.f ∧ Ctr D Tryz.prog e_s_IsHalf := mkCtr (C := c_s_IsHalf) m_ (⟨o_s_l1In, o_s_l2Small, o_s_l2All, trivial⟩) Tryz.func49 (by kernel_rfl) k_s_IsHalf
/-! loop.example/g00959/spec.IsRegion -/
noncomputable def s_IsRegion_s2 (x0 : Int × (List ((List Int) × Int))) (v1 : Int) : Option ((Int) ⊕ ((Unit) ⊕ (Bool))) :=
 cond (decide (v1 < (x0.2.length : Int)))
 ((idx x0.2 v1).bind fun v2 => (s_IsHalf x0.1 v2).bind fun v3 => cond (!v3)
 (some (.inr (.inr false)))
 (some (.inl (IntKind.i64.wrap (v1 + (1 : Int))))))
 (some (.inr (.inl ())))
noncomputable def s_IsRegion (x0 : Int × (List ((List Int) × Int))) : Option (Bool) :=
(iter (s_IsRegion_s2 x0) (0 : Int)).bind fun v4 => match v4 with
 | .inl v5 => ((s_l1In x0.1 (1 : Int) (3 : Int)).bind fun v7 => cond v7
 (some (decide ((x0.2.length : Int) ≤ (8 : Int))))
 (some false))
 | .inr v6 => (some v6)
noncomputable def e_s_IsRegion : CallE := ⟨36, [.d false (.prod (.int .i64) (.list (.prod (.list (.int .i64)) (.int .i64))))], [.l (.d false .bool)], fun x => s_IsRegion x⟩
noncomputable def c_s_IsRegion : Ctx := ⟨Tryz.prog, TT, [e_s_IsHalf, e_s_l1In], [⟨2, [(3, .l (.d false (.int .i64)))], some (0, []), some [(2, .l (.d false .bool))], false, none⟩], [⟨4, [], [], [], 0⟩], [], [], []⟩
theorem k_s_IsRegion (x : PMs.den e_s_IsRegion.ps) : funK c_s_IsRegion Tryz.f36 e_s_IsRegion.ps e_s_IsRegion.rs x = e_s_IsRegion.F x := by kernel_rfl
theorem o_s_IsRegion {D : Prop} : FnOk Tryz.prog e_s_IsRegion.f ∧ Ctr D Tryz.prog e_s_IsRegion := mkCtr (C := c_s_IsRegion) m_ (⟨o_s_IsHalf, o_s_l1In, trivial⟩) Tryz.func36 (by kernel_rfl) k_s_IsRegion
/-! loop.example/g00959/spec.l5All -/
noncomputable def s_l5All_s10 (x2 : Int) (v1 : List (List Int) × Int) (v2 : List (List Int) × Int) (v3 : List (List Int) × Int) : Option ((List (List Int) × Int) ⊕ (List (List Int))) :=
 cond (decide (v3.2 ≤ x2))
 ((idx v1.1 v2.2).bind fun v4 => (appD 8 ([] : List Int) v4).bind fun v5 => (appD 8 v5 ([v3.2] : List Int)).bind fun v6 => (appD 24 v3.1 ([v6] : List (List Int))).bind fun v7 => some (.inl (v7, (IntKind.i64.wrap (v3.2 + (1 : Int))))))
 (some (.inr v3.1))
noncomputable def s_l5All_s7 (x1 : Int) (x2 : Int) (v1 : List (List Int) × Int) (v2 : List (List Int) × Int) : Option ((List (List Int) × Int) ⊕ (List (List Int))) :=
 cond (decide (v2.2 < (v1.1.length : Int)))
 ((iter (s_l5All_s10 x2 v1 v2) (v2.1, x1)).bind fun v8 => some (.inl (v8, (IntKind.i64.wrap (v2.2 + (1 : Int))))))
 (some (.inr v2.1))
noncomputable def s_l5All_s3 (x0 : Int) (x1 : Int) (x2 : Int) (v1 : List (List Int) × Int) : Option ((List (List Int) × Int) ⊕ (List (List Int))) :=
 cond (decide (v1.2 < x0))
 ((iter (s_l5All_s7 x1 x2 v1) (([] : List (List Int)), (0 : Int))).bind fun v9 => some (.inl (v9, (IntKind.i64.wrap (v1.2 + (1 : Int))))))
 (some (.inr v1.1))
noncomputable def s_l5All (x0 : Int) (x1 : Int) (x2 : Int) : Option (List (List Int)) :=
(iter (s_l5All_s3 x0 x1 x2) (([([] : List Int)] : List (List Int)), (0 : Int))).bind fun v10 => some v10
noncomputable def e_s_l5All : CallE := ⟨84, [.d false (.int .i64), .d false (.int .i64), .d false (.int .i64)], [.l (.o true 36 (.list (.int .i64)))], fun x => s_l5All x.1 x.2.1 x.2.2⟩
noncomputable def c_s_l5All : Ctx := ⟨Tryz.prog, TT, [], [⟨3, [(7, .l (.o true 36 (.list (.int .i64)))), (8, .l (.d false (.int .i64)))], some (0, [(7, .l (.o true 36 (.list (.int .i64))))]), none, false, none⟩, ⟨7, [(9, .l (.o true 36 (.list (.int .i64)))), (10, .l (.d false (.int .i64)))], some (2, [(9, .l (.o true 36 (.list (.int .i64))))]), none, false, none⟩, ⟨10, [(9, .l (.o true 36 (.list (.int .i64)))), (11, .l (.d false (.int .i64)))], some (4, [(9, .l (.o true 36 (.list (.int .i64))))]), none, false, none⟩], [], [], [], []⟩
theorem k_s_l5All (x : PMs.den e_s_l5All.ps) : funK c_s_l5All Tryz.f84 e_s_l5All.ps e_s_l5All.rs x = e_s_l5All.F x := by kernel_rfl
theorem o_s_l5All {D : Prop} : FnOk Tryz.prog e_s_l5All.f ∧ Ctr D Tryz.prog e_s_l5All := mkCtr (C := c_s_l5All) m_ (trivial) Tryz.func84 (by kernel_rfl) k_s_l5All
/-! loop.example/g00959/spec.l2Dot -/
noncomputable def s_l2Dot_s3 (x0 : List Int) (x1 : List Int) (v1 : Int × Int) : Option ((Int × Int) ⊕ (Int)) :=
 cond (decide (v1.2 < (x0.length : Int)))
 (cond (decide (v1.2 < (x1.length : Int)))
 ((idx x0 v1.2).bind fun v2 => (idx x1 v1.2).bind fun v3 => some (.inl ((IntKind.i64.wrap (v1.1 + (IntKind.i64.wrap (v2 * v3)))), (IntKind.i64.wrap (v1.2 + (1 : Int))))))
 (some (.inr v1.1)))
 (some (.inr v1.1))
noncomputable def s_l2Dot (x0 : List Int) (x1 : List Int) : Option (Int) :=
(iter (s_l2Dot_s3 x0 x1) ((0 : Int), (0 : Int))).bind fun v4 => some v4
noncomputable def e_s_l2Dot : CallE := ⟨48, [.d false (.list (.int .i64)), .d false (.list (.int .i64))], [.l (.d false (.int .i64))], fun x => s_l2Dot x.1 x.2⟩
noncomputable def c_s_l2Dot : Ctx := ⟨Tryz.prog, TT, [], [⟨3, [(5, .l (.d false (.int .i64))), (6, .l (.d false (.int .i64)))], some (0, [(5, .l (.d false (.int .i64)))]), none, false, none⟩], [⟨5, [], [], [], 0⟩], [], [], []⟩
theorem k_s_l2Dot (x : PMs.den e_s_l2Dot.ps) : funK c_s_l2Dot Tryz.f48 e_s_l2Dot.ps e_s_l2Dot.rs x = e_s_l2Dot.F x := by kernel_rfl
theorem o_s_l2Dot {D : Prop} : FnOk Tryz.prog e_s_l2Dot.f ∧ Ctr D Tryz.prog e_s_l2Dot := mkCtr (C := c_s_l2Dot) m_ (trivial) Tryz.func48 (by kernel_rfl) k_s_l2Dot
/-! loop.example/g00959/spec.l4Has -/
noncomputable def s_l4Has_s2 (x0 : Int × (List ((List Int) × Int))) (x1 : List Int) (v1 : Int) : Option ((Int) ⊕ ((Unit) ⊕ (Bool))) :=
 cond (decide (v1 < (x0.2.length : Int)))
 ((idx x0.2 v1).bind fun v2 => (s_l2Dot v2.1 x1).bind fun v3 => (idx x0.2 v1).bind fun v4 => cond (decide (v3 > v4.2))
 (some (.inr (.inr false)))
 (some (.inl (IntKind.i64.wrap (v1 + (1 : Int))))))
 (some (.inr (.inl ())))
noncomputable def s_l4Has (x0 : Int × (List ((List Int) × Int))) (x1 : List Int) : Option (Bool) :=
(iter (s_l4Has_s2 x0 x1) (0 : Int)).bind fun v5 => match v5 with
 | .inl v6 => (some true)
 | .inr v7 => (some v7)
noncomputable def e_s_l4Has : CallE := ⟨85, [.d false (.prod (.int .i64) (.list (.prod (.list (.int .i64)) (.int .i64)))), .d false (.list (.int .i64))], [.l (.d false .bool)], fun x => s_l4Has x.1 x.2⟩
noncomputable def c_s_l4Has : Ctx := ⟨Tryz.prog, TT, [e_s_l2Dot], [⟨2, [(5, .l (.d false (.int .i64)))], some (0, []), some [(4, .l (.d false .bool))], false, none⟩], [⟨4, [], [], [], 0⟩], [], [], []⟩
theorem k_s_l4Has (x : PMs.den e_s_l4Has.ps) : funK c_s_l4Has Tryz.f85 e_s_l4Has.ps e_s_l4Has.rs x = e_s_l4Has.F x := by kernel_rfl
theorem o_s_l4Has {D : Prop} : FnOk Tryz.prog e_s_l4Has.f ∧ Ctr D Tryz.prog e_s_l4Has := mkCtr (C := c_s_l4Has) m_ (⟨o_s_l2Dot, trivial⟩) Tryz.func85 (by kernel_rfl) k_s_l4Has
/-! loop.example/g00959/spec.PointsIn -/
noncomputable def s_PointsIn_s6 (x0 : Int × (List ((List Int) × Int))) (v2 : List (List Int)) (v3 : List (List Int) × Int) : Option ((List (List Int) × Int) ⊕ (List (List Int))) :=
 cond (decide (v3.2 < (v2.length : Int)))
 ((idx v2 v3.2).bind fun v4 => (s_l4Has (x0.1, x0.2) v4).bind fun v5 => cond v5
 ((idx v2 v3.2).bind fun v6 => (appD 24 v3.1 ([v6] : List (List Int))).bind fun v7 => some (.inl (v7, (IntKind.i64.wrap (v3.2 + (1 : Int))))))
 (some (.inl (v3.1, (IntKind.i64.wrap (v3.2 + (1 : Int)))))))
 (some (.inr v3.1))
noncomputable def s_PointsIn (x0 : Int × (List ((List Int) × Int))) : Option (List (List Int)) :=
(s_IsRegion (x0.1, x0.2)).bind fun v1 => cond (!v1)
 (some ([] : List (List Int)))
 ((s_l5All x0.1 (-6 : Int) (6 : Int)).bind fun v2 => (iter (s_PointsIn_s6 x0 v2) (([] : List (List Int)), (0 : Int))).bind fun v8 => some v8)
noncomputable def e_s_PointsIn : CallE := ⟨38, [.d false (.prod (.int .i64) (.list (.prod (.list (.int .i64)) (.int .i64))))], [.l (.o false 36 (.list (.int .i64)))], fun x => s_PointsIn x⟩
noncomputable def c_s_PointsIn : Ctx := ⟨Tryz.prog, TT, [e_s_IsRegion, e_s_l5All, e_s_l4Has], [⟨6, [(3, .l (.o false 36 (.list (.int .i64)))), (5, .l (.d false (.int .i64)))], some (0, [(3, .l (.o false 36 (.list (.int .i64))))]), none, false, none⟩], [⟨8, [], [], [], 0⟩], [], [], []⟩
theorem k_s_PointsIn (x : PMs.den e_s_PointsIn.ps) : funK c_s_PointsIn Tryz.f38 e_s_PointsIn.ps e_s_PointsIn.rs x = e_s_PointsIn.F x := by kernel_rfl
theorem o_s_PointsIn {D : Prop} : FnOk Tryz.prog e_s_PointsIn.f ∧ Ctr D Tryz.prog e_s_PointsIn := mkCtr (C := c_s_PointsIn) m_ (⟨o_s_IsRegion, o_s_l5All, o_s_l4Has, trivial⟩) Tryz.func38 (by kernel_rfl) k_s_PointsIn
/-! loop.example/g00959/spec.l7Flat -/
noncomputable def s_l7Flat_s2 (x0 : List (List Int)) (v1 : Int) : Option ((Int) ⊕ ((Unit) ⊕ (Bool))) :=
 cond (decide (v1 < (x0.length : Int)))
 ((idx x0 v1).bind fun v2 => cond ((v2.length : Int) != (2 : Int))
 (some (.inr (.inr false)))
 ((idx x0 v1).bind fun v3 => (s_l2Small v3 (50 : Int)).bind fun v4 => cond (!v4)
 (some (.inr (.inr false)))
 (some (.inl (IntKind.i64.wrap (v1 + (1 : Int)))))))
 (some (.inr (.inl ())))
noncomputable def s_l7Flat (x0 : List (List Int)) : Option (Bool) :=
(iter (s_l7Flat_s2 x0) (0 : Int)).bind fun v5 => match v5 with
 | .inl v6 => (some true)
 | .inr v7 => (some v7)
noncomputable def e_s_l7Flat : CallE := ⟨81, [.d false (.list (.list (.int .i64)))], [.l (.d false .bool)], fun x => s_l7Flat x⟩
noncomputable def c_s_l7Flat : Ctx := ⟨Tryz.prog, TT, [e_s_l2Small], [⟨2, [(3, .l (.d false (.int .i64)))], some (0, []), some [(2, .l (.d false .bool))], false, none⟩], [], [], [], []⟩
theorem k_s_l7Flat (x : PMs.den e_s_l7Flat.ps) : funK c_s_l7Flat Tryz.f81 e_s_l7Flat.ps e_s_l7Flat.rs x = e_s_l7Flat.F x := by kernel_rfl
theorem o_s_l7Flat {D : Prop} : FnOk Tryz.prog e_s_l7Flat.f ∧ Ctr D Tryz.prog e_s_l7Flat := mkCtr (C := c_s_l7Flat) m_ (⟨o_s_l2Small, trivial⟩) Tryz.func81 (by kernel_rfl) k_s_l7Flat
/-! loop.example/g00959/spec.l2Before -/
noncomputable def s_l2Before_s2 (x0 : List Int) (x1 : List Int) (v1 : Int) : Option ((Int) ⊕ ((Unit) ⊕ (Bool))) :=
 cond (decide (v1 < (x0.length : Int)))
 (cond (decide (v1 < (x1.length : Int)))
 ((idx x0 v1).bind fun v2 => (idx x1 v1).bind fun v3 => cond (v2 != v3)
 ((idx x0 v1).bind fun v4 => (idx x1 v1).bind fun v5 => some (.inr (.inr (decide (v4 < v5)))))
 (some (.inl (IntKind.i64.wrap (v1 + (1 : Int))))))
 (some (.inr (.inl ()))))
 (some (.inr (.inl ())))
noncomputable def s_l2Before (x0 : List Int) (x1 : List Int) : Option (Bool) :=
(iter (s_l2Before_s2 x0 x1) (0 : Int)).bind fun v6 => match v6 with
 | .inl v7 => (some false)
 | .inr v8 => (some v8)
noncomputable def e_s_l2Before : CallE := ⟨93, [.d false (.list (.int .i64)), .d false (.list (.int .i64))], [.l (.d false .bool)], fun x => s_l2Before x.1 x.2⟩
noncomputable def c_s_l2Before : Ctx := ⟨Tryz.prog, TT, [], [⟨2, [(5, .l (.d false (.int .i64)))], some (0, []), some [(4, .l (.d false .bool))], false, none⟩], [⟨4, [], [], [], 0⟩, ⟨5, [], [], [], 0⟩], [], [], []⟩
theorem k_s_l2Before (x : PMs.den e_s_l2Before.ps) : funK c_s_l2Before Tryz.f93 e_s_l2Before.ps e_s_l2Before.rs x = e_s_l2Before.F x := by kernel_rfl
theorem o_s_l2Before {D : Prop} : FnOk Tryz.prog e_s_l2Before.f ∧ Ctr D Tryz.prog e_s_l2Before := mkCtr (C := c_s_l2Before) m_ (trivial) Tryz.func93 (by kernel_rfl) k_s_l2Before
/-! loop.example/g00959/spec.l2Same -/
noncomputable def s_l2Same_s4 (x0 : List Int) (x1 : List Int) (v1 : Int) : Option ((Int) ⊕ ((Unit) ⊕ (Bool))) :=
 cond (decide (v1 < (x0.length : Int)))
 ((idx x0 v1).bind fun v2 => (idx x1 v1).bind fun v3 => cond (v2 != v3)
 (some (.inr (.inr false)))
 (some (.inl (IntKind.i64.wrap (v1 + (1 : Int))))))
 (some (.inr (.inl ())))
noncomputable def s_l2Same (x0 : List Int) (x1 : List Int) : Option (Bool) :=
 cond ((x0.length : Int) != (x1.length : Int))
 (some false)
 ((iter (s_l2Same_s4 x0 x1) (0 : Int)).bind fun v4 => match v4 with
 | .inl v5 => (some true)
 | .inr v6 => (some v6))
noncomputable def e_s_l2Same : CallE := ⟨63, [.d false (.list (.int .i64)), .d false (.list (.int .i64))], [.l (.d false .bool)], fun x => s_l2Same x.1 x.2⟩
noncomputable def c_s_l2Same : Ctx := ⟨Tryz.prog, TT, [], [⟨4, [(5, .l (.d false (.int .i64)))], some (0, []), some [(4, .l (.d false .bool))], false, none⟩], [⟨6, [], [], [], 0⟩], [], [], []⟩
theorem k_s_l2Same (x : PMs.den e_s_l2Same.ps) : funK c_s_l2Same Tryz.f63 e_s_l2Same.ps e_s_l2Same.rs x = e_s_l2Same.F x := by kernel_rfl
theorem o_s_l2Same {D : Prop} : FnOk Tryz.prog e_s_l2Same.f ∧ Ctr D Tryz.prog e_s_l2Same := mkCtr (C := c_s_l2Same) m_ (trivial) Tryz.func63 (by kernel_rfl) k_s_l2Same
/-! loop.example/g00959/spec.l2Put -/
noncomputable def s_l2Put_s2 (x1 : List Int) (v1 : List (List Int) × Int) : Option ((List (List Int) × Int) ⊕ (List (List Int) × Int)) :=
 cond (decide (v1.2 > (0 : Int)))
 ((inIdx v1.1.length (IntKind.i64.wrap (v1.2 - (1 : Int)))).bind fun _ => (idx v1.1 ((((IntKind.i64.wrap (v1.2 - (1 : Int)))).toNat : Nat) : Int)).bind fun v2 => (s_l2Before x1 v2).bind fun v3 => cond v3
 (some (.inl (v1.1, (IntKind.i64.wrap (v1.2 - (1 : Int))))))
 (some (.inr (v1.1, v1.2))))
 (some (.inr (v1.1, v1.2)))
noncomputable def s_l2Put (x0 : List (List Int)) (x1 : List Int) : Option (List (List Int)) :=
(iter (s_l2Put_s2 x1) (x0, (x0.length : Int))).bind fun v4 => cond (decide (v4.2 > (0 : Int)))
 ((inIdx v4.1.length (IntKind.i64.wrap (v4.2 - (1 : Int)))).bind fun _ => (idx v4.1 ((((IntKind.i64.wrap (v4.2 - (1 : Int)))).toNat : Nat) : Int)).bind fun v5 => (s_l2Same v5 x1).bind fun v6 => cond v6
 (some v4.1)
 ((subl v4.1 v4.2 (v4.1.length : Int)).bind fun v7 => (subl v4.1 ((v4.2).toNat : Int) (((v4.1.length : Int)).toNat : Int)).bind fun v8 => (appD 24 ([] : List (List Int)) v8).bind fun v9 => (subl v4.1 0 v4.2).bind fun v10 => (appD 8 ([] : List Int) x1).bind fun v11 => (appD 24 v10 ([v11] : List (List Int))).bind fun v12 => (appD 24 v12 v9).bind fun v13 => some v13))
 ((subl v4.1 v4.2 (v4.1.length : Int)).bind fun v14 => (subl v4.1 ((v4.2).toNat : Int) (((v4.1.length : Int)).toNat : Int)).bind fun v15 => (appD 24 ([] : List (List Int)) v15).bind fun v16 => (subl v4.1 0 v4.2).bind fun v17 => (appD 8 ([] : List Int) x1).bind fun v18 => (appD 24 v17 ([v18] : List (List Int))).bind fun v19 => (appD 24 v19 v16).bind fun v20 => some v20)
noncomputable def e_s_l2Put : CallE := ⟨57, [.mv false 36 (.list (.int .i64)), .d false (.list (.int .i64))], [.l (.o false 36 (.list (.int .i64)))], fun x => s_l2Put x.1 x.2⟩
noncomputable def c_s_l2Put : Ctx := ⟨Tryz.prog, TT, [e_s_l2Before, e_s_l2Same], [⟨2, [(0, .l (.o false 36 (.list (.int .i64)))), (5, .l (.d false (.int .i64)))], some (0, [(0, .l (.o false 36 (.list (.int .i64)))), (5, .l (.d false (.int .i64)))]), none, false, none⟩], [⟨7, [], [], [], 0⟩], [], [35], [(7, [0, 1, 2, 4, 8, 3, 5, 6, 7, 9, 10])]⟩
theorem k_s_l2Put (x : PMs.den e_s_l2Put.ps) : funK c_s_l2Put Tryz.f57 e_s_l2Put.ps e_s_l2Put.rs x = e_s_l2Put.F x := by kernel_rfl
theorem o_s_l2Put {D : Prop} : FnOk Tryz.prog e_s_l2Put.f ∧ Ctr D Tryz.prog e_s_l2Put := mkCtr (C := c_s_l2Put) m_ (⟨o_s_l2Before, o_s_l2Same, trivial⟩) Tryz.func57 (by kernel_rfl) k_s_l2Put
/-! loop.example/g00959/spec.l2Less -/
noncomputable def s_l2Less_s3 (x0 : List Int) (x1 : List Int) (v1 : List Int × Int) : Option ((List Int × Int) ⊕ (List Int)) :=
 cond (decide (v1.2 < (x0.length : Int)))
 ((idx x0 v1.2).bind fun v2 => (idx x1 v1.2).bind fun v3 => (appD 8 v1.1 ([(IntKind.i64.wrap (v2 - v3))] : List Int)).bind fun v4 => some (.inl (v4, (IntKind.i64.wrap (v1.2 + (1 : Int))))))
 (some (.inr v1.1))
noncomputable def s_l2Less (x0 : List Int) (x1 : List Int) : Option (List Int) :=
(iter (s_l2Less_s3 x0 x1) (([] : List Int), (0 : Int))).bind fun v5 => some v5
noncomputable def e_s_l2Less : CallE := ⟨47, [.d false (.list (.int .i64)), .d false (.list (.int .i64))], [.l (.o true 3 (.int .i64))], fun x => s_l2Less x.1 x.2⟩
noncomputable def c_s_l2Less : Ctx := ⟨Tryz.prog, TT, [], [⟨3, [(5, .l (.o true 3 (.int .i64))), (6, .l (.d false (.int .i64)))], some (0, [(5, .l (.o true 3 (.int .i64)))]), none, false, none⟩], [⟨5, [], [], [], 0⟩], [], [], []⟩
theorem k_s_l2Less (x : PMs.den e_s_l2Less.ps) : funK c_s_l2Less Tryz.f47 e_s_l2Less.ps e_s_l2Less.rs x = e_s_l2Less.F x := by kernel_rfl
theorem o_s_l2Less {D : Prop} : FnOk Tryz.prog e_s_l2Less.f ∧ Ctr D Tryz.prog e_s_l2Less := mkCtr (C := c_s_l2Less) m_ (trivial) Tryz.func47 (by kernel_rfl) k_s_l2Less
/-! loop.example/g00959/spec.l7Cross -/
noncomputable def s_l7Cross (x0 : List Int) (x1 : List Int) : Option (Int) :=
(idx x0 (0 : Int)).bind fun v1 => (idx x1 (1 : Int)).bind fun v2 => (idx x0 (1 : Int)).bind fun v3 => (idx x1 (0 : Int)).bind fun v4 => some (IntKind.i64.wrap ((IntKind.i64.wrap (v1 * v2)) - (IntKind.i64.wrap (v3 * v4))))
noncomputable def e_s_l7Cross : CallE := ⟨136, [.d false (.list (.int .i64)), .d false (.list (.int .i64))], [.l (.d false (.int .i64))], fun x => s_l7Cross x.1 x.2⟩
noncomputable def c_s_l7Cross : Ctx := ⟨Tryz.prog, TT, [], [], [⟨1, [], [], [], 0⟩], [], [], []⟩
theorem k_s_l7Cross (x : PMs.den e_s_l7Cross.ps) : funK c_s_l7Cross Tryz.f136 e_s_l7Cross.ps e_s_l7Cross.rs x = e_s_l7Cross.F x := by kernel_rfl
theorem o_s_l7Cross {D : Prop} : FnOk Tryz.prog e_s_l7Cross.f ∧ Ctr D Tryz.prog e_s_l7Cross := mkCtr (C := c_s_l7Cross) m_ (trivial) Tryz.func136 (by kernel_rfl) k_s_l7Cross
/-! loop.example/g00959/spec.l7Turn -/
noncomputable def s_l7Turn (x0 : List Int) (x1 : List Int) (x2 : List Int) : Option (Int) :=
(s_l2Less x1 x0).bind fun v1 => (s_l2Less x2 x1).bind fun v2 => (s_l7Cross v1 v2).bind fun v3 => some v3
noncomputable def e_s_l7Turn : CallE := ⟨113, [.d false (.list (.int .i64)), .d false (.list (.int .i64)), .d false (.list (.int .i64))], [.l (.d false (.int .i64))], fun x => s_l7Turn x.1 x.2.1 x.2.2⟩
noncomputable def c_s_l7Turn : Ctx := ⟨Tryz.prog, TT, [e_s_l2Less, e_s_l7Cross], [], [], [], [], []⟩
theorem k_s_l7Turn (x : PMs.den e_s_l7Turn.ps) : funK c_s_l7Turn Tryz.f113 e_s_l7Turn.ps e_s_l7Turn.rs x = e_s_l7Turn.F x := by kernel_rfl
theorem o_s_l7Turn {D : Prop} : FnOk Tryz.prog e_s_l7Turn.f ∧ Ctr D Tryz.prog e_s_l7Turn := mkCtr (C := c_s_l7Turn) m_ (⟨o_s_l2Less, o_s_l7Cross, trivial⟩) Tryz.func113 (by kernel_rfl) k_s_l7Turn
/-! loop.example/g00959/spec.l7Hull -/
noncomputable def s_l7Hull_s12 (v1 : List (List Int) × Int) (v4 : List Int) (v5 : List (List Int)) : Option ((List (List Int)) ⊕ (List (List Int))) :=
 cond (decide ((v5.length : Int) ≥ (IntKind.i64.wrap ((v1.1.length : Int) + (2 : Int)))))
 ((inIdx v5.length (IntKind.i64.wrap ((v5.length : Int) - (2 : Int)))).bind fun _ => (idx v5 ((((IntKind.i64.wrap ((v5.length : Int) - (2 : Int)))).toNat : Nat) : Int)).bind fun v6 => (inIdx v5.length (IntKind.i64.wrap ((v5.length : Int) - (1 : Int)))).bind fun _ => (idx v5 ((((IntKind.i64.wrap ((v5.length : Int) - (1 : Int)))).toNat : Nat) : Int)).bind fun v7 => (s_l7Turn v6 v7 v4).bind fun v8 => cond (decide (v8 ≤ (0 : Int)))
 ((subl v5 0 (IntKind.i64.wrap ((v5.length : Int) - (1 : Int)))).bind fun v9 => some (.inl v9))
 (some (.inr v5)))
 (some (.inr v5))
noncomputable def s_l7Hull_s12b16 (v1 : List (List Int) × Int) (v3 : List Int) (v12 : List (List Int)) : Option ((List (List Int)) ⊕ (List (List Int))) :=
 cond (decide ((v12.length : Int) ≥ (IntKind.i64.wrap ((v1.1.length : Int) + (2 : Int)))))
 ((inIdx v12.length (IntKind.i64.wrap ((v12.length : Int) - (2 : Int)))).bind fun _ => (idx v12 ((((IntKind.i64.wrap ((v12.length : Int) - (2 : Int)))).toNat : Nat) : Int)).bind fun v13 => (inIdx v12.length (IntKind.i64.wrap ((v12.length : Int) - (1 : Int)))).bind fun _ => (idx v12 ((((IntKind.i64.wrap ((v12.length : Int) - (1 : Int)))).toNat : Nat) : Int)).bind fun v14 => (s_l7Turn v13 v14 v3).bind fun v15 => cond (decide (v15 ≤ (0 : Int)))
 ((subl v12 0 (IntKind.i64.wrap ((v12.length : Int) - (1 : Int)))).bind fun v16 => some (.inl v16))
 (some (.inr v12)))
 (some (.inr v12))
noncomputable def s_l7Hull_s7 (x0 : List (List Int)) (v1 : List (List Int) × Int) (v2 : List (List Int) × Int) : Option ((List (List Int) × Int) ⊕ (List (List Int))) :=
 cond (decide (v2.2 < (x0.length : Int)))
 ((idx x0 v2.2).bind fun v3 => cond (v1.2 == (1 : Int))
 ((idx x0 (IntKind.i64.wrap ((IntKind.i64.wrap ((x0.length : Int) - (1 : Int))) - v2.2))).bind fun v4 => (iter (s_l7Hull_s12 v1 v4) v2.1).bind fun v10 => (appD 24 v10 ([v4] : List (List Int))).bind fun v11 => some (.inl (v11, (IntKind.i64.wrap (v2.2 + (1 : Int))))))
 ((iter (s_l7Hull_s12b16 v1 v3) v2.1).bind fun v17 => (appD 24 v17 ([v3] : List (List Int))).bind fun v18 => some (.inl (v18, (IntKind.i64.wrap (v2.2 + (1 : Int)))))))
 (some (.inr v2.1))
noncomputable def s_l7Hull_s3 (x0 : List (List Int)) (v1 : List (List Int) × Int) : Option ((List (List Int) × Int) ⊕ (List (List Int))) :=
 cond (decide (v1.2 < (2 : Int)))
 ((iter (s_l7Hull_s7 x0 v1) (v1.1, (0 : Int))).bind fun v19 => (subl v19 0 (IntKind.i64.wrap ((v19.length : Int) - (1 : Int)))).bind fun v20 => some (.inl (v20, (IntKind.i64.wrap (v1.2 + (1 : Int))))))
 (some (.inr v1.1))
noncomputable def s_l7Hull (x0 : List (List Int)) : Option (List (List Int)) :=
(iter (s_l7Hull_s3 x0) (([] : List (List Int)), (0 : Int))).bind fun v21 => some v21
noncomputable def e_s_l7Hull : CallE := ⟨82, [.d false (.list (.list (.int .i64)))], [.l (.o false 36 (.list (.int .i64)))], fun x => s_l7Hull x⟩
noncomputable def c_s_l7Hull : Ctx := ⟨Tryz.prog, TT, [e_s_l7Turn], [⟨3, [(3, .l (.o false 36 (.list (.int .i64)))), (4, .l (.d false (.int .i64)))], some (0, [(3, .l (.o false 36 (.list (.int .i64))))]), none, false, none⟩, ⟨7, [(3, .l (.o false 36 (.list (.int .i64)))), (6, .l (.d false (.int .i64)))], some (2, [(3, .l (.o false 36 (.list (.int .i64))))]), none, false, none⟩, ⟨12, [(3, .l (.o false 36 (.list (.int .i64))))], some (4, [(3, .l (.o false 36 (.list (.int .i64))))]), none, false, none⟩], [⟨12, [], [], [], 0⟩], [], [], []⟩
theorem k_s_l7Hull (x : PMs.den e_s_l7Hull.ps) : funK c_s_l7Hull Tryz.f82 e_s_l7Hull.ps e_s_l7Hull.rs x = e_s_l7Hull.F x := by kernel_rfl
theorem o_s_l7Hull {D : Prop} : FnOk Tryz.prog e_s_l7Hull.f ∧ Ctr D Tryz.prog e_s_l7Hull := mkCtr (C := c_s_l7Hull) m_ (⟨o_s_l7Turn, trivial⟩) Tryz.func82 (by kernel_rfl) k_s_l7Hull
/-! loop.example/g00959/spec.l7Copy -/
noncomputable def s_l7Copy_s3 (x0 : List (List Int)) (v1 : List (List Int) × Int) : Option ((List (List Int) × Int) ⊕ (List (List Int))) :=
 cond (decide (v1.2 < (x0.length : Int)))
 ((idx x0 v1.2).bind fun v2 => (appD 8 ([] : List Int) v2).bind fun v3 => (appD 24 v1.1 ([v3] : List (List Int))).bind fun v4 => some (.inl (v4, (IntKind.i64.wrap (v1.2 + (1 : Int))))))
 (some (.inr v1.1))
noncomputable def s_l7Copy (x0 : List (List Int)) : Option (List (List Int)) :=
(iter (s_l7Copy_s3 x0) (([] : List (List Int)), (0 : Int))).bind fun v5 => some v5
noncomputable def e_s_l7Copy : CallE := ⟨83, [.d false (.list (.list (.int .i64)))], [.l (.o true 36 (.list (.int .i64)))], fun x => s_l7Copy x⟩
noncomputable def c_s_l7Copy : Ctx := ⟨Tryz.prog, TT, [], [⟨3, [(3, .l (.o true 36 (.list (.int .i64)))), (4, .l (.d false (.int .i64)))], some (0, [(3, .l (.o true 36 (.list (.int .i64))))]), none, false, none⟩], [], [], [], []⟩
theorem k_s_l7Copy (x : PMs.den e_s_l7Copy.ps) : funK c_s_l7Copy Tryz.f83 e_s_l7Copy.ps e_s_l7Copy.rs x = e_s_l7Copy.F x := by kernel_rfl
theorem o_s_l7Copy {D : Prop} : FnOk Tryz.prog e_s_l7Copy.f ∧ Ctr D Tryz.prog e_s_l7Copy := mkCtr (C := c_s_l7Copy) m_ (trivial) Tryz.func83 (by kernel_rfl) k_s_l7Copy
/-! loop.example/g00959/spec.HullOf -/
noncomputable def s_HullOf_s5 (x0 : List (List Int)) (v2 : List (List Int) × Int) : Option ((List (List Int) × Int) ⊕ (List (List Int))) :=
 cond (decide (v2.2 < (x0.length : Int)))
 ((idx x0 v2.2).bind fun v3 => (s_l2Put v2.1 v3).bind fun v4 => some (.inl (v4, (IntKind.i64.wrap (v2.2 + (1 : Int))))))
 (some (.inr v2.1))
noncomputable def s_HullOf (x0 : List (List Int)) : Option (List (List Int) × Bool) :=
 cond (decide ((x0.length : Int) > (200 : Int)))
 (some (([] : List (List Int)), false))
 ((s_l7Flat x0).bind fun v1 => cond (!v1)
 (some (([] : List (List Int)), false))
 ((iter (s_HullOf_s5 x0) (([] : List (List Int)), (0 : Int))).bind fun v5 => cond (decide ((v5.length : Int) < (3 : Int)))
 (some (([] : List (List Int)), false))
 ((s_l7Hull v5).bind fun v6 => cond (decide ((v6.length : Int) < (3 : Int)))
 (some (([] : List (List Int)), false))
 (cond (decide ((v6.length : Int) > (12 : Int)))
 (some (([] : List (List Int)), false))
 ((s_l7Copy v6).bind fun v7 => some (v7, true))))))
noncomputable def e_s_HullOf : CallE := ⟨37, [.d false (.list (.list (.int .i64)))], [.l (.o true 36 (.list (.int .i64))), .l (.d false .bool)], fun x => s_HullOf x⟩
noncomputable def c_s_HullOf : Ctx := ⟨Tryz.prog, TT, [e_s_l7Flat, e_s_l2Put, e_s_l7Hull, e_s_l7Copy], [⟨5, [(4, .l (.o false 36 (.list (.int .i64)))), (5, .l (.d false (.int .i64)))], some (0, [(4, .l (.o false 36 (.list (.int .i64))))]), none, false, none⟩], [], [], [], []⟩
theorem k_s_HullOf (x : PMs.den e_s_HullOf.ps) : funK c_s_HullOf Tryz.f37 e_s_HullOf.ps e_s_HullOf.rs x = e_s_HullOf.F x := by kernel_rfl
theorem o_s_HullOf {D : Prop} : FnOk Tryz.prog e_s_HullOf.f ∧ Ctr D Tryz.prog e_s_HullOf := mkCtr (C := c_s_HullOf) m_ (⟨o_s_l7Flat, o_s_l2Put, o_s_l7Hull, o_s_l7Copy, trivial⟩) Tryz.func37 (by kernel_rfl) k_s_HullOf
/-! loop.example/g00959/spec.WholeHull -/
noncomputable def s_WholeHull (x0 : Int × (List ((List Int) × Int))) : Option (List (List Int) × Bool) :=
(s_IsRegion (x0.1, x0.2)).bind fun v1 => cond (!v1)
 (some (([] : List (List Int)), false))
 (cond (x0.1 != (2 : Int))
 (some (([] : List (List Int)), false))
 ((s_PointsIn (x0.1, x0.2)).bind fun v2 => (s_HullOf v2).bind fun v3 => cond (!v3.2)
 (some (([] : List (List Int)), false))
 (some (v3.1, true))))
noncomputable def e_s_WholeHull : CallE := ⟨8, [.d false (.prod (.int .i64) (.list (.prod (.list (.int .i64)) (.int .i64))))], [.l (.o true 36 (.list (.int .i64))), .l (.d false .bool)], fun x => s_WholeHull x⟩
noncomputable def c_s_WholeHull : Ctx := ⟨Tryz.prog, TT, [e_s_IsRegion, e_s_PointsIn, e_s_HullOf], [], [], [], [], []⟩
theorem k_s_WholeHull (x : PMs.den e_s_WholeHull.ps) : funK c_s_WholeHull Tryz.f8 e_s_WholeHull.ps e_s_WholeHull.rs x = e_s_WholeHull.F x := by kernel_rfl
theorem o_s_WholeHull {D : Prop} : FnOk Tryz.prog e_s_WholeHull.f ∧ Ctr D Tryz.prog e_s_WholeHull := mkCtr (C := c_s_WholeHull) m_ (⟨o_s_IsRegion, o_s_PointsIn, o_s_HullOf, trivial⟩) Tryz.func8 (by kernel_rfl) k_s_WholeHull
/-! loop.example/g00959/spec.l1Bit -/
noncomputable def s_l1Bit (x0 : Bool) : Option (Int) :=
 cond x0
 (some (1 : Int))
 (some (0 : Int))
noncomputable def e_s_l1Bit : CallE := ⟨53, [.d false .bool], [.l (.d false (.int .i64))], fun x => s_l1Bit x⟩
noncomputable def c_s_l1Bit : Ctx := ⟨Tryz.prog, TT, [], [], [], [], [], []⟩
theorem k_s_l1Bit (x : PMs.den e_s_l1Bit.ps) : funK c_s_l1Bit Tryz.f53 e_s_l1Bit.ps e_s_l1Bit.rs x = e_s_l1Bit.F x := by kernel_rfl
theorem o_s_l1Bit {D : Prop} : FnOk Tryz.prog e_s_l1Bit.f ∧ Ctr D Tryz.prog e_s_l1Bit := mkCtr (C := c_s_l1Bit) m_ (trivial) Tryz.func53 (by kernel_rfl) k_s_l1Bit
/-! loop.example/g00959/impl.minor -/
noncomputable def i_minor_s3 (x0 : List (List Int)) (x1 : Int) (x2 : Int) (v1 : List (List Int) × Int) : Option ((List (List Int) × Int) ⊕ (List (List Int))) :=
 cond (decide (v1.2 < (x0.length : Int)))
 ((idx x0 v1.2).bind fun v2 => cond (v1.2 != x1)
 ((subl v2 (0 : Int) x2).bind fun v3 => (i_copyInts v3).bind fun v4 => (subl v2 (IntKind.i64.wrap (x2 + (1 : Int))) (v2.length : Int)).bind fun v5 => (appD 8 v4 v5).bind fun v6 => (appD 24 v1.1 ([v6] : List (List Int))).bind fun v7 => some (.inl (v7, (IntKind.i64.wrap (v1.2 + (1 : Int))))))
 (some (.inl (v1.1, (IntKind.i64.wrap (v1.2 + (1 : Int)))))))
 (some (.inr v1.1))
noncomputable def i_minor (x0 : List (List Int)) (x1 : Int) (x2 : Int) : Option (List (List Int)) :=
(iter (i_minor_s3 x0 x1 x2) (([] : List (List Int)), (0 : Int))).bind fun v8 => some v8
noncomputable def e_i_minor : CallE := ⟨117, [.d false (.list (.list (.int .i64))), .d false (.int .i64), .d false (.int .i64)], [.l (.o true 36 (.list (.int .i64)))], fun x => i_minor x.1 x.2.1 x.2.2⟩
noncomputable def c_i_minor : Ctx := ⟨Tryz.prog, TT, [e_i_copyInts], [⟨3, [(7, .l (.o true 36 (.list (.int .i64)))), (12, .l (.d false (.int .i64)))], some (0, [(7, .l (.o true 36 (.list (.int .i64))))]), none, false, none⟩], [⟨6, [], [], [], 0⟩], [], [], []⟩
theorem k_i_minor (x : PMs.den e_i_minor.ps) : funK c_i_minor Tryz.f117 e_i_minor.ps e_i_minor.rs x = e_i_minor.F x := by kernel_rfl
theorem o_i_minor {D : Prop} : FnOk Tryz.prog e_i_minor.f ∧ Ctr D Tryz.prog e_i_minor := mkCtr (C := c_i_minor) m_ (⟨o_i_copyInts, trivial⟩) Tryz.func117 (by kernel_rfl) k_i_minor
/-! loop.example/g00959/impl.det -/
noncomputable def i_det_s5 (rec : (List (List Int)) → Option (Int)) (x0 : List (List Int)) (v1 : List Int) (v2 : Int × Int × Int) : Option ((Int × Int × Int) ⊕ (Int)) :=
 cond (decide (v2.2.2 < (v1.length : Int)))
 ((idx v1 v2.2.2).bind fun v3 => cond (v3 != (0 : Int))
 ((i_minor x0 (0 : Int) v2.2.2).bind fun v4 => (rec v4).bind fun v5 => some (.inl ((IntKind.i64.wrap (v2.1 + (IntKind.i64.wrap ((IntKind.i64.wrap (v2.2.1 * v3)) * v5)))), ((IntKind.i64.wrap (0 - v2.2.1)), (IntKind.i64.wrap (v2.2.2 + (1 : Int)))))))
 (some (.inl (v2.1, ((IntKind.i64.wrap (0 - v2.2.1)), (IntKind.i64.wrap (v2.2.2 + (1 : Int))))))))
 (some (.inr v2.1))
noncomputable def i_detB (rec : (List (List Int)) → Option (Int)) (x0 : List (List Int)) : Option (Int) :=
 cond ((x0.length : Int) == (0 : Int))
 (some (1 : Int))
 ((idx x0 (0 : Int)).bind fun v1 => (iter (i_det_s5 rec x0 v1) ((0 : Int), ((1 : Int), (0 : Int)))).bind fun v6 => some v6)
noncomputable def i_detR : Nat → (List (List Int)) → Option (Int)
  | 0 => fun _ => none
  | n + 1 => i_detB (i_detR n)
noncomputable def i_det (x0 : List (List Int)) : Option (Int) := i_detR 30000 x0
noncomputable def e_i_det : CallE := ⟨95, [.d false (.list (.list (.int .i64)))], [.l (.d false (.int .i64))], fun x => i_det x⟩
noncomputable def r_i_det (rec : (List (List Int)) → Option (Int)) : CallE := ⟨95, [.d false (.list (.list (.int .i64)))], [.l (.d false (.int .i64))], fun x => rec x⟩
noncomputable def c_i_det (rec : (List (List Int)) → Option (Int)) : Ctx := ⟨Tryz.prog, TT, [e_i_minor, r_i_det rec], [⟨5, [(3, .l (.d false (.int .i64))), (4, .l (.d false (.int .i64))), (14, .l (.d false (.int .i64)))], some (0, [(3, .l (.d false (.int .i64)))]), none, false, none⟩], [], [], [], []⟩
theorem k_i_det (rec : (List (List Int)) → Option (Int)) (x : PMs.den (r_i_det rec).ps) : funK (c_i_det rec) Tryz.f95 (r_i_det rec).ps (r_i_det rec).rs x = (r_i_det (i_detB rec)).F x := by kernel_rfl
theorem oB_i_det {D : Prop} (rec : (List (List Int)) → Option (Int)) (h : FnOk Tryz.prog (r_i_det rec).f ∧ Ctr D Tryz.prog (r_i_det rec)) : FnOk Tryz.prog (r_i_det (i_detB rec)).f ∧ Ctr D Tryz.prog (r_i_det (i_detB rec)) := mkCtr (C := c_i_det rec) m_ (⟨o_i_minor, h, trivial⟩) Tryz.func95 (by kernel_rfl) (k_i_det rec)
theorem oA_i_det {D : Prop} : (n : Nat) → FnOk Tryz.prog (r_i_det (i_detR n)).f ∧ Ctr D Tryz.prog (r_i_det (i_detR n))
  | 0 => ⟨⟨Tryz.f95, _, Tryz.func95, by kernel_rfl, rfl⟩, fun x r h => by cases h⟩
  | n + 1 => oB_i_det _ (oA_i_det n)
theorem o_i_det {D : Prop} : FnOk Tryz.prog e_i_det.f ∧ Ctr D Tryz.prog e_i_det := oA_i_det 30000
/-! loop.example/g00959/impl.adjugate -/
noncomputable def i_adjugate_s7 (x0 : List (List Int)) (v1 : List (List Int) × Int) (v3 : List (List Int) × List Int × Int) : Option ((List (List Int) × List Int × Int) ⊕ (List (List Int) × List Int)) :=
 cond (decide (v3.2.2 < (x0.length : Int)))
 ((i_minor x0 v3.2.2 v1.2).bind fun v4 => (i_det v4).bind fun v5 => (inIdx v3.2.1.length v3.2.2).bind fun _ => (inIdx v3.2.1.length (((v3.2.2).toNat : Nat) : Int)).bind fun _ => (remI .i64 (IntKind.i64.wrap (v1.2 + v3.2.2)) (2 : Int)).bind fun v6 => cond (v6 == (1 : Int))
 ((inIdx (v3.2.1.set ((v3.2.2).toNat) v5).length v3.2.2).bind fun _ => (idx (v3.2.1.set ((v3.2.2).toNat) v5) (((v3.2.2).toNat : Nat) : Int)).bind fun v7 => (inIdx (v3.2.1.set ((v3.2.2).toNat) v5).length v3.2.2).bind fun _ => (inIdx (v3.2.1.set ((v3.2.2).toNat) v5).length (((v3.2.2).toNat : Nat) : Int)).bind fun _ => some (.inl (v3.1, (((v3.2.1.set ((v3.2.2).toNat) v5).set ((v3.2.2).toNat) (IntKind.i64.wrap (0 - v7))), (IntKind.i64.wrap (v3.2.2 + (1 : Int)))))))
 (some (.inl (v3.1, ((v3.2.1.set ((v3.2.2).toNat) v5), (IntKind.i64.wrap (v3.2.2 + (1 : Int))))))))
 (some (.inr (v3.1, v3.2.1)))
noncomputable def i_adjugate_s3 (x0 : List (List Int)) (v1 : List (List Int) × Int) : Option ((List (List Int) × Int) ⊕ (List (List Int))) :=
 cond (decide (v1.2 < (x0.length : Int)))
 ((mkD 8 (x0.length : Int) (0 : Int)).bind fun v2 => (iter (i_adjugate_s7 x0 v1) (v1.1, (v2, (0 : Int)))).bind fun v8 => (appD 24 v8.1 ([v8.2] : List (List Int))).bind fun v9 => some (.inl (v9, (IntKind.i64.wrap (v1.2 + (1 : Int))))))
 (some (.inr v1.1))
noncomputable def i_adjugate (x0 : List (List Int)) : Option (List (List Int)) :=
(iter (i_adjugate_s3 x0) (([] : List (List Int)), (0 : Int))).bind fun v10 => some v10
noncomputable def e_i_adjugate : CallE := ⟨96, [.d false (.list (.list (.int .i64)))], [.l (.o true 36 (.list (.int .i64)))], fun x => i_adjugate x⟩
noncomputable def c_i_adjugate : Ctx := ⟨Tryz.prog, TT, [e_i_minor, e_i_det], [⟨3, [(3, .l (.o true 36 (.list (.int .i64)))), (9, .l (.d false (.int .i64)))], some (0, [(3, .l (.o true 36 (.list (.int .i64))))]), none, false, none⟩, ⟨7, [(3, .l (.o true 36 (.list (.int .i64)))), (5, .l (.o true 3 (.int .i64))), (17, .l (.d false (.int .i64)))], some (2, [(3, .l (.o true 36 (.list (.int .i64)))), (5, .l (.o true 3 (.int .i64)))]), none, false, none⟩], [], [], [], []⟩
theorem k_i_adjugate (x : PMs.den e_i_adjugate.ps) : funK c_i_adjugate Tryz.f96 e_i_adjugate.ps e_i_adjugate.rs x = e_i_adjugate.F x := by kernel_rfl
theorem o_i_adjugate {D : Prop} : FnOk Tryz.prog e_i_adjugate.f ∧ Ctr D Tryz.prog e_i_adjugate := mkCtr (C := c_i_adjugate) m_ (⟨o_i_minor, o_i_det, trivial⟩) Tryz.func96 (by kernel_rfl) k_i_adjugate
/-! loop.example/g00959/impl.reducedPoint -/
noncomputable def i_reducedPoint_s6 (x0 : (List Int) × Int) (v2 : Int) (v4 : (List Int × Int) × (List Int × Int) × Int) : Option (((List Int × Int) × (List Int × Int) × Int) ⊕ ((List Int × Int) × List Int × Int)) :=
 cond (decide (v4.2.2 < (x0.1.length : Int)))
 ((idx x0.1 v4.2.2).bind fun v5 => (quoI .i64 v5 (IntKind.i64.wrap (0 - v2))).bind fun v6 => (appD 8 v4.2.1.1 ([v6] : List Int)).bind fun v7 => some (.inl ((v4.1.1, v4.1.2), ((v7, v4.2.1.2), (IntKind.i64.wrap (v4.2.2 + (1 : Int)))))))
 (some (.inr ((v4.1.1, v4.1.2), (v4.2.1.1, v4.2.1.2))))
noncomputable def i_reducedPoint_s6b13 (x0 : (List Int) × Int) (v2 : Int) (v10 : (List Int × Int) × (List Int × Int) × Int) : Option (((List Int × Int) × (List Int × Int) × Int) ⊕ ((List Int × Int) × List Int × Int)) :=
 cond (decide (v10.2.2 < (x0.1.length : Int)))
 ((idx x0.1 v10.2.2).bind fun v11 => (quoI .i64 v11 v2).bind fun v12 => (appD 8 v10.2.1.1 ([v12] : List Int)).bind fun v13 => some (.inl ((v10.1.1, v10.1.2), ((v13, v10.2.1.2), (IntKind.i64.wrap (v10.2.2 + (1 : Int)))))))
 (some (.inr ((v10.1.1, v10.1.2), (v10.2.1.1, v10.2.1.2))))
noncomputable def i_reducedPoint (x0 : (List Int) × Int) : Option (List Int × Int) :=
(i_gcdAll x0.1).bind fun v1 => (i_divisor v1 x0.2).bind fun v2 => cond (decide (x0.2 < (0 : Int)))
 ((quoI .i64 x0.2 (IntKind.i64.wrap (0 - v2))).bind fun v3 => (iter (i_reducedPoint_s6 x0 v2) ((([] : List Int), (0 : Int)), ((([] : List Int), v3), (0 : Int)))).bind fun v8 => some (v8.2.1, v8.2.2))
 ((quoI .i64 x0.2 v2).bind fun v9 => (iter (i_reducedPoint_s6b13 x0 v2) ((([] : List Int), (0 : Int)), ((([] : List Int), v9), (0 : Int)))).bind fun v14 => some (v14.2.1, v14.2.2))
noncomputable def e_i_reducedPoint : CallE := ⟨97, [.d false (.prod (.list (.int .i64)) (.int .i64))], [.a [(.o true 3 (.int .i64)), (.d false (.int .i64))]], fun x => i_reducedPoint x⟩
noncomputable def c_i_reducedPoint : Ctx := ⟨Tryz.prog, TT, [e_i_gcdAll, e_i_divisor], [⟨6, [(2, .b 78 [(.o true 3 (.int .i64)), (.d false (.int .i64))]), (4, .b 78 [(.o true 3 (.int .i64)), (.d false (.int .i64))]), (26, .l (.d false (.int .i64)))], some (0, [(2, .b 78 [(.o true 3 (.int .i64)), (.d false (.int .i64))]), (4, .b 78 [(.o true 3 (.int .i64)), (.d false (.int .i64))])]), none, false, none⟩], [⟨1, [], [], [], 0⟩, ⟨8, [], [], [], 0⟩], [], [], []⟩
theorem k_i_reducedPoint (x : PMs.den e_i_reducedPoint.ps) : funK c_i_reducedPoint Tryz.f97 e_i_reducedPoint.ps e_i_reducedPoint.rs x = e_i_reducedPoint.F x := by kernel_rfl
theorem o_i_reducedPoint {D : Prop} : FnOk Tryz.prog e_i_reducedPoint.f ∧ Ctr D Tryz.prog e_i_reducedPoint := mkCtr (C := c_i_reducedPoint) m_ (⟨o_i_gcdAll, o_i_divisor, trivial⟩) Tryz.func97 (by kernel_rfl) k_i_reducedPoint
/-! loop.example/g00959/impl.hasFraction -/
noncomputable def i_hasFraction_s2 (x0 : Int × (List ((List Int) × Int))) (x1 : (List Int) × Int) (v1 : Int) : Option ((Int) ⊕ ((Unit) ⊕ (Bool))) :=
 cond (decide (v1 < (x0.2.length : Int)))
 ((idx x0.2 v1).bind fun v2 => (i_dot v2.1 x1.1).bind fun v3 => cond (decide (v3 > (IntKind.i64.wrap (v2.2 * x1.2))))
 (some (.inr (.inr false)))
 (some (.inl (IntKind.i64.wrap (v1 + (1 : Int))))))
 (some (.inr (.inl ())))
noncomputable def i_hasFraction (x0 : Int × (List ((List Int) × Int))) (x1 : (List Int) × Int) : Option (Bool) :=
(iter (i_hasFraction_s2 x0 x1) (0 : Int)).bind fun v4 => match v4 with
 | .inl v5 => (some true)
 | .inr v6 => (some v6)
noncomputable def e_i_hasFraction : CallE := ⟨98, [.d false (.prod (.int .i64) (.list (.prod (.list (.int .i64)) (.int .i64)))), .d false (.prod (.list (.int .i64)) (.int .i64))], [.l (.d false .bool)], fun x => i_hasFraction x.1 x.2⟩
noncomputable def c_i_hasFraction : Ctx := ⟨Tryz.prog, TT, [e_i_dot], [⟨2, [(10, .l (.d false (.int .i64)))], some (0, []), some [(4, .l (.d false .bool))], false, none⟩], [⟨4, [], [], [], 0⟩], [], [], []⟩
theorem k_i_hasFraction (x : PMs.den e_i_hasFraction.ps) : funK c_i_hasFraction Tryz.f98 e_i_hasFraction.ps e_i_hasFraction.rs x = e_i_hasFraction.F x := by kernel_rfl
theorem o_i_hasFraction {D : Prop} : FnOk Tryz.prog e_i_hasFraction.f ∧ Ctr D Tryz.prog e_i_hasFraction := mkCtr (C := c_i_hasFraction) m_ (⟨o_i_dot, trivial⟩) Tryz.func98 (by kernel_rfl) k_i_hasFraction
/-! loop.example/g00959/impl.VerticesOf$1 -/
noncomputable def i_VerticesOf_1_s4 (rec : LitF) (x2 : List (List Int × Int)) (v1 : (List ((List Int) × Int)) × List (List Int) × List Int × Int) : Option (((List ((List Int) × Int)) × List (List Int) × List Int × Int) ⊕ ((List ((List Int) × Int)) × List (List Int) × List Int)) :=
 cond (decide (v1.2.2.2 < (x2.length : Int)))
 ((idx x2 v1.2.2.2).bind fun v2 => (appD 24 v1.2.1 ([v2.1] : List (List Int))).bind fun v3 => (appD 8 v1.2.2.1 ([v2.2] : List Int)).bind fun v4 => some (.inl (v1.1, (v3, (v4, (IntKind.i64.wrap (v1.2.2.2 + (1 : Int))))))))
 (some (.inr (v1.1, (v1.2.1, v1.2.2.1))))
noncomputable def i_VerticesOf_1_s13 (rec : LitF) (v5 : (List ((List Int) × Int)) × List (List Int) × List Int) (v7 : List (List Int)) (v8 : (List ((List Int) × Int)) × (List Int × Int) × Int) : Option (((List ((List Int) × Int)) × (List Int × Int) × Int) ⊕ ((List ((List Int) × Int)) × List Int × Int)) :=
 cond (decide (v8.2.2 < (v7.length : Int)))
 ((idx v7 v8.2.2).bind fun v9 => (i_dot v9 v5.2.2).bind fun v10 => (appD 8 v8.2.1.1 ([v10] : List Int)).bind fun v11 => some (.inl (v8.1, ((v11, v8.2.1.2), (IntKind.i64.wrap (v8.2.2 + (1 : Int)))))))
 (some (.inr (v8.1, (v8.2.1.1, v8.2.1.2))))
noncomputable def i_VerticesOf_1_s21 (rec : LitF) (x0 : Int × List (List Int × Int)) (x2 : List (List Int × Int)) (v16 : Int × List ((List Int) × Int)) : Option ((Int × List ((List Int) × Int)) ⊕ (List ((List Int) × Int))) :=
 cond (decide (v16.1 < (x0.2.length : Int)))
 ((fullD (x2.length : Int) (x2.length : Int) x2.length).bind fun v17 => (idx x0.2 v16.1).bind fun v18 => (nneD ([(v18.1, v18.2)] : List ((List Int) × Int))).bind fun _ => (appD 32 x2 ([(v18.1, v18.2)] : List ((List Int) × Int))).bind fun v19 => (rec (x0.1, x0.2) (IntKind.i64.wrap (v16.1 + (1 : Int))) v19 v16.2).bind fun v20 => some (.inl ((IntKind.i64.wrap (v16.1 + (1 : Int))), v20)))
 (some (.inr v16.2))
noncomputable def i_VerticesOf_1B (rec : LitF) (x0 : Int × List (List Int × Int)) (x1 : Int) (x2 x3 : List (List Int × Int)) : Option (List (List Int × Int)) :=
 cond ((x2.length : Int) == x0.1)
 ((iter (i_VerticesOf_1_s4 rec x2) (x3, (([] : List (List Int)), (([] : List Int), (0 : Int))))).bind fun v5 => (i_det v5.2.1).bind fun v6 => cond (v6 == (0 : Int))
 (some v5.1)
 ((i_adjugate v5.2.1).bind fun v7 => (iter (i_VerticesOf_1_s13 rec v5 v7) (v5.1, ((([] : List Int), v6), (0 : Int)))).bind fun v12 => (i_reducedPoint (v12.2.1, v12.2.2)).bind fun v13 => (i_hasFraction (x0.1, x0.2) (v13.1, v13.2)).bind fun v14 => cond v14
 ((appD 32 v12.1 ([(v13.1, v13.2)] : List ((List Int) × Int))).bind fun v15 => some v15)
 (some v12.1)))
 ((iter (i_VerticesOf_1_s21 rec x0 x2) (x1, x3)).bind fun v21 => some v21)
noncomputable def i_VerticesOf_1R : Nat → LitF
  | 0 => fun _ _ _ _ => none
  | n + 1 => i_VerticesOf_1B (i_VerticesOf_1R n)
noncomputable def i_VerticesOf_1 : LitF := i_VerticesOf_1R 30000
def l_i_VerticesOf_1 : LitE := ⟨94, 26, 98, 75, 78⟩
noncomputable def n_i_VerticesOf_1 (rec : LitF) : InE := ⟨94, false, recK l_i_VerticesOf_1 rec⟩
noncomputable def c_i_VerticesOf_1 (rec : LitF) : Ctx := ⟨Tryz.prog, TT, [e_i_det, e_i_adjugate, e_i_dot, e_i_reducedPoint, e_i_hasFraction], [⟨4, [(3, .b 75 [(.o false 78 (.prod (.list (.int .i64)) (.int .i64)))]), (7, .l (.o false 36 (.list (.int .i64)))), (8, .l (.o true 3 (.int .i64))), (23, .l (.d false (.int .i64)))], some (0, [(3, .b 75 [(.o false 78 (.prod (.list (.int .i64)) (.int .i64)))]), (7, .l (.o false 36 (.list (.int .i64)))), (8, .l (.o true 3 (.int .i64)))]), none, false, none⟩, ⟨13, [(3, .b 75 [(.o false 78 (.prod (.list (.int .i64)) (.int .i64)))]), (12, .b 78 [(.o true 3 (.int .i64)), (.d false (.int .i64))]), (47, .l (.d false (.int .i64)))], some (2, [(3, .b 75 [(.o false 78 (.prod (.list (.int .i64)) (.int .i64)))]), (12, .b 78 [(.o true 3 (.int .i64)), (.d false (.int .i64))])]), none, false, none⟩, ⟨21, [(15, .l (.d false (.int .i64)))], some (4, []), none, false, some (3, .b 75 [(.o false 78 (.prod (.list (.int .i64)) (.int .i64)))])⟩], [⟨15, [], [], [], 0⟩, ⟨23, [], [], [], 0⟩], [n_i_VerticesOf_1 rec], [], []⟩
theorem k_i_VerticesOf_1 (rec : LitF) (x : Int × List (List Int × Int)) (i : Int) (c y : List (List Int × Int)) : funV (c_i_VerticesOf_1 rec) Tryz.f94 l_i_VerticesOf_1 x i c y = i_VerticesOf_1B rec x i c y := by kernel_rfl
theorem oB_i_VerticesOf_1 {D : Prop} (rec : LitF) (h : FnOk Tryz.prog 94 ∧ InOk D Tryz.prog (n_i_VerticesOf_1 rec)) : FnOk Tryz.prog 94 ∧ InOk D Tryz.prog (n_i_VerticesOf_1 (i_VerticesOf_1B rec)) := mkLit (C := c_i_VerticesOf_1 rec) (m := l_i_VerticesOf_1) m_ (⟨o_i_det, o_i_adjugate, o_i_dot, o_i_reducedPoint, o_i_hasFraction, trivial⟩) Tryz.func94 (by kernel_rfl) (k_i_VerticesOf_1 rec) ⟨h, trivial⟩
theorem oA_i_VerticesOf_1 {D : Prop} : (n : Nat) → FnOk Tryz.prog 94 ∧ InOk D Tryz.prog (n_i_VerticesOf_1 (i_VerticesOf_1R n))
  | 0 => lit_none (m := l_i_VerticesOf_1) Tryz.func94 (by kernel_rfl)
  | n + 1 => oB_i_VerticesOf_1 _ (oA_i_VerticesOf_1 n)
theorem q_i_VerticesOf_1 {D : Prop} : FnOk Tryz.prog (n_i_VerticesOf_1 i_VerticesOf_1).f ∧ InOk D Tryz.prog (n_i_VerticesOf_1 i_VerticesOf_1) := oA_i_VerticesOf_1 30000
/-! loop.example/g00959/impl.compareFractions -/
noncomputable def i_compareFractions_s2 (x0 : (List Int) × Int) (x1 : (List Int) × Int) (v1 : Int) : Option ((Int) ⊕ ((Unit) ⊕ (Int))) :=
 cond (decide (v1 < (x0.1.length : Int)))
 ((idx x0.1 v1).bind fun v2 => (idx x1.1 v1).bind fun v3 => (g_cmp_Compare (IntKind.i64.wrap (v2 * x1.2)) (IntKind.i64.wrap (v3 * x0.2))).bind fun v4 => cond (v4 != (0 : Int))
 (some (.inr (.inr v4)))
 (some (.inl (IntKind.i64.wrap (v1 + (1 : Int))))))
 (some (.inr (.inl ())))
noncomputable def i_compareFractions (x0 : (List Int) × Int) (x1 : (List Int) × Int) : Option (Int) :=
(iter (i_compareFractions_s2 x0 x1) (0 : Int)).bind fun v5 => match v5 with
 | .inl v6 => (some (0 : Int))
 | .inr v7 => (some v7)
noncomputable def e_i_compareFractions : CallE := ⟨100, [.d false (.prod (.list (.int .i64)) (.int .i64)), .d false (.prod (.list (.int .i64)) (.int .i64))], [.l (.d false (.int .i64))], fun x => i_compareFractions x.1 x.2⟩
noncomputable def c_i_compareFractions : Ctx := ⟨Tryz.prog, TT, [e_g_cmp_Compare], [⟨2, [(10, .l (.d false (.int .i64)))], some (0, []), some [(4, .l (.d false (.int .i64)))], false, none⟩], [⟨4, [], [], [], 0⟩], [], [], []⟩
theorem k_i_compareFractions (x : PMs.den e_i_compareFractions.ps) : funK c_i_compareFractions Tryz.f100 e_i_compareFractions.ps e_i_compareFractions.rs x = e_i_compareFractions.F x := by kernel_rfl
theorem o_i_compareFractions {D : Prop} : FnOk Tryz.prog e_i_compareFractions.f ∧ Ctr D Tryz.prog e_i_compareFractions := mkCtr (C := c_i_compareFractions) m_ (⟨o_g_cmp_Compare, trivial⟩) Tryz.func100 (by kernel_rfl) k_i_compareFractions
/-! slices.SortFunc[[]loop.example/g00959/impl.Rational,loop.example/g00959/impl.Rational] -/
noncomputable def g_SortFunc_Rational (x0 : List ((List Int) × Int)) : Option (Unit × ((List ((List Int) × Int)) × Unit)) := sortRF (fun a b => i_compareFractions a b) x0
noncomputable def e_g_SortFunc_Rational : CallE := ⟨99, [.io false 78 (.prod (.list (.int .i64)) (.int .i64)), .f 100], [], fun x => g_SortFunc_Rational x.1⟩
theorem o_g_SortFunc_Rational {D : Prop} : FnOk Tryz.prog e_g_SortFunc_Rational.f ∧ Ctr D Tryz.prog e_g_SortFunc_Rational := ⟨⟨Tryz.f99, _, Tryz.func99, by kernel_rfl, rfl⟩, sortR_ctr (a := .list (.int .i64)) (b := .int .i64) laySortR rfl Tryz.isAgg78 Tryz.sizeOf78 (o_i_compareFractions (D := True)).1 (o_i_compareFractions (D := True)).2⟩
/-! loop.example/g00959/impl.VerticesOf$2 -/
noncomputable def i_VerticesOf_2 (x0 : (List Int) × Int) (x1 : (List Int) × Int) : Option (Bool) :=
(i_compareFractions (x0.1, x0.2) (x1.1, x1.2)).bind fun v1 => some (v1 == (0 : Int))
noncomputable def e_i_VerticesOf_2 : CallE := ⟨102, [.d false (.prod (.list (.int .i64)) (.int .i64)), .d false (.prod (.list (.int .i64)) (.int .i64))], [.l (.d false .bool)], fun x => i_VerticesOf_2 x.1 x.2⟩
noncomputable def c_i_VerticesOf_2 : Ctx := ⟨Tryz.prog, TT, [e_i_compareFractions], [], [], [], [], []⟩
theorem k_i_VerticesOf_2 (x : PMs.den e_i_VerticesOf_2.ps) : funK c_i_VerticesOf_2 Tryz.f102 e_i_VerticesOf_2.ps e_i_VerticesOf_2.rs x = e_i_VerticesOf_2.F x := by kernel_rfl
theorem o_i_VerticesOf_2 {D : Prop} : FnOk Tryz.prog e_i_VerticesOf_2.f ∧ Ctr D Tryz.prog e_i_VerticesOf_2 := mkCtr (C := c_i_VerticesOf_2) m_ (⟨o_i_compareFractions, trivial⟩) Tryz.func102 (by kernel_rfl) k_i_VerticesOf_2
/-! slices.CompactFunc[[]loop.example/g00959/impl.Rational,loop.example/g00959/impl.Rational] -/
noncomputable def g_CompactFunc_Rational_s9 (v1 : Int × List ((List Int) × Int)) (v6 : Int × Int × List ((List Int) × Int)) : Option ((Int × Int × List ((List Int) × Int)) ⊕ (Int × List ((List Int) × Int))) :=
 cond (decide (v6.2.1 < ((((v1.2.length : Int)).toNat - (v1.1).toNat : Nat) : Int)))
 ((inIdx (((v1.2.length : Int)).toNat - (v1.1).toNat) v6.2.1).bind fun _ => (idx v6.2.2 ((((v1.1).toNat + (v6.2.1).toNat) : Nat) : Int)).bind fun v7 => (inIdx (((v1.2.length : Int)).toNat - (v1.1).toNat) (IntKind.i64.wrap (v6.2.1 - (1 : Int)))).bind fun _ => (idx v6.2.2 ((((v1.1).toNat + ((IntKind.i64.wrap (v6.2.1 - (1 : Int)))).toNat) : Nat) : Int)).bind fun v8 => (i_VerticesOf_2 v7 v8).bind fun v9 => cond (!v9)
 ((inIdx (((v1.2.length : Int)).toNat - (v1.1).toNat) v6.2.1).bind fun _ => (idx v6.2.2 ((((v1.1).toNat + (v6.2.1).toNat) : Nat) : Int)).bind fun v10 => (inIdx v6.2.2.length v6.1).bind fun _ => (inIdx v6.2.2.length (((v6.1).toNat : Nat) : Int)).bind fun _ => some (.inl ((IntKind.i64.wrap (v6.1 + (1 : Int))), ((IntKind.i64.wrap (v6.2.1 + (1 : Int))), (v6.2.2.set ((v6.1).toNat) (v10.1, v10.2))))))
 (some (.inl (v6.1, ((IntKind.i64.wrap (v6.2.1 + (1 : Int))), v6.2.2)))))
 (some (.inr (v6.1, v6.2.2)))
noncomputable def g_CompactFunc_Rational_s4 (v1 : Int × List ((List Int) × Int)) : Option ((Int × List ((List Int) × Int)) ⊕ ((List ((List Int) × Int)) ⊕ (List ((List Int) × Int)))) :=
 cond (decide (v1.1 < (v1.2.length : Int)))
 ((inIdx v1.2.length v1.1).bind fun _ => (idx v1.2 (((v1.1).toNat : Nat) : Int)).bind fun v2 => (inIdx v1.2.length (IntKind.i64.wrap (v1.1 - (1 : Int)))).bind fun _ => (idx v1.2 ((((IntKind.i64.wrap (v1.1 - (1 : Int)))).toNat : Nat) : Int)).bind fun v3 => (i_VerticesOf_2 v2 v3).bind fun v4 => cond v4
 ((subl v1.2 v1.1 (v1.2.length : Int)).bind fun v5 => (iter (g_CompactFunc_Rational_s9 v1) (v1.1, ((1 : Int), v1.2))).bind fun v11 => (subl v11.2 v11.1 (v11.2.length : Int)).bind fun v12 => (clrD ((v11.1).toNat) (((v11.2.length : Int)).toNat) v11.2.length).bind fun v13 => (subl (v11.2.take ((v11.1).toNat) ++ List.replicate ((((v11.2.length : Int)).toNat) - ((v11.1).toNat)) (([] : List Int), (0 : Int))) 0 v11.1).bind fun v14 => some (.inr (.inr v14)))
 (some (.inl ((IntKind.i64.wrap (v1.1 + (1 : Int))), v1.2))))
 (some (.inr (.inl v1.2)))
noncomputable def g_CompactFunc_Rational (x0 : List ((List Int) × Int)) : Option (List ((List Int) × Int)) :=
 cond (decide ((x0.length : Int) < (2 : Int)))
 (some x0)
 ((iter (g_CompactFunc_Rational_s4) ((1 : Int), x0)).bind fun v15 => match v15 with
 | .inl v16 => (some v16)
 | .inr v17 => (some v17))
noncomputable def e_g_CompactFunc_Rational : CallE := ⟨101, [.mv false 78 (.prod (.list (.int .i64)) (.int .i64)), .f 102], [.l (.o false 78 (.prod (.list (.int .i64)) (.int .i64)))], fun x => g_CompactFunc_Rational x.1⟩
noncomputable def c_g_CompactFunc_Rational : Ctx := ⟨Tryz.prog, TT, [e_i_VerticesOf_2], [⟨4, [(5, .l (.d false (.int .i64)))], some (0, []), some [(4, .l (.o false 78 (.prod (.list (.int .i64)) (.int .i64))))], false, some (0, .l (.o false 78 (.prod (.list (.int .i64)) (.int .i64))))⟩, ⟨9, [(5, .l (.d false (.int .i64))), (7, .l (.d false (.int .i64)))], some (2, [(5, .l (.d false (.int .i64)))]), none, false, some (0, .l (.o false 78 (.prod (.list (.int .i64)) (.int .i64))))⟩], [⟨6, [], [], [], 0⟩, ⟨11, [], [], [], 0⟩], [], [29, 59], []⟩
theorem k_g_CompactFunc_Rational (x : PMs.den e_g_CompactFunc_Rational.ps) : funK c_g_CompactFunc_Rational Tryz.f101 e_g_CompactFunc_Rational.ps e_g_CompactFunc_Rational.rs x = e_g_CompactFunc_Rational.F x := by kernel_rfl
theorem o_g_CompactFunc_Rational {D : Prop} : FnOk Tryz.prog e_g_CompactFunc_Rational.f ∧ Ctr D Tryz.prog e_g_CompactFunc_Rational := mkCtr (C := c_g_CompactFunc_Rational) m_ (⟨o_i_VerticesOf_2, trivial⟩) Tryz.func101 (by kernel_rfl) k_g_CompactFunc_Rational
/-! loop.example/g00959/impl.VerticesOf -/
noncomputable def i_VerticesOf (x0 : Int × (List ((List Int) × Int))) : Option (List ((List Int) × Int)) :=
(i_IsRegion (x0.1, x0.2)).bind fun v1 => cond (!v1)
 (some ([] : List ((List Int) × Int)))
 ((i_VerticesOf_1 (x0.1, x0.2) (0 : Int) ([] : List ((List Int) × Int)) ([] : List ((List Int) × Int))).bind fun v2 => (g_SortFunc_Rational v2).bind fun v3 => (g_CompactFunc_Rational v3.2.1).bind fun v4 => some v4)
noncomputable def e_i_VerticesOf : CallE := ⟨60, [.d false (.prod (.int .i64) (.list (.prod (.list (.int .i64)) (.int .i64))))], [.l (.o false 78 (.prod (.list (.int .i64)) (.int .i64)))], fun x => i_VerticesOf x⟩
noncomputable def c_i_VerticesOf : Ctx := ⟨Tryz.prog, TT, [e_i_IsRegion, e_g_SortFunc_Rational, e_g_CompactFunc_Rational], [], [], [n_i_VerticesOf_1 i_VerticesOf_1], [], []⟩
theorem k_i_VerticesOf (x : PMs.den e_i_VerticesOf.ps) : funK c_i_VerticesOf Tryz.f60 e_i_VerticesOf.ps e_i_VerticesOf.rs x = e_i_VerticesOf.F x := by kernel_rfl
theorem o_i_VerticesOf {D : Prop} : FnOk Tryz.prog e_i_VerticesOf.f ∧ Ctr D Tryz.prog e_i_VerticesOf := mkCtr (C := c_i_VerticesOf) m_ (⟨o_i_IsRegion, o_g_SortFunc_Rational, o_g_CompactFunc_Rational, trivial⟩) Tryz.func60 (by kernel_rfl) k_i_VerticesOf ⟨q_i_VerticesOf_1, trivial⟩
/-! loop.example/g00959/impl.IsTight -/
noncomputable def i_IsTight_s5 (v2 : List ((List Int) × Int)) (v3 : Int) : Option ((Int) ⊕ ((Unit) ⊕ (Bool))) :=
 cond (decide (v3 < (v2.length : Int)))
 ((idx v2 v3).bind fun v4 => cond (v4.2 != (1 : Int))
 (some (.inr (.inr false)))
 ((i_allWithin v4.1 (-6 : Int) (6 : Int)).bind fun v5 => cond (!v5)
 (some (.inr (.inr false)))
 (some (.inl (IntKind.i64.wrap (v3 + (1 : Int)))))))
 (some (.inr (.inl ())))
noncomputable def i_IsTight (x0 : Int × (List ((List Int) × Int))) : Option (Bool) :=
(i_WholeHull (x0.1, x0.2)).bind fun v1 => cond (!v1.2)
 (some false)
 ((i_VerticesOf (x0.1, x0.2)).bind fun v2 => (iter (i_IsTight_s5 v2) (0 : Int)).bind fun v6 => match v6 with
 | .inl v7 => (some true)
 | .inr v8 => (some v8))
noncomputable def e_i_IsTight : CallE := ⟨22, [.d false (.prod (.int .i64) (.list (.prod (.list (.int .i64)) (.int .i64))))], [.l (.d false .bool)], fun x => i_IsTight x⟩
noncomputable def c_i_IsTight : Ctx := ⟨Tryz.prog, TT, [e_i_WholeHull, e_i_VerticesOf, e_i_allWithin], [⟨5, [(17, .l (.d false (.int .i64)))], some (0, []), some [(2, .l (.d false .bool))], false, none⟩], [], [], [], []⟩
theorem k_i_IsTight (x : PMs.den e_i_IsTight.ps) : funK c_i_IsTight Tryz.f22 e_i_IsTight.ps e_i_IsTight.rs x = e_i_IsTight.F x := by kernel_rfl
theorem o_i_IsTight {D : Prop} : FnOk Tryz.prog e_i_IsTight.f ∧ Ctr D Tryz.prog e_i_IsTight := mkCtr (C := c_i_IsTight) m_ (⟨o_i_WholeHull, o_i_VerticesOf, o_i_allWithin, trivial⟩) Tryz.func22 (by kernel_rfl) k_i_IsTight
/-! loop.example/g00959/spec.l3Det -/
noncomputable def s_l3Det_s8 (x0 : List (List Int)) (v11 : Int × Int) : Option ((Int × Int) ⊕ (Int)) :=
 cond (decide (v11.2 < (3 : Int)))
 ((remI .i64 (IntKind.i64.wrap (v11.2 + (1 : Int))) (3 : Int)).bind fun v12 => (remI .i64 (IntKind.i64.wrap (v11.2 + (2 : Int))) (3 : Int)).bind fun v13 => (idx x0 (0 : Int)).bind fun v14 => (idx v14 v11.2).bind fun v15 => (idx x0 (1 : Int)).bind fun v16 => (idx v16 v12).bind fun v17 => (idx x0 (2 : Int)).bind fun v18 => (idx v18 v13).bind fun v19 => (idx x0 (1 : Int)).bind fun v20 => (idx v20 v13).bind fun v21 => (idx x0 (2 : Int)).bind fun v22 => (idx v22 v12).bind fun v23 => some (.inl ((IntKind.i64.wrap (v11.1 + (IntKind.i64.wrap (v15 * (IntKind.i64.wrap ((IntKind.i64.wrap (v17 * v19)) - (IntKind.i64.wrap (v21 * v23)))))))), (IntKind.i64.wrap (v11.2 + (1 : Int))))))
 (some (.inr v11.1))
noncomputable def s_l3Det (x0 : List (List Int)) : Option (Int) :=
 cond ((x0.length : Int) == (1 : Int))
 ((idx x0 (0 : Int)).bind fun v1 => (idx v1 (0 : Int)).bind fun v2 => some v2)
 (cond ((x0.length : Int) == (2 : Int))
 ((idx x0 (0 : Int)).bind fun v3 => (idx v3 (0 : Int)).bind fun v4 => (idx x0 (1 : Int)).bind fun v5 => (idx v5 (1 : Int)).bind fun v6 => (idx x0 (0 : Int)).bind fun v7 => (idx v7 (1 : Int)).bind fun v8 => (idx x0 (1 : Int)).bind fun v9 => (idx v9 (0 : Int)).bind fun v10 => some (IntKind.i64.wrap ((IntKind.i64.wrap (v4 * v6)) - (IntKind.i64.wrap (v8 * v10)))))
 ((iter (s_l3Det_s8 x0) ((0 : Int), (0 : Int))).bind fun v24 => some v24))
noncomputable def e_s_l3Det : CallE := ⟨147, [.d false (.list (.list (.int .i64)))], [.l (.d false (.int .i64))], fun x => s_l3Det x⟩
noncomputable def c_s_l3Det : Ctx := ⟨Tryz.prog, TT, [], [⟨8, [(3, .l (.d false (.int .i64))), (4, .l (.d false (.int .i64)))], some (1, [(3, .l (.d false (.int .i64)))]), none, false, none⟩], [⟨5, [], [], [], 0⟩, ⟨12, [], [], [], 0⟩], [], [], []⟩
theorem k_s_l3Det (x : PMs.den e_s_l3Det.ps) : funK c_s_l3Det Tryz.f147 e_s_l3Det.ps e_s_l3Det.rs x = e_s_l3Det.F x := by kernel_rfl
theorem o_s_l3Det {D : Prop} : FnOk Tryz.prog e_s_l3Det.f ∧ Ctr D Tryz.prog e_s_l3Det := mkCtr (C := c_s_l3Det) m_ (trivial) Tryz.func147 (by kernel_rfl) k_s_l3Det
/-! loop.example/g00959/spec.l2Scale -/
noncomputable def s_l2Scale_s3 (x0 : List Int) (x1 : Int) (v1 : List Int × Int) : Option ((List Int × Int) ⊕ (List Int)) :=
 cond (decide (v1.2 < (x0.length : Int)))
 ((idx x0 v1.2).bind fun v2 => (appD 8 v1.1 ([(IntKind.i64.wrap (v2 * x1))] : List Int)).bind fun v3 => some (.inl (v3, (IntKind.i64.wrap (v1.2 + (1 : Int))))))
 (some (.inr v1.1))
noncomputable def s_l2Scale (x0 : List Int) (x1 : Int) : Option (List Int) :=
(iter (s_l2Scale_s3 x0 x1) (([] : List Int), (0 : Int))).bind fun v4 => some v4
noncomputable def e_s_l2Scale : CallE := ⟨148, [.d false (.list (.int .i64)), .d false (.int .i64)], [.l (.o true 3 (.int .i64))], fun x => s_l2Scale x.1 x.2⟩
noncomputable def c_s_l2Scale : Ctx := ⟨Tryz.prog, TT, [], [⟨3, [(5, .l (.o true 3 (.int .i64))), (6, .l (.d false (.int .i64)))], some (0, [(5, .l (.o true 3 (.int .i64)))]), none, false, none⟩], [], [], [], []⟩
theorem k_s_l2Scale (x : PMs.den e_s_l2Scale.ps) : funK c_s_l2Scale Tryz.f148 e_s_l2Scale.ps e_s_l2Scale.rs x = e_s_l2Scale.F x := by kernel_rfl
theorem o_s_l2Scale {D : Prop} : FnOk Tryz.prog e_s_l2Scale.f ∧ Ctr D Tryz.prog e_s_l2Scale := mkCtr (C := c_s_l2Scale) m_ (trivial) Tryz.func148 (by kernel_rfl) k_s_l2Scale
/-! loop.example/g00959/spec.l6Solve -/
noncomputable def s_l6Solve_s3 (x0 : List ((List Int) × Int)) (v1 : (List Int × Int) × List (List Int) × Int) : Option (((List Int × Int) × List (List Int) × Int) ⊕ ((List Int × Int) × List (List Int))) :=
 cond (decide (v1.2.2 < (x0.length : Int)))
 ((idx x0 v1.2.2).bind fun v2 => (appD 24 v1.2.1 ([v2.1] : List (List Int))).bind fun v3 => some (.inl ((v1.1.1, v1.1.2), (v3, (IntKind.i64.wrap (v1.2.2 + (1 : Int)))))))
 (some (.inr ((v1.1.1, v1.1.2), v1.2.1)))
noncomputable def s_l6Solve_s15 (x0 : List ((List Int) × Int)) (v4 : (List Int × Int) × List (List Int)) (v6 : (List Int × Int) × List Int × Int) (v7 : (List Int × Int) × List Int × List (List Int) × Int) : Option (((List Int × Int) × List Int × List (List Int) × Int) ⊕ ((List Int × Int) × List Int × List (List Int))) :=
 cond (decide (v7.2.2.2 < (v4.2.length : Int)))
 ((idx v4.2 v7.2.2.2).bind fun v8 => (appD 8 ([] : List Int) v8).bind fun v9 => (idx x0 v7.2.2.2).bind fun v10 => (inIdx v9.length v6.2.2).bind fun _ => (inIdx v9.length (((v6.2.2).toNat : Nat) : Int)).bind fun _ => (appD 24 v7.2.2.1 ([(v9.set ((v6.2.2).toNat) v10.2)] : List (List Int))).bind fun v11 => some (.inl ((v7.1.1, v7.1.2), (v7.2.1, (v11, (IntKind.i64.wrap (v7.2.2.2 + (1 : Int))))))))
 (some (.inr ((v7.1.1, v7.1.2), (v7.2.1, v7.2.2.1))))
noncomputable def s_l6Solve_s11 (x0 : List ((List Int) × Int)) (v4 : (List Int × Int) × List (List Int)) (v6 : (List Int × Int) × List Int × Int) : Option (((List Int × Int) × List Int × Int) ⊕ ((List Int × Int) × List Int)) :=
 cond (decide (v6.2.2 < (v4.2.length : Int)))
 ((iter (s_l6Solve_s15 x0 v4 v6) ((v6.1.1, v6.1.2), (v6.2.1, (([] : List (List Int)), (0 : Int))))).bind fun v12 => (s_l3Det v12.2.2).bind fun v13 => (appD 8 v12.2.1 ([v13] : List Int)).bind fun v14 => some (.inl ((v12.1.1, v12.1.2), (v14, (IntKind.i64.wrap (v6.2.2 + (1 : Int)))))))
 (some (.inr ((v6.1.1, v6.1.2), v6.2.1)))
noncomputable def s_l6Solve_s27 (v16 : List Int) (v18 : Int) (v20 : (List Int × Int) × (List Int × Int) × Int) : Option (((List Int × Int) × (List Int × Int) × Int) ⊕ ((List Int × Int) × List Int × Int)) :=
 cond (decide (v20.2.2 < (v16.length : Int)))
 ((idx v16 v20.2.2).bind fun v21 => (quoI .i64 v21 v18).bind fun v22 => (appD 8 v20.2.1.1 ([v22] : List Int)).bind fun v23 => some (.inl ((v20.1.1, v20.1.2), ((v23, v20.2.1.2), (IntKind.i64.wrap (v20.2.2 + (1 : Int)))))))
 (some (.inr ((v20.1.1, v20.1.2), (v20.2.1.1, v20.2.1.2))))
noncomputable def s_l6Solve_s27b31 (v15 : (List Int × Int) × List Int) (v26 : Int) (v28 : (List Int × Int) × (List Int × Int) × Int) : Option (((List Int × Int) × (List Int × Int) × Int) ⊕ ((List Int × Int) × List Int × Int)) :=
 cond (decide (v28.2.2 < (v15.2.length : Int)))
 ((idx v15.2 v28.2.2).bind fun v29 => (quoI .i64 v29 v26).bind fun v30 => (appD 8 v28.2.1.1 ([v30] : List Int)).bind fun v31 => some (.inl ((v28.1.1, v28.1.2), ((v31, v28.2.1.2), (IntKind.i64.wrap (v28.2.2 + (1 : Int)))))))
 (some (.inr ((v28.1.1, v28.1.2), (v28.2.1.1, v28.2.1.2))))
noncomputable def s_l6Solve (x0 : List ((List Int) × Int)) : Option ((List Int × Int) × Bool) :=
(iter (s_l6Solve_s3 x0) ((([] : List Int), (0 : Int)), (([] : List (List Int)), (0 : Int)))).bind fun v4 => (s_l3Det v4.2).bind fun v5 => cond (v5 == (0 : Int))
 (some ((([] : List Int), (0 : Int)), false))
 ((iter (s_l6Solve_s11 x0 v4) ((v4.1.1, v4.1.2), (([] : List Int), (0 : Int)))).bind fun v15 => cond (decide (v5 < (0 : Int)))
 ((s_l2Scale v15.2 (-1 : Int)).bind fun v16 => (s_l2All v16).bind fun v17 => (s_l2Gcd v17 (IntKind.i64.wrap (0 - v5))).bind fun v18 => (quoI .i64 (IntKind.i64.wrap (0 - v5)) v18).bind fun v19 => (iter (s_l6Solve_s27 v16 v18) ((v15.1.1, v15.1.2), ((([] : List Int), v19), (0 : Int)))).bind fun v24 => some ((v24.2.1, v24.2.2), true))
 ((s_l2All v15.2).bind fun v25 => (s_l2Gcd v25 v5).bind fun v26 => (quoI .i64 v5 v26).bind fun v27 => (iter (s_l6Solve_s27b31 v15 v26) ((v15.1.1, v15.1.2), ((([] : List Int), v27), (0 : Int)))).bind fun v32 => some ((v32.2.1, v32.2.2), true)))
noncomputable def e_s_l6Solve : CallE := ⟨119, [.d false (.list (.prod (.list (.int .i64)) (.int .i64)))], [.a [(.o true 3 (.int .i64)), (.d false (.int .i64))], .l (.d false .bool)], fun x => s_l6Solve x⟩
noncomputable def c_s_l6Solve : Ctx := ⟨Tryz.prog, TT, [e_s_l3Det, e_s_l2Scale, e_s_l2All, e_s_l2Gcd], [⟨3, [(2, .b 78 [(.o true 3 (.int .i64)), (.d false (.int .i64))]), (4, .l (.o false 36 (.list (.int .i64)))), (5, .l (.d false (.int .i64)))], some (0, [(2, .b 78 [(.o true 3 (.int .i64)), (.d false (.int .i64))]), (4, .l (.o false 36 (.list (.int .i64))))]), none, false, none⟩, ⟨11, [(2, .b 78 [(.o true 3 (.int .i64)), (.d false (.int .i64))]), (7, .l (.o true 3 (.int .i64))), (8, .l (.d false (.int .i64)))], some (2, [(2, .b 78 [(.o true 3 (.int .i64)), (.d false (.int .i64))]), (7, .l (.o true 3 (.int .i64)))]), none, false, none⟩, ⟨15, [(2, .b 78 [(.o true 3 (.int .i64)), (.d false (.int .i64))]), (7, .l (.o true 3 (.int .i64))), (9, .l (.o true 36 (.list (.int .i64)))), (10, .l (.d false (.int .i64)))], some (4, [(2, .b 78 [(.o true 3 (.int .i64)), (.d false (.int .i64))]), (7, .l (.o true 3 (.int .i64))), (9, .l (.o true 36 (.list (.int .i64))))]), none, false, none⟩, ⟨27, [(2, .b 78 [(.o true 3 (.int .i64)), (.d false (.int .i64))]), (13, .b 78 [(.o true 3 (.int .i64)), (.d false (.int .i64))]), (14, .l (.d false (.int .i64)))], some (6, [(2, .b 78 [(.o true 3 (.int .i64)), (.d false (.int .i64))]), (13, .b 78 [(.o true 3 (.int .i64)), (.d false (.int .i64))])]), none, false, none⟩], [⟨29, [], [], [], 0⟩], [], [], []⟩
theorem k_s_l6Solve (x : PMs.den e_s_l6Solve.ps) : funK c_s_l6Solve Tryz.f119 e_s_l6Solve.ps e_s_l6Solve.rs x = e_s_l6Solve.F x := by kernel_rfl
theorem o_s_l6Solve {D : Prop} : FnOk Tryz.prog e_s_l6Solve.f ∧ Ctr D Tryz.prog e_s_l6Solve := mkCtr (C := c_s_l6Solve) m_ (⟨o_s_l3Det, o_s_l2Scale, o_s_l2All, o_s_l2Gcd, trivial⟩) Tryz.func119 (by kernel_rfl) k_s_l6Solve
/-! loop.example/g00959/spec.l6Fine -/
noncomputable def s_l6Fine (x0 : (List Int) × Int) : Option (Bool) :=
(s_l1In x0.2 (1 : Int) (100000 : Int)).bind fun v1 => cond v1
 ((s_l2Small x0.1 (10000000 : Int)).bind fun v2 => some v2)
 (some false)
noncomputable def e_s_l6Fine : CallE := ⟨149, [.d false (.prod (.list (.int .i64)) (.int .i64))], [.l (.d false .bool)], fun x => s_l6Fine x⟩
noncomputable def c_s_l6Fine : Ctx := ⟨Tryz.prog, TT, [e_s_l1In, e_s_l2Small], [], [], [], [], []⟩
theorem k_s_l6Fine (x : PMs.den e_s_l6Fine.ps) : funK c_s_l6Fine Tryz.f149 e_s_l6Fine.ps e_s_l6Fine.rs x = e_s_l6Fine.F x := by kernel_rfl
theorem o_s_l6Fine {D : Prop} : FnOk Tryz.prog e_s_l6Fine.f ∧ Ctr D Tryz.prog e_s_l6Fine := mkCtr (C := c_s_l6Fine) m_ (⟨o_s_l1In, o_s_l2Small, trivial⟩) Tryz.func149 (by kernel_rfl) k_s_l6Fine
/-! loop.example/g00959/spec.HasRational -/
noncomputable def s_HasRational_s4 (x0 : Int × (List ((List Int) × Int))) (x1 : (List Int) × Int) (v3 : Int) : Option ((Int) ⊕ ((Unit) ⊕ (Bool))) :=
 cond (decide (v3 < (x0.2.length : Int)))
 ((idx x0.2 v3).bind fun v4 => (s_l2Dot v4.1 x1.1).bind fun v5 => (idx x0.2 v3).bind fun v6 => cond (decide (v5 > (IntKind.i64.wrap (v6.2 * x1.2))))
 (some (.inr (.inr false)))
 (some (.inl (IntKind.i64.wrap (v3 + (1 : Int))))))
 (some (.inr (.inl ())))
noncomputable def s_HasRational (x0 : Int × (List ((List Int) × Int))) (x1 : (List Int) × Int) : Option (Bool) :=
(s_IsRegion (x0.1, x0.2)).bind fun v1 => cond (!v1)
 (some false)
 ((s_l6Fine (x1.1, x1.2)).bind fun v2 => cond (!v2)
 (some false)
 (cond ((x1.1.length : Int) != x0.1)
 (some false)
 ((iter (s_HasRational_s4 x0 x1) (0 : Int)).bind fun v7 => match v7 with
 | .inl v8 => (some true)
 | .inr v9 => (some v9))))
noncomputable def e_s_HasRational : CallE := ⟨120, [.d false (.prod (.int .i64) (.list (.prod (.list (.int .i64)) (.int .i64)))), .d false (.prod (.list (.int .i64)) (.int .i64))], [.l (.d false .bool)], fun x => s_HasRational x.1 x.2⟩
noncomputable def c_s_HasRational : Ctx := ⟨Tryz.prog, TT, [e_s_IsRegion, e_s_l6Fine, e_s_l2Dot], [⟨4, [(5, .l (.d false (.int .i64)))], some (0, []), some [(4, .l (.d false .bool))], false, none⟩], [⟨6, [], [], [], 0⟩], [], [], []⟩
theorem k_s_HasRational (x : PMs.den e_s_HasRational.ps) : funK c_s_HasRational Tryz.f120 e_s_HasRational.ps e_s_HasRational.rs x = e_s_HasRational.F x := by kernel_rfl
theorem o_s_HasRational {D : Prop} : FnOk Tryz.prog e_s_HasRational.f ∧ Ctr D Tryz.prog e_s_HasRational := mkCtr (C := c_s_HasRational) m_ (⟨o_s_IsRegion, o_s_l6Fine, o_s_l2Dot, trivial⟩) Tryz.func120 (by kernel_rfl) k_s_HasRational
/-! loop.example/g00959/spec.CompareRationals -/
noncomputable def s_CompareRationals_s4 (x0 : (List Int) × Int) (x1 : (List Int) × Int) (v3 : Int) : Option ((Int) ⊕ ((Unit) ⊕ (Int))) :=
 cond (decide (v3 < (x0.1.length : Int)))
 ((idx x0.1 v3).bind fun v4 => (idx x1.1 v3).bind fun v5 => cond ((IntKind.i64.wrap (v4 * x1.2)) != (IntKind.i64.wrap (v5 * x0.2)))
 ((s_l1Bit (decide ((IntKind.i64.wrap (v4 * x1.2)) < (IntKind.i64.wrap (v5 * x0.2))))).bind fun v6 => some (.inr (.inr (IntKind.i64.wrap ((1 : Int) - (IntKind.i64.wrap ((2 : Int) * v6)))))))
 (some (.inl (IntKind.i64.wrap (v3 + (1 : Int))))))
 (some (.inr (.inl ())))
noncomputable def s_CompareRationals (x0 : (List Int) × Int) (x1 : (List Int) × Int) : Option (Int) :=
(s_l6Fine (x0.1, x0.2)).bind fun v1 => cond (!v1)
 (some (0 : Int))
 ((s_l6Fine (x1.1, x1.2)).bind fun v2 => cond (!v2)
 (some (0 : Int))
 (cond ((x0.1.length : Int) != (x1.1.length : Int))
 (some (0 : Int))
 ((iter (s_CompareRationals_s4 x0 x1) (0 : Int)).bind fun v7 => match v7 with
 | .inl v8 => (some (0 : Int))
 | .inr v9 => (some v9))))
noncomputable def e_s_CompareRationals : CallE := ⟨150, [.d false (.prod (.list (.int .i64)) (.int .i64)), .d false (.prod (.list (.int .i64)) (.int .i64))], [.l (.d false (.int .i64))], fun x => s_CompareRationals x.1 x.2⟩
noncomputable def c_s_CompareRationals : Ctx := ⟨Tryz.prog, TT, [e_s_l6Fine, e_s_l1Bit], [⟨4, [(5, .l (.d false (.int .i64)))], some (0, []), some [(4, .l (.d false (.int .i64)))], false, none⟩], [⟨6, [], [], [], 0⟩, ⟨7, [], [], [], 0⟩], [], [], []⟩
theorem k_s_CompareRationals (x : PMs.den e_s_CompareRationals.ps) : funK c_s_CompareRationals Tryz.f150 e_s_CompareRationals.ps e_s_CompareRationals.rs x = e_s_CompareRationals.F x := by kernel_rfl
theorem o_s_CompareRationals {D : Prop} : FnOk Tryz.prog e_s_CompareRationals.f ∧ Ctr D Tryz.prog e_s_CompareRationals := mkCtr (C := c_s_CompareRationals) m_ (⟨o_s_l6Fine, o_s_l1Bit, trivial⟩) Tryz.func150 (by kernel_rfl) k_s_CompareRationals
/-! loop.example/g00959/spec.l6Put -/
noncomputable def s_l6Put_s2 (x1 : (List Int) × Int) (v1 : (List ((List Int) × Int)) × Int) : Option (((List ((List Int) × Int)) × Int) ⊕ ((List ((List Int) × Int)) × Int)) :=
 cond (decide (v1.2 > (0 : Int)))
 ((inIdx v1.1.length (IntKind.i64.wrap (v1.2 - (1 : Int)))).bind fun _ => (idx v1.1 ((((IntKind.i64.wrap (v1.2 - (1 : Int)))).toNat : Nat) : Int)).bind fun v2 => (s_CompareRationals (x1.1, x1.2) v2).bind fun v3 => cond (decide (v3 < (0 : Int)))
 (some (.inl (v1.1, (IntKind.i64.wrap (v1.2 - (1 : Int))))))
 (some (.inr (v1.1, v1.2))))
 (some (.inr (v1.1, v1.2)))
noncomputable def s_l6Put (x0 : List ((List Int) × Int)) (x1 : (List Int) × Int) : Option (List ((List Int) × Int)) :=
(iter (s_l6Put_s2 x1) (x0, (x0.length : Int))).bind fun v4 => cond (decide (v4.2 > (0 : Int)))
 ((inIdx v4.1.length (IntKind.i64.wrap (v4.2 - (1 : Int)))).bind fun _ => (idx v4.1 ((((IntKind.i64.wrap (v4.2 - (1 : Int)))).toNat : Nat) : Int)).bind fun v5 => (s_CompareRationals (x1.1, x1.2) v5).bind fun v6 => cond (v6 == (0 : Int))
 (some v4.1)
 ((subl v4.1 v4.2 (v4.1.length : Int)).bind fun v7 => (subl v4.1 ((v4.2).toNat : Int) (((v4.1.length : Int)).toNat : Int)).bind fun v8 => (appD 32 ([] : List ((List Int) × Int)) v8).bind fun v9 => (subl v4.1 0 v4.2).bind fun v10 => (appD 32 v10 ([(x1.1, x1.2)] : List ((List Int) × Int))).bind fun v11 => (appD 32 v11 v9).bind fun v12 => some v12))
 ((subl v4.1 v4.2 (v4.1.length : Int)).bind fun v13 => (subl v4.1 ((v4.2).toNat : Int) (((v4.1.length : Int)).toNat : Int)).bind fun v14 => (appD 32 ([] : List ((List Int) × Int)) v14).bind fun v15 => (subl v4.1 0 v4.2).bind fun v16 => (appD 32 v16 ([(x1.1, x1.2)] : List ((List Int) × Int))).bind fun v17 => (appD 32 v17 v15).bind fun v18 => some v18)
noncomputable def e_s_l6Put : CallE := ⟨121, [.mv false 78 (.prod (.list (.int .i64)) (.int .i64)), .d false (.prod (.list (.int .i64)) (.int .i64))], [.l (.o false 78 (.prod (.list (.int .i64)) (.int .i64)))], fun x => s_l6Put x.1 x.2⟩
noncomputable def c_s_l6Put : Ctx := ⟨Tryz.prog, TT, [e_s_CompareRationals], [⟨2, [(0, .l (.o false 78 (.prod (.list (.int .i64)) (.int .i64)))), (5, .l (.d false (.int .i64)))], some (0, [(0, .l (.o false 78 (.prod (.list (.int .i64)) (.int .i64)))), (5, .l (.d false (.int .i64)))]), none, false, none⟩], [⟨2, [], [], [], 0⟩, ⟨4, [], [], [], 0⟩, ⟨7, [], [], [], 0⟩], [], [37], [(7, [0, 1, 2, 6, 3, 4, 5, 7, 8])]⟩
theorem k_s_l6Put (x : PMs.den e_s_l6Put.ps) : funK c_s_l6Put Tryz.f121 e_s_l6Put.ps e_s_l6Put.rs x = e_s_l6Put.F x := by kernel_rfl
theorem o_s_l6Put {D : Prop} : FnOk Tryz.prog e_s_l6Put.f ∧ Ctr D Tryz.prog e_s_l6Put := mkCtr (C := c_s_l6Put) m_ (⟨o_s_CompareRationals, trivial⟩) Tryz.func121 (by kernel_rfl) k_s_l6Put
/-! loop.example/g00959/spec.l6Choose -/
noncomputable def s_l6Choose_s7 (rec : (Int × (List ((List Int) × Int))) → (Int) → (List ((List Int) × Int)) → (List ((List Int) × Int)) → Option (List ((List Int) × Int))) (x0 : Int × (List ((List Int) × Int))) (x2 : List ((List Int) × Int)) (v4 : (List ((List Int) × Int)) × Int) : Option (((List ((List Int) × Int)) × Int) ⊕ (List ((List Int) × Int))) :=
 cond (decide (v4.2 < (x0.2.length : Int)))
 ((appD 32 ([] : List ((List Int) × Int)) x2).bind fun v5 => (idx x0.2 v4.2).bind fun v6 => (appD 32 v5 ([(v6.1, v6.2)] : List ((List Int) × Int))).bind fun v7 => (rec (x0.1, x0.2) (IntKind.i64.wrap (v4.2 + (1 : Int))) v7 v4.1).bind fun v8 => some (.inl (v8, (IntKind.i64.wrap (v4.2 + (1 : Int))))))
 (some (.inr v4.1))
noncomputable def s_l6ChooseB (rec : (Int × (List ((List Int) × Int))) → (Int) → (List ((List Int) × Int)) → (List ((List Int) × Int)) → Option (List ((List Int) × Int))) (x0 : Int × (List ((List Int) × Int))) (x1 : Int) (x2 : List ((List Int) × Int)) (x3 : List ((List Int) × Int)) : Option (List ((List Int) × Int)) :=
 cond ((x2.length : Int) == x0.1)
 ((s_l6Solve x2).bind fun v1 => cond v1.2
 ((s_HasRational (x0.1, x0.2) (v1.1.1, v1.1.2)).bind fun v2 => cond v2
 ((s_l6Put x3 (v1.1.1, v1.1.2)).bind fun v3 => some v3)
 (some x3))
 (some x3))
 ((iter (s_l6Choose_s7 rec x0 x2) (x3, x1)).bind fun v9 => some v9)
noncomputable def s_l6ChooseR : Nat → (Int × (List ((List Int) × Int))) → (Int) → (List ((List Int) × Int)) → (List ((List Int) × Int)) → Option (List ((List Int) × Int))
  | 0 => fun _ _ _ _ => none
  | n + 1 => s_l6ChooseB (s_l6ChooseR n)
noncomputable def s_l6Choose (x0 : Int × (List ((List Int) × Int))) (x1 : Int) (x2 : List ((List Int) × Int)) (x3 : List ((List Int) × Int)) : Option (List ((List Int) × Int)) := s_l6ChooseR 30000 x0 x1 x2 x3
noncomputable def e_s_l6Choose : CallE := ⟨103, [.d false (.prod (.int .i64) (.list (.prod (.list (.int .i64)) (.int .i64)))), .d false (.int .i64), .d false (.list (.prod (.list (.int .i64)) (.int .i64))), .mv false 78 (.prod (.list (.int .i64)) (.int .i64))], [.l (.o false 78 (.prod (.list (.int .i64)) (.int .i64)))], fun x => s_l6Choose x.1 x.2.1 x.2.2.1 x.2.2.2⟩
noncomputable def r_s_l6Choose (rec : (Int × (List ((List Int) × Int))) → (Int) → (List ((List Int) × Int)) → (List ((List Int) × Int)) → Option (List ((List Int) × Int))) : CallE := ⟨103, [.d false (.prod (.int .i64) (.list (.prod (.list (.int .i64)) (.int .i64)))), .d false (.int .i64), .d false (.list (.prod (.list (.int .i64)) (.int .i64))), .mv false 78 (.prod (.list (.int .i64)) (.int .i64))], [.l (.o false 78 (.prod (.list (.int .i64)) (.int .i64)))], fun x => rec x.1 x.2.1 x.2.2.1 x.2.2.2⟩
noncomputable def c_s_l6Choose (rec : (Int × (List ((List Int) × Int))) → (Int) → (List ((List Int) × Int)) → (List ((List Int) × Int)) → Option (List ((List Int) × Int))) : Ctx := ⟨Tryz.prog, TT, [e_s_l6Solve, e_s_HasRational, e_s_l6Put, r_s_l6Choose rec], [⟨7, [(3, .l (.o false 78 (.prod (.list (.int .i64)) (.int .i64)))), (11, .l (.d false (.int .i64)))], some (0, [(3, .l (.o false 78 (.prod (.list (.int .i64)) (.int .i64))))]), none, false, none⟩], [⟨9, [], [], [], 0⟩], [], [], []⟩
theorem k_s_l6Choose (rec : (Int × (List ((List Int) × Int))) → (Int) → (List ((List Int) × Int)) → (List ((List Int) × Int)) → Option (List ((List Int) × Int))) (x : PMs.den (r_s_l6Choose rec).ps) : funK (c_s_l6Choose rec) Tryz.f103 (r_s_l6Choose rec).ps (r_s_l6Choose rec).rs x = (r_s_l6Choose (s_l6ChooseB rec)).F x := by kernel_rfl
theorem oB_s_l6Choose {D : Prop} (rec : (Int × (List ((List Int) × Int))) → (Int) → (List ((List Int) × Int)) → (List ((List Int) × Int)) → Option (List ((List Int) × Int))) (h : FnOk Tryz.prog (r_s_l6Choose rec).f ∧ Ctr D Tryz.prog (r_s_l6Choose rec)) : FnOk Tryz.prog (r_s_l6Choose (s_l6ChooseB rec)).f ∧ Ctr D Tryz.prog (r_s_l6Choose (s_l6ChooseB rec)) := mkCtr (C := c_s_l6Choose rec) m_ (⟨o_s_l6Solve, o_s_HasRational, o_s_l6Put, h, trivial⟩) Tryz.func103 (by kernel_rfl) (k_s_l6Choose rec)
theorem oA_s_l6Choose {D : Prop} : (n : Nat) → FnOk Tryz.prog (r_s_l6Choose (s_l6ChooseR n)).f ∧ Ctr D Tryz.prog (r_s_l6Choose (s_l6ChooseR n))
  | 0 => ⟨⟨Tryz.f103, _, Tryz.func103, by kernel_rfl, rfl⟩, fun x r h => by cases h⟩
  | n + 1 => oB_s_l6Choose _ (oA_s_l6Choose n)
theorem o_s_l6Choose {D : Prop} : FnOk Tryz.prog e_s_l6Choose.f ∧ Ctr D Tryz.prog e_s_l6Choose := oA_s_l6Choose 30000
/-! loop.example/g00959/spec.VerticesOf -/
noncomputable def s_VerticesOf (x0 : Int × (List ((List Int) × Int))) : Option (List ((List Int) × Int)) :=
(s_IsRegion (x0.1, x0.2)).bind fun v1 => cond (!v1)
 (some ([] : List ((List Int) × Int)))
 ((s_l6Choose (x0.1, x0.2) (0 : Int) ([] : List ((List Int) × Int)) ([] : List ((List Int) × Int))).bind fun v2 => some v2)
noncomputable def e_s_VerticesOf : CallE := ⟨62, [.d false (.prod (.int .i64) (.list (.prod (.list (.int .i64)) (.int .i64))))], [.l (.o false 78 (.prod (.list (.int .i64)) (.int .i64)))], fun x => s_VerticesOf x⟩
noncomputable def c_s_VerticesOf : Ctx := ⟨Tryz.prog, TT, [e_s_IsRegion, e_s_l6Choose], [], [], [], [], []⟩
theorem k_s_VerticesOf (x : PMs.den e_s_VerticesOf.ps) : funK c_s_VerticesOf Tryz.f62 e_s_VerticesOf.ps e_s_VerticesOf.rs x = e_s_VerticesOf.F x := by kernel_rfl
theorem o_s_VerticesOf {D : Prop} : FnOk Tryz.prog e_s_VerticesOf.f ∧ Ctr D Tryz.prog e_s_VerticesOf := mkCtr (C := c_s_VerticesOf) m_ (⟨o_s_IsRegion, o_s_l6Choose, trivial⟩) Tryz.func62 (by kernel_rfl) k_s_VerticesOf
/-! loop.example/g00959/spec.IsTight -/
noncomputable def s_IsTight_s11 (v2 : List (List Int)) (v3 : List ((List Int) × Int)) (v4 : Int) (v5 : Bool × Int) : Option ((Bool × Int) ⊕ (Bool)) :=
 cond (decide (v5.2 < (v2.length : Int)))
 (cond v5.1
 (some (.inl (true, (IntKind.i64.wrap (v5.2 + (1 : Int))))))
 ((idx v3 v4).bind fun v6 => cond (v6.2 == (1 : Int))
 ((idx v2 v5.2).bind fun v7 => (idx v3 v4).bind fun v8 => (s_l2Same v7 v8.1).bind fun v9 => some (.inl (v9, (IntKind.i64.wrap (v5.2 + (1 : Int))))))
 (some (.inl (false, (IntKind.i64.wrap (v5.2 + (1 : Int))))))))
 (some (.inr v5.1))
noncomputable def s_IsTight_s7 (v2 : List (List Int)) (v3 : List ((List Int) × Int)) (v4 : Int) : Option ((Int) ⊕ ((Unit) ⊕ (Bool))) :=
 cond (decide (v4 < (v3.length : Int)))
 ((iter (s_IsTight_s11 v2 v3 v4) (false, (0 : Int))).bind fun v10 => cond (!v10)
 (some (.inr (.inr false)))
 (some (.inl (IntKind.i64.wrap (v4 + (1 : Int))))))
 (some (.inr (.inl ())))
noncomputable def s_IsTight (x0 : Int × (List ((List Int) × Int))) : Option (Bool) :=
(s_WholeHull (x0.1, x0.2)).bind fun v1 => cond (!v1.2)
 (some false)
 ((s_PointsIn (x0.1, x0.2)).bind fun v2 => (s_VerticesOf (x0.1, x0.2)).bind fun v3 => (iter (s_IsTight_s7 v2 v3) (0 : Int)).bind fun v11 => match v11 with
 | .inl v12 => (some true)
 | .inr v13 => (some v13))
noncomputable def e_s_IsTight : CallE := ⟨23, [.d false (.prod (.int .i64) (.list (.prod (.list (.int .i64)) (.int .i64))))], [.l (.d false .bool)], fun x => s_IsTight x⟩
noncomputable def c_s_IsTight : Ctx := ⟨Tryz.prog, TT, [e_s_WholeHull, e_s_PointsIn, e_s_VerticesOf, e_s_l2Same], [⟨7, [(7, .l (.d false (.int .i64)))], some (0, []), some [(2, .l (.d false .bool))], false, none⟩, ⟨11, [(8, .l (.d false .bool)), (9, .l (.d false (.int .i64)))], some (2, [(8, .l (.d false .bool))]), none, false, none⟩], [⟨13, [], [], [], 0⟩], [], [], []⟩
theorem k_s_IsTight (x : PMs.den e_s_IsTight.ps) : funK c_s_IsTight Tryz.f23 e_s_IsTight.ps e_s_IsTight.rs x = e_s_IsTight.F x := by kernel_rfl
theorem o_s_IsTight {D : Prop} : FnOk Tryz.prog e_s_IsTight.f ∧ Ctr D Tryz.prog e_s_IsTight := mkCtr (C := c_s_IsTight) m_ (⟨o_s_WholeHull, o_s_PointsIn, o_s_VerticesOf, o_s_l2Same, trivial⟩) Tryz.func23 (by kernel_rfl) k_s_IsTight
/-! loop.example/g00959/laws.szIntS -/
noncomputable def w_szIntS (x0 : List Int) (x1 : Int) : Option (Int) :=
 cond (decide ((IntKind.i64.wrap (x1 - (x0.length : Int))) < (0 : Int)))
 (some (-1 : Int))
 (some (IntKind.i64.wrap (x1 - (x0.length : Int))))
noncomputable def e_w_szIntS : CallE := ⟨122, [.d false (.list (.int .i64)), .d false (.int .i64)], [.l (.d false (.int .i64))], fun x => w_szIntS x.1 x.2⟩
noncomputable def c_w_szIntS : Ctx := ⟨Tryz.prog, TT, [], [], [], [], [], []⟩
theorem k_w_szIntS (x : PMs.den e_w_szIntS.ps) : funK c_w_szIntS Tryz.f122 e_w_szIntS.ps e_w_szIntS.rs x = e_w_szIntS.F x := by kernel_rfl
theorem o_w_szIntS {D : Prop} : FnOk Tryz.prog e_w_szIntS.f ∧ Ctr D Tryz.prog e_w_szIntS := mkCtr (C := c_w_szIntS) m_ (trivial) Tryz.func122 (by kernel_rfl) k_w_szIntS
/-! loop.example/g00959/laws.szHalf -/
noncomputable def w_szHalf (x0 : (List Int) × Int) (x1 : Int) : Option (Int) :=
(w_szIntS x0.1 x1).bind fun v1 => cond (decide (v1 < (0 : Int)))
 (some (-1 : Int))
 (some v1)
noncomputable def e_w_szHalf : CallE := ⟨104, [.d false (.prod (.list (.int .i64)) (.int .i64)), .d false (.int .i64)], [.l (.d false (.int .i64))], fun x => w_szHalf x.1 x.2⟩
noncomputable def c_w_szHalf : Ctx := ⟨Tryz.prog, TT, [e_w_szIntS], [], [], [], [], []⟩
theorem k_w_szHalf (x : PMs.den e_w_szHalf.ps) : funK c_w_szHalf Tryz.f104 e_w_szHalf.ps e_w_szHalf.rs x = e_w_szHalf.F x := by kernel_rfl
theorem o_w_szHalf {D : Prop} : FnOk Tryz.prog e_w_szHalf.f ∧ Ctr D Tryz.prog e_w_szHalf := mkCtr (C := c_w_szHalf) m_ (⟨o_w_szIntS, trivial⟩) Tryz.func104 (by kernel_rfl) k_w_szHalf
/-! loop.example/g00959/laws.szHalfS -/
noncomputable def w_szHalfS_s5 (x0 : List ((List Int) × Int)) (v1 : Int × Int) : Option ((Int × Int) ⊕ ((Int) ⊕ (Int))) :=
 cond (decide (v1.2 < (x0.length : Int)))
 ((idx x0 v1.2).bind fun v2 => (w_szHalf v2 v1.1).bind fun v3 => cond (decide (v3 < (0 : Int)))
 (some (.inr (.inr (-1 : Int))))
 (some (.inl (v3, (IntKind.i64.wrap (v1.2 + (1 : Int)))))))
 (some (.inr (.inl v1.1)))
noncomputable def w_szHalfS (x0 : List ((List Int) × Int)) (x1 : Int) : Option (Int) :=
 cond (decide ((IntKind.i64.wrap (x1 - (x0.length : Int))) < (0 : Int)))
 (some (-1 : Int))
 ((iter (w_szHalfS_s5 x0) ((IntKind.i64.wrap (x1 - (x0.length : Int))), (0 : Int))).bind fun v4 => match v4 with
 | .inl v5 => (some v5)
 | .inr v6 => (some v6))
noncomputable def e_w_szHalfS : CallE := ⟨65, [.d false (.list (.prod (.list (.int .i64)) (.int .i64))), .d false (.int .i64)], [.l (.d false (.int .i64))], fun x => w_szHalfS x.1 x.2⟩
noncomputable def c_w_szHalfS : Ctx := ⟨Tryz.prog, TT, [e_w_szHalf], [⟨5, [(1, .l (.d false (.int .i64))), (5, .l (.d false (.int .i64)))], some (0, [(1, .l (.d false (.int .i64)))]), some [(4, .l (.d false (.int .i64)))], false, none⟩], [], [], [], []⟩
theorem k_w_szHalfS (x : PMs.den e_w_szHalfS.ps) : funK c_w_szHalfS Tryz.f65 e_w_szHalfS.ps e_w_szHalfS.rs x = e_w_szHalfS.F x := by kernel_rfl
theorem o_w_szHalfS {D : Prop} : FnOk Tryz.prog e_w_szHalfS.f ∧ Ctr D Tryz.prog e_w_szHalfS := mkCtr (C := c_w_szHalfS) m_ (⟨o_w_szHalf, trivial⟩) Tryz.func65 (by kernel_rfl) k_w_szHalfS
/-! loop.example/g00959/laws.szRegion -/
noncomputable def w_szRegion (x0 : Int × (List ((List Int) × Int))) (x1 : Int) : Option (Int) :=
(w_szHalfS x0.2 x1).bind fun v1 => cond (decide (v1 < (0 : Int)))
 (some (-1 : Int))
 (some v1)
noncomputable def e_w_szRegion : CallE := ⟨28, [.d false (.prod (.int .i64) (.list (.prod (.list (.int .i64)) (.int .i64)))), .d false (.int .i64)], [.l (.d false (.int .i64))], fun x => w_szRegion x.1 x.2⟩
noncomputable def c_w_szRegion : Ctx := ⟨Tryz.prog, TT, [e_w_szHalfS], [], [], [], [], []⟩
theorem k_w_szRegion (x : PMs.den e_w_szRegion.ps) : funK c_w_szRegion Tryz.f28 e_w_szRegion.ps e_w_szRegion.rs x = e_w_szRegion.F x := by kernel_rfl
theorem o_w_szRegion {D : Prop} : FnOk Tryz.prog e_w_szRegion.f ∧ Ctr D Tryz.prog e_w_szRegion := mkCtr (C := c_w_szRegion) m_ (⟨o_w_szHalfS, trivial⟩) Tryz.func28 (by kernel_rfl) k_w_szRegion
/-! loop.example/g00959/laws.toIntS -/
noncomputable def w_toIntS_s3 (x0 : List Int) (v2 : List Int × Int) : Option ((List Int × Int) ⊕ (List Int)) :=
 cond (decide (v2.2 < (x0.length : Int)))
 ((idx x0 v2.2).bind fun v3 => (inIdx v2.1.length v2.2).bind fun _ => (inIdx v2.1.length (((v2.2).toNat : Nat) : Int)).bind fun _ => some (.inl ((v2.1.set ((v2.2).toNat) v3), (IntKind.i64.wrap (v2.2 + (1 : Int))))))
 (some (.inr v2.1))
noncomputable def w_toIntS (x0 : List Int) : Option (List Int) :=
(mkD 8 (x0.length : Int) (0 : Int)).bind fun v1 => (iter (w_toIntS_s3 x0) (v1, (0 : Int))).bind fun v4 => some v4
noncomputable def e_w_toIntS : CallE := ⟨123, [.d false (.list (.int .i64))], [.l (.o true 3 (.int .i64))], fun x => w_toIntS x⟩
noncomputable def c_w_toIntS : Ctx := ⟨Tryz.prog, TT, [], [⟨3, [(3, .l (.o true 3 (.int .i64))), (4, .l (.d false (.int .i64)))], some (0, [(3, .l (.o true 3 (.int .i64)))]), none, false, none⟩], [], [], [], []⟩
theorem k_w_toIntS (x : PMs.den e_w_toIntS.ps) : funK c_w_toIntS Tryz.f123 e_w_toIntS.ps e_w_toIntS.rs x = e_w_toIntS.F x := by kernel_rfl
theorem o_w_toIntS {D : Prop} : FnOk Tryz.prog e_w_toIntS.f ∧ Ctr D Tryz.prog e_w_toIntS := mkCtr (C := c_w_toIntS) m_ (trivial) Tryz.func123 (by kernel_rfl) k_w_toIntS
/-! loop.example/g00959/laws.toHalf -/
noncomputable def w_toHalf (x0 : (List Int) × Int) : Option (List Int × Int) :=
(w_toIntS x0.1).bind fun v1 => some (v1, x0.2)
noncomputable def e_w_toHalf : CallE := ⟨105, [.d false (.prod (.list (.int .i64)) (.int .i64))], [.a [(.o true 3 (.int .i64)), (.d false (.int .i64))]], fun x => w_toHalf x⟩
noncomputable def c_w_toHalf : Ctx := ⟨Tryz.prog, TT, [e_w_toIntS], [], [], [], [], []⟩
theorem k_w_toHalf (x : PMs.den e_w_toHalf.ps) : funK c_w_toHalf Tryz.f105 e_w_toHalf.ps e_w_toHalf.rs x = e_w_toHalf.F x := by kernel_rfl
theorem o_w_toHalf {D : Prop} : FnOk Tryz.prog e_w_toHalf.f ∧ Ctr D Tryz.prog e_w_toHalf := mkCtr (C := c_w_toHalf) m_ (⟨o_w_toIntS, trivial⟩) Tryz.func105 (by kernel_rfl) k_w_toHalf
/-! loop.example/g00959/laws.toHalfS -/
noncomputable def w_toHalfS_s3 (x0 : List ((List Int) × Int)) (v2 : (List ((List Int) × Int)) × Int) : Option (((List ((List Int) × Int)) × Int) ⊕ (List ((List Int) × Int))) :=
 cond (decide (v2.2 < (x0.length : Int)))
 ((idx x0 v2.2).bind fun v3 => (w_toHalf v3).bind fun v4 => (inIdx v2.1.length v2.2).bind fun _ => (inIdx v2.1.length (((v2.2).toNat : Nat) : Int)).bind fun _ => some (.inl ((v2.1.set ((v2.2).toNat) (v4.1, v4.2)), (IntKind.i64.wrap (v2.2 + (1 : Int))))))
 (some (.inr v2.1))
noncomputable def w_toHalfS (x0 : List ((List Int) × Int)) : Option (List ((List Int) × Int)) :=
(mkD 32 (x0.length : Int) (([] : List Int), (0 : Int))).bind fun v1 => (iter (w_toHalfS_s3 x0) (v1, (0 : Int))).bind fun v5 => some v5
noncomputable def e_w_toHalfS : CallE := ⟨66, [.d false (.list (.prod (.list (.int .i64)) (.int .i64)))], [.l (.o true 64 (.prod (.list (.int .i64)) (.int .i64)))], fun x => w_toHalfS x⟩
noncomputable def c_w_toHalfS : Ctx := ⟨Tryz.prog, TT, [e_w_toHalf], [⟨3, [(3, .l (.o true 64 (.prod (.list (.int .i64)) (.int .i64)))), (4, .l (.d false (.int .i64)))], some (0, [(3, .l (.o true 64 (.prod (.list (.int .i64)) (.int .i64))))]), none, false, none⟩], [], [], [], []⟩
theorem k_w_toHalfS (x : PMs.den e_w_toHalfS.ps) : funK c_w_toHalfS Tryz.f66 e_w_toHalfS.ps e_w_toHalfS.rs x = e_w_toHalfS.F x := by kernel_rfl
theorem o_w_toHalfS {D : Prop} : FnOk Tryz.prog e_w_toHalfS.f ∧ Ctr D Tryz.prog e_w_toHalfS := mkCtr (C := c_w_toHalfS) m_ (⟨o_w_toHalf, trivial⟩) Tryz.func66 (by kernel_rfl) k_w_toHalfS
/-! loop.example/g00959/laws.toRegion -/
noncomputable def w_toRegion (x0 : Int × (List ((List Int) × Int))) : Option (Int × List ((List Int) × Int)) :=
(w_toHalfS x0.2).bind fun v1 => some (x0.1, v1)
noncomputable def e_w_toRegion : CallE := ⟨29, [.d false (.prod (.int .i64) (.list (.prod (.list (.int .i64)) (.int .i64))))], [.a [(.d false (.int .i64)), (.o true 64 (.prod (.list (.int .i64)) (.int .i64)))]], fun x => w_toRegion x⟩
noncomputable def c_w_toRegion : Ctx := ⟨Tryz.prog, TT, [e_w_toHalfS], [], [], [], [], []⟩
theorem k_w_toRegion (x : PMs.den e_w_toRegion.ps) : funK c_w_toRegion Tryz.f29 e_w_toRegion.ps e_w_toRegion.rs x = e_w_toRegion.F x := by kernel_rfl
theorem o_w_toRegion {D : Prop} : FnOk Tryz.prog e_w_toRegion.f ∧ Ctr D Tryz.prog e_w_toRegion := mkCtr (C := c_w_toRegion) m_ (⟨o_w_toHalfS, trivial⟩) Tryz.func29 (by kernel_rfl) k_w_toRegion
/-! loop.example/g00959/laws.eqIntS -/
noncomputable def w_eqIntS_s4 (x0 : List Int) (x1 : List Int) (v1 : Int) : Option ((Int) ⊕ ((Unit) ⊕ (Bool))) :=
 cond (decide (v1 < (x0.length : Int)))
 ((idx x0 v1).bind fun v2 => (idx x1 v1).bind fun v3 => cond (v2 != v3)
 (some (.inr (.inr false)))
 (some (.inl (IntKind.i64.wrap (v1 + (1 : Int))))))
 (some (.inr (.inl ())))
noncomputable def w_eqIntS (x0 : List Int) (x1 : List Int) : Option (Bool) :=
 cond ((x0.length : Int) != (x1.length : Int))
 (some false)
 ((iter (w_eqIntS_s4 x0 x1) (0 : Int)).bind fun v4 => match v4 with
 | .inl v5 => (some true)
 | .inr v6 => (some v6))
noncomputable def e_w_eqIntS : CallE := ⟨124, [.d false (.list (.int .i64)), .d false (.list (.int .i64))], [.l (.d false .bool)], fun x => w_eqIntS x.1 x.2⟩
noncomputable def c_w_eqIntS : Ctx := ⟨Tryz.prog, TT, [], [⟨4, [(5, .l (.d false (.int .i64)))], some (0, []), some [(4, .l (.d false .bool))], false, none⟩], [⟨6, [], [], [], 0⟩], [], [], []⟩
theorem k_w_eqIntS (x : PMs.den e_w_eqIntS.ps) : funK c_w_eqIntS Tryz.f124 e_w_eqIntS.ps e_w_eqIntS.rs x = e_w_eqIntS.F x := by kernel_rfl
theorem o_w_eqIntS {D : Prop} : FnOk Tryz.prog e_w_eqIntS.f ∧ Ctr D Tryz.prog e_w_eqIntS := mkCtr (C := c_w_eqIntS) m_ (trivial) Tryz.func124 (by kernel_rfl) k_w_eqIntS
/-! loop.example/g00959/laws.eqHalf -/
noncomputable def w_eqHalf (x0 : (List Int) × Int) (x1 : (List Int) × Int) : Option (Bool) :=
(w_eqIntS x0.1 x1.1).bind fun v1 => cond (!v1)
 (some false)
 (cond (x0.2 != x1.2)
 (some false)
 (some true))
noncomputable def e_w_eqHalf : CallE := ⟨106, [.d false (.prod (.list (.int .i64)) (.int .i64)), .d false (.prod (.list (.int .i64)) (.int .i64))], [.l (.d false .bool)], fun x => w_eqHalf x.1 x.2⟩
noncomputable def c_w_eqHalf : Ctx := ⟨Tryz.prog, TT, [e_w_eqIntS], [], [], [], [], []⟩
theorem k_w_eqHalf (x : PMs.den e_w_eqHalf.ps) : funK c_w_eqHalf Tryz.f106 e_w_eqHalf.ps e_w_eqHalf.rs x = e_w_eqHalf.F x := by kernel_rfl
theorem o_w_eqHalf {D : Prop} : FnOk Tryz.prog e_w_eqHalf.f ∧ Ctr D Tryz.prog e_w_eqHalf := mkCtr (C := c_w_eqHalf) m_ (⟨o_w_eqIntS, trivial⟩) Tryz.func106 (by kernel_rfl) k_w_eqHalf
/-! loop.example/g00959/laws.eqHalfS -/
noncomputable def w_eqHalfS_s4 (x0 : List ((List Int) × Int)) (x1 : List ((List Int) × Int)) (v1 : Int) : Option ((Int) ⊕ ((Unit) ⊕ (Bool))) :=
 cond (decide (v1 < (x0.length : Int)))
 ((idx x0 v1).bind fun v2 => (idx x1 v1).bind fun v3 => (w_eqHalf v2 v3).bind fun v4 => cond (!v4)
 (some (.inr (.inr false)))
 (some (.inl (IntKind.i64.wrap (v1 + (1 : Int))))))
 (some (.inr (.inl ())))
noncomputable def w_eqHalfS (x0 : List ((List Int) × Int)) (x1 : List ((List Int) × Int)) : Option (Bool) :=
 cond ((x0.length : Int) != (x1.length : Int))
 (some false)
 ((iter (w_eqHalfS_s4 x0 x1) (0 : Int)).bind fun v5 => match v5 with
 | .inl v6 => (some true)
 | .inr v7 => (some v7))
noncomputable def e_w_eqHalfS : CallE := ⟨67, [.d false (.list (.prod (.list (.int .i64)) (.int .i64))), .d false (.list (.prod (.list (.int .i64)) (.int .i64)))], [.l (.d false .bool)], fun x => w_eqHalfS x.1 x.2⟩
noncomputable def c_w_eqHalfS : Ctx := ⟨Tryz.prog, TT, [e_w_eqHalf], [⟨4, [(5, .l (.d false (.int .i64)))], some (0, []), some [(4, .l (.d false .bool))], false, none⟩], [⟨6, [], [], [], 0⟩], [], [], []⟩
theorem k_w_eqHalfS (x : PMs.den e_w_eqHalfS.ps) : funK c_w_eqHalfS Tryz.f67 e_w_eqHalfS.ps e_w_eqHalfS.rs x = e_w_eqHalfS.F x := by kernel_rfl
theorem o_w_eqHalfS {D : Prop} : FnOk Tryz.prog e_w_eqHalfS.f ∧ Ctr D Tryz.prog e_w_eqHalfS := mkCtr (C := c_w_eqHalfS) m_ (⟨o_w_eqHalf, trivial⟩) Tryz.func67 (by kernel_rfl) k_w_eqHalfS
/-! loop.example/g00959/laws.eqRegion -/
noncomputable def w_eqRegion (x0 : Int × (List ((List Int) × Int))) (x1 : Int × (List ((List Int) × Int))) : Option (Bool) :=
 cond (x0.1 != x1.1)
 (some false)
 ((w_eqHalfS x0.2 x1.2).bind fun v1 => cond (!v1)
 (some false)
 (some true))
noncomputable def e_w_eqRegion : CallE := ⟨30, [.d false (.prod (.int .i64) (.list (.prod (.list (.int .i64)) (.int .i64)))), .d false (.prod (.int .i64) (.list (.prod (.list (.int .i64)) (.int .i64))))], [.l (.d false .bool)], fun x => w_eqRegion x.1 x.2⟩
noncomputable def c_w_eqRegion : Ctx := ⟨Tryz.prog, TT, [e_w_eqHalfS], [], [], [], [], []⟩
theorem k_w_eqRegion (x : PMs.den e_w_eqRegion.ps) : funK c_w_eqRegion Tryz.f30 e_w_eqRegion.ps e_w_eqRegion.rs x = e_w_eqRegion.F x := by kernel_rfl
theorem o_w_eqRegion {D : Prop} : FnOk Tryz.prog e_w_eqRegion.f ∧ Ctr D Tryz.prog e_w_eqRegion := mkCtr (C := c_w_eqRegion) m_ (⟨o_w_eqHalfS, trivial⟩) Tryz.func30 (by kernel_rfl) k_w_eqRegion
/-! loop.example/g00959/laws.FnExactIsTight -/
noncomputable def w_FnExactIsTight (x0 : Int × (List ((List Int) × Int))) : Option (Bool) :=
(w_szRegion (x0.1, x0.2) (1048576 : Int)).bind fun v1 => cond (decide (v1 < (0 : Int)))
 (some true)
 ((w_toRegion (x0.1, x0.2)).bind fun v2 => (s_IsTight (v2.1, v2.2)).bind fun v3 => (w_toRegion (x0.1, x0.2)).bind fun v4 => (i_IsTight (v4.1, v4.2)).bind fun v5 => cond (!(v5 == v3))
 (some false)
 ((w_toRegion (x0.1, x0.2)).bind fun v6 => (w_eqRegion (v4.1, v4.2) (v6.1, v6.2)).bind fun v7 => cond (!v7)
 (some false)
 (some true)))
noncomputable def e_w_FnExactIsTight : CallE := ⟨4, [.d false (.prod (.int .i64) (.list (.prod (.list (.int .i64)) (.int .i64))))], [.l (.d false .bool)], fun x => w_FnExactIsTight x⟩
noncomputable def c_w_FnExactIsTight : Ctx := ⟨Tryz.prog, TT, [e_w_szRegion, e_w_toRegion, e_s_IsTight, e_i_IsTight, e_w_eqRegion], [], [⟨10, [], [], [], 0⟩], [], [], []⟩
theorem k_w_FnExactIsTight (x : PMs.den e_w_FnExactIsTight.ps) : funK c_w_FnExactIsTight Tryz.f4 e_w_FnExactIsTight.ps e_w_FnExactIsTight.rs x = e_w_FnExactIsTight.F x := by kernel_rfl
theorem o_w_FnExactIsTight {D : Prop} : FnOk Tryz.prog e_w_FnExactIsTight.f ∧ Ctr D Tryz.prog e_w_FnExactIsTight := mkCtr (C := c_w_FnExactIsTight) m_ (⟨o_w_szRegion, o_w_toRegion, o_s_IsTight, o_i_IsTight, o_w_eqRegion, trivial⟩) Tryz.func4 (by kernel_rfl) k_w_FnExactIsTight
end Go.Proofs.YtfknaeamhcpfgaaGreat
