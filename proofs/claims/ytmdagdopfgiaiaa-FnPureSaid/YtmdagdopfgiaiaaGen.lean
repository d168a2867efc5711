/- Plain functions. -/
import Derived.Test.YtmdagdopfgiaiaaProg
import Derived.Test.YtmdagdopfgiaiaaLay
import Derived.Test.YtmdagdopfgiaiaaEm7
import Derived.Test.YtmdagdopfgiaiaaEm9
import Derived.Test.YtmdagdopfgiaiaaEmW
import Derived.KernelRfl
namespace Go.Proofs.Ytmdagdopfgiaiaa
open Go Go.Proofs.Ytmdagdopfgiaiaa.Eng
set_option linter.unusedVariables false
set_option maxRecDepth 100000
noncomputable def TT : List (TypeId × Ty) := [(3, (.int .i64)), (5, (.int .u8)), (9, .str), (27, (.list (.int .i64)))]
theorem m_ : Try.prog.follows .mixedOrders = true := by kernel_rfl
/-! loop.example/g00959/laws.big -/
noncomputable def w_big (x0 : List Int) : Option (Bool) :=
 some (decide ((x0.length : Int) > (1048576 : Int)))
noncomputable def e_w_big : CallE := ⟨4, [.d false (.list (.int .u8))], [.l (.d false .bool)], fun x => w_big x⟩
noncomputable def c_w_big : Ctx := ⟨Try.prog, TT, [], [], [], [], [], []⟩
theorem k_w_big (x : PMs.den e_w_big.ps) : funK c_w_big Try.f4 e_w_big.ps e_w_big.rs x = e_w_big.F x := by kernel_rfl
theorem o_w_big {D : Prop} : FnOk Try.prog e_w_big.f ∧ Ctr D Try.prog e_w_big := mkCtr (C := c_w_big) m_ (trivial) Try.func4 (by kernel_rfl) k_w_big
/-! loop.example/g00959/spec.l1Byte -/
noncomputable def s_l1Byte (x0 : (List Int) × Int × Int) : Option ((Int) × ((List Int) × Int × Int) × Unit) :=
(shrI .i64 (IntKind.i64.wrap ((IntKind.i64.wrap (x0.2.2 * (6364136223846793005 : Int))) + (1442695040888963407 : Int))) (33 : Int)).bind fun v1 => (shrI .i64 (IntKind.i64.wrap ((IntKind.i64.wrap (x0.2.2 * (6364136223846793005 : Int))) + (1442695040888963407 : Int))) (45 : Int)).bind fun v2 => cond (decide (x0.2.1 < (x0.1.length : Int)))
 ((idx x0.1 x0.2.1).bind fun v3 => some ((andI .i64 (IntKind.i64.wrap ((andI .i64 (xorI .i64 v1 v2) (255 : Int)) + (IntKind.i64.wrap v3))) (255 : Int)), ((x0.1, ((IntKind.i64.wrap (x0.2.1 + (1 : Int))), (IntKind.i64.wrap ((IntKind.i64.wrap (x0.2.2 * (6364136223846793005 : Int))) + (1442695040888963407 : Int))))), ())))
 (some ((andI .i64 (xorI .i64 v1 v2) (255 : Int)), ((x0.1, (x0.2.1, (IntKind.i64.wrap ((IntKind.i64.wrap (x0.2.2 * (6364136223846793005 : Int))) + (1442695040888963407 : Int))))), ())))
noncomputable def e_s_l1Byte : CallE := ⟨48, [.cur 62], [.l (.d false (.int .i64))], fun x => s_l1Byte x⟩
noncomputable def c_s_l1Byte : Ctx := ⟨Try.prog, TT, [], [], [], [], [], []⟩
theorem k_s_l1Byte (x : PMs.den e_s_l1Byte.ps) : funK c_s_l1Byte Try.f48 e_s_l1Byte.ps e_s_l1Byte.rs x = e_s_l1Byte.F x := by kernel_rfl
theorem o_s_l1Byte {D : Prop} : FnOk Try.prog e_s_l1Byte.f ∧ Ctr D Try.prog e_s_l1Byte := mkCtr (C := c_s_l1Byte) m_ (trivial) Try.func48 (by kernel_rfl) k_s_l1Byte
/-! loop.example/g00959/spec.l1Below -/
noncomputable def s_l1Below (x0 : (List Int) × Int × Int) (x1 : Int) : Option ((Int) × ((List Int) × Int × Int) × Unit) :=
 cond (decide (x1 ≤ (0 : Int)))
 (some ((0 : Int), ((x0.1, (x0.2.1, x0.2.2)), ())))
 (cond (decide (x1 ≤ (256 : Int)))
 ((s_l1Byte (x0.1, (x0.2.1, x0.2.2))).bind fun v1 => (remI .i64 v1.1 x1).bind fun v2 => some (v2, ((v1.2.1.1, (v1.2.1.2.1, v1.2.1.2.2)), ())))
 ((s_l1Byte (x0.1, (x0.2.1, x0.2.2))).bind fun v3 => (s_l1Byte (v3.2.1.1, (v3.2.1.2.1, v3.2.1.2.2))).bind fun v4 => (s_l1Byte (v4.2.1.1, (v4.2.1.2.1, v4.2.1.2.2))).bind fun v5 => (s_l1Byte (v5.2.1.1, (v5.2.1.2.1, v5.2.1.2.2))).bind fun v6 => (remI .i64 (IntKind.i64.wrap ((IntKind.i64.wrap ((IntKind.i64.wrap ((IntKind.i64.wrap (v3.1 * (16777216 : Int))) + (IntKind.i64.wrap (v4.1 * (65536 : Int))))) + (IntKind.i64.wrap (v5.1 * (256 : Int))))) + v6.1)) x1).bind fun v7 => some (v7, ((v6.2.1.1, (v6.2.1.2.1, v6.2.1.2.2)), ()))))
noncomputable def e_s_l1Below : CallE := ⟨17, [.cur 62, .d false (.int .i64)], [.l (.d false (.int .i64))], fun x => s_l1Below x.1 x.2⟩
noncomputable def c_s_l1Below : Ctx := ⟨Try.prog, TT, [e_s_l1Byte], [], [], [], [], []⟩
theorem k_s_l1Below (x : PMs.den e_s_l1Below.ps) : funK c_s_l1Below Try.f17 e_s_l1Below.ps e_s_l1Below.rs x = e_s_l1Below.F x := by kernel_rfl
theorem o_s_l1Below {D : Prop} : FnOk Try.prog e_s_l1Below.f ∧ Ctr D Try.prog e_s_l1Below := mkCtr (C := c_s_l1Below) m_ (⟨o_s_l1Byte, trivial⟩) Try.func17 (by kernel_rfl) k_s_l1Below
/-! loop.example/g00959/spec.l2Draw -/
noncomputable def s_l2Draw_s3 (x1 : Int) (x2 : Int) (v1 : (List Int × Int × Int) × List Int × Int) : Option (((List Int × Int × Int) × List Int × Int) ⊕ ((List Int × Int × Int) × List Int)) :=
 cond (decide (v1.2.2 < x1))
 ((s_l1Below (v1.1.1, (v1.1.2.1, v1.1.2.2)) (IntKind.i64.wrap ((IntKind.i64.wrap ((2 : Int) * x2)) + (1 : Int)))).bind fun v2 => (appD 8 v1.2.1 ([(IntKind.i64.wrap (v2.1 - x2))] : List Int)).bind fun v3 => some (.inl ((v2.2.1.1, (v2.2.1.2.1, v2.2.1.2.2)), (v3, (IntKind.i64.wrap (v1.2.2 + (1 : Int)))))))
 (some (.inr ((v1.1.1, (v1.1.2.1, v1.1.2.2)), v1.2.1)))
noncomputable def s_l2Draw (x0 : (List Int) × Int × Int) (x1 : Int) (x2 : Int) : Option ((List Int) × ((List Int) × Int × Int) × Unit) :=
(iter (s_l2Draw_s3 x1 x2) ((x0.1, (x0.2.1, x0.2.2)), (([] : List Int), (0 : Int)))).bind fun v4 => some (v4.2, ((v4.1.1, (v4.1.2.1, v4.1.2.2)), ()))
noncomputable def e_s_l2Draw : CallE := ⟨18, [.cur 62, .d false (.int .i64), .d false (.int .i64)], [.l (.o true 3 (.int .i64))], fun x => s_l2Draw x.1 x.2.1 x.2.2⟩
noncomputable def c_s_l2Draw : Ctx := ⟨Try.prog, TT, [e_s_l1Below], [⟨3, [(0, .b 62 [(.d false (.list (.int .u8))), (.d false (.int .i64)), (.d false (.int .i64))]), (7, .l (.o true 3 (.int .i64))), (8, .l (.d false (.int .i64)))], some (0, [(0, .b 62 [(.d false (.list (.int .u8))), (.d false (.int .i64)), (.d false (.int .i64))]), (7, .l (.o true 3 (.int .i64)))]), none, false⟩], [], [], [], []⟩
theorem k_s_l2Draw (x : PMs.den e_s_l2Draw.ps) : funK c_s_l2Draw Try.f18 e_s_l2Draw.ps e_s_l2Draw.rs x = e_s_l2Draw.F x := by kernel_rfl
theorem o_s_l2Draw {D : Prop} : FnOk Try.prog e_s_l2Draw.f ∧ Ctr D Try.prog e_s_l2Draw := mkCtr (C := c_s_l2Draw) m_ (⟨o_s_l1Below, trivial⟩) Try.func18 (by kernel_rfl) k_s_l2Draw
/-! loop.example/g00959/spec.l1Once -/
noncomputable def s_l1Once (x0 : (List Int) × Int × Int) (x1 : Int) : Option ((Bool) × ((List Int) × Int × Int) × Unit) :=
(s_l1Below (x0.1, (x0.2.1, x0.2.2)) x1).bind fun v1 => some ((v1.1 == (0 : Int)), ((v1.2.1.1, (v1.2.1.2.1, v1.2.1.2.2)), ()))
noncomputable def e_s_l1Once : CallE := ⟨19, [.cur 62, .d false (.int .i64)], [.l (.d false .bool)], fun x => s_l1Once x.1 x.2⟩
noncomputable def c_s_l1Once : Ctx := ⟨Try.prog, TT, [e_s_l1Below], [], [], [], [], []⟩
theorem k_s_l1Once (x : PMs.den e_s_l1Once.ps) : funK c_s_l1Once Try.f19 e_s_l1Once.ps e_s_l1Once.rs x = e_s_l1Once.F x := by kernel_rfl
theorem o_s_l1Once {D : Prop} : FnOk Try.prog e_s_l1Once.f ∧ Ctr D Try.prog e_s_l1Once := mkCtr (C := c_s_l1Once) m_ (⟨o_s_l1Below, trivial⟩) Try.func19 (by kernel_rfl) k_s_l1Once
/-! loop.example/g00959/spec.DrawHullOf -/
noncomputable def s_DrawHullOf_s16_3 (x0 : List Int) (v1 : Int × Int) : Option ((Int × Int) ⊕ (Int)) :=
 cond (decide (v1.2 < (x0.length : Int)))
 (cond (decide (v1.2 < (4000 : Int)))
 ((idx x0 v1.2).bind fun v2 => some (.inl ((andI .i64 (IntKind.i64.wrap ((IntKind.i64.wrap ((IntKind.i64.wrap (v1.1 * (131 : Int))) + (IntKind.i64.wrap v2))) + (7 : Int))) (1073741823 : Int)), (IntKind.i64.wrap (v1.2 + (1 : Int))))))
 (some (.inr v1.1)))
 (some (.inr v1.1))
noncomputable def s_DrawHullOf_s5 (v4 : (Int) × ((List Int) × Int × Int) × Unit) (v5 : (List Int × Int × Int) × List (List Int) × Int) : Option (((List Int × Int × Int) × List (List Int) × Int) ⊕ ((List Int × Int × Int) × List (List Int))) :=
 cond (decide (v5.2.2 < v4.1))
 ((s_l2Draw (v5.1.1, (v5.1.2.1, v5.1.2.2)) (2 : Int) (5 : Int)).bind fun v6 => (appD 24 v5.2.1 ([v6.1] : List (List Int))).bind fun v7 => some (.inl ((v6.2.1.1, (v6.2.1.2.1, v6.2.1.2.2)), (v7, (IntKind.i64.wrap (v5.2.2 + (1 : Int)))))))
 (some (.inr ((v5.1.1, (v5.1.2.1, v5.1.2.2)), v5.2.1)))
noncomputable def s_DrawHullOf (x0 : List Int) : Option (List (List Int)) :=
(iter (s_DrawHullOf_s16_3 x0) ((IntKind.i64.wrap ((26583 : Int) + (x0.length : Int))), (0 : Int))).bind fun v3 => (s_l1Below (x0, ((0 : Int), v3)) (9 : Int)).bind fun v4 => (iter (s_DrawHullOf_s5 v4) ((v4.2.1.1, (v4.2.1.2.1, v4.2.1.2.2)), (([] : List (List Int)), (0 : Int)))).bind fun v8 => cond (decide (v4.1 > (0 : Int)))
 ((s_l1Once (v8.1.1, (v8.1.2.1, v8.1.2.2)) (12 : Int)).bind fun v9 => cond v9.1
 ((s_l1Below (v9.2.1.1, (v9.2.1.2.1, v9.2.1.2.2)) (2 : Int)).bind fun v10 => (s_l2Draw (v10.2.1.1, (v10.2.1.2.1, v10.2.1.2.2)) (IntKind.i64.wrap ((1 : Int) + v10.1)) (60 : Int)).bind fun v11 => (inIdx v8.2.length (0 : Int)).bind fun _ => (inIdx v8.2.length (((0 : Int)).toNat : Int)).bind fun _ => some (v8.2.set (((0 : Int)).toNat) v11.1))
 (some v8.2))
 (some v8.2)
noncomputable def e_s_DrawHullOf : CallE := ⟨5, [.d false (.list (.int .u8))], [.l (.o true 27 (.list (.int .i64)))], fun x => s_DrawHullOf x⟩
noncomputable def c_s_DrawHullOf_16 : Ctx := ⟨Try.prog, TT, [], [⟨3, [(3, .l (.d false (.int .i64))), (4, .l (.d false (.int .i64)))], some (0, [(3, .l (.d false (.int .i64)))]), none, true⟩], [], [], [], []⟩
noncomputable def n_s_DrawHullOf_16 : InE := ⟨16, false, inlK c_s_DrawHullOf_16 Try.f16⟩
theorem q_s_DrawHullOf_16 {D : Prop} : FnOk Try.prog n_s_DrawHullOf_16.f ∧ InOk D Try.prog n_s_DrawHullOf_16 := mkInl (C := c_s_DrawHullOf_16) m_ (trivial) Try.func16 (by kernel_rfl)
noncomputable def c_s_DrawHullOf : Ctx := ⟨Try.prog, TT, [e_s_l1Below, e_s_l2Draw, e_s_l1Once], [⟨5, [(3, .b 62 [(.d false (.list (.int .u8))), (.d false (.int .i64)), (.d false (.int .i64))]), (4, .l (.o true 27 (.list (.int .i64)))), (6, .l (.d false (.int .i64)))], some (0, [(3, .b 62 [(.d false (.list (.int .u8))), (.d false (.int .i64)), (.d false (.int .i64))]), (4, .l (.o true 27 (.list (.int .i64))))]), none, false⟩], [], [n_s_DrawHullOf_16], [], []⟩
theorem k_s_DrawHullOf (x : PMs.den e_s_DrawHullOf.ps) : funK c_s_DrawHullOf Try.f5 e_s_DrawHullOf.ps e_s_DrawHullOf.rs x = e_s_DrawHullOf.F x := by kernel_rfl
theorem o_s_DrawHullOf {D : Prop} : FnOk Try.prog e_s_DrawHullOf.f ∧ Ctr D Try.prog e_s_DrawHullOf := mkCtr (C := c_s_DrawHullOf) m_ (⟨o_s_l1Below, o_s_l2Draw, o_s_l1Once, trivial⟩) Try.func5 (by kernel_rfl) k_s_DrawHullOf ⟨q_s_DrawHullOf_16, trivial⟩
/-! loop.example/g00959/spec.l1In -/
noncomputable def s_l1In (x0 : Int) (x1 : Int) (x2 : Int) : Option (Bool) :=
 cond (decide (x0 ≥ x1))
 (some (decide (x0 ≤ x2)))
 (some false)
noncomputable def e_s_l1In : CallE := ⟨51, [.d false (.int .i64), .d false (.int .i64), .d false (.int .i64)], [.l (.d false .bool)], fun x => s_l1In x.1 x.2.1 x.2.2⟩
noncomputable def c_s_l1In : Ctx := ⟨Try.prog, TT, [], [], [], [], [], []⟩
theorem k_s_l1In (x : PMs.den e_s_l1In.ps) : funK c_s_l1In Try.f51 e_s_l1In.ps e_s_l1In.rs x = e_s_l1In.F x := by kernel_rfl
theorem o_s_l1In {D : Prop} : FnOk Try.prog e_s_l1In.f ∧ Ctr D Try.prog e_s_l1In := mkCtr (C := c_s_l1In) m_ (trivial) Try.func51 (by kernel_rfl) k_s_l1In
/-! loop.example/g00959/spec.l2Small -/
noncomputable def s_l2Small_s2 (x0 : List Int) (x1 : Int) (v1 : Int) : Option ((Int) ⊕ ((Unit) ⊕ (Bool))) :=
 cond (decide (v1 < (x0.length : Int)))
 ((idx x0 v1).bind fun v2 => (s_l1In v2 (IntKind.i64.wrap (0 - x1)) x1).bind fun v3 => cond (!v3)
 (some (.inr (.inr false)))
 (some (.inl (IntKind.i64.wrap (v1 + (1 : Int))))))
 (some (.inr (.inl ())))
noncomputable def s_l2Small (x0 : List Int) (x1 : Int) : Option (Bool) :=
(iter (s_l2Small_s2 x0 x1) (0 : Int)).bind fun v4 => match v4 with
 | .inl v5 => (some true)
 | .inr v6 => (some v6)
noncomputable def e_s_l2Small : CallE := ⟨63, [.d false (.list (.int .i64)), .d false (.int .i64)], [.l (.d false .bool)], fun x => s_l2Small x.1 x.2⟩
noncomputable def c_s_l2Small : Ctx := ⟨Try.prog, TT, [e_s_l1In], [⟨2, [(5, .l (.d false (.int .i64)))], some (0, []), some [(4, .l (.d false .bool))], false⟩], [], [], [], []⟩
theorem k_s_l2Small (x : PMs.den e_s_l2Small.ps) : funK c_s_l2Small Try.f63 e_s_l2Small.ps e_s_l2Small.rs x = e_s_l2Small.F x := by kernel_rfl
theorem o_s_l2Small {D : Prop} : FnOk Try.prog e_s_l2Small.f ∧ Ctr D Try.prog e_s_l2Small := mkCtr (C := c_s_l2Small) m_ (⟨o_s_l1In, trivial⟩) Try.func63 (by kernel_rfl) k_s_l2Small
/-! loop.example/g00959/spec.l7Flat -/
noncomputable def s_l7Flat_s2 (x0 : List (List Int)) (v1 : Int) : Option ((Int) ⊕ ((Unit) ⊕ (Bool))) :=
 cond (decide (v1 < (x0.length : Int)))
 ((idx x0 v1).bind fun v2 => cond ((v2.length : Int) != (2 : Int))
 (some (.inr (.inr false)))
 ((idx x0 v1).bind fun v3 => (s_l2Small v3 (50 : Int)).bind fun v4 => cond (!v4)
 (some (.inr (.inr false)))
 (some (.inl (IntKind.i64.wrap (v1 + (1 : Int)))))))
 (some (.inr (.inl ())))
noncomputable def s_l7Flat (x0 : List (List Int)) : Option (Bool) :=
(iter (s_l7Flat_s2 x0) (0 : Int)).bind fun v5 => match v5 with
 | .inl v6 => (some true)
 | .inr v7 => (some v7)
noncomputable def e_s_l7Flat : CallE := ⟨39, [.d false (.list (.list (.int .i64)))], [.l (.d false .bool)], fun x => s_l7Flat x⟩
noncomputable def c_s_l7Flat : Ctx := ⟨Try.prog, TT, [e_s_l2Small], [⟨2, [(3, .l (.d false (.int .i64)))], some (0, []), some [(2, .l (.d false .bool))], false⟩], [], [], [], []⟩
theorem k_s_l7Flat (x : PMs.den e_s_l7Flat.ps) : funK c_s_l7Flat Try.f39 e_s_l7Flat.ps e_s_l7Flat.rs x = e_s_l7Flat.F x := by kernel_rfl
theorem o_s_l7Flat {D : Prop} : FnOk Try.prog e_s_l7Flat.f ∧ Ctr D Try.prog e_s_l7Flat := mkCtr (C := c_s_l7Flat) m_ (⟨o_s_l2Small, trivial⟩) Try.func39 (by kernel_rfl) k_s_l7Flat
/-! loop.example/g00959/spec.l2Before -/
noncomputable def s_l2Before_s2 (x0 : List Int) (x1 : List Int) (v1 : Int) : Option ((Int) ⊕ ((Unit) ⊕ (Bool))) :=
 cond (decide (v1 < (x0.length : Int)))
 (cond (decide (v1 < (x1.length : Int)))
 ((idx x0 v1).bind fun v2 => (idx x1 v1).bind fun v3 => cond (v2 != v3)
 ((idx x0 v1).bind fun v4 => (idx x1 v1).bind fun v5 => some (.inr (.inr (decide (v4 < v5)))))
 (some (.inl (IntKind.i64.wrap (v1 + (1 : Int))))))
 (some (.inr (.inl ()))))
 (some (.inr (.inl ())))
noncomputable def s_l2Before (x0 : List Int) (x1 : List Int) : Option (Bool) :=
(iter (s_l2Before_s2 x0 x1) (0 : Int)).bind fun v6 => match v6 with
 | .inl v7 => (some false)
 | .inr v8 => (some v8)
noncomputable def e_s_l2Before : CallE := ⟨64, [.d false (.list (.int .i64)), .d false (.list (.int .i64))], [.l (.d false .bool)], fun x => s_l2Before x.1 x.2⟩
noncomputable def c_s_l2Before : Ctx := ⟨Try.prog, TT, [], [⟨2, [(5, .l (.d false (.int .i64)))], some (0, []), some [(4, .l (.d false .bool))], false⟩], [], [], [], []⟩
theorem k_s_l2Before (x : PMs.den e_s_l2Before.ps) : funK c_s_l2Before Try.f64 e_s_l2Before.ps e_s_l2Before.rs x = e_s_l2Before.F x := by kernel_rfl
theorem o_s_l2Before {D : Prop} : FnOk Try.prog e_s_l2Before.f ∧ Ctr D Try.prog e_s_l2Before := mkCtr (C := c_s_l2Before) m_ (trivial) Try.func64 (by kernel_rfl) k_s_l2Before
/-! loop.example/g00959/spec.l2Same -/
noncomputable def s_l2Same_s4 (x0 : List Int) (x1 : List Int) (v1 : Int) : Option ((Int) ⊕ ((Unit) ⊕ (Bool))) :=
 cond (decide (v1 < (x0.length : Int)))
 ((idx x0 v1).bind fun v2 => (idx x1 v1).bind fun v3 => cond (v2 != v3)
 (some (.inr (.inr false)))
 (some (.inl (IntKind.i64.wrap (v1 + (1 : Int))))))
 (some (.inr (.inl ())))
noncomputable def s_l2Same (x0 : List Int) (x1 : List Int) : Option (Bool) :=
 cond ((x0.length : Int) != (x1.length : Int))
 (some false)
 ((iter (s_l2Same_s4 x0 x1) (0 : Int)).bind fun v4 => match v4 with
 | .inl v5 => (some true)
 | .inr v6 => (some v6))
noncomputable def e_s_l2Same : CallE := ⟨65, [.d false (.list (.int .i64)), .d false (.list (.int .i64))], [.l (.d false .bool)], fun x => s_l2Same x.1 x.2⟩
noncomputable def c_s_l2Same : Ctx := ⟨Try.prog, TT, [], [⟨4, [(5, .l (.d false (.int .i64)))], some (0, []), some [(4, .l (.d false .bool))], false⟩], [], [], [], []⟩
theorem k_s_l2Same (x : PMs.den e_s_l2Same.ps) : funK c_s_l2Same Try.f65 e_s_l2Same.ps e_s_l2Same.rs x = e_s_l2Same.F x := by kernel_rfl
theorem o_s_l2Same {D : Prop} : FnOk Try.prog e_s_l2Same.f ∧ Ctr D Try.prog e_s_l2Same := mkCtr (C := c_s_l2Same) m_ (trivial) Try.func65 (by kernel_rfl) k_s_l2Same
/-! loop.example/g00959/spec.l2Put -/
noncomputable def s_l2Put_s2 (x1 : List Int) (v1 : List (List Int) × Int) : Option ((List (List Int) × Int) ⊕ (List (List Int) × Int)) :=
 cond (decide (v1.2 > (0 : Int)))
 ((inIdx v1.1.length (IntKind.i64.wrap (v1.2 - (1 : Int)))).bind fun _ => (idx v1.1 (((IntKind.i64.wrap (v1.2 - (1 : Int)))).toNat : Int)).bind fun v2 => (s_l2Before x1 v2).bind fun v3 => cond v3
 (some (.inl (v1.1, (IntKind.i64.wrap (v1.2 - (1 : Int))))))
 (some (.inr (v1.1, v1.2))))
 (some (.inr (v1.1, v1.2)))
noncomputable def s_l2Put (x0 : List (List Int)) (x1 : List Int) : Option (List (List Int)) :=
(iter (s_l2Put_s2 x1) (x0, (x0.length : Int))).bind fun v4 => cond (decide (v4.2 > (0 : Int)))
 ((inIdx v4.1.length (IntKind.i64.wrap (v4.2 - (1 : Int)))).bind fun _ => (idx v4.1 (((IntKind.i64.wrap (v4.2 - (1 : Int)))).toNat : Int)).bind fun v5 => (s_l2Same v5 x1).bind fun v6 => cond v6
 (some v4.1)
 ((subl v4.1 v4.2 (v4.1.length : Int)).bind fun v7 => (subl v4.1 ((v4.2).toNat : Int) (((v4.1.length : Int)).toNat : Int)).bind fun v8 => (appD 24 ([] : List (List Int)) v8).bind fun v9 => (subl v4.1 0 v4.2).bind fun v10 => (appD 8 ([] : List Int) x1).bind fun v11 => (appD 24 v10 ([v11] : List (List Int))).bind fun v12 => (appD 24 v12 v9).bind fun v13 => some v13))
 ((subl v4.1 v4.2 (v4.1.length : Int)).bind fun v14 => (subl v4.1 ((v4.2).toNat : Int) (((v4.1.length : Int)).toNat : Int)).bind fun v15 => (appD 24 ([] : List (List Int)) v15).bind fun v16 => (subl v4.1 0 v4.2).bind fun v17 => (appD 8 ([] : List Int) x1).bind fun v18 => (appD 24 v17 ([v18] : List (List Int))).bind fun v19 => (appD 24 v19 v16).bind fun v20 => some v20)
noncomputable def e_s_l2Put : CallE := ⟨40, [.mv false 27 (.list (.int .i64)), .d false (.list (.int .i64))], [.l (.o false 27 (.list (.int .i64)))], fun x => s_l2Put x.1 x.2⟩
noncomputable def c_s_l2Put : Ctx := ⟨Try.prog, TT, [e_s_l2Before, e_s_l2Same], [⟨2, [(0, .l (.o false 27 (.list (.int .i64)))), (5, .l (.d false (.int .i64)))], some (0, [(0, .l (.o false 27 (.list (.int .i64)))), (5, .l (.d false (.int .i64)))]), none, false⟩], [], [], [35], [(7, [0, 1, 2, 4, 8, 3, 5, 6, 7, 9, 10])]⟩
theorem k_s_l2Put (x : PMs.den e_s_l2Put.ps) : funK c_s_l2Put Try.f40 e_s_l2Put.ps e_s_l2Put.rs x = e_s_l2Put.F x := by kernel_rfl
theorem o_s_l2Put {D : Prop} : FnOk Try.prog e_s_l2Put.f ∧ Ctr D Try.prog e_s_l2Put := mkCtr (C := c_s_l2Put) m_ (⟨o_s_l2Before, o_s_l2Same, trivial⟩) Try.func40 (by kernel_rfl) k_s_l2Put
/-! loop.example/g00959/spec.l2Less -/
noncomputable def s_l2Less_s3 (x0 : List Int) (x1 : List Int) (v1 : List Int × Int) : Option ((List Int × Int) ⊕ (List Int)) :=
 cond (decide (v1.2 < (x0.length : Int)))
 ((idx x0 v1.2).bind fun v2 => (idx x1 v1.2).bind fun v3 => (appD 8 v1.1 ([(IntKind.i64.wrap (v2 - v3))] : List Int)).bind fun v4 => some (.inl (v4, (IntKind.i64.wrap (v1.2 + (1 : Int))))))
 (some (.inr v1.1))
noncomputable def s_l2Less (x0 : List Int) (x1 : List Int) : Option (List Int) :=
(iter (s_l2Less_s3 x0 x1) (([] : List Int), (0 : Int))).bind fun v5 => some v5
noncomputable def e_s_l2Less : CallE := ⟨69, [.d false (.list (.int .i64)), .d false (.list (.int .i64))], [.l (.o true 3 (.int .i64))], fun x => s_l2Less x.1 x.2⟩
noncomputable def c_s_l2Less : Ctx := ⟨Try.prog, TT, [], [⟨3, [(5, .l (.o true 3 (.int .i64))), (6, .l (.d false (.int .i64)))], some (0, [(5, .l (.o true 3 (.int .i64)))]), none, false⟩], [], [], [], []⟩
theorem k_s_l2Less (x : PMs.den e_s_l2Less.ps) : funK c_s_l2Less Try.f69 e_s_l2Less.ps e_s_l2Less.rs x = e_s_l2Less.F x := by kernel_rfl
theorem o_s_l2Less {D : Prop} : FnOk Try.prog e_s_l2Less.f ∧ Ctr D Try.prog e_s_l2Less := mkCtr (C := c_s_l2Less) m_ (trivial) Try.func69 (by kernel_rfl) k_s_l2Less
/-! loop.example/g00959/spec.l7Cross -/
noncomputable def s_l7Cross (x0 : List Int) (x1 : List Int) : Option (Int) :=
(idx x0 (0 : Int)).bind fun v1 => (idx x1 (1 : Int)).bind fun v2 => (idx x0 (1 : Int)).bind fun v3 => (idx x1 (0 : Int)).bind fun v4 => some (IntKind.i64.wrap ((IntKind.i64.wrap (v1 * v2)) - (IntKind.i64.wrap (v3 * v4))))
noncomputable def e_s_l7Cross : CallE := ⟨46, [.d false (.list (.int .i64)), .d false (.list (.int .i64))], [.l (.d false (.int .i64))], fun x => s_l7Cross x.1 x.2⟩
noncomputable def c_s_l7Cross : Ctx := ⟨Try.prog, TT, [], [], [], [], [], []⟩
theorem k_s_l7Cross (x : PMs.den e_s_l7Cross.ps) : funK c_s_l7Cross Try.f46 e_s_l7Cross.ps e_s_l7Cross.rs x = e_s_l7Cross.F x := by kernel_rfl
theorem o_s_l7Cross {D : Prop} : FnOk Try.prog e_s_l7Cross.f ∧ Ctr D Try.prog e_s_l7Cross := mkCtr (C := c_s_l7Cross) m_ (trivial) Try.func46 (by kernel_rfl) k_s_l7Cross
/-! loop.example/g00959/spec.l7Turn -/
noncomputable def s_l7Turn (x0 : List Int) (x1 : List Int) (x2 : List Int) : Option (Int) :=
(s_l2Less x1 x0).bind fun v1 => (s_l2Less x2 x1).bind fun v2 => (s_l7Cross v1 v2).bind fun v3 => some v3
noncomputable def e_s_l7Turn : CallE := ⟨66, [.d false (.list (.int .i64)), .d false (.list (.int .i64)), .d false (.list (.int .i64))], [.l (.d false (.int .i64))], fun x => s_l7Turn x.1 x.2.1 x.2.2⟩
noncomputable def c_s_l7Turn : Ctx := ⟨Try.prog, TT, [e_s_l2Less, e_s_l7Cross], [], [], [], [], []⟩
theorem k_s_l7Turn (x : PMs.den e_s_l7Turn.ps) : funK c_s_l7Turn Try.f66 e_s_l7Turn.ps e_s_l7Turn.rs x = e_s_l7Turn.F x := by kernel_rfl
theorem o_s_l7Turn {D : Prop} : FnOk Try.prog e_s_l7Turn.f ∧ Ctr D Try.prog e_s_l7Turn := mkCtr (C := c_s_l7Turn) m_ (⟨o_s_l2Less, o_s_l7Cross, trivial⟩) Try.func66 (by kernel_rfl) k_s_l7Turn
/-! loop.example/g00959/spec.l7Hull -/
noncomputable def s_l7Hull_s12 (v1 : List (List Int) × Int) (v4 : List Int) (v5 : List (List Int)) : Option ((List (List Int)) ⊕ (List (List Int))) :=
 cond (decide ((v5.length : Int) ≥ (IntKind.i64.wrap ((v1.1.length : Int) + (2 : Int)))))
 ((inIdx v5.length (IntKind.i64.wrap ((v5.length : Int) - (2 : Int)))).bind fun _ => (idx v5 (((IntKind.i64.wrap ((v5.length : Int) - (2 : Int)))).toNat : Int)).bind fun v6 => (inIdx v5.length (IntKind.i64.wrap ((v5.length : Int) - (1 : Int)))).bind fun _ => (idx v5 (((IntKind.i64.wrap ((v5.length : Int) - (1 : Int)))).toNat : Int)).bind fun v7 => (s_l7Turn v6 v7 v4).bind fun v8 => cond (decide (v8 ≤ (0 : Int)))
 ((subl v5 0 (IntKind.i64.wrap ((v5.length : Int) - (1 : Int)))).bind fun v9 => some (.inl v9))
 (some (.inr v5)))
 (some (.inr v5))
noncomputable def s_l7Hull_s12b16 (v1 : List (List Int) × Int) (v3 : List Int) (v12 : List (List Int)) : Option ((List (List Int)) ⊕ (List (List Int))) :=
 cond (decide ((v12.length : Int) ≥ (IntKind.i64.wrap ((v1.1.length : Int) + (2 : Int)))))
 ((inIdx v12.length (IntKind.i64.wrap ((v12.length : Int) - (2 : Int)))).bind fun _ => (idx v12 (((IntKind.i64.wrap ((v12.length : Int) - (2 : Int)))).toNat : Int)).bind fun v13 => (inIdx v12.length (IntKind.i64.wrap ((v12.length : Int) - (1 : Int)))).bind fun _ => (idx v12 (((IntKind.i64.wrap ((v12.length : Int) - (1 : Int)))).toNat : Int)).bind fun v14 => (s_l7Turn v13 v14 v3).bind fun v15 => cond (decide (v15 ≤ (0 : Int)))
 ((subl v12 0 (IntKind.i64.wrap ((v12.length : Int) - (1 : Int)))).bind fun v16 => some (.inl v16))
 (some (.inr v12)))
 (some (.inr v12))
noncomputable def s_l7Hull_s7 (x0 : List (List Int)) (v1 : List (List Int) × Int) (v2 : List (List Int) × Int) : Option ((List (List Int) × Int) ⊕ (List (List Int))) :=
 cond (decide (v2.2 < (x0.length : Int)))
 ((idx x0 v2.2).bind fun v3 => cond (v1.2 == (1 : Int))
 ((idx x0 (IntKind.i64.wrap ((IntKind.i64.wrap ((x0.length : Int) - (1 : Int))) - v2.2))).bind fun v4 => (iter (s_l7Hull_s12 v1 v4) v2.1).bind fun v10 => (appD 24 v10 ([v4] : List (List Int))).bind fun v11 => some (.inl (v11, (IntKind.i64.wrap (v2.2 + (1 : Int))))))
 ((iter (s_l7Hull_s12b16 v1 v3) v2.1).bind fun v17 => (appD 24 v17 ([v3] : List (List Int))).bind fun v18 => some (.inl (v18, (IntKind.i64.wrap (v2.2 + (1 : Int)))))))
 (some (.inr v2.1))
noncomputable def s_l7Hull_s3 (x0 : List (List Int)) (v1 : List (List Int) × Int) : Option ((List (List Int) × Int) ⊕ (List (List Int))) :=
 cond (decide (v1.2 < (2 : Int)))
 ((iter (s_l7Hull_s7 x0 v1) (v1.1, (0 : Int))).bind fun v19 => (subl v19 0 (IntKind.i64.wrap ((v19.length : Int) - (1 : Int)))).bind fun v20 => some (.inl (v20, (IntKind.i64.wrap (v1.2 + (1 : Int))))))
 (some (.inr v1.1))
noncomputable def s_l7Hull (x0 : List (List Int)) : Option (List (List Int)) :=
(iter (s_l7Hull_s3 x0) (([] : List (List Int)), (0 : Int))).bind fun v21 => some v21
noncomputable def e_s_l7Hull : CallE := ⟨41, [.d false (.list (.list (.int .i64)))], [.l (.o false 27 (.list (.int .i64)))], fun x => s_l7Hull x⟩
noncomputable def c_s_l7Hull : Ctx := ⟨Try.prog, TT, [e_s_l7Turn], [⟨3, [(3, .l (.o false 27 (.list (.int .i64)))), (4, .l (.d false (.int .i64)))], some (0, [(3, .l (.o false 27 (.list (.int .i64))))]), none, false⟩, ⟨7, [(3, .l (.o false 27 (.list (.int .i64)))), (6, .l (.d false (.int .i64)))], some (2, [(3, .l (.o false 27 (.list (.int .i64))))]), none, false⟩, ⟨12, [(3, .l (.o false 27 (.list (.int .i64))))], some (4, [(3, .l (.o false 27 (.list (.int .i64))))]), none, false⟩], [], [], [], []⟩
theorem k_s_l7Hull (x : PMs.den e_s_l7Hull.ps) : funK c_s_l7Hull Try.f41 e_s_l7Hull.ps e_s_l7Hull.rs x = e_s_l7Hull.F x := by kernel_rfl
theorem o_s_l7Hull {D : Prop} : FnOk Try.prog e_s_l7Hull.f ∧ Ctr D Try.prog e_s_l7Hull := mkCtr (C := c_s_l7Hull) m_ (⟨o_s_l7Turn, trivial⟩) Try.func41 (by kernel_rfl) k_s_l7Hull
/-! loop.example/g00959/spec.l7Copy -/
noncomputable def s_l7Copy_s3 (x0 : List (List Int)) (v1 : List (List Int) × Int) : Option ((List (List Int) × Int) ⊕ (List (List Int))) :=
 cond (decide (v1.2 < (x0.length : Int)))
 ((idx x0 v1.2).bind fun v2 => (appD 8 ([] : List Int) v2).bind fun v3 => (appD 24 v1.1 ([v3] : List (List Int))).bind fun v4 => some (.inl (v4, (IntKind.i64.wrap (v1.2 + (1 : Int))))))
 (some (.inr v1.1))
noncomputable def s_l7Copy (x0 : List (List Int)) : Option (List (List Int)) :=
(iter (s_l7Copy_s3 x0) (([] : List (List Int)), (0 : Int))).bind fun v5 => some v5
noncomputable def e_s_l7Copy : CallE := ⟨42, [.d false (.list (.list (.int .i64)))], [.l (.o true 27 (.list (.int .i64)))], fun x => s_l7Copy x⟩
noncomputable def c_s_l7Copy : Ctx := ⟨Try.prog, TT, [], [⟨3, [(3, .l (.o true 27 (.list (.int .i64)))), (4, .l (.d false (.int .i64)))], some (0, [(3, .l (.o true 27 (.list (.int .i64))))]), none, false⟩], [], [], [], []⟩
theorem k_s_l7Copy (x : PMs.den e_s_l7Copy.ps) : funK c_s_l7Copy Try.f42 e_s_l7Copy.ps e_s_l7Copy.rs x = e_s_l7Copy.F x := by kernel_rfl
theorem o_s_l7Copy {D : Prop} : FnOk Try.prog e_s_l7Copy.f ∧ Ctr D Try.prog e_s_l7Copy := mkCtr (C := c_s_l7Copy) m_ (trivial) Try.func42 (by kernel_rfl) k_s_l7Copy
/-! loop.example/g00959/spec.HullOf -/
noncomputable def s_HullOf_s5 (x0 : List (List Int)) (v2 : List (List Int) × Int) : Option ((List (List Int) × Int) ⊕ (List (List Int))) :=
 cond (decide (v2.2 < (x0.length : Int)))
 ((idx x0 v2.2).bind fun v3 => (s_l2Put v2.1 v3).bind fun v4 => some (.inl (v4, (IntKind.i64.wrap (v2.2 + (1 : Int))))))
 (some (.inr v2.1))
noncomputable def s_HullOf (x0 : List (List Int)) : Option (List (List Int) × Bool) :=
 cond (decide ((x0.length : Int) > (200 : Int)))
 (some (([] : List (List Int)), false))
 ((s_l7Flat x0).bind fun v1 => cond (!v1)
 (some (([] : List (List Int)), false))
 ((iter (s_HullOf_s5 x0) (([] : List (List Int)), (0 : Int))).bind fun v5 => cond (decide ((v5.length : Int) < (3 : Int)))
 (some (([] : List (List Int)), false))
 ((s_l7Hull v5).bind fun v6 => cond (decide ((v6.length : Int) < (3 : Int)))
 (some (([] : List (List Int)), false))
 (cond (decide ((v6.length : Int) > (12 : Int)))
 (some (([] : List (List Int)), false))
 ((s_l7Copy v6).bind fun v7 => some (v7, true))))))
noncomputable def e_s_HullOf : CallE := ⟨12, [.d false (.list (.list (.int .i64)))], [.l (.o true 27 (.list (.int .i64))), .l (.d false .bool)], fun x => s_HullOf x⟩
noncomputable def c_s_HullOf : Ctx := ⟨Try.prog, TT, [e_s_l7Flat, e_s_l2Put, e_s_l7Hull, e_s_l7Copy], [⟨5, [(4, .l (.o false 27 (.list (.int .i64)))), (5, .l (.d false (.int .i64)))], some (0, [(4, .l (.o false 27 (.list (.int .i64))))]), none, false⟩], [], [], [], []⟩
theorem k_s_HullOf (x : PMs.den e_s_HullOf.ps) : funK c_s_HullOf Try.f12 e_s_HullOf.ps e_s_HullOf.rs x = e_s_HullOf.F x := by kernel_rfl
theorem o_s_HullOf {D : Prop} : FnOk Try.prog e_s_HullOf.f ∧ Ctr D Try.prog e_s_HullOf := mkCtr (C := c_s_HullOf) m_ (⟨o_s_l7Flat, o_s_l2Put, o_s_l7Hull, o_s_l7Copy, trivial⟩) Try.func12 (by kernel_rfl) k_s_HullOf
/-! loop.example/g00959/spec.l7Draw -/
noncomputable def s_l7Draw_s7 (x1 : Int) (v2 : (Int) × ((List Int) × Int × Int) × Unit) (v3 : (List Int × Int × Int) × List (List Int) × Int) : Option (((List Int × Int × Int) × List (List Int) × Int) ⊕ ((List Int × Int × Int) × List (List Int))) :=
 cond (decide (v3.2.2 < (IntKind.i64.wrap ((3 : Int) + v2.1))))
 ((s_l2Draw (v3.1.1, (v3.1.2.1, v3.1.2.2)) (2 : Int) x1).bind fun v4 => (appD 24 v3.2.1 ([v4.1] : List (List Int))).bind fun v5 => some (.inl ((v4.2.1.1, (v4.2.1.2.1, v4.2.1.2.2)), (v5, (IntKind.i64.wrap (v3.2.2 + (1 : Int)))))))
 (some (.inr ((v3.1.1, (v3.1.2.1, v3.1.2.2)), v3.2.1)))
noncomputable def s_l7Draw_s2 (x1 : Int) (v1 : (List Int × Int × Int) × Int) : Option (((List Int × Int × Int) × Int) ⊕ ((List Int × Int × Int) ⊕ ((List Int × Int × Int) × List (List Int)))) :=
 cond (decide (v1.2 < (6 : Int)))
 ((s_l1Below (v1.1.1, (v1.1.2.1, v1.1.2.2)) (4 : Int)).bind fun v2 => (iter (s_l7Draw_s7 x1 v2) ((v2.2.1.1, (v2.2.1.2.1, v2.2.1.2.2)), (([] : List (List Int)), (0 : Int)))).bind fun v6 => (s_HullOf v6.2).bind fun v7 => cond v7.2
 (some (.inr (.inr ((v6.1.1, (v6.1.2.1, v6.1.2.2)), v7.1))))
 (some (.inl ((v6.1.1, (v6.1.2.1, v6.1.2.2)), (IntKind.i64.wrap (v1.2 + (1 : Int)))))))
 (some (.inr (.inl (v1.1.1, (v1.1.2.1, v1.1.2.2)))))
noncomputable def s_l7Draw (x0 : (List Int) × Int × Int) (x1 : Int) : Option ((List (List Int)) × ((List Int) × Int × Int) × Unit) :=
(iter (s_l7Draw_s2 x1) ((x0.1, (x0.2.1, x0.2.2)), (0 : Int))).bind fun v8 => match v8 with
 | .inl v9 => (some (([([(0 : Int), (0 : Int)] : List Int), ([(2 : Int), (0 : Int)] : List Int), ([(0 : Int), (1 : Int)] : List Int)] : List (List Int)), ((v9.1, (v9.2.1, v9.2.2)), ())))
 | .inr v10 => (some (v10.2, ((v10.1.1, (v10.1.2.1, v10.1.2.2)), ())))
noncomputable def e_s_l7Draw : CallE := ⟨49, [.cur 62, .d false (.int .i64)], [.l (.o false 27 (.list (.int .i64)))], fun x => s_l7Draw x.1 x.2⟩
noncomputable def c_s_l7Draw : Ctx := ⟨Try.prog, TT, [e_s_l1Below, e_s_l2Draw, e_s_HullOf], [⟨2, [(0, .b 62 [(.d false (.list (.int .u8))), (.d false (.int .i64)), (.d false (.int .i64))]), (5, .l (.d false (.int .i64)))], some (0, [(0, .b 62 [(.d false (.list (.int .u8))), (.d false (.int .i64)), (.d false (.int .i64))])]), some [(0, .b 62 [(.d false (.list (.int .u8))), (.d false (.int .i64)), (.d false (.int .i64))]), (4, .l (.o true 27 (.list (.int .i64))))], false⟩, ⟨7, [(0, .b 62 [(.d false (.list (.int .u8))), (.d false (.int .i64)), (.d false (.int .i64))]), (6, .l (.o true 27 (.list (.int .i64)))), (8, .l (.d false (.int .i64)))], some (2, [(0, .b 62 [(.d false (.list (.int .u8))), (.d false (.int .i64)), (.d false (.int .i64))]), (6, .l (.o true 27 (.list (.int .i64))))]), none, false⟩], [], [], [], []⟩
theorem k_s_l7Draw (x : PMs.den e_s_l7Draw.ps) : funK c_s_l7Draw Try.f49 e_s_l7Draw.ps e_s_l7Draw.rs x = e_s_l7Draw.F x := by kernel_rfl
theorem o_s_l7Draw {D : Prop} : FnOk Try.prog e_s_l7Draw.f ∧ Ctr D Try.prog e_s_l7Draw := mkCtr (C := c_s_l7Draw) m_ (⟨o_s_l1Below, o_s_l2Draw, o_s_HullOf, trivial⟩) Try.func49 (by kernel_rfl) k_s_l7Draw
/-! loop.example/g00959/spec.l1Bit -/
noncomputable def s_l1Bit (x0 : Bool) : Option (Int) :=
 cond x0
 (some (1 : Int))
 (some (0 : Int))
noncomputable def e_s_l1Bit : CallE := ⟨50, [.d false .bool], [.l (.d false (.int .i64))], fun x => s_l1Bit x⟩
noncomputable def c_s_l1Bit : Ctx := ⟨Try.prog, TT, [], [], [], [], [], []⟩
theorem k_s_l1Bit (x : PMs.den e_s_l1Bit.ps) : funK c_s_l1Bit Try.f50 e_s_l1Bit.ps e_s_l1Bit.rs x = e_s_l1Bit.F x := by kernel_rfl
theorem o_s_l1Bit {D : Prop} : FnOk Try.prog e_s_l1Bit.f ∧ Ctr D Try.prog e_s_l1Bit := mkCtr (C := c_s_l1Bit) m_ (trivial) Try.func50 (by kernel_rfl) k_s_l1Bit
/-! loop.example/g00959/spec.l7Bent -/
noncomputable def s_l7Bent (x0 : (List Int) × Int × Int) : Option ((List (List Int)) × ((List Int) × Int × Int) × Unit) :=
(s_l7Draw (x0.1, (x0.2.1, x0.2.2)) (4 : Int)).bind fun v1 => (s_l1Below (v1.2.1.1, (v1.2.1.2.1, v1.2.1.2.2)) (14 : Int)).bind fun v2 => cond (v2.1 == (0 : Int))
 ((inIdx v1.1.length (0 : Int)).bind fun _ => (idx v1.1 (((0 : Int)).toNat : Int)).bind fun v3 => (inIdx v1.1.length (1 : Int)).bind fun _ => (idx v1.1 (((1 : Int)).toNat : Int)).bind fun v4 => (inIdx v1.1.length (0 : Int)).bind fun _ => (inIdx v1.1.length (((0 : Int)).toNat : Int)).bind fun _ => (inIdx (v1.1.set (((0 : Int)).toNat) v4).length (1 : Int)).bind fun _ => (inIdx (v1.1.set (((0 : Int)).toNat) v4).length (((1 : Int)).toNat : Int)).bind fun _ => some (((v1.1.set (((0 : Int)).toNat) v4).set (((1 : Int)).toNat) v3), ((v2.2.1.1, (v2.2.1.2.1, v2.2.1.2.2)), ())))
 (cond (v2.1 == (1 : Int))
 ((s_l1Once (v2.2.1.1, (v2.2.1.2.1, v2.2.1.2.2)) (2 : Int)).bind fun v5 => (s_l1Bit v5.1).bind fun v6 => (s_l2Draw (v5.2.1.1, (v5.2.1.2.1, v5.2.1.2.2)) (IntKind.i64.wrap ((2 : Int) + v6)) (60 : Int)).bind fun v7 => (inIdx v1.1.length (0 : Int)).bind fun _ => (inIdx v1.1.length (((0 : Int)).toNat : Int)).bind fun _ => some ((v1.1.set (((0 : Int)).toNat) v7.1), ((v7.2.1.1, (v7.2.1.2.1, v7.2.1.2.2)), ())))
 (cond (v2.1 == (2 : Int))
 ((subl v1.1 0 (2 : Int)).bind fun v8 => some (v8, ((v2.2.1.1, (v2.2.1.2.1, v2.2.1.2.2)), ())))
 (some (v1.1, ((v2.2.1.1, (v2.2.1.2.1, v2.2.1.2.2)), ())))))
noncomputable def e_s_l7Bent : CallE := ⟨20, [.cur 62], [.l (.o false 27 (.list (.int .i64)))], fun x => s_l7Bent x⟩
noncomputable def c_s_l7Bent : Ctx := ⟨Try.prog, TT, [e_s_l7Draw, e_s_l1Below, e_s_l1Once, e_s_l1Bit, e_s_l2Draw], [], [], [], [], []⟩
theorem k_s_l7Bent (x : PMs.den e_s_l7Bent.ps) : funK c_s_l7Bent Try.f20 e_s_l7Bent.ps e_s_l7Bent.rs x = e_s_l7Bent.F x := by kernel_rfl
theorem o_s_l7Bent {D : Prop} : FnOk Try.prog e_s_l7Bent.f ∧ Ctr D Try.prog e_s_l7Bent := mkCtr (C := c_s_l7Bent) m_ (⟨o_s_l7Draw, o_s_l1Below, o_s_l1Once, o_s_l1Bit, o_s_l2Draw, trivial⟩) Try.func20 (by kernel_rfl) k_s_l7Bent
/-! loop.example/g00959/spec.DrawMirrorPolygon -/
noncomputable def s_DrawMirrorPolygon_s16_3 (x0 : List Int) (v1 : Int × Int) : Option ((Int × Int) ⊕ (Int)) :=
 cond (decide (v1.2 < (x0.length : Int)))
 (cond (decide (v1.2 < (4000 : Int)))
 ((idx x0 v1.2).bind fun v2 => some (.inl ((andI .i64 (IntKind.i64.wrap ((IntKind.i64.wrap ((IntKind.i64.wrap (v1.1 * (131 : Int))) + (IntKind.i64.wrap v2))) + (7 : Int))) (1073741823 : Int)), (IntKind.i64.wrap (v1.2 + (1 : Int))))))
 (some (.inr v1.1)))
 (some (.inr v1.1))
noncomputable def s_DrawMirrorPolygon (x0 : List Int) : Option (List (List Int)) :=
(iter (s_DrawMirrorPolygon_s16_3 x0) ((IntKind.i64.wrap ((26583 : Int) + (x0.length : Int))), (0 : Int))).bind fun v3 => (s_l7Bent (x0, ((0 : Int), v3))).bind fun v4 => some v4.1
noncomputable def e_s_DrawMirrorPolygon : CallE := ⟨6, [.d false (.list (.int .u8))], [.l (.o false 27 (.list (.int .i64)))], fun x => s_DrawMirrorPolygon x⟩
noncomputable def c_s_DrawMirrorPolygon_16 : Ctx := ⟨Try.prog, TT, [], [⟨3, [(3, .l (.d false (.int .i64))), (4, .l (.d false (.int .i64)))], some (0, [(3, .l (.d false (.int .i64)))]), none, true⟩], [], [], [], []⟩
noncomputable def n_s_DrawMirrorPolygon_16 : InE := ⟨16, false, inlK c_s_DrawMirrorPolygon_16 Try.f16⟩
theorem q_s_DrawMirrorPolygon_16 {D : Prop} : FnOk Try.prog n_s_DrawMirrorPolygon_16.f ∧ InOk D Try.prog n_s_DrawMirrorPolygon_16 := mkInl (C := c_s_DrawMirrorPolygon_16) m_ (trivial) Try.func16 (by kernel_rfl)
noncomputable def c_s_DrawMirrorPolygon : Ctx := ⟨Try.prog, TT, [e_s_l7Bent], [], [], [n_s_DrawMirrorPolygon_16], [], []⟩
theorem k_s_DrawMirrorPolygon (x : PMs.den e_s_DrawMirrorPolygon.ps) : funK c_s_DrawMirrorPolygon Try.f6 e_s_DrawMirrorPolygon.ps e_s_DrawMirrorPolygon.rs x = e_s_DrawMirrorPolygon.F x := by kernel_rfl
theorem o_s_DrawMirrorPolygon {D : Prop} : FnOk Try.prog e_s_DrawMirrorPolygon.f ∧ Ctr D Try.prog e_s_DrawMirrorPolygon := mkCtr (C := c_s_DrawMirrorPolygon) m_ (⟨o_s_l7Bent, trivial⟩) Try.func6 (by kernel_rfl) k_s_DrawMirrorPolygon ⟨q_s_DrawMirrorPolygon_16, trivial⟩
/-! loop.example/g00959/spec.l7SameList -/
noncomputable def s_l7SameList_s4 (x0 : List (List Int)) (x1 : List (List Int)) (v1 : Int) : Option ((Int) ⊕ ((Unit) ⊕ (Bool))) :=
 cond (decide (v1 < (x0.length : Int)))
 ((idx x0 v1).bind fun v2 => (idx x1 v1).bind fun v3 => (s_l2Same v2 v3).bind fun v4 => cond (!v4)
 (some (.inr (.inr false)))
 (some (.inl (IntKind.i64.wrap (v1 + (1 : Int))))))
 (some (.inr (.inl ())))
noncomputable def s_l7SameList (x0 : List (List Int)) (x1 : List (List Int)) : Option (Bool) :=
 cond ((x0.length : Int) != (x1.length : Int))
 (some false)
 ((iter (s_l7SameList_s4 x0 x1) (0 : Int)).bind fun v5 => match v5 with
 | .inl v6 => (some true)
 | .inr v7 => (some v7))
noncomputable def e_s_l7SameList : CallE := ⟨52, [.d false (.list (.list (.int .i64))), .d false (.list (.list (.int .i64)))], [.l (.d false .bool)], fun x => s_l7SameList x.1 x.2⟩
noncomputable def c_s_l7SameList : Ctx := ⟨Try.prog, TT, [e_s_l2Same], [⟨4, [(5, .l (.d false (.int .i64)))], some (0, []), some [(4, .l (.d false .bool))], false⟩], [], [], [], []⟩
theorem k_s_l7SameList (x : PMs.den e_s_l7SameList.ps) : funK c_s_l7SameList Try.f52 e_s_l7SameList.ps e_s_l7SameList.rs x = e_s_l7SameList.F x := by kernel_rfl
theorem o_s_l7SameList {D : Prop} : FnOk Try.prog e_s_l7SameList.f ∧ Ctr D Try.prog e_s_l7SameList := mkCtr (C := c_s_l7SameList) m_ (⟨o_s_l2Same, trivial⟩) Try.func52 (by kernel_rfl) k_s_l7SameList
/-! loop.example/g00959/spec.IsPolygon -/
noncomputable def s_IsPolygon (x0 : List (List Int)) : Option (Bool) :=
(s_l1In (x0.length : Int) (3 : Int) (12 : Int)).bind fun v1 => cond (!v1)
 (some false)
 ((s_l7Flat x0).bind fun v2 => cond (!v2)
 (some false)
 ((s_HullOf x0).bind fun v3 => cond v3.2
 ((s_l7SameList v3.1 x0).bind fun v4 => some v4)
 (some false)))
noncomputable def e_s_IsPolygon : CallE := ⟨21, [.d false (.list (.list (.int .i64)))], [.l (.d false .bool)], fun x => s_IsPolygon x⟩
noncomputable def c_s_IsPolygon : Ctx := ⟨Try.prog, TT, [e_s_l1In, e_s_l7Flat, e_s_HullOf, e_s_l7SameList], [], [], [], [], []⟩
theorem k_s_IsPolygon (x : PMs.den e_s_IsPolygon.ps) : funK c_s_IsPolygon Try.f21 e_s_IsPolygon.ps e_s_IsPolygon.rs x = e_s_IsPolygon.F x := by kernel_rfl
theorem o_s_IsPolygon {D : Prop} : FnOk Try.prog e_s_IsPolygon.f ∧ Ctr D Try.prog e_s_IsPolygon := mkCtr (C := c_s_IsPolygon) m_ (⟨o_s_l1In, o_s_l7Flat, o_s_HullOf, o_s_l7SameList, trivial⟩) Try.func21 (by kernel_rfl) k_s_IsPolygon
/-! loop.example/g00959/spec.FormatInt -/
noncomputable def s_FormatInt_s5 (v1 : Int × ByteArray) : Option ((Int × ByteArray) ⊕ (ByteArray)) :=
 cond (v1.1 != (0 : Int))
 ((remI .i64 v1.1 (10 : Int)).bind fun v2 => cond (decide (v2 < (0 : Int)))
 ((catS (strI ([(IntKind.u8.wrap (IntKind.i64.wrap ((48 : Int) + (IntKind.i64.wrap ((0 : Int) - v2)))))] : List Int)) v1.2).bind fun v3 => (quoI .i64 v1.1 (10 : Int)).bind fun v4 => some (.inl (v4, v3)))
 ((catS (strI ([(IntKind.u8.wrap (IntKind.i64.wrap ((48 : Int) + v2)))] : List Int)) v1.2).bind fun v5 => (quoI .i64 v1.1 (10 : Int)).bind fun v6 => some (.inl (v6, v5))))
 (some (.inr v1.2))
noncomputable def s_FormatInt (x0 : Int) : Option (ByteArray) :=
 cond (x0 == (0 : Int))
 (some (⟨#[48]⟩ : ByteArray))
 ((iter (s_FormatInt_s5) (x0, (⟨#[]⟩ : ByteArray))).bind fun v7 => cond (decide (x0 < (0 : Int)))
 ((catS (⟨#[45]⟩ : ByteArray) v7).bind fun v8 => some v8)
 (some v7))
noncomputable def e_s_FormatInt : CallE := ⟨53, [.d false (.int .i64)], [.l (.d false .str)], fun x => s_FormatInt x⟩
noncomputable def c_s_FormatInt : Ctx := ⟨Try.prog, TT, [], [⟨5, [(0, .l (.d false (.int .i64))), (4, .l (.d false .str))], some (0, [(4, .l (.d false .str))]), none, false⟩], [], [], [], []⟩
theorem k_s_FormatInt (x : PMs.den e_s_FormatInt.ps) : funK c_s_FormatInt Try.f53 e_s_FormatInt.ps e_s_FormatInt.rs x = e_s_FormatInt.F x := by kernel_rfl
theorem o_s_FormatInt {D : Prop} : FnOk Try.prog e_s_FormatInt.f ∧ Ctr D Try.prog e_s_FormatInt := mkCtr (C := c_s_FormatInt) m_ (trivial) Try.func53 (by kernel_rfl) k_s_FormatInt
/-! loop.example/g00959/spec.Join -/
noncomputable def s_Join_s3 (x0 : List ByteArray) (x1 : ByteArray) (v1 : List Int × Int) : Option ((List Int × Int) ⊕ (List Int)) :=
 cond (decide (v1.2 < (x0.length : Int)))
 (cond (decide (v1.2 > (0 : Int)))
 ((appD 1 v1.1 (bytesI x1)).bind fun v2 => (idx x0 v1.2).bind fun v3 => (appD 1 v2 (bytesI v3)).bind fun v4 => some (.inl (v4, (IntKind.i64.wrap (v1.2 + (1 : Int))))))
 ((idx x0 v1.2).bind fun v5 => (appD 1 v1.1 (bytesI v5)).bind fun v6 => some (.inl (v6, (IntKind.i64.wrap (v1.2 + (1 : Int)))))))
 (some (.inr v1.1))
noncomputable def s_Join (x0 : List ByteArray) (x1 : ByteArray) : Option (ByteArray) :=
(iter (s_Join_s3 x0 x1) (([] : List Int), (0 : Int))).bind fun v7 => some (strI v7)
noncomputable def e_s_Join : CallE := ⟨23, [.d false (.list .str), .d false .str], [.l (.d false .str)], fun x => s_Join x.1 x.2⟩
noncomputable def c_s_Join : Ctx := ⟨Try.prog, TT, [], [⟨3, [(5, .l (.o true 5 (.int .u8))), (6, .l (.d false (.int .i64)))], some (0, [(5, .l (.o true 5 (.int .u8)))]), none, false⟩], [], [], [], []⟩
theorem k_s_Join (x : PMs.den e_s_Join.ps) : funK c_s_Join Try.f23 e_s_Join.ps e_s_Join.rs x = e_s_Join.F x := by kernel_rfl
theorem o_s_Join {D : Prop} : FnOk Try.prog e_s_Join.f ∧ Ctr D Try.prog e_s_Join := mkCtr (C := c_s_Join) m_ (trivial) Try.func23 (by kernel_rfl) k_s_Join
/-! loop.example/g00959/spec.l2Text -/
noncomputable def s_l2Text_s3 (x0 : List Int) (v1 : List ByteArray × Int) : Option ((List ByteArray × Int) ⊕ (List ByteArray)) :=
 cond (decide (v1.2 < (x0.length : Int)))
 ((idx x0 v1.2).bind fun v2 => (s_FormatInt v2).bind fun v3 => (appD 16 v1.1 ([v3] : List ByteArray)).bind fun v4 => some (.inl (v4, (IntKind.i64.wrap (v1.2 + (1 : Int))))))
 (some (.inr v1.1))
noncomputable def s_l2Text (x0 : List Int) : Option (ByteArray) :=
(iter (s_l2Text_s3 x0) (([] : List ByteArray), (0 : Int))).bind fun v5 => (s_Join v5 (⟨#[44]⟩ : ByteArray)).bind fun v6 => some v6
noncomputable def e_s_l2Text : CallE := ⟨22, [.d false (.list (.int .i64))], [.l (.d false .str)], fun x => s_l2Text x⟩
noncomputable def c_s_l2Text : Ctx := ⟨Try.prog, TT, [e_s_FormatInt, e_s_Join], [⟨3, [(3, .l (.o true 9 .str)), (4, .l (.d false (.int .i64)))], some (0, [(3, .l (.o true 9 .str))]), none, false⟩], [], [], [], []⟩
theorem k_s_l2Text (x : PMs.den e_s_l2Text.ps) : funK c_s_l2Text Try.f22 e_s_l2Text.ps e_s_l2Text.rs x = e_s_l2Text.F x := by kernel_rfl
theorem o_s_l2Text {D : Prop} : FnOk Try.prog e_s_l2Text.f ∧ Ctr D Try.prog e_s_l2Text := mkCtr (C := c_s_l2Text) m_ (⟨o_s_FormatInt, o_s_Join, trivial⟩) Try.func22 (by kernel_rfl) k_s_l2Text
/-! loop.example/g00959/spec.PolygonText -/
noncomputable def s_PolygonText_s5 (x0 : List (List Int)) (v2 : List ByteArray × Int) : Option ((List ByteArray × Int) ⊕ (List ByteArray)) :=
 cond (decide (v2.2 < (x0.length : Int)))
 ((idx x0 v2.2).bind fun v3 => (s_l2Text v3).bind fun v4 => (appD 16 v2.1 ([v4] : List ByteArray)).bind fun v5 => some (.inl (v5, (IntKind.i64.wrap (v2.2 + (1 : Int))))))
 (some (.inr v2.1))
noncomputable def s_PolygonText (x0 : List (List Int)) : Option (ByteArray) :=
(s_IsPolygon x0).bind fun v1 => cond (!v1)
 (some (⟨#[]⟩ : ByteArray))
 ((iter (s_PolygonText_s5 x0) (([] : List ByteArray), (0 : Int))).bind fun v6 => (s_Join v6 (⟨#[32]⟩ : ByteArray)).bind fun v7 => some v7)
noncomputable def e_s_PolygonText : CallE := ⟨7, [.d false (.list (.list (.int .i64)))], [.l (.d false .str)], fun x => s_PolygonText x⟩
noncomputable def c_s_PolygonText : Ctx := ⟨Try.prog, TT, [e_s_IsPolygon, e_s_l2Text, e_s_Join], [⟨5, [(3, .l (.o true 9 .str)), (4, .l (.d false (.int .i64)))], some (0, [(3, .l (.o true 9 .str))]), none, false⟩], [], [], [], []⟩
theorem k_s_PolygonText (x : PMs.den e_s_PolygonText.ps) : funK c_s_PolygonText Try.f7 e_s_PolygonText.ps e_s_PolygonText.rs x = e_s_PolygonText.F x := by kernel_rfl
theorem o_s_PolygonText {D : Prop} : FnOk Try.prog e_s_PolygonText.f ∧ Ctr D Try.prog e_s_PolygonText := mkCtr (C := c_s_PolygonText) m_ (⟨o_s_IsPolygon, o_s_l2Text, o_s_Join, trivial⟩) Try.func7 (by kernel_rfl) k_s_PolygonText
/-! loop.example/g00959/impl.within -/
noncomputable def i_within (x0 : Int) (x1 : Int) (x2 : Int) : Option (Bool) :=
 cond (decide (x0 ≥ x1))
 (some (decide (x0 ≤ x2)))
 (some false)
noncomputable def e_i_within : CallE := ⟨59, [.d false (.int .i64), .d false (.int .i64), .d false (.int .i64)], [.l (.d false .bool)], fun x => i_within x.1 x.2.1 x.2.2⟩
noncomputable def c_i_within : Ctx := ⟨Try.prog, TT, [], [], [], [], [], []⟩
theorem k_i_within (x : PMs.den e_i_within.ps) : funK c_i_within Try.f59 e_i_within.ps e_i_within.rs x = e_i_within.F x := by kernel_rfl
theorem o_i_within {D : Prop} : FnOk Try.prog e_i_within.f ∧ Ctr D Try.prog e_i_within := mkCtr (C := c_i_within) m_ (trivial) Try.func59 (by kernel_rfl) k_i_within
/-! loop.example/g00959/impl.allWithin -/
noncomputable def i_allWithin_s2 (x0 : List Int) (x1 : Int) (x2 : Int) (v1 : Int) : Option ((Int) ⊕ ((Unit) ⊕ (Bool))) :=
 cond (decide (v1 < (x0.length : Int)))
 ((idx x0 v1).bind fun v2 => (i_within v2 x1 x2).bind fun v3 => cond (!v3)
 (some (.inr (.inr false)))
 (some (.inl (IntKind.i64.wrap (v1 + (1 : Int))))))
 (some (.inr (.inl ())))
noncomputable def i_allWithin (x0 : List Int) (x1 : Int) (x2 : Int) : Option (Bool) :=
(iter (i_allWithin_s2 x0 x1 x2) (0 : Int)).bind fun v4 => match v4 with
 | .inl v5 => (some true)
 | .inr v6 => (some v6)
noncomputable def e_i_allWithin : CallE := ⟨54, [.d false (.list (.int .i64)), .d false (.int .i64), .d false (.int .i64)], [.l (.d false .bool)], fun x => i_allWithin x.1 x.2.1 x.2.2⟩
noncomputable def c_i_allWithin : Ctx := ⟨Try.prog, TT, [e_i_within], [⟨2, [(11, .l (.d false (.int .i64)))], some (0, []), some [(6, .l (.d false .bool))], false⟩], [], [], [], []⟩
theorem k_i_allWithin (x : PMs.den e_i_allWithin.ps) : funK c_i_allWithin Try.f54 e_i_allWithin.ps e_i_allWithin.rs x = e_i_allWithin.F x := by kernel_rfl
theorem o_i_allWithin {D : Prop} : FnOk Try.prog e_i_allWithin.f ∧ Ctr D Try.prog e_i_allWithin := mkCtr (C := c_i_allWithin) m_ (⟨o_i_within, trivial⟩) Try.func54 (by kernel_rfl) k_i_allWithin
/-! loop.example/g00959/impl.isPoint -/
noncomputable def i_isPoint (x0 : List Int) (x1 : Int) : Option (Bool) :=
 cond ((x0.length : Int) == (2 : Int))
 ((i_allWithin x0 (IntKind.i64.wrap (0 - x1)) x1).bind fun v1 => some v1)
 (some false)
noncomputable def e_i_isPoint : CallE := ⟨24, [.d false (.list (.int .i64)), .d false (.int .i64)], [.l (.d false .bool)], fun x => i_isPoint x.1 x.2⟩
noncomputable def c_i_isPoint : Ctx := ⟨Try.prog, TT, [e_i_allWithin], [], [], [], [], []⟩
theorem k_i_isPoint (x : PMs.den e_i_isPoint.ps) : funK c_i_isPoint Try.f24 e_i_isPoint.ps e_i_isPoint.rs x = e_i_isPoint.F x := by kernel_rfl
theorem o_i_isPoint {D : Prop} : FnOk Try.prog e_i_isPoint.f ∧ Ctr D Try.prog e_i_isPoint := mkCtr (C := c_i_isPoint) m_ (⟨o_i_allWithin, trivial⟩) Try.func24 (by kernel_rfl) k_i_isPoint
/-! loop.example/g00959/impl.copyInts -/
noncomputable def i_copyInts (x0 : List Int) : Option (List Int) :=
(appD 8 ([] : List Int) x0).bind fun v1 => some v1
noncomputable def e_i_copyInts : CallE := ⟨29, [.d false (.list (.int .i64))], [.l (.o true 3 (.int .i64))], fun x => i_copyInts x⟩
noncomputable def c_i_copyInts : Ctx := ⟨Try.prog, TT, [], [], [], [], [], []⟩
theorem k_i_copyInts (x : PMs.den e_i_copyInts.ps) : funK c_i_copyInts Try.f29 e_i_copyInts.ps e_i_copyInts.rs x = e_i_copyInts.F x := by kernel_rfl
theorem o_i_copyInts {D : Prop} : FnOk Try.prog e_i_copyInts.f ∧ Ctr D Try.prog e_i_copyInts := mkCtr (C := c_i_copyInts) m_ (trivial) Try.func29 (by kernel_rfl) k_i_copyInts
/-! loop.example/g00959/impl.copyPoints -/
noncomputable def i_copyPoints_s3 (x0 : List (List Int)) (v1 : List (List Int) × Int) : Option ((List (List Int) × Int) ⊕ (List (List Int))) :=
 cond (decide (v1.2 < (x0.length : Int)))
 ((idx x0 v1.2).bind fun v2 => (i_copyInts v2).bind fun v3 => (appD 24 v1.1 ([v3] : List (List Int))).bind fun v4 => some (.inl (v4, (IntKind.i64.wrap (v1.2 + (1 : Int))))))
 (some (.inr v1.1))
noncomputable def i_copyPoints (x0 : List (List Int)) : Option (List (List Int)) :=
(iter (i_copyPoints_s3 x0) (([] : List (List Int)), (0 : Int))).bind fun v5 => some v5
noncomputable def e_i_copyPoints : CallE := ⟨25, [.d false (.list (.list (.int .i64)))], [.l (.o true 27 (.list (.int .i64)))], fun x => i_copyPoints x⟩
noncomputable def c_i_copyPoints : Ctx := ⟨Try.prog, TT, [e_i_copyInts], [⟨3, [(3, .l (.o true 27 (.list (.int .i64)))), (8, .l (.d false (.int .i64)))], some (0, [(3, .l (.o true 27 (.list (.int .i64))))]), none, false⟩], [], [], [], []⟩
theorem k_i_copyPoints (x : PMs.den e_i_copyPoints.ps) : funK c_i_copyPoints Try.f25 e_i_copyPoints.ps e_i_copyPoints.rs x = e_i_copyPoints.F x := by kernel_rfl
theorem o_i_copyPoints {D : Prop} : FnOk Try.prog e_i_copyPoints.f ∧ Ctr D Try.prog e_i_copyPoints := mkCtr (C := c_i_copyPoints) m_ (⟨o_i_copyInts, trivial⟩) Try.func25 (by kernel_rfl) k_i_copyPoints
/-! cmp.isNaN[int] -/
noncomputable def g_cmp_isNaN (x0 : Int) : Option (Bool) :=
 some (x0 != x0)
noncomputable def e_g_cmp_isNaN : CallE := ⟨81, [.d false (.int .i64)], [.l (.d false .bool)], fun x => g_cmp_isNaN x⟩
noncomputable def c_g_cmp_isNaN : Ctx := ⟨Try.prog, TT, [], [], [], [], [], []⟩
theorem k_g_cmp_isNaN (x : PMs.den e_g_cmp_isNaN.ps) : funK c_g_cmp_isNaN Try.f81 e_g_cmp_isNaN.ps e_g_cmp_isNaN.rs x = e_g_cmp_isNaN.F x := by kernel_rfl
theorem o_g_cmp_isNaN {D : Prop} : FnOk Try.prog e_g_cmp_isNaN.f ∧ Ctr D Try.prog e_g_cmp_isNaN := mkCtr (C := c_g_cmp_isNaN) m_ (trivial) Try.func81 (by kernel_rfl) k_g_cmp_isNaN
/-! cmp.Compare[int] -/
noncomputable def g_cmp_Compare (x0 : Int) (x1 : Int) : Option (Int) :=
(g_cmp_isNaN x0).bind fun v1 => (g_cmp_isNaN x1).bind fun v2 => cond v1
 (cond v2
 (some (0 : Int))
 (some (-1 : Int)))
 (cond v2
 (some (1 : Int))
 (cond (decide (x0 < x1))
 (some (-1 : Int))
 (cond (decide (x0 > x1))
 (some (1 : Int))
 (some (0 : Int)))))
noncomputable def e_g_cmp_Compare : CallE := ⟨57, [.d false (.int .i64), .d false (.int .i64)], [.l (.d false (.int .i64))], fun x => g_cmp_Compare x.1 x.2⟩
noncomputable def c_g_cmp_Compare : Ctx := ⟨Try.prog, TT, [e_g_cmp_isNaN], [], [], [], [], []⟩
theorem k_g_cmp_Compare (x : PMs.den e_g_cmp_Compare.ps) : funK c_g_cmp_Compare Try.f57 e_g_cmp_Compare.ps e_g_cmp_Compare.rs x = e_g_cmp_Compare.F x := by kernel_rfl
theorem o_g_cmp_Compare {D : Prop} : FnOk Try.prog e_g_cmp_Compare.f ∧ Ctr D Try.prog e_g_cmp_Compare := mkCtr (C := c_g_cmp_Compare) m_ (⟨o_g_cmp_isNaN, trivial⟩) Try.func57 (by kernel_rfl) k_g_cmp_Compare
/-! slices.Compare[[]int,int] -/
noncomputable def g_slices_Compare_s2 (x0 : List Int) (x1 : List Int) (v1 : Int) : Option ((Int) ⊕ ((Unit) ⊕ (Int))) :=
 cond (decide (v1 < (x0.length : Int)))
 ((idx x0 v1).bind fun v2 => cond (decide (v1 ≥ (x1.length : Int)))
 (some (.inr (.inr (1 : Int))))
 ((idx x1 v1).bind fun v3 => (g_cmp_Compare v2 v3).bind fun v4 => cond (v4 != (0 : Int))
 (some (.inr (.inr v4)))
 (some (.inl (IntKind.i64.wrap (v1 + (1 : Int)))))))
 (some (.inr (.inl ())))
noncomputable def g_slices_Compare (x0 : List Int) (x1 : List Int) : Option (Int) :=
(iter (g_slices_Compare_s2 x0 x1) (0 : Int)).bind fun v5 => match v5 with
 | .inl v6 => (cond (decide ((x0.length : Int) < (x1.length : Int)))
 (some (-1 : Int))
 (some (0 : Int)))
 | .inr v7 => (some v7)
noncomputable def e_g_slices_Compare : CallE := ⟨27, [.d false (.list (.int .i64)), .d false (.list (.int .i64))], [.l (.d false (.int .i64))], fun x => g_slices_Compare x.1 x.2⟩
noncomputable def c_g_slices_Compare : Ctx := ⟨Try.prog, TT, [e_g_cmp_Compare], [⟨2, [(11, .l (.d false (.int .i64)))], some (0, []), some [(4, .l (.d false (.int .i64)))], false⟩], [], [], [], []⟩
theorem k_g_slices_Compare (x : PMs.den e_g_slices_Compare.ps) : funK c_g_slices_Compare Try.f27 e_g_slices_Compare.ps e_g_slices_Compare.rs x = e_g_slices_Compare.F x := by kernel_rfl
theorem o_g_slices_Compare {D : Prop} : FnOk Try.prog e_g_slices_Compare.f ∧ Ctr D Try.prog e_g_slices_Compare := mkCtr (C := c_g_slices_Compare) m_ (⟨o_g_cmp_Compare, trivial⟩) Try.func27 (by kernel_rfl) k_g_slices_Compare
/-! slices.SortFunc[[][]int,[]int] -/
noncomputable def g_slices_SortFunc (x0 : List (List Int)) : Option (Unit × ((List (List Int)) × Unit)) := sortF (fun a b => g_slices_Compare a b) x0
noncomputable def e_g_slices_SortFunc : CallE := ⟨26, [.io true 27 (.list (.int .i64)), .f 27], [], fun x => g_slices_SortFunc x.1⟩
theorem o_g_slices_SortFunc {D : Prop} : FnOk Try.prog e_g_slices_SortFunc.f ∧ Ctr D Try.prog e_g_slices_SortFunc := ⟨⟨Try.f26, _, Try.func26, by kernel_rfl, rfl⟩, sort_ctr laySort rfl (o_g_slices_Compare (D := True)).1 (o_g_slices_Compare (D := True)).2⟩
/-! loop.example/g00959/impl.minus -/
noncomputable def i_minus (x0 : List Int) (x1 : List Int) : Option (List Int) :=
(idx x0 (0 : Int)).bind fun v1 => (idx x1 (0 : Int)).bind fun v2 => (idx x0 (1 : Int)).bind fun v3 => (idx x1 (1 : Int)).bind fun v4 => some ([(IntKind.i64.wrap (v1 - v2)), (IntKind.i64.wrap (v3 - v4))] : List Int)
noncomputable def e_i_minus : CallE := ⟨58, [.d false (.list (.int .i64)), .d false (.list (.int .i64))], [.l (.o true 3 (.int .i64))], fun x => i_minus x.1 x.2⟩
noncomputable def c_i_minus : Ctx := ⟨Try.prog, TT, [], [], [], [], [], []⟩
theorem k_i_minus (x : PMs.den e_i_minus.ps) : funK c_i_minus Try.f58 e_i_minus.ps e_i_minus.rs x = e_i_minus.F x := by kernel_rfl
theorem o_i_minus {D : Prop} : FnOk Try.prog e_i_minus.f ∧ Ctr D Try.prog e_i_minus := mkCtr (C := c_i_minus) m_ (trivial) Try.func58 (by kernel_rfl) k_i_minus
/-! loop.example/g00959/impl.cross -/
noncomputable def i_cross (x0 : List Int) (x1 : List Int) : Option (Int) :=
(idx x0 (0 : Int)).bind fun v1 => (idx x1 (1 : Int)).bind fun v2 => (idx x0 (1 : Int)).bind fun v3 => (idx x1 (0 : Int)).bind fun v4 => some (IntKind.i64.wrap ((IntKind.i64.wrap (v1 * v2)) - (IntKind.i64.wrap (v3 * v4))))
noncomputable def e_i_cross : CallE := ⟨35, [.d false (.list (.int .i64)), .d false (.list (.int .i64))], [.l (.d false (.int .i64))], fun x => i_cross x.1 x.2⟩
noncomputable def c_i_cross : Ctx := ⟨Try.prog, TT, [], [], [], [], [], []⟩
theorem k_i_cross (x : PMs.den e_i_cross.ps) : funK c_i_cross Try.f35 e_i_cross.ps e_i_cross.rs x = e_i_cross.F x := by kernel_rfl
theorem o_i_cross {D : Prop} : FnOk Try.prog e_i_cross.f ∧ Ctr D Try.prog e_i_cross := mkCtr (C := c_i_cross) m_ (trivial) Try.func35 (by kernel_rfl) k_i_cross
/-! loop.example/g00959/impl.turn -/
noncomputable def i_turn (x0 : List Int) (x1 : List Int) (x2 : List Int) : Option (Int) :=
(i_minus x1 x0).bind fun v1 => (i_minus x2 x0).bind fun v2 => (i_cross v1 v2).bind fun v3 => some v3
noncomputable def e_i_turn : CallE := ⟨28, [.d false (.list (.int .i64)), .d false (.list (.int .i64)), .d false (.list (.int .i64))], [.l (.d false (.int .i64))], fun x => i_turn x.1 x.2.1 x.2.2⟩
noncomputable def c_i_turn : Ctx := ⟨Try.prog, TT, [e_i_minus, e_i_cross], [], [], [], [], []⟩
theorem k_i_turn (x : PMs.den e_i_turn.ps) : funK c_i_turn Try.f28 e_i_turn.ps e_i_turn.rs x = e_i_turn.F x := by kernel_rfl
theorem o_i_turn {D : Prop} : FnOk Try.prog e_i_turn.f ∧ Ctr D Try.prog e_i_turn := mkCtr (C := c_i_turn) m_ (⟨o_i_minus, o_i_cross, trivial⟩) Try.func28 (by kernel_rfl) k_i_turn
/-! slices.Reverse[[][]int,[]int] -/
noncomputable def g_slices_Reverse (x0 : List (List Int)) : Option (Unit × ((List (List Int)) × Unit)) := some ((), (x0.reverse, ()))
noncomputable def e_g_slices_Reverse : CallE := ⟨30, [.io true 27 (.list (.int .i64))], [], fun x => g_slices_Reverse x⟩
theorem o_g_slices_Reverse {D : Prop} : FnOk Try.prog e_g_slices_Reverse.f ∧ Ctr D Try.prog e_g_slices_Reverse := ⟨⟨Try.f30, _, Try.func30, by kernel_rfl, rfl⟩, rev_ctr layRev rfl⟩
/-! loop.example/g00959/impl.IsPolygon -/
noncomputable def i_IsPolygon_s4 (x0 : List (List Int)) (v2 : Int) : Option ((Int) ⊕ ((Unit) ⊕ (Bool))) :=
 cond (decide (v2 < (x0.length : Int)))
 ((idx x0 v2).bind fun v3 => (i_isPoint v3 (50 : Int)).bind fun v4 => cond (!v4)
 (some (.inr (.inr false)))
 (some (.inl (IntKind.i64.wrap (v2 + (1 : Int))))))
 (some (.inr (.inl ())))
noncomputable def i_IsPolygon_s11 (x0 : List (List Int)) (v8 : Int) : Option ((Int) ⊕ ((Unit) ⊕ (Bool))) :=
 cond (decide (v8 < (x0.length : Int)))
 ((idx x0 v8).bind fun v9 => (remI .i64 (IntKind.i64.wrap (v8 + (1 : Int))) (x0.length : Int)).bind fun v10 => (idx x0 v10).bind fun v11 => (remI .i64 (IntKind.i64.wrap (v8 + (2 : Int))) (x0.length : Int)).bind fun v12 => (idx x0 v12).bind fun v13 => (i_turn v9 v11 v13).bind fun v14 => cond (decide (v14 ≤ (0 : Int)))
 (some (.inr (.inr false)))
 (cond (decide (v8 > (0 : Int)))
 ((idx x0 (0 : Int)).bind fun v15 => (g_slices_Compare v15 v9).bind fun v16 => cond (decide (v16 ≥ (0 : Int)))
 (some (.inr (.inr false)))
 (cond (decide (v8 > (0 : Int)))
 (cond (decide (v8 < (IntKind.i64.wrap ((x0.length : Int) - (1 : Int)))))
 ((idx x0 (0 : Int)).bind fun v17 => (idx x0 (IntKind.i64.wrap (v8 + (1 : Int)))).bind fun v18 => (i_turn v17 v9 v18).bind fun v19 => cond (decide (v19 ≤ (0 : Int)))
 (some (.inr (.inr false)))
 (some (.inl (IntKind.i64.wrap (v8 + (1 : Int))))))
 (some (.inl (IntKind.i64.wrap (v8 + (1 : Int))))))
 (some (.inl (IntKind.i64.wrap (v8 + (1 : Int)))))))
 (cond (decide (v8 > (0 : Int)))
 (cond (decide (v8 < (IntKind.i64.wrap ((x0.length : Int) - (1 : Int)))))
 ((idx x0 (0 : Int)).bind fun v20 => (idx x0 (IntKind.i64.wrap (v8 + (1 : Int)))).bind fun v21 => (i_turn v20 v9 v21).bind fun v22 => cond (decide (v22 ≤ (0 : Int)))
 (some (.inr (.inr false)))
 (some (.inl (IntKind.i64.wrap (v8 + (1 : Int))))))
 (some (.inl (IntKind.i64.wrap (v8 + (1 : Int))))))
 (some (.inl (IntKind.i64.wrap (v8 + (1 : Int))))))))
 (some (.inr (.inl ())))
noncomputable def i_IsPolygon (x0 : List (List Int)) : Option (Bool) :=
(i_within (x0.length : Int) (3 : Int) (12 : Int)).bind fun v1 => cond (!v1)
 (some false)
 ((iter (i_IsPolygon_s4 x0) (0 : Int)).bind fun v5 => match v5 with
 | .inl v6 => ((iter (i_IsPolygon_s11 x0) (0 : Int)).bind fun v23 => match v23 with
 | .inl v24 => (some true)
 | .inr v25 => (some v25))
 | .inr v7 => (some v7))
noncomputable def e_i_IsPolygon : CallE := ⟨31, [.d false (.list (.list (.int .i64)))], [.l (.d false .bool)], fun x => i_IsPolygon x⟩
noncomputable def c_i_IsPolygon : Ctx := ⟨Try.prog, TT, [e_i_within, e_i_isPoint, e_i_turn, e_g_slices_Compare], [⟨4, [(14, .l (.d false (.int .i64)))], some (0, []), some [(2, .l (.d false .bool))], false⟩, ⟨11, [(26, .l (.d false (.int .i64)))], some (2, []), some [(2, .l (.d false .bool))], false⟩], [], [], [], []⟩
theorem k_i_IsPolygon (x : PMs.den e_i_IsPolygon.ps) : funK c_i_IsPolygon Try.f31 e_i_IsPolygon.ps e_i_IsPolygon.rs x = e_i_IsPolygon.F x := by kernel_rfl
theorem o_i_IsPolygon {D : Prop} : FnOk Try.prog e_i_IsPolygon.f ∧ Ctr D Try.prog e_i_IsPolygon := mkCtr (C := c_i_IsPolygon) m_ (⟨o_i_within, o_i_isPoint, o_i_turn, o_g_slices_Compare, trivial⟩) Try.func31 (by kernel_rfl) k_i_IsPolygon
/-! loop.example/g00959/impl.HullOf -/
noncomputable def i_HullOf_s4 (x0 : List (List Int)) (v1 : Int) : Option ((Int) ⊕ ((Unit) ⊕ (List (List Int) × Bool))) :=
 cond (decide (v1 < (x0.length : Int)))
 ((idx x0 v1).bind fun v2 => (i_isPoint v2 (50 : Int)).bind fun v3 => cond (!v3)
 (some (.inr (.inr (([] : List (List Int)), false))))
 (some (.inl (IntKind.i64.wrap (v1 + (1 : Int))))))
 (some (.inr (.inl ())))
noncomputable def i_HullOf_s19 (v9 : List (List Int) × List (List Int) × Int) (v11 : List Int) (v12 : List (List Int)) : Option ((List (List Int)) ⊕ (List (List Int))) :=
 cond (decide ((v12.length : Int) ≥ (IntKind.i64.wrap ((v9.2.1.length : Int) + (2 : Int)))))
 ((inIdx v12.length (IntKind.i64.wrap ((v12.length : Int) - (2 : Int)))).bind fun _ => (idx v12 (((IntKind.i64.wrap ((v12.length : Int) - (2 : Int)))).toNat : Int)).bind fun v13 => (inIdx v12.length (IntKind.i64.wrap ((v12.length : Int) - (1 : Int)))).bind fun _ => (idx v12 (((IntKind.i64.wrap ((v12.length : Int) - (1 : Int)))).toNat : Int)).bind fun v14 => (i_turn v13 v14 v11).bind fun v15 => cond (decide (v15 ≤ (0 : Int)))
 ((subl v12 0 (IntKind.i64.wrap ((v12.length : Int) - (1 : Int)))).bind fun v16 => some (.inl v16))
 (some (.inr v12)))
 (some (.inr v12))
noncomputable def i_HullOf_s17 (v9 : List (List Int) × List (List Int) × Int) (v10 : List (List Int) × Int) : Option ((List (List Int) × Int) ⊕ (List (List Int))) :=
 cond (decide (v10.2 < (v9.1.length : Int)))
 ((idx v9.1 v10.2).bind fun v11 => (iter (i_HullOf_s19 v9 v11) v10.1).bind fun v17 => (i_copyInts v11).bind fun v18 => (appD 24 v17 ([v18] : List (List Int))).bind fun v19 => some (.inl (v19, (IntKind.i64.wrap (v10.2 + (1 : Int))))))
 (some (.inr v10.1))
noncomputable def i_HullOf_s13 (v9 : List (List Int) × List (List Int) × Int) : Option ((List (List Int) × List (List Int) × Int) ⊕ (List (List Int))) :=
 cond (decide (v9.2.2 < (2 : Int)))
 ((iter (i_HullOf_s17 v9) (v9.2.1, (0 : Int))).bind fun v20 => (subl v20 0 (if (IntKind.i64.wrap ((v20.length : Int) - (1 : Int))) > (0 : Int) then (IntKind.i64.wrap ((v20.length : Int) - (1 : Int))) else (0 : Int))).bind fun v21 => (g_slices_Reverse v9.1).bind fun v22 => some (.inl (v22.2.1, (v21, (IntKind.i64.wrap (v9.2.2 + (1 : Int)))))))
 (some (.inr v9.2.1))
noncomputable def i_HullOf (x0 : List (List Int)) : Option (List (List Int) × Bool) :=
 cond (decide ((x0.length : Int) > (200 : Int)))
 (some (([] : List (List Int)), false))
 ((iter (i_HullOf_s4 x0) (0 : Int)).bind fun v4 => match v4 with
 | .inl v5 => ((i_copyPoints x0).bind fun v7 => (g_slices_SortFunc v7).bind fun v8 => (iter (i_HullOf_s13) (v8.2.1, (([] : List (List Int)), (0 : Int)))).bind fun v23 => (i_IsPolygon v23).bind fun v24 => cond (!v24)
 (some (([] : List (List Int)), false))
 (some (v23, true)))
 | .inr v6 => (some (v6.1, v6.2)))
noncomputable def e_i_HullOf : CallE := ⟨8, [.d false (.list (.list (.int .i64)))], [.l (.o true 27 (.list (.int .i64))), .l (.d false .bool)], fun x => i_HullOf x⟩
noncomputable def c_i_HullOf : Ctx := ⟨Try.prog, TT, [e_i_isPoint, e_i_copyPoints, e_g_slices_SortFunc, e_i_turn, e_i_copyInts, e_g_slices_Reverse, e_i_IsPolygon], [⟨4, [(17, .l (.d false (.int .i64)))], some (0, []), some [(2, .l (.o true 27 (.list (.int .i64)))), (3, .l (.d false .bool))], false⟩, ⟨13, [(6, .l (.o true 27 (.list (.int .i64)))), (7, .l (.o true 27 (.list (.int .i64)))), (8, .l (.d false (.int .i64)))], some (2, [(7, .l (.o true 27 (.list (.int .i64))))]), none, false⟩, ⟨17, [(7, .l (.o true 27 (.list (.int .i64)))), (37, .l (.d false (.int .i64)))], some (4, [(7, .l (.o true 27 (.list (.int .i64))))]), none, true⟩, ⟨19, [(7, .l (.o true 27 (.list (.int .i64))))], some (6, [(7, .l (.o true 27 (.list (.int .i64))))]), none, false⟩], [], [], [], []⟩
theorem k_i_HullOf (x : PMs.den e_i_HullOf.ps) : funK c_i_HullOf Try.f8 e_i_HullOf.ps e_i_HullOf.rs x = e_i_HullOf.F x := by kernel_rfl
theorem o_i_HullOf {D : Prop} : FnOk Try.prog e_i_HullOf.f ∧ Ctr D Try.prog e_i_HullOf := mkCtr (C := c_i_HullOf) m_ (⟨o_i_isPoint, o_i_copyPoints, o_g_slices_SortFunc, o_i_turn, o_i_copyInts, o_g_slices_Reverse, o_i_IsPolygon, trivial⟩) Try.func8 (by kernel_rfl) k_i_HullOf
/-! loop.example/g00959/impl.times -/
noncomputable def i_times_s2 (i : Nat) (m t : Int) (s : Int × List (List Int)) : Option ((Int × List (List Int)) ⊕ List (List Int)) :=
 cond (decide (s.1 < m)) ((s.2[i]?).bind fun q => (inIdx q.length s.1).bind fun _ => (s.2[i]?).bind fun q => (q[s.1.toNat]?).bind fun v => (s.2[i]?).bind fun q => (inIdx q.length s.1).bind fun _ => (s.2[i]?).bind fun q => (q[s.1.toNat]?).bind fun _ => some (.inl (IntKind.i64.wrap (s.1 + 1), s.2.set i (q.set s.1.toNat (IntKind.i64.wrap (v * t)))))) (some (.inr s.2))
noncomputable def i_times_s1 (n t : Int) (s : Int × List (List Int)) : Option ((Int × List (List Int)) ⊕ List (List Int)) :=
 cond (decide (s.1 < n)) ((inIdx s.2.length s.1).bind fun _ => if s.1.toNat < s.2.length then (s.2[s.1.toNat]?).bind fun q => (iter (i_times_s2 s.1.toNat q.length t) (0, s.2)).bind fun y => some (.inl (IntKind.i64.wrap (s.1 + 1), y)) else none) (some (.inr s.2))
noncomputable def i_times (x0 : List (List Int)) (x1 : Int) : Option (List (List Int)) := (i_copyPoints x0).bind fun v1 => (iter (i_times_s1 v1.length x1) (0, v1)).bind fun y => some y
noncomputable def e_i_times : CallE := ⟨32, [.d false (.list (.list (.int .i64))), .d false (.int .i64)], [.l (.o true 27 (.list (.int .i64)))], fun x => i_times x.1 x.2⟩
noncomputable def c_i_times : Ctx := ⟨Try.prog, TT, [e_i_copyPoints], [], [], [], [], []⟩
theorem k_i_times (x : PMs.den e_i_times.ps) : funWr c_i_times [⟨0, 11, [⟨3, 0, 13⟩, ⟨6, 2, 19⟩]⟩] Try.f32 e_i_times.ps e_i_times.rs x = e_i_times.F x := by kernel_rfl
theorem o_i_times {D : Prop} : FnOk Try.prog e_i_times.f ∧ Ctr D Try.prog e_i_times := mkCtrW (C := c_i_times) m_ (⟨o_i_copyPoints, trivial⟩) Try.func32 (by kernel_rfl) rfl k_i_times
/-! loop.example/g00959/impl.MirrorPolygon -/
noncomputable def i_MirrorPolygon (x0 : List (List Int)) : Option (List (List Int) × Bool) :=
(i_IsPolygon x0).bind fun v1 => cond (!v1)
 (some (([] : List (List Int)), false))
 ((i_times x0 (-1 : Int)).bind fun v2 => (i_HullOf v2).bind fun v3 => some (v3.1, v3.2))
noncomputable def e_i_MirrorPolygon : CallE := ⟨9, [.d false (.list (.list (.int .i64)))], [.l (.o true 27 (.list (.int .i64))), .l (.d false .bool)], fun x => i_MirrorPolygon x⟩
noncomputable def c_i_MirrorPolygon : Ctx := ⟨Try.prog, TT, [e_i_IsPolygon, e_i_times, e_i_HullOf], [], [], [], [], []⟩
theorem k_i_MirrorPolygon (x : PMs.den e_i_MirrorPolygon.ps) : funK c_i_MirrorPolygon Try.f9 e_i_MirrorPolygon.ps e_i_MirrorPolygon.rs x = e_i_MirrorPolygon.F x := by kernel_rfl
theorem o_i_MirrorPolygon {D : Prop} : FnOk Try.prog e_i_MirrorPolygon.f ∧ Ctr D Try.prog e_i_MirrorPolygon := mkCtr (C := c_i_MirrorPolygon) m_ (⟨o_i_IsPolygon, o_i_times, o_i_HullOf, trivial⟩) Try.func9 (by kernel_rfl) k_i_MirrorPolygon
/-! loop.example/g00959/spec.l1Max -/
noncomputable def s_l1Max (x0 : Int) (x1 : Int) : Option (Int) :=
 cond (decide (x0 > x1))
 (some x0)
 (some x1)
noncomputable def e_s_l1Max : CallE := ⟨91, [.d false (.int .i64), .d false (.int .i64)], [.l (.d false (.int .i64))], fun x => s_l1Max x.1 x.2⟩
noncomputable def c_s_l1Max : Ctx := ⟨Try.prog, TT, [], [], [], [], [], []⟩
theorem k_s_l1Max (x : PMs.den e_s_l1Max.ps) : funK c_s_l1Max Try.f91 e_s_l1Max.ps e_s_l1Max.rs x = e_s_l1Max.F x := by kernel_rfl
theorem o_s_l1Max {D : Prop} : FnOk Try.prog e_s_l1Max.f ∧ Ctr D Try.prog e_s_l1Max := mkCtr (C := c_s_l1Max) m_ (trivial) Try.func91 (by kernel_rfl) k_s_l1Max
/-! loop.example/g00959/spec.l1Abs -/
noncomputable def s_l1Abs (x0 : Int) : Option (Int) :=
(s_l1Max x0 (IntKind.i64.wrap (0 - x0))).bind fun v1 => some v1
noncomputable def e_s_l1Abs : CallE := ⟨94, [.d false (.int .i64)], [.l (.d false (.int .i64))], fun x => s_l1Abs x⟩
noncomputable def c_s_l1Abs : Ctx := ⟨Try.prog, TT, [e_s_l1Max], [], [], [], [], []⟩
theorem k_s_l1Abs (x : PMs.den e_s_l1Abs.ps) : funK c_s_l1Abs Try.f94 e_s_l1Abs.ps e_s_l1Abs.rs x = e_s_l1Abs.F x := by kernel_rfl
theorem o_s_l1Abs {D : Prop} : FnOk Try.prog e_s_l1Abs.f ∧ Ctr D Try.prog e_s_l1Abs := mkCtr (C := c_s_l1Abs) m_ (⟨o_s_l1Max, trivial⟩) Try.func94 (by kernel_rfl) k_s_l1Abs
/-! loop.example/g00959/spec.l2Gcd -/
noncomputable def s_l2Gcd_s3 (v3 : Int × Int) : Option ((Int × Int) ⊕ (Int)) :=
 cond (v3.2 != (0 : Int))
 ((remI .i64 v3.1 v3.2).bind fun v4 => some (.inl (v3.2, v4)))
 (some (.inr v3.1))
noncomputable def s_l2Gcd (x0 : Int) (x1 : Int) : Option (Int) :=
(s_l1Abs x0).bind fun v1 => (s_l1Abs x1).bind fun v2 => (iter (s_l2Gcd_s3) (v1, v2)).bind fun v5 => some v5
noncomputable def e_s_l2Gcd : CallE := ⟨90, [.d false (.int .i64), .d false (.int .i64)], [.l (.d false (.int .i64))], fun x => s_l2Gcd x.1 x.2⟩
noncomputable def c_s_l2Gcd : Ctx := ⟨Try.prog, TT, [e_s_l1Abs], [⟨3, [(0, .l (.d false (.int .i64))), (1, .l (.d false (.int .i64)))], some (0, [(0, .l (.d false (.int .i64)))]), none, false⟩], [], [], [], []⟩
theorem k_s_l2Gcd (x : PMs.den e_s_l2Gcd.ps) : funK c_s_l2Gcd Try.f90 e_s_l2Gcd.ps e_s_l2Gcd.rs x = e_s_l2Gcd.F x := by kernel_rfl
theorem o_s_l2Gcd {D : Prop} : FnOk Try.prog e_s_l2Gcd.f ∧ Ctr D Try.prog e_s_l2Gcd := mkCtr (C := c_s_l2Gcd) m_ (⟨o_s_l1Abs, trivial⟩) Try.func90 (by kernel_rfl) k_s_l2Gcd
/-! loop.example/g00959/spec.l2All -/
noncomputable def s_l2All_s3 (x0 : List Int) (v1 : Int × Int) : Option ((Int × Int) ⊕ (Int)) :=
 cond (decide (v1.2 < (x0.length : Int)))
 ((idx x0 v1.2).bind fun v2 => (s_l2Gcd v1.1 v2).bind fun v3 => some (.inl (v3, (IntKind.i64.wrap (v1.2 + (1 : Int))))))
 (some (.inr v1.1))
noncomputable def s_l2All (x0 : List Int) : Option (Int) :=
(iter (s_l2All_s3 x0) ((0 : Int), (0 : Int))).bind fun v4 => some v4
noncomputable def e_s_l2All : CallE := ⟨82, [.d false (.list (.int .i64))], [.l (.d false (.int .i64))], fun x => s_l2All x⟩
noncomputable def c_s_l2All : Ctx := ⟨Try.prog, TT, [e_s_l2Gcd], [⟨3, [(3, .l (.d false (.int .i64))), (4, .l (.d false (.int .i64)))], some (0, [(3, .l (.d false (.int .i64)))]), none, false⟩], [], [], [], []⟩
theorem k_s_l2All (x : PMs.den e_s_l2All.ps) : funK c_s_l2All Try.f82 e_s_l2All.ps e_s_l2All.rs x = e_s_l2All.F x := by kernel_rfl
theorem o_s_l2All {D : Prop} : FnOk Try.prog e_s_l2All.f ∧ Ctr D Try.prog e_s_l2All := mkCtr (C := c_s_l2All) m_ (⟨o_s_l2Gcd, trivial⟩) Try.func82 (by kernel_rfl) k_s_l2All
/-! loop.example/g00959/spec.l2Prime -/
noncomputable def s_l2Prime_s4 (x0 : List Int) (v1 : Int) (v2 : List Int × Int) : Option ((List Int × Int) ⊕ (List Int)) :=
 cond (decide (v2.2 < (x0.length : Int)))
 ((idx x0 v2.2).bind fun v3 => (s_l1Max v1 (1 : Int)).bind fun v4 => (quoI .i64 v3 v4).bind fun v5 => (appD 8 v2.1 ([v5] : List Int)).bind fun v6 => some (.inl (v6, (IntKind.i64.wrap (v2.2 + (1 : Int))))))
 (some (.inr v2.1))
noncomputable def s_l2Prime (x0 : List Int) : Option (List Int) :=
(s_l2All x0).bind fun v1 => (iter (s_l2Prime_s4 x0 v1) (([] : List Int), (0 : Int))).bind fun v7 => some v7
noncomputable def e_s_l2Prime : CallE := ⟨83, [.d false (.list (.int .i64))], [.l (.o true 3 (.int .i64))], fun x => s_l2Prime x⟩
noncomputable def c_s_l2Prime : Ctx := ⟨Try.prog, TT, [e_s_l2All, e_s_l1Max], [⟨4, [(4, .l (.o true 3 (.int .i64))), (5, .l (.d false (.int .i64)))], some (0, [(4, .l (.o true 3 (.int .i64)))]), none, false⟩], [], [], [], []⟩
theorem k_s_l2Prime (x : PMs.den e_s_l2Prime.ps) : funK c_s_l2Prime Try.f83 e_s_l2Prime.ps e_s_l2Prime.rs x = e_s_l2Prime.F x := by kernel_rfl
theorem o_s_l2Prime {D : Prop} : FnOk Try.prog e_s_l2Prime.f ∧ Ctr D Try.prog e_s_l2Prime := mkCtr (C := c_s_l2Prime) m_ (⟨o_s_l2All, o_s_l1Max, trivial⟩) Try.func83 (by kernel_rfl) k_s_l2Prime
/-! loop.example/g00959/spec.l9Ray -/
noncomputable def s_l9Ray (x0 : List Int) : Option (Bool) :=
 cond ((x0.length : Int) == (2 : Int))
 ((s_l2Small x0 (30 : Int)).bind fun v1 => cond v1
 ((s_l2All x0).bind fun v2 => some (v2 == (1 : Int)))
 (some false))
 (some false)
noncomputable def e_s_l9Ray : CallE := ⟨67, [.d false (.list (.int .i64))], [.l (.d false .bool)], fun x => s_l9Ray x⟩
noncomputable def c_s_l9Ray : Ctx := ⟨Try.prog, TT, [e_s_l2Small, e_s_l2All], [], [], [], [], []⟩
theorem k_s_l9Ray (x : PMs.den e_s_l9Ray.ps) : funK c_s_l9Ray Try.f67 e_s_l9Ray.ps e_s_l9Ray.rs x = e_s_l9Ray.F x := by kernel_rfl
theorem o_s_l9Ray {D : Prop} : FnOk Try.prog e_s_l9Ray.f ∧ Ctr D Try.prog e_s_l9Ray := mkCtr (C := c_s_l9Ray) m_ (⟨o_s_l2Small, o_s_l2All, trivial⟩) Try.func67 (by kernel_rfl) k_s_l9Ray
/-! loop.example/g00959/spec.IsCone -/
noncomputable def s_IsCone (x0 : (List Int) × (List Int)) : Option (Bool) :=
(s_l9Ray x0.1).bind fun v1 => cond v1
 ((s_l9Ray x0.2).bind fun v2 => cond v2
 ((s_l7Cross x0.1 x0.2).bind fun v3 => some (decide (v3 > (0 : Int))))
 (some false))
 (some false)
noncomputable def e_s_IsCone : CallE := ⟨45, [.d false (.prod (.list (.int .i64)) (.list (.int .i64)))], [.l (.d false .bool)], fun x => s_IsCone x⟩
noncomputable def c_s_IsCone : Ctx := ⟨Try.prog, TT, [e_s_l9Ray, e_s_l7Cross], [], [], [], [], []⟩
theorem k_s_IsCone (x : PMs.den e_s_IsCone.ps) : funK c_s_IsCone Try.f45 e_s_IsCone.ps e_s_IsCone.rs x = e_s_IsCone.F x := by kernel_rfl
theorem o_s_IsCone {D : Prop} : FnOk Try.prog e_s_IsCone.f ∧ Ctr D Try.prog e_s_IsCone := mkCtr (C := c_s_IsCone) m_ (⟨o_s_l9Ray, o_s_l7Cross, trivial⟩) Try.func45 (by kernel_rfl) k_s_IsCone
/-! loop.example/g00959/spec.l9Draw -/
noncomputable def s_l9Draw_s2 (v1 : (List Int × Int × Int) × (List Int × List Int) × Int) : Option (((List Int × Int × Int) × (List Int × List Int) × Int) ⊕ (((List Int × Int × Int) × List Int × List Int) ⊕ ((List Int × Int × Int) × List Int × List Int))) :=
 cond (decide (v1.2.2 < (6 : Int)))
 ((s_l2Draw (v1.1.1, (v1.1.2.1, v1.1.2.2)) (2 : Int) (6 : Int)).bind fun v2 => (s_l2Draw (v2.2.1.1, (v2.2.1.2.1, v2.2.1.2.2)) (2 : Int) (6 : Int)).bind fun v3 => (s_l2All v2.1).bind fun v4 => cond (v4 == (0 : Int))
 (some (.inl ((v3.2.1.1, (v3.2.1.2.1, v3.2.1.2.2)), ((v1.2.1.1, v1.2.1.2), (IntKind.i64.wrap (v1.2.2 + (1 : Int)))))))
 ((s_l2All v3.1).bind fun v5 => cond (v5 == (0 : Int))
 (some (.inl ((v3.2.1.1, (v3.2.1.2.1, v3.2.1.2.2)), ((v1.2.1.1, v1.2.1.2), (IntKind.i64.wrap (v1.2.2 + (1 : Int)))))))
 ((s_l2Prime v2.1).bind fun v6 => (s_l2Prime v3.1).bind fun v7 => (s_l7Cross v6 v7).bind fun v8 => cond (decide (v8 < (0 : Int)))
 (some (.inr (.inr ((v3.2.1.1, (v3.2.1.2.1, v3.2.1.2.2)), (v7, v6)))))
 ((s_IsCone (v6, v7)).bind fun v9 => cond v9
 (some (.inr (.inr ((v3.2.1.1, (v3.2.1.2.1, v3.2.1.2.2)), (v6, v7)))))
 (some (.inl ((v3.2.1.1, (v3.2.1.2.1, v3.2.1.2.2)), ((v1.2.1.1, v1.2.1.2), (IntKind.i64.wrap (v1.2.2 + (1 : Int)))))))))))
 (some (.inr (.inl ((v1.1.1, (v1.1.2.1, v1.1.2.2)), (v1.2.1.1, v1.2.1.2)))))
noncomputable def s_l9Draw (x0 : (List Int) × Int × Int) : Option ((List Int × List Int) × ((List Int) × Int × Int) × Unit) :=
(iter (s_l9Draw_s2) ((x0.1, (x0.2.1, x0.2.2)), ((([] : List Int), ([] : List Int)), (0 : Int)))).bind fun v10 => match v10 with
 | .inl v11 => (some ((([(1 : Int), (0 : Int)] : List Int), ([(2 : Int), (5 : Int)] : List Int)), ((v11.1.1, (v11.1.2.1, v11.1.2.2)), ())))
 | .inr v12 => (some ((v12.2.1, v12.2.2), ((v12.1.1, (v12.1.2.1, v12.1.2.2)), ())))
noncomputable def e_s_l9Draw : CallE := ⟨60, [.cur 62], [.a [(.o true 3 (.int .i64)), (.o true 3 (.int .i64))]], fun x => s_l9Draw x⟩
noncomputable def c_s_l9Draw : Ctx := ⟨Try.prog, TT, [e_s_l2Draw, e_s_l2All, e_s_l2Prime, e_s_l7Cross, e_s_IsCone], [⟨2, [(0, .b 62 [(.d false (.list (.int .u8))), (.d false (.int .i64)), (.d false (.int .i64))]), (2, .b 31 [(.o true 3 (.int .i64)), (.o true 3 (.int .i64))]), (3, .l (.d false (.int .i64)))], some (0, [(0, .b 62 [(.d false (.list (.int .u8))), (.d false (.int .i64)), (.d false (.int .i64))]), (2, .b 31 [(.o true 3 (.int .i64)), (.o true 3 (.int .i64))])]), some [(0, .b 62 [(.d false (.list (.int .u8))), (.d false (.int .i64)), (.d false (.int .i64))]), (2, .b 31 [(.o true 3 (.int .i64)), (.o true 3 (.int .i64))])], false⟩], [], [], [], []⟩
theorem k_s_l9Draw (x : PMs.den e_s_l9Draw.ps) : funK c_s_l9Draw Try.f60 e_s_l9Draw.ps e_s_l9Draw.rs x = e_s_l9Draw.F x := by kernel_rfl
theorem o_s_l9Draw {D : Prop} : FnOk Try.prog e_s_l9Draw.f ∧ Ctr D Try.prog e_s_l9Draw := mkCtr (C := c_s_l9Draw) m_ (⟨o_s_l2Draw, o_s_l2All, o_s_l2Prime, o_s_l7Cross, o_s_IsCone, trivial⟩) Try.func60 (by kernel_rfl) k_s_l9Draw
/-! loop.example/g00959/spec.l1PickInt -/
noncomputable def s_l1PickInt (x0 : (List Int) × Int × Int) (x1 : List Int) : Option ((Int) × ((List Int) × Int × Int) × Unit) :=
(s_l1Below (x0.1, (x0.2.1, x0.2.2)) (x1.length : Int)).bind fun v1 => (idx x1 v1.1).bind fun v2 => some (v2, ((v1.2.1.1, (v1.2.1.2.1, v1.2.1.2.2)), ()))
noncomputable def e_s_l1PickInt : CallE := ⟨61, [.cur 62, .d false (.list (.int .i64))], [.l (.d false (.int .i64))], fun x => s_l1PickInt x.1 x.2⟩
noncomputable def c_s_l1PickInt : Ctx := ⟨Try.prog, TT, [e_s_l1Below], [], [], [], [], []⟩
theorem k_s_l1PickInt (x : PMs.den e_s_l1PickInt.ps) : funK c_s_l1PickInt Try.f61 e_s_l1PickInt.ps e_s_l1PickInt.rs x = e_s_l1PickInt.F x := by kernel_rfl
theorem o_s_l1PickInt {D : Prop} : FnOk Try.prog e_s_l1PickInt.f ∧ Ctr D Try.prog e_s_l1PickInt := mkCtr (C := c_s_l1PickInt) m_ (⟨o_s_l1Below, trivial⟩) Try.func61 (by kernel_rfl) k_s_l1PickInt
/-! loop.example/g00959/spec.l9Bent -/
noncomputable def s_l9Bent (x0 : (List Int) × Int × Int) : Option ((List Int × List Int) × ((List Int) × Int × Int) × Unit) :=
(s_l9Draw (x0.1, (x0.2.1, x0.2.2))).bind fun v1 => (s_l1Below (v1.2.1.1, (v1.2.1.2.1, v1.2.1.2.2)) (12 : Int)).bind fun v2 => cond (v2.1 == (0 : Int))
 ((s_l1Once (v2.2.1.1, (v2.2.1.2.1, v2.2.1.2.2)) (3 : Int)).bind fun v3 => (s_l1Bit v3.1).bind fun v4 => (s_l2Draw (v3.2.1.1, (v3.2.1.2.1, v3.2.1.2.2)) (IntKind.i64.wrap ((2 : Int) + v4)) (4 : Int)).bind fun v5 => some ((v5.1, v1.1.2), ((v5.2.1.1, (v5.2.1.2.1, v5.2.1.2.2)), ())))
 (cond (v2.1 == (1 : Int))
 (some ((v1.1.2, v1.1.1), ((v2.2.1.1, (v2.2.1.2.1, v2.2.1.2.2)), ())))
 (cond (v2.1 == (2 : Int))
 ((s_l1PickInt (v2.2.1.1, (v2.2.1.2.1, v2.2.1.2.2)) ([(30 : Int), (31 : Int), (-31 : Int)] : List Int)).bind fun v6 => some ((v1.1.1, ([v6.1, (1 : Int)] : List Int)), ((v6.2.1.1, (v6.2.1.2.1, v6.2.1.2.2)), ())))
 (some ((v1.1.1, v1.1.2), ((v2.2.1.1, (v2.2.1.2.1, v2.2.1.2.2)), ())))))
noncomputable def e_s_l9Bent : CallE := ⟨33, [.cur 62], [.a [(.o true 3 (.int .i64)), (.o true 3 (.int .i64))]], fun x => s_l9Bent x⟩
noncomputable def c_s_l9Bent : Ctx := ⟨Try.prog, TT, [e_s_l9Draw, e_s_l1Below, e_s_l1Once, e_s_l1Bit, e_s_l2Draw, e_s_l1PickInt], [], [], [], [], []⟩
theorem k_s_l9Bent (x : PMs.den e_s_l9Bent.ps) : funK c_s_l9Bent Try.f33 e_s_l9Bent.ps e_s_l9Bent.rs x = e_s_l9Bent.F x := by kernel_rfl
theorem o_s_l9Bent {D : Prop} : FnOk Try.prog e_s_l9Bent.f ∧ Ctr D Try.prog e_s_l9Bent := mkCtr (C := c_s_l9Bent) m_ (⟨o_s_l9Draw, o_s_l1Below, o_s_l1Once, o_s_l1Bit, o_s_l2Draw, o_s_l1PickInt, trivial⟩) Try.func33 (by kernel_rfl) k_s_l9Bent
/-! loop.example/g00959/spec.DrawSplitCone -/
noncomputable def s_DrawSplitCone_s16_3 (x0 : List Int) (v1 : Int × Int) : Option ((Int × Int) ⊕ (Int)) :=
 cond (decide (v1.2 < (x0.length : Int)))
 (cond (decide (v1.2 < (4000 : Int)))
 ((idx x0 v1.2).bind fun v2 => some (.inl ((andI .i64 (IntKind.i64.wrap ((IntKind.i64.wrap ((IntKind.i64.wrap (v1.1 * (131 : Int))) + (IntKind.i64.wrap v2))) + (7 : Int))) (1073741823 : Int)), (IntKind.i64.wrap (v1.2 + (1 : Int))))))
 (some (.inr v1.1)))
 (some (.inr v1.1))
noncomputable def s_DrawSplitCone (x0 : List Int) : Option (List Int × List Int) :=
(iter (s_DrawSplitCone_s16_3 x0) ((IntKind.i64.wrap ((26583 : Int) + (x0.length : Int))), (0 : Int))).bind fun v3 => (s_l9Bent (x0, ((0 : Int), v3))).bind fun v4 => some (v4.1.1, v4.1.2)
noncomputable def e_s_DrawSplitCone : CallE := ⟨10, [.d false (.list (.int .u8))], [.a [(.o true 3 (.int .i64)), (.o true 3 (.int .i64))]], fun x => s_DrawSplitCone x⟩
noncomputable def c_s_DrawSplitCone_16 : Ctx := ⟨Try.prog, TT, [], [⟨3, [(3, .l (.d false (.int .i64))), (4, .l (.d false (.int .i64)))], some (0, [(3, .l (.d false (.int .i64)))]), none, true⟩], [], [], [], []⟩
noncomputable def n_s_DrawSplitCone_16 : InE := ⟨16, false, inlK c_s_DrawSplitCone_16 Try.f16⟩
theorem q_s_DrawSplitCone_16 {D : Prop} : FnOk Try.prog n_s_DrawSplitCone_16.f ∧ InOk D Try.prog n_s_DrawSplitCone_16 := mkInl (C := c_s_DrawSplitCone_16) m_ (trivial) Try.func16 (by kernel_rfl)
noncomputable def c_s_DrawSplitCone : Ctx := ⟨Try.prog, TT, [e_s_l9Bent], [], [], [n_s_DrawSplitCone_16], [], []⟩
theorem k_s_DrawSplitCone (x : PMs.den e_s_DrawSplitCone.ps) : funK c_s_DrawSplitCone Try.f10 e_s_DrawSplitCone.ps e_s_DrawSplitCone.rs x = e_s_DrawSplitCone.F x := by kernel_rfl
theorem o_s_DrawSplitCone {D : Prop} : FnOk Try.prog e_s_DrawSplitCone.f ∧ Ctr D Try.prog e_s_DrawSplitCone := mkCtr (C := c_s_DrawSplitCone) m_ (⟨o_s_l9Bent, trivial⟩) Try.func10 (by kernel_rfl) k_s_DrawSplitCone ⟨q_s_DrawSplitCone_16, trivial⟩
/-! loop.example/g00959/impl.magnitude -/
noncomputable def i_magnitude (x0 : Int) : Option (Int) :=
 some (if (IntKind.i64.wrap (0 - x0)) > x0 then (IntKind.i64.wrap (0 - x0)) else x0)
noncomputable def e_i_magnitude : CallE := ⟨92, [.d false (.int .i64)], [.l (.d false (.int .i64))], fun x => i_magnitude x⟩
noncomputable def c_i_magnitude : Ctx := ⟨Try.prog, TT, [], [], [], [], [], []⟩
theorem k_i_magnitude (x : PMs.den e_i_magnitude.ps) : funK c_i_magnitude Try.f92 e_i_magnitude.ps e_i_magnitude.rs x = e_i_magnitude.F x := by kernel_rfl
theorem o_i_magnitude {D : Prop} : FnOk Try.prog e_i_magnitude.f ∧ Ctr D Try.prog e_i_magnitude := mkCtr (C := c_i_magnitude) m_ (trivial) Try.func92 (by kernel_rfl) k_i_magnitude
/-! loop.example/g00959/impl.divisor -/
noncomputable def i_divisor_s1 (v1 : Int × Int) : Option ((Int × Int) ⊕ (Int)) :=
 cond (v1.2 != (0 : Int))
 ((remI .i64 v1.1 v1.2).bind fun v2 => some (.inl (v1.2, v2)))
 (some (.inr v1.1))
noncomputable def i_divisor (x0 : Int) (x1 : Int) : Option (Int) :=
(iter (i_divisor_s1) (x0, x1)).bind fun v3 => (i_magnitude v3).bind fun v4 => some v4
noncomputable def e_i_divisor : CallE := ⟨84, [.d false (.int .i64), .d false (.int .i64)], [.l (.d false (.int .i64))], fun x => i_divisor x.1 x.2⟩
noncomputable def c_i_divisor : Ctx := ⟨Try.prog, TT, [e_i_magnitude], [⟨1, [(0, .l (.d false (.int .i64))), (1, .l (.d false (.int .i64)))], some (0, [(0, .l (.d false (.int .i64)))]), none, false⟩], [], [], [], []⟩
theorem k_i_divisor (x : PMs.den e_i_divisor.ps) : funK c_i_divisor Try.f84 e_i_divisor.ps e_i_divisor.rs x = e_i_divisor.F x := by kernel_rfl
theorem o_i_divisor {D : Prop} : FnOk Try.prog e_i_divisor.f ∧ Ctr D Try.prog e_i_divisor := mkCtr (C := c_i_divisor) m_ (⟨o_i_magnitude, trivial⟩) Try.func84 (by kernel_rfl) k_i_divisor
/-! loop.example/g00959/impl.gcdAll -/
noncomputable def i_gcdAll_s3 (x0 : List Int) (v1 : Int × Int) : Option ((Int × Int) ⊕ (Int)) :=
 cond (decide (v1.2 < (x0.length : Int)))
 ((idx x0 v1.2).bind fun v2 => (i_divisor v1.1 v2).bind fun v3 => some (.inl (v3, (IntKind.i64.wrap (v1.2 + (1 : Int))))))
 (some (.inr v1.1))
noncomputable def i_gcdAll (x0 : List Int) : Option (Int) :=
(iter (i_gcdAll_s3 x0) ((0 : Int), (0 : Int))).bind fun v4 => some v4
noncomputable def e_i_gcdAll : CallE := ⟨62, [.d false (.list (.int .i64))], [.l (.d false (.int .i64))], fun x => i_gcdAll x⟩
noncomputable def c_i_gcdAll : Ctx := ⟨Try.prog, TT, [e_i_divisor], [⟨3, [(3, .l (.d false (.int .i64))), (8, .l (.d false (.int .i64)))], some (0, [(3, .l (.d false (.int .i64)))]), none, false⟩], [], [], [], []⟩
theorem k_i_gcdAll (x : PMs.den e_i_gcdAll.ps) : funK c_i_gcdAll Try.f62 e_i_gcdAll.ps e_i_gcdAll.rs x = e_i_gcdAll.F x := by kernel_rfl
theorem o_i_gcdAll {D : Prop} : FnOk Try.prog e_i_gcdAll.f ∧ Ctr D Try.prog e_i_gcdAll := mkCtr (C := c_i_gcdAll) m_ (⟨o_i_divisor, trivial⟩) Try.func62 (by kernel_rfl) k_i_gcdAll
/-! loop.example/g00959/impl.IsCone -/
noncomputable def i_IsCone (x0 : (List Int) × (List Int)) : Option (Bool) :=
(i_isPoint x0.1 (30 : Int)).bind fun v1 => cond v1
 ((i_isPoint x0.2 (30 : Int)).bind fun v2 => cond v2
 ((i_gcdAll x0.1).bind fun v3 => cond (v3 == (1 : Int))
 ((i_gcdAll x0.2).bind fun v4 => cond (v4 == (1 : Int))
 ((i_cross x0.1 x0.2).bind fun v5 => some (decide (v5 > (0 : Int))))
 (some false))
 (some false))
 (some false))
 (some false)
noncomputable def e_i_IsCone : CallE := ⟨34, [.d false (.prod (.list (.int .i64)) (.list (.int .i64)))], [.l (.d false .bool)], fun x => i_IsCone x⟩
noncomputable def c_i_IsCone : Ctx := ⟨Try.prog, TT, [e_i_isPoint, e_i_gcdAll, e_i_cross], [], [], [], [], []⟩
theorem k_i_IsCone (x : PMs.den e_i_IsCone.ps) : funK c_i_IsCone Try.f34 e_i_IsCone.ps e_i_IsCone.rs x = e_i_IsCone.F x := by kernel_rfl
theorem o_i_IsCone {D : Prop} : FnOk Try.prog e_i_IsCone.f ∧ Ctr D Try.prog e_i_IsCone := mkCtr (C := c_i_IsCone) m_ (⟨o_i_isPoint, o_i_gcdAll, o_i_cross, trivial⟩) Try.func34 (by kernel_rfl) k_i_IsCone
/-! loop.example/g00959/impl.partner -/
noncomputable def i_partner_s3 (v3 : List Int × List Int × Int × Int) : Option ((List Int × List Int × Int × Int) ⊕ (List Int × Int)) :=
 cond (v3.2.2.2 != (0 : Int))
 ((quoI .i64 v3.2.2.1 v3.2.2.2).bind fun v4 => (inIdx v3.1.length (0 : Int)).bind fun _ => (idx v3.1 (((0 : Int)).toNat : Int)).bind fun v5 => (inIdx v3.2.1.length (0 : Int)).bind fun _ => (idx v3.2.1 (((0 : Int)).toNat : Int)).bind fun v6 => (inIdx v3.1.length (1 : Int)).bind fun _ => (idx v3.1 (((1 : Int)).toNat : Int)).bind fun v7 => (inIdx v3.2.1.length (1 : Int)).bind fun _ => (idx v3.2.1 (((1 : Int)).toNat : Int)).bind fun v8 => some (.inl (v3.2.1, (([(IntKind.i64.wrap (v5 - (IntKind.i64.wrap (v4 * v6)))), (IntKind.i64.wrap (v7 - (IntKind.i64.wrap (v4 * v8))))] : List Int), (v3.2.2.2, (IntKind.i64.wrap (v3.2.2.1 - (IntKind.i64.wrap (v4 * v3.2.2.2)))))))))
 (some (.inr (v3.1, v3.2.2.1)))
noncomputable def i_partner (x0 : List Int) : Option (List Int) :=
(idx x0 (0 : Int)).bind fun v1 => (idx x0 (1 : Int)).bind fun v2 => (iter (i_partner_s3) (([(1 : Int), (0 : Int)] : List Int), (([(0 : Int), (1 : Int)] : List Int), (v1, v2)))).bind fun v9 => (inIdx v9.1.length (1 : Int)).bind fun _ => (idx v9.1 (((1 : Int)).toNat : Int)).bind fun v10 => (inIdx v9.1.length (0 : Int)).bind fun _ => (idx v9.1 (((0 : Int)).toNat : Int)).bind fun v11 => some ([(IntKind.i64.wrap ((IntKind.i64.wrap (0 - v10)) * v9.2)), (IntKind.i64.wrap (v11 * v9.2))] : List Int)
noncomputable def e_i_partner : CallE := ⟨36, [.d false (.list (.int .i64))], [.l (.o true 3 (.int .i64))], fun x => i_partner x⟩
noncomputable def c_i_partner : Ctx := ⟨Try.prog, TT, [], [⟨3, [(3, .l (.o true 3 (.int .i64))), (4, .l (.o true 3 (.int .i64))), (5, .l (.d false (.int .i64))), (6, .l (.d false (.int .i64)))], some (0, [(3, .l (.o true 3 (.int .i64))), (5, .l (.d false (.int .i64)))]), none, false⟩], [], [], [], []⟩
theorem k_i_partner (x : PMs.den e_i_partner.ps) : funK c_i_partner Try.f36 e_i_partner.ps e_i_partner.rs x = e_i_partner.F x := by kernel_rfl
theorem o_i_partner {D : Prop} : FnOk Try.prog e_i_partner.f ∧ Ctr D Try.prog e_i_partner := mkCtr (C := c_i_partner) m_ (trivial) Try.func36 (by kernel_rfl) k_i_partner
/-! loop.example/g00959/impl.down -/
noncomputable def i_down (x0 : Int) (x1 : Int) : Option (Int) :=
(quoI .i64 x0 x1).bind fun v1 => (remI .i64 x0 x1).bind fun v2 => cond (decide (v2 < (0 : Int)))
 (some (IntKind.i64.wrap (v1 - (1 : Int))))
 (some v1)
noncomputable def e_i_down : CallE := ⟨38, [.d false (.int .i64), .d false (.int .i64)], [.l (.d false (.int .i64))], fun x => i_down x.1 x.2⟩
noncomputable def c_i_down : Ctx := ⟨Try.prog, TT, [], [], [], [], [], []⟩
theorem k_i_down (x : PMs.den e_i_down.ps) : funK c_i_down Try.f38 e_i_down.ps e_i_down.rs x = e_i_down.F x := by kernel_rfl
theorem o_i_down {D : Prop} : FnOk Try.prog e_i_down.f ∧ Ctr D Try.prog e_i_down := mkCtr (C := c_i_down) m_ (trivial) Try.func38 (by kernel_rfl) k_i_down
/-! loop.example/g00959/impl.less -/
noncomputable def i_less_s1 (x0 : List Int) (x1 : Int) (x2 : List Int) (v1 : List Int × Int) : Option ((List Int × Int) ⊕ (List Int)) :=
 cond (decide (v1.2 < (x0.length : Int)))
 ((inIdx v1.1.length v1.2).bind fun _ => (idx v1.1 ((v1.2).toNat : Int)).bind fun v2 => (idx x2 v1.2).bind fun v3 => (inIdx v1.1.length v1.2).bind fun _ => (inIdx v1.1.length ((v1.2).toNat : Int)).bind fun _ => some (.inl ((v1.1.set ((v1.2).toNat) (IntKind.i64.wrap (v2 - (IntKind.i64.wrap (x1 * v3))))), (IntKind.i64.wrap (v1.2 + (1 : Int))))))
 (some (.inr v1.1))
noncomputable def i_less (x0 : List Int) (x1 : Int) (x2 : List Int) : Option ((Unit) × (List Int) × Unit) :=
(iter (i_less_s1 x0 x1 x2) (x0, (0 : Int))).bind fun v4 => some ((), (v4, ()))
noncomputable def e_i_less : CallE := ⟨37, [.io true 3 (.int .i64), .d false (.int .i64), .d false (.list (.int .i64))], [], fun x => i_less x.1 x.2.1 x.2.2⟩
noncomputable def c_i_less : Ctx := ⟨Try.prog, TT, [], [⟨1, [(0, .l (.o true 3 (.int .i64))), (9, .l (.d false (.int .i64)))], some (0, [(0, .l (.o true 3 (.int .i64)))]), none, false⟩], [], [], [], []⟩
theorem k_i_less (x : PMs.den e_i_less.ps) : funK c_i_less Try.f37 e_i_less.ps e_i_less.rs x = e_i_less.F x := by kernel_rfl
theorem o_i_less {D : Prop} : FnOk Try.prog e_i_less.f ∧ Ctr D Try.prog e_i_less := mkCtr (C := c_i_less) m_ (trivial) Try.func37 (by kernel_rfl) k_i_less
/-! loop.example/g00959/impl.SplitCone -/
noncomputable def i_SplitCone_s4 (x0 : (List Int) × (List Int)) (v3 : List (List Int)) : Option ((List (List Int)) ⊕ (List (List Int))) :=
(inIdx v3.length (IntKind.i64.wrap ((v3.length : Int) - (1 : Int)))).bind fun _ => (idx v3 (((IntKind.i64.wrap ((v3.length : Int) - (1 : Int)))).toNat : Int)).bind fun v4 => (i_cross v4 x0.2).bind fun v5 => cond (v5 == (0 : Int))
 (some (.inr v3))
 ((i_partner v4).bind fun v6 => (i_cross v6 x0.2).bind fun v7 => (i_down v7 v5).bind fun v8 => (i_less v6 v8 v4).bind fun v9 => (appD 24 v3 ([v9.2.1] : List (List Int))).bind fun v10 => some (.inl v10))
noncomputable def i_SplitCone (x0 : (List Int) × (List Int)) : Option (List (List Int)) :=
(i_IsCone (x0.1, x0.2)).bind fun v1 => cond (!v1)
 (some ([] : List (List Int)))
 ((i_copyInts x0.1).bind fun v2 => (iter (i_SplitCone_s4 x0) ([v2] : List (List Int))).bind fun v11 => some v11)
noncomputable def e_i_SplitCone : CallE := ⟨11, [.d false (.prod (.list (.int .i64)) (.list (.int .i64)))], [.l (.o true 27 (.list (.int .i64)))], fun x => i_SplitCone x⟩
noncomputable def c_i_SplitCone : Ctx := ⟨Try.prog, TT, [e_i_IsCone, e_i_copyInts, e_i_cross, e_i_partner, e_i_down, e_i_less], [⟨4, [(3, .l (.o true 27 (.list (.int .i64))))], none, some [(2, .l (.o true 27 (.list (.int .i64))))], false⟩], [], [], [], []⟩
theorem k_i_SplitCone (x : PMs.den e_i_SplitCone.ps) : funK c_i_SplitCone Try.f11 e_i_SplitCone.ps e_i_SplitCone.rs x = e_i_SplitCone.F x := by kernel_rfl
theorem o_i_SplitCone {D : Prop} : FnOk Try.prog e_i_SplitCone.f ∧ Ctr D Try.prog e_i_SplitCone := mkCtr (C := c_i_SplitCone) m_ (⟨o_i_IsCone, o_i_copyInts, o_i_cross, o_i_partner, o_i_down, o_i_less, trivial⟩) Try.func11 (by kernel_rfl) k_i_SplitCone
/-! loop.example/g00959/spec.l2Scale -/
noncomputable def s_l2Scale_s3 (x0 : List Int) (x1 : Int) (v1 : List Int × Int) : Option ((List Int × Int) ⊕ (List Int)) :=
 cond (decide (v1.2 < (x0.length : Int)))
 ((idx x0 v1.2).bind fun v2 => (appD 8 v1.1 ([(IntKind.i64.wrap (v2 * x1))] : List Int)).bind fun v3 => some (.inl (v3, (IntKind.i64.wrap (v1.2 + (1 : Int))))))
 (some (.inr v1.1))
noncomputable def s_l2Scale (x0 : List Int) (x1 : Int) : Option (List Int) :=
(iter (s_l2Scale_s3 x0 x1) (([] : List Int), (0 : Int))).bind fun v4 => some v4
noncomputable def e_s_l2Scale : CallE := ⟨43, [.d false (.list (.int .i64)), .d false (.int .i64)], [.l (.o true 3 (.int .i64))], fun x => s_l2Scale x.1 x.2⟩
noncomputable def c_s_l2Scale : Ctx := ⟨Try.prog, TT, [], [⟨3, [(5, .l (.o true 3 (.int .i64))), (6, .l (.d false (.int .i64)))], some (0, [(5, .l (.o true 3 (.int .i64)))]), none, false⟩], [], [], [], []⟩
theorem k_s_l2Scale (x : PMs.den e_s_l2Scale.ps) : funK c_s_l2Scale Try.f43 e_s_l2Scale.ps e_s_l2Scale.rs x = e_s_l2Scale.F x := by kernel_rfl
theorem o_s_l2Scale {D : Prop} : FnOk Try.prog e_s_l2Scale.f ∧ Ctr D Try.prog e_s_l2Scale := mkCtr (C := c_s_l2Scale) m_ (trivial) Try.func43 (by kernel_rfl) k_s_l2Scale
/-! loop.example/g00959/spec.MirrorPolygon -/
noncomputable def s_MirrorPolygon_s5 (x0 : List (List Int)) (v2 : List (List Int) × Int) : Option ((List (List Int) × Int) ⊕ (List (List Int))) :=
 cond (decide (v2.2 < (x0.length : Int)))
 ((idx x0 v2.2).bind fun v3 => (s_l2Scale v3 (-1 : Int)).bind fun v4 => (appD 24 v2.1 ([v4] : List (List Int))).bind fun v5 => some (.inl (v5, (IntKind.i64.wrap (v2.2 + (1 : Int))))))
 (some (.inr v2.1))
noncomputable def s_MirrorPolygon (x0 : List (List Int)) : Option (List (List Int) × Bool) :=
(s_IsPolygon x0).bind fun v1 => cond (!v1)
 (some (([] : List (List Int)), false))
 ((iter (s_MirrorPolygon_s5 x0) (([] : List (List Int)), (0 : Int))).bind fun v6 => (s_HullOf v6).bind fun v7 => some (v7.1, v7.2))
noncomputable def e_s_MirrorPolygon : CallE := ⟨13, [.d false (.list (.list (.int .i64)))], [.l (.o true 27 (.list (.int .i64))), .l (.d false .bool)], fun x => s_MirrorPolygon x⟩
noncomputable def c_s_MirrorPolygon : Ctx := ⟨Try.prog, TT, [e_s_IsPolygon, e_s_l2Scale, e_s_HullOf], [⟨5, [(4, .l (.o true 27 (.list (.int .i64)))), (5, .l (.d false (.int .i64)))], some (0, [(4, .l (.o true 27 (.list (.int .i64))))]), none, false⟩], [], [], [], []⟩
theorem k_s_MirrorPolygon (x : PMs.den e_s_MirrorPolygon.ps) : funK c_s_MirrorPolygon Try.f13 e_s_MirrorPolygon.ps e_s_MirrorPolygon.rs x = e_s_MirrorPolygon.F x := by kernel_rfl
theorem o_s_MirrorPolygon {D : Prop} : FnOk Try.prog e_s_MirrorPolygon.f ∧ Ctr D Try.prog e_s_MirrorPolygon := mkCtr (C := c_s_MirrorPolygon) m_ (⟨o_s_IsPolygon, o_s_l2Scale, o_s_HullOf, trivial⟩) Try.func13 (by kernel_rfl) k_s_MirrorPolygon
/-! loop.example/g00959/laws.sameInts -/
noncomputable def w_sameInts_s4 (x0 : List Int) (x1 : List Int) (v1 : Int) : Option ((Int) ⊕ ((Unit) ⊕ (Bool))) :=
 cond (decide (v1 < (x0.length : Int)))
 ((idx x0 v1).bind fun v2 => (idx x1 v1).bind fun v3 => cond (v2 != v3)
 (some (.inr (.inr false)))
 (some (.inl (IntKind.i64.wrap (v1 + (1 : Int))))))
 (some (.inr (.inl ())))
noncomputable def w_sameInts (x0 : List Int) (x1 : List Int) : Option (Bool) :=
 cond ((x0.length : Int) != (x1.length : Int))
 (some false)
 ((iter (w_sameInts_s4 x0 x1) (0 : Int)).bind fun v4 => match v4 with
 | .inl v5 => (some true)
 | .inr v6 => (some v6))
noncomputable def e_w_sameInts : CallE := ⟨44, [.d false (.list (.int .i64)), .d false (.list (.int .i64))], [.l (.d false .bool)], fun x => w_sameInts x.1 x.2⟩
noncomputable def c_w_sameInts : Ctx := ⟨Try.prog, TT, [], [⟨4, [(5, .l (.d false (.int .i64)))], some (0, []), some [(4, .l (.d false .bool))], false⟩], [], [], [], []⟩
theorem k_w_sameInts (x : PMs.den e_w_sameInts.ps) : funK c_w_sameInts Try.f44 e_w_sameInts.ps e_w_sameInts.rs x = e_w_sameInts.F x := by kernel_rfl
theorem o_w_sameInts {D : Prop} : FnOk Try.prog e_w_sameInts.f ∧ Ctr D Try.prog e_w_sameInts := mkCtr (C := c_w_sameInts) m_ (trivial) Try.func44 (by kernel_rfl) k_w_sameInts
/-! loop.example/g00959/laws.sameLists -/
noncomputable def w_sameLists_s4 (x0 : List (List Int)) (x1 : List (List Int)) (v1 : Int) : Option ((Int) ⊕ ((Unit) ⊕ (Bool))) :=
 cond (decide (v1 < (x0.length : Int)))
 ((idx x0 v1).bind fun v2 => (idx x1 v1).bind fun v3 => (w_sameInts v2 v3).bind fun v4 => cond (!v4)
 (some (.inr (.inr false)))
 (some (.inl (IntKind.i64.wrap (v1 + (1 : Int))))))
 (some (.inr (.inl ())))
noncomputable def w_sameLists (x0 : List (List Int)) (x1 : List (List Int)) : Option (Bool) :=
 cond ((x0.length : Int) != (x1.length : Int))
 (some false)
 ((iter (w_sameLists_s4 x0 x1) (0 : Int)).bind fun v5 => match v5 with
 | .inl v6 => (some true)
 | .inr v7 => (some v7))
noncomputable def e_w_sameLists : CallE := ⟨14, [.d false (.list (.list (.int .i64))), .d false (.list (.list (.int .i64)))], [.l (.d false .bool)], fun x => w_sameLists x.1 x.2⟩
noncomputable def c_w_sameLists : Ctx := ⟨Try.prog, TT, [e_w_sameInts], [⟨4, [(5, .l (.d false (.int .i64)))], some (0, []), some [(4, .l (.d false .bool))], false⟩], [], [], [], []⟩
theorem k_w_sameLists (x : PMs.den e_w_sameLists.ps) : funK c_w_sameLists Try.f14 e_w_sameLists.ps e_w_sameLists.rs x = e_w_sameLists.F x := by kernel_rfl
theorem o_w_sameLists {D : Prop} : FnOk Try.prog e_w_sameLists.f ∧ Ctr D Try.prog e_w_sameLists := mkCtr (C := c_w_sameLists) m_ (⟨o_w_sameInts, trivial⟩) Try.func14 (by kernel_rfl) k_w_sameLists
/-! loop.example/g00959/spec.l9Bezout -/
noncomputable def s_l9Bezout_s8 (x0 : List Int) (v1 : Int) (v2 : Int) (v3 : Int) : Option ((Int) ⊕ ((Unit) ⊕ (List Int))) :=
 cond (decide (v3 < (4 : Int)))
 ((idx ([([v2, v1] : List Int), ([v2, (IntKind.i64.wrap (0 - v1))] : List Int), ([v1, v2] : List Int), ([(IntKind.i64.wrap (0 - v1)), v2] : List Int)] : List (List Int)) v3).bind fun v4 => (s_l7Cross x0 v4).bind fun v5 => cond (v5 == (1 : Int))
 ((idx ([([v2, v1] : List Int), ([v2, (IntKind.i64.wrap (0 - v1))] : List Int), ([v1, v2] : List Int), ([(IntKind.i64.wrap (0 - v1)), v2] : List Int)] : List (List Int)) v3).bind fun v6 => some (.inr (.inr v6)))
 (some (.inl (IntKind.i64.wrap (v3 + (1 : Int))))))
 (some (.inr (.inl ())))
noncomputable def s_l9Bezout_s4 (x0 : List Int) (v1 : Int) (v2 : Int) : Option ((Int) ⊕ ((Unit) ⊕ (List Int))) :=
 cond (decide (v2 ≤ v1))
 ((iter (s_l9Bezout_s8 x0 v1 v2) (0 : Int)).bind fun v7 => match v7 with
 | .inl v8 => (some (.inl (IntKind.i64.wrap (v2 + (1 : Int)))))
 | .inr v9 => (some (.inr (.inr v9))))
 (some (.inr (.inl ())))
noncomputable def s_l9Bezout_s3 (x0 : List Int) (v1 : Int) : Option ((Int) ⊕ (List Int)) :=
(iter (s_l9Bezout_s4 x0 v1) (IntKind.i64.wrap (0 - v1))).bind fun v10 => match v10 with
 | .inl v11 => (some (.inl (IntKind.i64.wrap (v1 + (1 : Int)))))
 | .inr v12 => (some (.inr v12))
noncomputable def s_l9Bezout (x0 : List Int) : Option (List Int) :=
(iter (s_l9Bezout_s3 x0) (0 : Int)).bind fun v13 => some v13
noncomputable def e_s_l9Bezout : CallE := ⟨68, [.d false (.list (.int .i64))], [.l (.d false (.list (.int .i64)))], fun x => s_l9Bezout x⟩
noncomputable def c_s_l9Bezout : Ctx := ⟨Try.prog, TT, [e_s_l7Cross], [⟨3, [(3, .l (.d false (.int .i64)))], none, some [(2, .l (.d false (.list (.int .i64))))], false⟩, ⟨4, [(4, .l (.d false (.int .i64)))], some (2, []), some [(2, .l (.d false (.list (.int .i64))))], false⟩, ⟨8, [(6, .l (.d false (.int .i64)))], some (4, []), some [(2, .l (.d false (.list (.int .i64))))], false⟩], [], [], [], []⟩
theorem k_s_l9Bezout (x : PMs.den e_s_l9Bezout.ps) : funK c_s_l9Bezout Try.f68 e_s_l9Bezout.ps e_s_l9Bezout.rs x = e_s_l9Bezout.F x := by kernel_rfl
theorem o_s_l9Bezout {D : Prop} : FnOk Try.prog e_s_l9Bezout.f ∧ Ctr D Try.prog e_s_l9Bezout := mkCtr (C := c_s_l9Bezout) m_ (⟨o_s_l7Cross, trivial⟩) Try.func68 (by kernel_rfl) k_s_l9Bezout
/-! loop.example/g00959/spec.l3Floor -/
noncomputable def s_l3Floor (x0 : Int) (x1 : Int) : Option (Int) :=
(quoI .i64 x0 x1).bind fun v1 => (remI .i64 x0 x1).bind fun v2 => cond (decide (v2 < (0 : Int)))
 (some (IntKind.i64.wrap (v1 - (1 : Int))))
 (some v1)
noncomputable def e_s_l3Floor : CallE := ⟨70, [.d false (.int .i64), .d false (.int .i64)], [.l (.d false (.int .i64))], fun x => s_l3Floor x.1 x.2⟩
noncomputable def c_s_l3Floor : Ctx := ⟨Try.prog, TT, [], [], [], [], [], []⟩
theorem k_s_l3Floor (x : PMs.den e_s_l3Floor.ps) : funK c_s_l3Floor Try.f70 e_s_l3Floor.ps e_s_l3Floor.rs x = e_s_l3Floor.F x := by kernel_rfl
theorem o_s_l3Floor {D : Prop} : FnOk Try.prog e_s_l3Floor.f ∧ Ctr D Try.prog e_s_l3Floor := mkCtr (C := c_s_l3Floor) m_ (trivial) Try.func70 (by kernel_rfl) k_s_l3Floor
/-! loop.example/g00959/spec.l9Next -/
noncomputable def s_l9Next (x0 : List Int) (x1 : List Int) : Option (List Int) :=
(s_l7Cross x0 x1).bind fun v1 => (s_l9Bezout x0).bind fun v2 => (s_l7Cross v2 x1).bind fun v3 => (s_l3Floor v3 v1).bind fun v4 => (s_l2Scale x0 v4).bind fun v5 => (s_l2Less v2 v5).bind fun v6 => some v6
noncomputable def e_s_l9Next : CallE := ⟨47, [.d false (.list (.int .i64)), .d false (.list (.int .i64))], [.l (.o true 3 (.int .i64))], fun x => s_l9Next x.1 x.2⟩
noncomputable def c_s_l9Next : Ctx := ⟨Try.prog, TT, [e_s_l7Cross, e_s_l9Bezout, e_s_l3Floor, e_s_l2Scale, e_s_l2Less], [], [], [], [], []⟩
theorem k_s_l9Next (x : PMs.den e_s_l9Next.ps) : funK c_s_l9Next Try.f47 e_s_l9Next.ps e_s_l9Next.rs x = e_s_l9Next.F x := by kernel_rfl
theorem o_s_l9Next {D : Prop} : FnOk Try.prog e_s_l9Next.f ∧ Ctr D Try.prog e_s_l9Next := mkCtr (C := c_s_l9Next) m_ (⟨o_s_l7Cross, o_s_l9Bezout, o_s_l3Floor, o_s_l2Scale, o_s_l2Less, trivial⟩) Try.func47 (by kernel_rfl) k_s_l9Next
/-! loop.example/g00959/spec.SplitCone -/
noncomputable def s_SplitCone_s5 (x0 : (List Int) × (List Int)) (v3 : List (List Int) × List Int) : Option ((List (List Int) × List Int) ⊕ (List (List Int) × List Int)) :=
(s_l7Cross v3.2 x0.2).bind fun v4 => cond (decide (v4 > (0 : Int)))
 ((appD 24 v3.1 ([v3.2] : List (List Int))).bind fun v5 => (s_l9Next v3.2 x0.2).bind fun v6 => some (.inl (v5, v6)))
 (some (.inr (v3.1, v3.2)))
noncomputable def s_SplitCone (x0 : (List Int) × (List Int)) : Option (List (List Int)) :=
(s_IsCone (x0.1, x0.2)).bind fun v1 => cond (!v1)
 (some ([] : List (List Int)))
 ((appD 8 ([] : List Int) x0.1).bind fun v2 => (iter (s_SplitCone_s5 x0) (([] : List (List Int)), v2)).bind fun v7 => (appD 24 v7.1 ([v7.2] : List (List Int))).bind fun v8 => some v8)
noncomputable def e_s_SplitCone : CallE := ⟨15, [.d false (.prod (.list (.int .i64)) (.list (.int .i64)))], [.l (.o false 27 (.list (.int .i64)))], fun x => s_SplitCone x⟩
noncomputable def c_s_SplitCone : Ctx := ⟨Try.prog, TT, [e_s_IsCone, e_s_l7Cross, e_s_l9Next], [⟨5, [(3, .l (.o false 27 (.list (.int .i64)))), (4, .l (.d false (.list (.int .i64))))], some (0, [(3, .l (.o false 27 (.list (.int .i64)))), (4, .l (.d false (.list (.int .i64))))]), none, false⟩], [], [], [], []⟩
theorem k_s_SplitCone (x : PMs.den e_s_SplitCone.ps) : funK c_s_SplitCone Try.f15 e_s_SplitCone.ps e_s_SplitCone.rs x = e_s_SplitCone.F x := by kernel_rfl
theorem o_s_SplitCone {D : Prop} : FnOk Try.prog e_s_SplitCone.f ∧ Ctr D Try.prog e_s_SplitCone := mkCtr (C := c_s_SplitCone) m_ (⟨o_s_IsCone, o_s_l7Cross, o_s_l9Next, trivial⟩) Try.func15 (by kernel_rfl) k_s_SplitCone
/-! loop.example/g00959/laws.FnPure -/
noncomputable def w_FnPure_s8 (v2 : List (List Int)) (v5 : List (List Int) × Int) : Option ((List (List Int) × Int) ⊕ (List (List Int))) :=
 cond (decide (v5.2 < (v2.length : Int)))
 ((idx v2 v5.2).bind fun v6 => (appD 8 ([] : List Int) v6).bind fun v7 => (appD 24 v5.1 ([v7] : List (List Int))).bind fun v8 => some (.inl (v8, (IntKind.i64.wrap (v5.2 + (1 : Int))))))
 (some (.inr v5.1))
noncomputable def w_FnPure (x0 : List Int) : Option (Bool) :=
(w_big x0).bind fun v1 => cond v1
 (some true)
 ((s_DrawHullOf x0).bind fun v2 => (s_DrawMirrorPolygon x0).bind fun v3 => (s_PolygonText v3).bind fun v4 => (iter (w_FnPure_s8 v2) (([] : List (List Int)), (0 : Int))).bind fun v9 => (i_HullOf v2).bind fun v10 => (i_MirrorPolygon v3).bind fun v11 => (s_DrawSplitCone x0).bind fun v12 => (i_SplitCone (v12.1, v12.2)).bind fun v13 => (wrAll 99 v10.1).bind fun v14 => (wrAll 99 v11.1).bind fun v15 => (wrAll 99 v13).bind fun v16 => (i_HullOf v2).bind fun v17 => (s_HullOf v2).bind fun v18 => (i_MirrorPolygon v3).bind fun v19 => (s_MirrorPolygon v3).bind fun v20 => (w_sameLists v2 v9).bind fun v21 => cond v21
 ((s_PolygonText v3).bind fun v22 => cond (v22.toList == v4.toList)
 (cond (v10.2 == v17.2)
 (cond (v17.2 == v18.2)
 ((w_sameLists v17.1 v18.1).bind fun v23 => cond v23
 (cond (v11.2 == v19.2)
 (cond (v19.2 == v20.2)
 ((w_sameLists v19.1 v20.1).bind fun v24 => cond v24
 ((i_SplitCone (v12.1, v12.2)).bind fun v25 => (s_SplitCone (v12.1, v12.2)).bind fun v26 => (w_sameLists v25 v26).bind fun v27 => some v27)
 (some false))
 (some false))
 (some false))
 (some false))
 (some false))
 (some false))
 (some false))
 (some false))
noncomputable def e_w_FnPure : CallE := ⟨3, [.d false (.list (.int .u8))], [.l (.d false .bool)], fun x => w_FnPure x⟩
noncomputable def c_w_FnPure : Ctx := ⟨Try.prog, TT, [e_w_big, e_s_DrawHullOf, e_s_DrawMirrorPolygon, e_s_PolygonText, e_i_HullOf, e_i_MirrorPolygon, e_s_DrawSplitCone, e_i_SplitCone, e_s_HullOf, e_s_MirrorPolygon, e_w_sameLists, e_s_SplitCone], [⟨8, [(6, .l (.o true 27 (.list (.int .i64)))), (7, .l (.d false (.int .i64)))], some (0, [(6, .l (.o true 27 (.list (.int .i64))))]), none, false⟩], [], [], [], []⟩
theorem k_w_FnPure (x : PMs.den e_w_FnPure.ps) : funBW c_w_FnPure [⟨2, 8, [⟨16, 2, 14⟩, ⟨19, 4, 15⟩]⟩, ⟨6, 10, [⟨23, 6, 16⟩, ⟨26, 8, 17⟩]⟩, ⟨10, 13, [⟨30, 10, 18⟩, ⟨33, 12, 19⟩]⟩] 7 11 Try.f3 e_w_FnPure.ps x = e_w_FnPure.F x := by kernel_rfl
theorem o_w_FnPure {D : Prop} : FnOk Try.prog e_w_FnPure.f ∧ Ctr D Try.prog e_w_FnPure := mkLawBW (C := c_w_FnPure) (Bs := [⟨2, 8, [⟨16, 2, 14⟩, ⟨19, 4, 15⟩]⟩, ⟨6, 10, [⟨23, 6, 16⟩, ⟨26, 8, 17⟩]⟩, ⟨10, 13, [⟨30, 10, 18⟩, ⟨33, 12, 19⟩]⟩]) 7 11 2 m_ (⟨o_w_big, o_s_DrawHullOf, o_s_DrawMirrorPolygon, o_s_PolygonText, o_i_HullOf, o_i_MirrorPolygon, o_s_DrawSplitCone, o_i_SplitCone, o_s_HullOf, o_s_MirrorPolygon, o_w_sameLists, o_s_SplitCone, trivial⟩) Try.func3 (by kernel_rfl) (by kernel_rfl) rfl k_w_FnPure
/-! loop.example/g00959/spec.l7Draw -/
noncomputable def s_l7Draw_1_s7 (x1 : Int) (v2 : (Int) × ((List Int) × Int × Int) × Unit) (v3 : (List Int × Int × Int) × List (List Int) × Int) : Option (((List Int × Int × Int) × List (List Int) × Int) ⊕ ((List Int × Int × Int) × List (List Int))) :=
 cond (decide (v3.2.2 < (IntKind.i64.wrap ((3 : Int) + v2.1))))
 ((s_l2Draw (v3.1.1, (v3.1.2.1, v3.1.2.2)) (2 : Int) x1).bind fun v4 => (appD 24 v3.2.1 ([v4.1] : List (List Int))).bind fun v5 => some (.inl ((v4.2.1.1, (v4.2.1.2.1, v4.2.1.2.2)), (v5, (IntKind.i64.wrap (v3.2.2 + (1 : Int)))))))
 (some (.inr ((v3.1.1, (v3.1.2.1, v3.1.2.2)), v3.2.1)))
noncomputable def s_l7Draw_1_s2 (x1 : Int) (v1 : (List Int × Int × Int) × Int) : Option (((List Int × Int × Int) × Int) ⊕ ((List Int × Int × Int) ⊕ ((List Int × Int × Int) × List (List Int)))) :=
 cond (decide (v1.2 < (6 : Int)))
 ((s_l1Below (v1.1.1, (v1.1.2.1, v1.1.2.2)) (4 : Int)).bind fun v2 => (iter (s_l7Draw_1_s7 x1 v2) ((v2.2.1.1, (v2.2.1.2.1, v2.2.1.2.2)), (([] : List (List Int)), (0 : Int)))).bind fun v6 => (s_HullOf v6.2).bind fun v7 => cond v7.2
 (some (.inr (.inr ((v6.1.1, (v6.1.2.1, v6.1.2.2)), v7.1))))
 (some (.inl ((v6.1.1, (v6.1.2.1, v6.1.2.2)), (IntKind.i64.wrap (v1.2 + (1 : Int)))))))
 (some (.inr (.inl (v1.1.1, (v1.1.2.1, v1.1.2.2)))))
noncomputable def s_l7Draw_1 (x0 : (List Int) × Int × Int) (x1 : Int) : Option ((List (List Int)) × ((List Int) × Int × Int) × Unit) :=
(iter (s_l7Draw_1_s2 x1) ((x0.1, (x0.2.1, x0.2.2)), (0 : Int))).bind fun v8 => match v8 with
 | .inl v9 => (some (([([(0 : Int), (0 : Int)] : List Int), ([(2 : Int), (0 : Int)] : List Int), ([(0 : Int), (1 : Int)] : List Int)] : List (List Int)), ((v9.1, (v9.2.1, v9.2.2)), ())))
 | .inr v10 => (some (v10.2, ((v10.1.1, (v10.1.2.1, v10.1.2.2)), ())))
end Go.Proofs.Ytmdagdopfgiaiaa
