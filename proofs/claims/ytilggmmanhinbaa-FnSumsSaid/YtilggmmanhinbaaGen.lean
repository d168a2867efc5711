/- Plain functions. -/
import Derived.Test.YtilggmmanhinbaaProg
import Derived.Test.YtilggmmanhinbaaLay
import Derived.Test.YtilggmmanhinbaaEm7
import Derived.Test.YtilggmmanhinbaaEm8
import Derived.KernelRfl
namespace Go.Proofs.Ytilggmmanhinbaa
open Go Go.Proofs.Ytilggmmanhinbaa.Eng
set_option linter.unusedVariables false
set_option maxRecDepth 100000
noncomputable def TT : List (TypeId × Ty) := [(3, (.int .i64)), (5, (.int .u8)), (25, (.list (.int .i64)))]
theorem m_ : Try.prog.follows .mixedOrders = true := by kernel_rfl
/-! loop.example/g00959/laws.big -/
noncomputable def w_big (x0 : List Int) : Option (Bool) :=
 some (decide ((x0.length : Int) > (1048576 : Int)))
noncomputable def e_w_big : CallE := ⟨6, [.d false (.list (.int .u8))], [.l (.d false .bool)], fun x => w_big x⟩
noncomputable def c_w_big : Ctx := ⟨Try.prog, TT, [], [], [], [], [], []⟩
theorem k_w_big (x : PMs.den e_w_big.ps) : funK c_w_big Try.f6 e_w_big.ps e_w_big.rs x = e_w_big.F x := by kernel_rfl
theorem o_w_big : FnOk Try.prog e_w_big.f ∧ Ctr Try.prog e_w_big := mkCtr (C := c_w_big) m_ (trivial) Try.func6 (by kernel_rfl) k_w_big
/-! loop.example/g00959/spec.l1Byte -/
noncomputable def s_l1Byte (x0 : (List Int) × Int × Int) : Option ((Int) × ((List Int) × Int × Int) × Unit) :=
(shrI .i64 (IntKind.i64.wrap ((IntKind.i64.wrap (x0.2.2 * (6364136223846793005 : Int))) + (1442695040888963407 : Int))) (33 : Int)).bind fun v1 => (shrI .i64 (IntKind.i64.wrap ((IntKind.i64.wrap (x0.2.2 * (6364136223846793005 : Int))) + (1442695040888963407 : Int))) (45 : Int)).bind fun v2 => cond (decide (x0.2.1 < (x0.1.length : Int)))
 ((idx x0.1 x0.2.1).bind fun v3 => some ((andI .i64 (IntKind.i64.wrap ((andI .i64 (xorI .i64 v1 v2) (255 : Int)) + (IntKind.i64.wrap v3))) (255 : Int)), ((x0.1, ((IntKind.i64.wrap (x0.2.1 + (1 : Int))), (IntKind.i64.wrap ((IntKind.i64.wrap (x0.2.2 * (6364136223846793005 : Int))) + (1442695040888963407 : Int))))), ())))
 (some ((andI .i64 (xorI .i64 v1 v2) (255 : Int)), ((x0.1, (x0.2.1, (IntKind.i64.wrap ((IntKind.i64.wrap (x0.2.2 * (6364136223846793005 : Int))) + (1442695040888963407 : Int))))), ())))
noncomputable def e_s_l1Byte : CallE := ⟨123, [.cur 73], [.l (.d false (.int .i64))], fun x => s_l1Byte x⟩
noncomputable def c_s_l1Byte : Ctx := ⟨Try.prog, TT, [], [], [], [], [], []⟩
theorem k_s_l1Byte (x : PMs.den e_s_l1Byte.ps) : funK c_s_l1Byte Try.f123 e_s_l1Byte.ps e_s_l1Byte.rs x = e_s_l1Byte.F x := by kernel_rfl
theorem o_s_l1Byte : FnOk Try.prog e_s_l1Byte.f ∧ Ctr Try.prog e_s_l1Byte := mkCtr (C := c_s_l1Byte) m_ (trivial) Try.func123 (by kernel_rfl) k_s_l1Byte
/-! loop.example/g00959/spec.l1Below -/
noncomputable def s_l1Below (x0 : (List Int) × Int × Int) (x1 : Int) : Option ((Int) × ((List Int) × Int × Int) × Unit) :=
 cond (decide (x1 ≤ (0 : Int)))
 (some ((0 : Int), ((x0.1, (x0.2.1, x0.2.2)), ())))
 (cond (decide (x1 ≤ (256 : Int)))
 ((s_l1Byte (x0.1, (x0.2.1, x0.2.2))).bind fun v1 => (remI .i64 v1.1 x1).bind fun v2 => some (v2, ((v1.2.1.1, (v1.2.1.2.1, v1.2.1.2.2)), ())))
 ((s_l1Byte (x0.1, (x0.2.1, x0.2.2))).bind fun v3 => (s_l1Byte (v3.2.1.1, (v3.2.1.2.1, v3.2.1.2.2))).bind fun v4 => (s_l1Byte (v4.2.1.1, (v4.2.1.2.1, v4.2.1.2.2))).bind fun v5 => (s_l1Byte (v5.2.1.1, (v5.2.1.2.1, v5.2.1.2.2))).bind fun v6 => (remI .i64 (IntKind.i64.wrap ((IntKind.i64.wrap ((IntKind.i64.wrap ((IntKind.i64.wrap (v3.1 * (16777216 : Int))) + (IntKind.i64.wrap (v4.1 * (65536 : Int))))) + (IntKind.i64.wrap (v5.1 * (256 : Int))))) + v6.1)) x1).bind fun v7 => some (v7, ((v6.2.1.1, (v6.2.1.2.1, v6.2.1.2.2)), ()))))
noncomputable def e_s_l1Below : CallE := ⟨102, [.cur 73, .d false (.int .i64)], [.l (.d false (.int .i64))], fun x => s_l1Below x.1 x.2⟩
noncomputable def c_s_l1Below : Ctx := ⟨Try.prog, TT, [e_s_l1Byte], [], [], [], [], []⟩
theorem k_s_l1Below (x : PMs.den e_s_l1Below.ps) : funK c_s_l1Below Try.f102 e_s_l1Below.ps e_s_l1Below.rs x = e_s_l1Below.F x := by kernel_rfl
theorem o_s_l1Below : FnOk Try.prog e_s_l1Below.f ∧ Ctr Try.prog e_s_l1Below := mkCtr (C := c_s_l1Below) m_ (⟨o_s_l1Byte, trivial⟩) Try.func102 (by kernel_rfl) k_s_l1Below
/-! loop.example/g00959/spec.l2Draw -/
noncomputable def s_l2Draw_s3 (x1 : Int) (x2 : Int) (v1 : (List Int × Int × Int) × List Int × Int) : Option (((List Int × Int × Int) × List Int × Int) ⊕ ((List Int × Int × Int) × List Int)) :=
 cond (decide (v1.2.2 < x1))
 ((s_l1Below (v1.1.1, (v1.1.2.1, v1.1.2.2)) (IntKind.i64.wrap ((IntKind.i64.wrap ((2 : Int) * x2)) + (1 : Int)))).bind fun v2 => (appD 8 v1.2.1 ([(IntKind.i64.wrap (v2.1 - x2))] : List Int)).bind fun v3 => some (.inl ((v2.2.1.1, (v2.2.1.2.1, v2.2.1.2.2)), (v3, (IntKind.i64.wrap (v1.2.2 + (1 : Int)))))))
 (some (.inr ((v1.1.1, (v1.1.2.1, v1.1.2.2)), v1.2.1)))
noncomputable def s_l2Draw (x0 : (List Int) × Int × Int) (x1 : Int) (x2 : Int) : Option ((List Int) × ((List Int) × Int × Int) × Unit) :=
(iter (s_l2Draw_s3 x1 x2) ((x0.1, (x0.2.1, x0.2.2)), (([] : List Int), (0 : Int)))).bind fun v4 => some (v4.2, ((v4.1.1, (v4.1.2.1, v4.1.2.2)), ()))
noncomputable def e_s_l2Draw : CallE := ⟨59, [.cur 73, .d false (.int .i64), .d false (.int .i64)], [.l (.o true 3 (.int .i64))], fun x => s_l2Draw x.1 x.2.1 x.2.2⟩
noncomputable def c_s_l2Draw : Ctx := ⟨Try.prog, TT, [e_s_l1Below], [⟨3, [(0, .b 73 [(.d false (.list (.int .u8))), (.d false (.int .i64)), (.d false (.int .i64))]), (7, .l (.o true 3 (.int .i64))), (8, .l (.d false (.int .i64)))], some (0, [(0, .b 73 [(.d false (.list (.int .u8))), (.d false (.int .i64)), (.d false (.int .i64))]), (7, .l (.o true 3 (.int .i64)))]), none, false⟩], [], [], [], []⟩
theorem k_s_l2Draw (x : PMs.den e_s_l2Draw.ps) : funK c_s_l2Draw Try.f59 e_s_l2Draw.ps e_s_l2Draw.rs x = e_s_l2Draw.F x := by kernel_rfl
theorem o_s_l2Draw : FnOk Try.prog e_s_l2Draw.f ∧ Ctr Try.prog e_s_l2Draw := mkCtr (C := c_s_l2Draw) m_ (⟨o_s_l1Below, trivial⟩) Try.func59 (by kernel_rfl) k_s_l2Draw
/-! loop.example/g00959/spec.l1In -/
noncomputable def s_l1In (x0 : Int) (x1 : Int) (x2 : Int) : Option (Bool) :=
 cond (decide (x0 ≥ x1))
 (some (decide (x0 ≤ x2)))
 (some false)
noncomputable def e_s_l1In : CallE := ⟨73, [.d false (.int .i64), .d false (.int .i64), .d false (.int .i64)], [.l (.d false .bool)], fun x => s_l1In x.1 x.2.1 x.2.2⟩
noncomputable def c_s_l1In : Ctx := ⟨Try.prog, TT, [], [], [], [], [], []⟩
theorem k_s_l1In (x : PMs.den e_s_l1In.ps) : funK c_s_l1In Try.f73 e_s_l1In.ps e_s_l1In.rs x = e_s_l1In.F x := by kernel_rfl
theorem o_s_l1In : FnOk Try.prog e_s_l1In.f ∧ Ctr Try.prog e_s_l1In := mkCtr (C := c_s_l1In) m_ (trivial) Try.func73 (by kernel_rfl) k_s_l1In
/-! loop.example/g00959/spec.l2Small -/
noncomputable def s_l2Small_s2 (x0 : List Int) (x1 : Int) (v1 : Int) : Option ((Int) ⊕ ((Unit) ⊕ (Bool))) :=
 cond (decide (v1 < (x0.length : Int)))
 ((idx x0 v1).bind fun v2 => (s_l1In v2 (IntKind.i64.wrap (0 - x1)) x1).bind fun v3 => cond (!v3)
 (some (.inr (.inr false)))
 (some (.inl (IntKind.i64.wrap (v1 + (1 : Int))))))
 (some (.inr (.inl ())))
noncomputable def s_l2Small (x0 : List Int) (x1 : Int) : Option (Bool) :=
(iter (s_l2Small_s2 x0 x1) (0 : Int)).bind fun v4 => match v4 with
 | .inl v5 => (some true)
 | .inr v6 => (some v6)
noncomputable def e_s_l2Small : CallE := ⟨69, [.d false (.list (.int .i64)), .d false (.int .i64)], [.l (.d false .bool)], fun x => s_l2Small x.1 x.2⟩
noncomputable def c_s_l2Small : Ctx := ⟨Try.prog, TT, [e_s_l1In], [⟨2, [(5, .l (.d false (.int .i64)))], some (0, []), some [(4, .l (.d false .bool))], false⟩], [], [], [], []⟩
theorem k_s_l2Small (x : PMs.den e_s_l2Small.ps) : funK c_s_l2Small Try.f69 e_s_l2Small.ps e_s_l2Small.rs x = e_s_l2Small.F x := by kernel_rfl
theorem o_s_l2Small : FnOk Try.prog e_s_l2Small.f ∧ Ctr Try.prog e_s_l2Small := mkCtr (C := c_s_l2Small) m_ (⟨o_s_l1In, trivial⟩) Try.func69 (by kernel_rfl) k_s_l2Small
/-! loop.example/g00959/spec.l7Flat -/
noncomputable def s_l7Flat_s2 (x0 : List (List Int)) (v1 : Int) : Option ((Int) ⊕ ((Unit) ⊕ (Bool))) :=
 cond (decide (v1 < (x0.length : Int)))
 ((idx x0 v1).bind fun v2 => cond ((v2.length : Int) != (2 : Int))
 (some (.inr (.inr false)))
 ((idx x0 v1).bind fun v3 => (s_l2Small v3 (50 : Int)).bind fun v4 => cond (!v4)
 (some (.inr (.inr false)))
 (some (.inl (IntKind.i64.wrap (v1 + (1 : Int)))))))
 (some (.inr (.inl ())))
noncomputable def s_l7Flat (x0 : List (List Int)) : Option (Bool) :=
(iter (s_l7Flat_s2 x0) (0 : Int)).bind fun v5 => match v5 with
 | .inl v6 => (some true)
 | .inr v7 => (some v7)
noncomputable def e_s_l7Flat : CallE := ⟨74, [.d false (.list (.list (.int .i64)))], [.l (.d false .bool)], fun x => s_l7Flat x⟩
noncomputable def c_s_l7Flat : Ctx := ⟨Try.prog, TT, [e_s_l2Small], [⟨2, [(3, .l (.d false (.int .i64)))], some (0, []), some [(2, .l (.d false .bool))], false⟩], [], [], [], []⟩
theorem k_s_l7Flat (x : PMs.den e_s_l7Flat.ps) : funK c_s_l7Flat Try.f74 e_s_l7Flat.ps e_s_l7Flat.rs x = e_s_l7Flat.F x := by kernel_rfl
theorem o_s_l7Flat : FnOk Try.prog e_s_l7Flat.f ∧ Ctr Try.prog e_s_l7Flat := mkCtr (C := c_s_l7Flat) m_ (⟨o_s_l2Small, trivial⟩) Try.func74 (by kernel_rfl) k_s_l7Flat
/-! loop.example/g00959/spec.l2Before -/
noncomputable def s_l2Before_s2 (x0 : List Int) (x1 : List Int) (v1 : Int) : Option ((Int) ⊕ ((Unit) ⊕ (Bool))) :=
 cond (decide (v1 < (x0.length : Int)))
 (cond (decide (v1 < (x1.length : Int)))
 ((idx x0 v1).bind fun v2 => (idx x1 v1).bind fun v3 => cond (v2 != v3)
 ((idx x0 v1).bind fun v4 => (idx x1 v1).bind fun v5 => some (.inr (.inr (decide (v4 < v5)))))
 (some (.inl (IntKind.i64.wrap (v1 + (1 : Int))))))
 (some (.inr (.inl ()))))
 (some (.inr (.inl ())))
noncomputable def s_l2Before (x0 : List Int) (x1 : List Int) : Option (Bool) :=
(iter (s_l2Before_s2 x0 x1) (0 : Int)).bind fun v6 => match v6 with
 | .inl v7 => (some false)
 | .inr v8 => (some v8)
noncomputable def e_s_l2Before : CallE := ⟨125, [.d false (.list (.int .i64)), .d false (.list (.int .i64))], [.l (.d false .bool)], fun x => s_l2Before x.1 x.2⟩
noncomputable def c_s_l2Before : Ctx := ⟨Try.prog, TT, [], [⟨2, [(5, .l (.d false (.int .i64)))], some (0, []), some [(4, .l (.d false .bool))], false⟩], [], [], [], []⟩
theorem k_s_l2Before (x : PMs.den e_s_l2Before.ps) : funK c_s_l2Before Try.f125 e_s_l2Before.ps e_s_l2Before.rs x = e_s_l2Before.F x := by kernel_rfl
theorem o_s_l2Before : FnOk Try.prog e_s_l2Before.f ∧ Ctr Try.prog e_s_l2Before := mkCtr (C := c_s_l2Before) m_ (trivial) Try.func125 (by kernel_rfl) k_s_l2Before
/-! loop.example/g00959/spec.l2Same -/
noncomputable def s_l2Same_s4 (x0 : List Int) (x1 : List Int) (v1 : Int) : Option ((Int) ⊕ ((Unit) ⊕ (Bool))) :=
 cond (decide (v1 < (x0.length : Int)))
 ((idx x0 v1).bind fun v2 => (idx x1 v1).bind fun v3 => cond (v2 != v3)
 (some (.inr (.inr false)))
 (some (.inl (IntKind.i64.wrap (v1 + (1 : Int))))))
 (some (.inr (.inl ())))
noncomputable def s_l2Same (x0 : List Int) (x1 : List Int) : Option (Bool) :=
 cond ((x0.length : Int) != (x1.length : Int))
 (some false)
 ((iter (s_l2Same_s4 x0 x1) (0 : Int)).bind fun v4 => match v4 with
 | .inl v5 => (some true)
 | .inr v6 => (some v6))
noncomputable def e_s_l2Same : CallE := ⟨90, [.d false (.list (.int .i64)), .d false (.list (.int .i64))], [.l (.d false .bool)], fun x => s_l2Same x.1 x.2⟩
noncomputable def c_s_l2Same : Ctx := ⟨Try.prog, TT, [], [⟨4, [(5, .l (.d false (.int .i64)))], some (0, []), some [(4, .l (.d false .bool))], false⟩], [], [], [], []⟩
theorem k_s_l2Same (x : PMs.den e_s_l2Same.ps) : funK c_s_l2Same Try.f90 e_s_l2Same.ps e_s_l2Same.rs x = e_s_l2Same.F x := by kernel_rfl
theorem o_s_l2Same : FnOk Try.prog e_s_l2Same.f ∧ Ctr Try.prog e_s_l2Same := mkCtr (C := c_s_l2Same) m_ (trivial) Try.func90 (by kernel_rfl) k_s_l2Same
/-! loop.example/g00959/spec.l2Put -/
noncomputable def s_l2Put_s2 (x1 : List Int) (v1 : List (List Int) × Int) : Option ((List (List Int) × Int) ⊕ (List (List Int) × Int)) :=
 cond (decide (v1.2 > (0 : Int)))
 ((inIdx v1.1.length (IntKind.i64.wrap (v1.2 - (1 : Int)))).bind fun _ => (idx v1.1 (((IntKind.i64.wrap (v1.2 - (1 : Int)))).toNat : Int)).bind fun v2 => (s_l2Before x1 v2).bind fun v3 => cond v3
 (some (.inl (v1.1, (IntKind.i64.wrap (v1.2 - (1 : Int))))))
 (some (.inr (v1.1, v1.2))))
 (some (.inr (v1.1, v1.2)))
noncomputable def s_l2Put (x0 : List (List Int)) (x1 : List Int) : Option (List (List Int)) :=
(iter (s_l2Put_s2 x1) (x0, (x0.length : Int))).bind fun v4 => cond (decide (v4.2 > (0 : Int)))
 ((inIdx v4.1.length (IntKind.i64.wrap (v4.2 - (1 : Int)))).bind fun _ => (idx v4.1 (((IntKind.i64.wrap (v4.2 - (1 : Int)))).toNat : Int)).bind fun v5 => (s_l2Same v5 x1).bind fun v6 => cond v6
 (some v4.1)
 ((subl v4.1 v4.2 (v4.1.length : Int)).bind fun v7 => (subl v4.1 ((v4.2).toNat : Int) (((v4.1.length : Int)).toNat : Int)).bind fun v8 => (appD 24 ([] : List (List Int)) v8).bind fun v9 => (subl v4.1 0 v4.2).bind fun v10 => (appD 8 ([] : List Int) x1).bind fun v11 => (appD 24 v10 ([v11] : List (List Int))).bind fun v12 => (appD 24 v12 v9).bind fun v13 => some v13))
 ((subl v4.1 v4.2 (v4.1.length : Int)).bind fun v14 => (subl v4.1 ((v4.2).toNat : Int) (((v4.1.length : Int)).toNat : Int)).bind fun v15 => (appD 24 ([] : List (List Int)) v15).bind fun v16 => (subl v4.1 0 v4.2).bind fun v17 => (appD 8 ([] : List Int) x1).bind fun v18 => (appD 24 v17 ([v18] : List (List Int))).bind fun v19 => (appD 24 v19 v16).bind fun v20 => some v20)
noncomputable def e_s_l2Put : CallE := ⟨109, [.mv false 25 (.list (.int .i64)), .d false (.list (.int .i64))], [.l (.o false 25 (.list (.int .i64)))], fun x => s_l2Put x.1 x.2⟩
noncomputable def c_s_l2Put : Ctx := ⟨Try.prog, TT, [e_s_l2Before, e_s_l2Same], [⟨2, [(0, .l (.o false 25 (.list (.int .i64)))), (5, .l (.d false (.int .i64)))], some (0, [(0, .l (.o false 25 (.list (.int .i64)))), (5, .l (.d false (.int .i64)))]), none, false⟩], [], [], [35], [(7, [0, 1, 2, 4, 8, 3, 5, 6, 7, 9, 10])]⟩
theorem k_s_l2Put (x : PMs.den e_s_l2Put.ps) : funK c_s_l2Put Try.f109 e_s_l2Put.ps e_s_l2Put.rs x = e_s_l2Put.F x := by kernel_rfl
theorem o_s_l2Put : FnOk Try.prog e_s_l2Put.f ∧ Ctr Try.prog e_s_l2Put := mkCtr (C := c_s_l2Put) m_ (⟨o_s_l2Before, o_s_l2Same, trivial⟩) Try.func109 (by kernel_rfl) k_s_l2Put
/-! loop.example/g00959/spec.l2Less -/
noncomputable def s_l2Less_s3 (x0 : List Int) (x1 : List Int) (v1 : List Int × Int) : Option ((List Int × Int) ⊕ (List Int)) :=
 cond (decide (v1.2 < (x0.length : Int)))
 ((idx x0 v1.2).bind fun v2 => (idx x1 v1.2).bind fun v3 => (appD 8 v1.1 ([(IntKind.i64.wrap (v2 - v3))] : List Int)).bind fun v4 => some (.inl (v4, (IntKind.i64.wrap (v1.2 + (1 : Int))))))
 (some (.inr v1.1))
noncomputable def s_l2Less (x0 : List Int) (x1 : List Int) : Option (List Int) :=
(iter (s_l2Less_s3 x0 x1) (([] : List Int), (0 : Int))).bind fun v5 => some v5
noncomputable def e_s_l2Less : CallE := ⟨89, [.d false (.list (.int .i64)), .d false (.list (.int .i64))], [.l (.o true 3 (.int .i64))], fun x => s_l2Less x.1 x.2⟩
noncomputable def c_s_l2Less : Ctx := ⟨Try.prog, TT, [], [⟨3, [(5, .l (.o true 3 (.int .i64))), (6, .l (.d false (.int .i64)))], some (0, [(5, .l (.o true 3 (.int .i64)))]), none, false⟩], [], [], [], []⟩
theorem k_s_l2Less (x : PMs.den e_s_l2Less.ps) : funK c_s_l2Less Try.f89 e_s_l2Less.ps e_s_l2Less.rs x = e_s_l2Less.F x := by kernel_rfl
theorem o_s_l2Less : FnOk Try.prog e_s_l2Less.f ∧ Ctr Try.prog e_s_l2Less := mkCtr (C := c_s_l2Less) m_ (trivial) Try.func89 (by kernel_rfl) k_s_l2Less
/-! loop.example/g00959/spec.l7Cross -/
noncomputable def s_l7Cross (x0 : List Int) (x1 : List Int) : Option (Int) :=
(idx x0 (0 : Int)).bind fun v1 => (idx x1 (1 : Int)).bind fun v2 => (idx x0 (1 : Int)).bind fun v3 => (idx x1 (0 : Int)).bind fun v4 => some (IntKind.i64.wrap ((IntKind.i64.wrap (v1 * v2)) - (IntKind.i64.wrap (v3 * v4))))
noncomputable def e_s_l7Cross : CallE := ⟨88, [.d false (.list (.int .i64)), .d false (.list (.int .i64))], [.l (.d false (.int .i64))], fun x => s_l7Cross x.1 x.2⟩
noncomputable def c_s_l7Cross : Ctx := ⟨Try.prog, TT, [], [], [], [], [], []⟩
theorem k_s_l7Cross (x : PMs.den e_s_l7Cross.ps) : funK c_s_l7Cross Try.f88 e_s_l7Cross.ps e_s_l7Cross.rs x = e_s_l7Cross.F x := by kernel_rfl
theorem o_s_l7Cross : FnOk Try.prog e_s_l7Cross.f ∧ Ctr Try.prog e_s_l7Cross := mkCtr (C := c_s_l7Cross) m_ (trivial) Try.func88 (by kernel_rfl) k_s_l7Cross
/-! loop.example/g00959/spec.l7Turn -/
noncomputable def s_l7Turn (x0 : List Int) (x1 : List Int) (x2 : List Int) : Option (Int) :=
(s_l2Less x1 x0).bind fun v1 => (s_l2Less x2 x1).bind fun v2 => (s_l7Cross v1 v2).bind fun v3 => some v3
noncomputable def e_s_l7Turn : CallE := ⟨124, [.d false (.list (.int .i64)), .d false (.list (.int .i64)), .d false (.list (.int .i64))], [.l (.d false (.int .i64))], fun x => s_l7Turn x.1 x.2.1 x.2.2⟩
noncomputable def c_s_l7Turn : Ctx := ⟨Try.prog, TT, [e_s_l2Less, e_s_l7Cross], [], [], [], [], []⟩
theorem k_s_l7Turn (x : PMs.den e_s_l7Turn.ps) : funK c_s_l7Turn Try.f124 e_s_l7Turn.ps e_s_l7Turn.rs x = e_s_l7Turn.F x := by kernel_rfl
theorem o_s_l7Turn : FnOk Try.prog e_s_l7Turn.f ∧ Ctr Try.prog e_s_l7Turn := mkCtr (C := c_s_l7Turn) m_ (⟨o_s_l2Less, o_s_l7Cross, trivial⟩) Try.func124 (by kernel_rfl) k_s_l7Turn
/-! loop.example/g00959/spec.l7Hull -/
noncomputable def s_l7Hull_s12 (v1 : List (List Int) × Int) (v4 : List Int) (v5 : List (List Int)) : Option ((List (List Int)) ⊕ (List (List Int))) :=
 cond (decide ((v5.length : Int) ≥ (IntKind.i64.wrap ((v1.1.length : Int) + (2 : Int)))))
 ((inIdx v5.length (IntKind.i64.wrap ((v5.length : Int) - (2 : Int)))).bind fun _ => (idx v5 (((IntKind.i64.wrap ((v5.length : Int) - (2 : Int)))).toNat : Int)).bind fun v6 => (inIdx v5.length (IntKind.i64.wrap ((v5.length : Int) - (1 : Int)))).bind fun _ => (idx v5 (((IntKind.i64.wrap ((v5.length : Int) - (1 : Int)))).toNat : Int)).bind fun v7 => (s_l7Turn v6 v7 v4).bind fun v8 => cond (decide (v8 ≤ (0 : Int)))
 ((subl v5 0 (IntKind.i64.wrap ((v5.length : Int) - (1 : Int)))).bind fun v9 => some (.inl v9))
 (some (.inr v5)))
 (some (.inr v5))
noncomputable def s_l7Hull_s12b16 (v1 : List (List Int) × Int) (v3 : List Int) (v12 : List (List Int)) : Option ((List (List Int)) ⊕ (List (List Int))) :=
 cond (decide ((v12.length : Int) ≥ (IntKind.i64.wrap ((v1.1.length : Int) + (2 : Int)))))
 ((inIdx v12.length (IntKind.i64.wrap ((v12.length : Int) - (2 : Int)))).bind fun _ => (idx v12 (((IntKind.i64.wrap ((v12.length : Int) - (2 : Int)))).toNat : Int)).bind fun v13 => (inIdx v12.length (IntKind.i64.wrap ((v12.length : Int) - (1 : Int)))).bind fun _ => (idx v12 (((IntKind.i64.wrap ((v12.length : Int) - (1 : Int)))).toNat : Int)).bind fun v14 => (s_l7Turn v13 v14 v3).bind fun v15 => cond (decide (v15 ≤ (0 : Int)))
 ((subl v12 0 (IntKind.i64.wrap ((v12.length : Int) - (1 : Int)))).bind fun v16 => some (.inl v16))
 (some (.inr v12)))
 (some (.inr v12))
noncomputable def s_l7Hull_s7 (x0 : List (List Int)) (v1 : List (List Int) × Int) (v2 : List (List Int) × Int) : Option ((List (List Int) × Int) ⊕ (List (List Int))) :=
 cond (decide (v2.2 < (x0.length : Int)))
 ((idx x0 v2.2).bind fun v3 => cond (v1.2 == (1 : Int))
 ((idx x0 (IntKind.i64.wrap ((IntKind.i64.wrap ((x0.length : Int) - (1 : Int))) - v2.2))).bind fun v4 => (iter (s_l7Hull_s12 v1 v4) v2.1).bind fun v10 => (appD 24 v10 ([v4] : List (List Int))).bind fun v11 => some (.inl (v11, (IntKind.i64.wrap (v2.2 + (1 : Int))))))
 ((iter (s_l7Hull_s12b16 v1 v3) v2.1).bind fun v17 => (appD 24 v17 ([v3] : List (List Int))).bind fun v18 => some (.inl (v18, (IntKind.i64.wrap (v2.2 + (1 : Int)))))))
 (some (.inr v2.1))
noncomputable def s_l7Hull_s3 (x0 : List (List Int)) (v1 : List (List Int) × Int) : Option ((List (List Int) × Int) ⊕ (List (List Int))) :=
 cond (decide (v1.2 < (2 : Int)))
 ((iter (s_l7Hull_s7 x0 v1) (v1.1, (0 : Int))).bind fun v19 => (subl v19 0 (IntKind.i64.wrap ((v19.length : Int) - (1 : Int)))).bind fun v20 => some (.inl (v20, (IntKind.i64.wrap (v1.2 + (1 : Int))))))
 (some (.inr v1.1))
noncomputable def s_l7Hull (x0 : List (List Int)) : Option (List (List Int)) :=
(iter (s_l7Hull_s3 x0) (([] : List (List Int)), (0 : Int))).bind fun v21 => some v21
noncomputable def e_s_l7Hull : CallE := ⟨110, [.d false (.list (.list (.int .i64)))], [.l (.o false 25 (.list (.int .i64)))], fun x => s_l7Hull x⟩
noncomputable def c_s_l7Hull : Ctx := ⟨Try.prog, TT, [e_s_l7Turn], [⟨3, [(3, .l (.o false 25 (.list (.int .i64)))), (4, .l (.d false (.int .i64)))], some (0, [(3, .l (.o false 25 (.list (.int .i64))))]), none, false⟩, ⟨7, [(3, .l (.o false 25 (.list (.int .i64)))), (6, .l (.d false (.int .i64)))], some (2, [(3, .l (.o false 25 (.list (.int .i64))))]), none, false⟩, ⟨12, [(3, .l (.o false 25 (.list (.int .i64))))], some (4, [(3, .l (.o false 25 (.list (.int .i64))))]), none, false⟩], [], [], [], []⟩
theorem k_s_l7Hull (x : PMs.den e_s_l7Hull.ps) : funK c_s_l7Hull Try.f110 e_s_l7Hull.ps e_s_l7Hull.rs x = e_s_l7Hull.F x := by kernel_rfl
theorem o_s_l7Hull : FnOk Try.prog e_s_l7Hull.f ∧ Ctr Try.prog e_s_l7Hull := mkCtr (C := c_s_l7Hull) m_ (⟨o_s_l7Turn, trivial⟩) Try.func110 (by kernel_rfl) k_s_l7Hull
/-! loop.example/g00959/spec.l7Copy -/
noncomputable def s_l7Copy_s3 (x0 : List (List Int)) (v1 : List (List Int) × Int) : Option ((List (List Int) × Int) ⊕ (List (List Int))) :=
 cond (decide (v1.2 < (x0.length : Int)))
 ((idx x0 v1.2).bind fun v2 => (appD 8 ([] : List Int) v2).bind fun v3 => (appD 24 v1.1 ([v3] : List (List Int))).bind fun v4 => some (.inl (v4, (IntKind.i64.wrap (v1.2 + (1 : Int))))))
 (some (.inr v1.1))
noncomputable def s_l7Copy (x0 : List (List Int)) : Option (List (List Int)) :=
(iter (s_l7Copy_s3 x0) (([] : List (List Int)), (0 : Int))).bind fun v5 => some v5
noncomputable def e_s_l7Copy : CallE := ⟨111, [.d false (.list (.list (.int .i64)))], [.l (.o true 25 (.list (.int .i64)))], fun x => s_l7Copy x⟩
noncomputable def c_s_l7Copy : Ctx := ⟨Try.prog, TT, [], [⟨3, [(3, .l (.o true 25 (.list (.int .i64)))), (4, .l (.d false (.int .i64)))], some (0, [(3, .l (.o true 25 (.list (.int .i64))))]), none, false⟩], [], [], [], []⟩
theorem k_s_l7Copy (x : PMs.den e_s_l7Copy.ps) : funK c_s_l7Copy Try.f111 e_s_l7Copy.ps e_s_l7Copy.rs x = e_s_l7Copy.F x := by kernel_rfl
theorem o_s_l7Copy : FnOk Try.prog e_s_l7Copy.f ∧ Ctr Try.prog e_s_l7Copy := mkCtr (C := c_s_l7Copy) m_ (trivial) Try.func111 (by kernel_rfl) k_s_l7Copy
/-! loop.example/g00959/spec.HullOf -/
noncomputable def s_HullOf_s5 (x0 : List (List Int)) (v2 : List (List Int) × Int) : Option ((List (List Int) × Int) ⊕ (List (List Int))) :=
 cond (decide (v2.2 < (x0.length : Int)))
 ((idx x0 v2.2).bind fun v3 => (s_l2Put v2.1 v3).bind fun v4 => some (.inl (v4, (IntKind.i64.wrap (v2.2 + (1 : Int))))))
 (some (.inr v2.1))
noncomputable def s_HullOf (x0 : List (List Int)) : Option (List (List Int) × Bool) :=
 cond (decide ((x0.length : Int) > (200 : Int)))
 (some (([] : List (List Int)), false))
 ((s_l7Flat x0).bind fun v1 => cond (!v1)
 (some (([] : List (List Int)), false))
 ((iter (s_HullOf_s5 x0) (([] : List (List Int)), (0 : Int))).bind fun v5 => cond (decide ((v5.length : Int) < (3 : Int)))
 (some (([] : List (List Int)), false))
 ((s_l7Hull v5).bind fun v6 => cond (decide ((v6.length : Int) < (3 : Int)))
 (some (([] : List (List Int)), false))
 (cond (decide ((v6.length : Int) > (12 : Int)))
 (some (([] : List (List Int)), false))
 ((s_l7Copy v6).bind fun v7 => some (v7, true))))))
noncomputable def e_s_HullOf : CallE := ⟨75, [.d false (.list (.list (.int .i64)))], [.l (.o true 25 (.list (.int .i64))), .l (.d false .bool)], fun x => s_HullOf x⟩
noncomputable def c_s_HullOf : Ctx := ⟨Try.prog, TT, [e_s_l7Flat, e_s_l2Put, e_s_l7Hull, e_s_l7Copy], [⟨5, [(4, .l (.o false 25 (.list (.int .i64)))), (5, .l (.d false (.int .i64)))], some (0, [(4, .l (.o false 25 (.list (.int .i64))))]), none, false⟩], [], [], [], []⟩
theorem k_s_HullOf (x : PMs.den e_s_HullOf.ps) : funK c_s_HullOf Try.f75 e_s_HullOf.ps e_s_HullOf.rs x = e_s_HullOf.F x := by kernel_rfl
theorem o_s_HullOf : FnOk Try.prog e_s_HullOf.f ∧ Ctr Try.prog e_s_HullOf := mkCtr (C := c_s_HullOf) m_ (⟨o_s_l7Flat, o_s_l2Put, o_s_l7Hull, o_s_l7Copy, trivial⟩) Try.func75 (by kernel_rfl) k_s_HullOf
/-! loop.example/g00959/spec.l7Draw -/
noncomputable def s_l7Draw_s7 (x1 : Int) (v2 : (Int) × ((List Int) × Int × Int) × Unit) (v3 : (List Int × Int × Int) × List (List Int) × Int) : Option (((List Int × Int × Int) × List (List Int) × Int) ⊕ ((List Int × Int × Int) × List (List Int))) :=
 cond (decide (v3.2.2 < (IntKind.i64.wrap ((3 : Int) + v2.1))))
 ((s_l2Draw (v3.1.1, (v3.1.2.1, v3.1.2.2)) (2 : Int) x1).bind fun v4 => (appD 24 v3.2.1 ([v4.1] : List (List Int))).bind fun v5 => some (.inl ((v4.2.1.1, (v4.2.1.2.1, v4.2.1.2.2)), (v5, (IntKind.i64.wrap (v3.2.2 + (1 : Int)))))))
 (some (.inr ((v3.1.1, (v3.1.2.1, v3.1.2.2)), v3.2.1)))
noncomputable def s_l7Draw_s2 (x1 : Int) (v1 : (List Int × Int × Int) × Int) : Option (((List Int × Int × Int) × Int) ⊕ ((List Int × Int × Int) ⊕ ((List Int × Int × Int) × List (List Int)))) :=
 cond (decide (v1.2 < (6 : Int)))
 ((s_l1Below (v1.1.1, (v1.1.2.1, v1.1.2.2)) (4 : Int)).bind fun v2 => (iter (s_l7Draw_s7 x1 v2) ((v2.2.1.1, (v2.2.1.2.1, v2.2.1.2.2)), (([] : List (List Int)), (0 : Int)))).bind fun v6 => (s_HullOf v6.2).bind fun v7 => cond v7.2
 (some (.inr (.inr ((v6.1.1, (v6.1.2.1, v6.1.2.2)), v7.1))))
 (some (.inl ((v6.1.1, (v6.1.2.1, v6.1.2.2)), (IntKind.i64.wrap (v1.2 + (1 : Int)))))))
 (some (.inr (.inl (v1.1.1, (v1.1.2.1, v1.1.2.2)))))
noncomputable def s_l7Draw (x0 : (List Int) × Int × Int) (x1 : Int) : Option ((List (List Int)) × ((List Int) × Int × Int) × Unit) :=
(iter (s_l7Draw_s2 x1) ((x0.1, (x0.2.1, x0.2.2)), (0 : Int))).bind fun v8 => match v8 with
 | .inl v9 => (some (([([(0 : Int), (0 : Int)] : List Int), ([(2 : Int), (0 : Int)] : List Int), ([(0 : Int), (1 : Int)] : List Int)] : List (List Int)), ((v9.1, (v9.2.1, v9.2.2)), ())))
 | .inr v10 => (some (v10.2, ((v10.1.1, (v10.1.2.1, v10.1.2.2)), ())))
noncomputable def e_s_l7Draw : CallE := ⟨96, [.cur 73, .d false (.int .i64)], [.l (.o false 25 (.list (.int .i64)))], fun x => s_l7Draw x.1 x.2⟩
noncomputable def c_s_l7Draw : Ctx := ⟨Try.prog, TT, [e_s_l1Below, e_s_l2Draw, e_s_HullOf], [⟨2, [(0, .b 73 [(.d false (.list (.int .u8))), (.d false (.int .i64)), (.d false (.int .i64))]), (5, .l (.d false (.int .i64)))], some (0, [(0, .b 73 [(.d false (.list (.int .u8))), (.d false (.int .i64)), (.d false (.int .i64))])]), some [(0, .b 73 [(.d false (.list (.int .u8))), (.d false (.int .i64)), (.d false (.int .i64))]), (4, .l (.o true 25 (.list (.int .i64))))], false⟩, ⟨7, [(0, .b 73 [(.d false (.list (.int .u8))), (.d false (.int .i64)), (.d false (.int .i64))]), (6, .l (.o true 25 (.list (.int .i64)))), (8, .l (.d false (.int .i64)))], some (2, [(0, .b 73 [(.d false (.list (.int .u8))), (.d false (.int .i64)), (.d false (.int .i64))]), (6, .l (.o true 25 (.list (.int .i64))))]), none, false⟩], [], [], [], []⟩
theorem k_s_l7Draw (x : PMs.den e_s_l7Draw.ps) : funK c_s_l7Draw Try.f96 e_s_l7Draw.ps e_s_l7Draw.rs x = e_s_l7Draw.F x := by kernel_rfl
theorem o_s_l7Draw : FnOk Try.prog e_s_l7Draw.f ∧ Ctr Try.prog e_s_l7Draw := mkCtr (C := c_s_l7Draw) m_ (⟨o_s_l1Below, o_s_l2Draw, o_s_HullOf, trivial⟩) Try.func96 (by kernel_rfl) k_s_l7Draw
/-! loop.example/g00959/spec.l1Once -/
noncomputable def s_l1Once (x0 : (List Int) × Int × Int) (x1 : Int) : Option ((Bool) × ((List Int) × Int × Int) × Unit) :=
(s_l1Below (x0.1, (x0.2.1, x0.2.2)) x1).bind fun v1 => some ((v1.1 == (0 : Int)), ((v1.2.1.1, (v1.2.1.2.1, v1.2.1.2.2)), ()))
noncomputable def e_s_l1Once : CallE := ⟨61, [.cur 73, .d false (.int .i64)], [.l (.d false .bool)], fun x => s_l1Once x.1 x.2⟩
noncomputable def c_s_l1Once : Ctx := ⟨Try.prog, TT, [e_s_l1Below], [], [], [], [], []⟩
theorem k_s_l1Once (x : PMs.den e_s_l1Once.ps) : funK c_s_l1Once Try.f61 e_s_l1Once.ps e_s_l1Once.rs x = e_s_l1Once.F x := by kernel_rfl
theorem o_s_l1Once : FnOk Try.prog e_s_l1Once.f ∧ Ctr Try.prog e_s_l1Once := mkCtr (C := c_s_l1Once) m_ (⟨o_s_l1Below, trivial⟩) Try.func61 (by kernel_rfl) k_s_l1Once
/-! loop.example/g00959/spec.l1Bit -/
noncomputable def s_l1Bit (x0 : Bool) : Option (Int) :=
 cond x0
 (some (1 : Int))
 (some (0 : Int))
noncomputable def e_s_l1Bit : CallE := ⟨60, [.d false .bool], [.l (.d false (.int .i64))], fun x => s_l1Bit x⟩
noncomputable def c_s_l1Bit : Ctx := ⟨Try.prog, TT, [], [], [], [], [], []⟩
theorem k_s_l1Bit (x : PMs.den e_s_l1Bit.ps) : funK c_s_l1Bit Try.f60 e_s_l1Bit.ps e_s_l1Bit.rs x = e_s_l1Bit.F x := by kernel_rfl
theorem o_s_l1Bit : FnOk Try.prog e_s_l1Bit.f ∧ Ctr Try.prog e_s_l1Bit := mkCtr (C := c_s_l1Bit) m_ (trivial) Try.func60 (by kernel_rfl) k_s_l1Bit
/-! loop.example/g00959/spec.l7Bent -/
noncomputable def s_l7Bent (x0 : (List Int) × Int × Int) : Option ((List (List Int)) × ((List Int) × Int × Int) × Unit) :=
(s_l7Draw (x0.1, (x0.2.1, x0.2.2)) (4 : Int)).bind fun v1 => (s_l1Below (v1.2.1.1, (v1.2.1.2.1, v1.2.1.2.2)) (14 : Int)).bind fun v2 => cond (v2.1 == (0 : Int))
 ((inIdx v1.1.length (0 : Int)).bind fun _ => (idx v1.1 (((0 : Int)).toNat : Int)).bind fun v3 => (inIdx v1.1.length (1 : Int)).bind fun _ => (idx v1.1 (((1 : Int)).toNat : Int)).bind fun v4 => (inIdx v1.1.length (0 : Int)).bind fun _ => (inIdx v1.1.length (((0 : Int)).toNat : Int)).bind fun _ => (inIdx (v1.1.set (((0 : Int)).toNat) v4).length (1 : Int)).bind fun _ => (inIdx (v1.1.set (((0 : Int)).toNat) v4).length (((1 : Int)).toNat : Int)).bind fun _ => some (((v1.1.set (((0 : Int)).toNat) v4).set (((1 : Int)).toNat) v3), ((v2.2.1.1, (v2.2.1.2.1, v2.2.1.2.2)), ())))
 (cond (v2.1 == (1 : Int))
 ((s_l1Once (v2.2.1.1, (v2.2.1.2.1, v2.2.1.2.2)) (2 : Int)).bind fun v5 => (s_l1Bit v5.1).bind fun v6 => (s_l2Draw (v5.2.1.1, (v5.2.1.2.1, v5.2.1.2.2)) (IntKind.i64.wrap ((2 : Int) + v6)) (60 : Int)).bind fun v7 => (inIdx v1.1.length (0 : Int)).bind fun _ => (inIdx v1.1.length (((0 : Int)).toNat : Int)).bind fun _ => some ((v1.1.set (((0 : Int)).toNat) v7.1), ((v7.2.1.1, (v7.2.1.2.1, v7.2.1.2.2)), ())))
 (cond (v2.1 == (2 : Int))
 ((subl v1.1 0 (2 : Int)).bind fun v8 => some (v8, ((v2.2.1.1, (v2.2.1.2.1, v2.2.1.2.2)), ())))
 (some (v1.1, ((v2.2.1.1, (v2.2.1.2.1, v2.2.1.2.2)), ())))))
noncomputable def e_s_l7Bent : CallE := ⟨56, [.cur 73], [.l (.o false 25 (.list (.int .i64)))], fun x => s_l7Bent x⟩
noncomputable def c_s_l7Bent : Ctx := ⟨Try.prog, TT, [e_s_l7Draw, e_s_l1Below, e_s_l1Once, e_s_l1Bit, e_s_l2Draw], [], [], [], [], []⟩
theorem k_s_l7Bent (x : PMs.den e_s_l7Bent.ps) : funK c_s_l7Bent Try.f56 e_s_l7Bent.ps e_s_l7Bent.rs x = e_s_l7Bent.F x := by kernel_rfl
theorem o_s_l7Bent : FnOk Try.prog e_s_l7Bent.f ∧ Ctr Try.prog e_s_l7Bent := mkCtr (C := c_s_l7Bent) m_ (⟨o_s_l7Draw, o_s_l1Below, o_s_l1Once, o_s_l1Bit, o_s_l2Draw, trivial⟩) Try.func56 (by kernel_rfl) k_s_l7Bent
/-! loop.example/g00959/spec.DrawPlaceOf -/
noncomputable def s_DrawPlaceOf_s57_3 (x0 : List Int) (v1 : Int × Int) : Option ((Int × Int) ⊕ (Int)) :=
 cond (decide (v1.2 < (x0.length : Int)))
 (cond (decide (v1.2 < (4000 : Int)))
 ((idx x0 v1.2).bind fun v2 => some (.inl ((andI .i64 (IntKind.i64.wrap ((IntKind.i64.wrap ((IntKind.i64.wrap (v1.1 * (131 : Int))) + (IntKind.i64.wrap v2))) + (7 : Int))) (1073741823 : Int)), (IntKind.i64.wrap (v1.2 + (1 : Int))))))
 (some (.inr v1.1)))
 (some (.inr v1.1))
noncomputable def s_DrawPlaceOf (x0 : List Int) : Option (List (List Int) × List Int) :=
(iter (s_DrawPlaceOf_s57_3 x0) ((IntKind.i64.wrap ((26583 : Int) + (x0.length : Int))), (0 : Int))).bind fun v3 => (s_l7Bent (x0, ((0 : Int), v3))).bind fun v4 => (s_l1Once (v4.2.1.1, (v4.2.1.2.1, v4.2.1.2.2)) (14 : Int)).bind fun v5 => (s_l1Bit v5.1).bind fun v6 => (s_l2Draw (v5.2.1.1, (v5.2.1.2.1, v5.2.1.2.2)) (IntKind.i64.wrap ((2 : Int) + v6)) (4 : Int)).bind fun v7 => some (v4.1, v7.1)
noncomputable def e_s_DrawPlaceOf : CallE := ⟨52, [.d false (.list (.int .u8))], [.l (.o false 25 (.list (.int .i64))), .l (.o true 3 (.int .i64))], fun x => s_DrawPlaceOf x⟩
noncomputable def c_s_DrawPlaceOf_57 : Ctx := ⟨Try.prog, TT, [], [⟨3, [(3, .l (.d false (.int .i64))), (4, .l (.d false (.int .i64)))], some (0, [(3, .l (.d false (.int .i64)))]), none, true⟩], [], [], [], []⟩
noncomputable def n_s_DrawPlaceOf_57 : InE := ⟨57, false, inlK c_s_DrawPlaceOf_57 Try.f57⟩
theorem q_s_DrawPlaceOf_57 : FnOk Try.prog n_s_DrawPlaceOf_57.f ∧ InOk Try.prog n_s_DrawPlaceOf_57 := mkInl (C := c_s_DrawPlaceOf_57) m_ (trivial) Try.func57 (by kernel_rfl)
noncomputable def c_s_DrawPlaceOf : Ctx := ⟨Try.prog, TT, [e_s_l7Bent, e_s_l1Once, e_s_l1Bit, e_s_l2Draw], [], [], [n_s_DrawPlaceOf_57], [], []⟩
theorem k_s_DrawPlaceOf (x : PMs.den e_s_DrawPlaceOf.ps) : funK c_s_DrawPlaceOf Try.f52 e_s_DrawPlaceOf.ps e_s_DrawPlaceOf.rs x = e_s_DrawPlaceOf.F x := by kernel_rfl
theorem o_s_DrawPlaceOf : FnOk Try.prog e_s_DrawPlaceOf.f ∧ Ctr Try.prog e_s_DrawPlaceOf := mkCtr (C := c_s_DrawPlaceOf) m_ (⟨o_s_l7Bent, o_s_l1Once, o_s_l1Bit, o_s_l2Draw, trivial⟩) Try.func52 (by kernel_rfl) k_s_DrawPlaceOf ⟨q_s_DrawPlaceOf_57, trivial⟩
/-! loop.example/g00959/impl.within -/
noncomputable def i_within (x0 : Int) (x1 : Int) (x2 : Int) : Option (Bool) :=
 cond (decide (x0 ≥ x1))
 (some (decide (x0 ≤ x2)))
 (some false)
noncomputable def e_i_within : CallE := ⟨85, [.d false (.int .i64), .d false (.int .i64), .d false (.int .i64)], [.l (.d false .bool)], fun x => i_within x.1 x.2.1 x.2.2⟩
noncomputable def c_i_within : Ctx := ⟨Try.prog, TT, [], [], [], [], [], []⟩
theorem k_i_within (x : PMs.den e_i_within.ps) : funK c_i_within Try.f85 e_i_within.ps e_i_within.rs x = e_i_within.F x := by kernel_rfl
theorem o_i_within : FnOk Try.prog e_i_within.f ∧ Ctr Try.prog e_i_within := mkCtr (C := c_i_within) m_ (trivial) Try.func85 (by kernel_rfl) k_i_within
/-! loop.example/g00959/impl.allWithin -/
noncomputable def i_allWithin_s2 (x0 : List Int) (x1 : Int) (x2 : Int) (v1 : Int) : Option ((Int) ⊕ ((Unit) ⊕ (Bool))) :=
 cond (decide (v1 < (x0.length : Int)))
 ((idx x0 v1).bind fun v2 => (i_within v2 x1 x2).bind fun v3 => cond (!v3)
 (some (.inr (.inr false)))
 (some (.inl (IntKind.i64.wrap (v1 + (1 : Int))))))
 (some (.inr (.inl ())))
noncomputable def i_allWithin (x0 : List Int) (x1 : Int) (x2 : Int) : Option (Bool) :=
(iter (i_allWithin_s2 x0 x1 x2) (0 : Int)).bind fun v4 => match v4 with
 | .inl v5 => (some true)
 | .inr v6 => (some v6)
noncomputable def e_i_allWithin : CallE := ⟨101, [.d false (.list (.int .i64)), .d false (.int .i64), .d false (.int .i64)], [.l (.d false .bool)], fun x => i_allWithin x.1 x.2.1 x.2.2⟩
noncomputable def c_i_allWithin : Ctx := ⟨Try.prog, TT, [e_i_within], [⟨2, [(11, .l (.d false (.int .i64)))], some (0, []), some [(6, .l (.d false .bool))], false⟩], [], [], [], []⟩
theorem k_i_allWithin (x : PMs.den e_i_allWithin.ps) : funK c_i_allWithin Try.f101 e_i_allWithin.ps e_i_allWithin.rs x = e_i_allWithin.F x := by kernel_rfl
theorem o_i_allWithin : FnOk Try.prog e_i_allWithin.f ∧ Ctr Try.prog e_i_allWithin := mkCtr (C := c_i_allWithin) m_ (⟨o_i_within, trivial⟩) Try.func101 (by kernel_rfl) k_i_allWithin
/-! loop.example/g00959/impl.isPoint -/
noncomputable def i_isPoint (x0 : List Int) (x1 : Int) : Option (Bool) :=
 cond ((x0.length : Int) == (2 : Int))
 ((i_allWithin x0 (IntKind.i64.wrap (0 - x1)) x1).bind fun v1 => some v1)
 (some false)
noncomputable def e_i_isPoint : CallE := ⟨64, [.d false (.list (.int .i64)), .d false (.int .i64)], [.l (.d false .bool)], fun x => i_isPoint x.1 x.2⟩
noncomputable def c_i_isPoint : Ctx := ⟨Try.prog, TT, [e_i_allWithin], [], [], [], [], []⟩
theorem k_i_isPoint (x : PMs.den e_i_isPoint.ps) : funK c_i_isPoint Try.f64 e_i_isPoint.ps e_i_isPoint.rs x = e_i_isPoint.F x := by kernel_rfl
theorem o_i_isPoint : FnOk Try.prog e_i_isPoint.f ∧ Ctr Try.prog e_i_isPoint := mkCtr (C := c_i_isPoint) m_ (⟨o_i_allWithin, trivial⟩) Try.func64 (by kernel_rfl) k_i_isPoint
/-! loop.example/g00959/impl.minus -/
noncomputable def i_minus (x0 : List Int) (x1 : List Int) : Option (List Int) :=
(idx x0 (0 : Int)).bind fun v1 => (idx x1 (0 : Int)).bind fun v2 => (idx x0 (1 : Int)).bind fun v3 => (idx x1 (1 : Int)).bind fun v4 => some ([(IntKind.i64.wrap (v1 - v2)), (IntKind.i64.wrap (v3 - v4))] : List Int)
noncomputable def e_i_minus : CallE := ⟨98, [.d false (.list (.int .i64)), .d false (.list (.int .i64))], [.l (.o true 3 (.int .i64))], fun x => i_minus x.1 x.2⟩
noncomputable def c_i_minus : Ctx := ⟨Try.prog, TT, [], [], [], [], [], []⟩
theorem k_i_minus (x : PMs.den e_i_minus.ps) : funK c_i_minus Try.f98 e_i_minus.ps e_i_minus.rs x = e_i_minus.F x := by kernel_rfl
theorem o_i_minus : FnOk Try.prog e_i_minus.f ∧ Ctr Try.prog e_i_minus := mkCtr (C := c_i_minus) m_ (trivial) Try.func98 (by kernel_rfl) k_i_minus
/-! loop.example/g00959/impl.cross -/
noncomputable def i_cross (x0 : List Int) (x1 : List Int) : Option (Int) :=
(idx x0 (0 : Int)).bind fun v1 => (idx x1 (1 : Int)).bind fun v2 => (idx x0 (1 : Int)).bind fun v3 => (idx x1 (0 : Int)).bind fun v4 => some (IntKind.i64.wrap ((IntKind.i64.wrap (v1 * v2)) - (IntKind.i64.wrap (v3 * v4))))
noncomputable def e_i_cross : CallE := ⟨117, [.d false (.list (.int .i64)), .d false (.list (.int .i64))], [.l (.d false (.int .i64))], fun x => i_cross x.1 x.2⟩
noncomputable def c_i_cross : Ctx := ⟨Try.prog, TT, [], [], [], [], [], []⟩
theorem k_i_cross (x : PMs.den e_i_cross.ps) : funK c_i_cross Try.f117 e_i_cross.ps e_i_cross.rs x = e_i_cross.F x := by kernel_rfl
theorem o_i_cross : FnOk Try.prog e_i_cross.f ∧ Ctr Try.prog e_i_cross := mkCtr (C := c_i_cross) m_ (trivial) Try.func117 (by kernel_rfl) k_i_cross
/-! loop.example/g00959/impl.turn -/
noncomputable def i_turn (x0 : List Int) (x1 : List Int) (x2 : List Int) : Option (Int) :=
(i_minus x1 x0).bind fun v1 => (i_minus x2 x0).bind fun v2 => (i_cross v1 v2).bind fun v3 => some v3
noncomputable def e_i_turn : CallE := ⟨99, [.d false (.list (.int .i64)), .d false (.list (.int .i64)), .d false (.list (.int .i64))], [.l (.d false (.int .i64))], fun x => i_turn x.1 x.2.1 x.2.2⟩
noncomputable def c_i_turn : Ctx := ⟨Try.prog, TT, [e_i_minus, e_i_cross], [], [], [], [], []⟩
theorem k_i_turn (x : PMs.den e_i_turn.ps) : funK c_i_turn Try.f99 e_i_turn.ps e_i_turn.rs x = e_i_turn.F x := by kernel_rfl
theorem o_i_turn : FnOk Try.prog e_i_turn.f ∧ Ctr Try.prog e_i_turn := mkCtr (C := c_i_turn) m_ (⟨o_i_minus, o_i_cross, trivial⟩) Try.func99 (by kernel_rfl) k_i_turn
/-! cmp.isNaN[int] -/
noncomputable def g_cmp_isNaN (x0 : Int) : Option (Bool) :=
 some (x0 != x0)
noncomputable def e_g_cmp_isNaN : CallE := ⟨128, [.d false (.int .i64)], [.l (.d false .bool)], fun x => g_cmp_isNaN x⟩
noncomputable def c_g_cmp_isNaN : Ctx := ⟨Try.prog, TT, [], [], [], [], [], []⟩
theorem k_g_cmp_isNaN (x : PMs.den e_g_cmp_isNaN.ps) : funK c_g_cmp_isNaN Try.f128 e_g_cmp_isNaN.ps e_g_cmp_isNaN.rs x = e_g_cmp_isNaN.F x := by kernel_rfl
theorem o_g_cmp_isNaN : FnOk Try.prog e_g_cmp_isNaN.f ∧ Ctr Try.prog e_g_cmp_isNaN := mkCtr (C := c_g_cmp_isNaN) m_ (trivial) Try.func128 (by kernel_rfl) k_g_cmp_isNaN
/-! cmp.Compare[int] -/
noncomputable def g_cmp_Compare (x0 : Int) (x1 : Int) : Option (Int) :=
(g_cmp_isNaN x0).bind fun v1 => (g_cmp_isNaN x1).bind fun v2 => cond v1
 (cond v2
 (some (0 : Int))
 (some (-1 : Int)))
 (cond v2
 (some (1 : Int))
 (cond (decide (x0 < x1))
 (some (-1 : Int))
 (cond (decide (x0 > x1))
 (some (1 : Int))
 (some (0 : Int)))))
noncomputable def e_g_cmp_Compare : CallE := ⟨122, [.d false (.int .i64), .d false (.int .i64)], [.l (.d false (.int .i64))], fun x => g_cmp_Compare x.1 x.2⟩
noncomputable def c_g_cmp_Compare : Ctx := ⟨Try.prog, TT, [e_g_cmp_isNaN], [], [], [], [], []⟩
theorem k_g_cmp_Compare (x : PMs.den e_g_cmp_Compare.ps) : funK c_g_cmp_Compare Try.f122 e_g_cmp_Compare.ps e_g_cmp_Compare.rs x = e_g_cmp_Compare.F x := by kernel_rfl
theorem o_g_cmp_Compare : FnOk Try.prog e_g_cmp_Compare.f ∧ Ctr Try.prog e_g_cmp_Compare := mkCtr (C := c_g_cmp_Compare) m_ (⟨o_g_cmp_isNaN, trivial⟩) Try.func122 (by kernel_rfl) k_g_cmp_Compare
/-! slices.Compare[[]int,int] -/
noncomputable def g_slices_Compare_s2 (x0 : List Int) (x1 : List Int) (v1 : Int) : Option ((Int) ⊕ ((Unit) ⊕ (Int))) :=
 cond (decide (v1 < (x0.length : Int)))
 ((idx x0 v1).bind fun v2 => cond (decide (v1 ≥ (x1.length : Int)))
 (some (.inr (.inr (1 : Int))))
 ((idx x1 v1).bind fun v3 => (g_cmp_Compare v2 v3).bind fun v4 => cond (v4 != (0 : Int))
 (some (.inr (.inr v4)))
 (some (.inl (IntKind.i64.wrap (v1 + (1 : Int)))))))
 (some (.inr (.inl ())))
noncomputable def g_slices_Compare (x0 : List Int) (x1 : List Int) : Option (Int) :=
(iter (g_slices_Compare_s2 x0 x1) (0 : Int)).bind fun v5 => match v5 with
 | .inl v6 => (cond (decide ((x0.length : Int) < (x1.length : Int)))
 (some (-1 : Int))
 (some (0 : Int)))
 | .inr v7 => (some v7)
noncomputable def e_g_slices_Compare : CallE := ⟨100, [.d false (.list (.int .i64)), .d false (.list (.int .i64))], [.l (.d false (.int .i64))], fun x => g_slices_Compare x.1 x.2⟩
noncomputable def c_g_slices_Compare : Ctx := ⟨Try.prog, TT, [e_g_cmp_Compare], [⟨2, [(11, .l (.d false (.int .i64)))], some (0, []), some [(4, .l (.d false (.int .i64)))], false⟩], [], [], [], []⟩
theorem k_g_slices_Compare (x : PMs.den e_g_slices_Compare.ps) : funK c_g_slices_Compare Try.f100 e_g_slices_Compare.ps e_g_slices_Compare.rs x = e_g_slices_Compare.F x := by kernel_rfl
theorem o_g_slices_Compare : FnOk Try.prog e_g_slices_Compare.f ∧ Ctr Try.prog e_g_slices_Compare := mkCtr (C := c_g_slices_Compare) m_ (⟨o_g_cmp_Compare, trivial⟩) Try.func100 (by kernel_rfl) k_g_slices_Compare
/-! loop.example/g00959/impl.IsPolygon -/
noncomputable def i_IsPolygon_s4 (x0 : List (List Int)) (v2 : Int) : Option ((Int) ⊕ ((Unit) ⊕ (Bool))) :=
 cond (decide (v2 < (x0.length : Int)))
 ((idx x0 v2).bind fun v3 => (i_isPoint v3 (50 : Int)).bind fun v4 => cond (!v4)
 (some (.inr (.inr false)))
 (some (.inl (IntKind.i64.wrap (v2 + (1 : Int))))))
 (some (.inr (.inl ())))
noncomputable def i_IsPolygon_s11 (x0 : List (List Int)) (v8 : Int) : Option ((Int) ⊕ ((Unit) ⊕ (Bool))) :=
 cond (decide (v8 < (x0.length : Int)))
 ((idx x0 v8).bind fun v9 => (remI .i64 (IntKind.i64.wrap (v8 + (1 : Int))) (x0.length : Int)).bind fun v10 => (idx x0 v10).bind fun v11 => (remI .i64 (IntKind.i64.wrap (v8 + (2 : Int))) (x0.length : Int)).bind fun v12 => (idx x0 v12).bind fun v13 => (i_turn v9 v11 v13).bind fun v14 => cond (decide (v14 ≤ (0 : Int)))
 (some (.inr (.inr false)))
 (cond (decide (v8 > (0 : Int)))
 ((idx x0 (0 : Int)).bind fun v15 => (g_slices_Compare v15 v9).bind fun v16 => cond (decide (v16 ≥ (0 : Int)))
 (some (.inr (.inr false)))
 (cond (decide (v8 > (0 : Int)))
 (cond (decide (v8 < (IntKind.i64.wrap ((x0.length : Int) - (1 : Int)))))
 ((idx x0 (0 : Int)).bind fun v17 => (idx x0 (IntKind.i64.wrap (v8 + (1 : Int)))).bind fun v18 => (i_turn v17 v9 v18).bind fun v19 => cond (decide (v19 ≤ (0 : Int)))
 (some (.inr (.inr false)))
 (some (.inl (IntKind.i64.wrap (v8 + (1 : Int))))))
 (some (.inl (IntKind.i64.wrap (v8 + (1 : Int))))))
 (some (.inl (IntKind.i64.wrap (v8 + (1 : Int)))))))
 (cond (decide (v8 > (0 : Int)))
 (cond (decide (v8 < (IntKind.i64.wrap ((x0.length : Int) - (1 : Int)))))
 ((idx x0 (0 : Int)).bind fun v20 => (idx x0 (IntKind.i64.wrap (v8 + (1 : Int)))).bind fun v21 => (i_turn v20 v9 v21).bind fun v22 => cond (decide (v22 ≤ (0 : Int)))
 (some (.inr (.inr false)))
 (some (.inl (IntKind.i64.wrap (v8 + (1 : Int))))))
 (some (.inl (IntKind.i64.wrap (v8 + (1 : Int))))))
 (some (.inl (IntKind.i64.wrap (v8 + (1 : Int))))))))
 (some (.inr (.inl ())))
noncomputable def i_IsPolygon (x0 : List (List Int)) : Option (Bool) :=
(i_within (x0.length : Int) (3 : Int) (12 : Int)).bind fun v1 => cond (!v1)
 (some false)
 ((iter (i_IsPolygon_s4 x0) (0 : Int)).bind fun v5 => match v5 with
 | .inl v6 => ((iter (i_IsPolygon_s11 x0) (0 : Int)).bind fun v23 => match v23 with
 | .inl v24 => (some true)
 | .inr v25 => (some v25))
 | .inr v7 => (some v7))
noncomputable def e_i_IsPolygon : CallE := ⟨53, [.d false (.list (.list (.int .i64)))], [.l (.d false .bool)], fun x => i_IsPolygon x⟩
noncomputable def c_i_IsPolygon : Ctx := ⟨Try.prog, TT, [e_i_within, e_i_isPoint, e_i_turn, e_g_slices_Compare], [⟨4, [(14, .l (.d false (.int .i64)))], some (0, []), some [(2, .l (.d false .bool))], false⟩, ⟨11, [(26, .l (.d false (.int .i64)))], some (2, []), some [(2, .l (.d false .bool))], false⟩], [], [], [], []⟩
theorem k_i_IsPolygon (x : PMs.den e_i_IsPolygon.ps) : funK c_i_IsPolygon Try.f53 e_i_IsPolygon.ps e_i_IsPolygon.rs x = e_i_IsPolygon.F x := by kernel_rfl
theorem o_i_IsPolygon : FnOk Try.prog e_i_IsPolygon.f ∧ Ctr Try.prog e_i_IsPolygon := mkCtr (C := c_i_IsPolygon) m_ (⟨o_i_within, o_i_isPoint, o_i_turn, o_g_slices_Compare, trivial⟩) Try.func53 (by kernel_rfl) k_i_IsPolygon
/-! loop.example/g00959/impl.IsVector -/
noncomputable def i_IsVector (x0 : List Int) : Option (Bool) :=
(i_within (x0.length : Int) (1 : Int) (3 : Int)).bind fun v1 => cond v1
 ((i_allWithin x0 (-1000 : Int) (1000 : Int)).bind fun v2 => some v2)
 (some false)
noncomputable def e_i_IsVector : CallE := ⟨54, [.d false (.list (.int .i64))], [.l (.d false .bool)], fun x => i_IsVector x⟩
noncomputable def c_i_IsVector : Ctx := ⟨Try.prog, TT, [e_i_within, e_i_allWithin], [], [], [], [], []⟩
theorem k_i_IsVector (x : PMs.den e_i_IsVector.ps) : funK c_i_IsVector Try.f54 e_i_IsVector.ps e_i_IsVector.rs x = e_i_IsVector.F x := by kernel_rfl
theorem o_i_IsVector : FnOk Try.prog e_i_IsVector.f ∧ Ctr Try.prog e_i_IsVector := mkCtr (C := c_i_IsVector) m_ (⟨o_i_within, o_i_allWithin, trivial⟩) Try.func54 (by kernel_rfl) k_i_IsVector
/-! loop.example/g00959/impl.dot -/
noncomputable def i_dot_s3 (x0 : List Int) (x1 : List Int) (v1 : Int × Int) : Option ((Int × Int) ⊕ (Int)) :=
 cond (decide (v1.2 < (x0.length : Int)))
 ((idx x0 v1.2).bind fun v2 => (idx x1 v1.2).bind fun v3 => some (.inl ((IntKind.i64.wrap (v1.1 + (IntKind.i64.wrap (v2 * v3)))), (IntKind.i64.wrap (v1.2 + (1 : Int))))))
 (some (.inr v1.1))
noncomputable def i_dot (x0 : List Int) (x1 : List Int) : Option (Int) :=
(iter (i_dot_s3 x0 x1) ((0 : Int), (0 : Int))).bind fun v4 => some v4
noncomputable def e_i_dot : CallE := ⟨65, [.d false (.list (.int .i64)), .d false (.list (.int .i64))], [.l (.d false (.int .i64))], fun x => i_dot x.1 x.2⟩
noncomputable def c_i_dot : Ctx := ⟨Try.prog, TT, [], [⟨3, [(5, .l (.d false (.int .i64))), (9, .l (.d false (.int .i64)))], some (0, [(5, .l (.d false (.int .i64)))]), none, false⟩], [], [], [], []⟩
theorem k_i_dot (x : PMs.den e_i_dot.ps) : funK c_i_dot Try.f65 e_i_dot.ps e_i_dot.rs x = e_i_dot.F x := by kernel_rfl
theorem o_i_dot : FnOk Try.prog e_i_dot.f ∧ Ctr Try.prog e_i_dot := mkCtr (C := c_i_dot) m_ (trivial) Try.func65 (by kernel_rfl) k_i_dot
/-! loop.example/g00959/impl.support -/
noncomputable def i_support_s3 (x0 : List (List Int)) (x1 : List Int) (v3 : Int × Int) : Option ((Int × Int) ⊕ (Int)) :=
 cond (decide (v3.2 < (x0.length : Int)))
 ((idx x0 v3.2).bind fun v4 => (i_dot x1 v4).bind fun v5 => some (.inl ((if v5 > v3.1 then v5 else v3.1), (IntKind.i64.wrap (v3.2 + (1 : Int))))))
 (some (.inr v3.1))
noncomputable def i_support (x0 : List (List Int)) (x1 : List Int) : Option (Int) :=
(idx x0 (0 : Int)).bind fun v1 => (i_dot x1 v1).bind fun v2 => (iter (i_support_s3 x0 x1) (v2, (0 : Int))).bind fun v6 => some v6
noncomputable def e_i_support : CallE := ⟨55, [.d false (.list (.list (.int .i64))), .d false (.list (.int .i64))], [.l (.d false (.int .i64))], fun x => i_support x.1 x.2⟩
noncomputable def c_i_support : Ctx := ⟨Try.prog, TT, [e_i_dot], [⟨3, [(5, .l (.d false (.int .i64))), (15, .l (.d false (.int .i64)))], some (0, [(5, .l (.d false (.int .i64)))]), none, false⟩], [], [], [], []⟩
theorem k_i_support (x : PMs.den e_i_support.ps) : funK c_i_support Try.f55 e_i_support.ps e_i_support.rs x = e_i_support.F x := by kernel_rfl
theorem o_i_support : FnOk Try.prog e_i_support.f ∧ Ctr Try.prog e_i_support := mkCtr (C := c_i_support) m_ (⟨o_i_dot, trivial⟩) Try.func55 (by kernel_rfl) k_i_support
/-! loop.example/g00959/impl.copyInts -/
noncomputable def i_copyInts (x0 : List Int) : Option (List Int) :=
(appD 8 ([] : List Int) x0).bind fun v1 => some v1
noncomputable def e_i_copyInts : CallE := ⟨104, [.d false (.list (.int .i64))], [.l (.o true 3 (.int .i64))], fun x => i_copyInts x⟩
noncomputable def c_i_copyInts : Ctx := ⟨Try.prog, TT, [], [], [], [], [], []⟩
theorem k_i_copyInts (x : PMs.den e_i_copyInts.ps) : funK c_i_copyInts Try.f104 e_i_copyInts.ps e_i_copyInts.rs x = e_i_copyInts.F x := by kernel_rfl
theorem o_i_copyInts : FnOk Try.prog e_i_copyInts.f ∧ Ctr Try.prog e_i_copyInts := mkCtr (C := c_i_copyInts) m_ (trivial) Try.func104 (by kernel_rfl) k_i_copyInts
/-! loop.example/g00959/impl.areaTwice -/
noncomputable def i_areaTwice_s3 (x0 : List (List Int)) (v1 : Int × Int) : Option ((Int × Int) ⊕ (Int)) :=
 cond (decide (v1.2 < (x0.length : Int)))
 ((idx x0 v1.2).bind fun v2 => (remI .i64 (IntKind.i64.wrap (v1.2 + (1 : Int))) (x0.length : Int)).bind fun v3 => (idx x0 v3).bind fun v4 => (i_cross v2 v4).bind fun v5 => some (.inl ((IntKind.i64.wrap (v1.1 + v5)), (IntKind.i64.wrap (v1.2 + (1 : Int))))))
 (some (.inr v1.1))
noncomputable def i_areaTwice (x0 : List (List Int)) : Option (Int) :=
(iter (i_areaTwice_s3 x0) ((0 : Int), (0 : Int))).bind fun v6 => some v6
noncomputable def e_i_areaTwice : CallE := ⟨121, [.d false (.list (.list (.int .i64)))], [.l (.d false (.int .i64))], fun x => i_areaTwice x⟩
noncomputable def c_i_areaTwice : Ctx := ⟨Try.prog, TT, [e_i_cross], [⟨3, [(3, .l (.d false (.int .i64))), (8, .l (.d false (.int .i64)))], some (0, [(3, .l (.d false (.int .i64)))]), none, false⟩], [], [], [], []⟩
theorem k_i_areaTwice (x : PMs.den e_i_areaTwice.ps) : funK c_i_areaTwice Try.f121 e_i_areaTwice.ps e_i_areaTwice.rs x = e_i_areaTwice.F x := by kernel_rfl
theorem o_i_areaTwice : FnOk Try.prog e_i_areaTwice.f ∧ Ctr Try.prog e_i_areaTwice := mkCtr (C := c_i_areaTwice) m_ (⟨o_i_cross, trivial⟩) Try.func121 (by kernel_rfl) k_i_areaTwice
/-! loop.example/g00959/impl.AreaTwice -/
noncomputable def i_AreaTwice (x0 : List (List Int)) : Option (Int) :=
(i_IsPolygon x0).bind fun v1 => cond (!v1)
 (some (-1 : Int))
 ((i_areaTwice x0).bind fun v2 => some v2)
noncomputable def e_i_AreaTwice : CallE := ⟨92, [.d false (.list (.list (.int .i64)))], [.l (.d false (.int .i64))], fun x => i_AreaTwice x⟩
noncomputable def c_i_AreaTwice : Ctx := ⟨Try.prog, TT, [e_i_IsPolygon, e_i_areaTwice], [], [], [], [], []⟩
theorem k_i_AreaTwice (x : PMs.den e_i_AreaTwice.ps) : funK c_i_AreaTwice Try.f92 e_i_AreaTwice.ps e_i_AreaTwice.rs x = e_i_AreaTwice.F x := by kernel_rfl
theorem o_i_AreaTwice : FnOk Try.prog e_i_AreaTwice.f ∧ Ctr Try.prog e_i_AreaTwice := mkCtr (C := c_i_AreaTwice) m_ (⟨o_i_IsPolygon, o_i_areaTwice, trivial⟩) Try.func92 (by kernel_rfl) k_i_AreaTwice
/-! loop.example/g00959/spec.l7SameList -/
noncomputable def s_l7SameList_s4 (x0 : List (List Int)) (x1 : List (List Int)) (v1 : Int) : Option ((Int) ⊕ ((Unit) ⊕ (Bool))) :=
 cond (decide (v1 < (x0.length : Int)))
 ((idx x0 v1).bind fun v2 => (idx x1 v1).bind fun v3 => (s_l2Same v2 v3).bind fun v4 => cond (!v4)
 (some (.inr (.inr false)))
 (some (.inl (IntKind.i64.wrap (v1 + (1 : Int))))))
 (some (.inr (.inl ())))
noncomputable def s_l7SameList (x0 : List (List Int)) (x1 : List (List Int)) : Option (Bool) :=
 cond ((x0.length : Int) != (x1.length : Int))
 (some false)
 ((iter (s_l7SameList_s4 x0 x1) (0 : Int)).bind fun v5 => match v5 with
 | .inl v6 => (some true)
 | .inr v7 => (some v7))
noncomputable def e_s_l7SameList : CallE := ⟨76, [.d false (.list (.list (.int .i64))), .d false (.list (.list (.int .i64)))], [.l (.d false .bool)], fun x => s_l7SameList x.1 x.2⟩
noncomputable def c_s_l7SameList : Ctx := ⟨Try.prog, TT, [e_s_l2Same], [⟨4, [(5, .l (.d false (.int .i64)))], some (0, []), some [(4, .l (.d false .bool))], false⟩], [], [], [], []⟩
theorem k_s_l7SameList (x : PMs.den e_s_l7SameList.ps) : funK c_s_l7SameList Try.f76 e_s_l7SameList.ps e_s_l7SameList.rs x = e_s_l7SameList.F x := by kernel_rfl
theorem o_s_l7SameList : FnOk Try.prog e_s_l7SameList.f ∧ Ctr Try.prog e_s_l7SameList := mkCtr (C := c_s_l7SameList) m_ (⟨o_s_l2Same, trivial⟩) Try.func76 (by kernel_rfl) k_s_l7SameList
/-! loop.example/g00959/spec.IsPolygon -/
noncomputable def s_IsPolygon (x0 : List (List Int)) : Option (Bool) :=
(s_l1In (x0.length : Int) (3 : Int) (12 : Int)).bind fun v1 => cond (!v1)
 (some false)
 ((s_l7Flat x0).bind fun v2 => cond (!v2)
 (some false)
 ((s_HullOf x0).bind fun v3 => cond v3.2
 ((s_l7SameList v3.1 x0).bind fun v4 => some v4)
 (some false)))
noncomputable def e_s_IsPolygon : CallE := ⟨23, [.d false (.list (.list (.int .i64)))], [.l (.d false .bool)], fun x => s_IsPolygon x⟩
noncomputable def c_s_IsPolygon : Ctx := ⟨Try.prog, TT, [e_s_l1In, e_s_l7Flat, e_s_HullOf, e_s_l7SameList], [], [], [], [], []⟩
theorem k_s_IsPolygon (x : PMs.den e_s_IsPolygon.ps) : funK c_s_IsPolygon Try.f23 e_s_IsPolygon.ps e_s_IsPolygon.rs x = e_s_IsPolygon.F x := by kernel_rfl
theorem o_s_IsPolygon : FnOk Try.prog e_s_IsPolygon.f ∧ Ctr Try.prog e_s_IsPolygon := mkCtr (C := c_s_IsPolygon) m_ (⟨o_s_l1In, o_s_l7Flat, o_s_HullOf, o_s_l7SameList, trivial⟩) Try.func23 (by kernel_rfl) k_s_IsPolygon
/-! loop.example/g00959/spec.IsVector -/
noncomputable def s_IsVector (x0 : List Int) : Option (Bool) :=
(s_l1In (x0.length : Int) (1 : Int) (3 : Int)).bind fun v1 => cond v1
 ((s_l2Small x0 (1000 : Int)).bind fun v2 => some v2)
 (some false)
noncomputable def e_s_IsVector : CallE := ⟨93, [.d false (.list (.int .i64))], [.l (.d false .bool)], fun x => s_IsVector x⟩
noncomputable def c_s_IsVector : Ctx := ⟨Try.prog, TT, [e_s_l1In, e_s_l2Small], [], [], [], [], []⟩
theorem k_s_IsVector (x : PMs.den e_s_IsVector.ps) : funK c_s_IsVector Try.f93 e_s_IsVector.ps e_s_IsVector.rs x = e_s_IsVector.F x := by kernel_rfl
theorem o_s_IsVector : FnOk Try.prog e_s_IsVector.f ∧ Ctr Try.prog e_s_IsVector := mkCtr (C := c_s_IsVector) m_ (⟨o_s_l1In, o_s_l2Small, trivial⟩) Try.func93 (by kernel_rfl) k_s_IsVector
/-! loop.example/g00959/spec.l2Dot -/
noncomputable def s_l2Dot_s3 (x0 : List Int) (x1 : List Int) (v1 : Int × Int) : Option ((Int × Int) ⊕ (Int)) :=
 cond (decide (v1.2 < (x0.length : Int)))
 (cond (decide (v1.2 < (x1.length : Int)))
 ((idx x0 v1.2).bind fun v2 => (idx x1 v1.2).bind fun v3 => some (.inl ((IntKind.i64.wrap (v1.1 + (IntKind.i64.wrap (v2 * v3)))), (IntKind.i64.wrap (v1.2 + (1 : Int))))))
 (some (.inr v1.1)))
 (some (.inr v1.1))
noncomputable def s_l2Dot (x0 : List Int) (x1 : List Int) : Option (Int) :=
(iter (s_l2Dot_s3 x0 x1) ((0 : Int), (0 : Int))).bind fun v4 => some v4
noncomputable def e_s_l2Dot : CallE := ⟨72, [.d false (.list (.int .i64)), .d false (.list (.int .i64))], [.l (.d false (.int .i64))], fun x => s_l2Dot x.1 x.2⟩
noncomputable def c_s_l2Dot : Ctx := ⟨Try.prog, TT, [], [⟨3, [(5, .l (.d false (.int .i64))), (6, .l (.d false (.int .i64)))], some (0, [(5, .l (.d false (.int .i64)))]), none, false⟩], [], [], [], []⟩
theorem k_s_l2Dot (x : PMs.den e_s_l2Dot.ps) : funK c_s_l2Dot Try.f72 e_s_l2Dot.ps e_s_l2Dot.rs x = e_s_l2Dot.F x := by kernel_rfl
theorem o_s_l2Dot : FnOk Try.prog e_s_l2Dot.f ∧ Ctr Try.prog e_s_l2Dot := mkCtr (C := c_s_l2Dot) m_ (trivial) Try.func72 (by kernel_rfl) k_s_l2Dot
/-! loop.example/g00959/spec.l1Max -/
noncomputable def s_l1Max (x0 : Int) (x1 : Int) : Option (Int) :=
 cond (decide (x0 > x1))
 (some x0)
 (some x1)
noncomputable def e_s_l1Max : CallE := ⟨94, [.d false (.int .i64), .d false (.int .i64)], [.l (.d false (.int .i64))], fun x => s_l1Max x.1 x.2⟩
noncomputable def c_s_l1Max : Ctx := ⟨Try.prog, TT, [], [], [], [], [], []⟩
theorem k_s_l1Max (x : PMs.den e_s_l1Max.ps) : funK c_s_l1Max Try.f94 e_s_l1Max.ps e_s_l1Max.rs x = e_s_l1Max.F x := by kernel_rfl
theorem o_s_l1Max : FnOk Try.prog e_s_l1Max.f ∧ Ctr Try.prog e_s_l1Max := mkCtr (C := c_s_l1Max) m_ (trivial) Try.func94 (by kernel_rfl) k_s_l1Max
/-! loop.example/g00959/spec.SupportAt -/
noncomputable def s_SupportAt_s5 (x0 : List (List Int)) (x1 : List Int) (v5 : Int × Int) : Option ((Int × Int) ⊕ (Int)) :=
 cond (decide (v5.2 < (x0.length : Int)))
 ((idx x0 v5.2).bind fun v6 => (s_l2Dot x1 v6).bind fun v7 => (s_l1Max v5.1 v7).bind fun v8 => some (.inl (v8, (IntKind.i64.wrap (v5.2 + (1 : Int))))))
 (some (.inr v5.1))
noncomputable def s_SupportAt (x0 : List (List Int)) (x1 : List Int) : Option (Int × Bool) :=
(s_IsPolygon x0).bind fun v1 => cond (!v1)
 (some ((0 : Int), false))
 ((s_IsVector x1).bind fun v2 => cond (!v2)
 (some ((0 : Int), false))
 (cond ((x1.length : Int) != (2 : Int))
 (some ((0 : Int), false))
 ((idx x0 (0 : Int)).bind fun v3 => (s_l2Dot x1 v3).bind fun v4 => (iter (s_SupportAt_s5 x0 x1) (v4, (1 : Int))).bind fun v9 => some (v9, true))))
noncomputable def e_s_SupportAt : CallE := ⟨45, [.d false (.list (.list (.int .i64))), .d false (.list (.int .i64))], [.l (.d false (.int .i64)), .l (.d false .bool)], fun x => s_SupportAt x.1 x.2⟩
noncomputable def c_s_SupportAt : Ctx := ⟨Try.prog, TT, [e_s_IsPolygon, e_s_IsVector, e_s_l2Dot, e_s_l1Max], [⟨5, [(6, .l (.d false (.int .i64))), (7, .l (.d false (.int .i64)))], some (0, [(6, .l (.d false (.int .i64)))]), none, false⟩], [], [], [], []⟩
theorem k_s_SupportAt (x : PMs.den e_s_SupportAt.ps) : funK c_s_SupportAt Try.f45 e_s_SupportAt.ps e_s_SupportAt.rs x = e_s_SupportAt.F x := by kernel_rfl
theorem o_s_SupportAt : FnOk Try.prog e_s_SupportAt.f ∧ Ctr Try.prog e_s_SupportAt := mkCtr (C := c_s_SupportAt) m_ (⟨o_s_IsPolygon, o_s_IsVector, o_s_l2Dot, o_s_l1Max, trivial⟩) Try.func45 (by kernel_rfl) k_s_SupportAt
/-! loop.example/g00959/spec.l2Scale -/
noncomputable def s_l2Scale_s3 (x0 : List Int) (x1 : Int) (v1 : List Int × Int) : Option ((List Int × Int) ⊕ (List Int)) :=
 cond (decide (v1.2 < (x0.length : Int)))
 ((idx x0 v1.2).bind fun v2 => (appD 8 v1.1 ([(IntKind.i64.wrap (v2 * x1))] : List Int)).bind fun v3 => some (.inl (v3, (IntKind.i64.wrap (v1.2 + (1 : Int))))))
 (some (.inr v1.1))
noncomputable def s_l2Scale (x0 : List Int) (x1 : Int) : Option (List Int) :=
(iter (s_l2Scale_s3 x0 x1) (([] : List Int), (0 : Int))).bind fun v4 => some v4
noncomputable def e_s_l2Scale : CallE := ⟨66, [.d false (.list (.int .i64)), .d false (.int .i64)], [.l (.o true 3 (.int .i64))], fun x => s_l2Scale x.1 x.2⟩
noncomputable def c_s_l2Scale : Ctx := ⟨Try.prog, TT, [], [⟨3, [(5, .l (.o true 3 (.int .i64))), (6, .l (.d false (.int .i64)))], some (0, [(5, .l (.o true 3 (.int .i64)))]), none, false⟩], [], [], [], []⟩
theorem k_s_l2Scale (x : PMs.den e_s_l2Scale.ps) : funK c_s_l2Scale Try.f66 e_s_l2Scale.ps e_s_l2Scale.rs x = e_s_l2Scale.F x := by kernel_rfl
theorem o_s_l2Scale : FnOk Try.prog e_s_l2Scale.f ∧ Ctr Try.prog e_s_l2Scale := mkCtr (C := c_s_l2Scale) m_ (trivial) Try.func66 (by kernel_rfl) k_s_l2Scale
/-! loop.example/g00959/laws.sameInts -/
noncomputable def w_sameInts_s4 (x0 : List Int) (x1 : List Int) (v1 : Int) : Option ((Int) ⊕ ((Unit) ⊕ (Bool))) :=
 cond (decide (v1 < (x0.length : Int)))
 ((idx x0 v1).bind fun v2 => (idx x1 v1).bind fun v3 => cond (v2 != v3)
 (some (.inr (.inr false)))
 (some (.inl (IntKind.i64.wrap (v1 + (1 : Int))))))
 (some (.inr (.inl ())))
noncomputable def w_sameInts (x0 : List Int) (x1 : List Int) : Option (Bool) :=
 cond ((x0.length : Int) != (x1.length : Int))
 (some false)
 ((iter (w_sameInts_s4 x0 x1) (0 : Int)).bind fun v4 => match v4 with
 | .inl v5 => (some true)
 | .inr v6 => (some v6))
noncomputable def e_w_sameInts : CallE := ⟨18, [.d false (.list (.int .i64)), .d false (.list (.int .i64))], [.l (.d false .bool)], fun x => w_sameInts x.1 x.2⟩
noncomputable def c_w_sameInts : Ctx := ⟨Try.prog, TT, [], [⟨4, [(5, .l (.d false (.int .i64)))], some (0, []), some [(4, .l (.d false .bool))], false⟩], [], [], [], []⟩
theorem k_w_sameInts (x : PMs.den e_w_sameInts.ps) : funK c_w_sameInts Try.f18 e_w_sameInts.ps e_w_sameInts.rs x = e_w_sameInts.F x := by kernel_rfl
theorem o_w_sameInts : FnOk Try.prog e_w_sameInts.f ∧ Ctr Try.prog e_w_sameInts := mkCtr (C := c_w_sameInts) m_ (trivial) Try.func18 (by kernel_rfl) k_w_sameInts
/-! loop.example/g00959/laws.sameLists -/
noncomputable def w_sameLists_s4 (x0 : List (List Int)) (x1 : List (List Int)) (v1 : Int) : Option ((Int) ⊕ ((Unit) ⊕ (Bool))) :=
 cond (decide (v1 < (x0.length : Int)))
 ((idx x0 v1).bind fun v2 => (idx x1 v1).bind fun v3 => (w_sameInts v2 v3).bind fun v4 => cond (!v4)
 (some (.inr (.inr false)))
 (some (.inl (IntKind.i64.wrap (v1 + (1 : Int))))))
 (some (.inr (.inl ())))
noncomputable def w_sameLists (x0 : List (List Int)) (x1 : List (List Int)) : Option (Bool) :=
 cond ((x0.length : Int) != (x1.length : Int))
 (some false)
 ((iter (w_sameLists_s4 x0 x1) (0 : Int)).bind fun v5 => match v5 with
 | .inl v6 => (some true)
 | .inr v7 => (some v7))
noncomputable def e_w_sameLists : CallE := ⟨15, [.d false (.list (.list (.int .i64))), .d false (.list (.list (.int .i64)))], [.l (.d false .bool)], fun x => w_sameLists x.1 x.2⟩
noncomputable def c_w_sameLists : Ctx := ⟨Try.prog, TT, [e_w_sameInts], [⟨4, [(5, .l (.d false (.int .i64)))], some (0, []), some [(4, .l (.d false .bool))], false⟩], [], [], [], []⟩
theorem k_w_sameLists (x : PMs.den e_w_sameLists.ps) : funK c_w_sameLists Try.f15 e_w_sameLists.ps e_w_sameLists.rs x = e_w_sameLists.F x := by kernel_rfl
theorem o_w_sameLists : FnOk Try.prog e_w_sameLists.f ∧ Ctr Try.prog e_w_sameLists := mkCtr (C := c_w_sameLists) m_ (⟨o_w_sameInts, trivial⟩) Try.func15 (by kernel_rfl) k_w_sameLists
/-! loop.example/g00959/spec.l7Area -/
noncomputable def s_l7Area_s3 (x0 : List (List Int)) (v1 : Int × Int) : Option ((Int × Int) ⊕ (Int)) :=
 cond (decide (v1.2 < (x0.length : Int)))
 ((idx x0 v1.2).bind fun v2 => (remI .i64 (IntKind.i64.wrap (v1.2 + (1 : Int))) (x0.length : Int)).bind fun v3 => (idx x0 v3).bind fun v4 => (s_l7Cross v2 v4).bind fun v5 => some (.inl ((IntKind.i64.wrap (v1.1 + v5)), (IntKind.i64.wrap (v1.2 + (1 : Int))))))
 (some (.inr v1.1))
noncomputable def s_l7Area (x0 : List (List Int)) : Option (Int) :=
(iter (s_l7Area_s3 x0) ((0 : Int), (0 : Int))).bind fun v6 => some v6
noncomputable def e_s_l7Area : CallE := ⟨68, [.d false (.list (.list (.int .i64)))], [.l (.d false (.int .i64))], fun x => s_l7Area x⟩
noncomputable def c_s_l7Area : Ctx := ⟨Try.prog, TT, [e_s_l7Cross], [⟨3, [(3, .l (.d false (.int .i64))), (4, .l (.d false (.int .i64)))], some (0, [(3, .l (.d false (.int .i64)))]), none, false⟩], [], [], [], []⟩
theorem k_s_l7Area (x : PMs.den e_s_l7Area.ps) : funK c_s_l7Area Try.f68 e_s_l7Area.ps e_s_l7Area.rs x = e_s_l7Area.F x := by kernel_rfl
theorem o_s_l7Area : FnOk Try.prog e_s_l7Area.f ∧ Ctr Try.prog e_s_l7Area := mkCtr (C := c_s_l7Area) m_ (⟨o_s_l7Cross, trivial⟩) Try.func68 (by kernel_rfl) k_s_l7Area
/-! loop.example/g00959/impl.copyPoints -/
noncomputable def i_copyPoints_s3 (x0 : List (List Int)) (v1 : List (List Int) × Int) : Option ((List (List Int) × Int) ⊕ (List (List Int))) :=
 cond (decide (v1.2 < (x0.length : Int)))
 ((idx x0 v1.2).bind fun v2 => (i_copyInts v2).bind fun v3 => (appD 24 v1.1 ([v3] : List (List Int))).bind fun v4 => some (.inl (v4, (IntKind.i64.wrap (v1.2 + (1 : Int))))))
 (some (.inr v1.1))
noncomputable def i_copyPoints (x0 : List (List Int)) : Option (List (List Int)) :=
(iter (i_copyPoints_s3 x0) (([] : List (List Int)), (0 : Int))).bind fun v5 => some v5
noncomputable def e_i_copyPoints : CallE := ⟨113, [.d false (.list (.list (.int .i64)))], [.l (.o true 25 (.list (.int .i64)))], fun x => i_copyPoints x⟩
noncomputable def c_i_copyPoints : Ctx := ⟨Try.prog, TT, [e_i_copyInts], [⟨3, [(3, .l (.o true 25 (.list (.int .i64)))), (8, .l (.d false (.int .i64)))], some (0, [(3, .l (.o true 25 (.list (.int .i64))))]), none, false⟩], [], [], [], []⟩
theorem k_i_copyPoints (x : PMs.den e_i_copyPoints.ps) : funK c_i_copyPoints Try.f113 e_i_copyPoints.ps e_i_copyPoints.rs x = e_i_copyPoints.F x := by kernel_rfl
theorem o_i_copyPoints : FnOk Try.prog e_i_copyPoints.f ∧ Ctr Try.prog e_i_copyPoints := mkCtr (C := c_i_copyPoints) m_ (⟨o_i_copyInts, trivial⟩) Try.func113 (by kernel_rfl) k_i_copyPoints
/-! slices.SortFunc[[][]int,[]int] -/
noncomputable def g_slices_SortFunc (x0 : List (List Int)) : Option (Unit × ((List (List Int)) × Unit)) := sortF (fun a b => g_slices_Compare a b) x0
noncomputable def e_g_slices_SortFunc : CallE := ⟨114, [.io true 25 (.list (.int .i64)), .f 100], [], fun x => g_slices_SortFunc x.1⟩
theorem o_g_slices_SortFunc : FnOk Try.prog e_g_slices_SortFunc.f ∧ Ctr Try.prog e_g_slices_SortFunc := ⟨⟨Try.f114, _, Try.func114, by kernel_rfl, rfl⟩, sort_ctr laySort rfl o_g_slices_Compare.1 o_g_slices_Compare.2⟩
/-! slices.Reverse[[][]int,[]int] -/
noncomputable def g_slices_Reverse (x0 : List (List Int)) : Option (Unit × ((List (List Int)) × Unit)) := some ((), (x0.reverse, ()))
noncomputable def e_g_slices_Reverse : CallE := ⟨115, [.io true 25 (.list (.int .i64))], [], fun x => g_slices_Reverse x⟩
theorem o_g_slices_Reverse : FnOk Try.prog e_g_slices_Reverse.f ∧ Ctr Try.prog e_g_slices_Reverse := ⟨⟨Try.f115, _, Try.func115, by kernel_rfl, rfl⟩, rev_ctr layRev rfl⟩
/-! loop.example/g00959/impl.HullOf -/
noncomputable def i_HullOf_s4 (x0 : List (List Int)) (v1 : Int) : Option ((Int) ⊕ ((Unit) ⊕ (List (List Int) × Bool))) :=
 cond (decide (v1 < (x0.length : Int)))
 ((idx x0 v1).bind fun v2 => (i_isPoint v2 (50 : Int)).bind fun v3 => cond (!v3)
 (some (.inr (.inr (([] : List (List Int)), false))))
 (some (.inl (IntKind.i64.wrap (v1 + (1 : Int))))))
 (some (.inr (.inl ())))
noncomputable def i_HullOf_s19 (v9 : List (List Int) × List (List Int) × Int) (v11 : List Int) (v12 : List (List Int)) : Option ((List (List Int)) ⊕ (List (List Int))) :=
 cond (decide ((v12.length : Int) ≥ (IntKind.i64.wrap ((v9.2.1.length : Int) + (2 : Int)))))
 ((inIdx v12.length (IntKind.i64.wrap ((v12.length : Int) - (2 : Int)))).bind fun _ => (idx v12 (((IntKind.i64.wrap ((v12.length : Int) - (2 : Int)))).toNat : Int)).bind fun v13 => (inIdx v12.length (IntKind.i64.wrap ((v12.length : Int) - (1 : Int)))).bind fun _ => (idx v12 (((IntKind.i64.wrap ((v12.length : Int) - (1 : Int)))).toNat : Int)).bind fun v14 => (i_turn v13 v14 v11).bind fun v15 => cond (decide (v15 ≤ (0 : Int)))
 ((subl v12 0 (IntKind.i64.wrap ((v12.length : Int) - (1 : Int)))).bind fun v16 => some (.inl v16))
 (some (.inr v12)))
 (some (.inr v12))
noncomputable def i_HullOf_s17 (v9 : List (List Int) × List (List Int) × Int) (v10 : List (List Int) × Int) : Option ((List (List Int) × Int) ⊕ (List (List Int))) :=
 cond (decide (v10.2 < (v9.1.length : Int)))
 ((idx v9.1 v10.2).bind fun v11 => (iter (i_HullOf_s19 v9 v11) v10.1).bind fun v17 => (i_copyInts v11).bind fun v18 => (appD 24 v17 ([v18] : List (List Int))).bind fun v19 => some (.inl (v19, (IntKind.i64.wrap (v10.2 + (1 : Int))))))
 (some (.inr v10.1))
noncomputable def i_HullOf_s13 (v9 : List (List Int) × List (List Int) × Int) : Option ((List (List Int) × List (List Int) × Int) ⊕ (List (List Int))) :=
 cond (decide (v9.2.2 < (2 : Int)))
 ((iter (i_HullOf_s17 v9) (v9.2.1, (0 : Int))).bind fun v20 => (subl v20 0 (if (IntKind.i64.wrap ((v20.length : Int) - (1 : Int))) > (0 : Int) then (IntKind.i64.wrap ((v20.length : Int) - (1 : Int))) else (0 : Int))).bind fun v21 => (g_slices_Reverse v9.1).bind fun v22 => some (.inl (v22.2.1, (v21, (IntKind.i64.wrap (v9.2.2 + (1 : Int)))))))
 (some (.inr v9.2.1))
noncomputable def i_HullOf (x0 : List (List Int)) : Option (List (List Int) × Bool) :=
 cond (decide ((x0.length : Int) > (200 : Int)))
 (some (([] : List (List Int)), false))
 ((iter (i_HullOf_s4 x0) (0 : Int)).bind fun v4 => match v4 with
 | .inl v5 => ((i_copyPoints x0).bind fun v7 => (g_slices_SortFunc v7).bind fun v8 => (iter (i_HullOf_s13) (v8.2.1, (([] : List (List Int)), (0 : Int)))).bind fun v23 => (i_IsPolygon v23).bind fun v24 => cond (!v24)
 (some (([] : List (List Int)), false))
 (some (v23, true)))
 | .inr v6 => (some (v6.1, v6.2)))
noncomputable def e_i_HullOf : CallE := ⟨80, [.d false (.list (.list (.int .i64)))], [.l (.o true 25 (.list (.int .i64))), .l (.d false .bool)], fun x => i_HullOf x⟩
noncomputable def c_i_HullOf : Ctx := ⟨Try.prog, TT, [e_i_isPoint, e_i_copyPoints, e_g_slices_SortFunc, e_i_turn, e_i_copyInts, e_g_slices_Reverse, e_i_IsPolygon], [⟨4, [(17, .l (.d false (.int .i64)))], some (0, []), some [(2, .l (.o true 25 (.list (.int .i64)))), (3, .l (.d false .bool))], false⟩, ⟨13, [(6, .l (.o true 25 (.list (.int .i64)))), (7, .l (.o true 25 (.list (.int .i64)))), (8, .l (.d false (.int .i64)))], some (2, [(7, .l (.o true 25 (.list (.int .i64))))]), none, false⟩, ⟨17, [(7, .l (.o true 25 (.list (.int .i64)))), (37, .l (.d false (.int .i64)))], some (4, [(7, .l (.o true 25 (.list (.int .i64))))]), none, true⟩, ⟨19, [(7, .l (.o true 25 (.list (.int .i64))))], some (6, [(7, .l (.o true 25 (.list (.int .i64))))]), none, false⟩], [], [], [], []⟩
theorem k_i_HullOf (x : PMs.den e_i_HullOf.ps) : funK c_i_HullOf Try.f80 e_i_HullOf.ps e_i_HullOf.rs x = e_i_HullOf.F x := by kernel_rfl
theorem o_i_HullOf : FnOk Try.prog e_i_HullOf.f ∧ Ctr Try.prog e_i_HullOf := mkCtr (C := c_i_HullOf) m_ (⟨o_i_isPoint, o_i_copyPoints, o_g_slices_SortFunc, o_i_turn, o_i_copyInts, o_g_slices_Reverse, o_i_IsPolygon, trivial⟩) Try.func80 (by kernel_rfl) k_i_HullOf
/-! loop.example/g00959/spec.l2Add -/
noncomputable def s_l2Add_s3 (x0 : List Int) (x1 : List Int) (v1 : List Int × Int) : Option ((List Int × Int) ⊕ (List Int)) :=
 cond (decide (v1.2 < (x0.length : Int)))
 ((idx x0 v1.2).bind fun v2 => (idx x1 v1.2).bind fun v3 => (appD 8 v1.1 ([(IntKind.i64.wrap (v2 + v3))] : List Int)).bind fun v4 => some (.inl (v4, (IntKind.i64.wrap (v1.2 + (1 : Int))))))
 (some (.inr v1.1))
noncomputable def s_l2Add (x0 : List Int) (x1 : List Int) : Option (List Int) :=
(iter (s_l2Add_s3 x0 x1) (([] : List Int), (0 : Int))).bind fun v5 => some v5
noncomputable def e_s_l2Add : CallE := ⟨81, [.d false (.list (.int .i64)), .d false (.list (.int .i64))], [.l (.o true 3 (.int .i64))], fun x => s_l2Add x.1 x.2⟩
noncomputable def c_s_l2Add : Ctx := ⟨Try.prog, TT, [], [⟨3, [(5, .l (.o true 3 (.int .i64))), (6, .l (.d false (.int .i64)))], some (0, [(5, .l (.o true 3 (.int .i64)))]), none, false⟩], [], [], [], []⟩
theorem k_s_l2Add (x : PMs.den e_s_l2Add.ps) : funK c_s_l2Add Try.f81 e_s_l2Add.ps e_s_l2Add.rs x = e_s_l2Add.F x := by kernel_rfl
theorem o_s_l2Add : FnOk Try.prog e_s_l2Add.f ∧ Ctr Try.prog e_s_l2Add := mkCtr (C := c_s_l2Add) m_ (trivial) Try.func81 (by kernel_rfl) k_s_l2Add
/-! loop.example/g00959/spec.AreaTwice -/
noncomputable def s_AreaTwice (x0 : List (List Int)) : Option (Int) :=
(s_IsPolygon x0).bind fun v1 => cond (!v1)
 (some (-1 : Int))
 ((s_l7Area x0).bind fun v2 => some v2)
noncomputable def e_s_AreaTwice : CallE := ⟨36, [.d false (.list (.list (.int .i64)))], [.l (.d false (.int .i64))], fun x => s_AreaTwice x⟩
noncomputable def c_s_AreaTwice : Ctx := ⟨Try.prog, TT, [e_s_IsPolygon, e_s_l7Area], [], [], [], [], []⟩
theorem k_s_AreaTwice (x : PMs.den e_s_AreaTwice.ps) : funK c_s_AreaTwice Try.f36 e_s_AreaTwice.ps e_s_AreaTwice.rs x = e_s_AreaTwice.F x := by kernel_rfl
theorem o_s_AreaTwice : FnOk Try.prog e_s_AreaTwice.f ∧ Ctr Try.prog e_s_AreaTwice := mkCtr (C := c_s_AreaTwice) m_ (⟨o_s_IsPolygon, o_s_l7Area, trivial⟩) Try.func36 (by kernel_rfl) k_s_AreaTwice
/-! loop.example/g00959/spec.MirrorPolygon -/
noncomputable def s_MirrorPolygon_s5 (x0 : List (List Int)) (v2 : List (List Int) × Int) : Option ((List (List Int) × Int) ⊕ (List (List Int))) :=
 cond (decide (v2.2 < (x0.length : Int)))
 ((idx x0 v2.2).bind fun v3 => (s_l2Scale v3 (-1 : Int)).bind fun v4 => (appD 24 v2.1 ([v4] : List (List Int))).bind fun v5 => some (.inl (v5, (IntKind.i64.wrap (v2.2 + (1 : Int))))))
 (some (.inr v2.1))
noncomputable def s_MirrorPolygon (x0 : List (List Int)) : Option (List (List Int) × Bool) :=
(s_IsPolygon x0).bind fun v1 => cond (!v1)
 (some (([] : List (List Int)), false))
 ((iter (s_MirrorPolygon_s5 x0) (([] : List (List Int)), (0 : Int))).bind fun v6 => (s_HullOf v6).bind fun v7 => some (v7.1, v7.2))
noncomputable def e_s_MirrorPolygon : CallE := ⟨48, [.d false (.list (.list (.int .i64)))], [.l (.o true 25 (.list (.int .i64))), .l (.d false .bool)], fun x => s_MirrorPolygon x⟩
noncomputable def c_s_MirrorPolygon : Ctx := ⟨Try.prog, TT, [e_s_IsPolygon, e_s_l2Scale, e_s_HullOf], [⟨5, [(4, .l (.o true 25 (.list (.int .i64)))), (5, .l (.d false (.int .i64)))], some (0, [(4, .l (.o true 25 (.list (.int .i64))))]), none, false⟩], [], [], [], []⟩
theorem k_s_MirrorPolygon (x : PMs.den e_s_MirrorPolygon.ps) : funK c_s_MirrorPolygon Try.f48 e_s_MirrorPolygon.ps e_s_MirrorPolygon.rs x = e_s_MirrorPolygon.F x := by kernel_rfl
theorem o_s_MirrorPolygon : FnOk Try.prog e_s_MirrorPolygon.f ∧ Ctr Try.prog e_s_MirrorPolygon := mkCtr (C := c_s_MirrorPolygon) m_ (⟨o_s_IsPolygon, o_s_l2Scale, o_s_HullOf, trivial⟩) Try.func48 (by kernel_rfl) k_s_MirrorPolygon
/-! loop.example/g00959/spec.IsSymmetricPolygon -/
noncomputable def s_IsSymmetricPolygon_s6 (x0 : List (List Int)) (v1 : List (List Int) × Bool) (v4 : List Int) (v5 : Int) : Option ((Int) ⊕ ((Unit) ⊕ (Bool))) :=
 cond (decide (v5 < (x0.length : Int)))
 ((idx v1.1 v5).bind fun v6 => (s_l2Add v6 v4).bind fun v7 => (idx x0 v5).bind fun v8 => (s_l2Same v7 v8).bind fun v9 => cond (!v9)
 (some (.inr (.inr false)))
 (some (.inl (IntKind.i64.wrap (v5 + (1 : Int))))))
 (some (.inr (.inl ())))
noncomputable def s_IsSymmetricPolygon (x0 : List (List Int)) : Option (Bool) :=
(s_MirrorPolygon x0).bind fun v1 => cond (!v1.2)
 (some false)
 ((idx x0 (0 : Int)).bind fun v2 => (inIdx v1.1.length (0 : Int)).bind fun _ => (idx v1.1 (((0 : Int)).toNat : Int)).bind fun v3 => (s_l2Less v2 v3).bind fun v4 => (iter (s_IsSymmetricPolygon_s6 x0 v1 v4) (0 : Int)).bind fun v10 => match v10 with
 | .inl v11 => (some true)
 | .inr v12 => (some v12))
noncomputable def e_s_IsSymmetricPolygon : CallE := ⟨38, [.d false (.list (.list (.int .i64)))], [.l (.d false .bool)], fun x => s_IsSymmetricPolygon x⟩
noncomputable def c_s_IsSymmetricPolygon : Ctx := ⟨Try.prog, TT, [e_s_MirrorPolygon, e_s_l2Less, e_s_l2Add, e_s_l2Same], [⟨6, [(6, .l (.d false (.int .i64)))], some (0, []), some [(2, .l (.d false .bool))], false⟩], [], [], [], []⟩
theorem k_s_IsSymmetricPolygon (x : PMs.den e_s_IsSymmetricPolygon.ps) : funK c_s_IsSymmetricPolygon Try.f38 e_s_IsSymmetricPolygon.ps e_s_IsSymmetricPolygon.rs x = e_s_IsSymmetricPolygon.F x := by kernel_rfl
theorem o_s_IsSymmetricPolygon : FnOk Try.prog e_s_IsSymmetricPolygon.f ∧ Ctr Try.prog e_s_IsSymmetricPolygon := mkCtr (C := c_s_IsSymmetricPolygon) m_ (⟨o_s_MirrorPolygon, o_s_l2Less, o_s_l2Add, o_s_l2Same, trivial⟩) Try.func38 (by kernel_rfl) k_s_IsSymmetricPolygon
/-! loop.example/g00959/spec.l7Draw -/
noncomputable def s_l7Draw_1_s7 (x1 : Int) (v2 : (Int) × ((List Int) × Int × Int) × Unit) (v3 : (List Int × Int × Int) × List (List Int) × Int) : Option (((List Int × Int × Int) × List (List Int) × Int) ⊕ ((List Int × Int × Int) × List (List Int))) :=
 cond (decide (v3.2.2 < (IntKind.i64.wrap ((3 : Int) + v2.1))))
 ((s_l2Draw (v3.1.1, (v3.1.2.1, v3.1.2.2)) (2 : Int) x1).bind fun v4 => (appD 24 v3.2.1 ([v4.1] : List (List Int))).bind fun v5 => some (.inl ((v4.2.1.1, (v4.2.1.2.1, v4.2.1.2.2)), (v5, (IntKind.i64.wrap (v3.2.2 + (1 : Int)))))))
 (some (.inr ((v3.1.1, (v3.1.2.1, v3.1.2.2)), v3.2.1)))
noncomputable def s_l7Draw_1_s2 (x1 : Int) (v1 : (List Int × Int × Int) × Int) : Option (((List Int × Int × Int) × Int) ⊕ ((List Int × Int × Int) ⊕ ((List Int × Int × Int) × List (List Int)))) :=
 cond (decide (v1.2 < (6 : Int)))
 ((s_l1Below (v1.1.1, (v1.1.2.1, v1.1.2.2)) (4 : Int)).bind fun v2 => (iter (s_l7Draw_1_s7 x1 v2) ((v2.2.1.1, (v2.2.1.2.1, v2.2.1.2.2)), (([] : List (List Int)), (0 : Int)))).bind fun v6 => (s_HullOf v6.2).bind fun v7 => cond v7.2
 (some (.inr (.inr ((v6.1.1, (v6.1.2.1, v6.1.2.2)), v7.1))))
 (some (.inl ((v6.1.1, (v6.1.2.1, v6.1.2.2)), (IntKind.i64.wrap (v1.2 + (1 : Int)))))))
 (some (.inr (.inl (v1.1.1, (v1.1.2.1, v1.1.2.2)))))
noncomputable def s_l7Draw_1 (x0 : (List Int) × Int × Int) (x1 : Int) : Option ((List (List Int)) × ((List Int) × Int × Int) × Unit) :=
(iter (s_l7Draw_1_s2 x1) ((x0.1, (x0.2.1, x0.2.2)), (0 : Int))).bind fun v8 => match v8 with
 | .inl v9 => (some (([([(0 : Int), (0 : Int)] : List Int), ([(2 : Int), (0 : Int)] : List Int), ([(0 : Int), (1 : Int)] : List Int)] : List (List Int)), ((v9.1, (v9.2.1, v9.2.2)), ())))
 | .inr v10 => (some (v10.2, ((v10.1.1, (v10.1.2.1, v10.1.2.2)), ())))
noncomputable def e_s_l7Draw_1 : CallE := ⟨96, [.cur 73, .d false (.int .i64)], [.l (.o true 25 (.list (.int .i64)))], fun x => s_l7Draw_1 x.1 x.2⟩
noncomputable def c_s_l7Draw_1 : Ctx := ⟨Try.prog, TT, [e_s_l1Below, e_s_l2Draw, e_s_HullOf], [⟨2, [(0, .b 73 [(.d false (.list (.int .u8))), (.d false (.int .i64)), (.d false (.int .i64))]), (5, .l (.d false (.int .i64)))], some (0, [(0, .b 73 [(.d false (.list (.int .u8))), (.d false (.int .i64)), (.d false (.int .i64))])]), some [(0, .b 73 [(.d false (.list (.int .u8))), (.d false (.int .i64)), (.d false (.int .i64))]), (4, .l (.o true 25 (.list (.int .i64))))], false⟩, ⟨7, [(0, .b 73 [(.d false (.list (.int .u8))), (.d false (.int .i64)), (.d false (.int .i64))]), (6, .l (.o true 25 (.list (.int .i64)))), (8, .l (.d false (.int .i64)))], some (2, [(0, .b 73 [(.d false (.list (.int .u8))), (.d false (.int .i64)), (.d false (.int .i64))]), (6, .l (.o true 25 (.list (.int .i64))))]), none, false⟩], [], [], [], []⟩
theorem k_s_l7Draw_1 (x : PMs.den e_s_l7Draw_1.ps) : funK c_s_l7Draw_1 Try.f96 e_s_l7Draw_1.ps e_s_l7Draw_1.rs x = e_s_l7Draw_1.F x := by kernel_rfl
theorem o_s_l7Draw_1 : FnOk Try.prog e_s_l7Draw_1.f ∧ Ctr Try.prog e_s_l7Draw_1 := mkCtr (C := c_s_l7Draw_1) m_ (⟨o_s_l1Below, o_s_l2Draw, o_s_HullOf, trivial⟩) Try.func96 (by kernel_rfl) k_s_l7Draw_1
/-! loop.example/g00959/spec.l19Two -/
noncomputable def s_l19Two_s57_3 (x0 : List Int) (v1 : Int × Int) : Option ((Int × Int) ⊕ (Int)) :=
 cond (decide (v1.2 < (x0.length : Int)))
 (cond (decide (v1.2 < (4000 : Int)))
 ((idx x0 v1.2).bind fun v2 => some (.inl ((andI .i64 (IntKind.i64.wrap ((IntKind.i64.wrap ((IntKind.i64.wrap (v1.1 * (131 : Int))) + (IntKind.i64.wrap v2))) + (7 : Int))) (1073741823 : Int)), (IntKind.i64.wrap (v1.2 + (1 : Int))))))
 (some (.inr v1.1)))
 (some (.inr v1.1))
noncomputable def s_l19Two (x0 : List Int) : Option (List (List Int) × List (List Int)) :=
(iter (s_l19Two_s57_3 x0) ((IntKind.i64.wrap ((26583 : Int) + (x0.length : Int))), (0 : Int))).bind fun v3 => (s_l7Draw_1 (x0, ((0 : Int), v3)) (3 : Int)).bind fun v4 => (s_l1Once (v4.2.1.1, (v4.2.1.2.1, v4.2.1.2.2)) (8 : Int)).bind fun v5 => cond v5.1
 ((s_l7Bent (v5.2.1.1, (v5.2.1.2.1, v5.2.1.2.2))).bind fun v6 => some (v4.1, v6.1))
 ((s_l7Draw_1 (v5.2.1.1, (v5.2.1.2.1, v5.2.1.2.2)) (3 : Int)).bind fun v7 => some (v4.1, v7.1))
noncomputable def e_s_l19Two : CallE := ⟨91, [.d false (.list (.int .u8))], [.l (.o true 25 (.list (.int .i64))), .l (.o false 25 (.list (.int .i64)))], fun x => s_l19Two x⟩
noncomputable def c_s_l19Two_57 : Ctx := ⟨Try.prog, TT, [], [⟨3, [(3, .l (.d false (.int .i64))), (4, .l (.d false (.int .i64)))], some (0, [(3, .l (.d false (.int .i64)))]), none, true⟩], [], [], [], []⟩
noncomputable def n_s_l19Two_57 : InE := ⟨57, false, inlK c_s_l19Two_57 Try.f57⟩
theorem q_s_l19Two_57 : FnOk Try.prog n_s_l19Two_57.f ∧ InOk Try.prog n_s_l19Two_57 := mkInl (C := c_s_l19Two_57) m_ (trivial) Try.func57 (by kernel_rfl)
noncomputable def c_s_l19Two : Ctx := ⟨Try.prog, TT, [e_s_l7Draw_1, e_s_l1Once, e_s_l7Bent], [], [], [n_s_l19Two_57], [], []⟩
theorem k_s_l19Two (x : PMs.den e_s_l19Two.ps) : funK c_s_l19Two Try.f91 e_s_l19Two.ps e_s_l19Two.rs x = e_s_l19Two.F x := by kernel_rfl
theorem o_s_l19Two : FnOk Try.prog e_s_l19Two.f ∧ Ctr Try.prog e_s_l19Two := mkCtr (C := c_s_l19Two) m_ (⟨o_s_l7Draw_1, o_s_l1Once, o_s_l7Bent, trivial⟩) Try.func91 (by kernel_rfl) k_s_l19Two ⟨q_s_l19Two_57, trivial⟩
/-! loop.example/g00959/spec.DrawSumPolygons -/
noncomputable def s_DrawSumPolygons (x0 : List Int) : Option (List (List Int) × List (List Int)) :=
(s_l19Two x0).bind fun v1 => some (v1.1, v1.2)
noncomputable def e_s_DrawSumPolygons : CallE := ⟨39, [.d false (.list (.int .u8))], [.l (.o true 25 (.list (.int .i64))), .l (.o false 25 (.list (.int .i64)))], fun x => s_DrawSumPolygons x⟩
noncomputable def c_s_DrawSumPolygons : Ctx := ⟨Try.prog, TT, [e_s_l19Two], [], [], [], [], []⟩
theorem k_s_DrawSumPolygons (x : PMs.den e_s_DrawSumPolygons.ps) : funK c_s_DrawSumPolygons Try.f39 e_s_DrawSumPolygons.ps e_s_DrawSumPolygons.rs x = e_s_DrawSumPolygons.F x := by kernel_rfl
theorem o_s_DrawSumPolygons : FnOk Try.prog e_s_DrawSumPolygons.f ∧ Ctr Try.prog e_s_DrawSumPolygons := mkCtr (C := c_s_DrawSumPolygons) m_ (⟨o_s_l19Two, trivial⟩) Try.func39 (by kernel_rfl) k_s_DrawSumPolygons
/-! loop.example/g00959/impl.SumPolygons -/
noncomputable def i_SumPolygons_s8 (x1 : List (List Int)) (v4 : List Int) (v5 : List (List Int) × Int) : Option ((List (List Int) × Int) ⊕ (List (List Int))) :=
 cond (decide (v5.2 < (x1.length : Int)))
 ((idx x1 v5.2).bind fun v6 => (idx v4 (0 : Int)).bind fun v7 => (idx v6 (0 : Int)).bind fun v8 => (idx v4 (1 : Int)).bind fun v9 => (idx v6 (1 : Int)).bind fun v10 => (appD 24 v5.1 ([([(IntKind.i64.wrap (v7 + v8)), (IntKind.i64.wrap (v9 + v10))] : List Int)] : List (List Int))).bind fun v11 => some (.inl (v11, (IntKind.i64.wrap (v5.2 + (1 : Int))))))
 (some (.inr v5.1))
noncomputable def i_SumPolygons_s5 (x0 : List (List Int)) (x1 : List (List Int)) (v3 : List (List Int) × Int) : Option ((List (List Int) × Int) ⊕ (List (List Int))) :=
 cond (decide (v3.2 < (x0.length : Int)))
 ((idx x0 v3.2).bind fun v4 => (iter (i_SumPolygons_s8 x1 v4) (v3.1, (0 : Int))).bind fun v12 => some (.inl (v12, (IntKind.i64.wrap (v3.2 + (1 : Int))))))
 (some (.inr v3.1))
noncomputable def i_SumPolygons (x0 : List (List Int)) (x1 : List (List Int)) : Option (List (List Int) × Bool) :=
(i_IsPolygon x0).bind fun v1 => cond (!v1)
 (some (([] : List (List Int)), false))
 ((i_IsPolygon x1).bind fun v2 => cond (!v2)
 (some (([] : List (List Int)), false))
 ((iter (i_SumPolygons_s5 x0 x1) (([] : List (List Int)), (0 : Int))).bind fun v13 => (i_HullOf v13).bind fun v14 => some (v14.1, v14.2)))
noncomputable def e_i_SumPolygons : CallE := ⟨40, [.d false (.list (.list (.int .i64))), .d false (.list (.list (.int .i64)))], [.l (.o true 25 (.list (.int .i64))), .l (.d false .bool)], fun x => i_SumPolygons x.1 x.2⟩
noncomputable def c_i_SumPolygons : Ctx := ⟨Try.prog, TT, [e_i_IsPolygon, e_i_HullOf], [⟨5, [(6, .l (.o true 25 (.list (.int .i64)))), (21, .l (.d false (.int .i64)))], some (0, [(6, .l (.o true 25 (.list (.int .i64))))]), none, false⟩, ⟨8, [(6, .l (.o true 25 (.list (.int .i64)))), (27, .l (.d false (.int .i64)))], some (2, [(6, .l (.o true 25 (.list (.int .i64))))]), none, false⟩], [], [], [], []⟩
theorem k_i_SumPolygons (x : PMs.den e_i_SumPolygons.ps) : funK c_i_SumPolygons Try.f40 e_i_SumPolygons.ps e_i_SumPolygons.rs x = e_i_SumPolygons.F x := by kernel_rfl
theorem o_i_SumPolygons : FnOk Try.prog e_i_SumPolygons.f ∧ Ctr Try.prog e_i_SumPolygons := mkCtr (C := c_i_SumPolygons) m_ (⟨o_i_IsPolygon, o_i_HullOf, trivial⟩) Try.func40 (by kernel_rfl) k_i_SumPolygons
/-! loop.example/g00959/spec.SumPolygons -/
noncomputable def s_SumPolygons_s8 (x0 : List (List Int)) (x1 : List (List Int)) (v3 : List (List Int) × Int) (v4 : List (List Int) × Int) : Option ((List (List Int) × Int) ⊕ (List (List Int))) :=
 cond (decide (v4.2 < (x1.length : Int)))
 ((idx x0 v3.2).bind fun v5 => (idx x1 v4.2).bind fun v6 => (s_l2Add v5 v6).bind fun v7 => (appD 24 v4.1 ([v7] : List (List Int))).bind fun v8 => some (.inl (v8, (IntKind.i64.wrap (v4.2 + (1 : Int))))))
 (some (.inr v4.1))
noncomputable def s_SumPolygons_s5 (x0 : List (List Int)) (x1 : List (List Int)) (v3 : List (List Int) × Int) : Option ((List (List Int) × Int) ⊕ (List (List Int))) :=
 cond (decide (v3.2 < (x0.length : Int)))
 ((iter (s_SumPolygons_s8 x0 x1 v3) (v3.1, (0 : Int))).bind fun v9 => some (.inl (v9, (IntKind.i64.wrap (v3.2 + (1 : Int))))))
 (some (.inr v3.1))
noncomputable def s_SumPolygons (x0 : List (List Int)) (x1 : List (List Int)) : Option (List (List Int) × Bool) :=
(s_IsPolygon x0).bind fun v1 => cond (!v1)
 (some (([] : List (List Int)), false))
 ((s_IsPolygon x1).bind fun v2 => cond (!v2)
 (some (([] : List (List Int)), false))
 ((iter (s_SumPolygons_s5 x0 x1) (([] : List (List Int)), (0 : Int))).bind fun v10 => (s_HullOf v10).bind fun v11 => cond (!v11.2)
 (some (([] : List (List Int)), false))
 (some (v11.1, true))))
noncomputable def e_s_SumPolygons : CallE := ⟨41, [.d false (.list (.list (.int .i64))), .d false (.list (.list (.int .i64)))], [.l (.o true 25 (.list (.int .i64))), .l (.d false .bool)], fun x => s_SumPolygons x.1 x.2⟩
noncomputable def c_s_SumPolygons : Ctx := ⟨Try.prog, TT, [e_s_IsPolygon, e_s_l2Add, e_s_HullOf], [⟨5, [(6, .l (.o true 25 (.list (.int .i64)))), (7, .l (.d false (.int .i64)))], some (0, [(6, .l (.o true 25 (.list (.int .i64))))]), none, false⟩, ⟨8, [(6, .l (.o true 25 (.list (.int .i64)))), (8, .l (.d false (.int .i64)))], some (2, [(6, .l (.o true 25 (.list (.int .i64))))]), none, false⟩], [], [], [], []⟩
theorem k_s_SumPolygons (x : PMs.den e_s_SumPolygons.ps) : funK c_s_SumPolygons Try.f41 e_s_SumPolygons.ps e_s_SumPolygons.rs x = e_s_SumPolygons.F x := by kernel_rfl
theorem o_s_SumPolygons : FnOk Try.prog e_s_SumPolygons.f ∧ Ctr Try.prog e_s_SumPolygons := mkCtr (C := c_s_SumPolygons) m_ (⟨o_s_IsPolygon, o_s_l2Add, o_s_HullOf, trivial⟩) Try.func41 (by kernel_rfl) k_s_SumPolygons
/-! loop.example/g00959/impl.MixedArea -/
noncomputable def i_MixedArea (x0 : List (List Int)) (x1 : List (List Int)) : Option (Int) :=
(i_SumPolygons x0 x1).bind fun v1 => cond (!v1.2)
 (some (-1 : Int))
 ((i_AreaTwice v1.1).bind fun v2 => (i_AreaTwice x0).bind fun v3 => (i_AreaTwice x1).bind fun v4 => some (IntKind.i64.wrap ((IntKind.i64.wrap (v2 - v3)) - v4)))
noncomputable def e_i_MixedArea : CallE := ⟨42, [.d false (.list (.list (.int .i64))), .d false (.list (.list (.int .i64)))], [.l (.d false (.int .i64))], fun x => i_MixedArea x.1 x.2⟩
noncomputable def c_i_MixedArea : Ctx := ⟨Try.prog, TT, [e_i_SumPolygons, e_i_AreaTwice], [], [], [], [], []⟩
theorem k_i_MixedArea (x : PMs.den e_i_MixedArea.ps) : funK c_i_MixedArea Try.f42 e_i_MixedArea.ps e_i_MixedArea.rs x = e_i_MixedArea.F x := by kernel_rfl
theorem o_i_MixedArea : FnOk Try.prog e_i_MixedArea.f ∧ Ctr Try.prog e_i_MixedArea := mkCtr (C := c_i_MixedArea) m_ (⟨o_i_SumPolygons, o_i_AreaTwice, trivial⟩) Try.func42 (by kernel_rfl) k_i_MixedArea
/-! loop.example/g00959/spec.DrawSupportAt -/
noncomputable def s_DrawSupportAt (x0 : List Int) : Option (List (List Int) × List Int) :=
(s_DrawPlaceOf x0).bind fun v1 => some (v1.1, v1.2)
noncomputable def e_s_DrawSupportAt : CallE := ⟨43, [.d false (.list (.int .u8))], [.l (.o false 25 (.list (.int .i64))), .l (.o true 3 (.int .i64))], fun x => s_DrawSupportAt x⟩
noncomputable def c_s_DrawSupportAt : Ctx := ⟨Try.prog, TT, [e_s_DrawPlaceOf], [], [], [], [], []⟩
theorem k_s_DrawSupportAt (x : PMs.den e_s_DrawSupportAt.ps) : funK c_s_DrawSupportAt Try.f43 e_s_DrawSupportAt.ps e_s_DrawSupportAt.rs x = e_s_DrawSupportAt.F x := by kernel_rfl
theorem o_s_DrawSupportAt : FnOk Try.prog e_s_DrawSupportAt.f ∧ Ctr Try.prog e_s_DrawSupportAt := mkCtr (C := c_s_DrawSupportAt) m_ (⟨o_s_DrawPlaceOf, trivial⟩) Try.func43 (by kernel_rfl) k_s_DrawSupportAt
/-! loop.example/g00959/impl.SupportAt -/
noncomputable def i_SupportAt (x0 : List (List Int)) (x1 : List Int) : Option (Int × Bool) :=
(i_IsPolygon x0).bind fun v1 => cond (!v1)
 (some ((0 : Int), false))
 ((i_IsVector x1).bind fun v2 => cond (!v2)
 (some ((0 : Int), false))
 (cond ((x1.length : Int) != (2 : Int))
 (some ((0 : Int), false))
 ((i_support x0 x1).bind fun v3 => some (v3, true))))
noncomputable def e_i_SupportAt : CallE := ⟨44, [.d false (.list (.list (.int .i64))), .d false (.list (.int .i64))], [.l (.d false (.int .i64)), .l (.d false .bool)], fun x => i_SupportAt x.1 x.2⟩
noncomputable def c_i_SupportAt : Ctx := ⟨Try.prog, TT, [e_i_IsPolygon, e_i_IsVector, e_i_support], [], [], [], [], []⟩
theorem k_i_SupportAt (x : PMs.den e_i_SupportAt.ps) : funK c_i_SupportAt Try.f44 e_i_SupportAt.ps e_i_SupportAt.rs x = e_i_SupportAt.F x := by kernel_rfl
theorem o_i_SupportAt : FnOk Try.prog e_i_SupportAt.f ∧ Ctr Try.prog e_i_SupportAt := mkCtr (C := c_i_SupportAt) m_ (⟨o_i_IsPolygon, o_i_IsVector, o_i_support, trivial⟩) Try.func44 (by kernel_rfl) k_i_SupportAt
/-! loop.example/g00959/spec.DrawMirrorPolygon -/
noncomputable def s_DrawMirrorPolygon_s57_3 (x0 : List Int) (v1 : Int × Int) : Option ((Int × Int) ⊕ (Int)) :=
 cond (decide (v1.2 < (x0.length : Int)))
 (cond (decide (v1.2 < (4000 : Int)))
 ((idx x0 v1.2).bind fun v2 => some (.inl ((andI .i64 (IntKind.i64.wrap ((IntKind.i64.wrap ((IntKind.i64.wrap (v1.1 * (131 : Int))) + (IntKind.i64.wrap v2))) + (7 : Int))) (1073741823 : Int)), (IntKind.i64.wrap (v1.2 + (1 : Int))))))
 (some (.inr v1.1)))
 (some (.inr v1.1))
noncomputable def s_DrawMirrorPolygon (x0 : List Int) : Option (List (List Int)) :=
(iter (s_DrawMirrorPolygon_s57_3 x0) ((IntKind.i64.wrap ((26583 : Int) + (x0.length : Int))), (0 : Int))).bind fun v3 => (s_l7Bent (x0, ((0 : Int), v3))).bind fun v4 => some v4.1
noncomputable def e_s_DrawMirrorPolygon : CallE := ⟨46, [.d false (.list (.int .u8))], [.l (.o false 25 (.list (.int .i64)))], fun x => s_DrawMirrorPolygon x⟩
noncomputable def c_s_DrawMirrorPolygon_57 : Ctx := ⟨Try.prog, TT, [], [⟨3, [(3, .l (.d false (.int .i64))), (4, .l (.d false (.int .i64)))], some (0, [(3, .l (.d false (.int .i64)))]), none, true⟩], [], [], [], []⟩
noncomputable def n_s_DrawMirrorPolygon_57 : InE := ⟨57, false, inlK c_s_DrawMirrorPolygon_57 Try.f57⟩
theorem q_s_DrawMirrorPolygon_57 : FnOk Try.prog n_s_DrawMirrorPolygon_57.f ∧ InOk Try.prog n_s_DrawMirrorPolygon_57 := mkInl (C := c_s_DrawMirrorPolygon_57) m_ (trivial) Try.func57 (by kernel_rfl)
noncomputable def c_s_DrawMirrorPolygon : Ctx := ⟨Try.prog, TT, [e_s_l7Bent], [], [], [n_s_DrawMirrorPolygon_57], [], []⟩
theorem k_s_DrawMirrorPolygon (x : PMs.den e_s_DrawMirrorPolygon.ps) : funK c_s_DrawMirrorPolygon Try.f46 e_s_DrawMirrorPolygon.ps e_s_DrawMirrorPolygon.rs x = e_s_DrawMirrorPolygon.F x := by kernel_rfl
theorem o_s_DrawMirrorPolygon : FnOk Try.prog e_s_DrawMirrorPolygon.f ∧ Ctr Try.prog e_s_DrawMirrorPolygon := mkCtr (C := c_s_DrawMirrorPolygon) m_ (⟨o_s_l7Bent, trivial⟩) Try.func46 (by kernel_rfl) k_s_DrawMirrorPolygon ⟨q_s_DrawMirrorPolygon_57, trivial⟩
/-! loop.example/g00959/impl.times -/
noncomputable def i_times_s2 (i : Nat) (m t : Int) (s : Int × List (List Int)) : Option ((Int × List (List Int)) ⊕ List (List Int)) :=
 cond (decide (s.1 < m)) ((s.2[i]?).bind fun q => (inIdx q.length s.1).bind fun _ => (s.2[i]?).bind fun q => (q[s.1.toNat]?).bind fun v => (s.2[i]?).bind fun q => (inIdx q.length s.1).bind fun _ => (s.2[i]?).bind fun q => (q[s.1.toNat]?).bind fun _ => some (.inl (IntKind.i64.wrap (s.1 + 1), s.2.set i (q.set s.1.toNat (IntKind.i64.wrap (v * t)))))) (some (.inr s.2))
noncomputable def i_times_s1 (n t : Int) (s : Int × List (List Int)) : Option ((Int × List (List Int)) ⊕ List (List Int)) :=
 cond (decide (s.1 < n)) ((inIdx s.2.length s.1).bind fun _ => if s.1.toNat < s.2.length then (s.2[s.1.toNat]?).bind fun q => (iter (i_times_s2 s.1.toNat q.length t) (0, s.2)).bind fun y => some (.inl (IntKind.i64.wrap (s.1 + 1), y)) else none) (some (.inr s.2))
noncomputable def i_times (x0 : List (List Int)) (x1 : Int) : Option (List (List Int)) := (i_copyPoints x0).bind fun v1 => (iter (i_times_s1 v1.length x1) (0, v1)).bind fun y => some y
noncomputable def e_i_times : CallE := ⟨95, [.d false (.list (.list (.int .i64))), .d false (.int .i64)], [.l (.o true 25 (.list (.int .i64)))], fun x => i_times x.1 x.2⟩
noncomputable def c_i_times : Ctx := ⟨Try.prog, TT, [e_i_copyPoints], [], [], [], [], []⟩
theorem k_i_times (x : PMs.den e_i_times.ps) : funWr c_i_times [⟨3, 0, 13⟩, ⟨6, 2, 19⟩] 0 11 Try.f95 e_i_times.ps e_i_times.rs x = e_i_times.F x := by kernel_rfl
theorem o_i_times : FnOk Try.prog e_i_times.f ∧ Ctr Try.prog e_i_times := mkCtrW (C := c_i_times) m_ (⟨o_i_copyPoints, trivial⟩) Try.func95 (by kernel_rfl) rfl k_i_times
/-! loop.example/g00959/impl.MirrorPolygon -/
noncomputable def i_MirrorPolygon (x0 : List (List Int)) : Option (List (List Int) × Bool) :=
(i_IsPolygon x0).bind fun v1 => cond (!v1)
 (some (([] : List (List Int)), false))
 ((i_times x0 (-1 : Int)).bind fun v2 => (i_HullOf v2).bind fun v3 => some (v3.1, v3.2))
noncomputable def e_i_MirrorPolygon : CallE := ⟨47, [.d false (.list (.list (.int .i64)))], [.l (.o true 25 (.list (.int .i64))), .l (.d false .bool)], fun x => i_MirrorPolygon x⟩
noncomputable def c_i_MirrorPolygon : Ctx := ⟨Try.prog, TT, [e_i_IsPolygon, e_i_times, e_i_HullOf], [], [], [], [], []⟩
theorem k_i_MirrorPolygon (x : PMs.den e_i_MirrorPolygon.ps) : funK c_i_MirrorPolygon Try.f47 e_i_MirrorPolygon.ps e_i_MirrorPolygon.rs x = e_i_MirrorPolygon.F x := by kernel_rfl
theorem o_i_MirrorPolygon : FnOk Try.prog e_i_MirrorPolygon.f ∧ Ctr Try.prog e_i_MirrorPolygon := mkCtr (C := c_i_MirrorPolygon) m_ (⟨o_i_IsPolygon, o_i_times, o_i_HullOf, trivial⟩) Try.func47 (by kernel_rfl) k_i_MirrorPolygon
/-! loop.example/g00959/spec.DrawIsSymmetricPolygon -/
noncomputable def s_DrawIsSymmetricPolygon_s57_3 (x0 : List Int) (v1 : Int × Int) : Option ((Int × Int) ⊕ (Int)) :=
 cond (decide (v1.2 < (x0.length : Int)))
 (cond (decide (v1.2 < (4000 : Int)))
 ((idx x0 v1.2).bind fun v2 => some (.inl ((andI .i64 (IntKind.i64.wrap ((IntKind.i64.wrap ((IntKind.i64.wrap (v1.1 * (131 : Int))) + (IntKind.i64.wrap v2))) + (7 : Int))) (1073741823 : Int)), (IntKind.i64.wrap (v1.2 + (1 : Int))))))
 (some (.inr v1.1)))
 (some (.inr v1.1))
noncomputable def s_DrawIsSymmetricPolygon (x0 : List Int) : Option (List (List Int)) :=
(iter (s_DrawIsSymmetricPolygon_s57_3 x0) ((IntKind.i64.wrap ((26583 : Int) + (x0.length : Int))), (0 : Int))).bind fun v3 => (s_l7Draw_1 (x0, ((0 : Int), v3)) (3 : Int)).bind fun v4 => (s_MirrorPolygon v4.1).bind fun v5 => (s_SumPolygons v4.1 v5.1).bind fun v6 => cond v6.2
 ((s_l1Once (v4.2.1.1, (v4.2.1.2.1, v4.2.1.2.2)) (2 : Int)).bind fun v7 => cond v7.1
 (some v6.1)
 (some v4.1))
 (some v4.1)
noncomputable def e_s_DrawIsSymmetricPolygon : CallE := ⟨49, [.d false (.list (.int .u8))], [.l (.o true 25 (.list (.int .i64)))], fun x => s_DrawIsSymmetricPolygon x⟩
noncomputable def c_s_DrawIsSymmetricPolygon_57 : Ctx := ⟨Try.prog, TT, [], [⟨3, [(3, .l (.d false (.int .i64))), (4, .l (.d false (.int .i64)))], some (0, [(3, .l (.d false (.int .i64)))]), none, true⟩], [], [], [], []⟩
noncomputable def n_s_DrawIsSymmetricPolygon_57 : InE := ⟨57, false, inlK c_s_DrawIsSymmetricPolygon_57 Try.f57⟩
theorem q_s_DrawIsSymmetricPolygon_57 : FnOk Try.prog n_s_DrawIsSymmetricPolygon_57.f ∧ InOk Try.prog n_s_DrawIsSymmetricPolygon_57 := mkInl (C := c_s_DrawIsSymmetricPolygon_57) m_ (trivial) Try.func57 (by kernel_rfl)
noncomputable def c_s_DrawIsSymmetricPolygon : Ctx := ⟨Try.prog, TT, [e_s_l7Draw_1, e_s_MirrorPolygon, e_s_SumPolygons, e_s_l1Once], [], [], [n_s_DrawIsSymmetricPolygon_57], [], []⟩
theorem k_s_DrawIsSymmetricPolygon (x : PMs.den e_s_DrawIsSymmetricPolygon.ps) : funK c_s_DrawIsSymmetricPolygon Try.f49 e_s_DrawIsSymmetricPolygon.ps e_s_DrawIsSymmetricPolygon.rs x = e_s_DrawIsSymmetricPolygon.F x := by kernel_rfl
theorem o_s_DrawIsSymmetricPolygon : FnOk Try.prog e_s_DrawIsSymmetricPolygon.f ∧ Ctr Try.prog e_s_DrawIsSymmetricPolygon := mkCtr (C := c_s_DrawIsSymmetricPolygon) m_ (⟨o_s_l7Draw_1, o_s_MirrorPolygon, o_s_SumPolygons, o_s_l1Once, trivial⟩) Try.func49 (by kernel_rfl) k_s_DrawIsSymmetricPolygon ⟨q_s_DrawIsSymmetricPolygon_57, trivial⟩
/-! loop.example/g00959/spec.MixedArea -/
noncomputable def s_MixedArea (x0 : List (List Int)) (x1 : List (List Int)) : Option (Int) :=
(s_SumPolygons x0 x1).bind fun v1 => cond (!v1.2)
 (some (-1 : Int))
 ((s_l7Area v1.1).bind fun v2 => (s_l7Area x0).bind fun v3 => (s_l7Area x1).bind fun v4 => some (IntKind.i64.wrap ((IntKind.i64.wrap (v2 - v3)) - v4)))
noncomputable def e_s_MixedArea : CallE := ⟨50, [.d false (.list (.list (.int .i64))), .d false (.list (.list (.int .i64)))], [.l (.d false (.int .i64))], fun x => s_MixedArea x.1 x.2⟩
noncomputable def c_s_MixedArea : Ctx := ⟨Try.prog, TT, [e_s_SumPolygons, e_s_l7Area], [], [], [], [], []⟩
theorem k_s_MixedArea (x : PMs.den e_s_MixedArea.ps) : funK c_s_MixedArea Try.f50 e_s_MixedArea.ps e_s_MixedArea.rs x = e_s_MixedArea.F x := by kernel_rfl
theorem o_s_MixedArea : FnOk Try.prog e_s_MixedArea.f ∧ Ctr Try.prog e_s_MixedArea := mkCtr (C := c_s_MixedArea) m_ (⟨o_s_SumPolygons, o_s_l7Area, trivial⟩) Try.func50 (by kernel_rfl) k_s_MixedArea
/-! slices.Equal[[]int,int] -/
noncomputable def g_slices_Equal_s4 (x0 : List Int) (x1 : List Int) (v1 : Int) : Option ((Int) ⊕ ((Unit) ⊕ (Bool))) :=
 cond (decide (v1 < (x0.length : Int)))
 ((idx x0 v1).bind fun v2 => (idx x1 v1).bind fun v3 => cond (v2 != v3)
 (some (.inr (.inr false)))
 (some (.inl (IntKind.i64.wrap (v1 + (1 : Int))))))
 (some (.inr (.inl ())))
noncomputable def g_slices_Equal (x0 : List Int) (x1 : List Int) : Option (Bool) :=
 cond ((x0.length : Int) != (x1.length : Int))
 (some false)
 ((iter (g_slices_Equal_s4 x0 x1) (0 : Int)).bind fun v4 => match v4 with
 | .inl v5 => (some true)
 | .inr v6 => (some v6))
noncomputable def e_g_slices_Equal : CallE := ⟨97, [.d false (.list (.int .i64)), .d false (.list (.int .i64))], [.l (.d false .bool)], fun x => g_slices_Equal x.1 x.2⟩
noncomputable def c_g_slices_Equal : Ctx := ⟨Try.prog, TT, [], [⟨4, [(13, .l (.d false (.int .i64)))], some (0, []), some [(4, .l (.d false .bool))], false⟩], [], [], [], []⟩
theorem k_g_slices_Equal (x : PMs.den e_g_slices_Equal.ps) : funK c_g_slices_Equal Try.f97 e_g_slices_Equal.ps e_g_slices_Equal.rs x = e_g_slices_Equal.F x := by kernel_rfl
theorem o_g_slices_Equal : FnOk Try.prog e_g_slices_Equal.f ∧ Ctr Try.prog e_g_slices_Equal := mkCtr (C := c_g_slices_Equal) m_ (trivial) Try.func97 (by kernel_rfl) k_g_slices_Equal
/-! loop.example/g00959/impl.IsSymmetricPolygon -/
noncomputable def i_IsSymmetricPolygon_s5 (x0 : List (List Int)) (v1 : List (List Int) × Bool) (v2 : Int) : Option ((Int) ⊕ ((Unit) ⊕ (Bool))) :=
 cond (decide (v2 < (x0.length : Int)))
 ((idx x0 v2).bind fun v3 => (idx v1.1 v2).bind fun v4 => (i_minus v3 v4).bind fun v5 => (idx x0 (0 : Int)).bind fun v6 => (idx v1.1 (0 : Int)).bind fun v7 => (i_minus v6 v7).bind fun v8 => (g_slices_Equal v5 v8).bind fun v9 => cond (!v9)
 (some (.inr (.inr false)))
 (some (.inl (IntKind.i64.wrap (v2 + (1 : Int))))))
 (some (.inr (.inl ())))
noncomputable def i_IsSymmetricPolygon (x0 : List (List Int)) : Option (Bool) :=
(i_MirrorPolygon x0).bind fun v1 => cond (!v1.2)
 (some false)
 ((iter (i_IsSymmetricPolygon_s5 x0 v1) (0 : Int)).bind fun v10 => match v10 with
 | .inl v11 => (some true)
 | .inr v12 => (some v12))
noncomputable def e_i_IsSymmetricPolygon : CallE := ⟨51, [.d false (.list (.list (.int .i64)))], [.l (.d false .bool)], fun x => i_IsSymmetricPolygon x⟩
noncomputable def c_i_IsSymmetricPolygon : Ctx := ⟨Try.prog, TT, [e_i_MirrorPolygon, e_i_minus, e_g_slices_Equal], [⟨5, [(16, .l (.d false (.int .i64)))], some (0, []), some [(2, .l (.d false .bool))], false⟩], [], [], [], []⟩
theorem k_i_IsSymmetricPolygon (x : PMs.den e_i_IsSymmetricPolygon.ps) : funK c_i_IsSymmetricPolygon Try.f51 e_i_IsSymmetricPolygon.ps e_i_IsSymmetricPolygon.rs x = e_i_IsSymmetricPolygon.F x := by kernel_rfl
theorem o_i_IsSymmetricPolygon : FnOk Try.prog e_i_IsSymmetricPolygon.f ∧ Ctr Try.prog e_i_IsSymmetricPolygon := mkCtr (C := c_i_IsSymmetricPolygon) m_ (⟨o_i_MirrorPolygon, o_i_minus, o_g_slices_Equal, trivial⟩) Try.func51 (by kernel_rfl) k_i_IsSymmetricPolygon
/-! loop.example/g00959/laws.FnSums -/
noncomputable def w_FnSums_s26 (v2 : List (List Int) × List (List Int)) (v3 : List (List Int) × Bool) (v22 : Int) : Option ((Int) ⊕ ((Unit) ⊕ (Bool))) :=
 cond (decide (v22 < (4 : Int)))
 ((inIdx ([([(1 : Int), (0 : Int)] : List Int), ([(-2 : Int), (3 : Int)] : List Int), ([(0 : Int), (-1 : Int)] : List Int), ([(3 : Int), (1 : Int)] : List Int)] : List (List Int)).length v22).bind fun _ => (idx ([([(1 : Int), (0 : Int)] : List Int), ([(-2 : Int), (3 : Int)] : List Int), ([(0 : Int), (-1 : Int)] : List Int), ([(3 : Int), (1 : Int)] : List Int)] : List (List Int)) ((v22).toNat : Int)).bind fun v23 => (i_SupportAt v2.1 v23).bind fun v24 => (i_SupportAt v2.2 v23).bind fun v25 => (i_SupportAt v3.1 v23).bind fun v26 => cond (!v24.2)
 (some (.inr (.inr false)))
 (cond (!v25.2)
 (some (.inr (.inr false)))
 (cond (!v26.2)
 (some (.inr (.inr false)))
 (cond ((IntKind.i64.wrap (v24.1 + v25.1)) != v26.1)
 (some (.inr (.inr false)))
 (some (.inl (IntKind.i64.wrap (v22 + (1 : Int)))))))))
 (some (.inr (.inl ())))
noncomputable def w_FnSums_s26b39 (v2 : List (List Int) × List (List Int)) (v3 : List (List Int) × Bool) (v35 : Int) : Option ((Int) ⊕ ((Unit) ⊕ (Bool))) :=
 cond (decide (v35 < (4 : Int)))
 ((inIdx ([([(1 : Int), (0 : Int)] : List Int), ([(-2 : Int), (3 : Int)] : List Int), ([(0 : Int), (-1 : Int)] : List Int), ([(3 : Int), (1 : Int)] : List Int)] : List (List Int)).length v35).bind fun _ => (idx ([([(1 : Int), (0 : Int)] : List Int), ([(-2 : Int), (3 : Int)] : List Int), ([(0 : Int), (-1 : Int)] : List Int), ([(3 : Int), (1 : Int)] : List Int)] : List (List Int)) ((v35).toNat : Int)).bind fun v36 => (i_SupportAt v2.1 v36).bind fun v37 => (i_SupportAt v2.2 v36).bind fun v38 => (i_SupportAt v3.1 v36).bind fun v39 => cond (!v37.2)
 (some (.inr (.inr false)))
 (cond (!v38.2)
 (some (.inr (.inr false)))
 (cond (!v39.2)
 (some (.inr (.inr false)))
 (cond ((IntKind.i64.wrap (v37.1 + v38.1)) != v39.1)
 (some (.inr (.inr false)))
 (some (.inl (IntKind.i64.wrap (v35 + (1 : Int)))))))))
 (some (.inr (.inl ())))
noncomputable def w_FnSums (x0 : List Int) : Option (Bool) :=
(w_big x0).bind fun v1 => cond v1
 (some true)
 ((s_DrawSumPolygons x0).bind fun v2 => (i_SumPolygons v2.1 v2.2).bind fun v3 => (s_SumPolygons v2.1 v2.2).bind fun v4 => (i_MixedArea v2.1 v2.2).bind fun v5 => (s_DrawSupportAt x0).bind fun v6 => (i_SupportAt v6.1 v6.2).bind fun v7 => (s_SupportAt v6.1 v6.2).bind fun v8 => (s_DrawMirrorPolygon x0).bind fun v9 => (i_MirrorPolygon v9).bind fun v10 => (s_MirrorPolygon v9).bind fun v11 => (s_DrawIsSymmetricPolygon x0).bind fun v12 => cond (!(v3.2 == v4.2))
 (some false)
 ((w_sameLists v3.1 v4.1).bind fun v13 => cond (!v13)
 (some false)
 ((s_MixedArea v2.1 v2.2).bind fun v14 => cond (v5 != v14)
 (some false)
 (cond (!(v7.2 == v8.2))
 (some false)
 (cond (v7.1 != v8.1)
 (some false)
 (cond (!(v10.2 == v11.2))
 (some false)
 ((w_sameLists v10.1 v11.1).bind fun v15 => cond (!v15)
 (some false)
 ((i_IsSymmetricPolygon v12).bind fun v16 => (s_IsSymmetricPolygon v12).bind fun v17 => cond (!(v16 == v17))
 (some false)
 (cond v10.2
 ((i_MirrorPolygon v10.1).bind fun v18 => cond (!v18.2)
 (some false)
 ((w_sameLists v18.1 v9).bind fun v19 => cond (!v19)
 (some false)
 (cond (!v3.2)
 (some (v5 == (-1 : Int)))
 ((i_SumPolygons v2.2 v2.1).bind fun v20 => cond (!v20.2)
 (some false)
 ((w_sameLists v20.1 v3.1).bind fun v21 => cond (!v21)
 (some false)
 (cond (decide (v5 < (1 : Int)))
 (some false)
 ((iter (w_FnSums_s26 v2 v3) (0 : Int)).bind fun v27 => match v27 with
 | .inl v28 => ((i_SumPolygons v2.1 v2.1).bind fun v30 => cond (!v30.2)
 (some true)
 ((s_AreaTwice v30.1).bind fun v31 => (s_AreaTwice v2.1).bind fun v32 => some (v31 == (IntKind.i64.wrap ((4 : Int) * v32)))))
 | .inr v29 => (some v29))))))))
 (cond (!v3.2)
 (some (v5 == (-1 : Int)))
 ((i_SumPolygons v2.2 v2.1).bind fun v33 => cond (!v33.2)
 (some false)
 ((w_sameLists v33.1 v3.1).bind fun v34 => cond (!v34)
 (some false)
 (cond (decide (v5 < (1 : Int)))
 (some false)
 ((iter (w_FnSums_s26b39 v2 v3) (0 : Int)).bind fun v40 => match v40 with
 | .inl v41 => ((i_SumPolygons v2.1 v2.1).bind fun v43 => cond (!v43.2)
 (some true)
 ((s_AreaTwice v43.1).bind fun v44 => (s_AreaTwice v2.1).bind fun v45 => some (v44 == (IntKind.i64.wrap ((4 : Int) * v45)))))
 | .inr v42 => (some v42)))))))))))))))
noncomputable def e_w_FnSums : CallE := ⟨5, [.d false (.list (.int .u8))], [.l (.d false .bool)], fun x => w_FnSums x⟩
noncomputable def c_w_FnSums : Ctx := ⟨Try.prog, TT, [e_w_big, e_s_DrawSumPolygons, e_i_SumPolygons, e_s_SumPolygons, e_i_MixedArea, e_s_DrawSupportAt, e_i_SupportAt, e_s_SupportAt, e_s_DrawMirrorPolygon, e_i_MirrorPolygon, e_s_MirrorPolygon, e_s_DrawIsSymmetricPolygon, e_w_sameLists, e_s_MixedArea, e_i_IsSymmetricPolygon, e_s_IsSymmetricPolygon, e_s_AreaTwice], [⟨26, [(26, .l (.d false (.int .i64)))], some (0, []), some [(2, .l (.d false .bool))], false⟩], [], [], [], []⟩
theorem k_w_FnSums (x : PMs.den e_w_FnSums.ps) : funK c_w_FnSums Try.f5 e_w_FnSums.ps e_w_FnSums.rs x = e_w_FnSums.F x := by kernel_rfl
theorem o_w_FnSums : FnOk Try.prog e_w_FnSums.f ∧ Ctr Try.prog e_w_FnSums := mkCtr (C := c_w_FnSums) m_ (⟨o_w_big, o_s_DrawSumPolygons, o_i_SumPolygons, o_s_SumPolygons, o_i_MixedArea, o_s_DrawSupportAt, o_i_SupportAt, o_s_SupportAt, o_s_DrawMirrorPolygon, o_i_MirrorPolygon, o_s_MirrorPolygon, o_s_DrawIsSymmetricPolygon, o_w_sameLists, o_s_MixedArea, o_i_IsSymmetricPolygon, o_s_IsSymmetricPolygon, o_s_AreaTwice, trivial⟩) Try.func5 (by kernel_rfl) k_w_FnSums
end Go.Proofs.Ytilggmmanhinbaa
