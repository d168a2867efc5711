/- Plain functions. -/
import Derived.Test.YtilggmmanhinbaaProg
import Derived.Test.YtilggmmanhinbaaLay
import Derived.Test.YtilggmmanhinbaaEm7
import Derived.Test.YtilggmmanhinbaaEm8
import Derived.KernelRfl
namespace Go.Proofs.Ytilggmmanhinbaa
open Go Go.Proofs.Ytilggmmanhinbaa.Eng
set_option linter.unusedVariables false
set_option maxRecDepth 100000
noncomputable def TT : List (TypeId × Ty) := [(3, (.int .i64)), (5, (.int .u8)), (25, (.list (.int .i64)))]
theorem m_ : Try.prog.follows .mixedOrders = true := by kernel_rfl
/-! loop.example/g00959/laws.big -/
noncomputable def w_big (x0 : List Int) : Option (Bool) :=
 some (decide ((x0.length : Int) > (1048576 : Int)))
noncomputable def e_w_big : CallE := ⟨6, [.d false (.list (.int .u8))], [.l (.d false .bool)], fun x => w_big x⟩
noncomputable def c_w_big : Ctx := ⟨Try.prog, TT, [], [], [], [], [], []⟩
theorem k_w_big (x : PMs.den e_w_big.ps) : funK c_w_big Try.f6 e_w_big.ps e_w_big.rs x = e_w_big.F x := by kernel_rfl
theorem o_w_big : FnOk Try.prog e_w_big.f ∧ Ctr Try.prog e_w_big := mkCtr (C := c_w_big) m_ (trivial) Try.func6 (by kernel_rfl) k_w_big
/-! loop.example/g00959/spec.l1Byte -/
noncomputable def s_l1Byte (x0 : (List Int) × Int × Int) : Option ((Int) × ((List Int) × Int × Int) × Unit) :=
(shrI .i64 (IntKind.i64.wrap ((IntKind.i64.wrap (x0.2.2 * (6364136223846793005 : Int))) + (1442695040888963407 : Int))) (33 : Int)).bind fun v1 => (shrI .i64 (IntKind.i64.wrap ((IntKind.i64.wrap (x0.2.2 * (6364136223846793005 : Int))) + (1442695040888963407 : Int))) (45 : Int)).bind fun v2 => cond (decide (x0.2.1 < (x0.1.length : Int)))
 ((idx x0.1 x0.2.1).bind fun v3 => some ((andI .i64 (IntKind.i64.wrap ((andI .i64 (xorI .i64 v1 v2) (255 : Int)) + (IntKind.i64.wrap v3))) (255 : Int)), ((x0.1, ((IntKind.i64.wrap (x0.2.1 + (1 : Int))), (IntKind.i64.wrap ((IntKind.i64.wrap (x0.2.2 * (6364136223846793005 : Int))) + (1442695040888963407 : Int))))), ())))
 (some ((andI .i64 (xorI .i64 v1 v2) (255 : Int)), ((x0.1, (x0.2.1, (IntKind.i64.wrap ((IntKind.i64.wrap (x0.2.2 * (6364136223846793005 : Int))) + (1442695040888963407 : Int))))), ())))
noncomputable def e_s_l1Byte : CallE := ⟨123, [.cur 73], [.l (.d false (.int .i64))], fun x => s_l1Byte x⟩
noncomputable def c_s_l1Byte : Ctx := ⟨Try.prog, TT, [], [], [], [], [], []⟩
theorem k_s_l1Byte (x : PMs.den e_s_l1Byte.ps) : funK c_s_l1Byte Try.f123 e_s_l1Byte.ps e_s_l1Byte.rs x = e_s_l1Byte.F x := by kernel_rfl
theorem o_s_l1Byte : FnOk Try.prog e_s_l1Byte.f ∧ Ctr Try.prog e_s_l1Byte := mkCtr (C := c_s_l1Byte) m_ (trivial) Try.func123 (by kernel_rfl) k_s_l1Byte
/-! loop.example/g00959/spec.l1Below -/
noncomputable def s_l1Below (x0 : (List Int) × Int × Int) (x1 : Int) : Option ((Int) × ((List Int) × Int × Int) × Unit) :=
 cond (decide (x1 ≤ (0 : Int)))
 (some ((0 : Int), ((x0.1, (x0.2.1, x0.2.2)), ())))
 (cond (decide (x1 ≤ (256 : Int)))
 ((s_l1Byte (x0.1, (x0.2.1, x0.2.2))).bind fun v1 => (remI .i64 v1.1 x1).bind fun v2 => some (v2, ((v1.2.1.1, (v1.2.1.2.1, v1.2.1.2.2)), ())))
 ((s_l1Byte (x0.1, (x0.2.1, x0.2.2))).bind fun v3 => (s_l1Byte (v3.2.1.1, (v3.2.1.2.1, v3.2.1.2.2))).bind fun v4 => (s_l1Byte (v4.2.1.1, (v4.2.1.2.1, v4.2.1.2.2))).bind fun v5 => (s_l1Byte (v5.2.1.1, (v5.2.1.2.1, v5.2.1.2.2))).bind fun v6 => (remI .i64 (IntKind.i64.wrap ((IntKind.i64.wrap ((IntKind.i64.wrap ((IntKind.i64.wrap (v3.1 * (16777216 : Int))) + (IntKind.i64.wrap (v4.1 * (65536 : Int))))) + (IntKind.i64.wrap (v5.1 * (256 : Int))))) + v6.1)) x1).bind fun v7 => some (v7, ((v6.2.1.1, (v6.2.1.2.1, v6.2.1.2.2)), ()))))
noncomputable def e_s_l1Below : CallE := ⟨102, [.cur 73, .d false (.int .i64)], [.l (.d false (.int .i64))], fun x => s_l1Below x.1 x.2⟩
noncomputable def c_s_l1Below : Ctx := ⟨Try.prog, TT, [e_s_l1Byte], [], [], [], [], []⟩
theorem k_s_l1Below (x : PMs.den e_s_l1Below.ps) : funK c_s_l1Below Try.f102 e_s_l1Below.ps e_s_l1Below.rs x = e_s_l1Below.F x := by kernel_rfl
theorem o_s_l1Below : FnOk Try.prog e_s_l1Below.f ∧ Ctr Try.prog e_s_l1Below := mkCtr (C := c_s_l1Below) m_ (⟨o_s_l1Byte, trivial⟩) Try.func102 (by kernel_rfl) k_s_l1Below
/-! loop.example/g00959/spec.l2Draw -/
noncomputable def s_l2Draw_s3 (x1 : Int) (x2 : Int) (v1 : (List Int × Int × Int) × List Int × Int) : Option (((List Int × Int × Int) × List Int × Int) ⊕ ((List Int × Int × Int) × List Int)) :=
 cond (decide (v1.2.2 < x1))
 ((s_l1Below (v1.1.1, (v1.1.2.1, v1.1.2.2)) (IntKind.i64.wrap ((IntKind.i64.wrap ((2 : Int) * x2)) + (1 : Int)))).bind fun v2 => (appD 8 v1.2.1 ([(IntKind.i64.wrap (v2.1 - x2))] : List Int)).bind fun v3 => some (.inl ((v2.2.1.1, (v2.2.1.2.1, v2.2.1.2.2)), (v3, (IntKind.i64.wrap (v1.2.2 + (1 : Int)))))))
 (some (.inr ((v1.1.1, (v1.1.2.1, v1.1.2.2)), v1.2.1)))
noncomputable def s_l2Draw (x0 : (List Int) × Int × Int) (x1 : Int) (x2 : Int) : Option ((List Int) × ((List Int) × Int × Int) × Unit) :=
(iter (s_l2Draw_s3 x1 x2) ((x0.1, (x0.2.1, x0.2.2)), (([] : List Int), (0 : Int)))).bind fun v4 => some (v4.2, ((v4.1.1, (v4.1.2.1, v4.1.2.2)), ()))
noncomputable def e_s_l2Draw : CallE := ⟨59, [.cur 73, .d false (.int .i64), .d false (.int .i64)], [.l (.o true 3 (.int .i64))], fun x => s_l2Draw x.1 x.2.1 x.2.2⟩
noncomputable def c_s_l2Draw : Ctx := ⟨Try.prog, TT, [e_s_l1Below], [⟨3, [(0, .b 73 [(.d false (.list (.int .u8))), (.d false (.int .i64)), (.d false (.int .i64))]), (7, .l (.o true 3 (.int .i64))), (8, .l (.d false (.int .i64)))], some (0, [(0, .b 73 [(.d false (.list (.int .u8))), (.d false (.int .i64)), (.d false (.int .i64))]), (7, .l (.o true 3 (.int .i64)))]), none, false⟩], [], [], [], []⟩
theorem k_s_l2Draw (x : PMs.den e_s_l2Draw.ps) : funK c_s_l2Draw Try.f59 e_s_l2Draw.ps e_s_l2Draw.rs x = e_s_l2Draw.F x := by kernel_rfl
theorem o_s_l2Draw : FnOk Try.prog e_s_l2Draw.f ∧ Ctr Try.prog e_s_l2Draw := mkCtr (C := c_s_l2Draw) m_ (⟨o_s_l1Below, trivial⟩) Try.func59 (by kernel_rfl) k_s_l2Draw
/-! loop.example/g00959/spec.l1In -/
noncomputable def s_l1In (x0 : Int) (x1 : Int) (x2 : Int) : Option (Bool) :=
 cond (decide (x0 ≥ x1))
 (some (decide (x0 ≤ x2)))
 (some false)
noncomputable def e_s_l1In : CallE := ⟨73, [.d false (.int .i64), .d false (.int .i64), .d false (.int .i64)], [.l (.d false .bool)], fun x => s_l1In x.1 x.2.1 x.2.2⟩
noncomputable def c_s_l1In : Ctx := ⟨Try.prog, TT, [], [], [], [], [], []⟩
theorem k_s_l1In (x : PMs.den e_s_l1In.ps) : funK c_s_l1In Try.f73 e_s_l1In.ps e_s_l1In.rs x = e_s_l1In.F x := by kernel_rfl
theorem o_s_l1In : FnOk Try.prog e_s_l1In.f ∧ Ctr Try.prog e_s_l1In := mkCtr (C := c_s_l1In) m_ (trivial) Try.func73 (by kernel_rfl) k_s_l1In
/-! loop.example/g00959/spec.l2Small -/
noncomputable def s_l2Small_s2 (x0 : List Int) (x1 : Int) (v1 : Int) : Option ((Int) ⊕ ((Unit) ⊕ (Bool))) :=
 cond (decide (v1 < (x0.length : Int)))
 ((idx x0 v1).bind fun v2 => (s_l1In v2 (IntKind.i64.wrap (0 - x1)) x1).bind fun v3 => cond (!v3)
 (some (.inr (.inr false)))
 (some (.inl (IntKind.i64.wrap (v1 + (1 : Int))))))
 (some (.inr (.inl ())))
noncomputable def s_l2Small (x0 : List Int) (x1 : Int) : Option (Bool) :=
(iter (s_l2Small_s2 x0 x1) (0 : Int)).bind fun v4 => match v4 with
 | .inl v5 => (some true)
 | .inr v6 => (some v6)
noncomputable def e_s_l2Small : CallE := ⟨69, [.d false (.list (.int .i64)), .d false (.int .i64)], [.l (.d false .bool)], fun x => s_l2Small x.1 x.2⟩
noncomputable def c_s_l2Small : Ctx := ⟨Try.prog, TT, [e_s_l1In], [⟨2, [(5, .l (.d false (.int .i64)))], some (0, []), some [(4, .l (.d false .bool))], false⟩], [], [], [], []⟩
theorem k_s_l2Small (x : PMs.den e_s_l2Small.ps) : funK c_s_l2Small Try.f69 e_s_l2Small.ps e_s_l2Small.rs x = e_s_l2Small.F x := by kernel_rfl
theorem o_s_l2Small : FnOk Try.prog e_s_l2Small.f ∧ Ctr Try.prog e_s_l2Small := mkCtr (C := c_s_l2Small) m_ (⟨o_s_l1In, trivial⟩) Try.func69 (by kernel_rfl) k_s_l2Small
/-! loop.example/g00959/spec.l7Flat -/
noncomputable def s_l7Flat_s2 (x0 : List (List Int)) (v1 : Int) : Option ((Int) ⊕ ((Unit) ⊕ (Bool))) :=
 cond (decide (v1 < (x0.length : Int)))
 ((idx x0 v1).bind fun v2 => cond ((v2.length : Int) != (2 : Int))
 (some (.inr (.inr false)))
 ((idx x0 v1).bind fun v3 => (s_l2Small v3 (50 : Int)).bind fun v4 => cond (!v4)
 (some (.inr (.inr false)))
 (some (.inl (IntKind.i64.wrap (v1 + (1 : Int)))))))
 (some (.inr (.inl ())))
noncomputable def s_l7Flat (x0 : List (List Int)) : Option (Bool) :=
(iter (s_l7Flat_s2 x0) (0 : Int)).bind fun v5 => match v5 with
 | .inl v6 => (some true)
 | .inr v7 => (some v7)
noncomputable def e_s_l7Flat : CallE := ⟨74, [.d false (.list (.list (.int .i64)))], [.l (.d false .bool)], fun x => s_l7Flat x⟩
noncomputable def c_s_l7Flat : Ctx := ⟨Try.prog, TT, [e_s_l2Small], [⟨2, [(3, .l (.d false (.int .i64)))], some (0, []), some [(2, .l (.d false .bool))], false⟩], [], [], [], []⟩
theorem k_s_l7Flat (x : PMs.den e_s_l7Flat.ps) : funK c_s_l7Flat Try.f74 e_s_l7Flat.ps e_s_l7Flat.rs x = e_s_l7Flat.F x := by kernel_rfl
theorem o_s_l7Flat : FnOk Try.prog e_s_l7Flat.f ∧ Ctr Try.prog e_s_l7Flat := mkCtr (C := c_s_l7Flat) m_ (⟨o_s_l2Small, trivial⟩) Try.func74 (by kernel_rfl) k_s_l7Flat
/-! loop.example/g00959/spec.l2Before -/
noncomputable def s_l2Before_s2 (x0 : List Int) (x1 : List Int) (v1 : Int) : Option ((Int) ⊕ ((Unit) ⊕ (Bool))) :=
 cond (decide (v1 < (x0.length : Int)))
 (cond (decide (v1 < (x1.length : Int)))
 ((idx x0 v1).bind fun v2 => (idx x1 v1).bind fun v3 => cond (v2 != v3)
 ((idx x0 v1).bind fun v4 => (idx x1 v1).bind fun v5 => some (.inr (.inr (decide (v4 < v5)))))
 (some (.inl (IntKind.i64.wrap (v1 + (1 : Int))))))
 (some (.inr (.inl ()))))
 (some (.inr (.inl ())))
noncomputable def s_l2Before (x0 : List Int) (x1 : List Int) : Option (Bool) :=
(iter (s_l2Before_s2 x0 x1) (0 : Int)).bind fun v6 => match v6 with
 | .inl v7 => (some false)
 | .inr v8 => (some v8)
noncomputable def e_s_l2Before : CallE := ⟨125, [.d false (.list (.int .i64)), .d false (.list (.int .i64))], [.l (.d false .bool)], fun x => s_l2Before x.1 x.2⟩
noncomputable def c_s_l2Before : Ctx := ⟨Try.prog, TT, [], [⟨2, [(5, .l (.d false (.int .i64)))], some (0, []), some [(4, .l (.d false .bool))], false⟩], [], [], [], []⟩
theorem k_s_l2Before (x : PMs.den e_s_l2Before.ps) : funK c_s_l2Before Try.f125 e_s_l2Before.ps e_s_l2Before.rs x = e_s_l2Before.F x := by kernel_rfl
theorem o_s_l2Before : FnOk Try.prog e_s_l2Before.f ∧ Ctr Try.prog e_s_l2Before := mkCtr (C := c_s_l2Before) m_ (trivial) Try.func125 (by kernel_rfl) k_s_l2Before
/-! loop.example/g00959/spec.l2Same -/
noncomputable def s_l2Same_s4 (x0 : List Int) (x1 : List Int) (v1 : Int) : Option ((Int) ⊕ ((Unit) ⊕ (Bool))) :=
 cond (decide (v1 < (x0.length : Int)))
 ((idx x0 v1).bind fun v2 => (idx x1 v1).bind fun v3 => cond (v2 != v3)
 (some (.inr (.inr false)))
 (some (.inl (IntKind.i64.wrap (v1 + (1 : Int))))))
 (some (.inr (.inl ())))
noncomputable def s_l2Same (x0 : List Int) (x1 : List Int) : Option (Bool) :=
 cond ((x0.length : Int) != (x1.length : Int))
 (some false)
 ((iter (s_l2Same_s4 x0 x1) (0 : Int)).bind fun v4 => match v4 with
 | .inl v5 => (some true)
 | .inr v6 => (some v6))
noncomputable def e_s_l2Same : CallE := ⟨90, [.d false (.list (.int .i64)), .d false (.list (.int .i64))], [.l (.d false .bool)], fun x => s_l2Same x.1 x.2⟩
noncomputable def c_s_l2Same : Ctx := ⟨Try.prog, TT, [], [⟨4, [(5, .l (.d false (.int .i64)))], some (0, []), some [(4, .l (.d false .bool))], false⟩], [], [], [], []⟩
theorem k_s_l2Same (x : PMs.den e_s_l2Same.ps) : funK c_s_l2Same Try.f90 e_s_l2Same.ps e_s_l2Same.rs x = e_s_l2Same.F x := by kernel_rfl
theorem o_s_l2Same : FnOk Try.prog e_s_l2Same.f ∧ Ctr Try.prog e_s_l2Same := mkCtr (C := c_s_l2Same) m_ (trivial) Try.func90 (by kernel_rfl) k_s_l2Same
/-! loop.example/g00959/spec.l2Put -/
noncomputable def s_l2Put_s2 (x1 : List Int) (v1 : List (List Int) × Int) : Option ((List (List Int) × Int) ⊕ (List (List Int) × Int)) :=
 cond (decide (v1.2 > (0 : Int)))
 ((inIdx v1.1.length (IntKind.i64.wrap (v1.2 - (1 : Int)))).bind fun _ => (idx v1.1 (((IntKind.i64.wrap (v1.2 - (1 : Int)))).toNat : Int)).bind fun v2 => (s_l2Before x1 v2).bind fun v3 => cond v3
 (some (.inl (v1.1, (IntKind.i64.wrap (v1.2 - (1 : Int))))))
 (some (.inr (v1.1, v1.2))))
 (some (.inr (v1.1, v1.2)))
noncomputable def s_l2Put (x0 : List (List Int)) (x1 : List Int) : Option (List (List Int)) :=
(iter (s_l2Put_s2 x1) (x0, (x0.length : Int))).bind fun v4 => cond (decide (v4.2 > (0 : Int)))
 ((inIdx v4.1.length (IntKind.i64.wrap (v4.2 - (1 : Int)))).bind fun _ => (idx v4.1 (((IntKind.i64.wrap (v4.2 - (1 : Int)))).toNat : Int)).bind fun v5 => (s_l2Same v5 x1).bind fun v6 => cond v6
 (some v4.1)
 ((subl v4.1 v4.2 (v4.1.length : Int)).bind fun v7 => (subl v4.1 ((v4.2).toNat : Int) (((v4.1.length : Int)).toNat : Int)).bind fun v8 => (appD 24 ([] : List (List Int)) v8).bind fun v9 => (subl v4.1 0 v4.2).bind fun v10 => (appD 8 ([] : List Int) x1).bind fun v11 => (appD 24 v10 ([v11] : List (List Int))).bind fun v12 => (appD 24 v12 v9).bind fun v13 => some v13))
 ((subl v4.1 v4.2 (v4.1.length : Int)).bind fun v14 => (subl v4.1 ((v4.2).toNat : Int) (((v4.1.length : Int)).toNat : Int)).bind fun v15 => (appD 24 ([] : List (List Int)) v15).bind fun v16 => (subl v4.1 0 v4.2).bind fun v17 => (appD 8 ([] : List Int) x1).bind fun v18 => (appD 24 v17 ([v18] : List (List Int))).bind fun v19 => (appD 24 v19 v16).bind fun v20 => some v20)
noncomputable def e_s_l2Put : CallE := ⟨109, [.mv false 25 (.list (.int .i64)), .d false (.list (.int .i64))], [.l (.o false 25 (.list (.int .i64)))], fun x => s_l2Put x.1 x.2⟩
noncomputable def c_s_l2Put : Ctx := ⟨Try.prog, TT, [e_s_l2Before, e_s_l2Same], [⟨2, [(0, .l (.o false 25 (.list (.int .i64)))), (5, .l (.d false (.int .i64)))], some (0, [(0, .l (.o false 25 (.list (.int .i64)))), (5, .l (.d false (.int .i64)))]), none, false⟩], [], [], [35], [(7, [0, 1, 2, 4, 8, 3, 5, 6, 7, 9, 10])]⟩
theorem k_s_l2Put (x : PMs.den e_s_l2Put.ps) : funK c_s_l2Put Try.f109 e_s_l2Put.ps e_s_l2Put.rs x = e_s_l2Put.F x := by kernel_rfl
theorem o_s_l2Put : FnOk Try.prog e_s_l2Put.f ∧ Ctr Try.prog e_s_l2Put := mkCtr (C := c_s_l2Put) m_ (⟨o_s_l2Before, o_s_l2Same, trivial⟩) Try.func109 (by kernel_rfl) k_s_l2Put
/-! loop.example/g00959/spec.l2Less -/
noncomputable def s_l2Less_s3 (x0 : List Int) (x1 : List Int) (v1 : List Int × Int) : Option ((List Int × Int) ⊕ (List Int)) :=
 cond (decide (v1.2 < (x0.length : Int)))
 ((idx x0 v1.2).bind fun v2 => (idx x1 v1.2).bind fun v3 => (appD 8 v1.1 ([(IntKind.i64.wrap (v2 - v3))] : List Int)).bind fun v4 => some (.inl (v4, (IntKind.i64.wrap (v1.2 + (1 : Int))))))
 (some (.inr v1.1))
noncomputable def s_l2Less (x0 : List Int) (x1 : List Int) : Option (List Int) :=
(iter (s_l2Less_s3 x0 x1) (([] : List Int), (0 : Int))).bind fun v5 => some v5
noncomputable def e_s_l2Less : CallE := ⟨89, [.d false (.list (.int .i64)), .d false (.list (.int .i64))], [.l (.o true 3 (.int .i64))], fun x => s_l2Less x.1 x.2⟩
noncomputable def c_s_l2Less : Ctx := ⟨Try.prog, TT, [], [⟨3, [(5, .l (.o true 3 (.int .i64))), (6, .l (.d false (.int .i64)))], some (0, [(5, .l (.o true 3 (.int .i64)))]), none, false⟩], [], [], [], []⟩
theorem k_s_l2Less (x : PMs.den e_s_l2Less.ps) : funK c_s_l2Less Try.f89 e_s_l2Less.ps e_s_l2Less.rs x = e_s_l2Less.F x := by kernel_rfl
theorem o_s_l2Less : FnOk Try.prog e_s_l2Less.f ∧ Ctr Try.prog e_s_l2Less := mkCtr (C := c_s_l2Less) m_ (trivial) Try.func89 (by kernel_rfl) k_s_l2Less
/-! loop.example/g00959/spec.l7Cross -/
noncomputable def s_l7Cross (x0 : List Int) (x1 : List Int) : Option (Int) :=
(idx x0 (0 : Int)).bind fun v1 => (idx x1 (1 : Int)).bind fun v2 => (idx x0 (1 : Int)).bind fun v3 => (idx x1 (0 : Int)).bind fun v4 => some (IntKind.i64.wrap ((IntKind.i64.wrap (v1 * v2)) - (IntKind.i64.wrap (v3 * v4))))
noncomputable def e_s_l7Cross : CallE := ⟨88, [.d false (.list (.int .i64)), .d false (.list (.int .i64))], [.l (.d false (.int .i64))], fun x => s_l7Cross x.1 x.2⟩
noncomputable def c_s_l7Cross : Ctx := ⟨Try.prog, TT, [], [], [], [], [], []⟩
theorem k_s_l7Cross (x : PMs.den e_s_l7Cross.ps) : funK c_s_l7Cross Try.f88 e_s_l7Cross.ps e_s_l7Cross.rs x = e_s_l7Cross.F x := by kernel_rfl
theorem o_s_l7Cross : FnOk Try.prog e_s_l7Cross.f ∧ Ctr Try.prog e_s_l7Cross := mkCtr (C := c_s_l7Cross) m_ (trivial) Try.func88 (by kernel_rfl) k_s_l7Cross
/-! loop.example/g00959/spec.l7Turn -/
noncomputable def s_l7Turn (x0 : List Int) (x1 : List Int) (x2 : List Int) : Option (Int) :=
(s_l2Less x1 x0).bind fun v1 => (s_l2Less x2 x1).bind fun v2 => (s_l7Cross v1 v2).bind fun v3 => some v3
noncomputable def e_s_l7Turn : CallE := ⟨124, [.d false (.list (.int .i64)), .d false (.list (.int .i64)), .d false (.list (.int .i64))], [.l (.d false (.int .i64))], fun x => s_l7Turn x.1 x.2.1 x.2.2⟩
noncomputable def c_s_l7Turn : Ctx := ⟨Try.prog, TT, [e_s_l2Less, e_s_l7Cross], [], [], [], [], []⟩
theorem k_s_l7Turn (x : PMs.den e_s_l7Turn.ps) : funK c_s_l7Turn Try.f124 e_s_l7Turn.ps e_s_l7Turn.rs x = e_s_l7Turn.F x := by kernel_rfl
theorem o_s_l7Turn : FnOk Try.prog e_s_l7Turn.f ∧ Ctr Try.prog e_s_l7Turn := mkCtr (C := c_s_l7Turn) m_ (⟨o_s_l2Less, o_s_l7Cross, trivial⟩) Try.func124 (by kernel_rfl) k_s_l7Turn
/-! loop.example/g00959/spec.l7Hull -/
noncomputable def s_l7Hull_s12 (v1 : List (List Int) × Int) (v4 : List Int) (v5 : List (List Int)) : Option ((List (List Int)) ⊕ (List (List Int))) :=
 cond (decide ((v5.length : Int) ≥ (IntKind.i64.wrap ((v1.1.length : Int) + (2 : Int)))))
 ((inIdx v5.length (IntKind.i64.wrap ((v5.length : Int) - (2 : Int)))).bind fun _ => (idx v5 (((IntKind.i64.wrap ((v5.length : Int) - (2 : Int)))).toNat : Int)).bind fun v6 => (inIdx v5.length (IntKind.i64.wrap ((v5.length : Int) - (1 : Int)))).bind fun _ => (idx v5 (((IntKind.i64.wrap ((v5.length : Int) - (1 : Int)))).toNat : Int)).bind fun v7 => (s_l7Turn v6 v7 v4).bind fun v8 => cond (decide (v8 ≤ (0 : Int)))
 ((subl v5 0 (IntKind.i64.wrap ((v5.length : Int) - (1 : Int)))).bind fun v9 => some (.inl v9))
 (some (.inr v5)))
 (some (.inr v5))
noncomputable def s_l7Hull_s12b16 (v1 : List (List Int) × Int) (v3 : List Int) (v12 : List (List Int)) : Option ((List (List Int)) ⊕ (List (List Int))) :=
 cond (decide ((v12.length : Int) ≥ (IntKind.i64.wrap ((v1.1.length : Int) + (2 : Int)))))
 ((inIdx v12.length (IntKind.i64.wrap ((v12.length : Int) - (2 : Int)))).bind fun _ => (idx v12 (((IntKind.i64.wrap ((v12.length : Int) - (2 : Int)))).toNat : Int)).bind fun v13 => (inIdx v12.length (IntKind.i64.wrap ((v12.length : Int) - (1 : Int)))).bind fun _ => (idx v12 (((IntKind.i64.wrap ((v12.length : Int) - (1 : Int)))).toNat : Int)).bind fun v14 => (s_l7Turn v13 v14 v3).bind fun v15 => cond (decide (v15 ≤ (0 : Int)))
 ((subl v12 0 (IntKind.i64.wrap ((v12.length : Int) - (1 : Int)))).bind fun v16 => some (.inl v16))
 (some (.inr v12)))
 (some (.inr v12))
noncomputable def s_l7Hull_s7 (x0 : List (List Int)) (v1 : List (List Int) × Int) (v2 : List (List Int) × Int) : Option ((List (List Int) × Int) ⊕ (List (List Int))) :=
 cond (decide (v2.2 < (x0.length : Int)))
 ((idx x0 v2.2).bind fun v3 => cond (v1.2 == (1 : Int))
 ((idx x0 (IntKind.i64.wrap ((IntKind.i64.wrap ((x0.length : Int) - (1 : Int))) - v2.2))).bind fun v4 => (iter (s_l7Hull_s12 v1 v4) v2.1).bind fun v10 => (appD 24 v10 ([v4] : List (List Int))).bind fun v11 => some (.inl (v11, (IntKind.i64.wrap (v2.2 + (1 : Int))))))
 ((iter (s_l7Hull_s12b16 v1 v3) v2.1).bind fun v17 => (appD 24 v17 ([v3] : List (List Int))).bind fun v18 => some (.inl (v18, (IntKind.i64.wrap (v2.2 + (1 : Int)))))))
 (some (.inr v2.1))
noncomputable def s_l7Hull_s3 (x0 : List (List Int)) (v1 : List (List Int) × Int) : Option ((List (List Int) × Int) ⊕ (List (List Int))) :=
 cond (decide (v1.2 < (2 : Int)))
 ((iter (s_l7Hull_s7 x0 v1) (v1.1, (0 : Int))).bind fun v19 => (subl v19 0 (IntKind.i64.wrap ((v19.length : Int) - (1 : Int)))).bind fun v20 => some (.inl (v20, (IntKind.i64.wrap (v1.2 + (1 : Int))))))
 (some (.inr v1.1))
noncomputable def s_l7Hull (x0 : List (List Int)) : Option (List (List Int)) :=
(iter (s_l7Hull_s3 x0) (([] : List (List Int)), (0 : Int))).bind fun v21 => some v21
noncomputable def e_s_l7Hull : CallE := ⟨110, [.d false (.list (.list (.int .i64)))], [.l (.o false 25 (.list (.int .i64)))], fun x => s_l7Hull x⟩
noncomputable def c_s_l7Hull : Ctx := ⟨Try.prog, TT, [e_s_l7Turn], [⟨3, [(3, .l (.o false 25 (.list (.int .i64)))), (4, .l (.d false (.int .i64)))], some (0, [(3, .l (.o false 25 (.list (.int .i64))))]), none, false⟩, ⟨7, [(3, .l (.o false 25 (.list (.int .i64)))), (6, .l (.d false (.int .i64)))], some (2, [(3, .l (.o false 25 (.list (.int .i64))))]), none, false⟩, ⟨12, [(3, .l (.o false 25 (.list (.int .i64))))], some (4, [(3, .l (.o false 25 (.list (.int .i64))))]), none, false⟩], [], [], [], []⟩
theorem k_s_l7Hull (x : PMs.den e_s_l7Hull.ps) : funK c_s_l7Hull Try.f110 e_s_l7Hull.ps e_s_l7Hull.rs x = e_s_l7Hull.F x := by kernel_rfl
theorem o_s_l7Hull : FnOk Try.prog e_s_l7Hull.f ∧ Ctr Try.prog e_s_l7Hull := mkCtr (C := c_s_l7Hull) m_ (⟨o_s_l7Turn, trivial⟩) Try.func110 (by kernel_rfl) k_s_l7Hull
/-! loop.example/g00959/spec.l7Copy -/
noncomputable def s_l7Copy_s3 (x0 : List (List Int)) (v1 : List (List Int) × Int) : Option ((List (List Int) × Int) ⊕ (List (List Int))) :=
 cond (decide (v1.2 < (x0.length : Int)))
 ((idx x0 v1.2).bind fun v2 => (appD 8 ([] : List Int) v2).bind fun v3 => (appD 24 v1.1 ([v3] : List (List Int))).bind fun v4 => some (.inl (v4, (IntKind.i64.wrap (v1.2 + (1 : Int))))))
 (some (.inr v1.1))
noncomputable def s_l7Copy (x0 : List (List Int)) : Option (List (List Int)) :=
(iter (s_l7Copy_s3 x0) (([] : List (List Int)), (0 : Int))).bind fun v5 => some v5
noncomputable def e_s_l7Copy : CallE := ⟨111, [.d false (.list (.list (.int .i64)))], [.l (.o true 25 (.list (.int .i64)))], fun x => s_l7Copy x⟩
noncomputable def c_s_l7Copy : Ctx := ⟨Try.prog, TT, [], [⟨3, [(3, .l (.o true 25 (.list (.int .i64)))), (4, .l (.d false (.int .i64)))], some (0, [(3, .l (.o true 25 (.list (.int .i64))))]), none, false⟩], [], [], [], []⟩
theorem k_s_l7Copy (x : PMs.den e_s_l7Copy.ps) : funK c_s_l7Copy Try.f111 e_s_l7Copy.ps e_s_l7Copy.rs x = e_s_l7Copy.F x := by kernel_rfl
theorem o_s_l7Copy : FnOk Try.prog e_s_l7Copy.f ∧ Ctr Try.prog e_s_l7Copy := mkCtr (C := c_s_l7Copy) m_ (trivial) Try.func111 (by kernel_rfl) k_s_l7Copy
/-! loop.example/g00959/spec.HullOf -/
noncomputable def s_HullOf_s5 (x0 : List (List Int)) (v2 : List (List Int) × Int) : Option ((List (List Int) × Int) ⊕ (List (List Int))) :=
 cond (decide (v2.2 < (x0.length : Int)))
 ((idx x0 v2.2).bind fun v3 => (s_l2Put v2.1 v3).bind fun v4 => some (.inl (v4, (IntKind.i64.wrap (v2.2 + (1 : Int))))))
 (some (.inr v2.1))
noncomputable def s_HullOf (x0 : List (List Int)) : Option (List (List Int) × Bool) :=
 cond (decide ((x0.length : Int) > (200 : Int)))
 (some (([] : List (List Int)), false))
 ((s_l7Flat x0).bind fun v1 => cond (!v1)
 (some (([] : List (List Int)), false))
 ((iter (s_HullOf_s5 x0) (([] : List (List Int)), (0 : Int))).bind fun v5 => cond (decide ((v5.length : Int) < (3 : Int)))
 (some (([] : List (List Int)), false))
 ((s_l7Hull v5).bind fun v6 => cond (decide ((v6.length : Int) < (3 : Int)))
 (some (([] : List (List Int)), false))
 (cond (decide ((v6.length : Int) > (12 : Int)))
 (some (([] : List (List Int)), false))
 ((s_l7Copy v6).bind fun v7 => some (v7, true))))))
noncomputable def e_s_HullOf : CallE := ⟨75, [.d false (.list (.list (.int .i64)))], [.l (.o true 25 (.list (.int .i64))), .l (.d false .bool)], fun x => s_HullOf x⟩
noncomputable def c_s_HullOf : Ctx := ⟨Try.prog, TT, [e_s_l7Flat, e_s_l2Put, e_s_l7Hull, e_s_l7Copy], [⟨5, [(4, .l (.o false 25 (.list (.int .i64)))), (5, .l (.d false (.int .i64)))], some (0, [(4, .l (.o false 25 (.list (.int .i64))))]), none, false⟩], [], [], [], []⟩
theorem k_s_HullOf (x : PMs.den e_s_HullOf.ps) : funK c_s_HullOf Try.f75 e_s_HullOf.ps e_s_HullOf.rs x = e_s_HullOf.F x := by kernel_rfl
theorem o_s_HullOf : FnOk Try.prog e_s_HullOf.f ∧ Ctr Try.prog e_s_HullOf := mkCtr (C := c_s_HullOf) m_ (⟨o_s_l7Flat, o_s_l2Put, o_s_l7Hull, o_s_l7Copy, trivial⟩) Try.func75 (by kernel_rfl) k_s_HullOf
/-! loop.example/g00959/spec.l1Once -/
noncomputable def s_l1Once (x0 : (List Int) × Int × Int) (x1 : Int) : Option ((Bool) × ((List Int) × Int × Int) × Unit) :=
(s_l1Below (x0.1, (x0.2.1, x0.2.2)) x1).bind fun v1 => some ((v1.1 == (0 : Int)), ((v1.2.1.1, (v1.2.1.2.1, v1.2.1.2.2)), ()))
noncomputable def e_s_l1Once : CallE := ⟨61, [.cur 73, .d false (.int .i64)], [.l (.d false .bool)], fun x => s_l1Once x.1 x.2⟩
noncomputable def c_s_l1Once : Ctx := ⟨Try.prog, TT, [e_s_l1Below], [], [], [], [], []⟩
theorem k_s_l1Once (x : PMs.den e_s_l1Once.ps) : funK c_s_l1Once Try.f61 e_s_l1Once.ps e_s_l1Once.rs x = e_s_l1Once.F x := by kernel_rfl
theorem o_s_l1Once : FnOk Try.prog e_s_l1Once.f ∧ Ctr Try.prog e_s_l1Once := mkCtr (C := c_s_l1Once) m_ (⟨o_s_l1Below, trivial⟩) Try.func61 (by kernel_rfl) k_s_l1Once
/-! loop.example/g00959/spec.l1Bit -/
noncomputable def s_l1Bit (x0 : Bool) : Option (Int) :=
 cond x0
 (some (1 : Int))
 (some (0 : Int))
noncomputable def e_s_l1Bit : CallE := ⟨60, [.d false .bool], [.l (.d false (.int .i64))], fun x => s_l1Bit x⟩
noncomputable def c_s_l1Bit : Ctx := ⟨Try.prog, TT, [], [], [], [], [], []⟩
theorem k_s_l1Bit (x : PMs.den e_s_l1Bit.ps) : funK c_s_l1Bit Try.f60 e_s_l1Bit.ps e_s_l1Bit.rs x = e_s_l1Bit.F x := by kernel_rfl
theorem o_s_l1Bit : FnOk Try.prog e_s_l1Bit.f ∧ Ctr Try.prog e_s_l1Bit := mkCtr (C := c_s_l1Bit) m_ (trivial) Try.func60 (by kernel_rfl) k_s_l1Bit
/-! loop.example/g00959/spec.DrawPlaceOf -/
noncomputable def s_DrawPlaceOf_s57_3 (x0 : List Int) (v1 : Int × Int) : Option ((Int × Int) ⊕ (Int)) :=
 cond (decide (v1.2 < (x0.length : Int)))
 (cond (decide (v1.2 < (4000 : Int)))
 ((idx x0 v1.2).bind fun v2 => some (.inl ((andI .i64 (IntKind.i64.wrap ((IntKind.i64.wrap ((IntKind.i64.wrap (v1.1 * (131 : Int))) + (IntKind.i64.wrap v2))) + (7 : Int))) (1073741823 : Int)), (IntKind.i64.wrap (v1.2 + (1 : Int))))))
 (some (.inr v1.1)))
 (some (.inr v1.1))
/-! loop.example/g00959/impl.within -/
noncomputable def i_within (x0 : Int) (x1 : Int) (x2 : Int) : Option (Bool) :=
 cond (decide (x0 ≥ x1))
 (some (decide (x0 ≤ x2)))
 (some false)
noncomputable def e_i_within : CallE := ⟨85, [.d false (.int .i64), .d false (.int .i64), .d false (.int .i64)], [.l (.d false .bool)], fun x => i_within x.1 x.2.1 x.2.2⟩
noncomputable def c_i_within : Ctx := ⟨Try.prog, TT, [], [], [], [], [], []⟩
theorem k_i_within (x : PMs.den e_i_within.ps) : funK c_i_within Try.f85 e_i_within.ps e_i_within.rs x = e_i_within.F x := by kernel_rfl
theorem o_i_within : FnOk Try.prog e_i_within.f ∧ Ctr Try.prog e_i_within := mkCtr (C := c_i_within) m_ (trivial) Try.func85 (by kernel_rfl) k_i_within
/-! loop.example/g00959/impl.allWithin -/
noncomputable def i_allWithin_s2 (x0 : List Int) (x1 : Int) (x2 : Int) (v1 : Int) : Option ((Int) ⊕ ((Unit) ⊕ (Bool))) :=
 cond (decide (v1 < (x0.length : Int)))
 ((idx x0 v1).bind fun v2 => (i_within v2 x1 x2).bind fun v3 => cond (!v3)
 (some (.inr (.inr false)))
 (some (.inl (IntKind.i64.wrap (v1 + (1 : Int))))))
 (some (.inr (.inl ())))
noncomputable def i_allWithin (x0 : List Int) (x1 : Int) (x2 : Int) : Option (Bool) :=
(iter (i_allWithin_s2 x0 x1 x2) (0 : Int)).bind fun v4 => match v4 with
 | .inl v5 => (some true)
 | .inr v6 => (some v6)
noncomputable def e_i_allWithin : CallE := ⟨101, [.d false (.list (.int .i64)), .d false (.int .i64), .d false (.int .i64)], [.l (.d false .bool)], fun x => i_allWithin x.1 x.2.1 x.2.2⟩
noncomputable def c_i_allWithin : Ctx := ⟨Try.prog, TT, [e_i_within], [⟨2, [(11, .l (.d false (.int .i64)))], some (0, []), some [(6, .l (.d false .bool))], false⟩], [], [], [], []⟩
theorem k_i_allWithin (x : PMs.den e_i_allWithin.ps) : funK c_i_allWithin Try.f101 e_i_allWithin.ps e_i_allWithin.rs x = e_i_allWithin.F x := by kernel_rfl
theorem o_i_allWithin : FnOk Try.prog e_i_allWithin.f ∧ Ctr Try.prog e_i_allWithin := mkCtr (C := c_i_allWithin) m_ (⟨o_i_within, trivial⟩) Try.func101 (by kernel_rfl) k_i_allWithin
/-! loop.example/g00959/impl.isPoint -/
noncomputable def i_isPoint (x0 : List Int) (x1 : Int) : Option (Bool) :=
 cond ((x0.length : Int) == (2 : Int))
 ((i_allWithin x0 (IntKind.i64.wrap (0 - x1)) x1).bind fun v1 => some v1)
 (some false)
noncomputable def e_i_isPoint : CallE := ⟨64, [.d false (.list (.int .i64)), .d false (.int .i64)], [.l (.d false .bool)], fun x => i_isPoint x.1 x.2⟩
noncomputable def c_i_isPoint : Ctx := ⟨Try.prog, TT, [e_i_allWithin], [], [], [], [], []⟩
theorem k_i_isPoint (x : PMs.den e_i_isPoint.ps) : funK c_i_isPoint Try.f64 e_i_isPoint.ps e_i_isPoint.rs x = e_i_isPoint.F x := by kernel_rfl
theorem o_i_isPoint : FnOk Try.prog e_i_isPoint.f ∧ Ctr Try.prog e_i_isPoint := mkCtr (C := c_i_isPoint) m_ (⟨o_i_allWithin, trivial⟩) Try.func64 (by kernel_rfl) k_i_isPoint
/-! loop.example/g00959/impl.minus -/
noncomputable def i_minus (x0 : List Int) (x1 : List Int) : Option (List Int) :=
(idx x0 (0 : Int)).bind fun v1 => (idx x1 (0 : Int)).bind fun v2 => (idx x0 (1 : Int)).bind fun v3 => (idx x1 (1 : Int)).bind fun v4 => some ([(IntKind.i64.wrap (v1 - v2)), (IntKind.i64.wrap (v3 - v4))] : List Int)
noncomputable def e_i_minus : CallE := ⟨98, [.d false (.list (.int .i64)), .d false (.list (.int .i64))], [.l (.o true 3 (.int .i64))], fun x => i_minus x.1 x.2⟩
noncomputable def c_i_minus : Ctx := ⟨Try.prog, TT, [], [], [], [], [], []⟩
theorem k_i_minus (x : PMs.den e_i_minus.ps) : funK c_i_minus Try.f98 e_i_minus.ps e_i_minus.rs x = e_i_minus.F x := by kernel_rfl
theorem o_i_minus : FnOk Try.prog e_i_minus.f ∧ Ctr Try.prog e_i_minus := mkCtr (C := c_i_minus) m_ (trivial) Try.func98 (by kernel_rfl) k_i_minus
/-! loop.example/g00959/impl.cross -/
noncomputable def i_cross (x0 : List Int) (x1 : List Int) : Option (Int) :=
(idx x0 (0 : Int)).bind fun v1 => (idx x1 (1 : Int)).bind fun v2 => (idx x0 (1 : Int)).bind fun v3 => (idx x1 (0 : Int)).bind fun v4 => some (IntKind.i64.wrap ((IntKind.i64.wrap (v1 * v2)) - (IntKind.i64.wrap (v3 * v4))))
noncomputable def e_i_cross : CallE := ⟨117, [.d false (.list (.int .i64)), .d false (.list (.int .i64))], [.l (.d false (.int .i64))], fun x => i_cross x.1 x.2⟩
noncomputable def c_i_cross : Ctx := ⟨Try.prog, TT, [], [], [], [], [], []⟩
theorem k_i_cross (x : PMs.den e_i_cross.ps) : funK c_i_cross Try.f117 e_i_cross.ps e_i_cross.rs x = e_i_cross.F x := by kernel_rfl
theorem o_i_cross : FnOk Try.prog e_i_cross.f ∧ Ctr Try.prog e_i_cross := mkCtr (C := c_i_cross) m_ (trivial) Try.func117 (by kernel_rfl) k_i_cross
/-! loop.example/g00959/impl.turn -/
noncomputable def i_turn (x0 : List Int) (x1 : List Int) (x2 : List Int) : Option (Int) :=
(i_minus x1 x0).bind fun v1 => (i_minus x2 x0).bind fun v2 => (i_cross v1 v2).bind fun v3 => some v3
noncomputable def e_i_turn : CallE := ⟨99, [.d false (.list (.int .i64)), .d false (.list (.int .i64)), .d false (.list (.int .i64))], [.l (.d false (.int .i64))], fun x => i_turn x.1 x.2.1 x.2.2⟩
noncomputable def c_i_turn : Ctx := ⟨Try.prog, TT, [e_i_minus, e_i_cross], [], [], [], [], []⟩
theorem k_i_turn (x : PMs.den e_i_turn.ps) : funK c_i_turn Try.f99 e_i_turn.ps e_i_turn.rs x = e_i_turn.F x := by kernel_rfl
theorem o_i_turn : FnOk Try.prog e_i_turn.f ∧ Ctr Try.prog e_i_turn := mkCtr (C := c_i_turn) m_ (⟨o_i_minus, o_i_cross, trivial⟩) Try.func99 (by kernel_rfl) k_i_turn
/-! cmp.isNaN[int] -/
noncomputable def g_cmp_isNaN (x0 : Int) : Option (Bool) :=
 some (x0 != x0)
noncomputable def e_g_cmp_isNaN : CallE := ⟨128, [.d false (.int .i64)], [.l (.d false .bool)], fun x => g_cmp_isNaN x⟩
noncomputable def c_g_cmp_isNaN : Ctx := ⟨Try.prog, TT, [], [], [], [], [], []⟩
theorem k_g_cmp_isNaN (x : PMs.den e_g_cmp_isNaN.ps) : funK c_g_cmp_isNaN Try.f128 e_g_cmp_isNaN.ps e_g_cmp_isNaN.rs x = e_g_cmp_isNaN.F x := by kernel_rfl
theorem o_g_cmp_isNaN : FnOk Try.prog e_g_cmp_isNaN.f ∧ Ctr Try.prog e_g_cmp_isNaN := mkCtr (C := c_g_cmp_isNaN) m_ (trivial) Try.func128 (by kernel_rfl) k_g_cmp_isNaN
/-! cmp.Compare[int] -/
noncomputable def g_cmp_Compare (x0 : Int) (x1 : Int) : Option (Int) :=
(g_cmp_isNaN x0).bind fun v1 => (g_cmp_isNaN x1).bind fun v2 => cond v1
 (cond v2
 (some (0 : Int))
 (some (-1 : Int)))
 (cond v2
 (some (1 : Int))
 (cond (decide (x0 < x1))
 (some (-1 : Int))
 (cond (decide (x0 > x1))
 (some (1 : Int))
 (some (0 : Int)))))
noncomputable def e_g_cmp_Compare : CallE := ⟨122, [.d false (.int .i64), .d false (.int .i64)], [.l (.d false (.int .i64))], fun x => g_cmp_Compare x.1 x.2⟩
noncomputable def c_g_cmp_Compare : Ctx := ⟨Try.prog, TT, [e_g_cmp_isNaN], [], [], [], [], []⟩
theorem k_g_cmp_Compare (x : PMs.den e_g_cmp_Compare.ps) : funK c_g_cmp_Compare Try.f122 e_g_cmp_Compare.ps e_g_cmp_Compare.rs x = e_g_cmp_Compare.F x := by kernel_rfl
theorem o_g_cmp_Compare : FnOk Try.prog e_g_cmp_Compare.f ∧ Ctr Try.prog e_g_cmp_Compare := mkCtr (C := c_g_cmp_Compare) m_ (⟨o_g_cmp_isNaN, trivial⟩) Try.func122 (by kernel_rfl) k_g_cmp_Compare
/-! slices.Compare[[]int,int] -/
noncomputable def g_slices_Compare_s2 (x0 : List Int) (x1 : List Int) (v1 : Int) : Option ((Int) ⊕ ((Unit) ⊕ (Int))) :=
 cond (decide (v1 < (x0.length : Int)))
 ((idx x0 v1).bind fun v2 => cond (decide (v1 ≥ (x1.length : Int)))
 (some (.inr (.inr (1 : Int))))
 ((idx x1 v1).bind fun v3 => (g_cmp_Compare v2 v3).bind fun v4 => cond (v4 != (0 : Int))
 (some (.inr (.inr v4)))
 (some (.inl (IntKind.i64.wrap (v1 + (1 : Int)))))))
 (some (.inr (.inl ())))
noncomputable def g_slices_Compare (x0 : List Int) (x1 : List Int) : Option (Int) :=
(iter (g_slices_Compare_s2 x0 x1) (0 : Int)).bind fun v5 => match v5 with
 | .inl v6 => (cond (decide ((x0.length : Int) < (x1.length : Int)))
 (some (-1 : Int))
 (some (0 : Int)))
 | .inr v7 => (some v7)
noncomputable def e_g_slices_Compare : CallE := ⟨100, [.d false (.list (.int .i64)), .d false (.list (.int .i64))], [.l (.d false (.int .i64))], fun x => g_slices_Compare x.1 x.2⟩
noncomputable def c_g_slices_Compare : Ctx := ⟨Try.prog, TT, [e_g_cmp_Compare], [⟨2, [(11, .l (.d false (.int .i64)))], some (0, []), some [(4, .l (.d false (.int .i64)))], false⟩], [], [], [], []⟩
theorem k_g_slices_Compare (x : PMs.den e_g_slices_Compare.ps) : funK c_g_slices_Compare Try.f100 e_g_slices_Compare.ps e_g_slices_Compare.rs x = e_g_slices_Compare.F x := by kernel_rfl
theorem o_g_slices_Compare : FnOk Try.prog e_g_slices_Compare.f ∧ Ctr Try.prog e_g_slices_Compare := mkCtr (C := c_g_slices_Compare) m_ (⟨o_g_cmp_Compare, trivial⟩) Try.func100 (by kernel_rfl) k_g_slices_Compare
/-! loop.example/g00959/impl.IsPolygon -/
noncomputable def i_IsPolygon_s4 (x0 : List (List Int)) (v2 : Int) : Option ((Int) ⊕ ((Unit) ⊕ (Bool))) :=
 cond (decide (v2 < (x0.length : Int)))
 ((idx x0 v2).bind fun v3 => (i_isPoint v3 (50 : Int)).bind fun v4 => cond (!v4)
 (some (.inr (.inr false)))
 (some (.inl (IntKind.i64.wrap (v2 + (1 : Int))))))
 (some (.inr (.inl ())))
noncomputable def i_IsPolygon_s11 (x0 : List (List Int)) (v8 : Int) : Option ((Int) ⊕ ((Unit) ⊕ (Bool))) :=
 cond (decide (v8 < (x0.length : Int)))
 ((idx x0 v8).bind fun v9 => (remI .i64 (IntKind.i64.wrap (v8 + (1 : Int))) (x0.length : Int)).bind fun v10 => (idx x0 v10).bind fun v11 => (remI .i64 (IntKind.i64.wrap (v8 + (2 : Int))) (x0.length : Int)).bind fun v12 => (idx x0 v12).bind fun v13 => (i_turn v9 v11 v13).bind fun v14 => cond (decide (v14 ≤ (0 : Int)))
 (some (.inr (.inr false)))
 (cond (decide (v8 > (0 : Int)))
 ((idx x0 (0 : Int)).bind fun v15 => (g_slices_Compare v15 v9).bind fun v16 => cond (decide (v16 ≥ (0 : Int)))
 (some (.inr (.inr false)))
 (cond (decide (v8 > (0 : Int)))
 (cond (decide (v8 < (IntKind.i64.wrap ((x0.length : Int) - (1 : Int)))))
 ((idx x0 (0 : Int)).bind fun v17 => (idx x0 (IntKind.i64.wrap (v8 + (1 : Int)))).bind fun v18 => (i_turn v17 v9 v18).bind fun v19 => cond (decide (v19 ≤ (0 : Int)))
 (some (.inr (.inr false)))
 (some (.inl (IntKind.i64.wrap (v8 + (1 : Int))))))
 (some (.inl (IntKind.i64.wrap (v8 + (1 : Int))))))
 (some (.inl (IntKind.i64.wrap (v8 + (1 : Int)))))))
 (cond (decide (v8 > (0 : Int)))
 (cond (decide (v8 < (IntKind.i64.wrap ((x0.length : Int) - (1 : Int)))))
 ((idx x0 (0 : Int)).bind fun v20 => (idx x0 (IntKind.i64.wrap (v8 + (1 : Int)))).bind fun v21 => (i_turn v20 v9 v21).bind fun v22 => cond (decide (v22 ≤ (0 : Int)))
 (some (.inr (.inr false)))
 (some (.inl (IntKind.i64.wrap (v8 + (1 : Int))))))
 (some (.inl (IntKind.i64.wrap (v8 + (1 : Int))))))
 (some (.inl (IntKind.i64.wrap (v8 + (1 : Int))))))))
 (some (.inr (.inl ())))
noncomputable def i_IsPolygon (x0 : List (List Int)) : Option (Bool) :=
(i_within (x0.length : Int) (3 : Int) (12 : Int)).bind fun v1 => cond (!v1)
 (some false)
 ((iter (i_IsPolygon_s4 x0) (0 : Int)).bind fun v5 => match v5 with
 | .inl v6 => ((iter (i_IsPolygon_s11 x0) (0 : Int)).bind fun v23 => match v23 with
 | .inl v24 => (some true)
 | .inr v25 => (some v25))
 | .inr v7 => (some v7))
noncomputable def e_i_IsPolygon : CallE := ⟨53, [.d false (.list (.list (.int .i64)))], [.l (.d false .bool)], fun x => i_IsPolygon x⟩
noncomputable def c_i_IsPolygon : Ctx := ⟨Try.prog, TT, [e_i_within, e_i_isPoint, e_i_turn, e_g_slices_Compare], [⟨4, [(14, .l (.d false (.int .i64)))], some (0, []), some [(2, .l (.d false .bool))], false⟩, ⟨11, [(26, .l (.d false (.int .i64)))], some (2, []), some [(2, .l (.d false .bool))], false⟩], [], [], [], []⟩
theorem k_i_IsPolygon (x : PMs.den e_i_IsPolygon.ps) : funK c_i_IsPolygon Try.f53 e_i_IsPolygon.ps e_i_IsPolygon.rs x = e_i_IsPolygon.F x := by kernel_rfl
theorem o_i_IsPolygon : FnOk Try.prog e_i_IsPolygon.f ∧ Ctr Try.prog e_i_IsPolygon := mkCtr (C := c_i_IsPolygon) m_ (⟨o_i_within, o_i_isPoint, o_i_turn, o_g_slices_Compare, trivial⟩) Try.func53 (by kernel_rfl) k_i_IsPolygon
/-! loop.example/g00959/impl.copyInts -/
noncomputable def i_copyInts (x0 : List Int) : Option (List Int) :=
(appD 8 ([] : List Int) x0).bind fun v1 => some v1
noncomputable def e_i_copyInts : CallE := ⟨104, [.d false (.list (.int .i64))], [.l (.o true 3 (.int .i64))], fun x => i_copyInts x⟩
noncomputable def c_i_copyInts : Ctx := ⟨Try.prog, TT, [], [], [], [], [], []⟩
theorem k_i_copyInts (x : PMs.den e_i_copyInts.ps) : funK c_i_copyInts Try.f104 e_i_copyInts.ps e_i_copyInts.rs x = e_i_copyInts.F x := by kernel_rfl
theorem o_i_copyInts : FnOk Try.prog e_i_copyInts.f ∧ Ctr Try.prog e_i_copyInts := mkCtr (C := c_i_copyInts) m_ (trivial) Try.func104 (by kernel_rfl) k_i_copyInts
/-! loop.example/g00959/spec.l7SameList -/
noncomputable def s_l7SameList_s4 (x0 : List (List Int)) (x1 : List (List Int)) (v1 : Int) : Option ((Int) ⊕ ((Unit) ⊕ (Bool))) :=
 cond (decide (v1 < (x0.length : Int)))
 ((idx x0 v1).bind fun v2 => (idx x1 v1).bind fun v3 => (s_l2Same v2 v3).bind fun v4 => cond (!v4)
 (some (.inr (.inr false)))
 (some (.inl (IntKind.i64.wrap (v1 + (1 : Int))))))
 (some (.inr (.inl ())))
noncomputable def s_l7SameList (x0 : List (List Int)) (x1 : List (List Int)) : Option (Bool) :=
 cond ((x0.length : Int) != (x1.length : Int))
 (some false)
 ((iter (s_l7SameList_s4 x0 x1) (0 : Int)).bind fun v5 => match v5 with
 | .inl v6 => (some true)
 | .inr v7 => (some v7))
noncomputable def e_s_l7SameList : CallE := ⟨76, [.d false (.list (.list (.int .i64))), .d false (.list (.list (.int .i64)))], [.l (.d false .bool)], fun x => s_l7SameList x.1 x.2⟩
noncomputable def c_s_l7SameList : Ctx := ⟨Try.prog, TT, [e_s_l2Same], [⟨4, [(5, .l (.d false (.int .i64)))], some (0, []), some [(4, .l (.d false .bool))], false⟩], [], [], [], []⟩
theorem k_s_l7SameList (x : PMs.den e_s_l7SameList.ps) : funK c_s_l7SameList Try.f76 e_s_l7SameList.ps e_s_l7SameList.rs x = e_s_l7SameList.F x := by kernel_rfl
theorem o_s_l7SameList : FnOk Try.prog e_s_l7SameList.f ∧ Ctr Try.prog e_s_l7SameList := mkCtr (C := c_s_l7SameList) m_ (⟨o_s_l2Same, trivial⟩) Try.func76 (by kernel_rfl) k_s_l7SameList
/-! loop.example/g00959/spec.IsPolygon -/
noncomputable def s_IsPolygon (x0 : List (List Int)) : Option (Bool) :=
(s_l1In (x0.length : Int) (3 : Int) (12 : Int)).bind fun v1 => cond (!v1)
 (some false)
 ((s_l7Flat x0).bind fun v2 => cond (!v2)
 (some false)
 ((s_HullOf x0).bind fun v3 => cond v3.2
 ((s_l7SameList v3.1 x0).bind fun v4 => some v4)
 (some false)))
noncomputable def e_s_IsPolygon : CallE := ⟨23, [.d false (.list (.list (.int .i64)))], [.l (.d false .bool)], fun x => s_IsPolygon x⟩
noncomputable def c_s_IsPolygon : Ctx := ⟨Try.prog, TT, [e_s_l1In, e_s_l7Flat, e_s_HullOf, e_s_l7SameList], [], [], [], [], []⟩
theorem k_s_IsPolygon (x : PMs.den e_s_IsPolygon.ps) : funK c_s_IsPolygon Try.f23 e_s_IsPolygon.ps e_s_IsPolygon.rs x = e_s_IsPolygon.F x := by kernel_rfl
theorem o_s_IsPolygon : FnOk Try.prog e_s_IsPolygon.f ∧ Ctr Try.prog e_s_IsPolygon := mkCtr (C := c_s_IsPolygon) m_ (⟨o_s_l1In, o_s_l7Flat, o_s_HullOf, o_s_l7SameList, trivial⟩) Try.func23 (by kernel_rfl) k_s_IsPolygon
/-! loop.example/g00959/spec.l1Max -/
noncomputable def s_l1Max (x0 : Int) (x1 : Int) : Option (Int) :=
 cond (decide (x0 > x1))
 (some x0)
 (some x1)
noncomputable def e_s_l1Max : CallE := ⟨94, [.d false (.int .i64), .d false (.int .i64)], [.l (.d false (.int .i64))], fun x => s_l1Max x.1 x.2⟩
noncomputable def c_s_l1Max : Ctx := ⟨Try.prog, TT, [], [], [], [], [], []⟩
theorem k_s_l1Max (x : PMs.den e_s_l1Max.ps) : funK c_s_l1Max Try.f94 e_s_l1Max.ps e_s_l1Max.rs x = e_s_l1Max.F x := by kernel_rfl
theorem o_s_l1Max : FnOk Try.prog e_s_l1Max.f ∧ Ctr Try.prog e_s_l1Max := mkCtr (C := c_s_l1Max) m_ (trivial) Try.func94 (by kernel_rfl) k_s_l1Max
/-! loop.example/g00959/spec.l2Scale -/
noncomputable def s_l2Scale_s3 (x0 : List Int) (x1 : Int) (v1 : List Int × Int) : Option ((List Int × Int) ⊕ (List Int)) :=
 cond (decide (v1.2 < (x0.length : Int)))
 ((idx x0 v1.2).bind fun v2 => (appD 8 v1.1 ([(IntKind.i64.wrap (v2 * x1))] : List Int)).bind fun v3 => some (.inl (v3, (IntKind.i64.wrap (v1.2 + (1 : Int))))))
 (some (.inr v1.1))
noncomputable def s_l2Scale (x0 : List Int) (x1 : Int) : Option (List Int) :=
(iter (s_l2Scale_s3 x0 x1) (([] : List Int), (0 : Int))).bind fun v4 => some v4
noncomputable def e_s_l2Scale : CallE := ⟨66, [.d false (.list (.int .i64)), .d false (.int .i64)], [.l (.o true 3 (.int .i64))], fun x => s_l2Scale x.1 x.2⟩
noncomputable def c_s_l2Scale : Ctx := ⟨Try.prog, TT, [], [⟨3, [(5, .l (.o true 3 (.int .i64))), (6, .l (.d false (.int .i64)))], some (0, [(5, .l (.o true 3 (.int .i64)))]), none, false⟩], [], [], [], []⟩
theorem k_s_l2Scale (x : PMs.den e_s_l2Scale.ps) : funK c_s_l2Scale Try.f66 e_s_l2Scale.ps e_s_l2Scale.rs x = e_s_l2Scale.F x := by kernel_rfl
theorem o_s_l2Scale : FnOk Try.prog e_s_l2Scale.f ∧ Ctr Try.prog e_s_l2Scale := mkCtr (C := c_s_l2Scale) m_ (trivial) Try.func66 (by kernel_rfl) k_s_l2Scale
/-! loop.example/g00959/laws.sameInts -/
noncomputable def w_sameInts_s4 (x0 : List Int) (x1 : List Int) (v1 : Int) : Option ((Int) ⊕ ((Unit) ⊕ (Bool))) :=
 cond (decide (v1 < (x0.length : Int)))
 ((idx x0 v1).bind fun v2 => (idx x1 v1).bind fun v3 => cond (v2 != v3)
 (some (.inr (.inr false)))
 (some (.inl (IntKind.i64.wrap (v1 + (1 : Int))))))
 (some (.inr (.inl ())))
noncomputable def w_sameInts (x0 : List Int) (x1 : List Int) : Option (Bool) :=
 cond ((x0.length : Int) != (x1.length : Int))
 (some false)
 ((iter (w_sameInts_s4 x0 x1) (0 : Int)).bind fun v4 => match v4 with
 | .inl v5 => (some true)
 | .inr v6 => (some v6))
noncomputable def e_w_sameInts : CallE := ⟨18, [.d false (.list (.int .i64)), .d false (.list (.int .i64))], [.l (.d false .bool)], fun x => w_sameInts x.1 x.2⟩
noncomputable def c_w_sameInts : Ctx := ⟨Try.prog, TT, [], [⟨4, [(5, .l (.d false (.int .i64)))], some (0, []), some [(4, .l (.d false .bool))], false⟩], [], [], [], []⟩
theorem k_w_sameInts (x : PMs.den e_w_sameInts.ps) : funK c_w_sameInts Try.f18 e_w_sameInts.ps e_w_sameInts.rs x = e_w_sameInts.F x := by kernel_rfl
theorem o_w_sameInts : FnOk Try.prog e_w_sameInts.f ∧ Ctr Try.prog e_w_sameInts := mkCtr (C := c_w_sameInts) m_ (trivial) Try.func18 (by kernel_rfl) k_w_sameInts
/-! loop.example/g00959/laws.sameLists -/
noncomputable def w_sameLists_s4 (x0 : List (List Int)) (x1 : List (List Int)) (v1 : Int) : Option ((Int) ⊕ ((Unit) ⊕ (Bool))) :=
 cond (decide (v1 < (x0.length : Int)))
 ((idx x0 v1).bind fun v2 => (idx x1 v1).bind fun v3 => (w_sameInts v2 v3).bind fun v4 => cond (!v4)
 (some (.inr (.inr false)))
 (some (.inl (IntKind.i64.wrap (v1 + (1 : Int))))))
 (some (.inr (.inl ())))
noncomputable def w_sameLists (x0 : List (List Int)) (x1 : List (List Int)) : Option (Bool) :=
 cond ((x0.length : Int) != (x1.length : Int))
 (some false)
 ((iter (w_sameLists_s4 x0 x1) (0 : Int)).bind fun v5 => match v5 with
 | .inl v6 => (some true)
 | .inr v7 => (some v7))
noncomputable def e_w_sameLists : CallE := ⟨15, [.d false (.list (.list (.int .i64))), .d false (.list (.list (.int .i64)))], [.l (.d false .bool)], fun x => w_sameLists x.1 x.2⟩
noncomputable def c_w_sameLists : Ctx := ⟨Try.prog, TT, [e_w_sameInts], [⟨4, [(5, .l (.d false (.int .i64)))], some (0, []), some [(4, .l (.d false .bool))], false⟩], [], [], [], []⟩
theorem k_w_sameLists (x : PMs.den e_w_sameLists.ps) : funK c_w_sameLists Try.f15 e_w_sameLists.ps e_w_sameLists.rs x = e_w_sameLists.F x := by kernel_rfl
theorem o_w_sameLists : FnOk Try.prog e_w_sameLists.f ∧ Ctr Try.prog e_w_sameLists := mkCtr (C := c_w_sameLists) m_ (⟨o_w_sameInts, trivial⟩) Try.func15 (by kernel_rfl) k_w_sameLists
/-! loop.example/g00959/spec.l7Area -/
noncomputable def s_l7Area_s3 (x0 : List (List Int)) (v1 : Int × Int) : Option ((Int × Int) ⊕ (Int)) :=
 cond (decide (v1.2 < (x0.length : Int)))
 ((idx x0 v1.2).bind fun v2 => (remI .i64 (IntKind.i64.wrap (v1.2 + (1 : Int))) (x0.length : Int)).bind fun v3 => (idx x0 v3).bind fun v4 => (s_l7Cross v2 v4).bind fun v5 => some (.inl ((IntKind.i64.wrap (v1.1 + v5)), (IntKind.i64.wrap (v1.2 + (1 : Int))))))
 (some (.inr v1.1))
noncomputable def s_l7Area (x0 : List (List Int)) : Option (Int) :=
(iter (s_l7Area_s3 x0) ((0 : Int), (0 : Int))).bind fun v6 => some v6
noncomputable def e_s_l7Area : CallE := ⟨68, [.d false (.list (.list (.int .i64)))], [.l (.d false (.int .i64))], fun x => s_l7Area x⟩
noncomputable def c_s_l7Area : Ctx := ⟨Try.prog, TT, [e_s_l7Cross], [⟨3, [(3, .l (.d false (.int .i64))), (4, .l (.d false (.int .i64)))], some (0, [(3, .l (.d false (.int .i64)))]), none, false⟩], [], [], [], []⟩
theorem k_s_l7Area (x : PMs.den e_s_l7Area.ps) : funK c_s_l7Area Try.f68 e_s_l7Area.ps e_s_l7Area.rs x = e_s_l7Area.F x := by kernel_rfl
theorem o_s_l7Area : FnOk Try.prog e_s_l7Area.f ∧ Ctr Try.prog e_s_l7Area := mkCtr (C := c_s_l7Area) m_ (⟨o_s_l7Cross, trivial⟩) Try.func68 (by kernel_rfl) k_s_l7Area
/-! loop.example/g00959/spec.l1Abs -/
noncomputable def s_l1Abs (x0 : Int) : Option (Int) :=
(s_l1Max x0 (IntKind.i64.wrap (0 - x0))).bind fun v1 => some v1
noncomputable def e_s_l1Abs : CallE := ⟨118, [.d false (.int .i64)], [.l (.d false (.int .i64))], fun x => s_l1Abs x⟩
noncomputable def c_s_l1Abs : Ctx := ⟨Try.prog, TT, [e_s_l1Max], [], [], [], [], []⟩
theorem k_s_l1Abs (x : PMs.den e_s_l1Abs.ps) : funK c_s_l1Abs Try.f118 e_s_l1Abs.ps e_s_l1Abs.rs x = e_s_l1Abs.F x := by kernel_rfl
theorem o_s_l1Abs : FnOk Try.prog e_s_l1Abs.f ∧ Ctr Try.prog e_s_l1Abs := mkCtr (C := c_s_l1Abs) m_ (⟨o_s_l1Max, trivial⟩) Try.func118 (by kernel_rfl) k_s_l1Abs
/-! loop.example/g00959/spec.l2Gcd -/
noncomputable def s_l2Gcd_s3 (v3 : Int × Int) : Option ((Int × Int) ⊕ (Int)) :=
 cond (v3.2 != (0 : Int))
 ((remI .i64 v3.1 v3.2).bind fun v4 => some (.inl (v3.2, v4)))
 (some (.inr v3.1))
noncomputable def s_l2Gcd (x0 : Int) (x1 : Int) : Option (Int) :=
(s_l1Abs x0).bind fun v1 => (s_l1Abs x1).bind fun v2 => (iter (s_l2Gcd_s3) (v1, v2)).bind fun v5 => some v5
noncomputable def e_s_l2Gcd : CallE := ⟨120, [.d false (.int .i64), .d false (.int .i64)], [.l (.d false (.int .i64))], fun x => s_l2Gcd x.1 x.2⟩
noncomputable def c_s_l2Gcd : Ctx := ⟨Try.prog, TT, [e_s_l1Abs], [⟨3, [(0, .l (.d false (.int .i64))), (1, .l (.d false (.int .i64)))], some (0, [(0, .l (.d false (.int .i64)))]), none, false⟩], [], [], [], []⟩
theorem k_s_l2Gcd (x : PMs.den e_s_l2Gcd.ps) : funK c_s_l2Gcd Try.f120 e_s_l2Gcd.ps e_s_l2Gcd.rs x = e_s_l2Gcd.F x := by kernel_rfl
theorem o_s_l2Gcd : FnOk Try.prog e_s_l2Gcd.f ∧ Ctr Try.prog e_s_l2Gcd := mkCtr (C := c_s_l2Gcd) m_ (⟨o_s_l1Abs, trivial⟩) Try.func120 (by kernel_rfl) k_s_l2Gcd
/-! loop.example/g00959/spec.l2All -/
noncomputable def s_l2All_s3 (x0 : List Int) (v1 : Int × Int) : Option ((Int × Int) ⊕ (Int)) :=
 cond (decide (v1.2 < (x0.length : Int)))
 ((idx x0 v1.2).bind fun v2 => (s_l2Gcd v1.1 v2).bind fun v3 => some (.inl (v3, (IntKind.i64.wrap (v1.2 + (1 : Int))))))
 (some (.inr v1.1))
noncomputable def s_l2All (x0 : List Int) : Option (Int) :=
(iter (s_l2All_s3 x0) ((0 : Int), (0 : Int))).bind fun v4 => some v4
noncomputable def e_s_l2All : CallE := ⟨87, [.d false (.list (.int .i64))], [.l (.d false (.int .i64))], fun x => s_l2All x⟩
noncomputable def c_s_l2All : Ctx := ⟨Try.prog, TT, [e_s_l2Gcd], [⟨3, [(3, .l (.d false (.int .i64))), (4, .l (.d false (.int .i64)))], some (0, [(3, .l (.d false (.int .i64)))]), none, false⟩], [], [], [], []⟩
theorem k_s_l2All (x : PMs.den e_s_l2All.ps) : funK c_s_l2All Try.f87 e_s_l2All.ps e_s_l2All.rs x = e_s_l2All.F x := by kernel_rfl
theorem o_s_l2All : FnOk Try.prog e_s_l2All.f ∧ Ctr Try.prog e_s_l2All := mkCtr (C := c_s_l2All) m_ (⟨o_s_l2Gcd, trivial⟩) Try.func87 (by kernel_rfl) k_s_l2All
/-! loop.example/g00959/spec.l7Side -/
noncomputable def s_l7Side (x0 : List (List Int)) (x1 : Int) : Option (Int) :=
(remI .i64 (IntKind.i64.wrap (x1 + (1 : Int))) (x0.length : Int)).bind fun v1 => (idx x0 v1).bind fun v2 => (idx x0 x1).bind fun v3 => (s_l2Less v2 v3).bind fun v4 => (s_l2All v4).bind fun v5 => some v5
noncomputable def e_s_l7Side : CallE := ⟨112, [.d false (.list (.list (.int .i64))), .d false (.int .i64)], [.l (.d false (.int .i64))], fun x => s_l7Side x.1 x.2⟩
noncomputable def c_s_l7Side : Ctx := ⟨Try.prog, TT, [e_s_l2Less, e_s_l2All], [], [], [], [], []⟩
theorem k_s_l7Side (x : PMs.den e_s_l7Side.ps) : funK c_s_l7Side Try.f112 e_s_l7Side.ps e_s_l7Side.rs x = e_s_l7Side.F x := by kernel_rfl
theorem o_s_l7Side : FnOk Try.prog e_s_l7Side.f ∧ Ctr Try.prog e_s_l7Side := mkCtr (C := c_s_l7Side) m_ (⟨o_s_l2Less, o_s_l2All, trivial⟩) Try.func112 (by kernel_rfl) k_s_l7Side
/-! loop.example/g00959/spec.BoundaryCount -/
noncomputable def s_BoundaryCount_s5 (x0 : List (List Int)) (v2 : Int × Int) : Option ((Int × Int) ⊕ (Int)) :=
 cond (decide (v2.2 < (x0.length : Int)))
 ((s_l7Side x0 v2.2).bind fun v3 => some (.inl ((IntKind.i64.wrap (v2.1 + v3)), (IntKind.i64.wrap (v2.2 + (1 : Int))))))
 (some (.inr v2.1))
noncomputable def s_BoundaryCount (x0 : List (List Int)) : Option (Int) :=
(s_IsPolygon x0).bind fun v1 => cond (!v1)
 (some (-1 : Int))
 ((iter (s_BoundaryCount_s5 x0) ((0 : Int), (0 : Int))).bind fun v4 => some v4)
noncomputable def e_s_BoundaryCount : CallE := ⟨77, [.d false (.list (.list (.int .i64)))], [.l (.d false (.int .i64))], fun x => s_BoundaryCount x⟩
noncomputable def c_s_BoundaryCount : Ctx := ⟨Try.prog, TT, [e_s_IsPolygon, e_s_l7Side], [⟨5, [(3, .l (.d false (.int .i64))), (4, .l (.d false (.int .i64)))], some (0, [(3, .l (.d false (.int .i64)))]), none, false⟩], [], [], [], []⟩
theorem k_s_BoundaryCount (x : PMs.den e_s_BoundaryCount.ps) : funK c_s_BoundaryCount Try.f77 e_s_BoundaryCount.ps e_s_BoundaryCount.rs x = e_s_BoundaryCount.F x := by kernel_rfl
theorem o_s_BoundaryCount : FnOk Try.prog e_s_BoundaryCount.f ∧ Ctr Try.prog e_s_BoundaryCount := mkCtr (C := c_s_BoundaryCount) m_ (⟨o_s_IsPolygon, o_s_l7Side, trivial⟩) Try.func77 (by kernel_rfl) k_s_BoundaryCount
/-! loop.example/g00959/spec.InnerCount -/
noncomputable def s_InnerCount (x0 : List (List Int)) : Option (Int) :=
(s_IsPolygon x0).bind fun v1 => cond (!v1)
 (some (-1 : Int))
 ((s_l7Area x0).bind fun v2 => (s_BoundaryCount x0).bind fun v3 => (quoI .i64 (IntKind.i64.wrap ((IntKind.i64.wrap (v2 - v3)) + (2 : Int))) (2 : Int)).bind fun v4 => some v4)
noncomputable def e_s_InnerCount : CallE := ⟨24, [.d false (.list (.list (.int .i64)))], [.l (.d false (.int .i64))], fun x => s_InnerCount x⟩
noncomputable def c_s_InnerCount : Ctx := ⟨Try.prog, TT, [e_s_IsPolygon, e_s_l7Area, e_s_BoundaryCount], [], [], [], [], []⟩
theorem k_s_InnerCount (x : PMs.den e_s_InnerCount.ps) : funK c_s_InnerCount Try.f24 e_s_InnerCount.ps e_s_InnerCount.rs x = e_s_InnerCount.F x := by kernel_rfl
theorem o_s_InnerCount : FnOk Try.prog e_s_InnerCount.f ∧ Ctr Try.prog e_s_InnerCount := mkCtr (C := c_s_InnerCount) m_ (⟨o_s_IsPolygon, o_s_l7Area, o_s_BoundaryCount, trivial⟩) Try.func24 (by kernel_rfl) k_s_InnerCount
/-! loop.example/g00959/spec.l21Draw -/
noncomputable def s_l21Draw_s4 (v1 : (Int) × ((List Int) × Int × Int) × Unit) (v2 : (List Int × Int × Int) × List (List Int) × Int) : Option (((List Int × Int × Int) × List (List Int) × Int) ⊕ ((List Int × Int × Int) × List (List Int))) :=
 cond (decide (v2.2.2 < (IntKind.i64.wrap ((2 : Int) + v1.1))))
 ((s_l2Draw (v2.1.1, (v2.1.2.1, v2.1.2.2)) (2 : Int) (3 : Int)).bind fun v3 => (appD 24 v2.2.1 ([v3.1] : List (List Int))).bind fun v4 => some (.inl ((v3.2.1.1, (v3.2.1.2.1, v3.2.1.2.2)), (v4, (IntKind.i64.wrap (v2.2.2 + (1 : Int)))))))
 (some (.inr ((v2.1.1, (v2.1.2.1, v2.1.2.2)), v2.2.1)))
noncomputable def s_l21Draw (x0 : (List Int) × Int × Int) : Option ((List (List Int)) × ((List Int) × Int × Int) × Unit) :=
(s_l1Below (x0.1, (x0.2.1, x0.2.2)) (3 : Int)).bind fun v1 => (iter (s_l21Draw_s4 v1) ((v1.2.1.1, (v1.2.1.2.1, v1.2.1.2.2)), (([] : List (List Int)), (0 : Int)))).bind fun v5 => (s_l1Once (v5.1.1, (v5.1.2.1, v5.1.2.2)) (14 : Int)).bind fun v6 => cond v6.1
 ((s_l1Once (v6.2.1.1, (v6.2.1.2.1, v6.2.1.2.2)) (2 : Int)).bind fun v7 => (s_l1Bit v7.1).bind fun v8 => (s_l2Draw (v7.2.1.1, (v7.2.1.2.1, v7.2.1.2.2)) (IntKind.i64.wrap ((2 : Int) + v8)) (9 : Int)).bind fun v9 => (inIdx v5.2.length (0 : Int)).bind fun _ => (inIdx v5.2.length (((0 : Int)).toNat : Int)).bind fun _ => some ((v5.2.set (((0 : Int)).toNat) v9.1), ((v9.2.1.1, (v9.2.1.2.1, v9.2.1.2.2)), ())))
 (some (v5.2, ((v6.2.1.1, (v6.2.1.2.1, v6.2.1.2.2)), ())))
noncomputable def e_s_l21Draw : CallE := ⟨78, [.cur 73], [.l (.o true 25 (.list (.int .i64)))], fun x => s_l21Draw x⟩
noncomputable def c_s_l21Draw : Ctx := ⟨Try.prog, TT, [e_s_l1Below, e_s_l2Draw, e_s_l1Once, e_s_l1Bit], [⟨4, [(0, .b 73 [(.d false (.list (.int .u8))), (.d false (.int .i64)), (.d false (.int .i64))]), (3, .l (.o true 25 (.list (.int .i64)))), (5, .l (.d false (.int .i64)))], some (0, [(0, .b 73 [(.d false (.list (.int .u8))), (.d false (.int .i64)), (.d false (.int .i64))]), (3, .l (.o true 25 (.list (.int .i64))))]), none, false⟩], [], [], [], []⟩
theorem k_s_l21Draw (x : PMs.den e_s_l21Draw.ps) : funK c_s_l21Draw Try.f78 e_s_l21Draw.ps e_s_l21Draw.rs x = e_s_l21Draw.F x := by kernel_rfl
theorem o_s_l21Draw : FnOk Try.prog e_s_l21Draw.f ∧ Ctr Try.prog e_s_l21Draw := mkCtr (C := c_s_l21Draw) m_ (⟨o_s_l1Below, o_s_l2Draw, o_s_l1Once, o_s_l1Bit, trivial⟩) Try.func78 (by kernel_rfl) k_s_l21Draw
/-! loop.example/g00959/spec.DrawZonotopeOf -/
noncomputable def s_DrawZonotopeOf_s57_3 (x0 : List Int) (v1 : Int × Int) : Option ((Int × Int) ⊕ (Int)) :=
 cond (decide (v1.2 < (x0.length : Int)))
 (cond (decide (v1.2 < (4000 : Int)))
 ((idx x0 v1.2).bind fun v2 => some (.inl ((andI .i64 (IntKind.i64.wrap ((IntKind.i64.wrap ((IntKind.i64.wrap (v1.1 * (131 : Int))) + (IntKind.i64.wrap v2))) + (7 : Int))) (1073741823 : Int)), (IntKind.i64.wrap (v1.2 + (1 : Int))))))
 (some (.inr v1.1)))
 (some (.inr v1.1))
noncomputable def s_DrawZonotopeOf (x0 : List Int) : Option (List (List Int)) :=
(iter (s_DrawZonotopeOf_s57_3 x0) ((IntKind.i64.wrap ((26583 : Int) + (x0.length : Int))), (0 : Int))).bind fun v3 => (s_l21Draw (x0, ((0 : Int), v3))).bind fun v4 => some v4.1
noncomputable def e_s_DrawZonotopeOf : CallE := ⟨25, [.d false (.list (.int .u8))], [.l (.o true 25 (.list (.int .i64)))], fun x => s_DrawZonotopeOf x⟩
noncomputable def c_s_DrawZonotopeOf_57 : Ctx := ⟨Try.prog, TT, [], [⟨3, [(3, .l (.d false (.int .i64))), (4, .l (.d false (.int .i64)))], some (0, [(3, .l (.d false (.int .i64)))]), none, true⟩], [], [], [], []⟩
noncomputable def n_s_DrawZonotopeOf_57 : InE := ⟨57, false, inlK c_s_DrawZonotopeOf_57 Try.f57⟩
theorem q_s_DrawZonotopeOf_57 : FnOk Try.prog n_s_DrawZonotopeOf_57.f ∧ InOk Try.prog n_s_DrawZonotopeOf_57 := mkInl (C := c_s_DrawZonotopeOf_57) m_ (trivial) Try.func57 (by kernel_rfl)
noncomputable def c_s_DrawZonotopeOf : Ctx := ⟨Try.prog, TT, [e_s_l21Draw], [], [], [n_s_DrawZonotopeOf_57], [], []⟩
theorem k_s_DrawZonotopeOf (x : PMs.den e_s_DrawZonotopeOf.ps) : funK c_s_DrawZonotopeOf Try.f25 e_s_DrawZonotopeOf.ps e_s_DrawZonotopeOf.rs x = e_s_DrawZonotopeOf.F x := by kernel_rfl
theorem o_s_DrawZonotopeOf : FnOk Try.prog e_s_DrawZonotopeOf.f ∧ Ctr Try.prog e_s_DrawZonotopeOf := mkCtr (C := c_s_DrawZonotopeOf) m_ (⟨o_s_l21Draw, trivial⟩) Try.func25 (by kernel_rfl) k_s_DrawZonotopeOf ⟨q_s_DrawZonotopeOf_57, trivial⟩
/-! loop.example/g00959/impl.magnitude -/
noncomputable def i_magnitude (x0 : Int) : Option (Int) :=
 some (if (IntKind.i64.wrap (0 - x0)) > x0 then (IntKind.i64.wrap (0 - x0)) else x0)
noncomputable def e_i_magnitude : CallE := ⟨116, [.d false (.int .i64)], [.l (.d false (.int .i64))], fun x => i_magnitude x⟩
noncomputable def c_i_magnitude : Ctx := ⟨Try.prog, TT, [], [], [], [], [], []⟩
theorem k_i_magnitude (x : PMs.den e_i_magnitude.ps) : funK c_i_magnitude Try.f116 e_i_magnitude.ps e_i_magnitude.rs x = e_i_magnitude.F x := by kernel_rfl
theorem o_i_magnitude : FnOk Try.prog e_i_magnitude.f ∧ Ctr Try.prog e_i_magnitude := mkCtr (C := c_i_magnitude) m_ (trivial) Try.func116 (by kernel_rfl) k_i_magnitude
/-! loop.example/g00959/impl.divisor -/
noncomputable def i_divisor_s1 (v1 : Int × Int) : Option ((Int × Int) ⊕ (Int)) :=
 cond (v1.2 != (0 : Int))
 ((remI .i64 v1.1 v1.2).bind fun v2 => some (.inl (v1.2, v2)))
 (some (.inr v1.1))
noncomputable def i_divisor (x0 : Int) (x1 : Int) : Option (Int) :=
(iter (i_divisor_s1) (x0, x1)).bind fun v3 => (i_magnitude v3).bind fun v4 => some v4
noncomputable def e_i_divisor : CallE := ⟨119, [.d false (.int .i64), .d false (.int .i64)], [.l (.d false (.int .i64))], fun x => i_divisor x.1 x.2⟩
noncomputable def c_i_divisor : Ctx := ⟨Try.prog, TT, [e_i_magnitude], [⟨1, [(0, .l (.d false (.int .i64))), (1, .l (.d false (.int .i64)))], some (0, [(0, .l (.d false (.int .i64)))]), none, false⟩], [], [], [], []⟩
theorem k_i_divisor (x : PMs.den e_i_divisor.ps) : funK c_i_divisor Try.f119 e_i_divisor.ps e_i_divisor.rs x = e_i_divisor.F x := by kernel_rfl
theorem o_i_divisor : FnOk Try.prog e_i_divisor.f ∧ Ctr Try.prog e_i_divisor := mkCtr (C := c_i_divisor) m_ (⟨o_i_magnitude, trivial⟩) Try.func119 (by kernel_rfl) k_i_divisor
/-! loop.example/g00959/impl.gcdAll -/
noncomputable def i_gcdAll_s3 (x0 : List Int) (v1 : Int × Int) : Option ((Int × Int) ⊕ (Int)) :=
 cond (decide (v1.2 < (x0.length : Int)))
 ((idx x0 v1.2).bind fun v2 => (i_divisor v1.1 v2).bind fun v3 => some (.inl (v3, (IntKind.i64.wrap (v1.2 + (1 : Int))))))
 (some (.inr v1.1))
noncomputable def i_gcdAll (x0 : List Int) : Option (Int) :=
(iter (i_gcdAll_s3 x0) ((0 : Int), (0 : Int))).bind fun v4 => some v4
noncomputable def e_i_gcdAll : CallE := ⟨86, [.d false (.list (.int .i64))], [.l (.d false (.int .i64))], fun x => i_gcdAll x⟩
noncomputable def c_i_gcdAll : Ctx := ⟨Try.prog, TT, [e_i_divisor], [⟨3, [(3, .l (.d false (.int .i64))), (8, .l (.d false (.int .i64)))], some (0, [(3, .l (.d false (.int .i64)))]), none, false⟩], [], [], [], []⟩
theorem k_i_gcdAll (x : PMs.den e_i_gcdAll.ps) : funK c_i_gcdAll Try.f86 e_i_gcdAll.ps e_i_gcdAll.rs x = e_i_gcdAll.F x := by kernel_rfl
theorem o_i_gcdAll : FnOk Try.prog e_i_gcdAll.f ∧ Ctr Try.prog e_i_gcdAll := mkCtr (C := c_i_gcdAll) m_ (⟨o_i_divisor, trivial⟩) Try.func86 (by kernel_rfl) k_i_gcdAll
/-! loop.example/g00959/impl.determinants -/
noncomputable def i_determinants_s6 (v2 : List Int) (v3 : List (List Int)) (v4 : Int × Int) : Option ((Int × Int) ⊕ (Int)) :=
 cond (decide (v4.2 < (v3.length : Int)))
 ((idx v3 v4.2).bind fun v5 => (i_cross v2 v5).bind fun v6 => (i_magnitude v6).bind fun v7 => some (.inl ((IntKind.i64.wrap (v4.1 + v7)), (IntKind.i64.wrap (v4.2 + (1 : Int))))))
 (some (.inr v4.1))
noncomputable def i_determinants_s3 (x0 : List (List Int)) (v1 : Int × Int) : Option ((Int × Int) ⊕ (Int)) :=
 cond (decide (v1.2 < (x0.length : Int)))
 ((idx x0 v1.2).bind fun v2 => (subl x0 (IntKind.i64.wrap (v1.2 + (1 : Int))) (x0.length : Int)).bind fun v3 => (iter (i_determinants_s6 v2 v3) (v1.1, (0 : Int))).bind fun v8 => some (.inl (v8, (IntKind.i64.wrap (v1.2 + (1 : Int))))))
 (some (.inr v1.1))
noncomputable def i_determinants (x0 : List (List Int)) : Option (Int) :=
(iter (i_determinants_s3 x0) ((0 : Int), (0 : Int))).bind fun v9 => some v9
noncomputable def e_i_determinants : CallE := ⟨83, [.d false (.list (.list (.int .i64)))], [.l (.d false (.int .i64))], fun x => i_determinants x⟩
noncomputable def c_i_determinants : Ctx := ⟨Try.prog, TT, [e_i_cross, e_i_magnitude], [⟨3, [(3, .l (.d false (.int .i64))), (10, .l (.d false (.int .i64)))], some (0, [(3, .l (.d false (.int .i64)))]), none, false⟩, ⟨6, [(3, .l (.d false (.int .i64))), (20, .l (.d false (.int .i64)))], some (2, [(3, .l (.d false (.int .i64)))]), none, false⟩], [], [], [], []⟩
theorem k_i_determinants (x : PMs.den e_i_determinants.ps) : funK c_i_determinants Try.f83 e_i_determinants.ps e_i_determinants.rs x = e_i_determinants.F x := by kernel_rfl
theorem o_i_determinants : FnOk Try.prog e_i_determinants.f ∧ Ctr Try.prog e_i_determinants := mkCtr (C := c_i_determinants) m_ (⟨o_i_cross, o_i_magnitude, trivial⟩) Try.func83 (by kernel_rfl) k_i_determinants
/-! loop.example/g00959/impl.AreGens -/
noncomputable def i_AreGens_s4 (x0 : List (List Int)) (v2 : Int) : Option ((Int) ⊕ ((Unit) ⊕ (Bool))) :=
 cond (decide (v2 < (x0.length : Int)))
 ((idx x0 v2).bind fun v3 => (i_isPoint v3 (6 : Int)).bind fun v4 => cond (!v4)
 (some (.inr (.inr false)))
 ((i_gcdAll v3).bind fun v5 => cond (v5 == (0 : Int))
 (some (.inr (.inr false)))
 (some (.inl (IntKind.i64.wrap (v2 + (1 : Int)))))))
 (some (.inr (.inl ())))
noncomputable def i_AreGens (x0 : List (List Int)) : Option (Bool) :=
(i_within (x0.length : Int) (2 : Int) (5 : Int)).bind fun v1 => cond (!v1)
 (some false)
 ((iter (i_AreGens_s4 x0) (0 : Int)).bind fun v6 => match v6 with
 | .inl v7 => ((i_determinants x0).bind fun v9 => some (decide (v9 > (0 : Int))))
 | .inr v8 => (some v8))
noncomputable def e_i_AreGens : CallE := ⟨34, [.d false (.list (.list (.int .i64)))], [.l (.d false .bool)], fun x => i_AreGens x⟩
noncomputable def c_i_AreGens : Ctx := ⟨Try.prog, TT, [e_i_within, e_i_isPoint, e_i_gcdAll, e_i_determinants], [⟨4, [(11, .l (.d false (.int .i64)))], some (0, []), some [(2, .l (.d false .bool))], false⟩], [], [], [], []⟩
theorem k_i_AreGens (x : PMs.den e_i_AreGens.ps) : funK c_i_AreGens Try.f34 e_i_AreGens.ps e_i_AreGens.rs x = e_i_AreGens.F x := by kernel_rfl
theorem o_i_AreGens : FnOk Try.prog e_i_AreGens.f ∧ Ctr Try.prog e_i_AreGens := mkCtr (C := c_i_AreGens) m_ (⟨o_i_within, o_i_isPoint, o_i_gcdAll, o_i_determinants, trivial⟩) Try.func34 (by kernel_rfl) k_i_AreGens
/-! loop.example/g00959/impl.less -/
noncomputable def i_less_s1 (x0 : List Int) (x1 : Int) (x2 : List Int) (v1 : List Int × Int) : Option ((List Int × Int) ⊕ (List Int)) :=
 cond (decide (v1.2 < (x0.length : Int)))
 ((inIdx v1.1.length v1.2).bind fun _ => (idx v1.1 ((v1.2).toNat : Int)).bind fun v2 => (idx x2 v1.2).bind fun v3 => (inIdx v1.1.length v1.2).bind fun _ => (inIdx v1.1.length ((v1.2).toNat : Int)).bind fun _ => some (.inl ((v1.1.set ((v1.2).toNat) (IntKind.i64.wrap (v2 - (IntKind.i64.wrap (x1 * v3))))), (IntKind.i64.wrap (v1.2 + (1 : Int))))))
 (some (.inr v1.1))
noncomputable def i_less (x0 : List Int) (x1 : Int) (x2 : List Int) : Option ((Unit) × (List Int) × Unit) :=
(iter (i_less_s1 x0 x1 x2) (x0, (0 : Int))).bind fun v4 => some ((), (v4, ()))
noncomputable def e_i_less : CallE := ⟨79, [.io true 3 (.int .i64), .d false (.int .i64), .d false (.list (.int .i64))], [], fun x => i_less x.1 x.2.1 x.2.2⟩
noncomputable def c_i_less : Ctx := ⟨Try.prog, TT, [], [⟨1, [(0, .l (.o true 3 (.int .i64))), (9, .l (.d false (.int .i64)))], some (0, [(0, .l (.o true 3 (.int .i64)))]), none, false⟩], [], [], [], []⟩
theorem k_i_less (x : PMs.den e_i_less.ps) : funK c_i_less Try.f79 e_i_less.ps e_i_less.rs x = e_i_less.F x := by kernel_rfl
theorem o_i_less : FnOk Try.prog e_i_less.f ∧ Ctr Try.prog e_i_less := mkCtr (C := c_i_less) m_ (trivial) Try.func79 (by kernel_rfl) k_i_less
/-! loop.example/g00959/impl.copyPoints -/
noncomputable def i_copyPoints_s3 (x0 : List (List Int)) (v1 : List (List Int) × Int) : Option ((List (List Int) × Int) ⊕ (List (List Int))) :=
 cond (decide (v1.2 < (x0.length : Int)))
 ((idx x0 v1.2).bind fun v2 => (i_copyInts v2).bind fun v3 => (appD 24 v1.1 ([v3] : List (List Int))).bind fun v4 => some (.inl (v4, (IntKind.i64.wrap (v1.2 + (1 : Int))))))
 (some (.inr v1.1))
noncomputable def i_copyPoints (x0 : List (List Int)) : Option (List (List Int)) :=
(iter (i_copyPoints_s3 x0) (([] : List (List Int)), (0 : Int))).bind fun v5 => some v5
noncomputable def e_i_copyPoints : CallE := ⟨113, [.d false (.list (.list (.int .i64)))], [.l (.o true 25 (.list (.int .i64)))], fun x => i_copyPoints x⟩
noncomputable def c_i_copyPoints : Ctx := ⟨Try.prog, TT, [e_i_copyInts], [⟨3, [(3, .l (.o true 25 (.list (.int .i64)))), (8, .l (.d false (.int .i64)))], some (0, [(3, .l (.o true 25 (.list (.int .i64))))]), none, false⟩], [], [], [], []⟩
theorem k_i_copyPoints (x : PMs.den e_i_copyPoints.ps) : funK c_i_copyPoints Try.f113 e_i_copyPoints.ps e_i_copyPoints.rs x = e_i_copyPoints.F x := by kernel_rfl
theorem o_i_copyPoints : FnOk Try.prog e_i_copyPoints.f ∧ Ctr Try.prog e_i_copyPoints := mkCtr (C := c_i_copyPoints) m_ (⟨o_i_copyInts, trivial⟩) Try.func113 (by kernel_rfl) k_i_copyPoints
/-! slices.SortFunc[[][]int,[]int] -/
noncomputable def g_slices_SortFunc (x0 : List (List Int)) : Option (Unit × ((List (List Int)) × Unit)) := sortF (fun a b => g_slices_Compare a b) x0
noncomputable def e_g_slices_SortFunc : CallE := ⟨114, [.io true 25 (.list (.int .i64)), .f 100], [], fun x => g_slices_SortFunc x.1⟩
theorem o_g_slices_SortFunc : FnOk Try.prog e_g_slices_SortFunc.f ∧ Ctr Try.prog e_g_slices_SortFunc := ⟨⟨Try.f114, _, Try.func114, by kernel_rfl, rfl⟩, sort_ctr laySort rfl o_g_slices_Compare.1 o_g_slices_Compare.2⟩
/-! slices.Reverse[[][]int,[]int] -/
noncomputable def g_slices_Reverse (x0 : List (List Int)) : Option (Unit × ((List (List Int)) × Unit)) := some ((), (x0.reverse, ()))
noncomputable def e_g_slices_Reverse : CallE := ⟨115, [.io true 25 (.list (.int .i64))], [], fun x => g_slices_Reverse x⟩
theorem o_g_slices_Reverse : FnOk Try.prog e_g_slices_Reverse.f ∧ Ctr Try.prog e_g_slices_Reverse := ⟨⟨Try.f115, _, Try.func115, by kernel_rfl, rfl⟩, rev_ctr layRev rfl⟩
/-! loop.example/g00959/impl.HullOf -/
noncomputable def i_HullOf_s4 (x0 : List (List Int)) (v1 : Int) : Option ((Int) ⊕ ((Unit) ⊕ (List (List Int) × Bool))) :=
 cond (decide (v1 < (x0.length : Int)))
 ((idx x0 v1).bind fun v2 => (i_isPoint v2 (50 : Int)).bind fun v3 => cond (!v3)
 (some (.inr (.inr (([] : List (List Int)), false))))
 (some (.inl (IntKind.i64.wrap (v1 + (1 : Int))))))
 (some (.inr (.inl ())))
noncomputable def i_HullOf_s19 (v9 : List (List Int) × List (List Int) × Int) (v11 : List Int) (v12 : List (List Int)) : Option ((List (List Int)) ⊕ (List (List Int))) :=
 cond (decide ((v12.length : Int) ≥ (IntKind.i64.wrap ((v9.2.1.length : Int) + (2 : Int)))))
 ((inIdx v12.length (IntKind.i64.wrap ((v12.length : Int) - (2 : Int)))).bind fun _ => (idx v12 (((IntKind.i64.wrap ((v12.length : Int) - (2 : Int)))).toNat : Int)).bind fun v13 => (inIdx v12.length (IntKind.i64.wrap ((v12.length : Int) - (1 : Int)))).bind fun _ => (idx v12 (((IntKind.i64.wrap ((v12.length : Int) - (1 : Int)))).toNat : Int)).bind fun v14 => (i_turn v13 v14 v11).bind fun v15 => cond (decide (v15 ≤ (0 : Int)))
 ((subl v12 0 (IntKind.i64.wrap ((v12.length : Int) - (1 : Int)))).bind fun v16 => some (.inl v16))
 (some (.inr v12)))
 (some (.inr v12))
noncomputable def i_HullOf_s17 (v9 : List (List Int) × List (List Int) × Int) (v10 : List (List Int) × Int) : Option ((List (List Int) × Int) ⊕ (List (List Int))) :=
 cond (decide (v10.2 < (v9.1.length : Int)))
 ((idx v9.1 v10.2).bind fun v11 => (iter (i_HullOf_s19 v9 v11) v10.1).bind fun v17 => (i_copyInts v11).bind fun v18 => (appD 24 v17 ([v18] : List (List Int))).bind fun v19 => some (.inl (v19, (IntKind.i64.wrap (v10.2 + (1 : Int))))))
 (some (.inr v10.1))
noncomputable def i_HullOf_s13 (v9 : List (List Int) × List (List Int) × Int) : Option ((List (List Int) × List (List Int) × Int) ⊕ (List (List Int))) :=
 cond (decide (v9.2.2 < (2 : Int)))
 ((iter (i_HullOf_s17 v9) (v9.2.1, (0 : Int))).bind fun v20 => (subl v20 0 (if (IntKind.i64.wrap ((v20.length : Int) - (1 : Int))) > (0 : Int) then (IntKind.i64.wrap ((v20.length : Int) - (1 : Int))) else (0 : Int))).bind fun v21 => (g_slices_Reverse v9.1).bind fun v22 => some (.inl (v22.2.1, (v21, (IntKind.i64.wrap (v9.2.2 + (1 : Int)))))))
 (some (.inr v9.2.1))
noncomputable def i_HullOf (x0 : List (List Int)) : Option (List (List Int) × Bool) :=
 cond (decide ((x0.length : Int) > (200 : Int)))
 (some (([] : List (List Int)), false))
 ((iter (i_HullOf_s4 x0) (0 : Int)).bind fun v4 => match v4 with
 | .inl v5 => ((i_copyPoints x0).bind fun v7 => (g_slices_SortFunc v7).bind fun v8 => (iter (i_HullOf_s13) (v8.2.1, (([] : List (List Int)), (0 : Int)))).bind fun v23 => (i_IsPolygon v23).bind fun v24 => cond (!v24)
 (some (([] : List (List Int)), false))
 (some (v23, true)))
 | .inr v6 => (some (v6.1, v6.2)))
noncomputable def e_i_HullOf : CallE := ⟨80, [.d false (.list (.list (.int .i64)))], [.l (.o true 25 (.list (.int .i64))), .l (.d false .bool)], fun x => i_HullOf x⟩
noncomputable def c_i_HullOf : Ctx := ⟨Try.prog, TT, [e_i_isPoint, e_i_copyPoints, e_g_slices_SortFunc, e_i_turn, e_i_copyInts, e_g_slices_Reverse, e_i_IsPolygon], [⟨4, [(17, .l (.d false (.int .i64)))], some (0, []), some [(2, .l (.o true 25 (.list (.int .i64)))), (3, .l (.d false .bool))], false⟩, ⟨13, [(6, .l (.o true 25 (.list (.int .i64)))), (7, .l (.o true 25 (.list (.int .i64)))), (8, .l (.d false (.int .i64)))], some (2, [(7, .l (.o true 25 (.list (.int .i64))))]), none, false⟩, ⟨17, [(7, .l (.o true 25 (.list (.int .i64)))), (37, .l (.d false (.int .i64)))], some (4, [(7, .l (.o true 25 (.list (.int .i64))))]), none, true⟩, ⟨19, [(7, .l (.o true 25 (.list (.int .i64))))], some (6, [(7, .l (.o true 25 (.list (.int .i64))))]), none, false⟩], [], [], [], []⟩
theorem k_i_HullOf (x : PMs.den e_i_HullOf.ps) : funK c_i_HullOf Try.f80 e_i_HullOf.ps e_i_HullOf.rs x = e_i_HullOf.F x := by kernel_rfl
theorem o_i_HullOf : FnOk Try.prog e_i_HullOf.f ∧ Ctr Try.prog e_i_HullOf := mkCtr (C := c_i_HullOf) m_ (⟨o_i_isPoint, o_i_copyPoints, o_g_slices_SortFunc, o_i_turn, o_i_copyInts, o_g_slices_Reverse, o_i_IsPolygon, trivial⟩) Try.func80 (by kernel_rfl) k_i_HullOf
/-! loop.example/g00959/impl.ZonotopeOf -/
noncomputable def i_ZonotopeOf_s9 (x0 : List (List Int)) (v2 : List (List Int) × Int) (v4 : List (List Int) × List Int × Int) : Option ((List (List Int) × List Int × Int) ⊕ (List (List Int) × List Int)) :=
 cond (decide (v4.2.2 < (x0.length : Int)))
 ((idx x0 v4.2.2).bind fun v5 => (shrI .i64 v2.2 v4.2.2).bind fun v6 => cond ((andI .i64 v6 (1 : Int)) == (1 : Int))
 ((i_less v4.2.1 (-1 : Int) v5).bind fun v7 => some (.inl (v4.1, (v7.2.1, (IntKind.i64.wrap (v4.2.2 + (1 : Int)))))))
 (some (.inl (v4.1, (v4.2.1, (IntKind.i64.wrap (v4.2.2 + (1 : Int))))))))
 (some (.inr (v4.1, v4.2.1)))
noncomputable def i_ZonotopeOf_s5 (x0 : List (List Int)) (v2 : List (List Int) × Int) : Option ((List (List Int) × Int) ⊕ (List (List Int))) :=
(shlI .i64 (1 : Int) (x0.length : Int)).bind fun v3 => cond (decide (v2.2 < v3))
 ((iter (i_ZonotopeOf_s9 x0 v2) (v2.1, (([(0 : Int), (0 : Int)] : List Int), (0 : Int)))).bind fun v8 => (appD 24 v8.1 ([v8.2] : List (List Int))).bind fun v9 => some (.inl (v9, (IntKind.i64.wrap (v2.2 + (1 : Int))))))
 (some (.inr v2.1))
noncomputable def i_ZonotopeOf (x0 : List (List Int)) : Option (List (List Int) × Bool) :=
(i_AreGens x0).bind fun v1 => cond (!v1)
 (some (([] : List (List Int)), false))
 ((iter (i_ZonotopeOf_s5 x0) (([] : List (List Int)), (0 : Int))).bind fun v10 => (i_HullOf v10).bind fun v11 => some (v11.1, v11.2))
noncomputable def e_i_ZonotopeOf : CallE := ⟨26, [.d false (.list (.list (.int .i64)))], [.l (.o true 25 (.list (.int .i64))), .l (.d false .bool)], fun x => i_ZonotopeOf x⟩
noncomputable def c_i_ZonotopeOf : Ctx := ⟨Try.prog, TT, [e_i_AreGens, e_i_less, e_i_HullOf], [⟨5, [(4, .l (.o true 25 (.list (.int .i64)))), (5, .l (.d false (.int .i64)))], some (0, [(4, .l (.o true 25 (.list (.int .i64))))]), none, false⟩, ⟨9, [(4, .l (.o true 25 (.list (.int .i64)))), (6, .l (.o true 3 (.int .i64))), (22, .l (.d false (.int .i64)))], some (2, [(4, .l (.o true 25 (.list (.int .i64)))), (6, .l (.o true 3 (.int .i64)))]), none, false⟩], [], [], [], []⟩
theorem k_i_ZonotopeOf (x : PMs.den e_i_ZonotopeOf.ps) : funK c_i_ZonotopeOf Try.f26 e_i_ZonotopeOf.ps e_i_ZonotopeOf.rs x = e_i_ZonotopeOf.F x := by kernel_rfl
theorem o_i_ZonotopeOf : FnOk Try.prog e_i_ZonotopeOf.f ∧ Ctr Try.prog e_i_ZonotopeOf := mkCtr (C := c_i_ZonotopeOf) m_ (⟨o_i_AreGens, o_i_less, o_i_HullOf, trivial⟩) Try.func26 (by kernel_rfl) k_i_ZonotopeOf
/-! loop.example/g00959/spec.AreGens -/
noncomputable def s_AreGens_s3 (x0 : List (List Int)) (v1 : Bool × Int) : Option ((Bool × Int) ⊕ ((Bool) ⊕ (Bool))) :=
 cond (decide (v1.2 < (x0.length : Int)))
 ((idx x0 v1.2).bind fun v2 => cond ((v2.length : Int) != (2 : Int))
 (some (.inr (.inr false)))
 ((idx x0 v1.2).bind fun v3 => (s_l2Small v3 (6 : Int)).bind fun v4 => cond (!v4)
 (some (.inr (.inr false)))
 ((idx x0 v1.2).bind fun v5 => (s_l2All v5).bind fun v6 => cond (v6 == (0 : Int))
 (some (.inr (.inr false)))
 (cond v1.1
 ((idx x0 (0 : Int)).bind fun v7 => (idx x0 v1.2).bind fun v8 => (s_l7Cross v7 v8).bind fun v9 => some (.inl ((v9 == (0 : Int)), (IntKind.i64.wrap (v1.2 + (1 : Int))))))
 (some (.inl (false, (IntKind.i64.wrap (v1.2 + (1 : Int))))))))))
 (some (.inr (.inl v1.1)))
noncomputable def s_AreGens (x0 : List (List Int)) : Option (Bool) :=
(iter (s_AreGens_s3 x0) (true, (0 : Int))).bind fun v10 => match v10 with
 | .inl v11 => ((s_l1In (x0.length : Int) (2 : Int) (5 : Int)).bind fun v13 => cond v13
 (some (!v11))
 (some false))
 | .inr v12 => (some v12)
noncomputable def e_s_AreGens : CallE := ⟨35, [.d false (.list (.list (.int .i64)))], [.l (.d false .bool)], fun x => s_AreGens x⟩
noncomputable def c_s_AreGens : Ctx := ⟨Try.prog, TT, [e_s_l2Small, e_s_l2All, e_s_l7Cross, e_s_l1In], [⟨3, [(3, .l (.d false .bool)), (4, .l (.d false (.int .i64)))], some (0, [(3, .l (.d false .bool))]), some [(2, .l (.d false .bool))], false⟩], [], [], [], []⟩
theorem k_s_AreGens (x : PMs.den e_s_AreGens.ps) : funK c_s_AreGens Try.f35 e_s_AreGens.ps e_s_AreGens.rs x = e_s_AreGens.F x := by kernel_rfl
theorem o_s_AreGens : FnOk Try.prog e_s_AreGens.f ∧ Ctr Try.prog e_s_AreGens := mkCtr (C := c_s_AreGens) m_ (⟨o_s_l2Small, o_s_l2All, o_s_l7Cross, o_s_l1In, trivial⟩) Try.func35 (by kernel_rfl) k_s_AreGens
/-! loop.example/g00959/spec.l2Add -/
noncomputable def s_l2Add_s3 (x0 : List Int) (x1 : List Int) (v1 : List Int × Int) : Option ((List Int × Int) ⊕ (List Int)) :=
 cond (decide (v1.2 < (x0.length : Int)))
 ((idx x0 v1.2).bind fun v2 => (idx x1 v1.2).bind fun v3 => (appD 8 v1.1 ([(IntKind.i64.wrap (v2 + v3))] : List Int)).bind fun v4 => some (.inl (v4, (IntKind.i64.wrap (v1.2 + (1 : Int))))))
 (some (.inr v1.1))
noncomputable def s_l2Add (x0 : List Int) (x1 : List Int) : Option (List Int) :=
(iter (s_l2Add_s3 x0 x1) (([] : List Int), (0 : Int))).bind fun v5 => some v5
noncomputable def e_s_l2Add : CallE := ⟨81, [.d false (.list (.int .i64)), .d false (.list (.int .i64))], [.l (.o true 3 (.int .i64))], fun x => s_l2Add x.1 x.2⟩
noncomputable def c_s_l2Add : Ctx := ⟨Try.prog, TT, [], [⟨3, [(5, .l (.o true 3 (.int .i64))), (6, .l (.d false (.int .i64)))], some (0, [(5, .l (.o true 3 (.int .i64)))]), none, false⟩], [], [], [], []⟩
theorem k_s_l2Add (x : PMs.den e_s_l2Add.ps) : funK c_s_l2Add Try.f81 e_s_l2Add.ps e_s_l2Add.rs x = e_s_l2Add.F x := by kernel_rfl
theorem o_s_l2Add : FnOk Try.prog e_s_l2Add.f ∧ Ctr Try.prog e_s_l2Add := mkCtr (C := c_s_l2Add) m_ (trivial) Try.func81 (by kernel_rfl) k_s_l2Add
/-! loop.example/g00959/spec.ZonotopeOf -/
noncomputable def s_ZonotopeOf_s9 (x0 : List (List Int)) (v2 : List (List Int) × Int) (v3 : List (List Int) × Int) : Option ((List (List Int) × Int) ⊕ (List (List Int))) :=
 cond (decide (v3.2 < (v2.1.length : Int)))
 ((inIdx v3.1.length v3.2).bind fun _ => (idx v3.1 ((v3.2).toNat : Int)).bind fun v4 => (idx x0 v2.2).bind fun v5 => (s_l2Add v4 v5).bind fun v6 => (appD 24 v3.1 ([v6] : List (List Int))).bind fun v7 => some (.inl (v7, (IntKind.i64.wrap (v3.2 + (1 : Int))))))
 (some (.inr v3.1))
noncomputable def s_ZonotopeOf_s5 (x0 : List (List Int)) (v2 : List (List Int) × Int) : Option ((List (List Int) × Int) ⊕ (List (List Int))) :=
 cond (decide (v2.2 < (x0.length : Int)))
 ((iter (s_ZonotopeOf_s9 x0 v2) (v2.1, (0 : Int))).bind fun v8 => some (.inl (v8, (IntKind.i64.wrap (v2.2 + (1 : Int))))))
 (some (.inr v2.1))
noncomputable def s_ZonotopeOf (x0 : List (List Int)) : Option (List (List Int) × Bool) :=
(s_AreGens x0).bind fun v1 => cond (!v1)
 (some (([] : List (List Int)), false))
 ((iter (s_ZonotopeOf_s5 x0) (([([(0 : Int), (0 : Int)] : List Int)] : List (List Int)), (0 : Int))).bind fun v9 => (s_HullOf v9).bind fun v10 => some (v10.1, v10.2))
noncomputable def e_s_ZonotopeOf : CallE := ⟨27, [.d false (.list (.list (.int .i64)))], [.l (.o true 25 (.list (.int .i64))), .l (.d false .bool)], fun x => s_ZonotopeOf x⟩
noncomputable def c_s_ZonotopeOf : Ctx := ⟨Try.prog, TT, [e_s_AreGens, e_s_l2Add, e_s_HullOf], [⟨5, [(4, .l (.o true 25 (.list (.int .i64)))), (5, .l (.d false (.int .i64)))], some (0, [(4, .l (.o true 25 (.list (.int .i64))))]), none, false⟩, ⟨9, [(4, .l (.o true 25 (.list (.int .i64)))), (7, .l (.d false (.int .i64)))], some (2, [(4, .l (.o true 25 (.list (.int .i64))))]), none, false⟩], [], [], [], []⟩
theorem k_s_ZonotopeOf (x : PMs.den e_s_ZonotopeOf.ps) : funK c_s_ZonotopeOf Try.f27 e_s_ZonotopeOf.ps e_s_ZonotopeOf.rs x = e_s_ZonotopeOf.F x := by kernel_rfl
theorem o_s_ZonotopeOf : FnOk Try.prog e_s_ZonotopeOf.f ∧ Ctr Try.prog e_s_ZonotopeOf := mkCtr (C := c_s_ZonotopeOf) m_ (⟨o_s_AreGens, o_s_l2Add, o_s_HullOf, trivial⟩) Try.func27 (by kernel_rfl) k_s_ZonotopeOf
/-! loop.example/g00959/impl.gcdSum -/
noncomputable def i_gcdSum_s3 (x0 : List (List Int)) (v1 : Int × Int) : Option ((Int × Int) ⊕ (Int)) :=
 cond (decide (v1.2 < (x0.length : Int)))
 ((idx x0 v1.2).bind fun v2 => (i_gcdAll v2).bind fun v3 => some (.inl ((IntKind.i64.wrap (v1.1 + v3)), (IntKind.i64.wrap (v1.2 + (1 : Int))))))
 (some (.inr v1.1))
noncomputable def i_gcdSum (x0 : List (List Int)) : Option (Int) :=
(iter (i_gcdSum_s3 x0) ((0 : Int), (0 : Int))).bind fun v4 => some v4
noncomputable def e_i_gcdSum : CallE := ⟨82, [.d false (.list (.list (.int .i64)))], [.l (.d false (.int .i64))], fun x => i_gcdSum x⟩
noncomputable def c_i_gcdSum : Ctx := ⟨Try.prog, TT, [e_i_gcdAll], [⟨3, [(3, .l (.d false (.int .i64))), (8, .l (.d false (.int .i64)))], some (0, [(3, .l (.d false (.int .i64)))]), none, false⟩], [], [], [], []⟩
theorem k_i_gcdSum (x : PMs.den e_i_gcdSum.ps) : funK c_i_gcdSum Try.f82 e_i_gcdSum.ps e_i_gcdSum.rs x = e_i_gcdSum.F x := by kernel_rfl
theorem o_i_gcdSum : FnOk Try.prog e_i_gcdSum.f ∧ Ctr Try.prog e_i_gcdSum := mkCtr (C := c_i_gcdSum) m_ (⟨o_i_gcdAll, trivial⟩) Try.func82 (by kernel_rfl) k_i_gcdSum
/-! loop.example/g00959/impl.ZonotopeCount -/
noncomputable def i_ZonotopeCount (x0 : List (List Int)) : Option (Int) :=
(i_AreGens x0).bind fun v1 => cond (!v1)
 (some (-1 : Int))
 ((i_gcdSum x0).bind fun v2 => (i_determinants x0).bind fun v3 => some (IntKind.i64.wrap ((IntKind.i64.wrap ((1 : Int) + v2)) + v3)))
noncomputable def e_i_ZonotopeCount : CallE := ⟨28, [.d false (.list (.list (.int .i64)))], [.l (.d false (.int .i64))], fun x => i_ZonotopeCount x⟩
noncomputable def c_i_ZonotopeCount : Ctx := ⟨Try.prog, TT, [e_i_AreGens, e_i_gcdSum, e_i_determinants], [], [], [], [], []⟩
theorem k_i_ZonotopeCount (x : PMs.den e_i_ZonotopeCount.ps) : funK c_i_ZonotopeCount Try.f28 e_i_ZonotopeCount.ps e_i_ZonotopeCount.rs x = e_i_ZonotopeCount.F x := by kernel_rfl
theorem o_i_ZonotopeCount : FnOk Try.prog e_i_ZonotopeCount.f ∧ Ctr Try.prog e_i_ZonotopeCount := mkCtr (C := c_i_ZonotopeCount) m_ (⟨o_i_AreGens, o_i_gcdSum, o_i_determinants, trivial⟩) Try.func28 (by kernel_rfl) k_i_ZonotopeCount
/-! loop.example/g00959/spec.l21Sums -/
noncomputable def s_l21Sums_s8 (x0 : List (List Int)) (v1 : Int × Int × Int) (v4 : Int × Int) : Option ((Int × Int) ⊕ (Int)) :=
 cond (decide (v4.2 < v1.2.2))
 ((idx x0 v4.2).bind fun v5 => (idx x0 v1.2.2).bind fun v6 => (s_l7Cross v5 v6).bind fun v7 => (s_l1Abs v7).bind fun v8 => some (.inl ((IntKind.i64.wrap (v4.1 + v8)), (IntKind.i64.wrap (v4.2 + (1 : Int))))))
 (some (.inr v4.1))
noncomputable def s_l21Sums_s4 (x0 : List (List Int)) (v1 : Int × Int × Int) : Option ((Int × Int × Int) ⊕ (Int × Int)) :=
 cond (decide (v1.2.2 < (x0.length : Int)))
 ((idx x0 v1.2.2).bind fun v2 => (s_l2All v2).bind fun v3 => (iter (s_l21Sums_s8 x0 v1) (v1.2.1, (0 : Int))).bind fun v9 => some (.inl ((IntKind.i64.wrap (v1.1 + v3)), (v9, (IntKind.i64.wrap (v1.2.2 + (1 : Int)))))))
 (some (.inr (v1.1, v1.2.1)))
noncomputable def s_l21Sums (x0 : List (List Int)) : Option (Int × Int) :=
(iter (s_l21Sums_s4 x0) ((0 : Int), ((0 : Int), (0 : Int)))).bind fun v10 => some (v10.1, v10.2)
noncomputable def e_s_l21Sums : CallE := ⟨84, [.d false (.list (.list (.int .i64)))], [.l (.d false (.int .i64)), .l (.d false (.int .i64))], fun x => s_l21Sums x⟩
noncomputable def c_s_l21Sums : Ctx := ⟨Try.prog, TT, [e_s_l2All, e_s_l7Cross, e_s_l1Abs], [⟨4, [(4, .l (.d false (.int .i64))), (5, .l (.d false (.int .i64))), (6, .l (.d false (.int .i64)))], some (0, [(4, .l (.d false (.int .i64))), (5, .l (.d false (.int .i64)))]), none, false⟩, ⟨8, [(5, .l (.d false (.int .i64))), (7, .l (.d false (.int .i64)))], some (2, [(5, .l (.d false (.int .i64)))]), none, false⟩], [], [], [], []⟩
theorem k_s_l21Sums (x : PMs.den e_s_l21Sums.ps) : funK c_s_l21Sums Try.f84 e_s_l21Sums.ps e_s_l21Sums.rs x = e_s_l21Sums.F x := by kernel_rfl
theorem o_s_l21Sums : FnOk Try.prog e_s_l21Sums.f ∧ Ctr Try.prog e_s_l21Sums := mkCtr (C := c_s_l21Sums) m_ (⟨o_s_l2All, o_s_l7Cross, o_s_l1Abs, trivial⟩) Try.func84 (by kernel_rfl) k_s_l21Sums
/-! loop.example/g00959/spec.ZonotopeCount -/
noncomputable def s_ZonotopeCount (x0 : List (List Int)) : Option (Int) :=
(s_AreGens x0).bind fun v1 => cond (!v1)
 (some (-1 : Int))
 ((s_l21Sums x0).bind fun v2 => some (IntKind.i64.wrap ((IntKind.i64.wrap ((1 : Int) + v2.1)) + v2.2)))
noncomputable def e_s_ZonotopeCount : CallE := ⟨29, [.d false (.list (.list (.int .i64)))], [.l (.d false (.int .i64))], fun x => s_ZonotopeCount x⟩
noncomputable def c_s_ZonotopeCount : Ctx := ⟨Try.prog, TT, [e_s_AreGens, e_s_l21Sums], [], [], [], [], []⟩
theorem k_s_ZonotopeCount (x : PMs.den e_s_ZonotopeCount.ps) : funK c_s_ZonotopeCount Try.f29 e_s_ZonotopeCount.ps e_s_ZonotopeCount.rs x = e_s_ZonotopeCount.F x := by kernel_rfl
theorem o_s_ZonotopeCount : FnOk Try.prog e_s_ZonotopeCount.f ∧ Ctr Try.prog e_s_ZonotopeCount := mkCtr (C := c_s_ZonotopeCount) m_ (⟨o_s_AreGens, o_s_l21Sums, trivial⟩) Try.func29 (by kernel_rfl) k_s_ZonotopeCount
/-! loop.example/g00959/impl.ZonotopeArea -/
noncomputable def i_ZonotopeArea (x0 : List (List Int)) : Option (Int) :=
(i_AreGens x0).bind fun v1 => cond (!v1)
 (some (-1 : Int))
 ((i_determinants x0).bind fun v2 => some v2)
noncomputable def e_i_ZonotopeArea : CallE := ⟨30, [.d false (.list (.list (.int .i64)))], [.l (.d false (.int .i64))], fun x => i_ZonotopeArea x⟩
noncomputable def c_i_ZonotopeArea : Ctx := ⟨Try.prog, TT, [e_i_AreGens, e_i_determinants], [], [], [], [], []⟩
theorem k_i_ZonotopeArea (x : PMs.den e_i_ZonotopeArea.ps) : funK c_i_ZonotopeArea Try.f30 e_i_ZonotopeArea.ps e_i_ZonotopeArea.rs x = e_i_ZonotopeArea.F x := by kernel_rfl
theorem o_i_ZonotopeArea : FnOk Try.prog e_i_ZonotopeArea.f ∧ Ctr Try.prog e_i_ZonotopeArea := mkCtr (C := c_i_ZonotopeArea) m_ (⟨o_i_AreGens, o_i_determinants, trivial⟩) Try.func30 (by kernel_rfl) k_i_ZonotopeArea
/-! loop.example/g00959/spec.ZonotopeArea -/
noncomputable def s_ZonotopeArea (x0 : List (List Int)) : Option (Int) :=
(s_AreGens x0).bind fun v1 => cond (!v1)
 (some (-1 : Int))
 ((s_l21Sums x0).bind fun v2 => some v2.2)
noncomputable def e_s_ZonotopeArea : CallE := ⟨31, [.d false (.list (.list (.int .i64)))], [.l (.d false (.int .i64))], fun x => s_ZonotopeArea x⟩
noncomputable def c_s_ZonotopeArea : Ctx := ⟨Try.prog, TT, [e_s_AreGens, e_s_l21Sums], [], [], [], [], []⟩
theorem k_s_ZonotopeArea (x : PMs.den e_s_ZonotopeArea.ps) : funK c_s_ZonotopeArea Try.f31 e_s_ZonotopeArea.ps e_s_ZonotopeArea.rs x = e_s_ZonotopeArea.F x := by kernel_rfl
theorem o_s_ZonotopeArea : FnOk Try.prog e_s_ZonotopeArea.f ∧ Ctr Try.prog e_s_ZonotopeArea := mkCtr (C := c_s_ZonotopeArea) m_ (⟨o_s_AreGens, o_s_l21Sums, trivial⟩) Try.func31 (by kernel_rfl) k_s_ZonotopeArea
/-! loop.example/g00959/impl.ZonotopeInner -/
noncomputable def i_ZonotopeInner (x0 : List (List Int)) : Option (Int) :=
(i_AreGens x0).bind fun v1 => cond (!v1)
 (some (-1 : Int))
 ((i_determinants x0).bind fun v2 => (i_gcdSum x0).bind fun v3 => some (IntKind.i64.wrap ((IntKind.i64.wrap (v2 - v3)) + (1 : Int))))
noncomputable def e_i_ZonotopeInner : CallE := ⟨32, [.d false (.list (.list (.int .i64)))], [.l (.d false (.int .i64))], fun x => i_ZonotopeInner x⟩
noncomputable def c_i_ZonotopeInner : Ctx := ⟨Try.prog, TT, [e_i_AreGens, e_i_determinants, e_i_gcdSum], [], [], [], [], []⟩
theorem k_i_ZonotopeInner (x : PMs.den e_i_ZonotopeInner.ps) : funK c_i_ZonotopeInner Try.f32 e_i_ZonotopeInner.ps e_i_ZonotopeInner.rs x = e_i_ZonotopeInner.F x := by kernel_rfl
theorem o_i_ZonotopeInner : FnOk Try.prog e_i_ZonotopeInner.f ∧ Ctr Try.prog e_i_ZonotopeInner := mkCtr (C := c_i_ZonotopeInner) m_ (⟨o_i_AreGens, o_i_determinants, o_i_gcdSum, trivial⟩) Try.func32 (by kernel_rfl) k_i_ZonotopeInner
/-! loop.example/g00959/spec.ZonotopeInner -/
noncomputable def s_ZonotopeInner (x0 : List (List Int)) : Option (Int) :=
(s_AreGens x0).bind fun v1 => cond (!v1)
 (some (-1 : Int))
 ((s_l21Sums x0).bind fun v2 => some (IntKind.i64.wrap ((IntKind.i64.wrap (v2.2 - v2.1)) + (1 : Int))))
noncomputable def e_s_ZonotopeInner : CallE := ⟨33, [.d false (.list (.list (.int .i64)))], [.l (.d false (.int .i64))], fun x => s_ZonotopeInner x⟩
noncomputable def c_s_ZonotopeInner : Ctx := ⟨Try.prog, TT, [e_s_AreGens, e_s_l21Sums], [], [], [], [], []⟩
theorem k_s_ZonotopeInner (x : PMs.den e_s_ZonotopeInner.ps) : funK c_s_ZonotopeInner Try.f33 e_s_ZonotopeInner.ps e_s_ZonotopeInner.rs x = e_s_ZonotopeInner.F x := by kernel_rfl
theorem o_s_ZonotopeInner : FnOk Try.prog e_s_ZonotopeInner.f ∧ Ctr Try.prog e_s_ZonotopeInner := mkCtr (C := c_s_ZonotopeInner) m_ (⟨o_s_AreGens, o_s_l21Sums, trivial⟩) Try.func33 (by kernel_rfl) k_s_ZonotopeInner
/-! loop.example/g00959/spec.AreaTwice -/
noncomputable def s_AreaTwice (x0 : List (List Int)) : Option (Int) :=
(s_IsPolygon x0).bind fun v1 => cond (!v1)
 (some (-1 : Int))
 ((s_l7Area x0).bind fun v2 => some v2)
noncomputable def e_s_AreaTwice : CallE := ⟨36, [.d false (.list (.list (.int .i64)))], [.l (.d false (.int .i64))], fun x => s_AreaTwice x⟩
noncomputable def c_s_AreaTwice : Ctx := ⟨Try.prog, TT, [e_s_IsPolygon, e_s_l7Area], [], [], [], [], []⟩
theorem k_s_AreaTwice (x : PMs.den e_s_AreaTwice.ps) : funK c_s_AreaTwice Try.f36 e_s_AreaTwice.ps e_s_AreaTwice.rs x = e_s_AreaTwice.F x := by kernel_rfl
theorem o_s_AreaTwice : FnOk Try.prog e_s_AreaTwice.f ∧ Ctr Try.prog e_s_AreaTwice := mkCtr (C := c_s_AreaTwice) m_ (⟨o_s_IsPolygon, o_s_l7Area, trivial⟩) Try.func36 (by kernel_rfl) k_s_AreaTwice
/-! loop.example/g00959/spec.EhrhartAt -/
noncomputable def s_EhrhartAt (x0 : List (List Int)) (x1 : Int) : Option (Int) :=
(s_IsPolygon x0).bind fun v1 => cond (!v1)
 (some (-1 : Int))
 ((s_l1In x1 (-1000 : Int) (1000 : Int)).bind fun v2 => cond (!v2)
 (some (-1 : Int))
 ((s_BoundaryCount x0).bind fun v3 => (s_l7Area x0).bind fun v4 => (quoI .i64 (IntKind.i64.wrap ((IntKind.i64.wrap ((2 : Int) + (IntKind.i64.wrap (v3 * x1)))) + (IntKind.i64.wrap ((IntKind.i64.wrap (v4 * x1)) * x1)))) (2 : Int)).bind fun v5 => some v5))
noncomputable def e_s_EhrhartAt : CallE := ⟨37, [.d false (.list (.list (.int .i64))), .d false (.int .i64)], [.l (.d false (.int .i64))], fun x => s_EhrhartAt x.1 x.2⟩
noncomputable def c_s_EhrhartAt : Ctx := ⟨Try.prog, TT, [e_s_IsPolygon, e_s_l1In, e_s_BoundaryCount, e_s_l7Area], [], [], [], [], []⟩
theorem k_s_EhrhartAt (x : PMs.den e_s_EhrhartAt.ps) : funK c_s_EhrhartAt Try.f37 e_s_EhrhartAt.ps e_s_EhrhartAt.rs x = e_s_EhrhartAt.F x := by kernel_rfl
theorem o_s_EhrhartAt : FnOk Try.prog e_s_EhrhartAt.f ∧ Ctr Try.prog e_s_EhrhartAt := mkCtr (C := c_s_EhrhartAt) m_ (⟨o_s_IsPolygon, o_s_l1In, o_s_BoundaryCount, o_s_l7Area, trivial⟩) Try.func37 (by kernel_rfl) k_s_EhrhartAt
/-! loop.example/g00959/spec.MirrorPolygon -/
noncomputable def s_MirrorPolygon_s5 (x0 : List (List Int)) (v2 : List (List Int) × Int) : Option ((List (List Int) × Int) ⊕ (List (List Int))) :=
 cond (decide (v2.2 < (x0.length : Int)))
 ((idx x0 v2.2).bind fun v3 => (s_l2Scale v3 (-1 : Int)).bind fun v4 => (appD 24 v2.1 ([v4] : List (List Int))).bind fun v5 => some (.inl (v5, (IntKind.i64.wrap (v2.2 + (1 : Int))))))
 (some (.inr v2.1))
noncomputable def s_MirrorPolygon (x0 : List (List Int)) : Option (List (List Int) × Bool) :=
(s_IsPolygon x0).bind fun v1 => cond (!v1)
 (some (([] : List (List Int)), false))
 ((iter (s_MirrorPolygon_s5 x0) (([] : List (List Int)), (0 : Int))).bind fun v6 => (s_HullOf v6).bind fun v7 => some (v7.1, v7.2))
noncomputable def e_s_MirrorPolygon : CallE := ⟨48, [.d false (.list (.list (.int .i64)))], [.l (.o true 25 (.list (.int .i64))), .l (.d false .bool)], fun x => s_MirrorPolygon x⟩
noncomputable def c_s_MirrorPolygon : Ctx := ⟨Try.prog, TT, [e_s_IsPolygon, e_s_l2Scale, e_s_HullOf], [⟨5, [(4, .l (.o true 25 (.list (.int .i64)))), (5, .l (.d false (.int .i64)))], some (0, [(4, .l (.o true 25 (.list (.int .i64))))]), none, false⟩], [], [], [], []⟩
theorem k_s_MirrorPolygon (x : PMs.den e_s_MirrorPolygon.ps) : funK c_s_MirrorPolygon Try.f48 e_s_MirrorPolygon.ps e_s_MirrorPolygon.rs x = e_s_MirrorPolygon.F x := by kernel_rfl
theorem o_s_MirrorPolygon : FnOk Try.prog e_s_MirrorPolygon.f ∧ Ctr Try.prog e_s_MirrorPolygon := mkCtr (C := c_s_MirrorPolygon) m_ (⟨o_s_IsPolygon, o_s_l2Scale, o_s_HullOf, trivial⟩) Try.func48 (by kernel_rfl) k_s_MirrorPolygon
/-! loop.example/g00959/spec.IsSymmetricPolygon -/
noncomputable def s_IsSymmetricPolygon_s6 (x0 : List (List Int)) (v1 : List (List Int) × Bool) (v4 : List Int) (v5 : Int) : Option ((Int) ⊕ ((Unit) ⊕ (Bool))) :=
 cond (decide (v5 < (x0.length : Int)))
 ((idx v1.1 v5).bind fun v6 => (s_l2Add v6 v4).bind fun v7 => (idx x0 v5).bind fun v8 => (s_l2Same v7 v8).bind fun v9 => cond (!v9)
 (some (.inr (.inr false)))
 (some (.inl (IntKind.i64.wrap (v5 + (1 : Int))))))
 (some (.inr (.inl ())))
noncomputable def s_IsSymmetricPolygon (x0 : List (List Int)) : Option (Bool) :=
(s_MirrorPolygon x0).bind fun v1 => cond (!v1.2)
 (some false)
 ((idx x0 (0 : Int)).bind fun v2 => (inIdx v1.1.length (0 : Int)).bind fun _ => (idx v1.1 (((0 : Int)).toNat : Int)).bind fun v3 => (s_l2Less v2 v3).bind fun v4 => (iter (s_IsSymmetricPolygon_s6 x0 v1 v4) (0 : Int)).bind fun v10 => match v10 with
 | .inl v11 => (some true)
 | .inr v12 => (some v12))
noncomputable def e_s_IsSymmetricPolygon : CallE := ⟨38, [.d false (.list (.list (.int .i64)))], [.l (.d false .bool)], fun x => s_IsSymmetricPolygon x⟩
noncomputable def c_s_IsSymmetricPolygon : Ctx := ⟨Try.prog, TT, [e_s_MirrorPolygon, e_s_l2Less, e_s_l2Add, e_s_l2Same], [⟨6, [(6, .l (.d false (.int .i64)))], some (0, []), some [(2, .l (.d false .bool))], false⟩], [], [], [], []⟩
theorem k_s_IsSymmetricPolygon (x : PMs.den e_s_IsSymmetricPolygon.ps) : funK c_s_IsSymmetricPolygon Try.f38 e_s_IsSymmetricPolygon.ps e_s_IsSymmetricPolygon.rs x = e_s_IsSymmetricPolygon.F x := by kernel_rfl
theorem o_s_IsSymmetricPolygon : FnOk Try.prog e_s_IsSymmetricPolygon.f ∧ Ctr Try.prog e_s_IsSymmetricPolygon := mkCtr (C := c_s_IsSymmetricPolygon) m_ (⟨o_s_MirrorPolygon, o_s_l2Less, o_s_l2Add, o_s_l2Same, trivial⟩) Try.func38 (by kernel_rfl) k_s_IsSymmetricPolygon
/-! loop.example/g00959/laws.FnZonotopes -/
noncomputable def w_FnZonotopes (x0 : List Int) : Option (Bool) :=
(w_big x0).bind fun v1 => cond v1
 (some true)
 ((s_DrawZonotopeOf x0).bind fun v2 => (i_ZonotopeOf v2).bind fun v3 => (s_ZonotopeOf v2).bind fun v4 => (i_ZonotopeCount v2).bind fun v5 => cond (!(v3.2 == v4.2))
 (some false)
 ((w_sameLists v3.1 v4.1).bind fun v6 => cond (!v6)
 (some false)
 ((s_ZonotopeCount v2).bind fun v7 => cond (v5 != v7)
 (some false)
 ((i_ZonotopeArea v2).bind fun v8 => (s_ZonotopeArea v2).bind fun v9 => cond (v8 != v9)
 (some false)
 ((i_ZonotopeInner v2).bind fun v10 => (s_ZonotopeInner v2).bind fun v11 => cond (v10 != v11)
 (some false)
 ((i_AreGens v2).bind fun v12 => (s_AreGens v2).bind fun v13 => cond (!(v12 == v13))
 (some false)
 (cond (!v3.2)
 (some (v5 == (-1 : Int)))
 ((s_AreaTwice v3.1).bind fun v14 => (i_ZonotopeArea v2).bind fun v15 => cond (v14 == (IntKind.i64.wrap ((2 : Int) * v15)))
 ((s_InnerCount v3.1).bind fun v16 => (i_ZonotopeInner v2).bind fun v17 => cond (v16 == v17)
 ((s_EhrhartAt v3.1 (1 : Int)).bind fun v18 => cond (v18 == v5)
 ((s_IsSymmetricPolygon v3.1).bind fun v19 => some v19)
 (some false))
 (some false))
 (some false)))))))))
noncomputable def e_w_FnZonotopes : CallE := ⟨4, [.d false (.list (.int .u8))], [.l (.d false .bool)], fun x => w_FnZonotopes x⟩
noncomputable def c_w_FnZonotopes : Ctx := ⟨Try.prog, TT, [e_w_big, e_s_DrawZonotopeOf, e_i_ZonotopeOf, e_s_ZonotopeOf, e_i_ZonotopeCount, e_w_sameLists, e_s_ZonotopeCount, e_i_ZonotopeArea, e_s_ZonotopeArea, e_i_ZonotopeInner, e_s_ZonotopeInner, e_i_AreGens, e_s_AreGens, e_s_AreaTwice, e_s_InnerCount, e_s_EhrhartAt, e_s_IsSymmetricPolygon], [], [], [], [], []⟩
theorem k_w_FnZonotopes (x : PMs.den e_w_FnZonotopes.ps) : funK c_w_FnZonotopes Try.f4 e_w_FnZonotopes.ps e_w_FnZonotopes.rs x = e_w_FnZonotopes.F x := by kernel_rfl
theorem o_w_FnZonotopes : FnOk Try.prog e_w_FnZonotopes.f ∧ Ctr Try.prog e_w_FnZonotopes := mkCtr (C := c_w_FnZonotopes) m_ (⟨o_w_big, o_s_DrawZonotopeOf, o_i_ZonotopeOf, o_s_ZonotopeOf, o_i_ZonotopeCount, o_w_sameLists, o_s_ZonotopeCount, o_i_ZonotopeArea, o_s_ZonotopeArea, o_i_ZonotopeInner, o_s_ZonotopeInner, o_i_AreGens, o_s_AreGens, o_s_AreaTwice, o_s_InnerCount, o_s_EhrhartAt, o_s_IsSymmetricPolygon, trivial⟩) Try.func4 (by kernel_rfl) k_w_FnZonotopes
/-! loop.example/g00959/impl.times -/
noncomputable def i_times_s2 (i : Nat) (m t : Int) (s : Int × List (List Int)) : Option ((Int × List (List Int)) ⊕ List (List Int)) :=
 cond (decide (s.1 < m)) ((s.2[i]?).bind fun q => (inIdx q.length s.1).bind fun _ => (s.2[i]?).bind fun q => (q[s.1.toNat]?).bind fun v => (s.2[i]?).bind fun q => (inIdx q.length s.1).bind fun _ => (s.2[i]?).bind fun q => (q[s.1.toNat]?).bind fun _ => some (.inl (IntKind.i64.wrap (s.1 + 1), s.2.set i (q.set s.1.toNat (IntKind.i64.wrap (v * t)))))) (some (.inr s.2))
noncomputable def i_times_s1 (n t : Int) (s : Int × List (List Int)) : Option ((Int × List (List Int)) ⊕ List (List Int)) :=
 cond (decide (s.1 < n)) ((inIdx s.2.length s.1).bind fun _ => if s.1.toNat < s.2.length then (s.2[s.1.toNat]?).bind fun q => (iter (i_times_s2 s.1.toNat q.length t) (0, s.2)).bind fun y => some (.inl (IntKind.i64.wrap (s.1 + 1), y)) else none) (some (.inr s.2))
noncomputable def i_times (x0 : List (List Int)) (x1 : Int) : Option (List (List Int)) := (i_copyPoints x0).bind fun v1 => (iter (i_times_s1 v1.length x1) (0, v1)).bind fun y => some y
/-! loop.example/g00959/impl.MirrorPolygon -/
noncomputable def i_MirrorPolygon (x0 : List (List Int)) : Option (List (List Int) × Bool) :=
(i_IsPolygon x0).bind fun v1 => cond (!v1)
 (some (([] : List (List Int)), false))
 ((i_times x0 (-1 : Int)).bind fun v2 => (i_HullOf v2).bind fun v3 => some (v3.1, v3.2))
/-! slices.Equal[[]int,int] -/
noncomputable def g_slices_Equal_s4 (x0 : List Int) (x1 : List Int) (v1 : Int) : Option ((Int) ⊕ ((Unit) ⊕ (Bool))) :=
 cond (decide (v1 < (x0.length : Int)))
 ((idx x0 v1).bind fun v2 => (idx x1 v1).bind fun v3 => cond (v2 != v3)
 (some (.inr (.inr false)))
 (some (.inl (IntKind.i64.wrap (v1 + (1 : Int))))))
 (some (.inr (.inl ())))
noncomputable def g_slices_Equal (x0 : List Int) (x1 : List Int) : Option (Bool) :=
 cond ((x0.length : Int) != (x1.length : Int))
 (some false)
 ((iter (g_slices_Equal_s4 x0 x1) (0 : Int)).bind fun v4 => match v4 with
 | .inl v5 => (some true)
 | .inr v6 => (some v6))
/-! loop.example/g00959/impl.IsSymmetricPolygon -/
noncomputable def i_IsSymmetricPolygon_s5 (x0 : List (List Int)) (v1 : List (List Int) × Bool) (v2 : Int) : Option ((Int) ⊕ ((Unit) ⊕ (Bool))) :=
 cond (decide (v2 < (x0.length : Int)))
 ((idx x0 v2).bind fun v3 => (idx v1.1 v2).bind fun v4 => (i_minus v3 v4).bind fun v5 => (idx x0 (0 : Int)).bind fun v6 => (idx v1.1 (0 : Int)).bind fun v7 => (i_minus v6 v7).bind fun v8 => (g_slices_Equal v5 v8).bind fun v9 => cond (!v9)
 (some (.inr (.inr false)))
 (some (.inl (IntKind.i64.wrap (v2 + (1 : Int))))))
 (some (.inr (.inl ())))
noncomputable def i_IsSymmetricPolygon (x0 : List (List Int)) : Option (Bool) :=
(i_MirrorPolygon x0).bind fun v1 => cond (!v1.2)
 (some false)
 ((iter (i_IsSymmetricPolygon_s5 x0 v1) (0 : Int)).bind fun v10 => match v10 with
 | .inl v11 => (some true)
 | .inr v12 => (some v12))
end Go.Proofs.Ytilggmmanhinbaa
