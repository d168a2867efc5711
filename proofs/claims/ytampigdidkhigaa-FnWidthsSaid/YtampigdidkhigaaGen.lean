/- Plain functions. -/
import Derived.Test.YtampigdidkhigaaProg
import Derived.Test.YtampigdidkhigaaLay
import Derived.Test.YtampigdidkhigaaEm7
import Derived.Test.YtampigdidkhigaaEm8
import Derived.KernelRfl
namespace Go.Proofs.Ytampigdidkhigaa
open Go Go.Proofs.Ytampigdidkhigaa.Eng
set_option linter.unusedVariables false
set_option maxRecDepth 100000
noncomputable def TT : List (TypeId × Ty) := [(3, (.int .i64)), (5, (.int .u8)), (25, (.list (.int .i64)))]
theorem m_ : Try.prog.follows .mixedOrders = true := by kernel_rfl
/-! loop.example/g00959/laws.big -/
noncomputable def w_big (x0 : List Int) : Option (Bool) :=
 some (decide ((x0.length : Int) > (1048576 : Int)))
noncomputable def e_w_big : CallE := ⟨6, [.d false (.list (.int .u8))], [.l (.d false .bool)], fun x => w_big x⟩
noncomputable def c_w_big : Ctx := ⟨Try.prog, TT, [], [], [], [], [], []⟩
theorem k_w_big (x : PMs.den e_w_big.ps) : funK c_w_big Try.f6 e_w_big.ps e_w_big.rs x = e_w_big.F x := by kernel_rfl
theorem o_w_big : FnOk Try.prog e_w_big.f ∧ Ctr Try.prog e_w_big := mkCtr (C := c_w_big) m_ (trivial) Try.func6 (by kernel_rfl) k_w_big
/-! loop.example/g00959/spec.l1Byte -/
noncomputable def s_l1Byte (x0 : (List Int) × Int × Int) : Option ((Int) × ((List Int) × Int × Int) × Unit) :=
(shrI .i64 (IntKind.i64.wrap ((IntKind.i64.wrap (x0.2.2 * (6364136223846793005 : Int))) + (1442695040888963407 : Int))) (33 : Int)).bind fun v1 => (shrI .i64 (IntKind.i64.wrap ((IntKind.i64.wrap (x0.2.2 * (6364136223846793005 : Int))) + (1442695040888963407 : Int))) (45 : Int)).bind fun v2 => cond (decide (x0.2.1 < (x0.1.length : Int)))
 ((idx x0.1 x0.2.1).bind fun v3 => some ((andI .i64 (IntKind.i64.wrap ((andI .i64 (xorI .i64 v1 v2) (255 : Int)) + (IntKind.i64.wrap v3))) (255 : Int)), ((x0.1, ((IntKind.i64.wrap (x0.2.1 + (1 : Int))), (IntKind.i64.wrap ((IntKind.i64.wrap (x0.2.2 * (6364136223846793005 : Int))) + (1442695040888963407 : Int))))), ())))
 (some ((andI .i64 (xorI .i64 v1 v2) (255 : Int)), ((x0.1, (x0.2.1, (IntKind.i64.wrap ((IntKind.i64.wrap (x0.2.2 * (6364136223846793005 : Int))) + (1442695040888963407 : Int))))), ())))
noncomputable def e_s_l1Byte : CallE := ⟨123, [.cur 73], [.l (.d false (.int .i64))], fun x => s_l1Byte x⟩
noncomputable def c_s_l1Byte : Ctx := ⟨Try.prog, TT, [], [], [], [], [], []⟩
theorem k_s_l1Byte (x : PMs.den e_s_l1Byte.ps) : funK c_s_l1Byte Try.f123 e_s_l1Byte.ps e_s_l1Byte.rs x = e_s_l1Byte.F x := by kernel_rfl
theorem o_s_l1Byte : FnOk Try.prog e_s_l1Byte.f ∧ Ctr Try.prog e_s_l1Byte := mkCtr (C := c_s_l1Byte) m_ (trivial) Try.func123 (by kernel_rfl) k_s_l1Byte
/-! loop.example/g00959/spec.l1Below -/
noncomputable def s_l1Below (x0 : (List Int) × Int × Int) (x1 : Int) : Option ((Int) × ((List Int) × Int × Int) × Unit) :=
 cond (decide (x1 ≤ (0 : Int)))
 (some ((0 : Int), ((x0.1, (x0.2.1, x0.2.2)), ())))
 (cond (decide (x1 ≤ (256 : Int)))
 ((s_l1Byte (x0.1, (x0.2.1, x0.2.2))).bind fun v1 => (remI .i64 v1.1 x1).bind fun v2 => some (v2, ((v1.2.1.1, (v1.2.1.2.1, v1.2.1.2.2)), ())))
 ((s_l1Byte (x0.1, (x0.2.1, x0.2.2))).bind fun v3 => (s_l1Byte (v3.2.1.1, (v3.2.1.2.1, v3.2.1.2.2))).bind fun v4 => (s_l1Byte (v4.2.1.1, (v4.2.1.2.1, v4.2.1.2.2))).bind fun v5 => (s_l1Byte (v5.2.1.1, (v5.2.1.2.1, v5.2.1.2.2))).bind fun v6 => (remI .i64 (IntKind.i64.wrap ((IntKind.i64.wrap ((IntKind.i64.wrap ((IntKind.i64.wrap (v3.1 * (16777216 : Int))) + (IntKind.i64.wrap (v4.1 * (65536 : Int))))) + (IntKind.i64.wrap (v5.1 * (256 : Int))))) + v6.1)) x1).bind fun v7 => some (v7, ((v6.2.1.1, (v6.2.1.2.1, v6.2.1.2.2)), ()))))
noncomputable def e_s_l1Below : CallE := ⟨102, [.cur 73, .d false (.int .i64)], [.l (.d false (.int .i64))], fun x => s_l1Below x.1 x.2⟩
noncomputable def c_s_l1Below : Ctx := ⟨Try.prog, TT, [e_s_l1Byte], [], [], [], [], []⟩
theorem k_s_l1Below (x : PMs.den e_s_l1Below.ps) : funK c_s_l1Below Try.f102 e_s_l1Below.ps e_s_l1Below.rs x = e_s_l1Below.F x := by kernel_rfl
theorem o_s_l1Below : FnOk Try.prog e_s_l1Below.f ∧ Ctr Try.prog e_s_l1Below := mkCtr (C := c_s_l1Below) m_ (⟨o_s_l1Byte, trivial⟩) Try.func102 (by kernel_rfl) k_s_l1Below
/-! loop.example/g00959/spec.l2Draw -/
noncomputable def s_l2Draw_s3 (x1 : Int) (x2 : Int) (v1 : (List Int × Int × Int) × List Int × Int) : Option (((List Int × Int × Int) × List Int × Int) ⊕ ((List Int × Int × Int) × List Int)) :=
 cond (decide (v1.2.2 < x1))
 ((s_l1Below (v1.1.1, (v1.1.2.1, v1.1.2.2)) (IntKind.i64.wrap ((IntKind.i64.wrap ((2 : Int) * x2)) + (1 : Int)))).bind fun v2 => (appD 8 v1.2.1 ([(IntKind.i64.wrap (v2.1 - x2))] : List Int)).bind fun v3 => some (.inl ((v2.2.1.1, (v2.2.1.2.1, v2.2.1.2.2)), (v3, (IntKind.i64.wrap (v1.2.2 + (1 : Int)))))))
 (some (.inr ((v1.1.1, (v1.1.2.1, v1.1.2.2)), v1.2.1)))
noncomputable def s_l2Draw (x0 : (List Int) × Int × Int) (x1 : Int) (x2 : Int) : Option ((List Int) × ((List Int) × Int × Int) × Unit) :=
(iter (s_l2Draw_s3 x1 x2) ((x0.1, (x0.2.1, x0.2.2)), (([] : List Int), (0 : Int)))).bind fun v4 => some (v4.2, ((v4.1.1, (v4.1.2.1, v4.1.2.2)), ()))
noncomputable def e_s_l2Draw : CallE := ⟨59, [.cur 73, .d false (.int .i64), .d false (.int .i64)], [.l (.o true 3 (.int .i64))], fun x => s_l2Draw x.1 x.2.1 x.2.2⟩
noncomputable def c_s_l2Draw : Ctx := ⟨Try.prog, TT, [e_s_l1Below], [⟨3, [(0, .b 73 [(.d false (.list (.int .u8))), (.d false (.int .i64)), (.d false (.int .i64))]), (7, .l (.o true 3 (.int .i64))), (8, .l (.d false (.int .i64)))], some (0, [(0, .b 73 [(.d false (.list (.int .u8))), (.d false (.int .i64)), (.d false (.int .i64))]), (7, .l (.o true 3 (.int .i64)))]), none, false⟩], [], [], [], []⟩
theorem k_s_l2Draw (x : PMs.den e_s_l2Draw.ps) : funK c_s_l2Draw Try.f59 e_s_l2Draw.ps e_s_l2Draw.rs x = e_s_l2Draw.F x := by kernel_rfl
theorem o_s_l2Draw : FnOk Try.prog e_s_l2Draw.f ∧ Ctr Try.prog e_s_l2Draw := mkCtr (C := c_s_l2Draw) m_ (⟨o_s_l1Below, trivial⟩) Try.func59 (by kernel_rfl) k_s_l2Draw
/-! loop.example/g00959/spec.l1In -/
noncomputable def s_l1In (x0 : Int) (x1 : Int) (x2 : Int) : Option (Bool) :=
 cond (decide (x0 ≥ x1))
 (some (decide (x0 ≤ x2)))
 (some false)
noncomputable def e_s_l1In : CallE := ⟨73, [.d false (.int .i64), .d false (.int .i64), .d false (.int .i64)], [.l (.d false .bool)], fun x => s_l1In x.1 x.2.1 x.2.2⟩
noncomputable def c_s_l1In : Ctx := ⟨Try.prog, TT, [], [], [], [], [], []⟩
theorem k_s_l1In (x : PMs.den e_s_l1In.ps) : funK c_s_l1In Try.f73 e_s_l1In.ps e_s_l1In.rs x = e_s_l1In.F x := by kernel_rfl
theorem o_s_l1In : FnOk Try.prog e_s_l1In.f ∧ Ctr Try.prog e_s_l1In := mkCtr (C := c_s_l1In) m_ (trivial) Try.func73 (by kernel_rfl) k_s_l1In
/-! loop.example/g00959/spec.l2Small -/
noncomputable def s_l2Small_s2 (x0 : List Int) (x1 : Int) (v1 : Int) : Option ((Int) ⊕ ((Unit) ⊕ (Bool))) :=
 cond (decide (v1 < (x0.length : Int)))
 ((idx x0 v1).bind fun v2 => (s_l1In v2 (IntKind.i64.wrap (0 - x1)) x1).bind fun v3 => cond (!v3)
 (some (.inr (.inr false)))
 (some (.inl (IntKind.i64.wrap (v1 + (1 : Int))))))
 (some (.inr (.inl ())))
noncomputable def s_l2Small (x0 : List Int) (x1 : Int) : Option (Bool) :=
(iter (s_l2Small_s2 x0 x1) (0 : Int)).bind fun v4 => match v4 with
 | .inl v5 => (some true)
 | .inr v6 => (some v6)
noncomputable def e_s_l2Small : CallE := ⟨69, [.d false (.list (.int .i64)), .d false (.int .i64)], [.l (.d false .bool)], fun x => s_l2Small x.1 x.2⟩
noncomputable def c_s_l2Small : Ctx := ⟨Try.prog, TT, [e_s_l1In], [⟨2, [(5, .l (.d false (.int .i64)))], some (0, []), some [(4, .l (.d false .bool))], false⟩], [], [], [], []⟩
theorem k_s_l2Small (x : PMs.den e_s_l2Small.ps) : funK c_s_l2Small Try.f69 e_s_l2Small.ps e_s_l2Small.rs x = e_s_l2Small.F x := by kernel_rfl
theorem o_s_l2Small : FnOk Try.prog e_s_l2Small.f ∧ Ctr Try.prog e_s_l2Small := mkCtr (C := c_s_l2Small) m_ (⟨o_s_l1In, trivial⟩) Try.func69 (by kernel_rfl) k_s_l2Small
/-! loop.example/g00959/spec.l7Flat -/
noncomputable def s_l7Flat_s2 (x0 : List (List Int)) (v1 : Int) : Option ((Int) ⊕ ((Unit) ⊕ (Bool))) :=
 cond (decide (v1 < (x0.length : Int)))
 ((idx x0 v1).bind fun v2 => cond ((v2.length : Int) != (2 : Int))
 (some (.inr (.inr false)))
 ((idx x0 v1).bind fun v3 => (s_l2Small v3 (50 : Int)).bind fun v4 => cond (!v4)
 (some (.inr (.inr false)))
 (some (.inl (IntKind.i64.wrap (v1 + (1 : Int)))))))
 (some (.inr (.inl ())))
noncomputable def s_l7Flat (x0 : List (List Int)) : Option (Bool) :=
(iter (s_l7Flat_s2 x0) (0 : Int)).bind fun v5 => match v5 with
 | .inl v6 => (some true)
 | .inr v7 => (some v7)
noncomputable def e_s_l7Flat : CallE := ⟨74, [.d false (.list (.list (.int .i64)))], [.l (.d false .bool)], fun x => s_l7Flat x⟩
noncomputable def c_s_l7Flat : Ctx := ⟨Try.prog, TT, [e_s_l2Small], [⟨2, [(3, .l (.d false (.int .i64)))], some (0, []), some [(2, .l (.d false .bool))], false⟩], [], [], [], []⟩
theorem k_s_l7Flat (x : PMs.den e_s_l7Flat.ps) : funK c_s_l7Flat Try.f74 e_s_l7Flat.ps e_s_l7Flat.rs x = e_s_l7Flat.F x := by kernel_rfl
theorem o_s_l7Flat : FnOk Try.prog e_s_l7Flat.f ∧ Ctr Try.prog e_s_l7Flat := mkCtr (C := c_s_l7Flat) m_ (⟨o_s_l2Small, trivial⟩) Try.func74 (by kernel_rfl) k_s_l7Flat
/-! loop.example/g00959/spec.l2Before -/
noncomputable def s_l2Before_s2 (x0 : List Int) (x1 : List Int) (v1 : Int) : Option ((Int) ⊕ ((Unit) ⊕ (Bool))) :=
 cond (decide (v1 < (x0.length : Int)))
 (cond (decide (v1 < (x1.length : Int)))
 ((idx x0 v1).bind fun v2 => (idx x1 v1).bind fun v3 => cond (v2 != v3)
 ((idx x0 v1).bind fun v4 => (idx x1 v1).bind fun v5 => some (.inr (.inr (decide (v4 < v5)))))
 (some (.inl (IntKind.i64.wrap (v1 + (1 : Int))))))
 (some (.inr (.inl ()))))
 (some (.inr (.inl ())))
noncomputable def s_l2Before (x0 : List Int) (x1 : List Int) : Option (Bool) :=
(iter (s_l2Before_s2 x0 x1) (0 : Int)).bind fun v6 => match v6 with
 | .inl v7 => (some false)
 | .inr v8 => (some v8)
noncomputable def e_s_l2Before : CallE := ⟨125, [.d false (.list (.int .i64)), .d false (.list (.int .i64))], [.l (.d false .bool)], fun x => s_l2Before x.1 x.2⟩
noncomputable def c_s_l2Before : Ctx := ⟨Try.prog, TT, [], [⟨2, [(5, .l (.d false (.int .i64)))], some (0, []), some [(4, .l (.d false .bool))], false⟩], [], [], [], []⟩
theorem k_s_l2Before (x : PMs.den e_s_l2Before.ps) : funK c_s_l2Before Try.f125 e_s_l2Before.ps e_s_l2Before.rs x = e_s_l2Before.F x := by kernel_rfl
theorem o_s_l2Before : FnOk Try.prog e_s_l2Before.f ∧ Ctr Try.prog e_s_l2Before := mkCtr (C := c_s_l2Before) m_ (trivial) Try.func125 (by kernel_rfl) k_s_l2Before
/-! loop.example/g00959/spec.l2Same -/
noncomputable def s_l2Same_s4 (x0 : List Int) (x1 : List Int) (v1 : Int) : Option ((Int) ⊕ ((Unit) ⊕ (Bool))) :=
 cond (decide (v1 < (x0.length : Int)))
 ((idx x0 v1).bind fun v2 => (idx x1 v1).bind fun v3 => cond (v2 != v3)
 (some (.inr (.inr false)))
 (some (.inl (IntKind.i64.wrap (v1 + (1 : Int))))))
 (some (.inr (.inl ())))
noncomputable def s_l2Same (x0 : List Int) (x1 : List Int) : Option (Bool) :=
 cond ((x0.length : Int) != (x1.length : Int))
 (some false)
 ((iter (s_l2Same_s4 x0 x1) (0 : Int)).bind fun v4 => match v4 with
 | .inl v5 => (some true)
 | .inr v6 => (some v6))
noncomputable def e_s_l2Same : CallE := ⟨90, [.d false (.list (.int .i64)), .d false (.list (.int .i64))], [.l (.d false .bool)], fun x => s_l2Same x.1 x.2⟩
noncomputable def c_s_l2Same : Ctx := ⟨Try.prog, TT, [], [⟨4, [(5, .l (.d false (.int .i64)))], some (0, []), some [(4, .l (.d false .bool))], false⟩], [], [], [], []⟩
theorem k_s_l2Same (x : PMs.den e_s_l2Same.ps) : funK c_s_l2Same Try.f90 e_s_l2Same.ps e_s_l2Same.rs x = e_s_l2Same.F x := by kernel_rfl
theorem o_s_l2Same : FnOk Try.prog e_s_l2Same.f ∧ Ctr Try.prog e_s_l2Same := mkCtr (C := c_s_l2Same) m_ (trivial) Try.func90 (by kernel_rfl) k_s_l2Same
/-! loop.example/g00959/spec.l2Put -/
noncomputable def s_l2Put_s2 (x1 : List Int) (v1 : List (List Int) × Int) : Option ((List (List Int) × Int) ⊕ (List (List Int) × Int)) :=
 cond (decide (v1.2 > (0 : Int)))
 ((inIdx v1.1.length (IntKind.i64.wrap (v1.2 - (1 : Int)))).bind fun _ => (idx v1.1 (((IntKind.i64.wrap (v1.2 - (1 : Int)))).toNat : Int)).bind fun v2 => (s_l2Before x1 v2).bind fun v3 => cond v3
 (some (.inl (v1.1, (IntKind.i64.wrap (v1.2 - (1 : Int))))))
 (some (.inr (v1.1, v1.2))))
 (some (.inr (v1.1, v1.2)))
noncomputable def s_l2Put (x0 : List (List Int)) (x1 : List Int) : Option (List (List Int)) :=
(iter (s_l2Put_s2 x1) (x0, (x0.length : Int))).bind fun v4 => cond (decide (v4.2 > (0 : Int)))
 ((inIdx v4.1.length (IntKind.i64.wrap (v4.2 - (1 : Int)))).bind fun _ => (idx v4.1 (((IntKind.i64.wrap (v4.2 - (1 : Int)))).toNat : Int)).bind fun v5 => (s_l2Same v5 x1).bind fun v6 => cond v6
 (some v4.1)
 ((subl v4.1 v4.2 (v4.1.length : Int)).bind fun v7 => (subl v4.1 ((v4.2).toNat : Int) (((v4.1.length : Int)).toNat : Int)).bind fun v8 => (appD 24 ([] : List (List Int)) v8).bind fun v9 => (subl v4.1 0 v4.2).bind fun v10 => (appD 8 ([] : List Int) x1).bind fun v11 => (appD 24 v10 ([v11] : List (List Int))).bind fun v12 => (appD 24 v12 v9).bind fun v13 => some v13))
 ((subl v4.1 v4.2 (v4.1.length : Int)).bind fun v14 => (subl v4.1 ((v4.2).toNat : Int) (((v4.1.length : Int)).toNat : Int)).bind fun v15 => (appD 24 ([] : List (List Int)) v15).bind fun v16 => (subl v4.1 0 v4.2).bind fun v17 => (appD 8 ([] : List Int) x1).bind fun v18 => (appD 24 v17 ([v18] : List (List Int))).bind fun v19 => (appD 24 v19 v16).bind fun v20 => some v20)
noncomputable def e_s_l2Put : CallE := ⟨109, [.mv false 25 (.list (.int .i64)), .d false (.list (.int .i64))], [.l (.o false 25 (.list (.int .i64)))], fun x => s_l2Put x.1 x.2⟩
noncomputable def c_s_l2Put : Ctx := ⟨Try.prog, TT, [e_s_l2Before, e_s_l2Same], [⟨2, [(0, .l (.o false 25 (.list (.int .i64)))), (5, .l (.d false (.int .i64)))], some (0, [(0, .l (.o false 25 (.list (.int .i64)))), (5, .l (.d false (.int .i64)))]), none, false⟩], [], [], [35], [(7, [0, 1, 2, 4, 8, 3, 5, 6, 7, 9, 10])]⟩
theorem k_s_l2Put (x : PMs.den e_s_l2Put.ps) : funK c_s_l2Put Try.f109 e_s_l2Put.ps e_s_l2Put.rs x = e_s_l2Put.F x := by kernel_rfl
theorem o_s_l2Put : FnOk Try.prog e_s_l2Put.f ∧ Ctr Try.prog e_s_l2Put := mkCtr (C := c_s_l2Put) m_ (⟨o_s_l2Before, o_s_l2Same, trivial⟩) Try.func109 (by kernel_rfl) k_s_l2Put
/-! loop.example/g00959/spec.l2Less -/
noncomputable def s_l2Less_s3 (x0 : List Int) (x1 : List Int) (v1 : List Int × Int) : Option ((List Int × Int) ⊕ (List Int)) :=
 cond (decide (v1.2 < (x0.length : Int)))
 ((idx x0 v1.2).bind fun v2 => (idx x1 v1.2).bind fun v3 => (appD 8 v1.1 ([(IntKind.i64.wrap (v2 - v3))] : List Int)).bind fun v4 => some (.inl (v4, (IntKind.i64.wrap (v1.2 + (1 : Int))))))
 (some (.inr v1.1))
noncomputable def s_l2Less (x0 : List Int) (x1 : List Int) : Option (List Int) :=
(iter (s_l2Less_s3 x0 x1) (([] : List Int), (0 : Int))).bind fun v5 => some v5
noncomputable def e_s_l2Less : CallE := ⟨89, [.d false (.list (.int .i64)), .d false (.list (.int .i64))], [.l (.o true 3 (.int .i64))], fun x => s_l2Less x.1 x.2⟩
noncomputable def c_s_l2Less : Ctx := ⟨Try.prog, TT, [], [⟨3, [(5, .l (.o true 3 (.int .i64))), (6, .l (.d false (.int .i64)))], some (0, [(5, .l (.o true 3 (.int .i64)))]), none, false⟩], [], [], [], []⟩
theorem k_s_l2Less (x : PMs.den e_s_l2Less.ps) : funK c_s_l2Less Try.f89 e_s_l2Less.ps e_s_l2Less.rs x = e_s_l2Less.F x := by kernel_rfl
theorem o_s_l2Less : FnOk Try.prog e_s_l2Less.f ∧ Ctr Try.prog e_s_l2Less := mkCtr (C := c_s_l2Less) m_ (trivial) Try.func89 (by kernel_rfl) k_s_l2Less
/-! loop.example/g00959/spec.l7Cross -/
noncomputable def s_l7Cross (x0 : List Int) (x1 : List Int) : Option (Int) :=
(idx x0 (0 : Int)).bind fun v1 => (idx x1 (1 : Int)).bind fun v2 => (idx x0 (1 : Int)).bind fun v3 => (idx x1 (0 : Int)).bind fun v4 => some (IntKind.i64.wrap ((IntKind.i64.wrap (v1 * v2)) - (IntKind.i64.wrap (v3 * v4))))
noncomputable def e_s_l7Cross : CallE := ⟨88, [.d false (.list (.int .i64)), .d false (.list (.int .i64))], [.l (.d false (.int .i64))], fun x => s_l7Cross x.1 x.2⟩
noncomputable def c_s_l7Cross : Ctx := ⟨Try.prog, TT, [], [], [], [], [], []⟩
theorem k_s_l7Cross (x : PMs.den e_s_l7Cross.ps) : funK c_s_l7Cross Try.f88 e_s_l7Cross.ps e_s_l7Cross.rs x = e_s_l7Cross.F x := by kernel_rfl
theorem o_s_l7Cross : FnOk Try.prog e_s_l7Cross.f ∧ Ctr Try.prog e_s_l7Cross := mkCtr (C := c_s_l7Cross) m_ (trivial) Try.func88 (by kernel_rfl) k_s_l7Cross
/-! loop.example/g00959/spec.l7Turn -/
noncomputable def s_l7Turn (x0 : List Int) (x1 : List Int) (x2 : List Int) : Option (Int) :=
(s_l2Less x1 x0).bind fun v1 => (s_l2Less x2 x1).bind fun v2 => (s_l7Cross v1 v2).bind fun v3 => some v3
noncomputable def e_s_l7Turn : CallE := ⟨124, [.d false (.list (.int .i64)), .d false (.list (.int .i64)), .d false (.list (.int .i64))], [.l (.d false (.int .i64))], fun x => s_l7Turn x.1 x.2.1 x.2.2⟩
noncomputable def c_s_l7Turn : Ctx := ⟨Try.prog, TT, [e_s_l2Less, e_s_l7Cross], [], [], [], [], []⟩
theorem k_s_l7Turn (x : PMs.den e_s_l7Turn.ps) : funK c_s_l7Turn Try.f124 e_s_l7Turn.ps e_s_l7Turn.rs x = e_s_l7Turn.F x := by kernel_rfl
theorem o_s_l7Turn : FnOk Try.prog e_s_l7Turn.f ∧ Ctr Try.prog e_s_l7Turn := mkCtr (C := c_s_l7Turn) m_ (⟨o_s_l2Less, o_s_l7Cross, trivial⟩) Try.func124 (by kernel_rfl) k_s_l7Turn
/-! loop.example/g00959/spec.l7Hull -/
noncomputable def s_l7Hull_s12 (v1 : List (List Int) × Int) (v4 : List Int) (v5 : List (List Int)) : Option ((List (List Int)) ⊕ (List (List Int))) :=
 cond (decide ((v5.length : Int) ≥ (IntKind.i64.wrap ((v1.1.length : Int) + (2 : Int)))))
 ((inIdx v5.length (IntKind.i64.wrap ((v5.length : Int) - (2 : Int)))).bind fun _ => (idx v5 (((IntKind.i64.wrap ((v5.length : Int) - (2 : Int)))).toNat : Int)).bind fun v6 => (inIdx v5.length (IntKind.i64.wrap ((v5.length : Int) - (1 : Int)))).bind fun _ => (idx v5 (((IntKind.i64.wrap ((v5.length : Int) - (1 : Int)))).toNat : Int)).bind fun v7 => (s_l7Turn v6 v7 v4).bind fun v8 => cond (decide (v8 ≤ (0 : Int)))
 ((subl v5 0 (IntKind.i64.wrap ((v5.length : Int) - (1 : Int)))).bind fun v9 => some (.inl v9))
 (some (.inr v5)))
 (some (.inr v5))
noncomputable def s_l7Hull_s12b16 (v1 : List (List Int) × Int) (v3 : List Int) (v12 : List (List Int)) : Option ((List (List Int)) ⊕ (List (List Int))) :=
 cond (decide ((v12.length : Int) ≥ (IntKind.i64.wrap ((v1.1.length : Int) + (2 : Int)))))
 ((inIdx v12.length (IntKind.i64.wrap ((v12.length : Int) - (2 : Int)))).bind fun _ => (idx v12 (((IntKind.i64.wrap ((v12.length : Int) - (2 : Int)))).toNat : Int)).bind fun v13 => (inIdx v12.length (IntKind.i64.wrap ((v12.length : Int) - (1 : Int)))).bind fun _ => (idx v12 (((IntKind.i64.wrap ((v12.length : Int) - (1 : Int)))).toNat : Int)).bind fun v14 => (s_l7Turn v13 v14 v3).bind fun v15 => cond (decide (v15 ≤ (0 : Int)))
 ((subl v12 0 (IntKind.i64.wrap ((v12.length : Int) - (1 : Int)))).bind fun v16 => some (.inl v16))
 (some (.inr v12)))
 (some (.inr v12))
noncomputable def s_l7Hull_s7 (x0 : List (List Int)) (v1 : List (List Int) × Int) (v2 : List (List Int) × Int) : Option ((List (List Int) × Int) ⊕ (List (List Int))) :=
 cond (decide (v2.2 < (x0.length : Int)))
 ((idx x0 v2.2).bind fun v3 => cond (v1.2 == (1 : Int))
 ((idx x0 (IntKind.i64.wrap ((IntKind.i64.wrap ((x0.length : Int) - (1 : Int))) - v2.2))).bind fun v4 => (iter (s_l7Hull_s12 v1 v4) v2.1).bind fun v10 => (appD 24 v10 ([v4] : List (List Int))).bind fun v11 => some (.inl (v11, (IntKind.i64.wrap (v2.2 + (1 : Int))))))
 ((iter (s_l7Hull_s12b16 v1 v3) v2.1).bind fun v17 => (appD 24 v17 ([v3] : List (List Int))).bind fun v18 => some (.inl (v18, (IntKind.i64.wrap (v2.2 + (1 : Int)))))))
 (some (.inr v2.1))
noncomputable def s_l7Hull_s3 (x0 : List (List Int)) (v1 : List (List Int) × Int) : Option ((List (List Int) × Int) ⊕ (List (List Int))) :=
 cond (decide (v1.2 < (2 : Int)))
 ((iter (s_l7Hull_s7 x0 v1) (v1.1, (0 : Int))).bind fun v19 => (subl v19 0 (IntKind.i64.wrap ((v19.length : Int) - (1 : Int)))).bind fun v20 => some (.inl (v20, (IntKind.i64.wrap (v1.2 + (1 : Int))))))
 (some (.inr v1.1))
noncomputable def s_l7Hull (x0 : List (List Int)) : Option (List (List Int)) :=
(iter (s_l7Hull_s3 x0) (([] : List (List Int)), (0 : Int))).bind fun v21 => some v21
noncomputable def e_s_l7Hull : CallE := ⟨110, [.d false (.list (.list (.int .i64)))], [.l (.o false 25 (.list (.int .i64)))], fun x => s_l7Hull x⟩
noncomputable def c_s_l7Hull : Ctx := ⟨Try.prog, TT, [e_s_l7Turn], [⟨3, [(3, .l (.o false 25 (.list (.int .i64)))), (4, .l (.d false (.int .i64)))], some (0, [(3, .l (.o false 25 (.list (.int .i64))))]), none, false⟩, ⟨7, [(3, .l (.o false 25 (.list (.int .i64)))), (6, .l (.d false (.int .i64)))], some (2, [(3, .l (.o false 25 (.list (.int .i64))))]), none, false⟩, ⟨12, [(3, .l (.o false 25 (.list (.int .i64))))], some (4, [(3, .l (.o false 25 (.list (.int .i64))))]), none, false⟩], [], [], [], []⟩
theorem k_s_l7Hull (x : PMs.den e_s_l7Hull.ps) : funK c_s_l7Hull Try.f110 e_s_l7Hull.ps e_s_l7Hull.rs x = e_s_l7Hull.F x := by kernel_rfl
theorem o_s_l7Hull : FnOk Try.prog e_s_l7Hull.f ∧ Ctr Try.prog e_s_l7Hull := mkCtr (C := c_s_l7Hull) m_ (⟨o_s_l7Turn, trivial⟩) Try.func110 (by kernel_rfl) k_s_l7Hull
/-! loop.example/g00959/spec.l7Copy -/
noncomputable def s_l7Copy_s3 (x0 : List (List Int)) (v1 : List (List Int) × Int) : Option ((List (List Int) × Int) ⊕ (List (List Int))) :=
 cond (decide (v1.2 < (x0.length : Int)))
 ((idx x0 v1.2).bind fun v2 => (appD 8 ([] : List Int) v2).bind fun v3 => (appD 24 v1.1 ([v3] : List (List Int))).bind fun v4 => some (.inl (v4, (IntKind.i64.wrap (v1.2 + (1 : Int))))))
 (some (.inr v1.1))
noncomputable def s_l7Copy (x0 : List (List Int)) : Option (List (List Int)) :=
(iter (s_l7Copy_s3 x0) (([] : List (List Int)), (0 : Int))).bind fun v5 => some v5
noncomputable def e_s_l7Copy : CallE := ⟨111, [.d false (.list (.list (.int .i64)))], [.l (.o true 25 (.list (.int .i64)))], fun x => s_l7Copy x⟩
noncomputable def c_s_l7Copy : Ctx := ⟨Try.prog, TT, [], [⟨3, [(3, .l (.o true 25 (.list (.int .i64)))), (4, .l (.d false (.int .i64)))], some (0, [(3, .l (.o true 25 (.list (.int .i64))))]), none, false⟩], [], [], [], []⟩
theorem k_s_l7Copy (x : PMs.den e_s_l7Copy.ps) : funK c_s_l7Copy Try.f111 e_s_l7Copy.ps e_s_l7Copy.rs x = e_s_l7Copy.F x := by kernel_rfl
theorem o_s_l7Copy : FnOk Try.prog e_s_l7Copy.f ∧ Ctr Try.prog e_s_l7Copy := mkCtr (C := c_s_l7Copy) m_ (trivial) Try.func111 (by kernel_rfl) k_s_l7Copy
/-! loop.example/g00959/spec.HullOf -/
noncomputable def s_HullOf_s5 (x0 : List (List Int)) (v2 : List (List Int) × Int) : Option ((List (List Int) × Int) ⊕ (List (List Int))) :=
 cond (decide (v2.2 < (x0.length : Int)))
 ((idx x0 v2.2).bind fun v3 => (s_l2Put v2.1 v3).bind fun v4 => some (.inl (v4, (IntKind.i64.wrap (v2.2 + (1 : Int))))))
 (some (.inr v2.1))
noncomputable def s_HullOf (x0 : List (List Int)) : Option (List (List Int) × Bool) :=
 cond (decide ((x0.length : Int) > (200 : Int)))
 (some (([] : List (List Int)), false))
 ((s_l7Flat x0).bind fun v1 => cond (!v1)
 (some (([] : List (List Int)), false))
 ((iter (s_HullOf_s5 x0) (([] : List (List Int)), (0 : Int))).bind fun v5 => cond (decide ((v5.length : Int) < (3 : Int)))
 (some (([] : List (List Int)), false))
 ((s_l7Hull v5).bind fun v6 => cond (decide ((v6.length : Int) < (3 : Int)))
 (some (([] : List (List Int)), false))
 (cond (decide ((v6.length : Int) > (12 : Int)))
 (some (([] : List (List Int)), false))
 ((s_l7Copy v6).bind fun v7 => some (v7, true))))))
noncomputable def e_s_HullOf : CallE := ⟨75, [.d false (.list (.list (.int .i64)))], [.l (.o true 25 (.list (.int .i64))), .l (.d false .bool)], fun x => s_HullOf x⟩
noncomputable def c_s_HullOf : Ctx := ⟨Try.prog, TT, [e_s_l7Flat, e_s_l2Put, e_s_l7Hull, e_s_l7Copy], [⟨5, [(4, .l (.o false 25 (.list (.int .i64)))), (5, .l (.d false (.int .i64)))], some (0, [(4, .l (.o false 25 (.list (.int .i64))))]), none, false⟩], [], [], [], []⟩
theorem k_s_HullOf (x : PMs.den e_s_HullOf.ps) : funK c_s_HullOf Try.f75 e_s_HullOf.ps e_s_HullOf.rs x = e_s_HullOf.F x := by kernel_rfl
theorem o_s_HullOf : FnOk Try.prog e_s_HullOf.f ∧ Ctr Try.prog e_s_HullOf := mkCtr (C := c_s_HullOf) m_ (⟨o_s_l7Flat, o_s_l2Put, o_s_l7Hull, o_s_l7Copy, trivial⟩) Try.func75 (by kernel_rfl) k_s_HullOf
/-! loop.example/g00959/spec.l7Draw -/
noncomputable def s_l7Draw_s7 (x1 : Int) (v2 : (Int) × ((List Int) × Int × Int) × Unit) (v3 : (List Int × Int × Int) × List (List Int) × Int) : Option (((List Int × Int × Int) × List (List Int) × Int) ⊕ ((List Int × Int × Int) × List (List Int))) :=
 cond (decide (v3.2.2 < (IntKind.i64.wrap ((3 : Int) + v2.1))))
 ((s_l2Draw (v3.1.1, (v3.1.2.1, v3.1.2.2)) (2 : Int) x1).bind fun v4 => (appD 24 v3.2.1 ([v4.1] : List (List Int))).bind fun v5 => some (.inl ((v4.2.1.1, (v4.2.1.2.1, v4.2.1.2.2)), (v5, (IntKind.i64.wrap (v3.2.2 + (1 : Int)))))))
 (some (.inr ((v3.1.1, (v3.1.2.1, v3.1.2.2)), v3.2.1)))
noncomputable def s_l7Draw_s2 (x1 : Int) (v1 : (List Int × Int × Int) × Int) : Option (((List Int × Int × Int) × Int) ⊕ ((List Int × Int × Int) ⊕ ((List Int × Int × Int) × List (List Int)))) :=
 cond (decide (v1.2 < (6 : Int)))
 ((s_l1Below (v1.1.1, (v1.1.2.1, v1.1.2.2)) (4 : Int)).bind fun v2 => (iter (s_l7Draw_s7 x1 v2) ((v2.2.1.1, (v2.2.1.2.1, v2.2.1.2.2)), (([] : List (List Int)), (0 : Int)))).bind fun v6 => (s_HullOf v6.2).bind fun v7 => cond v7.2
 (some (.inr (.inr ((v6.1.1, (v6.1.2.1, v6.1.2.2)), v7.1))))
 (some (.inl ((v6.1.1, (v6.1.2.1, v6.1.2.2)), (IntKind.i64.wrap (v1.2 + (1 : Int)))))))
 (some (.inr (.inl (v1.1.1, (v1.1.2.1, v1.1.2.2)))))
noncomputable def s_l7Draw (x0 : (List Int) × Int × Int) (x1 : Int) : Option ((List (List Int)) × ((List Int) × Int × Int) × Unit) :=
(iter (s_l7Draw_s2 x1) ((x0.1, (x0.2.1, x0.2.2)), (0 : Int))).bind fun v8 => match v8 with
 | .inl v9 => (some (([([(0 : Int), (0 : Int)] : List Int), ([(2 : Int), (0 : Int)] : List Int), ([(0 : Int), (1 : Int)] : List Int)] : List (List Int)), ((v9.1, (v9.2.1, v9.2.2)), ())))
 | .inr v10 => (some (v10.2, ((v10.1.1, (v10.1.2.1, v10.1.2.2)), ())))
noncomputable def e_s_l7Draw : CallE := ⟨96, [.cur 73, .d false (.int .i64)], [.l (.o false 25 (.list (.int .i64)))], fun x => s_l7Draw x.1 x.2⟩
noncomputable def c_s_l7Draw : Ctx := ⟨Try.prog, TT, [e_s_l1Below, e_s_l2Draw, e_s_HullOf], [⟨2, [(0, .b 73 [(.d false (.list (.int .u8))), (.d false (.int .i64)), (.d false (.int .i64))]), (5, .l (.d false (.int .i64)))], some (0, [(0, .b 73 [(.d false (.list (.int .u8))), (.d false (.int .i64)), (.d false (.int .i64))])]), some [(0, .b 73 [(.d false (.list (.int .u8))), (.d false (.int .i64)), (.d false (.int .i64))]), (4, .l (.o true 25 (.list (.int .i64))))], false⟩, ⟨7, [(0, .b 73 [(.d false (.list (.int .u8))), (.d false (.int .i64)), (.d false (.int .i64))]), (6, .l (.o true 25 (.list (.int .i64)))), (8, .l (.d false (.int .i64)))], some (2, [(0, .b 73 [(.d false (.list (.int .u8))), (.d false (.int .i64)), (.d false (.int .i64))]), (6, .l (.o true 25 (.list (.int .i64))))]), none, false⟩], [], [], [], []⟩
theorem k_s_l7Draw (x : PMs.den e_s_l7Draw.ps) : funK c_s_l7Draw Try.f96 e_s_l7Draw.ps e_s_l7Draw.rs x = e_s_l7Draw.F x := by kernel_rfl
theorem o_s_l7Draw : FnOk Try.prog e_s_l7Draw.f ∧ Ctr Try.prog e_s_l7Draw := mkCtr (C := c_s_l7Draw) m_ (⟨o_s_l1Below, o_s_l2Draw, o_s_HullOf, trivial⟩) Try.func96 (by kernel_rfl) k_s_l7Draw
/-! loop.example/g00959/spec.l1Once -/
noncomputable def s_l1Once (x0 : (List Int) × Int × Int) (x1 : Int) : Option ((Bool) × ((List Int) × Int × Int) × Unit) :=
(s_l1Below (x0.1, (x0.2.1, x0.2.2)) x1).bind fun v1 => some ((v1.1 == (0 : Int)), ((v1.2.1.1, (v1.2.1.2.1, v1.2.1.2.2)), ()))
noncomputable def e_s_l1Once : CallE := ⟨61, [.cur 73, .d false (.int .i64)], [.l (.d false .bool)], fun x => s_l1Once x.1 x.2⟩
noncomputable def c_s_l1Once : Ctx := ⟨Try.prog, TT, [e_s_l1Below], [], [], [], [], []⟩
theorem k_s_l1Once (x : PMs.den e_s_l1Once.ps) : funK c_s_l1Once Try.f61 e_s_l1Once.ps e_s_l1Once.rs x = e_s_l1Once.F x := by kernel_rfl
theorem o_s_l1Once : FnOk Try.prog e_s_l1Once.f ∧ Ctr Try.prog e_s_l1Once := mkCtr (C := c_s_l1Once) m_ (⟨o_s_l1Below, trivial⟩) Try.func61 (by kernel_rfl) k_s_l1Once
/-! loop.example/g00959/spec.l1Bit -/
noncomputable def s_l1Bit (x0 : Bool) : Option (Int) :=
 cond x0
 (some (1 : Int))
 (some (0 : Int))
noncomputable def e_s_l1Bit : CallE := ⟨60, [.d false .bool], [.l (.d false (.int .i64))], fun x => s_l1Bit x⟩
noncomputable def c_s_l1Bit : Ctx := ⟨Try.prog, TT, [], [], [], [], [], []⟩
theorem k_s_l1Bit (x : PMs.den e_s_l1Bit.ps) : funK c_s_l1Bit Try.f60 e_s_l1Bit.ps e_s_l1Bit.rs x = e_s_l1Bit.F x := by kernel_rfl
theorem o_s_l1Bit : FnOk Try.prog e_s_l1Bit.f ∧ Ctr Try.prog e_s_l1Bit := mkCtr (C := c_s_l1Bit) m_ (trivial) Try.func60 (by kernel_rfl) k_s_l1Bit
/-! loop.example/g00959/spec.l7Bent -/
noncomputable def s_l7Bent (x0 : (List Int) × Int × Int) : Option ((List (List Int)) × ((List Int) × Int × Int) × Unit) :=
(s_l7Draw (x0.1, (x0.2.1, x0.2.2)) (4 : Int)).bind fun v1 => (s_l1Below (v1.2.1.1, (v1.2.1.2.1, v1.2.1.2.2)) (14 : Int)).bind fun v2 => cond (v2.1 == (0 : Int))
 ((inIdx v1.1.length (0 : Int)).bind fun _ => (idx v1.1 (((0 : Int)).toNat : Int)).bind fun v3 => (inIdx v1.1.length (1 : Int)).bind fun _ => (idx v1.1 (((1 : Int)).toNat : Int)).bind fun v4 => (inIdx v1.1.length (0 : Int)).bind fun _ => (inIdx v1.1.length (((0 : Int)).toNat : Int)).bind fun _ => (inIdx (v1.1.set (((0 : Int)).toNat) v4).length (1 : Int)).bind fun _ => (inIdx (v1.1.set (((0 : Int)).toNat) v4).length (((1 : Int)).toNat : Int)).bind fun _ => some (((v1.1.set (((0 : Int)).toNat) v4).set (((1 : Int)).toNat) v3), ((v2.2.1.1, (v2.2.1.2.1, v2.2.1.2.2)), ())))
 (cond (v2.1 == (1 : Int))
 ((s_l1Once (v2.2.1.1, (v2.2.1.2.1, v2.2.1.2.2)) (2 : Int)).bind fun v5 => (s_l1Bit v5.1).bind fun v6 => (s_l2Draw (v5.2.1.1, (v5.2.1.2.1, v5.2.1.2.2)) (IntKind.i64.wrap ((2 : Int) + v6)) (60 : Int)).bind fun v7 => (inIdx v1.1.length (0 : Int)).bind fun _ => (inIdx v1.1.length (((0 : Int)).toNat : Int)).bind fun _ => some ((v1.1.set (((0 : Int)).toNat) v7.1), ((v7.2.1.1, (v7.2.1.2.1, v7.2.1.2.2)), ())))
 (cond (v2.1 == (2 : Int))
 ((subl v1.1 0 (2 : Int)).bind fun v8 => some (v8, ((v2.2.1.1, (v2.2.1.2.1, v2.2.1.2.2)), ())))
 (some (v1.1, ((v2.2.1.1, (v2.2.1.2.1, v2.2.1.2.2)), ())))))
noncomputable def e_s_l7Bent : CallE := ⟨56, [.cur 73], [.l (.o false 25 (.list (.int .i64)))], fun x => s_l7Bent x⟩
noncomputable def c_s_l7Bent : Ctx := ⟨Try.prog, TT, [e_s_l7Draw, e_s_l1Below, e_s_l1Once, e_s_l1Bit, e_s_l2Draw], [], [], [], [], []⟩
theorem k_s_l7Bent (x : PMs.den e_s_l7Bent.ps) : funK c_s_l7Bent Try.f56 e_s_l7Bent.ps e_s_l7Bent.rs x = e_s_l7Bent.F x := by kernel_rfl
theorem o_s_l7Bent : FnOk Try.prog e_s_l7Bent.f ∧ Ctr Try.prog e_s_l7Bent := mkCtr (C := c_s_l7Bent) m_ (⟨o_s_l7Draw, o_s_l1Below, o_s_l1Once, o_s_l1Bit, o_s_l2Draw, trivial⟩) Try.func56 (by kernel_rfl) k_s_l7Bent
/-! loop.example/g00959/spec.DrawPlaceOf -/
noncomputable def s_DrawPlaceOf_s57_3 (x0 : List Int) (v1 : Int × Int) : Option ((Int × Int) ⊕ (Int)) :=
 cond (decide (v1.2 < (x0.length : Int)))
 (cond (decide (v1.2 < (4000 : Int)))
 ((idx x0 v1.2).bind fun v2 => some (.inl ((andI .i64 (IntKind.i64.wrap ((IntKind.i64.wrap ((IntKind.i64.wrap (v1.1 * (131 : Int))) + (IntKind.i64.wrap v2))) + (7 : Int))) (1073741823 : Int)), (IntKind.i64.wrap (v1.2 + (1 : Int))))))
 (some (.inr v1.1)))
 (some (.inr v1.1))
noncomputable def s_DrawPlaceOf (x0 : List Int) : Option (List (List Int) × List Int) :=
(iter (s_DrawPlaceOf_s57_3 x0) ((IntKind.i64.wrap ((26583 : Int) + (x0.length : Int))), (0 : Int))).bind fun v3 => (s_l7Bent (x0, ((0 : Int), v3))).bind fun v4 => (s_l1Once (v4.2.1.1, (v4.2.1.2.1, v4.2.1.2.2)) (14 : Int)).bind fun v5 => (s_l1Bit v5.1).bind fun v6 => (s_l2Draw (v5.2.1.1, (v5.2.1.2.1, v5.2.1.2.2)) (IntKind.i64.wrap ((2 : Int) + v6)) (4 : Int)).bind fun v7 => some (v4.1, v7.1)
noncomputable def e_s_DrawPlaceOf : CallE := ⟨52, [.d false (.list (.int .u8))], [.l (.o false 25 (.list (.int .i64))), .l (.o true 3 (.int .i64))], fun x => s_DrawPlaceOf x⟩
noncomputable def c_s_DrawPlaceOf_57 : Ctx := ⟨Try.prog, TT, [], [⟨3, [(3, .l (.d false (.int .i64))), (4, .l (.d false (.int .i64)))], some (0, [(3, .l (.d false (.int .i64)))]), none, true⟩], [], [], [], []⟩
noncomputable def n_s_DrawPlaceOf_57 : InE := ⟨57, false, inlK c_s_DrawPlaceOf_57 Try.f57⟩
theorem q_s_DrawPlaceOf_57 : FnOk Try.prog n_s_DrawPlaceOf_57.f ∧ InOk Try.prog n_s_DrawPlaceOf_57 := mkInl (C := c_s_DrawPlaceOf_57) m_ (trivial) Try.func57 (by kernel_rfl)
noncomputable def c_s_DrawPlaceOf : Ctx := ⟨Try.prog, TT, [e_s_l7Bent, e_s_l1Once, e_s_l1Bit, e_s_l2Draw], [], [], [n_s_DrawPlaceOf_57], [], []⟩
theorem k_s_DrawPlaceOf (x : PMs.den e_s_DrawPlaceOf.ps) : funK c_s_DrawPlaceOf Try.f52 e_s_DrawPlaceOf.ps e_s_DrawPlaceOf.rs x = e_s_DrawPlaceOf.F x := by kernel_rfl
theorem o_s_DrawPlaceOf : FnOk Try.prog e_s_DrawPlaceOf.f ∧ Ctr Try.prog e_s_DrawPlaceOf := mkCtr (C := c_s_DrawPlaceOf) m_ (⟨o_s_l7Bent, o_s_l1Once, o_s_l1Bit, o_s_l2Draw, trivial⟩) Try.func52 (by kernel_rfl) k_s_DrawPlaceOf ⟨q_s_DrawPlaceOf_57, trivial⟩
/-! loop.example/g00959/spec.DrawWidthIn -/
noncomputable def s_DrawWidthIn (x0 : List Int) : Option (List (List Int) × List Int) :=
(s_DrawPlaceOf x0).bind fun v1 => some (v1.1, v1.2)
noncomputable def e_s_DrawWidthIn : CallE := ⟨7, [.d false (.list (.int .u8))], [.l (.o false 25 (.list (.int .i64))), .l (.o true 3 (.int .i64))], fun x => s_DrawWidthIn x⟩
noncomputable def c_s_DrawWidthIn : Ctx := ⟨Try.prog, TT, [e_s_DrawPlaceOf], [], [], [], [], []⟩
theorem k_s_DrawWidthIn (x : PMs.den e_s_DrawWidthIn.ps) : funK c_s_DrawWidthIn Try.f7 e_s_DrawWidthIn.ps e_s_DrawWidthIn.rs x = e_s_DrawWidthIn.F x := by kernel_rfl
theorem o_s_DrawWidthIn : FnOk Try.prog e_s_DrawWidthIn.f ∧ Ctr Try.prog e_s_DrawWidthIn := mkCtr (C := c_s_DrawWidthIn) m_ (⟨o_s_DrawPlaceOf, trivial⟩) Try.func7 (by kernel_rfl) k_s_DrawWidthIn
/-! loop.example/g00959/impl.within -/
noncomputable def i_within (x0 : Int) (x1 : Int) (x2 : Int) : Option (Bool) :=
 cond (decide (x0 ≥ x1))
 (some (decide (x0 ≤ x2)))
 (some false)
noncomputable def e_i_within : CallE := ⟨85, [.d false (.int .i64), .d false (.int .i64), .d false (.int .i64)], [.l (.d false .bool)], fun x => i_within x.1 x.2.1 x.2.2⟩
noncomputable def c_i_within : Ctx := ⟨Try.prog, TT, [], [], [], [], [], []⟩
theorem k_i_within (x : PMs.den e_i_within.ps) : funK c_i_within Try.f85 e_i_within.ps e_i_within.rs x = e_i_within.F x := by kernel_rfl
theorem o_i_within : FnOk Try.prog e_i_within.f ∧ Ctr Try.prog e_i_within := mkCtr (C := c_i_within) m_ (trivial) Try.func85 (by kernel_rfl) k_i_within
/-! loop.example/g00959/impl.allWithin -/
noncomputable def i_allWithin_s2 (x0 : List Int) (x1 : Int) (x2 : Int) (v1 : Int) : Option ((Int) ⊕ ((Unit) ⊕ (Bool))) :=
 cond (decide (v1 < (x0.length : Int)))
 ((idx x0 v1).bind fun v2 => (i_within v2 x1 x2).bind fun v3 => cond (!v3)
 (some (.inr (.inr false)))
 (some (.inl (IntKind.i64.wrap (v1 + (1 : Int))))))
 (some (.inr (.inl ())))
noncomputable def i_allWithin (x0 : List Int) (x1 : Int) (x2 : Int) : Option (Bool) :=
(iter (i_allWithin_s2 x0 x1 x2) (0 : Int)).bind fun v4 => match v4 with
 | .inl v5 => (some true)
 | .inr v6 => (some v6)
noncomputable def e_i_allWithin : CallE := ⟨101, [.d false (.list (.int .i64)), .d false (.int .i64), .d false (.int .i64)], [.l (.d false .bool)], fun x => i_allWithin x.1 x.2.1 x.2.2⟩
noncomputable def c_i_allWithin : Ctx := ⟨Try.prog, TT, [e_i_within], [⟨2, [(11, .l (.d false (.int .i64)))], some (0, []), some [(6, .l (.d false .bool))], false⟩], [], [], [], []⟩
theorem k_i_allWithin (x : PMs.den e_i_allWithin.ps) : funK c_i_allWithin Try.f101 e_i_allWithin.ps e_i_allWithin.rs x = e_i_allWithin.F x := by kernel_rfl
theorem o_i_allWithin : FnOk Try.prog e_i_allWithin.f ∧ Ctr Try.prog e_i_allWithin := mkCtr (C := c_i_allWithin) m_ (⟨o_i_within, trivial⟩) Try.func101 (by kernel_rfl) k_i_allWithin
/-! loop.example/g00959/impl.isPoint -/
noncomputable def i_isPoint (x0 : List Int) (x1 : Int) : Option (Bool) :=
 cond ((x0.length : Int) == (2 : Int))
 ((i_allWithin x0 (IntKind.i64.wrap (0 - x1)) x1).bind fun v1 => some v1)
 (some false)
noncomputable def e_i_isPoint : CallE := ⟨64, [.d false (.list (.int .i64)), .d false (.int .i64)], [.l (.d false .bool)], fun x => i_isPoint x.1 x.2⟩
noncomputable def c_i_isPoint : Ctx := ⟨Try.prog, TT, [e_i_allWithin], [], [], [], [], []⟩
theorem k_i_isPoint (x : PMs.den e_i_isPoint.ps) : funK c_i_isPoint Try.f64 e_i_isPoint.ps e_i_isPoint.rs x = e_i_isPoint.F x := by kernel_rfl
theorem o_i_isPoint : FnOk Try.prog e_i_isPoint.f ∧ Ctr Try.prog e_i_isPoint := mkCtr (C := c_i_isPoint) m_ (⟨o_i_allWithin, trivial⟩) Try.func64 (by kernel_rfl) k_i_isPoint
/-! loop.example/g00959/impl.minus -/
noncomputable def i_minus (x0 : List Int) (x1 : List Int) : Option (List Int) :=
(idx x0 (0 : Int)).bind fun v1 => (idx x1 (0 : Int)).bind fun v2 => (idx x0 (1 : Int)).bind fun v3 => (idx x1 (1 : Int)).bind fun v4 => some ([(IntKind.i64.wrap (v1 - v2)), (IntKind.i64.wrap (v3 - v4))] : List Int)
noncomputable def e_i_minus : CallE := ⟨98, [.d false (.list (.int .i64)), .d false (.list (.int .i64))], [.l (.o true 3 (.int .i64))], fun x => i_minus x.1 x.2⟩
noncomputable def c_i_minus : Ctx := ⟨Try.prog, TT, [], [], [], [], [], []⟩
theorem k_i_minus (x : PMs.den e_i_minus.ps) : funK c_i_minus Try.f98 e_i_minus.ps e_i_minus.rs x = e_i_minus.F x := by kernel_rfl
theorem o_i_minus : FnOk Try.prog e_i_minus.f ∧ Ctr Try.prog e_i_minus := mkCtr (C := c_i_minus) m_ (trivial) Try.func98 (by kernel_rfl) k_i_minus
/-! loop.example/g00959/impl.cross -/
noncomputable def i_cross (x0 : List Int) (x1 : List Int) : Option (Int) :=
(idx x0 (0 : Int)).bind fun v1 => (idx x1 (1 : Int)).bind fun v2 => (idx x0 (1 : Int)).bind fun v3 => (idx x1 (0 : Int)).bind fun v4 => some (IntKind.i64.wrap ((IntKind.i64.wrap (v1 * v2)) - (IntKind.i64.wrap (v3 * v4))))
noncomputable def e_i_cross : CallE := ⟨117, [.d false (.list (.int .i64)), .d false (.list (.int .i64))], [.l (.d false (.int .i64))], fun x => i_cross x.1 x.2⟩
noncomputable def c_i_cross : Ctx := ⟨Try.prog, TT, [], [], [], [], [], []⟩
theorem k_i_cross (x : PMs.den e_i_cross.ps) : funK c_i_cross Try.f117 e_i_cross.ps e_i_cross.rs x = e_i_cross.F x := by kernel_rfl
theorem o_i_cross : FnOk Try.prog e_i_cross.f ∧ Ctr Try.prog e_i_cross := mkCtr (C := c_i_cross) m_ (trivial) Try.func117 (by kernel_rfl) k_i_cross
/-! loop.example/g00959/impl.turn -/
noncomputable def i_turn (x0 : List Int) (x1 : List Int) (x2 : List Int) : Option (Int) :=
(i_minus x1 x0).bind fun v1 => (i_minus x2 x0).bind fun v2 => (i_cross v1 v2).bind fun v3 => some v3
noncomputable def e_i_turn : CallE := ⟨99, [.d false (.list (.int .i64)), .d false (.list (.int .i64)), .d false (.list (.int .i64))], [.l (.d false (.int .i64))], fun x => i_turn x.1 x.2.1 x.2.2⟩
noncomputable def c_i_turn : Ctx := ⟨Try.prog, TT, [e_i_minus, e_i_cross], [], [], [], [], []⟩
theorem k_i_turn (x : PMs.den e_i_turn.ps) : funK c_i_turn Try.f99 e_i_turn.ps e_i_turn.rs x = e_i_turn.F x := by kernel_rfl
theorem o_i_turn : FnOk Try.prog e_i_turn.f ∧ Ctr Try.prog e_i_turn := mkCtr (C := c_i_turn) m_ (⟨o_i_minus, o_i_cross, trivial⟩) Try.func99 (by kernel_rfl) k_i_turn
/-! cmp.isNaN[int] -/
noncomputable def g_cmp_isNaN (x0 : Int) : Option (Bool) :=
 some (x0 != x0)
noncomputable def e_g_cmp_isNaN : CallE := ⟨128, [.d false (.int .i64)], [.l (.d false .bool)], fun x => g_cmp_isNaN x⟩
noncomputable def c_g_cmp_isNaN : Ctx := ⟨Try.prog, TT, [], [], [], [], [], []⟩
theorem k_g_cmp_isNaN (x : PMs.den e_g_cmp_isNaN.ps) : funK c_g_cmp_isNaN Try.f128 e_g_cmp_isNaN.ps e_g_cmp_isNaN.rs x = e_g_cmp_isNaN.F x := by kernel_rfl
theorem o_g_cmp_isNaN : FnOk Try.prog e_g_cmp_isNaN.f ∧ Ctr Try.prog e_g_cmp_isNaN := mkCtr (C := c_g_cmp_isNaN) m_ (trivial) Try.func128 (by kernel_rfl) k_g_cmp_isNaN
/-! cmp.Compare[int] -/
noncomputable def g_cmp_Compare (x0 : Int) (x1 : Int) : Option (Int) :=
(g_cmp_isNaN x0).bind fun v1 => (g_cmp_isNaN x1).bind fun v2 => cond v1
 (cond v2
 (some (0 : Int))
 (some (-1 : Int)))
 (cond v2
 (some (1 : Int))
 (cond (decide (x0 < x1))
 (some (-1 : Int))
 (cond (decide (x0 > x1))
 (some (1 : Int))
 (some (0 : Int)))))
noncomputable def e_g_cmp_Compare : CallE := ⟨122, [.d false (.int .i64), .d false (.int .i64)], [.l (.d false (.int .i64))], fun x => g_cmp_Compare x.1 x.2⟩
noncomputable def c_g_cmp_Compare : Ctx := ⟨Try.prog, TT, [e_g_cmp_isNaN], [], [], [], [], []⟩
theorem k_g_cmp_Compare (x : PMs.den e_g_cmp_Compare.ps) : funK c_g_cmp_Compare Try.f122 e_g_cmp_Compare.ps e_g_cmp_Compare.rs x = e_g_cmp_Compare.F x := by kernel_rfl
theorem o_g_cmp_Compare : FnOk Try.prog e_g_cmp_Compare.f ∧ Ctr Try.prog e_g_cmp_Compare := mkCtr (C := c_g_cmp_Compare) m_ (⟨o_g_cmp_isNaN, trivial⟩) Try.func122 (by kernel_rfl) k_g_cmp_Compare
/-! slices.Compare[[]int,int] -/
noncomputable def g_slices_Compare_s2 (x0 : List Int) (x1 : List Int) (v1 : Int) : Option ((Int) ⊕ ((Unit) ⊕ (Int))) :=
 cond (decide (v1 < (x0.length : Int)))
 ((idx x0 v1).bind fun v2 => cond (decide (v1 ≥ (x1.length : Int)))
 (some (.inr (.inr (1 : Int))))
 ((idx x1 v1).bind fun v3 => (g_cmp_Compare v2 v3).bind fun v4 => cond (v4 != (0 : Int))
 (some (.inr (.inr v4)))
 (some (.inl (IntKind.i64.wrap (v1 + (1 : Int)))))))
 (some (.inr (.inl ())))
noncomputable def g_slices_Compare (x0 : List Int) (x1 : List Int) : Option (Int) :=
(iter (g_slices_Compare_s2 x0 x1) (0 : Int)).bind fun v5 => match v5 with
 | .inl v6 => (cond (decide ((x0.length : Int) < (x1.length : Int)))
 (some (-1 : Int))
 (some (0 : Int)))
 | .inr v7 => (some v7)
noncomputable def e_g_slices_Compare : CallE := ⟨100, [.d false (.list (.int .i64)), .d false (.list (.int .i64))], [.l (.d false (.int .i64))], fun x => g_slices_Compare x.1 x.2⟩
noncomputable def c_g_slices_Compare : Ctx := ⟨Try.prog, TT, [e_g_cmp_Compare], [⟨2, [(11, .l (.d false (.int .i64)))], some (0, []), some [(4, .l (.d false (.int .i64)))], false⟩], [], [], [], []⟩
theorem k_g_slices_Compare (x : PMs.den e_g_slices_Compare.ps) : funK c_g_slices_Compare Try.f100 e_g_slices_Compare.ps e_g_slices_Compare.rs x = e_g_slices_Compare.F x := by kernel_rfl
theorem o_g_slices_Compare : FnOk Try.prog e_g_slices_Compare.f ∧ Ctr Try.prog e_g_slices_Compare := mkCtr (C := c_g_slices_Compare) m_ (⟨o_g_cmp_Compare, trivial⟩) Try.func100 (by kernel_rfl) k_g_slices_Compare
/-! loop.example/g00959/impl.IsPolygon -/
noncomputable def i_IsPolygon_s4 (x0 : List (List Int)) (v2 : Int) : Option ((Int) ⊕ ((Unit) ⊕ (Bool))) :=
 cond (decide (v2 < (x0.length : Int)))
 ((idx x0 v2).bind fun v3 => (i_isPoint v3 (50 : Int)).bind fun v4 => cond (!v4)
 (some (.inr (.inr false)))
 (some (.inl (IntKind.i64.wrap (v2 + (1 : Int))))))
 (some (.inr (.inl ())))
noncomputable def i_IsPolygon_s11 (x0 : List (List Int)) (v8 : Int) : Option ((Int) ⊕ ((Unit) ⊕ (Bool))) :=
 cond (decide (v8 < (x0.length : Int)))
 ((idx x0 v8).bind fun v9 => (remI .i64 (IntKind.i64.wrap (v8 + (1 : Int))) (x0.length : Int)).bind fun v10 => (idx x0 v10).bind fun v11 => (remI .i64 (IntKind.i64.wrap (v8 + (2 : Int))) (x0.length : Int)).bind fun v12 => (idx x0 v12).bind fun v13 => (i_turn v9 v11 v13).bind fun v14 => cond (decide (v14 ≤ (0 : Int)))
 (some (.inr (.inr false)))
 (cond (decide (v8 > (0 : Int)))
 ((idx x0 (0 : Int)).bind fun v15 => (g_slices_Compare v15 v9).bind fun v16 => cond (decide (v16 ≥ (0 : Int)))
 (some (.inr (.inr false)))
 (cond (decide (v8 > (0 : Int)))
 (cond (decide (v8 < (IntKind.i64.wrap ((x0.length : Int) - (1 : Int)))))
 ((idx x0 (0 : Int)).bind fun v17 => (idx x0 (IntKind.i64.wrap (v8 + (1 : Int)))).bind fun v18 => (i_turn v17 v9 v18).bind fun v19 => cond (decide (v19 ≤ (0 : Int)))
 (some (.inr (.inr false)))
 (some (.inl (IntKind.i64.wrap (v8 + (1 : Int))))))
 (some (.inl (IntKind.i64.wrap (v8 + (1 : Int))))))
 (some (.inl (IntKind.i64.wrap (v8 + (1 : Int)))))))
 (cond (decide (v8 > (0 : Int)))
 (cond (decide (v8 < (IntKind.i64.wrap ((x0.length : Int) - (1 : Int)))))
 ((idx x0 (0 : Int)).bind fun v20 => (idx x0 (IntKind.i64.wrap (v8 + (1 : Int)))).bind fun v21 => (i_turn v20 v9 v21).bind fun v22 => cond (decide (v22 ≤ (0 : Int)))
 (some (.inr (.inr false)))
 (some (.inl (IntKind.i64.wrap (v8 + (1 : Int))))))
 (some (.inl (IntKind.i64.wrap (v8 + (1 : Int))))))
 (some (.inl (IntKind.i64.wrap (v8 + (1 : Int))))))))
 (some (.inr (.inl ())))
noncomputable def i_IsPolygon (x0 : List (List Int)) : Option (Bool) :=
(i_within (x0.length : Int) (3 : Int) (12 : Int)).bind fun v1 => cond (!v1)
 (some false)
 ((iter (i_IsPolygon_s4 x0) (0 : Int)).bind fun v5 => match v5 with
 | .inl v6 => ((iter (i_IsPolygon_s11 x0) (0 : Int)).bind fun v23 => match v23 with
 | .inl v24 => (some true)
 | .inr v25 => (some v25))
 | .inr v7 => (some v7))
noncomputable def e_i_IsPolygon : CallE := ⟨53, [.d false (.list (.list (.int .i64)))], [.l (.d false .bool)], fun x => i_IsPolygon x⟩
noncomputable def c_i_IsPolygon : Ctx := ⟨Try.prog, TT, [e_i_within, e_i_isPoint, e_i_turn, e_g_slices_Compare], [⟨4, [(14, .l (.d false (.int .i64)))], some (0, []), some [(2, .l (.d false .bool))], false⟩, ⟨11, [(26, .l (.d false (.int .i64)))], some (2, []), some [(2, .l (.d false .bool))], false⟩], [], [], [], []⟩
theorem k_i_IsPolygon (x : PMs.den e_i_IsPolygon.ps) : funK c_i_IsPolygon Try.f53 e_i_IsPolygon.ps e_i_IsPolygon.rs x = e_i_IsPolygon.F x := by kernel_rfl
theorem o_i_IsPolygon : FnOk Try.prog e_i_IsPolygon.f ∧ Ctr Try.prog e_i_IsPolygon := mkCtr (C := c_i_IsPolygon) m_ (⟨o_i_within, o_i_isPoint, o_i_turn, o_g_slices_Compare, trivial⟩) Try.func53 (by kernel_rfl) k_i_IsPolygon
/-! loop.example/g00959/impl.IsVector -/
noncomputable def i_IsVector (x0 : List Int) : Option (Bool) :=
(i_within (x0.length : Int) (1 : Int) (3 : Int)).bind fun v1 => cond v1
 ((i_allWithin x0 (-1000 : Int) (1000 : Int)).bind fun v2 => some v2)
 (some false)
noncomputable def e_i_IsVector : CallE := ⟨54, [.d false (.list (.int .i64))], [.l (.d false .bool)], fun x => i_IsVector x⟩
noncomputable def c_i_IsVector : Ctx := ⟨Try.prog, TT, [e_i_within, e_i_allWithin], [], [], [], [], []⟩
theorem k_i_IsVector (x : PMs.den e_i_IsVector.ps) : funK c_i_IsVector Try.f54 e_i_IsVector.ps e_i_IsVector.rs x = e_i_IsVector.F x := by kernel_rfl
theorem o_i_IsVector : FnOk Try.prog e_i_IsVector.f ∧ Ctr Try.prog e_i_IsVector := mkCtr (C := c_i_IsVector) m_ (⟨o_i_within, o_i_allWithin, trivial⟩) Try.func54 (by kernel_rfl) k_i_IsVector
/-! loop.example/g00959/impl.dot -/
noncomputable def i_dot_s3 (x0 : List Int) (x1 : List Int) (v1 : Int × Int) : Option ((Int × Int) ⊕ (Int)) :=
 cond (decide (v1.2 < (x0.length : Int)))
 ((idx x0 v1.2).bind fun v2 => (idx x1 v1.2).bind fun v3 => some (.inl ((IntKind.i64.wrap (v1.1 + (IntKind.i64.wrap (v2 * v3)))), (IntKind.i64.wrap (v1.2 + (1 : Int))))))
 (some (.inr v1.1))
noncomputable def i_dot (x0 : List Int) (x1 : List Int) : Option (Int) :=
(iter (i_dot_s3 x0 x1) ((0 : Int), (0 : Int))).bind fun v4 => some v4
noncomputable def e_i_dot : CallE := ⟨65, [.d false (.list (.int .i64)), .d false (.list (.int .i64))], [.l (.d false (.int .i64))], fun x => i_dot x.1 x.2⟩
noncomputable def c_i_dot : Ctx := ⟨Try.prog, TT, [], [⟨3, [(5, .l (.d false (.int .i64))), (9, .l (.d false (.int .i64)))], some (0, [(5, .l (.d false (.int .i64)))]), none, false⟩], [], [], [], []⟩
theorem k_i_dot (x : PMs.den e_i_dot.ps) : funK c_i_dot Try.f65 e_i_dot.ps e_i_dot.rs x = e_i_dot.F x := by kernel_rfl
theorem o_i_dot : FnOk Try.prog e_i_dot.f ∧ Ctr Try.prog e_i_dot := mkCtr (C := c_i_dot) m_ (trivial) Try.func65 (by kernel_rfl) k_i_dot
/-! loop.example/g00959/impl.support -/
noncomputable def i_support_s3 (x0 : List (List Int)) (x1 : List Int) (v3 : Int × Int) : Option ((Int × Int) ⊕ (Int)) :=
 cond (decide (v3.2 < (x0.length : Int)))
 ((idx x0 v3.2).bind fun v4 => (i_dot x1 v4).bind fun v5 => some (.inl ((if v5 > v3.1 then v5 else v3.1), (IntKind.i64.wrap (v3.2 + (1 : Int))))))
 (some (.inr v3.1))
noncomputable def i_support (x0 : List (List Int)) (x1 : List Int) : Option (Int) :=
(idx x0 (0 : Int)).bind fun v1 => (i_dot x1 v1).bind fun v2 => (iter (i_support_s3 x0 x1) (v2, (0 : Int))).bind fun v6 => some v6
noncomputable def e_i_support : CallE := ⟨55, [.d false (.list (.list (.int .i64))), .d false (.list (.int .i64))], [.l (.d false (.int .i64))], fun x => i_support x.1 x.2⟩
noncomputable def c_i_support : Ctx := ⟨Try.prog, TT, [e_i_dot], [⟨3, [(5, .l (.d false (.int .i64))), (15, .l (.d false (.int .i64)))], some (0, [(5, .l (.d false (.int .i64)))]), none, false⟩], [], [], [], []⟩
theorem k_i_support (x : PMs.den e_i_support.ps) : funK c_i_support Try.f55 e_i_support.ps e_i_support.rs x = e_i_support.F x := by kernel_rfl
theorem o_i_support : FnOk Try.prog e_i_support.f ∧ Ctr Try.prog e_i_support := mkCtr (C := c_i_support) m_ (⟨o_i_dot, trivial⟩) Try.func55 (by kernel_rfl) k_i_support
/-! loop.example/g00959/impl.WidthIn -/
noncomputable def i_WidthIn (x0 : List (List Int)) (x1 : List Int) : Option (Int) :=
(i_IsPolygon x0).bind fun v1 => cond (!v1)
 (some (-1 : Int))
 ((i_IsVector x1).bind fun v2 => cond (!v2)
 (some (-1 : Int))
 (cond ((x1.length : Int) != (2 : Int))
 (some (-1 : Int))
 ((i_support x0 x1).bind fun v3 => (idx x1 (0 : Int)).bind fun v4 => (idx x1 (1 : Int)).bind fun v5 => (i_support x0 ([(IntKind.i64.wrap (0 - v4)), (IntKind.i64.wrap (0 - v5))] : List Int)).bind fun v6 => some (IntKind.i64.wrap (v3 + v6)))))
noncomputable def e_i_WidthIn : CallE := ⟨8, [.d false (.list (.list (.int .i64))), .d false (.list (.int .i64))], [.l (.d false (.int .i64))], fun x => i_WidthIn x.1 x.2⟩
noncomputable def c_i_WidthIn : Ctx := ⟨Try.prog, TT, [e_i_IsPolygon, e_i_IsVector, e_i_support], [], [], [], [], []⟩
theorem k_i_WidthIn (x : PMs.den e_i_WidthIn.ps) : funK c_i_WidthIn Try.f8 e_i_WidthIn.ps e_i_WidthIn.rs x = e_i_WidthIn.F x := by kernel_rfl
theorem o_i_WidthIn : FnOk Try.prog e_i_WidthIn.f ∧ Ctr Try.prog e_i_WidthIn := mkCtr (C := c_i_WidthIn) m_ (⟨o_i_IsPolygon, o_i_IsVector, o_i_support, trivial⟩) Try.func8 (by kernel_rfl) k_i_WidthIn
/-! loop.example/g00959/spec.DrawBestDirections -/
noncomputable def s_DrawBestDirections_s57_3 (x0 : List Int) (v1 : Int × Int) : Option ((Int × Int) ⊕ (Int)) :=
 cond (decide (v1.2 < (x0.length : Int)))
 (cond (decide (v1.2 < (4000 : Int)))
 ((idx x0 v1.2).bind fun v2 => some (.inl ((andI .i64 (IntKind.i64.wrap ((IntKind.i64.wrap ((IntKind.i64.wrap (v1.1 * (131 : Int))) + (IntKind.i64.wrap v2))) + (7 : Int))) (1073741823 : Int)), (IntKind.i64.wrap (v1.2 + (1 : Int))))))
 (some (.inr v1.1)))
 (some (.inr v1.1))
noncomputable def s_DrawBestDirections (x0 : List Int) : Option (List (List Int)) :=
(iter (s_DrawBestDirections_s57_3 x0) ((IntKind.i64.wrap ((26583 : Int) + (x0.length : Int))), (0 : Int))).bind fun v3 => (s_l7Bent (x0, ((0 : Int), v3))).bind fun v4 => some v4.1
noncomputable def e_s_DrawBestDirections : CallE := ⟨9, [.d false (.list (.int .u8))], [.l (.o false 25 (.list (.int .i64)))], fun x => s_DrawBestDirections x⟩
noncomputable def c_s_DrawBestDirections_57 : Ctx := ⟨Try.prog, TT, [], [⟨3, [(3, .l (.d false (.int .i64))), (4, .l (.d false (.int .i64)))], some (0, [(3, .l (.d false (.int .i64)))]), none, true⟩], [], [], [], []⟩
noncomputable def n_s_DrawBestDirections_57 : InE := ⟨57, false, inlK c_s_DrawBestDirections_57 Try.f57⟩
theorem q_s_DrawBestDirections_57 : FnOk Try.prog n_s_DrawBestDirections_57.f ∧ InOk Try.prog n_s_DrawBestDirections_57 := mkInl (C := c_s_DrawBestDirections_57) m_ (trivial) Try.func57 (by kernel_rfl)
noncomputable def c_s_DrawBestDirections : Ctx := ⟨Try.prog, TT, [e_s_l7Bent], [], [], [n_s_DrawBestDirections_57], [], []⟩
theorem k_s_DrawBestDirections (x : PMs.den e_s_DrawBestDirections.ps) : funK c_s_DrawBestDirections Try.f9 e_s_DrawBestDirections.ps e_s_DrawBestDirections.rs x = e_s_DrawBestDirections.F x := by kernel_rfl
theorem o_s_DrawBestDirections : FnOk Try.prog e_s_DrawBestDirections.f ∧ Ctr Try.prog e_s_DrawBestDirections := mkCtr (C := c_s_DrawBestDirections) m_ (⟨o_s_l7Bent, trivial⟩) Try.func9 (by kernel_rfl) k_s_DrawBestDirections ⟨q_s_DrawBestDirections_57, trivial⟩
/-! loop.example/g00959/impl.copyInts -/
noncomputable def i_copyInts (x0 : List Int) : Option (List Int) :=
(appD 8 ([] : List Int) x0).bind fun v1 => some v1
noncomputable def e_i_copyInts : CallE := ⟨104, [.d false (.list (.int .i64))], [.l (.o true 3 (.int .i64))], fun x => i_copyInts x⟩
noncomputable def c_i_copyInts : Ctx := ⟨Try.prog, TT, [], [], [], [], [], []⟩
theorem k_i_copyInts (x : PMs.den e_i_copyInts.ps) : funK c_i_copyInts Try.f104 e_i_copyInts.ps e_i_copyInts.rs x = e_i_copyInts.F x := by kernel_rfl
theorem o_i_copyInts : FnOk Try.prog e_i_copyInts.f ∧ Ctr Try.prog e_i_copyInts := mkCtr (C := c_i_copyInts) m_ (trivial) Try.func104 (by kernel_rfl) k_i_copyInts
/-! loop.example/g00959/impl.lattice -/
noncomputable def i_lattice_s10 (x1 : List Int) (v1 : List (List Int) × Int) (v3 : List Int) (v5 : List (List Int) × Int) : Option ((List (List Int) × Int) ⊕ (List (List Int))) :=
(idx x1 v1.2).bind fun v6 => cond (decide (v5.2 ≤ v6))
 ((i_copyInts v3).bind fun v7 => (appD 8 v7 ([v5.2] : List Int)).bind fun v8 => (appD 24 v5.1 ([v8] : List (List Int))).bind fun v9 => some (.inl (v9, (IntKind.i64.wrap (v5.2 + (1 : Int))))))
 (some (.inr v5.1))
noncomputable def i_lattice_s7 (x0 : List Int) (x1 : List Int) (v1 : List (List Int) × Int) (v2 : List (List Int) × Int) : Option ((List (List Int) × Int) ⊕ (List (List Int))) :=
 cond (decide (v2.2 < (v1.1.length : Int)))
 ((idx v1.1 v2.2).bind fun v3 => (idx x0 v1.2).bind fun v4 => (iter (i_lattice_s10 x1 v1 v3) (v2.1, v4)).bind fun v10 => some (.inl (v10, (IntKind.i64.wrap (v2.2 + (1 : Int))))))
 (some (.inr v2.1))
noncomputable def i_lattice_s3 (x0 : List Int) (x1 : List Int) (v1 : List (List Int) × Int) : Option ((List (List Int) × Int) ⊕ (List (List Int))) :=
 cond (decide (v1.2 < (x0.length : Int)))
 ((iter (i_lattice_s7 x0 x1 v1) (([] : List (List Int)), (0 : Int))).bind fun v11 => some (.inl (v11, (IntKind.i64.wrap (v1.2 + (1 : Int))))))
 (some (.inr v1.1))
noncomputable def i_lattice (x0 : List Int) (x1 : List Int) : Option (List (List Int)) :=
(iter (i_lattice_s3 x0 x1) (([([] : List Int)] : List (List Int)), (0 : Int))).bind fun v12 => some v12
noncomputable def e_i_lattice : CallE := ⟨103, [.d false (.list (.int .i64)), .d false (.list (.int .i64))], [.l (.o true 25 (.list (.int .i64)))], fun x => i_lattice x.1 x.2⟩
noncomputable def c_i_lattice : Ctx := ⟨Try.prog, TT, [e_i_copyInts], [⟨3, [(5, .l (.o true 25 (.list (.int .i64)))), (14, .l (.d false (.int .i64)))], some (0, [(5, .l (.o true 25 (.list (.int .i64))))]), none, false⟩, ⟨7, [(7, .l (.o true 25 (.list (.int .i64)))), (19, .l (.d false (.int .i64)))], some (2, [(7, .l (.o true 25 (.list (.int .i64))))]), none, false⟩, ⟨10, [(7, .l (.o true 25 (.list (.int .i64)))), (10, .l (.d false (.int .i64)))], some (4, [(7, .l (.o true 25 (.list (.int .i64))))]), none, false⟩], [], [], [], []⟩
theorem k_i_lattice (x : PMs.den e_i_lattice.ps) : funK c_i_lattice Try.f103 e_i_lattice.ps e_i_lattice.rs x = e_i_lattice.F x := by kernel_rfl
theorem o_i_lattice : FnOk Try.prog e_i_lattice.f ∧ Ctr Try.prog e_i_lattice := mkCtr (C := c_i_lattice) m_ (⟨o_i_copyInts, trivial⟩) Try.func103 (by kernel_rfl) k_i_lattice
/-! loop.example/g00959/impl.directions -/
noncomputable def i_directions_s3 (v1 : List (List Int)) (s : Int × List Nat) : Option ((Int × List Nat) ⊕ List Nat) :=
 cond (decide (s.1 < (v1.length : Int))) ((inIdx v1.length s.1).bind fun _ => if s.1.toNat < v1.length then (v1[s.1.toNat]?).bind fun q => (idx q 0).bind fun x => cond (decide (x > 0)) ((appD 24 s.2 [s.1.toNat]).bind fun v6 => some (.inl (IntKind.i64.wrap (s.1 + 1), v6)))
 ((v1[s.1.toNat]?).bind fun q => (idx q 1).bind fun x => cond (decide (x > 0)) ((appD 24 s.2 [s.1.toNat]).bind fun v6 => some (.inl (IntKind.i64.wrap (s.1 + 1), v6))) (some (.inl (IntKind.i64.wrap (s.1 + 1), s.2)))) else none) (some (.inr s.2))
noncomputable def i_directions : Option (List (List Int)) :=
(i_lattice ([(0 : Int), (-12 : Int)] : List Int) ([(12 : Int), (12 : Int)] : List Int)).bind fun v1 => (iter (i_directions_s3 v1) (0, [])).bind fun v7 => if v7.Nodup then some (pickU v1 v7) else none
noncomputable def e_i_directions : CallE := ⟨58, [], [.l (.o true 25 (.list (.int .i64)))], fun x => i_directions⟩
noncomputable def c_i_directions : Ctx := ⟨Try.prog, TT, [e_i_lattice], [], [], [], [], []⟩
theorem k_i_directions (x : PMs.den e_i_directions.ps) : funU c_i_directions [⟨3, 0, 8⟩] 25 1 6 3 Try.f58 e_i_directions.ps x = e_i_directions.F x := by kernel_rfl
theorem o_i_directions : FnOk Try.prog e_i_directions.f ∧ Ctr Try.prog e_i_directions := mkCtrU (C := c_i_directions) 0 m_ (⟨o_i_lattice, trivial⟩) Try.func58 (by kernel_rfl) (by kernel_rfl) rfl k_i_directions
/-! loop.example/g00959/impl.LeastWidth -/
noncomputable def i_LeastWidth_s3 (x0 : List (List Int)) (v1 : List (List Int)) (v2 : Int × Int) : Option ((Int × Int) ⊕ (Int)) :=
 cond (decide (v2.2 < (v1.length : Int)))
 ((idx v1 v2.2).bind fun v3 => (i_WidthIn x0 v3).bind fun v4 => cond (decide (v2.1 < (0 : Int)))
 (some (.inl (v4, (IntKind.i64.wrap (v2.2 + (1 : Int))))))
 (cond (decide (v4 < v2.1))
 (some (.inl (v4, (IntKind.i64.wrap (v2.2 + (1 : Int))))))
 (some (.inl (v2.1, (IntKind.i64.wrap (v2.2 + (1 : Int))))))))
 (some (.inr v2.1))
noncomputable def i_LeastWidth (x0 : List (List Int)) : Option (Int) :=
(i_directions).bind fun v1 => (iter (i_LeastWidth_s3 x0 v1) ((-1 : Int), (0 : Int))).bind fun v5 => some v5
noncomputable def e_i_LeastWidth : CallE := ⟨11, [.d false (.list (.list (.int .i64)))], [.l (.d false (.int .i64))], fun x => i_LeastWidth x⟩
noncomputable def c_i_LeastWidth : Ctx := ⟨Try.prog, TT, [e_i_directions, e_i_WidthIn], [⟨3, [(3, .l (.d false (.int .i64))), (9, .l (.d false (.int .i64)))], some (0, [(3, .l (.d false (.int .i64)))]), none, false⟩], [], [], [], []⟩
theorem k_i_LeastWidth (x : PMs.den e_i_LeastWidth.ps) : funK c_i_LeastWidth Try.f11 e_i_LeastWidth.ps e_i_LeastWidth.rs x = e_i_LeastWidth.F x := by kernel_rfl
theorem o_i_LeastWidth : FnOk Try.prog e_i_LeastWidth.f ∧ Ctr Try.prog e_i_LeastWidth := mkCtr (C := c_i_LeastWidth) m_ (⟨o_i_directions, o_i_WidthIn, trivial⟩) Try.func11 (by kernel_rfl) k_i_LeastWidth
/-! loop.example/g00959/impl.BestDirections -/
noncomputable def i_BestDirections_s6 (x0 : List (List Int)) (v1 : Int) (v2 : List (List Int)) (s : Int × List Nat) : Option ((Int × List Nat) ⊕ List Nat) :=
 cond (decide (s.1 < (v2.length : Int))) ((inIdx v2.length s.1).bind fun _ => if s.1.toNat < v2.length then ((((v2[s.1.toNat]?).bind fun q => some q).bind fun b => some (x0, b)).bind fun a => (i_WidthIn a.1 a.2).bind fun r => cond (r == v1) ((appD 24 s.2 [s.1.toNat]).bind fun v6 => some (.inl (IntKind.i64.wrap (s.1 + 1), v6))) (some (.inl (IntKind.i64.wrap (s.1 + 1), s.2)))) else none) (some (.inr s.2))
noncomputable def i_BestDirections (x0 : List (List Int)) : Option (List (List Int)) :=
(i_LeastWidth x0).bind fun v1 => cond (decide (v1 < (0 : Int))) (some ([] : List (List Int))) (i_directions.bind fun v2 => (iter (i_BestDirections_s6 x0 v1 v2) (0, [])).bind fun v7 => if v7.Nodup then some (pickU v2 v7) else none)
noncomputable def e_i_BestDirections : CallE := ⟨10, [.d false (.list (.list (.int .i64)))], [.l (.o true 25 (.list (.int .i64)))], fun x => i_BestDirections x⟩
noncomputable def c_i_BestDirections : Ctx := ⟨Try.prog, TT, [e_i_LeastWidth, e_i_directions, e_i_WidthIn], [], [], [], [], []⟩
theorem k_i_BestDirections (x : PMs.den e_i_BestDirections.ps) : funU c_i_BestDirections [⟨6, 0, 13⟩] 25 4 11 6 Try.f10 e_i_BestDirections.ps x = e_i_BestDirections.F x := by kernel_rfl
theorem o_i_BestDirections : FnOk Try.prog e_i_BestDirections.f ∧ Ctr Try.prog e_i_BestDirections := mkCtrU (C := c_i_BestDirections) 2 m_ (⟨o_i_LeastWidth, o_i_directions, o_i_WidthIn, trivial⟩) Try.func10 (by kernel_rfl) (by kernel_rfl) rfl k_i_BestDirections
/-! loop.example/g00959/spec.l1PickInt -/
noncomputable def s_l1PickInt (x0 : (List Int) × Int × Int) (x1 : List Int) : Option ((Int) × ((List Int) × Int × Int) × Unit) :=
(s_l1Below (x0.1, (x0.2.1, x0.2.2)) (x1.length : Int)).bind fun v1 => (idx x1 v1.1).bind fun v2 => some (v2, ((v1.2.1.1, (v1.2.1.2.1, v1.2.1.2.2)), ()))
noncomputable def e_s_l1PickInt : CallE := ⟨62, [.cur 73, .d false (.list (.int .i64))], [.l (.d false (.int .i64))], fun x => s_l1PickInt x.1 x.2⟩
noncomputable def c_s_l1PickInt : Ctx := ⟨Try.prog, TT, [e_s_l1Below], [], [], [], [], []⟩
theorem k_s_l1PickInt (x : PMs.den e_s_l1PickInt.ps) : funK c_s_l1PickInt Try.f62 e_s_l1PickInt.ps e_s_l1PickInt.rs x = e_s_l1PickInt.F x := by kernel_rfl
theorem o_s_l1PickInt : FnOk Try.prog e_s_l1PickInt.f ∧ Ctr Try.prog e_s_l1PickInt := mkCtr (C := c_s_l1PickInt) m_ (⟨o_s_l1Below, trivial⟩) Try.func62 (by kernel_rfl) k_s_l1PickInt
/-! loop.example/g00959/spec.DrawLayersOf -/
noncomputable def s_DrawLayersOf_s57_3 (x0 : List Int) (v1 : Int × Int) : Option ((Int × Int) ⊕ (Int)) :=
 cond (decide (v1.2 < (x0.length : Int)))
 (cond (decide (v1.2 < (4000 : Int)))
 ((idx x0 v1.2).bind fun v2 => some (.inl ((andI .i64 (IntKind.i64.wrap ((IntKind.i64.wrap ((IntKind.i64.wrap (v1.1 * (131 : Int))) + (IntKind.i64.wrap v2))) + (7 : Int))) (1073741823 : Int)), (IntKind.i64.wrap (v1.2 + (1 : Int))))))
 (some (.inr v1.1)))
 (some (.inr v1.1))
noncomputable def s_DrawLayersOf (x0 : List Int) : Option (List (List Int) × List Int) :=
(iter (s_DrawLayersOf_s57_3 x0) ((IntKind.i64.wrap ((26583 : Int) + (x0.length : Int))), (0 : Int))).bind fun v3 => (s_l7Bent (x0, ((0 : Int), v3))).bind fun v4 => (s_l1Once (v4.2.1.1, (v4.2.1.2.1, v4.2.1.2.2)) (14 : Int)).bind fun v5 => (s_l1Bit v5.1).bind fun v6 => (s_l2Draw (v5.2.1.1, (v5.2.1.2.1, v5.2.1.2.2)) (IntKind.i64.wrap ((2 : Int) + v6)) (3 : Int)).bind fun v7 => (s_l1Once (v7.2.1.1, (v7.2.1.2.1, v7.2.1.2.2)) (14 : Int)).bind fun v8 => cond v8.1
 ((s_l1PickInt (v8.2.1.1, (v8.2.1.2.1, v8.2.1.2.2)) ([(12 : Int), (13 : Int), (-13 : Int)] : List Int)).bind fun v9 => (inIdx v7.1.length (0 : Int)).bind fun _ => (inIdx v7.1.length (((0 : Int)).toNat : Int)).bind fun _ => some (v4.1, (v7.1.set (((0 : Int)).toNat) v9.1)))
 (some (v4.1, v7.1))
noncomputable def e_s_DrawLayersOf : CallE := ⟨12, [.d false (.list (.int .u8))], [.l (.o false 25 (.list (.int .i64))), .l (.o true 3 (.int .i64))], fun x => s_DrawLayersOf x⟩
noncomputable def c_s_DrawLayersOf_57 : Ctx := ⟨Try.prog, TT, [], [⟨3, [(3, .l (.d false (.int .i64))), (4, .l (.d false (.int .i64)))], some (0, [(3, .l (.d false (.int .i64)))]), none, true⟩], [], [], [], []⟩
noncomputable def n_s_DrawLayersOf_57 : InE := ⟨57, false, inlK c_s_DrawLayersOf_57 Try.f57⟩
theorem q_s_DrawLayersOf_57 : FnOk Try.prog n_s_DrawLayersOf_57.f ∧ InOk Try.prog n_s_DrawLayersOf_57 := mkInl (C := c_s_DrawLayersOf_57) m_ (trivial) Try.func57 (by kernel_rfl)
noncomputable def c_s_DrawLayersOf : Ctx := ⟨Try.prog, TT, [e_s_l7Bent, e_s_l1Once, e_s_l1Bit, e_s_l2Draw, e_s_l1PickInt], [], [], [n_s_DrawLayersOf_57], [], []⟩
theorem k_s_DrawLayersOf (x : PMs.den e_s_DrawLayersOf.ps) : funK c_s_DrawLayersOf Try.f12 e_s_DrawLayersOf.ps e_s_DrawLayersOf.rs x = e_s_DrawLayersOf.F x := by kernel_rfl
theorem o_s_DrawLayersOf : FnOk Try.prog e_s_DrawLayersOf.f ∧ Ctr Try.prog e_s_DrawLayersOf := mkCtr (C := c_s_DrawLayersOf) m_ (⟨o_s_l7Bent, o_s_l1Once, o_s_l1Bit, o_s_l2Draw, o_s_l1PickInt, trivial⟩) Try.func12 (by kernel_rfl) k_s_DrawLayersOf ⟨q_s_DrawLayersOf_57, trivial⟩
/-! loop.example/g00959/impl.areaTwice -/
noncomputable def i_areaTwice_s3 (x0 : List (List Int)) (v1 : Int × Int) : Option ((Int × Int) ⊕ (Int)) :=
 cond (decide (v1.2 < (x0.length : Int)))
 ((idx x0 v1.2).bind fun v2 => (remI .i64 (IntKind.i64.wrap (v1.2 + (1 : Int))) (x0.length : Int)).bind fun v3 => (idx x0 v3).bind fun v4 => (i_cross v2 v4).bind fun v5 => some (.inl ((IntKind.i64.wrap (v1.1 + v5)), (IntKind.i64.wrap (v1.2 + (1 : Int))))))
 (some (.inr v1.1))
noncomputable def i_areaTwice (x0 : List (List Int)) : Option (Int) :=
(iter (i_areaTwice_s3 x0) ((0 : Int), (0 : Int))).bind fun v6 => some v6
noncomputable def e_i_areaTwice : CallE := ⟨121, [.d false (.list (.list (.int .i64)))], [.l (.d false (.int .i64))], fun x => i_areaTwice x⟩
noncomputable def c_i_areaTwice : Ctx := ⟨Try.prog, TT, [e_i_cross], [⟨3, [(3, .l (.d false (.int .i64))), (8, .l (.d false (.int .i64)))], some (0, [(3, .l (.d false (.int .i64)))]), none, false⟩], [], [], [], []⟩
theorem k_i_areaTwice (x : PMs.den e_i_areaTwice.ps) : funK c_i_areaTwice Try.f121 e_i_areaTwice.ps e_i_areaTwice.rs x = e_i_areaTwice.F x := by kernel_rfl
theorem o_i_areaTwice : FnOk Try.prog e_i_areaTwice.f ∧ Ctr Try.prog e_i_areaTwice := mkCtr (C := c_i_areaTwice) m_ (⟨o_i_cross, trivial⟩) Try.func121 (by kernel_rfl) k_i_areaTwice
/-! loop.example/g00959/impl.AreaTwice -/
noncomputable def i_AreaTwice (x0 : List (List Int)) : Option (Int) :=
(i_IsPolygon x0).bind fun v1 => cond (!v1)
 (some (-1 : Int))
 ((i_areaTwice x0).bind fun v2 => some v2)
noncomputable def e_i_AreaTwice : CallE := ⟨92, [.d false (.list (.list (.int .i64)))], [.l (.d false (.int .i64))], fun x => i_AreaTwice x⟩
noncomputable def c_i_AreaTwice : Ctx := ⟨Try.prog, TT, [e_i_IsPolygon, e_i_areaTwice], [], [], [], [], []⟩
theorem k_i_AreaTwice (x : PMs.den e_i_AreaTwice.ps) : funK c_i_AreaTwice Try.f92 e_i_AreaTwice.ps e_i_AreaTwice.rs x = e_i_AreaTwice.F x := by kernel_rfl
theorem o_i_AreaTwice : FnOk Try.prog e_i_AreaTwice.f ∧ Ctr Try.prog e_i_AreaTwice := mkCtr (C := c_i_AreaTwice) m_ (⟨o_i_IsPolygon, o_i_areaTwice, trivial⟩) Try.func92 (by kernel_rfl) k_i_AreaTwice
/-! loop.example/g00959/impl.placeOf -/
noncomputable def i_placeOf_s3 (x0 : List (List Int)) (x1 : List Int) (v1 : Int × Int) : Option ((Int × Int) ⊕ ((Int) ⊕ (Int))) :=
 cond (decide (v1.2 < (x0.length : Int)))
 ((idx x0 v1.2).bind fun v2 => (remI .i64 (IntKind.i64.wrap (v1.2 + (1 : Int))) (x0.length : Int)).bind fun v3 => (idx x0 v3).bind fun v4 => (i_turn v2 v4 x1).bind fun v5 => cond (decide (v5 < (0 : Int)))
 (some (.inr (.inr (-1 : Int))))
 (cond (v5 == (0 : Int))
 (some (.inl ((0 : Int), (IntKind.i64.wrap (v1.2 + (1 : Int))))))
 (some (.inl (v1.1, (IntKind.i64.wrap (v1.2 + (1 : Int))))))))
 (some (.inr (.inl v1.1)))
noncomputable def i_placeOf (x0 : List (List Int)) (x1 : List Int) : Option (Int) :=
(iter (i_placeOf_s3 x0 x1) ((1 : Int), (0 : Int))).bind fun v6 => match v6 with
 | .inl v7 => (some v7)
 | .inr v8 => (some v8)
noncomputable def e_i_placeOf : CallE := ⟨105, [.d false (.list (.list (.int .i64))), .d false (.list (.int .i64))], [.l (.d false (.int .i64))], fun x => i_placeOf x.1 x.2⟩
noncomputable def c_i_placeOf : Ctx := ⟨Try.prog, TT, [e_i_turn], [⟨3, [(5, .l (.d false (.int .i64))), (11, .l (.d false (.int .i64)))], some (0, [(5, .l (.d false (.int .i64)))]), some [(4, .l (.d false (.int .i64)))], false⟩], [], [], [], []⟩
theorem k_i_placeOf (x : PMs.den e_i_placeOf.ps) : funK c_i_placeOf Try.f105 e_i_placeOf.ps e_i_placeOf.rs x = e_i_placeOf.F x := by kernel_rfl
theorem o_i_placeOf : FnOk Try.prog e_i_placeOf.f ∧ Ctr Try.prog e_i_placeOf := mkCtr (C := c_i_placeOf) m_ (⟨o_i_turn, trivial⟩) Try.func105 (by kernel_rfl) k_i_placeOf
/-! loop.example/g00959/impl.PolygonPoints -/
noncomputable def i_PolygonPoints_s8 (v7 : List Int × List Int × Int) (v8 : List Int) (v9 : List Int × List Int × Int) : Option ((List Int × List Int × Int) ⊕ (List Int × List Int)) :=
 cond (decide (v9.2.2 < (v7.1.length : Int)))
 ((inIdx v9.1.length v9.2.2).bind fun _ => (idx v9.1 ((v9.2.2).toNat : Int)).bind fun v10 => (idx v8 v9.2.2).bind fun v11 => (inIdx v9.2.1.length v9.2.2).bind fun _ => (idx v9.2.1 ((v9.2.2).toNat : Int)).bind fun v12 => (idx v8 v9.2.2).bind fun v13 => (inIdx v9.1.length v9.2.2).bind fun _ => (inIdx v9.1.length ((v9.2.2).toNat : Int)).bind fun _ => (inIdx v9.2.1.length v9.2.2).bind fun _ => (inIdx v9.2.1.length ((v9.2.2).toNat : Int)).bind fun _ => some (.inl ((v9.1.set ((v9.2.2).toNat) (if v11 < v10 then v11 else v10)), ((v9.2.1.set ((v9.2.2).toNat) (if v13 > v12 then v13 else v12)), (IntKind.i64.wrap (v9.2.2 + (1 : Int)))))))
 (some (.inr (v9.1, v9.2.1)))
noncomputable def i_PolygonPoints_s5 (x0 : List (List Int)) (v7 : List Int × List Int × Int) : Option ((List Int × List Int × Int) ⊕ (List Int × List Int)) :=
 cond (decide (v7.2.2 < (x0.length : Int)))
 ((idx x0 v7.2.2).bind fun v8 => (iter (i_PolygonPoints_s8 v7 v8) (v7.1, (v7.2.1, (0 : Int)))).bind fun v14 => some (.inl (v14.1, (v14.2, (IntKind.i64.wrap (v7.2.2 + (1 : Int)))))))
 (some (.inr (v7.1, v7.2.1)))
noncomputable def i_PolygonPoints_s15 (x0 : List (List Int)) (v16 : List (List Int)) (v17 : List (List Int) × Int) : Option ((List (List Int) × Int) ⊕ (List (List Int))) :=
 cond (decide (v17.2 < (v16.length : Int)))
 ((idx v16 v17.2).bind fun v18 => (i_placeOf x0 v18).bind fun v19 => cond (decide (v19 ≥ (0 : Int)))
 ((appD 24 v17.1 ([v18] : List (List Int))).bind fun v20 => some (.inl (v20, (IntKind.i64.wrap (v17.2 + (1 : Int))))))
 (some (.inl (v17.1, (IntKind.i64.wrap (v17.2 + (1 : Int)))))))
 (some (.inr v17.1))
noncomputable def i_PolygonPoints (x0 : List (List Int)) : Option (List (List Int)) :=
(i_IsPolygon x0).bind fun v1 => cond (!v1)
 (some ([] : List (List Int)))
 ((i_AreaTwice x0).bind fun v2 => cond (decide (v2 > (2000 : Int)))
 (some ([] : List (List Int)))
 ((idx x0 (0 : Int)).bind fun v3 => (i_copyInts v3).bind fun v4 => (idx x0 (0 : Int)).bind fun v5 => (i_copyInts v5).bind fun v6 => (iter (i_PolygonPoints_s5 x0) (v4, (v6, (0 : Int)))).bind fun v15 => (i_lattice v15.1 v15.2).bind fun v16 => (iter (i_PolygonPoints_s15 x0 v16) (([] : List (List Int)), (0 : Int))).bind fun v21 => (nneD v21).bind fun _ => some v21))
noncomputable def e_i_PolygonPoints : CallE := ⟨63, [.d false (.list (.list (.int .i64)))], [.l (.d true (.list (.list (.int .i64))))], fun x => i_PolygonPoints x⟩
noncomputable def c_i_PolygonPoints : Ctx := ⟨Try.prog, TT, [e_i_IsPolygon, e_i_AreaTwice, e_i_copyInts, e_i_lattice, e_i_placeOf], [⟨5, [(3, .l (.o true 3 (.int .i64))), (4, .l (.o true 3 (.int .i64))), (29, .l (.d false (.int .i64)))], some (0, [(3, .l (.o true 3 (.int .i64))), (4, .l (.o true 3 (.int .i64)))]), none, false⟩, ⟨8, [(3, .l (.o true 3 (.int .i64))), (4, .l (.o true 3 (.int .i64))), (35, .l (.d false (.int .i64)))], some (2, [(3, .l (.o true 3 (.int .i64))), (4, .l (.o true 3 (.int .i64)))]), none, false⟩, ⟨15, [(8, .l (.o false 25 (.list (.int .i64)))), (68, .l (.d false (.int .i64)))], some (4, [(8, .l (.o false 25 (.list (.int .i64))))]), none, false⟩], [], [], [], [(10, [0, 1, 2, 3, 4, 5, 8, 9, 13, 14, 17, 18, 6, 7, 10, 11, 12, 15, 16, 19, 20, 21, 22, 23, 24, 25])]⟩
theorem k_i_PolygonPoints (x : PMs.den e_i_PolygonPoints.ps) : funK c_i_PolygonPoints Try.f63 e_i_PolygonPoints.ps e_i_PolygonPoints.rs x = e_i_PolygonPoints.F x := by kernel_rfl
theorem o_i_PolygonPoints : FnOk Try.prog e_i_PolygonPoints.f ∧ Ctr Try.prog e_i_PolygonPoints := mkCtr (C := c_i_PolygonPoints) m_ (⟨o_i_IsPolygon, o_i_AreaTwice, o_i_copyInts, o_i_lattice, o_i_placeOf, trivial⟩) Try.func63 (by kernel_rfl) k_i_PolygonPoints
/-! loop.example/g00959/impl.LayersOf -/
noncomputable def i_LayersOf_s7 (x1 : List Int) (v1 : List (List Int)) (v7 : Int) (v8 : List Int × Int) : Option ((List Int × Int) ⊕ (List Int)) :=
 cond (decide (v8.2 < (v1.length : Int)))
 ((idx v1 v8.2).bind fun v9 => (i_dot x1 v9).bind fun v10 => (inIdx v8.1.length (IntKind.i64.wrap (v10 - (IntKind.i64.wrap (0 - v7))))).bind fun _ => (idx v8.1 (((IntKind.i64.wrap (v10 - (IntKind.i64.wrap (0 - v7))))).toNat : Int)).bind fun v11 => (inIdx v8.1.length (IntKind.i64.wrap (v10 - (IntKind.i64.wrap (0 - v7))))).bind fun _ => (inIdx v8.1.length (((IntKind.i64.wrap (v10 - (IntKind.i64.wrap (0 - v7))))).toNat : Int)).bind fun _ => some (.inl ((v8.1.set (((IntKind.i64.wrap (v10 - (IntKind.i64.wrap (0 - v7))))).toNat) (IntKind.i64.wrap (v11 + (1 : Int)))), (IntKind.i64.wrap (v8.2 + (1 : Int))))))
 (some (.inr v8.1))
noncomputable def i_LayersOf (x0 : List (List Int)) (x1 : List Int) : Option (List Int) :=
(i_PolygonPoints x0).bind fun v1 => cond v1.isEmpty
 (some ([] : List Int))
 ((i_isPoint x1 (12 : Int)).bind fun v2 => cond (!v2)
 (some ([] : List Int))
 ((i_WidthIn x0 x1).bind fun v3 => (mkD 8 (IntKind.i64.wrap (v3 + (1 : Int))) (0 : Int)).bind fun v4 => (idx x1 (0 : Int)).bind fun v5 => (idx x1 (1 : Int)).bind fun v6 => (i_support x0 ([(IntKind.i64.wrap (0 - v5)), (IntKind.i64.wrap (0 - v6))] : List Int)).bind fun v7 => (iter (i_LayersOf_s7 x1 v1 v7) (v4, (0 : Int))).bind fun v12 => some v12))
noncomputable def e_i_LayersOf : CallE := ⟨13, [.d false (.list (.list (.int .i64))), .d false (.list (.int .i64))], [.l (.o true 3 (.int .i64))], fun x => i_LayersOf x.1 x.2⟩
noncomputable def c_i_LayersOf : Ctx := ⟨Try.prog, TT, [e_i_PolygonPoints, e_i_isPoint, e_i_WidthIn, e_i_support, e_i_dot], [⟨7, [(6, .l (.o true 3 (.int .i64))), (38, .l (.d false (.int .i64)))], some (0, [(6, .l (.o true 3 (.int .i64)))]), none, false⟩], [], [], [], []⟩
theorem k_i_LayersOf (x : PMs.den e_i_LayersOf.ps) : funK c_i_LayersOf Try.f13 e_i_LayersOf.ps e_i_LayersOf.rs x = e_i_LayersOf.F x := by kernel_rfl
theorem o_i_LayersOf : FnOk Try.prog e_i_LayersOf.f ∧ Ctr Try.prog e_i_LayersOf := mkCtr (C := c_i_LayersOf) m_ (⟨o_i_PolygonPoints, o_i_isPoint, o_i_WidthIn, o_i_support, o_i_dot, trivial⟩) Try.func13 (by kernel_rfl) k_i_LayersOf
/-! loop.example/g00959/spec.l7SameList -/
noncomputable def s_l7SameList_s4 (x0 : List (List Int)) (x1 : List (List Int)) (v1 : Int) : Option ((Int) ⊕ ((Unit) ⊕ (Bool))) :=
 cond (decide (v1 < (x0.length : Int)))
 ((idx x0 v1).bind fun v2 => (idx x1 v1).bind fun v3 => (s_l2Same v2 v3).bind fun v4 => cond (!v4)
 (some (.inr (.inr false)))
 (some (.inl (IntKind.i64.wrap (v1 + (1 : Int))))))
 (some (.inr (.inl ())))
noncomputable def s_l7SameList (x0 : List (List Int)) (x1 : List (List Int)) : Option (Bool) :=
 cond ((x0.length : Int) != (x1.length : Int))
 (some false)
 ((iter (s_l7SameList_s4 x0 x1) (0 : Int)).bind fun v5 => match v5 with
 | .inl v6 => (some true)
 | .inr v7 => (some v7))
noncomputable def e_s_l7SameList : CallE := ⟨76, [.d false (.list (.list (.int .i64))), .d false (.list (.list (.int .i64)))], [.l (.d false .bool)], fun x => s_l7SameList x.1 x.2⟩
noncomputable def c_s_l7SameList : Ctx := ⟨Try.prog, TT, [e_s_l2Same], [⟨4, [(5, .l (.d false (.int .i64)))], some (0, []), some [(4, .l (.d false .bool))], false⟩], [], [], [], []⟩
theorem k_s_l7SameList (x : PMs.den e_s_l7SameList.ps) : funK c_s_l7SameList Try.f76 e_s_l7SameList.ps e_s_l7SameList.rs x = e_s_l7SameList.F x := by kernel_rfl
theorem o_s_l7SameList : FnOk Try.prog e_s_l7SameList.f ∧ Ctr Try.prog e_s_l7SameList := mkCtr (C := c_s_l7SameList) m_ (⟨o_s_l2Same, trivial⟩) Try.func76 (by kernel_rfl) k_s_l7SameList
/-! loop.example/g00959/spec.IsPolygon -/
noncomputable def s_IsPolygon (x0 : List (List Int)) : Option (Bool) :=
(s_l1In (x0.length : Int) (3 : Int) (12 : Int)).bind fun v1 => cond (!v1)
 (some false)
 ((s_l7Flat x0).bind fun v2 => cond (!v2)
 (some false)
 ((s_HullOf x0).bind fun v3 => cond v3.2
 ((s_l7SameList v3.1 x0).bind fun v4 => some v4)
 (some false)))
noncomputable def e_s_IsPolygon : CallE := ⟨23, [.d false (.list (.list (.int .i64)))], [.l (.d false .bool)], fun x => s_IsPolygon x⟩
noncomputable def c_s_IsPolygon : Ctx := ⟨Try.prog, TT, [e_s_l1In, e_s_l7Flat, e_s_HullOf, e_s_l7SameList], [], [], [], [], []⟩
theorem k_s_IsPolygon (x : PMs.den e_s_IsPolygon.ps) : funK c_s_IsPolygon Try.f23 e_s_IsPolygon.ps e_s_IsPolygon.rs x = e_s_IsPolygon.F x := by kernel_rfl
theorem o_s_IsPolygon : FnOk Try.prog e_s_IsPolygon.f ∧ Ctr Try.prog e_s_IsPolygon := mkCtr (C := c_s_IsPolygon) m_ (⟨o_s_l1In, o_s_l7Flat, o_s_HullOf, o_s_l7SameList, trivial⟩) Try.func23 (by kernel_rfl) k_s_IsPolygon
/-! loop.example/g00959/spec.IsVector -/
noncomputable def s_IsVector (x0 : List Int) : Option (Bool) :=
(s_l1In (x0.length : Int) (1 : Int) (3 : Int)).bind fun v1 => cond v1
 ((s_l2Small x0 (1000 : Int)).bind fun v2 => some v2)
 (some false)
noncomputable def e_s_IsVector : CallE := ⟨93, [.d false (.list (.int .i64))], [.l (.d false .bool)], fun x => s_IsVector x⟩
noncomputable def c_s_IsVector : Ctx := ⟨Try.prog, TT, [e_s_l1In, e_s_l2Small], [], [], [], [], []⟩
theorem k_s_IsVector (x : PMs.den e_s_IsVector.ps) : funK c_s_IsVector Try.f93 e_s_IsVector.ps e_s_IsVector.rs x = e_s_IsVector.F x := by kernel_rfl
theorem o_s_IsVector : FnOk Try.prog e_s_IsVector.f ∧ Ctr Try.prog e_s_IsVector := mkCtr (C := c_s_IsVector) m_ (⟨o_s_l1In, o_s_l2Small, trivial⟩) Try.func93 (by kernel_rfl) k_s_IsVector
/-! loop.example/g00959/spec.l2Dot -/
noncomputable def s_l2Dot_s3 (x0 : List Int) (x1 : List Int) (v1 : Int × Int) : Option ((Int × Int) ⊕ (Int)) :=
 cond (decide (v1.2 < (x0.length : Int)))
 (cond (decide (v1.2 < (x1.length : Int)))
 ((idx x0 v1.2).bind fun v2 => (idx x1 v1.2).bind fun v3 => some (.inl ((IntKind.i64.wrap (v1.1 + (IntKind.i64.wrap (v2 * v3)))), (IntKind.i64.wrap (v1.2 + (1 : Int))))))
 (some (.inr v1.1)))
 (some (.inr v1.1))
noncomputable def s_l2Dot (x0 : List Int) (x1 : List Int) : Option (Int) :=
(iter (s_l2Dot_s3 x0 x1) ((0 : Int), (0 : Int))).bind fun v4 => some v4
noncomputable def e_s_l2Dot : CallE := ⟨72, [.d false (.list (.int .i64)), .d false (.list (.int .i64))], [.l (.d false (.int .i64))], fun x => s_l2Dot x.1 x.2⟩
noncomputable def c_s_l2Dot : Ctx := ⟨Try.prog, TT, [], [⟨3, [(5, .l (.d false (.int .i64))), (6, .l (.d false (.int .i64)))], some (0, [(5, .l (.d false (.int .i64)))]), none, false⟩], [], [], [], []⟩
theorem k_s_l2Dot (x : PMs.den e_s_l2Dot.ps) : funK c_s_l2Dot Try.f72 e_s_l2Dot.ps e_s_l2Dot.rs x = e_s_l2Dot.F x := by kernel_rfl
theorem o_s_l2Dot : FnOk Try.prog e_s_l2Dot.f ∧ Ctr Try.prog e_s_l2Dot := mkCtr (C := c_s_l2Dot) m_ (trivial) Try.func72 (by kernel_rfl) k_s_l2Dot
/-! loop.example/g00959/spec.l1Max -/
noncomputable def s_l1Max (x0 : Int) (x1 : Int) : Option (Int) :=
 cond (decide (x0 > x1))
 (some x0)
 (some x1)
noncomputable def e_s_l1Max : CallE := ⟨94, [.d false (.int .i64), .d false (.int .i64)], [.l (.d false (.int .i64))], fun x => s_l1Max x.1 x.2⟩
noncomputable def c_s_l1Max : Ctx := ⟨Try.prog, TT, [], [], [], [], [], []⟩
theorem k_s_l1Max (x : PMs.den e_s_l1Max.ps) : funK c_s_l1Max Try.f94 e_s_l1Max.ps e_s_l1Max.rs x = e_s_l1Max.F x := by kernel_rfl
theorem o_s_l1Max : FnOk Try.prog e_s_l1Max.f ∧ Ctr Try.prog e_s_l1Max := mkCtr (C := c_s_l1Max) m_ (trivial) Try.func94 (by kernel_rfl) k_s_l1Max
/-! loop.example/g00959/spec.SupportAt -/
noncomputable def s_SupportAt_s5 (x0 : List (List Int)) (x1 : List Int) (v5 : Int × Int) : Option ((Int × Int) ⊕ (Int)) :=
 cond (decide (v5.2 < (x0.length : Int)))
 ((idx x0 v5.2).bind fun v6 => (s_l2Dot x1 v6).bind fun v7 => (s_l1Max v5.1 v7).bind fun v8 => some (.inl (v8, (IntKind.i64.wrap (v5.2 + (1 : Int))))))
 (some (.inr v5.1))
noncomputable def s_SupportAt (x0 : List (List Int)) (x1 : List Int) : Option (Int × Bool) :=
(s_IsPolygon x0).bind fun v1 => cond (!v1)
 (some ((0 : Int), false))
 ((s_IsVector x1).bind fun v2 => cond (!v2)
 (some ((0 : Int), false))
 (cond ((x1.length : Int) != (2 : Int))
 (some ((0 : Int), false))
 ((idx x0 (0 : Int)).bind fun v3 => (s_l2Dot x1 v3).bind fun v4 => (iter (s_SupportAt_s5 x0 x1) (v4, (1 : Int))).bind fun v9 => some (v9, true))))
noncomputable def e_s_SupportAt : CallE := ⟨45, [.d false (.list (.list (.int .i64))), .d false (.list (.int .i64))], [.l (.d false (.int .i64)), .l (.d false .bool)], fun x => s_SupportAt x.1 x.2⟩
noncomputable def c_s_SupportAt : Ctx := ⟨Try.prog, TT, [e_s_IsPolygon, e_s_IsVector, e_s_l2Dot, e_s_l1Max], [⟨5, [(6, .l (.d false (.int .i64))), (7, .l (.d false (.int .i64)))], some (0, [(6, .l (.d false (.int .i64)))]), none, false⟩], [], [], [], []⟩
theorem k_s_SupportAt (x : PMs.den e_s_SupportAt.ps) : funK c_s_SupportAt Try.f45 e_s_SupportAt.ps e_s_SupportAt.rs x = e_s_SupportAt.F x := by kernel_rfl
theorem o_s_SupportAt : FnOk Try.prog e_s_SupportAt.f ∧ Ctr Try.prog e_s_SupportAt := mkCtr (C := c_s_SupportAt) m_ (⟨o_s_IsPolygon, o_s_IsVector, o_s_l2Dot, o_s_l1Max, trivial⟩) Try.func45 (by kernel_rfl) k_s_SupportAt
/-! loop.example/g00959/spec.l2Scale -/
noncomputable def s_l2Scale_s3 (x0 : List Int) (x1 : Int) (v1 : List Int × Int) : Option ((List Int × Int) ⊕ (List Int)) :=
 cond (decide (v1.2 < (x0.length : Int)))
 ((idx x0 v1.2).bind fun v2 => (appD 8 v1.1 ([(IntKind.i64.wrap (v2 * x1))] : List Int)).bind fun v3 => some (.inl (v3, (IntKind.i64.wrap (v1.2 + (1 : Int))))))
 (some (.inr v1.1))
noncomputable def s_l2Scale (x0 : List Int) (x1 : Int) : Option (List Int) :=
(iter (s_l2Scale_s3 x0 x1) (([] : List Int), (0 : Int))).bind fun v4 => some v4
noncomputable def e_s_l2Scale : CallE := ⟨66, [.d false (.list (.int .i64)), .d false (.int .i64)], [.l (.o true 3 (.int .i64))], fun x => s_l2Scale x.1 x.2⟩
noncomputable def c_s_l2Scale : Ctx := ⟨Try.prog, TT, [], [⟨3, [(5, .l (.o true 3 (.int .i64))), (6, .l (.d false (.int .i64)))], some (0, [(5, .l (.o true 3 (.int .i64)))]), none, false⟩], [], [], [], []⟩
theorem k_s_l2Scale (x : PMs.den e_s_l2Scale.ps) : funK c_s_l2Scale Try.f66 e_s_l2Scale.ps e_s_l2Scale.rs x = e_s_l2Scale.F x := by kernel_rfl
theorem o_s_l2Scale : FnOk Try.prog e_s_l2Scale.f ∧ Ctr Try.prog e_s_l2Scale := mkCtr (C := c_s_l2Scale) m_ (trivial) Try.func66 (by kernel_rfl) k_s_l2Scale
/-! loop.example/g00959/spec.WidthIn -/
noncomputable def s_WidthIn (x0 : List (List Int)) (x1 : List Int) : Option (Int) :=
(s_SupportAt x0 x1).bind fun v1 => cond (!v1.2)
 (some (-1 : Int))
 ((s_l2Scale x1 (-1 : Int)).bind fun v2 => (s_SupportAt x0 v2).bind fun v3 => some (IntKind.i64.wrap (v1.1 + v3.1)))
noncomputable def e_s_WidthIn : CallE := ⟨14, [.d false (.list (.list (.int .i64))), .d false (.list (.int .i64))], [.l (.d false (.int .i64))], fun x => s_WidthIn x.1 x.2⟩
noncomputable def c_s_WidthIn : Ctx := ⟨Try.prog, TT, [e_s_SupportAt, e_s_l2Scale], [], [], [], [], []⟩
theorem k_s_WidthIn (x : PMs.den e_s_WidthIn.ps) : funK c_s_WidthIn Try.f14 e_s_WidthIn.ps e_s_WidthIn.rs x = e_s_WidthIn.F x := by kernel_rfl
theorem o_s_WidthIn : FnOk Try.prog e_s_WidthIn.f ∧ Ctr Try.prog e_s_WidthIn := mkCtr (C := c_s_WidthIn) m_ (⟨o_s_SupportAt, o_s_l2Scale, trivial⟩) Try.func14 (by kernel_rfl) k_s_WidthIn
/-! loop.example/g00959/spec.l5All -/
noncomputable def s_l5All_s10 (x2 : Int) (v1 : List (List Int) × Int) (v2 : List (List Int) × Int) (v3 : List (List Int) × Int) : Option ((List (List Int) × Int) ⊕ (List (List Int))) :=
 cond (decide (v3.2 ≤ x2))
 ((idx v1.1 v2.2).bind fun v4 => (appD 8 ([] : List Int) v4).bind fun v5 => (appD 8 v5 ([v3.2] : List Int)).bind fun v6 => (appD 24 v3.1 ([v6] : List (List Int))).bind fun v7 => some (.inl (v7, (IntKind.i64.wrap (v3.2 + (1 : Int))))))
 (some (.inr v3.1))
noncomputable def s_l5All_s7 (x1 : Int) (x2 : Int) (v1 : List (List Int) × Int) (v2 : List (List Int) × Int) : Option ((List (List Int) × Int) ⊕ (List (List Int))) :=
 cond (decide (v2.2 < (v1.1.length : Int)))
 ((iter (s_l5All_s10 x2 v1 v2) (v2.1, x1)).bind fun v8 => some (.inl (v8, (IntKind.i64.wrap (v2.2 + (1 : Int))))))
 (some (.inr v2.1))
noncomputable def s_l5All_s3 (x0 : Int) (x1 : Int) (x2 : Int) (v1 : List (List Int) × Int) : Option ((List (List Int) × Int) ⊕ (List (List Int))) :=
 cond (decide (v1.2 < x0))
 ((iter (s_l5All_s7 x1 x2 v1) (([] : List (List Int)), (0 : Int))).bind fun v9 => some (.inl (v9, (IntKind.i64.wrap (v1.2 + (1 : Int))))))
 (some (.inr v1.1))
noncomputable def s_l5All (x0 : Int) (x1 : Int) (x2 : Int) : Option (List (List Int)) :=
(iter (s_l5All_s3 x0 x1 x2) (([([] : List Int)] : List (List Int)), (0 : Int))).bind fun v10 => some v10
noncomputable def e_s_l5All : CallE := ⟨106, [.d false (.int .i64), .d false (.int .i64), .d false (.int .i64)], [.l (.o true 25 (.list (.int .i64)))], fun x => s_l5All x.1 x.2.1 x.2.2⟩
noncomputable def c_s_l5All : Ctx := ⟨Try.prog, TT, [], [⟨3, [(7, .l (.o true 25 (.list (.int .i64)))), (8, .l (.d false (.int .i64)))], some (0, [(7, .l (.o true 25 (.list (.int .i64))))]), none, false⟩, ⟨7, [(9, .l (.o true 25 (.list (.int .i64)))), (10, .l (.d false (.int .i64)))], some (2, [(9, .l (.o true 25 (.list (.int .i64))))]), none, false⟩, ⟨10, [(9, .l (.o true 25 (.list (.int .i64)))), (11, .l (.d false (.int .i64)))], some (4, [(9, .l (.o true 25 (.list (.int .i64))))]), none, false⟩], [], [], [], []⟩
theorem k_s_l5All (x : PMs.den e_s_l5All.ps) : funK c_s_l5All Try.f106 e_s_l5All.ps e_s_l5All.rs x = e_s_l5All.F x := by kernel_rfl
theorem o_s_l5All : FnOk Try.prog e_s_l5All.f ∧ Ctr Try.prog e_s_l5All := mkCtr (C := c_s_l5All) m_ (trivial) Try.func106 (by kernel_rfl) k_s_l5All
/-! loop.example/g00959/spec.l1Min -/
noncomputable def s_l1Min (x0 : Int) (x1 : Int) : Option (Int) :=
 cond (decide (x0 < x1))
 (some x0)
 (some x1)
noncomputable def e_s_l1Min : CallE := ⟨107, [.d false (.int .i64), .d false (.int .i64)], [.l (.d false (.int .i64))], fun x => s_l1Min x.1 x.2⟩
noncomputable def c_s_l1Min : Ctx := ⟨Try.prog, TT, [], [], [], [], [], []⟩
theorem k_s_l1Min (x : PMs.den e_s_l1Min.ps) : funK c_s_l1Min Try.f107 e_s_l1Min.ps e_s_l1Min.rs x = e_s_l1Min.F x := by kernel_rfl
theorem o_s_l1Min : FnOk Try.prog e_s_l1Min.f ∧ Ctr Try.prog e_s_l1Min := mkCtr (C := c_s_l1Min) m_ (trivial) Try.func107 (by kernel_rfl) k_s_l1Min
/-! loop.example/g00959/spec.l25Range -/
noncomputable def s_l25Range_s4 (x0 : List (List Int)) (x1 : List Int) (v3 : Int × Int × Int) : Option ((Int × Int × Int) ⊕ (Int × Int)) :=
 cond (decide (v3.2.2 < (x0.length : Int)))
 ((idx x0 v3.2.2).bind fun v4 => (s_l2Dot x1 v4).bind fun v5 => (s_l1Max v3.1 v5).bind fun v6 => (s_l1Min v3.2.1 v5).bind fun v7 => some (.inl (v6, (v7, (IntKind.i64.wrap (v3.2.2 + (1 : Int)))))))
 (some (.inr (v3.1, v3.2.1)))
noncomputable def s_l25Range (x0 : List (List Int)) (x1 : List Int) : Option (Int × Int) :=
(idx x0 (0 : Int)).bind fun v1 => (s_l2Dot x1 v1).bind fun v2 => (iter (s_l25Range_s4 x0 x1) (v2, (v2, (1 : Int)))).bind fun v8 => some (v8.1, v8.2)
noncomputable def e_s_l25Range : CallE := ⟨70, [.d false (.list (.list (.int .i64))), .d false (.list (.int .i64))], [.l (.d false (.int .i64)), .l (.d false (.int .i64))], fun x => s_l25Range x.1 x.2⟩
noncomputable def c_s_l25Range : Ctx := ⟨Try.prog, TT, [e_s_l2Dot, e_s_l1Max, e_s_l1Min], [⟨4, [(6, .l (.d false (.int .i64))), (7, .l (.d false (.int .i64))), (8, .l (.d false (.int .i64)))], some (0, [(6, .l (.d false (.int .i64))), (7, .l (.d false (.int .i64)))]), none, false⟩], [], [], [], []⟩
theorem k_s_l25Range (x : PMs.den e_s_l25Range.ps) : funK c_s_l25Range Try.f70 e_s_l25Range.ps e_s_l25Range.rs x = e_s_l25Range.F x := by kernel_rfl
theorem o_s_l25Range : FnOk Try.prog e_s_l25Range.f ∧ Ctr Try.prog e_s_l25Range := mkCtr (C := c_s_l25Range) m_ (⟨o_s_l2Dot, o_s_l1Max, o_s_l1Min, trivial⟩) Try.func70 (by kernel_rfl) k_s_l25Range
/-! loop.example/g00959/spec.l25Best -/
noncomputable def s_l25Best_s5 (x0 : List (List Int)) (v1 : List (List Int)) (v2 : Int × List (List Int) × Int) : Option ((Int × List (List Int) × Int) ⊕ (Int × List (List Int))) :=
 cond (decide (v2.2.2 < (v1.length : Int)))
 ((idx v1 v2.2.2).bind fun v3 => (idx v3 (0 : Int)).bind fun v4 => cond (decide (v4 < (0 : Int)))
 (some (.inl (v2.1, (v2.2.1, (IntKind.i64.wrap (v2.2.2 + (1 : Int)))))))
 ((idx v3 (0 : Int)).bind fun v5 => cond (v5 == (0 : Int))
 ((idx v3 (1 : Int)).bind fun v6 => cond (decide (v6 ≤ (0 : Int)))
 (some (.inl (v2.1, (v2.2.1, (IntKind.i64.wrap (v2.2.2 + (1 : Int)))))))
 ((s_l25Range x0 v3).bind fun v7 => cond (decide (v2.1 < (0 : Int)))
 (cond ((IntKind.i64.wrap (v7.1 - v7.2)) == (IntKind.i64.wrap (v7.1 - v7.2)))
 ((appD 24 ([] : List (List Int)) ([v3] : List (List Int))).bind fun v8 => some (.inl ((IntKind.i64.wrap (v7.1 - v7.2)), (v8, (IntKind.i64.wrap (v2.2.2 + (1 : Int)))))))
 (some (.inl ((IntKind.i64.wrap (v7.1 - v7.2)), (([] : List (List Int)), (IntKind.i64.wrap (v2.2.2 + (1 : Int))))))))
 (cond (decide ((IntKind.i64.wrap (v7.1 - v7.2)) < v2.1))
 (cond ((IntKind.i64.wrap (v7.1 - v7.2)) == (IntKind.i64.wrap (v7.1 - v7.2)))
 ((appD 24 ([] : List (List Int)) ([v3] : List (List Int))).bind fun v9 => some (.inl ((IntKind.i64.wrap (v7.1 - v7.2)), (v9, (IntKind.i64.wrap (v2.2.2 + (1 : Int)))))))
 (some (.inl ((IntKind.i64.wrap (v7.1 - v7.2)), (([] : List (List Int)), (IntKind.i64.wrap (v2.2.2 + (1 : Int))))))))
 (cond ((IntKind.i64.wrap (v7.1 - v7.2)) == v2.1)
 ((appD 24 v2.2.1 ([v3] : List (List Int))).bind fun v10 => some (.inl (v2.1, (v10, (IntKind.i64.wrap (v2.2.2 + (1 : Int)))))))
 (some (.inl (v2.1, (v2.2.1, (IntKind.i64.wrap (v2.2.2 + (1 : Int)))))))))))
 ((s_l25Range x0 v3).bind fun v11 => cond (decide (v2.1 < (0 : Int)))
 (cond ((IntKind.i64.wrap (v11.1 - v11.2)) == (IntKind.i64.wrap (v11.1 - v11.2)))
 ((appD 24 ([] : List (List Int)) ([v3] : List (List Int))).bind fun v12 => some (.inl ((IntKind.i64.wrap (v11.1 - v11.2)), (v12, (IntKind.i64.wrap (v2.2.2 + (1 : Int)))))))
 (some (.inl ((IntKind.i64.wrap (v11.1 - v11.2)), (([] : List (List Int)), (IntKind.i64.wrap (v2.2.2 + (1 : Int))))))))
 (cond (decide ((IntKind.i64.wrap (v11.1 - v11.2)) < v2.1))
 (cond ((IntKind.i64.wrap (v11.1 - v11.2)) == (IntKind.i64.wrap (v11.1 - v11.2)))
 ((appD 24 ([] : List (List Int)) ([v3] : List (List Int))).bind fun v13 => some (.inl ((IntKind.i64.wrap (v11.1 - v11.2)), (v13, (IntKind.i64.wrap (v2.2.2 + (1 : Int)))))))
 (some (.inl ((IntKind.i64.wrap (v11.1 - v11.2)), (([] : List (List Int)), (IntKind.i64.wrap (v2.2.2 + (1 : Int))))))))
 (cond ((IntKind.i64.wrap (v11.1 - v11.2)) == v2.1)
 ((appD 24 v2.2.1 ([v3] : List (List Int))).bind fun v14 => some (.inl (v2.1, (v14, (IntKind.i64.wrap (v2.2.2 + (1 : Int)))))))
 (some (.inl (v2.1, (v2.2.1, (IntKind.i64.wrap (v2.2.2 + (1 : Int))))))))))))
 (some (.inr (v2.1, v2.2.1)))
noncomputable def s_l25Best (x0 : List (List Int)) : Option (Int × List (List Int)) :=
(s_l5All (2 : Int) (-12 : Int) (12 : Int)).bind fun v1 => (iter (s_l25Best_s5 x0 v1) ((-1 : Int), (([] : List (List Int)), (0 : Int)))).bind fun v15 => some (v15.1, v15.2)
noncomputable def e_s_l25Best : CallE := ⟨67, [.d false (.list (.list (.int .i64)))], [.l (.d false (.int .i64)), .l (.o false 25 (.list (.int .i64)))], fun x => s_l25Best x⟩
noncomputable def c_s_l25Best : Ctx := ⟨Try.prog, TT, [e_s_l5All, e_s_l25Range], [⟨5, [(4, .l (.d false (.int .i64))), (5, .l (.o false 25 (.list (.int .i64)))), (7, .l (.d false (.int .i64)))], some (0, [(4, .l (.d false (.int .i64))), (5, .l (.o false 25 (.list (.int .i64))))]), none, false⟩], [], [], [], []⟩
theorem k_s_l25Best (x : PMs.den e_s_l25Best.ps) : funK c_s_l25Best Try.f67 e_s_l25Best.ps e_s_l25Best.rs x = e_s_l25Best.F x := by kernel_rfl
theorem o_s_l25Best : FnOk Try.prog e_s_l25Best.f ∧ Ctr Try.prog e_s_l25Best := mkCtr (C := c_s_l25Best) m_ (⟨o_s_l5All, o_s_l25Range, trivial⟩) Try.func67 (by kernel_rfl) k_s_l25Best
/-! loop.example/g00959/spec.BestDirections -/
noncomputable def s_BestDirections (x0 : List (List Int)) : Option (List (List Int)) :=
(s_IsPolygon x0).bind fun v1 => cond (!v1)
 (some ([] : List (List Int)))
 ((s_l25Best x0).bind fun v2 => some v2.2)
noncomputable def e_s_BestDirections : CallE := ⟨16, [.d false (.list (.list (.int .i64)))], [.l (.o false 25 (.list (.int .i64)))], fun x => s_BestDirections x⟩
noncomputable def c_s_BestDirections : Ctx := ⟨Try.prog, TT, [e_s_IsPolygon, e_s_l25Best], [], [], [], [], []⟩
theorem k_s_BestDirections (x : PMs.den e_s_BestDirections.ps) : funK c_s_BestDirections Try.f16 e_s_BestDirections.ps e_s_BestDirections.rs x = e_s_BestDirections.F x := by kernel_rfl
theorem o_s_BestDirections : FnOk Try.prog e_s_BestDirections.f ∧ Ctr Try.prog e_s_BestDirections := mkCtr (C := c_s_BestDirections) m_ (⟨o_s_IsPolygon, o_s_l25Best, trivial⟩) Try.func16 (by kernel_rfl) k_s_BestDirections
/-! loop.example/g00959/laws.sameInts -/
noncomputable def w_sameInts_s4 (x0 : List Int) (x1 : List Int) (v1 : Int) : Option ((Int) ⊕ ((Unit) ⊕ (Bool))) :=
 cond (decide (v1 < (x0.length : Int)))
 ((idx x0 v1).bind fun v2 => (idx x1 v1).bind fun v3 => cond (v2 != v3)
 (some (.inr (.inr false)))
 (some (.inl (IntKind.i64.wrap (v1 + (1 : Int))))))
 (some (.inr (.inl ())))
noncomputable def w_sameInts (x0 : List Int) (x1 : List Int) : Option (Bool) :=
 cond ((x0.length : Int) != (x1.length : Int))
 (some false)
 ((iter (w_sameInts_s4 x0 x1) (0 : Int)).bind fun v4 => match v4 with
 | .inl v5 => (some true)
 | .inr v6 => (some v6))
noncomputable def e_w_sameInts : CallE := ⟨18, [.d false (.list (.int .i64)), .d false (.list (.int .i64))], [.l (.d false .bool)], fun x => w_sameInts x.1 x.2⟩
noncomputable def c_w_sameInts : Ctx := ⟨Try.prog, TT, [], [⟨4, [(5, .l (.d false (.int .i64)))], some (0, []), some [(4, .l (.d false .bool))], false⟩], [], [], [], []⟩
theorem k_w_sameInts (x : PMs.den e_w_sameInts.ps) : funK c_w_sameInts Try.f18 e_w_sameInts.ps e_w_sameInts.rs x = e_w_sameInts.F x := by kernel_rfl
theorem o_w_sameInts : FnOk Try.prog e_w_sameInts.f ∧ Ctr Try.prog e_w_sameInts := mkCtr (C := c_w_sameInts) m_ (trivial) Try.func18 (by kernel_rfl) k_w_sameInts
/-! loop.example/g00959/laws.sameLists -/
noncomputable def w_sameLists_s4 (x0 : List (List Int)) (x1 : List (List Int)) (v1 : Int) : Option ((Int) ⊕ ((Unit) ⊕ (Bool))) :=
 cond (decide (v1 < (x0.length : Int)))
 ((idx x0 v1).bind fun v2 => (idx x1 v1).bind fun v3 => (w_sameInts v2 v3).bind fun v4 => cond (!v4)
 (some (.inr (.inr false)))
 (some (.inl (IntKind.i64.wrap (v1 + (1 : Int))))))
 (some (.inr (.inl ())))
noncomputable def w_sameLists (x0 : List (List Int)) (x1 : List (List Int)) : Option (Bool) :=
 cond ((x0.length : Int) != (x1.length : Int))
 (some false)
 ((iter (w_sameLists_s4 x0 x1) (0 : Int)).bind fun v5 => match v5 with
 | .inl v6 => (some true)
 | .inr v7 => (some v7))
noncomputable def e_w_sameLists : CallE := ⟨15, [.d false (.list (.list (.int .i64))), .d false (.list (.list (.int .i64)))], [.l (.d false .bool)], fun x => w_sameLists x.1 x.2⟩
noncomputable def c_w_sameLists : Ctx := ⟨Try.prog, TT, [e_w_sameInts], [⟨4, [(5, .l (.d false (.int .i64)))], some (0, []), some [(4, .l (.d false .bool))], false⟩], [], [], [], []⟩
theorem k_w_sameLists (x : PMs.den e_w_sameLists.ps) : funK c_w_sameLists Try.f15 e_w_sameLists.ps e_w_sameLists.rs x = e_w_sameLists.F x := by kernel_rfl
theorem o_w_sameLists : FnOk Try.prog e_w_sameLists.f ∧ Ctr Try.prog e_w_sameLists := mkCtr (C := c_w_sameLists) m_ (⟨o_w_sameInts, trivial⟩) Try.func15 (by kernel_rfl) k_w_sameLists
/-! loop.example/g00959/spec.LeastWidth -/
noncomputable def s_LeastWidth (x0 : List (List Int)) : Option (Int) :=
(s_IsPolygon x0).bind fun v1 => cond (!v1)
 (some (-1 : Int))
 ((s_l25Best x0).bind fun v2 => some v2.1)
noncomputable def e_s_LeastWidth : CallE := ⟨17, [.d false (.list (.list (.int .i64)))], [.l (.d false (.int .i64))], fun x => s_LeastWidth x⟩
noncomputable def c_s_LeastWidth : Ctx := ⟨Try.prog, TT, [e_s_IsPolygon, e_s_l25Best], [], [], [], [], []⟩
theorem k_s_LeastWidth (x : PMs.den e_s_LeastWidth.ps) : funK c_s_LeastWidth Try.f17 e_s_LeastWidth.ps e_s_LeastWidth.rs x = e_s_LeastWidth.F x := by kernel_rfl
theorem o_s_LeastWidth : FnOk Try.prog e_s_LeastWidth.f ∧ Ctr Try.prog e_s_LeastWidth := mkCtr (C := c_s_LeastWidth) m_ (⟨o_s_IsPolygon, o_s_l25Best, trivial⟩) Try.func17 (by kernel_rfl) k_s_LeastWidth
/-! loop.example/g00959/spec.l7Area -/
noncomputable def s_l7Area_s3 (x0 : List (List Int)) (v1 : Int × Int) : Option ((Int × Int) ⊕ (Int)) :=
 cond (decide (v1.2 < (x0.length : Int)))
 ((idx x0 v1.2).bind fun v2 => (remI .i64 (IntKind.i64.wrap (v1.2 + (1 : Int))) (x0.length : Int)).bind fun v3 => (idx x0 v3).bind fun v4 => (s_l7Cross v2 v4).bind fun v5 => some (.inl ((IntKind.i64.wrap (v1.1 + v5)), (IntKind.i64.wrap (v1.2 + (1 : Int))))))
 (some (.inr v1.1))
noncomputable def s_l7Area (x0 : List (List Int)) : Option (Int) :=
(iter (s_l7Area_s3 x0) ((0 : Int), (0 : Int))).bind fun v6 => some v6
noncomputable def e_s_l7Area : CallE := ⟨68, [.d false (.list (.list (.int .i64)))], [.l (.d false (.int .i64))], fun x => s_l7Area x⟩
noncomputable def c_s_l7Area : Ctx := ⟨Try.prog, TT, [e_s_l7Cross], [⟨3, [(3, .l (.d false (.int .i64))), (4, .l (.d false (.int .i64)))], some (0, [(3, .l (.d false (.int .i64)))]), none, false⟩], [], [], [], []⟩
theorem k_s_l7Area (x : PMs.den e_s_l7Area.ps) : funK c_s_l7Area Try.f68 e_s_l7Area.ps e_s_l7Area.rs x = e_s_l7Area.F x := by kernel_rfl
theorem o_s_l7Area : FnOk Try.prog e_s_l7Area.f ∧ Ctr Try.prog e_s_l7Area := mkCtr (C := c_s_l7Area) m_ (⟨o_s_l7Cross, trivial⟩) Try.func68 (by kernel_rfl) k_s_l7Area
/-! loop.example/g00959/spec.l7Place -/
noncomputable def s_l7Place_s3 (x0 : List (List Int)) (x1 : List Int) (v1 : Int × Int) : Option ((Int × Int) ⊕ ((Int) ⊕ (Int))) :=
 cond (decide (v1.2 < (x0.length : Int)))
 ((idx x0 v1.2).bind fun v2 => (remI .i64 (IntKind.i64.wrap (v1.2 + (1 : Int))) (x0.length : Int)).bind fun v3 => (idx x0 v3).bind fun v4 => (s_l7Turn v2 v4 x1).bind fun v5 => cond (decide (v5 < (0 : Int)))
 (some (.inr (.inr (-1 : Int))))
 (cond (v5 == (0 : Int))
 (some (.inl ((0 : Int), (IntKind.i64.wrap (v1.2 + (1 : Int))))))
 (some (.inl (v1.1, (IntKind.i64.wrap (v1.2 + (1 : Int))))))))
 (some (.inr (.inl v1.1)))
noncomputable def s_l7Place (x0 : List (List Int)) (x1 : List Int) : Option (Int) :=
(iter (s_l7Place_s3 x0 x1) ((1 : Int), (0 : Int))).bind fun v6 => match v6 with
 | .inl v7 => (some v7)
 | .inr v8 => (some v8)
noncomputable def e_s_l7Place : CallE := ⟨108, [.d false (.list (.list (.int .i64))), .d false (.list (.int .i64))], [.l (.d false (.int .i64))], fun x => s_l7Place x.1 x.2⟩
noncomputable def c_s_l7Place : Ctx := ⟨Try.prog, TT, [e_s_l7Turn], [⟨3, [(5, .l (.d false (.int .i64))), (6, .l (.d false (.int .i64)))], some (0, [(5, .l (.d false (.int .i64)))]), some [(4, .l (.d false (.int .i64)))], false⟩], [], [], [], []⟩
theorem k_s_l7Place (x : PMs.den e_s_l7Place.ps) : funK c_s_l7Place Try.f108 e_s_l7Place.ps e_s_l7Place.rs x = e_s_l7Place.F x := by kernel_rfl
theorem o_s_l7Place : FnOk Try.prog e_s_l7Place.f ∧ Ctr Try.prog e_s_l7Place := mkCtr (C := c_s_l7Place) m_ (⟨o_s_l7Turn, trivial⟩) Try.func108 (by kernel_rfl) k_s_l7Place
/-! loop.example/g00959/spec.l7Points -/
noncomputable def s_l7Points_s6 (x0 : List (List Int)) (v7 : List (List Int) × Int × Int × Int × Int) : Option ((List (List Int) × Int × Int × Int × Int) ⊕ (List (List Int) × Int × Int × Int)) :=
 cond (decide (v7.2.2.2.2 < (x0.length : Int)))
 ((idx x0 v7.2.2.2.2).bind fun v8 => (idx v8 (1 : Int)).bind fun v9 => (s_l1Min v7.2.1 v9).bind fun v10 => (idx x0 v7.2.2.2.2).bind fun v11 => (idx v11 (1 : Int)).bind fun v12 => (s_l1Max v7.2.2.1 v12).bind fun v13 => (idx x0 v7.2.2.2.2).bind fun v14 => (idx v14 (0 : Int)).bind fun v15 => (s_l1Max v7.2.2.2.1 v15).bind fun v16 => some (.inl (v7.1, (v10, (v13, (v16, (IntKind.i64.wrap (v7.2.2.2.2 + (1 : Int)))))))))
 (some (.inr (v7.1, (v7.2.1, (v7.2.2.1, v7.2.2.2.1)))))
noncomputable def s_l7Points_s15 (x0 : List (List Int)) (v17 : List (List Int) × Int × Int × Int) (v20 : List (List Int) × Int) (v21 : List (List Int) × Int) : Option ((List (List Int) × Int) ⊕ (List (List Int))) :=
 cond (decide (v21.2 ≤ v17.2.2.1))
 ((s_l7Place x0 ([v20.2, v21.2] : List Int)).bind fun v22 => cond (decide (v22 ≥ (0 : Int)))
 ((appD 24 v21.1 ([([v20.2, v21.2] : List Int)] : List (List Int))).bind fun v23 => some (.inl (v23, (IntKind.i64.wrap (v21.2 + (1 : Int))))))
 (some (.inl (v21.1, (IntKind.i64.wrap (v21.2 + (1 : Int)))))))
 (some (.inr v21.1))
noncomputable def s_l7Points_s12 (x0 : List (List Int)) (v17 : List (List Int) × Int × Int × Int) (v20 : List (List Int) × Int) : Option ((List (List Int) × Int) ⊕ (List (List Int))) :=
 cond (decide (v20.2 ≤ v17.2.2.2))
 ((iter (s_l7Points_s15 x0 v17 v20) (v20.1, v17.2.1)).bind fun v24 => some (.inl (v24, (IntKind.i64.wrap (v20.2 + (1 : Int))))))
 (some (.inr v20.1))
noncomputable def s_l7Points (x0 : List (List Int)) : Option (List (List Int)) :=
(idx x0 (0 : Int)).bind fun v1 => (idx v1 (1 : Int)).bind fun v2 => (idx x0 (0 : Int)).bind fun v3 => (idx v3 (1 : Int)).bind fun v4 => (idx x0 (0 : Int)).bind fun v5 => (idx v5 (0 : Int)).bind fun v6 => (iter (s_l7Points_s6 x0) (([] : List (List Int)), (v2, (v4, (v6, (0 : Int)))))).bind fun v17 => (idx x0 (0 : Int)).bind fun v18 => (idx v18 (0 : Int)).bind fun v19 => (iter (s_l7Points_s12 x0 v17) (v17.1, v19)).bind fun v25 => some v25
noncomputable def e_s_l7Points : CallE := ⟨71, [.d false (.list (.list (.int .i64)))], [.l (.o true 25 (.list (.int .i64)))], fun x => s_l7Points x⟩
noncomputable def c_s_l7Points : Ctx := ⟨Try.prog, TT, [e_s_l1Min, e_s_l1Max, e_s_l7Place], [⟨6, [(3, .l (.o true 25 (.list (.int .i64)))), (4, .l (.d false (.int .i64))), (5, .l (.d false (.int .i64))), (6, .l (.d false (.int .i64))), (7, .l (.d false (.int .i64)))], some (0, [(3, .l (.o true 25 (.list (.int .i64)))), (4, .l (.d false (.int .i64))), (5, .l (.d false (.int .i64))), (6, .l (.d false (.int .i64)))]), none, false⟩, ⟨12, [(3, .l (.o true 25 (.list (.int .i64)))), (8, .l (.d false (.int .i64)))], some (2, [(3, .l (.o true 25 (.list (.int .i64))))]), none, false⟩, ⟨15, [(3, .l (.o true 25 (.list (.int .i64)))), (9, .l (.d false (.int .i64)))], some (4, [(3, .l (.o true 25 (.list (.int .i64))))]), none, false⟩], [], [], [], []⟩
theorem k_s_l7Points (x : PMs.den e_s_l7Points.ps) : funK c_s_l7Points Try.f71 e_s_l7Points.ps e_s_l7Points.rs x = e_s_l7Points.F x := by kernel_rfl
theorem o_s_l7Points : FnOk Try.prog e_s_l7Points.f ∧ Ctr Try.prog e_s_l7Points := mkCtr (C := c_s_l7Points) m_ (⟨o_s_l1Min, o_s_l1Max, o_s_l7Place, trivial⟩) Try.func71 (by kernel_rfl) k_s_l7Points
/-! loop.example/g00959/spec.LayersOf -/
noncomputable def s_LayersOf_s7 (x1 : List Int) (v4 : Int × Int) (v6 : List (List Int)) (v7 : List Int × Int) : Option ((List Int × Int) ⊕ (List Int)) :=
 cond (decide (v7.2 < (v6.length : Int)))
 ((idx v6 v7.2).bind fun v8 => (s_l2Dot x1 v8).bind fun v9 => (inIdx v7.1.length (IntKind.i64.wrap (v9 - v4.2))).bind fun _ => (idx v7.1 (((IntKind.i64.wrap (v9 - v4.2))).toNat : Int)).bind fun v10 => (inIdx v7.1.length (IntKind.i64.wrap (v9 - v4.2))).bind fun _ => (inIdx v7.1.length (((IntKind.i64.wrap (v9 - v4.2))).toNat : Int)).bind fun _ => some (.inl ((v7.1.set (((IntKind.i64.wrap (v9 - v4.2))).toNat) (IntKind.i64.wrap (v10 + (1 : Int)))), (IntKind.i64.wrap (v7.2 + (1 : Int))))))
 (some (.inr v7.1))
noncomputable def s_LayersOf (x0 : List (List Int)) (x1 : List Int) : Option (List Int) :=
(s_IsPolygon x0).bind fun v1 => cond (!v1)
 (some ([] : List Int))
 ((s_l7Area x0).bind fun v2 => cond (decide (v2 > (2000 : Int)))
 (some ([] : List Int))
 (cond ((x1.length : Int) != (2 : Int))
 (some ([] : List Int))
 ((s_l2Small x1 (12 : Int)).bind fun v3 => cond (!v3)
 (some ([] : List Int))
 ((s_l25Range x0 x1).bind fun v4 => (mkD 8 (IntKind.i64.wrap ((IntKind.i64.wrap (v4.1 - v4.2)) + (1 : Int))) (0 : Int)).bind fun v5 => (s_l7Points x0).bind fun v6 => (iter (s_LayersOf_s7 x1 v4 v6) (v5, (0 : Int))).bind fun v11 => some v11))))
noncomputable def e_s_LayersOf : CallE := ⟨19, [.d false (.list (.list (.int .i64))), .d false (.list (.int .i64))], [.l (.o true 3 (.int .i64))], fun x => s_LayersOf x.1 x.2⟩
noncomputable def c_s_LayersOf : Ctx := ⟨Try.prog, TT, [e_s_IsPolygon, e_s_l7Area, e_s_l2Small, e_s_l25Range, e_s_l7Points, e_s_l2Dot], [⟨7, [(7, .l (.o true 3 (.int .i64))), (9, .l (.d false (.int .i64)))], some (0, [(7, .l (.o true 3 (.int .i64)))]), none, false⟩], [], [], [], []⟩
theorem k_s_LayersOf (x : PMs.den e_s_LayersOf.ps) : funK c_s_LayersOf Try.f19 e_s_LayersOf.ps e_s_LayersOf.rs x = e_s_LayersOf.F x := by kernel_rfl
theorem o_s_LayersOf : FnOk Try.prog e_s_LayersOf.f ∧ Ctr Try.prog e_s_LayersOf := mkCtr (C := c_s_LayersOf) m_ (⟨o_s_IsPolygon, o_s_l7Area, o_s_l2Small, o_s_l25Range, o_s_l7Points, o_s_l2Dot, trivial⟩) Try.func19 (by kernel_rfl) k_s_LayersOf
/-! loop.example/g00959/laws.scaled -/
noncomputable def w_scaled_s3 (x0 : List Int) (x1 : Int) (v1 : List Int × Int) : Option ((List Int × Int) ⊕ (List Int)) :=
 cond (decide (v1.2 < (x0.length : Int)))
 ((idx x0 v1.2).bind fun v2 => (appD 8 v1.1 ([(IntKind.i64.wrap (v2 * x1))] : List Int)).bind fun v3 => some (.inl (v3, (IntKind.i64.wrap (v1.2 + (1 : Int))))))
 (some (.inr v1.1))
noncomputable def w_scaled (x0 : List Int) (x1 : Int) : Option (List Int) :=
(iter (w_scaled_s3 x0 x1) (([] : List Int), (0 : Int))).bind fun v4 => some v4
noncomputable def e_w_scaled : CallE := ⟨20, [.d false (.list (.int .i64)), .d false (.int .i64)], [.l (.o true 3 (.int .i64))], fun x => w_scaled x.1 x.2⟩
noncomputable def c_w_scaled : Ctx := ⟨Try.prog, TT, [], [⟨3, [(5, .l (.o true 3 (.int .i64))), (6, .l (.d false (.int .i64)))], some (0, [(5, .l (.o true 3 (.int .i64)))]), none, false⟩], [], [], [], []⟩
theorem k_w_scaled (x : PMs.den e_w_scaled.ps) : funK c_w_scaled Try.f20 e_w_scaled.ps e_w_scaled.rs x = e_w_scaled.F x := by kernel_rfl
theorem o_w_scaled : FnOk Try.prog e_w_scaled.f ∧ Ctr Try.prog e_w_scaled := mkCtr (C := c_w_scaled) m_ (trivial) Try.func20 (by kernel_rfl) k_w_scaled
/-! loop.example/g00959/laws.total -/
noncomputable def w_total_s3 (x0 : List Int) (v1 : Int × Int) : Option ((Int × Int) ⊕ (Int)) :=
 cond (decide (v1.2 < (x0.length : Int)))
 ((idx x0 v1.2).bind fun v2 => some (.inl ((IntKind.i64.wrap (v1.1 + v2)), (IntKind.i64.wrap (v1.2 + (1 : Int))))))
 (some (.inr v1.1))
noncomputable def w_total (x0 : List Int) : Option (Int) :=
(iter (w_total_s3 x0) ((0 : Int), (0 : Int))).bind fun v3 => some v3
noncomputable def e_w_total : CallE := ⟨21, [.d false (.list (.int .i64))], [.l (.d false (.int .i64))], fun x => w_total x⟩
noncomputable def c_w_total : Ctx := ⟨Try.prog, TT, [], [⟨3, [(3, .l (.d false (.int .i64))), (4, .l (.d false (.int .i64)))], some (0, [(3, .l (.d false (.int .i64)))]), none, false⟩], [], [], [], []⟩
theorem k_w_total (x : PMs.den e_w_total.ps) : funK c_w_total Try.f21 e_w_total.ps e_w_total.rs x = e_w_total.F x := by kernel_rfl
theorem o_w_total : FnOk Try.prog e_w_total.f ∧ Ctr Try.prog e_w_total := mkCtr (C := c_w_total) m_ (trivial) Try.func21 (by kernel_rfl) k_w_total
/-! loop.example/g00959/spec.PolygonPoints -/
noncomputable def s_PolygonPoints (x0 : List (List Int)) : Option (List (List Int)) :=
(s_IsPolygon x0).bind fun v1 => cond (!v1)
 (some ([] : List (List Int)))
 ((s_l7Area x0).bind fun v2 => cond (decide (v2 > (2000 : Int)))
 (some ([] : List (List Int)))
 ((s_l7Points x0).bind fun v3 => some v3))
noncomputable def e_s_PolygonPoints : CallE := ⟨22, [.d false (.list (.list (.int .i64)))], [.l (.o true 25 (.list (.int .i64)))], fun x => s_PolygonPoints x⟩
noncomputable def c_s_PolygonPoints : Ctx := ⟨Try.prog, TT, [e_s_IsPolygon, e_s_l7Area, e_s_l7Points], [], [], [], [], []⟩
theorem k_s_PolygonPoints (x : PMs.den e_s_PolygonPoints.ps) : funK c_s_PolygonPoints Try.f22 e_s_PolygonPoints.ps e_s_PolygonPoints.rs x = e_s_PolygonPoints.F x := by kernel_rfl
theorem o_s_PolygonPoints : FnOk Try.prog e_s_PolygonPoints.f ∧ Ctr Try.prog e_s_PolygonPoints := mkCtr (C := c_s_PolygonPoints) m_ (⟨o_s_IsPolygon, o_s_l7Area, o_s_l7Points, trivial⟩) Try.func22 (by kernel_rfl) k_s_PolygonPoints
/-! loop.example/g00959/spec.l1Abs -/
noncomputable def s_l1Abs (x0 : Int) : Option (Int) :=
(s_l1Max x0 (IntKind.i64.wrap (0 - x0))).bind fun v1 => some v1
noncomputable def e_s_l1Abs : CallE := ⟨118, [.d false (.int .i64)], [.l (.d false (.int .i64))], fun x => s_l1Abs x⟩
noncomputable def c_s_l1Abs : Ctx := ⟨Try.prog, TT, [e_s_l1Max], [], [], [], [], []⟩
theorem k_s_l1Abs (x : PMs.den e_s_l1Abs.ps) : funK c_s_l1Abs Try.f118 e_s_l1Abs.ps e_s_l1Abs.rs x = e_s_l1Abs.F x := by kernel_rfl
theorem o_s_l1Abs : FnOk Try.prog e_s_l1Abs.f ∧ Ctr Try.prog e_s_l1Abs := mkCtr (C := c_s_l1Abs) m_ (⟨o_s_l1Max, trivial⟩) Try.func118 (by kernel_rfl) k_s_l1Abs
/-! loop.example/g00959/spec.l2Gcd -/
noncomputable def s_l2Gcd_s3 (v3 : Int × Int) : Option ((Int × Int) ⊕ (Int)) :=
 cond (v3.2 != (0 : Int))
 ((remI .i64 v3.1 v3.2).bind fun v4 => some (.inl (v3.2, v4)))
 (some (.inr v3.1))
noncomputable def s_l2Gcd (x0 : Int) (x1 : Int) : Option (Int) :=
(s_l1Abs x0).bind fun v1 => (s_l1Abs x1).bind fun v2 => (iter (s_l2Gcd_s3) (v1, v2)).bind fun v5 => some v5
noncomputable def e_s_l2Gcd : CallE := ⟨120, [.d false (.int .i64), .d false (.int .i64)], [.l (.d false (.int .i64))], fun x => s_l2Gcd x.1 x.2⟩
noncomputable def c_s_l2Gcd : Ctx := ⟨Try.prog, TT, [e_s_l1Abs], [⟨3, [(0, .l (.d false (.int .i64))), (1, .l (.d false (.int .i64)))], some (0, [(0, .l (.d false (.int .i64)))]), none, false⟩], [], [], [], []⟩
theorem k_s_l2Gcd (x : PMs.den e_s_l2Gcd.ps) : funK c_s_l2Gcd Try.f120 e_s_l2Gcd.ps e_s_l2Gcd.rs x = e_s_l2Gcd.F x := by kernel_rfl
theorem o_s_l2Gcd : FnOk Try.prog e_s_l2Gcd.f ∧ Ctr Try.prog e_s_l2Gcd := mkCtr (C := c_s_l2Gcd) m_ (⟨o_s_l1Abs, trivial⟩) Try.func120 (by kernel_rfl) k_s_l2Gcd
/-! loop.example/g00959/spec.l2All -/
noncomputable def s_l2All_s3 (x0 : List Int) (v1 : Int × Int) : Option ((Int × Int) ⊕ (Int)) :=
 cond (decide (v1.2 < (x0.length : Int)))
 ((idx x0 v1.2).bind fun v2 => (s_l2Gcd v1.1 v2).bind fun v3 => some (.inl (v3, (IntKind.i64.wrap (v1.2 + (1 : Int))))))
 (some (.inr v1.1))
noncomputable def s_l2All (x0 : List Int) : Option (Int) :=
(iter (s_l2All_s3 x0) ((0 : Int), (0 : Int))).bind fun v4 => some v4
noncomputable def e_s_l2All : CallE := ⟨87, [.d false (.list (.int .i64))], [.l (.d false (.int .i64))], fun x => s_l2All x⟩
noncomputable def c_s_l2All : Ctx := ⟨Try.prog, TT, [e_s_l2Gcd], [⟨3, [(3, .l (.d false (.int .i64))), (4, .l (.d false (.int .i64)))], some (0, [(3, .l (.d false (.int .i64)))]), none, false⟩], [], [], [], []⟩
theorem k_s_l2All (x : PMs.den e_s_l2All.ps) : funK c_s_l2All Try.f87 e_s_l2All.ps e_s_l2All.rs x = e_s_l2All.F x := by kernel_rfl
theorem o_s_l2All : FnOk Try.prog e_s_l2All.f ∧ Ctr Try.prog e_s_l2All := mkCtr (C := c_s_l2All) m_ (⟨o_s_l2Gcd, trivial⟩) Try.func87 (by kernel_rfl) k_s_l2All
/-! loop.example/g00959/spec.l7Side -/
noncomputable def s_l7Side (x0 : List (List Int)) (x1 : Int) : Option (Int) :=
(remI .i64 (IntKind.i64.wrap (x1 + (1 : Int))) (x0.length : Int)).bind fun v1 => (idx x0 v1).bind fun v2 => (idx x0 x1).bind fun v3 => (s_l2Less v2 v3).bind fun v4 => (s_l2All v4).bind fun v5 => some v5
noncomputable def e_s_l7Side : CallE := ⟨112, [.d false (.list (.list (.int .i64))), .d false (.int .i64)], [.l (.d false (.int .i64))], fun x => s_l7Side x.1 x.2⟩
noncomputable def c_s_l7Side : Ctx := ⟨Try.prog, TT, [e_s_l2Less, e_s_l2All], [], [], [], [], []⟩
theorem k_s_l7Side (x : PMs.den e_s_l7Side.ps) : funK c_s_l7Side Try.f112 e_s_l7Side.ps e_s_l7Side.rs x = e_s_l7Side.F x := by kernel_rfl
theorem o_s_l7Side : FnOk Try.prog e_s_l7Side.f ∧ Ctr Try.prog e_s_l7Side := mkCtr (C := c_s_l7Side) m_ (⟨o_s_l2Less, o_s_l2All, trivial⟩) Try.func112 (by kernel_rfl) k_s_l7Side
/-! loop.example/g00959/spec.BoundaryCount -/
noncomputable def s_BoundaryCount_s5 (x0 : List (List Int)) (v2 : Int × Int) : Option ((Int × Int) ⊕ (Int)) :=
 cond (decide (v2.2 < (x0.length : Int)))
 ((s_l7Side x0 v2.2).bind fun v3 => some (.inl ((IntKind.i64.wrap (v2.1 + v3)), (IntKind.i64.wrap (v2.2 + (1 : Int))))))
 (some (.inr v2.1))
noncomputable def s_BoundaryCount (x0 : List (List Int)) : Option (Int) :=
(s_IsPolygon x0).bind fun v1 => cond (!v1)
 (some (-1 : Int))
 ((iter (s_BoundaryCount_s5 x0) ((0 : Int), (0 : Int))).bind fun v4 => some v4)
noncomputable def e_s_BoundaryCount : CallE := ⟨77, [.d false (.list (.list (.int .i64)))], [.l (.d false (.int .i64))], fun x => s_BoundaryCount x⟩
noncomputable def c_s_BoundaryCount : Ctx := ⟨Try.prog, TT, [e_s_IsPolygon, e_s_l7Side], [⟨5, [(3, .l (.d false (.int .i64))), (4, .l (.d false (.int .i64)))], some (0, [(3, .l (.d false (.int .i64)))]), none, false⟩], [], [], [], []⟩
theorem k_s_BoundaryCount (x : PMs.den e_s_BoundaryCount.ps) : funK c_s_BoundaryCount Try.f77 e_s_BoundaryCount.ps e_s_BoundaryCount.rs x = e_s_BoundaryCount.F x := by kernel_rfl
theorem o_s_BoundaryCount : FnOk Try.prog e_s_BoundaryCount.f ∧ Ctr Try.prog e_s_BoundaryCount := mkCtr (C := c_s_BoundaryCount) m_ (⟨o_s_IsPolygon, o_s_l7Side, trivial⟩) Try.func77 (by kernel_rfl) k_s_BoundaryCount
/-! loop.example/g00959/spec.InnerCount -/
noncomputable def s_InnerCount (x0 : List (List Int)) : Option (Int) :=
(s_IsPolygon x0).bind fun v1 => cond (!v1)
 (some (-1 : Int))
 ((s_l7Area x0).bind fun v2 => (s_BoundaryCount x0).bind fun v3 => (quoI .i64 (IntKind.i64.wrap ((IntKind.i64.wrap (v2 - v3)) + (2 : Int))) (2 : Int)).bind fun v4 => some v4)
noncomputable def e_s_InnerCount : CallE := ⟨24, [.d false (.list (.list (.int .i64)))], [.l (.d false (.int .i64))], fun x => s_InnerCount x⟩
noncomputable def c_s_InnerCount : Ctx := ⟨Try.prog, TT, [e_s_IsPolygon, e_s_l7Area, e_s_BoundaryCount], [], [], [], [], []⟩
theorem k_s_InnerCount (x : PMs.den e_s_InnerCount.ps) : funK c_s_InnerCount Try.f24 e_s_InnerCount.ps e_s_InnerCount.rs x = e_s_InnerCount.F x := by kernel_rfl
theorem o_s_InnerCount : FnOk Try.prog e_s_InnerCount.f ∧ Ctr Try.prog e_s_InnerCount := mkCtr (C := c_s_InnerCount) m_ (⟨o_s_IsPolygon, o_s_l7Area, o_s_BoundaryCount, trivial⟩) Try.func24 (by kernel_rfl) k_s_InnerCount
/-! loop.example/g00959/laws.FnWidths -/
noncomputable def w_FnWidths_s13 (v4 : List (List Int)) (v5 : List (List Int)) (v6 : Int) (v17 : Int) : Option ((Int) ⊕ ((Unit) ⊕ (Bool))) :=
 cond (decide (v17 < (v5.length : Int)))
 ((idx v5 v17).bind fun v18 => (i_WidthIn v4 v18).bind fun v19 => cond (v19 != v6)
 (some (.inr (.inr false)))
 (some (.inl (IntKind.i64.wrap (v17 + (1 : Int))))))
 (some (.inr (.inl ())))
noncomputable def w_FnWidths (x0 : List Int) : Option (Bool) :=
(w_big x0).bind fun v1 => cond v1
 (some true)
 ((s_DrawWidthIn x0).bind fun v2 => (i_WidthIn v2.1 v2.2).bind fun v3 => (s_DrawBestDirections x0).bind fun v4 => (i_BestDirections v4).bind fun v5 => (i_LeastWidth v4).bind fun v6 => (s_DrawLayersOf x0).bind fun v7 => (i_LayersOf v7.1 v7.2).bind fun v8 => (s_WidthIn v2.1 v2.2).bind fun v9 => cond (v3 != v9)
 (some false)
 ((s_BestDirections v4).bind fun v10 => (w_sameLists v5 v10).bind fun v11 => cond (!v11)
 (some false)
 ((s_LeastWidth v4).bind fun v12 => cond (v6 != v12)
 (some false)
 ((s_LayersOf v7.1 v7.2).bind fun v13 => (w_sameInts v8 v13).bind fun v14 => cond (!v14)
 (some false)
 ((w_scaled v2.2 (-1 : Int)).bind fun v15 => (i_WidthIn v2.1 v15).bind fun v16 => cond (v16 != v3)
 (some false)
 ((iter (w_FnWidths_s13 v4 v5 v6) (0 : Int)).bind fun v20 => match v20 with
 | .inl v21 => (cond (decide ((v8.length : Int) > (0 : Int)))
 ((w_total v8).bind fun v23 => (s_PolygonPoints v7.1).bind fun v24 => cond (v23 != (v24.length : Int))
 (some false)
 ((s_IsPolygon v4).bind fun v25 => cond (!v25)
 (cond (v6 == (-1 : Int))
 (some ((v5.length : Int) == (0 : Int)))
 (some false))
 (cond (decide ((v5.length : Int) > (0 : Int)))
 (cond (decide (v6 ≥ (1 : Int)))
 ((s_InnerCount v4).bind fun v26 => cond (v26 == (0 : Int))
 (some true)
 (some (decide (v6 ≥ (2 : Int)))))
 (some false))
 (some false))))
 ((s_IsPolygon v4).bind fun v27 => cond (!v27)
 (cond (v6 == (-1 : Int))
 (some ((v5.length : Int) == (0 : Int)))
 (some false))
 (cond (decide ((v5.length : Int) > (0 : Int)))
 (cond (decide (v6 ≥ (1 : Int)))
 ((s_InnerCount v4).bind fun v28 => cond (v28 == (0 : Int))
 (some true)
 (some (decide (v6 ≥ (2 : Int)))))
 (some false))
 (some false))))
 | .inr v22 => (some v22)))))))
noncomputable def e_w_FnWidths : CallE := ⟨3, [.d false (.list (.int .u8))], [.l (.d false .bool)], fun x => w_FnWidths x⟩
noncomputable def c_w_FnWidths : Ctx := ⟨Try.prog, TT, [e_w_big, e_s_DrawWidthIn, e_i_WidthIn, e_s_DrawBestDirections, e_i_BestDirections, e_i_LeastWidth, e_s_DrawLayersOf, e_i_LayersOf, e_s_WidthIn, e_s_BestDirections, e_w_sameLists, e_s_LeastWidth, e_s_LayersOf, e_w_sameInts, e_w_scaled, e_w_total, e_s_PolygonPoints, e_s_IsPolygon, e_s_InnerCount], [⟨13, [(12, .l (.d false (.int .i64)))], some (0, []), some [(2, .l (.d false .bool))], false⟩], [], [], [], []⟩
theorem k_w_FnWidths (x : PMs.den e_w_FnWidths.ps) : funK c_w_FnWidths Try.f3 e_w_FnWidths.ps e_w_FnWidths.rs x = e_w_FnWidths.F x := by kernel_rfl
theorem o_w_FnWidths : FnOk Try.prog e_w_FnWidths.f ∧ Ctr Try.prog e_w_FnWidths := mkCtr (C := c_w_FnWidths) m_ (⟨o_w_big, o_s_DrawWidthIn, o_i_WidthIn, o_s_DrawBestDirections, o_i_BestDirections, o_i_LeastWidth, o_s_DrawLayersOf, o_i_LayersOf, o_s_WidthIn, o_s_BestDirections, o_w_sameLists, o_s_LeastWidth, o_s_LayersOf, o_w_sameInts, o_w_scaled, o_w_total, o_s_PolygonPoints, o_s_IsPolygon, o_s_InnerCount, trivial⟩) Try.func3 (by kernel_rfl) k_w_FnWidths
/-! loop.example/g00959/spec.l7Draw -/
noncomputable def s_l7Draw_1_s7 (x1 : Int) (v2 : (Int) × ((List Int) × Int × Int) × Unit) (v3 : (List Int × Int × Int) × List (List Int) × Int) : Option (((List Int × Int × Int) × List (List Int) × Int) ⊕ ((List Int × Int × Int) × List (List Int))) :=
 cond (decide (v3.2.2 < (IntKind.i64.wrap ((3 : Int) + v2.1))))
 ((s_l2Draw (v3.1.1, (v3.1.2.1, v3.1.2.2)) (2 : Int) x1).bind fun v4 => (appD 24 v3.2.1 ([v4.1] : List (List Int))).bind fun v5 => some (.inl ((v4.2.1.1, (v4.2.1.2.1, v4.2.1.2.2)), (v5, (IntKind.i64.wrap (v3.2.2 + (1 : Int)))))))
 (some (.inr ((v3.1.1, (v3.1.2.1, v3.1.2.2)), v3.2.1)))
noncomputable def s_l7Draw_1_s2 (x1 : Int) (v1 : (List Int × Int × Int) × Int) : Option (((List Int × Int × Int) × Int) ⊕ ((List Int × Int × Int) ⊕ ((List Int × Int × Int) × List (List Int)))) :=
 cond (decide (v1.2 < (6 : Int)))
 ((s_l1Below (v1.1.1, (v1.1.2.1, v1.1.2.2)) (4 : Int)).bind fun v2 => (iter (s_l7Draw_1_s7 x1 v2) ((v2.2.1.1, (v2.2.1.2.1, v2.2.1.2.2)), (([] : List (List Int)), (0 : Int)))).bind fun v6 => (s_HullOf v6.2).bind fun v7 => cond v7.2
 (some (.inr (.inr ((v6.1.1, (v6.1.2.1, v6.1.2.2)), v7.1))))
 (some (.inl ((v6.1.1, (v6.1.2.1, v6.1.2.2)), (IntKind.i64.wrap (v1.2 + (1 : Int)))))))
 (some (.inr (.inl (v1.1.1, (v1.1.2.1, v1.1.2.2)))))
noncomputable def s_l7Draw_1 (x0 : (List Int) × Int × Int) (x1 : Int) : Option ((List (List Int)) × ((List Int) × Int × Int) × Unit) :=
(iter (s_l7Draw_1_s2 x1) ((x0.1, (x0.2.1, x0.2.2)), (0 : Int))).bind fun v8 => match v8 with
 | .inl v9 => (some (([([(0 : Int), (0 : Int)] : List Int), ([(2 : Int), (0 : Int)] : List Int), ([(0 : Int), (1 : Int)] : List Int)] : List (List Int)), ((v9.1, (v9.2.1, v9.2.2)), ())))
 | .inr v10 => (some (v10.2, ((v10.1.1, (v10.1.2.1, v10.1.2.2)), ())))
/-! loop.example/g00959/impl.SupportAt -/
noncomputable def i_SupportAt (x0 : List (List Int)) (x1 : List Int) : Option (Int × Bool) :=
(i_IsPolygon x0).bind fun v1 => cond (!v1)
 (some ((0 : Int), false))
 ((i_IsVector x1).bind fun v2 => cond (!v2)
 (some ((0 : Int), false))
 (cond ((x1.length : Int) != (2 : Int))
 (some ((0 : Int), false))
 ((i_support x0 x1).bind fun v3 => some (v3, true))))
end Go.Proofs.Ytampigdidkhigaa
