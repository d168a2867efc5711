/- Plain functions. -/
import Derived.Test.YtdkkjgbgodnopaaProg
import Derived.Test.YtdkkjgbgodnopaaEm5
import Derived.Test.YtdkkjgbgodnopaaEm8
import Derived.KernelRfl
namespace Go.Proofs.Ytdkkjgbgodnopaa
open Go Go.Proofs.Ytdkkjgbgodnopaa.Eng
set_option linter.unusedVariables false
set_option maxRecDepth 100000
noncomputable def TT : List (TypeId × Ty) := [(3, (.int .i64)), (5, (.int .u8)), (24, (.list (.int .i64)))]
theorem m_ : Try.prog.follows .mixedOrders = true := by kernel_rfl
/-! loop.example/g00959/laws.big -/
noncomputable def w_big (x0 : List Int) : Option (Bool) :=
 some (decide ((x0.length : Int) > (1048576 : Int)))
noncomputable def e_w_big : CallE := ⟨5, [.d false (.list (.int .u8))], [.l (.d false .bool)], fun x => w_big x⟩
noncomputable def c_w_big : Ctx := ⟨Try.prog, TT, [], [], [], [], [], []⟩
theorem k_w_big (x : PMs.den e_w_big.ps) : funK c_w_big Try.f5 e_w_big.ps e_w_big.rs x = e_w_big.F x := by kernel_rfl
theorem o_w_big : FnOk Try.prog e_w_big.f ∧ Ctr Try.prog e_w_big := mkCtr (C := c_w_big) m_ (trivial) Try.func5 (by kernel_rfl) k_w_big
/-! loop.example/g00959/spec.l1Byte -/
noncomputable def s_l1Byte (x0 : (List Int) × Int × Int) : Option ((Int) × ((List Int) × Int × Int) × Unit) :=
(shrI .i64 (IntKind.i64.wrap ((IntKind.i64.wrap (x0.2.2 * (6364136223846793005 : Int))) + (1442695040888963407 : Int))) (33 : Int)).bind fun v1 => (shrI .i64 (IntKind.i64.wrap ((IntKind.i64.wrap (x0.2.2 * (6364136223846793005 : Int))) + (1442695040888963407 : Int))) (45 : Int)).bind fun v2 => cond (decide (x0.2.1 < (x0.1.length : Int)))
 ((idx x0.1 x0.2.1).bind fun v3 => some ((andI .i64 (IntKind.i64.wrap ((andI .i64 (xorI .i64 v1 v2) (255 : Int)) + (IntKind.i64.wrap v3))) (255 : Int)), ((x0.1, ((IntKind.i64.wrap (x0.2.1 + (1 : Int))), (IntKind.i64.wrap ((IntKind.i64.wrap (x0.2.2 * (6364136223846793005 : Int))) + (1442695040888963407 : Int))))), ())))
 (some ((andI .i64 (xorI .i64 v1 v2) (255 : Int)), ((x0.1, (x0.2.1, (IntKind.i64.wrap ((IntKind.i64.wrap (x0.2.2 * (6364136223846793005 : Int))) + (1442695040888963407 : Int))))), ())))
noncomputable def e_s_l1Byte : CallE := ⟨81, [.cur 64], [.l (.d false (.int .i64))], fun x => s_l1Byte x⟩
noncomputable def c_s_l1Byte : Ctx := ⟨Try.prog, TT, [], [], [], [], [], []⟩
theorem k_s_l1Byte (x : PMs.den e_s_l1Byte.ps) : funK c_s_l1Byte Try.f81 e_s_l1Byte.ps e_s_l1Byte.rs x = e_s_l1Byte.F x := by kernel_rfl
theorem o_s_l1Byte : FnOk Try.prog e_s_l1Byte.f ∧ Ctr Try.prog e_s_l1Byte := mkCtr (C := c_s_l1Byte) m_ (trivial) Try.func81 (by kernel_rfl) k_s_l1Byte
/-! loop.example/g00959/spec.l1Below -/
noncomputable def s_l1Below (x0 : (List Int) × Int × Int) (x1 : Int) : Option ((Int) × ((List Int) × Int × Int) × Unit) :=
 cond (decide (x1 ≤ (0 : Int)))
 (some ((0 : Int), ((x0.1, (x0.2.1, x0.2.2)), ())))
 (cond (decide (x1 ≤ (256 : Int)))
 ((s_l1Byte (x0.1, (x0.2.1, x0.2.2))).bind fun v1 => (remI .i64 v1.1 x1).bind fun v2 => some (v2, ((v1.2.1.1, (v1.2.1.2.1, v1.2.1.2.2)), ())))
 ((s_l1Byte (x0.1, (x0.2.1, x0.2.2))).bind fun v3 => (s_l1Byte (v3.2.1.1, (v3.2.1.2.1, v3.2.1.2.2))).bind fun v4 => (s_l1Byte (v4.2.1.1, (v4.2.1.2.1, v4.2.1.2.2))).bind fun v5 => (s_l1Byte (v5.2.1.1, (v5.2.1.2.1, v5.2.1.2.2))).bind fun v6 => (remI .i64 (IntKind.i64.wrap ((IntKind.i64.wrap ((IntKind.i64.wrap ((IntKind.i64.wrap (v3.1 * (16777216 : Int))) + (IntKind.i64.wrap (v4.1 * (65536 : Int))))) + (IntKind.i64.wrap (v5.1 * (256 : Int))))) + v6.1)) x1).bind fun v7 => some (v7, ((v6.2.1.1, (v6.2.1.2.1, v6.2.1.2.2)), ()))))
noncomputable def e_s_l1Below : CallE := ⟨66, [.cur 64, .d false (.int .i64)], [.l (.d false (.int .i64))], fun x => s_l1Below x.1 x.2⟩
noncomputable def c_s_l1Below : Ctx := ⟨Try.prog, TT, [e_s_l1Byte], [], [], [], [], []⟩
theorem k_s_l1Below (x : PMs.den e_s_l1Below.ps) : funK c_s_l1Below Try.f66 e_s_l1Below.ps e_s_l1Below.rs x = e_s_l1Below.F x := by kernel_rfl
theorem o_s_l1Below : FnOk Try.prog e_s_l1Below.f ∧ Ctr Try.prog e_s_l1Below := mkCtr (C := c_s_l1Below) m_ (⟨o_s_l1Byte, trivial⟩) Try.func66 (by kernel_rfl) k_s_l1Below
/-! loop.example/g00959/spec.l2Draw -/
noncomputable def s_l2Draw_s3 (x1 : Int) (x2 : Int) (v1 : (List Int × Int × Int) × List Int × Int) : Option (((List Int × Int × Int) × List Int × Int) ⊕ ((List Int × Int × Int) × List Int)) :=
 cond (decide (v1.2.2 < x1))
 ((s_l1Below (v1.1.1, (v1.1.2.1, v1.1.2.2)) (IntKind.i64.wrap ((IntKind.i64.wrap ((2 : Int) * x2)) + (1 : Int)))).bind fun v2 => (appD 8 v1.2.1 ([(IntKind.i64.wrap (v2.1 - x2))] : List Int)).bind fun v3 => some (.inl ((v2.2.1.1, (v2.2.1.2.1, v2.2.1.2.2)), (v3, (IntKind.i64.wrap (v1.2.2 + (1 : Int)))))))
 (some (.inr ((v1.1.1, (v1.1.2.1, v1.1.2.2)), v1.2.1)))
noncomputable def s_l2Draw (x0 : (List Int) × Int × Int) (x1 : Int) (x2 : Int) : Option ((List Int) × ((List Int) × Int × Int) × Unit) :=
(iter (s_l2Draw_s3 x1 x2) ((x0.1, (x0.2.1, x0.2.2)), (([] : List Int), (0 : Int)))).bind fun v4 => some (v4.2, ((v4.1.1, (v4.1.2.1, v4.1.2.2)), ()))
noncomputable def e_s_l2Draw : CallE := ⟨67, [.cur 64, .d false (.int .i64), .d false (.int .i64)], [.l (.o true 3 (.int .i64))], fun x => s_l2Draw x.1 x.2.1 x.2.2⟩
noncomputable def c_s_l2Draw : Ctx := ⟨Try.prog, TT, [e_s_l1Below], [⟨3, [(0, .b 64 [(.d false (.list (.int .u8))), (.d false (.int .i64)), (.d false (.int .i64))]), (7, .l (.o true 3 (.int .i64))), (8, .l (.d false (.int .i64)))], some (0, [(0, .b 64 [(.d false (.list (.int .u8))), (.d false (.int .i64)), (.d false (.int .i64))]), (7, .l (.o true 3 (.int .i64)))]), none, false⟩], [], [], [], []⟩
theorem k_s_l2Draw (x : PMs.den e_s_l2Draw.ps) : funK c_s_l2Draw Try.f67 e_s_l2Draw.ps e_s_l2Draw.rs x = e_s_l2Draw.F x := by kernel_rfl
theorem o_s_l2Draw : FnOk Try.prog e_s_l2Draw.f ∧ Ctr Try.prog e_s_l2Draw := mkCtr (C := c_s_l2Draw) m_ (⟨o_s_l1Below, trivial⟩) Try.func67 (by kernel_rfl) k_s_l2Draw
/-! loop.example/g00959/spec.l1Max -/
noncomputable def s_l1Max (x0 : Int) (x1 : Int) : Option (Int) :=
 cond (decide (x0 > x1))
 (some x0)
 (some x1)
noncomputable def e_s_l1Max : CallE := ⟨85, [.d false (.int .i64), .d false (.int .i64)], [.l (.d false (.int .i64))], fun x => s_l1Max x.1 x.2⟩
noncomputable def c_s_l1Max : Ctx := ⟨Try.prog, TT, [], [], [], [], [], []⟩
theorem k_s_l1Max (x : PMs.den e_s_l1Max.ps) : funK c_s_l1Max Try.f85 e_s_l1Max.ps e_s_l1Max.rs x = e_s_l1Max.F x := by kernel_rfl
theorem o_s_l1Max : FnOk Try.prog e_s_l1Max.f ∧ Ctr Try.prog e_s_l1Max := mkCtr (C := c_s_l1Max) m_ (trivial) Try.func85 (by kernel_rfl) k_s_l1Max
/-! loop.example/g00959/spec.l1Abs -/
noncomputable def s_l1Abs (x0 : Int) : Option (Int) :=
(s_l1Max x0 (IntKind.i64.wrap (0 - x0))).bind fun v1 => some v1
noncomputable def e_s_l1Abs : CallE := ⟨86, [.d false (.int .i64)], [.l (.d false (.int .i64))], fun x => s_l1Abs x⟩
noncomputable def c_s_l1Abs : Ctx := ⟨Try.prog, TT, [e_s_l1Max], [], [], [], [], []⟩
theorem k_s_l1Abs (x : PMs.den e_s_l1Abs.ps) : funK c_s_l1Abs Try.f86 e_s_l1Abs.ps e_s_l1Abs.rs x = e_s_l1Abs.F x := by kernel_rfl
theorem o_s_l1Abs : FnOk Try.prog e_s_l1Abs.f ∧ Ctr Try.prog e_s_l1Abs := mkCtr (C := c_s_l1Abs) m_ (⟨o_s_l1Max, trivial⟩) Try.func86 (by kernel_rfl) k_s_l1Abs
/-! loop.example/g00959/spec.l2Gcd -/
noncomputable def s_l2Gcd_s3 (v3 : Int × Int) : Option ((Int × Int) ⊕ (Int)) :=
 cond (v3.2 != (0 : Int))
 ((remI .i64 v3.1 v3.2).bind fun v4 => some (.inl (v3.2, v4)))
 (some (.inr v3.1))
noncomputable def s_l2Gcd (x0 : Int) (x1 : Int) : Option (Int) :=
(s_l1Abs x0).bind fun v1 => (s_l1Abs x1).bind fun v2 => (iter (s_l2Gcd_s3) (v1, v2)).bind fun v5 => some v5
noncomputable def e_s_l2Gcd : CallE := ⟨82, [.d false (.int .i64), .d false (.int .i64)], [.l (.d false (.int .i64))], fun x => s_l2Gcd x.1 x.2⟩
noncomputable def c_s_l2Gcd : Ctx := ⟨Try.prog, TT, [e_s_l1Abs], [⟨3, [(0, .l (.d false (.int .i64))), (1, .l (.d false (.int .i64)))], some (0, [(0, .l (.d false (.int .i64)))]), none, false⟩], [], [], [], []⟩
theorem k_s_l2Gcd (x : PMs.den e_s_l2Gcd.ps) : funK c_s_l2Gcd Try.f82 e_s_l2Gcd.ps e_s_l2Gcd.rs x = e_s_l2Gcd.F x := by kernel_rfl
theorem o_s_l2Gcd : FnOk Try.prog e_s_l2Gcd.f ∧ Ctr Try.prog e_s_l2Gcd := mkCtr (C := c_s_l2Gcd) m_ (⟨o_s_l1Abs, trivial⟩) Try.func82 (by kernel_rfl) k_s_l2Gcd
/-! loop.example/g00959/spec.l2All -/
noncomputable def s_l2All_s3 (x0 : List Int) (v1 : Int × Int) : Option ((Int × Int) ⊕ (Int)) :=
 cond (decide (v1.2 < (x0.length : Int)))
 ((idx x0 v1.2).bind fun v2 => (s_l2Gcd v1.1 v2).bind fun v3 => some (.inl (v3, (IntKind.i64.wrap (v1.2 + (1 : Int))))))
 (some (.inr v1.1))
noncomputable def s_l2All (x0 : List Int) : Option (Int) :=
(iter (s_l2All_s3 x0) ((0 : Int), (0 : Int))).bind fun v4 => some v4
noncomputable def e_s_l2All : CallE := ⟨73, [.d false (.list (.int .i64))], [.l (.d false (.int .i64))], fun x => s_l2All x⟩
noncomputable def c_s_l2All : Ctx := ⟨Try.prog, TT, [e_s_l2Gcd], [⟨3, [(3, .l (.d false (.int .i64))), (4, .l (.d false (.int .i64)))], some (0, [(3, .l (.d false (.int .i64)))]), none, false⟩], [], [], [], []⟩
theorem k_s_l2All (x : PMs.den e_s_l2All.ps) : funK c_s_l2All Try.f73 e_s_l2All.ps e_s_l2All.rs x = e_s_l2All.F x := by kernel_rfl
theorem o_s_l2All : FnOk Try.prog e_s_l2All.f ∧ Ctr Try.prog e_s_l2All := mkCtr (C := c_s_l2All) m_ (⟨o_s_l2Gcd, trivial⟩) Try.func73 (by kernel_rfl) k_s_l2All
/-! loop.example/g00959/spec.l2Prime -/
noncomputable def s_l2Prime_s4 (x0 : List Int) (v1 : Int) (v2 : List Int × Int) : Option ((List Int × Int) ⊕ (List Int)) :=
 cond (decide (v2.2 < (x0.length : Int)))
 ((idx x0 v2.2).bind fun v3 => (s_l1Max v1 (1 : Int)).bind fun v4 => (quoI .i64 v3 v4).bind fun v5 => (appD 8 v2.1 ([v5] : List Int)).bind fun v6 => some (.inl (v6, (IntKind.i64.wrap (v2.2 + (1 : Int))))))
 (some (.inr v2.1))
noncomputable def s_l2Prime (x0 : List Int) : Option (List Int) :=
(s_l2All x0).bind fun v1 => (iter (s_l2Prime_s4 x0 v1) (([] : List Int), (0 : Int))).bind fun v7 => some v7
noncomputable def e_s_l2Prime : CallE := ⟨80, [.d false (.list (.int .i64))], [.l (.o true 3 (.int .i64))], fun x => s_l2Prime x⟩
noncomputable def c_s_l2Prime : Ctx := ⟨Try.prog, TT, [e_s_l2All, e_s_l1Max], [⟨4, [(4, .l (.o true 3 (.int .i64))), (5, .l (.d false (.int .i64)))], some (0, [(4, .l (.o true 3 (.int .i64)))]), none, false⟩], [], [], [], []⟩
theorem k_s_l2Prime (x : PMs.den e_s_l2Prime.ps) : funK c_s_l2Prime Try.f80 e_s_l2Prime.ps e_s_l2Prime.rs x = e_s_l2Prime.F x := by kernel_rfl
theorem o_s_l2Prime : FnOk Try.prog e_s_l2Prime.f ∧ Ctr Try.prog e_s_l2Prime := mkCtr (C := c_s_l2Prime) m_ (⟨o_s_l2All, o_s_l1Max, trivial⟩) Try.func80 (by kernel_rfl) k_s_l2Prime
/-! loop.example/g00959/spec.l7Cross -/
noncomputable def s_l7Cross (x0 : List Int) (x1 : List Int) : Option (Int) :=
(idx x0 (0 : Int)).bind fun v1 => (idx x1 (1 : Int)).bind fun v2 => (idx x0 (1 : Int)).bind fun v3 => (idx x1 (0 : Int)).bind fun v4 => some (IntKind.i64.wrap ((IntKind.i64.wrap (v1 * v2)) - (IntKind.i64.wrap (v3 * v4))))
noncomputable def e_s_l7Cross : CallE := ⟨53, [.d false (.list (.int .i64)), .d false (.list (.int .i64))], [.l (.d false (.int .i64))], fun x => s_l7Cross x.1 x.2⟩
noncomputable def c_s_l7Cross : Ctx := ⟨Try.prog, TT, [], [], [], [], [], []⟩
theorem k_s_l7Cross (x : PMs.den e_s_l7Cross.ps) : funK c_s_l7Cross Try.f53 e_s_l7Cross.ps e_s_l7Cross.rs x = e_s_l7Cross.F x := by kernel_rfl
theorem o_s_l7Cross : FnOk Try.prog e_s_l7Cross.f ∧ Ctr Try.prog e_s_l7Cross := mkCtr (C := c_s_l7Cross) m_ (trivial) Try.func53 (by kernel_rfl) k_s_l7Cross
/-! loop.example/g00959/spec.l1In -/
noncomputable def s_l1In (x0 : Int) (x1 : Int) (x2 : Int) : Option (Bool) :=
 cond (decide (x0 ≥ x1))
 (some (decide (x0 ≤ x2)))
 (some false)
noncomputable def e_s_l1In : CallE := ⟨78, [.d false (.int .i64), .d false (.int .i64), .d false (.int .i64)], [.l (.d false .bool)], fun x => s_l1In x.1 x.2.1 x.2.2⟩
noncomputable def c_s_l1In : Ctx := ⟨Try.prog, TT, [], [], [], [], [], []⟩
theorem k_s_l1In (x : PMs.den e_s_l1In.ps) : funK c_s_l1In Try.f78 e_s_l1In.ps e_s_l1In.rs x = e_s_l1In.F x := by kernel_rfl
theorem o_s_l1In : FnOk Try.prog e_s_l1In.f ∧ Ctr Try.prog e_s_l1In := mkCtr (C := c_s_l1In) m_ (trivial) Try.func78 (by kernel_rfl) k_s_l1In
/-! loop.example/g00959/spec.l2Small -/
noncomputable def s_l2Small_s2 (x0 : List Int) (x1 : Int) (v1 : Int) : Option ((Int) ⊕ ((Unit) ⊕ (Bool))) :=
 cond (decide (v1 < (x0.length : Int)))
 ((idx x0 v1).bind fun v2 => (s_l1In v2 (IntKind.i64.wrap (0 - x1)) x1).bind fun v3 => cond (!v3)
 (some (.inr (.inr false)))
 (some (.inl (IntKind.i64.wrap (v1 + (1 : Int))))))
 (some (.inr (.inl ())))
noncomputable def s_l2Small (x0 : List Int) (x1 : Int) : Option (Bool) :=
(iter (s_l2Small_s2 x0 x1) (0 : Int)).bind fun v4 => match v4 with
 | .inl v5 => (some true)
 | .inr v6 => (some v6)
noncomputable def e_s_l2Small : CallE := ⟨72, [.d false (.list (.int .i64)), .d false (.int .i64)], [.l (.d false .bool)], fun x => s_l2Small x.1 x.2⟩
noncomputable def c_s_l2Small : Ctx := ⟨Try.prog, TT, [e_s_l1In], [⟨2, [(5, .l (.d false (.int .i64)))], some (0, []), some [(4, .l (.d false .bool))], false⟩], [], [], [], []⟩
theorem k_s_l2Small (x : PMs.den e_s_l2Small.ps) : funK c_s_l2Small Try.f72 e_s_l2Small.ps e_s_l2Small.rs x = e_s_l2Small.F x := by kernel_rfl
theorem o_s_l2Small : FnOk Try.prog e_s_l2Small.f ∧ Ctr Try.prog e_s_l2Small := mkCtr (C := c_s_l2Small) m_ (⟨o_s_l1In, trivial⟩) Try.func72 (by kernel_rfl) k_s_l2Small
/-! loop.example/g00959/spec.l9Ray -/
noncomputable def s_l9Ray (x0 : List Int) : Option (Bool) :=
 cond ((x0.length : Int) == (2 : Int))
 ((s_l2Small x0 (30 : Int)).bind fun v1 => cond v1
 ((s_l2All x0).bind fun v2 => some (v2 == (1 : Int)))
 (some false))
 (some false)
noncomputable def e_s_l9Ray : CallE := ⟨56, [.d false (.list (.int .i64))], [.l (.d false .bool)], fun x => s_l9Ray x⟩
noncomputable def c_s_l9Ray : Ctx := ⟨Try.prog, TT, [e_s_l2Small, e_s_l2All], [], [], [], [], []⟩
theorem k_s_l9Ray (x : PMs.den e_s_l9Ray.ps) : funK c_s_l9Ray Try.f56 e_s_l9Ray.ps e_s_l9Ray.rs x = e_s_l9Ray.F x := by kernel_rfl
theorem o_s_l9Ray : FnOk Try.prog e_s_l9Ray.f ∧ Ctr Try.prog e_s_l9Ray := mkCtr (C := c_s_l9Ray) m_ (⟨o_s_l2Small, o_s_l2All, trivial⟩) Try.func56 (by kernel_rfl) k_s_l9Ray
/-! loop.example/g00959/spec.IsCone -/
noncomputable def s_IsCone (x0 : (List Int) × (List Int)) : Option (Bool) :=
(s_l9Ray x0.1).bind fun v1 => cond v1
 ((s_l9Ray x0.2).bind fun v2 => cond v2
 ((s_l7Cross x0.1 x0.2).bind fun v3 => some (decide (v3 > (0 : Int))))
 (some false))
 (some false)
noncomputable def e_s_IsCone : CallE := ⟨20, [.d false (.prod (.list (.int .i64)) (.list (.int .i64)))], [.l (.d false .bool)], fun x => s_IsCone x⟩
noncomputable def c_s_IsCone : Ctx := ⟨Try.prog, TT, [e_s_l9Ray, e_s_l7Cross], [], [], [], [], []⟩
theorem k_s_IsCone (x : PMs.den e_s_IsCone.ps) : funK c_s_IsCone Try.f20 e_s_IsCone.ps e_s_IsCone.rs x = e_s_IsCone.F x := by kernel_rfl
theorem o_s_IsCone : FnOk Try.prog e_s_IsCone.f ∧ Ctr Try.prog e_s_IsCone := mkCtr (C := c_s_IsCone) m_ (⟨o_s_l9Ray, o_s_l7Cross, trivial⟩) Try.func20 (by kernel_rfl) k_s_IsCone
/-! loop.example/g00959/spec.l9Draw -/
noncomputable def s_l9Draw_s2 (v1 : (List Int × Int × Int) × (List Int × List Int) × Int) : Option (((List Int × Int × Int) × (List Int × List Int) × Int) ⊕ (((List Int × Int × Int) × List Int × List Int) ⊕ ((List Int × Int × Int) × List Int × List Int))) :=
 cond (decide (v1.2.2 < (6 : Int)))
 ((s_l2Draw (v1.1.1, (v1.1.2.1, v1.1.2.2)) (2 : Int) (6 : Int)).bind fun v2 => (s_l2Draw (v2.2.1.1, (v2.2.1.2.1, v2.2.1.2.2)) (2 : Int) (6 : Int)).bind fun v3 => (s_l2All v2.1).bind fun v4 => cond (v4 == (0 : Int))
 (some (.inl ((v3.2.1.1, (v3.2.1.2.1, v3.2.1.2.2)), ((v1.2.1.1, v1.2.1.2), (IntKind.i64.wrap (v1.2.2 + (1 : Int)))))))
 ((s_l2All v3.1).bind fun v5 => cond (v5 == (0 : Int))
 (some (.inl ((v3.2.1.1, (v3.2.1.2.1, v3.2.1.2.2)), ((v1.2.1.1, v1.2.1.2), (IntKind.i64.wrap (v1.2.2 + (1 : Int)))))))
 ((s_l2Prime v2.1).bind fun v6 => (s_l2Prime v3.1).bind fun v7 => (s_l7Cross v6 v7).bind fun v8 => cond (decide (v8 < (0 : Int)))
 (some (.inr (.inr ((v3.2.1.1, (v3.2.1.2.1, v3.2.1.2.2)), (v7, v6)))))
 ((s_IsCone (v6, v7)).bind fun v9 => cond v9
 (some (.inr (.inr ((v3.2.1.1, (v3.2.1.2.1, v3.2.1.2.2)), (v6, v7)))))
 (some (.inl ((v3.2.1.1, (v3.2.1.2.1, v3.2.1.2.2)), ((v1.2.1.1, v1.2.1.2), (IntKind.i64.wrap (v1.2.2 + (1 : Int)))))))))))
 (some (.inr (.inl ((v1.1.1, (v1.1.2.1, v1.1.2.2)), (v1.2.1.1, v1.2.1.2)))))
noncomputable def s_l9Draw (x0 : (List Int) × Int × Int) : Option ((List Int × List Int) × ((List Int) × Int × Int) × Unit) :=
(iter (s_l9Draw_s2) ((x0.1, (x0.2.1, x0.2.2)), ((([] : List Int), ([] : List Int)), (0 : Int)))).bind fun v10 => match v10 with
 | .inl v11 => (some ((([(1 : Int), (0 : Int)] : List Int), ([(2 : Int), (5 : Int)] : List Int)), ((v11.1.1, (v11.1.2.1, v11.1.2.2)), ())))
 | .inr v12 => (some ((v12.2.1, v12.2.2), ((v12.1.1, (v12.1.2.1, v12.1.2.2)), ())))
noncomputable def e_s_l9Draw : CallE := ⟨65, [.cur 64], [.a [(.o true 3 (.int .i64)), (.o true 3 (.int .i64))]], fun x => s_l9Draw x⟩
noncomputable def c_s_l9Draw : Ctx := ⟨Try.prog, TT, [e_s_l2Draw, e_s_l2All, e_s_l2Prime, e_s_l7Cross, e_s_IsCone], [⟨2, [(0, .b 64 [(.d false (.list (.int .u8))), (.d false (.int .i64)), (.d false (.int .i64))]), (2, .b 26 [(.o true 3 (.int .i64)), (.o true 3 (.int .i64))]), (3, .l (.d false (.int .i64)))], some (0, [(0, .b 64 [(.d false (.list (.int .u8))), (.d false (.int .i64)), (.d false (.int .i64))]), (2, .b 26 [(.o true 3 (.int .i64)), (.o true 3 (.int .i64))])]), some [(0, .b 64 [(.d false (.list (.int .u8))), (.d false (.int .i64)), (.d false (.int .i64))]), (2, .b 26 [(.o true 3 (.int .i64)), (.o true 3 (.int .i64))])], false⟩], [], [], [], []⟩
theorem k_s_l9Draw (x : PMs.den e_s_l9Draw.ps) : funK c_s_l9Draw Try.f65 e_s_l9Draw.ps e_s_l9Draw.rs x = e_s_l9Draw.F x := by kernel_rfl
theorem o_s_l9Draw : FnOk Try.prog e_s_l9Draw.f ∧ Ctr Try.prog e_s_l9Draw := mkCtr (C := c_s_l9Draw) m_ (⟨o_s_l2Draw, o_s_l2All, o_s_l2Prime, o_s_l7Cross, o_s_IsCone, trivial⟩) Try.func65 (by kernel_rfl) k_s_l9Draw
/-! loop.example/g00959/spec.l1Once -/
noncomputable def s_l1Once (x0 : (List Int) × Int × Int) (x1 : Int) : Option ((Bool) × ((List Int) × Int × Int) × Unit) :=
(s_l1Below (x0.1, (x0.2.1, x0.2.2)) x1).bind fun v1 => some ((v1.1 == (0 : Int)), ((v1.2.1.1, (v1.2.1.2.1, v1.2.1.2.2)), ()))
noncomputable def e_s_l1Once : CallE := ⟨68, [.cur 64, .d false (.int .i64)], [.l (.d false .bool)], fun x => s_l1Once x.1 x.2⟩
noncomputable def c_s_l1Once : Ctx := ⟨Try.prog, TT, [e_s_l1Below], [], [], [], [], []⟩
theorem k_s_l1Once (x : PMs.den e_s_l1Once.ps) : funK c_s_l1Once Try.f68 e_s_l1Once.ps e_s_l1Once.rs x = e_s_l1Once.F x := by kernel_rfl
theorem o_s_l1Once : FnOk Try.prog e_s_l1Once.f ∧ Ctr Try.prog e_s_l1Once := mkCtr (C := c_s_l1Once) m_ (⟨o_s_l1Below, trivial⟩) Try.func68 (by kernel_rfl) k_s_l1Once
/-! loop.example/g00959/spec.l1Bit -/
noncomputable def s_l1Bit (x0 : Bool) : Option (Int) :=
 cond x0
 (some (1 : Int))
 (some (0 : Int))
noncomputable def e_s_l1Bit : CallE := ⟨52, [.d false .bool], [.l (.d false (.int .i64))], fun x => s_l1Bit x⟩
noncomputable def c_s_l1Bit : Ctx := ⟨Try.prog, TT, [], [], [], [], [], []⟩
theorem k_s_l1Bit (x : PMs.den e_s_l1Bit.ps) : funK c_s_l1Bit Try.f52 e_s_l1Bit.ps e_s_l1Bit.rs x = e_s_l1Bit.F x := by kernel_rfl
theorem o_s_l1Bit : FnOk Try.prog e_s_l1Bit.f ∧ Ctr Try.prog e_s_l1Bit := mkCtr (C := c_s_l1Bit) m_ (trivial) Try.func52 (by kernel_rfl) k_s_l1Bit
/-! loop.example/g00959/spec.l1PickInt -/
noncomputable def s_l1PickInt (x0 : (List Int) × Int × Int) (x1 : List Int) : Option ((Int) × ((List Int) × Int × Int) × Unit) :=
(s_l1Below (x0.1, (x0.2.1, x0.2.2)) (x1.length : Int)).bind fun v1 => (idx x1 v1.1).bind fun v2 => some (v2, ((v1.2.1.1, (v1.2.1.2.1, v1.2.1.2.2)), ()))
noncomputable def e_s_l1PickInt : CallE := ⟨69, [.cur 64, .d false (.list (.int .i64))], [.l (.d false (.int .i64))], fun x => s_l1PickInt x.1 x.2⟩
noncomputable def c_s_l1PickInt : Ctx := ⟨Try.prog, TT, [e_s_l1Below], [], [], [], [], []⟩
theorem k_s_l1PickInt (x : PMs.den e_s_l1PickInt.ps) : funK c_s_l1PickInt Try.f69 e_s_l1PickInt.ps e_s_l1PickInt.rs x = e_s_l1PickInt.F x := by kernel_rfl
theorem o_s_l1PickInt : FnOk Try.prog e_s_l1PickInt.f ∧ Ctr Try.prog e_s_l1PickInt := mkCtr (C := c_s_l1PickInt) m_ (⟨o_s_l1Below, trivial⟩) Try.func69 (by kernel_rfl) k_s_l1PickInt
/-! loop.example/g00959/spec.l9Bent -/
noncomputable def s_l9Bent (x0 : (List Int) × Int × Int) : Option ((List Int × List Int) × ((List Int) × Int × Int) × Unit) :=
(s_l9Draw (x0.1, (x0.2.1, x0.2.2))).bind fun v1 => (s_l1Below (v1.2.1.1, (v1.2.1.2.1, v1.2.1.2.2)) (12 : Int)).bind fun v2 => cond (v2.1 == (0 : Int))
 ((s_l1Once (v2.2.1.1, (v2.2.1.2.1, v2.2.1.2.2)) (3 : Int)).bind fun v3 => (s_l1Bit v3.1).bind fun v4 => (s_l2Draw (v3.2.1.1, (v3.2.1.2.1, v3.2.1.2.2)) (IntKind.i64.wrap ((2 : Int) + v4)) (4 : Int)).bind fun v5 => some ((v5.1, v1.1.2), ((v5.2.1.1, (v5.2.1.2.1, v5.2.1.2.2)), ())))
 (cond (v2.1 == (1 : Int))
 (some ((v1.1.2, v1.1.1), ((v2.2.1.1, (v2.2.1.2.1, v2.2.1.2.2)), ())))
 (cond (v2.1 == (2 : Int))
 ((s_l1PickInt (v2.2.1.1, (v2.2.1.2.1, v2.2.1.2.2)) ([(30 : Int), (31 : Int), (-31 : Int)] : List Int)).bind fun v6 => some ((v1.1.1, ([v6.1, (1 : Int)] : List Int)), ((v6.2.1.1, (v6.2.1.2.1, v6.2.1.2.2)), ())))
 (some ((v1.1.1, v1.1.2), ((v2.2.1.1, (v2.2.1.2.1, v2.2.1.2.2)), ())))))
noncomputable def e_s_l9Bent : CallE := ⟨43, [.cur 64], [.a [(.o true 3 (.int .i64)), (.o true 3 (.int .i64))]], fun x => s_l9Bent x⟩
noncomputable def c_s_l9Bent : Ctx := ⟨Try.prog, TT, [e_s_l9Draw, e_s_l1Below, e_s_l1Once, e_s_l1Bit, e_s_l2Draw, e_s_l1PickInt], [], [], [], [], []⟩
theorem k_s_l9Bent (x : PMs.den e_s_l9Bent.ps) : funK c_s_l9Bent Try.f43 e_s_l9Bent.ps e_s_l9Bent.rs x = e_s_l9Bent.F x := by kernel_rfl
theorem o_s_l9Bent : FnOk Try.prog e_s_l9Bent.f ∧ Ctr Try.prog e_s_l9Bent := mkCtr (C := c_s_l9Bent) m_ (⟨o_s_l9Draw, o_s_l1Below, o_s_l1Once, o_s_l1Bit, o_s_l2Draw, o_s_l1PickInt, trivial⟩) Try.func43 (by kernel_rfl) k_s_l9Bent
/-! loop.example/g00959/spec.DrawSailCorners -/
noncomputable def s_DrawSailCorners_s44_3 (x0 : List Int) (v1 : Int × Int) : Option ((Int × Int) ⊕ (Int)) :=
 cond (decide (v1.2 < (x0.length : Int)))
 (cond (decide (v1.2 < (4000 : Int)))
 ((idx x0 v1.2).bind fun v2 => some (.inl ((andI .i64 (IntKind.i64.wrap ((IntKind.i64.wrap ((IntKind.i64.wrap (v1.1 * (131 : Int))) + (IntKind.i64.wrap v2))) + (7 : Int))) (1073741823 : Int)), (IntKind.i64.wrap (v1.2 + (1 : Int))))))
 (some (.inr v1.1)))
 (some (.inr v1.1))
noncomputable def s_DrawSailCorners (x0 : List Int) : Option (List Int × List Int) :=
(iter (s_DrawSailCorners_s44_3 x0) ((IntKind.i64.wrap ((26583 : Int) + (x0.length : Int))), (0 : Int))).bind fun v3 => (s_l9Bent (x0, ((0 : Int), v3))).bind fun v4 => some (v4.1.1, v4.1.2)
noncomputable def e_s_DrawSailCorners : CallE := ⟨6, [.d false (.list (.int .u8))], [.a [(.o true 3 (.int .i64)), (.o true 3 (.int .i64))]], fun x => s_DrawSailCorners x⟩
noncomputable def c_s_DrawSailCorners_44 : Ctx := ⟨Try.prog, TT, [], [⟨3, [(3, .l (.d false (.int .i64))), (4, .l (.d false (.int .i64)))], some (0, [(3, .l (.d false (.int .i64)))]), none, true⟩], [], [], [], []⟩
noncomputable def n_s_DrawSailCorners_44 : InE := ⟨44, false, inlK c_s_DrawSailCorners_44 Try.f44⟩
theorem q_s_DrawSailCorners_44 : FnOk Try.prog n_s_DrawSailCorners_44.f ∧ InOk Try.prog n_s_DrawSailCorners_44 := mkInl (C := c_s_DrawSailCorners_44) m_ (trivial) Try.func44 (by kernel_rfl)
noncomputable def c_s_DrawSailCorners : Ctx := ⟨Try.prog, TT, [e_s_l9Bent], [], [], [n_s_DrawSailCorners_44], [], []⟩
theorem k_s_DrawSailCorners (x : PMs.den e_s_DrawSailCorners.ps) : funK c_s_DrawSailCorners Try.f6 e_s_DrawSailCorners.ps e_s_DrawSailCorners.rs x = e_s_DrawSailCorners.F x := by kernel_rfl
theorem o_s_DrawSailCorners : FnOk Try.prog e_s_DrawSailCorners.f ∧ Ctr Try.prog e_s_DrawSailCorners := mkCtr (C := c_s_DrawSailCorners) m_ (⟨o_s_l9Bent, trivial⟩) Try.func6 (by kernel_rfl) k_s_DrawSailCorners ⟨q_s_DrawSailCorners_44, trivial⟩
/-! loop.example/g00959/impl.within -/
noncomputable def i_within (x0 : Int) (x1 : Int) (x2 : Int) : Option (Bool) :=
 cond (decide (x0 ≥ x1))
 (some (decide (x0 ≤ x2)))
 (some false)
noncomputable def e_i_within : CallE := ⟨83, [.d false (.int .i64), .d false (.int .i64), .d false (.int .i64)], [.l (.d false .bool)], fun x => i_within x.1 x.2.1 x.2.2⟩
noncomputable def c_i_within : Ctx := ⟨Try.prog, TT, [], [], [], [], [], []⟩
theorem k_i_within (x : PMs.den e_i_within.ps) : funK c_i_within Try.f83 e_i_within.ps e_i_within.rs x = e_i_within.F x := by kernel_rfl
theorem o_i_within : FnOk Try.prog e_i_within.f ∧ Ctr Try.prog e_i_within := mkCtr (C := c_i_within) m_ (trivial) Try.func83 (by kernel_rfl) k_i_within
/-! loop.example/g00959/impl.allWithin -/
noncomputable def i_allWithin_s2 (x0 : List Int) (x1 : Int) (x2 : Int) (v1 : Int) : Option ((Int) ⊕ ((Unit) ⊕ (Bool))) :=
 cond (decide (v1 < (x0.length : Int)))
 ((idx x0 v1).bind fun v2 => (i_within v2 x1 x2).bind fun v3 => cond (!v3)
 (some (.inr (.inr false)))
 (some (.inl (IntKind.i64.wrap (v1 + (1 : Int))))))
 (some (.inr (.inl ())))
noncomputable def i_allWithin (x0 : List Int) (x1 : Int) (x2 : Int) : Option (Bool) :=
(iter (i_allWithin_s2 x0 x1 x2) (0 : Int)).bind fun v4 => match v4 with
 | .inl v5 => (some true)
 | .inr v6 => (some v6)
noncomputable def e_i_allWithin : CallE := ⟨76, [.d false (.list (.int .i64)), .d false (.int .i64), .d false (.int .i64)], [.l (.d false .bool)], fun x => i_allWithin x.1 x.2.1 x.2.2⟩
noncomputable def c_i_allWithin : Ctx := ⟨Try.prog, TT, [e_i_within], [⟨2, [(11, .l (.d false (.int .i64)))], some (0, []), some [(6, .l (.d false .bool))], false⟩], [], [], [], []⟩
theorem k_i_allWithin (x : PMs.den e_i_allWithin.ps) : funK c_i_allWithin Try.f76 e_i_allWithin.ps e_i_allWithin.rs x = e_i_allWithin.F x := by kernel_rfl
theorem o_i_allWithin : FnOk Try.prog e_i_allWithin.f ∧ Ctr Try.prog e_i_allWithin := mkCtr (C := c_i_allWithin) m_ (⟨o_i_within, trivial⟩) Try.func76 (by kernel_rfl) k_i_allWithin
/-! loop.example/g00959/impl.isPoint -/
noncomputable def i_isPoint (x0 : List Int) (x1 : Int) : Option (Bool) :=
 cond ((x0.length : Int) == (2 : Int))
 ((i_allWithin x0 (IntKind.i64.wrap (0 - x1)) x1).bind fun v1 => some v1)
 (some false)
noncomputable def e_i_isPoint : CallE := ⟨61, [.d false (.list (.int .i64)), .d false (.int .i64)], [.l (.d false .bool)], fun x => i_isPoint x.1 x.2⟩
noncomputable def c_i_isPoint : Ctx := ⟨Try.prog, TT, [e_i_allWithin], [], [], [], [], []⟩
theorem k_i_isPoint (x : PMs.den e_i_isPoint.ps) : funK c_i_isPoint Try.f61 e_i_isPoint.ps e_i_isPoint.rs x = e_i_isPoint.F x := by kernel_rfl
theorem o_i_isPoint : FnOk Try.prog e_i_isPoint.f ∧ Ctr Try.prog e_i_isPoint := mkCtr (C := c_i_isPoint) m_ (⟨o_i_allWithin, trivial⟩) Try.func61 (by kernel_rfl) k_i_isPoint
/-! loop.example/g00959/impl.magnitude -/
noncomputable def i_magnitude (x0 : Int) : Option (Int) :=
 some (if (IntKind.i64.wrap (0 - x0)) > x0 then (IntKind.i64.wrap (0 - x0)) else x0)
noncomputable def e_i_magnitude : CallE := ⟨84, [.d false (.int .i64)], [.l (.d false (.int .i64))], fun x => i_magnitude x⟩
noncomputable def c_i_magnitude : Ctx := ⟨Try.prog, TT, [], [], [], [], [], []⟩
theorem k_i_magnitude (x : PMs.den e_i_magnitude.ps) : funK c_i_magnitude Try.f84 e_i_magnitude.ps e_i_magnitude.rs x = e_i_magnitude.F x := by kernel_rfl
theorem o_i_magnitude : FnOk Try.prog e_i_magnitude.f ∧ Ctr Try.prog e_i_magnitude := mkCtr (C := c_i_magnitude) m_ (trivial) Try.func84 (by kernel_rfl) k_i_magnitude
/-! loop.example/g00959/impl.divisor -/
noncomputable def i_divisor_s1 (v1 : Int × Int) : Option ((Int × Int) ⊕ (Int)) :=
 cond (v1.2 != (0 : Int))
 ((remI .i64 v1.1 v1.2).bind fun v2 => some (.inl (v1.2, v2)))
 (some (.inr v1.1))
noncomputable def i_divisor (x0 : Int) (x1 : Int) : Option (Int) :=
(iter (i_divisor_s1) (x0, x1)).bind fun v3 => (i_magnitude v3).bind fun v4 => some v4
noncomputable def e_i_divisor : CallE := ⟨77, [.d false (.int .i64), .d false (.int .i64)], [.l (.d false (.int .i64))], fun x => i_divisor x.1 x.2⟩
noncomputable def c_i_divisor : Ctx := ⟨Try.prog, TT, [e_i_magnitude], [⟨1, [(0, .l (.d false (.int .i64))), (1, .l (.d false (.int .i64)))], some (0, [(0, .l (.d false (.int .i64)))]), none, false⟩], [], [], [], []⟩
theorem k_i_divisor (x : PMs.den e_i_divisor.ps) : funK c_i_divisor Try.f77 e_i_divisor.ps e_i_divisor.rs x = e_i_divisor.F x := by kernel_rfl
theorem o_i_divisor : FnOk Try.prog e_i_divisor.f ∧ Ctr Try.prog e_i_divisor := mkCtr (C := c_i_divisor) m_ (⟨o_i_magnitude, trivial⟩) Try.func77 (by kernel_rfl) k_i_divisor
/-! loop.example/g00959/impl.gcdAll -/
noncomputable def i_gcdAll_s3 (x0 : List Int) (v1 : Int × Int) : Option ((Int × Int) ⊕ (Int)) :=
 cond (decide (v1.2 < (x0.length : Int)))
 ((idx x0 v1.2).bind fun v2 => (i_divisor v1.1 v2).bind fun v3 => some (.inl (v3, (IntKind.i64.wrap (v1.2 + (1 : Int))))))
 (some (.inr v1.1))
noncomputable def i_gcdAll (x0 : List Int) : Option (Int) :=
(iter (i_gcdAll_s3 x0) ((0 : Int), (0 : Int))).bind fun v4 => some v4
noncomputable def e_i_gcdAll : CallE := ⟨62, [.d false (.list (.int .i64))], [.l (.d false (.int .i64))], fun x => i_gcdAll x⟩
noncomputable def c_i_gcdAll : Ctx := ⟨Try.prog, TT, [e_i_divisor], [⟨3, [(3, .l (.d false (.int .i64))), (8, .l (.d false (.int .i64)))], some (0, [(3, .l (.d false (.int .i64)))]), none, false⟩], [], [], [], []⟩
theorem k_i_gcdAll (x : PMs.den e_i_gcdAll.ps) : funK c_i_gcdAll Try.f62 e_i_gcdAll.ps e_i_gcdAll.rs x = e_i_gcdAll.F x := by kernel_rfl
theorem o_i_gcdAll : FnOk Try.prog e_i_gcdAll.f ∧ Ctr Try.prog e_i_gcdAll := mkCtr (C := c_i_gcdAll) m_ (⟨o_i_divisor, trivial⟩) Try.func62 (by kernel_rfl) k_i_gcdAll
/-! loop.example/g00959/impl.cross -/
noncomputable def i_cross (x0 : List Int) (x1 : List Int) : Option (Int) :=
(idx x0 (0 : Int)).bind fun v1 => (idx x1 (1 : Int)).bind fun v2 => (idx x0 (1 : Int)).bind fun v3 => (idx x1 (0 : Int)).bind fun v4 => some (IntKind.i64.wrap ((IntKind.i64.wrap (v1 * v2)) - (IntKind.i64.wrap (v3 * v4))))
noncomputable def e_i_cross : CallE := ⟨48, [.d false (.list (.int .i64)), .d false (.list (.int .i64))], [.l (.d false (.int .i64))], fun x => i_cross x.1 x.2⟩
noncomputable def c_i_cross : Ctx := ⟨Try.prog, TT, [], [], [], [], [], []⟩
theorem k_i_cross (x : PMs.den e_i_cross.ps) : funK c_i_cross Try.f48 e_i_cross.ps e_i_cross.rs x = e_i_cross.F x := by kernel_rfl
theorem o_i_cross : FnOk Try.prog e_i_cross.f ∧ Ctr Try.prog e_i_cross := mkCtr (C := c_i_cross) m_ (trivial) Try.func48 (by kernel_rfl) k_i_cross
/-! loop.example/g00959/impl.IsCone -/
noncomputable def i_IsCone (x0 : (List Int) × (List Int)) : Option (Bool) :=
(i_isPoint x0.1 (30 : Int)).bind fun v1 => cond v1
 ((i_isPoint x0.2 (30 : Int)).bind fun v2 => cond v2
 ((i_gcdAll x0.1).bind fun v3 => cond (v3 == (1 : Int))
 ((i_gcdAll x0.2).bind fun v4 => cond (v4 == (1 : Int))
 ((i_cross x0.1 x0.2).bind fun v5 => some (decide (v5 > (0 : Int))))
 (some false))
 (some false))
 (some false))
 (some false)
noncomputable def e_i_IsCone : CallE := ⟨38, [.d false (.prod (.list (.int .i64)) (.list (.int .i64)))], [.l (.d false .bool)], fun x => i_IsCone x⟩
noncomputable def c_i_IsCone : Ctx := ⟨Try.prog, TT, [e_i_isPoint, e_i_gcdAll, e_i_cross], [], [], [], [], []⟩
theorem k_i_IsCone (x : PMs.den e_i_IsCone.ps) : funK c_i_IsCone Try.f38 e_i_IsCone.ps e_i_IsCone.rs x = e_i_IsCone.F x := by kernel_rfl
theorem o_i_IsCone : FnOk Try.prog e_i_IsCone.f ∧ Ctr Try.prog e_i_IsCone := mkCtr (C := c_i_IsCone) m_ (⟨o_i_isPoint, o_i_gcdAll, o_i_cross, trivial⟩) Try.func38 (by kernel_rfl) k_i_IsCone
/-! loop.example/g00959/impl.copyInts -/
noncomputable def i_copyInts (x0 : List Int) : Option (List Int) :=
(appD 8 ([] : List Int) x0).bind fun v1 => some v1
noncomputable def e_i_copyInts : CallE := ⟨60, [.d false (.list (.int .i64))], [.l (.o true 3 (.int .i64))], fun x => i_copyInts x⟩
noncomputable def c_i_copyInts : Ctx := ⟨Try.prog, TT, [], [], [], [], [], []⟩
theorem k_i_copyInts (x : PMs.den e_i_copyInts.ps) : funK c_i_copyInts Try.f60 e_i_copyInts.ps e_i_copyInts.rs x = e_i_copyInts.F x := by kernel_rfl
theorem o_i_copyInts : FnOk Try.prog e_i_copyInts.f ∧ Ctr Try.prog e_i_copyInts := mkCtr (C := c_i_copyInts) m_ (trivial) Try.func60 (by kernel_rfl) k_i_copyInts
/-! loop.example/g00959/impl.partner -/
noncomputable def i_partner_s3 (v3 : List Int × List Int × Int × Int) : Option ((List Int × List Int × Int × Int) ⊕ (List Int × Int)) :=
 cond (v3.2.2.2 != (0 : Int))
 ((quoI .i64 v3.2.2.1 v3.2.2.2).bind fun v4 => (inIdx v3.1.length (0 : Int)).bind fun _ => (idx v3.1 (((0 : Int)).toNat : Int)).bind fun v5 => (inIdx v3.2.1.length (0 : Int)).bind fun _ => (idx v3.2.1 (((0 : Int)).toNat : Int)).bind fun v6 => (inIdx v3.1.length (1 : Int)).bind fun _ => (idx v3.1 (((1 : Int)).toNat : Int)).bind fun v7 => (inIdx v3.2.1.length (1 : Int)).bind fun _ => (idx v3.2.1 (((1 : Int)).toNat : Int)).bind fun v8 => some (.inl (v3.2.1, (([(IntKind.i64.wrap (v5 - (IntKind.i64.wrap (v4 * v6)))), (IntKind.i64.wrap (v7 - (IntKind.i64.wrap (v4 * v8))))] : List Int), (v3.2.2.2, (IntKind.i64.wrap (v3.2.2.1 - (IntKind.i64.wrap (v4 * v3.2.2.2)))))))))
 (some (.inr (v3.1, v3.2.2.1)))
noncomputable def i_partner (x0 : List Int) : Option (List Int) :=
(idx x0 (0 : Int)).bind fun v1 => (idx x0 (1 : Int)).bind fun v2 => (iter (i_partner_s3) (([(1 : Int), (0 : Int)] : List Int), (([(0 : Int), (1 : Int)] : List Int), (v1, v2)))).bind fun v9 => (inIdx v9.1.length (1 : Int)).bind fun _ => (idx v9.1 (((1 : Int)).toNat : Int)).bind fun v10 => (inIdx v9.1.length (0 : Int)).bind fun _ => (idx v9.1 (((0 : Int)).toNat : Int)).bind fun v11 => some ([(IntKind.i64.wrap ((IntKind.i64.wrap (0 - v10)) * v9.2)), (IntKind.i64.wrap (v11 * v9.2))] : List Int)
noncomputable def e_i_partner : CallE := ⟨49, [.d false (.list (.int .i64))], [.l (.o true 3 (.int .i64))], fun x => i_partner x⟩
noncomputable def c_i_partner : Ctx := ⟨Try.prog, TT, [], [⟨3, [(3, .l (.o true 3 (.int .i64))), (4, .l (.o true 3 (.int .i64))), (5, .l (.d false (.int .i64))), (6, .l (.d false (.int .i64)))], some (0, [(3, .l (.o true 3 (.int .i64))), (5, .l (.d false (.int .i64)))]), none, false⟩], [], [], [], []⟩
theorem k_i_partner (x : PMs.den e_i_partner.ps) : funK c_i_partner Try.f49 e_i_partner.ps e_i_partner.rs x = e_i_partner.F x := by kernel_rfl
theorem o_i_partner : FnOk Try.prog e_i_partner.f ∧ Ctr Try.prog e_i_partner := mkCtr (C := c_i_partner) m_ (trivial) Try.func49 (by kernel_rfl) k_i_partner
/-! loop.example/g00959/impl.down -/
noncomputable def i_down (x0 : Int) (x1 : Int) : Option (Int) :=
(quoI .i64 x0 x1).bind fun v1 => (remI .i64 x0 x1).bind fun v2 => cond (decide (v2 < (0 : Int)))
 (some (IntKind.i64.wrap (v1 - (1 : Int))))
 (some v1)
noncomputable def e_i_down : CallE := ⟨71, [.d false (.int .i64), .d false (.int .i64)], [.l (.d false (.int .i64))], fun x => i_down x.1 x.2⟩
noncomputable def c_i_down : Ctx := ⟨Try.prog, TT, [], [], [], [], [], []⟩
theorem k_i_down (x : PMs.den e_i_down.ps) : funK c_i_down Try.f71 e_i_down.ps e_i_down.rs x = e_i_down.F x := by kernel_rfl
theorem o_i_down : FnOk Try.prog e_i_down.f ∧ Ctr Try.prog e_i_down := mkCtr (C := c_i_down) m_ (trivial) Try.func71 (by kernel_rfl) k_i_down
/-! loop.example/g00959/impl.less -/
noncomputable def i_less_s1 (x0 : List Int) (x1 : Int) (x2 : List Int) (v1 : List Int × Int) : Option ((List Int × Int) ⊕ (List Int)) :=
 cond (decide (v1.2 < (x0.length : Int)))
 ((inIdx v1.1.length v1.2).bind fun _ => (idx v1.1 ((v1.2).toNat : Int)).bind fun v2 => (idx x2 v1.2).bind fun v3 => (inIdx v1.1.length v1.2).bind fun _ => (inIdx v1.1.length ((v1.2).toNat : Int)).bind fun _ => some (.inl ((v1.1.set ((v1.2).toNat) (IntKind.i64.wrap (v2 - (IntKind.i64.wrap (x1 * v3))))), (IntKind.i64.wrap (v1.2 + (1 : Int))))))
 (some (.inr v1.1))
noncomputable def i_less (x0 : List Int) (x1 : Int) (x2 : List Int) : Option ((Unit) × (List Int) × Unit) :=
(iter (i_less_s1 x0 x1 x2) (x0, (0 : Int))).bind fun v4 => some ((), (v4, ()))
noncomputable def e_i_less : CallE := ⟨70, [.io true 3 (.int .i64), .d false (.int .i64), .d false (.list (.int .i64))], [], fun x => i_less x.1 x.2.1 x.2.2⟩
noncomputable def c_i_less : Ctx := ⟨Try.prog, TT, [], [⟨1, [(0, .l (.o true 3 (.int .i64))), (9, .l (.d false (.int .i64)))], some (0, [(0, .l (.o true 3 (.int .i64)))]), none, false⟩], [], [], [], []⟩
theorem k_i_less (x : PMs.den e_i_less.ps) : funK c_i_less Try.f70 e_i_less.ps e_i_less.rs x = e_i_less.F x := by kernel_rfl
theorem o_i_less : FnOk Try.prog e_i_less.f ∧ Ctr Try.prog e_i_less := mkCtr (C := c_i_less) m_ (trivial) Try.func70 (by kernel_rfl) k_i_less
/-! loop.example/g00959/impl.SplitCone -/
noncomputable def i_SplitCone_s4 (x0 : (List Int) × (List Int)) (v3 : List (List Int)) : Option ((List (List Int)) ⊕ (List (List Int))) :=
(inIdx v3.length (IntKind.i64.wrap ((v3.length : Int) - (1 : Int)))).bind fun _ => (idx v3 (((IntKind.i64.wrap ((v3.length : Int) - (1 : Int)))).toNat : Int)).bind fun v4 => (i_cross v4 x0.2).bind fun v5 => cond (v5 == (0 : Int))
 (some (.inr v3))
 ((i_partner v4).bind fun v6 => (i_cross v6 x0.2).bind fun v7 => (i_down v7 v5).bind fun v8 => (i_less v6 v8 v4).bind fun v9 => (appD 24 v3 ([v9.2.1] : List (List Int))).bind fun v10 => some (.inl v10))
noncomputable def i_SplitCone (x0 : (List Int) × (List Int)) : Option (List (List Int)) :=
(i_IsCone (x0.1, x0.2)).bind fun v1 => cond (!v1)
 (some ([] : List (List Int)))
 ((i_copyInts x0.1).bind fun v2 => (iter (i_SplitCone_s4 x0) ([v2] : List (List Int))).bind fun v11 => some v11)
noncomputable def e_i_SplitCone : CallE := ⟨45, [.d false (.prod (.list (.int .i64)) (.list (.int .i64)))], [.l (.o true 24 (.list (.int .i64)))], fun x => i_SplitCone x⟩
noncomputable def c_i_SplitCone : Ctx := ⟨Try.prog, TT, [e_i_IsCone, e_i_copyInts, e_i_cross, e_i_partner, e_i_down, e_i_less], [⟨4, [(3, .l (.o true 24 (.list (.int .i64))))], none, some [(2, .l (.o true 24 (.list (.int .i64))))], false⟩], [], [], [], []⟩
theorem k_i_SplitCone (x : PMs.den e_i_SplitCone.ps) : funK c_i_SplitCone Try.f45 e_i_SplitCone.ps e_i_SplitCone.rs x = e_i_SplitCone.F x := by kernel_rfl
theorem o_i_SplitCone : FnOk Try.prog e_i_SplitCone.f ∧ Ctr Try.prog e_i_SplitCone := mkCtr (C := c_i_SplitCone) m_ (⟨o_i_IsCone, o_i_copyInts, o_i_cross, o_i_partner, o_i_down, o_i_less, trivial⟩) Try.func45 (by kernel_rfl) k_i_SplitCone
/-! loop.example/g00959/impl.TurnsOf -/
noncomputable def i_TurnsOf_s4 (v1 : List (List Int)) (v2 : List Int × Int) : Option ((List Int × Int) ⊕ (List Int)) :=
 cond (decide ((IntKind.i64.wrap (v2.2 + (1 : Int))) < (v1.length : Int)))
 ((idx v1 (IntKind.i64.wrap (v2.2 - (1 : Int)))).bind fun v3 => (idx v1 (IntKind.i64.wrap (v2.2 + (1 : Int)))).bind fun v4 => (i_cross v3 v4).bind fun v5 => (appD 8 v2.1 ([v5] : List Int)).bind fun v6 => some (.inl (v6, (IntKind.i64.wrap (v2.2 + (1 : Int))))))
 (some (.inr v2.1))
noncomputable def i_TurnsOf (x0 : (List Int) × (List Int)) : Option (List Int) :=
(i_SplitCone (x0.1, x0.2)).bind fun v1 => (iter (i_TurnsOf_s4 v1) (([] : List Int), (1 : Int))).bind fun v7 => some v7
noncomputable def e_i_TurnsOf : CallE := ⟨50, [.d false (.prod (.list (.int .i64)) (.list (.int .i64)))], [.l (.o true 3 (.int .i64))], fun x => i_TurnsOf x⟩
noncomputable def c_i_TurnsOf : Ctx := ⟨Try.prog, TT, [e_i_SplitCone, e_i_cross], [⟨4, [(4, .l (.o true 3 (.int .i64))), (5, .l (.d false (.int .i64)))], some (0, [(4, .l (.o true 3 (.int .i64)))]), none, false⟩], [], [], [], []⟩
theorem k_i_TurnsOf (x : PMs.den e_i_TurnsOf.ps) : funK c_i_TurnsOf Try.f50 e_i_TurnsOf.ps e_i_TurnsOf.rs x = e_i_TurnsOf.F x := by kernel_rfl
theorem o_i_TurnsOf : FnOk Try.prog e_i_TurnsOf.f ∧ Ctr Try.prog e_i_TurnsOf := mkCtr (C := c_i_TurnsOf) m_ (⟨o_i_SplitCone, o_i_cross, trivial⟩) Try.func50 (by kernel_rfl) k_i_TurnsOf
/-! loop.example/g00959/impl.corners -/
noncomputable def i_corners_s6 (v2 : List Int) (v3 : List Int × Int) : Option ((List Int × Int) ⊕ (List Int)) :=
 cond (decide (v3.2 < (v2.length : Int)))
 ((idx v2 v3.2).bind fun v4 => cond (decide (v4 > (2 : Int)))
 ((appD 8 v3.1 ([(IntKind.i64.wrap (v3.2 + (1 : Int)))] : List Int)).bind fun v5 => some (.inl (v5, (IntKind.i64.wrap (v3.2 + (1 : Int))))))
 (some (.inl (v3.1, (IntKind.i64.wrap (v3.2 + (1 : Int)))))))
 (some (.inr v3.1))
noncomputable def i_corners (x0 : (List Int) × (List Int)) : Option (List Int) :=
(i_IsCone (x0.1, x0.2)).bind fun v1 => cond (!v1)
 (some ([] : List Int))
 ((i_TurnsOf (x0.1, x0.2)).bind fun v2 => (iter (i_corners_s6 v2) (([(0 : Int)] : List Int), (0 : Int))).bind fun v6 => (appD 8 v6 ([(IntKind.i64.wrap ((v2.length : Int) + (1 : Int)))] : List Int)).bind fun v7 => some v7)
noncomputable def e_i_corners : CallE := ⟨46, [.d false (.prod (.list (.int .i64)) (.list (.int .i64)))], [.l (.o true 3 (.int .i64))], fun x => i_corners x⟩
noncomputable def c_i_corners : Ctx := ⟨Try.prog, TT, [e_i_IsCone, e_i_TurnsOf], [⟨6, [(4, .l (.o true 3 (.int .i64))), (15, .l (.d false (.int .i64)))], some (0, [(4, .l (.o true 3 (.int .i64)))]), none, false⟩], [], [], [], []⟩
theorem k_i_corners (x : PMs.den e_i_corners.ps) : funK c_i_corners Try.f46 e_i_corners.ps e_i_corners.rs x = e_i_corners.F x := by kernel_rfl
theorem o_i_corners : FnOk Try.prog e_i_corners.f ∧ Ctr Try.prog e_i_corners := mkCtr (C := c_i_corners) m_ (⟨o_i_IsCone, o_i_TurnsOf, trivial⟩) Try.func46 (by kernel_rfl) k_i_corners
/-! loop.example/g00959/impl.SailCorners -/
noncomputable def i_SailCorners_s4 (v1 : List (List Int)) (v2 : List Int) (s : Int × List Nat) : Option ((Int × List Nat) ⊕ List Nat) :=
 cond (decide (s.1 < (v2.length : Int))) ((idx v2 s.1).bind fun v4 => (inIdx v1.length v4).bind fun _ => if v4.toNat < v1.length then (appD 24 s.2 [v4.toNat]).bind fun v6 => some (.inl (IntKind.i64.wrap (s.1 + 1), v6)) else none) (some (.inr s.2))
noncomputable def i_SailCorners (x0 : (List Int) × (List Int)) : Option (List (List Int)) :=
(i_SplitCone (x0.1, x0.2)).bind fun v1 => (i_corners (x0.1, x0.2)).bind fun v2 => (iter (i_SailCorners_s4 v1 v2) (0, [])).bind fun v7 => if v7.Nodup then some (pickU v1 v7) else none
noncomputable def e_i_SailCorners : CallE := ⟨7, [.d false (.prod (.list (.int .i64)) (.list (.int .i64)))], [.l (.o true 24 (.list (.int .i64)))], fun x => i_SailCorners x⟩
noncomputable def c_i_SailCorners : Ctx := ⟨Try.prog, TT, [e_i_SplitCone, e_i_corners], [], [], [], [], []⟩
theorem k_i_SailCorners (x : PMs.den e_i_SailCorners.ps) : funU c_i_SailCorners [⟨4, 0, 12⟩] 24 4 3 4 Try.f7 e_i_SailCorners.ps x = e_i_SailCorners.F x := by kernel_rfl
theorem o_i_SailCorners : FnOk Try.prog e_i_SailCorners.f ∧ Ctr Try.prog e_i_SailCorners := mkCtrU (C := c_i_SailCorners) 2 m_ (⟨o_i_SplitCone, o_i_corners, trivial⟩) Try.func7 (by kernel_rfl) (by kernel_rfl) rfl k_i_SailCorners
/-! loop.example/g00959/impl.SailSteps -/
noncomputable def i_SailSteps_s4 (v1 : List Int) (v2 : List Int × Int) : Option ((List Int × Int) ⊕ (List Int)) :=
 cond (decide (v2.2 < (v1.length : Int)))
 ((idx v1 v2.2).bind fun v3 => (idx v1 (IntKind.i64.wrap (v2.2 - (1 : Int)))).bind fun v4 => (appD 8 v2.1 ([(IntKind.i64.wrap (v3 - v4))] : List Int)).bind fun v5 => some (.inl (v5, (IntKind.i64.wrap (v2.2 + (1 : Int))))))
 (some (.inr v2.1))
noncomputable def i_SailSteps (x0 : (List Int) × (List Int)) : Option (List Int) :=
(i_corners (x0.1, x0.2)).bind fun v1 => (iter (i_SailSteps_s4 v1) (([] : List Int), (1 : Int))).bind fun v6 => some v6
noncomputable def e_i_SailSteps : CallE := ⟨8, [.d false (.prod (.list (.int .i64)) (.list (.int .i64)))], [.l (.o true 3 (.int .i64))], fun x => i_SailSteps x⟩
noncomputable def c_i_SailSteps : Ctx := ⟨Try.prog, TT, [e_i_corners], [⟨4, [(4, .l (.o true 3 (.int .i64))), (5, .l (.d false (.int .i64)))], some (0, [(4, .l (.o true 3 (.int .i64)))]), none, false⟩], [], [], [], []⟩
theorem k_i_SailSteps (x : PMs.den e_i_SailSteps.ps) : funK c_i_SailSteps Try.f8 e_i_SailSteps.ps e_i_SailSteps.rs x = e_i_SailSteps.F x := by kernel_rfl
theorem o_i_SailSteps : FnOk Try.prog e_i_SailSteps.f ∧ Ctr Try.prog e_i_SailSteps := mkCtr (C := c_i_SailSteps) m_ (⟨o_i_corners, trivial⟩) Try.func8 (by kernel_rfl) k_i_SailSteps
/-! loop.example/g00959/impl.ConeIndex -/
noncomputable def i_ConeIndex (x0 : (List Int) × (List Int)) : Option (Int) :=
(i_IsCone (x0.1, x0.2)).bind fun v1 => cond (!v1)
 (some (0 : Int))
 ((i_cross x0.1 x0.2).bind fun v2 => some v2)
noncomputable def e_i_ConeIndex : CallE := ⟨47, [.d false (.prod (.list (.int .i64)) (.list (.int .i64)))], [.l (.d false (.int .i64))], fun x => i_ConeIndex x⟩
noncomputable def c_i_ConeIndex : Ctx := ⟨Try.prog, TT, [e_i_IsCone, e_i_cross], [], [], [], [], []⟩
theorem k_i_ConeIndex (x : PMs.den e_i_ConeIndex.ps) : funK c_i_ConeIndex Try.f47 e_i_ConeIndex.ps e_i_ConeIndex.rs x = e_i_ConeIndex.F x := by kernel_rfl
theorem o_i_ConeIndex : FnOk Try.prog e_i_ConeIndex.f ∧ Ctr Try.prog e_i_ConeIndex := mkCtr (C := c_i_ConeIndex) m_ (⟨o_i_IsCone, o_i_cross, trivial⟩) Try.func47 (by kernel_rfl) k_i_ConeIndex
/-! loop.example/g00959/impl.DualTurns -/
noncomputable def i_DualTurns (x0 : (List Int) × (List Int)) : Option (List Int) :=
(i_ConeIndex (x0.1, x0.2)).bind fun v1 => cond (v1 == (0 : Int))
 (some ([] : List Int))
 ((i_partner x0.1).bind fun v2 => (i_cross x0.2 v2).bind fun v3 => (remI .i64 (IntKind.i64.wrap (0 - v3)) v1).bind fun v4 => (remI .i64 (IntKind.i64.wrap (v4 + v1)) v1).bind fun v5 => (i_TurnsOf (([(1 : Int), (0 : Int)] : List Int), ([v5, v1] : List Int))).bind fun v6 => some v6)
noncomputable def e_i_DualTurns : CallE := ⟨9, [.d false (.prod (.list (.int .i64)) (.list (.int .i64)))], [.l (.o true 3 (.int .i64))], fun x => i_DualTurns x⟩
noncomputable def c_i_DualTurns : Ctx := ⟨Try.prog, TT, [e_i_ConeIndex, e_i_partner, e_i_cross, e_i_TurnsOf], [], [], [], [], []⟩
theorem k_i_DualTurns (x : PMs.den e_i_DualTurns.ps) : funK c_i_DualTurns Try.f9 e_i_DualTurns.ps e_i_DualTurns.rs x = e_i_DualTurns.F x := by kernel_rfl
theorem o_i_DualTurns : FnOk Try.prog e_i_DualTurns.f ∧ Ctr Try.prog e_i_DualTurns := mkCtr (C := c_i_DualTurns) m_ (⟨o_i_ConeIndex, o_i_partner, o_i_cross, o_i_TurnsOf, trivial⟩) Try.func9 (by kernel_rfl) k_i_DualTurns
/-! loop.example/g00959/spec.l9Bezout -/
noncomputable def s_l9Bezout_s8 (x0 : List Int) (v1 : Int) (v2 : Int) (v3 : Int) : Option ((Int) ⊕ ((Unit) ⊕ (List Int))) :=
 cond (decide (v3 < (4 : Int)))
 ((idx ([([v2, v1] : List Int), ([v2, (IntKind.i64.wrap (0 - v1))] : List Int), ([v1, v2] : List Int), ([(IntKind.i64.wrap (0 - v1)), v2] : List Int)] : List (List Int)) v3).bind fun v4 => (s_l7Cross x0 v4).bind fun v5 => cond (v5 == (1 : Int))
 ((idx ([([v2, v1] : List Int), ([v2, (IntKind.i64.wrap (0 - v1))] : List Int), ([v1, v2] : List Int), ([(IntKind.i64.wrap (0 - v1)), v2] : List Int)] : List (List Int)) v3).bind fun v6 => some (.inr (.inr v6)))
 (some (.inl (IntKind.i64.wrap (v3 + (1 : Int))))))
 (some (.inr (.inl ())))
noncomputable def s_l9Bezout_s4 (x0 : List Int) (v1 : Int) (v2 : Int) : Option ((Int) ⊕ ((Unit) ⊕ (List Int))) :=
 cond (decide (v2 ≤ v1))
 ((iter (s_l9Bezout_s8 x0 v1 v2) (0 : Int)).bind fun v7 => match v7 with
 | .inl v8 => (some (.inl (IntKind.i64.wrap (v2 + (1 : Int)))))
 | .inr v9 => (some (.inr (.inr v9))))
 (some (.inr (.inl ())))
noncomputable def s_l9Bezout_s3 (x0 : List Int) (v1 : Int) : Option ((Int) ⊕ (List Int)) :=
(iter (s_l9Bezout_s4 x0 v1) (IntKind.i64.wrap (0 - v1))).bind fun v10 => match v10 with
 | .inl v11 => (some (.inl (IntKind.i64.wrap (v1 + (1 : Int)))))
 | .inr v12 => (some (.inr v12))
noncomputable def s_l9Bezout (x0 : List Int) : Option (List Int) :=
(iter (s_l9Bezout_s3 x0) (0 : Int)).bind fun v13 => some v13
noncomputable def e_s_l9Bezout : CallE := ⟨54, [.d false (.list (.int .i64))], [.l (.d false (.list (.int .i64)))], fun x => s_l9Bezout x⟩
noncomputable def c_s_l9Bezout : Ctx := ⟨Try.prog, TT, [e_s_l7Cross], [⟨3, [(3, .l (.d false (.int .i64)))], none, some [(2, .l (.d false (.list (.int .i64))))], false⟩, ⟨4, [(4, .l (.d false (.int .i64)))], some (2, []), some [(2, .l (.d false (.list (.int .i64))))], false⟩, ⟨8, [(6, .l (.d false (.int .i64)))], some (4, []), some [(2, .l (.d false (.list (.int .i64))))], false⟩], [], [], [], []⟩
theorem k_s_l9Bezout (x : PMs.den e_s_l9Bezout.ps) : funK c_s_l9Bezout Try.f54 e_s_l9Bezout.ps e_s_l9Bezout.rs x = e_s_l9Bezout.F x := by kernel_rfl
theorem o_s_l9Bezout : FnOk Try.prog e_s_l9Bezout.f ∧ Ctr Try.prog e_s_l9Bezout := mkCtr (C := c_s_l9Bezout) m_ (⟨o_s_l7Cross, trivial⟩) Try.func54 (by kernel_rfl) k_s_l9Bezout
/-! loop.example/g00959/spec.l3Floor -/
noncomputable def s_l3Floor (x0 : Int) (x1 : Int) : Option (Int) :=
(quoI .i64 x0 x1).bind fun v1 => (remI .i64 x0 x1).bind fun v2 => cond (decide (v2 < (0 : Int)))
 (some (IntKind.i64.wrap (v1 - (1 : Int))))
 (some v1)
noncomputable def e_s_l3Floor : CallE := ⟨55, [.d false (.int .i64), .d false (.int .i64)], [.l (.d false (.int .i64))], fun x => s_l3Floor x.1 x.2⟩
noncomputable def c_s_l3Floor : Ctx := ⟨Try.prog, TT, [], [], [], [], [], []⟩
theorem k_s_l3Floor (x : PMs.den e_s_l3Floor.ps) : funK c_s_l3Floor Try.f55 e_s_l3Floor.ps e_s_l3Floor.rs x = e_s_l3Floor.F x := by kernel_rfl
theorem o_s_l3Floor : FnOk Try.prog e_s_l3Floor.f ∧ Ctr Try.prog e_s_l3Floor := mkCtr (C := c_s_l3Floor) m_ (trivial) Try.func55 (by kernel_rfl) k_s_l3Floor
/-! loop.example/g00959/spec.l2Scale -/
noncomputable def s_l2Scale_s3 (x0 : List Int) (x1 : Int) (v1 : List Int × Int) : Option ((List Int × Int) ⊕ (List Int)) :=
 cond (decide (v1.2 < (x0.length : Int)))
 ((idx x0 v1.2).bind fun v2 => (appD 8 v1.1 ([(IntKind.i64.wrap (v2 * x1))] : List Int)).bind fun v3 => some (.inl (v3, (IntKind.i64.wrap (v1.2 + (1 : Int))))))
 (some (.inr v1.1))
noncomputable def s_l2Scale (x0 : List Int) (x1 : Int) : Option (List Int) :=
(iter (s_l2Scale_s3 x0 x1) (([] : List Int), (0 : Int))).bind fun v4 => some v4
noncomputable def e_s_l2Scale : CallE := ⟨74, [.d false (.list (.int .i64)), .d false (.int .i64)], [.l (.o true 3 (.int .i64))], fun x => s_l2Scale x.1 x.2⟩
noncomputable def c_s_l2Scale : Ctx := ⟨Try.prog, TT, [], [⟨3, [(5, .l (.o true 3 (.int .i64))), (6, .l (.d false (.int .i64)))], some (0, [(5, .l (.o true 3 (.int .i64)))]), none, false⟩], [], [], [], []⟩
theorem k_s_l2Scale (x : PMs.den e_s_l2Scale.ps) : funK c_s_l2Scale Try.f74 e_s_l2Scale.ps e_s_l2Scale.rs x = e_s_l2Scale.F x := by kernel_rfl
theorem o_s_l2Scale : FnOk Try.prog e_s_l2Scale.f ∧ Ctr Try.prog e_s_l2Scale := mkCtr (C := c_s_l2Scale) m_ (trivial) Try.func74 (by kernel_rfl) k_s_l2Scale
/-! loop.example/g00959/spec.l2Less -/
noncomputable def s_l2Less_s3 (x0 : List Int) (x1 : List Int) (v1 : List Int × Int) : Option ((List Int × Int) ⊕ (List Int)) :=
 cond (decide (v1.2 < (x0.length : Int)))
 ((idx x0 v1.2).bind fun v2 => (idx x1 v1.2).bind fun v3 => (appD 8 v1.1 ([(IntKind.i64.wrap (v2 - v3))] : List Int)).bind fun v4 => some (.inl (v4, (IntKind.i64.wrap (v1.2 + (1 : Int))))))
 (some (.inr v1.1))
noncomputable def s_l2Less (x0 : List Int) (x1 : List Int) : Option (List Int) :=
(iter (s_l2Less_s3 x0 x1) (([] : List Int), (0 : Int))).bind fun v5 => some v5
noncomputable def e_s_l2Less : CallE := ⟨79, [.d false (.list (.int .i64)), .d false (.list (.int .i64))], [.l (.o true 3 (.int .i64))], fun x => s_l2Less x.1 x.2⟩
noncomputable def c_s_l2Less : Ctx := ⟨Try.prog, TT, [], [⟨3, [(5, .l (.o true 3 (.int .i64))), (6, .l (.d false (.int .i64)))], some (0, [(5, .l (.o true 3 (.int .i64)))]), none, false⟩], [], [], [], []⟩
theorem k_s_l2Less (x : PMs.den e_s_l2Less.ps) : funK c_s_l2Less Try.f79 e_s_l2Less.ps e_s_l2Less.rs x = e_s_l2Less.F x := by kernel_rfl
theorem o_s_l2Less : FnOk Try.prog e_s_l2Less.f ∧ Ctr Try.prog e_s_l2Less := mkCtr (C := c_s_l2Less) m_ (trivial) Try.func79 (by kernel_rfl) k_s_l2Less
/-! loop.example/g00959/spec.l9Next -/
noncomputable def s_l9Next (x0 : List Int) (x1 : List Int) : Option (List Int) :=
(s_l7Cross x0 x1).bind fun v1 => (s_l9Bezout x0).bind fun v2 => (s_l7Cross v2 x1).bind fun v3 => (s_l3Floor v3 v1).bind fun v4 => (s_l2Scale x0 v4).bind fun v5 => (s_l2Less v2 v5).bind fun v6 => some v6
noncomputable def e_s_l9Next : CallE := ⟨64, [.d false (.list (.int .i64)), .d false (.list (.int .i64))], [.l (.o true 3 (.int .i64))], fun x => s_l9Next x.1 x.2⟩
noncomputable def c_s_l9Next : Ctx := ⟨Try.prog, TT, [e_s_l7Cross, e_s_l9Bezout, e_s_l3Floor, e_s_l2Scale, e_s_l2Less], [], [], [], [], []⟩
theorem k_s_l9Next (x : PMs.den e_s_l9Next.ps) : funK c_s_l9Next Try.f64 e_s_l9Next.ps e_s_l9Next.rs x = e_s_l9Next.F x := by kernel_rfl
theorem o_s_l9Next : FnOk Try.prog e_s_l9Next.f ∧ Ctr Try.prog e_s_l9Next := mkCtr (C := c_s_l9Next) m_ (⟨o_s_l7Cross, o_s_l9Bezout, o_s_l3Floor, o_s_l2Scale, o_s_l2Less, trivial⟩) Try.func64 (by kernel_rfl) k_s_l9Next
/-! loop.example/g00959/spec.SplitCone -/
noncomputable def s_SplitCone_s5 (x0 : (List Int) × (List Int)) (v3 : List (List Int) × List Int) : Option ((List (List Int) × List Int) ⊕ (List (List Int) × List Int)) :=
(s_l7Cross v3.2 x0.2).bind fun v4 => cond (decide (v4 > (0 : Int)))
 ((appD 24 v3.1 ([v3.2] : List (List Int))).bind fun v5 => (s_l9Next v3.2 x0.2).bind fun v6 => some (.inl (v5, v6)))
 (some (.inr (v3.1, v3.2)))
noncomputable def s_SplitCone (x0 : (List Int) × (List Int)) : Option (List (List Int)) :=
(s_IsCone (x0.1, x0.2)).bind fun v1 => cond (!v1)
 (some ([] : List (List Int)))
 ((appD 8 ([] : List Int) x0.1).bind fun v2 => (iter (s_SplitCone_s5 x0) (([] : List (List Int)), v2)).bind fun v7 => (appD 24 v7.1 ([v7.2] : List (List Int))).bind fun v8 => some v8)
noncomputable def e_s_SplitCone : CallE := ⟨40, [.d false (.prod (.list (.int .i64)) (.list (.int .i64)))], [.l (.o false 24 (.list (.int .i64)))], fun x => s_SplitCone x⟩
noncomputable def c_s_SplitCone : Ctx := ⟨Try.prog, TT, [e_s_IsCone, e_s_l7Cross, e_s_l9Next], [⟨5, [(3, .l (.o false 24 (.list (.int .i64)))), (4, .l (.d false (.list (.int .i64))))], some (0, [(3, .l (.o false 24 (.list (.int .i64)))), (4, .l (.d false (.list (.int .i64))))]), none, false⟩], [], [], [], []⟩
theorem k_s_SplitCone (x : PMs.den e_s_SplitCone.ps) : funK c_s_SplitCone Try.f40 e_s_SplitCone.ps e_s_SplitCone.rs x = e_s_SplitCone.F x := by kernel_rfl
theorem o_s_SplitCone : FnOk Try.prog e_s_SplitCone.f ∧ Ctr Try.prog e_s_SplitCone := mkCtr (C := c_s_SplitCone) m_ (⟨o_s_IsCone, o_s_l7Cross, o_s_l9Next, trivial⟩) Try.func40 (by kernel_rfl) k_s_SplitCone
/-! loop.example/g00959/spec.l2Add -/
noncomputable def s_l2Add_s3 (x0 : List Int) (x1 : List Int) (v1 : List Int × Int) : Option ((List Int × Int) ⊕ (List Int)) :=
 cond (decide (v1.2 < (x0.length : Int)))
 ((idx x0 v1.2).bind fun v2 => (idx x1 v1.2).bind fun v3 => (appD 8 v1.1 ([(IntKind.i64.wrap (v2 + v3))] : List Int)).bind fun v4 => some (.inl (v4, (IntKind.i64.wrap (v1.2 + (1 : Int))))))
 (some (.inr v1.1))
noncomputable def s_l2Add (x0 : List Int) (x1 : List Int) : Option (List Int) :=
(iter (s_l2Add_s3 x0 x1) (([] : List Int), (0 : Int))).bind fun v5 => some v5
noncomputable def e_s_l2Add : CallE := ⟨51, [.d false (.list (.int .i64)), .d false (.list (.int .i64))], [.l (.o true 3 (.int .i64))], fun x => s_l2Add x.1 x.2⟩
noncomputable def c_s_l2Add : Ctx := ⟨Try.prog, TT, [], [⟨3, [(5, .l (.o true 3 (.int .i64))), (6, .l (.d false (.int .i64)))], some (0, [(5, .l (.o true 3 (.int .i64)))]), none, false⟩], [], [], [], []⟩
theorem k_s_l2Add (x : PMs.den e_s_l2Add.ps) : funK c_s_l2Add Try.f51 e_s_l2Add.ps e_s_l2Add.rs x = e_s_l2Add.F x := by kernel_rfl
theorem o_s_l2Add : FnOk Try.prog e_s_l2Add.f ∧ Ctr Try.prog e_s_l2Add := mkCtr (C := c_s_l2Add) m_ (trivial) Try.func51 (by kernel_rfl) k_s_l2Add
/-! loop.example/g00959/spec.TurnsOf -/
noncomputable def s_TurnsOf_s4 (v1 : List (List Int)) (v2 : List Int × Int) : Option ((List Int × Int) ⊕ (List Int)) :=
 cond (decide ((IntKind.i64.wrap (v2.2 + (1 : Int))) < (v1.length : Int)))
 ((idx v1 (IntKind.i64.wrap (v2.2 - (1 : Int)))).bind fun v3 => (idx v1 (IntKind.i64.wrap (v2.2 + (1 : Int)))).bind fun v4 => (s_l2Add v3 v4).bind fun v5 => (idx v1 v2.2).bind fun v6 => (idx v6 (0 : Int)).bind fun v7 => (s_l1Bit (v7 == (0 : Int))).bind fun v8 => (inIdx v5.length v8).bind fun _ => (idx v5 ((v8).toNat : Int)).bind fun v9 => (idx v1 v2.2).bind fun v10 => (idx v10 v8).bind fun v11 => (quoI .i64 v9 v11).bind fun v12 => (appD 8 v2.1 ([v12] : List Int)).bind fun v13 => some (.inl (v13, (IntKind.i64.wrap (v2.2 + (1 : Int))))))
 (some (.inr v2.1))
noncomputable def s_TurnsOf (x0 : (List Int) × (List Int)) : Option (List Int) :=
(s_SplitCone (x0.1, x0.2)).bind fun v1 => (iter (s_TurnsOf_s4 v1) (([] : List Int), (1 : Int))).bind fun v14 => some v14
noncomputable def e_s_TurnsOf : CallE := ⟨10, [.d false (.prod (.list (.int .i64)) (.list (.int .i64)))], [.l (.o true 3 (.int .i64))], fun x => s_TurnsOf x⟩
noncomputable def c_s_TurnsOf : Ctx := ⟨Try.prog, TT, [e_s_SplitCone, e_s_l2Add, e_s_l1Bit], [⟨4, [(3, .l (.o true 3 (.int .i64))), (5, .l (.d false (.int .i64)))], some (0, [(3, .l (.o true 3 (.int .i64)))]), none, false⟩], [], [], [], []⟩
theorem k_s_TurnsOf (x : PMs.den e_s_TurnsOf.ps) : funK c_s_TurnsOf Try.f10 e_s_TurnsOf.ps e_s_TurnsOf.rs x = e_s_TurnsOf.F x := by kernel_rfl
theorem o_s_TurnsOf : FnOk Try.prog e_s_TurnsOf.f ∧ Ctr Try.prog e_s_TurnsOf := mkCtr (C := c_s_TurnsOf) m_ (⟨o_s_SplitCone, o_s_l2Add, o_s_l1Bit, trivial⟩) Try.func10 (by kernel_rfl) k_s_TurnsOf
/-! loop.example/g00959/spec.SailCorners -/
noncomputable def s_SailCorners_s5 (v1 : List (List Int)) (v2 : List Int) (v3 : List (List Int) × Int) : Option ((List (List Int) × Int) ⊕ (List (List Int))) :=
 cond (decide (v3.2 < (v1.length : Int)))
 (cond (v3.2 == (0 : Int))
 ((idx v1 v3.2).bind fun v4 => (appD 8 ([] : List Int) v4).bind fun v5 => (appD 24 v3.1 ([v5] : List (List Int))).bind fun v6 => some (.inl (v6, (IntKind.i64.wrap (v3.2 + (1 : Int))))))
 (cond (v3.2 == (IntKind.i64.wrap ((v1.length : Int) - (1 : Int))))
 ((idx v1 v3.2).bind fun v7 => (appD 8 ([] : List Int) v7).bind fun v8 => (appD 24 v3.1 ([v8] : List (List Int))).bind fun v9 => some (.inl (v9, (IntKind.i64.wrap (v3.2 + (1 : Int))))))
 ((idx v2 (IntKind.i64.wrap (v3.2 - (1 : Int)))).bind fun v10 => cond (decide (v10 > (2 : Int)))
 ((idx v1 v3.2).bind fun v11 => (appD 8 ([] : List Int) v11).bind fun v12 => (appD 24 v3.1 ([v12] : List (List Int))).bind fun v13 => some (.inl (v13, (IntKind.i64.wrap (v3.2 + (1 : Int))))))
 (some (.inl (v3.1, (IntKind.i64.wrap (v3.2 + (1 : Int)))))))))
 (some (.inr v3.1))
noncomputable def s_SailCorners (x0 : (List Int) × (List Int)) : Option (List (List Int)) :=
(s_SplitCone (x0.1, x0.2)).bind fun v1 => (s_TurnsOf (x0.1, x0.2)).bind fun v2 => (iter (s_SailCorners_s5 v1 v2) (([] : List (List Int)), (0 : Int))).bind fun v14 => some v14
noncomputable def e_s_SailCorners : CallE := ⟨12, [.d false (.prod (.list (.int .i64)) (.list (.int .i64)))], [.l (.o true 24 (.list (.int .i64)))], fun x => s_SailCorners x⟩
noncomputable def c_s_SailCorners : Ctx := ⟨Try.prog, TT, [e_s_SplitCone, e_s_TurnsOf], [⟨5, [(3, .l (.o true 24 (.list (.int .i64)))), (6, .l (.d false (.int .i64)))], some (0, [(3, .l (.o true 24 (.list (.int .i64))))]), none, false⟩], [], [], [], []⟩
theorem k_s_SailCorners (x : PMs.den e_s_SailCorners.ps) : funK c_s_SailCorners Try.f12 e_s_SailCorners.ps e_s_SailCorners.rs x = e_s_SailCorners.F x := by kernel_rfl
theorem o_s_SailCorners : FnOk Try.prog e_s_SailCorners.f ∧ Ctr Try.prog e_s_SailCorners := mkCtr (C := c_s_SailCorners) m_ (⟨o_s_SplitCone, o_s_TurnsOf, trivial⟩) Try.func12 (by kernel_rfl) k_s_SailCorners
/-! loop.example/g00959/laws.sameInts -/
noncomputable def w_sameInts_s4 (x0 : List Int) (x1 : List Int) (v1 : Int) : Option ((Int) ⊕ ((Unit) ⊕ (Bool))) :=
 cond (decide (v1 < (x0.length : Int)))
 ((idx x0 v1).bind fun v2 => (idx x1 v1).bind fun v3 => cond (v2 != v3)
 (some (.inr (.inr false)))
 (some (.inl (IntKind.i64.wrap (v1 + (1 : Int))))))
 (some (.inr (.inl ())))
noncomputable def w_sameInts (x0 : List Int) (x1 : List Int) : Option (Bool) :=
 cond ((x0.length : Int) != (x1.length : Int))
 (some false)
 ((iter (w_sameInts_s4 x0 x1) (0 : Int)).bind fun v4 => match v4 with
 | .inl v5 => (some true)
 | .inr v6 => (some v6))
noncomputable def e_w_sameInts : CallE := ⟨13, [.d false (.list (.int .i64)), .d false (.list (.int .i64))], [.l (.d false .bool)], fun x => w_sameInts x.1 x.2⟩
noncomputable def c_w_sameInts : Ctx := ⟨Try.prog, TT, [], [⟨4, [(5, .l (.d false (.int .i64)))], some (0, []), some [(4, .l (.d false .bool))], false⟩], [], [], [], []⟩
theorem k_w_sameInts (x : PMs.den e_w_sameInts.ps) : funK c_w_sameInts Try.f13 e_w_sameInts.ps e_w_sameInts.rs x = e_w_sameInts.F x := by kernel_rfl
theorem o_w_sameInts : FnOk Try.prog e_w_sameInts.f ∧ Ctr Try.prog e_w_sameInts := mkCtr (C := c_w_sameInts) m_ (trivial) Try.func13 (by kernel_rfl) k_w_sameInts
/-! loop.example/g00959/laws.sameLists -/
noncomputable def w_sameLists_s4 (x0 : List (List Int)) (x1 : List (List Int)) (v1 : Int) : Option ((Int) ⊕ ((Unit) ⊕ (Bool))) :=
 cond (decide (v1 < (x0.length : Int)))
 ((idx x0 v1).bind fun v2 => (idx x1 v1).bind fun v3 => (w_sameInts v2 v3).bind fun v4 => cond (!v4)
 (some (.inr (.inr false)))
 (some (.inl (IntKind.i64.wrap (v1 + (1 : Int))))))
 (some (.inr (.inl ())))
noncomputable def w_sameLists (x0 : List (List Int)) (x1 : List (List Int)) : Option (Bool) :=
 cond ((x0.length : Int) != (x1.length : Int))
 (some false)
 ((iter (w_sameLists_s4 x0 x1) (0 : Int)).bind fun v5 => match v5 with
 | .inl v6 => (some true)
 | .inr v7 => (some v7))
noncomputable def e_w_sameLists : CallE := ⟨11, [.d false (.list (.list (.int .i64))), .d false (.list (.list (.int .i64)))], [.l (.d false .bool)], fun x => w_sameLists x.1 x.2⟩
noncomputable def c_w_sameLists : Ctx := ⟨Try.prog, TT, [e_w_sameInts], [⟨4, [(5, .l (.d false (.int .i64)))], some (0, []), some [(4, .l (.d false .bool))], false⟩], [], [], [], []⟩
theorem k_w_sameLists (x : PMs.den e_w_sameLists.ps) : funK c_w_sameLists Try.f11 e_w_sameLists.ps e_w_sameLists.rs x = e_w_sameLists.F x := by kernel_rfl
theorem o_w_sameLists : FnOk Try.prog e_w_sameLists.f ∧ Ctr Try.prog e_w_sameLists := mkCtr (C := c_w_sameLists) m_ (⟨o_w_sameInts, trivial⟩) Try.func11 (by kernel_rfl) k_w_sameLists
/-! loop.example/g00959/spec.SailSteps -/
noncomputable def s_SailSteps_s5 (v1 : List Int) (v2 : List Int × Int × Int) : Option ((List Int × Int × Int) ⊕ (List Int × Int)) :=
 cond (decide (v2.2.2 < (v1.length : Int)))
 ((idx v1 v2.2.2).bind fun v3 => cond (decide (v3 > (2 : Int)))
 ((appD 8 v2.1 ([v2.2.1] : List Int)).bind fun v4 => some (.inl (v4, ((IntKind.i64.wrap ((0 : Int) + (1 : Int))), (IntKind.i64.wrap (v2.2.2 + (1 : Int)))))))
 (some (.inl (v2.1, ((IntKind.i64.wrap (v2.2.1 + (1 : Int))), (IntKind.i64.wrap (v2.2.2 + (1 : Int))))))))
 (some (.inr (v2.1, v2.2.1)))
noncomputable def s_SailSteps (x0 : (List Int) × (List Int)) : Option (List Int) :=
(s_TurnsOf (x0.1, x0.2)).bind fun v1 => (iter (s_SailSteps_s5 v1) (([] : List Int), ((1 : Int), (0 : Int)))).bind fun v5 => (s_IsCone (x0.1, x0.2)).bind fun v6 => cond v6
 ((appD 8 v5.1 ([v5.2] : List Int)).bind fun v7 => some v7)
 (some v5.1)
noncomputable def e_s_SailSteps : CallE := ⟨14, [.d false (.prod (.list (.int .i64)) (.list (.int .i64)))], [.l (.o true 3 (.int .i64))], fun x => s_SailSteps x⟩
noncomputable def c_s_SailSteps : Ctx := ⟨Try.prog, TT, [e_s_TurnsOf, e_s_IsCone], [⟨5, [(3, .l (.o true 3 (.int .i64))), (5, .l (.d false (.int .i64))), (6, .l (.d false (.int .i64)))], some (0, [(3, .l (.o true 3 (.int .i64))), (5, .l (.d false (.int .i64)))]), none, false⟩], [], [], [], []⟩
theorem k_s_SailSteps (x : PMs.den e_s_SailSteps.ps) : funK c_s_SailSteps Try.f14 e_s_SailSteps.ps e_s_SailSteps.rs x = e_s_SailSteps.F x := by kernel_rfl
theorem o_s_SailSteps : FnOk Try.prog e_s_SailSteps.f ∧ Ctr Try.prog e_s_SailSteps := mkCtr (C := c_s_SailSteps) m_ (⟨o_s_TurnsOf, o_s_IsCone, trivial⟩) Try.func14 (by kernel_rfl) k_s_SailSteps
/-! loop.example/g00959/impl.SailArea -/
noncomputable def i_SailArea (x0 : (List Int) × (List Int)) : Option (Int) :=
(i_SplitCone (x0.1, x0.2)).bind fun v1 => some (IntKind.i64.wrap ((v1.length : Int) - (1 : Int)))
noncomputable def e_i_SailArea : CallE := ⟨15, [.d false (.prod (.list (.int .i64)) (.list (.int .i64)))], [.l (.d false (.int .i64))], fun x => i_SailArea x⟩
noncomputable def c_i_SailArea : Ctx := ⟨Try.prog, TT, [e_i_SplitCone], [], [], [], [], []⟩
theorem k_i_SailArea (x : PMs.den e_i_SailArea.ps) : funK c_i_SailArea Try.f15 e_i_SailArea.ps e_i_SailArea.rs x = e_i_SailArea.F x := by kernel_rfl
theorem o_i_SailArea : FnOk Try.prog e_i_SailArea.f ∧ Ctr Try.prog e_i_SailArea := mkCtr (C := c_i_SailArea) m_ (⟨o_i_SplitCone, trivial⟩) Try.func15 (by kernel_rfl) k_i_SailArea
/-! loop.example/g00959/spec.SailArea -/
noncomputable def s_SailArea (x0 : (List Int) × (List Int)) : Option (Int) :=
(s_SplitCone (x0.1, x0.2)).bind fun v1 => some (IntKind.i64.wrap ((v1.length : Int) - (1 : Int)))
noncomputable def e_s_SailArea : CallE := ⟨16, [.d false (.prod (.list (.int .i64)) (.list (.int .i64)))], [.l (.d false (.int .i64))], fun x => s_SailArea x⟩
noncomputable def c_s_SailArea : Ctx := ⟨Try.prog, TT, [e_s_SplitCone], [], [], [], [], []⟩
theorem k_s_SailArea (x : PMs.den e_s_SailArea.ps) : funK c_s_SailArea Try.f16 e_s_SailArea.ps e_s_SailArea.rs x = e_s_SailArea.F x := by kernel_rfl
theorem o_s_SailArea : FnOk Try.prog e_s_SailArea.f ∧ Ctr Try.prog e_s_SailArea := mkCtr (C := c_s_SailArea) m_ (⟨o_s_SplitCone, trivial⟩) Try.func16 (by kernel_rfl) k_s_SailArea
/-! loop.example/g00959/impl.TurnsDefect -/
noncomputable def i_TurnsDefect_s3 (v1 : List Int) (v2 : Int × Int) : Option ((Int × Int) ⊕ (Int)) :=
 cond (decide (v2.2 < (v1.length : Int)))
 ((idx v1 v2.2).bind fun v3 => some (.inl ((IntKind.i64.wrap (v2.1 + (IntKind.i64.wrap ((3 : Int) - v3)))), (IntKind.i64.wrap (v2.2 + (1 : Int))))))
 (some (.inr v2.1))
noncomputable def i_TurnsDefect (x0 : (List Int) × (List Int)) : Option (Int) :=
(i_TurnsOf (x0.1, x0.2)).bind fun v1 => (iter (i_TurnsDefect_s3 v1) ((0 : Int), (0 : Int))).bind fun v4 => some v4
noncomputable def e_i_TurnsDefect : CallE := ⟨17, [.d false (.prod (.list (.int .i64)) (.list (.int .i64)))], [.l (.d false (.int .i64))], fun x => i_TurnsDefect x⟩
noncomputable def c_i_TurnsDefect : Ctx := ⟨Try.prog, TT, [e_i_TurnsOf], [⟨3, [(3, .l (.d false (.int .i64))), (9, .l (.d false (.int .i64)))], some (0, [(3, .l (.d false (.int .i64)))]), none, false⟩], [], [], [], []⟩
theorem k_i_TurnsDefect (x : PMs.den e_i_TurnsDefect.ps) : funK c_i_TurnsDefect Try.f17 e_i_TurnsDefect.ps e_i_TurnsDefect.rs x = e_i_TurnsDefect.F x := by kernel_rfl
theorem o_i_TurnsDefect : FnOk Try.prog e_i_TurnsDefect.f ∧ Ctr Try.prog e_i_TurnsDefect := mkCtr (C := c_i_TurnsDefect) m_ (⟨o_i_TurnsOf, trivial⟩) Try.func17 (by kernel_rfl) k_i_TurnsDefect
/-! loop.example/g00959/spec.TurnsDefect -/
noncomputable def s_TurnsDefect_s4 (v1 : List Int) (v2 : Int × Int) : Option ((Int × Int) ⊕ (Int)) :=
 cond (decide (v2.2 < (v1.length : Int)))
 ((idx v1 v2.2).bind fun v3 => some (.inl ((IntKind.i64.wrap ((IntKind.i64.wrap (v2.1 + (3 : Int))) - v3)), (IntKind.i64.wrap (v2.2 + (1 : Int))))))
 (some (.inr v2.1))
noncomputable def s_TurnsDefect (x0 : (List Int) × (List Int)) : Option (Int) :=
(s_TurnsOf (x0.1, x0.2)).bind fun v1 => (iter (s_TurnsDefect_s4 v1) ((0 : Int), (0 : Int))).bind fun v4 => some v4
noncomputable def e_s_TurnsDefect : CallE := ⟨18, [.d false (.prod (.list (.int .i64)) (.list (.int .i64)))], [.l (.d false (.int .i64))], fun x => s_TurnsDefect x⟩
noncomputable def c_s_TurnsDefect : Ctx := ⟨Try.prog, TT, [e_s_TurnsOf], [⟨4, [(3, .l (.d false (.int .i64))), (5, .l (.d false (.int .i64)))], some (0, [(3, .l (.d false (.int .i64)))]), none, false⟩], [], [], [], []⟩
theorem k_s_TurnsDefect (x : PMs.den e_s_TurnsDefect.ps) : funK c_s_TurnsDefect Try.f18 e_s_TurnsDefect.ps e_s_TurnsDefect.rs x = e_s_TurnsDefect.F x := by kernel_rfl
theorem o_s_TurnsDefect : FnOk Try.prog e_s_TurnsDefect.f ∧ Ctr Try.prog e_s_TurnsDefect := mkCtr (C := c_s_TurnsDefect) m_ (⟨o_s_TurnsOf, trivial⟩) Try.func18 (by kernel_rfl) k_s_TurnsDefect
/-! loop.example/g00959/spec.DualTurns -/
noncomputable def s_DualTurns (x0 : (List Int) × (List Int)) : Option (List Int) :=
(s_IsCone (x0.1, x0.2)).bind fun v1 => cond (!v1)
 (some ([] : List Int))
 ((s_l7Cross x0.1 x0.2).bind fun v2 => (s_l9Bezout x0.1).bind fun v3 => (s_l7Cross x0.2 v3).bind fun v4 => (s_l3Floor (IntKind.i64.wrap (0 - v4)) v2).bind fun v5 => (s_TurnsOf (([(1 : Int), (0 : Int)] : List Int), ([(IntKind.i64.wrap (0 - (IntKind.i64.wrap ((IntKind.i64.wrap (v5 * v2)) + v4)))), v2] : List Int))).bind fun v6 => some v6)
noncomputable def e_s_DualTurns : CallE := ⟨19, [.d false (.prod (.list (.int .i64)) (.list (.int .i64)))], [.l (.o true 3 (.int .i64))], fun x => s_DualTurns x⟩
noncomputable def c_s_DualTurns : Ctx := ⟨Try.prog, TT, [e_s_IsCone, e_s_l7Cross, e_s_l9Bezout, e_s_l3Floor, e_s_TurnsOf], [], [], [], [], []⟩
theorem k_s_DualTurns (x : PMs.den e_s_DualTurns.ps) : funK c_s_DualTurns Try.f19 e_s_DualTurns.ps e_s_DualTurns.rs x = e_s_DualTurns.F x := by kernel_rfl
theorem o_s_DualTurns : FnOk Try.prog e_s_DualTurns.f ∧ Ctr Try.prog e_s_DualTurns := mkCtr (C := c_s_DualTurns) m_ (⟨o_s_IsCone, o_s_l7Cross, o_s_l9Bezout, o_s_l3Floor, o_s_TurnsOf, trivial⟩) Try.func19 (by kernel_rfl) k_s_DualTurns
/-! loop.example/g00959/laws.total -/
noncomputable def w_total_s3 (x0 : List Int) (v1 : Int × Int) : Option ((Int × Int) ⊕ (Int)) :=
 cond (decide (v1.2 < (x0.length : Int)))
 ((idx x0 v1.2).bind fun v2 => some (.inl ((IntKind.i64.wrap (v1.1 + v2)), (IntKind.i64.wrap (v1.2 + (1 : Int))))))
 (some (.inr v1.1))
noncomputable def w_total (x0 : List Int) : Option (Int) :=
(iter (w_total_s3 x0) ((0 : Int), (0 : Int))).bind fun v3 => some v3
noncomputable def e_w_total : CallE := ⟨21, [.d false (.list (.int .i64))], [.l (.d false (.int .i64))], fun x => w_total x⟩
noncomputable def c_w_total : Ctx := ⟨Try.prog, TT, [], [⟨3, [(3, .l (.d false (.int .i64))), (4, .l (.d false (.int .i64)))], some (0, [(3, .l (.d false (.int .i64)))]), none, false⟩], [], [], [], []⟩
theorem k_w_total (x : PMs.den e_w_total.ps) : funK c_w_total Try.f21 e_w_total.ps e_w_total.rs x = e_w_total.F x := by kernel_rfl
theorem o_w_total : FnOk Try.prog e_w_total.f ∧ Ctr Try.prog e_w_total := mkCtr (C := c_w_total) m_ (trivial) Try.func21 (by kernel_rfl) k_w_total
/-! loop.example/g00959/laws.cross -/
noncomputable def w_cross (x0 : List Int) (x1 : List Int) : Option (Int) :=
 cond ((x0.length : Int) != (2 : Int))
 (some (0 : Int))
 (cond ((x1.length : Int) != (2 : Int))
 (some (0 : Int))
 ((idx x0 (0 : Int)).bind fun v1 => (idx x1 (1 : Int)).bind fun v2 => (idx x0 (1 : Int)).bind fun v3 => (idx x1 (0 : Int)).bind fun v4 => some (IntKind.i64.wrap ((IntKind.i64.wrap (v1 * v2)) - (IntKind.i64.wrap (v3 * v4))))))
noncomputable def e_w_cross : CallE := ⟨22, [.d false (.list (.int .i64)), .d false (.list (.int .i64))], [.l (.d false (.int .i64))], fun x => w_cross x.1 x.2⟩
noncomputable def c_w_cross : Ctx := ⟨Try.prog, TT, [], [], [], [], [], []⟩
theorem k_w_cross (x : PMs.den e_w_cross.ps) : funK c_w_cross Try.f22 e_w_cross.ps e_w_cross.rs x = e_w_cross.F x := by kernel_rfl
theorem o_w_cross : FnOk Try.prog e_w_cross.f ∧ Ctr Try.prog e_w_cross := mkCtr (C := c_w_cross) m_ (trivial) Try.func22 (by kernel_rfl) k_w_cross
/-! loop.example/g00959/spec.ConeIndex -/
noncomputable def s_ConeIndex (x0 : (List Int) × (List Int)) : Option (Int) :=
(s_IsCone (x0.1, x0.2)).bind fun v1 => cond (!v1)
 (some (0 : Int))
 ((s_l7Cross x0.1 x0.2).bind fun v2 => some v2)
noncomputable def e_s_ConeIndex : CallE := ⟨23, [.d false (.prod (.list (.int .i64)) (.list (.int .i64)))], [.l (.d false (.int .i64))], fun x => s_ConeIndex x⟩
noncomputable def c_s_ConeIndex : Ctx := ⟨Try.prog, TT, [e_s_IsCone, e_s_l7Cross], [], [], [], [], []⟩
theorem k_s_ConeIndex (x : PMs.den e_s_ConeIndex.ps) : funK c_s_ConeIndex Try.f23 e_s_ConeIndex.ps e_s_ConeIndex.rs x = e_s_ConeIndex.F x := by kernel_rfl
theorem o_s_ConeIndex : FnOk Try.prog e_s_ConeIndex.f ∧ Ctr Try.prog e_s_ConeIndex := mkCtr (C := c_s_ConeIndex) m_ (⟨o_s_IsCone, o_s_l7Cross, trivial⟩) Try.func23 (by kernel_rfl) k_s_ConeIndex
/-! loop.example/g00959/laws.FnSails -/
noncomputable def w_FnSails_s15 (v3 : List (List Int)) (v4 : List Int) (v22 : Int) : Option ((Int) ⊕ ((Unit) ⊕ (Bool))) :=
 cond (decide (v22 < (v4.length : Int)))
 ((idx v3 v22).bind fun v23 => (idx v3 (IntKind.i64.wrap (v22 + (1 : Int)))).bind fun v24 => (w_cross v23 v24).bind fun v25 => (idx v4 v22).bind fun v26 => cond (v25 != v26)
 (some (.inr (.inr false)))
 (some (.inl (IntKind.i64.wrap (v22 + (1 : Int))))))
 (some (.inr (.inl ())))
noncomputable def w_FnSails (x0 : List Int) : Option (Bool) :=
(w_big x0).bind fun v1 => cond v1
 (some true)
 ((s_DrawSailCorners x0).bind fun v2 => (i_SailCorners (v2.1, v2.2)).bind fun v3 => (i_SailSteps (v2.1, v2.2)).bind fun v4 => (i_DualTurns (v2.1, v2.2)).bind fun v5 => (s_TurnsOf (v2.1, v2.2)).bind fun v6 => (s_SailCorners (v2.1, v2.2)).bind fun v7 => (w_sameLists v3 v7).bind fun v8 => cond (!v8)
 (some false)
 ((s_SailSteps (v2.1, v2.2)).bind fun v9 => (w_sameInts v4 v9).bind fun v10 => cond (!v10)
 (some false)
 ((i_SailArea (v2.1, v2.2)).bind fun v11 => (s_SailArea (v2.1, v2.2)).bind fun v12 => cond (v11 != v12)
 (some false)
 ((i_TurnsDefect (v2.1, v2.2)).bind fun v13 => (s_TurnsDefect (v2.1, v2.2)).bind fun v14 => cond (v13 != v14)
 (some false)
 ((s_DualTurns (v2.1, v2.2)).bind fun v15 => (w_sameInts v5 v15).bind fun v16 => cond (!v16)
 (some false)
 ((s_IsCone (v2.1, v2.2)).bind fun v17 => cond (!v17)
 (cond ((v3.length : Int) == (0 : Int))
 (cond ((v4.length : Int) == (0 : Int))
 (some ((v5.length : Int) == (0 : Int)))
 (some false))
 (some false))
 (cond ((v3.length : Int) != (IntKind.i64.wrap ((v4.length : Int) + (1 : Int))))
 (some false)
 ((w_total v4).bind fun v18 => (i_SailArea (v2.1, v2.2)).bind fun v19 => cond (v18 != v19)
 (some false)
 ((i_TurnsDefect (v2.1, v2.2)).bind fun v20 => (w_total v6).bind fun v21 => cond (v20 != (IntKind.i64.wrap ((IntKind.i64.wrap ((3 : Int) * (v6.length : Int))) - v21)))
 (some false)
 ((iter (w_FnSails_s15 v3 v4) (0 : Int)).bind fun v27 => match v27 with
 | .inl v28 => ((s_ConeIndex (v2.1, v2.2)).bind fun v30 => cond (v30 == (1 : Int))
 (cond ((v5.length : Int) == (0 : Int))
 (some ((v6.length : Int) == (0 : Int)))
 (some false))
 (cond ((v5.length : Int) == (0 : Int))
 (some true)
 ((w_total v5).bind fun v31 => (w_total v6).bind fun v32 => cond ((IntKind.i64.wrap (v31 - (v5.length : Int))) == (IntKind.i64.wrap (v32 - (v6.length : Int))))
 ((w_total v6).bind fun v33 => some ((IntKind.i64.wrap ((v5.length : Int) + (v6.length : Int))) == (IntKind.i64.wrap ((IntKind.i64.wrap (v33 - (v6.length : Int))) + (1 : Int)))))
 (some false))))
 | .inr v29 => (some v29)))))))))))
noncomputable def e_w_FnSails : CallE := ⟨3, [.d false (.list (.int .u8))], [.l (.d false .bool)], fun x => w_FnSails x⟩
noncomputable def c_w_FnSails : Ctx := ⟨Try.prog, TT, [e_w_big, e_s_DrawSailCorners, e_i_SailCorners, e_i_SailSteps, e_i_DualTurns, e_s_TurnsOf, e_s_SailCorners, e_w_sameLists, e_s_SailSteps, e_w_sameInts, e_i_SailArea, e_s_SailArea, e_i_TurnsDefect, e_s_TurnsDefect, e_s_DualTurns, e_s_IsCone, e_w_total, e_w_cross, e_s_ConeIndex], [⟨15, [(8, .l (.d false (.int .i64)))], some (0, []), some [(2, .l (.d false .bool))], false⟩], [], [], [], []⟩
theorem k_w_FnSails (x : PMs.den e_w_FnSails.ps) : funK c_w_FnSails Try.f3 e_w_FnSails.ps e_w_FnSails.rs x = e_w_FnSails.F x := by kernel_rfl
theorem o_w_FnSails : FnOk Try.prog e_w_FnSails.f ∧ Ctr Try.prog e_w_FnSails := mkCtr (C := c_w_FnSails) m_ (⟨o_w_big, o_s_DrawSailCorners, o_i_SailCorners, o_i_SailSteps, o_i_DualTurns, o_s_TurnsOf, o_s_SailCorners, o_w_sameLists, o_s_SailSteps, o_w_sameInts, o_i_SailArea, o_s_SailArea, o_i_TurnsDefect, o_s_TurnsDefect, o_s_DualTurns, o_s_IsCone, o_w_total, o_w_cross, o_s_ConeIndex, trivial⟩) Try.func3 (by kernel_rfl) k_w_FnSails
/-! loop.example/g00959/impl.IsVector -/
noncomputable def i_IsVector (x0 : List Int) : Option (Bool) :=
(i_within (x0.length : Int) (1 : Int) (3 : Int)).bind fun v1 => cond v1
 ((i_allWithin x0 (-1000 : Int) (1000 : Int)).bind fun v2 => some v2)
 (some false)
noncomputable def e_i_IsVector : CallE := ⟨75, [.d false (.list (.int .i64))], [.l (.d false .bool)], fun x => i_IsVector x⟩
noncomputable def c_i_IsVector : Ctx := ⟨Try.prog, TT, [e_i_within, e_i_allWithin], [], [], [], [], []⟩
theorem k_i_IsVector (x : PMs.den e_i_IsVector.ps) : funK c_i_IsVector Try.f75 e_i_IsVector.ps e_i_IsVector.rs x = e_i_IsVector.F x := by kernel_rfl
theorem o_i_IsVector : FnOk Try.prog e_i_IsVector.f ∧ Ctr Try.prog e_i_IsVector := mkCtr (C := c_i_IsVector) m_ (⟨o_i_within, o_i_allWithin, trivial⟩) Try.func75 (by kernel_rfl) k_i_IsVector
/-! loop.example/g00959/impl.InCone -/
noncomputable def i_InCone (x0 : (List Int) × (List Int)) (x1 : List Int) : Option (Bool) :=
(i_IsCone (x0.1, x0.2)).bind fun v1 => cond v1
 ((i_IsVector x1).bind fun v2 => cond v2
 (cond ((x1.length : Int) == (2 : Int))
 ((i_cross x0.1 x1).bind fun v3 => cond (decide (v3 ≥ (0 : Int)))
 ((i_cross x1 x0.2).bind fun v4 => some (decide (v4 ≥ (0 : Int))))
 (some false))
 (some false))
 (some false))
 (some false)
noncomputable def e_i_InCone : CallE := ⟨58, [.d false (.prod (.list (.int .i64)) (.list (.int .i64))), .d false (.list (.int .i64))], [.l (.d false .bool)], fun x => i_InCone x.1 x.2⟩
noncomputable def c_i_InCone : Ctx := ⟨Try.prog, TT, [e_i_IsCone, e_i_IsVector, e_i_cross], [], [], [], [], []⟩
theorem k_i_InCone (x : PMs.den e_i_InCone.ps) : funK c_i_InCone Try.f58 e_i_InCone.ps e_i_InCone.rs x = e_i_InCone.F x := by kernel_rfl
theorem o_i_InCone : FnOk Try.prog e_i_InCone.f ∧ Ctr Try.prog e_i_InCone := mkCtr (C := c_i_InCone) m_ (⟨o_i_IsCone, o_i_IsVector, o_i_cross, trivial⟩) Try.func58 (by kernel_rfl) k_i_InCone
/-! loop.example/g00959/impl.ExpressIn -/
noncomputable def i_ExpressIn_s6 (x1 : List Int) (v2 : List (List Int)) (v4 : List Int × Int) : Option ((List Int × Int) ⊕ (List Int)) :=
 cond (decide (v4.2 < (v2.length : Int)))
 ((idx v2 v4.2).bind fun v5 => (i_cross x1 v5).bind fun v6 => (idx v2 (IntKind.i64.wrap (v4.2 - (1 : Int)))).bind fun v7 => (i_cross v7 x1).bind fun v8 => cond (decide (v6 ≥ (0 : Int)))
 (cond (decide (v8 ≥ (0 : Int)))
 ((inIdx v4.1.length (IntKind.i64.wrap (v4.2 - (1 : Int)))).bind fun _ => (inIdx v4.1.length (((IntKind.i64.wrap (v4.2 - (1 : Int)))).toNat : Int)).bind fun _ => (inIdx (v4.1.set (((IntKind.i64.wrap (v4.2 - (1 : Int)))).toNat) v6).length v4.2).bind fun _ => (inIdx (v4.1.set (((IntKind.i64.wrap (v4.2 - (1 : Int)))).toNat) v6).length ((v4.2).toNat : Int)).bind fun _ => some (.inr ((v4.1.set (((IntKind.i64.wrap (v4.2 - (1 : Int)))).toNat) v6).set ((v4.2).toNat) v8)))
 (some (.inl (v4.1, (IntKind.i64.wrap (v4.2 + (1 : Int)))))))
 (some (.inl (v4.1, (IntKind.i64.wrap (v4.2 + (1 : Int)))))))
 (some (.inr v4.1))
noncomputable def i_ExpressIn (x0 : (List Int) × (List Int)) (x1 : List Int) : Option (List Int × Bool) :=
(i_InCone (x0.1, x0.2) x1).bind fun v1 => cond (!v1)
 (some (([] : List Int), false))
 ((i_SplitCone (x0.1, x0.2)).bind fun v2 => (mkD 8 (v2.length : Int) (0 : Int)).bind fun v3 => (iter (i_ExpressIn_s6 x1 v2) (v3, (1 : Int))).bind fun v9 => some (v9, true))
noncomputable def e_i_ExpressIn : CallE := ⟨25, [.d false (.prod (.list (.int .i64)) (.list (.int .i64))), .d false (.list (.int .i64))], [.l (.o true 3 (.int .i64)), .l (.d false .bool)], fun x => i_ExpressIn x.1 x.2⟩
noncomputable def c_i_ExpressIn : Ctx := ⟨Try.prog, TT, [e_i_InCone, e_i_SplitCone, e_i_cross], [⟨6, [(7, .l (.o true 3 (.int .i64))), (8, .l (.d false (.int .i64)))], some (0, [(7, .l (.o true 3 (.int .i64)))]), none, false⟩], [], [], [], []⟩
theorem k_i_ExpressIn (x : PMs.den e_i_ExpressIn.ps) : funK c_i_ExpressIn Try.f25 e_i_ExpressIn.ps e_i_ExpressIn.rs x = e_i_ExpressIn.F x := by kernel_rfl
theorem o_i_ExpressIn : FnOk Try.prog e_i_ExpressIn.f ∧ Ctr Try.prog e_i_ExpressIn := mkCtr (C := c_i_ExpressIn) m_ (⟨o_i_InCone, o_i_SplitCone, o_i_cross, trivial⟩) Try.func25 (by kernel_rfl) k_i_ExpressIn
/-! loop.example/g00959/spec.IsVector -/
noncomputable def s_IsVector (x0 : List Int) : Option (Bool) :=
(s_l1In (x0.length : Int) (1 : Int) (3 : Int)).bind fun v1 => cond v1
 ((s_l2Small x0 (1000 : Int)).bind fun v2 => some v2)
 (some false)
noncomputable def e_s_IsVector : CallE := ⟨63, [.d false (.list (.int .i64))], [.l (.d false .bool)], fun x => s_IsVector x⟩
noncomputable def c_s_IsVector : Ctx := ⟨Try.prog, TT, [e_s_l1In, e_s_l2Small], [], [], [], [], []⟩
theorem k_s_IsVector (x : PMs.den e_s_IsVector.ps) : funK c_s_IsVector Try.f63 e_s_IsVector.ps e_s_IsVector.rs x = e_s_IsVector.F x := by kernel_rfl
theorem o_s_IsVector : FnOk Try.prog e_s_IsVector.f ∧ Ctr Try.prog e_s_IsVector := mkCtr (C := c_s_IsVector) m_ (⟨o_s_l1In, o_s_l2Small, trivial⟩) Try.func63 (by kernel_rfl) k_s_IsVector
/-! loop.example/g00959/spec.InCone -/
noncomputable def s_InCone (x0 : (List Int) × (List Int)) (x1 : List Int) : Option (Bool) :=
(s_IsCone (x0.1, x0.2)).bind fun v1 => cond v1
 ((s_IsVector x1).bind fun v2 => cond v2
 (cond ((x1.length : Int) == (2 : Int))
 ((s_l7Cross x0.1 x1).bind fun v3 => cond (decide (v3 ≥ (0 : Int)))
 ((s_l7Cross x1 x0.2).bind fun v4 => some (decide (v4 ≥ (0 : Int))))
 (some false))
 (some false))
 (some false))
 (some false)
noncomputable def e_s_InCone : CallE := ⟨39, [.d false (.prod (.list (.int .i64)) (.list (.int .i64))), .d false (.list (.int .i64))], [.l (.d false .bool)], fun x => s_InCone x.1 x.2⟩
noncomputable def c_s_InCone : Ctx := ⟨Try.prog, TT, [e_s_IsCone, e_s_IsVector, e_s_l7Cross], [], [], [], [], []⟩
theorem k_s_InCone (x : PMs.den e_s_InCone.ps) : funK c_s_InCone Try.f39 e_s_InCone.ps e_s_InCone.rs x = e_s_InCone.F x := by kernel_rfl
theorem o_s_InCone : FnOk Try.prog e_s_InCone.f ∧ Ctr Try.prog e_s_InCone := mkCtr (C := c_s_InCone) m_ (⟨o_s_IsCone, o_s_IsVector, o_s_l7Cross, trivial⟩) Try.func39 (by kernel_rfl) k_s_InCone
/-! loop.example/g00959/spec.ExpressIn -/
noncomputable def s_ExpressIn_s6 (x1 : List Int) (v2 : List (List Int)) (v4 : List Int × Int) : Option ((List Int × Int) ⊕ ((List Int) ⊕ (List Int × Bool))) :=
 cond (decide ((IntKind.i64.wrap (v4.2 + (1 : Int))) < (v2.length : Int)))
 ((idx v2 (IntKind.i64.wrap (v4.2 + (1 : Int)))).bind fun v5 => (s_l7Cross x1 v5).bind fun v6 => (idx v2 v4.2).bind fun v7 => (s_l7Cross v7 x1).bind fun v8 => cond (decide (v6 ≥ (0 : Int)))
 (cond (decide (v8 ≥ (0 : Int)))
 ((inIdx v4.1.length v4.2).bind fun _ => (inIdx v4.1.length ((v4.2).toNat : Int)).bind fun _ => (inIdx (v4.1.set ((v4.2).toNat) v6).length (IntKind.i64.wrap (v4.2 + (1 : Int)))).bind fun _ => (inIdx (v4.1.set ((v4.2).toNat) v6).length (((IntKind.i64.wrap (v4.2 + (1 : Int)))).toNat : Int)).bind fun _ => some (.inr (.inr (((v4.1.set ((v4.2).toNat) v6).set (((IntKind.i64.wrap (v4.2 + (1 : Int)))).toNat) v8), true))))
 (some (.inl (v4.1, (IntKind.i64.wrap (v4.2 + (1 : Int)))))))
 (some (.inl (v4.1, (IntKind.i64.wrap (v4.2 + (1 : Int)))))))
 (some (.inr (.inl v4.1)))
noncomputable def s_ExpressIn (x0 : (List Int) × (List Int)) (x1 : List Int) : Option (List Int × Bool) :=
(s_InCone (x0.1, x0.2) x1).bind fun v1 => cond (!v1)
 (some (([] : List Int), false))
 ((s_SplitCone (x0.1, x0.2)).bind fun v2 => (mkD 8 (v2.length : Int) (0 : Int)).bind fun v3 => (iter (s_ExpressIn_s6 x1 v2) (v3, (0 : Int))).bind fun v9 => match v9 with
 | .inl v10 => (some (v10, true))
 | .inr v11 => (some (v11.1, v11.2)))
noncomputable def e_s_ExpressIn : CallE := ⟨26, [.d false (.prod (.list (.int .i64)) (.list (.int .i64))), .d false (.list (.int .i64))], [.l (.o true 3 (.int .i64)), .l (.d false .bool)], fun x => s_ExpressIn x.1 x.2⟩
noncomputable def c_s_ExpressIn : Ctx := ⟨Try.prog, TT, [e_s_InCone, e_s_SplitCone, e_s_l7Cross], [⟨6, [(7, .l (.o true 3 (.int .i64))), (8, .l (.d false (.int .i64)))], some (0, [(7, .l (.o true 3 (.int .i64)))]), some [(4, .l (.o true 3 (.int .i64))), (5, .l (.d false .bool))], false⟩], [], [], [], []⟩
theorem k_s_ExpressIn (x : PMs.den e_s_ExpressIn.ps) : funK c_s_ExpressIn Try.f26 e_s_ExpressIn.ps e_s_ExpressIn.rs x = e_s_ExpressIn.F x := by kernel_rfl
theorem o_s_ExpressIn : FnOk Try.prog e_s_ExpressIn.f ∧ Ctr Try.prog e_s_ExpressIn := mkCtr (C := c_s_ExpressIn) m_ (⟨o_s_InCone, o_s_SplitCone, o_s_l7Cross, trivial⟩) Try.func26 (by kernel_rfl) k_s_ExpressIn
/-! loop.example/g00959/impl.LengthIn -/
noncomputable def i_LengthIn_s6 (v1 : List Int × Bool) (v2 : Int × Int) : Option ((Int × Int) ⊕ (Int)) :=
 cond (decide (v2.2 < (v1.1.length : Int)))
 ((idx v1.1 v2.2).bind fun v3 => some (.inl ((IntKind.i64.wrap (v2.1 + v3)), (IntKind.i64.wrap (v2.2 + (1 : Int))))))
 (some (.inr v2.1))
noncomputable def i_LengthIn (x0 : (List Int) × (List Int)) (x1 : List Int) : Option (Int) :=
(i_ExpressIn (x0.1, x0.2) x1).bind fun v1 => cond (!v1.2)
 (some (-1 : Int))
 ((iter (i_LengthIn_s6 v1) ((0 : Int), (0 : Int))).bind fun v4 => some v4)
noncomputable def e_i_LengthIn : CallE := ⟨27, [.d false (.prod (.list (.int .i64)) (.list (.int .i64))), .d false (.list (.int .i64))], [.l (.d false (.int .i64))], fun x => i_LengthIn x.1 x.2⟩
noncomputable def c_i_LengthIn : Ctx := ⟨Try.prog, TT, [e_i_ExpressIn], [⟨6, [(7, .l (.d false (.int .i64))), (20, .l (.d false (.int .i64)))], some (0, [(7, .l (.d false (.int .i64)))]), none, false⟩], [], [], [], []⟩
theorem k_i_LengthIn (x : PMs.den e_i_LengthIn.ps) : funK c_i_LengthIn Try.f27 e_i_LengthIn.ps e_i_LengthIn.rs x = e_i_LengthIn.F x := by kernel_rfl
theorem o_i_LengthIn : FnOk Try.prog e_i_LengthIn.f ∧ Ctr Try.prog e_i_LengthIn := mkCtr (C := c_i_LengthIn) m_ (⟨o_i_ExpressIn, trivial⟩) Try.func27 (by kernel_rfl) k_i_LengthIn
/-! loop.example/g00959/spec.DrawDualCone -/
noncomputable def s_DrawDualCone_s44_3 (x0 : List Int) (v1 : Int × Int) : Option ((Int × Int) ⊕ (Int)) :=
 cond (decide (v1.2 < (x0.length : Int)))
 (cond (decide (v1.2 < (4000 : Int)))
 ((idx x0 v1.2).bind fun v2 => some (.inl ((andI .i64 (IntKind.i64.wrap ((IntKind.i64.wrap ((IntKind.i64.wrap (v1.1 * (131 : Int))) + (IntKind.i64.wrap v2))) + (7 : Int))) (1073741823 : Int)), (IntKind.i64.wrap (v1.2 + (1 : Int))))))
 (some (.inr v1.1)))
 (some (.inr v1.1))
noncomputable def s_DrawDualCone (x0 : List Int) : Option (List Int × List Int) :=
(iter (s_DrawDualCone_s44_3 x0) ((IntKind.i64.wrap ((26583 : Int) + (x0.length : Int))), (0 : Int))).bind fun v3 => (s_l9Bent (x0, ((0 : Int), v3))).bind fun v4 => some (v4.1.1, v4.1.2)
noncomputable def e_s_DrawDualCone : CallE := ⟨28, [.d false (.list (.int .u8))], [.a [(.o true 3 (.int .i64)), (.o true 3 (.int .i64))]], fun x => s_DrawDualCone x⟩
noncomputable def c_s_DrawDualCone_44 : Ctx := ⟨Try.prog, TT, [], [⟨3, [(3, .l (.d false (.int .i64))), (4, .l (.d false (.int .i64)))], some (0, [(3, .l (.d false (.int .i64)))]), none, true⟩], [], [], [], []⟩
noncomputable def n_s_DrawDualCone_44 : InE := ⟨44, false, inlK c_s_DrawDualCone_44 Try.f44⟩
theorem q_s_DrawDualCone_44 : FnOk Try.prog n_s_DrawDualCone_44.f ∧ InOk Try.prog n_s_DrawDualCone_44 := mkInl (C := c_s_DrawDualCone_44) m_ (trivial) Try.func44 (by kernel_rfl)
noncomputable def c_s_DrawDualCone : Ctx := ⟨Try.prog, TT, [e_s_l9Bent], [], [], [n_s_DrawDualCone_44], [], []⟩
theorem k_s_DrawDualCone (x : PMs.den e_s_DrawDualCone.ps) : funK c_s_DrawDualCone Try.f28 e_s_DrawDualCone.ps e_s_DrawDualCone.rs x = e_s_DrawDualCone.F x := by kernel_rfl
theorem o_s_DrawDualCone : FnOk Try.prog e_s_DrawDualCone.f ∧ Ctr Try.prog e_s_DrawDualCone := mkCtr (C := c_s_DrawDualCone) m_ (⟨o_s_l9Bent, trivial⟩) Try.func28 (by kernel_rfl) k_s_DrawDualCone ⟨q_s_DrawDualCone_44, trivial⟩
/-! loop.example/g00959/impl.DualCone -/
noncomputable def i_DualCone (x0 : (List Int) × (List Int)) : Option ((List Int × List Int) × Bool) :=
(i_IsCone (x0.1, x0.2)).bind fun v1 => cond (!v1)
 (some ((([] : List Int), ([] : List Int)), false))
 ((idx x0.2 (1 : Int)).bind fun v2 => (idx x0.2 (0 : Int)).bind fun v3 => (idx x0.1 (1 : Int)).bind fun v4 => (idx x0.1 (0 : Int)).bind fun v5 => some ((([v2, (IntKind.i64.wrap (0 - v3))] : List Int), ([(IntKind.i64.wrap (0 - v4)), v5] : List Int)), true))
noncomputable def e_i_DualCone : CallE := ⟨29, [.d false (.prod (.list (.int .i64)) (.list (.int .i64)))], [.a [(.o true 3 (.int .i64)), (.o true 3 (.int .i64))], .l (.d false .bool)], fun x => i_DualCone x⟩
noncomputable def c_i_DualCone : Ctx := ⟨Try.prog, TT, [e_i_IsCone], [], [], [], [], []⟩
theorem k_i_DualCone (x : PMs.den e_i_DualCone.ps) : funK c_i_DualCone Try.f29 e_i_DualCone.ps e_i_DualCone.rs x = e_i_DualCone.F x := by kernel_rfl
theorem o_i_DualCone : FnOk Try.prog e_i_DualCone.f ∧ Ctr Try.prog e_i_DualCone := mkCtr (C := c_i_DualCone) m_ (⟨o_i_IsCone, trivial⟩) Try.func29 (by kernel_rfl) k_i_DualCone
/-! loop.example/g00959/spec.DualCone -/
noncomputable def s_DualCone (x0 : (List Int) × (List Int)) : Option ((List Int × List Int) × Bool) :=
(s_IsCone (x0.1, x0.2)).bind fun v1 => cond (!v1)
 (some ((([] : List Int), ([] : List Int)), false))
 ((idx x0.2 (1 : Int)).bind fun v2 => (idx x0.2 (0 : Int)).bind fun v3 => (idx x0.1 (1 : Int)).bind fun v4 => (idx x0.1 (0 : Int)).bind fun v5 => some ((([v2, (IntKind.i64.wrap (0 - v3))] : List Int), ([(IntKind.i64.wrap (0 - v4)), v5] : List Int)), true))
noncomputable def e_s_DualCone : CallE := ⟨30, [.d false (.prod (.list (.int .i64)) (.list (.int .i64)))], [.a [(.o true 3 (.int .i64)), (.o true 3 (.int .i64))], .l (.d false .bool)], fun x => s_DualCone x⟩
noncomputable def c_s_DualCone : Ctx := ⟨Try.prog, TT, [e_s_IsCone], [], [], [], [], []⟩
theorem k_s_DualCone (x : PMs.den e_s_DualCone.ps) : funK c_s_DualCone Try.f30 e_s_DualCone.ps e_s_DualCone.rs x = e_s_DualCone.F x := by kernel_rfl
theorem o_s_DualCone : FnOk Try.prog e_s_DualCone.f ∧ Ctr Try.prog e_s_DualCone := mkCtr (C := c_s_DualCone) m_ (⟨o_s_IsCone, trivial⟩) Try.func30 (by kernel_rfl) k_s_DualCone
/-! loop.example/g00959/impl.MeetCones -/
noncomputable def i_MeetCones (x0 : (List Int) × (List Int)) (x1 : (List Int) × (List Int)) : Option ((List Int × List Int) × Bool) :=
(i_IsCone (x0.1, x0.2)).bind fun v1 => cond (!v1)
 (some ((([] : List Int), ([] : List Int)), false))
 ((i_IsCone (x1.1, x1.2)).bind fun v2 => cond (!v2)
 (some ((([] : List Int), ([] : List Int)), false))
 ((i_InCone (x1.1, x1.2) x0.1).bind fun v3 => cond v3
 ((i_copyInts x0.1).bind fun v4 => (i_InCone (x1.1, x1.2) x0.2).bind fun v5 => cond v5
 ((i_copyInts x0.2).bind fun v6 => (i_IsCone (v4, v6)).bind fun v7 => cond (!v7)
 (some ((([] : List Int), ([] : List Int)), false))
 (some ((v4, v6), true)))
 ((i_InCone (x0.1, x0.2) x1.2).bind fun v8 => cond v8
 ((i_copyInts x1.2).bind fun v9 => (i_IsCone (v4, v9)).bind fun v10 => cond (!v10)
 (some ((([] : List Int), ([] : List Int)), false))
 (some ((v4, v9), true)))
 ((i_IsCone (v4, ([] : List Int))).bind fun v11 => cond (!v11)
 (some ((([] : List Int), ([] : List Int)), false))
 (some ((v4, ([] : List Int)), true)))))
 ((i_InCone (x0.1, x0.2) x1.1).bind fun v12 => cond v12
 ((i_copyInts x1.1).bind fun v13 => (i_InCone (x1.1, x1.2) x0.2).bind fun v14 => cond v14
 ((i_copyInts x0.2).bind fun v15 => (i_IsCone (v13, v15)).bind fun v16 => cond (!v16)
 (some ((([] : List Int), ([] : List Int)), false))
 (some ((v13, v15), true)))
 ((i_InCone (x0.1, x0.2) x1.2).bind fun v17 => cond v17
 ((i_copyInts x1.2).bind fun v18 => (i_IsCone (v13, v18)).bind fun v19 => cond (!v19)
 (some ((([] : List Int), ([] : List Int)), false))
 (some ((v13, v18), true)))
 ((i_IsCone (v13, ([] : List Int))).bind fun v20 => cond (!v20)
 (some ((([] : List Int), ([] : List Int)), false))
 (some ((v13, ([] : List Int)), true)))))
 ((i_InCone (x1.1, x1.2) x0.2).bind fun v21 => cond v21
 ((i_copyInts x0.2).bind fun v22 => (i_IsCone (([] : List Int), v22)).bind fun v23 => cond (!v23)
 (some ((([] : List Int), ([] : List Int)), false))
 (some ((([] : List Int), v22), true)))
 ((i_InCone (x0.1, x0.2) x1.2).bind fun v24 => cond v24
 ((i_copyInts x1.2).bind fun v25 => (i_IsCone (([] : List Int), v25)).bind fun v26 => cond (!v26)
 (some ((([] : List Int), ([] : List Int)), false))
 (some ((([] : List Int), v25), true)))
 ((i_IsCone (([] : List Int), ([] : List Int))).bind fun v27 => cond (!v27)
 (some ((([] : List Int), ([] : List Int)), false))
 (some ((([] : List Int), ([] : List Int)), true))))))))
noncomputable def e_i_MeetCones : CallE := ⟨32, [.d false (.prod (.list (.int .i64)) (.list (.int .i64))), .d false (.prod (.list (.int .i64)) (.list (.int .i64)))], [.a [(.o true 3 (.int .i64)), (.o true 3 (.int .i64))], .l (.d false .bool)], fun x => i_MeetCones x.1 x.2⟩
noncomputable def c_i_MeetCones_59 : Ctx := ⟨Try.prog, TT, [e_i_InCone, e_i_copyInts], [], [], [], [], []⟩
noncomputable def n_i_MeetCones_59 : InE := ⟨59, true, inlK c_i_MeetCones_59 Try.f59⟩
theorem q_i_MeetCones_59 : FnOk Try.prog n_i_MeetCones_59.f ∧ InOk Try.prog n_i_MeetCones_59 := mkInlD (C := c_i_MeetCones_59) m_ (⟨o_i_InCone, o_i_copyInts, trivial⟩) Try.func59 (by kernel_rfl) (by kernel_rfl) rfl
noncomputable def c_i_MeetCones : Ctx := ⟨Try.prog, TT, [e_i_IsCone], [], [⟨4, [2, 3], []⟩], [n_i_MeetCones_59], [], []⟩
theorem k_i_MeetCones (x : PMs.den e_i_MeetCones.ps) : funK c_i_MeetCones Try.f32 e_i_MeetCones.ps e_i_MeetCones.rs x = e_i_MeetCones.F x := by kernel_rfl
theorem o_i_MeetCones : FnOk Try.prog e_i_MeetCones.f ∧ Ctr Try.prog e_i_MeetCones := mkCtr (C := c_i_MeetCones) m_ (⟨o_i_IsCone, trivial⟩) Try.func32 (by kernel_rfl) k_i_MeetCones ⟨q_i_MeetCones_59, trivial⟩
/-! loop.example/g00959/spec.MeetCones -/
noncomputable def s_MeetCones (x0 : (List Int) × (List Int)) (x1 : (List Int) × (List Int)) : Option ((List Int × List Int) × Bool) :=
(s_IsCone (x0.1, x0.2)).bind fun v1 => cond (!v1)
 (some ((([] : List Int), ([] : List Int)), false))
 ((s_IsCone (x1.1, x1.2)).bind fun v2 => cond (!v2)
 (some ((([] : List Int), ([] : List Int)), false))
 ((s_InCone (x0.1, x0.2) x1.1).bind fun v3 => cond v3
 ((s_InCone (x0.1, x0.2) x1.2).bind fun v4 => cond v4
 ((appD 8 ([] : List Int) x1.1).bind fun v5 => (appD 8 ([] : List Int) x1.2).bind fun v6 => (s_IsCone (v5, v6)).bind fun v7 => cond (!v7)
 (some ((([] : List Int), ([] : List Int)), false))
 ((s_InCone (x1.1, x1.2) v5).bind fun v8 => cond (!v8)
 (some ((([] : List Int), ([] : List Int)), false))
 ((s_InCone (x1.1, x1.2) v6).bind fun v9 => cond (!v9)
 (some ((([] : List Int), ([] : List Int)), false))
 (some ((v5, v6), true)))))
 ((appD 8 ([] : List Int) x1.1).bind fun v10 => (appD 8 ([] : List Int) x0.2).bind fun v11 => (s_IsCone (v10, v11)).bind fun v12 => cond (!v12)
 (some ((([] : List Int), ([] : List Int)), false))
 ((s_InCone (x1.1, x1.2) v10).bind fun v13 => cond (!v13)
 (some ((([] : List Int), ([] : List Int)), false))
 ((s_InCone (x1.1, x1.2) v11).bind fun v14 => cond (!v14)
 (some ((([] : List Int), ([] : List Int)), false))
 (some ((v10, v11), true))))))
 ((s_InCone (x0.1, x0.2) x1.2).bind fun v15 => cond v15
 ((appD 8 ([] : List Int) x0.1).bind fun v16 => (appD 8 ([] : List Int) x1.2).bind fun v17 => (s_IsCone (v16, v17)).bind fun v18 => cond (!v18)
 (some ((([] : List Int), ([] : List Int)), false))
 ((s_InCone (x1.1, x1.2) v16).bind fun v19 => cond (!v19)
 (some ((([] : List Int), ([] : List Int)), false))
 ((s_InCone (x1.1, x1.2) v17).bind fun v20 => cond (!v20)
 (some ((([] : List Int), ([] : List Int)), false))
 (some ((v16, v17), true)))))
 ((appD 8 ([] : List Int) x0.1).bind fun v21 => (appD 8 ([] : List Int) x0.2).bind fun v22 => (s_IsCone (v21, v22)).bind fun v23 => cond (!v23)
 (some ((([] : List Int), ([] : List Int)), false))
 ((s_InCone (x1.1, x1.2) v21).bind fun v24 => cond (!v24)
 (some ((([] : List Int), ([] : List Int)), false))
 ((s_InCone (x1.1, x1.2) v22).bind fun v25 => cond (!v25)
 (some ((([] : List Int), ([] : List Int)), false))
 (some ((v21, v22), true))))))))
noncomputable def e_s_MeetCones : CallE := ⟨33, [.d false (.prod (.list (.int .i64)) (.list (.int .i64))), .d false (.prod (.list (.int .i64)) (.list (.int .i64)))], [.a [(.o true 3 (.int .i64)), (.o true 3 (.int .i64))], .l (.d false .bool)], fun x => s_MeetCones x.1 x.2⟩
noncomputable def c_s_MeetCones : Ctx := ⟨Try.prog, TT, [e_s_IsCone, e_s_InCone], [], [], [], [], []⟩
theorem k_s_MeetCones (x : PMs.den e_s_MeetCones.ps) : funK c_s_MeetCones Try.f33 e_s_MeetCones.ps e_s_MeetCones.rs x = e_s_MeetCones.F x := by kernel_rfl
theorem o_s_MeetCones : FnOk Try.prog e_s_MeetCones.f ∧ Ctr Try.prog e_s_MeetCones := mkCtr (C := c_s_MeetCones) m_ (⟨o_s_IsCone, o_s_InCone, trivial⟩) Try.func33 (by kernel_rfl) k_s_MeetCones
/-! loop.example/g00959/spec.LengthIn -/
noncomputable def s_LengthIn_s6 (v1 : List Int × Bool) (v2 : Int × Int) : Option ((Int × Int) ⊕ (Int)) :=
 cond (decide (v2.2 < (v1.1.length : Int)))
 ((idx v1.1 v2.2).bind fun v3 => some (.inl ((IntKind.i64.wrap (v2.1 + v3)), (IntKind.i64.wrap (v2.2 + (1 : Int))))))
 (some (.inr v2.1))
noncomputable def s_LengthIn (x0 : (List Int) × (List Int)) (x1 : List Int) : Option (Int) :=
(s_ExpressIn (x0.1, x0.2) x1).bind fun v1 => cond (!v1.2)
 (some (-1 : Int))
 ((iter (s_LengthIn_s6 v1) ((0 : Int), (0 : Int))).bind fun v4 => some v4)
noncomputable def e_s_LengthIn : CallE := ⟨34, [.d false (.prod (.list (.int .i64)) (.list (.int .i64))), .d false (.list (.int .i64))], [.l (.d false (.int .i64))], fun x => s_LengthIn x.1 x.2⟩
noncomputable def c_s_LengthIn : Ctx := ⟨Try.prog, TT, [e_s_ExpressIn], [⟨6, [(7, .l (.d false (.int .i64))), (8, .l (.d false (.int .i64)))], some (0, [(7, .l (.d false (.int .i64)))]), none, false⟩], [], [], [], []⟩
theorem k_s_LengthIn (x : PMs.den e_s_LengthIn.ps) : funK c_s_LengthIn Try.f34 e_s_LengthIn.ps e_s_LengthIn.rs x = e_s_LengthIn.F x := by kernel_rfl
theorem o_s_LengthIn : FnOk Try.prog e_s_LengthIn.f ∧ Ctr Try.prog e_s_LengthIn := mkCtr (C := c_s_LengthIn) m_ (⟨o_s_ExpressIn, trivial⟩) Try.func34 (by kernel_rfl) k_s_LengthIn
/-! loop.example/g00959/impl.IsSumOfTwo -/
noncomputable def i_IsSumOfTwo (x0 : (List Int) × (List Int)) (x1 : List Int) : Option (Bool) :=
(i_LengthIn (x0.1, x0.2) x1).bind fun v1 => some (decide (v1 ≥ (2 : Int)))
noncomputable def e_i_IsSumOfTwo : CallE := ⟨35, [.d false (.prod (.list (.int .i64)) (.list (.int .i64))), .d false (.list (.int .i64))], [.l (.d false .bool)], fun x => i_IsSumOfTwo x.1 x.2⟩
noncomputable def c_i_IsSumOfTwo : Ctx := ⟨Try.prog, TT, [e_i_LengthIn], [], [], [], [], []⟩
theorem k_i_IsSumOfTwo (x : PMs.den e_i_IsSumOfTwo.ps) : funK c_i_IsSumOfTwo Try.f35 e_i_IsSumOfTwo.ps e_i_IsSumOfTwo.rs x = e_i_IsSumOfTwo.F x := by kernel_rfl
theorem o_i_IsSumOfTwo : FnOk Try.prog e_i_IsSumOfTwo.f ∧ Ctr Try.prog e_i_IsSumOfTwo := mkCtr (C := c_i_IsSumOfTwo) m_ (⟨o_i_LengthIn, trivial⟩) Try.func35 (by kernel_rfl) k_i_IsSumOfTwo
/-! loop.example/g00959/spec.IsSumOfTwo -/
noncomputable def s_IsSumOfTwo (x0 : (List Int) × (List Int)) (x1 : List Int) : Option (Bool) :=
(s_LengthIn (x0.1, x0.2) x1).bind fun v1 => some (decide (v1 > (1 : Int)))
noncomputable def e_s_IsSumOfTwo : CallE := ⟨36, [.d false (.prod (.list (.int .i64)) (.list (.int .i64))), .d false (.list (.int .i64))], [.l (.d false .bool)], fun x => s_IsSumOfTwo x.1 x.2⟩
noncomputable def c_s_IsSumOfTwo : Ctx := ⟨Try.prog, TT, [e_s_LengthIn], [], [], [], [], []⟩
theorem k_s_IsSumOfTwo (x : PMs.den e_s_IsSumOfTwo.ps) : funK c_s_IsSumOfTwo Try.f36 e_s_IsSumOfTwo.ps e_s_IsSumOfTwo.rs x = e_s_IsSumOfTwo.F x := by kernel_rfl
theorem o_s_IsSumOfTwo : FnOk Try.prog e_s_IsSumOfTwo.f ∧ Ctr Try.prog e_s_IsSumOfTwo := mkCtr (C := c_s_IsSumOfTwo) m_ (⟨o_s_LengthIn, trivial⟩) Try.func36 (by kernel_rfl) k_s_IsSumOfTwo
/-! loop.example/g00959/laws.sameCone -/
noncomputable def w_sameCone (x0 : (List Int) × (List Int)) (x1 : (List Int) × (List Int)) : Option (Bool) :=
(w_sameInts x0.1 x1.1).bind fun v1 => cond v1
 ((w_sameInts x0.2 x1.2).bind fun v2 => some v2)
 (some false)
noncomputable def e_w_sameCone : CallE := ⟨37, [.d false (.prod (.list (.int .i64)) (.list (.int .i64))), .d false (.prod (.list (.int .i64)) (.list (.int .i64)))], [.l (.d false .bool)], fun x => w_sameCone x.1 x.2⟩
noncomputable def c_w_sameCone : Ctx := ⟨Try.prog, TT, [e_w_sameInts], [], [], [], [], []⟩
theorem k_w_sameCone (x : PMs.den e_w_sameCone.ps) : funK c_w_sameCone Try.f37 e_w_sameCone.ps e_w_sameCone.rs x = e_w_sameCone.F x := by kernel_rfl
theorem o_w_sameCone : FnOk Try.prog e_w_sameCone.f ∧ Ctr Try.prog e_w_sameCone := mkCtr (C := c_w_sameCone) m_ (⟨o_w_sameInts, trivial⟩) Try.func37 (by kernel_rfl) k_w_sameCone
/-! loop.example/g00959/laws.plus -/
noncomputable def w_plus_s3 (x0 : List Int) (x1 : List Int) (v1 : List Int × Int) : Option ((List Int × Int) ⊕ (List Int)) :=
 cond (decide (v1.2 < (x0.length : Int)))
 (cond (decide (v1.2 < (x1.length : Int)))
 ((idx x0 v1.2).bind fun v2 => (idx x1 v1.2).bind fun v3 => (appD 8 v1.1 ([(IntKind.i64.wrap (v2 + v3))] : List Int)).bind fun v4 => some (.inl (v4, (IntKind.i64.wrap (v1.2 + (1 : Int))))))
 (some (.inr v1.1)))
 (some (.inr v1.1))
noncomputable def w_plus (x0 : List Int) (x1 : List Int) : Option (List Int) :=
(iter (w_plus_s3 x0 x1) (([] : List Int), (0 : Int))).bind fun v5 => some v5
noncomputable def e_w_plus : CallE := ⟨41, [.d false (.list (.int .i64)), .d false (.list (.int .i64))], [.l (.o true 3 (.int .i64))], fun x => w_plus x.1 x.2⟩
noncomputable def c_w_plus : Ctx := ⟨Try.prog, TT, [], [⟨3, [(5, .l (.o true 3 (.int .i64))), (6, .l (.d false (.int .i64)))], some (0, [(5, .l (.o true 3 (.int .i64)))]), none, false⟩], [], [], [], []⟩
theorem k_w_plus (x : PMs.den e_w_plus.ps) : funK c_w_plus Try.f41 e_w_plus.ps e_w_plus.rs x = e_w_plus.F x := by kernel_rfl
theorem o_w_plus : FnOk Try.prog e_w_plus.f ∧ Ctr Try.prog e_w_plus := mkCtr (C := c_w_plus) m_ (trivial) Try.func41 (by kernel_rfl) k_w_plus
/-! loop.example/g00959/laws.scaled -/
noncomputable def w_scaled_s3 (x0 : List Int) (x1 : Int) (v1 : List Int × Int) : Option ((List Int × Int) ⊕ (List Int)) :=
 cond (decide (v1.2 < (x0.length : Int)))
 ((idx x0 v1.2).bind fun v2 => (appD 8 v1.1 ([(IntKind.i64.wrap (v2 * x1))] : List Int)).bind fun v3 => some (.inl (v3, (IntKind.i64.wrap (v1.2 + (1 : Int))))))
 (some (.inr v1.1))
noncomputable def w_scaled (x0 : List Int) (x1 : Int) : Option (List Int) :=
(iter (w_scaled_s3 x0 x1) (([] : List Int), (0 : Int))).bind fun v4 => some v4
noncomputable def e_w_scaled : CallE := ⟨42, [.d false (.list (.int .i64)), .d false (.int .i64)], [.l (.o true 3 (.int .i64))], fun x => w_scaled x.1 x.2⟩
noncomputable def c_w_scaled : Ctx := ⟨Try.prog, TT, [], [⟨3, [(5, .l (.o true 3 (.int .i64))), (6, .l (.d false (.int .i64)))], some (0, [(5, .l (.o true 3 (.int .i64)))]), none, false⟩], [], [], [], []⟩
theorem k_w_scaled (x : PMs.den e_w_scaled.ps) : funK c_w_scaled Try.f42 e_w_scaled.ps e_w_scaled.rs x = e_w_scaled.F x := by kernel_rfl
theorem o_w_scaled : FnOk Try.prog e_w_scaled.f ∧ Ctr Try.prog e_w_scaled := mkCtr (C := c_w_scaled) m_ (trivial) Try.func42 (by kernel_rfl) k_w_scaled
/-! loop.example/g00959/spec.l1New -/
noncomputable def s_l1New_s3 (x0 : List Int) (v1 : Int × Int) : Option ((Int × Int) ⊕ (Int)) :=
 cond (decide (v1.2 < (x0.length : Int)))
 (cond (decide (v1.2 < (4000 : Int)))
 ((idx x0 v1.2).bind fun v2 => some (.inl ((andI .i64 (IntKind.i64.wrap ((IntKind.i64.wrap ((IntKind.i64.wrap (v1.1 * (131 : Int))) + (IntKind.i64.wrap v2))) + (7 : Int))) (1073741823 : Int)), (IntKind.i64.wrap (v1.2 + (1 : Int))))))
 (some (.inr v1.1)))
 (some (.inr v1.1))
noncomputable def s_l1New (x0 : List Int) : Option (List Int × Int × Int) :=
(iter (s_l1New_s3 x0) ((IntKind.i64.wrap ((26583 : Int) + (x0.length : Int))), (0 : Int))).bind fun v3 => some (x0, ((0 : Int), v3))
noncomputable def e_s_l1New : CallE := ⟨44, [.d false (.list (.int .u8))], [.b 64 [(.d false (.list (.int .u8))), (.d false (.int .i64)), (.d false (.int .i64))]], fun x => s_l1New x⟩
noncomputable def c_s_l1New : Ctx := ⟨Try.prog, TT, [], [⟨3, [(3, .l (.d false (.int .i64))), (4, .l (.d false (.int .i64)))], some (0, [(3, .l (.d false (.int .i64)))]), none, true⟩], [], [], [], []⟩
theorem k_s_l1New (x : PMs.den e_s_l1New.ps) : funK c_s_l1New Try.f44 e_s_l1New.ps e_s_l1New.rs x = e_s_l1New.F x := by kernel_rfl
theorem o_s_l1New : FnOk Try.prog e_s_l1New.f ∧ Ctr Try.prog e_s_l1New := mkCtr (C := c_s_l1New) m_ (trivial) Try.func44 (by kernel_rfl) k_s_l1New
end Go.Proofs.Ytdkkjgbgodnopaa
