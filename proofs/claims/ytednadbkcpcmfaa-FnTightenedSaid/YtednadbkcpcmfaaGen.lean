/- Plain functions. -/
import Derived.Test.YtednadbkcpcmfaaProg
import Derived.Test.YtednadbkcpcmfaaEm5
import Derived.Test.YtednadbkcpcmfaaEmN
import Derived.KernelRfl
namespace Go.Proofs.Ytednadbkcpcmfaa
open Go Go.Proofs.Ytednadbkcpcmfaa.Eng
set_option linter.unusedVariables false
set_option maxRecDepth 100000
noncomputable def TT : List (TypeId × Ty) := [(3, (.int .i64)), (5, (.int .u8)), (24, (.list (.int .i64))), (26, (.prod (.list (.int .i64)) (.int .i64))), (42, (.prod (.list (.int .i64)) (.int .i64)))]
theorem m_ : Try.prog.follows .mixedOrders = true := by kernel_rfl
/-! loop.example/g00959/laws.big -/
noncomputable def w_big (x0 : List Int) : Option (Bool) :=
 some (decide ((x0.length : Int) > (1048576 : Int)))
noncomputable def e_w_big : CallE := ⟨4, [.d false (.list (.int .u8))], [.l (.d false .bool)], fun x => w_big x⟩
noncomputable def c_w_big : Ctx := ⟨Try.prog, TT, [], [], [], [], [], []⟩
theorem k_w_big (x : PMs.den e_w_big.ps) : funK c_w_big Try.f4 e_w_big.ps e_w_big.rs x = e_w_big.F x := by kernel_rfl
theorem o_w_big {D : Prop} : FnOk Try.prog e_w_big.f ∧ Ctr D Try.prog e_w_big := mkCtr (C := c_w_big) m_ (trivial) Try.func4 (by kernel_rfl) k_w_big
/-! loop.example/g00959/spec.l1Byte -/
noncomputable def s_l1Byte (x0 : (List Int) × Int × Int) : Option ((Int) × ((List Int) × Int × Int) × Unit) :=
(shrI .i64 (IntKind.i64.wrap ((IntKind.i64.wrap (x0.2.2 * (6364136223846793005 : Int))) + (1442695040888963407 : Int))) (33 : Int)).bind fun v1 => (shrI .i64 (IntKind.i64.wrap ((IntKind.i64.wrap (x0.2.2 * (6364136223846793005 : Int))) + (1442695040888963407 : Int))) (45 : Int)).bind fun v2 => cond (decide (x0.2.1 < (x0.1.length : Int)))
 ((idx x0.1 x0.2.1).bind fun v3 => some ((andI .i64 (IntKind.i64.wrap ((andI .i64 (xorI .i64 v1 v2) (255 : Int)) + (IntKind.i64.wrap v3))) (255 : Int)), ((x0.1, ((IntKind.i64.wrap (x0.2.1 + (1 : Int))), (IntKind.i64.wrap ((IntKind.i64.wrap (x0.2.2 * (6364136223846793005 : Int))) + (1442695040888963407 : Int))))), ())))
 (some ((andI .i64 (xorI .i64 v1 v2) (255 : Int)), ((x0.1, (x0.2.1, (IntKind.i64.wrap ((IntKind.i64.wrap (x0.2.2 * (6364136223846793005 : Int))) + (1442695040888963407 : Int))))), ())))
noncomputable def e_s_l1Byte : CallE := ⟨65, [.cur 81], [.l (.d false (.int .i64))], fun x => s_l1Byte x⟩
noncomputable def c_s_l1Byte : Ctx := ⟨Try.prog, TT, [], [], [⟨2, [], [], [], 0⟩, ⟨3, [], [], [], 0⟩, ⟨4, [], [], [], 0⟩], [], [], []⟩
theorem k_s_l1Byte (x : PMs.den e_s_l1Byte.ps) : funK c_s_l1Byte Try.f65 e_s_l1Byte.ps e_s_l1Byte.rs x = e_s_l1Byte.F x := by kernel_rfl
theorem o_s_l1Byte {D : Prop} : FnOk Try.prog e_s_l1Byte.f ∧ Ctr D Try.prog e_s_l1Byte := mkCtr (C := c_s_l1Byte) m_ (trivial) Try.func65 (by kernel_rfl) k_s_l1Byte
/-! loop.example/g00959/spec.l1Below -/
noncomputable def s_l1Below (x0 : (List Int) × Int × Int) (x1 : Int) : Option ((Int) × ((List Int) × Int × Int) × Unit) :=
 cond (decide (x1 ≤ (0 : Int)))
 (some ((0 : Int), ((x0.1, (x0.2.1, x0.2.2)), ())))
 (cond (decide (x1 ≤ (256 : Int)))
 ((s_l1Byte (x0.1, (x0.2.1, x0.2.2))).bind fun v1 => (remI .i64 v1.1 x1).bind fun v2 => some (v2, ((v1.2.1.1, (v1.2.1.2.1, v1.2.1.2.2)), ())))
 ((s_l1Byte (x0.1, (x0.2.1, x0.2.2))).bind fun v3 => (s_l1Byte (v3.2.1.1, (v3.2.1.2.1, v3.2.1.2.2))).bind fun v4 => (s_l1Byte (v4.2.1.1, (v4.2.1.2.1, v4.2.1.2.2))).bind fun v5 => (s_l1Byte (v5.2.1.1, (v5.2.1.2.1, v5.2.1.2.2))).bind fun v6 => (remI .i64 (IntKind.i64.wrap ((IntKind.i64.wrap ((IntKind.i64.wrap ((IntKind.i64.wrap (v3.1 * (16777216 : Int))) + (IntKind.i64.wrap (v4.1 * (65536 : Int))))) + (IntKind.i64.wrap (v5.1 * (256 : Int))))) + v6.1)) x1).bind fun v7 => some (v7, ((v6.2.1.1, (v6.2.1.2.1, v6.2.1.2.2)), ()))))
noncomputable def e_s_l1Below : CallE := ⟨30, [.cur 81, .d false (.int .i64)], [.l (.d false (.int .i64))], fun x => s_l1Below x.1 x.2⟩
noncomputable def c_s_l1Below : Ctx := ⟨Try.prog, TT, [e_s_l1Byte], [], [], [], [], []⟩
theorem k_s_l1Below (x : PMs.den e_s_l1Below.ps) : funK c_s_l1Below Try.f30 e_s_l1Below.ps e_s_l1Below.rs x = e_s_l1Below.F x := by kernel_rfl
theorem o_s_l1Below {D : Prop} : FnOk Try.prog e_s_l1Below.f ∧ Ctr D Try.prog e_s_l1Below := mkCtr (C := c_s_l1Below) m_ (⟨o_s_l1Byte, trivial⟩) Try.func30 (by kernel_rfl) k_s_l1Below
/-! loop.example/g00959/spec.l1Once -/
noncomputable def s_l1Once (x0 : (List Int) × Int × Int) (x1 : Int) : Option ((Bool) × ((List Int) × Int × Int) × Unit) :=
(s_l1Below (x0.1, (x0.2.1, x0.2.2)) x1).bind fun v1 => some ((v1.1 == (0 : Int)), ((v1.2.1.1, (v1.2.1.2.1, v1.2.1.2.2)), ()))
noncomputable def e_s_l1Once : CallE := ⟨44, [.cur 81, .d false (.int .i64)], [.l (.d false .bool)], fun x => s_l1Once x.1 x.2⟩
noncomputable def c_s_l1Once : Ctx := ⟨Try.prog, TT, [e_s_l1Below], [], [], [], [], []⟩
theorem k_s_l1Once (x : PMs.den e_s_l1Once.ps) : funK c_s_l1Once Try.f44 e_s_l1Once.ps e_s_l1Once.rs x = e_s_l1Once.F x := by kernel_rfl
theorem o_s_l1Once {D : Prop} : FnOk Try.prog e_s_l1Once.f ∧ Ctr D Try.prog e_s_l1Once := mkCtr (C := c_s_l1Once) m_ (⟨o_s_l1Below, trivial⟩) Try.func44 (by kernel_rfl) k_s_l1Once
/-! loop.example/g00959/spec.l2Draw -/
noncomputable def s_l2Draw_s3 (x1 : Int) (x2 : Int) (v1 : (List Int × Int × Int) × List Int × Int) : Option (((List Int × Int × Int) × List Int × Int) ⊕ ((List Int × Int × Int) × List Int)) :=
 cond (decide (v1.2.2 < x1))
 ((s_l1Below (v1.1.1, (v1.1.2.1, v1.1.2.2)) (IntKind.i64.wrap ((IntKind.i64.wrap ((2 : Int) * x2)) + (1 : Int)))).bind fun v2 => (appD 8 v1.2.1 ([(IntKind.i64.wrap (v2.1 - x2))] : List Int)).bind fun v3 => some (.inl ((v2.2.1.1, (v2.2.1.2.1, v2.2.1.2.2)), (v3, (IntKind.i64.wrap (v1.2.2 + (1 : Int)))))))
 (some (.inr ((v1.1.1, (v1.1.2.1, v1.1.2.2)), v1.2.1)))
noncomputable def s_l2Draw (x0 : (List Int) × Int × Int) (x1 : Int) (x2 : Int) : Option ((List Int) × ((List Int) × Int × Int) × Unit) :=
(iter (s_l2Draw_s3 x1 x2) ((x0.1, (x0.2.1, x0.2.2)), (([] : List Int), (0 : Int)))).bind fun v4 => some (v4.2, ((v4.1.1, (v4.1.2.1, v4.1.2.2)), ()))
noncomputable def e_s_l2Draw : CallE := ⟨73, [.cur 81, .d false (.int .i64), .d false (.int .i64)], [.l (.o true 3 (.int .i64))], fun x => s_l2Draw x.1 x.2.1 x.2.2⟩
noncomputable def c_s_l2Draw : Ctx := ⟨Try.prog, TT, [e_s_l1Below], [⟨3, [(0, .b 81 [(.d false (.list (.int .u8))), (.d false (.int .i64)), (.d false (.int .i64))]), (7, .l (.o true 3 (.int .i64))), (8, .l (.d false (.int .i64)))], some (0, [(0, .b 81 [(.d false (.list (.int .u8))), (.d false (.int .i64)), (.d false (.int .i64))]), (7, .l (.o true 3 (.int .i64)))]), none, false⟩], [], [], [], []⟩
theorem k_s_l2Draw (x : PMs.den e_s_l2Draw.ps) : funK c_s_l2Draw Try.f73 e_s_l2Draw.ps e_s_l2Draw.rs x = e_s_l2Draw.F x := by kernel_rfl
theorem o_s_l2Draw {D : Prop} : FnOk Try.prog e_s_l2Draw.f ∧ Ctr D Try.prog e_s_l2Draw := mkCtr (C := c_s_l2Draw) m_ (⟨o_s_l1Below, trivial⟩) Try.func73 (by kernel_rfl) k_s_l2Draw
/-! loop.example/g00959/spec.l1Max -/
noncomputable def s_l1Max (x0 : Int) (x1 : Int) : Option (Int) :=
 cond (decide (x0 > x1))
 (some x0)
 (some x1)
noncomputable def e_s_l1Max : CallE := ⟨52, [.d false (.int .i64), .d false (.int .i64)], [.l (.d false (.int .i64))], fun x => s_l1Max x.1 x.2⟩
noncomputable def c_s_l1Max : Ctx := ⟨Try.prog, TT, [], [], [], [], [], []⟩
theorem k_s_l1Max (x : PMs.den e_s_l1Max.ps) : funK c_s_l1Max Try.f52 e_s_l1Max.ps e_s_l1Max.rs x = e_s_l1Max.F x := by kernel_rfl
theorem o_s_l1Max {D : Prop} : FnOk Try.prog e_s_l1Max.f ∧ Ctr D Try.prog e_s_l1Max := mkCtr (C := c_s_l1Max) m_ (trivial) Try.func52 (by kernel_rfl) k_s_l1Max
/-! loop.example/g00959/spec.l1Abs -/
noncomputable def s_l1Abs (x0 : Int) : Option (Int) :=
(s_l1Max x0 (IntKind.i64.wrap (0 - x0))).bind fun v1 => some v1
noncomputable def e_s_l1Abs : CallE := ⟨85, [.d false (.int .i64)], [.l (.d false (.int .i64))], fun x => s_l1Abs x⟩
noncomputable def c_s_l1Abs : Ctx := ⟨Try.prog, TT, [e_s_l1Max], [], [], [], [], []⟩
theorem k_s_l1Abs (x : PMs.den e_s_l1Abs.ps) : funK c_s_l1Abs Try.f85 e_s_l1Abs.ps e_s_l1Abs.rs x = e_s_l1Abs.F x := by kernel_rfl
theorem o_s_l1Abs {D : Prop} : FnOk Try.prog e_s_l1Abs.f ∧ Ctr D Try.prog e_s_l1Abs := mkCtr (C := c_s_l1Abs) m_ (⟨o_s_l1Max, trivial⟩) Try.func85 (by kernel_rfl) k_s_l1Abs
/-! loop.example/g00959/spec.l2Gcd -/
noncomputable def s_l2Gcd_s3 (v3 : Int × Int) : Option ((Int × Int) ⊕ (Int)) :=
 cond (v3.2 != (0 : Int))
 ((remI .i64 v3.1 v3.2).bind fun v4 => some (.inl (v3.2, v4)))
 (some (.inr v3.1))
noncomputable def s_l2Gcd (x0 : Int) (x1 : Int) : Option (Int) :=
(s_l1Abs x0).bind fun v1 => (s_l1Abs x1).bind fun v2 => (iter (s_l2Gcd_s3) (v1, v2)).bind fun v5 => some v5
noncomputable def e_s_l2Gcd : CallE := ⟨81, [.d false (.int .i64), .d false (.int .i64)], [.l (.d false (.int .i64))], fun x => s_l2Gcd x.1 x.2⟩
noncomputable def c_s_l2Gcd : Ctx := ⟨Try.prog, TT, [e_s_l1Abs], [⟨3, [(0, .l (.d false (.int .i64))), (1, .l (.d false (.int .i64)))], some (0, [(0, .l (.d false (.int .i64)))]), none, false⟩], [], [], [], []⟩
theorem k_s_l2Gcd (x : PMs.den e_s_l2Gcd.ps) : funK c_s_l2Gcd Try.f81 e_s_l2Gcd.ps e_s_l2Gcd.rs x = e_s_l2Gcd.F x := by kernel_rfl
theorem o_s_l2Gcd {D : Prop} : FnOk Try.prog e_s_l2Gcd.f ∧ Ctr D Try.prog e_s_l2Gcd := mkCtr (C := c_s_l2Gcd) m_ (⟨o_s_l1Abs, trivial⟩) Try.func81 (by kernel_rfl) k_s_l2Gcd
/-! loop.example/g00959/spec.l2All -/
noncomputable def s_l2All_s3 (x0 : List Int) (v1 : Int × Int) : Option ((Int × Int) ⊕ (Int)) :=
 cond (decide (v1.2 < (x0.length : Int)))
 ((idx x0 v1.2).bind fun v2 => (s_l2Gcd v1.1 v2).bind fun v3 => some (.inl (v3, (IntKind.i64.wrap (v1.2 + (1 : Int))))))
 (some (.inr v1.1))
noncomputable def s_l2All (x0 : List Int) : Option (Int) :=
(iter (s_l2All_s3 x0) ((0 : Int), (0 : Int))).bind fun v4 => some v4
noncomputable def e_s_l2All : CallE := ⟨62, [.d false (.list (.int .i64))], [.l (.d false (.int .i64))], fun x => s_l2All x⟩
noncomputable def c_s_l2All : Ctx := ⟨Try.prog, TT, [e_s_l2Gcd], [⟨3, [(3, .l (.d false (.int .i64))), (4, .l (.d false (.int .i64)))], some (0, [(3, .l (.d false (.int .i64)))]), none, false⟩], [], [], [], []⟩
theorem k_s_l2All (x : PMs.den e_s_l2All.ps) : funK c_s_l2All Try.f62 e_s_l2All.ps e_s_l2All.rs x = e_s_l2All.F x := by kernel_rfl
theorem o_s_l2All {D : Prop} : FnOk Try.prog e_s_l2All.f ∧ Ctr D Try.prog e_s_l2All := mkCtr (C := c_s_l2All) m_ (⟨o_s_l2Gcd, trivial⟩) Try.func62 (by kernel_rfl) k_s_l2All
/-! loop.example/g00959/spec.l4Half -/
noncomputable def s_l4Half (x0 : (List Int) × Int × Int) (x1 : Int) : Option ((List Int × Int) × ((List Int) × Int × Int) × Unit) :=
(s_l2Draw (x0.1, (x0.2.1, x0.2.2)) x1 (3 : Int)).bind fun v1 => (s_l2All v1.1).bind fun v2 => cond (v2 == (0 : Int))
 ((inIdx v1.1.length (0 : Int)).bind fun _ => (inIdx v1.1.length (((0 : Int)).toNat : Int)).bind fun _ => (s_l1Below (v1.2.1.1, (v1.2.1.2.1, v1.2.1.2.2)) (11 : Int)).bind fun v3 => some (((v1.1.set (((0 : Int)).toNat) (1 : Int)), (IntKind.i64.wrap (v3.1 - (2 : Int)))), ((v3.2.1.1, (v3.2.1.2.1, v3.2.1.2.2)), ())))
 ((s_l1Below (v1.2.1.1, (v1.2.1.2.1, v1.2.1.2.2)) (11 : Int)).bind fun v4 => some ((v1.1, (IntKind.i64.wrap (v4.1 - (2 : Int)))), ((v4.2.1.1, (v4.2.1.2.1, v4.2.1.2.2)), ())))
noncomputable def e_s_l4Half : CallE := ⟨45, [.cur 81, .d false (.int .i64)], [.a [(.o true 3 (.int .i64)), (.d false (.int .i64))]], fun x => s_l4Half x.1 x.2⟩
noncomputable def c_s_l4Half : Ctx := ⟨Try.prog, TT, [e_s_l2Draw, e_s_l2All, e_s_l1Below], [], [], [], [], []⟩
theorem k_s_l4Half (x : PMs.den e_s_l4Half.ps) : funK c_s_l4Half Try.f45 e_s_l4Half.ps e_s_l4Half.rs x = e_s_l4Half.F x := by kernel_rfl
theorem o_s_l4Half {D : Prop} : FnOk Try.prog e_s_l4Half.f ∧ Ctr D Try.prog e_s_l4Half := mkCtr (C := c_s_l4Half) m_ (⟨o_s_l2Draw, o_s_l2All, o_s_l1Below, trivial⟩) Try.func45 (by kernel_rfl) k_s_l4Half
/-! loop.example/g00959/spec.l4Draw -/
noncomputable def s_l4Draw_s4 (x1 : Int) (v2 : (List Int × Int × Int) × (Int × List ((List Int) × Int)) × (Int × List ((List Int) × Int)) × Int) : Option (((List Int × Int × Int) × (Int × List ((List Int) × Int)) × (Int × List ((List Int) × Int)) × Int) ⊕ ((List Int × Int × Int) × (Int × List ((List Int) × Int)) × Int × List ((List Int) × Int))) :=
 cond (decide (v2.2.2.2 < x1))
 ((mkD 8 x1 (0 : Int)).bind fun v3 => (inIdx v3.length v2.2.2.2).bind fun _ => (inIdx v3.length ((v2.2.2.2).toNat : Int)).bind fun _ => (s_l1Below (v2.1.1, (v2.1.2.1, v2.1.2.2)) (3 : Int)).bind fun v4 => (appD 32 v2.2.2.1.2 ([((v3.set ((v2.2.2.2).toNat) (-1 : Int)), v4.1)] : List ((List Int) × Int))).bind fun v5 => some (.inl ((v4.2.1.1, (v4.2.1.2.1, v4.2.1.2.2)), ((v2.2.1.1, v2.2.1.2), ((v2.2.2.1.1, v5), (IntKind.i64.wrap (v2.2.2.2 + (1 : Int))))))))
 (some (.inr ((v2.1.1, (v2.1.2.1, v2.1.2.2)), ((v2.2.1.1, v2.2.1.2), (v2.2.2.1.1, v2.2.2.1.2)))))
noncomputable def s_l4Draw_s11 (x1 : Int) (v7 : (Int) × ((List Int) × Int × Int) × Unit) (v8 : (List Int × Int × Int) × (Int × List ((List Int) × Int)) × (Int × List ((List Int) × Int)) × Int) : Option (((List Int × Int × Int) × (Int × List ((List Int) × Int)) × (Int × List ((List Int) × Int)) × Int) ⊕ ((List Int × Int × Int) × (Int × List ((List Int) × Int)) × Int × List ((List Int) × Int))) :=
 cond (decide (v8.2.2.2 < (IntKind.i64.wrap ((1 : Int) + v7.1))))
 ((s_l4Half (v8.1.1, (v8.1.2.1, v8.1.2.2)) x1).bind fun v9 => (appD 32 v8.2.2.1.2 ([(v9.1.1, v9.1.2)] : List ((List Int) × Int))).bind fun v10 => some (.inl ((v9.2.1.1, (v9.2.1.2.1, v9.2.1.2.2)), ((v8.2.1.1, v8.2.1.2), ((v8.2.2.1.1, v10), (IntKind.i64.wrap (v8.2.2.2 + (1 : Int))))))))
 (some (.inr ((v8.1.1, (v8.1.2.1, v8.1.2.2)), ((v8.2.1.1, v8.2.1.2), (v8.2.2.1.1, v8.2.2.1.2)))))
noncomputable def s_l4Draw_s11b15 (x1 : Int) (v12 : (Int) × ((List Int) × Int × Int) × Unit) (v13 : (List Int × Int × Int) × (Int × List ((List Int) × Int)) × (Int × List ((List Int) × Int)) × Int) : Option (((List Int × Int × Int) × (Int × List ((List Int) × Int)) × (Int × List ((List Int) × Int)) × Int) ⊕ ((List Int × Int × Int) × (Int × List ((List Int) × Int)) × Int × List ((List Int) × Int))) :=
 cond (decide (v13.2.2.2 < (IntKind.i64.wrap ((1 : Int) + v12.1))))
 ((s_l4Half (v13.1.1, (v13.1.2.1, v13.1.2.2)) x1).bind fun v14 => (appD 32 v13.2.2.1.2 ([(v14.1.1, v14.1.2)] : List ((List Int) × Int))).bind fun v15 => some (.inl ((v14.2.1.1, (v14.2.1.2.1, v14.2.1.2.2)), ((v13.2.1.1, v13.2.1.2), ((v13.2.2.1.1, v15), (IntKind.i64.wrap (v13.2.2.2 + (1 : Int))))))))
 (some (.inr ((v13.1.1, (v13.1.2.1, v13.1.2.2)), ((v13.2.1.1, v13.2.1.2), (v13.2.2.1.1, v13.2.2.1.2)))))
noncomputable def s_l4Draw (x0 : (List Int) × Int × Int) (x1 : Int) : Option ((Int × List ((List Int) × Int)) × ((List Int) × Int × Int) × Unit) :=
(s_l1Once (x0.1, (x0.2.1, x0.2.2)) (2 : Int)).bind fun v1 => cond v1.1
 ((iter (s_l4Draw_s4 x1) ((v1.2.1.1, (v1.2.1.2.1, v1.2.1.2.2)), (((0 : Int), ([] : List ((List Int) × Int))), ((x1, ([] : List ((List Int) × Int))), (0 : Int))))).bind fun v6 => (s_l1Below (v6.1.1, (v6.1.2.1, v6.1.2.2)) (3 : Int)).bind fun v7 => (iter (s_l4Draw_s11 x1 v7) ((v7.2.1.1, (v7.2.1.2.1, v7.2.1.2.2)), ((v6.2.1.1, v6.2.1.2), ((v6.2.2.1, v6.2.2.2), (0 : Int))))).bind fun v11 => some ((v11.2.2.1, v11.2.2.2), ((v11.1.1, (v11.1.2.1, v11.1.2.2)), ())))
 ((s_l1Below (v1.2.1.1, (v1.2.1.2.1, v1.2.1.2.2)) (3 : Int)).bind fun v12 => (iter (s_l4Draw_s11b15 x1 v12) ((v12.2.1.1, (v12.2.1.2.1, v12.2.1.2.2)), (((0 : Int), ([] : List ((List Int) × Int))), ((x1, ([] : List ((List Int) × Int))), (0 : Int))))).bind fun v16 => some ((v16.2.2.1, v16.2.2.2), ((v16.1.1, (v16.1.2.1, v16.1.2.2)), ())))
noncomputable def e_s_l4Draw : CallE := ⟨43, [.cur 81, .d false (.int .i64)], [.a [(.d false (.int .i64)), (.o true 26 (.prod (.list (.int .i64)) (.int .i64)))]], fun x => s_l4Draw x.1 x.2⟩
noncomputable def c_s_l4Draw : Ctx := ⟨Try.prog, TT, [e_s_l1Once, e_s_l1Below, e_s_l4Half], [⟨4, [(0, .b 81 [(.d false (.list (.int .u8))), (.d false (.int .i64)), (.d false (.int .i64))]), (4, .b 32 [(.d false (.int .i64)), (.o true 26 (.prod (.list (.int .i64)) (.int .i64)))]), (5, .b 32 [(.d false (.int .i64)), (.o true 26 (.prod (.list (.int .i64)) (.int .i64)))]), (6, .l (.d false (.int .i64)))], some (0, [(0, .b 81 [(.d false (.list (.int .u8))), (.d false (.int .i64)), (.d false (.int .i64))]), (4, .b 32 [(.d false (.int .i64)), (.o true 26 (.prod (.list (.int .i64)) (.int .i64)))]), (5, .b 32 [(.d false (.int .i64)), (.o true 26 (.prod (.list (.int .i64)) (.int .i64)))])]), none, false⟩, ⟨11, [(0, .b 81 [(.d false (.list (.int .u8))), (.d false (.int .i64)), (.d false (.int .i64))]), (4, .b 32 [(.d false (.int .i64)), (.o true 26 (.prod (.list (.int .i64)) (.int .i64)))]), (5, .b 32 [(.d false (.int .i64)), (.o true 26 (.prod (.list (.int .i64)) (.int .i64)))]), (9, .l (.d false (.int .i64)))], some (2, [(0, .b 81 [(.d false (.list (.int .u8))), (.d false (.int .i64)), (.d false (.int .i64))]), (4, .b 32 [(.d false (.int .i64)), (.o true 26 (.prod (.list (.int .i64)) (.int .i64)))]), (5, .b 32 [(.d false (.int .i64)), (.o true 26 (.prod (.list (.int .i64)) (.int .i64)))])]), none, false⟩], [⟨8, [], [], [(0, false), (5, true), (7, false)], 0⟩, ⟨13, [], [], [(0, false), (5, true)], 0⟩], [], [], []⟩
theorem k_s_l4Draw (x : PMs.den e_s_l4Draw.ps) : funK c_s_l4Draw Try.f43 e_s_l4Draw.ps e_s_l4Draw.rs x = e_s_l4Draw.F x := by kernel_rfl
theorem o_s_l4Draw {D : Prop} : FnOk Try.prog e_s_l4Draw.f ∧ Ctr D Try.prog e_s_l4Draw := mkCtr (C := c_s_l4Draw) m_ (⟨o_s_l1Once, o_s_l1Below, o_s_l4Half, trivial⟩) Try.func43 (by kernel_rfl) k_s_l4Draw
/-! loop.example/g00959/spec.l1PickInt -/
noncomputable def s_l1PickInt (x0 : (List Int) × Int × Int) (x1 : List Int) : Option ((Int) × ((List Int) × Int × Int) × Unit) :=
(s_l1Below (x0.1, (x0.2.1, x0.2.2)) (x1.length : Int)).bind fun v1 => (idx x1 v1.1).bind fun v2 => some (v2, ((v1.2.1.1, (v1.2.1.2.1, v1.2.1.2.2)), ()))
noncomputable def e_s_l1PickInt : CallE := ⟨47, [.cur 81, .d false (.list (.int .i64))], [.l (.d false (.int .i64))], fun x => s_l1PickInt x.1 x.2⟩
noncomputable def c_s_l1PickInt : Ctx := ⟨Try.prog, TT, [e_s_l1Below], [], [], [], [], []⟩
theorem k_s_l1PickInt (x : PMs.den e_s_l1PickInt.ps) : funK c_s_l1PickInt Try.f47 e_s_l1PickInt.ps e_s_l1PickInt.rs x = e_s_l1PickInt.F x := by kernel_rfl
theorem o_s_l1PickInt {D : Prop} : FnOk Try.prog e_s_l1PickInt.f ∧ Ctr D Try.prog e_s_l1PickInt := mkCtr (C := c_s_l1PickInt) m_ (⟨o_s_l1Below, trivial⟩) Try.func47 (by kernel_rfl) k_s_l1PickInt
/-! loop.example/g00959/spec.l4Bent -/
noncomputable def s_l4Bent (x0 : (List Int) × Int × Int) : Option ((Int × List ((List Int) × Int)) × ((List Int) × Int × Int) × Unit) :=
(s_l1Below (x0.1, (x0.2.1, x0.2.2)) (3 : Int)).bind fun v1 => (s_l4Draw (v1.2.1.1, (v1.2.1.2.1, v1.2.1.2.2)) (IntKind.i64.wrap ((1 : Int) + v1.1))).bind fun v2 => (s_l1Below (v2.2.1.1, (v2.2.1.2.1, v2.2.1.2.2)) (14 : Int)).bind fun v3 => cond (v3.1 == (0 : Int))
 ((s_l1PickInt (v3.2.1.1, (v3.2.1.2.1, v3.2.1.2.2)) ([(0 : Int), (4 : Int), (2 : Int)] : List Int)).bind fun v4 => some ((v4.1, v2.1.2), ((v4.2.1.1, (v4.2.1.2.1, v4.2.1.2.2)), ())))
 (cond (v3.1 == (1 : Int))
 ((s_l1PickInt (v3.2.1.1, (v3.2.1.2.1, v3.2.1.2.2)) ([(200 : Int), (201 : Int), (-201 : Int), (-200 : Int)] : List Int)).bind fun v5 => (inIdx v2.1.2.length (0 : Int)).bind fun _ => (v2.1.2[((0 : Int)).toNat]?).bind fun v6 => some ((v2.1.1, (v2.1.2.set ((0 : Int)).toNat (v6.1, v5.1))), ((v5.2.1.1, (v5.2.1.2.1, v5.2.1.2.2)), ())))
 (cond (v3.1 == (2 : Int))
 ((inIdx v2.1.2.length (0 : Int)).bind fun _ => (s_l1PickInt (v3.2.1.1, (v3.2.1.2.1, v3.2.1.2.2)) ([(20 : Int), (21 : Int), (-21 : Int), (0 : Int)] : List Int)).bind fun v7 => (v2.1.2[((0 : Int)).toNat]?).bind fun v8 => (inIdx v8.1.length (0 : Int)).bind fun _ => some ((v2.1.1, (v2.1.2.set ((0 : Int)).toNat (v8.1.set ((0 : Int)).toNat v7.1, v8.2))), ((v7.2.1.1, (v7.2.1.2.1, v7.2.1.2.2)), ())))
 (cond (v3.1 == (3 : Int))
 (some ((v2.1.1, ([] : List ((List Int) × Int))), ((v3.2.1.1, (v3.2.1.2.1, v3.2.1.2.2)), ())))
 (some ((v2.1.1, v2.1.2), ((v3.2.1.1, (v3.2.1.2.1, v3.2.1.2.2)), ()))))))
noncomputable def e_s_l4Bent : CallE := ⟨27, [.cur 81], [.a [(.d false (.int .i64)), (.o true 26 (.prod (.list (.int .i64)) (.int .i64)))]], fun x => s_l4Bent x⟩
noncomputable def c_s_l4Bent : Ctx := ⟨Try.prog, TT, [e_s_l1Below, e_s_l4Draw, e_s_l1PickInt], [], [], [], [], []⟩
theorem k_s_l4Bent (x : PMs.den e_s_l4Bent.ps) : funN c_s_l4Bent [⟨6, 3, 1, [0, 1], [2, 3, 4]⟩, ⟨8, 3, 1, [0, 1, 2, 3, 4], [5, 6, 7]⟩] Try.f27 e_s_l4Bent.ps e_s_l4Bent.rs x = e_s_l4Bent.F x := by kernel_rfl
theorem o_s_l4Bent {D : Prop} : FnOk Try.prog e_s_l4Bent.f ∧ Ctr D Try.prog e_s_l4Bent := mkCtrN (C := c_s_l4Bent) (Ns := [⟨6, 3, 1, [0, 1], [2, 3, 4]⟩, ⟨8, 3, 1, [0, 1, 2, 3, 4], [5, 6, 7]⟩]) m_ (⟨o_s_l1Below, o_s_l4Draw, o_s_l1PickInt, trivial⟩) Try.func27 (by kernel_rfl) rfl k_s_l4Bent
/-! loop.example/g00959/spec.l1In -/
noncomputable def s_l1In (x0 : Int) (x1 : Int) (x2 : Int) : Option (Bool) :=
 cond (decide (x0 ≥ x1))
 (some (decide (x0 ≤ x2)))
 (some false)
noncomputable def e_s_l1In : CallE := ⟨50, [.d false (.int .i64), .d false (.int .i64), .d false (.int .i64)], [.l (.d false .bool)], fun x => s_l1In x.1 x.2.1 x.2.2⟩
noncomputable def c_s_l1In : Ctx := ⟨Try.prog, TT, [], [], [], [], [], []⟩
theorem k_s_l1In (x : PMs.den e_s_l1In.ps) : funK c_s_l1In Try.f50 e_s_l1In.ps e_s_l1In.rs x = e_s_l1In.F x := by kernel_rfl
theorem o_s_l1In {D : Prop} : FnOk Try.prog e_s_l1In.f ∧ Ctr D Try.prog e_s_l1In := mkCtr (C := c_s_l1In) m_ (trivial) Try.func50 (by kernel_rfl) k_s_l1In
/-! loop.example/g00959/spec.l2Small -/
noncomputable def s_l2Small_s2 (x0 : List Int) (x1 : Int) (v1 : Int) : Option ((Int) ⊕ ((Unit) ⊕ (Bool))) :=
 cond (decide (v1 < (x0.length : Int)))
 ((idx x0 v1).bind fun v2 => (s_l1In v2 (IntKind.i64.wrap (0 - x1)) x1).bind fun v3 => cond (!v3)
 (some (.inr (.inr false)))
 (some (.inl (IntKind.i64.wrap (v1 + (1 : Int))))))
 (some (.inr (.inl ())))
noncomputable def s_l2Small (x0 : List Int) (x1 : Int) : Option (Bool) :=
(iter (s_l2Small_s2 x0 x1) (0 : Int)).bind fun v4 => match v4 with
 | .inl v5 => (some true)
 | .inr v6 => (some v6)
noncomputable def e_s_l2Small : CallE := ⟨28, [.d false (.list (.int .i64)), .d false (.int .i64)], [.l (.d false .bool)], fun x => s_l2Small x.1 x.2⟩
noncomputable def c_s_l2Small : Ctx := ⟨Try.prog, TT, [e_s_l1In], [⟨2, [(5, .l (.d false (.int .i64)))], some (0, []), some [(4, .l (.d false .bool))], false⟩], [], [], [], []⟩
theorem k_s_l2Small (x : PMs.den e_s_l2Small.ps) : funK c_s_l2Small Try.f28 e_s_l2Small.ps e_s_l2Small.rs x = e_s_l2Small.F x := by kernel_rfl
theorem o_s_l2Small {D : Prop} : FnOk Try.prog e_s_l2Small.f ∧ Ctr D Try.prog e_s_l2Small := mkCtr (C := c_s_l2Small) m_ (⟨o_s_l1In, trivial⟩) Try.func28 (by kernel_rfl) k_s_l2Small
/-! loop.example/g00959/spec.l2Scale -/
noncomputable def s_l2Scale_s3 (x0 : List Int) (x1 : Int) (v1 : List Int × Int) : Option ((List Int × Int) ⊕ (List Int)) :=
 cond (decide (v1.2 < (x0.length : Int)))
 ((idx x0 v1.2).bind fun v2 => (appD 8 v1.1 ([(IntKind.i64.wrap (v2 * x1))] : List Int)).bind fun v3 => some (.inl (v3, (IntKind.i64.wrap (v1.2 + (1 : Int))))))
 (some (.inr v1.1))
noncomputable def s_l2Scale (x0 : List Int) (x1 : Int) : Option (List Int) :=
(iter (s_l2Scale_s3 x0 x1) (([] : List Int), (0 : Int))).bind fun v4 => some v4
noncomputable def e_s_l2Scale : CallE := ⟨29, [.d false (.list (.int .i64)), .d false (.int .i64)], [.l (.o true 3 (.int .i64))], fun x => s_l2Scale x.1 x.2⟩
noncomputable def c_s_l2Scale : Ctx := ⟨Try.prog, TT, [], [⟨3, [(5, .l (.o true 3 (.int .i64))), (6, .l (.d false (.int .i64)))], some (0, [(5, .l (.o true 3 (.int .i64)))]), none, false⟩], [], [], [], []⟩
theorem k_s_l2Scale (x : PMs.den e_s_l2Scale.ps) : funK c_s_l2Scale Try.f29 e_s_l2Scale.ps e_s_l2Scale.rs x = e_s_l2Scale.F x := by kernel_rfl
theorem o_s_l2Scale {D : Prop} : FnOk Try.prog e_s_l2Scale.f ∧ Ctr D Try.prog e_s_l2Scale := mkCtr (C := c_s_l2Scale) m_ (trivial) Try.func29 (by kernel_rfl) k_s_l2Scale
/-! loop.example/g00959/spec.DrawTightenHalf -/
noncomputable def s_DrawTightenHalf_s26_3 (x0 : List Int) (v1 : Int × Int) : Option ((Int × Int) ⊕ (Int)) :=
 cond (decide (v1.2 < (x0.length : Int)))
 (cond (decide (v1.2 < (4000 : Int)))
 ((idx x0 v1.2).bind fun v2 => some (.inl ((andI .i64 (IntKind.i64.wrap ((IntKind.i64.wrap ((IntKind.i64.wrap (v1.1 * (131 : Int))) + (IntKind.i64.wrap v2))) + (7 : Int))) (1073741823 : Int)), (IntKind.i64.wrap (v1.2 + (1 : Int))))))
 (some (.inr v1.1)))
 (some (.inr v1.1))
noncomputable def s_DrawTightenHalf (x0 : List Int) : Option (List Int × Int) :=
(iter (s_DrawTightenHalf_s26_3 x0) ((IntKind.i64.wrap ((26583 : Int) + (x0.length : Int))), (0 : Int))).bind fun v3 => (s_l4Bent (x0, ((0 : Int), v3))).bind fun v4 => cond ((v4.1.2.length : Int) == (0 : Int))
 (some (([] : List Int), (0 : Int)))
 ((inIdx v4.1.2.length (0 : Int)).bind fun _ => (idx v4.1.2 (((0 : Int)).toNat : Int)).bind fun v5 => (s_l2Small v5.1 (3 : Int)).bind fun v6 => cond v6
 ((s_l1Below (v4.2.1.1, (v4.2.1.2.1, v4.2.1.2.2)) (3 : Int)).bind fun v7 => (s_l2Scale v5.1 (IntKind.i64.wrap ((1 : Int) + v7.1))).bind fun v8 => some (v8, v5.2))
 (some (v5.1, v5.2)))
noncomputable def e_s_DrawTightenHalf : CallE := ⟨5, [.d false (.list (.int .u8))], [.a [(.d false (.list (.int .i64))), (.d false (.int .i64))]], fun x => s_DrawTightenHalf x⟩
noncomputable def c_s_DrawTightenHalf_26 : Ctx := ⟨Try.prog, TT, [], [⟨3, [(3, .l (.d false (.int .i64))), (4, .l (.d false (.int .i64)))], some (0, [(3, .l (.d false (.int .i64)))]), none, true⟩], [], [], [], []⟩
noncomputable def n_s_DrawTightenHalf_26 : InE := ⟨26, false, inlK c_s_DrawTightenHalf_26 Try.f26⟩
theorem q_s_DrawTightenHalf_26 {D : Prop} : FnOk Try.prog n_s_DrawTightenHalf_26.f ∧ InOk D Try.prog n_s_DrawTightenHalf_26 := mkInl (C := c_s_DrawTightenHalf_26) m_ (trivial) Try.func26 (by kernel_rfl)
noncomputable def c_s_DrawTightenHalf : Ctx := ⟨Try.prog, TT, [e_s_l4Bent, e_s_l2Small, e_s_l1Below, e_s_l2Scale], [], [⟨7, [], [], [(3, false), (5, true)], 0⟩], [n_s_DrawTightenHalf_26], [], []⟩
theorem k_s_DrawTightenHalf (x : PMs.den e_s_DrawTightenHalf.ps) : funK c_s_DrawTightenHalf Try.f5 e_s_DrawTightenHalf.ps e_s_DrawTightenHalf.rs x = e_s_DrawTightenHalf.F x := by kernel_rfl
theorem o_s_DrawTightenHalf {D : Prop} : FnOk Try.prog e_s_DrawTightenHalf.f ∧ Ctr D Try.prog e_s_DrawTightenHalf := mkCtr (C := c_s_DrawTightenHalf) m_ (⟨o_s_l4Bent, o_s_l2Small, o_s_l1Below, o_s_l2Scale, trivial⟩) Try.func5 (by kernel_rfl) k_s_DrawTightenHalf ⟨q_s_DrawTightenHalf_26, trivial⟩
/-! loop.example/g00959/impl.within -/
noncomputable def i_within (x0 : Int) (x1 : Int) (x2 : Int) : Option (Bool) :=
 cond (decide (x0 ≥ x1))
 (some (decide (x0 ≤ x2)))
 (some false)
noncomputable def e_i_within : CallE := ⟨48, [.d false (.int .i64), .d false (.int .i64), .d false (.int .i64)], [.l (.d false .bool)], fun x => i_within x.1 x.2.1 x.2.2⟩
noncomputable def c_i_within : Ctx := ⟨Try.prog, TT, [], [], [], [], [], []⟩
theorem k_i_within (x : PMs.den e_i_within.ps) : funK c_i_within Try.f48 e_i_within.ps e_i_within.rs x = e_i_within.F x := by kernel_rfl
theorem o_i_within {D : Prop} : FnOk Try.prog e_i_within.f ∧ Ctr D Try.prog e_i_within := mkCtr (C := c_i_within) m_ (trivial) Try.func48 (by kernel_rfl) k_i_within
/-! loop.example/g00959/impl.allWithin -/
noncomputable def i_allWithin_s2 (x0 : List Int) (x1 : Int) (x2 : Int) (v1 : Int) : Option ((Int) ⊕ ((Unit) ⊕ (Bool))) :=
 cond (decide (v1 < (x0.length : Int)))
 ((idx x0 v1).bind fun v2 => (i_within v2 x1 x2).bind fun v3 => cond (!v3)
 (some (.inr (.inr false)))
 (some (.inl (IntKind.i64.wrap (v1 + (1 : Int))))))
 (some (.inr (.inl ())))
noncomputable def i_allWithin (x0 : List Int) (x1 : Int) (x2 : Int) : Option (Bool) :=
(iter (i_allWithin_s2 x0 x1 x2) (0 : Int)).bind fun v4 => match v4 with
 | .inl v5 => (some true)
 | .inr v6 => (some v6)
noncomputable def e_i_allWithin : CallE := ⟨66, [.d false (.list (.int .i64)), .d false (.int .i64), .d false (.int .i64)], [.l (.d false .bool)], fun x => i_allWithin x.1 x.2.1 x.2.2⟩
noncomputable def c_i_allWithin : Ctx := ⟨Try.prog, TT, [e_i_within], [⟨2, [(11, .l (.d false (.int .i64)))], some (0, []), some [(6, .l (.d false .bool))], false⟩], [], [], [], []⟩
theorem k_i_allWithin (x : PMs.den e_i_allWithin.ps) : funK c_i_allWithin Try.f66 e_i_allWithin.ps e_i_allWithin.rs x = e_i_allWithin.F x := by kernel_rfl
theorem o_i_allWithin {D : Prop} : FnOk Try.prog e_i_allWithin.f ∧ Ctr D Try.prog e_i_allWithin := mkCtr (C := c_i_allWithin) m_ (⟨o_i_within, trivial⟩) Try.func66 (by kernel_rfl) k_i_allWithin
/-! loop.example/g00959/impl.magnitude -/
noncomputable def i_magnitude (x0 : Int) : Option (Int) :=
 some (if (IntKind.i64.wrap (0 - x0)) > x0 then (IntKind.i64.wrap (0 - x0)) else x0)
noncomputable def e_i_magnitude : CallE := ⟨82, [.d false (.int .i64)], [.l (.d false (.int .i64))], fun x => i_magnitude x⟩
noncomputable def c_i_magnitude : Ctx := ⟨Try.prog, TT, [], [], [], [], [], []⟩
theorem k_i_magnitude (x : PMs.den e_i_magnitude.ps) : funK c_i_magnitude Try.f82 e_i_magnitude.ps e_i_magnitude.rs x = e_i_magnitude.F x := by kernel_rfl
theorem o_i_magnitude {D : Prop} : FnOk Try.prog e_i_magnitude.f ∧ Ctr D Try.prog e_i_magnitude := mkCtr (C := c_i_magnitude) m_ (trivial) Try.func82 (by kernel_rfl) k_i_magnitude
/-! loop.example/g00959/impl.divisor -/
noncomputable def i_divisor_s1 (v1 : Int × Int) : Option ((Int × Int) ⊕ (Int)) :=
 cond (v1.2 != (0 : Int))
 ((remI .i64 v1.1 v1.2).bind fun v2 => some (.inl (v1.2, v2)))
 (some (.inr v1.1))
noncomputable def i_divisor (x0 : Int) (x1 : Int) : Option (Int) :=
(iter (i_divisor_s1) (x0, x1)).bind fun v3 => (i_magnitude v3).bind fun v4 => some v4
noncomputable def e_i_divisor : CallE := ⟨67, [.d false (.int .i64), .d false (.int .i64)], [.l (.d false (.int .i64))], fun x => i_divisor x.1 x.2⟩
noncomputable def c_i_divisor : Ctx := ⟨Try.prog, TT, [e_i_magnitude], [⟨1, [(0, .l (.d false (.int .i64))), (1, .l (.d false (.int .i64)))], some (0, [(0, .l (.d false (.int .i64)))]), none, false⟩], [⟨2, [], [], [], 0⟩], [], [], []⟩
theorem k_i_divisor (x : PMs.den e_i_divisor.ps) : funK c_i_divisor Try.f67 e_i_divisor.ps e_i_divisor.rs x = e_i_divisor.F x := by kernel_rfl
theorem o_i_divisor {D : Prop} : FnOk Try.prog e_i_divisor.f ∧ Ctr D Try.prog e_i_divisor := mkCtr (C := c_i_divisor) m_ (⟨o_i_magnitude, trivial⟩) Try.func67 (by kernel_rfl) k_i_divisor
/-! loop.example/g00959/impl.gcdAll -/
noncomputable def i_gcdAll_s3 (x0 : List Int) (v1 : Int × Int) : Option ((Int × Int) ⊕ (Int)) :=
 cond (decide (v1.2 < (x0.length : Int)))
 ((idx x0 v1.2).bind fun v2 => (i_divisor v1.1 v2).bind fun v3 => some (.inl (v3, (IntKind.i64.wrap (v1.2 + (1 : Int))))))
 (some (.inr v1.1))
noncomputable def i_gcdAll (x0 : List Int) : Option (Int) :=
(iter (i_gcdAll_s3 x0) ((0 : Int), (0 : Int))).bind fun v4 => some v4
noncomputable def e_i_gcdAll : CallE := ⟨32, [.d false (.list (.int .i64))], [.l (.d false (.int .i64))], fun x => i_gcdAll x⟩
noncomputable def c_i_gcdAll : Ctx := ⟨Try.prog, TT, [e_i_divisor], [⟨3, [(3, .l (.d false (.int .i64))), (8, .l (.d false (.int .i64)))], some (0, [(3, .l (.d false (.int .i64)))]), none, false⟩], [], [], [], []⟩
theorem k_i_gcdAll (x : PMs.den e_i_gcdAll.ps) : funK c_i_gcdAll Try.f32 e_i_gcdAll.ps e_i_gcdAll.rs x = e_i_gcdAll.F x := by kernel_rfl
theorem o_i_gcdAll {D : Prop} : FnOk Try.prog e_i_gcdAll.f ∧ Ctr D Try.prog e_i_gcdAll := mkCtr (C := c_i_gcdAll) m_ (⟨o_i_divisor, trivial⟩) Try.func32 (by kernel_rfl) k_i_gcdAll
/-! loop.example/g00959/impl.IsHalf -/
noncomputable def i_IsHalf (x0 : Int) (x1 : (List Int) × Int) : Option (Bool) :=
(i_within x0 (1 : Int) (3 : Int)).bind fun v1 => cond v1
 (cond ((x1.1.length : Int) == x0)
 ((i_allWithin x1.1 (-20 : Int) (20 : Int)).bind fun v2 => cond v2
 ((i_gcdAll x1.1).bind fun v3 => cond (decide (v3 > (0 : Int)))
 ((i_within x1.2 (-200 : Int) (200 : Int)).bind fun v4 => some v4)
 (some false))
 (some false))
 (some false))
 (some false)
noncomputable def e_i_IsHalf : CallE := ⟨31, [.d false (.int .i64), .d false (.prod (.list (.int .i64)) (.int .i64))], [.l (.d false .bool)], fun x => i_IsHalf x.1 x.2⟩
noncomputable def c_i_IsHalf : Ctx := ⟨Try.prog, TT, [e_i_within, e_i_allWithin, e_i_gcdAll], [], [], [], [], []⟩
theorem k_i_IsHalf (x : PMs.den e_i_IsHalf.ps) : funK c_i_IsHalf Try.f31 e_i_IsHalf.ps e_i_IsHalf.rs x = e_i_IsHalf.F x := by kernel_rfl
theorem o_i_IsHalf {D : Prop} : FnOk Try.prog e_i_IsHalf.f ∧ Ctr D Try.prog e_i_IsHalf := mkCtr (C := c_i_IsHalf) m_ (⟨o_i_within, o_i_allWithin, o_i_gcdAll, trivial⟩) Try.func31 (by kernel_rfl) k_i_IsHalf
/-! loop.example/g00959/impl.copyInts -/
noncomputable def i_copyInts (x0 : List Int) : Option (List Int) :=
(appD 8 ([] : List Int) x0).bind fun v1 => some v1
noncomputable def e_i_copyInts : CallE := ⟨33, [.d false (.list (.int .i64))], [.l (.o true 3 (.int .i64))], fun x => i_copyInts x⟩
noncomputable def c_i_copyInts : Ctx := ⟨Try.prog, TT, [], [], [], [], [], []⟩
theorem k_i_copyInts (x : PMs.den e_i_copyInts.ps) : funK c_i_copyInts Try.f33 e_i_copyInts.ps e_i_copyInts.rs x = e_i_copyInts.F x := by kernel_rfl
theorem o_i_copyInts {D : Prop} : FnOk Try.prog e_i_copyInts.f ∧ Ctr D Try.prog e_i_copyInts := mkCtr (C := c_i_copyInts) m_ (trivial) Try.func33 (by kernel_rfl) k_i_copyInts
/-! loop.example/g00959/impl.down -/
noncomputable def i_down (x0 : Int) (x1 : Int) : Option (Int) :=
(quoI .i64 x0 x1).bind fun v1 => (remI .i64 x0 x1).bind fun v2 => cond (decide (v2 < (0 : Int)))
 (some (IntKind.i64.wrap (v1 - (1 : Int))))
 (some v1)
noncomputable def e_i_down : CallE := ⟨34, [.d false (.int .i64), .d false (.int .i64)], [.l (.d false (.int .i64))], fun x => i_down x.1 x.2⟩
noncomputable def c_i_down : Ctx := ⟨Try.prog, TT, [], [], [], [], [], []⟩
theorem k_i_down (x : PMs.den e_i_down.ps) : funK c_i_down Try.f34 e_i_down.ps e_i_down.rs x = e_i_down.F x := by kernel_rfl
theorem o_i_down {D : Prop} : FnOk Try.prog e_i_down.f ∧ Ctr D Try.prog e_i_down := mkCtr (C := c_i_down) m_ (trivial) Try.func34 (by kernel_rfl) k_i_down
/-! loop.example/g00959/impl.TightenHalf -/
noncomputable def i_TightenHalf_s6 (v2 : Int) (v3 : List Int) (v5 : (List Int × Int) × (List Int × Int) × Int) : Option (((List Int × Int) × (List Int × Int) × Int) ⊕ ((List Int × Int) × List Int × Int)) :=
 cond (decide (v5.2.2 < (v3.length : Int)))
 ((inIdx v5.2.1.1.length v5.2.2).bind fun _ => (idx v5.2.1.1 ((v5.2.2).toNat : Int)).bind fun v6 => (quoI .i64 v6 v2).bind fun v7 => (inIdx v5.2.1.1.length v5.2.2).bind fun _ => (inIdx v5.2.1.1.length ((v5.2.2).toNat : Int)).bind fun _ => some (.inl ((v5.1.1, v5.1.2), (((v5.2.1.1.set ((v5.2.2).toNat) v7), v5.2.1.2), (IntKind.i64.wrap (v5.2.2 + (1 : Int)))))))
 (some (.inr ((v5.1.1, v5.1.2), (v5.2.1.1, v5.2.1.2))))
noncomputable def i_TightenHalf (x0 : (List Int) × Int) : Option ((List Int × Int) × Bool) :=
(i_IsHalf (x0.1.length : Int) (x0.1, x0.2)).bind fun v1 => cond (!v1)
 (some ((([] : List Int), (0 : Int)), false))
 ((i_gcdAll x0.1).bind fun v2 => (i_copyInts x0.1).bind fun v3 => (i_down x0.2 v2).bind fun v4 => (iter (i_TightenHalf_s6 v2 v3) ((([] : List Int), (0 : Int)), ((v3, v4), (0 : Int)))).bind fun v8 => some ((v8.2.1, v8.2.2), true))
noncomputable def e_i_TightenHalf : CallE := ⟨6, [.d false (.prod (.list (.int .i64)) (.int .i64))], [.a [(.o true 3 (.int .i64)), (.d false (.int .i64))], .l (.d false .bool)], fun x => i_TightenHalf x⟩
noncomputable def c_i_TightenHalf : Ctx := ⟨Try.prog, TT, [e_i_IsHalf, e_i_gcdAll, e_i_copyInts, e_i_down], [⟨6, [(2, .b 26 [(.o true 3 (.int .i64)), (.d false (.int .i64))]), (5, .b 26 [(.o true 3 (.int .i64)), (.d false (.int .i64))]), (28, .l (.d false (.int .i64)))], some (0, [(2, .b 26 [(.o true 3 (.int .i64)), (.d false (.int .i64))]), (5, .b 26 [(.o true 3 (.int .i64)), (.d false (.int .i64))])]), none, false⟩], [⟨4, [], [], [], 0⟩], [], [], []⟩
theorem k_i_TightenHalf (x : PMs.den e_i_TightenHalf.ps) : funK c_i_TightenHalf Try.f6 e_i_TightenHalf.ps e_i_TightenHalf.rs x = e_i_TightenHalf.F x := by kernel_rfl
theorem o_i_TightenHalf {D : Prop} : FnOk Try.prog e_i_TightenHalf.f ∧ Ctr D Try.prog e_i_TightenHalf := mkCtr (C := c_i_TightenHalf) m_ (⟨o_i_IsHalf, o_i_gcdAll, o_i_copyInts, o_i_down, trivial⟩) Try.func6 (by kernel_rfl) k_i_TightenHalf
/-! loop.example/g00959/spec.IsHalf -/
noncomputable def s_IsHalf (x0 : Int) (x1 : (List Int) × Int) : Option (Bool) :=
(s_l1In x0 (1 : Int) (3 : Int)).bind fun v1 => cond v1
 (cond ((x1.1.length : Int) == x0)
 ((s_l2Small x1.1 (20 : Int)).bind fun v2 => cond v2
 ((s_l2All x1.1).bind fun v3 => cond (decide (v3 > (0 : Int)))
 ((s_l1In x1.2 (-200 : Int) (200 : Int)).bind fun v4 => some v4)
 (some false))
 (some false))
 (some false))
 (some false)
noncomputable def e_s_IsHalf : CallE := ⟨35, [.d false (.int .i64), .d false (.prod (.list (.int .i64)) (.int .i64))], [.l (.d false .bool)], fun x => s_IsHalf x.1 x.2⟩
noncomputable def c_s_IsHalf : Ctx := ⟨Try.prog, TT, [e_s_l1In, e_s_l2Small, e_s_l2All], [], [], [], [], []⟩
theorem k_s_IsHalf (x : PMs.den e_s_IsHalf.ps) : funK c_s_IsHalf Try.f35 e_s_IsHalf.ps e_s_IsHalf.rs x = e_s_IsHalf.F x := by kernel_rfl
theorem o_s_IsHalf {D : Prop} : FnOk Try.prog e_s_IsHalf.f ∧ Ctr D Try.prog e_s_IsHalf := mkCtr (C := c_s_IsHalf) m_ (⟨o_s_l1In, o_s_l2Small, o_s_l2All, trivial⟩) Try.func35 (by kernel_rfl) k_s_IsHalf
/-! loop.example/g00959/spec.l2Prime -/
noncomputable def s_l2Prime_s4 (x0 : List Int) (v1 : Int) (v2 : List Int × Int) : Option ((List Int × Int) ⊕ (List Int)) :=
 cond (decide (v2.2 < (x0.length : Int)))
 ((idx x0 v2.2).bind fun v3 => (s_l1Max v1 (1 : Int)).bind fun v4 => (quoI .i64 v3 v4).bind fun v5 => (appD 8 v2.1 ([v5] : List Int)).bind fun v6 => some (.inl (v6, (IntKind.i64.wrap (v2.2 + (1 : Int))))))
 (some (.inr v2.1))
noncomputable def s_l2Prime (x0 : List Int) : Option (List Int) :=
(s_l2All x0).bind fun v1 => (iter (s_l2Prime_s4 x0 v1) (([] : List Int), (0 : Int))).bind fun v7 => some v7
noncomputable def e_s_l2Prime : CallE := ⟨68, [.d false (.list (.int .i64))], [.l (.o true 3 (.int .i64))], fun x => s_l2Prime x⟩
noncomputable def c_s_l2Prime : Ctx := ⟨Try.prog, TT, [e_s_l2All, e_s_l1Max], [⟨4, [(4, .l (.o true 3 (.int .i64))), (5, .l (.d false (.int .i64)))], some (0, [(4, .l (.o true 3 (.int .i64)))]), none, false⟩], [⟨6, [], [], [], 0⟩], [], [], []⟩
theorem k_s_l2Prime (x : PMs.den e_s_l2Prime.ps) : funK c_s_l2Prime Try.f68 e_s_l2Prime.ps e_s_l2Prime.rs x = e_s_l2Prime.F x := by kernel_rfl
theorem o_s_l2Prime {D : Prop} : FnOk Try.prog e_s_l2Prime.f ∧ Ctr D Try.prog e_s_l2Prime := mkCtr (C := c_s_l2Prime) m_ (⟨o_s_l2All, o_s_l1Max, trivial⟩) Try.func68 (by kernel_rfl) k_s_l2Prime
/-! loop.example/g00959/spec.l3Floor -/
noncomputable def s_l3Floor (x0 : Int) (x1 : Int) : Option (Int) :=
(quoI .i64 x0 x1).bind fun v1 => (remI .i64 x0 x1).bind fun v2 => cond (decide (v2 < (0 : Int)))
 (some (IntKind.i64.wrap (v1 - (1 : Int))))
 (some v1)
noncomputable def e_s_l3Floor : CallE := ⟨69, [.d false (.int .i64), .d false (.int .i64)], [.l (.d false (.int .i64))], fun x => s_l3Floor x.1 x.2⟩
noncomputable def c_s_l3Floor : Ctx := ⟨Try.prog, TT, [], [], [], [], [], []⟩
theorem k_s_l3Floor (x : PMs.den e_s_l3Floor.ps) : funK c_s_l3Floor Try.f69 e_s_l3Floor.ps e_s_l3Floor.rs x = e_s_l3Floor.F x := by kernel_rfl
theorem o_s_l3Floor {D : Prop} : FnOk Try.prog e_s_l3Floor.f ∧ Ctr D Try.prog e_s_l3Floor := mkCtr (C := c_s_l3Floor) m_ (trivial) Try.func69 (by kernel_rfl) k_s_l3Floor
/-! loop.example/g00959/spec.l24Tight -/
noncomputable def s_l24Tight (x0 : (List Int) × Int) : Option (List Int × Int) :=
(s_l2All x0.1).bind fun v1 => (s_l2Prime x0.1).bind fun v2 => (s_l3Floor x0.2 v1).bind fun v3 => some (v2, v3)
noncomputable def e_s_l24Tight : CallE := ⟨36, [.d false (.prod (.list (.int .i64)) (.int .i64))], [.a [(.o true 3 (.int .i64)), (.d false (.int .i64))]], fun x => s_l24Tight x⟩
noncomputable def c_s_l24Tight : Ctx := ⟨Try.prog, TT, [e_s_l2All, e_s_l2Prime, e_s_l3Floor], [], [⟨2, [], [], [], 0⟩], [], [], []⟩
theorem k_s_l24Tight (x : PMs.den e_s_l24Tight.ps) : funK c_s_l24Tight Try.f36 e_s_l24Tight.ps e_s_l24Tight.rs x = e_s_l24Tight.F x := by kernel_rfl
theorem o_s_l24Tight {D : Prop} : FnOk Try.prog e_s_l24Tight.f ∧ Ctr D Try.prog e_s_l24Tight := mkCtr (C := c_s_l24Tight) m_ (⟨o_s_l2All, o_s_l2Prime, o_s_l3Floor, trivial⟩) Try.func36 (by kernel_rfl) k_s_l24Tight
/-! loop.example/g00959/spec.TightenHalf -/
noncomputable def s_TightenHalf (x0 : (List Int) × Int) : Option ((List Int × Int) × Bool) :=
(s_IsHalf (x0.1.length : Int) (x0.1, x0.2)).bind fun v1 => cond (!v1)
 (some ((([] : List Int), (0 : Int)), false))
 ((s_l24Tight (x0.1, x0.2)).bind fun v2 => some ((v2.1, v2.2), true))
noncomputable def e_s_TightenHalf : CallE := ⟨7, [.d false (.prod (.list (.int .i64)) (.int .i64))], [.a [(.o true 3 (.int .i64)), (.d false (.int .i64))], .l (.d false .bool)], fun x => s_TightenHalf x⟩
noncomputable def c_s_TightenHalf : Ctx := ⟨Try.prog, TT, [e_s_IsHalf, e_s_l24Tight], [], [], [], [], []⟩
theorem k_s_TightenHalf (x : PMs.den e_s_TightenHalf.ps) : funK c_s_TightenHalf Try.f7 e_s_TightenHalf.ps e_s_TightenHalf.rs x = e_s_TightenHalf.F x := by kernel_rfl
theorem o_s_TightenHalf {D : Prop} : FnOk Try.prog e_s_TightenHalf.f ∧ Ctr D Try.prog e_s_TightenHalf := mkCtr (C := c_s_TightenHalf) m_ (⟨o_s_IsHalf, o_s_l24Tight, trivial⟩) Try.func7 (by kernel_rfl) k_s_TightenHalf
/-! loop.example/g00959/spec.DrawTightenRegion -/
noncomputable def s_DrawTightenRegion_s26_3 (x0 : List Int) (v1 : Int × Int) : Option ((Int × Int) ⊕ (Int)) :=
 cond (decide (v1.2 < (x0.length : Int)))
 (cond (decide (v1.2 < (4000 : Int)))
 ((idx x0 v1.2).bind fun v2 => some (.inl ((andI .i64 (IntKind.i64.wrap ((IntKind.i64.wrap ((IntKind.i64.wrap (v1.1 * (131 : Int))) + (IntKind.i64.wrap v2))) + (7 : Int))) (1073741823 : Int)), (IntKind.i64.wrap (v1.2 + (1 : Int))))))
 (some (.inr v1.1)))
 (some (.inr v1.1))
noncomputable def s_DrawTightenRegion (x0 : List Int) : Option (Int × List ((List Int) × Int)) :=
(iter (s_DrawTightenRegion_s26_3 x0) ((IntKind.i64.wrap ((26583 : Int) + (x0.length : Int))), (0 : Int))).bind fun v3 => (s_l4Bent (x0, ((0 : Int), v3))).bind fun v4 => some (v4.1.1, v4.1.2)
noncomputable def e_s_DrawTightenRegion : CallE := ⟨8, [.d false (.list (.int .u8))], [.a [(.d false (.int .i64)), (.o true 26 (.prod (.list (.int .i64)) (.int .i64)))]], fun x => s_DrawTightenRegion x⟩
noncomputable def c_s_DrawTightenRegion_26 : Ctx := ⟨Try.prog, TT, [], [⟨3, [(3, .l (.d false (.int .i64))), (4, .l (.d false (.int .i64)))], some (0, [(3, .l (.d false (.int .i64)))]), none, true⟩], [], [], [], []⟩
noncomputable def n_s_DrawTightenRegion_26 : InE := ⟨26, false, inlK c_s_DrawTightenRegion_26 Try.f26⟩
theorem q_s_DrawTightenRegion_26 {D : Prop} : FnOk Try.prog n_s_DrawTightenRegion_26.f ∧ InOk D Try.prog n_s_DrawTightenRegion_26 := mkInl (C := c_s_DrawTightenRegion_26) m_ (trivial) Try.func26 (by kernel_rfl)
noncomputable def c_s_DrawTightenRegion : Ctx := ⟨Try.prog, TT, [e_s_l4Bent], [], [], [n_s_DrawTightenRegion_26], [], []⟩
theorem k_s_DrawTightenRegion (x : PMs.den e_s_DrawTightenRegion.ps) : funK c_s_DrawTightenRegion Try.f8 e_s_DrawTightenRegion.ps e_s_DrawTightenRegion.rs x = e_s_DrawTightenRegion.F x := by kernel_rfl
theorem o_s_DrawTightenRegion {D : Prop} : FnOk Try.prog e_s_DrawTightenRegion.f ∧ Ctr D Try.prog e_s_DrawTightenRegion := mkCtr (C := c_s_DrawTightenRegion) m_ (⟨o_s_l4Bent, trivial⟩) Try.func8 (by kernel_rfl) k_s_DrawTightenRegion ⟨q_s_DrawTightenRegion_26, trivial⟩
/-! loop.example/g00959/impl.IsRegion -/
noncomputable def i_IsRegion_s4 (x0 : Int × (List ((List Int) × Int))) (v2 : Int) : Option ((Int) ⊕ ((Unit) ⊕ (Bool))) :=
 cond (decide (v2 < (x0.2.length : Int)))
 ((idx x0.2 v2).bind fun v3 => (i_IsHalf x0.1 (v3.1, v3.2)).bind fun v4 => cond (!v4)
 (some (.inr (.inr false)))
 (some (.inl (IntKind.i64.wrap (v2 + (1 : Int))))))
 (some (.inr (.inl ())))
noncomputable def i_IsRegion (x0 : Int × (List ((List Int) × Int))) : Option (Bool) :=
(i_within x0.1 (1 : Int) (3 : Int)).bind fun v1 => cond (!v1)
 (some false)
 (cond (decide ((x0.2.length : Int) > (8 : Int)))
 (some false)
 ((iter (i_IsRegion_s4 x0) (0 : Int)).bind fun v5 => match v5 with
 | .inl v6 => (some true)
 | .inr v7 => (some v7)))
noncomputable def e_i_IsRegion : CallE := ⟨37, [.d false (.prod (.int .i64) (.list (.prod (.list (.int .i64)) (.int .i64))))], [.l (.d false .bool)], fun x => i_IsRegion x⟩
noncomputable def c_i_IsRegion : Ctx := ⟨Try.prog, TT, [e_i_within, e_i_IsHalf], [⟨4, [(18, .l (.d false (.int .i64)))], some (0, []), some [(2, .l (.d false .bool))], false⟩], [], [], [], []⟩
theorem k_i_IsRegion (x : PMs.den e_i_IsRegion.ps) : funK c_i_IsRegion Try.f37 e_i_IsRegion.ps e_i_IsRegion.rs x = e_i_IsRegion.F x := by kernel_rfl
theorem o_i_IsRegion {D : Prop} : FnOk Try.prog e_i_IsRegion.f ∧ Ctr D Try.prog e_i_IsRegion := mkCtr (C := c_i_IsRegion) m_ (⟨o_i_within, o_i_IsHalf, trivial⟩) Try.func37 (by kernel_rfl) k_i_IsRegion
/-! slices.Equal[[]int,int] -/
noncomputable def g_slices_Equal_s4 (x0 : List Int) (x1 : List Int) (v1 : Int) : Option ((Int) ⊕ ((Unit) ⊕ (Bool))) :=
 cond (decide (v1 < (x0.length : Int)))
 ((idx x0 v1).bind fun v2 => (idx x1 v1).bind fun v3 => cond (v2 != v3)
 (some (.inr (.inr false)))
 (some (.inl (IntKind.i64.wrap (v1 + (1 : Int))))))
 (some (.inr (.inl ())))
noncomputable def g_slices_Equal (x0 : List Int) (x1 : List Int) : Option (Bool) :=
 cond ((x0.length : Int) != (x1.length : Int))
 (some false)
 ((iter (g_slices_Equal_s4 x0 x1) (0 : Int)).bind fun v4 => match v4 with
 | .inl v5 => (some true)
 | .inr v6 => (some v6))
noncomputable def e_g_slices_Equal : CallE := ⟨71, [.d false (.list (.int .i64)), .d false (.list (.int .i64))], [.l (.d false .bool)], fun x => g_slices_Equal x.1 x.2⟩
noncomputable def c_g_slices_Equal : Ctx := ⟨Try.prog, TT, [], [⟨4, [(13, .l (.d false (.int .i64)))], some (0, []), some [(4, .l (.d false .bool))], false⟩], [⟨6, [], [], [], 0⟩], [], [], []⟩
theorem k_g_slices_Equal (x : PMs.den e_g_slices_Equal.ps) : funK c_g_slices_Equal Try.f71 e_g_slices_Equal.ps e_g_slices_Equal.rs x = e_g_slices_Equal.F x := by kernel_rfl
theorem o_g_slices_Equal {D : Prop} : FnOk Try.prog e_g_slices_Equal.f ∧ Ctr D Try.prog e_g_slices_Equal := mkCtr (C := c_g_slices_Equal) m_ (trivial) Try.func71 (by kernel_rfl) k_g_slices_Equal
/-! loop.example/g00959/impl.equalHalf -/
noncomputable def i_equalHalf (x0 : (List Int) × Int) (x1 : (List Int) × Int) : Option (Bool) :=
(g_slices_Equal x0.1 x1.1).bind fun v1 => cond v1
 (some (x0.2 == x1.2))
 (some false)
noncomputable def e_i_equalHalf : CallE := ⟨40, [.d false (.prod (.list (.int .i64)) (.int .i64)), .d false (.prod (.list (.int .i64)) (.int .i64))], [.l (.d false .bool)], fun x => i_equalHalf x.1 x.2⟩
noncomputable def c_i_equalHalf : Ctx := ⟨Try.prog, TT, [e_g_slices_Equal], [], [], [], [], []⟩
theorem k_i_equalHalf (x : PMs.den e_i_equalHalf.ps) : funK c_i_equalHalf Try.f40 e_i_equalHalf.ps e_i_equalHalf.rs x = e_i_equalHalf.F x := by kernel_rfl
theorem o_i_equalHalf {D : Prop} : FnOk Try.prog e_i_equalHalf.f ∧ Ctr D Try.prog e_i_equalHalf := mkCtr (C := c_i_equalHalf) m_ (⟨o_g_slices_Equal, trivial⟩) Try.func40 (by kernel_rfl) k_i_equalHalf
/-! loop.example/g00959/impl.TightenRegion -/
noncomputable def i_TightenRegion_s70_2 (v2 : (Int × List ((List Int) × Int)) × (Int × List ((List Int) × Int)) × Int) (v4 : (List Int × Int) × Bool) (v5 : Int) : Option ((Int) ⊕ ((Unit) ⊕ (Int))) :=
 cond (decide (v5 < (v2.2.1.2.length : Int)))
 ((idx v2.2.1.2 v5).bind fun v6 => (i_equalHalf (v6.1, v6.2) (v4.1.1, v4.1.2)).bind fun v7 => cond v7
 (some (.inr (.inr v5)))
 (some (.inl (IntKind.i64.wrap (v5 + (1 : Int))))))
 (some (.inr (.inl ())))
noncomputable def i_TightenRegion_s5 (x0 : Int × (List ((List Int) × Int))) (v2 : (Int × List ((List Int) × Int)) × (Int × List ((List Int) × Int)) × Int) : Option (((Int × List ((List Int) × Int)) × (Int × List ((List Int) × Int)) × Int) ⊕ ((Int × List ((List Int) × Int)) × Int × List ((List Int) × Int))) :=
 cond (decide (v2.2.2 < (x0.2.length : Int)))
 ((idx x0.2 v2.2.2).bind fun v3 => (i_TightenHalf (v3.1, v3.2)).bind fun v4 => (iter (i_TightenRegion_s70_2 v2 v4) (0 : Int)).bind fun v8 => match v8 with
 | .inl v9 => (cond (!decide ((-1 : Int) ≥ (0 : Int)))
 ((appD 32 v2.2.1.2 ([(v4.1.1, v4.1.2)] : List ((List Int) × Int))).bind fun v11 => some (.inl ((v2.1.1, v2.1.2), ((v2.2.1.1, v11), (IntKind.i64.wrap (v2.2.2 + (1 : Int)))))))
 (some (.inl ((v2.1.1, v2.1.2), ((v2.2.1.1, v2.2.1.2), (IntKind.i64.wrap (v2.2.2 + (1 : Int))))))))
 | .inr v10 => (cond (!decide (v10 ≥ (0 : Int)))
 ((appD 32 v2.2.1.2 ([(v4.1.1, v4.1.2)] : List ((List Int) × Int))).bind fun v12 => some (.inl ((v2.1.1, v2.1.2), ((v2.2.1.1, v12), (IntKind.i64.wrap (v2.2.2 + (1 : Int)))))))
 (some (.inl ((v2.1.1, v2.1.2), ((v2.2.1.1, v2.2.1.2), (IntKind.i64.wrap (v2.2.2 + (1 : Int)))))))))
 (some (.inr ((v2.1.1, v2.1.2), (v2.2.1.1, v2.2.1.2))))
noncomputable def i_TightenRegion (x0 : Int × (List ((List Int) × Int))) : Option ((Int × List ((List Int) × Int)) × Bool) :=
(i_IsRegion (x0.1, x0.2)).bind fun v1 => cond (!v1)
 (some (((0 : Int), ([] : List ((List Int) × Int))), false))
 ((iter (i_TightenRegion_s5 x0) (((0 : Int), ([] : List ((List Int) × Int))), ((x0.1, ([] : List ((List Int) × Int))), (0 : Int)))).bind fun v13 => some ((v13.2.1, v13.2.2), true))
noncomputable def e_i_TightenRegion : CallE := ⟨9, [.d false (.prod (.int .i64) (.list (.prod (.list (.int .i64)) (.int .i64))))], [.a [(.d false (.int .i64)), (.o true 26 (.prod (.list (.int .i64)) (.int .i64)))], .l (.d false .bool)], fun x => i_TightenRegion x⟩
noncomputable def c_i_TightenRegion_39 : Ctx := ⟨Try.prog, TT, [e_i_equalHalf], [], [], [], [], []⟩
noncomputable def n_i_TightenRegion_39 : InE := ⟨39, true, inlK c_i_TightenRegion_39 Try.f39⟩
theorem q_i_TightenRegion_39 {D : Prop} : FnOk Try.prog n_i_TightenRegion_39.f ∧ InOk D Try.prog n_i_TightenRegion_39 := mkInlD (C := c_i_TightenRegion_39) m_ (⟨o_i_equalHalf, trivial⟩) Try.func39 (by kernel_rfl) (by kernel_rfl) rfl
noncomputable def c_i_TightenRegion_70 : Ctx := ⟨Try.prog, TT, [], [⟨2, [(8, .l (.d false (.int .i64)))], some (0, []), some [(4, .l (.d false (.int .i64)))], false⟩], [], [n_i_TightenRegion_39], [], []⟩
noncomputable def n_i_TightenRegion_70 : InE := ⟨70, true, quietK (inlK c_i_TightenRegion_70 Try.f70)⟩
theorem q_i_TightenRegion_70 {D : Prop} : FnOk Try.prog n_i_TightenRegion_70.f ∧ InOk D Try.prog n_i_TightenRegion_70 := mkQuiet (C := c_i_TightenRegion_70) m_ (trivial) Try.func70 (by kernel_rfl) ⟨q_i_TightenRegion_39, trivial⟩
noncomputable def c_i_TightenRegion_38 : Ctx := ⟨Try.prog, TT, [], [], [], [n_i_TightenRegion_70], [], []⟩
noncomputable def n_i_TightenRegion_38 : InE := ⟨38, false, inlK c_i_TightenRegion_38 Try.f38⟩
theorem q_i_TightenRegion_38 {D : Prop} : FnOk Try.prog n_i_TightenRegion_38.f ∧ InOk D Try.prog n_i_TightenRegion_38 := mkInl (C := c_i_TightenRegion_38) m_ (trivial) Try.func38 (by kernel_rfl) ⟨q_i_TightenRegion_70, trivial⟩
noncomputable def c_i_TightenRegion : Ctx := ⟨Try.prog, TT, [e_i_IsRegion, e_i_TightenHalf], [⟨5, [(2, .b 32 [(.d false (.int .i64)), (.o true 26 (.prod (.list (.int .i64)) (.int .i64)))]), (4, .b 32 [(.d false (.int .i64)), (.o true 26 (.prod (.list (.int .i64)) (.int .i64)))]), (19, .l (.d false (.int .i64)))], some (0, [(2, .b 32 [(.d false (.int .i64)), (.o true 26 (.prod (.list (.int .i64)) (.int .i64)))]), (4, .b 32 [(.d false (.int .i64)), (.o true 26 (.prod (.list (.int .i64)) (.int .i64)))])]), none, false⟩], [], [n_i_TightenRegion_38], [], []⟩
theorem k_i_TightenRegion (x : PMs.den e_i_TightenRegion.ps) : funK c_i_TightenRegion Try.f9 e_i_TightenRegion.ps e_i_TightenRegion.rs x = e_i_TightenRegion.F x := by kernel_rfl
theorem o_i_TightenRegion {D : Prop} : FnOk Try.prog e_i_TightenRegion.f ∧ Ctr D Try.prog e_i_TightenRegion := mkCtr (C := c_i_TightenRegion) m_ (⟨o_i_IsRegion, o_i_TightenHalf, trivial⟩) Try.func9 (by kernel_rfl) k_i_TightenRegion ⟨q_i_TightenRegion_38, trivial⟩
/-! loop.example/g00959/spec.IsRegion -/
noncomputable def s_IsRegion_s2 (x0 : Int × (List ((List Int) × Int))) (v1 : Int) : Option ((Int) ⊕ ((Unit) ⊕ (Bool))) :=
 cond (decide (v1 < (x0.2.length : Int)))
 ((idx x0.2 v1).bind fun v2 => (s_IsHalf x0.1 v2).bind fun v3 => cond (!v3)
 (some (.inr (.inr false)))
 (some (.inl (IntKind.i64.wrap (v1 + (1 : Int))))))
 (some (.inr (.inl ())))
noncomputable def s_IsRegion (x0 : Int × (List ((List Int) × Int))) : Option (Bool) :=
(iter (s_IsRegion_s2 x0) (0 : Int)).bind fun v4 => match v4 with
 | .inl v5 => ((s_l1In x0.1 (1 : Int) (3 : Int)).bind fun v7 => cond v7
 (some (decide ((x0.2.length : Int) ≤ (8 : Int))))
 (some false))
 | .inr v6 => (some v6)
noncomputable def e_s_IsRegion : CallE := ⟨41, [.d false (.prod (.int .i64) (.list (.prod (.list (.int .i64)) (.int .i64))))], [.l (.d false .bool)], fun x => s_IsRegion x⟩
noncomputable def c_s_IsRegion : Ctx := ⟨Try.prog, TT, [e_s_IsHalf, e_s_l1In], [⟨2, [(3, .l (.d false (.int .i64)))], some (0, []), some [(2, .l (.d false .bool))], false⟩], [⟨4, [], [], [], 0⟩], [], [], []⟩
theorem k_s_IsRegion (x : PMs.den e_s_IsRegion.ps) : funK c_s_IsRegion Try.f41 e_s_IsRegion.ps e_s_IsRegion.rs x = e_s_IsRegion.F x := by kernel_rfl
theorem o_s_IsRegion {D : Prop} : FnOk Try.prog e_s_IsRegion.f ∧ Ctr D Try.prog e_s_IsRegion := mkCtr (C := c_s_IsRegion) m_ (⟨o_s_IsHalf, o_s_l1In, trivial⟩) Try.func41 (by kernel_rfl) k_s_IsRegion
/-! loop.example/g00959/spec.l2Same -/
noncomputable def s_l2Same_s4 (x0 : List Int) (x1 : List Int) (v1 : Int) : Option ((Int) ⊕ ((Unit) ⊕ (Bool))) :=
 cond (decide (v1 < (x0.length : Int)))
 ((idx x0 v1).bind fun v2 => (idx x1 v1).bind fun v3 => cond (v2 != v3)
 (some (.inr (.inr false)))
 (some (.inl (IntKind.i64.wrap (v1 + (1 : Int))))))
 (some (.inr (.inl ())))
noncomputable def s_l2Same (x0 : List Int) (x1 : List Int) : Option (Bool) :=
 cond ((x0.length : Int) != (x1.length : Int))
 (some false)
 ((iter (s_l2Same_s4 x0 x1) (0 : Int)).bind fun v4 => match v4 with
 | .inl v5 => (some true)
 | .inr v6 => (some v6))
noncomputable def e_s_l2Same : CallE := ⟨72, [.d false (.list (.int .i64)), .d false (.list (.int .i64))], [.l (.d false .bool)], fun x => s_l2Same x.1 x.2⟩
noncomputable def c_s_l2Same : Ctx := ⟨Try.prog, TT, [], [⟨4, [(5, .l (.d false (.int .i64)))], some (0, []), some [(4, .l (.d false .bool))], false⟩], [⟨6, [], [], [], 0⟩], [], [], []⟩
theorem k_s_l2Same (x : PMs.den e_s_l2Same.ps) : funK c_s_l2Same Try.f72 e_s_l2Same.ps e_s_l2Same.rs x = e_s_l2Same.F x := by kernel_rfl
theorem o_s_l2Same {D : Prop} : FnOk Try.prog e_s_l2Same.f ∧ Ctr D Try.prog e_s_l2Same := mkCtr (C := c_s_l2Same) m_ (trivial) Try.func72 (by kernel_rfl) k_s_l2Same
/-! loop.example/g00959/spec.l4SameHalf -/
noncomputable def s_l4SameHalf (x0 : (List Int) × Int) (x1 : (List Int) × Int) : Option (Bool) :=
(s_l2Same x0.1 x1.1).bind fun v1 => cond v1
 (some (x0.2 == x1.2))
 (some false)
noncomputable def e_s_l4SameHalf : CallE := ⟨42, [.d false (.prod (.list (.int .i64)) (.int .i64)), .d false (.prod (.list (.int .i64)) (.int .i64))], [.l (.d false .bool)], fun x => s_l4SameHalf x.1 x.2⟩
noncomputable def c_s_l4SameHalf : Ctx := ⟨Try.prog, TT, [e_s_l2Same], [], [], [], [], []⟩
theorem k_s_l4SameHalf (x : PMs.den e_s_l4SameHalf.ps) : funK c_s_l4SameHalf Try.f42 e_s_l4SameHalf.ps e_s_l4SameHalf.rs x = e_s_l4SameHalf.F x := by kernel_rfl
theorem o_s_l4SameHalf {D : Prop} : FnOk Try.prog e_s_l4SameHalf.f ∧ Ctr D Try.prog e_s_l4SameHalf := mkCtr (C := c_s_l4SameHalf) m_ (⟨o_s_l2Same, trivial⟩) Try.func42 (by kernel_rfl) k_s_l4SameHalf
/-! loop.example/g00959/spec.TightenRegion -/
noncomputable def s_TightenRegion_s10 (v5 : (Int × List ((List Int) × Int)) × (Int × List ((List Int) × Int)) × (List Int × Int) × Bool × Int) : Option (((Int × List ((List Int) × Int)) × (Int × List ((List Int) × Int)) × (List Int × Int) × Bool × Int) ⊕ ((Int × List ((List Int) × Int)) × (Int × List ((List Int) × Int)) × (List Int × Int) × Bool)) :=
 cond (decide (v5.2.2.2.2 < (v5.2.1.2.length : Int)))
 (cond v5.2.2.2.1
 (some (.inl ((v5.1.1, v5.1.2), ((v5.2.1.1, v5.2.1.2), ((v5.2.2.1.1, v5.2.2.1.2), (true, (IntKind.i64.wrap (v5.2.2.2.2 + (1 : Int)))))))))
 ((inIdx v5.2.1.2.length v5.2.2.2.2).bind fun _ => (idx v5.2.1.2 ((v5.2.2.2.2).toNat : Int)).bind fun v6 => (s_l4SameHalf v6 (v5.2.2.1.1, v5.2.2.1.2)).bind fun v7 => some (.inl ((v5.1.1, v5.1.2), ((v5.2.1.1, v5.2.1.2), ((v5.2.2.1.1, v5.2.2.1.2), (v7, (IntKind.i64.wrap (v5.2.2.2.2 + (1 : Int))))))))))
 (some (.inr ((v5.1.1, v5.1.2), ((v5.2.1.1, v5.2.1.2), ((v5.2.2.1.1, v5.2.2.1.2), v5.2.2.2.1)))))
noncomputable def s_TightenRegion_s5 (x0 : Int × (List ((List Int) × Int))) (v2 : (Int × List ((List Int) × Int)) × (Int × List ((List Int) × Int)) × Int) : Option (((Int × List ((List Int) × Int)) × (Int × List ((List Int) × Int)) × Int) ⊕ ((Int × List ((List Int) × Int)) × Int × List ((List Int) × Int))) :=
 cond (decide (v2.2.2 < (x0.2.length : Int)))
 ((idx x0.2 v2.2.2).bind fun v3 => (s_l24Tight v3).bind fun v4 => (iter (s_TightenRegion_s10) ((v2.1.1, v2.1.2), ((v2.2.1.1, v2.2.1.2), ((v4.1, v4.2), (false, (0 : Int)))))).bind fun v8 => cond (!v8.2.2.2)
 ((appD 32 v8.2.1.2 ([(v8.2.2.1.1, v8.2.2.1.2)] : List ((List Int) × Int))).bind fun v9 => some (.inl ((v8.1.1, v8.1.2), ((v8.2.1.1, v9), (IntKind.i64.wrap (v2.2.2 + (1 : Int)))))))
 (some (.inl ((v8.1.1, v8.1.2), ((v8.2.1.1, v8.2.1.2), (IntKind.i64.wrap (v2.2.2 + (1 : Int))))))))
 (some (.inr ((v2.1.1, v2.1.2), (v2.2.1.1, v2.2.1.2))))
noncomputable def s_TightenRegion (x0 : Int × (List ((List Int) × Int))) : Option ((Int × List ((List Int) × Int)) × Bool) :=
(s_IsRegion (x0.1, x0.2)).bind fun v1 => cond (!v1)
 (some (((0 : Int), ([] : List ((List Int) × Int))), false))
 ((iter (s_TightenRegion_s5 x0) (((0 : Int), ([] : List ((List Int) × Int))), ((x0.1, ([] : List ((List Int) × Int))), (0 : Int)))).bind fun v10 => some ((v10.2.1, v10.2.2), true))
noncomputable def e_s_TightenRegion : CallE := ⟨10, [.d false (.prod (.int .i64) (.list (.prod (.list (.int .i64)) (.int .i64))))], [.a [(.d false (.int .i64)), (.o true 26 (.prod (.list (.int .i64)) (.int .i64)))], .l (.d false .bool)], fun x => s_TightenRegion x⟩
noncomputable def c_s_TightenRegion : Ctx := ⟨Try.prog, TT, [e_s_IsRegion, e_s_l24Tight, e_s_l4SameHalf], [⟨5, [(2, .b 32 [(.d false (.int .i64)), (.o true 26 (.prod (.list (.int .i64)) (.int .i64)))]), (4, .b 32 [(.d false (.int .i64)), (.o true 26 (.prod (.list (.int .i64)) (.int .i64)))]), (5, .l (.d false (.int .i64)))], some (0, [(2, .b 32 [(.d false (.int .i64)), (.o true 26 (.prod (.list (.int .i64)) (.int .i64)))]), (4, .b 32 [(.d false (.int .i64)), (.o true 26 (.prod (.list (.int .i64)) (.int .i64)))])]), none, false⟩, ⟨10, [(2, .b 32 [(.d false (.int .i64)), (.o true 26 (.prod (.list (.int .i64)) (.int .i64)))]), (4, .b 32 [(.d false (.int .i64)), (.o true 26 (.prod (.list (.int .i64)) (.int .i64)))]), (6, .b 26 [(.o true 3 (.int .i64)), (.d false (.int .i64))]), (7, .l (.d false .bool)), (8, .l (.d false (.int .i64)))], some (2, [(2, .b 32 [(.d false (.int .i64)), (.o true 26 (.prod (.list (.int .i64)) (.int .i64)))]), (4, .b 32 [(.d false (.int .i64)), (.o true 26 (.prod (.list (.int .i64)) (.int .i64)))]), (6, .b 26 [(.o true 3 (.int .i64)), (.d false (.int .i64))]), (7, .l (.d false .bool))]), none, false⟩], [⟨12, [], [], [], 0⟩], [], [], []⟩
theorem k_s_TightenRegion (x : PMs.den e_s_TightenRegion.ps) : funK c_s_TightenRegion Try.f10 e_s_TightenRegion.ps e_s_TightenRegion.rs x = e_s_TightenRegion.F x := by kernel_rfl
theorem o_s_TightenRegion {D : Prop} : FnOk Try.prog e_s_TightenRegion.f ∧ Ctr D Try.prog e_s_TightenRegion := mkCtr (C := c_s_TightenRegion) m_ (⟨o_s_IsRegion, o_s_l24Tight, o_s_l4SameHalf, trivial⟩) Try.func10 (by kernel_rfl) k_s_TightenRegion
/-! loop.example/g00959/spec.l1Bit -/
noncomputable def s_l1Bit (x0 : Bool) : Option (Int) :=
 cond x0
 (some (1 : Int))
 (some (0 : Int))
noncomputable def e_s_l1Bit : CallE := ⟨46, [.d false .bool], [.l (.d false (.int .i64))], fun x => s_l1Bit x⟩
noncomputable def c_s_l1Bit : Ctx := ⟨Try.prog, TT, [], [], [], [], [], []⟩
theorem k_s_l1Bit (x : PMs.den e_s_l1Bit.ps) : funK c_s_l1Bit Try.f46 e_s_l1Bit.ps e_s_l1Bit.rs x = e_s_l1Bit.F x := by kernel_rfl
theorem o_s_l1Bit {D : Prop} : FnOk Try.prog e_s_l1Bit.f ∧ Ctr D Try.prog e_s_l1Bit := mkCtr (C := c_s_l1Bit) m_ (trivial) Try.func46 (by kernel_rfl) k_s_l1Bit
/-! loop.example/g00959/spec.DrawCombineHalves -/
noncomputable def s_DrawCombineHalves_s26_3 (x0 : List Int) (v1 : Int × Int) : Option ((Int × Int) ⊕ (Int)) :=
 cond (decide (v1.2 < (x0.length : Int)))
 (cond (decide (v1.2 < (4000 : Int)))
 ((idx x0 v1.2).bind fun v2 => some (.inl ((andI .i64 (IntKind.i64.wrap ((IntKind.i64.wrap ((IntKind.i64.wrap (v1.1 * (131 : Int))) + (IntKind.i64.wrap v2))) + (7 : Int))) (1073741823 : Int)), (IntKind.i64.wrap (v1.2 + (1 : Int))))))
 (some (.inr v1.1)))
 (some (.inr v1.1))
noncomputable def s_DrawCombineHalves (x0 : List Int) : Option ((List Int × Int) × (List Int × Int) × Int × Int) :=
(iter (s_DrawCombineHalves_s26_3 x0) ((IntKind.i64.wrap ((26583 : Int) + (x0.length : Int))), (0 : Int))).bind fun v3 => (s_l1Below (x0, ((0 : Int), v3)) (3 : Int)).bind fun v4 => (s_l4Draw (v4.2.1.1, (v4.2.1.2.1, v4.2.1.2.2)) (IntKind.i64.wrap ((1 : Int) + v4.1))).bind fun v5 => (inIdx v5.1.2.length (0 : Int)).bind fun _ => (idx v5.1.2 (((0 : Int)).toNat : Int)).bind fun v6 => (inIdx v5.1.2.length (IntKind.i64.wrap ((v5.1.2.length : Int) - (1 : Int)))).bind fun _ => (idx v5.1.2 (((IntKind.i64.wrap ((v5.1.2.length : Int) - (1 : Int)))).toNat : Int)).bind fun v7 => (s_l1Once (v5.2.1.1, (v5.2.1.2.1, v5.2.1.2.2)) (10 : Int)).bind fun v8 => cond v8.1
 ((s_l4Half (v8.2.1.1, (v8.2.1.2.1, v8.2.1.2.2)) (2 : Int)).bind fun v9 => (s_l1Below (v9.2.1.1, (v9.2.1.2.1, v9.2.1.2.2)) (4 : Int)).bind fun v10 => (s_l1Once (v10.2.1.1, (v10.2.1.2.1, v10.2.1.2.2)) (12 : Int)).bind fun v11 => (s_l1Bit v11.1).bind fun v12 => (s_l1PickInt (v11.2.1.1, (v11.2.1.2.1, v11.2.1.2.2)) ([(0 : Int), (1 : Int), (2 : Int), (3 : Int), (1 : Int), (10 : Int), (11 : Int)] : List Int)).bind fun v13 => some ((v6.1, v6.2), ((v9.1.1, v9.1.2), ((IntKind.i64.wrap (v10.1 - v12)), v13.1))))
 ((s_l1Below (v8.2.1.1, (v8.2.1.2.1, v8.2.1.2.2)) (4 : Int)).bind fun v14 => (s_l1Once (v14.2.1.1, (v14.2.1.2.1, v14.2.1.2.2)) (12 : Int)).bind fun v15 => (s_l1Bit v15.1).bind fun v16 => (s_l1PickInt (v15.2.1.1, (v15.2.1.2.1, v15.2.1.2.2)) ([(0 : Int), (1 : Int), (2 : Int), (3 : Int), (1 : Int), (10 : Int), (11 : Int)] : List Int)).bind fun v17 => some ((v6.1, v6.2), ((v7.1, v7.2), ((IntKind.i64.wrap (v14.1 - v16)), v17.1))))
noncomputable def e_s_DrawCombineHalves : CallE := ⟨11, [.d false (.list (.int .u8))], [.a [(.d false (.list (.int .i64))), (.d false (.int .i64))], .a [(.d false (.list (.int .i64))), (.d false (.int .i64))], .l (.d false (.int .i64)), .l (.d false (.int .i64))], fun x => s_DrawCombineHalves x⟩
noncomputable def c_s_DrawCombineHalves_26 : Ctx := ⟨Try.prog, TT, [], [⟨3, [(3, .l (.d false (.int .i64))), (4, .l (.d false (.int .i64)))], some (0, [(3, .l (.d false (.int .i64)))]), none, true⟩], [], [], [], []⟩
noncomputable def n_s_DrawCombineHalves_26 : InE := ⟨26, false, inlK c_s_DrawCombineHalves_26 Try.f26⟩
theorem q_s_DrawCombineHalves_26 {D : Prop} : FnOk Try.prog n_s_DrawCombineHalves_26.f ∧ InOk D Try.prog n_s_DrawCombineHalves_26 := mkInl (C := c_s_DrawCombineHalves_26) m_ (trivial) Try.func26 (by kernel_rfl)
noncomputable def c_s_DrawCombineHalves : Ctx := ⟨Try.prog, TT, [e_s_l1Below, e_s_l4Draw, e_s_l1Once, e_s_l4Half, e_s_l1Bit, e_s_l1PickInt], [], [⟨8, [8, 9], [], [], 0⟩], [n_s_DrawCombineHalves_26], [], [(8, [2, 3, 0, 1, 4, 5, 6, 7, 8, 9])]⟩
theorem k_s_DrawCombineHalves (x : PMs.den e_s_DrawCombineHalves.ps) : funK c_s_DrawCombineHalves Try.f11 e_s_DrawCombineHalves.ps e_s_DrawCombineHalves.rs x = e_s_DrawCombineHalves.F x := by kernel_rfl
theorem o_s_DrawCombineHalves {D : Prop} : FnOk Try.prog e_s_DrawCombineHalves.f ∧ Ctr D Try.prog e_s_DrawCombineHalves := mkCtr (C := c_s_DrawCombineHalves) m_ (⟨o_s_l1Below, o_s_l4Draw, o_s_l1Once, o_s_l4Half, o_s_l1Bit, o_s_l1PickInt, trivial⟩) Try.func11 (by kernel_rfl) k_s_DrawCombineHalves ⟨q_s_DrawCombineHalves_26, trivial⟩
/-! loop.example/g00959/impl.less -/
noncomputable def i_less_s1 (x0 : List Int) (x1 : Int) (x2 : List Int) (v1 : List Int × Int) : Option ((List Int × Int) ⊕ (List Int)) :=
 cond (decide (v1.2 < (x0.length : Int)))
 ((inIdx v1.1.length v1.2).bind fun _ => (idx v1.1 ((v1.2).toNat : Int)).bind fun v2 => (idx x2 v1.2).bind fun v3 => (inIdx v1.1.length v1.2).bind fun _ => (inIdx v1.1.length ((v1.2).toNat : Int)).bind fun _ => some (.inl ((v1.1.set ((v1.2).toNat) (IntKind.i64.wrap (v2 - (IntKind.i64.wrap (x1 * v3))))), (IntKind.i64.wrap (v1.2 + (1 : Int))))))
 (some (.inr v1.1))
noncomputable def i_less (x0 : List Int) (x1 : Int) (x2 : List Int) : Option ((Unit) × (List Int) × Unit) :=
(iter (i_less_s1 x0 x1 x2) (x0, (0 : Int))).bind fun v4 => some ((), (v4, ()))
noncomputable def e_i_less : CallE := ⟨49, [.io true 3 (.int .i64), .d false (.int .i64), .d false (.list (.int .i64))], [], fun x => i_less x.1 x.2.1 x.2.2⟩
noncomputable def c_i_less : Ctx := ⟨Try.prog, TT, [], [⟨1, [(0, .l (.o true 3 (.int .i64))), (9, .l (.d false (.int .i64)))], some (0, [(0, .l (.o true 3 (.int .i64)))]), none, false⟩], [⟨3, [], [], [], 0⟩], [], [], []⟩
theorem k_i_less (x : PMs.den e_i_less.ps) : funK c_i_less Try.f49 e_i_less.ps e_i_less.rs x = e_i_less.F x := by kernel_rfl
theorem o_i_less {D : Prop} : FnOk Try.prog e_i_less.f ∧ Ctr D Try.prog e_i_less := mkCtr (C := c_i_less) m_ (trivial) Try.func49 (by kernel_rfl) k_i_less
/-! loop.example/g00959/impl.CombineHalves -/
noncomputable def i_CombineHalves (x0 : (List Int) × Int) (x1 : (List Int) × Int) (x2 : Int) (x3 : Int) : Option ((List Int × Int) × Bool) :=
(i_IsHalf (x0.1.length : Int) (x0.1, x0.2)).bind fun v1 => cond (!v1)
 (some ((([] : List Int), (0 : Int)), false))
 ((i_IsHalf (x0.1.length : Int) (x1.1, x1.2)).bind fun v2 => cond (!v2)
 (some ((([] : List Int), (0 : Int)), false))
 ((i_within x2 (0 : Int) (10 : Int)).bind fun v3 => cond (!v3)
 (some ((([] : List Int), (0 : Int)), false))
 ((i_within x3 (0 : Int) (10 : Int)).bind fun v4 => cond (!v4)
 (some ((([] : List Int), (0 : Int)), false))
 ((mkD 8 (x0.1.length : Int) (0 : Int)).bind fun v5 => (i_less v5 (IntKind.i64.wrap (0 - x2)) x0.1).bind fun v6 => (i_less v6.2.1 (IntKind.i64.wrap (0 - x3)) x1.1).bind fun v7 => (i_TightenHalf (v7.2.1, (IntKind.i64.wrap ((IntKind.i64.wrap (x2 * x0.2)) + (IntKind.i64.wrap (x3 * x1.2)))))).bind fun v8 => some ((v8.1.1, v8.1.2), v8.2)))))
noncomputable def e_i_CombineHalves : CallE := ⟨12, [.d false (.prod (.list (.int .i64)) (.int .i64)), .d false (.prod (.list (.int .i64)) (.int .i64)), .d false (.int .i64), .d false (.int .i64)], [.a [(.o true 3 (.int .i64)), (.d false (.int .i64))], .l (.d false .bool)], fun x => i_CombineHalves x.1 x.2.1 x.2.2.1 x.2.2.2⟩
noncomputable def c_i_CombineHalves : Ctx := ⟨Try.prog, TT, [e_i_IsHalf, e_i_within, e_i_less, e_i_TightenHalf], [], [⟨4, [], [], [], 0⟩], [], [], []⟩
theorem k_i_CombineHalves (x : PMs.den e_i_CombineHalves.ps) : funK c_i_CombineHalves Try.f12 e_i_CombineHalves.ps e_i_CombineHalves.rs x = e_i_CombineHalves.F x := by kernel_rfl
theorem o_i_CombineHalves {D : Prop} : FnOk Try.prog e_i_CombineHalves.f ∧ Ctr D Try.prog e_i_CombineHalves := mkCtr (C := c_i_CombineHalves) m_ (⟨o_i_IsHalf, o_i_within, o_i_less, o_i_TightenHalf, trivial⟩) Try.func12 (by kernel_rfl) k_i_CombineHalves
/-! loop.example/g00959/spec.l2Add -/
noncomputable def s_l2Add_s3 (x0 : List Int) (x1 : List Int) (v1 : List Int × Int) : Option ((List Int × Int) ⊕ (List Int)) :=
 cond (decide (v1.2 < (x0.length : Int)))
 ((idx x0 v1.2).bind fun v2 => (idx x1 v1.2).bind fun v3 => (appD 8 v1.1 ([(IntKind.i64.wrap (v2 + v3))] : List Int)).bind fun v4 => some (.inl (v4, (IntKind.i64.wrap (v1.2 + (1 : Int))))))
 (some (.inr v1.1))
noncomputable def s_l2Add (x0 : List Int) (x1 : List Int) : Option (List Int) :=
(iter (s_l2Add_s3 x0 x1) (([] : List Int), (0 : Int))).bind fun v5 => some v5
noncomputable def e_s_l2Add : CallE := ⟨51, [.d false (.list (.int .i64)), .d false (.list (.int .i64))], [.l (.o true 3 (.int .i64))], fun x => s_l2Add x.1 x.2⟩
noncomputable def c_s_l2Add : Ctx := ⟨Try.prog, TT, [], [⟨3, [(5, .l (.o true 3 (.int .i64))), (6, .l (.d false (.int .i64)))], some (0, [(5, .l (.o true 3 (.int .i64)))]), none, false⟩], [⟨5, [], [], [], 0⟩], [], [], []⟩
theorem k_s_l2Add (x : PMs.den e_s_l2Add.ps) : funK c_s_l2Add Try.f51 e_s_l2Add.ps e_s_l2Add.rs x = e_s_l2Add.F x := by kernel_rfl
theorem o_s_l2Add {D : Prop} : FnOk Try.prog e_s_l2Add.f ∧ Ctr D Try.prog e_s_l2Add := mkCtr (C := c_s_l2Add) m_ (trivial) Try.func51 (by kernel_rfl) k_s_l2Add
/-! loop.example/g00959/spec.CombineHalves -/
noncomputable def s_CombineHalves (x0 : (List Int) × Int) (x1 : (List Int) × Int) (x2 : Int) (x3 : Int) : Option ((List Int × Int) × Bool) :=
(s_IsHalf (x0.1.length : Int) (x0.1, x0.2)).bind fun v1 => cond (!v1)
 (some ((([] : List Int), (0 : Int)), false))
 ((s_IsHalf (x0.1.length : Int) (x1.1, x1.2)).bind fun v2 => cond (!v2)
 (some ((([] : List Int), (0 : Int)), false))
 ((s_l1In x2 (0 : Int) (10 : Int)).bind fun v3 => cond (!v3)
 (some ((([] : List Int), (0 : Int)), false))
 ((s_l1In x3 (0 : Int) (10 : Int)).bind fun v4 => cond (!v4)
 (some ((([] : List Int), (0 : Int)), false))
 ((s_l2Scale x0.1 x2).bind fun v5 => (s_l2Scale x1.1 x3).bind fun v6 => (s_l2Add v5 v6).bind fun v7 => (s_IsHalf (x0.1.length : Int) (v7, (IntKind.i64.wrap ((IntKind.i64.wrap (x2 * x0.2)) + (IntKind.i64.wrap (x3 * x1.2)))))).bind fun v8 => cond (!v8)
 (some ((([] : List Int), (0 : Int)), false))
 ((s_l24Tight (v7, (IntKind.i64.wrap ((IntKind.i64.wrap (x2 * x0.2)) + (IntKind.i64.wrap (x3 * x1.2)))))).bind fun v9 => some ((v9.1, v9.2), true))))))
noncomputable def e_s_CombineHalves : CallE := ⟨13, [.d false (.prod (.list (.int .i64)) (.int .i64)), .d false (.prod (.list (.int .i64)) (.int .i64)), .d false (.int .i64), .d false (.int .i64)], [.a [(.o true 3 (.int .i64)), (.d false (.int .i64))], .l (.d false .bool)], fun x => s_CombineHalves x.1 x.2.1 x.2.2.1 x.2.2.2⟩
noncomputable def c_s_CombineHalves : Ctx := ⟨Try.prog, TT, [e_s_IsHalf, e_s_l1In, e_s_l2Scale, e_s_l2Add, e_s_l24Tight], [], [⟨4, [], [], [], 0⟩], [], [], []⟩
theorem k_s_CombineHalves (x : PMs.den e_s_CombineHalves.ps) : funK c_s_CombineHalves Try.f13 e_s_CombineHalves.ps e_s_CombineHalves.rs x = e_s_CombineHalves.F x := by kernel_rfl
theorem o_s_CombineHalves {D : Prop} : FnOk Try.prog e_s_CombineHalves.f ∧ Ctr D Try.prog e_s_CombineHalves := mkCtr (C := c_s_CombineHalves) m_ (⟨o_s_IsHalf, o_s_l1In, o_s_l2Scale, o_s_l2Add, o_s_l24Tight, trivial⟩) Try.func13 (by kernel_rfl) k_s_CombineHalves
/-! loop.example/g00959/spec.l1Min -/
noncomputable def s_l1Min (x0 : Int) (x1 : Int) : Option (Int) :=
 cond (decide (x0 < x1))
 (some x0)
 (some x1)
noncomputable def e_s_l1Min : CallE := ⟨53, [.d false (.int .i64), .d false (.int .i64)], [.l (.d false (.int .i64))], fun x => s_l1Min x.1 x.2⟩
noncomputable def c_s_l1Min : Ctx := ⟨Try.prog, TT, [], [], [], [], [], []⟩
theorem k_s_l1Min (x : PMs.den e_s_l1Min.ps) : funK c_s_l1Min Try.f53 e_s_l1Min.ps e_s_l1Min.rs x = e_s_l1Min.F x := by kernel_rfl
theorem o_s_l1Min {D : Prop} : FnOk Try.prog e_s_l1Min.f ∧ Ctr D Try.prog e_s_l1Min := mkCtr (C := c_s_l1Min) m_ (trivial) Try.func53 (by kernel_rfl) k_s_l1Min
/-! loop.example/g00959/spec.DrawIsImplied -/
noncomputable def s_DrawIsImplied_s26_3 (x0 : List Int) (v1 : Int × Int) : Option ((Int × Int) ⊕ (Int)) :=
 cond (decide (v1.2 < (x0.length : Int)))
 (cond (decide (v1.2 < (4000 : Int)))
 ((idx x0 v1.2).bind fun v2 => some (.inl ((andI .i64 (IntKind.i64.wrap ((IntKind.i64.wrap ((IntKind.i64.wrap (v1.1 * (131 : Int))) + (IntKind.i64.wrap v2))) + (7 : Int))) (1073741823 : Int)), (IntKind.i64.wrap (v1.2 + (1 : Int))))))
 (some (.inr v1.1)))
 (some (.inr v1.1))
noncomputable def s_DrawIsImplied (x0 : List Int) : Option ((Int × List ((List Int) × Int)) × List Int × Int) :=
(iter (s_DrawIsImplied_s26_3 x0) ((IntKind.i64.wrap ((26583 : Int) + (x0.length : Int))), (0 : Int))).bind fun v3 => (s_l4Bent (x0, ((0 : Int), v3))).bind fun v4 => cond (decide ((v4.1.2.length : Int) > (1 : Int)))
 ((s_l1Once (v4.2.1.1, (v4.2.1.2.1, v4.2.1.2.2)) (2 : Int)).bind fun v5 => cond v5.1
 ((inIdx v4.1.2.length (0 : Int)).bind fun _ => (idx v4.1.2 (((0 : Int)).toNat : Int)).bind fun v6 => (inIdx v4.1.2.length (1 : Int)).bind fun _ => (idx v4.1.2 (((1 : Int)).toNat : Int)).bind fun v7 => (s_CombineHalves v6 v7 (1 : Int) (1 : Int)).bind fun v8 => cond v8.2
 (some ((v4.1.1, v4.1.2), (v8.1.1, v8.1.2)))
 ((s_l1Min (3 : Int) v4.1.1).bind fun v9 => (s_l1Max (1 : Int) v9).bind fun v10 => (s_l4Half (v5.2.1.1, (v5.2.1.2.1, v5.2.1.2.2)) v10).bind fun v11 => some ((v4.1.1, v4.1.2), (v11.1.1, v11.1.2))))
 ((s_l1Min (3 : Int) v4.1.1).bind fun v12 => (s_l1Max (1 : Int) v12).bind fun v13 => (s_l4Half (v5.2.1.1, (v5.2.1.2.1, v5.2.1.2.2)) v13).bind fun v14 => some ((v4.1.1, v4.1.2), (v14.1.1, v14.1.2))))
 ((s_l1Min (3 : Int) v4.1.1).bind fun v15 => (s_l1Max (1 : Int) v15).bind fun v16 => (s_l4Half (v4.2.1.1, (v4.2.1.2.1, v4.2.1.2.2)) v16).bind fun v17 => some ((v4.1.1, v4.1.2), (v17.1.1, v17.1.2)))
noncomputable def e_s_DrawIsImplied : CallE := ⟨14, [.d false (.list (.int .u8))], [.a [(.d false (.int .i64)), (.o true 26 (.prod (.list (.int .i64)) (.int .i64)))], .a [(.o true 3 (.int .i64)), (.d false (.int .i64))]], fun x => s_DrawIsImplied x⟩
noncomputable def c_s_DrawIsImplied_26 : Ctx := ⟨Try.prog, TT, [], [⟨3, [(3, .l (.d false (.int .i64))), (4, .l (.d false (.int .i64)))], some (0, [(3, .l (.d false (.int .i64)))]), none, true⟩], [], [], [], []⟩
noncomputable def n_s_DrawIsImplied_26 : InE := ⟨26, false, inlK c_s_DrawIsImplied_26 Try.f26⟩
theorem q_s_DrawIsImplied_26 {D : Prop} : FnOk Try.prog n_s_DrawIsImplied_26.f ∧ InOk D Try.prog n_s_DrawIsImplied_26 := mkInl (C := c_s_DrawIsImplied_26) m_ (trivial) Try.func26 (by kernel_rfl)
noncomputable def c_s_DrawIsImplied : Ctx := ⟨Try.prog, TT, [e_s_l4Bent, e_s_l1Once, e_s_CombineHalves, e_s_l1Min, e_s_l1Max, e_s_l4Half], [], [⟨4, [], [], [], 0⟩, ⟨6, [6], [], [], 0⟩, ⟨7, [5], [], [], 0⟩], [n_s_DrawIsImplied_26], [], [(6, [0, 1, 2, 3]), (7, [1, 2, 3, 0, 4, 5, 6, 7, 8])]⟩
theorem k_s_DrawIsImplied (x : PMs.den e_s_DrawIsImplied.ps) : funK c_s_DrawIsImplied Try.f14 e_s_DrawIsImplied.ps e_s_DrawIsImplied.rs x = e_s_DrawIsImplied.F x := by kernel_rfl
theorem o_s_DrawIsImplied {D : Prop} : FnOk Try.prog e_s_DrawIsImplied.f ∧ Ctr D Try.prog e_s_DrawIsImplied := mkCtr (C := c_s_DrawIsImplied) m_ (⟨o_s_l4Bent, o_s_l1Once, o_s_CombineHalves, o_s_l1Min, o_s_l1Max, o_s_l4Half, trivial⟩) Try.func14 (by kernel_rfl) k_s_DrawIsImplied ⟨q_s_DrawIsImplied_26, trivial⟩
/-! loop.example/g00959/spec.l3Det -/
noncomputable def s_l3Det_s8 (x0 : List (List Int)) (v11 : Int × Int) : Option ((Int × Int) ⊕ (Int)) :=
 cond (decide (v11.2 < (3 : Int)))
 ((remI .i64 (IntKind.i64.wrap (v11.2 + (1 : Int))) (3 : Int)).bind fun v12 => (remI .i64 (IntKind.i64.wrap (v11.2 + (2 : Int))) (3 : Int)).bind fun v13 => (idx x0 (0 : Int)).bind fun v14 => (idx v14 v11.2).bind fun v15 => (idx x0 (1 : Int)).bind fun v16 => (idx v16 v12).bind fun v17 => (idx x0 (2 : Int)).bind fun v18 => (idx v18 v13).bind fun v19 => (idx x0 (1 : Int)).bind fun v20 => (idx v20 v13).bind fun v21 => (idx x0 (2 : Int)).bind fun v22 => (idx v22 v12).bind fun v23 => some (.inl ((IntKind.i64.wrap (v11.1 + (IntKind.i64.wrap (v15 * (IntKind.i64.wrap ((IntKind.i64.wrap (v17 * v19)) - (IntKind.i64.wrap (v21 * v23)))))))), (IntKind.i64.wrap (v11.2 + (1 : Int))))))
 (some (.inr v11.1))
noncomputable def s_l3Det (x0 : List (List Int)) : Option (Int) :=
 cond ((x0.length : Int) == (1 : Int))
 ((idx x0 (0 : Int)).bind fun v1 => (idx v1 (0 : Int)).bind fun v2 => some v2)
 (cond ((x0.length : Int) == (2 : Int))
 ((idx x0 (0 : Int)).bind fun v3 => (idx v3 (0 : Int)).bind fun v4 => (idx x0 (1 : Int)).bind fun v5 => (idx v5 (1 : Int)).bind fun v6 => (idx x0 (0 : Int)).bind fun v7 => (idx v7 (1 : Int)).bind fun v8 => (idx x0 (1 : Int)).bind fun v9 => (idx v9 (0 : Int)).bind fun v10 => some (IntKind.i64.wrap ((IntKind.i64.wrap (v4 * v6)) - (IntKind.i64.wrap (v8 * v10)))))
 ((iter (s_l3Det_s8 x0) ((0 : Int), (0 : Int))).bind fun v24 => some v24))
noncomputable def e_s_l3Det : CallE := ⟨88, [.d false (.list (.list (.int .i64)))], [.l (.d false (.int .i64))], fun x => s_l3Det x⟩
noncomputable def c_s_l3Det : Ctx := ⟨Try.prog, TT, [], [⟨8, [(3, .l (.d false (.int .i64))), (4, .l (.d false (.int .i64)))], some (1, [(3, .l (.d false (.int .i64)))]), none, false⟩], [⟨5, [], [], [], 0⟩, ⟨12, [], [], [], 0⟩], [], [], []⟩
theorem k_s_l3Det (x : PMs.den e_s_l3Det.ps) : funK c_s_l3Det Try.f88 e_s_l3Det.ps e_s_l3Det.rs x = e_s_l3Det.F x := by kernel_rfl
theorem o_s_l3Det {D : Prop} : FnOk Try.prog e_s_l3Det.f ∧ Ctr D Try.prog e_s_l3Det := mkCtr (C := c_s_l3Det) m_ (trivial) Try.func88 (by kernel_rfl) k_s_l3Det
/-! loop.example/g00959/spec.l6Solve -/
noncomputable def s_l6Solve_s3 (x0 : List ((List Int) × Int)) (v1 : (List Int × Int) × List (List Int) × Int) : Option (((List Int × Int) × List (List Int) × Int) ⊕ ((List Int × Int) × List (List Int))) :=
 cond (decide (v1.2.2 < (x0.length : Int)))
 ((idx x0 v1.2.2).bind fun v2 => (appD 24 v1.2.1 ([v2.1] : List (List Int))).bind fun v3 => some (.inl ((v1.1.1, v1.1.2), (v3, (IntKind.i64.wrap (v1.2.2 + (1 : Int)))))))
 (some (.inr ((v1.1.1, v1.1.2), v1.2.1)))
noncomputable def s_l6Solve_s15 (x0 : List ((List Int) × Int)) (v4 : (List Int × Int) × List (List Int)) (v6 : (List Int × Int) × List Int × Int) (v7 : (List Int × Int) × List Int × List (List Int) × Int) : Option (((List Int × Int) × List Int × List (List Int) × Int) ⊕ ((List Int × Int) × List Int × List (List Int))) :=
 cond (decide (v7.2.2.2 < (v4.2.length : Int)))
 ((idx v4.2 v7.2.2.2).bind fun v8 => (appD 8 ([] : List Int) v8).bind fun v9 => (idx x0 v7.2.2.2).bind fun v10 => (inIdx v9.length v6.2.2).bind fun _ => (inIdx v9.length ((v6.2.2).toNat : Int)).bind fun _ => (appD 24 v7.2.2.1 ([(v9.set ((v6.2.2).toNat) v10.2)] : List (List Int))).bind fun v11 => some (.inl ((v7.1.1, v7.1.2), (v7.2.1, (v11, (IntKind.i64.wrap (v7.2.2.2 + (1 : Int))))))))
 (some (.inr ((v7.1.1, v7.1.2), (v7.2.1, v7.2.2.1))))
noncomputable def s_l6Solve_s11 (x0 : List ((List Int) × Int)) (v4 : (List Int × Int) × List (List Int)) (v6 : (List Int × Int) × List Int × Int) : Option (((List Int × Int) × List Int × Int) ⊕ ((List Int × Int) × List Int)) :=
 cond (decide (v6.2.2 < (v4.2.length : Int)))
 ((iter (s_l6Solve_s15 x0 v4 v6) ((v6.1.1, v6.1.2), (v6.2.1, (([] : List (List Int)), (0 : Int))))).bind fun v12 => (s_l3Det v12.2.2).bind fun v13 => (appD 8 v12.2.1 ([v13] : List Int)).bind fun v14 => some (.inl ((v12.1.1, v12.1.2), (v14, (IntKind.i64.wrap (v6.2.2 + (1 : Int)))))))
 (some (.inr ((v6.1.1, v6.1.2), v6.2.1)))
noncomputable def s_l6Solve_s27 (v16 : List Int) (v18 : Int) (v20 : (List Int × Int) × (List Int × Int) × Int) : Option (((List Int × Int) × (List Int × Int) × Int) ⊕ ((List Int × Int) × List Int × Int)) :=
 cond (decide (v20.2.2 < (v16.length : Int)))
 ((idx v16 v20.2.2).bind fun v21 => (quoI .i64 v21 v18).bind fun v22 => (appD 8 v20.2.1.1 ([v22] : List Int)).bind fun v23 => some (.inl ((v20.1.1, v20.1.2), ((v23, v20.2.1.2), (IntKind.i64.wrap (v20.2.2 + (1 : Int)))))))
 (some (.inr ((v20.1.1, v20.1.2), (v20.2.1.1, v20.2.1.2))))
noncomputable def s_l6Solve_s27b31 (v15 : (List Int × Int) × List Int) (v26 : Int) (v28 : (List Int × Int) × (List Int × Int) × Int) : Option (((List Int × Int) × (List Int × Int) × Int) ⊕ ((List Int × Int) × List Int × Int)) :=
 cond (decide (v28.2.2 < (v15.2.length : Int)))
 ((idx v15.2 v28.2.2).bind fun v29 => (quoI .i64 v29 v26).bind fun v30 => (appD 8 v28.2.1.1 ([v30] : List Int)).bind fun v31 => some (.inl ((v28.1.1, v28.1.2), ((v31, v28.2.1.2), (IntKind.i64.wrap (v28.2.2 + (1 : Int)))))))
 (some (.inr ((v28.1.1, v28.1.2), (v28.2.1.1, v28.2.1.2))))
noncomputable def s_l6Solve (x0 : List ((List Int) × Int)) : Option ((List Int × Int) × Bool) :=
(iter (s_l6Solve_s3 x0) ((([] : List Int), (0 : Int)), (([] : List (List Int)), (0 : Int)))).bind fun v4 => (s_l3Det v4.2).bind fun v5 => cond (v5 == (0 : Int))
 (some ((([] : List Int), (0 : Int)), false))
 ((iter (s_l6Solve_s11 x0 v4) ((v4.1.1, v4.1.2), (([] : List Int), (0 : Int)))).bind fun v15 => cond (decide (v5 < (0 : Int)))
 ((s_l2Scale v15.2 (-1 : Int)).bind fun v16 => (s_l2All v16).bind fun v17 => (s_l2Gcd v17 (IntKind.i64.wrap (0 - v5))).bind fun v18 => (quoI .i64 (IntKind.i64.wrap (0 - v5)) v18).bind fun v19 => (iter (s_l6Solve_s27 v16 v18) ((v15.1.1, v15.1.2), ((([] : List Int), v19), (0 : Int)))).bind fun v24 => some ((v24.2.1, v24.2.2), true))
 ((s_l2All v15.2).bind fun v25 => (s_l2Gcd v25 v5).bind fun v26 => (quoI .i64 v5 v26).bind fun v27 => (iter (s_l6Solve_s27b31 v15 v26) ((v15.1.1, v15.1.2), ((([] : List Int), v27), (0 : Int)))).bind fun v32 => some ((v32.2.1, v32.2.2), true)))
noncomputable def e_s_l6Solve : CallE := ⟨86, [.d false (.list (.prod (.list (.int .i64)) (.int .i64)))], [.a [(.o true 3 (.int .i64)), (.d false (.int .i64))], .l (.d false .bool)], fun x => s_l6Solve x⟩
noncomputable def c_s_l6Solve : Ctx := ⟨Try.prog, TT, [e_s_l3Det, e_s_l2Scale, e_s_l2All, e_s_l2Gcd], [⟨3, [(2, .b 42 [(.o true 3 (.int .i64)), (.d false (.int .i64))]), (4, .l (.o false 24 (.list (.int .i64)))), (5, .l (.d false (.int .i64)))], some (0, [(2, .b 42 [(.o true 3 (.int .i64)), (.d false (.int .i64))]), (4, .l (.o false 24 (.list (.int .i64))))]), none, false⟩, ⟨11, [(2, .b 42 [(.o true 3 (.int .i64)), (.d false (.int .i64))]), (7, .l (.o true 3 (.int .i64))), (8, .l (.d false (.int .i64)))], some (2, [(2, .b 42 [(.o true 3 (.int .i64)), (.d false (.int .i64))]), (7, .l (.o true 3 (.int .i64)))]), none, false⟩, ⟨15, [(2, .b 42 [(.o true 3 (.int .i64)), (.d false (.int .i64))]), (7, .l (.o true 3 (.int .i64))), (9, .l (.o true 24 (.list (.int .i64)))), (10, .l (.d false (.int .i64)))], some (4, [(2, .b 42 [(.o true 3 (.int .i64)), (.d false (.int .i64))]), (7, .l (.o true 3 (.int .i64))), (9, .l (.o true 24 (.list (.int .i64))))]), none, false⟩, ⟨27, [(2, .b 42 [(.o true 3 (.int .i64)), (.d false (.int .i64))]), (13, .b 42 [(.o true 3 (.int .i64)), (.d false (.int .i64))]), (14, .l (.d false (.int .i64)))], some (6, [(2, .b 42 [(.o true 3 (.int .i64)), (.d false (.int .i64))]), (13, .b 42 [(.o true 3 (.int .i64)), (.d false (.int .i64))])]), none, false⟩], [⟨29, [], [], [], 0⟩], [], [], []⟩
theorem k_s_l6Solve (x : PMs.den e_s_l6Solve.ps) : funK c_s_l6Solve Try.f86 e_s_l6Solve.ps e_s_l6Solve.rs x = e_s_l6Solve.F x := by kernel_rfl
theorem o_s_l6Solve {D : Prop} : FnOk Try.prog e_s_l6Solve.f ∧ Ctr D Try.prog e_s_l6Solve := mkCtr (C := c_s_l6Solve) m_ (⟨o_s_l3Det, o_s_l2Scale, o_s_l2All, o_s_l2Gcd, trivial⟩) Try.func86 (by kernel_rfl) k_s_l6Solve
/-! loop.example/g00959/spec.l6Fine -/
noncomputable def s_l6Fine (x0 : (List Int) × Int) : Option (Bool) :=
(s_l1In x0.2 (1 : Int) (100000 : Int)).bind fun v1 => cond v1
 ((s_l2Small x0.1 (10000000 : Int)).bind fun v2 => some v2)
 (some false)
noncomputable def e_s_l6Fine : CallE := ⟨78, [.d false (.prod (.list (.int .i64)) (.int .i64))], [.l (.d false .bool)], fun x => s_l6Fine x⟩
noncomputable def c_s_l6Fine : Ctx := ⟨Try.prog, TT, [e_s_l1In, e_s_l2Small], [], [], [], [], []⟩
theorem k_s_l6Fine (x : PMs.den e_s_l6Fine.ps) : funK c_s_l6Fine Try.f78 e_s_l6Fine.ps e_s_l6Fine.rs x = e_s_l6Fine.F x := by kernel_rfl
theorem o_s_l6Fine {D : Prop} : FnOk Try.prog e_s_l6Fine.f ∧ Ctr D Try.prog e_s_l6Fine := mkCtr (C := c_s_l6Fine) m_ (⟨o_s_l1In, o_s_l2Small, trivial⟩) Try.func78 (by kernel_rfl) k_s_l6Fine
/-! loop.example/g00959/spec.l2Dot -/
noncomputable def s_l2Dot_s3 (x0 : List Int) (x1 : List Int) (v1 : Int × Int) : Option ((Int × Int) ⊕ (Int)) :=
 cond (decide (v1.2 < (x0.length : Int)))
 (cond (decide (v1.2 < (x1.length : Int)))
 ((idx x0 v1.2).bind fun v2 => (idx x1 v1.2).bind fun v3 => some (.inl ((IntKind.i64.wrap (v1.1 + (IntKind.i64.wrap (v2 * v3)))), (IntKind.i64.wrap (v1.2 + (1 : Int))))))
 (some (.inr v1.1)))
 (some (.inr v1.1))
noncomputable def s_l2Dot (x0 : List Int) (x1 : List Int) : Option (Int) :=
(iter (s_l2Dot_s3 x0 x1) ((0 : Int), (0 : Int))).bind fun v4 => some v4
noncomputable def e_s_l2Dot : CallE := ⟨58, [.d false (.list (.int .i64)), .d false (.list (.int .i64))], [.l (.d false (.int .i64))], fun x => s_l2Dot x.1 x.2⟩
noncomputable def c_s_l2Dot : Ctx := ⟨Try.prog, TT, [], [⟨3, [(5, .l (.d false (.int .i64))), (6, .l (.d false (.int .i64)))], some (0, [(5, .l (.d false (.int .i64)))]), none, false⟩], [⟨5, [], [], [], 0⟩], [], [], []⟩
theorem k_s_l2Dot (x : PMs.den e_s_l2Dot.ps) : funK c_s_l2Dot Try.f58 e_s_l2Dot.ps e_s_l2Dot.rs x = e_s_l2Dot.F x := by kernel_rfl
theorem o_s_l2Dot {D : Prop} : FnOk Try.prog e_s_l2Dot.f ∧ Ctr D Try.prog e_s_l2Dot := mkCtr (C := c_s_l2Dot) m_ (trivial) Try.func58 (by kernel_rfl) k_s_l2Dot
/-! loop.example/g00959/spec.HasRational -/
noncomputable def s_HasRational_s4 (x0 : Int × (List ((List Int) × Int))) (x1 : (List Int) × Int) (v3 : Int) : Option ((Int) ⊕ ((Unit) ⊕ (Bool))) :=
 cond (decide (v3 < (x0.2.length : Int)))
 ((idx x0.2 v3).bind fun v4 => (s_l2Dot v4.1 x1.1).bind fun v5 => (idx x0.2 v3).bind fun v6 => cond (decide (v5 > (IntKind.i64.wrap (v6.2 * x1.2))))
 (some (.inr (.inr false)))
 (some (.inl (IntKind.i64.wrap (v3 + (1 : Int))))))
 (some (.inr (.inl ())))
noncomputable def s_HasRational (x0 : Int × (List ((List Int) × Int))) (x1 : (List Int) × Int) : Option (Bool) :=
(s_IsRegion (x0.1, x0.2)).bind fun v1 => cond (!v1)
 (some false)
 ((s_l6Fine (x1.1, x1.2)).bind fun v2 => cond (!v2)
 (some false)
 (cond ((x1.1.length : Int) != x0.1)
 (some false)
 ((iter (s_HasRational_s4 x0 x1) (0 : Int)).bind fun v7 => match v7 with
 | .inl v8 => (some true)
 | .inr v9 => (some v9))))
noncomputable def e_s_HasRational : CallE := ⟨57, [.d false (.prod (.int .i64) (.list (.prod (.list (.int .i64)) (.int .i64)))), .d false (.prod (.list (.int .i64)) (.int .i64))], [.l (.d false .bool)], fun x => s_HasRational x.1 x.2⟩
noncomputable def c_s_HasRational : Ctx := ⟨Try.prog, TT, [e_s_IsRegion, e_s_l6Fine, e_s_l2Dot], [⟨4, [(5, .l (.d false (.int .i64)))], some (0, []), some [(4, .l (.d false .bool))], false⟩], [⟨6, [], [], [], 0⟩], [], [], []⟩
theorem k_s_HasRational (x : PMs.den e_s_HasRational.ps) : funK c_s_HasRational Try.f57 e_s_HasRational.ps e_s_HasRational.rs x = e_s_HasRational.F x := by kernel_rfl
theorem o_s_HasRational {D : Prop} : FnOk Try.prog e_s_HasRational.f ∧ Ctr D Try.prog e_s_HasRational := mkCtr (C := c_s_HasRational) m_ (⟨o_s_IsRegion, o_s_l6Fine, o_s_l2Dot, trivial⟩) Try.func57 (by kernel_rfl) k_s_HasRational
/-! loop.example/g00959/spec.CompareRationals -/
noncomputable def s_CompareRationals_s4 (x0 : (List Int) × Int) (x1 : (List Int) × Int) (v3 : Int) : Option ((Int) ⊕ ((Unit) ⊕ (Int))) :=
 cond (decide (v3 < (x0.1.length : Int)))
 ((idx x0.1 v3).bind fun v4 => (idx x1.1 v3).bind fun v5 => cond ((IntKind.i64.wrap (v4 * x1.2)) != (IntKind.i64.wrap (v5 * x0.2)))
 ((s_l1Bit (decide ((IntKind.i64.wrap (v4 * x1.2)) < (IntKind.i64.wrap (v5 * x0.2))))).bind fun v6 => some (.inr (.inr (IntKind.i64.wrap ((1 : Int) - (IntKind.i64.wrap ((2 : Int) * v6)))))))
 (some (.inl (IntKind.i64.wrap (v3 + (1 : Int))))))
 (some (.inr (.inl ())))
noncomputable def s_CompareRationals (x0 : (List Int) × Int) (x1 : (List Int) × Int) : Option (Int) :=
(s_l6Fine (x0.1, x0.2)).bind fun v1 => cond (!v1)
 (some (0 : Int))
 ((s_l6Fine (x1.1, x1.2)).bind fun v2 => cond (!v2)
 (some (0 : Int))
 (cond ((x0.1.length : Int) != (x1.1.length : Int))
 (some (0 : Int))
 ((iter (s_CompareRationals_s4 x0 x1) (0 : Int)).bind fun v7 => match v7 with
 | .inl v8 => (some (0 : Int))
 | .inr v9 => (some v9))))
noncomputable def e_s_CompareRationals : CallE := ⟨89, [.d false (.prod (.list (.int .i64)) (.int .i64)), .d false (.prod (.list (.int .i64)) (.int .i64))], [.l (.d false (.int .i64))], fun x => s_CompareRationals x.1 x.2⟩
noncomputable def c_s_CompareRationals : Ctx := ⟨Try.prog, TT, [e_s_l6Fine, e_s_l1Bit], [⟨4, [(5, .l (.d false (.int .i64)))], some (0, []), some [(4, .l (.d false (.int .i64)))], false⟩], [⟨6, [], [], [], 0⟩, ⟨7, [], [], [], 0⟩], [], [], []⟩
theorem k_s_CompareRationals (x : PMs.den e_s_CompareRationals.ps) : funK c_s_CompareRationals Try.f89 e_s_CompareRationals.ps e_s_CompareRationals.rs x = e_s_CompareRationals.F x := by kernel_rfl
theorem o_s_CompareRationals {D : Prop} : FnOk Try.prog e_s_CompareRationals.f ∧ Ctr D Try.prog e_s_CompareRationals := mkCtr (C := c_s_CompareRationals) m_ (⟨o_s_l6Fine, o_s_l1Bit, trivial⟩) Try.func89 (by kernel_rfl) k_s_CompareRationals
/-! loop.example/g00959/spec.l6Put -/
noncomputable def s_l6Put_s2 (x1 : (List Int) × Int) (v1 : (List ((List Int) × Int)) × Int) : Option (((List ((List Int) × Int)) × Int) ⊕ ((List ((List Int) × Int)) × Int)) :=
 cond (decide (v1.2 > (0 : Int)))
 ((inIdx v1.1.length (IntKind.i64.wrap (v1.2 - (1 : Int)))).bind fun _ => (idx v1.1 (((IntKind.i64.wrap (v1.2 - (1 : Int)))).toNat : Int)).bind fun v2 => (s_CompareRationals (x1.1, x1.2) v2).bind fun v3 => cond (decide (v3 < (0 : Int)))
 (some (.inl (v1.1, (IntKind.i64.wrap (v1.2 - (1 : Int))))))
 (some (.inr (v1.1, v1.2))))
 (some (.inr (v1.1, v1.2)))
noncomputable def s_l6Put (x0 : List ((List Int) × Int)) (x1 : (List Int) × Int) : Option (List ((List Int) × Int)) :=
(iter (s_l6Put_s2 x1) (x0, (x0.length : Int))).bind fun v4 => cond (decide (v4.2 > (0 : Int)))
 ((inIdx v4.1.length (IntKind.i64.wrap (v4.2 - (1 : Int)))).bind fun _ => (idx v4.1 (((IntKind.i64.wrap (v4.2 - (1 : Int)))).toNat : Int)).bind fun v5 => (s_CompareRationals (x1.1, x1.2) v5).bind fun v6 => cond (v6 == (0 : Int))
 (some v4.1)
 ((subl v4.1 v4.2 (v4.1.length : Int)).bind fun v7 => (subl v4.1 ((v4.2).toNat : Int) (((v4.1.length : Int)).toNat : Int)).bind fun v8 => (appD 32 ([] : List ((List Int) × Int)) v8).bind fun v9 => (subl v4.1 0 v4.2).bind fun v10 => (appD 32 v10 ([(x1.1, x1.2)] : List ((List Int) × Int))).bind fun v11 => (appD 32 v11 v9).bind fun v12 => some v12))
 ((subl v4.1 v4.2 (v4.1.length : Int)).bind fun v13 => (subl v4.1 ((v4.2).toNat : Int) (((v4.1.length : Int)).toNat : Int)).bind fun v14 => (appD 32 ([] : List ((List Int) × Int)) v14).bind fun v15 => (subl v4.1 0 v4.2).bind fun v16 => (appD 32 v16 ([(x1.1, x1.2)] : List ((List Int) × Int))).bind fun v17 => (appD 32 v17 v15).bind fun v18 => some v18)
noncomputable def e_s_l6Put : CallE := ⟨87, [.mv false 42 (.prod (.list (.int .i64)) (.int .i64)), .d false (.prod (.list (.int .i64)) (.int .i64))], [.l (.o false 42 (.prod (.list (.int .i64)) (.int .i64)))], fun x => s_l6Put x.1 x.2⟩
noncomputable def c_s_l6Put : Ctx := ⟨Try.prog, TT, [e_s_CompareRationals], [⟨2, [(0, .l (.o false 42 (.prod (.list (.int .i64)) (.int .i64)))), (5, .l (.d false (.int .i64)))], some (0, [(0, .l (.o false 42 (.prod (.list (.int .i64)) (.int .i64)))), (5, .l (.d false (.int .i64)))]), none, false⟩], [⟨2, [], [], [], 0⟩, ⟨4, [], [], [], 0⟩, ⟨7, [], [], [], 0⟩], [], [37], [(7, [0, 1, 2, 6, 3, 4, 5, 7, 8])]⟩
theorem k_s_l6Put (x : PMs.den e_s_l6Put.ps) : funK c_s_l6Put Try.f87 e_s_l6Put.ps e_s_l6Put.rs x = e_s_l6Put.F x := by kernel_rfl
theorem o_s_l6Put {D : Prop} : FnOk Try.prog e_s_l6Put.f ∧ Ctr D Try.prog e_s_l6Put := mkCtr (C := c_s_l6Put) m_ (⟨o_s_CompareRationals, trivial⟩) Try.func87 (by kernel_rfl) k_s_l6Put
/-! loop.example/g00959/spec.l6Choose -/
noncomputable def s_l6Choose_s7 (rec : (Int × (List ((List Int) × Int))) → (Int) → (List ((List Int) × Int)) → (List ((List Int) × Int)) → Option (List ((List Int) × Int))) (x0 : Int × (List ((List Int) × Int))) (x2 : List ((List Int) × Int)) (v4 : (List ((List Int) × Int)) × Int) : Option (((List ((List Int) × Int)) × Int) ⊕ (List ((List Int) × Int))) :=
 cond (decide (v4.2 < (x0.2.length : Int)))
 ((appD 32 ([] : List ((List Int) × Int)) x2).bind fun v5 => (idx x0.2 v4.2).bind fun v6 => (appD 32 v5 ([(v6.1, v6.2)] : List ((List Int) × Int))).bind fun v7 => (rec (x0.1, x0.2) (IntKind.i64.wrap (v4.2 + (1 : Int))) v7 v4.1).bind fun v8 => some (.inl (v8, (IntKind.i64.wrap (v4.2 + (1 : Int))))))
 (some (.inr v4.1))
noncomputable def s_l6ChooseB (rec : (Int × (List ((List Int) × Int))) → (Int) → (List ((List Int) × Int)) → (List ((List Int) × Int)) → Option (List ((List Int) × Int))) (x0 : Int × (List ((List Int) × Int))) (x1 : Int) (x2 : List ((List Int) × Int)) (x3 : List ((List Int) × Int)) : Option (List ((List Int) × Int)) :=
 cond ((x2.length : Int) == x0.1)
 ((s_l6Solve x2).bind fun v1 => cond v1.2
 ((s_HasRational (x0.1, x0.2) (v1.1.1, v1.1.2)).bind fun v2 => cond v2
 ((s_l6Put x3 (v1.1.1, v1.1.2)).bind fun v3 => some v3)
 (some x3))
 (some x3))
 ((iter (s_l6Choose_s7 rec x0 x2) (x3, x1)).bind fun v9 => some v9)
noncomputable def s_l6ChooseR : Nat → (Int × (List ((List Int) × Int))) → (Int) → (List ((List Int) × Int)) → (List ((List Int) × Int)) → Option (List ((List Int) × Int))
  | 0 => fun _ _ _ _ => none
  | n + 1 => s_l6ChooseB (s_l6ChooseR n)
noncomputable def s_l6Choose (x0 : Int × (List ((List Int) × Int))) (x1 : Int) (x2 : List ((List Int) × Int)) (x3 : List ((List Int) × Int)) : Option (List ((List Int) × Int)) := s_l6ChooseR 30000 x0 x1 x2 x3
noncomputable def e_s_l6Choose : CallE := ⟨83, [.d false (.prod (.int .i64) (.list (.prod (.list (.int .i64)) (.int .i64)))), .d false (.int .i64), .d false (.list (.prod (.list (.int .i64)) (.int .i64))), .mv false 42 (.prod (.list (.int .i64)) (.int .i64))], [.l (.o false 42 (.prod (.list (.int .i64)) (.int .i64)))], fun x => s_l6Choose x.1 x.2.1 x.2.2.1 x.2.2.2⟩
noncomputable def r_s_l6Choose (rec : (Int × (List ((List Int) × Int))) → (Int) → (List ((List Int) × Int)) → (List ((List Int) × Int)) → Option (List ((List Int) × Int))) : CallE := ⟨83, [.d false (.prod (.int .i64) (.list (.prod (.list (.int .i64)) (.int .i64)))), .d false (.int .i64), .d false (.list (.prod (.list (.int .i64)) (.int .i64))), .mv false 42 (.prod (.list (.int .i64)) (.int .i64))], [.l (.o false 42 (.prod (.list (.int .i64)) (.int .i64)))], fun x => rec x.1 x.2.1 x.2.2.1 x.2.2.2⟩
noncomputable def c_s_l6Choose (rec : (Int × (List ((List Int) × Int))) → (Int) → (List ((List Int) × Int)) → (List ((List Int) × Int)) → Option (List ((List Int) × Int))) : Ctx := ⟨Try.prog, TT, [e_s_l6Solve, e_s_HasRational, e_s_l6Put, r_s_l6Choose rec], [⟨7, [(3, .l (.o false 42 (.prod (.list (.int .i64)) (.int .i64)))), (11, .l (.d false (.int .i64)))], some (0, [(3, .l (.o false 42 (.prod (.list (.int .i64)) (.int .i64))))]), none, false⟩], [⟨9, [], [], [], 0⟩], [], [], []⟩
theorem k_s_l6Choose (rec : (Int × (List ((List Int) × Int))) → (Int) → (List ((List Int) × Int)) → (List ((List Int) × Int)) → Option (List ((List Int) × Int))) (x : PMs.den (r_s_l6Choose rec).ps) : funK (c_s_l6Choose rec) Try.f83 (r_s_l6Choose rec).ps (r_s_l6Choose rec).rs x = (r_s_l6Choose (s_l6ChooseB rec)).F x := by kernel_rfl
theorem oB_s_l6Choose {D : Prop} (rec : (Int × (List ((List Int) × Int))) → (Int) → (List ((List Int) × Int)) → (List ((List Int) × Int)) → Option (List ((List Int) × Int))) (h : FnOk Try.prog (r_s_l6Choose rec).f ∧ Ctr D Try.prog (r_s_l6Choose rec)) : FnOk Try.prog (r_s_l6Choose (s_l6ChooseB rec)).f ∧ Ctr D Try.prog (r_s_l6Choose (s_l6ChooseB rec)) := mkCtr (C := c_s_l6Choose rec) m_ (⟨o_s_l6Solve, o_s_HasRational, o_s_l6Put, h, trivial⟩) Try.func83 (by kernel_rfl) (k_s_l6Choose rec)
theorem oA_s_l6Choose {D : Prop} : (n : Nat) → FnOk Try.prog (r_s_l6Choose (s_l6ChooseR n)).f ∧ Ctr D Try.prog (r_s_l6Choose (s_l6ChooseR n))
  | 0 => ⟨⟨Try.f83, _, Try.func83, by kernel_rfl, rfl⟩, fun x r h => by cases h⟩
  | n + 1 => oB_s_l6Choose _ (oA_s_l6Choose n)
theorem o_s_l6Choose {D : Prop} : FnOk Try.prog e_s_l6Choose.f ∧ Ctr D Try.prog e_s_l6Choose := oA_s_l6Choose 30000
/-! loop.example/g00959/spec.VerticesOf -/
noncomputable def s_VerticesOf (x0 : Int × (List ((List Int) × Int))) : Option (List ((List Int) × Int)) :=
(s_IsRegion (x0.1, x0.2)).bind fun v1 => cond (!v1)
 (some ([] : List ((List Int) × Int)))
 ((s_l6Choose (x0.1, x0.2) (0 : Int) ([] : List ((List Int) × Int)) ([] : List ((List Int) × Int))).bind fun v2 => some v2)
noncomputable def e_s_VerticesOf : CallE := ⟨74, [.d false (.prod (.int .i64) (.list (.prod (.list (.int .i64)) (.int .i64))))], [.l (.o false 42 (.prod (.list (.int .i64)) (.int .i64)))], fun x => s_VerticesOf x⟩
noncomputable def c_s_VerticesOf : Ctx := ⟨Try.prog, TT, [e_s_IsRegion, e_s_l6Choose], [], [], [], [], []⟩
theorem k_s_VerticesOf (x : PMs.den e_s_VerticesOf.ps) : funK c_s_VerticesOf Try.f74 e_s_VerticesOf.ps e_s_VerticesOf.rs x = e_s_VerticesOf.F x := by kernel_rfl
theorem o_s_VerticesOf {D : Prop} : FnOk Try.prog e_s_VerticesOf.f ∧ Ctr D Try.prog e_s_VerticesOf := mkCtr (C := c_s_VerticesOf) m_ (⟨o_s_IsRegion, o_s_l6Choose, trivial⟩) Try.func74 (by kernel_rfl) k_s_VerticesOf
/-! loop.example/g00959/spec.l6Bent -/
noncomputable def s_l6Bent (x0 : (List Int) × Int × Int) (x1 : Int) : Option ((List Int × Int) × ((List Int) × Int × Int) × Unit) :=
(s_l2Draw (x0.1, (x0.2.1, x0.2.2)) x1 (9 : Int)).bind fun v1 => (s_l1Below (v1.2.1.1, (v1.2.1.2.1, v1.2.1.2.2)) (4 : Int)).bind fun v2 => (s_l1Once (v2.2.1.1, (v2.2.1.2.1, v2.2.1.2.2)) (12 : Int)).bind fun v3 => cond v3.1
 ((s_l1PickInt (v3.2.1.1, (v3.2.1.2.1, v3.2.1.2.2)) ([(0 : Int), (-1 : Int), (100000 : Int), (100001 : Int)] : List Int)).bind fun v4 => (s_l1Once (v4.2.1.1, (v4.2.1.2.1, v4.2.1.2.2)) (16 : Int)).bind fun v5 => cond v5.1
 (cond (decide (x1 > (0 : Int)))
 ((s_l1PickInt (v5.2.1.1, (v5.2.1.2.1, v5.2.1.2.2)) ([(10000000 : Int), (10000001 : Int), (-10000001 : Int)] : List Int)).bind fun v6 => (inIdx v1.1.length (0 : Int)).bind fun _ => (inIdx v1.1.length (((0 : Int)).toNat : Int)).bind fun _ => some (((v1.1.set (((0 : Int)).toNat) v6.1), v4.1), ((v6.2.1.1, (v6.2.1.2.1, v6.2.1.2.2)), ())))
 (some ((v1.1, v4.1), ((v5.2.1.1, (v5.2.1.2.1, v5.2.1.2.2)), ()))))
 (some ((v1.1, v4.1), ((v5.2.1.1, (v5.2.1.2.1, v5.2.1.2.2)), ()))))
 ((s_l1Once (v3.2.1.1, (v3.2.1.2.1, v3.2.1.2.2)) (16 : Int)).bind fun v7 => cond v7.1
 (cond (decide (x1 > (0 : Int)))
 ((s_l1PickInt (v7.2.1.1, (v7.2.1.2.1, v7.2.1.2.2)) ([(10000000 : Int), (10000001 : Int), (-10000001 : Int)] : List Int)).bind fun v8 => (inIdx v1.1.length (0 : Int)).bind fun _ => (inIdx v1.1.length (((0 : Int)).toNat : Int)).bind fun _ => some (((v1.1.set (((0 : Int)).toNat) v8.1), (IntKind.i64.wrap ((1 : Int) + v2.1))), ((v8.2.1.1, (v8.2.1.2.1, v8.2.1.2.2)), ())))
 (some ((v1.1, (IntKind.i64.wrap ((1 : Int) + v2.1))), ((v7.2.1.1, (v7.2.1.2.1, v7.2.1.2.2)), ()))))
 (some ((v1.1, (IntKind.i64.wrap ((1 : Int) + v2.1))), ((v7.2.1.1, (v7.2.1.2.1, v7.2.1.2.2)), ()))))
noncomputable def e_s_l6Bent : CallE := ⟨75, [.cur 81, .d false (.int .i64)], [.a [(.o true 3 (.int .i64)), (.d false (.int .i64))]], fun x => s_l6Bent x.1 x.2⟩
noncomputable def c_s_l6Bent : Ctx := ⟨Try.prog, TT, [e_s_l2Draw, e_s_l1Below, e_s_l1Once, e_s_l1PickInt], [], [⟨5, [], [], [(0, false)], 0⟩], [], [], []⟩
theorem k_s_l6Bent (x : PMs.den e_s_l6Bent.ps) : funK c_s_l6Bent Try.f75 e_s_l6Bent.ps e_s_l6Bent.rs x = e_s_l6Bent.F x := by kernel_rfl
theorem o_s_l6Bent {D : Prop} : FnOk Try.prog e_s_l6Bent.f ∧ Ctr D Try.prog e_s_l6Bent := mkCtr (C := c_s_l6Bent) m_ (⟨o_s_l2Draw, o_s_l1Below, o_s_l1Once, o_s_l1PickInt, trivial⟩) Try.func75 (by kernel_rfl) k_s_l6Bent
/-! loop.example/g00959/spec.DrawHasRational -/
noncomputable def s_DrawHasRational_s26_3 (x0 : List Int) (v1 : Int × Int) : Option ((Int × Int) ⊕ (Int)) :=
 cond (decide (v1.2 < (x0.length : Int)))
 (cond (decide (v1.2 < (4000 : Int)))
 ((idx x0 v1.2).bind fun v2 => some (.inl ((andI .i64 (IntKind.i64.wrap ((IntKind.i64.wrap ((IntKind.i64.wrap (v1.1 * (131 : Int))) + (IntKind.i64.wrap v2))) + (7 : Int))) (1073741823 : Int)), (IntKind.i64.wrap (v1.2 + (1 : Int))))))
 (some (.inr v1.1)))
 (some (.inr v1.1))
noncomputable def s_DrawHasRational (x0 : List Int) : Option ((Int × List ((List Int) × Int)) × List Int × Int) :=
(iter (s_DrawHasRational_s26_3 x0) ((IntKind.i64.wrap ((26583 : Int) + (x0.length : Int))), (0 : Int))).bind fun v3 => (s_l4Bent (x0, ((0 : Int), v3))).bind fun v4 => (s_VerticesOf (v4.1.1, v4.1.2)).bind fun v5 => cond (decide ((v5.length : Int) > (0 : Int)))
 ((s_l1Once (v4.2.1.1, (v4.2.1.2.1, v4.2.1.2.2)) (3 : Int)).bind fun v6 => cond v6.1
 ((s_l1Below (v6.2.1.1, (v6.2.1.2.1, v6.2.1.2.2)) (v5.length : Int)).bind fun v7 => (idx v5 v7.1).bind fun v8 => some ((v4.1.1, v4.1.2), (v8.1, v8.2)))
 ((s_l1Min (3 : Int) v4.1.1).bind fun v9 => (s_l1Max (0 : Int) v9).bind fun v10 => (s_l6Bent (v6.2.1.1, (v6.2.1.2.1, v6.2.1.2.2)) v10).bind fun v11 => some ((v4.1.1, v4.1.2), (v11.1.1, v11.1.2))))
 ((s_l1Min (3 : Int) v4.1.1).bind fun v12 => (s_l1Max (0 : Int) v12).bind fun v13 => (s_l6Bent (v4.2.1.1, (v4.2.1.2.1, v4.2.1.2.2)) v13).bind fun v14 => some ((v4.1.1, v4.1.2), (v14.1.1, v14.1.2)))
noncomputable def e_s_DrawHasRational : CallE := ⟨54, [.d false (.list (.int .u8))], [.a [(.d false (.int .i64)), (.d false (.list (.prod (.list (.int .i64)) (.int .i64))))], .a [(.d false (.list (.int .i64))), (.d false (.int .i64))]], fun x => s_DrawHasRational x⟩
noncomputable def c_s_DrawHasRational_26 : Ctx := ⟨Try.prog, TT, [], [⟨3, [(3, .l (.d false (.int .i64))), (4, .l (.d false (.int .i64)))], some (0, [(3, .l (.d false (.int .i64)))]), none, true⟩], [], [], [], []⟩
noncomputable def n_s_DrawHasRational_26 : InE := ⟨26, false, inlK c_s_DrawHasRational_26 Try.f26⟩
theorem q_s_DrawHasRational_26 {D : Prop} : FnOk Try.prog n_s_DrawHasRational_26.f ∧ InOk D Try.prog n_s_DrawHasRational_26 := mkInl (C := c_s_DrawHasRational_26) m_ (trivial) Try.func26 (by kernel_rfl)
noncomputable def c_s_DrawHasRational : Ctx := ⟨Try.prog, TT, [e_s_l4Bent, e_s_VerticesOf, e_s_l1Once, e_s_l1Below, e_s_l1Min, e_s_l1Max, e_s_l6Bent], [], [⟨5, [5, 6], [], [], 0⟩, ⟨6, [5], [], [], 0⟩], [n_s_DrawHasRational_26], [], [(5, [1, 2, 3, 4, 0, 5, 6, 7, 8, 9]), (6, [1, 2, 3, 0, 4, 5, 6, 7, 8])]⟩
theorem k_s_DrawHasRational (x : PMs.den e_s_DrawHasRational.ps) : funK c_s_DrawHasRational Try.f54 e_s_DrawHasRational.ps e_s_DrawHasRational.rs x = e_s_DrawHasRational.F x := by kernel_rfl
theorem o_s_DrawHasRational {D : Prop} : FnOk Try.prog e_s_DrawHasRational.f ∧ Ctr D Try.prog e_s_DrawHasRational := mkCtr (C := c_s_DrawHasRational) m_ (⟨o_s_l4Bent, o_s_VerticesOf, o_s_l1Once, o_s_l1Below, o_s_l1Min, o_s_l1Max, o_s_l6Bent, trivial⟩) Try.func54 (by kernel_rfl) k_s_DrawHasRational ⟨q_s_DrawHasRational_26, trivial⟩
/-! loop.example/g00959/spec.DrawCutFor -/
noncomputable def s_DrawCutFor (x0 : List Int) : Option ((Int × List ((List Int) × Int)) × List Int × Int) :=
(s_DrawHasRational x0).bind fun v1 => some ((v1.1.1, v1.1.2), (v1.2.1, v1.2.2))
noncomputable def e_s_DrawCutFor : CallE := ⟨15, [.d false (.list (.int .u8))], [.a [(.d false (.int .i64)), (.d false (.list (.prod (.list (.int .i64)) (.int .i64))))], .a [(.d false (.list (.int .i64))), (.d false (.int .i64))]], fun x => s_DrawCutFor x⟩
noncomputable def c_s_DrawCutFor : Ctx := ⟨Try.prog, TT, [e_s_DrawHasRational], [], [⟨2, [5], [], [], 0⟩], [], [], [(2, [0, 1, 2, 3])]⟩
theorem k_s_DrawCutFor (x : PMs.den e_s_DrawCutFor.ps) : funK c_s_DrawCutFor Try.f15 e_s_DrawCutFor.ps e_s_DrawCutFor.rs x = e_s_DrawCutFor.F x := by kernel_rfl
theorem o_s_DrawCutFor {D : Prop} : FnOk Try.prog e_s_DrawCutFor.f ∧ Ctr D Try.prog e_s_DrawCutFor := mkCtr (C := c_s_DrawCutFor) m_ (⟨o_s_DrawHasRational, trivial⟩) Try.func15 (by kernel_rfl) k_s_DrawCutFor
/-! loop.example/g00959/impl.rationalOk -/
noncomputable def i_rationalOk (x0 : (List Int) × Int) : Option (Bool) :=
(i_within x0.2 (1 : Int) (100000 : Int)).bind fun v1 => cond v1
 ((i_allWithin x0.1 (-10000000 : Int) (10000000 : Int)).bind fun v2 => some v2)
 (some false)
noncomputable def e_i_rationalOk : CallE := ⟨76, [.d false (.prod (.list (.int .i64)) (.int .i64))], [.l (.d false .bool)], fun x => i_rationalOk x⟩
noncomputable def c_i_rationalOk : Ctx := ⟨Try.prog, TT, [e_i_within, e_i_allWithin], [], [], [], [], []⟩
theorem k_i_rationalOk (x : PMs.den e_i_rationalOk.ps) : funK c_i_rationalOk Try.f76 e_i_rationalOk.ps e_i_rationalOk.rs x = e_i_rationalOk.F x := by kernel_rfl
theorem o_i_rationalOk {D : Prop} : FnOk Try.prog e_i_rationalOk.f ∧ Ctr D Try.prog e_i_rationalOk := mkCtr (C := c_i_rationalOk) m_ (⟨o_i_within, o_i_allWithin, trivial⟩) Try.func76 (by kernel_rfl) k_i_rationalOk
/-! loop.example/g00959/impl.dot -/
noncomputable def i_dot_s3 (x0 : List Int) (x1 : List Int) (v1 : Int × Int) : Option ((Int × Int) ⊕ (Int)) :=
 cond (decide (v1.2 < (x0.length : Int)))
 ((idx x0 v1.2).bind fun v2 => (idx x1 v1.2).bind fun v3 => some (.inl ((IntKind.i64.wrap (v1.1 + (IntKind.i64.wrap (v2 * v3)))), (IntKind.i64.wrap (v1.2 + (1 : Int))))))
 (some (.inr v1.1))
noncomputable def i_dot (x0 : List Int) (x1 : List Int) : Option (Int) :=
(iter (i_dot_s3 x0 x1) ((0 : Int), (0 : Int))).bind fun v4 => some v4
noncomputable def e_i_dot : CallE := ⟨56, [.d false (.list (.int .i64)), .d false (.list (.int .i64))], [.l (.d false (.int .i64))], fun x => i_dot x.1 x.2⟩
noncomputable def c_i_dot : Ctx := ⟨Try.prog, TT, [], [⟨3, [(5, .l (.d false (.int .i64))), (9, .l (.d false (.int .i64)))], some (0, [(5, .l (.d false (.int .i64)))]), none, false⟩], [⟨5, [], [], [], 0⟩], [], [], []⟩
theorem k_i_dot (x : PMs.den e_i_dot.ps) : funK c_i_dot Try.f56 e_i_dot.ps e_i_dot.rs x = e_i_dot.F x := by kernel_rfl
theorem o_i_dot {D : Prop} : FnOk Try.prog e_i_dot.f ∧ Ctr D Try.prog e_i_dot := mkCtr (C := c_i_dot) m_ (trivial) Try.func56 (by kernel_rfl) k_i_dot
/-! loop.example/g00959/impl.hasFraction -/
noncomputable def i_hasFraction_s2 (x0 : Int × (List ((List Int) × Int))) (x1 : (List Int) × Int) (v1 : Int) : Option ((Int) ⊕ ((Unit) ⊕ (Bool))) :=
 cond (decide (v1 < (x0.2.length : Int)))
 ((idx x0.2 v1).bind fun v2 => (i_dot v2.1 x1.1).bind fun v3 => cond (decide (v3 > (IntKind.i64.wrap (v2.2 * x1.2))))
 (some (.inr (.inr false)))
 (some (.inl (IntKind.i64.wrap (v1 + (1 : Int))))))
 (some (.inr (.inl ())))
noncomputable def i_hasFraction (x0 : Int × (List ((List Int) × Int))) (x1 : (List Int) × Int) : Option (Bool) :=
(iter (i_hasFraction_s2 x0 x1) (0 : Int)).bind fun v4 => match v4 with
 | .inl v5 => (some true)
 | .inr v6 => (some v6)
noncomputable def e_i_hasFraction : CallE := ⟨77, [.d false (.prod (.int .i64) (.list (.prod (.list (.int .i64)) (.int .i64)))), .d false (.prod (.list (.int .i64)) (.int .i64))], [.l (.d false .bool)], fun x => i_hasFraction x.1 x.2⟩
noncomputable def c_i_hasFraction : Ctx := ⟨Try.prog, TT, [e_i_dot], [⟨2, [(10, .l (.d false (.int .i64)))], some (0, []), some [(4, .l (.d false .bool))], false⟩], [⟨4, [], [], [], 0⟩], [], [], []⟩
theorem k_i_hasFraction (x : PMs.den e_i_hasFraction.ps) : funK c_i_hasFraction Try.f77 e_i_hasFraction.ps e_i_hasFraction.rs x = e_i_hasFraction.F x := by kernel_rfl
theorem o_i_hasFraction {D : Prop} : FnOk Try.prog e_i_hasFraction.f ∧ Ctr D Try.prog e_i_hasFraction := mkCtr (C := c_i_hasFraction) m_ (⟨o_i_dot, trivial⟩) Try.func77 (by kernel_rfl) k_i_hasFraction
/-! loop.example/g00959/impl.HasRational -/
noncomputable def i_HasRational (x0 : Int × (List ((List Int) × Int))) (x1 : (List Int) × Int) : Option (Bool) :=
(i_IsRegion (x0.1, x0.2)).bind fun v1 => cond v1
 ((i_rationalOk (x1.1, x1.2)).bind fun v2 => cond v2
 (cond ((x1.1.length : Int) == x0.1)
 ((i_hasFraction (x0.1, x0.2) (x1.1, x1.2)).bind fun v3 => some v3)
 (some false))
 (some false))
 (some false)
noncomputable def e_i_HasRational : CallE := ⟨55, [.d false (.prod (.int .i64) (.list (.prod (.list (.int .i64)) (.int .i64)))), .d false (.prod (.list (.int .i64)) (.int .i64))], [.l (.d false .bool)], fun x => i_HasRational x.1 x.2⟩
noncomputable def c_i_HasRational : Ctx := ⟨Try.prog, TT, [e_i_IsRegion, e_i_rationalOk, e_i_hasFraction], [], [], [], [], []⟩
theorem k_i_HasRational (x : PMs.den e_i_HasRational.ps) : funK c_i_HasRational Try.f55 e_i_HasRational.ps e_i_HasRational.rs x = e_i_HasRational.F x := by kernel_rfl
theorem o_i_HasRational {D : Prop} : FnOk Try.prog e_i_HasRational.f ∧ Ctr D Try.prog e_i_HasRational := mkCtr (C := c_i_HasRational) m_ (⟨o_i_IsRegion, o_i_rationalOk, o_i_hasFraction, trivial⟩) Try.func55 (by kernel_rfl) k_i_HasRational
/-! loop.example/g00959/impl.CutFor -/
noncomputable def i_CutFor_s13 (x1 : (List Int) × Int) (v3 : (List Int) × Int) (v6 : (List Int) × Int) (v7 : (List Int × Int) × Int) (v8 : (List Int × Int) × Int) : Option (((List Int × Int) × Int) ⊕ ((List Int × Int) ⊕ ((List Int × Int) × Bool))) :=
 cond (decide (v8.2 ≤ (3 : Int)))
 ((i_CombineHalves (v3.1, v3.2) (v6.1, v6.2) v7.2 v8.2).bind fun v9 => cond v9.2
 ((i_dot v9.1.1 x1.1).bind fun v10 => cond (decide (v10 > (IntKind.i64.wrap (v9.1.2 * x1.2))))
 (some (.inr (.inr ((v9.1.1, v9.1.2), true))))
 (some (.inl ((v8.1.1, v8.1.2), (IntKind.i64.wrap (v8.2 + (1 : Int)))))))
 (some (.inl ((v8.1.1, v8.1.2), (IntKind.i64.wrap (v8.2 + (1 : Int)))))))
 (some (.inr (.inl (v8.1.1, v8.1.2))))
noncomputable def i_CutFor_s10 (x1 : (List Int) × Int) (v3 : (List Int) × Int) (v6 : (List Int) × Int) (v7 : (List Int × Int) × Int) : Option (((List Int × Int) × Int) ⊕ ((List Int × Int) ⊕ ((List Int × Int) × Bool))) :=
 cond (decide (v7.2 ≤ (3 : Int)))
 ((iter (i_CutFor_s13 x1 v3 v6 v7) ((v7.1.1, v7.1.2), (0 : Int))).bind fun v11 => match v11 with
 | .inl v12 => (some (.inl ((v12.1, v12.2), (IntKind.i64.wrap (v7.2 + (1 : Int))))))
 | .inr v13 => (some (.inr (.inr ((v13.1.1, v13.1.2), v13.2)))))
 (some (.inr (.inl (v7.1.1, v7.1.2))))
noncomputable def i_CutFor_s7 (x1 : (List Int) × Int) (v3 : (List Int) × Int) (v4 : List ((List Int) × Int)) (v5 : (List Int × Int) × Int) : Option (((List Int × Int) × Int) ⊕ ((List Int × Int) ⊕ ((List Int × Int) × Bool))) :=
 cond (decide (v5.2 < (v4.length : Int)))
 ((idx v4 v5.2).bind fun v6 => (iter (i_CutFor_s10 x1 v3 v6) ((v5.1.1, v5.1.2), (0 : Int))).bind fun v14 => match v14 with
 | .inl v15 => (some (.inl ((v15.1, v15.2), (IntKind.i64.wrap (v5.2 + (1 : Int))))))
 | .inr v16 => (some (.inr (.inr ((v16.1.1, v16.1.2), v16.2)))))
 (some (.inr (.inl (v5.1.1, v5.1.2))))
noncomputable def i_CutFor_s4 (x0 : Int × (List ((List Int) × Int))) (x1 : (List Int) × Int) (v2 : (List Int × Int) × Int) : Option (((List Int × Int) × Int) ⊕ ((List Int × Int) ⊕ ((List Int × Int) × Bool))) :=
 cond (decide (v2.2 < (x0.2.length : Int)))
 ((idx x0.2 v2.2).bind fun v3 => (subl x0.2 (IntKind.i64.wrap (v2.2 + (1 : Int))) (x0.2.length : Int)).bind fun v4 => (iter (i_CutFor_s7 x1 v3 v4) ((v2.1.1, v2.1.2), (0 : Int))).bind fun v17 => match v17 with
 | .inl v18 => (some (.inl ((v18.1, v18.2), (IntKind.i64.wrap (v2.2 + (1 : Int))))))
 | .inr v19 => (some (.inr (.inr ((v19.1.1, v19.1.2), v19.2)))))
 (some (.inr (.inl (v2.1.1, v2.1.2))))
noncomputable def i_CutFor (x0 : Int × (List ((List Int) × Int))) (x1 : (List Int) × Int) : Option ((List Int × Int) × Bool) :=
(i_HasRational (x0.1, x0.2) (x1.1, x1.2)).bind fun v1 => cond (!v1)
 (some ((([] : List Int), (0 : Int)), false))
 ((iter (i_CutFor_s4 x0 x1) ((([] : List Int), (0 : Int)), (0 : Int))).bind fun v20 => match v20 with
 | .inl v21 => (some ((([] : List Int), (0 : Int)), false))
 | .inr v22 => (some ((v22.1.1, v22.1.2), v22.2)))
noncomputable def e_i_CutFor : CallE := ⟨16, [.d false (.prod (.int .i64) (.list (.prod (.list (.int .i64)) (.int .i64)))), .d false (.prod (.list (.int .i64)) (.int .i64))], [.a [(.o true 3 (.int .i64)), (.d false (.int .i64))], .l (.d false .bool)], fun x => i_CutFor x.1 x.2⟩
noncomputable def c_i_CutFor : Ctx := ⟨Try.prog, TT, [e_i_HasRational, e_i_CombineHalves, e_i_dot], [⟨4, [(4, .b 26 [(.o true 3 (.int .i64)), (.d false (.int .i64))]), (22, .l (.d false (.int .i64)))], some (0, [(4, .b 26 [(.o true 3 (.int .i64)), (.d false (.int .i64))])]), some [(4, .b 26 [(.o true 3 (.int .i64)), (.d false (.int .i64))]), (5, .l (.d false .bool))], false⟩, ⟨7, [(4, .b 26 [(.o true 3 (.int .i64)), (.d false (.int .i64))]), (33, .l (.d false (.int .i64)))], some (2, [(4, .b 26 [(.o true 3 (.int .i64)), (.d false (.int .i64))])]), some [(4, .b 26 [(.o true 3 (.int .i64)), (.d false (.int .i64))]), (5, .l (.d false .bool))], false⟩, ⟨10, [(4, .b 26 [(.o true 3 (.int .i64)), (.d false (.int .i64))]), (10, .l (.d false (.int .i64)))], some (4, [(4, .b 26 [(.o true 3 (.int .i64)), (.d false (.int .i64))])]), some [(4, .b 26 [(.o true 3 (.int .i64)), (.d false (.int .i64))]), (5, .l (.d false .bool))], false⟩, ⟨13, [(4, .b 26 [(.o true 3 (.int .i64)), (.d false (.int .i64))]), (11, .l (.d false (.int .i64)))], some (6, [(4, .b 26 [(.o true 3 (.int .i64)), (.d false (.int .i64))])]), some [(4, .b 26 [(.o true 3 (.int .i64)), (.d false (.int .i64))]), (5, .l (.d false .bool))], false⟩], [⟨16, [], [], [], 0⟩], [], [], []⟩
theorem k_i_CutFor (x : PMs.den e_i_CutFor.ps) : funK c_i_CutFor Try.f16 e_i_CutFor.ps e_i_CutFor.rs x = e_i_CutFor.F x := by kernel_rfl
theorem o_i_CutFor {D : Prop} : FnOk Try.prog e_i_CutFor.f ∧ Ctr D Try.prog e_i_CutFor := mkCtr (C := c_i_CutFor) m_ (⟨o_i_HasRational, o_i_CombineHalves, o_i_dot, trivial⟩) Try.func16 (by kernel_rfl) k_i_CutFor
/-! loop.example/g00959/spec.CutFor -/
noncomputable def s_CutFor_s13 (x0 : Int × (List ((List Int) × Int))) (x1 : (List Int) × Int) (v2 : (List Int × Int) × Int) (v3 : (List Int × Int) × Int) (v4 : (List Int × Int) × Int) (v5 : (List Int × Int) × Int) : Option (((List Int × Int) × Int) ⊕ ((List Int × Int) ⊕ ((List Int × Int) × Bool))) :=
 cond (decide (v5.2 ≤ (3 : Int)))
 ((idx x0.2 v2.2).bind fun v6 => (idx x0.2 v3.2).bind fun v7 => (s_CombineHalves v6 v7 v4.2 v5.2).bind fun v8 => cond v8.2
 ((s_l2Dot v8.1.1 x1.1).bind fun v9 => cond (decide (v9 > (IntKind.i64.wrap (v8.1.2 * x1.2))))
 (some (.inr (.inr ((v8.1.1, v8.1.2), true))))
 (some (.inl ((v5.1.1, v5.1.2), (IntKind.i64.wrap (v5.2 + (1 : Int)))))))
 (some (.inl ((v5.1.1, v5.1.2), (IntKind.i64.wrap (v5.2 + (1 : Int)))))))
 (some (.inr (.inl (v5.1.1, v5.1.2))))
noncomputable def s_CutFor_s10 (x0 : Int × (List ((List Int) × Int))) (x1 : (List Int) × Int) (v2 : (List Int × Int) × Int) (v3 : (List Int × Int) × Int) (v4 : (List Int × Int) × Int) : Option (((List Int × Int) × Int) ⊕ ((List Int × Int) ⊕ ((List Int × Int) × Bool))) :=
 cond (decide (v4.2 ≤ (3 : Int)))
 ((iter (s_CutFor_s13 x0 x1 v2 v3 v4) ((v4.1.1, v4.1.2), (0 : Int))).bind fun v10 => match v10 with
 | .inl v11 => (some (.inl ((v11.1, v11.2), (IntKind.i64.wrap (v4.2 + (1 : Int))))))
 | .inr v12 => (some (.inr (.inr ((v12.1.1, v12.1.2), v12.2)))))
 (some (.inr (.inl (v4.1.1, v4.1.2))))
noncomputable def s_CutFor_s7 (x0 : Int × (List ((List Int) × Int))) (x1 : (List Int) × Int) (v2 : (List Int × Int) × Int) (v3 : (List Int × Int) × Int) : Option (((List Int × Int) × Int) ⊕ ((List Int × Int) ⊕ ((List Int × Int) × Bool))) :=
 cond (decide (v3.2 < (x0.2.length : Int)))
 ((iter (s_CutFor_s10 x0 x1 v2 v3) ((v3.1.1, v3.1.2), (0 : Int))).bind fun v13 => match v13 with
 | .inl v14 => (some (.inl ((v14.1, v14.2), (IntKind.i64.wrap (v3.2 + (1 : Int))))))
 | .inr v15 => (some (.inr (.inr ((v15.1.1, v15.1.2), v15.2)))))
 (some (.inr (.inl (v3.1.1, v3.1.2))))
noncomputable def s_CutFor_s4 (x0 : Int × (List ((List Int) × Int))) (x1 : (List Int) × Int) (v2 : (List Int × Int) × Int) : Option (((List Int × Int) × Int) ⊕ ((List Int × Int) ⊕ ((List Int × Int) × Bool))) :=
 cond (decide (v2.2 < (x0.2.length : Int)))
 ((iter (s_CutFor_s7 x0 x1 v2) ((v2.1.1, v2.1.2), (IntKind.i64.wrap (v2.2 + (1 : Int))))).bind fun v16 => match v16 with
 | .inl v17 => (some (.inl ((v17.1, v17.2), (IntKind.i64.wrap (v2.2 + (1 : Int))))))
 | .inr v18 => (some (.inr (.inr ((v18.1.1, v18.1.2), v18.2)))))
 (some (.inr (.inl (v2.1.1, v2.1.2))))
noncomputable def s_CutFor (x0 : Int × (List ((List Int) × Int))) (x1 : (List Int) × Int) : Option ((List Int × Int) × Bool) :=
(s_HasRational (x0.1, x0.2) (x1.1, x1.2)).bind fun v1 => cond (!v1)
 (some ((([] : List Int), (0 : Int)), false))
 ((iter (s_CutFor_s4 x0 x1) ((([] : List Int), (0 : Int)), (0 : Int))).bind fun v19 => match v19 with
 | .inl v20 => (some ((([] : List Int), (0 : Int)), false))
 | .inr v21 => (some ((v21.1.1, v21.1.2), v21.2)))
noncomputable def e_s_CutFor : CallE := ⟨17, [.d false (.prod (.int .i64) (.list (.prod (.list (.int .i64)) (.int .i64)))), .d false (.prod (.list (.int .i64)) (.int .i64))], [.a [(.o true 3 (.int .i64)), (.d false (.int .i64))], .l (.d false .bool)], fun x => s_CutFor x.1 x.2⟩
noncomputable def c_s_CutFor : Ctx := ⟨Try.prog, TT, [e_s_HasRational, e_s_CombineHalves, e_s_l2Dot], [⟨4, [(4, .b 26 [(.o true 3 (.int .i64)), (.d false (.int .i64))]), (6, .l (.d false (.int .i64)))], some (0, [(4, .b 26 [(.o true 3 (.int .i64)), (.d false (.int .i64))])]), some [(4, .b 26 [(.o true 3 (.int .i64)), (.d false (.int .i64))]), (5, .l (.d false .bool))], false⟩, ⟨7, [(4, .b 26 [(.o true 3 (.int .i64)), (.d false (.int .i64))]), (7, .l (.d false (.int .i64)))], some (2, [(4, .b 26 [(.o true 3 (.int .i64)), (.d false (.int .i64))])]), some [(4, .b 26 [(.o true 3 (.int .i64)), (.d false (.int .i64))]), (5, .l (.d false .bool))], false⟩, ⟨10, [(4, .b 26 [(.o true 3 (.int .i64)), (.d false (.int .i64))]), (8, .l (.d false (.int .i64)))], some (4, [(4, .b 26 [(.o true 3 (.int .i64)), (.d false (.int .i64))])]), some [(4, .b 26 [(.o true 3 (.int .i64)), (.d false (.int .i64))]), (5, .l (.d false .bool))], false⟩, ⟨13, [(4, .b 26 [(.o true 3 (.int .i64)), (.d false (.int .i64))]), (9, .l (.d false (.int .i64)))], some (6, [(4, .b 26 [(.o true 3 (.int .i64)), (.d false (.int .i64))])]), some [(4, .b 26 [(.o true 3 (.int .i64)), (.d false (.int .i64))]), (5, .l (.d false .bool))], false⟩], [⟨15, [], [], [], 0⟩, ⟨16, [], [], [], 0⟩], [], [], []⟩
theorem k_s_CutFor (x : PMs.den e_s_CutFor.ps) : funK c_s_CutFor Try.f17 e_s_CutFor.ps e_s_CutFor.rs x = e_s_CutFor.F x := by kernel_rfl
theorem o_s_CutFor {D : Prop} : FnOk Try.prog e_s_CutFor.f ∧ Ctr D Try.prog e_s_CutFor := mkCtr (C := c_s_CutFor) m_ (⟨o_s_HasRational, o_s_CombineHalves, o_s_l2Dot, trivial⟩) Try.func17 (by kernel_rfl) k_s_CutFor
/-! loop.example/g00959/laws.sameInts -/
noncomputable def w_sameInts_s4 (x0 : List Int) (x1 : List Int) (v1 : Int) : Option ((Int) ⊕ ((Unit) ⊕ (Bool))) :=
 cond (decide (v1 < (x0.length : Int)))
 ((idx x0 v1).bind fun v2 => (idx x1 v1).bind fun v3 => cond (v2 != v3)
 (some (.inr (.inr false)))
 (some (.inl (IntKind.i64.wrap (v1 + (1 : Int))))))
 (some (.inr (.inl ())))
noncomputable def w_sameInts (x0 : List Int) (x1 : List Int) : Option (Bool) :=
 cond ((x0.length : Int) != (x1.length : Int))
 (some false)
 ((iter (w_sameInts_s4 x0 x1) (0 : Int)).bind fun v4 => match v4 with
 | .inl v5 => (some true)
 | .inr v6 => (some v6))
noncomputable def e_w_sameInts : CallE := ⟨59, [.d false (.list (.int .i64)), .d false (.list (.int .i64))], [.l (.d false .bool)], fun x => w_sameInts x.1 x.2⟩
noncomputable def c_w_sameInts : Ctx := ⟨Try.prog, TT, [], [⟨4, [(5, .l (.d false (.int .i64)))], some (0, []), some [(4, .l (.d false .bool))], false⟩], [⟨6, [], [], [], 0⟩], [], [], []⟩
theorem k_w_sameInts (x : PMs.den e_w_sameInts.ps) : funK c_w_sameInts Try.f59 e_w_sameInts.ps e_w_sameInts.rs x = e_w_sameInts.F x := by kernel_rfl
theorem o_w_sameInts {D : Prop} : FnOk Try.prog e_w_sameInts.f ∧ Ctr D Try.prog e_w_sameInts := mkCtr (C := c_w_sameInts) m_ (trivial) Try.func59 (by kernel_rfl) k_w_sameInts
/-! loop.example/g00959/laws.sameHalf -/
noncomputable def w_sameHalf (x0 : (List Int) × Int) (x1 : (List Int) × Int) : Option (Bool) :=
 cond (x0.2 == x1.2)
 ((w_sameInts x0.1 x1.1).bind fun v1 => some v1)
 (some false)
noncomputable def e_w_sameHalf : CallE := ⟨18, [.d false (.prod (.list (.int .i64)) (.int .i64)), .d false (.prod (.list (.int .i64)) (.int .i64))], [.l (.d false .bool)], fun x => w_sameHalf x.1 x.2⟩
noncomputable def c_w_sameHalf : Ctx := ⟨Try.prog, TT, [e_w_sameInts], [], [], [], [], []⟩
theorem k_w_sameHalf (x : PMs.den e_w_sameHalf.ps) : funK c_w_sameHalf Try.f18 e_w_sameHalf.ps e_w_sameHalf.rs x = e_w_sameHalf.F x := by kernel_rfl
theorem o_w_sameHalf {D : Prop} : FnOk Try.prog e_w_sameHalf.f ∧ Ctr D Try.prog e_w_sameHalf := mkCtr (C := c_w_sameHalf) m_ (⟨o_w_sameInts, trivial⟩) Try.func18 (by kernel_rfl) k_w_sameHalf
/-! loop.example/g00959/spec.EqualRegion -/
noncomputable def s_EqualRegion_s4 (x0 : Int × (List ((List Int) × Int))) (x1 : Int × (List ((List Int) × Int))) (v1 : Int) : Option ((Int) ⊕ ((Unit) ⊕ (Bool))) :=
 cond (decide (v1 < (x0.2.length : Int)))
 ((idx x0.2 v1).bind fun v2 => (idx x1.2 v1).bind fun v3 => (s_l4SameHalf v2 v3).bind fun v4 => cond (!v4)
 (some (.inr (.inr false)))
 (some (.inl (IntKind.i64.wrap (v1 + (1 : Int))))))
 (some (.inr (.inl ())))
noncomputable def s_EqualRegion (x0 : Int × (List ((List Int) × Int))) (x1 : Int × (List ((List Int) × Int))) : Option (Bool) :=
 cond (x0.1 != x1.1)
 (some false)
 (cond ((x0.2.length : Int) != (x1.2.length : Int))
 (some false)
 ((iter (s_EqualRegion_s4 x0 x1) (0 : Int)).bind fun v5 => match v5 with
 | .inl v6 => (some true)
 | .inr v7 => (some v7)))
noncomputable def e_s_EqualRegion : CallE := ⟨19, [.d false (.prod (.int .i64) (.list (.prod (.list (.int .i64)) (.int .i64)))), .d false (.prod (.int .i64) (.list (.prod (.list (.int .i64)) (.int .i64))))], [.l (.d false .bool)], fun x => s_EqualRegion x.1 x.2⟩
noncomputable def c_s_EqualRegion : Ctx := ⟨Try.prog, TT, [e_s_l4SameHalf], [⟨4, [(5, .l (.d false (.int .i64)))], some (0, []), some [(4, .l (.d false .bool))], false⟩], [⟨6, [], [], [], 0⟩], [], [], []⟩
theorem k_s_EqualRegion (x : PMs.den e_s_EqualRegion.ps) : funK c_s_EqualRegion Try.f19 e_s_EqualRegion.ps e_s_EqualRegion.rs x = e_s_EqualRegion.F x := by kernel_rfl
theorem o_s_EqualRegion {D : Prop} : FnOk Try.prog e_s_EqualRegion.f ∧ Ctr D Try.prog e_s_EqualRegion := mkCtr (C := c_s_EqualRegion) m_ (⟨o_s_l4SameHalf, trivial⟩) Try.func19 (by kernel_rfl) k_s_EqualRegion
/-! loop.example/g00959/impl.lattice -/
noncomputable def i_lattice_s10 (x1 : List Int) (v1 : List (List Int) × Int) (v3 : List Int) (v5 : List (List Int) × Int) : Option ((List (List Int) × Int) ⊕ (List (List Int))) :=
(idx x1 v1.2).bind fun v6 => cond (decide (v5.2 ≤ v6))
 ((i_copyInts v3).bind fun v7 => (appD 8 v7 ([v5.2] : List Int)).bind fun v8 => (appD 24 v5.1 ([v8] : List (List Int))).bind fun v9 => some (.inl (v9, (IntKind.i64.wrap (v5.2 + (1 : Int))))))
 (some (.inr v5.1))
noncomputable def i_lattice_s7 (x0 : List Int) (x1 : List Int) (v1 : List (List Int) × Int) (v2 : List (List Int) × Int) : Option ((List (List Int) × Int) ⊕ (List (List Int))) :=
 cond (decide (v2.2 < (v1.1.length : Int)))
 ((idx v1.1 v2.2).bind fun v3 => (idx x0 v1.2).bind fun v4 => (iter (i_lattice_s10 x1 v1 v3) (v2.1, v4)).bind fun v10 => some (.inl (v10, (IntKind.i64.wrap (v2.2 + (1 : Int))))))
 (some (.inr v2.1))
noncomputable def i_lattice_s3 (x0 : List Int) (x1 : List Int) (v1 : List (List Int) × Int) : Option ((List (List Int) × Int) ⊕ (List (List Int))) :=
 cond (decide (v1.2 < (x0.length : Int)))
 ((iter (i_lattice_s7 x0 x1 v1) (([] : List (List Int)), (0 : Int))).bind fun v11 => some (.inl (v11, (IntKind.i64.wrap (v1.2 + (1 : Int))))))
 (some (.inr v1.1))
noncomputable def i_lattice (x0 : List Int) (x1 : List Int) : Option (List (List Int)) :=
(iter (i_lattice_s3 x0 x1) (([([] : List Int)] : List (List Int)), (0 : Int))).bind fun v12 => some v12
noncomputable def e_i_lattice : CallE := ⟨79, [.d false (.list (.int .i64)), .d false (.list (.int .i64))], [.l (.o true 24 (.list (.int .i64)))], fun x => i_lattice x.1 x.2⟩
noncomputable def c_i_lattice : Ctx := ⟨Try.prog, TT, [e_i_copyInts], [⟨3, [(5, .l (.o true 24 (.list (.int .i64)))), (14, .l (.d false (.int .i64)))], some (0, [(5, .l (.o true 24 (.list (.int .i64))))]), none, false⟩, ⟨7, [(7, .l (.o true 24 (.list (.int .i64)))), (19, .l (.d false (.int .i64)))], some (2, [(7, .l (.o true 24 (.list (.int .i64))))]), none, false⟩, ⟨10, [(7, .l (.o true 24 (.list (.int .i64)))), (10, .l (.d false (.int .i64)))], some (4, [(7, .l (.o true 24 (.list (.int .i64))))]), none, false⟩], [], [], [], []⟩
theorem k_i_lattice (x : PMs.den e_i_lattice.ps) : funK c_i_lattice Try.f79 e_i_lattice.ps e_i_lattice.rs x = e_i_lattice.F x := by kernel_rfl
theorem o_i_lattice {D : Prop} : FnOk Try.prog e_i_lattice.f ∧ Ctr D Try.prog e_i_lattice := mkCtr (C := c_i_lattice) m_ (⟨o_i_copyInts, trivial⟩) Try.func79 (by kernel_rfl) k_i_lattice
/-! loop.example/g00959/impl.IsVector -/
noncomputable def i_IsVector (x0 : List Int) : Option (Bool) :=
(i_within (x0.length : Int) (1 : Int) (3 : Int)).bind fun v1 => cond v1
 ((i_allWithin x0 (-1000 : Int) (1000 : Int)).bind fun v2 => some v2)
 (some false)
noncomputable def e_i_IsVector : CallE := ⟨84, [.d false (.list (.int .i64))], [.l (.d false .bool)], fun x => i_IsVector x⟩
noncomputable def c_i_IsVector : Ctx := ⟨Try.prog, TT, [e_i_within, e_i_allWithin], [], [], [], [], []⟩
theorem k_i_IsVector (x : PMs.den e_i_IsVector.ps) : funK c_i_IsVector Try.f84 e_i_IsVector.ps e_i_IsVector.rs x = e_i_IsVector.F x := by kernel_rfl
theorem o_i_IsVector {D : Prop} : FnOk Try.prog e_i_IsVector.f ∧ Ctr D Try.prog e_i_IsVector := mkCtr (C := c_i_IsVector) m_ (⟨o_i_within, o_i_allWithin, trivial⟩) Try.func84 (by kernel_rfl) k_i_IsVector
/-! loop.example/g00959/impl.HasPoint -/
noncomputable def i_HasPoint_s4 (x0 : Int × (List ((List Int) × Int))) (x1 : List Int) (v3 : Int) : Option ((Int) ⊕ ((Unit) ⊕ (Bool))) :=
 cond (decide (v3 < (x0.2.length : Int)))
 ((idx x0.2 v3).bind fun v4 => (i_dot v4.1 x1).bind fun v5 => cond (decide (v5 > v4.2))
 (some (.inr (.inr false)))
 (some (.inl (IntKind.i64.wrap (v3 + (1 : Int))))))
 (some (.inr (.inl ())))
noncomputable def i_HasPoint (x0 : Int × (List ((List Int) × Int))) (x1 : List Int) : Option (Bool) :=
(i_IsRegion (x0.1, x0.2)).bind fun v1 => cond (!v1)
 (some false)
 ((i_IsVector x1).bind fun v2 => cond (!v2)
 (some false)
 (cond ((x1.length : Int) != x0.1)
 (some false)
 ((iter (i_HasPoint_s4 x0 x1) (0 : Int)).bind fun v6 => match v6 with
 | .inl v7 => (some true)
 | .inr v8 => (some v8))))
noncomputable def e_i_HasPoint : CallE := ⟨80, [.d false (.prod (.int .i64) (.list (.prod (.list (.int .i64)) (.int .i64)))), .d false (.list (.int .i64))], [.l (.d false .bool)], fun x => i_HasPoint x.1 x.2⟩
noncomputable def c_i_HasPoint : Ctx := ⟨Try.prog, TT, [e_i_IsRegion, e_i_IsVector, e_i_dot], [⟨4, [(25, .l (.d false (.int .i64)))], some (0, []), some [(4, .l (.d false .bool))], false⟩], [⟨6, [], [], [], 0⟩], [], [], []⟩
theorem k_i_HasPoint (x : PMs.den e_i_HasPoint.ps) : funK c_i_HasPoint Try.f80 e_i_HasPoint.ps e_i_HasPoint.rs x = e_i_HasPoint.F x := by kernel_rfl
theorem o_i_HasPoint {D : Prop} : FnOk Try.prog e_i_HasPoint.f ∧ Ctr D Try.prog e_i_HasPoint := mkCtr (C := c_i_HasPoint) m_ (⟨o_i_IsRegion, o_i_IsVector, o_i_dot, trivial⟩) Try.func80 (by kernel_rfl) k_i_HasPoint
/-! loop.example/g00959/impl.PointsIn -/
noncomputable def i_PointsIn_s5 (v2 : List Int) (v4 : List Int × List Int × Int) : Option ((List Int × List Int × Int) ⊕ (List Int × List Int)) :=
 cond (decide (v4.2.2 < (v2.length : Int)))
 ((inIdx v4.1.length v4.2.2).bind fun _ => (inIdx v4.1.length ((v4.2.2).toNat : Int)).bind fun _ => (inIdx v4.2.1.length v4.2.2).bind fun _ => (inIdx v4.2.1.length ((v4.2.2).toNat : Int)).bind fun _ => some (.inl ((v4.1.set ((v4.2.2).toNat) (-6 : Int)), ((v4.2.1.set ((v4.2.2).toNat) (6 : Int)), (IntKind.i64.wrap (v4.2.2 + (1 : Int)))))))
 (some (.inr (v4.1, v4.2.1)))
noncomputable def i_PointsIn_s11 (x0 : Int × (List ((List Int) × Int))) (v6 : List (List Int)) (v7 : List (List Int) × Int) : Option ((List (List Int) × Int) ⊕ (List (List Int))) :=
 cond (decide (v7.2 < (v6.length : Int)))
 ((idx v6 v7.2).bind fun v8 => (i_HasPoint (x0.1, x0.2) v8).bind fun v9 => cond v9
 ((appD 24 v7.1 ([v8] : List (List Int))).bind fun v10 => some (.inl (v10, (IntKind.i64.wrap (v7.2 + (1 : Int))))))
 (some (.inl (v7.1, (IntKind.i64.wrap (v7.2 + (1 : Int)))))))
 (some (.inr v7.1))
noncomputable def i_PointsIn (x0 : Int × (List ((List Int) × Int))) : Option (List (List Int)) :=
(i_IsRegion (x0.1, x0.2)).bind fun v1 => cond (!v1)
 (some ([] : List (List Int)))
 ((mkD 8 x0.1 (0 : Int)).bind fun v2 => (mkD 8 x0.1 (0 : Int)).bind fun v3 => (iter (i_PointsIn_s5 v2) (v2, (v3, (0 : Int)))).bind fun v5 => (i_lattice v5.1 v5.2).bind fun v6 => (iter (i_PointsIn_s11 x0 v6) (([] : List (List Int)), (0 : Int))).bind fun v11 => some v11)
noncomputable def e_i_PointsIn : CallE := ⟨60, [.d false (.prod (.int .i64) (.list (.prod (.list (.int .i64)) (.int .i64))))], [.l (.o false 24 (.list (.int .i64)))], fun x => i_PointsIn x⟩
noncomputable def c_i_PointsIn : Ctx := ⟨Try.prog, TT, [e_i_IsRegion, e_i_lattice, e_i_HasPoint], [⟨5, [(3, .l (.o true 3 (.int .i64))), (4, .l (.o true 3 (.int .i64))), (20, .l (.d false (.int .i64)))], some (0, [(3, .l (.o true 3 (.int .i64))), (4, .l (.o true 3 (.int .i64)))]), none, false⟩, ⟨11, [(6, .l (.o false 24 (.list (.int .i64)))), (34, .l (.d false (.int .i64)))], some (2, [(6, .l (.o false 24 (.list (.int .i64))))]), none, false⟩], [⟨3, [], [], [], 0⟩], [], [], []⟩
theorem k_i_PointsIn (x : PMs.den e_i_PointsIn.ps) : funK c_i_PointsIn Try.f60 e_i_PointsIn.ps e_i_PointsIn.rs x = e_i_PointsIn.F x := by kernel_rfl
theorem o_i_PointsIn {D : Prop} : FnOk Try.prog e_i_PointsIn.f ∧ Ctr D Try.prog e_i_PointsIn := mkCtr (C := c_i_PointsIn) m_ (⟨o_i_IsRegion, o_i_lattice, o_i_HasPoint, trivial⟩) Try.func60 (by kernel_rfl) k_i_PointsIn
/-! loop.example/g00959/impl.IsImplied -/
noncomputable def i_IsImplied_s4 (x1 : (List Int) × Int) (v3 : List (List Int)) (v4 : Int) : Option ((Int) ⊕ ((Unit) ⊕ (Bool))) :=
 cond (decide (v4 < (v3.length : Int)))
 ((idx v3 v4).bind fun v5 => (i_dot x1.1 v5).bind fun v6 => cond (decide (v6 > x1.2))
 (some (.inr (.inr false)))
 (some (.inl (IntKind.i64.wrap (v4 + (1 : Int))))))
 (some (.inr (.inl ())))
noncomputable def i_IsImplied (x0 : Int × (List ((List Int) × Int))) (x1 : (List Int) × Int) : Option (Bool) :=
(i_IsRegion (x0.1, x0.2)).bind fun v1 => cond (!v1)
 (some false)
 ((i_IsHalf x0.1 (x1.1, x1.2)).bind fun v2 => cond (!v2)
 (some false)
 ((i_PointsIn (x0.1, x0.2)).bind fun v3 => (iter (i_IsImplied_s4 x1 v3) (0 : Int)).bind fun v7 => match v7 with
 | .inl v8 => (some true)
 | .inr v9 => (some v9)))
noncomputable def e_i_IsImplied : CallE := ⟨20, [.d false (.prod (.int .i64) (.list (.prod (.list (.int .i64)) (.int .i64)))), .d false (.prod (.list (.int .i64)) (.int .i64))], [.l (.d false .bool)], fun x => i_IsImplied x.1 x.2⟩
noncomputable def c_i_IsImplied : Ctx := ⟨Try.prog, TT, [e_i_IsRegion, e_i_IsHalf, e_i_PointsIn, e_i_dot], [⟨4, [(20, .l (.d false (.int .i64)))], some (0, []), some [(4, .l (.d false .bool))], false⟩], [⟨6, [], [], [], 0⟩], [], [], []⟩
theorem k_i_IsImplied (x : PMs.den e_i_IsImplied.ps) : funK c_i_IsImplied Try.f20 e_i_IsImplied.ps e_i_IsImplied.rs x = e_i_IsImplied.F x := by kernel_rfl
theorem o_i_IsImplied {D : Prop} : FnOk Try.prog e_i_IsImplied.f ∧ Ctr D Try.prog e_i_IsImplied := mkCtr (C := c_i_IsImplied) m_ (⟨o_i_IsRegion, o_i_IsHalf, o_i_PointsIn, o_i_dot, trivial⟩) Try.func20 (by kernel_rfl) k_i_IsImplied
/-! loop.example/g00959/spec.l5All -/
noncomputable def s_l5All_s10 (x2 : Int) (v1 : List (List Int) × Int) (v2 : List (List Int) × Int) (v3 : List (List Int) × Int) : Option ((List (List Int) × Int) ⊕ (List (List Int))) :=
 cond (decide (v3.2 ≤ x2))
 ((idx v1.1 v2.2).bind fun v4 => (appD 8 ([] : List Int) v4).bind fun v5 => (appD 8 v5 ([v3.2] : List Int)).bind fun v6 => (appD 24 v3.1 ([v6] : List (List Int))).bind fun v7 => some (.inl (v7, (IntKind.i64.wrap (v3.2 + (1 : Int))))))
 (some (.inr v3.1))
noncomputable def s_l5All_s7 (x1 : Int) (x2 : Int) (v1 : List (List Int) × Int) (v2 : List (List Int) × Int) : Option ((List (List Int) × Int) ⊕ (List (List Int))) :=
 cond (decide (v2.2 < (v1.1.length : Int)))
 ((iter (s_l5All_s10 x2 v1 v2) (v2.1, x1)).bind fun v8 => some (.inl (v8, (IntKind.i64.wrap (v2.2 + (1 : Int))))))
 (some (.inr v2.1))
noncomputable def s_l5All_s3 (x0 : Int) (x1 : Int) (x2 : Int) (v1 : List (List Int) × Int) : Option ((List (List Int) × Int) ⊕ (List (List Int))) :=
 cond (decide (v1.2 < x0))
 ((iter (s_l5All_s7 x1 x2 v1) (([] : List (List Int)), (0 : Int))).bind fun v9 => some (.inl (v9, (IntKind.i64.wrap (v1.2 + (1 : Int))))))
 (some (.inr v1.1))
noncomputable def s_l5All (x0 : Int) (x1 : Int) (x2 : Int) : Option (List (List Int)) :=
(iter (s_l5All_s3 x0 x1 x2) (([([] : List Int)] : List (List Int)), (0 : Int))).bind fun v10 => some v10
noncomputable def e_s_l5All : CallE := ⟨63, [.d false (.int .i64), .d false (.int .i64), .d false (.int .i64)], [.l (.o true 24 (.list (.int .i64)))], fun x => s_l5All x.1 x.2.1 x.2.2⟩
noncomputable def c_s_l5All : Ctx := ⟨Try.prog, TT, [], [⟨3, [(7, .l (.o true 24 (.list (.int .i64)))), (8, .l (.d false (.int .i64)))], some (0, [(7, .l (.o true 24 (.list (.int .i64))))]), none, false⟩, ⟨7, [(9, .l (.o true 24 (.list (.int .i64)))), (10, .l (.d false (.int .i64)))], some (2, [(9, .l (.o true 24 (.list (.int .i64))))]), none, false⟩, ⟨10, [(9, .l (.o true 24 (.list (.int .i64)))), (11, .l (.d false (.int .i64)))], some (4, [(9, .l (.o true 24 (.list (.int .i64))))]), none, false⟩], [], [], [], []⟩
theorem k_s_l5All (x : PMs.den e_s_l5All.ps) : funK c_s_l5All Try.f63 e_s_l5All.ps e_s_l5All.rs x = e_s_l5All.F x := by kernel_rfl
theorem o_s_l5All {D : Prop} : FnOk Try.prog e_s_l5All.f ∧ Ctr D Try.prog e_s_l5All := mkCtr (C := c_s_l5All) m_ (trivial) Try.func63 (by kernel_rfl) k_s_l5All
/-! loop.example/g00959/spec.l4Has -/
noncomputable def s_l4Has_s2 (x0 : Int × (List ((List Int) × Int))) (x1 : List Int) (v1 : Int) : Option ((Int) ⊕ ((Unit) ⊕ (Bool))) :=
 cond (decide (v1 < (x0.2.length : Int)))
 ((idx x0.2 v1).bind fun v2 => (s_l2Dot v2.1 x1).bind fun v3 => (idx x0.2 v1).bind fun v4 => cond (decide (v3 > v4.2))
 (some (.inr (.inr false)))
 (some (.inl (IntKind.i64.wrap (v1 + (1 : Int))))))
 (some (.inr (.inl ())))
noncomputable def s_l4Has (x0 : Int × (List ((List Int) × Int))) (x1 : List Int) : Option (Bool) :=
(iter (s_l4Has_s2 x0 x1) (0 : Int)).bind fun v5 => match v5 with
 | .inl v6 => (some true)
 | .inr v7 => (some v7)
noncomputable def e_s_l4Has : CallE := ⟨64, [.d false (.prod (.int .i64) (.list (.prod (.list (.int .i64)) (.int .i64)))), .d false (.list (.int .i64))], [.l (.d false .bool)], fun x => s_l4Has x.1 x.2⟩
noncomputable def c_s_l4Has : Ctx := ⟨Try.prog, TT, [e_s_l2Dot], [⟨2, [(5, .l (.d false (.int .i64)))], some (0, []), some [(4, .l (.d false .bool))], false⟩], [⟨4, [], [], [], 0⟩], [], [], []⟩
theorem k_s_l4Has (x : PMs.den e_s_l4Has.ps) : funK c_s_l4Has Try.f64 e_s_l4Has.ps e_s_l4Has.rs x = e_s_l4Has.F x := by kernel_rfl
theorem o_s_l4Has {D : Prop} : FnOk Try.prog e_s_l4Has.f ∧ Ctr D Try.prog e_s_l4Has := mkCtr (C := c_s_l4Has) m_ (⟨o_s_l2Dot, trivial⟩) Try.func64 (by kernel_rfl) k_s_l4Has
/-! loop.example/g00959/spec.PointsIn -/
noncomputable def s_PointsIn_s6 (x0 : Int × (List ((List Int) × Int))) (v2 : List (List Int)) (v3 : List (List Int) × Int) : Option ((List (List Int) × Int) ⊕ (List (List Int))) :=
 cond (decide (v3.2 < (v2.length : Int)))
 ((idx v2 v3.2).bind fun v4 => (s_l4Has (x0.1, x0.2) v4).bind fun v5 => cond v5
 ((idx v2 v3.2).bind fun v6 => (appD 24 v3.1 ([v6] : List (List Int))).bind fun v7 => some (.inl (v7, (IntKind.i64.wrap (v3.2 + (1 : Int))))))
 (some (.inl (v3.1, (IntKind.i64.wrap (v3.2 + (1 : Int)))))))
 (some (.inr v3.1))
noncomputable def s_PointsIn (x0 : Int × (List ((List Int) × Int))) : Option (List (List Int)) :=
(s_IsRegion (x0.1, x0.2)).bind fun v1 => cond (!v1)
 (some ([] : List (List Int)))
 ((s_l5All x0.1 (-6 : Int) (6 : Int)).bind fun v2 => (iter (s_PointsIn_s6 x0 v2) (([] : List (List Int)), (0 : Int))).bind fun v8 => some v8)
noncomputable def e_s_PointsIn : CallE := ⟨24, [.d false (.prod (.int .i64) (.list (.prod (.list (.int .i64)) (.int .i64))))], [.l (.o false 24 (.list (.int .i64)))], fun x => s_PointsIn x⟩
noncomputable def c_s_PointsIn : Ctx := ⟨Try.prog, TT, [e_s_IsRegion, e_s_l5All, e_s_l4Has], [⟨6, [(3, .l (.o false 24 (.list (.int .i64)))), (5, .l (.d false (.int .i64)))], some (0, [(3, .l (.o false 24 (.list (.int .i64))))]), none, false⟩], [⟨8, [], [], [], 0⟩], [], [], []⟩
theorem k_s_PointsIn (x : PMs.den e_s_PointsIn.ps) : funK c_s_PointsIn Try.f24 e_s_PointsIn.ps e_s_PointsIn.rs x = e_s_PointsIn.F x := by kernel_rfl
theorem o_s_PointsIn {D : Prop} : FnOk Try.prog e_s_PointsIn.f ∧ Ctr D Try.prog e_s_PointsIn := mkCtr (C := c_s_PointsIn) m_ (⟨o_s_IsRegion, o_s_l5All, o_s_l4Has, trivial⟩) Try.func24 (by kernel_rfl) k_s_PointsIn
/-! loop.example/g00959/spec.IsImplied -/
noncomputable def s_IsImplied_s5 (x1 : (List Int) × Int) (v3 : List (List Int)) (v4 : Int) : Option ((Int) ⊕ ((Unit) ⊕ (Bool))) :=
 cond (decide (v4 < (v3.length : Int)))
 ((idx v3 v4).bind fun v5 => (s_l2Dot x1.1 v5).bind fun v6 => cond (decide (v6 > x1.2))
 (some (.inr (.inr false)))
 (some (.inl (IntKind.i64.wrap (v4 + (1 : Int))))))
 (some (.inr (.inl ())))
noncomputable def s_IsImplied (x0 : Int × (List ((List Int) × Int))) (x1 : (List Int) × Int) : Option (Bool) :=
(s_IsRegion (x0.1, x0.2)).bind fun v1 => cond (!v1)
 (some false)
 ((s_IsHalf x0.1 (x1.1, x1.2)).bind fun v2 => cond (!v2)
 (some false)
 ((s_PointsIn (x0.1, x0.2)).bind fun v3 => (iter (s_IsImplied_s5 x1 v3) (0 : Int)).bind fun v7 => match v7 with
 | .inl v8 => (some true)
 | .inr v9 => (some v9)))
noncomputable def e_s_IsImplied : CallE := ⟨21, [.d false (.prod (.int .i64) (.list (.prod (.list (.int .i64)) (.int .i64)))), .d false (.prod (.list (.int .i64)) (.int .i64))], [.l (.d false .bool)], fun x => s_IsImplied x.1 x.2⟩
noncomputable def c_s_IsImplied : Ctx := ⟨Try.prog, TT, [e_s_IsRegion, e_s_IsHalf, e_s_PointsIn, e_s_l2Dot], [⟨5, [(6, .l (.d false (.int .i64)))], some (0, []), some [(4, .l (.d false .bool))], false⟩], [⟨7, [], [], [], 0⟩], [], [], []⟩
theorem k_s_IsImplied (x : PMs.den e_s_IsImplied.ps) : funK c_s_IsImplied Try.f21 e_s_IsImplied.ps e_s_IsImplied.rs x = e_s_IsImplied.F x := by kernel_rfl
theorem o_s_IsImplied {D : Prop} : FnOk Try.prog e_s_IsImplied.f ∧ Ctr D Try.prog e_s_IsImplied := mkCtr (C := c_s_IsImplied) m_ (⟨o_s_IsRegion, o_s_IsHalf, o_s_PointsIn, o_s_l2Dot, trivial⟩) Try.func21 (by kernel_rfl) k_s_IsImplied
/-! loop.example/g00959/spec.IsVector -/
noncomputable def s_IsVector (x0 : List Int) : Option (Bool) :=
(s_l1In (x0.length : Int) (1 : Int) (3 : Int)).bind fun v1 => cond v1
 ((s_l2Small x0 (1000 : Int)).bind fun v2 => some v2)
 (some false)
noncomputable def e_s_IsVector : CallE := ⟨61, [.d false (.list (.int .i64))], [.l (.d false .bool)], fun x => s_IsVector x⟩
noncomputable def c_s_IsVector : Ctx := ⟨Try.prog, TT, [e_s_l1In, e_s_l2Small], [], [], [], [], []⟩
theorem k_s_IsVector (x : PMs.den e_s_IsVector.ps) : funK c_s_IsVector Try.f61 e_s_IsVector.ps e_s_IsVector.rs x = e_s_IsVector.F x := by kernel_rfl
theorem o_s_IsVector {D : Prop} : FnOk Try.prog e_s_IsVector.f ∧ Ctr D Try.prog e_s_IsVector := mkCtr (C := c_s_IsVector) m_ (⟨o_s_l1In, o_s_l2Small, trivial⟩) Try.func61 (by kernel_rfl) k_s_IsVector
/-! loop.example/g00959/spec.GcdOf -/
noncomputable def s_GcdOf (x0 : List Int) : Option (Int) :=
(s_IsVector x0).bind fun v1 => cond (!v1)
 (some (-1 : Int))
 ((s_l2All x0).bind fun v2 => some v2)
noncomputable def e_s_GcdOf : CallE := ⟨22, [.d false (.list (.int .i64))], [.l (.d false (.int .i64))], fun x => s_GcdOf x⟩
noncomputable def c_s_GcdOf : Ctx := ⟨Try.prog, TT, [e_s_IsVector, e_s_l2All], [], [], [], [], []⟩
theorem k_s_GcdOf (x : PMs.den e_s_GcdOf.ps) : funK c_s_GcdOf Try.f22 e_s_GcdOf.ps e_s_GcdOf.rs x = e_s_GcdOf.F x := by kernel_rfl
theorem o_s_GcdOf {D : Prop} : FnOk Try.prog e_s_GcdOf.f ∧ Ctr D Try.prog e_s_GcdOf := mkCtr (C := c_s_GcdOf) m_ (⟨o_s_IsVector, o_s_l2All, trivial⟩) Try.func22 (by kernel_rfl) k_s_GcdOf
/-! loop.example/g00959/laws.sameLists -/
noncomputable def w_sameLists_s4 (x0 : List (List Int)) (x1 : List (List Int)) (v1 : Int) : Option ((Int) ⊕ ((Unit) ⊕ (Bool))) :=
 cond (decide (v1 < (x0.length : Int)))
 ((idx x0 v1).bind fun v2 => (idx x1 v1).bind fun v3 => (w_sameInts v2 v3).bind fun v4 => cond (!v4)
 (some (.inr (.inr false)))
 (some (.inl (IntKind.i64.wrap (v1 + (1 : Int))))))
 (some (.inr (.inl ())))
noncomputable def w_sameLists (x0 : List (List Int)) (x1 : List (List Int)) : Option (Bool) :=
 cond ((x0.length : Int) != (x1.length : Int))
 (some false)
 ((iter (w_sameLists_s4 x0 x1) (0 : Int)).bind fun v5 => match v5 with
 | .inl v6 => (some true)
 | .inr v7 => (some v7))
noncomputable def e_w_sameLists : CallE := ⟨23, [.d false (.list (.list (.int .i64))), .d false (.list (.list (.int .i64)))], [.l (.d false .bool)], fun x => w_sameLists x.1 x.2⟩
noncomputable def c_w_sameLists : Ctx := ⟨Try.prog, TT, [e_w_sameInts], [⟨4, [(5, .l (.d false (.int .i64)))], some (0, []), some [(4, .l (.d false .bool))], false⟩], [⟨6, [], [], [], 0⟩], [], [], []⟩
theorem k_w_sameLists (x : PMs.den e_w_sameLists.ps) : funK c_w_sameLists Try.f23 e_w_sameLists.ps e_w_sameLists.rs x = e_w_sameLists.F x := by kernel_rfl
theorem o_w_sameLists {D : Prop} : FnOk Try.prog e_w_sameLists.f ∧ Ctr D Try.prog e_w_sameLists := mkCtr (C := c_w_sameLists) m_ (⟨o_w_sameInts, trivial⟩) Try.func23 (by kernel_rfl) k_w_sameLists
/-! loop.example/g00959/laws.dot -/
noncomputable def w_dot_s3 (x0 : List Int) (x1 : List Int) (v1 : Int × Int) : Option ((Int × Int) ⊕ (Int)) :=
 cond (decide (v1.2 < (x0.length : Int)))
 (cond (decide (v1.2 < (x1.length : Int)))
 ((idx x0 v1.2).bind fun v2 => (idx x1 v1.2).bind fun v3 => some (.inl ((IntKind.i64.wrap (v1.1 + (IntKind.i64.wrap (v2 * v3)))), (IntKind.i64.wrap (v1.2 + (1 : Int))))))
 (some (.inr v1.1)))
 (some (.inr v1.1))
noncomputable def w_dot (x0 : List Int) (x1 : List Int) : Option (Int) :=
(iter (w_dot_s3 x0 x1) ((0 : Int), (0 : Int))).bind fun v4 => some v4
noncomputable def e_w_dot : CallE := ⟨25, [.d false (.list (.int .i64)), .d false (.list (.int .i64))], [.l (.d false (.int .i64))], fun x => w_dot x.1 x.2⟩
noncomputable def c_w_dot : Ctx := ⟨Try.prog, TT, [], [⟨3, [(5, .l (.d false (.int .i64))), (6, .l (.d false (.int .i64)))], some (0, [(5, .l (.d false (.int .i64)))]), none, false⟩], [⟨5, [], [], [], 0⟩], [], [], []⟩
theorem k_w_dot (x : PMs.den e_w_dot.ps) : funK c_w_dot Try.f25 e_w_dot.ps e_w_dot.rs x = e_w_dot.F x := by kernel_rfl
theorem o_w_dot {D : Prop} : FnOk Try.prog e_w_dot.f ∧ Ctr D Try.prog e_w_dot := mkCtr (C := c_w_dot) m_ (trivial) Try.func25 (by kernel_rfl) k_w_dot
/-! loop.example/g00959/laws.FnTightened -/
noncomputable def w_FnTightened (x0 : List Int) : Option (Bool) :=
(w_big x0).bind fun v1 => cond v1
 (some true)
 ((s_DrawTightenHalf x0).bind fun v2 => (i_TightenHalf (v2.1, v2.2)).bind fun v3 => (s_TightenHalf (v2.1, v2.2)).bind fun v4 => (s_DrawTightenRegion x0).bind fun v5 => (i_TightenRegion (v5.1, v5.2)).bind fun v6 => (s_TightenRegion (v5.1, v5.2)).bind fun v7 => (s_DrawCombineHalves x0).bind fun v8 => (i_CombineHalves (v8.1.1, v8.1.2) (v8.2.1.1, v8.2.1.2) v8.2.2.1 v8.2.2.2).bind fun v9 => (s_CombineHalves (v8.1.1, v8.1.2) (v8.2.1.1, v8.2.1.2) v8.2.2.1 v8.2.2.2).bind fun v10 => (s_DrawIsImplied x0).bind fun v11 => (s_DrawCutFor x0).bind fun v12 => (i_CutFor (v12.1.1, v12.1.2) (v12.2.1, v12.2.2)).bind fun v13 => (s_CutFor (v12.1.1, v12.1.2) (v12.2.1, v12.2.2)).bind fun v14 => cond (!(v3.2 == v4.2))
 (some false)
 ((w_sameHalf (v3.1.1, v3.1.2) (v4.1.1, v4.1.2)).bind fun v15 => cond (!v15)
 (some false)
 (cond (!(v6.2 == v7.2))
 (some false)
 ((s_EqualRegion (v6.1.1, v6.1.2) (v7.1.1, v7.1.2)).bind fun v16 => cond (!v16)
 (some false)
 (cond (!(v9.2 == v10.2))
 (some false)
 ((w_sameHalf (v9.1.1, v9.1.2) (v10.1.1, v10.1.2)).bind fun v17 => cond (!v17)
 (some false)
 ((i_IsImplied (v11.1.1, v11.1.2) (v11.2.1, v11.2.2)).bind fun v18 => (s_IsImplied (v11.1.1, v11.1.2) (v11.2.1, v11.2.2)).bind fun v19 => cond (!(v18 == v19))
 (some false)
 (cond (!(v13.2 == v14.2))
 (some false)
 ((w_sameHalf (v13.1.1, v13.1.2) (v14.1.1, v14.1.2)).bind fun v20 => cond (!v20)
 (some false)
 (cond v3.2
 ((i_TightenHalf (v3.1.1, v3.1.2)).bind fun v21 => cond (!v21.2)
 (some false)
 ((w_sameHalf (v21.1.1, v21.1.2) (v3.1.1, v3.1.2)).bind fun v22 => cond (!v22)
 (some false)
 ((s_GcdOf v3.1.1).bind fun v23 => cond (v23 != (1 : Int))
 (some false)
 (cond v6.2
 ((s_PointsIn (v6.1.1, v6.1.2)).bind fun v24 => (s_PointsIn (v5.1, v5.2)).bind fun v25 => (w_sameLists v24 v25).bind fun v26 => cond (!v26)
 (some false)
 (cond v9.2
 ((i_IsImplied ((v8.1.1.length : Int), ([(v8.1.1, v8.1.2), (v8.2.1.1, v8.2.1.2)] : List ((List Int) × Int))) (v9.1.1, v9.1.2)).bind fun v27 => cond (!v27)
 (some false)
 (cond (!v13.2)
 (some true)
 ((i_IsImplied (v12.1.1, v12.1.2) (v13.1.1, v13.1.2)).bind fun v28 => cond v28
 ((w_dot v13.1.1 v12.2.1).bind fun v29 => some (decide (v29 > (IntKind.i64.wrap (v13.1.2 * v12.2.2)))))
 (some false))))
 (cond (!v13.2)
 (some true)
 ((i_IsImplied (v12.1.1, v12.1.2) (v13.1.1, v13.1.2)).bind fun v30 => cond v30
 ((w_dot v13.1.1 v12.2.1).bind fun v31 => some (decide (v31 > (IntKind.i64.wrap (v13.1.2 * v12.2.2)))))
 (some false)))))
 (cond v9.2
 ((i_IsImplied ((v8.1.1.length : Int), ([(v8.1.1, v8.1.2), (v8.2.1.1, v8.2.1.2)] : List ((List Int) × Int))) (v9.1.1, v9.1.2)).bind fun v32 => cond (!v32)
 (some false)
 (cond (!v13.2)
 (some true)
 ((i_IsImplied (v12.1.1, v12.1.2) (v13.1.1, v13.1.2)).bind fun v33 => cond v33
 ((w_dot v13.1.1 v12.2.1).bind fun v34 => some (decide (v34 > (IntKind.i64.wrap (v13.1.2 * v12.2.2)))))
 (some false))))
 (cond (!v13.2)
 (some true)
 ((i_IsImplied (v12.1.1, v12.1.2) (v13.1.1, v13.1.2)).bind fun v35 => cond v35
 ((w_dot v13.1.1 v12.2.1).bind fun v36 => some (decide (v36 > (IntKind.i64.wrap (v13.1.2 * v12.2.2)))))
 (some false))))))))
 (cond v6.2
 ((s_PointsIn (v6.1.1, v6.1.2)).bind fun v37 => (s_PointsIn (v5.1, v5.2)).bind fun v38 => (w_sameLists v37 v38).bind fun v39 => cond (!v39)
 (some false)
 (cond v9.2
 ((i_IsImplied ((v8.1.1.length : Int), ([(v8.1.1, v8.1.2), (v8.2.1.1, v8.2.1.2)] : List ((List Int) × Int))) (v9.1.1, v9.1.2)).bind fun v40 => cond (!v40)
 (some false)
 (cond (!v13.2)
 (some true)
 ((i_IsImplied (v12.1.1, v12.1.2) (v13.1.1, v13.1.2)).bind fun v41 => cond v41
 ((w_dot v13.1.1 v12.2.1).bind fun v42 => some (decide (v42 > (IntKind.i64.wrap (v13.1.2 * v12.2.2)))))
 (some false))))
 (cond (!v13.2)
 (some true)
 ((i_IsImplied (v12.1.1, v12.1.2) (v13.1.1, v13.1.2)).bind fun v43 => cond v43
 ((w_dot v13.1.1 v12.2.1).bind fun v44 => some (decide (v44 > (IntKind.i64.wrap (v13.1.2 * v12.2.2)))))
 (some false)))))
 (cond v9.2
 ((i_IsImplied ((v8.1.1.length : Int), ([(v8.1.1, v8.1.2), (v8.2.1.1, v8.2.1.2)] : List ((List Int) × Int))) (v9.1.1, v9.1.2)).bind fun v45 => cond (!v45)
 (some false)
 (cond (!v13.2)
 (some true)
 ((i_IsImplied (v12.1.1, v12.1.2) (v13.1.1, v13.1.2)).bind fun v46 => cond v46
 ((w_dot v13.1.1 v12.2.1).bind fun v47 => some (decide (v47 > (IntKind.i64.wrap (v13.1.2 * v12.2.2)))))
 (some false))))
 (cond (!v13.2)
 (some true)
 ((i_IsImplied (v12.1.1, v12.1.2) (v13.1.1, v13.1.2)).bind fun v48 => cond v48
 ((w_dot v13.1.1 v12.2.1).bind fun v49 => some (decide (v49 > (IntKind.i64.wrap (v13.1.2 * v12.2.2)))))
 (some false)))))))))))))))
noncomputable def e_w_FnTightened : CallE := ⟨3, [.d false (.list (.int .u8))], [.l (.d false .bool)], fun x => w_FnTightened x⟩
noncomputable def c_w_FnTightened : Ctx := ⟨Try.prog, TT, [e_w_big, e_s_DrawTightenHalf, e_i_TightenHalf, e_s_TightenHalf, e_s_DrawTightenRegion, e_i_TightenRegion, e_s_TightenRegion, e_s_DrawCombineHalves, e_i_CombineHalves, e_s_CombineHalves, e_s_DrawIsImplied, e_s_DrawCutFor, e_i_CutFor, e_s_CutFor, e_w_sameHalf, e_s_EqualRegion, e_i_IsImplied, e_s_IsImplied, e_s_GcdOf, e_s_PointsIn, e_w_sameLists, e_w_dot], [], [⟨16, [], [], [], 0⟩, ⟨22, [], [], [(8, true), (9, true)], 0⟩, ⟨30, [], [], [], 0⟩], [], [], []⟩
theorem k_w_FnTightened (x : PMs.den e_w_FnTightened.ps) : funK c_w_FnTightened Try.f3 e_w_FnTightened.ps e_w_FnTightened.rs x = e_w_FnTightened.F x := by kernel_rfl
theorem o_w_FnTightened {D : Prop} : FnOk Try.prog e_w_FnTightened.f ∧ Ctr D Try.prog e_w_FnTightened := mkCtr (C := c_w_FnTightened) m_ (⟨o_w_big, o_s_DrawTightenHalf, o_i_TightenHalf, o_s_TightenHalf, o_s_DrawTightenRegion, o_i_TightenRegion, o_s_TightenRegion, o_s_DrawCombineHalves, o_i_CombineHalves, o_s_CombineHalves, o_s_DrawIsImplied, o_s_DrawCutFor, o_i_CutFor, o_s_CutFor, o_w_sameHalf, o_s_EqualRegion, o_i_IsImplied, o_s_IsImplied, o_s_GcdOf, o_s_PointsIn, o_w_sameLists, o_w_dot, trivial⟩) Try.func3 (by kernel_rfl) k_w_FnTightened
end Go.Proofs.Ytednadbkcpcmfaa
