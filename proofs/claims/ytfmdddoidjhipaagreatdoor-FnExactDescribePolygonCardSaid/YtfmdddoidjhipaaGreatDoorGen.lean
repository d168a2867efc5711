/- Plain functions. -/
import Derived.Test.YtfmdddoidjhipaaGreatDoorProg
import Derived.Test.YtfmdddoidjhipaaGreatDoorLgl
import Derived.Test.YtfmdddoidjhipaaGreatDoorEm7
import Derived.Test.YtfmdddoidjhipaaGreatDoorEm8
import Derived.KernelRfl
namespace Go.Proofs.YtfmdddoidjhipaaGreatDoor
open Go Go.Proofs.YtfmdddoidjhipaaGreatDoor.Eng
set_option linter.unusedVariables false
set_option maxRecDepth 100000
noncomputable def TT : List (TypeId × Ty) := [(3, (.int .i64)), (5, (.int .u8)), (9, .str), (44, (.list (.int .i64)))]
theorem m_ : Tryz.prog.follows .mixedOrders = true := by kernel_rfl
/-! loop.example/g00959/spec.FormatInt -/
noncomputable def s_FormatInt_s5 (v1 : Int × ByteArray) : Option ((Int × ByteArray) ⊕ (ByteArray)) :=
 cond (v1.1 != (0 : Int))
 ((remI .i64 v1.1 (10 : Int)).bind fun v2 => cond (decide (v2 < (0 : Int)))
 ((catS (strI ([(IntKind.u8.wrap (IntKind.i64.wrap ((48 : Int) + (IntKind.i64.wrap ((0 : Int) - v2)))))] : List Int)) v1.2).bind fun v3 => (quoI .i64 v1.1 (10 : Int)).bind fun v4 => some (.inl (v4, v3)))
 ((catS (strI ([(IntKind.u8.wrap (IntKind.i64.wrap ((48 : Int) + v2)))] : List Int)) v1.2).bind fun v5 => (quoI .i64 v1.1 (10 : Int)).bind fun v6 => some (.inl (v6, v5))))
 (some (.inr v1.2))
noncomputable def s_FormatInt (x0 : Int) : Option (ByteArray) :=
 cond (x0 == (0 : Int))
 (some (⟨#[48]⟩ : ByteArray))
 ((iter (s_FormatInt_s5) (x0, (⟨#[]⟩ : ByteArray))).bind fun v7 => cond (decide (x0 < (0 : Int)))
 ((catS (⟨#[45]⟩ : ByteArray) v7).bind fun v8 => some v8)
 (some v7))
noncomputable def e_s_FormatInt : CallE := ⟨32, [.d false (.int .i64)], [.l (.d false .str)], fun x => s_FormatInt x⟩
noncomputable def c_s_FormatInt : Ctx := ⟨Tryz.prog, TT, [], [⟨5, [(0, .l (.d false (.int .i64))), (4, .l (.d false .str))], some (0, [(4, .l (.d false .str))]), none, false⟩], [], [], [], []⟩
theorem k_s_FormatInt (x : PMs.den e_s_FormatInt.ps) : funK c_s_FormatInt Tryz.f32 e_s_FormatInt.ps e_s_FormatInt.rs x = e_s_FormatInt.F x := by kernel_rfl
theorem o_s_FormatInt {D : Prop} : FnOk Tryz.prog e_s_FormatInt.f ∧ Ctr D Tryz.prog e_s_FormatInt := mkCtr (C := c_s_FormatInt) m_ (trivial) Tryz.func32 (by kernel_rfl) k_s_FormatInt
/-! loop.example/g00959/spec.l1In -/
noncomputable def s_l1In (x0 : Int) (x1 : Int) (x2 : Int) : Option (Bool) :=
 cond (decide (x0 ≥ x1))
 (some (decide (x0 ≤ x2)))
 (some false)
noncomputable def e_s_l1In : CallE := ⟨69, [.d false (.int .i64), .d false (.int .i64), .d false (.int .i64)], [.l (.d false .bool)], fun x => s_l1In x.1 x.2.1 x.2.2⟩
noncomputable def c_s_l1In : Ctx := ⟨Tryz.prog, TT, [], [], [], [], [], []⟩
theorem k_s_l1In (x : PMs.den e_s_l1In.ps) : funK c_s_l1In Tryz.f69 e_s_l1In.ps e_s_l1In.rs x = e_s_l1In.F x := by kernel_rfl
theorem o_s_l1In {D : Prop} : FnOk Tryz.prog e_s_l1In.f ∧ Ctr D Tryz.prog e_s_l1In := mkCtr (C := c_s_l1In) m_ (trivial) Tryz.func69 (by kernel_rfl) k_s_l1In
/-! loop.example/g00959/spec.l2Small -/
noncomputable def s_l2Small_s2 (x0 : List Int) (x1 : Int) (v1 : Int) : Option ((Int) ⊕ ((Unit) ⊕ (Bool))) :=
 cond (decide (v1 < (x0.length : Int)))
 ((idx x0 v1).bind fun v2 => (s_l1In v2 (IntKind.i64.wrap (0 - x1)) x1).bind fun v3 => cond (!v3)
 (some (.inr (.inr false)))
 (some (.inl (IntKind.i64.wrap (v1 + (1 : Int))))))
 (some (.inr (.inl ())))
noncomputable def s_l2Small (x0 : List Int) (x1 : Int) : Option (Bool) :=
(iter (s_l2Small_s2 x0 x1) (0 : Int)).bind fun v4 => match v4 with
 | .inl v5 => (some true)
 | .inr v6 => (some v6)
noncomputable def e_s_l2Small : CallE := ⟨111, [.d false (.list (.int .i64)), .d false (.int .i64)], [.l (.d false .bool)], fun x => s_l2Small x.1 x.2⟩
noncomputable def c_s_l2Small : Ctx := ⟨Tryz.prog, TT, [e_s_l1In], [⟨2, [(5, .l (.d false (.int .i64)))], some (0, []), some [(4, .l (.d false .bool))], false⟩], [], [], [], []⟩
theorem k_s_l2Small (x : PMs.den e_s_l2Small.ps) : funK c_s_l2Small Tryz.f111 e_s_l2Small.ps e_s_l2Small.rs x = e_s_l2Small.F x := by kernel_rfl
theorem o_s_l2Small {D : Prop} : FnOk Tryz.prog e_s_l2Small.f ∧ Ctr D Tryz.prog e_s_l2Small := mkCtr (C := c_s_l2Small) m_ (⟨o_s_l1In, trivial⟩) Tryz.func111 (by kernel_rfl) k_s_l2Small
/-! loop.example/g00959/spec.l7Flat -/
noncomputable def s_l7Flat_s2 (x0 : List (List Int)) (v1 : Int) : Option ((Int) ⊕ ((Unit) ⊕ (Bool))) :=
 cond (decide (v1 < (x0.length : Int)))
 ((idx x0 v1).bind fun v2 => cond ((v2.length : Int) != (2 : Int))
 (some (.inr (.inr false)))
 ((idx x0 v1).bind fun v3 => (s_l2Small v3 (50 : Int)).bind fun v4 => cond (!v4)
 (some (.inr (.inr false)))
 (some (.inl (IntKind.i64.wrap (v1 + (1 : Int)))))))
 (some (.inr (.inl ())))
noncomputable def s_l7Flat (x0 : List (List Int)) : Option (Bool) :=
(iter (s_l7Flat_s2 x0) (0 : Int)).bind fun v5 => match v5 with
 | .inl v6 => (some true)
 | .inr v7 => (some v7)
noncomputable def e_s_l7Flat : CallE := ⟨70, [.d false (.list (.list (.int .i64)))], [.l (.d false .bool)], fun x => s_l7Flat x⟩
noncomputable def c_s_l7Flat : Ctx := ⟨Tryz.prog, TT, [e_s_l2Small], [⟨2, [(3, .l (.d false (.int .i64)))], some (0, []), some [(2, .l (.d false .bool))], false⟩], [], [], [], []⟩
theorem k_s_l7Flat (x : PMs.den e_s_l7Flat.ps) : funK c_s_l7Flat Tryz.f70 e_s_l7Flat.ps e_s_l7Flat.rs x = e_s_l7Flat.F x := by kernel_rfl
theorem o_s_l7Flat {D : Prop} : FnOk Tryz.prog e_s_l7Flat.f ∧ Ctr D Tryz.prog e_s_l7Flat := mkCtr (C := c_s_l7Flat) m_ (⟨o_s_l2Small, trivial⟩) Tryz.func70 (by kernel_rfl) k_s_l7Flat
/-! loop.example/g00959/spec.l2Before -/
noncomputable def s_l2Before_s2 (x0 : List Int) (x1 : List Int) (v1 : Int) : Option ((Int) ⊕ ((Unit) ⊕ (Bool))) :=
 cond (decide (v1 < (x0.length : Int)))
 (cond (decide (v1 < (x1.length : Int)))
 ((idx x0 v1).bind fun v2 => (idx x1 v1).bind fun v3 => cond (v2 != v3)
 ((idx x0 v1).bind fun v4 => (idx x1 v1).bind fun v5 => some (.inr (.inr (decide (v4 < v5)))))
 (some (.inl (IntKind.i64.wrap (v1 + (1 : Int))))))
 (some (.inr (.inl ()))))
 (some (.inr (.inl ())))
noncomputable def s_l2Before (x0 : List Int) (x1 : List Int) : Option (Bool) :=
(iter (s_l2Before_s2 x0 x1) (0 : Int)).bind fun v6 => match v6 with
 | .inl v7 => (some false)
 | .inr v8 => (some v8)
noncomputable def e_s_l2Before : CallE := ⟨142, [.d false (.list (.int .i64)), .d false (.list (.int .i64))], [.l (.d false .bool)], fun x => s_l2Before x.1 x.2⟩
noncomputable def c_s_l2Before : Ctx := ⟨Tryz.prog, TT, [], [⟨2, [(5, .l (.d false (.int .i64)))], some (0, []), some [(4, .l (.d false .bool))], false⟩], [], [], [], []⟩
theorem k_s_l2Before (x : PMs.den e_s_l2Before.ps) : funK c_s_l2Before Tryz.f142 e_s_l2Before.ps e_s_l2Before.rs x = e_s_l2Before.F x := by kernel_rfl
theorem o_s_l2Before {D : Prop} : FnOk Tryz.prog e_s_l2Before.f ∧ Ctr D Tryz.prog e_s_l2Before := mkCtr (C := c_s_l2Before) m_ (trivial) Tryz.func142 (by kernel_rfl) k_s_l2Before
/-! loop.example/g00959/spec.l2Same -/
noncomputable def s_l2Same_s4 (x0 : List Int) (x1 : List Int) (v1 : Int) : Option ((Int) ⊕ ((Unit) ⊕ (Bool))) :=
 cond (decide (v1 < (x0.length : Int)))
 ((idx x0 v1).bind fun v2 => (idx x1 v1).bind fun v3 => cond (v2 != v3)
 (some (.inr (.inr false)))
 (some (.inl (IntKind.i64.wrap (v1 + (1 : Int))))))
 (some (.inr (.inl ())))
noncomputable def s_l2Same (x0 : List Int) (x1 : List Int) : Option (Bool) :=
 cond ((x0.length : Int) != (x1.length : Int))
 (some false)
 ((iter (s_l2Same_s4 x0 x1) (0 : Int)).bind fun v4 => match v4 with
 | .inl v5 => (some true)
 | .inr v6 => (some v6))
noncomputable def e_s_l2Same : CallE := ⟨83, [.d false (.list (.int .i64)), .d false (.list (.int .i64))], [.l (.d false .bool)], fun x => s_l2Same x.1 x.2⟩
noncomputable def c_s_l2Same : Ctx := ⟨Tryz.prog, TT, [], [⟨4, [(5, .l (.d false (.int .i64)))], some (0, []), some [(4, .l (.d false .bool))], false⟩], [], [], [], []⟩
theorem k_s_l2Same (x : PMs.den e_s_l2Same.ps) : funK c_s_l2Same Tryz.f83 e_s_l2Same.ps e_s_l2Same.rs x = e_s_l2Same.F x := by kernel_rfl
theorem o_s_l2Same {D : Prop} : FnOk Tryz.prog e_s_l2Same.f ∧ Ctr D Tryz.prog e_s_l2Same := mkCtr (C := c_s_l2Same) m_ (trivial) Tryz.func83 (by kernel_rfl) k_s_l2Same
/-! loop.example/g00959/spec.l2Put -/
noncomputable def s_l2Put_s2 (x1 : List Int) (v1 : List (List Int) × Int) : Option ((List (List Int) × Int) ⊕ (List (List Int) × Int)) :=
 cond (decide (v1.2 > (0 : Int)))
 ((inIdx v1.1.length (IntKind.i64.wrap (v1.2 - (1 : Int)))).bind fun _ => (idx v1.1 (((IntKind.i64.wrap (v1.2 - (1 : Int)))).toNat : Int)).bind fun v2 => (s_l2Before x1 v2).bind fun v3 => cond v3
 (some (.inl (v1.1, (IntKind.i64.wrap (v1.2 - (1 : Int))))))
 (some (.inr (v1.1, v1.2))))
 (some (.inr (v1.1, v1.2)))
noncomputable def s_l2Put (x0 : List (List Int)) (x1 : List Int) : Option (List (List Int)) :=
(iter (s_l2Put_s2 x1) (x0, (x0.length : Int))).bind fun v4 => cond (decide (v4.2 > (0 : Int)))
 ((inIdx v4.1.length (IntKind.i64.wrap (v4.2 - (1 : Int)))).bind fun _ => (idx v4.1 (((IntKind.i64.wrap (v4.2 - (1 : Int)))).toNat : Int)).bind fun v5 => (s_l2Same v5 x1).bind fun v6 => cond v6
 (some v4.1)
 ((subl v4.1 v4.2 (v4.1.length : Int)).bind fun v7 => (subl v4.1 ((v4.2).toNat : Int) (((v4.1.length : Int)).toNat : Int)).bind fun v8 => (appD 24 ([] : List (List Int)) v8).bind fun v9 => (subl v4.1 0 v4.2).bind fun v10 => (appD 8 ([] : List Int) x1).bind fun v11 => (appD 24 v10 ([v11] : List (List Int))).bind fun v12 => (appD 24 v12 v9).bind fun v13 => some v13))
 ((subl v4.1 v4.2 (v4.1.length : Int)).bind fun v14 => (subl v4.1 ((v4.2).toNat : Int) (((v4.1.length : Int)).toNat : Int)).bind fun v15 => (appD 24 ([] : List (List Int)) v15).bind fun v16 => (subl v4.1 0 v4.2).bind fun v17 => (appD 8 ([] : List Int) x1).bind fun v18 => (appD 24 v17 ([v18] : List (List Int))).bind fun v19 => (appD 24 v19 v16).bind fun v20 => some v20)
noncomputable def e_s_l2Put : CallE := ⟨112, [.mv false 44 (.list (.int .i64)), .d false (.list (.int .i64))], [.l (.o false 44 (.list (.int .i64)))], fun x => s_l2Put x.1 x.2⟩
noncomputable def c_s_l2Put : Ctx := ⟨Tryz.prog, TT, [e_s_l2Before, e_s_l2Same], [⟨2, [(0, .l (.o false 44 (.list (.int .i64)))), (5, .l (.d false (.int .i64)))], some (0, [(0, .l (.o false 44 (.list (.int .i64)))), (5, .l (.d false (.int .i64)))]), none, false⟩], [], [], [35], [(7, [0, 1, 2, 4, 8, 3, 5, 6, 7, 9, 10])]⟩
theorem k_s_l2Put (x : PMs.den e_s_l2Put.ps) : funK c_s_l2Put Tryz.f112 e_s_l2Put.ps e_s_l2Put.rs x = e_s_l2Put.F x := by kernel_rfl
theorem o_s_l2Put {D : Prop} : FnOk Tryz.prog e_s_l2Put.f ∧ Ctr D Tryz.prog e_s_l2Put := mkCtr (C := c_s_l2Put) m_ (⟨o_s_l2Before, o_s_l2Same, trivial⟩) Tryz.func112 (by kernel_rfl) k_s_l2Put
/-! loop.example/g00959/spec.l2Less -/
noncomputable def s_l2Less_s3 (x0 : List Int) (x1 : List Int) (v1 : List Int × Int) : Option ((List Int × Int) ⊕ (List Int)) :=
 cond (decide (v1.2 < (x0.length : Int)))
 ((idx x0 v1.2).bind fun v2 => (idx x1 v1.2).bind fun v3 => (appD 8 v1.1 ([(IntKind.i64.wrap (v2 - v3))] : List Int)).bind fun v4 => some (.inl (v4, (IntKind.i64.wrap (v1.2 + (1 : Int))))))
 (some (.inr v1.1))
noncomputable def s_l2Less (x0 : List Int) (x1 : List Int) : Option (List Int) :=
(iter (s_l2Less_s3 x0 x1) (([] : List Int), (0 : Int))).bind fun v5 => some v5
noncomputable def e_s_l2Less : CallE := ⟨82, [.d false (.list (.int .i64)), .d false (.list (.int .i64))], [.l (.o true 3 (.int .i64))], fun x => s_l2Less x.1 x.2⟩
noncomputable def c_s_l2Less : Ctx := ⟨Tryz.prog, TT, [], [⟨3, [(5, .l (.o true 3 (.int .i64))), (6, .l (.d false (.int .i64)))], some (0, [(5, .l (.o true 3 (.int .i64)))]), none, false⟩], [], [], [], []⟩
theorem k_s_l2Less (x : PMs.den e_s_l2Less.ps) : funK c_s_l2Less Tryz.f82 e_s_l2Less.ps e_s_l2Less.rs x = e_s_l2Less.F x := by kernel_rfl
theorem o_s_l2Less {D : Prop} : FnOk Tryz.prog e_s_l2Less.f ∧ Ctr D Tryz.prog e_s_l2Less := mkCtr (C := c_s_l2Less) m_ (trivial) Tryz.func82 (by kernel_rfl) k_s_l2Less
/-! loop.example/g00959/spec.l7Cross -/
noncomputable def s_l7Cross (x0 : List Int) (x1 : List Int) : Option (Int) :=
(idx x0 (0 : Int)).bind fun v1 => (idx x1 (1 : Int)).bind fun v2 => (idx x0 (1 : Int)).bind fun v3 => (idx x1 (0 : Int)).bind fun v4 => some (IntKind.i64.wrap ((IntKind.i64.wrap (v1 * v2)) - (IntKind.i64.wrap (v3 * v4))))
noncomputable def e_s_l7Cross : CallE := ⟨114, [.d false (.list (.int .i64)), .d false (.list (.int .i64))], [.l (.d false (.int .i64))], fun x => s_l7Cross x.1 x.2⟩
noncomputable def c_s_l7Cross : Ctx := ⟨Tryz.prog, TT, [], [], [], [], [], []⟩
theorem k_s_l7Cross (x : PMs.den e_s_l7Cross.ps) : funK c_s_l7Cross Tryz.f114 e_s_l7Cross.ps e_s_l7Cross.rs x = e_s_l7Cross.F x := by kernel_rfl
theorem o_s_l7Cross {D : Prop} : FnOk Tryz.prog e_s_l7Cross.f ∧ Ctr D Tryz.prog e_s_l7Cross := mkCtr (C := c_s_l7Cross) m_ (trivial) Tryz.func114 (by kernel_rfl) k_s_l7Cross
/-! loop.example/g00959/spec.l7Turn -/
noncomputable def s_l7Turn (x0 : List Int) (x1 : List Int) (x2 : List Int) : Option (Int) :=
(s_l2Less x1 x0).bind fun v1 => (s_l2Less x2 x1).bind fun v2 => (s_l7Cross v1 v2).bind fun v3 => some v3
noncomputable def e_s_l7Turn : CallE := ⟨120, [.d false (.list (.int .i64)), .d false (.list (.int .i64)), .d false (.list (.int .i64))], [.l (.d false (.int .i64))], fun x => s_l7Turn x.1 x.2.1 x.2.2⟩
noncomputable def c_s_l7Turn : Ctx := ⟨Tryz.prog, TT, [e_s_l2Less, e_s_l7Cross], [], [], [], [], []⟩
theorem k_s_l7Turn (x : PMs.den e_s_l7Turn.ps) : funK c_s_l7Turn Tryz.f120 e_s_l7Turn.ps e_s_l7Turn.rs x = e_s_l7Turn.F x := by kernel_rfl
theorem o_s_l7Turn {D : Prop} : FnOk Tryz.prog e_s_l7Turn.f ∧ Ctr D Tryz.prog e_s_l7Turn := mkCtr (C := c_s_l7Turn) m_ (⟨o_s_l2Less, o_s_l7Cross, trivial⟩) Tryz.func120 (by kernel_rfl) k_s_l7Turn
/-! loop.example/g00959/spec.l7Hull -/
noncomputable def s_l7Hull_s12 (v1 : List (List Int) × Int) (v4 : List Int) (v5 : List (List Int)) : Option ((List (List Int)) ⊕ (List (List Int))) :=
 cond (decide ((v5.length : Int) ≥ (IntKind.i64.wrap ((v1.1.length : Int) + (2 : Int)))))
 ((inIdx v5.length (IntKind.i64.wrap ((v5.length : Int) - (2 : Int)))).bind fun _ => (idx v5 (((IntKind.i64.wrap ((v5.length : Int) - (2 : Int)))).toNat : Int)).bind fun v6 => (inIdx v5.length (IntKind.i64.wrap ((v5.length : Int) - (1 : Int)))).bind fun _ => (idx v5 (((IntKind.i64.wrap ((v5.length : Int) - (1 : Int)))).toNat : Int)).bind fun v7 => (s_l7Turn v6 v7 v4).bind fun v8 => cond (decide (v8 ≤ (0 : Int)))
 ((subl v5 0 (IntKind.i64.wrap ((v5.length : Int) - (1 : Int)))).bind fun v9 => some (.inl v9))
 (some (.inr v5)))
 (some (.inr v5))
noncomputable def s_l7Hull_s12b16 (v1 : List (List Int) × Int) (v3 : List Int) (v12 : List (List Int)) : Option ((List (List Int)) ⊕ (List (List Int))) :=
 cond (decide ((v12.length : Int) ≥ (IntKind.i64.wrap ((v1.1.length : Int) + (2 : Int)))))
 ((inIdx v12.length (IntKind.i64.wrap ((v12.length : Int) - (2 : Int)))).bind fun _ => (idx v12 (((IntKind.i64.wrap ((v12.length : Int) - (2 : Int)))).toNat : Int)).bind fun v13 => (inIdx v12.length (IntKind.i64.wrap ((v12.length : Int) - (1 : Int)))).bind fun _ => (idx v12 (((IntKind.i64.wrap ((v12.length : Int) - (1 : Int)))).toNat : Int)).bind fun v14 => (s_l7Turn v13 v14 v3).bind fun v15 => cond (decide (v15 ≤ (0 : Int)))
 ((subl v12 0 (IntKind.i64.wrap ((v12.length : Int) - (1 : Int)))).bind fun v16 => some (.inl v16))
 (some (.inr v12)))
 (some (.inr v12))
noncomputable def s_l7Hull_s7 (x0 : List (List Int)) (v1 : List (List Int) × Int) (v2 : List (List Int) × Int) : Option ((List (List Int) × Int) ⊕ (List (List Int))) :=
 cond (decide (v2.2 < (x0.length : Int)))
 ((idx x0 v2.2).bind fun v3 => cond (v1.2 == (1 : Int))
 ((idx x0 (IntKind.i64.wrap ((IntKind.i64.wrap ((x0.length : Int) - (1 : Int))) - v2.2))).bind fun v4 => (iter (s_l7Hull_s12 v1 v4) v2.1).bind fun v10 => (appD 24 v10 ([v4] : List (List Int))).bind fun v11 => some (.inl (v11, (IntKind.i64.wrap (v2.2 + (1 : Int))))))
 ((iter (s_l7Hull_s12b16 v1 v3) v2.1).bind fun v17 => (appD 24 v17 ([v3] : List (List Int))).bind fun v18 => some (.inl (v18, (IntKind.i64.wrap (v2.2 + (1 : Int)))))))
 (some (.inr v2.1))
noncomputable def s_l7Hull_s3 (x0 : List (List Int)) (v1 : List (List Int) × Int) : Option ((List (List Int) × Int) ⊕ (List (List Int))) :=
 cond (decide (v1.2 < (2 : Int)))
 ((iter (s_l7Hull_s7 x0 v1) (v1.1, (0 : Int))).bind fun v19 => (subl v19 0 (IntKind.i64.wrap ((v19.length : Int) - (1 : Int)))).bind fun v20 => some (.inl (v20, (IntKind.i64.wrap (v1.2 + (1 : Int))))))
 (some (.inr v1.1))
noncomputable def s_l7Hull (x0 : List (List Int)) : Option (List (List Int)) :=
(iter (s_l7Hull_s3 x0) (([] : List (List Int)), (0 : Int))).bind fun v21 => some v21
noncomputable def e_s_l7Hull : CallE := ⟨113, [.d false (.list (.list (.int .i64)))], [.l (.o false 44 (.list (.int .i64)))], fun x => s_l7Hull x⟩
noncomputable def c_s_l7Hull : Ctx := ⟨Tryz.prog, TT, [e_s_l7Turn], [⟨3, [(3, .l (.o false 44 (.list (.int .i64)))), (4, .l (.d false (.int .i64)))], some (0, [(3, .l (.o false 44 (.list (.int .i64))))]), none, false⟩, ⟨7, [(3, .l (.o false 44 (.list (.int .i64)))), (6, .l (.d false (.int .i64)))], some (2, [(3, .l (.o false 44 (.list (.int .i64))))]), none, false⟩, ⟨12, [(3, .l (.o false 44 (.list (.int .i64))))], some (4, [(3, .l (.o false 44 (.list (.int .i64))))]), none, false⟩], [], [], [], []⟩
theorem k_s_l7Hull (x : PMs.den e_s_l7Hull.ps) : funK c_s_l7Hull Tryz.f113 e_s_l7Hull.ps e_s_l7Hull.rs x = e_s_l7Hull.F x := by kernel_rfl
theorem o_s_l7Hull {D : Prop} : FnOk Tryz.prog e_s_l7Hull.f ∧ Ctr D Tryz.prog e_s_l7Hull := mkCtr (C := c_s_l7Hull) m_ (⟨o_s_l7Turn, trivial⟩) Tryz.func113 (by kernel_rfl) k_s_l7Hull
/-! loop.example/g00959/spec.l7Copy -/
noncomputable def s_l7Copy_s3 (x0 : List (List Int)) (v1 : List (List Int) × Int) : Option ((List (List Int) × Int) ⊕ (List (List Int))) :=
 cond (decide (v1.2 < (x0.length : Int)))
 ((idx x0 v1.2).bind fun v2 => (appD 8 ([] : List Int) v2).bind fun v3 => (appD 24 v1.1 ([v3] : List (List Int))).bind fun v4 => some (.inl (v4, (IntKind.i64.wrap (v1.2 + (1 : Int))))))
 (some (.inr v1.1))
noncomputable def s_l7Copy (x0 : List (List Int)) : Option (List (List Int)) :=
(iter (s_l7Copy_s3 x0) (([] : List (List Int)), (0 : Int))).bind fun v5 => some v5
noncomputable def e_s_l7Copy : CallE := ⟨25, [.d false (.list (.list (.int .i64)))], [.l (.o true 44 (.list (.int .i64)))], fun x => s_l7Copy x⟩
noncomputable def c_s_l7Copy : Ctx := ⟨Tryz.prog, TT, [], [⟨3, [(3, .l (.o true 44 (.list (.int .i64)))), (4, .l (.d false (.int .i64)))], some (0, [(3, .l (.o true 44 (.list (.int .i64))))]), none, false⟩], [], [], [], []⟩
theorem k_s_l7Copy (x : PMs.den e_s_l7Copy.ps) : funK c_s_l7Copy Tryz.f25 e_s_l7Copy.ps e_s_l7Copy.rs x = e_s_l7Copy.F x := by kernel_rfl
theorem o_s_l7Copy {D : Prop} : FnOk Tryz.prog e_s_l7Copy.f ∧ Ctr D Tryz.prog e_s_l7Copy := mkCtr (C := c_s_l7Copy) m_ (trivial) Tryz.func25 (by kernel_rfl) k_s_l7Copy
/-! loop.example/g00959/spec.HullOf -/
noncomputable def s_HullOf_s5 (x0 : List (List Int)) (v2 : List (List Int) × Int) : Option ((List (List Int) × Int) ⊕ (List (List Int))) :=
 cond (decide (v2.2 < (x0.length : Int)))
 ((idx x0 v2.2).bind fun v3 => (s_l2Put v2.1 v3).bind fun v4 => some (.inl (v4, (IntKind.i64.wrap (v2.2 + (1 : Int))))))
 (some (.inr v2.1))
noncomputable def s_HullOf (x0 : List (List Int)) : Option (List (List Int) × Bool) :=
 cond (decide ((x0.length : Int) > (200 : Int)))
 (some (([] : List (List Int)), false))
 ((s_l7Flat x0).bind fun v1 => cond (!v1)
 (some (([] : List (List Int)), false))
 ((iter (s_HullOf_s5 x0) (([] : List (List Int)), (0 : Int))).bind fun v5 => cond (decide ((v5.length : Int) < (3 : Int)))
 (some (([] : List (List Int)), false))
 ((s_l7Hull v5).bind fun v6 => cond (decide ((v6.length : Int) < (3 : Int)))
 (some (([] : List (List Int)), false))
 (cond (decide ((v6.length : Int) > (12 : Int)))
 (some (([] : List (List Int)), false))
 ((s_l7Copy v6).bind fun v7 => some (v7, true))))))
noncomputable def e_s_HullOf : CallE := ⟨71, [.d false (.list (.list (.int .i64)))], [.l (.o true 44 (.list (.int .i64))), .l (.d false .bool)], fun x => s_HullOf x⟩
noncomputable def c_s_HullOf : Ctx := ⟨Tryz.prog, TT, [e_s_l7Flat, e_s_l2Put, e_s_l7Hull, e_s_l7Copy], [⟨5, [(4, .l (.o false 44 (.list (.int .i64)))), (5, .l (.d false (.int .i64)))], some (0, [(4, .l (.o false 44 (.list (.int .i64))))]), none, false⟩], [], [], [], []⟩
theorem k_s_HullOf (x : PMs.den e_s_HullOf.ps) : funK c_s_HullOf Tryz.f71 e_s_HullOf.ps e_s_HullOf.rs x = e_s_HullOf.F x := by kernel_rfl
theorem o_s_HullOf {D : Prop} : FnOk Tryz.prog e_s_HullOf.f ∧ Ctr D Tryz.prog e_s_HullOf := mkCtr (C := c_s_HullOf) m_ (⟨o_s_l7Flat, o_s_l2Put, o_s_l7Hull, o_s_l7Copy, trivial⟩) Tryz.func71 (by kernel_rfl) k_s_HullOf
/-! loop.example/g00959/spec.l7SameList -/
noncomputable def s_l7SameList_s4 (x0 : List (List Int)) (x1 : List (List Int)) (v1 : Int) : Option ((Int) ⊕ ((Unit) ⊕ (Bool))) :=
 cond (decide (v1 < (x0.length : Int)))
 ((idx x0 v1).bind fun v2 => (idx x1 v1).bind fun v3 => (s_l2Same v2 v3).bind fun v4 => cond (!v4)
 (some (.inr (.inr false)))
 (some (.inl (IntKind.i64.wrap (v1 + (1 : Int))))))
 (some (.inr (.inl ())))
noncomputable def s_l7SameList (x0 : List (List Int)) (x1 : List (List Int)) : Option (Bool) :=
 cond ((x0.length : Int) != (x1.length : Int))
 (some false)
 ((iter (s_l7SameList_s4 x0 x1) (0 : Int)).bind fun v5 => match v5 with
 | .inl v6 => (some true)
 | .inr v7 => (some v7))
noncomputable def e_s_l7SameList : CallE := ⟨72, [.d false (.list (.list (.int .i64))), .d false (.list (.list (.int .i64)))], [.l (.d false .bool)], fun x => s_l7SameList x.1 x.2⟩
noncomputable def c_s_l7SameList : Ctx := ⟨Tryz.prog, TT, [e_s_l2Same], [⟨4, [(5, .l (.d false (.int .i64)))], some (0, []), some [(4, .l (.d false .bool))], false⟩], [], [], [], []⟩
theorem k_s_l7SameList (x : PMs.den e_s_l7SameList.ps) : funK c_s_l7SameList Tryz.f72 e_s_l7SameList.ps e_s_l7SameList.rs x = e_s_l7SameList.F x := by kernel_rfl
theorem o_s_l7SameList {D : Prop} : FnOk Tryz.prog e_s_l7SameList.f ∧ Ctr D Tryz.prog e_s_l7SameList := mkCtr (C := c_s_l7SameList) m_ (⟨o_s_l2Same, trivial⟩) Tryz.func72 (by kernel_rfl) k_s_l7SameList
/-! loop.example/g00959/spec.IsPolygon -/
noncomputable def s_IsPolygon (x0 : List (List Int)) : Option (Bool) :=
(s_l1In (x0.length : Int) (3 : Int) (12 : Int)).bind fun v1 => cond (!v1)
 (some false)
 ((s_l7Flat x0).bind fun v2 => cond (!v2)
 (some false)
 ((s_HullOf x0).bind fun v3 => cond v3.2
 ((s_l7SameList v3.1 x0).bind fun v4 => some v4)
 (some false)))
noncomputable def e_s_IsPolygon : CallE := ⟨31, [.d false (.list (.list (.int .i64)))], [.l (.d false .bool)], fun x => s_IsPolygon x⟩
noncomputable def c_s_IsPolygon : Ctx := ⟨Tryz.prog, TT, [e_s_l1In, e_s_l7Flat, e_s_HullOf, e_s_l7SameList], [], [], [], [], []⟩
theorem k_s_IsPolygon (x : PMs.den e_s_IsPolygon.ps) : funK c_s_IsPolygon Tryz.f31 e_s_IsPolygon.ps e_s_IsPolygon.rs x = e_s_IsPolygon.F x := by kernel_rfl
theorem o_s_IsPolygon {D : Prop} : FnOk Tryz.prog e_s_IsPolygon.f ∧ Ctr D Tryz.prog e_s_IsPolygon := mkCtr (C := c_s_IsPolygon) m_ (⟨o_s_l1In, o_s_l7Flat, o_s_HullOf, o_s_l7SameList, trivial⟩) Tryz.func31 (by kernel_rfl) k_s_IsPolygon
/-! loop.example/g00959/impl.within -/
noncomputable def i_within (x0 : Int) (x1 : Int) (x2 : Int) : Option (Bool) :=
 cond (decide (x0 ≥ x1))
 (some (decide (x0 ≤ x2)))
 (some false)
noncomputable def e_i_within : CallE := ⟨64, [.d false (.int .i64), .d false (.int .i64), .d false (.int .i64)], [.l (.d false .bool)], fun x => i_within x.1 x.2.1 x.2.2⟩
noncomputable def c_i_within : Ctx := ⟨Tryz.prog, TT, [], [], [], [], [], []⟩
theorem k_i_within (x : PMs.den e_i_within.ps) : funK c_i_within Tryz.f64 e_i_within.ps e_i_within.rs x = e_i_within.F x := by kernel_rfl
theorem o_i_within {D : Prop} : FnOk Tryz.prog e_i_within.f ∧ Ctr D Tryz.prog e_i_within := mkCtr (C := c_i_within) m_ (trivial) Tryz.func64 (by kernel_rfl) k_i_within
/-! loop.example/g00959/impl.allWithin -/
noncomputable def i_allWithin_s2 (x0 : List Int) (x1 : Int) (x2 : Int) (v1 : Int) : Option ((Int) ⊕ ((Unit) ⊕ (Bool))) :=
 cond (decide (v1 < (x0.length : Int)))
 ((idx x0 v1).bind fun v2 => (i_within v2 x1 x2).bind fun v3 => cond (!v3)
 (some (.inr (.inr false)))
 (some (.inl (IntKind.i64.wrap (v1 + (1 : Int))))))
 (some (.inr (.inl ())))
noncomputable def i_allWithin (x0 : List Int) (x1 : Int) (x2 : Int) : Option (Bool) :=
(iter (i_allWithin_s2 x0 x1 x2) (0 : Int)).bind fun v4 => match v4 with
 | .inl v5 => (some true)
 | .inr v6 => (some v6)
noncomputable def e_i_allWithin : CallE := ⟨122, [.d false (.list (.int .i64)), .d false (.int .i64), .d false (.int .i64)], [.l (.d false .bool)], fun x => i_allWithin x.1 x.2.1 x.2.2⟩
noncomputable def c_i_allWithin : Ctx := ⟨Tryz.prog, TT, [e_i_within], [⟨2, [(11, .l (.d false (.int .i64)))], some (0, []), some [(6, .l (.d false .bool))], false⟩], [], [], [], []⟩
theorem k_i_allWithin (x : PMs.den e_i_allWithin.ps) : funK c_i_allWithin Tryz.f122 e_i_allWithin.ps e_i_allWithin.rs x = e_i_allWithin.F x := by kernel_rfl
theorem o_i_allWithin {D : Prop} : FnOk Tryz.prog e_i_allWithin.f ∧ Ctr D Tryz.prog e_i_allWithin := mkCtr (C := c_i_allWithin) m_ (⟨o_i_within, trivial⟩) Tryz.func122 (by kernel_rfl) k_i_allWithin
/-! loop.example/g00959/impl.IsVector -/
noncomputable def i_IsVector (x0 : List Int) : Option (Bool) :=
(i_within (x0.length : Int) (1 : Int) (3 : Int)).bind fun v1 => cond v1
 ((i_allWithin x0 (-1000 : Int) (1000 : Int)).bind fun v2 => some v2)
 (some false)
noncomputable def e_i_IsVector : CallE := ⟨129, [.d false (.list (.int .i64))], [.l (.d false .bool)], fun x => i_IsVector x⟩
noncomputable def c_i_IsVector : Ctx := ⟨Tryz.prog, TT, [e_i_within, e_i_allWithin], [], [], [], [], []⟩
theorem k_i_IsVector (x : PMs.den e_i_IsVector.ps) : funK c_i_IsVector Tryz.f129 e_i_IsVector.ps e_i_IsVector.rs x = e_i_IsVector.F x := by kernel_rfl
theorem o_i_IsVector {D : Prop} : FnOk Tryz.prog e_i_IsVector.f ∧ Ctr D Tryz.prog e_i_IsVector := mkCtr (C := c_i_IsVector) m_ (⟨o_i_within, o_i_allWithin, trivial⟩) Tryz.func129 (by kernel_rfl) k_i_IsVector
/-! loop.example/g00959/impl.isPoint -/
noncomputable def i_isPoint (x0 : List Int) (x1 : Int) : Option (Bool) :=
 cond ((x0.length : Int) == (2 : Int))
 ((i_allWithin x0 (IntKind.i64.wrap (0 - x1)) x1).bind fun v1 => some v1)
 (some false)
noncomputable def e_i_isPoint : CallE := ⟨85, [.d false (.list (.int .i64)), .d false (.int .i64)], [.l (.d false .bool)], fun x => i_isPoint x.1 x.2⟩
noncomputable def c_i_isPoint : Ctx := ⟨Tryz.prog, TT, [e_i_allWithin], [], [], [], [], []⟩
theorem k_i_isPoint (x : PMs.den e_i_isPoint.ps) : funK c_i_isPoint Tryz.f85 e_i_isPoint.ps e_i_isPoint.rs x = e_i_isPoint.F x := by kernel_rfl
theorem o_i_isPoint {D : Prop} : FnOk Tryz.prog e_i_isPoint.f ∧ Ctr D Tryz.prog e_i_isPoint := mkCtr (C := c_i_isPoint) m_ (⟨o_i_allWithin, trivial⟩) Tryz.func85 (by kernel_rfl) k_i_isPoint
/-! loop.example/g00959/impl.minus -/
noncomputable def i_minus (x0 : List Int) (x1 : List Int) : Option (List Int) :=
(idx x0 (0 : Int)).bind fun v1 => (idx x1 (0 : Int)).bind fun v2 => (idx x0 (1 : Int)).bind fun v3 => (idx x1 (1 : Int)).bind fun v4 => some ([(IntKind.i64.wrap (v1 - v2)), (IntKind.i64.wrap (v3 - v4))] : List Int)
noncomputable def e_i_minus : CallE := ⟨91, [.d false (.list (.int .i64)), .d false (.list (.int .i64))], [.l (.o true 3 (.int .i64))], fun x => i_minus x.1 x.2⟩
noncomputable def c_i_minus : Ctx := ⟨Tryz.prog, TT, [], [], [], [], [], []⟩
theorem k_i_minus (x : PMs.den e_i_minus.ps) : funK c_i_minus Tryz.f91 e_i_minus.ps e_i_minus.rs x = e_i_minus.F x := by kernel_rfl
theorem o_i_minus {D : Prop} : FnOk Tryz.prog e_i_minus.f ∧ Ctr D Tryz.prog e_i_minus := mkCtr (C := c_i_minus) m_ (trivial) Tryz.func91 (by kernel_rfl) k_i_minus
/-! loop.example/g00959/impl.cross -/
noncomputable def i_cross (x0 : List Int) (x1 : List Int) : Option (Int) :=
(idx x0 (0 : Int)).bind fun v1 => (idx x1 (1 : Int)).bind fun v2 => (idx x0 (1 : Int)).bind fun v3 => (idx x1 (0 : Int)).bind fun v4 => some (IntKind.i64.wrap ((IntKind.i64.wrap (v1 * v2)) - (IntKind.i64.wrap (v3 * v4))))
noncomputable def e_i_cross : CallE := ⟨123, [.d false (.list (.int .i64)), .d false (.list (.int .i64))], [.l (.d false (.int .i64))], fun x => i_cross x.1 x.2⟩
noncomputable def c_i_cross : Ctx := ⟨Tryz.prog, TT, [], [], [], [], [], []⟩
theorem k_i_cross (x : PMs.den e_i_cross.ps) : funK c_i_cross Tryz.f123 e_i_cross.ps e_i_cross.rs x = e_i_cross.F x := by kernel_rfl
theorem o_i_cross {D : Prop} : FnOk Tryz.prog e_i_cross.f ∧ Ctr D Tryz.prog e_i_cross := mkCtr (C := c_i_cross) m_ (trivial) Tryz.func123 (by kernel_rfl) k_i_cross
/-! loop.example/g00959/impl.turn -/
noncomputable def i_turn (x0 : List Int) (x1 : List Int) (x2 : List Int) : Option (Int) :=
(i_minus x1 x0).bind fun v1 => (i_minus x2 x0).bind fun v2 => (i_cross v1 v2).bind fun v3 => some v3
noncomputable def e_i_turn : CallE := ⟨86, [.d false (.list (.int .i64)), .d false (.list (.int .i64)), .d false (.list (.int .i64))], [.l (.d false (.int .i64))], fun x => i_turn x.1 x.2.1 x.2.2⟩
noncomputable def c_i_turn : Ctx := ⟨Tryz.prog, TT, [e_i_minus, e_i_cross], [], [], [], [], []⟩
theorem k_i_turn (x : PMs.den e_i_turn.ps) : funK c_i_turn Tryz.f86 e_i_turn.ps e_i_turn.rs x = e_i_turn.F x := by kernel_rfl
theorem o_i_turn {D : Prop} : FnOk Tryz.prog e_i_turn.f ∧ Ctr D Tryz.prog e_i_turn := mkCtr (C := c_i_turn) m_ (⟨o_i_minus, o_i_cross, trivial⟩) Tryz.func86 (by kernel_rfl) k_i_turn
/-! cmp.isNaN[int] -/
noncomputable def g_cmp_isNaN (x0 : Int) : Option (Bool) :=
 some (x0 != x0)
noncomputable def e_g_cmp_isNaN : CallE := ⟨148, [.d false (.int .i64)], [.l (.d false .bool)], fun x => g_cmp_isNaN x⟩
noncomputable def c_g_cmp_isNaN : Ctx := ⟨Tryz.prog, TT, [], [], [], [], [], []⟩
theorem k_g_cmp_isNaN (x : PMs.den e_g_cmp_isNaN.ps) : funK c_g_cmp_isNaN Tryz.f148 e_g_cmp_isNaN.ps e_g_cmp_isNaN.rs x = e_g_cmp_isNaN.F x := by kernel_rfl
theorem o_g_cmp_isNaN {D : Prop} : FnOk Tryz.prog e_g_cmp_isNaN.f ∧ Ctr D Tryz.prog e_g_cmp_isNaN := mkCtr (C := c_g_cmp_isNaN) m_ (trivial) Tryz.func148 (by kernel_rfl) k_g_cmp_isNaN
/-! cmp.Compare[int] -/
noncomputable def g_cmp_Compare (x0 : Int) (x1 : Int) : Option (Int) :=
(g_cmp_isNaN x0).bind fun v1 => (g_cmp_isNaN x1).bind fun v2 => cond v1
 (cond v2
 (some (0 : Int))
 (some (-1 : Int)))
 (cond v2
 (some (1 : Int))
 (cond (decide (x0 < x1))
 (some (-1 : Int))
 (cond (decide (x0 > x1))
 (some (1 : Int))
 (some (0 : Int)))))
noncomputable def e_g_cmp_Compare : CallE := ⟨124, [.d false (.int .i64), .d false (.int .i64)], [.l (.d false (.int .i64))], fun x => g_cmp_Compare x.1 x.2⟩
noncomputable def c_g_cmp_Compare : Ctx := ⟨Tryz.prog, TT, [e_g_cmp_isNaN], [], [], [], [], []⟩
theorem k_g_cmp_Compare (x : PMs.den e_g_cmp_Compare.ps) : funK c_g_cmp_Compare Tryz.f124 e_g_cmp_Compare.ps e_g_cmp_Compare.rs x = e_g_cmp_Compare.F x := by kernel_rfl
theorem o_g_cmp_Compare {D : Prop} : FnOk Tryz.prog e_g_cmp_Compare.f ∧ Ctr D Tryz.prog e_g_cmp_Compare := mkCtr (C := c_g_cmp_Compare) m_ (⟨o_g_cmp_isNaN, trivial⟩) Tryz.func124 (by kernel_rfl) k_g_cmp_Compare
/-! slices.Compare[[]int,int] -/
noncomputable def g_slices_Compare_s2 (x0 : List Int) (x1 : List Int) (v1 : Int) : Option ((Int) ⊕ ((Unit) ⊕ (Int))) :=
 cond (decide (v1 < (x0.length : Int)))
 ((idx x0 v1).bind fun v2 => cond (decide (v1 ≥ (x1.length : Int)))
 (some (.inr (.inr (1 : Int))))
 ((idx x1 v1).bind fun v3 => (g_cmp_Compare v2 v3).bind fun v4 => cond (v4 != (0 : Int))
 (some (.inr (.inr v4)))
 (some (.inl (IntKind.i64.wrap (v1 + (1 : Int)))))))
 (some (.inr (.inl ())))
noncomputable def g_slices_Compare (x0 : List Int) (x1 : List Int) : Option (Int) :=
(iter (g_slices_Compare_s2 x0 x1) (0 : Int)).bind fun v5 => match v5 with
 | .inl v6 => (cond (decide ((x0.length : Int) < (x1.length : Int)))
 (some (-1 : Int))
 (some (0 : Int)))
 | .inr v7 => (some v7)
noncomputable def e_g_slices_Compare : CallE := ⟨87, [.d false (.list (.int .i64)), .d false (.list (.int .i64))], [.l (.d false (.int .i64))], fun x => g_slices_Compare x.1 x.2⟩
noncomputable def c_g_slices_Compare : Ctx := ⟨Tryz.prog, TT, [e_g_cmp_Compare], [⟨2, [(11, .l (.d false (.int .i64)))], some (0, []), some [(4, .l (.d false (.int .i64)))], false⟩], [], [], [], []⟩
theorem k_g_slices_Compare (x : PMs.den e_g_slices_Compare.ps) : funK c_g_slices_Compare Tryz.f87 e_g_slices_Compare.ps e_g_slices_Compare.rs x = e_g_slices_Compare.F x := by kernel_rfl
theorem o_g_slices_Compare {D : Prop} : FnOk Tryz.prog e_g_slices_Compare.f ∧ Ctr D Tryz.prog e_g_slices_Compare := mkCtr (C := c_g_slices_Compare) m_ (⟨o_g_cmp_Compare, trivial⟩) Tryz.func87 (by kernel_rfl) k_g_slices_Compare
/-! loop.example/g00959/impl.IsPolygon -/
noncomputable def i_IsPolygon_s4 (x0 : List (List Int)) (v2 : Int) : Option ((Int) ⊕ ((Unit) ⊕ (Bool))) :=
 cond (decide (v2 < (x0.length : Int)))
 ((idx x0 v2).bind fun v3 => (i_isPoint v3 (50 : Int)).bind fun v4 => cond (!v4)
 (some (.inr (.inr false)))
 (some (.inl (IntKind.i64.wrap (v2 + (1 : Int))))))
 (some (.inr (.inl ())))
noncomputable def i_IsPolygon_s11 (x0 : List (List Int)) (v8 : Int) : Option ((Int) ⊕ ((Unit) ⊕ (Bool))) :=
 cond (decide (v8 < (x0.length : Int)))
 ((idx x0 v8).bind fun v9 => (remI .i64 (IntKind.i64.wrap (v8 + (1 : Int))) (x0.length : Int)).bind fun v10 => (idx x0 v10).bind fun v11 => (remI .i64 (IntKind.i64.wrap (v8 + (2 : Int))) (x0.length : Int)).bind fun v12 => (idx x0 v12).bind fun v13 => (i_turn v9 v11 v13).bind fun v14 => cond (decide (v14 ≤ (0 : Int)))
 (some (.inr (.inr false)))
 (cond (decide (v8 > (0 : Int)))
 ((idx x0 (0 : Int)).bind fun v15 => (g_slices_Compare v15 v9).bind fun v16 => cond (decide (v16 ≥ (0 : Int)))
 (some (.inr (.inr false)))
 (cond (decide (v8 > (0 : Int)))
 (cond (decide (v8 < (IntKind.i64.wrap ((x0.length : Int) - (1 : Int)))))
 ((idx x0 (0 : Int)).bind fun v17 => (idx x0 (IntKind.i64.wrap (v8 + (1 : Int)))).bind fun v18 => (i_turn v17 v9 v18).bind fun v19 => cond (decide (v19 ≤ (0 : Int)))
 (some (.inr (.inr false)))
 (some (.inl (IntKind.i64.wrap (v8 + (1 : Int))))))
 (some (.inl (IntKind.i64.wrap (v8 + (1 : Int))))))
 (some (.inl (IntKind.i64.wrap (v8 + (1 : Int)))))))
 (cond (decide (v8 > (0 : Int)))
 (cond (decide (v8 < (IntKind.i64.wrap ((x0.length : Int) - (1 : Int)))))
 ((idx x0 (0 : Int)).bind fun v20 => (idx x0 (IntKind.i64.wrap (v8 + (1 : Int)))).bind fun v21 => (i_turn v20 v9 v21).bind fun v22 => cond (decide (v22 ≤ (0 : Int)))
 (some (.inr (.inr false)))
 (some (.inl (IntKind.i64.wrap (v8 + (1 : Int))))))
 (some (.inl (IntKind.i64.wrap (v8 + (1 : Int))))))
 (some (.inl (IntKind.i64.wrap (v8 + (1 : Int))))))))
 (some (.inr (.inl ())))
noncomputable def i_IsPolygon (x0 : List (List Int)) : Option (Bool) :=
(i_within (x0.length : Int) (3 : Int) (12 : Int)).bind fun v1 => cond (!v1)
 (some false)
 ((iter (i_IsPolygon_s4 x0) (0 : Int)).bind fun v5 => match v5 with
 | .inl v6 => ((iter (i_IsPolygon_s11 x0) (0 : Int)).bind fun v23 => match v23 with
 | .inl v24 => (some true)
 | .inr v25 => (some v25))
 | .inr v7 => (some v7))
noncomputable def e_i_IsPolygon : CallE := ⟨44, [.d false (.list (.list (.int .i64)))], [.l (.d false .bool)], fun x => i_IsPolygon x⟩
noncomputable def c_i_IsPolygon : Ctx := ⟨Tryz.prog, TT, [e_i_within, e_i_isPoint, e_i_turn, e_g_slices_Compare], [⟨4, [(14, .l (.d false (.int .i64)))], some (0, []), some [(2, .l (.d false .bool))], false⟩, ⟨11, [(26, .l (.d false (.int .i64)))], some (2, []), some [(2, .l (.d false .bool))], false⟩], [], [], [], []⟩
theorem k_i_IsPolygon (x : PMs.den e_i_IsPolygon.ps) : funK c_i_IsPolygon Tryz.f44 e_i_IsPolygon.ps e_i_IsPolygon.rs x = e_i_IsPolygon.F x := by kernel_rfl
theorem o_i_IsPolygon {D : Prop} : FnOk Tryz.prog e_i_IsPolygon.f ∧ Ctr D Tryz.prog e_i_IsPolygon := mkCtr (C := c_i_IsPolygon) m_ (⟨o_i_within, o_i_isPoint, o_i_turn, o_g_slices_Compare, trivial⟩) Tryz.func44 (by kernel_rfl) k_i_IsPolygon
/-! loop.example/g00959/impl.copyInts -/
noncomputable def i_copyInts (x0 : List Int) : Option (List Int) :=
(appD 8 ([] : List Int) x0).bind fun v1 => some v1
noncomputable def e_i_copyInts : CallE := ⟨66, [.d false (.list (.int .i64))], [.l (.o true 3 (.int .i64))], fun x => i_copyInts x⟩
noncomputable def c_i_copyInts : Ctx := ⟨Tryz.prog, TT, [], [], [], [], [], []⟩
theorem k_i_copyInts (x : PMs.den e_i_copyInts.ps) : funK c_i_copyInts Tryz.f66 e_i_copyInts.ps e_i_copyInts.rs x = e_i_copyInts.F x := by kernel_rfl
theorem o_i_copyInts {D : Prop} : FnOk Tryz.prog e_i_copyInts.f ∧ Ctr D Tryz.prog e_i_copyInts := mkCtr (C := c_i_copyInts) m_ (trivial) Tryz.func66 (by kernel_rfl) k_i_copyInts
/-! loop.example/g00959/impl.copyPoints -/
noncomputable def i_copyPoints_s3 (x0 : List (List Int)) (v1 : List (List Int) × Int) : Option ((List (List Int) × Int) ⊕ (List (List Int))) :=
 cond (decide (v1.2 < (x0.length : Int)))
 ((idx x0 v1.2).bind fun v2 => (i_copyInts v2).bind fun v3 => (appD 24 v1.1 ([v3] : List (List Int))).bind fun v4 => some (.inl (v4, (IntKind.i64.wrap (v1.2 + (1 : Int))))))
 (some (.inr v1.1))
noncomputable def i_copyPoints (x0 : List (List Int)) : Option (List (List Int)) :=
(iter (i_copyPoints_s3 x0) (([] : List (List Int)), (0 : Int))).bind fun v5 => some v5
noncomputable def e_i_copyPoints : CallE := ⟨27, [.d false (.list (.list (.int .i64)))], [.l (.o true 44 (.list (.int .i64)))], fun x => i_copyPoints x⟩
noncomputable def c_i_copyPoints : Ctx := ⟨Tryz.prog, TT, [e_i_copyInts], [⟨3, [(3, .l (.o true 44 (.list (.int .i64)))), (8, .l (.d false (.int .i64)))], some (0, [(3, .l (.o true 44 (.list (.int .i64))))]), none, false⟩], [], [], [], []⟩
theorem k_i_copyPoints (x : PMs.den e_i_copyPoints.ps) : funK c_i_copyPoints Tryz.f27 e_i_copyPoints.ps e_i_copyPoints.rs x = e_i_copyPoints.F x := by kernel_rfl
theorem o_i_copyPoints {D : Prop} : FnOk Tryz.prog e_i_copyPoints.f ∧ Ctr D Tryz.prog e_i_copyPoints := mkCtr (C := c_i_copyPoints) m_ (⟨o_i_copyInts, trivial⟩) Tryz.func27 (by kernel_rfl) k_i_copyPoints
/-! loop.example/g00959/laws.eqIntS -/
noncomputable def w_eqIntS_s4 (x0 : List Int) (x1 : List Int) (v1 : Int) : Option ((Int) ⊕ ((Unit) ⊕ (Bool))) :=
 cond (decide (v1 < (x0.length : Int)))
 ((idx x0 v1).bind fun v2 => (idx x1 v1).bind fun v3 => cond (v2 != v3)
 (some (.inr (.inr false)))
 (some (.inl (IntKind.i64.wrap (v1 + (1 : Int))))))
 (some (.inr (.inl ())))
noncomputable def w_eqIntS (x0 : List Int) (x1 : List Int) : Option (Bool) :=
 cond ((x0.length : Int) != (x1.length : Int))
 (some false)
 ((iter (w_eqIntS_s4 x0 x1) (0 : Int)).bind fun v4 => match v4 with
 | .inl v5 => (some true)
 | .inr v6 => (some v6))
noncomputable def e_w_eqIntS : CallE := ⟨56, [.d false (.list (.int .i64)), .d false (.list (.int .i64))], [.l (.d false .bool)], fun x => w_eqIntS x.1 x.2⟩
noncomputable def c_w_eqIntS : Ctx := ⟨Tryz.prog, TT, [], [⟨4, [(5, .l (.d false (.int .i64)))], some (0, []), some [(4, .l (.d false .bool))], false⟩], [], [], [], []⟩
theorem k_w_eqIntS (x : PMs.den e_w_eqIntS.ps) : funK c_w_eqIntS Tryz.f56 e_w_eqIntS.ps e_w_eqIntS.rs x = e_w_eqIntS.F x := by kernel_rfl
theorem o_w_eqIntS {D : Prop} : FnOk Tryz.prog e_w_eqIntS.f ∧ Ctr D Tryz.prog e_w_eqIntS := mkCtr (C := c_w_eqIntS) m_ (trivial) Tryz.func56 (by kernel_rfl) k_w_eqIntS
/-! loop.example/g00959/laws.eqIntSS -/
noncomputable def w_eqIntSS_s4 (x0 : List (List Int)) (x1 : List (List Int)) (v1 : Int) : Option ((Int) ⊕ ((Unit) ⊕ (Bool))) :=
 cond (decide (v1 < (x0.length : Int)))
 ((idx x0 v1).bind fun v2 => (idx x1 v1).bind fun v3 => (w_eqIntS v2 v3).bind fun v4 => cond (!v4)
 (some (.inr (.inr false)))
 (some (.inl (IntKind.i64.wrap (v1 + (1 : Int))))))
 (some (.inr (.inl ())))
noncomputable def w_eqIntSS (x0 : List (List Int)) (x1 : List (List Int)) : Option (Bool) :=
 cond ((x0.length : Int) != (x1.length : Int))
 (some false)
 ((iter (w_eqIntSS_s4 x0 x1) (0 : Int)).bind fun v5 => match v5 with
 | .inl v6 => (some true)
 | .inr v7 => (some v7))
noncomputable def e_w_eqIntSS : CallE := ⟨16, [.d false (.list (.list (.int .i64))), .d false (.list (.list (.int .i64)))], [.l (.d false .bool)], fun x => w_eqIntSS x.1 x.2⟩
noncomputable def c_w_eqIntSS : Ctx := ⟨Tryz.prog, TT, [e_w_eqIntS], [⟨4, [(5, .l (.d false (.int .i64)))], some (0, []), some [(4, .l (.d false .bool))], false⟩], [], [], [], []⟩
theorem k_w_eqIntSS (x : PMs.den e_w_eqIntSS.ps) : funK c_w_eqIntSS Tryz.f16 e_w_eqIntSS.ps e_w_eqIntSS.rs x = e_w_eqIntSS.F x := by kernel_rfl
theorem o_w_eqIntSS {D : Prop} : FnOk Tryz.prog e_w_eqIntSS.f ∧ Ctr D Tryz.prog e_w_eqIntSS := mkCtr (C := c_w_eqIntSS) m_ (⟨o_w_eqIntS, trivial⟩) Tryz.func16 (by kernel_rfl) k_w_eqIntSS
/-! loop.example/g00959/laws.szIntS -/
noncomputable def w_szIntS (x0 : List Int) (x1 : Int) : Option (Int) :=
 cond (decide ((IntKind.i64.wrap (x1 - (x0.length : Int))) < (0 : Int)))
 (some (-1 : Int))
 (some (IntKind.i64.wrap (x1 - (x0.length : Int))))
noncomputable def e_w_szIntS : CallE := ⟨30, [.d false (.list (.int .i64)), .d false (.int .i64)], [.l (.d false (.int .i64))], fun x => w_szIntS x.1 x.2⟩
noncomputable def c_w_szIntS : Ctx := ⟨Tryz.prog, TT, [], [], [], [], [], []⟩
theorem k_w_szIntS (x : PMs.den e_w_szIntS.ps) : funK c_w_szIntS Tryz.f30 e_w_szIntS.ps e_w_szIntS.rs x = e_w_szIntS.F x := by kernel_rfl
theorem o_w_szIntS {D : Prop} : FnOk Tryz.prog e_w_szIntS.f ∧ Ctr D Tryz.prog e_w_szIntS := mkCtr (C := c_w_szIntS) m_ (trivial) Tryz.func30 (by kernel_rfl) k_w_szIntS
/-! loop.example/g00959/laws.szIntSS -/
noncomputable def w_szIntSS_s5 (x0 : List (List Int)) (v1 : Int × Int) : Option ((Int × Int) ⊕ ((Int) ⊕ (Int))) :=
 cond (decide (v1.2 < (x0.length : Int)))
 ((idx x0 v1.2).bind fun v2 => (w_szIntS v2 v1.1).bind fun v3 => cond (decide (v3 < (0 : Int)))
 (some (.inr (.inr (-1 : Int))))
 (some (.inl (v3, (IntKind.i64.wrap (v1.2 + (1 : Int)))))))
 (some (.inr (.inl v1.1)))
noncomputable def w_szIntSS (x0 : List (List Int)) (x1 : Int) : Option (Int) :=
 cond (decide ((IntKind.i64.wrap (x1 - (x0.length : Int))) < (0 : Int)))
 (some (-1 : Int))
 ((iter (w_szIntSS_s5 x0) ((IntKind.i64.wrap (x1 - (x0.length : Int))), (0 : Int))).bind fun v4 => match v4 with
 | .inl v5 => (some v5)
 | .inr v6 => (some v6))
noncomputable def e_w_szIntSS : CallE := ⟨12, [.d false (.list (.list (.int .i64))), .d false (.int .i64)], [.l (.d false (.int .i64))], fun x => w_szIntSS x.1 x.2⟩
noncomputable def c_w_szIntSS : Ctx := ⟨Tryz.prog, TT, [e_w_szIntS], [⟨5, [(1, .l (.d false (.int .i64))), (5, .l (.d false (.int .i64)))], some (0, [(1, .l (.d false (.int .i64)))]), some [(4, .l (.d false (.int .i64)))], false⟩], [], [], [], []⟩
theorem k_w_szIntSS (x : PMs.den e_w_szIntSS.ps) : funK c_w_szIntSS Tryz.f12 e_w_szIntSS.ps e_w_szIntSS.rs x = e_w_szIntSS.F x := by kernel_rfl
theorem o_w_szIntSS {D : Prop} : FnOk Tryz.prog e_w_szIntSS.f ∧ Ctr D Tryz.prog e_w_szIntSS := mkCtr (C := c_w_szIntSS) m_ (⟨o_w_szIntS, trivial⟩) Tryz.func12 (by kernel_rfl) k_w_szIntSS
/-! loop.example/g00959/laws.toIntS -/
noncomputable def w_toIntS_s3 (x0 : List Int) (v2 : List Int × Int) : Option ((List Int × Int) ⊕ (List Int)) :=
 cond (decide (v2.2 < (x0.length : Int)))
 ((idx x0 v2.2).bind fun v3 => (inIdx v2.1.length v2.2).bind fun _ => (inIdx v2.1.length ((v2.2).toNat : Int)).bind fun _ => some (.inl ((v2.1.set ((v2.2).toNat) v3), (IntKind.i64.wrap (v2.2 + (1 : Int))))))
 (some (.inr v2.1))
noncomputable def w_toIntS (x0 : List Int) : Option (List Int) :=
(mkD 8 (x0.length : Int) (0 : Int)).bind fun v1 => (iter (w_toIntS_s3 x0) (v1, (0 : Int))).bind fun v4 => some v4
noncomputable def e_w_toIntS : CallE := ⟨43, [.d false (.list (.int .i64))], [.l (.o true 3 (.int .i64))], fun x => w_toIntS x⟩
noncomputable def c_w_toIntS : Ctx := ⟨Tryz.prog, TT, [], [⟨3, [(3, .l (.o true 3 (.int .i64))), (4, .l (.d false (.int .i64)))], some (0, [(3, .l (.o true 3 (.int .i64)))]), none, false⟩], [], [], [], []⟩
theorem k_w_toIntS (x : PMs.den e_w_toIntS.ps) : funK c_w_toIntS Tryz.f43 e_w_toIntS.ps e_w_toIntS.rs x = e_w_toIntS.F x := by kernel_rfl
theorem o_w_toIntS {D : Prop} : FnOk Tryz.prog e_w_toIntS.f ∧ Ctr D Tryz.prog e_w_toIntS := mkCtr (C := c_w_toIntS) m_ (trivial) Tryz.func43 (by kernel_rfl) k_w_toIntS
/-! loop.example/g00959/laws.toIntSS -/
noncomputable def w_toIntSS_s3 (x0 : List (List Int)) (v2 : List (List Int) × Int) : Option ((List (List Int) × Int) ⊕ (List (List Int))) :=
 cond (decide (v2.2 < (x0.length : Int)))
 ((idx x0 v2.2).bind fun v3 => (w_toIntS v3).bind fun v4 => (inIdx v2.1.length v2.2).bind fun _ => (inIdx v2.1.length ((v2.2).toNat : Int)).bind fun _ => some (.inl ((v2.1.set ((v2.2).toNat) v4), (IntKind.i64.wrap (v2.2 + (1 : Int))))))
 (some (.inr v2.1))
noncomputable def w_toIntSS (x0 : List (List Int)) : Option (List (List Int)) :=
(mkD 24 (x0.length : Int) ([] : List Int)).bind fun v1 => (iter (w_toIntSS_s3 x0) (v1, (0 : Int))).bind fun v5 => some v5
noncomputable def e_w_toIntSS : CallE := ⟨14, [.d false (.list (.list (.int .i64)))], [.l (.o true 44 (.list (.int .i64)))], fun x => w_toIntSS x⟩
noncomputable def c_w_toIntSS : Ctx := ⟨Tryz.prog, TT, [e_w_toIntS], [⟨3, [(3, .l (.o true 44 (.list (.int .i64)))), (4, .l (.d false (.int .i64)))], some (0, [(3, .l (.o true 44 (.list (.int .i64))))]), none, false⟩], [], [], [], []⟩
theorem k_w_toIntSS (x : PMs.den e_w_toIntSS.ps) : funK c_w_toIntSS Tryz.f14 e_w_toIntSS.ps e_w_toIntSS.rs x = e_w_toIntSS.F x := by kernel_rfl
theorem o_w_toIntSS {D : Prop} : FnOk Tryz.prog e_w_toIntSS.f ∧ Ctr D Tryz.prog e_w_toIntSS := mkCtr (C := c_w_toIntSS) m_ (⟨o_w_toIntS, trivial⟩) Tryz.func14 (by kernel_rfl) k_w_toIntSS
/-! loop.example/g00959/spec.l7Area -/
noncomputable def s_l7Area_s3 (x0 : List (List Int)) (v1 : Int × Int) : Option ((Int × Int) ⊕ (Int)) :=
 cond (decide (v1.2 < (x0.length : Int)))
 ((idx x0 v1.2).bind fun v2 => (remI .i64 (IntKind.i64.wrap (v1.2 + (1 : Int))) (x0.length : Int)).bind fun v3 => (idx x0 v3).bind fun v4 => (s_l7Cross v2 v4).bind fun v5 => some (.inl ((IntKind.i64.wrap (v1.1 + v5)), (IntKind.i64.wrap (v1.2 + (1 : Int))))))
 (some (.inr v1.1))
noncomputable def s_l7Area (x0 : List (List Int)) : Option (Int) :=
(iter (s_l7Area_s3 x0) ((0 : Int), (0 : Int))).bind fun v6 => some v6
noncomputable def e_s_l7Area : CallE := ⟨73, [.d false (.list (.list (.int .i64)))], [.l (.d false (.int .i64))], fun x => s_l7Area x⟩
noncomputable def c_s_l7Area : Ctx := ⟨Tryz.prog, TT, [e_s_l7Cross], [⟨3, [(3, .l (.d false (.int .i64))), (4, .l (.d false (.int .i64)))], some (0, [(3, .l (.d false (.int .i64)))]), none, false⟩], [], [], [], []⟩
theorem k_s_l7Area (x : PMs.den e_s_l7Area.ps) : funK c_s_l7Area Tryz.f73 e_s_l7Area.ps e_s_l7Area.rs x = e_s_l7Area.F x := by kernel_rfl
theorem o_s_l7Area {D : Prop} : FnOk Tryz.prog e_s_l7Area.f ∧ Ctr D Tryz.prog e_s_l7Area := mkCtr (C := c_s_l7Area) m_ (⟨o_s_l7Cross, trivial⟩) Tryz.func73 (by kernel_rfl) k_s_l7Area
/-! loop.example/g00959/spec.AreaTwice -/
noncomputable def s_AreaTwice (x0 : List (List Int)) : Option (Int) :=
(s_IsPolygon x0).bind fun v1 => cond (!v1)
 (some (-1 : Int))
 ((s_l7Area x0).bind fun v2 => some v2)
noncomputable def e_s_AreaTwice : CallE := ⟨33, [.d false (.list (.list (.int .i64)))], [.l (.d false (.int .i64))], fun x => s_AreaTwice x⟩
noncomputable def c_s_AreaTwice : Ctx := ⟨Tryz.prog, TT, [e_s_IsPolygon, e_s_l7Area], [], [], [], [], []⟩
theorem k_s_AreaTwice (x : PMs.den e_s_AreaTwice.ps) : funK c_s_AreaTwice Tryz.f33 e_s_AreaTwice.ps e_s_AreaTwice.rs x = e_s_AreaTwice.F x := by kernel_rfl
theorem o_s_AreaTwice {D : Prop} : FnOk Tryz.prog e_s_AreaTwice.f ∧ Ctr D Tryz.prog e_s_AreaTwice := mkCtr (C := c_s_AreaTwice) m_ (⟨o_s_IsPolygon, o_s_l7Area, trivial⟩) Tryz.func33 (by kernel_rfl) k_s_AreaTwice
/-! loop.example/g00959/spec.l1Max -/
noncomputable def s_l1Max (x0 : Int) (x1 : Int) : Option (Int) :=
 cond (decide (x0 > x1))
 (some x0)
 (some x1)
noncomputable def e_s_l1Max : CallE := ⟨145, [.d false (.int .i64), .d false (.int .i64)], [.l (.d false (.int .i64))], fun x => s_l1Max x.1 x.2⟩
noncomputable def c_s_l1Max : Ctx := ⟨Tryz.prog, TT, [], [], [], [], [], []⟩
theorem k_s_l1Max (x : PMs.den e_s_l1Max.ps) : funK c_s_l1Max Tryz.f145 e_s_l1Max.ps e_s_l1Max.rs x = e_s_l1Max.F x := by kernel_rfl
theorem o_s_l1Max {D : Prop} : FnOk Tryz.prog e_s_l1Max.f ∧ Ctr D Tryz.prog e_s_l1Max := mkCtr (C := c_s_l1Max) m_ (trivial) Tryz.func145 (by kernel_rfl) k_s_l1Max
/-! loop.example/g00959/spec.l1Abs -/
noncomputable def s_l1Abs (x0 : Int) : Option (Int) :=
(s_l1Max x0 (IntKind.i64.wrap (0 - x0))).bind fun v1 => some v1
noncomputable def e_s_l1Abs : CallE := ⟨162, [.d false (.int .i64)], [.l (.d false (.int .i64))], fun x => s_l1Abs x⟩
noncomputable def c_s_l1Abs : Ctx := ⟨Tryz.prog, TT, [e_s_l1Max], [], [], [], [], []⟩
theorem k_s_l1Abs (x : PMs.den e_s_l1Abs.ps) : funK c_s_l1Abs Tryz.f162 e_s_l1Abs.ps e_s_l1Abs.rs x = e_s_l1Abs.F x := by kernel_rfl
theorem o_s_l1Abs {D : Prop} : FnOk Tryz.prog e_s_l1Abs.f ∧ Ctr D Tryz.prog e_s_l1Abs := mkCtr (C := c_s_l1Abs) m_ (⟨o_s_l1Max, trivial⟩) Tryz.func162 (by kernel_rfl) k_s_l1Abs
/-! loop.example/g00959/spec.l2Gcd -/
noncomputable def s_l2Gcd_s3 (v3 : Int × Int) : Option ((Int × Int) ⊕ (Int)) :=
 cond (v3.2 != (0 : Int))
 ((remI .i64 v3.1 v3.2).bind fun v4 => some (.inl (v3.2, v4)))
 (some (.inr v3.1))
noncomputable def s_l2Gcd (x0 : Int) (x1 : Int) : Option (Int) :=
(s_l1Abs x0).bind fun v1 => (s_l1Abs x1).bind fun v2 => (iter (s_l2Gcd_s3) (v1, v2)).bind fun v5 => some v5
noncomputable def e_s_l2Gcd : CallE := ⟨143, [.d false (.int .i64), .d false (.int .i64)], [.l (.d false (.int .i64))], fun x => s_l2Gcd x.1 x.2⟩
noncomputable def c_s_l2Gcd : Ctx := ⟨Tryz.prog, TT, [e_s_l1Abs], [⟨3, [(0, .l (.d false (.int .i64))), (1, .l (.d false (.int .i64)))], some (0, [(0, .l (.d false (.int .i64)))]), none, false⟩], [], [], [], []⟩
theorem k_s_l2Gcd (x : PMs.den e_s_l2Gcd.ps) : funK c_s_l2Gcd Tryz.f143 e_s_l2Gcd.ps e_s_l2Gcd.rs x = e_s_l2Gcd.F x := by kernel_rfl
theorem o_s_l2Gcd {D : Prop} : FnOk Tryz.prog e_s_l2Gcd.f ∧ Ctr D Tryz.prog e_s_l2Gcd := mkCtr (C := c_s_l2Gcd) m_ (⟨o_s_l1Abs, trivial⟩) Tryz.func143 (by kernel_rfl) k_s_l2Gcd
/-! loop.example/g00959/spec.l2All -/
noncomputable def s_l2All_s3 (x0 : List Int) (v1 : Int × Int) : Option ((Int × Int) ⊕ (Int)) :=
 cond (decide (v1.2 < (x0.length : Int)))
 ((idx x0 v1.2).bind fun v2 => (s_l2Gcd v1.1 v2).bind fun v3 => some (.inl (v3, (IntKind.i64.wrap (v1.2 + (1 : Int))))))
 (some (.inr v1.1))
noncomputable def s_l2All (x0 : List Int) : Option (Int) :=
(iter (s_l2All_s3 x0) ((0 : Int), (0 : Int))).bind fun v4 => some v4
noncomputable def e_s_l2All : CallE := ⟨115, [.d false (.list (.int .i64))], [.l (.d false (.int .i64))], fun x => s_l2All x⟩
noncomputable def c_s_l2All : Ctx := ⟨Tryz.prog, TT, [e_s_l2Gcd], [⟨3, [(3, .l (.d false (.int .i64))), (4, .l (.d false (.int .i64)))], some (0, [(3, .l (.d false (.int .i64)))]), none, false⟩], [], [], [], []⟩
theorem k_s_l2All (x : PMs.den e_s_l2All.ps) : funK c_s_l2All Tryz.f115 e_s_l2All.ps e_s_l2All.rs x = e_s_l2All.F x := by kernel_rfl
theorem o_s_l2All {D : Prop} : FnOk Tryz.prog e_s_l2All.f ∧ Ctr D Tryz.prog e_s_l2All := mkCtr (C := c_s_l2All) m_ (⟨o_s_l2Gcd, trivial⟩) Tryz.func115 (by kernel_rfl) k_s_l2All
/-! loop.example/g00959/spec.l7Side -/
noncomputable def s_l7Side (x0 : List (List Int)) (x1 : Int) : Option (Int) :=
(remI .i64 (IntKind.i64.wrap (x1 + (1 : Int))) (x0.length : Int)).bind fun v1 => (idx x0 v1).bind fun v2 => (idx x0 x1).bind fun v3 => (s_l2Less v2 v3).bind fun v4 => (s_l2All v4).bind fun v5 => some v5
noncomputable def e_s_l7Side : CallE := ⟨74, [.d false (.list (.list (.int .i64))), .d false (.int .i64)], [.l (.d false (.int .i64))], fun x => s_l7Side x.1 x.2⟩
noncomputable def c_s_l7Side : Ctx := ⟨Tryz.prog, TT, [e_s_l2Less, e_s_l2All], [], [], [], [], []⟩
theorem k_s_l7Side (x : PMs.den e_s_l7Side.ps) : funK c_s_l7Side Tryz.f74 e_s_l7Side.ps e_s_l7Side.rs x = e_s_l7Side.F x := by kernel_rfl
theorem o_s_l7Side {D : Prop} : FnOk Tryz.prog e_s_l7Side.f ∧ Ctr D Tryz.prog e_s_l7Side := mkCtr (C := c_s_l7Side) m_ (⟨o_s_l2Less, o_s_l2All, trivial⟩) Tryz.func74 (by kernel_rfl) k_s_l7Side
/-! loop.example/g00959/spec.BoundaryCount -/
noncomputable def s_BoundaryCount_s5 (x0 : List (List Int)) (v2 : Int × Int) : Option ((Int × Int) ⊕ (Int)) :=
 cond (decide (v2.2 < (x0.length : Int)))
 ((s_l7Side x0 v2.2).bind fun v3 => some (.inl ((IntKind.i64.wrap (v2.1 + v3)), (IntKind.i64.wrap (v2.2 + (1 : Int))))))
 (some (.inr v2.1))
noncomputable def s_BoundaryCount (x0 : List (List Int)) : Option (Int) :=
(s_IsPolygon x0).bind fun v1 => cond (!v1)
 (some (-1 : Int))
 ((iter (s_BoundaryCount_s5 x0) ((0 : Int), (0 : Int))).bind fun v4 => some v4)
noncomputable def e_s_BoundaryCount : CallE := ⟨34, [.d false (.list (.list (.int .i64)))], [.l (.d false (.int .i64))], fun x => s_BoundaryCount x⟩
noncomputable def c_s_BoundaryCount : Ctx := ⟨Tryz.prog, TT, [e_s_IsPolygon, e_s_l7Side], [⟨5, [(3, .l (.d false (.int .i64))), (4, .l (.d false (.int .i64)))], some (0, [(3, .l (.d false (.int .i64)))]), none, false⟩], [], [], [], []⟩
theorem k_s_BoundaryCount (x : PMs.den e_s_BoundaryCount.ps) : funK c_s_BoundaryCount Tryz.f34 e_s_BoundaryCount.ps e_s_BoundaryCount.rs x = e_s_BoundaryCount.F x := by kernel_rfl
theorem o_s_BoundaryCount {D : Prop} : FnOk Tryz.prog e_s_BoundaryCount.f ∧ Ctr D Tryz.prog e_s_BoundaryCount := mkCtr (C := c_s_BoundaryCount) m_ (⟨o_s_IsPolygon, o_s_l7Side, trivial⟩) Tryz.func34 (by kernel_rfl) k_s_BoundaryCount
/-! loop.example/g00959/spec.InnerCount -/
noncomputable def s_InnerCount (x0 : List (List Int)) : Option (Int) :=
(s_IsPolygon x0).bind fun v1 => cond (!v1)
 (some (-1 : Int))
 ((s_l7Area x0).bind fun v2 => (s_BoundaryCount x0).bind fun v3 => (quoI .i64 (IntKind.i64.wrap ((IntKind.i64.wrap (v2 - v3)) + (2 : Int))) (2 : Int)).bind fun v4 => some v4)
noncomputable def e_s_InnerCount : CallE := ⟨35, [.d false (.list (.list (.int .i64)))], [.l (.d false (.int .i64))], fun x => s_InnerCount x⟩
noncomputable def c_s_InnerCount : Ctx := ⟨Tryz.prog, TT, [e_s_IsPolygon, e_s_l7Area, e_s_BoundaryCount], [], [], [], [], []⟩
theorem k_s_InnerCount (x : PMs.den e_s_InnerCount.ps) : funK c_s_InnerCount Tryz.f35 e_s_InnerCount.ps e_s_InnerCount.rs x = e_s_InnerCount.F x := by kernel_rfl
theorem o_s_InnerCount {D : Prop} : FnOk Tryz.prog e_s_InnerCount.f ∧ Ctr D Tryz.prog e_s_InnerCount := mkCtr (C := c_s_InnerCount) m_ (⟨o_s_IsPolygon, o_s_l7Area, o_s_BoundaryCount, trivial⟩) Tryz.func35 (by kernel_rfl) k_s_InnerCount
/-! loop.example/g00959/spec.EhrhartAt -/
noncomputable def s_EhrhartAt (x0 : List (List Int)) (x1 : Int) : Option (Int) :=
(s_IsPolygon x0).bind fun v1 => cond (!v1)
 (some (-1 : Int))
 ((s_l1In x1 (-1000 : Int) (1000 : Int)).bind fun v2 => cond (!v2)
 (some (-1 : Int))
 ((s_BoundaryCount x0).bind fun v3 => (s_l7Area x0).bind fun v4 => (quoI .i64 (IntKind.i64.wrap ((IntKind.i64.wrap ((2 : Int) + (IntKind.i64.wrap (v3 * x1)))) + (IntKind.i64.wrap ((IntKind.i64.wrap (v4 * x1)) * x1)))) (2 : Int)).bind fun v5 => some v5))
noncomputable def e_s_EhrhartAt : CallE := ⟨36, [.d false (.list (.list (.int .i64))), .d false (.int .i64)], [.l (.d false (.int .i64))], fun x => s_EhrhartAt x.1 x.2⟩
noncomputable def c_s_EhrhartAt : Ctx := ⟨Tryz.prog, TT, [e_s_IsPolygon, e_s_l1In, e_s_BoundaryCount, e_s_l7Area], [], [], [], [], []⟩
theorem k_s_EhrhartAt (x : PMs.den e_s_EhrhartAt.ps) : funK c_s_EhrhartAt Tryz.f36 e_s_EhrhartAt.ps e_s_EhrhartAt.rs x = e_s_EhrhartAt.F x := by kernel_rfl
theorem o_s_EhrhartAt {D : Prop} : FnOk Tryz.prog e_s_EhrhartAt.f ∧ Ctr D Tryz.prog e_s_EhrhartAt := mkCtr (C := c_s_EhrhartAt) m_ (⟨o_s_IsPolygon, o_s_l1In, o_s_BoundaryCount, o_s_l7Area, trivial⟩) Tryz.func36 (by kernel_rfl) k_s_EhrhartAt
/-! loop.example/g00959/spec.SeriesTop -/
noncomputable def s_SeriesTop (x0 : List (List Int)) : Option (List Int) :=
(s_IsPolygon x0).bind fun v1 => cond (!v1)
 (some ([] : List Int))
 ((s_EhrhartAt x0 (1 : Int)).bind fun v2 => (s_InnerCount x0).bind fun v3 => some ([(1 : Int), (IntKind.i64.wrap (v2 - (3 : Int))), v3] : List Int))
noncomputable def e_s_SeriesTop : CallE := ⟨38, [.d false (.list (.list (.int .i64)))], [.l (.o true 3 (.int .i64))], fun x => s_SeriesTop x⟩
noncomputable def c_s_SeriesTop : Ctx := ⟨Tryz.prog, TT, [e_s_IsPolygon, e_s_EhrhartAt, e_s_InnerCount], [], [], [], [], []⟩
theorem k_s_SeriesTop (x : PMs.den e_s_SeriesTop.ps) : funK c_s_SeriesTop Tryz.f38 e_s_SeriesTop.ps e_s_SeriesTop.rs x = e_s_SeriesTop.F x := by kernel_rfl
theorem o_s_SeriesTop {D : Prop} : FnOk Tryz.prog e_s_SeriesTop.f ∧ Ctr D Tryz.prog e_s_SeriesTop := mkCtr (C := c_s_SeriesTop) m_ (⟨o_s_IsPolygon, o_s_EhrhartAt, o_s_InnerCount, trivial⟩) Tryz.func38 (by kernel_rfl) k_s_SeriesTop
/-! loop.example/g00959/spec.Join -/
noncomputable def s_Join_s3 (x0 : List ByteArray) (x1 : ByteArray) (v1 : List Int × Int) : Option ((List Int × Int) ⊕ (List Int)) :=
 cond (decide (v1.2 < (x0.length : Int)))
 (cond (decide (v1.2 > (0 : Int)))
 ((appD 1 v1.1 (bytesI x1)).bind fun v2 => (idx x0 v1.2).bind fun v3 => (appD 1 v2 (bytesI v3)).bind fun v4 => some (.inl (v4, (IntKind.i64.wrap (v1.2 + (1 : Int))))))
 ((idx x0 v1.2).bind fun v5 => (appD 1 v1.1 (bytesI v5)).bind fun v6 => some (.inl (v6, (IntKind.i64.wrap (v1.2 + (1 : Int)))))))
 (some (.inr v1.1))
noncomputable def s_Join (x0 : List ByteArray) (x1 : ByteArray) : Option (ByteArray) :=
(iter (s_Join_s3 x0 x1) (([] : List Int), (0 : Int))).bind fun v7 => some (strI v7)
noncomputable def e_s_Join : CallE := ⟨75, [.d false (.list .str), .d false .str], [.l (.d false .str)], fun x => s_Join x.1 x.2⟩
noncomputable def c_s_Join : Ctx := ⟨Tryz.prog, TT, [], [⟨3, [(5, .l (.o true 5 (.int .u8))), (6, .l (.d false (.int .i64)))], some (0, [(5, .l (.o true 5 (.int .u8)))]), none, false⟩], [], [], [], []⟩
theorem k_s_Join (x : PMs.den e_s_Join.ps) : funK c_s_Join Tryz.f75 e_s_Join.ps e_s_Join.rs x = e_s_Join.F x := by kernel_rfl
theorem o_s_Join {D : Prop} : FnOk Tryz.prog e_s_Join.f ∧ Ctr D Tryz.prog e_s_Join := mkCtr (C := c_s_Join) m_ (trivial) Tryz.func75 (by kernel_rfl) k_s_Join
/-! loop.example/g00959/spec.l2Text -/
noncomputable def s_l2Text_s3 (x0 : List Int) (v1 : List ByteArray × Int) : Option ((List ByteArray × Int) ⊕ (List ByteArray)) :=
 cond (decide (v1.2 < (x0.length : Int)))
 ((idx x0 v1.2).bind fun v2 => (s_FormatInt v2).bind fun v3 => (appD 16 v1.1 ([v3] : List ByteArray)).bind fun v4 => some (.inl (v4, (IntKind.i64.wrap (v1.2 + (1 : Int))))))
 (some (.inr v1.1))
noncomputable def s_l2Text (x0 : List Int) : Option (ByteArray) :=
(iter (s_l2Text_s3 x0) (([] : List ByteArray), (0 : Int))).bind fun v5 => (s_Join v5 (⟨#[44]⟩ : ByteArray)).bind fun v6 => some v6
noncomputable def e_s_l2Text : CallE := ⟨37, [.d false (.list (.int .i64))], [.l (.d false .str)], fun x => s_l2Text x⟩
noncomputable def c_s_l2Text : Ctx := ⟨Tryz.prog, TT, [e_s_FormatInt, e_s_Join], [⟨3, [(3, .l (.o true 9 .str)), (4, .l (.d false (.int .i64)))], some (0, [(3, .l (.o true 9 .str))]), none, false⟩], [], [], [], []⟩
theorem k_s_l2Text (x : PMs.den e_s_l2Text.ps) : funK c_s_l2Text Tryz.f37 e_s_l2Text.ps e_s_l2Text.rs x = e_s_l2Text.F x := by kernel_rfl
theorem o_s_l2Text {D : Prop} : FnOk Tryz.prog e_s_l2Text.f ∧ Ctr D Tryz.prog e_s_l2Text := mkCtr (C := c_s_l2Text) m_ (⟨o_s_FormatInt, o_s_Join, trivial⟩) Tryz.func37 (by kernel_rfl) k_s_l2Text
/-! loop.example/g00959/spec.l5All -/
noncomputable def s_l5All_s10 (x2 : Int) (v1 : List (List Int) × Int) (v2 : List (List Int) × Int) (v3 : List (List Int) × Int) : Option ((List (List Int) × Int) ⊕ (List (List Int))) :=
 cond (decide (v3.2 ≤ x2))
 ((idx v1.1 v2.2).bind fun v4 => (appD 8 ([] : List Int) v4).bind fun v5 => (appD 8 v5 ([v3.2] : List Int)).bind fun v6 => (appD 24 v3.1 ([v6] : List (List Int))).bind fun v7 => some (.inl (v7, (IntKind.i64.wrap (v3.2 + (1 : Int))))))
 (some (.inr v3.1))
noncomputable def s_l5All_s7 (x1 : Int) (x2 : Int) (v1 : List (List Int) × Int) (v2 : List (List Int) × Int) : Option ((List (List Int) × Int) ⊕ (List (List Int))) :=
 cond (decide (v2.2 < (v1.1.length : Int)))
 ((iter (s_l5All_s10 x2 v1 v2) (v2.1, x1)).bind fun v8 => some (.inl (v8, (IntKind.i64.wrap (v2.2 + (1 : Int))))))
 (some (.inr v2.1))
noncomputable def s_l5All_s3 (x0 : Int) (x1 : Int) (x2 : Int) (v1 : List (List Int) × Int) : Option ((List (List Int) × Int) ⊕ (List (List Int))) :=
 cond (decide (v1.2 < x0))
 ((iter (s_l5All_s7 x1 x2 v1) (([] : List (List Int)), (0 : Int))).bind fun v9 => some (.inl (v9, (IntKind.i64.wrap (v1.2 + (1 : Int))))))
 (some (.inr v1.1))
noncomputable def s_l5All (x0 : Int) (x1 : Int) (x2 : Int) : Option (List (List Int)) :=
(iter (s_l5All_s3 x0 x1 x2) (([([] : List Int)] : List (List Int)), (0 : Int))).bind fun v10 => some v10
noncomputable def e_s_l5All : CallE := ⟨116, [.d false (.int .i64), .d false (.int .i64), .d false (.int .i64)], [.l (.o true 44 (.list (.int .i64)))], fun x => s_l5All x.1 x.2.1 x.2.2⟩
noncomputable def c_s_l5All : Ctx := ⟨Tryz.prog, TT, [], [⟨3, [(7, .l (.o true 44 (.list (.int .i64)))), (8, .l (.d false (.int .i64)))], some (0, [(7, .l (.o true 44 (.list (.int .i64))))]), none, false⟩, ⟨7, [(9, .l (.o true 44 (.list (.int .i64)))), (10, .l (.d false (.int .i64)))], some (2, [(9, .l (.o true 44 (.list (.int .i64))))]), none, false⟩, ⟨10, [(9, .l (.o true 44 (.list (.int .i64)))), (11, .l (.d false (.int .i64)))], some (4, [(9, .l (.o true 44 (.list (.int .i64))))]), none, false⟩], [], [], [], []⟩
theorem k_s_l5All (x : PMs.den e_s_l5All.ps) : funK c_s_l5All Tryz.f116 e_s_l5All.ps e_s_l5All.rs x = e_s_l5All.F x := by kernel_rfl
theorem o_s_l5All {D : Prop} : FnOk Tryz.prog e_s_l5All.f ∧ Ctr D Tryz.prog e_s_l5All := mkCtr (C := c_s_l5All) m_ (trivial) Tryz.func116 (by kernel_rfl) k_s_l5All
/-! loop.example/g00959/spec.l2Dot -/
noncomputable def s_l2Dot_s3 (x0 : List Int) (x1 : List Int) (v1 : Int × Int) : Option ((Int × Int) ⊕ (Int)) :=
 cond (decide (v1.2 < (x0.length : Int)))
 (cond (decide (v1.2 < (x1.length : Int)))
 ((idx x0 v1.2).bind fun v2 => (idx x1 v1.2).bind fun v3 => some (.inl ((IntKind.i64.wrap (v1.1 + (IntKind.i64.wrap (v2 * v3)))), (IntKind.i64.wrap (v1.2 + (1 : Int))))))
 (some (.inr v1.1)))
 (some (.inr v1.1))
noncomputable def s_l2Dot (x0 : List Int) (x1 : List Int) : Option (Int) :=
(iter (s_l2Dot_s3 x0 x1) ((0 : Int), (0 : Int))).bind fun v4 => some v4
noncomputable def e_s_l2Dot : CallE := ⟨144, [.d false (.list (.int .i64)), .d false (.list (.int .i64))], [.l (.d false (.int .i64))], fun x => s_l2Dot x.1 x.2⟩
noncomputable def c_s_l2Dot : Ctx := ⟨Tryz.prog, TT, [], [⟨3, [(5, .l (.d false (.int .i64))), (6, .l (.d false (.int .i64)))], some (0, [(5, .l (.d false (.int .i64)))]), none, false⟩], [], [], [], []⟩
theorem k_s_l2Dot (x : PMs.den e_s_l2Dot.ps) : funK c_s_l2Dot Tryz.f144 e_s_l2Dot.ps e_s_l2Dot.rs x = e_s_l2Dot.F x := by kernel_rfl
theorem o_s_l2Dot {D : Prop} : FnOk Tryz.prog e_s_l2Dot.f ∧ Ctr D Tryz.prog e_s_l2Dot := mkCtr (C := c_s_l2Dot) m_ (trivial) Tryz.func144 (by kernel_rfl) k_s_l2Dot
/-! loop.example/g00959/spec.l1Min -/
noncomputable def s_l1Min (x0 : Int) (x1 : Int) : Option (Int) :=
 cond (decide (x0 < x1))
 (some x0)
 (some x1)
noncomputable def e_s_l1Min : CallE := ⟨146, [.d false (.int .i64), .d false (.int .i64)], [.l (.d false (.int .i64))], fun x => s_l1Min x.1 x.2⟩
noncomputable def c_s_l1Min : Ctx := ⟨Tryz.prog, TT, [], [], [], [], [], []⟩
theorem k_s_l1Min (x : PMs.den e_s_l1Min.ps) : funK c_s_l1Min Tryz.f146 e_s_l1Min.ps e_s_l1Min.rs x = e_s_l1Min.F x := by kernel_rfl
theorem o_s_l1Min {D : Prop} : FnOk Tryz.prog e_s_l1Min.f ∧ Ctr D Tryz.prog e_s_l1Min := mkCtr (C := c_s_l1Min) m_ (trivial) Tryz.func146 (by kernel_rfl) k_s_l1Min
/-! loop.example/g00959/spec.l25Range -/
noncomputable def s_l25Range_s4 (x0 : List (List Int)) (x1 : List Int) (v3 : Int × Int × Int) : Option ((Int × Int × Int) ⊕ (Int × Int)) :=
 cond (decide (v3.2.2 < (x0.length : Int)))
 ((idx x0 v3.2.2).bind fun v4 => (s_l2Dot x1 v4).bind fun v5 => (s_l1Max v3.1 v5).bind fun v6 => (s_l1Min v3.2.1 v5).bind fun v7 => some (.inl (v6, (v7, (IntKind.i64.wrap (v3.2.2 + (1 : Int)))))))
 (some (.inr (v3.1, v3.2.1)))
noncomputable def s_l25Range (x0 : List (List Int)) (x1 : List Int) : Option (Int × Int) :=
(idx x0 (0 : Int)).bind fun v1 => (s_l2Dot x1 v1).bind fun v2 => (iter (s_l25Range_s4 x0 x1) (v2, (v2, (1 : Int)))).bind fun v8 => some (v8.1, v8.2)
noncomputable def e_s_l25Range : CallE := ⟨117, [.d false (.list (.list (.int .i64))), .d false (.list (.int .i64))], [.l (.d false (.int .i64)), .l (.d false (.int .i64))], fun x => s_l25Range x.1 x.2⟩
noncomputable def c_s_l25Range : Ctx := ⟨Tryz.prog, TT, [e_s_l2Dot, e_s_l1Max, e_s_l1Min], [⟨4, [(6, .l (.d false (.int .i64))), (7, .l (.d false (.int .i64))), (8, .l (.d false (.int .i64)))], some (0, [(6, .l (.d false (.int .i64))), (7, .l (.d false (.int .i64)))]), none, false⟩], [], [], [], []⟩
theorem k_s_l25Range (x : PMs.den e_s_l25Range.ps) : funK c_s_l25Range Tryz.f117 e_s_l25Range.ps e_s_l25Range.rs x = e_s_l25Range.F x := by kernel_rfl
theorem o_s_l25Range {D : Prop} : FnOk Tryz.prog e_s_l25Range.f ∧ Ctr D Tryz.prog e_s_l25Range := mkCtr (C := c_s_l25Range) m_ (⟨o_s_l2Dot, o_s_l1Max, o_s_l1Min, trivial⟩) Tryz.func117 (by kernel_rfl) k_s_l25Range
/-! loop.example/g00959/spec.l25Best -/
noncomputable def s_l25Best_s5 (x0 : List (List Int)) (v1 : List (List Int)) (v2 : Int × List (List Int) × Int) : Option ((Int × List (List Int) × Int) ⊕ (Int × List (List Int))) :=
 cond (decide (v2.2.2 < (v1.length : Int)))
 ((idx v1 v2.2.2).bind fun v3 => (idx v3 (0 : Int)).bind fun v4 => cond (decide (v4 < (0 : Int)))
 (some (.inl (v2.1, (v2.2.1, (IntKind.i64.wrap (v2.2.2 + (1 : Int)))))))
 ((idx v3 (0 : Int)).bind fun v5 => cond (v5 == (0 : Int))
 ((idx v3 (1 : Int)).bind fun v6 => cond (decide (v6 ≤ (0 : Int)))
 (some (.inl (v2.1, (v2.2.1, (IntKind.i64.wrap (v2.2.2 + (1 : Int)))))))
 ((s_l25Range x0 v3).bind fun v7 => cond (decide (v2.1 < (0 : Int)))
 (cond ((IntKind.i64.wrap (v7.1 - v7.2)) == (IntKind.i64.wrap (v7.1 - v7.2)))
 ((appD 24 ([] : List (List Int)) ([v3] : List (List Int))).bind fun v8 => some (.inl ((IntKind.i64.wrap (v7.1 - v7.2)), (v8, (IntKind.i64.wrap (v2.2.2 + (1 : Int)))))))
 (some (.inl ((IntKind.i64.wrap (v7.1 - v7.2)), (([] : List (List Int)), (IntKind.i64.wrap (v2.2.2 + (1 : Int))))))))
 (cond (decide ((IntKind.i64.wrap (v7.1 - v7.2)) < v2.1))
 (cond ((IntKind.i64.wrap (v7.1 - v7.2)) == (IntKind.i64.wrap (v7.1 - v7.2)))
 ((appD 24 ([] : List (List Int)) ([v3] : List (List Int))).bind fun v9 => some (.inl ((IntKind.i64.wrap (v7.1 - v7.2)), (v9, (IntKind.i64.wrap (v2.2.2 + (1 : Int)))))))
 (some (.inl ((IntKind.i64.wrap (v7.1 - v7.2)), (([] : List (List Int)), (IntKind.i64.wrap (v2.2.2 + (1 : Int))))))))
 (cond ((IntKind.i64.wrap (v7.1 - v7.2)) == v2.1)
 ((appD 24 v2.2.1 ([v3] : List (List Int))).bind fun v10 => some (.inl (v2.1, (v10, (IntKind.i64.wrap (v2.2.2 + (1 : Int)))))))
 (some (.inl (v2.1, (v2.2.1, (IntKind.i64.wrap (v2.2.2 + (1 : Int)))))))))))
 ((s_l25Range x0 v3).bind fun v11 => cond (decide (v2.1 < (0 : Int)))
 (cond ((IntKind.i64.wrap (v11.1 - v11.2)) == (IntKind.i64.wrap (v11.1 - v11.2)))
 ((appD 24 ([] : List (List Int)) ([v3] : List (List Int))).bind fun v12 => some (.inl ((IntKind.i64.wrap (v11.1 - v11.2)), (v12, (IntKind.i64.wrap (v2.2.2 + (1 : Int)))))))
 (some (.inl ((IntKind.i64.wrap (v11.1 - v11.2)), (([] : List (List Int)), (IntKind.i64.wrap (v2.2.2 + (1 : Int))))))))
 (cond (decide ((IntKind.i64.wrap (v11.1 - v11.2)) < v2.1))
 (cond ((IntKind.i64.wrap (v11.1 - v11.2)) == (IntKind.i64.wrap (v11.1 - v11.2)))
 ((appD 24 ([] : List (List Int)) ([v3] : List (List Int))).bind fun v13 => some (.inl ((IntKind.i64.wrap (v11.1 - v11.2)), (v13, (IntKind.i64.wrap (v2.2.2 + (1 : Int)))))))
 (some (.inl ((IntKind.i64.wrap (v11.1 - v11.2)), (([] : List (List Int)), (IntKind.i64.wrap (v2.2.2 + (1 : Int))))))))
 (cond ((IntKind.i64.wrap (v11.1 - v11.2)) == v2.1)
 ((appD 24 v2.2.1 ([v3] : List (List Int))).bind fun v14 => some (.inl (v2.1, (v14, (IntKind.i64.wrap (v2.2.2 + (1 : Int)))))))
 (some (.inl (v2.1, (v2.2.1, (IntKind.i64.wrap (v2.2.2 + (1 : Int))))))))))))
 (some (.inr (v2.1, v2.2.1)))
noncomputable def s_l25Best (x0 : List (List Int)) : Option (Int × List (List Int)) :=
(s_l5All (2 : Int) (-12 : Int) (12 : Int)).bind fun v1 => (iter (s_l25Best_s5 x0 v1) ((-1 : Int), (([] : List (List Int)), (0 : Int)))).bind fun v15 => some (v15.1, v15.2)
noncomputable def e_s_l25Best : CallE := ⟨76, [.d false (.list (.list (.int .i64)))], [.l (.d false (.int .i64)), .l (.o false 44 (.list (.int .i64)))], fun x => s_l25Best x⟩
noncomputable def c_s_l25Best : Ctx := ⟨Tryz.prog, TT, [e_s_l5All, e_s_l25Range], [⟨5, [(4, .l (.d false (.int .i64))), (5, .l (.o false 44 (.list (.int .i64)))), (7, .l (.d false (.int .i64)))], some (0, [(4, .l (.d false (.int .i64))), (5, .l (.o false 44 (.list (.int .i64))))]), none, false⟩], [], [], [], []⟩
theorem k_s_l25Best (x : PMs.den e_s_l25Best.ps) : funK c_s_l25Best Tryz.f76 e_s_l25Best.ps e_s_l25Best.rs x = e_s_l25Best.F x := by kernel_rfl
theorem o_s_l25Best {D : Prop} : FnOk Tryz.prog e_s_l25Best.f ∧ Ctr D Tryz.prog e_s_l25Best := mkCtr (C := c_s_l25Best) m_ (⟨o_s_l5All, o_s_l25Range, trivial⟩) Tryz.func76 (by kernel_rfl) k_s_l25Best
/-! loop.example/g00959/spec.LeastWidth -/
noncomputable def s_LeastWidth (x0 : List (List Int)) : Option (Int) :=
(s_IsPolygon x0).bind fun v1 => cond (!v1)
 (some (-1 : Int))
 ((s_l25Best x0).bind fun v2 => some v2.1)
noncomputable def e_s_LeastWidth : CallE := ⟨39, [.d false (.list (.list (.int .i64)))], [.l (.d false (.int .i64))], fun x => s_LeastWidth x⟩
noncomputable def c_s_LeastWidth : Ctx := ⟨Tryz.prog, TT, [e_s_IsPolygon, e_s_l25Best], [], [], [], [], []⟩
theorem k_s_LeastWidth (x : PMs.den e_s_LeastWidth.ps) : funK c_s_LeastWidth Tryz.f39 e_s_LeastWidth.ps e_s_LeastWidth.rs x = e_s_LeastWidth.F x := by kernel_rfl
theorem o_s_LeastWidth {D : Prop} : FnOk Tryz.prog e_s_LeastWidth.f ∧ Ctr D Tryz.prog e_s_LeastWidth := mkCtr (C := c_s_LeastWidth) m_ (⟨o_s_IsPolygon, o_s_l25Best, trivial⟩) Tryz.func39 (by kernel_rfl) k_s_LeastWidth
/-! loop.example/g00959/spec.l2Prime -/
noncomputable def s_l2Prime_s4 (x0 : List Int) (v1 : Int) (v2 : List Int × Int) : Option ((List Int × Int) ⊕ (List Int)) :=
 cond (decide (v2.2 < (x0.length : Int)))
 ((idx x0 v2.2).bind fun v3 => (s_l1Max v1 (1 : Int)).bind fun v4 => (quoI .i64 v3 v4).bind fun v5 => (appD 8 v2.1 ([v5] : List Int)).bind fun v6 => some (.inl (v6, (IntKind.i64.wrap (v2.2 + (1 : Int))))))
 (some (.inr v2.1))
noncomputable def s_l2Prime (x0 : List Int) : Option (List Int) :=
(s_l2All x0).bind fun v1 => (iter (s_l2Prime_s4 x0 v1) (([] : List Int), (0 : Int))).bind fun v7 => some v7
noncomputable def e_s_l2Prime : CallE := ⟨118, [.d false (.list (.int .i64))], [.l (.o true 3 (.int .i64))], fun x => s_l2Prime x⟩
noncomputable def c_s_l2Prime : Ctx := ⟨Tryz.prog, TT, [e_s_l2All, e_s_l1Max], [⟨4, [(4, .l (.o true 3 (.int .i64))), (5, .l (.d false (.int .i64)))], some (0, [(4, .l (.o true 3 (.int .i64)))]), none, false⟩], [], [], [], []⟩
theorem k_s_l2Prime (x : PMs.den e_s_l2Prime.ps) : funK c_s_l2Prime Tryz.f118 e_s_l2Prime.ps e_s_l2Prime.rs x = e_s_l2Prime.F x := by kernel_rfl
theorem o_s_l2Prime {D : Prop} : FnOk Tryz.prog e_s_l2Prime.f ∧ Ctr D Tryz.prog e_s_l2Prime := mkCtr (C := c_s_l2Prime) m_ (⟨o_s_l2All, o_s_l1Max, trivial⟩) Tryz.func118 (by kernel_rfl) k_s_l2Prime
/-! loop.example/g00959/spec.l9Ray -/
noncomputable def s_l9Ray (x0 : List Int) : Option (Bool) :=
 cond ((x0.length : Int) == (2 : Int))
 ((s_l2Small x0 (30 : Int)).bind fun v1 => cond v1
 ((s_l2All x0).bind fun v2 => some (v2 == (1 : Int)))
 (some false))
 (some false)
noncomputable def e_s_l9Ray : CallE := ⟨147, [.d false (.list (.int .i64))], [.l (.d false .bool)], fun x => s_l9Ray x⟩
noncomputable def c_s_l9Ray : Ctx := ⟨Tryz.prog, TT, [e_s_l2Small, e_s_l2All], [], [], [], [], []⟩
theorem k_s_l9Ray (x : PMs.den e_s_l9Ray.ps) : funK c_s_l9Ray Tryz.f147 e_s_l9Ray.ps e_s_l9Ray.rs x = e_s_l9Ray.F x := by kernel_rfl
theorem o_s_l9Ray {D : Prop} : FnOk Tryz.prog e_s_l9Ray.f ∧ Ctr D Tryz.prog e_s_l9Ray := mkCtr (C := c_s_l9Ray) m_ (⟨o_s_l2Small, o_s_l2All, trivial⟩) Tryz.func147 (by kernel_rfl) k_s_l9Ray
/-! loop.example/g00959/spec.IsCone -/
noncomputable def s_IsCone (x0 : (List Int) × (List Int)) : Option (Bool) :=
(s_l9Ray x0.1).bind fun v1 => cond v1
 ((s_l9Ray x0.2).bind fun v2 => cond v2
 ((s_l7Cross x0.1 x0.2).bind fun v3 => some (decide (v3 > (0 : Int))))
 (some false))
 (some false)
noncomputable def e_s_IsCone : CallE := ⟨119, [.d false (.prod (.list (.int .i64)) (.list (.int .i64)))], [.l (.d false .bool)], fun x => s_IsCone x⟩
noncomputable def c_s_IsCone : Ctx := ⟨Tryz.prog, TT, [e_s_l9Ray, e_s_l7Cross], [], [], [], [], []⟩
theorem k_s_IsCone (x : PMs.den e_s_IsCone.ps) : funK c_s_IsCone Tryz.f119 e_s_IsCone.ps e_s_IsCone.rs x = e_s_IsCone.F x := by kernel_rfl
theorem o_s_IsCone {D : Prop} : FnOk Tryz.prog e_s_IsCone.f ∧ Ctr D Tryz.prog e_s_IsCone := mkCtr (C := c_s_IsCone) m_ (⟨o_s_l9Ray, o_s_l7Cross, trivial⟩) Tryz.func119 (by kernel_rfl) k_s_IsCone
/-! loop.example/g00959/spec.CornerCone -/
noncomputable def s_CornerCone (x0 : List (List Int)) (x1 : Int) : Option ((List Int × List Int) × Bool) :=
(s_IsPolygon x0).bind fun v1 => cond (!v1)
 (some ((([] : List Int), ([] : List Int)), false))
 ((s_l1In x1 (0 : Int) (IntKind.i64.wrap ((x0.length : Int) - (1 : Int)))).bind fun v2 => cond (!v2)
 (some ((([] : List Int), ([] : List Int)), false))
 ((remI .i64 (IntKind.i64.wrap (x1 + (1 : Int))) (x0.length : Int)).bind fun v3 => (idx x0 v3).bind fun v4 => (idx x0 x1).bind fun v5 => (s_l2Less v4 v5).bind fun v6 => (s_l2Prime v6).bind fun v7 => (remI .i64 (IntKind.i64.wrap ((IntKind.i64.wrap (x1 + (x0.length : Int))) - (1 : Int))) (x0.length : Int)).bind fun v8 => (idx x0 v8).bind fun v9 => (idx x0 x1).bind fun v10 => (s_l2Less v9 v10).bind fun v11 => (s_l2Prime v11).bind fun v12 => (s_IsCone (v7, v12)).bind fun v13 => cond (!v13)
 (some ((([] : List Int), ([] : List Int)), false))
 (some ((v7, v12), true))))
noncomputable def e_s_CornerCone : CallE := ⟨77, [.d false (.list (.list (.int .i64))), .d false (.int .i64)], [.a [(.o true 3 (.int .i64)), (.o true 3 (.int .i64))], .l (.d false .bool)], fun x => s_CornerCone x.1 x.2⟩
noncomputable def c_s_CornerCone : Ctx := ⟨Tryz.prog, TT, [e_s_IsPolygon, e_s_l1In, e_s_l2Less, e_s_l2Prime, e_s_IsCone], [], [], [], [], []⟩
theorem k_s_CornerCone (x : PMs.den e_s_CornerCone.ps) : funK c_s_CornerCone Tryz.f77 e_s_CornerCone.ps e_s_CornerCone.rs x = e_s_CornerCone.F x := by kernel_rfl
theorem o_s_CornerCone {D : Prop} : FnOk Tryz.prog e_s_CornerCone.f ∧ Ctr D Tryz.prog e_s_CornerCone := mkCtr (C := c_s_CornerCone) m_ (⟨o_s_IsPolygon, o_s_l1In, o_s_l2Less, o_s_l2Prime, o_s_IsCone, trivial⟩) Tryz.func77 (by kernel_rfl) k_s_CornerCone
/-! loop.example/g00959/spec.ConeIndex -/
noncomputable def s_ConeIndex (x0 : (List Int) × (List Int)) : Option (Int) :=
(s_IsCone (x0.1, x0.2)).bind fun v1 => cond (!v1)
 (some (0 : Int))
 ((s_l7Cross x0.1 x0.2).bind fun v2 => some v2)
noncomputable def e_s_ConeIndex : CallE := ⟨79, [.d false (.prod (.list (.int .i64)) (.list (.int .i64)))], [.l (.d false (.int .i64))], fun x => s_ConeIndex x⟩
noncomputable def c_s_ConeIndex : Ctx := ⟨Tryz.prog, TT, [e_s_IsCone, e_s_l7Cross], [], [], [], [], []⟩
theorem k_s_ConeIndex (x : PMs.den e_s_ConeIndex.ps) : funK c_s_ConeIndex Tryz.f79 e_s_ConeIndex.ps e_s_ConeIndex.rs x = e_s_ConeIndex.F x := by kernel_rfl
theorem o_s_ConeIndex {D : Prop} : FnOk Tryz.prog e_s_ConeIndex.f ∧ Ctr D Tryz.prog e_s_ConeIndex := mkCtr (C := c_s_ConeIndex) m_ (⟨o_s_IsCone, o_s_l7Cross, trivial⟩) Tryz.func79 (by kernel_rfl) k_s_ConeIndex
/-! loop.example/g00959/spec.l1Bit -/
noncomputable def s_l1Bit (x0 : Bool) : Option (Int) :=
 cond x0
 (some (1 : Int))
 (some (0 : Int))
noncomputable def e_s_l1Bit : CallE := ⟨78, [.d false .bool], [.l (.d false (.int .i64))], fun x => s_l1Bit x⟩
noncomputable def c_s_l1Bit : Ctx := ⟨Tryz.prog, TT, [], [], [], [], [], []⟩
theorem k_s_l1Bit (x : PMs.den e_s_l1Bit.ps) : funK c_s_l1Bit Tryz.f78 e_s_l1Bit.ps e_s_l1Bit.rs x = e_s_l1Bit.F x := by kernel_rfl
theorem o_s_l1Bit {D : Prop} : FnOk Tryz.prog e_s_l1Bit.f ∧ Ctr D Tryz.prog e_s_l1Bit := mkCtr (C := c_s_l1Bit) m_ (trivial) Tryz.func78 (by kernel_rfl) k_s_l1Bit
/-! loop.example/g00959/spec.SmoothCorners -/
noncomputable def s_SmoothCorners_s3 (x0 : List (List Int)) (v1 : Int × Int) : Option ((Int × Int) ⊕ ((Int) ⊕ (Int))) :=
 cond (decide (v1.2 < (x0.length : Int)))
 ((s_CornerCone x0 v1.2).bind fun v2 => cond (!v2.2)
 (some (.inr (.inr (-1 : Int))))
 ((s_ConeIndex (v2.1.1, v2.1.2)).bind fun v3 => (s_l1Bit (v3 == (1 : Int))).bind fun v4 => some (.inl ((IntKind.i64.wrap (v1.1 + v4)), (IntKind.i64.wrap (v1.2 + (1 : Int)))))))
 (some (.inr (.inl v1.1)))
noncomputable def s_SmoothCorners (x0 : List (List Int)) : Option (Int) :=
(iter (s_SmoothCorners_s3 x0) ((0 : Int), (0 : Int))).bind fun v5 => match v5 with
 | .inl v6 => (cond ((x0.length : Int) == (0 : Int))
 (some (-1 : Int))
 (some v6))
 | .inr v7 => (some v7)
noncomputable def e_s_SmoothCorners : CallE := ⟨40, [.d false (.list (.list (.int .i64)))], [.l (.d false (.int .i64))], fun x => s_SmoothCorners x⟩
noncomputable def c_s_SmoothCorners : Ctx := ⟨Tryz.prog, TT, [e_s_CornerCone, e_s_ConeIndex, e_s_l1Bit], [⟨3, [(3, .l (.d false (.int .i64))), (4, .l (.d false (.int .i64)))], some (0, [(3, .l (.d false (.int .i64)))]), some [(2, .l (.d false (.int .i64)))], false⟩], [], [], [], []⟩
theorem k_s_SmoothCorners (x : PMs.den e_s_SmoothCorners.ps) : funK c_s_SmoothCorners Tryz.f40 e_s_SmoothCorners.ps e_s_SmoothCorners.rs x = e_s_SmoothCorners.F x := by kernel_rfl
theorem o_s_SmoothCorners {D : Prop} : FnOk Tryz.prog e_s_SmoothCorners.f ∧ Ctr D Tryz.prog e_s_SmoothCorners := mkCtr (C := c_s_SmoothCorners) m_ (⟨o_s_CornerCone, o_s_ConeIndex, o_s_l1Bit, trivial⟩) Tryz.func40 (by kernel_rfl) k_s_SmoothCorners
/-! loop.example/g00959/spec.l7Place -/
noncomputable def s_l7Place_s3 (x0 : List (List Int)) (x1 : List Int) (v1 : Int × Int) : Option ((Int × Int) ⊕ ((Int) ⊕ (Int))) :=
 cond (decide (v1.2 < (x0.length : Int)))
 ((idx x0 v1.2).bind fun v2 => (remI .i64 (IntKind.i64.wrap (v1.2 + (1 : Int))) (x0.length : Int)).bind fun v3 => (idx x0 v3).bind fun v4 => (s_l7Turn v2 v4 x1).bind fun v5 => cond (decide (v5 < (0 : Int)))
 (some (.inr (.inr (-1 : Int))))
 (cond (v5 == (0 : Int))
 (some (.inl ((0 : Int), (IntKind.i64.wrap (v1.2 + (1 : Int))))))
 (some (.inl (v1.1, (IntKind.i64.wrap (v1.2 + (1 : Int))))))))
 (some (.inr (.inl v1.1)))
noncomputable def s_l7Place (x0 : List (List Int)) (x1 : List Int) : Option (Int) :=
(iter (s_l7Place_s3 x0 x1) ((1 : Int), (0 : Int))).bind fun v6 => match v6 with
 | .inl v7 => (some v7)
 | .inr v8 => (some v8)
noncomputable def e_s_l7Place : CallE := ⟨80, [.d false (.list (.list (.int .i64))), .d false (.list (.int .i64))], [.l (.d false (.int .i64))], fun x => s_l7Place x.1 x.2⟩
noncomputable def c_s_l7Place : Ctx := ⟨Tryz.prog, TT, [e_s_l7Turn], [⟨3, [(5, .l (.d false (.int .i64))), (6, .l (.d false (.int .i64)))], some (0, [(5, .l (.d false (.int .i64)))]), some [(4, .l (.d false (.int .i64)))], false⟩], [], [], [], []⟩
theorem k_s_l7Place (x : PMs.den e_s_l7Place.ps) : funK c_s_l7Place Tryz.f80 e_s_l7Place.ps e_s_l7Place.rs x = e_s_l7Place.F x := by kernel_rfl
theorem o_s_l7Place {D : Prop} : FnOk Tryz.prog e_s_l7Place.f ∧ Ctr D Tryz.prog e_s_l7Place := mkCtr (C := c_s_l7Place) m_ (⟨o_s_l7Turn, trivial⟩) Tryz.func80 (by kernel_rfl) k_s_l7Place
/-! loop.example/g00959/spec.IsReflexive -/
noncomputable def s_IsReflexive (x0 : List (List Int)) : Option (Bool) :=
(s_IsPolygon x0).bind fun v1 => cond v1
 ((s_InnerCount x0).bind fun v2 => cond (v2 == (1 : Int))
 ((s_l7Place x0 ([(0 : Int), (0 : Int)] : List Int)).bind fun v3 => some (v3 == (1 : Int)))
 (some false))
 (some false)
noncomputable def e_s_IsReflexive : CallE := ⟨41, [.d false (.list (.list (.int .i64)))], [.l (.d false .bool)], fun x => s_IsReflexive x⟩
noncomputable def c_s_IsReflexive : Ctx := ⟨Tryz.prog, TT, [e_s_IsPolygon, e_s_InnerCount, e_s_l7Place], [], [], [], [], []⟩
theorem k_s_IsReflexive (x : PMs.den e_s_IsReflexive.ps) : funK c_s_IsReflexive Tryz.f41 e_s_IsReflexive.ps e_s_IsReflexive.rs x = e_s_IsReflexive.F x := by kernel_rfl
theorem o_s_IsReflexive {D : Prop} : FnOk Tryz.prog e_s_IsReflexive.f ∧ Ctr D Tryz.prog e_s_IsReflexive := mkCtr (C := c_s_IsReflexive) m_ (⟨o_s_IsPolygon, o_s_InnerCount, o_s_l7Place, trivial⟩) Tryz.func41 (by kernel_rfl) k_s_IsReflexive
/-! loop.example/g00959/spec.l2Scale -/
noncomputable def s_l2Scale_s3 (x0 : List Int) (x1 : Int) (v1 : List Int × Int) : Option ((List Int × Int) ⊕ (List Int)) :=
 cond (decide (v1.2 < (x0.length : Int)))
 ((idx x0 v1.2).bind fun v2 => (appD 8 v1.1 ([(IntKind.i64.wrap (v2 * x1))] : List Int)).bind fun v3 => some (.inl (v3, (IntKind.i64.wrap (v1.2 + (1 : Int))))))
 (some (.inr v1.1))
noncomputable def s_l2Scale (x0 : List Int) (x1 : Int) : Option (List Int) :=
(iter (s_l2Scale_s3 x0 x1) (([] : List Int), (0 : Int))).bind fun v4 => some v4
noncomputable def e_s_l2Scale : CallE := ⟨121, [.d false (.list (.int .i64)), .d false (.int .i64)], [.l (.o true 3 (.int .i64))], fun x => s_l2Scale x.1 x.2⟩
noncomputable def c_s_l2Scale : Ctx := ⟨Tryz.prog, TT, [], [⟨3, [(5, .l (.o true 3 (.int .i64))), (6, .l (.d false (.int .i64)))], some (0, [(5, .l (.o true 3 (.int .i64)))]), none, false⟩], [], [], [], []⟩
theorem k_s_l2Scale (x : PMs.den e_s_l2Scale.ps) : funK c_s_l2Scale Tryz.f121 e_s_l2Scale.ps e_s_l2Scale.rs x = e_s_l2Scale.F x := by kernel_rfl
theorem o_s_l2Scale {D : Prop} : FnOk Tryz.prog e_s_l2Scale.f ∧ Ctr D Tryz.prog e_s_l2Scale := mkCtr (C := c_s_l2Scale) m_ (trivial) Tryz.func121 (by kernel_rfl) k_s_l2Scale
/-! loop.example/g00959/spec.MirrorPolygon -/
noncomputable def s_MirrorPolygon_s5 (x0 : List (List Int)) (v2 : List (List Int) × Int) : Option ((List (List Int) × Int) ⊕ (List (List Int))) :=
 cond (decide (v2.2 < (x0.length : Int)))
 ((idx x0 v2.2).bind fun v3 => (s_l2Scale v3 (-1 : Int)).bind fun v4 => (appD 24 v2.1 ([v4] : List (List Int))).bind fun v5 => some (.inl (v5, (IntKind.i64.wrap (v2.2 + (1 : Int))))))
 (some (.inr v2.1))
noncomputable def s_MirrorPolygon (x0 : List (List Int)) : Option (List (List Int) × Bool) :=
(s_IsPolygon x0).bind fun v1 => cond (!v1)
 (some (([] : List (List Int)), false))
 ((iter (s_MirrorPolygon_s5 x0) (([] : List (List Int)), (0 : Int))).bind fun v6 => (s_HullOf v6).bind fun v7 => some (v7.1, v7.2))
noncomputable def e_s_MirrorPolygon : CallE := ⟨81, [.d false (.list (.list (.int .i64)))], [.l (.o true 44 (.list (.int .i64))), .l (.d false .bool)], fun x => s_MirrorPolygon x⟩
noncomputable def c_s_MirrorPolygon : Ctx := ⟨Tryz.prog, TT, [e_s_IsPolygon, e_s_l2Scale, e_s_HullOf], [⟨5, [(4, .l (.o true 44 (.list (.int .i64)))), (5, .l (.d false (.int .i64)))], some (0, [(4, .l (.o true 44 (.list (.int .i64))))]), none, false⟩], [], [], [], []⟩
theorem k_s_MirrorPolygon (x : PMs.den e_s_MirrorPolygon.ps) : funK c_s_MirrorPolygon Tryz.f81 e_s_MirrorPolygon.ps e_s_MirrorPolygon.rs x = e_s_MirrorPolygon.F x := by kernel_rfl
theorem o_s_MirrorPolygon {D : Prop} : FnOk Tryz.prog e_s_MirrorPolygon.f ∧ Ctr D Tryz.prog e_s_MirrorPolygon := mkCtr (C := c_s_MirrorPolygon) m_ (⟨o_s_IsPolygon, o_s_l2Scale, o_s_HullOf, trivial⟩) Tryz.func81 (by kernel_rfl) k_s_MirrorPolygon
/-! loop.example/g00959/spec.l2Add -/
noncomputable def s_l2Add_s3 (x0 : List Int) (x1 : List Int) (v1 : List Int × Int) : Option ((List Int × Int) ⊕ (List Int)) :=
 cond (decide (v1.2 < (x0.length : Int)))
 ((idx x0 v1.2).bind fun v2 => (idx x1 v1.2).bind fun v3 => (appD 8 v1.1 ([(IntKind.i64.wrap (v2 + v3))] : List Int)).bind fun v4 => some (.inl (v4, (IntKind.i64.wrap (v1.2 + (1 : Int))))))
 (some (.inr v1.1))
noncomputable def s_l2Add (x0 : List Int) (x1 : List Int) : Option (List Int) :=
(iter (s_l2Add_s3 x0 x1) (([] : List Int), (0 : Int))).bind fun v5 => some v5
noncomputable def e_s_l2Add : CallE := ⟨84, [.d false (.list (.int .i64)), .d false (.list (.int .i64))], [.l (.o true 3 (.int .i64))], fun x => s_l2Add x.1 x.2⟩
noncomputable def c_s_l2Add : Ctx := ⟨Tryz.prog, TT, [], [⟨3, [(5, .l (.o true 3 (.int .i64))), (6, .l (.d false (.int .i64)))], some (0, [(5, .l (.o true 3 (.int .i64)))]), none, false⟩], [], [], [], []⟩
theorem k_s_l2Add (x : PMs.den e_s_l2Add.ps) : funK c_s_l2Add Tryz.f84 e_s_l2Add.ps e_s_l2Add.rs x = e_s_l2Add.F x := by kernel_rfl
theorem o_s_l2Add {D : Prop} : FnOk Tryz.prog e_s_l2Add.f ∧ Ctr D Tryz.prog e_s_l2Add := mkCtr (C := c_s_l2Add) m_ (trivial) Tryz.func84 (by kernel_rfl) k_s_l2Add
/-! loop.example/g00959/spec.IsSymmetricPolygon -/
noncomputable def s_IsSymmetricPolygon_s6 (x0 : List (List Int)) (v1 : List (List Int) × Bool) (v4 : List Int) (v5 : Int) : Option ((Int) ⊕ ((Unit) ⊕ (Bool))) :=
 cond (decide (v5 < (x0.length : Int)))
 ((idx v1.1 v5).bind fun v6 => (s_l2Add v6 v4).bind fun v7 => (idx x0 v5).bind fun v8 => (s_l2Same v7 v8).bind fun v9 => cond (!v9)
 (some (.inr (.inr false)))
 (some (.inl (IntKind.i64.wrap (v5 + (1 : Int))))))
 (some (.inr (.inl ())))
noncomputable def s_IsSymmetricPolygon (x0 : List (List Int)) : Option (Bool) :=
(s_MirrorPolygon x0).bind fun v1 => cond (!v1.2)
 (some false)
 ((idx x0 (0 : Int)).bind fun v2 => (inIdx v1.1.length (0 : Int)).bind fun _ => (idx v1.1 (((0 : Int)).toNat : Int)).bind fun v3 => (s_l2Less v2 v3).bind fun v4 => (iter (s_IsSymmetricPolygon_s6 x0 v1 v4) (0 : Int)).bind fun v10 => match v10 with
 | .inl v11 => (some true)
 | .inr v12 => (some v12))
noncomputable def e_s_IsSymmetricPolygon : CallE := ⟨42, [.d false (.list (.list (.int .i64)))], [.l (.d false .bool)], fun x => s_IsSymmetricPolygon x⟩
noncomputable def c_s_IsSymmetricPolygon : Ctx := ⟨Tryz.prog, TT, [e_s_MirrorPolygon, e_s_l2Less, e_s_l2Add, e_s_l2Same], [⟨6, [(6, .l (.d false (.int .i64)))], some (0, []), some [(2, .l (.d false .bool))], false⟩], [], [], [], []⟩
theorem k_s_IsSymmetricPolygon (x : PMs.den e_s_IsSymmetricPolygon.ps) : funK c_s_IsSymmetricPolygon Tryz.f42 e_s_IsSymmetricPolygon.ps e_s_IsSymmetricPolygon.rs x = e_s_IsSymmetricPolygon.F x := by kernel_rfl
theorem o_s_IsSymmetricPolygon {D : Prop} : FnOk Tryz.prog e_s_IsSymmetricPolygon.f ∧ Ctr D Tryz.prog e_s_IsSymmetricPolygon := mkCtr (C := c_s_IsSymmetricPolygon) m_ (⟨o_s_MirrorPolygon, o_s_l2Less, o_s_l2Add, o_s_l2Same, trivial⟩) Tryz.func42 (by kernel_rfl) k_s_IsSymmetricPolygon
/-! loop.example/g00959/spec.DescribePolygon -/
noncomputable def s_DescribePolygon (x0 : List (List Int)) : Option (ByteArray) :=
(s_IsPolygon x0).bind fun v1 => cond (!v1)
 (some (⟨#[]⟩ : ByteArray))
 ((s_AreaTwice x0).bind fun v2 => (s_FormatInt v2).bind fun v3 => (catS (⟨#[97, 114, 101, 97, 32]⟩ : ByteArray) v3).bind fun v4 => (catS v4 (⟨#[32, 98, 111, 117, 110, 100, 97, 114, 121, 32]⟩ : ByteArray)).bind fun v5 => (s_BoundaryCount x0).bind fun v6 => (s_FormatInt v6).bind fun v7 => (catS v5 v7).bind fun v8 => (catS v8 (⟨#[32, 105, 110, 110, 101, 114, 32]⟩ : ByteArray)).bind fun v9 => (s_InnerCount x0).bind fun v10 => (s_FormatInt v10).bind fun v11 => (catS v9 v11).bind fun v12 => (catS v12 (⟨#[32, 112, 111, 105, 110, 116, 115, 32]⟩ : ByteArray)).bind fun v13 => (s_EhrhartAt x0 (1 : Int)).bind fun v14 => (s_FormatInt v14).bind fun v15 => (catS v13 v15).bind fun v16 => (catS v16 (⟨#[32, 116, 111, 112, 32]⟩ : ByteArray)).bind fun v17 => (s_SeriesTop x0).bind fun v18 => (s_l2Text v18).bind fun v19 => (catS v17 v19).bind fun v20 => (catS v20 (⟨#[32, 119, 105, 100, 116, 104, 32]⟩ : ByteArray)).bind fun v21 => (s_LeastWidth x0).bind fun v22 => (s_FormatInt v22).bind fun v23 => (catS v21 v23).bind fun v24 => (catS v24 (⟨#[32, 115, 109, 111, 111, 116, 104, 32]⟩ : ByteArray)).bind fun v25 => (s_SmoothCorners x0).bind fun v26 => (s_FormatInt v26).bind fun v27 => (catS v25 v27).bind fun v28 => (s_IsReflexive x0).bind fun v29 => cond v29
 ((catS v28 (⟨#[32, 114, 101, 102, 108, 101, 120, 105, 118, 101]⟩ : ByteArray)).bind fun v30 => (s_IsSymmetricPolygon x0).bind fun v31 => cond v31
 ((catS v30 (⟨#[32, 115, 121, 109, 109, 101, 116, 114, 105, 99]⟩ : ByteArray)).bind fun v32 => some v32)
 (some v30))
 ((catS v28 (⟨#[32, 111, 116, 104, 101, 114]⟩ : ByteArray)).bind fun v33 => (s_IsSymmetricPolygon x0).bind fun v34 => cond v34
 ((catS v33 (⟨#[32, 115, 121, 109, 109, 101, 116, 114, 105, 99]⟩ : ByteArray)).bind fun v35 => some v35)
 (some v33)))
noncomputable def e_s_DescribePolygon : CallE := ⟨13, [.d false (.list (.list (.int .i64)))], [.l (.d false .str)], fun x => s_DescribePolygon x⟩
noncomputable def c_s_DescribePolygon : Ctx := ⟨Tryz.prog, TT, [e_s_IsPolygon, e_s_AreaTwice, e_s_FormatInt, e_s_BoundaryCount, e_s_InnerCount, e_s_EhrhartAt, e_s_SeriesTop, e_s_l2Text, e_s_LeastWidth, e_s_SmoothCorners, e_s_IsReflexive, e_s_IsSymmetricPolygon], [], [], [], [], []⟩
theorem k_s_DescribePolygon (x : PMs.den e_s_DescribePolygon.ps) : funK c_s_DescribePolygon Tryz.f13 e_s_DescribePolygon.ps e_s_DescribePolygon.rs x = e_s_DescribePolygon.F x := by kernel_rfl
theorem o_s_DescribePolygon {D : Prop} : FnOk Tryz.prog e_s_DescribePolygon.f ∧ Ctr D Tryz.prog e_s_DescribePolygon := mkCtr (C := c_s_DescribePolygon) m_ (⟨o_s_IsPolygon, o_s_AreaTwice, o_s_FormatInt, o_s_BoundaryCount, o_s_InnerCount, o_s_EhrhartAt, o_s_SeriesTop, o_s_l2Text, o_s_LeastWidth, o_s_SmoothCorners, o_s_IsReflexive, o_s_IsSymmetricPolygon, trivial⟩) Tryz.func13 (by kernel_rfl) k_s_DescribePolygon
/-! loop.example/g00959/impl.areaTwice -/
noncomputable def i_areaTwice_s3 (x0 : List (List Int)) (v1 : Int × Int) : Option ((Int × Int) ⊕ (Int)) :=
 cond (decide (v1.2 < (x0.length : Int)))
 ((idx x0 v1.2).bind fun v2 => (remI .i64 (IntKind.i64.wrap (v1.2 + (1 : Int))) (x0.length : Int)).bind fun v3 => (idx x0 v3).bind fun v4 => (i_cross v2 v4).bind fun v5 => some (.inl ((IntKind.i64.wrap (v1.1 + v5)), (IntKind.i64.wrap (v1.2 + (1 : Int))))))
 (some (.inr v1.1))
noncomputable def i_areaTwice (x0 : List (List Int)) : Option (Int) :=
(iter (i_areaTwice_s3 x0) ((0 : Int), (0 : Int))).bind fun v6 => some v6
noncomputable def e_i_areaTwice : CallE := ⟨89, [.d false (.list (.list (.int .i64)))], [.l (.d false (.int .i64))], fun x => i_areaTwice x⟩
noncomputable def c_i_areaTwice : Ctx := ⟨Tryz.prog, TT, [e_i_cross], [⟨3, [(3, .l (.d false (.int .i64))), (8, .l (.d false (.int .i64)))], some (0, [(3, .l (.d false (.int .i64)))]), none, false⟩], [], [], [], []⟩
theorem k_i_areaTwice (x : PMs.den e_i_areaTwice.ps) : funK c_i_areaTwice Tryz.f89 e_i_areaTwice.ps e_i_areaTwice.rs x = e_i_areaTwice.F x := by kernel_rfl
theorem o_i_areaTwice {D : Prop} : FnOk Tryz.prog e_i_areaTwice.f ∧ Ctr D Tryz.prog e_i_areaTwice := mkCtr (C := c_i_areaTwice) m_ (⟨o_i_cross, trivial⟩) Tryz.func89 (by kernel_rfl) k_i_areaTwice
/-! loop.example/g00959/impl.AreaTwice -/
noncomputable def i_AreaTwice (x0 : List (List Int)) : Option (Int) :=
(i_IsPolygon x0).bind fun v1 => cond (!v1)
 (some (-1 : Int))
 ((i_areaTwice x0).bind fun v2 => some v2)
noncomputable def e_i_AreaTwice : CallE := ⟨46, [.d false (.list (.list (.int .i64)))], [.l (.d false (.int .i64))], fun x => i_AreaTwice x⟩
noncomputable def c_i_AreaTwice : Ctx := ⟨Tryz.prog, TT, [e_i_IsPolygon, e_i_areaTwice], [], [], [], [], []⟩
theorem k_i_AreaTwice (x : PMs.den e_i_AreaTwice.ps) : funK c_i_AreaTwice Tryz.f46 e_i_AreaTwice.ps e_i_AreaTwice.rs x = e_i_AreaTwice.F x := by kernel_rfl
theorem o_i_AreaTwice {D : Prop} : FnOk Tryz.prog e_i_AreaTwice.f ∧ Ctr D Tryz.prog e_i_AreaTwice := mkCtr (C := c_i_AreaTwice) m_ (⟨o_i_IsPolygon, o_i_areaTwice, trivial⟩) Tryz.func46 (by kernel_rfl) k_i_AreaTwice
/-! strconv.Itoa -/
noncomputable def g_strconv_Itoa (x0 : Int) : Option ByteArray := itoaF x0
noncomputable def e_g_strconv_Itoa : CallE := ⟨88, [.d false (.int .i64)], [.l (.d false .str)], fun x => g_strconv_Itoa x⟩
theorem o_g_strconv_Itoa {D : Prop} : FnOk Tryz.prog e_g_strconv_Itoa.f ∧ Ctr D Tryz.prog e_g_strconv_Itoa := ⟨⟨Tryz.f88, _, Tryz.func88, by kernel_rfl, rfl⟩, itoa_ctr layItoa gl_pow10 rfl⟩
/-! loop.example/g00959/impl.FormatInt -/
noncomputable def i_FormatInt (x0 : Int) : Option (ByteArray) :=
(g_strconv_Itoa x0).bind fun v1 => some v1
noncomputable def e_i_FormatInt : CallE := ⟨45, [.d false (.int .i64)], [.l (.d false .str)], fun x => i_FormatInt x⟩
noncomputable def c_i_FormatInt : Ctx := ⟨Tryz.prog, TT, [e_g_strconv_Itoa], [], [], [], [], []⟩
theorem k_i_FormatInt (x : PMs.den e_i_FormatInt.ps) : funK c_i_FormatInt Tryz.f45 e_i_FormatInt.ps e_i_FormatInt.rs x = e_i_FormatInt.F x := by kernel_rfl
theorem o_i_FormatInt {D : Prop} : FnOk Tryz.prog e_i_FormatInt.f ∧ Ctr D Tryz.prog e_i_FormatInt := mkCtr (C := c_i_FormatInt) m_ (⟨o_g_strconv_Itoa, trivial⟩) Tryz.func45 (by kernel_rfl) k_i_FormatInt
/-! loop.example/g00959/impl.magnitude -/
noncomputable def i_magnitude (x0 : Int) : Option (Int) :=
 some (if (IntKind.i64.wrap (0 - x0)) > x0 then (IntKind.i64.wrap (0 - x0)) else x0)
noncomputable def e_i_magnitude : CallE := ⟨150, [.d false (.int .i64)], [.l (.d false (.int .i64))], fun x => i_magnitude x⟩
noncomputable def c_i_magnitude : Ctx := ⟨Tryz.prog, TT, [], [], [], [], [], []⟩
theorem k_i_magnitude (x : PMs.den e_i_magnitude.ps) : funK c_i_magnitude Tryz.f150 e_i_magnitude.ps e_i_magnitude.rs x = e_i_magnitude.F x := by kernel_rfl
theorem o_i_magnitude {D : Prop} : FnOk Tryz.prog e_i_magnitude.f ∧ Ctr D Tryz.prog e_i_magnitude := mkCtr (C := c_i_magnitude) m_ (trivial) Tryz.func150 (by kernel_rfl) k_i_magnitude
/-! loop.example/g00959/impl.divisor -/
noncomputable def i_divisor_s1 (v1 : Int × Int) : Option ((Int × Int) ⊕ (Int)) :=
 cond (v1.2 != (0 : Int))
 ((remI .i64 v1.1 v1.2).bind fun v2 => some (.inl (v1.2, v2)))
 (some (.inr v1.1))
noncomputable def i_divisor (x0 : Int) (x1 : Int) : Option (Int) :=
(iter (i_divisor_s1) (x0, x1)).bind fun v3 => (i_magnitude v3).bind fun v4 => some v4
noncomputable def e_i_divisor : CallE := ⟨126, [.d false (.int .i64), .d false (.int .i64)], [.l (.d false (.int .i64))], fun x => i_divisor x.1 x.2⟩
noncomputable def c_i_divisor : Ctx := ⟨Tryz.prog, TT, [e_i_magnitude], [⟨1, [(0, .l (.d false (.int .i64))), (1, .l (.d false (.int .i64)))], some (0, [(0, .l (.d false (.int .i64)))]), none, false⟩], [], [], [], []⟩
theorem k_i_divisor (x : PMs.den e_i_divisor.ps) : funK c_i_divisor Tryz.f126 e_i_divisor.ps e_i_divisor.rs x = e_i_divisor.F x := by kernel_rfl
theorem o_i_divisor {D : Prop} : FnOk Tryz.prog e_i_divisor.f ∧ Ctr D Tryz.prog e_i_divisor := mkCtr (C := c_i_divisor) m_ (⟨o_i_magnitude, trivial⟩) Tryz.func126 (by kernel_rfl) k_i_divisor
/-! loop.example/g00959/impl.gcdAll -/
noncomputable def i_gcdAll_s3 (x0 : List Int) (v1 : Int × Int) : Option ((Int × Int) ⊕ (Int)) :=
 cond (decide (v1.2 < (x0.length : Int)))
 ((idx x0 v1.2).bind fun v2 => (i_divisor v1.1 v2).bind fun v3 => some (.inl (v3, (IntKind.i64.wrap (v1.2 + (1 : Int))))))
 (some (.inr v1.1))
noncomputable def i_gcdAll (x0 : List Int) : Option (Int) :=
(iter (i_gcdAll_s3 x0) ((0 : Int), (0 : Int))).bind fun v4 => some v4
noncomputable def e_i_gcdAll : CallE := ⟨90, [.d false (.list (.int .i64))], [.l (.d false (.int .i64))], fun x => i_gcdAll x⟩
noncomputable def c_i_gcdAll : Ctx := ⟨Tryz.prog, TT, [e_i_divisor], [⟨3, [(3, .l (.d false (.int .i64))), (8, .l (.d false (.int .i64)))], some (0, [(3, .l (.d false (.int .i64)))]), none, false⟩], [], [], [], []⟩
theorem k_i_gcdAll (x : PMs.den e_i_gcdAll.ps) : funK c_i_gcdAll Tryz.f90 e_i_gcdAll.ps e_i_gcdAll.rs x = e_i_gcdAll.F x := by kernel_rfl
theorem o_i_gcdAll {D : Prop} : FnOk Tryz.prog e_i_gcdAll.f ∧ Ctr D Tryz.prog e_i_gcdAll := mkCtr (C := c_i_gcdAll) m_ (⟨o_i_divisor, trivial⟩) Tryz.func90 (by kernel_rfl) k_i_gcdAll
/-! loop.example/g00959/impl.BoundaryCount -/
noncomputable def i_BoundaryCount_s5 (x0 : List (List Int)) (v2 : Int × Int) : Option ((Int × Int) ⊕ (Int)) :=
 cond (decide (v2.2 < (x0.length : Int)))
 ((idx x0 v2.2).bind fun v3 => (remI .i64 (IntKind.i64.wrap (v2.2 + (1 : Int))) (x0.length : Int)).bind fun v4 => (idx x0 v4).bind fun v5 => (i_minus v5 v3).bind fun v6 => (i_gcdAll v6).bind fun v7 => some (.inl ((IntKind.i64.wrap (v2.1 + v7)), (IntKind.i64.wrap (v2.2 + (1 : Int))))))
 (some (.inr v2.1))
noncomputable def i_BoundaryCount (x0 : List (List Int)) : Option (Int) :=
(i_IsPolygon x0).bind fun v1 => cond (!v1)
 (some (-1 : Int))
 ((iter (i_BoundaryCount_s5 x0) ((0 : Int), (0 : Int))).bind fun v8 => some v8)
noncomputable def e_i_BoundaryCount : CallE := ⟨47, [.d false (.list (.list (.int .i64)))], [.l (.d false (.int .i64))], fun x => i_BoundaryCount x⟩
noncomputable def c_i_BoundaryCount : Ctx := ⟨Tryz.prog, TT, [e_i_IsPolygon, e_i_minus, e_i_gcdAll], [⟨5, [(3, .l (.d false (.int .i64))), (11, .l (.d false (.int .i64)))], some (0, [(3, .l (.d false (.int .i64)))]), none, false⟩], [], [], [], []⟩
theorem k_i_BoundaryCount (x : PMs.den e_i_BoundaryCount.ps) : funK c_i_BoundaryCount Tryz.f47 e_i_BoundaryCount.ps e_i_BoundaryCount.rs x = e_i_BoundaryCount.F x := by kernel_rfl
theorem o_i_BoundaryCount {D : Prop} : FnOk Tryz.prog e_i_BoundaryCount.f ∧ Ctr D Tryz.prog e_i_BoundaryCount := mkCtr (C := c_i_BoundaryCount) m_ (⟨o_i_IsPolygon, o_i_minus, o_i_gcdAll, trivial⟩) Tryz.func47 (by kernel_rfl) k_i_BoundaryCount
/-! loop.example/g00959/impl.InnerCount -/
noncomputable def i_InnerCount (x0 : List (List Int)) : Option (Int) :=
(i_IsPolygon x0).bind fun v1 => cond (!v1)
 (some (-1 : Int))
 ((i_AreaTwice x0).bind fun v2 => (i_BoundaryCount x0).bind fun v3 => (quoI .i64 (IntKind.i64.wrap ((IntKind.i64.wrap (v2 - v3)) + (2 : Int))) (2 : Int)).bind fun v4 => some v4)
noncomputable def e_i_InnerCount : CallE := ⟨48, [.d false (.list (.list (.int .i64)))], [.l (.d false (.int .i64))], fun x => i_InnerCount x⟩
noncomputable def c_i_InnerCount : Ctx := ⟨Tryz.prog, TT, [e_i_IsPolygon, e_i_AreaTwice, e_i_BoundaryCount], [], [], [], [], []⟩
theorem k_i_InnerCount (x : PMs.den e_i_InnerCount.ps) : funK c_i_InnerCount Tryz.f48 e_i_InnerCount.ps e_i_InnerCount.rs x = e_i_InnerCount.F x := by kernel_rfl
theorem o_i_InnerCount {D : Prop} : FnOk Tryz.prog e_i_InnerCount.f ∧ Ctr D Tryz.prog e_i_InnerCount := mkCtr (C := c_i_InnerCount) m_ (⟨o_i_IsPolygon, o_i_AreaTwice, o_i_BoundaryCount, trivial⟩) Tryz.func48 (by kernel_rfl) k_i_InnerCount
/-! loop.example/g00959/impl.ehrhart -/
noncomputable def i_ehrhart (x0 : List (List Int)) (x1 : Int) : Option (Int) :=
(i_BoundaryCount x0).bind fun v1 => (i_AreaTwice x0).bind fun v2 => (quoI .i64 (IntKind.i64.wrap ((IntKind.i64.wrap ((2 : Int) + (IntKind.i64.wrap (v1 * x1)))) + (IntKind.i64.wrap ((IntKind.i64.wrap (v2 * x1)) * x1)))) (2 : Int)).bind fun v3 => some v3
noncomputable def e_i_ehrhart : CallE := ⟨92, [.d false (.list (.list (.int .i64))), .d false (.int .i64)], [.l (.d false (.int .i64))], fun x => i_ehrhart x.1 x.2⟩
noncomputable def c_i_ehrhart : Ctx := ⟨Tryz.prog, TT, [e_i_BoundaryCount, e_i_AreaTwice], [], [], [], [], []⟩
theorem k_i_ehrhart (x : PMs.den e_i_ehrhart.ps) : funK c_i_ehrhart Tryz.f92 e_i_ehrhart.ps e_i_ehrhart.rs x = e_i_ehrhart.F x := by kernel_rfl
theorem o_i_ehrhart {D : Prop} : FnOk Tryz.prog e_i_ehrhart.f ∧ Ctr D Tryz.prog e_i_ehrhart := mkCtr (C := c_i_ehrhart) m_ (⟨o_i_BoundaryCount, o_i_AreaTwice, trivial⟩) Tryz.func92 (by kernel_rfl) k_i_ehrhart
/-! loop.example/g00959/impl.EhrhartAt -/
noncomputable def i_EhrhartAt (x0 : List (List Int)) (x1 : Int) : Option (Int) :=
(i_IsPolygon x0).bind fun v1 => cond (!v1)
 (some (-1 : Int))
 ((i_within x1 (-1000 : Int) (1000 : Int)).bind fun v2 => cond (!v2)
 (some (-1 : Int))
 ((i_ehrhart x0 x1).bind fun v3 => some v3))
noncomputable def e_i_EhrhartAt : CallE := ⟨49, [.d false (.list (.list (.int .i64))), .d false (.int .i64)], [.l (.d false (.int .i64))], fun x => i_EhrhartAt x.1 x.2⟩
noncomputable def c_i_EhrhartAt : Ctx := ⟨Tryz.prog, TT, [e_i_IsPolygon, e_i_within, e_i_ehrhart], [], [], [], [], []⟩
theorem k_i_EhrhartAt (x : PMs.den e_i_EhrhartAt.ps) : funK c_i_EhrhartAt Tryz.f49 e_i_EhrhartAt.ps e_i_EhrhartAt.rs x = e_i_EhrhartAt.F x := by kernel_rfl
theorem o_i_EhrhartAt {D : Prop} : FnOk Tryz.prog e_i_EhrhartAt.f ∧ Ctr D Tryz.prog e_i_EhrhartAt := mkCtr (C := c_i_EhrhartAt) m_ (⟨o_i_IsPolygon, o_i_within, o_i_ehrhart, trivial⟩) Tryz.func49 (by kernel_rfl) k_i_EhrhartAt
/-! loop.example/g00959/impl.SeriesTop -/
noncomputable def i_SeriesTop (x0 : List (List Int)) : Option (List Int) :=
(i_IsPolygon x0).bind fun v1 => cond (!v1)
 (some ([] : List Int))
 ((i_EhrhartAt x0 (1 : Int)).bind fun v2 => (i_InnerCount x0).bind fun v3 => some ([(1 : Int), (IntKind.i64.wrap (v2 - (3 : Int))), v3] : List Int))
noncomputable def e_i_SeriesTop : CallE := ⟨51, [.d false (.list (.list (.int .i64)))], [.l (.o true 3 (.int .i64))], fun x => i_SeriesTop x⟩
noncomputable def c_i_SeriesTop : Ctx := ⟨Tryz.prog, TT, [e_i_IsPolygon, e_i_EhrhartAt, e_i_InnerCount], [], [], [], [], []⟩
theorem k_i_SeriesTop (x : PMs.den e_i_SeriesTop.ps) : funK c_i_SeriesTop Tryz.f51 e_i_SeriesTop.ps e_i_SeriesTop.rs x = e_i_SeriesTop.F x := by kernel_rfl
theorem o_i_SeriesTop {D : Prop} : FnOk Tryz.prog e_i_SeriesTop.f ∧ Ctr D Tryz.prog e_i_SeriesTop := mkCtr (C := c_i_SeriesTop) m_ (⟨o_i_IsPolygon, o_i_EhrhartAt, o_i_InnerCount, trivial⟩) Tryz.func51 (by kernel_rfl) k_i_SeriesTop
/-! strings.Join -/
noncomputable def g_strings_Join (x0 : List ByteArray) (x1 : ByteArray) : Option ByteArray := joinF x0 x1
noncomputable def e_g_strings_Join : CallE := ⟨127, [.d false (.list .str), .d false .str], [.l (.d false .str)], fun x => g_strings_Join x.1 x.2⟩
theorem o_g_strings_Join : FnOk Tryz.prog e_g_strings_Join.f ∧ Ctr False Tryz.prog e_g_strings_Join := ⟨⟨Tryz.f127, _, Tryz.func127, by kernel_rfl, rfl⟩, join_ctr layJoin builderX rfl⟩
/-! loop.example/g00959/impl.Join -/
noncomputable def i_Join (x0 : List ByteArray) (x1 : ByteArray) : Option (ByteArray) :=
(g_strings_Join x0 x1).bind fun v1 => some v1
noncomputable def e_i_Join : CallE := ⟨93, [.d false (.list .str), .d false .str], [.l (.d false .str)], fun x => i_Join x.1 x.2⟩
noncomputable def c_i_Join : Ctx := ⟨Tryz.prog, TT, [e_g_strings_Join], [], [], [], [], []⟩
theorem k_i_Join (x : PMs.den e_i_Join.ps) : funK c_i_Join Tryz.f93 e_i_Join.ps e_i_Join.rs x = e_i_Join.F x := by kernel_rfl
theorem o_i_Join : FnOk Tryz.prog e_i_Join.f ∧ Ctr False Tryz.prog e_i_Join := mkCtr (C := c_i_Join) m_ (⟨o_g_strings_Join, trivial⟩) Tryz.func93 (by kernel_rfl) k_i_Join
/-! loop.example/g00959/impl.texts -/
noncomputable def i_texts_s3 (x0 : List Int) (v1 : List ByteArray × Int) : Option ((List ByteArray × Int) ⊕ (List ByteArray)) :=
 cond (decide (v1.2 < (x0.length : Int)))
 ((idx x0 v1.2).bind fun v2 => (i_FormatInt v2).bind fun v3 => (appD 16 v1.1 ([v3] : List ByteArray)).bind fun v4 => some (.inl (v4, (IntKind.i64.wrap (v1.2 + (1 : Int))))))
 (some (.inr v1.1))
noncomputable def i_texts (x0 : List Int) : Option (ByteArray) :=
(iter (i_texts_s3 x0) (([] : List ByteArray), (0 : Int))).bind fun v5 => (i_Join v5 (⟨#[44]⟩ : ByteArray)).bind fun v6 => some v6
noncomputable def e_i_texts : CallE := ⟨50, [.d false (.list (.int .i64))], [.l (.d false .str)], fun x => i_texts x⟩
noncomputable def c_i_texts : Ctx := ⟨Tryz.prog, TT, [e_i_FormatInt, e_i_Join], [⟨3, [(3, .l (.o true 9 .str)), (8, .l (.d false (.int .i64)))], some (0, [(3, .l (.o true 9 .str))]), none, false⟩], [], [], [], []⟩
theorem k_i_texts (x : PMs.den e_i_texts.ps) : funK c_i_texts Tryz.f50 e_i_texts.ps e_i_texts.rs x = e_i_texts.F x := by kernel_rfl
theorem o_i_texts : FnOk Tryz.prog e_i_texts.f ∧ Ctr False Tryz.prog e_i_texts := mkCtr (C := c_i_texts) m_ (⟨o_i_FormatInt, o_i_Join, trivial⟩) Tryz.func50 (by kernel_rfl) k_i_texts
/-! loop.example/g00959/impl.lattice -/
noncomputable def i_lattice_s10 (x1 : List Int) (v1 : List (List Int) × Int) (v3 : List Int) (v5 : List (List Int) × Int) : Option ((List (List Int) × Int) ⊕ (List (List Int))) :=
(idx x1 v1.2).bind fun v6 => cond (decide (v5.2 ≤ v6))
 ((i_copyInts v3).bind fun v7 => (appD 8 v7 ([v5.2] : List Int)).bind fun v8 => (appD 24 v5.1 ([v8] : List (List Int))).bind fun v9 => some (.inl (v9, (IntKind.i64.wrap (v5.2 + (1 : Int))))))
 (some (.inr v5.1))
noncomputable def i_lattice_s7 (x0 : List Int) (x1 : List Int) (v1 : List (List Int) × Int) (v2 : List (List Int) × Int) : Option ((List (List Int) × Int) ⊕ (List (List Int))) :=
 cond (decide (v2.2 < (v1.1.length : Int)))
 ((idx v1.1 v2.2).bind fun v3 => (idx x0 v1.2).bind fun v4 => (iter (i_lattice_s10 x1 v1 v3) (v2.1, v4)).bind fun v10 => some (.inl (v10, (IntKind.i64.wrap (v2.2 + (1 : Int))))))
 (some (.inr v2.1))
noncomputable def i_lattice_s3 (x0 : List Int) (x1 : List Int) (v1 : List (List Int) × Int) : Option ((List (List Int) × Int) ⊕ (List (List Int))) :=
 cond (decide (v1.2 < (x0.length : Int)))
 ((iter (i_lattice_s7 x0 x1 v1) (([] : List (List Int)), (0 : Int))).bind fun v11 => some (.inl (v11, (IntKind.i64.wrap (v1.2 + (1 : Int))))))
 (some (.inr v1.1))
noncomputable def i_lattice (x0 : List Int) (x1 : List Int) : Option (List (List Int)) :=
(iter (i_lattice_s3 x0 x1) (([([] : List Int)] : List (List Int)), (0 : Int))).bind fun v12 => some v12
noncomputable def e_i_lattice : CallE := ⟨128, [.d false (.list (.int .i64)), .d false (.list (.int .i64))], [.l (.o true 44 (.list (.int .i64)))], fun x => i_lattice x.1 x.2⟩
noncomputable def c_i_lattice : Ctx := ⟨Tryz.prog, TT, [e_i_copyInts], [⟨3, [(5, .l (.o true 44 (.list (.int .i64)))), (14, .l (.d false (.int .i64)))], some (0, [(5, .l (.o true 44 (.list (.int .i64))))]), none, false⟩, ⟨7, [(7, .l (.o true 44 (.list (.int .i64)))), (19, .l (.d false (.int .i64)))], some (2, [(7, .l (.o true 44 (.list (.int .i64))))]), none, false⟩, ⟨10, [(7, .l (.o true 44 (.list (.int .i64)))), (10, .l (.d false (.int .i64)))], some (4, [(7, .l (.o true 44 (.list (.int .i64))))]), none, false⟩], [], [], [], []⟩
theorem k_i_lattice (x : PMs.den e_i_lattice.ps) : funK c_i_lattice Tryz.f128 e_i_lattice.ps e_i_lattice.rs x = e_i_lattice.F x := by kernel_rfl
theorem o_i_lattice {D : Prop} : FnOk Tryz.prog e_i_lattice.f ∧ Ctr D Tryz.prog e_i_lattice := mkCtr (C := c_i_lattice) m_ (⟨o_i_copyInts, trivial⟩) Tryz.func128 (by kernel_rfl) k_i_lattice
/-! loop.example/g00959/impl.directions -/
noncomputable def i_directions_s3 (v1 : List (List Int)) (s : Int × List Nat) : Option ((Int × List Nat) ⊕ List Nat) :=
 cond (decide (s.1 < (v1.length : Int))) ((inIdx v1.length s.1).bind fun _ => if s.1.toNat < v1.length then (v1[s.1.toNat]?).bind fun q => (idx q 0).bind fun x => cond (decide (x > 0)) ((appD 24 s.2 [s.1.toNat]).bind fun v6 => some (.inl (IntKind.i64.wrap (s.1 + 1), v6)))
 ((v1[s.1.toNat]?).bind fun q => (idx q 1).bind fun x => cond (decide (x > 0)) ((appD 24 s.2 [s.1.toNat]).bind fun v6 => some (.inl (IntKind.i64.wrap (s.1 + 1), v6))) (some (.inl (IntKind.i64.wrap (s.1 + 1), s.2)))) else none) (some (.inr s.2))
noncomputable def i_directions : Option (List (List Int)) :=
(i_lattice ([(0 : Int), (-12 : Int)] : List Int) ([(12 : Int), (12 : Int)] : List Int)).bind fun v1 => (iter (i_directions_s3 v1) (0, [])).bind fun v7 => if v7.Nodup then some (pickU v1 v7) else none
noncomputable def e_i_directions : CallE := ⟨94, [], [.l (.o true 44 (.list (.int .i64)))], fun x => i_directions⟩
noncomputable def c_i_directions : Ctx := ⟨Tryz.prog, TT, [e_i_lattice], [], [], [], [], []⟩
theorem k_i_directions (x : PMs.den e_i_directions.ps) : funU c_i_directions [⟨3, 0, 8⟩] 44 1 6 3 Tryz.f94 e_i_directions.ps x = e_i_directions.F x := by kernel_rfl
theorem o_i_directions {D : Prop} : FnOk Tryz.prog e_i_directions.f ∧ Ctr D Tryz.prog e_i_directions := mkCtrU (C := c_i_directions) 0 m_ (⟨o_i_lattice, trivial⟩) Tryz.func94 (by kernel_rfl) (by kernel_rfl) rfl k_i_directions
/-! loop.example/g00959/impl.dot -/
noncomputable def i_dot_s3 (x0 : List Int) (x1 : List Int) (v1 : Int × Int) : Option ((Int × Int) ⊕ (Int)) :=
 cond (decide (v1.2 < (x0.length : Int)))
 ((idx x0 v1.2).bind fun v2 => (idx x1 v1.2).bind fun v3 => some (.inl ((IntKind.i64.wrap (v1.1 + (IntKind.i64.wrap (v2 * v3)))), (IntKind.i64.wrap (v1.2 + (1 : Int))))))
 (some (.inr v1.1))
noncomputable def i_dot (x0 : List Int) (x1 : List Int) : Option (Int) :=
(iter (i_dot_s3 x0 x1) ((0 : Int), (0 : Int))).bind fun v4 => some v4
noncomputable def e_i_dot : CallE := ⟨154, [.d false (.list (.int .i64)), .d false (.list (.int .i64))], [.l (.d false (.int .i64))], fun x => i_dot x.1 x.2⟩
noncomputable def c_i_dot : Ctx := ⟨Tryz.prog, TT, [], [⟨3, [(5, .l (.d false (.int .i64))), (9, .l (.d false (.int .i64)))], some (0, [(5, .l (.d false (.int .i64)))]), none, false⟩], [], [], [], []⟩
theorem k_i_dot (x : PMs.den e_i_dot.ps) : funK c_i_dot Tryz.f154 e_i_dot.ps e_i_dot.rs x = e_i_dot.F x := by kernel_rfl
theorem o_i_dot {D : Prop} : FnOk Tryz.prog e_i_dot.f ∧ Ctr D Tryz.prog e_i_dot := mkCtr (C := c_i_dot) m_ (trivial) Tryz.func154 (by kernel_rfl) k_i_dot
/-! loop.example/g00959/impl.support -/
noncomputable def i_support_s3 (x0 : List (List Int)) (x1 : List Int) (v3 : Int × Int) : Option ((Int × Int) ⊕ (Int)) :=
 cond (decide (v3.2 < (x0.length : Int)))
 ((idx x0 v3.2).bind fun v4 => (i_dot x1 v4).bind fun v5 => some (.inl ((if v5 > v3.1 then v5 else v3.1), (IntKind.i64.wrap (v3.2 + (1 : Int))))))
 (some (.inr v3.1))
noncomputable def i_support (x0 : List (List Int)) (x1 : List Int) : Option (Int) :=
(idx x0 (0 : Int)).bind fun v1 => (i_dot x1 v1).bind fun v2 => (iter (i_support_s3 x0 x1) (v2, (0 : Int))).bind fun v6 => some v6
noncomputable def e_i_support : CallE := ⟨130, [.d false (.list (.list (.int .i64))), .d false (.list (.int .i64))], [.l (.d false (.int .i64))], fun x => i_support x.1 x.2⟩
noncomputable def c_i_support : Ctx := ⟨Tryz.prog, TT, [e_i_dot], [⟨3, [(5, .l (.d false (.int .i64))), (15, .l (.d false (.int .i64)))], some (0, [(5, .l (.d false (.int .i64)))]), none, false⟩], [], [], [], []⟩
theorem k_i_support (x : PMs.den e_i_support.ps) : funK c_i_support Tryz.f130 e_i_support.ps e_i_support.rs x = e_i_support.F x := by kernel_rfl
theorem o_i_support {D : Prop} : FnOk Tryz.prog e_i_support.f ∧ Ctr D Tryz.prog e_i_support := mkCtr (C := c_i_support) m_ (⟨o_i_dot, trivial⟩) Tryz.func130 (by kernel_rfl) k_i_support
/-! loop.example/g00959/impl.WidthIn -/
noncomputable def i_WidthIn (x0 : List (List Int)) (x1 : List Int) : Option (Int) :=
(i_IsPolygon x0).bind fun v1 => cond (!v1)
 (some (-1 : Int))
 ((i_IsVector x1).bind fun v2 => cond (!v2)
 (some (-1 : Int))
 (cond ((x1.length : Int) != (2 : Int))
 (some (-1 : Int))
 ((i_support x0 x1).bind fun v3 => (idx x1 (0 : Int)).bind fun v4 => (idx x1 (1 : Int)).bind fun v5 => (i_support x0 ([(IntKind.i64.wrap (0 - v4)), (IntKind.i64.wrap (0 - v5))] : List Int)).bind fun v6 => some (IntKind.i64.wrap (v3 + v6)))))
noncomputable def e_i_WidthIn : CallE := ⟨95, [.d false (.list (.list (.int .i64))), .d false (.list (.int .i64))], [.l (.d false (.int .i64))], fun x => i_WidthIn x.1 x.2⟩
noncomputable def c_i_WidthIn : Ctx := ⟨Tryz.prog, TT, [e_i_IsPolygon, e_i_IsVector, e_i_support], [], [], [], [], []⟩
theorem k_i_WidthIn (x : PMs.den e_i_WidthIn.ps) : funK c_i_WidthIn Tryz.f95 e_i_WidthIn.ps e_i_WidthIn.rs x = e_i_WidthIn.F x := by kernel_rfl
theorem o_i_WidthIn {D : Prop} : FnOk Tryz.prog e_i_WidthIn.f ∧ Ctr D Tryz.prog e_i_WidthIn := mkCtr (C := c_i_WidthIn) m_ (⟨o_i_IsPolygon, o_i_IsVector, o_i_support, trivial⟩) Tryz.func95 (by kernel_rfl) k_i_WidthIn
/-! loop.example/g00959/impl.LeastWidth -/
noncomputable def i_LeastWidth_s3 (x0 : List (List Int)) (v1 : List (List Int)) (v2 : Int × Int) : Option ((Int × Int) ⊕ (Int)) :=
 cond (decide (v2.2 < (v1.length : Int)))
 ((idx v1 v2.2).bind fun v3 => (i_WidthIn x0 v3).bind fun v4 => cond (decide (v2.1 < (0 : Int)))
 (some (.inl (v4, (IntKind.i64.wrap (v2.2 + (1 : Int))))))
 (cond (decide (v4 < v2.1))
 (some (.inl (v4, (IntKind.i64.wrap (v2.2 + (1 : Int))))))
 (some (.inl (v2.1, (IntKind.i64.wrap (v2.2 + (1 : Int))))))))
 (some (.inr v2.1))
noncomputable def i_LeastWidth (x0 : List (List Int)) : Option (Int) :=
(i_directions).bind fun v1 => (iter (i_LeastWidth_s3 x0 v1) ((-1 : Int), (0 : Int))).bind fun v5 => some v5
noncomputable def e_i_LeastWidth : CallE := ⟨52, [.d false (.list (.list (.int .i64)))], [.l (.d false (.int .i64))], fun x => i_LeastWidth x⟩
noncomputable def c_i_LeastWidth : Ctx := ⟨Tryz.prog, TT, [e_i_directions, e_i_WidthIn], [⟨3, [(3, .l (.d false (.int .i64))), (9, .l (.d false (.int .i64)))], some (0, [(3, .l (.d false (.int .i64)))]), none, false⟩], [], [], [], []⟩
theorem k_i_LeastWidth (x : PMs.den e_i_LeastWidth.ps) : funK c_i_LeastWidth Tryz.f52 e_i_LeastWidth.ps e_i_LeastWidth.rs x = e_i_LeastWidth.F x := by kernel_rfl
theorem o_i_LeastWidth {D : Prop} : FnOk Tryz.prog e_i_LeastWidth.f ∧ Ctr D Tryz.prog e_i_LeastWidth := mkCtr (C := c_i_LeastWidth) m_ (⟨o_i_directions, o_i_WidthIn, trivial⟩) Tryz.func52 (by kernel_rfl) k_i_LeastWidth
/-! loop.example/g00959/impl.GcdOf -/
noncomputable def i_GcdOf (x0 : List Int) : Option (Int) :=
(i_IsVector x0).bind fun v1 => cond (!v1)
 (some (-1 : Int))
 ((i_gcdAll x0).bind fun v2 => some v2)
noncomputable def e_i_GcdOf : CallE := ⟨155, [.d false (.list (.int .i64))], [.l (.d false (.int .i64))], fun x => i_GcdOf x⟩
noncomputable def c_i_GcdOf : Ctx := ⟨Tryz.prog, TT, [e_i_IsVector, e_i_gcdAll], [], [], [], [], []⟩
theorem k_i_GcdOf (x : PMs.den e_i_GcdOf.ps) : funK c_i_GcdOf Tryz.f155 e_i_GcdOf.ps e_i_GcdOf.rs x = e_i_GcdOf.F x := by kernel_rfl
theorem o_i_GcdOf {D : Prop} : FnOk Tryz.prog e_i_GcdOf.f ∧ Ctr D Tryz.prog e_i_GcdOf := mkCtr (C := c_i_GcdOf) m_ (⟨o_i_IsVector, o_i_gcdAll, trivial⟩) Tryz.func155 (by kernel_rfl) k_i_GcdOf
/-! loop.example/g00959/impl.PrimitiveOf -/
noncomputable def i_PrimitiveOf_s6 (v1 : Int) (v2 : List Int) (v3 : List Int × Int) : Option ((List Int × Int) ⊕ (List Int)) :=
 cond (decide (v3.2 < (v2.length : Int)))
 ((inIdx v3.1.length v3.2).bind fun _ => (idx v3.1 ((v3.2).toNat : Int)).bind fun v4 => (quoI .i64 v4 v1).bind fun v5 => (inIdx v3.1.length v3.2).bind fun _ => (inIdx v3.1.length ((v3.2).toNat : Int)).bind fun _ => some (.inl ((v3.1.set ((v3.2).toNat) v5), (IntKind.i64.wrap (v3.2 + (1 : Int))))))
 (some (.inr v3.1))
noncomputable def i_PrimitiveOf (x0 : List Int) : Option (List Int × Bool) :=
(i_GcdOf x0).bind fun v1 => cond (decide (v1 ≤ (0 : Int)))
 (some (([] : List Int), false))
 ((i_copyInts x0).bind fun v2 => (iter (i_PrimitiveOf_s6 v1 v2) (v2, (0 : Int))).bind fun v6 => some (v6, true))
noncomputable def e_i_PrimitiveOf : CallE := ⟨131, [.d false (.list (.int .i64))], [.l (.o true 3 (.int .i64)), .l (.d false .bool)], fun x => i_PrimitiveOf x⟩
noncomputable def c_i_PrimitiveOf : Ctx := ⟨Tryz.prog, TT, [e_i_GcdOf, e_i_copyInts], [⟨6, [(5, .l (.o true 3 (.int .i64))), (15, .l (.d false (.int .i64)))], some (0, [(5, .l (.o true 3 (.int .i64)))]), none, false⟩], [], [], [], []⟩
theorem k_i_PrimitiveOf (x : PMs.den e_i_PrimitiveOf.ps) : funK c_i_PrimitiveOf Tryz.f131 e_i_PrimitiveOf.ps e_i_PrimitiveOf.rs x = e_i_PrimitiveOf.F x := by kernel_rfl
theorem o_i_PrimitiveOf {D : Prop} : FnOk Tryz.prog e_i_PrimitiveOf.f ∧ Ctr D Tryz.prog e_i_PrimitiveOf := mkCtr (C := c_i_PrimitiveOf) m_ (⟨o_i_GcdOf, o_i_copyInts, trivial⟩) Tryz.func131 (by kernel_rfl) k_i_PrimitiveOf
/-! loop.example/g00959/impl.IsCone -/
noncomputable def i_IsCone (x0 : (List Int) × (List Int)) : Option (Bool) :=
(i_isPoint x0.1 (30 : Int)).bind fun v1 => cond v1
 ((i_isPoint x0.2 (30 : Int)).bind fun v2 => cond v2
 ((i_gcdAll x0.1).bind fun v3 => cond (v3 == (1 : Int))
 ((i_gcdAll x0.2).bind fun v4 => cond (v4 == (1 : Int))
 ((i_cross x0.1 x0.2).bind fun v5 => some (decide (v5 > (0 : Int))))
 (some false))
 (some false))
 (some false))
 (some false)
noncomputable def e_i_IsCone : CallE := ⟨132, [.d false (.prod (.list (.int .i64)) (.list (.int .i64)))], [.l (.d false .bool)], fun x => i_IsCone x⟩
noncomputable def c_i_IsCone : Ctx := ⟨Tryz.prog, TT, [e_i_isPoint, e_i_gcdAll, e_i_cross], [], [], [], [], []⟩
theorem k_i_IsCone (x : PMs.den e_i_IsCone.ps) : funK c_i_IsCone Tryz.f132 e_i_IsCone.ps e_i_IsCone.rs x = e_i_IsCone.F x := by kernel_rfl
theorem o_i_IsCone {D : Prop} : FnOk Tryz.prog e_i_IsCone.f ∧ Ctr D Tryz.prog e_i_IsCone := mkCtr (C := c_i_IsCone) m_ (⟨o_i_isPoint, o_i_gcdAll, o_i_cross, trivial⟩) Tryz.func132 (by kernel_rfl) k_i_IsCone
/-! loop.example/g00959/impl.CornerCone -/
noncomputable def i_CornerCone (x0 : List (List Int)) (x1 : Int) : Option ((List Int × List Int) × Bool) :=
(i_IsPolygon x0).bind fun v1 => cond (!v1)
 (some ((([] : List Int), ([] : List Int)), false))
 ((i_within x1 (0 : Int) (IntKind.i64.wrap ((x0.length : Int) - (1 : Int)))).bind fun v2 => cond (!v2)
 (some ((([] : List Int), ([] : List Int)), false))
 ((remI .i64 (IntKind.i64.wrap (x1 + (1 : Int))) (x0.length : Int)).bind fun v3 => (idx x0 v3).bind fun v4 => (idx x0 x1).bind fun v5 => (i_minus v4 v5).bind fun v6 => (i_PrimitiveOf v6).bind fun v7 => (remI .i64 (IntKind.i64.wrap ((IntKind.i64.wrap (x1 + (x0.length : Int))) - (1 : Int))) (x0.length : Int)).bind fun v8 => (idx x0 v8).bind fun v9 => (idx x0 x1).bind fun v10 => (i_minus v9 v10).bind fun v11 => (i_PrimitiveOf v11).bind fun v12 => (i_IsCone (v7.1, v12.1)).bind fun v13 => cond (!v13)
 (some ((([] : List Int), ([] : List Int)), false))
 (some ((v7.1, v12.1), true))))
noncomputable def e_i_CornerCone : CallE := ⟨96, [.d false (.list (.list (.int .i64))), .d false (.int .i64)], [.a [(.o true 3 (.int .i64)), (.o true 3 (.int .i64))], .l (.d false .bool)], fun x => i_CornerCone x.1 x.2⟩
noncomputable def c_i_CornerCone : Ctx := ⟨Tryz.prog, TT, [e_i_IsPolygon, e_i_within, e_i_minus, e_i_PrimitiveOf, e_i_IsCone], [], [], [], [], []⟩
theorem k_i_CornerCone (x : PMs.den e_i_CornerCone.ps) : funK c_i_CornerCone Tryz.f96 e_i_CornerCone.ps e_i_CornerCone.rs x = e_i_CornerCone.F x := by kernel_rfl
theorem o_i_CornerCone {D : Prop} : FnOk Tryz.prog e_i_CornerCone.f ∧ Ctr D Tryz.prog e_i_CornerCone := mkCtr (C := c_i_CornerCone) m_ (⟨o_i_IsPolygon, o_i_within, o_i_minus, o_i_PrimitiveOf, o_i_IsCone, trivial⟩) Tryz.func96 (by kernel_rfl) k_i_CornerCone
/-! loop.example/g00959/impl.ConeIndex -/
noncomputable def i_ConeIndex (x0 : (List Int) × (List Int)) : Option (Int) :=
(i_IsCone (x0.1, x0.2)).bind fun v1 => cond (!v1)
 (some (0 : Int))
 ((i_cross x0.1 x0.2).bind fun v2 => some v2)
noncomputable def e_i_ConeIndex : CallE := ⟨97, [.d false (.prod (.list (.int .i64)) (.list (.int .i64)))], [.l (.d false (.int .i64))], fun x => i_ConeIndex x⟩
noncomputable def c_i_ConeIndex : Ctx := ⟨Tryz.prog, TT, [e_i_IsCone, e_i_cross], [], [], [], [], []⟩
theorem k_i_ConeIndex (x : PMs.den e_i_ConeIndex.ps) : funK c_i_ConeIndex Tryz.f97 e_i_ConeIndex.ps e_i_ConeIndex.rs x = e_i_ConeIndex.F x := by kernel_rfl
theorem o_i_ConeIndex {D : Prop} : FnOk Tryz.prog e_i_ConeIndex.f ∧ Ctr D Tryz.prog e_i_ConeIndex := mkCtr (C := c_i_ConeIndex) m_ (⟨o_i_IsCone, o_i_cross, trivial⟩) Tryz.func97 (by kernel_rfl) k_i_ConeIndex
/-! loop.example/g00959/impl.SmoothCorners -/
noncomputable def i_SmoothCorners_s5 (x0 : List (List Int)) (v2 : Int × Int) : Option ((Int × Int) ⊕ ((Int) ⊕ (Int))) :=
 cond (decide (v2.2 < (x0.length : Int)))
 ((i_CornerCone x0 v2.2).bind fun v3 => cond (!v3.2)
 (some (.inr (.inr (-1 : Int))))
 ((i_ConeIndex (v3.1.1, v3.1.2)).bind fun v4 => cond (v4 == (1 : Int))
 (some (.inl ((IntKind.i64.wrap (v2.1 + (1 : Int))), (IntKind.i64.wrap (v2.2 + (1 : Int))))))
 (some (.inl (v2.1, (IntKind.i64.wrap (v2.2 + (1 : Int))))))))
 (some (.inr (.inl v2.1)))
noncomputable def i_SmoothCorners (x0 : List (List Int)) : Option (Int) :=
(i_IsPolygon x0).bind fun v1 => cond (!v1)
 (some (-1 : Int))
 ((iter (i_SmoothCorners_s5 x0) ((0 : Int), (0 : Int))).bind fun v5 => match v5 with
 | .inl v6 => (some v6)
 | .inr v7 => (some v7))
noncomputable def e_i_SmoothCorners : CallE := ⟨53, [.d false (.list (.list (.int .i64)))], [.l (.d false (.int .i64))], fun x => i_SmoothCorners x⟩
noncomputable def c_i_SmoothCorners : Ctx := ⟨Tryz.prog, TT, [e_i_IsPolygon, e_i_CornerCone, e_i_ConeIndex], [⟨5, [(3, .l (.d false (.int .i64))), (12, .l (.d false (.int .i64)))], some (0, [(3, .l (.d false (.int .i64)))]), some [(2, .l (.d false (.int .i64)))], false⟩], [], [], [], []⟩
theorem k_i_SmoothCorners (x : PMs.den e_i_SmoothCorners.ps) : funK c_i_SmoothCorners Tryz.f53 e_i_SmoothCorners.ps e_i_SmoothCorners.rs x = e_i_SmoothCorners.F x := by kernel_rfl
theorem o_i_SmoothCorners {D : Prop} : FnOk Tryz.prog e_i_SmoothCorners.f ∧ Ctr D Tryz.prog e_i_SmoothCorners := mkCtr (C := c_i_SmoothCorners) m_ (⟨o_i_IsPolygon, o_i_CornerCone, o_i_ConeIndex, trivial⟩) Tryz.func53 (by kernel_rfl) k_i_SmoothCorners
/-! loop.example/g00959/impl.placeOf -/
noncomputable def i_placeOf_s3 (x0 : List (List Int)) (x1 : List Int) (v1 : Int × Int) : Option ((Int × Int) ⊕ ((Int) ⊕ (Int))) :=
 cond (decide (v1.2 < (x0.length : Int)))
 ((idx x0 v1.2).bind fun v2 => (remI .i64 (IntKind.i64.wrap (v1.2 + (1 : Int))) (x0.length : Int)).bind fun v3 => (idx x0 v3).bind fun v4 => (i_turn v2 v4 x1).bind fun v5 => cond (decide (v5 < (0 : Int)))
 (some (.inr (.inr (-1 : Int))))
 (cond (v5 == (0 : Int))
 (some (.inl ((0 : Int), (IntKind.i64.wrap (v1.2 + (1 : Int))))))
 (some (.inl (v1.1, (IntKind.i64.wrap (v1.2 + (1 : Int))))))))
 (some (.inr (.inl v1.1)))
noncomputable def i_placeOf (x0 : List (List Int)) (x1 : List Int) : Option (Int) :=
(iter (i_placeOf_s3 x0 x1) ((1 : Int), (0 : Int))).bind fun v6 => match v6 with
 | .inl v7 => (some v7)
 | .inr v8 => (some v8)
noncomputable def e_i_placeOf : CallE := ⟨133, [.d false (.list (.list (.int .i64))), .d false (.list (.int .i64))], [.l (.d false (.int .i64))], fun x => i_placeOf x.1 x.2⟩
noncomputable def c_i_placeOf : Ctx := ⟨Tryz.prog, TT, [e_i_turn], [⟨3, [(5, .l (.d false (.int .i64))), (11, .l (.d false (.int .i64)))], some (0, [(5, .l (.d false (.int .i64)))]), some [(4, .l (.d false (.int .i64)))], false⟩], [], [], [], []⟩
theorem k_i_placeOf (x : PMs.den e_i_placeOf.ps) : funK c_i_placeOf Tryz.f133 e_i_placeOf.ps e_i_placeOf.rs x = e_i_placeOf.F x := by kernel_rfl
theorem o_i_placeOf {D : Prop} : FnOk Tryz.prog e_i_placeOf.f ∧ Ctr D Tryz.prog e_i_placeOf := mkCtr (C := c_i_placeOf) m_ (⟨o_i_turn, trivial⟩) Tryz.func133 (by kernel_rfl) k_i_placeOf
/-! loop.example/g00959/impl.PlaceOf -/
noncomputable def i_PlaceOf (x0 : List (List Int)) (x1 : List Int) : Option (Int) :=
(i_IsPolygon x0).bind fun v1 => cond (!v1)
 (some (-1 : Int))
 ((i_IsVector x1).bind fun v2 => cond (!v2)
 (some (-1 : Int))
 (cond ((x1.length : Int) != (2 : Int))
 (some (-1 : Int))
 ((i_placeOf x0 x1).bind fun v3 => some v3)))
noncomputable def e_i_PlaceOf : CallE := ⟨98, [.d false (.list (.list (.int .i64))), .d false (.list (.int .i64))], [.l (.d false (.int .i64))], fun x => i_PlaceOf x.1 x.2⟩
noncomputable def c_i_PlaceOf : Ctx := ⟨Tryz.prog, TT, [e_i_IsPolygon, e_i_IsVector, e_i_placeOf], [], [], [], [], []⟩
theorem k_i_PlaceOf (x : PMs.den e_i_PlaceOf.ps) : funK c_i_PlaceOf Tryz.f98 e_i_PlaceOf.ps e_i_PlaceOf.rs x = e_i_PlaceOf.F x := by kernel_rfl
theorem o_i_PlaceOf {D : Prop} : FnOk Tryz.prog e_i_PlaceOf.f ∧ Ctr D Tryz.prog e_i_PlaceOf := mkCtr (C := c_i_PlaceOf) m_ (⟨o_i_IsPolygon, o_i_IsVector, o_i_placeOf, trivial⟩) Tryz.func98 (by kernel_rfl) k_i_PlaceOf
/-! loop.example/g00959/impl.IsReflexive -/
noncomputable def i_IsReflexive (x0 : List (List Int)) : Option (Bool) :=
(i_InnerCount x0).bind fun v1 => cond (v1 == (1 : Int))
 ((i_PlaceOf x0 ([(0 : Int), (0 : Int)] : List Int)).bind fun v2 => some (v2 == (1 : Int)))
 (some false)
noncomputable def e_i_IsReflexive : CallE := ⟨54, [.d false (.list (.list (.int .i64)))], [.l (.d false .bool)], fun x => i_IsReflexive x⟩
noncomputable def c_i_IsReflexive : Ctx := ⟨Tryz.prog, TT, [e_i_InnerCount, e_i_PlaceOf], [], [], [], [], []⟩
theorem k_i_IsReflexive (x : PMs.den e_i_IsReflexive.ps) : funK c_i_IsReflexive Tryz.f54 e_i_IsReflexive.ps e_i_IsReflexive.rs x = e_i_IsReflexive.F x := by kernel_rfl
theorem o_i_IsReflexive {D : Prop} : FnOk Tryz.prog e_i_IsReflexive.f ∧ Ctr D Tryz.prog e_i_IsReflexive := mkCtr (C := c_i_IsReflexive) m_ (⟨o_i_InnerCount, o_i_PlaceOf, trivial⟩) Tryz.func54 (by kernel_rfl) k_i_IsReflexive
/-! loop.example/g00959/impl.times -/
noncomputable def i_times_s2 (i : Nat) (m t : Int) (s : Int × List (List Int)) : Option ((Int × List (List Int)) ⊕ List (List Int)) :=
 cond (decide (s.1 < m)) ((s.2[i]?).bind fun q => (inIdx q.length s.1).bind fun _ => (s.2[i]?).bind fun q => (q[s.1.toNat]?).bind fun v => (s.2[i]?).bind fun q => (inIdx q.length s.1).bind fun _ => (s.2[i]?).bind fun q => (q[s.1.toNat]?).bind fun _ => some (.inl (IntKind.i64.wrap (s.1 + 1), s.2.set i (q.set s.1.toNat (IntKind.i64.wrap (v * t)))))) (some (.inr s.2))
noncomputable def i_times_s1 (n t : Int) (s : Int × List (List Int)) : Option ((Int × List (List Int)) ⊕ List (List Int)) :=
 cond (decide (s.1 < n)) ((inIdx s.2.length s.1).bind fun _ => if s.1.toNat < s.2.length then (s.2[s.1.toNat]?).bind fun q => (iter (i_times_s2 s.1.toNat q.length t) (0, s.2)).bind fun y => some (.inl (IntKind.i64.wrap (s.1 + 1), y)) else none) (some (.inr s.2))
noncomputable def i_times (x0 : List (List Int)) (x1 : Int) : Option (List (List Int)) := (i_copyPoints x0).bind fun v1 => (iter (i_times_s1 v1.length x1) (0, v1)).bind fun y => some y
noncomputable def e_i_times : CallE := ⟨135, [.d false (.list (.list (.int .i64))), .d false (.int .i64)], [.l (.o true 44 (.list (.int .i64)))], fun x => i_times x.1 x.2⟩
noncomputable def c_i_times : Ctx := ⟨Tryz.prog, TT, [e_i_copyPoints], [], [], [], [], []⟩
theorem k_i_times (x : PMs.den e_i_times.ps) : funWr c_i_times [⟨3, 0, 13⟩, ⟨6, 2, 19⟩] 0 11 Tryz.f135 e_i_times.ps e_i_times.rs x = e_i_times.F x := by kernel_rfl
theorem o_i_times {D : Prop} : FnOk Tryz.prog e_i_times.f ∧ Ctr D Tryz.prog e_i_times := mkCtrW (C := c_i_times) m_ (⟨o_i_copyPoints, trivial⟩) Tryz.func135 (by kernel_rfl) rfl k_i_times
/-! slices.SortFunc[[][]int,[]int] -/
noncomputable def g_slices_SortFunc (x0 : List (List Int)) : Option (Unit × ((List (List Int)) × Unit)) := sortF (fun a b => g_slices_Compare a b) x0
noncomputable def e_g_slices_SortFunc : CallE := ⟨156, [.io true 44 (.list (.int .i64)), .f 87], [], fun x => g_slices_SortFunc x.1⟩
theorem o_g_slices_SortFunc {D : Prop} : FnOk Tryz.prog e_g_slices_SortFunc.f ∧ Ctr D Tryz.prog e_g_slices_SortFunc := ⟨⟨Tryz.f156, _, Tryz.func156, by kernel_rfl, rfl⟩, sort_ctr laySort rfl (o_g_slices_Compare (D := True)).1 (o_g_slices_Compare (D := True)).2⟩
/-! slices.Reverse[[][]int,[]int] -/
noncomputable def g_slices_Reverse (x0 : List (List Int)) : Option (Unit × ((List (List Int)) × Unit)) := some ((), (x0.reverse, ()))
noncomputable def e_g_slices_Reverse : CallE := ⟨157, [.io true 44 (.list (.int .i64))], [], fun x => g_slices_Reverse x⟩
theorem o_g_slices_Reverse {D : Prop} : FnOk Tryz.prog e_g_slices_Reverse.f ∧ Ctr D Tryz.prog e_g_slices_Reverse := ⟨⟨Tryz.f157, _, Tryz.func157, by kernel_rfl, rfl⟩, rev_ctr layRev rfl⟩
/-! loop.example/g00959/impl.HullOf -/
noncomputable def i_HullOf_s4 (x0 : List (List Int)) (v1 : Int) : Option ((Int) ⊕ ((Unit) ⊕ (List (List Int) × Bool))) :=
 cond (decide (v1 < (x0.length : Int)))
 ((idx x0 v1).bind fun v2 => (i_isPoint v2 (50 : Int)).bind fun v3 => cond (!v3)
 (some (.inr (.inr (([] : List (List Int)), false))))
 (some (.inl (IntKind.i64.wrap (v1 + (1 : Int))))))
 (some (.inr (.inl ())))
noncomputable def i_HullOf_s19 (v9 : List (List Int) × List (List Int) × Int) (v11 : List Int) (v12 : List (List Int)) : Option ((List (List Int)) ⊕ (List (List Int))) :=
 cond (decide ((v12.length : Int) ≥ (IntKind.i64.wrap ((v9.2.1.length : Int) + (2 : Int)))))
 ((inIdx v12.length (IntKind.i64.wrap ((v12.length : Int) - (2 : Int)))).bind fun _ => (idx v12 (((IntKind.i64.wrap ((v12.length : Int) - (2 : Int)))).toNat : Int)).bind fun v13 => (inIdx v12.length (IntKind.i64.wrap ((v12.length : Int) - (1 : Int)))).bind fun _ => (idx v12 (((IntKind.i64.wrap ((v12.length : Int) - (1 : Int)))).toNat : Int)).bind fun v14 => (i_turn v13 v14 v11).bind fun v15 => cond (decide (v15 ≤ (0 : Int)))
 ((subl v12 0 (IntKind.i64.wrap ((v12.length : Int) - (1 : Int)))).bind fun v16 => some (.inl v16))
 (some (.inr v12)))
 (some (.inr v12))
noncomputable def i_HullOf_s17 (v9 : List (List Int) × List (List Int) × Int) (v10 : List (List Int) × Int) : Option ((List (List Int) × Int) ⊕ (List (List Int))) :=
 cond (decide (v10.2 < (v9.1.length : Int)))
 ((idx v9.1 v10.2).bind fun v11 => (iter (i_HullOf_s19 v9 v11) v10.1).bind fun v17 => (i_copyInts v11).bind fun v18 => (appD 24 v17 ([v18] : List (List Int))).bind fun v19 => some (.inl (v19, (IntKind.i64.wrap (v10.2 + (1 : Int))))))
 (some (.inr v10.1))
noncomputable def i_HullOf_s13 (v9 : List (List Int) × List (List Int) × Int) : Option ((List (List Int) × List (List Int) × Int) ⊕ (List (List Int))) :=
 cond (decide (v9.2.2 < (2 : Int)))
 ((iter (i_HullOf_s17 v9) (v9.2.1, (0 : Int))).bind fun v20 => (subl v20 0 (if (IntKind.i64.wrap ((v20.length : Int) - (1 : Int))) > (0 : Int) then (IntKind.i64.wrap ((v20.length : Int) - (1 : Int))) else (0 : Int))).bind fun v21 => (g_slices_Reverse v9.1).bind fun v22 => some (.inl (v22.2.1, (v21, (IntKind.i64.wrap (v9.2.2 + (1 : Int)))))))
 (some (.inr v9.2.1))
noncomputable def i_HullOf (x0 : List (List Int)) : Option (List (List Int) × Bool) :=
 cond (decide ((x0.length : Int) > (200 : Int)))
 (some (([] : List (List Int)), false))
 ((iter (i_HullOf_s4 x0) (0 : Int)).bind fun v4 => match v4 with
 | .inl v5 => ((i_copyPoints x0).bind fun v7 => (g_slices_SortFunc v7).bind fun v8 => (iter (i_HullOf_s13) (v8.2.1, (([] : List (List Int)), (0 : Int)))).bind fun v23 => (i_IsPolygon v23).bind fun v24 => cond (!v24)
 (some (([] : List (List Int)), false))
 (some (v23, true)))
 | .inr v6 => (some (v6.1, v6.2)))
noncomputable def e_i_HullOf : CallE := ⟨134, [.d false (.list (.list (.int .i64)))], [.l (.o true 44 (.list (.int .i64))), .l (.d false .bool)], fun x => i_HullOf x⟩
noncomputable def c_i_HullOf : Ctx := ⟨Tryz.prog, TT, [e_i_isPoint, e_i_copyPoints, e_g_slices_SortFunc, e_i_turn, e_i_copyInts, e_g_slices_Reverse, e_i_IsPolygon], [⟨4, [(17, .l (.d false (.int .i64)))], some (0, []), some [(2, .l (.o true 44 (.list (.int .i64)))), (3, .l (.d false .bool))], false⟩, ⟨13, [(6, .l (.o true 44 (.list (.int .i64)))), (7, .l (.o true 44 (.list (.int .i64)))), (8, .l (.d false (.int .i64)))], some (2, [(7, .l (.o true 44 (.list (.int .i64))))]), none, false⟩, ⟨17, [(7, .l (.o true 44 (.list (.int .i64)))), (37, .l (.d false (.int .i64)))], some (4, [(7, .l (.o true 44 (.list (.int .i64))))]), none, true⟩, ⟨19, [(7, .l (.o true 44 (.list (.int .i64))))], some (6, [(7, .l (.o true 44 (.list (.int .i64))))]), none, false⟩], [], [], [], []⟩
theorem k_i_HullOf (x : PMs.den e_i_HullOf.ps) : funK c_i_HullOf Tryz.f134 e_i_HullOf.ps e_i_HullOf.rs x = e_i_HullOf.F x := by kernel_rfl
theorem o_i_HullOf {D : Prop} : FnOk Tryz.prog e_i_HullOf.f ∧ Ctr D Tryz.prog e_i_HullOf := mkCtr (C := c_i_HullOf) m_ (⟨o_i_isPoint, o_i_copyPoints, o_g_slices_SortFunc, o_i_turn, o_i_copyInts, o_g_slices_Reverse, o_i_IsPolygon, trivial⟩) Tryz.func134 (by kernel_rfl) k_i_HullOf
/-! loop.example/g00959/impl.MirrorPolygon -/
noncomputable def i_MirrorPolygon (x0 : List (List Int)) : Option (List (List Int) × Bool) :=
(i_IsPolygon x0).bind fun v1 => cond (!v1)
 (some (([] : List (List Int)), false))
 ((i_times x0 (-1 : Int)).bind fun v2 => (i_HullOf v2).bind fun v3 => some (v3.1, v3.2))
noncomputable def e_i_MirrorPolygon : CallE := ⟨99, [.d false (.list (.list (.int .i64)))], [.l (.o true 44 (.list (.int .i64))), .l (.d false .bool)], fun x => i_MirrorPolygon x⟩
noncomputable def c_i_MirrorPolygon : Ctx := ⟨Tryz.prog, TT, [e_i_IsPolygon, e_i_times, e_i_HullOf], [], [], [], [], []⟩
theorem k_i_MirrorPolygon (x : PMs.den e_i_MirrorPolygon.ps) : funK c_i_MirrorPolygon Tryz.f99 e_i_MirrorPolygon.ps e_i_MirrorPolygon.rs x = e_i_MirrorPolygon.F x := by kernel_rfl
theorem o_i_MirrorPolygon {D : Prop} : FnOk Tryz.prog e_i_MirrorPolygon.f ∧ Ctr D Tryz.prog e_i_MirrorPolygon := mkCtr (C := c_i_MirrorPolygon) m_ (⟨o_i_IsPolygon, o_i_times, o_i_HullOf, trivial⟩) Tryz.func99 (by kernel_rfl) k_i_MirrorPolygon
/-! slices.Equal[[]int,int] -/
noncomputable def g_slices_Equal_s4 (x0 : List Int) (x1 : List Int) (v1 : Int) : Option ((Int) ⊕ ((Unit) ⊕ (Bool))) :=
 cond (decide (v1 < (x0.length : Int)))
 ((idx x0 v1).bind fun v2 => (idx x1 v1).bind fun v3 => cond (v2 != v3)
 (some (.inr (.inr false)))
 (some (.inl (IntKind.i64.wrap (v1 + (1 : Int))))))
 (some (.inr (.inl ())))
noncomputable def g_slices_Equal (x0 : List Int) (x1 : List Int) : Option (Bool) :=
 cond ((x0.length : Int) != (x1.length : Int))
 (some false)
 ((iter (g_slices_Equal_s4 x0 x1) (0 : Int)).bind fun v4 => match v4 with
 | .inl v5 => (some true)
 | .inr v6 => (some v6))
noncomputable def e_g_slices_Equal : CallE := ⟨100, [.d false (.list (.int .i64)), .d false (.list (.int .i64))], [.l (.d false .bool)], fun x => g_slices_Equal x.1 x.2⟩
noncomputable def c_g_slices_Equal : Ctx := ⟨Tryz.prog, TT, [], [⟨4, [(13, .l (.d false (.int .i64)))], some (0, []), some [(4, .l (.d false .bool))], false⟩], [], [], [], []⟩
theorem k_g_slices_Equal (x : PMs.den e_g_slices_Equal.ps) : funK c_g_slices_Equal Tryz.f100 e_g_slices_Equal.ps e_g_slices_Equal.rs x = e_g_slices_Equal.F x := by kernel_rfl
theorem o_g_slices_Equal {D : Prop} : FnOk Tryz.prog e_g_slices_Equal.f ∧ Ctr D Tryz.prog e_g_slices_Equal := mkCtr (C := c_g_slices_Equal) m_ (trivial) Tryz.func100 (by kernel_rfl) k_g_slices_Equal
/-! loop.example/g00959/impl.IsSymmetricPolygon -/
noncomputable def i_IsSymmetricPolygon_s5 (x0 : List (List Int)) (v1 : List (List Int) × Bool) (v2 : Int) : Option ((Int) ⊕ ((Unit) ⊕ (Bool))) :=
 cond (decide (v2 < (x0.length : Int)))
 ((idx x0 v2).bind fun v3 => (idx v1.1 v2).bind fun v4 => (i_minus v3 v4).bind fun v5 => (idx x0 (0 : Int)).bind fun v6 => (idx v1.1 (0 : Int)).bind fun v7 => (i_minus v6 v7).bind fun v8 => (g_slices_Equal v5 v8).bind fun v9 => cond (!v9)
 (some (.inr (.inr false)))
 (some (.inl (IntKind.i64.wrap (v2 + (1 : Int))))))
 (some (.inr (.inl ())))
noncomputable def i_IsSymmetricPolygon (x0 : List (List Int)) : Option (Bool) :=
(i_MirrorPolygon x0).bind fun v1 => cond (!v1.2)
 (some false)
 ((iter (i_IsSymmetricPolygon_s5 x0 v1) (0 : Int)).bind fun v10 => match v10 with
 | .inl v11 => (some true)
 | .inr v12 => (some v12))
noncomputable def e_i_IsSymmetricPolygon : CallE := ⟨55, [.d false (.list (.list (.int .i64)))], [.l (.d false .bool)], fun x => i_IsSymmetricPolygon x⟩
noncomputable def c_i_IsSymmetricPolygon : Ctx := ⟨Tryz.prog, TT, [e_i_MirrorPolygon, e_i_minus, e_g_slices_Equal], [⟨5, [(16, .l (.d false (.int .i64)))], some (0, []), some [(2, .l (.d false .bool))], false⟩], [], [], [], []⟩
theorem k_i_IsSymmetricPolygon (x : PMs.den e_i_IsSymmetricPolygon.ps) : funK c_i_IsSymmetricPolygon Tryz.f55 e_i_IsSymmetricPolygon.ps e_i_IsSymmetricPolygon.rs x = e_i_IsSymmetricPolygon.F x := by kernel_rfl
theorem o_i_IsSymmetricPolygon {D : Prop} : FnOk Tryz.prog e_i_IsSymmetricPolygon.f ∧ Ctr D Tryz.prog e_i_IsSymmetricPolygon := mkCtr (C := c_i_IsSymmetricPolygon) m_ (⟨o_i_MirrorPolygon, o_i_minus, o_g_slices_Equal, trivial⟩) Tryz.func55 (by kernel_rfl) k_i_IsSymmetricPolygon
/-! loop.example/g00959/impl.DescribePolygon -/
noncomputable def i_DescribePolygon (x0 : List (List Int)) : Option (ByteArray) :=
(i_IsPolygon x0).bind fun v1 => cond (!v1)
 (some (⟨#[]⟩ : ByteArray))
 ((i_AreaTwice x0).bind fun v2 => (i_FormatInt v2).bind fun v3 => (catS (⟨#[97, 114, 101, 97, 32]⟩ : ByteArray) v3).bind fun v4 => (catS v4 (⟨#[32, 98, 111, 117, 110, 100, 97, 114, 121, 32]⟩ : ByteArray)).bind fun v5 => (i_BoundaryCount x0).bind fun v6 => (i_FormatInt v6).bind fun v7 => (catS v5 v7).bind fun v8 => (catS v8 (⟨#[32, 105, 110, 110, 101, 114, 32]⟩ : ByteArray)).bind fun v9 => (i_InnerCount x0).bind fun v10 => (i_FormatInt v10).bind fun v11 => (catS v9 v11).bind fun v12 => (i_EhrhartAt x0 (1 : Int)).bind fun v13 => (i_FormatInt v13).bind fun v14 => (catS (⟨#[32, 112, 111, 105, 110, 116, 115, 32]⟩ : ByteArray) v14).bind fun v15 => (catS v15 (⟨#[32, 116, 111, 112, 32]⟩ : ByteArray)).bind fun v16 => (i_SeriesTop x0).bind fun v17 => (i_texts v17).bind fun v18 => (catS v16 v18).bind fun v19 => (catS v19 (⟨#[32, 119, 105, 100, 116, 104, 32]⟩ : ByteArray)).bind fun v20 => (i_LeastWidth x0).bind fun v21 => (i_FormatInt v21).bind fun v22 => (catS v20 v22).bind fun v23 => (catS v23 (⟨#[32, 115, 109, 111, 111, 116, 104, 32]⟩ : ByteArray)).bind fun v24 => (i_SmoothCorners x0).bind fun v25 => (i_FormatInt v25).bind fun v26 => (catS v24 v26).bind fun v27 => (catS v12 v27).bind fun v28 => (i_IsReflexive x0).bind fun v29 => cond v29
 ((catS v28 (⟨#[32, 114, 101, 102, 108, 101, 120, 105, 118, 101]⟩ : ByteArray)).bind fun v30 => (i_IsSymmetricPolygon x0).bind fun v31 => cond v31
 ((catS v30 (⟨#[32, 115, 121, 109, 109, 101, 116, 114, 105, 99]⟩ : ByteArray)).bind fun v32 => some v32)
 (some v30))
 ((catS v28 (⟨#[32, 111, 116, 104, 101, 114]⟩ : ByteArray)).bind fun v33 => (i_IsSymmetricPolygon x0).bind fun v34 => cond v34
 ((catS v33 (⟨#[32, 115, 121, 109, 109, 101, 116, 114, 105, 99]⟩ : ByteArray)).bind fun v35 => some v35)
 (some v33)))
noncomputable def e_i_DescribePolygon : CallE := ⟨15, [.d false (.list (.list (.int .i64)))], [.l (.d false .str)], fun x => i_DescribePolygon x⟩
noncomputable def c_i_DescribePolygon : Ctx := ⟨Tryz.prog, TT, [e_i_IsPolygon, e_i_AreaTwice, e_i_FormatInt, e_i_BoundaryCount, e_i_InnerCount, e_i_EhrhartAt, e_i_SeriesTop, e_i_texts, e_i_LeastWidth, e_i_SmoothCorners, e_i_IsReflexive, e_i_IsSymmetricPolygon], [], [], [], [], []⟩
theorem k_i_DescribePolygon (x : PMs.den e_i_DescribePolygon.ps) : funK c_i_DescribePolygon Tryz.f15 e_i_DescribePolygon.ps e_i_DescribePolygon.rs x = e_i_DescribePolygon.F x := by kernel_rfl
theorem o_i_DescribePolygon : FnOk Tryz.prog e_i_DescribePolygon.f ∧ Ctr False Tryz.prog e_i_DescribePolygon := mkCtr (C := c_i_DescribePolygon) m_ (⟨o_i_IsPolygon, o_i_AreaTwice, o_i_FormatInt, o_i_BoundaryCount, o_i_InnerCount, o_i_EhrhartAt, o_i_SeriesTop, o_i_texts, o_i_LeastWidth, o_i_SmoothCorners, o_i_IsReflexive, o_i_IsSymmetricPolygon, trivial⟩) Tryz.func15 (by kernel_rfl) k_i_DescribePolygon
/-! loop.example/g00959/laws.FnExactDescribePolygon -/
noncomputable def w_FnExactDescribePolygon (x0 : List (List Int)) : Option (Bool) :=
(w_szIntSS x0 (1048576 : Int)).bind fun v1 => cond (decide (v1 < (0 : Int)))
 (some true)
 ((w_toIntSS x0).bind fun v2 => (s_DescribePolygon v2).bind fun v3 => (w_toIntSS x0).bind fun v4 => (i_DescribePolygon v4).bind fun v5 => cond (!(v5.toList == v3.toList))
 (some false)
 ((w_toIntSS x0).bind fun v6 => (w_eqIntSS v4 v6).bind fun v7 => cond (!v7)
 (some false)
 (some true)))
noncomputable def e_w_FnExactDescribePolygon : CallE := ⟨4, [.d false (.list (.list (.int .i64)))], [.l (.d false .bool)], fun x => w_FnExactDescribePolygon x⟩
noncomputable def c_w_FnExactDescribePolygon : Ctx := ⟨Tryz.prog, TT, [e_w_szIntSS, e_w_toIntSS, e_s_DescribePolygon, e_i_DescribePolygon, e_w_eqIntSS], [], [], [], [], []⟩
theorem k_w_FnExactDescribePolygon (x : PMs.den e_w_FnExactDescribePolygon.ps) : funK c_w_FnExactDescribePolygon Tryz.f4 e_w_FnExactDescribePolygon.ps e_w_FnExactDescribePolygon.rs x = e_w_FnExactDescribePolygon.F x := by kernel_rfl
theorem o_w_FnExactDescribePolygon : FnOk Tryz.prog e_w_FnExactDescribePolygon.f ∧ Ctr False Tryz.prog e_w_FnExactDescribePolygon := mkCtr (C := c_w_FnExactDescribePolygon) m_ (⟨o_w_szIntSS, o_w_toIntSS, o_s_DescribePolygon, o_i_DescribePolygon, o_w_eqIntSS, trivial⟩) Tryz.func4 (by kernel_rfl) k_w_FnExactDescribePolygon
end Go.Proofs.YtfmdddoidjhipaaGreatDoor
