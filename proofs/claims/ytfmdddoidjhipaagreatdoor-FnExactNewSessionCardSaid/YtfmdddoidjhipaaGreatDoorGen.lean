/- Plain functions. -/
import Derived.Test.YtfmdddoidjhipaaGreatDoorProg
import Derived.Test.YtfmdddoidjhipaaGreatDoorLgl
import Derived.Test.YtfmdddoidjhipaaGreatDoorEm7
import Derived.Test.YtfmdddoidjhipaaGreatDoorEm8
import Derived.WalkKit
import Derived.BigCall
import Derived.KernelRfl
namespace Go.Proofs.YtfmdddoidjhipaaGreatDoor
open Go Go.RowKit Go.Proofs.YtfmdddoidjhipaaGreatDoor.Eng
set_option linter.unusedVariables false
set_option maxRecDepth 100000
noncomputable def TT : List (TypeId × Ty) := [(3, (.int .i64)), (5, (.int .u8)), (9, .str), (44, (.list (.int .i64)))]
theorem m_ : Tryz.prog.follows .mixedOrders = true := by kernel_rfl
noncomputable def s_ExampleText (x0 : Int) : Option (ByteArray) :=
 cond (x0 == (1 : Int))
 (some (⟨#[48, 44, 48, 32, 49, 44, 48, 32, 48, 44, 49]⟩ : ByteArray))
 (cond (x0 == (2 : Int))
 (some (⟨#[48, 44, 48, 32, 50, 44, 48, 32, 48, 44, 50]⟩ : ByteArray))
 (cond (x0 == (3 : Int))
 (some (⟨#[45, 49, 44, 45, 49, 32, 49, 44, 45, 49, 32, 49, 44, 49, 32, 45, 49, 44, 49]⟩ : ByteArray))
 (cond (x0 == (4 : Int))
 (some (⟨#[48, 44, 48, 32, 51, 44, 48, 32, 49, 44, 50]⟩ : ByteArray))
 (cond (x0 == (5 : Int))
 (some (⟨#[45, 49, 44, 45, 49, 32, 50, 44, 45, 49, 32, 45, 49, 44, 50]⟩ : ByteArray))
 (cond (x0 == (6 : Int))
 (some (⟨#[48, 44, 48, 32, 53, 44, 50, 32, 51, 44, 52]⟩ : ByteArray))
 (some (⟨#[]⟩ : ByteArray)))))))
noncomputable def e_s_ExampleText : CallE := ⟨24, [.d false (.int .i64)], [.l (.d false .str)], fun x => s_ExampleText x⟩
noncomputable def c_s_ExampleText : Ctx := ⟨Tryz.prog, TT, [], [], [], [], [], []⟩
theorem k_s_ExampleText (x : PMs.den e_s_ExampleText.ps) : funK c_s_ExampleText Tryz.f24 e_s_ExampleText.ps e_s_ExampleText.rs x = e_s_ExampleText.F x := by kernel_rfl
theorem o_s_ExampleText {D : Prop} : FnOk Tryz.prog e_s_ExampleText.f ∧ Ctr D Tryz.prog e_s_ExampleText := mkCtr (C := c_s_ExampleText) m_ (trivial) Tryz.func24 (by kernel_rfl) k_s_ExampleText
noncomputable def s_SplitByte_s4 (x0 : ByteArray) (x1 : Int) (v1 : List ByteArray × Int × Int) : Option ((List ByteArray × Int × Int) ⊕ (List ByteArray)) :=
 cond (decide (v1.2.2 ≤ (x0.size : Int)))
 (cond (v1.2.2 == (x0.size : Int))
 ((subs x0 v1.2.1 v1.2.2).bind fun v2 => (appD 16 v1.1 ([v2] : List ByteArray)).bind fun v3 => some (.inl (v3, ((IntKind.i64.wrap (v1.2.2 + (1 : Int))), (IntKind.i64.wrap (v1.2.2 + (1 : Int)))))))
 ((idx x0.data.toList v1.2.2).bind fun v4 => cond ((v4.toNat : Int) == x1)
 ((subs x0 v1.2.1 v1.2.2).bind fun v5 => (appD 16 v1.1 ([v5] : List ByteArray)).bind fun v6 => some (.inl (v6, ((IntKind.i64.wrap (v1.2.2 + (1 : Int))), (IntKind.i64.wrap (v1.2.2 + (1 : Int)))))))
 (some (.inl (v1.1, (v1.2.1, (IntKind.i64.wrap (v1.2.2 + (1 : Int)))))))))
 (some (.inr v1.1))
noncomputable def s_SplitByte (x0 : ByteArray) (x1 : Int) : Option (List ByteArray) :=
(iter (s_SplitByte_s4 x0 x1) (([] : List ByteArray), ((0 : Int), (0 : Int)))).bind fun v7 => some v7
noncomputable def e_s_SplitByte : CallE := ⟨62, [.d false .str, .d false (.int .u8)], [.l (.o true 9 .str)], fun x => s_SplitByte x.1 x.2⟩
noncomputable def c_s_SplitByte : Ctx := ⟨Tryz.prog, TT, [], [⟨4, [(5, .l (.o true 9 .str)), (6, .l (.d false (.int .i64))), (7, .l (.d false (.int .i64)))], some (0, [(5, .l (.o true 9 .str))]), none, false⟩], [], [], [], []⟩
theorem k_s_SplitByte (x : PMs.den e_s_SplitByte.ps) : funK c_s_SplitByte Tryz.f62 e_s_SplitByte.ps e_s_SplitByte.rs x = e_s_SplitByte.F x := by kernel_rfl
theorem o_s_SplitByte {D : Prop} : FnOk Tryz.prog e_s_SplitByte.f ∧ Ctr D Tryz.prog e_s_SplitByte := mkCtr (C := c_s_SplitByte) m_ (trivial) Tryz.func62 (by kernel_rfl) k_s_SplitByte
noncomputable def s_FormatInt_s5 (v1 : Int × ByteArray) : Option ((Int × ByteArray) ⊕ (ByteArray)) :=
 cond (v1.1 != (0 : Int))
 ((remI .i64 v1.1 (10 : Int)).bind fun v2 => cond (decide (v2 < (0 : Int)))
 ((catS (strI ([(IntKind.u8.wrap (IntKind.i64.wrap ((48 : Int) + (IntKind.i64.wrap ((0 : Int) - v2)))))] : List Int)) v1.2).bind fun v3 => (quoI .i64 v1.1 (10 : Int)).bind fun v4 => some (.inl (v4, v3)))
 ((catS (strI ([(IntKind.u8.wrap (IntKind.i64.wrap ((48 : Int) + v2)))] : List Int)) v1.2).bind fun v5 => (quoI .i64 v1.1 (10 : Int)).bind fun v6 => some (.inl (v6, v5))))
 (some (.inr v1.2))
noncomputable def s_FormatInt (x0 : Int) : Option (ByteArray) :=
 cond (x0 == (0 : Int))
 (some (⟨#[48]⟩ : ByteArray))
 ((iter (s_FormatInt_s5) (x0, (⟨#[]⟩ : ByteArray))).bind fun v7 => cond (decide (x0 < (0 : Int)))
 ((catS (⟨#[45]⟩ : ByteArray) v7).bind fun v8 => some v8)
 (some v7))
noncomputable def e_s_FormatInt : CallE := ⟨32, [.d false (.int .i64)], [.l (.d false .str)], fun x => s_FormatInt x⟩
noncomputable def c_s_FormatInt : Ctx := ⟨Tryz.prog, TT, [], [⟨5, [(0, .l (.d false (.int .i64))), (4, .l (.d false .str))], some (0, [(4, .l (.d false .str))]), none, false⟩], [], [], [], []⟩
theorem k_s_FormatInt (x : PMs.den e_s_FormatInt.ps) : funK c_s_FormatInt Tryz.f32 e_s_FormatInt.ps e_s_FormatInt.rs x = e_s_FormatInt.F x := by kernel_rfl
theorem o_s_FormatInt {D : Prop} : FnOk Tryz.prog e_s_FormatInt.f ∧ Ctr D Tryz.prog e_s_FormatInt := mkCtr (C := c_s_FormatInt) m_ (trivial) Tryz.func32 (by kernel_rfl) k_s_FormatInt
noncomputable def s_l1Read_s9 (v2 : ByteArray) (v3 : Int × Int) : Option ((Int × Int) ⊕ ((Int) ⊕ (Int × Bool))) :=
 cond (decide (v3.2 < (v2.size : Int)))
 ((idx v2.data.toList v3.2).bind fun v4 => cond (decide ((v4.toNat : Int) < (48 : Int)))
 (some (.inr (.inr ((0 : Int), false))))
 ((idx v2.data.toList v3.2).bind fun v5 => cond (decide ((v5.toNat : Int) > (57 : Int)))
 (some (.inr (.inr ((0 : Int), false))))
 ((idx v2.data.toList v3.2).bind fun v6 => some (.inl ((IntKind.i64.wrap ((IntKind.i64.wrap ((10 : Int) * v3.1)) + (IntKind.i64.wrap (IntKind.u8.wrap ((v6.toNat : Int) - (48 : Int)))))), (IntKind.i64.wrap (v3.2 + (1 : Int))))))))
 (some (.inr (.inl v3.1)))
noncomputable def s_l1Read_s9b15 (x0 : ByteArray) (v12 : Int × Int) : Option ((Int × Int) ⊕ ((Int) ⊕ (Int × Bool))) :=
 cond (decide (v12.2 < (x0.size : Int)))
 ((idx x0.data.toList v12.2).bind fun v13 => cond (decide ((v13.toNat : Int) < (48 : Int)))
 (some (.inr (.inr ((0 : Int), false))))
 ((idx x0.data.toList v12.2).bind fun v14 => cond (decide ((v14.toNat : Int) > (57 : Int)))
 (some (.inr (.inr ((0 : Int), false))))
 ((idx x0.data.toList v12.2).bind fun v15 => some (.inl ((IntKind.i64.wrap ((IntKind.i64.wrap ((10 : Int) * v12.1)) + (IntKind.i64.wrap (IntKind.u8.wrap ((v15.toNat : Int) - (48 : Int)))))), (IntKind.i64.wrap (v12.2 + (1 : Int))))))))
 (some (.inr (.inl v12.1)))
noncomputable def s_l1Read_s9b24 (x0 : ByteArray) (v21 : Int × Int) : Option ((Int × Int) ⊕ ((Int) ⊕ (Int × Bool))) :=
 cond (decide (v21.2 < (x0.size : Int)))
 ((idx x0.data.toList v21.2).bind fun v22 => cond (decide ((v22.toNat : Int) < (48 : Int)))
 (some (.inr (.inr ((0 : Int), false))))
 ((idx x0.data.toList v21.2).bind fun v23 => cond (decide ((v23.toNat : Int) > (57 : Int)))
 (some (.inr (.inr ((0 : Int), false))))
 ((idx x0.data.toList v21.2).bind fun v24 => some (.inl ((IntKind.i64.wrap ((IntKind.i64.wrap ((10 : Int) * v21.1)) + (IntKind.i64.wrap (IntKind.u8.wrap ((v24.toNat : Int) - (48 : Int)))))), (IntKind.i64.wrap (v21.2 + (1 : Int))))))))
 (some (.inr (.inl v21.1)))
noncomputable def s_l1Read (x0 : ByteArray) (x1 : Int) : Option (Int × Bool) :=
 cond (decide ((x0.size : Int) > (0 : Int)))
 ((idx x0.data.toList (0 : Int)).bind fun v1 => cond ((v1.toNat : Int) == (45 : Int))
 ((subs x0 (1 : Int) (x0.size : Int)).bind fun v2 => cond (decide ((v2.size : Int) < (1 : Int)))
 (some ((0 : Int), false))
 (cond (decide ((v2.size : Int) > x1))
 (some ((0 : Int), false))
 ((iter (s_l1Read_s9 v2) ((0 : Int), (0 : Int))).bind fun v7 => match v7 with
 | .inl v8 => (cond ((v1.toNat : Int) == (45 : Int))
 ((s_FormatInt (IntKind.i64.wrap ((0 : Int) - v8))).bind fun v10 => cond (!(v10.toList == x0.toList))
 (some ((0 : Int), false))
 (some ((IntKind.i64.wrap ((0 : Int) - v8)), true)))
 ((s_FormatInt v8).bind fun v11 => cond (!(v11.toList == x0.toList))
 (some ((0 : Int), false))
 (some (v8, true))))
 | .inr v9 => (some (v9.1, v9.2)))))
 (cond (decide ((x0.size : Int) < (1 : Int)))
 (some ((0 : Int), false))
 (cond (decide ((x0.size : Int) > x1))
 (some ((0 : Int), false))
 ((iter (s_l1Read_s9b15 x0) ((0 : Int), (0 : Int))).bind fun v16 => match v16 with
 | .inl v17 => (cond ((v1.toNat : Int) == (45 : Int))
 ((s_FormatInt (IntKind.i64.wrap ((0 : Int) - v17))).bind fun v19 => cond (!(v19.toList == x0.toList))
 (some ((0 : Int), false))
 (some ((IntKind.i64.wrap ((0 : Int) - v17)), true)))
 ((s_FormatInt v17).bind fun v20 => cond (!(v20.toList == x0.toList))
 (some ((0 : Int), false))
 (some (v17, true))))
 | .inr v18 => (some (v18.1, v18.2))))))
 (cond (decide ((x0.size : Int) < (1 : Int)))
 (some ((0 : Int), false))
 (cond (decide ((x0.size : Int) > x1))
 (some ((0 : Int), false))
 ((iter (s_l1Read_s9b24 x0) ((0 : Int), (0 : Int))).bind fun v25 => match v25 with
 | .inl v26 => ((s_FormatInt v26).bind fun v28 => cond (!(v28.toList == x0.toList))
 (some ((0 : Int), false))
 (some (v26, true)))
 | .inr v27 => (some (v27.1, v27.2)))))
noncomputable def e_s_l1Read : CallE := ⟨138, [.d false .str, .d false (.int .i64)], [.l (.d false (.int .i64)), .l (.d false .bool)], fun x => s_l1Read x.1 x.2⟩
noncomputable def c_s_l1Read : Ctx := ⟨Tryz.prog, TT, [e_s_FormatInt], [⟨9, [(8, .l (.d false (.int .i64))), (9, .l (.d false (.int .i64)))], some (0, [(8, .l (.d false (.int .i64)))]), some [(4, .l (.d false (.int .i64))), (5, .l (.d false .bool))], false⟩], [], [], [], []⟩
theorem k_s_l1Read (x : PMs.den e_s_l1Read.ps) : funK c_s_l1Read Tryz.f138 e_s_l1Read.ps e_s_l1Read.rs x = e_s_l1Read.F x := by kernel_rfl
theorem o_s_l1Read {D : Prop} : FnOk Tryz.prog e_s_l1Read.f ∧ Ctr D Tryz.prog e_s_l1Read := mkCtr (C := c_s_l1Read) m_ (⟨o_s_FormatInt, trivial⟩) Tryz.func138 (by kernel_rfl) k_s_l1Read
noncomputable def s_ParseInt (x0 : ByteArray) : Option (Int × Bool) :=
(s_l1Read x0 (12 : Int)).bind fun v1 => some (v1.1, v1.2)
noncomputable def e_s_ParseInt : CallE := ⟨107, [.d false .str], [.l (.d false (.int .i64)), .l (.d false .bool)], fun x => s_ParseInt x⟩
noncomputable def c_s_ParseInt : Ctx := ⟨Tryz.prog, TT, [e_s_l1Read], [], [], [], [], []⟩
theorem k_s_ParseInt (x : PMs.den e_s_ParseInt.ps) : funK c_s_ParseInt Tryz.f107 e_s_ParseInt.ps e_s_ParseInt.rs x = e_s_ParseInt.F x := by kernel_rfl
theorem o_s_ParseInt {D : Prop} : FnOk Tryz.prog e_s_ParseInt.f ∧ Ctr D Tryz.prog e_s_ParseInt := mkCtr (C := c_s_ParseInt) m_ (⟨o_s_l1Read, trivial⟩) Tryz.func107 (by kernel_rfl) k_s_ParseInt
noncomputable def s_l1In (x0 : Int) (x1 : Int) (x2 : Int) : Option (Bool) :=
 cond (decide (x0 ≥ x1))
 (some (decide (x0 ≤ x2)))
 (some false)
noncomputable def e_s_l1In : CallE := ⟨69, [.d false (.int .i64), .d false (.int .i64), .d false (.int .i64)], [.l (.d false .bool)], fun x => s_l1In x.1 x.2.1 x.2.2⟩
noncomputable def c_s_l1In : Ctx := ⟨Tryz.prog, TT, [], [], [], [], [], []⟩
theorem k_s_l1In (x : PMs.den e_s_l1In.ps) : funK c_s_l1In Tryz.f69 e_s_l1In.ps e_s_l1In.rs x = e_s_l1In.F x := by kernel_rfl
theorem o_s_l1In {D : Prop} : FnOk Tryz.prog e_s_l1In.f ∧ Ctr D Tryz.prog e_s_l1In := mkCtr (C := c_s_l1In) m_ (trivial) Tryz.func69 (by kernel_rfl) k_s_l1In
noncomputable def s_l2Small_s2 (x0 : List Int) (x1 : Int) (v1 : Int) : Option ((Int) ⊕ ((Unit) ⊕ (Bool))) :=
 cond (decide (v1 < (x0.length : Int)))
 ((idx x0 v1).bind fun v2 => (s_l1In v2 (IntKind.i64.wrap (0 - x1)) x1).bind fun v3 => cond (!v3)
 (some (.inr (.inr false)))
 (some (.inl (IntKind.i64.wrap (v1 + (1 : Int))))))
 (some (.inr (.inl ())))
noncomputable def s_l2Small (x0 : List Int) (x1 : Int) : Option (Bool) :=
(iter (s_l2Small_s2 x0 x1) (0 : Int)).bind fun v4 => match v4 with
 | .inl v5 => (some true)
 | .inr v6 => (some v6)
noncomputable def e_s_l2Small : CallE := ⟨111, [.d false (.list (.int .i64)), .d false (.int .i64)], [.l (.d false .bool)], fun x => s_l2Small x.1 x.2⟩
noncomputable def c_s_l2Small : Ctx := ⟨Tryz.prog, TT, [e_s_l1In], [⟨2, [(5, .l (.d false (.int .i64)))], some (0, []), some [(4, .l (.d false .bool))], false⟩], [], [], [], []⟩
theorem k_s_l2Small (x : PMs.den e_s_l2Small.ps) : funK c_s_l2Small Tryz.f111 e_s_l2Small.ps e_s_l2Small.rs x = e_s_l2Small.F x := by kernel_rfl
theorem o_s_l2Small {D : Prop} : FnOk Tryz.prog e_s_l2Small.f ∧ Ctr D Tryz.prog e_s_l2Small := mkCtr (C := c_s_l2Small) m_ (⟨o_s_l1In, trivial⟩) Tryz.func111 (by kernel_rfl) k_s_l2Small
noncomputable def s_IsVector (x0 : List Int) : Option (Bool) :=
(s_l1In (x0.length : Int) (1 : Int) (3 : Int)).bind fun v1 => cond v1
 ((s_l2Small x0 (1000 : Int)).bind fun v2 => some v2)
 (some false)
noncomputable def e_s_IsVector : CallE := ⟨108, [.d false (.list (.int .i64))], [.l (.d false .bool)], fun x => s_IsVector x⟩
noncomputable def c_s_IsVector : Ctx := ⟨Tryz.prog, TT, [e_s_l1In, e_s_l2Small], [], [], [], [], []⟩
theorem k_s_IsVector (x : PMs.den e_s_IsVector.ps) : funK c_s_IsVector Tryz.f108 e_s_IsVector.ps e_s_IsVector.rs x = e_s_IsVector.F x := by kernel_rfl
theorem o_s_IsVector {D : Prop} : FnOk Tryz.prog e_s_IsVector.f ∧ Ctr D Tryz.prog e_s_IsVector := mkCtr (C := c_s_IsVector) m_ (⟨o_s_l1In, o_s_l2Small, trivial⟩) Tryz.func108 (by kernel_rfl) k_s_IsVector
noncomputable def s_ParseVector_s4 (v1 : List ByteArray) (v2 : List Int × Int) : Option ((List Int × Int) ⊕ ((List Int) ⊕ (List Int × Bool))) :=
 cond (decide (v2.2 < (v1.length : Int)))
 ((idx v1 v2.2).bind fun v3 => (s_ParseInt v3).bind fun v4 => cond (!v4.2)
 (some (.inr (.inr (([] : List Int), false))))
 ((appD 8 v2.1 ([v4.1] : List Int)).bind fun v5 => some (.inl (v5, (IntKind.i64.wrap (v2.2 + (1 : Int)))))))
 (some (.inr (.inl v2.1)))
noncomputable def s_ParseVector (x0 : ByteArray) : Option (List Int × Bool) :=
(s_SplitByte x0 (44 : Int)).bind fun v1 => (iter (s_ParseVector_s4 v1) (([] : List Int), (0 : Int))).bind fun v6 => match v6 with
 | .inl v7 => ((s_IsVector v7).bind fun v9 => cond (!v9)
 (some (([] : List Int), false))
 (some (v7, true)))
 | .inr v8 => (some (v8.1, v8.2))
noncomputable def e_s_ParseVector : CallE := ⟨63, [.d false .str], [.l (.o true 3 (.int .i64)), .l (.d false .bool)], fun x => s_ParseVector x⟩
noncomputable def c_s_ParseVector : Ctx := ⟨Tryz.prog, TT, [e_s_SplitByte, e_s_ParseInt, e_s_IsVector], [⟨4, [(4, .l (.o true 3 (.int .i64))), (6, .l (.d false (.int .i64)))], some (0, [(4, .l (.o true 3 (.int .i64)))]), some [(2, .l (.o true 3 (.int .i64))), (3, .l (.d false .bool))], false⟩], [], [], [], []⟩
theorem k_s_ParseVector (x : PMs.den e_s_ParseVector.ps) : funK c_s_ParseVector Tryz.f63 e_s_ParseVector.ps e_s_ParseVector.rs x = e_s_ParseVector.F x := by kernel_rfl
theorem o_s_ParseVector {D : Prop} : FnOk Tryz.prog e_s_ParseVector.f ∧ Ctr D Tryz.prog e_s_ParseVector := mkCtr (C := c_s_ParseVector) m_ (⟨o_s_SplitByte, o_s_ParseInt, o_s_IsVector, trivial⟩) Tryz.func63 (by kernel_rfl) k_s_ParseVector
noncomputable def s_l7Flat_s2 (x0 : List (List Int)) (v1 : Int) : Option ((Int) ⊕ ((Unit) ⊕ (Bool))) :=
 cond (decide (v1 < (x0.length : Int)))
 ((idx x0 v1).bind fun v2 => cond ((v2.length : Int) != (2 : Int))
 (some (.inr (.inr false)))
 ((idx x0 v1).bind fun v3 => (s_l2Small v3 (50 : Int)).bind fun v4 => cond (!v4)
 (some (.inr (.inr false)))
 (some (.inl (IntKind.i64.wrap (v1 + (1 : Int)))))))
 (some (.inr (.inl ())))
noncomputable def s_l7Flat (x0 : List (List Int)) : Option (Bool) :=
(iter (s_l7Flat_s2 x0) (0 : Int)).bind fun v5 => match v5 with
 | .inl v6 => (some true)
 | .inr v7 => (some v7)
noncomputable def e_s_l7Flat : CallE := ⟨70, [.d false (.list (.list (.int .i64)))], [.l (.d false .bool)], fun x => s_l7Flat x⟩
noncomputable def c_s_l7Flat : Ctx := ⟨Tryz.prog, TT, [e_s_l2Small], [⟨2, [(3, .l (.d false (.int .i64)))], some (0, []), some [(2, .l (.d false .bool))], false⟩], [], [], [], []⟩
theorem k_s_l7Flat (x : PMs.den e_s_l7Flat.ps) : funK c_s_l7Flat Tryz.f70 e_s_l7Flat.ps e_s_l7Flat.rs x = e_s_l7Flat.F x := by kernel_rfl
theorem o_s_l7Flat {D : Prop} : FnOk Tryz.prog e_s_l7Flat.f ∧ Ctr D Tryz.prog e_s_l7Flat := mkCtr (C := c_s_l7Flat) m_ (⟨o_s_l2Small, trivial⟩) Tryz.func70 (by kernel_rfl) k_s_l7Flat
noncomputable def s_l2Before_s2 (x0 : List Int) (x1 : List Int) (v1 : Int) : Option ((Int) ⊕ ((Unit) ⊕ (Bool))) :=
 cond (decide (v1 < (x0.length : Int)))
 (cond (decide (v1 < (x1.length : Int)))
 ((idx x0 v1).bind fun v2 => (idx x1 v1).bind fun v3 => cond (v2 != v3)
 ((idx x0 v1).bind fun v4 => (idx x1 v1).bind fun v5 => some (.inr (.inr (decide (v4 < v5)))))
 (some (.inl (IntKind.i64.wrap (v1 + (1 : Int))))))
 (some (.inr (.inl ()))))
 (some (.inr (.inl ())))
noncomputable def s_l2Before (x0 : List Int) (x1 : List Int) : Option (Bool) :=
(iter (s_l2Before_s2 x0 x1) (0 : Int)).bind fun v6 => match v6 with
 | .inl v7 => (some false)
 | .inr v8 => (some v8)
noncomputable def e_s_l2Before : CallE := ⟨142, [.d false (.list (.int .i64)), .d false (.list (.int .i64))], [.l (.d false .bool)], fun x => s_l2Before x.1 x.2⟩
noncomputable def c_s_l2Before : Ctx := ⟨Tryz.prog, TT, [], [⟨2, [(5, .l (.d false (.int .i64)))], some (0, []), some [(4, .l (.d false .bool))], false⟩], [], [], [], []⟩
theorem k_s_l2Before (x : PMs.den e_s_l2Before.ps) : funK c_s_l2Before Tryz.f142 e_s_l2Before.ps e_s_l2Before.rs x = e_s_l2Before.F x := by kernel_rfl
theorem o_s_l2Before {D : Prop} : FnOk Tryz.prog e_s_l2Before.f ∧ Ctr D Tryz.prog e_s_l2Before := mkCtr (C := c_s_l2Before) m_ (trivial) Tryz.func142 (by kernel_rfl) k_s_l2Before
noncomputable def s_l2Same_s4 (x0 : List Int) (x1 : List Int) (v1 : Int) : Option ((Int) ⊕ ((Unit) ⊕ (Bool))) :=
 cond (decide (v1 < (x0.length : Int)))
 ((idx x0 v1).bind fun v2 => (idx x1 v1).bind fun v3 => cond (v2 != v3)
 (some (.inr (.inr false)))
 (some (.inl (IntKind.i64.wrap (v1 + (1 : Int))))))
 (some (.inr (.inl ())))
noncomputable def s_l2Same (x0 : List Int) (x1 : List Int) : Option (Bool) :=
 cond ((x0.length : Int) != (x1.length : Int))
 (some false)
 ((iter (s_l2Same_s4 x0 x1) (0 : Int)).bind fun v4 => match v4 with
 | .inl v5 => (some true)
 | .inr v6 => (some v6))
noncomputable def e_s_l2Same : CallE := ⟨83, [.d false (.list (.int .i64)), .d false (.list (.int .i64))], [.l (.d false .bool)], fun x => s_l2Same x.1 x.2⟩
noncomputable def c_s_l2Same : Ctx := ⟨Tryz.prog, TT, [], [⟨4, [(5, .l (.d false (.int .i64)))], some (0, []), some [(4, .l (.d false .bool))], false⟩], [], [], [], []⟩
theorem k_s_l2Same (x : PMs.den e_s_l2Same.ps) : funK c_s_l2Same Tryz.f83 e_s_l2Same.ps e_s_l2Same.rs x = e_s_l2Same.F x := by kernel_rfl
theorem o_s_l2Same {D : Prop} : FnOk Tryz.prog e_s_l2Same.f ∧ Ctr D Tryz.prog e_s_l2Same := mkCtr (C := c_s_l2Same) m_ (trivial) Tryz.func83 (by kernel_rfl) k_s_l2Same
noncomputable def s_l2Put_s2 (x1 : List Int) (v1 : List (List Int) × Int) : Option ((List (List Int) × Int) ⊕ (List (List Int) × Int)) :=
 cond (decide (v1.2 > (0 : Int)))
 ((inIdx v1.1.length (IntKind.i64.wrap (v1.2 - (1 : Int)))).bind fun _ => (idx v1.1 (((IntKind.i64.wrap (v1.2 - (1 : Int)))).toNat : Int)).bind fun v2 => (s_l2Before x1 v2).bind fun v3 => cond v3
 (some (.inl (v1.1, (IntKind.i64.wrap (v1.2 - (1 : Int))))))
 (some (.inr (v1.1, v1.2))))
 (some (.inr (v1.1, v1.2)))
noncomputable def s_l2Put (x0 : List (List Int)) (x1 : List Int) : Option (List (List Int)) :=
(iter (s_l2Put_s2 x1) (x0, (x0.length : Int))).bind fun v4 => cond (decide (v4.2 > (0 : Int)))
 ((inIdx v4.1.length (IntKind.i64.wrap (v4.2 - (1 : Int)))).bind fun _ => (idx v4.1 (((IntKind.i64.wrap (v4.2 - (1 : Int)))).toNat : Int)).bind fun v5 => (s_l2Same v5 x1).bind fun v6 => cond v6
 (some v4.1)
 ((subl v4.1 v4.2 (v4.1.length : Int)).bind fun v7 => (subl v4.1 ((v4.2).toNat : Int) (((v4.1.length : Int)).toNat : Int)).bind fun v8 => (appD 24 ([] : List (List Int)) v8).bind fun v9 => (subl v4.1 0 v4.2).bind fun v10 => (appD 8 ([] : List Int) x1).bind fun v11 => (appD 24 v10 ([v11] : List (List Int))).bind fun v12 => (appD 24 v12 v9).bind fun v13 => some v13))
 ((subl v4.1 v4.2 (v4.1.length : Int)).bind fun v14 => (subl v4.1 ((v4.2).toNat : Int) (((v4.1.length : Int)).toNat : Int)).bind fun v15 => (appD 24 ([] : List (List Int)) v15).bind fun v16 => (subl v4.1 0 v4.2).bind fun v17 => (appD 8 ([] : List Int) x1).bind fun v18 => (appD 24 v17 ([v18] : List (List Int))).bind fun v19 => (appD 24 v19 v16).bind fun v20 => some v20)
noncomputable def e_s_l2Put : CallE := ⟨112, [.mv false 44 (.list (.int .i64)), .d false (.list (.int .i64))], [.l (.o false 44 (.list (.int .i64)))], fun x => s_l2Put x.1 x.2⟩
noncomputable def c_s_l2Put : Ctx := ⟨Tryz.prog, TT, [e_s_l2Before, e_s_l2Same], [⟨2, [(0, .l (.o false 44 (.list (.int .i64)))), (5, .l (.d false (.int .i64)))], some (0, [(0, .l (.o false 44 (.list (.int .i64)))), (5, .l (.d false (.int .i64)))]), none, false⟩], [], [], [35], [(7, [0, 1, 2, 4, 8, 3, 5, 6, 7, 9, 10])]⟩
theorem k_s_l2Put (x : PMs.den e_s_l2Put.ps) : funK c_s_l2Put Tryz.f112 e_s_l2Put.ps e_s_l2Put.rs x = e_s_l2Put.F x := by kernel_rfl
theorem o_s_l2Put {D : Prop} : FnOk Tryz.prog e_s_l2Put.f ∧ Ctr D Tryz.prog e_s_l2Put := mkCtr (C := c_s_l2Put) m_ (⟨o_s_l2Before, o_s_l2Same, trivial⟩) Tryz.func112 (by kernel_rfl) k_s_l2Put
noncomputable def s_l2Less_s3 (x0 : List Int) (x1 : List Int) (v1 : List Int × Int) : Option ((List Int × Int) ⊕ (List Int)) :=
 cond (decide (v1.2 < (x0.length : Int)))
 ((idx x0 v1.2).bind fun v2 => (idx x1 v1.2).bind fun v3 => (appD 8 v1.1 ([(IntKind.i64.wrap (v2 - v3))] : List Int)).bind fun v4 => some (.inl (v4, (IntKind.i64.wrap (v1.2 + (1 : Int))))))
 (some (.inr v1.1))
noncomputable def s_l2Less (x0 : List Int) (x1 : List Int) : Option (List Int) :=
(iter (s_l2Less_s3 x0 x1) (([] : List Int), (0 : Int))).bind fun v5 => some v5
noncomputable def e_s_l2Less : CallE := ⟨82, [.d false (.list (.int .i64)), .d false (.list (.int .i64))], [.l (.o true 3 (.int .i64))], fun x => s_l2Less x.1 x.2⟩
noncomputable def c_s_l2Less : Ctx := ⟨Tryz.prog, TT, [], [⟨3, [(5, .l (.o true 3 (.int .i64))), (6, .l (.d false (.int .i64)))], some (0, [(5, .l (.o true 3 (.int .i64)))]), none, false⟩], [], [], [], []⟩
theorem k_s_l2Less (x : PMs.den e_s_l2Less.ps) : funK c_s_l2Less Tryz.f82 e_s_l2Less.ps e_s_l2Less.rs x = e_s_l2Less.F x := by kernel_rfl
theorem o_s_l2Less {D : Prop} : FnOk Tryz.prog e_s_l2Less.f ∧ Ctr D Tryz.prog e_s_l2Less := mkCtr (C := c_s_l2Less) m_ (trivial) Tryz.func82 (by kernel_rfl) k_s_l2Less
noncomputable def s_l7Cross (x0 : List Int) (x1 : List Int) : Option (Int) :=
(idx x0 (0 : Int)).bind fun v1 => (idx x1 (1 : Int)).bind fun v2 => (idx x0 (1 : Int)).bind fun v3 => (idx x1 (0 : Int)).bind fun v4 => some (IntKind.i64.wrap ((IntKind.i64.wrap (v1 * v2)) - (IntKind.i64.wrap (v3 * v4))))
noncomputable def e_s_l7Cross : CallE := ⟨114, [.d false (.list (.int .i64)), .d false (.list (.int .i64))], [.l (.d false (.int .i64))], fun x => s_l7Cross x.1 x.2⟩
noncomputable def c_s_l7Cross : Ctx := ⟨Tryz.prog, TT, [], [], [], [], [], []⟩
theorem k_s_l7Cross (x : PMs.den e_s_l7Cross.ps) : funK c_s_l7Cross Tryz.f114 e_s_l7Cross.ps e_s_l7Cross.rs x = e_s_l7Cross.F x := by kernel_rfl
theorem o_s_l7Cross {D : Prop} : FnOk Tryz.prog e_s_l7Cross.f ∧ Ctr D Tryz.prog e_s_l7Cross := mkCtr (C := c_s_l7Cross) m_ (trivial) Tryz.func114 (by kernel_rfl) k_s_l7Cross
noncomputable def s_l7Turn (x0 : List Int) (x1 : List Int) (x2 : List Int) : Option (Int) :=
(s_l2Less x1 x0).bind fun v1 => (s_l2Less x2 x1).bind fun v2 => (s_l7Cross v1 v2).bind fun v3 => some v3
noncomputable def e_s_l7Turn : CallE := ⟨120, [.d false (.list (.int .i64)), .d false (.list (.int .i64)), .d false (.list (.int .i64))], [.l (.d false (.int .i64))], fun x => s_l7Turn x.1 x.2.1 x.2.2⟩
noncomputable def c_s_l7Turn : Ctx := ⟨Tryz.prog, TT, [e_s_l2Less, e_s_l7Cross], [], [], [], [], []⟩
theorem k_s_l7Turn (x : PMs.den e_s_l7Turn.ps) : funK c_s_l7Turn Tryz.f120 e_s_l7Turn.ps e_s_l7Turn.rs x = e_s_l7Turn.F x := by kernel_rfl
theorem o_s_l7Turn {D : Prop} : FnOk Tryz.prog e_s_l7Turn.f ∧ Ctr D Tryz.prog e_s_l7Turn := mkCtr (C := c_s_l7Turn) m_ (⟨o_s_l2Less, o_s_l7Cross, trivial⟩) Tryz.func120 (by kernel_rfl) k_s_l7Turn
noncomputable def s_l7Hull_s12 (v1 : List (List Int) × Int) (v4 : List Int) (v5 : List (List Int)) : Option ((List (List Int)) ⊕ (List (List Int))) :=
 cond (decide ((v5.length : Int) ≥ (IntKind.i64.wrap ((v1.1.length : Int) + (2 : Int)))))
 ((inIdx v5.length (IntKind.i64.wrap ((v5.length : Int) - (2 : Int)))).bind fun _ => (idx v5 (((IntKind.i64.wrap ((v5.length : Int) - (2 : Int)))).toNat : Int)).bind fun v6 => (inIdx v5.length (IntKind.i64.wrap ((v5.length : Int) - (1 : Int)))).bind fun _ => (idx v5 (((IntKind.i64.wrap ((v5.length : Int) - (1 : Int)))).toNat : Int)).bind fun v7 => (s_l7Turn v6 v7 v4).bind fun v8 => cond (decide (v8 ≤ (0 : Int)))
 ((subl v5 0 (IntKind.i64.wrap ((v5.length : Int) - (1 : Int)))).bind fun v9 => some (.inl v9))
 (some (.inr v5)))
 (some (.inr v5))
noncomputable def s_l7Hull_s12b16 (v1 : List (List Int) × Int) (v3 : List Int) (v12 : List (List Int)) : Option ((List (List Int)) ⊕ (List (List Int))) :=
 cond (decide ((v12.length : Int) ≥ (IntKind.i64.wrap ((v1.1.length : Int) + (2 : Int)))))
 ((inIdx v12.length (IntKind.i64.wrap ((v12.length : Int) - (2 : Int)))).bind fun _ => (idx v12 (((IntKind.i64.wrap ((v12.length : Int) - (2 : Int)))).toNat : Int)).bind fun v13 => (inIdx v12.length (IntKind.i64.wrap ((v12.length : Int) - (1 : Int)))).bind fun _ => (idx v12 (((IntKind.i64.wrap ((v12.length : Int) - (1 : Int)))).toNat : Int)).bind fun v14 => (s_l7Turn v13 v14 v3).bind fun v15 => cond (decide (v15 ≤ (0 : Int)))
 ((subl v12 0 (IntKind.i64.wrap ((v12.length : Int) - (1 : Int)))).bind fun v16 => some (.inl v16))
 (some (.inr v12)))
 (some (.inr v12))
noncomputable def s_l7Hull_s7 (x0 : List (List Int)) (v1 : List (List Int) × Int) (v2 : List (List Int) × Int) : Option ((List (List Int) × Int) ⊕ (List (List Int))) :=
 cond (decide (v2.2 < (x0.length : Int)))
 ((idx x0 v2.2).bind fun v3 => cond (v1.2 == (1 : Int))
 ((idx x0 (IntKind.i64.wrap ((IntKind.i64.wrap ((x0.length : Int) - (1 : Int))) - v2.2))).bind fun v4 => (iter (s_l7Hull_s12 v1 v4) v2.1).bind fun v10 => (appD 24 v10 ([v4] : List (List Int))).bind fun v11 => some (.inl (v11, (IntKind.i64.wrap (v2.2 + (1 : Int))))))
 ((iter (s_l7Hull_s12b16 v1 v3) v2.1).bind fun v17 => (appD 24 v17 ([v3] : List (List Int))).bind fun v18 => some (.inl (v18, (IntKind.i64.wrap (v2.2 + (1 : Int)))))))
 (some (.inr v2.1))
noncomputable def s_l7Hull_s3 (x0 : List (List Int)) (v1 : List (List Int) × Int) : Option ((List (List Int) × Int) ⊕ (List (List Int))) :=
 cond (decide (v1.2 < (2 : Int)))
 ((iter (s_l7Hull_s7 x0 v1) (v1.1, (0 : Int))).bind fun v19 => (subl v19 0 (IntKind.i64.wrap ((v19.length : Int) - (1 : Int)))).bind fun v20 => some (.inl (v20, (IntKind.i64.wrap (v1.2 + (1 : Int))))))
 (some (.inr v1.1))
noncomputable def s_l7Hull (x0 : List (List Int)) : Option (List (List Int)) :=
(iter (s_l7Hull_s3 x0) (([] : List (List Int)), (0 : Int))).bind fun v21 => some v21
noncomputable def e_s_l7Hull : CallE := ⟨113, [.d false (.list (.list (.int .i64)))], [.l (.o false 44 (.list (.int .i64)))], fun x => s_l7Hull x⟩
noncomputable def c_s_l7Hull : Ctx := ⟨Tryz.prog, TT, [e_s_l7Turn], [⟨3, [(3, .l (.o false 44 (.list (.int .i64)))), (4, .l (.d false (.int .i64)))], some (0, [(3, .l (.o false 44 (.list (.int .i64))))]), none, false⟩, ⟨7, [(3, .l (.o false 44 (.list (.int .i64)))), (6, .l (.d false (.int .i64)))], some (2, [(3, .l (.o false 44 (.list (.int .i64))))]), none, false⟩, ⟨12, [(3, .l (.o false 44 (.list (.int .i64))))], some (4, [(3, .l (.o false 44 (.list (.int .i64))))]), none, false⟩], [], [], [], []⟩
theorem k_s_l7Hull (x : PMs.den e_s_l7Hull.ps) : funK c_s_l7Hull Tryz.f113 e_s_l7Hull.ps e_s_l7Hull.rs x = e_s_l7Hull.F x := by kernel_rfl
theorem o_s_l7Hull {D : Prop} : FnOk Tryz.prog e_s_l7Hull.f ∧ Ctr D Tryz.prog e_s_l7Hull := mkCtr (C := c_s_l7Hull) m_ (⟨o_s_l7Turn, trivial⟩) Tryz.func113 (by kernel_rfl) k_s_l7Hull
noncomputable def s_l7Copy_s3 (x0 : List (List Int)) (v1 : List (List Int) × Int) : Option ((List (List Int) × Int) ⊕ (List (List Int))) :=
 cond (decide (v1.2 < (x0.length : Int)))
 ((idx x0 v1.2).bind fun v2 => (appD 8 ([] : List Int) v2).bind fun v3 => (appD 24 v1.1 ([v3] : List (List Int))).bind fun v4 => some (.inl (v4, (IntKind.i64.wrap (v1.2 + (1 : Int))))))
 (some (.inr v1.1))
noncomputable def s_l7Copy (x0 : List (List Int)) : Option (List (List Int)) :=
(iter (s_l7Copy_s3 x0) (([] : List (List Int)), (0 : Int))).bind fun v5 => some v5
noncomputable def e_s_l7Copy : CallE := ⟨25, [.d false (.list (.list (.int .i64)))], [.l (.o true 44 (.list (.int .i64)))], fun x => s_l7Copy x⟩
noncomputable def c_s_l7Copy : Ctx := ⟨Tryz.prog, TT, [], [⟨3, [(3, .l (.o true 44 (.list (.int .i64)))), (4, .l (.d false (.int .i64)))], some (0, [(3, .l (.o true 44 (.list (.int .i64))))]), none, false⟩], [], [], [], []⟩
theorem k_s_l7Copy (x : PMs.den e_s_l7Copy.ps) : funK c_s_l7Copy Tryz.f25 e_s_l7Copy.ps e_s_l7Copy.rs x = e_s_l7Copy.F x := by kernel_rfl
theorem o_s_l7Copy {D : Prop} : FnOk Tryz.prog e_s_l7Copy.f ∧ Ctr D Tryz.prog e_s_l7Copy := mkCtr (C := c_s_l7Copy) m_ (trivial) Tryz.func25 (by kernel_rfl) k_s_l7Copy
noncomputable def s_HullOf_s5 (x0 : List (List Int)) (v2 : List (List Int) × Int) : Option ((List (List Int) × Int) ⊕ (List (List Int))) :=
 cond (decide (v2.2 < (x0.length : Int)))
 ((idx x0 v2.2).bind fun v3 => (s_l2Put v2.1 v3).bind fun v4 => some (.inl (v4, (IntKind.i64.wrap (v2.2 + (1 : Int))))))
 (some (.inr v2.1))
noncomputable def s_HullOf (x0 : List (List Int)) : Option (List (List Int) × Bool) :=
 cond (decide ((x0.length : Int) > (200 : Int)))
 (some (([] : List (List Int)), false))
 ((s_l7Flat x0).bind fun v1 => cond (!v1)
 (some (([] : List (List Int)), false))
 ((iter (s_HullOf_s5 x0) (([] : List (List Int)), (0 : Int))).bind fun v5 => cond (decide ((v5.length : Int) < (3 : Int)))
 (some (([] : List (List Int)), false))
 ((s_l7Hull v5).bind fun v6 => cond (decide ((v6.length : Int) < (3 : Int)))
 (some (([] : List (List Int)), false))
 (cond (decide ((v6.length : Int) > (12 : Int)))
 (some (([] : List (List Int)), false))
 ((s_l7Copy v6).bind fun v7 => some (v7, true))))))
noncomputable def e_s_HullOf : CallE := ⟨71, [.d false (.list (.list (.int .i64)))], [.l (.o true 44 (.list (.int .i64))), .l (.d false .bool)], fun x => s_HullOf x⟩
noncomputable def c_s_HullOf : Ctx := ⟨Tryz.prog, TT, [e_s_l7Flat, e_s_l2Put, e_s_l7Hull, e_s_l7Copy], [⟨5, [(4, .l (.o false 44 (.list (.int .i64)))), (5, .l (.d false (.int .i64)))], some (0, [(4, .l (.o false 44 (.list (.int .i64))))]), none, false⟩], [], [], [], []⟩
theorem k_s_HullOf (x : PMs.den e_s_HullOf.ps) : funK c_s_HullOf Tryz.f71 e_s_HullOf.ps e_s_HullOf.rs x = e_s_HullOf.F x := by kernel_rfl
theorem o_s_HullOf {D : Prop} : FnOk Tryz.prog e_s_HullOf.f ∧ Ctr D Tryz.prog e_s_HullOf := mkCtr (C := c_s_HullOf) m_ (⟨o_s_l7Flat, o_s_l2Put, o_s_l7Hull, o_s_l7Copy, trivial⟩) Tryz.func71 (by kernel_rfl) k_s_HullOf
noncomputable def s_l7SameList_s4 (x0 : List (List Int)) (x1 : List (List Int)) (v1 : Int) : Option ((Int) ⊕ ((Unit) ⊕ (Bool))) :=
 cond (decide (v1 < (x0.length : Int)))
 ((idx x0 v1).bind fun v2 => (idx x1 v1).bind fun v3 => (s_l2Same v2 v3).bind fun v4 => cond (!v4)
 (some (.inr (.inr false)))
 (some (.inl (IntKind.i64.wrap (v1 + (1 : Int))))))
 (some (.inr (.inl ())))
noncomputable def s_l7SameList (x0 : List (List Int)) (x1 : List (List Int)) : Option (Bool) :=
 cond ((x0.length : Int) != (x1.length : Int))
 (some false)
 ((iter (s_l7SameList_s4 x0 x1) (0 : Int)).bind fun v5 => match v5 with
 | .inl v6 => (some true)
 | .inr v7 => (some v7))
noncomputable def e_s_l7SameList : CallE := ⟨72, [.d false (.list (.list (.int .i64))), .d false (.list (.list (.int .i64)))], [.l (.d false .bool)], fun x => s_l7SameList x.1 x.2⟩
noncomputable def c_s_l7SameList : Ctx := ⟨Tryz.prog, TT, [e_s_l2Same], [⟨4, [(5, .l (.d false (.int .i64)))], some (0, []), some [(4, .l (.d false .bool))], false⟩], [], [], [], []⟩
theorem k_s_l7SameList (x : PMs.den e_s_l7SameList.ps) : funK c_s_l7SameList Tryz.f72 e_s_l7SameList.ps e_s_l7SameList.rs x = e_s_l7SameList.F x := by kernel_rfl
theorem o_s_l7SameList {D : Prop} : FnOk Tryz.prog e_s_l7SameList.f ∧ Ctr D Tryz.prog e_s_l7SameList := mkCtr (C := c_s_l7SameList) m_ (⟨o_s_l2Same, trivial⟩) Tryz.func72 (by kernel_rfl) k_s_l7SameList
noncomputable def s_IsPolygon (x0 : List (List Int)) : Option (Bool) :=
(s_l1In (x0.length : Int) (3 : Int) (12 : Int)).bind fun v1 => cond (!v1)
 (some false)
 ((s_l7Flat x0).bind fun v2 => cond (!v2)
 (some false)
 ((s_HullOf x0).bind fun v3 => cond v3.2
 ((s_l7SameList v3.1 x0).bind fun v4 => some v4)
 (some false)))
noncomputable def e_s_IsPolygon : CallE := ⟨31, [.d false (.list (.list (.int .i64)))], [.l (.d false .bool)], fun x => s_IsPolygon x⟩
noncomputable def c_s_IsPolygon : Ctx := ⟨Tryz.prog, TT, [e_s_l1In, e_s_l7Flat, e_s_HullOf, e_s_l7SameList], [], [], [], [], []⟩
theorem k_s_IsPolygon (x : PMs.den e_s_IsPolygon.ps) : funK c_s_IsPolygon Tryz.f31 e_s_IsPolygon.ps e_s_IsPolygon.rs x = e_s_IsPolygon.F x := by kernel_rfl
theorem o_s_IsPolygon {D : Prop} : FnOk Tryz.prog e_s_IsPolygon.f ∧ Ctr D Tryz.prog e_s_IsPolygon := mkCtr (C := c_s_IsPolygon) m_ (⟨o_s_l1In, o_s_l7Flat, o_s_HullOf, o_s_l7SameList, trivial⟩) Tryz.func31 (by kernel_rfl) k_s_IsPolygon
noncomputable def s_ParsePolygon_s4 (v1 : List ByteArray) (v2 : List (List Int) × Int) : Option ((List (List Int) × Int) ⊕ ((List (List Int)) ⊕ (List (List Int) × Bool))) :=
 cond (decide (v2.2 < (v1.length : Int)))
 ((idx v1 v2.2).bind fun v3 => (s_ParseVector v3).bind fun v4 => cond (!v4.2)
 (some (.inr (.inr (([] : List (List Int)), false))))
 (cond (decide (v2.2 ≥ (12 : Int)))
 (some (.inr (.inr (([] : List (List Int)), false))))
 ((appD 24 v2.1 ([v4.1] : List (List Int))).bind fun v5 => some (.inl (v5, (IntKind.i64.wrap (v2.2 + (1 : Int))))))))
 (some (.inr (.inl v2.1)))
noncomputable def s_ParsePolygon (x0 : ByteArray) : Option (List (List Int) × Bool) :=
(s_SplitByte x0 (32 : Int)).bind fun v1 => (iter (s_ParsePolygon_s4 v1) (([] : List (List Int)), (0 : Int))).bind fun v6 => match v6 with
 | .inl v7 => ((s_IsPolygon v7).bind fun v9 => cond (!v9)
 (some (([] : List (List Int)), false))
 (some (v7, true)))
 | .inr v8 => (some (v8.1, v8.2))
noncomputable def e_s_ParsePolygon : CallE := ⟨22, [.d false .str], [.l (.o true 44 (.list (.int .i64))), .l (.d false .bool)], fun x => s_ParsePolygon x⟩
noncomputable def c_s_ParsePolygon : Ctx := ⟨Tryz.prog, TT, [e_s_SplitByte, e_s_ParseVector, e_s_IsPolygon], [⟨4, [(4, .l (.o true 44 (.list (.int .i64)))), (6, .l (.d false (.int .i64)))], some (0, [(4, .l (.o true 44 (.list (.int .i64))))]), some [(2, .l (.o true 44 (.list (.int .i64)))), (3, .l (.d false .bool))], false⟩], [], [], [], []⟩
theorem k_s_ParsePolygon (x : PMs.den e_s_ParsePolygon.ps) : funK c_s_ParsePolygon Tryz.f22 e_s_ParsePolygon.ps e_s_ParsePolygon.rs x = e_s_ParsePolygon.F x := by kernel_rfl
theorem o_s_ParsePolygon {D : Prop} : FnOk Tryz.prog e_s_ParsePolygon.f ∧ Ctr D Tryz.prog e_s_ParsePolygon := mkCtr (C := c_s_ParsePolygon) m_ (⟨o_s_SplitByte, o_s_ParseVector, o_s_IsPolygon, trivial⟩) Tryz.func22 (by kernel_rfl) k_s_ParsePolygon
noncomputable def s_NewSession : Option (List (List Int) × List (List Int)) :=
(s_ExampleText (1 : Int)).bind fun v1 => (s_ParsePolygon v1).bind fun v2 => (s_l7Copy v2.1).bind fun v3 => some (v2.1, v3)
noncomputable def e_s_NewSession : CallE := ⟨7, [], [.a [(.o true 44 (.list (.int .i64))), (.o true 44 (.list (.int .i64)))]], fun x => s_NewSession⟩
noncomputable def c_s_NewSession : Ctx := ⟨Tryz.prog, TT, [e_s_ExampleText, e_s_ParsePolygon, e_s_l7Copy], [], [], [], [], []⟩
theorem k_s_NewSession (x : PMs.den e_s_NewSession.ps) : funK c_s_NewSession Tryz.f7 e_s_NewSession.ps e_s_NewSession.rs x = e_s_NewSession.F x := by kernel_rfl
theorem o_s_NewSession {D : Prop} : FnOk Tryz.prog e_s_NewSession.f ∧ Ctr D Tryz.prog e_s_NewSession := mkCtr (C := c_s_NewSession) m_ (⟨o_s_ExampleText, o_s_ParsePolygon, o_s_l7Copy, trivial⟩) Tryz.func7 (by kernel_rfl) k_s_NewSession
noncomputable def i_within (x0 : Int) (x1 : Int) (x2 : Int) : Option (Bool) :=
 cond (decide (x0 ≥ x1))
 (some (decide (x0 ≤ x2)))
 (some false)
noncomputable def e_i_within : CallE := ⟨64, [.d false (.int .i64), .d false (.int .i64), .d false (.int .i64)], [.l (.d false .bool)], fun x => i_within x.1 x.2.1 x.2.2⟩
noncomputable def c_i_within : Ctx := ⟨Tryz.prog, TT, [], [], [], [], [], []⟩
theorem k_i_within (x : PMs.den e_i_within.ps) : funK c_i_within Tryz.f64 e_i_within.ps e_i_within.rs x = e_i_within.F x := by kernel_rfl
theorem o_i_within {D : Prop} : FnOk Tryz.prog e_i_within.f ∧ Ctr D Tryz.prog e_i_within := mkCtr (C := c_i_within) m_ (trivial) Tryz.func64 (by kernel_rfl) k_i_within
noncomputable def i_ExampleText (x0 : Int) : Option (ByteArray) :=
(i_within x0 (1 : Int) (([(⟨#[48, 44, 48, 32, 49, 44, 48, 32, 48, 44, 49]⟩ : ByteArray), (⟨#[48, 44, 48, 32, 50, 44, 48, 32, 48, 44, 50]⟩ : ByteArray), (⟨#[45, 49, 44, 45, 49, 32, 49, 44, 45, 49, 32, 49, 44, 49, 32, 45, 49, 44, 49]⟩ : ByteArray), (⟨#[48, 44, 48, 32, 51, 44, 48, 32, 49, 44, 50]⟩ : ByteArray), (⟨#[45, 49, 44, 45, 49, 32, 50, 44, 45, 49, 32, 45, 49, 44, 50]⟩ : ByteArray), (⟨#[48, 44, 48, 32, 53, 44, 50, 32, 51, 44, 52]⟩ : ByteArray)] : List ByteArray).length : Int)).bind fun v1 => cond (!v1)
 (some (⟨#[]⟩ : ByteArray))
 ((inIdx ([(⟨#[48, 44, 48, 32, 49, 44, 48, 32, 48, 44, 49]⟩ : ByteArray), (⟨#[48, 44, 48, 32, 50, 44, 48, 32, 48, 44, 50]⟩ : ByteArray), (⟨#[45, 49, 44, 45, 49, 32, 49, 44, 45, 49, 32, 49, 44, 49, 32, 45, 49, 44, 49]⟩ : ByteArray), (⟨#[48, 44, 48, 32, 51, 44, 48, 32, 49, 44, 50]⟩ : ByteArray), (⟨#[45, 49, 44, 45, 49, 32, 50, 44, 45, 49, 32, 45, 49, 44, 50]⟩ : ByteArray), (⟨#[48, 44, 48, 32, 53, 44, 50, 32, 51, 44, 52]⟩ : ByteArray)] : List ByteArray).length (IntKind.i64.wrap (x0 - (1 : Int)))).bind fun _ => (idx ([(⟨#[48, 44, 48, 32, 49, 44, 48, 32, 48, 44, 49]⟩ : ByteArray), (⟨#[48, 44, 48, 32, 50, 44, 48, 32, 48, 44, 50]⟩ : ByteArray), (⟨#[45, 49, 44, 45, 49, 32, 49, 44, 45, 49, 32, 49, 44, 49, 32, 45, 49, 44, 49]⟩ : ByteArray), (⟨#[48, 44, 48, 32, 51, 44, 48, 32, 49, 44, 50]⟩ : ByteArray), (⟨#[45, 49, 44, 45, 49, 32, 50, 44, 45, 49, 32, 45, 49, 44, 50]⟩ : ByteArray), (⟨#[48, 44, 48, 32, 53, 44, 50, 32, 51, 44, 52]⟩ : ByteArray)] : List ByteArray) (((IntKind.i64.wrap (x0 - (1 : Int)))).toNat : Int)).bind fun v2 => some v2)
noncomputable def e_i_ExampleText : CallE := ⟨23, [.d false (.int .i64)], [.l (.d false .str)], fun x => i_ExampleText x⟩
noncomputable def c_i_ExampleText : Ctx := ⟨Tryz.prog, TT, [e_i_within], [], [], [], [], []⟩
theorem k_i_ExampleText (x : PMs.den e_i_ExampleText.ps) : funK c_i_ExampleText Tryz.f23 e_i_ExampleText.ps e_i_ExampleText.rs x = e_i_ExampleText.F x := by kernel_rfl
theorem o_i_ExampleText {D : Prop} : FnOk Tryz.prog e_i_ExampleText.f ∧ Ctr D Tryz.prog e_i_ExampleText := mkCtr (C := c_i_ExampleText) m_ (⟨o_i_within, trivial⟩) Tryz.func23 (by kernel_rfl) k_i_ExampleText
noncomputable def g_strings_Split (x0 x1 : ByteArray) : Option (List ByteArray) := splitF x0 x1
noncomputable def e_g_strings_Split : CallE := ⟨139, [.d false .str, .d false .str], [.l (.o true 9 .str)], fun x => g_strings_Split x.1 x.2⟩
theorem o_g_strings_Split {D : Prop} : FnOk Tryz.prog e_g_strings_Split.f ∧ Ctr D Tryz.prog e_g_strings_Split := ⟨⟨Tryz.f139, _, Tryz.func139, by kernel_rfl, rfl⟩, split_ctr { laySplit with } (by kernel_rfl) gl_maxLen rfl rfl⟩
noncomputable def i_SplitByte (x0 : ByteArray) (x1 : Int) : Option (List ByteArray) :=
(g_strings_Split x0 (strI ([x1] : List Int))).bind fun v1 => some v1
noncomputable def e_i_SplitByte : CallE := ⟨109, [.d false .str, .d false (.int .u8)], [.l (.o true 9 .str)], fun x => i_SplitByte x.1 x.2⟩
noncomputable def c_i_SplitByte : Ctx := ⟨Tryz.prog, TT, [e_g_strings_Split], [], [], [], [], []⟩
theorem k_i_SplitByte (x : PMs.den e_i_SplitByte.ps) : funK c_i_SplitByte Tryz.f109 e_i_SplitByte.ps e_i_SplitByte.rs x = e_i_SplitByte.F x := by kernel_rfl
theorem o_i_SplitByte {D : Prop} : FnOk Tryz.prog e_i_SplitByte.f ∧ Ctr D Tryz.prog e_i_SplitByte := mkCtr (C := c_i_SplitByte) m_ (⟨o_g_strings_Split, trivial⟩) Tryz.func109 (by kernel_rfl) k_i_SplitByte
noncomputable def i_ParseInt (x0 : ByteArray) : Option (Int × Bool) := parseIntF x0
noncomputable def e_i_ParseInt : CallE := ⟨140, [.d false .str], [.l (.d false (.int .i64)), .l (.d false .bool)], fun x => i_ParseInt x⟩
theorem o_i_ParseInt : FnOk Tryz.prog e_i_ParseInt.f ∧ Ctr False Tryz.prog e_i_ParseInt := parseInt_ok
noncomputable def i_allWithin_s2 (x0 : List Int) (x1 : Int) (x2 : Int) (v1 : Int) : Option ((Int) ⊕ ((Unit) ⊕ (Bool))) :=
 cond (decide (v1 < (x0.length : Int)))
 ((idx x0 v1).bind fun v2 => (i_within v2 x1 x2).bind fun v3 => cond (!v3)
 (some (.inr (.inr false)))
 (some (.inl (IntKind.i64.wrap (v1 + (1 : Int))))))
 (some (.inr (.inl ())))
noncomputable def i_allWithin (x0 : List Int) (x1 : Int) (x2 : Int) : Option (Bool) :=
(iter (i_allWithin_s2 x0 x1 x2) (0 : Int)).bind fun v4 => match v4 with
 | .inl v5 => (some true)
 | .inr v6 => (some v6)
noncomputable def e_i_allWithin : CallE := ⟨122, [.d false (.list (.int .i64)), .d false (.int .i64), .d false (.int .i64)], [.l (.d false .bool)], fun x => i_allWithin x.1 x.2.1 x.2.2⟩
noncomputable def c_i_allWithin : Ctx := ⟨Tryz.prog, TT, [e_i_within], [⟨2, [(11, .l (.d false (.int .i64)))], some (0, []), some [(6, .l (.d false .bool))], false⟩], [], [], [], []⟩
theorem k_i_allWithin (x : PMs.den e_i_allWithin.ps) : funK c_i_allWithin Tryz.f122 e_i_allWithin.ps e_i_allWithin.rs x = e_i_allWithin.F x := by kernel_rfl
theorem o_i_allWithin {D : Prop} : FnOk Tryz.prog e_i_allWithin.f ∧ Ctr D Tryz.prog e_i_allWithin := mkCtr (C := c_i_allWithin) m_ (⟨o_i_within, trivial⟩) Tryz.func122 (by kernel_rfl) k_i_allWithin
noncomputable def i_IsVector (x0 : List Int) : Option (Bool) :=
(i_within (x0.length : Int) (1 : Int) (3 : Int)).bind fun v1 => cond v1
 ((i_allWithin x0 (-1000 : Int) (1000 : Int)).bind fun v2 => some v2)
 (some false)
noncomputable def e_i_IsVector : CallE := ⟨129, [.d false (.list (.int .i64))], [.l (.d false .bool)], fun x => i_IsVector x⟩
noncomputable def c_i_IsVector : Ctx := ⟨Tryz.prog, TT, [e_i_within, e_i_allWithin], [], [], [], [], []⟩
theorem k_i_IsVector (x : PMs.den e_i_IsVector.ps) : funK c_i_IsVector Tryz.f129 e_i_IsVector.ps e_i_IsVector.rs x = e_i_IsVector.F x := by kernel_rfl
theorem o_i_IsVector {D : Prop} : FnOk Tryz.prog e_i_IsVector.f ∧ Ctr D Tryz.prog e_i_IsVector := mkCtr (C := c_i_IsVector) m_ (⟨o_i_within, o_i_allWithin, trivial⟩) Tryz.func129 (by kernel_rfl) k_i_IsVector
noncomputable def i_vectorOf (x0 : List Int) : Option (List Int × Bool) :=
(i_IsVector x0).bind fun v1 => cond (!v1)
 (some (([] : List Int), false))
 (some (x0, true))
noncomputable def e_i_vectorOf : CallE := ⟨141, [.mv true 3 (.int .i64)], [.l (.o true 3 (.int .i64)), .l (.d false .bool)], fun x => i_vectorOf x⟩
noncomputable def c_i_vectorOf : Ctx := ⟨Tryz.prog, TT, [e_i_IsVector], [], [], [], [], []⟩
theorem k_i_vectorOf (x : PMs.den e_i_vectorOf.ps) : funK c_i_vectorOf Tryz.f141 e_i_vectorOf.ps e_i_vectorOf.rs x = e_i_vectorOf.F x := by kernel_rfl
theorem o_i_vectorOf {D : Prop} : FnOk Tryz.prog e_i_vectorOf.f ∧ Ctr D Tryz.prog e_i_vectorOf := mkCtr (C := c_i_vectorOf) m_ (⟨o_i_IsVector, trivial⟩) Tryz.func141 (by kernel_rfl) k_i_vectorOf
noncomputable def i_ParseVector_s3 (v1 : List ByteArray) (v2 : List Int × Int) : Option ((List Int × Int) ⊕ ((List Int) ⊕ (List Int × Bool))) :=
 cond (decide (v2.2 < (v1.length : Int)))
 ((idx v1 v2.2).bind fun v3 => (i_ParseInt v3).bind fun v4 => cond (!v4.2)
 (some (.inr (.inr (([] : List Int), false))))
 ((appD 8 v2.1 ([v4.1] : List Int)).bind fun v5 => some (.inl (v5, (IntKind.i64.wrap (v2.2 + (1 : Int)))))))
 (some (.inr (.inl v2.1)))
noncomputable def i_ParseVector (x0 : ByteArray) : Option (List Int × Bool) :=
(i_SplitByte x0 (44 : Int)).bind fun v1 => (iter (i_ParseVector_s3 v1) (([] : List Int), (0 : Int))).bind fun v6 => match v6 with
 | .inl v7 => ((i_vectorOf v7).bind fun v9 => some (v9.1, v9.2))
 | .inr v8 => (some (v8.1, v8.2))
noncomputable def e_i_ParseVector : CallE := ⟨110, [.d false .str], [.l (.o true 3 (.int .i64)), .l (.d false .bool)], fun x => i_ParseVector x⟩
noncomputable def c_i_ParseVector : Ctx := ⟨Tryz.prog, TT, [e_i_SplitByte, e_i_ParseInt, e_i_vectorOf], [⟨3, [(4, .l (.o true 3 (.int .i64))), (12, .l (.d false (.int .i64)))], some (0, [(4, .l (.o true 3 (.int .i64)))]), some [(2, .l (.o true 3 (.int .i64))), (3, .l (.d false .bool))], false⟩], [], [], [], []⟩
theorem k_i_ParseVector (x : PMs.den e_i_ParseVector.ps) : funK c_i_ParseVector Tryz.f110 e_i_ParseVector.ps e_i_ParseVector.rs x = e_i_ParseVector.F x := by kernel_rfl
theorem o_i_ParseVector : FnOk Tryz.prog e_i_ParseVector.f ∧ Ctr False Tryz.prog e_i_ParseVector := mkCtr (C := c_i_ParseVector) m_ (⟨o_i_SplitByte, o_i_ParseInt, o_i_vectorOf, trivial⟩) Tryz.func110 (by kernel_rfl) k_i_ParseVector
noncomputable def i_isPoint (x0 : List Int) (x1 : Int) : Option (Bool) :=
 cond ((x0.length : Int) == (2 : Int))
 ((i_allWithin x0 (IntKind.i64.wrap (0 - x1)) x1).bind fun v1 => some v1)
 (some false)
noncomputable def e_i_isPoint : CallE := ⟨85, [.d false (.list (.int .i64)), .d false (.int .i64)], [.l (.d false .bool)], fun x => i_isPoint x.1 x.2⟩
noncomputable def c_i_isPoint : Ctx := ⟨Tryz.prog, TT, [e_i_allWithin], [], [], [], [], []⟩
theorem k_i_isPoint (x : PMs.den e_i_isPoint.ps) : funK c_i_isPoint Tryz.f85 e_i_isPoint.ps e_i_isPoint.rs x = e_i_isPoint.F x := by kernel_rfl
theorem o_i_isPoint {D : Prop} : FnOk Tryz.prog e_i_isPoint.f ∧ Ctr D Tryz.prog e_i_isPoint := mkCtr (C := c_i_isPoint) m_ (⟨o_i_allWithin, trivial⟩) Tryz.func85 (by kernel_rfl) k_i_isPoint
noncomputable def i_minus (x0 : List Int) (x1 : List Int) : Option (List Int) :=
(idx x0 (0 : Int)).bind fun v1 => (idx x1 (0 : Int)).bind fun v2 => (idx x0 (1 : Int)).bind fun v3 => (idx x1 (1 : Int)).bind fun v4 => some ([(IntKind.i64.wrap (v1 - v2)), (IntKind.i64.wrap (v3 - v4))] : List Int)
noncomputable def e_i_minus : CallE := ⟨91, [.d false (.list (.int .i64)), .d false (.list (.int .i64))], [.l (.o true 3 (.int .i64))], fun x => i_minus x.1 x.2⟩
noncomputable def c_i_minus : Ctx := ⟨Tryz.prog, TT, [], [], [], [], [], []⟩
theorem k_i_minus (x : PMs.den e_i_minus.ps) : funK c_i_minus Tryz.f91 e_i_minus.ps e_i_minus.rs x = e_i_minus.F x := by kernel_rfl
theorem o_i_minus {D : Prop} : FnOk Tryz.prog e_i_minus.f ∧ Ctr D Tryz.prog e_i_minus := mkCtr (C := c_i_minus) m_ (trivial) Tryz.func91 (by kernel_rfl) k_i_minus
noncomputable def i_cross (x0 : List Int) (x1 : List Int) : Option (Int) :=
(idx x0 (0 : Int)).bind fun v1 => (idx x1 (1 : Int)).bind fun v2 => (idx x0 (1 : Int)).bind fun v3 => (idx x1 (0 : Int)).bind fun v4 => some (IntKind.i64.wrap ((IntKind.i64.wrap (v1 * v2)) - (IntKind.i64.wrap (v3 * v4))))
noncomputable def e_i_cross : CallE := ⟨123, [.d false (.list (.int .i64)), .d false (.list (.int .i64))], [.l (.d false (.int .i64))], fun x => i_cross x.1 x.2⟩
noncomputable def c_i_cross : Ctx := ⟨Tryz.prog, TT, [], [], [], [], [], []⟩
theorem k_i_cross (x : PMs.den e_i_cross.ps) : funK c_i_cross Tryz.f123 e_i_cross.ps e_i_cross.rs x = e_i_cross.F x := by kernel_rfl
theorem o_i_cross {D : Prop} : FnOk Tryz.prog e_i_cross.f ∧ Ctr D Tryz.prog e_i_cross := mkCtr (C := c_i_cross) m_ (trivial) Tryz.func123 (by kernel_rfl) k_i_cross
noncomputable def i_turn (x0 : List Int) (x1 : List Int) (x2 : List Int) : Option (Int) :=
(i_minus x1 x0).bind fun v1 => (i_minus x2 x0).bind fun v2 => (i_cross v1 v2).bind fun v3 => some v3
noncomputable def e_i_turn : CallE := ⟨86, [.d false (.list (.int .i64)), .d false (.list (.int .i64)), .d false (.list (.int .i64))], [.l (.d false (.int .i64))], fun x => i_turn x.1 x.2.1 x.2.2⟩
noncomputable def c_i_turn : Ctx := ⟨Tryz.prog, TT, [e_i_minus, e_i_cross], [], [], [], [], []⟩
theorem k_i_turn (x : PMs.den e_i_turn.ps) : funK c_i_turn Tryz.f86 e_i_turn.ps e_i_turn.rs x = e_i_turn.F x := by kernel_rfl
theorem o_i_turn {D : Prop} : FnOk Tryz.prog e_i_turn.f ∧ Ctr D Tryz.prog e_i_turn := mkCtr (C := c_i_turn) m_ (⟨o_i_minus, o_i_cross, trivial⟩) Tryz.func86 (by kernel_rfl) k_i_turn
noncomputable def g_cmp_isNaN (x0 : Int) : Option (Bool) :=
 some (x0 != x0)
noncomputable def e_g_cmp_isNaN : CallE := ⟨148, [.d false (.int .i64)], [.l (.d false .bool)], fun x => g_cmp_isNaN x⟩
noncomputable def c_g_cmp_isNaN : Ctx := ⟨Tryz.prog, TT, [], [], [], [], [], []⟩
theorem k_g_cmp_isNaN (x : PMs.den e_g_cmp_isNaN.ps) : funK c_g_cmp_isNaN Tryz.f148 e_g_cmp_isNaN.ps e_g_cmp_isNaN.rs x = e_g_cmp_isNaN.F x := by kernel_rfl
theorem o_g_cmp_isNaN {D : Prop} : FnOk Tryz.prog e_g_cmp_isNaN.f ∧ Ctr D Tryz.prog e_g_cmp_isNaN := mkCtr (C := c_g_cmp_isNaN) m_ (trivial) Tryz.func148 (by kernel_rfl) k_g_cmp_isNaN
noncomputable def g_cmp_Compare (x0 : Int) (x1 : Int) : Option (Int) :=
(g_cmp_isNaN x0).bind fun v1 => (g_cmp_isNaN x1).bind fun v2 => cond v1
 (cond v2
 (some (0 : Int))
 (some (-1 : Int)))
 (cond v2
 (some (1 : Int))
 (cond (decide (x0 < x1))
 (some (-1 : Int))
 (cond (decide (x0 > x1))
 (some (1 : Int))
 (some (0 : Int)))))
noncomputable def e_g_cmp_Compare : CallE := ⟨124, [.d false (.int .i64), .d false (.int .i64)], [.l (.d false (.int .i64))], fun x => g_cmp_Compare x.1 x.2⟩
noncomputable def c_g_cmp_Compare : Ctx := ⟨Tryz.prog, TT, [e_g_cmp_isNaN], [], [], [], [], []⟩
theorem k_g_cmp_Compare (x : PMs.den e_g_cmp_Compare.ps) : funK c_g_cmp_Compare Tryz.f124 e_g_cmp_Compare.ps e_g_cmp_Compare.rs x = e_g_cmp_Compare.F x := by kernel_rfl
theorem o_g_cmp_Compare {D : Prop} : FnOk Tryz.prog e_g_cmp_Compare.f ∧ Ctr D Tryz.prog e_g_cmp_Compare := mkCtr (C := c_g_cmp_Compare) m_ (⟨o_g_cmp_isNaN, trivial⟩) Tryz.func124 (by kernel_rfl) k_g_cmp_Compare
noncomputable def g_slices_Compare_s2 (x0 : List Int) (x1 : List Int) (v1 : Int) : Option ((Int) ⊕ ((Unit) ⊕ (Int))) :=
 cond (decide (v1 < (x0.length : Int)))
 ((idx x0 v1).bind fun v2 => cond (decide (v1 ≥ (x1.length : Int)))
 (some (.inr (.inr (1 : Int))))
 ((idx x1 v1).bind fun v3 => (g_cmp_Compare v2 v3).bind fun v4 => cond (v4 != (0 : Int))
 (some (.inr (.inr v4)))
 (some (.inl (IntKind.i64.wrap (v1 + (1 : Int)))))))
 (some (.inr (.inl ())))
noncomputable def g_slices_Compare (x0 : List Int) (x1 : List Int) : Option (Int) :=
(iter (g_slices_Compare_s2 x0 x1) (0 : Int)).bind fun v5 => match v5 with
 | .inl v6 => (cond (decide ((x0.length : Int) < (x1.length : Int)))
 (some (-1 : Int))
 (some (0 : Int)))
 | .inr v7 => (some v7)
noncomputable def e_g_slices_Compare : CallE := ⟨87, [.d false (.list (.int .i64)), .d false (.list (.int .i64))], [.l (.d false (.int .i64))], fun x => g_slices_Compare x.1 x.2⟩
noncomputable def c_g_slices_Compare : Ctx := ⟨Tryz.prog, TT, [e_g_cmp_Compare], [⟨2, [(11, .l (.d false (.int .i64)))], some (0, []), some [(4, .l (.d false (.int .i64)))], false⟩], [], [], [], []⟩
theorem k_g_slices_Compare (x : PMs.den e_g_slices_Compare.ps) : funK c_g_slices_Compare Tryz.f87 e_g_slices_Compare.ps e_g_slices_Compare.rs x = e_g_slices_Compare.F x := by kernel_rfl
theorem o_g_slices_Compare {D : Prop} : FnOk Tryz.prog e_g_slices_Compare.f ∧ Ctr D Tryz.prog e_g_slices_Compare := mkCtr (C := c_g_slices_Compare) m_ (⟨o_g_cmp_Compare, trivial⟩) Tryz.func87 (by kernel_rfl) k_g_slices_Compare
noncomputable def i_IsPolygon_s4 (x0 : List (List Int)) (v2 : Int) : Option ((Int) ⊕ ((Unit) ⊕ (Bool))) :=
 cond (decide (v2 < (x0.length : Int)))
 ((idx x0 v2).bind fun v3 => (i_isPoint v3 (50 : Int)).bind fun v4 => cond (!v4)
 (some (.inr (.inr false)))
 (some (.inl (IntKind.i64.wrap (v2 + (1 : Int))))))
 (some (.inr (.inl ())))
noncomputable def i_IsPolygon_s11 (x0 : List (List Int)) (v8 : Int) : Option ((Int) ⊕ ((Unit) ⊕ (Bool))) :=
 cond (decide (v8 < (x0.length : Int)))
 ((idx x0 v8).bind fun v9 => (remI .i64 (IntKind.i64.wrap (v8 + (1 : Int))) (x0.length : Int)).bind fun v10 => (idx x0 v10).bind fun v11 => (remI .i64 (IntKind.i64.wrap (v8 + (2 : Int))) (x0.length : Int)).bind fun v12 => (idx x0 v12).bind fun v13 => (i_turn v9 v11 v13).bind fun v14 => cond (decide (v14 ≤ (0 : Int)))
 (some (.inr (.inr false)))
 (cond (decide (v8 > (0 : Int)))
 ((idx x0 (0 : Int)).bind fun v15 => (g_slices_Compare v15 v9).bind fun v16 => cond (decide (v16 ≥ (0 : Int)))
 (some (.inr (.inr false)))
 (cond (decide (v8 > (0 : Int)))
 (cond (decide (v8 < (IntKind.i64.wrap ((x0.length : Int) - (1 : Int)))))
 ((idx x0 (0 : Int)).bind fun v17 => (idx x0 (IntKind.i64.wrap (v8 + (1 : Int)))).bind fun v18 => (i_turn v17 v9 v18).bind fun v19 => cond (decide (v19 ≤ (0 : Int)))
 (some (.inr (.inr false)))
 (some (.inl (IntKind.i64.wrap (v8 + (1 : Int))))))
 (some (.inl (IntKind.i64.wrap (v8 + (1 : Int))))))
 (some (.inl (IntKind.i64.wrap (v8 + (1 : Int)))))))
 (cond (decide (v8 > (0 : Int)))
 (cond (decide (v8 < (IntKind.i64.wrap ((x0.length : Int) - (1 : Int)))))
 ((idx x0 (0 : Int)).bind fun v20 => (idx x0 (IntKind.i64.wrap (v8 + (1 : Int)))).bind fun v21 => (i_turn v20 v9 v21).bind fun v22 => cond (decide (v22 ≤ (0 : Int)))
 (some (.inr (.inr false)))
 (some (.inl (IntKind.i64.wrap (v8 + (1 : Int))))))
 (some (.inl (IntKind.i64.wrap (v8 + (1 : Int))))))
 (some (.inl (IntKind.i64.wrap (v8 + (1 : Int))))))))
 (some (.inr (.inl ())))
noncomputable def i_IsPolygon (x0 : List (List Int)) : Option (Bool) :=
(i_within (x0.length : Int) (3 : Int) (12 : Int)).bind fun v1 => cond (!v1)
 (some false)
 ((iter (i_IsPolygon_s4 x0) (0 : Int)).bind fun v5 => match v5 with
 | .inl v6 => ((iter (i_IsPolygon_s11 x0) (0 : Int)).bind fun v23 => match v23 with
 | .inl v24 => (some true)
 | .inr v25 => (some v25))
 | .inr v7 => (some v7))
noncomputable def e_i_IsPolygon : CallE := ⟨44, [.d false (.list (.list (.int .i64)))], [.l (.d false .bool)], fun x => i_IsPolygon x⟩
noncomputable def c_i_IsPolygon : Ctx := ⟨Tryz.prog, TT, [e_i_within, e_i_isPoint, e_i_turn, e_g_slices_Compare], [⟨4, [(14, .l (.d false (.int .i64)))], some (0, []), some [(2, .l (.d false .bool))], false⟩, ⟨11, [(26, .l (.d false (.int .i64)))], some (2, []), some [(2, .l (.d false .bool))], false⟩], [], [], [], []⟩
theorem k_i_IsPolygon (x : PMs.den e_i_IsPolygon.ps) : funK c_i_IsPolygon Tryz.f44 e_i_IsPolygon.ps e_i_IsPolygon.rs x = e_i_IsPolygon.F x := by kernel_rfl
theorem o_i_IsPolygon {D : Prop} : FnOk Tryz.prog e_i_IsPolygon.f ∧ Ctr D Tryz.prog e_i_IsPolygon := mkCtr (C := c_i_IsPolygon) m_ (⟨o_i_within, o_i_isPoint, o_i_turn, o_g_slices_Compare, trivial⟩) Tryz.func44 (by kernel_rfl) k_i_IsPolygon
noncomputable def i_ParsePolygon_s3 (v1 : List ByteArray) (v2 : List (List Int) × Int) : Option ((List (List Int) × Int) ⊕ ((List (List Int)) ⊕ (List (List Int) × Bool))) :=
 cond (decide (v2.2 < (v1.length : Int)))
 ((idx v1 v2.2).bind fun v3 => (i_ParseVector v3).bind fun v4 => cond (!v4.2)
 (some (.inr (.inr (([] : List (List Int)), false))))
 ((appD 24 v2.1 ([v4.1] : List (List Int))).bind fun v5 => some (.inl (v5, (IntKind.i64.wrap (v2.2 + (1 : Int)))))))
 (some (.inr (.inl v2.1)))
noncomputable def i_ParsePolygon (x0 : ByteArray) : Option (List (List Int) × Bool) :=
(i_SplitByte x0 (32 : Int)).bind fun v1 => (iter (i_ParsePolygon_s3 v1) (([] : List (List Int)), (0 : Int))).bind fun v6 => match v6 with
 | .inl v7 => ((i_IsPolygon v7).bind fun v9 => cond (!v9)
 (some (([] : List (List Int)), false))
 (some (v7, true)))
 | .inr v8 => (some (v8.1, v8.2))
noncomputable def e_i_ParsePolygon : CallE := ⟨65, [.d false .str], [.l (.o true 44 (.list (.int .i64))), .l (.d false .bool)], fun x => i_ParsePolygon x⟩
noncomputable def c_i_ParsePolygon : Ctx := ⟨Tryz.prog, TT, [e_i_SplitByte, e_i_ParseVector, e_i_IsPolygon], [⟨3, [(4, .l (.o true 44 (.list (.int .i64)))), (12, .l (.d false (.int .i64)))], some (0, [(4, .l (.o true 44 (.list (.int .i64))))]), some [(2, .l (.o true 44 (.list (.int .i64)))), (3, .l (.d false .bool))], false⟩], [], [], [], []⟩
theorem k_i_ParsePolygon (x : PMs.den e_i_ParsePolygon.ps) : funK c_i_ParsePolygon Tryz.f65 e_i_ParsePolygon.ps e_i_ParsePolygon.rs x = e_i_ParsePolygon.F x := by kernel_rfl
theorem o_i_ParsePolygon : FnOk Tryz.prog e_i_ParsePolygon.f ∧ Ctr False Tryz.prog e_i_ParsePolygon := mkCtr (C := c_i_ParsePolygon) m_ (⟨o_i_SplitByte, o_i_ParseVector, o_i_IsPolygon, trivial⟩) Tryz.func65 (by kernel_rfl) k_i_ParsePolygon
noncomputable def i_examplePolygon (x0 : Int) : Option (List (List Int) × Bool) :=
(i_ExampleText x0).bind fun v1 => (i_ParsePolygon v1).bind fun v2 => some (v2.1, v2.2)
noncomputable def e_i_examplePolygon : CallE := ⟨26, [.d false (.int .i64)], [.l (.o true 44 (.list (.int .i64))), .l (.d false .bool)], fun x => i_examplePolygon x⟩
noncomputable def c_i_examplePolygon : Ctx := ⟨Tryz.prog, TT, [e_i_ExampleText, e_i_ParsePolygon], [], [], [], [], []⟩
theorem k_i_examplePolygon (x : PMs.den e_i_examplePolygon.ps) : funK c_i_examplePolygon Tryz.f26 e_i_examplePolygon.ps e_i_examplePolygon.rs x = e_i_examplePolygon.F x := by kernel_rfl
theorem o_i_examplePolygon : FnOk Tryz.prog e_i_examplePolygon.f ∧ Ctr False Tryz.prog e_i_examplePolygon := mkCtr (C := c_i_examplePolygon) m_ (⟨o_i_ExampleText, o_i_ParsePolygon, trivial⟩) Tryz.func26 (by kernel_rfl) k_i_examplePolygon
noncomputable def i_copyInts (x0 : List Int) : Option (List Int) :=
(appD 8 ([] : List Int) x0).bind fun v1 => some v1
noncomputable def e_i_copyInts : CallE := ⟨66, [.d false (.list (.int .i64))], [.l (.o true 3 (.int .i64))], fun x => i_copyInts x⟩
noncomputable def c_i_copyInts : Ctx := ⟨Tryz.prog, TT, [], [], [], [], [], []⟩
theorem k_i_copyInts (x : PMs.den e_i_copyInts.ps) : funK c_i_copyInts Tryz.f66 e_i_copyInts.ps e_i_copyInts.rs x = e_i_copyInts.F x := by kernel_rfl
theorem o_i_copyInts {D : Prop} : FnOk Tryz.prog e_i_copyInts.f ∧ Ctr D Tryz.prog e_i_copyInts := mkCtr (C := c_i_copyInts) m_ (trivial) Tryz.func66 (by kernel_rfl) k_i_copyInts
noncomputable def i_copyPoints_s3 (x0 : List (List Int)) (v1 : List (List Int) × Int) : Option ((List (List Int) × Int) ⊕ (List (List Int))) :=
 cond (decide (v1.2 < (x0.length : Int)))
 ((idx x0 v1.2).bind fun v2 => (i_copyInts v2).bind fun v3 => (appD 24 v1.1 ([v3] : List (List Int))).bind fun v4 => some (.inl (v4, (IntKind.i64.wrap (v1.2 + (1 : Int))))))
 (some (.inr v1.1))
noncomputable def i_copyPoints (x0 : List (List Int)) : Option (List (List Int)) :=
(iter (i_copyPoints_s3 x0) (([] : List (List Int)), (0 : Int))).bind fun v5 => some v5
noncomputable def e_i_copyPoints : CallE := ⟨27, [.d false (.list (.list (.int .i64)))], [.l (.o true 44 (.list (.int .i64)))], fun x => i_copyPoints x⟩
noncomputable def c_i_copyPoints : Ctx := ⟨Tryz.prog, TT, [e_i_copyInts], [⟨3, [(3, .l (.o true 44 (.list (.int .i64)))), (8, .l (.d false (.int .i64)))], some (0, [(3, .l (.o true 44 (.list (.int .i64))))]), none, false⟩], [], [], [], []⟩
theorem k_i_copyPoints (x : PMs.den e_i_copyPoints.ps) : funK c_i_copyPoints Tryz.f27 e_i_copyPoints.ps e_i_copyPoints.rs x = e_i_copyPoints.F x := by kernel_rfl
theorem o_i_copyPoints {D : Prop} : FnOk Tryz.prog e_i_copyPoints.f ∧ Ctr D Tryz.prog e_i_copyPoints := mkCtr (C := c_i_copyPoints) m_ (⟨o_i_copyInts, trivial⟩) Tryz.func27 (by kernel_rfl) k_i_copyPoints
noncomputable def i_NewSession : Option (List (List Int) × List (List Int)) :=
(i_examplePolygon (1 : Int)).bind fun v1 => (i_copyPoints v1.1).bind fun v2 => some (v1.1, v2)
noncomputable def e_i_NewSession : CallE := ⟨8, [], [.a [(.o true 44 (.list (.int .i64))), (.o true 44 (.list (.int .i64)))]], fun x => i_NewSession⟩
noncomputable def c_i_NewSession : Ctx := ⟨Tryz.prog, TT, [e_i_examplePolygon, e_i_copyPoints], [], [], [], [], []⟩
theorem k_i_NewSession (x : PMs.den e_i_NewSession.ps) : funK c_i_NewSession Tryz.f8 e_i_NewSession.ps e_i_NewSession.rs x = e_i_NewSession.F x := by kernel_rfl
theorem o_i_NewSession : FnOk Tryz.prog e_i_NewSession.f ∧ Ctr False Tryz.prog e_i_NewSession := mkCtr (C := c_i_NewSession) m_ (⟨o_i_examplePolygon, o_i_copyPoints, trivial⟩) Tryz.func8 (by kernel_rfl) k_i_NewSession
noncomputable def w_eqIntS_s4 (x0 : List Int) (x1 : List Int) (v1 : Int) : Option ((Int) ⊕ ((Unit) ⊕ (Bool))) :=
 cond (decide (v1 < (x0.length : Int)))
 ((idx x0 v1).bind fun v2 => (idx x1 v1).bind fun v3 => cond (v2 != v3)
 (some (.inr (.inr false)))
 (some (.inl (IntKind.i64.wrap (v1 + (1 : Int))))))
 (some (.inr (.inl ())))
noncomputable def w_eqIntS (x0 : List Int) (x1 : List Int) : Option (Bool) :=
 cond ((x0.length : Int) != (x1.length : Int))
 (some false)
 ((iter (w_eqIntS_s4 x0 x1) (0 : Int)).bind fun v4 => match v4 with
 | .inl v5 => (some true)
 | .inr v6 => (some v6))
noncomputable def e_w_eqIntS : CallE := ⟨56, [.d false (.list (.int .i64)), .d false (.list (.int .i64))], [.l (.d false .bool)], fun x => w_eqIntS x.1 x.2⟩
noncomputable def c_w_eqIntS : Ctx := ⟨Tryz.prog, TT, [], [⟨4, [(5, .l (.d false (.int .i64)))], some (0, []), some [(4, .l (.d false .bool))], false⟩], [], [], [], []⟩
theorem k_w_eqIntS (x : PMs.den e_w_eqIntS.ps) : funK c_w_eqIntS Tryz.f56 e_w_eqIntS.ps e_w_eqIntS.rs x = e_w_eqIntS.F x := by kernel_rfl
theorem o_w_eqIntS {D : Prop} : FnOk Tryz.prog e_w_eqIntS.f ∧ Ctr D Tryz.prog e_w_eqIntS := mkCtr (C := c_w_eqIntS) m_ (trivial) Tryz.func56 (by kernel_rfl) k_w_eqIntS
noncomputable def w_eqIntSS_s4 (x0 : List (List Int)) (x1 : List (List Int)) (v1 : Int) : Option ((Int) ⊕ ((Unit) ⊕ (Bool))) :=
 cond (decide (v1 < (x0.length : Int)))
 ((idx x0 v1).bind fun v2 => (idx x1 v1).bind fun v3 => (w_eqIntS v2 v3).bind fun v4 => cond (!v4)
 (some (.inr (.inr false)))
 (some (.inl (IntKind.i64.wrap (v1 + (1 : Int))))))
 (some (.inr (.inl ())))
noncomputable def w_eqIntSS (x0 : List (List Int)) (x1 : List (List Int)) : Option (Bool) :=
 cond ((x0.length : Int) != (x1.length : Int))
 (some false)
 ((iter (w_eqIntSS_s4 x0 x1) (0 : Int)).bind fun v5 => match v5 with
 | .inl v6 => (some true)
 | .inr v7 => (some v7))
noncomputable def e_w_eqIntSS : CallE := ⟨16, [.d false (.list (.list (.int .i64))), .d false (.list (.list (.int .i64)))], [.l (.d false .bool)], fun x => w_eqIntSS x.1 x.2⟩
noncomputable def c_w_eqIntSS : Ctx := ⟨Tryz.prog, TT, [e_w_eqIntS], [⟨4, [(5, .l (.d false (.int .i64)))], some (0, []), some [(4, .l (.d false .bool))], false⟩], [], [], [], []⟩
theorem k_w_eqIntSS (x : PMs.den e_w_eqIntSS.ps) : funK c_w_eqIntSS Tryz.f16 e_w_eqIntSS.ps e_w_eqIntSS.rs x = e_w_eqIntSS.F x := by kernel_rfl
theorem o_w_eqIntSS {D : Prop} : FnOk Tryz.prog e_w_eqIntSS.f ∧ Ctr D Tryz.prog e_w_eqIntSS := mkCtr (C := c_w_eqIntSS) m_ (⟨o_w_eqIntS, trivial⟩) Tryz.func16 (by kernel_rfl) k_w_eqIntSS
noncomputable def w_eqSession (x0 : (List (List Int)) × (List (List Int))) (x1 : (List (List Int)) × (List (List Int))) : Option (Bool) :=
(w_eqIntSS x0.1 x1.1).bind fun v1 => cond (!v1)
 (some false)
 ((w_eqIntSS x0.2 x1.2).bind fun v2 => cond (!v2)
 (some false)
 (some true))
noncomputable def e_w_eqSession : CallE := ⟨9, [.d false (.prod (.list (.list (.int .i64))) (.list (.list (.int .i64)))), .d false (.prod (.list (.list (.int .i64))) (.list (.list (.int .i64))))], [.l (.d false .bool)], fun x => w_eqSession x.1 x.2⟩
noncomputable def c_w_eqSession : Ctx := ⟨Tryz.prog, TT, [e_w_eqIntSS], [], [], [], [], []⟩
theorem k_w_eqSession (x : PMs.den e_w_eqSession.ps) : funK c_w_eqSession Tryz.f9 e_w_eqSession.ps e_w_eqSession.rs x = e_w_eqSession.F x := by kernel_rfl
theorem o_w_eqSession {D : Prop} : FnOk Tryz.prog e_w_eqSession.f ∧ Ctr D Tryz.prog e_w_eqSession := mkCtr (C := c_w_eqSession) m_ (⟨o_w_eqIntSS, trivial⟩) Tryz.func9 (by kernel_rfl) k_w_eqSession
noncomputable def d_markIntS_s (s : Int × Int × List Int) : Option ((Int × Int × List Int) ⊕ (Int × List Int)) :=
 cond (decide (s.2.1 < (s.2.2.length : Int)))
 ((inIdx s.2.2.length s.2.1).bind fun _ => (s.2.2[s.2.1.toNat]?).bind fun v1 => (setInt (.int .i64) v1 0 s.1).bind fun v2 => some (.inl ((IntKind.i64.wrap (s.1 + (1 : Int))), (IntKind.i64.wrap (s.2.1 + (1 : Int))), (s.2.2.set s.2.1.toNat v2))))
 (some (.inr (s.1, s.2.2)))
noncomputable def d_markIntS (x0 : List Int) (x1 : Int) : Option (List Int × Int) :=
(iter d_markIntS_s (x1, (0 : Int), x0)).bind fun v3 => some (v3.2, v3.1)
noncomputable def i_d_markIntS : InnerE := ⟨67, (.int .i64), fun y n => d_markIntS y n⟩
noncomputable def c_d_markIntS : Ctx := ⟨Tryz.prog, TT, [], [], [], [], [], []⟩
theorem k_d_markIntS (y : List Int) (n : Int) : funM c_d_markIntS [] (.int .i64) ⟨0, 1, 5, 0⟩ Tryz.f67 y n = i_d_markIntS.F y n := by kernel_rfl
theorem o_d_markIntS : FnOk Tryz.prog i_d_markIntS.f ∧ ∀ e, MarkOk Tryz.prog (i_d_markIntS.mark e) := mkMark (C := c_d_markIntS) (S := []) (L := ⟨0, 1, 5, 0⟩) (trivial) Tryz.func67 (by kernel_rfl) k_d_markIntS
noncomputable def d_markIntSS_s (s : Int × Int × List (List Int)) : Option ((Int × Int × List (List Int)) ⊕ (Int × List (List Int))) :=
 cond (decide (s.2.1 < (s.2.2.length : Int)))
 ((inIdx s.2.2.length s.2.1).bind fun _ => if s.2.1.toNat < s.2.2.length ∧ 0 < Ty.wid (.list (.int .i64)) then ((s.2.2[s.2.1.toNat]?).bind fun v1 => (updAt i_d_markIntS (.list (.int .i64)) v1 0 s.1).bind fun v2 => some (.inl (v2.2, (IntKind.i64.wrap (s.2.1 + (1 : Int))), (s.2.2.set s.2.1.toNat v2.1)))) else none)
 (some (.inr (s.1, s.2.2)))
noncomputable def d_markIntSS (x0 : List (List Int)) (x1 : Int) : Option (List (List Int) × Int) :=
(iter d_markIntSS_s (x1, (0 : Int), x0)).bind fun v3 => some (v3.2, v3.1)
noncomputable def i_d_markIntSS : InnerE := ⟨28, (.list (.int .i64)), fun y n => d_markIntSS y n⟩
noncomputable def c_d_markIntSS : Ctx := ⟨Tryz.prog, TT, [], [], [], [], [], []⟩
theorem k_d_markIntSS (y : List (List Int)) (n : Int) : funM c_d_markIntSS [i_d_markIntS] (.list (.int .i64)) ⟨0, 1, 5, 0⟩ Tryz.f28 y n = i_d_markIntSS.F y n := by kernel_rfl
theorem o_d_markIntSS : FnOk Tryz.prog i_d_markIntSS.f ∧ ∀ e, MarkOk Tryz.prog (i_d_markIntSS.mark e) := mkMark (C := c_d_markIntSS) (S := [i_d_markIntS]) (L := ⟨0, 1, 5, 0⟩) (⟨o_d_markIntS, trivial⟩) Tryz.func28 (by kernel_rfl) k_d_markIntSS
noncomputable def q_d_markSession : MarkE := ⟨10, some (2, 0), 44, i_d_markIntSS.t, i_d_markIntSS.F, some ⟨2, 1, 44, i_d_markIntSS.t, i_d_markIntSS.F⟩⟩
theorem o_d_markSession : FnOk Tryz.prog q_d_markSession.f ∧ MarkOk Tryz.prog q_d_markSession := by
  refine ⟨⟨Tryz.f10, _, Tryz.func10, by kernel_rfl, rfl⟩, ?_⟩
  intro y n y' n' hF w u v bs hown hnd hh
  show ∀ z z' n2, _
  intro z z' n2 hF2 v2 bs2 hown2 hnd2 hdis hh2
  obtain ⟨vs, rfl, hl, hj, hone⟩ := hh
  obtain ⟨vs', he, _, hj2, _⟩ := hh2
  have e0 : vs = [v, v2] := by
    match vs, hl with
    | [a, b], _ =>
      have : vs' = [a, b] := by simpa using he.symm
      subst this
      simp at hj hj2
      rw [hj, hj2]
  subst e0
  have o1 := hone v (by simp)
  have o2 := hone v2 (by simp)
  have hm1 : ∀ w0 : World, OwnV (fun _ => False) w0 true 44 i_d_markIntSS.t y v bs → Calls Tryz.prog 28 #[v, .int .i64 n] w0 fun ex w' => ex = .returned (.int .i64 n') ∧ MarkOut w0 w' bs ∧ OwnV (fun _ => False) w' true 44 i_d_markIntSS.t y' v bs := fun w0 ho =>
    o_d_markIntSS.2 44 y n y' n' hF w0 v v bs ho hnd rfl
  have hm2 : ∀ w0 : World, OwnV (fun _ => False) w0 true 44 i_d_markIntSS.t z v2 bs2 → Calls Tryz.prog 28 #[v2, .int .i64 n'] w0 fun ex w' => ex = .returned (.int .i64 n2) ∧ MarkOut w0 w' bs2 ∧ OwnV (fun _ => False) w' true 44 i_d_markIntSS.t z' v2 bs2 := fun w0 ho =>
    o_d_markIntSS.2 44 z n' z' n2 hF2 w0 v2 v2 bs2 ho hnd2 rfl
  go_enter Tryz.func10, Tryz.ntmps10
  go_wp2_with (first
    | (go_at_call 28; with_reducible refine (hm1 _ ?_).mono ?_; rotate_left; rintro e w1 ⟨rfl, mo1, ho1⟩; have hc1 := own_box hown mo1)
    | (go_at_call 28; with_reducible refine (hm2 _ ?_).mono ?_; rotate_left; rintro e w2 ⟨rfl, mo2, ho2⟩)
    | go_in)
  · go_ret
    exact ⟨rfl, w1, mark_alloc mo1, ho1, mo2, ho2⟩
  · exact own_other hown2 hdis mo1
  · exact own_alloc hown _
noncomputable def w_heldIntS_s2 (x0 : List Int) (v1 : Int × Int) : Option ((Int × Int) ⊕ ((Int) ⊕ (Int))) :=
 cond (decide (v1.2 < (x0.length : Int)))
 ((idx x0 v1.2).bind fun v2 => cond (v2 != v1.1)
 (some (.inr (.inr (-1 : Int))))
 (some (.inl ((IntKind.i64.wrap (v1.1 + (1 : Int))), (IntKind.i64.wrap (v1.2 + (1 : Int)))))))
 (some (.inr (.inl v1.1)))
noncomputable def w_heldIntS (x0 : List Int) (x1 : Int) : Option (Int) :=
(iter (w_heldIntS_s2 x0) (x1, (0 : Int))).bind fun v3 => match v3 with
 | .inl v4 => (some v4)
 | .inr v5 => (some v5)
noncomputable def e_w_heldIntS : CallE := ⟨68, [.d false (.list (.int .i64)), .d false (.int .i64)], [.l (.d false (.int .i64))], fun x => w_heldIntS x.1 x.2⟩
noncomputable def c_w_heldIntS : Ctx := ⟨Tryz.prog, TT, [], [⟨2, [(1, .l (.d false (.int .i64))), (5, .l (.d false (.int .i64)))], some (0, [(1, .l (.d false (.int .i64)))]), some [(4, .l (.d false (.int .i64)))], false⟩], [], [], [], []⟩
theorem k_w_heldIntS (x : PMs.den e_w_heldIntS.ps) : funK c_w_heldIntS Tryz.f68 e_w_heldIntS.ps e_w_heldIntS.rs x = e_w_heldIntS.F x := by kernel_rfl
theorem o_w_heldIntS {D : Prop} : FnOk Tryz.prog e_w_heldIntS.f ∧ Ctr D Tryz.prog e_w_heldIntS := mkCtr (C := c_w_heldIntS) m_ (trivial) Tryz.func68 (by kernel_rfl) k_w_heldIntS
noncomputable def w_heldIntSS_s2 (x0 : List (List Int)) (v1 : Int × Int) : Option ((Int × Int) ⊕ ((Int) ⊕ (Int))) :=
 cond (decide (v1.2 < (x0.length : Int)))
 ((idx x0 v1.2).bind fun v2 => (w_heldIntS v2 v1.1).bind fun v3 => cond (decide (v3 < (0 : Int)))
 (some (.inr (.inr (-1 : Int))))
 (some (.inl (v3, (IntKind.i64.wrap (v1.2 + (1 : Int)))))))
 (some (.inr (.inl v1.1)))
noncomputable def w_heldIntSS (x0 : List (List Int)) (x1 : Int) : Option (Int) :=
(iter (w_heldIntSS_s2 x0) (x1, (0 : Int))).bind fun v4 => match v4 with
 | .inl v5 => (some v5)
 | .inr v6 => (some v6)
noncomputable def e_w_heldIntSS : CallE := ⟨29, [.d false (.list (.list (.int .i64))), .d false (.int .i64)], [.l (.d false (.int .i64))], fun x => w_heldIntSS x.1 x.2⟩
noncomputable def c_w_heldIntSS : Ctx := ⟨Tryz.prog, TT, [e_w_heldIntS], [⟨2, [(1, .l (.d false (.int .i64))), (5, .l (.d false (.int .i64)))], some (0, [(1, .l (.d false (.int .i64)))]), some [(4, .l (.d false (.int .i64)))], false⟩], [], [], [], []⟩
theorem k_w_heldIntSS (x : PMs.den e_w_heldIntSS.ps) : funK c_w_heldIntSS Tryz.f29 e_w_heldIntSS.ps e_w_heldIntSS.rs x = e_w_heldIntSS.F x := by kernel_rfl
theorem o_w_heldIntSS {D : Prop} : FnOk Tryz.prog e_w_heldIntSS.f ∧ Ctr D Tryz.prog e_w_heldIntSS := mkCtr (C := c_w_heldIntSS) m_ (⟨o_w_heldIntS, trivial⟩) Tryz.func29 (by kernel_rfl) k_w_heldIntSS
noncomputable def w_heldSession (x0 : (List (List Int)) × (List (List Int))) (x1 : Int) : Option (Int) :=
(w_heldIntSS x0.1 x1).bind fun v1 => cond (decide (v1 < (0 : Int)))
 (some (-1 : Int))
 ((w_heldIntSS x0.2 v1).bind fun v2 => cond (decide (v2 < (0 : Int)))
 (some (-1 : Int))
 (some v2))
noncomputable def e_w_heldSession : CallE := ⟨11, [.d false (.prod (.list (.list (.int .i64))) (.list (.list (.int .i64)))), .d false (.int .i64)], [.l (.d false (.int .i64))], fun x => w_heldSession x.1 x.2⟩
noncomputable def c_w_heldSession : Ctx := ⟨Tryz.prog, TT, [e_w_heldIntSS], [], [], [], [], []⟩
theorem k_w_heldSession (x : PMs.den e_w_heldSession.ps) : funK c_w_heldSession Tryz.f11 e_w_heldSession.ps e_w_heldSession.rs x = e_w_heldSession.F x := by kernel_rfl
theorem o_w_heldSession {D : Prop} : FnOk Tryz.prog e_w_heldSession.f ∧ Ctr D Tryz.prog e_w_heldSession := mkCtr (C := c_w_heldSession) m_ (⟨o_w_heldIntSS, trivial⟩) Tryz.func11 (by kernel_rfl) k_w_heldSession
noncomputable def w_FnExactNewSession : Option (Bool) :=
(s_NewSession).bind fun v1 => (i_NewSession).bind fun v2 => (w_eqSession (v2.1, v2.2) (v1.1, v1.2)).bind fun v3 => cond (!v3)
 (some false)
 ((d_markIntSS v2.1 (1 : Int)).bind fun v4 => (d_markIntSS v2.2 v4.2).bind fun v5 => (w_heldSession (v4.1, v5.1) (1 : Int)).bind fun v6 => cond (decide (v6 < (0 : Int)))
 (some false)
 (cond (v6 != v5.2)
 (some false)
 ((i_NewSession).bind fun v7 => (w_eqSession (v7.1, v7.2) (v1.1, v1.2)).bind fun v8 => cond (!v8)
 (some false)
 ((w_heldSession (v4.1, v5.1) (1 : Int)).bind fun v9 => cond (decide (v9 < (0 : Int)))
 (some false)
 (cond (v9 != v5.2)
 (some false)
 (some true))))))
noncomputable def e_w_FnExactNewSession : CallE := ⟨3, [], [.l (.d false .bool)], fun x => w_FnExactNewSession⟩
noncomputable def c_w_FnExactNewSession : Ctx := ⟨Tryz.prog, TT, [e_s_NewSession, e_i_NewSession, e_w_eqSession, e_w_heldSession], [], [], [], [], []⟩
noncomputable def m_w_FnExactNewSession : List MarkE := [q_d_markSession]
theorem k_w_FnExactNewSession (x : PMs.den e_w_FnExactNewSession.ps) : funT c_w_FnExactNewSession m_w_FnExactNewSession Tryz.f3 e_w_FnExactNewSession.ps e_w_FnExactNewSession.rs x = e_w_FnExactNewSession.F x := by kernel_rfl
theorem o_w_FnExactNewSession : FnOk Tryz.prog e_w_FnExactNewSession.f ∧ Ctr False Tryz.prog e_w_FnExactNewSession := mkLaw (C := c_w_FnExactNewSession) (M := m_w_FnExactNewSession) m_ (⟨o_s_NewSession, o_i_NewSession, o_w_eqSession, o_w_heldSession, trivial⟩) (⟨o_d_markSession, trivial⟩) Tryz.func3 (by kernel_rfl) (by kernel_rfl) k_w_FnExactNewSession
noncomputable def w_toIntS_s3 (x0 : List Int) (v2 : List Int × Int) : Option ((List Int × Int) ⊕ (List Int)) :=
 cond (decide (v2.2 < (x0.length : Int)))
 ((idx x0 v2.2).bind fun v3 => (inIdx v2.1.length v2.2).bind fun _ => (inIdx v2.1.length ((v2.2).toNat : Int)).bind fun _ => some (.inl ((v2.1.set ((v2.2).toNat) v3), (IntKind.i64.wrap (v2.2 + (1 : Int))))))
 (some (.inr v2.1))
noncomputable def w_toIntS (x0 : List Int) : Option (List Int) :=
(mkD 8 (x0.length : Int) (0 : Int)).bind fun v1 => (iter (w_toIntS_s3 x0) (v1, (0 : Int))).bind fun v4 => some v4
noncomputable def w_toIntSS_s3 (x0 : List (List Int)) (v2 : List (List Int) × Int) : Option ((List (List Int) × Int) ⊕ (List (List Int))) :=
 cond (decide (v2.2 < (x0.length : Int)))
 ((idx x0 v2.2).bind fun v3 => (w_toIntS v3).bind fun v4 => (inIdx v2.1.length v2.2).bind fun _ => (inIdx v2.1.length ((v2.2).toNat : Int)).bind fun _ => some (.inl ((v2.1.set ((v2.2).toNat) v4), (IntKind.i64.wrap (v2.2 + (1 : Int))))))
 (some (.inr v2.1))
noncomputable def w_toIntSS (x0 : List (List Int)) : Option (List (List Int)) :=
(mkD 24 (x0.length : Int) ([] : List Int)).bind fun v1 => (iter (w_toIntSS_s3 x0) (v1, (0 : Int))).bind fun v5 => some v5
end Go.Proofs.YtfmdddoidjhipaaGreatDoor
