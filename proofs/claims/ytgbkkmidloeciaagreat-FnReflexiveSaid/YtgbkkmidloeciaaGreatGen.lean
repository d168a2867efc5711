/- Plain functions. -/
import Derived.Test.YtgbkkmidloeciaaGreatProg
import Derived.Test.YtgbkkmidloeciaaGreatLay
import Derived.KernelRfl
namespace Go.Proofs.YtgbkkmidloeciaaGreat
open Go Go.Proofs.YtgbkkmidloeciaaGreat.Eng
set_option linter.unusedVariables false
set_option maxRecDepth 100000
noncomputable def TT : List (TypeId × Ty) := [(3, (.int .i64)), (5, (.int .u8)), (9, .str), (29, (.list (.int .i64)))]
theorem m_ : Tryz.prog.follows .mixedOrders = true := by kernel_rfl
/-! loop.example/g00959/laws.big -/
noncomputable def w_big (x0 : List Int) : Option (Bool) :=
 some (decide ((x0.length : Int) > (1048576 : Int)))
noncomputable def e_w_big : CallE := ⟨4, [.d false (.list (.int .u8))], [.l (.d false .bool)], fun x => w_big x⟩
noncomputable def c_w_big : Ctx := ⟨Tryz.prog, TT, [], [], [], [], [], []⟩
theorem k_w_big (x : PMs.den e_w_big.ps) : funK c_w_big Tryz.f4 e_w_big.ps e_w_big.rs x = e_w_big.F x := by kernel_rfl
theorem o_w_big {D : Prop} : FnOk Tryz.prog e_w_big.f ∧ Ctr D Tryz.prog e_w_big := mkCtr (C := c_w_big) m_ (trivial) Tryz.func4 (by kernel_rfl) k_w_big
/-! loop.example/g00959/spec.l1Byte -/
noncomputable def s_l1Byte (x0 : (List Int) × Int × Int) : Option ((Int) × ((List Int) × Int × Int) × Unit) :=
(shrI .i64 (IntKind.i64.wrap ((IntKind.i64.wrap (x0.2.2 * (6364136223846793005 : Int))) + (1442695040888963407 : Int))) (33 : Int)).bind fun v1 => (shrI .i64 (IntKind.i64.wrap ((IntKind.i64.wrap (x0.2.2 * (6364136223846793005 : Int))) + (1442695040888963407 : Int))) (45 : Int)).bind fun v2 => cond (decide (x0.2.1 < (x0.1.length : Int)))
 ((idx x0.1 x0.2.1).bind fun v3 => some ((andI .i64 (IntKind.i64.wrap ((andI .i64 (xorI .i64 v1 v2) (255 : Int)) + (IntKind.i64.wrap v3))) (255 : Int)), ((x0.1, ((IntKind.i64.wrap (x0.2.1 + (1 : Int))), (IntKind.i64.wrap ((IntKind.i64.wrap (x0.2.2 * (6364136223846793005 : Int))) + (1442695040888963407 : Int))))), ())))
 (some ((andI .i64 (xorI .i64 v1 v2) (255 : Int)), ((x0.1, (x0.2.1, (IntKind.i64.wrap ((IntKind.i64.wrap (x0.2.2 * (6364136223846793005 : Int))) + (1442695040888963407 : Int))))), ())))
noncomputable def e_s_l1Byte : CallE := ⟨102, [.cur 58], [.l (.d false (.int .i64))], fun x => s_l1Byte x⟩
noncomputable def c_s_l1Byte : Ctx := ⟨Tryz.prog, TT, [], [], [], [], [], []⟩
theorem k_s_l1Byte (x : PMs.den e_s_l1Byte.ps) : funK c_s_l1Byte Tryz.f102 e_s_l1Byte.ps e_s_l1Byte.rs x = e_s_l1Byte.F x := by kernel_rfl
theorem o_s_l1Byte {D : Prop} : FnOk Tryz.prog e_s_l1Byte.f ∧ Ctr D Tryz.prog e_s_l1Byte := mkCtr (C := c_s_l1Byte) m_ (trivial) Tryz.func102 (by kernel_rfl) k_s_l1Byte
/-! loop.example/g00959/spec.l1Below -/
noncomputable def s_l1Below (x0 : (List Int) × Int × Int) (x1 : Int) : Option ((Int) × ((List Int) × Int × Int) × Unit) :=
 cond (decide (x1 ≤ (0 : Int)))
 (some ((0 : Int), ((x0.1, (x0.2.1, x0.2.2)), ())))
 (cond (decide (x1 ≤ (256 : Int)))
 ((s_l1Byte (x0.1, (x0.2.1, x0.2.2))).bind fun v1 => (remI .i64 v1.1 x1).bind fun v2 => some (v2, ((v1.2.1.1, (v1.2.1.2.1, v1.2.1.2.2)), ())))
 ((s_l1Byte (x0.1, (x0.2.1, x0.2.2))).bind fun v3 => (s_l1Byte (v3.2.1.1, (v3.2.1.2.1, v3.2.1.2.2))).bind fun v4 => (s_l1Byte (v4.2.1.1, (v4.2.1.2.1, v4.2.1.2.2))).bind fun v5 => (s_l1Byte (v5.2.1.1, (v5.2.1.2.1, v5.2.1.2.2))).bind fun v6 => (remI .i64 (IntKind.i64.wrap ((IntKind.i64.wrap ((IntKind.i64.wrap ((IntKind.i64.wrap (v3.1 * (16777216 : Int))) + (IntKind.i64.wrap (v4.1 * (65536 : Int))))) + (IntKind.i64.wrap (v5.1 * (256 : Int))))) + v6.1)) x1).bind fun v7 => some (v7, ((v6.2.1.1, (v6.2.1.2.1, v6.2.1.2.2)), ()))))
noncomputable def e_s_l1Below : CallE := ⟨80, [.cur 58, .d false (.int .i64)], [.l (.d false (.int .i64))], fun x => s_l1Below x.1 x.2⟩
noncomputable def c_s_l1Below : Ctx := ⟨Tryz.prog, TT, [e_s_l1Byte], [], [], [], [], []⟩
theorem k_s_l1Below (x : PMs.den e_s_l1Below.ps) : funK c_s_l1Below Tryz.f80 e_s_l1Below.ps e_s_l1Below.rs x = e_s_l1Below.F x := by kernel_rfl
theorem o_s_l1Below {D : Prop} : FnOk Tryz.prog e_s_l1Below.f ∧ Ctr D Tryz.prog e_s_l1Below := mkCtr (C := c_s_l1Below) m_ (⟨o_s_l1Byte, trivial⟩) Tryz.func80 (by kernel_rfl) k_s_l1Below
/-! loop.example/g00959/spec.l1Pick -/
noncomputable def s_l1Pick (x0 : (List Int) × Int × Int) (x1 : List ByteArray) : Option ((ByteArray) × ((List Int) × Int × Int) × Unit) :=
(s_l1Below (x0.1, (x0.2.1, x0.2.2)) (x1.length : Int)).bind fun v1 => (idx x1 v1.1).bind fun v2 => some (v2, ((v1.2.1.1, (v1.2.1.2.1, v1.2.1.2.2)), ()))
noncomputable def e_s_l1Pick : CallE := ⟨45, [.cur 58, .d false (.list .str)], [.l (.d false .str)], fun x => s_l1Pick x.1 x.2⟩
noncomputable def c_s_l1Pick : Ctx := ⟨Tryz.prog, TT, [e_s_l1Below], [], [], [], [], []⟩
theorem k_s_l1Pick (x : PMs.den e_s_l1Pick.ps) : funK c_s_l1Pick Tryz.f45 e_s_l1Pick.ps e_s_l1Pick.rs x = e_s_l1Pick.F x := by kernel_rfl
theorem o_s_l1Pick {D : Prop} : FnOk Tryz.prog e_s_l1Pick.f ∧ Ctr D Tryz.prog e_s_l1Pick := mkCtr (C := c_s_l1Pick) m_ (⟨o_s_l1Below, trivial⟩) Tryz.func45 (by kernel_rfl) k_s_l1Pick
/-! loop.example/g00959/spec.SplitByte -/
noncomputable def s_SplitByte_s4 (x0 : ByteArray) (x1 : Int) (v1 : List ByteArray × Int × Int) : Option ((List ByteArray × Int × Int) ⊕ (List ByteArray)) :=
 cond (decide (v1.2.2 ≤ (x0.size : Int)))
 (cond (v1.2.2 == (x0.size : Int))
 ((subs x0 v1.2.1 v1.2.2).bind fun v2 => (appD 16 v1.1 ([v2] : List ByteArray)).bind fun v3 => some (.inl (v3, ((IntKind.i64.wrap (v1.2.2 + (1 : Int))), (IntKind.i64.wrap (v1.2.2 + (1 : Int)))))))
 ((idx x0.data.toList v1.2.2).bind fun v4 => cond ((v4.toNat : Int) == x1)
 ((subs x0 v1.2.1 v1.2.2).bind fun v5 => (appD 16 v1.1 ([v5] : List ByteArray)).bind fun v6 => some (.inl (v6, ((IntKind.i64.wrap (v1.2.2 + (1 : Int))), (IntKind.i64.wrap (v1.2.2 + (1 : Int)))))))
 (some (.inl (v1.1, (v1.2.1, (IntKind.i64.wrap (v1.2.2 + (1 : Int)))))))))
 (some (.inr v1.1))
noncomputable def s_SplitByte (x0 : ByteArray) (x1 : Int) : Option (List ByteArray) :=
(iter (s_SplitByte_s4 x0 x1) (([] : List ByteArray), ((0 : Int), (0 : Int)))).bind fun v7 => some v7
noncomputable def e_s_SplitByte : CallE := ⟨78, [.d false .str, .d false (.int .u8)], [.l (.o true 9 .str)], fun x => s_SplitByte x.1 x.2⟩
noncomputable def c_s_SplitByte : Ctx := ⟨Tryz.prog, TT, [], [⟨4, [(5, .l (.o true 9 .str)), (6, .l (.d false (.int .i64))), (7, .l (.d false (.int .i64)))], some (0, [(5, .l (.o true 9 .str))]), none, false⟩], [], [], [], []⟩
theorem k_s_SplitByte (x : PMs.den e_s_SplitByte.ps) : funK c_s_SplitByte Tryz.f78 e_s_SplitByte.ps e_s_SplitByte.rs x = e_s_SplitByte.F x := by kernel_rfl
theorem o_s_SplitByte {D : Prop} : FnOk Tryz.prog e_s_SplitByte.f ∧ Ctr D Tryz.prog e_s_SplitByte := mkCtr (C := c_s_SplitByte) m_ (trivial) Tryz.func78 (by kernel_rfl) k_s_SplitByte
/-! loop.example/g00959/spec.FormatInt -/
noncomputable def s_FormatInt_s5 (v1 : Int × ByteArray) : Option ((Int × ByteArray) ⊕ (ByteArray)) :=
 cond (v1.1 != (0 : Int))
 ((remI .i64 v1.1 (10 : Int)).bind fun v2 => cond (decide (v2 < (0 : Int)))
 ((catS (strI ([(IntKind.u8.wrap (IntKind.i64.wrap ((48 : Int) + (IntKind.i64.wrap ((0 : Int) - v2)))))] : List Int)) v1.2).bind fun v3 => (quoI .i64 v1.1 (10 : Int)).bind fun v4 => some (.inl (v4, v3)))
 ((catS (strI ([(IntKind.u8.wrap (IntKind.i64.wrap ((48 : Int) + v2)))] : List Int)) v1.2).bind fun v5 => (quoI .i64 v1.1 (10 : Int)).bind fun v6 => some (.inl (v6, v5))))
 (some (.inr v1.2))
noncomputable def s_FormatInt (x0 : Int) : Option (ByteArray) :=
 cond (x0 == (0 : Int))
 (some (⟨#[48]⟩ : ByteArray))
 ((iter (s_FormatInt_s5) (x0, (⟨#[]⟩ : ByteArray))).bind fun v7 => cond (decide (x0 < (0 : Int)))
 ((catS (⟨#[45]⟩ : ByteArray) v7).bind fun v8 => some v8)
 (some v7))
noncomputable def e_s_FormatInt : CallE := ⟨125, [.d false (.int .i64)], [.l (.d false .str)], fun x => s_FormatInt x⟩
noncomputable def c_s_FormatInt : Ctx := ⟨Tryz.prog, TT, [], [⟨5, [(0, .l (.d false (.int .i64))), (4, .l (.d false .str))], some (0, [(4, .l (.d false .str))]), none, false⟩], [], [], [], []⟩
theorem k_s_FormatInt (x : PMs.den e_s_FormatInt.ps) : funK c_s_FormatInt Tryz.f125 e_s_FormatInt.ps e_s_FormatInt.rs x = e_s_FormatInt.F x := by kernel_rfl
theorem o_s_FormatInt {D : Prop} : FnOk Tryz.prog e_s_FormatInt.f ∧ Ctr D Tryz.prog e_s_FormatInt := mkCtr (C := c_s_FormatInt) m_ (trivial) Tryz.func125 (by kernel_rfl) k_s_FormatInt
/-! loop.example/g00959/spec.l1Read -/
noncomputable def s_l1Read_s9 (v2 : ByteArray) (v3 : Int × Int) : Option ((Int × Int) ⊕ ((Int) ⊕ (Int × Bool))) :=
 cond (decide (v3.2 < (v2.size : Int)))
 ((idx v2.data.toList v3.2).bind fun v4 => cond (decide ((v4.toNat : Int) < (48 : Int)))
 (some (.inr (.inr ((0 : Int), false))))
 ((idx v2.data.toList v3.2).bind fun v5 => cond (decide ((v5.toNat : Int) > (57 : Int)))
 (some (.inr (.inr ((0 : Int), false))))
 ((idx v2.data.toList v3.2).bind fun v6 => some (.inl ((IntKind.i64.wrap ((IntKind.i64.wrap ((10 : Int) * v3.1)) + (IntKind.i64.wrap (IntKind.u8.wrap ((v6.toNat : Int) - (48 : Int)))))), (IntKind.i64.wrap (v3.2 + (1 : Int))))))))
 (some (.inr (.inl v3.1)))
noncomputable def s_l1Read_s9b15 (x0 : ByteArray) (v12 : Int × Int) : Option ((Int × Int) ⊕ ((Int) ⊕ (Int × Bool))) :=
 cond (decide (v12.2 < (x0.size : Int)))
 ((idx x0.data.toList v12.2).bind fun v13 => cond (decide ((v13.toNat : Int) < (48 : Int)))
 (some (.inr (.inr ((0 : Int), false))))
 ((idx x0.data.toList v12.2).bind fun v14 => cond (decide ((v14.toNat : Int) > (57 : Int)))
 (some (.inr (.inr ((0 : Int), false))))
 ((idx x0.data.toList v12.2).bind fun v15 => some (.inl ((IntKind.i64.wrap ((IntKind.i64.wrap ((10 : Int) * v12.1)) + (IntKind.i64.wrap (IntKind.u8.wrap ((v15.toNat : Int) - (48 : Int)))))), (IntKind.i64.wrap (v12.2 + (1 : Int))))))))
 (some (.inr (.inl v12.1)))
noncomputable def s_l1Read_s9b24 (x0 : ByteArray) (v21 : Int × Int) : Option ((Int × Int) ⊕ ((Int) ⊕ (Int × Bool))) :=
 cond (decide (v21.2 < (x0.size : Int)))
 ((idx x0.data.toList v21.2).bind fun v22 => cond (decide ((v22.toNat : Int) < (48 : Int)))
 (some (.inr (.inr ((0 : Int), false))))
 ((idx x0.data.toList v21.2).bind fun v23 => cond (decide ((v23.toNat : Int) > (57 : Int)))
 (some (.inr (.inr ((0 : Int), false))))
 ((idx x0.data.toList v21.2).bind fun v24 => some (.inl ((IntKind.i64.wrap ((IntKind.i64.wrap ((10 : Int) * v21.1)) + (IntKind.i64.wrap (IntKind.u8.wrap ((v24.toNat : Int) - (48 : Int)))))), (IntKind.i64.wrap (v21.2 + (1 : Int))))))))
 (some (.inr (.inl v21.1)))
noncomputable def s_l1Read (x0 : ByteArray) (x1 : Int) : Option (Int × Bool) :=
 cond (decide ((x0.size : Int) > (0 : Int)))
 ((idx x0.data.toList (0 : Int)).bind fun v1 => cond ((v1.toNat : Int) == (45 : Int))
 ((subs x0 (1 : Int) (x0.size : Int)).bind fun v2 => cond (decide ((v2.size : Int) < (1 : Int)))
 (some ((0 : Int), false))
 (cond (decide ((v2.size : Int) > x1))
 (some ((0 : Int), false))
 ((iter (s_l1Read_s9 v2) ((0 : Int), (0 : Int))).bind fun v7 => match v7 with
 | .inl v8 => (cond ((v1.toNat : Int) == (45 : Int))
 ((s_FormatInt (IntKind.i64.wrap ((0 : Int) - v8))).bind fun v10 => cond (!(v10.toList == x0.toList))
 (some ((0 : Int), false))
 (some ((IntKind.i64.wrap ((0 : Int) - v8)), true)))
 ((s_FormatInt v8).bind fun v11 => cond (!(v11.toList == x0.toList))
 (some ((0 : Int), false))
 (some (v8, true))))
 | .inr v9 => (some (v9.1, v9.2)))))
 (cond (decide ((x0.size : Int) < (1 : Int)))
 (some ((0 : Int), false))
 (cond (decide ((x0.size : Int) > x1))
 (some ((0 : Int), false))
 ((iter (s_l1Read_s9b15 x0) ((0 : Int), (0 : Int))).bind fun v16 => match v16 with
 | .inl v17 => (cond ((v1.toNat : Int) == (45 : Int))
 ((s_FormatInt (IntKind.i64.wrap ((0 : Int) - v17))).bind fun v19 => cond (!(v19.toList == x0.toList))
 (some ((0 : Int), false))
 (some ((IntKind.i64.wrap ((0 : Int) - v17)), true)))
 ((s_FormatInt v17).bind fun v20 => cond (!(v20.toList == x0.toList))
 (some ((0 : Int), false))
 (some (v17, true))))
 | .inr v18 => (some (v18.1, v18.2))))))
 (cond (decide ((x0.size : Int) < (1 : Int)))
 (some ((0 : Int), false))
 (cond (decide ((x0.size : Int) > x1))
 (some ((0 : Int), false))
 ((iter (s_l1Read_s9b24 x0) ((0 : Int), (0 : Int))).bind fun v25 => match v25 with
 | .inl v26 => ((s_FormatInt v26).bind fun v28 => cond (!(v28.toList == x0.toList))
 (some ((0 : Int), false))
 (some (v26, true)))
 | .inr v27 => (some (v27.1, v27.2)))))
noncomputable def e_s_l1Read : CallE := ⟨117, [.d false .str, .d false (.int .i64)], [.l (.d false (.int .i64)), .l (.d false .bool)], fun x => s_l1Read x.1 x.2⟩
noncomputable def c_s_l1Read : Ctx := ⟨Tryz.prog, TT, [e_s_FormatInt], [⟨9, [(8, .l (.d false (.int .i64))), (9, .l (.d false (.int .i64)))], some (0, [(8, .l (.d false (.int .i64)))]), some [(4, .l (.d false (.int .i64))), (5, .l (.d false .bool))], false⟩], [], [], [], []⟩
theorem k_s_l1Read (x : PMs.den e_s_l1Read.ps) : funK c_s_l1Read Tryz.f117 e_s_l1Read.ps e_s_l1Read.rs x = e_s_l1Read.F x := by kernel_rfl
theorem o_s_l1Read {D : Prop} : FnOk Tryz.prog e_s_l1Read.f ∧ Ctr D Tryz.prog e_s_l1Read := mkCtr (C := c_s_l1Read) m_ (⟨o_s_FormatInt, trivial⟩) Tryz.func117 (by kernel_rfl) k_s_l1Read
/-! loop.example/g00959/spec.ParseInt -/
noncomputable def s_ParseInt (x0 : ByteArray) : Option (Int × Bool) :=
(s_l1Read x0 (12 : Int)).bind fun v1 => some (v1.1, v1.2)
noncomputable def e_s_ParseInt : CallE := ⟨100, [.d false .str], [.l (.d false (.int .i64)), .l (.d false .bool)], fun x => s_ParseInt x⟩
noncomputable def c_s_ParseInt : Ctx := ⟨Tryz.prog, TT, [e_s_l1Read], [], [], [], [], []⟩
theorem k_s_ParseInt (x : PMs.den e_s_ParseInt.ps) : funK c_s_ParseInt Tryz.f100 e_s_ParseInt.ps e_s_ParseInt.rs x = e_s_ParseInt.F x := by kernel_rfl
theorem o_s_ParseInt {D : Prop} : FnOk Tryz.prog e_s_ParseInt.f ∧ Ctr D Tryz.prog e_s_ParseInt := mkCtr (C := c_s_ParseInt) m_ (⟨o_s_l1Read, trivial⟩) Tryz.func100 (by kernel_rfl) k_s_ParseInt
/-! loop.example/g00959/spec.l1In -/
noncomputable def s_l1In (x0 : Int) (x1 : Int) (x2 : Int) : Option (Bool) :=
 cond (decide (x0 ≥ x1))
 (some (decide (x0 ≤ x2)))
 (some false)
noncomputable def e_s_l1In : CallE := ⟨67, [.d false (.int .i64), .d false (.int .i64), .d false (.int .i64)], [.l (.d false .bool)], fun x => s_l1In x.1 x.2.1 x.2.2⟩
noncomputable def c_s_l1In : Ctx := ⟨Tryz.prog, TT, [], [], [], [], [], []⟩
theorem k_s_l1In (x : PMs.den e_s_l1In.ps) : funK c_s_l1In Tryz.f67 e_s_l1In.ps e_s_l1In.rs x = e_s_l1In.F x := by kernel_rfl
theorem o_s_l1In {D : Prop} : FnOk Tryz.prog e_s_l1In.f ∧ Ctr D Tryz.prog e_s_l1In := mkCtr (C := c_s_l1In) m_ (trivial) Tryz.func67 (by kernel_rfl) k_s_l1In
/-! loop.example/g00959/spec.l2Small -/
noncomputable def s_l2Small_s2 (x0 : List Int) (x1 : Int) (v1 : Int) : Option ((Int) ⊕ ((Unit) ⊕ (Bool))) :=
 cond (decide (v1 < (x0.length : Int)))
 ((idx x0 v1).bind fun v2 => (s_l1In v2 (IntKind.i64.wrap (0 - x1)) x1).bind fun v3 => cond (!v3)
 (some (.inr (.inr false)))
 (some (.inl (IntKind.i64.wrap (v1 + (1 : Int))))))
 (some (.inr (.inl ())))
noncomputable def s_l2Small (x0 : List Int) (x1 : Int) : Option (Bool) :=
(iter (s_l2Small_s2 x0 x1) (0 : Int)).bind fun v4 => match v4 with
 | .inl v5 => (some true)
 | .inr v6 => (some v6)
noncomputable def e_s_l2Small : CallE := ⟨91, [.d false (.list (.int .i64)), .d false (.int .i64)], [.l (.d false .bool)], fun x => s_l2Small x.1 x.2⟩
noncomputable def c_s_l2Small : Ctx := ⟨Tryz.prog, TT, [e_s_l1In], [⟨2, [(5, .l (.d false (.int .i64)))], some (0, []), some [(4, .l (.d false .bool))], false⟩], [], [], [], []⟩
theorem k_s_l2Small (x : PMs.den e_s_l2Small.ps) : funK c_s_l2Small Tryz.f91 e_s_l2Small.ps e_s_l2Small.rs x = e_s_l2Small.F x := by kernel_rfl
theorem o_s_l2Small {D : Prop} : FnOk Tryz.prog e_s_l2Small.f ∧ Ctr D Tryz.prog e_s_l2Small := mkCtr (C := c_s_l2Small) m_ (⟨o_s_l1In, trivial⟩) Tryz.func91 (by kernel_rfl) k_s_l2Small
/-! loop.example/g00959/spec.IsVector -/
noncomputable def s_IsVector (x0 : List Int) : Option (Bool) :=
(s_l1In (x0.length : Int) (1 : Int) (3 : Int)).bind fun v1 => cond v1
 ((s_l2Small x0 (1000 : Int)).bind fun v2 => some v2)
 (some false)
noncomputable def e_s_IsVector : CallE := ⟨101, [.d false (.list (.int .i64))], [.l (.d false .bool)], fun x => s_IsVector x⟩
noncomputable def c_s_IsVector : Ctx := ⟨Tryz.prog, TT, [e_s_l1In, e_s_l2Small], [], [], [], [], []⟩
theorem k_s_IsVector (x : PMs.den e_s_IsVector.ps) : funK c_s_IsVector Tryz.f101 e_s_IsVector.ps e_s_IsVector.rs x = e_s_IsVector.F x := by kernel_rfl
theorem o_s_IsVector {D : Prop} : FnOk Tryz.prog e_s_IsVector.f ∧ Ctr D Tryz.prog e_s_IsVector := mkCtr (C := c_s_IsVector) m_ (⟨o_s_l1In, o_s_l2Small, trivial⟩) Tryz.func101 (by kernel_rfl) k_s_IsVector
/-! loop.example/g00959/spec.ParseVector -/
noncomputable def s_ParseVector_s4 (v1 : List ByteArray) (v2 : List Int × Int) : Option ((List Int × Int) ⊕ ((List Int) ⊕ (List Int × Bool))) :=
 cond (decide (v2.2 < (v1.length : Int)))
 ((idx v1 v2.2).bind fun v3 => (s_ParseInt v3).bind fun v4 => cond (!v4.2)
 (some (.inr (.inr (([] : List Int), false))))
 ((appD 8 v2.1 ([v4.1] : List Int)).bind fun v5 => some (.inl (v5, (IntKind.i64.wrap (v2.2 + (1 : Int)))))))
 (some (.inr (.inl v2.1)))
noncomputable def s_ParseVector (x0 : ByteArray) : Option (List Int × Bool) :=
(s_SplitByte x0 (44 : Int)).bind fun v1 => (iter (s_ParseVector_s4 v1) (([] : List Int), (0 : Int))).bind fun v6 => match v6 with
 | .inl v7 => ((s_IsVector v7).bind fun v9 => cond (!v9)
 (some (([] : List Int), false))
 (some (v7, true)))
 | .inr v8 => (some (v8.1, v8.2))
noncomputable def e_s_ParseVector : CallE := ⟨79, [.d false .str], [.l (.o true 3 (.int .i64)), .l (.d false .bool)], fun x => s_ParseVector x⟩
noncomputable def c_s_ParseVector : Ctx := ⟨Tryz.prog, TT, [e_s_SplitByte, e_s_ParseInt, e_s_IsVector], [⟨4, [(4, .l (.o true 3 (.int .i64))), (6, .l (.d false (.int .i64)))], some (0, [(4, .l (.o true 3 (.int .i64)))]), some [(2, .l (.o true 3 (.int .i64))), (3, .l (.d false .bool))], false⟩], [], [], [], []⟩
theorem k_s_ParseVector (x : PMs.den e_s_ParseVector.ps) : funK c_s_ParseVector Tryz.f79 e_s_ParseVector.ps e_s_ParseVector.rs x = e_s_ParseVector.F x := by kernel_rfl
theorem o_s_ParseVector {D : Prop} : FnOk Tryz.prog e_s_ParseVector.f ∧ Ctr D Tryz.prog e_s_ParseVector := mkCtr (C := c_s_ParseVector) m_ (⟨o_s_SplitByte, o_s_ParseInt, o_s_IsVector, trivial⟩) Tryz.func79 (by kernel_rfl) k_s_ParseVector
/-! loop.example/g00959/spec.l7Flat -/
noncomputable def s_l7Flat_s2 (x0 : List (List Int)) (v1 : Int) : Option ((Int) ⊕ ((Unit) ⊕ (Bool))) :=
 cond (decide (v1 < (x0.length : Int)))
 ((idx x0 v1).bind fun v2 => cond ((v2.length : Int) != (2 : Int))
 (some (.inr (.inr false)))
 ((idx x0 v1).bind fun v3 => (s_l2Small v3 (50 : Int)).bind fun v4 => cond (!v4)
 (some (.inr (.inr false)))
 (some (.inl (IntKind.i64.wrap (v1 + (1 : Int)))))))
 (some (.inr (.inl ())))
noncomputable def s_l7Flat (x0 : List (List Int)) : Option (Bool) :=
(iter (s_l7Flat_s2 x0) (0 : Int)).bind fun v5 => match v5 with
 | .inl v6 => (some true)
 | .inr v7 => (some v7)
noncomputable def e_s_l7Flat : CallE := ⟨58, [.d false (.list (.list (.int .i64)))], [.l (.d false .bool)], fun x => s_l7Flat x⟩
noncomputable def c_s_l7Flat : Ctx := ⟨Tryz.prog, TT, [e_s_l2Small], [⟨2, [(3, .l (.d false (.int .i64)))], some (0, []), some [(2, .l (.d false .bool))], false⟩], [], [], [], []⟩
theorem k_s_l7Flat (x : PMs.den e_s_l7Flat.ps) : funK c_s_l7Flat Tryz.f58 e_s_l7Flat.ps e_s_l7Flat.rs x = e_s_l7Flat.F x := by kernel_rfl
theorem o_s_l7Flat {D : Prop} : FnOk Tryz.prog e_s_l7Flat.f ∧ Ctr D Tryz.prog e_s_l7Flat := mkCtr (C := c_s_l7Flat) m_ (⟨o_s_l2Small, trivial⟩) Tryz.func58 (by kernel_rfl) k_s_l7Flat
/-! loop.example/g00959/spec.l2Before -/
noncomputable def s_l2Before_s2 (x0 : List Int) (x1 : List Int) (v1 : Int) : Option ((Int) ⊕ ((Unit) ⊕ (Bool))) :=
 cond (decide (v1 < (x0.length : Int)))
 (cond (decide (v1 < (x1.length : Int)))
 ((idx x0 v1).bind fun v2 => (idx x1 v1).bind fun v3 => cond (v2 != v3)
 ((idx x0 v1).bind fun v4 => (idx x1 v1).bind fun v5 => some (.inr (.inr (decide (v4 < v5)))))
 (some (.inl (IntKind.i64.wrap (v1 + (1 : Int))))))
 (some (.inr (.inl ()))))
 (some (.inr (.inl ())))
noncomputable def s_l2Before (x0 : List Int) (x1 : List Int) : Option (Bool) :=
(iter (s_l2Before_s2 x0 x1) (0 : Int)).bind fun v6 => match v6 with
 | .inl v7 => (some false)
 | .inr v8 => (some v8)
noncomputable def e_s_l2Before : CallE := ⟨92, [.d false (.list (.int .i64)), .d false (.list (.int .i64))], [.l (.d false .bool)], fun x => s_l2Before x.1 x.2⟩
noncomputable def c_s_l2Before : Ctx := ⟨Tryz.prog, TT, [], [⟨2, [(5, .l (.d false (.int .i64)))], some (0, []), some [(4, .l (.d false .bool))], false⟩], [], [], [], []⟩
theorem k_s_l2Before (x : PMs.den e_s_l2Before.ps) : funK c_s_l2Before Tryz.f92 e_s_l2Before.ps e_s_l2Before.rs x = e_s_l2Before.F x := by kernel_rfl
theorem o_s_l2Before {D : Prop} : FnOk Tryz.prog e_s_l2Before.f ∧ Ctr D Tryz.prog e_s_l2Before := mkCtr (C := c_s_l2Before) m_ (trivial) Tryz.func92 (by kernel_rfl) k_s_l2Before
/-! loop.example/g00959/spec.l2Same -/
noncomputable def s_l2Same_s4 (x0 : List Int) (x1 : List Int) (v1 : Int) : Option ((Int) ⊕ ((Unit) ⊕ (Bool))) :=
 cond (decide (v1 < (x0.length : Int)))
 ((idx x0 v1).bind fun v2 => (idx x1 v1).bind fun v3 => cond (v2 != v3)
 (some (.inr (.inr false)))
 (some (.inl (IntKind.i64.wrap (v1 + (1 : Int))))))
 (some (.inr (.inl ())))
noncomputable def s_l2Same (x0 : List Int) (x1 : List Int) : Option (Bool) :=
 cond ((x0.length : Int) != (x1.length : Int))
 (some false)
 ((iter (s_l2Same_s4 x0 x1) (0 : Int)).bind fun v4 => match v4 with
 | .inl v5 => (some true)
 | .inr v6 => (some v6))
noncomputable def e_s_l2Same : CallE := ⟨93, [.d false (.list (.int .i64)), .d false (.list (.int .i64))], [.l (.d false .bool)], fun x => s_l2Same x.1 x.2⟩
noncomputable def c_s_l2Same : Ctx := ⟨Tryz.prog, TT, [], [⟨4, [(5, .l (.d false (.int .i64)))], some (0, []), some [(4, .l (.d false .bool))], false⟩], [], [], [], []⟩
theorem k_s_l2Same (x : PMs.den e_s_l2Same.ps) : funK c_s_l2Same Tryz.f93 e_s_l2Same.ps e_s_l2Same.rs x = e_s_l2Same.F x := by kernel_rfl
theorem o_s_l2Same {D : Prop} : FnOk Tryz.prog e_s_l2Same.f ∧ Ctr D Tryz.prog e_s_l2Same := mkCtr (C := c_s_l2Same) m_ (trivial) Tryz.func93 (by kernel_rfl) k_s_l2Same
/-! loop.example/g00959/spec.l2Put -/
noncomputable def s_l2Put_s2 (x1 : List Int) (v1 : List (List Int) × Int) : Option ((List (List Int) × Int) ⊕ (List (List Int) × Int)) :=
 cond (decide (v1.2 > (0 : Int)))
 ((inIdx v1.1.length (IntKind.i64.wrap (v1.2 - (1 : Int)))).bind fun _ => (idx v1.1 (((IntKind.i64.wrap (v1.2 - (1 : Int)))).toNat : Int)).bind fun v2 => (s_l2Before x1 v2).bind fun v3 => cond v3
 (some (.inl (v1.1, (IntKind.i64.wrap (v1.2 - (1 : Int))))))
 (some (.inr (v1.1, v1.2))))
 (some (.inr (v1.1, v1.2)))
noncomputable def s_l2Put (x0 : List (List Int)) (x1 : List Int) : Option (List (List Int)) :=
(iter (s_l2Put_s2 x1) (x0, (x0.length : Int))).bind fun v4 => cond (decide (v4.2 > (0 : Int)))
 ((inIdx v4.1.length (IntKind.i64.wrap (v4.2 - (1 : Int)))).bind fun _ => (idx v4.1 (((IntKind.i64.wrap (v4.2 - (1 : Int)))).toNat : Int)).bind fun v5 => (s_l2Same v5 x1).bind fun v6 => cond v6
 (some v4.1)
 ((subl v4.1 v4.2 (v4.1.length : Int)).bind fun v7 => (subl v4.1 ((v4.2).toNat : Int) (((v4.1.length : Int)).toNat : Int)).bind fun v8 => (appD 24 ([] : List (List Int)) v8).bind fun v9 => (subl v4.1 0 v4.2).bind fun v10 => (appD 8 ([] : List Int) x1).bind fun v11 => (appD 24 v10 ([v11] : List (List Int))).bind fun v12 => (appD 24 v12 v9).bind fun v13 => some v13))
 ((subl v4.1 v4.2 (v4.1.length : Int)).bind fun v14 => (subl v4.1 ((v4.2).toNat : Int) (((v4.1.length : Int)).toNat : Int)).bind fun v15 => (appD 24 ([] : List (List Int)) v15).bind fun v16 => (subl v4.1 0 v4.2).bind fun v17 => (appD 8 ([] : List Int) x1).bind fun v18 => (appD 24 v17 ([v18] : List (List Int))).bind fun v19 => (appD 24 v19 v16).bind fun v20 => some v20)
noncomputable def e_s_l2Put : CallE := ⟨59, [.mv false 29 (.list (.int .i64)), .d false (.list (.int .i64))], [.l (.o false 29 (.list (.int .i64)))], fun x => s_l2Put x.1 x.2⟩
noncomputable def c_s_l2Put : Ctx := ⟨Tryz.prog, TT, [e_s_l2Before, e_s_l2Same], [⟨2, [(0, .l (.o false 29 (.list (.int .i64)))), (5, .l (.d false (.int .i64)))], some (0, [(0, .l (.o false 29 (.list (.int .i64)))), (5, .l (.d false (.int .i64)))]), none, false⟩], [], [], [35], [(7, [0, 1, 2, 4, 8, 3, 5, 6, 7, 9, 10])]⟩
theorem k_s_l2Put (x : PMs.den e_s_l2Put.ps) : funK c_s_l2Put Tryz.f59 e_s_l2Put.ps e_s_l2Put.rs x = e_s_l2Put.F x := by kernel_rfl
theorem o_s_l2Put {D : Prop} : FnOk Tryz.prog e_s_l2Put.f ∧ Ctr D Tryz.prog e_s_l2Put := mkCtr (C := c_s_l2Put) m_ (⟨o_s_l2Before, o_s_l2Same, trivial⟩) Tryz.func59 (by kernel_rfl) k_s_l2Put
/-! loop.example/g00959/spec.l2Less -/
noncomputable def s_l2Less_s3 (x0 : List Int) (x1 : List Int) (v1 : List Int × Int) : Option ((List Int × Int) ⊕ (List Int)) :=
 cond (decide (v1.2 < (x0.length : Int)))
 ((idx x0 v1.2).bind fun v2 => (idx x1 v1.2).bind fun v3 => (appD 8 v1.1 ([(IntKind.i64.wrap (v2 - v3))] : List Int)).bind fun v4 => some (.inl (v4, (IntKind.i64.wrap (v1.2 + (1 : Int))))))
 (some (.inr v1.1))
noncomputable def s_l2Less (x0 : List Int) (x1 : List Int) : Option (List Int) :=
(iter (s_l2Less_s3 x0 x1) (([] : List Int), (0 : Int))).bind fun v5 => some v5
noncomputable def e_s_l2Less : CallE := ⟨69, [.d false (.list (.int .i64)), .d false (.list (.int .i64))], [.l (.o true 3 (.int .i64))], fun x => s_l2Less x.1 x.2⟩
noncomputable def c_s_l2Less : Ctx := ⟨Tryz.prog, TT, [], [⟨3, [(5, .l (.o true 3 (.int .i64))), (6, .l (.d false (.int .i64)))], some (0, [(5, .l (.o true 3 (.int .i64)))]), none, false⟩], [], [], [], []⟩
theorem k_s_l2Less (x : PMs.den e_s_l2Less.ps) : funK c_s_l2Less Tryz.f69 e_s_l2Less.ps e_s_l2Less.rs x = e_s_l2Less.F x := by kernel_rfl
theorem o_s_l2Less {D : Prop} : FnOk Tryz.prog e_s_l2Less.f ∧ Ctr D Tryz.prog e_s_l2Less := mkCtr (C := c_s_l2Less) m_ (trivial) Tryz.func69 (by kernel_rfl) k_s_l2Less
/-! loop.example/g00959/spec.l7Cross -/
noncomputable def s_l7Cross (x0 : List Int) (x1 : List Int) : Option (Int) :=
(idx x0 (0 : Int)).bind fun v1 => (idx x1 (1 : Int)).bind fun v2 => (idx x0 (1 : Int)).bind fun v3 => (idx x1 (0 : Int)).bind fun v4 => some (IntKind.i64.wrap ((IntKind.i64.wrap (v1 * v2)) - (IntKind.i64.wrap (v3 * v4))))
noncomputable def e_s_l7Cross : CallE := ⟨57, [.d false (.list (.int .i64)), .d false (.list (.int .i64))], [.l (.d false (.int .i64))], fun x => s_l7Cross x.1 x.2⟩
noncomputable def c_s_l7Cross : Ctx := ⟨Tryz.prog, TT, [], [], [], [], [], []⟩
theorem k_s_l7Cross (x : PMs.den e_s_l7Cross.ps) : funK c_s_l7Cross Tryz.f57 e_s_l7Cross.ps e_s_l7Cross.rs x = e_s_l7Cross.F x := by kernel_rfl
theorem o_s_l7Cross {D : Prop} : FnOk Tryz.prog e_s_l7Cross.f ∧ Ctr D Tryz.prog e_s_l7Cross := mkCtr (C := c_s_l7Cross) m_ (trivial) Tryz.func57 (by kernel_rfl) k_s_l7Cross
/-! loop.example/g00959/spec.l7Turn -/
noncomputable def s_l7Turn (x0 : List Int) (x1 : List Int) (x2 : List Int) : Option (Int) :=
(s_l2Less x1 x0).bind fun v1 => (s_l2Less x2 x1).bind fun v2 => (s_l7Cross v1 v2).bind fun v3 => some v3
noncomputable def e_s_l7Turn : CallE := ⟨77, [.d false (.list (.int .i64)), .d false (.list (.int .i64)), .d false (.list (.int .i64))], [.l (.d false (.int .i64))], fun x => s_l7Turn x.1 x.2.1 x.2.2⟩
noncomputable def c_s_l7Turn : Ctx := ⟨Tryz.prog, TT, [e_s_l2Less, e_s_l7Cross], [], [], [], [], []⟩
theorem k_s_l7Turn (x : PMs.den e_s_l7Turn.ps) : funK c_s_l7Turn Tryz.f77 e_s_l7Turn.ps e_s_l7Turn.rs x = e_s_l7Turn.F x := by kernel_rfl
theorem o_s_l7Turn {D : Prop} : FnOk Tryz.prog e_s_l7Turn.f ∧ Ctr D Tryz.prog e_s_l7Turn := mkCtr (C := c_s_l7Turn) m_ (⟨o_s_l2Less, o_s_l7Cross, trivial⟩) Tryz.func77 (by kernel_rfl) k_s_l7Turn
/-! loop.example/g00959/spec.l7Hull -/
noncomputable def s_l7Hull_s12 (v1 : List (List Int) × Int) (v4 : List Int) (v5 : List (List Int)) : Option ((List (List Int)) ⊕ (List (List Int))) :=
 cond (decide ((v5.length : Int) ≥ (IntKind.i64.wrap ((v1.1.length : Int) + (2 : Int)))))
 ((inIdx v5.length (IntKind.i64.wrap ((v5.length : Int) - (2 : Int)))).bind fun _ => (idx v5 (((IntKind.i64.wrap ((v5.length : Int) - (2 : Int)))).toNat : Int)).bind fun v6 => (inIdx v5.length (IntKind.i64.wrap ((v5.length : Int) - (1 : Int)))).bind fun _ => (idx v5 (((IntKind.i64.wrap ((v5.length : Int) - (1 : Int)))).toNat : Int)).bind fun v7 => (s_l7Turn v6 v7 v4).bind fun v8 => cond (decide (v8 ≤ (0 : Int)))
 ((subl v5 0 (IntKind.i64.wrap ((v5.length : Int) - (1 : Int)))).bind fun v9 => some (.inl v9))
 (some (.inr v5)))
 (some (.inr v5))
noncomputable def s_l7Hull_s12b16 (v1 : List (List Int) × Int) (v3 : List Int) (v12 : List (List Int)) : Option ((List (List Int)) ⊕ (List (List Int))) :=
 cond (decide ((v12.length : Int) ≥ (IntKind.i64.wrap ((v1.1.length : Int) + (2 : Int)))))
 ((inIdx v12.length (IntKind.i64.wrap ((v12.length : Int) - (2 : Int)))).bind fun _ => (idx v12 (((IntKind.i64.wrap ((v12.length : Int) - (2 : Int)))).toNat : Int)).bind fun v13 => (inIdx v12.length (IntKind.i64.wrap ((v12.length : Int) - (1 : Int)))).bind fun _ => (idx v12 (((IntKind.i64.wrap ((v12.length : Int) - (1 : Int)))).toNat : Int)).bind fun v14 => (s_l7Turn v13 v14 v3).bind fun v15 => cond (decide (v15 ≤ (0 : Int)))
 ((subl v12 0 (IntKind.i64.wrap ((v12.length : Int) - (1 : Int)))).bind fun v16 => some (.inl v16))
 (some (.inr v12)))
 (some (.inr v12))
noncomputable def s_l7Hull_s7 (x0 : List (List Int)) (v1 : List (List Int) × Int) (v2 : List (List Int) × Int) : Option ((List (List Int) × Int) ⊕ (List (List Int))) :=
 cond (decide (v2.2 < (x0.length : Int)))
 ((idx x0 v2.2).bind fun v3 => cond (v1.2 == (1 : Int))
 ((idx x0 (IntKind.i64.wrap ((IntKind.i64.wrap ((x0.length : Int) - (1 : Int))) - v2.2))).bind fun v4 => (iter (s_l7Hull_s12 v1 v4) v2.1).bind fun v10 => (appD 24 v10 ([v4] : List (List Int))).bind fun v11 => some (.inl (v11, (IntKind.i64.wrap (v2.2 + (1 : Int))))))
 ((iter (s_l7Hull_s12b16 v1 v3) v2.1).bind fun v17 => (appD 24 v17 ([v3] : List (List Int))).bind fun v18 => some (.inl (v18, (IntKind.i64.wrap (v2.2 + (1 : Int)))))))
 (some (.inr v2.1))
noncomputable def s_l7Hull_s3 (x0 : List (List Int)) (v1 : List (List Int) × Int) : Option ((List (List Int) × Int) ⊕ (List (List Int))) :=
 cond (decide (v1.2 < (2 : Int)))
 ((iter (s_l7Hull_s7 x0 v1) (v1.1, (0 : Int))).bind fun v19 => (subl v19 0 (IntKind.i64.wrap ((v19.length : Int) - (1 : Int)))).bind fun v20 => some (.inl (v20, (IntKind.i64.wrap (v1.2 + (1 : Int))))))
 (some (.inr v1.1))
noncomputable def s_l7Hull (x0 : List (List Int)) : Option (List (List Int)) :=
(iter (s_l7Hull_s3 x0) (([] : List (List Int)), (0 : Int))).bind fun v21 => some v21
noncomputable def e_s_l7Hull : CallE := ⟨60, [.d false (.list (.list (.int .i64)))], [.l (.o false 29 (.list (.int .i64)))], fun x => s_l7Hull x⟩
noncomputable def c_s_l7Hull : Ctx := ⟨Tryz.prog, TT, [e_s_l7Turn], [⟨3, [(3, .l (.o false 29 (.list (.int .i64)))), (4, .l (.d false (.int .i64)))], some (0, [(3, .l (.o false 29 (.list (.int .i64))))]), none, false⟩, ⟨7, [(3, .l (.o false 29 (.list (.int .i64)))), (6, .l (.d false (.int .i64)))], some (2, [(3, .l (.o false 29 (.list (.int .i64))))]), none, false⟩, ⟨12, [(3, .l (.o false 29 (.list (.int .i64))))], some (4, [(3, .l (.o false 29 (.list (.int .i64))))]), none, false⟩], [], [], [], []⟩
theorem k_s_l7Hull (x : PMs.den e_s_l7Hull.ps) : funK c_s_l7Hull Tryz.f60 e_s_l7Hull.ps e_s_l7Hull.rs x = e_s_l7Hull.F x := by kernel_rfl
theorem o_s_l7Hull {D : Prop} : FnOk Tryz.prog e_s_l7Hull.f ∧ Ctr D Tryz.prog e_s_l7Hull := mkCtr (C := c_s_l7Hull) m_ (⟨o_s_l7Turn, trivial⟩) Tryz.func60 (by kernel_rfl) k_s_l7Hull
/-! loop.example/g00959/spec.l7Copy -/
noncomputable def s_l7Copy_s3 (x0 : List (List Int)) (v1 : List (List Int) × Int) : Option ((List (List Int) × Int) ⊕ (List (List Int))) :=
 cond (decide (v1.2 < (x0.length : Int)))
 ((idx x0 v1.2).bind fun v2 => (appD 8 ([] : List Int) v2).bind fun v3 => (appD 24 v1.1 ([v3] : List (List Int))).bind fun v4 => some (.inl (v4, (IntKind.i64.wrap (v1.2 + (1 : Int))))))
 (some (.inr v1.1))
noncomputable def s_l7Copy (x0 : List (List Int)) : Option (List (List Int)) :=
(iter (s_l7Copy_s3 x0) (([] : List (List Int)), (0 : Int))).bind fun v5 => some v5
noncomputable def e_s_l7Copy : CallE := ⟨61, [.d false (.list (.list (.int .i64)))], [.l (.o true 29 (.list (.int .i64)))], fun x => s_l7Copy x⟩
noncomputable def c_s_l7Copy : Ctx := ⟨Tryz.prog, TT, [], [⟨3, [(3, .l (.o true 29 (.list (.int .i64)))), (4, .l (.d false (.int .i64)))], some (0, [(3, .l (.o true 29 (.list (.int .i64))))]), none, false⟩], [], [], [], []⟩
theorem k_s_l7Copy (x : PMs.den e_s_l7Copy.ps) : funK c_s_l7Copy Tryz.f61 e_s_l7Copy.ps e_s_l7Copy.rs x = e_s_l7Copy.F x := by kernel_rfl
theorem o_s_l7Copy {D : Prop} : FnOk Tryz.prog e_s_l7Copy.f ∧ Ctr D Tryz.prog e_s_l7Copy := mkCtr (C := c_s_l7Copy) m_ (trivial) Tryz.func61 (by kernel_rfl) k_s_l7Copy
/-! loop.example/g00959/spec.HullOf -/
noncomputable def s_HullOf_s5 (x0 : List (List Int)) (v2 : List (List Int) × Int) : Option ((List (List Int) × Int) ⊕ (List (List Int))) :=
 cond (decide (v2.2 < (x0.length : Int)))
 ((idx x0 v2.2).bind fun v3 => (s_l2Put v2.1 v3).bind fun v4 => some (.inl (v4, (IntKind.i64.wrap (v2.2 + (1 : Int))))))
 (some (.inr v2.1))
noncomputable def s_HullOf (x0 : List (List Int)) : Option (List (List Int) × Bool) :=
 cond (decide ((x0.length : Int) > (200 : Int)))
 (some (([] : List (List Int)), false))
 ((s_l7Flat x0).bind fun v1 => cond (!v1)
 (some (([] : List (List Int)), false))
 ((iter (s_HullOf_s5 x0) (([] : List (List Int)), (0 : Int))).bind fun v5 => cond (decide ((v5.length : Int) < (3 : Int)))
 (some (([] : List (List Int)), false))
 ((s_l7Hull v5).bind fun v6 => cond (decide ((v6.length : Int) < (3 : Int)))
 (some (([] : List (List Int)), false))
 (cond (decide ((v6.length : Int) > (12 : Int)))
 (some (([] : List (List Int)), false))
 ((s_l7Copy v6).bind fun v7 => some (v7, true))))))
noncomputable def e_s_HullOf : CallE := ⟨28, [.d false (.list (.list (.int .i64)))], [.l (.o true 29 (.list (.int .i64))), .l (.d false .bool)], fun x => s_HullOf x⟩
noncomputable def c_s_HullOf : Ctx := ⟨Tryz.prog, TT, [e_s_l7Flat, e_s_l2Put, e_s_l7Hull, e_s_l7Copy], [⟨5, [(4, .l (.o false 29 (.list (.int .i64)))), (5, .l (.d false (.int .i64)))], some (0, [(4, .l (.o false 29 (.list (.int .i64))))]), none, false⟩], [], [], [], []⟩
theorem k_s_HullOf (x : PMs.den e_s_HullOf.ps) : funK c_s_HullOf Tryz.f28 e_s_HullOf.ps e_s_HullOf.rs x = e_s_HullOf.F x := by kernel_rfl
theorem o_s_HullOf {D : Prop} : FnOk Tryz.prog e_s_HullOf.f ∧ Ctr D Tryz.prog e_s_HullOf := mkCtr (C := c_s_HullOf) m_ (⟨o_s_l7Flat, o_s_l2Put, o_s_l7Hull, o_s_l7Copy, trivial⟩) Tryz.func28 (by kernel_rfl) k_s_HullOf
/-! loop.example/g00959/spec.l7SameList -/
noncomputable def s_l7SameList_s4 (x0 : List (List Int)) (x1 : List (List Int)) (v1 : Int) : Option ((Int) ⊕ ((Unit) ⊕ (Bool))) :=
 cond (decide (v1 < (x0.length : Int)))
 ((idx x0 v1).bind fun v2 => (idx x1 v1).bind fun v3 => (s_l2Same v2 v3).bind fun v4 => cond (!v4)
 (some (.inr (.inr false)))
 (some (.inl (IntKind.i64.wrap (v1 + (1 : Int))))))
 (some (.inr (.inl ())))
noncomputable def s_l7SameList (x0 : List (List Int)) (x1 : List (List Int)) : Option (Bool) :=
 cond ((x0.length : Int) != (x1.length : Int))
 (some false)
 ((iter (s_l7SameList_s4 x0 x1) (0 : Int)).bind fun v5 => match v5 with
 | .inl v6 => (some true)
 | .inr v7 => (some v7))
noncomputable def e_s_l7SameList : CallE := ⟨71, [.d false (.list (.list (.int .i64))), .d false (.list (.list (.int .i64)))], [.l (.d false .bool)], fun x => s_l7SameList x.1 x.2⟩
noncomputable def c_s_l7SameList : Ctx := ⟨Tryz.prog, TT, [e_s_l2Same], [⟨4, [(5, .l (.d false (.int .i64)))], some (0, []), some [(4, .l (.d false .bool))], false⟩], [], [], [], []⟩
theorem k_s_l7SameList (x : PMs.den e_s_l7SameList.ps) : funK c_s_l7SameList Tryz.f71 e_s_l7SameList.ps e_s_l7SameList.rs x = e_s_l7SameList.F x := by kernel_rfl
theorem o_s_l7SameList {D : Prop} : FnOk Tryz.prog e_s_l7SameList.f ∧ Ctr D Tryz.prog e_s_l7SameList := mkCtr (C := c_s_l7SameList) m_ (⟨o_s_l2Same, trivial⟩) Tryz.func71 (by kernel_rfl) k_s_l7SameList
/-! loop.example/g00959/spec.IsPolygon -/
noncomputable def s_IsPolygon (x0 : List (List Int)) : Option (Bool) :=
(s_l1In (x0.length : Int) (3 : Int) (12 : Int)).bind fun v1 => cond (!v1)
 (some false)
 ((s_l7Flat x0).bind fun v2 => cond (!v2)
 (some false)
 ((s_HullOf x0).bind fun v3 => cond v3.2
 ((s_l7SameList v3.1 x0).bind fun v4 => some v4)
 (some false)))
noncomputable def e_s_IsPolygon : CallE := ⟨38, [.d false (.list (.list (.int .i64)))], [.l (.d false .bool)], fun x => s_IsPolygon x⟩
noncomputable def c_s_IsPolygon : Ctx := ⟨Tryz.prog, TT, [e_s_l1In, e_s_l7Flat, e_s_HullOf, e_s_l7SameList], [], [], [], [], []⟩
theorem k_s_IsPolygon (x : PMs.den e_s_IsPolygon.ps) : funK c_s_IsPolygon Tryz.f38 e_s_IsPolygon.ps e_s_IsPolygon.rs x = e_s_IsPolygon.F x := by kernel_rfl
theorem o_s_IsPolygon {D : Prop} : FnOk Tryz.prog e_s_IsPolygon.f ∧ Ctr D Tryz.prog e_s_IsPolygon := mkCtr (C := c_s_IsPolygon) m_ (⟨o_s_l1In, o_s_l7Flat, o_s_HullOf, o_s_l7SameList, trivial⟩) Tryz.func38 (by kernel_rfl) k_s_IsPolygon
/-! loop.example/g00959/spec.ParsePolygon -/
noncomputable def s_ParsePolygon_s4 (v1 : List ByteArray) (v2 : List (List Int) × Int) : Option ((List (List Int) × Int) ⊕ ((List (List Int)) ⊕ (List (List Int) × Bool))) :=
 cond (decide (v2.2 < (v1.length : Int)))
 ((idx v1 v2.2).bind fun v3 => (s_ParseVector v3).bind fun v4 => cond (!v4.2)
 (some (.inr (.inr (([] : List (List Int)), false))))
 (cond (decide (v2.2 ≥ (12 : Int)))
 (some (.inr (.inr (([] : List (List Int)), false))))
 ((appD 24 v2.1 ([v4.1] : List (List Int))).bind fun v5 => some (.inl (v5, (IntKind.i64.wrap (v2.2 + (1 : Int))))))))
 (some (.inr (.inl v2.1)))
noncomputable def s_ParsePolygon (x0 : ByteArray) : Option (List (List Int) × Bool) :=
(s_SplitByte x0 (32 : Int)).bind fun v1 => (iter (s_ParsePolygon_s4 v1) (([] : List (List Int)), (0 : Int))).bind fun v6 => match v6 with
 | .inl v7 => ((s_IsPolygon v7).bind fun v9 => cond (!v9)
 (some (([] : List (List Int)), false))
 (some (v7, true)))
 | .inr v8 => (some (v8.1, v8.2))
noncomputable def e_s_ParsePolygon : CallE := ⟨44, [.d false .str], [.l (.o true 29 (.list (.int .i64))), .l (.d false .bool)], fun x => s_ParsePolygon x⟩
noncomputable def c_s_ParsePolygon : Ctx := ⟨Tryz.prog, TT, [e_s_SplitByte, e_s_ParseVector, e_s_IsPolygon], [⟨4, [(4, .l (.o true 29 (.list (.int .i64)))), (6, .l (.d false (.int .i64)))], some (0, [(4, .l (.o true 29 (.list (.int .i64))))]), some [(2, .l (.o true 29 (.list (.int .i64)))), (3, .l (.d false .bool))], false⟩], [], [], [], []⟩
theorem k_s_ParsePolygon (x : PMs.den e_s_ParsePolygon.ps) : funK c_s_ParsePolygon Tryz.f44 e_s_ParsePolygon.ps e_s_ParsePolygon.rs x = e_s_ParsePolygon.F x := by kernel_rfl
theorem o_s_ParsePolygon {D : Prop} : FnOk Tryz.prog e_s_ParsePolygon.f ∧ Ctr D Tryz.prog e_s_ParsePolygon := mkCtr (C := c_s_ParsePolygon) m_ (⟨o_s_SplitByte, o_s_ParseVector, o_s_IsPolygon, trivial⟩) Tryz.func44 (by kernel_rfl) k_s_ParsePolygon
/-! loop.example/g00959/spec.l1Once -/
noncomputable def s_l1Once (x0 : (List Int) × Int × Int) (x1 : Int) : Option ((Bool) × ((List Int) × Int × Int) × Unit) :=
(s_l1Below (x0.1, (x0.2.1, x0.2.2)) x1).bind fun v1 => some ((v1.1 == (0 : Int)), ((v1.2.1.1, (v1.2.1.2.1, v1.2.1.2.2)), ()))
noncomputable def e_s_l1Once : CallE := ⟨48, [.cur 58, .d false (.int .i64)], [.l (.d false .bool)], fun x => s_l1Once x.1 x.2⟩
noncomputable def c_s_l1Once : Ctx := ⟨Tryz.prog, TT, [e_s_l1Below], [], [], [], [], []⟩
theorem k_s_l1Once (x : PMs.den e_s_l1Once.ps) : funK c_s_l1Once Tryz.f48 e_s_l1Once.ps e_s_l1Once.rs x = e_s_l1Once.F x := by kernel_rfl
theorem o_s_l1Once {D : Prop} : FnOk Tryz.prog e_s_l1Once.f ∧ Ctr D Tryz.prog e_s_l1Once := mkCtr (C := c_s_l1Once) m_ (⟨o_s_l1Below, trivial⟩) Tryz.func48 (by kernel_rfl) k_s_l1Once
/-! loop.example/g00959/spec.l1Bit -/
noncomputable def s_l1Bit (x0 : Bool) : Option (Int) :=
 cond x0
 (some (1 : Int))
 (some (0 : Int))
noncomputable def e_s_l1Bit : CallE := ⟨36, [.d false .bool], [.l (.d false (.int .i64))], fun x => s_l1Bit x⟩
noncomputable def c_s_l1Bit : Ctx := ⟨Tryz.prog, TT, [], [], [], [], [], []⟩
theorem k_s_l1Bit (x : PMs.den e_s_l1Bit.ps) : funK c_s_l1Bit Tryz.f36 e_s_l1Bit.ps e_s_l1Bit.rs x = e_s_l1Bit.F x := by kernel_rfl
theorem o_s_l1Bit {D : Prop} : FnOk Tryz.prog e_s_l1Bit.f ∧ Ctr D Tryz.prog e_s_l1Bit := mkCtr (C := c_s_l1Bit) m_ (trivial) Tryz.func36 (by kernel_rfl) k_s_l1Bit
/-! loop.example/g00959/spec.l2Scale -/
noncomputable def s_l2Scale_s3 (x0 : List Int) (x1 : Int) (v1 : List Int × Int) : Option ((List Int × Int) ⊕ (List Int)) :=
 cond (decide (v1.2 < (x0.length : Int)))
 ((idx x0 v1.2).bind fun v2 => (appD 8 v1.1 ([(IntKind.i64.wrap (v2 * x1))] : List Int)).bind fun v3 => some (.inl (v3, (IntKind.i64.wrap (v1.2 + (1 : Int))))))
 (some (.inr v1.1))
noncomputable def s_l2Scale (x0 : List Int) (x1 : Int) : Option (List Int) :=
(iter (s_l2Scale_s3 x0 x1) (([] : List Int), (0 : Int))).bind fun v4 => some v4
noncomputable def e_s_l2Scale : CallE := ⟨84, [.d false (.list (.int .i64)), .d false (.int .i64)], [.l (.o true 3 (.int .i64))], fun x => s_l2Scale x.1 x.2⟩
noncomputable def c_s_l2Scale : Ctx := ⟨Tryz.prog, TT, [], [⟨3, [(5, .l (.o true 3 (.int .i64))), (6, .l (.d false (.int .i64)))], some (0, [(5, .l (.o true 3 (.int .i64)))]), none, false⟩], [], [], [], []⟩
theorem k_s_l2Scale (x : PMs.den e_s_l2Scale.ps) : funK c_s_l2Scale Tryz.f84 e_s_l2Scale.ps e_s_l2Scale.rs x = e_s_l2Scale.F x := by kernel_rfl
theorem o_s_l2Scale {D : Prop} : FnOk Tryz.prog e_s_l2Scale.f ∧ Ctr D Tryz.prog e_s_l2Scale := mkCtr (C := c_s_l2Scale) m_ (trivial) Tryz.func84 (by kernel_rfl) k_s_l2Scale
/-! loop.example/g00959/spec.l2Add -/
noncomputable def s_l2Add_s3 (x0 : List Int) (x1 : List Int) (v1 : List Int × Int) : Option ((List Int × Int) ⊕ (List Int)) :=
 cond (decide (v1.2 < (x0.length : Int)))
 ((idx x0 v1.2).bind fun v2 => (idx x1 v1.2).bind fun v3 => (appD 8 v1.1 ([(IntKind.i64.wrap (v2 + v3))] : List Int)).bind fun v4 => some (.inl (v4, (IntKind.i64.wrap (v1.2 + (1 : Int))))))
 (some (.inr v1.1))
noncomputable def s_l2Add (x0 : List Int) (x1 : List Int) : Option (List Int) :=
(iter (s_l2Add_s3 x0 x1) (([] : List Int), (0 : Int))).bind fun v5 => some v5
noncomputable def e_s_l2Add : CallE := ⟨83, [.d false (.list (.int .i64)), .d false (.list (.int .i64))], [.l (.o true 3 (.int .i64))], fun x => s_l2Add x.1 x.2⟩
noncomputable def c_s_l2Add : Ctx := ⟨Tryz.prog, TT, [], [⟨3, [(5, .l (.o true 3 (.int .i64))), (6, .l (.d false (.int .i64)))], some (0, [(5, .l (.o true 3 (.int .i64)))]), none, false⟩], [], [], [], []⟩
theorem k_s_l2Add (x : PMs.den e_s_l2Add.ps) : funK c_s_l2Add Tryz.f83 e_s_l2Add.ps e_s_l2Add.rs x = e_s_l2Add.F x := by kernel_rfl
theorem o_s_l2Add {D : Prop} : FnOk Tryz.prog e_s_l2Add.f ∧ Ctr D Tryz.prog e_s_l2Add := mkCtr (C := c_s_l2Add) m_ (trivial) Tryz.func83 (by kernel_rfl) k_s_l2Add
/-! loop.example/g00959/spec.l3Unit -/
noncomputable def s_l3Unit_s3 (x1 : Int) (v1 : (List Int × Int × Int) × List (List Int) × Int) : Option (((List Int × Int × Int) × List (List Int) × Int) ⊕ ((List Int × Int × Int) × List (List Int))) :=
 cond (decide (v1.2.2 < x1))
 ((mkD 8 x1 (0 : Int)).bind fun v2 => (s_l1Once (v1.1.1, (v1.1.2.1, v1.1.2.2)) (4 : Int)).bind fun v3 => (s_l1Bit v3.1).bind fun v4 => (inIdx v2.length v1.2.2).bind fun _ => (inIdx v2.length ((v1.2.2).toNat : Int)).bind fun _ => (appD 24 v1.2.1 ([(v2.set ((v1.2.2).toNat) (IntKind.i64.wrap ((1 : Int) - (IntKind.i64.wrap ((2 : Int) * v4)))))] : List (List Int))).bind fun v5 => some (.inl ((v3.2.1.1, (v3.2.1.2.1, v3.2.1.2.2)), (v5, (IntKind.i64.wrap (v1.2.2 + (1 : Int)))))))
 (some (.inr ((v1.1.1, (v1.1.2.1, v1.1.2.2)), v1.2.1)))
noncomputable def s_l3Unit_s10 (x1 : Int) (v7 : (Int) × ((List Int) × Int × Int) × Unit) (v8 : (List Int × Int × Int) × List (List Int) × Int) : Option (((List Int × Int × Int) × List (List Int) × Int) ⊕ ((List Int × Int × Int) × List (List Int))) :=
 cond (decide (v8.2.2 < v7.1))
 (cond (decide (x1 > (1 : Int)))
 ((s_l1Below (v8.1.1, (v8.1.2.1, v8.1.2.2)) x1).bind fun v9 => (s_l1Below (v9.2.1.1, (v9.2.1.2.1, v9.2.1.2.2)) (IntKind.i64.wrap (x1 - (1 : Int)))).bind fun v10 => (remI .i64 (IntKind.i64.wrap ((IntKind.i64.wrap (v9.1 + (1 : Int))) + v10.1)) x1).bind fun v11 => (inIdx v8.2.1.length v9.1).bind fun _ => (idx v8.2.1 ((v9.1).toNat : Int)).bind fun v12 => (inIdx v8.2.1.length v11).bind fun _ => (idx v8.2.1 ((v11).toNat : Int)).bind fun v13 => (s_l1Below (v10.2.1.1, (v10.2.1.2.1, v10.2.1.2.2)) (5 : Int)).bind fun v14 => (s_l2Scale v13 (IntKind.i64.wrap (v14.1 - (2 : Int)))).bind fun v15 => (s_l2Add v12 v15).bind fun v16 => (inIdx v8.2.1.length v9.1).bind fun _ => (inIdx v8.2.1.length ((v9.1).toNat : Int)).bind fun _ => some (.inl ((v14.2.1.1, (v14.2.1.2.1, v14.2.1.2.2)), ((v8.2.1.set ((v9.1).toNat) v16), (IntKind.i64.wrap (v8.2.2 + (1 : Int)))))))
 (some (.inr ((v8.1.1, (v8.1.2.1, v8.1.2.2)), v8.2.1))))
 (some (.inr ((v8.1.1, (v8.1.2.1, v8.1.2.2)), v8.2.1)))
noncomputable def s_l3Unit (x0 : (List Int) × Int × Int) (x1 : Int) : Option ((List (List Int)) × ((List Int) × Int × Int) × Unit) :=
(iter (s_l3Unit_s3 x1) ((x0.1, (x0.2.1, x0.2.2)), (([] : List (List Int)), (0 : Int)))).bind fun v6 => (s_l1Below (v6.1.1, (v6.1.2.1, v6.1.2.2)) (4 : Int)).bind fun v7 => (iter (s_l3Unit_s10 x1 v7) ((v7.2.1.1, (v7.2.1.2.1, v7.2.1.2.2)), (v6.2, (0 : Int)))).bind fun v17 => some (v17.2, ((v17.1.1, (v17.1.2.1, v17.1.2.2)), ()))
noncomputable def e_s_l3Unit : CallE := ⟨47, [.cur 58, .d false (.int .i64)], [.l (.o true 29 (.list (.int .i64)))], fun x => s_l3Unit x.1 x.2⟩
noncomputable def c_s_l3Unit : Ctx := ⟨Tryz.prog, TT, [e_s_l1Once, e_s_l1Bit, e_s_l1Below, e_s_l2Scale, e_s_l2Add], [⟨3, [(0, .b 58 [(.d false (.list (.int .u8))), (.d false (.int .i64)), (.d false (.int .i64))]), (5, .l (.o true 29 (.list (.int .i64)))), (6, .l (.d false (.int .i64)))], some (0, [(0, .b 58 [(.d false (.list (.int .u8))), (.d false (.int .i64)), (.d false (.int .i64))]), (5, .l (.o true 29 (.list (.int .i64))))]), none, false⟩, ⟨10, [(0, .b 58 [(.d false (.list (.int .u8))), (.d false (.int .i64)), (.d false (.int .i64))]), (5, .l (.o true 29 (.list (.int .i64)))), (9, .l (.d false (.int .i64)))], some (2, [(0, .b 58 [(.d false (.list (.int .u8))), (.d false (.int .i64)), (.d false (.int .i64))]), (5, .l (.o true 29 (.list (.int .i64))))]), none, false⟩], [⟨14, [], [], [(0, false)]⟩], [], [], []⟩
theorem k_s_l3Unit (x : PMs.den e_s_l3Unit.ps) : funK c_s_l3Unit Tryz.f47 e_s_l3Unit.ps e_s_l3Unit.rs x = e_s_l3Unit.F x := by kernel_rfl
theorem o_s_l3Unit {D : Prop} : FnOk Tryz.prog e_s_l3Unit.f ∧ Ctr D Tryz.prog e_s_l3Unit := mkCtr (C := c_s_l3Unit) m_ (⟨o_s_l1Once, o_s_l1Bit, o_s_l1Below, o_s_l2Scale, o_s_l2Add, trivial⟩) Tryz.func47 (by kernel_rfl) k_s_l3Unit
/-! loop.example/g00959/spec.IsMatrix -/
noncomputable def s_IsMatrix_s2 (x0 : List (List Int)) (v1 : Int) : Option ((Int) ⊕ ((Unit) ⊕ (Bool))) :=
 cond (decide (v1 < (x0.length : Int)))
 ((idx x0 v1).bind fun v2 => cond ((v2.length : Int) != (x0.length : Int))
 (some (.inr (.inr false)))
 ((idx x0 v1).bind fun v3 => (s_l2Small v3 (100 : Int)).bind fun v4 => cond (!v4)
 (some (.inr (.inr false)))
 (some (.inl (IntKind.i64.wrap (v1 + (1 : Int)))))))
 (some (.inr (.inl ())))
noncomputable def s_IsMatrix (x0 : List (List Int)) : Option (Bool) :=
(iter (s_IsMatrix_s2 x0) (0 : Int)).bind fun v5 => match v5 with
 | .inl v6 => ((s_l1In (x0.length : Int) (1 : Int) (3 : Int)).bind fun v8 => some v8)
 | .inr v7 => (some v7)
noncomputable def e_s_IsMatrix : CallE := ⟨126, [.d false (.list (.list (.int .i64)))], [.l (.d false .bool)], fun x => s_IsMatrix x⟩
noncomputable def c_s_IsMatrix : Ctx := ⟨Tryz.prog, TT, [e_s_l2Small, e_s_l1In], [⟨2, [(3, .l (.d false (.int .i64)))], some (0, []), some [(2, .l (.d false .bool))], false⟩], [], [], [], []⟩
theorem k_s_IsMatrix (x : PMs.den e_s_IsMatrix.ps) : funK c_s_IsMatrix Tryz.f126 e_s_IsMatrix.ps e_s_IsMatrix.rs x = e_s_IsMatrix.F x := by kernel_rfl
theorem o_s_IsMatrix {D : Prop} : FnOk Tryz.prog e_s_IsMatrix.f ∧ Ctr D Tryz.prog e_s_IsMatrix := mkCtr (C := c_s_IsMatrix) m_ (⟨o_s_l2Small, o_s_l1In, trivial⟩) Tryz.func126 (by kernel_rfl) k_s_IsMatrix
/-! loop.example/g00959/spec.l3Det -/
noncomputable def s_l3Det_s8 (x0 : List (List Int)) (v11 : Int × Int) : Option ((Int × Int) ⊕ (Int)) :=
 cond (decide (v11.2 < (3 : Int)))
 ((remI .i64 (IntKind.i64.wrap (v11.2 + (1 : Int))) (3 : Int)).bind fun v12 => (remI .i64 (IntKind.i64.wrap (v11.2 + (2 : Int))) (3 : Int)).bind fun v13 => (idx x0 (0 : Int)).bind fun v14 => (idx v14 v11.2).bind fun v15 => (idx x0 (1 : Int)).bind fun v16 => (idx v16 v12).bind fun v17 => (idx x0 (2 : Int)).bind fun v18 => (idx v18 v13).bind fun v19 => (idx x0 (1 : Int)).bind fun v20 => (idx v20 v13).bind fun v21 => (idx x0 (2 : Int)).bind fun v22 => (idx v22 v12).bind fun v23 => some (.inl ((IntKind.i64.wrap (v11.1 + (IntKind.i64.wrap (v15 * (IntKind.i64.wrap ((IntKind.i64.wrap (v17 * v19)) - (IntKind.i64.wrap (v21 * v23)))))))), (IntKind.i64.wrap (v11.2 + (1 : Int))))))
 (some (.inr v11.1))
noncomputable def s_l3Det (x0 : List (List Int)) : Option (Int) :=
 cond ((x0.length : Int) == (1 : Int))
 ((idx x0 (0 : Int)).bind fun v1 => (idx v1 (0 : Int)).bind fun v2 => some v2)
 (cond ((x0.length : Int) == (2 : Int))
 ((idx x0 (0 : Int)).bind fun v3 => (idx v3 (0 : Int)).bind fun v4 => (idx x0 (1 : Int)).bind fun v5 => (idx v5 (1 : Int)).bind fun v6 => (idx x0 (0 : Int)).bind fun v7 => (idx v7 (1 : Int)).bind fun v8 => (idx x0 (1 : Int)).bind fun v9 => (idx v9 (0 : Int)).bind fun v10 => some (IntKind.i64.wrap ((IntKind.i64.wrap (v4 * v6)) - (IntKind.i64.wrap (v8 * v10)))))
 ((iter (s_l3Det_s8 x0) ((0 : Int), (0 : Int))).bind fun v24 => some v24))
noncomputable def e_s_l3Det : CallE := ⟨127, [.d false (.list (.list (.int .i64)))], [.l (.d false (.int .i64))], fun x => s_l3Det x⟩
noncomputable def c_s_l3Det : Ctx := ⟨Tryz.prog, TT, [], [⟨8, [(3, .l (.d false (.int .i64))), (4, .l (.d false (.int .i64)))], some (1, [(3, .l (.d false (.int .i64)))]), none, false⟩], [], [], [], []⟩
theorem k_s_l3Det (x : PMs.den e_s_l3Det.ps) : funK c_s_l3Det Tryz.f127 e_s_l3Det.ps e_s_l3Det.rs x = e_s_l3Det.F x := by kernel_rfl
theorem o_s_l3Det {D : Prop} : FnOk Tryz.prog e_s_l3Det.f ∧ Ctr D Tryz.prog e_s_l3Det := mkCtr (C := c_s_l3Det) m_ (trivial) Tryz.func127 (by kernel_rfl) k_s_l3Det
/-! loop.example/g00959/spec.DetOf -/
noncomputable def s_DetOf (x0 : List (List Int)) : Option (Int) :=
(s_IsMatrix x0).bind fun v1 => cond (!v1)
 (some (0 : Int))
 ((s_l3Det x0).bind fun v2 => some v2)
noncomputable def e_s_DetOf : CallE := ⟨118, [.d false (.list (.list (.int .i64)))], [.l (.d false (.int .i64))], fun x => s_DetOf x⟩
noncomputable def c_s_DetOf : Ctx := ⟨Tryz.prog, TT, [e_s_IsMatrix, e_s_l3Det], [], [], [], [], []⟩
theorem k_s_DetOf (x : PMs.den e_s_DetOf.ps) : funK c_s_DetOf Tryz.f118 e_s_DetOf.ps e_s_DetOf.rs x = e_s_DetOf.F x := by kernel_rfl
theorem o_s_DetOf {D : Prop} : FnOk Tryz.prog e_s_DetOf.f ∧ Ctr D Tryz.prog e_s_DetOf := mkCtr (C := c_s_DetOf) m_ (⟨o_s_IsMatrix, o_s_l3Det, trivial⟩) Tryz.func118 (by kernel_rfl) k_s_DetOf
/-! loop.example/g00959/spec.l1Max -/
noncomputable def s_l1Max (x0 : Int) (x1 : Int) : Option (Int) :=
 cond (decide (x0 > x1))
 (some x0)
 (some x1)
noncomputable def e_s_l1Max : CallE := ⟨96, [.d false (.int .i64), .d false (.int .i64)], [.l (.d false (.int .i64))], fun x => s_l1Max x.1 x.2⟩
noncomputable def c_s_l1Max : Ctx := ⟨Tryz.prog, TT, [], [], [], [], [], []⟩
theorem k_s_l1Max (x : PMs.den e_s_l1Max.ps) : funK c_s_l1Max Tryz.f96 e_s_l1Max.ps e_s_l1Max.rs x = e_s_l1Max.F x := by kernel_rfl
theorem o_s_l1Max {D : Prop} : FnOk Tryz.prog e_s_l1Max.f ∧ Ctr D Tryz.prog e_s_l1Max := mkCtr (C := c_s_l1Max) m_ (trivial) Tryz.func96 (by kernel_rfl) k_s_l1Max
/-! loop.example/g00959/spec.l1Abs -/
noncomputable def s_l1Abs (x0 : Int) : Option (Int) :=
(s_l1Max x0 (IntKind.i64.wrap (0 - x0))).bind fun v1 => some v1
noncomputable def e_s_l1Abs : CallE := ⟨116, [.d false (.int .i64)], [.l (.d false (.int .i64))], fun x => s_l1Abs x⟩
noncomputable def c_s_l1Abs : Ctx := ⟨Tryz.prog, TT, [e_s_l1Max], [], [], [], [], []⟩
theorem k_s_l1Abs (x : PMs.den e_s_l1Abs.ps) : funK c_s_l1Abs Tryz.f116 e_s_l1Abs.ps e_s_l1Abs.rs x = e_s_l1Abs.F x := by kernel_rfl
theorem o_s_l1Abs {D : Prop} : FnOk Tryz.prog e_s_l1Abs.f ∧ Ctr D Tryz.prog e_s_l1Abs := mkCtr (C := c_s_l1Abs) m_ (⟨o_s_l1Max, trivial⟩) Tryz.func116 (by kernel_rfl) k_s_l1Abs
/-! loop.example/g00959/spec.IsUnimodular -/
noncomputable def s_IsUnimodular (x0 : List (List Int)) : Option (Bool) :=
(s_DetOf x0).bind fun v1 => (s_l1Abs v1).bind fun v2 => some (v2 == (1 : Int))
noncomputable def e_s_IsUnimodular : CallE := ⟨103, [.d false (.list (.list (.int .i64)))], [.l (.d false .bool)], fun x => s_IsUnimodular x⟩
noncomputable def c_s_IsUnimodular : Ctx := ⟨Tryz.prog, TT, [e_s_DetOf, e_s_l1Abs], [], [], [], [], []⟩
theorem k_s_IsUnimodular (x : PMs.den e_s_IsUnimodular.ps) : funK c_s_IsUnimodular Tryz.f103 e_s_IsUnimodular.ps e_s_IsUnimodular.rs x = e_s_IsUnimodular.F x := by kernel_rfl
theorem o_s_IsUnimodular {D : Prop} : FnOk Tryz.prog e_s_IsUnimodular.f ∧ Ctr D Tryz.prog e_s_IsUnimodular := mkCtr (C := c_s_IsUnimodular) m_ (⟨o_s_DetOf, o_s_l1Abs, trivial⟩) Tryz.func103 (by kernel_rfl) k_s_IsUnimodular
/-! loop.example/g00959/spec.IsMove -/
noncomputable def s_IsMove (x0 : (List (List Int)) × (List Int)) : Option (Bool) :=
 cond ((x0.1.length : Int) == (2 : Int))
 ((s_IsUnimodular x0.1).bind fun v1 => cond v1
 ((s_IsVector x0.2).bind fun v2 => cond v2
 (some ((x0.2.length : Int) == (2 : Int)))
 (some false))
 (some false))
 (some false)
noncomputable def e_s_IsMove : CallE := ⟨81, [.d false (.prod (.list (.list (.int .i64))) (.list (.int .i64)))], [.l (.d false .bool)], fun x => s_IsMove x⟩
noncomputable def c_s_IsMove : Ctx := ⟨Tryz.prog, TT, [e_s_IsUnimodular, e_s_IsVector], [], [], [], [], []⟩
theorem k_s_IsMove (x : PMs.den e_s_IsMove.ps) : funK c_s_IsMove Tryz.f81 e_s_IsMove.ps e_s_IsMove.rs x = e_s_IsMove.F x := by kernel_rfl
theorem o_s_IsMove {D : Prop} : FnOk Tryz.prog e_s_IsMove.f ∧ Ctr D Tryz.prog e_s_IsMove := mkCtr (C := c_s_IsMove) m_ (⟨o_s_IsUnimodular, o_s_IsVector, trivial⟩) Tryz.func81 (by kernel_rfl) k_s_IsMove
/-! loop.example/g00959/spec.l2Dot -/
noncomputable def s_l2Dot_s3 (x0 : List Int) (x1 : List Int) (v1 : Int × Int) : Option ((Int × Int) ⊕ (Int)) :=
 cond (decide (v1.2 < (x0.length : Int)))
 (cond (decide (v1.2 < (x1.length : Int)))
 ((idx x0 v1.2).bind fun v2 => (idx x1 v1.2).bind fun v3 => some (.inl ((IntKind.i64.wrap (v1.1 + (IntKind.i64.wrap (v2 * v3)))), (IntKind.i64.wrap (v1.2 + (1 : Int))))))
 (some (.inr v1.1)))
 (some (.inr v1.1))
noncomputable def s_l2Dot (x0 : List Int) (x1 : List Int) : Option (Int) :=
(iter (s_l2Dot_s3 x0 x1) ((0 : Int), (0 : Int))).bind fun v4 => some v4
noncomputable def e_s_l2Dot : CallE := ⟨119, [.d false (.list (.int .i64)), .d false (.list (.int .i64))], [.l (.d false (.int .i64))], fun x => s_l2Dot x.1 x.2⟩
noncomputable def c_s_l2Dot : Ctx := ⟨Tryz.prog, TT, [], [⟨3, [(5, .l (.d false (.int .i64))), (6, .l (.d false (.int .i64)))], some (0, [(5, .l (.d false (.int .i64)))]), none, false⟩], [], [], [], []⟩
theorem k_s_l2Dot (x : PMs.den e_s_l2Dot.ps) : funK c_s_l2Dot Tryz.f119 e_s_l2Dot.ps e_s_l2Dot.rs x = e_s_l2Dot.F x := by kernel_rfl
theorem o_s_l2Dot {D : Prop} : FnOk Tryz.prog e_s_l2Dot.f ∧ Ctr D Tryz.prog e_s_l2Dot := mkCtr (C := c_s_l2Dot) m_ (trivial) Tryz.func119 (by kernel_rfl) k_s_l2Dot
/-! loop.example/g00959/spec.l3Apply -/
noncomputable def s_l3Apply_s3 (x0 : List (List Int)) (x1 : List Int) (v1 : List Int × Int) : Option ((List Int × Int) ⊕ (List Int)) :=
 cond (decide (v1.2 < (x0.length : Int)))
 ((idx x0 v1.2).bind fun v2 => (s_l2Dot v2 x1).bind fun v3 => (appD 8 v1.1 ([v3] : List Int)).bind fun v4 => some (.inl (v4, (IntKind.i64.wrap (v1.2 + (1 : Int))))))
 (some (.inr v1.1))
noncomputable def s_l3Apply (x0 : List (List Int)) (x1 : List Int) : Option (List Int) :=
(iter (s_l3Apply_s3 x0 x1) (([] : List Int), (0 : Int))).bind fun v5 => some v5
noncomputable def e_s_l3Apply : CallE := ⟨104, [.d false (.list (.list (.int .i64))), .d false (.list (.int .i64))], [.l (.o true 3 (.int .i64))], fun x => s_l3Apply x.1 x.2⟩
noncomputable def c_s_l3Apply : Ctx := ⟨Tryz.prog, TT, [e_s_l2Dot], [⟨3, [(5, .l (.o true 3 (.int .i64))), (6, .l (.d false (.int .i64)))], some (0, [(5, .l (.o true 3 (.int .i64)))]), none, false⟩], [], [], [], []⟩
theorem k_s_l3Apply (x : PMs.den e_s_l3Apply.ps) : funK c_s_l3Apply Tryz.f104 e_s_l3Apply.ps e_s_l3Apply.rs x = e_s_l3Apply.F x := by kernel_rfl
theorem o_s_l3Apply {D : Prop} : FnOk Tryz.prog e_s_l3Apply.f ∧ Ctr D Tryz.prog e_s_l3Apply := mkCtr (C := c_s_l3Apply) m_ (⟨o_s_l2Dot, trivial⟩) Tryz.func104 (by kernel_rfl) k_s_l3Apply
/-! loop.example/g00959/spec.l17Moved -/
noncomputable def s_l17Moved (x0 : (List (List Int)) × (List Int)) (x1 : List Int) : Option (List Int) :=
(s_l3Apply x0.1 x1).bind fun v1 => (s_l2Add v1 x0.2).bind fun v2 => some v2
noncomputable def e_s_l17Moved : CallE := ⟨82, [.d false (.prod (.list (.list (.int .i64))) (.list (.int .i64))), .d false (.list (.int .i64))], [.l (.o true 3 (.int .i64))], fun x => s_l17Moved x.1 x.2⟩
noncomputable def c_s_l17Moved : Ctx := ⟨Tryz.prog, TT, [e_s_l3Apply, e_s_l2Add], [], [], [], [], []⟩
theorem k_s_l17Moved (x : PMs.den e_s_l17Moved.ps) : funK c_s_l17Moved Tryz.f82 e_s_l17Moved.ps e_s_l17Moved.rs x = e_s_l17Moved.F x := by kernel_rfl
theorem o_s_l17Moved {D : Prop} : FnOk Tryz.prog e_s_l17Moved.f ∧ Ctr D Tryz.prog e_s_l17Moved := mkCtr (C := c_s_l17Moved) m_ (⟨o_s_l3Apply, o_s_l2Add, trivial⟩) Tryz.func82 (by kernel_rfl) k_s_l17Moved
/-! loop.example/g00959/spec.MovePolygon -/
noncomputable def s_MovePolygon_s5 (x0 : (List (List Int)) × (List Int)) (x1 : List (List Int)) (v3 : List (List Int) × Int) : Option ((List (List Int) × Int) ⊕ (List (List Int))) :=
 cond (decide (v3.2 < (x1.length : Int)))
 ((idx x1 v3.2).bind fun v4 => (s_l17Moved (x0.1, x0.2) v4).bind fun v5 => (appD 24 v3.1 ([v5] : List (List Int))).bind fun v6 => some (.inl (v6, (IntKind.i64.wrap (v3.2 + (1 : Int))))))
 (some (.inr v3.1))
noncomputable def s_MovePolygon (x0 : (List (List Int)) × (List Int)) (x1 : List (List Int)) : Option (List (List Int) × Bool) :=
(s_IsMove (x0.1, x0.2)).bind fun v1 => cond (!v1)
 (some (([] : List (List Int)), false))
 ((s_IsPolygon x1).bind fun v2 => cond (!v2)
 (some (([] : List (List Int)), false))
 ((iter (s_MovePolygon_s5 x0 x1) (([] : List (List Int)), (0 : Int))).bind fun v7 => (s_HullOf v7).bind fun v8 => cond (!v8.2)
 (some (([] : List (List Int)), false))
 (some (v8.1, true))))
noncomputable def e_s_MovePolygon : CallE := ⟨46, [.d false (.prod (.list (.list (.int .i64))) (.list (.int .i64))), .d false (.list (.list (.int .i64)))], [.l (.o true 29 (.list (.int .i64))), .l (.d false .bool)], fun x => s_MovePolygon x.1 x.2⟩
noncomputable def c_s_MovePolygon : Ctx := ⟨Tryz.prog, TT, [e_s_IsMove, e_s_IsPolygon, e_s_l17Moved, e_s_HullOf], [⟨5, [(6, .l (.o true 29 (.list (.int .i64)))), (7, .l (.d false (.int .i64)))], some (0, [(6, .l (.o true 29 (.list (.int .i64))))]), none, false⟩], [], [], [], []⟩
theorem k_s_MovePolygon (x : PMs.den e_s_MovePolygon.ps) : funK c_s_MovePolygon Tryz.f46 e_s_MovePolygon.ps e_s_MovePolygon.rs x = e_s_MovePolygon.F x := by kernel_rfl
theorem o_s_MovePolygon {D : Prop} : FnOk Tryz.prog e_s_MovePolygon.f ∧ Ctr D Tryz.prog e_s_MovePolygon := mkCtr (C := c_s_MovePolygon) m_ (⟨o_s_IsMove, o_s_IsPolygon, o_s_l17Moved, o_s_HullOf, trivial⟩) Tryz.func46 (by kernel_rfl) k_s_MovePolygon
/-! loop.example/g00959/spec.l2Draw -/
noncomputable def s_l2Draw_s3 (x1 : Int) (x2 : Int) (v1 : (List Int × Int × Int) × List Int × Int) : Option (((List Int × Int × Int) × List Int × Int) ⊕ ((List Int × Int × Int) × List Int)) :=
 cond (decide (v1.2.2 < x1))
 ((s_l1Below (v1.1.1, (v1.1.2.1, v1.1.2.2)) (IntKind.i64.wrap ((IntKind.i64.wrap ((2 : Int) * x2)) + (1 : Int)))).bind fun v2 => (appD 8 v1.2.1 ([(IntKind.i64.wrap (v2.1 - x2))] : List Int)).bind fun v3 => some (.inl ((v2.2.1.1, (v2.2.1.2.1, v2.2.1.2.2)), (v3, (IntKind.i64.wrap (v1.2.2 + (1 : Int)))))))
 (some (.inr ((v1.1.1, (v1.1.2.1, v1.1.2.2)), v1.2.1)))
noncomputable def s_l2Draw (x0 : (List Int) × Int × Int) (x1 : Int) (x2 : Int) : Option ((List Int) × ((List Int) × Int × Int) × Unit) :=
(iter (s_l2Draw_s3 x1 x2) ((x0.1, (x0.2.1, x0.2.2)), (([] : List Int), (0 : Int)))).bind fun v4 => some (v4.2, ((v4.1.1, (v4.1.2.1, v4.1.2.2)), ()))
noncomputable def e_s_l2Draw : CallE := ⟨86, [.cur 58, .d false (.int .i64), .d false (.int .i64)], [.l (.o true 3 (.int .i64))], fun x => s_l2Draw x.1 x.2.1 x.2.2⟩
noncomputable def c_s_l2Draw : Ctx := ⟨Tryz.prog, TT, [e_s_l1Below], [⟨3, [(0, .b 58 [(.d false (.list (.int .u8))), (.d false (.int .i64)), (.d false (.int .i64))]), (7, .l (.o true 3 (.int .i64))), (8, .l (.d false (.int .i64)))], some (0, [(0, .b 58 [(.d false (.list (.int .u8))), (.d false (.int .i64)), (.d false (.int .i64))]), (7, .l (.o true 3 (.int .i64)))]), none, false⟩], [], [], [], []⟩
theorem k_s_l2Draw (x : PMs.den e_s_l2Draw.ps) : funK c_s_l2Draw Tryz.f86 e_s_l2Draw.ps e_s_l2Draw.rs x = e_s_l2Draw.F x := by kernel_rfl
theorem o_s_l2Draw {D : Prop} : FnOk Tryz.prog e_s_l2Draw.f ∧ Ctr D Tryz.prog e_s_l2Draw := mkCtr (C := c_s_l2Draw) m_ (⟨o_s_l1Below, trivial⟩) Tryz.func86 (by kernel_rfl) k_s_l2Draw
/-! loop.example/g00959/spec.l7Draw -/
noncomputable def s_l7Draw_s7 (x1 : Int) (v2 : (Int) × ((List Int) × Int × Int) × Unit) (v3 : (List Int × Int × Int) × List (List Int) × Int) : Option (((List Int × Int × Int) × List (List Int) × Int) ⊕ ((List Int × Int × Int) × List (List Int))) :=
 cond (decide (v3.2.2 < (IntKind.i64.wrap ((3 : Int) + v2.1))))
 ((s_l2Draw (v3.1.1, (v3.1.2.1, v3.1.2.2)) (2 : Int) x1).bind fun v4 => (appD 24 v3.2.1 ([v4.1] : List (List Int))).bind fun v5 => some (.inl ((v4.2.1.1, (v4.2.1.2.1, v4.2.1.2.2)), (v5, (IntKind.i64.wrap (v3.2.2 + (1 : Int)))))))
 (some (.inr ((v3.1.1, (v3.1.2.1, v3.1.2.2)), v3.2.1)))
noncomputable def s_l7Draw_s2 (x1 : Int) (v1 : (List Int × Int × Int) × Int) : Option (((List Int × Int × Int) × Int) ⊕ ((List Int × Int × Int) ⊕ ((List Int × Int × Int) × List (List Int)))) :=
 cond (decide (v1.2 < (6 : Int)))
 ((s_l1Below (v1.1.1, (v1.1.2.1, v1.1.2.2)) (4 : Int)).bind fun v2 => (iter (s_l7Draw_s7 x1 v2) ((v2.2.1.1, (v2.2.1.2.1, v2.2.1.2.2)), (([] : List (List Int)), (0 : Int)))).bind fun v6 => (s_HullOf v6.2).bind fun v7 => cond v7.2
 (some (.inr (.inr ((v6.1.1, (v6.1.2.1, v6.1.2.2)), v7.1))))
 (some (.inl ((v6.1.1, (v6.1.2.1, v6.1.2.2)), (IntKind.i64.wrap (v1.2 + (1 : Int)))))))
 (some (.inr (.inl (v1.1.1, (v1.1.2.1, v1.1.2.2)))))
noncomputable def s_l7Draw (x0 : (List Int) × Int × Int) (x1 : Int) : Option ((List (List Int)) × ((List Int) × Int × Int) × Unit) :=
(iter (s_l7Draw_s2 x1) ((x0.1, (x0.2.1, x0.2.2)), (0 : Int))).bind fun v8 => match v8 with
 | .inl v9 => (some (([([(0 : Int), (0 : Int)] : List Int), ([(2 : Int), (0 : Int)] : List Int), ([(0 : Int), (1 : Int)] : List Int)] : List (List Int)), ((v9.1, (v9.2.1, v9.2.2)), ())))
 | .inr v10 => (some (v10.2, ((v10.1.1, (v10.1.2.1, v10.1.2.2)), ())))
noncomputable def e_s_l7Draw : CallE := ⟨85, [.cur 58, .d false (.int .i64)], [.l (.o false 29 (.list (.int .i64)))], fun x => s_l7Draw x.1 x.2⟩
noncomputable def c_s_l7Draw : Ctx := ⟨Tryz.prog, TT, [e_s_l1Below, e_s_l2Draw, e_s_HullOf], [⟨2, [(0, .b 58 [(.d false (.list (.int .u8))), (.d false (.int .i64)), (.d false (.int .i64))]), (5, .l (.d false (.int .i64)))], some (0, [(0, .b 58 [(.d false (.list (.int .u8))), (.d false (.int .i64)), (.d false (.int .i64))])]), some [(0, .b 58 [(.d false (.list (.int .u8))), (.d false (.int .i64)), (.d false (.int .i64))]), (4, .l (.o true 29 (.list (.int .i64))))], false⟩, ⟨7, [(0, .b 58 [(.d false (.list (.int .u8))), (.d false (.int .i64)), (.d false (.int .i64))]), (6, .l (.o true 29 (.list (.int .i64)))), (8, .l (.d false (.int .i64)))], some (2, [(0, .b 58 [(.d false (.list (.int .u8))), (.d false (.int .i64)), (.d false (.int .i64))]), (6, .l (.o true 29 (.list (.int .i64))))]), none, false⟩], [], [], [], []⟩
theorem k_s_l7Draw (x : PMs.den e_s_l7Draw.ps) : funK c_s_l7Draw Tryz.f85 e_s_l7Draw.ps e_s_l7Draw.rs x = e_s_l7Draw.F x := by kernel_rfl
theorem o_s_l7Draw {D : Prop} : FnOk Tryz.prog e_s_l7Draw.f ∧ Ctr D Tryz.prog e_s_l7Draw := mkCtr (C := c_s_l7Draw) m_ (⟨o_s_l1Below, o_s_l2Draw, o_s_HullOf, trivial⟩) Tryz.func85 (by kernel_rfl) k_s_l7Draw
/-! loop.example/g00959/spec.l7Bent -/
noncomputable def s_l7Bent (x0 : (List Int) × Int × Int) : Option ((List (List Int)) × ((List Int) × Int × Int) × Unit) :=
(s_l7Draw (x0.1, (x0.2.1, x0.2.2)) (4 : Int)).bind fun v1 => (s_l1Below (v1.2.1.1, (v1.2.1.2.1, v1.2.1.2.2)) (14 : Int)).bind fun v2 => cond (v2.1 == (0 : Int))
 ((inIdx v1.1.length (0 : Int)).bind fun _ => (idx v1.1 (((0 : Int)).toNat : Int)).bind fun v3 => (inIdx v1.1.length (1 : Int)).bind fun _ => (idx v1.1 (((1 : Int)).toNat : Int)).bind fun v4 => (inIdx v1.1.length (0 : Int)).bind fun _ => (inIdx v1.1.length (((0 : Int)).toNat : Int)).bind fun _ => (inIdx (v1.1.set (((0 : Int)).toNat) v4).length (1 : Int)).bind fun _ => (inIdx (v1.1.set (((0 : Int)).toNat) v4).length (((1 : Int)).toNat : Int)).bind fun _ => some (((v1.1.set (((0 : Int)).toNat) v4).set (((1 : Int)).toNat) v3), ((v2.2.1.1, (v2.2.1.2.1, v2.2.1.2.2)), ())))
 (cond (v2.1 == (1 : Int))
 ((s_l1Once (v2.2.1.1, (v2.2.1.2.1, v2.2.1.2.2)) (2 : Int)).bind fun v5 => (s_l1Bit v5.1).bind fun v6 => (s_l2Draw (v5.2.1.1, (v5.2.1.2.1, v5.2.1.2.2)) (IntKind.i64.wrap ((2 : Int) + v6)) (60 : Int)).bind fun v7 => (inIdx v1.1.length (0 : Int)).bind fun _ => (inIdx v1.1.length (((0 : Int)).toNat : Int)).bind fun _ => some ((v1.1.set (((0 : Int)).toNat) v7.1), ((v7.2.1.1, (v7.2.1.2.1, v7.2.1.2.2)), ())))
 (cond (v2.1 == (2 : Int))
 ((subl v1.1 0 (2 : Int)).bind fun v8 => some (v8, ((v2.2.1.1, (v2.2.1.2.1, v2.2.1.2.2)), ())))
 (some (v1.1, ((v2.2.1.1, (v2.2.1.2.1, v2.2.1.2.2)), ())))))
noncomputable def e_s_l7Bent : CallE := ⟨49, [.cur 58], [.l (.o false 29 (.list (.int .i64)))], fun x => s_l7Bent x⟩
noncomputable def c_s_l7Bent : Ctx := ⟨Tryz.prog, TT, [e_s_l7Draw, e_s_l1Below, e_s_l1Once, e_s_l1Bit, e_s_l2Draw], [], [], [], [], []⟩
theorem k_s_l7Bent (x : PMs.den e_s_l7Bent.ps) : funK c_s_l7Bent Tryz.f49 e_s_l7Bent.ps e_s_l7Bent.rs x = e_s_l7Bent.F x := by kernel_rfl
theorem o_s_l7Bent {D : Prop} : FnOk Tryz.prog e_s_l7Bent.f ∧ Ctr D Tryz.prog e_s_l7Bent := mkCtr (C := c_s_l7Bent) m_ (⟨o_s_l7Draw, o_s_l1Below, o_s_l1Once, o_s_l1Bit, o_s_l2Draw, trivial⟩) Tryz.func49 (by kernel_rfl) k_s_l7Bent
/-! loop.example/g00959/spec.l18Draw -/
noncomputable def s_l18Draw (x0 : (List Int) × Int × Int) : Option ((List (List Int)) × ((List Int) × Int × Int) × Unit) :=
(s_l1Pick (x0.1, (x0.2.1, x0.2.2)) ([(⟨#[45, 49, 44, 45, 49, 32, 49, 44, 48, 32, 48, 44, 49]⟩ : ByteArray), (⟨#[45, 49, 44, 45, 49, 32, 50, 44, 45, 49, 32, 45, 49, 44, 50]⟩ : ByteArray), (⟨#[45, 49, 44, 45, 49, 32, 49, 44, 45, 49, 32, 49, 44, 49, 32, 45, 49, 44, 49]⟩ : ByteArray), (⟨#[45, 49, 44, 48, 32, 48, 44, 45, 49, 32, 49, 44, 48, 32, 48, 44, 49]⟩ : ByteArray), (⟨#[45, 49, 44, 45, 49, 32, 48, 44, 45, 49, 32, 49, 44, 48, 32, 49, 44, 49, 32, 48, 44, 49, 32, 45, 49, 44, 48]⟩ : ByteArray), (⟨#[45, 49, 44, 45, 49, 32, 51, 44, 45, 49, 32, 45, 49, 44, 49]⟩ : ByteArray)] : List ByteArray)).bind fun v1 => (s_ParsePolygon v1.1).bind fun v2 => (s_l3Unit (v1.2.1.1, (v1.2.1.2.1, v1.2.1.2.2)) (2 : Int)).bind fun v3 => (s_MovePolygon (v3.1, ([(0 : Int), (0 : Int)] : List Int)) v2.1).bind fun v4 => cond (!v4.2)
 ((s_l7Bent (v3.2.1.1, (v3.2.1.2.1, v3.2.1.2.2))).bind fun v5 => some (v5.1, ((v5.2.1.1, (v5.2.1.2.1, v5.2.1.2.2)), ())))
 ((s_l1Once (v3.2.1.1, (v3.2.1.2.1, v3.2.1.2.2)) (5 : Int)).bind fun v6 => cond v6.1
 ((s_l7Bent (v6.2.1.1, (v6.2.1.2.1, v6.2.1.2.2))).bind fun v7 => some (v7.1, ((v7.2.1.1, (v7.2.1.2.1, v7.2.1.2.2)), ())))
 ((s_l1Once (v6.2.1.1, (v6.2.1.2.1, v6.2.1.2.2)) (8 : Int)).bind fun v8 => cond v8.1
 (some (v2.1, ((v8.2.1.1, (v8.2.1.2.1, v8.2.1.2.2)), ())))
 (some (v4.1, ((v8.2.1.1, (v8.2.1.2.1, v8.2.1.2.2)), ())))))
noncomputable def e_s_l18Draw : CallE := ⟨22, [.cur 58], [.l (.o false 29 (.list (.int .i64)))], fun x => s_l18Draw x⟩
noncomputable def c_s_l18Draw : Ctx := ⟨Tryz.prog, TT, [e_s_l1Pick, e_s_ParsePolygon, e_s_l3Unit, e_s_MovePolygon, e_s_l7Bent, e_s_l1Once], [], [], [], [], []⟩
theorem k_s_l18Draw (x : PMs.den e_s_l18Draw.ps) : funK c_s_l18Draw Tryz.f22 e_s_l18Draw.ps e_s_l18Draw.rs x = e_s_l18Draw.F x := by kernel_rfl
theorem o_s_l18Draw {D : Prop} : FnOk Tryz.prog e_s_l18Draw.f ∧ Ctr D Tryz.prog e_s_l18Draw := mkCtr (C := c_s_l18Draw) m_ (⟨o_s_l1Pick, o_s_ParsePolygon, o_s_l3Unit, o_s_MovePolygon, o_s_l7Bent, o_s_l1Once, trivial⟩) Tryz.func22 (by kernel_rfl) k_s_l18Draw
/-! loop.example/g00959/spec.DrawDualPolygon -/
noncomputable def s_DrawDualPolygon_s23_3 (x0 : List Int) (v1 : Int × Int) : Option ((Int × Int) ⊕ (Int)) :=
 cond (decide (v1.2 < (x0.length : Int)))
 (cond (decide (v1.2 < (4000 : Int)))
 ((idx x0 v1.2).bind fun v2 => some (.inl ((andI .i64 (IntKind.i64.wrap ((IntKind.i64.wrap ((IntKind.i64.wrap (v1.1 * (131 : Int))) + (IntKind.i64.wrap v2))) + (7 : Int))) (1073741823 : Int)), (IntKind.i64.wrap (v1.2 + (1 : Int))))))
 (some (.inr v1.1)))
 (some (.inr v1.1))
noncomputable def s_DrawDualPolygon (x0 : List Int) : Option (List (List Int)) :=
(iter (s_DrawDualPolygon_s23_3 x0) ((IntKind.i64.wrap ((26583 : Int) + (x0.length : Int))), (0 : Int))).bind fun v3 => (s_l18Draw (x0, ((0 : Int), v3))).bind fun v4 => some v4.1
noncomputable def e_s_DrawDualPolygon : CallE := ⟨5, [.d false (.list (.int .u8))], [.l (.o false 29 (.list (.int .i64)))], fun x => s_DrawDualPolygon x⟩
noncomputable def c_s_DrawDualPolygon_23 : Ctx := ⟨Tryz.prog, TT, [], [⟨3, [(3, .l (.d false (.int .i64))), (4, .l (.d false (.int .i64)))], some (0, [(3, .l (.d false (.int .i64)))]), none, true⟩], [], [], [], []⟩
noncomputable def n_s_DrawDualPolygon_23 : InE := ⟨23, false, inlK c_s_DrawDualPolygon_23 Tryz.f23⟩
theorem q_s_DrawDualPolygon_23 {D : Prop} : FnOk Tryz.prog n_s_DrawDualPolygon_23.f ∧ InOk D Tryz.prog n_s_DrawDualPolygon_23 := mkInl (C := c_s_DrawDualPolygon_23) m_ (trivial) Tryz.func23 (by kernel_rfl)
noncomputable def c_s_DrawDualPolygon : Ctx := ⟨Tryz.prog, TT, [e_s_l18Draw], [], [], [n_s_DrawDualPolygon_23], [], []⟩
theorem k_s_DrawDualPolygon (x : PMs.den e_s_DrawDualPolygon.ps) : funK c_s_DrawDualPolygon Tryz.f5 e_s_DrawDualPolygon.ps e_s_DrawDualPolygon.rs x = e_s_DrawDualPolygon.F x := by kernel_rfl
theorem o_s_DrawDualPolygon {D : Prop} : FnOk Tryz.prog e_s_DrawDualPolygon.f ∧ Ctr D Tryz.prog e_s_DrawDualPolygon := mkCtr (C := c_s_DrawDualPolygon) m_ (⟨o_s_l18Draw, trivial⟩) Tryz.func5 (by kernel_rfl) k_s_DrawDualPolygon ⟨q_s_DrawDualPolygon_23, trivial⟩
/-! loop.example/g00959/impl.within -/
noncomputable def i_within (x0 : Int) (x1 : Int) (x2 : Int) : Option (Bool) :=
 cond (decide (x0 ≥ x1))
 (some (decide (x0 ≤ x2)))
 (some false)
noncomputable def e_i_within : CallE := ⟨62, [.d false (.int .i64), .d false (.int .i64), .d false (.int .i64)], [.l (.d false .bool)], fun x => i_within x.1 x.2.1 x.2.2⟩
noncomputable def c_i_within : Ctx := ⟨Tryz.prog, TT, [], [], [], [], [], []⟩
theorem k_i_within (x : PMs.den e_i_within.ps) : funK c_i_within Tryz.f62 e_i_within.ps e_i_within.rs x = e_i_within.F x := by kernel_rfl
theorem o_i_within {D : Prop} : FnOk Tryz.prog e_i_within.f ∧ Ctr D Tryz.prog e_i_within := mkCtr (C := c_i_within) m_ (trivial) Tryz.func62 (by kernel_rfl) k_i_within
/-! loop.example/g00959/impl.allWithin -/
noncomputable def i_allWithin_s2 (x0 : List Int) (x1 : Int) (x2 : Int) (v1 : Int) : Option ((Int) ⊕ ((Unit) ⊕ (Bool))) :=
 cond (decide (v1 < (x0.length : Int)))
 ((idx x0 v1).bind fun v2 => (i_within v2 x1 x2).bind fun v3 => cond (!v3)
 (some (.inr (.inr false)))
 (some (.inl (IntKind.i64.wrap (v1 + (1 : Int))))))
 (some (.inr (.inl ())))
noncomputable def i_allWithin (x0 : List Int) (x1 : Int) (x2 : Int) : Option (Bool) :=
(iter (i_allWithin_s2 x0 x1 x2) (0 : Int)).bind fun v4 => match v4 with
 | .inl v5 => (some true)
 | .inr v6 => (some v6)
noncomputable def e_i_allWithin : CallE := ⟨87, [.d false (.list (.int .i64)), .d false (.int .i64), .d false (.int .i64)], [.l (.d false .bool)], fun x => i_allWithin x.1 x.2.1 x.2.2⟩
noncomputable def c_i_allWithin : Ctx := ⟨Tryz.prog, TT, [e_i_within], [⟨2, [(11, .l (.d false (.int .i64)))], some (0, []), some [(6, .l (.d false .bool))], false⟩], [], [], [], []⟩
theorem k_i_allWithin (x : PMs.den e_i_allWithin.ps) : funK c_i_allWithin Tryz.f87 e_i_allWithin.ps e_i_allWithin.rs x = e_i_allWithin.F x := by kernel_rfl
theorem o_i_allWithin {D : Prop} : FnOk Tryz.prog e_i_allWithin.f ∧ Ctr D Tryz.prog e_i_allWithin := mkCtr (C := c_i_allWithin) m_ (⟨o_i_within, trivial⟩) Tryz.func87 (by kernel_rfl) k_i_allWithin
/-! loop.example/g00959/impl.isPoint -/
noncomputable def i_isPoint (x0 : List Int) (x1 : Int) : Option (Bool) :=
 cond ((x0.length : Int) == (2 : Int))
 ((i_allWithin x0 (IntKind.i64.wrap (0 - x1)) x1).bind fun v1 => some v1)
 (some false)
noncomputable def e_i_isPoint : CallE := ⟨50, [.d false (.list (.int .i64)), .d false (.int .i64)], [.l (.d false .bool)], fun x => i_isPoint x.1 x.2⟩
noncomputable def c_i_isPoint : Ctx := ⟨Tryz.prog, TT, [e_i_allWithin], [], [], [], [], []⟩
theorem k_i_isPoint (x : PMs.den e_i_isPoint.ps) : funK c_i_isPoint Tryz.f50 e_i_isPoint.ps e_i_isPoint.rs x = e_i_isPoint.F x := by kernel_rfl
theorem o_i_isPoint {D : Prop} : FnOk Tryz.prog e_i_isPoint.f ∧ Ctr D Tryz.prog e_i_isPoint := mkCtr (C := c_i_isPoint) m_ (⟨o_i_allWithin, trivial⟩) Tryz.func50 (by kernel_rfl) k_i_isPoint
/-! loop.example/g00959/impl.minus -/
noncomputable def i_minus (x0 : List Int) (x1 : List Int) : Option (List Int) :=
(idx x0 (0 : Int)).bind fun v1 => (idx x1 (0 : Int)).bind fun v2 => (idx x0 (1 : Int)).bind fun v3 => (idx x1 (1 : Int)).bind fun v4 => some ([(IntKind.i64.wrap (v1 - v2)), (IntKind.i64.wrap (v3 - v4))] : List Int)
noncomputable def e_i_minus : CallE := ⟨32, [.d false (.list (.int .i64)), .d false (.list (.int .i64))], [.l (.o true 3 (.int .i64))], fun x => i_minus x.1 x.2⟩
noncomputable def c_i_minus : Ctx := ⟨Tryz.prog, TT, [], [], [], [], [], []⟩
theorem k_i_minus (x : PMs.den e_i_minus.ps) : funK c_i_minus Tryz.f32 e_i_minus.ps e_i_minus.rs x = e_i_minus.F x := by kernel_rfl
theorem o_i_minus {D : Prop} : FnOk Tryz.prog e_i_minus.f ∧ Ctr D Tryz.prog e_i_minus := mkCtr (C := c_i_minus) m_ (trivial) Tryz.func32 (by kernel_rfl) k_i_minus
/-! loop.example/g00959/impl.cross -/
noncomputable def i_cross (x0 : List Int) (x1 : List Int) : Option (Int) :=
(idx x0 (0 : Int)).bind fun v1 => (idx x1 (1 : Int)).bind fun v2 => (idx x0 (1 : Int)).bind fun v3 => (idx x1 (0 : Int)).bind fun v4 => some (IntKind.i64.wrap ((IntKind.i64.wrap (v1 * v2)) - (IntKind.i64.wrap (v3 * v4))))
noncomputable def e_i_cross : CallE := ⟨66, [.d false (.list (.int .i64)), .d false (.list (.int .i64))], [.l (.d false (.int .i64))], fun x => i_cross x.1 x.2⟩
noncomputable def c_i_cross : Ctx := ⟨Tryz.prog, TT, [], [], [], [], [], []⟩
theorem k_i_cross (x : PMs.den e_i_cross.ps) : funK c_i_cross Tryz.f66 e_i_cross.ps e_i_cross.rs x = e_i_cross.F x := by kernel_rfl
theorem o_i_cross {D : Prop} : FnOk Tryz.prog e_i_cross.f ∧ Ctr D Tryz.prog e_i_cross := mkCtr (C := c_i_cross) m_ (trivial) Tryz.func66 (by kernel_rfl) k_i_cross
/-! loop.example/g00959/impl.turn -/
noncomputable def i_turn (x0 : List Int) (x1 : List Int) (x2 : List Int) : Option (Int) :=
(i_minus x1 x0).bind fun v1 => (i_minus x2 x0).bind fun v2 => (i_cross v1 v2).bind fun v3 => some v3
noncomputable def e_i_turn : CallE := ⟨54, [.d false (.list (.int .i64)), .d false (.list (.int .i64)), .d false (.list (.int .i64))], [.l (.d false (.int .i64))], fun x => i_turn x.1 x.2.1 x.2.2⟩
noncomputable def c_i_turn : Ctx := ⟨Tryz.prog, TT, [e_i_minus, e_i_cross], [], [], [], [], []⟩
theorem k_i_turn (x : PMs.den e_i_turn.ps) : funK c_i_turn Tryz.f54 e_i_turn.ps e_i_turn.rs x = e_i_turn.F x := by kernel_rfl
theorem o_i_turn {D : Prop} : FnOk Tryz.prog e_i_turn.f ∧ Ctr D Tryz.prog e_i_turn := mkCtr (C := c_i_turn) m_ (⟨o_i_minus, o_i_cross, trivial⟩) Tryz.func54 (by kernel_rfl) k_i_turn
/-! cmp.isNaN[int] -/
noncomputable def g_cmp_isNaN (x0 : Int) : Option (Bool) :=
 some (x0 != x0)
noncomputable def e_g_cmp_isNaN : CallE := ⟨115, [.d false (.int .i64)], [.l (.d false .bool)], fun x => g_cmp_isNaN x⟩
noncomputable def c_g_cmp_isNaN : Ctx := ⟨Tryz.prog, TT, [], [], [], [], [], []⟩
theorem k_g_cmp_isNaN (x : PMs.den e_g_cmp_isNaN.ps) : funK c_g_cmp_isNaN Tryz.f115 e_g_cmp_isNaN.ps e_g_cmp_isNaN.rs x = e_g_cmp_isNaN.F x := by kernel_rfl
theorem o_g_cmp_isNaN {D : Prop} : FnOk Tryz.prog e_g_cmp_isNaN.f ∧ Ctr D Tryz.prog e_g_cmp_isNaN := mkCtr (C := c_g_cmp_isNaN) m_ (trivial) Tryz.func115 (by kernel_rfl) k_g_cmp_isNaN
/-! cmp.Compare[int] -/
noncomputable def g_cmp_Compare (x0 : Int) (x1 : Int) : Option (Int) :=
(g_cmp_isNaN x0).bind fun v1 => (g_cmp_isNaN x1).bind fun v2 => cond v1
 (cond v2
 (some (0 : Int))
 (some (-1 : Int)))
 (cond v2
 (some (1 : Int))
 (cond (decide (x0 < x1))
 (some (-1 : Int))
 (cond (decide (x0 > x1))
 (some (1 : Int))
 (some (0 : Int)))))
noncomputable def e_g_cmp_Compare : CallE := ⟨90, [.d false (.int .i64), .d false (.int .i64)], [.l (.d false (.int .i64))], fun x => g_cmp_Compare x.1 x.2⟩
noncomputable def c_g_cmp_Compare : Ctx := ⟨Tryz.prog, TT, [e_g_cmp_isNaN], [], [], [], [], []⟩
theorem k_g_cmp_Compare (x : PMs.den e_g_cmp_Compare.ps) : funK c_g_cmp_Compare Tryz.f90 e_g_cmp_Compare.ps e_g_cmp_Compare.rs x = e_g_cmp_Compare.F x := by kernel_rfl
theorem o_g_cmp_Compare {D : Prop} : FnOk Tryz.prog e_g_cmp_Compare.f ∧ Ctr D Tryz.prog e_g_cmp_Compare := mkCtr (C := c_g_cmp_Compare) m_ (⟨o_g_cmp_isNaN, trivial⟩) Tryz.func90 (by kernel_rfl) k_g_cmp_Compare
/-! slices.Compare[[]int,int] -/
noncomputable def g_slices_Compare_s2 (x0 : List Int) (x1 : List Int) (v1 : Int) : Option ((Int) ⊕ ((Unit) ⊕ (Int))) :=
 cond (decide (v1 < (x0.length : Int)))
 ((idx x0 v1).bind fun v2 => cond (decide (v1 ≥ (x1.length : Int)))
 (some (.inr (.inr (1 : Int))))
 ((idx x1 v1).bind fun v3 => (g_cmp_Compare v2 v3).bind fun v4 => cond (v4 != (0 : Int))
 (some (.inr (.inr v4)))
 (some (.inl (IntKind.i64.wrap (v1 + (1 : Int)))))))
 (some (.inr (.inl ())))
noncomputable def g_slices_Compare (x0 : List Int) (x1 : List Int) : Option (Int) :=
(iter (g_slices_Compare_s2 x0 x1) (0 : Int)).bind fun v5 => match v5 with
 | .inl v6 => (cond (decide ((x0.length : Int) < (x1.length : Int)))
 (some (-1 : Int))
 (some (0 : Int)))
 | .inr v7 => (some v7)
noncomputable def e_g_slices_Compare : CallE := ⟨53, [.d false (.list (.int .i64)), .d false (.list (.int .i64))], [.l (.d false (.int .i64))], fun x => g_slices_Compare x.1 x.2⟩
noncomputable def c_g_slices_Compare : Ctx := ⟨Tryz.prog, TT, [e_g_cmp_Compare], [⟨2, [(11, .l (.d false (.int .i64)))], some (0, []), some [(4, .l (.d false (.int .i64)))], false⟩], [], [], [], []⟩
theorem k_g_slices_Compare (x : PMs.den e_g_slices_Compare.ps) : funK c_g_slices_Compare Tryz.f53 e_g_slices_Compare.ps e_g_slices_Compare.rs x = e_g_slices_Compare.F x := by kernel_rfl
theorem o_g_slices_Compare {D : Prop} : FnOk Tryz.prog e_g_slices_Compare.f ∧ Ctr D Tryz.prog e_g_slices_Compare := mkCtr (C := c_g_slices_Compare) m_ (⟨o_g_cmp_Compare, trivial⟩) Tryz.func53 (by kernel_rfl) k_g_slices_Compare
/-! loop.example/g00959/impl.IsPolygon -/
noncomputable def i_IsPolygon_s4 (x0 : List (List Int)) (v2 : Int) : Option ((Int) ⊕ ((Unit) ⊕ (Bool))) :=
 cond (decide (v2 < (x0.length : Int)))
 ((idx x0 v2).bind fun v3 => (i_isPoint v3 (50 : Int)).bind fun v4 => cond (!v4)
 (some (.inr (.inr false)))
 (some (.inl (IntKind.i64.wrap (v2 + (1 : Int))))))
 (some (.inr (.inl ())))
noncomputable def i_IsPolygon_s11 (x0 : List (List Int)) (v8 : Int) : Option ((Int) ⊕ ((Unit) ⊕ (Bool))) :=
 cond (decide (v8 < (x0.length : Int)))
 ((idx x0 v8).bind fun v9 => (remI .i64 (IntKind.i64.wrap (v8 + (1 : Int))) (x0.length : Int)).bind fun v10 => (idx x0 v10).bind fun v11 => (remI .i64 (IntKind.i64.wrap (v8 + (2 : Int))) (x0.length : Int)).bind fun v12 => (idx x0 v12).bind fun v13 => (i_turn v9 v11 v13).bind fun v14 => cond (decide (v14 ≤ (0 : Int)))
 (some (.inr (.inr false)))
 (cond (decide (v8 > (0 : Int)))
 ((idx x0 (0 : Int)).bind fun v15 => (g_slices_Compare v15 v9).bind fun v16 => cond (decide (v16 ≥ (0 : Int)))
 (some (.inr (.inr false)))
 (cond (decide (v8 > (0 : Int)))
 (cond (decide (v8 < (IntKind.i64.wrap ((x0.length : Int) - (1 : Int)))))
 ((idx x0 (0 : Int)).bind fun v17 => (idx x0 (IntKind.i64.wrap (v8 + (1 : Int)))).bind fun v18 => (i_turn v17 v9 v18).bind fun v19 => cond (decide (v19 ≤ (0 : Int)))
 (some (.inr (.inr false)))
 (some (.inl (IntKind.i64.wrap (v8 + (1 : Int))))))
 (some (.inl (IntKind.i64.wrap (v8 + (1 : Int))))))
 (some (.inl (IntKind.i64.wrap (v8 + (1 : Int)))))))
 (cond (decide (v8 > (0 : Int)))
 (cond (decide (v8 < (IntKind.i64.wrap ((x0.length : Int) - (1 : Int)))))
 ((idx x0 (0 : Int)).bind fun v20 => (idx x0 (IntKind.i64.wrap (v8 + (1 : Int)))).bind fun v21 => (i_turn v20 v9 v21).bind fun v22 => cond (decide (v22 ≤ (0 : Int)))
 (some (.inr (.inr false)))
 (some (.inl (IntKind.i64.wrap (v8 + (1 : Int))))))
 (some (.inl (IntKind.i64.wrap (v8 + (1 : Int))))))
 (some (.inl (IntKind.i64.wrap (v8 + (1 : Int))))))))
 (some (.inr (.inl ())))
noncomputable def i_IsPolygon (x0 : List (List Int)) : Option (Bool) :=
(i_within (x0.length : Int) (3 : Int) (12 : Int)).bind fun v1 => cond (!v1)
 (some false)
 ((iter (i_IsPolygon_s4 x0) (0 : Int)).bind fun v5 => match v5 with
 | .inl v6 => ((iter (i_IsPolygon_s11 x0) (0 : Int)).bind fun v23 => match v23 with
 | .inl v24 => (some true)
 | .inr v25 => (some v25))
 | .inr v7 => (some v7))
noncomputable def e_i_IsPolygon : CallE := ⟨30, [.d false (.list (.list (.int .i64)))], [.l (.d false .bool)], fun x => i_IsPolygon x⟩
noncomputable def c_i_IsPolygon : Ctx := ⟨Tryz.prog, TT, [e_i_within, e_i_isPoint, e_i_turn, e_g_slices_Compare], [⟨4, [(14, .l (.d false (.int .i64)))], some (0, []), some [(2, .l (.d false .bool))], false⟩, ⟨11, [(26, .l (.d false (.int .i64)))], some (2, []), some [(2, .l (.d false .bool))], false⟩], [], [], [], []⟩
theorem k_i_IsPolygon (x : PMs.den e_i_IsPolygon.ps) : funK c_i_IsPolygon Tryz.f30 e_i_IsPolygon.ps e_i_IsPolygon.rs x = e_i_IsPolygon.F x := by kernel_rfl
theorem o_i_IsPolygon {D : Prop} : FnOk Tryz.prog e_i_IsPolygon.f ∧ Ctr D Tryz.prog e_i_IsPolygon := mkCtr (C := c_i_IsPolygon) m_ (⟨o_i_within, o_i_isPoint, o_i_turn, o_g_slices_Compare, trivial⟩) Tryz.func30 (by kernel_rfl) k_i_IsPolygon
/-! loop.example/g00959/impl.areaTwice -/
noncomputable def i_areaTwice_s3 (x0 : List (List Int)) (v1 : Int × Int) : Option ((Int × Int) ⊕ (Int)) :=
 cond (decide (v1.2 < (x0.length : Int)))
 ((idx x0 v1.2).bind fun v2 => (remI .i64 (IntKind.i64.wrap (v1.2 + (1 : Int))) (x0.length : Int)).bind fun v3 => (idx x0 v3).bind fun v4 => (i_cross v2 v4).bind fun v5 => some (.inl ((IntKind.i64.wrap (v1.1 + v5)), (IntKind.i64.wrap (v1.2 + (1 : Int))))))
 (some (.inr v1.1))
noncomputable def i_areaTwice (x0 : List (List Int)) : Option (Int) :=
(iter (i_areaTwice_s3 x0) ((0 : Int), (0 : Int))).bind fun v6 => some v6
noncomputable def e_i_areaTwice : CallE := ⟨99, [.d false (.list (.list (.int .i64)))], [.l (.d false (.int .i64))], fun x => i_areaTwice x⟩
noncomputable def c_i_areaTwice : Ctx := ⟨Tryz.prog, TT, [e_i_cross], [⟨3, [(3, .l (.d false (.int .i64))), (8, .l (.d false (.int .i64)))], some (0, [(3, .l (.d false (.int .i64)))]), none, false⟩], [], [], [], []⟩
theorem k_i_areaTwice (x : PMs.den e_i_areaTwice.ps) : funK c_i_areaTwice Tryz.f99 e_i_areaTwice.ps e_i_areaTwice.rs x = e_i_areaTwice.F x := by kernel_rfl
theorem o_i_areaTwice {D : Prop} : FnOk Tryz.prog e_i_areaTwice.f ∧ Ctr D Tryz.prog e_i_areaTwice := mkCtr (C := c_i_areaTwice) m_ (⟨o_i_cross, trivial⟩) Tryz.func99 (by kernel_rfl) k_i_areaTwice
/-! loop.example/g00959/impl.AreaTwice -/
noncomputable def i_AreaTwice (x0 : List (List Int)) : Option (Int) :=
(i_IsPolygon x0).bind fun v1 => cond (!v1)
 (some (-1 : Int))
 ((i_areaTwice x0).bind fun v2 => some v2)
noncomputable def e_i_AreaTwice : CallE := ⟨73, [.d false (.list (.list (.int .i64)))], [.l (.d false (.int .i64))], fun x => i_AreaTwice x⟩
noncomputable def c_i_AreaTwice : Ctx := ⟨Tryz.prog, TT, [e_i_IsPolygon, e_i_areaTwice], [], [], [], [], []⟩
theorem k_i_AreaTwice (x : PMs.den e_i_AreaTwice.ps) : funK c_i_AreaTwice Tryz.f73 e_i_AreaTwice.ps e_i_AreaTwice.rs x = e_i_AreaTwice.F x := by kernel_rfl
theorem o_i_AreaTwice {D : Prop} : FnOk Tryz.prog e_i_AreaTwice.f ∧ Ctr D Tryz.prog e_i_AreaTwice := mkCtr (C := c_i_AreaTwice) m_ (⟨o_i_IsPolygon, o_i_areaTwice, trivial⟩) Tryz.func73 (by kernel_rfl) k_i_AreaTwice
/-! loop.example/g00959/impl.magnitude -/
noncomputable def i_magnitude (x0 : Int) : Option (Int) :=
 some (if (IntKind.i64.wrap (0 - x0)) > x0 then (IntKind.i64.wrap (0 - x0)) else x0)
noncomputable def e_i_magnitude : CallE := ⟨94, [.d false (.int .i64)], [.l (.d false (.int .i64))], fun x => i_magnitude x⟩
noncomputable def c_i_magnitude : Ctx := ⟨Tryz.prog, TT, [], [], [], [], [], []⟩
theorem k_i_magnitude (x : PMs.den e_i_magnitude.ps) : funK c_i_magnitude Tryz.f94 e_i_magnitude.ps e_i_magnitude.rs x = e_i_magnitude.F x := by kernel_rfl
theorem o_i_magnitude {D : Prop} : FnOk Tryz.prog e_i_magnitude.f ∧ Ctr D Tryz.prog e_i_magnitude := mkCtr (C := c_i_magnitude) m_ (trivial) Tryz.func94 (by kernel_rfl) k_i_magnitude
/-! loop.example/g00959/impl.divisor -/
noncomputable def i_divisor_s1 (v1 : Int × Int) : Option ((Int × Int) ⊕ (Int)) :=
 cond (v1.2 != (0 : Int))
 ((remI .i64 v1.1 v1.2).bind fun v2 => some (.inl (v1.2, v2)))
 (some (.inr v1.1))
noncomputable def i_divisor (x0 : Int) (x1 : Int) : Option (Int) :=
(iter (i_divisor_s1) (x0, x1)).bind fun v3 => (i_magnitude v3).bind fun v4 => some v4
noncomputable def e_i_divisor : CallE := ⟨63, [.d false (.int .i64), .d false (.int .i64)], [.l (.d false (.int .i64))], fun x => i_divisor x.1 x.2⟩
noncomputable def c_i_divisor : Ctx := ⟨Tryz.prog, TT, [e_i_magnitude], [⟨1, [(0, .l (.d false (.int .i64))), (1, .l (.d false (.int .i64)))], some (0, [(0, .l (.d false (.int .i64)))]), none, false⟩], [], [], [], []⟩
theorem k_i_divisor (x : PMs.den e_i_divisor.ps) : funK c_i_divisor Tryz.f63 e_i_divisor.ps e_i_divisor.rs x = e_i_divisor.F x := by kernel_rfl
theorem o_i_divisor {D : Prop} : FnOk Tryz.prog e_i_divisor.f ∧ Ctr D Tryz.prog e_i_divisor := mkCtr (C := c_i_divisor) m_ (⟨o_i_magnitude, trivial⟩) Tryz.func63 (by kernel_rfl) k_i_divisor
/-! loop.example/g00959/impl.gcdAll -/
noncomputable def i_gcdAll_s3 (x0 : List Int) (v1 : Int × Int) : Option ((Int × Int) ⊕ (Int)) :=
 cond (decide (v1.2 < (x0.length : Int)))
 ((idx x0 v1.2).bind fun v2 => (i_divisor v1.1 v2).bind fun v3 => some (.inl (v3, (IntKind.i64.wrap (v1.2 + (1 : Int))))))
 (some (.inr v1.1))
noncomputable def i_gcdAll (x0 : List Int) : Option (Int) :=
(iter (i_gcdAll_s3 x0) ((0 : Int), (0 : Int))).bind fun v4 => some v4
noncomputable def e_i_gcdAll : CallE := ⟨31, [.d false (.list (.int .i64))], [.l (.d false (.int .i64))], fun x => i_gcdAll x⟩
noncomputable def c_i_gcdAll : Ctx := ⟨Tryz.prog, TT, [e_i_divisor], [⟨3, [(3, .l (.d false (.int .i64))), (8, .l (.d false (.int .i64)))], some (0, [(3, .l (.d false (.int .i64)))]), none, false⟩], [], [], [], []⟩
theorem k_i_gcdAll (x : PMs.den e_i_gcdAll.ps) : funK c_i_gcdAll Tryz.f31 e_i_gcdAll.ps e_i_gcdAll.rs x = e_i_gcdAll.F x := by kernel_rfl
theorem o_i_gcdAll {D : Prop} : FnOk Tryz.prog e_i_gcdAll.f ∧ Ctr D Tryz.prog e_i_gcdAll := mkCtr (C := c_i_gcdAll) m_ (⟨o_i_divisor, trivial⟩) Tryz.func31 (by kernel_rfl) k_i_gcdAll
/-! loop.example/g00959/impl.BoundaryCount -/
noncomputable def i_BoundaryCount_s5 (x0 : List (List Int)) (v2 : Int × Int) : Option ((Int × Int) ⊕ (Int)) :=
 cond (decide (v2.2 < (x0.length : Int)))
 ((idx x0 v2.2).bind fun v3 => (remI .i64 (IntKind.i64.wrap (v2.2 + (1 : Int))) (x0.length : Int)).bind fun v4 => (idx x0 v4).bind fun v5 => (i_minus v5 v3).bind fun v6 => (i_gcdAll v6).bind fun v7 => some (.inl ((IntKind.i64.wrap (v2.1 + v7)), (IntKind.i64.wrap (v2.2 + (1 : Int))))))
 (some (.inr v2.1))
noncomputable def i_BoundaryCount (x0 : List (List Int)) : Option (Int) :=
(i_IsPolygon x0).bind fun v1 => cond (!v1)
 (some (-1 : Int))
 ((iter (i_BoundaryCount_s5 x0) ((0 : Int), (0 : Int))).bind fun v8 => some v8)
noncomputable def e_i_BoundaryCount : CallE := ⟨29, [.d false (.list (.list (.int .i64)))], [.l (.d false (.int .i64))], fun x => i_BoundaryCount x⟩
noncomputable def c_i_BoundaryCount : Ctx := ⟨Tryz.prog, TT, [e_i_IsPolygon, e_i_minus, e_i_gcdAll], [⟨5, [(3, .l (.d false (.int .i64))), (11, .l (.d false (.int .i64)))], some (0, [(3, .l (.d false (.int .i64)))]), none, false⟩], [], [], [], []⟩
theorem k_i_BoundaryCount (x : PMs.den e_i_BoundaryCount.ps) : funK c_i_BoundaryCount Tryz.f29 e_i_BoundaryCount.ps e_i_BoundaryCount.rs x = e_i_BoundaryCount.F x := by kernel_rfl
theorem o_i_BoundaryCount {D : Prop} : FnOk Tryz.prog e_i_BoundaryCount.f ∧ Ctr D Tryz.prog e_i_BoundaryCount := mkCtr (C := c_i_BoundaryCount) m_ (⟨o_i_IsPolygon, o_i_minus, o_i_gcdAll, trivial⟩) Tryz.func29 (by kernel_rfl) k_i_BoundaryCount
/-! loop.example/g00959/impl.InnerCount -/
noncomputable def i_InnerCount (x0 : List (List Int)) : Option (Int) :=
(i_IsPolygon x0).bind fun v1 => cond (!v1)
 (some (-1 : Int))
 ((i_AreaTwice x0).bind fun v2 => (i_BoundaryCount x0).bind fun v3 => (quoI .i64 (IntKind.i64.wrap ((IntKind.i64.wrap (v2 - v3)) + (2 : Int))) (2 : Int)).bind fun v4 => some v4)
noncomputable def e_i_InnerCount : CallE := ⟨40, [.d false (.list (.list (.int .i64)))], [.l (.d false (.int .i64))], fun x => i_InnerCount x⟩
noncomputable def c_i_InnerCount : Ctx := ⟨Tryz.prog, TT, [e_i_IsPolygon, e_i_AreaTwice, e_i_BoundaryCount], [], [], [], [], []⟩
theorem k_i_InnerCount (x : PMs.den e_i_InnerCount.ps) : funK c_i_InnerCount Tryz.f40 e_i_InnerCount.ps e_i_InnerCount.rs x = e_i_InnerCount.F x := by kernel_rfl
theorem o_i_InnerCount {D : Prop} : FnOk Tryz.prog e_i_InnerCount.f ∧ Ctr D Tryz.prog e_i_InnerCount := mkCtr (C := c_i_InnerCount) m_ (⟨o_i_IsPolygon, o_i_AreaTwice, o_i_BoundaryCount, trivial⟩) Tryz.func40 (by kernel_rfl) k_i_InnerCount
/-! loop.example/g00959/impl.IsVector -/
noncomputable def i_IsVector (x0 : List Int) : Option (Bool) :=
(i_within (x0.length : Int) (1 : Int) (3 : Int)).bind fun v1 => cond v1
 ((i_allWithin x0 (-1000 : Int) (1000 : Int)).bind fun v2 => some v2)
 (some false)
noncomputable def e_i_IsVector : CallE := ⟨74, [.d false (.list (.int .i64))], [.l (.d false .bool)], fun x => i_IsVector x⟩
noncomputable def c_i_IsVector : Ctx := ⟨Tryz.prog, TT, [e_i_within, e_i_allWithin], [], [], [], [], []⟩
theorem k_i_IsVector (x : PMs.den e_i_IsVector.ps) : funK c_i_IsVector Tryz.f74 e_i_IsVector.ps e_i_IsVector.rs x = e_i_IsVector.F x := by kernel_rfl
theorem o_i_IsVector {D : Prop} : FnOk Tryz.prog e_i_IsVector.f ∧ Ctr D Tryz.prog e_i_IsVector := mkCtr (C := c_i_IsVector) m_ (⟨o_i_within, o_i_allWithin, trivial⟩) Tryz.func74 (by kernel_rfl) k_i_IsVector
/-! loop.example/g00959/impl.placeOf -/
noncomputable def i_placeOf_s3 (x0 : List (List Int)) (x1 : List Int) (v1 : Int × Int) : Option ((Int × Int) ⊕ ((Int) ⊕ (Int))) :=
 cond (decide (v1.2 < (x0.length : Int)))
 ((idx x0 v1.2).bind fun v2 => (remI .i64 (IntKind.i64.wrap (v1.2 + (1 : Int))) (x0.length : Int)).bind fun v3 => (idx x0 v3).bind fun v4 => (i_turn v2 v4 x1).bind fun v5 => cond (decide (v5 < (0 : Int)))
 (some (.inr (.inr (-1 : Int))))
 (cond (v5 == (0 : Int))
 (some (.inl ((0 : Int), (IntKind.i64.wrap (v1.2 + (1 : Int))))))
 (some (.inl (v1.1, (IntKind.i64.wrap (v1.2 + (1 : Int))))))))
 (some (.inr (.inl v1.1)))
noncomputable def i_placeOf (x0 : List (List Int)) (x1 : List Int) : Option (Int) :=
(iter (i_placeOf_s3 x0 x1) ((1 : Int), (0 : Int))).bind fun v6 => match v6 with
 | .inl v7 => (some v7)
 | .inr v8 => (some v8)
noncomputable def e_i_placeOf : CallE := ⟨75, [.d false (.list (.list (.int .i64))), .d false (.list (.int .i64))], [.l (.d false (.int .i64))], fun x => i_placeOf x.1 x.2⟩
noncomputable def c_i_placeOf : Ctx := ⟨Tryz.prog, TT, [e_i_turn], [⟨3, [(5, .l (.d false (.int .i64))), (11, .l (.d false (.int .i64)))], some (0, [(5, .l (.d false (.int .i64)))]), some [(4, .l (.d false (.int .i64)))], false⟩], [], [], [], []⟩
theorem k_i_placeOf (x : PMs.den e_i_placeOf.ps) : funK c_i_placeOf Tryz.f75 e_i_placeOf.ps e_i_placeOf.rs x = e_i_placeOf.F x := by kernel_rfl
theorem o_i_placeOf {D : Prop} : FnOk Tryz.prog e_i_placeOf.f ∧ Ctr D Tryz.prog e_i_placeOf := mkCtr (C := c_i_placeOf) m_ (⟨o_i_turn, trivial⟩) Tryz.func75 (by kernel_rfl) k_i_placeOf
/-! loop.example/g00959/impl.PlaceOf -/
noncomputable def i_PlaceOf (x0 : List (List Int)) (x1 : List Int) : Option (Int) :=
(i_IsPolygon x0).bind fun v1 => cond (!v1)
 (some (-1 : Int))
 ((i_IsVector x1).bind fun v2 => cond (!v2)
 (some (-1 : Int))
 (cond ((x1.length : Int) != (2 : Int))
 (some (-1 : Int))
 ((i_placeOf x0 x1).bind fun v3 => some v3)))
noncomputable def e_i_PlaceOf : CallE := ⟨41, [.d false (.list (.list (.int .i64))), .d false (.list (.int .i64))], [.l (.d false (.int .i64))], fun x => i_PlaceOf x.1 x.2⟩
noncomputable def c_i_PlaceOf : Ctx := ⟨Tryz.prog, TT, [e_i_IsPolygon, e_i_IsVector, e_i_placeOf], [], [], [], [], []⟩
theorem k_i_PlaceOf (x : PMs.den e_i_PlaceOf.ps) : funK c_i_PlaceOf Tryz.f41 e_i_PlaceOf.ps e_i_PlaceOf.rs x = e_i_PlaceOf.F x := by kernel_rfl
theorem o_i_PlaceOf {D : Prop} : FnOk Tryz.prog e_i_PlaceOf.f ∧ Ctr D Tryz.prog e_i_PlaceOf := mkCtr (C := c_i_PlaceOf) m_ (⟨o_i_IsPolygon, o_i_IsVector, o_i_placeOf, trivial⟩) Tryz.func41 (by kernel_rfl) k_i_PlaceOf
/-! loop.example/g00959/impl.IsReflexive -/
noncomputable def i_IsReflexive (x0 : List (List Int)) : Option (Bool) :=
(i_InnerCount x0).bind fun v1 => cond (v1 == (1 : Int))
 ((i_PlaceOf x0 ([(0 : Int), (0 : Int)] : List Int)).bind fun v2 => some (v2 == (1 : Int)))
 (some false)
noncomputable def e_i_IsReflexive : CallE := ⟨17, [.d false (.list (.list (.int .i64)))], [.l (.d false .bool)], fun x => i_IsReflexive x⟩
noncomputable def c_i_IsReflexive : Ctx := ⟨Tryz.prog, TT, [e_i_InnerCount, e_i_PlaceOf], [], [], [], [], []⟩
theorem k_i_IsReflexive (x : PMs.den e_i_IsReflexive.ps) : funK c_i_IsReflexive Tryz.f17 e_i_IsReflexive.ps e_i_IsReflexive.rs x = e_i_IsReflexive.F x := by kernel_rfl
theorem o_i_IsReflexive {D : Prop} : FnOk Tryz.prog e_i_IsReflexive.f ∧ Ctr D Tryz.prog e_i_IsReflexive := mkCtr (C := c_i_IsReflexive) m_ (⟨o_i_InnerCount, o_i_PlaceOf, trivial⟩) Tryz.func17 (by kernel_rfl) k_i_IsReflexive
/-! loop.example/g00959/impl.outward -/
noncomputable def i_outward (x0 : List (List Int)) (x1 : Int) : Option (List Int) :=
(remI .i64 (IntKind.i64.wrap (x1 + (1 : Int))) (x0.length : Int)).bind fun v1 => (idx x0 v1).bind fun v2 => (idx x0 x1).bind fun v3 => (i_minus v2 v3).bind fun v4 => (i_gcdAll v4).bind fun v5 => (inIdx v4.length (1 : Int)).bind fun _ => (idx v4 (((1 : Int)).toNat : Int)).bind fun v6 => (quoI .i64 v6 v5).bind fun v7 => (inIdx v4.length (0 : Int)).bind fun _ => (idx v4 (((0 : Int)).toNat : Int)).bind fun v8 => (quoI .i64 (IntKind.i64.wrap (0 - v8)) v5).bind fun v9 => some ([v7, v9] : List Int)
noncomputable def e_i_outward : CallE := ⟨24, [.d false (.list (.list (.int .i64))), .d false (.int .i64)], [.l (.o true 3 (.int .i64))], fun x => i_outward x.1 x.2⟩
noncomputable def c_i_outward : Ctx := ⟨Tryz.prog, TT, [e_i_minus, e_i_gcdAll], [], [], [], [], []⟩
theorem k_i_outward (x : PMs.den e_i_outward.ps) : funK c_i_outward Tryz.f24 e_i_outward.ps e_i_outward.rs x = e_i_outward.F x := by kernel_rfl
theorem o_i_outward {D : Prop} : FnOk Tryz.prog e_i_outward.f ∧ Ctr D Tryz.prog e_i_outward := mkCtr (C := c_i_outward) m_ (⟨o_i_minus, o_i_gcdAll, trivial⟩) Tryz.func24 (by kernel_rfl) k_i_outward
/-! loop.example/g00959/impl.dot -/
noncomputable def i_dot_s3 (x0 : List Int) (x1 : List Int) (v1 : Int × Int) : Option ((Int × Int) ⊕ (Int)) :=
 cond (decide (v1.2 < (x0.length : Int)))
 ((idx x0 v1.2).bind fun v2 => (idx x1 v1.2).bind fun v3 => some (.inl ((IntKind.i64.wrap (v1.1 + (IntKind.i64.wrap (v2 * v3)))), (IntKind.i64.wrap (v1.2 + (1 : Int))))))
 (some (.inr v1.1))
noncomputable def i_dot (x0 : List Int) (x1 : List Int) : Option (Int) :=
(iter (i_dot_s3 x0 x1) ((0 : Int), (0 : Int))).bind fun v4 => some v4
noncomputable def e_i_dot : CallE := ⟨25, [.d false (.list (.int .i64)), .d false (.list (.int .i64))], [.l (.d false (.int .i64))], fun x => i_dot x.1 x.2⟩
noncomputable def c_i_dot : Ctx := ⟨Tryz.prog, TT, [], [⟨3, [(5, .l (.d false (.int .i64))), (9, .l (.d false (.int .i64)))], some (0, [(5, .l (.d false (.int .i64)))]), none, false⟩], [], [], [], []⟩
theorem k_i_dot (x : PMs.den e_i_dot.ps) : funK c_i_dot Tryz.f25 e_i_dot.ps e_i_dot.rs x = e_i_dot.F x := by kernel_rfl
theorem o_i_dot {D : Prop} : FnOk Tryz.prog e_i_dot.f ∧ Ctr D Tryz.prog e_i_dot := mkCtr (C := c_i_dot) m_ (trivial) Tryz.func25 (by kernel_rfl) k_i_dot
/-! loop.example/g00959/impl.copyInts -/
noncomputable def i_copyInts (x0 : List Int) : Option (List Int) :=
(appD 8 ([] : List Int) x0).bind fun v1 => some v1
noncomputable def e_i_copyInts : CallE := ⟨55, [.d false (.list (.int .i64))], [.l (.o true 3 (.int .i64))], fun x => i_copyInts x⟩
noncomputable def c_i_copyInts : Ctx := ⟨Tryz.prog, TT, [], [], [], [], [], []⟩
theorem k_i_copyInts (x : PMs.den e_i_copyInts.ps) : funK c_i_copyInts Tryz.f55 e_i_copyInts.ps e_i_copyInts.rs x = e_i_copyInts.F x := by kernel_rfl
theorem o_i_copyInts {D : Prop} : FnOk Tryz.prog e_i_copyInts.f ∧ Ctr D Tryz.prog e_i_copyInts := mkCtr (C := c_i_copyInts) m_ (trivial) Tryz.func55 (by kernel_rfl) k_i_copyInts
/-! loop.example/g00959/impl.copyPoints -/
noncomputable def i_copyPoints_s3 (x0 : List (List Int)) (v1 : List (List Int) × Int) : Option ((List (List Int) × Int) ⊕ (List (List Int))) :=
 cond (decide (v1.2 < (x0.length : Int)))
 ((idx x0 v1.2).bind fun v2 => (i_copyInts v2).bind fun v3 => (appD 24 v1.1 ([v3] : List (List Int))).bind fun v4 => some (.inl (v4, (IntKind.i64.wrap (v1.2 + (1 : Int))))))
 (some (.inr v1.1))
noncomputable def i_copyPoints (x0 : List (List Int)) : Option (List (List Int)) :=
(iter (i_copyPoints_s3 x0) (([] : List (List Int)), (0 : Int))).bind fun v5 => some v5
noncomputable def e_i_copyPoints : CallE := ⟨51, [.d false (.list (.list (.int .i64)))], [.l (.o true 29 (.list (.int .i64)))], fun x => i_copyPoints x⟩
noncomputable def c_i_copyPoints : Ctx := ⟨Tryz.prog, TT, [e_i_copyInts], [⟨3, [(3, .l (.o true 29 (.list (.int .i64)))), (8, .l (.d false (.int .i64)))], some (0, [(3, .l (.o true 29 (.list (.int .i64))))]), none, false⟩], [], [], [], []⟩
theorem k_i_copyPoints (x : PMs.den e_i_copyPoints.ps) : funK c_i_copyPoints Tryz.f51 e_i_copyPoints.ps e_i_copyPoints.rs x = e_i_copyPoints.F x := by kernel_rfl
theorem o_i_copyPoints {D : Prop} : FnOk Tryz.prog e_i_copyPoints.f ∧ Ctr D Tryz.prog e_i_copyPoints := mkCtr (C := c_i_copyPoints) m_ (⟨o_i_copyInts, trivial⟩) Tryz.func51 (by kernel_rfl) k_i_copyPoints
/-! slices.SortFunc[[][]int,[]int] -/
noncomputable def g_slices_SortFunc (x0 : List (List Int)) : Option (Unit × ((List (List Int)) × Unit)) := sortF (fun a b => g_slices_Compare a b) x0
noncomputable def e_g_slices_SortFunc : CallE := ⟨52, [.io true 29 (.list (.int .i64)), .f 53], [], fun x => g_slices_SortFunc x.1⟩
theorem o_g_slices_SortFunc {D : Prop} : FnOk Tryz.prog e_g_slices_SortFunc.f ∧ Ctr D Tryz.prog e_g_slices_SortFunc := ⟨⟨Tryz.f52, _, Tryz.func52, by kernel_rfl, rfl⟩, sort_ctr laySort rfl (o_g_slices_Compare (D := True)).1 (o_g_slices_Compare (D := True)).2⟩
/-! slices.Reverse[[][]int,[]int] -/
noncomputable def g_slices_Reverse (x0 : List (List Int)) : Option (Unit × ((List (List Int)) × Unit)) := some ((), (x0.reverse, ()))
noncomputable def e_g_slices_Reverse : CallE := ⟨56, [.io true 29 (.list (.int .i64))], [], fun x => g_slices_Reverse x⟩
theorem o_g_slices_Reverse {D : Prop} : FnOk Tryz.prog e_g_slices_Reverse.f ∧ Ctr D Tryz.prog e_g_slices_Reverse := ⟨⟨Tryz.f56, _, Tryz.func56, by kernel_rfl, rfl⟩, rev_ctr layRev rfl⟩
/-! loop.example/g00959/impl.HullOf -/
noncomputable def i_HullOf_s4 (x0 : List (List Int)) (v1 : Int) : Option ((Int) ⊕ ((Unit) ⊕ (List (List Int) × Bool))) :=
 cond (decide (v1 < (x0.length : Int)))
 ((idx x0 v1).bind fun v2 => (i_isPoint v2 (50 : Int)).bind fun v3 => cond (!v3)
 (some (.inr (.inr (([] : List (List Int)), false))))
 (some (.inl (IntKind.i64.wrap (v1 + (1 : Int))))))
 (some (.inr (.inl ())))
noncomputable def i_HullOf_s19 (v9 : List (List Int) × List (List Int) × Int) (v11 : List Int) (v12 : List (List Int)) : Option ((List (List Int)) ⊕ (List (List Int))) :=
 cond (decide ((v12.length : Int) ≥ (IntKind.i64.wrap ((v9.2.1.length : Int) + (2 : Int)))))
 ((inIdx v12.length (IntKind.i64.wrap ((v12.length : Int) - (2 : Int)))).bind fun _ => (idx v12 (((IntKind.i64.wrap ((v12.length : Int) - (2 : Int)))).toNat : Int)).bind fun v13 => (inIdx v12.length (IntKind.i64.wrap ((v12.length : Int) - (1 : Int)))).bind fun _ => (idx v12 (((IntKind.i64.wrap ((v12.length : Int) - (1 : Int)))).toNat : Int)).bind fun v14 => (i_turn v13 v14 v11).bind fun v15 => cond (decide (v15 ≤ (0 : Int)))
 ((subl v12 0 (IntKind.i64.wrap ((v12.length : Int) - (1 : Int)))).bind fun v16 => some (.inl v16))
 (some (.inr v12)))
 (some (.inr v12))
noncomputable def i_HullOf_s17 (v9 : List (List Int) × List (List Int) × Int) (v10 : List (List Int) × Int) : Option ((List (List Int) × Int) ⊕ (List (List Int))) :=
 cond (decide (v10.2 < (v9.1.length : Int)))
 ((idx v9.1 v10.2).bind fun v11 => (iter (i_HullOf_s19 v9 v11) v10.1).bind fun v17 => (i_copyInts v11).bind fun v18 => (appD 24 v17 ([v18] : List (List Int))).bind fun v19 => some (.inl (v19, (IntKind.i64.wrap (v10.2 + (1 : Int))))))
 (some (.inr v10.1))
noncomputable def i_HullOf_s13 (v9 : List (List Int) × List (List Int) × Int) : Option ((List (List Int) × List (List Int) × Int) ⊕ (List (List Int))) :=
 cond (decide (v9.2.2 < (2 : Int)))
 ((iter (i_HullOf_s17 v9) (v9.2.1, (0 : Int))).bind fun v20 => (subl v20 0 (if (IntKind.i64.wrap ((v20.length : Int) - (1 : Int))) > (0 : Int) then (IntKind.i64.wrap ((v20.length : Int) - (1 : Int))) else (0 : Int))).bind fun v21 => (g_slices_Reverse v9.1).bind fun v22 => some (.inl (v22.2.1, (v21, (IntKind.i64.wrap (v9.2.2 + (1 : Int)))))))
 (some (.inr v9.2.1))
noncomputable def i_HullOf (x0 : List (List Int)) : Option (List (List Int) × Bool) :=
 cond (decide ((x0.length : Int) > (200 : Int)))
 (some (([] : List (List Int)), false))
 ((iter (i_HullOf_s4 x0) (0 : Int)).bind fun v4 => match v4 with
 | .inl v5 => ((i_copyPoints x0).bind fun v7 => (g_slices_SortFunc v7).bind fun v8 => (iter (i_HullOf_s13) (v8.2.1, (([] : List (List Int)), (0 : Int)))).bind fun v23 => (i_IsPolygon v23).bind fun v24 => cond (!v24)
 (some (([] : List (List Int)), false))
 (some (v23, true)))
 | .inr v6 => (some (v6.1, v6.2)))
noncomputable def e_i_HullOf : CallE := ⟨26, [.d false (.list (.list (.int .i64)))], [.l (.o true 29 (.list (.int .i64))), .l (.d false .bool)], fun x => i_HullOf x⟩
noncomputable def c_i_HullOf : Ctx := ⟨Tryz.prog, TT, [e_i_isPoint, e_i_copyPoints, e_g_slices_SortFunc, e_i_turn, e_i_copyInts, e_g_slices_Reverse, e_i_IsPolygon], [⟨4, [(17, .l (.d false (.int .i64)))], some (0, []), some [(2, .l (.o true 29 (.list (.int .i64)))), (3, .l (.d false .bool))], false⟩, ⟨13, [(6, .l (.o true 29 (.list (.int .i64)))), (7, .l (.o true 29 (.list (.int .i64)))), (8, .l (.d false (.int .i64)))], some (2, [(7, .l (.o true 29 (.list (.int .i64))))]), none, false⟩, ⟨17, [(7, .l (.o true 29 (.list (.int .i64)))), (37, .l (.d false (.int .i64)))], some (4, [(7, .l (.o true 29 (.list (.int .i64))))]), none, true⟩, ⟨19, [(7, .l (.o true 29 (.list (.int .i64))))], some (6, [(7, .l (.o true 29 (.list (.int .i64))))]), none, false⟩], [], [], [], []⟩
theorem k_i_HullOf (x : PMs.den e_i_HullOf.ps) : funK c_i_HullOf Tryz.f26 e_i_HullOf.ps e_i_HullOf.rs x = e_i_HullOf.F x := by kernel_rfl
theorem o_i_HullOf {D : Prop} : FnOk Tryz.prog e_i_HullOf.f ∧ Ctr D Tryz.prog e_i_HullOf := mkCtr (C := c_i_HullOf) m_ (⟨o_i_isPoint, o_i_copyPoints, o_g_slices_SortFunc, o_i_turn, o_i_copyInts, o_g_slices_Reverse, o_i_IsPolygon, trivial⟩) Tryz.func26 (by kernel_rfl) k_i_HullOf
/-! loop.example/g00959/impl.DualPolygon -/
noncomputable def i_DualPolygon_s5 (x0 : List (List Int)) (v2 : List (List Int) × Int) : Option ((List (List Int) × Int) ⊕ ((List (List Int)) ⊕ (List (List Int) × Bool))) :=
 cond (decide (v2.2 < (x0.length : Int)))
 ((idx x0 v2.2).bind fun v3 => (i_outward x0 v2.2).bind fun v4 => (i_dot v4 v3).bind fun v5 => cond (v5 != (1 : Int))
 (some (.inr (.inr (([] : List (List Int)), false))))
 ((appD 24 v2.1 ([v4] : List (List Int))).bind fun v6 => some (.inl (v6, (IntKind.i64.wrap (v2.2 + (1 : Int)))))))
 (some (.inr (.inl v2.1)))
noncomputable def i_DualPolygon (x0 : List (List Int)) : Option (List (List Int) × Bool) :=
(i_IsReflexive x0).bind fun v1 => cond (!v1)
 (some (([] : List (List Int)), false))
 ((iter (i_DualPolygon_s5 x0) (([] : List (List Int)), (0 : Int))).bind fun v7 => match v7 with
 | .inl v8 => ((i_HullOf v8).bind fun v10 => some (v10.1, v10.2))
 | .inr v9 => (some (v9.1, v9.2)))
noncomputable def e_i_DualPolygon : CallE := ⟨6, [.d false (.list (.list (.int .i64)))], [.l (.o true 29 (.list (.int .i64))), .l (.d false .bool)], fun x => i_DualPolygon x⟩
noncomputable def c_i_DualPolygon : Ctx := ⟨Tryz.prog, TT, [e_i_IsReflexive, e_i_outward, e_i_dot, e_i_HullOf], [⟨5, [(4, .l (.o true 29 (.list (.int .i64)))), (13, .l (.d false (.int .i64)))], some (0, [(4, .l (.o true 29 (.list (.int .i64))))]), some [(2, .l (.o true 29 (.list (.int .i64)))), (3, .l (.d false .bool))], false⟩], [], [], [], []⟩
theorem k_i_DualPolygon (x : PMs.den e_i_DualPolygon.ps) : funK c_i_DualPolygon Tryz.f6 e_i_DualPolygon.ps e_i_DualPolygon.rs x = e_i_DualPolygon.F x := by kernel_rfl
theorem o_i_DualPolygon {D : Prop} : FnOk Tryz.prog e_i_DualPolygon.f ∧ Ctr D Tryz.prog e_i_DualPolygon := mkCtr (C := c_i_DualPolygon) m_ (⟨o_i_IsReflexive, o_i_outward, o_i_dot, o_i_HullOf, trivial⟩) Tryz.func6 (by kernel_rfl) k_i_DualPolygon
/-! loop.example/g00959/spec.l7Area -/
noncomputable def s_l7Area_s3 (x0 : List (List Int)) (v1 : Int × Int) : Option ((Int × Int) ⊕ (Int)) :=
 cond (decide (v1.2 < (x0.length : Int)))
 ((idx x0 v1.2).bind fun v2 => (remI .i64 (IntKind.i64.wrap (v1.2 + (1 : Int))) (x0.length : Int)).bind fun v3 => (idx x0 v3).bind fun v4 => (s_l7Cross v2 v4).bind fun v5 => some (.inl ((IntKind.i64.wrap (v1.1 + v5)), (IntKind.i64.wrap (v1.2 + (1 : Int))))))
 (some (.inr v1.1))
noncomputable def s_l7Area (x0 : List (List Int)) : Option (Int) :=
(iter (s_l7Area_s3 x0) ((0 : Int), (0 : Int))).bind fun v6 => some v6
noncomputable def e_s_l7Area : CallE := ⟨76, [.d false (.list (.list (.int .i64)))], [.l (.d false (.int .i64))], fun x => s_l7Area x⟩
noncomputable def c_s_l7Area : Ctx := ⟨Tryz.prog, TT, [e_s_l7Cross], [⟨3, [(3, .l (.d false (.int .i64))), (4, .l (.d false (.int .i64)))], some (0, [(3, .l (.d false (.int .i64)))]), none, false⟩], [], [], [], []⟩
theorem k_s_l7Area (x : PMs.den e_s_l7Area.ps) : funK c_s_l7Area Tryz.f76 e_s_l7Area.ps e_s_l7Area.rs x = e_s_l7Area.F x := by kernel_rfl
theorem o_s_l7Area {D : Prop} : FnOk Tryz.prog e_s_l7Area.f ∧ Ctr D Tryz.prog e_s_l7Area := mkCtr (C := c_s_l7Area) m_ (⟨o_s_l7Cross, trivial⟩) Tryz.func76 (by kernel_rfl) k_s_l7Area
/-! loop.example/g00959/spec.l2Gcd -/
noncomputable def s_l2Gcd_s3 (v3 : Int × Int) : Option ((Int × Int) ⊕ (Int)) :=
 cond (v3.2 != (0 : Int))
 ((remI .i64 v3.1 v3.2).bind fun v4 => some (.inl (v3.2, v4)))
 (some (.inr v3.1))
noncomputable def s_l2Gcd (x0 : Int) (x1 : Int) : Option (Int) :=
(s_l1Abs x0).bind fun v1 => (s_l1Abs x1).bind fun v2 => (iter (s_l2Gcd_s3) (v1, v2)).bind fun v5 => some v5
noncomputable def e_s_l2Gcd : CallE := ⟨98, [.d false (.int .i64), .d false (.int .i64)], [.l (.d false (.int .i64))], fun x => s_l2Gcd x.1 x.2⟩
noncomputable def c_s_l2Gcd : Ctx := ⟨Tryz.prog, TT, [e_s_l1Abs], [⟨3, [(0, .l (.d false (.int .i64))), (1, .l (.d false (.int .i64)))], some (0, [(0, .l (.d false (.int .i64)))]), none, false⟩], [], [], [], []⟩
theorem k_s_l2Gcd (x : PMs.den e_s_l2Gcd.ps) : funK c_s_l2Gcd Tryz.f98 e_s_l2Gcd.ps e_s_l2Gcd.rs x = e_s_l2Gcd.F x := by kernel_rfl
theorem o_s_l2Gcd {D : Prop} : FnOk Tryz.prog e_s_l2Gcd.f ∧ Ctr D Tryz.prog e_s_l2Gcd := mkCtr (C := c_s_l2Gcd) m_ (⟨o_s_l1Abs, trivial⟩) Tryz.func98 (by kernel_rfl) k_s_l2Gcd
/-! loop.example/g00959/spec.l2All -/
noncomputable def s_l2All_s3 (x0 : List Int) (v1 : Int × Int) : Option ((Int × Int) ⊕ (Int)) :=
 cond (decide (v1.2 < (x0.length : Int)))
 ((idx x0 v1.2).bind fun v2 => (s_l2Gcd v1.1 v2).bind fun v3 => some (.inl (v3, (IntKind.i64.wrap (v1.2 + (1 : Int))))))
 (some (.inr v1.1))
noncomputable def s_l2All (x0 : List Int) : Option (Int) :=
(iter (s_l2All_s3 x0) ((0 : Int), (0 : Int))).bind fun v4 => some v4
noncomputable def e_s_l2All : CallE := ⟨72, [.d false (.list (.int .i64))], [.l (.d false (.int .i64))], fun x => s_l2All x⟩
noncomputable def c_s_l2All : Ctx := ⟨Tryz.prog, TT, [e_s_l2Gcd], [⟨3, [(3, .l (.d false (.int .i64))), (4, .l (.d false (.int .i64)))], some (0, [(3, .l (.d false (.int .i64)))]), none, false⟩], [], [], [], []⟩
theorem k_s_l2All (x : PMs.den e_s_l2All.ps) : funK c_s_l2All Tryz.f72 e_s_l2All.ps e_s_l2All.rs x = e_s_l2All.F x := by kernel_rfl
theorem o_s_l2All {D : Prop} : FnOk Tryz.prog e_s_l2All.f ∧ Ctr D Tryz.prog e_s_l2All := mkCtr (C := c_s_l2All) m_ (⟨o_s_l2Gcd, trivial⟩) Tryz.func72 (by kernel_rfl) k_s_l2All
/-! loop.example/g00959/spec.l7Side -/
noncomputable def s_l7Side (x0 : List (List Int)) (x1 : Int) : Option (Int) :=
(remI .i64 (IntKind.i64.wrap (x1 + (1 : Int))) (x0.length : Int)).bind fun v1 => (idx x0 v1).bind fun v2 => (idx x0 x1).bind fun v3 => (s_l2Less v2 v3).bind fun v4 => (s_l2All v4).bind fun v5 => some v5
noncomputable def e_s_l7Side : CallE := ⟨39, [.d false (.list (.list (.int .i64))), .d false (.int .i64)], [.l (.d false (.int .i64))], fun x => s_l7Side x.1 x.2⟩
noncomputable def c_s_l7Side : Ctx := ⟨Tryz.prog, TT, [e_s_l2Less, e_s_l2All], [], [], [], [], []⟩
theorem k_s_l7Side (x : PMs.den e_s_l7Side.ps) : funK c_s_l7Side Tryz.f39 e_s_l7Side.ps e_s_l7Side.rs x = e_s_l7Side.F x := by kernel_rfl
theorem o_s_l7Side {D : Prop} : FnOk Tryz.prog e_s_l7Side.f ∧ Ctr D Tryz.prog e_s_l7Side := mkCtr (C := c_s_l7Side) m_ (⟨o_s_l2Less, o_s_l2All, trivial⟩) Tryz.func39 (by kernel_rfl) k_s_l7Side
/-! loop.example/g00959/spec.BoundaryCount -/
noncomputable def s_BoundaryCount_s5 (x0 : List (List Int)) (v2 : Int × Int) : Option ((Int × Int) ⊕ (Int)) :=
 cond (decide (v2.2 < (x0.length : Int)))
 ((s_l7Side x0 v2.2).bind fun v3 => some (.inl ((IntKind.i64.wrap (v2.1 + v3)), (IntKind.i64.wrap (v2.2 + (1 : Int))))))
 (some (.inr v2.1))
noncomputable def s_BoundaryCount (x0 : List (List Int)) : Option (Int) :=
(s_IsPolygon x0).bind fun v1 => cond (!v1)
 (some (-1 : Int))
 ((iter (s_BoundaryCount_s5 x0) ((0 : Int), (0 : Int))).bind fun v4 => some v4)
noncomputable def e_s_BoundaryCount : CallE := ⟨20, [.d false (.list (.list (.int .i64)))], [.l (.d false (.int .i64))], fun x => s_BoundaryCount x⟩
noncomputable def c_s_BoundaryCount : Ctx := ⟨Tryz.prog, TT, [e_s_IsPolygon, e_s_l7Side], [⟨5, [(3, .l (.d false (.int .i64))), (4, .l (.d false (.int .i64)))], some (0, [(3, .l (.d false (.int .i64)))]), none, false⟩], [], [], [], []⟩
theorem k_s_BoundaryCount (x : PMs.den e_s_BoundaryCount.ps) : funK c_s_BoundaryCount Tryz.f20 e_s_BoundaryCount.ps e_s_BoundaryCount.rs x = e_s_BoundaryCount.F x := by kernel_rfl
theorem o_s_BoundaryCount {D : Prop} : FnOk Tryz.prog e_s_BoundaryCount.f ∧ Ctr D Tryz.prog e_s_BoundaryCount := mkCtr (C := c_s_BoundaryCount) m_ (⟨o_s_IsPolygon, o_s_l7Side, trivial⟩) Tryz.func20 (by kernel_rfl) k_s_BoundaryCount
/-! loop.example/g00959/spec.InnerCount -/
noncomputable def s_InnerCount (x0 : List (List Int)) : Option (Int) :=
(s_IsPolygon x0).bind fun v1 => cond (!v1)
 (some (-1 : Int))
 ((s_l7Area x0).bind fun v2 => (s_BoundaryCount x0).bind fun v3 => (quoI .i64 (IntKind.i64.wrap ((IntKind.i64.wrap (v2 - v3)) + (2 : Int))) (2 : Int)).bind fun v4 => some v4)
noncomputable def e_s_InnerCount : CallE := ⟨42, [.d false (.list (.list (.int .i64)))], [.l (.d false (.int .i64))], fun x => s_InnerCount x⟩
noncomputable def c_s_InnerCount : Ctx := ⟨Tryz.prog, TT, [e_s_IsPolygon, e_s_l7Area, e_s_BoundaryCount], [], [], [], [], []⟩
theorem k_s_InnerCount (x : PMs.den e_s_InnerCount.ps) : funK c_s_InnerCount Tryz.f42 e_s_InnerCount.ps e_s_InnerCount.rs x = e_s_InnerCount.F x := by kernel_rfl
theorem o_s_InnerCount {D : Prop} : FnOk Tryz.prog e_s_InnerCount.f ∧ Ctr D Tryz.prog e_s_InnerCount := mkCtr (C := c_s_InnerCount) m_ (⟨o_s_IsPolygon, o_s_l7Area, o_s_BoundaryCount, trivial⟩) Tryz.func42 (by kernel_rfl) k_s_InnerCount
/-! loop.example/g00959/spec.l7Place -/
noncomputable def s_l7Place_s3 (x0 : List (List Int)) (x1 : List Int) (v1 : Int × Int) : Option ((Int × Int) ⊕ ((Int) ⊕ (Int))) :=
 cond (decide (v1.2 < (x0.length : Int)))
 ((idx x0 v1.2).bind fun v2 => (remI .i64 (IntKind.i64.wrap (v1.2 + (1 : Int))) (x0.length : Int)).bind fun v3 => (idx x0 v3).bind fun v4 => (s_l7Turn v2 v4 x1).bind fun v5 => cond (decide (v5 < (0 : Int)))
 (some (.inr (.inr (-1 : Int))))
 (cond (v5 == (0 : Int))
 (some (.inl ((0 : Int), (IntKind.i64.wrap (v1.2 + (1 : Int))))))
 (some (.inl (v1.1, (IntKind.i64.wrap (v1.2 + (1 : Int))))))))
 (some (.inr (.inl v1.1)))
noncomputable def s_l7Place (x0 : List (List Int)) (x1 : List Int) : Option (Int) :=
(iter (s_l7Place_s3 x0 x1) ((1 : Int), (0 : Int))).bind fun v6 => match v6 with
 | .inl v7 => (some v7)
 | .inr v8 => (some v8)
noncomputable def e_s_l7Place : CallE := ⟨43, [.d false (.list (.list (.int .i64))), .d false (.list (.int .i64))], [.l (.d false (.int .i64))], fun x => s_l7Place x.1 x.2⟩
noncomputable def c_s_l7Place : Ctx := ⟨Tryz.prog, TT, [e_s_l7Turn], [⟨3, [(5, .l (.d false (.int .i64))), (6, .l (.d false (.int .i64)))], some (0, [(5, .l (.d false (.int .i64)))]), some [(4, .l (.d false (.int .i64)))], false⟩], [], [], [], []⟩
theorem k_s_l7Place (x : PMs.den e_s_l7Place.ps) : funK c_s_l7Place Tryz.f43 e_s_l7Place.ps e_s_l7Place.rs x = e_s_l7Place.F x := by kernel_rfl
theorem o_s_l7Place {D : Prop} : FnOk Tryz.prog e_s_l7Place.f ∧ Ctr D Tryz.prog e_s_l7Place := mkCtr (C := c_s_l7Place) m_ (⟨o_s_l7Turn, trivial⟩) Tryz.func43 (by kernel_rfl) k_s_l7Place
/-! loop.example/g00959/spec.IsReflexive -/
noncomputable def s_IsReflexive (x0 : List (List Int)) : Option (Bool) :=
(s_IsPolygon x0).bind fun v1 => cond v1
 ((s_InnerCount x0).bind fun v2 => cond (v2 == (1 : Int))
 ((s_l7Place x0 ([(0 : Int), (0 : Int)] : List Int)).bind fun v3 => some (v3 == (1 : Int)))
 (some false))
 (some false)
noncomputable def e_s_IsReflexive : CallE := ⟨18, [.d false (.list (.list (.int .i64)))], [.l (.d false .bool)], fun x => s_IsReflexive x⟩
noncomputable def c_s_IsReflexive : Ctx := ⟨Tryz.prog, TT, [e_s_IsPolygon, e_s_InnerCount, e_s_l7Place], [], [], [], [], []⟩
theorem k_s_IsReflexive (x : PMs.den e_s_IsReflexive.ps) : funK c_s_IsReflexive Tryz.f18 e_s_IsReflexive.ps e_s_IsReflexive.rs x = e_s_IsReflexive.F x := by kernel_rfl
theorem o_s_IsReflexive {D : Prop} : FnOk Tryz.prog e_s_IsReflexive.f ∧ Ctr D Tryz.prog e_s_IsReflexive := mkCtr (C := c_s_IsReflexive) m_ (⟨o_s_IsPolygon, o_s_InnerCount, o_s_l7Place, trivial⟩) Tryz.func18 (by kernel_rfl) k_s_IsReflexive
/-! loop.example/g00959/spec.l18Dual -/
noncomputable def s_l18Dual (x0 : List Int) (x1 : List Int) : Option (List Int) :=
(s_l7Cross x0 x1).bind fun v1 => (idx x1 (1 : Int)).bind fun v2 => (idx x0 (1 : Int)).bind fun v3 => (quoI .i64 (IntKind.i64.wrap (v2 - v3)) v1).bind fun v4 => (idx x0 (0 : Int)).bind fun v5 => (idx x1 (0 : Int)).bind fun v6 => (quoI .i64 (IntKind.i64.wrap (v5 - v6)) v1).bind fun v7 => some ([v4, v7] : List Int)
noncomputable def e_s_l18Dual : CallE := ⟨27, [.d false (.list (.int .i64)), .d false (.list (.int .i64))], [.l (.o true 3 (.int .i64))], fun x => s_l18Dual x.1 x.2⟩
noncomputable def c_s_l18Dual : Ctx := ⟨Tryz.prog, TT, [e_s_l7Cross], [], [], [], [], []⟩
theorem k_s_l18Dual (x : PMs.den e_s_l18Dual.ps) : funK c_s_l18Dual Tryz.f27 e_s_l18Dual.ps e_s_l18Dual.rs x = e_s_l18Dual.F x := by kernel_rfl
theorem o_s_l18Dual {D : Prop} : FnOk Tryz.prog e_s_l18Dual.f ∧ Ctr D Tryz.prog e_s_l18Dual := mkCtr (C := c_s_l18Dual) m_ (⟨o_s_l7Cross, trivial⟩) Tryz.func27 (by kernel_rfl) k_s_l18Dual
/-! loop.example/g00959/spec.DualPolygon -/
noncomputable def s_DualPolygon_s5 (x0 : List (List Int)) (v2 : List (List Int) × Int) : Option ((List (List Int) × Int) ⊕ (List (List Int))) :=
 cond (decide (v2.2 < (x0.length : Int)))
 ((idx x0 v2.2).bind fun v3 => (remI .i64 (IntKind.i64.wrap (v2.2 + (1 : Int))) (x0.length : Int)).bind fun v4 => (idx x0 v4).bind fun v5 => (s_l18Dual v3 v5).bind fun v6 => (appD 24 v2.1 ([v6] : List (List Int))).bind fun v7 => some (.inl (v7, (IntKind.i64.wrap (v2.2 + (1 : Int))))))
 (some (.inr v2.1))
noncomputable def s_DualPolygon (x0 : List (List Int)) : Option (List (List Int) × Bool) :=
(s_IsReflexive x0).bind fun v1 => cond (!v1)
 (some (([] : List (List Int)), false))
 ((iter (s_DualPolygon_s5 x0) (([] : List (List Int)), (0 : Int))).bind fun v8 => (s_HullOf v8).bind fun v9 => cond (!v9.2)
 (some (([] : List (List Int)), false))
 (some (v9.1, true)))
noncomputable def e_s_DualPolygon : CallE := ⟨7, [.d false (.list (.list (.int .i64)))], [.l (.o true 29 (.list (.int .i64))), .l (.d false .bool)], fun x => s_DualPolygon x⟩
noncomputable def c_s_DualPolygon : Ctx := ⟨Tryz.prog, TT, [e_s_IsReflexive, e_s_l18Dual, e_s_HullOf], [⟨5, [(4, .l (.o true 29 (.list (.int .i64)))), (5, .l (.d false (.int .i64)))], some (0, [(4, .l (.o true 29 (.list (.int .i64))))]), none, false⟩], [], [], [], []⟩
theorem k_s_DualPolygon (x : PMs.den e_s_DualPolygon.ps) : funK c_s_DualPolygon Tryz.f7 e_s_DualPolygon.ps e_s_DualPolygon.rs x = e_s_DualPolygon.F x := by kernel_rfl
theorem o_s_DualPolygon {D : Prop} : FnOk Tryz.prog e_s_DualPolygon.f ∧ Ctr D Tryz.prog e_s_DualPolygon := mkCtr (C := c_s_DualPolygon) m_ (⟨o_s_IsReflexive, o_s_l18Dual, o_s_HullOf, trivial⟩) Tryz.func7 (by kernel_rfl) k_s_DualPolygon
/-! loop.example/g00959/impl.TwelveOf -/
noncomputable def i_TwelveOf (x0 : List (List Int)) : Option (Int) :=
(i_DualPolygon x0).bind fun v1 => cond (!v1.2)
 (some (-1 : Int))
 ((i_BoundaryCount x0).bind fun v2 => (i_BoundaryCount v1.1).bind fun v3 => some (IntKind.i64.wrap (v2 + v3)))
noncomputable def e_i_TwelveOf : CallE := ⟨8, [.d false (.list (.list (.int .i64)))], [.l (.d false (.int .i64))], fun x => i_TwelveOf x⟩
noncomputable def c_i_TwelveOf : Ctx := ⟨Tryz.prog, TT, [e_i_DualPolygon, e_i_BoundaryCount], [], [], [], [], []⟩
theorem k_i_TwelveOf (x : PMs.den e_i_TwelveOf.ps) : funK c_i_TwelveOf Tryz.f8 e_i_TwelveOf.ps e_i_TwelveOf.rs x = e_i_TwelveOf.F x := by kernel_rfl
theorem o_i_TwelveOf {D : Prop} : FnOk Tryz.prog e_i_TwelveOf.f ∧ Ctr D Tryz.prog e_i_TwelveOf := mkCtr (C := c_i_TwelveOf) m_ (⟨o_i_DualPolygon, o_i_BoundaryCount, trivial⟩) Tryz.func8 (by kernel_rfl) k_i_TwelveOf
/-! loop.example/g00959/spec.DrawSmoothCorners -/
noncomputable def s_DrawSmoothCorners_s23_3 (x0 : List Int) (v1 : Int × Int) : Option ((Int × Int) ⊕ (Int)) :=
 cond (decide (v1.2 < (x0.length : Int)))
 (cond (decide (v1.2 < (4000 : Int)))
 ((idx x0 v1.2).bind fun v2 => some (.inl ((andI .i64 (IntKind.i64.wrap ((IntKind.i64.wrap ((IntKind.i64.wrap (v1.1 * (131 : Int))) + (IntKind.i64.wrap v2))) + (7 : Int))) (1073741823 : Int)), (IntKind.i64.wrap (v1.2 + (1 : Int))))))
 (some (.inr v1.1)))
 (some (.inr v1.1))
noncomputable def s_DrawSmoothCorners (x0 : List Int) : Option (List (List Int)) :=
(iter (s_DrawSmoothCorners_s23_3 x0) ((IntKind.i64.wrap ((26583 : Int) + (x0.length : Int))), (0 : Int))).bind fun v3 => (s_l18Draw (x0, ((0 : Int), v3))).bind fun v4 => some v4.1
noncomputable def e_s_DrawSmoothCorners : CallE := ⟨9, [.d false (.list (.int .u8))], [.l (.o false 29 (.list (.int .i64)))], fun x => s_DrawSmoothCorners x⟩
noncomputable def c_s_DrawSmoothCorners_23 : Ctx := ⟨Tryz.prog, TT, [], [⟨3, [(3, .l (.d false (.int .i64))), (4, .l (.d false (.int .i64)))], some (0, [(3, .l (.d false (.int .i64)))]), none, true⟩], [], [], [], []⟩
noncomputable def n_s_DrawSmoothCorners_23 : InE := ⟨23, false, inlK c_s_DrawSmoothCorners_23 Tryz.f23⟩
theorem q_s_DrawSmoothCorners_23 {D : Prop} : FnOk Tryz.prog n_s_DrawSmoothCorners_23.f ∧ InOk D Tryz.prog n_s_DrawSmoothCorners_23 := mkInl (C := c_s_DrawSmoothCorners_23) m_ (trivial) Tryz.func23 (by kernel_rfl)
noncomputable def c_s_DrawSmoothCorners : Ctx := ⟨Tryz.prog, TT, [e_s_l18Draw], [], [], [n_s_DrawSmoothCorners_23], [], []⟩
theorem k_s_DrawSmoothCorners (x : PMs.den e_s_DrawSmoothCorners.ps) : funK c_s_DrawSmoothCorners Tryz.f9 e_s_DrawSmoothCorners.ps e_s_DrawSmoothCorners.rs x = e_s_DrawSmoothCorners.F x := by kernel_rfl
theorem o_s_DrawSmoothCorners {D : Prop} : FnOk Tryz.prog e_s_DrawSmoothCorners.f ∧ Ctr D Tryz.prog e_s_DrawSmoothCorners := mkCtr (C := c_s_DrawSmoothCorners) m_ (⟨o_s_l18Draw, trivial⟩) Tryz.func9 (by kernel_rfl) k_s_DrawSmoothCorners ⟨q_s_DrawSmoothCorners_23, trivial⟩
/-! loop.example/g00959/impl.SideNumbers -/
noncomputable def i_SideNumbers_s5 (x0 : List (List Int)) (v2 : List Int × Int) : Option ((List Int × Int) ⊕ (List Int)) :=
 cond (decide (v2.2 < (x0.length : Int)))
 ((idx x0 v2.2).bind fun v3 => (remI .i64 (IntKind.i64.wrap (v2.2 + (1 : Int))) (x0.length : Int)).bind fun v4 => (idx x0 v4).bind fun v5 => (i_minus v5 v3).bind fun v6 => (i_gcdAll v6).bind fun v7 => (appD 8 v2.1 ([v7] : List Int)).bind fun v8 => some (.inl (v8, (IntKind.i64.wrap (v2.2 + (1 : Int))))))
 (some (.inr v2.1))
noncomputable def i_SideNumbers (x0 : List (List Int)) : Option (List Int) :=
(i_IsPolygon x0).bind fun v1 => cond (!v1)
 (some ([] : List Int))
 ((iter (i_SideNumbers_s5 x0) (([] : List Int), (0 : Int))).bind fun v9 => some v9)
noncomputable def e_i_SideNumbers : CallE := ⟨10, [.d false (.list (.list (.int .i64)))], [.l (.o true 3 (.int .i64))], fun x => i_SideNumbers x⟩
noncomputable def c_i_SideNumbers : Ctx := ⟨Tryz.prog, TT, [e_i_IsPolygon, e_i_minus, e_i_gcdAll], [⟨5, [(3, .l (.o true 3 (.int .i64))), (11, .l (.d false (.int .i64)))], some (0, [(3, .l (.o true 3 (.int .i64)))]), none, false⟩], [], [], [], []⟩
theorem k_i_SideNumbers (x : PMs.den e_i_SideNumbers.ps) : funK c_i_SideNumbers Tryz.f10 e_i_SideNumbers.ps e_i_SideNumbers.rs x = e_i_SideNumbers.F x := by kernel_rfl
theorem o_i_SideNumbers {D : Prop} : FnOk Tryz.prog e_i_SideNumbers.f ∧ Ctr D Tryz.prog e_i_SideNumbers := mkCtr (C := c_i_SideNumbers) m_ (⟨o_i_IsPolygon, o_i_minus, o_i_gcdAll, trivial⟩) Tryz.func10 (by kernel_rfl) k_i_SideNumbers
/-! loop.example/g00959/laws.sameInts -/
noncomputable def w_sameInts_s4 (x0 : List Int) (x1 : List Int) (v1 : Int) : Option ((Int) ⊕ ((Unit) ⊕ (Bool))) :=
 cond (decide (v1 < (x0.length : Int)))
 ((idx x0 v1).bind fun v2 => (idx x1 v1).bind fun v3 => cond (v2 != v3)
 (some (.inr (.inr false)))
 (some (.inl (IntKind.i64.wrap (v1 + (1 : Int))))))
 (some (.inr (.inl ())))
noncomputable def w_sameInts (x0 : List Int) (x1 : List Int) : Option (Bool) :=
 cond ((x0.length : Int) != (x1.length : Int))
 (some false)
 ((iter (w_sameInts_s4 x0 x1) (0 : Int)).bind fun v4 => match v4 with
 | .inl v5 => (some true)
 | .inr v6 => (some v6))
noncomputable def e_w_sameInts : CallE := ⟨15, [.d false (.list (.int .i64)), .d false (.list (.int .i64))], [.l (.d false .bool)], fun x => w_sameInts x.1 x.2⟩
noncomputable def c_w_sameInts : Ctx := ⟨Tryz.prog, TT, [], [⟨4, [(5, .l (.d false (.int .i64)))], some (0, []), some [(4, .l (.d false .bool))], false⟩], [], [], [], []⟩
theorem k_w_sameInts (x : PMs.den e_w_sameInts.ps) : funK c_w_sameInts Tryz.f15 e_w_sameInts.ps e_w_sameInts.rs x = e_w_sameInts.F x := by kernel_rfl
theorem o_w_sameInts {D : Prop} : FnOk Tryz.prog e_w_sameInts.f ∧ Ctr D Tryz.prog e_w_sameInts := mkCtr (C := c_w_sameInts) m_ (trivial) Tryz.func15 (by kernel_rfl) k_w_sameInts
/-! loop.example/g00959/laws.sameLists -/
noncomputable def w_sameLists_s4 (x0 : List (List Int)) (x1 : List (List Int)) (v1 : Int) : Option ((Int) ⊕ ((Unit) ⊕ (Bool))) :=
 cond (decide (v1 < (x0.length : Int)))
 ((idx x0 v1).bind fun v2 => (idx x1 v1).bind fun v3 => (w_sameInts v2 v3).bind fun v4 => cond (!v4)
 (some (.inr (.inr false)))
 (some (.inl (IntKind.i64.wrap (v1 + (1 : Int))))))
 (some (.inr (.inl ())))
noncomputable def w_sameLists (x0 : List (List Int)) (x1 : List (List Int)) : Option (Bool) :=
 cond ((x0.length : Int) != (x1.length : Int))
 (some false)
 ((iter (w_sameLists_s4 x0 x1) (0 : Int)).bind fun v5 => match v5 with
 | .inl v6 => (some true)
 | .inr v7 => (some v7))
noncomputable def e_w_sameLists : CallE := ⟨11, [.d false (.list (.list (.int .i64))), .d false (.list (.list (.int .i64)))], [.l (.d false .bool)], fun x => w_sameLists x.1 x.2⟩
noncomputable def c_w_sameLists : Ctx := ⟨Tryz.prog, TT, [e_w_sameInts], [⟨4, [(5, .l (.d false (.int .i64)))], some (0, []), some [(4, .l (.d false .bool))], false⟩], [], [], [], []⟩
theorem k_w_sameLists (x : PMs.den e_w_sameLists.ps) : funK c_w_sameLists Tryz.f11 e_w_sameLists.ps e_w_sameLists.rs x = e_w_sameLists.F x := by kernel_rfl
theorem o_w_sameLists {D : Prop} : FnOk Tryz.prog e_w_sameLists.f ∧ Ctr D Tryz.prog e_w_sameLists := mkCtr (C := c_w_sameLists) m_ (⟨o_w_sameInts, trivial⟩) Tryz.func11 (by kernel_rfl) k_w_sameLists
/-! loop.example/g00959/spec.TwelveOf -/
noncomputable def s_TwelveOf (x0 : List (List Int)) : Option (Int) :=
(s_DualPolygon x0).bind fun v1 => cond (!v1.2)
 (some (-1 : Int))
 ((s_BoundaryCount x0).bind fun v2 => (s_BoundaryCount v1.1).bind fun v3 => some (IntKind.i64.wrap (v2 + v3)))
noncomputable def e_s_TwelveOf : CallE := ⟨12, [.d false (.list (.list (.int .i64)))], [.l (.d false (.int .i64))], fun x => s_TwelveOf x⟩
noncomputable def c_s_TwelveOf : Ctx := ⟨Tryz.prog, TT, [e_s_DualPolygon, e_s_BoundaryCount], [], [], [], [], []⟩
theorem k_s_TwelveOf (x : PMs.den e_s_TwelveOf.ps) : funK c_s_TwelveOf Tryz.f12 e_s_TwelveOf.ps e_s_TwelveOf.rs x = e_s_TwelveOf.F x := by kernel_rfl
theorem o_s_TwelveOf {D : Prop} : FnOk Tryz.prog e_s_TwelveOf.f ∧ Ctr D Tryz.prog e_s_TwelveOf := mkCtr (C := c_s_TwelveOf) m_ (⟨o_s_DualPolygon, o_s_BoundaryCount, trivial⟩) Tryz.func12 (by kernel_rfl) k_s_TwelveOf
/-! loop.example/g00959/impl.GcdOf -/
noncomputable def i_GcdOf (x0 : List Int) : Option (Int) :=
(i_IsVector x0).bind fun v1 => cond (!v1)
 (some (-1 : Int))
 ((i_gcdAll x0).bind fun v2 => some v2)
noncomputable def e_i_GcdOf : CallE := ⟨95, [.d false (.list (.int .i64))], [.l (.d false (.int .i64))], fun x => i_GcdOf x⟩
noncomputable def c_i_GcdOf : Ctx := ⟨Tryz.prog, TT, [e_i_IsVector, e_i_gcdAll], [], [], [], [], []⟩
theorem k_i_GcdOf (x : PMs.den e_i_GcdOf.ps) : funK c_i_GcdOf Tryz.f95 e_i_GcdOf.ps e_i_GcdOf.rs x = e_i_GcdOf.F x := by kernel_rfl
theorem o_i_GcdOf {D : Prop} : FnOk Tryz.prog e_i_GcdOf.f ∧ Ctr D Tryz.prog e_i_GcdOf := mkCtr (C := c_i_GcdOf) m_ (⟨o_i_IsVector, o_i_gcdAll, trivial⟩) Tryz.func95 (by kernel_rfl) k_i_GcdOf
/-! loop.example/g00959/impl.PrimitiveOf -/
noncomputable def i_PrimitiveOf_s6 (v1 : Int) (v2 : List Int) (v3 : List Int × Int) : Option ((List Int × Int) ⊕ (List Int)) :=
 cond (decide (v3.2 < (v2.length : Int)))
 ((inIdx v3.1.length v3.2).bind fun _ => (idx v3.1 ((v3.2).toNat : Int)).bind fun v4 => (quoI .i64 v4 v1).bind fun v5 => (inIdx v3.1.length v3.2).bind fun _ => (inIdx v3.1.length ((v3.2).toNat : Int)).bind fun _ => some (.inl ((v3.1.set ((v3.2).toNat) v5), (IntKind.i64.wrap (v3.2 + (1 : Int))))))
 (some (.inr v3.1))
noncomputable def i_PrimitiveOf (x0 : List Int) : Option (List Int × Bool) :=
(i_GcdOf x0).bind fun v1 => cond (decide (v1 ≤ (0 : Int)))
 (some (([] : List Int), false))
 ((i_copyInts x0).bind fun v2 => (iter (i_PrimitiveOf_s6 v1 v2) (v2, (0 : Int))).bind fun v6 => some (v6, true))
noncomputable def e_i_PrimitiveOf : CallE := ⟨64, [.d false (.list (.int .i64))], [.l (.o true 3 (.int .i64)), .l (.d false .bool)], fun x => i_PrimitiveOf x⟩
noncomputable def c_i_PrimitiveOf : Ctx := ⟨Tryz.prog, TT, [e_i_GcdOf, e_i_copyInts], [⟨6, [(5, .l (.o true 3 (.int .i64))), (15, .l (.d false (.int .i64)))], some (0, [(5, .l (.o true 3 (.int .i64)))]), none, false⟩], [], [], [], []⟩
theorem k_i_PrimitiveOf (x : PMs.den e_i_PrimitiveOf.ps) : funK c_i_PrimitiveOf Tryz.f64 e_i_PrimitiveOf.ps e_i_PrimitiveOf.rs x = e_i_PrimitiveOf.F x := by kernel_rfl
theorem o_i_PrimitiveOf {D : Prop} : FnOk Tryz.prog e_i_PrimitiveOf.f ∧ Ctr D Tryz.prog e_i_PrimitiveOf := mkCtr (C := c_i_PrimitiveOf) m_ (⟨o_i_GcdOf, o_i_copyInts, trivial⟩) Tryz.func64 (by kernel_rfl) k_i_PrimitiveOf
/-! loop.example/g00959/impl.IsCone -/
noncomputable def i_IsCone (x0 : (List Int) × (List Int)) : Option (Bool) :=
(i_isPoint x0.1 (30 : Int)).bind fun v1 => cond v1
 ((i_isPoint x0.2 (30 : Int)).bind fun v2 => cond v2
 ((i_gcdAll x0.1).bind fun v3 => cond (v3 == (1 : Int))
 ((i_gcdAll x0.2).bind fun v4 => cond (v4 == (1 : Int))
 ((i_cross x0.1 x0.2).bind fun v5 => some (decide (v5 > (0 : Int))))
 (some false))
 (some false))
 (some false))
 (some false)
noncomputable def e_i_IsCone : CallE := ⟨65, [.d false (.prod (.list (.int .i64)) (.list (.int .i64)))], [.l (.d false .bool)], fun x => i_IsCone x⟩
noncomputable def c_i_IsCone : Ctx := ⟨Tryz.prog, TT, [e_i_isPoint, e_i_gcdAll, e_i_cross], [], [], [], [], []⟩
theorem k_i_IsCone (x : PMs.den e_i_IsCone.ps) : funK c_i_IsCone Tryz.f65 e_i_IsCone.ps e_i_IsCone.rs x = e_i_IsCone.F x := by kernel_rfl
theorem o_i_IsCone {D : Prop} : FnOk Tryz.prog e_i_IsCone.f ∧ Ctr D Tryz.prog e_i_IsCone := mkCtr (C := c_i_IsCone) m_ (⟨o_i_isPoint, o_i_gcdAll, o_i_cross, trivial⟩) Tryz.func65 (by kernel_rfl) k_i_IsCone
/-! loop.example/g00959/impl.CornerCone -/
noncomputable def i_CornerCone (x0 : List (List Int)) (x1 : Int) : Option ((List Int × List Int) × Bool) :=
(i_IsPolygon x0).bind fun v1 => cond (!v1)
 (some ((([] : List Int), ([] : List Int)), false))
 ((i_within x1 (0 : Int) (IntKind.i64.wrap ((x0.length : Int) - (1 : Int)))).bind fun v2 => cond (!v2)
 (some ((([] : List Int), ([] : List Int)), false))
 ((remI .i64 (IntKind.i64.wrap (x1 + (1 : Int))) (x0.length : Int)).bind fun v3 => (idx x0 v3).bind fun v4 => (idx x0 x1).bind fun v5 => (i_minus v4 v5).bind fun v6 => (i_PrimitiveOf v6).bind fun v7 => (remI .i64 (IntKind.i64.wrap ((IntKind.i64.wrap (x1 + (x0.length : Int))) - (1 : Int))) (x0.length : Int)).bind fun v8 => (idx x0 v8).bind fun v9 => (idx x0 x1).bind fun v10 => (i_minus v9 v10).bind fun v11 => (i_PrimitiveOf v11).bind fun v12 => (i_IsCone (v7.1, v12.1)).bind fun v13 => cond (!v13)
 (some ((([] : List Int), ([] : List Int)), false))
 (some ((v7.1, v12.1), true))))
noncomputable def e_i_CornerCone : CallE := ⟨33, [.d false (.list (.list (.int .i64))), .d false (.int .i64)], [.a [(.o true 3 (.int .i64)), (.o true 3 (.int .i64))], .l (.d false .bool)], fun x => i_CornerCone x.1 x.2⟩
noncomputable def c_i_CornerCone : Ctx := ⟨Tryz.prog, TT, [e_i_IsPolygon, e_i_within, e_i_minus, e_i_PrimitiveOf, e_i_IsCone], [], [], [], [], []⟩
theorem k_i_CornerCone (x : PMs.den e_i_CornerCone.ps) : funK c_i_CornerCone Tryz.f33 e_i_CornerCone.ps e_i_CornerCone.rs x = e_i_CornerCone.F x := by kernel_rfl
theorem o_i_CornerCone {D : Prop} : FnOk Tryz.prog e_i_CornerCone.f ∧ Ctr D Tryz.prog e_i_CornerCone := mkCtr (C := c_i_CornerCone) m_ (⟨o_i_IsPolygon, o_i_within, o_i_minus, o_i_PrimitiveOf, o_i_IsCone, trivial⟩) Tryz.func33 (by kernel_rfl) k_i_CornerCone
/-! loop.example/g00959/impl.ConeIndex -/
noncomputable def i_ConeIndex (x0 : (List Int) × (List Int)) : Option (Int) :=
(i_IsCone (x0.1, x0.2)).bind fun v1 => cond (!v1)
 (some (0 : Int))
 ((i_cross x0.1 x0.2).bind fun v2 => some v2)
noncomputable def e_i_ConeIndex : CallE := ⟨34, [.d false (.prod (.list (.int .i64)) (.list (.int .i64)))], [.l (.d false (.int .i64))], fun x => i_ConeIndex x⟩
noncomputable def c_i_ConeIndex : Ctx := ⟨Tryz.prog, TT, [e_i_IsCone, e_i_cross], [], [], [], [], []⟩
theorem k_i_ConeIndex (x : PMs.den e_i_ConeIndex.ps) : funK c_i_ConeIndex Tryz.f34 e_i_ConeIndex.ps e_i_ConeIndex.rs x = e_i_ConeIndex.F x := by kernel_rfl
theorem o_i_ConeIndex {D : Prop} : FnOk Tryz.prog e_i_ConeIndex.f ∧ Ctr D Tryz.prog e_i_ConeIndex := mkCtr (C := c_i_ConeIndex) m_ (⟨o_i_IsCone, o_i_cross, trivial⟩) Tryz.func34 (by kernel_rfl) k_i_ConeIndex
/-! loop.example/g00959/impl.SmoothCorners -/
noncomputable def i_SmoothCorners_s5 (x0 : List (List Int)) (v2 : Int × Int) : Option ((Int × Int) ⊕ ((Int) ⊕ (Int))) :=
 cond (decide (v2.2 < (x0.length : Int)))
 ((i_CornerCone x0 v2.2).bind fun v3 => cond (!v3.2)
 (some (.inr (.inr (-1 : Int))))
 ((i_ConeIndex (v3.1.1, v3.1.2)).bind fun v4 => cond (v4 == (1 : Int))
 (some (.inl ((IntKind.i64.wrap (v2.1 + (1 : Int))), (IntKind.i64.wrap (v2.2 + (1 : Int))))))
 (some (.inl (v2.1, (IntKind.i64.wrap (v2.2 + (1 : Int))))))))
 (some (.inr (.inl v2.1)))
noncomputable def i_SmoothCorners (x0 : List (List Int)) : Option (Int) :=
(i_IsPolygon x0).bind fun v1 => cond (!v1)
 (some (-1 : Int))
 ((iter (i_SmoothCorners_s5 x0) ((0 : Int), (0 : Int))).bind fun v5 => match v5 with
 | .inl v6 => (some v6)
 | .inr v7 => (some v7))
noncomputable def e_i_SmoothCorners : CallE := ⟨13, [.d false (.list (.list (.int .i64)))], [.l (.d false (.int .i64))], fun x => i_SmoothCorners x⟩
noncomputable def c_i_SmoothCorners : Ctx := ⟨Tryz.prog, TT, [e_i_IsPolygon, e_i_CornerCone, e_i_ConeIndex], [⟨5, [(3, .l (.d false (.int .i64))), (12, .l (.d false (.int .i64)))], some (0, [(3, .l (.d false (.int .i64)))]), some [(2, .l (.d false (.int .i64)))], false⟩], [], [], [], []⟩
theorem k_i_SmoothCorners (x : PMs.den e_i_SmoothCorners.ps) : funK c_i_SmoothCorners Tryz.f13 e_i_SmoothCorners.ps e_i_SmoothCorners.rs x = e_i_SmoothCorners.F x := by kernel_rfl
theorem o_i_SmoothCorners {D : Prop} : FnOk Tryz.prog e_i_SmoothCorners.f ∧ Ctr D Tryz.prog e_i_SmoothCorners := mkCtr (C := c_i_SmoothCorners) m_ (⟨o_i_IsPolygon, o_i_CornerCone, o_i_ConeIndex, trivial⟩) Tryz.func13 (by kernel_rfl) k_i_SmoothCorners
/-! loop.example/g00959/spec.l2Prime -/
noncomputable def s_l2Prime_s4 (x0 : List Int) (v1 : Int) (v2 : List Int × Int) : Option ((List Int × Int) ⊕ (List Int)) :=
 cond (decide (v2.2 < (x0.length : Int)))
 ((idx x0 v2.2).bind fun v3 => (s_l1Max v1 (1 : Int)).bind fun v4 => (quoI .i64 v3 v4).bind fun v5 => (appD 8 v2.1 ([v5] : List Int)).bind fun v6 => some (.inl (v6, (IntKind.i64.wrap (v2.2 + (1 : Int))))))
 (some (.inr v2.1))
noncomputable def s_l2Prime (x0 : List Int) : Option (List Int) :=
(s_l2All x0).bind fun v1 => (iter (s_l2Prime_s4 x0 v1) (([] : List Int), (0 : Int))).bind fun v7 => some v7
noncomputable def e_s_l2Prime : CallE := ⟨68, [.d false (.list (.int .i64))], [.l (.o true 3 (.int .i64))], fun x => s_l2Prime x⟩
noncomputable def c_s_l2Prime : Ctx := ⟨Tryz.prog, TT, [e_s_l2All, e_s_l1Max], [⟨4, [(4, .l (.o true 3 (.int .i64))), (5, .l (.d false (.int .i64)))], some (0, [(4, .l (.o true 3 (.int .i64)))]), none, false⟩], [], [], [], []⟩
theorem k_s_l2Prime (x : PMs.den e_s_l2Prime.ps) : funK c_s_l2Prime Tryz.f68 e_s_l2Prime.ps e_s_l2Prime.rs x = e_s_l2Prime.F x := by kernel_rfl
theorem o_s_l2Prime {D : Prop} : FnOk Tryz.prog e_s_l2Prime.f ∧ Ctr D Tryz.prog e_s_l2Prime := mkCtr (C := c_s_l2Prime) m_ (⟨o_s_l2All, o_s_l1Max, trivial⟩) Tryz.func68 (by kernel_rfl) k_s_l2Prime
/-! loop.example/g00959/spec.l9Ray -/
noncomputable def s_l9Ray (x0 : List Int) : Option (Bool) :=
 cond ((x0.length : Int) == (2 : Int))
 ((s_l2Small x0 (30 : Int)).bind fun v1 => cond v1
 ((s_l2All x0).bind fun v2 => some (v2 == (1 : Int)))
 (some false))
 (some false)
noncomputable def e_s_l9Ray : CallE := ⟨97, [.d false (.list (.int .i64))], [.l (.d false .bool)], fun x => s_l9Ray x⟩
noncomputable def c_s_l9Ray : Ctx := ⟨Tryz.prog, TT, [e_s_l2Small, e_s_l2All], [], [], [], [], []⟩
theorem k_s_l9Ray (x : PMs.den e_s_l9Ray.ps) : funK c_s_l9Ray Tryz.f97 e_s_l9Ray.ps e_s_l9Ray.rs x = e_s_l9Ray.F x := by kernel_rfl
theorem o_s_l9Ray {D : Prop} : FnOk Tryz.prog e_s_l9Ray.f ∧ Ctr D Tryz.prog e_s_l9Ray := mkCtr (C := c_s_l9Ray) m_ (⟨o_s_l2Small, o_s_l2All, trivial⟩) Tryz.func97 (by kernel_rfl) k_s_l9Ray
/-! loop.example/g00959/spec.IsCone -/
noncomputable def s_IsCone (x0 : (List Int) × (List Int)) : Option (Bool) :=
(s_l9Ray x0.1).bind fun v1 => cond v1
 ((s_l9Ray x0.2).bind fun v2 => cond v2
 ((s_l7Cross x0.1 x0.2).bind fun v3 => some (decide (v3 > (0 : Int))))
 (some false))
 (some false)
noncomputable def e_s_IsCone : CallE := ⟨70, [.d false (.prod (.list (.int .i64)) (.list (.int .i64)))], [.l (.d false .bool)], fun x => s_IsCone x⟩
noncomputable def c_s_IsCone : Ctx := ⟨Tryz.prog, TT, [e_s_l9Ray, e_s_l7Cross], [], [], [], [], []⟩
theorem k_s_IsCone (x : PMs.den e_s_IsCone.ps) : funK c_s_IsCone Tryz.f70 e_s_IsCone.ps e_s_IsCone.rs x = e_s_IsCone.F x := by kernel_rfl
theorem o_s_IsCone {D : Prop} : FnOk Tryz.prog e_s_IsCone.f ∧ Ctr D Tryz.prog e_s_IsCone := mkCtr (C := c_s_IsCone) m_ (⟨o_s_l9Ray, o_s_l7Cross, trivial⟩) Tryz.func70 (by kernel_rfl) k_s_IsCone
/-! loop.example/g00959/spec.CornerCone -/
noncomputable def s_CornerCone (x0 : List (List Int)) (x1 : Int) : Option ((List Int × List Int) × Bool) :=
(s_IsPolygon x0).bind fun v1 => cond (!v1)
 (some ((([] : List Int), ([] : List Int)), false))
 ((s_l1In x1 (0 : Int) (IntKind.i64.wrap ((x0.length : Int) - (1 : Int)))).bind fun v2 => cond (!v2)
 (some ((([] : List Int), ([] : List Int)), false))
 ((remI .i64 (IntKind.i64.wrap (x1 + (1 : Int))) (x0.length : Int)).bind fun v3 => (idx x0 v3).bind fun v4 => (idx x0 x1).bind fun v5 => (s_l2Less v4 v5).bind fun v6 => (s_l2Prime v6).bind fun v7 => (remI .i64 (IntKind.i64.wrap ((IntKind.i64.wrap (x1 + (x0.length : Int))) - (1 : Int))) (x0.length : Int)).bind fun v8 => (idx x0 v8).bind fun v9 => (idx x0 x1).bind fun v10 => (s_l2Less v9 v10).bind fun v11 => (s_l2Prime v11).bind fun v12 => (s_IsCone (v7, v12)).bind fun v13 => cond (!v13)
 (some ((([] : List Int), ([] : List Int)), false))
 (some ((v7, v12), true))))
noncomputable def e_s_CornerCone : CallE := ⟨35, [.d false (.list (.list (.int .i64))), .d false (.int .i64)], [.a [(.o true 3 (.int .i64)), (.o true 3 (.int .i64))], .l (.d false .bool)], fun x => s_CornerCone x.1 x.2⟩
noncomputable def c_s_CornerCone : Ctx := ⟨Tryz.prog, TT, [e_s_IsPolygon, e_s_l1In, e_s_l2Less, e_s_l2Prime, e_s_IsCone], [], [], [], [], []⟩
theorem k_s_CornerCone (x : PMs.den e_s_CornerCone.ps) : funK c_s_CornerCone Tryz.f35 e_s_CornerCone.ps e_s_CornerCone.rs x = e_s_CornerCone.F x := by kernel_rfl
theorem o_s_CornerCone {D : Prop} : FnOk Tryz.prog e_s_CornerCone.f ∧ Ctr D Tryz.prog e_s_CornerCone := mkCtr (C := c_s_CornerCone) m_ (⟨o_s_IsPolygon, o_s_l1In, o_s_l2Less, o_s_l2Prime, o_s_IsCone, trivial⟩) Tryz.func35 (by kernel_rfl) k_s_CornerCone
/-! loop.example/g00959/spec.ConeIndex -/
noncomputable def s_ConeIndex (x0 : (List Int) × (List Int)) : Option (Int) :=
(s_IsCone (x0.1, x0.2)).bind fun v1 => cond (!v1)
 (some (0 : Int))
 ((s_l7Cross x0.1 x0.2).bind fun v2 => some v2)
noncomputable def e_s_ConeIndex : CallE := ⟨37, [.d false (.prod (.list (.int .i64)) (.list (.int .i64)))], [.l (.d false (.int .i64))], fun x => s_ConeIndex x⟩
noncomputable def c_s_ConeIndex : Ctx := ⟨Tryz.prog, TT, [e_s_IsCone, e_s_l7Cross], [], [], [], [], []⟩
theorem k_s_ConeIndex (x : PMs.den e_s_ConeIndex.ps) : funK c_s_ConeIndex Tryz.f37 e_s_ConeIndex.ps e_s_ConeIndex.rs x = e_s_ConeIndex.F x := by kernel_rfl
theorem o_s_ConeIndex {D : Prop} : FnOk Tryz.prog e_s_ConeIndex.f ∧ Ctr D Tryz.prog e_s_ConeIndex := mkCtr (C := c_s_ConeIndex) m_ (⟨o_s_IsCone, o_s_l7Cross, trivial⟩) Tryz.func37 (by kernel_rfl) k_s_ConeIndex
/-! loop.example/g00959/spec.SmoothCorners -/
noncomputable def s_SmoothCorners_s3 (x0 : List (List Int)) (v1 : Int × Int) : Option ((Int × Int) ⊕ ((Int) ⊕ (Int))) :=
 cond (decide (v1.2 < (x0.length : Int)))
 ((s_CornerCone x0 v1.2).bind fun v2 => cond (!v2.2)
 (some (.inr (.inr (-1 : Int))))
 ((s_ConeIndex (v2.1.1, v2.1.2)).bind fun v3 => (s_l1Bit (v3 == (1 : Int))).bind fun v4 => some (.inl ((IntKind.i64.wrap (v1.1 + v4)), (IntKind.i64.wrap (v1.2 + (1 : Int)))))))
 (some (.inr (.inl v1.1)))
noncomputable def s_SmoothCorners (x0 : List (List Int)) : Option (Int) :=
(iter (s_SmoothCorners_s3 x0) ((0 : Int), (0 : Int))).bind fun v5 => match v5 with
 | .inl v6 => (cond ((x0.length : Int) == (0 : Int))
 (some (-1 : Int))
 (some v6))
 | .inr v7 => (some v7)
noncomputable def e_s_SmoothCorners : CallE := ⟨14, [.d false (.list (.list (.int .i64)))], [.l (.d false (.int .i64))], fun x => s_SmoothCorners x⟩
noncomputable def c_s_SmoothCorners : Ctx := ⟨Tryz.prog, TT, [e_s_CornerCone, e_s_ConeIndex, e_s_l1Bit], [⟨3, [(3, .l (.d false (.int .i64))), (4, .l (.d false (.int .i64)))], some (0, [(3, .l (.d false (.int .i64)))]), some [(2, .l (.d false (.int .i64)))], false⟩], [], [], [], []⟩
theorem k_s_SmoothCorners (x : PMs.den e_s_SmoothCorners.ps) : funK c_s_SmoothCorners Tryz.f14 e_s_SmoothCorners.ps e_s_SmoothCorners.rs x = e_s_SmoothCorners.F x := by kernel_rfl
theorem o_s_SmoothCorners {D : Prop} : FnOk Tryz.prog e_s_SmoothCorners.f ∧ Ctr D Tryz.prog e_s_SmoothCorners := mkCtr (C := c_s_SmoothCorners) m_ (⟨o_s_CornerCone, o_s_ConeIndex, o_s_l1Bit, trivial⟩) Tryz.func14 (by kernel_rfl) k_s_SmoothCorners
/-! loop.example/g00959/spec.SideNumbers -/
noncomputable def s_SideNumbers_s3 (x0 : List (List Int)) (v1 : List Int × Int) : Option ((List Int × Int) ⊕ (List Int)) :=
 cond (decide (v1.2 < (x0.length : Int)))
 ((s_IsPolygon x0).bind fun v2 => cond v2
 ((s_l7Side x0 v1.2).bind fun v3 => (appD 8 v1.1 ([v3] : List Int)).bind fun v4 => some (.inl (v4, (IntKind.i64.wrap (v1.2 + (1 : Int))))))
 (some (.inr v1.1)))
 (some (.inr v1.1))
noncomputable def s_SideNumbers (x0 : List (List Int)) : Option (List Int) :=
(iter (s_SideNumbers_s3 x0) (([] : List Int), (0 : Int))).bind fun v5 => some v5
noncomputable def e_s_SideNumbers : CallE := ⟨16, [.d false (.list (.list (.int .i64)))], [.l (.o true 3 (.int .i64))], fun x => s_SideNumbers x⟩
noncomputable def c_s_SideNumbers : Ctx := ⟨Tryz.prog, TT, [e_s_IsPolygon, e_s_l7Side], [⟨3, [(3, .l (.o true 3 (.int .i64))), (4, .l (.d false (.int .i64)))], some (0, [(3, .l (.o true 3 (.int .i64)))]), none, false⟩], [], [], [], []⟩
theorem k_s_SideNumbers (x : PMs.den e_s_SideNumbers.ps) : funK c_s_SideNumbers Tryz.f16 e_s_SideNumbers.ps e_s_SideNumbers.rs x = e_s_SideNumbers.F x := by kernel_rfl
theorem o_s_SideNumbers {D : Prop} : FnOk Tryz.prog e_s_SideNumbers.f ∧ Ctr D Tryz.prog e_s_SideNumbers := mkCtr (C := c_s_SideNumbers) m_ (⟨o_s_IsPolygon, o_s_l7Side, trivial⟩) Tryz.func16 (by kernel_rfl) k_s_SideNumbers
/-! loop.example/g00959/laws.total -/
noncomputable def w_total_s3 (x0 : List Int) (v1 : Int × Int) : Option ((Int × Int) ⊕ (Int)) :=
 cond (decide (v1.2 < (x0.length : Int)))
 ((idx x0 v1.2).bind fun v2 => some (.inl ((IntKind.i64.wrap (v1.1 + v2)), (IntKind.i64.wrap (v1.2 + (1 : Int))))))
 (some (.inr v1.1))
noncomputable def w_total (x0 : List Int) : Option (Int) :=
(iter (w_total_s3 x0) ((0 : Int), (0 : Int))).bind fun v3 => some v3
noncomputable def e_w_total : CallE := ⟨19, [.d false (.list (.int .i64))], [.l (.d false (.int .i64))], fun x => w_total x⟩
noncomputable def c_w_total : Ctx := ⟨Tryz.prog, TT, [], [⟨3, [(3, .l (.d false (.int .i64))), (4, .l (.d false (.int .i64)))], some (0, [(3, .l (.d false (.int .i64)))]), none, false⟩], [], [], [], []⟩
theorem k_w_total (x : PMs.den e_w_total.ps) : funK c_w_total Tryz.f19 e_w_total.ps e_w_total.rs x = e_w_total.F x := by kernel_rfl
theorem o_w_total {D : Prop} : FnOk Tryz.prog e_w_total.f ∧ Ctr D Tryz.prog e_w_total := mkCtr (C := c_w_total) m_ (trivial) Tryz.func19 (by kernel_rfl) k_w_total
/-! loop.example/g00959/laws.dot -/
noncomputable def w_dot_s3 (x0 : List Int) (x1 : List Int) (v1 : Int × Int) : Option ((Int × Int) ⊕ (Int)) :=
 cond (decide (v1.2 < (x0.length : Int)))
 (cond (decide (v1.2 < (x1.length : Int)))
 ((idx x0 v1.2).bind fun v2 => (idx x1 v1.2).bind fun v3 => some (.inl ((IntKind.i64.wrap (v1.1 + (IntKind.i64.wrap (v2 * v3)))), (IntKind.i64.wrap (v1.2 + (1 : Int))))))
 (some (.inr v1.1)))
 (some (.inr v1.1))
noncomputable def w_dot (x0 : List Int) (x1 : List Int) : Option (Int) :=
(iter (w_dot_s3 x0 x1) ((0 : Int), (0 : Int))).bind fun v4 => some v4
noncomputable def e_w_dot : CallE := ⟨21, [.d false (.list (.int .i64)), .d false (.list (.int .i64))], [.l (.d false (.int .i64))], fun x => w_dot x.1 x.2⟩
noncomputable def c_w_dot : Ctx := ⟨Tryz.prog, TT, [], [⟨3, [(5, .l (.d false (.int .i64))), (6, .l (.d false (.int .i64)))], some (0, [(5, .l (.d false (.int .i64)))]), none, false⟩], [], [], [], []⟩
theorem k_w_dot (x : PMs.den e_w_dot.ps) : funK c_w_dot Tryz.f21 e_w_dot.ps e_w_dot.rs x = e_w_dot.F x := by kernel_rfl
theorem o_w_dot {D : Prop} : FnOk Tryz.prog e_w_dot.f ∧ Ctr D Tryz.prog e_w_dot := mkCtr (C := c_w_dot) m_ (trivial) Tryz.func21 (by kernel_rfl) k_w_dot
/-! loop.example/g00959/laws.FnReflexive -/
noncomputable def w_FnReflexive_s22 (v2 : List (List Int)) (v3 : List (List Int) × Bool) (v21 : Int) (v22 : Int) : Option ((Int) ⊕ ((Unit) ⊕ (Bool))) :=
 cond (decide (v22 < (v3.1.length : Int)))
 ((idx v2 v21).bind fun v23 => (idx v3.1 v22).bind fun v24 => (w_dot v23 v24).bind fun v25 => cond (decide (v25 > (1 : Int)))
 (some (.inr (.inr false)))
 (some (.inl (IntKind.i64.wrap (v22 + (1 : Int))))))
 (some (.inr (.inl ())))
noncomputable def w_FnReflexive_s19 (v2 : List (List Int)) (v3 : List (List Int) × Bool) (v21 : Int) : Option ((Int) ⊕ ((Unit) ⊕ (Bool))) :=
 cond (decide (v21 < (v2.length : Int)))
 ((iter (w_FnReflexive_s22 v2 v3 v21) (0 : Int)).bind fun v26 => match v26 with
 | .inl v27 => (some (.inl (IntKind.i64.wrap (v21 + (1 : Int)))))
 | .inr v28 => (some (.inr (.inr v28))))
 (some (.inr (.inl ())))
noncomputable def w_FnReflexive_s22b39 (v2 : List (List Int)) (v3 : List (List Int) × Bool) (v35 : Int) (v36 : Int) : Option ((Int) ⊕ ((Unit) ⊕ (Bool))) :=
 cond (decide (v36 < (v3.1.length : Int)))
 ((idx v2 v35).bind fun v37 => (idx v3.1 v36).bind fun v38 => (w_dot v37 v38).bind fun v39 => cond (decide (v39 > (1 : Int)))
 (some (.inr (.inr false)))
 (some (.inl (IntKind.i64.wrap (v36 + (1 : Int))))))
 (some (.inr (.inl ())))
noncomputable def w_FnReflexive_s19b42 (v2 : List (List Int)) (v3 : List (List Int) × Bool) (v35 : Int) : Option ((Int) ⊕ ((Unit) ⊕ (Bool))) :=
 cond (decide (v35 < (v2.length : Int)))
 ((iter (w_FnReflexive_s22b39 v2 v3 v35) (0 : Int)).bind fun v40 => match v40 with
 | .inl v41 => (some (.inl (IntKind.i64.wrap (v35 + (1 : Int)))))
 | .inr v42 => (some (.inr (.inr v42))))
 (some (.inr (.inl ())))
noncomputable def w_FnReflexive (x0 : List Int) : Option (Bool) :=
(w_big x0).bind fun v1 => cond v1
 (some true)
 ((s_DrawDualPolygon x0).bind fun v2 => (i_DualPolygon v2).bind fun v3 => (s_DualPolygon v2).bind fun v4 => (i_TwelveOf v2).bind fun v5 => (s_DrawSmoothCorners x0).bind fun v6 => (i_SideNumbers v2).bind fun v7 => cond (!(v3.2 == v4.2))
 (some false)
 ((w_sameLists v3.1 v4.1).bind fun v8 => cond (!v8)
 (some false)
 ((s_TwelveOf v2).bind fun v9 => cond (v5 != v9)
 (some false)
 ((i_SmoothCorners v6).bind fun v10 => (s_SmoothCorners v6).bind fun v11 => cond (v10 != v11)
 (some false)
 ((s_SideNumbers v2).bind fun v12 => (w_sameInts v7 v12).bind fun v13 => cond (!v13)
 (some false)
 ((i_IsReflexive v2).bind fun v14 => (s_IsReflexive v2).bind fun v15 => cond (!(v14 == v15))
 (some false)
 (cond (decide ((v7.length : Int) > (0 : Int)))
 ((w_total v7).bind fun v16 => (s_BoundaryCount v2).bind fun v17 => cond (v16 != v17)
 (some false)
 (cond (!v3.2)
 (some (v5 == (-1 : Int)))
 ((i_DualPolygon v3.1).bind fun v18 => cond (v5 != (12 : Int))
 (some false)
 ((i_IsReflexive v3.1).bind fun v19 => cond (!v19)
 (some false)
 (cond (!v18.2)
 (some false)
 ((w_sameLists v18.1 v2).bind fun v20 => cond (!v20)
 (some false)
 (cond ((v3.1.length : Int) != (v2.length : Int))
 (some false)
 ((iter (w_FnReflexive_s19 v2 v3) (0 : Int)).bind fun v29 => match v29 with
 | .inl v30 => (some true)
 | .inr v31 => (some v31)))))))))
 (cond (!v3.2)
 (some (v5 == (-1 : Int)))
 ((i_DualPolygon v3.1).bind fun v32 => cond (v5 != (12 : Int))
 (some false)
 ((i_IsReflexive v3.1).bind fun v33 => cond (!v33)
 (some false)
 (cond (!v32.2)
 (some false)
 ((w_sameLists v32.1 v2).bind fun v34 => cond (!v34)
 (some false)
 (cond ((v3.1.length : Int) != (v2.length : Int))
 (some false)
 ((iter (w_FnReflexive_s19b42 v2 v3) (0 : Int)).bind fun v43 => match v43 with
 | .inl v44 => (some true)
 | .inr v45 => (some v45)))))))))))))))
noncomputable def e_w_FnReflexive : CallE := ⟨3, [.d false (.list (.int .u8))], [.l (.d false .bool)], fun x => w_FnReflexive x⟩
noncomputable def c_w_FnReflexive : Ctx := ⟨Tryz.prog, TT, [e_w_big, e_s_DrawDualPolygon, e_i_DualPolygon, e_s_DualPolygon, e_i_TwelveOf, e_s_DrawSmoothCorners, e_i_SideNumbers, e_w_sameLists, e_s_TwelveOf, e_i_SmoothCorners, e_s_SmoothCorners, e_s_SideNumbers, e_w_sameInts, e_i_IsReflexive, e_s_IsReflexive, e_w_total, e_s_BoundaryCount, e_w_dot], [⟨19, [(13, .l (.d false (.int .i64)))], some (0, []), some [(2, .l (.d false .bool))], false⟩, ⟨22, [(14, .l (.d false (.int .i64)))], some (2, []), some [(2, .l (.d false .bool))], false⟩], [], [], [], []⟩
theorem k_w_FnReflexive (x : PMs.den e_w_FnReflexive.ps) : funK c_w_FnReflexive Tryz.f3 e_w_FnReflexive.ps e_w_FnReflexive.rs x = e_w_FnReflexive.F x := by kernel_rfl
theorem o_w_FnReflexive {D : Prop} : FnOk Tryz.prog e_w_FnReflexive.f ∧ Ctr D Tryz.prog e_w_FnReflexive := mkCtr (C := c_w_FnReflexive) m_ (⟨o_w_big, o_s_DrawDualPolygon, o_i_DualPolygon, o_s_DualPolygon, o_i_TwelveOf, o_s_DrawSmoothCorners, o_i_SideNumbers, o_w_sameLists, o_s_TwelveOf, o_i_SmoothCorners, o_s_SmoothCorners, o_s_SideNumbers, o_w_sameInts, o_i_IsReflexive, o_s_IsReflexive, o_w_total, o_s_BoundaryCount, o_w_dot, trivial⟩) Tryz.func3 (by kernel_rfl) k_w_FnReflexive
/-! loop.example/g00959/spec.l7Draw -/
noncomputable def s_l7Draw_1_s7 (x1 : Int) (v2 : (Int) × ((List Int) × Int × Int) × Unit) (v3 : (List Int × Int × Int) × List (List Int) × Int) : Option (((List Int × Int × Int) × List (List Int) × Int) ⊕ ((List Int × Int × Int) × List (List Int))) :=
 cond (decide (v3.2.2 < (IntKind.i64.wrap ((3 : Int) + v2.1))))
 ((s_l2Draw (v3.1.1, (v3.1.2.1, v3.1.2.2)) (2 : Int) x1).bind fun v4 => (appD 24 v3.2.1 ([v4.1] : List (List Int))).bind fun v5 => some (.inl ((v4.2.1.1, (v4.2.1.2.1, v4.2.1.2.2)), (v5, (IntKind.i64.wrap (v3.2.2 + (1 : Int)))))))
 (some (.inr ((v3.1.1, (v3.1.2.1, v3.1.2.2)), v3.2.1)))
noncomputable def s_l7Draw_1_s2 (x1 : Int) (v1 : (List Int × Int × Int) × Int) : Option (((List Int × Int × Int) × Int) ⊕ ((List Int × Int × Int) ⊕ ((List Int × Int × Int) × List (List Int)))) :=
 cond (decide (v1.2 < (6 : Int)))
 ((s_l1Below (v1.1.1, (v1.1.2.1, v1.1.2.2)) (4 : Int)).bind fun v2 => (iter (s_l7Draw_1_s7 x1 v2) ((v2.2.1.1, (v2.2.1.2.1, v2.2.1.2.2)), (([] : List (List Int)), (0 : Int)))).bind fun v6 => (s_HullOf v6.2).bind fun v7 => cond v7.2
 (some (.inr (.inr ((v6.1.1, (v6.1.2.1, v6.1.2.2)), v7.1))))
 (some (.inl ((v6.1.1, (v6.1.2.1, v6.1.2.2)), (IntKind.i64.wrap (v1.2 + (1 : Int)))))))
 (some (.inr (.inl (v1.1.1, (v1.1.2.1, v1.1.2.2)))))
noncomputable def s_l7Draw_1 (x0 : (List Int) × Int × Int) (x1 : Int) : Option ((List (List Int)) × ((List Int) × Int × Int) × Unit) :=
(iter (s_l7Draw_1_s2 x1) ((x0.1, (x0.2.1, x0.2.2)), (0 : Int))).bind fun v8 => match v8 with
 | .inl v9 => (some (([([(0 : Int), (0 : Int)] : List Int), ([(2 : Int), (0 : Int)] : List Int), ([(0 : Int), (1 : Int)] : List Int)] : List (List Int)), ((v9.1, (v9.2.1, v9.2.2)), ())))
 | .inr v10 => (some (v10.2, ((v10.1.1, (v10.1.2.1, v10.1.2.2)), ())))
end Go.Proofs.YtgbkkmidloeciaaGreat
