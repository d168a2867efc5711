/- Plain functions. -/
import Derived.Test.YtcpdhjklcongoaaProg
import Derived.Test.YtcpdhjklcongoaaEm5
import Derived.KernelRfl
namespace Go.Proofs.Ytcpdhjklcongoaa
open Go Go.Proofs.Ytcpdhjklcongoaa.Eng
set_option linter.unusedVariables false
set_option maxRecDepth 100000
noncomputable def TT : List (TypeId × Ty) := [(3, (.int .i64)), (5, (.int .u8)), (22, (.list (.list (.int .i64)))), (36, (.list (.int .i64)))]
theorem m_ : Try.prog.follows .mixedOrders = true := by kernel_rfl
/-! loop.example/g00959/laws.toIntS -/
noncomputable def w_toIntS_s3 (x0 : List Int) (v2 : List Int × Int) : Option ((List Int × Int) ⊕ (List Int)) :=
 cond (decide (v2.2 < (x0.length : Int)))
 ((idx x0 v2.2).bind fun v3 => (inIdx v2.1.length v2.2).bind fun _ => (inIdx v2.1.length ((v2.2).toNat : Int)).bind fun _ => some (.inl ((v2.1.set ((v2.2).toNat) v3), (IntKind.i64.wrap (v2.2 + (1 : Int))))))
 (some (.inr v2.1))
noncomputable def w_toIntS (x0 : List Int) : Option (List Int) :=
(mkD 8 (x0.length : Int) (0 : Int)).bind fun v1 => (iter (w_toIntS_s3 x0) (v1, (0 : Int))).bind fun v4 => some v4
/-! loop.example/g00959/laws.toIntSS -/
noncomputable def w_toIntSS_s3 (x0 : List (List Int)) (v2 : List (List Int) × Int) : Option ((List (List Int) × Int) ⊕ (List (List Int))) :=
 cond (decide (v2.2 < (x0.length : Int)))
 ((idx x0 v2.2).bind fun v3 => (w_toIntS v3).bind fun v4 => (inIdx v2.1.length v2.2).bind fun _ => (inIdx v2.1.length ((v2.2).toNat : Int)).bind fun _ => some (.inl ((v2.1.set ((v2.2).toNat) v4), (IntKind.i64.wrap (v2.2 + (1 : Int))))))
 (some (.inr v2.1))
noncomputable def w_toIntSS (x0 : List (List Int)) : Option (List (List Int)) :=
(mkD 24 (x0.length : Int) ([] : List Int)).bind fun v1 => (iter (w_toIntSS_s3 x0) (v1, (0 : Int))).bind fun v5 => some v5
/-! loop.example/g00959/spec.l1In -/
noncomputable def s_l1In (x0 : Int) (x1 : Int) (x2 : Int) : Option (Bool) :=
 cond (decide (x0 ≥ x1))
 (some (decide (x0 ≤ x2)))
 (some false)
noncomputable def e_s_l1In : CallE := ⟨61, [.d false (.int .i64), .d false (.int .i64), .d false (.int .i64)], [.l (.d false .bool)], fun x => s_l1In x.1 x.2.1 x.2.2⟩
noncomputable def c_s_l1In : Ctx := ⟨Try.prog, TT, [], [], [], [], [], []⟩
theorem k_s_l1In (x : PMs.den e_s_l1In.ps) : funK c_s_l1In Try.f61 e_s_l1In.ps e_s_l1In.rs x = e_s_l1In.F x := by kernel_rfl
theorem o_s_l1In {D : Prop} : FnOk Try.prog e_s_l1In.f ∧ Ctr D Try.prog e_s_l1In := mkCtr (C := c_s_l1In) m_ (trivial) Try.func61 (by kernel_rfl) k_s_l1In
/-! loop.example/g00959/spec.l2Small -/
noncomputable def s_l2Small_s2 (x0 : List Int) (x1 : Int) (v1 : Int) : Option ((Int) ⊕ ((Unit) ⊕ (Bool))) :=
 cond (decide (v1 < (x0.length : Int)))
 ((idx x0 v1).bind fun v2 => (s_l1In v2 (IntKind.i64.wrap (0 - x1)) x1).bind fun v3 => cond (!v3)
 (some (.inr (.inr false)))
 (some (.inl (IntKind.i64.wrap (v1 + (1 : Int))))))
 (some (.inr (.inl ())))
noncomputable def s_l2Small (x0 : List Int) (x1 : Int) : Option (Bool) :=
(iter (s_l2Small_s2 x0 x1) (0 : Int)).bind fun v4 => match v4 with
 | .inl v5 => (some true)
 | .inr v6 => (some v6)
noncomputable def e_s_l2Small : CallE := ⟨74, [.d false (.list (.int .i64)), .d false (.int .i64)], [.l (.d false .bool)], fun x => s_l2Small x.1 x.2⟩
noncomputable def c_s_l2Small : Ctx := ⟨Try.prog, TT, [e_s_l1In], [⟨2, [(5, .l (.d false (.int .i64)))], some (0, []), some [(4, .l (.d false .bool))], false⟩], [], [], [], []⟩
theorem k_s_l2Small (x : PMs.den e_s_l2Small.ps) : funK c_s_l2Small Try.f74 e_s_l2Small.ps e_s_l2Small.rs x = e_s_l2Small.F x := by kernel_rfl
theorem o_s_l2Small {D : Prop} : FnOk Try.prog e_s_l2Small.f ∧ Ctr D Try.prog e_s_l2Small := mkCtr (C := c_s_l2Small) m_ (⟨o_s_l1In, trivial⟩) Try.func74 (by kernel_rfl) k_s_l2Small
/-! loop.example/g00959/spec.l7Flat -/
noncomputable def s_l7Flat_s2 (x0 : List (List Int)) (v1 : Int) : Option ((Int) ⊕ ((Unit) ⊕ (Bool))) :=
 cond (decide (v1 < (x0.length : Int)))
 ((idx x0 v1).bind fun v2 => cond ((v2.length : Int) != (2 : Int))
 (some (.inr (.inr false)))
 ((idx x0 v1).bind fun v3 => (s_l2Small v3 (50 : Int)).bind fun v4 => cond (!v4)
 (some (.inr (.inr false)))
 (some (.inl (IntKind.i64.wrap (v1 + (1 : Int)))))))
 (some (.inr (.inl ())))
noncomputable def s_l7Flat (x0 : List (List Int)) : Option (Bool) :=
(iter (s_l7Flat_s2 x0) (0 : Int)).bind fun v5 => match v5 with
 | .inl v6 => (some true)
 | .inr v7 => (some v7)
noncomputable def e_s_l7Flat : CallE := ⟨46, [.d false (.list (.list (.int .i64)))], [.l (.d false .bool)], fun x => s_l7Flat x⟩
noncomputable def c_s_l7Flat : Ctx := ⟨Try.prog, TT, [e_s_l2Small], [⟨2, [(3, .l (.d false (.int .i64)))], some (0, []), some [(2, .l (.d false .bool))], false⟩], [], [], [], []⟩
theorem k_s_l7Flat (x : PMs.den e_s_l7Flat.ps) : funK c_s_l7Flat Try.f46 e_s_l7Flat.ps e_s_l7Flat.rs x = e_s_l7Flat.F x := by kernel_rfl
theorem o_s_l7Flat {D : Prop} : FnOk Try.prog e_s_l7Flat.f ∧ Ctr D Try.prog e_s_l7Flat := mkCtr (C := c_s_l7Flat) m_ (⟨o_s_l2Small, trivial⟩) Try.func46 (by kernel_rfl) k_s_l7Flat
/-! loop.example/g00959/spec.l2Before -/
noncomputable def s_l2Before_s2 (x0 : List Int) (x1 : List Int) (v1 : Int) : Option ((Int) ⊕ ((Unit) ⊕ (Bool))) :=
 cond (decide (v1 < (x0.length : Int)))
 (cond (decide (v1 < (x1.length : Int)))
 ((idx x0 v1).bind fun v2 => (idx x1 v1).bind fun v3 => cond (v2 != v3)
 ((idx x0 v1).bind fun v4 => (idx x1 v1).bind fun v5 => some (.inr (.inr (decide (v4 < v5)))))
 (some (.inl (IntKind.i64.wrap (v1 + (1 : Int))))))
 (some (.inr (.inl ()))))
 (some (.inr (.inl ())))
noncomputable def s_l2Before (x0 : List Int) (x1 : List Int) : Option (Bool) :=
(iter (s_l2Before_s2 x0 x1) (0 : Int)).bind fun v6 => match v6 with
 | .inl v7 => (some false)
 | .inr v8 => (some v8)
noncomputable def e_s_l2Before : CallE := ⟨26, [.d false (.list (.int .i64)), .d false (.list (.int .i64))], [.l (.d false .bool)], fun x => s_l2Before x.1 x.2⟩
noncomputable def c_s_l2Before : Ctx := ⟨Try.prog, TT, [], [⟨2, [(5, .l (.d false (.int .i64)))], some (0, []), some [(4, .l (.d false .bool))], false⟩], [], [], [], []⟩
theorem k_s_l2Before (x : PMs.den e_s_l2Before.ps) : funK c_s_l2Before Try.f26 e_s_l2Before.ps e_s_l2Before.rs x = e_s_l2Before.F x := by kernel_rfl
theorem o_s_l2Before {D : Prop} : FnOk Try.prog e_s_l2Before.f ∧ Ctr D Try.prog e_s_l2Before := mkCtr (C := c_s_l2Before) m_ (trivial) Try.func26 (by kernel_rfl) k_s_l2Before
/-! loop.example/g00959/spec.l2Same -/
noncomputable def s_l2Same_s4 (x0 : List Int) (x1 : List Int) (v1 : Int) : Option ((Int) ⊕ ((Unit) ⊕ (Bool))) :=
 cond (decide (v1 < (x0.length : Int)))
 ((idx x0 v1).bind fun v2 => (idx x1 v1).bind fun v3 => cond (v2 != v3)
 (some (.inr (.inr false)))
 (some (.inl (IntKind.i64.wrap (v1 + (1 : Int))))))
 (some (.inr (.inl ())))
noncomputable def s_l2Same (x0 : List Int) (x1 : List Int) : Option (Bool) :=
 cond ((x0.length : Int) != (x1.length : Int))
 (some false)
 ((iter (s_l2Same_s4 x0 x1) (0 : Int)).bind fun v4 => match v4 with
 | .inl v5 => (some true)
 | .inr v6 => (some v6))
noncomputable def e_s_l2Same : CallE := ⟨55, [.d false (.list (.int .i64)), .d false (.list (.int .i64))], [.l (.d false .bool)], fun x => s_l2Same x.1 x.2⟩
noncomputable def c_s_l2Same : Ctx := ⟨Try.prog, TT, [], [⟨4, [(5, .l (.d false (.int .i64)))], some (0, []), some [(4, .l (.d false .bool))], false⟩], [], [], [], []⟩
theorem k_s_l2Same (x : PMs.den e_s_l2Same.ps) : funK c_s_l2Same Try.f55 e_s_l2Same.ps e_s_l2Same.rs x = e_s_l2Same.F x := by kernel_rfl
theorem o_s_l2Same {D : Prop} : FnOk Try.prog e_s_l2Same.f ∧ Ctr D Try.prog e_s_l2Same := mkCtr (C := c_s_l2Same) m_ (trivial) Try.func55 (by kernel_rfl) k_s_l2Same
/-! loop.example/g00959/spec.l2Put -/
noncomputable def s_l2Put_s2 (x1 : List Int) (v1 : List (List Int) × Int) : Option ((List (List Int) × Int) ⊕ (List (List Int) × Int)) :=
 cond (decide (v1.2 > (0 : Int)))
 ((inIdx v1.1.length (IntKind.i64.wrap (v1.2 - (1 : Int)))).bind fun _ => (idx v1.1 (((IntKind.i64.wrap (v1.2 - (1 : Int)))).toNat : Int)).bind fun v2 => (s_l2Before x1 v2).bind fun v3 => cond v3
 (some (.inl (v1.1, (IntKind.i64.wrap (v1.2 - (1 : Int))))))
 (some (.inr (v1.1, v1.2))))
 (some (.inr (v1.1, v1.2)))
noncomputable def s_l2Put (x0 : List (List Int)) (x1 : List Int) : Option (List (List Int)) :=
(iter (s_l2Put_s2 x1) (x0, (x0.length : Int))).bind fun v4 => cond (decide (v4.2 > (0 : Int)))
 ((inIdx v4.1.length (IntKind.i64.wrap (v4.2 - (1 : Int)))).bind fun _ => (idx v4.1 (((IntKind.i64.wrap (v4.2 - (1 : Int)))).toNat : Int)).bind fun v5 => (s_l2Same v5 x1).bind fun v6 => cond v6
 (some v4.1)
 ((subl v4.1 v4.2 (v4.1.length : Int)).bind fun v7 => (subl v4.1 ((v4.2).toNat : Int) (((v4.1.length : Int)).toNat : Int)).bind fun v8 => (appD 24 ([] : List (List Int)) v8).bind fun v9 => (subl v4.1 0 v4.2).bind fun v10 => (appD 8 ([] : List Int) x1).bind fun v11 => (appD 24 v10 ([v11] : List (List Int))).bind fun v12 => (appD 24 v12 v9).bind fun v13 => some v13))
 ((subl v4.1 v4.2 (v4.1.length : Int)).bind fun v14 => (subl v4.1 ((v4.2).toNat : Int) (((v4.1.length : Int)).toNat : Int)).bind fun v15 => (appD 24 ([] : List (List Int)) v15).bind fun v16 => (subl v4.1 0 v4.2).bind fun v17 => (appD 8 ([] : List Int) x1).bind fun v18 => (appD 24 v17 ([v18] : List (List Int))).bind fun v19 => (appD 24 v19 v16).bind fun v20 => some v20)
noncomputable def e_s_l2Put : CallE := ⟨27, [.mv false 36 (.list (.int .i64)), .d false (.list (.int .i64))], [.l (.o false 36 (.list (.int .i64)))], fun x => s_l2Put x.1 x.2⟩
noncomputable def c_s_l2Put : Ctx := ⟨Try.prog, TT, [e_s_l2Before, e_s_l2Same], [⟨2, [(0, .l (.o false 36 (.list (.int .i64)))), (5, .l (.d false (.int .i64)))], some (0, [(0, .l (.o false 36 (.list (.int .i64)))), (5, .l (.d false (.int .i64)))]), none, false⟩], [], [], [35], [(7, [0, 1, 2, 4, 8, 3, 5, 6, 7, 9, 10])]⟩
theorem k_s_l2Put (x : PMs.den e_s_l2Put.ps) : funK c_s_l2Put Try.f27 e_s_l2Put.ps e_s_l2Put.rs x = e_s_l2Put.F x := by kernel_rfl
theorem o_s_l2Put {D : Prop} : FnOk Try.prog e_s_l2Put.f ∧ Ctr D Try.prog e_s_l2Put := mkCtr (C := c_s_l2Put) m_ (⟨o_s_l2Before, o_s_l2Same, trivial⟩) Try.func27 (by kernel_rfl) k_s_l2Put
/-! loop.example/g00959/spec.l2Less -/
noncomputable def s_l2Less_s3 (x0 : List Int) (x1 : List Int) (v1 : List Int × Int) : Option ((List Int × Int) ⊕ (List Int)) :=
 cond (decide (v1.2 < (x0.length : Int)))
 ((idx x0 v1.2).bind fun v2 => (idx x1 v1.2).bind fun v3 => (appD 8 v1.1 ([(IntKind.i64.wrap (v2 - v3))] : List Int)).bind fun v4 => some (.inl (v4, (IntKind.i64.wrap (v1.2 + (1 : Int))))))
 (some (.inr v1.1))
noncomputable def s_l2Less (x0 : List Int) (x1 : List Int) : Option (List Int) :=
(iter (s_l2Less_s3 x0 x1) (([] : List Int), (0 : Int))).bind fun v5 => some v5
noncomputable def e_s_l2Less : CallE := ⟨78, [.d false (.list (.int .i64)), .d false (.list (.int .i64))], [.l (.o true 3 (.int .i64))], fun x => s_l2Less x.1 x.2⟩
noncomputable def c_s_l2Less : Ctx := ⟨Try.prog, TT, [], [⟨3, [(5, .l (.o true 3 (.int .i64))), (6, .l (.d false (.int .i64)))], some (0, [(5, .l (.o true 3 (.int .i64)))]), none, false⟩], [], [], [], []⟩
theorem k_s_l2Less (x : PMs.den e_s_l2Less.ps) : funK c_s_l2Less Try.f78 e_s_l2Less.ps e_s_l2Less.rs x = e_s_l2Less.F x := by kernel_rfl
theorem o_s_l2Less {D : Prop} : FnOk Try.prog e_s_l2Less.f ∧ Ctr D Try.prog e_s_l2Less := mkCtr (C := c_s_l2Less) m_ (trivial) Try.func78 (by kernel_rfl) k_s_l2Less
/-! loop.example/g00959/spec.l7Cross -/
noncomputable def s_l7Cross (x0 : List Int) (x1 : List Int) : Option (Int) :=
(idx x0 (0 : Int)).bind fun v1 => (idx x1 (1 : Int)).bind fun v2 => (idx x0 (1 : Int)).bind fun v3 => (idx x1 (0 : Int)).bind fun v4 => some (IntKind.i64.wrap ((IntKind.i64.wrap (v1 * v2)) - (IntKind.i64.wrap (v3 * v4))))
noncomputable def e_s_l7Cross : CallE := ⟨63, [.d false (.list (.int .i64)), .d false (.list (.int .i64))], [.l (.d false (.int .i64))], fun x => s_l7Cross x.1 x.2⟩
noncomputable def c_s_l7Cross : Ctx := ⟨Try.prog, TT, [], [], [], [], [], []⟩
theorem k_s_l7Cross (x : PMs.den e_s_l7Cross.ps) : funK c_s_l7Cross Try.f63 e_s_l7Cross.ps e_s_l7Cross.rs x = e_s_l7Cross.F x := by kernel_rfl
theorem o_s_l7Cross {D : Prop} : FnOk Try.prog e_s_l7Cross.f ∧ Ctr D Try.prog e_s_l7Cross := mkCtr (C := c_s_l7Cross) m_ (trivial) Try.func63 (by kernel_rfl) k_s_l7Cross
/-! loop.example/g00959/spec.l7Turn -/
noncomputable def s_l7Turn (x0 : List Int) (x1 : List Int) (x2 : List Int) : Option (Int) :=
(s_l2Less x1 x0).bind fun v1 => (s_l2Less x2 x1).bind fun v2 => (s_l7Cross v1 v2).bind fun v3 => some v3
noncomputable def e_s_l7Turn : CallE := ⟨75, [.d false (.list (.int .i64)), .d false (.list (.int .i64)), .d false (.list (.int .i64))], [.l (.d false (.int .i64))], fun x => s_l7Turn x.1 x.2.1 x.2.2⟩
noncomputable def c_s_l7Turn : Ctx := ⟨Try.prog, TT, [e_s_l2Less, e_s_l7Cross], [], [], [], [], []⟩
theorem k_s_l7Turn (x : PMs.den e_s_l7Turn.ps) : funK c_s_l7Turn Try.f75 e_s_l7Turn.ps e_s_l7Turn.rs x = e_s_l7Turn.F x := by kernel_rfl
theorem o_s_l7Turn {D : Prop} : FnOk Try.prog e_s_l7Turn.f ∧ Ctr D Try.prog e_s_l7Turn := mkCtr (C := c_s_l7Turn) m_ (⟨o_s_l2Less, o_s_l7Cross, trivial⟩) Try.func75 (by kernel_rfl) k_s_l7Turn
/-! loop.example/g00959/spec.l7Hull -/
noncomputable def s_l7Hull_s12 (v1 : List (List Int) × Int) (v4 : List Int) (v5 : List (List Int)) : Option ((List (List Int)) ⊕ (List (List Int))) :=
 cond (decide ((v5.length : Int) ≥ (IntKind.i64.wrap ((v1.1.length : Int) + (2 : Int)))))
 ((inIdx v5.length (IntKind.i64.wrap ((v5.length : Int) - (2 : Int)))).bind fun _ => (idx v5 (((IntKind.i64.wrap ((v5.length : Int) - (2 : Int)))).toNat : Int)).bind fun v6 => (inIdx v5.length (IntKind.i64.wrap ((v5.length : Int) - (1 : Int)))).bind fun _ => (idx v5 (((IntKind.i64.wrap ((v5.length : Int) - (1 : Int)))).toNat : Int)).bind fun v7 => (s_l7Turn v6 v7 v4).bind fun v8 => cond (decide (v8 ≤ (0 : Int)))
 ((subl v5 0 (IntKind.i64.wrap ((v5.length : Int) - (1 : Int)))).bind fun v9 => some (.inl v9))
 (some (.inr v5)))
 (some (.inr v5))
noncomputable def s_l7Hull_s12b16 (v1 : List (List Int) × Int) (v3 : List Int) (v12 : List (List Int)) : Option ((List (List Int)) ⊕ (List (List Int))) :=
 cond (decide ((v12.length : Int) ≥ (IntKind.i64.wrap ((v1.1.length : Int) + (2 : Int)))))
 ((inIdx v12.length (IntKind.i64.wrap ((v12.length : Int) - (2 : Int)))).bind fun _ => (idx v12 (((IntKind.i64.wrap ((v12.length : Int) - (2 : Int)))).toNat : Int)).bind fun v13 => (inIdx v12.length (IntKind.i64.wrap ((v12.length : Int) - (1 : Int)))).bind fun _ => (idx v12 (((IntKind.i64.wrap ((v12.length : Int) - (1 : Int)))).toNat : Int)).bind fun v14 => (s_l7Turn v13 v14 v3).bind fun v15 => cond (decide (v15 ≤ (0 : Int)))
 ((subl v12 0 (IntKind.i64.wrap ((v12.length : Int) - (1 : Int)))).bind fun v16 => some (.inl v16))
 (some (.inr v12)))
 (some (.inr v12))
noncomputable def s_l7Hull_s7 (x0 : List (List Int)) (v1 : List (List Int) × Int) (v2 : List (List Int) × Int) : Option ((List (List Int) × Int) ⊕ (List (List Int))) :=
 cond (decide (v2.2 < (x0.length : Int)))
 ((idx x0 v2.2).bind fun v3 => cond (v1.2 == (1 : Int))
 ((idx x0 (IntKind.i64.wrap ((IntKind.i64.wrap ((x0.length : Int) - (1 : Int))) - v2.2))).bind fun v4 => (iter (s_l7Hull_s12 v1 v4) v2.1).bind fun v10 => (appD 24 v10 ([v4] : List (List Int))).bind fun v11 => some (.inl (v11, (IntKind.i64.wrap (v2.2 + (1 : Int))))))
 ((iter (s_l7Hull_s12b16 v1 v3) v2.1).bind fun v17 => (appD 24 v17 ([v3] : List (List Int))).bind fun v18 => some (.inl (v18, (IntKind.i64.wrap (v2.2 + (1 : Int)))))))
 (some (.inr v2.1))
noncomputable def s_l7Hull_s3 (x0 : List (List Int)) (v1 : List (List Int) × Int) : Option ((List (List Int) × Int) ⊕ (List (List Int))) :=
 cond (decide (v1.2 < (2 : Int)))
 ((iter (s_l7Hull_s7 x0 v1) (v1.1, (0 : Int))).bind fun v19 => (subl v19 0 (IntKind.i64.wrap ((v19.length : Int) - (1 : Int)))).bind fun v20 => some (.inl (v20, (IntKind.i64.wrap (v1.2 + (1 : Int))))))
 (some (.inr v1.1))
noncomputable def s_l7Hull (x0 : List (List Int)) : Option (List (List Int)) :=
(iter (s_l7Hull_s3 x0) (([] : List (List Int)), (0 : Int))).bind fun v21 => some v21
noncomputable def e_s_l7Hull : CallE := ⟨50, [.d false (.list (.list (.int .i64)))], [.l (.o false 36 (.list (.int .i64)))], fun x => s_l7Hull x⟩
noncomputable def c_s_l7Hull : Ctx := ⟨Try.prog, TT, [e_s_l7Turn], [⟨3, [(3, .l (.o false 36 (.list (.int .i64)))), (4, .l (.d false (.int .i64)))], some (0, [(3, .l (.o false 36 (.list (.int .i64))))]), none, false⟩, ⟨7, [(3, .l (.o false 36 (.list (.int .i64)))), (6, .l (.d false (.int .i64)))], some (2, [(3, .l (.o false 36 (.list (.int .i64))))]), none, false⟩, ⟨12, [(3, .l (.o false 36 (.list (.int .i64))))], some (4, [(3, .l (.o false 36 (.list (.int .i64))))]), none, false⟩], [], [], [], []⟩
theorem k_s_l7Hull (x : PMs.den e_s_l7Hull.ps) : funK c_s_l7Hull Try.f50 e_s_l7Hull.ps e_s_l7Hull.rs x = e_s_l7Hull.F x := by kernel_rfl
theorem o_s_l7Hull {D : Prop} : FnOk Try.prog e_s_l7Hull.f ∧ Ctr D Try.prog e_s_l7Hull := mkCtr (C := c_s_l7Hull) m_ (⟨o_s_l7Turn, trivial⟩) Try.func50 (by kernel_rfl) k_s_l7Hull
/-! loop.example/g00959/spec.l7Copy -/
noncomputable def s_l7Copy_s3 (x0 : List (List Int)) (v1 : List (List Int) × Int) : Option ((List (List Int) × Int) ⊕ (List (List Int))) :=
 cond (decide (v1.2 < (x0.length : Int)))
 ((idx x0 v1.2).bind fun v2 => (appD 8 ([] : List Int) v2).bind fun v3 => (appD 24 v1.1 ([v3] : List (List Int))).bind fun v4 => some (.inl (v4, (IntKind.i64.wrap (v1.2 + (1 : Int))))))
 (some (.inr v1.1))
noncomputable def s_l7Copy (x0 : List (List Int)) : Option (List (List Int)) :=
(iter (s_l7Copy_s3 x0) (([] : List (List Int)), (0 : Int))).bind fun v5 => some v5
noncomputable def e_s_l7Copy : CallE := ⟨51, [.d false (.list (.list (.int .i64)))], [.l (.o true 36 (.list (.int .i64)))], fun x => s_l7Copy x⟩
noncomputable def c_s_l7Copy : Ctx := ⟨Try.prog, TT, [], [⟨3, [(3, .l (.o true 36 (.list (.int .i64)))), (4, .l (.d false (.int .i64)))], some (0, [(3, .l (.o true 36 (.list (.int .i64))))]), none, false⟩], [], [], [], []⟩
theorem k_s_l7Copy (x : PMs.den e_s_l7Copy.ps) : funK c_s_l7Copy Try.f51 e_s_l7Copy.ps e_s_l7Copy.rs x = e_s_l7Copy.F x := by kernel_rfl
theorem o_s_l7Copy {D : Prop} : FnOk Try.prog e_s_l7Copy.f ∧ Ctr D Try.prog e_s_l7Copy := mkCtr (C := c_s_l7Copy) m_ (trivial) Try.func51 (by kernel_rfl) k_s_l7Copy
/-! loop.example/g00959/spec.HullOf -/
noncomputable def s_HullOf_s5 (x0 : List (List Int)) (v2 : List (List Int) × Int) : Option ((List (List Int) × Int) ⊕ (List (List Int))) :=
 cond (decide (v2.2 < (x0.length : Int)))
 ((idx x0 v2.2).bind fun v3 => (s_l2Put v2.1 v3).bind fun v4 => some (.inl (v4, (IntKind.i64.wrap (v2.2 + (1 : Int))))))
 (some (.inr v2.1))
noncomputable def s_HullOf (x0 : List (List Int)) : Option (List (List Int) × Bool) :=
 cond (decide ((x0.length : Int) > (200 : Int)))
 (some (([] : List (List Int)), false))
 ((s_l7Flat x0).bind fun v1 => cond (!v1)
 (some (([] : List (List Int)), false))
 ((iter (s_HullOf_s5 x0) (([] : List (List Int)), (0 : Int))).bind fun v5 => cond (decide ((v5.length : Int) < (3 : Int)))
 (some (([] : List (List Int)), false))
 ((s_l7Hull v5).bind fun v6 => cond (decide ((v6.length : Int) < (3 : Int)))
 (some (([] : List (List Int)), false))
 (cond (decide ((v6.length : Int) > (12 : Int)))
 (some (([] : List (List Int)), false))
 ((s_l7Copy v6).bind fun v7 => some (v7, true))))))
noncomputable def e_s_HullOf : CallE := ⟨20, [.d false (.list (.list (.int .i64)))], [.l (.o true 36 (.list (.int .i64))), .l (.d false .bool)], fun x => s_HullOf x⟩
noncomputable def c_s_HullOf : Ctx := ⟨Try.prog, TT, [e_s_l7Flat, e_s_l2Put, e_s_l7Hull, e_s_l7Copy], [⟨5, [(4, .l (.o false 36 (.list (.int .i64)))), (5, .l (.d false (.int .i64)))], some (0, [(4, .l (.o false 36 (.list (.int .i64))))]), none, false⟩], [], [], [], []⟩
theorem k_s_HullOf (x : PMs.den e_s_HullOf.ps) : funK c_s_HullOf Try.f20 e_s_HullOf.ps e_s_HullOf.rs x = e_s_HullOf.F x := by kernel_rfl
theorem o_s_HullOf {D : Prop} : FnOk Try.prog e_s_HullOf.f ∧ Ctr D Try.prog e_s_HullOf := mkCtr (C := c_s_HullOf) m_ (⟨o_s_l7Flat, o_s_l2Put, o_s_l7Hull, o_s_l7Copy, trivial⟩) Try.func20 (by kernel_rfl) k_s_HullOf
/-! loop.example/g00959/spec.l7SameList -/
noncomputable def s_l7SameList_s4 (x0 : List (List Int)) (x1 : List (List Int)) (v1 : Int) : Option ((Int) ⊕ ((Unit) ⊕ (Bool))) :=
 cond (decide (v1 < (x0.length : Int)))
 ((idx x0 v1).bind fun v2 => (idx x1 v1).bind fun v3 => (s_l2Same v2 v3).bind fun v4 => cond (!v4)
 (some (.inr (.inr false)))
 (some (.inl (IntKind.i64.wrap (v1 + (1 : Int))))))
 (some (.inr (.inl ())))
noncomputable def s_l7SameList (x0 : List (List Int)) (x1 : List (List Int)) : Option (Bool) :=
 cond ((x0.length : Int) != (x1.length : Int))
 (some false)
 ((iter (s_l7SameList_s4 x0 x1) (0 : Int)).bind fun v5 => match v5 with
 | .inl v6 => (some true)
 | .inr v7 => (some v7))
noncomputable def e_s_l7SameList : CallE := ⟨62, [.d false (.list (.list (.int .i64))), .d false (.list (.list (.int .i64)))], [.l (.d false .bool)], fun x => s_l7SameList x.1 x.2⟩
noncomputable def c_s_l7SameList : Ctx := ⟨Try.prog, TT, [e_s_l2Same], [⟨4, [(5, .l (.d false (.int .i64)))], some (0, []), some [(4, .l (.d false .bool))], false⟩], [], [], [], []⟩
theorem k_s_l7SameList (x : PMs.den e_s_l7SameList.ps) : funK c_s_l7SameList Try.f62 e_s_l7SameList.ps e_s_l7SameList.rs x = e_s_l7SameList.F x := by kernel_rfl
theorem o_s_l7SameList {D : Prop} : FnOk Try.prog e_s_l7SameList.f ∧ Ctr D Try.prog e_s_l7SameList := mkCtr (C := c_s_l7SameList) m_ (⟨o_s_l2Same, trivial⟩) Try.func62 (by kernel_rfl) k_s_l7SameList
/-! loop.example/g00959/spec.IsPolygon -/
noncomputable def s_IsPolygon (x0 : List (List Int)) : Option (Bool) :=
(s_l1In (x0.length : Int) (3 : Int) (12 : Int)).bind fun v1 => cond (!v1)
 (some false)
 ((s_l7Flat x0).bind fun v2 => cond (!v2)
 (some false)
 ((s_HullOf x0).bind fun v3 => cond v3.2
 ((s_l7SameList v3.1 x0).bind fun v4 => some v4)
 (some false)))
noncomputable def e_s_IsPolygon : CallE := ⟨38, [.d false (.list (.list (.int .i64)))], [.l (.d false .bool)], fun x => s_IsPolygon x⟩
noncomputable def c_s_IsPolygon : Ctx := ⟨Try.prog, TT, [e_s_l1In, e_s_l7Flat, e_s_HullOf, e_s_l7SameList], [], [], [], [], []⟩
theorem k_s_IsPolygon (x : PMs.den e_s_IsPolygon.ps) : funK c_s_IsPolygon Try.f38 e_s_IsPolygon.ps e_s_IsPolygon.rs x = e_s_IsPolygon.F x := by kernel_rfl
theorem o_s_IsPolygon {D : Prop} : FnOk Try.prog e_s_IsPolygon.f ∧ Ctr D Try.prog e_s_IsPolygon := mkCtr (C := c_s_IsPolygon) m_ (⟨o_s_l1In, o_s_l7Flat, o_s_HullOf, o_s_l7SameList, trivial⟩) Try.func38 (by kernel_rfl) k_s_IsPolygon
/-! loop.example/g00959/spec.l7Area -/
noncomputable def s_l7Area_s3 (x0 : List (List Int)) (v1 : Int × Int) : Option ((Int × Int) ⊕ (Int)) :=
 cond (decide (v1.2 < (x0.length : Int)))
 ((idx x0 v1.2).bind fun v2 => (remI .i64 (IntKind.i64.wrap (v1.2 + (1 : Int))) (x0.length : Int)).bind fun v3 => (idx x0 v3).bind fun v4 => (s_l7Cross v2 v4).bind fun v5 => some (.inl ((IntKind.i64.wrap (v1.1 + v5)), (IntKind.i64.wrap (v1.2 + (1 : Int))))))
 (some (.inr v1.1))
noncomputable def s_l7Area (x0 : List (List Int)) : Option (Int) :=
(iter (s_l7Area_s3 x0) ((0 : Int), (0 : Int))).bind fun v6 => some v6
noncomputable def e_s_l7Area : CallE := ⟨39, [.d false (.list (.list (.int .i64)))], [.l (.d false (.int .i64))], fun x => s_l7Area x⟩
noncomputable def c_s_l7Area : Ctx := ⟨Try.prog, TT, [e_s_l7Cross], [⟨3, [(3, .l (.d false (.int .i64))), (4, .l (.d false (.int .i64)))], some (0, [(3, .l (.d false (.int .i64)))]), none, false⟩], [], [], [], []⟩
theorem k_s_l7Area (x : PMs.den e_s_l7Area.ps) : funK c_s_l7Area Try.f39 e_s_l7Area.ps e_s_l7Area.rs x = e_s_l7Area.F x := by kernel_rfl
theorem o_s_l7Area {D : Prop} : FnOk Try.prog e_s_l7Area.f ∧ Ctr D Try.prog e_s_l7Area := mkCtr (C := c_s_l7Area) m_ (⟨o_s_l7Cross, trivial⟩) Try.func39 (by kernel_rfl) k_s_l7Area
/-! loop.example/g00959/spec.l1Min -/
noncomputable def s_l1Min (x0 : Int) (x1 : Int) : Option (Int) :=
 cond (decide (x0 < x1))
 (some x0)
 (some x1)
noncomputable def e_s_l1Min : CallE := ⟨81, [.d false (.int .i64), .d false (.int .i64)], [.l (.d false (.int .i64))], fun x => s_l1Min x.1 x.2⟩
noncomputable def c_s_l1Min : Ctx := ⟨Try.prog, TT, [], [], [], [], [], []⟩
theorem k_s_l1Min (x : PMs.den e_s_l1Min.ps) : funK c_s_l1Min Try.f81 e_s_l1Min.ps e_s_l1Min.rs x = e_s_l1Min.F x := by kernel_rfl
theorem o_s_l1Min {D : Prop} : FnOk Try.prog e_s_l1Min.f ∧ Ctr D Try.prog e_s_l1Min := mkCtr (C := c_s_l1Min) m_ (trivial) Try.func81 (by kernel_rfl) k_s_l1Min
/-! loop.example/g00959/spec.l1Max -/
noncomputable def s_l1Max (x0 : Int) (x1 : Int) : Option (Int) :=
 cond (decide (x0 > x1))
 (some x0)
 (some x1)
noncomputable def e_s_l1Max : CallE := ⟨82, [.d false (.int .i64), .d false (.int .i64)], [.l (.d false (.int .i64))], fun x => s_l1Max x.1 x.2⟩
noncomputable def c_s_l1Max : Ctx := ⟨Try.prog, TT, [], [], [], [], [], []⟩
theorem k_s_l1Max (x : PMs.den e_s_l1Max.ps) : funK c_s_l1Max Try.f82 e_s_l1Max.ps e_s_l1Max.rs x = e_s_l1Max.F x := by kernel_rfl
theorem o_s_l1Max {D : Prop} : FnOk Try.prog e_s_l1Max.f ∧ Ctr D Try.prog e_s_l1Max := mkCtr (C := c_s_l1Max) m_ (trivial) Try.func82 (by kernel_rfl) k_s_l1Max
/-! loop.example/g00959/spec.l7Place -/
noncomputable def s_l7Place_s3 (x0 : List (List Int)) (x1 : List Int) (v1 : Int × Int) : Option ((Int × Int) ⊕ ((Int) ⊕ (Int))) :=
 cond (decide (v1.2 < (x0.length : Int)))
 ((idx x0 v1.2).bind fun v2 => (remI .i64 (IntKind.i64.wrap (v1.2 + (1 : Int))) (x0.length : Int)).bind fun v3 => (idx x0 v3).bind fun v4 => (s_l7Turn v2 v4 x1).bind fun v5 => cond (decide (v5 < (0 : Int)))
 (some (.inr (.inr (-1 : Int))))
 (cond (v5 == (0 : Int))
 (some (.inl ((0 : Int), (IntKind.i64.wrap (v1.2 + (1 : Int))))))
 (some (.inl (v1.1, (IntKind.i64.wrap (v1.2 + (1 : Int))))))))
 (some (.inr (.inl v1.1)))
noncomputable def s_l7Place (x0 : List (List Int)) (x1 : List Int) : Option (Int) :=
(iter (s_l7Place_s3 x0 x1) ((1 : Int), (0 : Int))).bind fun v6 => match v6 with
 | .inl v7 => (some v7)
 | .inr v8 => (some v8)
noncomputable def e_s_l7Place : CallE := ⟨53, [.d false (.list (.list (.int .i64))), .d false (.list (.int .i64))], [.l (.d false (.int .i64))], fun x => s_l7Place x.1 x.2⟩
noncomputable def c_s_l7Place : Ctx := ⟨Try.prog, TT, [e_s_l7Turn], [⟨3, [(5, .l (.d false (.int .i64))), (6, .l (.d false (.int .i64)))], some (0, [(5, .l (.d false (.int .i64)))]), some [(4, .l (.d false (.int .i64)))], false⟩], [], [], [], []⟩
theorem k_s_l7Place (x : PMs.den e_s_l7Place.ps) : funK c_s_l7Place Try.f53 e_s_l7Place.ps e_s_l7Place.rs x = e_s_l7Place.F x := by kernel_rfl
theorem o_s_l7Place {D : Prop} : FnOk Try.prog e_s_l7Place.f ∧ Ctr D Try.prog e_s_l7Place := mkCtr (C := c_s_l7Place) m_ (⟨o_s_l7Turn, trivial⟩) Try.func53 (by kernel_rfl) k_s_l7Place
/-! loop.example/g00959/spec.l7Points -/
noncomputable def s_l7Points_s6 (x0 : List (List Int)) (v7 : List (List Int) × Int × Int × Int × Int) : Option ((List (List Int) × Int × Int × Int × Int) ⊕ (List (List Int) × Int × Int × Int)) :=
 cond (decide (v7.2.2.2.2 < (x0.length : Int)))
 ((idx x0 v7.2.2.2.2).bind fun v8 => (idx v8 (1 : Int)).bind fun v9 => (s_l1Min v7.2.1 v9).bind fun v10 => (idx x0 v7.2.2.2.2).bind fun v11 => (idx v11 (1 : Int)).bind fun v12 => (s_l1Max v7.2.2.1 v12).bind fun v13 => (idx x0 v7.2.2.2.2).bind fun v14 => (idx v14 (0 : Int)).bind fun v15 => (s_l1Max v7.2.2.2.1 v15).bind fun v16 => some (.inl (v7.1, (v10, (v13, (v16, (IntKind.i64.wrap (v7.2.2.2.2 + (1 : Int)))))))))
 (some (.inr (v7.1, (v7.2.1, (v7.2.2.1, v7.2.2.2.1)))))
noncomputable def s_l7Points_s15 (x0 : List (List Int)) (v17 : List (List Int) × Int × Int × Int) (v20 : List (List Int) × Int) (v21 : List (List Int) × Int) : Option ((List (List Int) × Int) ⊕ (List (List Int))) :=
 cond (decide (v21.2 ≤ v17.2.2.1))
 ((s_l7Place x0 ([v20.2, v21.2] : List Int)).bind fun v22 => cond (decide (v22 ≥ (0 : Int)))
 ((appD 24 v21.1 ([([v20.2, v21.2] : List Int)] : List (List Int))).bind fun v23 => some (.inl (v23, (IntKind.i64.wrap (v21.2 + (1 : Int))))))
 (some (.inl (v21.1, (IntKind.i64.wrap (v21.2 + (1 : Int)))))))
 (some (.inr v21.1))
noncomputable def s_l7Points_s12 (x0 : List (List Int)) (v17 : List (List Int) × Int × Int × Int) (v20 : List (List Int) × Int) : Option ((List (List Int) × Int) ⊕ (List (List Int))) :=
 cond (decide (v20.2 ≤ v17.2.2.2))
 ((iter (s_l7Points_s15 x0 v17 v20) (v20.1, v17.2.1)).bind fun v24 => some (.inl (v24, (IntKind.i64.wrap (v20.2 + (1 : Int))))))
 (some (.inr v20.1))
noncomputable def s_l7Points (x0 : List (List Int)) : Option (List (List Int)) :=
(idx x0 (0 : Int)).bind fun v1 => (idx v1 (1 : Int)).bind fun v2 => (idx x0 (0 : Int)).bind fun v3 => (idx v3 (1 : Int)).bind fun v4 => (idx x0 (0 : Int)).bind fun v5 => (idx v5 (0 : Int)).bind fun v6 => (iter (s_l7Points_s6 x0) (([] : List (List Int)), (v2, (v4, (v6, (0 : Int)))))).bind fun v17 => (idx x0 (0 : Int)).bind fun v18 => (idx v18 (0 : Int)).bind fun v19 => (iter (s_l7Points_s12 x0 v17) (v17.1, v19)).bind fun v25 => some v25
noncomputable def e_s_l7Points : CallE := ⟨76, [.d false (.list (.list (.int .i64)))], [.l (.o true 36 (.list (.int .i64)))], fun x => s_l7Points x⟩
noncomputable def c_s_l7Points : Ctx := ⟨Try.prog, TT, [e_s_l1Min, e_s_l1Max, e_s_l7Place], [⟨6, [(3, .l (.o true 36 (.list (.int .i64)))), (4, .l (.d false (.int .i64))), (5, .l (.d false (.int .i64))), (6, .l (.d false (.int .i64))), (7, .l (.d false (.int .i64)))], some (0, [(3, .l (.o true 36 (.list (.int .i64)))), (4, .l (.d false (.int .i64))), (5, .l (.d false (.int .i64))), (6, .l (.d false (.int .i64)))]), none, false⟩, ⟨12, [(3, .l (.o true 36 (.list (.int .i64)))), (8, .l (.d false (.int .i64)))], some (2, [(3, .l (.o true 36 (.list (.int .i64))))]), none, false⟩, ⟨15, [(3, .l (.o true 36 (.list (.int .i64)))), (9, .l (.d false (.int .i64)))], some (4, [(3, .l (.o true 36 (.list (.int .i64))))]), none, false⟩], [], [], [], []⟩
theorem k_s_l7Points (x : PMs.den e_s_l7Points.ps) : funK c_s_l7Points Try.f76 e_s_l7Points.ps e_s_l7Points.rs x = e_s_l7Points.F x := by kernel_rfl
theorem o_s_l7Points {D : Prop} : FnOk Try.prog e_s_l7Points.f ∧ Ctr D Try.prog e_s_l7Points := mkCtr (C := c_s_l7Points) m_ (⟨o_s_l1Min, o_s_l1Max, o_s_l7Place, trivial⟩) Try.func76 (by kernel_rfl) k_s_l7Points
/-! loop.example/g00959/spec.l20Other -/
noncomputable def s_l20Other_s5 (x0 : List (List Int)) (v8 : List (List Int)) (v9 : Int) : Option ((Int) ⊕ ((Unit) ⊕ (List Int × Bool))) :=
 cond (decide (v9 < (v8.length : Int)))
 ((idx v8 v9).bind fun v10 => (idx x0 (0 : Int)).bind fun v11 => (s_l2Same v10 v11).bind fun v12 => cond (!v12)
 ((idx v8 v9).bind fun v13 => (idx x0 (1 : Int)).bind fun v14 => (s_l2Same v13 v14).bind fun v15 => cond (!v15)
 ((idx v8 v9).bind fun v16 => (idx x0 (2 : Int)).bind fun v17 => (s_l2Same v16 v17).bind fun v18 => cond (!v18)
 ((idx v8 v9).bind fun v19 => some (.inr (.inr (v19, true))))
 (some (.inl (IntKind.i64.wrap (v9 + (1 : Int))))))
 (some (.inl (IntKind.i64.wrap (v9 + (1 : Int))))))
 (some (.inl (IntKind.i64.wrap (v9 + (1 : Int))))))
 (some (.inr (.inl ())))
noncomputable def s_l20Other (x0 : List (List Int)) : Option (List Int × Bool) :=
(idx x0 (0 : Int)).bind fun v1 => (s_l2Put ([] : List (List Int)) v1).bind fun v2 => (idx x0 (1 : Int)).bind fun v3 => (s_l2Put v2 v3).bind fun v4 => (idx x0 (2 : Int)).bind fun v5 => (s_l2Put v4 v5).bind fun v6 => (s_l7Hull v6).bind fun v7 => (s_l7Points v7).bind fun v8 => (iter (s_l20Other_s5 x0 v8) (0 : Int)).bind fun v20 => match v20 with
 | .inl v21 => (some (([] : List Int), false))
 | .inr v22 => (some (v22.1, v22.2))
noncomputable def e_s_l20Other : CallE := ⟨48, [.d false (.list (.list (.int .i64)))], [.l (.d false (.list (.int .i64))), .l (.d false .bool)], fun x => s_l20Other x⟩
noncomputable def c_s_l20Other : Ctx := ⟨Try.prog, TT, [e_s_l2Put, e_s_l7Hull, e_s_l7Points, e_s_l2Same], [⟨5, [(7, .l (.d false (.int .i64)))], some (0, []), some [(2, .l (.d false (.list (.int .i64)))), (3, .l (.d false .bool))], false⟩], [], [], [], []⟩
theorem k_s_l20Other (x : PMs.den e_s_l20Other.ps) : funK c_s_l20Other Try.f48 e_s_l20Other.ps e_s_l20Other.rs x = e_s_l20Other.F x := by kernel_rfl
theorem o_s_l20Other {D : Prop} : FnOk Try.prog e_s_l20Other.f ∧ Ctr D Try.prog e_s_l20Other := mkCtr (C := c_s_l20Other) m_ (⟨o_s_l2Put, o_s_l7Hull, o_s_l7Points, o_s_l2Same, trivial⟩) Try.func48 (by kernel_rfl) k_s_l20Other
/-! loop.example/g00959/spec.l20Area -/
noncomputable def s_l20Area (x0 : List (List Int)) : Option (Int) :=
(idx x0 (0 : Int)).bind fun v1 => (idx x0 (1 : Int)).bind fun v2 => (idx x0 (2 : Int)).bind fun v3 => (s_l7Turn v1 v2 v3).bind fun v4 => some v4
noncomputable def e_s_l20Area : CallE := ⟨47, [.d false (.list (.list (.int .i64)))], [.l (.d false (.int .i64))], fun x => s_l20Area x⟩
noncomputable def c_s_l20Area : Ctx := ⟨Try.prog, TT, [e_s_l7Turn], [], [], [], [], []⟩
theorem k_s_l20Area (x : PMs.den e_s_l20Area.ps) : funK c_s_l20Area Try.f47 e_s_l20Area.ps e_s_l20Area.rs x = e_s_l20Area.F x := by kernel_rfl
theorem o_s_l20Area {D : Prop} : FnOk Try.prog e_s_l20Area.f ∧ Ctr D Try.prog e_s_l20Area := mkCtr (C := c_s_l20Area) m_ (⟨o_s_l7Turn, trivial⟩) Try.func47 (by kernel_rfl) k_s_l20Area
/-! loop.example/g00959/spec.l20Split -/
noncomputable def s_l20Split_s5 (rec : (List (List Int)) → (List (List (List Int))) → Option (List (List (List Int)))) (x0 : List (List Int)) (v1 : List Int × Bool) (v4 : List (List (List Int)) × Int) : Option ((List (List (List Int)) × Int) ⊕ (List (List (List Int)))) :=
 cond (decide (v4.2 < (3 : Int)))
 ((idx x0 v4.2).bind fun v5 => (remI .i64 (IntKind.i64.wrap (v4.2 + (1 : Int))) (3 : Int)).bind fun v6 => (idx x0 v6).bind fun v7 => (s_l20Area ([v1.1, v5, v7] : List (List Int))).bind fun v8 => cond (v8 != (0 : Int))
 ((rec ([v1.1, v5, v7] : List (List Int)) v4.1).bind fun v9 => some (.inl (v9, (IntKind.i64.wrap (v4.2 + (1 : Int))))))
 (some (.inl (v4.1, (IntKind.i64.wrap (v4.2 + (1 : Int)))))))
 (some (.inr v4.1))
noncomputable def s_l20SplitB (rec : (List (List Int)) → (List (List (List Int))) → Option (List (List (List Int)))) (x0 : List (List Int)) (x1 : List (List (List Int))) : Option (List (List (List Int))) :=
(s_l20Other x0).bind fun v1 => cond (!v1.2)
 ((s_l7Copy x0).bind fun v2 => (appD 24 x1 ([v2] : List (List (List Int)))).bind fun v3 => some v3)
 ((iter (s_l20Split_s5 rec x0 v1) (x1, (0 : Int))).bind fun v10 => some v10)
noncomputable def s_l20SplitR : Nat → (List (List Int)) → (List (List (List Int))) → Option (List (List (List Int)))
  | 0 => fun _ _ => none
  | n + 1 => s_l20SplitB (s_l20SplitR n)
noncomputable def s_l20Split (x0 : List (List Int)) (x1 : List (List (List Int))) : Option (List (List (List Int))) := s_l20SplitR 30000 x0 x1
noncomputable def e_s_l20Split : CallE := ⟨40, [.d false (.list (.list (.int .i64))), .mv true 22 (.list (.list (.int .i64)))], [.l (.o true 22 (.list (.list (.int .i64))))], fun x => s_l20Split x.1 x.2⟩
noncomputable def r_s_l20Split (rec : (List (List Int)) → (List (List (List Int))) → Option (List (List (List Int)))) : CallE := ⟨40, [.d false (.list (.list (.int .i64))), .mv true 22 (.list (.list (.int .i64)))], [.l (.o true 22 (.list (.list (.int .i64))))], fun x => rec x.1 x.2⟩
noncomputable def c_s_l20Split (rec : (List (List Int)) → (List (List (List Int))) → Option (List (List (List Int)))) : Ctx := ⟨Try.prog, TT, [e_s_l20Other, e_s_l7Copy, e_s_l20Area, r_s_l20Split rec], [⟨5, [(1, .l (.o true 22 (.list (.list (.int .i64))))), (7, .l (.d false (.int .i64)))], some (0, [(1, .l (.o true 22 (.list (.list (.int .i64)))))]), none, false⟩], [], [], [], []⟩
theorem k_s_l20Split (rec : (List (List Int)) → (List (List (List Int))) → Option (List (List (List Int)))) (x : PMs.den (r_s_l20Split rec).ps) : funK (c_s_l20Split rec) Try.f40 (r_s_l20Split rec).ps (r_s_l20Split rec).rs x = (r_s_l20Split (s_l20SplitB rec)).F x := by kernel_rfl
theorem oB_s_l20Split {D : Prop} (rec : (List (List Int)) → (List (List (List Int))) → Option (List (List (List Int)))) (h : FnOk Try.prog (r_s_l20Split rec).f ∧ Ctr D Try.prog (r_s_l20Split rec)) : FnOk Try.prog (r_s_l20Split (s_l20SplitB rec)).f ∧ Ctr D Try.prog (r_s_l20Split (s_l20SplitB rec)) := mkCtr (C := c_s_l20Split rec) m_ (⟨o_s_l20Other, o_s_l7Copy, o_s_l20Area, h, trivial⟩) Try.func40 (by kernel_rfl) (k_s_l20Split rec)
theorem oA_s_l20Split {D : Prop} : (n : Nat) → FnOk Try.prog (r_s_l20Split (s_l20SplitR n)).f ∧ Ctr D Try.prog (r_s_l20Split (s_l20SplitR n))
  | 0 => ⟨⟨Try.f40, _, Try.func40, by kernel_rfl, rfl⟩, fun x r h => by cases h⟩
  | n + 1 => oB_s_l20Split _ (oA_s_l20Split n)
theorem o_s_l20Split {D : Prop} : FnOk Try.prog e_s_l20Split.f ∧ Ctr D Try.prog e_s_l20Split := oA_s_l20Split 30000
/-! loop.example/g00959/spec.EmptyTriangles -/
noncomputable def s_EmptyTriangles_s5 (x0 : List (List Int)) (v3 : List (List (List Int)) × Int) : Option ((List (List (List Int)) × Int) ⊕ (List (List (List Int)))) :=
 cond (decide ((IntKind.i64.wrap (v3.2 + (1 : Int))) < (x0.length : Int)))
 ((idx x0 (0 : Int)).bind fun v4 => (idx x0 v3.2).bind fun v5 => (idx x0 (IntKind.i64.wrap (v3.2 + (1 : Int)))).bind fun v6 => (s_l20Split ([v4, v5, v6] : List (List Int)) v3.1).bind fun v7 => some (.inl (v7, (IntKind.i64.wrap (v3.2 + (1 : Int))))))
 (some (.inr v3.1))
noncomputable def s_EmptyTriangles (x0 : List (List Int)) : Option (List (List (List Int))) :=
(s_IsPolygon x0).bind fun v1 => cond (!v1)
 (some ([] : List (List (List Int))))
 ((s_l7Area x0).bind fun v2 => cond (decide (v2 > (200 : Int)))
 (some ([] : List (List (List Int))))
 ((iter (s_EmptyTriangles_s5 x0) (([] : List (List (List Int))), (1 : Int))).bind fun v8 => some v8))
noncomputable def e_s_EmptyTriangles : CallE := ⟨13, [.d false (.list (.list (.int .i64)))], [.l (.o true 22 (.list (.list (.int .i64))))], fun x => s_EmptyTriangles x⟩
noncomputable def c_s_EmptyTriangles : Ctx := ⟨Try.prog, TT, [e_s_IsPolygon, e_s_l7Area, e_s_l20Split], [⟨5, [(3, .l (.o true 22 (.list (.list (.int .i64))))), (4, .l (.d false (.int .i64)))], some (0, [(3, .l (.o true 22 (.list (.list (.int .i64)))))]), none, false⟩], [], [], [], []⟩
theorem k_s_EmptyTriangles (x : PMs.den e_s_EmptyTriangles.ps) : funK c_s_EmptyTriangles Try.f13 e_s_EmptyTriangles.ps e_s_EmptyTriangles.rs x = e_s_EmptyTriangles.F x := by kernel_rfl
theorem o_s_EmptyTriangles {D : Prop} : FnOk Try.prog e_s_EmptyTriangles.f ∧ Ctr D Try.prog e_s_EmptyTriangles := mkCtr (C := c_s_EmptyTriangles) m_ (⟨o_s_IsPolygon, o_s_l7Area, o_s_l20Split, trivial⟩) Try.func13 (by kernel_rfl) k_s_EmptyTriangles
/-! loop.example/g00959/spec.EdgesUsed -/
noncomputable def s_EdgesUsed_s7 (v1 : List (List (List Int))) (v2 : List (List Int) × Int) (v3 : List (List Int) × Int) : Option ((List (List Int) × Int) ⊕ (List (List Int))) :=
 cond (decide (v3.2 < (3 : Int)))
 ((idx v1 v2.2).bind fun v4 => (idx v4 v3.2).bind fun v5 => (idx v1 v2.2).bind fun v6 => (remI .i64 (IntKind.i64.wrap (v3.2 + (1 : Int))) (3 : Int)).bind fun v7 => (idx v6 v7).bind fun v8 => (s_l2Before v8 v5).bind fun v9 => cond v9
 ((idx v8 (0 : Int)).bind fun v10 => (idx v8 (1 : Int)).bind fun v11 => (idx v5 (0 : Int)).bind fun v12 => (idx v5 (1 : Int)).bind fun v13 => (s_l2Put v3.1 ([v10, v11, v12, v13] : List Int)).bind fun v14 => some (.inl (v14, (IntKind.i64.wrap (v3.2 + (1 : Int))))))
 ((idx v5 (0 : Int)).bind fun v15 => (idx v5 (1 : Int)).bind fun v16 => (idx v8 (0 : Int)).bind fun v17 => (idx v8 (1 : Int)).bind fun v18 => (s_l2Put v3.1 ([v15, v16, v17, v18] : List Int)).bind fun v19 => some (.inl (v19, (IntKind.i64.wrap (v3.2 + (1 : Int)))))))
 (some (.inr v3.1))
noncomputable def s_EdgesUsed_s4 (v1 : List (List (List Int))) (v2 : List (List Int) × Int) : Option ((List (List Int) × Int) ⊕ (List (List Int))) :=
 cond (decide (v2.2 < (v1.length : Int)))
 ((iter (s_EdgesUsed_s7 v1 v2) (v2.1, (0 : Int))).bind fun v20 => some (.inl (v20, (IntKind.i64.wrap (v2.2 + (1 : Int))))))
 (some (.inr v2.1))
noncomputable def s_EdgesUsed (x0 : List (List Int)) : Option (Int) :=
(s_EmptyTriangles x0).bind fun v1 => (iter (s_EdgesUsed_s4 v1) (([] : List (List Int)), (0 : Int))).bind fun v21 => cond ((v1.length : Int) == (0 : Int))
 (some (-1 : Int))
 (some (v21.length : Int))
noncomputable def e_s_EdgesUsed : CallE := ⟨6, [.d false (.list (.list (.int .i64)))], [.l (.d false (.int .i64))], fun x => s_EdgesUsed x⟩
noncomputable def c_s_EdgesUsed : Ctx := ⟨Try.prog, TT, [e_s_EmptyTriangles, e_s_l2Before, e_s_l2Put], [⟨4, [(4, .l (.o false 36 (.list (.int .i64)))), (5, .l (.d false (.int .i64)))], some (0, [(4, .l (.o false 36 (.list (.int .i64))))]), none, false⟩, ⟨7, [(4, .l (.o false 36 (.list (.int .i64)))), (6, .l (.d false (.int .i64)))], some (2, [(4, .l (.o false 36 (.list (.int .i64))))]), none, false⟩], [], [], [], []⟩
theorem k_s_EdgesUsed (x : PMs.den e_s_EdgesUsed.ps) : funK c_s_EdgesUsed Try.f6 e_s_EdgesUsed.ps e_s_EdgesUsed.rs x = e_s_EdgesUsed.F x := by kernel_rfl
theorem o_s_EdgesUsed {D : Prop} : FnOk Try.prog e_s_EdgesUsed.f ∧ Ctr D Try.prog e_s_EdgesUsed := mkCtr (C := c_s_EdgesUsed) m_ (⟨o_s_EmptyTriangles, o_s_l2Before, o_s_l2Put, trivial⟩) Try.func6 (by kernel_rfl) k_s_EdgesUsed
/-! loop.example/g00959/impl.within -/
noncomputable def i_within (x0 : Int) (x1 : Int) (x2 : Int) : Option (Bool) :=
 cond (decide (x0 ≥ x1))
 (some (decide (x0 ≤ x2)))
 (some false)
noncomputable def e_i_within : CallE := ⟨58, [.d false (.int .i64), .d false (.int .i64), .d false (.int .i64)], [.l (.d false .bool)], fun x => i_within x.1 x.2.1 x.2.2⟩
noncomputable def c_i_within : Ctx := ⟨Try.prog, TT, [], [], [], [], [], []⟩
theorem k_i_within (x : PMs.den e_i_within.ps) : funK c_i_within Try.f58 e_i_within.ps e_i_within.rs x = e_i_within.F x := by kernel_rfl
theorem o_i_within {D : Prop} : FnOk Try.prog e_i_within.f ∧ Ctr D Try.prog e_i_within := mkCtr (C := c_i_within) m_ (trivial) Try.func58 (by kernel_rfl) k_i_within
/-! loop.example/g00959/impl.allWithin -/
noncomputable def i_allWithin_s2 (x0 : List Int) (x1 : Int) (x2 : Int) (v1 : Int) : Option ((Int) ⊕ ((Unit) ⊕ (Bool))) :=
 cond (decide (v1 < (x0.length : Int)))
 ((idx x0 v1).bind fun v2 => (i_within v2 x1 x2).bind fun v3 => cond (!v3)
 (some (.inr (.inr false)))
 (some (.inl (IntKind.i64.wrap (v1 + (1 : Int))))))
 (some (.inr (.inl ())))
noncomputable def i_allWithin (x0 : List Int) (x1 : Int) (x2 : Int) : Option (Bool) :=
(iter (i_allWithin_s2 x0 x1 x2) (0 : Int)).bind fun v4 => match v4 with
 | .inl v5 => (some true)
 | .inr v6 => (some v6)
noncomputable def e_i_allWithin : CallE := ⟨65, [.d false (.list (.int .i64)), .d false (.int .i64), .d false (.int .i64)], [.l (.d false .bool)], fun x => i_allWithin x.1 x.2.1 x.2.2⟩
noncomputable def c_i_allWithin : Ctx := ⟨Try.prog, TT, [e_i_within], [⟨2, [(11, .l (.d false (.int .i64)))], some (0, []), some [(6, .l (.d false .bool))], false⟩], [], [], [], []⟩
theorem k_i_allWithin (x : PMs.den e_i_allWithin.ps) : funK c_i_allWithin Try.f65 e_i_allWithin.ps e_i_allWithin.rs x = e_i_allWithin.F x := by kernel_rfl
theorem o_i_allWithin {D : Prop} : FnOk Try.prog e_i_allWithin.f ∧ Ctr D Try.prog e_i_allWithin := mkCtr (C := c_i_allWithin) m_ (⟨o_i_within, trivial⟩) Try.func65 (by kernel_rfl) k_i_allWithin
/-! loop.example/g00959/impl.isPoint -/
noncomputable def i_isPoint (x0 : List Int) (x1 : Int) : Option (Bool) :=
 cond ((x0.length : Int) == (2 : Int))
 ((i_allWithin x0 (IntKind.i64.wrap (0 - x1)) x1).bind fun v1 => some v1)
 (some false)
noncomputable def e_i_isPoint : CallE := ⟨43, [.d false (.list (.int .i64)), .d false (.int .i64)], [.l (.d false .bool)], fun x => i_isPoint x.1 x.2⟩
noncomputable def c_i_isPoint : Ctx := ⟨Try.prog, TT, [e_i_allWithin], [], [], [], [], []⟩
theorem k_i_isPoint (x : PMs.den e_i_isPoint.ps) : funK c_i_isPoint Try.f43 e_i_isPoint.ps e_i_isPoint.rs x = e_i_isPoint.F x := by kernel_rfl
theorem o_i_isPoint {D : Prop} : FnOk Try.prog e_i_isPoint.f ∧ Ctr D Try.prog e_i_isPoint := mkCtr (C := c_i_isPoint) m_ (⟨o_i_allWithin, trivial⟩) Try.func43 (by kernel_rfl) k_i_isPoint
/-! loop.example/g00959/impl.minus -/
noncomputable def i_minus (x0 : List Int) (x1 : List Int) : Option (List Int) :=
(idx x0 (0 : Int)).bind fun v1 => (idx x1 (0 : Int)).bind fun v2 => (idx x0 (1 : Int)).bind fun v3 => (idx x1 (1 : Int)).bind fun v4 => some ([(IntKind.i64.wrap (v1 - v2)), (IntKind.i64.wrap (v3 - v4))] : List Int)
noncomputable def e_i_minus : CallE := ⟨67, [.d false (.list (.int .i64)), .d false (.list (.int .i64))], [.l (.o true 3 (.int .i64))], fun x => i_minus x.1 x.2⟩
noncomputable def c_i_minus : Ctx := ⟨Try.prog, TT, [], [], [], [], [], []⟩
theorem k_i_minus (x : PMs.den e_i_minus.ps) : funK c_i_minus Try.f67 e_i_minus.ps e_i_minus.rs x = e_i_minus.F x := by kernel_rfl
theorem o_i_minus {D : Prop} : FnOk Try.prog e_i_minus.f ∧ Ctr D Try.prog e_i_minus := mkCtr (C := c_i_minus) m_ (trivial) Try.func67 (by kernel_rfl) k_i_minus
/-! loop.example/g00959/impl.cross -/
noncomputable def i_cross (x0 : List Int) (x1 : List Int) : Option (Int) :=
(idx x0 (0 : Int)).bind fun v1 => (idx x1 (1 : Int)).bind fun v2 => (idx x0 (1 : Int)).bind fun v3 => (idx x1 (0 : Int)).bind fun v4 => some (IntKind.i64.wrap ((IntKind.i64.wrap (v1 * v2)) - (IntKind.i64.wrap (v3 * v4))))
noncomputable def e_i_cross : CallE := ⟨66, [.d false (.list (.int .i64)), .d false (.list (.int .i64))], [.l (.d false (.int .i64))], fun x => i_cross x.1 x.2⟩
noncomputable def c_i_cross : Ctx := ⟨Try.prog, TT, [], [], [], [], [], []⟩
theorem k_i_cross (x : PMs.den e_i_cross.ps) : funK c_i_cross Try.f66 e_i_cross.ps e_i_cross.rs x = e_i_cross.F x := by kernel_rfl
theorem o_i_cross {D : Prop} : FnOk Try.prog e_i_cross.f ∧ Ctr D Try.prog e_i_cross := mkCtr (C := c_i_cross) m_ (trivial) Try.func66 (by kernel_rfl) k_i_cross
/-! loop.example/g00959/impl.turn -/
noncomputable def i_turn (x0 : List Int) (x1 : List Int) (x2 : List Int) : Option (Int) :=
(i_minus x1 x0).bind fun v1 => (i_minus x2 x0).bind fun v2 => (i_cross v1 v2).bind fun v3 => some v3
noncomputable def e_i_turn : CallE := ⟨44, [.d false (.list (.int .i64)), .d false (.list (.int .i64)), .d false (.list (.int .i64))], [.l (.d false (.int .i64))], fun x => i_turn x.1 x.2.1 x.2.2⟩
noncomputable def c_i_turn : Ctx := ⟨Try.prog, TT, [e_i_minus, e_i_cross], [], [], [], [], []⟩
theorem k_i_turn (x : PMs.den e_i_turn.ps) : funK c_i_turn Try.f44 e_i_turn.ps e_i_turn.rs x = e_i_turn.F x := by kernel_rfl
theorem o_i_turn {D : Prop} : FnOk Try.prog e_i_turn.f ∧ Ctr D Try.prog e_i_turn := mkCtr (C := c_i_turn) m_ (⟨o_i_minus, o_i_cross, trivial⟩) Try.func44 (by kernel_rfl) k_i_turn
/-! cmp.isNaN[int] -/
noncomputable def g_cmp_isNaN (x0 : Int) : Option (Bool) :=
 some (x0 != x0)
noncomputable def e_g_cmp_isNaN : CallE := ⟨79, [.d false (.int .i64)], [.l (.d false .bool)], fun x => g_cmp_isNaN x⟩
noncomputable def c_g_cmp_isNaN : Ctx := ⟨Try.prog, TT, [], [], [], [], [], []⟩
theorem k_g_cmp_isNaN (x : PMs.den e_g_cmp_isNaN.ps) : funK c_g_cmp_isNaN Try.f79 e_g_cmp_isNaN.ps e_g_cmp_isNaN.rs x = e_g_cmp_isNaN.F x := by kernel_rfl
theorem o_g_cmp_isNaN {D : Prop} : FnOk Try.prog e_g_cmp_isNaN.f ∧ Ctr D Try.prog e_g_cmp_isNaN := mkCtr (C := c_g_cmp_isNaN) m_ (trivial) Try.func79 (by kernel_rfl) k_g_cmp_isNaN
/-! cmp.Compare[int] -/
noncomputable def g_cmp_Compare (x0 : Int) (x1 : Int) : Option (Int) :=
(g_cmp_isNaN x0).bind fun v1 => (g_cmp_isNaN x1).bind fun v2 => cond v1
 (cond v2
 (some (0 : Int))
 (some (-1 : Int)))
 (cond v2
 (some (1 : Int))
 (cond (decide (x0 < x1))
 (some (-1 : Int))
 (cond (decide (x0 > x1))
 (some (1 : Int))
 (some (0 : Int)))))
noncomputable def e_g_cmp_Compare : CallE := ⟨56, [.d false (.int .i64), .d false (.int .i64)], [.l (.d false (.int .i64))], fun x => g_cmp_Compare x.1 x.2⟩
noncomputable def c_g_cmp_Compare : Ctx := ⟨Try.prog, TT, [e_g_cmp_isNaN], [], [], [], [], []⟩
theorem k_g_cmp_Compare (x : PMs.den e_g_cmp_Compare.ps) : funK c_g_cmp_Compare Try.f56 e_g_cmp_Compare.ps e_g_cmp_Compare.rs x = e_g_cmp_Compare.F x := by kernel_rfl
theorem o_g_cmp_Compare {D : Prop} : FnOk Try.prog e_g_cmp_Compare.f ∧ Ctr D Try.prog e_g_cmp_Compare := mkCtr (C := c_g_cmp_Compare) m_ (⟨o_g_cmp_isNaN, trivial⟩) Try.func56 (by kernel_rfl) k_g_cmp_Compare
/-! slices.Compare[[]int,int] -/
noncomputable def g_slices_Compare_s2 (x0 : List Int) (x1 : List Int) (v1 : Int) : Option ((Int) ⊕ ((Unit) ⊕ (Int))) :=
 cond (decide (v1 < (x0.length : Int)))
 ((idx x0 v1).bind fun v2 => cond (decide (v1 ≥ (x1.length : Int)))
 (some (.inr (.inr (1 : Int))))
 ((idx x1 v1).bind fun v3 => (g_cmp_Compare v2 v3).bind fun v4 => cond (v4 != (0 : Int))
 (some (.inr (.inr v4)))
 (some (.inl (IntKind.i64.wrap (v1 + (1 : Int)))))))
 (some (.inr (.inl ())))
noncomputable def g_slices_Compare (x0 : List Int) (x1 : List Int) : Option (Int) :=
(iter (g_slices_Compare_s2 x0 x1) (0 : Int)).bind fun v5 => match v5 with
 | .inl v6 => (cond (decide ((x0.length : Int) < (x1.length : Int)))
 (some (-1 : Int))
 (some (0 : Int)))
 | .inr v7 => (some v7)
noncomputable def e_g_slices_Compare : CallE := ⟨29, [.d false (.list (.int .i64)), .d false (.list (.int .i64))], [.l (.d false (.int .i64))], fun x => g_slices_Compare x.1 x.2⟩
noncomputable def c_g_slices_Compare : Ctx := ⟨Try.prog, TT, [e_g_cmp_Compare], [⟨2, [(11, .l (.d false (.int .i64)))], some (0, []), some [(4, .l (.d false (.int .i64)))], false⟩], [], [], [], []⟩
theorem k_g_slices_Compare (x : PMs.den e_g_slices_Compare.ps) : funK c_g_slices_Compare Try.f29 e_g_slices_Compare.ps e_g_slices_Compare.rs x = e_g_slices_Compare.F x := by kernel_rfl
theorem o_g_slices_Compare {D : Prop} : FnOk Try.prog e_g_slices_Compare.f ∧ Ctr D Try.prog e_g_slices_Compare := mkCtr (C := c_g_slices_Compare) m_ (⟨o_g_cmp_Compare, trivial⟩) Try.func29 (by kernel_rfl) k_g_slices_Compare
/-! loop.example/g00959/impl.IsPolygon -/
noncomputable def i_IsPolygon_s4 (x0 : List (List Int)) (v2 : Int) : Option ((Int) ⊕ ((Unit) ⊕ (Bool))) :=
 cond (decide (v2 < (x0.length : Int)))
 ((idx x0 v2).bind fun v3 => (i_isPoint v3 (50 : Int)).bind fun v4 => cond (!v4)
 (some (.inr (.inr false)))
 (some (.inl (IntKind.i64.wrap (v2 + (1 : Int))))))
 (some (.inr (.inl ())))
noncomputable def i_IsPolygon_s11 (x0 : List (List Int)) (v8 : Int) : Option ((Int) ⊕ ((Unit) ⊕ (Bool))) :=
 cond (decide (v8 < (x0.length : Int)))
 ((idx x0 v8).bind fun v9 => (remI .i64 (IntKind.i64.wrap (v8 + (1 : Int))) (x0.length : Int)).bind fun v10 => (idx x0 v10).bind fun v11 => (remI .i64 (IntKind.i64.wrap (v8 + (2 : Int))) (x0.length : Int)).bind fun v12 => (idx x0 v12).bind fun v13 => (i_turn v9 v11 v13).bind fun v14 => cond (decide (v14 ≤ (0 : Int)))
 (some (.inr (.inr false)))
 (cond (decide (v8 > (0 : Int)))
 ((idx x0 (0 : Int)).bind fun v15 => (g_slices_Compare v15 v9).bind fun v16 => cond (decide (v16 ≥ (0 : Int)))
 (some (.inr (.inr false)))
 (cond (decide (v8 > (0 : Int)))
 (cond (decide (v8 < (IntKind.i64.wrap ((x0.length : Int) - (1 : Int)))))
 ((idx x0 (0 : Int)).bind fun v17 => (idx x0 (IntKind.i64.wrap (v8 + (1 : Int)))).bind fun v18 => (i_turn v17 v9 v18).bind fun v19 => cond (decide (v19 ≤ (0 : Int)))
 (some (.inr (.inr false)))
 (some (.inl (IntKind.i64.wrap (v8 + (1 : Int))))))
 (some (.inl (IntKind.i64.wrap (v8 + (1 : Int))))))
 (some (.inl (IntKind.i64.wrap (v8 + (1 : Int)))))))
 (cond (decide (v8 > (0 : Int)))
 (cond (decide (v8 < (IntKind.i64.wrap ((x0.length : Int) - (1 : Int)))))
 ((idx x0 (0 : Int)).bind fun v20 => (idx x0 (IntKind.i64.wrap (v8 + (1 : Int)))).bind fun v21 => (i_turn v20 v9 v21).bind fun v22 => cond (decide (v22 ≤ (0 : Int)))
 (some (.inr (.inr false)))
 (some (.inl (IntKind.i64.wrap (v8 + (1 : Int))))))
 (some (.inl (IntKind.i64.wrap (v8 + (1 : Int))))))
 (some (.inl (IntKind.i64.wrap (v8 + (1 : Int))))))))
 (some (.inr (.inl ())))
noncomputable def i_IsPolygon (x0 : List (List Int)) : Option (Bool) :=
(i_within (x0.length : Int) (3 : Int) (12 : Int)).bind fun v1 => cond (!v1)
 (some false)
 ((iter (i_IsPolygon_s4 x0) (0 : Int)).bind fun v5 => match v5 with
 | .inl v6 => ((iter (i_IsPolygon_s11 x0) (0 : Int)).bind fun v23 => match v23 with
 | .inl v24 => (some true)
 | .inr v25 => (some v25))
 | .inr v7 => (some v7))
noncomputable def e_i_IsPolygon : CallE := ⟨35, [.d false (.list (.list (.int .i64)))], [.l (.d false .bool)], fun x => i_IsPolygon x⟩
noncomputable def c_i_IsPolygon : Ctx := ⟨Try.prog, TT, [e_i_within, e_i_isPoint, e_i_turn, e_g_slices_Compare], [⟨4, [(14, .l (.d false (.int .i64)))], some (0, []), some [(2, .l (.d false .bool))], false⟩, ⟨11, [(26, .l (.d false (.int .i64)))], some (2, []), some [(2, .l (.d false .bool))], false⟩], [], [], [], []⟩
theorem k_i_IsPolygon (x : PMs.den e_i_IsPolygon.ps) : funK c_i_IsPolygon Try.f35 e_i_IsPolygon.ps e_i_IsPolygon.rs x = e_i_IsPolygon.F x := by kernel_rfl
theorem o_i_IsPolygon {D : Prop} : FnOk Try.prog e_i_IsPolygon.f ∧ Ctr D Try.prog e_i_IsPolygon := mkCtr (C := c_i_IsPolygon) m_ (⟨o_i_within, o_i_isPoint, o_i_turn, o_g_slices_Compare, trivial⟩) Try.func35 (by kernel_rfl) k_i_IsPolygon
/-! loop.example/g00959/impl.areaTwice -/
noncomputable def i_areaTwice_s3 (x0 : List (List Int)) (v1 : Int × Int) : Option ((Int × Int) ⊕ (Int)) :=
 cond (decide (v1.2 < (x0.length : Int)))
 ((idx x0 v1.2).bind fun v2 => (remI .i64 (IntKind.i64.wrap (v1.2 + (1 : Int))) (x0.length : Int)).bind fun v3 => (idx x0 v3).bind fun v4 => (i_cross v2 v4).bind fun v5 => some (.inl ((IntKind.i64.wrap (v1.1 + v5)), (IntKind.i64.wrap (v1.2 + (1 : Int))))))
 (some (.inr v1.1))
noncomputable def i_areaTwice (x0 : List (List Int)) : Option (Int) :=
(iter (i_areaTwice_s3 x0) ((0 : Int), (0 : Int))).bind fun v6 => some v6
noncomputable def e_i_areaTwice : CallE := ⟨59, [.d false (.list (.list (.int .i64)))], [.l (.d false (.int .i64))], fun x => i_areaTwice x⟩
noncomputable def c_i_areaTwice : Ctx := ⟨Try.prog, TT, [e_i_cross], [⟨3, [(3, .l (.d false (.int .i64))), (8, .l (.d false (.int .i64)))], some (0, [(3, .l (.d false (.int .i64)))]), none, false⟩], [], [], [], []⟩
theorem k_i_areaTwice (x : PMs.den e_i_areaTwice.ps) : funK c_i_areaTwice Try.f59 e_i_areaTwice.ps e_i_areaTwice.rs x = e_i_areaTwice.F x := by kernel_rfl
theorem o_i_areaTwice {D : Prop} : FnOk Try.prog e_i_areaTwice.f ∧ Ctr D Try.prog e_i_areaTwice := mkCtr (C := c_i_areaTwice) m_ (⟨o_i_cross, trivial⟩) Try.func59 (by kernel_rfl) k_i_areaTwice
/-! loop.example/g00959/impl.AreaTwice -/
noncomputable def i_AreaTwice (x0 : List (List Int)) : Option (Int) :=
(i_IsPolygon x0).bind fun v1 => cond (!v1)
 (some (-1 : Int))
 ((i_areaTwice x0).bind fun v2 => some v2)
noncomputable def e_i_AreaTwice : CallE := ⟨36, [.d false (.list (.list (.int .i64)))], [.l (.d false (.int .i64))], fun x => i_AreaTwice x⟩
noncomputable def c_i_AreaTwice : Ctx := ⟨Try.prog, TT, [e_i_IsPolygon, e_i_areaTwice], [], [], [], [], []⟩
theorem k_i_AreaTwice (x : PMs.den e_i_AreaTwice.ps) : funK c_i_AreaTwice Try.f36 e_i_AreaTwice.ps e_i_AreaTwice.rs x = e_i_AreaTwice.F x := by kernel_rfl
theorem o_i_AreaTwice {D : Prop} : FnOk Try.prog e_i_AreaTwice.f ∧ Ctr D Try.prog e_i_AreaTwice := mkCtr (C := c_i_AreaTwice) m_ (⟨o_i_IsPolygon, o_i_areaTwice, trivial⟩) Try.func36 (by kernel_rfl) k_i_AreaTwice
/-! loop.example/g00959/impl.copyInts -/
noncomputable def i_copyInts (x0 : List Int) : Option (List Int) :=
(appD 8 ([] : List Int) x0).bind fun v1 => some v1
noncomputable def e_i_copyInts : CallE := ⟨68, [.d false (.list (.int .i64))], [.l (.o true 3 (.int .i64))], fun x => i_copyInts x⟩
noncomputable def c_i_copyInts : Ctx := ⟨Try.prog, TT, [], [], [], [], [], []⟩
theorem k_i_copyInts (x : PMs.den e_i_copyInts.ps) : funK c_i_copyInts Try.f68 e_i_copyInts.ps e_i_copyInts.rs x = e_i_copyInts.F x := by kernel_rfl
theorem o_i_copyInts {D : Prop} : FnOk Try.prog e_i_copyInts.f ∧ Ctr D Try.prog e_i_copyInts := mkCtr (C := c_i_copyInts) m_ (trivial) Try.func68 (by kernel_rfl) k_i_copyInts
/-! loop.example/g00959/impl.lattice -/
noncomputable def i_lattice_s10 (x1 : List Int) (v1 : List (List Int) × Int) (v3 : List Int) (v5 : List (List Int) × Int) : Option ((List (List Int) × Int) ⊕ (List (List Int))) :=
(idx x1 v1.2).bind fun v6 => cond (decide (v5.2 ≤ v6))
 ((i_copyInts v3).bind fun v7 => (appD 8 v7 ([v5.2] : List Int)).bind fun v8 => (appD 24 v5.1 ([v8] : List (List Int))).bind fun v9 => some (.inl (v9, (IntKind.i64.wrap (v5.2 + (1 : Int))))))
 (some (.inr v5.1))
noncomputable def i_lattice_s7 (x0 : List Int) (x1 : List Int) (v1 : List (List Int) × Int) (v2 : List (List Int) × Int) : Option ((List (List Int) × Int) ⊕ (List (List Int))) :=
 cond (decide (v2.2 < (v1.1.length : Int)))
 ((idx v1.1 v2.2).bind fun v3 => (idx x0 v1.2).bind fun v4 => (iter (i_lattice_s10 x1 v1 v3) (v2.1, v4)).bind fun v10 => some (.inl (v10, (IntKind.i64.wrap (v2.2 + (1 : Int))))))
 (some (.inr v2.1))
noncomputable def i_lattice_s3 (x0 : List Int) (x1 : List Int) (v1 : List (List Int) × Int) : Option ((List (List Int) × Int) ⊕ (List (List Int))) :=
 cond (decide (v1.2 < (x0.length : Int)))
 ((iter (i_lattice_s7 x0 x1 v1) (([] : List (List Int)), (0 : Int))).bind fun v11 => some (.inl (v11, (IntKind.i64.wrap (v1.2 + (1 : Int))))))
 (some (.inr v1.1))
noncomputable def i_lattice (x0 : List Int) (x1 : List Int) : Option (List (List Int)) :=
(iter (i_lattice_s3 x0 x1) (([([] : List Int)] : List (List Int)), (0 : Int))).bind fun v12 => some v12
noncomputable def e_i_lattice : CallE := ⟨69, [.d false (.list (.int .i64)), .d false (.list (.int .i64))], [.l (.o true 36 (.list (.int .i64)))], fun x => i_lattice x.1 x.2⟩
noncomputable def c_i_lattice : Ctx := ⟨Try.prog, TT, [e_i_copyInts], [⟨3, [(5, .l (.o true 36 (.list (.int .i64)))), (14, .l (.d false (.int .i64)))], some (0, [(5, .l (.o true 36 (.list (.int .i64))))]), none, false⟩, ⟨7, [(7, .l (.o true 36 (.list (.int .i64)))), (19, .l (.d false (.int .i64)))], some (2, [(7, .l (.o true 36 (.list (.int .i64))))]), none, false⟩, ⟨10, [(7, .l (.o true 36 (.list (.int .i64)))), (10, .l (.d false (.int .i64)))], some (4, [(7, .l (.o true 36 (.list (.int .i64))))]), none, false⟩], [], [], [], []⟩
theorem k_i_lattice (x : PMs.den e_i_lattice.ps) : funK c_i_lattice Try.f69 e_i_lattice.ps e_i_lattice.rs x = e_i_lattice.F x := by kernel_rfl
theorem o_i_lattice {D : Prop} : FnOk Try.prog e_i_lattice.f ∧ Ctr D Try.prog e_i_lattice := mkCtr (C := c_i_lattice) m_ (⟨o_i_copyInts, trivial⟩) Try.func69 (by kernel_rfl) k_i_lattice
/-! loop.example/g00959/impl.placeOf -/
noncomputable def i_placeOf_s3 (x0 : List (List Int)) (x1 : List Int) (v1 : Int × Int) : Option ((Int × Int) ⊕ ((Int) ⊕ (Int))) :=
 cond (decide (v1.2 < (x0.length : Int)))
 ((idx x0 v1.2).bind fun v2 => (remI .i64 (IntKind.i64.wrap (v1.2 + (1 : Int))) (x0.length : Int)).bind fun v3 => (idx x0 v3).bind fun v4 => (i_turn v2 v4 x1).bind fun v5 => cond (decide (v5 < (0 : Int)))
 (some (.inr (.inr (-1 : Int))))
 (cond (v5 == (0 : Int))
 (some (.inl ((0 : Int), (IntKind.i64.wrap (v1.2 + (1 : Int))))))
 (some (.inl (v1.1, (IntKind.i64.wrap (v1.2 + (1 : Int))))))))
 (some (.inr (.inl v1.1)))
noncomputable def i_placeOf (x0 : List (List Int)) (x1 : List Int) : Option (Int) :=
(iter (i_placeOf_s3 x0 x1) ((1 : Int), (0 : Int))).bind fun v6 => match v6 with
 | .inl v7 => (some v7)
 | .inr v8 => (some v8)
noncomputable def e_i_placeOf : CallE := ⟨70, [.d false (.list (.list (.int .i64))), .d false (.list (.int .i64))], [.l (.d false (.int .i64))], fun x => i_placeOf x.1 x.2⟩
noncomputable def c_i_placeOf : Ctx := ⟨Try.prog, TT, [e_i_turn], [⟨3, [(5, .l (.d false (.int .i64))), (11, .l (.d false (.int .i64)))], some (0, [(5, .l (.d false (.int .i64)))]), some [(4, .l (.d false (.int .i64)))], false⟩], [], [], [], []⟩
theorem k_i_placeOf (x : PMs.den e_i_placeOf.ps) : funK c_i_placeOf Try.f70 e_i_placeOf.ps e_i_placeOf.rs x = e_i_placeOf.F x := by kernel_rfl
theorem o_i_placeOf {D : Prop} : FnOk Try.prog e_i_placeOf.f ∧ Ctr D Try.prog e_i_placeOf := mkCtr (C := c_i_placeOf) m_ (⟨o_i_turn, trivial⟩) Try.func70 (by kernel_rfl) k_i_placeOf
/-! slices.Equal[[]int,int] -/
noncomputable def g_slices_Equal_s4 (x0 : List Int) (x1 : List Int) (v1 : Int) : Option ((Int) ⊕ ((Unit) ⊕ (Bool))) :=
 cond (decide (v1 < (x0.length : Int)))
 ((idx x0 v1).bind fun v2 => (idx x1 v1).bind fun v3 => cond (v2 != v3)
 (some (.inr (.inr false)))
 (some (.inl (IntKind.i64.wrap (v1 + (1 : Int))))))
 (some (.inr (.inl ())))
noncomputable def g_slices_Equal (x0 : List Int) (x1 : List Int) : Option (Bool) :=
 cond ((x0.length : Int) != (x1.length : Int))
 (some false)
 ((iter (g_slices_Equal_s4 x0 x1) (0 : Int)).bind fun v4 => match v4 with
 | .inl v5 => (some true)
 | .inr v6 => (some v6))
noncomputable def e_g_slices_Equal : CallE := ⟨73, [.d false (.list (.int .i64)), .d false (.list (.int .i64))], [.l (.d false .bool)], fun x => g_slices_Equal x.1 x.2⟩
noncomputable def c_g_slices_Equal : Ctx := ⟨Try.prog, TT, [], [⟨4, [(13, .l (.d false (.int .i64)))], some (0, []), some [(4, .l (.d false .bool))], false⟩], [], [], [], []⟩
theorem k_g_slices_Equal (x : PMs.den e_g_slices_Equal.ps) : funK c_g_slices_Equal Try.f73 e_g_slices_Equal.ps e_g_slices_Equal.rs x = e_g_slices_Equal.F x := by kernel_rfl
theorem o_g_slices_Equal {D : Prop} : FnOk Try.prog e_g_slices_Equal.f ∧ Ctr D Try.prog e_g_slices_Equal := mkCtr (C := c_g_slices_Equal) m_ (trivial) Try.func73 (by kernel_rfl) k_g_slices_Equal
/-! loop.example/g00959/impl.firstPoint -/
noncomputable def i_firstPoint_s6 (v5 : List Int × List Int × Int) (v6 : List Int) (v7 : List Int × List Int × Int) : Option ((List Int × List Int × Int) ⊕ (List Int × List Int)) :=
 cond (decide (v7.2.2 < (v5.1.length : Int)))
 ((inIdx v7.1.length v7.2.2).bind fun _ => (idx v7.1 ((v7.2.2).toNat : Int)).bind fun v8 => (idx v6 v7.2.2).bind fun v9 => (inIdx v7.2.1.length v7.2.2).bind fun _ => (idx v7.2.1 ((v7.2.2).toNat : Int)).bind fun v10 => (idx v6 v7.2.2).bind fun v11 => (inIdx v7.1.length v7.2.2).bind fun _ => (inIdx v7.1.length ((v7.2.2).toNat : Int)).bind fun _ => (inIdx v7.2.1.length v7.2.2).bind fun _ => (inIdx v7.2.1.length ((v7.2.2).toNat : Int)).bind fun _ => some (.inl ((v7.1.set ((v7.2.2).toNat) (if v9 < v8 then v9 else v8)), ((v7.2.1.set ((v7.2.2).toNat) (if v11 > v10 then v11 else v10)), (IntKind.i64.wrap (v7.2.2 + (1 : Int)))))))
 (some (.inr (v7.1, v7.2.1)))
noncomputable def i_firstPoint_s3 (x0 : List (List Int)) (v5 : List Int × List Int × Int) : Option ((List Int × List Int × Int) ⊕ (List Int × List Int)) :=
 cond (decide (v5.2.2 < (x0.length : Int)))
 ((idx x0 v5.2.2).bind fun v6 => (iter (i_firstPoint_s6 v5 v6) (v5.1, (v5.2.1, (0 : Int)))).bind fun v12 => some (.inl (v12.1, (v12.2, (IntKind.i64.wrap (v5.2.2 + (1 : Int)))))))
 (some (.inr (v5.1, v5.2.1)))
noncomputable def i_firstPoint_s80_2 (x0 : List (List Int)) (v23 : List Int) (v25 : Int) : Option ((Int) ⊕ ((Unit) ⊕ (Int))) :=
 cond (decide (v25 < (x0.length : Int)))
 ((idx x0 v25).bind fun v26 => (g_slices_Equal v26 v23).bind fun v27 => cond v27
 (some (.inr (.inr v25)))
 (some (.inl (IntKind.i64.wrap (v25 + (1 : Int))))))
 (some (.inr (.inl ())))
noncomputable def i_firstPoint_s15 (x0 : List (List Int)) (v18 : List Int) (v19 : List Int) (v20 : List Int) (v21 : List (List Int)) (v22 : Int) : Option ((Int) ⊕ ((Unit) ⊕ (List Int))) :=
 cond (decide (v22 < (v21.length : Int)))
 ((idx v21 v22).bind fun v23 => (i_placeOf ([v18, v19, v20] : List (List Int)) v23).bind fun v24 => cond (decide (v24 ≥ (0 : Int)))
 ((iter (i_firstPoint_s80_2 x0 v23) (0 : Int)).bind fun v28 => match v28 with
 | .inl v29 => (cond (!decide ((-1 : Int) ≥ (0 : Int)))
 (some (.inr (.inr v23)))
 (some (.inl (IntKind.i64.wrap (v22 + (1 : Int))))))
 | .inr v30 => (cond (!decide (v30 ≥ (0 : Int)))
 (some (.inr (.inr v23)))
 (some (.inl (IntKind.i64.wrap (v22 + (1 : Int)))))))
 (some (.inl (IntKind.i64.wrap (v22 + (1 : Int))))))
 (some (.inr (.inl ())))
noncomputable def i_firstPoint_s80_2b40 (x0 : List (List Int)) (v36 : List Int) (v38 : Int) : Option ((Int) ⊕ ((Unit) ⊕ (Int))) :=
 cond (decide (v38 < (x0.length : Int)))
 ((idx x0 v38).bind fun v39 => (g_slices_Equal v39 v36).bind fun v40 => cond v40
 (some (.inr (.inr v38)))
 (some (.inl (IntKind.i64.wrap (v38 + (1 : Int))))))
 (some (.inr (.inl ())))
noncomputable def i_firstPoint_s15b43 (x0 : List (List Int)) (v34 : List (List Int)) (v35 : Int) : Option ((Int) ⊕ ((Unit) ⊕ (List Int))) :=
 cond (decide (v35 < (v34.length : Int)))
 ((idx v34 v35).bind fun v36 => (i_placeOf x0 v36).bind fun v37 => cond (decide (v37 ≥ (0 : Int)))
 ((iter (i_firstPoint_s80_2b40 x0 v36) (0 : Int)).bind fun v41 => match v41 with
 | .inl v42 => (cond (!decide ((-1 : Int) ≥ (0 : Int)))
 (some (.inr (.inr v36)))
 (some (.inl (IntKind.i64.wrap (v35 + (1 : Int))))))
 | .inr v43 => (cond (!decide (v43 ≥ (0 : Int)))
 (some (.inr (.inr v36)))
 (some (.inl (IntKind.i64.wrap (v35 + (1 : Int)))))))
 (some (.inl (IntKind.i64.wrap (v35 + (1 : Int))))))
 (some (.inr (.inl ())))
noncomputable def i_firstPoint (x0 : List (List Int)) : Option (List Int) :=
(idx x0 (0 : Int)).bind fun v1 => (i_copyInts v1).bind fun v2 => (idx x0 (0 : Int)).bind fun v3 => (i_copyInts v3).bind fun v4 => (iter (i_firstPoint_s3 x0) (v2, (v4, (0 : Int)))).bind fun v13 => (idx x0 (0 : Int)).bind fun v14 => (idx x0 (1 : Int)).bind fun v15 => (idx x0 (2 : Int)).bind fun v16 => (i_turn v14 v15 v16).bind fun v17 => cond (decide (v17 < (0 : Int)))
 ((idx x0 (0 : Int)).bind fun v18 => (idx x0 (2 : Int)).bind fun v19 => (idx x0 (1 : Int)).bind fun v20 => (i_lattice v13.1 v13.2).bind fun v21 => (iter (i_firstPoint_s15 x0 v18 v19 v20 v21) (0 : Int)).bind fun v31 => match v31 with
 | .inl v32 => (some ([] : List Int))
 | .inr v33 => ((nneD v33).bind fun _ => some v33))
 ((i_lattice v13.1 v13.2).bind fun v34 => (iter (i_firstPoint_s15b43 x0 v34) (0 : Int)).bind fun v44 => match v44 with
 | .inl v45 => (some ([] : List Int))
 | .inr v46 => ((nneD v46).bind fun _ => some v46))
noncomputable def e_i_firstPoint : CallE := ⟨45, [.d false (.list (.list (.int .i64)))], [.l (.d true (.list (.int .i64)))], fun x => i_firstPoint x⟩
noncomputable def c_i_firstPoint_72 : Ctx := ⟨Try.prog, TT, [e_g_slices_Equal], [], [], [], [], []⟩
noncomputable def n_i_firstPoint_72 : InE := ⟨72, true, inlK c_i_firstPoint_72 Try.f72⟩
theorem q_i_firstPoint_72 {D : Prop} : FnOk Try.prog n_i_firstPoint_72.f ∧ InOk D Try.prog n_i_firstPoint_72 := mkInlD (C := c_i_firstPoint_72) m_ (⟨o_g_slices_Equal, trivial⟩) Try.func72 (by kernel_rfl) (by kernel_rfl) rfl
noncomputable def c_i_firstPoint_80 : Ctx := ⟨Try.prog, TT, [], [⟨2, [(8, .l (.d false (.int .i64)))], some (0, []), some [(4, .l (.d false (.int .i64)))], false⟩], [], [n_i_firstPoint_72], [], []⟩
noncomputable def n_i_firstPoint_80 : InE := ⟨80, true, quietK (inlK c_i_firstPoint_80 Try.f80)⟩
theorem q_i_firstPoint_80 {D : Prop} : FnOk Try.prog n_i_firstPoint_80.f ∧ InOk D Try.prog n_i_firstPoint_80 := mkQuiet (C := c_i_firstPoint_80) m_ (trivial) Try.func80 (by kernel_rfl) ⟨q_i_firstPoint_72, trivial⟩
noncomputable def c_i_firstPoint_71 : Ctx := ⟨Try.prog, TT, [], [], [], [n_i_firstPoint_80], [], []⟩
noncomputable def n_i_firstPoint_71 : InE := ⟨71, false, inlK c_i_firstPoint_71 Try.f71⟩
theorem q_i_firstPoint_71 {D : Prop} : FnOk Try.prog n_i_firstPoint_71.f ∧ InOk D Try.prog n_i_firstPoint_71 := mkInl (C := c_i_firstPoint_71) m_ (trivial) Try.func71 (by kernel_rfl) ⟨q_i_firstPoint_80, trivial⟩
noncomputable def c_i_firstPoint : Ctx := ⟨Try.prog, TT, [e_i_copyInts, e_i_turn, e_i_lattice, e_i_placeOf], [⟨3, [(3, .l (.o true 3 (.int .i64))), (4, .l (.o true 3 (.int .i64))), (21, .l (.d false (.int .i64)))], some (0, [(3, .l (.o true 3 (.int .i64))), (4, .l (.o true 3 (.int .i64)))]), none, false⟩, ⟨6, [(3, .l (.o true 3 (.int .i64))), (4, .l (.o true 3 (.int .i64))), (27, .l (.d false (.int .i64)))], some (2, [(3, .l (.o true 3 (.int .i64))), (4, .l (.o true 3 (.int .i64)))]), none, false⟩, ⟨15, [(82, .l (.d false (.int .i64)))], some (4, []), some [(2, .l (.d false (.list (.int .i64))))], false⟩], [], [n_i_firstPoint_71], [], [(8, [0, 1, 2, 3, 4, 5, 8, 9, 13, 14, 17, 18, 6, 7, 10, 11, 12, 15, 16, 19, 20, 21, 22, 23, 24, 25])]⟩
theorem k_i_firstPoint (x : PMs.den e_i_firstPoint.ps) : funK c_i_firstPoint Try.f45 e_i_firstPoint.ps e_i_firstPoint.rs x = e_i_firstPoint.F x := by kernel_rfl
theorem o_i_firstPoint {D : Prop} : FnOk Try.prog e_i_firstPoint.f ∧ Ctr D Try.prog e_i_firstPoint := mkCtr (C := c_i_firstPoint) m_ (⟨o_i_copyInts, o_i_turn, o_i_lattice, o_i_placeOf, trivial⟩) Try.func45 (by kernel_rfl) k_i_firstPoint ⟨q_i_firstPoint_71, trivial⟩
/-! loop.example/g00959/impl.copyPoints -/
noncomputable def i_copyPoints_s3 (x0 : List (List Int)) (v1 : List (List Int) × Int) : Option ((List (List Int) × Int) ⊕ (List (List Int))) :=
 cond (decide (v1.2 < (x0.length : Int)))
 ((idx x0 v1.2).bind fun v2 => (i_copyInts v2).bind fun v3 => (appD 24 v1.1 ([v3] : List (List Int))).bind fun v4 => some (.inl (v4, (IntKind.i64.wrap (v1.2 + (1 : Int))))))
 (some (.inr v1.1))
noncomputable def i_copyPoints (x0 : List (List Int)) : Option (List (List Int)) :=
(iter (i_copyPoints_s3 x0) (([] : List (List Int)), (0 : Int))).bind fun v5 => some v5
noncomputable def e_i_copyPoints : CallE := ⟨60, [.d false (.list (.list (.int .i64)))], [.l (.o true 36 (.list (.int .i64)))], fun x => i_copyPoints x⟩
noncomputable def c_i_copyPoints : Ctx := ⟨Try.prog, TT, [e_i_copyInts], [⟨3, [(3, .l (.o true 36 (.list (.int .i64)))), (8, .l (.d false (.int .i64)))], some (0, [(3, .l (.o true 36 (.list (.int .i64))))]), none, false⟩], [], [], [], []⟩
theorem k_i_copyPoints (x : PMs.den e_i_copyPoints.ps) : funK c_i_copyPoints Try.f60 e_i_copyPoints.ps e_i_copyPoints.rs x = e_i_copyPoints.F x := by kernel_rfl
theorem o_i_copyPoints {D : Prop} : FnOk Try.prog e_i_copyPoints.f ∧ Ctr D Try.prog e_i_copyPoints := mkCtr (C := c_i_copyPoints) m_ (⟨o_i_copyInts, trivial⟩) Try.func60 (by kernel_rfl) k_i_copyPoints
/-! loop.example/g00959/impl.fill -/
noncomputable def i_fill_s6 (rec : (List (List Int)) → Option (List (List (List Int)))) (x0 : List (List Int)) (v1 : List Int) (v3 : List (List (List Int)) × Int) : Option ((List (List (List Int)) × Int) ⊕ (List (List (List Int)))) :=
 cond (decide (v3.2 < (x0.length : Int)))
 ((idx x0 v3.2).bind fun v4 => (remI .i64 (IntKind.i64.wrap (v3.2 + (1 : Int))) (3 : Int)).bind fun v5 => (idx x0 v5).bind fun v6 => (i_turn v1 v4 v6).bind fun v7 => cond (v7 != (0 : Int))
 ((rec ([v1, v4, v6] : List (List Int))).bind fun v8 => (appD 24 v3.1 v8).bind fun v9 => some (.inl (v9, (IntKind.i64.wrap (v3.2 + (1 : Int))))))
 (some (.inl (v3.1, (IntKind.i64.wrap (v3.2 + (1 : Int)))))))
 (some (.inr v3.1))
noncomputable def i_fillB (rec : (List (List Int)) → Option (List (List (List Int)))) (x0 : List (List Int)) : Option (List (List (List Int))) :=
(i_firstPoint x0).bind fun v1 => cond v1.isEmpty
 ((i_copyPoints x0).bind fun v2 => some ([v2] : List (List (List Int))))
 ((iter (i_fill_s6 rec x0 v1) (([] : List (List (List Int))), (0 : Int))).bind fun v10 => some v10)
noncomputable def i_fillR : Nat → (List (List Int)) → Option (List (List (List Int)))
  | 0 => fun _ => none
  | n + 1 => i_fillB (i_fillR n)
noncomputable def i_fill (x0 : List (List Int)) : Option (List (List (List Int))) := i_fillR 30000 x0
noncomputable def e_i_fill : CallE := ⟨37, [.d false (.list (.list (.int .i64)))], [.l (.o true 22 (.list (.list (.int .i64))))], fun x => i_fill x⟩
noncomputable def r_i_fill (rec : (List (List Int)) → Option (List (List (List Int)))) : CallE := ⟨37, [.d false (.list (.list (.int .i64)))], [.l (.o true 22 (.list (.list (.int .i64))))], fun x => rec x⟩
noncomputable def c_i_fill (rec : (List (List Int)) → Option (List (List (List Int)))) : Ctx := ⟨Try.prog, TT, [e_i_firstPoint, e_i_copyPoints, e_i_turn, r_i_fill rec], [⟨6, [(4, .l (.o true 22 (.list (.list (.int .i64))))), (17, .l (.d false (.int .i64)))], some (0, [(4, .l (.o true 22 (.list (.list (.int .i64)))))]), none, false⟩], [], [], [], []⟩
theorem k_i_fill (rec : (List (List Int)) → Option (List (List (List Int)))) (x : PMs.den (r_i_fill rec).ps) : funK (c_i_fill rec) Try.f37 (r_i_fill rec).ps (r_i_fill rec).rs x = (r_i_fill (i_fillB rec)).F x := by kernel_rfl
theorem oB_i_fill {D : Prop} (rec : (List (List Int)) → Option (List (List (List Int)))) (h : FnOk Try.prog (r_i_fill rec).f ∧ Ctr D Try.prog (r_i_fill rec)) : FnOk Try.prog (r_i_fill (i_fillB rec)).f ∧ Ctr D Try.prog (r_i_fill (i_fillB rec)) := mkCtr (C := c_i_fill rec) m_ (⟨o_i_firstPoint, o_i_copyPoints, o_i_turn, h, trivial⟩) Try.func37 (by kernel_rfl) (k_i_fill rec)
theorem oA_i_fill {D : Prop} : (n : Nat) → FnOk Try.prog (r_i_fill (i_fillR n)).f ∧ Ctr D Try.prog (r_i_fill (i_fillR n))
  | 0 => ⟨⟨Try.f37, _, Try.func37, by kernel_rfl, rfl⟩, fun x r h => by cases h⟩
  | n + 1 => oB_i_fill _ (oA_i_fill n)
theorem o_i_fill {D : Prop} : FnOk Try.prog e_i_fill.f ∧ Ctr D Try.prog e_i_fill := oA_i_fill 30000
/-! loop.example/g00959/impl.EmptyTriangles -/
noncomputable def i_EmptyTriangles_s5 (x0 : List (List Int)) (v3 : List (List (List Int)) × Int) : Option ((List (List (List Int)) × Int) ⊕ (List (List (List Int)))) :=
 cond (decide ((IntKind.i64.wrap (v3.2 + (1 : Int))) < (x0.length : Int)))
 ((idx x0 (0 : Int)).bind fun v4 => (idx x0 v3.2).bind fun v5 => (idx x0 (IntKind.i64.wrap (v3.2 + (1 : Int)))).bind fun v6 => (i_fill ([v4, v5, v6] : List (List Int))).bind fun v7 => (appD 24 v3.1 v7).bind fun v8 => some (.inl (v8, (IntKind.i64.wrap (v3.2 + (1 : Int))))))
 (some (.inr v3.1))
noncomputable def i_EmptyTriangles (x0 : List (List Int)) : Option (List (List (List Int))) :=
(i_IsPolygon x0).bind fun v1 => cond (!v1)
 (some ([] : List (List (List Int))))
 ((i_AreaTwice x0).bind fun v2 => cond (decide (v2 > (200 : Int)))
 (some ([] : List (List (List Int))))
 ((iter (i_EmptyTriangles_s5 x0) (([] : List (List (List Int))), (1 : Int))).bind fun v9 => (nneD v9).bind fun _ => some v9))
noncomputable def e_i_EmptyTriangles : CallE := ⟨12, [.d false (.list (.list (.int .i64)))], [.l (.d true (.list (.list (.list (.int .i64)))))], fun x => i_EmptyTriangles x⟩
noncomputable def c_i_EmptyTriangles : Ctx := ⟨Try.prog, TT, [e_i_IsPolygon, e_i_AreaTwice, e_i_fill], [⟨5, [(3, .l (.o true 22 (.list (.list (.int .i64))))), (4, .l (.d false (.int .i64)))], some (0, [(3, .l (.o true 22 (.list (.list (.int .i64)))))]), none, false⟩], [], [], [], []⟩
theorem k_i_EmptyTriangles (x : PMs.den e_i_EmptyTriangles.ps) : funK c_i_EmptyTriangles Try.f12 e_i_EmptyTriangles.ps e_i_EmptyTriangles.rs x = e_i_EmptyTriangles.F x := by kernel_rfl
theorem o_i_EmptyTriangles {D : Prop} : FnOk Try.prog e_i_EmptyTriangles.f ∧ Ctr D Try.prog e_i_EmptyTriangles := mkCtr (C := c_i_EmptyTriangles) m_ (⟨o_i_IsPolygon, o_i_AreaTwice, o_i_fill, trivial⟩) Try.func12 (by kernel_rfl) k_i_EmptyTriangles
/-! loop.example/g00959/impl.EdgesUsed -/
noncomputable def i_EdgesUsed_s9 (v3 : List (List Int)) (v4 : List (List Int) × Int) : Option ((List (List Int) × Int) ⊕ (List (List Int))) :=
 cond (decide (v4.2 < (v3.length : Int)))
 ((idx v3 v4.2).bind fun v5 => (remI .i64 (IntKind.i64.wrap (v4.2 + (1 : Int))) (3 : Int)).bind fun v6 => (idx v3 v6).bind fun v7 => (g_slices_Compare v5 v7).bind fun v8 => cond (decide (v8 > (0 : Int)))
 ((idx v7 (0 : Int)).bind fun v9 => (idx v7 (1 : Int)).bind fun v10 => (idx v5 (0 : Int)).bind fun v11 => (idx v5 (1 : Int)).bind fun v12 => if ([v9, v10, v11, v12] : List Int).all i64B ∧ v4.1.length < lim then (some (.inl ((insK v4.1 ([v9, v10, v11, v12] : List Int)), (IntKind.i64.wrap (v4.2 + (1 : Int)))))) else none)
 ((idx v5 (0 : Int)).bind fun v13 => (idx v5 (1 : Int)).bind fun v14 => (idx v7 (0 : Int)).bind fun v15 => (idx v7 (1 : Int)).bind fun v16 => if ([v13, v14, v15, v16] : List Int).all i64B ∧ v4.1.length < lim then (some (.inl ((insK v4.1 ([v13, v14, v15, v16] : List Int)), (IntKind.i64.wrap (v4.2 + (1 : Int)))))) else none))
 (some (.inr v4.1))
noncomputable def i_EdgesUsed_s6 (v1 : List (List (List Int))) (v2 : List (List Int) × Int) : Option ((List (List Int) × Int) ⊕ (List (List Int))) :=
 cond (decide (v2.2 < (v1.length : Int)))
 ((idx v1 v2.2).bind fun v3 => (iter (i_EdgesUsed_s9 v3) (v2.1, (0 : Int))).bind fun v17 => some (.inl (v17, (IntKind.i64.wrap (v2.2 + (1 : Int))))))
 (some (.inr v2.1))
noncomputable def i_EdgesUsed (x0 : List (List Int)) : Option (Int) :=
(i_EmptyTriangles x0).bind fun v1 => cond v1.isEmpty
 (some (-1 : Int))
 ((iter (i_EdgesUsed_s6 v1) (([] : List (List Int)), (0 : Int))).bind fun v18 => some (v18.length : Int))
noncomputable def e_i_EdgesUsed : CallE := ⟨8, [.d false (.list (.list (.int .i64)))], [.l (.d false (.int .i64))], fun x => i_EdgesUsed x⟩
noncomputable def c_i_EdgesUsed : Ctx := ⟨Try.prog, TT, [e_i_EmptyTriangles, e_g_slices_Compare], [⟨6, [(4, .l (.m 4)), (17, .l (.d false (.int .i64)))], some (0, [(4, .l (.m 4))]), none, false⟩, ⟨9, [(4, .l (.m 4)), (23, .l (.d false (.int .i64)))], some (2, [(4, .l (.m 4))]), none, false⟩], [], [], [], []⟩
theorem k_i_EdgesUsed (x : PMs.den e_i_EdgesUsed.ps) : funK c_i_EdgesUsed Try.f8 e_i_EdgesUsed.ps e_i_EdgesUsed.rs x = e_i_EdgesUsed.F x := by kernel_rfl
theorem o_i_EdgesUsed {D : Prop} : FnOk Try.prog e_i_EdgesUsed.f ∧ Ctr D Try.prog e_i_EdgesUsed := mkCtr (C := c_i_EdgesUsed) m_ (⟨o_i_EmptyTriangles, o_g_slices_Compare, trivial⟩) Try.func8 (by kernel_rfl) k_i_EdgesUsed
/-! loop.example/g00959/laws.big -/
noncomputable def w_big (x0 : List Int) : Option (Bool) :=
 some (decide ((x0.length : Int) > (1048576 : Int)))
noncomputable def e_w_big : CallE := ⟨10, [.d false (.list (.int .u8))], [.l (.d false .bool)], fun x => w_big x⟩
noncomputable def c_w_big : Ctx := ⟨Try.prog, TT, [], [], [], [], [], []⟩
theorem k_w_big (x : PMs.den e_w_big.ps) : funK c_w_big Try.f10 e_w_big.ps e_w_big.rs x = e_w_big.F x := by kernel_rfl
theorem o_w_big {D : Prop} : FnOk Try.prog e_w_big.f ∧ Ctr D Try.prog e_w_big := mkCtr (C := c_w_big) m_ (trivial) Try.func10 (by kernel_rfl) k_w_big
/-! loop.example/g00959/spec.l1Byte -/
noncomputable def s_l1Byte (x0 : (List Int) × Int × Int) : Option ((Int) × ((List Int) × Int × Int) × Unit) :=
(shrI .i64 (IntKind.i64.wrap ((IntKind.i64.wrap (x0.2.2 * (6364136223846793005 : Int))) + (1442695040888963407 : Int))) (33 : Int)).bind fun v1 => (shrI .i64 (IntKind.i64.wrap ((IntKind.i64.wrap (x0.2.2 * (6364136223846793005 : Int))) + (1442695040888963407 : Int))) (45 : Int)).bind fun v2 => cond (decide (x0.2.1 < (x0.1.length : Int)))
 ((idx x0.1 x0.2.1).bind fun v3 => some ((andI .i64 (IntKind.i64.wrap ((andI .i64 (xorI .i64 v1 v2) (255 : Int)) + (IntKind.i64.wrap v3))) (255 : Int)), ((x0.1, ((IntKind.i64.wrap (x0.2.1 + (1 : Int))), (IntKind.i64.wrap ((IntKind.i64.wrap (x0.2.2 * (6364136223846793005 : Int))) + (1442695040888963407 : Int))))), ())))
 (some ((andI .i64 (xorI .i64 v1 v2) (255 : Int)), ((x0.1, (x0.2.1, (IntKind.i64.wrap ((IntKind.i64.wrap (x0.2.2 * (6364136223846793005 : Int))) + (1442695040888963407 : Int))))), ())))
noncomputable def e_s_l1Byte : CallE := ⟨64, [.cur 60], [.l (.d false (.int .i64))], fun x => s_l1Byte x⟩
noncomputable def c_s_l1Byte : Ctx := ⟨Try.prog, TT, [], [], [], [], [], []⟩
theorem k_s_l1Byte (x : PMs.den e_s_l1Byte.ps) : funK c_s_l1Byte Try.f64 e_s_l1Byte.ps e_s_l1Byte.rs x = e_s_l1Byte.F x := by kernel_rfl
theorem o_s_l1Byte {D : Prop} : FnOk Try.prog e_s_l1Byte.f ∧ Ctr D Try.prog e_s_l1Byte := mkCtr (C := c_s_l1Byte) m_ (trivial) Try.func64 (by kernel_rfl) k_s_l1Byte
/-! loop.example/g00959/spec.l1Below -/
noncomputable def s_l1Below (x0 : (List Int) × Int × Int) (x1 : Int) : Option ((Int) × ((List Int) × Int × Int) × Unit) :=
 cond (decide (x1 ≤ (0 : Int)))
 (some ((0 : Int), ((x0.1, (x0.2.1, x0.2.2)), ())))
 (cond (decide (x1 ≤ (256 : Int)))
 ((s_l1Byte (x0.1, (x0.2.1, x0.2.2))).bind fun v1 => (remI .i64 v1.1 x1).bind fun v2 => some (v2, ((v1.2.1.1, (v1.2.1.2.1, v1.2.1.2.2)), ())))
 ((s_l1Byte (x0.1, (x0.2.1, x0.2.2))).bind fun v3 => (s_l1Byte (v3.2.1.1, (v3.2.1.2.1, v3.2.1.2.2))).bind fun v4 => (s_l1Byte (v4.2.1.1, (v4.2.1.2.1, v4.2.1.2.2))).bind fun v5 => (s_l1Byte (v5.2.1.1, (v5.2.1.2.1, v5.2.1.2.2))).bind fun v6 => (remI .i64 (IntKind.i64.wrap ((IntKind.i64.wrap ((IntKind.i64.wrap ((IntKind.i64.wrap (v3.1 * (16777216 : Int))) + (IntKind.i64.wrap (v4.1 * (65536 : Int))))) + (IntKind.i64.wrap (v5.1 * (256 : Int))))) + v6.1)) x1).bind fun v7 => some (v7, ((v6.2.1.1, (v6.2.1.2.1, v6.2.1.2.2)), ()))))
noncomputable def e_s_l1Below : CallE := ⟨42, [.cur 60, .d false (.int .i64)], [.l (.d false (.int .i64))], fun x => s_l1Below x.1 x.2⟩
noncomputable def c_s_l1Below : Ctx := ⟨Try.prog, TT, [e_s_l1Byte], [], [], [], [], []⟩
theorem k_s_l1Below (x : PMs.den e_s_l1Below.ps) : funK c_s_l1Below Try.f42 e_s_l1Below.ps e_s_l1Below.rs x = e_s_l1Below.F x := by kernel_rfl
theorem o_s_l1Below {D : Prop} : FnOk Try.prog e_s_l1Below.f ∧ Ctr D Try.prog e_s_l1Below := mkCtr (C := c_s_l1Below) m_ (⟨o_s_l1Byte, trivial⟩) Try.func42 (by kernel_rfl) k_s_l1Below
/-! loop.example/g00959/spec.l1Once -/
noncomputable def s_l1Once (x0 : (List Int) × Int × Int) (x1 : Int) : Option ((Bool) × ((List Int) × Int × Int) × Unit) :=
(s_l1Below (x0.1, (x0.2.1, x0.2.2)) x1).bind fun v1 => some ((v1.1 == (0 : Int)), ((v1.2.1.1, (v1.2.1.2.1, v1.2.1.2.2)), ()))
noncomputable def e_s_l1Once : CallE := ⟨32, [.cur 60, .d false (.int .i64)], [.l (.d false .bool)], fun x => s_l1Once x.1 x.2⟩
noncomputable def c_s_l1Once : Ctx := ⟨Try.prog, TT, [e_s_l1Below], [], [], [], [], []⟩
theorem k_s_l1Once (x : PMs.den e_s_l1Once.ps) : funK c_s_l1Once Try.f32 e_s_l1Once.ps e_s_l1Once.rs x = e_s_l1Once.F x := by kernel_rfl
theorem o_s_l1Once {D : Prop} : FnOk Try.prog e_s_l1Once.f ∧ Ctr D Try.prog e_s_l1Once := mkCtr (C := c_s_l1Once) m_ (⟨o_s_l1Below, trivial⟩) Try.func32 (by kernel_rfl) k_s_l1Once
/-! loop.example/g00959/spec.l2Draw -/
noncomputable def s_l2Draw_s3 (x1 : Int) (x2 : Int) (v1 : (List Int × Int × Int) × List Int × Int) : Option (((List Int × Int × Int) × List Int × Int) ⊕ ((List Int × Int × Int) × List Int)) :=
 cond (decide (v1.2.2 < x1))
 ((s_l1Below (v1.1.1, (v1.1.2.1, v1.1.2.2)) (IntKind.i64.wrap ((IntKind.i64.wrap ((2 : Int) * x2)) + (1 : Int)))).bind fun v2 => (appD 8 v1.2.1 ([(IntKind.i64.wrap (v2.1 - x2))] : List Int)).bind fun v3 => some (.inl ((v2.2.1.1, (v2.2.1.2.1, v2.2.1.2.2)), (v3, (IntKind.i64.wrap (v1.2.2 + (1 : Int)))))))
 (some (.inr ((v1.1.1, (v1.1.2.1, v1.1.2.2)), v1.2.1)))
noncomputable def s_l2Draw (x0 : (List Int) × Int × Int) (x1 : Int) (x2 : Int) : Option ((List Int) × ((List Int) × Int × Int) × Unit) :=
(iter (s_l2Draw_s3 x1 x2) ((x0.1, (x0.2.1, x0.2.2)), (([] : List Int), (0 : Int)))).bind fun v4 => some (v4.2, ((v4.1.1, (v4.1.2.1, v4.1.2.2)), ()))
noncomputable def e_s_l2Draw : CallE := ⟨41, [.cur 60, .d false (.int .i64), .d false (.int .i64)], [.l (.o true 3 (.int .i64))], fun x => s_l2Draw x.1 x.2.1 x.2.2⟩
noncomputable def c_s_l2Draw : Ctx := ⟨Try.prog, TT, [e_s_l1Below], [⟨3, [(0, .b 60 [(.d false (.list (.int .u8))), (.d false (.int .i64)), (.d false (.int .i64))]), (7, .l (.o true 3 (.int .i64))), (8, .l (.d false (.int .i64)))], some (0, [(0, .b 60 [(.d false (.list (.int .u8))), (.d false (.int .i64)), (.d false (.int .i64))]), (7, .l (.o true 3 (.int .i64)))]), none, false⟩], [], [], [], []⟩
theorem k_s_l2Draw (x : PMs.den e_s_l2Draw.ps) : funK c_s_l2Draw Try.f41 e_s_l2Draw.ps e_s_l2Draw.rs x = e_s_l2Draw.F x := by kernel_rfl
theorem o_s_l2Draw {D : Prop} : FnOk Try.prog e_s_l2Draw.f ∧ Ctr D Try.prog e_s_l2Draw := mkCtr (C := c_s_l2Draw) m_ (⟨o_s_l1Below, trivial⟩) Try.func41 (by kernel_rfl) k_s_l2Draw
/-! loop.example/g00959/spec.l7Draw -/
noncomputable def s_l7Draw_s7 (x1 : Int) (v2 : (Int) × ((List Int) × Int × Int) × Unit) (v3 : (List Int × Int × Int) × List (List Int) × Int) : Option (((List Int × Int × Int) × List (List Int) × Int) ⊕ ((List Int × Int × Int) × List (List Int))) :=
 cond (decide (v3.2.2 < (IntKind.i64.wrap ((3 : Int) + v2.1))))
 ((s_l2Draw (v3.1.1, (v3.1.2.1, v3.1.2.2)) (2 : Int) x1).bind fun v4 => (appD 24 v3.2.1 ([v4.1] : List (List Int))).bind fun v5 => some (.inl ((v4.2.1.1, (v4.2.1.2.1, v4.2.1.2.2)), (v5, (IntKind.i64.wrap (v3.2.2 + (1 : Int)))))))
 (some (.inr ((v3.1.1, (v3.1.2.1, v3.1.2.2)), v3.2.1)))
noncomputable def s_l7Draw_s2 (x1 : Int) (v1 : (List Int × Int × Int) × Int) : Option (((List Int × Int × Int) × Int) ⊕ ((List Int × Int × Int) ⊕ ((List Int × Int × Int) × List (List Int)))) :=
 cond (decide (v1.2 < (6 : Int)))
 ((s_l1Below (v1.1.1, (v1.1.2.1, v1.1.2.2)) (4 : Int)).bind fun v2 => (iter (s_l7Draw_s7 x1 v2) ((v2.2.1.1, (v2.2.1.2.1, v2.2.1.2.2)), (([] : List (List Int)), (0 : Int)))).bind fun v6 => (s_HullOf v6.2).bind fun v7 => cond v7.2
 (some (.inr (.inr ((v6.1.1, (v6.1.2.1, v6.1.2.2)), v7.1))))
 (some (.inl ((v6.1.1, (v6.1.2.1, v6.1.2.2)), (IntKind.i64.wrap (v1.2 + (1 : Int)))))))
 (some (.inr (.inl (v1.1.1, (v1.1.2.1, v1.1.2.2)))))
noncomputable def s_l7Draw (x0 : (List Int) × Int × Int) (x1 : Int) : Option ((List (List Int)) × ((List Int) × Int × Int) × Unit) :=
(iter (s_l7Draw_s2 x1) ((x0.1, (x0.2.1, x0.2.2)), (0 : Int))).bind fun v8 => match v8 with
 | .inl v9 => (some (([([(0 : Int), (0 : Int)] : List Int), ([(2 : Int), (0 : Int)] : List Int), ([(0 : Int), (1 : Int)] : List Int)] : List (List Int)), ((v9.1, (v9.2.1, v9.2.2)), ())))
 | .inr v10 => (some (v10.2, ((v10.1.1, (v10.1.2.1, v10.1.2.2)), ())))
noncomputable def e_s_l7Draw : CallE := ⟨34, [.cur 60, .d false (.int .i64)], [.l (.o false 36 (.list (.int .i64)))], fun x => s_l7Draw x.1 x.2⟩
noncomputable def c_s_l7Draw : Ctx := ⟨Try.prog, TT, [e_s_l1Below, e_s_l2Draw, e_s_HullOf], [⟨2, [(0, .b 60 [(.d false (.list (.int .u8))), (.d false (.int .i64)), (.d false (.int .i64))]), (5, .l (.d false (.int .i64)))], some (0, [(0, .b 60 [(.d false (.list (.int .u8))), (.d false (.int .i64)), (.d false (.int .i64))])]), some [(0, .b 60 [(.d false (.list (.int .u8))), (.d false (.int .i64)), (.d false (.int .i64))]), (4, .l (.o true 36 (.list (.int .i64))))], false⟩, ⟨7, [(0, .b 60 [(.d false (.list (.int .u8))), (.d false (.int .i64)), (.d false (.int .i64))]), (6, .l (.o true 36 (.list (.int .i64)))), (8, .l (.d false (.int .i64)))], some (2, [(0, .b 60 [(.d false (.list (.int .u8))), (.d false (.int .i64)), (.d false (.int .i64))]), (6, .l (.o true 36 (.list (.int .i64))))]), none, false⟩], [], [], [], []⟩
theorem k_s_l7Draw (x : PMs.den e_s_l7Draw.ps) : funK c_s_l7Draw Try.f34 e_s_l7Draw.ps e_s_l7Draw.rs x = e_s_l7Draw.F x := by kernel_rfl
theorem o_s_l7Draw {D : Prop} : FnOk Try.prog e_s_l7Draw.f ∧ Ctr D Try.prog e_s_l7Draw := mkCtr (C := c_s_l7Draw) m_ (⟨o_s_l1Below, o_s_l2Draw, o_s_HullOf, trivial⟩) Try.func34 (by kernel_rfl) k_s_l7Draw
/-! loop.example/g00959/spec.l1Bit -/
noncomputable def s_l1Bit (x0 : Bool) : Option (Int) :=
 cond x0
 (some (1 : Int))
 (some (0 : Int))
noncomputable def e_s_l1Bit : CallE := ⟨57, [.d false .bool], [.l (.d false (.int .i64))], fun x => s_l1Bit x⟩
noncomputable def c_s_l1Bit : Ctx := ⟨Try.prog, TT, [], [], [], [], [], []⟩
theorem k_s_l1Bit (x : PMs.den e_s_l1Bit.ps) : funK c_s_l1Bit Try.f57 e_s_l1Bit.ps e_s_l1Bit.rs x = e_s_l1Bit.F x := by kernel_rfl
theorem o_s_l1Bit {D : Prop} : FnOk Try.prog e_s_l1Bit.f ∧ Ctr D Try.prog e_s_l1Bit := mkCtr (C := c_s_l1Bit) m_ (trivial) Try.func57 (by kernel_rfl) k_s_l1Bit
/-! loop.example/g00959/spec.l7Bent -/
noncomputable def s_l7Bent (x0 : (List Int) × Int × Int) : Option ((List (List Int)) × ((List Int) × Int × Int) × Unit) :=
(s_l7Draw (x0.1, (x0.2.1, x0.2.2)) (4 : Int)).bind fun v1 => (s_l1Below (v1.2.1.1, (v1.2.1.2.1, v1.2.1.2.2)) (14 : Int)).bind fun v2 => cond (v2.1 == (0 : Int))
 ((inIdx v1.1.length (0 : Int)).bind fun _ => (idx v1.1 (((0 : Int)).toNat : Int)).bind fun v3 => (inIdx v1.1.length (1 : Int)).bind fun _ => (idx v1.1 (((1 : Int)).toNat : Int)).bind fun v4 => (inIdx v1.1.length (0 : Int)).bind fun _ => (inIdx v1.1.length (((0 : Int)).toNat : Int)).bind fun _ => (inIdx (v1.1.set (((0 : Int)).toNat) v4).length (1 : Int)).bind fun _ => (inIdx (v1.1.set (((0 : Int)).toNat) v4).length (((1 : Int)).toNat : Int)).bind fun _ => some (((v1.1.set (((0 : Int)).toNat) v4).set (((1 : Int)).toNat) v3), ((v2.2.1.1, (v2.2.1.2.1, v2.2.1.2.2)), ())))
 (cond (v2.1 == (1 : Int))
 ((s_l1Once (v2.2.1.1, (v2.2.1.2.1, v2.2.1.2.2)) (2 : Int)).bind fun v5 => (s_l1Bit v5.1).bind fun v6 => (s_l2Draw (v5.2.1.1, (v5.2.1.2.1, v5.2.1.2.2)) (IntKind.i64.wrap ((2 : Int) + v6)) (60 : Int)).bind fun v7 => (inIdx v1.1.length (0 : Int)).bind fun _ => (inIdx v1.1.length (((0 : Int)).toNat : Int)).bind fun _ => some ((v1.1.set (((0 : Int)).toNat) v7.1), ((v7.2.1.1, (v7.2.1.2.1, v7.2.1.2.2)), ())))
 (cond (v2.1 == (2 : Int))
 ((subl v1.1 0 (2 : Int)).bind fun v8 => some (v8, ((v2.2.1.1, (v2.2.1.2.1, v2.2.1.2.2)), ())))
 (some (v1.1, ((v2.2.1.1, (v2.2.1.2.1, v2.2.1.2.2)), ())))))
noncomputable def e_s_l7Bent : CallE := ⟨33, [.cur 60], [.l (.o false 36 (.list (.int .i64)))], fun x => s_l7Bent x⟩
noncomputable def c_s_l7Bent : Ctx := ⟨Try.prog, TT, [e_s_l7Draw, e_s_l1Below, e_s_l1Once, e_s_l1Bit, e_s_l2Draw], [], [], [], [], []⟩
theorem k_s_l7Bent (x : PMs.den e_s_l7Bent.ps) : funK c_s_l7Bent Try.f33 e_s_l7Bent.ps e_s_l7Bent.rs x = e_s_l7Bent.F x := by kernel_rfl
theorem o_s_l7Bent {D : Prop} : FnOk Try.prog e_s_l7Bent.f ∧ Ctr D Try.prog e_s_l7Bent := mkCtr (C := c_s_l7Bent) m_ (⟨o_s_l7Draw, o_s_l1Below, o_s_l1Once, o_s_l1Bit, o_s_l2Draw, trivial⟩) Try.func33 (by kernel_rfl) k_s_l7Bent
/-! loop.example/g00959/spec.l7Draw -/
noncomputable def s_l7Draw_1_s7 (x1 : Int) (v2 : (Int) × ((List Int) × Int × Int) × Unit) (v3 : (List Int × Int × Int) × List (List Int) × Int) : Option (((List Int × Int × Int) × List (List Int) × Int) ⊕ ((List Int × Int × Int) × List (List Int))) :=
 cond (decide (v3.2.2 < (IntKind.i64.wrap ((3 : Int) + v2.1))))
 ((s_l2Draw (v3.1.1, (v3.1.2.1, v3.1.2.2)) (2 : Int) x1).bind fun v4 => (appD 24 v3.2.1 ([v4.1] : List (List Int))).bind fun v5 => some (.inl ((v4.2.1.1, (v4.2.1.2.1, v4.2.1.2.2)), (v5, (IntKind.i64.wrap (v3.2.2 + (1 : Int)))))))
 (some (.inr ((v3.1.1, (v3.1.2.1, v3.1.2.2)), v3.2.1)))
noncomputable def s_l7Draw_1_s2 (x1 : Int) (v1 : (List Int × Int × Int) × Int) : Option (((List Int × Int × Int) × Int) ⊕ ((List Int × Int × Int) ⊕ ((List Int × Int × Int) × List (List Int)))) :=
 cond (decide (v1.2 < (6 : Int)))
 ((s_l1Below (v1.1.1, (v1.1.2.1, v1.1.2.2)) (4 : Int)).bind fun v2 => (iter (s_l7Draw_1_s7 x1 v2) ((v2.2.1.1, (v2.2.1.2.1, v2.2.1.2.2)), (([] : List (List Int)), (0 : Int)))).bind fun v6 => (s_HullOf v6.2).bind fun v7 => cond v7.2
 (some (.inr (.inr ((v6.1.1, (v6.1.2.1, v6.1.2.2)), v7.1))))
 (some (.inl ((v6.1.1, (v6.1.2.1, v6.1.2.2)), (IntKind.i64.wrap (v1.2 + (1 : Int)))))))
 (some (.inr (.inl (v1.1.1, (v1.1.2.1, v1.1.2.2)))))
noncomputable def s_l7Draw_1 (x0 : (List Int) × Int × Int) (x1 : Int) : Option ((List (List Int)) × ((List Int) × Int × Int) × Unit) :=
(iter (s_l7Draw_1_s2 x1) ((x0.1, (x0.2.1, x0.2.2)), (0 : Int))).bind fun v8 => match v8 with
 | .inl v9 => (some (([([(0 : Int), (0 : Int)] : List Int), ([(2 : Int), (0 : Int)] : List Int), ([(0 : Int), (1 : Int)] : List Int)] : List (List Int)), ((v9.1, (v9.2.1, v9.2.2)), ())))
 | .inr v10 => (some (v10.2, ((v10.1.1, (v10.1.2.1, v10.1.2.2)), ())))
noncomputable def e_s_l7Draw_1 : CallE := ⟨34, [.cur 60, .d false (.int .i64)], [.l (.o true 36 (.list (.int .i64)))], fun x => s_l7Draw_1 x.1 x.2⟩
noncomputable def c_s_l7Draw_1 : Ctx := ⟨Try.prog, TT, [e_s_l1Below, e_s_l2Draw, e_s_HullOf], [⟨2, [(0, .b 60 [(.d false (.list (.int .u8))), (.d false (.int .i64)), (.d false (.int .i64))]), (5, .l (.d false (.int .i64)))], some (0, [(0, .b 60 [(.d false (.list (.int .u8))), (.d false (.int .i64)), (.d false (.int .i64))])]), some [(0, .b 60 [(.d false (.list (.int .u8))), (.d false (.int .i64)), (.d false (.int .i64))]), (4, .l (.o true 36 (.list (.int .i64))))], false⟩, ⟨7, [(0, .b 60 [(.d false (.list (.int .u8))), (.d false (.int .i64)), (.d false (.int .i64))]), (6, .l (.o true 36 (.list (.int .i64)))), (8, .l (.d false (.int .i64)))], some (2, [(0, .b 60 [(.d false (.list (.int .u8))), (.d false (.int .i64)), (.d false (.int .i64))]), (6, .l (.o true 36 (.list (.int .i64))))]), none, false⟩], [], [], [], []⟩
theorem k_s_l7Draw_1 (x : PMs.den e_s_l7Draw_1.ps) : funK c_s_l7Draw_1 Try.f34 e_s_l7Draw_1.ps e_s_l7Draw_1.rs x = e_s_l7Draw_1.F x := by kernel_rfl
theorem o_s_l7Draw_1 {D : Prop} : FnOk Try.prog e_s_l7Draw_1.f ∧ Ctr D Try.prog e_s_l7Draw_1 := mkCtr (C := c_s_l7Draw_1) m_ (⟨o_s_l1Below, o_s_l2Draw, o_s_HullOf, trivial⟩) Try.func34 (by kernel_rfl) k_s_l7Draw_1
/-! loop.example/g00959/spec.DrawEmptyTriangles -/
noncomputable def s_DrawEmptyTriangles_s31_3 (x0 : List Int) (v1 : Int × Int) : Option ((Int × Int) ⊕ (Int)) :=
 cond (decide (v1.2 < (x0.length : Int)))
 (cond (decide (v1.2 < (4000 : Int)))
 ((idx x0 v1.2).bind fun v2 => some (.inl ((andI .i64 (IntKind.i64.wrap ((IntKind.i64.wrap ((IntKind.i64.wrap (v1.1 * (131 : Int))) + (IntKind.i64.wrap v2))) + (7 : Int))) (1073741823 : Int)), (IntKind.i64.wrap (v1.2 + (1 : Int))))))
 (some (.inr v1.1)))
 (some (.inr v1.1))
noncomputable def s_DrawEmptyTriangles (x0 : List Int) : Option (List (List Int)) :=
(iter (s_DrawEmptyTriangles_s31_3 x0) ((IntKind.i64.wrap ((26583 : Int) + (x0.length : Int))), (0 : Int))).bind fun v3 => (s_l1Once (x0, ((0 : Int), v3)) (8 : Int)).bind fun v4 => cond v4.1
 ((s_l7Bent (v4.2.1.1, (v4.2.1.2.1, v4.2.1.2.2))).bind fun v5 => some v5.1)
 ((s_l7Draw_1 (v4.2.1.1, (v4.2.1.2.1, v4.2.1.2.2)) (3 : Int)).bind fun v6 => some v6.1)
noncomputable def e_s_DrawEmptyTriangles : CallE := ⟨11, [.d false (.list (.int .u8))], [.l (.o false 36 (.list (.int .i64)))], fun x => s_DrawEmptyTriangles x⟩
noncomputable def c_s_DrawEmptyTriangles_31 : Ctx := ⟨Try.prog, TT, [], [⟨3, [(3, .l (.d false (.int .i64))), (4, .l (.d false (.int .i64)))], some (0, [(3, .l (.d false (.int .i64)))]), none, true⟩], [], [], [], []⟩
noncomputable def n_s_DrawEmptyTriangles_31 : InE := ⟨31, false, inlK c_s_DrawEmptyTriangles_31 Try.f31⟩
theorem q_s_DrawEmptyTriangles_31 {D : Prop} : FnOk Try.prog n_s_DrawEmptyTriangles_31.f ∧ InOk D Try.prog n_s_DrawEmptyTriangles_31 := mkInl (C := c_s_DrawEmptyTriangles_31) m_ (trivial) Try.func31 (by kernel_rfl)
noncomputable def c_s_DrawEmptyTriangles : Ctx := ⟨Try.prog, TT, [e_s_l1Once, e_s_l7Bent, e_s_l7Draw_1], [], [], [n_s_DrawEmptyTriangles_31], [], []⟩
theorem k_s_DrawEmptyTriangles (x : PMs.den e_s_DrawEmptyTriangles.ps) : funK c_s_DrawEmptyTriangles Try.f11 e_s_DrawEmptyTriangles.ps e_s_DrawEmptyTriangles.rs x = e_s_DrawEmptyTriangles.F x := by kernel_rfl
theorem o_s_DrawEmptyTriangles {D : Prop} : FnOk Try.prog e_s_DrawEmptyTriangles.f ∧ Ctr D Try.prog e_s_DrawEmptyTriangles := mkCtr (C := c_s_DrawEmptyTriangles) m_ (⟨o_s_l1Once, o_s_l7Bent, o_s_l7Draw_1, trivial⟩) Try.func11 (by kernel_rfl) k_s_DrawEmptyTriangles ⟨q_s_DrawEmptyTriangles_31, trivial⟩
/-! loop.example/g00959/impl.EmptyTriangles -/
noncomputable def i_EmptyTriangles_1_s5 (x0 : List (List Int)) (v3 : List (List (List Int)) × Int) : Option ((List (List (List Int)) × Int) ⊕ (List (List (List Int)))) :=
 cond (decide ((IntKind.i64.wrap (v3.2 + (1 : Int))) < (x0.length : Int)))
 ((idx x0 (0 : Int)).bind fun v4 => (idx x0 v3.2).bind fun v5 => (idx x0 (IntKind.i64.wrap (v3.2 + (1 : Int)))).bind fun v6 => (i_fill ([v4, v5, v6] : List (List Int))).bind fun v7 => (appD 24 v3.1 v7).bind fun v8 => some (.inl (v8, (IntKind.i64.wrap (v3.2 + (1 : Int))))))
 (some (.inr v3.1))
noncomputable def i_EmptyTriangles_1 (x0 : List (List Int)) : Option (List (List (List Int))) :=
(i_IsPolygon x0).bind fun v1 => cond (!v1)
 (some ([] : List (List (List Int))))
 ((i_AreaTwice x0).bind fun v2 => cond (decide (v2 > (200 : Int)))
 (some ([] : List (List (List Int))))
 ((iter (i_EmptyTriangles_1_s5 x0) (([] : List (List (List Int))), (1 : Int))).bind fun v9 => some v9))
noncomputable def e_i_EmptyTriangles_1 : CallE := ⟨12, [.d false (.list (.list (.int .i64)))], [.l (.o true 22 (.list (.list (.int .i64))))], fun x => i_EmptyTriangles_1 x⟩
noncomputable def c_i_EmptyTriangles_1 : Ctx := ⟨Try.prog, TT, [e_i_IsPolygon, e_i_AreaTwice, e_i_fill], [⟨5, [(3, .l (.o true 22 (.list (.list (.int .i64))))), (4, .l (.d false (.int .i64)))], some (0, [(3, .l (.o true 22 (.list (.list (.int .i64)))))]), none, false⟩], [], [], [], []⟩
theorem k_i_EmptyTriangles_1 (x : PMs.den e_i_EmptyTriangles_1.ps) : funK c_i_EmptyTriangles_1 Try.f12 e_i_EmptyTriangles_1.ps e_i_EmptyTriangles_1.rs x = e_i_EmptyTriangles_1.F x := by kernel_rfl
theorem o_i_EmptyTriangles_1 {D : Prop} : FnOk Try.prog e_i_EmptyTriangles_1.f ∧ Ctr D Try.prog e_i_EmptyTriangles_1 := mkCtr (C := c_i_EmptyTriangles_1) m_ (⟨o_i_IsPolygon, o_i_AreaTwice, o_i_fill, trivial⟩) Try.func12 (by kernel_rfl) k_i_EmptyTriangles_1
/-! loop.example/g00959/spec.DrawIsEmptyTriangle -/
noncomputable def s_DrawIsEmptyTriangle_s31_3 (x0 : List Int) (v1 : Int × Int) : Option ((Int × Int) ⊕ (Int)) :=
 cond (decide (v1.2 < (x0.length : Int)))
 (cond (decide (v1.2 < (4000 : Int)))
 ((idx x0 v1.2).bind fun v2 => some (.inl ((andI .i64 (IntKind.i64.wrap ((IntKind.i64.wrap ((IntKind.i64.wrap (v1.1 * (131 : Int))) + (IntKind.i64.wrap v2))) + (7 : Int))) (1073741823 : Int)), (IntKind.i64.wrap (v1.2 + (1 : Int))))))
 (some (.inr v1.1)))
 (some (.inr v1.1))
noncomputable def s_DrawIsEmptyTriangle (x0 : List Int) : Option (List (List Int)) :=
(iter (s_DrawIsEmptyTriangle_s31_3 x0) ((IntKind.i64.wrap ((26583 : Int) + (x0.length : Int))), (0 : Int))).bind fun v3 => (s_l2Draw (x0, ((0 : Int), v3)) (2 : Int) (2 : Int)).bind fun v4 => (s_l2Draw (v4.2.1.1, (v4.2.1.2.1, v4.2.1.2.2)) (2 : Int) (2 : Int)).bind fun v5 => (s_l2Draw (v5.2.1.1, (v5.2.1.2.1, v5.2.1.2.2)) (2 : Int) (2 : Int)).bind fun v6 => (s_l1Below (v6.2.1.1, (v6.2.1.2.1, v6.2.1.2.2)) (14 : Int)).bind fun v7 => cond (v7.1 == (0 : Int))
 ((subl ([v4.1, v5.1, v6.1] : List (List Int)) 0 (2 : Int)).bind fun v8 => some v8)
 (cond (v7.1 == (1 : Int))
 ((s_l2Draw (v7.2.1.1, (v7.2.1.2.1, v7.2.1.2.2)) (2 : Int) (60 : Int)).bind fun v9 => (inIdx ([v4.1, v5.1, v6.1] : List (List Int)).length (0 : Int)).bind fun _ => (inIdx ([v4.1, v5.1, v6.1] : List (List Int)).length (((0 : Int)).toNat : Int)).bind fun _ => some (([v4.1, v5.1, v6.1] : List (List Int)).set (((0 : Int)).toNat) v9.1))
 (some ([v4.1, v5.1, v6.1] : List (List Int))))
noncomputable def e_s_DrawIsEmptyTriangle : CallE := ⟨14, [.d false (.list (.int .u8))], [.l (.o true 36 (.list (.int .i64)))], fun x => s_DrawIsEmptyTriangle x⟩
noncomputable def c_s_DrawIsEmptyTriangle_31 : Ctx := ⟨Try.prog, TT, [], [⟨3, [(3, .l (.d false (.int .i64))), (4, .l (.d false (.int .i64)))], some (0, [(3, .l (.d false (.int .i64)))]), none, true⟩], [], [], [], []⟩
noncomputable def n_s_DrawIsEmptyTriangle_31 : InE := ⟨31, false, inlK c_s_DrawIsEmptyTriangle_31 Try.f31⟩
theorem q_s_DrawIsEmptyTriangle_31 {D : Prop} : FnOk Try.prog n_s_DrawIsEmptyTriangle_31.f ∧ InOk D Try.prog n_s_DrawIsEmptyTriangle_31 := mkInl (C := c_s_DrawIsEmptyTriangle_31) m_ (trivial) Try.func31 (by kernel_rfl)
noncomputable def c_s_DrawIsEmptyTriangle : Ctx := ⟨Try.prog, TT, [e_s_l2Draw, e_s_l1Below], [], [], [n_s_DrawIsEmptyTriangle_31], [], []⟩
theorem k_s_DrawIsEmptyTriangle (x : PMs.den e_s_DrawIsEmptyTriangle.ps) : funK c_s_DrawIsEmptyTriangle Try.f14 e_s_DrawIsEmptyTriangle.ps e_s_DrawIsEmptyTriangle.rs x = e_s_DrawIsEmptyTriangle.F x := by kernel_rfl
theorem o_s_DrawIsEmptyTriangle {D : Prop} : FnOk Try.prog e_s_DrawIsEmptyTriangle.f ∧ Ctr D Try.prog e_s_DrawIsEmptyTriangle := mkCtr (C := c_s_DrawIsEmptyTriangle) m_ (⟨o_s_l2Draw, o_s_l1Below, trivial⟩) Try.func14 (by kernel_rfl) k_s_DrawIsEmptyTriangle ⟨q_s_DrawIsEmptyTriangle_31, trivial⟩
/-! loop.example/g00959/impl.EmptyTriangles -/
noncomputable def i_EmptyTriangles_2_s5 (x0 : List (List Int)) (v3 : List (List (List Int)) × Int) : Option ((List (List (List Int)) × Int) ⊕ (List (List (List Int)))) :=
 cond (decide ((IntKind.i64.wrap (v3.2 + (1 : Int))) < (x0.length : Int)))
 ((idx x0 (0 : Int)).bind fun v4 => (idx x0 v3.2).bind fun v5 => (idx x0 (IntKind.i64.wrap (v3.2 + (1 : Int)))).bind fun v6 => (i_fill ([v4, v5, v6] : List (List Int))).bind fun v7 => (appD 24 v3.1 v7).bind fun v8 => some (.inl (v8, (IntKind.i64.wrap (v3.2 + (1 : Int))))))
 (some (.inr v3.1))
noncomputable def i_EmptyTriangles_2 (x0 : List (List Int)) : Option (List (List (List Int))) :=
(i_IsPolygon x0).bind fun v1 => cond (!v1)
 (some ([] : List (List (List Int))))
 ((i_AreaTwice x0).bind fun v2 => cond (decide (v2 > (200 : Int)))
 (some ([] : List (List (List Int))))
 ((iter (i_EmptyTriangles_2_s5 x0) (([] : List (List (List Int))), (1 : Int))).bind fun v9 => (nneD v9).bind fun _ => some v9))
noncomputable def e_i_EmptyTriangles_2 : CallE := ⟨12, [.d false (.list (.list (.int .i64)))], [.l (.d true (.list (.list (.list (.int .i64)))))], fun x => i_EmptyTriangles_2 x⟩
noncomputable def c_i_EmptyTriangles_2 : Ctx := ⟨Try.prog, TT, [e_i_IsPolygon, e_i_AreaTwice, e_i_fill], [⟨5, [(3, .l (.o true 22 (.list (.list (.int .i64))))), (4, .l (.d false (.int .i64)))], some (0, [(3, .l (.o true 22 (.list (.list (.int .i64)))))]), none, false⟩], [], [], [], []⟩
theorem k_i_EmptyTriangles_2 (x : PMs.den e_i_EmptyTriangles_2.ps) : funK c_i_EmptyTriangles_2 Try.f12 e_i_EmptyTriangles_2.ps e_i_EmptyTriangles_2.rs x = e_i_EmptyTriangles_2.F x := by kernel_rfl
theorem o_i_EmptyTriangles_2 {D : Prop} : FnOk Try.prog e_i_EmptyTriangles_2.f ∧ Ctr D Try.prog e_i_EmptyTriangles_2 := mkCtr (C := c_i_EmptyTriangles_2) m_ (⟨o_i_IsPolygon, o_i_AreaTwice, o_i_fill, trivial⟩) Try.func12 (by kernel_rfl) k_i_EmptyTriangles_2
/-! loop.example/g00959/impl.CountEmpty -/
noncomputable def i_CountEmpty (x0 : List (List Int)) : Option (Int) :=
(i_EmptyTriangles_2 x0).bind fun v1 => cond v1.isEmpty
 (some (-1 : Int))
 (some (v1.length : Int))
noncomputable def e_i_CountEmpty : CallE := ⟨15, [.d false (.list (.list (.int .i64)))], [.l (.d false (.int .i64))], fun x => i_CountEmpty x⟩
noncomputable def c_i_CountEmpty : Ctx := ⟨Try.prog, TT, [e_i_EmptyTriangles_2], [], [], [], [], []⟩
theorem k_i_CountEmpty (x : PMs.den e_i_CountEmpty.ps) : funK c_i_CountEmpty Try.f15 e_i_CountEmpty.ps e_i_CountEmpty.rs x = e_i_CountEmpty.F x := by kernel_rfl
theorem o_i_CountEmpty {D : Prop} : FnOk Try.prog e_i_CountEmpty.f ∧ Ctr D Try.prog e_i_CountEmpty := mkCtr (C := c_i_CountEmpty) m_ (⟨o_i_EmptyTriangles_2, trivial⟩) Try.func15 (by kernel_rfl) k_i_CountEmpty
/-! loop.example/g00959/spec.CountEmpty -/
noncomputable def s_CountEmpty (x0 : List (List Int)) : Option (Int) :=
(s_EmptyTriangles x0).bind fun v1 => cond ((v1.length : Int) == (0 : Int))
 (some (-1 : Int))
 (some (v1.length : Int))
noncomputable def e_s_CountEmpty : CallE := ⟨16, [.d false (.list (.list (.int .i64)))], [.l (.d false (.int .i64))], fun x => s_CountEmpty x⟩
noncomputable def c_s_CountEmpty : Ctx := ⟨Try.prog, TT, [e_s_EmptyTriangles], [], [], [], [], []⟩
theorem k_s_CountEmpty (x : PMs.den e_s_CountEmpty.ps) : funK c_s_CountEmpty Try.f16 e_s_CountEmpty.ps e_s_CountEmpty.rs x = e_s_CountEmpty.F x := by kernel_rfl
theorem o_s_CountEmpty {D : Prop} : FnOk Try.prog e_s_CountEmpty.f ∧ Ctr D Try.prog e_s_CountEmpty := mkCtr (C := c_s_CountEmpty) m_ (⟨o_s_EmptyTriangles, trivial⟩) Try.func16 (by kernel_rfl) k_s_CountEmpty
/-! loop.example/g00959/impl.IsEmptyTriangle -/
noncomputable def i_IsEmptyTriangle_s4 (x0 : List (List Int)) (v1 : Int) : Option ((Int) ⊕ ((Unit) ⊕ (Bool))) :=
 cond (decide (v1 < (x0.length : Int)))
 ((idx x0 v1).bind fun v2 => (i_isPoint v2 (50 : Int)).bind fun v3 => cond (!v3)
 (some (.inr (.inr false)))
 (some (.inl (IntKind.i64.wrap (v1 + (1 : Int))))))
 (some (.inr (.inl ())))
noncomputable def i_IsEmptyTriangle (x0 : List (List Int)) : Option (Bool) :=
 cond ((x0.length : Int) != (3 : Int))
 (some false)
 ((iter (i_IsEmptyTriangle_s4 x0) (0 : Int)).bind fun v4 => match v4 with
 | .inl v5 => ((idx x0 (0 : Int)).bind fun v7 => (idx x0 (1 : Int)).bind fun v8 => (idx x0 (2 : Int)).bind fun v9 => (i_turn v7 v8 v9).bind fun v10 => cond (v10 != (0 : Int))
 ((i_firstPoint x0).bind fun v11 => some v11.isEmpty)
 (some false))
 | .inr v6 => (some v6))
noncomputable def e_i_IsEmptyTriangle : CallE := ⟨17, [.d false (.list (.list (.int .i64)))], [.l (.d false .bool)], fun x => i_IsEmptyTriangle x⟩
noncomputable def c_i_IsEmptyTriangle : Ctx := ⟨Try.prog, TT, [e_i_isPoint, e_i_turn, e_i_firstPoint], [⟨4, [(10, .l (.d false (.int .i64)))], some (0, []), some [(2, .l (.d false .bool))], false⟩], [], [], [], []⟩
theorem k_i_IsEmptyTriangle (x : PMs.den e_i_IsEmptyTriangle.ps) : funK c_i_IsEmptyTriangle Try.f17 e_i_IsEmptyTriangle.ps e_i_IsEmptyTriangle.rs x = e_i_IsEmptyTriangle.F x := by kernel_rfl
theorem o_i_IsEmptyTriangle {D : Prop} : FnOk Try.prog e_i_IsEmptyTriangle.f ∧ Ctr D Try.prog e_i_IsEmptyTriangle := mkCtr (C := c_i_IsEmptyTriangle) m_ (⟨o_i_isPoint, o_i_turn, o_i_firstPoint, trivial⟩) Try.func17 (by kernel_rfl) k_i_IsEmptyTriangle
/-! loop.example/g00959/spec.IsEmptyTriangle -/
noncomputable def s_IsEmptyTriangle (x0 : List (List Int)) : Option (Bool) :=
 cond ((x0.length : Int) != (3 : Int))
 (some false)
 ((s_l7Flat x0).bind fun v1 => cond (!v1)
 (some false)
 ((s_l20Area x0).bind fun v2 => cond (v2 == (0 : Int))
 (some false)
 ((s_l20Other x0).bind fun v3 => some (!v3.2))))
noncomputable def e_s_IsEmptyTriangle : CallE := ⟨18, [.d false (.list (.list (.int .i64)))], [.l (.d false .bool)], fun x => s_IsEmptyTriangle x⟩
noncomputable def c_s_IsEmptyTriangle : Ctx := ⟨Try.prog, TT, [e_s_l7Flat, e_s_l20Area, e_s_l20Other], [], [], [], [], []⟩
theorem k_s_IsEmptyTriangle (x : PMs.den e_s_IsEmptyTriangle.ps) : funK c_s_IsEmptyTriangle Try.f18 e_s_IsEmptyTriangle.ps e_s_IsEmptyTriangle.rs x = e_s_IsEmptyTriangle.F x := by kernel_rfl
theorem o_s_IsEmptyTriangle {D : Prop} : FnOk Try.prog e_s_IsEmptyTriangle.f ∧ Ctr D Try.prog e_s_IsEmptyTriangle := mkCtr (C := c_s_IsEmptyTriangle) m_ (⟨o_s_l7Flat, o_s_l20Area, o_s_l20Other, trivial⟩) Try.func18 (by kernel_rfl) k_s_IsEmptyTriangle
/-! loop.example/g00959/laws.sameInts -/
noncomputable def w_sameInts_s4 (x0 : List Int) (x1 : List Int) (v1 : Int) : Option ((Int) ⊕ ((Unit) ⊕ (Bool))) :=
 cond (decide (v1 < (x0.length : Int)))
 ((idx x0 v1).bind fun v2 => (idx x1 v1).bind fun v3 => cond (v2 != v3)
 (some (.inr (.inr false)))
 (some (.inl (IntKind.i64.wrap (v1 + (1 : Int))))))
 (some (.inr (.inl ())))
noncomputable def w_sameInts (x0 : List Int) (x1 : List Int) : Option (Bool) :=
 cond ((x0.length : Int) != (x1.length : Int))
 (some false)
 ((iter (w_sameInts_s4 x0 x1) (0 : Int)).bind fun v4 => match v4 with
 | .inl v5 => (some true)
 | .inr v6 => (some v6))
noncomputable def e_w_sameInts : CallE := ⟨49, [.d false (.list (.int .i64)), .d false (.list (.int .i64))], [.l (.d false .bool)], fun x => w_sameInts x.1 x.2⟩
noncomputable def c_w_sameInts : Ctx := ⟨Try.prog, TT, [], [⟨4, [(5, .l (.d false (.int .i64)))], some (0, []), some [(4, .l (.d false .bool))], false⟩], [], [], [], []⟩
theorem k_w_sameInts (x : PMs.den e_w_sameInts.ps) : funK c_w_sameInts Try.f49 e_w_sameInts.ps e_w_sameInts.rs x = e_w_sameInts.F x := by kernel_rfl
theorem o_w_sameInts {D : Prop} : FnOk Try.prog e_w_sameInts.f ∧ Ctr D Try.prog e_w_sameInts := mkCtr (C := c_w_sameInts) m_ (trivial) Try.func49 (by kernel_rfl) k_w_sameInts
/-! loop.example/g00959/laws.sameLists -/
noncomputable def w_sameLists_s4 (x0 : List (List Int)) (x1 : List (List Int)) (v1 : Int) : Option ((Int) ⊕ ((Unit) ⊕ (Bool))) :=
 cond (decide (v1 < (x0.length : Int)))
 ((idx x0 v1).bind fun v2 => (idx x1 v1).bind fun v3 => (w_sameInts v2 v3).bind fun v4 => cond (!v4)
 (some (.inr (.inr false)))
 (some (.inl (IntKind.i64.wrap (v1 + (1 : Int))))))
 (some (.inr (.inl ())))
noncomputable def w_sameLists (x0 : List (List Int)) (x1 : List (List Int)) : Option (Bool) :=
 cond ((x0.length : Int) != (x1.length : Int))
 (some false)
 ((iter (w_sameLists_s4 x0 x1) (0 : Int)).bind fun v5 => match v5 with
 | .inl v6 => (some true)
 | .inr v7 => (some v7))
noncomputable def e_w_sameLists : CallE := ⟨19, [.d false (.list (.list (.int .i64))), .d false (.list (.list (.int .i64)))], [.l (.d false .bool)], fun x => w_sameLists x.1 x.2⟩
noncomputable def c_w_sameLists : Ctx := ⟨Try.prog, TT, [e_w_sameInts], [⟨4, [(5, .l (.d false (.int .i64)))], some (0, []), some [(4, .l (.d false .bool))], false⟩], [], [], [], []⟩
theorem k_w_sameLists (x : PMs.den e_w_sameLists.ps) : funK c_w_sameLists Try.f19 e_w_sameLists.ps e_w_sameLists.rs x = e_w_sameLists.F x := by kernel_rfl
theorem o_w_sameLists {D : Prop} : FnOk Try.prog e_w_sameLists.f ∧ Ctr D Try.prog e_w_sameLists := mkCtr (C := c_w_sameLists) m_ (⟨o_w_sameInts, trivial⟩) Try.func19 (by kernel_rfl) k_w_sameLists
/-! loop.example/g00959/spec.AreaTwice -/
noncomputable def s_AreaTwice (x0 : List (List Int)) : Option (Int) :=
(s_IsPolygon x0).bind fun v1 => cond (!v1)
 (some (-1 : Int))
 ((s_l7Area x0).bind fun v2 => some v2)
noncomputable def e_s_AreaTwice : CallE := ⟨21, [.d false (.list (.list (.int .i64)))], [.l (.d false (.int .i64))], fun x => s_AreaTwice x⟩
noncomputable def c_s_AreaTwice : Ctx := ⟨Try.prog, TT, [e_s_IsPolygon, e_s_l7Area], [], [], [], [], []⟩
theorem k_s_AreaTwice (x : PMs.den e_s_AreaTwice.ps) : funK c_s_AreaTwice Try.f21 e_s_AreaTwice.ps e_s_AreaTwice.rs x = e_s_AreaTwice.F x := by kernel_rfl
theorem o_s_AreaTwice {D : Prop} : FnOk Try.prog e_s_AreaTwice.f ∧ Ctr D Try.prog e_s_AreaTwice := mkCtr (C := c_s_AreaTwice) m_ (⟨o_s_IsPolygon, o_s_l7Area, trivial⟩) Try.func21 (by kernel_rfl) k_s_AreaTwice
/-! loop.example/g00959/spec.IsVector -/
noncomputable def s_IsVector (x0 : List Int) : Option (Bool) :=
(s_l1In (x0.length : Int) (1 : Int) (3 : Int)).bind fun v1 => cond v1
 ((s_l2Small x0 (1000 : Int)).bind fun v2 => some v2)
 (some false)
noncomputable def e_s_IsVector : CallE := ⟨52, [.d false (.list (.int .i64))], [.l (.d false .bool)], fun x => s_IsVector x⟩
noncomputable def c_s_IsVector : Ctx := ⟨Try.prog, TT, [e_s_l1In, e_s_l2Small], [], [], [], [], []⟩
theorem k_s_IsVector (x : PMs.den e_s_IsVector.ps) : funK c_s_IsVector Try.f52 e_s_IsVector.ps e_s_IsVector.rs x = e_s_IsVector.F x := by kernel_rfl
theorem o_s_IsVector {D : Prop} : FnOk Try.prog e_s_IsVector.f ∧ Ctr D Try.prog e_s_IsVector := mkCtr (C := c_s_IsVector) m_ (⟨o_s_l1In, o_s_l2Small, trivial⟩) Try.func52 (by kernel_rfl) k_s_IsVector
/-! loop.example/g00959/spec.PlaceOf -/
noncomputable def s_PlaceOf (x0 : List (List Int)) (x1 : List Int) : Option (Int) :=
(s_IsPolygon x0).bind fun v1 => cond (!v1)
 (some (-1 : Int))
 ((s_IsVector x1).bind fun v2 => cond (!v2)
 (some (-1 : Int))
 (cond ((x1.length : Int) != (2 : Int))
 (some (-1 : Int))
 ((s_l7Place x0 x1).bind fun v3 => some v3)))
noncomputable def e_s_PlaceOf : CallE := ⟨22, [.d false (.list (.list (.int .i64))), .d false (.list (.int .i64))], [.l (.d false (.int .i64))], fun x => s_PlaceOf x.1 x.2⟩
noncomputable def c_s_PlaceOf : Ctx := ⟨Try.prog, TT, [e_s_IsPolygon, e_s_IsVector, e_s_l7Place], [], [], [], [], []⟩
theorem k_s_PlaceOf (x : PMs.den e_s_PlaceOf.ps) : funK c_s_PlaceOf Try.f22 e_s_PlaceOf.ps e_s_PlaceOf.rs x = e_s_PlaceOf.F x := by kernel_rfl
theorem o_s_PlaceOf {D : Prop} : FnOk Try.prog e_s_PlaceOf.f ∧ Ctr D Try.prog e_s_PlaceOf := mkCtr (C := c_s_PlaceOf) m_ (⟨o_s_IsPolygon, o_s_IsVector, o_s_l7Place, trivial⟩) Try.func22 (by kernel_rfl) k_s_PlaceOf
/-! loop.example/g00959/spec.l1Abs -/
noncomputable def s_l1Abs (x0 : Int) : Option (Int) :=
(s_l1Max x0 (IntKind.i64.wrap (0 - x0))).bind fun v1 => some v1
noncomputable def e_s_l1Abs : CallE := ⟨84, [.d false (.int .i64)], [.l (.d false (.int .i64))], fun x => s_l1Abs x⟩
noncomputable def c_s_l1Abs : Ctx := ⟨Try.prog, TT, [e_s_l1Max], [], [], [], [], []⟩
theorem k_s_l1Abs (x : PMs.den e_s_l1Abs.ps) : funK c_s_l1Abs Try.f84 e_s_l1Abs.ps e_s_l1Abs.rs x = e_s_l1Abs.F x := by kernel_rfl
theorem o_s_l1Abs {D : Prop} : FnOk Try.prog e_s_l1Abs.f ∧ Ctr D Try.prog e_s_l1Abs := mkCtr (C := c_s_l1Abs) m_ (⟨o_s_l1Max, trivial⟩) Try.func84 (by kernel_rfl) k_s_l1Abs
/-! loop.example/g00959/spec.l2Gcd -/
noncomputable def s_l2Gcd_s3 (v3 : Int × Int) : Option ((Int × Int) ⊕ (Int)) :=
 cond (v3.2 != (0 : Int))
 ((remI .i64 v3.1 v3.2).bind fun v4 => some (.inl (v3.2, v4)))
 (some (.inr v3.1))
noncomputable def s_l2Gcd (x0 : Int) (x1 : Int) : Option (Int) :=
(s_l1Abs x0).bind fun v1 => (s_l1Abs x1).bind fun v2 => (iter (s_l2Gcd_s3) (v1, v2)).bind fun v5 => some v5
noncomputable def e_s_l2Gcd : CallE := ⟨83, [.d false (.int .i64), .d false (.int .i64)], [.l (.d false (.int .i64))], fun x => s_l2Gcd x.1 x.2⟩
noncomputable def c_s_l2Gcd : Ctx := ⟨Try.prog, TT, [e_s_l1Abs], [⟨3, [(0, .l (.d false (.int .i64))), (1, .l (.d false (.int .i64)))], some (0, [(0, .l (.d false (.int .i64)))]), none, false⟩], [], [], [], []⟩
theorem k_s_l2Gcd (x : PMs.den e_s_l2Gcd.ps) : funK c_s_l2Gcd Try.f83 e_s_l2Gcd.ps e_s_l2Gcd.rs x = e_s_l2Gcd.F x := by kernel_rfl
theorem o_s_l2Gcd {D : Prop} : FnOk Try.prog e_s_l2Gcd.f ∧ Ctr D Try.prog e_s_l2Gcd := mkCtr (C := c_s_l2Gcd) m_ (⟨o_s_l1Abs, trivial⟩) Try.func83 (by kernel_rfl) k_s_l2Gcd
/-! loop.example/g00959/spec.l2All -/
noncomputable def s_l2All_s3 (x0 : List Int) (v1 : Int × Int) : Option ((Int × Int) ⊕ (Int)) :=
 cond (decide (v1.2 < (x0.length : Int)))
 ((idx x0 v1.2).bind fun v2 => (s_l2Gcd v1.1 v2).bind fun v3 => some (.inl (v3, (IntKind.i64.wrap (v1.2 + (1 : Int))))))
 (some (.inr v1.1))
noncomputable def s_l2All (x0 : List Int) : Option (Int) :=
(iter (s_l2All_s3 x0) ((0 : Int), (0 : Int))).bind fun v4 => some v4
noncomputable def e_s_l2All : CallE := ⟨77, [.d false (.list (.int .i64))], [.l (.d false (.int .i64))], fun x => s_l2All x⟩
noncomputable def c_s_l2All : Ctx := ⟨Try.prog, TT, [e_s_l2Gcd], [⟨3, [(3, .l (.d false (.int .i64))), (4, .l (.d false (.int .i64)))], some (0, [(3, .l (.d false (.int .i64)))]), none, false⟩], [], [], [], []⟩
theorem k_s_l2All (x : PMs.den e_s_l2All.ps) : funK c_s_l2All Try.f77 e_s_l2All.ps e_s_l2All.rs x = e_s_l2All.F x := by kernel_rfl
theorem o_s_l2All {D : Prop} : FnOk Try.prog e_s_l2All.f ∧ Ctr D Try.prog e_s_l2All := mkCtr (C := c_s_l2All) m_ (⟨o_s_l2Gcd, trivial⟩) Try.func77 (by kernel_rfl) k_s_l2All
/-! loop.example/g00959/spec.l7Side -/
noncomputable def s_l7Side (x0 : List (List Int)) (x1 : Int) : Option (Int) :=
(remI .i64 (IntKind.i64.wrap (x1 + (1 : Int))) (x0.length : Int)).bind fun v1 => (idx x0 v1).bind fun v2 => (idx x0 x1).bind fun v3 => (s_l2Less v2 v3).bind fun v4 => (s_l2All v4).bind fun v5 => some v5
noncomputable def e_s_l7Side : CallE := ⟨54, [.d false (.list (.list (.int .i64))), .d false (.int .i64)], [.l (.d false (.int .i64))], fun x => s_l7Side x.1 x.2⟩
noncomputable def c_s_l7Side : Ctx := ⟨Try.prog, TT, [e_s_l2Less, e_s_l2All], [], [], [], [], []⟩
theorem k_s_l7Side (x : PMs.den e_s_l7Side.ps) : funK c_s_l7Side Try.f54 e_s_l7Side.ps e_s_l7Side.rs x = e_s_l7Side.F x := by kernel_rfl
theorem o_s_l7Side {D : Prop} : FnOk Try.prog e_s_l7Side.f ∧ Ctr D Try.prog e_s_l7Side := mkCtr (C := c_s_l7Side) m_ (⟨o_s_l2Less, o_s_l2All, trivial⟩) Try.func54 (by kernel_rfl) k_s_l7Side
/-! loop.example/g00959/spec.BoundaryCount -/
noncomputable def s_BoundaryCount_s5 (x0 : List (List Int)) (v2 : Int × Int) : Option ((Int × Int) ⊕ (Int)) :=
 cond (decide (v2.2 < (x0.length : Int)))
 ((s_l7Side x0 v2.2).bind fun v3 => some (.inl ((IntKind.i64.wrap (v2.1 + v3)), (IntKind.i64.wrap (v2.2 + (1 : Int))))))
 (some (.inr v2.1))
noncomputable def s_BoundaryCount (x0 : List (List Int)) : Option (Int) :=
(s_IsPolygon x0).bind fun v1 => cond (!v1)
 (some (-1 : Int))
 ((iter (s_BoundaryCount_s5 x0) ((0 : Int), (0 : Int))).bind fun v4 => some v4)
noncomputable def e_s_BoundaryCount : CallE := ⟨24, [.d false (.list (.list (.int .i64)))], [.l (.d false (.int .i64))], fun x => s_BoundaryCount x⟩
noncomputable def c_s_BoundaryCount : Ctx := ⟨Try.prog, TT, [e_s_IsPolygon, e_s_l7Side], [⟨5, [(3, .l (.d false (.int .i64))), (4, .l (.d false (.int .i64)))], some (0, [(3, .l (.d false (.int .i64)))]), none, false⟩], [], [], [], []⟩
theorem k_s_BoundaryCount (x : PMs.den e_s_BoundaryCount.ps) : funK c_s_BoundaryCount Try.f24 e_s_BoundaryCount.ps e_s_BoundaryCount.rs x = e_s_BoundaryCount.F x := by kernel_rfl
theorem o_s_BoundaryCount {D : Prop} : FnOk Try.prog e_s_BoundaryCount.f ∧ Ctr D Try.prog e_s_BoundaryCount := mkCtr (C := c_s_BoundaryCount) m_ (⟨o_s_IsPolygon, o_s_l7Side, trivial⟩) Try.func24 (by kernel_rfl) k_s_BoundaryCount
/-! loop.example/g00959/spec.InnerCount -/
noncomputable def s_InnerCount (x0 : List (List Int)) : Option (Int) :=
(s_IsPolygon x0).bind fun v1 => cond (!v1)
 (some (-1 : Int))
 ((s_l7Area x0).bind fun v2 => (s_BoundaryCount x0).bind fun v3 => (quoI .i64 (IntKind.i64.wrap ((IntKind.i64.wrap (v2 - v3)) + (2 : Int))) (2 : Int)).bind fun v4 => some v4)
noncomputable def e_s_InnerCount : CallE := ⟨23, [.d false (.list (.list (.int .i64)))], [.l (.d false (.int .i64))], fun x => s_InnerCount x⟩
noncomputable def c_s_InnerCount : Ctx := ⟨Try.prog, TT, [e_s_IsPolygon, e_s_l7Area, e_s_BoundaryCount], [], [], [], [], []⟩
theorem k_s_InnerCount (x : PMs.den e_s_InnerCount.ps) : funK c_s_InnerCount Try.f23 e_s_InnerCount.ps e_s_InnerCount.rs x = e_s_InnerCount.F x := by kernel_rfl
theorem o_s_InnerCount {D : Prop} : FnOk Try.prog e_s_InnerCount.f ∧ Ctr D Try.prog e_s_InnerCount := mkCtr (C := c_s_InnerCount) m_ (⟨o_s_IsPolygon, o_s_l7Area, o_s_BoundaryCount, trivial⟩) Try.func23 (by kernel_rfl) k_s_InnerCount
/-! loop.example/g00959/laws.FnTriangles -/
noncomputable def w_FnTriangles_s18 (v2 : List (List Int)) (v3 : List (List (List Int))) (v12 : Int) (v21 : Int) : Option ((Int) ⊕ ((Unit) ⊕ (Bool))) :=
(idx v3 v12).bind fun v22 => cond (decide (v21 < (v22.length : Int)))
 ((idx v3 v12).bind fun v23 => (idx v23 v21).bind fun v24 => (s_PlaceOf v2 v24).bind fun v25 => cond (decide (v25 < (0 : Int)))
 (some (.inr (.inr false)))
 (some (.inl (IntKind.i64.wrap (v21 + (1 : Int))))))
 (some (.inr (.inl ())))
noncomputable def w_FnTriangles_s10 (v2 : List (List Int)) (v3 : List (List (List Int))) (v4 : List (List (List Int))) (v12 : Int) : Option ((Int) ⊕ ((Unit) ⊕ (Bool))) :=
 cond (decide (v12 < (v3.length : Int)))
 ((idx v3 v12).bind fun v13 => (idx v4 v12).bind fun v14 => (w_sameLists v13 v14).bind fun v15 => cond (!v15)
 (some (.inr (.inr false)))
 ((idx v3 v12).bind fun v16 => (i_IsEmptyTriangle v16).bind fun v17 => cond (!v17)
 (some (.inr (.inr false)))
 ((idx v3 v12).bind fun v18 => (s_HullOf v18).bind fun v19 => cond (!v19.2)
 (some (.inr (.inr false)))
 ((s_AreaTwice v19.1).bind fun v20 => cond (v20 != (1 : Int))
 (some (.inr (.inr false)))
 ((iter (w_FnTriangles_s18 v2 v3 v12) (0 : Int)).bind fun v26 => match v26 with
 | .inl v27 => (some (.inl (IntKind.i64.wrap (v12 + (1 : Int)))))
 | .inr v28 => (some (.inr (.inr v28))))))))
 (some (.inr (.inl ())))
noncomputable def w_FnTriangles (x0 : List Int) : Option (Bool) :=
(w_big x0).bind fun v1 => cond v1
 (some true)
 ((s_DrawEmptyTriangles x0).bind fun v2 => (i_EmptyTriangles_1 v2).bind fun v3 => (s_EmptyTriangles v2).bind fun v4 => (s_DrawIsEmptyTriangle x0).bind fun v5 => cond ((v3.length : Int) != (v4.length : Int))
 (some false)
 ((i_CountEmpty v2).bind fun v6 => (s_CountEmpty v2).bind fun v7 => cond (v6 != v7)
 (some false)
 ((i_IsEmptyTriangle v5).bind fun v8 => (s_IsEmptyTriangle v5).bind fun v9 => cond (!(v8 == v9))
 (some false)
 ((i_EdgesUsed v2).bind fun v10 => (s_EdgesUsed v2).bind fun v11 => cond (v10 != v11)
 (some false)
 ((iter (w_FnTriangles_s10 v2 v3 v4) (0 : Int)).bind fun v29 => match v29 with
 | .inl v30 => (cond ((v3.length : Int) == (0 : Int))
 ((i_CountEmpty v2).bind fun v32 => cond (v32 == (-1 : Int))
 ((i_EdgesUsed v2).bind fun v33 => some (v33 == (-1 : Int)))
 (some false))
 ((s_AreaTwice v2).bind fun v34 => cond ((v3.length : Int) == v34)
 ((i_EdgesUsed v2).bind fun v35 => (s_InnerCount v2).bind fun v36 => (s_BoundaryCount v2).bind fun v37 => some (v35 == (IntKind.i64.wrap ((IntKind.i64.wrap ((IntKind.i64.wrap ((3 : Int) * v36)) + (IntKind.i64.wrap ((2 : Int) * v37)))) - (3 : Int)))))
 (some false)))
 | .inr v31 => (some v31))))))
noncomputable def e_w_FnTriangles : CallE := ⟨4, [.d false (.list (.int .u8))], [.l (.d false .bool)], fun x => w_FnTriangles x⟩
noncomputable def c_w_FnTriangles : Ctx := ⟨Try.prog, TT, [e_w_big, e_s_DrawEmptyTriangles, e_i_EmptyTriangles_1, e_s_EmptyTriangles, e_s_DrawIsEmptyTriangle, e_i_CountEmpty, e_s_CountEmpty, e_i_IsEmptyTriangle, e_s_IsEmptyTriangle, e_i_EdgesUsed, e_s_EdgesUsed, e_w_sameLists, e_s_HullOf, e_s_AreaTwice, e_s_PlaceOf, e_s_InnerCount, e_s_BoundaryCount], [⟨10, [(7, .l (.d false (.int .i64)))], some (0, []), some [(2, .l (.d false .bool))], false⟩, ⟨18, [(10, .l (.d false (.int .i64)))], some (2, []), some [(2, .l (.d false .bool))], false⟩], [], [], [], []⟩
theorem k_w_FnTriangles (x : PMs.den e_w_FnTriangles.ps) : funK c_w_FnTriangles Try.f4 e_w_FnTriangles.ps e_w_FnTriangles.rs x = e_w_FnTriangles.F x := by kernel_rfl
theorem o_w_FnTriangles {D : Prop} : FnOk Try.prog e_w_FnTriangles.f ∧ Ctr D Try.prog e_w_FnTriangles := mkCtr (C := c_w_FnTriangles) m_ (⟨o_w_big, o_s_DrawEmptyTriangles, o_i_EmptyTriangles_1, o_s_EmptyTriangles, o_s_DrawIsEmptyTriangle, o_i_CountEmpty, o_s_CountEmpty, o_i_IsEmptyTriangle, o_s_IsEmptyTriangle, o_i_EdgesUsed, o_s_EdgesUsed, o_w_sameLists, o_s_HullOf, o_s_AreaTwice, o_s_PlaceOf, o_s_InnerCount, o_s_BoundaryCount, trivial⟩) Try.func4 (by kernel_rfl) k_w_FnTriangles
end Go.Proofs.Ytcpdhjklcongoaa
