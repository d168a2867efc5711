/- Plain functions. -/
import Derived.Test.YtlccglonhkcahaaProg
import Derived.Test.YtlccglonhkcahaaEm5
import Derived.KernelRfl
namespace Go.Proofs.Ytlccglonhkcahaa
open Go Go.Proofs.Ytlccglonhkcahaa.Eng
set_option linter.unusedVariables false
set_option maxRecDepth 100000
noncomputable def TT : List (TypeId × Ty) := [(3, (.int .i64)), (22, (.list (.list (.int .i64)))), (33, (.list (.int .i64)))]
theorem m_ : Try.prog.follows .mixedOrders = true := by kernel_rfl
/-! loop.example/g00959/laws.szIntS -/
noncomputable def w_szIntS (x0 : List Int) (x1 : Int) : Option (Int) :=
 cond (decide ((IntKind.i64.wrap (x1 - (x0.length : Int))) < (0 : Int)))
 (some (-1 : Int))
 (some (IntKind.i64.wrap (x1 - (x0.length : Int))))
noncomputable def e_w_szIntS : CallE := ⟨19, [.d false (.list (.int .i64)), .d false (.int .i64)], [.l (.d false (.int .i64))], fun x => w_szIntS x.1 x.2⟩
noncomputable def c_w_szIntS : Ctx := ⟨Try.prog, TT, [], [], [], [], [], []⟩
theorem k_w_szIntS (x : PMs.den e_w_szIntS.ps) : funK c_w_szIntS Try.f19 e_w_szIntS.ps e_w_szIntS.rs x = e_w_szIntS.F x := by kernel_rfl
theorem o_w_szIntS : FnOk Try.prog e_w_szIntS.f ∧ Ctr Try.prog e_w_szIntS := mkCtr (C := c_w_szIntS) m_ (trivial) Try.func19 (by kernel_rfl) k_w_szIntS
/-! loop.example/g00959/laws.szIntSS -/
noncomputable def w_szIntSS_s5 (x0 : List (List Int)) (v1 : Int × Int) : Option ((Int × Int) ⊕ ((Int) ⊕ (Int))) :=
 cond (decide (v1.2 < (x0.length : Int)))
 ((idx x0 v1.2).bind fun v2 => (w_szIntS v2 v1.1).bind fun v3 => cond (decide (v3 < (0 : Int)))
 (some (.inr (.inr (-1 : Int))))
 (some (.inl (v3, (IntKind.i64.wrap (v1.2 + (1 : Int)))))))
 (some (.inr (.inl v1.1)))
noncomputable def w_szIntSS (x0 : List (List Int)) (x1 : Int) : Option (Int) :=
 cond (decide ((IntKind.i64.wrap (x1 - (x0.length : Int))) < (0 : Int)))
 (some (-1 : Int))
 ((iter (w_szIntSS_s5 x0) ((IntKind.i64.wrap (x1 - (x0.length : Int))), (0 : Int))).bind fun v4 => match v4 with
 | .inl v5 => (some v5)
 | .inr v6 => (some v6))
noncomputable def e_w_szIntSS : CallE := ⟨6, [.d false (.list (.list (.int .i64))), .d false (.int .i64)], [.l (.d false (.int .i64))], fun x => w_szIntSS x.1 x.2⟩
noncomputable def c_w_szIntSS : Ctx := ⟨Try.prog, TT, [e_w_szIntS], [⟨5, [(1, .l (.d false (.int .i64))), (5, .l (.d false (.int .i64)))], some (0, [(1, .l (.d false (.int .i64)))]), some [(4, .l (.d false (.int .i64)))], false⟩], [], [], [], []⟩
theorem k_w_szIntSS (x : PMs.den e_w_szIntSS.ps) : funK c_w_szIntSS Try.f6 e_w_szIntSS.ps e_w_szIntSS.rs x = e_w_szIntSS.F x := by kernel_rfl
theorem o_w_szIntSS : FnOk Try.prog e_w_szIntSS.f ∧ Ctr Try.prog e_w_szIntSS := mkCtr (C := c_w_szIntSS) m_ (⟨o_w_szIntS, trivial⟩) Try.func6 (by kernel_rfl) k_w_szIntSS
/-! loop.example/g00959/laws.toIntS -/
noncomputable def w_toIntS_s3 (x0 : List Int) (v2 : List Int × Int) : Option ((List Int × Int) ⊕ (List Int)) :=
 cond (decide (v2.2 < (x0.length : Int)))
 ((idx x0 v2.2).bind fun v3 => (inIdx v2.1.length v2.2).bind fun _ => (inIdx v2.1.length ((v2.2).toNat : Int)).bind fun _ => some (.inl ((v2.1.set ((v2.2).toNat) v3), (IntKind.i64.wrap (v2.2 + (1 : Int))))))
 (some (.inr v2.1))
noncomputable def w_toIntS (x0 : List Int) : Option (List Int) :=
(mkD 8 (x0.length : Int) (0 : Int)).bind fun v1 => (iter (w_toIntS_s3 x0) (v1, (0 : Int))).bind fun v4 => some v4
noncomputable def e_w_toIntS : CallE := ⟨20, [.d false (.list (.int .i64))], [.l (.o true 3 (.int .i64))], fun x => w_toIntS x⟩
noncomputable def c_w_toIntS : Ctx := ⟨Try.prog, TT, [], [⟨3, [(3, .l (.o true 3 (.int .i64))), (4, .l (.d false (.int .i64)))], some (0, [(3, .l (.o true 3 (.int .i64)))]), none, false⟩], [], [], [], []⟩
theorem k_w_toIntS (x : PMs.den e_w_toIntS.ps) : funK c_w_toIntS Try.f20 e_w_toIntS.ps e_w_toIntS.rs x = e_w_toIntS.F x := by kernel_rfl
theorem o_w_toIntS : FnOk Try.prog e_w_toIntS.f ∧ Ctr Try.prog e_w_toIntS := mkCtr (C := c_w_toIntS) m_ (trivial) Try.func20 (by kernel_rfl) k_w_toIntS
/-! loop.example/g00959/laws.toIntSS -/
noncomputable def w_toIntSS_s3 (x0 : List (List Int)) (v2 : List (List Int) × Int) : Option ((List (List Int) × Int) ⊕ (List (List Int))) :=
 cond (decide (v2.2 < (x0.length : Int)))
 ((idx x0 v2.2).bind fun v3 => (w_toIntS v3).bind fun v4 => (inIdx v2.1.length v2.2).bind fun _ => (inIdx v2.1.length ((v2.2).toNat : Int)).bind fun _ => some (.inl ((v2.1.set ((v2.2).toNat) v4), (IntKind.i64.wrap (v2.2 + (1 : Int))))))
 (some (.inr v2.1))
noncomputable def w_toIntSS (x0 : List (List Int)) : Option (List (List Int)) :=
(mkD 24 (x0.length : Int) ([] : List Int)).bind fun v1 => (iter (w_toIntSS_s3 x0) (v1, (0 : Int))).bind fun v5 => some v5
noncomputable def e_w_toIntSS : CallE := ⟨8, [.d false (.list (.list (.int .i64)))], [.l (.o true 33 (.list (.int .i64)))], fun x => w_toIntSS x⟩
noncomputable def c_w_toIntSS : Ctx := ⟨Try.prog, TT, [e_w_toIntS], [⟨3, [(3, .l (.o true 33 (.list (.int .i64)))), (4, .l (.d false (.int .i64)))], some (0, [(3, .l (.o true 33 (.list (.int .i64))))]), none, false⟩], [], [], [], []⟩
theorem k_w_toIntSS (x : PMs.den e_w_toIntSS.ps) : funK c_w_toIntSS Try.f8 e_w_toIntSS.ps e_w_toIntSS.rs x = e_w_toIntSS.F x := by kernel_rfl
theorem o_w_toIntSS : FnOk Try.prog e_w_toIntSS.f ∧ Ctr Try.prog e_w_toIntSS := mkCtr (C := c_w_toIntSS) m_ (⟨o_w_toIntS, trivial⟩) Try.func8 (by kernel_rfl) k_w_toIntSS
/-! loop.example/g00959/spec.l1In -/
noncomputable def s_l1In (x0 : Int) (x1 : Int) (x2 : Int) : Option (Bool) :=
 cond (decide (x0 ≥ x1))
 (some (decide (x0 ≤ x2)))
 (some false)
noncomputable def e_s_l1In : CallE := ⟨35, [.d false (.int .i64), .d false (.int .i64), .d false (.int .i64)], [.l (.d false .bool)], fun x => s_l1In x.1 x.2.1 x.2.2⟩
noncomputable def c_s_l1In : Ctx := ⟨Try.prog, TT, [], [], [], [], [], []⟩
theorem k_s_l1In (x : PMs.den e_s_l1In.ps) : funK c_s_l1In Try.f35 e_s_l1In.ps e_s_l1In.rs x = e_s_l1In.F x := by kernel_rfl
theorem o_s_l1In : FnOk Try.prog e_s_l1In.f ∧ Ctr Try.prog e_s_l1In := mkCtr (C := c_s_l1In) m_ (trivial) Try.func35 (by kernel_rfl) k_s_l1In
/-! loop.example/g00959/spec.l2Small -/
noncomputable def s_l2Small_s2 (x0 : List Int) (x1 : Int) (v1 : Int) : Option ((Int) ⊕ ((Unit) ⊕ (Bool))) :=
 cond (decide (v1 < (x0.length : Int)))
 ((idx x0 v1).bind fun v2 => (s_l1In v2 (IntKind.i64.wrap (0 - x1)) x1).bind fun v3 => cond (!v3)
 (some (.inr (.inr false)))
 (some (.inl (IntKind.i64.wrap (v1 + (1 : Int))))))
 (some (.inr (.inl ())))
noncomputable def s_l2Small (x0 : List Int) (x1 : Int) : Option (Bool) :=
(iter (s_l2Small_s2 x0 x1) (0 : Int)).bind fun v4 => match v4 with
 | .inl v5 => (some true)
 | .inr v6 => (some v6)
noncomputable def e_s_l2Small : CallE := ⟨51, [.d false (.list (.int .i64)), .d false (.int .i64)], [.l (.d false .bool)], fun x => s_l2Small x.1 x.2⟩
noncomputable def c_s_l2Small : Ctx := ⟨Try.prog, TT, [e_s_l1In], [⟨2, [(5, .l (.d false (.int .i64)))], some (0, []), some [(4, .l (.d false .bool))], false⟩], [], [], [], []⟩
theorem k_s_l2Small (x : PMs.den e_s_l2Small.ps) : funK c_s_l2Small Try.f51 e_s_l2Small.ps e_s_l2Small.rs x = e_s_l2Small.F x := by kernel_rfl
theorem o_s_l2Small : FnOk Try.prog e_s_l2Small.f ∧ Ctr Try.prog e_s_l2Small := mkCtr (C := c_s_l2Small) m_ (⟨o_s_l1In, trivial⟩) Try.func51 (by kernel_rfl) k_s_l2Small
/-! loop.example/g00959/spec.l7Flat -/
noncomputable def s_l7Flat_s2 (x0 : List (List Int)) (v1 : Int) : Option ((Int) ⊕ ((Unit) ⊕ (Bool))) :=
 cond (decide (v1 < (x0.length : Int)))
 ((idx x0 v1).bind fun v2 => cond ((v2.length : Int) != (2 : Int))
 (some (.inr (.inr false)))
 ((idx x0 v1).bind fun v3 => (s_l2Small v3 (50 : Int)).bind fun v4 => cond (!v4)
 (some (.inr (.inr false)))
 (some (.inl (IntKind.i64.wrap (v1 + (1 : Int)))))))
 (some (.inr (.inl ())))
noncomputable def s_l7Flat (x0 : List (List Int)) : Option (Bool) :=
(iter (s_l7Flat_s2 x0) (0 : Int)).bind fun v5 => match v5 with
 | .inl v6 => (some true)
 | .inr v7 => (some v7)
noncomputable def e_s_l7Flat : CallE := ⟨36, [.d false (.list (.list (.int .i64)))], [.l (.d false .bool)], fun x => s_l7Flat x⟩
noncomputable def c_s_l7Flat : Ctx := ⟨Try.prog, TT, [e_s_l2Small], [⟨2, [(3, .l (.d false (.int .i64)))], some (0, []), some [(2, .l (.d false .bool))], false⟩], [], [], [], []⟩
theorem k_s_l7Flat (x : PMs.den e_s_l7Flat.ps) : funK c_s_l7Flat Try.f36 e_s_l7Flat.ps e_s_l7Flat.rs x = e_s_l7Flat.F x := by kernel_rfl
theorem o_s_l7Flat : FnOk Try.prog e_s_l7Flat.f ∧ Ctr Try.prog e_s_l7Flat := mkCtr (C := c_s_l7Flat) m_ (⟨o_s_l2Small, trivial⟩) Try.func36 (by kernel_rfl) k_s_l7Flat
/-! loop.example/g00959/spec.l2Before -/
noncomputable def s_l2Before_s2 (x0 : List Int) (x1 : List Int) (v1 : Int) : Option ((Int) ⊕ ((Unit) ⊕ (Bool))) :=
 cond (decide (v1 < (x0.length : Int)))
 (cond (decide (v1 < (x1.length : Int)))
 ((idx x0 v1).bind fun v2 => (idx x1 v1).bind fun v3 => cond (v2 != v3)
 ((idx x0 v1).bind fun v4 => (idx x1 v1).bind fun v5 => some (.inr (.inr (decide (v4 < v5)))))
 (some (.inl (IntKind.i64.wrap (v1 + (1 : Int))))))
 (some (.inr (.inl ()))))
 (some (.inr (.inl ())))
noncomputable def s_l2Before (x0 : List Int) (x1 : List Int) : Option (Bool) :=
(iter (s_l2Before_s2 x0 x1) (0 : Int)).bind fun v6 => match v6 with
 | .inl v7 => (some false)
 | .inr v8 => (some v8)
noncomputable def e_s_l2Before : CallE := ⟨22, [.d false (.list (.int .i64)), .d false (.list (.int .i64))], [.l (.d false .bool)], fun x => s_l2Before x.1 x.2⟩
noncomputable def c_s_l2Before : Ctx := ⟨Try.prog, TT, [], [⟨2, [(5, .l (.d false (.int .i64)))], some (0, []), some [(4, .l (.d false .bool))], false⟩], [], [], [], []⟩
theorem k_s_l2Before (x : PMs.den e_s_l2Before.ps) : funK c_s_l2Before Try.f22 e_s_l2Before.ps e_s_l2Before.rs x = e_s_l2Before.F x := by kernel_rfl
theorem o_s_l2Before : FnOk Try.prog e_s_l2Before.f ∧ Ctr Try.prog e_s_l2Before := mkCtr (C := c_s_l2Before) m_ (trivial) Try.func22 (by kernel_rfl) k_s_l2Before
/-! loop.example/g00959/spec.l2Same -/
noncomputable def s_l2Same_s4 (x0 : List Int) (x1 : List Int) (v1 : Int) : Option ((Int) ⊕ ((Unit) ⊕ (Bool))) :=
 cond (decide (v1 < (x0.length : Int)))
 ((idx x0 v1).bind fun v2 => (idx x1 v1).bind fun v3 => cond (v2 != v3)
 (some (.inr (.inr false)))
 (some (.inl (IntKind.i64.wrap (v1 + (1 : Int))))))
 (some (.inr (.inl ())))
noncomputable def s_l2Same (x0 : List Int) (x1 : List Int) : Option (Bool) :=
 cond ((x0.length : Int) != (x1.length : Int))
 (some false)
 ((iter (s_l2Same_s4 x0 x1) (0 : Int)).bind fun v4 => match v4 with
 | .inl v5 => (some true)
 | .inr v6 => (some v6))
noncomputable def e_s_l2Same : CallE := ⟨33, [.d false (.list (.int .i64)), .d false (.list (.int .i64))], [.l (.d false .bool)], fun x => s_l2Same x.1 x.2⟩
noncomputable def c_s_l2Same : Ctx := ⟨Try.prog, TT, [], [⟨4, [(5, .l (.d false (.int .i64)))], some (0, []), some [(4, .l (.d false .bool))], false⟩], [], [], [], []⟩
theorem k_s_l2Same (x : PMs.den e_s_l2Same.ps) : funK c_s_l2Same Try.f33 e_s_l2Same.ps e_s_l2Same.rs x = e_s_l2Same.F x := by kernel_rfl
theorem o_s_l2Same : FnOk Try.prog e_s_l2Same.f ∧ Ctr Try.prog e_s_l2Same := mkCtr (C := c_s_l2Same) m_ (trivial) Try.func33 (by kernel_rfl) k_s_l2Same
/-! loop.example/g00959/spec.l2Put -/
noncomputable def s_l2Put_s2 (x1 : List Int) (v1 : List (List Int) × Int) : Option ((List (List Int) × Int) ⊕ (List (List Int) × Int)) :=
 cond (decide (v1.2 > (0 : Int)))
 ((inIdx v1.1.length (IntKind.i64.wrap (v1.2 - (1 : Int)))).bind fun _ => (idx v1.1 (((IntKind.i64.wrap (v1.2 - (1 : Int)))).toNat : Int)).bind fun v2 => (s_l2Before x1 v2).bind fun v3 => cond v3
 (some (.inl (v1.1, (IntKind.i64.wrap (v1.2 - (1 : Int))))))
 (some (.inr (v1.1, v1.2))))
 (some (.inr (v1.1, v1.2)))
noncomputable def s_l2Put (x0 : List (List Int)) (x1 : List Int) : Option (List (List Int)) :=
(iter (s_l2Put_s2 x1) (x0, (x0.length : Int))).bind fun v4 => cond (decide (v4.2 > (0 : Int)))
 ((inIdx v4.1.length (IntKind.i64.wrap (v4.2 - (1 : Int)))).bind fun _ => (idx v4.1 (((IntKind.i64.wrap (v4.2 - (1 : Int)))).toNat : Int)).bind fun v5 => (s_l2Same v5 x1).bind fun v6 => cond v6
 (some v4.1)
 ((subl v4.1 v4.2 (v4.1.length : Int)).bind fun v7 => (subl v4.1 ((v4.2).toNat : Int) (((v4.1.length : Int)).toNat : Int)).bind fun v8 => (appD 24 ([] : List (List Int)) v8).bind fun v9 => (subl v4.1 0 v4.2).bind fun v10 => (appD 8 ([] : List Int) x1).bind fun v11 => (appD 24 v10 ([v11] : List (List Int))).bind fun v12 => (appD 24 v12 v9).bind fun v13 => some v13))
 ((subl v4.1 v4.2 (v4.1.length : Int)).bind fun v14 => (subl v4.1 ((v4.2).toNat : Int) (((v4.1.length : Int)).toNat : Int)).bind fun v15 => (appD 24 ([] : List (List Int)) v15).bind fun v16 => (subl v4.1 0 v4.2).bind fun v17 => (appD 8 ([] : List Int) x1).bind fun v18 => (appD 24 v17 ([v18] : List (List Int))).bind fun v19 => (appD 24 v19 v16).bind fun v20 => some v20)
noncomputable def e_s_l2Put : CallE := ⟨23, [.mv false 33 (.list (.int .i64)), .d false (.list (.int .i64))], [.l (.o false 33 (.list (.int .i64)))], fun x => s_l2Put x.1 x.2⟩
noncomputable def c_s_l2Put : Ctx := ⟨Try.prog, TT, [e_s_l2Before, e_s_l2Same], [⟨2, [(0, .l (.o false 33 (.list (.int .i64)))), (5, .l (.d false (.int .i64)))], some (0, [(0, .l (.o false 33 (.list (.int .i64)))), (5, .l (.d false (.int .i64)))]), none, false⟩], [], [], [35], [(7, [0, 1, 2, 4, 8, 3, 5, 6, 7, 9, 10])]⟩
theorem k_s_l2Put (x : PMs.den e_s_l2Put.ps) : funK c_s_l2Put Try.f23 e_s_l2Put.ps e_s_l2Put.rs x = e_s_l2Put.F x := by kernel_rfl
theorem o_s_l2Put : FnOk Try.prog e_s_l2Put.f ∧ Ctr Try.prog e_s_l2Put := mkCtr (C := c_s_l2Put) m_ (⟨o_s_l2Before, o_s_l2Same, trivial⟩) Try.func23 (by kernel_rfl) k_s_l2Put
/-! loop.example/g00959/spec.l2Less -/
noncomputable def s_l2Less_s3 (x0 : List Int) (x1 : List Int) (v1 : List Int × Int) : Option ((List Int × Int) ⊕ (List Int)) :=
 cond (decide (v1.2 < (x0.length : Int)))
 ((idx x0 v1.2).bind fun v2 => (idx x1 v1.2).bind fun v3 => (appD 8 v1.1 ([(IntKind.i64.wrap (v2 - v3))] : List Int)).bind fun v4 => some (.inl (v4, (IntKind.i64.wrap (v1.2 + (1 : Int))))))
 (some (.inr v1.1))
noncomputable def s_l2Less (x0 : List Int) (x1 : List Int) : Option (List Int) :=
(iter (s_l2Less_s3 x0 x1) (([] : List Int), (0 : Int))).bind fun v5 => some v5
noncomputable def e_s_l2Less : CallE := ⟨67, [.d false (.list (.int .i64)), .d false (.list (.int .i64))], [.l (.o true 3 (.int .i64))], fun x => s_l2Less x.1 x.2⟩
noncomputable def c_s_l2Less : Ctx := ⟨Try.prog, TT, [], [⟨3, [(5, .l (.o true 3 (.int .i64))), (6, .l (.d false (.int .i64)))], some (0, [(5, .l (.o true 3 (.int .i64)))]), none, false⟩], [], [], [], []⟩
theorem k_s_l2Less (x : PMs.den e_s_l2Less.ps) : funK c_s_l2Less Try.f67 e_s_l2Less.ps e_s_l2Less.rs x = e_s_l2Less.F x := by kernel_rfl
theorem o_s_l2Less : FnOk Try.prog e_s_l2Less.f ∧ Ctr Try.prog e_s_l2Less := mkCtr (C := c_s_l2Less) m_ (trivial) Try.func67 (by kernel_rfl) k_s_l2Less
/-! loop.example/g00959/spec.l7Cross -/
noncomputable def s_l7Cross (x0 : List Int) (x1 : List Int) : Option (Int) :=
(idx x0 (0 : Int)).bind fun v1 => (idx x1 (1 : Int)).bind fun v2 => (idx x0 (1 : Int)).bind fun v3 => (idx x1 (0 : Int)).bind fun v4 => some (IntKind.i64.wrap ((IntKind.i64.wrap (v1 * v2)) - (IntKind.i64.wrap (v3 * v4))))
noncomputable def e_s_l7Cross : CallE := ⟨39, [.d false (.list (.int .i64)), .d false (.list (.int .i64))], [.l (.d false (.int .i64))], fun x => s_l7Cross x.1 x.2⟩
noncomputable def c_s_l7Cross : Ctx := ⟨Try.prog, TT, [], [], [], [], [], []⟩
theorem k_s_l7Cross (x : PMs.den e_s_l7Cross.ps) : funK c_s_l7Cross Try.f39 e_s_l7Cross.ps e_s_l7Cross.rs x = e_s_l7Cross.F x := by kernel_rfl
theorem o_s_l7Cross : FnOk Try.prog e_s_l7Cross.f ∧ Ctr Try.prog e_s_l7Cross := mkCtr (C := c_s_l7Cross) m_ (trivial) Try.func39 (by kernel_rfl) k_s_l7Cross
/-! loop.example/g00959/spec.l7Turn -/
noncomputable def s_l7Turn (x0 : List Int) (x1 : List Int) (x2 : List Int) : Option (Int) :=
(s_l2Less x1 x0).bind fun v1 => (s_l2Less x2 x1).bind fun v2 => (s_l7Cross v1 v2).bind fun v3 => some v3
noncomputable def e_s_l7Turn : CallE := ⟨54, [.d false (.list (.int .i64)), .d false (.list (.int .i64)), .d false (.list (.int .i64))], [.l (.d false (.int .i64))], fun x => s_l7Turn x.1 x.2.1 x.2.2⟩
noncomputable def c_s_l7Turn : Ctx := ⟨Try.prog, TT, [e_s_l2Less, e_s_l7Cross], [], [], [], [], []⟩
theorem k_s_l7Turn (x : PMs.den e_s_l7Turn.ps) : funK c_s_l7Turn Try.f54 e_s_l7Turn.ps e_s_l7Turn.rs x = e_s_l7Turn.F x := by kernel_rfl
theorem o_s_l7Turn : FnOk Try.prog e_s_l7Turn.f ∧ Ctr Try.prog e_s_l7Turn := mkCtr (C := c_s_l7Turn) m_ (⟨o_s_l2Less, o_s_l7Cross, trivial⟩) Try.func54 (by kernel_rfl) k_s_l7Turn
/-! loop.example/g00959/spec.l7Hull -/
noncomputable def s_l7Hull_s12 (v1 : List (List Int) × Int) (v4 : List Int) (v5 : List (List Int)) : Option ((List (List Int)) ⊕ (List (List Int))) :=
 cond (decide ((v5.length : Int) ≥ (IntKind.i64.wrap ((v1.1.length : Int) + (2 : Int)))))
 ((inIdx v5.length (IntKind.i64.wrap ((v5.length : Int) - (2 : Int)))).bind fun _ => (idx v5 (((IntKind.i64.wrap ((v5.length : Int) - (2 : Int)))).toNat : Int)).bind fun v6 => (inIdx v5.length (IntKind.i64.wrap ((v5.length : Int) - (1 : Int)))).bind fun _ => (idx v5 (((IntKind.i64.wrap ((v5.length : Int) - (1 : Int)))).toNat : Int)).bind fun v7 => (s_l7Turn v6 v7 v4).bind fun v8 => cond (decide (v8 ≤ (0 : Int)))
 ((subl v5 0 (IntKind.i64.wrap ((v5.length : Int) - (1 : Int)))).bind fun v9 => some (.inl v9))
 (some (.inr v5)))
 (some (.inr v5))
noncomputable def s_l7Hull_s12b16 (v1 : List (List Int) × Int) (v3 : List Int) (v12 : List (List Int)) : Option ((List (List Int)) ⊕ (List (List Int))) :=
 cond (decide ((v12.length : Int) ≥ (IntKind.i64.wrap ((v1.1.length : Int) + (2 : Int)))))
 ((inIdx v12.length (IntKind.i64.wrap ((v12.length : Int) - (2 : Int)))).bind fun _ => (idx v12 (((IntKind.i64.wrap ((v12.length : Int) - (2 : Int)))).toNat : Int)).bind fun v13 => (inIdx v12.length (IntKind.i64.wrap ((v12.length : Int) - (1 : Int)))).bind fun _ => (idx v12 (((IntKind.i64.wrap ((v12.length : Int) - (1 : Int)))).toNat : Int)).bind fun v14 => (s_l7Turn v13 v14 v3).bind fun v15 => cond (decide (v15 ≤ (0 : Int)))
 ((subl v12 0 (IntKind.i64.wrap ((v12.length : Int) - (1 : Int)))).bind fun v16 => some (.inl v16))
 (some (.inr v12)))
 (some (.inr v12))
noncomputable def s_l7Hull_s7 (x0 : List (List Int)) (v1 : List (List Int) × Int) (v2 : List (List Int) × Int) : Option ((List (List Int) × Int) ⊕ (List (List Int))) :=
 cond (decide (v2.2 < (x0.length : Int)))
 ((idx x0 v2.2).bind fun v3 => cond (v1.2 == (1 : Int))
 ((idx x0 (IntKind.i64.wrap ((IntKind.i64.wrap ((x0.length : Int) - (1 : Int))) - v2.2))).bind fun v4 => (iter (s_l7Hull_s12 v1 v4) v2.1).bind fun v10 => (appD 24 v10 ([v4] : List (List Int))).bind fun v11 => some (.inl (v11, (IntKind.i64.wrap (v2.2 + (1 : Int))))))
 ((iter (s_l7Hull_s12b16 v1 v3) v2.1).bind fun v17 => (appD 24 v17 ([v3] : List (List Int))).bind fun v18 => some (.inl (v18, (IntKind.i64.wrap (v2.2 + (1 : Int)))))))
 (some (.inr v2.1))
noncomputable def s_l7Hull_s3 (x0 : List (List Int)) (v1 : List (List Int) × Int) : Option ((List (List Int) × Int) ⊕ (List (List Int))) :=
 cond (decide (v1.2 < (2 : Int)))
 ((iter (s_l7Hull_s7 x0 v1) (v1.1, (0 : Int))).bind fun v19 => (subl v19 0 (IntKind.i64.wrap ((v19.length : Int) - (1 : Int)))).bind fun v20 => some (.inl (v20, (IntKind.i64.wrap (v1.2 + (1 : Int))))))
 (some (.inr v1.1))
noncomputable def s_l7Hull (x0 : List (List Int)) : Option (List (List Int)) :=
(iter (s_l7Hull_s3 x0) (([] : List (List Int)), (0 : Int))).bind fun v21 => some v21
noncomputable def e_s_l7Hull : CallE := ⟨52, [.d false (.list (.list (.int .i64)))], [.l (.o false 33 (.list (.int .i64)))], fun x => s_l7Hull x⟩
noncomputable def c_s_l7Hull : Ctx := ⟨Try.prog, TT, [e_s_l7Turn], [⟨3, [(3, .l (.o false 33 (.list (.int .i64)))), (4, .l (.d false (.int .i64)))], some (0, [(3, .l (.o false 33 (.list (.int .i64))))]), none, false⟩, ⟨7, [(3, .l (.o false 33 (.list (.int .i64)))), (6, .l (.d false (.int .i64)))], some (2, [(3, .l (.o false 33 (.list (.int .i64))))]), none, false⟩, ⟨12, [(3, .l (.o false 33 (.list (.int .i64))))], some (4, [(3, .l (.o false 33 (.list (.int .i64))))]), none, false⟩], [], [], [], []⟩
theorem k_s_l7Hull (x : PMs.den e_s_l7Hull.ps) : funK c_s_l7Hull Try.f52 e_s_l7Hull.ps e_s_l7Hull.rs x = e_s_l7Hull.F x := by kernel_rfl
theorem o_s_l7Hull : FnOk Try.prog e_s_l7Hull.f ∧ Ctr Try.prog e_s_l7Hull := mkCtr (C := c_s_l7Hull) m_ (⟨o_s_l7Turn, trivial⟩) Try.func52 (by kernel_rfl) k_s_l7Hull
/-! loop.example/g00959/spec.l7Copy -/
noncomputable def s_l7Copy_s3 (x0 : List (List Int)) (v1 : List (List Int) × Int) : Option ((List (List Int) × Int) ⊕ (List (List Int))) :=
 cond (decide (v1.2 < (x0.length : Int)))
 ((idx x0 v1.2).bind fun v2 => (appD 8 ([] : List Int) v2).bind fun v3 => (appD 24 v1.1 ([v3] : List (List Int))).bind fun v4 => some (.inl (v4, (IntKind.i64.wrap (v1.2 + (1 : Int))))))
 (some (.inr v1.1))
noncomputable def s_l7Copy (x0 : List (List Int)) : Option (List (List Int)) :=
(iter (s_l7Copy_s3 x0) (([] : List (List Int)), (0 : Int))).bind fun v5 => some v5
noncomputable def e_s_l7Copy : CallE := ⟨41, [.d false (.list (.list (.int .i64)))], [.l (.o true 33 (.list (.int .i64)))], fun x => s_l7Copy x⟩
noncomputable def c_s_l7Copy : Ctx := ⟨Try.prog, TT, [], [⟨3, [(3, .l (.o true 33 (.list (.int .i64)))), (4, .l (.d false (.int .i64)))], some (0, [(3, .l (.o true 33 (.list (.int .i64))))]), none, false⟩], [], [], [], []⟩
theorem k_s_l7Copy (x : PMs.den e_s_l7Copy.ps) : funK c_s_l7Copy Try.f41 e_s_l7Copy.ps e_s_l7Copy.rs x = e_s_l7Copy.F x := by kernel_rfl
theorem o_s_l7Copy : FnOk Try.prog e_s_l7Copy.f ∧ Ctr Try.prog e_s_l7Copy := mkCtr (C := c_s_l7Copy) m_ (trivial) Try.func41 (by kernel_rfl) k_s_l7Copy
/-! loop.example/g00959/spec.HullOf -/
noncomputable def s_HullOf_s5 (x0 : List (List Int)) (v2 : List (List Int) × Int) : Option ((List (List Int) × Int) ⊕ (List (List Int))) :=
 cond (decide (v2.2 < (x0.length : Int)))
 ((idx x0 v2.2).bind fun v3 => (s_l2Put v2.1 v3).bind fun v4 => some (.inl (v4, (IntKind.i64.wrap (v2.2 + (1 : Int))))))
 (some (.inr v2.1))
noncomputable def s_HullOf (x0 : List (List Int)) : Option (List (List Int) × Bool) :=
 cond (decide ((x0.length : Int) > (200 : Int)))
 (some (([] : List (List Int)), false))
 ((s_l7Flat x0).bind fun v1 => cond (!v1)
 (some (([] : List (List Int)), false))
 ((iter (s_HullOf_s5 x0) (([] : List (List Int)), (0 : Int))).bind fun v5 => cond (decide ((v5.length : Int) < (3 : Int)))
 (some (([] : List (List Int)), false))
 ((s_l7Hull v5).bind fun v6 => cond (decide ((v6.length : Int) < (3 : Int)))
 (some (([] : List (List Int)), false))
 (cond (decide ((v6.length : Int) > (12 : Int)))
 (some (([] : List (List Int)), false))
 ((s_l7Copy v6).bind fun v7 => some (v7, true))))))
noncomputable def e_s_HullOf : CallE := ⟨37, [.d false (.list (.list (.int .i64)))], [.l (.o true 33 (.list (.int .i64))), .l (.d false .bool)], fun x => s_HullOf x⟩
noncomputable def c_s_HullOf : Ctx := ⟨Try.prog, TT, [e_s_l7Flat, e_s_l2Put, e_s_l7Hull, e_s_l7Copy], [⟨5, [(4, .l (.o false 33 (.list (.int .i64)))), (5, .l (.d false (.int .i64)))], some (0, [(4, .l (.o false 33 (.list (.int .i64))))]), none, false⟩], [], [], [], []⟩
theorem k_s_HullOf (x : PMs.den e_s_HullOf.ps) : funK c_s_HullOf Try.f37 e_s_HullOf.ps e_s_HullOf.rs x = e_s_HullOf.F x := by kernel_rfl
theorem o_s_HullOf : FnOk Try.prog e_s_HullOf.f ∧ Ctr Try.prog e_s_HullOf := mkCtr (C := c_s_HullOf) m_ (⟨o_s_l7Flat, o_s_l2Put, o_s_l7Hull, o_s_l7Copy, trivial⟩) Try.func37 (by kernel_rfl) k_s_HullOf
/-! loop.example/g00959/spec.l7SameList -/
noncomputable def s_l7SameList_s4 (x0 : List (List Int)) (x1 : List (List Int)) (v1 : Int) : Option ((Int) ⊕ ((Unit) ⊕ (Bool))) :=
 cond (decide (v1 < (x0.length : Int)))
 ((idx x0 v1).bind fun v2 => (idx x1 v1).bind fun v3 => (s_l2Same v2 v3).bind fun v4 => cond (!v4)
 (some (.inr (.inr false)))
 (some (.inl (IntKind.i64.wrap (v1 + (1 : Int))))))
 (some (.inr (.inl ())))
noncomputable def s_l7SameList (x0 : List (List Int)) (x1 : List (List Int)) : Option (Bool) :=
 cond ((x0.length : Int) != (x1.length : Int))
 (some false)
 ((iter (s_l7SameList_s4 x0 x1) (0 : Int)).bind fun v5 => match v5 with
 | .inl v6 => (some true)
 | .inr v7 => (some v7))
noncomputable def e_s_l7SameList : CallE := ⟨38, [.d false (.list (.list (.int .i64))), .d false (.list (.list (.int .i64)))], [.l (.d false .bool)], fun x => s_l7SameList x.1 x.2⟩
noncomputable def c_s_l7SameList : Ctx := ⟨Try.prog, TT, [e_s_l2Same], [⟨4, [(5, .l (.d false (.int .i64)))], some (0, []), some [(4, .l (.d false .bool))], false⟩], [], [], [], []⟩
theorem k_s_l7SameList (x : PMs.den e_s_l7SameList.ps) : funK c_s_l7SameList Try.f38 e_s_l7SameList.ps e_s_l7SameList.rs x = e_s_l7SameList.F x := by kernel_rfl
theorem o_s_l7SameList : FnOk Try.prog e_s_l7SameList.f ∧ Ctr Try.prog e_s_l7SameList := mkCtr (C := c_s_l7SameList) m_ (⟨o_s_l2Same, trivial⟩) Try.func38 (by kernel_rfl) k_s_l7SameList
/-! loop.example/g00959/spec.IsPolygon -/
noncomputable def s_IsPolygon (x0 : List (List Int)) : Option (Bool) :=
(s_l1In (x0.length : Int) (3 : Int) (12 : Int)).bind fun v1 => cond (!v1)
 (some false)
 ((s_l7Flat x0).bind fun v2 => cond (!v2)
 (some false)
 ((s_HullOf x0).bind fun v3 => cond v3.2
 ((s_l7SameList v3.1 x0).bind fun v4 => some v4)
 (some false)))
noncomputable def e_s_IsPolygon : CallE := ⟨25, [.d false (.list (.list (.int .i64)))], [.l (.d false .bool)], fun x => s_IsPolygon x⟩
noncomputable def c_s_IsPolygon : Ctx := ⟨Try.prog, TT, [e_s_l1In, e_s_l7Flat, e_s_HullOf, e_s_l7SameList], [], [], [], [], []⟩
theorem k_s_IsPolygon (x : PMs.den e_s_IsPolygon.ps) : funK c_s_IsPolygon Try.f25 e_s_IsPolygon.ps e_s_IsPolygon.rs x = e_s_IsPolygon.F x := by kernel_rfl
theorem o_s_IsPolygon : FnOk Try.prog e_s_IsPolygon.f ∧ Ctr Try.prog e_s_IsPolygon := mkCtr (C := c_s_IsPolygon) m_ (⟨o_s_l1In, o_s_l7Flat, o_s_HullOf, o_s_l7SameList, trivial⟩) Try.func25 (by kernel_rfl) k_s_IsPolygon
/-! loop.example/g00959/spec.l7Area -/
noncomputable def s_l7Area_s3 (x0 : List (List Int)) (v1 : Int × Int) : Option ((Int × Int) ⊕ (Int)) :=
 cond (decide (v1.2 < (x0.length : Int)))
 ((idx x0 v1.2).bind fun v2 => (remI .i64 (IntKind.i64.wrap (v1.2 + (1 : Int))) (x0.length : Int)).bind fun v3 => (idx x0 v3).bind fun v4 => (s_l7Cross v2 v4).bind fun v5 => some (.inl ((IntKind.i64.wrap (v1.1 + v5)), (IntKind.i64.wrap (v1.2 + (1 : Int))))))
 (some (.inr v1.1))
noncomputable def s_l7Area (x0 : List (List Int)) : Option (Int) :=
(iter (s_l7Area_s3 x0) ((0 : Int), (0 : Int))).bind fun v6 => some v6
noncomputable def e_s_l7Area : CallE := ⟨26, [.d false (.list (.list (.int .i64)))], [.l (.d false (.int .i64))], fun x => s_l7Area x⟩
noncomputable def c_s_l7Area : Ctx := ⟨Try.prog, TT, [e_s_l7Cross], [⟨3, [(3, .l (.d false (.int .i64))), (4, .l (.d false (.int .i64)))], some (0, [(3, .l (.d false (.int .i64)))]), none, false⟩], [], [], [], []⟩
theorem k_s_l7Area (x : PMs.den e_s_l7Area.ps) : funK c_s_l7Area Try.f26 e_s_l7Area.ps e_s_l7Area.rs x = e_s_l7Area.F x := by kernel_rfl
theorem o_s_l7Area : FnOk Try.prog e_s_l7Area.f ∧ Ctr Try.prog e_s_l7Area := mkCtr (C := c_s_l7Area) m_ (⟨o_s_l7Cross, trivial⟩) Try.func26 (by kernel_rfl) k_s_l7Area
/-! loop.example/g00959/spec.l1Min -/
noncomputable def s_l1Min (x0 : Int) (x1 : Int) : Option (Int) :=
 cond (decide (x0 < x1))
 (some x0)
 (some x1)
noncomputable def e_s_l1Min : CallE := ⟨64, [.d false (.int .i64), .d false (.int .i64)], [.l (.d false (.int .i64))], fun x => s_l1Min x.1 x.2⟩
noncomputable def c_s_l1Min : Ctx := ⟨Try.prog, TT, [], [], [], [], [], []⟩
theorem k_s_l1Min (x : PMs.den e_s_l1Min.ps) : funK c_s_l1Min Try.f64 e_s_l1Min.ps e_s_l1Min.rs x = e_s_l1Min.F x := by kernel_rfl
theorem o_s_l1Min : FnOk Try.prog e_s_l1Min.f ∧ Ctr Try.prog e_s_l1Min := mkCtr (C := c_s_l1Min) m_ (trivial) Try.func64 (by kernel_rfl) k_s_l1Min
/-! loop.example/g00959/spec.l1Max -/
noncomputable def s_l1Max (x0 : Int) (x1 : Int) : Option (Int) :=
 cond (decide (x0 > x1))
 (some x0)
 (some x1)
noncomputable def e_s_l1Max : CallE := ⟨65, [.d false (.int .i64), .d false (.int .i64)], [.l (.d false (.int .i64))], fun x => s_l1Max x.1 x.2⟩
noncomputable def c_s_l1Max : Ctx := ⟨Try.prog, TT, [], [], [], [], [], []⟩
theorem k_s_l1Max (x : PMs.den e_s_l1Max.ps) : funK c_s_l1Max Try.f65 e_s_l1Max.ps e_s_l1Max.rs x = e_s_l1Max.F x := by kernel_rfl
theorem o_s_l1Max : FnOk Try.prog e_s_l1Max.f ∧ Ctr Try.prog e_s_l1Max := mkCtr (C := c_s_l1Max) m_ (trivial) Try.func65 (by kernel_rfl) k_s_l1Max
/-! loop.example/g00959/spec.l7Place -/
noncomputable def s_l7Place_s3 (x0 : List (List Int)) (x1 : List Int) (v1 : Int × Int) : Option ((Int × Int) ⊕ ((Int) ⊕ (Int))) :=
 cond (decide (v1.2 < (x0.length : Int)))
 ((idx x0 v1.2).bind fun v2 => (remI .i64 (IntKind.i64.wrap (v1.2 + (1 : Int))) (x0.length : Int)).bind fun v3 => (idx x0 v3).bind fun v4 => (s_l7Turn v2 v4 x1).bind fun v5 => cond (decide (v5 < (0 : Int)))
 (some (.inr (.inr (-1 : Int))))
 (cond (v5 == (0 : Int))
 (some (.inl ((0 : Int), (IntKind.i64.wrap (v1.2 + (1 : Int))))))
 (some (.inl (v1.1, (IntKind.i64.wrap (v1.2 + (1 : Int))))))))
 (some (.inr (.inl v1.1)))
noncomputable def s_l7Place (x0 : List (List Int)) (x1 : List Int) : Option (Int) :=
(iter (s_l7Place_s3 x0 x1) ((1 : Int), (0 : Int))).bind fun v6 => match v6 with
 | .inl v7 => (some v7)
 | .inr v8 => (some v8)
noncomputable def e_s_l7Place : CallE := ⟨66, [.d false (.list (.list (.int .i64))), .d false (.list (.int .i64))], [.l (.d false (.int .i64))], fun x => s_l7Place x.1 x.2⟩
noncomputable def c_s_l7Place : Ctx := ⟨Try.prog, TT, [e_s_l7Turn], [⟨3, [(5, .l (.d false (.int .i64))), (6, .l (.d false (.int .i64)))], some (0, [(5, .l (.d false (.int .i64)))]), some [(4, .l (.d false (.int .i64)))], false⟩], [], [], [], []⟩
theorem k_s_l7Place (x : PMs.den e_s_l7Place.ps) : funK c_s_l7Place Try.f66 e_s_l7Place.ps e_s_l7Place.rs x = e_s_l7Place.F x := by kernel_rfl
theorem o_s_l7Place : FnOk Try.prog e_s_l7Place.f ∧ Ctr Try.prog e_s_l7Place := mkCtr (C := c_s_l7Place) m_ (⟨o_s_l7Turn, trivial⟩) Try.func66 (by kernel_rfl) k_s_l7Place
/-! loop.example/g00959/spec.l7Points -/
noncomputable def s_l7Points_s6 (x0 : List (List Int)) (v7 : List (List Int) × Int × Int × Int × Int) : Option ((List (List Int) × Int × Int × Int × Int) ⊕ (List (List Int) × Int × Int × Int)) :=
 cond (decide (v7.2.2.2.2 < (x0.length : Int)))
 ((idx x0 v7.2.2.2.2).bind fun v8 => (idx v8 (1 : Int)).bind fun v9 => (s_l1Min v7.2.1 v9).bind fun v10 => (idx x0 v7.2.2.2.2).bind fun v11 => (idx v11 (1 : Int)).bind fun v12 => (s_l1Max v7.2.2.1 v12).bind fun v13 => (idx x0 v7.2.2.2.2).bind fun v14 => (idx v14 (0 : Int)).bind fun v15 => (s_l1Max v7.2.2.2.1 v15).bind fun v16 => some (.inl (v7.1, (v10, (v13, (v16, (IntKind.i64.wrap (v7.2.2.2.2 + (1 : Int)))))))))
 (some (.inr (v7.1, (v7.2.1, (v7.2.2.1, v7.2.2.2.1)))))
noncomputable def s_l7Points_s15 (x0 : List (List Int)) (v17 : List (List Int) × Int × Int × Int) (v20 : List (List Int) × Int) (v21 : List (List Int) × Int) : Option ((List (List Int) × Int) ⊕ (List (List Int))) :=
 cond (decide (v21.2 ≤ v17.2.2.1))
 ((s_l7Place x0 ([v20.2, v21.2] : List Int)).bind fun v22 => cond (decide (v22 ≥ (0 : Int)))
 ((appD 24 v21.1 ([([v20.2, v21.2] : List Int)] : List (List Int))).bind fun v23 => some (.inl (v23, (IntKind.i64.wrap (v21.2 + (1 : Int))))))
 (some (.inl (v21.1, (IntKind.i64.wrap (v21.2 + (1 : Int)))))))
 (some (.inr v21.1))
noncomputable def s_l7Points_s12 (x0 : List (List Int)) (v17 : List (List Int) × Int × Int × Int) (v20 : List (List Int) × Int) : Option ((List (List Int) × Int) ⊕ (List (List Int))) :=
 cond (decide (v20.2 ≤ v17.2.2.2))
 ((iter (s_l7Points_s15 x0 v17 v20) (v20.1, v17.2.1)).bind fun v24 => some (.inl (v24, (IntKind.i64.wrap (v20.2 + (1 : Int))))))
 (some (.inr v20.1))
noncomputable def s_l7Points (x0 : List (List Int)) : Option (List (List Int)) :=
(idx x0 (0 : Int)).bind fun v1 => (idx v1 (1 : Int)).bind fun v2 => (idx x0 (0 : Int)).bind fun v3 => (idx v3 (1 : Int)).bind fun v4 => (idx x0 (0 : Int)).bind fun v5 => (idx v5 (0 : Int)).bind fun v6 => (iter (s_l7Points_s6 x0) (([] : List (List Int)), (v2, (v4, (v6, (0 : Int)))))).bind fun v17 => (idx x0 (0 : Int)).bind fun v18 => (idx v18 (0 : Int)).bind fun v19 => (iter (s_l7Points_s12 x0 v17) (v17.1, v19)).bind fun v25 => some v25
noncomputable def e_s_l7Points : CallE := ⟨53, [.d false (.list (.list (.int .i64)))], [.l (.o true 33 (.list (.int .i64)))], fun x => s_l7Points x⟩
noncomputable def c_s_l7Points : Ctx := ⟨Try.prog, TT, [e_s_l1Min, e_s_l1Max, e_s_l7Place], [⟨6, [(3, .l (.o true 33 (.list (.int .i64)))), (4, .l (.d false (.int .i64))), (5, .l (.d false (.int .i64))), (6, .l (.d false (.int .i64))), (7, .l (.d false (.int .i64)))], some (0, [(3, .l (.o true 33 (.list (.int .i64)))), (4, .l (.d false (.int .i64))), (5, .l (.d false (.int .i64))), (6, .l (.d false (.int .i64)))]), none, false⟩, ⟨12, [(3, .l (.o true 33 (.list (.int .i64)))), (8, .l (.d false (.int .i64)))], some (2, [(3, .l (.o true 33 (.list (.int .i64))))]), none, false⟩, ⟨15, [(3, .l (.o true 33 (.list (.int .i64)))), (9, .l (.d false (.int .i64)))], some (4, [(3, .l (.o true 33 (.list (.int .i64))))]), none, false⟩], [], [], [], []⟩
theorem k_s_l7Points (x : PMs.den e_s_l7Points.ps) : funK c_s_l7Points Try.f53 e_s_l7Points.ps e_s_l7Points.rs x = e_s_l7Points.F x := by kernel_rfl
theorem o_s_l7Points : FnOk Try.prog e_s_l7Points.f ∧ Ctr Try.prog e_s_l7Points := mkCtr (C := c_s_l7Points) m_ (⟨o_s_l1Min, o_s_l1Max, o_s_l7Place, trivial⟩) Try.func53 (by kernel_rfl) k_s_l7Points
/-! loop.example/g00959/spec.l20Other -/
noncomputable def s_l20Other_s5 (x0 : List (List Int)) (v8 : List (List Int)) (v9 : Int) : Option ((Int) ⊕ ((Unit) ⊕ (List Int × Bool))) :=
 cond (decide (v9 < (v8.length : Int)))
 ((idx v8 v9).bind fun v10 => (idx x0 (0 : Int)).bind fun v11 => (s_l2Same v10 v11).bind fun v12 => cond (!v12)
 ((idx v8 v9).bind fun v13 => (idx x0 (1 : Int)).bind fun v14 => (s_l2Same v13 v14).bind fun v15 => cond (!v15)
 ((idx v8 v9).bind fun v16 => (idx x0 (2 : Int)).bind fun v17 => (s_l2Same v16 v17).bind fun v18 => cond (!v18)
 ((idx v8 v9).bind fun v19 => some (.inr (.inr (v19, true))))
 (some (.inl (IntKind.i64.wrap (v9 + (1 : Int))))))
 (some (.inl (IntKind.i64.wrap (v9 + (1 : Int))))))
 (some (.inl (IntKind.i64.wrap (v9 + (1 : Int))))))
 (some (.inr (.inl ())))
noncomputable def s_l20Other (x0 : List (List Int)) : Option (List Int × Bool) :=
(idx x0 (0 : Int)).bind fun v1 => (s_l2Put ([] : List (List Int)) v1).bind fun v2 => (idx x0 (1 : Int)).bind fun v3 => (s_l2Put v2 v3).bind fun v4 => (idx x0 (2 : Int)).bind fun v5 => (s_l2Put v4 v5).bind fun v6 => (s_l7Hull v6).bind fun v7 => (s_l7Points v7).bind fun v8 => (iter (s_l20Other_s5 x0 v8) (0 : Int)).bind fun v20 => match v20 with
 | .inl v21 => (some (([] : List Int), false))
 | .inr v22 => (some (v22.1, v22.2))
noncomputable def e_s_l20Other : CallE := ⟨40, [.d false (.list (.list (.int .i64)))], [.l (.d false (.list (.int .i64))), .l (.d false .bool)], fun x => s_l20Other x⟩
noncomputable def c_s_l20Other : Ctx := ⟨Try.prog, TT, [e_s_l2Put, e_s_l7Hull, e_s_l7Points, e_s_l2Same], [⟨5, [(7, .l (.d false (.int .i64)))], some (0, []), some [(2, .l (.d false (.list (.int .i64)))), (3, .l (.d false .bool))], false⟩], [], [], [], []⟩
theorem k_s_l20Other (x : PMs.den e_s_l20Other.ps) : funK c_s_l20Other Try.f40 e_s_l20Other.ps e_s_l20Other.rs x = e_s_l20Other.F x := by kernel_rfl
theorem o_s_l20Other : FnOk Try.prog e_s_l20Other.f ∧ Ctr Try.prog e_s_l20Other := mkCtr (C := c_s_l20Other) m_ (⟨o_s_l2Put, o_s_l7Hull, o_s_l7Points, o_s_l2Same, trivial⟩) Try.func40 (by kernel_rfl) k_s_l20Other
/-! loop.example/g00959/spec.l20Area -/
noncomputable def s_l20Area (x0 : List (List Int)) : Option (Int) :=
(idx x0 (0 : Int)).bind fun v1 => (idx x0 (1 : Int)).bind fun v2 => (idx x0 (2 : Int)).bind fun v3 => (s_l7Turn v1 v2 v3).bind fun v4 => some v4
noncomputable def e_s_l20Area : CallE := ⟨42, [.d false (.list (.list (.int .i64)))], [.l (.d false (.int .i64))], fun x => s_l20Area x⟩
noncomputable def c_s_l20Area : Ctx := ⟨Try.prog, TT, [e_s_l7Turn], [], [], [], [], []⟩
theorem k_s_l20Area (x : PMs.den e_s_l20Area.ps) : funK c_s_l20Area Try.f42 e_s_l20Area.ps e_s_l20Area.rs x = e_s_l20Area.F x := by kernel_rfl
theorem o_s_l20Area : FnOk Try.prog e_s_l20Area.f ∧ Ctr Try.prog e_s_l20Area := mkCtr (C := c_s_l20Area) m_ (⟨o_s_l7Turn, trivial⟩) Try.func42 (by kernel_rfl) k_s_l20Area
/-! loop.example/g00959/spec.l20Split -/
noncomputable def s_l20Split_s5 (rec : (List (List Int)) → (List (List (List Int))) → Option (List (List (List Int)))) (x0 : List (List Int)) (v1 : List Int × Bool) (v4 : List (List (List Int)) × Int) : Option ((List (List (List Int)) × Int) ⊕ (List (List (List Int)))) :=
 cond (decide (v4.2 < (3 : Int)))
 ((idx x0 v4.2).bind fun v5 => (remI .i64 (IntKind.i64.wrap (v4.2 + (1 : Int))) (3 : Int)).bind fun v6 => (idx x0 v6).bind fun v7 => (s_l20Area ([v1.1, v5, v7] : List (List Int))).bind fun v8 => cond (v8 != (0 : Int))
 ((rec ([v1.1, v5, v7] : List (List Int)) v4.1).bind fun v9 => some (.inl (v9, (IntKind.i64.wrap (v4.2 + (1 : Int))))))
 (some (.inl (v4.1, (IntKind.i64.wrap (v4.2 + (1 : Int)))))))
 (some (.inr v4.1))
noncomputable def s_l20SplitB (rec : (List (List Int)) → (List (List (List Int))) → Option (List (List (List Int)))) (x0 : List (List Int)) (x1 : List (List (List Int))) : Option (List (List (List Int))) :=
(s_l20Other x0).bind fun v1 => cond (!v1.2)
 ((s_l7Copy x0).bind fun v2 => (appD 24 x1 ([v2] : List (List (List Int)))).bind fun v3 => some v3)
 ((iter (s_l20Split_s5 rec x0 v1) (x1, (0 : Int))).bind fun v10 => some v10)
noncomputable def s_l20SplitR : Nat → (List (List Int)) → (List (List (List Int))) → Option (List (List (List Int)))
  | 0 => fun _ _ => none
  | n + 1 => s_l20SplitB (s_l20SplitR n)
noncomputable def s_l20Split (x0 : List (List Int)) (x1 : List (List (List Int))) : Option (List (List (List Int))) := s_l20SplitR 30000 x0 x1
noncomputable def e_s_l20Split : CallE := ⟨27, [.d false (.list (.list (.int .i64))), .mv true 22 (.list (.list (.int .i64)))], [.l (.o true 22 (.list (.list (.int .i64))))], fun x => s_l20Split x.1 x.2⟩
noncomputable def r_s_l20Split (rec : (List (List Int)) → (List (List (List Int))) → Option (List (List (List Int)))) : CallE := ⟨27, [.d false (.list (.list (.int .i64))), .mv true 22 (.list (.list (.int .i64)))], [.l (.o true 22 (.list (.list (.int .i64))))], fun x => rec x.1 x.2⟩
noncomputable def c_s_l20Split (rec : (List (List Int)) → (List (List (List Int))) → Option (List (List (List Int)))) : Ctx := ⟨Try.prog, TT, [e_s_l20Other, e_s_l7Copy, e_s_l20Area, r_s_l20Split rec], [⟨5, [(1, .l (.o true 22 (.list (.list (.int .i64))))), (7, .l (.d false (.int .i64)))], some (0, [(1, .l (.o true 22 (.list (.list (.int .i64)))))]), none, false⟩], [], [], [], []⟩
theorem k_s_l20Split (rec : (List (List Int)) → (List (List (List Int))) → Option (List (List (List Int)))) (x : PMs.den (r_s_l20Split rec).ps) : funK (c_s_l20Split rec) Try.f27 (r_s_l20Split rec).ps (r_s_l20Split rec).rs x = (r_s_l20Split (s_l20SplitB rec)).F x := by kernel_rfl
theorem oB_s_l20Split (rec : (List (List Int)) → (List (List (List Int))) → Option (List (List (List Int)))) (h : FnOk Try.prog (r_s_l20Split rec).f ∧ Ctr Try.prog (r_s_l20Split rec)) : FnOk Try.prog (r_s_l20Split (s_l20SplitB rec)).f ∧ Ctr Try.prog (r_s_l20Split (s_l20SplitB rec)) := mkCtr (C := c_s_l20Split rec) m_ (⟨o_s_l20Other, o_s_l7Copy, o_s_l20Area, h, trivial⟩) Try.func27 (by kernel_rfl) (k_s_l20Split rec)
theorem oA_s_l20Split : (n : Nat) → FnOk Try.prog (r_s_l20Split (s_l20SplitR n)).f ∧ Ctr Try.prog (r_s_l20Split (s_l20SplitR n))
  | 0 => ⟨⟨Try.f27, _, Try.func27, by kernel_rfl, rfl⟩, fun x r h => by cases h⟩
  | n + 1 => oB_s_l20Split _ (oA_s_l20Split n)
theorem o_s_l20Split : FnOk Try.prog e_s_l20Split.f ∧ Ctr Try.prog e_s_l20Split := oA_s_l20Split 30000
/-! loop.example/g00959/spec.EmptyTriangles -/
noncomputable def s_EmptyTriangles_s5 (x0 : List (List Int)) (v3 : List (List (List Int)) × Int) : Option ((List (List (List Int)) × Int) ⊕ (List (List (List Int)))) :=
 cond (decide ((IntKind.i64.wrap (v3.2 + (1 : Int))) < (x0.length : Int)))
 ((idx x0 (0 : Int)).bind fun v4 => (idx x0 v3.2).bind fun v5 => (idx x0 (IntKind.i64.wrap (v3.2 + (1 : Int)))).bind fun v6 => (s_l20Split ([v4, v5, v6] : List (List Int)) v3.1).bind fun v7 => some (.inl (v7, (IntKind.i64.wrap (v3.2 + (1 : Int))))))
 (some (.inr v3.1))
noncomputable def s_EmptyTriangles (x0 : List (List Int)) : Option (List (List (List Int))) :=
(s_IsPolygon x0).bind fun v1 => cond (!v1)
 (some ([] : List (List (List Int))))
 ((s_l7Area x0).bind fun v2 => cond (decide (v2 > (200 : Int)))
 (some ([] : List (List (List Int))))
 ((iter (s_EmptyTriangles_s5 x0) (([] : List (List (List Int))), (1 : Int))).bind fun v8 => some v8))
noncomputable def e_s_EmptyTriangles : CallE := ⟨13, [.d false (.list (.list (.int .i64)))], [.l (.o true 22 (.list (.list (.int .i64))))], fun x => s_EmptyTriangles x⟩
noncomputable def c_s_EmptyTriangles : Ctx := ⟨Try.prog, TT, [e_s_IsPolygon, e_s_l7Area, e_s_l20Split], [⟨5, [(3, .l (.o true 22 (.list (.list (.int .i64))))), (4, .l (.d false (.int .i64)))], some (0, [(3, .l (.o true 22 (.list (.list (.int .i64)))))]), none, false⟩], [], [], [], []⟩
theorem k_s_EmptyTriangles (x : PMs.den e_s_EmptyTriangles.ps) : funK c_s_EmptyTriangles Try.f13 e_s_EmptyTriangles.ps e_s_EmptyTriangles.rs x = e_s_EmptyTriangles.F x := by kernel_rfl
theorem o_s_EmptyTriangles : FnOk Try.prog e_s_EmptyTriangles.f ∧ Ctr Try.prog e_s_EmptyTriangles := mkCtr (C := c_s_EmptyTriangles) m_ (⟨o_s_IsPolygon, o_s_l7Area, o_s_l20Split, trivial⟩) Try.func13 (by kernel_rfl) k_s_EmptyTriangles
/-! loop.example/g00959/spec.CountEmpty -/
noncomputable def s_CountEmpty (x0 : List (List Int)) : Option (Int) :=
(s_EmptyTriangles x0).bind fun v1 => cond ((v1.length : Int) == (0 : Int))
 (some (-1 : Int))
 (some (v1.length : Int))
noncomputable def e_s_CountEmpty : CallE := ⟨7, [.d false (.list (.list (.int .i64)))], [.l (.d false (.int .i64))], fun x => s_CountEmpty x⟩
noncomputable def c_s_CountEmpty : Ctx := ⟨Try.prog, TT, [e_s_EmptyTriangles], [], [], [], [], []⟩
theorem k_s_CountEmpty (x : PMs.den e_s_CountEmpty.ps) : funK c_s_CountEmpty Try.f7 e_s_CountEmpty.ps e_s_CountEmpty.rs x = e_s_CountEmpty.F x := by kernel_rfl
theorem o_s_CountEmpty : FnOk Try.prog e_s_CountEmpty.f ∧ Ctr Try.prog e_s_CountEmpty := mkCtr (C := c_s_CountEmpty) m_ (⟨o_s_EmptyTriangles, trivial⟩) Try.func7 (by kernel_rfl) k_s_CountEmpty
/-! loop.example/g00959/impl.within -/
noncomputable def i_within (x0 : Int) (x1 : Int) (x2 : Int) : Option (Bool) :=
 cond (decide (x0 ≥ x1))
 (some (decide (x0 ≤ x2)))
 (some false)
noncomputable def e_i_within : CallE := ⟨43, [.d false (.int .i64), .d false (.int .i64), .d false (.int .i64)], [.l (.d false .bool)], fun x => i_within x.1 x.2.1 x.2.2⟩
noncomputable def c_i_within : Ctx := ⟨Try.prog, TT, [], [], [], [], [], []⟩
theorem k_i_within (x : PMs.den e_i_within.ps) : funK c_i_within Try.f43 e_i_within.ps e_i_within.rs x = e_i_within.F x := by kernel_rfl
theorem o_i_within : FnOk Try.prog e_i_within.f ∧ Ctr Try.prog e_i_within := mkCtr (C := c_i_within) m_ (trivial) Try.func43 (by kernel_rfl) k_i_within
/-! loop.example/g00959/impl.allWithin -/
noncomputable def i_allWithin_s2 (x0 : List Int) (x1 : Int) (x2 : Int) (v1 : Int) : Option ((Int) ⊕ ((Unit) ⊕ (Bool))) :=
 cond (decide (v1 < (x0.length : Int)))
 ((idx x0 v1).bind fun v2 => (i_within v2 x1 x2).bind fun v3 => cond (!v3)
 (some (.inr (.inr false)))
 (some (.inl (IntKind.i64.wrap (v1 + (1 : Int))))))
 (some (.inr (.inl ())))
noncomputable def i_allWithin (x0 : List Int) (x1 : Int) (x2 : Int) : Option (Bool) :=
(iter (i_allWithin_s2 x0 x1 x2) (0 : Int)).bind fun v4 => match v4 with
 | .inl v5 => (some true)
 | .inr v6 => (some v6)
noncomputable def e_i_allWithin : CallE := ⟨55, [.d false (.list (.int .i64)), .d false (.int .i64), .d false (.int .i64)], [.l (.d false .bool)], fun x => i_allWithin x.1 x.2.1 x.2.2⟩
noncomputable def c_i_allWithin : Ctx := ⟨Try.prog, TT, [e_i_within], [⟨2, [(11, .l (.d false (.int .i64)))], some (0, []), some [(6, .l (.d false .bool))], false⟩], [], [], [], []⟩
theorem k_i_allWithin (x : PMs.den e_i_allWithin.ps) : funK c_i_allWithin Try.f55 e_i_allWithin.ps e_i_allWithin.rs x = e_i_allWithin.F x := by kernel_rfl
theorem o_i_allWithin : FnOk Try.prog e_i_allWithin.f ∧ Ctr Try.prog e_i_allWithin := mkCtr (C := c_i_allWithin) m_ (⟨o_i_within, trivial⟩) Try.func55 (by kernel_rfl) k_i_allWithin
/-! loop.example/g00959/impl.isPoint -/
noncomputable def i_isPoint (x0 : List Int) (x1 : Int) : Option (Bool) :=
 cond ((x0.length : Int) == (2 : Int))
 ((i_allWithin x0 (IntKind.i64.wrap (0 - x1)) x1).bind fun v1 => some v1)
 (some false)
noncomputable def e_i_isPoint : CallE := ⟨44, [.d false (.list (.int .i64)), .d false (.int .i64)], [.l (.d false .bool)], fun x => i_isPoint x.1 x.2⟩
noncomputable def c_i_isPoint : Ctx := ⟨Try.prog, TT, [e_i_allWithin], [], [], [], [], []⟩
theorem k_i_isPoint (x : PMs.den e_i_isPoint.ps) : funK c_i_isPoint Try.f44 e_i_isPoint.ps e_i_isPoint.rs x = e_i_isPoint.F x := by kernel_rfl
theorem o_i_isPoint : FnOk Try.prog e_i_isPoint.f ∧ Ctr Try.prog e_i_isPoint := mkCtr (C := c_i_isPoint) m_ (⟨o_i_allWithin, trivial⟩) Try.func44 (by kernel_rfl) k_i_isPoint
/-! loop.example/g00959/impl.minus -/
noncomputable def i_minus (x0 : List Int) (x1 : List Int) : Option (List Int) :=
(idx x0 (0 : Int)).bind fun v1 => (idx x1 (0 : Int)).bind fun v2 => (idx x0 (1 : Int)).bind fun v3 => (idx x1 (1 : Int)).bind fun v4 => some ([(IntKind.i64.wrap (v1 - v2)), (IntKind.i64.wrap (v3 - v4))] : List Int)
noncomputable def e_i_minus : CallE := ⟨57, [.d false (.list (.int .i64)), .d false (.list (.int .i64))], [.l (.o true 3 (.int .i64))], fun x => i_minus x.1 x.2⟩
noncomputable def c_i_minus : Ctx := ⟨Try.prog, TT, [], [], [], [], [], []⟩
theorem k_i_minus (x : PMs.den e_i_minus.ps) : funK c_i_minus Try.f57 e_i_minus.ps e_i_minus.rs x = e_i_minus.F x := by kernel_rfl
theorem o_i_minus : FnOk Try.prog e_i_minus.f ∧ Ctr Try.prog e_i_minus := mkCtr (C := c_i_minus) m_ (trivial) Try.func57 (by kernel_rfl) k_i_minus
/-! loop.example/g00959/impl.cross -/
noncomputable def i_cross (x0 : List Int) (x1 : List Int) : Option (Int) :=
(idx x0 (0 : Int)).bind fun v1 => (idx x1 (1 : Int)).bind fun v2 => (idx x0 (1 : Int)).bind fun v3 => (idx x1 (0 : Int)).bind fun v4 => some (IntKind.i64.wrap ((IntKind.i64.wrap (v1 * v2)) - (IntKind.i64.wrap (v3 * v4))))
noncomputable def e_i_cross : CallE := ⟨56, [.d false (.list (.int .i64)), .d false (.list (.int .i64))], [.l (.d false (.int .i64))], fun x => i_cross x.1 x.2⟩
noncomputable def c_i_cross : Ctx := ⟨Try.prog, TT, [], [], [], [], [], []⟩
theorem k_i_cross (x : PMs.den e_i_cross.ps) : funK c_i_cross Try.f56 e_i_cross.ps e_i_cross.rs x = e_i_cross.F x := by kernel_rfl
theorem o_i_cross : FnOk Try.prog e_i_cross.f ∧ Ctr Try.prog e_i_cross := mkCtr (C := c_i_cross) m_ (trivial) Try.func56 (by kernel_rfl) k_i_cross
/-! loop.example/g00959/impl.turn -/
noncomputable def i_turn (x0 : List Int) (x1 : List Int) (x2 : List Int) : Option (Int) :=
(i_minus x1 x0).bind fun v1 => (i_minus x2 x0).bind fun v2 => (i_cross v1 v2).bind fun v3 => some v3
noncomputable def e_i_turn : CallE := ⟨45, [.d false (.list (.int .i64)), .d false (.list (.int .i64)), .d false (.list (.int .i64))], [.l (.d false (.int .i64))], fun x => i_turn x.1 x.2.1 x.2.2⟩
noncomputable def c_i_turn : Ctx := ⟨Try.prog, TT, [e_i_minus, e_i_cross], [], [], [], [], []⟩
theorem k_i_turn (x : PMs.den e_i_turn.ps) : funK c_i_turn Try.f45 e_i_turn.ps e_i_turn.rs x = e_i_turn.F x := by kernel_rfl
theorem o_i_turn : FnOk Try.prog e_i_turn.f ∧ Ctr Try.prog e_i_turn := mkCtr (C := c_i_turn) m_ (⟨o_i_minus, o_i_cross, trivial⟩) Try.func45 (by kernel_rfl) k_i_turn
/-! cmp.isNaN[int] -/
noncomputable def g_cmp_isNaN (x0 : Int) : Option (Bool) :=
 some (x0 != x0)
noncomputable def e_g_cmp_isNaN : CallE := ⟨50, [.d false (.int .i64)], [.l (.d false .bool)], fun x => g_cmp_isNaN x⟩
noncomputable def c_g_cmp_isNaN : Ctx := ⟨Try.prog, TT, [], [], [], [], [], []⟩
theorem k_g_cmp_isNaN (x : PMs.den e_g_cmp_isNaN.ps) : funK c_g_cmp_isNaN Try.f50 e_g_cmp_isNaN.ps e_g_cmp_isNaN.rs x = e_g_cmp_isNaN.F x := by kernel_rfl
theorem o_g_cmp_isNaN : FnOk Try.prog e_g_cmp_isNaN.f ∧ Ctr Try.prog e_g_cmp_isNaN := mkCtr (C := c_g_cmp_isNaN) m_ (trivial) Try.func50 (by kernel_rfl) k_g_cmp_isNaN
/-! cmp.Compare[int] -/
noncomputable def g_cmp_Compare (x0 : Int) (x1 : Int) : Option (Int) :=
(g_cmp_isNaN x0).bind fun v1 => (g_cmp_isNaN x1).bind fun v2 => cond v1
 (cond v2
 (some (0 : Int))
 (some (-1 : Int)))
 (cond v2
 (some (1 : Int))
 (cond (decide (x0 < x1))
 (some (-1 : Int))
 (cond (decide (x0 > x1))
 (some (1 : Int))
 (some (0 : Int)))))
noncomputable def e_g_cmp_Compare : CallE := ⟨34, [.d false (.int .i64), .d false (.int .i64)], [.l (.d false (.int .i64))], fun x => g_cmp_Compare x.1 x.2⟩
noncomputable def c_g_cmp_Compare : Ctx := ⟨Try.prog, TT, [e_g_cmp_isNaN], [], [], [], [], []⟩
theorem k_g_cmp_Compare (x : PMs.den e_g_cmp_Compare.ps) : funK c_g_cmp_Compare Try.f34 e_g_cmp_Compare.ps e_g_cmp_Compare.rs x = e_g_cmp_Compare.F x := by kernel_rfl
theorem o_g_cmp_Compare : FnOk Try.prog e_g_cmp_Compare.f ∧ Ctr Try.prog e_g_cmp_Compare := mkCtr (C := c_g_cmp_Compare) m_ (⟨o_g_cmp_isNaN, trivial⟩) Try.func34 (by kernel_rfl) k_g_cmp_Compare
/-! slices.Compare[[]int,int] -/
noncomputable def g_slices_Compare_s2 (x0 : List Int) (x1 : List Int) (v1 : Int) : Option ((Int) ⊕ ((Unit) ⊕ (Int))) :=
 cond (decide (v1 < (x0.length : Int)))
 ((idx x0 v1).bind fun v2 => cond (decide (v1 ≥ (x1.length : Int)))
 (some (.inr (.inr (1 : Int))))
 ((idx x1 v1).bind fun v3 => (g_cmp_Compare v2 v3).bind fun v4 => cond (v4 != (0 : Int))
 (some (.inr (.inr v4)))
 (some (.inl (IntKind.i64.wrap (v1 + (1 : Int)))))))
 (some (.inr (.inl ())))
noncomputable def g_slices_Compare (x0 : List Int) (x1 : List Int) : Option (Int) :=
(iter (g_slices_Compare_s2 x0 x1) (0 : Int)).bind fun v5 => match v5 with
 | .inl v6 => (cond (decide ((x0.length : Int) < (x1.length : Int)))
 (some (-1 : Int))
 (some (0 : Int)))
 | .inr v7 => (some v7)
noncomputable def e_g_slices_Compare : CallE := ⟨24, [.d false (.list (.int .i64)), .d false (.list (.int .i64))], [.l (.d false (.int .i64))], fun x => g_slices_Compare x.1 x.2⟩
noncomputable def c_g_slices_Compare : Ctx := ⟨Try.prog, TT, [e_g_cmp_Compare], [⟨2, [(11, .l (.d false (.int .i64)))], some (0, []), some [(4, .l (.d false (.int .i64)))], false⟩], [], [], [], []⟩
theorem k_g_slices_Compare (x : PMs.den e_g_slices_Compare.ps) : funK c_g_slices_Compare Try.f24 e_g_slices_Compare.ps e_g_slices_Compare.rs x = e_g_slices_Compare.F x := by kernel_rfl
theorem o_g_slices_Compare : FnOk Try.prog e_g_slices_Compare.f ∧ Ctr Try.prog e_g_slices_Compare := mkCtr (C := c_g_slices_Compare) m_ (⟨o_g_cmp_Compare, trivial⟩) Try.func24 (by kernel_rfl) k_g_slices_Compare
/-! loop.example/g00959/impl.IsPolygon -/
noncomputable def i_IsPolygon_s4 (x0 : List (List Int)) (v2 : Int) : Option ((Int) ⊕ ((Unit) ⊕ (Bool))) :=
 cond (decide (v2 < (x0.length : Int)))
 ((idx x0 v2).bind fun v3 => (i_isPoint v3 (50 : Int)).bind fun v4 => cond (!v4)
 (some (.inr (.inr false)))
 (some (.inl (IntKind.i64.wrap (v2 + (1 : Int))))))
 (some (.inr (.inl ())))
noncomputable def i_IsPolygon_s11 (x0 : List (List Int)) (v8 : Int) : Option ((Int) ⊕ ((Unit) ⊕ (Bool))) :=
 cond (decide (v8 < (x0.length : Int)))
 ((idx x0 v8).bind fun v9 => (remI .i64 (IntKind.i64.wrap (v8 + (1 : Int))) (x0.length : Int)).bind fun v10 => (idx x0 v10).bind fun v11 => (remI .i64 (IntKind.i64.wrap (v8 + (2 : Int))) (x0.length : Int)).bind fun v12 => (idx x0 v12).bind fun v13 => (i_turn v9 v11 v13).bind fun v14 => cond (decide (v14 ≤ (0 : Int)))
 (some (.inr (.inr false)))
 (cond (decide (v8 > (0 : Int)))
 ((idx x0 (0 : Int)).bind fun v15 => (g_slices_Compare v15 v9).bind fun v16 => cond (decide (v16 ≥ (0 : Int)))
 (some (.inr (.inr false)))
 (cond (decide (v8 > (0 : Int)))
 (cond (decide (v8 < (IntKind.i64.wrap ((x0.length : Int) - (1 : Int)))))
 ((idx x0 (0 : Int)).bind fun v17 => (idx x0 (IntKind.i64.wrap (v8 + (1 : Int)))).bind fun v18 => (i_turn v17 v9 v18).bind fun v19 => cond (decide (v19 ≤ (0 : Int)))
 (some (.inr (.inr false)))
 (some (.inl (IntKind.i64.wrap (v8 + (1 : Int))))))
 (some (.inl (IntKind.i64.wrap (v8 + (1 : Int))))))
 (some (.inl (IntKind.i64.wrap (v8 + (1 : Int)))))))
 (cond (decide (v8 > (0 : Int)))
 (cond (decide (v8 < (IntKind.i64.wrap ((x0.length : Int) - (1 : Int)))))
 ((idx x0 (0 : Int)).bind fun v20 => (idx x0 (IntKind.i64.wrap (v8 + (1 : Int)))).bind fun v21 => (i_turn v20 v9 v21).bind fun v22 => cond (decide (v22 ≤ (0 : Int)))
 (some (.inr (.inr false)))
 (some (.inl (IntKind.i64.wrap (v8 + (1 : Int))))))
 (some (.inl (IntKind.i64.wrap (v8 + (1 : Int))))))
 (some (.inl (IntKind.i64.wrap (v8 + (1 : Int))))))))
 (some (.inr (.inl ())))
noncomputable def i_IsPolygon (x0 : List (List Int)) : Option (Bool) :=
(i_within (x0.length : Int) (3 : Int) (12 : Int)).bind fun v1 => cond (!v1)
 (some false)
 ((iter (i_IsPolygon_s4 x0) (0 : Int)).bind fun v5 => match v5 with
 | .inl v6 => ((iter (i_IsPolygon_s11 x0) (0 : Int)).bind fun v23 => match v23 with
 | .inl v24 => (some true)
 | .inr v25 => (some v25))
 | .inr v7 => (some v7))
noncomputable def e_i_IsPolygon : CallE := ⟨28, [.d false (.list (.list (.int .i64)))], [.l (.d false .bool)], fun x => i_IsPolygon x⟩
noncomputable def c_i_IsPolygon : Ctx := ⟨Try.prog, TT, [e_i_within, e_i_isPoint, e_i_turn, e_g_slices_Compare], [⟨4, [(14, .l (.d false (.int .i64)))], some (0, []), some [(2, .l (.d false .bool))], false⟩, ⟨11, [(26, .l (.d false (.int .i64)))], some (2, []), some [(2, .l (.d false .bool))], false⟩], [], [], [], []⟩
theorem k_i_IsPolygon (x : PMs.den e_i_IsPolygon.ps) : funK c_i_IsPolygon Try.f28 e_i_IsPolygon.ps e_i_IsPolygon.rs x = e_i_IsPolygon.F x := by kernel_rfl
theorem o_i_IsPolygon : FnOk Try.prog e_i_IsPolygon.f ∧ Ctr Try.prog e_i_IsPolygon := mkCtr (C := c_i_IsPolygon) m_ (⟨o_i_within, o_i_isPoint, o_i_turn, o_g_slices_Compare, trivial⟩) Try.func28 (by kernel_rfl) k_i_IsPolygon
/-! loop.example/g00959/impl.areaTwice -/
noncomputable def i_areaTwice_s3 (x0 : List (List Int)) (v1 : Int × Int) : Option ((Int × Int) ⊕ (Int)) :=
 cond (decide (v1.2 < (x0.length : Int)))
 ((idx x0 v1.2).bind fun v2 => (remI .i64 (IntKind.i64.wrap (v1.2 + (1 : Int))) (x0.length : Int)).bind fun v3 => (idx x0 v3).bind fun v4 => (i_cross v2 v4).bind fun v5 => some (.inl ((IntKind.i64.wrap (v1.1 + v5)), (IntKind.i64.wrap (v1.2 + (1 : Int))))))
 (some (.inr v1.1))
noncomputable def i_areaTwice (x0 : List (List Int)) : Option (Int) :=
(iter (i_areaTwice_s3 x0) ((0 : Int), (0 : Int))).bind fun v6 => some v6
noncomputable def e_i_areaTwice : CallE := ⟨46, [.d false (.list (.list (.int .i64)))], [.l (.d false (.int .i64))], fun x => i_areaTwice x⟩
noncomputable def c_i_areaTwice : Ctx := ⟨Try.prog, TT, [e_i_cross], [⟨3, [(3, .l (.d false (.int .i64))), (8, .l (.d false (.int .i64)))], some (0, [(3, .l (.d false (.int .i64)))]), none, false⟩], [], [], [], []⟩
theorem k_i_areaTwice (x : PMs.den e_i_areaTwice.ps) : funK c_i_areaTwice Try.f46 e_i_areaTwice.ps e_i_areaTwice.rs x = e_i_areaTwice.F x := by kernel_rfl
theorem o_i_areaTwice : FnOk Try.prog e_i_areaTwice.f ∧ Ctr Try.prog e_i_areaTwice := mkCtr (C := c_i_areaTwice) m_ (⟨o_i_cross, trivial⟩) Try.func46 (by kernel_rfl) k_i_areaTwice
/-! loop.example/g00959/impl.AreaTwice -/
noncomputable def i_AreaTwice (x0 : List (List Int)) : Option (Int) :=
(i_IsPolygon x0).bind fun v1 => cond (!v1)
 (some (-1 : Int))
 ((i_areaTwice x0).bind fun v2 => some v2)
noncomputable def e_i_AreaTwice : CallE := ⟨29, [.d false (.list (.list (.int .i64)))], [.l (.d false (.int .i64))], fun x => i_AreaTwice x⟩
noncomputable def c_i_AreaTwice : Ctx := ⟨Try.prog, TT, [e_i_IsPolygon, e_i_areaTwice], [], [], [], [], []⟩
theorem k_i_AreaTwice (x : PMs.den e_i_AreaTwice.ps) : funK c_i_AreaTwice Try.f29 e_i_AreaTwice.ps e_i_AreaTwice.rs x = e_i_AreaTwice.F x := by kernel_rfl
theorem o_i_AreaTwice : FnOk Try.prog e_i_AreaTwice.f ∧ Ctr Try.prog e_i_AreaTwice := mkCtr (C := c_i_AreaTwice) m_ (⟨o_i_IsPolygon, o_i_areaTwice, trivial⟩) Try.func29 (by kernel_rfl) k_i_AreaTwice
/-! loop.example/g00959/impl.copyInts -/
noncomputable def i_copyInts (x0 : List Int) : Option (List Int) :=
(appD 8 ([] : List Int) x0).bind fun v1 => some v1
noncomputable def e_i_copyInts : CallE := ⟨58, [.d false (.list (.int .i64))], [.l (.o true 3 (.int .i64))], fun x => i_copyInts x⟩
noncomputable def c_i_copyInts : Ctx := ⟨Try.prog, TT, [], [], [], [], [], []⟩
theorem k_i_copyInts (x : PMs.den e_i_copyInts.ps) : funK c_i_copyInts Try.f58 e_i_copyInts.ps e_i_copyInts.rs x = e_i_copyInts.F x := by kernel_rfl
theorem o_i_copyInts : FnOk Try.prog e_i_copyInts.f ∧ Ctr Try.prog e_i_copyInts := mkCtr (C := c_i_copyInts) m_ (trivial) Try.func58 (by kernel_rfl) k_i_copyInts
/-! loop.example/g00959/impl.lattice -/
noncomputable def i_lattice_s10 (x1 : List Int) (v1 : List (List Int) × Int) (v3 : List Int) (v5 : List (List Int) × Int) : Option ((List (List Int) × Int) ⊕ (List (List Int))) :=
(idx x1 v1.2).bind fun v6 => cond (decide (v5.2 ≤ v6))
 ((i_copyInts v3).bind fun v7 => (appD 8 v7 ([v5.2] : List Int)).bind fun v8 => (appD 24 v5.1 ([v8] : List (List Int))).bind fun v9 => some (.inl (v9, (IntKind.i64.wrap (v5.2 + (1 : Int))))))
 (some (.inr v5.1))
noncomputable def i_lattice_s7 (x0 : List Int) (x1 : List Int) (v1 : List (List Int) × Int) (v2 : List (List Int) × Int) : Option ((List (List Int) × Int) ⊕ (List (List Int))) :=
 cond (decide (v2.2 < (v1.1.length : Int)))
 ((idx v1.1 v2.2).bind fun v3 => (idx x0 v1.2).bind fun v4 => (iter (i_lattice_s10 x1 v1 v3) (v2.1, v4)).bind fun v10 => some (.inl (v10, (IntKind.i64.wrap (v2.2 + (1 : Int))))))
 (some (.inr v2.1))
noncomputable def i_lattice_s3 (x0 : List Int) (x1 : List Int) (v1 : List (List Int) × Int) : Option ((List (List Int) × Int) ⊕ (List (List Int))) :=
 cond (decide (v1.2 < (x0.length : Int)))
 ((iter (i_lattice_s7 x0 x1 v1) (([] : List (List Int)), (0 : Int))).bind fun v11 => some (.inl (v11, (IntKind.i64.wrap (v1.2 + (1 : Int))))))
 (some (.inr v1.1))
noncomputable def i_lattice (x0 : List Int) (x1 : List Int) : Option (List (List Int)) :=
(iter (i_lattice_s3 x0 x1) (([([] : List Int)] : List (List Int)), (0 : Int))).bind fun v12 => some v12
noncomputable def e_i_lattice : CallE := ⟨59, [.d false (.list (.int .i64)), .d false (.list (.int .i64))], [.l (.o true 33 (.list (.int .i64)))], fun x => i_lattice x.1 x.2⟩
noncomputable def c_i_lattice : Ctx := ⟨Try.prog, TT, [e_i_copyInts], [⟨3, [(5, .l (.o true 33 (.list (.int .i64)))), (14, .l (.d false (.int .i64)))], some (0, [(5, .l (.o true 33 (.list (.int .i64))))]), none, false⟩, ⟨7, [(7, .l (.o true 33 (.list (.int .i64)))), (19, .l (.d false (.int .i64)))], some (2, [(7, .l (.o true 33 (.list (.int .i64))))]), none, false⟩, ⟨10, [(7, .l (.o true 33 (.list (.int .i64)))), (10, .l (.d false (.int .i64)))], some (4, [(7, .l (.o true 33 (.list (.int .i64))))]), none, false⟩], [], [], [], []⟩
theorem k_i_lattice (x : PMs.den e_i_lattice.ps) : funK c_i_lattice Try.f59 e_i_lattice.ps e_i_lattice.rs x = e_i_lattice.F x := by kernel_rfl
theorem o_i_lattice : FnOk Try.prog e_i_lattice.f ∧ Ctr Try.prog e_i_lattice := mkCtr (C := c_i_lattice) m_ (⟨o_i_copyInts, trivial⟩) Try.func59 (by kernel_rfl) k_i_lattice
/-! loop.example/g00959/impl.placeOf -/
noncomputable def i_placeOf_s3 (x0 : List (List Int)) (x1 : List Int) (v1 : Int × Int) : Option ((Int × Int) ⊕ ((Int) ⊕ (Int))) :=
 cond (decide (v1.2 < (x0.length : Int)))
 ((idx x0 v1.2).bind fun v2 => (remI .i64 (IntKind.i64.wrap (v1.2 + (1 : Int))) (x0.length : Int)).bind fun v3 => (idx x0 v3).bind fun v4 => (i_turn v2 v4 x1).bind fun v5 => cond (decide (v5 < (0 : Int)))
 (some (.inr (.inr (-1 : Int))))
 (cond (v5 == (0 : Int))
 (some (.inl ((0 : Int), (IntKind.i64.wrap (v1.2 + (1 : Int))))))
 (some (.inl (v1.1, (IntKind.i64.wrap (v1.2 + (1 : Int))))))))
 (some (.inr (.inl v1.1)))
noncomputable def i_placeOf (x0 : List (List Int)) (x1 : List Int) : Option (Int) :=
(iter (i_placeOf_s3 x0 x1) ((1 : Int), (0 : Int))).bind fun v6 => match v6 with
 | .inl v7 => (some v7)
 | .inr v8 => (some v8)
noncomputable def e_i_placeOf : CallE := ⟨60, [.d false (.list (.list (.int .i64))), .d false (.list (.int .i64))], [.l (.d false (.int .i64))], fun x => i_placeOf x.1 x.2⟩
noncomputable def c_i_placeOf : Ctx := ⟨Try.prog, TT, [e_i_turn], [⟨3, [(5, .l (.d false (.int .i64))), (11, .l (.d false (.int .i64)))], some (0, [(5, .l (.d false (.int .i64)))]), some [(4, .l (.d false (.int .i64)))], false⟩], [], [], [], []⟩
theorem k_i_placeOf (x : PMs.den e_i_placeOf.ps) : funK c_i_placeOf Try.f60 e_i_placeOf.ps e_i_placeOf.rs x = e_i_placeOf.F x := by kernel_rfl
theorem o_i_placeOf : FnOk Try.prog e_i_placeOf.f ∧ Ctr Try.prog e_i_placeOf := mkCtr (C := c_i_placeOf) m_ (⟨o_i_turn, trivial⟩) Try.func60 (by kernel_rfl) k_i_placeOf
/-! slices.Equal[[]int,int] -/
noncomputable def g_slices_Equal_s4 (x0 : List Int) (x1 : List Int) (v1 : Int) : Option ((Int) ⊕ ((Unit) ⊕ (Bool))) :=
 cond (decide (v1 < (x0.length : Int)))
 ((idx x0 v1).bind fun v2 => (idx x1 v1).bind fun v3 => cond (v2 != v3)
 (some (.inr (.inr false)))
 (some (.inl (IntKind.i64.wrap (v1 + (1 : Int))))))
 (some (.inr (.inl ())))
noncomputable def g_slices_Equal (x0 : List Int) (x1 : List Int) : Option (Bool) :=
 cond ((x0.length : Int) != (x1.length : Int))
 (some false)
 ((iter (g_slices_Equal_s4 x0 x1) (0 : Int)).bind fun v4 => match v4 with
 | .inl v5 => (some true)
 | .inr v6 => (some v6))
noncomputable def e_g_slices_Equal : CallE := ⟨63, [.d false (.list (.int .i64)), .d false (.list (.int .i64))], [.l (.d false .bool)], fun x => g_slices_Equal x.1 x.2⟩
noncomputable def c_g_slices_Equal : Ctx := ⟨Try.prog, TT, [], [⟨4, [(13, .l (.d false (.int .i64)))], some (0, []), some [(4, .l (.d false .bool))], false⟩], [], [], [], []⟩
theorem k_g_slices_Equal (x : PMs.den e_g_slices_Equal.ps) : funK c_g_slices_Equal Try.f63 e_g_slices_Equal.ps e_g_slices_Equal.rs x = e_g_slices_Equal.F x := by kernel_rfl
theorem o_g_slices_Equal : FnOk Try.prog e_g_slices_Equal.f ∧ Ctr Try.prog e_g_slices_Equal := mkCtr (C := c_g_slices_Equal) m_ (trivial) Try.func63 (by kernel_rfl) k_g_slices_Equal
/-! loop.example/g00959/impl.firstPoint -/
noncomputable def i_firstPoint_s6 (v5 : List Int × List Int × Int) (v6 : List Int) (v7 : List Int × List Int × Int) : Option ((List Int × List Int × Int) ⊕ (List Int × List Int)) :=
 cond (decide (v7.2.2 < (v5.1.length : Int)))
 ((inIdx v7.1.length v7.2.2).bind fun _ => (idx v7.1 ((v7.2.2).toNat : Int)).bind fun v8 => (idx v6 v7.2.2).bind fun v9 => (inIdx v7.2.1.length v7.2.2).bind fun _ => (idx v7.2.1 ((v7.2.2).toNat : Int)).bind fun v10 => (idx v6 v7.2.2).bind fun v11 => (inIdx v7.1.length v7.2.2).bind fun _ => (inIdx v7.1.length ((v7.2.2).toNat : Int)).bind fun _ => (inIdx v7.2.1.length v7.2.2).bind fun _ => (inIdx v7.2.1.length ((v7.2.2).toNat : Int)).bind fun _ => some (.inl ((v7.1.set ((v7.2.2).toNat) (if v9 < v8 then v9 else v8)), ((v7.2.1.set ((v7.2.2).toNat) (if v11 > v10 then v11 else v10)), (IntKind.i64.wrap (v7.2.2 + (1 : Int)))))))
 (some (.inr (v7.1, v7.2.1)))
noncomputable def i_firstPoint_s3 (x0 : List (List Int)) (v5 : List Int × List Int × Int) : Option ((List Int × List Int × Int) ⊕ (List Int × List Int)) :=
 cond (decide (v5.2.2 < (x0.length : Int)))
 ((idx x0 v5.2.2).bind fun v6 => (iter (i_firstPoint_s6 v5 v6) (v5.1, (v5.2.1, (0 : Int)))).bind fun v12 => some (.inl (v12.1, (v12.2, (IntKind.i64.wrap (v5.2.2 + (1 : Int)))))))
 (some (.inr (v5.1, v5.2.1)))
noncomputable def i_firstPoint_s68_2 (x0 : List (List Int)) (v23 : List Int) (v25 : Int) : Option ((Int) ⊕ ((Unit) ⊕ (Int))) :=
 cond (decide (v25 < (x0.length : Int)))
 ((idx x0 v25).bind fun v26 => (g_slices_Equal v26 v23).bind fun v27 => cond v27
 (some (.inr (.inr v25)))
 (some (.inl (IntKind.i64.wrap (v25 + (1 : Int))))))
 (some (.inr (.inl ())))
noncomputable def i_firstPoint_s15 (x0 : List (List Int)) (v18 : List Int) (v19 : List Int) (v20 : List Int) (v21 : List (List Int)) (v22 : Int) : Option ((Int) ⊕ ((Unit) ⊕ (List Int))) :=
 cond (decide (v22 < (v21.length : Int)))
 ((idx v21 v22).bind fun v23 => (i_placeOf ([v18, v19, v20] : List (List Int)) v23).bind fun v24 => cond (decide (v24 ≥ (0 : Int)))
 ((iter (i_firstPoint_s68_2 x0 v23) (0 : Int)).bind fun v28 => match v28 with
 | .inl v29 => (cond (!decide ((-1 : Int) ≥ (0 : Int)))
 (some (.inr (.inr v23)))
 (some (.inl (IntKind.i64.wrap (v22 + (1 : Int))))))
 | .inr v30 => (cond (!decide (v30 ≥ (0 : Int)))
 (some (.inr (.inr v23)))
 (some (.inl (IntKind.i64.wrap (v22 + (1 : Int)))))))
 (some (.inl (IntKind.i64.wrap (v22 + (1 : Int))))))
 (some (.inr (.inl ())))
noncomputable def i_firstPoint_s68_2b40 (x0 : List (List Int)) (v36 : List Int) (v38 : Int) : Option ((Int) ⊕ ((Unit) ⊕ (Int))) :=
 cond (decide (v38 < (x0.length : Int)))
 ((idx x0 v38).bind fun v39 => (g_slices_Equal v39 v36).bind fun v40 => cond v40
 (some (.inr (.inr v38)))
 (some (.inl (IntKind.i64.wrap (v38 + (1 : Int))))))
 (some (.inr (.inl ())))
noncomputable def i_firstPoint_s15b43 (x0 : List (List Int)) (v34 : List (List Int)) (v35 : Int) : Option ((Int) ⊕ ((Unit) ⊕ (List Int))) :=
 cond (decide (v35 < (v34.length : Int)))
 ((idx v34 v35).bind fun v36 => (i_placeOf x0 v36).bind fun v37 => cond (decide (v37 ≥ (0 : Int)))
 ((iter (i_firstPoint_s68_2b40 x0 v36) (0 : Int)).bind fun v41 => match v41 with
 | .inl v42 => (cond (!decide ((-1 : Int) ≥ (0 : Int)))
 (some (.inr (.inr v36)))
 (some (.inl (IntKind.i64.wrap (v35 + (1 : Int))))))
 | .inr v43 => (cond (!decide (v43 ≥ (0 : Int)))
 (some (.inr (.inr v36)))
 (some (.inl (IntKind.i64.wrap (v35 + (1 : Int)))))))
 (some (.inl (IntKind.i64.wrap (v35 + (1 : Int))))))
 (some (.inr (.inl ())))
noncomputable def i_firstPoint (x0 : List (List Int)) : Option (List Int) :=
(idx x0 (0 : Int)).bind fun v1 => (i_copyInts v1).bind fun v2 => (idx x0 (0 : Int)).bind fun v3 => (i_copyInts v3).bind fun v4 => (iter (i_firstPoint_s3 x0) (v2, (v4, (0 : Int)))).bind fun v13 => (idx x0 (0 : Int)).bind fun v14 => (idx x0 (1 : Int)).bind fun v15 => (idx x0 (2 : Int)).bind fun v16 => (i_turn v14 v15 v16).bind fun v17 => cond (decide (v17 < (0 : Int)))
 ((idx x0 (0 : Int)).bind fun v18 => (idx x0 (2 : Int)).bind fun v19 => (idx x0 (1 : Int)).bind fun v20 => (i_lattice v13.1 v13.2).bind fun v21 => (iter (i_firstPoint_s15 x0 v18 v19 v20 v21) (0 : Int)).bind fun v31 => match v31 with
 | .inl v32 => (some ([] : List Int))
 | .inr v33 => ((nneD v33).bind fun _ => some v33))
 ((i_lattice v13.1 v13.2).bind fun v34 => (iter (i_firstPoint_s15b43 x0 v34) (0 : Int)).bind fun v44 => match v44 with
 | .inl v45 => (some ([] : List Int))
 | .inr v46 => ((nneD v46).bind fun _ => some v46))
noncomputable def e_i_firstPoint : CallE := ⟨47, [.d false (.list (.list (.int .i64)))], [.l (.d true (.list (.int .i64)))], fun x => i_firstPoint x⟩
noncomputable def c_i_firstPoint_62 : Ctx := ⟨Try.prog, TT, [e_g_slices_Equal], [], [], [], [], []⟩
noncomputable def n_i_firstPoint_62 : InE := ⟨62, true, inlK c_i_firstPoint_62 Try.f62⟩
theorem q_i_firstPoint_62 : FnOk Try.prog n_i_firstPoint_62.f ∧ InOk Try.prog n_i_firstPoint_62 := mkInlD (C := c_i_firstPoint_62) m_ (⟨o_g_slices_Equal, trivial⟩) Try.func62 (by kernel_rfl) (by kernel_rfl) rfl
noncomputable def c_i_firstPoint_68 : Ctx := ⟨Try.prog, TT, [], [⟨2, [(8, .l (.d false (.int .i64)))], some (0, []), some [(4, .l (.d false (.int .i64)))], false⟩], [], [n_i_firstPoint_62], [], []⟩
noncomputable def n_i_firstPoint_68 : InE := ⟨68, true, quietK (inlK c_i_firstPoint_68 Try.f68)⟩
theorem q_i_firstPoint_68 : FnOk Try.prog n_i_firstPoint_68.f ∧ InOk Try.prog n_i_firstPoint_68 := mkQuiet (C := c_i_firstPoint_68) m_ (trivial) Try.func68 (by kernel_rfl) ⟨q_i_firstPoint_62, trivial⟩
noncomputable def c_i_firstPoint_61 : Ctx := ⟨Try.prog, TT, [], [], [], [n_i_firstPoint_68], [], []⟩
noncomputable def n_i_firstPoint_61 : InE := ⟨61, false, inlK c_i_firstPoint_61 Try.f61⟩
theorem q_i_firstPoint_61 : FnOk Try.prog n_i_firstPoint_61.f ∧ InOk Try.prog n_i_firstPoint_61 := mkInl (C := c_i_firstPoint_61) m_ (trivial) Try.func61 (by kernel_rfl) ⟨q_i_firstPoint_68, trivial⟩
noncomputable def c_i_firstPoint : Ctx := ⟨Try.prog, TT, [e_i_copyInts, e_i_turn, e_i_lattice, e_i_placeOf], [⟨3, [(3, .l (.o true 3 (.int .i64))), (4, .l (.o true 3 (.int .i64))), (21, .l (.d false (.int .i64)))], some (0, [(3, .l (.o true 3 (.int .i64))), (4, .l (.o true 3 (.int .i64)))]), none, false⟩, ⟨6, [(3, .l (.o true 3 (.int .i64))), (4, .l (.o true 3 (.int .i64))), (27, .l (.d false (.int .i64)))], some (2, [(3, .l (.o true 3 (.int .i64))), (4, .l (.o true 3 (.int .i64)))]), none, false⟩, ⟨15, [(82, .l (.d false (.int .i64)))], some (4, []), some [(2, .l (.d false (.list (.int .i64))))], false⟩], [], [n_i_firstPoint_61], [], [(8, [0, 1, 2, 3, 4, 5, 8, 9, 13, 14, 17, 18, 6, 7, 10, 11, 12, 15, 16, 19, 20, 21, 22, 23, 24, 25])]⟩
theorem k_i_firstPoint (x : PMs.den e_i_firstPoint.ps) : funK c_i_firstPoint Try.f47 e_i_firstPoint.ps e_i_firstPoint.rs x = e_i_firstPoint.F x := by kernel_rfl
theorem o_i_firstPoint : FnOk Try.prog e_i_firstPoint.f ∧ Ctr Try.prog e_i_firstPoint := mkCtr (C := c_i_firstPoint) m_ (⟨o_i_copyInts, o_i_turn, o_i_lattice, o_i_placeOf, trivial⟩) Try.func47 (by kernel_rfl) k_i_firstPoint ⟨q_i_firstPoint_61, trivial⟩
/-! loop.example/g00959/impl.copyPoints -/
noncomputable def i_copyPoints_s3 (x0 : List (List Int)) (v1 : List (List Int) × Int) : Option ((List (List Int) × Int) ⊕ (List (List Int))) :=
 cond (decide (v1.2 < (x0.length : Int)))
 ((idx x0 v1.2).bind fun v2 => (i_copyInts v2).bind fun v3 => (appD 24 v1.1 ([v3] : List (List Int))).bind fun v4 => some (.inl (v4, (IntKind.i64.wrap (v1.2 + (1 : Int))))))
 (some (.inr v1.1))
noncomputable def i_copyPoints (x0 : List (List Int)) : Option (List (List Int)) :=
(iter (i_copyPoints_s3 x0) (([] : List (List Int)), (0 : Int))).bind fun v5 => some v5
noncomputable def e_i_copyPoints : CallE := ⟨48, [.d false (.list (.list (.int .i64)))], [.l (.o true 33 (.list (.int .i64)))], fun x => i_copyPoints x⟩
noncomputable def c_i_copyPoints : Ctx := ⟨Try.prog, TT, [e_i_copyInts], [⟨3, [(3, .l (.o true 33 (.list (.int .i64)))), (8, .l (.d false (.int .i64)))], some (0, [(3, .l (.o true 33 (.list (.int .i64))))]), none, false⟩], [], [], [], []⟩
theorem k_i_copyPoints (x : PMs.den e_i_copyPoints.ps) : funK c_i_copyPoints Try.f48 e_i_copyPoints.ps e_i_copyPoints.rs x = e_i_copyPoints.F x := by kernel_rfl
theorem o_i_copyPoints : FnOk Try.prog e_i_copyPoints.f ∧ Ctr Try.prog e_i_copyPoints := mkCtr (C := c_i_copyPoints) m_ (⟨o_i_copyInts, trivial⟩) Try.func48 (by kernel_rfl) k_i_copyPoints
/-! loop.example/g00959/impl.fill -/
noncomputable def i_fill_s6 (rec : (List (List Int)) → Option (List (List (List Int)))) (x0 : List (List Int)) (v1 : List Int) (v3 : List (List (List Int)) × Int) : Option ((List (List (List Int)) × Int) ⊕ (List (List (List Int)))) :=
 cond (decide (v3.2 < (x0.length : Int)))
 ((idx x0 v3.2).bind fun v4 => (remI .i64 (IntKind.i64.wrap (v3.2 + (1 : Int))) (3 : Int)).bind fun v5 => (idx x0 v5).bind fun v6 => (i_turn v1 v4 v6).bind fun v7 => cond (v7 != (0 : Int))
 ((rec ([v1, v4, v6] : List (List Int))).bind fun v8 => (appD 24 v3.1 v8).bind fun v9 => some (.inl (v9, (IntKind.i64.wrap (v3.2 + (1 : Int))))))
 (some (.inl (v3.1, (IntKind.i64.wrap (v3.2 + (1 : Int)))))))
 (some (.inr v3.1))
noncomputable def i_fillB (rec : (List (List Int)) → Option (List (List (List Int)))) (x0 : List (List Int)) : Option (List (List (List Int))) :=
(i_firstPoint x0).bind fun v1 => cond v1.isEmpty
 ((i_copyPoints x0).bind fun v2 => some ([v2] : List (List (List Int))))
 ((iter (i_fill_s6 rec x0 v1) (([] : List (List (List Int))), (0 : Int))).bind fun v10 => some v10)
noncomputable def i_fillR : Nat → (List (List Int)) → Option (List (List (List Int)))
  | 0 => fun _ => none
  | n + 1 => i_fillB (i_fillR n)
noncomputable def i_fill (x0 : List (List Int)) : Option (List (List (List Int))) := i_fillR 30000 x0
noncomputable def e_i_fill : CallE := ⟨30, [.d false (.list (.list (.int .i64)))], [.l (.o true 22 (.list (.list (.int .i64))))], fun x => i_fill x⟩
noncomputable def r_i_fill (rec : (List (List Int)) → Option (List (List (List Int)))) : CallE := ⟨30, [.d false (.list (.list (.int .i64)))], [.l (.o true 22 (.list (.list (.int .i64))))], fun x => rec x⟩
noncomputable def c_i_fill (rec : (List (List Int)) → Option (List (List (List Int)))) : Ctx := ⟨Try.prog, TT, [e_i_firstPoint, e_i_copyPoints, e_i_turn, r_i_fill rec], [⟨6, [(4, .l (.o true 22 (.list (.list (.int .i64))))), (17, .l (.d false (.int .i64)))], some (0, [(4, .l (.o true 22 (.list (.list (.int .i64)))))]), none, false⟩], [], [], [], []⟩
theorem k_i_fill (rec : (List (List Int)) → Option (List (List (List Int)))) (x : PMs.den (r_i_fill rec).ps) : funK (c_i_fill rec) Try.f30 (r_i_fill rec).ps (r_i_fill rec).rs x = (r_i_fill (i_fillB rec)).F x := by kernel_rfl
theorem oB_i_fill (rec : (List (List Int)) → Option (List (List (List Int)))) (h : FnOk Try.prog (r_i_fill rec).f ∧ Ctr Try.prog (r_i_fill rec)) : FnOk Try.prog (r_i_fill (i_fillB rec)).f ∧ Ctr Try.prog (r_i_fill (i_fillB rec)) := mkCtr (C := c_i_fill rec) m_ (⟨o_i_firstPoint, o_i_copyPoints, o_i_turn, h, trivial⟩) Try.func30 (by kernel_rfl) (k_i_fill rec)
theorem oA_i_fill : (n : Nat) → FnOk Try.prog (r_i_fill (i_fillR n)).f ∧ Ctr Try.prog (r_i_fill (i_fillR n))
  | 0 => ⟨⟨Try.f30, _, Try.func30, by kernel_rfl, rfl⟩, fun x r h => by cases h⟩
  | n + 1 => oB_i_fill _ (oA_i_fill n)
theorem o_i_fill : FnOk Try.prog e_i_fill.f ∧ Ctr Try.prog e_i_fill := oA_i_fill 30000
/-! loop.example/g00959/impl.EmptyTriangles -/
noncomputable def i_EmptyTriangles_s5 (x0 : List (List Int)) (v3 : List (List (List Int)) × Int) : Option ((List (List (List Int)) × Int) ⊕ (List (List (List Int)))) :=
 cond (decide ((IntKind.i64.wrap (v3.2 + (1 : Int))) < (x0.length : Int)))
 ((idx x0 (0 : Int)).bind fun v4 => (idx x0 v3.2).bind fun v5 => (idx x0 (IntKind.i64.wrap (v3.2 + (1 : Int)))).bind fun v6 => (i_fill ([v4, v5, v6] : List (List Int))).bind fun v7 => (appD 24 v3.1 v7).bind fun v8 => some (.inl (v8, (IntKind.i64.wrap (v3.2 + (1 : Int))))))
 (some (.inr v3.1))
noncomputable def i_EmptyTriangles (x0 : List (List Int)) : Option (List (List (List Int))) :=
(i_IsPolygon x0).bind fun v1 => cond (!v1)
 (some ([] : List (List (List Int))))
 ((i_AreaTwice x0).bind fun v2 => cond (decide (v2 > (200 : Int)))
 (some ([] : List (List (List Int))))
 ((iter (i_EmptyTriangles_s5 x0) (([] : List (List (List Int))), (1 : Int))).bind fun v9 => (nneD v9).bind fun _ => some v9))
noncomputable def e_i_EmptyTriangles : CallE := ⟨14, [.d false (.list (.list (.int .i64)))], [.l (.d true (.list (.list (.list (.int .i64)))))], fun x => i_EmptyTriangles x⟩
noncomputable def c_i_EmptyTriangles : Ctx := ⟨Try.prog, TT, [e_i_IsPolygon, e_i_AreaTwice, e_i_fill], [⟨5, [(3, .l (.o true 22 (.list (.list (.int .i64))))), (4, .l (.d false (.int .i64)))], some (0, [(3, .l (.o true 22 (.list (.list (.int .i64)))))]), none, false⟩], [], [], [], []⟩
theorem k_i_EmptyTriangles (x : PMs.den e_i_EmptyTriangles.ps) : funK c_i_EmptyTriangles Try.f14 e_i_EmptyTriangles.ps e_i_EmptyTriangles.rs x = e_i_EmptyTriangles.F x := by kernel_rfl
theorem o_i_EmptyTriangles : FnOk Try.prog e_i_EmptyTriangles.f ∧ Ctr Try.prog e_i_EmptyTriangles := mkCtr (C := c_i_EmptyTriangles) m_ (⟨o_i_IsPolygon, o_i_AreaTwice, o_i_fill, trivial⟩) Try.func14 (by kernel_rfl) k_i_EmptyTriangles
/-! loop.example/g00959/impl.CountEmpty -/
noncomputable def i_CountEmpty (x0 : List (List Int)) : Option (Int) :=
(i_EmptyTriangles x0).bind fun v1 => cond v1.isEmpty
 (some (-1 : Int))
 (some (v1.length : Int))
noncomputable def e_i_CountEmpty : CallE := ⟨9, [.d false (.list (.list (.int .i64)))], [.l (.d false (.int .i64))], fun x => i_CountEmpty x⟩
noncomputable def c_i_CountEmpty : Ctx := ⟨Try.prog, TT, [e_i_EmptyTriangles], [], [], [], [], []⟩
theorem k_i_CountEmpty (x : PMs.den e_i_CountEmpty.ps) : funK c_i_CountEmpty Try.f9 e_i_CountEmpty.ps e_i_CountEmpty.rs x = e_i_CountEmpty.F x := by kernel_rfl
theorem o_i_CountEmpty : FnOk Try.prog e_i_CountEmpty.f ∧ Ctr Try.prog e_i_CountEmpty := mkCtr (C := c_i_CountEmpty) m_ (⟨o_i_EmptyTriangles, trivial⟩) Try.func9 (by kernel_rfl) k_i_CountEmpty
/-! loop.example/g00959/laws.eqIntS -/
noncomputable def w_eqIntS_s4 (x0 : List Int) (x1 : List Int) (v1 : Int) : Option ((Int) ⊕ ((Unit) ⊕ (Bool))) :=
 cond (decide (v1 < (x0.length : Int)))
 ((idx x0 v1).bind fun v2 => (idx x1 v1).bind fun v3 => cond (v2 != v3)
 (some (.inr (.inr false)))
 (some (.inl (IntKind.i64.wrap (v1 + (1 : Int))))))
 (some (.inr (.inl ())))
noncomputable def w_eqIntS (x0 : List Int) (x1 : List Int) : Option (Bool) :=
 cond ((x0.length : Int) != (x1.length : Int))
 (some false)
 ((iter (w_eqIntS_s4 x0 x1) (0 : Int)).bind fun v4 => match v4 with
 | .inl v5 => (some true)
 | .inr v6 => (some v6))
noncomputable def e_w_eqIntS : CallE := ⟨21, [.d false (.list (.int .i64)), .d false (.list (.int .i64))], [.l (.d false .bool)], fun x => w_eqIntS x.1 x.2⟩
noncomputable def c_w_eqIntS : Ctx := ⟨Try.prog, TT, [], [⟨4, [(5, .l (.d false (.int .i64)))], some (0, []), some [(4, .l (.d false .bool))], false⟩], [], [], [], []⟩
theorem k_w_eqIntS (x : PMs.den e_w_eqIntS.ps) : funK c_w_eqIntS Try.f21 e_w_eqIntS.ps e_w_eqIntS.rs x = e_w_eqIntS.F x := by kernel_rfl
theorem o_w_eqIntS : FnOk Try.prog e_w_eqIntS.f ∧ Ctr Try.prog e_w_eqIntS := mkCtr (C := c_w_eqIntS) m_ (trivial) Try.func21 (by kernel_rfl) k_w_eqIntS
/-! loop.example/g00959/laws.eqIntSS -/
noncomputable def w_eqIntSS_s4 (x0 : List (List Int)) (x1 : List (List Int)) (v1 : Int) : Option ((Int) ⊕ ((Unit) ⊕ (Bool))) :=
 cond (decide (v1 < (x0.length : Int)))
 ((idx x0 v1).bind fun v2 => (idx x1 v1).bind fun v3 => (w_eqIntS v2 v3).bind fun v4 => cond (!v4)
 (some (.inr (.inr false)))
 (some (.inl (IntKind.i64.wrap (v1 + (1 : Int))))))
 (some (.inr (.inl ())))
noncomputable def w_eqIntSS (x0 : List (List Int)) (x1 : List (List Int)) : Option (Bool) :=
 cond ((x0.length : Int) != (x1.length : Int))
 (some false)
 ((iter (w_eqIntSS_s4 x0 x1) (0 : Int)).bind fun v5 => match v5 with
 | .inl v6 => (some true)
 | .inr v7 => (some v7))
noncomputable def e_w_eqIntSS : CallE := ⟨10, [.d false (.list (.list (.int .i64))), .d false (.list (.list (.int .i64)))], [.l (.d false .bool)], fun x => w_eqIntSS x.1 x.2⟩
noncomputable def c_w_eqIntSS : Ctx := ⟨Try.prog, TT, [e_w_eqIntS], [⟨4, [(5, .l (.d false (.int .i64)))], some (0, []), some [(4, .l (.d false .bool))], false⟩], [], [], [], []⟩
theorem k_w_eqIntSS (x : PMs.den e_w_eqIntSS.ps) : funK c_w_eqIntSS Try.f10 e_w_eqIntSS.ps e_w_eqIntSS.rs x = e_w_eqIntSS.F x := by kernel_rfl
theorem o_w_eqIntSS : FnOk Try.prog e_w_eqIntSS.f ∧ Ctr Try.prog e_w_eqIntSS := mkCtr (C := c_w_eqIntSS) m_ (⟨o_w_eqIntS, trivial⟩) Try.func10 (by kernel_rfl) k_w_eqIntSS
/-! loop.example/g00959/laws.FnExactCountEmpty -/
noncomputable def w_FnExactCountEmpty (x0 : List (List Int)) : Option (Bool) :=
(w_szIntSS x0 (1048576 : Int)).bind fun v1 => cond (decide (v1 < (0 : Int)))
 (some true)
 ((w_toIntSS x0).bind fun v2 => (s_CountEmpty v2).bind fun v3 => (w_toIntSS x0).bind fun v4 => (i_CountEmpty v4).bind fun v5 => cond (v5 != v3)
 (some false)
 ((w_toIntSS x0).bind fun v6 => (w_eqIntSS v4 v6).bind fun v7 => cond (!v7)
 (some false)
 (some true)))
noncomputable def e_w_FnExactCountEmpty : CallE := ⟨3, [.d false (.list (.list (.int .i64)))], [.l (.d false .bool)], fun x => w_FnExactCountEmpty x⟩
noncomputable def c_w_FnExactCountEmpty : Ctx := ⟨Try.prog, TT, [e_w_szIntSS, e_w_toIntSS, e_s_CountEmpty, e_i_CountEmpty, e_w_eqIntSS], [], [], [], [], []⟩
theorem k_w_FnExactCountEmpty (x : PMs.den e_w_FnExactCountEmpty.ps) : funK c_w_FnExactCountEmpty Try.f3 e_w_FnExactCountEmpty.ps e_w_FnExactCountEmpty.rs x = e_w_FnExactCountEmpty.F x := by kernel_rfl
theorem o_w_FnExactCountEmpty : FnOk Try.prog e_w_FnExactCountEmpty.f ∧ Ctr Try.prog e_w_FnExactCountEmpty := mkCtr (C := c_w_FnExactCountEmpty) m_ (⟨o_w_szIntSS, o_w_toIntSS, o_s_CountEmpty, o_i_CountEmpty, o_w_eqIntSS, trivial⟩) Try.func3 (by kernel_rfl) k_w_FnExactCountEmpty
/-! loop.example/g00959/spec.EdgesUsed -/
noncomputable def s_EdgesUsed_s7 (v1 : List (List (List Int))) (v2 : List (List Int) × Int) (v3 : List (List Int) × Int) : Option ((List (List Int) × Int) ⊕ (List (List Int))) :=
 cond (decide (v3.2 < (3 : Int)))
 ((idx v1 v2.2).bind fun v4 => (idx v4 v3.2).bind fun v5 => (idx v1 v2.2).bind fun v6 => (remI .i64 (IntKind.i64.wrap (v3.2 + (1 : Int))) (3 : Int)).bind fun v7 => (idx v6 v7).bind fun v8 => (s_l2Before v8 v5).bind fun v9 => cond v9
 ((idx v8 (0 : Int)).bind fun v10 => (idx v8 (1 : Int)).bind fun v11 => (idx v5 (0 : Int)).bind fun v12 => (idx v5 (1 : Int)).bind fun v13 => (s_l2Put v3.1 ([v10, v11, v12, v13] : List Int)).bind fun v14 => some (.inl (v14, (IntKind.i64.wrap (v3.2 + (1 : Int))))))
 ((idx v5 (0 : Int)).bind fun v15 => (idx v5 (1 : Int)).bind fun v16 => (idx v8 (0 : Int)).bind fun v17 => (idx v8 (1 : Int)).bind fun v18 => (s_l2Put v3.1 ([v15, v16, v17, v18] : List Int)).bind fun v19 => some (.inl (v19, (IntKind.i64.wrap (v3.2 + (1 : Int)))))))
 (some (.inr v3.1))
noncomputable def s_EdgesUsed_s4 (v1 : List (List (List Int))) (v2 : List (List Int) × Int) : Option ((List (List Int) × Int) ⊕ (List (List Int))) :=
 cond (decide (v2.2 < (v1.length : Int)))
 ((iter (s_EdgesUsed_s7 v1 v2) (v2.1, (0 : Int))).bind fun v20 => some (.inl (v20, (IntKind.i64.wrap (v2.2 + (1 : Int))))))
 (some (.inr v2.1))
noncomputable def s_EdgesUsed (x0 : List (List Int)) : Option (Int) :=
(s_EmptyTriangles x0).bind fun v1 => (iter (s_EdgesUsed_s4 v1) (([] : List (List Int)), (0 : Int))).bind fun v21 => cond ((v1.length : Int) == (0 : Int))
 (some (-1 : Int))
 (some (v21.length : Int))
noncomputable def e_s_EdgesUsed : CallE := ⟨11, [.d false (.list (.list (.int .i64)))], [.l (.d false (.int .i64))], fun x => s_EdgesUsed x⟩
noncomputable def c_s_EdgesUsed : Ctx := ⟨Try.prog, TT, [e_s_EmptyTriangles, e_s_l2Before, e_s_l2Put], [⟨4, [(4, .l (.o false 33 (.list (.int .i64)))), (5, .l (.d false (.int .i64)))], some (0, [(4, .l (.o false 33 (.list (.int .i64))))]), none, false⟩, ⟨7, [(4, .l (.o false 33 (.list (.int .i64)))), (6, .l (.d false (.int .i64)))], some (2, [(4, .l (.o false 33 (.list (.int .i64))))]), none, false⟩], [], [], [], []⟩
theorem k_s_EdgesUsed (x : PMs.den e_s_EdgesUsed.ps) : funK c_s_EdgesUsed Try.f11 e_s_EdgesUsed.ps e_s_EdgesUsed.rs x = e_s_EdgesUsed.F x := by kernel_rfl
theorem o_s_EdgesUsed : FnOk Try.prog e_s_EdgesUsed.f ∧ Ctr Try.prog e_s_EdgesUsed := mkCtr (C := c_s_EdgesUsed) m_ (⟨o_s_EmptyTriangles, o_s_l2Before, o_s_l2Put, trivial⟩) Try.func11 (by kernel_rfl) k_s_EdgesUsed
/-! loop.example/g00959/impl.EmptyTriangles -/
noncomputable def i_EmptyTriangles_1_s5 (x0 : List (List Int)) (v3 : List (List (List Int)) × Int) : Option ((List (List (List Int)) × Int) ⊕ (List (List (List Int)))) :=
 cond (decide ((IntKind.i64.wrap (v3.2 + (1 : Int))) < (x0.length : Int)))
 ((idx x0 (0 : Int)).bind fun v4 => (idx x0 v3.2).bind fun v5 => (idx x0 (IntKind.i64.wrap (v3.2 + (1 : Int)))).bind fun v6 => (i_fill ([v4, v5, v6] : List (List Int))).bind fun v7 => (appD 24 v3.1 v7).bind fun v8 => some (.inl (v8, (IntKind.i64.wrap (v3.2 + (1 : Int))))))
 (some (.inr v3.1))
noncomputable def i_EmptyTriangles_1 (x0 : List (List Int)) : Option (List (List (List Int))) :=
(i_IsPolygon x0).bind fun v1 => cond (!v1)
 (some ([] : List (List (List Int))))
 ((i_AreaTwice x0).bind fun v2 => cond (decide (v2 > (200 : Int)))
 (some ([] : List (List (List Int))))
 ((iter (i_EmptyTriangles_1_s5 x0) (([] : List (List (List Int))), (1 : Int))).bind fun v9 => some v9))
noncomputable def e_i_EmptyTriangles_1 : CallE := ⟨14, [.d false (.list (.list (.int .i64)))], [.l (.o true 22 (.list (.list (.int .i64))))], fun x => i_EmptyTriangles_1 x⟩
noncomputable def c_i_EmptyTriangles_1 : Ctx := ⟨Try.prog, TT, [e_i_IsPolygon, e_i_AreaTwice, e_i_fill], [⟨5, [(3, .l (.o true 22 (.list (.list (.int .i64))))), (4, .l (.d false (.int .i64)))], some (0, [(3, .l (.o true 22 (.list (.list (.int .i64)))))]), none, false⟩], [], [], [], []⟩
theorem k_i_EmptyTriangles_1 (x : PMs.den e_i_EmptyTriangles_1.ps) : funK c_i_EmptyTriangles_1 Try.f14 e_i_EmptyTriangles_1.ps e_i_EmptyTriangles_1.rs x = e_i_EmptyTriangles_1.F x := by kernel_rfl
theorem o_i_EmptyTriangles_1 : FnOk Try.prog e_i_EmptyTriangles_1.f ∧ Ctr Try.prog e_i_EmptyTriangles_1 := mkCtr (C := c_i_EmptyTriangles_1) m_ (⟨o_i_IsPolygon, o_i_AreaTwice, o_i_fill, trivial⟩) Try.func14 (by kernel_rfl) k_i_EmptyTriangles_1
/-! loop.example/g00959/laws.eqIntSSS -/
noncomputable def w_eqIntSSS_s4 (x0 : List (List (List Int))) (x1 : List (List (List Int))) (v1 : Int) : Option ((Int) ⊕ ((Unit) ⊕ (Bool))) :=
 cond (decide (v1 < (x0.length : Int)))
 ((idx x0 v1).bind fun v2 => (idx x1 v1).bind fun v3 => (w_eqIntSS v2 v3).bind fun v4 => cond (!v4)
 (some (.inr (.inr false)))
 (some (.inl (IntKind.i64.wrap (v1 + (1 : Int))))))
 (some (.inr (.inl ())))
noncomputable def w_eqIntSSS (x0 : List (List (List Int))) (x1 : List (List (List Int))) : Option (Bool) :=
 cond ((x0.length : Int) != (x1.length : Int))
 (some false)
 ((iter (w_eqIntSSS_s4 x0 x1) (0 : Int)).bind fun v5 => match v5 with
 | .inl v6 => (some true)
 | .inr v7 => (some v7))
noncomputable def e_w_eqIntSSS : CallE := ⟨15, [.d false (.list (.list (.list (.int .i64)))), .d false (.list (.list (.list (.int .i64))))], [.l (.d false .bool)], fun x => w_eqIntSSS x.1 x.2⟩
noncomputable def c_w_eqIntSSS : Ctx := ⟨Try.prog, TT, [e_w_eqIntSS], [⟨4, [(5, .l (.d false (.int .i64)))], some (0, []), some [(4, .l (.d false .bool))], false⟩], [], [], [], []⟩
theorem k_w_eqIntSSS (x : PMs.den e_w_eqIntSSS.ps) : funK c_w_eqIntSSS Try.f15 e_w_eqIntSSS.ps e_w_eqIntSSS.rs x = e_w_eqIntSSS.F x := by kernel_rfl
theorem o_w_eqIntSSS : FnOk Try.prog e_w_eqIntSSS.f ∧ Ctr Try.prog e_w_eqIntSSS := mkCtr (C := c_w_eqIntSSS) m_ (⟨o_w_eqIntSS, trivial⟩) Try.func15 (by kernel_rfl) k_w_eqIntSSS
/-! loop.example/g00959/laws.markIntS, deep -/
noncomputable def d_markIntS_s (s : Int × Int × List Int) : Option ((Int × Int × List Int) ⊕ (Int × List Int)) :=
 cond (decide (s.2.1 < (s.2.2.length : Int)))
 ((inIdx s.2.2.length s.2.1).bind fun _ => (s.2.2[s.2.1.toNat]?).bind fun v1 => (setInt (.int .i64) v1 0 s.1).bind fun v2 => some (.inl ((IntKind.i64.wrap (s.1 + (1 : Int))), (IntKind.i64.wrap (s.2.1 + (1 : Int))), (s.2.2.set s.2.1.toNat v2))))
 (some (.inr (s.1, s.2.2)))
noncomputable def d_markIntS (x0 : List Int) (x1 : Int) : Option (List Int × Int) :=
(iter d_markIntS_s (x1, (0 : Int), x0)).bind fun v3 => some (v3.2, v3.1)
noncomputable def i_d_markIntS : InnerE := ⟨31, (.int .i64), fun y n => d_markIntS y n⟩
noncomputable def c_d_markIntS : Ctx := ⟨Try.prog, TT, [], [], [], [], [], []⟩
theorem k_d_markIntS (y : List Int) (n : Int) : funM c_d_markIntS [] (.int .i64) ⟨0, 1, 5, 0⟩ Try.f31 y n = i_d_markIntS.F y n := by kernel_rfl
theorem o_d_markIntS : FnOk Try.prog i_d_markIntS.f ∧ ∀ e, MarkOk Try.prog (i_d_markIntS.mark e) := mkMark (C := c_d_markIntS) (S := []) (L := ⟨0, 1, 5, 0⟩) (trivial) Try.func31 (by kernel_rfl) k_d_markIntS
/-! loop.example/g00959/laws.markIntSS, deep -/
noncomputable def d_markIntSS_s (s : Int × Int × List (List Int)) : Option ((Int × Int × List (List Int)) ⊕ (Int × List (List Int))) :=
 cond (decide (s.2.1 < (s.2.2.length : Int)))
 ((inIdx s.2.2.length s.2.1).bind fun _ => if s.2.1.toNat < s.2.2.length ∧ 0 < Ty.wid (.list (.int .i64)) then ((s.2.2[s.2.1.toNat]?).bind fun v1 => (updAt i_d_markIntS (.list (.int .i64)) v1 0 s.1).bind fun v2 => some (.inl (v2.2, (IntKind.i64.wrap (s.2.1 + (1 : Int))), (s.2.2.set s.2.1.toNat v2.1)))) else none)
 (some (.inr (s.1, s.2.2)))
noncomputable def d_markIntSS (x0 : List (List Int)) (x1 : Int) : Option (List (List Int) × Int) :=
(iter d_markIntSS_s (x1, (0 : Int), x0)).bind fun v3 => some (v3.2, v3.1)
noncomputable def i_d_markIntSS : InnerE := ⟨16, (.list (.int .i64)), fun y n => d_markIntSS y n⟩
noncomputable def c_d_markIntSS : Ctx := ⟨Try.prog, TT, [], [], [], [], [], []⟩
theorem k_d_markIntSS (y : List (List Int)) (n : Int) : funM c_d_markIntSS [i_d_markIntS] (.list (.int .i64)) ⟨0, 1, 5, 0⟩ Try.f16 y n = i_d_markIntSS.F y n := by kernel_rfl
theorem o_d_markIntSS : FnOk Try.prog i_d_markIntSS.f ∧ ∀ e, MarkOk Try.prog (i_d_markIntSS.mark e) := mkMark (C := c_d_markIntSS) (S := [i_d_markIntS]) (L := ⟨0, 1, 5, 0⟩) (⟨o_d_markIntS, trivial⟩) Try.func16 (by kernel_rfl) k_d_markIntSS
/-! loop.example/g00959/laws.markIntSSS, deep -/
noncomputable def d_markIntSSS_s (s : Int × Int × List (List (List Int))) : Option ((Int × Int × List (List (List Int))) ⊕ (Int × List (List (List Int)))) :=
 cond (decide (s.2.1 < (s.2.2.length : Int)))
 ((inIdx s.2.2.length s.2.1).bind fun _ => if s.2.1.toNat < s.2.2.length ∧ 0 < Ty.wid (.list (.list (.int .i64))) then ((s.2.2[s.2.1.toNat]?).bind fun v1 => (updAt i_d_markIntSS (.list (.list (.int .i64))) v1 0 s.1).bind fun v2 => some (.inl (v2.2, (IntKind.i64.wrap (s.2.1 + (1 : Int))), (s.2.2.set s.2.1.toNat v2.1)))) else none)
 (some (.inr (s.1, s.2.2)))
noncomputable def d_markIntSSS (x0 : List (List (List Int))) (x1 : Int) : Option (List (List (List Int)) × Int) :=
(iter d_markIntSSS_s (x1, (0 : Int), x0)).bind fun v3 => some (v3.2, v3.1)
noncomputable def i_d_markIntSSS : InnerE := ⟨17, (.list (.list (.int .i64))), fun y n => d_markIntSSS y n⟩
noncomputable def c_d_markIntSSS : Ctx := ⟨Try.prog, TT, [], [], [], [], [], []⟩
theorem k_d_markIntSSS (y : List (List (List Int))) (n : Int) : funM c_d_markIntSSS [i_d_markIntSS] (.list (.list (.int .i64))) ⟨0, 1, 5, 0⟩ Try.f17 y n = i_d_markIntSSS.F y n := by kernel_rfl
theorem o_d_markIntSSS : FnOk Try.prog i_d_markIntSSS.f ∧ ∀ e, MarkOk Try.prog (i_d_markIntSSS.mark e) := mkMark (C := c_d_markIntSSS) (S := [i_d_markIntSS]) (L := ⟨0, 1, 5, 0⟩) (⟨o_d_markIntSS, trivial⟩) Try.func17 (by kernel_rfl) k_d_markIntSSS
/-! loop.example/g00959/laws.heldIntS -/
noncomputable def w_heldIntS_s2 (x0 : List Int) (v1 : Int × Int) : Option ((Int × Int) ⊕ ((Int) ⊕ (Int))) :=
 cond (decide (v1.2 < (x0.length : Int)))
 ((idx x0 v1.2).bind fun v2 => cond (v2 != v1.1)
 (some (.inr (.inr (-1 : Int))))
 (some (.inl ((IntKind.i64.wrap (v1.1 + (1 : Int))), (IntKind.i64.wrap (v1.2 + (1 : Int)))))))
 (some (.inr (.inl v1.1)))
noncomputable def w_heldIntS (x0 : List Int) (x1 : Int) : Option (Int) :=
(iter (w_heldIntS_s2 x0) (x1, (0 : Int))).bind fun v3 => match v3 with
 | .inl v4 => (some v4)
 | .inr v5 => (some v5)
noncomputable def e_w_heldIntS : CallE := ⟨49, [.d false (.list (.int .i64)), .d false (.int .i64)], [.l (.d false (.int .i64))], fun x => w_heldIntS x.1 x.2⟩
noncomputable def c_w_heldIntS : Ctx := ⟨Try.prog, TT, [], [⟨2, [(1, .l (.d false (.int .i64))), (5, .l (.d false (.int .i64)))], some (0, [(1, .l (.d false (.int .i64)))]), some [(4, .l (.d false (.int .i64)))], false⟩], [], [], [], []⟩
theorem k_w_heldIntS (x : PMs.den e_w_heldIntS.ps) : funK c_w_heldIntS Try.f49 e_w_heldIntS.ps e_w_heldIntS.rs x = e_w_heldIntS.F x := by kernel_rfl
theorem o_w_heldIntS : FnOk Try.prog e_w_heldIntS.f ∧ Ctr Try.prog e_w_heldIntS := mkCtr (C := c_w_heldIntS) m_ (trivial) Try.func49 (by kernel_rfl) k_w_heldIntS
/-! loop.example/g00959/laws.heldIntSS -/
noncomputable def w_heldIntSS_s2 (x0 : List (List Int)) (v1 : Int × Int) : Option ((Int × Int) ⊕ ((Int) ⊕ (Int))) :=
 cond (decide (v1.2 < (x0.length : Int)))
 ((idx x0 v1.2).bind fun v2 => (w_heldIntS v2 v1.1).bind fun v3 => cond (decide (v3 < (0 : Int)))
 (some (.inr (.inr (-1 : Int))))
 (some (.inl (v3, (IntKind.i64.wrap (v1.2 + (1 : Int)))))))
 (some (.inr (.inl v1.1)))
noncomputable def w_heldIntSS (x0 : List (List Int)) (x1 : Int) : Option (Int) :=
(iter (w_heldIntSS_s2 x0) (x1, (0 : Int))).bind fun v4 => match v4 with
 | .inl v5 => (some v5)
 | .inr v6 => (some v6)
noncomputable def e_w_heldIntSS : CallE := ⟨32, [.d false (.list (.list (.int .i64))), .d false (.int .i64)], [.l (.d false (.int .i64))], fun x => w_heldIntSS x.1 x.2⟩
noncomputable def c_w_heldIntSS : Ctx := ⟨Try.prog, TT, [e_w_heldIntS], [⟨2, [(1, .l (.d false (.int .i64))), (5, .l (.d false (.int .i64)))], some (0, [(1, .l (.d false (.int .i64)))]), some [(4, .l (.d false (.int .i64)))], false⟩], [], [], [], []⟩
theorem k_w_heldIntSS (x : PMs.den e_w_heldIntSS.ps) : funK c_w_heldIntSS Try.f32 e_w_heldIntSS.ps e_w_heldIntSS.rs x = e_w_heldIntSS.F x := by kernel_rfl
theorem o_w_heldIntSS : FnOk Try.prog e_w_heldIntSS.f ∧ Ctr Try.prog e_w_heldIntSS := mkCtr (C := c_w_heldIntSS) m_ (⟨o_w_heldIntS, trivial⟩) Try.func32 (by kernel_rfl) k_w_heldIntSS
/-! loop.example/g00959/laws.heldIntSSS -/
noncomputable def w_heldIntSSS_s2 (x0 : List (List (List Int))) (v1 : Int × Int) : Option ((Int × Int) ⊕ ((Int) ⊕ (Int))) :=
 cond (decide (v1.2 < (x0.length : Int)))
 ((idx x0 v1.2).bind fun v2 => (w_heldIntSS v2 v1.1).bind fun v3 => cond (decide (v3 < (0 : Int)))
 (some (.inr (.inr (-1 : Int))))
 (some (.inl (v3, (IntKind.i64.wrap (v1.2 + (1 : Int)))))))
 (some (.inr (.inl v1.1)))
noncomputable def w_heldIntSSS (x0 : List (List (List Int))) (x1 : Int) : Option (Int) :=
(iter (w_heldIntSSS_s2 x0) (x1, (0 : Int))).bind fun v4 => match v4 with
 | .inl v5 => (some v5)
 | .inr v6 => (some v6)
noncomputable def e_w_heldIntSSS : CallE := ⟨18, [.d false (.list (.list (.list (.int .i64)))), .d false (.int .i64)], [.l (.d false (.int .i64))], fun x => w_heldIntSSS x.1 x.2⟩
noncomputable def c_w_heldIntSSS : Ctx := ⟨Try.prog, TT, [e_w_heldIntSS], [⟨2, [(1, .l (.d false (.int .i64))), (5, .l (.d false (.int .i64)))], some (0, [(1, .l (.d false (.int .i64)))]), some [(4, .l (.d false (.int .i64)))], false⟩], [], [], [], []⟩
theorem k_w_heldIntSSS (x : PMs.den e_w_heldIntSSS.ps) : funK c_w_heldIntSSS Try.f18 e_w_heldIntSSS.ps e_w_heldIntSSS.rs x = e_w_heldIntSSS.F x := by kernel_rfl
theorem o_w_heldIntSSS : FnOk Try.prog e_w_heldIntSSS.f ∧ Ctr Try.prog e_w_heldIntSSS := mkCtr (C := c_w_heldIntSSS) m_ (⟨o_w_heldIntSS, trivial⟩) Try.func18 (by kernel_rfl) k_w_heldIntSSS
/-! loop.example/g00959/laws.FnExactEmptyTriangles -/
noncomputable def w_FnExactEmptyTriangles (x0 : List (List Int)) : Option (Bool) :=
(w_szIntSS x0 (1048576 : Int)).bind fun v1 => cond (decide (v1 < (0 : Int)))
 (some true)
 ((w_toIntSS x0).bind fun v2 => (s_EmptyTriangles v2).bind fun v3 => (w_toIntSS x0).bind fun v4 => (i_EmptyTriangles_1 v4).bind fun v5 => (w_eqIntSSS v5 v3).bind fun v6 => cond (!v6)
 (some false)
 ((w_toIntSS x0).bind fun v7 => (w_eqIntSS v4 v7).bind fun v8 => cond (!v8)
 (some false)
 ((d_markIntSS v4 (1 : Int)).bind fun v9 => cond (decide (v9.2 < (0 : Int)))
 (some false)
 ((w_eqIntSSS v5 v3).bind fun v10 => cond (!v10)
 (some false)
 ((d_markIntSSS v5 (1 : Int)).bind fun v11 => (w_heldIntSSS v11.1 (1 : Int)).bind fun v12 => cond (decide (v12 < (0 : Int)))
 (some false)
 (cond (v12 != v11.2)
 (some false)
 ((w_toIntSS x0).bind fun v13 => (i_EmptyTriangles_1 v13).bind fun v14 => (w_eqIntSSS v14 v3).bind fun v15 => cond (!v15)
 (some false)
 ((w_heldIntSSS v11.1 (1 : Int)).bind fun v16 => cond (decide (v16 < (0 : Int)))
 (some false)
 (cond (v16 != v11.2)
 (some false)
 (some true))))))))))
noncomputable def e_w_FnExactEmptyTriangles : CallE := ⟨5, [.d false (.list (.list (.int .i64)))], [.l (.d false .bool)], fun x => w_FnExactEmptyTriangles x⟩
noncomputable def c_w_FnExactEmptyTriangles : Ctx := ⟨Try.prog, TT, [e_w_szIntSS, e_w_toIntSS, e_s_EmptyTriangles, e_i_EmptyTriangles_1, e_w_eqIntSSS, e_w_eqIntSS, e_w_heldIntSSS], [], [], [], [], []⟩
noncomputable def m_w_FnExactEmptyTriangles : List MarkE := [i_d_markIntSS.mark 33, i_d_markIntSSS.mark 22]
theorem k_w_FnExactEmptyTriangles (x : PMs.den e_w_FnExactEmptyTriangles.ps) : funT c_w_FnExactEmptyTriangles m_w_FnExactEmptyTriangles Try.f5 e_w_FnExactEmptyTriangles.ps e_w_FnExactEmptyTriangles.rs x = e_w_FnExactEmptyTriangles.F x := by kernel_rfl
theorem o_w_FnExactEmptyTriangles : FnOk Try.prog e_w_FnExactEmptyTriangles.f ∧ Ctr Try.prog e_w_FnExactEmptyTriangles := mkLaw (C := c_w_FnExactEmptyTriangles) (M := m_w_FnExactEmptyTriangles) m_ (⟨o_w_szIntSS, o_w_toIntSS, o_s_EmptyTriangles, o_i_EmptyTriangles_1, o_w_eqIntSSS, o_w_eqIntSS, o_w_heldIntSSS, trivial⟩) (⟨⟨o_d_markIntSS.1, o_d_markIntSS.2 33⟩, ⟨o_d_markIntSSS.1, o_d_markIntSSS.2 22⟩, trivial⟩) Try.func5 (by kernel_rfl) (by kernel_rfl) k_w_FnExactEmptyTriangles
/-! loop.example/g00959/laws.markIntS -/
noncomputable def w_markIntS_s2 (v1 : List Int × Int × Int) : Option ((List Int × Int × Int) ⊕ (List Int × Int)) :=
 cond (decide (v1.2.2 < (v1.1.length : Int)))
 ((inIdx v1.1.length v1.2.2).bind fun _ => (inIdx v1.1.length ((v1.2.2).toNat : Int)).bind fun _ => some (.inl ((v1.1.set ((v1.2.2).toNat) v1.2.1), ((IntKind.i64.wrap (v1.2.1 + (1 : Int))), (IntKind.i64.wrap (v1.2.2 + (1 : Int)))))))
 (some (.inr (v1.1, v1.2.1)))
noncomputable def w_markIntS (x0 : List Int) (x1 : Int) : Option ((Int) × (List Int) × Unit) :=
(iter (w_markIntS_s2) (x0, (x1, (0 : Int)))).bind fun v2 => some (v2.2, (v2.1, ()))
noncomputable def e_w_markIntS : CallE := ⟨31, [.io true 3 (.int .i64), .d false (.int .i64)], [.l (.d false (.int .i64))], fun x => w_markIntS x.1 x.2⟩
noncomputable def c_w_markIntS : Ctx := ⟨Try.prog, TT, [], [⟨2, [(0, .l (.o true 3 (.int .i64))), (1, .l (.d false (.int .i64))), (5, .l (.d false (.int .i64)))], some (0, [(0, .l (.o true 3 (.int .i64))), (1, .l (.d false (.int .i64)))]), none, false⟩], [], [], [], []⟩
theorem k_w_markIntS (x : PMs.den e_w_markIntS.ps) : funK c_w_markIntS Try.f31 e_w_markIntS.ps e_w_markIntS.rs x = e_w_markIntS.F x := by kernel_rfl
theorem o_w_markIntS : FnOk Try.prog e_w_markIntS.f ∧ Ctr Try.prog e_w_markIntS := mkCtr (C := c_w_markIntS) m_ (trivial) Try.func31 (by kernel_rfl) k_w_markIntS
end Go.Proofs.Ytlccglonhkcahaa
