/- Plain functions. -/
import Derived.Test.YtajlabmnpimeeaaProg
import Derived.Test.YtajlabmnpimeeaaEng33
import Derived.KernelRfl
namespace Go.Proofs.Ytajlabmnpimeeaa
open Go Go.Proofs.Ytajlabmnpimeeaa.Eng
set_option linter.unusedVariables false
set_option maxRecDepth 100000
noncomputable def TT : List (TypeId × Ty) := [(3, (.int .i64)), (23, (.list (.int .i64))), (41, (.prod (.list (.int .i64)) (.int .i64))), (49, (.prod (.list (.int .i64)) (.int .i64)))]
theorem m_ : Try.prog.follows .mixedOrders = true := by kernel_rfl
/-! loop.example/g00959/laws.szIntS -/
noncomputable def w_szIntS (x0 : List Int) (x1 : Int) : Option (Int) :=
 cond (decide ((IntKind.i64.wrap (x1 - (x0.length : Int))) < (0 : Int)))
 (some (-1 : Int))
 (some (IntKind.i64.wrap (x1 - (x0.length : Int))))
noncomputable def e_w_szIntS : CallE := ⟨48, [.d false (.list (.int .i64)), .d false (.int .i64)], [.l (.d false (.int .i64))], fun x => w_szIntS x.1 x.2⟩
noncomputable def c_w_szIntS : Ctx := ⟨Try.prog, TT, [], [], [], [], [], []⟩
theorem k_w_szIntS (x : PMs.den e_w_szIntS.ps) : funK c_w_szIntS Try.f48 e_w_szIntS.ps e_w_szIntS.rs x = e_w_szIntS.F x := by kernel_rfl
theorem o_w_szIntS : FnOk Try.prog e_w_szIntS.f ∧ Ctr Try.prog e_w_szIntS := mkCtr (C := c_w_szIntS) m_ (trivial) Try.func48 (by kernel_rfl) k_w_szIntS
/-! loop.example/g00959/laws.szIntSS -/
noncomputable def w_szIntSS_s5 (x0 : List (List Int)) (v1 : Int × Int) : Option ((Int × Int) ⊕ ((Int) ⊕ (Int))) :=
 cond (decide (v1.2 < (x0.length : Int)))
 ((idx x0 v1.2).bind fun v2 => (w_szIntS v2 v1.1).bind fun v3 => cond (decide (v3 < (0 : Int)))
 (some (.inr (.inr (-1 : Int))))
 (some (.inl (v3, (IntKind.i64.wrap (v1.2 + (1 : Int)))))))
 (some (.inr (.inl v1.1)))
noncomputable def w_szIntSS (x0 : List (List Int)) (x1 : Int) : Option (Int) :=
 cond (decide ((IntKind.i64.wrap (x1 - (x0.length : Int))) < (0 : Int)))
 (some (-1 : Int))
 ((iter (w_szIntSS_s5 x0) ((IntKind.i64.wrap (x1 - (x0.length : Int))), (0 : Int))).bind fun v4 => match v4 with
 | .inl v5 => (some v5)
 | .inr v6 => (some v6))
noncomputable def e_w_szIntSS : CallE := ⟨11, [.d false (.list (.list (.int .i64))), .d false (.int .i64)], [.l (.d false (.int .i64))], fun x => w_szIntSS x.1 x.2⟩
noncomputable def c_w_szIntSS : Ctx := ⟨Try.prog, TT, [e_w_szIntS], [⟨5, [(1, .l (.d false (.int .i64))), (5, .l (.d false (.int .i64)))], some (0, [(1, .l (.d false (.int .i64)))]), some [(4, .l (.d false (.int .i64)))]⟩], [], [], [], []⟩
theorem k_w_szIntSS (x : PMs.den e_w_szIntSS.ps) : funK c_w_szIntSS Try.f11 e_w_szIntSS.ps e_w_szIntSS.rs x = e_w_szIntSS.F x := by kernel_rfl
theorem o_w_szIntSS : FnOk Try.prog e_w_szIntSS.f ∧ Ctr Try.prog e_w_szIntSS := mkCtr (C := c_w_szIntSS) m_ (⟨o_w_szIntS, trivial⟩) Try.func11 (by kernel_rfl) k_w_szIntSS
/-! loop.example/g00959/laws.toIntS -/
noncomputable def w_toIntS_s3 (x0 : List Int) (v2 : List Int × Int) : Option ((List Int × Int) ⊕ (List Int)) :=
 cond (decide (v2.2 < (x0.length : Int)))
 ((idx x0 v2.2).bind fun v3 => (inIdx v2.1.length v2.2).bind fun _ => (inIdx v2.1.length ((v2.2).toNat : Int)).bind fun _ => some (.inl ((v2.1.set ((v2.2).toNat) v3), (IntKind.i64.wrap (v2.2 + (1 : Int))))))
 (some (.inr v2.1))
noncomputable def w_toIntS (x0 : List Int) : Option (List Int) :=
(mkD 8 (x0.length : Int) (0 : Int)).bind fun v1 => (iter (w_toIntS_s3 x0) (v1, (0 : Int))).bind fun v4 => some v4
noncomputable def e_w_toIntS : CallE := ⟨14, [.d false (.list (.int .i64))], [.l (.o true 3 (.int .i64))], fun x => w_toIntS x⟩
noncomputable def c_w_toIntS : Ctx := ⟨Try.prog, TT, [], [⟨3, [(3, .l (.o true 3 (.int .i64))), (4, .l (.d false (.int .i64)))], some (0, [(3, .l (.o true 3 (.int .i64)))]), none⟩], [], [], [], []⟩
theorem k_w_toIntS (x : PMs.den e_w_toIntS.ps) : funK c_w_toIntS Try.f14 e_w_toIntS.ps e_w_toIntS.rs x = e_w_toIntS.F x := by kernel_rfl
theorem o_w_toIntS : FnOk Try.prog e_w_toIntS.f ∧ Ctr Try.prog e_w_toIntS := mkCtr (C := c_w_toIntS) m_ (trivial) Try.func14 (by kernel_rfl) k_w_toIntS
/-! loop.example/g00959/laws.toIntSS -/
noncomputable def w_toIntSS_s3 (x0 : List (List Int)) (v2 : List (List Int) × Int) : Option ((List (List Int) × Int) ⊕ (List (List Int))) :=
 cond (decide (v2.2 < (x0.length : Int)))
 ((idx x0 v2.2).bind fun v3 => (w_toIntS v3).bind fun v4 => (inIdx v2.1.length v2.2).bind fun _ => (inIdx v2.1.length ((v2.2).toNat : Int)).bind fun _ => some (.inl ((v2.1.set ((v2.2).toNat) v4), (IntKind.i64.wrap (v2.2 + (1 : Int))))))
 (some (.inr v2.1))
noncomputable def w_toIntSS (x0 : List (List Int)) : Option (List (List Int)) :=
(mkD 24 (x0.length : Int) ([] : List Int)).bind fun v1 => (iter (w_toIntSS_s3 x0) (v1, (0 : Int))).bind fun v5 => some v5
noncomputable def e_w_toIntSS : CallE := ⟨13, [.d false (.list (.list (.int .i64)))], [.l (.o true 23 (.list (.int .i64)))], fun x => w_toIntSS x⟩
noncomputable def c_w_toIntSS : Ctx := ⟨Try.prog, TT, [e_w_toIntS], [⟨3, [(3, .l (.o true 23 (.list (.int .i64)))), (4, .l (.d false (.int .i64)))], some (0, [(3, .l (.o true 23 (.list (.int .i64))))]), none⟩], [], [], [], []⟩
theorem k_w_toIntSS (x : PMs.den e_w_toIntSS.ps) : funK c_w_toIntSS Try.f13 e_w_toIntSS.ps e_w_toIntSS.rs x = e_w_toIntSS.F x := by kernel_rfl
theorem o_w_toIntSS : FnOk Try.prog e_w_toIntSS.f ∧ Ctr Try.prog e_w_toIntSS := mkCtr (C := c_w_toIntSS) m_ (⟨o_w_toIntS, trivial⟩) Try.func13 (by kernel_rfl) k_w_toIntSS
/-! loop.example/g00959/spec.l1In -/
noncomputable def s_l1In (x0 : Int) (x1 : Int) (x2 : Int) : Option (Bool) :=
 cond (decide (x0 ≥ x1))
 (some (decide (x0 ≤ x2)))
 (some false)
noncomputable def e_s_l1In : CallE := ⟨90, [.d false (.int .i64), .d false (.int .i64), .d false (.int .i64)], [.l (.d false .bool)], fun x => s_l1In x.1 x.2.1 x.2.2⟩
noncomputable def c_s_l1In : Ctx := ⟨Try.prog, TT, [], [], [], [], [], []⟩
theorem k_s_l1In (x : PMs.den e_s_l1In.ps) : funK c_s_l1In Try.f90 e_s_l1In.ps e_s_l1In.rs x = e_s_l1In.F x := by kernel_rfl
theorem o_s_l1In : FnOk Try.prog e_s_l1In.f ∧ Ctr Try.prog e_s_l1In := mkCtr (C := c_s_l1In) m_ (trivial) Try.func90 (by kernel_rfl) k_s_l1In
/-! loop.example/g00959/spec.l2Small -/
noncomputable def s_l2Small_s2 (x0 : List Int) (x1 : Int) (v1 : Int) : Option ((Int) ⊕ ((Unit) ⊕ (Bool))) :=
 cond (decide (v1 < (x0.length : Int)))
 ((idx x0 v1).bind fun v2 => (s_l1In v2 (IntKind.i64.wrap (0 - x1)) x1).bind fun v3 => cond (!v3)
 (some (.inr (.inr false)))
 (some (.inl (IntKind.i64.wrap (v1 + (1 : Int))))))
 (some (.inr (.inl ())))
noncomputable def s_l2Small (x0 : List Int) (x1 : Int) : Option (Bool) :=
(iter (s_l2Small_s2 x0 x1) (0 : Int)).bind fun v4 => match v4 with
 | .inl v5 => (some true)
 | .inr v6 => (some v6)
noncomputable def e_s_l2Small : CallE := ⟨65, [.d false (.list (.int .i64)), .d false (.int .i64)], [.l (.d false .bool)], fun x => s_l2Small x.1 x.2⟩
noncomputable def c_s_l2Small : Ctx := ⟨Try.prog, TT, [e_s_l1In], [⟨2, [(5, .l (.d false (.int .i64)))], some (0, []), some [(4, .l (.d false .bool))]⟩], [], [], [], []⟩
theorem k_s_l2Small (x : PMs.den e_s_l2Small.ps) : funK c_s_l2Small Try.f65 e_s_l2Small.ps e_s_l2Small.rs x = e_s_l2Small.F x := by kernel_rfl
theorem o_s_l2Small : FnOk Try.prog e_s_l2Small.f ∧ Ctr Try.prog e_s_l2Small := mkCtr (C := c_s_l2Small) m_ (⟨o_s_l1In, trivial⟩) Try.func65 (by kernel_rfl) k_s_l2Small
/-! loop.example/g00959/spec.l7Flat -/
noncomputable def s_l7Flat_s2 (x0 : List (List Int)) (v1 : Int) : Option ((Int) ⊕ ((Unit) ⊕ (Bool))) :=
 cond (decide (v1 < (x0.length : Int)))
 ((idx x0 v1).bind fun v2 => cond ((v2.length : Int) != (2 : Int))
 (some (.inr (.inr false)))
 ((idx x0 v1).bind fun v3 => (s_l2Small v3 (50 : Int)).bind fun v4 => cond (!v4)
 (some (.inr (.inr false)))
 (some (.inl (IntKind.i64.wrap (v1 + (1 : Int)))))))
 (some (.inr (.inl ())))
noncomputable def s_l7Flat (x0 : List (List Int)) : Option (Bool) :=
(iter (s_l7Flat_s2 x0) (0 : Int)).bind fun v5 => match v5 with
 | .inl v6 => (some true)
 | .inr v7 => (some v7)
noncomputable def e_s_l7Flat : CallE := ⟨71, [.d false (.list (.list (.int .i64)))], [.l (.d false .bool)], fun x => s_l7Flat x⟩
noncomputable def c_s_l7Flat : Ctx := ⟨Try.prog, TT, [e_s_l2Small], [⟨2, [(3, .l (.d false (.int .i64)))], some (0, []), some [(2, .l (.d false .bool))]⟩], [], [], [], []⟩
theorem k_s_l7Flat (x : PMs.den e_s_l7Flat.ps) : funK c_s_l7Flat Try.f71 e_s_l7Flat.ps e_s_l7Flat.rs x = e_s_l7Flat.F x := by kernel_rfl
theorem o_s_l7Flat : FnOk Try.prog e_s_l7Flat.f ∧ Ctr Try.prog e_s_l7Flat := mkCtr (C := c_s_l7Flat) m_ (⟨o_s_l2Small, trivial⟩) Try.func71 (by kernel_rfl) k_s_l7Flat
/-! loop.example/g00959/spec.l2Before -/
noncomputable def s_l2Before_s2 (x0 : List Int) (x1 : List Int) (v1 : Int) : Option ((Int) ⊕ ((Unit) ⊕ (Bool))) :=
 cond (decide (v1 < (x0.length : Int)))
 (cond (decide (v1 < (x1.length : Int)))
 ((idx x0 v1).bind fun v2 => (idx x1 v1).bind fun v3 => cond (v2 != v3)
 ((idx x0 v1).bind fun v4 => (idx x1 v1).bind fun v5 => some (.inr (.inr (decide (v4 < v5)))))
 (some (.inl (IntKind.i64.wrap (v1 + (1 : Int))))))
 (some (.inr (.inl ()))))
 (some (.inr (.inl ())))
noncomputable def s_l2Before (x0 : List Int) (x1 : List Int) : Option (Bool) :=
(iter (s_l2Before_s2 x0 x1) (0 : Int)).bind fun v6 => match v6 with
 | .inl v7 => (some false)
 | .inr v8 => (some v8)
noncomputable def e_s_l2Before : CallE := ⟨134, [.d false (.list (.int .i64)), .d false (.list (.int .i64))], [.l (.d false .bool)], fun x => s_l2Before x.1 x.2⟩
noncomputable def c_s_l2Before : Ctx := ⟨Try.prog, TT, [], [⟨2, [(5, .l (.d false (.int .i64)))], some (0, []), some [(4, .l (.d false .bool))]⟩], [], [], [], []⟩
theorem k_s_l2Before (x : PMs.den e_s_l2Before.ps) : funK c_s_l2Before Try.f134 e_s_l2Before.ps e_s_l2Before.rs x = e_s_l2Before.F x := by kernel_rfl
theorem o_s_l2Before : FnOk Try.prog e_s_l2Before.f ∧ Ctr Try.prog e_s_l2Before := mkCtr (C := c_s_l2Before) m_ (trivial) Try.func134 (by kernel_rfl) k_s_l2Before
/-! loop.example/g00959/spec.l2Same -/
noncomputable def s_l2Same_s4 (x0 : List Int) (x1 : List Int) (v1 : Int) : Option ((Int) ⊕ ((Unit) ⊕ (Bool))) :=
 cond (decide (v1 < (x0.length : Int)))
 ((idx x0 v1).bind fun v2 => (idx x1 v1).bind fun v3 => cond (v2 != v3)
 (some (.inr (.inr false)))
 (some (.inl (IntKind.i64.wrap (v1 + (1 : Int))))))
 (some (.inr (.inl ())))
noncomputable def s_l2Same (x0 : List Int) (x1 : List Int) : Option (Bool) :=
 cond ((x0.length : Int) != (x1.length : Int))
 (some false)
 ((iter (s_l2Same_s4 x0 x1) (0 : Int)).bind fun v4 => match v4 with
 | .inl v5 => (some true)
 | .inr v6 => (some v6))
noncomputable def e_s_l2Same : CallE := ⟨114, [.d false (.list (.int .i64)), .d false (.list (.int .i64))], [.l (.d false .bool)], fun x => s_l2Same x.1 x.2⟩
noncomputable def c_s_l2Same : Ctx := ⟨Try.prog, TT, [], [⟨4, [(5, .l (.d false (.int .i64)))], some (0, []), some [(4, .l (.d false .bool))]⟩], [], [], [], []⟩
theorem k_s_l2Same (x : PMs.den e_s_l2Same.ps) : funK c_s_l2Same Try.f114 e_s_l2Same.ps e_s_l2Same.rs x = e_s_l2Same.F x := by kernel_rfl
theorem o_s_l2Same : FnOk Try.prog e_s_l2Same.f ∧ Ctr Try.prog e_s_l2Same := mkCtr (C := c_s_l2Same) m_ (trivial) Try.func114 (by kernel_rfl) k_s_l2Same
/-! loop.example/g00959/spec.l2Put -/
noncomputable def s_l2Put_s2 (x1 : List Int) (v1 : List (List Int) × Int) : Option ((List (List Int) × Int) ⊕ (List (List Int) × Int)) :=
 cond (decide (v1.2 > (0 : Int)))
 ((inIdx v1.1.length (IntKind.i64.wrap (v1.2 - (1 : Int)))).bind fun _ => (idx v1.1 (((IntKind.i64.wrap (v1.2 - (1 : Int)))).toNat : Int)).bind fun v2 => (s_l2Before x1 v2).bind fun v3 => cond v3
 (some (.inl (v1.1, (IntKind.i64.wrap (v1.2 - (1 : Int))))))
 (some (.inr (v1.1, v1.2))))
 (some (.inr (v1.1, v1.2)))
noncomputable def s_l2Put (x0 : List (List Int)) (x1 : List Int) : Option (List (List Int)) :=
(iter (s_l2Put_s2 x1) (x0, (x0.length : Int))).bind fun v4 => cond (decide (v4.2 > (0 : Int)))
 ((inIdx v4.1.length (IntKind.i64.wrap (v4.2 - (1 : Int)))).bind fun _ => (idx v4.1 (((IntKind.i64.wrap (v4.2 - (1 : Int)))).toNat : Int)).bind fun v5 => (s_l2Same v5 x1).bind fun v6 => cond v6
 (some v4.1)
 ((subl v4.1 v4.2 (v4.1.length : Int)).bind fun v7 => (subl v4.1 ((v4.2).toNat : Int) (((v4.1.length : Int)).toNat : Int)).bind fun v8 => (appD 24 ([] : List (List Int)) v8).bind fun v9 => (subl v4.1 0 v4.2).bind fun v10 => (appD 8 ([] : List Int) x1).bind fun v11 => (appD 24 v10 ([v11] : List (List Int))).bind fun v12 => (appD 24 v12 v9).bind fun v13 => some v13))
 ((subl v4.1 v4.2 (v4.1.length : Int)).bind fun v14 => (subl v4.1 ((v4.2).toNat : Int) (((v4.1.length : Int)).toNat : Int)).bind fun v15 => (appD 24 ([] : List (List Int)) v15).bind fun v16 => (subl v4.1 0 v4.2).bind fun v17 => (appD 8 ([] : List Int) x1).bind fun v18 => (appD 24 v17 ([v18] : List (List Int))).bind fun v19 => (appD 24 v19 v16).bind fun v20 => some v20)
noncomputable def e_s_l2Put : CallE := ⟨112, [.mv false 23 (.list (.int .i64)), .d false (.list (.int .i64))], [.l (.o false 23 (.list (.int .i64)))], fun x => s_l2Put x.1 x.2⟩
noncomputable def c_s_l2Put : Ctx := ⟨Try.prog, TT, [e_s_l2Before, e_s_l2Same], [⟨2, [(0, .l (.o false 23 (.list (.int .i64)))), (5, .l (.d false (.int .i64)))], some (0, [(0, .l (.o false 23 (.list (.int .i64)))), (5, .l (.d false (.int .i64)))]), none⟩], [], [], [35], [(7, [0, 1, 2, 4, 8, 3, 5, 6, 7, 9, 10])]⟩
theorem k_s_l2Put (x : PMs.den e_s_l2Put.ps) : funK c_s_l2Put Try.f112 e_s_l2Put.ps e_s_l2Put.rs x = e_s_l2Put.F x := by kernel_rfl
theorem o_s_l2Put : FnOk Try.prog e_s_l2Put.f ∧ Ctr Try.prog e_s_l2Put := mkCtr (C := c_s_l2Put) m_ (⟨o_s_l2Before, o_s_l2Same, trivial⟩) Try.func112 (by kernel_rfl) k_s_l2Put
/-! loop.example/g00959/spec.l2Less -/
noncomputable def s_l2Less_s3 (x0 : List Int) (x1 : List Int) (v1 : List Int × Int) : Option ((List Int × Int) ⊕ (List Int)) :=
 cond (decide (v1.2 < (x0.length : Int)))
 ((idx x0 v1.2).bind fun v2 => (idx x1 v1.2).bind fun v3 => (appD 8 v1.1 ([(IntKind.i64.wrap (v2 - v3))] : List Int)).bind fun v4 => some (.inl (v4, (IntKind.i64.wrap (v1.2 + (1 : Int))))))
 (some (.inr v1.1))
noncomputable def s_l2Less (x0 : List Int) (x1 : List Int) : Option (List Int) :=
(iter (s_l2Less_s3 x0 x1) (([] : List Int), (0 : Int))).bind fun v5 => some v5
noncomputable def e_s_l2Less : CallE := ⟨99, [.d false (.list (.int .i64)), .d false (.list (.int .i64))], [.l (.o true 3 (.int .i64))], fun x => s_l2Less x.1 x.2⟩
noncomputable def c_s_l2Less : Ctx := ⟨Try.prog, TT, [], [⟨3, [(5, .l (.o true 3 (.int .i64))), (6, .l (.d false (.int .i64)))], some (0, [(5, .l (.o true 3 (.int .i64)))]), none⟩], [], [], [], []⟩
theorem k_s_l2Less (x : PMs.den e_s_l2Less.ps) : funK c_s_l2Less Try.f99 e_s_l2Less.ps e_s_l2Less.rs x = e_s_l2Less.F x := by kernel_rfl
theorem o_s_l2Less : FnOk Try.prog e_s_l2Less.f ∧ Ctr Try.prog e_s_l2Less := mkCtr (C := c_s_l2Less) m_ (trivial) Try.func99 (by kernel_rfl) k_s_l2Less
/-! loop.example/g00959/spec.l7Cross -/
noncomputable def s_l7Cross (x0 : List Int) (x1 : List Int) : Option (Int) :=
(idx x0 (0 : Int)).bind fun v1 => (idx x1 (1 : Int)).bind fun v2 => (idx x0 (1 : Int)).bind fun v3 => (idx x1 (0 : Int)).bind fun v4 => some (IntKind.i64.wrap ((IntKind.i64.wrap (v1 * v2)) - (IntKind.i64.wrap (v3 * v4))))
noncomputable def e_s_l7Cross : CallE := ⟨101, [.d false (.list (.int .i64)), .d false (.list (.int .i64))], [.l (.d false (.int .i64))], fun x => s_l7Cross x.1 x.2⟩
noncomputable def c_s_l7Cross : Ctx := ⟨Try.prog, TT, [], [], [], [], [], []⟩
theorem k_s_l7Cross (x : PMs.den e_s_l7Cross.ps) : funK c_s_l7Cross Try.f101 e_s_l7Cross.ps e_s_l7Cross.rs x = e_s_l7Cross.F x := by kernel_rfl
theorem o_s_l7Cross : FnOk Try.prog e_s_l7Cross.f ∧ Ctr Try.prog e_s_l7Cross := mkCtr (C := c_s_l7Cross) m_ (trivial) Try.func101 (by kernel_rfl) k_s_l7Cross
/-! loop.example/g00959/spec.l7Turn -/
noncomputable def s_l7Turn (x0 : List Int) (x1 : List Int) (x2 : List Int) : Option (Int) :=
(s_l2Less x1 x0).bind fun v1 => (s_l2Less x2 x1).bind fun v2 => (s_l7Cross v1 v2).bind fun v3 => some v3
noncomputable def e_s_l7Turn : CallE := ⟨111, [.d false (.list (.int .i64)), .d false (.list (.int .i64)), .d false (.list (.int .i64))], [.l (.d false (.int .i64))], fun x => s_l7Turn x.1 x.2.1 x.2.2⟩
noncomputable def c_s_l7Turn : Ctx := ⟨Try.prog, TT, [e_s_l2Less, e_s_l7Cross], [], [], [], [], []⟩
theorem k_s_l7Turn (x : PMs.den e_s_l7Turn.ps) : funK c_s_l7Turn Try.f111 e_s_l7Turn.ps e_s_l7Turn.rs x = e_s_l7Turn.F x := by kernel_rfl
theorem o_s_l7Turn : FnOk Try.prog e_s_l7Turn.f ∧ Ctr Try.prog e_s_l7Turn := mkCtr (C := c_s_l7Turn) m_ (⟨o_s_l2Less, o_s_l7Cross, trivial⟩) Try.func111 (by kernel_rfl) k_s_l7Turn
/-! loop.example/g00959/spec.l7Hull -/
noncomputable def s_l7Hull_s12 (v1 : List (List Int) × Int) (v4 : List Int) (v5 : List (List Int)) : Option ((List (List Int)) ⊕ (List (List Int))) :=
 cond (decide ((v5.length : Int) ≥ (IntKind.i64.wrap ((v1.1.length : Int) + (2 : Int)))))
 ((inIdx v5.length (IntKind.i64.wrap ((v5.length : Int) - (2 : Int)))).bind fun _ => (idx v5 (((IntKind.i64.wrap ((v5.length : Int) - (2 : Int)))).toNat : Int)).bind fun v6 => (inIdx v5.length (IntKind.i64.wrap ((v5.length : Int) - (1 : Int)))).bind fun _ => (idx v5 (((IntKind.i64.wrap ((v5.length : Int) - (1 : Int)))).toNat : Int)).bind fun v7 => (s_l7Turn v6 v7 v4).bind fun v8 => cond (decide (v8 ≤ (0 : Int)))
 ((subl v5 0 (IntKind.i64.wrap ((v5.length : Int) - (1 : Int)))).bind fun v9 => some (.inl v9))
 (some (.inr v5)))
 (some (.inr v5))
noncomputable def s_l7Hull_s12b16 (v1 : List (List Int) × Int) (v3 : List Int) (v12 : List (List Int)) : Option ((List (List Int)) ⊕ (List (List Int))) :=
 cond (decide ((v12.length : Int) ≥ (IntKind.i64.wrap ((v1.1.length : Int) + (2 : Int)))))
 ((inIdx v12.length (IntKind.i64.wrap ((v12.length : Int) - (2 : Int)))).bind fun _ => (idx v12 (((IntKind.i64.wrap ((v12.length : Int) - (2 : Int)))).toNat : Int)).bind fun v13 => (inIdx v12.length (IntKind.i64.wrap ((v12.length : Int) - (1 : Int)))).bind fun _ => (idx v12 (((IntKind.i64.wrap ((v12.length : Int) - (1 : Int)))).toNat : Int)).bind fun v14 => (s_l7Turn v13 v14 v3).bind fun v15 => cond (decide (v15 ≤ (0 : Int)))
 ((subl v12 0 (IntKind.i64.wrap ((v12.length : Int) - (1 : Int)))).bind fun v16 => some (.inl v16))
 (some (.inr v12)))
 (some (.inr v12))
noncomputable def s_l7Hull_s7 (x0 : List (List Int)) (v1 : List (List Int) × Int) (v2 : List (List Int) × Int) : Option ((List (List Int) × Int) ⊕ (List (List Int))) :=
 cond (decide (v2.2 < (x0.length : Int)))
 ((idx x0 v2.2).bind fun v3 => cond (v1.2 == (1 : Int))
 ((idx x0 (IntKind.i64.wrap ((IntKind.i64.wrap ((x0.length : Int) - (1 : Int))) - v2.2))).bind fun v4 => (iter (s_l7Hull_s12 v1 v4) v2.1).bind fun v10 => (appD 24 v10 ([v4] : List (List Int))).bind fun v11 => some (.inl (v11, (IntKind.i64.wrap (v2.2 + (1 : Int))))))
 ((iter (s_l7Hull_s12b16 v1 v3) v2.1).bind fun v17 => (appD 24 v17 ([v3] : List (List Int))).bind fun v18 => some (.inl (v18, (IntKind.i64.wrap (v2.2 + (1 : Int)))))))
 (some (.inr v2.1))
noncomputable def s_l7Hull_s3 (x0 : List (List Int)) (v1 : List (List Int) × Int) : Option ((List (List Int) × Int) ⊕ (List (List Int))) :=
 cond (decide (v1.2 < (2 : Int)))
 ((iter (s_l7Hull_s7 x0 v1) (v1.1, (0 : Int))).bind fun v19 => (subl v19 0 (IntKind.i64.wrap ((v19.length : Int) - (1 : Int)))).bind fun v20 => some (.inl (v20, (IntKind.i64.wrap (v1.2 + (1 : Int))))))
 (some (.inr v1.1))
noncomputable def s_l7Hull (x0 : List (List Int)) : Option (List (List Int)) :=
(iter (s_l7Hull_s3 x0) (([] : List (List Int)), (0 : Int))).bind fun v21 => some v21
noncomputable def e_s_l7Hull : CallE := ⟨113, [.d false (.list (.list (.int .i64)))], [.l (.o false 23 (.list (.int .i64)))], fun x => s_l7Hull x⟩
noncomputable def c_s_l7Hull : Ctx := ⟨Try.prog, TT, [e_s_l7Turn], [⟨3, [(3, .l (.o false 23 (.list (.int .i64)))), (4, .l (.d false (.int .i64)))], some (0, [(3, .l (.o false 23 (.list (.int .i64))))]), none⟩, ⟨7, [(3, .l (.o false 23 (.list (.int .i64)))), (6, .l (.d false (.int .i64)))], some (2, [(3, .l (.o false 23 (.list (.int .i64))))]), none⟩, ⟨12, [(3, .l (.o false 23 (.list (.int .i64))))], some (4, [(3, .l (.o false 23 (.list (.int .i64))))]), none⟩], [], [], [], []⟩
theorem k_s_l7Hull (x : PMs.den e_s_l7Hull.ps) : funK c_s_l7Hull Try.f113 e_s_l7Hull.ps e_s_l7Hull.rs x = e_s_l7Hull.F x := by kernel_rfl
theorem o_s_l7Hull : FnOk Try.prog e_s_l7Hull.f ∧ Ctr Try.prog e_s_l7Hull := mkCtr (C := c_s_l7Hull) m_ (⟨o_s_l7Turn, trivial⟩) Try.func113 (by kernel_rfl) k_s_l7Hull
/-! loop.example/g00959/spec.l7Copy -/
noncomputable def s_l7Copy_s3 (x0 : List (List Int)) (v1 : List (List Int) × Int) : Option ((List (List Int) × Int) ⊕ (List (List Int))) :=
 cond (decide (v1.2 < (x0.length : Int)))
 ((idx x0 v1.2).bind fun v2 => (appD 8 ([] : List Int) v2).bind fun v3 => (appD 24 v1.1 ([v3] : List (List Int))).bind fun v4 => some (.inl (v4, (IntKind.i64.wrap (v1.2 + (1 : Int))))))
 (some (.inr v1.1))
noncomputable def s_l7Copy (x0 : List (List Int)) : Option (List (List Int)) :=
(iter (s_l7Copy_s3 x0) (([] : List (List Int)), (0 : Int))).bind fun v5 => some v5
noncomputable def e_s_l7Copy : CallE := ⟨129, [.d false (.list (.list (.int .i64)))], [.l (.o true 23 (.list (.int .i64)))], fun x => s_l7Copy x⟩
noncomputable def c_s_l7Copy : Ctx := ⟨Try.prog, TT, [], [⟨3, [(3, .l (.o true 23 (.list (.int .i64)))), (4, .l (.d false (.int .i64)))], some (0, [(3, .l (.o true 23 (.list (.int .i64))))]), none⟩], [], [], [], []⟩
theorem k_s_l7Copy (x : PMs.den e_s_l7Copy.ps) : funK c_s_l7Copy Try.f129 e_s_l7Copy.ps e_s_l7Copy.rs x = e_s_l7Copy.F x := by kernel_rfl
theorem o_s_l7Copy : FnOk Try.prog e_s_l7Copy.f ∧ Ctr Try.prog e_s_l7Copy := mkCtr (C := c_s_l7Copy) m_ (trivial) Try.func129 (by kernel_rfl) k_s_l7Copy
/-! loop.example/g00959/spec.HullOf -/
noncomputable def s_HullOf_s5 (x0 : List (List Int)) (v2 : List (List Int) × Int) : Option ((List (List Int) × Int) ⊕ (List (List Int))) :=
 cond (decide (v2.2 < (x0.length : Int)))
 ((idx x0 v2.2).bind fun v3 => (s_l2Put v2.1 v3).bind fun v4 => some (.inl (v4, (IntKind.i64.wrap (v2.2 + (1 : Int))))))
 (some (.inr v2.1))
noncomputable def s_HullOf (x0 : List (List Int)) : Option (List (List Int) × Bool) :=
 cond (decide ((x0.length : Int) > (200 : Int)))
 (some (([] : List (List Int)), false))
 ((s_l7Flat x0).bind fun v1 => cond (!v1)
 (some (([] : List (List Int)), false))
 ((iter (s_HullOf_s5 x0) (([] : List (List Int)), (0 : Int))).bind fun v5 => cond (decide ((v5.length : Int) < (3 : Int)))
 (some (([] : List (List Int)), false))
 ((s_l7Hull v5).bind fun v6 => cond (decide ((v6.length : Int) < (3 : Int)))
 (some (([] : List (List Int)), false))
 (cond (decide ((v6.length : Int) > (12 : Int)))
 (some (([] : List (List Int)), false))
 ((s_l7Copy v6).bind fun v7 => some (v7, true))))))
noncomputable def e_s_HullOf : CallE := ⟨91, [.d false (.list (.list (.int .i64)))], [.l (.o true 23 (.list (.int .i64))), .l (.d false .bool)], fun x => s_HullOf x⟩
noncomputable def c_s_HullOf : Ctx := ⟨Try.prog, TT, [e_s_l7Flat, e_s_l2Put, e_s_l7Hull, e_s_l7Copy], [⟨5, [(4, .l (.o false 23 (.list (.int .i64)))), (5, .l (.d false (.int .i64)))], some (0, [(4, .l (.o false 23 (.list (.int .i64))))]), none⟩], [], [], [], []⟩
theorem k_s_HullOf (x : PMs.den e_s_HullOf.ps) : funK c_s_HullOf Try.f91 e_s_HullOf.ps e_s_HullOf.rs x = e_s_HullOf.F x := by kernel_rfl
theorem o_s_HullOf : FnOk Try.prog e_s_HullOf.f ∧ Ctr Try.prog e_s_HullOf := mkCtr (C := c_s_HullOf) m_ (⟨o_s_l7Flat, o_s_l2Put, o_s_l7Hull, o_s_l7Copy, trivial⟩) Try.func91 (by kernel_rfl) k_s_HullOf
/-! loop.example/g00959/spec.l7SameList -/
noncomputable def s_l7SameList_s4 (x0 : List (List Int)) (x1 : List (List Int)) (v1 : Int) : Option ((Int) ⊕ ((Unit) ⊕ (Bool))) :=
 cond (decide (v1 < (x0.length : Int)))
 ((idx x0 v1).bind fun v2 => (idx x1 v1).bind fun v3 => (s_l2Same v2 v3).bind fun v4 => cond (!v4)
 (some (.inr (.inr false)))
 (some (.inl (IntKind.i64.wrap (v1 + (1 : Int))))))
 (some (.inr (.inl ())))
noncomputable def s_l7SameList (x0 : List (List Int)) (x1 : List (List Int)) : Option (Bool) :=
 cond ((x0.length : Int) != (x1.length : Int))
 (some false)
 ((iter (s_l7SameList_s4 x0 x1) (0 : Int)).bind fun v5 => match v5 with
 | .inl v6 => (some true)
 | .inr v7 => (some v7))
noncomputable def e_s_l7SameList : CallE := ⟨92, [.d false (.list (.list (.int .i64))), .d false (.list (.list (.int .i64)))], [.l (.d false .bool)], fun x => s_l7SameList x.1 x.2⟩
noncomputable def c_s_l7SameList : Ctx := ⟨Try.prog, TT, [e_s_l2Same], [⟨4, [(5, .l (.d false (.int .i64)))], some (0, []), some [(4, .l (.d false .bool))]⟩], [], [], [], []⟩
theorem k_s_l7SameList (x : PMs.den e_s_l7SameList.ps) : funK c_s_l7SameList Try.f92 e_s_l7SameList.ps e_s_l7SameList.rs x = e_s_l7SameList.F x := by kernel_rfl
theorem o_s_l7SameList : FnOk Try.prog e_s_l7SameList.f ∧ Ctr Try.prog e_s_l7SameList := mkCtr (C := c_s_l7SameList) m_ (⟨o_s_l2Same, trivial⟩) Try.func92 (by kernel_rfl) k_s_l7SameList
/-! loop.example/g00959/spec.IsPolygon -/
noncomputable def s_IsPolygon (x0 : List (List Int)) : Option (Bool) :=
(s_l1In (x0.length : Int) (3 : Int) (12 : Int)).bind fun v1 => cond (!v1)
 (some false)
 ((s_l7Flat x0).bind fun v2 => cond (!v2)
 (some false)
 ((s_HullOf x0).bind fun v3 => cond v3.2
 ((s_l7SameList v3.1 x0).bind fun v4 => some v4)
 (some false)))
noncomputable def e_s_IsPolygon : CallE := ⟨49, [.d false (.list (.list (.int .i64)))], [.l (.d false .bool)], fun x => s_IsPolygon x⟩
noncomputable def c_s_IsPolygon : Ctx := ⟨Try.prog, TT, [e_s_l1In, e_s_l7Flat, e_s_HullOf, e_s_l7SameList], [], [], [], [], []⟩
theorem k_s_IsPolygon (x : PMs.den e_s_IsPolygon.ps) : funK c_s_IsPolygon Try.f49 e_s_IsPolygon.ps e_s_IsPolygon.rs x = e_s_IsPolygon.F x := by kernel_rfl
theorem o_s_IsPolygon : FnOk Try.prog e_s_IsPolygon.f ∧ Ctr Try.prog e_s_IsPolygon := mkCtr (C := c_s_IsPolygon) m_ (⟨o_s_l1In, o_s_l7Flat, o_s_HullOf, o_s_l7SameList, trivial⟩) Try.func49 (by kernel_rfl) k_s_IsPolygon
/-! loop.example/g00959/spec.IsVector -/
noncomputable def s_IsVector (x0 : List Int) : Option (Bool) :=
(s_l1In (x0.length : Int) (1 : Int) (3 : Int)).bind fun v1 => cond v1
 ((s_l2Small x0 (1000 : Int)).bind fun v2 => some v2)
 (some false)
noncomputable def e_s_IsVector : CallE := ⟨50, [.d false (.list (.int .i64))], [.l (.d false .bool)], fun x => s_IsVector x⟩
noncomputable def c_s_IsVector : Ctx := ⟨Try.prog, TT, [e_s_l1In, e_s_l2Small], [], [], [], [], []⟩
theorem k_s_IsVector (x : PMs.den e_s_IsVector.ps) : funK c_s_IsVector Try.f50 e_s_IsVector.ps e_s_IsVector.rs x = e_s_IsVector.F x := by kernel_rfl
theorem o_s_IsVector : FnOk Try.prog e_s_IsVector.f ∧ Ctr Try.prog e_s_IsVector := mkCtr (C := c_s_IsVector) m_ (⟨o_s_l1In, o_s_l2Small, trivial⟩) Try.func50 (by kernel_rfl) k_s_IsVector
/-! loop.example/g00959/spec.l2Dot -/
noncomputable def s_l2Dot_s3 (x0 : List Int) (x1 : List Int) (v1 : Int × Int) : Option ((Int × Int) ⊕ (Int)) :=
 cond (decide (v1.2 < (x0.length : Int)))
 (cond (decide (v1.2 < (x1.length : Int)))
 ((idx x0 v1.2).bind fun v2 => (idx x1 v1.2).bind fun v3 => some (.inl ((IntKind.i64.wrap (v1.1 + (IntKind.i64.wrap (v2 * v3)))), (IntKind.i64.wrap (v1.2 + (1 : Int))))))
 (some (.inr v1.1)))
 (some (.inr v1.1))
noncomputable def s_l2Dot (x0 : List Int) (x1 : List Int) : Option (Int) :=
(iter (s_l2Dot_s3 x0 x1) ((0 : Int), (0 : Int))).bind fun v4 => some v4
noncomputable def e_s_l2Dot : CallE := ⟨51, [.d false (.list (.int .i64)), .d false (.list (.int .i64))], [.l (.d false (.int .i64))], fun x => s_l2Dot x.1 x.2⟩
noncomputable def c_s_l2Dot : Ctx := ⟨Try.prog, TT, [], [⟨3, [(5, .l (.d false (.int .i64))), (6, .l (.d false (.int .i64)))], some (0, [(5, .l (.d false (.int .i64)))]), none⟩], [], [], [], []⟩
theorem k_s_l2Dot (x : PMs.den e_s_l2Dot.ps) : funK c_s_l2Dot Try.f51 e_s_l2Dot.ps e_s_l2Dot.rs x = e_s_l2Dot.F x := by kernel_rfl
theorem o_s_l2Dot : FnOk Try.prog e_s_l2Dot.f ∧ Ctr Try.prog e_s_l2Dot := mkCtr (C := c_s_l2Dot) m_ (trivial) Try.func51 (by kernel_rfl) k_s_l2Dot
/-! loop.example/g00959/spec.l1Max -/
noncomputable def s_l1Max (x0 : Int) (x1 : Int) : Option (Int) :=
 cond (decide (x0 > x1))
 (some x0)
 (some x1)
noncomputable def e_s_l1Max : CallE := ⟨52, [.d false (.int .i64), .d false (.int .i64)], [.l (.d false (.int .i64))], fun x => s_l1Max x.1 x.2⟩
noncomputable def c_s_l1Max : Ctx := ⟨Try.prog, TT, [], [], [], [], [], []⟩
theorem k_s_l1Max (x : PMs.den e_s_l1Max.ps) : funK c_s_l1Max Try.f52 e_s_l1Max.ps e_s_l1Max.rs x = e_s_l1Max.F x := by kernel_rfl
theorem o_s_l1Max : FnOk Try.prog e_s_l1Max.f ∧ Ctr Try.prog e_s_l1Max := mkCtr (C := c_s_l1Max) m_ (trivial) Try.func52 (by kernel_rfl) k_s_l1Max
/-! loop.example/g00959/spec.SupportAt -/
noncomputable def s_SupportAt_s5 (x0 : List (List Int)) (x1 : List Int) (v5 : Int × Int) : Option ((Int × Int) ⊕ (Int)) :=
 cond (decide (v5.2 < (x0.length : Int)))
 ((idx x0 v5.2).bind fun v6 => (s_l2Dot x1 v6).bind fun v7 => (s_l1Max v5.1 v7).bind fun v8 => some (.inl (v8, (IntKind.i64.wrap (v5.2 + (1 : Int))))))
 (some (.inr v5.1))
noncomputable def s_SupportAt (x0 : List (List Int)) (x1 : List Int) : Option (Int × Bool) :=
(s_IsPolygon x0).bind fun v1 => cond (!v1)
 (some ((0 : Int), false))
 ((s_IsVector x1).bind fun v2 => cond (!v2)
 (some ((0 : Int), false))
 (cond ((x1.length : Int) != (2 : Int))
 (some ((0 : Int), false))
 ((idx x0 (0 : Int)).bind fun v3 => (s_l2Dot x1 v3).bind fun v4 => (iter (s_SupportAt_s5 x0 x1) (v4, (1 : Int))).bind fun v9 => some (v9, true))))
noncomputable def e_s_SupportAt : CallE := ⟨12, [.d false (.list (.list (.int .i64))), .d false (.list (.int .i64))], [.l (.d false (.int .i64)), .l (.d false .bool)], fun x => s_SupportAt x.1 x.2⟩
noncomputable def c_s_SupportAt : Ctx := ⟨Try.prog, TT, [e_s_IsPolygon, e_s_IsVector, e_s_l2Dot, e_s_l1Max], [⟨5, [(6, .l (.d false (.int .i64))), (7, .l (.d false (.int .i64)))], some (0, [(6, .l (.d false (.int .i64)))]), none⟩], [], [], [], []⟩
theorem k_s_SupportAt (x : PMs.den e_s_SupportAt.ps) : funK c_s_SupportAt Try.f12 e_s_SupportAt.ps e_s_SupportAt.rs x = e_s_SupportAt.F x := by kernel_rfl
theorem o_s_SupportAt : FnOk Try.prog e_s_SupportAt.f ∧ Ctr Try.prog e_s_SupportAt := mkCtr (C := c_s_SupportAt) m_ (⟨o_s_IsPolygon, o_s_IsVector, o_s_l2Dot, o_s_l1Max, trivial⟩) Try.func12 (by kernel_rfl) k_s_SupportAt
/-! loop.example/g00959/impl.within -/
noncomputable def i_within (x0 : Int) (x1 : Int) (x2 : Int) : Option (Bool) :=
 cond (decide (x0 ≥ x1))
 (some (decide (x0 ≤ x2)))
 (some false)
noncomputable def e_i_within : CallE := ⟨93, [.d false (.int .i64), .d false (.int .i64), .d false (.int .i64)], [.l (.d false .bool)], fun x => i_within x.1 x.2.1 x.2.2⟩
noncomputable def c_i_within : Ctx := ⟨Try.prog, TT, [], [], [], [], [], []⟩
theorem k_i_within (x : PMs.den e_i_within.ps) : funK c_i_within Try.f93 e_i_within.ps e_i_within.rs x = e_i_within.F x := by kernel_rfl
theorem o_i_within : FnOk Try.prog e_i_within.f ∧ Ctr Try.prog e_i_within := mkCtr (C := c_i_within) m_ (trivial) Try.func93 (by kernel_rfl) k_i_within
/-! loop.example/g00959/impl.allWithin -/
noncomputable def i_allWithin_s2 (x0 : List Int) (x1 : Int) (x2 : Int) (v1 : Int) : Option ((Int) ⊕ ((Unit) ⊕ (Bool))) :=
 cond (decide (v1 < (x0.length : Int)))
 ((idx x0 v1).bind fun v2 => (i_within v2 x1 x2).bind fun v3 => cond (!v3)
 (some (.inr (.inr false)))
 (some (.inl (IntKind.i64.wrap (v1 + (1 : Int))))))
 (some (.inr (.inl ())))
noncomputable def i_allWithin (x0 : List Int) (x1 : Int) (x2 : Int) : Option (Bool) :=
(iter (i_allWithin_s2 x0 x1 x2) (0 : Int)).bind fun v4 => match v4 with
 | .inl v5 => (some true)
 | .inr v6 => (some v6)
noncomputable def e_i_allWithin : CallE := ⟨95, [.d false (.list (.int .i64)), .d false (.int .i64), .d false (.int .i64)], [.l (.d false .bool)], fun x => i_allWithin x.1 x.2.1 x.2.2⟩
noncomputable def c_i_allWithin : Ctx := ⟨Try.prog, TT, [e_i_within], [⟨2, [(11, .l (.d false (.int .i64)))], some (0, []), some [(6, .l (.d false .bool))]⟩], [], [], [], []⟩
theorem k_i_allWithin (x : PMs.den e_i_allWithin.ps) : funK c_i_allWithin Try.f95 e_i_allWithin.ps e_i_allWithin.rs x = e_i_allWithin.F x := by kernel_rfl
theorem o_i_allWithin : FnOk Try.prog e_i_allWithin.f ∧ Ctr Try.prog e_i_allWithin := mkCtr (C := c_i_allWithin) m_ (⟨o_i_within, trivial⟩) Try.func95 (by kernel_rfl) k_i_allWithin
/-! loop.example/g00959/impl.isPoint -/
noncomputable def i_isPoint (x0 : List Int) (x1 : Int) : Option (Bool) :=
 cond ((x0.length : Int) == (2 : Int))
 ((i_allWithin x0 (IntKind.i64.wrap (0 - x1)) x1).bind fun v1 => some v1)
 (some false)
noncomputable def e_i_isPoint : CallE := ⟨69, [.d false (.list (.int .i64)), .d false (.int .i64)], [.l (.d false .bool)], fun x => i_isPoint x.1 x.2⟩
noncomputable def c_i_isPoint : Ctx := ⟨Try.prog, TT, [e_i_allWithin], [], [], [], [], []⟩
theorem k_i_isPoint (x : PMs.den e_i_isPoint.ps) : funK c_i_isPoint Try.f69 e_i_isPoint.ps e_i_isPoint.rs x = e_i_isPoint.F x := by kernel_rfl
theorem o_i_isPoint : FnOk Try.prog e_i_isPoint.f ∧ Ctr Try.prog e_i_isPoint := mkCtr (C := c_i_isPoint) m_ (⟨o_i_allWithin, trivial⟩) Try.func69 (by kernel_rfl) k_i_isPoint
/-! loop.example/g00959/impl.minus -/
noncomputable def i_minus (x0 : List Int) (x1 : List Int) : Option (List Int) :=
(idx x0 (0 : Int)).bind fun v1 => (idx x1 (0 : Int)).bind fun v2 => (idx x0 (1 : Int)).bind fun v3 => (idx x1 (1 : Int)).bind fun v4 => some ([(IntKind.i64.wrap (v1 - v2)), (IntKind.i64.wrap (v3 - v4))] : List Int)
noncomputable def e_i_minus : CallE := ⟨103, [.d false (.list (.int .i64)), .d false (.list (.int .i64))], [.l (.o true 3 (.int .i64))], fun x => i_minus x.1 x.2⟩
noncomputable def c_i_minus : Ctx := ⟨Try.prog, TT, [], [], [], [], [], []⟩
theorem k_i_minus (x : PMs.den e_i_minus.ps) : funK c_i_minus Try.f103 e_i_minus.ps e_i_minus.rs x = e_i_minus.F x := by kernel_rfl
theorem o_i_minus : FnOk Try.prog e_i_minus.f ∧ Ctr Try.prog e_i_minus := mkCtr (C := c_i_minus) m_ (trivial) Try.func103 (by kernel_rfl) k_i_minus
/-! loop.example/g00959/impl.cross -/
noncomputable def i_cross (x0 : List Int) (x1 : List Int) : Option (Int) :=
(idx x0 (0 : Int)).bind fun v1 => (idx x1 (1 : Int)).bind fun v2 => (idx x0 (1 : Int)).bind fun v3 => (idx x1 (0 : Int)).bind fun v4 => some (IntKind.i64.wrap ((IntKind.i64.wrap (v1 * v2)) - (IntKind.i64.wrap (v3 * v4))))
noncomputable def e_i_cross : CallE := ⟨105, [.d false (.list (.int .i64)), .d false (.list (.int .i64))], [.l (.d false (.int .i64))], fun x => i_cross x.1 x.2⟩
noncomputable def c_i_cross : Ctx := ⟨Try.prog, TT, [], [], [], [], [], []⟩
theorem k_i_cross (x : PMs.den e_i_cross.ps) : funK c_i_cross Try.f105 e_i_cross.ps e_i_cross.rs x = e_i_cross.F x := by kernel_rfl
theorem o_i_cross : FnOk Try.prog e_i_cross.f ∧ Ctr Try.prog e_i_cross := mkCtr (C := c_i_cross) m_ (trivial) Try.func105 (by kernel_rfl) k_i_cross
/-! loop.example/g00959/impl.turn -/
noncomputable def i_turn (x0 : List Int) (x1 : List Int) (x2 : List Int) : Option (Int) :=
(i_minus x1 x0).bind fun v1 => (i_minus x2 x0).bind fun v2 => (i_cross v1 v2).bind fun v3 => some v3
noncomputable def e_i_turn : CallE := ⟨74, [.d false (.list (.int .i64)), .d false (.list (.int .i64)), .d false (.list (.int .i64))], [.l (.d false (.int .i64))], fun x => i_turn x.1 x.2.1 x.2.2⟩
noncomputable def c_i_turn : Ctx := ⟨Try.prog, TT, [e_i_minus, e_i_cross], [], [], [], [], []⟩
theorem k_i_turn (x : PMs.den e_i_turn.ps) : funK c_i_turn Try.f74 e_i_turn.ps e_i_turn.rs x = e_i_turn.F x := by kernel_rfl
theorem o_i_turn : FnOk Try.prog e_i_turn.f ∧ Ctr Try.prog e_i_turn := mkCtr (C := c_i_turn) m_ (⟨o_i_minus, o_i_cross, trivial⟩) Try.func74 (by kernel_rfl) k_i_turn
/-! cmp.isNaN[int] -/
noncomputable def g_cmp_isNaN (x0 : Int) : Option (Bool) :=
 some (x0 != x0)
noncomputable def e_g_cmp_isNaN : CallE := ⟨140, [.d false (.int .i64)], [.l (.d false .bool)], fun x => g_cmp_isNaN x⟩
noncomputable def c_g_cmp_isNaN : Ctx := ⟨Try.prog, TT, [], [], [], [], [], []⟩
theorem k_g_cmp_isNaN (x : PMs.den e_g_cmp_isNaN.ps) : funK c_g_cmp_isNaN Try.f140 e_g_cmp_isNaN.ps e_g_cmp_isNaN.rs x = e_g_cmp_isNaN.F x := by kernel_rfl
theorem o_g_cmp_isNaN : FnOk Try.prog e_g_cmp_isNaN.f ∧ Ctr Try.prog e_g_cmp_isNaN := mkCtr (C := c_g_cmp_isNaN) m_ (trivial) Try.func140 (by kernel_rfl) k_g_cmp_isNaN
/-! cmp.Compare[int] -/
noncomputable def g_cmp_Compare (x0 : Int) (x1 : Int) : Option (Int) :=
(g_cmp_isNaN x0).bind fun v1 => (g_cmp_isNaN x1).bind fun v2 => cond v1
 (cond v2
 (some (0 : Int))
 (some (-1 : Int)))
 (cond v2
 (some (1 : Int))
 (cond (decide (x0 < x1))
 (some (-1 : Int))
 (cond (decide (x0 > x1))
 (some (1 : Int))
 (some (0 : Int)))))
noncomputable def e_g_cmp_Compare : CallE := ⟨130, [.d false (.int .i64), .d false (.int .i64)], [.l (.d false (.int .i64))], fun x => g_cmp_Compare x.1 x.2⟩
noncomputable def c_g_cmp_Compare : Ctx := ⟨Try.prog, TT, [e_g_cmp_isNaN], [], [], [], [], []⟩
theorem k_g_cmp_Compare (x : PMs.den e_g_cmp_Compare.ps) : funK c_g_cmp_Compare Try.f130 e_g_cmp_Compare.ps e_g_cmp_Compare.rs x = e_g_cmp_Compare.F x := by kernel_rfl
theorem o_g_cmp_Compare : FnOk Try.prog e_g_cmp_Compare.f ∧ Ctr Try.prog e_g_cmp_Compare := mkCtr (C := c_g_cmp_Compare) m_ (⟨o_g_cmp_isNaN, trivial⟩) Try.func130 (by kernel_rfl) k_g_cmp_Compare
/-! slices.Compare[[]int,int] -/
noncomputable def g_slices_Compare_s2 (x0 : List Int) (x1 : List Int) (v1 : Int) : Option ((Int) ⊕ ((Unit) ⊕ (Int))) :=
 cond (decide (v1 < (x0.length : Int)))
 ((idx x0 v1).bind fun v2 => cond (decide (v1 ≥ (x1.length : Int)))
 (some (.inr (.inr (1 : Int))))
 ((idx x1 v1).bind fun v3 => (g_cmp_Compare v2 v3).bind fun v4 => cond (v4 != (0 : Int))
 (some (.inr (.inr v4)))
 (some (.inl (IntKind.i64.wrap (v1 + (1 : Int)))))))
 (some (.inr (.inl ())))
noncomputable def g_slices_Compare (x0 : List Int) (x1 : List Int) : Option (Int) :=
(iter (g_slices_Compare_s2 x0 x1) (0 : Int)).bind fun v5 => match v5 with
 | .inl v6 => (cond (decide ((x0.length : Int) < (x1.length : Int)))
 (some (-1 : Int))
 (some (0 : Int)))
 | .inr v7 => (some v7)
noncomputable def e_g_slices_Compare : CallE := ⟨94, [.d false (.list (.int .i64)), .d false (.list (.int .i64))], [.l (.d false (.int .i64))], fun x => g_slices_Compare x.1 x.2⟩
noncomputable def c_g_slices_Compare : Ctx := ⟨Try.prog, TT, [e_g_cmp_Compare], [⟨2, [(11, .l (.d false (.int .i64)))], some (0, []), some [(4, .l (.d false (.int .i64)))]⟩], [], [], [], []⟩
theorem k_g_slices_Compare (x : PMs.den e_g_slices_Compare.ps) : funK c_g_slices_Compare Try.f94 e_g_slices_Compare.ps e_g_slices_Compare.rs x = e_g_slices_Compare.F x := by kernel_rfl
theorem o_g_slices_Compare : FnOk Try.prog e_g_slices_Compare.f ∧ Ctr Try.prog e_g_slices_Compare := mkCtr (C := c_g_slices_Compare) m_ (⟨o_g_cmp_Compare, trivial⟩) Try.func94 (by kernel_rfl) k_g_slices_Compare
/-! loop.example/g00959/impl.IsPolygon -/
noncomputable def i_IsPolygon_s4 (x0 : List (List Int)) (v2 : Int) : Option ((Int) ⊕ ((Unit) ⊕ (Bool))) :=
 cond (decide (v2 < (x0.length : Int)))
 ((idx x0 v2).bind fun v3 => (i_isPoint v3 (50 : Int)).bind fun v4 => cond (!v4)
 (some (.inr (.inr false)))
 (some (.inl (IntKind.i64.wrap (v2 + (1 : Int))))))
 (some (.inr (.inl ())))
noncomputable def i_IsPolygon_s11 (x0 : List (List Int)) (v8 : Int) : Option ((Int) ⊕ ((Unit) ⊕ (Bool))) :=
 cond (decide (v8 < (x0.length : Int)))
 ((idx x0 v8).bind fun v9 => (remI .i64 (IntKind.i64.wrap (v8 + (1 : Int))) (x0.length : Int)).bind fun v10 => (idx x0 v10).bind fun v11 => (remI .i64 (IntKind.i64.wrap (v8 + (2 : Int))) (x0.length : Int)).bind fun v12 => (idx x0 v12).bind fun v13 => (i_turn v9 v11 v13).bind fun v14 => cond (decide (v14 ≤ (0 : Int)))
 (some (.inr (.inr false)))
 (cond (decide (v8 > (0 : Int)))
 ((idx x0 (0 : Int)).bind fun v15 => (g_slices_Compare v15 v9).bind fun v16 => cond (decide (v16 ≥ (0 : Int)))
 (some (.inr (.inr false)))
 (cond (decide (v8 > (0 : Int)))
 (cond (decide (v8 < (IntKind.i64.wrap ((x0.length : Int) - (1 : Int)))))
 ((idx x0 (0 : Int)).bind fun v17 => (idx x0 (IntKind.i64.wrap (v8 + (1 : Int)))).bind fun v18 => (i_turn v17 v9 v18).bind fun v19 => cond (decide (v19 ≤ (0 : Int)))
 (some (.inr (.inr false)))
 (some (.inl (IntKind.i64.wrap (v8 + (1 : Int))))))
 (some (.inl (IntKind.i64.wrap (v8 + (1 : Int))))))
 (some (.inl (IntKind.i64.wrap (v8 + (1 : Int)))))))
 (cond (decide (v8 > (0 : Int)))
 (cond (decide (v8 < (IntKind.i64.wrap ((x0.length : Int) - (1 : Int)))))
 ((idx x0 (0 : Int)).bind fun v20 => (idx x0 (IntKind.i64.wrap (v8 + (1 : Int)))).bind fun v21 => (i_turn v20 v9 v21).bind fun v22 => cond (decide (v22 ≤ (0 : Int)))
 (some (.inr (.inr false)))
 (some (.inl (IntKind.i64.wrap (v8 + (1 : Int))))))
 (some (.inl (IntKind.i64.wrap (v8 + (1 : Int))))))
 (some (.inl (IntKind.i64.wrap (v8 + (1 : Int))))))))
 (some (.inr (.inl ())))
noncomputable def i_IsPolygon (x0 : List (List Int)) : Option (Bool) :=
(i_within (x0.length : Int) (3 : Int) (12 : Int)).bind fun v1 => cond (!v1)
 (some false)
 ((iter (i_IsPolygon_s4 x0) (0 : Int)).bind fun v5 => match v5 with
 | .inl v6 => ((iter (i_IsPolygon_s11 x0) (0 : Int)).bind fun v23 => match v23 with
 | .inl v24 => (some true)
 | .inr v25 => (some v25))
 | .inr v7 => (some v7))
noncomputable def e_i_IsPolygon : CallE := ⟨53, [.d false (.list (.list (.int .i64)))], [.l (.d false .bool)], fun x => i_IsPolygon x⟩
noncomputable def c_i_IsPolygon : Ctx := ⟨Try.prog, TT, [e_i_within, e_i_isPoint, e_i_turn, e_g_slices_Compare], [⟨4, [(14, .l (.d false (.int .i64)))], some (0, []), some [(2, .l (.d false .bool))]⟩, ⟨11, [(26, .l (.d false (.int .i64)))], some (2, []), some [(2, .l (.d false .bool))]⟩], [], [], [], []⟩
theorem k_i_IsPolygon (x : PMs.den e_i_IsPolygon.ps) : funK c_i_IsPolygon Try.f53 e_i_IsPolygon.ps e_i_IsPolygon.rs x = e_i_IsPolygon.F x := by kernel_rfl
theorem o_i_IsPolygon : FnOk Try.prog e_i_IsPolygon.f ∧ Ctr Try.prog e_i_IsPolygon := mkCtr (C := c_i_IsPolygon) m_ (⟨o_i_within, o_i_isPoint, o_i_turn, o_g_slices_Compare, trivial⟩) Try.func53 (by kernel_rfl) k_i_IsPolygon
/-! loop.example/g00959/impl.IsVector -/
noncomputable def i_IsVector (x0 : List Int) : Option (Bool) :=
(i_within (x0.length : Int) (1 : Int) (3 : Int)).bind fun v1 => cond v1
 ((i_allWithin x0 (-1000 : Int) (1000 : Int)).bind fun v2 => some v2)
 (some false)
noncomputable def e_i_IsVector : CallE := ⟨54, [.d false (.list (.int .i64))], [.l (.d false .bool)], fun x => i_IsVector x⟩
noncomputable def c_i_IsVector : Ctx := ⟨Try.prog, TT, [e_i_within, e_i_allWithin], [], [], [], [], []⟩
theorem k_i_IsVector (x : PMs.den e_i_IsVector.ps) : funK c_i_IsVector Try.f54 e_i_IsVector.ps e_i_IsVector.rs x = e_i_IsVector.F x := by kernel_rfl
theorem o_i_IsVector : FnOk Try.prog e_i_IsVector.f ∧ Ctr Try.prog e_i_IsVector := mkCtr (C := c_i_IsVector) m_ (⟨o_i_within, o_i_allWithin, trivial⟩) Try.func54 (by kernel_rfl) k_i_IsVector
/-! loop.example/g00959/impl.dot -/
noncomputable def i_dot_s3 (x0 : List Int) (x1 : List Int) (v1 : Int × Int) : Option ((Int × Int) ⊕ (Int)) :=
 cond (decide (v1.2 < (x0.length : Int)))
 ((idx x0 v1.2).bind fun v2 => (idx x1 v1.2).bind fun v3 => some (.inl ((IntKind.i64.wrap (v1.1 + (IntKind.i64.wrap (v2 * v3)))), (IntKind.i64.wrap (v1.2 + (1 : Int))))))
 (some (.inr v1.1))
noncomputable def i_dot (x0 : List Int) (x1 : List Int) : Option (Int) :=
(iter (i_dot_s3 x0 x1) ((0 : Int), (0 : Int))).bind fun v4 => some v4
noncomputable def e_i_dot : CallE := ⟨70, [.d false (.list (.int .i64)), .d false (.list (.int .i64))], [.l (.d false (.int .i64))], fun x => i_dot x.1 x.2⟩
noncomputable def c_i_dot : Ctx := ⟨Try.prog, TT, [], [⟨3, [(5, .l (.d false (.int .i64))), (9, .l (.d false (.int .i64)))], some (0, [(5, .l (.d false (.int .i64)))]), none⟩], [], [], [], []⟩
theorem k_i_dot (x : PMs.den e_i_dot.ps) : funK c_i_dot Try.f70 e_i_dot.ps e_i_dot.rs x = e_i_dot.F x := by kernel_rfl
theorem o_i_dot : FnOk Try.prog e_i_dot.f ∧ Ctr Try.prog e_i_dot := mkCtr (C := c_i_dot) m_ (trivial) Try.func70 (by kernel_rfl) k_i_dot
/-! loop.example/g00959/impl.support -/
noncomputable def i_support_s3 (x0 : List (List Int)) (x1 : List Int) (v3 : Int × Int) : Option ((Int × Int) ⊕ (Int)) :=
 cond (decide (v3.2 < (x0.length : Int)))
 ((idx x0 v3.2).bind fun v4 => (i_dot x1 v4).bind fun v5 => some (.inl ((if v5 > v3.1 then v5 else v3.1), (IntKind.i64.wrap (v3.2 + (1 : Int))))))
 (some (.inr v3.1))
noncomputable def i_support (x0 : List (List Int)) (x1 : List Int) : Option (Int) :=
(idx x0 (0 : Int)).bind fun v1 => (i_dot x1 v1).bind fun v2 => (iter (i_support_s3 x0 x1) (v2, (0 : Int))).bind fun v6 => some v6
noncomputable def e_i_support : CallE := ⟨55, [.d false (.list (.list (.int .i64))), .d false (.list (.int .i64))], [.l (.d false (.int .i64))], fun x => i_support x.1 x.2⟩
noncomputable def c_i_support : Ctx := ⟨Try.prog, TT, [e_i_dot], [⟨3, [(5, .l (.d false (.int .i64))), (15, .l (.d false (.int .i64)))], some (0, [(5, .l (.d false (.int .i64)))]), none⟩], [], [], [], []⟩
theorem k_i_support (x : PMs.den e_i_support.ps) : funK c_i_support Try.f55 e_i_support.ps e_i_support.rs x = e_i_support.F x := by kernel_rfl
theorem o_i_support : FnOk Try.prog e_i_support.f ∧ Ctr Try.prog e_i_support := mkCtr (C := c_i_support) m_ (⟨o_i_dot, trivial⟩) Try.func55 (by kernel_rfl) k_i_support
/-! loop.example/g00959/impl.SupportAt -/
noncomputable def i_SupportAt (x0 : List (List Int)) (x1 : List Int) : Option (Int × Bool) :=
(i_IsPolygon x0).bind fun v1 => cond (!v1)
 (some ((0 : Int), false))
 ((i_IsVector x1).bind fun v2 => cond (!v2)
 (some ((0 : Int), false))
 (cond ((x1.length : Int) != (2 : Int))
 (some ((0 : Int), false))
 ((i_support x0 x1).bind fun v3 => some (v3, true))))
noncomputable def e_i_SupportAt : CallE := ⟨15, [.d false (.list (.list (.int .i64))), .d false (.list (.int .i64))], [.l (.d false (.int .i64)), .l (.d false .bool)], fun x => i_SupportAt x.1 x.2⟩
noncomputable def c_i_SupportAt : Ctx := ⟨Try.prog, TT, [e_i_IsPolygon, e_i_IsVector, e_i_support], [], [], [], [], []⟩
theorem k_i_SupportAt (x : PMs.den e_i_SupportAt.ps) : funK c_i_SupportAt Try.f15 e_i_SupportAt.ps e_i_SupportAt.rs x = e_i_SupportAt.F x := by kernel_rfl
theorem o_i_SupportAt : FnOk Try.prog e_i_SupportAt.f ∧ Ctr Try.prog e_i_SupportAt := mkCtr (C := c_i_SupportAt) m_ (⟨o_i_IsPolygon, o_i_IsVector, o_i_support, trivial⟩) Try.func15 (by kernel_rfl) k_i_SupportAt
/-! loop.example/g00959/laws.eqIntS -/
noncomputable def w_eqIntS_s4 (x0 : List Int) (x1 : List Int) (v1 : Int) : Option ((Int) ⊕ ((Unit) ⊕ (Bool))) :=
 cond (decide (v1 < (x0.length : Int)))
 ((idx x0 v1).bind fun v2 => (idx x1 v1).bind fun v3 => cond (v2 != v3)
 (some (.inr (.inr false)))
 (some (.inl (IntKind.i64.wrap (v1 + (1 : Int))))))
 (some (.inr (.inl ())))
noncomputable def w_eqIntS (x0 : List Int) (x1 : List Int) : Option (Bool) :=
 cond ((x0.length : Int) != (x1.length : Int))
 (some false)
 ((iter (w_eqIntS_s4 x0 x1) (0 : Int)).bind fun v4 => match v4 with
 | .inl v5 => (some true)
 | .inr v6 => (some v6))
noncomputable def e_w_eqIntS : CallE := ⟨17, [.d false (.list (.int .i64)), .d false (.list (.int .i64))], [.l (.d false .bool)], fun x => w_eqIntS x.1 x.2⟩
noncomputable def c_w_eqIntS : Ctx := ⟨Try.prog, TT, [], [⟨4, [(5, .l (.d false (.int .i64)))], some (0, []), some [(4, .l (.d false .bool))]⟩], [], [], [], []⟩
theorem k_w_eqIntS (x : PMs.den e_w_eqIntS.ps) : funK c_w_eqIntS Try.f17 e_w_eqIntS.ps e_w_eqIntS.rs x = e_w_eqIntS.F x := by kernel_rfl
theorem o_w_eqIntS : FnOk Try.prog e_w_eqIntS.f ∧ Ctr Try.prog e_w_eqIntS := mkCtr (C := c_w_eqIntS) m_ (trivial) Try.func17 (by kernel_rfl) k_w_eqIntS
/-! loop.example/g00959/laws.eqIntSS -/
noncomputable def w_eqIntSS_s4 (x0 : List (List Int)) (x1 : List (List Int)) (v1 : Int) : Option ((Int) ⊕ ((Unit) ⊕ (Bool))) :=
 cond (decide (v1 < (x0.length : Int)))
 ((idx x0 v1).bind fun v2 => (idx x1 v1).bind fun v3 => (w_eqIntS v2 v3).bind fun v4 => cond (!v4)
 (some (.inr (.inr false)))
 (some (.inl (IntKind.i64.wrap (v1 + (1 : Int))))))
 (some (.inr (.inl ())))
noncomputable def w_eqIntSS (x0 : List (List Int)) (x1 : List (List Int)) : Option (Bool) :=
 cond ((x0.length : Int) != (x1.length : Int))
 (some false)
 ((iter (w_eqIntSS_s4 x0 x1) (0 : Int)).bind fun v5 => match v5 with
 | .inl v6 => (some true)
 | .inr v7 => (some v7))
noncomputable def e_w_eqIntSS : CallE := ⟨16, [.d false (.list (.list (.int .i64))), .d false (.list (.list (.int .i64)))], [.l (.d false .bool)], fun x => w_eqIntSS x.1 x.2⟩
noncomputable def c_w_eqIntSS : Ctx := ⟨Try.prog, TT, [e_w_eqIntS], [⟨4, [(5, .l (.d false (.int .i64)))], some (0, []), some [(4, .l (.d false .bool))]⟩], [], [], [], []⟩
theorem k_w_eqIntSS (x : PMs.den e_w_eqIntSS.ps) : funK c_w_eqIntSS Try.f16 e_w_eqIntSS.ps e_w_eqIntSS.rs x = e_w_eqIntSS.F x := by kernel_rfl
theorem o_w_eqIntSS : FnOk Try.prog e_w_eqIntSS.f ∧ Ctr Try.prog e_w_eqIntSS := mkCtr (C := c_w_eqIntSS) m_ (⟨o_w_eqIntS, trivial⟩) Try.func16 (by kernel_rfl) k_w_eqIntSS
/-! loop.example/g00959/laws.FnExactSupportAt -/
noncomputable def w_FnExactSupportAt (x0 : List (List Int)) (x1 : List Int) : Option (Bool) :=
 cond (decide ((x1.length : Int) > (1048576 : Int)))
 (some true)
 ((w_szIntSS x0 (1048576 : Int)).bind fun v1 => cond (decide (v1 < (0 : Int)))
 (some true)
 ((w_toIntSS x0).bind fun v2 => (w_toIntS x1).bind fun v3 => (s_SupportAt v2 v3).bind fun v4 => (w_toIntSS x0).bind fun v5 => (w_toIntS x1).bind fun v6 => (i_SupportAt v5 v6).bind fun v7 => cond (v7.1 != v4.1)
 (some false)
 (cond (!(v7.2 == v4.2))
 (some false)
 ((w_toIntSS x0).bind fun v8 => (w_eqIntSS v5 v8).bind fun v9 => cond (!v9)
 (some false)
 ((w_toIntS x1).bind fun v10 => (w_eqIntS v6 v10).bind fun v11 => cond (!v11)
 (some false)
 (some true))))))
noncomputable def e_w_FnExactSupportAt : CallE := ⟨3, [.d false (.list (.list (.int .i64))), .d false (.list (.int .i64))], [.l (.d false .bool)], fun x => w_FnExactSupportAt x.1 x.2⟩
noncomputable def c_w_FnExactSupportAt : Ctx := ⟨Try.prog, TT, [e_w_szIntSS, e_w_toIntSS, e_w_toIntS, e_s_SupportAt, e_i_SupportAt, e_w_eqIntSS, e_w_eqIntS], [], [], [], [], []⟩
theorem k_w_FnExactSupportAt (x : PMs.den e_w_FnExactSupportAt.ps) : funK c_w_FnExactSupportAt Try.f3 e_w_FnExactSupportAt.ps e_w_FnExactSupportAt.rs x = e_w_FnExactSupportAt.F x := by kernel_rfl
theorem o_w_FnExactSupportAt : FnOk Try.prog e_w_FnExactSupportAt.f ∧ Ctr Try.prog e_w_FnExactSupportAt := mkCtr (C := c_w_FnExactSupportAt) m_ (⟨o_w_szIntSS, o_w_toIntSS, o_w_toIntS, o_s_SupportAt, o_i_SupportAt, o_w_eqIntSS, o_w_eqIntS, trivial⟩) Try.func3 (by kernel_rfl) k_w_FnExactSupportAt
/-! loop.example/g00959/spec.l2Scale -/
noncomputable def s_l2Scale_s3 (x0 : List Int) (x1 : Int) (v1 : List Int × Int) : Option ((List Int × Int) ⊕ (List Int)) :=
 cond (decide (v1.2 < (x0.length : Int)))
 ((idx x0 v1.2).bind fun v2 => (appD 8 v1.1 ([(IntKind.i64.wrap (v2 * x1))] : List Int)).bind fun v3 => some (.inl (v3, (IntKind.i64.wrap (v1.2 + (1 : Int))))))
 (some (.inr v1.1))
noncomputable def s_l2Scale (x0 : List Int) (x1 : Int) : Option (List Int) :=
(iter (s_l2Scale_s3 x0 x1) (([] : List Int), (0 : Int))).bind fun v4 => some v4
noncomputable def e_s_l2Scale : CallE := ⟨56, [.d false (.list (.int .i64)), .d false (.int .i64)], [.l (.o true 3 (.int .i64))], fun x => s_l2Scale x.1 x.2⟩
noncomputable def c_s_l2Scale : Ctx := ⟨Try.prog, TT, [], [⟨3, [(5, .l (.o true 3 (.int .i64))), (6, .l (.d false (.int .i64)))], some (0, [(5, .l (.o true 3 (.int .i64)))]), none⟩], [], [], [], []⟩
theorem k_s_l2Scale (x : PMs.den e_s_l2Scale.ps) : funK c_s_l2Scale Try.f56 e_s_l2Scale.ps e_s_l2Scale.rs x = e_s_l2Scale.F x := by kernel_rfl
theorem o_s_l2Scale : FnOk Try.prog e_s_l2Scale.f ∧ Ctr Try.prog e_s_l2Scale := mkCtr (C := c_s_l2Scale) m_ (trivial) Try.func56 (by kernel_rfl) k_s_l2Scale
/-! loop.example/g00959/spec.WidthIn -/
noncomputable def s_WidthIn (x0 : List (List Int)) (x1 : List Int) : Option (Int) :=
(s_SupportAt x0 x1).bind fun v1 => cond (!v1.2)
 (some (-1 : Int))
 ((s_l2Scale x1 (-1 : Int)).bind fun v2 => (s_SupportAt x0 v2).bind fun v3 => some (IntKind.i64.wrap (v1.1 + v3.1)))
noncomputable def e_s_WidthIn : CallE := ⟨18, [.d false (.list (.list (.int .i64))), .d false (.list (.int .i64))], [.l (.d false (.int .i64))], fun x => s_WidthIn x.1 x.2⟩
noncomputable def c_s_WidthIn : Ctx := ⟨Try.prog, TT, [e_s_SupportAt, e_s_l2Scale], [], [], [], [], []⟩
theorem k_s_WidthIn (x : PMs.den e_s_WidthIn.ps) : funK c_s_WidthIn Try.f18 e_s_WidthIn.ps e_s_WidthIn.rs x = e_s_WidthIn.F x := by kernel_rfl
theorem o_s_WidthIn : FnOk Try.prog e_s_WidthIn.f ∧ Ctr Try.prog e_s_WidthIn := mkCtr (C := c_s_WidthIn) m_ (⟨o_s_SupportAt, o_s_l2Scale, trivial⟩) Try.func18 (by kernel_rfl) k_s_WidthIn
/-! loop.example/g00959/impl.WidthIn -/
noncomputable def i_WidthIn (x0 : List (List Int)) (x1 : List Int) : Option (Int) :=
(i_IsPolygon x0).bind fun v1 => cond (!v1)
 (some (-1 : Int))
 ((i_IsVector x1).bind fun v2 => cond (!v2)
 (some (-1 : Int))
 (cond ((x1.length : Int) != (2 : Int))
 (some (-1 : Int))
 ((i_support x0 x1).bind fun v3 => (idx x1 (0 : Int)).bind fun v4 => (idx x1 (1 : Int)).bind fun v5 => (i_support x0 ([(IntKind.i64.wrap (0 - v4)), (IntKind.i64.wrap (0 - v5))] : List Int)).bind fun v6 => some (IntKind.i64.wrap (v3 + v6)))))
noncomputable def e_i_WidthIn : CallE := ⟨19, [.d false (.list (.list (.int .i64))), .d false (.list (.int .i64))], [.l (.d false (.int .i64))], fun x => i_WidthIn x.1 x.2⟩
noncomputable def c_i_WidthIn : Ctx := ⟨Try.prog, TT, [e_i_IsPolygon, e_i_IsVector, e_i_support], [], [], [], [], []⟩
theorem k_i_WidthIn (x : PMs.den e_i_WidthIn.ps) : funK c_i_WidthIn Try.f19 e_i_WidthIn.ps e_i_WidthIn.rs x = e_i_WidthIn.F x := by kernel_rfl
theorem o_i_WidthIn : FnOk Try.prog e_i_WidthIn.f ∧ Ctr Try.prog e_i_WidthIn := mkCtr (C := c_i_WidthIn) m_ (⟨o_i_IsPolygon, o_i_IsVector, o_i_support, trivial⟩) Try.func19 (by kernel_rfl) k_i_WidthIn
/-! loop.example/g00959/laws.FnExactWidthIn -/
noncomputable def w_FnExactWidthIn (x0 : List (List Int)) (x1 : List Int) : Option (Bool) :=
 cond (decide ((x1.length : Int) > (1048576 : Int)))
 (some true)
 ((w_szIntSS x0 (1048576 : Int)).bind fun v1 => cond (decide (v1 < (0 : Int)))
 (some true)
 ((w_toIntSS x0).bind fun v2 => (w_toIntS x1).bind fun v3 => (s_WidthIn v2 v3).bind fun v4 => (w_toIntSS x0).bind fun v5 => (w_toIntS x1).bind fun v6 => (i_WidthIn v5 v6).bind fun v7 => cond (v7 != v4)
 (some false)
 ((w_toIntSS x0).bind fun v8 => (w_eqIntSS v5 v8).bind fun v9 => cond (!v9)
 (some false)
 ((w_toIntS x1).bind fun v10 => (w_eqIntS v6 v10).bind fun v11 => cond (!v11)
 (some false)
 (some true)))))
noncomputable def e_w_FnExactWidthIn : CallE := ⟨4, [.d false (.list (.list (.int .i64))), .d false (.list (.int .i64))], [.l (.d false .bool)], fun x => w_FnExactWidthIn x.1 x.2⟩
noncomputable def c_w_FnExactWidthIn : Ctx := ⟨Try.prog, TT, [e_w_szIntSS, e_w_toIntSS, e_w_toIntS, e_s_WidthIn, e_i_WidthIn, e_w_eqIntSS, e_w_eqIntS], [], [], [], [], []⟩
theorem k_w_FnExactWidthIn (x : PMs.den e_w_FnExactWidthIn.ps) : funK c_w_FnExactWidthIn Try.f4 e_w_FnExactWidthIn.ps e_w_FnExactWidthIn.rs x = e_w_FnExactWidthIn.F x := by kernel_rfl
theorem o_w_FnExactWidthIn : FnOk Try.prog e_w_FnExactWidthIn.f ∧ Ctr Try.prog e_w_FnExactWidthIn := mkCtr (C := c_w_FnExactWidthIn) m_ (⟨o_w_szIntSS, o_w_toIntSS, o_w_toIntS, o_s_WidthIn, o_i_WidthIn, o_w_eqIntSS, o_w_eqIntS, trivial⟩) Try.func4 (by kernel_rfl) k_w_FnExactWidthIn
/-! loop.example/g00959/spec.l5All -/
noncomputable def s_l5All_s10 (x2 : Int) (v1 : List (List Int) × Int) (v2 : List (List Int) × Int) (v3 : List (List Int) × Int) : Option ((List (List Int) × Int) ⊕ (List (List Int))) :=
 cond (decide (v3.2 ≤ x2))
 ((idx v1.1 v2.2).bind fun v4 => (appD 8 ([] : List Int) v4).bind fun v5 => (appD 8 v5 ([v3.2] : List Int)).bind fun v6 => (appD 24 v3.1 ([v6] : List (List Int))).bind fun v7 => some (.inl (v7, (IntKind.i64.wrap (v3.2 + (1 : Int))))))
 (some (.inr v3.1))
noncomputable def s_l5All_s7 (x1 : Int) (x2 : Int) (v1 : List (List Int) × Int) (v2 : List (List Int) × Int) : Option ((List (List Int) × Int) ⊕ (List (List Int))) :=
 cond (decide (v2.2 < (v1.1.length : Int)))
 ((iter (s_l5All_s10 x2 v1 v2) (v2.1, x1)).bind fun v8 => some (.inl (v8, (IntKind.i64.wrap (v2.2 + (1 : Int))))))
 (some (.inr v2.1))
noncomputable def s_l5All_s3 (x0 : Int) (x1 : Int) (x2 : Int) (v1 : List (List Int) × Int) : Option ((List (List Int) × Int) ⊕ (List (List Int))) :=
 cond (decide (v1.2 < x0))
 ((iter (s_l5All_s7 x1 x2 v1) (([] : List (List Int)), (0 : Int))).bind fun v9 => some (.inl (v9, (IntKind.i64.wrap (v1.2 + (1 : Int))))))
 (some (.inr v1.1))
noncomputable def s_l5All (x0 : Int) (x1 : Int) (x2 : Int) : Option (List (List Int)) :=
(iter (s_l5All_s3 x0 x1 x2) (([([] : List Int)] : List (List Int)), (0 : Int))).bind fun v10 => some v10
noncomputable def e_s_l5All : CallE := ⟨96, [.d false (.int .i64), .d false (.int .i64), .d false (.int .i64)], [.l (.o true 23 (.list (.int .i64)))], fun x => s_l5All x.1 x.2.1 x.2.2⟩
noncomputable def c_s_l5All : Ctx := ⟨Try.prog, TT, [], [⟨3, [(7, .l (.o true 23 (.list (.int .i64)))), (8, .l (.d false (.int .i64)))], some (0, [(7, .l (.o true 23 (.list (.int .i64))))]), none⟩, ⟨7, [(9, .l (.o true 23 (.list (.int .i64)))), (10, .l (.d false (.int .i64)))], some (2, [(9, .l (.o true 23 (.list (.int .i64))))]), none⟩, ⟨10, [(9, .l (.o true 23 (.list (.int .i64)))), (11, .l (.d false (.int .i64)))], some (4, [(9, .l (.o true 23 (.list (.int .i64))))]), none⟩], [], [], [], []⟩
theorem k_s_l5All (x : PMs.den e_s_l5All.ps) : funK c_s_l5All Try.f96 e_s_l5All.ps e_s_l5All.rs x = e_s_l5All.F x := by kernel_rfl
theorem o_s_l5All : FnOk Try.prog e_s_l5All.f ∧ Ctr Try.prog e_s_l5All := mkCtr (C := c_s_l5All) m_ (trivial) Try.func96 (by kernel_rfl) k_s_l5All
/-! loop.example/g00959/spec.l1Min -/
noncomputable def s_l1Min (x0 : Int) (x1 : Int) : Option (Int) :=
 cond (decide (x0 < x1))
 (some x0)
 (some x1)
noncomputable def e_s_l1Min : CallE := ⟨106, [.d false (.int .i64), .d false (.int .i64)], [.l (.d false (.int .i64))], fun x => s_l1Min x.1 x.2⟩
noncomputable def c_s_l1Min : Ctx := ⟨Try.prog, TT, [], [], [], [], [], []⟩
theorem k_s_l1Min (x : PMs.den e_s_l1Min.ps) : funK c_s_l1Min Try.f106 e_s_l1Min.ps e_s_l1Min.rs x = e_s_l1Min.F x := by kernel_rfl
theorem o_s_l1Min : FnOk Try.prog e_s_l1Min.f ∧ Ctr Try.prog e_s_l1Min := mkCtr (C := c_s_l1Min) m_ (trivial) Try.func106 (by kernel_rfl) k_s_l1Min
/-! loop.example/g00959/spec.l25Range -/
noncomputable def s_l25Range_s4 (x0 : List (List Int)) (x1 : List Int) (v3 : Int × Int × Int) : Option ((Int × Int × Int) ⊕ (Int × Int)) :=
 cond (decide (v3.2.2 < (x0.length : Int)))
 ((idx x0 v3.2.2).bind fun v4 => (s_l2Dot x1 v4).bind fun v5 => (s_l1Max v3.1 v5).bind fun v6 => (s_l1Min v3.2.1 v5).bind fun v7 => some (.inl (v6, (v7, (IntKind.i64.wrap (v3.2.2 + (1 : Int)))))))
 (some (.inr (v3.1, v3.2.1)))
noncomputable def s_l25Range (x0 : List (List Int)) (x1 : List Int) : Option (Int × Int) :=
(idx x0 (0 : Int)).bind fun v1 => (s_l2Dot x1 v1).bind fun v2 => (iter (s_l25Range_s4 x0 x1) (v2, (v2, (1 : Int)))).bind fun v8 => some (v8.1, v8.2)
noncomputable def e_s_l25Range : CallE := ⟨66, [.d false (.list (.list (.int .i64))), .d false (.list (.int .i64))], [.l (.d false (.int .i64)), .l (.d false (.int .i64))], fun x => s_l25Range x.1 x.2⟩
noncomputable def c_s_l25Range : Ctx := ⟨Try.prog, TT, [e_s_l2Dot, e_s_l1Max, e_s_l1Min], [⟨4, [(6, .l (.d false (.int .i64))), (7, .l (.d false (.int .i64))), (8, .l (.d false (.int .i64)))], some (0, [(6, .l (.d false (.int .i64))), (7, .l (.d false (.int .i64)))]), none⟩], [], [], [], []⟩
theorem k_s_l25Range (x : PMs.den e_s_l25Range.ps) : funK c_s_l25Range Try.f66 e_s_l25Range.ps e_s_l25Range.rs x = e_s_l25Range.F x := by kernel_rfl
theorem o_s_l25Range : FnOk Try.prog e_s_l25Range.f ∧ Ctr Try.prog e_s_l25Range := mkCtr (C := c_s_l25Range) m_ (⟨o_s_l2Dot, o_s_l1Max, o_s_l1Min, trivial⟩) Try.func66 (by kernel_rfl) k_s_l25Range
/-! loop.example/g00959/spec.l25Best -/
noncomputable def s_l25Best_s5 (x0 : List (List Int)) (v1 : List (List Int)) (v2 : Int × List (List Int) × Int) : Option ((Int × List (List Int) × Int) ⊕ (Int × List (List Int))) :=
 cond (decide (v2.2.2 < (v1.length : Int)))
 ((idx v1 v2.2.2).bind fun v3 => (idx v3 (0 : Int)).bind fun v4 => cond (decide (v4 < (0 : Int)))
 (some (.inl (v2.1, (v2.2.1, (IntKind.i64.wrap (v2.2.2 + (1 : Int)))))))
 ((idx v3 (0 : Int)).bind fun v5 => cond (v5 == (0 : Int))
 ((idx v3 (1 : Int)).bind fun v6 => cond (decide (v6 ≤ (0 : Int)))
 (some (.inl (v2.1, (v2.2.1, (IntKind.i64.wrap (v2.2.2 + (1 : Int)))))))
 ((s_l25Range x0 v3).bind fun v7 => cond (decide (v2.1 < (0 : Int)))
 (cond ((IntKind.i64.wrap (v7.1 - v7.2)) == (IntKind.i64.wrap (v7.1 - v7.2)))
 ((appD 24 ([] : List (List Int)) ([v3] : List (List Int))).bind fun v8 => some (.inl ((IntKind.i64.wrap (v7.1 - v7.2)), (v8, (IntKind.i64.wrap (v2.2.2 + (1 : Int)))))))
 (some (.inl ((IntKind.i64.wrap (v7.1 - v7.2)), (([] : List (List Int)), (IntKind.i64.wrap (v2.2.2 + (1 : Int))))))))
 (cond (decide ((IntKind.i64.wrap (v7.1 - v7.2)) < v2.1))
 (cond ((IntKind.i64.wrap (v7.1 - v7.2)) == (IntKind.i64.wrap (v7.1 - v7.2)))
 ((appD 24 ([] : List (List Int)) ([v3] : List (List Int))).bind fun v9 => some (.inl ((IntKind.i64.wrap (v7.1 - v7.2)), (v9, (IntKind.i64.wrap (v2.2.2 + (1 : Int)))))))
 (some (.inl ((IntKind.i64.wrap (v7.1 - v7.2)), (([] : List (List Int)), (IntKind.i64.wrap (v2.2.2 + (1 : Int))))))))
 (cond ((IntKind.i64.wrap (v7.1 - v7.2)) == v2.1)
 ((appD 24 v2.2.1 ([v3] : List (List Int))).bind fun v10 => some (.inl (v2.1, (v10, (IntKind.i64.wrap (v2.2.2 + (1 : Int)))))))
 (some (.inl (v2.1, (v2.2.1, (IntKind.i64.wrap (v2.2.2 + (1 : Int)))))))))))
 ((s_l25Range x0 v3).bind fun v11 => cond (decide (v2.1 < (0 : Int)))
 (cond ((IntKind.i64.wrap (v11.1 - v11.2)) == (IntKind.i64.wrap (v11.1 - v11.2)))
 ((appD 24 ([] : List (List Int)) ([v3] : List (List Int))).bind fun v12 => some (.inl ((IntKind.i64.wrap (v11.1 - v11.2)), (v12, (IntKind.i64.wrap (v2.2.2 + (1 : Int)))))))
 (some (.inl ((IntKind.i64.wrap (v11.1 - v11.2)), (([] : List (List Int)), (IntKind.i64.wrap (v2.2.2 + (1 : Int))))))))
 (cond (decide ((IntKind.i64.wrap (v11.1 - v11.2)) < v2.1))
 (cond ((IntKind.i64.wrap (v11.1 - v11.2)) == (IntKind.i64.wrap (v11.1 - v11.2)))
 ((appD 24 ([] : List (List Int)) ([v3] : List (List Int))).bind fun v13 => some (.inl ((IntKind.i64.wrap (v11.1 - v11.2)), (v13, (IntKind.i64.wrap (v2.2.2 + (1 : Int)))))))
 (some (.inl ((IntKind.i64.wrap (v11.1 - v11.2)), (([] : List (List Int)), (IntKind.i64.wrap (v2.2.2 + (1 : Int))))))))
 (cond ((IntKind.i64.wrap (v11.1 - v11.2)) == v2.1)
 ((appD 24 v2.2.1 ([v3] : List (List Int))).bind fun v14 => some (.inl (v2.1, (v14, (IntKind.i64.wrap (v2.2.2 + (1 : Int)))))))
 (some (.inl (v2.1, (v2.2.1, (IntKind.i64.wrap (v2.2.2 + (1 : Int))))))))))))
 (some (.inr (v2.1, v2.2.1)))
noncomputable def s_l25Best (x0 : List (List Int)) : Option (Int × List (List Int)) :=
(s_l5All (2 : Int) (-12 : Int) (12 : Int)).bind fun v1 => (iter (s_l25Best_s5 x0 v1) ((-1 : Int), (([] : List (List Int)), (0 : Int)))).bind fun v15 => some (v15.1, v15.2)
noncomputable def e_s_l25Best : CallE := ⟨57, [.d false (.list (.list (.int .i64)))], [.l (.d false (.int .i64)), .l (.o false 23 (.list (.int .i64)))], fun x => s_l25Best x⟩
noncomputable def c_s_l25Best : Ctx := ⟨Try.prog, TT, [e_s_l5All, e_s_l25Range], [⟨5, [(4, .l (.d false (.int .i64))), (5, .l (.o false 23 (.list (.int .i64)))), (7, .l (.d false (.int .i64)))], some (0, [(4, .l (.d false (.int .i64))), (5, .l (.o false 23 (.list (.int .i64))))]), none⟩], [], [], [], []⟩
theorem k_s_l25Best (x : PMs.den e_s_l25Best.ps) : funK c_s_l25Best Try.f57 e_s_l25Best.ps e_s_l25Best.rs x = e_s_l25Best.F x := by kernel_rfl
theorem o_s_l25Best : FnOk Try.prog e_s_l25Best.f ∧ Ctr Try.prog e_s_l25Best := mkCtr (C := c_s_l25Best) m_ (⟨o_s_l5All, o_s_l25Range, trivial⟩) Try.func57 (by kernel_rfl) k_s_l25Best
/-! loop.example/g00959/spec.LeastWidth -/
noncomputable def s_LeastWidth (x0 : List (List Int)) : Option (Int) :=
(s_IsPolygon x0).bind fun v1 => cond (!v1)
 (some (-1 : Int))
 ((s_l25Best x0).bind fun v2 => some v2.1)
noncomputable def e_s_LeastWidth : CallE := ⟨20, [.d false (.list (.list (.int .i64)))], [.l (.d false (.int .i64))], fun x => s_LeastWidth x⟩
noncomputable def c_s_LeastWidth : Ctx := ⟨Try.prog, TT, [e_s_IsPolygon, e_s_l25Best], [], [], [], [], []⟩
theorem k_s_LeastWidth (x : PMs.den e_s_LeastWidth.ps) : funK c_s_LeastWidth Try.f20 e_s_LeastWidth.ps e_s_LeastWidth.rs x = e_s_LeastWidth.F x := by kernel_rfl
theorem o_s_LeastWidth : FnOk Try.prog e_s_LeastWidth.f ∧ Ctr Try.prog e_s_LeastWidth := mkCtr (C := c_s_LeastWidth) m_ (⟨o_s_IsPolygon, o_s_l25Best, trivial⟩) Try.func20 (by kernel_rfl) k_s_LeastWidth
/-! loop.example/g00959/impl.copyInts -/
noncomputable def i_copyInts (x0 : List Int) : Option (List Int) :=
(appD 8 ([] : List Int) x0).bind fun v1 => some v1
noncomputable def e_i_copyInts : CallE := ⟨109, [.d false (.list (.int .i64))], [.l (.o true 3 (.int .i64))], fun x => i_copyInts x⟩
noncomputable def c_i_copyInts : Ctx := ⟨Try.prog, TT, [], [], [], [], [], []⟩
theorem k_i_copyInts (x : PMs.den e_i_copyInts.ps) : funK c_i_copyInts Try.f109 e_i_copyInts.ps e_i_copyInts.rs x = e_i_copyInts.F x := by kernel_rfl
theorem o_i_copyInts : FnOk Try.prog e_i_copyInts.f ∧ Ctr Try.prog e_i_copyInts := mkCtr (C := c_i_copyInts) m_ (trivial) Try.func109 (by kernel_rfl) k_i_copyInts
/-! loop.example/g00959/impl.lattice -/
noncomputable def i_lattice_s10 (x1 : List Int) (v1 : List (List Int) × Int) (v3 : List Int) (v5 : List (List Int) × Int) : Option ((List (List Int) × Int) ⊕ (List (List Int))) :=
(idx x1 v1.2).bind fun v6 => cond (decide (v5.2 ≤ v6))
 ((i_copyInts v3).bind fun v7 => (appD 8 v7 ([v5.2] : List Int)).bind fun v8 => (appD 24 v5.1 ([v8] : List (List Int))).bind fun v9 => some (.inl (v9, (IntKind.i64.wrap (v5.2 + (1 : Int))))))
 (some (.inr v5.1))
noncomputable def i_lattice_s7 (x0 : List Int) (x1 : List Int) (v1 : List (List Int) × Int) (v2 : List (List Int) × Int) : Option ((List (List Int) × Int) ⊕ (List (List Int))) :=
 cond (decide (v2.2 < (v1.1.length : Int)))
 ((idx v1.1 v2.2).bind fun v3 => (idx x0 v1.2).bind fun v4 => (iter (i_lattice_s10 x1 v1 v3) (v2.1, v4)).bind fun v10 => some (.inl (v10, (IntKind.i64.wrap (v2.2 + (1 : Int))))))
 (some (.inr v2.1))
noncomputable def i_lattice_s3 (x0 : List Int) (x1 : List Int) (v1 : List (List Int) × Int) : Option ((List (List Int) × Int) ⊕ (List (List Int))) :=
 cond (decide (v1.2 < (x0.length : Int)))
 ((iter (i_lattice_s7 x0 x1 v1) (([] : List (List Int)), (0 : Int))).bind fun v11 => some (.inl (v11, (IntKind.i64.wrap (v1.2 + (1 : Int))))))
 (some (.inr v1.1))
noncomputable def i_lattice (x0 : List Int) (x1 : List Int) : Option (List (List Int)) :=
(iter (i_lattice_s3 x0 x1) (([([] : List Int)] : List (List Int)), (0 : Int))).bind fun v12 => some v12
noncomputable def e_i_lattice : CallE := ⟨97, [.d false (.list (.int .i64)), .d false (.list (.int .i64))], [.l (.o true 23 (.list (.int .i64)))], fun x => i_lattice x.1 x.2⟩
noncomputable def c_i_lattice : Ctx := ⟨Try.prog, TT, [e_i_copyInts], [⟨3, [(5, .l (.o true 23 (.list (.int .i64)))), (14, .l (.d false (.int .i64)))], some (0, [(5, .l (.o true 23 (.list (.int .i64))))]), none⟩, ⟨7, [(7, .l (.o true 23 (.list (.int .i64)))), (19, .l (.d false (.int .i64)))], some (2, [(7, .l (.o true 23 (.list (.int .i64))))]), none⟩, ⟨10, [(7, .l (.o true 23 (.list (.int .i64)))), (10, .l (.d false (.int .i64)))], some (4, [(7, .l (.o true 23 (.list (.int .i64))))]), none⟩], [], [], [], []⟩
theorem k_i_lattice (x : PMs.den e_i_lattice.ps) : funK c_i_lattice Try.f97 e_i_lattice.ps e_i_lattice.rs x = e_i_lattice.F x := by kernel_rfl
theorem o_i_lattice : FnOk Try.prog e_i_lattice.f ∧ Ctr Try.prog e_i_lattice := mkCtr (C := c_i_lattice) m_ (⟨o_i_copyInts, trivial⟩) Try.func97 (by kernel_rfl) k_i_lattice
/-! loop.example/g00959/impl.directions -/
noncomputable def i_directions_s3 (v1 : List (List Int)) (v2 : List (List Int) × Int) : Option ((List (List Int) × Int) ⊕ (List (List Int))) :=
 cond (decide (v2.2 < (v1.length : Int)))
 ((idx v1 v2.2).bind fun v3 => (idx v3 (0 : Int)).bind fun v4 => cond (decide (v4 > (0 : Int)))
 ((appD 24 v2.1 ([v3] : List (List Int))).bind fun v5 => some (.inl (v5, (IntKind.i64.wrap (v2.2 + (1 : Int))))))
 ((idx v3 (1 : Int)).bind fun v6 => cond (decide (v6 > (0 : Int)))
 ((appD 24 v2.1 ([v3] : List (List Int))).bind fun v7 => some (.inl (v7, (IntKind.i64.wrap (v2.2 + (1 : Int))))))
 (some (.inl (v2.1, (IntKind.i64.wrap (v2.2 + (1 : Int))))))))
 (some (.inr v2.1))
noncomputable def i_directions : Option (List (List Int)) :=
(i_lattice ([(0 : Int), (-12 : Int)] : List Int) ([(12 : Int), (12 : Int)] : List Int)).bind fun v1 => (iter (i_directions_s3 v1) (([] : List (List Int)), (0 : Int))).bind fun v8 => some v8
noncomputable def e_i_directions : CallE := ⟨58, [], [.l (.o false 23 (.list (.int .i64)))], fun x => i_directions⟩
noncomputable def c_i_directions : Ctx := ⟨Try.prog, TT, [e_i_lattice], [⟨3, [(1, .l (.o false 23 (.list (.int .i64)))), (8, .l (.d false (.int .i64)))], some (0, [(1, .l (.o false 23 (.list (.int .i64))))]), none⟩], [], [], [], []⟩
theorem k_i_directions (x : PMs.den e_i_directions.ps) : funK c_i_directions Try.f58 e_i_directions.ps e_i_directions.rs x = e_i_directions.F x := by kernel_rfl
theorem o_i_directions : FnOk Try.prog e_i_directions.f ∧ Ctr Try.prog e_i_directions := mkCtr (C := c_i_directions) m_ (⟨o_i_lattice, trivial⟩) Try.func58 (by kernel_rfl) k_i_directions
/-! loop.example/g00959/impl.LeastWidth -/
noncomputable def i_LeastWidth_s3 (x0 : List (List Int)) (v1 : List (List Int)) (v2 : Int × Int) : Option ((Int × Int) ⊕ (Int)) :=
 cond (decide (v2.2 < (v1.length : Int)))
 ((idx v1 v2.2).bind fun v3 => (i_WidthIn x0 v3).bind fun v4 => cond (decide (v2.1 < (0 : Int)))
 (some (.inl (v4, (IntKind.i64.wrap (v2.2 + (1 : Int))))))
 (cond (decide (v4 < v2.1))
 (some (.inl (v4, (IntKind.i64.wrap (v2.2 + (1 : Int))))))
 (some (.inl (v2.1, (IntKind.i64.wrap (v2.2 + (1 : Int))))))))
 (some (.inr v2.1))
noncomputable def i_LeastWidth (x0 : List (List Int)) : Option (Int) :=
(i_directions).bind fun v1 => (iter (i_LeastWidth_s3 x0 v1) ((-1 : Int), (0 : Int))).bind fun v5 => some v5
noncomputable def e_i_LeastWidth : CallE := ⟨21, [.d false (.list (.list (.int .i64)))], [.l (.d false (.int .i64))], fun x => i_LeastWidth x⟩
noncomputable def c_i_LeastWidth : Ctx := ⟨Try.prog, TT, [e_i_directions, e_i_WidthIn], [⟨3, [(3, .l (.d false (.int .i64))), (9, .l (.d false (.int .i64)))], some (0, [(3, .l (.d false (.int .i64)))]), none⟩], [], [], [], []⟩
theorem k_i_LeastWidth (x : PMs.den e_i_LeastWidth.ps) : funK c_i_LeastWidth Try.f21 e_i_LeastWidth.ps e_i_LeastWidth.rs x = e_i_LeastWidth.F x := by kernel_rfl
theorem o_i_LeastWidth : FnOk Try.prog e_i_LeastWidth.f ∧ Ctr Try.prog e_i_LeastWidth := mkCtr (C := c_i_LeastWidth) m_ (⟨o_i_directions, o_i_WidthIn, trivial⟩) Try.func21 (by kernel_rfl) k_i_LeastWidth
/-! loop.example/g00959/laws.FnExactLeastWidth -/
noncomputable def w_FnExactLeastWidth (x0 : List (List Int)) : Option (Bool) :=
(w_szIntSS x0 (1048576 : Int)).bind fun v1 => cond (decide (v1 < (0 : Int)))
 (some true)
 ((w_toIntSS x0).bind fun v2 => (s_LeastWidth v2).bind fun v3 => (w_toIntSS x0).bind fun v4 => (i_LeastWidth v4).bind fun v5 => cond (v5 != v3)
 (some false)
 ((w_toIntSS x0).bind fun v6 => (w_eqIntSS v4 v6).bind fun v7 => cond (!v7)
 (some false)
 (some true)))
noncomputable def e_w_FnExactLeastWidth : CallE := ⟨5, [.d false (.list (.list (.int .i64)))], [.l (.d false .bool)], fun x => w_FnExactLeastWidth x⟩
noncomputable def c_w_FnExactLeastWidth : Ctx := ⟨Try.prog, TT, [e_w_szIntSS, e_w_toIntSS, e_s_LeastWidth, e_i_LeastWidth, e_w_eqIntSS], [], [], [], [], []⟩
theorem k_w_FnExactLeastWidth (x : PMs.den e_w_FnExactLeastWidth.ps) : funK c_w_FnExactLeastWidth Try.f5 e_w_FnExactLeastWidth.ps e_w_FnExactLeastWidth.rs x = e_w_FnExactLeastWidth.F x := by kernel_rfl
theorem o_w_FnExactLeastWidth : FnOk Try.prog e_w_FnExactLeastWidth.f ∧ Ctr Try.prog e_w_FnExactLeastWidth := mkCtr (C := c_w_FnExactLeastWidth) m_ (⟨o_w_szIntSS, o_w_toIntSS, o_s_LeastWidth, o_i_LeastWidth, o_w_eqIntSS, trivial⟩) Try.func5 (by kernel_rfl) k_w_FnExactLeastWidth
/-! loop.example/g00959/spec.l1Abs -/
noncomputable def s_l1Abs (x0 : Int) : Option (Int) :=
(s_l1Max x0 (IntKind.i64.wrap (0 - x0))).bind fun v1 => some v1
noncomputable def e_s_l1Abs : CallE := ⟨141, [.d false (.int .i64)], [.l (.d false (.int .i64))], fun x => s_l1Abs x⟩
noncomputable def c_s_l1Abs : Ctx := ⟨Try.prog, TT, [e_s_l1Max], [], [], [], [], []⟩
theorem k_s_l1Abs (x : PMs.den e_s_l1Abs.ps) : funK c_s_l1Abs Try.f141 e_s_l1Abs.ps e_s_l1Abs.rs x = e_s_l1Abs.F x := by kernel_rfl
theorem o_s_l1Abs : FnOk Try.prog e_s_l1Abs.f ∧ Ctr Try.prog e_s_l1Abs := mkCtr (C := c_s_l1Abs) m_ (⟨o_s_l1Max, trivial⟩) Try.func141 (by kernel_rfl) k_s_l1Abs
/-! loop.example/g00959/spec.l2Gcd -/
noncomputable def s_l2Gcd_s3 (v3 : Int × Int) : Option ((Int × Int) ⊕ (Int)) :=
 cond (v3.2 != (0 : Int))
 ((remI .i64 v3.1 v3.2).bind fun v4 => some (.inl (v3.2, v4)))
 (some (.inr v3.1))
noncomputable def s_l2Gcd (x0 : Int) (x1 : Int) : Option (Int) :=
(s_l1Abs x0).bind fun v1 => (s_l1Abs x1).bind fun v2 => (iter (s_l2Gcd_s3) (v1, v2)).bind fun v5 => some v5
noncomputable def e_s_l2Gcd : CallE := ⟨136, [.d false (.int .i64), .d false (.int .i64)], [.l (.d false (.int .i64))], fun x => s_l2Gcd x.1 x.2⟩
noncomputable def c_s_l2Gcd : Ctx := ⟨Try.prog, TT, [e_s_l1Abs], [⟨3, [(0, .l (.d false (.int .i64))), (1, .l (.d false (.int .i64)))], some (0, [(0, .l (.d false (.int .i64)))]), none⟩], [], [], [], []⟩
theorem k_s_l2Gcd (x : PMs.den e_s_l2Gcd.ps) : funK c_s_l2Gcd Try.f136 e_s_l2Gcd.ps e_s_l2Gcd.rs x = e_s_l2Gcd.F x := by kernel_rfl
theorem o_s_l2Gcd : FnOk Try.prog e_s_l2Gcd.f ∧ Ctr Try.prog e_s_l2Gcd := mkCtr (C := c_s_l2Gcd) m_ (⟨o_s_l1Abs, trivial⟩) Try.func136 (by kernel_rfl) k_s_l2Gcd
/-! loop.example/g00959/spec.l2All -/
noncomputable def s_l2All_s3 (x0 : List Int) (v1 : Int × Int) : Option ((Int × Int) ⊕ (Int)) :=
 cond (decide (v1.2 < (x0.length : Int)))
 ((idx x0 v1.2).bind fun v2 => (s_l2Gcd v1.1 v2).bind fun v3 => some (.inl (v3, (IntKind.i64.wrap (v1.2 + (1 : Int))))))
 (some (.inr v1.1))
noncomputable def s_l2All (x0 : List Int) : Option (Int) :=
(iter (s_l2All_s3 x0) ((0 : Int), (0 : Int))).bind fun v4 => some v4
noncomputable def e_s_l2All : CallE := ⟨118, [.d false (.list (.int .i64))], [.l (.d false (.int .i64))], fun x => s_l2All x⟩
noncomputable def c_s_l2All : Ctx := ⟨Try.prog, TT, [e_s_l2Gcd], [⟨3, [(3, .l (.d false (.int .i64))), (4, .l (.d false (.int .i64)))], some (0, [(3, .l (.d false (.int .i64)))]), none⟩], [], [], [], []⟩
theorem k_s_l2All (x : PMs.den e_s_l2All.ps) : funK c_s_l2All Try.f118 e_s_l2All.ps e_s_l2All.rs x = e_s_l2All.F x := by kernel_rfl
theorem o_s_l2All : FnOk Try.prog e_s_l2All.f ∧ Ctr Try.prog e_s_l2All := mkCtr (C := c_s_l2All) m_ (⟨o_s_l2Gcd, trivial⟩) Try.func118 (by kernel_rfl) k_s_l2All
/-! loop.example/g00959/spec.l2Prime -/
noncomputable def s_l2Prime_s4 (x0 : List Int) (v1 : Int) (v2 : List Int × Int) : Option ((List Int × Int) ⊕ (List Int)) :=
 cond (decide (v2.2 < (x0.length : Int)))
 ((idx x0 v2.2).bind fun v3 => (s_l1Max v1 (1 : Int)).bind fun v4 => (quoI .i64 v3 v4).bind fun v5 => (appD 8 v2.1 ([v5] : List Int)).bind fun v6 => some (.inl (v6, (IntKind.i64.wrap (v2.2 + (1 : Int))))))
 (some (.inr v2.1))
noncomputable def s_l2Prime (x0 : List Int) : Option (List Int) :=
(s_l2All x0).bind fun v1 => (iter (s_l2Prime_s4 x0 v1) (([] : List Int), (0 : Int))).bind fun v7 => some v7
noncomputable def e_s_l2Prime : CallE := ⟨98, [.d false (.list (.int .i64))], [.l (.o true 3 (.int .i64))], fun x => s_l2Prime x⟩
noncomputable def c_s_l2Prime : Ctx := ⟨Try.prog, TT, [e_s_l2All, e_s_l1Max], [⟨4, [(4, .l (.o true 3 (.int .i64))), (5, .l (.d false (.int .i64)))], some (0, [(4, .l (.o true 3 (.int .i64)))]), none⟩], [], [], [], []⟩
theorem k_s_l2Prime (x : PMs.den e_s_l2Prime.ps) : funK c_s_l2Prime Try.f98 e_s_l2Prime.ps e_s_l2Prime.rs x = e_s_l2Prime.F x := by kernel_rfl
theorem o_s_l2Prime : FnOk Try.prog e_s_l2Prime.f ∧ Ctr Try.prog e_s_l2Prime := mkCtr (C := c_s_l2Prime) m_ (⟨o_s_l2All, o_s_l1Max, trivial⟩) Try.func98 (by kernel_rfl) k_s_l2Prime
/-! loop.example/g00959/spec.l9Ray -/
noncomputable def s_l9Ray (x0 : List Int) : Option (Bool) :=
 cond ((x0.length : Int) == (2 : Int))
 ((s_l2Small x0 (30 : Int)).bind fun v1 => cond v1
 ((s_l2All x0).bind fun v2 => some (v2 == (1 : Int)))
 (some false))
 (some false)
noncomputable def e_s_l9Ray : CallE := ⟨131, [.d false (.list (.int .i64))], [.l (.d false .bool)], fun x => s_l9Ray x⟩
noncomputable def c_s_l9Ray : Ctx := ⟨Try.prog, TT, [e_s_l2Small, e_s_l2All], [], [], [], [], []⟩
theorem k_s_l9Ray (x : PMs.den e_s_l9Ray.ps) : funK c_s_l9Ray Try.f131 e_s_l9Ray.ps e_s_l9Ray.rs x = e_s_l9Ray.F x := by kernel_rfl
theorem o_s_l9Ray : FnOk Try.prog e_s_l9Ray.f ∧ Ctr Try.prog e_s_l9Ray := mkCtr (C := c_s_l9Ray) m_ (⟨o_s_l2Small, o_s_l2All, trivial⟩) Try.func131 (by kernel_rfl) k_s_l9Ray
/-! loop.example/g00959/spec.IsCone -/
noncomputable def s_IsCone (x0 : (List Int) × (List Int)) : Option (Bool) :=
(s_l9Ray x0.1).bind fun v1 => cond v1
 ((s_l9Ray x0.2).bind fun v2 => cond v2
 ((s_l7Cross x0.1 x0.2).bind fun v3 => some (decide (v3 > (0 : Int))))
 (some false))
 (some false)
noncomputable def e_s_IsCone : CallE := ⟨100, [.d false (.prod (.list (.int .i64)) (.list (.int .i64)))], [.l (.d false .bool)], fun x => s_IsCone x⟩
noncomputable def c_s_IsCone : Ctx := ⟨Try.prog, TT, [e_s_l9Ray, e_s_l7Cross], [], [], [], [], []⟩
theorem k_s_IsCone (x : PMs.den e_s_IsCone.ps) : funK c_s_IsCone Try.f100 e_s_IsCone.ps e_s_IsCone.rs x = e_s_IsCone.F x := by kernel_rfl
theorem o_s_IsCone : FnOk Try.prog e_s_IsCone.f ∧ Ctr Try.prog e_s_IsCone := mkCtr (C := c_s_IsCone) m_ (⟨o_s_l9Ray, o_s_l7Cross, trivial⟩) Try.func100 (by kernel_rfl) k_s_IsCone
/-! loop.example/g00959/spec.CornerCone -/
noncomputable def s_CornerCone (x0 : List (List Int)) (x1 : Int) : Option ((List Int × List Int) × Bool) :=
(s_IsPolygon x0).bind fun v1 => cond (!v1)
 (some ((([] : List Int), ([] : List Int)), false))
 ((s_l1In x1 (0 : Int) (IntKind.i64.wrap ((x0.length : Int) - (1 : Int)))).bind fun v2 => cond (!v2)
 (some ((([] : List Int), ([] : List Int)), false))
 ((remI .i64 (IntKind.i64.wrap (x1 + (1 : Int))) (x0.length : Int)).bind fun v3 => (idx x0 v3).bind fun v4 => (idx x0 x1).bind fun v5 => (s_l2Less v4 v5).bind fun v6 => (s_l2Prime v6).bind fun v7 => (remI .i64 (IntKind.i64.wrap ((IntKind.i64.wrap (x1 + (x0.length : Int))) - (1 : Int))) (x0.length : Int)).bind fun v8 => (idx x0 v8).bind fun v9 => (idx x0 x1).bind fun v10 => (s_l2Less v9 v10).bind fun v11 => (s_l2Prime v11).bind fun v12 => (s_IsCone (v7, v12)).bind fun v13 => cond (!v13)
 (some ((([] : List Int), ([] : List Int)), false))
 (some ((v7, v12), true))))
noncomputable def e_s_CornerCone : CallE := ⟨59, [.d false (.list (.list (.int .i64))), .d false (.int .i64)], [.a [(.o true 3 (.int .i64)), (.o true 3 (.int .i64))], .l (.d false .bool)], fun x => s_CornerCone x.1 x.2⟩
noncomputable def c_s_CornerCone : Ctx := ⟨Try.prog, TT, [e_s_IsPolygon, e_s_l1In, e_s_l2Less, e_s_l2Prime, e_s_IsCone], [], [], [], [], []⟩
theorem k_s_CornerCone (x : PMs.den e_s_CornerCone.ps) : funK c_s_CornerCone Try.f59 e_s_CornerCone.ps e_s_CornerCone.rs x = e_s_CornerCone.F x := by kernel_rfl
theorem o_s_CornerCone : FnOk Try.prog e_s_CornerCone.f ∧ Ctr Try.prog e_s_CornerCone := mkCtr (C := c_s_CornerCone) m_ (⟨o_s_IsPolygon, o_s_l1In, o_s_l2Less, o_s_l2Prime, o_s_IsCone, trivial⟩) Try.func59 (by kernel_rfl) k_s_CornerCone
/-! loop.example/g00959/spec.ConeIndex -/
noncomputable def s_ConeIndex (x0 : (List Int) × (List Int)) : Option (Int) :=
(s_IsCone (x0.1, x0.2)).bind fun v1 => cond (!v1)
 (some (0 : Int))
 ((s_l7Cross x0.1 x0.2).bind fun v2 => some v2)
noncomputable def e_s_ConeIndex : CallE := ⟨61, [.d false (.prod (.list (.int .i64)) (.list (.int .i64)))], [.l (.d false (.int .i64))], fun x => s_ConeIndex x⟩
noncomputable def c_s_ConeIndex : Ctx := ⟨Try.prog, TT, [e_s_IsCone, e_s_l7Cross], [], [], [], [], []⟩
theorem k_s_ConeIndex (x : PMs.den e_s_ConeIndex.ps) : funK c_s_ConeIndex Try.f61 e_s_ConeIndex.ps e_s_ConeIndex.rs x = e_s_ConeIndex.F x := by kernel_rfl
theorem o_s_ConeIndex : FnOk Try.prog e_s_ConeIndex.f ∧ Ctr Try.prog e_s_ConeIndex := mkCtr (C := c_s_ConeIndex) m_ (⟨o_s_IsCone, o_s_l7Cross, trivial⟩) Try.func61 (by kernel_rfl) k_s_ConeIndex
/-! loop.example/g00959/spec.l1Bit -/
noncomputable def s_l1Bit (x0 : Bool) : Option (Int) :=
 cond x0
 (some (1 : Int))
 (some (0 : Int))
noncomputable def e_s_l1Bit : CallE := ⟨60, [.d false .bool], [.l (.d false (.int .i64))], fun x => s_l1Bit x⟩
noncomputable def c_s_l1Bit : Ctx := ⟨Try.prog, TT, [], [], [], [], [], []⟩
theorem k_s_l1Bit (x : PMs.den e_s_l1Bit.ps) : funK c_s_l1Bit Try.f60 e_s_l1Bit.ps e_s_l1Bit.rs x = e_s_l1Bit.F x := by kernel_rfl
theorem o_s_l1Bit : FnOk Try.prog e_s_l1Bit.f ∧ Ctr Try.prog e_s_l1Bit := mkCtr (C := c_s_l1Bit) m_ (trivial) Try.func60 (by kernel_rfl) k_s_l1Bit
/-! loop.example/g00959/spec.SmoothCorners -/
noncomputable def s_SmoothCorners_s3 (x0 : List (List Int)) (v1 : Int × Int) : Option ((Int × Int) ⊕ ((Int) ⊕ (Int))) :=
 cond (decide (v1.2 < (x0.length : Int)))
 ((s_CornerCone x0 v1.2).bind fun v2 => cond (!v2.2)
 (some (.inr (.inr (-1 : Int))))
 ((s_ConeIndex (v2.1.1, v2.1.2)).bind fun v3 => (s_l1Bit (v3 == (1 : Int))).bind fun v4 => some (.inl ((IntKind.i64.wrap (v1.1 + v4)), (IntKind.i64.wrap (v1.2 + (1 : Int)))))))
 (some (.inr (.inl v1.1)))
noncomputable def s_SmoothCorners (x0 : List (List Int)) : Option (Int) :=
(iter (s_SmoothCorners_s3 x0) ((0 : Int), (0 : Int))).bind fun v5 => match v5 with
 | .inl v6 => (cond ((x0.length : Int) == (0 : Int))
 (some (-1 : Int))
 (some v6))
 | .inr v7 => (some v7)
noncomputable def e_s_SmoothCorners : CallE := ⟨22, [.d false (.list (.list (.int .i64)))], [.l (.d false (.int .i64))], fun x => s_SmoothCorners x⟩
noncomputable def c_s_SmoothCorners : Ctx := ⟨Try.prog, TT, [e_s_CornerCone, e_s_ConeIndex, e_s_l1Bit], [⟨3, [(3, .l (.d false (.int .i64))), (4, .l (.d false (.int .i64)))], some (0, [(3, .l (.d false (.int .i64)))]), some [(2, .l (.d false (.int .i64)))]⟩], [], [], [], []⟩
theorem k_s_SmoothCorners (x : PMs.den e_s_SmoothCorners.ps) : funK c_s_SmoothCorners Try.f22 e_s_SmoothCorners.ps e_s_SmoothCorners.rs x = e_s_SmoothCorners.F x := by kernel_rfl
theorem o_s_SmoothCorners : FnOk Try.prog e_s_SmoothCorners.f ∧ Ctr Try.prog e_s_SmoothCorners := mkCtr (C := c_s_SmoothCorners) m_ (⟨o_s_CornerCone, o_s_ConeIndex, o_s_l1Bit, trivial⟩) Try.func22 (by kernel_rfl) k_s_SmoothCorners
/-! loop.example/g00959/impl.magnitude -/
noncomputable def i_magnitude (x0 : Int) : Option (Int) :=
 some (if (IntKind.i64.wrap (0 - x0)) > x0 then (IntKind.i64.wrap (0 - x0)) else x0)
noncomputable def e_i_magnitude : CallE := ⟨142, [.d false (.int .i64)], [.l (.d false (.int .i64))], fun x => i_magnitude x⟩
noncomputable def c_i_magnitude : Ctx := ⟨Try.prog, TT, [], [], [], [], [], []⟩
theorem k_i_magnitude (x : PMs.den e_i_magnitude.ps) : funK c_i_magnitude Try.f142 e_i_magnitude.ps e_i_magnitude.rs x = e_i_magnitude.F x := by kernel_rfl
theorem o_i_magnitude : FnOk Try.prog e_i_magnitude.f ∧ Ctr Try.prog e_i_magnitude := mkCtr (C := c_i_magnitude) m_ (trivial) Try.func142 (by kernel_rfl) k_i_magnitude
/-! loop.example/g00959/impl.divisor -/
noncomputable def i_divisor_s1 (v1 : Int × Int) : Option ((Int × Int) ⊕ (Int)) :=
 cond (v1.2 != (0 : Int))
 ((remI .i64 v1.1 v1.2).bind fun v2 => some (.inl (v1.2, v2)))
 (some (.inr v1.1))
noncomputable def i_divisor (x0 : Int) (x1 : Int) : Option (Int) :=
(iter (i_divisor_s1) (x0, x1)).bind fun v3 => (i_magnitude v3).bind fun v4 => some v4
noncomputable def e_i_divisor : CallE := ⟨137, [.d false (.int .i64), .d false (.int .i64)], [.l (.d false (.int .i64))], fun x => i_divisor x.1 x.2⟩
noncomputable def c_i_divisor : Ctx := ⟨Try.prog, TT, [e_i_magnitude], [⟨1, [(0, .l (.d false (.int .i64))), (1, .l (.d false (.int .i64)))], some (0, [(0, .l (.d false (.int .i64)))]), none⟩], [], [], [], []⟩
theorem k_i_divisor (x : PMs.den e_i_divisor.ps) : funK c_i_divisor Try.f137 e_i_divisor.ps e_i_divisor.rs x = e_i_divisor.F x := by kernel_rfl
theorem o_i_divisor : FnOk Try.prog e_i_divisor.f ∧ Ctr Try.prog e_i_divisor := mkCtr (C := c_i_divisor) m_ (⟨o_i_magnitude, trivial⟩) Try.func137 (by kernel_rfl) k_i_divisor
/-! loop.example/g00959/impl.gcdAll -/
noncomputable def i_gcdAll_s3 (x0 : List Int) (v1 : Int × Int) : Option ((Int × Int) ⊕ (Int)) :=
 cond (decide (v1.2 < (x0.length : Int)))
 ((idx x0 v1.2).bind fun v2 => (i_divisor v1.1 v2).bind fun v3 => some (.inl (v3, (IntKind.i64.wrap (v1.2 + (1 : Int))))))
 (some (.inr v1.1))
noncomputable def i_gcdAll (x0 : List Int) : Option (Int) :=
(iter (i_gcdAll_s3 x0) ((0 : Int), (0 : Int))).bind fun v4 => some v4
noncomputable def e_i_gcdAll : CallE := ⟨120, [.d false (.list (.int .i64))], [.l (.d false (.int .i64))], fun x => i_gcdAll x⟩
noncomputable def c_i_gcdAll : Ctx := ⟨Try.prog, TT, [e_i_divisor], [⟨3, [(3, .l (.d false (.int .i64))), (8, .l (.d false (.int .i64)))], some (0, [(3, .l (.d false (.int .i64)))]), none⟩], [], [], [], []⟩
theorem k_i_gcdAll (x : PMs.den e_i_gcdAll.ps) : funK c_i_gcdAll Try.f120 e_i_gcdAll.ps e_i_gcdAll.rs x = e_i_gcdAll.F x := by kernel_rfl
theorem o_i_gcdAll : FnOk Try.prog e_i_gcdAll.f ∧ Ctr Try.prog e_i_gcdAll := mkCtr (C := c_i_gcdAll) m_ (⟨o_i_divisor, trivial⟩) Try.func120 (by kernel_rfl) k_i_gcdAll
/-! loop.example/g00959/impl.GcdOf -/
noncomputable def i_GcdOf (x0 : List Int) : Option (Int) :=
(i_IsVector x0).bind fun v1 => cond (!v1)
 (some (-1 : Int))
 ((i_gcdAll x0).bind fun v2 => some v2)
noncomputable def e_i_GcdOf : CallE := ⟨132, [.d false (.list (.int .i64))], [.l (.d false (.int .i64))], fun x => i_GcdOf x⟩
noncomputable def c_i_GcdOf : Ctx := ⟨Try.prog, TT, [e_i_IsVector, e_i_gcdAll], [], [], [], [], []⟩
theorem k_i_GcdOf (x : PMs.den e_i_GcdOf.ps) : funK c_i_GcdOf Try.f132 e_i_GcdOf.ps e_i_GcdOf.rs x = e_i_GcdOf.F x := by kernel_rfl
theorem o_i_GcdOf : FnOk Try.prog e_i_GcdOf.f ∧ Ctr Try.prog e_i_GcdOf := mkCtr (C := c_i_GcdOf) m_ (⟨o_i_IsVector, o_i_gcdAll, trivial⟩) Try.func132 (by kernel_rfl) k_i_GcdOf
/-! loop.example/g00959/impl.PrimitiveOf -/
noncomputable def i_PrimitiveOf_s6 (v1 : Int) (v2 : List Int) (v3 : List Int × Int) : Option ((List Int × Int) ⊕ (List Int)) :=
 cond (decide (v3.2 < (v2.length : Int)))
 ((inIdx v3.1.length v3.2).bind fun _ => (idx v3.1 ((v3.2).toNat : Int)).bind fun v4 => (quoI .i64 v4 v1).bind fun v5 => (inIdx v3.1.length v3.2).bind fun _ => (inIdx v3.1.length ((v3.2).toNat : Int)).bind fun _ => some (.inl ((v3.1.set ((v3.2).toNat) v5), (IntKind.i64.wrap (v3.2 + (1 : Int))))))
 (some (.inr v3.1))
noncomputable def i_PrimitiveOf (x0 : List Int) : Option (List Int × Bool) :=
(i_GcdOf x0).bind fun v1 => cond (decide (v1 ≤ (0 : Int)))
 (some (([] : List Int), false))
 ((i_copyInts x0).bind fun v2 => (iter (i_PrimitiveOf_s6 v1 v2) (v2, (0 : Int))).bind fun v6 => some (v6, true))
noncomputable def e_i_PrimitiveOf : CallE := ⟨102, [.d false (.list (.int .i64))], [.l (.o true 3 (.int .i64)), .l (.d false .bool)], fun x => i_PrimitiveOf x⟩
noncomputable def c_i_PrimitiveOf : Ctx := ⟨Try.prog, TT, [e_i_GcdOf, e_i_copyInts], [⟨6, [(5, .l (.o true 3 (.int .i64))), (15, .l (.d false (.int .i64)))], some (0, [(5, .l (.o true 3 (.int .i64)))]), none⟩], [], [], [], []⟩
theorem k_i_PrimitiveOf (x : PMs.den e_i_PrimitiveOf.ps) : funK c_i_PrimitiveOf Try.f102 e_i_PrimitiveOf.ps e_i_PrimitiveOf.rs x = e_i_PrimitiveOf.F x := by kernel_rfl
theorem o_i_PrimitiveOf : FnOk Try.prog e_i_PrimitiveOf.f ∧ Ctr Try.prog e_i_PrimitiveOf := mkCtr (C := c_i_PrimitiveOf) m_ (⟨o_i_GcdOf, o_i_copyInts, trivial⟩) Try.func102 (by kernel_rfl) k_i_PrimitiveOf
/-! loop.example/g00959/impl.IsCone -/
noncomputable def i_IsCone (x0 : (List Int) × (List Int)) : Option (Bool) :=
(i_isPoint x0.1 (30 : Int)).bind fun v1 => cond v1
 ((i_isPoint x0.2 (30 : Int)).bind fun v2 => cond v2
 ((i_gcdAll x0.1).bind fun v3 => cond (v3 == (1 : Int))
 ((i_gcdAll x0.2).bind fun v4 => cond (v4 == (1 : Int))
 ((i_cross x0.1 x0.2).bind fun v5 => some (decide (v5 > (0 : Int))))
 (some false))
 (some false))
 (some false))
 (some false)
noncomputable def e_i_IsCone : CallE := ⟨104, [.d false (.prod (.list (.int .i64)) (.list (.int .i64)))], [.l (.d false .bool)], fun x => i_IsCone x⟩
noncomputable def c_i_IsCone : Ctx := ⟨Try.prog, TT, [e_i_isPoint, e_i_gcdAll, e_i_cross], [], [], [], [], []⟩
theorem k_i_IsCone (x : PMs.den e_i_IsCone.ps) : funK c_i_IsCone Try.f104 e_i_IsCone.ps e_i_IsCone.rs x = e_i_IsCone.F x := by kernel_rfl
theorem o_i_IsCone : FnOk Try.prog e_i_IsCone.f ∧ Ctr Try.prog e_i_IsCone := mkCtr (C := c_i_IsCone) m_ (⟨o_i_isPoint, o_i_gcdAll, o_i_cross, trivial⟩) Try.func104 (by kernel_rfl) k_i_IsCone
/-! loop.example/g00959/impl.CornerCone -/
noncomputable def i_CornerCone (x0 : List (List Int)) (x1 : Int) : Option ((List Int × List Int) × Bool) :=
(i_IsPolygon x0).bind fun v1 => cond (!v1)
 (some ((([] : List Int), ([] : List Int)), false))
 ((i_within x1 (0 : Int) (IntKind.i64.wrap ((x0.length : Int) - (1 : Int)))).bind fun v2 => cond (!v2)
 (some ((([] : List Int), ([] : List Int)), false))
 ((remI .i64 (IntKind.i64.wrap (x1 + (1 : Int))) (x0.length : Int)).bind fun v3 => (idx x0 v3).bind fun v4 => (idx x0 x1).bind fun v5 => (i_minus v4 v5).bind fun v6 => (i_PrimitiveOf v6).bind fun v7 => (remI .i64 (IntKind.i64.wrap ((IntKind.i64.wrap (x1 + (x0.length : Int))) - (1 : Int))) (x0.length : Int)).bind fun v8 => (idx x0 v8).bind fun v9 => (idx x0 x1).bind fun v10 => (i_minus v9 v10).bind fun v11 => (i_PrimitiveOf v11).bind fun v12 => (i_IsCone (v7.1, v12.1)).bind fun v13 => cond (!v13)
 (some ((([] : List Int), ([] : List Int)), false))
 (some ((v7.1, v12.1), true))))
noncomputable def e_i_CornerCone : CallE := ⟨62, [.d false (.list (.list (.int .i64))), .d false (.int .i64)], [.a [(.o true 3 (.int .i64)), (.o true 3 (.int .i64))], .l (.d false .bool)], fun x => i_CornerCone x.1 x.2⟩
noncomputable def c_i_CornerCone : Ctx := ⟨Try.prog, TT, [e_i_IsPolygon, e_i_within, e_i_minus, e_i_PrimitiveOf, e_i_IsCone], [], [], [], [], []⟩
theorem k_i_CornerCone (x : PMs.den e_i_CornerCone.ps) : funK c_i_CornerCone Try.f62 e_i_CornerCone.ps e_i_CornerCone.rs x = e_i_CornerCone.F x := by kernel_rfl
theorem o_i_CornerCone : FnOk Try.prog e_i_CornerCone.f ∧ Ctr Try.prog e_i_CornerCone := mkCtr (C := c_i_CornerCone) m_ (⟨o_i_IsPolygon, o_i_within, o_i_minus, o_i_PrimitiveOf, o_i_IsCone, trivial⟩) Try.func62 (by kernel_rfl) k_i_CornerCone
/-! loop.example/g00959/impl.ConeIndex -/
noncomputable def i_ConeIndex (x0 : (List Int) × (List Int)) : Option (Int) :=
(i_IsCone (x0.1, x0.2)).bind fun v1 => cond (!v1)
 (some (0 : Int))
 ((i_cross x0.1 x0.2).bind fun v2 => some v2)
noncomputable def e_i_ConeIndex : CallE := ⟨63, [.d false (.prod (.list (.int .i64)) (.list (.int .i64)))], [.l (.d false (.int .i64))], fun x => i_ConeIndex x⟩
noncomputable def c_i_ConeIndex : Ctx := ⟨Try.prog, TT, [e_i_IsCone, e_i_cross], [], [], [], [], []⟩
theorem k_i_ConeIndex (x : PMs.den e_i_ConeIndex.ps) : funK c_i_ConeIndex Try.f63 e_i_ConeIndex.ps e_i_ConeIndex.rs x = e_i_ConeIndex.F x := by kernel_rfl
theorem o_i_ConeIndex : FnOk Try.prog e_i_ConeIndex.f ∧ Ctr Try.prog e_i_ConeIndex := mkCtr (C := c_i_ConeIndex) m_ (⟨o_i_IsCone, o_i_cross, trivial⟩) Try.func63 (by kernel_rfl) k_i_ConeIndex
/-! loop.example/g00959/impl.SmoothCorners -/
noncomputable def i_SmoothCorners_s5 (x0 : List (List Int)) (v2 : Int × Int) : Option ((Int × Int) ⊕ ((Int) ⊕ (Int))) :=
 cond (decide (v2.2 < (x0.length : Int)))
 ((i_CornerCone x0 v2.2).bind fun v3 => cond (!v3.2)
 (some (.inr (.inr (-1 : Int))))
 ((i_ConeIndex (v3.1.1, v3.1.2)).bind fun v4 => cond (v4 == (1 : Int))
 (some (.inl ((IntKind.i64.wrap (v2.1 + (1 : Int))), (IntKind.i64.wrap (v2.2 + (1 : Int))))))
 (some (.inl (v2.1, (IntKind.i64.wrap (v2.2 + (1 : Int))))))))
 (some (.inr (.inl v2.1)))
noncomputable def i_SmoothCorners (x0 : List (List Int)) : Option (Int) :=
(i_IsPolygon x0).bind fun v1 => cond (!v1)
 (some (-1 : Int))
 ((iter (i_SmoothCorners_s5 x0) ((0 : Int), (0 : Int))).bind fun v5 => match v5 with
 | .inl v6 => (some v6)
 | .inr v7 => (some v7))
noncomputable def e_i_SmoothCorners : CallE := ⟨23, [.d false (.list (.list (.int .i64)))], [.l (.d false (.int .i64))], fun x => i_SmoothCorners x⟩
noncomputable def c_i_SmoothCorners : Ctx := ⟨Try.prog, TT, [e_i_IsPolygon, e_i_CornerCone, e_i_ConeIndex], [⟨5, [(3, .l (.d false (.int .i64))), (12, .l (.d false (.int .i64)))], some (0, [(3, .l (.d false (.int .i64)))]), some [(2, .l (.d false (.int .i64)))]⟩], [], [], [], []⟩
theorem k_i_SmoothCorners (x : PMs.den e_i_SmoothCorners.ps) : funK c_i_SmoothCorners Try.f23 e_i_SmoothCorners.ps e_i_SmoothCorners.rs x = e_i_SmoothCorners.F x := by kernel_rfl
theorem o_i_SmoothCorners : FnOk Try.prog e_i_SmoothCorners.f ∧ Ctr Try.prog e_i_SmoothCorners := mkCtr (C := c_i_SmoothCorners) m_ (⟨o_i_IsPolygon, o_i_CornerCone, o_i_ConeIndex, trivial⟩) Try.func23 (by kernel_rfl) k_i_SmoothCorners
/-! loop.example/g00959/laws.FnExactSmoothCorners -/
noncomputable def w_FnExactSmoothCorners (x0 : List (List Int)) : Option (Bool) :=
(w_szIntSS x0 (1048576 : Int)).bind fun v1 => cond (decide (v1 < (0 : Int)))
 (some true)
 ((w_toIntSS x0).bind fun v2 => (s_SmoothCorners v2).bind fun v3 => (w_toIntSS x0).bind fun v4 => (i_SmoothCorners v4).bind fun v5 => cond (v5 != v3)
 (some false)
 ((w_toIntSS x0).bind fun v6 => (w_eqIntSS v4 v6).bind fun v7 => cond (!v7)
 (some false)
 (some true)))
noncomputable def e_w_FnExactSmoothCorners : CallE := ⟨6, [.d false (.list (.list (.int .i64)))], [.l (.d false .bool)], fun x => w_FnExactSmoothCorners x⟩
noncomputable def c_w_FnExactSmoothCorners : Ctx := ⟨Try.prog, TT, [e_w_szIntSS, e_w_toIntSS, e_s_SmoothCorners, e_i_SmoothCorners, e_w_eqIntSS], [], [], [], [], []⟩
theorem k_w_FnExactSmoothCorners (x : PMs.den e_w_FnExactSmoothCorners.ps) : funK c_w_FnExactSmoothCorners Try.f6 e_w_FnExactSmoothCorners.ps e_w_FnExactSmoothCorners.rs x = e_w_FnExactSmoothCorners.F x := by kernel_rfl
theorem o_w_FnExactSmoothCorners : FnOk Try.prog e_w_FnExactSmoothCorners.f ∧ Ctr Try.prog e_w_FnExactSmoothCorners := mkCtr (C := c_w_FnExactSmoothCorners) m_ (⟨o_w_szIntSS, o_w_toIntSS, o_s_SmoothCorners, o_i_SmoothCorners, o_w_eqIntSS, trivial⟩) Try.func6 (by kernel_rfl) k_w_FnExactSmoothCorners
/-! loop.example/g00959/spec.l7Area -/
noncomputable def s_l7Area_s3 (x0 : List (List Int)) (v1 : Int × Int) : Option ((Int × Int) ⊕ (Int)) :=
 cond (decide (v1.2 < (x0.length : Int)))
 ((idx x0 v1.2).bind fun v2 => (remI .i64 (IntKind.i64.wrap (v1.2 + (1 : Int))) (x0.length : Int)).bind fun v3 => (idx x0 v3).bind fun v4 => (s_l7Cross v2 v4).bind fun v5 => some (.inl ((IntKind.i64.wrap (v1.1 + v5)), (IntKind.i64.wrap (v1.2 + (1 : Int))))))
 (some (.inr v1.1))
noncomputable def s_l7Area (x0 : List (List Int)) : Option (Int) :=
(iter (s_l7Area_s3 x0) ((0 : Int), (0 : Int))).bind fun v6 => some v6
noncomputable def e_s_l7Area : CallE := ⟨64, [.d false (.list (.list (.int .i64)))], [.l (.d false (.int .i64))], fun x => s_l7Area x⟩
noncomputable def c_s_l7Area : Ctx := ⟨Try.prog, TT, [e_s_l7Cross], [⟨3, [(3, .l (.d false (.int .i64))), (4, .l (.d false (.int .i64)))], some (0, [(3, .l (.d false (.int .i64)))]), none⟩], [], [], [], []⟩
theorem k_s_l7Area (x : PMs.den e_s_l7Area.ps) : funK c_s_l7Area Try.f64 e_s_l7Area.ps e_s_l7Area.rs x = e_s_l7Area.F x := by kernel_rfl
theorem o_s_l7Area : FnOk Try.prog e_s_l7Area.f ∧ Ctr Try.prog e_s_l7Area := mkCtr (C := c_s_l7Area) m_ (⟨o_s_l7Cross, trivial⟩) Try.func64 (by kernel_rfl) k_s_l7Area
/-! loop.example/g00959/spec.l7Place -/
noncomputable def s_l7Place_s3 (x0 : List (List Int)) (x1 : List Int) (v1 : Int × Int) : Option ((Int × Int) ⊕ ((Int) ⊕ (Int))) :=
 cond (decide (v1.2 < (x0.length : Int)))
 ((idx x0 v1.2).bind fun v2 => (remI .i64 (IntKind.i64.wrap (v1.2 + (1 : Int))) (x0.length : Int)).bind fun v3 => (idx x0 v3).bind fun v4 => (s_l7Turn v2 v4 x1).bind fun v5 => cond (decide (v5 < (0 : Int)))
 (some (.inr (.inr (-1 : Int))))
 (cond (v5 == (0 : Int))
 (some (.inl ((0 : Int), (IntKind.i64.wrap (v1.2 + (1 : Int))))))
 (some (.inl (v1.1, (IntKind.i64.wrap (v1.2 + (1 : Int))))))))
 (some (.inr (.inl v1.1)))
noncomputable def s_l7Place (x0 : List (List Int)) (x1 : List Int) : Option (Int) :=
(iter (s_l7Place_s3 x0 x1) ((1 : Int), (0 : Int))).bind fun v6 => match v6 with
 | .inl v7 => (some v7)
 | .inr v8 => (some v8)
noncomputable def e_s_l7Place : CallE := ⟨107, [.d false (.list (.list (.int .i64))), .d false (.list (.int .i64))], [.l (.d false (.int .i64))], fun x => s_l7Place x.1 x.2⟩
noncomputable def c_s_l7Place : Ctx := ⟨Try.prog, TT, [e_s_l7Turn], [⟨3, [(5, .l (.d false (.int .i64))), (6, .l (.d false (.int .i64)))], some (0, [(5, .l (.d false (.int .i64)))]), some [(4, .l (.d false (.int .i64)))]⟩], [], [], [], []⟩
theorem k_s_l7Place (x : PMs.den e_s_l7Place.ps) : funK c_s_l7Place Try.f107 e_s_l7Place.ps e_s_l7Place.rs x = e_s_l7Place.F x := by kernel_rfl
theorem o_s_l7Place : FnOk Try.prog e_s_l7Place.f ∧ Ctr Try.prog e_s_l7Place := mkCtr (C := c_s_l7Place) m_ (⟨o_s_l7Turn, trivial⟩) Try.func107 (by kernel_rfl) k_s_l7Place
/-! loop.example/g00959/spec.l7Points -/
noncomputable def s_l7Points_s6 (x0 : List (List Int)) (v7 : List (List Int) × Int × Int × Int × Int) : Option ((List (List Int) × Int × Int × Int × Int) ⊕ (List (List Int) × Int × Int × Int)) :=
 cond (decide (v7.2.2.2.2 < (x0.length : Int)))
 ((idx x0 v7.2.2.2.2).bind fun v8 => (idx v8 (1 : Int)).bind fun v9 => (s_l1Min v7.2.1 v9).bind fun v10 => (idx x0 v7.2.2.2.2).bind fun v11 => (idx v11 (1 : Int)).bind fun v12 => (s_l1Max v7.2.2.1 v12).bind fun v13 => (idx x0 v7.2.2.2.2).bind fun v14 => (idx v14 (0 : Int)).bind fun v15 => (s_l1Max v7.2.2.2.1 v15).bind fun v16 => some (.inl (v7.1, (v10, (v13, (v16, (IntKind.i64.wrap (v7.2.2.2.2 + (1 : Int)))))))))
 (some (.inr (v7.1, (v7.2.1, (v7.2.2.1, v7.2.2.2.1)))))
noncomputable def s_l7Points_s15 (x0 : List (List Int)) (v17 : List (List Int) × Int × Int × Int) (v20 : List (List Int) × Int) (v21 : List (List Int) × Int) : Option ((List (List Int) × Int) ⊕ (List (List Int))) :=
 cond (decide (v21.2 ≤ v17.2.2.1))
 ((s_l7Place x0 ([v20.2, v21.2] : List Int)).bind fun v22 => cond (decide (v22 ≥ (0 : Int)))
 ((appD 24 v21.1 ([([v20.2, v21.2] : List Int)] : List (List Int))).bind fun v23 => some (.inl (v23, (IntKind.i64.wrap (v21.2 + (1 : Int))))))
 (some (.inl (v21.1, (IntKind.i64.wrap (v21.2 + (1 : Int)))))))
 (some (.inr v21.1))
noncomputable def s_l7Points_s12 (x0 : List (List Int)) (v17 : List (List Int) × Int × Int × Int) (v20 : List (List Int) × Int) : Option ((List (List Int) × Int) ⊕ (List (List Int))) :=
 cond (decide (v20.2 ≤ v17.2.2.2))
 ((iter (s_l7Points_s15 x0 v17 v20) (v20.1, v17.2.1)).bind fun v24 => some (.inl (v24, (IntKind.i64.wrap (v20.2 + (1 : Int))))))
 (some (.inr v20.1))
noncomputable def s_l7Points (x0 : List (List Int)) : Option (List (List Int)) :=
(idx x0 (0 : Int)).bind fun v1 => (idx v1 (1 : Int)).bind fun v2 => (idx x0 (0 : Int)).bind fun v3 => (idx v3 (1 : Int)).bind fun v4 => (idx x0 (0 : Int)).bind fun v5 => (idx v5 (0 : Int)).bind fun v6 => (iter (s_l7Points_s6 x0) (([] : List (List Int)), (v2, (v4, (v6, (0 : Int)))))).bind fun v17 => (idx x0 (0 : Int)).bind fun v18 => (idx v18 (0 : Int)).bind fun v19 => (iter (s_l7Points_s12 x0 v17) (v17.1, v19)).bind fun v25 => some v25
noncomputable def e_s_l7Points : CallE := ⟨67, [.d false (.list (.list (.int .i64)))], [.l (.o true 23 (.list (.int .i64)))], fun x => s_l7Points x⟩
noncomputable def c_s_l7Points : Ctx := ⟨Try.prog, TT, [e_s_l1Min, e_s_l1Max, e_s_l7Place], [⟨6, [(3, .l (.o true 23 (.list (.int .i64)))), (4, .l (.d false (.int .i64))), (5, .l (.d false (.int .i64))), (6, .l (.d false (.int .i64))), (7, .l (.d false (.int .i64)))], some (0, [(3, .l (.o true 23 (.list (.int .i64)))), (4, .l (.d false (.int .i64))), (5, .l (.d false (.int .i64))), (6, .l (.d false (.int .i64)))]), none⟩, ⟨12, [(3, .l (.o true 23 (.list (.int .i64)))), (8, .l (.d false (.int .i64)))], some (2, [(3, .l (.o true 23 (.list (.int .i64))))]), none⟩, ⟨15, [(3, .l (.o true 23 (.list (.int .i64)))), (9, .l (.d false (.int .i64)))], some (4, [(3, .l (.o true 23 (.list (.int .i64))))]), none⟩], [], [], [], []⟩
theorem k_s_l7Points (x : PMs.den e_s_l7Points.ps) : funK c_s_l7Points Try.f67 e_s_l7Points.ps e_s_l7Points.rs x = e_s_l7Points.F x := by kernel_rfl
theorem o_s_l7Points : FnOk Try.prog e_s_l7Points.f ∧ Ctr Try.prog e_s_l7Points := mkCtr (C := c_s_l7Points) m_ (⟨o_s_l1Min, o_s_l1Max, o_s_l7Place, trivial⟩) Try.func67 (by kernel_rfl) k_s_l7Points
/-! loop.example/g00959/spec.LayersOf -/
noncomputable def s_LayersOf_s7 (x1 : List Int) (v4 : Int × Int) (v6 : List (List Int)) (v7 : List Int × Int) : Option ((List Int × Int) ⊕ (List Int)) :=
 cond (decide (v7.2 < (v6.length : Int)))
 ((idx v6 v7.2).bind fun v8 => (s_l2Dot x1 v8).bind fun v9 => (inIdx v7.1.length (IntKind.i64.wrap (v9 - v4.2))).bind fun _ => (idx v7.1 (((IntKind.i64.wrap (v9 - v4.2))).toNat : Int)).bind fun v10 => (inIdx v7.1.length (IntKind.i64.wrap (v9 - v4.2))).bind fun _ => (inIdx v7.1.length (((IntKind.i64.wrap (v9 - v4.2))).toNat : Int)).bind fun _ => some (.inl ((v7.1.set (((IntKind.i64.wrap (v9 - v4.2))).toNat) (IntKind.i64.wrap (v10 + (1 : Int)))), (IntKind.i64.wrap (v7.2 + (1 : Int))))))
 (some (.inr v7.1))
noncomputable def s_LayersOf (x0 : List (List Int)) (x1 : List Int) : Option (List Int) :=
(s_IsPolygon x0).bind fun v1 => cond (!v1)
 (some ([] : List Int))
 ((s_l7Area x0).bind fun v2 => cond (decide (v2 > (2000 : Int)))
 (some ([] : List Int))
 (cond ((x1.length : Int) != (2 : Int))
 (some ([] : List Int))
 ((s_l2Small x1 (12 : Int)).bind fun v3 => cond (!v3)
 (some ([] : List Int))
 ((s_l25Range x0 x1).bind fun v4 => (mkD 8 (IntKind.i64.wrap ((IntKind.i64.wrap (v4.1 - v4.2)) + (1 : Int))) (0 : Int)).bind fun v5 => (s_l7Points x0).bind fun v6 => (iter (s_LayersOf_s7 x1 v4 v6) (v5, (0 : Int))).bind fun v11 => some v11))))
noncomputable def e_s_LayersOf : CallE := ⟨24, [.d false (.list (.list (.int .i64))), .d false (.list (.int .i64))], [.l (.o true 3 (.int .i64))], fun x => s_LayersOf x.1 x.2⟩
noncomputable def c_s_LayersOf : Ctx := ⟨Try.prog, TT, [e_s_IsPolygon, e_s_l7Area, e_s_l2Small, e_s_l25Range, e_s_l7Points, e_s_l2Dot], [⟨7, [(7, .l (.o true 3 (.int .i64))), (9, .l (.d false (.int .i64)))], some (0, [(7, .l (.o true 3 (.int .i64)))]), none⟩], [], [], [], []⟩
theorem k_s_LayersOf (x : PMs.den e_s_LayersOf.ps) : funK c_s_LayersOf Try.f24 e_s_LayersOf.ps e_s_LayersOf.rs x = e_s_LayersOf.F x := by kernel_rfl
theorem o_s_LayersOf : FnOk Try.prog e_s_LayersOf.f ∧ Ctr Try.prog e_s_LayersOf := mkCtr (C := c_s_LayersOf) m_ (⟨o_s_IsPolygon, o_s_l7Area, o_s_l2Small, o_s_l25Range, o_s_l7Points, o_s_l2Dot, trivial⟩) Try.func24 (by kernel_rfl) k_s_LayersOf
/-! loop.example/g00959/impl.areaTwice -/
noncomputable def i_areaTwice_s3 (x0 : List (List Int)) (v1 : Int × Int) : Option ((Int × Int) ⊕ (Int)) :=
 cond (decide (v1.2 < (x0.length : Int)))
 ((idx x0 v1.2).bind fun v2 => (remI .i64 (IntKind.i64.wrap (v1.2 + (1 : Int))) (x0.length : Int)).bind fun v3 => (idx x0 v3).bind fun v4 => (i_cross v2 v4).bind fun v5 => some (.inl ((IntKind.i64.wrap (v1.1 + v5)), (IntKind.i64.wrap (v1.2 + (1 : Int))))))
 (some (.inr v1.1))
noncomputable def i_areaTwice (x0 : List (List Int)) : Option (Int) :=
(iter (i_areaTwice_s3 x0) ((0 : Int), (0 : Int))).bind fun v6 => some v6
noncomputable def e_i_areaTwice : CallE := ⟨133, [.d false (.list (.list (.int .i64)))], [.l (.d false (.int .i64))], fun x => i_areaTwice x⟩
noncomputable def c_i_areaTwice : Ctx := ⟨Try.prog, TT, [e_i_cross], [⟨3, [(3, .l (.d false (.int .i64))), (8, .l (.d false (.int .i64)))], some (0, [(3, .l (.d false (.int .i64)))]), none⟩], [], [], [], []⟩
theorem k_i_areaTwice (x : PMs.den e_i_areaTwice.ps) : funK c_i_areaTwice Try.f133 e_i_areaTwice.ps e_i_areaTwice.rs x = e_i_areaTwice.F x := by kernel_rfl
theorem o_i_areaTwice : FnOk Try.prog e_i_areaTwice.f ∧ Ctr Try.prog e_i_areaTwice := mkCtr (C := c_i_areaTwice) m_ (⟨o_i_cross, trivial⟩) Try.func133 (by kernel_rfl) k_i_areaTwice
/-! loop.example/g00959/impl.AreaTwice -/
noncomputable def i_AreaTwice (x0 : List (List Int)) : Option (Int) :=
(i_IsPolygon x0).bind fun v1 => cond (!v1)
 (some (-1 : Int))
 ((i_areaTwice x0).bind fun v2 => some v2)
noncomputable def e_i_AreaTwice : CallE := ⟨108, [.d false (.list (.list (.int .i64)))], [.l (.d false (.int .i64))], fun x => i_AreaTwice x⟩
noncomputable def c_i_AreaTwice : Ctx := ⟨Try.prog, TT, [e_i_IsPolygon, e_i_areaTwice], [], [], [], [], []⟩
theorem k_i_AreaTwice (x : PMs.den e_i_AreaTwice.ps) : funK c_i_AreaTwice Try.f108 e_i_AreaTwice.ps e_i_AreaTwice.rs x = e_i_AreaTwice.F x := by kernel_rfl
theorem o_i_AreaTwice : FnOk Try.prog e_i_AreaTwice.f ∧ Ctr Try.prog e_i_AreaTwice := mkCtr (C := c_i_AreaTwice) m_ (⟨o_i_IsPolygon, o_i_areaTwice, trivial⟩) Try.func108 (by kernel_rfl) k_i_AreaTwice
/-! loop.example/g00959/impl.placeOf -/
noncomputable def i_placeOf_s3 (x0 : List (List Int)) (x1 : List Int) (v1 : Int × Int) : Option ((Int × Int) ⊕ ((Int) ⊕ (Int))) :=
 cond (decide (v1.2 < (x0.length : Int)))
 ((idx x0 v1.2).bind fun v2 => (remI .i64 (IntKind.i64.wrap (v1.2 + (1 : Int))) (x0.length : Int)).bind fun v3 => (idx x0 v3).bind fun v4 => (i_turn v2 v4 x1).bind fun v5 => cond (decide (v5 < (0 : Int)))
 (some (.inr (.inr (-1 : Int))))
 (cond (v5 == (0 : Int))
 (some (.inl ((0 : Int), (IntKind.i64.wrap (v1.2 + (1 : Int))))))
 (some (.inl (v1.1, (IntKind.i64.wrap (v1.2 + (1 : Int))))))))
 (some (.inr (.inl v1.1)))
noncomputable def i_placeOf (x0 : List (List Int)) (x1 : List Int) : Option (Int) :=
(iter (i_placeOf_s3 x0 x1) ((1 : Int), (0 : Int))).bind fun v6 => match v6 with
 | .inl v7 => (some v7)
 | .inr v8 => (some v8)
noncomputable def e_i_placeOf : CallE := ⟨110, [.d false (.list (.list (.int .i64))), .d false (.list (.int .i64))], [.l (.d false (.int .i64))], fun x => i_placeOf x.1 x.2⟩
noncomputable def c_i_placeOf : Ctx := ⟨Try.prog, TT, [e_i_turn], [⟨3, [(5, .l (.d false (.int .i64))), (11, .l (.d false (.int .i64)))], some (0, [(5, .l (.d false (.int .i64)))]), some [(4, .l (.d false (.int .i64)))]⟩], [], [], [], []⟩
theorem k_i_placeOf (x : PMs.den e_i_placeOf.ps) : funK c_i_placeOf Try.f110 e_i_placeOf.ps e_i_placeOf.rs x = e_i_placeOf.F x := by kernel_rfl
theorem o_i_placeOf : FnOk Try.prog e_i_placeOf.f ∧ Ctr Try.prog e_i_placeOf := mkCtr (C := c_i_placeOf) m_ (⟨o_i_turn, trivial⟩) Try.func110 (by kernel_rfl) k_i_placeOf
/-! loop.example/g00959/impl.PolygonPoints -/
noncomputable def i_PolygonPoints_s8 (v7 : List Int × List Int × Int) (v8 : List Int) (v9 : List Int × List Int × Int) : Option ((List Int × List Int × Int) ⊕ (List Int × List Int)) :=
 cond (decide (v9.2.2 < (v7.1.length : Int)))
 ((inIdx v9.1.length v9.2.2).bind fun _ => (idx v9.1 ((v9.2.2).toNat : Int)).bind fun v10 => (idx v8 v9.2.2).bind fun v11 => (inIdx v9.2.1.length v9.2.2).bind fun _ => (idx v9.2.1 ((v9.2.2).toNat : Int)).bind fun v12 => (idx v8 v9.2.2).bind fun v13 => (inIdx v9.1.length v9.2.2).bind fun _ => (inIdx v9.1.length ((v9.2.2).toNat : Int)).bind fun _ => (inIdx v9.2.1.length v9.2.2).bind fun _ => (inIdx v9.2.1.length ((v9.2.2).toNat : Int)).bind fun _ => some (.inl ((v9.1.set ((v9.2.2).toNat) (if v11 < v10 then v11 else v10)), ((v9.2.1.set ((v9.2.2).toNat) (if v13 > v12 then v13 else v12)), (IntKind.i64.wrap (v9.2.2 + (1 : Int)))))))
 (some (.inr (v9.1, v9.2.1)))
noncomputable def i_PolygonPoints_s5 (x0 : List (List Int)) (v7 : List Int × List Int × Int) : Option ((List Int × List Int × Int) ⊕ (List Int × List Int)) :=
 cond (decide (v7.2.2 < (x0.length : Int)))
 ((idx x0 v7.2.2).bind fun v8 => (iter (i_PolygonPoints_s8 v7 v8) (v7.1, (v7.2.1, (0 : Int)))).bind fun v14 => some (.inl (v14.1, (v14.2, (IntKind.i64.wrap (v7.2.2 + (1 : Int)))))))
 (some (.inr (v7.1, v7.2.1)))
noncomputable def i_PolygonPoints_s15 (x0 : List (List Int)) (v16 : List (List Int)) (v17 : List (List Int) × Int) : Option ((List (List Int) × Int) ⊕ (List (List Int))) :=
 cond (decide (v17.2 < (v16.length : Int)))
 ((idx v16 v17.2).bind fun v18 => (i_placeOf x0 v18).bind fun v19 => cond (decide (v19 ≥ (0 : Int)))
 ((appD 24 v17.1 ([v18] : List (List Int))).bind fun v20 => some (.inl (v20, (IntKind.i64.wrap (v17.2 + (1 : Int))))))
 (some (.inl (v17.1, (IntKind.i64.wrap (v17.2 + (1 : Int)))))))
 (some (.inr v17.1))
noncomputable def i_PolygonPoints (x0 : List (List Int)) : Option (List (List Int)) :=
(i_IsPolygon x0).bind fun v1 => cond (!v1)
 (some ([] : List (List Int)))
 ((i_AreaTwice x0).bind fun v2 => cond (decide (v2 > (2000 : Int)))
 (some ([] : List (List Int)))
 ((idx x0 (0 : Int)).bind fun v3 => (i_copyInts v3).bind fun v4 => (idx x0 (0 : Int)).bind fun v5 => (i_copyInts v5).bind fun v6 => (iter (i_PolygonPoints_s5 x0) (v4, (v6, (0 : Int)))).bind fun v15 => (i_lattice v15.1 v15.2).bind fun v16 => (iter (i_PolygonPoints_s15 x0 v16) (([] : List (List Int)), (0 : Int))).bind fun v21 => some v21))
noncomputable def e_i_PolygonPoints : CallE := ⟨68, [.d false (.list (.list (.int .i64)))], [.l (.o false 23 (.list (.int .i64)))], fun x => i_PolygonPoints x⟩
noncomputable def c_i_PolygonPoints : Ctx := ⟨Try.prog, TT, [e_i_IsPolygon, e_i_AreaTwice, e_i_copyInts, e_i_lattice, e_i_placeOf], [⟨5, [(3, .l (.o true 3 (.int .i64))), (4, .l (.o true 3 (.int .i64))), (29, .l (.d false (.int .i64)))], some (0, [(3, .l (.o true 3 (.int .i64))), (4, .l (.o true 3 (.int .i64)))]), none⟩, ⟨8, [(3, .l (.o true 3 (.int .i64))), (4, .l (.o true 3 (.int .i64))), (35, .l (.d false (.int .i64)))], some (2, [(3, .l (.o true 3 (.int .i64))), (4, .l (.o true 3 (.int .i64)))]), none⟩, ⟨15, [(8, .l (.o false 23 (.list (.int .i64)))), (68, .l (.d false (.int .i64)))], some (4, [(8, .l (.o false 23 (.list (.int .i64))))]), none⟩], [], [], [], [(10, [0, 1, 2, 3, 4, 5, 8, 9, 13, 14, 17, 18, 6, 7, 10, 11, 12, 15, 16, 19, 20, 21, 22, 23, 24, 25])]⟩
theorem k_i_PolygonPoints (x : PMs.den e_i_PolygonPoints.ps) : funK c_i_PolygonPoints Try.f68 e_i_PolygonPoints.ps e_i_PolygonPoints.rs x = e_i_PolygonPoints.F x := by kernel_rfl
theorem o_i_PolygonPoints : FnOk Try.prog e_i_PolygonPoints.f ∧ Ctr Try.prog e_i_PolygonPoints := mkCtr (C := c_i_PolygonPoints) m_ (⟨o_i_IsPolygon, o_i_AreaTwice, o_i_copyInts, o_i_lattice, o_i_placeOf, trivial⟩) Try.func68 (by kernel_rfl) k_i_PolygonPoints
/-! loop.example/g00959/impl.LayersOf -/
noncomputable def i_LayersOf_s7 (x1 : List Int) (v1 : List (List Int)) (v7 : Int) (v8 : List Int × Int) : Option ((List Int × Int) ⊕ (List Int)) :=
 cond (decide (v8.2 < (v1.length : Int)))
 ((idx v1 v8.2).bind fun v9 => (i_dot x1 v9).bind fun v10 => (inIdx v8.1.length (IntKind.i64.wrap (v10 - (IntKind.i64.wrap (0 - v7))))).bind fun _ => (idx v8.1 (((IntKind.i64.wrap (v10 - (IntKind.i64.wrap (0 - v7))))).toNat : Int)).bind fun v11 => (inIdx v8.1.length (IntKind.i64.wrap (v10 - (IntKind.i64.wrap (0 - v7))))).bind fun _ => (inIdx v8.1.length (((IntKind.i64.wrap (v10 - (IntKind.i64.wrap (0 - v7))))).toNat : Int)).bind fun _ => some (.inl ((v8.1.set (((IntKind.i64.wrap (v10 - (IntKind.i64.wrap (0 - v7))))).toNat) (IntKind.i64.wrap (v11 + (1 : Int)))), (IntKind.i64.wrap (v8.2 + (1 : Int))))))
 (some (.inr v8.1))
noncomputable def i_LayersOf (x0 : List (List Int)) (x1 : List Int) : Option (List Int) :=
(i_PolygonPoints x0).bind fun v1 => (nneD v1).bind fun _ => (i_isPoint x1 (12 : Int)).bind fun v2 => cond (!v2)
 (some ([] : List Int))
 ((i_WidthIn x0 x1).bind fun v3 => (mkD 8 (IntKind.i64.wrap (v3 + (1 : Int))) (0 : Int)).bind fun v4 => (idx x1 (0 : Int)).bind fun v5 => (idx x1 (1 : Int)).bind fun v6 => (i_support x0 ([(IntKind.i64.wrap (0 - v5)), (IntKind.i64.wrap (0 - v6))] : List Int)).bind fun v7 => (iter (i_LayersOf_s7 x1 v1 v7) (v4, (0 : Int))).bind fun v12 => some v12)
noncomputable def e_i_LayersOf : CallE := ⟨25, [.d false (.list (.list (.int .i64))), .d false (.list (.int .i64))], [.l (.o true 3 (.int .i64))], fun x => i_LayersOf x.1 x.2⟩
noncomputable def c_i_LayersOf : Ctx := ⟨Try.prog, TT, [e_i_PolygonPoints, e_i_isPoint, e_i_WidthIn, e_i_support, e_i_dot], [⟨7, [(6, .l (.o true 3 (.int .i64))), (38, .l (.d false (.int .i64)))], some (0, [(6, .l (.o true 3 (.int .i64)))]), none⟩], [], [], [], []⟩
theorem k_i_LayersOf (x : PMs.den e_i_LayersOf.ps) : funK c_i_LayersOf Try.f25 e_i_LayersOf.ps e_i_LayersOf.rs x = e_i_LayersOf.F x := by kernel_rfl
theorem o_i_LayersOf : FnOk Try.prog e_i_LayersOf.f ∧ Ctr Try.prog e_i_LayersOf := mkCtr (C := c_i_LayersOf) m_ (⟨o_i_PolygonPoints, o_i_isPoint, o_i_WidthIn, o_i_support, o_i_dot, trivial⟩) Try.func25 (by kernel_rfl) k_i_LayersOf
/-! loop.example/g00959/laws.markIntS -/
noncomputable def w_markIntS_s2 (v1 : List Int × Int × Int) : Option ((List Int × Int × Int) ⊕ (List Int × Int)) :=
 cond (decide (v1.2.2 < (v1.1.length : Int)))
 ((inIdx v1.1.length v1.2.2).bind fun _ => (inIdx v1.1.length ((v1.2.2).toNat : Int)).bind fun _ => some (.inl ((v1.1.set ((v1.2.2).toNat) v1.2.1), ((IntKind.i64.wrap (v1.2.1 + (1 : Int))), (IntKind.i64.wrap (v1.2.2 + (1 : Int)))))))
 (some (.inr (v1.1, v1.2.1)))
noncomputable def w_markIntS (x0 : List Int) (x1 : Int) : Option ((Int) × (List Int) × Unit) :=
(iter (w_markIntS_s2) (x0, (x1, (0 : Int)))).bind fun v2 => some (v2.2, (v2.1, ()))
noncomputable def e_w_markIntS : CallE := ⟨27, [.io true 3 (.int .i64), .d false (.int .i64)], [.l (.d false (.int .i64))], fun x => w_markIntS x.1 x.2⟩
noncomputable def c_w_markIntS : Ctx := ⟨Try.prog, TT, [], [⟨2, [(0, .l (.o true 3 (.int .i64))), (1, .l (.d false (.int .i64))), (5, .l (.d false (.int .i64)))], some (0, [(0, .l (.o true 3 (.int .i64))), (1, .l (.d false (.int .i64)))]), none⟩], [], [], [], []⟩
theorem k_w_markIntS (x : PMs.den e_w_markIntS.ps) : funK c_w_markIntS Try.f27 e_w_markIntS.ps e_w_markIntS.rs x = e_w_markIntS.F x := by kernel_rfl
theorem o_w_markIntS : FnOk Try.prog e_w_markIntS.f ∧ Ctr Try.prog e_w_markIntS := mkCtr (C := c_w_markIntS) m_ (trivial) Try.func27 (by kernel_rfl) k_w_markIntS
/-! loop.example/g00959/spec.l20Area -/
noncomputable def s_l20Area (x0 : List (List Int)) : Option (Int) :=
(idx x0 (0 : Int)).bind fun v1 => (idx x0 (1 : Int)).bind fun v2 => (idx x0 (2 : Int)).bind fun v3 => (s_l7Turn v1 v2 v3).bind fun v4 => some v4
noncomputable def e_s_l20Area : CallE := ⟨72, [.d false (.list (.list (.int .i64)))], [.l (.d false (.int .i64))], fun x => s_l20Area x⟩
noncomputable def c_s_l20Area : Ctx := ⟨Try.prog, TT, [e_s_l7Turn], [], [], [], [], []⟩
theorem k_s_l20Area (x : PMs.den e_s_l20Area.ps) : funK c_s_l20Area Try.f72 e_s_l20Area.ps e_s_l20Area.rs x = e_s_l20Area.F x := by kernel_rfl
theorem o_s_l20Area : FnOk Try.prog e_s_l20Area.f ∧ Ctr Try.prog e_s_l20Area := mkCtr (C := c_s_l20Area) m_ (⟨o_s_l7Turn, trivial⟩) Try.func72 (by kernel_rfl) k_s_l20Area
/-! loop.example/g00959/spec.l20Other -/
noncomputable def s_l20Other_s5 (x0 : List (List Int)) (v8 : List (List Int)) (v9 : Int) : Option ((Int) ⊕ ((Unit) ⊕ (List Int × Bool))) :=
 cond (decide (v9 < (v8.length : Int)))
 ((idx v8 v9).bind fun v10 => (idx x0 (0 : Int)).bind fun v11 => (s_l2Same v10 v11).bind fun v12 => cond (!v12)
 ((idx v8 v9).bind fun v13 => (idx x0 (1 : Int)).bind fun v14 => (s_l2Same v13 v14).bind fun v15 => cond (!v15)
 ((idx v8 v9).bind fun v16 => (idx x0 (2 : Int)).bind fun v17 => (s_l2Same v16 v17).bind fun v18 => cond (!v18)
 ((idx v8 v9).bind fun v19 => some (.inr (.inr (v19, true))))
 (some (.inl (IntKind.i64.wrap (v9 + (1 : Int))))))
 (some (.inl (IntKind.i64.wrap (v9 + (1 : Int))))))
 (some (.inl (IntKind.i64.wrap (v9 + (1 : Int))))))
 (some (.inr (.inl ())))
noncomputable def s_l20Other (x0 : List (List Int)) : Option (List Int × Bool) :=
(idx x0 (0 : Int)).bind fun v1 => (s_l2Put ([] : List (List Int)) v1).bind fun v2 => (idx x0 (1 : Int)).bind fun v3 => (s_l2Put v2 v3).bind fun v4 => (idx x0 (2 : Int)).bind fun v5 => (s_l2Put v4 v5).bind fun v6 => (s_l7Hull v6).bind fun v7 => (s_l7Points v7).bind fun v8 => (iter (s_l20Other_s5 x0 v8) (0 : Int)).bind fun v20 => match v20 with
 | .inl v21 => (some (([] : List Int), false))
 | .inr v22 => (some (v22.1, v22.2))
noncomputable def e_s_l20Other : CallE := ⟨73, [.d false (.list (.list (.int .i64)))], [.l (.d false (.list (.int .i64))), .l (.d false .bool)], fun x => s_l20Other x⟩
noncomputable def c_s_l20Other : Ctx := ⟨Try.prog, TT, [e_s_l2Put, e_s_l7Hull, e_s_l7Points, e_s_l2Same], [⟨5, [(7, .l (.d false (.int .i64)))], some (0, []), some [(2, .l (.d false (.list (.int .i64)))), (3, .l (.d false .bool))]⟩], [], [], [], []⟩
theorem k_s_l20Other (x : PMs.den e_s_l20Other.ps) : funK c_s_l20Other Try.f73 e_s_l20Other.ps e_s_l20Other.rs x = e_s_l20Other.F x := by kernel_rfl
theorem o_s_l20Other : FnOk Try.prog e_s_l20Other.f ∧ Ctr Try.prog e_s_l20Other := mkCtr (C := c_s_l20Other) m_ (⟨o_s_l2Put, o_s_l7Hull, o_s_l7Points, o_s_l2Same, trivial⟩) Try.func73 (by kernel_rfl) k_s_l20Other
/-! loop.example/g00959/spec.IsEmptyTriangle -/
noncomputable def s_IsEmptyTriangle (x0 : List (List Int)) : Option (Bool) :=
 cond ((x0.length : Int) != (3 : Int))
 (some false)
 ((s_l7Flat x0).bind fun v1 => cond (!v1)
 (some false)
 ((s_l20Area x0).bind fun v2 => cond (v2 == (0 : Int))
 (some false)
 ((s_l20Other x0).bind fun v3 => some (!v3.2))))
noncomputable def e_s_IsEmptyTriangle : CallE := ⟨29, [.d false (.list (.list (.int .i64)))], [.l (.d false .bool)], fun x => s_IsEmptyTriangle x⟩
noncomputable def c_s_IsEmptyTriangle : Ctx := ⟨Try.prog, TT, [e_s_l7Flat, e_s_l20Area, e_s_l20Other], [], [], [], [], []⟩
theorem k_s_IsEmptyTriangle (x : PMs.den e_s_IsEmptyTriangle.ps) : funK c_s_IsEmptyTriangle Try.f29 e_s_IsEmptyTriangle.ps e_s_IsEmptyTriangle.rs x = e_s_IsEmptyTriangle.F x := by kernel_rfl
theorem o_s_IsEmptyTriangle : FnOk Try.prog e_s_IsEmptyTriangle.f ∧ Ctr Try.prog e_s_IsEmptyTriangle := mkCtr (C := c_s_IsEmptyTriangle) m_ (⟨o_s_l7Flat, o_s_l20Area, o_s_l20Other, trivial⟩) Try.func29 (by kernel_rfl) k_s_IsEmptyTriangle
/-! slices.Equal[[]int,int] -/
noncomputable def g_slices_Equal_s4 (x0 : List Int) (x1 : List Int) (v1 : Int) : Option ((Int) ⊕ ((Unit) ⊕ (Bool))) :=
 cond (decide (v1 < (x0.length : Int)))
 ((idx x0 v1).bind fun v2 => (idx x1 v1).bind fun v3 => cond (v2 != v3)
 (some (.inr (.inr false)))
 (some (.inl (IntKind.i64.wrap (v1 + (1 : Int))))))
 (some (.inr (.inl ())))
noncomputable def g_slices_Equal (x0 : List Int) (x1 : List Int) : Option (Bool) :=
 cond ((x0.length : Int) != (x1.length : Int))
 (some false)
 ((iter (g_slices_Equal_s4 x0 x1) (0 : Int)).bind fun v4 => match v4 with
 | .inl v5 => (some true)
 | .inr v6 => (some v6))
noncomputable def e_g_slices_Equal : CallE := ⟨117, [.d false (.list (.int .i64)), .d false (.list (.int .i64))], [.l (.d false .bool)], fun x => g_slices_Equal x.1 x.2⟩
noncomputable def c_g_slices_Equal : Ctx := ⟨Try.prog, TT, [], [⟨4, [(13, .l (.d false (.int .i64)))], some (0, []), some [(4, .l (.d false .bool))]⟩], [], [], [], []⟩
theorem k_g_slices_Equal (x : PMs.den e_g_slices_Equal.ps) : funK c_g_slices_Equal Try.f117 e_g_slices_Equal.ps e_g_slices_Equal.rs x = e_g_slices_Equal.F x := by kernel_rfl
theorem o_g_slices_Equal : FnOk Try.prog e_g_slices_Equal.f ∧ Ctr Try.prog e_g_slices_Equal := mkCtr (C := c_g_slices_Equal) m_ (trivial) Try.func117 (by kernel_rfl) k_g_slices_Equal
/-! loop.example/g00959/impl.firstPoint -/
noncomputable def i_firstPoint_s6 (v5 : List Int × List Int × Int) (v6 : List Int) (v7 : List Int × List Int × Int) : Option ((List Int × List Int × Int) ⊕ (List Int × List Int)) :=
 cond (decide (v7.2.2 < (v5.1.length : Int)))
 ((inIdx v7.1.length v7.2.2).bind fun _ => (idx v7.1 ((v7.2.2).toNat : Int)).bind fun v8 => (idx v6 v7.2.2).bind fun v9 => (inIdx v7.2.1.length v7.2.2).bind fun _ => (idx v7.2.1 ((v7.2.2).toNat : Int)).bind fun v10 => (idx v6 v7.2.2).bind fun v11 => (inIdx v7.1.length v7.2.2).bind fun _ => (inIdx v7.1.length ((v7.2.2).toNat : Int)).bind fun _ => (inIdx v7.2.1.length v7.2.2).bind fun _ => (inIdx v7.2.1.length ((v7.2.2).toNat : Int)).bind fun _ => some (.inl ((v7.1.set ((v7.2.2).toNat) (if v9 < v8 then v9 else v8)), ((v7.2.1.set ((v7.2.2).toNat) (if v11 > v10 then v11 else v10)), (IntKind.i64.wrap (v7.2.2 + (1 : Int)))))))
 (some (.inr (v7.1, v7.2.1)))
noncomputable def i_firstPoint_s3 (x0 : List (List Int)) (v5 : List Int × List Int × Int) : Option ((List Int × List Int × Int) ⊕ (List Int × List Int)) :=
 cond (decide (v5.2.2 < (x0.length : Int)))
 ((idx x0 v5.2.2).bind fun v6 => (iter (i_firstPoint_s6 v5 v6) (v5.1, (v5.2.1, (0 : Int)))).bind fun v12 => some (.inl (v12.1, (v12.2, (IntKind.i64.wrap (v5.2.2 + (1 : Int)))))))
 (some (.inr (v5.1, v5.2.1)))
noncomputable def i_firstPoint_s135_2 (x0 : List (List Int)) (v23 : List Int) (v25 : Int) : Option ((Int) ⊕ ((Unit) ⊕ (Int))) :=
 cond (decide (v25 < (x0.length : Int)))
 ((idx x0 v25).bind fun v26 => (g_slices_Equal v26 v23).bind fun v27 => cond v27
 (some (.inr (.inr v25)))
 (some (.inl (IntKind.i64.wrap (v25 + (1 : Int))))))
 (some (.inr (.inl ())))
noncomputable def i_firstPoint_s15 (x0 : List (List Int)) (v18 : List Int) (v19 : List Int) (v20 : List Int) (v21 : List (List Int)) (v22 : Int) : Option ((Int) ⊕ ((Unit) ⊕ (List Int))) :=
 cond (decide (v22 < (v21.length : Int)))
 ((idx v21 v22).bind fun v23 => (i_placeOf ([v18, v19, v20] : List (List Int)) v23).bind fun v24 => cond (decide (v24 ≥ (0 : Int)))
 ((iter (i_firstPoint_s135_2 x0 v23) (0 : Int)).bind fun v28 => match v28 with
 | .inl v29 => (cond (!decide ((-1 : Int) ≥ (0 : Int)))
 (some (.inr (.inr v23)))
 (some (.inl (IntKind.i64.wrap (v22 + (1 : Int))))))
 | .inr v30 => (cond (!decide (v30 ≥ (0 : Int)))
 (some (.inr (.inr v23)))
 (some (.inl (IntKind.i64.wrap (v22 + (1 : Int)))))))
 (some (.inl (IntKind.i64.wrap (v22 + (1 : Int))))))
 (some (.inr (.inl ())))
noncomputable def i_firstPoint_s135_2b40 (x0 : List (List Int)) (v36 : List Int) (v38 : Int) : Option ((Int) ⊕ ((Unit) ⊕ (Int))) :=
 cond (decide (v38 < (x0.length : Int)))
 ((idx x0 v38).bind fun v39 => (g_slices_Equal v39 v36).bind fun v40 => cond v40
 (some (.inr (.inr v38)))
 (some (.inl (IntKind.i64.wrap (v38 + (1 : Int))))))
 (some (.inr (.inl ())))
noncomputable def i_firstPoint_s15b43 (x0 : List (List Int)) (v34 : List (List Int)) (v35 : Int) : Option ((Int) ⊕ ((Unit) ⊕ (List Int))) :=
 cond (decide (v35 < (v34.length : Int)))
 ((idx v34 v35).bind fun v36 => (i_placeOf x0 v36).bind fun v37 => cond (decide (v37 ≥ (0 : Int)))
 ((iter (i_firstPoint_s135_2b40 x0 v36) (0 : Int)).bind fun v41 => match v41 with
 | .inl v42 => (cond (!decide ((-1 : Int) ≥ (0 : Int)))
 (some (.inr (.inr v36)))
 (some (.inl (IntKind.i64.wrap (v35 + (1 : Int))))))
 | .inr v43 => (cond (!decide (v43 ≥ (0 : Int)))
 (some (.inr (.inr v36)))
 (some (.inl (IntKind.i64.wrap (v35 + (1 : Int)))))))
 (some (.inl (IntKind.i64.wrap (v35 + (1 : Int))))))
 (some (.inr (.inl ())))
noncomputable def i_firstPoint (x0 : List (List Int)) : Option (List Int) :=
(idx x0 (0 : Int)).bind fun v1 => (i_copyInts v1).bind fun v2 => (idx x0 (0 : Int)).bind fun v3 => (i_copyInts v3).bind fun v4 => (iter (i_firstPoint_s3 x0) (v2, (v4, (0 : Int)))).bind fun v13 => (idx x0 (0 : Int)).bind fun v14 => (idx x0 (1 : Int)).bind fun v15 => (idx x0 (2 : Int)).bind fun v16 => (i_turn v14 v15 v16).bind fun v17 => cond (decide (v17 < (0 : Int)))
 ((idx x0 (0 : Int)).bind fun v18 => (idx x0 (2 : Int)).bind fun v19 => (idx x0 (1 : Int)).bind fun v20 => (i_lattice v13.1 v13.2).bind fun v21 => (iter (i_firstPoint_s15 x0 v18 v19 v20 v21) (0 : Int)).bind fun v31 => match v31 with
 | .inl v32 => (some ([] : List Int))
 | .inr v33 => (some v33))
 ((i_lattice v13.1 v13.2).bind fun v34 => (iter (i_firstPoint_s15b43 x0 v34) (0 : Int)).bind fun v44 => match v44 with
 | .inl v45 => (some ([] : List Int))
 | .inr v46 => (some v46))
noncomputable def e_i_firstPoint : CallE := ⟨75, [.d false (.list (.list (.int .i64)))], [.l (.d false (.list (.int .i64)))], fun x => i_firstPoint x⟩
noncomputable def c_i_firstPoint_116 : Ctx := ⟨Try.prog, TT, [e_g_slices_Equal], [], [], [], [], []⟩
noncomputable def n_i_firstPoint_116 : InE := ⟨116, true, inlK c_i_firstPoint_116 Try.f116⟩
theorem q_i_firstPoint_116 : FnOk Try.prog n_i_firstPoint_116.f ∧ InOk Try.prog n_i_firstPoint_116 := mkInlD (C := c_i_firstPoint_116) m_ (⟨o_g_slices_Equal, trivial⟩) Try.func116 (by kernel_rfl) (by kernel_rfl) rfl
noncomputable def c_i_firstPoint_135 : Ctx := ⟨Try.prog, TT, [], [⟨2, [(8, .l (.d false (.int .i64)))], some (0, []), some [(4, .l (.d false (.int .i64)))]⟩], [], [n_i_firstPoint_116], [], []⟩
noncomputable def n_i_firstPoint_135 : InE := ⟨135, false, inlK c_i_firstPoint_135 Try.f135⟩
theorem q_i_firstPoint_135 : FnOk Try.prog n_i_firstPoint_135.f ∧ InOk Try.prog n_i_firstPoint_135 := mkInl (C := c_i_firstPoint_135) m_ (trivial) Try.func135 (by kernel_rfl) ⟨q_i_firstPoint_116, trivial⟩
noncomputable def c_i_firstPoint_115 : Ctx := ⟨Try.prog, TT, [], [], [], [n_i_firstPoint_135], [], []⟩
noncomputable def n_i_firstPoint_115 : InE := ⟨115, false, inlK c_i_firstPoint_115 Try.f115⟩
theorem q_i_firstPoint_115 : FnOk Try.prog n_i_firstPoint_115.f ∧ InOk Try.prog n_i_firstPoint_115 := mkInl (C := c_i_firstPoint_115) m_ (trivial) Try.func115 (by kernel_rfl) ⟨q_i_firstPoint_135, trivial⟩
noncomputable def c_i_firstPoint : Ctx := ⟨Try.prog, TT, [e_i_copyInts, e_i_turn, e_i_lattice, e_i_placeOf], [⟨3, [(3, .l (.o true 3 (.int .i64))), (4, .l (.o true 3 (.int .i64))), (21, .l (.d false (.int .i64)))], some (0, [(3, .l (.o true 3 (.int .i64))), (4, .l (.o true 3 (.int .i64)))]), none⟩, ⟨6, [(3, .l (.o true 3 (.int .i64))), (4, .l (.o true 3 (.int .i64))), (27, .l (.d false (.int .i64)))], some (2, [(3, .l (.o true 3 (.int .i64))), (4, .l (.o true 3 (.int .i64)))]), none⟩, ⟨15, [(82, .l (.d false (.int .i64)))], some (4, []), some [(2, .l (.d false (.list (.int .i64))))]⟩], [], [n_i_firstPoint_115], [], [(8, [0, 1, 2, 3, 4, 5, 8, 9, 13, 14, 17, 18, 6, 7, 10, 11, 12, 15, 16, 19, 20, 21, 22, 23, 24, 25])]⟩
theorem k_i_firstPoint (x : PMs.den e_i_firstPoint.ps) : funK c_i_firstPoint Try.f75 e_i_firstPoint.ps e_i_firstPoint.rs x = e_i_firstPoint.F x := by kernel_rfl
theorem o_i_firstPoint : FnOk Try.prog e_i_firstPoint.f ∧ Ctr Try.prog e_i_firstPoint := mkCtr (C := c_i_firstPoint) m_ (⟨o_i_copyInts, o_i_turn, o_i_lattice, o_i_placeOf, trivial⟩) Try.func75 (by kernel_rfl) k_i_firstPoint ⟨q_i_firstPoint_115, trivial⟩
/-! loop.example/g00959/impl.IsEmptyTriangle -/
noncomputable def i_IsEmptyTriangle_s4 (x0 : List (List Int)) (v1 : Int) : Option ((Int) ⊕ ((Unit) ⊕ (Bool))) :=
 cond (decide (v1 < (x0.length : Int)))
 ((idx x0 v1).bind fun v2 => (i_isPoint v2 (50 : Int)).bind fun v3 => cond (!v3)
 (some (.inr (.inr false)))
 (some (.inl (IntKind.i64.wrap (v1 + (1 : Int))))))
 (some (.inr (.inl ())))
noncomputable def i_IsEmptyTriangle (x0 : List (List Int)) : Option (Bool) :=
 cond ((x0.length : Int) != (3 : Int))
 (some false)
 ((iter (i_IsEmptyTriangle_s4 x0) (0 : Int)).bind fun v4 => match v4 with
 | .inl v5 => ((idx x0 (0 : Int)).bind fun v7 => (idx x0 (1 : Int)).bind fun v8 => (idx x0 (2 : Int)).bind fun v9 => (i_turn v7 v8 v9).bind fun v10 => cond (v10 != (0 : Int))
 ((i_firstPoint x0).bind fun v11 => (nneD v11).bind fun _ => some false)
 (some false))
 | .inr v6 => (some v6))
noncomputable def e_i_IsEmptyTriangle : CallE := ⟨30, [.d false (.list (.list (.int .i64)))], [.l (.d false .bool)], fun x => i_IsEmptyTriangle x⟩
noncomputable def c_i_IsEmptyTriangle : Ctx := ⟨Try.prog, TT, [e_i_isPoint, e_i_turn, e_i_firstPoint], [⟨4, [(10, .l (.d false (.int .i64)))], some (0, []), some [(2, .l (.d false .bool))]⟩], [], [], [], []⟩
theorem k_i_IsEmptyTriangle (x : PMs.den e_i_IsEmptyTriangle.ps) : funK c_i_IsEmptyTriangle Try.f30 e_i_IsEmptyTriangle.ps e_i_IsEmptyTriangle.rs x = e_i_IsEmptyTriangle.F x := by kernel_rfl
theorem o_i_IsEmptyTriangle : FnOk Try.prog e_i_IsEmptyTriangle.f ∧ Ctr Try.prog e_i_IsEmptyTriangle := mkCtr (C := c_i_IsEmptyTriangle) m_ (⟨o_i_isPoint, o_i_turn, o_i_firstPoint, trivial⟩) Try.func30 (by kernel_rfl) k_i_IsEmptyTriangle
/-! loop.example/g00959/laws.FnExactIsEmptyTriangle -/
noncomputable def w_FnExactIsEmptyTriangle (x0 : List (List Int)) : Option (Bool) :=
(w_szIntSS x0 (1048576 : Int)).bind fun v1 => cond (decide (v1 < (0 : Int)))
 (some true)
 ((w_toIntSS x0).bind fun v2 => (s_IsEmptyTriangle v2).bind fun v3 => (w_toIntSS x0).bind fun v4 => (i_IsEmptyTriangle v4).bind fun v5 => cond (!(v5 == v3))
 (some false)
 ((w_toIntSS x0).bind fun v6 => (w_eqIntSS v4 v6).bind fun v7 => cond (!v7)
 (some false)
 (some true)))
noncomputable def e_w_FnExactIsEmptyTriangle : CallE := ⟨8, [.d false (.list (.list (.int .i64)))], [.l (.d false .bool)], fun x => w_FnExactIsEmptyTriangle x⟩
noncomputable def c_w_FnExactIsEmptyTriangle : Ctx := ⟨Try.prog, TT, [e_w_szIntSS, e_w_toIntSS, e_s_IsEmptyTriangle, e_i_IsEmptyTriangle, e_w_eqIntSS], [], [], [], [], []⟩
theorem k_w_FnExactIsEmptyTriangle (x : PMs.den e_w_FnExactIsEmptyTriangle.ps) : funK c_w_FnExactIsEmptyTriangle Try.f8 e_w_FnExactIsEmptyTriangle.ps e_w_FnExactIsEmptyTriangle.rs x = e_w_FnExactIsEmptyTriangle.F x := by kernel_rfl
theorem o_w_FnExactIsEmptyTriangle : FnOk Try.prog e_w_FnExactIsEmptyTriangle.f ∧ Ctr Try.prog e_w_FnExactIsEmptyTriangle := mkCtr (C := c_w_FnExactIsEmptyTriangle) m_ (⟨o_w_szIntSS, o_w_toIntSS, o_s_IsEmptyTriangle, o_i_IsEmptyTriangle, o_w_eqIntSS, trivial⟩) Try.func8 (by kernel_rfl) k_w_FnExactIsEmptyTriangle
/-! loop.example/g00959/laws.szHalf -/
noncomputable def w_szHalf (x0 : (List Int) × Int) (x1 : Int) : Option (Int) :=
(w_szIntS x0.1 x1).bind fun v1 => cond (decide (v1 < (0 : Int)))
 (some (-1 : Int))
 (some v1)
noncomputable def e_w_szHalf : CallE := ⟨32, [.d false (.prod (.list (.int .i64)) (.int .i64)), .d false (.int .i64)], [.l (.d false (.int .i64))], fun x => w_szHalf x.1 x.2⟩
noncomputable def c_w_szHalf : Ctx := ⟨Try.prog, TT, [e_w_szIntS], [], [], [], [], []⟩
theorem k_w_szHalf (x : PMs.den e_w_szHalf.ps) : funK c_w_szHalf Try.f32 e_w_szHalf.ps e_w_szHalf.rs x = e_w_szHalf.F x := by kernel_rfl
theorem o_w_szHalf : FnOk Try.prog e_w_szHalf.f ∧ Ctr Try.prog e_w_szHalf := mkCtr (C := c_w_szHalf) m_ (⟨o_w_szIntS, trivial⟩) Try.func32 (by kernel_rfl) k_w_szHalf
/-! loop.example/g00959/laws.szHalfS -/
noncomputable def w_szHalfS_s5 (x0 : List ((List Int) × Int)) (v1 : Int × Int) : Option ((Int × Int) ⊕ ((Int) ⊕ (Int))) :=
 cond (decide (v1.2 < (x0.length : Int)))
 ((idx x0 v1.2).bind fun v2 => (w_szHalf v2 v1.1).bind fun v3 => cond (decide (v3 < (0 : Int)))
 (some (.inr (.inr (-1 : Int))))
 (some (.inl (v3, (IntKind.i64.wrap (v1.2 + (1 : Int)))))))
 (some (.inr (.inl v1.1)))
noncomputable def w_szHalfS (x0 : List ((List Int) × Int)) (x1 : Int) : Option (Int) :=
 cond (decide ((IntKind.i64.wrap (x1 - (x0.length : Int))) < (0 : Int)))
 (some (-1 : Int))
 ((iter (w_szHalfS_s5 x0) ((IntKind.i64.wrap (x1 - (x0.length : Int))), (0 : Int))).bind fun v4 => match v4 with
 | .inl v5 => (some v5)
 | .inr v6 => (some v6))
noncomputable def e_w_szHalfS : CallE := ⟨76, [.d false (.list (.prod (.list (.int .i64)) (.int .i64))), .d false (.int .i64)], [.l (.d false (.int .i64))], fun x => w_szHalfS x.1 x.2⟩
noncomputable def c_w_szHalfS : Ctx := ⟨Try.prog, TT, [e_w_szHalf], [⟨5, [(1, .l (.d false (.int .i64))), (5, .l (.d false (.int .i64)))], some (0, [(1, .l (.d false (.int .i64)))]), some [(4, .l (.d false (.int .i64)))]⟩], [], [], [], []⟩
theorem k_w_szHalfS (x : PMs.den e_w_szHalfS.ps) : funK c_w_szHalfS Try.f76 e_w_szHalfS.ps e_w_szHalfS.rs x = e_w_szHalfS.F x := by kernel_rfl
theorem o_w_szHalfS : FnOk Try.prog e_w_szHalfS.f ∧ Ctr Try.prog e_w_szHalfS := mkCtr (C := c_w_szHalfS) m_ (⟨o_w_szHalf, trivial⟩) Try.func76 (by kernel_rfl) k_w_szHalfS
/-! loop.example/g00959/laws.szRegion -/
noncomputable def w_szRegion (x0 : Int × (List ((List Int) × Int))) (x1 : Int) : Option (Int) :=
(w_szHalfS x0.2 x1).bind fun v1 => cond (decide (v1 < (0 : Int)))
 (some (-1 : Int))
 (some v1)
noncomputable def e_w_szRegion : CallE := ⟨31, [.d false (.prod (.int .i64) (.list (.prod (.list (.int .i64)) (.int .i64)))), .d false (.int .i64)], [.l (.d false (.int .i64))], fun x => w_szRegion x.1 x.2⟩
noncomputable def c_w_szRegion : Ctx := ⟨Try.prog, TT, [e_w_szHalfS], [], [], [], [], []⟩
theorem k_w_szRegion (x : PMs.den e_w_szRegion.ps) : funK c_w_szRegion Try.f31 e_w_szRegion.ps e_w_szRegion.rs x = e_w_szRegion.F x := by kernel_rfl
theorem o_w_szRegion : FnOk Try.prog e_w_szRegion.f ∧ Ctr Try.prog e_w_szRegion := mkCtr (C := c_w_szRegion) m_ (⟨o_w_szHalfS, trivial⟩) Try.func31 (by kernel_rfl) k_w_szRegion
/-! loop.example/g00959/laws.toHalf -/
noncomputable def w_toHalf (x0 : (List Int) × Int) : Option (List Int × Int) :=
(w_toIntS x0.1).bind fun v1 => some (v1, x0.2)
noncomputable def e_w_toHalf : CallE := ⟨35, [.d false (.prod (.list (.int .i64)) (.int .i64))], [.a [(.o true 3 (.int .i64)), (.d false (.int .i64))]], fun x => w_toHalf x⟩
noncomputable def c_w_toHalf : Ctx := ⟨Try.prog, TT, [e_w_toIntS], [], [], [], [], []⟩
theorem k_w_toHalf (x : PMs.den e_w_toHalf.ps) : funK c_w_toHalf Try.f35 e_w_toHalf.ps e_w_toHalf.rs x = e_w_toHalf.F x := by kernel_rfl
theorem o_w_toHalf : FnOk Try.prog e_w_toHalf.f ∧ Ctr Try.prog e_w_toHalf := mkCtr (C := c_w_toHalf) m_ (⟨o_w_toIntS, trivial⟩) Try.func35 (by kernel_rfl) k_w_toHalf
/-! loop.example/g00959/laws.toHalfS -/
noncomputable def w_toHalfS_s3 (x0 : List ((List Int) × Int)) (v2 : (List ((List Int) × Int)) × Int) : Option (((List ((List Int) × Int)) × Int) ⊕ (List ((List Int) × Int))) :=
 cond (decide (v2.2 < (x0.length : Int)))
 ((idx x0 v2.2).bind fun v3 => (w_toHalf v3).bind fun v4 => (inIdx v2.1.length v2.2).bind fun _ => (inIdx v2.1.length ((v2.2).toNat : Int)).bind fun _ => some (.inl ((v2.1.set ((v2.2).toNat) (v4.1, v4.2)), (IntKind.i64.wrap (v2.2 + (1 : Int))))))
 (some (.inr v2.1))
noncomputable def w_toHalfS (x0 : List ((List Int) × Int)) : Option (List ((List Int) × Int)) :=
(mkD 32 (x0.length : Int) (([] : List Int), (0 : Int))).bind fun v1 => (iter (w_toHalfS_s3 x0) (v1, (0 : Int))).bind fun v5 => some v5
noncomputable def e_w_toHalfS : CallE := ⟨80, [.d false (.list (.prod (.list (.int .i64)) (.int .i64)))], [.l (.o true 49 (.prod (.list (.int .i64)) (.int .i64)))], fun x => w_toHalfS x⟩
noncomputable def c_w_toHalfS : Ctx := ⟨Try.prog, TT, [e_w_toHalf], [⟨3, [(3, .l (.o true 49 (.prod (.list (.int .i64)) (.int .i64)))), (4, .l (.d false (.int .i64)))], some (0, [(3, .l (.o true 49 (.prod (.list (.int .i64)) (.int .i64))))]), none⟩], [], [], [], []⟩
theorem k_w_toHalfS (x : PMs.den e_w_toHalfS.ps) : funK c_w_toHalfS Try.f80 e_w_toHalfS.ps e_w_toHalfS.rs x = e_w_toHalfS.F x := by kernel_rfl
theorem o_w_toHalfS : FnOk Try.prog e_w_toHalfS.f ∧ Ctr Try.prog e_w_toHalfS := mkCtr (C := c_w_toHalfS) m_ (⟨o_w_toHalf, trivial⟩) Try.func80 (by kernel_rfl) k_w_toHalfS
/-! loop.example/g00959/laws.toRegion -/
noncomputable def w_toRegion (x0 : Int × (List ((List Int) × Int))) : Option (Int × List ((List Int) × Int)) :=
(w_toHalfS x0.2).bind fun v1 => some (x0.1, v1)
noncomputable def e_w_toRegion : CallE := ⟨34, [.d false (.prod (.int .i64) (.list (.prod (.list (.int .i64)) (.int .i64))))], [.a [(.d false (.int .i64)), (.o true 49 (.prod (.list (.int .i64)) (.int .i64)))]], fun x => w_toRegion x⟩
noncomputable def c_w_toRegion : Ctx := ⟨Try.prog, TT, [e_w_toHalfS], [], [], [], [], []⟩
theorem k_w_toRegion (x : PMs.den e_w_toRegion.ps) : funK c_w_toRegion Try.f34 e_w_toRegion.ps e_w_toRegion.rs x = e_w_toRegion.F x := by kernel_rfl
theorem o_w_toRegion : FnOk Try.prog e_w_toRegion.f ∧ Ctr Try.prog e_w_toRegion := mkCtr (C := c_w_toRegion) m_ (⟨o_w_toHalfS, trivial⟩) Try.func34 (by kernel_rfl) k_w_toRegion
/-! loop.example/g00959/spec.IsHalf -/
noncomputable def s_IsHalf (x0 : Int) (x1 : (List Int) × Int) : Option (Bool) :=
(s_l1In x0 (1 : Int) (3 : Int)).bind fun v1 => cond v1
 (cond ((x1.1.length : Int) == x0)
 ((s_l2Small x1.1 (20 : Int)).bind fun v2 => cond v2
 ((s_l2All x1.1).bind fun v3 => cond (decide (v3 > (0 : Int)))
 ((s_l1In x1.2 (-200 : Int) (200 : Int)).bind fun v4 => some v4)
 (some false))
 (some false))
 (some false))
 (some false)
noncomputable def e_s_IsHalf : CallE := ⟨78, [.d false (.int .i64), .d false (.prod (.list (.int .i64)) (.int .i64))], [.l (.d false .bool)], fun x => s_IsHalf x.1 x.2⟩
noncomputable def c_s_IsHalf : Ctx := ⟨Try.prog, TT, [e_s_l1In, e_s_l2Small, e_s_l2All], [], [], [], [], []⟩
theorem k_s_IsHalf (x : PMs.den e_s_IsHalf.ps) : funK c_s_IsHalf Try.f78 e_s_IsHalf.ps e_s_IsHalf.rs x = e_s_IsHalf.F x := by kernel_rfl
theorem o_s_IsHalf : FnOk Try.prog e_s_IsHalf.f ∧ Ctr Try.prog e_s_IsHalf := mkCtr (C := c_s_IsHalf) m_ (⟨o_s_l1In, o_s_l2Small, o_s_l2All, trivial⟩) Try.func78 (by kernel_rfl) k_s_IsHalf
/-! loop.example/g00959/spec.IsRegion -/
noncomputable def s_IsRegion_s2 (x0 : Int × (List ((List Int) × Int))) (v1 : Int) : Option ((Int) ⊕ ((Unit) ⊕ (Bool))) :=
 cond (decide (v1 < (x0.2.length : Int)))
 ((idx x0.2 v1).bind fun v2 => (s_IsHalf x0.1 v2).bind fun v3 => cond (!v3)
 (some (.inr (.inr false)))
 (some (.inl (IntKind.i64.wrap (v1 + (1 : Int))))))
 (some (.inr (.inl ())))
noncomputable def s_IsRegion (x0 : Int × (List ((List Int) × Int))) : Option (Bool) :=
(iter (s_IsRegion_s2 x0) (0 : Int)).bind fun v4 => match v4 with
 | .inl v5 => ((s_l1In x0.1 (1 : Int) (3 : Int)).bind fun v7 => cond v7
 (some (decide ((x0.2.length : Int) ≤ (8 : Int))))
 (some false))
 | .inr v6 => (some v6)
noncomputable def e_s_IsRegion : CallE := ⟨77, [.d false (.prod (.int .i64) (.list (.prod (.list (.int .i64)) (.int .i64))))], [.l (.d false .bool)], fun x => s_IsRegion x⟩
noncomputable def c_s_IsRegion : Ctx := ⟨Try.prog, TT, [e_s_IsHalf, e_s_l1In], [⟨2, [(3, .l (.d false (.int .i64)))], some (0, []), some [(2, .l (.d false .bool))]⟩], [], [], [], []⟩
theorem k_s_IsRegion (x : PMs.den e_s_IsRegion.ps) : funK c_s_IsRegion Try.f77 e_s_IsRegion.ps e_s_IsRegion.rs x = e_s_IsRegion.F x := by kernel_rfl
theorem o_s_IsRegion : FnOk Try.prog e_s_IsRegion.f ∧ Ctr Try.prog e_s_IsRegion := mkCtr (C := c_s_IsRegion) m_ (⟨o_s_IsHalf, o_s_l1In, trivial⟩) Try.func77 (by kernel_rfl) k_s_IsRegion
/-! loop.example/g00959/spec.l4Has -/
noncomputable def s_l4Has_s2 (x0 : Int × (List ((List Int) × Int))) (x1 : List Int) (v1 : Int) : Option ((Int) ⊕ ((Unit) ⊕ (Bool))) :=
 cond (decide (v1 < (x0.2.length : Int)))
 ((idx x0.2 v1).bind fun v2 => (s_l2Dot v2.1 x1).bind fun v3 => (idx x0.2 v1).bind fun v4 => cond (decide (v3 > v4.2))
 (some (.inr (.inr false)))
 (some (.inl (IntKind.i64.wrap (v1 + (1 : Int))))))
 (some (.inr (.inl ())))
noncomputable def s_l4Has (x0 : Int × (List ((List Int) × Int))) (x1 : List Int) : Option (Bool) :=
(iter (s_l4Has_s2 x0 x1) (0 : Int)).bind fun v5 => match v5 with
 | .inl v6 => (some true)
 | .inr v7 => (some v7)
noncomputable def e_s_l4Has : CallE := ⟨119, [.d false (.prod (.int .i64) (.list (.prod (.list (.int .i64)) (.int .i64)))), .d false (.list (.int .i64))], [.l (.d false .bool)], fun x => s_l4Has x.1 x.2⟩
noncomputable def c_s_l4Has : Ctx := ⟨Try.prog, TT, [e_s_l2Dot], [⟨2, [(5, .l (.d false (.int .i64)))], some (0, []), some [(4, .l (.d false .bool))]⟩], [], [], [], []⟩
theorem k_s_l4Has (x : PMs.den e_s_l4Has.ps) : funK c_s_l4Has Try.f119 e_s_l4Has.ps e_s_l4Has.rs x = e_s_l4Has.F x := by kernel_rfl
theorem o_s_l4Has : FnOk Try.prog e_s_l4Has.f ∧ Ctr Try.prog e_s_l4Has := mkCtr (C := c_s_l4Has) m_ (⟨o_s_l2Dot, trivial⟩) Try.func119 (by kernel_rfl) k_s_l4Has
/-! loop.example/g00959/spec.PointsIn -/
noncomputable def s_PointsIn_s6 (x0 : Int × (List ((List Int) × Int))) (v2 : List (List Int)) (v3 : List (List Int) × Int) : Option ((List (List Int) × Int) ⊕ (List (List Int))) :=
 cond (decide (v3.2 < (v2.length : Int)))
 ((idx v2 v3.2).bind fun v4 => (s_l4Has (x0.1, x0.2) v4).bind fun v5 => cond v5
 ((idx v2 v3.2).bind fun v6 => (appD 24 v3.1 ([v6] : List (List Int))).bind fun v7 => some (.inl (v7, (IntKind.i64.wrap (v3.2 + (1 : Int))))))
 (some (.inl (v3.1, (IntKind.i64.wrap (v3.2 + (1 : Int)))))))
 (some (.inr v3.1))
noncomputable def s_PointsIn (x0 : Int × (List ((List Int) × Int))) : Option (List (List Int)) :=
(s_IsRegion (x0.1, x0.2)).bind fun v1 => cond (!v1)
 (some ([] : List (List Int)))
 ((s_l5All x0.1 (-6 : Int) (6 : Int)).bind fun v2 => (iter (s_PointsIn_s6 x0 v2) (([] : List (List Int)), (0 : Int))).bind fun v8 => some v8)
noncomputable def e_s_PointsIn : CallE := ⟨79, [.d false (.prod (.int .i64) (.list (.prod (.list (.int .i64)) (.int .i64))))], [.l (.o false 23 (.list (.int .i64)))], fun x => s_PointsIn x⟩
noncomputable def c_s_PointsIn : Ctx := ⟨Try.prog, TT, [e_s_IsRegion, e_s_l5All, e_s_l4Has], [⟨6, [(3, .l (.o false 23 (.list (.int .i64)))), (5, .l (.d false (.int .i64)))], some (0, [(3, .l (.o false 23 (.list (.int .i64))))]), none⟩], [], [], [], []⟩
theorem k_s_PointsIn (x : PMs.den e_s_PointsIn.ps) : funK c_s_PointsIn Try.f79 e_s_PointsIn.ps e_s_PointsIn.rs x = e_s_PointsIn.F x := by kernel_rfl
theorem o_s_PointsIn : FnOk Try.prog e_s_PointsIn.f ∧ Ctr Try.prog e_s_PointsIn := mkCtr (C := c_s_PointsIn) m_ (⟨o_s_IsRegion, o_s_l5All, o_s_l4Has, trivial⟩) Try.func79 (by kernel_rfl) k_s_PointsIn
/-! loop.example/g00959/spec.IsImplied -/
noncomputable def s_IsImplied_s5 (x1 : (List Int) × Int) (v3 : List (List Int)) (v4 : Int) : Option ((Int) ⊕ ((Unit) ⊕ (Bool))) :=
 cond (decide (v4 < (v3.length : Int)))
 ((idx v3 v4).bind fun v5 => (s_l2Dot x1.1 v5).bind fun v6 => cond (decide (v6 > x1.2))
 (some (.inr (.inr false)))
 (some (.inl (IntKind.i64.wrap (v4 + (1 : Int))))))
 (some (.inr (.inl ())))
noncomputable def s_IsImplied (x0 : Int × (List ((List Int) × Int))) (x1 : (List Int) × Int) : Option (Bool) :=
(s_IsRegion (x0.1, x0.2)).bind fun v1 => cond (!v1)
 (some false)
 ((s_IsHalf x0.1 (x1.1, x1.2)).bind fun v2 => cond (!v2)
 (some false)
 ((s_PointsIn (x0.1, x0.2)).bind fun v3 => (iter (s_IsImplied_s5 x1 v3) (0 : Int)).bind fun v7 => match v7 with
 | .inl v8 => (some true)
 | .inr v9 => (some v9)))
noncomputable def e_s_IsImplied : CallE := ⟨33, [.d false (.prod (.int .i64) (.list (.prod (.list (.int .i64)) (.int .i64)))), .d false (.prod (.list (.int .i64)) (.int .i64))], [.l (.d false .bool)], fun x => s_IsImplied x.1 x.2⟩
noncomputable def c_s_IsImplied : Ctx := ⟨Try.prog, TT, [e_s_IsRegion, e_s_IsHalf, e_s_PointsIn, e_s_l2Dot], [⟨5, [(6, .l (.d false (.int .i64)))], some (0, []), some [(4, .l (.d false .bool))]⟩], [], [], [], []⟩
theorem k_s_IsImplied (x : PMs.den e_s_IsImplied.ps) : funK c_s_IsImplied Try.f33 e_s_IsImplied.ps e_s_IsImplied.rs x = e_s_IsImplied.F x := by kernel_rfl
theorem o_s_IsImplied : FnOk Try.prog e_s_IsImplied.f ∧ Ctr Try.prog e_s_IsImplied := mkCtr (C := c_s_IsImplied) m_ (⟨o_s_IsRegion, o_s_IsHalf, o_s_PointsIn, o_s_l2Dot, trivial⟩) Try.func33 (by kernel_rfl) k_s_IsImplied
/-! loop.example/g00959/impl.IsHalf -/
noncomputable def i_IsHalf (x0 : Int) (x1 : (List Int) × Int) : Option (Bool) :=
(i_within x0 (1 : Int) (3 : Int)).bind fun v1 => cond v1
 (cond ((x1.1.length : Int) == x0)
 ((i_allWithin x1.1 (-20 : Int) (20 : Int)).bind fun v2 => cond v2
 ((i_gcdAll x1.1).bind fun v3 => cond (decide (v3 > (0 : Int)))
 ((i_within x1.2 (-200 : Int) (200 : Int)).bind fun v4 => some v4)
 (some false))
 (some false))
 (some false))
 (some false)
noncomputable def e_i_IsHalf : CallE := ⟨82, [.d false (.int .i64), .d false (.prod (.list (.int .i64)) (.int .i64))], [.l (.d false .bool)], fun x => i_IsHalf x.1 x.2⟩
noncomputable def c_i_IsHalf : Ctx := ⟨Try.prog, TT, [e_i_within, e_i_allWithin, e_i_gcdAll], [], [], [], [], []⟩
theorem k_i_IsHalf (x : PMs.den e_i_IsHalf.ps) : funK c_i_IsHalf Try.f82 e_i_IsHalf.ps e_i_IsHalf.rs x = e_i_IsHalf.F x := by kernel_rfl
theorem o_i_IsHalf : FnOk Try.prog e_i_IsHalf.f ∧ Ctr Try.prog e_i_IsHalf := mkCtr (C := c_i_IsHalf) m_ (⟨o_i_within, o_i_allWithin, o_i_gcdAll, trivial⟩) Try.func82 (by kernel_rfl) k_i_IsHalf
/-! loop.example/g00959/impl.IsRegion -/
noncomputable def i_IsRegion_s4 (x0 : Int × (List ((List Int) × Int))) (v2 : Int) : Option ((Int) ⊕ ((Unit) ⊕ (Bool))) :=
 cond (decide (v2 < (x0.2.length : Int)))
 ((idx x0.2 v2).bind fun v3 => (i_IsHalf x0.1 (v3.1, v3.2)).bind fun v4 => cond (!v4)
 (some (.inr (.inr false)))
 (some (.inl (IntKind.i64.wrap (v2 + (1 : Int))))))
 (some (.inr (.inl ())))
noncomputable def i_IsRegion (x0 : Int × (List ((List Int) × Int))) : Option (Bool) :=
(i_within x0.1 (1 : Int) (3 : Int)).bind fun v1 => cond (!v1)
 (some false)
 (cond (decide ((x0.2.length : Int) > (8 : Int)))
 (some false)
 ((iter (i_IsRegion_s4 x0) (0 : Int)).bind fun v5 => match v5 with
 | .inl v6 => (some true)
 | .inr v7 => (some v7)))
noncomputable def e_i_IsRegion : CallE := ⟨81, [.d false (.prod (.int .i64) (.list (.prod (.list (.int .i64)) (.int .i64))))], [.l (.d false .bool)], fun x => i_IsRegion x⟩
noncomputable def c_i_IsRegion : Ctx := ⟨Try.prog, TT, [e_i_within, e_i_IsHalf], [⟨4, [(18, .l (.d false (.int .i64)))], some (0, []), some [(2, .l (.d false .bool))]⟩], [], [], [], []⟩
theorem k_i_IsRegion (x : PMs.den e_i_IsRegion.ps) : funK c_i_IsRegion Try.f81 e_i_IsRegion.ps e_i_IsRegion.rs x = e_i_IsRegion.F x := by kernel_rfl
theorem o_i_IsRegion : FnOk Try.prog e_i_IsRegion.f ∧ Ctr Try.prog e_i_IsRegion := mkCtr (C := c_i_IsRegion) m_ (⟨o_i_within, o_i_IsHalf, trivial⟩) Try.func81 (by kernel_rfl) k_i_IsRegion
/-! loop.example/g00959/impl.HasPoint -/
noncomputable def i_HasPoint_s4 (x0 : Int × (List ((List Int) × Int))) (x1 : List Int) (v3 : Int) : Option ((Int) ⊕ ((Unit) ⊕ (Bool))) :=
 cond (decide (v3 < (x0.2.length : Int)))
 ((idx x0.2 v3).bind fun v4 => (i_dot v4.1 x1).bind fun v5 => cond (decide (v5 > v4.2))
 (some (.inr (.inr false)))
 (some (.inl (IntKind.i64.wrap (v3 + (1 : Int))))))
 (some (.inr (.inl ())))
noncomputable def i_HasPoint (x0 : Int × (List ((List Int) × Int))) (x1 : List Int) : Option (Bool) :=
(i_IsRegion (x0.1, x0.2)).bind fun v1 => cond (!v1)
 (some false)
 ((i_IsVector x1).bind fun v2 => cond (!v2)
 (some false)
 (cond ((x1.length : Int) != x0.1)
 (some false)
 ((iter (i_HasPoint_s4 x0 x1) (0 : Int)).bind fun v6 => match v6 with
 | .inl v7 => (some true)
 | .inr v8 => (some v8))))
noncomputable def e_i_HasPoint : CallE := ⟨121, [.d false (.prod (.int .i64) (.list (.prod (.list (.int .i64)) (.int .i64)))), .d false (.list (.int .i64))], [.l (.d false .bool)], fun x => i_HasPoint x.1 x.2⟩
noncomputable def c_i_HasPoint : Ctx := ⟨Try.prog, TT, [e_i_IsRegion, e_i_IsVector, e_i_dot], [⟨4, [(25, .l (.d false (.int .i64)))], some (0, []), some [(4, .l (.d false .bool))]⟩], [], [], [], []⟩
theorem k_i_HasPoint (x : PMs.den e_i_HasPoint.ps) : funK c_i_HasPoint Try.f121 e_i_HasPoint.ps e_i_HasPoint.rs x = e_i_HasPoint.F x := by kernel_rfl
theorem o_i_HasPoint : FnOk Try.prog e_i_HasPoint.f ∧ Ctr Try.prog e_i_HasPoint := mkCtr (C := c_i_HasPoint) m_ (⟨o_i_IsRegion, o_i_IsVector, o_i_dot, trivial⟩) Try.func121 (by kernel_rfl) k_i_HasPoint
/-! loop.example/g00959/impl.PointsIn -/
noncomputable def i_PointsIn_s5 (v2 : List Int) (v4 : List Int × List Int × Int) : Option ((List Int × List Int × Int) ⊕ (List Int × List Int)) :=
 cond (decide (v4.2.2 < (v2.length : Int)))
 ((inIdx v4.1.length v4.2.2).bind fun _ => (inIdx v4.1.length ((v4.2.2).toNat : Int)).bind fun _ => (inIdx v4.2.1.length v4.2.2).bind fun _ => (inIdx v4.2.1.length ((v4.2.2).toNat : Int)).bind fun _ => some (.inl ((v4.1.set ((v4.2.2).toNat) (-6 : Int)), ((v4.2.1.set ((v4.2.2).toNat) (6 : Int)), (IntKind.i64.wrap (v4.2.2 + (1 : Int)))))))
 (some (.inr (v4.1, v4.2.1)))
noncomputable def i_PointsIn_s11 (x0 : Int × (List ((List Int) × Int))) (v6 : List (List Int)) (v7 : List (List Int) × Int) : Option ((List (List Int) × Int) ⊕ (List (List Int))) :=
 cond (decide (v7.2 < (v6.length : Int)))
 ((idx v6 v7.2).bind fun v8 => (i_HasPoint (x0.1, x0.2) v8).bind fun v9 => cond v9
 ((appD 24 v7.1 ([v8] : List (List Int))).bind fun v10 => some (.inl (v10, (IntKind.i64.wrap (v7.2 + (1 : Int))))))
 (some (.inl (v7.1, (IntKind.i64.wrap (v7.2 + (1 : Int)))))))
 (some (.inr v7.1))
noncomputable def i_PointsIn (x0 : Int × (List ((List Int) × Int))) : Option (List (List Int)) :=
(i_IsRegion (x0.1, x0.2)).bind fun v1 => cond (!v1)
 (some ([] : List (List Int)))
 ((mkD 8 x0.1 (0 : Int)).bind fun v2 => (mkD 8 x0.1 (0 : Int)).bind fun v3 => (iter (i_PointsIn_s5 v2) (v2, (v3, (0 : Int)))).bind fun v5 => (i_lattice v5.1 v5.2).bind fun v6 => (iter (i_PointsIn_s11 x0 v6) (([] : List (List Int)), (0 : Int))).bind fun v11 => some v11)
noncomputable def e_i_PointsIn : CallE := ⟨83, [.d false (.prod (.int .i64) (.list (.prod (.list (.int .i64)) (.int .i64))))], [.l (.o false 23 (.list (.int .i64)))], fun x => i_PointsIn x⟩
noncomputable def c_i_PointsIn : Ctx := ⟨Try.prog, TT, [e_i_IsRegion, e_i_lattice, e_i_HasPoint], [⟨5, [(3, .l (.o true 3 (.int .i64))), (4, .l (.o true 3 (.int .i64))), (20, .l (.d false (.int .i64)))], some (0, [(3, .l (.o true 3 (.int .i64))), (4, .l (.o true 3 (.int .i64)))]), none⟩, ⟨11, [(6, .l (.o false 23 (.list (.int .i64)))), (34, .l (.d false (.int .i64)))], some (2, [(6, .l (.o false 23 (.list (.int .i64))))]), none⟩], [], [], [], []⟩
theorem k_i_PointsIn (x : PMs.den e_i_PointsIn.ps) : funK c_i_PointsIn Try.f83 e_i_PointsIn.ps e_i_PointsIn.rs x = e_i_PointsIn.F x := by kernel_rfl
theorem o_i_PointsIn : FnOk Try.prog e_i_PointsIn.f ∧ Ctr Try.prog e_i_PointsIn := mkCtr (C := c_i_PointsIn) m_ (⟨o_i_IsRegion, o_i_lattice, o_i_HasPoint, trivial⟩) Try.func83 (by kernel_rfl) k_i_PointsIn
/-! loop.example/g00959/impl.IsImplied -/
noncomputable def i_IsImplied_s4 (x1 : (List Int) × Int) (v3 : List (List Int)) (v4 : Int) : Option ((Int) ⊕ ((Unit) ⊕ (Bool))) :=
 cond (decide (v4 < (v3.length : Int)))
 ((idx v3 v4).bind fun v5 => (i_dot x1.1 v5).bind fun v6 => cond (decide (v6 > x1.2))
 (some (.inr (.inr false)))
 (some (.inl (IntKind.i64.wrap (v4 + (1 : Int))))))
 (some (.inr (.inl ())))
noncomputable def i_IsImplied (x0 : Int × (List ((List Int) × Int))) (x1 : (List Int) × Int) : Option (Bool) :=
(i_IsRegion (x0.1, x0.2)).bind fun v1 => cond (!v1)
 (some false)
 ((i_IsHalf x0.1 (x1.1, x1.2)).bind fun v2 => cond (!v2)
 (some false)
 ((i_PointsIn (x0.1, x0.2)).bind fun v3 => (iter (i_IsImplied_s4 x1 v3) (0 : Int)).bind fun v7 => match v7 with
 | .inl v8 => (some true)
 | .inr v9 => (some v9)))
noncomputable def e_i_IsImplied : CallE := ⟨36, [.d false (.prod (.int .i64) (.list (.prod (.list (.int .i64)) (.int .i64)))), .d false (.prod (.list (.int .i64)) (.int .i64))], [.l (.d false .bool)], fun x => i_IsImplied x.1 x.2⟩
noncomputable def c_i_IsImplied : Ctx := ⟨Try.prog, TT, [e_i_IsRegion, e_i_IsHalf, e_i_PointsIn, e_i_dot], [⟨4, [(20, .l (.d false (.int .i64)))], some (0, []), some [(4, .l (.d false .bool))]⟩], [], [], [], []⟩
theorem k_i_IsImplied (x : PMs.den e_i_IsImplied.ps) : funK c_i_IsImplied Try.f36 e_i_IsImplied.ps e_i_IsImplied.rs x = e_i_IsImplied.F x := by kernel_rfl
theorem o_i_IsImplied : FnOk Try.prog e_i_IsImplied.f ∧ Ctr Try.prog e_i_IsImplied := mkCtr (C := c_i_IsImplied) m_ (⟨o_i_IsRegion, o_i_IsHalf, o_i_PointsIn, o_i_dot, trivial⟩) Try.func36 (by kernel_rfl) k_i_IsImplied
/-! loop.example/g00959/laws.eqHalf -/
noncomputable def w_eqHalf (x0 : (List Int) × Int) (x1 : (List Int) × Int) : Option (Bool) :=
(w_eqIntS x0.1 x1.1).bind fun v1 => cond (!v1)
 (some false)
 (cond (x0.2 != x1.2)
 (some false)
 (some true))
noncomputable def e_w_eqHalf : CallE := ⟨38, [.d false (.prod (.list (.int .i64)) (.int .i64)), .d false (.prod (.list (.int .i64)) (.int .i64))], [.l (.d false .bool)], fun x => w_eqHalf x.1 x.2⟩
noncomputable def c_w_eqHalf : Ctx := ⟨Try.prog, TT, [e_w_eqIntS], [], [], [], [], []⟩
theorem k_w_eqHalf (x : PMs.den e_w_eqHalf.ps) : funK c_w_eqHalf Try.f38 e_w_eqHalf.ps e_w_eqHalf.rs x = e_w_eqHalf.F x := by kernel_rfl
theorem o_w_eqHalf : FnOk Try.prog e_w_eqHalf.f ∧ Ctr Try.prog e_w_eqHalf := mkCtr (C := c_w_eqHalf) m_ (⟨o_w_eqIntS, trivial⟩) Try.func38 (by kernel_rfl) k_w_eqHalf
/-! loop.example/g00959/laws.eqHalfS -/
noncomputable def w_eqHalfS_s4 (x0 : List ((List Int) × Int)) (x1 : List ((List Int) × Int)) (v1 : Int) : Option ((Int) ⊕ ((Unit) ⊕ (Bool))) :=
 cond (decide (v1 < (x0.length : Int)))
 ((idx x0 v1).bind fun v2 => (idx x1 v1).bind fun v3 => (w_eqHalf v2 v3).bind fun v4 => cond (!v4)
 (some (.inr (.inr false)))
 (some (.inl (IntKind.i64.wrap (v1 + (1 : Int))))))
 (some (.inr (.inl ())))
noncomputable def w_eqHalfS (x0 : List ((List Int) × Int)) (x1 : List ((List Int) × Int)) : Option (Bool) :=
 cond ((x0.length : Int) != (x1.length : Int))
 (some false)
 ((iter (w_eqHalfS_s4 x0 x1) (0 : Int)).bind fun v5 => match v5 with
 | .inl v6 => (some true)
 | .inr v7 => (some v7))
noncomputable def e_w_eqHalfS : CallE := ⟨84, [.d false (.list (.prod (.list (.int .i64)) (.int .i64))), .d false (.list (.prod (.list (.int .i64)) (.int .i64)))], [.l (.d false .bool)], fun x => w_eqHalfS x.1 x.2⟩
noncomputable def c_w_eqHalfS : Ctx := ⟨Try.prog, TT, [e_w_eqHalf], [⟨4, [(5, .l (.d false (.int .i64)))], some (0, []), some [(4, .l (.d false .bool))]⟩], [], [], [], []⟩
theorem k_w_eqHalfS (x : PMs.den e_w_eqHalfS.ps) : funK c_w_eqHalfS Try.f84 e_w_eqHalfS.ps e_w_eqHalfS.rs x = e_w_eqHalfS.F x := by kernel_rfl
theorem o_w_eqHalfS : FnOk Try.prog e_w_eqHalfS.f ∧ Ctr Try.prog e_w_eqHalfS := mkCtr (C := c_w_eqHalfS) m_ (⟨o_w_eqHalf, trivial⟩) Try.func84 (by kernel_rfl) k_w_eqHalfS
/-! loop.example/g00959/laws.eqRegion -/
noncomputable def w_eqRegion (x0 : Int × (List ((List Int) × Int))) (x1 : Int × (List ((List Int) × Int))) : Option (Bool) :=
 cond (x0.1 != x1.1)
 (some false)
 ((w_eqHalfS x0.2 x1.2).bind fun v1 => cond (!v1)
 (some false)
 (some true))
noncomputable def e_w_eqRegion : CallE := ⟨37, [.d false (.prod (.int .i64) (.list (.prod (.list (.int .i64)) (.int .i64)))), .d false (.prod (.int .i64) (.list (.prod (.list (.int .i64)) (.int .i64))))], [.l (.d false .bool)], fun x => w_eqRegion x.1 x.2⟩
noncomputable def c_w_eqRegion : Ctx := ⟨Try.prog, TT, [e_w_eqHalfS], [], [], [], [], []⟩
theorem k_w_eqRegion (x : PMs.den e_w_eqRegion.ps) : funK c_w_eqRegion Try.f37 e_w_eqRegion.ps e_w_eqRegion.rs x = e_w_eqRegion.F x := by kernel_rfl
theorem o_w_eqRegion : FnOk Try.prog e_w_eqRegion.f ∧ Ctr Try.prog e_w_eqRegion := mkCtr (C := c_w_eqRegion) m_ (⟨o_w_eqHalfS, trivial⟩) Try.func37 (by kernel_rfl) k_w_eqRegion
/-! loop.example/g00959/laws.FnExactIsImplied -/
noncomputable def w_FnExactIsImplied (x0 : Int × (List ((List Int) × Int))) (x1 : (List Int) × Int) : Option (Bool) :=
(w_szRegion (x0.1, x0.2) (1048576 : Int)).bind fun v1 => cond (decide (v1 < (0 : Int)))
 (some true)
 ((w_szHalf (x1.1, x1.2) v1).bind fun v2 => cond (decide (v2 < (0 : Int)))
 (some true)
 ((w_toRegion (x0.1, x0.2)).bind fun v3 => (w_toHalf (x1.1, x1.2)).bind fun v4 => (s_IsImplied (v3.1, v3.2) (v4.1, v4.2)).bind fun v5 => (w_toRegion (x0.1, x0.2)).bind fun v6 => (w_toHalf (x1.1, x1.2)).bind fun v7 => (i_IsImplied (v6.1, v6.2) (v7.1, v7.2)).bind fun v8 => cond (!(v8 == v5))
 (some false)
 ((w_toRegion (x0.1, x0.2)).bind fun v9 => (w_eqRegion (v6.1, v6.2) (v9.1, v9.2)).bind fun v10 => cond (!v10)
 (some false)
 ((w_toHalf (x1.1, x1.2)).bind fun v11 => (w_eqHalf (v7.1, v7.2) (v11.1, v11.2)).bind fun v12 => cond (!v12)
 (some false)
 (some true)))))
noncomputable def e_w_FnExactIsImplied : CallE := ⟨9, [.d false (.prod (.int .i64) (.list (.prod (.list (.int .i64)) (.int .i64)))), .d false (.prod (.list (.int .i64)) (.int .i64))], [.l (.d false .bool)], fun x => w_FnExactIsImplied x.1 x.2⟩
noncomputable def c_w_FnExactIsImplied : Ctx := ⟨Try.prog, TT, [e_w_szRegion, e_w_szHalf, e_w_toRegion, e_w_toHalf, e_s_IsImplied, e_i_IsImplied, e_w_eqRegion, e_w_eqHalf], [], [], [], [], []⟩
theorem k_w_FnExactIsImplied (x : PMs.den e_w_FnExactIsImplied.ps) : funK c_w_FnExactIsImplied Try.f9 e_w_FnExactIsImplied.ps e_w_FnExactIsImplied.rs x = e_w_FnExactIsImplied.F x := by kernel_rfl
theorem o_w_FnExactIsImplied : FnOk Try.prog e_w_FnExactIsImplied.f ∧ Ctr Try.prog e_w_FnExactIsImplied := mkCtr (C := c_w_FnExactIsImplied) m_ (⟨o_w_szRegion, o_w_szHalf, o_w_toRegion, o_w_toHalf, o_s_IsImplied, o_i_IsImplied, o_w_eqRegion, o_w_eqHalf, trivial⟩) Try.func9 (by kernel_rfl) k_w_FnExactIsImplied
/-! loop.example/g00959/laws.szRational -/
noncomputable def w_szRational (x0 : (List Int) × Int) (x1 : Int) : Option (Int) :=
(w_szIntS x0.1 x1).bind fun v1 => cond (decide (v1 < (0 : Int)))
 (some (-1 : Int))
 (some v1)
noncomputable def e_w_szRational : CallE := ⟨39, [.d false (.prod (.list (.int .i64)) (.int .i64)), .d false (.int .i64)], [.l (.d false (.int .i64))], fun x => w_szRational x.1 x.2⟩
noncomputable def c_w_szRational : Ctx := ⟨Try.prog, TT, [e_w_szIntS], [], [], [], [], []⟩
theorem k_w_szRational (x : PMs.den e_w_szRational.ps) : funK c_w_szRational Try.f39 e_w_szRational.ps e_w_szRational.rs x = e_w_szRational.F x := by kernel_rfl
theorem o_w_szRational : FnOk Try.prog e_w_szRational.f ∧ Ctr Try.prog e_w_szRational := mkCtr (C := c_w_szRational) m_ (⟨o_w_szIntS, trivial⟩) Try.func39 (by kernel_rfl) k_w_szRational
/-! loop.example/g00959/laws.toRational -/
noncomputable def w_toRational (x0 : (List Int) × Int) : Option (List Int × Int) :=
(w_toIntS x0.1).bind fun v1 => some (v1, x0.2)
noncomputable def e_w_toRational : CallE := ⟨41, [.d false (.prod (.list (.int .i64)) (.int .i64))], [.a [(.o true 3 (.int .i64)), (.d false (.int .i64))]], fun x => w_toRational x⟩
noncomputable def c_w_toRational : Ctx := ⟨Try.prog, TT, [e_w_toIntS], [], [], [], [], []⟩
theorem k_w_toRational (x : PMs.den e_w_toRational.ps) : funK c_w_toRational Try.f41 e_w_toRational.ps e_w_toRational.rs x = e_w_toRational.F x := by kernel_rfl
theorem o_w_toRational : FnOk Try.prog e_w_toRational.f ∧ Ctr Try.prog e_w_toRational := mkCtr (C := c_w_toRational) m_ (⟨o_w_toIntS, trivial⟩) Try.func41 (by kernel_rfl) k_w_toRational
/-! loop.example/g00959/spec.l6Fine -/
noncomputable def s_l6Fine (x0 : (List Int) × Int) : Option (Bool) :=
(s_l1In x0.2 (1 : Int) (100000 : Int)).bind fun v1 => cond v1
 ((s_l2Small x0.1 (10000000 : Int)).bind fun v2 => some v2)
 (some false)
noncomputable def e_s_l6Fine : CallE := ⟨122, [.d false (.prod (.list (.int .i64)) (.int .i64))], [.l (.d false .bool)], fun x => s_l6Fine x⟩
noncomputable def c_s_l6Fine : Ctx := ⟨Try.prog, TT, [e_s_l1In, e_s_l2Small], [], [], [], [], []⟩
theorem k_s_l6Fine (x : PMs.den e_s_l6Fine.ps) : funK c_s_l6Fine Try.f122 e_s_l6Fine.ps e_s_l6Fine.rs x = e_s_l6Fine.F x := by kernel_rfl
theorem o_s_l6Fine : FnOk Try.prog e_s_l6Fine.f ∧ Ctr Try.prog e_s_l6Fine := mkCtr (C := c_s_l6Fine) m_ (⟨o_s_l1In, o_s_l2Small, trivial⟩) Try.func122 (by kernel_rfl) k_s_l6Fine
/-! loop.example/g00959/spec.HasRational -/
noncomputable def s_HasRational_s4 (x0 : Int × (List ((List Int) × Int))) (x1 : (List Int) × Int) (v3 : Int) : Option ((Int) ⊕ ((Unit) ⊕ (Bool))) :=
 cond (decide (v3 < (x0.2.length : Int)))
 ((idx x0.2 v3).bind fun v4 => (s_l2Dot v4.1 x1.1).bind fun v5 => (idx x0.2 v3).bind fun v6 => cond (decide (v5 > (IntKind.i64.wrap (v6.2 * x1.2))))
 (some (.inr (.inr false)))
 (some (.inl (IntKind.i64.wrap (v3 + (1 : Int))))))
 (some (.inr (.inl ())))
noncomputable def s_HasRational (x0 : Int × (List ((List Int) × Int))) (x1 : (List Int) × Int) : Option (Bool) :=
(s_IsRegion (x0.1, x0.2)).bind fun v1 => cond (!v1)
 (some false)
 ((s_l6Fine (x1.1, x1.2)).bind fun v2 => cond (!v2)
 (some false)
 (cond ((x1.1.length : Int) != x0.1)
 (some false)
 ((iter (s_HasRational_s4 x0 x1) (0 : Int)).bind fun v7 => match v7 with
 | .inl v8 => (some true)
 | .inr v9 => (some v9))))
noncomputable def e_s_HasRational : CallE := ⟨85, [.d false (.prod (.int .i64) (.list (.prod (.list (.int .i64)) (.int .i64)))), .d false (.prod (.list (.int .i64)) (.int .i64))], [.l (.d false .bool)], fun x => s_HasRational x.1 x.2⟩
noncomputable def c_s_HasRational : Ctx := ⟨Try.prog, TT, [e_s_IsRegion, e_s_l6Fine, e_s_l2Dot], [⟨4, [(5, .l (.d false (.int .i64)))], some (0, []), some [(4, .l (.d false .bool))]⟩], [], [], [], []⟩
theorem k_s_HasRational (x : PMs.den e_s_HasRational.ps) : funK c_s_HasRational Try.f85 e_s_HasRational.ps e_s_HasRational.rs x = e_s_HasRational.F x := by kernel_rfl
theorem o_s_HasRational : FnOk Try.prog e_s_HasRational.f ∧ Ctr Try.prog e_s_HasRational := mkCtr (C := c_s_HasRational) m_ (⟨o_s_IsRegion, o_s_l6Fine, o_s_l2Dot, trivial⟩) Try.func85 (by kernel_rfl) k_s_HasRational
/-! loop.example/g00959/spec.l2Add -/
noncomputable def s_l2Add_s3 (x0 : List Int) (x1 : List Int) (v1 : List Int × Int) : Option ((List Int × Int) ⊕ (List Int)) :=
 cond (decide (v1.2 < (x0.length : Int)))
 ((idx x0 v1.2).bind fun v2 => (idx x1 v1.2).bind fun v3 => (appD 8 v1.1 ([(IntKind.i64.wrap (v2 + v3))] : List Int)).bind fun v4 => some (.inl (v4, (IntKind.i64.wrap (v1.2 + (1 : Int))))))
 (some (.inr v1.1))
noncomputable def s_l2Add (x0 : List Int) (x1 : List Int) : Option (List Int) :=
(iter (s_l2Add_s3 x0 x1) (([] : List Int), (0 : Int))).bind fun v5 => some v5
noncomputable def e_s_l2Add : CallE := ⟨123, [.d false (.list (.int .i64)), .d false (.list (.int .i64))], [.l (.o true 3 (.int .i64))], fun x => s_l2Add x.1 x.2⟩
noncomputable def c_s_l2Add : Ctx := ⟨Try.prog, TT, [], [⟨3, [(5, .l (.o true 3 (.int .i64))), (6, .l (.d false (.int .i64)))], some (0, [(5, .l (.o true 3 (.int .i64)))]), none⟩], [], [], [], []⟩
theorem k_s_l2Add (x : PMs.den e_s_l2Add.ps) : funK c_s_l2Add Try.f123 e_s_l2Add.ps e_s_l2Add.rs x = e_s_l2Add.F x := by kernel_rfl
theorem o_s_l2Add : FnOk Try.prog e_s_l2Add.f ∧ Ctr Try.prog e_s_l2Add := mkCtr (C := c_s_l2Add) m_ (trivial) Try.func123 (by kernel_rfl) k_s_l2Add
/-! loop.example/g00959/spec.l3Floor -/
noncomputable def s_l3Floor (x0 : Int) (x1 : Int) : Option (Int) :=
(quoI .i64 x0 x1).bind fun v1 => (remI .i64 x0 x1).bind fun v2 => cond (decide (v2 < (0 : Int)))
 (some (IntKind.i64.wrap (v1 - (1 : Int))))
 (some v1)
noncomputable def e_s_l3Floor : CallE := ⟨138, [.d false (.int .i64), .d false (.int .i64)], [.l (.d false (.int .i64))], fun x => s_l3Floor x.1 x.2⟩
noncomputable def c_s_l3Floor : Ctx := ⟨Try.prog, TT, [], [], [], [], [], []⟩
theorem k_s_l3Floor (x : PMs.den e_s_l3Floor.ps) : funK c_s_l3Floor Try.f138 e_s_l3Floor.ps e_s_l3Floor.rs x = e_s_l3Floor.F x := by kernel_rfl
theorem o_s_l3Floor : FnOk Try.prog e_s_l3Floor.f ∧ Ctr Try.prog e_s_l3Floor := mkCtr (C := c_s_l3Floor) m_ (trivial) Try.func138 (by kernel_rfl) k_s_l3Floor
/-! loop.example/g00959/spec.l24Tight -/
noncomputable def s_l24Tight (x0 : (List Int) × Int) : Option (List Int × Int) :=
(s_l2All x0.1).bind fun v1 => (s_l2Prime x0.1).bind fun v2 => (s_l3Floor x0.2 v1).bind fun v3 => some (v2, v3)
noncomputable def e_s_l24Tight : CallE := ⟨124, [.d false (.prod (.list (.int .i64)) (.int .i64))], [.a [(.o true 3 (.int .i64)), (.d false (.int .i64))]], fun x => s_l24Tight x⟩
noncomputable def c_s_l24Tight : Ctx := ⟨Try.prog, TT, [e_s_l2All, e_s_l2Prime, e_s_l3Floor], [], [], [], [], []⟩
theorem k_s_l24Tight (x : PMs.den e_s_l24Tight.ps) : funK c_s_l24Tight Try.f124 e_s_l24Tight.ps e_s_l24Tight.rs x = e_s_l24Tight.F x := by kernel_rfl
theorem o_s_l24Tight : FnOk Try.prog e_s_l24Tight.f ∧ Ctr Try.prog e_s_l24Tight := mkCtr (C := c_s_l24Tight) m_ (⟨o_s_l2All, o_s_l2Prime, o_s_l3Floor, trivial⟩) Try.func124 (by kernel_rfl) k_s_l24Tight
/-! loop.example/g00959/spec.CombineHalves -/
noncomputable def s_CombineHalves (x0 : (List Int) × Int) (x1 : (List Int) × Int) (x2 : Int) (x3 : Int) : Option ((List Int × Int) × Bool) :=
(s_IsHalf (x0.1.length : Int) (x0.1, x0.2)).bind fun v1 => cond (!v1)
 (some ((([] : List Int), (0 : Int)), false))
 ((s_IsHalf (x0.1.length : Int) (x1.1, x1.2)).bind fun v2 => cond (!v2)
 (some ((([] : List Int), (0 : Int)), false))
 ((s_l1In x2 (0 : Int) (10 : Int)).bind fun v3 => cond (!v3)
 (some ((([] : List Int), (0 : Int)), false))
 ((s_l1In x3 (0 : Int) (10 : Int)).bind fun v4 => cond (!v4)
 (some ((([] : List Int), (0 : Int)), false))
 ((s_l2Scale x0.1 x2).bind fun v5 => (s_l2Scale x1.1 x3).bind fun v6 => (s_l2Add v5 v6).bind fun v7 => (s_IsHalf (x0.1.length : Int) (v7, (IntKind.i64.wrap ((IntKind.i64.wrap (x2 * x0.2)) + (IntKind.i64.wrap (x3 * x1.2)))))).bind fun v8 => cond (!v8)
 (some ((([] : List Int), (0 : Int)), false))
 ((s_l24Tight (v7, (IntKind.i64.wrap ((IntKind.i64.wrap (x2 * x0.2)) + (IntKind.i64.wrap (x3 * x1.2)))))).bind fun v9 => some ((v9.1, v9.2), true))))))
noncomputable def e_s_CombineHalves : CallE := ⟨86, [.d false (.prod (.list (.int .i64)) (.int .i64)), .d false (.prod (.list (.int .i64)) (.int .i64)), .d false (.int .i64), .d false (.int .i64)], [.a [(.o true 3 (.int .i64)), (.d false (.int .i64))], .l (.d false .bool)], fun x => s_CombineHalves x.1 x.2.1 x.2.2.1 x.2.2.2⟩
noncomputable def c_s_CombineHalves : Ctx := ⟨Try.prog, TT, [e_s_IsHalf, e_s_l1In, e_s_l2Scale, e_s_l2Add, e_s_l24Tight], [], [], [], [], []⟩
theorem k_s_CombineHalves (x : PMs.den e_s_CombineHalves.ps) : funK c_s_CombineHalves Try.f86 e_s_CombineHalves.ps e_s_CombineHalves.rs x = e_s_CombineHalves.F x := by kernel_rfl
theorem o_s_CombineHalves : FnOk Try.prog e_s_CombineHalves.f ∧ Ctr Try.prog e_s_CombineHalves := mkCtr (C := c_s_CombineHalves) m_ (⟨o_s_IsHalf, o_s_l1In, o_s_l2Scale, o_s_l2Add, o_s_l24Tight, trivial⟩) Try.func86 (by kernel_rfl) k_s_CombineHalves
/-! loop.example/g00959/spec.CutFor -/
noncomputable def s_CutFor_s13 (x0 : Int × (List ((List Int) × Int))) (x1 : (List Int) × Int) (v2 : (List Int × Int) × Int) (v3 : (List Int × Int) × Int) (v4 : (List Int × Int) × Int) (v5 : (List Int × Int) × Int) : Option (((List Int × Int) × Int) ⊕ ((List Int × Int) ⊕ ((List Int × Int) × Bool))) :=
 cond (decide (v5.2 ≤ (3 : Int)))
 ((idx x0.2 v2.2).bind fun v6 => (idx x0.2 v3.2).bind fun v7 => (s_CombineHalves v6 v7 v4.2 v5.2).bind fun v8 => cond v8.2
 ((s_l2Dot v8.1.1 x1.1).bind fun v9 => cond (decide (v9 > (IntKind.i64.wrap (v8.1.2 * x1.2))))
 (some (.inr (.inr ((v8.1.1, v8.1.2), true))))
 (some (.inl ((v5.1.1, v5.1.2), (IntKind.i64.wrap (v5.2 + (1 : Int)))))))
 (some (.inl ((v5.1.1, v5.1.2), (IntKind.i64.wrap (v5.2 + (1 : Int)))))))
 (some (.inr (.inl (v5.1.1, v5.1.2))))
noncomputable def s_CutFor_s10 (x0 : Int × (List ((List Int) × Int))) (x1 : (List Int) × Int) (v2 : (List Int × Int) × Int) (v3 : (List Int × Int) × Int) (v4 : (List Int × Int) × Int) : Option (((List Int × Int) × Int) ⊕ ((List Int × Int) ⊕ ((List Int × Int) × Bool))) :=
 cond (decide (v4.2 ≤ (3 : Int)))
 ((iter (s_CutFor_s13 x0 x1 v2 v3 v4) ((v4.1.1, v4.1.2), (0 : Int))).bind fun v10 => match v10 with
 | .inl v11 => (some (.inl ((v11.1, v11.2), (IntKind.i64.wrap (v4.2 + (1 : Int))))))
 | .inr v12 => (some (.inr (.inr ((v12.1.1, v12.1.2), v12.2)))))
 (some (.inr (.inl (v4.1.1, v4.1.2))))
noncomputable def s_CutFor_s7 (x0 : Int × (List ((List Int) × Int))) (x1 : (List Int) × Int) (v2 : (List Int × Int) × Int) (v3 : (List Int × Int) × Int) : Option (((List Int × Int) × Int) ⊕ ((List Int × Int) ⊕ ((List Int × Int) × Bool))) :=
 cond (decide (v3.2 < (x0.2.length : Int)))
 ((iter (s_CutFor_s10 x0 x1 v2 v3) ((v3.1.1, v3.1.2), (0 : Int))).bind fun v13 => match v13 with
 | .inl v14 => (some (.inl ((v14.1, v14.2), (IntKind.i64.wrap (v3.2 + (1 : Int))))))
 | .inr v15 => (some (.inr (.inr ((v15.1.1, v15.1.2), v15.2)))))
 (some (.inr (.inl (v3.1.1, v3.1.2))))
noncomputable def s_CutFor_s4 (x0 : Int × (List ((List Int) × Int))) (x1 : (List Int) × Int) (v2 : (List Int × Int) × Int) : Option (((List Int × Int) × Int) ⊕ ((List Int × Int) ⊕ ((List Int × Int) × Bool))) :=
 cond (decide (v2.2 < (x0.2.length : Int)))
 ((iter (s_CutFor_s7 x0 x1 v2) ((v2.1.1, v2.1.2), (IntKind.i64.wrap (v2.2 + (1 : Int))))).bind fun v16 => match v16 with
 | .inl v17 => (some (.inl ((v17.1, v17.2), (IntKind.i64.wrap (v2.2 + (1 : Int))))))
 | .inr v18 => (some (.inr (.inr ((v18.1.1, v18.1.2), v18.2)))))
 (some (.inr (.inl (v2.1.1, v2.1.2))))
noncomputable def s_CutFor (x0 : Int × (List ((List Int) × Int))) (x1 : (List Int) × Int) : Option ((List Int × Int) × Bool) :=
(s_HasRational (x0.1, x0.2) (x1.1, x1.2)).bind fun v1 => cond (!v1)
 (some ((([] : List Int), (0 : Int)), false))
 ((iter (s_CutFor_s4 x0 x1) ((([] : List Int), (0 : Int)), (0 : Int))).bind fun v19 => match v19 with
 | .inl v20 => (some ((([] : List Int), (0 : Int)), false))
 | .inr v21 => (some ((v21.1.1, v21.1.2), v21.2)))
noncomputable def e_s_CutFor : CallE := ⟨40, [.d false (.prod (.int .i64) (.list (.prod (.list (.int .i64)) (.int .i64)))), .d false (.prod (.list (.int .i64)) (.int .i64))], [.a [(.o true 3 (.int .i64)), (.d false (.int .i64))], .l (.d false .bool)], fun x => s_CutFor x.1 x.2⟩
noncomputable def c_s_CutFor : Ctx := ⟨Try.prog, TT, [e_s_HasRational, e_s_CombineHalves, e_s_l2Dot], [⟨4, [(4, .b 49 [(.o true 3 (.int .i64)), (.d false (.int .i64))]), (6, .l (.d false (.int .i64)))], some (0, [(4, .b 49 [(.o true 3 (.int .i64)), (.d false (.int .i64))])]), some [(4, .b 49 [(.o true 3 (.int .i64)), (.d false (.int .i64))]), (5, .l (.d false .bool))]⟩, ⟨7, [(4, .b 49 [(.o true 3 (.int .i64)), (.d false (.int .i64))]), (7, .l (.d false (.int .i64)))], some (2, [(4, .b 49 [(.o true 3 (.int .i64)), (.d false (.int .i64))])]), some [(4, .b 49 [(.o true 3 (.int .i64)), (.d false (.int .i64))]), (5, .l (.d false .bool))]⟩, ⟨10, [(4, .b 49 [(.o true 3 (.int .i64)), (.d false (.int .i64))]), (8, .l (.d false (.int .i64)))], some (4, [(4, .b 49 [(.o true 3 (.int .i64)), (.d false (.int .i64))])]), some [(4, .b 49 [(.o true 3 (.int .i64)), (.d false (.int .i64))]), (5, .l (.d false .bool))]⟩, ⟨13, [(4, .b 49 [(.o true 3 (.int .i64)), (.d false (.int .i64))]), (9, .l (.d false (.int .i64)))], some (6, [(4, .b 49 [(.o true 3 (.int .i64)), (.d false (.int .i64))])]), some [(4, .b 49 [(.o true 3 (.int .i64)), (.d false (.int .i64))]), (5, .l (.d false .bool))]⟩], [], [], [], []⟩
theorem k_s_CutFor (x : PMs.den e_s_CutFor.ps) : funK c_s_CutFor Try.f40 e_s_CutFor.ps e_s_CutFor.rs x = e_s_CutFor.F x := by kernel_rfl
theorem o_s_CutFor : FnOk Try.prog e_s_CutFor.f ∧ Ctr Try.prog e_s_CutFor := mkCtr (C := c_s_CutFor) m_ (⟨o_s_HasRational, o_s_CombineHalves, o_s_l2Dot, trivial⟩) Try.func40 (by kernel_rfl) k_s_CutFor
/-! loop.example/g00959/impl.rationalOk -/
noncomputable def i_rationalOk (x0 : (List Int) × Int) : Option (Bool) :=
(i_within x0.2 (1 : Int) (100000 : Int)).bind fun v1 => cond v1
 ((i_allWithin x0.1 (-10000000 : Int) (10000000 : Int)).bind fun v2 => some v2)
 (some false)
noncomputable def e_i_rationalOk : CallE := ⟨125, [.d false (.prod (.list (.int .i64)) (.int .i64))], [.l (.d false .bool)], fun x => i_rationalOk x⟩
noncomputable def c_i_rationalOk : Ctx := ⟨Try.prog, TT, [e_i_within, e_i_allWithin], [], [], [], [], []⟩
theorem k_i_rationalOk (x : PMs.den e_i_rationalOk.ps) : funK c_i_rationalOk Try.f125 e_i_rationalOk.ps e_i_rationalOk.rs x = e_i_rationalOk.F x := by kernel_rfl
theorem o_i_rationalOk : FnOk Try.prog e_i_rationalOk.f ∧ Ctr Try.prog e_i_rationalOk := mkCtr (C := c_i_rationalOk) m_ (⟨o_i_within, o_i_allWithin, trivial⟩) Try.func125 (by kernel_rfl) k_i_rationalOk
/-! loop.example/g00959/impl.hasFraction -/
noncomputable def i_hasFraction_s2 (x0 : Int × (List ((List Int) × Int))) (x1 : (List Int) × Int) (v1 : Int) : Option ((Int) ⊕ ((Unit) ⊕ (Bool))) :=
 cond (decide (v1 < (x0.2.length : Int)))
 ((idx x0.2 v1).bind fun v2 => (i_dot v2.1 x1.1).bind fun v3 => cond (decide (v3 > (IntKind.i64.wrap (v2.2 * x1.2))))
 (some (.inr (.inr false)))
 (some (.inl (IntKind.i64.wrap (v1 + (1 : Int))))))
 (some (.inr (.inl ())))
noncomputable def i_hasFraction (x0 : Int × (List ((List Int) × Int))) (x1 : (List Int) × Int) : Option (Bool) :=
(iter (i_hasFraction_s2 x0 x1) (0 : Int)).bind fun v4 => match v4 with
 | .inl v5 => (some true)
 | .inr v6 => (some v6)
noncomputable def e_i_hasFraction : CallE := ⟨126, [.d false (.prod (.int .i64) (.list (.prod (.list (.int .i64)) (.int .i64)))), .d false (.prod (.list (.int .i64)) (.int .i64))], [.l (.d false .bool)], fun x => i_hasFraction x.1 x.2⟩
noncomputable def c_i_hasFraction : Ctx := ⟨Try.prog, TT, [e_i_dot], [⟨2, [(10, .l (.d false (.int .i64)))], some (0, []), some [(4, .l (.d false .bool))]⟩], [], [], [], []⟩
theorem k_i_hasFraction (x : PMs.den e_i_hasFraction.ps) : funK c_i_hasFraction Try.f126 e_i_hasFraction.ps e_i_hasFraction.rs x = e_i_hasFraction.F x := by kernel_rfl
theorem o_i_hasFraction : FnOk Try.prog e_i_hasFraction.f ∧ Ctr Try.prog e_i_hasFraction := mkCtr (C := c_i_hasFraction) m_ (⟨o_i_dot, trivial⟩) Try.func126 (by kernel_rfl) k_i_hasFraction
/-! loop.example/g00959/impl.HasRational -/
noncomputable def i_HasRational (x0 : Int × (List ((List Int) × Int))) (x1 : (List Int) × Int) : Option (Bool) :=
(i_IsRegion (x0.1, x0.2)).bind fun v1 => cond v1
 ((i_rationalOk (x1.1, x1.2)).bind fun v2 => cond v2
 (cond ((x1.1.length : Int) == x0.1)
 ((i_hasFraction (x0.1, x0.2) (x1.1, x1.2)).bind fun v3 => some v3)
 (some false))
 (some false))
 (some false)
noncomputable def e_i_HasRational : CallE := ⟨87, [.d false (.prod (.int .i64) (.list (.prod (.list (.int .i64)) (.int .i64)))), .d false (.prod (.list (.int .i64)) (.int .i64))], [.l (.d false .bool)], fun x => i_HasRational x.1 x.2⟩
noncomputable def c_i_HasRational : Ctx := ⟨Try.prog, TT, [e_i_IsRegion, e_i_rationalOk, e_i_hasFraction], [], [], [], [], []⟩
theorem k_i_HasRational (x : PMs.den e_i_HasRational.ps) : funK c_i_HasRational Try.f87 e_i_HasRational.ps e_i_HasRational.rs x = e_i_HasRational.F x := by kernel_rfl
theorem o_i_HasRational : FnOk Try.prog e_i_HasRational.f ∧ Ctr Try.prog e_i_HasRational := mkCtr (C := c_i_HasRational) m_ (⟨o_i_IsRegion, o_i_rationalOk, o_i_hasFraction, trivial⟩) Try.func87 (by kernel_rfl) k_i_HasRational
/-! loop.example/g00959/impl.less -/
noncomputable def i_less_s1 (x0 : List Int) (x1 : Int) (x2 : List Int) (v1 : List Int × Int) : Option ((List Int × Int) ⊕ (List Int)) :=
 cond (decide (v1.2 < (x0.length : Int)))
 ((inIdx v1.1.length v1.2).bind fun _ => (idx v1.1 ((v1.2).toNat : Int)).bind fun v2 => (idx x2 v1.2).bind fun v3 => (inIdx v1.1.length v1.2).bind fun _ => (inIdx v1.1.length ((v1.2).toNat : Int)).bind fun _ => some (.inl ((v1.1.set ((v1.2).toNat) (IntKind.i64.wrap (v2 - (IntKind.i64.wrap (x1 * v3))))), (IntKind.i64.wrap (v1.2 + (1 : Int))))))
 (some (.inr v1.1))
noncomputable def i_less (x0 : List Int) (x1 : Int) (x2 : List Int) : Option ((Unit) × (List Int) × Unit) :=
(iter (i_less_s1 x0 x1 x2) (x0, (0 : Int))).bind fun v4 => some ((), (v4, ()))
noncomputable def e_i_less : CallE := ⟨127, [.io true 3 (.int .i64), .d false (.int .i64), .d false (.list (.int .i64))], [], fun x => i_less x.1 x.2.1 x.2.2⟩
noncomputable def c_i_less : Ctx := ⟨Try.prog, TT, [], [⟨1, [(0, .l (.o true 3 (.int .i64))), (9, .l (.d false (.int .i64)))], some (0, [(0, .l (.o true 3 (.int .i64)))]), none⟩], [], [], [], []⟩
theorem k_i_less (x : PMs.den e_i_less.ps) : funK c_i_less Try.f127 e_i_less.ps e_i_less.rs x = e_i_less.F x := by kernel_rfl
theorem o_i_less : FnOk Try.prog e_i_less.f ∧ Ctr Try.prog e_i_less := mkCtr (C := c_i_less) m_ (trivial) Try.func127 (by kernel_rfl) k_i_less
/-! loop.example/g00959/impl.down -/
noncomputable def i_down (x0 : Int) (x1 : Int) : Option (Int) :=
(quoI .i64 x0 x1).bind fun v1 => (remI .i64 x0 x1).bind fun v2 => cond (decide (v2 < (0 : Int)))
 (some (IntKind.i64.wrap (v1 - (1 : Int))))
 (some v1)
noncomputable def e_i_down : CallE := ⟨139, [.d false (.int .i64), .d false (.int .i64)], [.l (.d false (.int .i64))], fun x => i_down x.1 x.2⟩
noncomputable def c_i_down : Ctx := ⟨Try.prog, TT, [], [], [], [], [], []⟩
theorem k_i_down (x : PMs.den e_i_down.ps) : funK c_i_down Try.f139 e_i_down.ps e_i_down.rs x = e_i_down.F x := by kernel_rfl
theorem o_i_down : FnOk Try.prog e_i_down.f ∧ Ctr Try.prog e_i_down := mkCtr (C := c_i_down) m_ (trivial) Try.func139 (by kernel_rfl) k_i_down
/-! loop.example/g00959/impl.TightenHalf -/
noncomputable def i_TightenHalf_s6 (v2 : Int) (v3 : List Int) (v5 : (List Int × Int) × (List Int × Int) × Int) : Option (((List Int × Int) × (List Int × Int) × Int) ⊕ ((List Int × Int) × List Int × Int)) :=
 cond (decide (v5.2.2 < (v3.length : Int)))
 ((inIdx v5.2.1.1.length v5.2.2).bind fun _ => (idx v5.2.1.1 ((v5.2.2).toNat : Int)).bind fun v6 => (quoI .i64 v6 v2).bind fun v7 => (inIdx v5.2.1.1.length v5.2.2).bind fun _ => (inIdx v5.2.1.1.length ((v5.2.2).toNat : Int)).bind fun _ => some (.inl ((v5.1.1, v5.1.2), (((v5.2.1.1.set ((v5.2.2).toNat) v7), v5.2.1.2), (IntKind.i64.wrap (v5.2.2 + (1 : Int)))))))
 (some (.inr ((v5.1.1, v5.1.2), (v5.2.1.1, v5.2.1.2))))
noncomputable def i_TightenHalf (x0 : (List Int) × Int) : Option ((List Int × Int) × Bool) :=
(i_IsHalf (x0.1.length : Int) (x0.1, x0.2)).bind fun v1 => cond (!v1)
 (some ((([] : List Int), (0 : Int)), false))
 ((i_gcdAll x0.1).bind fun v2 => (i_copyInts x0.1).bind fun v3 => (i_down x0.2 v2).bind fun v4 => (iter (i_TightenHalf_s6 v2 v3) ((([] : List Int), (0 : Int)), ((v3, v4), (0 : Int)))).bind fun v8 => some ((v8.2.1, v8.2.2), true))
noncomputable def e_i_TightenHalf : CallE := ⟨128, [.d false (.prod (.list (.int .i64)) (.int .i64))], [.a [(.o true 3 (.int .i64)), (.d false (.int .i64))], .l (.d false .bool)], fun x => i_TightenHalf x⟩
noncomputable def c_i_TightenHalf : Ctx := ⟨Try.prog, TT, [e_i_IsHalf, e_i_gcdAll, e_i_copyInts, e_i_down], [⟨6, [(2, .b 49 [(.o true 3 (.int .i64)), (.d false (.int .i64))]), (5, .b 49 [(.o true 3 (.int .i64)), (.d false (.int .i64))]), (28, .l (.d false (.int .i64)))], some (0, [(2, .b 49 [(.o true 3 (.int .i64)), (.d false (.int .i64))]), (5, .b 49 [(.o true 3 (.int .i64)), (.d false (.int .i64))])]), none⟩], [], [], [], []⟩
theorem k_i_TightenHalf (x : PMs.den e_i_TightenHalf.ps) : funK c_i_TightenHalf Try.f128 e_i_TightenHalf.ps e_i_TightenHalf.rs x = e_i_TightenHalf.F x := by kernel_rfl
theorem o_i_TightenHalf : FnOk Try.prog e_i_TightenHalf.f ∧ Ctr Try.prog e_i_TightenHalf := mkCtr (C := c_i_TightenHalf) m_ (⟨o_i_IsHalf, o_i_gcdAll, o_i_copyInts, o_i_down, trivial⟩) Try.func128 (by kernel_rfl) k_i_TightenHalf
/-! loop.example/g00959/impl.CombineHalves -/
noncomputable def i_CombineHalves (x0 : (List Int) × Int) (x1 : (List Int) × Int) (x2 : Int) (x3 : Int) : Option ((List Int × Int) × Bool) :=
(i_IsHalf (x0.1.length : Int) (x0.1, x0.2)).bind fun v1 => cond (!v1)
 (some ((([] : List Int), (0 : Int)), false))
 ((i_IsHalf (x0.1.length : Int) (x1.1, x1.2)).bind fun v2 => cond (!v2)
 (some ((([] : List Int), (0 : Int)), false))
 ((i_within x2 (0 : Int) (10 : Int)).bind fun v3 => cond (!v3)
 (some ((([] : List Int), (0 : Int)), false))
 ((i_within x3 (0 : Int) (10 : Int)).bind fun v4 => cond (!v4)
 (some ((([] : List Int), (0 : Int)), false))
 ((mkD 8 (x0.1.length : Int) (0 : Int)).bind fun v5 => (i_less v5 (IntKind.i64.wrap (0 - x2)) x0.1).bind fun v6 => (i_less v6.2.1 (IntKind.i64.wrap (0 - x3)) x1.1).bind fun v7 => (i_TightenHalf (v7.2.1, (IntKind.i64.wrap ((IntKind.i64.wrap (x2 * x0.2)) + (IntKind.i64.wrap (x3 * x1.2)))))).bind fun v8 => some ((v8.1.1, v8.1.2), v8.2)))))
noncomputable def e_i_CombineHalves : CallE := ⟨88, [.d false (.prod (.list (.int .i64)) (.int .i64)), .d false (.prod (.list (.int .i64)) (.int .i64)), .d false (.int .i64), .d false (.int .i64)], [.a [(.o true 3 (.int .i64)), (.d false (.int .i64))], .l (.d false .bool)], fun x => i_CombineHalves x.1 x.2.1 x.2.2.1 x.2.2.2⟩
noncomputable def c_i_CombineHalves : Ctx := ⟨Try.prog, TT, [e_i_IsHalf, e_i_within, e_i_less, e_i_TightenHalf], [], [], [], [], []⟩
theorem k_i_CombineHalves (x : PMs.den e_i_CombineHalves.ps) : funK c_i_CombineHalves Try.f88 e_i_CombineHalves.ps e_i_CombineHalves.rs x = e_i_CombineHalves.F x := by kernel_rfl
theorem o_i_CombineHalves : FnOk Try.prog e_i_CombineHalves.f ∧ Ctr Try.prog e_i_CombineHalves := mkCtr (C := c_i_CombineHalves) m_ (⟨o_i_IsHalf, o_i_within, o_i_less, o_i_TightenHalf, trivial⟩) Try.func88 (by kernel_rfl) k_i_CombineHalves
/-! loop.example/g00959/impl.CutFor -/
noncomputable def i_CutFor_s13 (x1 : (List Int) × Int) (v3 : (List Int) × Int) (v6 : (List Int) × Int) (v7 : (List Int × Int) × Int) (v8 : (List Int × Int) × Int) : Option (((List Int × Int) × Int) ⊕ ((List Int × Int) ⊕ ((List Int × Int) × Bool))) :=
 cond (decide (v8.2 ≤ (3 : Int)))
 ((i_CombineHalves (v3.1, v3.2) (v6.1, v6.2) v7.2 v8.2).bind fun v9 => cond v9.2
 ((i_dot v9.1.1 x1.1).bind fun v10 => cond (decide (v10 > (IntKind.i64.wrap (v9.1.2 * x1.2))))
 (some (.inr (.inr ((v9.1.1, v9.1.2), true))))
 (some (.inl ((v8.1.1, v8.1.2), (IntKind.i64.wrap (v8.2 + (1 : Int)))))))
 (some (.inl ((v8.1.1, v8.1.2), (IntKind.i64.wrap (v8.2 + (1 : Int)))))))
 (some (.inr (.inl (v8.1.1, v8.1.2))))
noncomputable def i_CutFor_s10 (x1 : (List Int) × Int) (v3 : (List Int) × Int) (v6 : (List Int) × Int) (v7 : (List Int × Int) × Int) : Option (((List Int × Int) × Int) ⊕ ((List Int × Int) ⊕ ((List Int × Int) × Bool))) :=
 cond (decide (v7.2 ≤ (3 : Int)))
 ((iter (i_CutFor_s13 x1 v3 v6 v7) ((v7.1.1, v7.1.2), (0 : Int))).bind fun v11 => match v11 with
 | .inl v12 => (some (.inl ((v12.1, v12.2), (IntKind.i64.wrap (v7.2 + (1 : Int))))))
 | .inr v13 => (some (.inr (.inr ((v13.1.1, v13.1.2), v13.2)))))
 (some (.inr (.inl (v7.1.1, v7.1.2))))
noncomputable def i_CutFor_s7 (x1 : (List Int) × Int) (v3 : (List Int) × Int) (v4 : List ((List Int) × Int)) (v5 : (List Int × Int) × Int) : Option (((List Int × Int) × Int) ⊕ ((List Int × Int) ⊕ ((List Int × Int) × Bool))) :=
 cond (decide (v5.2 < (v4.length : Int)))
 ((idx v4 v5.2).bind fun v6 => (iter (i_CutFor_s10 x1 v3 v6) ((v5.1.1, v5.1.2), (0 : Int))).bind fun v14 => match v14 with
 | .inl v15 => (some (.inl ((v15.1, v15.2), (IntKind.i64.wrap (v5.2 + (1 : Int))))))
 | .inr v16 => (some (.inr (.inr ((v16.1.1, v16.1.2), v16.2)))))
 (some (.inr (.inl (v5.1.1, v5.1.2))))
noncomputable def i_CutFor_s4 (x0 : Int × (List ((List Int) × Int))) (x1 : (List Int) × Int) (v2 : (List Int × Int) × Int) : Option (((List Int × Int) × Int) ⊕ ((List Int × Int) ⊕ ((List Int × Int) × Bool))) :=
 cond (decide (v2.2 < (x0.2.length : Int)))
 ((idx x0.2 v2.2).bind fun v3 => (subl x0.2 (IntKind.i64.wrap (v2.2 + (1 : Int))) (x0.2.length : Int)).bind fun v4 => (iter (i_CutFor_s7 x1 v3 v4) ((v2.1.1, v2.1.2), (0 : Int))).bind fun v17 => match v17 with
 | .inl v18 => (some (.inl ((v18.1, v18.2), (IntKind.i64.wrap (v2.2 + (1 : Int))))))
 | .inr v19 => (some (.inr (.inr ((v19.1.1, v19.1.2), v19.2)))))
 (some (.inr (.inl (v2.1.1, v2.1.2))))
noncomputable def i_CutFor (x0 : Int × (List ((List Int) × Int))) (x1 : (List Int) × Int) : Option ((List Int × Int) × Bool) :=
(i_HasRational (x0.1, x0.2) (x1.1, x1.2)).bind fun v1 => cond (!v1)
 (some ((([] : List Int), (0 : Int)), false))
 ((iter (i_CutFor_s4 x0 x1) ((([] : List Int), (0 : Int)), (0 : Int))).bind fun v20 => match v20 with
 | .inl v21 => (some ((([] : List Int), (0 : Int)), false))
 | .inr v22 => (some ((v22.1.1, v22.1.2), v22.2)))
noncomputable def e_i_CutFor : CallE := ⟨42, [.d false (.prod (.int .i64) (.list (.prod (.list (.int .i64)) (.int .i64)))), .d false (.prod (.list (.int .i64)) (.int .i64))], [.a [(.o true 3 (.int .i64)), (.d false (.int .i64))], .l (.d false .bool)], fun x => i_CutFor x.1 x.2⟩
noncomputable def c_i_CutFor : Ctx := ⟨Try.prog, TT, [e_i_HasRational, e_i_CombineHalves, e_i_dot], [⟨4, [(4, .b 49 [(.o true 3 (.int .i64)), (.d false (.int .i64))]), (22, .l (.d false (.int .i64)))], some (0, [(4, .b 49 [(.o true 3 (.int .i64)), (.d false (.int .i64))])]), some [(4, .b 49 [(.o true 3 (.int .i64)), (.d false (.int .i64))]), (5, .l (.d false .bool))]⟩, ⟨7, [(4, .b 49 [(.o true 3 (.int .i64)), (.d false (.int .i64))]), (33, .l (.d false (.int .i64)))], some (2, [(4, .b 49 [(.o true 3 (.int .i64)), (.d false (.int .i64))])]), some [(4, .b 49 [(.o true 3 (.int .i64)), (.d false (.int .i64))]), (5, .l (.d false .bool))]⟩, ⟨10, [(4, .b 49 [(.o true 3 (.int .i64)), (.d false (.int .i64))]), (10, .l (.d false (.int .i64)))], some (4, [(4, .b 49 [(.o true 3 (.int .i64)), (.d false (.int .i64))])]), some [(4, .b 49 [(.o true 3 (.int .i64)), (.d false (.int .i64))]), (5, .l (.d false .bool))]⟩, ⟨13, [(4, .b 49 [(.o true 3 (.int .i64)), (.d false (.int .i64))]), (11, .l (.d false (.int .i64)))], some (6, [(4, .b 49 [(.o true 3 (.int .i64)), (.d false (.int .i64))])]), some [(4, .b 49 [(.o true 3 (.int .i64)), (.d false (.int .i64))]), (5, .l (.d false .bool))]⟩], [], [], [], []⟩
theorem k_i_CutFor (x : PMs.den e_i_CutFor.ps) : funK c_i_CutFor Try.f42 e_i_CutFor.ps e_i_CutFor.rs x = e_i_CutFor.F x := by kernel_rfl
theorem o_i_CutFor : FnOk Try.prog e_i_CutFor.f ∧ Ctr Try.prog e_i_CutFor := mkCtr (C := c_i_CutFor) m_ (⟨o_i_HasRational, o_i_CombineHalves, o_i_dot, trivial⟩) Try.func42 (by kernel_rfl) k_i_CutFor
/-! loop.example/g00959/laws.eqRational -/
noncomputable def w_eqRational (x0 : (List Int) × Int) (x1 : (List Int) × Int) : Option (Bool) :=
(w_eqIntS x0.1 x1.1).bind fun v1 => cond (!v1)
 (some false)
 (cond (x0.2 != x1.2)
 (some false)
 (some true))
noncomputable def e_w_eqRational : CallE := ⟨43, [.d false (.prod (.list (.int .i64)) (.int .i64)), .d false (.prod (.list (.int .i64)) (.int .i64))], [.l (.d false .bool)], fun x => w_eqRational x.1 x.2⟩
noncomputable def c_w_eqRational : Ctx := ⟨Try.prog, TT, [e_w_eqIntS], [], [], [], [], []⟩
theorem k_w_eqRational (x : PMs.den e_w_eqRational.ps) : funK c_w_eqRational Try.f43 e_w_eqRational.ps e_w_eqRational.rs x = e_w_eqRational.F x := by kernel_rfl
theorem o_w_eqRational : FnOk Try.prog e_w_eqRational.f ∧ Ctr Try.prog e_w_eqRational := mkCtr (C := c_w_eqRational) m_ (⟨o_w_eqIntS, trivial⟩) Try.func43 (by kernel_rfl) k_w_eqRational
/-! loop.example/g00959/laws.heldIntS -/
noncomputable def w_heldIntS_s2 (x0 : List Int) (v1 : Int × Int) : Option ((Int × Int) ⊕ ((Int) ⊕ (Int))) :=
 cond (decide (v1.2 < (x0.length : Int)))
 ((idx x0 v1.2).bind fun v2 => cond (v2 != v1.1)
 (some (.inr (.inr (-1 : Int))))
 (some (.inl ((IntKind.i64.wrap (v1.1 + (1 : Int))), (IntKind.i64.wrap (v1.2 + (1 : Int)))))))
 (some (.inr (.inl v1.1)))
noncomputable def w_heldIntS (x0 : List Int) (x1 : Int) : Option (Int) :=
(iter (w_heldIntS_s2 x0) (x1, (0 : Int))).bind fun v3 => match v3 with
 | .inl v4 => (some v4)
 | .inr v5 => (some v5)
noncomputable def e_w_heldIntS : CallE := ⟨28, [.d false (.list (.int .i64)), .d false (.int .i64)], [.l (.d false (.int .i64))], fun x => w_heldIntS x.1 x.2⟩
noncomputable def c_w_heldIntS : Ctx := ⟨Try.prog, TT, [], [⟨2, [(1, .l (.d false (.int .i64))), (5, .l (.d false (.int .i64)))], some (0, [(1, .l (.d false (.int .i64)))]), some [(4, .l (.d false (.int .i64)))]⟩], [], [], [], []⟩
theorem k_w_heldIntS (x : PMs.den e_w_heldIntS.ps) : funK c_w_heldIntS Try.f28 e_w_heldIntS.ps e_w_heldIntS.rs x = e_w_heldIntS.F x := by kernel_rfl
theorem o_w_heldIntS : FnOk Try.prog e_w_heldIntS.f ∧ Ctr Try.prog e_w_heldIntS := mkCtr (C := c_w_heldIntS) m_ (trivial) Try.func28 (by kernel_rfl) k_w_heldIntS
/-! loop.example/g00959/laws.heldHalf -/
noncomputable def w_heldHalf (x0 : (List Int) × Int) (x1 : Int) : Option (Int) :=
(w_heldIntS x0.1 x1).bind fun v1 => cond (decide (v1 < (0 : Int)))
 (some (-1 : Int))
 (some v1)
noncomputable def e_w_heldHalf : CallE := ⟨47, [.d false (.prod (.list (.int .i64)) (.int .i64)), .d false (.int .i64)], [.l (.d false (.int .i64))], fun x => w_heldHalf x.1 x.2⟩
noncomputable def c_w_heldHalf : Ctx := ⟨Try.prog, TT, [e_w_heldIntS], [], [], [], [], []⟩
theorem k_w_heldHalf (x : PMs.den e_w_heldHalf.ps) : funK c_w_heldHalf Try.f47 e_w_heldHalf.ps e_w_heldHalf.rs x = e_w_heldHalf.F x := by kernel_rfl
theorem o_w_heldHalf : FnOk Try.prog e_w_heldHalf.f ∧ Ctr Try.prog e_w_heldHalf := mkCtr (C := c_w_heldHalf) m_ (⟨o_w_heldIntS, trivial⟩) Try.func47 (by kernel_rfl) k_w_heldHalf
end Go.Proofs.Ytajlabmnpimeeaa
