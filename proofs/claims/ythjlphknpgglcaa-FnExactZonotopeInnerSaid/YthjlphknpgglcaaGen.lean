/- Plain functions. -/
import Derived.Test.YthjlphknpgglcaaProg
import Derived.Test.YthjlphknpgglcaaEng33
import Derived.KernelRfl
namespace Go.Proofs.Ythjlphknpgglcaa
open Go Go.Proofs.Ythjlphknpgglcaa.Eng
set_option linter.unusedVariables false
set_option maxRecDepth 100000
noncomputable def TT : List (TypeId × Ty) := [(3, (.int .i64)), (9, .str), (36, (.list (.int .i64)))]
theorem m_ : Try.prog.follows .mixedOrders = true := by kernel_rfl
/-! loop.example/g00959/spec.ExampleText -/
noncomputable def s_ExampleText (x0 : Int) : Option (ByteArray) :=
 cond (x0 == (1 : Int))
 (some (⟨#[48, 44, 48, 32, 49, 44, 48, 32, 48, 44, 49]⟩ : ByteArray))
 (cond (x0 == (2 : Int))
 (some (⟨#[48, 44, 48, 32, 50, 44, 48, 32, 48, 44, 50]⟩ : ByteArray))
 (cond (x0 == (3 : Int))
 (some (⟨#[45, 49, 44, 45, 49, 32, 49, 44, 45, 49, 32, 49, 44, 49, 32, 45, 49, 44, 49]⟩ : ByteArray))
 (cond (x0 == (4 : Int))
 (some (⟨#[48, 44, 48, 32, 51, 44, 48, 32, 49, 44, 50]⟩ : ByteArray))
 (cond (x0 == (5 : Int))
 (some (⟨#[45, 49, 44, 45, 49, 32, 50, 44, 45, 49, 32, 45, 49, 44, 50]⟩ : ByteArray))
 (cond (x0 == (6 : Int))
 (some (⟨#[48, 44, 48, 32, 53, 44, 50, 32, 51, 44, 52]⟩ : ByteArray))
 (some (⟨#[]⟩ : ByteArray)))))))
noncomputable def e_s_ExampleText : CallE := ⟨15, [.d false (.int .i64)], [.l (.d false .str)], fun x => s_ExampleText x⟩
noncomputable def c_s_ExampleText : Ctx := ⟨Try.prog, TT, [], [], []⟩
theorem k_s_ExampleText (x : PMs.den e_s_ExampleText.ps) : funK c_s_ExampleText Try.f15 e_s_ExampleText.ps e_s_ExampleText.rs x = e_s_ExampleText.F x := by kernel_rfl
theorem o_s_ExampleText : FnOk Try.prog e_s_ExampleText.f ∧ Ctr Try.prog e_s_ExampleText := mkCtr (C := c_s_ExampleText) m_ (trivial) Try.func15 (by kernel_rfl) k_s_ExampleText
/-! loop.example/g00959/impl.within -/
noncomputable def i_within (x0 : Int) (x1 : Int) (x2 : Int) : Option (Bool) :=
 cond (decide (x0 ≥ x1))
 (some (decide (x0 ≤ x2)))
 (some false)
noncomputable def e_i_within : CallE := ⟨55, [.d false (.int .i64), .d false (.int .i64), .d false (.int .i64)], [.l (.d false .bool)], fun x => i_within x.1 x.2.1 x.2.2⟩
noncomputable def c_i_within : Ctx := ⟨Try.prog, TT, [], [], []⟩
theorem k_i_within (x : PMs.den e_i_within.ps) : funK c_i_within Try.f55 e_i_within.ps e_i_within.rs x = e_i_within.F x := by kernel_rfl
theorem o_i_within : FnOk Try.prog e_i_within.f ∧ Ctr Try.prog e_i_within := mkCtr (C := c_i_within) m_ (trivial) Try.func55 (by kernel_rfl) k_i_within
/-! loop.example/g00959/impl.ExampleText -/
noncomputable def i_ExampleText (x0 : Int) : Option (ByteArray) :=
(i_within x0 (1 : Int) (([(⟨#[48, 44, 48, 32, 49, 44, 48, 32, 48, 44, 49]⟩ : ByteArray), (⟨#[48, 44, 48, 32, 50, 44, 48, 32, 48, 44, 50]⟩ : ByteArray), (⟨#[45, 49, 44, 45, 49, 32, 49, 44, 45, 49, 32, 49, 44, 49, 32, 45, 49, 44, 49]⟩ : ByteArray), (⟨#[48, 44, 48, 32, 51, 44, 48, 32, 49, 44, 50]⟩ : ByteArray), (⟨#[45, 49, 44, 45, 49, 32, 50, 44, 45, 49, 32, 45, 49, 44, 50]⟩ : ByteArray), (⟨#[48, 44, 48, 32, 53, 44, 50, 32, 51, 44, 52]⟩ : ByteArray)] : List ByteArray).length : Int)).bind fun v1 => cond (!v1)
 (some (⟨#[]⟩ : ByteArray))
 ((inIdx ([(⟨#[48, 44, 48, 32, 49, 44, 48, 32, 48, 44, 49]⟩ : ByteArray), (⟨#[48, 44, 48, 32, 50, 44, 48, 32, 48, 44, 50]⟩ : ByteArray), (⟨#[45, 49, 44, 45, 49, 32, 49, 44, 45, 49, 32, 49, 44, 49, 32, 45, 49, 44, 49]⟩ : ByteArray), (⟨#[48, 44, 48, 32, 51, 44, 48, 32, 49, 44, 50]⟩ : ByteArray), (⟨#[45, 49, 44, 45, 49, 32, 50, 44, 45, 49, 32, 45, 49, 44, 50]⟩ : ByteArray), (⟨#[48, 44, 48, 32, 53, 44, 50, 32, 51, 44, 52]⟩ : ByteArray)] : List ByteArray).length (IntKind.i64.wrap (x0 - (1 : Int)))).bind fun _ => (idx ([(⟨#[48, 44, 48, 32, 49, 44, 48, 32, 48, 44, 49]⟩ : ByteArray), (⟨#[48, 44, 48, 32, 50, 44, 48, 32, 48, 44, 50]⟩ : ByteArray), (⟨#[45, 49, 44, 45, 49, 32, 49, 44, 45, 49, 32, 49, 44, 49, 32, 45, 49, 44, 49]⟩ : ByteArray), (⟨#[48, 44, 48, 32, 51, 44, 48, 32, 49, 44, 50]⟩ : ByteArray), (⟨#[45, 49, 44, 45, 49, 32, 50, 44, 45, 49, 32, 45, 49, 44, 50]⟩ : ByteArray), (⟨#[48, 44, 48, 32, 53, 44, 50, 32, 51, 44, 52]⟩ : ByteArray)] : List ByteArray) (((IntKind.i64.wrap (x0 - (1 : Int)))).toNat : Int)).bind fun v2 => some v2)
noncomputable def e_i_ExampleText : CallE := ⟨16, [.d false (.int .i64)], [.l (.d false .str)], fun x => i_ExampleText x⟩
noncomputable def c_i_ExampleText : Ctx := ⟨Try.prog, TT, [e_i_within], [], []⟩
theorem k_i_ExampleText (x : PMs.den e_i_ExampleText.ps) : funK c_i_ExampleText Try.f16 e_i_ExampleText.ps e_i_ExampleText.rs x = e_i_ExampleText.F x := by kernel_rfl
theorem o_i_ExampleText : FnOk Try.prog e_i_ExampleText.f ∧ Ctr Try.prog e_i_ExampleText := mkCtr (C := c_i_ExampleText) m_ (⟨o_i_within, trivial⟩) Try.func16 (by kernel_rfl) k_i_ExampleText
/-! loop.example/g00959/laws.FnExactExampleText -/
noncomputable def w_FnExactExampleText (x0 : Int) : Option (Bool) :=
(s_ExampleText x0).bind fun v1 => (i_ExampleText x0).bind fun v2 => cond (!(v2.toList == v1.toList))
 (some false)
 (some true)
noncomputable def e_w_FnExactExampleText : CallE := ⟨3, [.d false (.int .i64)], [.l (.d false .bool)], fun x => w_FnExactExampleText x⟩
noncomputable def c_w_FnExactExampleText : Ctx := ⟨Try.prog, TT, [e_s_ExampleText, e_i_ExampleText], [], []⟩
theorem k_w_FnExactExampleText (x : PMs.den e_w_FnExactExampleText.ps) : funK c_w_FnExactExampleText Try.f3 e_w_FnExactExampleText.ps e_w_FnExactExampleText.rs x = e_w_FnExactExampleText.F x := by kernel_rfl
theorem o_w_FnExactExampleText : FnOk Try.prog e_w_FnExactExampleText.f ∧ Ctr Try.prog e_w_FnExactExampleText := mkCtr (C := c_w_FnExactExampleText) m_ (⟨o_s_ExampleText, o_i_ExampleText, trivial⟩) Try.func3 (by kernel_rfl) k_w_FnExactExampleText
/-! loop.example/g00959/laws.szIntS -/
noncomputable def w_szIntS (x0 : List Int) (x1 : Int) : Option (Int) :=
 cond (decide ((IntKind.i64.wrap (x1 - (x0.length : Int))) < (0 : Int)))
 (some (-1 : Int))
 (some (IntKind.i64.wrap (x1 - (x0.length : Int))))
noncomputable def e_w_szIntS : CallE := ⟨58, [.d false (.list (.int .i64)), .d false (.int .i64)], [.l (.d false (.int .i64))], fun x => w_szIntS x.1 x.2⟩
noncomputable def c_w_szIntS : Ctx := ⟨Try.prog, TT, [], [], []⟩
theorem k_w_szIntS (x : PMs.den e_w_szIntS.ps) : funK c_w_szIntS Try.f58 e_w_szIntS.ps e_w_szIntS.rs x = e_w_szIntS.F x := by kernel_rfl
theorem o_w_szIntS : FnOk Try.prog e_w_szIntS.f ∧ Ctr Try.prog e_w_szIntS := mkCtr (C := c_w_szIntS) m_ (trivial) Try.func58 (by kernel_rfl) k_w_szIntS
/-! loop.example/g00959/laws.szIntSS -/
noncomputable def w_szIntSS_s5 (x0 : List (List Int)) (v1 : Int × Int) : Option ((Int × Int) ⊕ ((Int) ⊕ (Int))) :=
 cond (decide (v1.2 < (x0.length : Int)))
 ((idx x0 v1.2).bind fun v2 => (w_szIntS v2 v1.1).bind fun v3 => cond (decide (v3 < (0 : Int)))
 (some (.inr (.inr (-1 : Int))))
 (some (.inl (v3, (IntKind.i64.wrap (v1.2 + (1 : Int)))))))
 (some (.inr (.inl v1.1)))
noncomputable def w_szIntSS (x0 : List (List Int)) (x1 : Int) : Option (Int) :=
 cond (decide ((IntKind.i64.wrap (x1 - (x0.length : Int))) < (0 : Int)))
 (some (-1 : Int))
 ((iter (w_szIntSS_s5 x0) ((IntKind.i64.wrap (x1 - (x0.length : Int))), (0 : Int))).bind fun v4 => match v4 with
 | .inl v5 => (some v5)
 | .inr v6 => (some v6))
noncomputable def e_w_szIntSS : CallE := ⟨22, [.d false (.list (.list (.int .i64))), .d false (.int .i64)], [.l (.d false (.int .i64))], fun x => w_szIntSS x.1 x.2⟩
noncomputable def c_w_szIntSS : Ctx := ⟨Try.prog, TT, [e_w_szIntS], [⟨5, [(1, .l (.d false (.int .i64))), (5, .l (.d false (.int .i64)))], some (0, [(1, .l (.d false (.int .i64)))]), some [(4, .l (.d false (.int .i64)))]⟩], []⟩
theorem k_w_szIntSS (x : PMs.den e_w_szIntSS.ps) : funK c_w_szIntSS Try.f22 e_w_szIntSS.ps e_w_szIntSS.rs x = e_w_szIntSS.F x := by kernel_rfl
theorem o_w_szIntSS : FnOk Try.prog e_w_szIntSS.f ∧ Ctr Try.prog e_w_szIntSS := mkCtr (C := c_w_szIntSS) m_ (⟨o_w_szIntS, trivial⟩) Try.func22 (by kernel_rfl) k_w_szIntSS
/-! loop.example/g00959/laws.szSession -/
noncomputable def w_szSession (x0 : (List (List Int)) × (List (List Int))) (x1 : Int) : Option (Int) :=
(w_szIntSS x0.1 x1).bind fun v1 => cond (decide (v1 < (0 : Int)))
 (some (-1 : Int))
 ((w_szIntSS x0.2 v1).bind fun v2 => cond (decide (v2 < (0 : Int)))
 (some (-1 : Int))
 (some v2))
noncomputable def e_w_szSession : CallE := ⟨17, [.d false (.prod (.list (.list (.int .i64))) (.list (.list (.int .i64)))), .d false (.int .i64)], [.l (.d false (.int .i64))], fun x => w_szSession x.1 x.2⟩
noncomputable def c_w_szSession : Ctx := ⟨Try.prog, TT, [e_w_szIntSS], [], []⟩
theorem k_w_szSession (x : PMs.den e_w_szSession.ps) : funK c_w_szSession Try.f17 e_w_szSession.ps e_w_szSession.rs x = e_w_szSession.F x := by kernel_rfl
theorem o_w_szSession : FnOk Try.prog e_w_szSession.f ∧ Ctr Try.prog e_w_szSession := mkCtr (C := c_w_szSession) m_ (⟨o_w_szIntSS, trivial⟩) Try.func17 (by kernel_rfl) k_w_szSession
/-! loop.example/g00959/laws.toIntS -/
noncomputable def w_toIntS_s3 (x0 : List Int) (v2 : List Int × Int) : Option ((List Int × Int) ⊕ (List Int)) :=
 cond (decide (v2.2 < (x0.length : Int)))
 ((idx x0 v2.2).bind fun v3 => (inIdx v2.1.length v2.2).bind fun _ => (inIdx v2.1.length ((v2.2).toNat : Int)).bind fun _ => some (.inl ((v2.1.set ((v2.2).toNat) v3), (IntKind.i64.wrap (v2.2 + (1 : Int))))))
 (some (.inr v2.1))
noncomputable def w_toIntS (x0 : List Int) : Option (List Int) :=
(mkD 8 (x0.length : Int) (0 : Int)).bind fun v1 => (iter (w_toIntS_s3 x0) (v1, (0 : Int))).bind fun v4 => some v4
noncomputable def e_w_toIntS : CallE := ⟨63, [.d false (.list (.int .i64))], [.l (.o true 3 (.int .i64))], fun x => w_toIntS x⟩
noncomputable def c_w_toIntS : Ctx := ⟨Try.prog, TT, [], [⟨3, [(3, .l (.o true 3 (.int .i64))), (4, .l (.d false (.int .i64)))], some (0, [(3, .l (.o true 3 (.int .i64)))]), none⟩], []⟩
theorem k_w_toIntS (x : PMs.den e_w_toIntS.ps) : funK c_w_toIntS Try.f63 e_w_toIntS.ps e_w_toIntS.rs x = e_w_toIntS.F x := by kernel_rfl
theorem o_w_toIntS : FnOk Try.prog e_w_toIntS.f ∧ Ctr Try.prog e_w_toIntS := mkCtr (C := c_w_toIntS) m_ (trivial) Try.func63 (by kernel_rfl) k_w_toIntS
/-! loop.example/g00959/laws.toIntSS -/
noncomputable def w_toIntSS_s3 (x0 : List (List Int)) (v2 : List (List Int) × Int) : Option ((List (List Int) × Int) ⊕ (List (List Int))) :=
 cond (decide (v2.2 < (x0.length : Int)))
 ((idx x0 v2.2).bind fun v3 => (w_toIntS v3).bind fun v4 => (inIdx v2.1.length v2.2).bind fun _ => (inIdx v2.1.length ((v2.2).toNat : Int)).bind fun _ => some (.inl ((v2.1.set ((v2.2).toNat) v4), (IntKind.i64.wrap (v2.2 + (1 : Int))))))
 (some (.inr v2.1))
noncomputable def w_toIntSS (x0 : List (List Int)) : Option (List (List Int)) :=
(mkD 24 (x0.length : Int) ([] : List Int)).bind fun v1 => (iter (w_toIntSS_s3 x0) (v1, (0 : Int))).bind fun v5 => some v5
noncomputable def e_w_toIntSS : CallE := ⟨24, [.d false (.list (.list (.int .i64)))], [.l (.o true 36 (.list (.int .i64)))], fun x => w_toIntSS x⟩
noncomputable def c_w_toIntSS : Ctx := ⟨Try.prog, TT, [e_w_toIntS], [⟨3, [(3, .l (.o true 36 (.list (.int .i64)))), (4, .l (.d false (.int .i64)))], some (0, [(3, .l (.o true 36 (.list (.int .i64))))]), none⟩], []⟩
theorem k_w_toIntSS (x : PMs.den e_w_toIntSS.ps) : funK c_w_toIntSS Try.f24 e_w_toIntSS.ps e_w_toIntSS.rs x = e_w_toIntSS.F x := by kernel_rfl
theorem o_w_toIntSS : FnOk Try.prog e_w_toIntSS.f ∧ Ctr Try.prog e_w_toIntSS := mkCtr (C := c_w_toIntSS) m_ (⟨o_w_toIntS, trivial⟩) Try.func24 (by kernel_rfl) k_w_toIntSS
/-! loop.example/g00959/laws.toSession -/
noncomputable def w_toSession (x0 : (List (List Int)) × (List (List Int))) : Option (List (List Int) × List (List Int)) :=
(w_toIntSS x0.1).bind fun v1 => (w_toIntSS x0.2).bind fun v2 => some (v1, v2)
noncomputable def e_w_toSession : CallE := ⟨19, [.d false (.prod (.list (.list (.int .i64))) (.list (.list (.int .i64))))], [.a [(.o true 36 (.list (.int .i64))), (.o true 36 (.list (.int .i64)))]], fun x => w_toSession x⟩
noncomputable def c_w_toSession : Ctx := ⟨Try.prog, TT, [e_w_toIntSS], [], []⟩
theorem k_w_toSession (x : PMs.den e_w_toSession.ps) : funK c_w_toSession Try.f19 e_w_toSession.ps e_w_toSession.rs x = e_w_toSession.F x := by kernel_rfl
theorem o_w_toSession : FnOk Try.prog e_w_toSession.f ∧ Ctr Try.prog e_w_toSession := mkCtr (C := c_w_toSession) m_ (⟨o_w_toIntSS, trivial⟩) Try.func19 (by kernel_rfl) k_w_toSession
/-! loop.example/g00959/spec.l2Same -/
noncomputable def s_l2Same_s4 (x0 : List Int) (x1 : List Int) (v1 : Int) : Option ((Int) ⊕ ((Unit) ⊕ (Bool))) :=
 cond (decide (v1 < (x0.length : Int)))
 ((idx x0 v1).bind fun v2 => (idx x1 v1).bind fun v3 => cond (v2 != v3)
 (some (.inr (.inr false)))
 (some (.inl (IntKind.i64.wrap (v1 + (1 : Int))))))
 (some (.inr (.inl ())))
noncomputable def s_l2Same (x0 : List Int) (x1 : List Int) : Option (Bool) :=
 cond ((x0.length : Int) != (x1.length : Int))
 (some false)
 ((iter (s_l2Same_s4 x0 x1) (0 : Int)).bind fun v4 => match v4 with
 | .inl v5 => (some true)
 | .inr v6 => (some v6))
noncomputable def e_s_l2Same : CallE := ⟨89, [.d false (.list (.int .i64)), .d false (.list (.int .i64))], [.l (.d false .bool)], fun x => s_l2Same x.1 x.2⟩
noncomputable def c_s_l2Same : Ctx := ⟨Try.prog, TT, [], [⟨4, [(5, .l (.d false (.int .i64)))], some (0, []), some [(4, .l (.d false .bool))]⟩], []⟩
theorem k_s_l2Same (x : PMs.den e_s_l2Same.ps) : funK c_s_l2Same Try.f89 e_s_l2Same.ps e_s_l2Same.rs x = e_s_l2Same.F x := by kernel_rfl
theorem o_s_l2Same : FnOk Try.prog e_s_l2Same.f ∧ Ctr Try.prog e_s_l2Same := mkCtr (C := c_s_l2Same) m_ (trivial) Try.func89 (by kernel_rfl) k_s_l2Same
/-! loop.example/g00959/spec.l7SameList -/
noncomputable def s_l7SameList_s4 (x0 : List (List Int)) (x1 : List (List Int)) (v1 : Int) : Option ((Int) ⊕ ((Unit) ⊕ (Bool))) :=
 cond (decide (v1 < (x0.length : Int)))
 ((idx x0 v1).bind fun v2 => (idx x1 v1).bind fun v3 => (s_l2Same v2 v3).bind fun v4 => cond (!v4)
 (some (.inr (.inr false)))
 (some (.inl (IntKind.i64.wrap (v1 + (1 : Int))))))
 (some (.inr (.inl ())))
noncomputable def s_l7SameList (x0 : List (List Int)) (x1 : List (List Int)) : Option (Bool) :=
 cond ((x0.length : Int) != (x1.length : Int))
 (some false)
 ((iter (s_l7SameList_s4 x0 x1) (0 : Int)).bind fun v5 => match v5 with
 | .inl v6 => (some true)
 | .inr v7 => (some v7))
noncomputable def e_s_l7SameList : CallE := ⟨56, [.d false (.list (.list (.int .i64))), .d false (.list (.list (.int .i64)))], [.l (.d false .bool)], fun x => s_l7SameList x.1 x.2⟩
noncomputable def c_s_l7SameList : Ctx := ⟨Try.prog, TT, [e_s_l2Same], [⟨4, [(5, .l (.d false (.int .i64)))], some (0, []), some [(4, .l (.d false .bool))]⟩], []⟩
theorem k_s_l7SameList (x : PMs.den e_s_l7SameList.ps) : funK c_s_l7SameList Try.f56 e_s_l7SameList.ps e_s_l7SameList.rs x = e_s_l7SameList.F x := by kernel_rfl
theorem o_s_l7SameList : FnOk Try.prog e_s_l7SameList.f ∧ Ctr Try.prog e_s_l7SameList := mkCtr (C := c_s_l7SameList) m_ (⟨o_s_l2Same, trivial⟩) Try.func56 (by kernel_rfl) k_s_l7SameList
/-! loop.example/g00959/spec.EqualSession -/
noncomputable def s_EqualSession (x0 : (List (List Int)) × (List (List Int))) (x1 : (List (List Int)) × (List (List Int))) : Option (Bool) :=
(s_l7SameList x0.1 x1.1).bind fun v1 => cond v1
 ((s_l7SameList x0.2 x1.2).bind fun v2 => some v2)
 (some false)
noncomputable def e_s_EqualSession : CallE := ⟨18, [.d false (.prod (.list (.list (.int .i64))) (.list (.list (.int .i64)))), .d false (.prod (.list (.list (.int .i64))) (.list (.list (.int .i64))))], [.l (.d false .bool)], fun x => s_EqualSession x.1 x.2⟩
noncomputable def c_s_EqualSession : Ctx := ⟨Try.prog, TT, [e_s_l7SameList], [], []⟩
theorem k_s_EqualSession (x : PMs.den e_s_EqualSession.ps) : funK c_s_EqualSession Try.f18 e_s_EqualSession.ps e_s_EqualSession.rs x = e_s_EqualSession.F x := by kernel_rfl
theorem o_s_EqualSession : FnOk Try.prog e_s_EqualSession.f ∧ Ctr Try.prog e_s_EqualSession := mkCtr (C := c_s_EqualSession) m_ (⟨o_s_l7SameList, trivial⟩) Try.func18 (by kernel_rfl) k_s_EqualSession
/-! slices.Equal[[]int,int] -/
noncomputable def g_slices_Equal_s4 (x0 : List Int) (x1 : List Int) (v1 : Int) : Option ((Int) ⊕ ((Unit) ⊕ (Bool))) :=
 cond (decide (v1 < (x0.length : Int)))
 ((idx x0 v1).bind fun v2 => (idx x1 v1).bind fun v3 => cond (v2 != v3)
 (some (.inr (.inr false)))
 (some (.inl (IntKind.i64.wrap (v1 + (1 : Int))))))
 (some (.inr (.inl ())))
noncomputable def g_slices_Equal (x0 : List Int) (x1 : List Int) : Option (Bool) :=
 cond ((x0.length : Int) != (x1.length : Int))
 (some false)
 ((iter (g_slices_Equal_s4 x0 x1) (0 : Int)).bind fun v4 => match v4 with
 | .inl v5 => (some true)
 | .inr v6 => (some v6))
noncomputable def e_g_slices_Equal : CallE := ⟨91, [.d false (.list (.int .i64)), .d false (.list (.int .i64))], [.l (.d false .bool)], fun x => g_slices_Equal x.1 x.2⟩
noncomputable def c_g_slices_Equal : Ctx := ⟨Try.prog, TT, [], [⟨4, [(13, .l (.d false (.int .i64)))], some (0, []), some [(4, .l (.d false .bool))]⟩], []⟩
theorem k_g_slices_Equal (x : PMs.den e_g_slices_Equal.ps) : funK c_g_slices_Equal Try.f91 e_g_slices_Equal.ps e_g_slices_Equal.rs x = e_g_slices_Equal.F x := by kernel_rfl
theorem o_g_slices_Equal : FnOk Try.prog e_g_slices_Equal.f ∧ Ctr Try.prog e_g_slices_Equal := mkCtr (C := c_g_slices_Equal) m_ (trivial) Try.func91 (by kernel_rfl) k_g_slices_Equal
/-! slices.EqualFunc[[][]int,[][]int,[]int,[]int] -/
noncomputable def g_slices_EqualFunc_s4 (x0 : List (List Int)) (x1 : List (List Int)) (v1 : Int) : Option ((Int) ⊕ ((Unit) ⊕ (Bool))) :=
 cond (decide (v1 < (x0.length : Int)))
 ((idx x0 v1).bind fun v2 => (idx x1 v1).bind fun v3 => (g_slices_Equal v2 v3).bind fun v4 => cond (!v4)
 (some (.inr (.inr false)))
 (some (.inl (IntKind.i64.wrap (v1 + (1 : Int))))))
 (some (.inr (.inl ())))
noncomputable def g_slices_EqualFunc (x0 : List (List Int)) (x1 : List (List Int)) : Option (Bool) :=
 cond ((x0.length : Int) != (x1.length : Int))
 (some false)
 ((iter (g_slices_EqualFunc_s4 x0 x1) (0 : Int)).bind fun v5 => match v5 with
 | .inl v6 => (some true)
 | .inr v7 => (some v7))
noncomputable def e_g_slices_EqualFunc : CallE := ⟨90, [.d false (.list (.list (.int .i64))), .d false (.list (.list (.int .i64))), .f 91], [.l (.d false .bool)], fun x => g_slices_EqualFunc x.1 x.2.1⟩
noncomputable def c_g_slices_EqualFunc : Ctx := ⟨Try.prog, TT, [e_g_slices_Equal], [⟨4, [(17, .l (.d false (.int .i64)))], some (0, []), some [(6, .l (.d false .bool))]⟩], []⟩
theorem k_g_slices_EqualFunc (x : PMs.den e_g_slices_EqualFunc.ps) : funK c_g_slices_EqualFunc Try.f90 e_g_slices_EqualFunc.ps e_g_slices_EqualFunc.rs x = e_g_slices_EqualFunc.F x := by kernel_rfl
theorem o_g_slices_EqualFunc : FnOk Try.prog e_g_slices_EqualFunc.f ∧ Ctr Try.prog e_g_slices_EqualFunc := mkCtr (C := c_g_slices_EqualFunc) m_ (⟨o_g_slices_Equal, trivial⟩) Try.func90 (by kernel_rfl) k_g_slices_EqualFunc
/-! loop.example/g00959/impl.equalPoints -/
noncomputable def i_equalPoints (x0 : List (List Int)) (x1 : List (List Int)) : Option (Bool) :=
(g_slices_EqualFunc x0 x1).bind fun v1 => some v1
noncomputable def e_i_equalPoints : CallE := ⟨57, [.d false (.list (.list (.int .i64))), .d false (.list (.list (.int .i64)))], [.l (.d false .bool)], fun x => i_equalPoints x.1 x.2⟩
noncomputable def c_i_equalPoints : Ctx := ⟨Try.prog, TT, [e_g_slices_EqualFunc], [], []⟩
theorem k_i_equalPoints (x : PMs.den e_i_equalPoints.ps) : funK c_i_equalPoints Try.f57 e_i_equalPoints.ps e_i_equalPoints.rs x = e_i_equalPoints.F x := by kernel_rfl
theorem o_i_equalPoints : FnOk Try.prog e_i_equalPoints.f ∧ Ctr Try.prog e_i_equalPoints := mkCtr (C := c_i_equalPoints) m_ (⟨o_g_slices_EqualFunc, trivial⟩) Try.func57 (by kernel_rfl) k_i_equalPoints
/-! loop.example/g00959/impl.EqualSession -/
noncomputable def i_EqualSession (x0 : (List (List Int)) × (List (List Int))) (x1 : (List (List Int)) × (List (List Int))) : Option (Bool) :=
(i_equalPoints x0.1 x1.1).bind fun v1 => cond v1
 ((i_equalPoints x0.2 x1.2).bind fun v2 => some v2)
 (some false)
noncomputable def e_i_EqualSession : CallE := ⟨20, [.d false (.prod (.list (.list (.int .i64))) (.list (.list (.int .i64)))), .d false (.prod (.list (.list (.int .i64))) (.list (.list (.int .i64))))], [.l (.d false .bool)], fun x => i_EqualSession x.1 x.2⟩
noncomputable def c_i_EqualSession : Ctx := ⟨Try.prog, TT, [e_i_equalPoints], [], []⟩
theorem k_i_EqualSession (x : PMs.den e_i_EqualSession.ps) : funK c_i_EqualSession Try.f20 e_i_EqualSession.ps e_i_EqualSession.rs x = e_i_EqualSession.F x := by kernel_rfl
theorem o_i_EqualSession : FnOk Try.prog e_i_EqualSession.f ∧ Ctr Try.prog e_i_EqualSession := mkCtr (C := c_i_EqualSession) m_ (⟨o_i_equalPoints, trivial⟩) Try.func20 (by kernel_rfl) k_i_EqualSession
/-! loop.example/g00959/laws.eqIntS -/
noncomputable def w_eqIntS_s4 (x0 : List Int) (x1 : List Int) (v1 : Int) : Option ((Int) ⊕ ((Unit) ⊕ (Bool))) :=
 cond (decide (v1 < (x0.length : Int)))
 ((idx x0 v1).bind fun v2 => (idx x1 v1).bind fun v3 => cond (v2 != v3)
 (some (.inr (.inr false)))
 (some (.inl (IntKind.i64.wrap (v1 + (1 : Int))))))
 (some (.inr (.inl ())))
noncomputable def w_eqIntS (x0 : List Int) (x1 : List Int) : Option (Bool) :=
 cond ((x0.length : Int) != (x1.length : Int))
 (some false)
 ((iter (w_eqIntS_s4 x0 x1) (0 : Int)).bind fun v4 => match v4 with
 | .inl v5 => (some true)
 | .inr v6 => (some v6))
noncomputable def e_w_eqIntS : CallE := ⟨67, [.d false (.list (.int .i64)), .d false (.list (.int .i64))], [.l (.d false .bool)], fun x => w_eqIntS x.1 x.2⟩
noncomputable def c_w_eqIntS : Ctx := ⟨Try.prog, TT, [], [⟨4, [(5, .l (.d false (.int .i64)))], some (0, []), some [(4, .l (.d false .bool))]⟩], []⟩
theorem k_w_eqIntS (x : PMs.den e_w_eqIntS.ps) : funK c_w_eqIntS Try.f67 e_w_eqIntS.ps e_w_eqIntS.rs x = e_w_eqIntS.F x := by kernel_rfl
theorem o_w_eqIntS : FnOk Try.prog e_w_eqIntS.f ∧ Ctr Try.prog e_w_eqIntS := mkCtr (C := c_w_eqIntS) m_ (trivial) Try.func67 (by kernel_rfl) k_w_eqIntS
/-! loop.example/g00959/laws.eqIntSS -/
noncomputable def w_eqIntSS_s4 (x0 : List (List Int)) (x1 : List (List Int)) (v1 : Int) : Option ((Int) ⊕ ((Unit) ⊕ (Bool))) :=
 cond (decide (v1 < (x0.length : Int)))
 ((idx x0 v1).bind fun v2 => (idx x1 v1).bind fun v3 => (w_eqIntS v2 v3).bind fun v4 => cond (!v4)
 (some (.inr (.inr false)))
 (some (.inl (IntKind.i64.wrap (v1 + (1 : Int))))))
 (some (.inr (.inl ())))
noncomputable def w_eqIntSS (x0 : List (List Int)) (x1 : List (List Int)) : Option (Bool) :=
 cond ((x0.length : Int) != (x1.length : Int))
 (some false)
 ((iter (w_eqIntSS_s4 x0 x1) (0 : Int)).bind fun v5 => match v5 with
 | .inl v6 => (some true)
 | .inr v7 => (some v7))
noncomputable def e_w_eqIntSS : CallE := ⟨26, [.d false (.list (.list (.int .i64))), .d false (.list (.list (.int .i64)))], [.l (.d false .bool)], fun x => w_eqIntSS x.1 x.2⟩
noncomputable def c_w_eqIntSS : Ctx := ⟨Try.prog, TT, [e_w_eqIntS], [⟨4, [(5, .l (.d false (.int .i64)))], some (0, []), some [(4, .l (.d false .bool))]⟩], []⟩
theorem k_w_eqIntSS (x : PMs.den e_w_eqIntSS.ps) : funK c_w_eqIntSS Try.f26 e_w_eqIntSS.ps e_w_eqIntSS.rs x = e_w_eqIntSS.F x := by kernel_rfl
theorem o_w_eqIntSS : FnOk Try.prog e_w_eqIntSS.f ∧ Ctr Try.prog e_w_eqIntSS := mkCtr (C := c_w_eqIntSS) m_ (⟨o_w_eqIntS, trivial⟩) Try.func26 (by kernel_rfl) k_w_eqIntSS
/-! loop.example/g00959/laws.eqSession -/
noncomputable def w_eqSession (x0 : (List (List Int)) × (List (List Int))) (x1 : (List (List Int)) × (List (List Int))) : Option (Bool) :=
(w_eqIntSS x0.1 x1.1).bind fun v1 => cond (!v1)
 (some false)
 ((w_eqIntSS x0.2 x1.2).bind fun v2 => cond (!v2)
 (some false)
 (some true))
noncomputable def e_w_eqSession : CallE := ⟨21, [.d false (.prod (.list (.list (.int .i64))) (.list (.list (.int .i64)))), .d false (.prod (.list (.list (.int .i64))) (.list (.list (.int .i64))))], [.l (.d false .bool)], fun x => w_eqSession x.1 x.2⟩
noncomputable def c_w_eqSession : Ctx := ⟨Try.prog, TT, [e_w_eqIntSS], [], []⟩
theorem k_w_eqSession (x : PMs.den e_w_eqSession.ps) : funK c_w_eqSession Try.f21 e_w_eqSession.ps e_w_eqSession.rs x = e_w_eqSession.F x := by kernel_rfl
theorem o_w_eqSession : FnOk Try.prog e_w_eqSession.f ∧ Ctr Try.prog e_w_eqSession := mkCtr (C := c_w_eqSession) m_ (⟨o_w_eqIntSS, trivial⟩) Try.func21 (by kernel_rfl) k_w_eqSession
/-! loop.example/g00959/laws.FnExactEqualSession -/
noncomputable def w_FnExactEqualSession (x0 : (List (List Int)) × (List (List Int))) (x1 : (List (List Int)) × (List (List Int))) : Option (Bool) :=
(w_szSession (x0.1, x0.2) (1048576 : Int)).bind fun v1 => cond (decide (v1 < (0 : Int)))
 (some true)
 ((w_szSession (x1.1, x1.2) v1).bind fun v2 => cond (decide (v2 < (0 : Int)))
 (some true)
 ((w_toSession (x0.1, x0.2)).bind fun v3 => (w_toSession (x1.1, x1.2)).bind fun v4 => (s_EqualSession (v3.1, v3.2) (v4.1, v4.2)).bind fun v5 => (w_toSession (x0.1, x0.2)).bind fun v6 => (w_toSession (x1.1, x1.2)).bind fun v7 => (i_EqualSession (v6.1, v6.2) (v7.1, v7.2)).bind fun v8 => cond (!(v8 == v5))
 (some false)
 ((w_toSession (x0.1, x0.2)).bind fun v9 => (w_eqSession (v6.1, v6.2) (v9.1, v9.2)).bind fun v10 => cond (!v10)
 (some false)
 ((w_toSession (x1.1, x1.2)).bind fun v11 => (w_eqSession (v7.1, v7.2) (v11.1, v11.2)).bind fun v12 => cond (!v12)
 (some false)
 (some true)))))
noncomputable def e_w_FnExactEqualSession : CallE := ⟨4, [.d false (.prod (.list (.list (.int .i64))) (.list (.list (.int .i64)))), .d false (.prod (.list (.list (.int .i64))) (.list (.list (.int .i64))))], [.l (.d false .bool)], fun x => w_FnExactEqualSession x.1 x.2⟩
noncomputable def c_w_FnExactEqualSession : Ctx := ⟨Try.prog, TT, [e_w_szSession, e_w_toSession, e_s_EqualSession, e_i_EqualSession, e_w_eqSession], [], []⟩
theorem k_w_FnExactEqualSession (x : PMs.den e_w_FnExactEqualSession.ps) : funK c_w_FnExactEqualSession Try.f4 e_w_FnExactEqualSession.ps e_w_FnExactEqualSession.rs x = e_w_FnExactEqualSession.F x := by kernel_rfl
theorem o_w_FnExactEqualSession : FnOk Try.prog e_w_FnExactEqualSession.f ∧ Ctr Try.prog e_w_FnExactEqualSession := mkCtr (C := c_w_FnExactEqualSession) m_ (⟨o_w_szSession, o_w_toSession, o_s_EqualSession, o_i_EqualSession, o_w_eqSession, trivial⟩) Try.func4 (by kernel_rfl) k_w_FnExactEqualSession
/-! loop.example/g00959/spec.l1In -/
noncomputable def s_l1In (x0 : Int) (x1 : Int) (x2 : Int) : Option (Bool) :=
 cond (decide (x0 ≥ x1))
 (some (decide (x0 ≤ x2)))
 (some false)
noncomputable def e_s_l1In : CallE := ⟨62, [.d false (.int .i64), .d false (.int .i64), .d false (.int .i64)], [.l (.d false .bool)], fun x => s_l1In x.1 x.2.1 x.2.2⟩
noncomputable def c_s_l1In : Ctx := ⟨Try.prog, TT, [], [], []⟩
theorem k_s_l1In (x : PMs.den e_s_l1In.ps) : funK c_s_l1In Try.f62 e_s_l1In.ps e_s_l1In.rs x = e_s_l1In.F x := by kernel_rfl
theorem o_s_l1In : FnOk Try.prog e_s_l1In.f ∧ Ctr Try.prog e_s_l1In := mkCtr (C := c_s_l1In) m_ (trivial) Try.func62 (by kernel_rfl) k_s_l1In
/-! loop.example/g00959/spec.l2Small -/
noncomputable def s_l2Small_s2 (x0 : List Int) (x1 : Int) (v1 : Int) : Option ((Int) ⊕ ((Unit) ⊕ (Bool))) :=
 cond (decide (v1 < (x0.length : Int)))
 ((idx x0 v1).bind fun v2 => (s_l1In v2 (IntKind.i64.wrap (0 - x1)) x1).bind fun v3 => cond (!v3)
 (some (.inr (.inr false)))
 (some (.inl (IntKind.i64.wrap (v1 + (1 : Int))))))
 (some (.inr (.inl ())))
noncomputable def s_l2Small (x0 : List Int) (x1 : Int) : Option (Bool) :=
(iter (s_l2Small_s2 x0 x1) (0 : Int)).bind fun v4 => match v4 with
 | .inl v5 => (some true)
 | .inr v6 => (some v6)
noncomputable def e_s_l2Small : CallE := ⟨59, [.d false (.list (.int .i64)), .d false (.int .i64)], [.l (.d false .bool)], fun x => s_l2Small x.1 x.2⟩
noncomputable def c_s_l2Small : Ctx := ⟨Try.prog, TT, [e_s_l1In], [⟨2, [(5, .l (.d false (.int .i64)))], some (0, []), some [(4, .l (.d false .bool))]⟩], []⟩
theorem k_s_l2Small (x : PMs.den e_s_l2Small.ps) : funK c_s_l2Small Try.f59 e_s_l2Small.ps e_s_l2Small.rs x = e_s_l2Small.F x := by kernel_rfl
theorem o_s_l2Small : FnOk Try.prog e_s_l2Small.f ∧ Ctr Try.prog e_s_l2Small := mkCtr (C := c_s_l2Small) m_ (⟨o_s_l1In, trivial⟩) Try.func59 (by kernel_rfl) k_s_l2Small
/-! loop.example/g00959/spec.l1Max -/
noncomputable def s_l1Max (x0 : Int) (x1 : Int) : Option (Int) :=
 cond (decide (x0 > x1))
 (some x0)
 (some x1)
noncomputable def e_s_l1Max : CallE := ⟨106, [.d false (.int .i64), .d false (.int .i64)], [.l (.d false (.int .i64))], fun x => s_l1Max x.1 x.2⟩
noncomputable def c_s_l1Max : Ctx := ⟨Try.prog, TT, [], [], []⟩
theorem k_s_l1Max (x : PMs.den e_s_l1Max.ps) : funK c_s_l1Max Try.f106 e_s_l1Max.ps e_s_l1Max.rs x = e_s_l1Max.F x := by kernel_rfl
theorem o_s_l1Max : FnOk Try.prog e_s_l1Max.f ∧ Ctr Try.prog e_s_l1Max := mkCtr (C := c_s_l1Max) m_ (trivial) Try.func106 (by kernel_rfl) k_s_l1Max
/-! loop.example/g00959/spec.l1Abs -/
noncomputable def s_l1Abs (x0 : Int) : Option (Int) :=
(s_l1Max x0 (IntKind.i64.wrap (0 - x0))).bind fun v1 => some v1
noncomputable def e_s_l1Abs : CallE := ⟨98, [.d false (.int .i64)], [.l (.d false (.int .i64))], fun x => s_l1Abs x⟩
noncomputable def c_s_l1Abs : Ctx := ⟨Try.prog, TT, [e_s_l1Max], [], []⟩
theorem k_s_l1Abs (x : PMs.den e_s_l1Abs.ps) : funK c_s_l1Abs Try.f98 e_s_l1Abs.ps e_s_l1Abs.rs x = e_s_l1Abs.F x := by kernel_rfl
theorem o_s_l1Abs : FnOk Try.prog e_s_l1Abs.f ∧ Ctr Try.prog e_s_l1Abs := mkCtr (C := c_s_l1Abs) m_ (⟨o_s_l1Max, trivial⟩) Try.func98 (by kernel_rfl) k_s_l1Abs
/-! loop.example/g00959/spec.l2Gcd -/
noncomputable def s_l2Gcd_s3 (v3 : Int × Int) : Option ((Int × Int) ⊕ (Int)) :=
 cond (v3.2 != (0 : Int))
 ((remI .i64 v3.1 v3.2).bind fun v4 => some (.inl (v3.2, v4)))
 (some (.inr v3.1))
noncomputable def s_l2Gcd (x0 : Int) (x1 : Int) : Option (Int) :=
(s_l1Abs x0).bind fun v1 => (s_l1Abs x1).bind fun v2 => (iter (s_l2Gcd_s3) (v1, v2)).bind fun v5 => some v5
noncomputable def e_s_l2Gcd : CallE := ⟨92, [.d false (.int .i64), .d false (.int .i64)], [.l (.d false (.int .i64))], fun x => s_l2Gcd x.1 x.2⟩
noncomputable def c_s_l2Gcd : Ctx := ⟨Try.prog, TT, [e_s_l1Abs], [⟨3, [(0, .l (.d false (.int .i64))), (1, .l (.d false (.int .i64)))], some (0, [(0, .l (.d false (.int .i64)))]), none⟩], []⟩
theorem k_s_l2Gcd (x : PMs.den e_s_l2Gcd.ps) : funK c_s_l2Gcd Try.f92 e_s_l2Gcd.ps e_s_l2Gcd.rs x = e_s_l2Gcd.F x := by kernel_rfl
theorem o_s_l2Gcd : FnOk Try.prog e_s_l2Gcd.f ∧ Ctr Try.prog e_s_l2Gcd := mkCtr (C := c_s_l2Gcd) m_ (⟨o_s_l1Abs, trivial⟩) Try.func92 (by kernel_rfl) k_s_l2Gcd
/-! loop.example/g00959/spec.l2All -/
noncomputable def s_l2All_s3 (x0 : List Int) (v1 : Int × Int) : Option ((Int × Int) ⊕ (Int)) :=
 cond (decide (v1.2 < (x0.length : Int)))
 ((idx x0 v1.2).bind fun v2 => (s_l2Gcd v1.1 v2).bind fun v3 => some (.inl (v3, (IntKind.i64.wrap (v1.2 + (1 : Int))))))
 (some (.inr v1.1))
noncomputable def s_l2All (x0 : List Int) : Option (Int) :=
(iter (s_l2All_s3 x0) ((0 : Int), (0 : Int))).bind fun v4 => some v4
noncomputable def e_s_l2All : CallE := ⟨60, [.d false (.list (.int .i64))], [.l (.d false (.int .i64))], fun x => s_l2All x⟩
noncomputable def c_s_l2All : Ctx := ⟨Try.prog, TT, [e_s_l2Gcd], [⟨3, [(3, .l (.d false (.int .i64))), (4, .l (.d false (.int .i64)))], some (0, [(3, .l (.d false (.int .i64)))]), none⟩], []⟩
theorem k_s_l2All (x : PMs.den e_s_l2All.ps) : funK c_s_l2All Try.f60 e_s_l2All.ps e_s_l2All.rs x = e_s_l2All.F x := by kernel_rfl
theorem o_s_l2All : FnOk Try.prog e_s_l2All.f ∧ Ctr Try.prog e_s_l2All := mkCtr (C := c_s_l2All) m_ (⟨o_s_l2Gcd, trivial⟩) Try.func60 (by kernel_rfl) k_s_l2All
/-! loop.example/g00959/spec.l7Cross -/
noncomputable def s_l7Cross (x0 : List Int) (x1 : List Int) : Option (Int) :=
(idx x0 (0 : Int)).bind fun v1 => (idx x1 (1 : Int)).bind fun v2 => (idx x0 (1 : Int)).bind fun v3 => (idx x1 (0 : Int)).bind fun v4 => some (IntKind.i64.wrap ((IntKind.i64.wrap (v1 * v2)) - (IntKind.i64.wrap (v3 * v4))))
noncomputable def e_s_l7Cross : CallE := ⟨61, [.d false (.list (.int .i64)), .d false (.list (.int .i64))], [.l (.d false (.int .i64))], fun x => s_l7Cross x.1 x.2⟩
noncomputable def c_s_l7Cross : Ctx := ⟨Try.prog, TT, [], [], []⟩
theorem k_s_l7Cross (x : PMs.den e_s_l7Cross.ps) : funK c_s_l7Cross Try.f61 e_s_l7Cross.ps e_s_l7Cross.rs x = e_s_l7Cross.F x := by kernel_rfl
theorem o_s_l7Cross : FnOk Try.prog e_s_l7Cross.f ∧ Ctr Try.prog e_s_l7Cross := mkCtr (C := c_s_l7Cross) m_ (trivial) Try.func61 (by kernel_rfl) k_s_l7Cross
/-! loop.example/g00959/spec.AreGens -/
noncomputable def s_AreGens_s3 (x0 : List (List Int)) (v1 : Bool × Int) : Option ((Bool × Int) ⊕ ((Bool) ⊕ (Bool))) :=
 cond (decide (v1.2 < (x0.length : Int)))
 ((idx x0 v1.2).bind fun v2 => cond ((v2.length : Int) != (2 : Int))
 (some (.inr (.inr false)))
 ((idx x0 v1.2).bind fun v3 => (s_l2Small v3 (6 : Int)).bind fun v4 => cond (!v4)
 (some (.inr (.inr false)))
 ((idx x0 v1.2).bind fun v5 => (s_l2All v5).bind fun v6 => cond (v6 == (0 : Int))
 (some (.inr (.inr false)))
 (cond v1.1
 ((idx x0 (0 : Int)).bind fun v7 => (idx x0 v1.2).bind fun v8 => (s_l7Cross v7 v8).bind fun v9 => some (.inl ((v9 == (0 : Int)), (IntKind.i64.wrap (v1.2 + (1 : Int))))))
 (some (.inl (false, (IntKind.i64.wrap (v1.2 + (1 : Int))))))))))
 (some (.inr (.inl v1.1)))
noncomputable def s_AreGens (x0 : List (List Int)) : Option (Bool) :=
(iter (s_AreGens_s3 x0) (true, (0 : Int))).bind fun v10 => match v10 with
 | .inl v11 => ((s_l1In (x0.length : Int) (2 : Int) (5 : Int)).bind fun v13 => cond v13
 (some (!v11))
 (some false))
 | .inr v12 => (some v12)
noncomputable def e_s_AreGens : CallE := ⟨23, [.d false (.list (.list (.int .i64)))], [.l (.d false .bool)], fun x => s_AreGens x⟩
noncomputable def c_s_AreGens : Ctx := ⟨Try.prog, TT, [e_s_l2Small, e_s_l2All, e_s_l7Cross, e_s_l1In], [⟨3, [(3, .l (.d false .bool)), (4, .l (.d false (.int .i64)))], some (0, [(3, .l (.d false .bool))]), some [(2, .l (.d false .bool))]⟩], []⟩
theorem k_s_AreGens (x : PMs.den e_s_AreGens.ps) : funK c_s_AreGens Try.f23 e_s_AreGens.ps e_s_AreGens.rs x = e_s_AreGens.F x := by kernel_rfl
theorem o_s_AreGens : FnOk Try.prog e_s_AreGens.f ∧ Ctr Try.prog e_s_AreGens := mkCtr (C := c_s_AreGens) m_ (⟨o_s_l2Small, o_s_l2All, o_s_l7Cross, o_s_l1In, trivial⟩) Try.func23 (by kernel_rfl) k_s_AreGens
/-! loop.example/g00959/impl.allWithin -/
noncomputable def i_allWithin_s2 (x0 : List Int) (x1 : Int) (x2 : Int) (v1 : Int) : Option ((Int) ⊕ ((Unit) ⊕ (Bool))) :=
 cond (decide (v1 < (x0.length : Int)))
 ((idx x0 v1).bind fun v2 => (i_within v2 x1 x2).bind fun v3 => cond (!v3)
 (some (.inr (.inr false)))
 (some (.inl (IntKind.i64.wrap (v1 + (1 : Int))))))
 (some (.inr (.inl ())))
noncomputable def i_allWithin (x0 : List Int) (x1 : Int) (x2 : Int) : Option (Bool) :=
(iter (i_allWithin_s2 x0 x1 x2) (0 : Int)).bind fun v4 => match v4 with
 | .inl v5 => (some true)
 | .inr v6 => (some v6)
noncomputable def e_i_allWithin : CallE := ⟨93, [.d false (.list (.int .i64)), .d false (.int .i64), .d false (.int .i64)], [.l (.d false .bool)], fun x => i_allWithin x.1 x.2.1 x.2.2⟩
noncomputable def c_i_allWithin : Ctx := ⟨Try.prog, TT, [e_i_within], [⟨2, [(11, .l (.d false (.int .i64)))], some (0, []), some [(6, .l (.d false .bool))]⟩], []⟩
theorem k_i_allWithin (x : PMs.den e_i_allWithin.ps) : funK c_i_allWithin Try.f93 e_i_allWithin.ps e_i_allWithin.rs x = e_i_allWithin.F x := by kernel_rfl
theorem o_i_allWithin : FnOk Try.prog e_i_allWithin.f ∧ Ctr Try.prog e_i_allWithin := mkCtr (C := c_i_allWithin) m_ (⟨o_i_within, trivial⟩) Try.func93 (by kernel_rfl) k_i_allWithin
/-! loop.example/g00959/impl.isPoint -/
noncomputable def i_isPoint (x0 : List Int) (x1 : Int) : Option (Bool) :=
 cond ((x0.length : Int) == (2 : Int))
 ((i_allWithin x0 (IntKind.i64.wrap (0 - x1)) x1).bind fun v1 => some v1)
 (some false)
noncomputable def e_i_isPoint : CallE := ⟨64, [.d false (.list (.int .i64)), .d false (.int .i64)], [.l (.d false .bool)], fun x => i_isPoint x.1 x.2⟩
noncomputable def c_i_isPoint : Ctx := ⟨Try.prog, TT, [e_i_allWithin], [], []⟩
theorem k_i_isPoint (x : PMs.den e_i_isPoint.ps) : funK c_i_isPoint Try.f64 e_i_isPoint.ps e_i_isPoint.rs x = e_i_isPoint.F x := by kernel_rfl
theorem o_i_isPoint : FnOk Try.prog e_i_isPoint.f ∧ Ctr Try.prog e_i_isPoint := mkCtr (C := c_i_isPoint) m_ (⟨o_i_allWithin, trivial⟩) Try.func64 (by kernel_rfl) k_i_isPoint
/-! loop.example/g00959/impl.magnitude -/
noncomputable def i_magnitude (x0 : Int) : Option (Int) :=
 some (if (IntKind.i64.wrap (0 - x0)) > x0 then (IntKind.i64.wrap (0 - x0)) else x0)
noncomputable def e_i_magnitude : CallE := ⟨95, [.d false (.int .i64)], [.l (.d false (.int .i64))], fun x => i_magnitude x⟩
noncomputable def c_i_magnitude : Ctx := ⟨Try.prog, TT, [], [], []⟩
theorem k_i_magnitude (x : PMs.den e_i_magnitude.ps) : funK c_i_magnitude Try.f95 e_i_magnitude.ps e_i_magnitude.rs x = e_i_magnitude.F x := by kernel_rfl
theorem o_i_magnitude : FnOk Try.prog e_i_magnitude.f ∧ Ctr Try.prog e_i_magnitude := mkCtr (C := c_i_magnitude) m_ (trivial) Try.func95 (by kernel_rfl) k_i_magnitude
/-! loop.example/g00959/impl.divisor -/
noncomputable def i_divisor_s1 (v1 : Int × Int) : Option ((Int × Int) ⊕ (Int)) :=
 cond (v1.2 != (0 : Int))
 ((remI .i64 v1.1 v1.2).bind fun v2 => some (.inl (v1.2, v2)))
 (some (.inr v1.1))
noncomputable def i_divisor (x0 : Int) (x1 : Int) : Option (Int) :=
(iter (i_divisor_s1) (x0, x1)).bind fun v3 => (i_magnitude v3).bind fun v4 => some v4
noncomputable def e_i_divisor : CallE := ⟨94, [.d false (.int .i64), .d false (.int .i64)], [.l (.d false (.int .i64))], fun x => i_divisor x.1 x.2⟩
noncomputable def c_i_divisor : Ctx := ⟨Try.prog, TT, [e_i_magnitude], [⟨1, [(0, .l (.d false (.int .i64))), (1, .l (.d false (.int .i64)))], some (0, [(0, .l (.d false (.int .i64)))]), none⟩], []⟩
theorem k_i_divisor (x : PMs.den e_i_divisor.ps) : funK c_i_divisor Try.f94 e_i_divisor.ps e_i_divisor.rs x = e_i_divisor.F x := by kernel_rfl
theorem o_i_divisor : FnOk Try.prog e_i_divisor.f ∧ Ctr Try.prog e_i_divisor := mkCtr (C := c_i_divisor) m_ (⟨o_i_magnitude, trivial⟩) Try.func94 (by kernel_rfl) k_i_divisor
/-! loop.example/g00959/impl.gcdAll -/
noncomputable def i_gcdAll_s3 (x0 : List Int) (v1 : Int × Int) : Option ((Int × Int) ⊕ (Int)) :=
 cond (decide (v1.2 < (x0.length : Int)))
 ((idx x0 v1.2).bind fun v2 => (i_divisor v1.1 v2).bind fun v3 => some (.inl (v3, (IntKind.i64.wrap (v1.2 + (1 : Int))))))
 (some (.inr v1.1))
noncomputable def i_gcdAll (x0 : List Int) : Option (Int) :=
(iter (i_gcdAll_s3 x0) ((0 : Int), (0 : Int))).bind fun v4 => some v4
noncomputable def e_i_gcdAll : CallE := ⟨65, [.d false (.list (.int .i64))], [.l (.d false (.int .i64))], fun x => i_gcdAll x⟩
noncomputable def c_i_gcdAll : Ctx := ⟨Try.prog, TT, [e_i_divisor], [⟨3, [(3, .l (.d false (.int .i64))), (8, .l (.d false (.int .i64)))], some (0, [(3, .l (.d false (.int .i64)))]), none⟩], []⟩
theorem k_i_gcdAll (x : PMs.den e_i_gcdAll.ps) : funK c_i_gcdAll Try.f65 e_i_gcdAll.ps e_i_gcdAll.rs x = e_i_gcdAll.F x := by kernel_rfl
theorem o_i_gcdAll : FnOk Try.prog e_i_gcdAll.f ∧ Ctr Try.prog e_i_gcdAll := mkCtr (C := c_i_gcdAll) m_ (⟨o_i_divisor, trivial⟩) Try.func65 (by kernel_rfl) k_i_gcdAll
/-! loop.example/g00959/impl.cross -/
noncomputable def i_cross (x0 : List Int) (x1 : List Int) : Option (Int) :=
(idx x0 (0 : Int)).bind fun v1 => (idx x1 (1 : Int)).bind fun v2 => (idx x0 (1 : Int)).bind fun v3 => (idx x1 (0 : Int)).bind fun v4 => some (IntKind.i64.wrap ((IntKind.i64.wrap (v1 * v2)) - (IntKind.i64.wrap (v3 * v4))))
noncomputable def e_i_cross : CallE := ⟨96, [.d false (.list (.int .i64)), .d false (.list (.int .i64))], [.l (.d false (.int .i64))], fun x => i_cross x.1 x.2⟩
noncomputable def c_i_cross : Ctx := ⟨Try.prog, TT, [], [], []⟩
theorem k_i_cross (x : PMs.den e_i_cross.ps) : funK c_i_cross Try.f96 e_i_cross.ps e_i_cross.rs x = e_i_cross.F x := by kernel_rfl
theorem o_i_cross : FnOk Try.prog e_i_cross.f ∧ Ctr Try.prog e_i_cross := mkCtr (C := c_i_cross) m_ (trivial) Try.func96 (by kernel_rfl) k_i_cross
/-! loop.example/g00959/impl.determinants -/
noncomputable def i_determinants_s6 (v2 : List Int) (v3 : List (List Int)) (v4 : Int × Int) : Option ((Int × Int) ⊕ (Int)) :=
 cond (decide (v4.2 < (v3.length : Int)))
 ((idx v3 v4.2).bind fun v5 => (i_cross v2 v5).bind fun v6 => (i_magnitude v6).bind fun v7 => some (.inl ((IntKind.i64.wrap (v4.1 + v7)), (IntKind.i64.wrap (v4.2 + (1 : Int))))))
 (some (.inr v4.1))
noncomputable def i_determinants_s3 (x0 : List (List Int)) (v1 : Int × Int) : Option ((Int × Int) ⊕ (Int)) :=
 cond (decide (v1.2 < (x0.length : Int)))
 ((idx x0 v1.2).bind fun v2 => (subl x0 (IntKind.i64.wrap (v1.2 + (1 : Int))) (x0.length : Int)).bind fun v3 => (iter (i_determinants_s6 v2 v3) (v1.1, (0 : Int))).bind fun v8 => some (.inl (v8, (IntKind.i64.wrap (v1.2 + (1 : Int))))))
 (some (.inr v1.1))
noncomputable def i_determinants (x0 : List (List Int)) : Option (Int) :=
(iter (i_determinants_s3 x0) ((0 : Int), (0 : Int))).bind fun v9 => some v9
noncomputable def e_i_determinants : CallE := ⟨66, [.d false (.list (.list (.int .i64)))], [.l (.d false (.int .i64))], fun x => i_determinants x⟩
noncomputable def c_i_determinants : Ctx := ⟨Try.prog, TT, [e_i_cross, e_i_magnitude], [⟨3, [(3, .l (.d false (.int .i64))), (10, .l (.d false (.int .i64)))], some (0, [(3, .l (.d false (.int .i64)))]), none⟩, ⟨6, [(3, .l (.d false (.int .i64))), (20, .l (.d false (.int .i64)))], some (2, [(3, .l (.d false (.int .i64)))]), none⟩], []⟩
theorem k_i_determinants (x : PMs.den e_i_determinants.ps) : funK c_i_determinants Try.f66 e_i_determinants.ps e_i_determinants.rs x = e_i_determinants.F x := by kernel_rfl
theorem o_i_determinants : FnOk Try.prog e_i_determinants.f ∧ Ctr Try.prog e_i_determinants := mkCtr (C := c_i_determinants) m_ (⟨o_i_cross, o_i_magnitude, trivial⟩) Try.func66 (by kernel_rfl) k_i_determinants
/-! loop.example/g00959/impl.AreGens -/
noncomputable def i_AreGens_s4 (x0 : List (List Int)) (v2 : Int) : Option ((Int) ⊕ ((Unit) ⊕ (Bool))) :=
 cond (decide (v2 < (x0.length : Int)))
 ((idx x0 v2).bind fun v3 => (i_isPoint v3 (6 : Int)).bind fun v4 => cond (!v4)
 (some (.inr (.inr false)))
 ((i_gcdAll v3).bind fun v5 => cond (v5 == (0 : Int))
 (some (.inr (.inr false)))
 (some (.inl (IntKind.i64.wrap (v2 + (1 : Int)))))))
 (some (.inr (.inl ())))
noncomputable def i_AreGens (x0 : List (List Int)) : Option (Bool) :=
(i_within (x0.length : Int) (2 : Int) (5 : Int)).bind fun v1 => cond (!v1)
 (some false)
 ((iter (i_AreGens_s4 x0) (0 : Int)).bind fun v6 => match v6 with
 | .inl v7 => ((i_determinants x0).bind fun v9 => some (decide (v9 > (0 : Int))))
 | .inr v8 => (some v8))
noncomputable def e_i_AreGens : CallE := ⟨25, [.d false (.list (.list (.int .i64)))], [.l (.d false .bool)], fun x => i_AreGens x⟩
noncomputable def c_i_AreGens : Ctx := ⟨Try.prog, TT, [e_i_within, e_i_isPoint, e_i_gcdAll, e_i_determinants], [⟨4, [(11, .l (.d false (.int .i64)))], some (0, []), some [(2, .l (.d false .bool))]⟩], []⟩
theorem k_i_AreGens (x : PMs.den e_i_AreGens.ps) : funK c_i_AreGens Try.f25 e_i_AreGens.ps e_i_AreGens.rs x = e_i_AreGens.F x := by kernel_rfl
theorem o_i_AreGens : FnOk Try.prog e_i_AreGens.f ∧ Ctr Try.prog e_i_AreGens := mkCtr (C := c_i_AreGens) m_ (⟨o_i_within, o_i_isPoint, o_i_gcdAll, o_i_determinants, trivial⟩) Try.func25 (by kernel_rfl) k_i_AreGens
/-! loop.example/g00959/laws.FnExactAreGens -/
noncomputable def w_FnExactAreGens (x0 : List (List Int)) : Option (Bool) :=
(w_szIntSS x0 (1048576 : Int)).bind fun v1 => cond (decide (v1 < (0 : Int)))
 (some true)
 ((w_toIntSS x0).bind fun v2 => (s_AreGens v2).bind fun v3 => (w_toIntSS x0).bind fun v4 => (i_AreGens v4).bind fun v5 => cond (!(v5 == v3))
 (some false)
 ((w_toIntSS x0).bind fun v6 => (w_eqIntSS v4 v6).bind fun v7 => cond (!v7)
 (some false)
 (some true)))
noncomputable def e_w_FnExactAreGens : CallE := ⟨5, [.d false (.list (.list (.int .i64)))], [.l (.d false .bool)], fun x => w_FnExactAreGens x⟩
noncomputable def c_w_FnExactAreGens : Ctx := ⟨Try.prog, TT, [e_w_szIntSS, e_w_toIntSS, e_s_AreGens, e_i_AreGens, e_w_eqIntSS], [], []⟩
theorem k_w_FnExactAreGens (x : PMs.den e_w_FnExactAreGens.ps) : funK c_w_FnExactAreGens Try.f5 e_w_FnExactAreGens.ps e_w_FnExactAreGens.rs x = e_w_FnExactAreGens.F x := by kernel_rfl
theorem o_w_FnExactAreGens : FnOk Try.prog e_w_FnExactAreGens.f ∧ Ctr Try.prog e_w_FnExactAreGens := mkCtr (C := c_w_FnExactAreGens) m_ (⟨o_w_szIntSS, o_w_toIntSS, o_s_AreGens, o_i_AreGens, o_w_eqIntSS, trivial⟩) Try.func5 (by kernel_rfl) k_w_FnExactAreGens
/-! loop.example/g00959/laws.szCone -/
noncomputable def w_szCone (x0 : (List Int) × (List Int)) (x1 : Int) : Option (Int) :=
(w_szIntS x0.1 x1).bind fun v1 => cond (decide (v1 < (0 : Int)))
 (some (-1 : Int))
 ((w_szIntS x0.2 v1).bind fun v2 => cond (decide (v2 < (0 : Int)))
 (some (-1 : Int))
 (some v2))
noncomputable def e_w_szCone : CallE := ⟨27, [.d false (.prod (.list (.int .i64)) (.list (.int .i64))), .d false (.int .i64)], [.l (.d false (.int .i64))], fun x => w_szCone x.1 x.2⟩
noncomputable def c_w_szCone : Ctx := ⟨Try.prog, TT, [e_w_szIntS], [], []⟩
theorem k_w_szCone (x : PMs.den e_w_szCone.ps) : funK c_w_szCone Try.f27 e_w_szCone.ps e_w_szCone.rs x = e_w_szCone.F x := by kernel_rfl
theorem o_w_szCone : FnOk Try.prog e_w_szCone.f ∧ Ctr Try.prog e_w_szCone := mkCtr (C := c_w_szCone) m_ (⟨o_w_szIntS, trivial⟩) Try.func27 (by kernel_rfl) k_w_szCone
/-! loop.example/g00959/laws.toCone -/
noncomputable def w_toCone (x0 : (List Int) × (List Int)) : Option (List Int × List Int) :=
(w_toIntS x0.1).bind fun v1 => (w_toIntS x0.2).bind fun v2 => some (v1, v2)
noncomputable def e_w_toCone : CallE := ⟨29, [.d false (.prod (.list (.int .i64)) (.list (.int .i64)))], [.a [(.o true 3 (.int .i64)), (.o true 3 (.int .i64))]], fun x => w_toCone x⟩
noncomputable def c_w_toCone : Ctx := ⟨Try.prog, TT, [e_w_toIntS], [], []⟩
theorem k_w_toCone (x : PMs.den e_w_toCone.ps) : funK c_w_toCone Try.f29 e_w_toCone.ps e_w_toCone.rs x = e_w_toCone.F x := by kernel_rfl
theorem o_w_toCone : FnOk Try.prog e_w_toCone.f ∧ Ctr Try.prog e_w_toCone := mkCtr (C := c_w_toCone) m_ (⟨o_w_toIntS, trivial⟩) Try.func29 (by kernel_rfl) k_w_toCone
/-! loop.example/g00959/spec.l9Ray -/
noncomputable def s_l9Ray (x0 : List Int) : Option (Bool) :=
 cond ((x0.length : Int) == (2 : Int))
 ((s_l2Small x0 (30 : Int)).bind fun v1 => cond v1
 ((s_l2All x0).bind fun v2 => some (v2 == (1 : Int)))
 (some false))
 (some false)
noncomputable def e_s_l9Ray : CallE := ⟨97, [.d false (.list (.int .i64))], [.l (.d false .bool)], fun x => s_l9Ray x⟩
noncomputable def c_s_l9Ray : Ctx := ⟨Try.prog, TT, [e_s_l2Small, e_s_l2All], [], []⟩
theorem k_s_l9Ray (x : PMs.den e_s_l9Ray.ps) : funK c_s_l9Ray Try.f97 e_s_l9Ray.ps e_s_l9Ray.rs x = e_s_l9Ray.F x := by kernel_rfl
theorem o_s_l9Ray : FnOk Try.prog e_s_l9Ray.f ∧ Ctr Try.prog e_s_l9Ray := mkCtr (C := c_s_l9Ray) m_ (⟨o_s_l2Small, o_s_l2All, trivial⟩) Try.func97 (by kernel_rfl) k_s_l9Ray
/-! loop.example/g00959/spec.IsCone -/
noncomputable def s_IsCone (x0 : (List Int) × (List Int)) : Option (Bool) :=
(s_l9Ray x0.1).bind fun v1 => cond v1
 ((s_l9Ray x0.2).bind fun v2 => cond v2
 ((s_l7Cross x0.1 x0.2).bind fun v3 => some (decide (v3 > (0 : Int))))
 (some false))
 (some false)
noncomputable def e_s_IsCone : CallE := ⟨68, [.d false (.prod (.list (.int .i64)) (.list (.int .i64)))], [.l (.d false .bool)], fun x => s_IsCone x⟩
noncomputable def c_s_IsCone : Ctx := ⟨Try.prog, TT, [e_s_l9Ray, e_s_l7Cross], [], []⟩
theorem k_s_IsCone (x : PMs.den e_s_IsCone.ps) : funK c_s_IsCone Try.f68 e_s_IsCone.ps e_s_IsCone.rs x = e_s_IsCone.F x := by kernel_rfl
theorem o_s_IsCone : FnOk Try.prog e_s_IsCone.f ∧ Ctr Try.prog e_s_IsCone := mkCtr (C := c_s_IsCone) m_ (⟨o_s_l9Ray, o_s_l7Cross, trivial⟩) Try.func68 (by kernel_rfl) k_s_IsCone
/-! loop.example/g00959/spec.DualCone -/
noncomputable def s_DualCone (x0 : (List Int) × (List Int)) : Option ((List Int × List Int) × Bool) :=
(s_IsCone (x0.1, x0.2)).bind fun v1 => cond (!v1)
 (some ((([] : List Int), ([] : List Int)), false))
 ((idx x0.2 (1 : Int)).bind fun v2 => (idx x0.2 (0 : Int)).bind fun v3 => (idx x0.1 (1 : Int)).bind fun v4 => (idx x0.1 (0 : Int)).bind fun v5 => some ((([v2, (IntKind.i64.wrap (0 - v3))] : List Int), ([(IntKind.i64.wrap (0 - v4)), v5] : List Int)), true))
noncomputable def e_s_DualCone : CallE := ⟨28, [.d false (.prod (.list (.int .i64)) (.list (.int .i64)))], [.a [(.o true 3 (.int .i64)), (.o true 3 (.int .i64))], .l (.d false .bool)], fun x => s_DualCone x⟩
noncomputable def c_s_DualCone : Ctx := ⟨Try.prog, TT, [e_s_IsCone], [], []⟩
theorem k_s_DualCone (x : PMs.den e_s_DualCone.ps) : funK c_s_DualCone Try.f28 e_s_DualCone.ps e_s_DualCone.rs x = e_s_DualCone.F x := by kernel_rfl
theorem o_s_DualCone : FnOk Try.prog e_s_DualCone.f ∧ Ctr Try.prog e_s_DualCone := mkCtr (C := c_s_DualCone) m_ (⟨o_s_IsCone, trivial⟩) Try.func28 (by kernel_rfl) k_s_DualCone
/-! loop.example/g00959/impl.IsCone -/
noncomputable def i_IsCone (x0 : (List Int) × (List Int)) : Option (Bool) :=
(i_isPoint x0.1 (30 : Int)).bind fun v1 => cond v1
 ((i_isPoint x0.2 (30 : Int)).bind fun v2 => cond v2
 ((i_gcdAll x0.1).bind fun v3 => cond (v3 == (1 : Int))
 ((i_gcdAll x0.2).bind fun v4 => cond (v4 == (1 : Int))
 ((i_cross x0.1 x0.2).bind fun v5 => some (decide (v5 > (0 : Int))))
 (some false))
 (some false))
 (some false))
 (some false)
noncomputable def e_i_IsCone : CallE := ⟨69, [.d false (.prod (.list (.int .i64)) (.list (.int .i64)))], [.l (.d false .bool)], fun x => i_IsCone x⟩
noncomputable def c_i_IsCone : Ctx := ⟨Try.prog, TT, [e_i_isPoint, e_i_gcdAll, e_i_cross], [], []⟩
theorem k_i_IsCone (x : PMs.den e_i_IsCone.ps) : funK c_i_IsCone Try.f69 e_i_IsCone.ps e_i_IsCone.rs x = e_i_IsCone.F x := by kernel_rfl
theorem o_i_IsCone : FnOk Try.prog e_i_IsCone.f ∧ Ctr Try.prog e_i_IsCone := mkCtr (C := c_i_IsCone) m_ (⟨o_i_isPoint, o_i_gcdAll, o_i_cross, trivial⟩) Try.func69 (by kernel_rfl) k_i_IsCone
/-! loop.example/g00959/impl.DualCone -/
noncomputable def i_DualCone (x0 : (List Int) × (List Int)) : Option ((List Int × List Int) × Bool) :=
(i_IsCone (x0.1, x0.2)).bind fun v1 => cond (!v1)
 (some ((([] : List Int), ([] : List Int)), false))
 ((idx x0.2 (1 : Int)).bind fun v2 => (idx x0.2 (0 : Int)).bind fun v3 => (idx x0.1 (1 : Int)).bind fun v4 => (idx x0.1 (0 : Int)).bind fun v5 => some ((([v2, (IntKind.i64.wrap (0 - v3))] : List Int), ([(IntKind.i64.wrap (0 - v4)), v5] : List Int)), true))
noncomputable def e_i_DualCone : CallE := ⟨30, [.d false (.prod (.list (.int .i64)) (.list (.int .i64)))], [.a [(.o true 3 (.int .i64)), (.o true 3 (.int .i64))], .l (.d false .bool)], fun x => i_DualCone x⟩
noncomputable def c_i_DualCone : Ctx := ⟨Try.prog, TT, [e_i_IsCone], [], []⟩
theorem k_i_DualCone (x : PMs.den e_i_DualCone.ps) : funK c_i_DualCone Try.f30 e_i_DualCone.ps e_i_DualCone.rs x = e_i_DualCone.F x := by kernel_rfl
theorem o_i_DualCone : FnOk Try.prog e_i_DualCone.f ∧ Ctr Try.prog e_i_DualCone := mkCtr (C := c_i_DualCone) m_ (⟨o_i_IsCone, trivial⟩) Try.func30 (by kernel_rfl) k_i_DualCone
/-! loop.example/g00959/laws.eqCone -/
noncomputable def w_eqCone (x0 : (List Int) × (List Int)) (x1 : (List Int) × (List Int)) : Option (Bool) :=
(w_eqIntS x0.1 x1.1).bind fun v1 => cond (!v1)
 (some false)
 ((w_eqIntS x0.2 x1.2).bind fun v2 => cond (!v2)
 (some false)
 (some true))
noncomputable def e_w_eqCone : CallE := ⟨31, [.d false (.prod (.list (.int .i64)) (.list (.int .i64))), .d false (.prod (.list (.int .i64)) (.list (.int .i64)))], [.l (.d false .bool)], fun x => w_eqCone x.1 x.2⟩
noncomputable def c_w_eqCone : Ctx := ⟨Try.prog, TT, [e_w_eqIntS], [], []⟩
theorem k_w_eqCone (x : PMs.den e_w_eqCone.ps) : funK c_w_eqCone Try.f31 e_w_eqCone.ps e_w_eqCone.rs x = e_w_eqCone.F x := by kernel_rfl
theorem o_w_eqCone : FnOk Try.prog e_w_eqCone.f ∧ Ctr Try.prog e_w_eqCone := mkCtr (C := c_w_eqCone) m_ (⟨o_w_eqIntS, trivial⟩) Try.func31 (by kernel_rfl) k_w_eqCone
/-! loop.example/g00959/laws.markIntS -/
noncomputable def w_markIntS_s2 (v1 : List Int × Int × Int) : Option ((List Int × Int × Int) ⊕ (List Int × Int)) :=
 cond (decide (v1.2.2 < (v1.1.length : Int)))
 ((inIdx v1.1.length v1.2.2).bind fun _ => (inIdx v1.1.length ((v1.2.2).toNat : Int)).bind fun _ => some (.inl ((v1.1.set ((v1.2.2).toNat) v1.2.1), ((IntKind.i64.wrap (v1.2.1 + (1 : Int))), (IntKind.i64.wrap (v1.2.2 + (1 : Int)))))))
 (some (.inr (v1.1, v1.2.1)))
noncomputable def w_markIntS (x0 : List Int) (x1 : Int) : Option ((Int) × (List Int) × Unit) :=
(iter (w_markIntS_s2) (x0, (x1, (0 : Int)))).bind fun v2 => some (v2.2, (v2.1, ()))
noncomputable def e_w_markIntS : CallE := ⟨70, [.io true 3 (.int .i64), .d false (.int .i64)], [.l (.d false (.int .i64))], fun x => w_markIntS x.1 x.2⟩
noncomputable def c_w_markIntS : Ctx := ⟨Try.prog, TT, [], [⟨2, [(0, .l (.o true 3 (.int .i64))), (1, .l (.d false (.int .i64))), (5, .l (.d false (.int .i64)))], some (0, [(0, .l (.o true 3 (.int .i64))), (1, .l (.d false (.int .i64)))]), none⟩], []⟩
theorem k_w_markIntS (x : PMs.den e_w_markIntS.ps) : funK c_w_markIntS Try.f70 e_w_markIntS.ps e_w_markIntS.rs x = e_w_markIntS.F x := by kernel_rfl
theorem o_w_markIntS : FnOk Try.prog e_w_markIntS.f ∧ Ctr Try.prog e_w_markIntS := mkCtr (C := c_w_markIntS) m_ (trivial) Try.func70 (by kernel_rfl) k_w_markIntS
/-! loop.example/g00959/spec.l21Sums -/
noncomputable def s_l21Sums_s8 (x0 : List (List Int)) (v1 : Int × Int × Int) (v4 : Int × Int) : Option ((Int × Int) ⊕ (Int)) :=
 cond (decide (v4.2 < v1.2.2))
 ((idx x0 v4.2).bind fun v5 => (idx x0 v1.2.2).bind fun v6 => (s_l7Cross v5 v6).bind fun v7 => (s_l1Abs v7).bind fun v8 => some (.inl ((IntKind.i64.wrap (v4.1 + v8)), (IntKind.i64.wrap (v4.2 + (1 : Int))))))
 (some (.inr v4.1))
noncomputable def s_l21Sums_s4 (x0 : List (List Int)) (v1 : Int × Int × Int) : Option ((Int × Int × Int) ⊕ (Int × Int)) :=
 cond (decide (v1.2.2 < (x0.length : Int)))
 ((idx x0 v1.2.2).bind fun v2 => (s_l2All v2).bind fun v3 => (iter (s_l21Sums_s8 x0 v1) (v1.2.1, (0 : Int))).bind fun v9 => some (.inl ((IntKind.i64.wrap (v1.1 + v3)), (v9, (IntKind.i64.wrap (v1.2.2 + (1 : Int)))))))
 (some (.inr (v1.1, v1.2.1)))
noncomputable def s_l21Sums (x0 : List (List Int)) : Option (Int × Int) :=
(iter (s_l21Sums_s4 x0) ((0 : Int), ((0 : Int), (0 : Int)))).bind fun v10 => some (v10.1, v10.2)
noncomputable def e_s_l21Sums : CallE := ⟨72, [.d false (.list (.list (.int .i64)))], [.l (.d false (.int .i64)), .l (.d false (.int .i64))], fun x => s_l21Sums x⟩
noncomputable def c_s_l21Sums : Ctx := ⟨Try.prog, TT, [e_s_l2All, e_s_l7Cross, e_s_l1Abs], [⟨4, [(4, .l (.d false (.int .i64))), (5, .l (.d false (.int .i64))), (6, .l (.d false (.int .i64)))], some (0, [(4, .l (.d false (.int .i64))), (5, .l (.d false (.int .i64)))]), none⟩, ⟨8, [(5, .l (.d false (.int .i64))), (7, .l (.d false (.int .i64)))], some (2, [(5, .l (.d false (.int .i64)))]), none⟩], []⟩
theorem k_s_l21Sums (x : PMs.den e_s_l21Sums.ps) : funK c_s_l21Sums Try.f72 e_s_l21Sums.ps e_s_l21Sums.rs x = e_s_l21Sums.F x := by kernel_rfl
theorem o_s_l21Sums : FnOk Try.prog e_s_l21Sums.f ∧ Ctr Try.prog e_s_l21Sums := mkCtr (C := c_s_l21Sums) m_ (⟨o_s_l2All, o_s_l7Cross, o_s_l1Abs, trivial⟩) Try.func72 (by kernel_rfl) k_s_l21Sums
/-! loop.example/g00959/spec.ZonotopeArea -/
noncomputable def s_ZonotopeArea (x0 : List (List Int)) : Option (Int) :=
(s_AreGens x0).bind fun v1 => cond (!v1)
 (some (-1 : Int))
 ((s_l21Sums x0).bind fun v2 => some v2.2)
noncomputable def e_s_ZonotopeArea : CallE := ⟨34, [.d false (.list (.list (.int .i64)))], [.l (.d false (.int .i64))], fun x => s_ZonotopeArea x⟩
noncomputable def c_s_ZonotopeArea : Ctx := ⟨Try.prog, TT, [e_s_AreGens, e_s_l21Sums], [], []⟩
theorem k_s_ZonotopeArea (x : PMs.den e_s_ZonotopeArea.ps) : funK c_s_ZonotopeArea Try.f34 e_s_ZonotopeArea.ps e_s_ZonotopeArea.rs x = e_s_ZonotopeArea.F x := by kernel_rfl
theorem o_s_ZonotopeArea : FnOk Try.prog e_s_ZonotopeArea.f ∧ Ctr Try.prog e_s_ZonotopeArea := mkCtr (C := c_s_ZonotopeArea) m_ (⟨o_s_AreGens, o_s_l21Sums, trivial⟩) Try.func34 (by kernel_rfl) k_s_ZonotopeArea
/-! loop.example/g00959/impl.ZonotopeArea -/
noncomputable def i_ZonotopeArea (x0 : List (List Int)) : Option (Int) :=
(i_AreGens x0).bind fun v1 => cond (!v1)
 (some (-1 : Int))
 ((i_determinants x0).bind fun v2 => some v2)
noncomputable def e_i_ZonotopeArea : CallE := ⟨35, [.d false (.list (.list (.int .i64)))], [.l (.d false (.int .i64))], fun x => i_ZonotopeArea x⟩
noncomputable def c_i_ZonotopeArea : Ctx := ⟨Try.prog, TT, [e_i_AreGens, e_i_determinants], [], []⟩
theorem k_i_ZonotopeArea (x : PMs.den e_i_ZonotopeArea.ps) : funK c_i_ZonotopeArea Try.f35 e_i_ZonotopeArea.ps e_i_ZonotopeArea.rs x = e_i_ZonotopeArea.F x := by kernel_rfl
theorem o_i_ZonotopeArea : FnOk Try.prog e_i_ZonotopeArea.f ∧ Ctr Try.prog e_i_ZonotopeArea := mkCtr (C := c_i_ZonotopeArea) m_ (⟨o_i_AreGens, o_i_determinants, trivial⟩) Try.func35 (by kernel_rfl) k_i_ZonotopeArea
/-! loop.example/g00959/laws.FnExactZonotopeArea -/
noncomputable def w_FnExactZonotopeArea (x0 : List (List Int)) : Option (Bool) :=
(w_szIntSS x0 (1048576 : Int)).bind fun v1 => cond (decide (v1 < (0 : Int)))
 (some true)
 ((w_toIntSS x0).bind fun v2 => (s_ZonotopeArea v2).bind fun v3 => (w_toIntSS x0).bind fun v4 => (i_ZonotopeArea v4).bind fun v5 => cond (v5 != v3)
 (some false)
 ((w_toIntSS x0).bind fun v6 => (w_eqIntSS v4 v6).bind fun v7 => cond (!v7)
 (some false)
 (some true)))
noncomputable def e_w_FnExactZonotopeArea : CallE := ⟨7, [.d false (.list (.list (.int .i64)))], [.l (.d false .bool)], fun x => w_FnExactZonotopeArea x⟩
noncomputable def c_w_FnExactZonotopeArea : Ctx := ⟨Try.prog, TT, [e_w_szIntSS, e_w_toIntSS, e_s_ZonotopeArea, e_i_ZonotopeArea, e_w_eqIntSS], [], []⟩
theorem k_w_FnExactZonotopeArea (x : PMs.den e_w_FnExactZonotopeArea.ps) : funK c_w_FnExactZonotopeArea Try.f7 e_w_FnExactZonotopeArea.ps e_w_FnExactZonotopeArea.rs x = e_w_FnExactZonotopeArea.F x := by kernel_rfl
theorem o_w_FnExactZonotopeArea : FnOk Try.prog e_w_FnExactZonotopeArea.f ∧ Ctr Try.prog e_w_FnExactZonotopeArea := mkCtr (C := c_w_FnExactZonotopeArea) m_ (⟨o_w_szIntSS, o_w_toIntSS, o_s_ZonotopeArea, o_i_ZonotopeArea, o_w_eqIntSS, trivial⟩) Try.func7 (by kernel_rfl) k_w_FnExactZonotopeArea
/-! loop.example/g00959/spec.ZonotopeCount -/
noncomputable def s_ZonotopeCount (x0 : List (List Int)) : Option (Int) :=
(s_AreGens x0).bind fun v1 => cond (!v1)
 (some (-1 : Int))
 ((s_l21Sums x0).bind fun v2 => some (IntKind.i64.wrap ((IntKind.i64.wrap ((1 : Int) + v2.1)) + v2.2)))
noncomputable def e_s_ZonotopeCount : CallE := ⟨36, [.d false (.list (.list (.int .i64)))], [.l (.d false (.int .i64))], fun x => s_ZonotopeCount x⟩
noncomputable def c_s_ZonotopeCount : Ctx := ⟨Try.prog, TT, [e_s_AreGens, e_s_l21Sums], [], []⟩
theorem k_s_ZonotopeCount (x : PMs.den e_s_ZonotopeCount.ps) : funK c_s_ZonotopeCount Try.f36 e_s_ZonotopeCount.ps e_s_ZonotopeCount.rs x = e_s_ZonotopeCount.F x := by kernel_rfl
theorem o_s_ZonotopeCount : FnOk Try.prog e_s_ZonotopeCount.f ∧ Ctr Try.prog e_s_ZonotopeCount := mkCtr (C := c_s_ZonotopeCount) m_ (⟨o_s_AreGens, o_s_l21Sums, trivial⟩) Try.func36 (by kernel_rfl) k_s_ZonotopeCount
/-! loop.example/g00959/impl.gcdSum -/
noncomputable def i_gcdSum_s3 (x0 : List (List Int)) (v1 : Int × Int) : Option ((Int × Int) ⊕ (Int)) :=
 cond (decide (v1.2 < (x0.length : Int)))
 ((idx x0 v1.2).bind fun v2 => (i_gcdAll v2).bind fun v3 => some (.inl ((IntKind.i64.wrap (v1.1 + v3)), (IntKind.i64.wrap (v1.2 + (1 : Int))))))
 (some (.inr v1.1))
noncomputable def i_gcdSum (x0 : List (List Int)) : Option (Int) :=
(iter (i_gcdSum_s3 x0) ((0 : Int), (0 : Int))).bind fun v4 => some v4
noncomputable def e_i_gcdSum : CallE := ⟨73, [.d false (.list (.list (.int .i64)))], [.l (.d false (.int .i64))], fun x => i_gcdSum x⟩
noncomputable def c_i_gcdSum : Ctx := ⟨Try.prog, TT, [e_i_gcdAll], [⟨3, [(3, .l (.d false (.int .i64))), (8, .l (.d false (.int .i64)))], some (0, [(3, .l (.d false (.int .i64)))]), none⟩], []⟩
theorem k_i_gcdSum (x : PMs.den e_i_gcdSum.ps) : funK c_i_gcdSum Try.f73 e_i_gcdSum.ps e_i_gcdSum.rs x = e_i_gcdSum.F x := by kernel_rfl
theorem o_i_gcdSum : FnOk Try.prog e_i_gcdSum.f ∧ Ctr Try.prog e_i_gcdSum := mkCtr (C := c_i_gcdSum) m_ (⟨o_i_gcdAll, trivial⟩) Try.func73 (by kernel_rfl) k_i_gcdSum
/-! loop.example/g00959/impl.ZonotopeCount -/
noncomputable def i_ZonotopeCount (x0 : List (List Int)) : Option (Int) :=
(i_AreGens x0).bind fun v1 => cond (!v1)
 (some (-1 : Int))
 ((i_gcdSum x0).bind fun v2 => (i_determinants x0).bind fun v3 => some (IntKind.i64.wrap ((IntKind.i64.wrap ((1 : Int) + v2)) + v3)))
noncomputable def e_i_ZonotopeCount : CallE := ⟨37, [.d false (.list (.list (.int .i64)))], [.l (.d false (.int .i64))], fun x => i_ZonotopeCount x⟩
noncomputable def c_i_ZonotopeCount : Ctx := ⟨Try.prog, TT, [e_i_AreGens, e_i_gcdSum, e_i_determinants], [], []⟩
theorem k_i_ZonotopeCount (x : PMs.den e_i_ZonotopeCount.ps) : funK c_i_ZonotopeCount Try.f37 e_i_ZonotopeCount.ps e_i_ZonotopeCount.rs x = e_i_ZonotopeCount.F x := by kernel_rfl
theorem o_i_ZonotopeCount : FnOk Try.prog e_i_ZonotopeCount.f ∧ Ctr Try.prog e_i_ZonotopeCount := mkCtr (C := c_i_ZonotopeCount) m_ (⟨o_i_AreGens, o_i_gcdSum, o_i_determinants, trivial⟩) Try.func37 (by kernel_rfl) k_i_ZonotopeCount
/-! loop.example/g00959/laws.FnExactZonotopeCount -/
noncomputable def w_FnExactZonotopeCount (x0 : List (List Int)) : Option (Bool) :=
(w_szIntSS x0 (1048576 : Int)).bind fun v1 => cond (decide (v1 < (0 : Int)))
 (some true)
 ((w_toIntSS x0).bind fun v2 => (s_ZonotopeCount v2).bind fun v3 => (w_toIntSS x0).bind fun v4 => (i_ZonotopeCount v4).bind fun v5 => cond (v5 != v3)
 (some false)
 ((w_toIntSS x0).bind fun v6 => (w_eqIntSS v4 v6).bind fun v7 => cond (!v7)
 (some false)
 (some true)))
noncomputable def e_w_FnExactZonotopeCount : CallE := ⟨8, [.d false (.list (.list (.int .i64)))], [.l (.d false .bool)], fun x => w_FnExactZonotopeCount x⟩
noncomputable def c_w_FnExactZonotopeCount : Ctx := ⟨Try.prog, TT, [e_w_szIntSS, e_w_toIntSS, e_s_ZonotopeCount, e_i_ZonotopeCount, e_w_eqIntSS], [], []⟩
theorem k_w_FnExactZonotopeCount (x : PMs.den e_w_FnExactZonotopeCount.ps) : funK c_w_FnExactZonotopeCount Try.f8 e_w_FnExactZonotopeCount.ps e_w_FnExactZonotopeCount.rs x = e_w_FnExactZonotopeCount.F x := by kernel_rfl
theorem o_w_FnExactZonotopeCount : FnOk Try.prog e_w_FnExactZonotopeCount.f ∧ Ctr Try.prog e_w_FnExactZonotopeCount := mkCtr (C := c_w_FnExactZonotopeCount) m_ (⟨o_w_szIntSS, o_w_toIntSS, o_s_ZonotopeCount, o_i_ZonotopeCount, o_w_eqIntSS, trivial⟩) Try.func8 (by kernel_rfl) k_w_FnExactZonotopeCount
/-! loop.example/g00959/spec.ZonotopeInner -/
noncomputable def s_ZonotopeInner (x0 : List (List Int)) : Option (Int) :=
(s_AreGens x0).bind fun v1 => cond (!v1)
 (some (-1 : Int))
 ((s_l21Sums x0).bind fun v2 => some (IntKind.i64.wrap ((IntKind.i64.wrap (v2.2 - v2.1)) + (1 : Int))))
noncomputable def e_s_ZonotopeInner : CallE := ⟨38, [.d false (.list (.list (.int .i64)))], [.l (.d false (.int .i64))], fun x => s_ZonotopeInner x⟩
noncomputable def c_s_ZonotopeInner : Ctx := ⟨Try.prog, TT, [e_s_AreGens, e_s_l21Sums], [], []⟩
theorem k_s_ZonotopeInner (x : PMs.den e_s_ZonotopeInner.ps) : funK c_s_ZonotopeInner Try.f38 e_s_ZonotopeInner.ps e_s_ZonotopeInner.rs x = e_s_ZonotopeInner.F x := by kernel_rfl
theorem o_s_ZonotopeInner : FnOk Try.prog e_s_ZonotopeInner.f ∧ Ctr Try.prog e_s_ZonotopeInner := mkCtr (C := c_s_ZonotopeInner) m_ (⟨o_s_AreGens, o_s_l21Sums, trivial⟩) Try.func38 (by kernel_rfl) k_s_ZonotopeInner
/-! loop.example/g00959/impl.ZonotopeInner -/
noncomputable def i_ZonotopeInner (x0 : List (List Int)) : Option (Int) :=
(i_AreGens x0).bind fun v1 => cond (!v1)
 (some (-1 : Int))
 ((i_determinants x0).bind fun v2 => (i_gcdSum x0).bind fun v3 => some (IntKind.i64.wrap ((IntKind.i64.wrap (v2 - v3)) + (1 : Int))))
noncomputable def e_i_ZonotopeInner : CallE := ⟨39, [.d false (.list (.list (.int .i64)))], [.l (.d false (.int .i64))], fun x => i_ZonotopeInner x⟩
noncomputable def c_i_ZonotopeInner : Ctx := ⟨Try.prog, TT, [e_i_AreGens, e_i_determinants, e_i_gcdSum], [], []⟩
theorem k_i_ZonotopeInner (x : PMs.den e_i_ZonotopeInner.ps) : funK c_i_ZonotopeInner Try.f39 e_i_ZonotopeInner.ps e_i_ZonotopeInner.rs x = e_i_ZonotopeInner.F x := by kernel_rfl
theorem o_i_ZonotopeInner : FnOk Try.prog e_i_ZonotopeInner.f ∧ Ctr Try.prog e_i_ZonotopeInner := mkCtr (C := c_i_ZonotopeInner) m_ (⟨o_i_AreGens, o_i_determinants, o_i_gcdSum, trivial⟩) Try.func39 (by kernel_rfl) k_i_ZonotopeInner
/-! loop.example/g00959/laws.FnExactZonotopeInner -/
noncomputable def w_FnExactZonotopeInner (x0 : List (List Int)) : Option (Bool) :=
(w_szIntSS x0 (1048576 : Int)).bind fun v1 => cond (decide (v1 < (0 : Int)))
 (some true)
 ((w_toIntSS x0).bind fun v2 => (s_ZonotopeInner v2).bind fun v3 => (w_toIntSS x0).bind fun v4 => (i_ZonotopeInner v4).bind fun v5 => cond (v5 != v3)
 (some false)
 ((w_toIntSS x0).bind fun v6 => (w_eqIntSS v4 v6).bind fun v7 => cond (!v7)
 (some false)
 (some true)))
noncomputable def e_w_FnExactZonotopeInner : CallE := ⟨9, [.d false (.list (.list (.int .i64)))], [.l (.d false .bool)], fun x => w_FnExactZonotopeInner x⟩
noncomputable def c_w_FnExactZonotopeInner : Ctx := ⟨Try.prog, TT, [e_w_szIntSS, e_w_toIntSS, e_s_ZonotopeInner, e_i_ZonotopeInner, e_w_eqIntSS], [], []⟩
theorem k_w_FnExactZonotopeInner (x : PMs.den e_w_FnExactZonotopeInner.ps) : funK c_w_FnExactZonotopeInner Try.f9 e_w_FnExactZonotopeInner.ps e_w_FnExactZonotopeInner.rs x = e_w_FnExactZonotopeInner.F x := by kernel_rfl
theorem o_w_FnExactZonotopeInner : FnOk Try.prog e_w_FnExactZonotopeInner.f ∧ Ctr Try.prog e_w_FnExactZonotopeInner := mkCtr (C := c_w_FnExactZonotopeInner) m_ (⟨o_w_szIntSS, o_w_toIntSS, o_s_ZonotopeInner, o_i_ZonotopeInner, o_w_eqIntSS, trivial⟩) Try.func9 (by kernel_rfl) k_w_FnExactZonotopeInner
/-! loop.example/g00959/laws.szHalf -/
noncomputable def w_szHalf (x0 : (List Int) × Int) (x1 : Int) : Option (Int) :=
(w_szIntS x0.1 x1).bind fun v1 => cond (decide (v1 < (0 : Int)))
 (some (-1 : Int))
 (some v1)
noncomputable def e_w_szHalf : CallE := ⟨40, [.d false (.prod (.list (.int .i64)) (.int .i64)), .d false (.int .i64)], [.l (.d false (.int .i64))], fun x => w_szHalf x.1 x.2⟩
noncomputable def c_w_szHalf : Ctx := ⟨Try.prog, TT, [e_w_szIntS], [], []⟩
theorem k_w_szHalf (x : PMs.den e_w_szHalf.ps) : funK c_w_szHalf Try.f40 e_w_szHalf.ps e_w_szHalf.rs x = e_w_szHalf.F x := by kernel_rfl
theorem o_w_szHalf : FnOk Try.prog e_w_szHalf.f ∧ Ctr Try.prog e_w_szHalf := mkCtr (C := c_w_szHalf) m_ (⟨o_w_szIntS, trivial⟩) Try.func40 (by kernel_rfl) k_w_szHalf
/-! loop.example/g00959/laws.toHalf -/
noncomputable def w_toHalf (x0 : (List Int) × Int) : Option (List Int × Int) :=
(w_toIntS x0.1).bind fun v1 => some (v1, x0.2)
noncomputable def e_w_toHalf : CallE := ⟨42, [.d false (.prod (.list (.int .i64)) (.int .i64))], [.a [(.o true 3 (.int .i64)), (.d false (.int .i64))]], fun x => w_toHalf x⟩
noncomputable def c_w_toHalf : Ctx := ⟨Try.prog, TT, [e_w_toIntS], [], []⟩
theorem k_w_toHalf (x : PMs.den e_w_toHalf.ps) : funK c_w_toHalf Try.f42 e_w_toHalf.ps e_w_toHalf.rs x = e_w_toHalf.F x := by kernel_rfl
theorem o_w_toHalf : FnOk Try.prog e_w_toHalf.f ∧ Ctr Try.prog e_w_toHalf := mkCtr (C := c_w_toHalf) m_ (⟨o_w_toIntS, trivial⟩) Try.func42 (by kernel_rfl) k_w_toHalf
/-! loop.example/g00959/spec.IsHalf -/
noncomputable def s_IsHalf (x0 : Int) (x1 : (List Int) × Int) : Option (Bool) :=
(s_l1In x0 (1 : Int) (3 : Int)).bind fun v1 => cond v1
 (cond ((x1.1.length : Int) == x0)
 ((s_l2Small x1.1 (20 : Int)).bind fun v2 => cond v2
 ((s_l2All x1.1).bind fun v3 => cond (decide (v3 > (0 : Int)))
 ((s_l1In x1.2 (-200 : Int) (200 : Int)).bind fun v4 => some v4)
 (some false))
 (some false))
 (some false))
 (some false)
noncomputable def e_s_IsHalf : CallE := ⟨74, [.d false (.int .i64), .d false (.prod (.list (.int .i64)) (.int .i64))], [.l (.d false .bool)], fun x => s_IsHalf x.1 x.2⟩
noncomputable def c_s_IsHalf : Ctx := ⟨Try.prog, TT, [e_s_l1In, e_s_l2Small, e_s_l2All], [], []⟩
theorem k_s_IsHalf (x : PMs.den e_s_IsHalf.ps) : funK c_s_IsHalf Try.f74 e_s_IsHalf.ps e_s_IsHalf.rs x = e_s_IsHalf.F x := by kernel_rfl
theorem o_s_IsHalf : FnOk Try.prog e_s_IsHalf.f ∧ Ctr Try.prog e_s_IsHalf := mkCtr (C := c_s_IsHalf) m_ (⟨o_s_l1In, o_s_l2Small, o_s_l2All, trivial⟩) Try.func74 (by kernel_rfl) k_s_IsHalf
/-! loop.example/g00959/spec.l2Prime -/
noncomputable def s_l2Prime_s4 (x0 : List Int) (v1 : Int) (v2 : List Int × Int) : Option ((List Int × Int) ⊕ (List Int)) :=
 cond (decide (v2.2 < (x0.length : Int)))
 ((idx x0 v2.2).bind fun v3 => (s_l1Max v1 (1 : Int)).bind fun v4 => (quoI .i64 v3 v4).bind fun v5 => (appD 8 v2.1 ([v5] : List Int)).bind fun v6 => some (.inl (v6, (IntKind.i64.wrap (v2.2 + (1 : Int))))))
 (some (.inr v2.1))
noncomputable def s_l2Prime (x0 : List Int) : Option (List Int) :=
(s_l2All x0).bind fun v1 => (iter (s_l2Prime_s4 x0 v1) (([] : List Int), (0 : Int))).bind fun v7 => some v7
noncomputable def e_s_l2Prime : CallE := ⟨99, [.d false (.list (.int .i64))], [.l (.o true 3 (.int .i64))], fun x => s_l2Prime x⟩
noncomputable def c_s_l2Prime : Ctx := ⟨Try.prog, TT, [e_s_l2All, e_s_l1Max], [⟨4, [(4, .l (.o true 3 (.int .i64))), (5, .l (.d false (.int .i64)))], some (0, [(4, .l (.o true 3 (.int .i64)))]), none⟩], []⟩
theorem k_s_l2Prime (x : PMs.den e_s_l2Prime.ps) : funK c_s_l2Prime Try.f99 e_s_l2Prime.ps e_s_l2Prime.rs x = e_s_l2Prime.F x := by kernel_rfl
theorem o_s_l2Prime : FnOk Try.prog e_s_l2Prime.f ∧ Ctr Try.prog e_s_l2Prime := mkCtr (C := c_s_l2Prime) m_ (⟨o_s_l2All, o_s_l1Max, trivial⟩) Try.func99 (by kernel_rfl) k_s_l2Prime
/-! loop.example/g00959/spec.l3Floor -/
noncomputable def s_l3Floor (x0 : Int) (x1 : Int) : Option (Int) :=
(quoI .i64 x0 x1).bind fun v1 => (remI .i64 x0 x1).bind fun v2 => cond (decide (v2 < (0 : Int)))
 (some (IntKind.i64.wrap (v1 - (1 : Int))))
 (some v1)
noncomputable def e_s_l3Floor : CallE := ⟨100, [.d false (.int .i64), .d false (.int .i64)], [.l (.d false (.int .i64))], fun x => s_l3Floor x.1 x.2⟩
noncomputable def c_s_l3Floor : Ctx := ⟨Try.prog, TT, [], [], []⟩
theorem k_s_l3Floor (x : PMs.den e_s_l3Floor.ps) : funK c_s_l3Floor Try.f100 e_s_l3Floor.ps e_s_l3Floor.rs x = e_s_l3Floor.F x := by kernel_rfl
theorem o_s_l3Floor : FnOk Try.prog e_s_l3Floor.f ∧ Ctr Try.prog e_s_l3Floor := mkCtr (C := c_s_l3Floor) m_ (trivial) Try.func100 (by kernel_rfl) k_s_l3Floor
/-! loop.example/g00959/spec.l24Tight -/
noncomputable def s_l24Tight (x0 : (List Int) × Int) : Option (List Int × Int) :=
(s_l2All x0.1).bind fun v1 => (s_l2Prime x0.1).bind fun v2 => (s_l3Floor x0.2 v1).bind fun v3 => some (v2, v3)
noncomputable def e_s_l24Tight : CallE := ⟨75, [.d false (.prod (.list (.int .i64)) (.int .i64))], [.a [(.o true 3 (.int .i64)), (.d false (.int .i64))]], fun x => s_l24Tight x⟩
noncomputable def c_s_l24Tight : Ctx := ⟨Try.prog, TT, [e_s_l2All, e_s_l2Prime, e_s_l3Floor], [], []⟩
theorem k_s_l24Tight (x : PMs.den e_s_l24Tight.ps) : funK c_s_l24Tight Try.f75 e_s_l24Tight.ps e_s_l24Tight.rs x = e_s_l24Tight.F x := by kernel_rfl
theorem o_s_l24Tight : FnOk Try.prog e_s_l24Tight.f ∧ Ctr Try.prog e_s_l24Tight := mkCtr (C := c_s_l24Tight) m_ (⟨o_s_l2All, o_s_l2Prime, o_s_l3Floor, trivial⟩) Try.func75 (by kernel_rfl) k_s_l24Tight
/-! loop.example/g00959/spec.TightenHalf -/
noncomputable def s_TightenHalf (x0 : (List Int) × Int) : Option ((List Int × Int) × Bool) :=
(s_IsHalf (x0.1.length : Int) (x0.1, x0.2)).bind fun v1 => cond (!v1)
 (some ((([] : List Int), (0 : Int)), false))
 ((s_l24Tight (x0.1, x0.2)).bind fun v2 => some ((v2.1, v2.2), true))
noncomputable def e_s_TightenHalf : CallE := ⟨41, [.d false (.prod (.list (.int .i64)) (.int .i64))], [.a [(.o true 3 (.int .i64)), (.d false (.int .i64))], .l (.d false .bool)], fun x => s_TightenHalf x⟩
noncomputable def c_s_TightenHalf : Ctx := ⟨Try.prog, TT, [e_s_IsHalf, e_s_l24Tight], [], []⟩
theorem k_s_TightenHalf (x : PMs.den e_s_TightenHalf.ps) : funK c_s_TightenHalf Try.f41 e_s_TightenHalf.ps e_s_TightenHalf.rs x = e_s_TightenHalf.F x := by kernel_rfl
theorem o_s_TightenHalf : FnOk Try.prog e_s_TightenHalf.f ∧ Ctr Try.prog e_s_TightenHalf := mkCtr (C := c_s_TightenHalf) m_ (⟨o_s_IsHalf, o_s_l24Tight, trivial⟩) Try.func41 (by kernel_rfl) k_s_TightenHalf
/-! loop.example/g00959/impl.IsHalf -/
noncomputable def i_IsHalf (x0 : Int) (x1 : (List Int) × Int) : Option (Bool) :=
(i_within x0 (1 : Int) (3 : Int)).bind fun v1 => cond v1
 (cond ((x1.1.length : Int) == x0)
 ((i_allWithin x1.1 (-20 : Int) (20 : Int)).bind fun v2 => cond v2
 ((i_gcdAll x1.1).bind fun v3 => cond (decide (v3 > (0 : Int)))
 ((i_within x1.2 (-200 : Int) (200 : Int)).bind fun v4 => some v4)
 (some false))
 (some false))
 (some false))
 (some false)
noncomputable def e_i_IsHalf : CallE := ⟨76, [.d false (.int .i64), .d false (.prod (.list (.int .i64)) (.int .i64))], [.l (.d false .bool)], fun x => i_IsHalf x.1 x.2⟩
noncomputable def c_i_IsHalf : Ctx := ⟨Try.prog, TT, [e_i_within, e_i_allWithin, e_i_gcdAll], [], []⟩
theorem k_i_IsHalf (x : PMs.den e_i_IsHalf.ps) : funK c_i_IsHalf Try.f76 e_i_IsHalf.ps e_i_IsHalf.rs x = e_i_IsHalf.F x := by kernel_rfl
theorem o_i_IsHalf : FnOk Try.prog e_i_IsHalf.f ∧ Ctr Try.prog e_i_IsHalf := mkCtr (C := c_i_IsHalf) m_ (⟨o_i_within, o_i_allWithin, o_i_gcdAll, trivial⟩) Try.func76 (by kernel_rfl) k_i_IsHalf
/-! loop.example/g00959/impl.copyInts -/
noncomputable def i_copyInts (x0 : List Int) : Option (List Int) :=
(appD 8 ([] : List Int) x0).bind fun v1 => some v1
noncomputable def e_i_copyInts : CallE := ⟨77, [.d false (.list (.int .i64))], [.l (.o true 3 (.int .i64))], fun x => i_copyInts x⟩
noncomputable def c_i_copyInts : Ctx := ⟨Try.prog, TT, [], [], []⟩
theorem k_i_copyInts (x : PMs.den e_i_copyInts.ps) : funK c_i_copyInts Try.f77 e_i_copyInts.ps e_i_copyInts.rs x = e_i_copyInts.F x := by kernel_rfl
theorem o_i_copyInts : FnOk Try.prog e_i_copyInts.f ∧ Ctr Try.prog e_i_copyInts := mkCtr (C := c_i_copyInts) m_ (trivial) Try.func77 (by kernel_rfl) k_i_copyInts
/-! loop.example/g00959/impl.down -/
noncomputable def i_down (x0 : Int) (x1 : Int) : Option (Int) :=
(quoI .i64 x0 x1).bind fun v1 => (remI .i64 x0 x1).bind fun v2 => cond (decide (v2 < (0 : Int)))
 (some (IntKind.i64.wrap (v1 - (1 : Int))))
 (some v1)
noncomputable def e_i_down : CallE := ⟨78, [.d false (.int .i64), .d false (.int .i64)], [.l (.d false (.int .i64))], fun x => i_down x.1 x.2⟩
noncomputable def c_i_down : Ctx := ⟨Try.prog, TT, [], [], []⟩
theorem k_i_down (x : PMs.den e_i_down.ps) : funK c_i_down Try.f78 e_i_down.ps e_i_down.rs x = e_i_down.F x := by kernel_rfl
theorem o_i_down : FnOk Try.prog e_i_down.f ∧ Ctr Try.prog e_i_down := mkCtr (C := c_i_down) m_ (trivial) Try.func78 (by kernel_rfl) k_i_down
/-! loop.example/g00959/impl.TightenHalf -/
noncomputable def i_TightenHalf_s6 (v2 : Int) (v3 : List Int) (v5 : (List Int × Int) × (List Int × Int) × Int) : Option (((List Int × Int) × (List Int × Int) × Int) ⊕ ((List Int × Int) × List Int × Int)) :=
 cond (decide (v5.2.2 < (v3.length : Int)))
 ((inIdx v5.2.1.1.length v5.2.2).bind fun _ => (idx v5.2.1.1 ((v5.2.2).toNat : Int)).bind fun v6 => (quoI .i64 v6 v2).bind fun v7 => (inIdx v5.2.1.1.length v5.2.2).bind fun _ => (inIdx v5.2.1.1.length ((v5.2.2).toNat : Int)).bind fun _ => some (.inl ((v5.1.1, v5.1.2), (((v5.2.1.1.set ((v5.2.2).toNat) v7), v5.2.1.2), (IntKind.i64.wrap (v5.2.2 + (1 : Int)))))))
 (some (.inr ((v5.1.1, v5.1.2), (v5.2.1.1, v5.2.1.2))))
noncomputable def i_TightenHalf (x0 : (List Int) × Int) : Option ((List Int × Int) × Bool) :=
(i_IsHalf (x0.1.length : Int) (x0.1, x0.2)).bind fun v1 => cond (!v1)
 (some ((([] : List Int), (0 : Int)), false))
 ((i_gcdAll x0.1).bind fun v2 => (i_copyInts x0.1).bind fun v3 => (i_down x0.2 v2).bind fun v4 => (iter (i_TightenHalf_s6 v2 v3) ((([] : List Int), (0 : Int)), ((v3, v4), (0 : Int)))).bind fun v8 => some ((v8.2.1, v8.2.2), true))
noncomputable def e_i_TightenHalf : CallE := ⟨43, [.d false (.prod (.list (.int .i64)) (.int .i64))], [.a [(.o true 3 (.int .i64)), (.d false (.int .i64))], .l (.d false .bool)], fun x => i_TightenHalf x⟩
noncomputable def c_i_TightenHalf : Ctx := ⟨Try.prog, TT, [e_i_IsHalf, e_i_gcdAll, e_i_copyInts, e_i_down], [⟨6, [(2, .b 51 [(.o true 3 (.int .i64)), (.d false (.int .i64))]), (5, .b 51 [(.o true 3 (.int .i64)), (.d false (.int .i64))]), (28, .l (.d false (.int .i64)))], some (0, [(2, .b 51 [(.o true 3 (.int .i64)), (.d false (.int .i64))]), (5, .b 51 [(.o true 3 (.int .i64)), (.d false (.int .i64))])]), none⟩], []⟩
theorem k_i_TightenHalf (x : PMs.den e_i_TightenHalf.ps) : funK c_i_TightenHalf Try.f43 e_i_TightenHalf.ps e_i_TightenHalf.rs x = e_i_TightenHalf.F x := by kernel_rfl
theorem o_i_TightenHalf : FnOk Try.prog e_i_TightenHalf.f ∧ Ctr Try.prog e_i_TightenHalf := mkCtr (C := c_i_TightenHalf) m_ (⟨o_i_IsHalf, o_i_gcdAll, o_i_copyInts, o_i_down, trivial⟩) Try.func43 (by kernel_rfl) k_i_TightenHalf
/-! loop.example/g00959/laws.eqHalf -/
noncomputable def w_eqHalf (x0 : (List Int) × Int) (x1 : (List Int) × Int) : Option (Bool) :=
(w_eqIntS x0.1 x1.1).bind fun v1 => cond (!v1)
 (some false)
 (cond (x0.2 != x1.2)
 (some false)
 (some true))
noncomputable def e_w_eqHalf : CallE := ⟨44, [.d false (.prod (.list (.int .i64)) (.int .i64)), .d false (.prod (.list (.int .i64)) (.int .i64))], [.l (.d false .bool)], fun x => w_eqHalf x.1 x.2⟩
noncomputable def c_w_eqHalf : Ctx := ⟨Try.prog, TT, [e_w_eqIntS], [], []⟩
theorem k_w_eqHalf (x : PMs.den e_w_eqHalf.ps) : funK c_w_eqHalf Try.f44 e_w_eqHalf.ps e_w_eqHalf.rs x = e_w_eqHalf.F x := by kernel_rfl
theorem o_w_eqHalf : FnOk Try.prog e_w_eqHalf.f ∧ Ctr Try.prog e_w_eqHalf := mkCtr (C := c_w_eqHalf) m_ (⟨o_w_eqIntS, trivial⟩) Try.func44 (by kernel_rfl) k_w_eqHalf
/-! loop.example/g00959/spec.IsVector -/
noncomputable def s_IsVector (x0 : List Int) : Option (Bool) :=
(s_l1In (x0.length : Int) (1 : Int) (3 : Int)).bind fun v1 => cond v1
 ((s_l2Small x0 (1000 : Int)).bind fun v2 => some v2)
 (some false)
noncomputable def e_s_IsVector : CallE := ⟨101, [.d false (.list (.int .i64))], [.l (.d false .bool)], fun x => s_IsVector x⟩
noncomputable def c_s_IsVector : Ctx := ⟨Try.prog, TT, [e_s_l1In, e_s_l2Small], [], []⟩
theorem k_s_IsVector (x : PMs.den e_s_IsVector.ps) : funK c_s_IsVector Try.f101 e_s_IsVector.ps e_s_IsVector.rs x = e_s_IsVector.F x := by kernel_rfl
theorem o_s_IsVector : FnOk Try.prog e_s_IsVector.f ∧ Ctr Try.prog e_s_IsVector := mkCtr (C := c_s_IsVector) m_ (⟨o_s_l1In, o_s_l2Small, trivial⟩) Try.func101 (by kernel_rfl) k_s_IsVector
/-! loop.example/g00959/spec.InCone -/
noncomputable def s_InCone (x0 : (List Int) × (List Int)) (x1 : List Int) : Option (Bool) :=
(s_IsCone (x0.1, x0.2)).bind fun v1 => cond v1
 ((s_IsVector x1).bind fun v2 => cond v2
 (cond ((x1.length : Int) == (2 : Int))
 ((s_l7Cross x0.1 x1).bind fun v3 => cond (decide (v3 ≥ (0 : Int)))
 ((s_l7Cross x1 x0.2).bind fun v4 => some (decide (v4 ≥ (0 : Int))))
 (some false))
 (some false))
 (some false))
 (some false)
noncomputable def e_s_InCone : CallE := ⟨79, [.d false (.prod (.list (.int .i64)) (.list (.int .i64))), .d false (.list (.int .i64))], [.l (.d false .bool)], fun x => s_InCone x.1 x.2⟩
noncomputable def c_s_InCone : Ctx := ⟨Try.prog, TT, [e_s_IsCone, e_s_IsVector, e_s_l7Cross], [], []⟩
theorem k_s_InCone (x : PMs.den e_s_InCone.ps) : funK c_s_InCone Try.f79 e_s_InCone.ps e_s_InCone.rs x = e_s_InCone.F x := by kernel_rfl
theorem o_s_InCone : FnOk Try.prog e_s_InCone.f ∧ Ctr Try.prog e_s_InCone := mkCtr (C := c_s_InCone) m_ (⟨o_s_IsCone, o_s_IsVector, o_s_l7Cross, trivial⟩) Try.func79 (by kernel_rfl) k_s_InCone
/-! loop.example/g00959/spec.MeetCones -/
noncomputable def s_MeetCones (x0 : (List Int) × (List Int)) (x1 : (List Int) × (List Int)) : Option ((List Int × List Int) × Bool) :=
(s_IsCone (x0.1, x0.2)).bind fun v1 => cond (!v1)
 (some ((([] : List Int), ([] : List Int)), false))
 ((s_IsCone (x1.1, x1.2)).bind fun v2 => cond (!v2)
 (some ((([] : List Int), ([] : List Int)), false))
 ((s_InCone (x0.1, x0.2) x1.1).bind fun v3 => cond v3
 ((s_InCone (x0.1, x0.2) x1.2).bind fun v4 => cond v4
 ((appD 8 ([] : List Int) x1.1).bind fun v5 => (appD 8 ([] : List Int) x1.2).bind fun v6 => (s_IsCone (v5, v6)).bind fun v7 => cond (!v7)
 (some ((([] : List Int), ([] : List Int)), false))
 ((s_InCone (x1.1, x1.2) v5).bind fun v8 => cond (!v8)
 (some ((([] : List Int), ([] : List Int)), false))
 ((s_InCone (x1.1, x1.2) v6).bind fun v9 => cond (!v9)
 (some ((([] : List Int), ([] : List Int)), false))
 (some ((v5, v6), true)))))
 ((appD 8 ([] : List Int) x1.1).bind fun v10 => (appD 8 ([] : List Int) x0.2).bind fun v11 => (s_IsCone (v10, v11)).bind fun v12 => cond (!v12)
 (some ((([] : List Int), ([] : List Int)), false))
 ((s_InCone (x1.1, x1.2) v10).bind fun v13 => cond (!v13)
 (some ((([] : List Int), ([] : List Int)), false))
 ((s_InCone (x1.1, x1.2) v11).bind fun v14 => cond (!v14)
 (some ((([] : List Int), ([] : List Int)), false))
 (some ((v10, v11), true))))))
 ((s_InCone (x0.1, x0.2) x1.2).bind fun v15 => cond v15
 ((appD 8 ([] : List Int) x0.1).bind fun v16 => (appD 8 ([] : List Int) x1.2).bind fun v17 => (s_IsCone (v16, v17)).bind fun v18 => cond (!v18)
 (some ((([] : List Int), ([] : List Int)), false))
 ((s_InCone (x1.1, x1.2) v16).bind fun v19 => cond (!v19)
 (some ((([] : List Int), ([] : List Int)), false))
 ((s_InCone (x1.1, x1.2) v17).bind fun v20 => cond (!v20)
 (some ((([] : List Int), ([] : List Int)), false))
 (some ((v16, v17), true)))))
 ((appD 8 ([] : List Int) x0.1).bind fun v21 => (appD 8 ([] : List Int) x0.2).bind fun v22 => (s_IsCone (v21, v22)).bind fun v23 => cond (!v23)
 (some ((([] : List Int), ([] : List Int)), false))
 ((s_InCone (x1.1, x1.2) v21).bind fun v24 => cond (!v24)
 (some ((([] : List Int), ([] : List Int)), false))
 ((s_InCone (x1.1, x1.2) v22).bind fun v25 => cond (!v25)
 (some ((([] : List Int), ([] : List Int)), false))
 (some ((v21, v22), true))))))))
noncomputable def e_s_MeetCones : CallE := ⟨47, [.d false (.prod (.list (.int .i64)) (.list (.int .i64))), .d false (.prod (.list (.int .i64)) (.list (.int .i64)))], [.a [(.o true 3 (.int .i64)), (.o true 3 (.int .i64))], .l (.d false .bool)], fun x => s_MeetCones x.1 x.2⟩
noncomputable def c_s_MeetCones : Ctx := ⟨Try.prog, TT, [e_s_IsCone, e_s_InCone], [], []⟩
theorem k_s_MeetCones (x : PMs.den e_s_MeetCones.ps) : funK c_s_MeetCones Try.f47 e_s_MeetCones.ps e_s_MeetCones.rs x = e_s_MeetCones.F x := by kernel_rfl
theorem o_s_MeetCones : FnOk Try.prog e_s_MeetCones.f ∧ Ctr Try.prog e_s_MeetCones := mkCtr (C := c_s_MeetCones) m_ (⟨o_s_IsCone, o_s_InCone, trivial⟩) Try.func47 (by kernel_rfl) k_s_MeetCones
/-! loop.example/g00959/spec.l9Bezout -/
noncomputable def s_l9Bezout_s8 (x0 : List Int) (v1 : Int) (v2 : Int) (v3 : Int) : Option ((Int) ⊕ ((Unit) ⊕ (List Int))) :=
 cond (decide (v3 < (4 : Int)))
 ((idx ([([v2, v1] : List Int), ([v2, (IntKind.i64.wrap (0 - v1))] : List Int), ([v1, v2] : List Int), ([(IntKind.i64.wrap (0 - v1)), v2] : List Int)] : List (List Int)) v3).bind fun v4 => (s_l7Cross x0 v4).bind fun v5 => cond (v5 == (1 : Int))
 ((idx ([([v2, v1] : List Int), ([v2, (IntKind.i64.wrap (0 - v1))] : List Int), ([v1, v2] : List Int), ([(IntKind.i64.wrap (0 - v1)), v2] : List Int)] : List (List Int)) v3).bind fun v6 => some (.inr (.inr v6)))
 (some (.inl (IntKind.i64.wrap (v3 + (1 : Int))))))
 (some (.inr (.inl ())))
noncomputable def s_l9Bezout_s4 (x0 : List Int) (v1 : Int) (v2 : Int) : Option ((Int) ⊕ ((Unit) ⊕ (List Int))) :=
 cond (decide (v2 ≤ v1))
 ((iter (s_l9Bezout_s8 x0 v1 v2) (0 : Int)).bind fun v7 => match v7 with
 | .inl v8 => (some (.inl (IntKind.i64.wrap (v2 + (1 : Int)))))
 | .inr v9 => (some (.inr (.inr v9))))
 (some (.inr (.inl ())))
noncomputable def s_l9Bezout_s3 (x0 : List Int) (v1 : Int) : Option ((Int) ⊕ (List Int)) :=
(iter (s_l9Bezout_s4 x0 v1) (IntKind.i64.wrap (0 - v1))).bind fun v10 => match v10 with
 | .inl v11 => (some (.inl (IntKind.i64.wrap (v1 + (1 : Int)))))
 | .inr v12 => (some (.inr v12))
noncomputable def s_l9Bezout (x0 : List Int) : Option (List Int) :=
(iter (s_l9Bezout_s3 x0) (0 : Int)).bind fun v13 => some v13
noncomputable def e_s_l9Bezout : CallE := ⟨107, [.d false (.list (.int .i64))], [.l (.d false (.list (.int .i64)))], fun x => s_l9Bezout x⟩
noncomputable def c_s_l9Bezout : Ctx := ⟨Try.prog, TT, [e_s_l7Cross], [⟨3, [(3, .l (.d false (.int .i64)))], none, some [(2, .l (.d false (.list (.int .i64))))]⟩, ⟨4, [(4, .l (.d false (.int .i64)))], some (2, []), some [(2, .l (.d false (.list (.int .i64))))]⟩, ⟨8, [(6, .l (.d false (.int .i64)))], some (4, []), some [(2, .l (.d false (.list (.int .i64))))]⟩], []⟩
theorem k_s_l9Bezout (x : PMs.den e_s_l9Bezout.ps) : funK c_s_l9Bezout Try.f107 e_s_l9Bezout.ps e_s_l9Bezout.rs x = e_s_l9Bezout.F x := by kernel_rfl
theorem o_s_l9Bezout : FnOk Try.prog e_s_l9Bezout.f ∧ Ctr Try.prog e_s_l9Bezout := mkCtr (C := c_s_l9Bezout) m_ (⟨o_s_l7Cross, trivial⟩) Try.func107 (by kernel_rfl) k_s_l9Bezout
/-! loop.example/g00959/spec.l2Scale -/
noncomputable def s_l2Scale_s3 (x0 : List Int) (x1 : Int) (v1 : List Int × Int) : Option ((List Int × Int) ⊕ (List Int)) :=
 cond (decide (v1.2 < (x0.length : Int)))
 ((idx x0 v1.2).bind fun v2 => (appD 8 v1.1 ([(IntKind.i64.wrap (v2 * x1))] : List Int)).bind fun v3 => some (.inl (v3, (IntKind.i64.wrap (v1.2 + (1 : Int))))))
 (some (.inr v1.1))
noncomputable def s_l2Scale (x0 : List Int) (x1 : Int) : Option (List Int) :=
(iter (s_l2Scale_s3 x0 x1) (([] : List Int), (0 : Int))).bind fun v4 => some v4
noncomputable def e_s_l2Scale : CallE := ⟨85, [.d false (.list (.int .i64)), .d false (.int .i64)], [.l (.o true 3 (.int .i64))], fun x => s_l2Scale x.1 x.2⟩
noncomputable def c_s_l2Scale : Ctx := ⟨Try.prog, TT, [], [⟨3, [(5, .l (.o true 3 (.int .i64))), (6, .l (.d false (.int .i64)))], some (0, [(5, .l (.o true 3 (.int .i64)))]), none⟩], []⟩
theorem k_s_l2Scale (x : PMs.den e_s_l2Scale.ps) : funK c_s_l2Scale Try.f85 e_s_l2Scale.ps e_s_l2Scale.rs x = e_s_l2Scale.F x := by kernel_rfl
theorem o_s_l2Scale : FnOk Try.prog e_s_l2Scale.f ∧ Ctr Try.prog e_s_l2Scale := mkCtr (C := c_s_l2Scale) m_ (trivial) Try.func85 (by kernel_rfl) k_s_l2Scale
/-! loop.example/g00959/spec.l2Less -/
noncomputable def s_l2Less_s3 (x0 : List Int) (x1 : List Int) (v1 : List Int × Int) : Option ((List Int × Int) ⊕ (List Int)) :=
 cond (decide (v1.2 < (x0.length : Int)))
 ((idx x0 v1.2).bind fun v2 => (idx x1 v1.2).bind fun v3 => (appD 8 v1.1 ([(IntKind.i64.wrap (v2 - v3))] : List Int)).bind fun v4 => some (.inl (v4, (IntKind.i64.wrap (v1.2 + (1 : Int))))))
 (some (.inr v1.1))
noncomputable def s_l2Less (x0 : List Int) (x1 : List Int) : Option (List Int) :=
(iter (s_l2Less_s3 x0 x1) (([] : List Int), (0 : Int))).bind fun v5 => some v5
noncomputable def e_s_l2Less : CallE := ⟨108, [.d false (.list (.int .i64)), .d false (.list (.int .i64))], [.l (.o true 3 (.int .i64))], fun x => s_l2Less x.1 x.2⟩
noncomputable def c_s_l2Less : Ctx := ⟨Try.prog, TT, [], [⟨3, [(5, .l (.o true 3 (.int .i64))), (6, .l (.d false (.int .i64)))], some (0, [(5, .l (.o true 3 (.int .i64)))]), none⟩], []⟩
theorem k_s_l2Less (x : PMs.den e_s_l2Less.ps) : funK c_s_l2Less Try.f108 e_s_l2Less.ps e_s_l2Less.rs x = e_s_l2Less.F x := by kernel_rfl
theorem o_s_l2Less : FnOk Try.prog e_s_l2Less.f ∧ Ctr Try.prog e_s_l2Less := mkCtr (C := c_s_l2Less) m_ (trivial) Try.func108 (by kernel_rfl) k_s_l2Less
/-! loop.example/g00959/spec.l9Next -/
noncomputable def s_l9Next (x0 : List Int) (x1 : List Int) : Option (List Int) :=
(s_l7Cross x0 x1).bind fun v1 => (s_l9Bezout x0).bind fun v2 => (s_l7Cross v2 x1).bind fun v3 => (s_l3Floor v3 v1).bind fun v4 => (s_l2Scale x0 v4).bind fun v5 => (s_l2Less v2 v5).bind fun v6 => some v6
noncomputable def e_s_l9Next : CallE := ⟨103, [.d false (.list (.int .i64)), .d false (.list (.int .i64))], [.l (.o true 3 (.int .i64))], fun x => s_l9Next x.1 x.2⟩
noncomputable def c_s_l9Next : Ctx := ⟨Try.prog, TT, [e_s_l7Cross, e_s_l9Bezout, e_s_l3Floor, e_s_l2Scale, e_s_l2Less], [], []⟩
theorem k_s_l9Next (x : PMs.den e_s_l9Next.ps) : funK c_s_l9Next Try.f103 e_s_l9Next.ps e_s_l9Next.rs x = e_s_l9Next.F x := by kernel_rfl
theorem o_s_l9Next : FnOk Try.prog e_s_l9Next.f ∧ Ctr Try.prog e_s_l9Next := mkCtr (C := c_s_l9Next) m_ (⟨o_s_l7Cross, o_s_l9Bezout, o_s_l3Floor, o_s_l2Scale, o_s_l2Less, trivial⟩) Try.func103 (by kernel_rfl) k_s_l9Next
/-! loop.example/g00959/spec.SplitCone -/
noncomputable def s_SplitCone_s5 (x0 : (List Int) × (List Int)) (v3 : List (List Int) × List Int) : Option ((List (List Int) × List Int) ⊕ (List (List Int) × List Int)) :=
(s_l7Cross v3.2 x0.2).bind fun v4 => cond (decide (v4 > (0 : Int)))
 ((appD 24 v3.1 ([v3.2] : List (List Int))).bind fun v5 => (s_l9Next v3.2 x0.2).bind fun v6 => some (.inl (v5, v6)))
 (some (.inr (v3.1, v3.2)))
noncomputable def s_SplitCone (x0 : (List Int) × (List Int)) : Option (List (List Int)) :=
(s_IsCone (x0.1, x0.2)).bind fun v1 => cond (!v1)
 (some ([] : List (List Int)))
 ((appD 8 ([] : List Int) x0.1).bind fun v2 => (iter (s_SplitCone_s5 x0) (([] : List (List Int)), v2)).bind fun v7 => (appD 24 v7.1 ([v7.2] : List (List Int))).bind fun v8 => some v8)
noncomputable def e_s_SplitCone : CallE := ⟨82, [.d false (.prod (.list (.int .i64)) (.list (.int .i64)))], [.l (.o false 36 (.list (.int .i64)))], fun x => s_SplitCone x⟩
noncomputable def c_s_SplitCone : Ctx := ⟨Try.prog, TT, [e_s_IsCone, e_s_l7Cross, e_s_l9Next], [⟨5, [(3, .l (.o false 36 (.list (.int .i64)))), (4, .l (.d false (.list (.int .i64))))], some (0, [(3, .l (.o false 36 (.list (.int .i64)))), (4, .l (.d false (.list (.int .i64))))]), none⟩], []⟩
theorem k_s_SplitCone (x : PMs.den e_s_SplitCone.ps) : funK c_s_SplitCone Try.f82 e_s_SplitCone.ps e_s_SplitCone.rs x = e_s_SplitCone.F x := by kernel_rfl
theorem o_s_SplitCone : FnOk Try.prog e_s_SplitCone.f ∧ Ctr Try.prog e_s_SplitCone := mkCtr (C := c_s_SplitCone) m_ (⟨o_s_IsCone, o_s_l7Cross, o_s_l9Next, trivial⟩) Try.func82 (by kernel_rfl) k_s_SplitCone
/-! loop.example/g00959/spec.SailArea -/
noncomputable def s_SailArea (x0 : (List Int) × (List Int)) : Option (Int) :=
(s_SplitCone (x0.1, x0.2)).bind fun v1 => some (IntKind.i64.wrap ((v1.length : Int) - (1 : Int)))
noncomputable def e_s_SailArea : CallE := ⟨49, [.d false (.prod (.list (.int .i64)) (.list (.int .i64)))], [.l (.d false (.int .i64))], fun x => s_SailArea x⟩
noncomputable def c_s_SailArea : Ctx := ⟨Try.prog, TT, [e_s_SplitCone], [], []⟩
theorem k_s_SailArea (x : PMs.den e_s_SailArea.ps) : funK c_s_SailArea Try.f49 e_s_SailArea.ps e_s_SailArea.rs x = e_s_SailArea.F x := by kernel_rfl
theorem o_s_SailArea : FnOk Try.prog e_s_SailArea.f ∧ Ctr Try.prog e_s_SailArea := mkCtr (C := c_s_SailArea) m_ (⟨o_s_SplitCone, trivial⟩) Try.func49 (by kernel_rfl) k_s_SailArea
/-! loop.example/g00959/impl.partner -/
noncomputable def i_partner_s3 (v3 : List Int × List Int × Int × Int) : Option ((List Int × List Int × Int × Int) ⊕ (List Int × Int)) :=
 cond (v3.2.2.2 != (0 : Int))
 ((quoI .i64 v3.2.2.1 v3.2.2.2).bind fun v4 => (inIdx v3.1.length (0 : Int)).bind fun _ => (idx v3.1 (((0 : Int)).toNat : Int)).bind fun v5 => (inIdx v3.2.1.length (0 : Int)).bind fun _ => (idx v3.2.1 (((0 : Int)).toNat : Int)).bind fun v6 => (inIdx v3.1.length (1 : Int)).bind fun _ => (idx v3.1 (((1 : Int)).toNat : Int)).bind fun v7 => (inIdx v3.2.1.length (1 : Int)).bind fun _ => (idx v3.2.1 (((1 : Int)).toNat : Int)).bind fun v8 => some (.inl (v3.2.1, (([(IntKind.i64.wrap (v5 - (IntKind.i64.wrap (v4 * v6)))), (IntKind.i64.wrap (v7 - (IntKind.i64.wrap (v4 * v8))))] : List Int), (v3.2.2.2, (IntKind.i64.wrap (v3.2.2.1 - (IntKind.i64.wrap (v4 * v3.2.2.2)))))))))
 (some (.inr (v3.1, v3.2.2.1)))
noncomputable def i_partner (x0 : List Int) : Option (List Int) :=
(idx x0 (0 : Int)).bind fun v1 => (idx x0 (1 : Int)).bind fun v2 => (iter (i_partner_s3) (([(1 : Int), (0 : Int)] : List Int), (([(0 : Int), (1 : Int)] : List Int), (v1, v2)))).bind fun v9 => (inIdx v9.1.length (1 : Int)).bind fun _ => (idx v9.1 (((1 : Int)).toNat : Int)).bind fun v10 => (inIdx v9.1.length (0 : Int)).bind fun _ => (idx v9.1 (((0 : Int)).toNat : Int)).bind fun v11 => some ([(IntKind.i64.wrap ((IntKind.i64.wrap (0 - v10)) * v9.2)), (IntKind.i64.wrap (v11 * v9.2))] : List Int)
noncomputable def e_i_partner : CallE := ⟨104, [.d false (.list (.int .i64))], [.l (.o true 3 (.int .i64))], fun x => i_partner x⟩
noncomputable def c_i_partner : Ctx := ⟨Try.prog, TT, [], [⟨3, [(3, .l (.o true 3 (.int .i64))), (4, .l (.o true 3 (.int .i64))), (5, .l (.d false (.int .i64))), (6, .l (.d false (.int .i64)))], some (0, [(3, .l (.o true 3 (.int .i64))), (5, .l (.d false (.int .i64)))]), none⟩], []⟩
theorem k_i_partner (x : PMs.den e_i_partner.ps) : funK c_i_partner Try.f104 e_i_partner.ps e_i_partner.rs x = e_i_partner.F x := by kernel_rfl
theorem o_i_partner : FnOk Try.prog e_i_partner.f ∧ Ctr Try.prog e_i_partner := mkCtr (C := c_i_partner) m_ (trivial) Try.func104 (by kernel_rfl) k_i_partner
/-! loop.example/g00959/impl.less -/
noncomputable def i_less_s1 (x0 : List Int) (x1 : Int) (x2 : List Int) (v1 : List Int × Int) : Option ((List Int × Int) ⊕ (List Int)) :=
 cond (decide (v1.2 < (x0.length : Int)))
 ((inIdx v1.1.length v1.2).bind fun _ => (idx v1.1 ((v1.2).toNat : Int)).bind fun v2 => (idx x2 v1.2).bind fun v3 => (inIdx v1.1.length v1.2).bind fun _ => (inIdx v1.1.length ((v1.2).toNat : Int)).bind fun _ => some (.inl ((v1.1.set ((v1.2).toNat) (IntKind.i64.wrap (v2 - (IntKind.i64.wrap (x1 * v3))))), (IntKind.i64.wrap (v1.2 + (1 : Int))))))
 (some (.inr v1.1))
noncomputable def i_less (x0 : List Int) (x1 : Int) (x2 : List Int) : Option ((Unit) × (List Int) × Unit) :=
(iter (i_less_s1 x0 x1 x2) (x0, (0 : Int))).bind fun v4 => some ((), (v4, ()))
noncomputable def e_i_less : CallE := ⟨86, [.io true 3 (.int .i64), .d false (.int .i64), .d false (.list (.int .i64))], [], fun x => i_less x.1 x.2.1 x.2.2⟩
noncomputable def c_i_less : Ctx := ⟨Try.prog, TT, [], [⟨1, [(0, .l (.o true 3 (.int .i64))), (9, .l (.d false (.int .i64)))], some (0, [(0, .l (.o true 3 (.int .i64)))]), none⟩], []⟩
theorem k_i_less (x : PMs.den e_i_less.ps) : funK c_i_less Try.f86 e_i_less.ps e_i_less.rs x = e_i_less.F x := by kernel_rfl
theorem o_i_less : FnOk Try.prog e_i_less.f ∧ Ctr Try.prog e_i_less := mkCtr (C := c_i_less) m_ (trivial) Try.func86 (by kernel_rfl) k_i_less
/-! loop.example/g00959/impl.SplitCone -/
noncomputable def i_SplitCone_s4 (x0 : (List Int) × (List Int)) (v3 : List (List Int)) : Option ((List (List Int)) ⊕ (List (List Int))) :=
(inIdx v3.length (IntKind.i64.wrap ((v3.length : Int) - (1 : Int)))).bind fun _ => (idx v3 (((IntKind.i64.wrap ((v3.length : Int) - (1 : Int)))).toNat : Int)).bind fun v4 => (i_cross v4 x0.2).bind fun v5 => cond (v5 == (0 : Int))
 (some (.inr v3))
 ((i_partner v4).bind fun v6 => (i_cross v6 x0.2).bind fun v7 => (i_down v7 v5).bind fun v8 => (i_less v6 v8 v4).bind fun v9 => (appD 24 v3 ([v9.2.1] : List (List Int))).bind fun v10 => some (.inl v10))
noncomputable def i_SplitCone (x0 : (List Int) × (List Int)) : Option (List (List Int)) :=
(i_IsCone (x0.1, x0.2)).bind fun v1 => cond (!v1)
 (some ([] : List (List Int)))
 ((i_copyInts x0.1).bind fun v2 => (iter (i_SplitCone_s4 x0) ([v2] : List (List Int))).bind fun v11 => some v11)
noncomputable def e_i_SplitCone : CallE := ⟨83, [.d false (.prod (.list (.int .i64)) (.list (.int .i64)))], [.l (.o true 36 (.list (.int .i64)))], fun x => i_SplitCone x⟩
noncomputable def c_i_SplitCone : Ctx := ⟨Try.prog, TT, [e_i_IsCone, e_i_copyInts, e_i_cross, e_i_partner, e_i_down, e_i_less], [⟨4, [(3, .l (.o true 36 (.list (.int .i64))))], none, some [(2, .l (.o true 36 (.list (.int .i64))))]⟩], []⟩
theorem k_i_SplitCone (x : PMs.den e_i_SplitCone.ps) : funK c_i_SplitCone Try.f83 e_i_SplitCone.ps e_i_SplitCone.rs x = e_i_SplitCone.F x := by kernel_rfl
theorem o_i_SplitCone : FnOk Try.prog e_i_SplitCone.f ∧ Ctr Try.prog e_i_SplitCone := mkCtr (C := c_i_SplitCone) m_ (⟨o_i_IsCone, o_i_copyInts, o_i_cross, o_i_partner, o_i_down, o_i_less, trivial⟩) Try.func83 (by kernel_rfl) k_i_SplitCone
/-! loop.example/g00959/impl.SailArea -/
noncomputable def i_SailArea (x0 : (List Int) × (List Int)) : Option (Int) :=
(i_SplitCone (x0.1, x0.2)).bind fun v1 => some (IntKind.i64.wrap ((v1.length : Int) - (1 : Int)))
noncomputable def e_i_SailArea : CallE := ⟨50, [.d false (.prod (.list (.int .i64)) (.list (.int .i64)))], [.l (.d false (.int .i64))], fun x => i_SailArea x⟩
noncomputable def c_i_SailArea : Ctx := ⟨Try.prog, TT, [e_i_SplitCone], [], []⟩
theorem k_i_SailArea (x : PMs.den e_i_SailArea.ps) : funK c_i_SailArea Try.f50 e_i_SailArea.ps e_i_SailArea.rs x = e_i_SailArea.F x := by kernel_rfl
theorem o_i_SailArea : FnOk Try.prog e_i_SailArea.f ∧ Ctr Try.prog e_i_SailArea := mkCtr (C := c_i_SailArea) m_ (⟨o_i_SplitCone, trivial⟩) Try.func50 (by kernel_rfl) k_i_SailArea
/-! loop.example/g00959/laws.FnExactSailArea -/
noncomputable def w_FnExactSailArea (x0 : (List Int) × (List Int)) : Option (Bool) :=
(w_szCone (x0.1, x0.2) (1048576 : Int)).bind fun v1 => cond (decide (v1 < (0 : Int)))
 (some true)
 ((w_toCone (x0.1, x0.2)).bind fun v2 => (s_SailArea (v2.1, v2.2)).bind fun v3 => (w_toCone (x0.1, x0.2)).bind fun v4 => (i_SailArea (v4.1, v4.2)).bind fun v5 => cond (v5 != v3)
 (some false)
 ((w_toCone (x0.1, x0.2)).bind fun v6 => (w_eqCone (v4.1, v4.2) (v6.1, v6.2)).bind fun v7 => cond (!v7)
 (some false)
 (some true)))
noncomputable def e_w_FnExactSailArea : CallE := ⟨12, [.d false (.prod (.list (.int .i64)) (.list (.int .i64)))], [.l (.d false .bool)], fun x => w_FnExactSailArea x⟩
noncomputable def c_w_FnExactSailArea : Ctx := ⟨Try.prog, TT, [e_w_szCone, e_w_toCone, e_s_SailArea, e_i_SailArea, e_w_eqCone], [], []⟩
theorem k_w_FnExactSailArea (x : PMs.den e_w_FnExactSailArea.ps) : funK c_w_FnExactSailArea Try.f12 e_w_FnExactSailArea.ps e_w_FnExactSailArea.rs x = e_w_FnExactSailArea.F x := by kernel_rfl
theorem o_w_FnExactSailArea : FnOk Try.prog e_w_FnExactSailArea.f ∧ Ctr Try.prog e_w_FnExactSailArea := mkCtr (C := c_w_FnExactSailArea) m_ (⟨o_w_szCone, o_w_toCone, o_s_SailArea, o_i_SailArea, o_w_eqCone, trivial⟩) Try.func12 (by kernel_rfl) k_w_FnExactSailArea
/-! loop.example/g00959/spec.l2Add -/
noncomputable def s_l2Add_s3 (x0 : List Int) (x1 : List Int) (v1 : List Int × Int) : Option ((List Int × Int) ⊕ (List Int)) :=
 cond (decide (v1.2 < (x0.length : Int)))
 ((idx x0 v1.2).bind fun v2 => (idx x1 v1.2).bind fun v3 => (appD 8 v1.1 ([(IntKind.i64.wrap (v2 + v3))] : List Int)).bind fun v4 => some (.inl (v4, (IntKind.i64.wrap (v1.2 + (1 : Int))))))
 (some (.inr v1.1))
noncomputable def s_l2Add (x0 : List Int) (x1 : List Int) : Option (List Int) :=
(iter (s_l2Add_s3 x0 x1) (([] : List Int), (0 : Int))).bind fun v5 => some v5
noncomputable def e_s_l2Add : CallE := ⟨84, [.d false (.list (.int .i64)), .d false (.list (.int .i64))], [.l (.o true 3 (.int .i64))], fun x => s_l2Add x.1 x.2⟩
noncomputable def c_s_l2Add : Ctx := ⟨Try.prog, TT, [], [⟨3, [(5, .l (.o true 3 (.int .i64))), (6, .l (.d false (.int .i64)))], some (0, [(5, .l (.o true 3 (.int .i64)))]), none⟩], []⟩
theorem k_s_l2Add (x : PMs.den e_s_l2Add.ps) : funK c_s_l2Add Try.f84 e_s_l2Add.ps e_s_l2Add.rs x = e_s_l2Add.F x := by kernel_rfl
theorem o_s_l2Add : FnOk Try.prog e_s_l2Add.f ∧ Ctr Try.prog e_s_l2Add := mkCtr (C := c_s_l2Add) m_ (trivial) Try.func84 (by kernel_rfl) k_s_l2Add
/-! loop.example/g00959/spec.CombineHalves -/
noncomputable def s_CombineHalves (x0 : (List Int) × Int) (x1 : (List Int) × Int) (x2 : Int) (x3 : Int) : Option ((List Int × Int) × Bool) :=
(s_IsHalf (x0.1.length : Int) (x0.1, x0.2)).bind fun v1 => cond (!v1)
 (some ((([] : List Int), (0 : Int)), false))
 ((s_IsHalf (x0.1.length : Int) (x1.1, x1.2)).bind fun v2 => cond (!v2)
 (some ((([] : List Int), (0 : Int)), false))
 ((s_l1In x2 (0 : Int) (10 : Int)).bind fun v3 => cond (!v3)
 (some ((([] : List Int), (0 : Int)), false))
 ((s_l1In x3 (0 : Int) (10 : Int)).bind fun v4 => cond (!v4)
 (some ((([] : List Int), (0 : Int)), false))
 ((s_l2Scale x0.1 x2).bind fun v5 => (s_l2Scale x1.1 x3).bind fun v6 => (s_l2Add v5 v6).bind fun v7 => (s_IsHalf (x0.1.length : Int) (v7, (IntKind.i64.wrap ((IntKind.i64.wrap (x2 * x0.2)) + (IntKind.i64.wrap (x3 * x1.2)))))).bind fun v8 => cond (!v8)
 (some ((([] : List Int), (0 : Int)), false))
 ((s_l24Tight (v7, (IntKind.i64.wrap ((IntKind.i64.wrap (x2 * x0.2)) + (IntKind.i64.wrap (x3 * x1.2)))))).bind fun v9 => some ((v9.1, v9.2), true))))))
noncomputable def e_s_CombineHalves : CallE := ⟨51, [.d false (.prod (.list (.int .i64)) (.int .i64)), .d false (.prod (.list (.int .i64)) (.int .i64)), .d false (.int .i64), .d false (.int .i64)], [.a [(.o true 3 (.int .i64)), (.d false (.int .i64))], .l (.d false .bool)], fun x => s_CombineHalves x.1 x.2.1 x.2.2.1 x.2.2.2⟩
noncomputable def c_s_CombineHalves : Ctx := ⟨Try.prog, TT, [e_s_IsHalf, e_s_l1In, e_s_l2Scale, e_s_l2Add, e_s_l24Tight], [], []⟩
theorem k_s_CombineHalves (x : PMs.den e_s_CombineHalves.ps) : funK c_s_CombineHalves Try.f51 e_s_CombineHalves.ps e_s_CombineHalves.rs x = e_s_CombineHalves.F x := by kernel_rfl
theorem o_s_CombineHalves : FnOk Try.prog e_s_CombineHalves.f ∧ Ctr Try.prog e_s_CombineHalves := mkCtr (C := c_s_CombineHalves) m_ (⟨o_s_IsHalf, o_s_l1In, o_s_l2Scale, o_s_l2Add, o_s_l24Tight, trivial⟩) Try.func51 (by kernel_rfl) k_s_CombineHalves
/-! loop.example/g00959/impl.CombineHalves -/
noncomputable def i_CombineHalves (x0 : (List Int) × Int) (x1 : (List Int) × Int) (x2 : Int) (x3 : Int) : Option ((List Int × Int) × Bool) :=
(i_IsHalf (x0.1.length : Int) (x0.1, x0.2)).bind fun v1 => cond (!v1)
 (some ((([] : List Int), (0 : Int)), false))
 ((i_IsHalf (x0.1.length : Int) (x1.1, x1.2)).bind fun v2 => cond (!v2)
 (some ((([] : List Int), (0 : Int)), false))
 ((i_within x2 (0 : Int) (10 : Int)).bind fun v3 => cond (!v3)
 (some ((([] : List Int), (0 : Int)), false))
 ((i_within x3 (0 : Int) (10 : Int)).bind fun v4 => cond (!v4)
 (some ((([] : List Int), (0 : Int)), false))
 ((mkD 8 (x0.1.length : Int) (0 : Int)).bind fun v5 => (i_less v5 (IntKind.i64.wrap (0 - x2)) x0.1).bind fun v6 => (i_less v6.2.1 (IntKind.i64.wrap (0 - x3)) x1.1).bind fun v7 => (i_TightenHalf (v7.2.1, (IntKind.i64.wrap ((IntKind.i64.wrap (x2 * x0.2)) + (IntKind.i64.wrap (x3 * x1.2)))))).bind fun v8 => some ((v8.1.1, v8.1.2), v8.2)))))
noncomputable def e_i_CombineHalves : CallE := ⟨52, [.d false (.prod (.list (.int .i64)) (.int .i64)), .d false (.prod (.list (.int .i64)) (.int .i64)), .d false (.int .i64), .d false (.int .i64)], [.a [(.o true 3 (.int .i64)), (.d false (.int .i64))], .l (.d false .bool)], fun x => i_CombineHalves x.1 x.2.1 x.2.2.1 x.2.2.2⟩
noncomputable def c_i_CombineHalves : Ctx := ⟨Try.prog, TT, [e_i_IsHalf, e_i_within, e_i_less, e_i_TightenHalf], [], []⟩
theorem k_i_CombineHalves (x : PMs.den e_i_CombineHalves.ps) : funK c_i_CombineHalves Try.f52 e_i_CombineHalves.ps e_i_CombineHalves.rs x = e_i_CombineHalves.F x := by kernel_rfl
theorem o_i_CombineHalves : FnOk Try.prog e_i_CombineHalves.f ∧ Ctr Try.prog e_i_CombineHalves := mkCtr (C := c_i_CombineHalves) m_ (⟨o_i_IsHalf, o_i_within, o_i_less, o_i_TightenHalf, trivial⟩) Try.func52 (by kernel_rfl) k_i_CombineHalves
/-! loop.example/g00959/spec.l1Bit -/
noncomputable def s_l1Bit (x0 : Bool) : Option (Int) :=
 cond x0
 (some (1 : Int))
 (some (0 : Int))
noncomputable def e_s_l1Bit : CallE := ⟨105, [.d false .bool], [.l (.d false (.int .i64))], fun x => s_l1Bit x⟩
noncomputable def c_s_l1Bit : Ctx := ⟨Try.prog, TT, [], [], []⟩
theorem k_s_l1Bit (x : PMs.den e_s_l1Bit.ps) : funK c_s_l1Bit Try.f105 e_s_l1Bit.ps e_s_l1Bit.rs x = e_s_l1Bit.F x := by kernel_rfl
theorem o_s_l1Bit : FnOk Try.prog e_s_l1Bit.f ∧ Ctr Try.prog e_s_l1Bit := mkCtr (C := c_s_l1Bit) m_ (trivial) Try.func105 (by kernel_rfl) k_s_l1Bit
/-! loop.example/g00959/spec.TurnsOf -/
noncomputable def s_TurnsOf_s4 (v1 : List (List Int)) (v2 : List Int × Int) : Option ((List Int × Int) ⊕ (List Int)) :=
 cond (decide ((IntKind.i64.wrap (v2.2 + (1 : Int))) < (v1.length : Int)))
 ((idx v1 (IntKind.i64.wrap (v2.2 - (1 : Int)))).bind fun v3 => (idx v1 (IntKind.i64.wrap (v2.2 + (1 : Int)))).bind fun v4 => (s_l2Add v3 v4).bind fun v5 => (idx v1 v2.2).bind fun v6 => (idx v6 (0 : Int)).bind fun v7 => (s_l1Bit (v7 == (0 : Int))).bind fun v8 => (inIdx v5.length v8).bind fun _ => (idx v5 ((v8).toNat : Int)).bind fun v9 => (idx v1 v2.2).bind fun v10 => (idx v10 v8).bind fun v11 => (quoI .i64 v9 v11).bind fun v12 => (appD 8 v2.1 ([v12] : List Int)).bind fun v13 => some (.inl (v13, (IntKind.i64.wrap (v2.2 + (1 : Int))))))
 (some (.inr v2.1))
noncomputable def s_TurnsOf (x0 : (List Int) × (List Int)) : Option (List Int) :=
(s_SplitCone (x0.1, x0.2)).bind fun v1 => (iter (s_TurnsOf_s4 v1) (([] : List Int), (1 : Int))).bind fun v14 => some v14
noncomputable def e_s_TurnsOf : CallE := ⟨87, [.d false (.prod (.list (.int .i64)) (.list (.int .i64)))], [.l (.o true 3 (.int .i64))], fun x => s_TurnsOf x⟩
noncomputable def c_s_TurnsOf : Ctx := ⟨Try.prog, TT, [e_s_SplitCone, e_s_l2Add, e_s_l1Bit], [⟨4, [(3, .l (.o true 3 (.int .i64))), (5, .l (.d false (.int .i64)))], some (0, [(3, .l (.o true 3 (.int .i64)))]), none⟩], []⟩
theorem k_s_TurnsOf (x : PMs.den e_s_TurnsOf.ps) : funK c_s_TurnsOf Try.f87 e_s_TurnsOf.ps e_s_TurnsOf.rs x = e_s_TurnsOf.F x := by kernel_rfl
theorem o_s_TurnsOf : FnOk Try.prog e_s_TurnsOf.f ∧ Ctr Try.prog e_s_TurnsOf := mkCtr (C := c_s_TurnsOf) m_ (⟨o_s_SplitCone, o_s_l2Add, o_s_l1Bit, trivial⟩) Try.func87 (by kernel_rfl) k_s_TurnsOf
/-! loop.example/g00959/spec.TurnsDefect -/
noncomputable def s_TurnsDefect_s4 (v1 : List Int) (v2 : Int × Int) : Option ((Int × Int) ⊕ (Int)) :=
 cond (decide (v2.2 < (v1.length : Int)))
 ((idx v1 v2.2).bind fun v3 => some (.inl ((IntKind.i64.wrap ((IntKind.i64.wrap (v2.1 + (3 : Int))) - v3)), (IntKind.i64.wrap (v2.2 + (1 : Int))))))
 (some (.inr v2.1))
noncomputable def s_TurnsDefect (x0 : (List Int) × (List Int)) : Option (Int) :=
(s_TurnsOf (x0.1, x0.2)).bind fun v1 => (iter (s_TurnsDefect_s4 v1) ((0 : Int), (0 : Int))).bind fun v4 => some v4
noncomputable def e_s_TurnsDefect : CallE := ⟨53, [.d false (.prod (.list (.int .i64)) (.list (.int .i64)))], [.l (.d false (.int .i64))], fun x => s_TurnsDefect x⟩
noncomputable def c_s_TurnsDefect : Ctx := ⟨Try.prog, TT, [e_s_TurnsOf], [⟨4, [(3, .l (.d false (.int .i64))), (5, .l (.d false (.int .i64)))], some (0, [(3, .l (.d false (.int .i64)))]), none⟩], []⟩
theorem k_s_TurnsDefect (x : PMs.den e_s_TurnsDefect.ps) : funK c_s_TurnsDefect Try.f53 e_s_TurnsDefect.ps e_s_TurnsDefect.rs x = e_s_TurnsDefect.F x := by kernel_rfl
theorem o_s_TurnsDefect : FnOk Try.prog e_s_TurnsDefect.f ∧ Ctr Try.prog e_s_TurnsDefect := mkCtr (C := c_s_TurnsDefect) m_ (⟨o_s_TurnsOf, trivial⟩) Try.func53 (by kernel_rfl) k_s_TurnsDefect
/-! loop.example/g00959/impl.TurnsOf -/
noncomputable def i_TurnsOf_s4 (v1 : List (List Int)) (v2 : List Int × Int) : Option ((List Int × Int) ⊕ (List Int)) :=
 cond (decide ((IntKind.i64.wrap (v2.2 + (1 : Int))) < (v1.length : Int)))
 ((idx v1 (IntKind.i64.wrap (v2.2 - (1 : Int)))).bind fun v3 => (idx v1 (IntKind.i64.wrap (v2.2 + (1 : Int)))).bind fun v4 => (i_cross v3 v4).bind fun v5 => (appD 8 v2.1 ([v5] : List Int)).bind fun v6 => some (.inl (v6, (IntKind.i64.wrap (v2.2 + (1 : Int))))))
 (some (.inr v2.1))
noncomputable def i_TurnsOf (x0 : (List Int) × (List Int)) : Option (List Int) :=
(i_SplitCone (x0.1, x0.2)).bind fun v1 => (iter (i_TurnsOf_s4 v1) (([] : List Int), (1 : Int))).bind fun v7 => some v7
noncomputable def e_i_TurnsOf : CallE := ⟨88, [.d false (.prod (.list (.int .i64)) (.list (.int .i64)))], [.l (.o true 3 (.int .i64))], fun x => i_TurnsOf x⟩
noncomputable def c_i_TurnsOf : Ctx := ⟨Try.prog, TT, [e_i_SplitCone, e_i_cross], [⟨4, [(4, .l (.o true 3 (.int .i64))), (5, .l (.d false (.int .i64)))], some (0, [(4, .l (.o true 3 (.int .i64)))]), none⟩], []⟩
theorem k_i_TurnsOf (x : PMs.den e_i_TurnsOf.ps) : funK c_i_TurnsOf Try.f88 e_i_TurnsOf.ps e_i_TurnsOf.rs x = e_i_TurnsOf.F x := by kernel_rfl
theorem o_i_TurnsOf : FnOk Try.prog e_i_TurnsOf.f ∧ Ctr Try.prog e_i_TurnsOf := mkCtr (C := c_i_TurnsOf) m_ (⟨o_i_SplitCone, o_i_cross, trivial⟩) Try.func88 (by kernel_rfl) k_i_TurnsOf
/-! loop.example/g00959/impl.TurnsDefect -/
noncomputable def i_TurnsDefect_s3 (v1 : List Int) (v2 : Int × Int) : Option ((Int × Int) ⊕ (Int)) :=
 cond (decide (v2.2 < (v1.length : Int)))
 ((idx v1 v2.2).bind fun v3 => some (.inl ((IntKind.i64.wrap (v2.1 + (IntKind.i64.wrap ((3 : Int) - v3)))), (IntKind.i64.wrap (v2.2 + (1 : Int))))))
 (some (.inr v2.1))
noncomputable def i_TurnsDefect (x0 : (List Int) × (List Int)) : Option (Int) :=
(i_TurnsOf (x0.1, x0.2)).bind fun v1 => (iter (i_TurnsDefect_s3 v1) ((0 : Int), (0 : Int))).bind fun v4 => some v4
noncomputable def e_i_TurnsDefect : CallE := ⟨54, [.d false (.prod (.list (.int .i64)) (.list (.int .i64)))], [.l (.d false (.int .i64))], fun x => i_TurnsDefect x⟩
noncomputable def c_i_TurnsDefect : Ctx := ⟨Try.prog, TT, [e_i_TurnsOf], [⟨3, [(3, .l (.d false (.int .i64))), (9, .l (.d false (.int .i64)))], some (0, [(3, .l (.d false (.int .i64)))]), none⟩], []⟩
theorem k_i_TurnsDefect (x : PMs.den e_i_TurnsDefect.ps) : funK c_i_TurnsDefect Try.f54 e_i_TurnsDefect.ps e_i_TurnsDefect.rs x = e_i_TurnsDefect.F x := by kernel_rfl
theorem o_i_TurnsDefect : FnOk Try.prog e_i_TurnsDefect.f ∧ Ctr Try.prog e_i_TurnsDefect := mkCtr (C := c_i_TurnsDefect) m_ (⟨o_i_TurnsOf, trivial⟩) Try.func54 (by kernel_rfl) k_i_TurnsDefect
/-! loop.example/g00959/laws.FnExactTurnsDefect -/
noncomputable def w_FnExactTurnsDefect (x0 : (List Int) × (List Int)) : Option (Bool) :=
(w_szCone (x0.1, x0.2) (1048576 : Int)).bind fun v1 => cond (decide (v1 < (0 : Int)))
 (some true)
 ((w_toCone (x0.1, x0.2)).bind fun v2 => (s_TurnsDefect (v2.1, v2.2)).bind fun v3 => (w_toCone (x0.1, x0.2)).bind fun v4 => (i_TurnsDefect (v4.1, v4.2)).bind fun v5 => cond (v5 != v3)
 (some false)
 ((w_toCone (x0.1, x0.2)).bind fun v6 => (w_eqCone (v4.1, v4.2) (v6.1, v6.2)).bind fun v7 => cond (!v7)
 (some false)
 (some true)))
noncomputable def e_w_FnExactTurnsDefect : CallE := ⟨14, [.d false (.prod (.list (.int .i64)) (.list (.int .i64)))], [.l (.d false .bool)], fun x => w_FnExactTurnsDefect x⟩
noncomputable def c_w_FnExactTurnsDefect : Ctx := ⟨Try.prog, TT, [e_w_szCone, e_w_toCone, e_s_TurnsDefect, e_i_TurnsDefect, e_w_eqCone], [], []⟩
theorem k_w_FnExactTurnsDefect (x : PMs.den e_w_FnExactTurnsDefect.ps) : funK c_w_FnExactTurnsDefect Try.f14 e_w_FnExactTurnsDefect.ps e_w_FnExactTurnsDefect.rs x = e_w_FnExactTurnsDefect.F x := by kernel_rfl
theorem o_w_FnExactTurnsDefect : FnOk Try.prog e_w_FnExactTurnsDefect.f ∧ Ctr Try.prog e_w_FnExactTurnsDefect := mkCtr (C := c_w_FnExactTurnsDefect) m_ (⟨o_w_szCone, o_w_toCone, o_s_TurnsDefect, o_i_TurnsDefect, o_w_eqCone, trivial⟩) Try.func14 (by kernel_rfl) k_w_FnExactTurnsDefect
/-! loop.example/g00959/laws.heldIntS -/
noncomputable def w_heldIntS_s2 (x0 : List Int) (v1 : Int × Int) : Option ((Int × Int) ⊕ ((Int) ⊕ (Int))) :=
 cond (decide (v1.2 < (x0.length : Int)))
 ((idx x0 v1.2).bind fun v2 => cond (v2 != v1.1)
 (some (.inr (.inr (-1 : Int))))
 (some (.inl ((IntKind.i64.wrap (v1.1 + (1 : Int))), (IntKind.i64.wrap (v1.2 + (1 : Int)))))))
 (some (.inr (.inl v1.1)))
noncomputable def w_heldIntS (x0 : List Int) (x1 : Int) : Option (Int) :=
(iter (w_heldIntS_s2 x0) (x1, (0 : Int))).bind fun v3 => match v3 with
 | .inl v4 => (some v4)
 | .inr v5 => (some v5)
noncomputable def e_w_heldIntS : CallE := ⟨71, [.d false (.list (.int .i64)), .d false (.int .i64)], [.l (.d false (.int .i64))], fun x => w_heldIntS x.1 x.2⟩
noncomputable def c_w_heldIntS : Ctx := ⟨Try.prog, TT, [], [⟨2, [(1, .l (.d false (.int .i64))), (5, .l (.d false (.int .i64)))], some (0, [(1, .l (.d false (.int .i64)))]), some [(4, .l (.d false (.int .i64)))]⟩], []⟩
theorem k_w_heldIntS (x : PMs.den e_w_heldIntS.ps) : funK c_w_heldIntS Try.f71 e_w_heldIntS.ps e_w_heldIntS.rs x = e_w_heldIntS.F x := by kernel_rfl
theorem o_w_heldIntS : FnOk Try.prog e_w_heldIntS.f ∧ Ctr Try.prog e_w_heldIntS := mkCtr (C := c_w_heldIntS) m_ (trivial) Try.func71 (by kernel_rfl) k_w_heldIntS
/-! loop.example/g00959/laws.heldCone -/
noncomputable def w_heldCone (x0 : (List Int) × (List Int)) (x1 : Int) : Option (Int) :=
(w_heldIntS x0.1 x1).bind fun v1 => cond (decide (v1 < (0 : Int)))
 (some (-1 : Int))
 ((w_heldIntS x0.2 v1).bind fun v2 => cond (decide (v2 < (0 : Int)))
 (some (-1 : Int))
 (some v2))
noncomputable def e_w_heldCone : CallE := ⟨33, [.d false (.prod (.list (.int .i64)) (.list (.int .i64))), .d false (.int .i64)], [.l (.d false (.int .i64))], fun x => w_heldCone x.1 x.2⟩
noncomputable def c_w_heldCone : Ctx := ⟨Try.prog, TT, [e_w_heldIntS], [], []⟩
theorem k_w_heldCone (x : PMs.den e_w_heldCone.ps) : funK c_w_heldCone Try.f33 e_w_heldCone.ps e_w_heldCone.rs x = e_w_heldCone.F x := by kernel_rfl
theorem o_w_heldCone : FnOk Try.prog e_w_heldCone.f ∧ Ctr Try.prog e_w_heldCone := mkCtr (C := c_w_heldCone) m_ (⟨o_w_heldIntS, trivial⟩) Try.func33 (by kernel_rfl) k_w_heldCone
/-! loop.example/g00959/laws.heldHalf -/
noncomputable def w_heldHalf (x0 : (List Int) × Int) (x1 : Int) : Option (Int) :=
(w_heldIntS x0.1 x1).bind fun v1 => cond (decide (v1 < (0 : Int)))
 (some (-1 : Int))
 (some v1)
noncomputable def e_w_heldHalf : CallE := ⟨46, [.d false (.prod (.list (.int .i64)) (.int .i64)), .d false (.int .i64)], [.l (.d false (.int .i64))], fun x => w_heldHalf x.1 x.2⟩
noncomputable def c_w_heldHalf : Ctx := ⟨Try.prog, TT, [e_w_heldIntS], [], []⟩
theorem k_w_heldHalf (x : PMs.den e_w_heldHalf.ps) : funK c_w_heldHalf Try.f46 e_w_heldHalf.ps e_w_heldHalf.rs x = e_w_heldHalf.F x := by kernel_rfl
theorem o_w_heldHalf : FnOk Try.prog e_w_heldHalf.f ∧ Ctr Try.prog e_w_heldHalf := mkCtr (C := c_w_heldHalf) m_ (⟨o_w_heldIntS, trivial⟩) Try.func46 (by kernel_rfl) k_w_heldHalf
/-! loop.example/g00959/impl.IsVector -/
noncomputable def i_IsVector (x0 : List Int) : Option (Bool) :=
(i_within (x0.length : Int) (1 : Int) (3 : Int)).bind fun v1 => cond v1
 ((i_allWithin x0 (-1000 : Int) (1000 : Int)).bind fun v2 => some v2)
 (some false)
noncomputable def e_i_IsVector : CallE := ⟨102, [.d false (.list (.int .i64))], [.l (.d false .bool)], fun x => i_IsVector x⟩
noncomputable def c_i_IsVector : Ctx := ⟨Try.prog, TT, [e_i_within, e_i_allWithin], [], []⟩
theorem k_i_IsVector (x : PMs.den e_i_IsVector.ps) : funK c_i_IsVector Try.f102 e_i_IsVector.ps e_i_IsVector.rs x = e_i_IsVector.F x := by kernel_rfl
theorem o_i_IsVector : FnOk Try.prog e_i_IsVector.f ∧ Ctr Try.prog e_i_IsVector := mkCtr (C := c_i_IsVector) m_ (⟨o_i_within, o_i_allWithin, trivial⟩) Try.func102 (by kernel_rfl) k_i_IsVector
/-! loop.example/g00959/impl.InCone -/
noncomputable def i_InCone (x0 : (List Int) × (List Int)) (x1 : List Int) : Option (Bool) :=
(i_IsCone (x0.1, x0.2)).bind fun v1 => cond v1
 ((i_IsVector x1).bind fun v2 => cond v2
 (cond ((x1.length : Int) == (2 : Int))
 ((i_cross x0.1 x1).bind fun v3 => cond (decide (v3 ≥ (0 : Int)))
 ((i_cross x1 x0.2).bind fun v4 => some (decide (v4 ≥ (0 : Int))))
 (some false))
 (some false))
 (some false))
 (some false)
noncomputable def e_i_InCone : CallE := ⟨81, [.d false (.prod (.list (.int .i64)) (.list (.int .i64))), .d false (.list (.int .i64))], [.l (.d false .bool)], fun x => i_InCone x.1 x.2⟩
noncomputable def c_i_InCone : Ctx := ⟨Try.prog, TT, [e_i_IsCone, e_i_IsVector, e_i_cross], [], []⟩
theorem k_i_InCone (x : PMs.den e_i_InCone.ps) : funK c_i_InCone Try.f81 e_i_InCone.ps e_i_InCone.rs x = e_i_InCone.F x := by kernel_rfl
theorem o_i_InCone : FnOk Try.prog e_i_InCone.f ∧ Ctr Try.prog e_i_InCone := mkCtr (C := c_i_InCone) m_ (⟨o_i_IsCone, o_i_IsVector, o_i_cross, trivial⟩) Try.func81 (by kernel_rfl) k_i_InCone
end Go.Proofs.Ythjlphknpgglcaa
