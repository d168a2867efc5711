/- Plain functions. -/
import Derived.Test.YtgmlnffeiffaaaaProg
import Derived.Test.YtgmlnffeiffaaaaLay
import Derived.Test.YtgmlnffeiffaaaaEm8
import Derived.Test.YtgmlnffeiffaaaaEm9
import Derived.KernelRfl
namespace Go.Proofs.Ytgmlnffeiffaaaa
open Go Go.Proofs.Ytgmlnffeiffaaaa.Eng
set_option linter.unusedVariables false
set_option maxRecDepth 100000
noncomputable def TT : List (TypeId × Ty) := [(3, (.int .i64)), (25, (.list (.int .i64))), (51, (.prod (.list (.int .i64)) (.int .i64))), (57, (.prod (.list (.int .i64)) (.int .i64)))]
theorem m_ : Try.prog.follows .mixedOrders = true := by kernel_rfl
/-! loop.example/g00959/laws.szIntS -/
noncomputable def w_szIntS (x0 : List Int) (x1 : Int) : Option (Int) :=
 cond (decide ((IntKind.i64.wrap (x1 - (x0.length : Int))) < (0 : Int)))
 (some (-1 : Int))
 (some (IntKind.i64.wrap (x1 - (x0.length : Int))))
noncomputable def e_w_szIntS : CallE := ⟨42, [.d false (.list (.int .i64)), .d false (.int .i64)], [.l (.d false (.int .i64))], fun x => w_szIntS x.1 x.2⟩
noncomputable def c_w_szIntS : Ctx := ⟨Try.prog, TT, [], [], [], [], [], []⟩
theorem k_w_szIntS (x : PMs.den e_w_szIntS.ps) : funK c_w_szIntS Try.f42 e_w_szIntS.ps e_w_szIntS.rs x = e_w_szIntS.F x := by kernel_rfl
theorem o_w_szIntS {D : Prop} : FnOk Try.prog e_w_szIntS.f ∧ Ctr D Try.prog e_w_szIntS := mkCtr (C := c_w_szIntS) m_ (trivial) Try.func42 (by kernel_rfl) k_w_szIntS
/-! loop.example/g00959/laws.szHalf -/
noncomputable def w_szHalf (x0 : (List Int) × Int) (x1 : Int) : Option (Int) :=
(w_szIntS x0.1 x1).bind fun v1 => cond (decide (v1 < (0 : Int)))
 (some (-1 : Int))
 (some v1)
noncomputable def e_w_szHalf : CallE := ⟨26, [.d false (.prod (.list (.int .i64)) (.int .i64)), .d false (.int .i64)], [.l (.d false (.int .i64))], fun x => w_szHalf x.1 x.2⟩
noncomputable def c_w_szHalf : Ctx := ⟨Try.prog, TT, [e_w_szIntS], [], [], [], [], []⟩
theorem k_w_szHalf (x : PMs.den e_w_szHalf.ps) : funK c_w_szHalf Try.f26 e_w_szHalf.ps e_w_szHalf.rs x = e_w_szHalf.F x := by kernel_rfl
theorem o_w_szHalf {D : Prop} : FnOk Try.prog e_w_szHalf.f ∧ Ctr D Try.prog e_w_szHalf := mkCtr (C := c_w_szHalf) m_ (⟨o_w_szIntS, trivial⟩) Try.func26 (by kernel_rfl) k_w_szHalf
/-! loop.example/g00959/laws.szHalfS -/
noncomputable def w_szHalfS_s5 (x0 : List ((List Int) × Int)) (v1 : Int × Int) : Option ((Int × Int) ⊕ ((Int) ⊕ (Int))) :=
 cond (decide (v1.2 < (x0.length : Int)))
 ((idx x0 v1.2).bind fun v2 => (w_szHalf v2 v1.1).bind fun v3 => cond (decide (v3 < (0 : Int)))
 (some (.inr (.inr (-1 : Int))))
 (some (.inl (v3, (IntKind.i64.wrap (v1.2 + (1 : Int)))))))
 (some (.inr (.inl v1.1)))
noncomputable def w_szHalfS (x0 : List ((List Int) × Int)) (x1 : Int) : Option (Int) :=
 cond (decide ((IntKind.i64.wrap (x1 - (x0.length : Int))) < (0 : Int)))
 (some (-1 : Int))
 ((iter (w_szHalfS_s5 x0) ((IntKind.i64.wrap (x1 - (x0.length : Int))), (0 : Int))).bind fun v4 => match v4 with
 | .inl v5 => (some v5)
 | .inr v6 => (some v6))
noncomputable def e_w_szHalfS : CallE := ⟨14, [.d false (.list (.prod (.list (.int .i64)) (.int .i64))), .d false (.int .i64)], [.l (.d false (.int .i64))], fun x => w_szHalfS x.1 x.2⟩
noncomputable def c_w_szHalfS : Ctx := ⟨Try.prog, TT, [e_w_szHalf], [⟨5, [(1, .l (.d false (.int .i64))), (5, .l (.d false (.int .i64)))], some (0, [(1, .l (.d false (.int .i64)))]), some [(4, .l (.d false (.int .i64)))], false⟩], [], [], [], []⟩
theorem k_w_szHalfS (x : PMs.den e_w_szHalfS.ps) : funK c_w_szHalfS Try.f14 e_w_szHalfS.ps e_w_szHalfS.rs x = e_w_szHalfS.F x := by kernel_rfl
theorem o_w_szHalfS {D : Prop} : FnOk Try.prog e_w_szHalfS.f ∧ Ctr D Try.prog e_w_szHalfS := mkCtr (C := c_w_szHalfS) m_ (⟨o_w_szHalf, trivial⟩) Try.func14 (by kernel_rfl) k_w_szHalfS
/-! loop.example/g00959/laws.szRegion -/
noncomputable def w_szRegion (x0 : Int × (List ((List Int) × Int))) (x1 : Int) : Option (Int) :=
(w_szHalfS x0.2 x1).bind fun v1 => cond (decide (v1 < (0 : Int)))
 (some (-1 : Int))
 (some v1)
noncomputable def e_w_szRegion : CallE := ⟨4, [.d false (.prod (.int .i64) (.list (.prod (.list (.int .i64)) (.int .i64)))), .d false (.int .i64)], [.l (.d false (.int .i64))], fun x => w_szRegion x.1 x.2⟩
noncomputable def c_w_szRegion : Ctx := ⟨Try.prog, TT, [e_w_szHalfS], [], [], [], [], []⟩
theorem k_w_szRegion (x : PMs.den e_w_szRegion.ps) : funK c_w_szRegion Try.f4 e_w_szRegion.ps e_w_szRegion.rs x = e_w_szRegion.F x := by kernel_rfl
theorem o_w_szRegion {D : Prop} : FnOk Try.prog e_w_szRegion.f ∧ Ctr D Try.prog e_w_szRegion := mkCtr (C := c_w_szRegion) m_ (⟨o_w_szHalfS, trivial⟩) Try.func4 (by kernel_rfl) k_w_szRegion
/-! loop.example/g00959/laws.toIntS -/
noncomputable def w_toIntS_s3 (x0 : List Int) (v2 : List Int × Int) : Option ((List Int × Int) ⊕ (List Int)) :=
 cond (decide (v2.2 < (x0.length : Int)))
 ((idx x0 v2.2).bind fun v3 => (inIdx v2.1.length v2.2).bind fun _ => (inIdx v2.1.length ((v2.2).toNat : Int)).bind fun _ => some (.inl ((v2.1.set ((v2.2).toNat) v3), (IntKind.i64.wrap (v2.2 + (1 : Int))))))
 (some (.inr v2.1))
noncomputable def w_toIntS (x0 : List Int) : Option (List Int) :=
(mkD 8 (x0.length : Int) (0 : Int)).bind fun v1 => (iter (w_toIntS_s3 x0) (v1, (0 : Int))).bind fun v4 => some v4
noncomputable def e_w_toIntS : CallE := ⟨7, [.d false (.list (.int .i64))], [.l (.o true 3 (.int .i64))], fun x => w_toIntS x⟩
noncomputable def c_w_toIntS : Ctx := ⟨Try.prog, TT, [], [⟨3, [(3, .l (.o true 3 (.int .i64))), (4, .l (.d false (.int .i64)))], some (0, [(3, .l (.o true 3 (.int .i64)))]), none, false⟩], [], [], [], []⟩
theorem k_w_toIntS (x : PMs.den e_w_toIntS.ps) : funK c_w_toIntS Try.f7 e_w_toIntS.ps e_w_toIntS.rs x = e_w_toIntS.F x := by kernel_rfl
theorem o_w_toIntS {D : Prop} : FnOk Try.prog e_w_toIntS.f ∧ Ctr D Try.prog e_w_toIntS := mkCtr (C := c_w_toIntS) m_ (trivial) Try.func7 (by kernel_rfl) k_w_toIntS
/-! loop.example/g00959/laws.toHalf -/
noncomputable def w_toHalf (x0 : (List Int) × Int) : Option (List Int × Int) :=
(w_toIntS x0.1).bind fun v1 => some (v1, x0.2)
noncomputable def e_w_toHalf : CallE := ⟨34, [.d false (.prod (.list (.int .i64)) (.int .i64))], [.a [(.o true 3 (.int .i64)), (.d false (.int .i64))]], fun x => w_toHalf x⟩
noncomputable def c_w_toHalf : Ctx := ⟨Try.prog, TT, [e_w_toIntS], [], [], [], [], []⟩
theorem k_w_toHalf (x : PMs.den e_w_toHalf.ps) : funK c_w_toHalf Try.f34 e_w_toHalf.ps e_w_toHalf.rs x = e_w_toHalf.F x := by kernel_rfl
theorem o_w_toHalf {D : Prop} : FnOk Try.prog e_w_toHalf.f ∧ Ctr D Try.prog e_w_toHalf := mkCtr (C := c_w_toHalf) m_ (⟨o_w_toIntS, trivial⟩) Try.func34 (by kernel_rfl) k_w_toHalf
/-! loop.example/g00959/laws.toHalfS -/
noncomputable def w_toHalfS_s3 (x0 : List ((List Int) × Int)) (v2 : (List ((List Int) × Int)) × Int) : Option (((List ((List Int) × Int)) × Int) ⊕ (List ((List Int) × Int))) :=
 cond (decide (v2.2 < (x0.length : Int)))
 ((idx x0 v2.2).bind fun v3 => (w_toHalf v3).bind fun v4 => (inIdx v2.1.length v2.2).bind fun _ => (inIdx v2.1.length ((v2.2).toNat : Int)).bind fun _ => some (.inl ((v2.1.set ((v2.2).toNat) (v4.1, v4.2)), (IntKind.i64.wrap (v2.2 + (1 : Int))))))
 (some (.inr v2.1))
noncomputable def w_toHalfS (x0 : List ((List Int) × Int)) : Option (List ((List Int) × Int)) :=
(mkD 32 (x0.length : Int) (([] : List Int), (0 : Int))).bind fun v1 => (iter (w_toHalfS_s3 x0) (v1, (0 : Int))).bind fun v5 => some v5
noncomputable def e_w_toHalfS : CallE := ⟨19, [.d false (.list (.prod (.list (.int .i64)) (.int .i64)))], [.l (.o true 57 (.prod (.list (.int .i64)) (.int .i64)))], fun x => w_toHalfS x⟩
noncomputable def c_w_toHalfS : Ctx := ⟨Try.prog, TT, [e_w_toHalf], [⟨3, [(3, .l (.o true 57 (.prod (.list (.int .i64)) (.int .i64)))), (4, .l (.d false (.int .i64)))], some (0, [(3, .l (.o true 57 (.prod (.list (.int .i64)) (.int .i64))))]), none, false⟩], [], [], [], []⟩
theorem k_w_toHalfS (x : PMs.den e_w_toHalfS.ps) : funK c_w_toHalfS Try.f19 e_w_toHalfS.ps e_w_toHalfS.rs x = e_w_toHalfS.F x := by kernel_rfl
theorem o_w_toHalfS {D : Prop} : FnOk Try.prog e_w_toHalfS.f ∧ Ctr D Try.prog e_w_toHalfS := mkCtr (C := c_w_toHalfS) m_ (⟨o_w_toHalf, trivial⟩) Try.func19 (by kernel_rfl) k_w_toHalfS
/-! loop.example/g00959/laws.toRegion -/
noncomputable def w_toRegion (x0 : Int × (List ((List Int) × Int))) : Option (Int × List ((List Int) × Int)) :=
(w_toHalfS x0.2).bind fun v1 => some (x0.1, v1)
noncomputable def e_w_toRegion : CallE := ⟨6, [.d false (.prod (.int .i64) (.list (.prod (.list (.int .i64)) (.int .i64))))], [.a [(.d false (.int .i64)), (.o true 57 (.prod (.list (.int .i64)) (.int .i64)))]], fun x => w_toRegion x⟩
noncomputable def c_w_toRegion : Ctx := ⟨Try.prog, TT, [e_w_toHalfS], [], [], [], [], []⟩
theorem k_w_toRegion (x : PMs.den e_w_toRegion.ps) : funK c_w_toRegion Try.f6 e_w_toRegion.ps e_w_toRegion.rs x = e_w_toRegion.F x := by kernel_rfl
theorem o_w_toRegion {D : Prop} : FnOk Try.prog e_w_toRegion.f ∧ Ctr D Try.prog e_w_toRegion := mkCtr (C := c_w_toRegion) m_ (⟨o_w_toHalfS, trivial⟩) Try.func6 (by kernel_rfl) k_w_toRegion
/-! loop.example/g00959/spec.l1In -/
noncomputable def s_l1In (x0 : Int) (x1 : Int) (x2 : Int) : Option (Bool) :=
 cond (decide (x0 ≥ x1))
 (some (decide (x0 ≤ x2)))
 (some false)
noncomputable def e_s_l1In : CallE := ⟨30, [.d false (.int .i64), .d false (.int .i64), .d false (.int .i64)], [.l (.d false .bool)], fun x => s_l1In x.1 x.2.1 x.2.2⟩
noncomputable def c_s_l1In : Ctx := ⟨Try.prog, TT, [], [], [], [], [], []⟩
theorem k_s_l1In (x : PMs.den e_s_l1In.ps) : funK c_s_l1In Try.f30 e_s_l1In.ps e_s_l1In.rs x = e_s_l1In.F x := by kernel_rfl
theorem o_s_l1In {D : Prop} : FnOk Try.prog e_s_l1In.f ∧ Ctr D Try.prog e_s_l1In := mkCtr (C := c_s_l1In) m_ (trivial) Try.func30 (by kernel_rfl) k_s_l1In
/-! loop.example/g00959/spec.l2Small -/
noncomputable def s_l2Small_s2 (x0 : List Int) (x1 : Int) (v1 : Int) : Option ((Int) ⊕ ((Unit) ⊕ (Bool))) :=
 cond (decide (v1 < (x0.length : Int)))
 ((idx x0 v1).bind fun v2 => (s_l1In v2 (IntKind.i64.wrap (0 - x1)) x1).bind fun v3 => cond (!v3)
 (some (.inr (.inr false)))
 (some (.inl (IntKind.i64.wrap (v1 + (1 : Int))))))
 (some (.inr (.inl ())))
noncomputable def s_l2Small (x0 : List Int) (x1 : Int) : Option (Bool) :=
(iter (s_l2Small_s2 x0 x1) (0 : Int)).bind fun v4 => match v4 with
 | .inl v5 => (some true)
 | .inr v6 => (some v6)
noncomputable def e_s_l2Small : CallE := ⟨31, [.d false (.list (.int .i64)), .d false (.int .i64)], [.l (.d false .bool)], fun x => s_l2Small x.1 x.2⟩
noncomputable def c_s_l2Small : Ctx := ⟨Try.prog, TT, [e_s_l1In], [⟨2, [(5, .l (.d false (.int .i64)))], some (0, []), some [(4, .l (.d false .bool))], false⟩], [], [], [], []⟩
theorem k_s_l2Small (x : PMs.den e_s_l2Small.ps) : funK c_s_l2Small Try.f31 e_s_l2Small.ps e_s_l2Small.rs x = e_s_l2Small.F x := by kernel_rfl
theorem o_s_l2Small {D : Prop} : FnOk Try.prog e_s_l2Small.f ∧ Ctr D Try.prog e_s_l2Small := mkCtr (C := c_s_l2Small) m_ (⟨o_s_l1In, trivial⟩) Try.func31 (by kernel_rfl) k_s_l2Small
/-! loop.example/g00959/spec.l1Max -/
noncomputable def s_l1Max (x0 : Int) (x1 : Int) : Option (Int) :=
 cond (decide (x0 > x1))
 (some x0)
 (some x1)
noncomputable def e_s_l1Max : CallE := ⟨89, [.d false (.int .i64), .d false (.int .i64)], [.l (.d false (.int .i64))], fun x => s_l1Max x.1 x.2⟩
noncomputable def c_s_l1Max : Ctx := ⟨Try.prog, TT, [], [], [], [], [], []⟩
theorem k_s_l1Max (x : PMs.den e_s_l1Max.ps) : funK c_s_l1Max Try.f89 e_s_l1Max.ps e_s_l1Max.rs x = e_s_l1Max.F x := by kernel_rfl
theorem o_s_l1Max {D : Prop} : FnOk Try.prog e_s_l1Max.f ∧ Ctr D Try.prog e_s_l1Max := mkCtr (C := c_s_l1Max) m_ (trivial) Try.func89 (by kernel_rfl) k_s_l1Max
/-! loop.example/g00959/spec.l1Abs -/
noncomputable def s_l1Abs (x0 : Int) : Option (Int) :=
(s_l1Max x0 (IntKind.i64.wrap (0 - x0))).bind fun v1 => some v1
noncomputable def e_s_l1Abs : CallE := ⟨82, [.d false (.int .i64)], [.l (.d false (.int .i64))], fun x => s_l1Abs x⟩
noncomputable def c_s_l1Abs : Ctx := ⟨Try.prog, TT, [e_s_l1Max], [], [], [], [], []⟩
theorem k_s_l1Abs (x : PMs.den e_s_l1Abs.ps) : funK c_s_l1Abs Try.f82 e_s_l1Abs.ps e_s_l1Abs.rs x = e_s_l1Abs.F x := by kernel_rfl
theorem o_s_l1Abs {D : Prop} : FnOk Try.prog e_s_l1Abs.f ∧ Ctr D Try.prog e_s_l1Abs := mkCtr (C := c_s_l1Abs) m_ (⟨o_s_l1Max, trivial⟩) Try.func82 (by kernel_rfl) k_s_l1Abs
/-! loop.example/g00959/spec.l2Gcd -/
noncomputable def s_l2Gcd_s3 (v3 : Int × Int) : Option ((Int × Int) ⊕ (Int)) :=
 cond (v3.2 != (0 : Int))
 ((remI .i64 v3.1 v3.2).bind fun v4 => some (.inl (v3.2, v4)))
 (some (.inr v3.1))
noncomputable def s_l2Gcd (x0 : Int) (x1 : Int) : Option (Int) :=
(s_l1Abs x0).bind fun v1 => (s_l1Abs x1).bind fun v2 => (iter (s_l2Gcd_s3) (v1, v2)).bind fun v5 => some v5
noncomputable def e_s_l2Gcd : CallE := ⟨68, [.d false (.int .i64), .d false (.int .i64)], [.l (.d false (.int .i64))], fun x => s_l2Gcd x.1 x.2⟩
noncomputable def c_s_l2Gcd : Ctx := ⟨Try.prog, TT, [e_s_l1Abs], [⟨3, [(0, .l (.d false (.int .i64))), (1, .l (.d false (.int .i64)))], some (0, [(0, .l (.d false (.int .i64)))]), none, false⟩], [], [], [], []⟩
theorem k_s_l2Gcd (x : PMs.den e_s_l2Gcd.ps) : funK c_s_l2Gcd Try.f68 e_s_l2Gcd.ps e_s_l2Gcd.rs x = e_s_l2Gcd.F x := by kernel_rfl
theorem o_s_l2Gcd {D : Prop} : FnOk Try.prog e_s_l2Gcd.f ∧ Ctr D Try.prog e_s_l2Gcd := mkCtr (C := c_s_l2Gcd) m_ (⟨o_s_l1Abs, trivial⟩) Try.func68 (by kernel_rfl) k_s_l2Gcd
/-! loop.example/g00959/spec.l2All -/
noncomputable def s_l2All_s3 (x0 : List Int) (v1 : Int × Int) : Option ((Int × Int) ⊕ (Int)) :=
 cond (decide (v1.2 < (x0.length : Int)))
 ((idx x0 v1.2).bind fun v2 => (s_l2Gcd v1.1 v2).bind fun v3 => some (.inl (v3, (IntKind.i64.wrap (v1.2 + (1 : Int))))))
 (some (.inr v1.1))
noncomputable def s_l2All (x0 : List Int) : Option (Int) :=
(iter (s_l2All_s3 x0) ((0 : Int), (0 : Int))).bind fun v4 => some v4
noncomputable def e_s_l2All : CallE := ⟨60, [.d false (.list (.int .i64))], [.l (.d false (.int .i64))], fun x => s_l2All x⟩
noncomputable def c_s_l2All : Ctx := ⟨Try.prog, TT, [e_s_l2Gcd], [⟨3, [(3, .l (.d false (.int .i64))), (4, .l (.d false (.int .i64)))], some (0, [(3, .l (.d false (.int .i64)))]), none, false⟩], [], [], [], []⟩
theorem k_s_l2All (x : PMs.den e_s_l2All.ps) : funK c_s_l2All Try.f60 e_s_l2All.ps e_s_l2All.rs x = e_s_l2All.F x := by kernel_rfl
theorem o_s_l2All {D : Prop} : FnOk Try.prog e_s_l2All.f ∧ Ctr D Try.prog e_s_l2All := mkCtr (C := c_s_l2All) m_ (⟨o_s_l2Gcd, trivial⟩) Try.func60 (by kernel_rfl) k_s_l2All
/-! loop.example/g00959/spec.IsHalf -/
noncomputable def s_IsHalf (x0 : Int) (x1 : (List Int) × Int) : Option (Bool) :=
(s_l1In x0 (1 : Int) (3 : Int)).bind fun v1 => cond v1
 (cond ((x1.1.length : Int) == x0)
 ((s_l2Small x1.1 (20 : Int)).bind fun v2 => cond v2
 ((s_l2All x1.1).bind fun v3 => cond (decide (v3 > (0 : Int)))
 ((s_l1In x1.2 (-200 : Int) (200 : Int)).bind fun v4 => some v4)
 (some false))
 (some false))
 (some false))
 (some false)
noncomputable def e_s_IsHalf : CallE := ⟨43, [.d false (.int .i64), .d false (.prod (.list (.int .i64)) (.int .i64))], [.l (.d false .bool)], fun x => s_IsHalf x.1 x.2⟩
noncomputable def c_s_IsHalf : Ctx := ⟨Try.prog, TT, [e_s_l1In, e_s_l2Small, e_s_l2All], [], [], [], [], []⟩
theorem k_s_IsHalf (x : PMs.den e_s_IsHalf.ps) : funK c_s_IsHalf Try.f43 e_s_IsHalf.ps e_s_IsHalf.rs x = e_s_IsHalf.F x := by kernel_rfl
theorem o_s_IsHalf {D : Prop} : FnOk Try.prog e_s_IsHalf.f ∧ Ctr D Try.prog e_s_IsHalf := mkCtr (C := c_s_IsHalf) m_ (⟨o_s_l1In, o_s_l2Small, o_s_l2All, trivial⟩) Try.func43 (by kernel_rfl) k_s_IsHalf
/-! loop.example/g00959/spec.IsRegion -/
noncomputable def s_IsRegion_s2 (x0 : Int × (List ((List Int) × Int))) (v1 : Int) : Option ((Int) ⊕ ((Unit) ⊕ (Bool))) :=
 cond (decide (v1 < (x0.2.length : Int)))
 ((idx x0.2 v1).bind fun v2 => (s_IsHalf x0.1 v2).bind fun v3 => cond (!v3)
 (some (.inr (.inr false)))
 (some (.inl (IntKind.i64.wrap (v1 + (1 : Int))))))
 (some (.inr (.inl ())))
noncomputable def s_IsRegion (x0 : Int × (List ((List Int) × Int))) : Option (Bool) :=
(iter (s_IsRegion_s2 x0) (0 : Int)).bind fun v4 => match v4 with
 | .inl v5 => ((s_l1In x0.1 (1 : Int) (3 : Int)).bind fun v7 => cond v7
 (some (decide ((x0.2.length : Int) ≤ (8 : Int))))
 (some false))
 | .inr v6 => (some v6)
noncomputable def e_s_IsRegion : CallE := ⟨27, [.d false (.prod (.int .i64) (.list (.prod (.list (.int .i64)) (.int .i64))))], [.l (.d false .bool)], fun x => s_IsRegion x⟩
noncomputable def c_s_IsRegion : Ctx := ⟨Try.prog, TT, [e_s_IsHalf, e_s_l1In], [⟨2, [(3, .l (.d false (.int .i64)))], some (0, []), some [(2, .l (.d false .bool))], false⟩], [], [], [], []⟩
theorem k_s_IsRegion (x : PMs.den e_s_IsRegion.ps) : funK c_s_IsRegion Try.f27 e_s_IsRegion.ps e_s_IsRegion.rs x = e_s_IsRegion.F x := by kernel_rfl
theorem o_s_IsRegion {D : Prop} : FnOk Try.prog e_s_IsRegion.f ∧ Ctr D Try.prog e_s_IsRegion := mkCtr (C := c_s_IsRegion) m_ (⟨o_s_IsHalf, o_s_l1In, trivial⟩) Try.func27 (by kernel_rfl) k_s_IsRegion
/-! loop.example/g00959/spec.l5All -/
noncomputable def s_l5All_s10 (x2 : Int) (v1 : List (List Int) × Int) (v2 : List (List Int) × Int) (v3 : List (List Int) × Int) : Option ((List (List Int) × Int) ⊕ (List (List Int))) :=
 cond (decide (v3.2 ≤ x2))
 ((idx v1.1 v2.2).bind fun v4 => (appD 8 ([] : List Int) v4).bind fun v5 => (appD 8 v5 ([v3.2] : List Int)).bind fun v6 => (appD 24 v3.1 ([v6] : List (List Int))).bind fun v7 => some (.inl (v7, (IntKind.i64.wrap (v3.2 + (1 : Int))))))
 (some (.inr v3.1))
noncomputable def s_l5All_s7 (x1 : Int) (x2 : Int) (v1 : List (List Int) × Int) (v2 : List (List Int) × Int) : Option ((List (List Int) × Int) ⊕ (List (List Int))) :=
 cond (decide (v2.2 < (v1.1.length : Int)))
 ((iter (s_l5All_s10 x2 v1 v2) (v2.1, x1)).bind fun v8 => some (.inl (v8, (IntKind.i64.wrap (v2.2 + (1 : Int))))))
 (some (.inr v2.1))
noncomputable def s_l5All_s3 (x0 : Int) (x1 : Int) (x2 : Int) (v1 : List (List Int) × Int) : Option ((List (List Int) × Int) ⊕ (List (List Int))) :=
 cond (decide (v1.2 < x0))
 ((iter (s_l5All_s7 x1 x2 v1) (([] : List (List Int)), (0 : Int))).bind fun v9 => some (.inl (v9, (IntKind.i64.wrap (v1.2 + (1 : Int))))))
 (some (.inr v1.1))
noncomputable def s_l5All (x0 : Int) (x1 : Int) (x2 : Int) : Option (List (List Int)) :=
(iter (s_l5All_s3 x0 x1 x2) (([([] : List Int)] : List (List Int)), (0 : Int))).bind fun v10 => some v10
noncomputable def e_s_l5All : CallE := ⟨47, [.d false (.int .i64), .d false (.int .i64), .d false (.int .i64)], [.l (.o true 25 (.list (.int .i64)))], fun x => s_l5All x.1 x.2.1 x.2.2⟩
noncomputable def c_s_l5All : Ctx := ⟨Try.prog, TT, [], [⟨3, [(7, .l (.o true 25 (.list (.int .i64)))), (8, .l (.d false (.int .i64)))], some (0, [(7, .l (.o true 25 (.list (.int .i64))))]), none, false⟩, ⟨7, [(9, .l (.o true 25 (.list (.int .i64)))), (10, .l (.d false (.int .i64)))], some (2, [(9, .l (.o true 25 (.list (.int .i64))))]), none, false⟩, ⟨10, [(9, .l (.o true 25 (.list (.int .i64)))), (11, .l (.d false (.int .i64)))], some (4, [(9, .l (.o true 25 (.list (.int .i64))))]), none, false⟩], [], [], [], []⟩
theorem k_s_l5All (x : PMs.den e_s_l5All.ps) : funK c_s_l5All Try.f47 e_s_l5All.ps e_s_l5All.rs x = e_s_l5All.F x := by kernel_rfl
theorem o_s_l5All {D : Prop} : FnOk Try.prog e_s_l5All.f ∧ Ctr D Try.prog e_s_l5All := mkCtr (C := c_s_l5All) m_ (trivial) Try.func47 (by kernel_rfl) k_s_l5All
/-! loop.example/g00959/spec.l2Dot -/
noncomputable def s_l2Dot_s3 (x0 : List Int) (x1 : List Int) (v1 : Int × Int) : Option ((Int × Int) ⊕ (Int)) :=
 cond (decide (v1.2 < (x0.length : Int)))
 (cond (decide (v1.2 < (x1.length : Int)))
 ((idx x0 v1.2).bind fun v2 => (idx x1 v1.2).bind fun v3 => some (.inl ((IntKind.i64.wrap (v1.1 + (IntKind.i64.wrap (v2 * v3)))), (IntKind.i64.wrap (v1.2 + (1 : Int))))))
 (some (.inr v1.1)))
 (some (.inr v1.1))
noncomputable def s_l2Dot (x0 : List Int) (x1 : List Int) : Option (Int) :=
(iter (s_l2Dot_s3 x0 x1) ((0 : Int), (0 : Int))).bind fun v4 => some v4
noncomputable def e_s_l2Dot : CallE := ⟨18, [.d false (.list (.int .i64)), .d false (.list (.int .i64))], [.l (.d false (.int .i64))], fun x => s_l2Dot x.1 x.2⟩
noncomputable def c_s_l2Dot : Ctx := ⟨Try.prog, TT, [], [⟨3, [(5, .l (.d false (.int .i64))), (6, .l (.d false (.int .i64)))], some (0, [(5, .l (.d false (.int .i64)))]), none, false⟩], [], [], [], []⟩
theorem k_s_l2Dot (x : PMs.den e_s_l2Dot.ps) : funK c_s_l2Dot Try.f18 e_s_l2Dot.ps e_s_l2Dot.rs x = e_s_l2Dot.F x := by kernel_rfl
theorem o_s_l2Dot {D : Prop} : FnOk Try.prog e_s_l2Dot.f ∧ Ctr D Try.prog e_s_l2Dot := mkCtr (C := c_s_l2Dot) m_ (trivial) Try.func18 (by kernel_rfl) k_s_l2Dot
/-! loop.example/g00959/spec.l4Has -/
noncomputable def s_l4Has_s2 (x0 : Int × (List ((List Int) × Int))) (x1 : List Int) (v1 : Int) : Option ((Int) ⊕ ((Unit) ⊕ (Bool))) :=
 cond (decide (v1 < (x0.2.length : Int)))
 ((idx x0.2 v1).bind fun v2 => (s_l2Dot v2.1 x1).bind fun v3 => (idx x0.2 v1).bind fun v4 => cond (decide (v3 > v4.2))
 (some (.inr (.inr false)))
 (some (.inl (IntKind.i64.wrap (v1 + (1 : Int))))))
 (some (.inr (.inl ())))
noncomputable def s_l4Has (x0 : Int × (List ((List Int) × Int))) (x1 : List Int) : Option (Bool) :=
(iter (s_l4Has_s2 x0 x1) (0 : Int)).bind fun v5 => match v5 with
 | .inl v6 => (some true)
 | .inr v7 => (some v7)
noncomputable def e_s_l4Has : CallE := ⟨48, [.d false (.prod (.int .i64) (.list (.prod (.list (.int .i64)) (.int .i64)))), .d false (.list (.int .i64))], [.l (.d false .bool)], fun x => s_l4Has x.1 x.2⟩
noncomputable def c_s_l4Has : Ctx := ⟨Try.prog, TT, [e_s_l2Dot], [⟨2, [(5, .l (.d false (.int .i64)))], some (0, []), some [(4, .l (.d false .bool))], false⟩], [], [], [], []⟩
theorem k_s_l4Has (x : PMs.den e_s_l4Has.ps) : funK c_s_l4Has Try.f48 e_s_l4Has.ps e_s_l4Has.rs x = e_s_l4Has.F x := by kernel_rfl
theorem o_s_l4Has {D : Prop} : FnOk Try.prog e_s_l4Has.f ∧ Ctr D Try.prog e_s_l4Has := mkCtr (C := c_s_l4Has) m_ (⟨o_s_l2Dot, trivial⟩) Try.func48 (by kernel_rfl) k_s_l4Has
/-! loop.example/g00959/spec.PointsIn -/
noncomputable def s_PointsIn_s6 (x0 : Int × (List ((List Int) × Int))) (v2 : List (List Int)) (v3 : List (List Int) × Int) : Option ((List (List Int) × Int) ⊕ (List (List Int))) :=
 cond (decide (v3.2 < (v2.length : Int)))
 ((idx v2 v3.2).bind fun v4 => (s_l4Has (x0.1, x0.2) v4).bind fun v5 => cond v5
 ((idx v2 v3.2).bind fun v6 => (appD 24 v3.1 ([v6] : List (List Int))).bind fun v7 => some (.inl (v7, (IntKind.i64.wrap (v3.2 + (1 : Int))))))
 (some (.inl (v3.1, (IntKind.i64.wrap (v3.2 + (1 : Int)))))))
 (some (.inr v3.1))
noncomputable def s_PointsIn (x0 : Int × (List ((List Int) × Int))) : Option (List (List Int)) :=
(s_IsRegion (x0.1, x0.2)).bind fun v1 => cond (!v1)
 (some ([] : List (List Int)))
 ((s_l5All x0.1 (-6 : Int) (6 : Int)).bind fun v2 => (iter (s_PointsIn_s6 x0 v2) (([] : List (List Int)), (0 : Int))).bind fun v8 => some v8)
noncomputable def e_s_PointsIn : CallE := ⟨29, [.d false (.prod (.int .i64) (.list (.prod (.list (.int .i64)) (.int .i64))))], [.l (.o false 25 (.list (.int .i64)))], fun x => s_PointsIn x⟩
noncomputable def c_s_PointsIn : Ctx := ⟨Try.prog, TT, [e_s_IsRegion, e_s_l5All, e_s_l4Has], [⟨6, [(3, .l (.o false 25 (.list (.int .i64)))), (5, .l (.d false (.int .i64)))], some (0, [(3, .l (.o false 25 (.list (.int .i64))))]), none, false⟩], [], [], [], []⟩
theorem k_s_PointsIn (x : PMs.den e_s_PointsIn.ps) : funK c_s_PointsIn Try.f29 e_s_PointsIn.ps e_s_PointsIn.rs x = e_s_PointsIn.F x := by kernel_rfl
theorem o_s_PointsIn {D : Prop} : FnOk Try.prog e_s_PointsIn.f ∧ Ctr D Try.prog e_s_PointsIn := mkCtr (C := c_s_PointsIn) m_ (⟨o_s_IsRegion, o_s_l5All, o_s_l4Has, trivial⟩) Try.func29 (by kernel_rfl) k_s_PointsIn
/-! loop.example/g00959/spec.l7Flat -/
noncomputable def s_l7Flat_s2 (x0 : List (List Int)) (v1 : Int) : Option ((Int) ⊕ ((Unit) ⊕ (Bool))) :=
 cond (decide (v1 < (x0.length : Int)))
 ((idx x0 v1).bind fun v2 => cond ((v2.length : Int) != (2 : Int))
 (some (.inr (.inr false)))
 ((idx x0 v1).bind fun v3 => (s_l2Small v3 (50 : Int)).bind fun v4 => cond (!v4)
 (some (.inr (.inr false)))
 (some (.inl (IntKind.i64.wrap (v1 + (1 : Int)))))))
 (some (.inr (.inl ())))
noncomputable def s_l7Flat (x0 : List (List Int)) : Option (Bool) :=
(iter (s_l7Flat_s2 x0) (0 : Int)).bind fun v5 => match v5 with
 | .inl v6 => (some true)
 | .inr v7 => (some v7)
noncomputable def e_s_l7Flat : CallE := ⟨44, [.d false (.list (.list (.int .i64)))], [.l (.d false .bool)], fun x => s_l7Flat x⟩
noncomputable def c_s_l7Flat : Ctx := ⟨Try.prog, TT, [e_s_l2Small], [⟨2, [(3, .l (.d false (.int .i64)))], some (0, []), some [(2, .l (.d false .bool))], false⟩], [], [], [], []⟩
theorem k_s_l7Flat (x : PMs.den e_s_l7Flat.ps) : funK c_s_l7Flat Try.f44 e_s_l7Flat.ps e_s_l7Flat.rs x = e_s_l7Flat.F x := by kernel_rfl
theorem o_s_l7Flat {D : Prop} : FnOk Try.prog e_s_l7Flat.f ∧ Ctr D Try.prog e_s_l7Flat := mkCtr (C := c_s_l7Flat) m_ (⟨o_s_l2Small, trivial⟩) Try.func44 (by kernel_rfl) k_s_l7Flat
/-! loop.example/g00959/spec.l2Before -/
noncomputable def s_l2Before_s2 (x0 : List Int) (x1 : List Int) (v1 : Int) : Option ((Int) ⊕ ((Unit) ⊕ (Bool))) :=
 cond (decide (v1 < (x0.length : Int)))
 (cond (decide (v1 < (x1.length : Int)))
 ((idx x0 v1).bind fun v2 => (idx x1 v1).bind fun v3 => cond (v2 != v3)
 ((idx x0 v1).bind fun v4 => (idx x1 v1).bind fun v5 => some (.inr (.inr (decide (v4 < v5)))))
 (some (.inl (IntKind.i64.wrap (v1 + (1 : Int))))))
 (some (.inr (.inl ()))))
 (some (.inr (.inl ())))
noncomputable def s_l2Before (x0 : List Int) (x1 : List Int) : Option (Bool) :=
(iter (s_l2Before_s2 x0 x1) (0 : Int)).bind fun v6 => match v6 with
 | .inl v7 => (some false)
 | .inr v8 => (some v8)
noncomputable def e_s_l2Before : CallE := ⟨32, [.d false (.list (.int .i64)), .d false (.list (.int .i64))], [.l (.d false .bool)], fun x => s_l2Before x.1 x.2⟩
noncomputable def c_s_l2Before : Ctx := ⟨Try.prog, TT, [], [⟨2, [(5, .l (.d false (.int .i64)))], some (0, []), some [(4, .l (.d false .bool))], false⟩], [], [], [], []⟩
theorem k_s_l2Before (x : PMs.den e_s_l2Before.ps) : funK c_s_l2Before Try.f32 e_s_l2Before.ps e_s_l2Before.rs x = e_s_l2Before.F x := by kernel_rfl
theorem o_s_l2Before {D : Prop} : FnOk Try.prog e_s_l2Before.f ∧ Ctr D Try.prog e_s_l2Before := mkCtr (C := c_s_l2Before) m_ (trivial) Try.func32 (by kernel_rfl) k_s_l2Before
/-! loop.example/g00959/spec.l2Same -/
noncomputable def s_l2Same_s4 (x0 : List Int) (x1 : List Int) (v1 : Int) : Option ((Int) ⊕ ((Unit) ⊕ (Bool))) :=
 cond (decide (v1 < (x0.length : Int)))
 ((idx x0 v1).bind fun v2 => (idx x1 v1).bind fun v3 => cond (v2 != v3)
 (some (.inr (.inr false)))
 (some (.inl (IntKind.i64.wrap (v1 + (1 : Int))))))
 (some (.inr (.inl ())))
noncomputable def s_l2Same (x0 : List Int) (x1 : List Int) : Option (Bool) :=
 cond ((x0.length : Int) != (x1.length : Int))
 (some false)
 ((iter (s_l2Same_s4 x0 x1) (0 : Int)).bind fun v4 => match v4 with
 | .inl v5 => (some true)
 | .inr v6 => (some v6))
noncomputable def e_s_l2Same : CallE := ⟨33, [.d false (.list (.int .i64)), .d false (.list (.int .i64))], [.l (.d false .bool)], fun x => s_l2Same x.1 x.2⟩
noncomputable def c_s_l2Same : Ctx := ⟨Try.prog, TT, [], [⟨4, [(5, .l (.d false (.int .i64)))], some (0, []), some [(4, .l (.d false .bool))], false⟩], [], [], [], []⟩
theorem k_s_l2Same (x : PMs.den e_s_l2Same.ps) : funK c_s_l2Same Try.f33 e_s_l2Same.ps e_s_l2Same.rs x = e_s_l2Same.F x := by kernel_rfl
theorem o_s_l2Same {D : Prop} : FnOk Try.prog e_s_l2Same.f ∧ Ctr D Try.prog e_s_l2Same := mkCtr (C := c_s_l2Same) m_ (trivial) Try.func33 (by kernel_rfl) k_s_l2Same
/-! loop.example/g00959/spec.l2Put -/
noncomputable def s_l2Put_s2 (x1 : List Int) (v1 : List (List Int) × Int) : Option ((List (List Int) × Int) ⊕ (List (List Int) × Int)) :=
 cond (decide (v1.2 > (0 : Int)))
 ((inIdx v1.1.length (IntKind.i64.wrap (v1.2 - (1 : Int)))).bind fun _ => (idx v1.1 (((IntKind.i64.wrap (v1.2 - (1 : Int)))).toNat : Int)).bind fun v2 => (s_l2Before x1 v2).bind fun v3 => cond v3
 (some (.inl (v1.1, (IntKind.i64.wrap (v1.2 - (1 : Int))))))
 (some (.inr (v1.1, v1.2))))
 (some (.inr (v1.1, v1.2)))
noncomputable def s_l2Put (x0 : List (List Int)) (x1 : List Int) : Option (List (List Int)) :=
(iter (s_l2Put_s2 x1) (x0, (x0.length : Int))).bind fun v4 => cond (decide (v4.2 > (0 : Int)))
 ((inIdx v4.1.length (IntKind.i64.wrap (v4.2 - (1 : Int)))).bind fun _ => (idx v4.1 (((IntKind.i64.wrap (v4.2 - (1 : Int)))).toNat : Int)).bind fun v5 => (s_l2Same v5 x1).bind fun v6 => cond v6
 (some v4.1)
 ((subl v4.1 v4.2 (v4.1.length : Int)).bind fun v7 => (subl v4.1 ((v4.2).toNat : Int) (((v4.1.length : Int)).toNat : Int)).bind fun v8 => (appD 24 ([] : List (List Int)) v8).bind fun v9 => (subl v4.1 0 v4.2).bind fun v10 => (appD 8 ([] : List Int) x1).bind fun v11 => (appD 24 v10 ([v11] : List (List Int))).bind fun v12 => (appD 24 v12 v9).bind fun v13 => some v13))
 ((subl v4.1 v4.2 (v4.1.length : Int)).bind fun v14 => (subl v4.1 ((v4.2).toNat : Int) (((v4.1.length : Int)).toNat : Int)).bind fun v15 => (appD 24 ([] : List (List Int)) v15).bind fun v16 => (subl v4.1 0 v4.2).bind fun v17 => (appD 8 ([] : List Int) x1).bind fun v18 => (appD 24 v17 ([v18] : List (List Int))).bind fun v19 => (appD 24 v19 v16).bind fun v20 => some v20)
noncomputable def e_s_l2Put : CallE := ⟨17, [.mv false 25 (.list (.int .i64)), .d false (.list (.int .i64))], [.l (.o false 25 (.list (.int .i64)))], fun x => s_l2Put x.1 x.2⟩
noncomputable def c_s_l2Put : Ctx := ⟨Try.prog, TT, [e_s_l2Before, e_s_l2Same], [⟨2, [(0, .l (.o false 25 (.list (.int .i64)))), (5, .l (.d false (.int .i64)))], some (0, [(0, .l (.o false 25 (.list (.int .i64)))), (5, .l (.d false (.int .i64)))]), none, false⟩], [], [], [35], [(7, [0, 1, 2, 4, 8, 3, 5, 6, 7, 9, 10])]⟩
theorem k_s_l2Put (x : PMs.den e_s_l2Put.ps) : funK c_s_l2Put Try.f17 e_s_l2Put.ps e_s_l2Put.rs x = e_s_l2Put.F x := by kernel_rfl
theorem o_s_l2Put {D : Prop} : FnOk Try.prog e_s_l2Put.f ∧ Ctr D Try.prog e_s_l2Put := mkCtr (C := c_s_l2Put) m_ (⟨o_s_l2Before, o_s_l2Same, trivial⟩) Try.func17 (by kernel_rfl) k_s_l2Put
/-! loop.example/g00959/spec.l2Less -/
noncomputable def s_l2Less_s3 (x0 : List Int) (x1 : List Int) (v1 : List Int × Int) : Option ((List Int × Int) ⊕ (List Int)) :=
 cond (decide (v1.2 < (x0.length : Int)))
 ((idx x0 v1.2).bind fun v2 => (idx x1 v1.2).bind fun v3 => (appD 8 v1.1 ([(IntKind.i64.wrap (v2 - v3))] : List Int)).bind fun v4 => some (.inl (v4, (IntKind.i64.wrap (v1.2 + (1 : Int))))))
 (some (.inr v1.1))
noncomputable def s_l2Less (x0 : List Int) (x1 : List Int) : Option (List Int) :=
(iter (s_l2Less_s3 x0 x1) (([] : List Int), (0 : Int))).bind fun v5 => some v5
noncomputable def e_s_l2Less : CallE := ⟨70, [.d false (.list (.int .i64)), .d false (.list (.int .i64))], [.l (.o true 3 (.int .i64))], fun x => s_l2Less x.1 x.2⟩
noncomputable def c_s_l2Less : Ctx := ⟨Try.prog, TT, [], [⟨3, [(5, .l (.o true 3 (.int .i64))), (6, .l (.d false (.int .i64)))], some (0, [(5, .l (.o true 3 (.int .i64)))]), none, false⟩], [], [], [], []⟩
theorem k_s_l2Less (x : PMs.den e_s_l2Less.ps) : funK c_s_l2Less Try.f70 e_s_l2Less.ps e_s_l2Less.rs x = e_s_l2Less.F x := by kernel_rfl
theorem o_s_l2Less {D : Prop} : FnOk Try.prog e_s_l2Less.f ∧ Ctr D Try.prog e_s_l2Less := mkCtr (C := c_s_l2Less) m_ (trivial) Try.func70 (by kernel_rfl) k_s_l2Less
/-! loop.example/g00959/spec.l7Cross -/
noncomputable def s_l7Cross (x0 : List Int) (x1 : List Int) : Option (Int) :=
(idx x0 (0 : Int)).bind fun v1 => (idx x1 (1 : Int)).bind fun v2 => (idx x0 (1 : Int)).bind fun v3 => (idx x1 (0 : Int)).bind fun v4 => some (IntKind.i64.wrap ((IntKind.i64.wrap (v1 * v2)) - (IntKind.i64.wrap (v3 * v4))))
noncomputable def e_s_l7Cross : CallE := ⟨69, [.d false (.list (.int .i64)), .d false (.list (.int .i64))], [.l (.d false (.int .i64))], fun x => s_l7Cross x.1 x.2⟩
noncomputable def c_s_l7Cross : Ctx := ⟨Try.prog, TT, [], [], [], [], [], []⟩
theorem k_s_l7Cross (x : PMs.den e_s_l7Cross.ps) : funK c_s_l7Cross Try.f69 e_s_l7Cross.ps e_s_l7Cross.rs x = e_s_l7Cross.F x := by kernel_rfl
theorem o_s_l7Cross {D : Prop} : FnOk Try.prog e_s_l7Cross.f ∧ Ctr D Try.prog e_s_l7Cross := mkCtr (C := c_s_l7Cross) m_ (trivial) Try.func69 (by kernel_rfl) k_s_l7Cross
/-! loop.example/g00959/spec.l7Turn -/
noncomputable def s_l7Turn (x0 : List Int) (x1 : List Int) (x2 : List Int) : Option (Int) :=
(s_l2Less x1 x0).bind fun v1 => (s_l2Less x2 x1).bind fun v2 => (s_l7Cross v1 v2).bind fun v3 => some v3
noncomputable def e_s_l7Turn : CallE := ⟨61, [.d false (.list (.int .i64)), .d false (.list (.int .i64)), .d false (.list (.int .i64))], [.l (.d false (.int .i64))], fun x => s_l7Turn x.1 x.2.1 x.2.2⟩
noncomputable def c_s_l7Turn : Ctx := ⟨Try.prog, TT, [e_s_l2Less, e_s_l7Cross], [], [], [], [], []⟩
theorem k_s_l7Turn (x : PMs.den e_s_l7Turn.ps) : funK c_s_l7Turn Try.f61 e_s_l7Turn.ps e_s_l7Turn.rs x = e_s_l7Turn.F x := by kernel_rfl
theorem o_s_l7Turn {D : Prop} : FnOk Try.prog e_s_l7Turn.f ∧ Ctr D Try.prog e_s_l7Turn := mkCtr (C := c_s_l7Turn) m_ (⟨o_s_l2Less, o_s_l7Cross, trivial⟩) Try.func61 (by kernel_rfl) k_s_l7Turn
/-! loop.example/g00959/spec.l7Hull -/
noncomputable def s_l7Hull_s12 (v1 : List (List Int) × Int) (v4 : List Int) (v5 : List (List Int)) : Option ((List (List Int)) ⊕ (List (List Int))) :=
 cond (decide ((v5.length : Int) ≥ (IntKind.i64.wrap ((v1.1.length : Int) + (2 : Int)))))
 ((inIdx v5.length (IntKind.i64.wrap ((v5.length : Int) - (2 : Int)))).bind fun _ => (idx v5 (((IntKind.i64.wrap ((v5.length : Int) - (2 : Int)))).toNat : Int)).bind fun v6 => (inIdx v5.length (IntKind.i64.wrap ((v5.length : Int) - (1 : Int)))).bind fun _ => (idx v5 (((IntKind.i64.wrap ((v5.length : Int) - (1 : Int)))).toNat : Int)).bind fun v7 => (s_l7Turn v6 v7 v4).bind fun v8 => cond (decide (v8 ≤ (0 : Int)))
 ((subl v5 0 (IntKind.i64.wrap ((v5.length : Int) - (1 : Int)))).bind fun v9 => some (.inl v9))
 (some (.inr v5)))
 (some (.inr v5))
noncomputable def s_l7Hull_s12b16 (v1 : List (List Int) × Int) (v3 : List Int) (v12 : List (List Int)) : Option ((List (List Int)) ⊕ (List (List Int))) :=
 cond (decide ((v12.length : Int) ≥ (IntKind.i64.wrap ((v1.1.length : Int) + (2 : Int)))))
 ((inIdx v12.length (IntKind.i64.wrap ((v12.length : Int) - (2 : Int)))).bind fun _ => (idx v12 (((IntKind.i64.wrap ((v12.length : Int) - (2 : Int)))).toNat : Int)).bind fun v13 => (inIdx v12.length (IntKind.i64.wrap ((v12.length : Int) - (1 : Int)))).bind fun _ => (idx v12 (((IntKind.i64.wrap ((v12.length : Int) - (1 : Int)))).toNat : Int)).bind fun v14 => (s_l7Turn v13 v14 v3).bind fun v15 => cond (decide (v15 ≤ (0 : Int)))
 ((subl v12 0 (IntKind.i64.wrap ((v12.length : Int) - (1 : Int)))).bind fun v16 => some (.inl v16))
 (some (.inr v12)))
 (some (.inr v12))
noncomputable def s_l7Hull_s7 (x0 : List (List Int)) (v1 : List (List Int) × Int) (v2 : List (List Int) × Int) : Option ((List (List Int) × Int) ⊕ (List (List Int))) :=
 cond (decide (v2.2 < (x0.length : Int)))
 ((idx x0 v2.2).bind fun v3 => cond (v1.2 == (1 : Int))
 ((idx x0 (IntKind.i64.wrap ((IntKind.i64.wrap ((x0.length : Int) - (1 : Int))) - v2.2))).bind fun v4 => (iter (s_l7Hull_s12 v1 v4) v2.1).bind fun v10 => (appD 24 v10 ([v4] : List (List Int))).bind fun v11 => some (.inl (v11, (IntKind.i64.wrap (v2.2 + (1 : Int))))))
 ((iter (s_l7Hull_s12b16 v1 v3) v2.1).bind fun v17 => (appD 24 v17 ([v3] : List (List Int))).bind fun v18 => some (.inl (v18, (IntKind.i64.wrap (v2.2 + (1 : Int)))))))
 (some (.inr v2.1))
noncomputable def s_l7Hull_s3 (x0 : List (List Int)) (v1 : List (List Int) × Int) : Option ((List (List Int) × Int) ⊕ (List (List Int))) :=
 cond (decide (v1.2 < (2 : Int)))
 ((iter (s_l7Hull_s7 x0 v1) (v1.1, (0 : Int))).bind fun v19 => (subl v19 0 (IntKind.i64.wrap ((v19.length : Int) - (1 : Int)))).bind fun v20 => some (.inl (v20, (IntKind.i64.wrap (v1.2 + (1 : Int))))))
 (some (.inr v1.1))
noncomputable def s_l7Hull (x0 : List (List Int)) : Option (List (List Int)) :=
(iter (s_l7Hull_s3 x0) (([] : List (List Int)), (0 : Int))).bind fun v21 => some v21
noncomputable def e_s_l7Hull : CallE := ⟨45, [.d false (.list (.list (.int .i64)))], [.l (.o false 25 (.list (.int .i64)))], fun x => s_l7Hull x⟩
noncomputable def c_s_l7Hull : Ctx := ⟨Try.prog, TT, [e_s_l7Turn], [⟨3, [(3, .l (.o false 25 (.list (.int .i64)))), (4, .l (.d false (.int .i64)))], some (0, [(3, .l (.o false 25 (.list (.int .i64))))]), none, false⟩, ⟨7, [(3, .l (.o false 25 (.list (.int .i64)))), (6, .l (.d false (.int .i64)))], some (2, [(3, .l (.o false 25 (.list (.int .i64))))]), none, false⟩, ⟨12, [(3, .l (.o false 25 (.list (.int .i64))))], some (4, [(3, .l (.o false 25 (.list (.int .i64))))]), none, false⟩], [], [], [], []⟩
theorem k_s_l7Hull (x : PMs.den e_s_l7Hull.ps) : funK c_s_l7Hull Try.f45 e_s_l7Hull.ps e_s_l7Hull.rs x = e_s_l7Hull.F x := by kernel_rfl
theorem o_s_l7Hull {D : Prop} : FnOk Try.prog e_s_l7Hull.f ∧ Ctr D Try.prog e_s_l7Hull := mkCtr (C := c_s_l7Hull) m_ (⟨o_s_l7Turn, trivial⟩) Try.func45 (by kernel_rfl) k_s_l7Hull
/-! loop.example/g00959/spec.l7Copy -/
noncomputable def s_l7Copy_s3 (x0 : List (List Int)) (v1 : List (List Int) × Int) : Option ((List (List Int) × Int) ⊕ (List (List Int))) :=
 cond (decide (v1.2 < (x0.length : Int)))
 ((idx x0 v1.2).bind fun v2 => (appD 8 ([] : List Int) v2).bind fun v3 => (appD 24 v1.1 ([v3] : List (List Int))).bind fun v4 => some (.inl (v4, (IntKind.i64.wrap (v1.2 + (1 : Int))))))
 (some (.inr v1.1))
noncomputable def s_l7Copy (x0 : List (List Int)) : Option (List (List Int)) :=
(iter (s_l7Copy_s3 x0) (([] : List (List Int)), (0 : Int))).bind fun v5 => some v5
noncomputable def e_s_l7Copy : CallE := ⟨46, [.d false (.list (.list (.int .i64)))], [.l (.o true 25 (.list (.int .i64)))], fun x => s_l7Copy x⟩
noncomputable def c_s_l7Copy : Ctx := ⟨Try.prog, TT, [], [⟨3, [(3, .l (.o true 25 (.list (.int .i64)))), (4, .l (.d false (.int .i64)))], some (0, [(3, .l (.o true 25 (.list (.int .i64))))]), none, false⟩], [], [], [], []⟩
theorem k_s_l7Copy (x : PMs.den e_s_l7Copy.ps) : funK c_s_l7Copy Try.f46 e_s_l7Copy.ps e_s_l7Copy.rs x = e_s_l7Copy.F x := by kernel_rfl
theorem o_s_l7Copy {D : Prop} : FnOk Try.prog e_s_l7Copy.f ∧ Ctr D Try.prog e_s_l7Copy := mkCtr (C := c_s_l7Copy) m_ (trivial) Try.func46 (by kernel_rfl) k_s_l7Copy
/-! loop.example/g00959/spec.HullOf -/
noncomputable def s_HullOf_s5 (x0 : List (List Int)) (v2 : List (List Int) × Int) : Option ((List (List Int) × Int) ⊕ (List (List Int))) :=
 cond (decide (v2.2 < (x0.length : Int)))
 ((idx x0 v2.2).bind fun v3 => (s_l2Put v2.1 v3).bind fun v4 => some (.inl (v4, (IntKind.i64.wrap (v2.2 + (1 : Int))))))
 (some (.inr v2.1))
noncomputable def s_HullOf (x0 : List (List Int)) : Option (List (List Int) × Bool) :=
 cond (decide ((x0.length : Int) > (200 : Int)))
 (some (([] : List (List Int)), false))
 ((s_l7Flat x0).bind fun v1 => cond (!v1)
 (some (([] : List (List Int)), false))
 ((iter (s_HullOf_s5 x0) (([] : List (List Int)), (0 : Int))).bind fun v5 => cond (decide ((v5.length : Int) < (3 : Int)))
 (some (([] : List (List Int)), false))
 ((s_l7Hull v5).bind fun v6 => cond (decide ((v6.length : Int) < (3 : Int)))
 (some (([] : List (List Int)), false))
 (cond (decide ((v6.length : Int) > (12 : Int)))
 (some (([] : List (List Int)), false))
 ((s_l7Copy v6).bind fun v7 => some (v7, true))))))
noncomputable def e_s_HullOf : CallE := ⟨28, [.d false (.list (.list (.int .i64)))], [.l (.o true 25 (.list (.int .i64))), .l (.d false .bool)], fun x => s_HullOf x⟩
noncomputable def c_s_HullOf : Ctx := ⟨Try.prog, TT, [e_s_l7Flat, e_s_l2Put, e_s_l7Hull, e_s_l7Copy], [⟨5, [(4, .l (.o false 25 (.list (.int .i64)))), (5, .l (.d false (.int .i64)))], some (0, [(4, .l (.o false 25 (.list (.int .i64))))]), none, false⟩], [], [], [], []⟩
theorem k_s_HullOf (x : PMs.den e_s_HullOf.ps) : funK c_s_HullOf Try.f28 e_s_HullOf.ps e_s_HullOf.rs x = e_s_HullOf.F x := by kernel_rfl
theorem o_s_HullOf {D : Prop} : FnOk Try.prog e_s_HullOf.f ∧ Ctr D Try.prog e_s_HullOf := mkCtr (C := c_s_HullOf) m_ (⟨o_s_l7Flat, o_s_l2Put, o_s_l7Hull, o_s_l7Copy, trivial⟩) Try.func28 (by kernel_rfl) k_s_HullOf
/-! loop.example/g00959/spec.WholeHull -/
noncomputable def s_WholeHull (x0 : Int × (List ((List Int) × Int))) : Option (List (List Int) × Bool) :=
(s_IsRegion (x0.1, x0.2)).bind fun v1 => cond (!v1)
 (some (([] : List (List Int)), false))
 (cond (x0.1 != (2 : Int))
 (some (([] : List (List Int)), false))
 ((s_PointsIn (x0.1, x0.2)).bind fun v2 => (s_HullOf v2).bind fun v3 => cond (!v3.2)
 (some (([] : List (List Int)), false))
 (some (v3.1, true))))
noncomputable def e_s_WholeHull : CallE := ⟨15, [.d false (.prod (.int .i64) (.list (.prod (.list (.int .i64)) (.int .i64))))], [.l (.o true 25 (.list (.int .i64))), .l (.d false .bool)], fun x => s_WholeHull x⟩
noncomputable def c_s_WholeHull : Ctx := ⟨Try.prog, TT, [e_s_IsRegion, e_s_PointsIn, e_s_HullOf], [], [], [], [], []⟩
theorem k_s_WholeHull (x : PMs.den e_s_WholeHull.ps) : funK c_s_WholeHull Try.f15 e_s_WholeHull.ps e_s_WholeHull.rs x = e_s_WholeHull.F x := by kernel_rfl
theorem o_s_WholeHull {D : Prop} : FnOk Try.prog e_s_WholeHull.f ∧ Ctr D Try.prog e_s_WholeHull := mkCtr (C := c_s_WholeHull) m_ (⟨o_s_IsRegion, o_s_PointsIn, o_s_HullOf, trivial⟩) Try.func15 (by kernel_rfl) k_s_WholeHull
/-! loop.example/g00959/spec.IsVector -/
noncomputable def s_IsVector (x0 : List Int) : Option (Bool) :=
(s_l1In (x0.length : Int) (1 : Int) (3 : Int)).bind fun v1 => cond v1
 ((s_l2Small x0 (1000 : Int)).bind fun v2 => some v2)
 (some false)
noncomputable def e_s_IsVector : CallE := ⟨16, [.d false (.list (.int .i64))], [.l (.d false .bool)], fun x => s_IsVector x⟩
noncomputable def c_s_IsVector : Ctx := ⟨Try.prog, TT, [e_s_l1In, e_s_l2Small], [], [], [], [], []⟩
theorem k_s_IsVector (x : PMs.den e_s_IsVector.ps) : funK c_s_IsVector Try.f16 e_s_IsVector.ps e_s_IsVector.rs x = e_s_IsVector.F x := by kernel_rfl
theorem o_s_IsVector {D : Prop} : FnOk Try.prog e_s_IsVector.f ∧ Ctr D Try.prog e_s_IsVector := mkCtr (C := c_s_IsVector) m_ (⟨o_s_l1In, o_s_l2Small, trivial⟩) Try.func16 (by kernel_rfl) k_s_IsVector
/-! loop.example/g00959/spec.BestCorner -/
noncomputable def s_BestCorner_s6 (v1 : List (List Int) × Bool) (v3 : List (List Int) × Int) : Option ((List (List Int) × Int) ⊕ (List (List Int))) :=
 cond (decide (v3.2 < (v1.1.length : Int)))
 ((idx v1.1 v3.2).bind fun v4 => (s_l2Put v3.1 v4).bind fun v5 => some (.inl (v5, (IntKind.i64.wrap (v3.2 + (1 : Int))))))
 (some (.inr v3.1))
noncomputable def s_BestCorner_s11 (x1 : List Int) (v6 : List (List Int)) (v8 : List Int × Int) : Option ((List Int × Int) ⊕ (List Int)) :=
 cond (decide (v8.2 < (v6.length : Int)))
 ((idx v6 v8.2).bind fun v9 => (s_l2Dot x1 v9).bind fun v10 => (s_l2Dot x1 v8.1).bind fun v11 => cond (decide (v10 > v11))
 ((idx v6 v8.2).bind fun v12 => some (.inl (v12, (IntKind.i64.wrap (v8.2 + (1 : Int))))))
 (some (.inl (v8.1, (IntKind.i64.wrap (v8.2 + (1 : Int)))))))
 (some (.inr v8.1))
noncomputable def s_BestCorner (x0 : Int × (List ((List Int) × Int))) (x1 : List Int) : Option (List Int × Bool) :=
(s_WholeHull (x0.1, x0.2)).bind fun v1 => cond (!v1.2)
 (some (([] : List Int), false))
 ((s_IsVector x1).bind fun v2 => cond (!v2)
 (some (([] : List Int), false))
 (cond ((x1.length : Int) != (2 : Int))
 (some (([] : List Int), false))
 ((iter (s_BestCorner_s6 v1) (([] : List (List Int)), (0 : Int))).bind fun v6 => (inIdx v6.length (0 : Int)).bind fun _ => (idx v6 (((0 : Int)).toNat : Int)).bind fun v7 => (iter (s_BestCorner_s11 x1 v6) (v7, (1 : Int))).bind fun v13 => some (v13, true))))
noncomputable def e_s_BestCorner : CallE := ⟨5, [.d false (.prod (.int .i64) (.list (.prod (.list (.int .i64)) (.int .i64)))), .d false (.list (.int .i64))], [.l (.d false (.list (.int .i64))), .l (.d false .bool)], fun x => s_BestCorner x.1 x.2⟩
noncomputable def c_s_BestCorner : Ctx := ⟨Try.prog, TT, [e_s_WholeHull, e_s_IsVector, e_s_l2Put, e_s_l2Dot], [⟨6, [(8, .l (.o false 25 (.list (.int .i64)))), (9, .l (.d false (.int .i64)))], some (0, [(8, .l (.o false 25 (.list (.int .i64))))]), none, false⟩, ⟨11, [(10, .l (.d false (.list (.int .i64)))), (11, .l (.d false (.int .i64)))], some (2, [(10, .l (.d false (.list (.int .i64))))]), none, false⟩], [], [], [], []⟩
theorem k_s_BestCorner (x : PMs.den e_s_BestCorner.ps) : funK c_s_BestCorner Try.f5 e_s_BestCorner.ps e_s_BestCorner.rs x = e_s_BestCorner.F x := by kernel_rfl
theorem o_s_BestCorner {D : Prop} : FnOk Try.prog e_s_BestCorner.f ∧ Ctr D Try.prog e_s_BestCorner := mkCtr (C := c_s_BestCorner) m_ (⟨o_s_WholeHull, o_s_IsVector, o_s_l2Put, o_s_l2Dot, trivial⟩) Try.func5 (by kernel_rfl) k_s_BestCorner
/-! loop.example/g00959/impl.within -/
noncomputable def i_within (x0 : Int) (x1 : Int) (x2 : Int) : Option (Bool) :=
 cond (decide (x0 ≥ x1))
 (some (decide (x0 ≤ x2)))
 (some false)
noncomputable def e_i_within : CallE := ⟨38, [.d false (.int .i64), .d false (.int .i64), .d false (.int .i64)], [.l (.d false .bool)], fun x => i_within x.1 x.2.1 x.2.2⟩
noncomputable def c_i_within : Ctx := ⟨Try.prog, TT, [], [], [], [], [], []⟩
theorem k_i_within (x : PMs.den e_i_within.ps) : funK c_i_within Try.f38 e_i_within.ps e_i_within.rs x = e_i_within.F x := by kernel_rfl
theorem o_i_within {D : Prop} : FnOk Try.prog e_i_within.f ∧ Ctr D Try.prog e_i_within := mkCtr (C := c_i_within) m_ (trivial) Try.func38 (by kernel_rfl) k_i_within
/-! loop.example/g00959/impl.allWithin -/
noncomputable def i_allWithin_s2 (x0 : List Int) (x1 : Int) (x2 : Int) (v1 : Int) : Option ((Int) ⊕ ((Unit) ⊕ (Bool))) :=
 cond (decide (v1 < (x0.length : Int)))
 ((idx x0 v1).bind fun v2 => (i_within v2 x1 x2).bind fun v3 => cond (!v3)
 (some (.inr (.inr false)))
 (some (.inl (IntKind.i64.wrap (v1 + (1 : Int))))))
 (some (.inr (.inl ())))
noncomputable def i_allWithin (x0 : List Int) (x1 : Int) (x2 : Int) : Option (Bool) :=
(iter (i_allWithin_s2 x0 x1 x2) (0 : Int)).bind fun v4 => match v4 with
 | .inl v5 => (some true)
 | .inr v6 => (some v6)
noncomputable def e_i_allWithin : CallE := ⟨39, [.d false (.list (.int .i64)), .d false (.int .i64), .d false (.int .i64)], [.l (.d false .bool)], fun x => i_allWithin x.1 x.2.1 x.2.2⟩
noncomputable def c_i_allWithin : Ctx := ⟨Try.prog, TT, [e_i_within], [⟨2, [(11, .l (.d false (.int .i64)))], some (0, []), some [(6, .l (.d false .bool))], false⟩], [], [], [], []⟩
theorem k_i_allWithin (x : PMs.den e_i_allWithin.ps) : funK c_i_allWithin Try.f39 e_i_allWithin.ps e_i_allWithin.rs x = e_i_allWithin.F x := by kernel_rfl
theorem o_i_allWithin {D : Prop} : FnOk Try.prog e_i_allWithin.f ∧ Ctr D Try.prog e_i_allWithin := mkCtr (C := c_i_allWithin) m_ (⟨o_i_within, trivial⟩) Try.func39 (by kernel_rfl) k_i_allWithin
/-! loop.example/g00959/impl.magnitude -/
noncomputable def i_magnitude (x0 : Int) : Option (Int) :=
 some (if (IntKind.i64.wrap (0 - x0)) > x0 then (IntKind.i64.wrap (0 - x0)) else x0)
noncomputable def e_i_magnitude : CallE := ⟨83, [.d false (.int .i64)], [.l (.d false (.int .i64))], fun x => i_magnitude x⟩
noncomputable def c_i_magnitude : Ctx := ⟨Try.prog, TT, [], [], [], [], [], []⟩
theorem k_i_magnitude (x : PMs.den e_i_magnitude.ps) : funK c_i_magnitude Try.f83 e_i_magnitude.ps e_i_magnitude.rs x = e_i_magnitude.F x := by kernel_rfl
theorem o_i_magnitude {D : Prop} : FnOk Try.prog e_i_magnitude.f ∧ Ctr D Try.prog e_i_magnitude := mkCtr (C := c_i_magnitude) m_ (trivial) Try.func83 (by kernel_rfl) k_i_magnitude
/-! loop.example/g00959/impl.divisor -/
noncomputable def i_divisor_s1 (v1 : Int × Int) : Option ((Int × Int) ⊕ (Int)) :=
 cond (v1.2 != (0 : Int))
 ((remI .i64 v1.1 v1.2).bind fun v2 => some (.inl (v1.2, v2)))
 (some (.inr v1.1))
noncomputable def i_divisor (x0 : Int) (x1 : Int) : Option (Int) :=
(iter (i_divisor_s1) (x0, x1)).bind fun v3 => (i_magnitude v3).bind fun v4 => some v4
noncomputable def e_i_divisor : CallE := ⟨71, [.d false (.int .i64), .d false (.int .i64)], [.l (.d false (.int .i64))], fun x => i_divisor x.1 x.2⟩
noncomputable def c_i_divisor : Ctx := ⟨Try.prog, TT, [e_i_magnitude], [⟨1, [(0, .l (.d false (.int .i64))), (1, .l (.d false (.int .i64)))], some (0, [(0, .l (.d false (.int .i64)))]), none, false⟩], [], [], [], []⟩
theorem k_i_divisor (x : PMs.den e_i_divisor.ps) : funK c_i_divisor Try.f71 e_i_divisor.ps e_i_divisor.rs x = e_i_divisor.F x := by kernel_rfl
theorem o_i_divisor {D : Prop} : FnOk Try.prog e_i_divisor.f ∧ Ctr D Try.prog e_i_divisor := mkCtr (C := c_i_divisor) m_ (⟨o_i_magnitude, trivial⟩) Try.func71 (by kernel_rfl) k_i_divisor
/-! loop.example/g00959/impl.gcdAll -/
noncomputable def i_gcdAll_s3 (x0 : List Int) (v1 : Int × Int) : Option ((Int × Int) ⊕ (Int)) :=
 cond (decide (v1.2 < (x0.length : Int)))
 ((idx x0 v1.2).bind fun v2 => (i_divisor v1.1 v2).bind fun v3 => some (.inl (v3, (IntKind.i64.wrap (v1.2 + (1 : Int))))))
 (some (.inr v1.1))
noncomputable def i_gcdAll (x0 : List Int) : Option (Int) :=
(iter (i_gcdAll_s3 x0) ((0 : Int), (0 : Int))).bind fun v4 => some v4
noncomputable def e_i_gcdAll : CallE := ⟨62, [.d false (.list (.int .i64))], [.l (.d false (.int .i64))], fun x => i_gcdAll x⟩
noncomputable def c_i_gcdAll : Ctx := ⟨Try.prog, TT, [e_i_divisor], [⟨3, [(3, .l (.d false (.int .i64))), (8, .l (.d false (.int .i64)))], some (0, [(3, .l (.d false (.int .i64)))]), none, false⟩], [], [], [], []⟩
theorem k_i_gcdAll (x : PMs.den e_i_gcdAll.ps) : funK c_i_gcdAll Try.f62 e_i_gcdAll.ps e_i_gcdAll.rs x = e_i_gcdAll.F x := by kernel_rfl
theorem o_i_gcdAll {D : Prop} : FnOk Try.prog e_i_gcdAll.f ∧ Ctr D Try.prog e_i_gcdAll := mkCtr (C := c_i_gcdAll) m_ (⟨o_i_divisor, trivial⟩) Try.func62 (by kernel_rfl) k_i_gcdAll
/-! loop.example/g00959/impl.IsHalf -/
noncomputable def i_IsHalf (x0 : Int) (x1 : (List Int) × Int) : Option (Bool) :=
(i_within x0 (1 : Int) (3 : Int)).bind fun v1 => cond v1
 (cond ((x1.1.length : Int) == x0)
 ((i_allWithin x1.1 (-20 : Int) (20 : Int)).bind fun v2 => cond v2
 ((i_gcdAll x1.1).bind fun v3 => cond (decide (v3 > (0 : Int)))
 ((i_within x1.2 (-200 : Int) (200 : Int)).bind fun v4 => some v4)
 (some false))
 (some false))
 (some false))
 (some false)
noncomputable def e_i_IsHalf : CallE := ⟨49, [.d false (.int .i64), .d false (.prod (.list (.int .i64)) (.int .i64))], [.l (.d false .bool)], fun x => i_IsHalf x.1 x.2⟩
noncomputable def c_i_IsHalf : Ctx := ⟨Try.prog, TT, [e_i_within, e_i_allWithin, e_i_gcdAll], [], [], [], [], []⟩
theorem k_i_IsHalf (x : PMs.den e_i_IsHalf.ps) : funK c_i_IsHalf Try.f49 e_i_IsHalf.ps e_i_IsHalf.rs x = e_i_IsHalf.F x := by kernel_rfl
theorem o_i_IsHalf {D : Prop} : FnOk Try.prog e_i_IsHalf.f ∧ Ctr D Try.prog e_i_IsHalf := mkCtr (C := c_i_IsHalf) m_ (⟨o_i_within, o_i_allWithin, o_i_gcdAll, trivial⟩) Try.func49 (by kernel_rfl) k_i_IsHalf
/-! loop.example/g00959/impl.IsRegion -/
noncomputable def i_IsRegion_s4 (x0 : Int × (List ((List Int) × Int))) (v2 : Int) : Option ((Int) ⊕ ((Unit) ⊕ (Bool))) :=
 cond (decide (v2 < (x0.2.length : Int)))
 ((idx x0.2 v2).bind fun v3 => (i_IsHalf x0.1 (v3.1, v3.2)).bind fun v4 => cond (!v4)
 (some (.inr (.inr false)))
 (some (.inl (IntKind.i64.wrap (v2 + (1 : Int))))))
 (some (.inr (.inl ())))
noncomputable def i_IsRegion (x0 : Int × (List ((List Int) × Int))) : Option (Bool) :=
(i_within x0.1 (1 : Int) (3 : Int)).bind fun v1 => cond (!v1)
 (some false)
 (cond (decide ((x0.2.length : Int) > (8 : Int)))
 (some false)
 ((iter (i_IsRegion_s4 x0) (0 : Int)).bind fun v5 => match v5 with
 | .inl v6 => (some true)
 | .inr v7 => (some v7)))
noncomputable def e_i_IsRegion : CallE := ⟨35, [.d false (.prod (.int .i64) (.list (.prod (.list (.int .i64)) (.int .i64))))], [.l (.d false .bool)], fun x => i_IsRegion x⟩
noncomputable def c_i_IsRegion : Ctx := ⟨Try.prog, TT, [e_i_within, e_i_IsHalf], [⟨4, [(18, .l (.d false (.int .i64)))], some (0, []), some [(2, .l (.d false .bool))], false⟩], [], [], [], []⟩
theorem k_i_IsRegion (x : PMs.den e_i_IsRegion.ps) : funK c_i_IsRegion Try.f35 e_i_IsRegion.ps e_i_IsRegion.rs x = e_i_IsRegion.F x := by kernel_rfl
theorem o_i_IsRegion {D : Prop} : FnOk Try.prog e_i_IsRegion.f ∧ Ctr D Try.prog e_i_IsRegion := mkCtr (C := c_i_IsRegion) m_ (⟨o_i_within, o_i_IsHalf, trivial⟩) Try.func35 (by kernel_rfl) k_i_IsRegion
/-! loop.example/g00959/impl.copyInts -/
noncomputable def i_copyInts (x0 : List Int) : Option (List Int) :=
(appD 8 ([] : List Int) x0).bind fun v1 => some v1
noncomputable def e_i_copyInts : CallE := ⟨54, [.d false (.list (.int .i64))], [.l (.o true 3 (.int .i64))], fun x => i_copyInts x⟩
noncomputable def c_i_copyInts : Ctx := ⟨Try.prog, TT, [], [], [], [], [], []⟩
theorem k_i_copyInts (x : PMs.den e_i_copyInts.ps) : funK c_i_copyInts Try.f54 e_i_copyInts.ps e_i_copyInts.rs x = e_i_copyInts.F x := by kernel_rfl
theorem o_i_copyInts {D : Prop} : FnOk Try.prog e_i_copyInts.f ∧ Ctr D Try.prog e_i_copyInts := mkCtr (C := c_i_copyInts) m_ (trivial) Try.func54 (by kernel_rfl) k_i_copyInts
/-! loop.example/g00959/impl.lattice -/
noncomputable def i_lattice_s10 (x1 : List Int) (v1 : List (List Int) × Int) (v3 : List Int) (v5 : List (List Int) × Int) : Option ((List (List Int) × Int) ⊕ (List (List Int))) :=
(idx x1 v1.2).bind fun v6 => cond (decide (v5.2 ≤ v6))
 ((i_copyInts v3).bind fun v7 => (appD 8 v7 ([v5.2] : List Int)).bind fun v8 => (appD 24 v5.1 ([v8] : List (List Int))).bind fun v9 => some (.inl (v9, (IntKind.i64.wrap (v5.2 + (1 : Int))))))
 (some (.inr v5.1))
noncomputable def i_lattice_s7 (x0 : List Int) (x1 : List Int) (v1 : List (List Int) × Int) (v2 : List (List Int) × Int) : Option ((List (List Int) × Int) ⊕ (List (List Int))) :=
 cond (decide (v2.2 < (v1.1.length : Int)))
 ((idx v1.1 v2.2).bind fun v3 => (idx x0 v1.2).bind fun v4 => (iter (i_lattice_s10 x1 v1 v3) (v2.1, v4)).bind fun v10 => some (.inl (v10, (IntKind.i64.wrap (v2.2 + (1 : Int))))))
 (some (.inr v2.1))
noncomputable def i_lattice_s3 (x0 : List Int) (x1 : List Int) (v1 : List (List Int) × Int) : Option ((List (List Int) × Int) ⊕ (List (List Int))) :=
 cond (decide (v1.2 < (x0.length : Int)))
 ((iter (i_lattice_s7 x0 x1 v1) (([] : List (List Int)), (0 : Int))).bind fun v11 => some (.inl (v11, (IntKind.i64.wrap (v1.2 + (1 : Int))))))
 (some (.inr v1.1))
noncomputable def i_lattice (x0 : List Int) (x1 : List Int) : Option (List (List Int)) :=
(iter (i_lattice_s3 x0 x1) (([([] : List Int)] : List (List Int)), (0 : Int))).bind fun v12 => some v12
noncomputable def e_i_lattice : CallE := ⟨57, [.d false (.list (.int .i64)), .d false (.list (.int .i64))], [.l (.o true 25 (.list (.int .i64)))], fun x => i_lattice x.1 x.2⟩
noncomputable def c_i_lattice : Ctx := ⟨Try.prog, TT, [e_i_copyInts], [⟨3, [(5, .l (.o true 25 (.list (.int .i64)))), (14, .l (.d false (.int .i64)))], some (0, [(5, .l (.o true 25 (.list (.int .i64))))]), none, false⟩, ⟨7, [(7, .l (.o true 25 (.list (.int .i64)))), (19, .l (.d false (.int .i64)))], some (2, [(7, .l (.o true 25 (.list (.int .i64))))]), none, false⟩, ⟨10, [(7, .l (.o true 25 (.list (.int .i64)))), (10, .l (.d false (.int .i64)))], some (4, [(7, .l (.o true 25 (.list (.int .i64))))]), none, false⟩], [], [], [], []⟩
theorem k_i_lattice (x : PMs.den e_i_lattice.ps) : funK c_i_lattice Try.f57 e_i_lattice.ps e_i_lattice.rs x = e_i_lattice.F x := by kernel_rfl
theorem o_i_lattice {D : Prop} : FnOk Try.prog e_i_lattice.f ∧ Ctr D Try.prog e_i_lattice := mkCtr (C := c_i_lattice) m_ (⟨o_i_copyInts, trivial⟩) Try.func57 (by kernel_rfl) k_i_lattice
/-! loop.example/g00959/impl.IsVector -/
noncomputable def i_IsVector (x0 : List Int) : Option (Bool) :=
(i_within (x0.length : Int) (1 : Int) (3 : Int)).bind fun v1 => cond v1
 ((i_allWithin x0 (-1000 : Int) (1000 : Int)).bind fun v2 => some v2)
 (some false)
noncomputable def e_i_IsVector : CallE := ⟨21, [.d false (.list (.int .i64))], [.l (.d false .bool)], fun x => i_IsVector x⟩
noncomputable def c_i_IsVector : Ctx := ⟨Try.prog, TT, [e_i_within, e_i_allWithin], [], [], [], [], []⟩
theorem k_i_IsVector (x : PMs.den e_i_IsVector.ps) : funK c_i_IsVector Try.f21 e_i_IsVector.ps e_i_IsVector.rs x = e_i_IsVector.F x := by kernel_rfl
theorem o_i_IsVector {D : Prop} : FnOk Try.prog e_i_IsVector.f ∧ Ctr D Try.prog e_i_IsVector := mkCtr (C := c_i_IsVector) m_ (⟨o_i_within, o_i_allWithin, trivial⟩) Try.func21 (by kernel_rfl) k_i_IsVector
/-! loop.example/g00959/impl.dot -/
noncomputable def i_dot_s3 (x0 : List Int) (x1 : List Int) (v1 : Int × Int) : Option ((Int × Int) ⊕ (Int)) :=
 cond (decide (v1.2 < (x0.length : Int)))
 ((idx x0 v1.2).bind fun v2 => (idx x1 v1.2).bind fun v3 => some (.inl ((IntKind.i64.wrap (v1.1 + (IntKind.i64.wrap (v2 * v3)))), (IntKind.i64.wrap (v1.2 + (1 : Int))))))
 (some (.inr v1.1))
noncomputable def i_dot (x0 : List Int) (x1 : List Int) : Option (Int) :=
(iter (i_dot_s3 x0 x1) ((0 : Int), (0 : Int))).bind fun v4 => some v4
noncomputable def e_i_dot : CallE := ⟨22, [.d false (.list (.int .i64)), .d false (.list (.int .i64))], [.l (.d false (.int .i64))], fun x => i_dot x.1 x.2⟩
noncomputable def c_i_dot : Ctx := ⟨Try.prog, TT, [], [⟨3, [(5, .l (.d false (.int .i64))), (9, .l (.d false (.int .i64)))], some (0, [(5, .l (.d false (.int .i64)))]), none, false⟩], [], [], [], []⟩
theorem k_i_dot (x : PMs.den e_i_dot.ps) : funK c_i_dot Try.f22 e_i_dot.ps e_i_dot.rs x = e_i_dot.F x := by kernel_rfl
theorem o_i_dot {D : Prop} : FnOk Try.prog e_i_dot.f ∧ Ctr D Try.prog e_i_dot := mkCtr (C := c_i_dot) m_ (trivial) Try.func22 (by kernel_rfl) k_i_dot
/-! loop.example/g00959/impl.HasPoint -/
noncomputable def i_HasPoint_s4 (x0 : Int × (List ((List Int) × Int))) (x1 : List Int) (v3 : Int) : Option ((Int) ⊕ ((Unit) ⊕ (Bool))) :=
 cond (decide (v3 < (x0.2.length : Int)))
 ((idx x0.2 v3).bind fun v4 => (i_dot v4.1 x1).bind fun v5 => cond (decide (v5 > v4.2))
 (some (.inr (.inr false)))
 (some (.inl (IntKind.i64.wrap (v3 + (1 : Int))))))
 (some (.inr (.inl ())))
noncomputable def i_HasPoint (x0 : Int × (List ((List Int) × Int))) (x1 : List Int) : Option (Bool) :=
(i_IsRegion (x0.1, x0.2)).bind fun v1 => cond (!v1)
 (some false)
 ((i_IsVector x1).bind fun v2 => cond (!v2)
 (some false)
 (cond ((x1.length : Int) != x0.1)
 (some false)
 ((iter (i_HasPoint_s4 x0 x1) (0 : Int)).bind fun v6 => match v6 with
 | .inl v7 => (some true)
 | .inr v8 => (some v8))))
noncomputable def e_i_HasPoint : CallE := ⟨58, [.d false (.prod (.int .i64) (.list (.prod (.list (.int .i64)) (.int .i64)))), .d false (.list (.int .i64))], [.l (.d false .bool)], fun x => i_HasPoint x.1 x.2⟩
noncomputable def c_i_HasPoint : Ctx := ⟨Try.prog, TT, [e_i_IsRegion, e_i_IsVector, e_i_dot], [⟨4, [(25, .l (.d false (.int .i64)))], some (0, []), some [(4, .l (.d false .bool))], false⟩], [], [], [], []⟩
theorem k_i_HasPoint (x : PMs.den e_i_HasPoint.ps) : funK c_i_HasPoint Try.f58 e_i_HasPoint.ps e_i_HasPoint.rs x = e_i_HasPoint.F x := by kernel_rfl
theorem o_i_HasPoint {D : Prop} : FnOk Try.prog e_i_HasPoint.f ∧ Ctr D Try.prog e_i_HasPoint := mkCtr (C := c_i_HasPoint) m_ (⟨o_i_IsRegion, o_i_IsVector, o_i_dot, trivial⟩) Try.func58 (by kernel_rfl) k_i_HasPoint
/-! loop.example/g00959/impl.PointsIn -/
noncomputable def i_PointsIn_s5 (v2 : List Int) (v4 : List Int × List Int × Int) : Option ((List Int × List Int × Int) ⊕ (List Int × List Int)) :=
 cond (decide (v4.2.2 < (v2.length : Int)))
 ((inIdx v4.1.length v4.2.2).bind fun _ => (inIdx v4.1.length ((v4.2.2).toNat : Int)).bind fun _ => (inIdx v4.2.1.length v4.2.2).bind fun _ => (inIdx v4.2.1.length ((v4.2.2).toNat : Int)).bind fun _ => some (.inl ((v4.1.set ((v4.2.2).toNat) (-6 : Int)), ((v4.2.1.set ((v4.2.2).toNat) (6 : Int)), (IntKind.i64.wrap (v4.2.2 + (1 : Int)))))))
 (some (.inr (v4.1, v4.2.1)))
noncomputable def i_PointsIn_s11 (x0 : Int × (List ((List Int) × Int))) (v6 : List (List Int)) (v7 : List (List Int) × Int) : Option ((List (List Int) × Int) ⊕ (List (List Int))) :=
 cond (decide (v7.2 < (v6.length : Int)))
 ((idx v6 v7.2).bind fun v8 => (i_HasPoint (x0.1, x0.2) v8).bind fun v9 => cond v9
 ((appD 24 v7.1 ([v8] : List (List Int))).bind fun v10 => some (.inl (v10, (IntKind.i64.wrap (v7.2 + (1 : Int))))))
 (some (.inl (v7.1, (IntKind.i64.wrap (v7.2 + (1 : Int)))))))
 (some (.inr v7.1))
noncomputable def i_PointsIn (x0 : Int × (List ((List Int) × Int))) : Option (List (List Int)) :=
(i_IsRegion (x0.1, x0.2)).bind fun v1 => cond (!v1)
 (some ([] : List (List Int)))
 ((mkD 8 x0.1 (0 : Int)).bind fun v2 => (mkD 8 x0.1 (0 : Int)).bind fun v3 => (iter (i_PointsIn_s5 v2) (v2, (v3, (0 : Int)))).bind fun v5 => (i_lattice v5.1 v5.2).bind fun v6 => (iter (i_PointsIn_s11 x0 v6) (([] : List (List Int)), (0 : Int))).bind fun v11 => some v11)
noncomputable def e_i_PointsIn : CallE := ⟨37, [.d false (.prod (.int .i64) (.list (.prod (.list (.int .i64)) (.int .i64))))], [.l (.o false 25 (.list (.int .i64)))], fun x => i_PointsIn x⟩
noncomputable def c_i_PointsIn : Ctx := ⟨Try.prog, TT, [e_i_IsRegion, e_i_lattice, e_i_HasPoint], [⟨5, [(3, .l (.o true 3 (.int .i64))), (4, .l (.o true 3 (.int .i64))), (20, .l (.d false (.int .i64)))], some (0, [(3, .l (.o true 3 (.int .i64))), (4, .l (.o true 3 (.int .i64)))]), none, false⟩, ⟨11, [(6, .l (.o false 25 (.list (.int .i64)))), (34, .l (.d false (.int .i64)))], some (2, [(6, .l (.o false 25 (.list (.int .i64))))]), none, false⟩], [], [], [], []⟩
theorem k_i_PointsIn (x : PMs.den e_i_PointsIn.ps) : funK c_i_PointsIn Try.f37 e_i_PointsIn.ps e_i_PointsIn.rs x = e_i_PointsIn.F x := by kernel_rfl
theorem o_i_PointsIn {D : Prop} : FnOk Try.prog e_i_PointsIn.f ∧ Ctr D Try.prog e_i_PointsIn := mkCtr (C := c_i_PointsIn) m_ (⟨o_i_IsRegion, o_i_lattice, o_i_HasPoint, trivial⟩) Try.func37 (by kernel_rfl) k_i_PointsIn
/-! loop.example/g00959/impl.isPoint -/
noncomputable def i_isPoint (x0 : List Int) (x1 : Int) : Option (Bool) :=
 cond ((x0.length : Int) == (2 : Int))
 ((i_allWithin x0 (IntKind.i64.wrap (0 - x1)) x1).bind fun v1 => some v1)
 (some false)
noncomputable def e_i_isPoint : CallE := ⟨50, [.d false (.list (.int .i64)), .d false (.int .i64)], [.l (.d false .bool)], fun x => i_isPoint x.1 x.2⟩
noncomputable def c_i_isPoint : Ctx := ⟨Try.prog, TT, [e_i_allWithin], [], [], [], [], []⟩
theorem k_i_isPoint (x : PMs.den e_i_isPoint.ps) : funK c_i_isPoint Try.f50 e_i_isPoint.ps e_i_isPoint.rs x = e_i_isPoint.F x := by kernel_rfl
theorem o_i_isPoint {D : Prop} : FnOk Try.prog e_i_isPoint.f ∧ Ctr D Try.prog e_i_isPoint := mkCtr (C := c_i_isPoint) m_ (⟨o_i_allWithin, trivial⟩) Try.func50 (by kernel_rfl) k_i_isPoint
/-! loop.example/g00959/impl.copyPoints -/
noncomputable def i_copyPoints_s3 (x0 : List (List Int)) (v1 : List (List Int) × Int) : Option ((List (List Int) × Int) ⊕ (List (List Int))) :=
 cond (decide (v1.2 < (x0.length : Int)))
 ((idx x0 v1.2).bind fun v2 => (i_copyInts v2).bind fun v3 => (appD 24 v1.1 ([v3] : List (List Int))).bind fun v4 => some (.inl (v4, (IntKind.i64.wrap (v1.2 + (1 : Int))))))
 (some (.inr v1.1))
noncomputable def i_copyPoints (x0 : List (List Int)) : Option (List (List Int)) :=
(iter (i_copyPoints_s3 x0) (([] : List (List Int)), (0 : Int))).bind fun v5 => some v5
noncomputable def e_i_copyPoints : CallE := ⟨51, [.d false (.list (.list (.int .i64)))], [.l (.o true 25 (.list (.int .i64)))], fun x => i_copyPoints x⟩
noncomputable def c_i_copyPoints : Ctx := ⟨Try.prog, TT, [e_i_copyInts], [⟨3, [(3, .l (.o true 25 (.list (.int .i64)))), (8, .l (.d false (.int .i64)))], some (0, [(3, .l (.o true 25 (.list (.int .i64))))]), none, false⟩], [], [], [], []⟩
theorem k_i_copyPoints (x : PMs.den e_i_copyPoints.ps) : funK c_i_copyPoints Try.f51 e_i_copyPoints.ps e_i_copyPoints.rs x = e_i_copyPoints.F x := by kernel_rfl
theorem o_i_copyPoints {D : Prop} : FnOk Try.prog e_i_copyPoints.f ∧ Ctr D Try.prog e_i_copyPoints := mkCtr (C := c_i_copyPoints) m_ (⟨o_i_copyInts, trivial⟩) Try.func51 (by kernel_rfl) k_i_copyPoints
/-! cmp.isNaN[int] -/
noncomputable def g_cmp_isNaN (x0 : Int) : Option (Bool) :=
 some (x0 != x0)
noncomputable def e_g_cmp_isNaN : CallE := ⟨67, [.d false (.int .i64)], [.l (.d false .bool)], fun x => g_cmp_isNaN x⟩
noncomputable def c_g_cmp_isNaN : Ctx := ⟨Try.prog, TT, [], [], [], [], [], []⟩
theorem k_g_cmp_isNaN (x : PMs.den e_g_cmp_isNaN.ps) : funK c_g_cmp_isNaN Try.f67 e_g_cmp_isNaN.ps e_g_cmp_isNaN.rs x = e_g_cmp_isNaN.F x := by kernel_rfl
theorem o_g_cmp_isNaN {D : Prop} : FnOk Try.prog e_g_cmp_isNaN.f ∧ Ctr D Try.prog e_g_cmp_isNaN := mkCtr (C := c_g_cmp_isNaN) m_ (trivial) Try.func67 (by kernel_rfl) k_g_cmp_isNaN
/-! cmp.Compare[int] -/
noncomputable def g_cmp_Compare (x0 : Int) (x1 : Int) : Option (Int) :=
(g_cmp_isNaN x0).bind fun v1 => (g_cmp_isNaN x1).bind fun v2 => cond v1
 (cond v2
 (some (0 : Int))
 (some (-1 : Int)))
 (cond v2
 (some (1 : Int))
 (cond (decide (x0 < x1))
 (some (-1 : Int))
 (cond (decide (x0 > x1))
 (some (1 : Int))
 (some (0 : Int)))))
noncomputable def e_g_cmp_Compare : CallE := ⟨59, [.d false (.int .i64), .d false (.int .i64)], [.l (.d false (.int .i64))], fun x => g_cmp_Compare x.1 x.2⟩
noncomputable def c_g_cmp_Compare : Ctx := ⟨Try.prog, TT, [e_g_cmp_isNaN], [], [], [], [], []⟩
theorem k_g_cmp_Compare (x : PMs.den e_g_cmp_Compare.ps) : funK c_g_cmp_Compare Try.f59 e_g_cmp_Compare.ps e_g_cmp_Compare.rs x = e_g_cmp_Compare.F x := by kernel_rfl
theorem o_g_cmp_Compare {D : Prop} : FnOk Try.prog e_g_cmp_Compare.f ∧ Ctr D Try.prog e_g_cmp_Compare := mkCtr (C := c_g_cmp_Compare) m_ (⟨o_g_cmp_isNaN, trivial⟩) Try.func59 (by kernel_rfl) k_g_cmp_Compare
/-! slices.Compare[[]int,int] -/
noncomputable def g_slices_Compare_s2 (x0 : List Int) (x1 : List Int) (v1 : Int) : Option ((Int) ⊕ ((Unit) ⊕ (Int))) :=
 cond (decide (v1 < (x0.length : Int)))
 ((idx x0 v1).bind fun v2 => cond (decide (v1 ≥ (x1.length : Int)))
 (some (.inr (.inr (1 : Int))))
 ((idx x1 v1).bind fun v3 => (g_cmp_Compare v2 v3).bind fun v4 => cond (v4 != (0 : Int))
 (some (.inr (.inr v4)))
 (some (.inl (IntKind.i64.wrap (v1 + (1 : Int)))))))
 (some (.inr (.inl ())))
noncomputable def g_slices_Compare (x0 : List Int) (x1 : List Int) : Option (Int) :=
(iter (g_slices_Compare_s2 x0 x1) (0 : Int)).bind fun v5 => match v5 with
 | .inl v6 => (cond (decide ((x0.length : Int) < (x1.length : Int)))
 (some (-1 : Int))
 (some (0 : Int)))
 | .inr v7 => (some v7)
noncomputable def e_g_slices_Compare : CallE := ⟨40, [.d false (.list (.int .i64)), .d false (.list (.int .i64))], [.l (.d false (.int .i64))], fun x => g_slices_Compare x.1 x.2⟩
noncomputable def c_g_slices_Compare : Ctx := ⟨Try.prog, TT, [e_g_cmp_Compare], [⟨2, [(11, .l (.d false (.int .i64)))], some (0, []), some [(4, .l (.d false (.int .i64)))], false⟩], [], [], [], []⟩
theorem k_g_slices_Compare (x : PMs.den e_g_slices_Compare.ps) : funK c_g_slices_Compare Try.f40 e_g_slices_Compare.ps e_g_slices_Compare.rs x = e_g_slices_Compare.F x := by kernel_rfl
theorem o_g_slices_Compare {D : Prop} : FnOk Try.prog e_g_slices_Compare.f ∧ Ctr D Try.prog e_g_slices_Compare := mkCtr (C := c_g_slices_Compare) m_ (⟨o_g_cmp_Compare, trivial⟩) Try.func40 (by kernel_rfl) k_g_slices_Compare
/-! slices.SortFunc[[][]int,[]int] -/
noncomputable def g_slices_SortFunc (x0 : List (List Int)) : Option (Unit × ((List (List Int)) × Unit)) := sortF (fun a b => g_slices_Compare a b) x0
noncomputable def e_g_slices_SortFunc : CallE := ⟨52, [.io true 25 (.list (.int .i64)), .f 40], [], fun x => g_slices_SortFunc x.1⟩
theorem o_g_slices_SortFunc {D : Prop} : FnOk Try.prog e_g_slices_SortFunc.f ∧ Ctr D Try.prog e_g_slices_SortFunc := ⟨⟨Try.f52, _, Try.func52, by kernel_rfl, rfl⟩, sort_ctr laySort rfl (o_g_slices_Compare (D := True)).1 (o_g_slices_Compare (D := True)).2⟩
/-! loop.example/g00959/impl.minus -/
noncomputable def i_minus (x0 : List Int) (x1 : List Int) : Option (List Int) :=
(idx x0 (0 : Int)).bind fun v1 => (idx x1 (0 : Int)).bind fun v2 => (idx x0 (1 : Int)).bind fun v3 => (idx x1 (1 : Int)).bind fun v4 => some ([(IntKind.i64.wrap (v1 - v2)), (IntKind.i64.wrap (v3 - v4))] : List Int)
noncomputable def e_i_minus : CallE := ⟨66, [.d false (.list (.int .i64)), .d false (.list (.int .i64))], [.l (.o true 3 (.int .i64))], fun x => i_minus x.1 x.2⟩
noncomputable def c_i_minus : Ctx := ⟨Try.prog, TT, [], [], [], [], [], []⟩
theorem k_i_minus (x : PMs.den e_i_minus.ps) : funK c_i_minus Try.f66 e_i_minus.ps e_i_minus.rs x = e_i_minus.F x := by kernel_rfl
theorem o_i_minus {D : Prop} : FnOk Try.prog e_i_minus.f ∧ Ctr D Try.prog e_i_minus := mkCtr (C := c_i_minus) m_ (trivial) Try.func66 (by kernel_rfl) k_i_minus
/-! loop.example/g00959/impl.cross -/
noncomputable def i_cross (x0 : List Int) (x1 : List Int) : Option (Int) :=
(idx x0 (0 : Int)).bind fun v1 => (idx x1 (1 : Int)).bind fun v2 => (idx x0 (1 : Int)).bind fun v3 => (idx x1 (0 : Int)).bind fun v4 => some (IntKind.i64.wrap ((IntKind.i64.wrap (v1 * v2)) - (IntKind.i64.wrap (v3 * v4))))
noncomputable def e_i_cross : CallE := ⟨65, [.d false (.list (.int .i64)), .d false (.list (.int .i64))], [.l (.d false (.int .i64))], fun x => i_cross x.1 x.2⟩
noncomputable def c_i_cross : Ctx := ⟨Try.prog, TT, [], [], [], [], [], []⟩
theorem k_i_cross (x : PMs.den e_i_cross.ps) : funK c_i_cross Try.f65 e_i_cross.ps e_i_cross.rs x = e_i_cross.F x := by kernel_rfl
theorem o_i_cross {D : Prop} : FnOk Try.prog e_i_cross.f ∧ Ctr D Try.prog e_i_cross := mkCtr (C := c_i_cross) m_ (trivial) Try.func65 (by kernel_rfl) k_i_cross
/-! loop.example/g00959/impl.turn -/
noncomputable def i_turn (x0 : List Int) (x1 : List Int) (x2 : List Int) : Option (Int) :=
(i_minus x1 x0).bind fun v1 => (i_minus x2 x0).bind fun v2 => (i_cross v1 v2).bind fun v3 => some v3
noncomputable def e_i_turn : CallE := ⟨53, [.d false (.list (.int .i64)), .d false (.list (.int .i64)), .d false (.list (.int .i64))], [.l (.d false (.int .i64))], fun x => i_turn x.1 x.2.1 x.2.2⟩
noncomputable def c_i_turn : Ctx := ⟨Try.prog, TT, [e_i_minus, e_i_cross], [], [], [], [], []⟩
theorem k_i_turn (x : PMs.den e_i_turn.ps) : funK c_i_turn Try.f53 e_i_turn.ps e_i_turn.rs x = e_i_turn.F x := by kernel_rfl
theorem o_i_turn {D : Prop} : FnOk Try.prog e_i_turn.f ∧ Ctr D Try.prog e_i_turn := mkCtr (C := c_i_turn) m_ (⟨o_i_minus, o_i_cross, trivial⟩) Try.func53 (by kernel_rfl) k_i_turn
/-! slices.Reverse[[][]int,[]int] -/
noncomputable def g_slices_Reverse (x0 : List (List Int)) : Option (Unit × ((List (List Int)) × Unit)) := some ((), (x0.reverse, ()))
noncomputable def e_g_slices_Reverse : CallE := ⟨55, [.io true 25 (.list (.int .i64))], [], fun x => g_slices_Reverse x⟩
theorem o_g_slices_Reverse {D : Prop} : FnOk Try.prog e_g_slices_Reverse.f ∧ Ctr D Try.prog e_g_slices_Reverse := ⟨⟨Try.f55, _, Try.func55, by kernel_rfl, rfl⟩, rev_ctr layRev rfl⟩
/-! loop.example/g00959/impl.IsPolygon -/
noncomputable def i_IsPolygon_s4 (x0 : List (List Int)) (v2 : Int) : Option ((Int) ⊕ ((Unit) ⊕ (Bool))) :=
 cond (decide (v2 < (x0.length : Int)))
 ((idx x0 v2).bind fun v3 => (i_isPoint v3 (50 : Int)).bind fun v4 => cond (!v4)
 (some (.inr (.inr false)))
 (some (.inl (IntKind.i64.wrap (v2 + (1 : Int))))))
 (some (.inr (.inl ())))
noncomputable def i_IsPolygon_s11 (x0 : List (List Int)) (v8 : Int) : Option ((Int) ⊕ ((Unit) ⊕ (Bool))) :=
 cond (decide (v8 < (x0.length : Int)))
 ((idx x0 v8).bind fun v9 => (remI .i64 (IntKind.i64.wrap (v8 + (1 : Int))) (x0.length : Int)).bind fun v10 => (idx x0 v10).bind fun v11 => (remI .i64 (IntKind.i64.wrap (v8 + (2 : Int))) (x0.length : Int)).bind fun v12 => (idx x0 v12).bind fun v13 => (i_turn v9 v11 v13).bind fun v14 => cond (decide (v14 ≤ (0 : Int)))
 (some (.inr (.inr false)))
 (cond (decide (v8 > (0 : Int)))
 ((idx x0 (0 : Int)).bind fun v15 => (g_slices_Compare v15 v9).bind fun v16 => cond (decide (v16 ≥ (0 : Int)))
 (some (.inr (.inr false)))
 (cond (decide (v8 > (0 : Int)))
 (cond (decide (v8 < (IntKind.i64.wrap ((x0.length : Int) - (1 : Int)))))
 ((idx x0 (0 : Int)).bind fun v17 => (idx x0 (IntKind.i64.wrap (v8 + (1 : Int)))).bind fun v18 => (i_turn v17 v9 v18).bind fun v19 => cond (decide (v19 ≤ (0 : Int)))
 (some (.inr (.inr false)))
 (some (.inl (IntKind.i64.wrap (v8 + (1 : Int))))))
 (some (.inl (IntKind.i64.wrap (v8 + (1 : Int))))))
 (some (.inl (IntKind.i64.wrap (v8 + (1 : Int)))))))
 (cond (decide (v8 > (0 : Int)))
 (cond (decide (v8 < (IntKind.i64.wrap ((x0.length : Int) - (1 : Int)))))
 ((idx x0 (0 : Int)).bind fun v20 => (idx x0 (IntKind.i64.wrap (v8 + (1 : Int)))).bind fun v21 => (i_turn v20 v9 v21).bind fun v22 => cond (decide (v22 ≤ (0 : Int)))
 (some (.inr (.inr false)))
 (some (.inl (IntKind.i64.wrap (v8 + (1 : Int))))))
 (some (.inl (IntKind.i64.wrap (v8 + (1 : Int))))))
 (some (.inl (IntKind.i64.wrap (v8 + (1 : Int))))))))
 (some (.inr (.inl ())))
noncomputable def i_IsPolygon (x0 : List (List Int)) : Option (Bool) :=
(i_within (x0.length : Int) (3 : Int) (12 : Int)).bind fun v1 => cond (!v1)
 (some false)
 ((iter (i_IsPolygon_s4 x0) (0 : Int)).bind fun v5 => match v5 with
 | .inl v6 => ((iter (i_IsPolygon_s11 x0) (0 : Int)).bind fun v23 => match v23 with
 | .inl v24 => (some true)
 | .inr v25 => (some v25))
 | .inr v7 => (some v7))
noncomputable def e_i_IsPolygon : CallE := ⟨56, [.d false (.list (.list (.int .i64)))], [.l (.d false .bool)], fun x => i_IsPolygon x⟩
noncomputable def c_i_IsPolygon : Ctx := ⟨Try.prog, TT, [e_i_within, e_i_isPoint, e_i_turn, e_g_slices_Compare], [⟨4, [(14, .l (.d false (.int .i64)))], some (0, []), some [(2, .l (.d false .bool))], false⟩, ⟨11, [(26, .l (.d false (.int .i64)))], some (2, []), some [(2, .l (.d false .bool))], false⟩], [], [], [], []⟩
theorem k_i_IsPolygon (x : PMs.den e_i_IsPolygon.ps) : funK c_i_IsPolygon Try.f56 e_i_IsPolygon.ps e_i_IsPolygon.rs x = e_i_IsPolygon.F x := by kernel_rfl
theorem o_i_IsPolygon {D : Prop} : FnOk Try.prog e_i_IsPolygon.f ∧ Ctr D Try.prog e_i_IsPolygon := mkCtr (C := c_i_IsPolygon) m_ (⟨o_i_within, o_i_isPoint, o_i_turn, o_g_slices_Compare, trivial⟩) Try.func56 (by kernel_rfl) k_i_IsPolygon
/-! loop.example/g00959/impl.HullOf -/
noncomputable def i_HullOf_s4 (x0 : List (List Int)) (v1 : Int) : Option ((Int) ⊕ ((Unit) ⊕ (List (List Int) × Bool))) :=
 cond (decide (v1 < (x0.length : Int)))
 ((idx x0 v1).bind fun v2 => (i_isPoint v2 (50 : Int)).bind fun v3 => cond (!v3)
 (some (.inr (.inr (([] : List (List Int)), false))))
 (some (.inl (IntKind.i64.wrap (v1 + (1 : Int))))))
 (some (.inr (.inl ())))
noncomputable def i_HullOf_s19 (v9 : List (List Int) × List (List Int) × Int) (v11 : List Int) (v12 : List (List Int)) : Option ((List (List Int)) ⊕ (List (List Int))) :=
 cond (decide ((v12.length : Int) ≥ (IntKind.i64.wrap ((v9.2.1.length : Int) + (2 : Int)))))
 ((inIdx v12.length (IntKind.i64.wrap ((v12.length : Int) - (2 : Int)))).bind fun _ => (idx v12 (((IntKind.i64.wrap ((v12.length : Int) - (2 : Int)))).toNat : Int)).bind fun v13 => (inIdx v12.length (IntKind.i64.wrap ((v12.length : Int) - (1 : Int)))).bind fun _ => (idx v12 (((IntKind.i64.wrap ((v12.length : Int) - (1 : Int)))).toNat : Int)).bind fun v14 => (i_turn v13 v14 v11).bind fun v15 => cond (decide (v15 ≤ (0 : Int)))
 ((subl v12 0 (IntKind.i64.wrap ((v12.length : Int) - (1 : Int)))).bind fun v16 => some (.inl v16))
 (some (.inr v12)))
 (some (.inr v12))
noncomputable def i_HullOf_s17 (v9 : List (List Int) × List (List Int) × Int) (v10 : List (List Int) × Int) : Option ((List (List Int) × Int) ⊕ (List (List Int))) :=
 cond (decide (v10.2 < (v9.1.length : Int)))
 ((idx v9.1 v10.2).bind fun v11 => (iter (i_HullOf_s19 v9 v11) v10.1).bind fun v17 => (i_copyInts v11).bind fun v18 => (appD 24 v17 ([v18] : List (List Int))).bind fun v19 => some (.inl (v19, (IntKind.i64.wrap (v10.2 + (1 : Int))))))
 (some (.inr v10.1))
noncomputable def i_HullOf_s13 (v9 : List (List Int) × List (List Int) × Int) : Option ((List (List Int) × List (List Int) × Int) ⊕ (List (List Int))) :=
 cond (decide (v9.2.2 < (2 : Int)))
 ((iter (i_HullOf_s17 v9) (v9.2.1, (0 : Int))).bind fun v20 => (subl v20 0 (if (IntKind.i64.wrap ((v20.length : Int) - (1 : Int))) > (0 : Int) then (IntKind.i64.wrap ((v20.length : Int) - (1 : Int))) else (0 : Int))).bind fun v21 => (g_slices_Reverse v9.1).bind fun v22 => some (.inl (v22.2.1, (v21, (IntKind.i64.wrap (v9.2.2 + (1 : Int)))))))
 (some (.inr v9.2.1))
noncomputable def i_HullOf (x0 : List (List Int)) : Option (List (List Int) × Bool) :=
 cond (decide ((x0.length : Int) > (200 : Int)))
 (some (([] : List (List Int)), false))
 ((iter (i_HullOf_s4 x0) (0 : Int)).bind fun v4 => match v4 with
 | .inl v5 => ((i_copyPoints x0).bind fun v7 => (g_slices_SortFunc v7).bind fun v8 => (iter (i_HullOf_s13) (v8.2.1, (([] : List (List Int)), (0 : Int)))).bind fun v23 => (i_IsPolygon v23).bind fun v24 => cond (!v24)
 (some (([] : List (List Int)), false))
 (some (v23, true)))
 | .inr v6 => (some (v6.1, v6.2)))
noncomputable def e_i_HullOf : CallE := ⟨36, [.d false (.list (.list (.int .i64)))], [.l (.o true 25 (.list (.int .i64))), .l (.d false .bool)], fun x => i_HullOf x⟩
noncomputable def c_i_HullOf : Ctx := ⟨Try.prog, TT, [e_i_isPoint, e_i_copyPoints, e_g_slices_SortFunc, e_i_turn, e_i_copyInts, e_g_slices_Reverse, e_i_IsPolygon], [⟨4, [(17, .l (.d false (.int .i64)))], some (0, []), some [(2, .l (.o true 25 (.list (.int .i64)))), (3, .l (.d false .bool))], false⟩, ⟨13, [(6, .l (.o true 25 (.list (.int .i64)))), (7, .l (.o true 25 (.list (.int .i64)))), (8, .l (.d false (.int .i64)))], some (2, [(7, .l (.o true 25 (.list (.int .i64))))]), none, false⟩, ⟨17, [(7, .l (.o true 25 (.list (.int .i64)))), (37, .l (.d false (.int .i64)))], some (4, [(7, .l (.o true 25 (.list (.int .i64))))]), none, true⟩, ⟨19, [(7, .l (.o true 25 (.list (.int .i64))))], some (6, [(7, .l (.o true 25 (.list (.int .i64))))]), none, false⟩], [], [], [], []⟩
theorem k_i_HullOf (x : PMs.den e_i_HullOf.ps) : funK c_i_HullOf Try.f36 e_i_HullOf.ps e_i_HullOf.rs x = e_i_HullOf.F x := by kernel_rfl
theorem o_i_HullOf {D : Prop} : FnOk Try.prog e_i_HullOf.f ∧ Ctr D Try.prog e_i_HullOf := mkCtr (C := c_i_HullOf) m_ (⟨o_i_isPoint, o_i_copyPoints, o_g_slices_SortFunc, o_i_turn, o_i_copyInts, o_g_slices_Reverse, o_i_IsPolygon, trivial⟩) Try.func36 (by kernel_rfl) k_i_HullOf
/-! loop.example/g00959/impl.WholeHull -/
noncomputable def i_WholeHull (x0 : Int × (List ((List Int) × Int))) : Option (List (List Int) × Bool) :=
(i_IsRegion (x0.1, x0.2)).bind fun v1 => cond (!v1)
 (some (([] : List (List Int)), false))
 (cond (x0.1 != (2 : Int))
 (some (([] : List (List Int)), false))
 ((i_PointsIn (x0.1, x0.2)).bind fun v2 => (i_HullOf v2).bind fun v3 => some (v3.1, v3.2)))
noncomputable def e_i_WholeHull : CallE := ⟨20, [.d false (.prod (.int .i64) (.list (.prod (.list (.int .i64)) (.int .i64))))], [.l (.o true 25 (.list (.int .i64))), .l (.d false .bool)], fun x => i_WholeHull x⟩
noncomputable def c_i_WholeHull : Ctx := ⟨Try.prog, TT, [e_i_IsRegion, e_i_PointsIn, e_i_HullOf], [], [], [], [], []⟩
theorem k_i_WholeHull (x : PMs.den e_i_WholeHull.ps) : funK c_i_WholeHull Try.f20 e_i_WholeHull.ps e_i_WholeHull.rs x = e_i_WholeHull.F x := by kernel_rfl
theorem o_i_WholeHull {D : Prop} : FnOk Try.prog e_i_WholeHull.f ∧ Ctr D Try.prog e_i_WholeHull := mkCtr (C := c_i_WholeHull) m_ (⟨o_i_IsRegion, o_i_PointsIn, o_i_HullOf, trivial⟩) Try.func20 (by kernel_rfl) k_i_WholeHull
/-! loop.example/g00959/impl.BeforeVector -/
noncomputable def i_BeforeVector (x0 : List Int) (x1 : List Int) : Option (Bool) :=
(i_IsVector x0).bind fun v1 => cond v1
 ((i_IsVector x1).bind fun v2 => cond v2
 (cond ((x0.length : Int) == (x1.length : Int))
 ((g_slices_Compare x0 x1).bind fun v3 => some (decide (v3 < (0 : Int))))
 (some false))
 (some false))
 (some false)
noncomputable def e_i_BeforeVector : CallE := ⟨23, [.d false (.list (.int .i64)), .d false (.list (.int .i64))], [.l (.d false .bool)], fun x => i_BeforeVector x.1 x.2⟩
noncomputable def c_i_BeforeVector : Ctx := ⟨Try.prog, TT, [e_i_IsVector, e_g_slices_Compare], [], [], [], [], []⟩
theorem k_i_BeforeVector (x : PMs.den e_i_BeforeVector.ps) : funK c_i_BeforeVector Try.f23 e_i_BeforeVector.ps e_i_BeforeVector.rs x = e_i_BeforeVector.F x := by kernel_rfl
theorem o_i_BeforeVector {D : Prop} : FnOk Try.prog e_i_BeforeVector.f ∧ Ctr D Try.prog e_i_BeforeVector := mkCtr (C := c_i_BeforeVector) m_ (⟨o_i_IsVector, o_g_slices_Compare, trivial⟩) Try.func23 (by kernel_rfl) k_i_BeforeVector
/-! loop.example/g00959/impl.BestCorner -/
def i_BestCorner_at (v1 : List (List Int)) (is : List Nat) : Option (List Int) :=
 match is with
| [i] => (v1[i]?).bind fun q => some q
| _ => none
noncomputable def i_BestCorner_s6 (x1 : List Int) (v1 : List (List Int)) (s : Int × List Nat) : Option ((Int × List Nat) ⊕ List Nat) :=
 cond (decide (s.1 < (v1.length : Int))) ((inIdx v1.length s.1).bind fun _ => if s.1.toNat < v1.length then
 ((((v1[s.1.toNat]?).bind fun q => some q).bind fun b => some (x1, b)).bind fun a => (i_dot a.1 a.2).bind fun r1 =>
 (((i_BestCorner_at v1 s.2).bind fun b => some (x1, b)).bind fun a => (i_dot a.1 a.2).bind fun r2 =>
 cond (decide (r1 > r2)) (some (.inl (IntKind.i64.wrap (s.1 + 1), [s.1.toNat])))
  (cond (r1 == r2) ((((v1[s.1.toNat]?).bind fun q => some q).bind fun a => (i_BestCorner_at v1 s.2).bind fun b => some (a, b)).bind fun a => (i_BeforeVector a.1 a.2).bind fun r3 => cond r3 (some (.inl (IntKind.i64.wrap (s.1 + 1), [s.1.toNat]))) (some (.inl (IntKind.i64.wrap (s.1 + 1), s.2)))) (some (.inl (IntKind.i64.wrap (s.1 + 1), s.2)))))) else none) (some (.inr s.2))
noncomputable def i_BestCorner (x0 : Int × (List ((List Int) × Int))) (x1 : List Int) : Option (List Int × Bool) :=
(i_WholeHull x0).bind fun v1 => cond (!v1.2) (some ([], false)) ((i_IsVector x1).bind fun v2 => cond (!v2) (some ([], false)) (cond ((x1.length : Int) != 2) (some ([], false))
 ((inIdx v1.1.length 0).bind fun _ => if (0 : Int).toNat < v1.1.length then (iter (i_BestCorner_s6 x1 v1.1) (0, [0])).bind fun v7 => (match v7 with | [i] => (v1.1[i]?).bind fun q => some (q, true) | _ => none) else none)))
noncomputable def e_i_BestCorner : CallE := ⟨8, [.d false (.prod (.int .i64) (.list (.prod (.list (.int .i64)) (.int .i64)))), .d false (.list (.int .i64))], [.l (.o true 3 (.int .i64)), .l (.d false .bool)], fun x => i_BestCorner x.1 x.2⟩
noncomputable def c_i_BestCorner : Ctx := ⟨Try.prog, TT, [e_i_WholeHull, e_i_IsVector, e_i_dot, e_i_BeforeVector], [], [], [], [], []⟩
theorem k_i_BestCorner (x : PMs.den e_i_BestCorner.ps) : funU c_i_BestCorner [⟨6, 0, 35⟩] 3 8 6 4 Try.f8 e_i_BestCorner.ps x = e_i_BestCorner.F x := by kernel_rfl
theorem o_i_BestCorner {D : Prop} : FnOk Try.prog e_i_BestCorner.f ∧ Ctr D Try.prog e_i_BestCorner := mkCtrU (C := c_i_BestCorner) 4 5 rfl m_ (⟨o_i_WholeHull, o_i_IsVector, o_i_dot, o_i_BeforeVector, trivial⟩) Try.func8 (by kernel_rfl) (by kernel_rfl) rfl k_i_BestCorner
/-! loop.example/g00959/laws.eqIntS -/
noncomputable def w_eqIntS_s4 (x0 : List Int) (x1 : List Int) (v1 : Int) : Option ((Int) ⊕ ((Unit) ⊕ (Bool))) :=
 cond (decide (v1 < (x0.length : Int)))
 ((idx x0 v1).bind fun v2 => (idx x1 v1).bind fun v3 => cond (v2 != v3)
 (some (.inr (.inr false)))
 (some (.inl (IntKind.i64.wrap (v1 + (1 : Int))))))
 (some (.inr (.inl ())))
noncomputable def w_eqIntS (x0 : List Int) (x1 : List Int) : Option (Bool) :=
 cond ((x0.length : Int) != (x1.length : Int))
 (some false)
 ((iter (w_eqIntS_s4 x0 x1) (0 : Int)).bind fun v4 => match v4 with
 | .inl v5 => (some true)
 | .inr v6 => (some v6))
noncomputable def e_w_eqIntS : CallE := ⟨9, [.d false (.list (.int .i64)), .d false (.list (.int .i64))], [.l (.d false .bool)], fun x => w_eqIntS x.1 x.2⟩
noncomputable def c_w_eqIntS : Ctx := ⟨Try.prog, TT, [], [⟨4, [(5, .l (.d false (.int .i64)))], some (0, []), some [(4, .l (.d false .bool))], false⟩], [], [], [], []⟩
theorem k_w_eqIntS (x : PMs.den e_w_eqIntS.ps) : funK c_w_eqIntS Try.f9 e_w_eqIntS.ps e_w_eqIntS.rs x = e_w_eqIntS.F x := by kernel_rfl
theorem o_w_eqIntS {D : Prop} : FnOk Try.prog e_w_eqIntS.f ∧ Ctr D Try.prog e_w_eqIntS := mkCtr (C := c_w_eqIntS) m_ (trivial) Try.func9 (by kernel_rfl) k_w_eqIntS
/-! loop.example/g00959/laws.eqHalf -/
noncomputable def w_eqHalf (x0 : (List Int) × Int) (x1 : (List Int) × Int) : Option (Bool) :=
(w_eqIntS x0.1 x1.1).bind fun v1 => cond (!v1)
 (some false)
 (cond (x0.2 != x1.2)
 (some false)
 (some true))
noncomputable def e_w_eqHalf : CallE := ⟨41, [.d false (.prod (.list (.int .i64)) (.int .i64)), .d false (.prod (.list (.int .i64)) (.int .i64))], [.l (.d false .bool)], fun x => w_eqHalf x.1 x.2⟩
noncomputable def c_w_eqHalf : Ctx := ⟨Try.prog, TT, [e_w_eqIntS], [], [], [], [], []⟩
theorem k_w_eqHalf (x : PMs.den e_w_eqHalf.ps) : funK c_w_eqHalf Try.f41 e_w_eqHalf.ps e_w_eqHalf.rs x = e_w_eqHalf.F x := by kernel_rfl
theorem o_w_eqHalf {D : Prop} : FnOk Try.prog e_w_eqHalf.f ∧ Ctr D Try.prog e_w_eqHalf := mkCtr (C := c_w_eqHalf) m_ (⟨o_w_eqIntS, trivial⟩) Try.func41 (by kernel_rfl) k_w_eqHalf
/-! loop.example/g00959/laws.eqHalfS -/
noncomputable def w_eqHalfS_s4 (x0 : List ((List Int) × Int)) (x1 : List ((List Int) × Int)) (v1 : Int) : Option ((Int) ⊕ ((Unit) ⊕ (Bool))) :=
 cond (decide (v1 < (x0.length : Int)))
 ((idx x0 v1).bind fun v2 => (idx x1 v1).bind fun v3 => (w_eqHalf v2 v3).bind fun v4 => cond (!v4)
 (some (.inr (.inr false)))
 (some (.inl (IntKind.i64.wrap (v1 + (1 : Int))))))
 (some (.inr (.inl ())))
noncomputable def w_eqHalfS (x0 : List ((List Int) × Int)) (x1 : List ((List Int) × Int)) : Option (Bool) :=
 cond ((x0.length : Int) != (x1.length : Int))
 (some false)
 ((iter (w_eqHalfS_s4 x0 x1) (0 : Int)).bind fun v5 => match v5 with
 | .inl v6 => (some true)
 | .inr v7 => (some v7))
noncomputable def e_w_eqHalfS : CallE := ⟨24, [.d false (.list (.prod (.list (.int .i64)) (.int .i64))), .d false (.list (.prod (.list (.int .i64)) (.int .i64)))], [.l (.d false .bool)], fun x => w_eqHalfS x.1 x.2⟩
noncomputable def c_w_eqHalfS : Ctx := ⟨Try.prog, TT, [e_w_eqHalf], [⟨4, [(5, .l (.d false (.int .i64)))], some (0, []), some [(4, .l (.d false .bool))], false⟩], [], [], [], []⟩
theorem k_w_eqHalfS (x : PMs.den e_w_eqHalfS.ps) : funK c_w_eqHalfS Try.f24 e_w_eqHalfS.ps e_w_eqHalfS.rs x = e_w_eqHalfS.F x := by kernel_rfl
theorem o_w_eqHalfS {D : Prop} : FnOk Try.prog e_w_eqHalfS.f ∧ Ctr D Try.prog e_w_eqHalfS := mkCtr (C := c_w_eqHalfS) m_ (⟨o_w_eqHalf, trivial⟩) Try.func24 (by kernel_rfl) k_w_eqHalfS
/-! loop.example/g00959/laws.eqRegion -/
noncomputable def w_eqRegion (x0 : Int × (List ((List Int) × Int))) (x1 : Int × (List ((List Int) × Int))) : Option (Bool) :=
 cond (x0.1 != x1.1)
 (some false)
 ((w_eqHalfS x0.2 x1.2).bind fun v1 => cond (!v1)
 (some false)
 (some true))
noncomputable def e_w_eqRegion : CallE := ⟨10, [.d false (.prod (.int .i64) (.list (.prod (.list (.int .i64)) (.int .i64)))), .d false (.prod (.int .i64) (.list (.prod (.list (.int .i64)) (.int .i64))))], [.l (.d false .bool)], fun x => w_eqRegion x.1 x.2⟩
noncomputable def c_w_eqRegion : Ctx := ⟨Try.prog, TT, [e_w_eqHalfS], [], [], [], [], []⟩
theorem k_w_eqRegion (x : PMs.den e_w_eqRegion.ps) : funK c_w_eqRegion Try.f10 e_w_eqRegion.ps e_w_eqRegion.rs x = e_w_eqRegion.F x := by kernel_rfl
theorem o_w_eqRegion {D : Prop} : FnOk Try.prog e_w_eqRegion.f ∧ Ctr D Try.prog e_w_eqRegion := mkCtr (C := c_w_eqRegion) m_ (⟨o_w_eqHalfS, trivial⟩) Try.func10 (by kernel_rfl) k_w_eqRegion
/-! loop.example/g00959/laws.markIntS, deep -/
noncomputable def d_markIntS_s (s : Int × Int × List Int) : Option ((Int × Int × List Int) ⊕ (Int × List Int)) :=
 cond (decide (s.2.1 < (s.2.2.length : Int)))
 ((inIdx s.2.2.length s.2.1).bind fun _ => (s.2.2[s.2.1.toNat]?).bind fun v1 => (setInt (.int .i64) v1 0 s.1).bind fun v2 => some (.inl ((IntKind.i64.wrap (s.1 + (1 : Int))), (IntKind.i64.wrap (s.2.1 + (1 : Int))), (s.2.2.set s.2.1.toNat v2))))
 (some (.inr (s.1, s.2.2)))
noncomputable def d_markIntS (x0 : List Int) (x1 : Int) : Option (List Int × Int) :=
(iter d_markIntS_s (x1, (0 : Int), x0)).bind fun v3 => some (v3.2, v3.1)
noncomputable def i_d_markIntS : InnerE := ⟨12, (.int .i64), fun y n => d_markIntS y n⟩
noncomputable def c_d_markIntS : Ctx := ⟨Try.prog, TT, [], [], [], [], [], []⟩
theorem k_d_markIntS (y : List Int) (n : Int) : funM c_d_markIntS [] (.int .i64) ⟨0, 1, 5, 0⟩ Try.f12 y n = i_d_markIntS.F y n := by kernel_rfl
theorem o_d_markIntS : FnOk Try.prog i_d_markIntS.f ∧ ∀ e, MarkOk Try.prog (i_d_markIntS.mark e) := mkMark (C := c_d_markIntS) (S := []) (L := ⟨0, 1, 5, 0⟩) (trivial) Try.func12 (by kernel_rfl) k_d_markIntS
/-! loop.example/g00959/laws.markHalfS, deep -/
noncomputable def d_markHalfS_s (s : Int × Int × List ((List Int) × Int)) : Option ((Int × Int × List ((List Int) × Int)) ⊕ (Int × List ((List Int) × Int))) :=
 cond (decide (s.2.1 < (s.2.2.length : Int)))
 ((inIdx s.2.2.length s.2.1).bind fun _ => if s.2.1.toNat < s.2.2.length ∧ 0 < Ty.wid (.prod (.list (.int .i64)) (.int .i64)) then ((s.2.2[s.2.1.toNat]?).bind fun v1 => (updAt i_d_markIntS (.prod (.list (.int .i64)) (.int .i64)) v1 0 s.1).bind fun v2 => (inIdx (s.2.2.set s.2.1.toNat v2.1).length s.2.1).bind fun _ => ((s.2.2.set s.2.1.toNat v2.1)[s.2.1.toNat]?).bind fun v3 => (setInt (.prod (.list (.int .i64)) (.int .i64)) v3 1 v2.2).bind fun v4 => some (.inl ((IntKind.i64.wrap (v2.2 + (1 : Int))), (IntKind.i64.wrap (s.2.1 + (1 : Int))), ((s.2.2.set s.2.1.toNat v2.1).set s.2.1.toNat v4)))) else none)
 (some (.inr (s.1, s.2.2)))
noncomputable def d_markHalfS (x0 : List ((List Int) × Int)) (x1 : Int) : Option (List ((List Int) × Int) × Int) :=
(iter d_markHalfS_s (x1, (0 : Int), x0)).bind fun v5 => some (v5.2, v5.1)
noncomputable def i_d_markHalfS : InnerE := ⟨25, (.prod (.list (.int .i64)) (.int .i64)), fun y n => d_markHalfS y n⟩
noncomputable def c_d_markHalfS : Ctx := ⟨Try.prog, TT, [], [], [], [], [], []⟩
theorem k_d_markHalfS (y : List ((List Int) × Int)) (n : Int) : funM c_d_markHalfS [i_d_markIntS] (.prod (.list (.int .i64)) (.int .i64)) ⟨0, 1, 5, 0⟩ Try.f25 y n = i_d_markHalfS.F y n := by kernel_rfl
theorem o_d_markHalfS : FnOk Try.prog i_d_markHalfS.f ∧ ∀ e, MarkOk Try.prog (i_d_markHalfS.mark e) := mkMark (C := c_d_markHalfS) (S := [i_d_markIntS]) (L := ⟨0, 1, 5, 0⟩) (⟨o_d_markIntS, trivial⟩) Try.func25 (by kernel_rfl) k_d_markHalfS
/-! loop.example/g00959/laws.markRegion, deep -/
noncomputable def d_markRegion (x0 : List ((List Int) × Int)) (x1 : Int) : Option (List ((List Int) × Int) × Int) := (d_markHalfS x0 x1).bind fun r => some (r.1, r.2)
noncomputable def f_d_markRegion : FieldE := ⟨11, 2, 1, 57, (.prod (.list (.int .i64)) (.int .i64)), fun y n => d_markRegion y n⟩
noncomputable def c_d_markRegion : Ctx := ⟨Try.prog, TT, [], [], [], [], [], []⟩
theorem k_d_markRegion (y : List ((List Int) × Int)) (n : Int) : funW c_d_markRegion [i_d_markHalfS.mark 57] 1 57 (.prod (.list (.int .i64)) (.int .i64)) Try.f11 y n = f_d_markRegion.F y n := by kernel_rfl
theorem o_d_markRegion : FnOk Try.prog f_d_markRegion.f ∧ MarkOk Try.prog f_d_markRegion.mark := mkField (C := c_d_markRegion) (S := [i_d_markHalfS.mark 57]) (m := f_d_markRegion) (⟨⟨o_d_markHalfS.1, o_d_markHalfS.2 57⟩, trivial⟩) Try.func11 (by kernel_rfl) k_d_markRegion
/-! loop.example/g00959/laws.markIntS -/
noncomputable def w_markIntS_s2 (v1 : List Int × Int × Int) : Option ((List Int × Int × Int) ⊕ (List Int × Int)) :=
 cond (decide (v1.2.2 < (v1.1.length : Int)))
 ((inIdx v1.1.length v1.2.2).bind fun _ => (inIdx v1.1.length ((v1.2.2).toNat : Int)).bind fun _ => some (.inl ((v1.1.set ((v1.2.2).toNat) v1.2.1), ((IntKind.i64.wrap (v1.2.1 + (1 : Int))), (IntKind.i64.wrap (v1.2.2 + (1 : Int)))))))
 (some (.inr (v1.1, v1.2.1)))
noncomputable def w_markIntS (x0 : List Int) (x1 : Int) : Option ((Int) × (List Int) × Unit) :=
(iter (w_markIntS_s2) (x0, (x1, (0 : Int)))).bind fun v2 => some (v2.2, (v2.1, ()))
noncomputable def e_w_markIntS : CallE := ⟨12, [.io true 3 (.int .i64), .d false (.int .i64)], [.l (.d false (.int .i64))], fun x => w_markIntS x.1 x.2⟩
noncomputable def c_w_markIntS : Ctx := ⟨Try.prog, TT, [], [⟨2, [(0, .l (.o true 3 (.int .i64))), (1, .l (.d false (.int .i64))), (5, .l (.d false (.int .i64)))], some (0, [(0, .l (.o true 3 (.int .i64))), (1, .l (.d false (.int .i64)))]), none, false⟩], [], [], [], []⟩
theorem k_w_markIntS (x : PMs.den e_w_markIntS.ps) : funK c_w_markIntS Try.f12 e_w_markIntS.ps e_w_markIntS.rs x = e_w_markIntS.F x := by kernel_rfl
theorem o_w_markIntS {D : Prop} : FnOk Try.prog e_w_markIntS.f ∧ Ctr D Try.prog e_w_markIntS := mkCtr (C := c_w_markIntS) m_ (trivial) Try.func12 (by kernel_rfl) k_w_markIntS
/-! loop.example/g00959/laws.heldIntS -/
noncomputable def w_heldIntS_s2 (x0 : List Int) (v1 : Int × Int) : Option ((Int × Int) ⊕ ((Int) ⊕ (Int))) :=
 cond (decide (v1.2 < (x0.length : Int)))
 ((idx x0 v1.2).bind fun v2 => cond (v2 != v1.1)
 (some (.inr (.inr (-1 : Int))))
 (some (.inl ((IntKind.i64.wrap (v1.1 + (1 : Int))), (IntKind.i64.wrap (v1.2 + (1 : Int)))))))
 (some (.inr (.inl v1.1)))
noncomputable def w_heldIntS (x0 : List Int) (x1 : Int) : Option (Int) :=
(iter (w_heldIntS_s2 x0) (x1, (0 : Int))).bind fun v3 => match v3 with
 | .inl v4 => (some v4)
 | .inr v5 => (some v5)
noncomputable def e_w_heldIntS : CallE := ⟨13, [.d false (.list (.int .i64)), .d false (.int .i64)], [.l (.d false (.int .i64))], fun x => w_heldIntS x.1 x.2⟩
noncomputable def c_w_heldIntS : Ctx := ⟨Try.prog, TT, [], [⟨2, [(1, .l (.d false (.int .i64))), (5, .l (.d false (.int .i64)))], some (0, [(1, .l (.d false (.int .i64)))]), some [(4, .l (.d false (.int .i64)))], false⟩], [], [], [], []⟩
theorem k_w_heldIntS (x : PMs.den e_w_heldIntS.ps) : funK c_w_heldIntS Try.f13 e_w_heldIntS.ps e_w_heldIntS.rs x = e_w_heldIntS.F x := by kernel_rfl
theorem o_w_heldIntS {D : Prop} : FnOk Try.prog e_w_heldIntS.f ∧ Ctr D Try.prog e_w_heldIntS := mkCtr (C := c_w_heldIntS) m_ (trivial) Try.func13 (by kernel_rfl) k_w_heldIntS
/-! loop.example/g00959/laws.FnExactBestCorner -/
noncomputable def w_FnExactBestCorner (x0 : Int × (List ((List Int) × Int))) (x1 : List Int) : Option (Bool) :=
 cond (decide ((x1.length : Int) > (1048576 : Int)))
 (some true)
 ((w_szRegion (x0.1, x0.2) (1048576 : Int)).bind fun v1 => cond (decide (v1 < (0 : Int)))
 (some true)
 ((w_toRegion (x0.1, x0.2)).bind fun v2 => (w_toIntS x1).bind fun v3 => (s_BestCorner (v2.1, v2.2) v3).bind fun v4 => (w_toRegion (x0.1, x0.2)).bind fun v5 => (w_toIntS x1).bind fun v6 => (i_BestCorner (v5.1, v5.2) v6).bind fun v7 => (w_eqIntS v7.1 v4.1).bind fun v8 => cond (!v8)
 (some false)
 (cond (!(v7.2 == v4.2))
 (some false)
 ((w_toRegion (x0.1, x0.2)).bind fun v9 => (w_eqRegion (v5.1, v5.2) (v9.1, v9.2)).bind fun v10 => cond (!v10)
 (some false)
 ((w_toIntS x1).bind fun v11 => (w_eqIntS v6 v11).bind fun v12 => cond (!v12)
 (some false)
 ((d_markRegion v5.2 (1 : Int)).bind fun v13 => (w_markIntS v6 v13.2).bind fun v14 => cond (decide (v14.1 < (0 : Int)))
 (some false)
 ((w_eqIntS v7.1 v4.1).bind fun v15 => cond (!v15)
 (some false)
 (cond (!(v7.2 == v4.2))
 (some false)
 ((w_markIntS v7.1 (1 : Int)).bind fun v16 => (w_heldIntS v16.2.1 (1 : Int)).bind fun v17 => cond (decide (v17 < (0 : Int)))
 (some false)
 (cond (v17 != v16.1)
 (some false)
 ((w_toRegion (x0.1, x0.2)).bind fun v18 => (w_toIntS x1).bind fun v19 => (i_BestCorner (v18.1, v18.2) v19).bind fun v20 => (w_eqIntS v20.1 v4.1).bind fun v21 => cond (!v21)
 (some false)
 (cond (!(v20.2 == v4.2))
 (some false)
 ((w_heldIntS v16.2.1 (1 : Int)).bind fun v22 => cond (decide (v22 < (0 : Int)))
 (some false)
 (cond (v22 != v16.1)
 (some false)
 (some true)))))))))))))))
noncomputable def e_w_FnExactBestCorner : CallE := ⟨3, [.d false (.prod (.int .i64) (.list (.prod (.list (.int .i64)) (.int .i64)))), .d false (.list (.int .i64))], [.l (.d false .bool)], fun x => w_FnExactBestCorner x.1 x.2⟩
noncomputable def c_w_FnExactBestCorner : Ctx := ⟨Try.prog, TT, [e_w_szRegion, e_w_toRegion, e_w_toIntS, e_s_BestCorner, e_i_BestCorner, e_w_eqIntS, e_w_eqRegion, e_w_markIntS, e_w_heldIntS], [], [], [], [], []⟩
noncomputable def m_w_FnExactBestCorner : List MarkE := [f_d_markRegion.mark]
theorem k_w_FnExactBestCorner (x : PMs.den e_w_FnExactBestCorner.ps) : funB c_w_FnExactBestCorner m_w_FnExactBestCorner 8 8 Try.f3 e_w_FnExactBestCorner.ps x = e_w_FnExactBestCorner.F x := by kernel_rfl
theorem o_w_FnExactBestCorner {D : Prop} : FnOk Try.prog e_w_FnExactBestCorner.f ∧ Ctr D Try.prog e_w_FnExactBestCorner := mkLawB (C := c_w_FnExactBestCorner) (M := m_w_FnExactBestCorner) 8 8 4 m_ (⟨o_w_szRegion, o_w_toRegion, o_w_toIntS, o_s_BestCorner, o_i_BestCorner, o_w_eqIntS, o_w_eqRegion, o_w_markIntS, o_w_heldIntS, trivial⟩) (⟨o_d_markRegion, trivial⟩) Try.func3 (by kernel_rfl) (by kernel_rfl) rfl k_w_FnExactBestCorner
end Go.Proofs.Ytgmlnffeiffaaaa
