/- Plain functions. -/
import Derived.Test.YtooaolakcpjjkaaProg
import Derived.Test.YtooaolakcpjjkaaEng33
import Derived.KernelRfl
namespace Go.Proofs.Ytooaolakcpjjkaa
open Go Go.Proofs.Ytooaolakcpjjkaa.Eng
set_option linter.unusedVariables false
set_option maxRecDepth 100000
noncomputable def TT : List (TypeId × Ty) := [(3, (.int .i64)), (22, (.list (.int .i64))), (40, (.list (.list (.int .i64)))), (52, (.prod (.list (.int .i64)) (.int .i64))), (60, (.prod (.list (.int .i64)) (.int .i64)))]
theorem m_ : Try.prog.follows .mixedOrders = true := by kernel_rfl
/-! loop.example/g00959/laws.szIntS -/
noncomputable def w_szIntS (x0 : List Int) (x1 : Int) : Option (Int) :=
cond (decide ((IntKind.i64.wrap (x1 - (x0.length : Int))) < (0 : Int)))
 (some (-1 : Int))
 (some (IntKind.i64.wrap (x1 - (x0.length : Int))))
noncomputable def e_w_szIntS : CallE := ⟨66, [.d false (.list (.int .i64)), .d false (.int .i64)], [.l (.d false (.int .i64))], fun x => w_szIntS x.1 x.2⟩
noncomputable def c_w_szIntS : Ctx := ⟨Try.prog, TT, [], [], [], []⟩
theorem k_w_szIntS (x : PMs.den e_w_szIntS.ps) : funK c_w_szIntS Try.f66 e_w_szIntS.ps e_w_szIntS.rs x = e_w_szIntS.F x := by kernel_rfl
theorem o_w_szIntS : FnOk Try.prog e_w_szIntS.f ∧ Ctr Try.prog e_w_szIntS := mkCtr (C := c_w_szIntS) m_ (trivial) Try.func66 (by kernel_rfl) k_w_szIntS
/-! loop.example/g00959/laws.szCone -/
noncomputable def w_szCone (x0 : (List Int) × (List Int)) (x1 : Int) : Option (Int) :=
(w_szIntS x0.1 x1).bind fun v1 => cond (decide (v1 < (0 : Int)))
 (some (-1 : Int))
 ((w_szIntS x0.2 v1).bind fun v2 => cond (decide (v2 < (0 : Int)))
 (some (-1 : Int))
 (some v2))
noncomputable def e_w_szCone : CallE := ⟨17, [.d false (.prod (.list (.int .i64)) (.list (.int .i64))), .d false (.int .i64)], [.l (.d false (.int .i64))], fun x => w_szCone x.1 x.2⟩
noncomputable def c_w_szCone : Ctx := ⟨Try.prog, TT, [e_w_szIntS], [], [], []⟩
theorem k_w_szCone (x : PMs.den e_w_szCone.ps) : funK c_w_szCone Try.f17 e_w_szCone.ps e_w_szCone.rs x = e_w_szCone.F x := by kernel_rfl
theorem o_w_szCone : FnOk Try.prog e_w_szCone.f ∧ Ctr Try.prog e_w_szCone := mkCtr (C := c_w_szCone) m_ (⟨o_w_szIntS, trivial⟩) Try.func17 (by kernel_rfl) k_w_szCone
/-! loop.example/g00959/laws.toIntS -/
noncomputable def w_toIntS_s3 (x0 : List Int) (v2 : List Int × Int) : Option ((List Int × Int) ⊕ (List Int)) :=
cond (decide (v2.2 < (x0.length : Int)))
 ((idx x0 v2.2).bind fun v3 => (inIdx v2.1.length v2.2).bind fun _ => (inIdx v2.1.length ((v2.2).toNat : Int)).bind fun _ => some (.inl ((v2.1.set ((v2.2).toNat) v3), (IntKind.i64.wrap (v2.2 + (1 : Int))))))
 (some (.inr v2.1))
noncomputable def w_toIntS (x0 : List Int) : Option (List Int) :=
(mkD 8 (x0.length : Int) (0 : Int)).bind fun v1 => (iter (w_toIntS_s3 x0) (v1, (0 : Int))).bind fun v4 => some v4
noncomputable def e_w_toIntS : CallE := ⟨20, [.d false (.list (.int .i64))], [.l (.o true 3 (.int .i64))], fun x => w_toIntS x⟩
noncomputable def c_w_toIntS : Ctx := ⟨Try.prog, TT, [], [⟨3, [(3, .l (.o true 3 (.int .i64))), (4, .l (.d false (.int .i64)))], some (0, [(3, .l (.o true 3 (.int .i64)))]), none⟩], [], []⟩
theorem k_w_toIntS (x : PMs.den e_w_toIntS.ps) : funK c_w_toIntS Try.f20 e_w_toIntS.ps e_w_toIntS.rs x = e_w_toIntS.F x := by kernel_rfl
theorem o_w_toIntS : FnOk Try.prog e_w_toIntS.f ∧ Ctr Try.prog e_w_toIntS := mkCtr (C := c_w_toIntS) m_ (trivial) Try.func20 (by kernel_rfl) k_w_toIntS
/-! loop.example/g00959/laws.toCone -/
noncomputable def w_toCone (x0 : (List Int) × (List Int)) : Option (List Int × List Int) :=
(w_toIntS x0.1).bind fun v1 => (w_toIntS x0.2).bind fun v2 => some (v1, v2)
noncomputable def e_w_toCone : CallE := ⟨19, [.d false (.prod (.list (.int .i64)) (.list (.int .i64)))], [.a [(.o true 3 (.int .i64)), (.o true 3 (.int .i64))]], fun x => w_toCone x⟩
noncomputable def c_w_toCone : Ctx := ⟨Try.prog, TT, [e_w_toIntS], [], [], []⟩
theorem k_w_toCone (x : PMs.den e_w_toCone.ps) : funK c_w_toCone Try.f19 e_w_toCone.ps e_w_toCone.rs x = e_w_toCone.F x := by kernel_rfl
theorem o_w_toCone : FnOk Try.prog e_w_toCone.f ∧ Ctr Try.prog e_w_toCone := mkCtr (C := c_w_toCone) m_ (⟨o_w_toIntS, trivial⟩) Try.func19 (by kernel_rfl) k_w_toCone
/-! loop.example/g00959/spec.l1In -/
noncomputable def s_l1In (x0 : Int) (x1 : Int) (x2 : Int) : Option (Bool) :=
cond (decide (x0 ≥ x1))
 (some (decide (x0 ≤ x2)))
 (some false)
noncomputable def e_s_l1In : CallE := ⟨141, [.d false (.int .i64), .d false (.int .i64), .d false (.int .i64)], [.l (.d false .bool)], fun x => s_l1In x.1 x.2.1 x.2.2⟩
noncomputable def c_s_l1In : Ctx := ⟨Try.prog, TT, [], [], [], []⟩
theorem k_s_l1In (x : PMs.den e_s_l1In.ps) : funK c_s_l1In Try.f141 e_s_l1In.ps e_s_l1In.rs x = e_s_l1In.F x := by kernel_rfl
theorem o_s_l1In : FnOk Try.prog e_s_l1In.f ∧ Ctr Try.prog e_s_l1In := mkCtr (C := c_s_l1In) m_ (trivial) Try.func141 (by kernel_rfl) k_s_l1In
/-! loop.example/g00959/spec.l2Small -/
noncomputable def s_l2Small_s2 (x0 : List Int) (x1 : Int) (v1 : Int) : Option ((Int) ⊕ ((Unit) ⊕ (Bool))) :=
cond (decide (v1 < (x0.length : Int)))
 ((idx x0 v1).bind fun v2 => (s_l1In v2 (IntKind.i64.wrap (0 - x1)) x1).bind fun v3 => cond (!v3)
 (some (.inr (.inr false)))
 (some (.inl (IntKind.i64.wrap (v1 + (1 : Int))))))
 (some (.inr (.inl ())))
noncomputable def s_l2Small (x0 : List Int) (x1 : Int) : Option (Bool) :=
(iter (s_l2Small_s2 x0 x1) (0 : Int)).bind fun v4 => match v4 with
 | .inl v5 => (some true)
 | .inr v6 => (some v6)
noncomputable def e_s_l2Small : CallE := ⟨128, [.d false (.list (.int .i64)), .d false (.int .i64)], [.l (.d false .bool)], fun x => s_l2Small x.1 x.2⟩
noncomputable def c_s_l2Small : Ctx := ⟨Try.prog, TT, [e_s_l1In], [⟨2, [(5, .l (.d false (.int .i64)))], some (0, []), some [(4, .l (.d false .bool))]⟩], [], []⟩
theorem k_s_l2Small (x : PMs.den e_s_l2Small.ps) : funK c_s_l2Small Try.f128 e_s_l2Small.ps e_s_l2Small.rs x = e_s_l2Small.F x := by kernel_rfl
theorem o_s_l2Small : FnOk Try.prog e_s_l2Small.f ∧ Ctr Try.prog e_s_l2Small := mkCtr (C := c_s_l2Small) m_ (⟨o_s_l1In, trivial⟩) Try.func128 (by kernel_rfl) k_s_l2Small
/-! loop.example/g00959/spec.l1Max -/
noncomputable def s_l1Max (x0 : Int) (x1 : Int) : Option (Int) :=
cond (decide (x0 > x1))
 (some x0)
 (some x1)
noncomputable def e_s_l1Max : CallE := ⟨90, [.d false (.int .i64), .d false (.int .i64)], [.l (.d false (.int .i64))], fun x => s_l1Max x.1 x.2⟩
noncomputable def c_s_l1Max : Ctx := ⟨Try.prog, TT, [], [], [], []⟩
theorem k_s_l1Max (x : PMs.den e_s_l1Max.ps) : funK c_s_l1Max Try.f90 e_s_l1Max.ps e_s_l1Max.rs x = e_s_l1Max.F x := by kernel_rfl
theorem o_s_l1Max : FnOk Try.prog e_s_l1Max.f ∧ Ctr Try.prog e_s_l1Max := mkCtr (C := c_s_l1Max) m_ (trivial) Try.func90 (by kernel_rfl) k_s_l1Max
/-! loop.example/g00959/spec.l1Abs -/
noncomputable def s_l1Abs (x0 : Int) : Option (Int) :=
(s_l1Max x0 (IntKind.i64.wrap (0 - x0))).bind fun v1 => some v1
noncomputable def e_s_l1Abs : CallE := ⟨172, [.d false (.int .i64)], [.l (.d false (.int .i64))], fun x => s_l1Abs x⟩
noncomputable def c_s_l1Abs : Ctx := ⟨Try.prog, TT, [e_s_l1Max], [], [], []⟩
theorem k_s_l1Abs (x : PMs.den e_s_l1Abs.ps) : funK c_s_l1Abs Try.f172 e_s_l1Abs.ps e_s_l1Abs.rs x = e_s_l1Abs.F x := by kernel_rfl
theorem o_s_l1Abs : FnOk Try.prog e_s_l1Abs.f ∧ Ctr Try.prog e_s_l1Abs := mkCtr (C := c_s_l1Abs) m_ (⟨o_s_l1Max, trivial⟩) Try.func172 (by kernel_rfl) k_s_l1Abs
/-! loop.example/g00959/spec.l2Gcd -/
noncomputable def s_l2Gcd_s3 (v3 : Int × Int) : Option ((Int × Int) ⊕ (Int)) :=
cond (v3.2 != (0 : Int))
 ((remI .i64 v3.1 v3.2).bind fun v4 => some (.inl (v3.2, v4)))
 (some (.inr v3.1))
noncomputable def s_l2Gcd (x0 : Int) (x1 : Int) : Option (Int) :=
(s_l1Abs x0).bind fun v1 => (s_l1Abs x1).bind fun v2 => (iter (s_l2Gcd_s3) (v1, v2)).bind fun v5 => some v5
noncomputable def e_s_l2Gcd : CallE := ⟨166, [.d false (.int .i64), .d false (.int .i64)], [.l (.d false (.int .i64))], fun x => s_l2Gcd x.1 x.2⟩
noncomputable def c_s_l2Gcd : Ctx := ⟨Try.prog, TT, [e_s_l1Abs], [⟨3, [(0, .l (.d false (.int .i64))), (1, .l (.d false (.int .i64)))], some (0, [(0, .l (.d false (.int .i64)))]), none⟩], [], []⟩
theorem k_s_l2Gcd (x : PMs.den e_s_l2Gcd.ps) : funK c_s_l2Gcd Try.f166 e_s_l2Gcd.ps e_s_l2Gcd.rs x = e_s_l2Gcd.F x := by kernel_rfl
theorem o_s_l2Gcd : FnOk Try.prog e_s_l2Gcd.f ∧ Ctr Try.prog e_s_l2Gcd := mkCtr (C := c_s_l2Gcd) m_ (⟨o_s_l1Abs, trivial⟩) Try.func166 (by kernel_rfl) k_s_l2Gcd
/-! loop.example/g00959/spec.l2All -/
noncomputable def s_l2All_s3 (x0 : List Int) (v1 : Int × Int) : Option ((Int × Int) ⊕ (Int)) :=
cond (decide (v1.2 < (x0.length : Int)))
 ((idx x0 v1.2).bind fun v2 => (s_l2Gcd v1.1 v2).bind fun v3 => some (.inl (v3, (IntKind.i64.wrap (v1.2 + (1 : Int))))))
 (some (.inr v1.1))
noncomputable def s_l2All (x0 : List Int) : Option (Int) :=
(iter (s_l2All_s3 x0) ((0 : Int), (0 : Int))).bind fun v4 => some v4
noncomputable def e_s_l2All : CallE := ⟨146, [.d false (.list (.int .i64))], [.l (.d false (.int .i64))], fun x => s_l2All x⟩
noncomputable def c_s_l2All : Ctx := ⟨Try.prog, TT, [e_s_l2Gcd], [⟨3, [(3, .l (.d false (.int .i64))), (4, .l (.d false (.int .i64)))], some (0, [(3, .l (.d false (.int .i64)))]), none⟩], [], []⟩
theorem k_s_l2All (x : PMs.den e_s_l2All.ps) : funK c_s_l2All Try.f146 e_s_l2All.ps e_s_l2All.rs x = e_s_l2All.F x := by kernel_rfl
theorem o_s_l2All : FnOk Try.prog e_s_l2All.f ∧ Ctr Try.prog e_s_l2All := mkCtr (C := c_s_l2All) m_ (⟨o_s_l2Gcd, trivial⟩) Try.func146 (by kernel_rfl) k_s_l2All
/-! loop.example/g00959/spec.l9Ray -/
noncomputable def s_l9Ray (x0 : List Int) : Option (Bool) :=
cond ((x0.length : Int) == (2 : Int))
 ((s_l2Small x0 (30 : Int)).bind fun v1 => cond v1
 ((s_l2All x0).bind fun v2 => some (v2 == (1 : Int)))
 (some false))
 (some false)
noncomputable def e_s_l9Ray : CallE := ⟨126, [.d false (.list (.int .i64))], [.l (.d false .bool)], fun x => s_l9Ray x⟩
noncomputable def c_s_l9Ray : Ctx := ⟨Try.prog, TT, [e_s_l2Small, e_s_l2All], [], [], []⟩
theorem k_s_l9Ray (x : PMs.den e_s_l9Ray.ps) : funK c_s_l9Ray Try.f126 e_s_l9Ray.ps e_s_l9Ray.rs x = e_s_l9Ray.F x := by kernel_rfl
theorem o_s_l9Ray : FnOk Try.prog e_s_l9Ray.f ∧ Ctr Try.prog e_s_l9Ray := mkCtr (C := c_s_l9Ray) m_ (⟨o_s_l2Small, o_s_l2All, trivial⟩) Try.func126 (by kernel_rfl) k_s_l9Ray
/-! loop.example/g00959/spec.l7Cross -/
noncomputable def s_l7Cross (x0 : List Int) (x1 : List Int) : Option (Int) :=
(idx x0 (0 : Int)).bind fun v1 => (idx x1 (1 : Int)).bind fun v2 => (idx x0 (1 : Int)).bind fun v3 => (idx x1 (0 : Int)).bind fun v4 => some (IntKind.i64.wrap ((IntKind.i64.wrap (v1 * v2)) - (IntKind.i64.wrap (v3 * v4))))
noncomputable def e_s_l7Cross : CallE := ⟨69, [.d false (.list (.int .i64)), .d false (.list (.int .i64))], [.l (.d false (.int .i64))], fun x => s_l7Cross x.1 x.2⟩
noncomputable def c_s_l7Cross : Ctx := ⟨Try.prog, TT, [], [], [], []⟩
theorem k_s_l7Cross (x : PMs.den e_s_l7Cross.ps) : funK c_s_l7Cross Try.f69 e_s_l7Cross.ps e_s_l7Cross.rs x = e_s_l7Cross.F x := by kernel_rfl
theorem o_s_l7Cross : FnOk Try.prog e_s_l7Cross.f ∧ Ctr Try.prog e_s_l7Cross := mkCtr (C := c_s_l7Cross) m_ (trivial) Try.func69 (by kernel_rfl) k_s_l7Cross
/-! loop.example/g00959/spec.IsCone -/
noncomputable def s_IsCone (x0 : (List Int) × (List Int)) : Option (Bool) :=
(s_l9Ray x0.1).bind fun v1 => cond v1
 ((s_l9Ray x0.2).bind fun v2 => cond v2
 ((s_l7Cross x0.1 x0.2).bind fun v3 => some (decide (v3 > (0 : Int))))
 (some false))
 (some false)
noncomputable def e_s_IsCone : CallE := ⟨73, [.d false (.prod (.list (.int .i64)) (.list (.int .i64)))], [.l (.d false .bool)], fun x => s_IsCone x⟩
noncomputable def c_s_IsCone : Ctx := ⟨Try.prog, TT, [e_s_l9Ray, e_s_l7Cross], [], [], []⟩
theorem k_s_IsCone (x : PMs.den e_s_IsCone.ps) : funK c_s_IsCone Try.f73 e_s_IsCone.ps e_s_IsCone.rs x = e_s_IsCone.F x := by kernel_rfl
theorem o_s_IsCone : FnOk Try.prog e_s_IsCone.f ∧ Ctr Try.prog e_s_IsCone := mkCtr (C := c_s_IsCone) m_ (⟨o_s_l9Ray, o_s_l7Cross, trivial⟩) Try.func73 (by kernel_rfl) k_s_IsCone
/-! loop.example/g00959/spec.IsVector -/
noncomputable def s_IsVector (x0 : List Int) : Option (Bool) :=
(s_l1In (x0.length : Int) (1 : Int) (3 : Int)).bind fun v1 => cond v1
 ((s_l2Small x0 (1000 : Int)).bind fun v2 => some v2)
 (some false)
noncomputable def e_s_IsVector : CallE := ⟨88, [.d false (.list (.int .i64))], [.l (.d false .bool)], fun x => s_IsVector x⟩
noncomputable def c_s_IsVector : Ctx := ⟨Try.prog, TT, [e_s_l1In, e_s_l2Small], [], [], []⟩
theorem k_s_IsVector (x : PMs.den e_s_IsVector.ps) : funK c_s_IsVector Try.f88 e_s_IsVector.ps e_s_IsVector.rs x = e_s_IsVector.F x := by kernel_rfl
theorem o_s_IsVector : FnOk Try.prog e_s_IsVector.f ∧ Ctr Try.prog e_s_IsVector := mkCtr (C := c_s_IsVector) m_ (⟨o_s_l1In, o_s_l2Small, trivial⟩) Try.func88 (by kernel_rfl) k_s_IsVector
/-! loop.example/g00959/spec.InCone -/
noncomputable def s_InCone (x0 : (List Int) × (List Int)) (x1 : List Int) : Option (Bool) :=
(s_IsCone (x0.1, x0.2)).bind fun v1 => cond v1
 ((s_IsVector x1).bind fun v2 => cond v2
 (cond ((x1.length : Int) == (2 : Int))
 ((s_l7Cross x0.1 x1).bind fun v3 => cond (decide (v3 ≥ (0 : Int)))
 ((s_l7Cross x1 x0.2).bind fun v4 => some (decide (v4 ≥ (0 : Int))))
 (some false))
 (some false))
 (some false))
 (some false)
noncomputable def e_s_InCone : CallE := ⟨67, [.d false (.prod (.list (.int .i64)) (.list (.int .i64))), .d false (.list (.int .i64))], [.l (.d false .bool)], fun x => s_InCone x.1 x.2⟩
noncomputable def c_s_InCone : Ctx := ⟨Try.prog, TT, [e_s_IsCone, e_s_IsVector, e_s_l7Cross], [], [], []⟩
theorem k_s_InCone (x : PMs.den e_s_InCone.ps) : funK c_s_InCone Try.f67 e_s_InCone.ps e_s_InCone.rs x = e_s_InCone.F x := by kernel_rfl
theorem o_s_InCone : FnOk Try.prog e_s_InCone.f ∧ Ctr Try.prog e_s_InCone := mkCtr (C := c_s_InCone) m_ (⟨o_s_IsCone, o_s_IsVector, o_s_l7Cross, trivial⟩) Try.func67 (by kernel_rfl) k_s_InCone
/-! loop.example/g00959/spec.l9Bezout -/
noncomputable def s_l9Bezout_s8 (x0 : List Int) (v1 : Int) (v2 : Int) (v3 : Int) : Option ((Int) ⊕ ((Unit) ⊕ (List Int))) :=
cond (decide (v3 < (4 : Int)))
 ((idx ([([v2, v1] : List Int), ([v2, (IntKind.i64.wrap (0 - v1))] : List Int), ([v1, v2] : List Int), ([(IntKind.i64.wrap (0 - v1)), v2] : List Int)] : List (List Int)) v3).bind fun v4 => (s_l7Cross x0 v4).bind fun v5 => cond (v5 == (1 : Int))
 ((idx ([([v2, v1] : List Int), ([v2, (IntKind.i64.wrap (0 - v1))] : List Int), ([v1, v2] : List Int), ([(IntKind.i64.wrap (0 - v1)), v2] : List Int)] : List (List Int)) v3).bind fun v6 => some (.inr (.inr v6)))
 (some (.inl (IntKind.i64.wrap (v3 + (1 : Int))))))
 (some (.inr (.inl ())))
noncomputable def s_l9Bezout_s4 (x0 : List Int) (v1 : Int) (v2 : Int) : Option ((Int) ⊕ ((Unit) ⊕ (List Int))) :=
cond (decide (v2 ≤ v1))
 ((iter (s_l9Bezout_s8 x0 v1 v2) (0 : Int)).bind fun v7 => match v7 with
 | .inl v8 => (some (.inl (IntKind.i64.wrap (v2 + (1 : Int)))))
 | .inr v9 => (some (.inr (.inr v9))))
 (some (.inr (.inl ())))
noncomputable def s_l9Bezout_s3 (x0 : List Int) (v1 : Int) : Option ((Int) ⊕ (List Int)) :=
(iter (s_l9Bezout_s4 x0 v1) (IntKind.i64.wrap (0 - v1))).bind fun v10 => match v10 with
 | .inl v11 => (some (.inl (IntKind.i64.wrap (v1 + (1 : Int)))))
 | .inr v12 => (some (.inr v12))
noncomputable def s_l9Bezout (x0 : List Int) : Option (List Int) :=
(iter (s_l9Bezout_s3 x0) (0 : Int)).bind fun v13 => some v13
noncomputable def e_s_l9Bezout : CallE := ⟨74, [.d false (.list (.int .i64))], [.l (.d false (.list (.int .i64)))], fun x => s_l9Bezout x⟩
noncomputable def c_s_l9Bezout : Ctx := ⟨Try.prog, TT, [e_s_l7Cross], [⟨3, [(3, .l (.d false (.int .i64)))], none, some [(2, .l (.d false (.list (.int .i64))))]⟩, ⟨4, [(4, .l (.d false (.int .i64)))], some (2, []), some [(2, .l (.d false (.list (.int .i64))))]⟩, ⟨8, [(6, .l (.d false (.int .i64)))], some (4, []), some [(2, .l (.d false (.list (.int .i64))))]⟩], [], []⟩
theorem k_s_l9Bezout (x : PMs.den e_s_l9Bezout.ps) : funK c_s_l9Bezout Try.f74 e_s_l9Bezout.ps e_s_l9Bezout.rs x = e_s_l9Bezout.F x := by kernel_rfl
theorem o_s_l9Bezout : FnOk Try.prog e_s_l9Bezout.f ∧ Ctr Try.prog e_s_l9Bezout := mkCtr (C := c_s_l9Bezout) m_ (⟨o_s_l7Cross, trivial⟩) Try.func74 (by kernel_rfl) k_s_l9Bezout
/-! loop.example/g00959/spec.l3Floor -/
noncomputable def s_l3Floor (x0 : Int) (x1 : Int) : Option (Int) :=
(quoI .i64 x0 x1).bind fun v1 => (remI .i64 x0 x1).bind fun v2 => cond (decide (v2 < (0 : Int)))
 (some (IntKind.i64.wrap (v1 - (1 : Int))))
 (some v1)
noncomputable def e_s_l3Floor : CallE := ⟨75, [.d false (.int .i64), .d false (.int .i64)], [.l (.d false (.int .i64))], fun x => s_l3Floor x.1 x.2⟩
noncomputable def c_s_l3Floor : Ctx := ⟨Try.prog, TT, [], [], [], []⟩
theorem k_s_l3Floor (x : PMs.den e_s_l3Floor.ps) : funK c_s_l3Floor Try.f75 e_s_l3Floor.ps e_s_l3Floor.rs x = e_s_l3Floor.F x := by kernel_rfl
theorem o_s_l3Floor : FnOk Try.prog e_s_l3Floor.f ∧ Ctr Try.prog e_s_l3Floor := mkCtr (C := c_s_l3Floor) m_ (trivial) Try.func75 (by kernel_rfl) k_s_l3Floor
/-! loop.example/g00959/spec.l2Scale -/
noncomputable def s_l2Scale_s3 (x0 : List Int) (x1 : Int) (v1 : List Int × Int) : Option ((List Int × Int) ⊕ (List Int)) :=
cond (decide (v1.2 < (x0.length : Int)))
 ((idx x0 v1.2).bind fun v2 => (appD 8 v1.1 ([(IntKind.i64.wrap (v2 * x1))] : List Int)).bind fun v3 => some (.inl (v3, (IntKind.i64.wrap (v1.2 + (1 : Int))))))
 (some (.inr v1.1))
noncomputable def s_l2Scale (x0 : List Int) (x1 : Int) : Option (List Int) :=
(iter (s_l2Scale_s3 x0 x1) (([] : List Int), (0 : Int))).bind fun v4 => some v4
noncomputable def e_s_l2Scale : CallE := ⟨104, [.d false (.list (.int .i64)), .d false (.int .i64)], [.l (.o true 3 (.int .i64))], fun x => s_l2Scale x.1 x.2⟩
noncomputable def c_s_l2Scale : Ctx := ⟨Try.prog, TT, [], [⟨3, [(5, .l (.o true 3 (.int .i64))), (6, .l (.d false (.int .i64)))], some (0, [(5, .l (.o true 3 (.int .i64)))]), none⟩], [], []⟩
theorem k_s_l2Scale (x : PMs.den e_s_l2Scale.ps) : funK c_s_l2Scale Try.f104 e_s_l2Scale.ps e_s_l2Scale.rs x = e_s_l2Scale.F x := by kernel_rfl
theorem o_s_l2Scale : FnOk Try.prog e_s_l2Scale.f ∧ Ctr Try.prog e_s_l2Scale := mkCtr (C := c_s_l2Scale) m_ (trivial) Try.func104 (by kernel_rfl) k_s_l2Scale
/-! loop.example/g00959/spec.l2Less -/
noncomputable def s_l2Less_s3 (x0 : List Int) (x1 : List Int) (v1 : List Int × Int) : Option ((List Int × Int) ⊕ (List Int)) :=
cond (decide (v1.2 < (x0.length : Int)))
 ((idx x0 v1.2).bind fun v2 => (idx x1 v1.2).bind fun v3 => (appD 8 v1.1 ([(IntKind.i64.wrap (v2 - v3))] : List Int)).bind fun v4 => some (.inl (v4, (IntKind.i64.wrap (v1.2 + (1 : Int))))))
 (some (.inr v1.1))
noncomputable def s_l2Less (x0 : List Int) (x1 : List Int) : Option (List Int) :=
(iter (s_l2Less_s3 x0 x1) (([] : List Int), (0 : Int))).bind fun v5 => some v5
noncomputable def e_s_l2Less : CallE := ⟨154, [.d false (.list (.int .i64)), .d false (.list (.int .i64))], [.l (.o true 3 (.int .i64))], fun x => s_l2Less x.1 x.2⟩
noncomputable def c_s_l2Less : Ctx := ⟨Try.prog, TT, [], [⟨3, [(5, .l (.o true 3 (.int .i64))), (6, .l (.d false (.int .i64)))], some (0, [(5, .l (.o true 3 (.int .i64)))]), none⟩], [], []⟩
theorem k_s_l2Less (x : PMs.den e_s_l2Less.ps) : funK c_s_l2Less Try.f154 e_s_l2Less.ps e_s_l2Less.rs x = e_s_l2Less.F x := by kernel_rfl
theorem o_s_l2Less : FnOk Try.prog e_s_l2Less.f ∧ Ctr Try.prog e_s_l2Less := mkCtr (C := c_s_l2Less) m_ (trivial) Try.func154 (by kernel_rfl) k_s_l2Less
/-! loop.example/g00959/spec.l9Next -/
noncomputable def s_l9Next (x0 : List Int) (x1 : List Int) : Option (List Int) :=
(s_l7Cross x0 x1).bind fun v1 => (s_l9Bezout x0).bind fun v2 => (s_l7Cross v2 x1).bind fun v3 => (s_l3Floor v3 v1).bind fun v4 => (s_l2Scale x0 v4).bind fun v5 => (s_l2Less v2 v5).bind fun v6 => some v6
noncomputable def e_s_l9Next : CallE := ⟨121, [.d false (.list (.int .i64)), .d false (.list (.int .i64))], [.l (.o true 3 (.int .i64))], fun x => s_l9Next x.1 x.2⟩
noncomputable def c_s_l9Next : Ctx := ⟨Try.prog, TT, [e_s_l7Cross, e_s_l9Bezout, e_s_l3Floor, e_s_l2Scale, e_s_l2Less], [], [], []⟩
theorem k_s_l9Next (x : PMs.den e_s_l9Next.ps) : funK c_s_l9Next Try.f121 e_s_l9Next.ps e_s_l9Next.rs x = e_s_l9Next.F x := by kernel_rfl
theorem o_s_l9Next : FnOk Try.prog e_s_l9Next.f ∧ Ctr Try.prog e_s_l9Next := mkCtr (C := c_s_l9Next) m_ (⟨o_s_l7Cross, o_s_l9Bezout, o_s_l3Floor, o_s_l2Scale, o_s_l2Less, trivial⟩) Try.func121 (by kernel_rfl) k_s_l9Next
/-! loop.example/g00959/spec.SplitCone -/
noncomputable def s_SplitCone_s5 (x0 : (List Int) × (List Int)) (v3 : List (List Int) × List Int) : Option ((List (List Int) × List Int) ⊕ (List (List Int) × List Int)) :=
(s_l7Cross v3.2 x0.2).bind fun v4 => cond (decide (v4 > (0 : Int)))
 ((appD 24 v3.1 ([v3.2] : List (List Int))).bind fun v5 => (s_l9Next v3.2 x0.2).bind fun v6 => some (.inl (v5, v6)))
 (some (.inr (v3.1, v3.2)))
noncomputable def s_SplitCone (x0 : (List Int) × (List Int)) : Option (List (List Int)) :=
(s_IsCone (x0.1, x0.2)).bind fun v1 => cond (!v1)
 (some ([] : List (List Int)))
 ((appD 8 ([] : List Int) x0.1).bind fun v2 => (iter (s_SplitCone_s5 x0) (([] : List (List Int)), v2)).bind fun v7 => (appD 24 v7.1 ([v7.2] : List (List Int))).bind fun v8 => some v8)
noncomputable def e_s_SplitCone : CallE := ⟨68, [.d false (.prod (.list (.int .i64)) (.list (.int .i64)))], [.l (.o false 22 (.list (.int .i64)))], fun x => s_SplitCone x⟩
noncomputable def c_s_SplitCone : Ctx := ⟨Try.prog, TT, [e_s_IsCone, e_s_l7Cross, e_s_l9Next], [⟨5, [(3, .l (.o false 22 (.list (.int .i64)))), (4, .l (.d false (.list (.int .i64))))], some (0, [(3, .l (.o false 22 (.list (.int .i64)))), (4, .l (.d false (.list (.int .i64))))]), none⟩], [], []⟩
theorem k_s_SplitCone (x : PMs.den e_s_SplitCone.ps) : funK c_s_SplitCone Try.f68 e_s_SplitCone.ps e_s_SplitCone.rs x = e_s_SplitCone.F x := by kernel_rfl
theorem o_s_SplitCone : FnOk Try.prog e_s_SplitCone.f ∧ Ctr Try.prog e_s_SplitCone := mkCtr (C := c_s_SplitCone) m_ (⟨o_s_IsCone, o_s_l7Cross, o_s_l9Next, trivial⟩) Try.func68 (by kernel_rfl) k_s_SplitCone
/-! loop.example/g00959/spec.ExpressIn -/
noncomputable def s_ExpressIn_s6 (x1 : List Int) (v2 : List (List Int)) (v4 : List Int × Int) : Option ((List Int × Int) ⊕ ((List Int) ⊕ (List Int × Bool))) :=
cond (decide ((IntKind.i64.wrap (v4.2 + (1 : Int))) < (v2.length : Int)))
 ((idx v2 (IntKind.i64.wrap (v4.2 + (1 : Int)))).bind fun v5 => (s_l7Cross x1 v5).bind fun v6 => (idx v2 v4.2).bind fun v7 => (s_l7Cross v7 x1).bind fun v8 => cond (decide (v6 ≥ (0 : Int)))
 (cond (decide (v8 ≥ (0 : Int)))
 ((inIdx v4.1.length v4.2).bind fun _ => (inIdx v4.1.length ((v4.2).toNat : Int)).bind fun _ => (inIdx (v4.1.set ((v4.2).toNat) v6).length (IntKind.i64.wrap (v4.2 + (1 : Int)))).bind fun _ => (inIdx (v4.1.set ((v4.2).toNat) v6).length (((IntKind.i64.wrap (v4.2 + (1 : Int)))).toNat : Int)).bind fun _ => some (.inr (.inr (((v4.1.set ((v4.2).toNat) v6).set (((IntKind.i64.wrap (v4.2 + (1 : Int)))).toNat) v8), true))))
 (some (.inl (v4.1, (IntKind.i64.wrap (v4.2 + (1 : Int)))))))
 (some (.inl (v4.1, (IntKind.i64.wrap (v4.2 + (1 : Int)))))))
 (some (.inr (.inl v4.1)))
noncomputable def s_ExpressIn (x0 : (List Int) × (List Int)) (x1 : List Int) : Option (List Int × Bool) :=
(s_InCone (x0.1, x0.2) x1).bind fun v1 => cond (!v1)
 (some (([] : List Int), false))
 ((s_SplitCone (x0.1, x0.2)).bind fun v2 => (mkD 8 (v2.length : Int) (0 : Int)).bind fun v3 => (iter (s_ExpressIn_s6 x1 v2) (v3, (0 : Int))).bind fun v9 => match v9 with
 | .inl v10 => (some (v10, true))
 | .inr v11 => (some (v11.1, v11.2)))
noncomputable def e_s_ExpressIn : CallE := ⟨18, [.d false (.prod (.list (.int .i64)) (.list (.int .i64))), .d false (.list (.int .i64))], [.l (.o true 3 (.int .i64)), .l (.d false .bool)], fun x => s_ExpressIn x.1 x.2⟩
noncomputable def c_s_ExpressIn : Ctx := ⟨Try.prog, TT, [e_s_InCone, e_s_SplitCone, e_s_l7Cross], [⟨6, [(7, .l (.o true 3 (.int .i64))), (8, .l (.d false (.int .i64)))], some (0, [(7, .l (.o true 3 (.int .i64)))]), some [(4, .l (.o true 3 (.int .i64))), (5, .l (.d false .bool))]⟩], [], []⟩
theorem k_s_ExpressIn (x : PMs.den e_s_ExpressIn.ps) : funK c_s_ExpressIn Try.f18 e_s_ExpressIn.ps e_s_ExpressIn.rs x = e_s_ExpressIn.F x := by kernel_rfl
theorem o_s_ExpressIn : FnOk Try.prog e_s_ExpressIn.f ∧ Ctr Try.prog e_s_ExpressIn := mkCtr (C := c_s_ExpressIn) m_ (⟨o_s_InCone, o_s_SplitCone, o_s_l7Cross, trivial⟩) Try.func18 (by kernel_rfl) k_s_ExpressIn
/-! loop.example/g00959/impl.within -/
noncomputable def i_within (x0 : Int) (x1 : Int) (x2 : Int) : Option (Bool) :=
cond (decide (x0 ≥ x1))
 (some (decide (x0 ≤ x2)))
 (some false)
noncomputable def e_i_within : CallE := ⟨144, [.d false (.int .i64), .d false (.int .i64), .d false (.int .i64)], [.l (.d false .bool)], fun x => i_within x.1 x.2.1 x.2.2⟩
noncomputable def c_i_within : Ctx := ⟨Try.prog, TT, [], [], [], []⟩
theorem k_i_within (x : PMs.den e_i_within.ps) : funK c_i_within Try.f144 e_i_within.ps e_i_within.rs x = e_i_within.F x := by kernel_rfl
theorem o_i_within : FnOk Try.prog e_i_within.f ∧ Ctr Try.prog e_i_within := mkCtr (C := c_i_within) m_ (trivial) Try.func144 (by kernel_rfl) k_i_within
/-! loop.example/g00959/impl.allWithin -/
noncomputable def i_allWithin_s2 (x0 : List Int) (x1 : Int) (x2 : Int) (v1 : Int) : Option ((Int) ⊕ ((Unit) ⊕ (Bool))) :=
cond (decide (v1 < (x0.length : Int)))
 ((idx x0 v1).bind fun v2 => (i_within v2 x1 x2).bind fun v3 => cond (!v3)
 (some (.inr (.inr false)))
 (some (.inl (IntKind.i64.wrap (v1 + (1 : Int))))))
 (some (.inr (.inl ())))
noncomputable def i_allWithin (x0 : List Int) (x1 : Int) (x2 : Int) : Option (Bool) :=
(iter (i_allWithin_s2 x0 x1 x2) (0 : Int)).bind fun v4 => match v4 with
 | .inl v5 => (some true)
 | .inr v6 => (some v6)
noncomputable def e_i_allWithin : CallE := ⟨134, [.d false (.list (.int .i64)), .d false (.int .i64), .d false (.int .i64)], [.l (.d false .bool)], fun x => i_allWithin x.1 x.2.1 x.2.2⟩
noncomputable def c_i_allWithin : Ctx := ⟨Try.prog, TT, [e_i_within], [⟨2, [(11, .l (.d false (.int .i64)))], some (0, []), some [(6, .l (.d false .bool))]⟩], [], []⟩
theorem k_i_allWithin (x : PMs.den e_i_allWithin.ps) : funK c_i_allWithin Try.f134 e_i_allWithin.ps e_i_allWithin.rs x = e_i_allWithin.F x := by kernel_rfl
theorem o_i_allWithin : FnOk Try.prog e_i_allWithin.f ∧ Ctr Try.prog e_i_allWithin := mkCtr (C := c_i_allWithin) m_ (⟨o_i_within, trivial⟩) Try.func134 (by kernel_rfl) k_i_allWithin
/-! loop.example/g00959/impl.isPoint -/
noncomputable def i_isPoint (x0 : List Int) (x1 : Int) : Option (Bool) :=
cond ((x0.length : Int) == (2 : Int))
 ((i_allWithin x0 (IntKind.i64.wrap (0 - x1)) x1).bind fun v1 => some v1)
 (some false)
noncomputable def e_i_isPoint : CallE := ⟨84, [.d false (.list (.int .i64)), .d false (.int .i64)], [.l (.d false .bool)], fun x => i_isPoint x.1 x.2⟩
noncomputable def c_i_isPoint : Ctx := ⟨Try.prog, TT, [e_i_allWithin], [], [], []⟩
theorem k_i_isPoint (x : PMs.den e_i_isPoint.ps) : funK c_i_isPoint Try.f84 e_i_isPoint.ps e_i_isPoint.rs x = e_i_isPoint.F x := by kernel_rfl
theorem o_i_isPoint : FnOk Try.prog e_i_isPoint.f ∧ Ctr Try.prog e_i_isPoint := mkCtr (C := c_i_isPoint) m_ (⟨o_i_allWithin, trivial⟩) Try.func84 (by kernel_rfl) k_i_isPoint
/-! loop.example/g00959/impl.magnitude -/
noncomputable def i_magnitude (x0 : Int) : Option (Int) :=
some (if (IntKind.i64.wrap (0 - x0)) > x0 then (IntKind.i64.wrap (0 - x0)) else x0)
noncomputable def e_i_magnitude : CallE := ⟨173, [.d false (.int .i64)], [.l (.d false (.int .i64))], fun x => i_magnitude x⟩
noncomputable def c_i_magnitude : Ctx := ⟨Try.prog, TT, [], [], [], []⟩
theorem k_i_magnitude (x : PMs.den e_i_magnitude.ps) : funK c_i_magnitude Try.f173 e_i_magnitude.ps e_i_magnitude.rs x = e_i_magnitude.F x := by kernel_rfl
theorem o_i_magnitude : FnOk Try.prog e_i_magnitude.f ∧ Ctr Try.prog e_i_magnitude := mkCtr (C := c_i_magnitude) m_ (trivial) Try.func173 (by kernel_rfl) k_i_magnitude
/-! loop.example/g00959/impl.divisor -/
noncomputable def i_divisor_s1 (v1 : Int × Int) : Option ((Int × Int) ⊕ (Int)) :=
cond (v1.2 != (0 : Int))
 ((remI .i64 v1.1 v1.2).bind fun v2 => some (.inl (v1.2, v2)))
 (some (.inr v1.1))
noncomputable def i_divisor (x0 : Int) (x1 : Int) : Option (Int) :=
(iter (i_divisor_s1) (x0, x1)).bind fun v3 => (i_magnitude v3).bind fun v4 => some v4
noncomputable def e_i_divisor : CallE := ⟨167, [.d false (.int .i64), .d false (.int .i64)], [.l (.d false (.int .i64))], fun x => i_divisor x.1 x.2⟩
noncomputable def c_i_divisor : Ctx := ⟨Try.prog, TT, [e_i_magnitude], [⟨1, [(0, .l (.d false (.int .i64))), (1, .l (.d false (.int .i64)))], some (0, [(0, .l (.d false (.int .i64)))]), none⟩], [], []⟩
theorem k_i_divisor (x : PMs.den e_i_divisor.ps) : funK c_i_divisor Try.f167 e_i_divisor.ps e_i_divisor.rs x = e_i_divisor.F x := by kernel_rfl
theorem o_i_divisor : FnOk Try.prog e_i_divisor.f ∧ Ctr Try.prog e_i_divisor := mkCtr (C := c_i_divisor) m_ (⟨o_i_magnitude, trivial⟩) Try.func167 (by kernel_rfl) k_i_divisor
/-! loop.example/g00959/impl.gcdAll -/
noncomputable def i_gcdAll_s3 (x0 : List Int) (v1 : Int × Int) : Option ((Int × Int) ⊕ (Int)) :=
cond (decide (v1.2 < (x0.length : Int)))
 ((idx x0 v1.2).bind fun v2 => (i_divisor v1.1 v2).bind fun v3 => some (.inl (v3, (IntKind.i64.wrap (v1.2 + (1 : Int))))))
 (some (.inr v1.1))
noncomputable def i_gcdAll (x0 : List Int) : Option (Int) :=
(iter (i_gcdAll_s3 x0) ((0 : Int), (0 : Int))).bind fun v4 => some v4
noncomputable def e_i_gcdAll : CallE := ⟨149, [.d false (.list (.int .i64))], [.l (.d false (.int .i64))], fun x => i_gcdAll x⟩
noncomputable def c_i_gcdAll : Ctx := ⟨Try.prog, TT, [e_i_divisor], [⟨3, [(3, .l (.d false (.int .i64))), (8, .l (.d false (.int .i64)))], some (0, [(3, .l (.d false (.int .i64)))]), none⟩], [], []⟩
theorem k_i_gcdAll (x : PMs.den e_i_gcdAll.ps) : funK c_i_gcdAll Try.f149 e_i_gcdAll.ps e_i_gcdAll.rs x = e_i_gcdAll.F x := by kernel_rfl
theorem o_i_gcdAll : FnOk Try.prog e_i_gcdAll.f ∧ Ctr Try.prog e_i_gcdAll := mkCtr (C := c_i_gcdAll) m_ (⟨o_i_divisor, trivial⟩) Try.func149 (by kernel_rfl) k_i_gcdAll
/-! loop.example/g00959/impl.cross -/
noncomputable def i_cross (x0 : List Int) (x1 : List Int) : Option (Int) :=
(idx x0 (0 : Int)).bind fun v1 => (idx x1 (1 : Int)).bind fun v2 => (idx x0 (1 : Int)).bind fun v3 => (idx x1 (0 : Int)).bind fun v4 => some (IntKind.i64.wrap ((IntKind.i64.wrap (v1 * v2)) - (IntKind.i64.wrap (v3 * v4))))
noncomputable def e_i_cross : CallE := ⟨72, [.d false (.list (.int .i64)), .d false (.list (.int .i64))], [.l (.d false (.int .i64))], fun x => i_cross x.1 x.2⟩
noncomputable def c_i_cross : Ctx := ⟨Try.prog, TT, [], [], [], []⟩
theorem k_i_cross (x : PMs.den e_i_cross.ps) : funK c_i_cross Try.f72 e_i_cross.ps e_i_cross.rs x = e_i_cross.F x := by kernel_rfl
theorem o_i_cross : FnOk Try.prog e_i_cross.f ∧ Ctr Try.prog e_i_cross := mkCtr (C := c_i_cross) m_ (trivial) Try.func72 (by kernel_rfl) k_i_cross
/-! loop.example/g00959/impl.IsCone -/
noncomputable def i_IsCone (x0 : (List Int) × (List Int)) : Option (Bool) :=
(i_isPoint x0.1 (30 : Int)).bind fun v1 => cond v1
 ((i_isPoint x0.2 (30 : Int)).bind fun v2 => cond v2
 ((i_gcdAll x0.1).bind fun v3 => cond (v3 == (1 : Int))
 ((i_gcdAll x0.2).bind fun v4 => cond (v4 == (1 : Int))
 ((i_cross x0.1 x0.2).bind fun v5 => some (decide (v5 > (0 : Int))))
 (some false))
 (some false))
 (some false))
 (some false)
noncomputable def e_i_IsCone : CallE := ⟨122, [.d false (.prod (.list (.int .i64)) (.list (.int .i64)))], [.l (.d false .bool)], fun x => i_IsCone x⟩
noncomputable def c_i_IsCone : Ctx := ⟨Try.prog, TT, [e_i_isPoint, e_i_gcdAll, e_i_cross], [], [], []⟩
theorem k_i_IsCone (x : PMs.den e_i_IsCone.ps) : funK c_i_IsCone Try.f122 e_i_IsCone.ps e_i_IsCone.rs x = e_i_IsCone.F x := by kernel_rfl
theorem o_i_IsCone : FnOk Try.prog e_i_IsCone.f ∧ Ctr Try.prog e_i_IsCone := mkCtr (C := c_i_IsCone) m_ (⟨o_i_isPoint, o_i_gcdAll, o_i_cross, trivial⟩) Try.func122 (by kernel_rfl) k_i_IsCone
/-! loop.example/g00959/impl.IsVector -/
noncomputable def i_IsVector (x0 : List Int) : Option (Bool) :=
(i_within (x0.length : Int) (1 : Int) (3 : Int)).bind fun v1 => cond v1
 ((i_allWithin x0 (-1000 : Int) (1000 : Int)).bind fun v2 => some v2)
 (some false)
noncomputable def e_i_IsVector : CallE := ⟨92, [.d false (.list (.int .i64))], [.l (.d false .bool)], fun x => i_IsVector x⟩
noncomputable def c_i_IsVector : Ctx := ⟨Try.prog, TT, [e_i_within, e_i_allWithin], [], [], []⟩
theorem k_i_IsVector (x : PMs.den e_i_IsVector.ps) : funK c_i_IsVector Try.f92 e_i_IsVector.ps e_i_IsVector.rs x = e_i_IsVector.F x := by kernel_rfl
theorem o_i_IsVector : FnOk Try.prog e_i_IsVector.f ∧ Ctr Try.prog e_i_IsVector := mkCtr (C := c_i_IsVector) m_ (⟨o_i_within, o_i_allWithin, trivial⟩) Try.func92 (by kernel_rfl) k_i_IsVector
/-! loop.example/g00959/impl.InCone -/
noncomputable def i_InCone (x0 : (List Int) × (List Int)) (x1 : List Int) : Option (Bool) :=
(i_IsCone (x0.1, x0.2)).bind fun v1 => cond v1
 ((i_IsVector x1).bind fun v2 => cond v2
 (cond ((x1.length : Int) == (2 : Int))
 ((i_cross x0.1 x1).bind fun v3 => cond (decide (v3 ≥ (0 : Int)))
 ((i_cross x1 x0.2).bind fun v4 => some (decide (v4 ≥ (0 : Int))))
 (some false))
 (some false))
 (some false))
 (some false)
noncomputable def e_i_InCone : CallE := ⟨70, [.d false (.prod (.list (.int .i64)) (.list (.int .i64))), .d false (.list (.int .i64))], [.l (.d false .bool)], fun x => i_InCone x.1 x.2⟩
noncomputable def c_i_InCone : Ctx := ⟨Try.prog, TT, [e_i_IsCone, e_i_IsVector, e_i_cross], [], [], []⟩
theorem k_i_InCone (x : PMs.den e_i_InCone.ps) : funK c_i_InCone Try.f70 e_i_InCone.ps e_i_InCone.rs x = e_i_InCone.F x := by kernel_rfl
theorem o_i_InCone : FnOk Try.prog e_i_InCone.f ∧ Ctr Try.prog e_i_InCone := mkCtr (C := c_i_InCone) m_ (⟨o_i_IsCone, o_i_IsVector, o_i_cross, trivial⟩) Try.func70 (by kernel_rfl) k_i_InCone
/-! loop.example/g00959/impl.copyInts -/
noncomputable def i_copyInts (x0 : List Int) : Option (List Int) :=
(appD 8 ([] : List Int) x0).bind fun v1 => some v1
noncomputable def e_i_copyInts : CallE := ⟨123, [.d false (.list (.int .i64))], [.l (.o true 3 (.int .i64))], fun x => i_copyInts x⟩
noncomputable def c_i_copyInts : Ctx := ⟨Try.prog, TT, [], [], [], []⟩
theorem k_i_copyInts (x : PMs.den e_i_copyInts.ps) : funK c_i_copyInts Try.f123 e_i_copyInts.ps e_i_copyInts.rs x = e_i_copyInts.F x := by kernel_rfl
theorem o_i_copyInts : FnOk Try.prog e_i_copyInts.f ∧ Ctr Try.prog e_i_copyInts := mkCtr (C := c_i_copyInts) m_ (trivial) Try.func123 (by kernel_rfl) k_i_copyInts
/-! loop.example/g00959/impl.partner -/
noncomputable def i_partner_s3 (v3 : List Int × List Int × Int × Int) : Option ((List Int × List Int × Int × Int) ⊕ (List Int × Int)) :=
cond (v3.2.2.2 != (0 : Int))
 ((quoI .i64 v3.2.2.1 v3.2.2.2).bind fun v4 => (inIdx v3.1.length (0 : Int)).bind fun _ => (idx v3.1 (((0 : Int)).toNat : Int)).bind fun v5 => (inIdx v3.2.1.length (0 : Int)).bind fun _ => (idx v3.2.1 (((0 : Int)).toNat : Int)).bind fun v6 => (inIdx v3.1.length (1 : Int)).bind fun _ => (idx v3.1 (((1 : Int)).toNat : Int)).bind fun v7 => (inIdx v3.2.1.length (1 : Int)).bind fun _ => (idx v3.2.1 (((1 : Int)).toNat : Int)).bind fun v8 => some (.inl (v3.2.1, (([(IntKind.i64.wrap (v5 - (IntKind.i64.wrap (v4 * v6)))), (IntKind.i64.wrap (v7 - (IntKind.i64.wrap (v4 * v8))))] : List Int), (v3.2.2.2, (IntKind.i64.wrap (v3.2.2.1 - (IntKind.i64.wrap (v4 * v3.2.2.2)))))))))
 (some (.inr (v3.1, v3.2.2.1)))
noncomputable def i_partner (x0 : List Int) : Option (List Int) :=
(idx x0 (0 : Int)).bind fun v1 => (idx x0 (1 : Int)).bind fun v2 => (iter (i_partner_s3) (([(1 : Int), (0 : Int)] : List Int), (([(0 : Int), (1 : Int)] : List Int), (v1, v2)))).bind fun v9 => (inIdx v9.1.length (1 : Int)).bind fun _ => (idx v9.1 (((1 : Int)).toNat : Int)).bind fun v10 => (inIdx v9.1.length (0 : Int)).bind fun _ => (idx v9.1 (((0 : Int)).toNat : Int)).bind fun v11 => some ([(IntKind.i64.wrap ((IntKind.i64.wrap (0 - v10)) * v9.2)), (IntKind.i64.wrap (v11 * v9.2))] : List Int)
noncomputable def e_i_partner : CallE := ⟨78, [.d false (.list (.int .i64))], [.l (.o true 3 (.int .i64))], fun x => i_partner x⟩
noncomputable def c_i_partner : Ctx := ⟨Try.prog, TT, [], [⟨3, [(3, .l (.o true 3 (.int .i64))), (4, .l (.o true 3 (.int .i64))), (5, .l (.d false (.int .i64))), (6, .l (.d false (.int .i64)))], some (0, [(3, .l (.o true 3 (.int .i64))), (5, .l (.d false (.int .i64)))]), none⟩], [], []⟩
theorem k_i_partner (x : PMs.den e_i_partner.ps) : funK c_i_partner Try.f78 e_i_partner.ps e_i_partner.rs x = e_i_partner.F x := by kernel_rfl
theorem o_i_partner : FnOk Try.prog e_i_partner.f ∧ Ctr Try.prog e_i_partner := mkCtr (C := c_i_partner) m_ (trivial) Try.func78 (by kernel_rfl) k_i_partner
/-! loop.example/g00959/impl.down -/
noncomputable def i_down (x0 : Int) (x1 : Int) : Option (Int) :=
(quoI .i64 x0 x1).bind fun v1 => (remI .i64 x0 x1).bind fun v2 => cond (decide (v2 < (0 : Int)))
 (some (IntKind.i64.wrap (v1 - (1 : Int))))
 (some v1)
noncomputable def e_i_down : CallE := ⟨125, [.d false (.int .i64), .d false (.int .i64)], [.l (.d false (.int .i64))], fun x => i_down x.1 x.2⟩
noncomputable def c_i_down : Ctx := ⟨Try.prog, TT, [], [], [], []⟩
theorem k_i_down (x : PMs.den e_i_down.ps) : funK c_i_down Try.f125 e_i_down.ps e_i_down.rs x = e_i_down.F x := by kernel_rfl
theorem o_i_down : FnOk Try.prog e_i_down.f ∧ Ctr Try.prog e_i_down := mkCtr (C := c_i_down) m_ (trivial) Try.func125 (by kernel_rfl) k_i_down
/-! loop.example/g00959/impl.less -/
noncomputable def i_less_s1 (x0 : List Int) (x1 : Int) (x2 : List Int) (v1 : List Int × Int) : Option ((List Int × Int) ⊕ (List Int)) :=
cond (decide (v1.2 < (x0.length : Int)))
 ((inIdx v1.1.length v1.2).bind fun _ => (idx v1.1 ((v1.2).toNat : Int)).bind fun v2 => (idx x2 v1.2).bind fun v3 => (inIdx v1.1.length v1.2).bind fun _ => (inIdx v1.1.length ((v1.2).toNat : Int)).bind fun _ => some (.inl ((v1.1.set ((v1.2).toNat) (IntKind.i64.wrap (v2 - (IntKind.i64.wrap (x1 * v3))))), (IntKind.i64.wrap (v1.2 + (1 : Int))))))
 (some (.inr v1.1))
noncomputable def i_less (x0 : List Int) (x1 : Int) (x2 : List Int) : Option ((Unit) × (List Int) × Unit) :=
(iter (i_less_s1 x0 x1 x2) (x0, (0 : Int))).bind fun v4 => some ((), (v4, ()))
noncomputable def e_i_less : CallE := ⟨124, [.io true 3 (.int .i64), .d false (.int .i64), .d false (.list (.int .i64))], [], fun x => i_less x.1 x.2.1 x.2.2⟩
noncomputable def c_i_less : Ctx := ⟨Try.prog, TT, [], [⟨1, [(0, .l (.o true 3 (.int .i64))), (9, .l (.d false (.int .i64)))], some (0, [(0, .l (.o true 3 (.int .i64)))]), none⟩], [], []⟩
theorem k_i_less (x : PMs.den e_i_less.ps) : funK c_i_less Try.f124 e_i_less.ps e_i_less.rs x = e_i_less.F x := by kernel_rfl
theorem o_i_less : FnOk Try.prog e_i_less.f ∧ Ctr Try.prog e_i_less := mkCtr (C := c_i_less) m_ (trivial) Try.func124 (by kernel_rfl) k_i_less
/-! loop.example/g00959/impl.SplitCone -/
noncomputable def i_SplitCone_s4 (x0 : (List Int) × (List Int)) (v3 : List (List Int)) : Option ((List (List Int)) ⊕ (List (List Int))) :=
(inIdx v3.length (IntKind.i64.wrap ((v3.length : Int) - (1 : Int)))).bind fun _ => (idx v3 (((IntKind.i64.wrap ((v3.length : Int) - (1 : Int)))).toNat : Int)).bind fun v4 => (i_cross v4 x0.2).bind fun v5 => cond (v5 == (0 : Int))
 (some (.inr v3))
 ((i_partner v4).bind fun v6 => (i_cross v6 x0.2).bind fun v7 => (i_down v7 v5).bind fun v8 => (i_less v6 v8 v4).bind fun v9 => (appD 24 v3 ([v9.2.1] : List (List Int))).bind fun v10 => some (.inl v10))
noncomputable def i_SplitCone (x0 : (List Int) × (List Int)) : Option (List (List Int)) :=
(i_IsCone (x0.1, x0.2)).bind fun v1 => cond (!v1)
 (some ([] : List (List Int)))
 ((i_copyInts x0.1).bind fun v2 => (iter (i_SplitCone_s4 x0) ([v2] : List (List Int))).bind fun v11 => some v11)
noncomputable def e_i_SplitCone : CallE := ⟨71, [.d false (.prod (.list (.int .i64)) (.list (.int .i64)))], [.l (.o true 22 (.list (.int .i64)))], fun x => i_SplitCone x⟩
noncomputable def c_i_SplitCone : Ctx := ⟨Try.prog, TT, [e_i_IsCone, e_i_copyInts, e_i_cross, e_i_partner, e_i_down, e_i_less], [⟨4, [(3, .l (.o true 22 (.list (.int .i64))))], none, some [(2, .l (.o true 22 (.list (.int .i64))))]⟩], [], []⟩
theorem k_i_SplitCone (x : PMs.den e_i_SplitCone.ps) : funK c_i_SplitCone Try.f71 e_i_SplitCone.ps e_i_SplitCone.rs x = e_i_SplitCone.F x := by kernel_rfl
theorem o_i_SplitCone : FnOk Try.prog e_i_SplitCone.f ∧ Ctr Try.prog e_i_SplitCone := mkCtr (C := c_i_SplitCone) m_ (⟨o_i_IsCone, o_i_copyInts, o_i_cross, o_i_partner, o_i_down, o_i_less, trivial⟩) Try.func71 (by kernel_rfl) k_i_SplitCone
/-! loop.example/g00959/impl.ExpressIn -/
noncomputable def i_ExpressIn_s6 (x1 : List Int) (v2 : List (List Int)) (v4 : List Int × Int) : Option ((List Int × Int) ⊕ (List Int)) :=
cond (decide (v4.2 < (v2.length : Int)))
 ((idx v2 v4.2).bind fun v5 => (i_cross x1 v5).bind fun v6 => (idx v2 (IntKind.i64.wrap (v4.2 - (1 : Int)))).bind fun v7 => (i_cross v7 x1).bind fun v8 => cond (decide (v6 ≥ (0 : Int)))
 (cond (decide (v8 ≥ (0 : Int)))
 ((inIdx v4.1.length (IntKind.i64.wrap (v4.2 - (1 : Int)))).bind fun _ => (inIdx v4.1.length (((IntKind.i64.wrap (v4.2 - (1 : Int)))).toNat : Int)).bind fun _ => (inIdx (v4.1.set (((IntKind.i64.wrap (v4.2 - (1 : Int)))).toNat) v6).length v4.2).bind fun _ => (inIdx (v4.1.set (((IntKind.i64.wrap (v4.2 - (1 : Int)))).toNat) v6).length ((v4.2).toNat : Int)).bind fun _ => some (.inr ((v4.1.set (((IntKind.i64.wrap (v4.2 - (1 : Int)))).toNat) v6).set ((v4.2).toNat) v8)))
 (some (.inl (v4.1, (IntKind.i64.wrap (v4.2 + (1 : Int)))))))
 (some (.inl (v4.1, (IntKind.i64.wrap (v4.2 + (1 : Int)))))))
 (some (.inr v4.1))
noncomputable def i_ExpressIn (x0 : (List Int) × (List Int)) (x1 : List Int) : Option (List Int × Bool) :=
(i_InCone (x0.1, x0.2) x1).bind fun v1 => cond (!v1)
 (some (([] : List Int), false))
 ((i_SplitCone (x0.1, x0.2)).bind fun v2 => (mkD 8 (v2.length : Int) (0 : Int)).bind fun v3 => (iter (i_ExpressIn_s6 x1 v2) (v3, (1 : Int))).bind fun v9 => some (v9, true))
noncomputable def e_i_ExpressIn : CallE := ⟨21, [.d false (.prod (.list (.int .i64)) (.list (.int .i64))), .d false (.list (.int .i64))], [.l (.o true 3 (.int .i64)), .l (.d false .bool)], fun x => i_ExpressIn x.1 x.2⟩
noncomputable def c_i_ExpressIn : Ctx := ⟨Try.prog, TT, [e_i_InCone, e_i_SplitCone, e_i_cross], [⟨6, [(7, .l (.o true 3 (.int .i64))), (8, .l (.d false (.int .i64)))], some (0, [(7, .l (.o true 3 (.int .i64)))]), none⟩], [], []⟩
theorem k_i_ExpressIn (x : PMs.den e_i_ExpressIn.ps) : funK c_i_ExpressIn Try.f21 e_i_ExpressIn.ps e_i_ExpressIn.rs x = e_i_ExpressIn.F x := by kernel_rfl
theorem o_i_ExpressIn : FnOk Try.prog e_i_ExpressIn.f ∧ Ctr Try.prog e_i_ExpressIn := mkCtr (C := c_i_ExpressIn) m_ (⟨o_i_InCone, o_i_SplitCone, o_i_cross, trivial⟩) Try.func21 (by kernel_rfl) k_i_ExpressIn
/-! loop.example/g00959/laws.eqIntS -/
noncomputable def w_eqIntS_s4 (x0 : List Int) (x1 : List Int) (v1 : Int) : Option ((Int) ⊕ ((Unit) ⊕ (Bool))) :=
cond (decide (v1 < (x0.length : Int)))
 ((idx x0 v1).bind fun v2 => (idx x1 v1).bind fun v3 => cond (v2 != v3)
 (some (.inr (.inr false)))
 (some (.inl (IntKind.i64.wrap (v1 + (1 : Int))))))
 (some (.inr (.inl ())))
noncomputable def w_eqIntS (x0 : List Int) (x1 : List Int) : Option (Bool) :=
cond ((x0.length : Int) != (x1.length : Int))
 (some false)
 ((iter (w_eqIntS_s4 x0 x1) (0 : Int)).bind fun v4 => match v4 with
 | .inl v5 => (some true)
 | .inr v6 => (some v6))
noncomputable def e_w_eqIntS : CallE := ⟨22, [.d false (.list (.int .i64)), .d false (.list (.int .i64))], [.l (.d false .bool)], fun x => w_eqIntS x.1 x.2⟩
noncomputable def c_w_eqIntS : Ctx := ⟨Try.prog, TT, [], [⟨4, [(5, .l (.d false (.int .i64)))], some (0, []), some [(4, .l (.d false .bool))]⟩], [], []⟩
theorem k_w_eqIntS (x : PMs.den e_w_eqIntS.ps) : funK c_w_eqIntS Try.f22 e_w_eqIntS.ps e_w_eqIntS.rs x = e_w_eqIntS.F x := by kernel_rfl
theorem o_w_eqIntS : FnOk Try.prog e_w_eqIntS.f ∧ Ctr Try.prog e_w_eqIntS := mkCtr (C := c_w_eqIntS) m_ (trivial) Try.func22 (by kernel_rfl) k_w_eqIntS
/-! loop.example/g00959/laws.eqCone -/
noncomputable def w_eqCone (x0 : (List Int) × (List Int)) (x1 : (List Int) × (List Int)) : Option (Bool) :=
(w_eqIntS x0.1 x1.1).bind fun v1 => cond (!v1)
 (some false)
 ((w_eqIntS x0.2 x1.2).bind fun v2 => cond (!v2)
 (some false)
 (some true))
noncomputable def e_w_eqCone : CallE := ⟨23, [.d false (.prod (.list (.int .i64)) (.list (.int .i64))), .d false (.prod (.list (.int .i64)) (.list (.int .i64)))], [.l (.d false .bool)], fun x => w_eqCone x.1 x.2⟩
noncomputable def c_w_eqCone : Ctx := ⟨Try.prog, TT, [e_w_eqIntS], [], [], []⟩
theorem k_w_eqCone (x : PMs.den e_w_eqCone.ps) : funK c_w_eqCone Try.f23 e_w_eqCone.ps e_w_eqCone.rs x = e_w_eqCone.F x := by kernel_rfl
theorem o_w_eqCone : FnOk Try.prog e_w_eqCone.f ∧ Ctr Try.prog e_w_eqCone := mkCtr (C := c_w_eqCone) m_ (⟨o_w_eqIntS, trivial⟩) Try.func23 (by kernel_rfl) k_w_eqCone
/-! loop.example/g00959/laws.markIntS -/
noncomputable def w_markIntS_s2 (v1 : List Int × Int × Int) : Option ((List Int × Int × Int) ⊕ (List Int × Int)) :=
cond (decide (v1.2.2 < (v1.1.length : Int)))
 ((inIdx v1.1.length v1.2.2).bind fun _ => (inIdx v1.1.length ((v1.2.2).toNat : Int)).bind fun _ => some (.inl ((v1.1.set ((v1.2.2).toNat) v1.2.1), ((IntKind.i64.wrap (v1.2.1 + (1 : Int))), (IntKind.i64.wrap (v1.2.2 + (1 : Int)))))))
 (some (.inr (v1.1, v1.2.1)))
noncomputable def w_markIntS (x0 : List Int) (x1 : Int) : Option ((Int) × (List Int) × Unit) :=
(iter (w_markIntS_s2) (x0, (x1, (0 : Int)))).bind fun v2 => some (v2.2, (v2.1, ()))
noncomputable def e_w_markIntS : CallE := ⟨25, [.io true 3 (.int .i64), .d false (.int .i64)], [.l (.d false (.int .i64))], fun x => w_markIntS x.1 x.2⟩
noncomputable def c_w_markIntS : Ctx := ⟨Try.prog, TT, [], [⟨2, [(0, .l (.o true 3 (.int .i64))), (1, .l (.d false (.int .i64))), (5, .l (.d false (.int .i64)))], some (0, [(0, .l (.o true 3 (.int .i64))), (1, .l (.d false (.int .i64)))]), none⟩], [], []⟩
theorem k_w_markIntS (x : PMs.den e_w_markIntS.ps) : funK c_w_markIntS Try.f25 e_w_markIntS.ps e_w_markIntS.rs x = e_w_markIntS.F x := by kernel_rfl
theorem o_w_markIntS : FnOk Try.prog e_w_markIntS.f ∧ Ctr Try.prog e_w_markIntS := mkCtr (C := c_w_markIntS) m_ (trivial) Try.func25 (by kernel_rfl) k_w_markIntS
/-! loop.example/g00959/laws.heldIntS -/
noncomputable def w_heldIntS_s2 (x0 : List Int) (v1 : Int × Int) : Option ((Int × Int) ⊕ ((Int) ⊕ (Int))) :=
cond (decide (v1.2 < (x0.length : Int)))
 ((idx x0 v1.2).bind fun v2 => cond (v2 != v1.1)
 (some (.inr (.inr (-1 : Int))))
 (some (.inl ((IntKind.i64.wrap (v1.1 + (1 : Int))), (IntKind.i64.wrap (v1.2 + (1 : Int)))))))
 (some (.inr (.inl v1.1)))
noncomputable def w_heldIntS (x0 : List Int) (x1 : Int) : Option (Int) :=
(iter (w_heldIntS_s2 x0) (x1, (0 : Int))).bind fun v3 => match v3 with
 | .inl v4 => (some v4)
 | .inr v5 => (some v5)
noncomputable def e_w_heldIntS : CallE := ⟨26, [.d false (.list (.int .i64)), .d false (.int .i64)], [.l (.d false (.int .i64))], fun x => w_heldIntS x.1 x.2⟩
noncomputable def c_w_heldIntS : Ctx := ⟨Try.prog, TT, [], [⟨2, [(1, .l (.d false (.int .i64))), (5, .l (.d false (.int .i64)))], some (0, [(1, .l (.d false (.int .i64)))]), some [(4, .l (.d false (.int .i64)))]⟩], [], []⟩
theorem k_w_heldIntS (x : PMs.den e_w_heldIntS.ps) : funK c_w_heldIntS Try.f26 e_w_heldIntS.ps e_w_heldIntS.rs x = e_w_heldIntS.F x := by kernel_rfl
theorem o_w_heldIntS : FnOk Try.prog e_w_heldIntS.f ∧ Ctr Try.prog e_w_heldIntS := mkCtr (C := c_w_heldIntS) m_ (trivial) Try.func26 (by kernel_rfl) k_w_heldIntS
/-! loop.example/g00959/laws.FnExactExpressIn -/
noncomputable def w_FnExactExpressIn (x0 : (List Int) × (List Int)) (x1 : List Int) : Option (Bool) :=
cond (decide ((x1.length : Int) > (1048576 : Int)))
 (some true)
 ((w_szCone (x0.1, x0.2) (1048576 : Int)).bind fun v1 => cond (decide (v1 < (0 : Int)))
 (some true)
 ((w_toCone (x0.1, x0.2)).bind fun v2 => (w_toIntS x1).bind fun v3 => (s_ExpressIn (v2.1, v2.2) v3).bind fun v4 => (w_toCone (x0.1, x0.2)).bind fun v5 => (w_toIntS x1).bind fun v6 => (i_ExpressIn (v5.1, v5.2) v6).bind fun v7 => (w_eqIntS v7.1 v4.1).bind fun v8 => cond (!v8)
 (some false)
 (cond (!(v7.2 == v4.2))
 (some false)
 ((w_toCone (x0.1, x0.2)).bind fun v9 => (w_eqCone (v5.1, v5.2) (v9.1, v9.2)).bind fun v10 => cond (!v10)
 (some false)
 ((w_toIntS x1).bind fun v11 => (w_eqIntS v6 v11).bind fun v12 => cond (!v12)
 (some false)
 ((w_markIntS v5.1 (1 : Int)).bind fun v13 => (w_markIntS v5.2 v13.1).bind fun v14 => (w_markIntS v6 v14.1).bind fun v15 => cond (decide (v15.1 < (0 : Int)))
 (some false)
 ((w_eqIntS v7.1 v4.1).bind fun v16 => cond (!v16)
 (some false)
 (cond (!(v7.2 == v4.2))
 (some false)
 ((w_markIntS v7.1 (1 : Int)).bind fun v17 => (w_heldIntS v17.2.1 (1 : Int)).bind fun v18 => cond (decide (v18 < (0 : Int)))
 (some false)
 (cond (v18 != v17.1)
 (some false)
 ((w_toCone (x0.1, x0.2)).bind fun v19 => (w_toIntS x1).bind fun v20 => (i_ExpressIn (v19.1, v19.2) v20).bind fun v21 => (w_eqIntS v21.1 v4.1).bind fun v22 => cond (!v22)
 (some false)
 (cond (!(v21.2 == v4.2))
 (some false)
 ((w_heldIntS v17.2.1 (1 : Int)).bind fun v23 => cond (decide (v23 < (0 : Int)))
 (some false)
 (cond (v23 != v17.1)
 (some false)
 (some true)))))))))))))))
noncomputable def e_w_FnExactExpressIn : CallE := ⟨3, [.d false (.prod (.list (.int .i64)) (.list (.int .i64))), .d false (.list (.int .i64))], [.l (.d false .bool)], fun x => w_FnExactExpressIn x.1 x.2⟩
noncomputable def c_w_FnExactExpressIn_24 : Ctx := ⟨Try.prog, TT, [e_w_markIntS], [], [], []⟩
noncomputable def n_w_FnExactExpressIn_24 : InE := ⟨24, true, inlK c_w_FnExactExpressIn_24 Try.f24⟩
theorem q_w_FnExactExpressIn_24 : FnOk Try.prog n_w_FnExactExpressIn_24.f ∧ InOk Try.prog n_w_FnExactExpressIn_24 := mkInlD (C := c_w_FnExactExpressIn_24) m_ (⟨o_w_markIntS, trivial⟩) Try.func24 (by kernel_rfl) (by kernel_rfl) rfl
noncomputable def c_w_FnExactExpressIn : Ctx := ⟨Try.prog, TT, [e_w_szCone, e_w_toCone, e_w_toIntS, e_s_ExpressIn, e_i_ExpressIn, e_w_eqIntS, e_w_eqCone, e_w_markIntS, e_w_heldIntS], [], [], [n_w_FnExactExpressIn_24]⟩
theorem k_w_FnExactExpressIn (x : PMs.den e_w_FnExactExpressIn.ps) : funK c_w_FnExactExpressIn Try.f3 e_w_FnExactExpressIn.ps e_w_FnExactExpressIn.rs x = e_w_FnExactExpressIn.F x := by kernel_rfl
theorem o_w_FnExactExpressIn : FnOk Try.prog e_w_FnExactExpressIn.f ∧ Ctr Try.prog e_w_FnExactExpressIn := mkCtr (C := c_w_FnExactExpressIn) m_ (⟨o_w_szCone, o_w_toCone, o_w_toIntS, o_s_ExpressIn, o_i_ExpressIn, o_w_eqIntS, o_w_eqCone, o_w_markIntS, o_w_heldIntS, trivial⟩) Try.func3 (by kernel_rfl) k_w_FnExactExpressIn ⟨q_w_FnExactExpressIn_24, trivial⟩
/-! loop.example/g00959/spec.LengthIn -/
noncomputable def s_LengthIn_s6 (v1 : List Int × Bool) (v2 : Int × Int) : Option ((Int × Int) ⊕ (Int)) :=
cond (decide (v2.2 < (v1.1.length : Int)))
 ((idx v1.1 v2.2).bind fun v3 => some (.inl ((IntKind.i64.wrap (v2.1 + v3)), (IntKind.i64.wrap (v2.2 + (1 : Int))))))
 (some (.inr v2.1))
noncomputable def s_LengthIn (x0 : (List Int) × (List Int)) (x1 : List Int) : Option (Int) :=
(s_ExpressIn (x0.1, x0.2) x1).bind fun v1 => cond (!v1.2)
 (some (-1 : Int))
 ((iter (s_LengthIn_s6 v1) ((0 : Int), (0 : Int))).bind fun v4 => some v4)
noncomputable def e_s_LengthIn : CallE := ⟨27, [.d false (.prod (.list (.int .i64)) (.list (.int .i64))), .d false (.list (.int .i64))], [.l (.d false (.int .i64))], fun x => s_LengthIn x.1 x.2⟩
noncomputable def c_s_LengthIn : Ctx := ⟨Try.prog, TT, [e_s_ExpressIn], [⟨6, [(7, .l (.d false (.int .i64))), (8, .l (.d false (.int .i64)))], some (0, [(7, .l (.d false (.int .i64)))]), none⟩], [], []⟩
theorem k_s_LengthIn (x : PMs.den e_s_LengthIn.ps) : funK c_s_LengthIn Try.f27 e_s_LengthIn.ps e_s_LengthIn.rs x = e_s_LengthIn.F x := by kernel_rfl
theorem o_s_LengthIn : FnOk Try.prog e_s_LengthIn.f ∧ Ctr Try.prog e_s_LengthIn := mkCtr (C := c_s_LengthIn) m_ (⟨o_s_ExpressIn, trivial⟩) Try.func27 (by kernel_rfl) k_s_LengthIn
/-! loop.example/g00959/impl.LengthIn -/
noncomputable def i_LengthIn_s6 (v1 : List Int × Bool) (v2 : Int × Int) : Option ((Int × Int) ⊕ (Int)) :=
cond (decide (v2.2 < (v1.1.length : Int)))
 ((idx v1.1 v2.2).bind fun v3 => some (.inl ((IntKind.i64.wrap (v2.1 + v3)), (IntKind.i64.wrap (v2.2 + (1 : Int))))))
 (some (.inr v2.1))
noncomputable def i_LengthIn (x0 : (List Int) × (List Int)) (x1 : List Int) : Option (Int) :=
(i_ExpressIn (x0.1, x0.2) x1).bind fun v1 => cond (!v1.2)
 (some (-1 : Int))
 ((iter (i_LengthIn_s6 v1) ((0 : Int), (0 : Int))).bind fun v4 => some v4)
noncomputable def e_i_LengthIn : CallE := ⟨28, [.d false (.prod (.list (.int .i64)) (.list (.int .i64))), .d false (.list (.int .i64))], [.l (.d false (.int .i64))], fun x => i_LengthIn x.1 x.2⟩
noncomputable def c_i_LengthIn : Ctx := ⟨Try.prog, TT, [e_i_ExpressIn], [⟨6, [(7, .l (.d false (.int .i64))), (20, .l (.d false (.int .i64)))], some (0, [(7, .l (.d false (.int .i64)))]), none⟩], [], []⟩
theorem k_i_LengthIn (x : PMs.den e_i_LengthIn.ps) : funK c_i_LengthIn Try.f28 e_i_LengthIn.ps e_i_LengthIn.rs x = e_i_LengthIn.F x := by kernel_rfl
theorem o_i_LengthIn : FnOk Try.prog e_i_LengthIn.f ∧ Ctr Try.prog e_i_LengthIn := mkCtr (C := c_i_LengthIn) m_ (⟨o_i_ExpressIn, trivial⟩) Try.func28 (by kernel_rfl) k_i_LengthIn
/-! loop.example/g00959/laws.FnExactLengthIn -/
noncomputable def w_FnExactLengthIn (x0 : (List Int) × (List Int)) (x1 : List Int) : Option (Bool) :=
cond (decide ((x1.length : Int) > (1048576 : Int)))
 (some true)
 ((w_szCone (x0.1, x0.2) (1048576 : Int)).bind fun v1 => cond (decide (v1 < (0 : Int)))
 (some true)
 ((w_toCone (x0.1, x0.2)).bind fun v2 => (w_toIntS x1).bind fun v3 => (s_LengthIn (v2.1, v2.2) v3).bind fun v4 => (w_toCone (x0.1, x0.2)).bind fun v5 => (w_toIntS x1).bind fun v6 => (i_LengthIn (v5.1, v5.2) v6).bind fun v7 => cond (v7 != v4)
 (some false)
 ((w_toCone (x0.1, x0.2)).bind fun v8 => (w_eqCone (v5.1, v5.2) (v8.1, v8.2)).bind fun v9 => cond (!v9)
 (some false)
 ((w_toIntS x1).bind fun v10 => (w_eqIntS v6 v10).bind fun v11 => cond (!v11)
 (some false)
 (some true)))))
noncomputable def e_w_FnExactLengthIn : CallE := ⟨4, [.d false (.prod (.list (.int .i64)) (.list (.int .i64))), .d false (.list (.int .i64))], [.l (.d false .bool)], fun x => w_FnExactLengthIn x.1 x.2⟩
noncomputable def c_w_FnExactLengthIn : Ctx := ⟨Try.prog, TT, [e_w_szCone, e_w_toCone, e_w_toIntS, e_s_LengthIn, e_i_LengthIn, e_w_eqCone, e_w_eqIntS], [], [], []⟩
theorem k_w_FnExactLengthIn (x : PMs.den e_w_FnExactLengthIn.ps) : funK c_w_FnExactLengthIn Try.f4 e_w_FnExactLengthIn.ps e_w_FnExactLengthIn.rs x = e_w_FnExactLengthIn.F x := by kernel_rfl
theorem o_w_FnExactLengthIn : FnOk Try.prog e_w_FnExactLengthIn.f ∧ Ctr Try.prog e_w_FnExactLengthIn := mkCtr (C := c_w_FnExactLengthIn) m_ (⟨o_w_szCone, o_w_toCone, o_w_toIntS, o_s_LengthIn, o_i_LengthIn, o_w_eqCone, o_w_eqIntS, trivial⟩) Try.func4 (by kernel_rfl) k_w_FnExactLengthIn
/-! loop.example/g00959/spec.IsSumOfTwo -/
noncomputable def s_IsSumOfTwo (x0 : (List Int) × (List Int)) (x1 : List Int) : Option (Bool) :=
(s_LengthIn (x0.1, x0.2) x1).bind fun v1 => some (decide (v1 > (1 : Int)))
noncomputable def e_s_IsSumOfTwo : CallE := ⟨29, [.d false (.prod (.list (.int .i64)) (.list (.int .i64))), .d false (.list (.int .i64))], [.l (.d false .bool)], fun x => s_IsSumOfTwo x.1 x.2⟩
noncomputable def c_s_IsSumOfTwo : Ctx := ⟨Try.prog, TT, [e_s_LengthIn], [], [], []⟩
theorem k_s_IsSumOfTwo (x : PMs.den e_s_IsSumOfTwo.ps) : funK c_s_IsSumOfTwo Try.f29 e_s_IsSumOfTwo.ps e_s_IsSumOfTwo.rs x = e_s_IsSumOfTwo.F x := by kernel_rfl
theorem o_s_IsSumOfTwo : FnOk Try.prog e_s_IsSumOfTwo.f ∧ Ctr Try.prog e_s_IsSumOfTwo := mkCtr (C := c_s_IsSumOfTwo) m_ (⟨o_s_LengthIn, trivial⟩) Try.func29 (by kernel_rfl) k_s_IsSumOfTwo
/-! loop.example/g00959/impl.IsSumOfTwo -/
noncomputable def i_IsSumOfTwo (x0 : (List Int) × (List Int)) (x1 : List Int) : Option (Bool) :=
(i_LengthIn (x0.1, x0.2) x1).bind fun v1 => some (decide (v1 ≥ (2 : Int)))
noncomputable def e_i_IsSumOfTwo : CallE := ⟨30, [.d false (.prod (.list (.int .i64)) (.list (.int .i64))), .d false (.list (.int .i64))], [.l (.d false .bool)], fun x => i_IsSumOfTwo x.1 x.2⟩
noncomputable def c_i_IsSumOfTwo : Ctx := ⟨Try.prog, TT, [e_i_LengthIn], [], [], []⟩
theorem k_i_IsSumOfTwo (x : PMs.den e_i_IsSumOfTwo.ps) : funK c_i_IsSumOfTwo Try.f30 e_i_IsSumOfTwo.ps e_i_IsSumOfTwo.rs x = e_i_IsSumOfTwo.F x := by kernel_rfl
theorem o_i_IsSumOfTwo : FnOk Try.prog e_i_IsSumOfTwo.f ∧ Ctr Try.prog e_i_IsSumOfTwo := mkCtr (C := c_i_IsSumOfTwo) m_ (⟨o_i_LengthIn, trivial⟩) Try.func30 (by kernel_rfl) k_i_IsSumOfTwo
/-! loop.example/g00959/laws.FnExactIsSumOfTwo -/
noncomputable def w_FnExactIsSumOfTwo (x0 : (List Int) × (List Int)) (x1 : List Int) : Option (Bool) :=
cond (decide ((x1.length : Int) > (1048576 : Int)))
 (some true)
 ((w_szCone (x0.1, x0.2) (1048576 : Int)).bind fun v1 => cond (decide (v1 < (0 : Int)))
 (some true)
 ((w_toCone (x0.1, x0.2)).bind fun v2 => (w_toIntS x1).bind fun v3 => (s_IsSumOfTwo (v2.1, v2.2) v3).bind fun v4 => (w_toCone (x0.1, x0.2)).bind fun v5 => (w_toIntS x1).bind fun v6 => (i_IsSumOfTwo (v5.1, v5.2) v6).bind fun v7 => cond (!(v7 == v4))
 (some false)
 ((w_toCone (x0.1, x0.2)).bind fun v8 => (w_eqCone (v5.1, v5.2) (v8.1, v8.2)).bind fun v9 => cond (!v9)
 (some false)
 ((w_toIntS x1).bind fun v10 => (w_eqIntS v6 v10).bind fun v11 => cond (!v11)
 (some false)
 (some true)))))
noncomputable def e_w_FnExactIsSumOfTwo : CallE := ⟨5, [.d false (.prod (.list (.int .i64)) (.list (.int .i64))), .d false (.list (.int .i64))], [.l (.d false .bool)], fun x => w_FnExactIsSumOfTwo x.1 x.2⟩
noncomputable def c_w_FnExactIsSumOfTwo : Ctx := ⟨Try.prog, TT, [e_w_szCone, e_w_toCone, e_w_toIntS, e_s_IsSumOfTwo, e_i_IsSumOfTwo, e_w_eqCone, e_w_eqIntS], [], [], []⟩
theorem k_w_FnExactIsSumOfTwo (x : PMs.den e_w_FnExactIsSumOfTwo.ps) : funK c_w_FnExactIsSumOfTwo Try.f5 e_w_FnExactIsSumOfTwo.ps e_w_FnExactIsSumOfTwo.rs x = e_w_FnExactIsSumOfTwo.F x := by kernel_rfl
theorem o_w_FnExactIsSumOfTwo : FnOk Try.prog e_w_FnExactIsSumOfTwo.f ∧ Ctr Try.prog e_w_FnExactIsSumOfTwo := mkCtr (C := c_w_FnExactIsSumOfTwo) m_ (⟨o_w_szCone, o_w_toCone, o_w_toIntS, o_s_IsSumOfTwo, o_i_IsSumOfTwo, o_w_eqCone, o_w_eqIntS, trivial⟩) Try.func5 (by kernel_rfl) k_w_FnExactIsSumOfTwo
/-! loop.example/g00959/spec.l2Add -/
noncomputable def s_l2Add_s3 (x0 : List Int) (x1 : List Int) (v1 : List Int × Int) : Option ((List Int × Int) ⊕ (List Int)) :=
cond (decide (v1.2 < (x0.length : Int)))
 ((idx x0 v1.2).bind fun v2 => (idx x1 v1.2).bind fun v3 => (appD 8 v1.1 ([(IntKind.i64.wrap (v2 + v3))] : List Int)).bind fun v4 => some (.inl (v4, (IntKind.i64.wrap (v1.2 + (1 : Int))))))
 (some (.inr v1.1))
noncomputable def s_l2Add (x0 : List Int) (x1 : List Int) : Option (List Int) :=
(iter (s_l2Add_s3 x0 x1) (([] : List Int), (0 : Int))).bind fun v5 => some v5
noncomputable def e_s_l2Add : CallE := ⟨127, [.d false (.list (.int .i64)), .d false (.list (.int .i64))], [.l (.o true 3 (.int .i64))], fun x => s_l2Add x.1 x.2⟩
noncomputable def c_s_l2Add : Ctx := ⟨Try.prog, TT, [], [⟨3, [(5, .l (.o true 3 (.int .i64))), (6, .l (.d false (.int .i64)))], some (0, [(5, .l (.o true 3 (.int .i64)))]), none⟩], [], []⟩
theorem k_s_l2Add (x : PMs.den e_s_l2Add.ps) : funK c_s_l2Add Try.f127 e_s_l2Add.ps e_s_l2Add.rs x = e_s_l2Add.F x := by kernel_rfl
theorem o_s_l2Add : FnOk Try.prog e_s_l2Add.f ∧ Ctr Try.prog e_s_l2Add := mkCtr (C := c_s_l2Add) m_ (trivial) Try.func127 (by kernel_rfl) k_s_l2Add
/-! loop.example/g00959/spec.l1Bit -/
noncomputable def s_l1Bit (x0 : Bool) : Option (Int) :=
cond x0
 (some (1 : Int))
 (some (0 : Int))
noncomputable def e_s_l1Bit : CallE := ⟨116, [.d false .bool], [.l (.d false (.int .i64))], fun x => s_l1Bit x⟩
noncomputable def c_s_l1Bit : Ctx := ⟨Try.prog, TT, [], [], [], []⟩
theorem k_s_l1Bit (x : PMs.den e_s_l1Bit.ps) : funK c_s_l1Bit Try.f116 e_s_l1Bit.ps e_s_l1Bit.rs x = e_s_l1Bit.F x := by kernel_rfl
theorem o_s_l1Bit : FnOk Try.prog e_s_l1Bit.f ∧ Ctr Try.prog e_s_l1Bit := mkCtr (C := c_s_l1Bit) m_ (trivial) Try.func116 (by kernel_rfl) k_s_l1Bit
/-! loop.example/g00959/spec.TurnsOf -/
noncomputable def s_TurnsOf_s4 (v1 : List (List Int)) (v2 : List Int × Int) : Option ((List Int × Int) ⊕ (List Int)) :=
cond (decide ((IntKind.i64.wrap (v2.2 + (1 : Int))) < (v1.length : Int)))
 ((idx v1 (IntKind.i64.wrap (v2.2 - (1 : Int)))).bind fun v3 => (idx v1 (IntKind.i64.wrap (v2.2 + (1 : Int)))).bind fun v4 => (s_l2Add v3 v4).bind fun v5 => (idx v1 v2.2).bind fun v6 => (idx v6 (0 : Int)).bind fun v7 => (s_l1Bit (v7 == (0 : Int))).bind fun v8 => (inIdx v5.length v8).bind fun _ => (idx v5 ((v8).toNat : Int)).bind fun v9 => (idx v1 v2.2).bind fun v10 => (idx v10 v8).bind fun v11 => (quoI .i64 v9 v11).bind fun v12 => (appD 8 v2.1 ([v12] : List Int)).bind fun v13 => some (.inl (v13, (IntKind.i64.wrap (v2.2 + (1 : Int))))))
 (some (.inr v2.1))
noncomputable def s_TurnsOf (x0 : (List Int) × (List Int)) : Option (List Int) :=
(s_SplitCone (x0.1, x0.2)).bind fun v1 => (iter (s_TurnsOf_s4 v1) (([] : List Int), (1 : Int))).bind fun v14 => some v14
noncomputable def e_s_TurnsOf : CallE := ⟨76, [.d false (.prod (.list (.int .i64)) (.list (.int .i64)))], [.l (.o true 3 (.int .i64))], fun x => s_TurnsOf x⟩
noncomputable def c_s_TurnsOf : Ctx := ⟨Try.prog, TT, [e_s_SplitCone, e_s_l2Add, e_s_l1Bit], [⟨4, [(3, .l (.o true 3 (.int .i64))), (5, .l (.d false (.int .i64)))], some (0, [(3, .l (.o true 3 (.int .i64)))]), none⟩], [], []⟩
theorem k_s_TurnsOf (x : PMs.den e_s_TurnsOf.ps) : funK c_s_TurnsOf Try.f76 e_s_TurnsOf.ps e_s_TurnsOf.rs x = e_s_TurnsOf.F x := by kernel_rfl
theorem o_s_TurnsOf : FnOk Try.prog e_s_TurnsOf.f ∧ Ctr Try.prog e_s_TurnsOf := mkCtr (C := c_s_TurnsOf) m_ (⟨o_s_SplitCone, o_s_l2Add, o_s_l1Bit, trivial⟩) Try.func76 (by kernel_rfl) k_s_TurnsOf
/-! loop.example/g00959/spec.DualTurns -/
noncomputable def s_DualTurns (x0 : (List Int) × (List Int)) : Option (List Int) :=
(s_IsCone (x0.1, x0.2)).bind fun v1 => cond (!v1)
 (some ([] : List Int))
 ((s_l7Cross x0.1 x0.2).bind fun v2 => (s_l9Bezout x0.1).bind fun v3 => (s_l7Cross x0.2 v3).bind fun v4 => (s_l3Floor (IntKind.i64.wrap (0 - v4)) v2).bind fun v5 => (s_TurnsOf (([(1 : Int), (0 : Int)] : List Int), ([(IntKind.i64.wrap (0 - (IntKind.i64.wrap ((IntKind.i64.wrap (v5 * v2)) + v4)))), v2] : List Int))).bind fun v6 => some v6)
noncomputable def e_s_DualTurns : CallE := ⟨31, [.d false (.prod (.list (.int .i64)) (.list (.int .i64)))], [.l (.o true 3 (.int .i64))], fun x => s_DualTurns x⟩
noncomputable def c_s_DualTurns : Ctx := ⟨Try.prog, TT, [e_s_IsCone, e_s_l7Cross, e_s_l9Bezout, e_s_l3Floor, e_s_TurnsOf], [], [], []⟩
theorem k_s_DualTurns (x : PMs.den e_s_DualTurns.ps) : funK c_s_DualTurns Try.f31 e_s_DualTurns.ps e_s_DualTurns.rs x = e_s_DualTurns.F x := by kernel_rfl
theorem o_s_DualTurns : FnOk Try.prog e_s_DualTurns.f ∧ Ctr Try.prog e_s_DualTurns := mkCtr (C := c_s_DualTurns) m_ (⟨o_s_IsCone, o_s_l7Cross, o_s_l9Bezout, o_s_l3Floor, o_s_TurnsOf, trivial⟩) Try.func31 (by kernel_rfl) k_s_DualTurns
/-! loop.example/g00959/impl.ConeIndex -/
noncomputable def i_ConeIndex (x0 : (List Int) × (List Int)) : Option (Int) :=
(i_IsCone (x0.1, x0.2)).bind fun v1 => cond (!v1)
 (some (0 : Int))
 ((i_cross x0.1 x0.2).bind fun v2 => some v2)
noncomputable def e_i_ConeIndex : CallE := ⟨77, [.d false (.prod (.list (.int .i64)) (.list (.int .i64)))], [.l (.d false (.int .i64))], fun x => i_ConeIndex x⟩
noncomputable def c_i_ConeIndex : Ctx := ⟨Try.prog, TT, [e_i_IsCone, e_i_cross], [], [], []⟩
theorem k_i_ConeIndex (x : PMs.den e_i_ConeIndex.ps) : funK c_i_ConeIndex Try.f77 e_i_ConeIndex.ps e_i_ConeIndex.rs x = e_i_ConeIndex.F x := by kernel_rfl
theorem o_i_ConeIndex : FnOk Try.prog e_i_ConeIndex.f ∧ Ctr Try.prog e_i_ConeIndex := mkCtr (C := c_i_ConeIndex) m_ (⟨o_i_IsCone, o_i_cross, trivial⟩) Try.func77 (by kernel_rfl) k_i_ConeIndex
/-! loop.example/g00959/impl.TurnsOf -/
noncomputable def i_TurnsOf_s4 (v1 : List (List Int)) (v2 : List Int × Int) : Option ((List Int × Int) ⊕ (List Int)) :=
cond (decide ((IntKind.i64.wrap (v2.2 + (1 : Int))) < (v1.length : Int)))
 ((idx v1 (IntKind.i64.wrap (v2.2 - (1 : Int)))).bind fun v3 => (idx v1 (IntKind.i64.wrap (v2.2 + (1 : Int)))).bind fun v4 => (i_cross v3 v4).bind fun v5 => (appD 8 v2.1 ([v5] : List Int)).bind fun v6 => some (.inl (v6, (IntKind.i64.wrap (v2.2 + (1 : Int))))))
 (some (.inr v2.1))
noncomputable def i_TurnsOf (x0 : (List Int) × (List Int)) : Option (List Int) :=
(i_SplitCone (x0.1, x0.2)).bind fun v1 => (iter (i_TurnsOf_s4 v1) (([] : List Int), (1 : Int))).bind fun v7 => some v7
noncomputable def e_i_TurnsOf : CallE := ⟨79, [.d false (.prod (.list (.int .i64)) (.list (.int .i64)))], [.l (.o true 3 (.int .i64))], fun x => i_TurnsOf x⟩
noncomputable def c_i_TurnsOf : Ctx := ⟨Try.prog, TT, [e_i_SplitCone, e_i_cross], [⟨4, [(4, .l (.o true 3 (.int .i64))), (5, .l (.d false (.int .i64)))], some (0, [(4, .l (.o true 3 (.int .i64)))]), none⟩], [], []⟩
theorem k_i_TurnsOf (x : PMs.den e_i_TurnsOf.ps) : funK c_i_TurnsOf Try.f79 e_i_TurnsOf.ps e_i_TurnsOf.rs x = e_i_TurnsOf.F x := by kernel_rfl
theorem o_i_TurnsOf : FnOk Try.prog e_i_TurnsOf.f ∧ Ctr Try.prog e_i_TurnsOf := mkCtr (C := c_i_TurnsOf) m_ (⟨o_i_SplitCone, o_i_cross, trivial⟩) Try.func79 (by kernel_rfl) k_i_TurnsOf
/-! loop.example/g00959/impl.DualTurns -/
noncomputable def i_DualTurns (x0 : (List Int) × (List Int)) : Option (List Int) :=
(i_ConeIndex (x0.1, x0.2)).bind fun v1 => cond (v1 == (0 : Int))
 (some ([] : List Int))
 ((i_partner x0.1).bind fun v2 => (i_cross x0.2 v2).bind fun v3 => (remI .i64 (IntKind.i64.wrap (0 - v3)) v1).bind fun v4 => (remI .i64 (IntKind.i64.wrap (v4 + v1)) v1).bind fun v5 => (i_TurnsOf (([(1 : Int), (0 : Int)] : List Int), ([v5, v1] : List Int))).bind fun v6 => some v6)
noncomputable def e_i_DualTurns : CallE := ⟨32, [.d false (.prod (.list (.int .i64)) (.list (.int .i64)))], [.l (.o true 3 (.int .i64))], fun x => i_DualTurns x⟩
noncomputable def c_i_DualTurns : Ctx := ⟨Try.prog, TT, [e_i_ConeIndex, e_i_partner, e_i_cross, e_i_TurnsOf], [], [], []⟩
theorem k_i_DualTurns (x : PMs.den e_i_DualTurns.ps) : funK c_i_DualTurns Try.f32 e_i_DualTurns.ps e_i_DualTurns.rs x = e_i_DualTurns.F x := by kernel_rfl
theorem o_i_DualTurns : FnOk Try.prog e_i_DualTurns.f ∧ Ctr Try.prog e_i_DualTurns := mkCtr (C := c_i_DualTurns) m_ (⟨o_i_ConeIndex, o_i_partner, o_i_cross, o_i_TurnsOf, trivial⟩) Try.func32 (by kernel_rfl) k_i_DualTurns
/-! loop.example/g00959/laws.FnExactDualTurns -/
noncomputable def w_FnExactDualTurns (x0 : (List Int) × (List Int)) : Option (Bool) :=
(w_szCone (x0.1, x0.2) (1048576 : Int)).bind fun v1 => cond (decide (v1 < (0 : Int)))
 (some true)
 ((w_toCone (x0.1, x0.2)).bind fun v2 => (s_DualTurns (v2.1, v2.2)).bind fun v3 => (w_toCone (x0.1, x0.2)).bind fun v4 => (i_DualTurns (v4.1, v4.2)).bind fun v5 => (w_eqIntS v5 v3).bind fun v6 => cond (!v6)
 (some false)
 ((w_toCone (x0.1, x0.2)).bind fun v7 => (w_eqCone (v4.1, v4.2) (v7.1, v7.2)).bind fun v8 => cond (!v8)
 (some false)
 ((w_markIntS v4.1 (1 : Int)).bind fun v9 => (w_markIntS v4.2 v9.1).bind fun v10 => cond (decide (v10.1 < (0 : Int)))
 (some false)
 ((w_eqIntS v5 v3).bind fun v11 => cond (!v11)
 (some false)
 ((w_markIntS v5 (1 : Int)).bind fun v12 => (w_heldIntS v12.2.1 (1 : Int)).bind fun v13 => cond (decide (v13 < (0 : Int)))
 (some false)
 (cond (v13 != v12.1)
 (some false)
 ((w_toCone (x0.1, x0.2)).bind fun v14 => (i_DualTurns (v14.1, v14.2)).bind fun v15 => (w_eqIntS v15 v3).bind fun v16 => cond (!v16)
 (some false)
 ((w_heldIntS v12.2.1 (1 : Int)).bind fun v17 => cond (decide (v17 < (0 : Int)))
 (some false)
 (cond (v17 != v12.1)
 (some false)
 (some true))))))))))
noncomputable def e_w_FnExactDualTurns : CallE := ⟨6, [.d false (.prod (.list (.int .i64)) (.list (.int .i64)))], [.l (.d false .bool)], fun x => w_FnExactDualTurns x⟩
noncomputable def c_w_FnExactDualTurns_24 : Ctx := ⟨Try.prog, TT, [e_w_markIntS], [], [], []⟩
noncomputable def n_w_FnExactDualTurns_24 : InE := ⟨24, true, inlK c_w_FnExactDualTurns_24 Try.f24⟩
theorem q_w_FnExactDualTurns_24 : FnOk Try.prog n_w_FnExactDualTurns_24.f ∧ InOk Try.prog n_w_FnExactDualTurns_24 := mkInlD (C := c_w_FnExactDualTurns_24) m_ (⟨o_w_markIntS, trivial⟩) Try.func24 (by kernel_rfl) (by kernel_rfl) rfl
noncomputable def c_w_FnExactDualTurns : Ctx := ⟨Try.prog, TT, [e_w_szCone, e_w_toCone, e_s_DualTurns, e_i_DualTurns, e_w_eqIntS, e_w_eqCone, e_w_markIntS, e_w_heldIntS], [], [], [n_w_FnExactDualTurns_24]⟩
theorem k_w_FnExactDualTurns (x : PMs.den e_w_FnExactDualTurns.ps) : funK c_w_FnExactDualTurns Try.f6 e_w_FnExactDualTurns.ps e_w_FnExactDualTurns.rs x = e_w_FnExactDualTurns.F x := by kernel_rfl
theorem o_w_FnExactDualTurns : FnOk Try.prog e_w_FnExactDualTurns.f ∧ Ctr Try.prog e_w_FnExactDualTurns := mkCtr (C := c_w_FnExactDualTurns) m_ (⟨o_w_szCone, o_w_toCone, o_s_DualTurns, o_i_DualTurns, o_w_eqIntS, o_w_eqCone, o_w_markIntS, o_w_heldIntS, trivial⟩) Try.func6 (by kernel_rfl) k_w_FnExactDualTurns ⟨q_w_FnExactDualTurns_24, trivial⟩
/-! loop.example/g00959/spec.SailSteps -/
noncomputable def s_SailSteps_s5 (v1 : List Int) (v2 : List Int × Int × Int) : Option ((List Int × Int × Int) ⊕ (List Int × Int)) :=
cond (decide (v2.2.2 < (v1.length : Int)))
 ((idx v1 v2.2.2).bind fun v3 => cond (decide (v3 > (2 : Int)))
 ((appD 8 v2.1 ([v2.2.1] : List Int)).bind fun v4 => some (.inl (v4, ((IntKind.i64.wrap ((0 : Int) + (1 : Int))), (IntKind.i64.wrap (v2.2.2 + (1 : Int)))))))
 (some (.inl (v2.1, ((IntKind.i64.wrap (v2.2.1 + (1 : Int))), (IntKind.i64.wrap (v2.2.2 + (1 : Int))))))))
 (some (.inr (v2.1, v2.2.1)))
noncomputable def s_SailSteps (x0 : (List Int) × (List Int)) : Option (List Int) :=
(s_TurnsOf (x0.1, x0.2)).bind fun v1 => (iter (s_SailSteps_s5 v1) (([] : List Int), ((1 : Int), (0 : Int)))).bind fun v5 => (s_IsCone (x0.1, x0.2)).bind fun v6 => cond v6
 ((appD 8 v5.1 ([v5.2] : List Int)).bind fun v7 => some v7)
 (some v5.1)
noncomputable def e_s_SailSteps : CallE := ⟨33, [.d false (.prod (.list (.int .i64)) (.list (.int .i64)))], [.l (.o true 3 (.int .i64))], fun x => s_SailSteps x⟩
noncomputable def c_s_SailSteps : Ctx := ⟨Try.prog, TT, [e_s_TurnsOf, e_s_IsCone], [⟨5, [(3, .l (.o true 3 (.int .i64))), (5, .l (.d false (.int .i64))), (6, .l (.d false (.int .i64)))], some (0, [(3, .l (.o true 3 (.int .i64))), (5, .l (.d false (.int .i64)))]), none⟩], [], []⟩
theorem k_s_SailSteps (x : PMs.den e_s_SailSteps.ps) : funK c_s_SailSteps Try.f33 e_s_SailSteps.ps e_s_SailSteps.rs x = e_s_SailSteps.F x := by kernel_rfl
theorem o_s_SailSteps : FnOk Try.prog e_s_SailSteps.f ∧ Ctr Try.prog e_s_SailSteps := mkCtr (C := c_s_SailSteps) m_ (⟨o_s_TurnsOf, o_s_IsCone, trivial⟩) Try.func33 (by kernel_rfl) k_s_SailSteps
/-! loop.example/g00959/impl.corners -/
noncomputable def i_corners_s6 (v2 : List Int) (v3 : List Int × Int) : Option ((List Int × Int) ⊕ (List Int)) :=
cond (decide (v3.2 < (v2.length : Int)))
 ((idx v2 v3.2).bind fun v4 => cond (decide (v4 > (2 : Int)))
 ((appD 8 v3.1 ([(IntKind.i64.wrap (v3.2 + (1 : Int)))] : List Int)).bind fun v5 => some (.inl (v5, (IntKind.i64.wrap (v3.2 + (1 : Int))))))
 (some (.inl (v3.1, (IntKind.i64.wrap (v3.2 + (1 : Int)))))))
 (some (.inr v3.1))
noncomputable def i_corners (x0 : (List Int) × (List Int)) : Option (List Int) :=
(i_IsCone (x0.1, x0.2)).bind fun v1 => cond (!v1)
 (some ([] : List Int))
 ((i_TurnsOf (x0.1, x0.2)).bind fun v2 => (iter (i_corners_s6 v2) (([(0 : Int)] : List Int), (0 : Int))).bind fun v6 => (appD 8 v6 ([(IntKind.i64.wrap ((v2.length : Int) + (1 : Int)))] : List Int)).bind fun v7 => some v7)
noncomputable def e_i_corners : CallE := ⟨80, [.d false (.prod (.list (.int .i64)) (.list (.int .i64)))], [.l (.o true 3 (.int .i64))], fun x => i_corners x⟩
noncomputable def c_i_corners : Ctx := ⟨Try.prog, TT, [e_i_IsCone, e_i_TurnsOf], [⟨6, [(4, .l (.o true 3 (.int .i64))), (15, .l (.d false (.int .i64)))], some (0, [(4, .l (.o true 3 (.int .i64)))]), none⟩], [], []⟩
theorem k_i_corners (x : PMs.den e_i_corners.ps) : funK c_i_corners Try.f80 e_i_corners.ps e_i_corners.rs x = e_i_corners.F x := by kernel_rfl
theorem o_i_corners : FnOk Try.prog e_i_corners.f ∧ Ctr Try.prog e_i_corners := mkCtr (C := c_i_corners) m_ (⟨o_i_IsCone, o_i_TurnsOf, trivial⟩) Try.func80 (by kernel_rfl) k_i_corners
/-! loop.example/g00959/impl.SailSteps -/
noncomputable def i_SailSteps_s4 (v1 : List Int) (v2 : List Int × Int) : Option ((List Int × Int) ⊕ (List Int)) :=
cond (decide (v2.2 < (v1.length : Int)))
 ((idx v1 v2.2).bind fun v3 => (idx v1 (IntKind.i64.wrap (v2.2 - (1 : Int)))).bind fun v4 => (appD 8 v2.1 ([(IntKind.i64.wrap (v3 - v4))] : List Int)).bind fun v5 => some (.inl (v5, (IntKind.i64.wrap (v2.2 + (1 : Int))))))
 (some (.inr v2.1))
noncomputable def i_SailSteps (x0 : (List Int) × (List Int)) : Option (List Int) :=
(i_corners (x0.1, x0.2)).bind fun v1 => (iter (i_SailSteps_s4 v1) (([] : List Int), (1 : Int))).bind fun v6 => some v6
noncomputable def e_i_SailSteps : CallE := ⟨34, [.d false (.prod (.list (.int .i64)) (.list (.int .i64)))], [.l (.o true 3 (.int .i64))], fun x => i_SailSteps x⟩
noncomputable def c_i_SailSteps : Ctx := ⟨Try.prog, TT, [e_i_corners], [⟨4, [(4, .l (.o true 3 (.int .i64))), (5, .l (.d false (.int .i64)))], some (0, [(4, .l (.o true 3 (.int .i64)))]), none⟩], [], []⟩
theorem k_i_SailSteps (x : PMs.den e_i_SailSteps.ps) : funK c_i_SailSteps Try.f34 e_i_SailSteps.ps e_i_SailSteps.rs x = e_i_SailSteps.F x := by kernel_rfl
theorem o_i_SailSteps : FnOk Try.prog e_i_SailSteps.f ∧ Ctr Try.prog e_i_SailSteps := mkCtr (C := c_i_SailSteps) m_ (⟨o_i_corners, trivial⟩) Try.func34 (by kernel_rfl) k_i_SailSteps
/-! loop.example/g00959/laws.FnExactSailSteps -/
noncomputable def w_FnExactSailSteps (x0 : (List Int) × (List Int)) : Option (Bool) :=
(w_szCone (x0.1, x0.2) (1048576 : Int)).bind fun v1 => cond (decide (v1 < (0 : Int)))
 (some true)
 ((w_toCone (x0.1, x0.2)).bind fun v2 => (s_SailSteps (v2.1, v2.2)).bind fun v3 => (w_toCone (x0.1, x0.2)).bind fun v4 => (i_SailSteps (v4.1, v4.2)).bind fun v5 => (w_eqIntS v5 v3).bind fun v6 => cond (!v6)
 (some false)
 ((w_toCone (x0.1, x0.2)).bind fun v7 => (w_eqCone (v4.1, v4.2) (v7.1, v7.2)).bind fun v8 => cond (!v8)
 (some false)
 ((w_markIntS v4.1 (1 : Int)).bind fun v9 => (w_markIntS v4.2 v9.1).bind fun v10 => cond (decide (v10.1 < (0 : Int)))
 (some false)
 ((w_eqIntS v5 v3).bind fun v11 => cond (!v11)
 (some false)
 ((w_markIntS v5 (1 : Int)).bind fun v12 => (w_heldIntS v12.2.1 (1 : Int)).bind fun v13 => cond (decide (v13 < (0 : Int)))
 (some false)
 (cond (v13 != v12.1)
 (some false)
 ((w_toCone (x0.1, x0.2)).bind fun v14 => (i_SailSteps (v14.1, v14.2)).bind fun v15 => (w_eqIntS v15 v3).bind fun v16 => cond (!v16)
 (some false)
 ((w_heldIntS v12.2.1 (1 : Int)).bind fun v17 => cond (decide (v17 < (0 : Int)))
 (some false)
 (cond (v17 != v12.1)
 (some false)
 (some true))))))))))
noncomputable def e_w_FnExactSailSteps : CallE := ⟨7, [.d false (.prod (.list (.int .i64)) (.list (.int .i64)))], [.l (.d false .bool)], fun x => w_FnExactSailSteps x⟩
noncomputable def c_w_FnExactSailSteps_24 : Ctx := ⟨Try.prog, TT, [e_w_markIntS], [], [], []⟩
noncomputable def n_w_FnExactSailSteps_24 : InE := ⟨24, true, inlK c_w_FnExactSailSteps_24 Try.f24⟩
theorem q_w_FnExactSailSteps_24 : FnOk Try.prog n_w_FnExactSailSteps_24.f ∧ InOk Try.prog n_w_FnExactSailSteps_24 := mkInlD (C := c_w_FnExactSailSteps_24) m_ (⟨o_w_markIntS, trivial⟩) Try.func24 (by kernel_rfl) (by kernel_rfl) rfl
noncomputable def c_w_FnExactSailSteps : Ctx := ⟨Try.prog, TT, [e_w_szCone, e_w_toCone, e_s_SailSteps, e_i_SailSteps, e_w_eqIntS, e_w_eqCone, e_w_markIntS, e_w_heldIntS], [], [], [n_w_FnExactSailSteps_24]⟩
theorem k_w_FnExactSailSteps (x : PMs.den e_w_FnExactSailSteps.ps) : funK c_w_FnExactSailSteps Try.f7 e_w_FnExactSailSteps.ps e_w_FnExactSailSteps.rs x = e_w_FnExactSailSteps.F x := by kernel_rfl
theorem o_w_FnExactSailSteps : FnOk Try.prog e_w_FnExactSailSteps.f ∧ Ctr Try.prog e_w_FnExactSailSteps := mkCtr (C := c_w_FnExactSailSteps) m_ (⟨o_w_szCone, o_w_toCone, o_s_SailSteps, o_i_SailSteps, o_w_eqIntS, o_w_eqCone, o_w_markIntS, o_w_heldIntS, trivial⟩) Try.func7 (by kernel_rfl) k_w_FnExactSailSteps ⟨q_w_FnExactSailSteps_24, trivial⟩
/-! loop.example/g00959/laws.szIntSS -/
noncomputable def w_szIntSS_s5 (x0 : List (List Int)) (v1 : Int × Int) : Option ((Int × Int) ⊕ ((Int) ⊕ (Int))) :=
cond (decide (v1.2 < (x0.length : Int)))
 ((idx x0 v1.2).bind fun v2 => (w_szIntS v2 v1.1).bind fun v3 => cond (decide (v3 < (0 : Int)))
 (some (.inr (.inr (-1 : Int))))
 (some (.inl (v3, (IntKind.i64.wrap (v1.2 + (1 : Int)))))))
 (some (.inr (.inl v1.1)))
noncomputable def w_szIntSS (x0 : List (List Int)) (x1 : Int) : Option (Int) :=
cond (decide ((IntKind.i64.wrap (x1 - (x0.length : Int))) < (0 : Int)))
 (some (-1 : Int))
 ((iter (w_szIntSS_s5 x0) ((IntKind.i64.wrap (x1 - (x0.length : Int))), (0 : Int))).bind fun v4 => match v4 with
 | .inl v5 => (some v5)
 | .inr v6 => (some v6))
noncomputable def e_w_szIntSS : CallE := ⟨35, [.d false (.list (.list (.int .i64))), .d false (.int .i64)], [.l (.d false (.int .i64))], fun x => w_szIntSS x.1 x.2⟩
noncomputable def c_w_szIntSS : Ctx := ⟨Try.prog, TT, [e_w_szIntS], [⟨5, [(1, .l (.d false (.int .i64))), (5, .l (.d false (.int .i64)))], some (0, [(1, .l (.d false (.int .i64)))]), some [(4, .l (.d false (.int .i64)))]⟩], [], []⟩
theorem k_w_szIntSS (x : PMs.den e_w_szIntSS.ps) : funK c_w_szIntSS Try.f35 e_w_szIntSS.ps e_w_szIntSS.rs x = e_w_szIntSS.F x := by kernel_rfl
theorem o_w_szIntSS : FnOk Try.prog e_w_szIntSS.f ∧ Ctr Try.prog e_w_szIntSS := mkCtr (C := c_w_szIntSS) m_ (⟨o_w_szIntS, trivial⟩) Try.func35 (by kernel_rfl) k_w_szIntSS
/-! loop.example/g00959/laws.toIntSS -/
noncomputable def w_toIntSS_s3 (x0 : List (List Int)) (v2 : List (List Int) × Int) : Option ((List (List Int) × Int) ⊕ (List (List Int))) :=
cond (decide (v2.2 < (x0.length : Int)))
 ((idx x0 v2.2).bind fun v3 => (w_toIntS v3).bind fun v4 => (inIdx v2.1.length v2.2).bind fun _ => (inIdx v2.1.length ((v2.2).toNat : Int)).bind fun _ => some (.inl ((v2.1.set ((v2.2).toNat) v4), (IntKind.i64.wrap (v2.2 + (1 : Int))))))
 (some (.inr v2.1))
noncomputable def w_toIntSS (x0 : List (List Int)) : Option (List (List Int)) :=
(mkD 24 (x0.length : Int) ([] : List Int)).bind fun v1 => (iter (w_toIntSS_s3 x0) (v1, (0 : Int))).bind fun v5 => some v5
noncomputable def e_w_toIntSS : CallE := ⟨37, [.d false (.list (.list (.int .i64)))], [.l (.o true 22 (.list (.int .i64)))], fun x => w_toIntSS x⟩
noncomputable def c_w_toIntSS : Ctx := ⟨Try.prog, TT, [e_w_toIntS], [⟨3, [(3, .l (.o true 22 (.list (.int .i64)))), (4, .l (.d false (.int .i64)))], some (0, [(3, .l (.o true 22 (.list (.int .i64))))]), none⟩], [], []⟩
theorem k_w_toIntSS (x : PMs.den e_w_toIntSS.ps) : funK c_w_toIntSS Try.f37 e_w_toIntSS.ps e_w_toIntSS.rs x = e_w_toIntSS.F x := by kernel_rfl
theorem o_w_toIntSS : FnOk Try.prog e_w_toIntSS.f ∧ Ctr Try.prog e_w_toIntSS := mkCtr (C := c_w_toIntSS) m_ (⟨o_w_toIntS, trivial⟩) Try.func37 (by kernel_rfl) k_w_toIntSS
/-! loop.example/g00959/spec.l7Flat -/
noncomputable def s_l7Flat_s2 (x0 : List (List Int)) (v1 : Int) : Option ((Int) ⊕ ((Unit) ⊕ (Bool))) :=
cond (decide (v1 < (x0.length : Int)))
 ((idx x0 v1).bind fun v2 => cond ((v2.length : Int) != (2 : Int))
 (some (.inr (.inr false)))
 ((idx x0 v1).bind fun v3 => (s_l2Small v3 (50 : Int)).bind fun v4 => cond (!v4)
 (some (.inr (.inr false)))
 (some (.inl (IntKind.i64.wrap (v1 + (1 : Int)))))))
 (some (.inr (.inl ())))
noncomputable def s_l7Flat (x0 : List (List Int)) : Option (Bool) :=
(iter (s_l7Flat_s2 x0) (0 : Int)).bind fun v5 => match v5 with
 | .inl v6 => (some true)
 | .inr v7 => (some v7)
noncomputable def e_s_l7Flat : CallE := ⟨81, [.d false (.list (.list (.int .i64)))], [.l (.d false .bool)], fun x => s_l7Flat x⟩
noncomputable def c_s_l7Flat : Ctx := ⟨Try.prog, TT, [e_s_l2Small], [⟨2, [(3, .l (.d false (.int .i64)))], some (0, []), some [(2, .l (.d false .bool))]⟩], [], []⟩
theorem k_s_l7Flat (x : PMs.den e_s_l7Flat.ps) : funK c_s_l7Flat Try.f81 e_s_l7Flat.ps e_s_l7Flat.rs x = e_s_l7Flat.F x := by kernel_rfl
theorem o_s_l7Flat : FnOk Try.prog e_s_l7Flat.f ∧ Ctr Try.prog e_s_l7Flat := mkCtr (C := c_s_l7Flat) m_ (⟨o_s_l2Small, trivial⟩) Try.func81 (by kernel_rfl) k_s_l7Flat
/-! loop.example/g00959/spec.l7Turn -/
noncomputable def s_l7Turn (x0 : List Int) (x1 : List Int) (x2 : List Int) : Option (Int) :=
(s_l2Less x1 x0).bind fun v1 => (s_l2Less x2 x1).bind fun v2 => (s_l7Cross v1 v2).bind fun v3 => some v3
noncomputable def e_s_l7Turn : CallE := ⟨129, [.d false (.list (.int .i64)), .d false (.list (.int .i64)), .d false (.list (.int .i64))], [.l (.d false (.int .i64))], fun x => s_l7Turn x.1 x.2.1 x.2.2⟩
noncomputable def c_s_l7Turn : Ctx := ⟨Try.prog, TT, [e_s_l2Less, e_s_l7Cross], [], [], []⟩
theorem k_s_l7Turn (x : PMs.den e_s_l7Turn.ps) : funK c_s_l7Turn Try.f129 e_s_l7Turn.ps e_s_l7Turn.rs x = e_s_l7Turn.F x := by kernel_rfl
theorem o_s_l7Turn : FnOk Try.prog e_s_l7Turn.f ∧ Ctr Try.prog e_s_l7Turn := mkCtr (C := c_s_l7Turn) m_ (⟨o_s_l2Less, o_s_l7Cross, trivial⟩) Try.func129 (by kernel_rfl) k_s_l7Turn
/-! loop.example/g00959/spec.l20Area -/
noncomputable def s_l20Area (x0 : List (List Int)) : Option (Int) :=
(idx x0 (0 : Int)).bind fun v1 => (idx x0 (1 : Int)).bind fun v2 => (idx x0 (2 : Int)).bind fun v3 => (s_l7Turn v1 v2 v3).bind fun v4 => some v4
noncomputable def e_s_l20Area : CallE := ⟨82, [.d false (.list (.list (.int .i64)))], [.l (.d false (.int .i64))], fun x => s_l20Area x⟩
noncomputable def c_s_l20Area : Ctx := ⟨Try.prog, TT, [e_s_l7Turn], [], [], []⟩
theorem k_s_l20Area (x : PMs.den e_s_l20Area.ps) : funK c_s_l20Area Try.f82 e_s_l20Area.ps e_s_l20Area.rs x = e_s_l20Area.F x := by kernel_rfl
theorem o_s_l20Area : FnOk Try.prog e_s_l20Area.f ∧ Ctr Try.prog e_s_l20Area := mkCtr (C := c_s_l20Area) m_ (⟨o_s_l7Turn, trivial⟩) Try.func82 (by kernel_rfl) k_s_l20Area
/-! loop.example/g00959/spec.l2Before -/
noncomputable def s_l2Before_s2 (x0 : List Int) (x1 : List Int) (v1 : Int) : Option ((Int) ⊕ ((Unit) ⊕ (Bool))) :=
cond (decide (v1 < (x0.length : Int)))
 (cond (decide (v1 < (x1.length : Int)))
 ((idx x0 v1).bind fun v2 => (idx x1 v1).bind fun v3 => cond (v2 != v3)
 ((idx x0 v1).bind fun v4 => (idx x1 v1).bind fun v5 => some (.inr (.inr (decide (v4 < v5)))))
 (some (.inl (IntKind.i64.wrap (v1 + (1 : Int))))))
 (some (.inr (.inl ()))))
 (some (.inr (.inl ())))
noncomputable def s_l2Before (x0 : List Int) (x1 : List Int) : Option (Bool) :=
(iter (s_l2Before_s2 x0 x1) (0 : Int)).bind fun v6 => match v6 with
 | .inl v7 => (some false)
 | .inr v8 => (some v8)
noncomputable def e_s_l2Before : CallE := ⟨160, [.d false (.list (.int .i64)), .d false (.list (.int .i64))], [.l (.d false .bool)], fun x => s_l2Before x.1 x.2⟩
noncomputable def c_s_l2Before : Ctx := ⟨Try.prog, TT, [], [⟨2, [(5, .l (.d false (.int .i64)))], some (0, []), some [(4, .l (.d false .bool))]⟩], [], []⟩
theorem k_s_l2Before (x : PMs.den e_s_l2Before.ps) : funK c_s_l2Before Try.f160 e_s_l2Before.ps e_s_l2Before.rs x = e_s_l2Before.F x := by kernel_rfl
theorem o_s_l2Before : FnOk Try.prog e_s_l2Before.f ∧ Ctr Try.prog e_s_l2Before := mkCtr (C := c_s_l2Before) m_ (trivial) Try.func160 (by kernel_rfl) k_s_l2Before
/-! loop.example/g00959/spec.l2Same -/
noncomputable def s_l2Same_s4 (x0 : List Int) (x1 : List Int) (v1 : Int) : Option ((Int) ⊕ ((Unit) ⊕ (Bool))) :=
cond (decide (v1 < (x0.length : Int)))
 ((idx x0 v1).bind fun v2 => (idx x1 v1).bind fun v3 => cond (v2 != v3)
 (some (.inr (.inr false)))
 (some (.inl (IntKind.i64.wrap (v1 + (1 : Int))))))
 (some (.inr (.inl ())))
noncomputable def s_l2Same (x0 : List Int) (x1 : List Int) : Option (Bool) :=
cond ((x0.length : Int) != (x1.length : Int))
 (some false)
 ((iter (s_l2Same_s4 x0 x1) (0 : Int)).bind fun v4 => match v4 with
 | .inl v5 => (some true)
 | .inr v6 => (some v6))
noncomputable def e_s_l2Same : CallE := ⟨133, [.d false (.list (.int .i64)), .d false (.list (.int .i64))], [.l (.d false .bool)], fun x => s_l2Same x.1 x.2⟩
noncomputable def c_s_l2Same : Ctx := ⟨Try.prog, TT, [], [⟨4, [(5, .l (.d false (.int .i64)))], some (0, []), some [(4, .l (.d false .bool))]⟩], [], []⟩
theorem k_s_l2Same (x : PMs.den e_s_l2Same.ps) : funK c_s_l2Same Try.f133 e_s_l2Same.ps e_s_l2Same.rs x = e_s_l2Same.F x := by kernel_rfl
theorem o_s_l2Same : FnOk Try.prog e_s_l2Same.f ∧ Ctr Try.prog e_s_l2Same := mkCtr (C := c_s_l2Same) m_ (trivial) Try.func133 (by kernel_rfl) k_s_l2Same
/-! loop.example/g00959/laws.szHalf -/
noncomputable def w_szHalf (x0 : (List Int) × Int) (x1 : Int) : Option (Int) :=
(w_szIntS x0.1 x1).bind fun v1 => cond (decide (v1 < (0 : Int)))
 (some (-1 : Int))
 (some v1)
noncomputable def e_w_szHalf : CallE := ⟨43, [.d false (.prod (.list (.int .i64)) (.int .i64)), .d false (.int .i64)], [.l (.d false (.int .i64))], fun x => w_szHalf x.1 x.2⟩
noncomputable def c_w_szHalf : Ctx := ⟨Try.prog, TT, [e_w_szIntS], [], [], []⟩
theorem k_w_szHalf (x : PMs.den e_w_szHalf.ps) : funK c_w_szHalf Try.f43 e_w_szHalf.ps e_w_szHalf.rs x = e_w_szHalf.F x := by kernel_rfl
theorem o_w_szHalf : FnOk Try.prog e_w_szHalf.f ∧ Ctr Try.prog e_w_szHalf := mkCtr (C := c_w_szHalf) m_ (⟨o_w_szIntS, trivial⟩) Try.func43 (by kernel_rfl) k_w_szHalf
/-! loop.example/g00959/laws.szHalfS -/
noncomputable def w_szHalfS_s5 (x0 : List ((List Int) × Int)) (v1 : Int × Int) : Option ((Int × Int) ⊕ ((Int) ⊕ (Int))) :=
cond (decide (v1.2 < (x0.length : Int)))
 ((idx x0 v1.2).bind fun v2 => (w_szHalf v2 v1.1).bind fun v3 => cond (decide (v3 < (0 : Int)))
 (some (.inr (.inr (-1 : Int))))
 (some (.inl (v3, (IntKind.i64.wrap (v1.2 + (1 : Int)))))))
 (some (.inr (.inl v1.1)))
noncomputable def w_szHalfS (x0 : List ((List Int) × Int)) (x1 : Int) : Option (Int) :=
cond (decide ((IntKind.i64.wrap (x1 - (x0.length : Int))) < (0 : Int)))
 (some (-1 : Int))
 ((iter (w_szHalfS_s5 x0) ((IntKind.i64.wrap (x1 - (x0.length : Int))), (0 : Int))).bind fun v4 => match v4 with
 | .inl v5 => (some v5)
 | .inr v6 => (some v6))
noncomputable def e_w_szHalfS : CallE := ⟨94, [.d false (.list (.prod (.list (.int .i64)) (.int .i64))), .d false (.int .i64)], [.l (.d false (.int .i64))], fun x => w_szHalfS x.1 x.2⟩
noncomputable def c_w_szHalfS : Ctx := ⟨Try.prog, TT, [e_w_szHalf], [⟨5, [(1, .l (.d false (.int .i64))), (5, .l (.d false (.int .i64)))], some (0, [(1, .l (.d false (.int .i64)))]), some [(4, .l (.d false (.int .i64)))]⟩], [], []⟩
theorem k_w_szHalfS (x : PMs.den e_w_szHalfS.ps) : funK c_w_szHalfS Try.f94 e_w_szHalfS.ps e_w_szHalfS.rs x = e_w_szHalfS.F x := by kernel_rfl
theorem o_w_szHalfS : FnOk Try.prog e_w_szHalfS.f ∧ Ctr Try.prog e_w_szHalfS := mkCtr (C := c_w_szHalfS) m_ (⟨o_w_szHalf, trivial⟩) Try.func94 (by kernel_rfl) k_w_szHalfS
/-! loop.example/g00959/laws.szRegion -/
noncomputable def w_szRegion (x0 : Int × (List ((List Int) × Int))) (x1 : Int) : Option (Int) :=
(w_szHalfS x0.2 x1).bind fun v1 => cond (decide (v1 < (0 : Int)))
 (some (-1 : Int))
 (some v1)
noncomputable def e_w_szRegion : CallE := ⟨42, [.d false (.prod (.int .i64) (.list (.prod (.list (.int .i64)) (.int .i64)))), .d false (.int .i64)], [.l (.d false (.int .i64))], fun x => w_szRegion x.1 x.2⟩
noncomputable def c_w_szRegion : Ctx := ⟨Try.prog, TT, [e_w_szHalfS], [], [], []⟩
theorem k_w_szRegion (x : PMs.den e_w_szRegion.ps) : funK c_w_szRegion Try.f42 e_w_szRegion.ps e_w_szRegion.rs x = e_w_szRegion.F x := by kernel_rfl
theorem o_w_szRegion : FnOk Try.prog e_w_szRegion.f ∧ Ctr Try.prog e_w_szRegion := mkCtr (C := c_w_szRegion) m_ (⟨o_w_szHalfS, trivial⟩) Try.func42 (by kernel_rfl) k_w_szRegion
/-! loop.example/g00959/laws.toHalf -/
noncomputable def w_toHalf (x0 : (List Int) × Int) : Option (List Int × Int) :=
(w_toIntS x0.1).bind fun v1 => some (v1, x0.2)
noncomputable def e_w_toHalf : CallE := ⟨46, [.d false (.prod (.list (.int .i64)) (.int .i64))], [.a [(.o true 3 (.int .i64)), (.d false (.int .i64))]], fun x => w_toHalf x⟩
noncomputable def c_w_toHalf : Ctx := ⟨Try.prog, TT, [e_w_toIntS], [], [], []⟩
theorem k_w_toHalf (x : PMs.den e_w_toHalf.ps) : funK c_w_toHalf Try.f46 e_w_toHalf.ps e_w_toHalf.rs x = e_w_toHalf.F x := by kernel_rfl
theorem o_w_toHalf : FnOk Try.prog e_w_toHalf.f ∧ Ctr Try.prog e_w_toHalf := mkCtr (C := c_w_toHalf) m_ (⟨o_w_toIntS, trivial⟩) Try.func46 (by kernel_rfl) k_w_toHalf
/-! loop.example/g00959/laws.toHalfS -/
noncomputable def w_toHalfS_s3 (x0 : List ((List Int) × Int)) (v2 : (List ((List Int) × Int)) × Int) : Option (((List ((List Int) × Int)) × Int) ⊕ (List ((List Int) × Int))) :=
cond (decide (v2.2 < (x0.length : Int)))
 ((idx x0 v2.2).bind fun v3 => (w_toHalf v3).bind fun v4 => (inIdx v2.1.length v2.2).bind fun _ => (inIdx v2.1.length ((v2.2).toNat : Int)).bind fun _ => some (.inl ((v2.1.set ((v2.2).toNat) (v4.1, v4.2)), (IntKind.i64.wrap (v2.2 + (1 : Int))))))
 (some (.inr v2.1))
noncomputable def w_toHalfS (x0 : List ((List Int) × Int)) : Option (List ((List Int) × Int)) :=
(mkD 32 (x0.length : Int) (([] : List Int), (0 : Int))).bind fun v1 => (iter (w_toHalfS_s3 x0) (v1, (0 : Int))).bind fun v5 => some v5
noncomputable def e_w_toHalfS : CallE := ⟨98, [.d false (.list (.prod (.list (.int .i64)) (.int .i64)))], [.l (.o true 60 (.prod (.list (.int .i64)) (.int .i64)))], fun x => w_toHalfS x⟩
noncomputable def c_w_toHalfS : Ctx := ⟨Try.prog, TT, [e_w_toHalf], [⟨3, [(3, .l (.o true 60 (.prod (.list (.int .i64)) (.int .i64)))), (4, .l (.d false (.int .i64)))], some (0, [(3, .l (.o true 60 (.prod (.list (.int .i64)) (.int .i64))))]), none⟩], [], []⟩
theorem k_w_toHalfS (x : PMs.den e_w_toHalfS.ps) : funK c_w_toHalfS Try.f98 e_w_toHalfS.ps e_w_toHalfS.rs x = e_w_toHalfS.F x := by kernel_rfl
theorem o_w_toHalfS : FnOk Try.prog e_w_toHalfS.f ∧ Ctr Try.prog e_w_toHalfS := mkCtr (C := c_w_toHalfS) m_ (⟨o_w_toHalf, trivial⟩) Try.func98 (by kernel_rfl) k_w_toHalfS
/-! loop.example/g00959/laws.toRegion -/
noncomputable def w_toRegion (x0 : Int × (List ((List Int) × Int))) : Option (Int × List ((List Int) × Int)) :=
(w_toHalfS x0.2).bind fun v1 => some (x0.1, v1)
noncomputable def e_w_toRegion : CallE := ⟨45, [.d false (.prod (.int .i64) (.list (.prod (.list (.int .i64)) (.int .i64))))], [.a [(.d false (.int .i64)), (.o true 60 (.prod (.list (.int .i64)) (.int .i64)))]], fun x => w_toRegion x⟩
noncomputable def c_w_toRegion : Ctx := ⟨Try.prog, TT, [e_w_toHalfS], [], [], []⟩
theorem k_w_toRegion (x : PMs.den e_w_toRegion.ps) : funK c_w_toRegion Try.f45 e_w_toRegion.ps e_w_toRegion.rs x = e_w_toRegion.F x := by kernel_rfl
theorem o_w_toRegion : FnOk Try.prog e_w_toRegion.f ∧ Ctr Try.prog e_w_toRegion := mkCtr (C := c_w_toRegion) m_ (⟨o_w_toHalfS, trivial⟩) Try.func45 (by kernel_rfl) k_w_toRegion
/-! loop.example/g00959/spec.IsHalf -/
noncomputable def s_IsHalf (x0 : Int) (x1 : (List Int) × Int) : Option (Bool) :=
(s_l1In x0 (1 : Int) (3 : Int)).bind fun v1 => cond v1
 (cond ((x1.1.length : Int) == x0)
 ((s_l2Small x1.1 (20 : Int)).bind fun v2 => cond v2
 ((s_l2All x1.1).bind fun v3 => cond (decide (v3 > (0 : Int)))
 ((s_l1In x1.2 (-200 : Int) (200 : Int)).bind fun v4 => some v4)
 (some false))
 (some false))
 (some false))
 (some false)
noncomputable def e_s_IsHalf : CallE := ⟨96, [.d false (.int .i64), .d false (.prod (.list (.int .i64)) (.int .i64))], [.l (.d false .bool)], fun x => s_IsHalf x.1 x.2⟩
noncomputable def c_s_IsHalf : Ctx := ⟨Try.prog, TT, [e_s_l1In, e_s_l2Small, e_s_l2All], [], [], []⟩
theorem k_s_IsHalf (x : PMs.den e_s_IsHalf.ps) : funK c_s_IsHalf Try.f96 e_s_IsHalf.ps e_s_IsHalf.rs x = e_s_IsHalf.F x := by kernel_rfl
theorem o_s_IsHalf : FnOk Try.prog e_s_IsHalf.f ∧ Ctr Try.prog e_s_IsHalf := mkCtr (C := c_s_IsHalf) m_ (⟨o_s_l1In, o_s_l2Small, o_s_l2All, trivial⟩) Try.func96 (by kernel_rfl) k_s_IsHalf
/-! loop.example/g00959/spec.IsRegion -/
noncomputable def s_IsRegion_s2 (x0 : Int × (List ((List Int) × Int))) (v1 : Int) : Option ((Int) ⊕ ((Unit) ⊕ (Bool))) :=
cond (decide (v1 < (x0.2.length : Int)))
 ((idx x0.2 v1).bind fun v2 => (s_IsHalf x0.1 v2).bind fun v3 => cond (!v3)
 (some (.inr (.inr false)))
 (some (.inl (IntKind.i64.wrap (v1 + (1 : Int))))))
 (some (.inr (.inl ())))
noncomputable def s_IsRegion (x0 : Int × (List ((List Int) × Int))) : Option (Bool) :=
(iter (s_IsRegion_s2 x0) (0 : Int)).bind fun v4 => match v4 with
 | .inl v5 => ((s_l1In x0.1 (1 : Int) (3 : Int)).bind fun v7 => cond v7
 (some (decide ((x0.2.length : Int) ≤ (8 : Int))))
 (some false))
 | .inr v6 => (some v6)
noncomputable def e_s_IsRegion : CallE := ⟨95, [.d false (.prod (.int .i64) (.list (.prod (.list (.int .i64)) (.int .i64))))], [.l (.d false .bool)], fun x => s_IsRegion x⟩
noncomputable def c_s_IsRegion : Ctx := ⟨Try.prog, TT, [e_s_IsHalf, e_s_l1In], [⟨2, [(3, .l (.d false (.int .i64)))], some (0, []), some [(2, .l (.d false .bool))]⟩], [], []⟩
theorem k_s_IsRegion (x : PMs.den e_s_IsRegion.ps) : funK c_s_IsRegion Try.f95 e_s_IsRegion.ps e_s_IsRegion.rs x = e_s_IsRegion.F x := by kernel_rfl
theorem o_s_IsRegion : FnOk Try.prog e_s_IsRegion.f ∧ Ctr Try.prog e_s_IsRegion := mkCtr (C := c_s_IsRegion) m_ (⟨o_s_IsHalf, o_s_l1In, trivial⟩) Try.func95 (by kernel_rfl) k_s_IsRegion
/-! loop.example/g00959/spec.l5All -/
noncomputable def s_l5All_s10 (x2 : Int) (v1 : List (List Int) × Int) (v2 : List (List Int) × Int) (v3 : List (List Int) × Int) : Option ((List (List Int) × Int) ⊕ (List (List Int))) :=
cond (decide (v3.2 ≤ x2))
 ((idx v1.1 v2.2).bind fun v4 => (appD 8 ([] : List Int) v4).bind fun v5 => (appD 8 v5 ([v3.2] : List Int)).bind fun v6 => (appD 24 v3.1 ([v6] : List (List Int))).bind fun v7 => some (.inl (v7, (IntKind.i64.wrap (v3.2 + (1 : Int))))))
 (some (.inr v3.1))
noncomputable def s_l5All_s7 (x1 : Int) (x2 : Int) (v1 : List (List Int) × Int) (v2 : List (List Int) × Int) : Option ((List (List Int) × Int) ⊕ (List (List Int))) :=
cond (decide (v2.2 < (v1.1.length : Int)))
 ((iter (s_l5All_s10 x2 v1 v2) (v2.1, x1)).bind fun v8 => some (.inl (v8, (IntKind.i64.wrap (v2.2 + (1 : Int))))))
 (some (.inr v2.1))
noncomputable def s_l5All_s3 (x0 : Int) (x1 : Int) (x2 : Int) (v1 : List (List Int) × Int) : Option ((List (List Int) × Int) ⊕ (List (List Int))) :=
cond (decide (v1.2 < x0))
 ((iter (s_l5All_s7 x1 x2 v1) (([] : List (List Int)), (0 : Int))).bind fun v9 => some (.inl (v9, (IntKind.i64.wrap (v1.2 + (1 : Int))))))
 (some (.inr v1.1))
noncomputable def s_l5All (x0 : Int) (x1 : Int) (x2 : Int) : Option (List (List Int)) :=
(iter (s_l5All_s3 x0 x1 x2) (([([] : List Int)] : List (List Int)), (0 : Int))).bind fun v10 => some v10
noncomputable def e_s_l5All : CallE := ⟨147, [.d false (.int .i64), .d false (.int .i64), .d false (.int .i64)], [.l (.o true 22 (.list (.int .i64)))], fun x => s_l5All x.1 x.2.1 x.2.2⟩
noncomputable def c_s_l5All : Ctx := ⟨Try.prog, TT, [], [⟨3, [(7, .l (.o true 22 (.list (.int .i64)))), (8, .l (.d false (.int .i64)))], some (0, [(7, .l (.o true 22 (.list (.int .i64))))]), none⟩, ⟨7, [(9, .l (.o true 22 (.list (.int .i64)))), (10, .l (.d false (.int .i64)))], some (2, [(9, .l (.o true 22 (.list (.int .i64))))]), none⟩, ⟨10, [(9, .l (.o true 22 (.list (.int .i64)))), (11, .l (.d false (.int .i64)))], some (4, [(9, .l (.o true 22 (.list (.int .i64))))]), none⟩], [], []⟩
theorem k_s_l5All (x : PMs.den e_s_l5All.ps) : funK c_s_l5All Try.f147 e_s_l5All.ps e_s_l5All.rs x = e_s_l5All.F x := by kernel_rfl
theorem o_s_l5All : FnOk Try.prog e_s_l5All.f ∧ Ctr Try.prog e_s_l5All := mkCtr (C := c_s_l5All) m_ (trivial) Try.func147 (by kernel_rfl) k_s_l5All
/-! loop.example/g00959/spec.l2Dot -/
noncomputable def s_l2Dot_s3 (x0 : List Int) (x1 : List Int) (v1 : Int × Int) : Option ((Int × Int) ⊕ (Int)) :=
cond (decide (v1.2 < (x0.length : Int)))
 (cond (decide (v1.2 < (x1.length : Int)))
 ((idx x0 v1.2).bind fun v2 => (idx x1 v1.2).bind fun v3 => some (.inl ((IntKind.i64.wrap (v1.1 + (IntKind.i64.wrap (v2 * v3)))), (IntKind.i64.wrap (v1.2 + (1 : Int))))))
 (some (.inr v1.1)))
 (some (.inr v1.1))
noncomputable def s_l2Dot (x0 : List Int) (x1 : List Int) : Option (Int) :=
(iter (s_l2Dot_s3 x0 x1) ((0 : Int), (0 : Int))).bind fun v4 => some v4
noncomputable def e_s_l2Dot : CallE := ⟨89, [.d false (.list (.int .i64)), .d false (.list (.int .i64))], [.l (.d false (.int .i64))], fun x => s_l2Dot x.1 x.2⟩
noncomputable def c_s_l2Dot : Ctx := ⟨Try.prog, TT, [], [⟨3, [(5, .l (.d false (.int .i64))), (6, .l (.d false (.int .i64)))], some (0, [(5, .l (.d false (.int .i64)))]), none⟩], [], []⟩
theorem k_s_l2Dot (x : PMs.den e_s_l2Dot.ps) : funK c_s_l2Dot Try.f89 e_s_l2Dot.ps e_s_l2Dot.rs x = e_s_l2Dot.F x := by kernel_rfl
theorem o_s_l2Dot : FnOk Try.prog e_s_l2Dot.f ∧ Ctr Try.prog e_s_l2Dot := mkCtr (C := c_s_l2Dot) m_ (trivial) Try.func89 (by kernel_rfl) k_s_l2Dot
/-! loop.example/g00959/spec.l4Has -/
noncomputable def s_l4Has_s2 (x0 : Int × (List ((List Int) × Int))) (x1 : List Int) (v1 : Int) : Option ((Int) ⊕ ((Unit) ⊕ (Bool))) :=
cond (decide (v1 < (x0.2.length : Int)))
 ((idx x0.2 v1).bind fun v2 => (s_l2Dot v2.1 x1).bind fun v3 => (idx x0.2 v1).bind fun v4 => cond (decide (v3 > v4.2))
 (some (.inr (.inr false)))
 (some (.inl (IntKind.i64.wrap (v1 + (1 : Int))))))
 (some (.inr (.inl ())))
noncomputable def s_l4Has (x0 : Int × (List ((List Int) × Int))) (x1 : List Int) : Option (Bool) :=
(iter (s_l4Has_s2 x0 x1) (0 : Int)).bind fun v5 => match v5 with
 | .inl v6 => (some true)
 | .inr v7 => (some v7)
noncomputable def e_s_l4Has : CallE := ⟨148, [.d false (.prod (.int .i64) (.list (.prod (.list (.int .i64)) (.int .i64)))), .d false (.list (.int .i64))], [.l (.d false .bool)], fun x => s_l4Has x.1 x.2⟩
noncomputable def c_s_l4Has : Ctx := ⟨Try.prog, TT, [e_s_l2Dot], [⟨2, [(5, .l (.d false (.int .i64)))], some (0, []), some [(4, .l (.d false .bool))]⟩], [], []⟩
theorem k_s_l4Has (x : PMs.den e_s_l4Has.ps) : funK c_s_l4Has Try.f148 e_s_l4Has.ps e_s_l4Has.rs x = e_s_l4Has.F x := by kernel_rfl
theorem o_s_l4Has : FnOk Try.prog e_s_l4Has.f ∧ Ctr Try.prog e_s_l4Has := mkCtr (C := c_s_l4Has) m_ (⟨o_s_l2Dot, trivial⟩) Try.func148 (by kernel_rfl) k_s_l4Has
/-! loop.example/g00959/spec.PointsIn -/
noncomputable def s_PointsIn_s6 (x0 : Int × (List ((List Int) × Int))) (v2 : List (List Int)) (v3 : List (List Int) × Int) : Option ((List (List Int) × Int) ⊕ (List (List Int))) :=
cond (decide (v3.2 < (v2.length : Int)))
 ((idx v2 v3.2).bind fun v4 => (s_l4Has (x0.1, x0.2) v4).bind fun v5 => cond v5
 ((idx v2 v3.2).bind fun v6 => (appD 24 v3.1 ([v6] : List (List Int))).bind fun v7 => some (.inl (v7, (IntKind.i64.wrap (v3.2 + (1 : Int))))))
 (some (.inl (v3.1, (IntKind.i64.wrap (v3.2 + (1 : Int)))))))
 (some (.inr v3.1))
noncomputable def s_PointsIn (x0 : Int × (List ((List Int) × Int))) : Option (List (List Int)) :=
(s_IsRegion (x0.1, x0.2)).bind fun v1 => cond (!v1)
 (some ([] : List (List Int)))
 ((s_l5All x0.1 (-6 : Int) (6 : Int)).bind fun v2 => (iter (s_PointsIn_s6 x0 v2) (([] : List (List Int)), (0 : Int))).bind fun v8 => some v8)
noncomputable def e_s_PointsIn : CallE := ⟨97, [.d false (.prod (.int .i64) (.list (.prod (.list (.int .i64)) (.int .i64))))], [.l (.o false 22 (.list (.int .i64)))], fun x => s_PointsIn x⟩
noncomputable def c_s_PointsIn : Ctx := ⟨Try.prog, TT, [e_s_IsRegion, e_s_l5All, e_s_l4Has], [⟨6, [(3, .l (.o false 22 (.list (.int .i64)))), (5, .l (.d false (.int .i64)))], some (0, [(3, .l (.o false 22 (.list (.int .i64))))]), none⟩], [], []⟩
theorem k_s_PointsIn (x : PMs.den e_s_PointsIn.ps) : funK c_s_PointsIn Try.f97 e_s_PointsIn.ps e_s_PointsIn.rs x = e_s_PointsIn.F x := by kernel_rfl
theorem o_s_PointsIn : FnOk Try.prog e_s_PointsIn.f ∧ Ctr Try.prog e_s_PointsIn := mkCtr (C := c_s_PointsIn) m_ (⟨o_s_IsRegion, o_s_l5All, o_s_l4Has, trivial⟩) Try.func97 (by kernel_rfl) k_s_PointsIn
/-! loop.example/g00959/spec.IsImplied -/
noncomputable def s_IsImplied_s5 (x1 : (List Int) × Int) (v3 : List (List Int)) (v4 : Int) : Option ((Int) ⊕ ((Unit) ⊕ (Bool))) :=
cond (decide (v4 < (v3.length : Int)))
 ((idx v3 v4).bind fun v5 => (s_l2Dot x1.1 v5).bind fun v6 => cond (decide (v6 > x1.2))
 (some (.inr (.inr false)))
 (some (.inl (IntKind.i64.wrap (v4 + (1 : Int))))))
 (some (.inr (.inl ())))
noncomputable def s_IsImplied (x0 : Int × (List ((List Int) × Int))) (x1 : (List Int) × Int) : Option (Bool) :=
(s_IsRegion (x0.1, x0.2)).bind fun v1 => cond (!v1)
 (some false)
 ((s_IsHalf x0.1 (x1.1, x1.2)).bind fun v2 => cond (!v2)
 (some false)
 ((s_PointsIn (x0.1, x0.2)).bind fun v3 => (iter (s_IsImplied_s5 x1 v3) (0 : Int)).bind fun v7 => match v7 with
 | .inl v8 => (some true)
 | .inr v9 => (some v9)))
noncomputable def e_s_IsImplied : CallE := ⟨44, [.d false (.prod (.int .i64) (.list (.prod (.list (.int .i64)) (.int .i64)))), .d false (.prod (.list (.int .i64)) (.int .i64))], [.l (.d false .bool)], fun x => s_IsImplied x.1 x.2⟩
noncomputable def c_s_IsImplied : Ctx := ⟨Try.prog, TT, [e_s_IsRegion, e_s_IsHalf, e_s_PointsIn, e_s_l2Dot], [⟨5, [(6, .l (.d false (.int .i64)))], some (0, []), some [(4, .l (.d false .bool))]⟩], [], []⟩
theorem k_s_IsImplied (x : PMs.den e_s_IsImplied.ps) : funK c_s_IsImplied Try.f44 e_s_IsImplied.ps e_s_IsImplied.rs x = e_s_IsImplied.F x := by kernel_rfl
theorem o_s_IsImplied : FnOk Try.prog e_s_IsImplied.f ∧ Ctr Try.prog e_s_IsImplied := mkCtr (C := c_s_IsImplied) m_ (⟨o_s_IsRegion, o_s_IsHalf, o_s_PointsIn, o_s_l2Dot, trivial⟩) Try.func44 (by kernel_rfl) k_s_IsImplied
/-! loop.example/g00959/impl.IsHalf -/
noncomputable def i_IsHalf (x0 : Int) (x1 : (List Int) × Int) : Option (Bool) :=
(i_within x0 (1 : Int) (3 : Int)).bind fun v1 => cond v1
 (cond ((x1.1.length : Int) == x0)
 ((i_allWithin x1.1 (-20 : Int) (20 : Int)).bind fun v2 => cond v2
 ((i_gcdAll x1.1).bind fun v3 => cond (decide (v3 > (0 : Int)))
 ((i_within x1.2 (-200 : Int) (200 : Int)).bind fun v4 => some v4)
 (some false))
 (some false))
 (some false))
 (some false)
noncomputable def e_i_IsHalf : CallE := ⟨100, [.d false (.int .i64), .d false (.prod (.list (.int .i64)) (.int .i64))], [.l (.d false .bool)], fun x => i_IsHalf x.1 x.2⟩
noncomputable def c_i_IsHalf : Ctx := ⟨Try.prog, TT, [e_i_within, e_i_allWithin, e_i_gcdAll], [], [], []⟩
theorem k_i_IsHalf (x : PMs.den e_i_IsHalf.ps) : funK c_i_IsHalf Try.f100 e_i_IsHalf.ps e_i_IsHalf.rs x = e_i_IsHalf.F x := by kernel_rfl
theorem o_i_IsHalf : FnOk Try.prog e_i_IsHalf.f ∧ Ctr Try.prog e_i_IsHalf := mkCtr (C := c_i_IsHalf) m_ (⟨o_i_within, o_i_allWithin, o_i_gcdAll, trivial⟩) Try.func100 (by kernel_rfl) k_i_IsHalf
/-! loop.example/g00959/impl.IsRegion -/
noncomputable def i_IsRegion_s4 (x0 : Int × (List ((List Int) × Int))) (v2 : Int) : Option ((Int) ⊕ ((Unit) ⊕ (Bool))) :=
cond (decide (v2 < (x0.2.length : Int)))
 ((idx x0.2 v2).bind fun v3 => (i_IsHalf x0.1 (v3.1, v3.2)).bind fun v4 => cond (!v4)
 (some (.inr (.inr false)))
 (some (.inl (IntKind.i64.wrap (v2 + (1 : Int))))))
 (some (.inr (.inl ())))
noncomputable def i_IsRegion (x0 : Int × (List ((List Int) × Int))) : Option (Bool) :=
(i_within x0.1 (1 : Int) (3 : Int)).bind fun v1 => cond (!v1)
 (some false)
 (cond (decide ((x0.2.length : Int) > (8 : Int)))
 (some false)
 ((iter (i_IsRegion_s4 x0) (0 : Int)).bind fun v5 => match v5 with
 | .inl v6 => (some true)
 | .inr v7 => (some v7)))
noncomputable def e_i_IsRegion : CallE := ⟨99, [.d false (.prod (.int .i64) (.list (.prod (.list (.int .i64)) (.int .i64))))], [.l (.d false .bool)], fun x => i_IsRegion x⟩
noncomputable def c_i_IsRegion : Ctx := ⟨Try.prog, TT, [e_i_within, e_i_IsHalf], [⟨4, [(18, .l (.d false (.int .i64)))], some (0, []), some [(2, .l (.d false .bool))]⟩], [], []⟩
theorem k_i_IsRegion (x : PMs.den e_i_IsRegion.ps) : funK c_i_IsRegion Try.f99 e_i_IsRegion.ps e_i_IsRegion.rs x = e_i_IsRegion.F x := by kernel_rfl
theorem o_i_IsRegion : FnOk Try.prog e_i_IsRegion.f ∧ Ctr Try.prog e_i_IsRegion := mkCtr (C := c_i_IsRegion) m_ (⟨o_i_within, o_i_IsHalf, trivial⟩) Try.func99 (by kernel_rfl) k_i_IsRegion
/-! loop.example/g00959/impl.lattice -/
noncomputable def i_lattice_s10 (x1 : List Int) (v1 : List (List Int) × Int) (v3 : List Int) (v5 : List (List Int) × Int) : Option ((List (List Int) × Int) ⊕ (List (List Int))) :=
(idx x1 v1.2).bind fun v6 => cond (decide (v5.2 ≤ v6))
 ((i_copyInts v3).bind fun v7 => (appD 8 v7 ([v5.2] : List Int)).bind fun v8 => (appD 24 v5.1 ([v8] : List (List Int))).bind fun v9 => some (.inl (v9, (IntKind.i64.wrap (v5.2 + (1 : Int))))))
 (some (.inr v5.1))
noncomputable def i_lattice_s7 (x0 : List Int) (x1 : List Int) (v1 : List (List Int) × Int) (v2 : List (List Int) × Int) : Option ((List (List Int) × Int) ⊕ (List (List Int))) :=
cond (decide (v2.2 < (v1.1.length : Int)))
 ((idx v1.1 v2.2).bind fun v3 => (idx x0 v1.2).bind fun v4 => (iter (i_lattice_s10 x1 v1 v3) (v2.1, v4)).bind fun v10 => some (.inl (v10, (IntKind.i64.wrap (v2.2 + (1 : Int))))))
 (some (.inr v2.1))
noncomputable def i_lattice_s3 (x0 : List Int) (x1 : List Int) (v1 : List (List Int) × Int) : Option ((List (List Int) × Int) ⊕ (List (List Int))) :=
cond (decide (v1.2 < (x0.length : Int)))
 ((iter (i_lattice_s7 x0 x1 v1) (([] : List (List Int)), (0 : Int))).bind fun v11 => some (.inl (v11, (IntKind.i64.wrap (v1.2 + (1 : Int))))))
 (some (.inr v1.1))
noncomputable def i_lattice (x0 : List Int) (x1 : List Int) : Option (List (List Int)) :=
(iter (i_lattice_s3 x0 x1) (([([] : List Int)] : List (List Int)), (0 : Int))).bind fun v12 => some v12
noncomputable def e_i_lattice : CallE := ⟨136, [.d false (.list (.int .i64)), .d false (.list (.int .i64))], [.l (.o true 22 (.list (.int .i64)))], fun x => i_lattice x.1 x.2⟩
noncomputable def c_i_lattice : Ctx := ⟨Try.prog, TT, [e_i_copyInts], [⟨3, [(5, .l (.o true 22 (.list (.int .i64)))), (14, .l (.d false (.int .i64)))], some (0, [(5, .l (.o true 22 (.list (.int .i64))))]), none⟩, ⟨7, [(7, .l (.o true 22 (.list (.int .i64)))), (19, .l (.d false (.int .i64)))], some (2, [(7, .l (.o true 22 (.list (.int .i64))))]), none⟩, ⟨10, [(7, .l (.o true 22 (.list (.int .i64)))), (10, .l (.d false (.int .i64)))], some (4, [(7, .l (.o true 22 (.list (.int .i64))))]), none⟩], [], []⟩
theorem k_i_lattice (x : PMs.den e_i_lattice.ps) : funK c_i_lattice Try.f136 e_i_lattice.ps e_i_lattice.rs x = e_i_lattice.F x := by kernel_rfl
theorem o_i_lattice : FnOk Try.prog e_i_lattice.f ∧ Ctr Try.prog e_i_lattice := mkCtr (C := c_i_lattice) m_ (⟨o_i_copyInts, trivial⟩) Try.func136 (by kernel_rfl) k_i_lattice
/-! loop.example/g00959/impl.dot -/
noncomputable def i_dot_s3 (x0 : List Int) (x1 : List Int) (v1 : Int × Int) : Option ((Int × Int) ⊕ (Int)) :=
cond (decide (v1.2 < (x0.length : Int)))
 ((idx x0 v1.2).bind fun v2 => (idx x1 v1.2).bind fun v3 => some (.inl ((IntKind.i64.wrap (v1.1 + (IntKind.i64.wrap (v2 * v3)))), (IntKind.i64.wrap (v1.2 + (1 : Int))))))
 (some (.inr v1.1))
noncomputable def i_dot (x0 : List Int) (x1 : List Int) : Option (Int) :=
(iter (i_dot_s3 x0 x1) ((0 : Int), (0 : Int))).bind fun v4 => some v4
noncomputable def e_i_dot : CallE := ⟨102, [.d false (.list (.int .i64)), .d false (.list (.int .i64))], [.l (.d false (.int .i64))], fun x => i_dot x.1 x.2⟩
noncomputable def c_i_dot : Ctx := ⟨Try.prog, TT, [], [⟨3, [(5, .l (.d false (.int .i64))), (9, .l (.d false (.int .i64)))], some (0, [(5, .l (.d false (.int .i64)))]), none⟩], [], []⟩
theorem k_i_dot (x : PMs.den e_i_dot.ps) : funK c_i_dot Try.f102 e_i_dot.ps e_i_dot.rs x = e_i_dot.F x := by kernel_rfl
theorem o_i_dot : FnOk Try.prog e_i_dot.f ∧ Ctr Try.prog e_i_dot := mkCtr (C := c_i_dot) m_ (trivial) Try.func102 (by kernel_rfl) k_i_dot
/-! loop.example/g00959/impl.HasPoint -/
noncomputable def i_HasPoint_s4 (x0 : Int × (List ((List Int) × Int))) (x1 : List Int) (v3 : Int) : Option ((Int) ⊕ ((Unit) ⊕ (Bool))) :=
cond (decide (v3 < (x0.2.length : Int)))
 ((idx x0.2 v3).bind fun v4 => (i_dot v4.1 x1).bind fun v5 => cond (decide (v5 > v4.2))
 (some (.inr (.inr false)))
 (some (.inl (IntKind.i64.wrap (v3 + (1 : Int))))))
 (some (.inr (.inl ())))
noncomputable def i_HasPoint (x0 : Int × (List ((List Int) × Int))) (x1 : List Int) : Option (Bool) :=
(i_IsRegion (x0.1, x0.2)).bind fun v1 => cond (!v1)
 (some false)
 ((i_IsVector x1).bind fun v2 => cond (!v2)
 (some false)
 (cond ((x1.length : Int) != x0.1)
 (some false)
 ((iter (i_HasPoint_s4 x0 x1) (0 : Int)).bind fun v6 => match v6 with
 | .inl v7 => (some true)
 | .inr v8 => (some v8))))
noncomputable def e_i_HasPoint : CallE := ⟨150, [.d false (.prod (.int .i64) (.list (.prod (.list (.int .i64)) (.int .i64)))), .d false (.list (.int .i64))], [.l (.d false .bool)], fun x => i_HasPoint x.1 x.2⟩
noncomputable def c_i_HasPoint : Ctx := ⟨Try.prog, TT, [e_i_IsRegion, e_i_IsVector, e_i_dot], [⟨4, [(25, .l (.d false (.int .i64)))], some (0, []), some [(4, .l (.d false .bool))]⟩], [], []⟩
theorem k_i_HasPoint (x : PMs.den e_i_HasPoint.ps) : funK c_i_HasPoint Try.f150 e_i_HasPoint.ps e_i_HasPoint.rs x = e_i_HasPoint.F x := by kernel_rfl
theorem o_i_HasPoint : FnOk Try.prog e_i_HasPoint.f ∧ Ctr Try.prog e_i_HasPoint := mkCtr (C := c_i_HasPoint) m_ (⟨o_i_IsRegion, o_i_IsVector, o_i_dot, trivial⟩) Try.func150 (by kernel_rfl) k_i_HasPoint
/-! loop.example/g00959/impl.PointsIn -/
noncomputable def i_PointsIn_s5 (v2 : List Int) (v4 : List Int × List Int × Int) : Option ((List Int × List Int × Int) ⊕ (List Int × List Int)) :=
cond (decide (v4.2.2 < (v2.length : Int)))
 ((inIdx v4.1.length v4.2.2).bind fun _ => (inIdx v4.1.length ((v4.2.2).toNat : Int)).bind fun _ => (inIdx v4.2.1.length v4.2.2).bind fun _ => (inIdx v4.2.1.length ((v4.2.2).toNat : Int)).bind fun _ => some (.inl ((v4.1.set ((v4.2.2).toNat) (-6 : Int)), ((v4.2.1.set ((v4.2.2).toNat) (6 : Int)), (IntKind.i64.wrap (v4.2.2 + (1 : Int)))))))
 (some (.inr (v4.1, v4.2.1)))
noncomputable def i_PointsIn_s11 (x0 : Int × (List ((List Int) × Int))) (v6 : List (List Int)) (v7 : List (List Int) × Int) : Option ((List (List Int) × Int) ⊕ (List (List Int))) :=
cond (decide (v7.2 < (v6.length : Int)))
 ((idx v6 v7.2).bind fun v8 => (i_HasPoint (x0.1, x0.2) v8).bind fun v9 => cond v9
 ((appD 24 v7.1 ([v8] : List (List Int))).bind fun v10 => some (.inl (v10, (IntKind.i64.wrap (v7.2 + (1 : Int))))))
 (some (.inl (v7.1, (IntKind.i64.wrap (v7.2 + (1 : Int)))))))
 (some (.inr v7.1))
noncomputable def i_PointsIn (x0 : Int × (List ((List Int) × Int))) : Option (List (List Int)) :=
(i_IsRegion (x0.1, x0.2)).bind fun v1 => cond (!v1)
 (some ([] : List (List Int)))
 ((mkD 8 x0.1 (0 : Int)).bind fun v2 => (mkD 8 x0.1 (0 : Int)).bind fun v3 => (iter (i_PointsIn_s5 v2) (v2, (v3, (0 : Int)))).bind fun v5 => (i_lattice v5.1 v5.2).bind fun v6 => (iter (i_PointsIn_s11 x0 v6) (([] : List (List Int)), (0 : Int))).bind fun v11 => some v11)
noncomputable def e_i_PointsIn : CallE := ⟨101, [.d false (.prod (.int .i64) (.list (.prod (.list (.int .i64)) (.int .i64))))], [.l (.o false 22 (.list (.int .i64)))], fun x => i_PointsIn x⟩
noncomputable def c_i_PointsIn : Ctx := ⟨Try.prog, TT, [e_i_IsRegion, e_i_lattice, e_i_HasPoint], [⟨5, [(3, .l (.o true 3 (.int .i64))), (4, .l (.o true 3 (.int .i64))), (20, .l (.d false (.int .i64)))], some (0, [(3, .l (.o true 3 (.int .i64))), (4, .l (.o true 3 (.int .i64)))]), none⟩, ⟨11, [(6, .l (.o false 22 (.list (.int .i64)))), (34, .l (.d false (.int .i64)))], some (2, [(6, .l (.o false 22 (.list (.int .i64))))]), none⟩], [], []⟩
theorem k_i_PointsIn (x : PMs.den e_i_PointsIn.ps) : funK c_i_PointsIn Try.f101 e_i_PointsIn.ps e_i_PointsIn.rs x = e_i_PointsIn.F x := by kernel_rfl
theorem o_i_PointsIn : FnOk Try.prog e_i_PointsIn.f ∧ Ctr Try.prog e_i_PointsIn := mkCtr (C := c_i_PointsIn) m_ (⟨o_i_IsRegion, o_i_lattice, o_i_HasPoint, trivial⟩) Try.func101 (by kernel_rfl) k_i_PointsIn
/-! loop.example/g00959/impl.IsImplied -/
noncomputable def i_IsImplied_s4 (x1 : (List Int) × Int) (v3 : List (List Int)) (v4 : Int) : Option ((Int) ⊕ ((Unit) ⊕ (Bool))) :=
cond (decide (v4 < (v3.length : Int)))
 ((idx v3 v4).bind fun v5 => (i_dot x1.1 v5).bind fun v6 => cond (decide (v6 > x1.2))
 (some (.inr (.inr false)))
 (some (.inl (IntKind.i64.wrap (v4 + (1 : Int))))))
 (some (.inr (.inl ())))
noncomputable def i_IsImplied (x0 : Int × (List ((List Int) × Int))) (x1 : (List Int) × Int) : Option (Bool) :=
(i_IsRegion (x0.1, x0.2)).bind fun v1 => cond (!v1)
 (some false)
 ((i_IsHalf x0.1 (x1.1, x1.2)).bind fun v2 => cond (!v2)
 (some false)
 ((i_PointsIn (x0.1, x0.2)).bind fun v3 => (iter (i_IsImplied_s4 x1 v3) (0 : Int)).bind fun v7 => match v7 with
 | .inl v8 => (some true)
 | .inr v9 => (some v9)))
noncomputable def e_i_IsImplied : CallE := ⟨47, [.d false (.prod (.int .i64) (.list (.prod (.list (.int .i64)) (.int .i64)))), .d false (.prod (.list (.int .i64)) (.int .i64))], [.l (.d false .bool)], fun x => i_IsImplied x.1 x.2⟩
noncomputable def c_i_IsImplied : Ctx := ⟨Try.prog, TT, [e_i_IsRegion, e_i_IsHalf, e_i_PointsIn, e_i_dot], [⟨4, [(20, .l (.d false (.int .i64)))], some (0, []), some [(4, .l (.d false .bool))]⟩], [], []⟩
theorem k_i_IsImplied (x : PMs.den e_i_IsImplied.ps) : funK c_i_IsImplied Try.f47 e_i_IsImplied.ps e_i_IsImplied.rs x = e_i_IsImplied.F x := by kernel_rfl
theorem o_i_IsImplied : FnOk Try.prog e_i_IsImplied.f ∧ Ctr Try.prog e_i_IsImplied := mkCtr (C := c_i_IsImplied) m_ (⟨o_i_IsRegion, o_i_IsHalf, o_i_PointsIn, o_i_dot, trivial⟩) Try.func47 (by kernel_rfl) k_i_IsImplied
/-! loop.example/g00959/laws.eqHalf -/
noncomputable def w_eqHalf (x0 : (List Int) × Int) (x1 : (List Int) × Int) : Option (Bool) :=
(w_eqIntS x0.1 x1.1).bind fun v1 => cond (!v1)
 (some false)
 (cond (x0.2 != x1.2)
 (some false)
 (some true))
noncomputable def e_w_eqHalf : CallE := ⟨49, [.d false (.prod (.list (.int .i64)) (.int .i64)), .d false (.prod (.list (.int .i64)) (.int .i64))], [.l (.d false .bool)], fun x => w_eqHalf x.1 x.2⟩
noncomputable def c_w_eqHalf : Ctx := ⟨Try.prog, TT, [e_w_eqIntS], [], [], []⟩
theorem k_w_eqHalf (x : PMs.den e_w_eqHalf.ps) : funK c_w_eqHalf Try.f49 e_w_eqHalf.ps e_w_eqHalf.rs x = e_w_eqHalf.F x := by kernel_rfl
theorem o_w_eqHalf : FnOk Try.prog e_w_eqHalf.f ∧ Ctr Try.prog e_w_eqHalf := mkCtr (C := c_w_eqHalf) m_ (⟨o_w_eqIntS, trivial⟩) Try.func49 (by kernel_rfl) k_w_eqHalf
/-! loop.example/g00959/laws.eqHalfS -/
noncomputable def w_eqHalfS_s4 (x0 : List ((List Int) × Int)) (x1 : List ((List Int) × Int)) (v1 : Int) : Option ((Int) ⊕ ((Unit) ⊕ (Bool))) :=
cond (decide (v1 < (x0.length : Int)))
 ((idx x0 v1).bind fun v2 => (idx x1 v1).bind fun v3 => (w_eqHalf v2 v3).bind fun v4 => cond (!v4)
 (some (.inr (.inr false)))
 (some (.inl (IntKind.i64.wrap (v1 + (1 : Int))))))
 (some (.inr (.inl ())))
noncomputable def w_eqHalfS (x0 : List ((List Int) × Int)) (x1 : List ((List Int) × Int)) : Option (Bool) :=
cond ((x0.length : Int) != (x1.length : Int))
 (some false)
 ((iter (w_eqHalfS_s4 x0 x1) (0 : Int)).bind fun v5 => match v5 with
 | .inl v6 => (some true)
 | .inr v7 => (some v7))
noncomputable def e_w_eqHalfS : CallE := ⟨103, [.d false (.list (.prod (.list (.int .i64)) (.int .i64))), .d false (.list (.prod (.list (.int .i64)) (.int .i64)))], [.l (.d false .bool)], fun x => w_eqHalfS x.1 x.2⟩
noncomputable def c_w_eqHalfS : Ctx := ⟨Try.prog, TT, [e_w_eqHalf], [⟨4, [(5, .l (.d false (.int .i64)))], some (0, []), some [(4, .l (.d false .bool))]⟩], [], []⟩
theorem k_w_eqHalfS (x : PMs.den e_w_eqHalfS.ps) : funK c_w_eqHalfS Try.f103 e_w_eqHalfS.ps e_w_eqHalfS.rs x = e_w_eqHalfS.F x := by kernel_rfl
theorem o_w_eqHalfS : FnOk Try.prog e_w_eqHalfS.f ∧ Ctr Try.prog e_w_eqHalfS := mkCtr (C := c_w_eqHalfS) m_ (⟨o_w_eqHalf, trivial⟩) Try.func103 (by kernel_rfl) k_w_eqHalfS
/-! loop.example/g00959/laws.eqRegion -/
noncomputable def w_eqRegion (x0 : Int × (List ((List Int) × Int))) (x1 : Int × (List ((List Int) × Int))) : Option (Bool) :=
cond (x0.1 != x1.1)
 (some false)
 ((w_eqHalfS x0.2 x1.2).bind fun v1 => cond (!v1)
 (some false)
 (some true))
noncomputable def e_w_eqRegion : CallE := ⟨48, [.d false (.prod (.int .i64) (.list (.prod (.list (.int .i64)) (.int .i64)))), .d false (.prod (.int .i64) (.list (.prod (.list (.int .i64)) (.int .i64))))], [.l (.d false .bool)], fun x => w_eqRegion x.1 x.2⟩
noncomputable def c_w_eqRegion : Ctx := ⟨Try.prog, TT, [e_w_eqHalfS], [], [], []⟩
theorem k_w_eqRegion (x : PMs.den e_w_eqRegion.ps) : funK c_w_eqRegion Try.f48 e_w_eqRegion.ps e_w_eqRegion.rs x = e_w_eqRegion.F x := by kernel_rfl
theorem o_w_eqRegion : FnOk Try.prog e_w_eqRegion.f ∧ Ctr Try.prog e_w_eqRegion := mkCtr (C := c_w_eqRegion) m_ (⟨o_w_eqHalfS, trivial⟩) Try.func48 (by kernel_rfl) k_w_eqRegion
/-! loop.example/g00959/laws.FnExactIsImplied -/
noncomputable def w_FnExactIsImplied (x0 : Int × (List ((List Int) × Int))) (x1 : (List Int) × Int) : Option (Bool) :=
(w_szRegion (x0.1, x0.2) (1048576 : Int)).bind fun v1 => cond (decide (v1 < (0 : Int)))
 (some true)
 ((w_szHalf (x1.1, x1.2) v1).bind fun v2 => cond (decide (v2 < (0 : Int)))
 (some true)
 ((w_toRegion (x0.1, x0.2)).bind fun v3 => (w_toHalf (x1.1, x1.2)).bind fun v4 => (s_IsImplied (v3.1, v3.2) (v4.1, v4.2)).bind fun v5 => (w_toRegion (x0.1, x0.2)).bind fun v6 => (w_toHalf (x1.1, x1.2)).bind fun v7 => (i_IsImplied (v6.1, v6.2) (v7.1, v7.2)).bind fun v8 => cond (!(v8 == v5))
 (some false)
 ((w_toRegion (x0.1, x0.2)).bind fun v9 => (w_eqRegion (v6.1, v6.2) (v9.1, v9.2)).bind fun v10 => cond (!v10)
 (some false)
 ((w_toHalf (x1.1, x1.2)).bind fun v11 => (w_eqHalf (v7.1, v7.2) (v11.1, v11.2)).bind fun v12 => cond (!v12)
 (some false)
 (some true)))))
noncomputable def e_w_FnExactIsImplied : CallE := ⟨10, [.d false (.prod (.int .i64) (.list (.prod (.list (.int .i64)) (.int .i64)))), .d false (.prod (.list (.int .i64)) (.int .i64))], [.l (.d false .bool)], fun x => w_FnExactIsImplied x.1 x.2⟩
noncomputable def c_w_FnExactIsImplied : Ctx := ⟨Try.prog, TT, [e_w_szRegion, e_w_szHalf, e_w_toRegion, e_w_toHalf, e_s_IsImplied, e_i_IsImplied, e_w_eqRegion, e_w_eqHalf], [], [], []⟩
theorem k_w_FnExactIsImplied (x : PMs.den e_w_FnExactIsImplied.ps) : funK c_w_FnExactIsImplied Try.f10 e_w_FnExactIsImplied.ps e_w_FnExactIsImplied.rs x = e_w_FnExactIsImplied.F x := by kernel_rfl
theorem o_w_FnExactIsImplied : FnOk Try.prog e_w_FnExactIsImplied.f ∧ Ctr Try.prog e_w_FnExactIsImplied := mkCtr (C := c_w_FnExactIsImplied) m_ (⟨o_w_szRegion, o_w_szHalf, o_w_toRegion, o_w_toHalf, o_s_IsImplied, o_i_IsImplied, o_w_eqRegion, o_w_eqHalf, trivial⟩) Try.func10 (by kernel_rfl) k_w_FnExactIsImplied
/-! loop.example/g00959/spec.SailCorners -/
noncomputable def s_SailCorners_s5 (v1 : List (List Int)) (v2 : List Int) (v3 : List (List Int) × Int) : Option ((List (List Int) × Int) ⊕ (List (List Int))) :=
cond (decide (v3.2 < (v1.length : Int)))
 (cond (v3.2 == (0 : Int))
 ((idx v1 v3.2).bind fun v4 => (appD 8 ([] : List Int) v4).bind fun v5 => (appD 24 v3.1 ([v5] : List (List Int))).bind fun v6 => some (.inl (v6, (IntKind.i64.wrap (v3.2 + (1 : Int))))))
 (cond (v3.2 == (IntKind.i64.wrap ((v1.length : Int) - (1 : Int))))
 ((idx v1 v3.2).bind fun v7 => (appD 8 ([] : List Int) v7).bind fun v8 => (appD 24 v3.1 ([v8] : List (List Int))).bind fun v9 => some (.inl (v9, (IntKind.i64.wrap (v3.2 + (1 : Int))))))
 ((idx v2 (IntKind.i64.wrap (v3.2 - (1 : Int)))).bind fun v10 => cond (decide (v10 > (2 : Int)))
 ((idx v1 v3.2).bind fun v11 => (appD 8 ([] : List Int) v11).bind fun v12 => (appD 24 v3.1 ([v12] : List (List Int))).bind fun v13 => some (.inl (v13, (IntKind.i64.wrap (v3.2 + (1 : Int))))))
 (some (.inl (v3.1, (IntKind.i64.wrap (v3.2 + (1 : Int)))))))))
 (some (.inr v3.1))
noncomputable def s_SailCorners (x0 : (List Int) × (List Int)) : Option (List (List Int)) :=
(s_SplitCone (x0.1, x0.2)).bind fun v1 => (s_TurnsOf (x0.1, x0.2)).bind fun v2 => (iter (s_SailCorners_s5 v1 v2) (([] : List (List Int)), (0 : Int))).bind fun v14 => some v14
noncomputable def e_s_SailCorners : CallE := ⟨54, [.d false (.prod (.list (.int .i64)) (.list (.int .i64)))], [.l (.o true 22 (.list (.int .i64)))], fun x => s_SailCorners x⟩
noncomputable def c_s_SailCorners : Ctx := ⟨Try.prog, TT, [e_s_SplitCone, e_s_TurnsOf], [⟨5, [(3, .l (.o true 22 (.list (.int .i64)))), (6, .l (.d false (.int .i64)))], some (0, [(3, .l (.o true 22 (.list (.int .i64))))]), none⟩], [], []⟩
theorem k_s_SailCorners (x : PMs.den e_s_SailCorners.ps) : funK c_s_SailCorners Try.f54 e_s_SailCorners.ps e_s_SailCorners.rs x = e_s_SailCorners.F x := by kernel_rfl
theorem o_s_SailCorners : FnOk Try.prog e_s_SailCorners.f ∧ Ctr Try.prog e_s_SailCorners := mkCtr (C := c_s_SailCorners) m_ (⟨o_s_SplitCone, o_s_TurnsOf, trivial⟩) Try.func54 (by kernel_rfl) k_s_SailCorners
/-! loop.example/g00959/impl.SailCorners -/
noncomputable def i_SailCorners_s4 (v1 : List (List Int)) (v2 : List Int) (v3 : List (List Int) × Int) : Option ((List (List Int) × Int) ⊕ (List (List Int))) :=
cond (decide (v3.2 < (v2.length : Int)))
 ((idx v2 v3.2).bind fun v4 => (idx v1 v4).bind fun v5 => (appD 24 v3.1 ([v5] : List (List Int))).bind fun v6 => some (.inl (v6, (IntKind.i64.wrap (v3.2 + (1 : Int))))))
 (some (.inr v3.1))
noncomputable def i_SailCorners (x0 : (List Int) × (List Int)) : Option (List (List Int)) :=
(i_SplitCone (x0.1, x0.2)).bind fun v1 => (i_corners (x0.1, x0.2)).bind fun v2 => (iter (i_SailCorners_s4 v1 v2) (([] : List (List Int)), (0 : Int))).bind fun v7 => some v7
noncomputable def e_i_SailCorners : CallE := ⟨55, [.d false (.prod (.list (.int .i64)) (.list (.int .i64)))], [.l (.o false 22 (.list (.int .i64)))], fun x => i_SailCorners x⟩
noncomputable def c_i_SailCorners : Ctx := ⟨Try.prog, TT, [e_i_SplitCone, e_i_corners], [⟨4, [(4, .l (.o false 22 (.list (.int .i64)))), (12, .l (.d false (.int .i64)))], some (0, [(4, .l (.o false 22 (.list (.int .i64))))]), none⟩], [], []⟩
theorem k_i_SailCorners (x : PMs.den e_i_SailCorners.ps) : funK c_i_SailCorners Try.f55 e_i_SailCorners.ps e_i_SailCorners.rs x = e_i_SailCorners.F x := by kernel_rfl
theorem o_i_SailCorners : FnOk Try.prog e_i_SailCorners.f ∧ Ctr Try.prog e_i_SailCorners := mkCtr (C := c_i_SailCorners) m_ (⟨o_i_SplitCone, o_i_corners, trivial⟩) Try.func55 (by kernel_rfl) k_i_SailCorners
/-! loop.example/g00959/laws.eqIntSS -/
noncomputable def w_eqIntSS_s4 (x0 : List (List Int)) (x1 : List (List Int)) (v1 : Int) : Option ((Int) ⊕ ((Unit) ⊕ (Bool))) :=
cond (decide (v1 < (x0.length : Int)))
 ((idx x0 v1).bind fun v2 => (idx x1 v1).bind fun v3 => (w_eqIntS v2 v3).bind fun v4 => cond (!v4)
 (some (.inr (.inr false)))
 (some (.inl (IntKind.i64.wrap (v1 + (1 : Int))))))
 (some (.inr (.inl ())))
noncomputable def w_eqIntSS (x0 : List (List Int)) (x1 : List (List Int)) : Option (Bool) :=
cond ((x0.length : Int) != (x1.length : Int))
 (some false)
 ((iter (w_eqIntSS_s4 x0 x1) (0 : Int)).bind fun v5 => match v5 with
 | .inl v6 => (some true)
 | .inr v7 => (some v7))
noncomputable def e_w_eqIntSS : CallE := ⟨39, [.d false (.list (.list (.int .i64))), .d false (.list (.list (.int .i64)))], [.l (.d false .bool)], fun x => w_eqIntSS x.1 x.2⟩
noncomputable def c_w_eqIntSS : Ctx := ⟨Try.prog, TT, [e_w_eqIntS], [⟨4, [(5, .l (.d false (.int .i64)))], some (0, []), some [(4, .l (.d false .bool))]⟩], [], []⟩
theorem k_w_eqIntSS (x : PMs.den e_w_eqIntSS.ps) : funK c_w_eqIntSS Try.f39 e_w_eqIntSS.ps e_w_eqIntSS.rs x = e_w_eqIntSS.F x := by kernel_rfl
theorem o_w_eqIntSS : FnOk Try.prog e_w_eqIntSS.f ∧ Ctr Try.prog e_w_eqIntSS := mkCtr (C := c_w_eqIntSS) m_ (⟨o_w_eqIntS, trivial⟩) Try.func39 (by kernel_rfl) k_w_eqIntSS
/-! loop.example/g00959/spec.l2Prime -/
noncomputable def s_l2Prime_s4 (x0 : List Int) (v1 : Int) (v2 : List Int × Int) : Option ((List Int × Int) ⊕ (List Int)) :=
cond (decide (v2.2 < (x0.length : Int)))
 ((idx x0 v2.2).bind fun v3 => (s_l1Max v1 (1 : Int)).bind fun v4 => (quoI .i64 v3 v4).bind fun v5 => (appD 8 v2.1 ([v5] : List Int)).bind fun v6 => some (.inl (v6, (IntKind.i64.wrap (v2.2 + (1 : Int))))))
 (some (.inr v2.1))
noncomputable def s_l2Prime (x0 : List Int) : Option (List Int) :=
(s_l2All x0).bind fun v1 => (iter (s_l2Prime_s4 x0 v1) (([] : List Int), (0 : Int))).bind fun v7 => some v7
noncomputable def e_s_l2Prime : CallE := ⟨152, [.d false (.list (.int .i64))], [.l (.o true 3 (.int .i64))], fun x => s_l2Prime x⟩
noncomputable def c_s_l2Prime : Ctx := ⟨Try.prog, TT, [e_s_l2All, e_s_l1Max], [⟨4, [(4, .l (.o true 3 (.int .i64))), (5, .l (.d false (.int .i64)))], some (0, [(4, .l (.o true 3 (.int .i64)))]), none⟩], [], []⟩
theorem k_s_l2Prime (x : PMs.den e_s_l2Prime.ps) : funK c_s_l2Prime Try.f152 e_s_l2Prime.ps e_s_l2Prime.rs x = e_s_l2Prime.F x := by kernel_rfl
theorem o_s_l2Prime : FnOk Try.prog e_s_l2Prime.f ∧ Ctr Try.prog e_s_l2Prime := mkCtr (C := c_s_l2Prime) m_ (⟨o_s_l2All, o_s_l1Max, trivial⟩) Try.func152 (by kernel_rfl) k_s_l2Prime
/-! loop.example/g00959/spec.l24Tight -/
noncomputable def s_l24Tight (x0 : (List Int) × Int) : Option (List Int × Int) :=
(s_l2All x0.1).bind fun v1 => (s_l2Prime x0.1).bind fun v2 => (s_l3Floor x0.2 v1).bind fun v3 => some (v2, v3)
noncomputable def e_s_l24Tight : CallE := ⟨107, [.d false (.prod (.list (.int .i64)) (.int .i64))], [.a [(.o true 3 (.int .i64)), (.d false (.int .i64))]], fun x => s_l24Tight x⟩
noncomputable def c_s_l24Tight : Ctx := ⟨Try.prog, TT, [e_s_l2All, e_s_l2Prime, e_s_l3Floor], [], [], []⟩
theorem k_s_l24Tight (x : PMs.den e_s_l24Tight.ps) : funK c_s_l24Tight Try.f107 e_s_l24Tight.ps e_s_l24Tight.rs x = e_s_l24Tight.F x := by kernel_rfl
theorem o_s_l24Tight : FnOk Try.prog e_s_l24Tight.f ∧ Ctr Try.prog e_s_l24Tight := mkCtr (C := c_s_l24Tight) m_ (⟨o_s_l2All, o_s_l2Prime, o_s_l3Floor, trivial⟩) Try.func107 (by kernel_rfl) k_s_l24Tight
/-! loop.example/g00959/impl.minus -/
noncomputable def i_minus (x0 : List Int) (x1 : List Int) : Option (List Int) :=
(idx x0 (0 : Int)).bind fun v1 => (idx x1 (0 : Int)).bind fun v2 => (idx x0 (1 : Int)).bind fun v3 => (idx x1 (1 : Int)).bind fun v4 => some ([(IntKind.i64.wrap (v1 - v2)), (IntKind.i64.wrap (v3 - v4))] : List Int)
noncomputable def e_i_minus : CallE := ⟨135, [.d false (.list (.int .i64)), .d false (.list (.int .i64))], [.l (.o true 3 (.int .i64))], fun x => i_minus x.1 x.2⟩
noncomputable def c_i_minus : Ctx := ⟨Try.prog, TT, [], [], [], []⟩
theorem k_i_minus (x : PMs.den e_i_minus.ps) : funK c_i_minus Try.f135 e_i_minus.ps e_i_minus.rs x = e_i_minus.F x := by kernel_rfl
theorem o_i_minus : FnOk Try.prog e_i_minus.f ∧ Ctr Try.prog e_i_minus := mkCtr (C := c_i_minus) m_ (trivial) Try.func135 (by kernel_rfl) k_i_minus
/-! loop.example/g00959/impl.turn -/
noncomputable def i_turn (x0 : List Int) (x1 : List Int) (x2 : List Int) : Option (Int) :=
(i_minus x1 x0).bind fun v1 => (i_minus x2 x0).bind fun v2 => (i_cross v1 v2).bind fun v3 => some v3
noncomputable def e_i_turn : CallE := ⟨85, [.d false (.list (.int .i64)), .d false (.list (.int .i64)), .d false (.list (.int .i64))], [.l (.d false (.int .i64))], fun x => i_turn x.1 x.2.1 x.2.2⟩
noncomputable def c_i_turn : Ctx := ⟨Try.prog, TT, [e_i_minus, e_i_cross], [], [], []⟩
theorem k_i_turn (x : PMs.den e_i_turn.ps) : funK c_i_turn Try.f85 e_i_turn.ps e_i_turn.rs x = e_i_turn.F x := by kernel_rfl
theorem o_i_turn : FnOk Try.prog e_i_turn.f ∧ Ctr Try.prog e_i_turn := mkCtr (C := c_i_turn) m_ (⟨o_i_minus, o_i_cross, trivial⟩) Try.func85 (by kernel_rfl) k_i_turn
/-! loop.example/g00959/impl.directions -/
noncomputable def i_directions_s3 (v1 : List (List Int)) (v2 : List (List Int) × Int) : Option ((List (List Int) × Int) ⊕ (List (List Int))) :=
cond (decide (v2.2 < (v1.length : Int)))
 ((idx v1 v2.2).bind fun v3 => (idx v3 (0 : Int)).bind fun v4 => cond (decide (v4 > (0 : Int)))
 ((appD 24 v2.1 ([v3] : List (List Int))).bind fun v5 => some (.inl (v5, (IntKind.i64.wrap (v2.2 + (1 : Int))))))
 ((idx v3 (1 : Int)).bind fun v6 => cond (decide (v6 > (0 : Int)))
 ((appD 24 v2.1 ([v3] : List (List Int))).bind fun v7 => some (.inl (v7, (IntKind.i64.wrap (v2.2 + (1 : Int))))))
 (some (.inl (v2.1, (IntKind.i64.wrap (v2.2 + (1 : Int))))))))
 (some (.inr v2.1))
noncomputable def i_directions : Option (List (List Int)) :=
(i_lattice ([(0 : Int), (-12 : Int)] : List Int) ([(12 : Int), (12 : Int)] : List Int)).bind fun v1 => (iter (i_directions_s3 v1) (([] : List (List Int)), (0 : Int))).bind fun v8 => some v8
noncomputable def e_i_directions : CallE := ⟨106, [], [.l (.o false 22 (.list (.int .i64)))], fun x => i_directions⟩
noncomputable def c_i_directions : Ctx := ⟨Try.prog, TT, [e_i_lattice], [⟨3, [(1, .l (.o false 22 (.list (.int .i64)))), (8, .l (.d false (.int .i64)))], some (0, [(1, .l (.o false 22 (.list (.int .i64))))]), none⟩], [], []⟩
theorem k_i_directions (x : PMs.den e_i_directions.ps) : funK c_i_directions Try.f106 e_i_directions.ps e_i_directions.rs x = e_i_directions.F x := by kernel_rfl
theorem o_i_directions : FnOk Try.prog e_i_directions.f ∧ Ctr Try.prog e_i_directions := mkCtr (C := c_i_directions) m_ (⟨o_i_lattice, trivial⟩) Try.func106 (by kernel_rfl) k_i_directions
/-! loop.example/g00959/laws.heldIntSS -/
noncomputable def w_heldIntSS_s2 (x0 : List (List Int)) (v1 : Int × Int) : Option ((Int × Int) ⊕ ((Int) ⊕ (Int))) :=
cond (decide (v1.2 < (x0.length : Int)))
 ((idx x0 v1.2).bind fun v2 => (w_heldIntS v2 v1.1).bind fun v3 => cond (decide (v3 < (0 : Int)))
 (some (.inr (.inr (-1 : Int))))
 (some (.inl (v3, (IntKind.i64.wrap (v1.2 + (1 : Int)))))))
 (some (.inr (.inl v1.1)))
noncomputable def w_heldIntSS (x0 : List (List Int)) (x1 : Int) : Option (Int) :=
(iter (w_heldIntSS_s2 x0) (x1, (0 : Int))).bind fun v4 => match v4 with
 | .inl v5 => (some v5)
 | .inr v6 => (some v6)
noncomputable def e_w_heldIntSS : CallE := ⟨57, [.d false (.list (.list (.int .i64))), .d false (.int .i64)], [.l (.d false (.int .i64))], fun x => w_heldIntSS x.1 x.2⟩
noncomputable def c_w_heldIntSS : Ctx := ⟨Try.prog, TT, [e_w_heldIntS], [⟨2, [(1, .l (.d false (.int .i64))), (5, .l (.d false (.int .i64)))], some (0, [(1, .l (.d false (.int .i64)))]), some [(4, .l (.d false (.int .i64)))]⟩], [], []⟩
theorem k_w_heldIntSS (x : PMs.den e_w_heldIntSS.ps) : funK c_w_heldIntSS Try.f57 e_w_heldIntSS.ps e_w_heldIntSS.rs x = e_w_heldIntSS.F x := by kernel_rfl
theorem o_w_heldIntSS : FnOk Try.prog e_w_heldIntSS.f ∧ Ctr Try.prog e_w_heldIntSS := mkCtr (C := c_w_heldIntSS) m_ (⟨o_w_heldIntS, trivial⟩) Try.func57 (by kernel_rfl) k_w_heldIntSS
/-! loop.example/g00959/impl.TightenHalf -/
noncomputable def i_TightenHalf_s6 (v2 : Int) (v3 : List Int) (v5 : (List Int × Int) × (List Int × Int) × Int) : Option (((List Int × Int) × (List Int × Int) × Int) ⊕ ((List Int × Int) × List Int × Int)) :=
cond (decide (v5.2.2 < (v3.length : Int)))
 ((inIdx v5.2.1.1.length v5.2.2).bind fun _ => (idx v5.2.1.1 ((v5.2.2).toNat : Int)).bind fun v6 => (quoI .i64 v6 v2).bind fun v7 => (inIdx v5.2.1.1.length v5.2.2).bind fun _ => (inIdx v5.2.1.1.length ((v5.2.2).toNat : Int)).bind fun _ => some (.inl ((v5.1.1, v5.1.2), (((v5.2.1.1.set ((v5.2.2).toNat) v7), v5.2.1.2), (IntKind.i64.wrap (v5.2.2 + (1 : Int)))))))
 (some (.inr ((v5.1.1, v5.1.2), (v5.2.1.1, v5.2.1.2))))
noncomputable def i_TightenHalf (x0 : (List Int) × Int) : Option ((List Int × Int) × Bool) :=
(i_IsHalf (x0.1.length : Int) (x0.1, x0.2)).bind fun v1 => cond (!v1)
 (some ((([] : List Int), (0 : Int)), false))
 ((i_gcdAll x0.1).bind fun v2 => (i_copyInts x0.1).bind fun v3 => (i_down x0.2 v2).bind fun v4 => (iter (i_TightenHalf_s6 v2 v3) ((([] : List Int), (0 : Int)), ((v3, v4), (0 : Int)))).bind fun v8 => some ((v8.2.1, v8.2.2), true))
noncomputable def e_i_TightenHalf : CallE := ⟨109, [.d false (.prod (.list (.int .i64)) (.int .i64))], [.a [(.o true 3 (.int .i64)), (.d false (.int .i64))], .l (.d false .bool)], fun x => i_TightenHalf x⟩
noncomputable def c_i_TightenHalf : Ctx := ⟨Try.prog, TT, [e_i_IsHalf, e_i_gcdAll, e_i_copyInts, e_i_down], [⟨6, [(2, .b 60 [(.o true 3 (.int .i64)), (.d false (.int .i64))]), (5, .b 60 [(.o true 3 (.int .i64)), (.d false (.int .i64))]), (28, .l (.d false (.int .i64)))], some (0, [(2, .b 60 [(.o true 3 (.int .i64)), (.d false (.int .i64))]), (5, .b 60 [(.o true 3 (.int .i64)), (.d false (.int .i64))])]), none⟩], [], []⟩
theorem k_i_TightenHalf (x : PMs.den e_i_TightenHalf.ps) : funK c_i_TightenHalf Try.f109 e_i_TightenHalf.ps e_i_TightenHalf.rs x = e_i_TightenHalf.F x := by kernel_rfl
theorem o_i_TightenHalf : FnOk Try.prog e_i_TightenHalf.f ∧ Ctr Try.prog e_i_TightenHalf := mkCtr (C := c_i_TightenHalf) m_ (⟨o_i_IsHalf, o_i_gcdAll, o_i_copyInts, o_i_down, trivial⟩) Try.func109 (by kernel_rfl) k_i_TightenHalf
/-! loop.example/g00959/laws.heldHalfS -/
noncomputable def w_heldHalfS_s2 (x0 : List ((List Int) × Int)) (v1 : Int × Int) : Option ((Int × Int) ⊕ ((Int) ⊕ (Int))) :=
cond (decide (v1.2 < (x0.length : Int)))
 ((idx x0 v1.2).bind fun v2 => (w_heldIntS v2.1 v1.1).bind fun v3 => cond (decide (v3 < (0 : Int)))
 (some (.inr (.inr (-1 : Int))))
 ((idx x0 v1.2).bind fun v4 => cond (v4.2 != v3)
 (some (.inr (.inr (-1 : Int))))
 (some (.inl ((IntKind.i64.wrap (v3 + (1 : Int))), (IntKind.i64.wrap (v1.2 + (1 : Int))))))))
 (some (.inr (.inl v1.1)))
noncomputable def w_heldHalfS (x0 : List ((List Int) × Int)) (x1 : Int) : Option (Int) :=
(iter (w_heldHalfS_s2 x0) (x1, (0 : Int))).bind fun v5 => match v5 with
 | .inl v6 => (some v6)
 | .inr v7 => (some v7)
noncomputable def e_w_heldHalfS : CallE := ⟨114, [.d false (.list (.prod (.list (.int .i64)) (.int .i64))), .d false (.int .i64)], [.l (.d false (.int .i64))], fun x => w_heldHalfS x.1 x.2⟩
noncomputable def c_w_heldHalfS : Ctx := ⟨Try.prog, TT, [e_w_heldIntS], [⟨2, [(1, .l (.d false (.int .i64))), (5, .l (.d false (.int .i64)))], some (0, [(1, .l (.d false (.int .i64)))]), some [(4, .l (.d false (.int .i64)))]⟩], [], []⟩
theorem k_w_heldHalfS (x : PMs.den e_w_heldHalfS.ps) : funK c_w_heldHalfS Try.f114 e_w_heldHalfS.ps e_w_heldHalfS.rs x = e_w_heldHalfS.F x := by kernel_rfl
theorem o_w_heldHalfS : FnOk Try.prog e_w_heldHalfS.f ∧ Ctr Try.prog e_w_heldHalfS := mkCtr (C := c_w_heldHalfS) m_ (⟨o_w_heldIntS, trivial⟩) Try.func114 (by kernel_rfl) k_w_heldHalfS
/-! loop.example/g00959/laws.heldRegion -/
noncomputable def w_heldRegion (x0 : Int × (List ((List Int) × Int))) (x1 : Int) : Option (Int) :=
(w_heldHalfS x0.2 x1).bind fun v1 => cond (decide (v1 < (0 : Int)))
 (some (-1 : Int))
 (some v1)
noncomputable def e_w_heldRegion : CallE := ⟨61, [.d false (.prod (.int .i64) (.list (.prod (.list (.int .i64)) (.int .i64)))), .d false (.int .i64)], [.l (.d false (.int .i64))], fun x => w_heldRegion x.1 x.2⟩
noncomputable def c_w_heldRegion : Ctx := ⟨Try.prog, TT, [e_w_heldHalfS], [], [], []⟩
theorem k_w_heldRegion (x : PMs.den e_w_heldRegion.ps) : funK c_w_heldRegion Try.f61 e_w_heldRegion.ps e_w_heldRegion.rs x = e_w_heldRegion.F x := by kernel_rfl
theorem o_w_heldRegion : FnOk Try.prog e_w_heldRegion.f ∧ Ctr Try.prog e_w_heldRegion := mkCtr (C := c_w_heldRegion) m_ (⟨o_w_heldHalfS, trivial⟩) Try.func61 (by kernel_rfl) k_w_heldRegion
/-! loop.example/g00959/impl.support -/
noncomputable def i_support_s3 (x0 : List (List Int)) (x1 : List Int) (v3 : Int × Int) : Option ((Int × Int) ⊕ (Int)) :=
cond (decide (v3.2 < (x0.length : Int)))
 ((idx x0 v3.2).bind fun v4 => (i_dot x1 v4).bind fun v5 => some (.inl ((if v5 > v3.1 then v5 else v3.1), (IntKind.i64.wrap (v3.2 + (1 : Int))))))
 (some (.inr v3.1))
noncomputable def i_support (x0 : List (List Int)) (x1 : List Int) : Option (Int) :=
(idx x0 (0 : Int)).bind fun v1 => (i_dot x1 v1).bind fun v2 => (iter (i_support_s3 x0 x1) (v2, (0 : Int))).bind fun v6 => some v6
noncomputable def e_i_support : CallE := ⟨93, [.d false (.list (.list (.int .i64))), .d false (.list (.int .i64))], [.l (.d false (.int .i64))], fun x => i_support x.1 x.2⟩
noncomputable def c_i_support : Ctx := ⟨Try.prog, TT, [e_i_dot], [⟨3, [(5, .l (.d false (.int .i64))), (15, .l (.d false (.int .i64)))], some (0, [(5, .l (.d false (.int .i64)))]), none⟩], [], []⟩
theorem k_i_support (x : PMs.den e_i_support.ps) : funK c_i_support Try.f93 e_i_support.ps e_i_support.rs x = e_i_support.F x := by kernel_rfl
theorem o_i_support : FnOk Try.prog e_i_support.f ∧ Ctr Try.prog e_i_support := mkCtr (C := c_i_support) m_ (⟨o_i_dot, trivial⟩) Try.func93 (by kernel_rfl) k_i_support
/-! loop.example/g00959/spec.l4SameHalf -/
noncomputable def s_l4SameHalf (x0 : (List Int) × Int) (x1 : (List Int) × Int) : Option (Bool) :=
(s_l2Same x0.1 x1.1).bind fun v1 => cond v1
 (some (x0.2 == x1.2))
 (some false)
noncomputable def e_s_l4SameHalf : CallE := ⟨108, [.d false (.prod (.list (.int .i64)) (.int .i64)), .d false (.prod (.list (.int .i64)) (.int .i64))], [.l (.d false .bool)], fun x => s_l4SameHalf x.1 x.2⟩
noncomputable def c_s_l4SameHalf : Ctx := ⟨Try.prog, TT, [e_s_l2Same], [], [], []⟩
theorem k_s_l4SameHalf (x : PMs.den e_s_l4SameHalf.ps) : funK c_s_l4SameHalf Try.f108 e_s_l4SameHalf.ps e_s_l4SameHalf.rs x = e_s_l4SameHalf.F x := by kernel_rfl
theorem o_s_l4SameHalf : FnOk Try.prog e_s_l4SameHalf.f ∧ Ctr Try.prog e_s_l4SameHalf := mkCtr (C := c_s_l4SameHalf) m_ (⟨o_s_l2Same, trivial⟩) Try.func108 (by kernel_rfl) k_s_l4SameHalf
/-! slices.Equal[[]int,int] -/
noncomputable def g_slices_Equal_s4 (x0 : List Int) (x1 : List Int) (v1 : Int) : Option ((Int) ⊕ ((Unit) ⊕ (Bool))) :=
cond (decide (v1 < (x0.length : Int)))
 ((idx x0 v1).bind fun v2 => (idx x1 v1).bind fun v3 => cond (v2 != v3)
 (some (.inr (.inr false)))
 (some (.inl (IntKind.i64.wrap (v1 + (1 : Int))))))
 (some (.inr (.inl ())))
noncomputable def g_slices_Equal (x0 : List Int) (x1 : List Int) : Option (Bool) :=
cond ((x0.length : Int) != (x1.length : Int))
 (some false)
 ((iter (g_slices_Equal_s4 x0 x1) (0 : Int)).bind fun v4 => match v4 with
 | .inl v5 => (some true)
 | .inr v6 => (some v6))
noncomputable def e_g_slices_Equal : CallE := ⟨140, [.d false (.list (.int .i64)), .d false (.list (.int .i64))], [.l (.d false .bool)], fun x => g_slices_Equal x.1 x.2⟩
noncomputable def c_g_slices_Equal : Ctx := ⟨Try.prog, TT, [], [⟨4, [(13, .l (.d false (.int .i64)))], some (0, []), some [(4, .l (.d false .bool))]⟩], [], []⟩
theorem k_g_slices_Equal (x : PMs.den e_g_slices_Equal.ps) : funK c_g_slices_Equal Try.f140 e_g_slices_Equal.ps e_g_slices_Equal.rs x = e_g_slices_Equal.F x := by kernel_rfl
theorem o_g_slices_Equal : FnOk Try.prog e_g_slices_Equal.f ∧ Ctr Try.prog e_g_slices_Equal := mkCtr (C := c_g_slices_Equal) m_ (trivial) Try.func140 (by kernel_rfl) k_g_slices_Equal
/-! loop.example/g00959/impl.equalHalf -/
noncomputable def i_equalHalf (x0 : (List Int) × Int) (x1 : (List Int) × Int) : Option (Bool) :=
(g_slices_Equal x0.1 x1.1).bind fun v1 => cond v1
 (some (x0.2 == x1.2))
 (some false)
noncomputable def e_i_equalHalf : CallE := ⟨112, [.d false (.prod (.list (.int .i64)) (.int .i64)), .d false (.prod (.list (.int .i64)) (.int .i64))], [.l (.d false .bool)], fun x => i_equalHalf x.1 x.2⟩
noncomputable def c_i_equalHalf : Ctx := ⟨Try.prog, TT, [e_g_slices_Equal], [], [], []⟩
theorem k_i_equalHalf (x : PMs.den e_i_equalHalf.ps) : funK c_i_equalHalf Try.f112 e_i_equalHalf.ps e_i_equalHalf.rs x = e_i_equalHalf.F x := by kernel_rfl
theorem o_i_equalHalf : FnOk Try.prog e_i_equalHalf.f ∧ Ctr Try.prog e_i_equalHalf := mkCtr (C := c_i_equalHalf) m_ (⟨o_g_slices_Equal, trivial⟩) Try.func112 (by kernel_rfl) k_i_equalHalf
/-! loop.example/g00959/spec.ConeIndex -/
noncomputable def s_ConeIndex (x0 : (List Int) × (List Int)) : Option (Int) :=
(s_IsCone (x0.1, x0.2)).bind fun v1 => cond (!v1)
 (some (0 : Int))
 ((s_l7Cross x0.1 x0.2).bind fun v2 => some v2)
noncomputable def e_s_ConeIndex : CallE := ⟨117, [.d false (.prod (.list (.int .i64)) (.list (.int .i64)))], [.l (.d false (.int .i64))], fun x => s_ConeIndex x⟩
noncomputable def c_s_ConeIndex : Ctx := ⟨Try.prog, TT, [e_s_IsCone, e_s_l7Cross], [], [], []⟩
theorem k_s_ConeIndex (x : PMs.den e_s_ConeIndex.ps) : funK c_s_ConeIndex Try.f117 e_s_ConeIndex.ps e_s_ConeIndex.rs x = e_s_ConeIndex.F x := by kernel_rfl
theorem o_s_ConeIndex : FnOk Try.prog e_s_ConeIndex.f ∧ Ctr Try.prog e_s_ConeIndex := mkCtr (C := c_s_ConeIndex) m_ (⟨o_s_IsCone, o_s_l7Cross, trivial⟩) Try.func117 (by kernel_rfl) k_s_ConeIndex
/-! loop.example/g00959/spec.l1Min -/
noncomputable def s_l1Min (x0 : Int) (x1 : Int) : Option (Int) :=
cond (decide (x0 < x1))
 (some x0)
 (some x1)
noncomputable def e_s_l1Min : CallE := ⟨161, [.d false (.int .i64), .d false (.int .i64)], [.l (.d false (.int .i64))], fun x => s_l1Min x.1 x.2⟩
noncomputable def c_s_l1Min : Ctx := ⟨Try.prog, TT, [], [], [], []⟩
theorem k_s_l1Min (x : PMs.den e_s_l1Min.ps) : funK c_s_l1Min Try.f161 e_s_l1Min.ps e_s_l1Min.rs x = e_s_l1Min.F x := by kernel_rfl
theorem o_s_l1Min : FnOk Try.prog e_s_l1Min.f ∧ Ctr Try.prog e_s_l1Min := mkCtr (C := c_s_l1Min) m_ (trivial) Try.func161 (by kernel_rfl) k_s_l1Min
/-! loop.example/g00959/spec.l7Place -/
noncomputable def s_l7Place_s3 (x0 : List (List Int)) (x1 : List Int) (v1 : Int × Int) : Option ((Int × Int) ⊕ ((Int) ⊕ (Int))) :=
cond (decide (v1.2 < (x0.length : Int)))
 ((idx x0 v1.2).bind fun v2 => (remI .i64 (IntKind.i64.wrap (v1.2 + (1 : Int))) (x0.length : Int)).bind fun v3 => (idx x0 v3).bind fun v4 => (s_l7Turn v2 v4 x1).bind fun v5 => cond (decide (v5 < (0 : Int)))
 (some (.inr (.inr (-1 : Int))))
 (cond (v5 == (0 : Int))
 (some (.inl ((0 : Int), (IntKind.i64.wrap (v1.2 + (1 : Int))))))
 (some (.inl (v1.1, (IntKind.i64.wrap (v1.2 + (1 : Int))))))))
 (some (.inr (.inl v1.1)))
noncomputable def s_l7Place (x0 : List (List Int)) (x1 : List Int) : Option (Int) :=
(iter (s_l7Place_s3 x0 x1) ((1 : Int), (0 : Int))).bind fun v6 => match v6 with
 | .inl v7 => (some v7)
 | .inr v8 => (some v8)
noncomputable def e_s_l7Place : CallE := ⟨162, [.d false (.list (.list (.int .i64))), .d false (.list (.int .i64))], [.l (.d false (.int .i64))], fun x => s_l7Place x.1 x.2⟩
noncomputable def c_s_l7Place : Ctx := ⟨Try.prog, TT, [e_s_l7Turn], [⟨3, [(5, .l (.d false (.int .i64))), (6, .l (.d false (.int .i64)))], some (0, [(5, .l (.d false (.int .i64)))]), some [(4, .l (.d false (.int .i64)))]⟩], [], []⟩
theorem k_s_l7Place (x : PMs.den e_s_l7Place.ps) : funK c_s_l7Place Try.f162 e_s_l7Place.ps e_s_l7Place.rs x = e_s_l7Place.F x := by kernel_rfl
theorem o_s_l7Place : FnOk Try.prog e_s_l7Place.f ∧ Ctr Try.prog e_s_l7Place := mkCtr (C := c_s_l7Place) m_ (⟨o_s_l7Turn, trivial⟩) Try.func162 (by kernel_rfl) k_s_l7Place
/-! loop.example/g00959/impl.placeOf -/
noncomputable def i_placeOf_s3 (x0 : List (List Int)) (x1 : List Int) (v1 : Int × Int) : Option ((Int × Int) ⊕ ((Int) ⊕ (Int))) :=
cond (decide (v1.2 < (x0.length : Int)))
 ((idx x0 v1.2).bind fun v2 => (remI .i64 (IntKind.i64.wrap (v1.2 + (1 : Int))) (x0.length : Int)).bind fun v3 => (idx x0 v3).bind fun v4 => (i_turn v2 v4 x1).bind fun v5 => cond (decide (v5 < (0 : Int)))
 (some (.inr (.inr (-1 : Int))))
 (cond (v5 == (0 : Int))
 (some (.inl ((0 : Int), (IntKind.i64.wrap (v1.2 + (1 : Int))))))
 (some (.inl (v1.1, (IntKind.i64.wrap (v1.2 + (1 : Int))))))))
 (some (.inr (.inl v1.1)))
noncomputable def i_placeOf (x0 : List (List Int)) (x1 : List Int) : Option (Int) :=
(iter (i_placeOf_s3 x0 x1) ((1 : Int), (0 : Int))).bind fun v6 => match v6 with
 | .inl v7 => (some v7)
 | .inr v8 => (some v8)
noncomputable def e_i_placeOf : CallE := ⟨137, [.d false (.list (.list (.int .i64))), .d false (.list (.int .i64))], [.l (.d false (.int .i64))], fun x => i_placeOf x.1 x.2⟩
noncomputable def c_i_placeOf : Ctx := ⟨Try.prog, TT, [e_i_turn], [⟨3, [(5, .l (.d false (.int .i64))), (11, .l (.d false (.int .i64)))], some (0, [(5, .l (.d false (.int .i64)))]), some [(4, .l (.d false (.int .i64)))]⟩], [], []⟩
theorem k_i_placeOf (x : PMs.den e_i_placeOf.ps) : funK c_i_placeOf Try.f137 e_i_placeOf.ps e_i_placeOf.rs x = e_i_placeOf.F x := by kernel_rfl
theorem o_i_placeOf : FnOk Try.prog e_i_placeOf.f ∧ Ctr Try.prog e_i_placeOf := mkCtr (C := c_i_placeOf) m_ (⟨o_i_turn, trivial⟩) Try.func137 (by kernel_rfl) k_i_placeOf
/-! loop.example/g00959/spec.l7SameList -/
noncomputable def s_l7SameList_s4 (x0 : List (List Int)) (x1 : List (List Int)) (v1 : Int) : Option ((Int) ⊕ ((Unit) ⊕ (Bool))) :=
cond (decide (v1 < (x0.length : Int)))
 ((idx x0 v1).bind fun v2 => (idx x1 v1).bind fun v3 => (s_l2Same v2 v3).bind fun v4 => cond (!v4)
 (some (.inr (.inr false)))
 (some (.inl (IntKind.i64.wrap (v1 + (1 : Int))))))
 (some (.inr (.inl ())))
noncomputable def s_l7SameList (x0 : List (List Int)) (x1 : List (List Int)) : Option (Bool) :=
cond ((x0.length : Int) != (x1.length : Int))
 (some false)
 ((iter (s_l7SameList_s4 x0 x1) (0 : Int)).bind fun v5 => match v5 with
 | .inl v6 => (some true)
 | .inr v7 => (some v7))
noncomputable def e_s_l7SameList : CallE := ⟨143, [.d false (.list (.list (.int .i64))), .d false (.list (.list (.int .i64)))], [.l (.d false .bool)], fun x => s_l7SameList x.1 x.2⟩
noncomputable def c_s_l7SameList : Ctx := ⟨Try.prog, TT, [e_s_l2Same], [⟨4, [(5, .l (.d false (.int .i64)))], some (0, []), some [(4, .l (.d false .bool))]⟩], [], []⟩
theorem k_s_l7SameList (x : PMs.den e_s_l7SameList.ps) : funK c_s_l7SameList Try.f143 e_s_l7SameList.ps e_s_l7SameList.rs x = e_s_l7SameList.F x := by kernel_rfl
theorem o_s_l7SameList : FnOk Try.prog e_s_l7SameList.f ∧ Ctr Try.prog e_s_l7SameList := mkCtr (C := c_s_l7SameList) m_ (⟨o_s_l2Same, trivial⟩) Try.func143 (by kernel_rfl) k_s_l7SameList
/-! cmp.isNaN[int] -/
noncomputable def g_cmp_isNaN (x0 : Int) : Option (Bool) :=
some (x0 != x0)
noncomputable def e_g_cmp_isNaN : CallE := ⟨171, [.d false (.int .i64)], [.l (.d false .bool)], fun x => g_cmp_isNaN x⟩
noncomputable def c_g_cmp_isNaN : Ctx := ⟨Try.prog, TT, [], [], [], []⟩
theorem k_g_cmp_isNaN (x : PMs.den e_g_cmp_isNaN.ps) : funK c_g_cmp_isNaN Try.f171 e_g_cmp_isNaN.ps e_g_cmp_isNaN.rs x = e_g_cmp_isNaN.F x := by kernel_rfl
theorem o_g_cmp_isNaN : FnOk Try.prog e_g_cmp_isNaN.f ∧ Ctr Try.prog e_g_cmp_isNaN := mkCtr (C := c_g_cmp_isNaN) m_ (trivial) Try.func171 (by kernel_rfl) k_g_cmp_isNaN
/-! cmp.Compare[int] -/
noncomputable def g_cmp_Compare (x0 : Int) (x1 : Int) : Option (Int) :=
(g_cmp_isNaN x0).bind fun v1 => (g_cmp_isNaN x1).bind fun v2 => cond v1
 (cond v2
 (some (0 : Int))
 (some (-1 : Int)))
 (cond v2
 (some (1 : Int))
 (cond (decide (x0 < x1))
 (some (-1 : Int))
 (cond (decide (x0 > x1))
 (some (1 : Int))
 (some (0 : Int)))))
noncomputable def e_g_cmp_Compare : CallE := ⟨165, [.d false (.int .i64), .d false (.int .i64)], [.l (.d false (.int .i64))], fun x => g_cmp_Compare x.1 x.2⟩
noncomputable def c_g_cmp_Compare : Ctx := ⟨Try.prog, TT, [e_g_cmp_isNaN], [], [], []⟩
theorem k_g_cmp_Compare (x : PMs.den e_g_cmp_Compare.ps) : funK c_g_cmp_Compare Try.f165 e_g_cmp_Compare.ps e_g_cmp_Compare.rs x = e_g_cmp_Compare.F x := by kernel_rfl
theorem o_g_cmp_Compare : FnOk Try.prog e_g_cmp_Compare.f ∧ Ctr Try.prog e_g_cmp_Compare := mkCtr (C := c_g_cmp_Compare) m_ (⟨o_g_cmp_isNaN, trivial⟩) Try.func165 (by kernel_rfl) k_g_cmp_Compare
/-! slices.Compare[[]int,int] -/
noncomputable def g_slices_Compare_s2 (x0 : List Int) (x1 : List Int) (v1 : Int) : Option ((Int) ⊕ ((Unit) ⊕ (Int))) :=
cond (decide (v1 < (x0.length : Int)))
 ((idx x0 v1).bind fun v2 => cond (decide (v1 ≥ (x1.length : Int)))
 (some (.inr (.inr (1 : Int))))
 ((idx x1 v1).bind fun v3 => (g_cmp_Compare v2 v3).bind fun v4 => cond (v4 != (0 : Int))
 (some (.inr (.inr v4)))
 (some (.inl (IntKind.i64.wrap (v1 + (1 : Int)))))))
 (some (.inr (.inl ())))
noncomputable def g_slices_Compare (x0 : List Int) (x1 : List Int) : Option (Int) :=
(iter (g_slices_Compare_s2 x0 x1) (0 : Int)).bind fun v5 => match v5 with
 | .inl v6 => (cond (decide ((x0.length : Int) < (x1.length : Int)))
 (some (-1 : Int))
 (some (0 : Int)))
 | .inr v7 => (some v7)
noncomputable def e_g_slices_Compare : CallE := ⟨145, [.d false (.list (.int .i64)), .d false (.list (.int .i64))], [.l (.d false (.int .i64))], fun x => g_slices_Compare x.1 x.2⟩
noncomputable def c_g_slices_Compare : Ctx := ⟨Try.prog, TT, [e_g_cmp_Compare], [⟨2, [(11, .l (.d false (.int .i64)))], some (0, []), some [(4, .l (.d false (.int .i64)))]⟩], [], []⟩
theorem k_g_slices_Compare (x : PMs.den e_g_slices_Compare.ps) : funK c_g_slices_Compare Try.f145 e_g_slices_Compare.ps e_g_slices_Compare.rs x = e_g_slices_Compare.F x := by kernel_rfl
theorem o_g_slices_Compare : FnOk Try.prog e_g_slices_Compare.f ∧ Ctr Try.prog e_g_slices_Compare := mkCtr (C := c_g_slices_Compare) m_ (⟨o_g_cmp_Compare, trivial⟩) Try.func145 (by kernel_rfl) k_g_slices_Compare
/-! loop.example/g00959/spec.l25Range -/
noncomputable def s_l25Range_s4 (x0 : List (List Int)) (x1 : List Int) (v3 : Int × Int × Int) : Option ((Int × Int × Int) ⊕ (Int × Int)) :=
cond (decide (v3.2.2 < (x0.length : Int)))
 ((idx x0 v3.2.2).bind fun v4 => (s_l2Dot x1 v4).bind fun v5 => (s_l1Max v3.1 v5).bind fun v6 => (s_l1Min v3.2.1 v5).bind fun v7 => some (.inl (v6, (v7, (IntKind.i64.wrap (v3.2.2 + (1 : Int)))))))
 (some (.inr (v3.1, v3.2.1)))
noncomputable def s_l25Range (x0 : List (List Int)) (x1 : List Int) : Option (Int × Int) :=
(idx x0 (0 : Int)).bind fun v1 => (s_l2Dot x1 v1).bind fun v2 => (iter (s_l25Range_s4 x0 x1) (v2, (v2, (1 : Int)))).bind fun v8 => some (v8.1, v8.2)
noncomputable def e_s_l25Range : CallE := ⟨151, [.d false (.list (.list (.int .i64))), .d false (.list (.int .i64))], [.l (.d false (.int .i64)), .l (.d false (.int .i64))], fun x => s_l25Range x.1 x.2⟩
noncomputable def c_s_l25Range : Ctx := ⟨Try.prog, TT, [e_s_l2Dot, e_s_l1Max, e_s_l1Min], [⟨4, [(6, .l (.d false (.int .i64))), (7, .l (.d false (.int .i64))), (8, .l (.d false (.int .i64)))], some (0, [(6, .l (.d false (.int .i64))), (7, .l (.d false (.int .i64)))]), none⟩], [], []⟩
theorem k_s_l25Range (x : PMs.den e_s_l25Range.ps) : funK c_s_l25Range Try.f151 e_s_l25Range.ps e_s_l25Range.rs x = e_s_l25Range.F x := by kernel_rfl
theorem o_s_l25Range : FnOk Try.prog e_s_l25Range.f ∧ Ctr Try.prog e_s_l25Range := mkCtr (C := c_s_l25Range) m_ (⟨o_s_l2Dot, o_s_l1Max, o_s_l1Min, trivial⟩) Try.func151 (by kernel_rfl) k_s_l25Range
/-! loop.example/g00959/impl.GcdOf -/
noncomputable def i_GcdOf (x0 : List Int) : Option (Int) :=
(i_IsVector x0).bind fun v1 => cond (!v1)
 (some (-1 : Int))
 ((i_gcdAll x0).bind fun v2 => some v2)
noncomputable def e_i_GcdOf : CallE := ⟨168, [.d false (.list (.int .i64))], [.l (.d false (.int .i64))], fun x => i_GcdOf x⟩
noncomputable def c_i_GcdOf : Ctx := ⟨Try.prog, TT, [e_i_IsVector, e_i_gcdAll], [], [], []⟩
theorem k_i_GcdOf (x : PMs.den e_i_GcdOf.ps) : funK c_i_GcdOf Try.f168 e_i_GcdOf.ps e_i_GcdOf.rs x = e_i_GcdOf.F x := by kernel_rfl
theorem o_i_GcdOf : FnOk Try.prog e_i_GcdOf.f ∧ Ctr Try.prog e_i_GcdOf := mkCtr (C := c_i_GcdOf) m_ (⟨o_i_IsVector, o_i_gcdAll, trivial⟩) Try.func168 (by kernel_rfl) k_i_GcdOf
/-! loop.example/g00959/impl.PrimitiveOf -/
noncomputable def i_PrimitiveOf_s6 (v1 : Int) (v2 : List Int) (v3 : List Int × Int) : Option ((List Int × Int) ⊕ (List Int)) :=
cond (decide (v3.2 < (v2.length : Int)))
 ((inIdx v3.1.length v3.2).bind fun _ => (idx v3.1 ((v3.2).toNat : Int)).bind fun v4 => (quoI .i64 v4 v1).bind fun v5 => (inIdx v3.1.length v3.2).bind fun _ => (inIdx v3.1.length ((v3.2).toNat : Int)).bind fun _ => some (.inl ((v3.1.set ((v3.2).toNat) v5), (IntKind.i64.wrap (v3.2 + (1 : Int))))))
 (some (.inr v3.1))
noncomputable def i_PrimitiveOf (x0 : List Int) : Option (List Int × Bool) :=
(i_GcdOf x0).bind fun v1 => cond (decide (v1 ≤ (0 : Int)))
 (some (([] : List Int), false))
 ((i_copyInts x0).bind fun v2 => (iter (i_PrimitiveOf_s6 v1 v2) (v2, (0 : Int))).bind fun v6 => some (v6, true))
noncomputable def e_i_PrimitiveOf : CallE := ⟨155, [.d false (.list (.int .i64))], [.l (.o true 3 (.int .i64)), .l (.d false .bool)], fun x => i_PrimitiveOf x⟩
noncomputable def c_i_PrimitiveOf : Ctx := ⟨Try.prog, TT, [e_i_GcdOf, e_i_copyInts], [⟨6, [(5, .l (.o true 3 (.int .i64))), (15, .l (.d false (.int .i64)))], some (0, [(5, .l (.o true 3 (.int .i64)))]), none⟩], [], []⟩
theorem k_i_PrimitiveOf (x : PMs.den e_i_PrimitiveOf.ps) : funK c_i_PrimitiveOf Try.f155 e_i_PrimitiveOf.ps e_i_PrimitiveOf.rs x = e_i_PrimitiveOf.F x := by kernel_rfl
theorem o_i_PrimitiveOf : FnOk Try.prog e_i_PrimitiveOf.f ∧ Ctr Try.prog e_i_PrimitiveOf := mkCtr (C := c_i_PrimitiveOf) m_ (⟨o_i_GcdOf, o_i_copyInts, trivial⟩) Try.func155 (by kernel_rfl) k_i_PrimitiveOf
/-! loop.example/g00959/spec.l7Area -/
noncomputable def s_l7Area_s3 (x0 : List (List Int)) (v1 : Int × Int) : Option ((Int × Int) ⊕ (Int)) :=
cond (decide (v1.2 < (x0.length : Int)))
 ((idx x0 v1.2).bind fun v2 => (remI .i64 (IntKind.i64.wrap (v1.2 + (1 : Int))) (x0.length : Int)).bind fun v3 => (idx x0 v3).bind fun v4 => (s_l7Cross v2 v4).bind fun v5 => some (.inl ((IntKind.i64.wrap (v1.1 + v5)), (IntKind.i64.wrap (v1.2 + (1 : Int))))))
 (some (.inr v1.1))
noncomputable def s_l7Area (x0 : List (List Int)) : Option (Int) :=
(iter (s_l7Area_s3 x0) ((0 : Int), (0 : Int))).bind fun v6 => some v6
noncomputable def e_s_l7Area : CallE := ⟨156, [.d false (.list (.list (.int .i64)))], [.l (.d false (.int .i64))], fun x => s_l7Area x⟩
noncomputable def c_s_l7Area : Ctx := ⟨Try.prog, TT, [e_s_l7Cross], [⟨3, [(3, .l (.d false (.int .i64))), (4, .l (.d false (.int .i64)))], some (0, [(3, .l (.d false (.int .i64)))]), none⟩], [], []⟩
theorem k_s_l7Area (x : PMs.den e_s_l7Area.ps) : funK c_s_l7Area Try.f156 e_s_l7Area.ps e_s_l7Area.rs x = e_s_l7Area.F x := by kernel_rfl
theorem o_s_l7Area : FnOk Try.prog e_s_l7Area.f ∧ Ctr Try.prog e_s_l7Area := mkCtr (C := c_s_l7Area) m_ (⟨o_s_l7Cross, trivial⟩) Try.func156 (by kernel_rfl) k_s_l7Area
/-! loop.example/g00959/spec.l7Copy -/
noncomputable def s_l7Copy_s3 (x0 : List (List Int)) (v1 : List (List Int) × Int) : Option ((List (List Int) × Int) ⊕ (List (List Int))) :=
cond (decide (v1.2 < (x0.length : Int)))
 ((idx x0 v1.2).bind fun v2 => (appD 8 ([] : List Int) v2).bind fun v3 => (appD 24 v1.1 ([v3] : List (List Int))).bind fun v4 => some (.inl (v4, (IntKind.i64.wrap (v1.2 + (1 : Int))))))
 (some (.inr v1.1))
noncomputable def s_l7Copy (x0 : List (List Int)) : Option (List (List Int)) :=
(iter (s_l7Copy_s3 x0) (([] : List (List Int)), (0 : Int))).bind fun v5 => some v5
noncomputable def e_s_l7Copy : CallE := ⟨164, [.d false (.list (.list (.int .i64)))], [.l (.o true 22 (.list (.int .i64)))], fun x => s_l7Copy x⟩
noncomputable def c_s_l7Copy : Ctx := ⟨Try.prog, TT, [], [⟨3, [(3, .l (.o true 22 (.list (.int .i64)))), (4, .l (.d false (.int .i64)))], some (0, [(3, .l (.o true 22 (.list (.int .i64))))]), none⟩], [], []⟩
theorem k_s_l7Copy (x : PMs.den e_s_l7Copy.ps) : funK c_s_l7Copy Try.f164 e_s_l7Copy.ps e_s_l7Copy.rs x = e_s_l7Copy.F x := by kernel_rfl
theorem o_s_l7Copy : FnOk Try.prog e_s_l7Copy.f ∧ Ctr Try.prog e_s_l7Copy := mkCtr (C := c_s_l7Copy) m_ (trivial) Try.func164 (by kernel_rfl) k_s_l7Copy
/-! loop.example/g00959/impl.areaTwice -/
noncomputable def i_areaTwice_s3 (x0 : List (List Int)) (v1 : Int × Int) : Option ((Int × Int) ⊕ (Int)) :=
cond (decide (v1.2 < (x0.length : Int)))
 ((idx x0 v1.2).bind fun v2 => (remI .i64 (IntKind.i64.wrap (v1.2 + (1 : Int))) (x0.length : Int)).bind fun v3 => (idx x0 v3).bind fun v4 => (i_cross v2 v4).bind fun v5 => some (.inl ((IntKind.i64.wrap (v1.1 + v5)), (IntKind.i64.wrap (v1.2 + (1 : Int))))))
 (some (.inr v1.1))
noncomputable def i_areaTwice (x0 : List (List Int)) : Option (Int) :=
(iter (i_areaTwice_s3 x0) ((0 : Int), (0 : Int))).bind fun v6 => some v6
noncomputable def e_i_areaTwice : CallE := ⟨169, [.d false (.list (.list (.int .i64)))], [.l (.d false (.int .i64))], fun x => i_areaTwice x⟩
noncomputable def c_i_areaTwice : Ctx := ⟨Try.prog, TT, [e_i_cross], [⟨3, [(3, .l (.d false (.int .i64))), (8, .l (.d false (.int .i64)))], some (0, [(3, .l (.d false (.int .i64)))]), none⟩], [], []⟩
theorem k_i_areaTwice (x : PMs.den e_i_areaTwice.ps) : funK c_i_areaTwice Try.f169 e_i_areaTwice.ps e_i_areaTwice.rs x = e_i_areaTwice.F x := by kernel_rfl
theorem o_i_areaTwice : FnOk Try.prog e_i_areaTwice.f ∧ Ctr Try.prog e_i_areaTwice := mkCtr (C := c_i_areaTwice) m_ (⟨o_i_cross, trivial⟩) Try.func169 (by kernel_rfl) k_i_areaTwice
/-! loop.example/g00959/impl.copyPoints -/
noncomputable def i_copyPoints_s3 (x0 : List (List Int)) (v1 : List (List Int) × Int) : Option ((List (List Int) × Int) ⊕ (List (List Int))) :=
cond (decide (v1.2 < (x0.length : Int)))
 ((idx x0 v1.2).bind fun v2 => (i_copyInts v2).bind fun v3 => (appD 24 v1.1 ([v3] : List (List Int))).bind fun v4 => some (.inl (v4, (IntKind.i64.wrap (v1.2 + (1 : Int))))))
 (some (.inr v1.1))
noncomputable def i_copyPoints (x0 : List (List Int)) : Option (List (List Int)) :=
(iter (i_copyPoints_s3 x0) (([] : List (List Int)), (0 : Int))).bind fun v5 => some v5
noncomputable def e_i_copyPoints : CallE := ⟨170, [.d false (.list (.list (.int .i64)))], [.l (.o true 22 (.list (.int .i64)))], fun x => i_copyPoints x⟩
noncomputable def c_i_copyPoints : Ctx := ⟨Try.prog, TT, [e_i_copyInts], [⟨3, [(3, .l (.o true 22 (.list (.int .i64)))), (8, .l (.d false (.int .i64)))], some (0, [(3, .l (.o true 22 (.list (.int .i64))))]), none⟩], [], []⟩
theorem k_i_copyPoints (x : PMs.den e_i_copyPoints.ps) : funK c_i_copyPoints Try.f170 e_i_copyPoints.ps e_i_copyPoints.rs x = e_i_copyPoints.F x := by kernel_rfl
theorem o_i_copyPoints : FnOk Try.prog e_i_copyPoints.f ∧ Ctr Try.prog e_i_copyPoints := mkCtr (C := c_i_copyPoints) m_ (⟨o_i_copyInts, trivial⟩) Try.func170 (by kernel_rfl) k_i_copyPoints
end Go.Proofs.Ytooaolakcpjjkaa
