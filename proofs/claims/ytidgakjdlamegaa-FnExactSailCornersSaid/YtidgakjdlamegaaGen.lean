/- Plain functions. -/
import Derived.Test.YtidgakjdlamegaaProg
import Derived.Test.YtidgakjdlamegaaEm5
import Derived.Test.YtidgakjdlamegaaEm8
import Derived.KernelRfl
namespace Go.Proofs.Ytidgakjdlamegaa
open Go Go.Proofs.Ytidgakjdlamegaa.Eng
set_option linter.unusedVariables false
set_option maxRecDepth 100000
noncomputable def TT : List (TypeId × Ty) := [(3, (.int .i64)), (22, (.list (.int .i64)))]
theorem m_ : Try.prog.follows .mixedOrders = true := by kernel_rfl
/-! loop.example/g00959/laws.szIntS -/
noncomputable def w_szIntS (x0 : List Int) (x1 : Int) : Option (Int) :=
 cond (decide ((IntKind.i64.wrap (x1 - (x0.length : Int))) < (0 : Int)))
 (some (-1 : Int))
 (some (IntKind.i64.wrap (x1 - (x0.length : Int))))
noncomputable def e_w_szIntS : CallE := ⟨18, [.d false (.list (.int .i64)), .d false (.int .i64)], [.l (.d false (.int .i64))], fun x => w_szIntS x.1 x.2⟩
noncomputable def c_w_szIntS : Ctx := ⟨Try.prog, TT, [], [], [], [], [], []⟩
theorem k_w_szIntS (x : PMs.den e_w_szIntS.ps) : funK c_w_szIntS Try.f18 e_w_szIntS.ps e_w_szIntS.rs x = e_w_szIntS.F x := by kernel_rfl
theorem o_w_szIntS : FnOk Try.prog e_w_szIntS.f ∧ Ctr Try.prog e_w_szIntS := mkCtr (C := c_w_szIntS) m_ (trivial) Try.func18 (by kernel_rfl) k_w_szIntS
/-! loop.example/g00959/laws.szCone -/
noncomputable def w_szCone (x0 : (List Int) × (List Int)) (x1 : Int) : Option (Int) :=
(w_szIntS x0.1 x1).bind fun v1 => cond (decide (v1 < (0 : Int)))
 (some (-1 : Int))
 ((w_szIntS x0.2 v1).bind fun v2 => cond (decide (v2 < (0 : Int)))
 (some (-1 : Int))
 (some v2))
noncomputable def e_w_szCone : CallE := ⟨5, [.d false (.prod (.list (.int .i64)) (.list (.int .i64))), .d false (.int .i64)], [.l (.d false (.int .i64))], fun x => w_szCone x.1 x.2⟩
noncomputable def c_w_szCone : Ctx := ⟨Try.prog, TT, [e_w_szIntS], [], [], [], [], []⟩
theorem k_w_szCone (x : PMs.den e_w_szCone.ps) : funK c_w_szCone Try.f5 e_w_szCone.ps e_w_szCone.rs x = e_w_szCone.F x := by kernel_rfl
theorem o_w_szCone : FnOk Try.prog e_w_szCone.f ∧ Ctr Try.prog e_w_szCone := mkCtr (C := c_w_szCone) m_ (⟨o_w_szIntS, trivial⟩) Try.func5 (by kernel_rfl) k_w_szCone
/-! loop.example/g00959/laws.toIntS -/
noncomputable def w_toIntS_s3 (x0 : List Int) (v2 : List Int × Int) : Option ((List Int × Int) ⊕ (List Int)) :=
 cond (decide (v2.2 < (x0.length : Int)))
 ((idx x0 v2.2).bind fun v3 => (inIdx v2.1.length v2.2).bind fun _ => (inIdx v2.1.length ((v2.2).toNat : Int)).bind fun _ => some (.inl ((v2.1.set ((v2.2).toNat) v3), (IntKind.i64.wrap (v2.2 + (1 : Int))))))
 (some (.inr v2.1))
noncomputable def w_toIntS (x0 : List Int) : Option (List Int) :=
(mkD 8 (x0.length : Int) (0 : Int)).bind fun v1 => (iter (w_toIntS_s3 x0) (v1, (0 : Int))).bind fun v4 => some v4
noncomputable def e_w_toIntS : CallE := ⟨21, [.d false (.list (.int .i64))], [.l (.o true 3 (.int .i64))], fun x => w_toIntS x⟩
noncomputable def c_w_toIntS : Ctx := ⟨Try.prog, TT, [], [⟨3, [(3, .l (.o true 3 (.int .i64))), (4, .l (.d false (.int .i64)))], some (0, [(3, .l (.o true 3 (.int .i64)))]), none, false⟩], [], [], [], []⟩
theorem k_w_toIntS (x : PMs.den e_w_toIntS.ps) : funK c_w_toIntS Try.f21 e_w_toIntS.ps e_w_toIntS.rs x = e_w_toIntS.F x := by kernel_rfl
theorem o_w_toIntS : FnOk Try.prog e_w_toIntS.f ∧ Ctr Try.prog e_w_toIntS := mkCtr (C := c_w_toIntS) m_ (trivial) Try.func21 (by kernel_rfl) k_w_toIntS
/-! loop.example/g00959/laws.toCone -/
noncomputable def w_toCone (x0 : (List Int) × (List Int)) : Option (List Int × List Int) :=
(w_toIntS x0.1).bind fun v1 => (w_toIntS x0.2).bind fun v2 => some (v1, v2)
noncomputable def e_w_toCone : CallE := ⟨7, [.d false (.prod (.list (.int .i64)) (.list (.int .i64)))], [.a [(.o true 3 (.int .i64)), (.o true 3 (.int .i64))]], fun x => w_toCone x⟩
noncomputable def c_w_toCone : Ctx := ⟨Try.prog, TT, [e_w_toIntS], [], [], [], [], []⟩
theorem k_w_toCone (x : PMs.den e_w_toCone.ps) : funK c_w_toCone Try.f7 e_w_toCone.ps e_w_toCone.rs x = e_w_toCone.F x := by kernel_rfl
theorem o_w_toCone : FnOk Try.prog e_w_toCone.f ∧ Ctr Try.prog e_w_toCone := mkCtr (C := c_w_toCone) m_ (⟨o_w_toIntS, trivial⟩) Try.func7 (by kernel_rfl) k_w_toCone
/-! loop.example/g00959/spec.l1In -/
noncomputable def s_l1In (x0 : Int) (x1 : Int) (x2 : Int) : Option (Bool) :=
 cond (decide (x0 ≥ x1))
 (some (decide (x0 ≤ x2)))
 (some false)
noncomputable def e_s_l1In : CallE := ⟨44, [.d false (.int .i64), .d false (.int .i64), .d false (.int .i64)], [.l (.d false .bool)], fun x => s_l1In x.1 x.2.1 x.2.2⟩
noncomputable def c_s_l1In : Ctx := ⟨Try.prog, TT, [], [], [], [], [], []⟩
theorem k_s_l1In (x : PMs.den e_s_l1In.ps) : funK c_s_l1In Try.f44 e_s_l1In.ps e_s_l1In.rs x = e_s_l1In.F x := by kernel_rfl
theorem o_s_l1In : FnOk Try.prog e_s_l1In.f ∧ Ctr Try.prog e_s_l1In := mkCtr (C := c_s_l1In) m_ (trivial) Try.func44 (by kernel_rfl) k_s_l1In
/-! loop.example/g00959/spec.l2Small -/
noncomputable def s_l2Small_s2 (x0 : List Int) (x1 : Int) (v1 : Int) : Option ((Int) ⊕ ((Unit) ⊕ (Bool))) :=
 cond (decide (v1 < (x0.length : Int)))
 ((idx x0 v1).bind fun v2 => (s_l1In v2 (IntKind.i64.wrap (0 - x1)) x1).bind fun v3 => cond (!v3)
 (some (.inr (.inr false)))
 (some (.inl (IntKind.i64.wrap (v1 + (1 : Int))))))
 (some (.inr (.inl ())))
noncomputable def s_l2Small (x0 : List Int) (x1 : Int) : Option (Bool) :=
(iter (s_l2Small_s2 x0 x1) (0 : Int)).bind fun v4 => match v4 with
 | .inl v5 => (some true)
 | .inr v6 => (some v6)
noncomputable def e_s_l2Small : CallE := ⟨61, [.d false (.list (.int .i64)), .d false (.int .i64)], [.l (.d false .bool)], fun x => s_l2Small x.1 x.2⟩
noncomputable def c_s_l2Small : Ctx := ⟨Try.prog, TT, [e_s_l1In], [⟨2, [(5, .l (.d false (.int .i64)))], some (0, []), some [(4, .l (.d false .bool))], false⟩], [], [], [], []⟩
theorem k_s_l2Small (x : PMs.den e_s_l2Small.ps) : funK c_s_l2Small Try.f61 e_s_l2Small.ps e_s_l2Small.rs x = e_s_l2Small.F x := by kernel_rfl
theorem o_s_l2Small : FnOk Try.prog e_s_l2Small.f ∧ Ctr Try.prog e_s_l2Small := mkCtr (C := c_s_l2Small) m_ (⟨o_s_l1In, trivial⟩) Try.func61 (by kernel_rfl) k_s_l2Small
/-! loop.example/g00959/spec.l1Max -/
noncomputable def s_l1Max (x0 : Int) (x1 : Int) : Option (Int) :=
 cond (decide (x0 > x1))
 (some x0)
 (some x1)
noncomputable def e_s_l1Max : CallE := ⟨67, [.d false (.int .i64), .d false (.int .i64)], [.l (.d false (.int .i64))], fun x => s_l1Max x.1 x.2⟩
noncomputable def c_s_l1Max : Ctx := ⟨Try.prog, TT, [], [], [], [], [], []⟩
theorem k_s_l1Max (x : PMs.den e_s_l1Max.ps) : funK c_s_l1Max Try.f67 e_s_l1Max.ps e_s_l1Max.rs x = e_s_l1Max.F x := by kernel_rfl
theorem o_s_l1Max : FnOk Try.prog e_s_l1Max.f ∧ Ctr Try.prog e_s_l1Max := mkCtr (C := c_s_l1Max) m_ (trivial) Try.func67 (by kernel_rfl) k_s_l1Max
/-! loop.example/g00959/spec.l1Abs -/
noncomputable def s_l1Abs (x0 : Int) : Option (Int) :=
(s_l1Max x0 (IntKind.i64.wrap (0 - x0))).bind fun v1 => some v1
noncomputable def e_s_l1Abs : CallE := ⟨83, [.d false (.int .i64)], [.l (.d false (.int .i64))], fun x => s_l1Abs x⟩
noncomputable def c_s_l1Abs : Ctx := ⟨Try.prog, TT, [e_s_l1Max], [], [], [], [], []⟩
theorem k_s_l1Abs (x : PMs.den e_s_l1Abs.ps) : funK c_s_l1Abs Try.f83 e_s_l1Abs.ps e_s_l1Abs.rs x = e_s_l1Abs.F x := by kernel_rfl
theorem o_s_l1Abs : FnOk Try.prog e_s_l1Abs.f ∧ Ctr Try.prog e_s_l1Abs := mkCtr (C := c_s_l1Abs) m_ (⟨o_s_l1Max, trivial⟩) Try.func83 (by kernel_rfl) k_s_l1Abs
/-! loop.example/g00959/spec.l2Gcd -/
noncomputable def s_l2Gcd_s3 (v3 : Int × Int) : Option ((Int × Int) ⊕ (Int)) :=
 cond (v3.2 != (0 : Int))
 ((remI .i64 v3.1 v3.2).bind fun v4 => some (.inl (v3.2, v4)))
 (some (.inr v3.1))
noncomputable def s_l2Gcd (x0 : Int) (x1 : Int) : Option (Int) :=
(s_l1Abs x0).bind fun v1 => (s_l1Abs x1).bind fun v2 => (iter (s_l2Gcd_s3) (v1, v2)).bind fun v5 => some v5
noncomputable def e_s_l2Gcd : CallE := ⟨80, [.d false (.int .i64), .d false (.int .i64)], [.l (.d false (.int .i64))], fun x => s_l2Gcd x.1 x.2⟩
noncomputable def c_s_l2Gcd : Ctx := ⟨Try.prog, TT, [e_s_l1Abs], [⟨3, [(0, .l (.d false (.int .i64))), (1, .l (.d false (.int .i64)))], some (0, [(0, .l (.d false (.int .i64)))]), none, false⟩], [], [], [], []⟩
theorem k_s_l2Gcd (x : PMs.den e_s_l2Gcd.ps) : funK c_s_l2Gcd Try.f80 e_s_l2Gcd.ps e_s_l2Gcd.rs x = e_s_l2Gcd.F x := by kernel_rfl
theorem o_s_l2Gcd : FnOk Try.prog e_s_l2Gcd.f ∧ Ctr Try.prog e_s_l2Gcd := mkCtr (C := c_s_l2Gcd) m_ (⟨o_s_l1Abs, trivial⟩) Try.func80 (by kernel_rfl) k_s_l2Gcd
/-! loop.example/g00959/spec.l2All -/
noncomputable def s_l2All_s3 (x0 : List Int) (v1 : Int × Int) : Option ((Int × Int) ⊕ (Int)) :=
 cond (decide (v1.2 < (x0.length : Int)))
 ((idx x0 v1.2).bind fun v2 => (s_l2Gcd v1.1 v2).bind fun v3 => some (.inl (v3, (IntKind.i64.wrap (v1.2 + (1 : Int))))))
 (some (.inr v1.1))
noncomputable def s_l2All (x0 : List Int) : Option (Int) :=
(iter (s_l2All_s3 x0) ((0 : Int), (0 : Int))).bind fun v4 => some v4
noncomputable def e_s_l2All : CallE := ⟨74, [.d false (.list (.int .i64))], [.l (.d false (.int .i64))], fun x => s_l2All x⟩
noncomputable def c_s_l2All : Ctx := ⟨Try.prog, TT, [e_s_l2Gcd], [⟨3, [(3, .l (.d false (.int .i64))), (4, .l (.d false (.int .i64)))], some (0, [(3, .l (.d false (.int .i64)))]), none, false⟩], [], [], [], []⟩
theorem k_s_l2All (x : PMs.den e_s_l2All.ps) : funK c_s_l2All Try.f74 e_s_l2All.ps e_s_l2All.rs x = e_s_l2All.F x := by kernel_rfl
theorem o_s_l2All : FnOk Try.prog e_s_l2All.f ∧ Ctr Try.prog e_s_l2All := mkCtr (C := c_s_l2All) m_ (⟨o_s_l2Gcd, trivial⟩) Try.func74 (by kernel_rfl) k_s_l2All
/-! loop.example/g00959/spec.l9Ray -/
noncomputable def s_l9Ray (x0 : List Int) : Option (Bool) :=
 cond ((x0.length : Int) == (2 : Int))
 ((s_l2Small x0 (30 : Int)).bind fun v1 => cond v1
 ((s_l2All x0).bind fun v2 => some (v2 == (1 : Int)))
 (some false))
 (some false)
noncomputable def e_s_l9Ray : CallE := ⟨54, [.d false (.list (.int .i64))], [.l (.d false .bool)], fun x => s_l9Ray x⟩
noncomputable def c_s_l9Ray : Ctx := ⟨Try.prog, TT, [e_s_l2Small, e_s_l2All], [], [], [], [], []⟩
theorem k_s_l9Ray (x : PMs.den e_s_l9Ray.ps) : funK c_s_l9Ray Try.f54 e_s_l9Ray.ps e_s_l9Ray.rs x = e_s_l9Ray.F x := by kernel_rfl
theorem o_s_l9Ray : FnOk Try.prog e_s_l9Ray.f ∧ Ctr Try.prog e_s_l9Ray := mkCtr (C := c_s_l9Ray) m_ (⟨o_s_l2Small, o_s_l2All, trivial⟩) Try.func54 (by kernel_rfl) k_s_l9Ray
/-! loop.example/g00959/spec.l7Cross -/
noncomputable def s_l7Cross (x0 : List Int) (x1 : List Int) : Option (Int) :=
(idx x0 (0 : Int)).bind fun v1 => (idx x1 (1 : Int)).bind fun v2 => (idx x0 (1 : Int)).bind fun v3 => (idx x1 (0 : Int)).bind fun v4 => some (IntKind.i64.wrap ((IntKind.i64.wrap (v1 * v2)) - (IntKind.i64.wrap (v3 * v4))))
noncomputable def e_s_l7Cross : CallE := ⟨33, [.d false (.list (.int .i64)), .d false (.list (.int .i64))], [.l (.d false (.int .i64))], fun x => s_l7Cross x.1 x.2⟩
noncomputable def c_s_l7Cross : Ctx := ⟨Try.prog, TT, [], [], [], [], [], []⟩
theorem k_s_l7Cross (x : PMs.den e_s_l7Cross.ps) : funK c_s_l7Cross Try.f33 e_s_l7Cross.ps e_s_l7Cross.rs x = e_s_l7Cross.F x := by kernel_rfl
theorem o_s_l7Cross : FnOk Try.prog e_s_l7Cross.f ∧ Ctr Try.prog e_s_l7Cross := mkCtr (C := c_s_l7Cross) m_ (trivial) Try.func33 (by kernel_rfl) k_s_l7Cross
/-! loop.example/g00959/spec.IsCone -/
noncomputable def s_IsCone (x0 : (List Int) × (List Int)) : Option (Bool) :=
(s_l9Ray x0.1).bind fun v1 => cond v1
 ((s_l9Ray x0.2).bind fun v2 => cond v2
 ((s_l7Cross x0.1 x0.2).bind fun v3 => some (decide (v3 > (0 : Int))))
 (some false))
 (some false)
noncomputable def e_s_IsCone : CallE := ⟨32, [.d false (.prod (.list (.int .i64)) (.list (.int .i64)))], [.l (.d false .bool)], fun x => s_IsCone x⟩
noncomputable def c_s_IsCone : Ctx := ⟨Try.prog, TT, [e_s_l9Ray, e_s_l7Cross], [], [], [], [], []⟩
theorem k_s_IsCone (x : PMs.den e_s_IsCone.ps) : funK c_s_IsCone Try.f32 e_s_IsCone.ps e_s_IsCone.rs x = e_s_IsCone.F x := by kernel_rfl
theorem o_s_IsCone : FnOk Try.prog e_s_IsCone.f ∧ Ctr Try.prog e_s_IsCone := mkCtr (C := c_s_IsCone) m_ (⟨o_s_l9Ray, o_s_l7Cross, trivial⟩) Try.func32 (by kernel_rfl) k_s_IsCone
/-! loop.example/g00959/spec.l9Bezout -/
noncomputable def s_l9Bezout_s8 (x0 : List Int) (v1 : Int) (v2 : Int) (v3 : Int) : Option ((Int) ⊕ ((Unit) ⊕ (List Int))) :=
 cond (decide (v3 < (4 : Int)))
 ((idx ([([v2, v1] : List Int), ([v2, (IntKind.i64.wrap (0 - v1))] : List Int), ([v1, v2] : List Int), ([(IntKind.i64.wrap (0 - v1)), v2] : List Int)] : List (List Int)) v3).bind fun v4 => (s_l7Cross x0 v4).bind fun v5 => cond (v5 == (1 : Int))
 ((idx ([([v2, v1] : List Int), ([v2, (IntKind.i64.wrap (0 - v1))] : List Int), ([v1, v2] : List Int), ([(IntKind.i64.wrap (0 - v1)), v2] : List Int)] : List (List Int)) v3).bind fun v6 => some (.inr (.inr v6)))
 (some (.inl (IntKind.i64.wrap (v3 + (1 : Int))))))
 (some (.inr (.inl ())))
noncomputable def s_l9Bezout_s4 (x0 : List Int) (v1 : Int) (v2 : Int) : Option ((Int) ⊕ ((Unit) ⊕ (List Int))) :=
 cond (decide (v2 ≤ v1))
 ((iter (s_l9Bezout_s8 x0 v1 v2) (0 : Int)).bind fun v7 => match v7 with
 | .inl v8 => (some (.inl (IntKind.i64.wrap (v2 + (1 : Int)))))
 | .inr v9 => (some (.inr (.inr v9))))
 (some (.inr (.inl ())))
noncomputable def s_l9Bezout_s3 (x0 : List Int) (v1 : Int) : Option ((Int) ⊕ (List Int)) :=
(iter (s_l9Bezout_s4 x0 v1) (IntKind.i64.wrap (0 - v1))).bind fun v10 => match v10 with
 | .inl v11 => (some (.inl (IntKind.i64.wrap (v1 + (1 : Int)))))
 | .inr v12 => (some (.inr v12))
noncomputable def s_l9Bezout (x0 : List Int) : Option (List Int) :=
(iter (s_l9Bezout_s3 x0) (0 : Int)).bind fun v13 => some v13
noncomputable def e_s_l9Bezout : CallE := ⟨55, [.d false (.list (.int .i64))], [.l (.d false (.list (.int .i64)))], fun x => s_l9Bezout x⟩
noncomputable def c_s_l9Bezout : Ctx := ⟨Try.prog, TT, [e_s_l7Cross], [⟨3, [(3, .l (.d false (.int .i64)))], none, some [(2, .l (.d false (.list (.int .i64))))], false⟩, ⟨4, [(4, .l (.d false (.int .i64)))], some (2, []), some [(2, .l (.d false (.list (.int .i64))))], false⟩, ⟨8, [(6, .l (.d false (.int .i64)))], some (4, []), some [(2, .l (.d false (.list (.int .i64))))], false⟩], [], [], [], []⟩
theorem k_s_l9Bezout (x : PMs.den e_s_l9Bezout.ps) : funK c_s_l9Bezout Try.f55 e_s_l9Bezout.ps e_s_l9Bezout.rs x = e_s_l9Bezout.F x := by kernel_rfl
theorem o_s_l9Bezout : FnOk Try.prog e_s_l9Bezout.f ∧ Ctr Try.prog e_s_l9Bezout := mkCtr (C := c_s_l9Bezout) m_ (⟨o_s_l7Cross, trivial⟩) Try.func55 (by kernel_rfl) k_s_l9Bezout
/-! loop.example/g00959/spec.l3Floor -/
noncomputable def s_l3Floor (x0 : Int) (x1 : Int) : Option (Int) :=
(quoI .i64 x0 x1).bind fun v1 => (remI .i64 x0 x1).bind fun v2 => cond (decide (v2 < (0 : Int)))
 (some (IntKind.i64.wrap (v1 - (1 : Int))))
 (some v1)
noncomputable def e_s_l3Floor : CallE := ⟨58, [.d false (.int .i64), .d false (.int .i64)], [.l (.d false (.int .i64))], fun x => s_l3Floor x.1 x.2⟩
noncomputable def c_s_l3Floor : Ctx := ⟨Try.prog, TT, [], [], [], [], [], []⟩
theorem k_s_l3Floor (x : PMs.den e_s_l3Floor.ps) : funK c_s_l3Floor Try.f58 e_s_l3Floor.ps e_s_l3Floor.rs x = e_s_l3Floor.F x := by kernel_rfl
theorem o_s_l3Floor : FnOk Try.prog e_s_l3Floor.f ∧ Ctr Try.prog e_s_l3Floor := mkCtr (C := c_s_l3Floor) m_ (trivial) Try.func58 (by kernel_rfl) k_s_l3Floor
/-! loop.example/g00959/spec.l2Scale -/
noncomputable def s_l2Scale_s3 (x0 : List Int) (x1 : Int) (v1 : List Int × Int) : Option ((List Int × Int) ⊕ (List Int)) :=
 cond (decide (v1.2 < (x0.length : Int)))
 ((idx x0 v1.2).bind fun v2 => (appD 8 v1.1 ([(IntKind.i64.wrap (v2 * x1))] : List Int)).bind fun v3 => some (.inl (v3, (IntKind.i64.wrap (v1.2 + (1 : Int))))))
 (some (.inr v1.1))
noncomputable def s_l2Scale (x0 : List Int) (x1 : Int) : Option (List Int) :=
(iter (s_l2Scale_s3 x0 x1) (([] : List Int), (0 : Int))).bind fun v4 => some v4
noncomputable def e_s_l2Scale : CallE := ⟨57, [.d false (.list (.int .i64)), .d false (.int .i64)], [.l (.o true 3 (.int .i64))], fun x => s_l2Scale x.1 x.2⟩
noncomputable def c_s_l2Scale : Ctx := ⟨Try.prog, TT, [], [⟨3, [(5, .l (.o true 3 (.int .i64))), (6, .l (.d false (.int .i64)))], some (0, [(5, .l (.o true 3 (.int .i64)))]), none, false⟩], [], [], [], []⟩
theorem k_s_l2Scale (x : PMs.den e_s_l2Scale.ps) : funK c_s_l2Scale Try.f57 e_s_l2Scale.ps e_s_l2Scale.rs x = e_s_l2Scale.F x := by kernel_rfl
theorem o_s_l2Scale : FnOk Try.prog e_s_l2Scale.f ∧ Ctr Try.prog e_s_l2Scale := mkCtr (C := c_s_l2Scale) m_ (trivial) Try.func57 (by kernel_rfl) k_s_l2Scale
/-! loop.example/g00959/spec.l2Less -/
noncomputable def s_l2Less_s3 (x0 : List Int) (x1 : List Int) (v1 : List Int × Int) : Option ((List Int × Int) ⊕ (List Int)) :=
 cond (decide (v1.2 < (x0.length : Int)))
 ((idx x0 v1.2).bind fun v2 => (idx x1 v1.2).bind fun v3 => (appD 8 v1.1 ([(IntKind.i64.wrap (v2 - v3))] : List Int)).bind fun v4 => some (.inl (v4, (IntKind.i64.wrap (v1.2 + (1 : Int))))))
 (some (.inr v1.1))
noncomputable def s_l2Less (x0 : List Int) (x1 : List Int) : Option (List Int) :=
(iter (s_l2Less_s3 x0 x1) (([] : List Int), (0 : Int))).bind fun v5 => some v5
noncomputable def e_s_l2Less : CallE := ⟨56, [.d false (.list (.int .i64)), .d false (.list (.int .i64))], [.l (.o true 3 (.int .i64))], fun x => s_l2Less x.1 x.2⟩
noncomputable def c_s_l2Less : Ctx := ⟨Try.prog, TT, [], [⟨3, [(5, .l (.o true 3 (.int .i64))), (6, .l (.d false (.int .i64)))], some (0, [(5, .l (.o true 3 (.int .i64)))]), none, false⟩], [], [], [], []⟩
theorem k_s_l2Less (x : PMs.den e_s_l2Less.ps) : funK c_s_l2Less Try.f56 e_s_l2Less.ps e_s_l2Less.rs x = e_s_l2Less.F x := by kernel_rfl
theorem o_s_l2Less : FnOk Try.prog e_s_l2Less.f ∧ Ctr Try.prog e_s_l2Less := mkCtr (C := c_s_l2Less) m_ (trivial) Try.func56 (by kernel_rfl) k_s_l2Less
/-! loop.example/g00959/spec.l9Next -/
noncomputable def s_l9Next (x0 : List Int) (x1 : List Int) : Option (List Int) :=
(s_l7Cross x0 x1).bind fun v1 => (s_l9Bezout x0).bind fun v2 => (s_l7Cross v2 x1).bind fun v3 => (s_l3Floor v3 v1).bind fun v4 => (s_l2Scale x0 v4).bind fun v5 => (s_l2Less v2 v5).bind fun v6 => some v6
noncomputable def e_s_l9Next : CallE := ⟨34, [.d false (.list (.int .i64)), .d false (.list (.int .i64))], [.l (.o true 3 (.int .i64))], fun x => s_l9Next x.1 x.2⟩
noncomputable def c_s_l9Next : Ctx := ⟨Try.prog, TT, [e_s_l7Cross, e_s_l9Bezout, e_s_l3Floor, e_s_l2Scale, e_s_l2Less], [], [], [], [], []⟩
theorem k_s_l9Next (x : PMs.den e_s_l9Next.ps) : funK c_s_l9Next Try.f34 e_s_l9Next.ps e_s_l9Next.rs x = e_s_l9Next.F x := by kernel_rfl
theorem o_s_l9Next : FnOk Try.prog e_s_l9Next.f ∧ Ctr Try.prog e_s_l9Next := mkCtr (C := c_s_l9Next) m_ (⟨o_s_l7Cross, o_s_l9Bezout, o_s_l3Floor, o_s_l2Scale, o_s_l2Less, trivial⟩) Try.func34 (by kernel_rfl) k_s_l9Next
/-! loop.example/g00959/spec.SplitCone -/
noncomputable def s_SplitCone_s5 (x0 : (List Int) × (List Int)) (v3 : List (List Int) × List Int) : Option ((List (List Int) × List Int) ⊕ (List (List Int) × List Int)) :=
(s_l7Cross v3.2 x0.2).bind fun v4 => cond (decide (v4 > (0 : Int)))
 ((appD 24 v3.1 ([v3.2] : List (List Int))).bind fun v5 => (s_l9Next v3.2 x0.2).bind fun v6 => some (.inl (v5, v6)))
 (some (.inr (v3.1, v3.2)))
noncomputable def s_SplitCone (x0 : (List Int) × (List Int)) : Option (List (List Int)) :=
(s_IsCone (x0.1, x0.2)).bind fun v1 => cond (!v1)
 (some ([] : List (List Int)))
 ((appD 8 ([] : List Int) x0.1).bind fun v2 => (iter (s_SplitCone_s5 x0) (([] : List (List Int)), v2)).bind fun v7 => (appD 24 v7.1 ([v7.2] : List (List Int))).bind fun v8 => some v8)
noncomputable def e_s_SplitCone : CallE := ⟨19, [.d false (.prod (.list (.int .i64)) (.list (.int .i64)))], [.l (.o false 22 (.list (.int .i64)))], fun x => s_SplitCone x⟩
noncomputable def c_s_SplitCone : Ctx := ⟨Try.prog, TT, [e_s_IsCone, e_s_l7Cross, e_s_l9Next], [⟨5, [(3, .l (.o false 22 (.list (.int .i64)))), (4, .l (.d false (.list (.int .i64))))], some (0, [(3, .l (.o false 22 (.list (.int .i64)))), (4, .l (.d false (.list (.int .i64))))]), none, false⟩], [], [], [], []⟩
theorem k_s_SplitCone (x : PMs.den e_s_SplitCone.ps) : funK c_s_SplitCone Try.f19 e_s_SplitCone.ps e_s_SplitCone.rs x = e_s_SplitCone.F x := by kernel_rfl
theorem o_s_SplitCone : FnOk Try.prog e_s_SplitCone.f ∧ Ctr Try.prog e_s_SplitCone := mkCtr (C := c_s_SplitCone) m_ (⟨o_s_IsCone, o_s_l7Cross, o_s_l9Next, trivial⟩) Try.func19 (by kernel_rfl) k_s_SplitCone
/-! loop.example/g00959/spec.l2Add -/
noncomputable def s_l2Add_s3 (x0 : List Int) (x1 : List Int) (v1 : List Int × Int) : Option ((List Int × Int) ⊕ (List Int)) :=
 cond (decide (v1.2 < (x0.length : Int)))
 ((idx x0 v1.2).bind fun v2 => (idx x1 v1.2).bind fun v3 => (appD 8 v1.1 ([(IntKind.i64.wrap (v2 + v3))] : List Int)).bind fun v4 => some (.inl (v4, (IntKind.i64.wrap (v1.2 + (1 : Int))))))
 (some (.inr v1.1))
noncomputable def s_l2Add (x0 : List Int) (x1 : List Int) : Option (List Int) :=
(iter (s_l2Add_s3 x0 x1) (([] : List Int), (0 : Int))).bind fun v5 => some v5
noncomputable def e_s_l2Add : CallE := ⟨35, [.d false (.list (.int .i64)), .d false (.list (.int .i64))], [.l (.o true 3 (.int .i64))], fun x => s_l2Add x.1 x.2⟩
noncomputable def c_s_l2Add : Ctx := ⟨Try.prog, TT, [], [⟨3, [(5, .l (.o true 3 (.int .i64))), (6, .l (.d false (.int .i64)))], some (0, [(5, .l (.o true 3 (.int .i64)))]), none, false⟩], [], [], [], []⟩
theorem k_s_l2Add (x : PMs.den e_s_l2Add.ps) : funK c_s_l2Add Try.f35 e_s_l2Add.ps e_s_l2Add.rs x = e_s_l2Add.F x := by kernel_rfl
theorem o_s_l2Add : FnOk Try.prog e_s_l2Add.f ∧ Ctr Try.prog e_s_l2Add := mkCtr (C := c_s_l2Add) m_ (trivial) Try.func35 (by kernel_rfl) k_s_l2Add
/-! loop.example/g00959/spec.l1Bit -/
noncomputable def s_l1Bit (x0 : Bool) : Option (Int) :=
 cond x0
 (some (1 : Int))
 (some (0 : Int))
noncomputable def e_s_l1Bit : CallE := ⟨36, [.d false .bool], [.l (.d false (.int .i64))], fun x => s_l1Bit x⟩
noncomputable def c_s_l1Bit : Ctx := ⟨Try.prog, TT, [], [], [], [], [], []⟩
theorem k_s_l1Bit (x : PMs.den e_s_l1Bit.ps) : funK c_s_l1Bit Try.f36 e_s_l1Bit.ps e_s_l1Bit.rs x = e_s_l1Bit.F x := by kernel_rfl
theorem o_s_l1Bit : FnOk Try.prog e_s_l1Bit.f ∧ Ctr Try.prog e_s_l1Bit := mkCtr (C := c_s_l1Bit) m_ (trivial) Try.func36 (by kernel_rfl) k_s_l1Bit
/-! loop.example/g00959/spec.TurnsOf -/
noncomputable def s_TurnsOf_s4 (v1 : List (List Int)) (v2 : List Int × Int) : Option ((List Int × Int) ⊕ (List Int)) :=
 cond (decide ((IntKind.i64.wrap (v2.2 + (1 : Int))) < (v1.length : Int)))
 ((idx v1 (IntKind.i64.wrap (v2.2 - (1 : Int)))).bind fun v3 => (idx v1 (IntKind.i64.wrap (v2.2 + (1 : Int)))).bind fun v4 => (s_l2Add v3 v4).bind fun v5 => (idx v1 v2.2).bind fun v6 => (idx v6 (0 : Int)).bind fun v7 => (s_l1Bit (v7 == (0 : Int))).bind fun v8 => (inIdx v5.length v8).bind fun _ => (idx v5 ((v8).toNat : Int)).bind fun v9 => (idx v1 v2.2).bind fun v10 => (idx v10 v8).bind fun v11 => (quoI .i64 v9 v11).bind fun v12 => (appD 8 v2.1 ([v12] : List Int)).bind fun v13 => some (.inl (v13, (IntKind.i64.wrap (v2.2 + (1 : Int))))))
 (some (.inr v2.1))
noncomputable def s_TurnsOf (x0 : (List Int) × (List Int)) : Option (List Int) :=
(s_SplitCone (x0.1, x0.2)).bind fun v1 => (iter (s_TurnsOf_s4 v1) (([] : List Int), (1 : Int))).bind fun v14 => some v14
noncomputable def e_s_TurnsOf : CallE := ⟨20, [.d false (.prod (.list (.int .i64)) (.list (.int .i64)))], [.l (.o true 3 (.int .i64))], fun x => s_TurnsOf x⟩
noncomputable def c_s_TurnsOf : Ctx := ⟨Try.prog, TT, [e_s_SplitCone, e_s_l2Add, e_s_l1Bit], [⟨4, [(3, .l (.o true 3 (.int .i64))), (5, .l (.d false (.int .i64)))], some (0, [(3, .l (.o true 3 (.int .i64)))]), none, false⟩], [], [], [], []⟩
theorem k_s_TurnsOf (x : PMs.den e_s_TurnsOf.ps) : funK c_s_TurnsOf Try.f20 e_s_TurnsOf.ps e_s_TurnsOf.rs x = e_s_TurnsOf.F x := by kernel_rfl
theorem o_s_TurnsOf : FnOk Try.prog e_s_TurnsOf.f ∧ Ctr Try.prog e_s_TurnsOf := mkCtr (C := c_s_TurnsOf) m_ (⟨o_s_SplitCone, o_s_l2Add, o_s_l1Bit, trivial⟩) Try.func20 (by kernel_rfl) k_s_TurnsOf
/-! loop.example/g00959/spec.SailCorners -/
noncomputable def s_SailCorners_s5 (v1 : List (List Int)) (v2 : List Int) (v3 : List (List Int) × Int) : Option ((List (List Int) × Int) ⊕ (List (List Int))) :=
 cond (decide (v3.2 < (v1.length : Int)))
 (cond (v3.2 == (0 : Int))
 ((idx v1 v3.2).bind fun v4 => (appD 8 ([] : List Int) v4).bind fun v5 => (appD 24 v3.1 ([v5] : List (List Int))).bind fun v6 => some (.inl (v6, (IntKind.i64.wrap (v3.2 + (1 : Int))))))
 (cond (v3.2 == (IntKind.i64.wrap ((v1.length : Int) - (1 : Int))))
 ((idx v1 v3.2).bind fun v7 => (appD 8 ([] : List Int) v7).bind fun v8 => (appD 24 v3.1 ([v8] : List (List Int))).bind fun v9 => some (.inl (v9, (IntKind.i64.wrap (v3.2 + (1 : Int))))))
 ((idx v2 (IntKind.i64.wrap (v3.2 - (1 : Int)))).bind fun v10 => cond (decide (v10 > (2 : Int)))
 ((idx v1 v3.2).bind fun v11 => (appD 8 ([] : List Int) v11).bind fun v12 => (appD 24 v3.1 ([v12] : List (List Int))).bind fun v13 => some (.inl (v13, (IntKind.i64.wrap (v3.2 + (1 : Int))))))
 (some (.inl (v3.1, (IntKind.i64.wrap (v3.2 + (1 : Int)))))))))
 (some (.inr v3.1))
noncomputable def s_SailCorners (x0 : (List Int) × (List Int)) : Option (List (List Int)) :=
(s_SplitCone (x0.1, x0.2)).bind fun v1 => (s_TurnsOf (x0.1, x0.2)).bind fun v2 => (iter (s_SailCorners_s5 v1 v2) (([] : List (List Int)), (0 : Int))).bind fun v14 => some v14
noncomputable def e_s_SailCorners : CallE := ⟨6, [.d false (.prod (.list (.int .i64)) (.list (.int .i64)))], [.l (.o true 22 (.list (.int .i64)))], fun x => s_SailCorners x⟩
noncomputable def c_s_SailCorners : Ctx := ⟨Try.prog, TT, [e_s_SplitCone, e_s_TurnsOf], [⟨5, [(3, .l (.o true 22 (.list (.int .i64)))), (6, .l (.d false (.int .i64)))], some (0, [(3, .l (.o true 22 (.list (.int .i64))))]), none, false⟩], [], [], [], []⟩
theorem k_s_SailCorners (x : PMs.den e_s_SailCorners.ps) : funK c_s_SailCorners Try.f6 e_s_SailCorners.ps e_s_SailCorners.rs x = e_s_SailCorners.F x := by kernel_rfl
theorem o_s_SailCorners : FnOk Try.prog e_s_SailCorners.f ∧ Ctr Try.prog e_s_SailCorners := mkCtr (C := c_s_SailCorners) m_ (⟨o_s_SplitCone, o_s_TurnsOf, trivial⟩) Try.func6 (by kernel_rfl) k_s_SailCorners
/-! loop.example/g00959/impl.within -/
noncomputable def i_within (x0 : Int) (x1 : Int) (x2 : Int) : Option (Bool) :=
 cond (decide (x0 ≥ x1))
 (some (decide (x0 ≤ x2)))
 (some false)
noncomputable def e_i_within : CallE := ⟨69, [.d false (.int .i64), .d false (.int .i64), .d false (.int .i64)], [.l (.d false .bool)], fun x => i_within x.1 x.2.1 x.2.2⟩
noncomputable def c_i_within : Ctx := ⟨Try.prog, TT, [], [], [], [], [], []⟩
theorem k_i_within (x : PMs.den e_i_within.ps) : funK c_i_within Try.f69 e_i_within.ps e_i_within.rs x = e_i_within.F x := by kernel_rfl
theorem o_i_within : FnOk Try.prog e_i_within.f ∧ Ctr Try.prog e_i_within := mkCtr (C := c_i_within) m_ (trivial) Try.func69 (by kernel_rfl) k_i_within
/-! loop.example/g00959/impl.allWithin -/
noncomputable def i_allWithin_s2 (x0 : List Int) (x1 : Int) (x2 : Int) (v1 : Int) : Option ((Int) ⊕ ((Unit) ⊕ (Bool))) :=
 cond (decide (v1 < (x0.length : Int)))
 ((idx x0 v1).bind fun v2 => (i_within v2 x1 x2).bind fun v3 => cond (!v3)
 (some (.inr (.inr false)))
 (some (.inl (IntKind.i64.wrap (v1 + (1 : Int))))))
 (some (.inr (.inl ())))
noncomputable def i_allWithin (x0 : List Int) (x1 : Int) (x2 : Int) : Option (Bool) :=
(iter (i_allWithin_s2 x0 x1 x2) (0 : Int)).bind fun v4 => match v4 with
 | .inl v5 => (some true)
 | .inr v6 => (some v6)
noncomputable def e_i_allWithin : CallE := ⟨72, [.d false (.list (.int .i64)), .d false (.int .i64), .d false (.int .i64)], [.l (.d false .bool)], fun x => i_allWithin x.1 x.2.1 x.2.2⟩
noncomputable def c_i_allWithin : Ctx := ⟨Try.prog, TT, [e_i_within], [⟨2, [(11, .l (.d false (.int .i64)))], some (0, []), some [(6, .l (.d false .bool))], false⟩], [], [], [], []⟩
theorem k_i_allWithin (x : PMs.den e_i_allWithin.ps) : funK c_i_allWithin Try.f72 e_i_allWithin.ps e_i_allWithin.rs x = e_i_allWithin.F x := by kernel_rfl
theorem o_i_allWithin : FnOk Try.prog e_i_allWithin.f ∧ Ctr Try.prog e_i_allWithin := mkCtr (C := c_i_allWithin) m_ (⟨o_i_within, trivial⟩) Try.func72 (by kernel_rfl) k_i_allWithin
/-! loop.example/g00959/impl.isPoint -/
noncomputable def i_isPoint (x0 : List Int) (x1 : Int) : Option (Bool) :=
 cond ((x0.length : Int) == (2 : Int))
 ((i_allWithin x0 (IntKind.i64.wrap (0 - x1)) x1).bind fun v1 => some v1)
 (some false)
noncomputable def e_i_isPoint : CallE := ⟨59, [.d false (.list (.int .i64)), .d false (.int .i64)], [.l (.d false .bool)], fun x => i_isPoint x.1 x.2⟩
noncomputable def c_i_isPoint : Ctx := ⟨Try.prog, TT, [e_i_allWithin], [], [], [], [], []⟩
theorem k_i_isPoint (x : PMs.den e_i_isPoint.ps) : funK c_i_isPoint Try.f59 e_i_isPoint.ps e_i_isPoint.rs x = e_i_isPoint.F x := by kernel_rfl
theorem o_i_isPoint : FnOk Try.prog e_i_isPoint.f ∧ Ctr Try.prog e_i_isPoint := mkCtr (C := c_i_isPoint) m_ (⟨o_i_allWithin, trivial⟩) Try.func59 (by kernel_rfl) k_i_isPoint
/-! loop.example/g00959/impl.magnitude -/
noncomputable def i_magnitude (x0 : Int) : Option (Int) :=
 some (if (IntKind.i64.wrap (0 - x0)) > x0 then (IntKind.i64.wrap (0 - x0)) else x0)
noncomputable def e_i_magnitude : CallE := ⟨81, [.d false (.int .i64)], [.l (.d false (.int .i64))], fun x => i_magnitude x⟩
noncomputable def c_i_magnitude : Ctx := ⟨Try.prog, TT, [], [], [], [], [], []⟩
theorem k_i_magnitude (x : PMs.den e_i_magnitude.ps) : funK c_i_magnitude Try.f81 e_i_magnitude.ps e_i_magnitude.rs x = e_i_magnitude.F x := by kernel_rfl
theorem o_i_magnitude : FnOk Try.prog e_i_magnitude.f ∧ Ctr Try.prog e_i_magnitude := mkCtr (C := c_i_magnitude) m_ (trivial) Try.func81 (by kernel_rfl) k_i_magnitude
/-! loop.example/g00959/impl.divisor -/
noncomputable def i_divisor_s1 (v1 : Int × Int) : Option ((Int × Int) ⊕ (Int)) :=
 cond (v1.2 != (0 : Int))
 ((remI .i64 v1.1 v1.2).bind fun v2 => some (.inl (v1.2, v2)))
 (some (.inr v1.1))
noncomputable def i_divisor (x0 : Int) (x1 : Int) : Option (Int) :=
(iter (i_divisor_s1) (x0, x1)).bind fun v3 => (i_magnitude v3).bind fun v4 => some v4
noncomputable def e_i_divisor : CallE := ⟨75, [.d false (.int .i64), .d false (.int .i64)], [.l (.d false (.int .i64))], fun x => i_divisor x.1 x.2⟩
noncomputable def c_i_divisor : Ctx := ⟨Try.prog, TT, [e_i_magnitude], [⟨1, [(0, .l (.d false (.int .i64))), (1, .l (.d false (.int .i64)))], some (0, [(0, .l (.d false (.int .i64)))]), none, false⟩], [], [], [], []⟩
theorem k_i_divisor (x : PMs.den e_i_divisor.ps) : funK c_i_divisor Try.f75 e_i_divisor.ps e_i_divisor.rs x = e_i_divisor.F x := by kernel_rfl
theorem o_i_divisor : FnOk Try.prog e_i_divisor.f ∧ Ctr Try.prog e_i_divisor := mkCtr (C := c_i_divisor) m_ (⟨o_i_magnitude, trivial⟩) Try.func75 (by kernel_rfl) k_i_divisor
/-! loop.example/g00959/impl.gcdAll -/
noncomputable def i_gcdAll_s3 (x0 : List Int) (v1 : Int × Int) : Option ((Int × Int) ⊕ (Int)) :=
 cond (decide (v1.2 < (x0.length : Int)))
 ((idx x0 v1.2).bind fun v2 => (i_divisor v1.1 v2).bind fun v3 => some (.inl (v3, (IntKind.i64.wrap (v1.2 + (1 : Int))))))
 (some (.inr v1.1))
noncomputable def i_gcdAll (x0 : List Int) : Option (Int) :=
(iter (i_gcdAll_s3 x0) ((0 : Int), (0 : Int))).bind fun v4 => some v4
noncomputable def e_i_gcdAll : CallE := ⟨60, [.d false (.list (.int .i64))], [.l (.d false (.int .i64))], fun x => i_gcdAll x⟩
noncomputable def c_i_gcdAll : Ctx := ⟨Try.prog, TT, [e_i_divisor], [⟨3, [(3, .l (.d false (.int .i64))), (8, .l (.d false (.int .i64)))], some (0, [(3, .l (.d false (.int .i64)))]), none, false⟩], [], [], [], []⟩
theorem k_i_gcdAll (x : PMs.den e_i_gcdAll.ps) : funK c_i_gcdAll Try.f60 e_i_gcdAll.ps e_i_gcdAll.rs x = e_i_gcdAll.F x := by kernel_rfl
theorem o_i_gcdAll : FnOk Try.prog e_i_gcdAll.f ∧ Ctr Try.prog e_i_gcdAll := mkCtr (C := c_i_gcdAll) m_ (⟨o_i_divisor, trivial⟩) Try.func60 (by kernel_rfl) k_i_gcdAll
/-! loop.example/g00959/impl.cross -/
noncomputable def i_cross (x0 : List Int) (x1 : List Int) : Option (Int) :=
(idx x0 (0 : Int)).bind fun v1 => (idx x1 (1 : Int)).bind fun v2 => (idx x0 (1 : Int)).bind fun v3 => (idx x1 (0 : Int)).bind fun v4 => some (IntKind.i64.wrap ((IntKind.i64.wrap (v1 * v2)) - (IntKind.i64.wrap (v3 * v4))))
noncomputable def e_i_cross : CallE := ⟨39, [.d false (.list (.int .i64)), .d false (.list (.int .i64))], [.l (.d false (.int .i64))], fun x => i_cross x.1 x.2⟩
noncomputable def c_i_cross : Ctx := ⟨Try.prog, TT, [], [], [], [], [], []⟩
theorem k_i_cross (x : PMs.den e_i_cross.ps) : funK c_i_cross Try.f39 e_i_cross.ps e_i_cross.rs x = e_i_cross.F x := by kernel_rfl
theorem o_i_cross : FnOk Try.prog e_i_cross.f ∧ Ctr Try.prog e_i_cross := mkCtr (C := c_i_cross) m_ (trivial) Try.func39 (by kernel_rfl) k_i_cross
/-! loop.example/g00959/impl.IsCone -/
noncomputable def i_IsCone (x0 : (List Int) × (List Int)) : Option (Bool) :=
(i_isPoint x0.1 (30 : Int)).bind fun v1 => cond v1
 ((i_isPoint x0.2 (30 : Int)).bind fun v2 => cond v2
 ((i_gcdAll x0.1).bind fun v3 => cond (v3 == (1 : Int))
 ((i_gcdAll x0.2).bind fun v4 => cond (v4 == (1 : Int))
 ((i_cross x0.1 x0.2).bind fun v5 => some (decide (v5 > (0 : Int))))
 (some false))
 (some false))
 (some false))
 (some false)
noncomputable def e_i_IsCone : CallE := ⟨37, [.d false (.prod (.list (.int .i64)) (.list (.int .i64)))], [.l (.d false .bool)], fun x => i_IsCone x⟩
noncomputable def c_i_IsCone : Ctx := ⟨Try.prog, TT, [e_i_isPoint, e_i_gcdAll, e_i_cross], [], [], [], [], []⟩
theorem k_i_IsCone (x : PMs.den e_i_IsCone.ps) : funK c_i_IsCone Try.f37 e_i_IsCone.ps e_i_IsCone.rs x = e_i_IsCone.F x := by kernel_rfl
theorem o_i_IsCone : FnOk Try.prog e_i_IsCone.f ∧ Ctr Try.prog e_i_IsCone := mkCtr (C := c_i_IsCone) m_ (⟨o_i_isPoint, o_i_gcdAll, o_i_cross, trivial⟩) Try.func37 (by kernel_rfl) k_i_IsCone
/-! loop.example/g00959/impl.copyInts -/
noncomputable def i_copyInts (x0 : List Int) : Option (List Int) :=
(appD 8 ([] : List Int) x0).bind fun v1 => some v1
noncomputable def e_i_copyInts : CallE := ⟨38, [.d false (.list (.int .i64))], [.l (.o true 3 (.int .i64))], fun x => i_copyInts x⟩
noncomputable def c_i_copyInts : Ctx := ⟨Try.prog, TT, [], [], [], [], [], []⟩
theorem k_i_copyInts (x : PMs.den e_i_copyInts.ps) : funK c_i_copyInts Try.f38 e_i_copyInts.ps e_i_copyInts.rs x = e_i_copyInts.F x := by kernel_rfl
theorem o_i_copyInts : FnOk Try.prog e_i_copyInts.f ∧ Ctr Try.prog e_i_copyInts := mkCtr (C := c_i_copyInts) m_ (trivial) Try.func38 (by kernel_rfl) k_i_copyInts
/-! loop.example/g00959/impl.partner -/
noncomputable def i_partner_s3 (v3 : List Int × List Int × Int × Int) : Option ((List Int × List Int × Int × Int) ⊕ (List Int × Int)) :=
 cond (v3.2.2.2 != (0 : Int))
 ((quoI .i64 v3.2.2.1 v3.2.2.2).bind fun v4 => (inIdx v3.1.length (0 : Int)).bind fun _ => (idx v3.1 (((0 : Int)).toNat : Int)).bind fun v5 => (inIdx v3.2.1.length (0 : Int)).bind fun _ => (idx v3.2.1 (((0 : Int)).toNat : Int)).bind fun v6 => (inIdx v3.1.length (1 : Int)).bind fun _ => (idx v3.1 (((1 : Int)).toNat : Int)).bind fun v7 => (inIdx v3.2.1.length (1 : Int)).bind fun _ => (idx v3.2.1 (((1 : Int)).toNat : Int)).bind fun v8 => some (.inl (v3.2.1, (([(IntKind.i64.wrap (v5 - (IntKind.i64.wrap (v4 * v6)))), (IntKind.i64.wrap (v7 - (IntKind.i64.wrap (v4 * v8))))] : List Int), (v3.2.2.2, (IntKind.i64.wrap (v3.2.2.1 - (IntKind.i64.wrap (v4 * v3.2.2.2)))))))))
 (some (.inr (v3.1, v3.2.2.1)))
noncomputable def i_partner (x0 : List Int) : Option (List Int) :=
(idx x0 (0 : Int)).bind fun v1 => (idx x0 (1 : Int)).bind fun v2 => (iter (i_partner_s3) (([(1 : Int), (0 : Int)] : List Int), (([(0 : Int), (1 : Int)] : List Int), (v1, v2)))).bind fun v9 => (inIdx v9.1.length (1 : Int)).bind fun _ => (idx v9.1 (((1 : Int)).toNat : Int)).bind fun v10 => (inIdx v9.1.length (0 : Int)).bind fun _ => (idx v9.1 (((0 : Int)).toNat : Int)).bind fun v11 => some ([(IntKind.i64.wrap ((IntKind.i64.wrap (0 - v10)) * v9.2)), (IntKind.i64.wrap (v11 * v9.2))] : List Int)
noncomputable def e_i_partner : CallE := ⟨40, [.d false (.list (.int .i64))], [.l (.o true 3 (.int .i64))], fun x => i_partner x⟩
noncomputable def c_i_partner : Ctx := ⟨Try.prog, TT, [], [⟨3, [(3, .l (.o true 3 (.int .i64))), (4, .l (.o true 3 (.int .i64))), (5, .l (.d false (.int .i64))), (6, .l (.d false (.int .i64)))], some (0, [(3, .l (.o true 3 (.int .i64))), (5, .l (.d false (.int .i64)))]), none, false⟩], [], [], [], []⟩
theorem k_i_partner (x : PMs.den e_i_partner.ps) : funK c_i_partner Try.f40 e_i_partner.ps e_i_partner.rs x = e_i_partner.F x := by kernel_rfl
theorem o_i_partner : FnOk Try.prog e_i_partner.f ∧ Ctr Try.prog e_i_partner := mkCtr (C := c_i_partner) m_ (trivial) Try.func40 (by kernel_rfl) k_i_partner
/-! loop.example/g00959/impl.down -/
noncomputable def i_down (x0 : Int) (x1 : Int) : Option (Int) :=
(quoI .i64 x0 x1).bind fun v1 => (remI .i64 x0 x1).bind fun v2 => cond (decide (v2 < (0 : Int)))
 (some (IntKind.i64.wrap (v1 - (1 : Int))))
 (some v1)
noncomputable def e_i_down : CallE := ⟨42, [.d false (.int .i64), .d false (.int .i64)], [.l (.d false (.int .i64))], fun x => i_down x.1 x.2⟩
noncomputable def c_i_down : Ctx := ⟨Try.prog, TT, [], [], [], [], [], []⟩
theorem k_i_down (x : PMs.den e_i_down.ps) : funK c_i_down Try.f42 e_i_down.ps e_i_down.rs x = e_i_down.F x := by kernel_rfl
theorem o_i_down : FnOk Try.prog e_i_down.f ∧ Ctr Try.prog e_i_down := mkCtr (C := c_i_down) m_ (trivial) Try.func42 (by kernel_rfl) k_i_down
/-! loop.example/g00959/impl.less -/
noncomputable def i_less_s1 (x0 : List Int) (x1 : Int) (x2 : List Int) (v1 : List Int × Int) : Option ((List Int × Int) ⊕ (List Int)) :=
 cond (decide (v1.2 < (x0.length : Int)))
 ((inIdx v1.1.length v1.2).bind fun _ => (idx v1.1 ((v1.2).toNat : Int)).bind fun v2 => (idx x2 v1.2).bind fun v3 => (inIdx v1.1.length v1.2).bind fun _ => (inIdx v1.1.length ((v1.2).toNat : Int)).bind fun _ => some (.inl ((v1.1.set ((v1.2).toNat) (IntKind.i64.wrap (v2 - (IntKind.i64.wrap (x1 * v3))))), (IntKind.i64.wrap (v1.2 + (1 : Int))))))
 (some (.inr v1.1))
noncomputable def i_less (x0 : List Int) (x1 : Int) (x2 : List Int) : Option ((Unit) × (List Int) × Unit) :=
(iter (i_less_s1 x0 x1 x2) (x0, (0 : Int))).bind fun v4 => some ((), (v4, ()))
noncomputable def e_i_less : CallE := ⟨41, [.io true 3 (.int .i64), .d false (.int .i64), .d false (.list (.int .i64))], [], fun x => i_less x.1 x.2.1 x.2.2⟩
noncomputable def c_i_less : Ctx := ⟨Try.prog, TT, [], [⟨1, [(0, .l (.o true 3 (.int .i64))), (9, .l (.d false (.int .i64)))], some (0, [(0, .l (.o true 3 (.int .i64)))]), none, false⟩], [], [], [], []⟩
theorem k_i_less (x : PMs.den e_i_less.ps) : funK c_i_less Try.f41 e_i_less.ps e_i_less.rs x = e_i_less.F x := by kernel_rfl
theorem o_i_less : FnOk Try.prog e_i_less.f ∧ Ctr Try.prog e_i_less := mkCtr (C := c_i_less) m_ (trivial) Try.func41 (by kernel_rfl) k_i_less
/-! loop.example/g00959/impl.SplitCone -/
noncomputable def i_SplitCone_s4 (x0 : (List Int) × (List Int)) (v3 : List (List Int)) : Option ((List (List Int)) ⊕ (List (List Int))) :=
(inIdx v3.length (IntKind.i64.wrap ((v3.length : Int) - (1 : Int)))).bind fun _ => (idx v3 (((IntKind.i64.wrap ((v3.length : Int) - (1 : Int)))).toNat : Int)).bind fun v4 => (i_cross v4 x0.2).bind fun v5 => cond (v5 == (0 : Int))
 (some (.inr v3))
 ((i_partner v4).bind fun v6 => (i_cross v6 x0.2).bind fun v7 => (i_down v7 v5).bind fun v8 => (i_less v6 v8 v4).bind fun v9 => (appD 24 v3 ([v9.2.1] : List (List Int))).bind fun v10 => some (.inl v10))
noncomputable def i_SplitCone (x0 : (List Int) × (List Int)) : Option (List (List Int)) :=
(i_IsCone (x0.1, x0.2)).bind fun v1 => cond (!v1)
 (some ([] : List (List Int)))
 ((i_copyInts x0.1).bind fun v2 => (iter (i_SplitCone_s4 x0) ([v2] : List (List Int))).bind fun v11 => some v11)
noncomputable def e_i_SplitCone : CallE := ⟨22, [.d false (.prod (.list (.int .i64)) (.list (.int .i64)))], [.l (.o true 22 (.list (.int .i64)))], fun x => i_SplitCone x⟩
noncomputable def c_i_SplitCone : Ctx := ⟨Try.prog, TT, [e_i_IsCone, e_i_copyInts, e_i_cross, e_i_partner, e_i_down, e_i_less], [⟨4, [(3, .l (.o true 22 (.list (.int .i64))))], none, some [(2, .l (.o true 22 (.list (.int .i64))))], false⟩], [], [], [], []⟩
theorem k_i_SplitCone (x : PMs.den e_i_SplitCone.ps) : funK c_i_SplitCone Try.f22 e_i_SplitCone.ps e_i_SplitCone.rs x = e_i_SplitCone.F x := by kernel_rfl
theorem o_i_SplitCone : FnOk Try.prog e_i_SplitCone.f ∧ Ctr Try.prog e_i_SplitCone := mkCtr (C := c_i_SplitCone) m_ (⟨o_i_IsCone, o_i_copyInts, o_i_cross, o_i_partner, o_i_down, o_i_less, trivial⟩) Try.func22 (by kernel_rfl) k_i_SplitCone
/-! loop.example/g00959/impl.TurnsOf -/
noncomputable def i_TurnsOf_s4 (v1 : List (List Int)) (v2 : List Int × Int) : Option ((List Int × Int) ⊕ (List Int)) :=
 cond (decide ((IntKind.i64.wrap (v2.2 + (1 : Int))) < (v1.length : Int)))
 ((idx v1 (IntKind.i64.wrap (v2.2 - (1 : Int)))).bind fun v3 => (idx v1 (IntKind.i64.wrap (v2.2 + (1 : Int)))).bind fun v4 => (i_cross v3 v4).bind fun v5 => (appD 8 v2.1 ([v5] : List Int)).bind fun v6 => some (.inl (v6, (IntKind.i64.wrap (v2.2 + (1 : Int))))))
 (some (.inr v2.1))
noncomputable def i_TurnsOf (x0 : (List Int) × (List Int)) : Option (List Int) :=
(i_SplitCone (x0.1, x0.2)).bind fun v1 => (iter (i_TurnsOf_s4 v1) (([] : List Int), (1 : Int))).bind fun v7 => some v7
noncomputable def e_i_TurnsOf : CallE := ⟨43, [.d false (.prod (.list (.int .i64)) (.list (.int .i64)))], [.l (.o true 3 (.int .i64))], fun x => i_TurnsOf x⟩
noncomputable def c_i_TurnsOf : Ctx := ⟨Try.prog, TT, [e_i_SplitCone, e_i_cross], [⟨4, [(4, .l (.o true 3 (.int .i64))), (5, .l (.d false (.int .i64)))], some (0, [(4, .l (.o true 3 (.int .i64)))]), none, false⟩], [], [], [], []⟩
theorem k_i_TurnsOf (x : PMs.den e_i_TurnsOf.ps) : funK c_i_TurnsOf Try.f43 e_i_TurnsOf.ps e_i_TurnsOf.rs x = e_i_TurnsOf.F x := by kernel_rfl
theorem o_i_TurnsOf : FnOk Try.prog e_i_TurnsOf.f ∧ Ctr Try.prog e_i_TurnsOf := mkCtr (C := c_i_TurnsOf) m_ (⟨o_i_SplitCone, o_i_cross, trivial⟩) Try.func43 (by kernel_rfl) k_i_TurnsOf
/-! loop.example/g00959/impl.corners -/
noncomputable def i_corners_s6 (v2 : List Int) (v3 : List Int × Int) : Option ((List Int × Int) ⊕ (List Int)) :=
 cond (decide (v3.2 < (v2.length : Int)))
 ((idx v2 v3.2).bind fun v4 => cond (decide (v4 > (2 : Int)))
 ((appD 8 v3.1 ([(IntKind.i64.wrap (v3.2 + (1 : Int)))] : List Int)).bind fun v5 => some (.inl (v5, (IntKind.i64.wrap (v3.2 + (1 : Int))))))
 (some (.inl (v3.1, (IntKind.i64.wrap (v3.2 + (1 : Int)))))))
 (some (.inr v3.1))
noncomputable def i_corners (x0 : (List Int) × (List Int)) : Option (List Int) :=
(i_IsCone (x0.1, x0.2)).bind fun v1 => cond (!v1)
 (some ([] : List Int))
 ((i_TurnsOf (x0.1, x0.2)).bind fun v2 => (iter (i_corners_s6 v2) (([(0 : Int)] : List Int), (0 : Int))).bind fun v6 => (appD 8 v6 ([(IntKind.i64.wrap ((v2.length : Int) + (1 : Int)))] : List Int)).bind fun v7 => some v7)
noncomputable def e_i_corners : CallE := ⟨23, [.d false (.prod (.list (.int .i64)) (.list (.int .i64)))], [.l (.o true 3 (.int .i64))], fun x => i_corners x⟩
noncomputable def c_i_corners : Ctx := ⟨Try.prog, TT, [e_i_IsCone, e_i_TurnsOf], [⟨6, [(4, .l (.o true 3 (.int .i64))), (15, .l (.d false (.int .i64)))], some (0, [(4, .l (.o true 3 (.int .i64)))]), none, false⟩], [], [], [], []⟩
theorem k_i_corners (x : PMs.den e_i_corners.ps) : funK c_i_corners Try.f23 e_i_corners.ps e_i_corners.rs x = e_i_corners.F x := by kernel_rfl
theorem o_i_corners : FnOk Try.prog e_i_corners.f ∧ Ctr Try.prog e_i_corners := mkCtr (C := c_i_corners) m_ (⟨o_i_IsCone, o_i_TurnsOf, trivial⟩) Try.func23 (by kernel_rfl) k_i_corners
/-! loop.example/g00959/impl.SailCorners -/
noncomputable def i_SailCorners_s4 (v1 : List (List Int)) (v2 : List Int) (s : Int × List Nat) : Option ((Int × List Nat) ⊕ List Nat) :=
 cond (decide (s.1 < (v2.length : Int))) ((idx v2 s.1).bind fun v4 => (inIdx v1.length v4).bind fun _ => if v4.toNat < v1.length then (appD 24 s.2 [v4.toNat]).bind fun v6 => some (.inl (IntKind.i64.wrap (s.1 + 1), v6)) else none) (some (.inr s.2))
noncomputable def i_SailCorners (x0 : (List Int) × (List Int)) : Option (List (List Int)) :=
(i_SplitCone (x0.1, x0.2)).bind fun v1 => (i_corners (x0.1, x0.2)).bind fun v2 => (iter (i_SailCorners_s4 v1 v2) (0, [])).bind fun v7 => if v7.Nodup then some (pickU v1 v7) else none
noncomputable def e_i_SailCorners : CallE := ⟨8, [.d false (.prod (.list (.int .i64)) (.list (.int .i64)))], [.l (.o true 22 (.list (.int .i64)))], fun x => i_SailCorners x⟩
noncomputable def c_i_SailCorners : Ctx := ⟨Try.prog, TT, [e_i_SplitCone, e_i_corners], [], [], [], [], []⟩
theorem k_i_SailCorners (x : PMs.den e_i_SailCorners.ps) : funU c_i_SailCorners [⟨4, 0, 12⟩] 22 4 3 4 Try.f8 e_i_SailCorners.ps x = e_i_SailCorners.F x := by kernel_rfl
theorem o_i_SailCorners : FnOk Try.prog e_i_SailCorners.f ∧ Ctr Try.prog e_i_SailCorners := mkCtrU (C := c_i_SailCorners) 2 m_ (⟨o_i_SplitCone, o_i_corners, trivial⟩) Try.func8 (by kernel_rfl) (by kernel_rfl) rfl k_i_SailCorners
/-! loop.example/g00959/laws.eqIntS -/
noncomputable def w_eqIntS_s4 (x0 : List Int) (x1 : List Int) (v1 : Int) : Option ((Int) ⊕ ((Unit) ⊕ (Bool))) :=
 cond (decide (v1 < (x0.length : Int)))
 ((idx x0 v1).bind fun v2 => (idx x1 v1).bind fun v3 => cond (v2 != v3)
 (some (.inr (.inr false)))
 (some (.inl (IntKind.i64.wrap (v1 + (1 : Int))))))
 (some (.inr (.inl ())))
noncomputable def w_eqIntS (x0 : List Int) (x1 : List Int) : Option (Bool) :=
 cond ((x0.length : Int) != (x1.length : Int))
 (some false)
 ((iter (w_eqIntS_s4 x0 x1) (0 : Int)).bind fun v4 => match v4 with
 | .inl v5 => (some true)
 | .inr v6 => (some v6))
noncomputable def e_w_eqIntS : CallE := ⟨24, [.d false (.list (.int .i64)), .d false (.list (.int .i64))], [.l (.d false .bool)], fun x => w_eqIntS x.1 x.2⟩
noncomputable def c_w_eqIntS : Ctx := ⟨Try.prog, TT, [], [⟨4, [(5, .l (.d false (.int .i64)))], some (0, []), some [(4, .l (.d false .bool))], false⟩], [], [], [], []⟩
theorem k_w_eqIntS (x : PMs.den e_w_eqIntS.ps) : funK c_w_eqIntS Try.f24 e_w_eqIntS.ps e_w_eqIntS.rs x = e_w_eqIntS.F x := by kernel_rfl
theorem o_w_eqIntS : FnOk Try.prog e_w_eqIntS.f ∧ Ctr Try.prog e_w_eqIntS := mkCtr (C := c_w_eqIntS) m_ (trivial) Try.func24 (by kernel_rfl) k_w_eqIntS
/-! loop.example/g00959/laws.eqIntSS -/
noncomputable def w_eqIntSS_s4 (x0 : List (List Int)) (x1 : List (List Int)) (v1 : Int) : Option ((Int) ⊕ ((Unit) ⊕ (Bool))) :=
 cond (decide (v1 < (x0.length : Int)))
 ((idx x0 v1).bind fun v2 => (idx x1 v1).bind fun v3 => (w_eqIntS v2 v3).bind fun v4 => cond (!v4)
 (some (.inr (.inr false)))
 (some (.inl (IntKind.i64.wrap (v1 + (1 : Int))))))
 (some (.inr (.inl ())))
noncomputable def w_eqIntSS (x0 : List (List Int)) (x1 : List (List Int)) : Option (Bool) :=
 cond ((x0.length : Int) != (x1.length : Int))
 (some false)
 ((iter (w_eqIntSS_s4 x0 x1) (0 : Int)).bind fun v5 => match v5 with
 | .inl v6 => (some true)
 | .inr v7 => (some v7))
noncomputable def e_w_eqIntSS : CallE := ⟨9, [.d false (.list (.list (.int .i64))), .d false (.list (.list (.int .i64)))], [.l (.d false .bool)], fun x => w_eqIntSS x.1 x.2⟩
noncomputable def c_w_eqIntSS : Ctx := ⟨Try.prog, TT, [e_w_eqIntS], [⟨4, [(5, .l (.d false (.int .i64)))], some (0, []), some [(4, .l (.d false .bool))], false⟩], [], [], [], []⟩
theorem k_w_eqIntSS (x : PMs.den e_w_eqIntSS.ps) : funK c_w_eqIntSS Try.f9 e_w_eqIntSS.ps e_w_eqIntSS.rs x = e_w_eqIntSS.F x := by kernel_rfl
theorem o_w_eqIntSS : FnOk Try.prog e_w_eqIntSS.f ∧ Ctr Try.prog e_w_eqIntSS := mkCtr (C := c_w_eqIntSS) m_ (⟨o_w_eqIntS, trivial⟩) Try.func9 (by kernel_rfl) k_w_eqIntSS
/-! loop.example/g00959/laws.eqCone -/
noncomputable def w_eqCone (x0 : (List Int) × (List Int)) (x1 : (List Int) × (List Int)) : Option (Bool) :=
(w_eqIntS x0.1 x1.1).bind fun v1 => cond (!v1)
 (some false)
 ((w_eqIntS x0.2 x1.2).bind fun v2 => cond (!v2)
 (some false)
 (some true))
noncomputable def e_w_eqCone : CallE := ⟨10, [.d false (.prod (.list (.int .i64)) (.list (.int .i64))), .d false (.prod (.list (.int .i64)) (.list (.int .i64)))], [.l (.d false .bool)], fun x => w_eqCone x.1 x.2⟩
noncomputable def c_w_eqCone : Ctx := ⟨Try.prog, TT, [e_w_eqIntS], [], [], [], [], []⟩
theorem k_w_eqCone (x : PMs.den e_w_eqCone.ps) : funK c_w_eqCone Try.f10 e_w_eqCone.ps e_w_eqCone.rs x = e_w_eqCone.F x := by kernel_rfl
theorem o_w_eqCone : FnOk Try.prog e_w_eqCone.f ∧ Ctr Try.prog e_w_eqCone := mkCtr (C := c_w_eqCone) m_ (⟨o_w_eqIntS, trivial⟩) Try.func10 (by kernel_rfl) k_w_eqCone
/-! loop.example/g00959/laws.markIntS -/
noncomputable def w_markIntS_s2 (v1 : List Int × Int × Int) : Option ((List Int × Int × Int) ⊕ (List Int × Int)) :=
 cond (decide (v1.2.2 < (v1.1.length : Int)))
 ((inIdx v1.1.length v1.2.2).bind fun _ => (inIdx v1.1.length ((v1.2.2).toNat : Int)).bind fun _ => some (.inl ((v1.1.set ((v1.2.2).toNat) v1.2.1), ((IntKind.i64.wrap (v1.2.1 + (1 : Int))), (IntKind.i64.wrap (v1.2.2 + (1 : Int)))))))
 (some (.inr (v1.1, v1.2.1)))
noncomputable def w_markIntS (x0 : List Int) (x1 : Int) : Option ((Int) × (List Int) × Unit) :=
(iter (w_markIntS_s2) (x0, (x1, (0 : Int)))).bind fun v2 => some (v2.2, (v2.1, ()))
noncomputable def e_w_markIntS : CallE := ⟨25, [.io true 3 (.int .i64), .d false (.int .i64)], [.l (.d false (.int .i64))], fun x => w_markIntS x.1 x.2⟩
noncomputable def c_w_markIntS : Ctx := ⟨Try.prog, TT, [], [⟨2, [(0, .l (.o true 3 (.int .i64))), (1, .l (.d false (.int .i64))), (5, .l (.d false (.int .i64)))], some (0, [(0, .l (.o true 3 (.int .i64))), (1, .l (.d false (.int .i64)))]), none, false⟩], [], [], [], []⟩
theorem k_w_markIntS (x : PMs.den e_w_markIntS.ps) : funK c_w_markIntS Try.f25 e_w_markIntS.ps e_w_markIntS.rs x = e_w_markIntS.F x := by kernel_rfl
theorem o_w_markIntS : FnOk Try.prog e_w_markIntS.f ∧ Ctr Try.prog e_w_markIntS := mkCtr (C := c_w_markIntS) m_ (trivial) Try.func25 (by kernel_rfl) k_w_markIntS
/-! loop.example/g00959/laws.markIntS, deep -/
noncomputable def d_markIntS_s (s : Int × Int × List Int) : Option ((Int × Int × List Int) ⊕ (Int × List Int)) :=
 cond (decide (s.2.1 < (s.2.2.length : Int)))
 ((inIdx s.2.2.length s.2.1).bind fun _ => (s.2.2[s.2.1.toNat]?).bind fun v1 => (setInt (.int .i64) v1 0 s.1).bind fun v2 => some (.inl ((IntKind.i64.wrap (s.1 + (1 : Int))), (IntKind.i64.wrap (s.2.1 + (1 : Int))), (s.2.2.set s.2.1.toNat v2))))
 (some (.inr (s.1, s.2.2)))
noncomputable def d_markIntS (x0 : List Int) (x1 : Int) : Option (List Int × Int) :=
(iter d_markIntS_s (x1, (0 : Int), x0)).bind fun v3 => some (v3.2, v3.1)
noncomputable def i_d_markIntS : InnerE := ⟨25, (.int .i64), fun y n => d_markIntS y n⟩
noncomputable def c_d_markIntS : Ctx := ⟨Try.prog, TT, [], [], [], [], [], []⟩
theorem k_d_markIntS (y : List Int) (n : Int) : funM c_d_markIntS [] (.int .i64) ⟨0, 1, 5, 0⟩ Try.f25 y n = i_d_markIntS.F y n := by kernel_rfl
theorem o_d_markIntS : FnOk Try.prog i_d_markIntS.f ∧ ∀ e, MarkOk Try.prog (i_d_markIntS.mark e) := mkMark (C := c_d_markIntS) (S := []) (L := ⟨0, 1, 5, 0⟩) (trivial) Try.func25 (by kernel_rfl) k_d_markIntS
/-! loop.example/g00959/laws.markIntSS, deep -/
noncomputable def d_markIntSS_s (s : Int × Int × List (List Int)) : Option ((Int × Int × List (List Int)) ⊕ (Int × List (List Int))) :=
 cond (decide (s.2.1 < (s.2.2.length : Int)))
 ((inIdx s.2.2.length s.2.1).bind fun _ => if s.2.1.toNat < s.2.2.length ∧ 0 < Ty.wid (.list (.int .i64)) then ((s.2.2[s.2.1.toNat]?).bind fun v1 => (updAt i_d_markIntS (.list (.int .i64)) v1 0 s.1).bind fun v2 => some (.inl (v2.2, (IntKind.i64.wrap (s.2.1 + (1 : Int))), (s.2.2.set s.2.1.toNat v2.1)))) else none)
 (some (.inr (s.1, s.2.2)))
noncomputable def d_markIntSS (x0 : List (List Int)) (x1 : Int) : Option (List (List Int) × Int) :=
(iter d_markIntSS_s (x1, (0 : Int), x0)).bind fun v3 => some (v3.2, v3.1)
noncomputable def i_d_markIntSS : InnerE := ⟨12, (.list (.int .i64)), fun y n => d_markIntSS y n⟩
noncomputable def c_d_markIntSS : Ctx := ⟨Try.prog, TT, [], [], [], [], [], []⟩
theorem k_d_markIntSS (y : List (List Int)) (n : Int) : funM c_d_markIntSS [i_d_markIntS] (.list (.int .i64)) ⟨0, 1, 5, 0⟩ Try.f12 y n = i_d_markIntSS.F y n := by kernel_rfl
theorem o_d_markIntSS : FnOk Try.prog i_d_markIntSS.f ∧ ∀ e, MarkOk Try.prog (i_d_markIntSS.mark e) := mkMark (C := c_d_markIntSS) (S := [i_d_markIntS]) (L := ⟨0, 1, 5, 0⟩) (⟨o_d_markIntS, trivial⟩) Try.func12 (by kernel_rfl) k_d_markIntSS
/-! loop.example/g00959/laws.heldIntS -/
noncomputable def w_heldIntS_s2 (x0 : List Int) (v1 : Int × Int) : Option ((Int × Int) ⊕ ((Int) ⊕ (Int))) :=
 cond (decide (v1.2 < (x0.length : Int)))
 ((idx x0 v1.2).bind fun v2 => cond (v2 != v1.1)
 (some (.inr (.inr (-1 : Int))))
 (some (.inl ((IntKind.i64.wrap (v1.1 + (1 : Int))), (IntKind.i64.wrap (v1.2 + (1 : Int)))))))
 (some (.inr (.inl v1.1)))
noncomputable def w_heldIntS (x0 : List Int) (x1 : Int) : Option (Int) :=
(iter (w_heldIntS_s2 x0) (x1, (0 : Int))).bind fun v3 => match v3 with
 | .inl v4 => (some v4)
 | .inr v5 => (some v5)
noncomputable def e_w_heldIntS : CallE := ⟨26, [.d false (.list (.int .i64)), .d false (.int .i64)], [.l (.d false (.int .i64))], fun x => w_heldIntS x.1 x.2⟩
noncomputable def c_w_heldIntS : Ctx := ⟨Try.prog, TT, [], [⟨2, [(1, .l (.d false (.int .i64))), (5, .l (.d false (.int .i64)))], some (0, [(1, .l (.d false (.int .i64)))]), some [(4, .l (.d false (.int .i64)))], false⟩], [], [], [], []⟩
theorem k_w_heldIntS (x : PMs.den e_w_heldIntS.ps) : funK c_w_heldIntS Try.f26 e_w_heldIntS.ps e_w_heldIntS.rs x = e_w_heldIntS.F x := by kernel_rfl
theorem o_w_heldIntS : FnOk Try.prog e_w_heldIntS.f ∧ Ctr Try.prog e_w_heldIntS := mkCtr (C := c_w_heldIntS) m_ (trivial) Try.func26 (by kernel_rfl) k_w_heldIntS
/-! loop.example/g00959/laws.heldIntSS -/
noncomputable def w_heldIntSS_s2 (x0 : List (List Int)) (v1 : Int × Int) : Option ((Int × Int) ⊕ ((Int) ⊕ (Int))) :=
 cond (decide (v1.2 < (x0.length : Int)))
 ((idx x0 v1.2).bind fun v2 => (w_heldIntS v2 v1.1).bind fun v3 => cond (decide (v3 < (0 : Int)))
 (some (.inr (.inr (-1 : Int))))
 (some (.inl (v3, (IntKind.i64.wrap (v1.2 + (1 : Int)))))))
 (some (.inr (.inl v1.1)))
noncomputable def w_heldIntSS (x0 : List (List Int)) (x1 : Int) : Option (Int) :=
(iter (w_heldIntSS_s2 x0) (x1, (0 : Int))).bind fun v4 => match v4 with
 | .inl v5 => (some v5)
 | .inr v6 => (some v6)
noncomputable def e_w_heldIntSS : CallE := ⟨13, [.d false (.list (.list (.int .i64))), .d false (.int .i64)], [.l (.d false (.int .i64))], fun x => w_heldIntSS x.1 x.2⟩
noncomputable def c_w_heldIntSS : Ctx := ⟨Try.prog, TT, [e_w_heldIntS], [⟨2, [(1, .l (.d false (.int .i64))), (5, .l (.d false (.int .i64)))], some (0, [(1, .l (.d false (.int .i64)))]), some [(4, .l (.d false (.int .i64)))], false⟩], [], [], [], []⟩
theorem k_w_heldIntSS (x : PMs.den e_w_heldIntSS.ps) : funK c_w_heldIntSS Try.f13 e_w_heldIntSS.ps e_w_heldIntSS.rs x = e_w_heldIntSS.F x := by kernel_rfl
theorem o_w_heldIntSS : FnOk Try.prog e_w_heldIntSS.f ∧ Ctr Try.prog e_w_heldIntSS := mkCtr (C := c_w_heldIntSS) m_ (⟨o_w_heldIntS, trivial⟩) Try.func13 (by kernel_rfl) k_w_heldIntSS
/-! loop.example/g00959/laws.FnExactSailCorners -/
noncomputable def w_FnExactSailCorners (x0 : (List Int) × (List Int)) : Option (Bool) :=
(w_szCone x0 (1048576 : Int)).bind fun v1 => cond (decide (v1 < (0 : Int)))
 (some true)
 ((w_toCone x0).bind fun v2 => (s_SailCorners (v2.1, v2.2)).bind fun v3 => (w_toCone x0).bind fun v4 => (i_SailCorners (v4.1, v4.2)).bind fun v5 => (w_eqIntSS v5 v3).bind fun v6 => cond (!v6)
 (some false)
 ((w_toCone x0).bind fun v7 => (w_eqCone (v4.1, v4.2) (v7.1, v7.2)).bind fun v8 => cond (!v8)
 (some false)
 ((w_markIntS v4.1 (1 : Int)).bind fun v9 => (w_markIntS v4.2 v9.1).bind fun v10 => cond (decide (v10.1 < (0 : Int)))
 (some false)
 ((w_eqIntSS v5 v3).bind fun v11 => cond (!v11)
 (some false)
 ((d_markIntSS v5 (1 : Int)).bind fun v12 => (w_heldIntSS v12.1 (1 : Int)).bind fun v13 => cond (decide (v13 < (0 : Int)))
 (some false)
 (cond (v13 != v12.2)
 (some false)
 ((w_toCone x0).bind fun v14 => (i_SailCorners (v14.1, v14.2)).bind fun v15 => (w_eqIntSS v15 v3).bind fun v16 => cond (!v16)
 (some false)
 ((w_heldIntSS v12.1 (1 : Int)).bind fun v17 => cond (decide (v17 < (0 : Int)))
 (some false)
 (cond (v17 != v12.2)
 (some false)
 (some true))))))))))
noncomputable def e_w_FnExactSailCorners : CallE := ⟨3, [.d false (.prod (.list (.int .i64)) (.list (.int .i64)))], [.l (.d false .bool)], fun x => w_FnExactSailCorners x⟩
noncomputable def c_w_FnExactSailCorners_11 : Ctx := ⟨Try.prog, TT, [e_w_markIntS], [], [], [], [], []⟩
noncomputable def n_w_FnExactSailCorners_11 : InE := ⟨11, true, inlK c_w_FnExactSailCorners_11 Try.f11⟩
theorem q_w_FnExactSailCorners_11 : FnOk Try.prog n_w_FnExactSailCorners_11.f ∧ InOk Try.prog n_w_FnExactSailCorners_11 := mkInlD (C := c_w_FnExactSailCorners_11) m_ (⟨o_w_markIntS, trivial⟩) Try.func11 (by kernel_rfl) (by kernel_rfl) rfl
noncomputable def c_w_FnExactSailCorners : Ctx := ⟨Try.prog, TT, [e_w_szCone, e_w_toCone, e_s_SailCorners, e_i_SailCorners, e_w_eqIntSS, e_w_eqCone, e_w_heldIntSS], [], [], [n_w_FnExactSailCorners_11], [], []⟩
noncomputable def m_w_FnExactSailCorners : List MarkE := [i_d_markIntSS.mark 22]
theorem k_w_FnExactSailCorners (x : PMs.den e_w_FnExactSailCorners.ps) : funP c_w_FnExactSailCorners m_w_FnExactSailCorners 1 Try.f3 e_w_FnExactSailCorners.ps e_w_FnExactSailCorners.rs x = e_w_FnExactSailCorners.F x := by kernel_rfl
theorem o_w_FnExactSailCorners : FnOk Try.prog e_w_FnExactSailCorners.f ∧ Ctr Try.prog e_w_FnExactSailCorners := mkLawP (C := c_w_FnExactSailCorners) (M := m_w_FnExactSailCorners) 1 m_ (⟨o_w_szCone, o_w_toCone, o_s_SailCorners, o_i_SailCorners, o_w_eqIntSS, o_w_eqCone, o_w_heldIntSS, trivial⟩) (⟨⟨o_d_markIntSS.1, o_d_markIntSS.2 22⟩, trivial⟩) Try.func3 (by kernel_rfl) (by kernel_rfl) k_w_FnExactSailCorners ⟨q_w_FnExactSailCorners_11, trivial⟩
/-! loop.example/g00959/laws.szIntSS -/
noncomputable def w_szIntSS_s5 (x0 : List (List Int)) (v1 : Int × Int) : Option ((Int × Int) ⊕ ((Int) ⊕ (Int))) :=
 cond (decide (v1.2 < (x0.length : Int)))
 ((idx x0 v1.2).bind fun v2 => (w_szIntS v2 v1.1).bind fun v3 => cond (decide (v3 < (0 : Int)))
 (some (.inr (.inr (-1 : Int))))
 (some (.inl (v3, (IntKind.i64.wrap (v1.2 + (1 : Int)))))))
 (some (.inr (.inl v1.1)))
noncomputable def w_szIntSS (x0 : List (List Int)) (x1 : Int) : Option (Int) :=
 cond (decide ((IntKind.i64.wrap (x1 - (x0.length : Int))) < (0 : Int)))
 (some (-1 : Int))
 ((iter (w_szIntSS_s5 x0) ((IntKind.i64.wrap (x1 - (x0.length : Int))), (0 : Int))).bind fun v4 => match v4 with
 | .inl v5 => (some v5)
 | .inr v6 => (some v6))
noncomputable def e_w_szIntSS : CallE := ⟨14, [.d false (.list (.list (.int .i64))), .d false (.int .i64)], [.l (.d false (.int .i64))], fun x => w_szIntSS x.1 x.2⟩
noncomputable def c_w_szIntSS : Ctx := ⟨Try.prog, TT, [e_w_szIntS], [⟨5, [(1, .l (.d false (.int .i64))), (5, .l (.d false (.int .i64)))], some (0, [(1, .l (.d false (.int .i64)))]), some [(4, .l (.d false (.int .i64)))], false⟩], [], [], [], []⟩
theorem k_w_szIntSS (x : PMs.den e_w_szIntSS.ps) : funK c_w_szIntSS Try.f14 e_w_szIntSS.ps e_w_szIntSS.rs x = e_w_szIntSS.F x := by kernel_rfl
theorem o_w_szIntSS : FnOk Try.prog e_w_szIntSS.f ∧ Ctr Try.prog e_w_szIntSS := mkCtr (C := c_w_szIntSS) m_ (⟨o_w_szIntS, trivial⟩) Try.func14 (by kernel_rfl) k_w_szIntSS
/-! loop.example/g00959/laws.toIntSS -/
noncomputable def w_toIntSS_s3 (x0 : List (List Int)) (v2 : List (List Int) × Int) : Option ((List (List Int) × Int) ⊕ (List (List Int))) :=
 cond (decide (v2.2 < (x0.length : Int)))
 ((idx x0 v2.2).bind fun v3 => (w_toIntS v3).bind fun v4 => (inIdx v2.1.length v2.2).bind fun _ => (inIdx v2.1.length ((v2.2).toNat : Int)).bind fun _ => some (.inl ((v2.1.set ((v2.2).toNat) v4), (IntKind.i64.wrap (v2.2 + (1 : Int))))))
 (some (.inr v2.1))
noncomputable def w_toIntSS (x0 : List (List Int)) : Option (List (List Int)) :=
(mkD 24 (x0.length : Int) ([] : List Int)).bind fun v1 => (iter (w_toIntSS_s3 x0) (v1, (0 : Int))).bind fun v5 => some v5
noncomputable def e_w_toIntSS : CallE := ⟨16, [.d false (.list (.list (.int .i64)))], [.l (.o true 22 (.list (.int .i64)))], fun x => w_toIntSS x⟩
noncomputable def c_w_toIntSS : Ctx := ⟨Try.prog, TT, [e_w_toIntS], [⟨3, [(3, .l (.o true 22 (.list (.int .i64)))), (4, .l (.d false (.int .i64)))], some (0, [(3, .l (.o true 22 (.list (.int .i64))))]), none, false⟩], [], [], [], []⟩
theorem k_w_toIntSS (x : PMs.den e_w_toIntSS.ps) : funK c_w_toIntSS Try.f16 e_w_toIntSS.ps e_w_toIntSS.rs x = e_w_toIntSS.F x := by kernel_rfl
theorem o_w_toIntSS : FnOk Try.prog e_w_toIntSS.f ∧ Ctr Try.prog e_w_toIntSS := mkCtr (C := c_w_toIntSS) m_ (⟨o_w_toIntS, trivial⟩) Try.func16 (by kernel_rfl) k_w_toIntSS
/-! loop.example/g00959/spec.l7Flat -/
noncomputable def s_l7Flat_s2 (x0 : List (List Int)) (v1 : Int) : Option ((Int) ⊕ ((Unit) ⊕ (Bool))) :=
 cond (decide (v1 < (x0.length : Int)))
 ((idx x0 v1).bind fun v2 => cond ((v2.length : Int) != (2 : Int))
 (some (.inr (.inr false)))
 ((idx x0 v1).bind fun v3 => (s_l2Small v3 (50 : Int)).bind fun v4 => cond (!v4)
 (some (.inr (.inr false)))
 (some (.inl (IntKind.i64.wrap (v1 + (1 : Int)))))))
 (some (.inr (.inl ())))
noncomputable def s_l7Flat (x0 : List (List Int)) : Option (Bool) :=
(iter (s_l7Flat_s2 x0) (0 : Int)).bind fun v5 => match v5 with
 | .inl v6 => (some true)
 | .inr v7 => (some v7)
noncomputable def e_s_l7Flat : CallE := ⟨45, [.d false (.list (.list (.int .i64)))], [.l (.d false .bool)], fun x => s_l7Flat x⟩
noncomputable def c_s_l7Flat : Ctx := ⟨Try.prog, TT, [e_s_l2Small], [⟨2, [(3, .l (.d false (.int .i64)))], some (0, []), some [(2, .l (.d false .bool))], false⟩], [], [], [], []⟩
theorem k_s_l7Flat (x : PMs.den e_s_l7Flat.ps) : funK c_s_l7Flat Try.f45 e_s_l7Flat.ps e_s_l7Flat.rs x = e_s_l7Flat.F x := by kernel_rfl
theorem o_s_l7Flat : FnOk Try.prog e_s_l7Flat.f ∧ Ctr Try.prog e_s_l7Flat := mkCtr (C := c_s_l7Flat) m_ (⟨o_s_l2Small, trivial⟩) Try.func45 (by kernel_rfl) k_s_l7Flat
/-! loop.example/g00959/spec.l2Before -/
noncomputable def s_l2Before_s2 (x0 : List Int) (x1 : List Int) (v1 : Int) : Option ((Int) ⊕ ((Unit) ⊕ (Bool))) :=
 cond (decide (v1 < (x0.length : Int)))
 (cond (decide (v1 < (x1.length : Int)))
 ((idx x0 v1).bind fun v2 => (idx x1 v1).bind fun v3 => cond (v2 != v3)
 ((idx x0 v1).bind fun v4 => (idx x1 v1).bind fun v5 => some (.inr (.inr (decide (v4 < v5)))))
 (some (.inl (IntKind.i64.wrap (v1 + (1 : Int))))))
 (some (.inr (.inl ()))))
 (some (.inr (.inl ())))
noncomputable def s_l2Before (x0 : List Int) (x1 : List Int) : Option (Bool) :=
(iter (s_l2Before_s2 x0 x1) (0 : Int)).bind fun v6 => match v6 with
 | .inl v7 => (some false)
 | .inr v8 => (some v8)
noncomputable def e_s_l2Before : CallE := ⟨76, [.d false (.list (.int .i64)), .d false (.list (.int .i64))], [.l (.d false .bool)], fun x => s_l2Before x.1 x.2⟩
noncomputable def c_s_l2Before : Ctx := ⟨Try.prog, TT, [], [⟨2, [(5, .l (.d false (.int .i64)))], some (0, []), some [(4, .l (.d false .bool))], false⟩], [], [], [], []⟩
theorem k_s_l2Before (x : PMs.den e_s_l2Before.ps) : funK c_s_l2Before Try.f76 e_s_l2Before.ps e_s_l2Before.rs x = e_s_l2Before.F x := by kernel_rfl
theorem o_s_l2Before : FnOk Try.prog e_s_l2Before.f ∧ Ctr Try.prog e_s_l2Before := mkCtr (C := c_s_l2Before) m_ (trivial) Try.func76 (by kernel_rfl) k_s_l2Before
/-! loop.example/g00959/spec.l2Same -/
noncomputable def s_l2Same_s4 (x0 : List Int) (x1 : List Int) (v1 : Int) : Option ((Int) ⊕ ((Unit) ⊕ (Bool))) :=
 cond (decide (v1 < (x0.length : Int)))
 ((idx x0 v1).bind fun v2 => (idx x1 v1).bind fun v3 => cond (v2 != v3)
 (some (.inr (.inr false)))
 (some (.inl (IntKind.i64.wrap (v1 + (1 : Int))))))
 (some (.inr (.inl ())))
noncomputable def s_l2Same (x0 : List Int) (x1 : List Int) : Option (Bool) :=
 cond ((x0.length : Int) != (x1.length : Int))
 (some false)
 ((iter (s_l2Same_s4 x0 x1) (0 : Int)).bind fun v4 => match v4 with
 | .inl v5 => (some true)
 | .inr v6 => (some v6))
noncomputable def e_s_l2Same : CallE := ⟨65, [.d false (.list (.int .i64)), .d false (.list (.int .i64))], [.l (.d false .bool)], fun x => s_l2Same x.1 x.2⟩
noncomputable def c_s_l2Same : Ctx := ⟨Try.prog, TT, [], [⟨4, [(5, .l (.d false (.int .i64)))], some (0, []), some [(4, .l (.d false .bool))], false⟩], [], [], [], []⟩
theorem k_s_l2Same (x : PMs.den e_s_l2Same.ps) : funK c_s_l2Same Try.f65 e_s_l2Same.ps e_s_l2Same.rs x = e_s_l2Same.F x := by kernel_rfl
theorem o_s_l2Same : FnOk Try.prog e_s_l2Same.f ∧ Ctr Try.prog e_s_l2Same := mkCtr (C := c_s_l2Same) m_ (trivial) Try.func65 (by kernel_rfl) k_s_l2Same
/-! loop.example/g00959/spec.l2Put -/
noncomputable def s_l2Put_s2 (x1 : List Int) (v1 : List (List Int) × Int) : Option ((List (List Int) × Int) ⊕ (List (List Int) × Int)) :=
 cond (decide (v1.2 > (0 : Int)))
 ((inIdx v1.1.length (IntKind.i64.wrap (v1.2 - (1 : Int)))).bind fun _ => (idx v1.1 (((IntKind.i64.wrap (v1.2 - (1 : Int)))).toNat : Int)).bind fun v2 => (s_l2Before x1 v2).bind fun v3 => cond v3
 (some (.inl (v1.1, (IntKind.i64.wrap (v1.2 - (1 : Int))))))
 (some (.inr (v1.1, v1.2))))
 (some (.inr (v1.1, v1.2)))
noncomputable def s_l2Put (x0 : List (List Int)) (x1 : List Int) : Option (List (List Int)) :=
(iter (s_l2Put_s2 x1) (x0, (x0.length : Int))).bind fun v4 => cond (decide (v4.2 > (0 : Int)))
 ((inIdx v4.1.length (IntKind.i64.wrap (v4.2 - (1 : Int)))).bind fun _ => (idx v4.1 (((IntKind.i64.wrap (v4.2 - (1 : Int)))).toNat : Int)).bind fun v5 => (s_l2Same v5 x1).bind fun v6 => cond v6
 (some v4.1)
 ((subl v4.1 v4.2 (v4.1.length : Int)).bind fun v7 => (subl v4.1 ((v4.2).toNat : Int) (((v4.1.length : Int)).toNat : Int)).bind fun v8 => (appD 24 ([] : List (List Int)) v8).bind fun v9 => (subl v4.1 0 v4.2).bind fun v10 => (appD 8 ([] : List Int) x1).bind fun v11 => (appD 24 v10 ([v11] : List (List Int))).bind fun v12 => (appD 24 v12 v9).bind fun v13 => some v13))
 ((subl v4.1 v4.2 (v4.1.length : Int)).bind fun v14 => (subl v4.1 ((v4.2).toNat : Int) (((v4.1.length : Int)).toNat : Int)).bind fun v15 => (appD 24 ([] : List (List Int)) v15).bind fun v16 => (subl v4.1 0 v4.2).bind fun v17 => (appD 8 ([] : List Int) x1).bind fun v18 => (appD 24 v17 ([v18] : List (List Int))).bind fun v19 => (appD 24 v19 v16).bind fun v20 => some v20)
noncomputable def e_s_l2Put : CallE := ⟨62, [.mv false 22 (.list (.int .i64)), .d false (.list (.int .i64))], [.l (.o false 22 (.list (.int .i64)))], fun x => s_l2Put x.1 x.2⟩
noncomputable def c_s_l2Put : Ctx := ⟨Try.prog, TT, [e_s_l2Before, e_s_l2Same], [⟨2, [(0, .l (.o false 22 (.list (.int .i64)))), (5, .l (.d false (.int .i64)))], some (0, [(0, .l (.o false 22 (.list (.int .i64)))), (5, .l (.d false (.int .i64)))]), none, false⟩], [], [], [35], [(7, [0, 1, 2, 4, 8, 3, 5, 6, 7, 9, 10])]⟩
theorem k_s_l2Put (x : PMs.den e_s_l2Put.ps) : funK c_s_l2Put Try.f62 e_s_l2Put.ps e_s_l2Put.rs x = e_s_l2Put.F x := by kernel_rfl
theorem o_s_l2Put : FnOk Try.prog e_s_l2Put.f ∧ Ctr Try.prog e_s_l2Put := mkCtr (C := c_s_l2Put) m_ (⟨o_s_l2Before, o_s_l2Same, trivial⟩) Try.func62 (by kernel_rfl) k_s_l2Put
/-! loop.example/g00959/spec.l7Turn -/
noncomputable def s_l7Turn (x0 : List Int) (x1 : List Int) (x2 : List Int) : Option (Int) :=
(s_l2Less x1 x0).bind fun v1 => (s_l2Less x2 x1).bind fun v2 => (s_l7Cross v1 v2).bind fun v3 => some v3
noncomputable def e_s_l7Turn : CallE := ⟨77, [.d false (.list (.int .i64)), .d false (.list (.int .i64)), .d false (.list (.int .i64))], [.l (.d false (.int .i64))], fun x => s_l7Turn x.1 x.2.1 x.2.2⟩
noncomputable def c_s_l7Turn : Ctx := ⟨Try.prog, TT, [e_s_l2Less, e_s_l7Cross], [], [], [], [], []⟩
theorem k_s_l7Turn (x : PMs.den e_s_l7Turn.ps) : funK c_s_l7Turn Try.f77 e_s_l7Turn.ps e_s_l7Turn.rs x = e_s_l7Turn.F x := by kernel_rfl
theorem o_s_l7Turn : FnOk Try.prog e_s_l7Turn.f ∧ Ctr Try.prog e_s_l7Turn := mkCtr (C := c_s_l7Turn) m_ (⟨o_s_l2Less, o_s_l7Cross, trivial⟩) Try.func77 (by kernel_rfl) k_s_l7Turn
/-! loop.example/g00959/spec.l7Hull -/
noncomputable def s_l7Hull_s12 (v1 : List (List Int) × Int) (v4 : List Int) (v5 : List (List Int)) : Option ((List (List Int)) ⊕ (List (List Int))) :=
 cond (decide ((v5.length : Int) ≥ (IntKind.i64.wrap ((v1.1.length : Int) + (2 : Int)))))
 ((inIdx v5.length (IntKind.i64.wrap ((v5.length : Int) - (2 : Int)))).bind fun _ => (idx v5 (((IntKind.i64.wrap ((v5.length : Int) - (2 : Int)))).toNat : Int)).bind fun v6 => (inIdx v5.length (IntKind.i64.wrap ((v5.length : Int) - (1 : Int)))).bind fun _ => (idx v5 (((IntKind.i64.wrap ((v5.length : Int) - (1 : Int)))).toNat : Int)).bind fun v7 => (s_l7Turn v6 v7 v4).bind fun v8 => cond (decide (v8 ≤ (0 : Int)))
 ((subl v5 0 (IntKind.i64.wrap ((v5.length : Int) - (1 : Int)))).bind fun v9 => some (.inl v9))
 (some (.inr v5)))
 (some (.inr v5))
noncomputable def s_l7Hull_s12b16 (v1 : List (List Int) × Int) (v3 : List Int) (v12 : List (List Int)) : Option ((List (List Int)) ⊕ (List (List Int))) :=
 cond (decide ((v12.length : Int) ≥ (IntKind.i64.wrap ((v1.1.length : Int) + (2 : Int)))))
 ((inIdx v12.length (IntKind.i64.wrap ((v12.length : Int) - (2 : Int)))).bind fun _ => (idx v12 (((IntKind.i64.wrap ((v12.length : Int) - (2 : Int)))).toNat : Int)).bind fun v13 => (inIdx v12.length (IntKind.i64.wrap ((v12.length : Int) - (1 : Int)))).bind fun _ => (idx v12 (((IntKind.i64.wrap ((v12.length : Int) - (1 : Int)))).toNat : Int)).bind fun v14 => (s_l7Turn v13 v14 v3).bind fun v15 => cond (decide (v15 ≤ (0 : Int)))
 ((subl v12 0 (IntKind.i64.wrap ((v12.length : Int) - (1 : Int)))).bind fun v16 => some (.inl v16))
 (some (.inr v12)))
 (some (.inr v12))
noncomputable def s_l7Hull_s7 (x0 : List (List Int)) (v1 : List (List Int) × Int) (v2 : List (List Int) × Int) : Option ((List (List Int) × Int) ⊕ (List (List Int))) :=
 cond (decide (v2.2 < (x0.length : Int)))
 ((idx x0 v2.2).bind fun v3 => cond (v1.2 == (1 : Int))
 ((idx x0 (IntKind.i64.wrap ((IntKind.i64.wrap ((x0.length : Int) - (1 : Int))) - v2.2))).bind fun v4 => (iter (s_l7Hull_s12 v1 v4) v2.1).bind fun v10 => (appD 24 v10 ([v4] : List (List Int))).bind fun v11 => some (.inl (v11, (IntKind.i64.wrap (v2.2 + (1 : Int))))))
 ((iter (s_l7Hull_s12b16 v1 v3) v2.1).bind fun v17 => (appD 24 v17 ([v3] : List (List Int))).bind fun v18 => some (.inl (v18, (IntKind.i64.wrap (v2.2 + (1 : Int)))))))
 (some (.inr v2.1))
noncomputable def s_l7Hull_s3 (x0 : List (List Int)) (v1 : List (List Int) × Int) : Option ((List (List Int) × Int) ⊕ (List (List Int))) :=
 cond (decide (v1.2 < (2 : Int)))
 ((iter (s_l7Hull_s7 x0 v1) (v1.1, (0 : Int))).bind fun v19 => (subl v19 0 (IntKind.i64.wrap ((v19.length : Int) - (1 : Int)))).bind fun v20 => some (.inl (v20, (IntKind.i64.wrap (v1.2 + (1 : Int))))))
 (some (.inr v1.1))
noncomputable def s_l7Hull (x0 : List (List Int)) : Option (List (List Int)) :=
(iter (s_l7Hull_s3 x0) (([] : List (List Int)), (0 : Int))).bind fun v21 => some v21
noncomputable def e_s_l7Hull : CallE := ⟨63, [.d false (.list (.list (.int .i64)))], [.l (.o false 22 (.list (.int .i64)))], fun x => s_l7Hull x⟩
noncomputable def c_s_l7Hull : Ctx := ⟨Try.prog, TT, [e_s_l7Turn], [⟨3, [(3, .l (.o false 22 (.list (.int .i64)))), (4, .l (.d false (.int .i64)))], some (0, [(3, .l (.o false 22 (.list (.int .i64))))]), none, false⟩, ⟨7, [(3, .l (.o false 22 (.list (.int .i64)))), (6, .l (.d false (.int .i64)))], some (2, [(3, .l (.o false 22 (.list (.int .i64))))]), none, false⟩, ⟨12, [(3, .l (.o false 22 (.list (.int .i64))))], some (4, [(3, .l (.o false 22 (.list (.int .i64))))]), none, false⟩], [], [], [], []⟩
theorem k_s_l7Hull (x : PMs.den e_s_l7Hull.ps) : funK c_s_l7Hull Try.f63 e_s_l7Hull.ps e_s_l7Hull.rs x = e_s_l7Hull.F x := by kernel_rfl
theorem o_s_l7Hull : FnOk Try.prog e_s_l7Hull.f ∧ Ctr Try.prog e_s_l7Hull := mkCtr (C := c_s_l7Hull) m_ (⟨o_s_l7Turn, trivial⟩) Try.func63 (by kernel_rfl) k_s_l7Hull
/-! loop.example/g00959/spec.l7Copy -/
noncomputable def s_l7Copy_s3 (x0 : List (List Int)) (v1 : List (List Int) × Int) : Option ((List (List Int) × Int) ⊕ (List (List Int))) :=
 cond (decide (v1.2 < (x0.length : Int)))
 ((idx x0 v1.2).bind fun v2 => (appD 8 ([] : List Int) v2).bind fun v3 => (appD 24 v1.1 ([v3] : List (List Int))).bind fun v4 => some (.inl (v4, (IntKind.i64.wrap (v1.2 + (1 : Int))))))
 (some (.inr v1.1))
noncomputable def s_l7Copy (x0 : List (List Int)) : Option (List (List Int)) :=
(iter (s_l7Copy_s3 x0) (([] : List (List Int)), (0 : Int))).bind fun v5 => some v5
noncomputable def e_s_l7Copy : CallE := ⟨64, [.d false (.list (.list (.int .i64)))], [.l (.o true 22 (.list (.int .i64)))], fun x => s_l7Copy x⟩
noncomputable def c_s_l7Copy : Ctx := ⟨Try.prog, TT, [], [⟨3, [(3, .l (.o true 22 (.list (.int .i64)))), (4, .l (.d false (.int .i64)))], some (0, [(3, .l (.o true 22 (.list (.int .i64))))]), none, false⟩], [], [], [], []⟩
theorem k_s_l7Copy (x : PMs.den e_s_l7Copy.ps) : funK c_s_l7Copy Try.f64 e_s_l7Copy.ps e_s_l7Copy.rs x = e_s_l7Copy.F x := by kernel_rfl
theorem o_s_l7Copy : FnOk Try.prog e_s_l7Copy.f ∧ Ctr Try.prog e_s_l7Copy := mkCtr (C := c_s_l7Copy) m_ (trivial) Try.func64 (by kernel_rfl) k_s_l7Copy
/-! loop.example/g00959/spec.HullOf -/
noncomputable def s_HullOf_s5 (x0 : List (List Int)) (v2 : List (List Int) × Int) : Option ((List (List Int) × Int) ⊕ (List (List Int))) :=
 cond (decide (v2.2 < (x0.length : Int)))
 ((idx x0 v2.2).bind fun v3 => (s_l2Put v2.1 v3).bind fun v4 => some (.inl (v4, (IntKind.i64.wrap (v2.2 + (1 : Int))))))
 (some (.inr v2.1))
noncomputable def s_HullOf (x0 : List (List Int)) : Option (List (List Int) × Bool) :=
 cond (decide ((x0.length : Int) > (200 : Int)))
 (some (([] : List (List Int)), false))
 ((s_l7Flat x0).bind fun v1 => cond (!v1)
 (some (([] : List (List Int)), false))
 ((iter (s_HullOf_s5 x0) (([] : List (List Int)), (0 : Int))).bind fun v5 => cond (decide ((v5.length : Int) < (3 : Int)))
 (some (([] : List (List Int)), false))
 ((s_l7Hull v5).bind fun v6 => cond (decide ((v6.length : Int) < (3 : Int)))
 (some (([] : List (List Int)), false))
 (cond (decide ((v6.length : Int) > (12 : Int)))
 (some (([] : List (List Int)), false))
 ((s_l7Copy v6).bind fun v7 => some (v7, true))))))
noncomputable def e_s_HullOf : CallE := ⟨46, [.d false (.list (.list (.int .i64)))], [.l (.o true 22 (.list (.int .i64))), .l (.d false .bool)], fun x => s_HullOf x⟩
noncomputable def c_s_HullOf : Ctx := ⟨Try.prog, TT, [e_s_l7Flat, e_s_l2Put, e_s_l7Hull, e_s_l7Copy], [⟨5, [(4, .l (.o false 22 (.list (.int .i64)))), (5, .l (.d false (.int .i64)))], some (0, [(4, .l (.o false 22 (.list (.int .i64))))]), none, false⟩], [], [], [], []⟩
theorem k_s_HullOf (x : PMs.den e_s_HullOf.ps) : funK c_s_HullOf Try.f46 e_s_HullOf.ps e_s_HullOf.rs x = e_s_HullOf.F x := by kernel_rfl
theorem o_s_HullOf : FnOk Try.prog e_s_HullOf.f ∧ Ctr Try.prog e_s_HullOf := mkCtr (C := c_s_HullOf) m_ (⟨o_s_l7Flat, o_s_l2Put, o_s_l7Hull, o_s_l7Copy, trivial⟩) Try.func46 (by kernel_rfl) k_s_HullOf
/-! loop.example/g00959/spec.l7SameList -/
noncomputable def s_l7SameList_s4 (x0 : List (List Int)) (x1 : List (List Int)) (v1 : Int) : Option ((Int) ⊕ ((Unit) ⊕ (Bool))) :=
 cond (decide (v1 < (x0.length : Int)))
 ((idx x0 v1).bind fun v2 => (idx x1 v1).bind fun v3 => (s_l2Same v2 v3).bind fun v4 => cond (!v4)
 (some (.inr (.inr false)))
 (some (.inl (IntKind.i64.wrap (v1 + (1 : Int))))))
 (some (.inr (.inl ())))
noncomputable def s_l7SameList (x0 : List (List Int)) (x1 : List (List Int)) : Option (Bool) :=
 cond ((x0.length : Int) != (x1.length : Int))
 (some false)
 ((iter (s_l7SameList_s4 x0 x1) (0 : Int)).bind fun v5 => match v5 with
 | .inl v6 => (some true)
 | .inr v7 => (some v7))
noncomputable def e_s_l7SameList : CallE := ⟨47, [.d false (.list (.list (.int .i64))), .d false (.list (.list (.int .i64)))], [.l (.d false .bool)], fun x => s_l7SameList x.1 x.2⟩
noncomputable def c_s_l7SameList : Ctx := ⟨Try.prog, TT, [e_s_l2Same], [⟨4, [(5, .l (.d false (.int .i64)))], some (0, []), some [(4, .l (.d false .bool))], false⟩], [], [], [], []⟩
theorem k_s_l7SameList (x : PMs.den e_s_l7SameList.ps) : funK c_s_l7SameList Try.f47 e_s_l7SameList.ps e_s_l7SameList.rs x = e_s_l7SameList.F x := by kernel_rfl
theorem o_s_l7SameList : FnOk Try.prog e_s_l7SameList.f ∧ Ctr Try.prog e_s_l7SameList := mkCtr (C := c_s_l7SameList) m_ (⟨o_s_l2Same, trivial⟩) Try.func47 (by kernel_rfl) k_s_l7SameList
/-! loop.example/g00959/spec.IsPolygon -/
noncomputable def s_IsPolygon (x0 : List (List Int)) : Option (Bool) :=
(s_l1In (x0.length : Int) (3 : Int) (12 : Int)).bind fun v1 => cond (!v1)
 (some false)
 ((s_l7Flat x0).bind fun v2 => cond (!v2)
 (some false)
 ((s_HullOf x0).bind fun v3 => cond v3.2
 ((s_l7SameList v3.1 x0).bind fun v4 => some v4)
 (some false)))
noncomputable def e_s_IsPolygon : CallE := ⟨27, [.d false (.list (.list (.int .i64)))], [.l (.d false .bool)], fun x => s_IsPolygon x⟩
noncomputable def c_s_IsPolygon : Ctx := ⟨Try.prog, TT, [e_s_l1In, e_s_l7Flat, e_s_HullOf, e_s_l7SameList], [], [], [], [], []⟩
theorem k_s_IsPolygon (x : PMs.den e_s_IsPolygon.ps) : funK c_s_IsPolygon Try.f27 e_s_IsPolygon.ps e_s_IsPolygon.rs x = e_s_IsPolygon.F x := by kernel_rfl
theorem o_s_IsPolygon : FnOk Try.prog e_s_IsPolygon.f ∧ Ctr Try.prog e_s_IsPolygon := mkCtr (C := c_s_IsPolygon) m_ (⟨o_s_l1In, o_s_l7Flat, o_s_HullOf, o_s_l7SameList, trivial⟩) Try.func27 (by kernel_rfl) k_s_IsPolygon
/-! loop.example/g00959/spec.l5All -/
noncomputable def s_l5All_s10 (x2 : Int) (v1 : List (List Int) × Int) (v2 : List (List Int) × Int) (v3 : List (List Int) × Int) : Option ((List (List Int) × Int) ⊕ (List (List Int))) :=
 cond (decide (v3.2 ≤ x2))
 ((idx v1.1 v2.2).bind fun v4 => (appD 8 ([] : List Int) v4).bind fun v5 => (appD 8 v5 ([v3.2] : List Int)).bind fun v6 => (appD 24 v3.1 ([v6] : List (List Int))).bind fun v7 => some (.inl (v7, (IntKind.i64.wrap (v3.2 + (1 : Int))))))
 (some (.inr v3.1))
noncomputable def s_l5All_s7 (x1 : Int) (x2 : Int) (v1 : List (List Int) × Int) (v2 : List (List Int) × Int) : Option ((List (List Int) × Int) ⊕ (List (List Int))) :=
 cond (decide (v2.2 < (v1.1.length : Int)))
 ((iter (s_l5All_s10 x2 v1 v2) (v2.1, x1)).bind fun v8 => some (.inl (v8, (IntKind.i64.wrap (v2.2 + (1 : Int))))))
 (some (.inr v2.1))
noncomputable def s_l5All_s3 (x0 : Int) (x1 : Int) (x2 : Int) (v1 : List (List Int) × Int) : Option ((List (List Int) × Int) ⊕ (List (List Int))) :=
 cond (decide (v1.2 < x0))
 ((iter (s_l5All_s7 x1 x2 v1) (([] : List (List Int)), (0 : Int))).bind fun v9 => some (.inl (v9, (IntKind.i64.wrap (v1.2 + (1 : Int))))))
 (some (.inr v1.1))
noncomputable def s_l5All (x0 : Int) (x1 : Int) (x2 : Int) : Option (List (List Int)) :=
(iter (s_l5All_s3 x0 x1 x2) (([([] : List Int)] : List (List Int)), (0 : Int))).bind fun v10 => some v10
noncomputable def e_s_l5All : CallE := ⟨48, [.d false (.int .i64), .d false (.int .i64), .d false (.int .i64)], [.l (.o true 22 (.list (.int .i64)))], fun x => s_l5All x.1 x.2.1 x.2.2⟩
noncomputable def c_s_l5All : Ctx := ⟨Try.prog, TT, [], [⟨3, [(7, .l (.o true 22 (.list (.int .i64)))), (8, .l (.d false (.int .i64)))], some (0, [(7, .l (.o true 22 (.list (.int .i64))))]), none, false⟩, ⟨7, [(9, .l (.o true 22 (.list (.int .i64)))), (10, .l (.d false (.int .i64)))], some (2, [(9, .l (.o true 22 (.list (.int .i64))))]), none, false⟩, ⟨10, [(9, .l (.o true 22 (.list (.int .i64)))), (11, .l (.d false (.int .i64)))], some (4, [(9, .l (.o true 22 (.list (.int .i64))))]), none, false⟩], [], [], [], []⟩
theorem k_s_l5All (x : PMs.den e_s_l5All.ps) : funK c_s_l5All Try.f48 e_s_l5All.ps e_s_l5All.rs x = e_s_l5All.F x := by kernel_rfl
theorem o_s_l5All : FnOk Try.prog e_s_l5All.f ∧ Ctr Try.prog e_s_l5All := mkCtr (C := c_s_l5All) m_ (trivial) Try.func48 (by kernel_rfl) k_s_l5All
/-! loop.example/g00959/spec.l2Dot -/
noncomputable def s_l2Dot_s3 (x0 : List Int) (x1 : List Int) (v1 : Int × Int) : Option ((Int × Int) ⊕ (Int)) :=
 cond (decide (v1.2 < (x0.length : Int)))
 (cond (decide (v1.2 < (x1.length : Int)))
 ((idx x0 v1.2).bind fun v2 => (idx x1 v1.2).bind fun v3 => some (.inl ((IntKind.i64.wrap (v1.1 + (IntKind.i64.wrap (v2 * v3)))), (IntKind.i64.wrap (v1.2 + (1 : Int))))))
 (some (.inr v1.1)))
 (some (.inr v1.1))
noncomputable def s_l2Dot (x0 : List Int) (x1 : List Int) : Option (Int) :=
(iter (s_l2Dot_s3 x0 x1) ((0 : Int), (0 : Int))).bind fun v4 => some v4
noncomputable def e_s_l2Dot : CallE := ⟨66, [.d false (.list (.int .i64)), .d false (.list (.int .i64))], [.l (.d false (.int .i64))], fun x => s_l2Dot x.1 x.2⟩
noncomputable def c_s_l2Dot : Ctx := ⟨Try.prog, TT, [], [⟨3, [(5, .l (.d false (.int .i64))), (6, .l (.d false (.int .i64)))], some (0, [(5, .l (.d false (.int .i64)))]), none, false⟩], [], [], [], []⟩
theorem k_s_l2Dot (x : PMs.den e_s_l2Dot.ps) : funK c_s_l2Dot Try.f66 e_s_l2Dot.ps e_s_l2Dot.rs x = e_s_l2Dot.F x := by kernel_rfl
theorem o_s_l2Dot : FnOk Try.prog e_s_l2Dot.f ∧ Ctr Try.prog e_s_l2Dot := mkCtr (C := c_s_l2Dot) m_ (trivial) Try.func66 (by kernel_rfl) k_s_l2Dot
/-! loop.example/g00959/spec.l1Min -/
noncomputable def s_l1Min (x0 : Int) (x1 : Int) : Option (Int) :=
 cond (decide (x0 < x1))
 (some x0)
 (some x1)
noncomputable def e_s_l1Min : CallE := ⟨68, [.d false (.int .i64), .d false (.int .i64)], [.l (.d false (.int .i64))], fun x => s_l1Min x.1 x.2⟩
noncomputable def c_s_l1Min : Ctx := ⟨Try.prog, TT, [], [], [], [], [], []⟩
theorem k_s_l1Min (x : PMs.den e_s_l1Min.ps) : funK c_s_l1Min Try.f68 e_s_l1Min.ps e_s_l1Min.rs x = e_s_l1Min.F x := by kernel_rfl
theorem o_s_l1Min : FnOk Try.prog e_s_l1Min.f ∧ Ctr Try.prog e_s_l1Min := mkCtr (C := c_s_l1Min) m_ (trivial) Try.func68 (by kernel_rfl) k_s_l1Min
/-! loop.example/g00959/spec.l25Range -/
noncomputable def s_l25Range_s4 (x0 : List (List Int)) (x1 : List Int) (v3 : Int × Int × Int) : Option ((Int × Int × Int) ⊕ (Int × Int)) :=
 cond (decide (v3.2.2 < (x0.length : Int)))
 ((idx x0 v3.2.2).bind fun v4 => (s_l2Dot x1 v4).bind fun v5 => (s_l1Max v3.1 v5).bind fun v6 => (s_l1Min v3.2.1 v5).bind fun v7 => some (.inl (v6, (v7, (IntKind.i64.wrap (v3.2.2 + (1 : Int)))))))
 (some (.inr (v3.1, v3.2.1)))
noncomputable def s_l25Range (x0 : List (List Int)) (x1 : List Int) : Option (Int × Int) :=
(idx x0 (0 : Int)).bind fun v1 => (s_l2Dot x1 v1).bind fun v2 => (iter (s_l25Range_s4 x0 x1) (v2, (v2, (1 : Int)))).bind fun v8 => some (v8.1, v8.2)
noncomputable def e_s_l25Range : CallE := ⟨49, [.d false (.list (.list (.int .i64))), .d false (.list (.int .i64))], [.l (.d false (.int .i64)), .l (.d false (.int .i64))], fun x => s_l25Range x.1 x.2⟩
noncomputable def c_s_l25Range : Ctx := ⟨Try.prog, TT, [e_s_l2Dot, e_s_l1Max, e_s_l1Min], [⟨4, [(6, .l (.d false (.int .i64))), (7, .l (.d false (.int .i64))), (8, .l (.d false (.int .i64)))], some (0, [(6, .l (.d false (.int .i64))), (7, .l (.d false (.int .i64)))]), none, false⟩], [], [], [], []⟩
theorem k_s_l25Range (x : PMs.den e_s_l25Range.ps) : funK c_s_l25Range Try.f49 e_s_l25Range.ps e_s_l25Range.rs x = e_s_l25Range.F x := by kernel_rfl
theorem o_s_l25Range : FnOk Try.prog e_s_l25Range.f ∧ Ctr Try.prog e_s_l25Range := mkCtr (C := c_s_l25Range) m_ (⟨o_s_l2Dot, o_s_l1Max, o_s_l1Min, trivial⟩) Try.func49 (by kernel_rfl) k_s_l25Range
/-! loop.example/g00959/spec.l25Best -/
noncomputable def s_l25Best_s5 (x0 : List (List Int)) (v1 : List (List Int)) (v2 : Int × List (List Int) × Int) : Option ((Int × List (List Int) × Int) ⊕ (Int × List (List Int))) :=
 cond (decide (v2.2.2 < (v1.length : Int)))
 ((idx v1 v2.2.2).bind fun v3 => (idx v3 (0 : Int)).bind fun v4 => cond (decide (v4 < (0 : Int)))
 (some (.inl (v2.1, (v2.2.1, (IntKind.i64.wrap (v2.2.2 + (1 : Int)))))))
 ((idx v3 (0 : Int)).bind fun v5 => cond (v5 == (0 : Int))
 ((idx v3 (1 : Int)).bind fun v6 => cond (decide (v6 ≤ (0 : Int)))
 (some (.inl (v2.1, (v2.2.1, (IntKind.i64.wrap (v2.2.2 + (1 : Int)))))))
 ((s_l25Range x0 v3).bind fun v7 => cond (decide (v2.1 < (0 : Int)))
 (cond ((IntKind.i64.wrap (v7.1 - v7.2)) == (IntKind.i64.wrap (v7.1 - v7.2)))
 ((appD 24 ([] : List (List Int)) ([v3] : List (List Int))).bind fun v8 => some (.inl ((IntKind.i64.wrap (v7.1 - v7.2)), (v8, (IntKind.i64.wrap (v2.2.2 + (1 : Int)))))))
 (some (.inl ((IntKind.i64.wrap (v7.1 - v7.2)), (([] : List (List Int)), (IntKind.i64.wrap (v2.2.2 + (1 : Int))))))))
 (cond (decide ((IntKind.i64.wrap (v7.1 - v7.2)) < v2.1))
 (cond ((IntKind.i64.wrap (v7.1 - v7.2)) == (IntKind.i64.wrap (v7.1 - v7.2)))
 ((appD 24 ([] : List (List Int)) ([v3] : List (List Int))).bind fun v9 => some (.inl ((IntKind.i64.wrap (v7.1 - v7.2)), (v9, (IntKind.i64.wrap (v2.2.2 + (1 : Int)))))))
 (some (.inl ((IntKind.i64.wrap (v7.1 - v7.2)), (([] : List (List Int)), (IntKind.i64.wrap (v2.2.2 + (1 : Int))))))))
 (cond ((IntKind.i64.wrap (v7.1 - v7.2)) == v2.1)
 ((appD 24 v2.2.1 ([v3] : List (List Int))).bind fun v10 => some (.inl (v2.1, (v10, (IntKind.i64.wrap (v2.2.2 + (1 : Int)))))))
 (some (.inl (v2.1, (v2.2.1, (IntKind.i64.wrap (v2.2.2 + (1 : Int)))))))))))
 ((s_l25Range x0 v3).bind fun v11 => cond (decide (v2.1 < (0 : Int)))
 (cond ((IntKind.i64.wrap (v11.1 - v11.2)) == (IntKind.i64.wrap (v11.1 - v11.2)))
 ((appD 24 ([] : List (List Int)) ([v3] : List (List Int))).bind fun v12 => some (.inl ((IntKind.i64.wrap (v11.1 - v11.2)), (v12, (IntKind.i64.wrap (v2.2.2 + (1 : Int)))))))
 (some (.inl ((IntKind.i64.wrap (v11.1 - v11.2)), (([] : List (List Int)), (IntKind.i64.wrap (v2.2.2 + (1 : Int))))))))
 (cond (decide ((IntKind.i64.wrap (v11.1 - v11.2)) < v2.1))
 (cond ((IntKind.i64.wrap (v11.1 - v11.2)) == (IntKind.i64.wrap (v11.1 - v11.2)))
 ((appD 24 ([] : List (List Int)) ([v3] : List (List Int))).bind fun v13 => some (.inl ((IntKind.i64.wrap (v11.1 - v11.2)), (v13, (IntKind.i64.wrap (v2.2.2 + (1 : Int)))))))
 (some (.inl ((IntKind.i64.wrap (v11.1 - v11.2)), (([] : List (List Int)), (IntKind.i64.wrap (v2.2.2 + (1 : Int))))))))
 (cond ((IntKind.i64.wrap (v11.1 - v11.2)) == v2.1)
 ((appD 24 v2.2.1 ([v3] : List (List Int))).bind fun v14 => some (.inl (v2.1, (v14, (IntKind.i64.wrap (v2.2.2 + (1 : Int)))))))
 (some (.inl (v2.1, (v2.2.1, (IntKind.i64.wrap (v2.2.2 + (1 : Int))))))))))))
 (some (.inr (v2.1, v2.2.1)))
noncomputable def s_l25Best (x0 : List (List Int)) : Option (Int × List (List Int)) :=
(s_l5All (2 : Int) (-12 : Int) (12 : Int)).bind fun v1 => (iter (s_l25Best_s5 x0 v1) ((-1 : Int), (([] : List (List Int)), (0 : Int)))).bind fun v15 => some (v15.1, v15.2)
noncomputable def e_s_l25Best : CallE := ⟨28, [.d false (.list (.list (.int .i64)))], [.l (.d false (.int .i64)), .l (.o false 22 (.list (.int .i64)))], fun x => s_l25Best x⟩
noncomputable def c_s_l25Best : Ctx := ⟨Try.prog, TT, [e_s_l5All, e_s_l25Range], [⟨5, [(4, .l (.d false (.int .i64))), (5, .l (.o false 22 (.list (.int .i64)))), (7, .l (.d false (.int .i64)))], some (0, [(4, .l (.d false (.int .i64))), (5, .l (.o false 22 (.list (.int .i64))))]), none, false⟩], [], [], [], []⟩
theorem k_s_l25Best (x : PMs.den e_s_l25Best.ps) : funK c_s_l25Best Try.f28 e_s_l25Best.ps e_s_l25Best.rs x = e_s_l25Best.F x := by kernel_rfl
theorem o_s_l25Best : FnOk Try.prog e_s_l25Best.f ∧ Ctr Try.prog e_s_l25Best := mkCtr (C := c_s_l25Best) m_ (⟨o_s_l5All, o_s_l25Range, trivial⟩) Try.func28 (by kernel_rfl) k_s_l25Best
/-! loop.example/g00959/spec.BestDirections -/
noncomputable def s_BestDirections (x0 : List (List Int)) : Option (List (List Int)) :=
(s_IsPolygon x0).bind fun v1 => cond (!v1)
 (some ([] : List (List Int)))
 ((s_l25Best x0).bind fun v2 => some v2.2)
noncomputable def e_s_BestDirections : CallE := ⟨15, [.d false (.list (.list (.int .i64)))], [.l (.o false 22 (.list (.int .i64)))], fun x => s_BestDirections x⟩
noncomputable def c_s_BestDirections : Ctx := ⟨Try.prog, TT, [e_s_IsPolygon, e_s_l25Best], [], [], [], [], []⟩
theorem k_s_BestDirections (x : PMs.den e_s_BestDirections.ps) : funK c_s_BestDirections Try.f15 e_s_BestDirections.ps e_s_BestDirections.rs x = e_s_BestDirections.F x := by kernel_rfl
theorem o_s_BestDirections : FnOk Try.prog e_s_BestDirections.f ∧ Ctr Try.prog e_s_BestDirections := mkCtr (C := c_s_BestDirections) m_ (⟨o_s_IsPolygon, o_s_l25Best, trivial⟩) Try.func15 (by kernel_rfl) k_s_BestDirections
/-! loop.example/g00959/impl.lattice -/
noncomputable def i_lattice_s10 (x1 : List Int) (v1 : List (List Int) × Int) (v3 : List Int) (v5 : List (List Int) × Int) : Option ((List (List Int) × Int) ⊕ (List (List Int))) :=
(idx x1 v1.2).bind fun v6 => cond (decide (v5.2 ≤ v6))
 ((i_copyInts v3).bind fun v7 => (appD 8 v7 ([v5.2] : List Int)).bind fun v8 => (appD 24 v5.1 ([v8] : List (List Int))).bind fun v9 => some (.inl (v9, (IntKind.i64.wrap (v5.2 + (1 : Int))))))
 (some (.inr v5.1))
noncomputable def i_lattice_s7 (x0 : List Int) (x1 : List Int) (v1 : List (List Int) × Int) (v2 : List (List Int) × Int) : Option ((List (List Int) × Int) ⊕ (List (List Int))) :=
 cond (decide (v2.2 < (v1.1.length : Int)))
 ((idx v1.1 v2.2).bind fun v3 => (idx x0 v1.2).bind fun v4 => (iter (i_lattice_s10 x1 v1 v3) (v2.1, v4)).bind fun v10 => some (.inl (v10, (IntKind.i64.wrap (v2.2 + (1 : Int))))))
 (some (.inr v2.1))
noncomputable def i_lattice_s3 (x0 : List Int) (x1 : List Int) (v1 : List (List Int) × Int) : Option ((List (List Int) × Int) ⊕ (List (List Int))) :=
 cond (decide (v1.2 < (x0.length : Int)))
 ((iter (i_lattice_s7 x0 x1 v1) (([] : List (List Int)), (0 : Int))).bind fun v11 => some (.inl (v11, (IntKind.i64.wrap (v1.2 + (1 : Int))))))
 (some (.inr v1.1))
noncomputable def i_lattice (x0 : List Int) (x1 : List Int) : Option (List (List Int)) :=
(iter (i_lattice_s3 x0 x1) (([([] : List Int)] : List (List Int)), (0 : Int))).bind fun v12 => some v12
noncomputable def e_i_lattice : CallE := ⟨50, [.d false (.list (.int .i64)), .d false (.list (.int .i64))], [.l (.o true 22 (.list (.int .i64)))], fun x => i_lattice x.1 x.2⟩
noncomputable def c_i_lattice : Ctx := ⟨Try.prog, TT, [e_i_copyInts], [⟨3, [(5, .l (.o true 22 (.list (.int .i64)))), (14, .l (.d false (.int .i64)))], some (0, [(5, .l (.o true 22 (.list (.int .i64))))]), none, false⟩, ⟨7, [(7, .l (.o true 22 (.list (.int .i64)))), (19, .l (.d false (.int .i64)))], some (2, [(7, .l (.o true 22 (.list (.int .i64))))]), none, false⟩, ⟨10, [(7, .l (.o true 22 (.list (.int .i64)))), (10, .l (.d false (.int .i64)))], some (4, [(7, .l (.o true 22 (.list (.int .i64))))]), none, false⟩], [], [], [], []⟩
theorem k_i_lattice (x : PMs.den e_i_lattice.ps) : funK c_i_lattice Try.f50 e_i_lattice.ps e_i_lattice.rs x = e_i_lattice.F x := by kernel_rfl
theorem o_i_lattice : FnOk Try.prog e_i_lattice.f ∧ Ctr Try.prog e_i_lattice := mkCtr (C := c_i_lattice) m_ (⟨o_i_copyInts, trivial⟩) Try.func50 (by kernel_rfl) k_i_lattice
/-! loop.example/g00959/impl.directions -/
noncomputable def i_directions_s3 (v1 : List (List Int)) (s : Int × List Nat) : Option ((Int × List Nat) ⊕ List Nat) :=
 cond (decide (s.1 < (v1.length : Int))) ((inIdx v1.length s.1).bind fun _ => if s.1.toNat < v1.length then (v1[s.1.toNat]?).bind fun q => (idx q 0).bind fun x => cond (decide (x > 0)) ((appD 24 s.2 [s.1.toNat]).bind fun v6 => some (.inl (IntKind.i64.wrap (s.1 + 1), v6)))
 ((v1[s.1.toNat]?).bind fun q => (idx q 1).bind fun x => cond (decide (x > 0)) ((appD 24 s.2 [s.1.toNat]).bind fun v6 => some (.inl (IntKind.i64.wrap (s.1 + 1), v6))) (some (.inl (IntKind.i64.wrap (s.1 + 1), s.2)))) else none) (some (.inr s.2))
noncomputable def i_directions : Option (List (List Int)) :=
(i_lattice ([(0 : Int), (-12 : Int)] : List Int) ([(12 : Int), (12 : Int)] : List Int)).bind fun v1 => (iter (i_directions_s3 v1) (0, [])).bind fun v7 => if v7.Nodup then some (pickU v1 v7) else none
noncomputable def e_i_directions : CallE := ⟨30, [], [.l (.o true 22 (.list (.int .i64)))], fun x => i_directions⟩
noncomputable def c_i_directions : Ctx := ⟨Try.prog, TT, [e_i_lattice], [], [], [], [], []⟩
theorem k_i_directions (x : PMs.den e_i_directions.ps) : funU c_i_directions [⟨3, 0, 8⟩] 22 1 6 3 Try.f30 e_i_directions.ps x = e_i_directions.F x := by kernel_rfl
theorem o_i_directions : FnOk Try.prog e_i_directions.f ∧ Ctr Try.prog e_i_directions := mkCtrU (C := c_i_directions) 0 m_ (⟨o_i_lattice, trivial⟩) Try.func30 (by kernel_rfl) (by kernel_rfl) rfl k_i_directions
/-! loop.example/g00959/impl.minus -/
noncomputable def i_minus (x0 : List Int) (x1 : List Int) : Option (List Int) :=
(idx x0 (0 : Int)).bind fun v1 => (idx x1 (0 : Int)).bind fun v2 => (idx x0 (1 : Int)).bind fun v3 => (idx x1 (1 : Int)).bind fun v4 => some ([(IntKind.i64.wrap (v1 - v2)), (IntKind.i64.wrap (v3 - v4))] : List Int)
noncomputable def e_i_minus : CallE := ⟨78, [.d false (.list (.int .i64)), .d false (.list (.int .i64))], [.l (.o true 3 (.int .i64))], fun x => i_minus x.1 x.2⟩
noncomputable def c_i_minus : Ctx := ⟨Try.prog, TT, [], [], [], [], [], []⟩
theorem k_i_minus (x : PMs.den e_i_minus.ps) : funK c_i_minus Try.f78 e_i_minus.ps e_i_minus.rs x = e_i_minus.F x := by kernel_rfl
theorem o_i_minus : FnOk Try.prog e_i_minus.f ∧ Ctr Try.prog e_i_minus := mkCtr (C := c_i_minus) m_ (trivial) Try.func78 (by kernel_rfl) k_i_minus
/-! loop.example/g00959/impl.turn -/
noncomputable def i_turn (x0 : List Int) (x1 : List Int) (x2 : List Int) : Option (Int) :=
(i_minus x1 x0).bind fun v1 => (i_minus x2 x0).bind fun v2 => (i_cross v1 v2).bind fun v3 => some v3
noncomputable def e_i_turn : CallE := ⟨70, [.d false (.list (.int .i64)), .d false (.list (.int .i64)), .d false (.list (.int .i64))], [.l (.d false (.int .i64))], fun x => i_turn x.1 x.2.1 x.2.2⟩
noncomputable def c_i_turn : Ctx := ⟨Try.prog, TT, [e_i_minus, e_i_cross], [], [], [], [], []⟩
theorem k_i_turn (x : PMs.den e_i_turn.ps) : funK c_i_turn Try.f70 e_i_turn.ps e_i_turn.rs x = e_i_turn.F x := by kernel_rfl
theorem o_i_turn : FnOk Try.prog e_i_turn.f ∧ Ctr Try.prog e_i_turn := mkCtr (C := c_i_turn) m_ (⟨o_i_minus, o_i_cross, trivial⟩) Try.func70 (by kernel_rfl) k_i_turn
/-! cmp.isNaN[int] -/
noncomputable def g_cmp_isNaN (x0 : Int) : Option (Bool) :=
 some (x0 != x0)
noncomputable def e_g_cmp_isNaN : CallE := ⟨82, [.d false (.int .i64)], [.l (.d false .bool)], fun x => g_cmp_isNaN x⟩
noncomputable def c_g_cmp_isNaN : Ctx := ⟨Try.prog, TT, [], [], [], [], [], []⟩
theorem k_g_cmp_isNaN (x : PMs.den e_g_cmp_isNaN.ps) : funK c_g_cmp_isNaN Try.f82 e_g_cmp_isNaN.ps e_g_cmp_isNaN.rs x = e_g_cmp_isNaN.F x := by kernel_rfl
theorem o_g_cmp_isNaN : FnOk Try.prog e_g_cmp_isNaN.f ∧ Ctr Try.prog e_g_cmp_isNaN := mkCtr (C := c_g_cmp_isNaN) m_ (trivial) Try.func82 (by kernel_rfl) k_g_cmp_isNaN
/-! cmp.Compare[int] -/
noncomputable def g_cmp_Compare (x0 : Int) (x1 : Int) : Option (Int) :=
(g_cmp_isNaN x0).bind fun v1 => (g_cmp_isNaN x1).bind fun v2 => cond v1
 (cond v2
 (some (0 : Int))
 (some (-1 : Int)))
 (cond v2
 (some (1 : Int))
 (cond (decide (x0 < x1))
 (some (-1 : Int))
 (cond (decide (x0 > x1))
 (some (1 : Int))
 (some (0 : Int)))))
noncomputable def e_g_cmp_Compare : CallE := ⟨79, [.d false (.int .i64), .d false (.int .i64)], [.l (.d false (.int .i64))], fun x => g_cmp_Compare x.1 x.2⟩
noncomputable def c_g_cmp_Compare : Ctx := ⟨Try.prog, TT, [e_g_cmp_isNaN], [], [], [], [], []⟩
theorem k_g_cmp_Compare (x : PMs.den e_g_cmp_Compare.ps) : funK c_g_cmp_Compare Try.f79 e_g_cmp_Compare.ps e_g_cmp_Compare.rs x = e_g_cmp_Compare.F x := by kernel_rfl
theorem o_g_cmp_Compare : FnOk Try.prog e_g_cmp_Compare.f ∧ Ctr Try.prog e_g_cmp_Compare := mkCtr (C := c_g_cmp_Compare) m_ (⟨o_g_cmp_isNaN, trivial⟩) Try.func79 (by kernel_rfl) k_g_cmp_Compare
/-! slices.Compare[[]int,int] -/
noncomputable def g_slices_Compare_s2 (x0 : List Int) (x1 : List Int) (v1 : Int) : Option ((Int) ⊕ ((Unit) ⊕ (Int))) :=
 cond (decide (v1 < (x0.length : Int)))
 ((idx x0 v1).bind fun v2 => cond (decide (v1 ≥ (x1.length : Int)))
 (some (.inr (.inr (1 : Int))))
 ((idx x1 v1).bind fun v3 => (g_cmp_Compare v2 v3).bind fun v4 => cond (v4 != (0 : Int))
 (some (.inr (.inr v4)))
 (some (.inl (IntKind.i64.wrap (v1 + (1 : Int)))))))
 (some (.inr (.inl ())))
noncomputable def g_slices_Compare (x0 : List Int) (x1 : List Int) : Option (Int) :=
(iter (g_slices_Compare_s2 x0 x1) (0 : Int)).bind fun v5 => match v5 with
 | .inl v6 => (cond (decide ((x0.length : Int) < (x1.length : Int)))
 (some (-1 : Int))
 (some (0 : Int)))
 | .inr v7 => (some v7)
noncomputable def e_g_slices_Compare : CallE := ⟨71, [.d false (.list (.int .i64)), .d false (.list (.int .i64))], [.l (.d false (.int .i64))], fun x => g_slices_Compare x.1 x.2⟩
noncomputable def c_g_slices_Compare : Ctx := ⟨Try.prog, TT, [e_g_cmp_Compare], [⟨2, [(11, .l (.d false (.int .i64)))], some (0, []), some [(4, .l (.d false (.int .i64)))], false⟩], [], [], [], []⟩
theorem k_g_slices_Compare (x : PMs.den e_g_slices_Compare.ps) : funK c_g_slices_Compare Try.f71 e_g_slices_Compare.ps e_g_slices_Compare.rs x = e_g_slices_Compare.F x := by kernel_rfl
theorem o_g_slices_Compare : FnOk Try.prog e_g_slices_Compare.f ∧ Ctr Try.prog e_g_slices_Compare := mkCtr (C := c_g_slices_Compare) m_ (⟨o_g_cmp_Compare, trivial⟩) Try.func71 (by kernel_rfl) k_g_slices_Compare
/-! loop.example/g00959/impl.IsPolygon -/
noncomputable def i_IsPolygon_s4 (x0 : List (List Int)) (v2 : Int) : Option ((Int) ⊕ ((Unit) ⊕ (Bool))) :=
 cond (decide (v2 < (x0.length : Int)))
 ((idx x0 v2).bind fun v3 => (i_isPoint v3 (50 : Int)).bind fun v4 => cond (!v4)
 (some (.inr (.inr false)))
 (some (.inl (IntKind.i64.wrap (v2 + (1 : Int))))))
 (some (.inr (.inl ())))
noncomputable def i_IsPolygon_s11 (x0 : List (List Int)) (v8 : Int) : Option ((Int) ⊕ ((Unit) ⊕ (Bool))) :=
 cond (decide (v8 < (x0.length : Int)))
 ((idx x0 v8).bind fun v9 => (remI .i64 (IntKind.i64.wrap (v8 + (1 : Int))) (x0.length : Int)).bind fun v10 => (idx x0 v10).bind fun v11 => (remI .i64 (IntKind.i64.wrap (v8 + (2 : Int))) (x0.length : Int)).bind fun v12 => (idx x0 v12).bind fun v13 => (i_turn v9 v11 v13).bind fun v14 => cond (decide (v14 ≤ (0 : Int)))
 (some (.inr (.inr false)))
 (cond (decide (v8 > (0 : Int)))
 ((idx x0 (0 : Int)).bind fun v15 => (g_slices_Compare v15 v9).bind fun v16 => cond (decide (v16 ≥ (0 : Int)))
 (some (.inr (.inr false)))
 (cond (decide (v8 > (0 : Int)))
 (cond (decide (v8 < (IntKind.i64.wrap ((x0.length : Int) - (1 : Int)))))
 ((idx x0 (0 : Int)).bind fun v17 => (idx x0 (IntKind.i64.wrap (v8 + (1 : Int)))).bind fun v18 => (i_turn v17 v9 v18).bind fun v19 => cond (decide (v19 ≤ (0 : Int)))
 (some (.inr (.inr false)))
 (some (.inl (IntKind.i64.wrap (v8 + (1 : Int))))))
 (some (.inl (IntKind.i64.wrap (v8 + (1 : Int))))))
 (some (.inl (IntKind.i64.wrap (v8 + (1 : Int)))))))
 (cond (decide (v8 > (0 : Int)))
 (cond (decide (v8 < (IntKind.i64.wrap ((x0.length : Int) - (1 : Int)))))
 ((idx x0 (0 : Int)).bind fun v20 => (idx x0 (IntKind.i64.wrap (v8 + (1 : Int)))).bind fun v21 => (i_turn v20 v9 v21).bind fun v22 => cond (decide (v22 ≤ (0 : Int)))
 (some (.inr (.inr false)))
 (some (.inl (IntKind.i64.wrap (v8 + (1 : Int))))))
 (some (.inl (IntKind.i64.wrap (v8 + (1 : Int))))))
 (some (.inl (IntKind.i64.wrap (v8 + (1 : Int))))))))
 (some (.inr (.inl ())))
noncomputable def i_IsPolygon (x0 : List (List Int)) : Option (Bool) :=
(i_within (x0.length : Int) (3 : Int) (12 : Int)).bind fun v1 => cond (!v1)
 (some false)
 ((iter (i_IsPolygon_s4 x0) (0 : Int)).bind fun v5 => match v5 with
 | .inl v6 => ((iter (i_IsPolygon_s11 x0) (0 : Int)).bind fun v23 => match v23 with
 | .inl v24 => (some true)
 | .inr v25 => (some v25))
 | .inr v7 => (some v7))
noncomputable def e_i_IsPolygon : CallE := ⟨51, [.d false (.list (.list (.int .i64)))], [.l (.d false .bool)], fun x => i_IsPolygon x⟩
noncomputable def c_i_IsPolygon : Ctx := ⟨Try.prog, TT, [e_i_within, e_i_isPoint, e_i_turn, e_g_slices_Compare], [⟨4, [(14, .l (.d false (.int .i64)))], some (0, []), some [(2, .l (.d false .bool))], false⟩, ⟨11, [(26, .l (.d false (.int .i64)))], some (2, []), some [(2, .l (.d false .bool))], false⟩], [], [], [], []⟩
theorem k_i_IsPolygon (x : PMs.den e_i_IsPolygon.ps) : funK c_i_IsPolygon Try.f51 e_i_IsPolygon.ps e_i_IsPolygon.rs x = e_i_IsPolygon.F x := by kernel_rfl
theorem o_i_IsPolygon : FnOk Try.prog e_i_IsPolygon.f ∧ Ctr Try.prog e_i_IsPolygon := mkCtr (C := c_i_IsPolygon) m_ (⟨o_i_within, o_i_isPoint, o_i_turn, o_g_slices_Compare, trivial⟩) Try.func51 (by kernel_rfl) k_i_IsPolygon
/-! loop.example/g00959/impl.IsVector -/
noncomputable def i_IsVector (x0 : List Int) : Option (Bool) :=
(i_within (x0.length : Int) (1 : Int) (3 : Int)).bind fun v1 => cond v1
 ((i_allWithin x0 (-1000 : Int) (1000 : Int)).bind fun v2 => some v2)
 (some false)
noncomputable def e_i_IsVector : CallE := ⟨52, [.d false (.list (.int .i64))], [.l (.d false .bool)], fun x => i_IsVector x⟩
noncomputable def c_i_IsVector : Ctx := ⟨Try.prog, TT, [e_i_within, e_i_allWithin], [], [], [], [], []⟩
theorem k_i_IsVector (x : PMs.den e_i_IsVector.ps) : funK c_i_IsVector Try.f52 e_i_IsVector.ps e_i_IsVector.rs x = e_i_IsVector.F x := by kernel_rfl
theorem o_i_IsVector : FnOk Try.prog e_i_IsVector.f ∧ Ctr Try.prog e_i_IsVector := mkCtr (C := c_i_IsVector) m_ (⟨o_i_within, o_i_allWithin, trivial⟩) Try.func52 (by kernel_rfl) k_i_IsVector
/-! loop.example/g00959/impl.dot -/
noncomputable def i_dot_s3 (x0 : List Int) (x1 : List Int) (v1 : Int × Int) : Option ((Int × Int) ⊕ (Int)) :=
 cond (decide (v1.2 < (x0.length : Int)))
 ((idx x0 v1.2).bind fun v2 => (idx x1 v1.2).bind fun v3 => some (.inl ((IntKind.i64.wrap (v1.1 + (IntKind.i64.wrap (v2 * v3)))), (IntKind.i64.wrap (v1.2 + (1 : Int))))))
 (some (.inr v1.1))
noncomputable def i_dot (x0 : List Int) (x1 : List Int) : Option (Int) :=
(iter (i_dot_s3 x0 x1) ((0 : Int), (0 : Int))).bind fun v4 => some v4
noncomputable def e_i_dot : CallE := ⟨73, [.d false (.list (.int .i64)), .d false (.list (.int .i64))], [.l (.d false (.int .i64))], fun x => i_dot x.1 x.2⟩
noncomputable def c_i_dot : Ctx := ⟨Try.prog, TT, [], [⟨3, [(5, .l (.d false (.int .i64))), (9, .l (.d false (.int .i64)))], some (0, [(5, .l (.d false (.int .i64)))]), none, false⟩], [], [], [], []⟩
theorem k_i_dot (x : PMs.den e_i_dot.ps) : funK c_i_dot Try.f73 e_i_dot.ps e_i_dot.rs x = e_i_dot.F x := by kernel_rfl
theorem o_i_dot : FnOk Try.prog e_i_dot.f ∧ Ctr Try.prog e_i_dot := mkCtr (C := c_i_dot) m_ (trivial) Try.func73 (by kernel_rfl) k_i_dot
/-! loop.example/g00959/impl.support -/
noncomputable def i_support_s3 (x0 : List (List Int)) (x1 : List Int) (v3 : Int × Int) : Option ((Int × Int) ⊕ (Int)) :=
 cond (decide (v3.2 < (x0.length : Int)))
 ((idx x0 v3.2).bind fun v4 => (i_dot x1 v4).bind fun v5 => some (.inl ((if v5 > v3.1 then v5 else v3.1), (IntKind.i64.wrap (v3.2 + (1 : Int))))))
 (some (.inr v3.1))
noncomputable def i_support (x0 : List (List Int)) (x1 : List Int) : Option (Int) :=
(idx x0 (0 : Int)).bind fun v1 => (i_dot x1 v1).bind fun v2 => (iter (i_support_s3 x0 x1) (v2, (0 : Int))).bind fun v6 => some v6
noncomputable def e_i_support : CallE := ⟨53, [.d false (.list (.list (.int .i64))), .d false (.list (.int .i64))], [.l (.d false (.int .i64))], fun x => i_support x.1 x.2⟩
noncomputable def c_i_support : Ctx := ⟨Try.prog, TT, [e_i_dot], [⟨3, [(5, .l (.d false (.int .i64))), (15, .l (.d false (.int .i64)))], some (0, [(5, .l (.d false (.int .i64)))]), none, false⟩], [], [], [], []⟩
theorem k_i_support (x : PMs.den e_i_support.ps) : funK c_i_support Try.f53 e_i_support.ps e_i_support.rs x = e_i_support.F x := by kernel_rfl
theorem o_i_support : FnOk Try.prog e_i_support.f ∧ Ctr Try.prog e_i_support := mkCtr (C := c_i_support) m_ (⟨o_i_dot, trivial⟩) Try.func53 (by kernel_rfl) k_i_support
/-! loop.example/g00959/impl.WidthIn -/
noncomputable def i_WidthIn (x0 : List (List Int)) (x1 : List Int) : Option (Int) :=
(i_IsPolygon x0).bind fun v1 => cond (!v1)
 (some (-1 : Int))
 ((i_IsVector x1).bind fun v2 => cond (!v2)
 (some (-1 : Int))
 (cond ((x1.length : Int) != (2 : Int))
 (some (-1 : Int))
 ((i_support x0 x1).bind fun v3 => (idx x1 (0 : Int)).bind fun v4 => (idx x1 (1 : Int)).bind fun v5 => (i_support x0 ([(IntKind.i64.wrap (0 - v4)), (IntKind.i64.wrap (0 - v5))] : List Int)).bind fun v6 => some (IntKind.i64.wrap (v3 + v6)))))
noncomputable def e_i_WidthIn : CallE := ⟨31, [.d false (.list (.list (.int .i64))), .d false (.list (.int .i64))], [.l (.d false (.int .i64))], fun x => i_WidthIn x.1 x.2⟩
noncomputable def c_i_WidthIn : Ctx := ⟨Try.prog, TT, [e_i_IsPolygon, e_i_IsVector, e_i_support], [], [], [], [], []⟩
theorem k_i_WidthIn (x : PMs.den e_i_WidthIn.ps) : funK c_i_WidthIn Try.f31 e_i_WidthIn.ps e_i_WidthIn.rs x = e_i_WidthIn.F x := by kernel_rfl
theorem o_i_WidthIn : FnOk Try.prog e_i_WidthIn.f ∧ Ctr Try.prog e_i_WidthIn := mkCtr (C := c_i_WidthIn) m_ (⟨o_i_IsPolygon, o_i_IsVector, o_i_support, trivial⟩) Try.func31 (by kernel_rfl) k_i_WidthIn
/-! loop.example/g00959/impl.LeastWidth -/
noncomputable def i_LeastWidth_s3 (x0 : List (List Int)) (v1 : List (List Int)) (v2 : Int × Int) : Option ((Int × Int) ⊕ (Int)) :=
 cond (decide (v2.2 < (v1.length : Int)))
 ((idx v1 v2.2).bind fun v3 => (i_WidthIn x0 v3).bind fun v4 => cond (decide (v2.1 < (0 : Int)))
 (some (.inl (v4, (IntKind.i64.wrap (v2.2 + (1 : Int))))))
 (cond (decide (v4 < v2.1))
 (some (.inl (v4, (IntKind.i64.wrap (v2.2 + (1 : Int))))))
 (some (.inl (v2.1, (IntKind.i64.wrap (v2.2 + (1 : Int))))))))
 (some (.inr v2.1))
noncomputable def i_LeastWidth (x0 : List (List Int)) : Option (Int) :=
(i_directions).bind fun v1 => (iter (i_LeastWidth_s3 x0 v1) ((-1 : Int), (0 : Int))).bind fun v5 => some v5
noncomputable def e_i_LeastWidth : CallE := ⟨29, [.d false (.list (.list (.int .i64)))], [.l (.d false (.int .i64))], fun x => i_LeastWidth x⟩
noncomputable def c_i_LeastWidth : Ctx := ⟨Try.prog, TT, [e_i_directions, e_i_WidthIn], [⟨3, [(3, .l (.d false (.int .i64))), (9, .l (.d false (.int .i64)))], some (0, [(3, .l (.d false (.int .i64)))]), none, false⟩], [], [], [], []⟩
theorem k_i_LeastWidth (x : PMs.den e_i_LeastWidth.ps) : funK c_i_LeastWidth Try.f29 e_i_LeastWidth.ps e_i_LeastWidth.rs x = e_i_LeastWidth.F x := by kernel_rfl
theorem o_i_LeastWidth : FnOk Try.prog e_i_LeastWidth.f ∧ Ctr Try.prog e_i_LeastWidth := mkCtr (C := c_i_LeastWidth) m_ (⟨o_i_directions, o_i_WidthIn, trivial⟩) Try.func29 (by kernel_rfl) k_i_LeastWidth
/-! loop.example/g00959/impl.BestDirections -/
noncomputable def i_BestDirections_s6 (x0 : List (List Int)) (v1 : Int) (v2 : List (List Int)) (s : Int × List Nat) : Option ((Int × List Nat) ⊕ List Nat) :=
 cond (decide (s.1 < (v2.length : Int))) ((inIdx v2.length s.1).bind fun _ => if s.1.toNat < v2.length then ((((v2[s.1.toNat]?).bind fun q => some q).bind fun b => some (x0, b)).bind fun a => (i_WidthIn a.1 a.2).bind fun r => cond (r == v1) ((appD 24 s.2 [s.1.toNat]).bind fun v6 => some (.inl (IntKind.i64.wrap (s.1 + 1), v6))) (some (.inl (IntKind.i64.wrap (s.1 + 1), s.2)))) else none) (some (.inr s.2))
noncomputable def i_BestDirections (x0 : List (List Int)) : Option (List (List Int)) :=
(i_LeastWidth x0).bind fun v1 => cond (decide (v1 < (0 : Int))) (some ([] : List (List Int))) (i_directions.bind fun v2 => (iter (i_BestDirections_s6 x0 v1 v2) (0, [])).bind fun v7 => if v7.Nodup then some (pickU v2 v7) else none)
noncomputable def e_i_BestDirections : CallE := ⟨17, [.d false (.list (.list (.int .i64)))], [.l (.o true 22 (.list (.int .i64)))], fun x => i_BestDirections x⟩
noncomputable def c_i_BestDirections : Ctx := ⟨Try.prog, TT, [e_i_LeastWidth, e_i_directions, e_i_WidthIn], [], [], [], [], []⟩
theorem k_i_BestDirections (x : PMs.den e_i_BestDirections.ps) : funU c_i_BestDirections [⟨6, 0, 13⟩] 22 4 11 6 Try.f17 e_i_BestDirections.ps x = e_i_BestDirections.F x := by kernel_rfl
theorem o_i_BestDirections : FnOk Try.prog e_i_BestDirections.f ∧ Ctr Try.prog e_i_BestDirections := mkCtrU (C := c_i_BestDirections) 2 m_ (⟨o_i_LeastWidth, o_i_directions, o_i_WidthIn, trivial⟩) Try.func17 (by kernel_rfl) (by kernel_rfl) rfl k_i_BestDirections
end Go.Proofs.Ytidgakjdlamegaa
