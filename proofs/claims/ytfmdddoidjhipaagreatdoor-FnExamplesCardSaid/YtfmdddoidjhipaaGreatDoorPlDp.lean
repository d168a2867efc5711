/-
  Plain: polygons, described. No condition.
-/
import Derived.Test.YtfmdddoidjhipaaGreatDoorPlSt
import Derived.Test.YtfmdddoidjhipaaGreatDoorPlDu
import Derived.Test.YtfmdddoidjhipaaGreatDoorPlMi
namespace Go.Proofs.YtfmdddoidjhipaaGreatDoor
open Go Go.Proofs.YtfmdddoidjhipaaGreatDoor.Eng Hull
set_option linter.unusedVariables false
set_option linter.unusedSimpArgs false
theorem iterN_inv {S β:Type} {step:S→Option (S ⊕ β)} (J:S→Prop) (R:β→Prop) (h1:∀ s s',J s→step s = some (.inl s')→J s') (h2:∀ s y,J s→step s = some (.inr y)→R y):(n:Nat)→(s:S)→(y:β)→J s→iterN step n s = some y→R y
  | 0,s,y,_,h=>by simp [iterN] at h
  | n + 1,s,y,hs,h=>by
    unfold iterN at h
    split at h
    · cases h
    · rename_i s' hs'
      exact iterN_inv J R h1 h2 n s' y (h1 s s' hs hs') h
    · rename_i b hb
      obtain rfl:=Option.some.inj h
      exact h2 s _ hs hb
theorem iter_inv {S β:Type} {step:S→Option (S ⊕ β)} (J:S→Prop) (R:β→Prop) (h1:∀ s s',J s→step s = some (.inl s')→J s') (h2:∀ s y,J s→step s = some (.inr y)→R y) {s:S} {y:β} (hs:J s) (h:iter step s = some y):R y:=by
  unfold iter at h
  split at h
  · rename_i hx
    have:=hx.choose_spec.choose_spec
    obtain rfl:=Option.some.inj h
    exact iterN_inv J R h1 h2 _ s _ hs this
  · cases h
theorem cond_or {α:Type} {b:Bool} {x y z:α} (h:cond b x y = z):x = z∨y = z:=by cases b <;> simp_all
theorem I64_m1:I64 (-1):=by unfold I64; decide
theorem width_I64 {p:List (List Int)} {v:List Int} {r:Int} (h:i_WidthIn p v = some r):I64 r:=by
  unfold i_WidthIn at h
  obtain ⟨v1,_,h⟩:=Option.bind_eq_some_iff.1 h
  rcases cond_or h with h | h
  · obtain rfl:=Option.some.inj h; exact I64_m1
  obtain ⟨v2,_,h⟩:=Option.bind_eq_some_iff.1 h
  rcases cond_or h with h | h
  · obtain rfl:=Option.some.inj h; exact I64_m1
  rcases cond_or h with h | h
  · obtain rfl:=Option.some.inj h; exact I64_m1
  obtain ⟨v3,_,h⟩:=Option.bind_eq_some_iff.1 h
  obtain ⟨v4,_,h⟩:=Option.bind_eq_some_iff.1 h
  obtain ⟨v5,_,h⟩:=Option.bind_eq_some_iff.1 h
  obtain ⟨v6,_,h⟩:=Option.bind_eq_some_iff.1 h
  obtain rfl:=Option.some.inj h
  exact wrap_fits _
theorem least_I64 {p:List (List Int)} {r:Int} (h:i_LeastWidth p = some r):I64 r:=by
  unfold i_LeastWidth at h
  obtain ⟨v1,_,h⟩:=Option.bind_eq_some_iff.1 h
  obtain ⟨v5,h5,h⟩:=Option.bind_eq_some_iff.1 h
  obtain rfl:=Option.some.inj h
  refine iter_inv (fun s=>I64 s.1) I64 (fun s s' hs h=>?_) (fun s y hs h=>?_) I64_m1 h5
  · unfold i_LeastWidth_s3 at h
    rcases cond_or h with h | h
    · obtain ⟨v3,_,h⟩:=Option.bind_eq_some_iff.1 h
      obtain ⟨v4,h4,h⟩:=Option.bind_eq_some_iff.1 h
      rcases cond_or h with h | h
      · simp only [Option.some.injEq,Sum.inl.injEq] at h; subst h; exact width_I64 h4
      · rcases cond_or h with h | h
        · simp only [Option.some.injEq,Sum.inl.injEq] at h; subst h; exact width_I64 h4
        · simp only [Option.some.injEq,Sum.inl.injEq] at h; subst h; exact hs
    · simp at h
  · unfold i_LeastWidth_s3 at h
    rcases cond_or h with h | h
    · obtain ⟨v3,_,h⟩:=Option.bind_eq_some_iff.1 h
      obtain ⟨v4,h4,h⟩:=Option.bind_eq_some_iff.1 h
      rcases cond_or h with h | h
      · simp at h
      · rcases cond_or h with h | h <;> simp at h
    · simp only [Option.some.injEq,Sum.inr.injEq] at h; subst h; exact hs
def either:Int ⊕ Int→Prop
  | .inl a=>I64 a
  | .inr a=>I64 a
theorem smooth_I64 {p:List (List Int)} {r:Int} (h:i_SmoothCorners p = some r):I64 r:=by
  unfold i_SmoothCorners at h
  obtain ⟨v1,_,h⟩:=Option.bind_eq_some_iff.1 h
  rcases cond_or h with h | h
  · obtain rfl:=Option.some.inj h; exact I64_m1
  obtain ⟨v5,h5,h⟩:=Option.bind_eq_some_iff.1 h
  have key:either v5:=by
    refine iter_inv (fun s=>I64 s.1) either (fun s s' hs h=>?_) (fun s y hs h=>?_) (show I64 0 by unfold I64; decide) h5
    · unfold i_SmoothCorners_s5 at h
      rcases cond_or h with h | h
      · obtain ⟨v3,_,h⟩:=Option.bind_eq_some_iff.1 h
        rcases cond_or h with h | h
        · simp at h
        · obtain ⟨v4,_,h⟩:=Option.bind_eq_some_iff.1 h
          rcases cond_or h with h | h
          · simp only [Option.some.injEq,Sum.inl.injEq] at h; subst h; exact wrap_fits _
          · simp only [Option.some.injEq,Sum.inl.injEq] at h; subst h; exact hs
      · simp at h
    · unfold i_SmoothCorners_s5 at h
      rcases cond_or h with h | h
      · obtain ⟨v3,_,h⟩:=Option.bind_eq_some_iff.1 h
        rcases cond_or h with h | h
        · simp only [Option.some.injEq,Sum.inr.injEq] at h; subst h; exact I64_m1
        · obtain ⟨v4,_,h⟩:=Option.bind_eq_some_iff.1 h
          rcases cond_or h with h | h <;> simp at h
      · simp only [Option.some.injEq,Sum.inr.injEq] at h; subst h; exact hs
  cases v5 with
  | inl a=>simp only [Option.some.injEq] at h; subst h; exact key
  | inr a=>simp only [Option.some.injEq] at h; subst h; exact key
theorem tdiv2_bd (a:Int):(a.tdiv 2).natAbs≤a.natAbs:=by
  rw [Int.natAbs_tdiv]
  exact Nat.div_le_self _ _
theorem areaTwice_two {P:List Pt} (hB:∀ q∈P,Bd 50 q) (h12:P.length≤12) (hP:isPoly (P.map em) = true) :
    s_AreaTwice (P.map em) = some (sumN (cS P) P.length)∧i_AreaTwice (P.map em) = some (sumN (cS P) P.length):=by
  have hlim:(P.map em).length≤lim:=by rw [List.length_map,lim_eq]; omega
  have hel:∀ v∈P.map em,v.length≤lim:=fun v hv=>by
    obtain ⟨q,_,rfl⟩:=List.mem_map.1 hv
    simp [em,lim_eq]
  unfold s_AreaTwice i_AreaTwice
  rw [s_IsPolygon_eq hlim hel,i_IsPolygon_eq hlim hel,hP]
  simp only [Option.bind_some,Bool.not_true,cond_false,area_same,area_val hB h12,and_self]
theorem ehrhart_two {P:List Pt} (hB:∀ q∈P,Bd 50 q) (h12:P.length≤12) (hP:isPoly (P.map em) = true) :
    ∃ n,I64 n∧s_EhrhartAt (P.map em) 1 = some n∧i_EhrhartAt (P.map em) 1 = some n:=by
  have hlim:(P.map em).length≤lim:=by rw [List.length_map,lim_eq]; omega
  have hel:∀ v∈P.map em,v.length≤lim:=fun v hv=>by
    obtain ⟨q,_,rfl⟩:=List.mem_map.1 hv
    simp [em,lim_eq]
  have hs:=sumN_bd (cS P) 5000 P.length fun j hj=>cS_bd hB hj
  have hg:=sumN_bd (gS P) 5000 P.length fun j hj=>gS_bd hB hj
  obtain ⟨b1,b2⟩:=boundary_eq hB h12 hP
  obtain ⟨_,a2⟩:=areaTwice_two hB h12 hP
  have a1:=area_val hB h12
  unfold s_EhrhartAt i_EhrhartAt i_ehrhart
  rw [s_IsPolygon_eq hlim hel,i_IsPolygon_eq hlim hel,hP]
  have hin:s_l1In 1 (-1000) 1000 = some true:=rfl
  have hw:i_within 1 (-1000) 1000 = some true:=rfl
  simp only [Option.bind_some,Bool.not_true,cond_false,hin,hw,b1,b2,a1,a2]
  generalize sumN (cS P) P.length = A at *
  generalize sumN (gS P) P.length = B at *
  have e:quoI .i64 (IntKind.i64.wrap (IntKind.i64.wrap (2 + IntKind.i64.wrap (B * 1)) + IntKind.i64.wrap (IntKind.i64.wrap (A * 1) * 1))) 2 = some ((2 + B * 1 + A * 1 * 1).tdiv 2):=by
    rw [wrap_small (x:=B * 1) (by omega) (by omega),wrap_small (x:=A * 1) (by omega) (by omega),wrap_small (x:=A * 1 * 1) (by omega) (by omega),wrap_small (x:=2 + B * 1) (by omega) (by omega),wrap_small (by omega) (by omega)]
    exact quo_some (by omega) (by unfold Sm; omega)
  rw [e]
  refine ⟨_,?_,rfl,rfl⟩
  have:=tdiv2_bd (2 + B * 1 + A * 1 * 1)
  unfold I64
  omega
theorem describe_eq {p:List (List Int)} (hp:FitLL p):∃ s:List UInt8,s_DescribePolygon p = some (bs s)∧i_DescribePolygon p = some (bs s)∧(isPoly p = false→s = [])∧(isPoly p = true→s≠[]):=by
  have hlit:∀ l:List UInt8,(⟨l.toArray⟩:ByteArray) = bs l:=fun _=>rfl
  unfold s_DescribePolygon i_DescribePolygon
  rw [s_IsPolygon_eq hp.lim hp.eachLim,i_IsPolygon_eq hp.lim hp.eachLim]
  simp only [Option.bind_some]
  cases h1:isPoly p with
  | false=>exact ⟨[],rfl,rfl,fun _=>rfl,fun h=>by cases h⟩
  | true =>
    obtain ⟨P,rfl,hB,g3,g12,hpol⟩:=poly_of h1
    have hs:=sumN_bd (cS P) 5000 P.length fun j hj=>cS_bd hB hj
    have hg:=sumN_bd (gS P) 5000 P.length fun j hj=>gS_bd hB hj
    obtain ⟨a1,a2⟩:=areaTwice_two hB g12 h1
    obtain ⟨b1,b2⟩:=boundary_eq hB g12 h1
    obtain ⟨c1,c2⟩:=inner_eq hB g12 h1
    obtain ⟨n,hn,e1,e2⟩:=ehrhart_two hB g12 h1
    obtain ⟨lw,w1,w2⟩:=leastWidth_eq hp
    obtain ⟨sc,s1,s2⟩:=smooth_eq hp
    obtain ⟨rf,r1,r2,_⟩:=reflex_eq hp
    obtain ⟨sy,y1,y2⟩:=sym_eq hp
    have hlw:=least_I64 w2
    have hsc:=smooth_I64 s2
    have hin:I64 ((sumN (cS P) P.length - sumN (gS P) P.length + 2).tdiv 2):=by
      have:=tdiv2_bd (sumN (cS P) P.length - sumN (gS P) P.length + 2)
      unfold I64
      omega
    have hA:I64 (sumN (cS P) P.length):=by unfold I64; omega
    have hG:I64 (sumN (gS P) P.length):=by unfold I64; omega
    generalize (sumN (cS P) P.length - sumN (gS P) P.length + 2).tdiv 2 = I at *
    generalize sumN (cS P) P.length = A at *
    generalize sumN (gS P) P.length = B at *
    have t1:s_SeriesTop (P.map em) = some [1,IntKind.i64.wrap (n - 3),I]∧i_SeriesTop (P.map em) = some [1,IntKind.i64.wrap (n - 3),I]:=by
      unfold s_SeriesTop i_SeriesTop
      rw [s_IsPolygon_eq hp.lim hp.eachLim,i_IsPolygon_eq hp.lim hp.eachLim,h1]
      simp only [Option.bind_some,Bool.not_true,cond_false,e1,e2,c1,c2,and_self]
    have ht:∀ x∈([1,IntKind.i64.wrap (n - 3),I]:List Int),I64 x:=fun x hx=>by
      simp only [List.mem_cons,List.not_mem_nil,or_false] at hx
      rcases hx with rfl | rfl | rfl
      · unfold I64; decide
      · exact wrap_fits _
      · exact hin
    obtain ⟨u1,u2⟩:=texts_eq (v:=[1,IntKind.i64.wrap (n - 3),I]) (by simp) ht
    have hT:(numsT [1,IntKind.i64.wrap (n - 3),I]).length≤1000:=by
      have:=join_bd (sep:=[44]) (nums_bd ht)
      rw [joinT_eq] at this
      unfold numsT
      simp at this ⊢
      omega
    have f1:∀ {x:Int},I64 x→s_FormatInt x = some (bs (Lib.itoa x)):=fun h=>s_FormatInt_eq h.1 h.2
    have f2:∀ {x:Int},I64 x→i_FormatInt x = some (bs (Lib.itoa x)):=fun h=>i_FormatInt_eq h.1 h.2
    have l1:=itoa_len30 hA.1 hA.2
    have l2:=itoa_len30 hG.1 hG.2
    have l3:=itoa_len30 hin.1 hin.2
    have l4:=itoa_len30 hn.1 hn.2
    have l5:=itoa_len30 hlw.1 hlw.2
    have l6:=itoa_len30 hsc.1 hsc.2
    simp only [Bool.not_true,cond_false,a1,a2,b1,b2,c1,c2,e1,e2,w1,w2,s1,s2,r1,r2,y1,y2,t1.1,t1.2,u1,u2,f1 hA,f1 hG,f1 hin,f1 hn,f1 hlw,f1 hsc,f2 hA,f2 hG,f2 hin,f2 hn,f2 hlw,f2 hsc,Option.bind_some,hlit]
    generalize numsT [1,IntKind.i64.wrap (n - 3),I] = T at *
    generalize Lib.itoa A = LA at *
    generalize Lib.itoa B = LB at *
    generalize Lib.itoa I = LI at *
    generalize Lib.itoa n = LN at *
    generalize Lib.itoa lw = LW at *
    generalize Lib.itoa sc = LS at *
    simp (disch:=(simp only [List.length_append,List.length_cons,List.length_nil]; omega)) only [catS_bs,Option.bind_some]
    cases rf <;> cases sy <;> simp only [cond_true,cond_false] <;> refine ⟨_,rfl,?_,fun h=>(by cases h),fun _=>(by simp)⟩ <;> simp only [← List.append_assoc]
end Go.Proofs.YtfmdddoidjhipaaGreatDoor
