/-
  What the package-level variables give; strconv.Atoi as the program uses it. No condition.
-/
import Derived.Test.YtfmdddoidjhipaaGreatDoorLay
import Derived.Lib.LaidU8
import Derived.WalkKit
import Derived.BigCall
namespace Go.Proofs.YtfmdddoidjhipaaGreatDoor
open Go Go.Shelf Go.RowKit Go.Proofs.YtfmdddoidjhipaaGreatDoor.Eng
set_option linter.unusedVariables false
theorem g_pow10:Tryz.prog.globalNamed "internal/strconv.uint64pow10" = some 0:=by kernel_rfl
theorem gl_pow10:∀ w,Gl w→Lib.TabIs Tryz.prog w "internal/strconv.uint64pow10" .u64 Lib.pow10Tab:=fun w h=>by
  obtain ⟨o,h1,t,fr,rfl⟩:=h.2 (0,fun o=>∃ t fr,o = .cells (Lib.pow10Tab.map fun z=>Value.int .u64 z).toArray t fr) (by unfold glT; simp)
  unfold Lib.TabIs World.var?
  rw [g_pow10]
  simp only [Option.bind_some,h1]
theorem gl_maxLen:∀ w,Gl w→∃ m,w.cell? ⟨laySplit_ren.g 1,0,none⟩ = some (.int .i64 m):=fun w h=>by
  obtain ⟨o,h1,m,cs,t,fr,rfl,h2⟩:=h.2 (1,fun o=>∃ m cs t fr,o = .cells cs t fr∧cs[0]? = some (.int .i64 m)) (by unfold glT; simp)
  have hg:laySplit_ren.g 1 = 1:=by decide
  refine ⟨m,?_⟩
  rw [hg]
  simp [World.cell?,h1,h2]
theorem gl_errS:∀ w,Gl w→∃ te pe,w.cell? ⟨layAtoi_ren.g 15,0,none⟩ = some (.iface te pe):=fun w h=>by
  obtain ⟨o,h1,te,pe,cs,t,fr,rfl,h2⟩:=h.2 (2,fun o=>∃ te pe cs t fr,o = .cells cs t fr∧cs[0]? = some (.iface te pe)) (by unfold glT; simp)
  have hg:layAtoi_ren.g 15 = 2:=by decide
  refine ⟨te,pe,?_⟩
  rw [hg]
  simp [World.cell?,h1,h2]
theorem gl_errR:∀ w,Gl w→∃ te pe,w.cell? ⟨layAtoi_ren.g 16,0,none⟩ = some (.iface te pe):=fun w h=>by
  obtain ⟨o,h1,te,pe,cs,t,fr,rfl,h2⟩:=h.2 (3,fun o=>∃ te pe cs t fr,o = .cells cs t fr∧cs[0]? = some (.iface te pe)) (by unfold glT; simp)
  have hg:layAtoi_ren.g 16 = 3:=by decide
  refine ⟨te,pe,?_⟩
  rw [hg]
  simp [World.cell?,h1,h2]
def parseR (s:ByteArray):Int × Bool :=
  match Lib.atoiAll s.data.toList with
  | .ok n=>if (Lib.itoa n == s.toList) && decide (-999999999999≤n) && decide (n≤999999999999) then (n,true) else (0,false)
  | _=>(0,false)
def parseIntF (s:ByteArray):Option (Int × Bool):=if s.size≤281474976710656 then some (parseR s) else none
theorem atoi_ok {s:ByteArray} {v:Int} (hl:s.size≤281474976710656) (h:Lib.atoiAll s.data.toList = .ok v) (w:World) :
    Calls Tryz.prog 161 #[.string s] w fun e w'=>e = .returned (.tuple #[.int .i64 v,.nilIface])∧Below w.heap.size w w':=by
  refine (Any.strconv_Atoi_ok layAtoi s (by omega) v h w).mono fun e w' ⟨he,hw⟩=>⟨he,?_⟩
  rcases hw with rfl | ⟨t,rfl⟩
  · exact Below.refl _ _
  · exact Lib.bytesWorld_below _ _ _
theorem atoi_bad {s:ByteArray} (hl:s.size≤281474976710656) (h:∀ v,Lib.atoiAll s.data.toList≠.ok v) (w:World) (hg:Gl w) :
    Calls Tryz.prog 161 #[.string s] w fun e w'=>(∃ n t v,e = .returned (.tuple #[.int .i64 n,.iface t v]))∧Below w.heap.size w w':=by
  match ha:Lib.atoiAll s.data.toList with
  | Lib.NumEnd.ok v=>exact absurd ha (h v)
  | Lib.NumEnd.syntax =>
    obtain ⟨te,pe,hc⟩:=gl_errS w hg
    exact (Any.strconv_Atoi_syntax layAtoi s hl ha _ w hc (.inr ⟨te,pe,rfl⟩)).mono fun e w' ⟨N,he,_,_,hb⟩=>⟨⟨_,_,_,he⟩,hb⟩
  | Lib.NumEnd.range =>
    obtain ⟨te,pe,hc⟩:=gl_errR w hg
    exact (Any.strconv_Atoi_range layAtoi s hl ha _ w hc (.inr ⟨te,pe,rfl⟩)).mono fun e w' ⟨N,he,_,_,hb⟩=>⟨⟨_,_,_,he⟩,hb⟩
theorem gl_below {w w':World} (hg:Gl w) (h:Below w.heap.size w w'):Gl w':=hg.frame h.size fun b hb=>h.block b (Nat.lt_of_lt_of_le hb hg.1)
theorem itoa_run {v:Int} (h0:-9223372036854775808≤v) (h1:v≤9223372036854775807) (w:World) (hg:Gl w) :
    Calls Tryz.prog 88 #[.int .i64 v] w fun e w'=>e = .returned (.string ⟨(Lib.itoa v).toArray⟩)∧Below w.heap.size w w':=by
  refine (Any.strconv_Itoa layItoa v h0 h1 w (gl_pow10 w hg)).mono fun e w' ⟨he,k,os,hw⟩=>⟨he,?_⟩
  subst hw
  exact ⟨rfl,rfl,rfl,by simp [Sort.grow,World.drewN],fun b hb=>by simp only [Sort.grow,World.drewN]; rw [Array.getElem?_append_left hb]⟩
theorem parse_ok {s:ByteArray} {v:Int} (hl:s.size≤281474976710656) (h:Lib.atoiAll s.data.toList = .ok v) (h0:-9223372036854775808≤v) (h1:v≤9223372036854775807) (w:World) (hg:Gl w) :
    Calls Tryz.prog 140 #[.string s] w fun e w'=>e = .returned (.tuple #[.int .i64 (parseR s).1,.bool (parseR s).2])∧Below w.heap.size w w':=by
  go_enter Tryz.func140,Tryz.ntmps140
  go_wp2_with (first
    | (go_at_call 161; refine (atoi_ok hl h _).mono ?_; rintro e w1 ⟨rfl,hb1⟩)
    | (go_at_call 88; refine (itoa_run h0 h1 _ (gl_below hg hb1)).mono ?_; rintro e w2 ⟨rfl,hb2⟩)
    | go_in)
  all_goals
    go_ret2
    refine ⟨?_,hb1.trans (hb2.mono hb1.size)⟩
    simp_all [parseR] <;> (rw [if_neg (by omega)]; exact ⟨rfl,rfl⟩)
theorem parse_bad {s:ByteArray} (hl:s.size≤281474976710656) (h:∀ v,Lib.atoiAll s.data.toList≠.ok v) (w:World) (hg:Gl w) :
    Calls Tryz.prog 140 #[.string s] w fun e w'=>e = .returned (.tuple #[.int .i64 (parseR s).1,.bool (parseR s).2])∧Below w.heap.size w w':=by
  have hp:parseR s = (0,false):=by
    unfold parseR
    split
    · rename_i v hv; exact absurd hv (h v)
    · rfl
  go_enter Tryz.func140,Tryz.ntmps140
  go_wp2_with (first
    | (go_at_call 161; refine (atoi_bad hl h _ hg).mono ?_; rintro e w1 ⟨⟨n,t,u,rfl⟩,hb1⟩)
    | go_in)
  all_goals
    go_ret2
    refine ⟨?_,hb1⟩
    simp_all
theorem atoi_rng {l:List UInt8} {v:Int} (h:Lib.atoiAll l = .ok v):-9223372036854775808≤v∧v≤9223372036854775807:=by
  unfold Lib.atoiAll at h
  split at h
  · cases h
  · simp only at h
    split at h
    · cases h
    · cases h
    · rename_i u _
      split at h
      · cases h
      · split at h
        · cases h
        · simp only [Lib.NumEnd.ok.injEq] at h
          subst h
          split <;> omega
theorem parseInt_ok:FnOk Tryz.prog 140∧Ctr False Tryz.prog ⟨140,[.d false .str],[.l (.d false (.int .i64)),.l (.d false .bool)],fun x=>parseIntF x⟩:=by
  refine ⟨⟨Tryz.f140,_,Tryz.func140,by kernel_rfl,rfl⟩,?_⟩
  intro x r hx I w vs bss hin hargs
  have hx:parseIntF x = some r:=hx
  unfold parseIntF at hx
  split at hx
  · rename_i hl
    obtain rfl:=Option.some.inj hx
    match vs,hargs with
    | [v],⟨bs,hb1,hv,_,hb2⟩ =>
      subst hb2
      subst hb1
      obtain ⟨rfl,hs⟩:=RdV_str.1 hv
      have key:Calls Tryz.prog 140 #[.string x] w fun e w'=>e = .returned (.tuple #[.int .i64 (parseR x).1,.bool (parseR x).2])∧Below w.heap.size w w':=by
        by_cases h:∃ v,Lib.atoiAll x.data.toList = .ok v
        · obtain ⟨v,h⟩:=h
          obtain ⟨h0,h1⟩:=atoi_rng h
          exact parse_ok hl h h0 h1 w hin.gl
        · exact parse_bad hl (fun v hv=>h ⟨v,hv⟩) w hin.gl
      refine key.mono fun ex w' hpost=>?_
      obtain ⟨rfl,hb⟩:=hpost
      refine ⟨I,[.int .i64 (parseR x).1,.bool (parseR x).2],[[],[]],[],rfl,⟨hb.os,hb.tape,⟨hb.output,fun h=>h.elim⟩,hb.size,fun b hb' _=>hb.block b hb',fun b hb'=>⟨Nat.lt_of_lt_of_le (hin.acc b hb') hb.size,fun _=>.inl hb'⟩,by simp,fun b hb'=>by simp at hb',fun q hq b hb'=>?_⟩,
        ⟨[[]],[[]],rfl,⟨[],rfl,RdV_int.2 rfl,(fun h=>by cases h),rfl⟩,[],rfl,RdV_bool.2 rfl,(fun h=>by cases h),rfl⟩,fun _=>rfl,fun o ho=>by simp [resB,hasIo] at ho⟩
      simp only [List.nil_append,List.mem_cons,List.not_mem_nil,or_false,or_self] at hq
      subst hq; simp at hb'
  · cases hx
end Go.Proofs.YtfmdddoidjhipaaGreatDoor
