/-
  The engine, part 10. Strings by the library: numerals, joining, splitting. No condition.
-/
import Derived.Test.YtfmdddoidjhipaaGreatDoorEm5
import Derived.Shelf.Strings.Split
import Derived.Shelf.Strings.OnBuilder
import Derived.Shelf.Strconv.Itoa3
import Derived.Shelf.Strconv.AtoiAll
namespace Go.Proofs.YtfmdddoidjhipaaGreatDoor.Eng
open Go Go.Shelf Go.RowKit
set_option linter.unusedVariables false
set_option linter.unusedSimpArgs false
section
variable {P:Program} {ρ:Go.Shelf.Ren} {D:Prop}
theorem CallIn.out {I:Nat→Prop} {w w':World} {bss:List (List Nat)} (h:CallIn I w bss) (os:w'.os = w.os) (tape:w'.tape = w.tape) (output:w'.output = w.output) (drawn:D→w.drawn≤w'.drawn)
    (size:w.heap.size≤w'.heap.size) (block:∀ b,b < w.heap.size→w'.heap[b]? = w.heap[b]?):CallOut D I w w' bss ([] ++ [[]]) I :=
  ⟨os,tape,⟨output,drawn⟩,size,fun b hb _=>block b hb,fun b hb=>⟨Nat.lt_of_lt_of_le (h.acc b hb) size,fun _=>.inl hb⟩,by simp,fun b hb=>by simp at hb,fun bs hbs b hb=>by
    simp only [List.nil_append,List.mem_singleton] at hbs
    subst hbs; simp at hb⟩
def itoaF (n:Int):Option ByteArray:=if -9223372036854775808≤n∧n≤9223372036854775807 then some ⟨(Lib.itoa n).toArray⟩ else none
theorem itoa_len {n:Int} (h0:-9223372036854775808≤n) (h1:n≤9223372036854775807):(Lib.itoa n).length≤30:=by
  have key:∀ u:Nat,u < 18446744073709551616→(Lib.decDigits u).length≤25:=fun u hu=>by
    by_cases h:u = 0
    · subst h; rw [Lib.decDigits_length]; unfold Lib.nDigits; simp
    · obtain ⟨h1,h2⟩:=Lib.numDigits_eq u (by omega) hu
      rw [Lib.decDigits_length,← h1]
      split <;> omega
  unfold Lib.itoa
  split
  · have:=key n.natAbs (by omega); simp; omega
  · have:=key n.toNat (by omega); omega
theorem itoa_ctr (L:LaysM.n171 P ρ) (hg:∀ w,Gl w→Lib.TabIs P w "internal/strconv.uint64pow10" .u64 Lib.pow10Tab) {f:FuncId} (hf:ρ.f 171 = f):Ctr D P ⟨f,[.d false (.int .i64)],[.l (.d false .str)],itoaF⟩:=by
  intro x r hx I w vs bss hin hargs
  have hx:itoaF x = some r:=hx
  unfold itoaF at hx
  split at hx
  · rename_i hr
    obtain rfl:=Option.some.inj hx
    match vs,hargs with
    | [v],⟨bs,hb1,hv,_,hb2⟩ =>
      subst hb2
      subst hb1
      obtain rfl:=RdV_int.1 hv
      subst hf
      refine (Any.strconv_Itoa L x hr.1 hr.2 w (hg w hin.gl)).mono fun ex w' hpost=>?_
      obtain ⟨rfl,k,os,rfl⟩:=hpost
      have hl:=itoa_len hr.1 hr.2
      refine ⟨I,[.string ⟨(Lib.itoa x).toArray⟩],[[]],[],rfl,hin.out rfl rfl rfl (fun _=>Nat.le_add_right _ _) (by simp [Sort.grow,World.drewN]) (fun b hb=>by simp only [Sort.grow,World.drewN]; rw [Array.getElem?_append_left hb]),⟨[],rfl,RdV_str.2 ⟨rfl,?_⟩,fun h=>by simp at h,rfl⟩,fun _=>rfl,fun o ho=>by simp [resB,hasIo] at ho⟩
      show (⟨(Lib.itoa x).toArray⟩:ByteArray).size≤lim
      have:(⟨(Lib.itoa x).toArray⟩:ByteArray).size = (Lib.itoa x).length:=by simp [ByteArray.size]
      rw [this]
      exact Nat.le_trans hl (by decide)
  · cases hx
def joinF (xs:List ByteArray) (sep:ByteArray):Option ByteArray :=
  if (Lib.join (xs.map (·.data.toList)) sep.data.toList).length≤lim then some ⟨(Lib.join (xs.map (·.data.toList)) sep.data.toList).toArray⟩ else none
theorem join_ctr (L:Lays.n156 P ρ) (X:Builder.Extra P ρ) {f:FuncId} (hf:ρ.f 156 = f):Ctr False P ⟨f,[.d false (.list .str),.d false .str],[.l (.d false .str)],fun x=>joinF x.1 x.2⟩:=by
  intro x r hx I w vs bss hin hargs
  obtain ⟨xs,sep⟩:=x
  have hx:joinF xs sep = some r:=hx
  unfold joinF at hx
  split at hx
  · rename_i hr
    obtain rfl:=Option.some.inj hx
    match vs,hargs with
    | [v,v2],⟨bs,rest,hb1,⟨hv,_,hb2⟩,bs2,hb3,hv2,_,hb4⟩ =>
      subst hb2
      subst hb4
      subst hb3
      subst hb1
      obtain ⟨rfl,hs2⟩:=RdV_str.1 hv2
      obtain ⟨cs,hcs,rfl⟩:=hv
      have hcs:RdC I w (.list .str) xs cs:=hcs
      simp only [RdC] at hcs
      obtain ⟨a,n,c,rfl,rfl,hnc,hcm,hnl,hel⟩:=hcs
      subst hf
      have key:Calls P (ρ.f 156) #[.slice a xs.length c,.string sep] w fun e w'=>e = .returned (.string ⟨(Lib.join (xs.map (·.data.toList)) sep.data.toList).toArray⟩)∧Below w.heap.size w w':=by
        by_cases hx0:xs = []
        · subst hx0
          exact (Any.strings_Join_none L X a c sep w).mono fun e w' ⟨he,hw⟩=>⟨by rw [he]; rfl,hw ▸ Below.refl _ _⟩
        · obtain ⟨b,o,rfl,hb,hel⟩:=hel hx0
          refine Any.strings_Join L X b o c xs sep w (fun j x hj=>?_) (hin.acc b hb) hnl hnc hr
          obtain ⟨ys,hy1,hy2,hy3⟩:=hel j x hj
          obtain ⟨rfl,_⟩:=hy3
          have:=hy2 0 (by decide)
          simpa [Ty.wid] using this
      refine key.mono fun ex w' hpost=>?_
      obtain ⟨rfl,hb⟩:=hpost
      refine ⟨I,[.string ⟨(Lib.join (xs.map (·.data.toList)) sep.data.toList).toArray⟩],[[]],[],rfl,hin.out hb.os hb.tape hb.output (fun h=>h.elim) hb.size hb.block,⟨[],rfl,RdV_str.2 ⟨rfl,?_⟩,fun h=>by simp at h,rfl⟩,fun _=>rfl,fun o ho=>by simp [resB,hasIo] at ho⟩
      show (⟨(Lib.join (xs.map (·.data.toList)) sep.data.toList).toArray⟩:ByteArray).size≤lim
      have:(⟨(Lib.join (xs.map (·.data.toList)) sep.data.toList).toArray⟩:ByteArray).size = (Lib.join (xs.map (·.data.toList)) sep.data.toList).length:=by simp [ByteArray.size]
      rw [this]
      exact hr
  · cases hx
theorem splitB_size (sep:ByteArray) (save:Nat):(k:Nat)→(s y:ByteArray)→y∈Lib.splitB sep save k s→y.size≤s.size
  | 0,s,y,h=>by
    simp only [Lib.splitB,List.mem_singleton] at h
    subst h; exact Nat.le_refl _
  | k + 1,s,y,h=>by
    simp only [Lib.splitB] at h
    split at h
    · simp only [List.mem_singleton] at h
      subst h; exact Nat.le_refl _
    · rcases List.mem_cons.1 h with rfl | h
      · simp only [ByteArray.size_extract]; omega
      · have:=splitB_size sep save k _ y h
        simp only [ByteArray.size_extract] at this
        omega
def splitF (s sep:ByteArray):Option (List ByteArray) :=
  if s.size < 4294967281∧1≤sep.size then some (Lib.splitB sep 0 (Lib.countB s sep) s) else none
theorem split_ctr (L:Lays.n146 P ρ) (hi9:(P.info? (ρ.t 9)).map (fun i=>(i.zero,i.size,i.bytes)) = some (some (.string ByteArray.empty),1,16)) (hg:∀ w,Gl w→∃ m,w.cell? ⟨(ρ.g 1),0,none⟩ = some (.int .i64 m))
    {f:FuncId} {e:TypeId} (hf:ρ.f 146 = f) (he:ρ.t 9 = e):Ctr D P ⟨f,[.d false .str,.d false .str],[.l (.o true e .str)],fun x=>splitF x.1 x.2⟩:=by
  intro x r hx I w vs bss hin hargs
  obtain ⟨s,sep⟩:=x
  have hx:splitF s sep = some r:=hx
  unfold splitF at hx
  split at hx
  · rename_i hr
    obtain rfl:=Option.some.inj hx
    match vs,hargs with
    | [v,v2],⟨bs,rest,hb1,⟨hv,_,hb2⟩,bs2,hb3,hv2,_,hb4⟩ =>
      subst hb2
      subst hb4
      subst hb3
      subst hb1
      obtain ⟨rfl,hs2⟩:=RdV_str.1 hv2
      obtain ⟨rfl,hs1⟩:=RdV_str.1 hv
      subst hf
      subst he
      obtain ⟨m,hm⟩:=hg w hin.gl
      refine (Any.strings_Split L hi9 s sep m w hr.1 hm hr.2).mono fun ex w' hpost=>?_
      obtain ⟨rfl,rfl⟩:=hpost
      have hcl:=Lib.countB_le sep hr.2 s.size s (Nat.le_refl _)
      have hlen:=Lib.splitB_all sep hr.2 0 _ s rfl
      generalize hxs:Lib.splitB sep 0 (Lib.countB s sep) s = xs at *
      rw [← hlen]
      have hxl:xs.length≤lim:=by
        rw [hlen]
        exact Nat.le_trans (show Lib.countB s sep + 1≤4294967296 by omega) (by decide)
      have hsz:∀ y∈xs,y.size≤lim:=fun y hy=>by
        have:=splitB_size sep 0 (Lib.countB s sep) s y (by rw [hxs]; exact hy)
        exact Nat.le_trans (Nat.le_trans this (show s.size≤4294967296 by omega)) (by decide)
      refine ⟨I,[.slice (some ⟨w.heap.size,0,none⟩) xs.length xs.length],[[w.heap.size]],[],rfl,⟨rfl,rfl,⟨rfl,fun _=>Nat.le_refl _⟩,by simp,fun b hb _=>(Ext.alloc w _).block b hb,fun b hb=>⟨Nat.lt_of_lt_of_le (hin.acc b hb) (by simp),fun _=>.inl hb⟩,by simp,fun b hb=>?_,fun bs hbs b hb=>?_⟩,⟨[w.heap.size],rfl,?_⟩,fun _=>rfl,fun o ho=>by simp [resB,hasIo] at ho⟩
      · simp only [List.nil_append,List.flatten_cons,List.flatten_nil,List.append_nil,List.mem_singleton] at hb
        subst hb
        exact ⟨by simp,fun h=>absurd h (Nat.lt_irrefl _)⟩
      · simp only [List.nil_append,List.mem_singleton] at hbs
        subst hbs
        simp only [List.head?_cons,Option.some.injEq] at hb
        subst hb
        exact ⟨fun h=>absurd (hin.acc _ h) (Nat.lt_irrefl _),fun h=>absurd h (Nat.lt_irrefl _)⟩
      · show OwnV I _ true (ρ.t 9) .str xs _ [w.heap.size]
        refine ⟨hxl,xs.map Value.string,xs.map fun _=>[],⟨by simp [Ty.wid],.inr ⟨w.heap.size,xs.length,(xs.map Value.string).toArray,rfl,Nat.zero_le _,by show (w.heap.push _)[w.heap.size]? = _; simp,Nat.le_refl _,?_,by simp [Ty.wid],by simp only [Ty.wid,Nat.mul_one]; exact List.take_of_length_le (by simp)⟩⟩,?_,fun _=>by simp,fun h=>by simp at h,fun i y hi=>⟨[.string y],rfl,fun j hj=>?_,?_⟩⟩
        · unfold maxLen; have:=hcl; omega
        · have:∀ l:List ByteArray,(l.map fun _=>([]:List Nat)).flatten = []:=fun l=>by induction l <;> simp_all
          rw [this]; rfl
        · have hj:j = 0:=by simp only [Ty.wid] at hj; omega
          subst hj
          simp [Ty.wid,hi]
        · rw [if_pos rfl]
          unfold DpC
          refine ⟨rfl,hsz y (List.mem_of_getElem? hi),?_⟩
          rw [List.getElem?_map,hi]; rfl
  · cases hx
end
end Go.Proofs.YtfmdddoidjhipaaGreatDoor.Eng
