/-
  The program's ExecuteLine returns what the reference's ExecuteLine returns, for all arguments. No condition.
-/
import Derived.Test.YtmljnmmdahlfdaaGreatDoorA9
import Derived.Test.YtmljnmmdahlfdaaGreatDoorCards
import Derived.Test.YtmljnmmdahlfdaaGreatDoorTie
set_option linter.all false
namespace Go.Proofs.YtmljnmmdahlfdaaGreatDoor.fnExactExecuteLine
open Go Go.ChangeShapes Go.WideShapes Go.ChangeAt Go.RowKit Eng
def own:ownKnob Tryz.prog.godebug=none:=by kernel_rfl
def azO (bZ:World) (Ce:bZ.ShapedOpen Tryz.prog) (dd:laidMet Tryz.prog Rows.fnExactExecuteLineRow.laid bZ):lN bZ:=by
 have aU:=alD (n := "strconv.ErrSyntax") (ZR := "*errors.errorString") (d:=(.ptr (.agg [.lit (.string [105,110,118,97,108,105,100,32,115,121,110,116,97,120])]))) (g:=0) (t:=124) dd (eF (i:=5) (by kernel_rfl)) (by kernel_rfl) (by kernel_rfl) Tryz.underlying124
 have y:=alD (n := "strconv.ErrRange") (ZR := "*errors.errorString") (d:=(.ptr (.agg [.lit (.string [118,97,108,117,101,32,111,117,116,32,111,102,32,114,97,110,103,101])]))) (g:=1) (t:=124) dd (eF (i:=4) (by kernel_rfl)) (by kernel_rfl) (by kernel_rfl) Tryz.underlying124
 have C:=azM (by have:=adI.s1_3 bZ Ce;exact this)
 have Y:=azJ (n := "internal/strconv.uint64pow10") (k:=.u64) (bY:=Lib.pow10Tab) (g:=3) dd (eF (i:=2) (by kernel_rfl)) (by kernel_rfl) (t:=241) (by kernel_rfl) Tryz.underlying241 Tryz.underlying200 (by kernel_rfl) (by kernel_rfl)
 have av:3<bZ.heap.size:=by
  obtain⟨o,W,_⟩:=Y;exact(md.1 W).1
 refine⟨av,fun p hp=>?_⟩;simp only[w6,cB,iV,iu]at hp;rcases hp with rfl | rfl | rfl | rfl
 ·exact aU
 ·exact y
 ·exact C
 ·exact Y
set_option maxRecDepth 100000 in
def azP (os:Os) (Lu:os.Started) (H:Type) (enc:TypeId × Value->H) :
  ReturnsInHanded {} Tryz.checked os 5 .any (fun w args=>(Rows.fnExactExecuteLineSpec.pre enc Tryz.prog Tryz.f5 Rows.fnExactExecuteLineRow.domain false w args/\laidMetH Tryz.prog Rows.fnExactExecuteLineRow.laid w)/\sizedMet enc Tryz.prog Tryz.f5 (OpenSpec.ofChange Rows.fnExactExecuteLineSpec) false w args) (Rows.fnExactExecuteLineSpec.post enc Tryz.prog Tryz.f5 false true false false):=by
 refine azF (N:=Tryz.checked) (U:=Rows.fnExactExecuteLineRow.laid) (tb:=4) [(.prod (.list (.list (.int .i64))) (.list (.list (.int .i64)))),.str] own Lu (by kernel_rfl) Tryz.func5
  (ChangeSpec.witness_shaped (enc:=enc) (C:=Tryz.checked) (os:=os) (X:=fun w _=>laidMetH Tryz.prog Rows.fnExactExecuteLineRow.laid w) false (World.laidAll Tryz.prog os Rows.fnExactExecuteLineRow.laid) #[.agg #[.slice none 0 0,.slice none 0 0],.string ⟨#[]⟩] 12 (World.laidAll_os _ _ _)
   (World.shaped_of_ZipB (by kernel_rfl) (by kernel_rfl)) (by kernel_rfl) (by kernel_rfl) (by kernel_rfl)
   (by rw[MakeChecks.laidMetH_plain _ _ _ (by kernel_rfl)];exact laidMet_laidAll _ (by kernel_rfl) (by kernel_rfl))) rfl (by kernel_rfl) Tryz.underlying4 rfl
  (fun bA h=>?_) (atS:dJ _ _/\ga False _ _).2 (fun x M=>⟨true,?_,rfl⟩) (by kernel_rfl) azO
 ·match bA,h with
  | [d0,d1],_=>exact⟨rfl,rfl,rfl⟩
 ·exact azE x.1 x.2 M.1 M.2
def azQ:Rows.fnExactExecuteLineRow.holds Tryz.pinned (OpenSpec.ofChange Rows.fnExactExecuteLineSpec) :=
 OpenClaim.holds_of_wide 5 Tryz.f5 rfl rfl rfl rfl rfl rfl rfl ⟨rfl,rfl,rfl,rfl,rfl⟩ rfl rfl rfl rfl rfl (by kernel_rfl) Tryz.func5 azN
  (zL (by kernel_rfl)) (by unfold Func.isWrapper;first | (rw[aQ (by decide +kernel)];kernel_rfl) | (rw[aL (by decide +kernel)];exact⟨rfl,rfl⟩))
  (fun os Lu H enc _=>azP os Lu H enc)
theorem proved:Rows.FnExactExecuteLineCardSaid :=
 Claim7.holds_tied_plain_at .later [] [.data,.data,.data,.data,.sentinel,.sentinel,.pinned] true (true, "41fce66c23020d7386770377a7c5fc78d5d19a14a4a514fc8c6ff0ba77f80844") true azQ (fun _ h=>by cases h) fm (fun _ h=>by cases h) fnExactExecuteLine_row_tie rfl ⟨rfl,rfl⟩ (by kernel_rfl) rfl
  (fun f fn aG ZP=>by
   obtain rfl:f=5:=bJ (eK.symm.trans aG) |>.symm;obtain rfl:fn=Tryz.f5:=(bJ (Tryz.func5.symm.trans ZP)).symm;exact⟨iG,fun j t aB=>by
    have hp:Tryz.f5.params=#[42,9]:=by kernel_rfl
    rw[hp]at aB;have az:t∈[42,9]:=by simpa using Array.mem_of_getElem? aB
    have hz:([42,9].all fun Z=>!Tryz.prog.wantsStandIn Z)=true:=TB;exact(show Tryz.prog.wantsStandIn t=false by simpa using hL.1 hz t az)⟩)
  Mq
end Go.Proofs.YtmljnmmdahlfdaaGreatDoor.fnExactExecuteLine
