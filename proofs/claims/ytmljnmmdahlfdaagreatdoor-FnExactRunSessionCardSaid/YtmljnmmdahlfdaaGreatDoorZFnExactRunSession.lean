/-
  The program's RunSession returns what the reference's RunSession returns, for all arguments. No condition.
-/
import Derived.Test.YtmljnmmdahlfdaaGreatDoorA9
import Derived.Test.YtmljnmmdahlfdaaGreatDoorCards
import Derived.Test.YtmljnmmdahlfdaaGreatDoorTie
set_option linter.all false
namespace Go.Proofs.YtmljnmmdahlfdaaGreatDoor.fnExactRunSession
open Go Go.ChangeShapes Go.WideShapes Go.ChangeAt Go.RowKit Eng
def own:ownKnob Tryz.prog.godebug=none:=by kernel_rfl
def axo (bQ:World) (Bo:bQ.ShapedOpen Tryz.prog) (cY:laidMet Tryz.prog Rows.fnExactRunSessionRow.laid bQ):lj bQ:=by
 have aT:=ajF (n := "strconv.ErrSyntax") (Yx := "*errors.errorString") (d:=(.ptr (.agg [.lit (.string [105,110,118,97,108,105,100,32,115,121,110,116,97,120])]))) (g:=0) (t:=124) cY (eT (i:=5) (by kernel_rfl)) (by kernel_rfl) (by kernel_rfl) Tryz.underlying124
 have r:=ajF (n := "strconv.ErrRange") (Yx := "*errors.errorString") (d:=(.ptr (.agg [.lit (.string [118,97,108,117,101,32,111,117,116,32,111,102,32,114,97,110,103,101])]))) (g:=1) (t:=124) cY (eT (i:=4) (by kernel_rfl)) (by kernel_rfl) (by kernel_rfl) Tryz.underlying124
 have y:=axm (by have:=abZ.s1_3 bQ Bo;exact this)
 have W:=axj (n := "internal/strconv.uint64pow10") (k:=.u64) (bT:=Lib.pow10Tab) (g:=3) cY (eT (i:=2) (by kernel_rfl)) (by kernel_rfl) (t:=241) (by kernel_rfl) Tryz.underlying241 Tryz.underlying200 (by kernel_rfl) (by kernel_rfl)
 have au:3<bQ.heap.size:=by
  obtain⟨o,Y,_⟩:=W;exact(mG.1 Y).1
 refine⟨au,fun p hp=>?_⟩;simp only[wh,cy,iw,hZ]at hp;rcases hp with rfl | rfl | rfl | rfl
 ·exact aT
 ·exact r
 ·exact y
 ·exact W
set_option maxRecDepth 100000 in
def axp (os:Os) (Kn:os.Started) (H:Type) (enc:TypeId × Value->H) :
  ReturnsInHanded {} Tryz.checked os 4 .any (fun w args=>(Rows.fnExactRunSessionSpec.pre enc Tryz.prog Tryz.f4 Rows.fnExactRunSessionRow.domain false w args/\laidMetH Tryz.prog Rows.fnExactRunSessionRow.laid w)/\sizedMet enc Tryz.prog Tryz.f4 (OpenSpec.ofChange Rows.fnExactRunSessionSpec) false w args) (Rows.fnExactRunSessionSpec.post enc Tryz.prog Tryz.f4 false true false false):=by
 refine axf (N:=Tryz.checked) (U:=Rows.fnExactRunSessionRow.laid) (tb:=4) [.str] own Kn (by kernel_rfl) Tryz.func4
  (ChangeSpec.witness_shaped (enc:=enc) (C:=Tryz.checked) (os:=os) (X:=fun w _=>laidMetH Tryz.prog Rows.fnExactRunSessionRow.laid w) false (World.laidAll Tryz.prog os Rows.fnExactRunSessionRow.laid) #[.string ⟨#[]⟩] 12 (World.laidAll_os _ _ _)
   (World.shaped_of_ZipB (by kernel_rfl) (by kernel_rfl)) (by kernel_rfl) (by kernel_rfl) (by kernel_rfl)
   (by rw[MakeChecks.laidMetH_plain _ _ _ (by kernel_rfl)];exact laidMet_laidAll _ (by kernel_rfl) (by kernel_rfl))) rfl (by kernel_rfl) Tryz.underlying4 rfl
  (fun bA c=>?_) (arx:e3 _ _/\gf False _ _).2 (fun x M=>⟨true,?_,rfl⟩) (by kernel_rfl) axo
 ·match bA,c with
  | [d0],_=>exact⟨rfl,rfl,rfl⟩
 ·exact axe x M
def axq:Rows.fnExactRunSessionRow.holds Tryz.pinned (OpenSpec.ofChange Rows.fnExactRunSessionSpec) :=
 OpenClaim.holds_of_wide 4 Tryz.f4 rfl rfl rfl rfl rfl rfl rfl ⟨rfl,rfl,rfl,rfl,rfl⟩ rfl rfl rfl rfl rfl (by kernel_rfl) Tryz.func4 axn
  (yW (by kernel_rfl)) (by unfold Func.isWrapper;first | (rw[aR (by decide +kernel)];kernel_rfl) | (rw[aQ (by decide +kernel)];exact⟨rfl,rfl⟩))
  (fun os Kn H enc _=>axp os Kn H enc)
theorem proved:Rows.FnExactRunSessionCardSaid :=
 Claim7.holds_tied_plain_at .later [] [.data,.data,.data,.data,.sentinel,.sentinel,.pinned] true (true, "41fce66c23020d7386770377a7c5fc78d5d19a14a4a514fc8c6ff0ba77f80844") true axq (fun _ c=>by cases c) fc (fun _ c=>by cases c) fnExactRunSession_row_tie rfl ⟨rfl,rfl⟩ (by kernel_rfl) rfl
  (fun f fn aG Yv=>by
   obtain rfl:f=4:=bU (ez.symm.trans aG) |>.symm;obtain rfl:fn=Tryz.f4:=(bU (Tryz.func4.symm.trans Yv)).symm;exact⟨h8,fun J t aB=>by
    have hp:Tryz.f4.params=#[9]:=by kernel_rfl
    rw[hp]at aB;have az:t∈[9]:=by simpa using Array.mem_of_getElem? aB
    have hI:([9].all fun Z=>!Tryz.prog.wantsStandIn Z)=true:=Sl;exact(show Tryz.prog.wantsStandIn t=false by simpa using hM.1 hI t az)⟩)
  Lj
end Go.Proofs.YtmljnmmdahlfdaaGreatDoor.fnExactRunSession
