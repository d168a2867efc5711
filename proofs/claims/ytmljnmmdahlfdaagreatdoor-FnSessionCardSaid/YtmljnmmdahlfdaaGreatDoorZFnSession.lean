/-
  A session executes its lines in order. No condition.
-/
import Derived.Test.YtmljnmmdahlfdaaGreatDoorA9
import Derived.Test.YtmljnmmdahlfdaaGreatDoorCards
import Derived.Test.YtmljnmmdahlfdaaGreatDoorTie
set_option linter.all false
namespace Go.Proofs.YtmljnmmdahlfdaaGreatDoor.fnSession
open Go Go.ChangeShapes Go.WideShapes Go.ChangeAt Go.RowKit Eng
def own:ownKnob Tryz.prog.godebug=none:=by kernel_rfl
def ax5 (bT:World) (BD:bT.ShapedOpen Tryz.prog) (cT:laidMet Tryz.prog Rows.fnSessionRow.laid bT):lm bT:=by
 have aR:=aj9 (n := "strconv.ErrSyntax") (YV := "*errors.errorString") (d:=(.ptr (.agg [.lit (.string [105,110,118,97,108,105,100,32,115,121,110,116,97,120])]))) (g:=0) (t:=124) cT (eU (i:=5) (by kernel_rfl)) (by kernel_rfl) (by kernel_rfl) Tryz.underlying124
 have r:=aj9 (n := "strconv.ErrRange") (YV := "*errors.errorString") (d:=(.ptr (.agg [.lit (.string [118,97,108,117,101,32,111,117,116,32,111,102,32,114,97,110,103,101])]))) (g:=1) (t:=124) cT (eU (i:=4) (by kernel_rfl)) (by kernel_rfl) (by kernel_rfl) Tryz.underlying124
 have y:=ax3 (by have:=acl.s1_3 bT BD;exact this)
 have W:=ax0 (n := "internal/strconv.uint64pow10") (k:=.u64) (bV:=Lib.pow10Tab) (g:=3) cT (eU (i:=2) (by kernel_rfl)) (by kernel_rfl) (t:=241) (by kernel_rfl) Tryz.underlying241 Tryz.underlying200 (by kernel_rfl) (by kernel_rfl)
 have au:3<bT.heap.size:=by
  obtain⟨o,Y,_⟩:=W;exact(mM.1 Y).1
 refine⟨au,fun p hp=>?_⟩;simp only[wv,cB,iv,h1]at hp;rcases hp with rfl | rfl | rfl | rfl
 ·exact aR
 ·exact r
 ·exact y
 ·exact W
set_option maxRecDepth 100000 in
def ax6 (os:Os) (KD:os.Started) (H:Type) (enc:TypeId × Value->H) :
  ReturnsInHanded {} Tryz.checked os 6 .any (fun w args=>(Rows.fnSessionSpec.pre enc Tryz.prog Tryz.f6 Rows.fnSessionRow.domain false w args/\laidMetH Tryz.prog Rows.fnSessionRow.laid w)/\sizedMet enc Tryz.prog Tryz.f6 (OpenSpec.ofChange Rows.fnSessionSpec) false w args) (Rows.fnSessionSpec.post enc Tryz.prog Tryz.f6 false true false false):=by
 refine axW (N:=Tryz.checked) (U:=Rows.fnSessionRow.laid) (tb:=4) [(.list (.int .u8))] own KD (by kernel_rfl) Tryz.func6
  (ChangeSpec.witness_shaped (enc:=enc) (C:=Tryz.checked) (os:=os) (X:=fun w _=>laidMetH Tryz.prog Rows.fnSessionRow.laid w) false (World.laidAll Tryz.prog os Rows.fnSessionRow.laid) #[.slice none 0 0] 12 (World.laidAll_os _ _ _)
   (World.shaped_of_ZipB (by kernel_rfl) (by kernel_rfl)) (by kernel_rfl) (by kernel_rfl) (by kernel_rfl)
   (by rw[MakeChecks.laidMetH_plain _ _ _ (by kernel_rfl)];exact laidMet_laidAll _ (by kernel_rfl) (by kernel_rfl))) rfl (by kernel_rfl) Tryz.underlying4 rfl
  (fun bB c=>?_) (ar6:eZ _ _/\gg False _ _).2 (fun x M=>⟨true,?_,rfl⟩) (by kernel_rfl) ax5
 ·match bB,c with
  | [d0],_=>exact⟨rfl,rfl,rfl⟩
 ·exact axV x M
def ax7:Rows.fnSessionRow.holds Tryz.pinned (OpenSpec.ofChange Rows.fnSessionSpec) :=
 OpenClaim.holds_of_wide 6 Tryz.f6 rfl rfl rfl rfl rfl rfl rfl ⟨rfl,rfl,rfl,rfl,rfl⟩ rfl rfl rfl rfl rfl (by kernel_rfl) Tryz.func6 ax4
  (wR (by kernel_rfl)) (by unfold Func.isWrapper;first | (rw[aS (by decide +kernel)];kernel_rfl) | (rw[aQ (by decide +kernel)];exact⟨rfl,rfl⟩))
  (fun os KD H enc _=>ax6 os KD H enc)
theorem proved:Rows.FnSessionCardSaid :=
 Claim7.holds_tied_plain_at .later [] [.data,.data,.data,.data,.sentinel,.sentinel,.pinned] true (true, "41fce66c23020d7386770377a7c5fc78d5d19a14a4a514fc8c6ff0ba77f80844") true ax7 (fun _ c=>by cases c) fe (fun _ c=>by cases c) fnSession_row_tie rfl ⟨rfl,rfl⟩ (by kernel_rfl) rfl
  (fun f fn aH YT=>by
   obtain rfl:f=6:=bW (eC.symm.trans aH) |>.symm;obtain rfl:fn=Tryz.f6:=(bW (Tryz.func6.symm.trans YT)).symm;exact⟨ia,fun J t aB=>by
    have hp:Tryz.f6.params=#[22]:=by kernel_rfl
    rw[hp]at aB;have az:t∈[22]:=by simpa using Array.mem_of_getElem? aB
    have hK:([22].all fun Z=>!Tryz.prog.wantsStandIn Z)=true:=SH;exact(show Tryz.prog.wantsStandIn t=false by simpa using hx.1 hK t az)⟩)
  LB
end Go.Proofs.YtmljnmmdahlfdaaGreatDoor.fnSession
