/-
  At every moment of a session both are polygons, moves keep them alike, and questions change nothing. No condition.
-/
import Derived.Test.YtmljnmmdahlfdaaGreatDoorA9
import Derived.Test.YtmljnmmdahlfdaaGreatDoorCards
import Derived.Test.YtmljnmmdahlfdaaGreatDoorTie
set_option linter.all false
namespace Go.Proofs.YtmljnmmdahlfdaaGreatDoor.fnTop
open Go Go.ChangeShapes Go.WideShapes Go.ChangeAt Go.RowKit Eng
def own:ownKnob Tryz.prog.godebug=none:=by kernel_rfl
def aAL (bY:World) (Cw:bY.ShapedOpen Tryz.prog) (c4:laidMet Tryz.prog Rows.fnTopRow.laid bY):lM bY:=by
 have aM:=amd (n := "strconv.ErrSyntax") (aaJ := "*errors.errorString") (d:=(.ptr (.agg [.lit (.string [105,110,118,97,108,105,100,32,115,121,110,116,97,120])]))) (g:=0) (t:=124) c4 (e6 (i:=5) (by kernel_rfl)) (by kernel_rfl) (by kernel_rfl) Tryz.underlying124
 have y:=amd (n := "strconv.ErrRange") (aaJ := "*errors.errorString") (d:=(.ptr (.agg [.lit (.string [118,97,108,117,101,32,111,117,116,32,111,102,32,114,97,110,103,101])]))) (g:=1) (t:=124) c4 (e6 (i:=4) (by kernel_rfl)) (by kernel_rfl) (by kernel_rfl) Tryz.underlying124
 have z:=aAJ (by have:=aea.s1_3 bY Cw;exact this)
 have W:=aAG (n := "internal/strconv.uint64pow10") (k:=.u64) (b5:=Lib.pow10Tab) (g:=3) c4 (e6 (i:=2) (by kernel_rfl)) (by kernel_rfl) (t:=241) (by kernel_rfl) Tryz.underlying241 Tryz.underlying200 (by kernel_rfl) (by kernel_rfl)
 have aw:3<bY.heap.size:=by
  obtain⟨o,Y,_⟩:=W;exact(m2.1 Y).1
 refine⟨aw,fun p hp=>?_⟩;simp only[xc,cz,ii,h3]at hp;rcases hp with rfl | rfl | rfl | rfl
 ·exact aM
 ·exact y
 ·exact z
 ·exact W
set_option maxRecDepth 100000 in
def aAM (os:Os) (LO:os.Started) (H:Type) (enc:TypeId × Value->H) :
  ReturnsInHanded {} Tryz.checked os 3 .any (fun w args=>(Rows.fnTopSpec.pre enc Tryz.prog Tryz.f3 Rows.fnTopRow.domain false w args/\laidMetH Tryz.prog Rows.fnTopRow.laid w)/\sizedMet enc Tryz.prog Tryz.f3 (OpenSpec.ofChange Rows.fnTopSpec) false w args) (Rows.fnTopSpec.post enc Tryz.prog Tryz.f3 false true false false):=by
 refine aAC (N:=Tryz.checked) (U:=Rows.fnTopRow.laid) (tb:=4) [(.list (.int .u8))] own LO (by kernel_rfl) Tryz.func3
  (ChangeSpec.witness_shaped (enc:=enc) (C:=Tryz.checked) (os:=os) (X:=fun w _=>laidMetH Tryz.prog Rows.fnTopRow.laid w) false (World.laidAll Tryz.prog os Rows.fnTopRow.laid) #[.slice none 0 0] 12 (World.laidAll_os _ _ _)
   (World.shaped_of_ZipB (by kernel_rfl) (by kernel_rfl)) (by kernel_rfl) (by kernel_rfl) (by kernel_rfl)
   (by rw[MakeChecks.laidMetH_plain _ _ _ (by kernel_rfl)];exact laidMet_laidAll _ (by kernel_rfl) (by kernel_rfl))) rfl (by kernel_rfl) Tryz.underlying4 rfl
  (fun bE c=>?_) (at9:fb _ _/\gt False _ _).2 (fun x M=>⟨true,?_,rfl⟩) (by kernel_rfl) aAL
 ·match bE,c with
  | [d0],_=>exact⟨rfl,rfl,rfl⟩
 ·exact aAB x M
def aAN:Rows.fnTopRow.holds Tryz.pinned (OpenSpec.ofChange Rows.fnTopSpec) :=
 OpenClaim.holds_of_wide 3 Tryz.f3 rfl rfl rfl rfl rfl rfl rfl ⟨rfl,rfl,rfl,rfl,rfl⟩ rfl rfl rfl rfl rfl (by kernel_rfl) Tryz.func3 aAK
  (ul (by kernel_rfl)) (by unfold Func.isWrapper;first | (rw[aQ (by decide +kernel)];kernel_rfl) | (rw[aR (by decide +kernel)];exact⟨rfl,rfl⟩))
  (fun os LO H enc _=>aAM os LO H enc)
theorem proved:Rows.FnTopCardSaid :=
 Claim7.holds_tied_plain_at .later [] [.data,.data,.data,.data,.sentinel,.sentinel,.pinned] true (true, "41fce66c23020d7386770377a7c5fc78d5d19a14a4a514fc8c6ff0ba77f80844") true aAN (fun _ c=>by cases c) dA (fun _ c=>by cases c) fnTop_row_tie rfl ⟨rfl,rfl⟩ (by kernel_rfl) rfl
  (fun f fn aH aaH=>by
   obtain rfl:f=3:=b4 (dd.symm.trans aH) |>.symm;obtain rfl:fn=Tryz.f3:=(b4 (Tryz.func3.symm.trans aaH)).symm;exact⟨hG,fun J t aB=>by
    have hp:Tryz.f3.params=#[22]:=by kernel_rfl
    rw[hp]at aB;have ax:t∈[22]:=by simpa using Array.mem_of_getElem? aB
    have h7:([22].all fun Z=>!Tryz.prog.wantsStandIn Z)=true:=T4;exact(show Tryz.prog.wantsStandIn t=false by simpa using hg.1 h7 t ax)⟩)
  MK
end Go.Proofs.YtmljnmmdahlfdaaGreatDoor.fnTop
