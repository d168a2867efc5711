/-
  A part of the proof. No condition.
-/
import Derived.Test.YtmljnmmdahlfdaaGreatDoorA7
import Derived.Test.YtmljnmmdahlfdaaGreatDoorRows
import Derived.Test.YtmljnmmdahlfdaaGreatDoorChecked
import Derived.SevenTiedAt
set_option linter.all false
namespace Go.Proofs.YtmljnmmdahlfdaaGreatDoor.fnSession
open Go
def kz:(Rows.fnSessionRow.recurses==Tryz.prog.recurses 6)=true:=by kernel_rfl
def j6:(Rows.fnSessionRow.unfollowed==Tryz.prog.unfollowed 6)=true:=by kernel_rfl
def pC:(Rows.fnSessionRow.inPlace==Tryz.prog.inPlace 6)=true:=by kernel_rfl
def sE:(Rows.fnSessionRow.named==Tryz.prog.varsNamed 6)=true:=by kernel_rfl
def ax4:joinedFacts Tryz.pinned.checked.prog 6 Tryz.f6 Rows.fnSessionSpec Rows.fnSessionRow=true:=by have e:Tryz.pinned.checked.prog=Tryz.prog:=rfl;unfold joinedFacts;rw[e,kz,j6,pC,sE];show _=true;kernel_rfl
end Go.Proofs.YtmljnmmdahlfdaaGreatDoor.fnSession
