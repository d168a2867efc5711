/-
  A part of the proof. No condition.
-/
import Derived.Test.YtmljnmmdahlfdaaGreatDoorA7
import Derived.Test.YtmljnmmdahlfdaaGreatDoorRows
import Derived.Test.YtmljnmmdahlfdaaGreatDoorChecked
import Derived.SevenTiedAt
set_option linter.all false
namespace Go.Proofs.YtmljnmmdahlfdaaGreatDoor.fnExactRunSession
open Go
def l1:(Rows.fnExactRunSessionRow.recurses==Tryz.prog.recurses 4)=true:=by kernel_rfl
def ls:(Rows.fnExactRunSessionRow.unfollowed==Tryz.prog.unfollowed 4)=true:=by kernel_rfl
def pr:(Rows.fnExactRunSessionRow.inPlace==Tryz.prog.inPlace 4)=true:=by kernel_rfl
def ss:(Rows.fnExactRunSessionRow.named==Tryz.prog.varsNamed 4)=true:=by kernel_rfl
def axn:joinedFacts Tryz.pinned.checked.prog 4 Tryz.f4 Rows.fnExactRunSessionSpec Rows.fnExactRunSessionRow=true:=by have e:Tryz.pinned.checked.prog=Tryz.prog:=rfl;unfold joinedFacts;rw[e,l1,ls,pr,ss];show _=true;kernel_rfl
end Go.Proofs.YtmljnmmdahlfdaaGreatDoor.fnExactRunSession
