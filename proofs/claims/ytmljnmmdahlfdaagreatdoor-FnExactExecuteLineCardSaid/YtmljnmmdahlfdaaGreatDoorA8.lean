/-
  A part of the proof. No condition.
-/
import Derived.Test.YtmljnmmdahlfdaaGreatDoorA7
import Derived.Test.YtmljnmmdahlfdaaGreatDoorRows
import Derived.Test.YtmljnmmdahlfdaaGreatDoorChecked
import Derived.SevenTiedAt
set_option linter.all false
namespace Go.Proofs.YtmljnmmdahlfdaaGreatDoor.fnExactExecuteLine
open Go
def my:(Rows.fnExactExecuteLineRow.recurses==Tryz.prog.recurses 5)=true:=by kernel_rfl
def lV:(Rows.fnExactExecuteLineRow.unfollowed==Tryz.prog.unfollowed 5)=true:=by kernel_rfl
def p6:(Rows.fnExactExecuteLineRow.inPlace==Tryz.prog.inPlace 5)=true:=by kernel_rfl
def tr:(Rows.fnExactExecuteLineRow.named==Tryz.prog.varsNamed 5)=true:=by kernel_rfl
def azN:joinedFacts Tryz.pinned.checked.prog 5 Tryz.f5 Rows.fnExactExecuteLineSpec Rows.fnExactExecuteLineRow=true:=by have e:Tryz.pinned.checked.prog=Tryz.prog:=rfl;unfold joinedFacts;rw[e,my,lV,p6,tr];show _=true;kernel_rfl
end Go.Proofs.YtmljnmmdahlfdaaGreatDoor.fnExactExecuteLine
