/-
  A part of the proof. No condition.
-/
import Derived.Test.YtmljnmmdahlfdaaGreatDoorA7
import Derived.Test.YtmljnmmdahlfdaaGreatDoorRows
import Derived.Test.YtmljnmmdahlfdaaGreatDoorChecked
import Derived.SevenTiedAt
set_option linter.all false
namespace Go.Proofs.YtmljnmmdahlfdaaGreatDoor.fnTop
open Go
def jS:(Rows.fnTopRow.recurses==Tryz.prog.recurses 3)=true:=by kernel_rfl
def ka:(Rows.fnTopRow.unfollowed==Tryz.prog.unfollowed 3)=true:=by kernel_rfl
def p3:(Rows.fnTopRow.inPlace==Tryz.prog.inPlace 3)=true:=by kernel_rfl
def tg:(Rows.fnTopRow.named==Tryz.prog.varsNamed 3)=true:=by kernel_rfl
def aAK:joinedFacts Tryz.pinned.checked.prog 3 Tryz.f3 Rows.fnTopSpec Rows.fnTopRow=true:=by have e:Tryz.pinned.checked.prog=Tryz.prog:=rfl;unfold joinedFacts;rw[e,jS,ka,p3,tg];show _=true;kernel_rfl
end Go.Proofs.YtmljnmmdahlfdaaGreatDoor.fnTop
