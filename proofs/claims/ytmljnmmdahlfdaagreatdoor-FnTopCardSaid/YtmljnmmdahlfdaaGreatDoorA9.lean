/-
  A part of the proof. No condition.
-/
import Derived.Test.YtmljnmmdahlfdaaGreatDoorA8
set_option linter.all false
namespace Go.Proofs.YtmljnmmdahlfdaaGreatDoor.fnTop
open Go
def dA:Rows.fnTopRow.wfByText (OpenSpec.ofChange Rows.fnTopSpec)=true:=by kernel_rfl
def dd:Tryz.prog.funcNamed "loop.example/g00959/laws.FnTop"=some 3:=by kernel_rfl
def hG:true=Tryz.prog.looks []:=by kernel_rfl
def T4:([22].all λZ=>!Tryz.prog.wantsStandIn Z)=true:=by kernel_rfl
def MK:false=Rows.fnTopRow.goesBy Tryz.prog:=by kernel_rfl
end Go.Proofs.YtmljnmmdahlfdaaGreatDoor.fnTop
