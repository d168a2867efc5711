/-
  A part of the proof. No condition.
-/
import Derived.Test.YtmljnmmdahlfdaaGreatDoorA8
set_option linter.all false
namespace Go.Proofs.YtmljnmmdahlfdaaGreatDoor.fnExactExecuteLine
open Go
def fm:Rows.fnExactExecuteLineRow.wfByText (OpenSpec.ofChange Rows.fnExactExecuteLineSpec)=true:=by kernel_rfl
def eK:Tryz.prog.funcNamed "loop.example/g00959/laws.FnExactExecuteLine"=some 5:=by kernel_rfl
def iG:true=Tryz.prog.looks []:=by kernel_rfl
def TB:([42,9].all λZ=>!Tryz.prog.wantsStandIn Z)=true:=by kernel_rfl
def Mq:false=Rows.fnExactExecuteLineRow.goesBy Tryz.prog:=by kernel_rfl
end Go.Proofs.YtmljnmmdahlfdaaGreatDoor.fnExactExecuteLine
