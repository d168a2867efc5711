/-
  A part of the proof. No condition.
-/
import Derived.Test.YtmljnmmdahlfdaaGreatDoorA8
set_option linter.all false
namespace Go.Proofs.YtmljnmmdahlfdaaGreatDoor.fnExactRunSession
open Go
def fc:Rows.fnExactRunSessionRow.wfByText (OpenSpec.ofChange Rows.fnExactRunSessionSpec)=true:=by kernel_rfl
def ez:Tryz.prog.funcNamed "loop.example/g00959/laws.FnExactRunSession"=some 4:=by kernel_rfl
def h8:true=Tryz.prog.looks []:=by kernel_rfl
def Sl:([9].all λZ=>!Tryz.prog.wantsStandIn Z)=true:=by kernel_rfl
def Lj:false=Rows.fnExactRunSessionRow.goesBy Tryz.prog:=by kernel_rfl
end Go.Proofs.YtmljnmmdahlfdaaGreatDoor.fnExactRunSession
