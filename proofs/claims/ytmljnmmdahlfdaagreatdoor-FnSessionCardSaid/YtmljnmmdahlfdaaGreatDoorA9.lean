/-
  A part of the proof. No condition.
-/
import Derived.Test.YtmljnmmdahlfdaaGreatDoorA8
set_option linter.all false
namespace Go.Proofs.YtmljnmmdahlfdaaGreatDoor.fnSession
open Go
def fe:Rows.fnSessionRow.wfByText (OpenSpec.ofChange Rows.fnSessionSpec)=true:=by kernel_rfl
def eC:Tryz.prog.funcNamed "loop.example/g00959/laws.FnSession"=some 6:=by kernel_rfl
def ia:true=Tryz.prog.looks []:=by kernel_rfl
def SH:([22].all λZ=>!Tryz.prog.wantsStandIn Z)=true:=by kernel_rfl
def LB:false=Rows.fnSessionRow.goesBy Tryz.prog:=by kernel_rfl
end Go.Proofs.YtmljnmmdahlfdaaGreatDoor.fnSession
