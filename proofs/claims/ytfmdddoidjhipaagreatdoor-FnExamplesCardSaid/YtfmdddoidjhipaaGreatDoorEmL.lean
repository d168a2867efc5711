/-
  The engine, part L. A law whose row lists package-level variables. No condition.
-/
import Derived.Test.YtfmdddoidjhipaaGreatDoorEm4
import Derived.LaidMore
import Derived.Handed
import Derived.MakeChecks
import Derived.Lib.LaidU8
import Derived.Stop.LaidErr
import Derived.Lay
namespace Go.Proofs.YtfmdddoidjhipaaGreatDoor.Eng
open Go Go.ChangeShapes Go.WideShapes Go.RowKit
set_option linter.unusedVariables false
section
variable {H:Type} {enc:TypeId × Value→H}
theorem law_lifted_laid {L:List (String × DataW Unit)} {D:Prop} {C:Checked} {os:Os} {f:FuncId} {fn:Func} {s:ChangeSpec} {conds:List PathCond} {apart fresh handsOn again:Bool} (tys:List Ty) {tb:TypeId}
    {F:PMs.den (tys.map (PM.d false))→Option (ResB (hasIo (tys.map (PM.d false))) (SKs.den [.l (.d false .bool)]) (PMo.den (tys.map (PM.d false))))}
    (own:ownKnob C.prog.godebug = none) (started:os.Started) (noInit:C.prog.inits.idxOf? f = none) (hfn:C.prog.funcs[f]? = some fn)
    (witness:∃ (w:World) (tape:Tape) (i:Input),w.os = os∧(w.forCall tape i).Shaped C.prog∧i.vars = []∧Input.okWide C.prog (w.forCall tape i) .any w.heap.size f i ∧
      ((s.pre enc C.prog fn conds apart (w.forCall tape i).memory i.args∧laidMetH C.prog L (w.forCall tape i).memory)∧sizedMet enc C.prog fn (OpenSpec.ofChange s) apart (w.forCall tape i).memory i.args)∧({}:Assume).holds C.prog (lone (Frame.enter C.prog f i.args .normal) [] (w.forCall tape i)))
    (hv:s.vars = []) (hfit:fits C.prog fn.params.toList tys = true) (hb:C.prog.underlying tb = some .bool) (hrt:fn.resultTypes = #[tb])
    (hs:∀ ds:List (DataW H),ds.length = tys.length→(s.fn H ds).results = [.lit (.bool true)]∧(s.fn H ds).args = ds∧(s.fn H ds).vars = [])
    (hctr:Ctr D C.prog ⟨f,tys.map (PM.d false),[.l (.d false .bool)],F⟩) (hF:∀ x,PMsOk tys x→∃ r,F x = some r∧(resB _ r).1 = true) (hpl:(L.all fun x=>x.2.handleName?.isNone) = true) (hgl:∀ W:World,W.ShapedOpen C.prog→laidMet C.prog L W→Gl W) :
    ReturnsInHanded {} C os f .any (fun w args=>(s.pre enc C.prog fn conds apart w args∧laidMetH C.prog L w)∧sizedMet enc C.prog fn (OpenSpec.ofChange s) apart w args) (s.post enc C.prog fn apart fresh handsOn again):=by
  refine returnsInHanded_of_calls own started noInit witness ?_
  intro w tape i _ hsh _ hok hpre hholds
  obtain ⟨_,_,_,fn',hfn',_,_,_,_,hval⟩:=hok
  have e:fn' = fn:=Option.some.inj (hfn'.symm.trans hfn)
  subst e
  obtain ⟨⟨⟨ds,gs,before,hw,hc⟩,hx⟩,hz⟩:=hpre
  have hw':=DataW.Whole.of_heap (w':=w.forCall tape i) (by rfl) hw
  rw [MakeChecks.laidMetH_plain _ _ _ hpl] at hx
  have hx':laidMet C.prog L (w.forCall tape i):=laidMet.of_heap (by rfl) hx
  refine (law_calls (apart:=apart) (fresh:=fresh) (handsOn:=handsOn) (again:=again) tys hv hfit hb hrt hs hctr hF (w.forCall tape i) w.heap.size i.args ds gs before hval hw' (hz.weights hw) (hgl _ hsh hx')).mono fun e W' ⟨v,he,hp⟩=>?_
  subst he
  exact ChangeSpec.post_blind hp
end
theorem tab_of_laid {P:Program} {L:List (String × DataW Unit)} {W:World} {n:String} {g t e:TypeId} {k:IntKind} {zs:List Int} {m:Nat} (h:laidMet P L W) (hm:(n,Lib.tabData k zs)∈L)
    (hg:P.globalNamed n = some g) (hty:(P.globals[g]?).map (·.type) = some t) (ht:P.underlying t = some (.array m e)) (he:P.underlying e = some (.int k)) (hce:P.cellsOf e = 1) (hct:P.cellsOf t = m) :
    ∃ o,W.heap[g]? = some o∧∃ t fr,o = .cells (zs.map fun z=>Value.int k z).toArray t fr:=by
  obtain ⟨g',t',cs,fuel,p,hg',hty',hvar,hd⟩:=Lib.laidMet.reads h hm
  obtain rfl:=Option.some.inj (hg.symm.trans hg')
  obtain rfl:=Option.some.inj (hty.symm.trans hty')
  have hcs:=Lib.cells_of_tab ht he hce hct hd
  unfold World.var? at hvar
  rw [hg] at hvar
  simp only [Option.bind_some] at hvar
  cases ho:W.heap[g]? with
  | none=>rw [ho] at hvar; cases hvar
  | some o =>
    rw [ho] at hvar
    cases o with
    | cells c t fr =>
      simp only [Option.some.injEq] at hvar
      subst hvar
      exact ⟨_,rfl,t,fr,by rw [← hcs]⟩
    | _=>simp at hvar
theorem iface_of_laid {P:Program} {L:List (String × DataW Unit)} {W:World} {n nm:String} {d:DataW Unit} {g t:TypeId} {ms:Array (String × TypeId)} (h:laidMet P L W) (hm:(n,.iface nm d)∈L)
    (hg:P.globalNamed n = some g) (hty:(P.globals[g]?).map (·.type) = some t) (ht:P.underlying t = some (.interface ms)) :
    ∃ o,W.heap[g]? = some o∧∃ te pe cs t fr,o = .cells cs t fr∧cs[0]? = some (.iface te pe):=by
  obtain ⟨g',t',cs,fuel,p,hg',hty',hvar,hd⟩:=Lib.laidMet.reads h hm
  obtain rfl:=Option.some.inj (hg.symm.trans hg')
  obtain rfl:=Option.some.inj (hty.symm.trans hty')
  obtain ⟨_,u,v,hcs,_⟩:=iface_of_trod ht hd
  unfold World.var? at hvar
  rw [hg] at hvar
  simp only [Option.bind_some] at hvar
  cases ho:W.heap[g]? with
  | none=>rw [ho] at hvar; cases hvar
  | some o =>
    rw [ho] at hvar
    cases o with
    | cells c t fr =>
      simp only [Option.some.injEq] at hvar
      subst hvar
      exact ⟨_,rfl,u,v,c,t,fr,rfl,by rw [← Array.getElem?_toList,hcs]; rfl⟩
    | _=>simp at hvar
theorem int_of_cell {W:World} {g:Nat} (h:∃ m,W.cell? ⟨g,0,none⟩ = some (.int .i64 m)):∃ o,W.heap[g]? = some o∧∃ m cs t fr,o = .cells cs t fr∧cs[0]? = some (.int .i64 m):=by
  obtain ⟨m,h⟩:=h
  unfold World.cell? at h
  cases ho:W.heap[g]? with
  | none=>simp [ho] at h
  | some o =>
    cases o with
    | cells c t fr =>
      refine ⟨_,rfl,m,c,t,fr,rfl,?_⟩
      simpa [ho] using h
    | _=>simp [ho] at h
end Go.Proofs.YtfmdddoidjhipaaGreatDoor.Eng
