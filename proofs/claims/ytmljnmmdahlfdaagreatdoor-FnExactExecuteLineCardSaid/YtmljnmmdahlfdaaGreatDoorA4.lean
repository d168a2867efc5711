/-
  A part of the proof. No condition.
-/
import Derived.Test.YtmljnmmdahlfdaaGreatDoorA3
set_option linter.all false
namespace Go.Proofs.YtmljnmmdahlfdaaGreatDoor
noncomputable section
open Go Go.RowKit Go.Proofs.YtmljnmmdahlfdaaGreatDoor.Eng
set_option maxRecDepth 100000
open Go.IntKind (i64 u8)
open Go.IntKind renaming wrap->W_
open Option renaming bind->B_
open Decidable renaming decide->d_
open Tryz
abbrev ap:=List (List Int)
abbrev bM:a3:=.int .i64
abbrev bG:a3:=.list bM
abbrev eX:a3:=.list bG
abbrev a0:cO:=.l (.d false bM)
abbrev ci:cO:=.l (.d false .bool)
abbrev hF:cO:=.l (.d false .str)
abbrev wh:cO:=.l (.d false bG)
abbrev If:cO:=.l (.d false eX)
abbrev cR(n:TypeId):cO:=.l (.o true n bM)
abbrev cx(n:TypeId):cO:=.l (.o true n bG)
abbrev l1(n:TypeId):cO:=.l (.o true n .str)
abbrev eD:cH:=.d false bM
abbrev aqO:cH:=.d false .bool
abbrev jq:cH:=.d false .str
abbrev dq:cH:=.d false bG
abbrev cm:cH:=.d false eX
abbrev cG(i:Nat)(s:List (Nat×cO))(n:Nat)(b:List (Nat×cO)):qw:=⟨i,s,some (n,b),none,false,none⟩
abbrev cw(i k:Nat):w7:=⟨i,[],[],[],k⟩
def nB:List (TypeId×a3):=[(3,bM),(5,.int .u8),(9,.str),(24,eX),(65,bG),(86,.prod bG bM),(132,.prod bG bM)]
def pu:Tryz.prog.follows .mixedOrders=true:=by kernel_rfl
abbrev bn(af:Prop)(e:a8):Prop:=dJ Tryz.prog e.f/\ga af Tryz.prog e
def Nt(O:List a8)(A:List qw)(bB:List w7)(I:List nh)(V:List Nat)(aS:List (Nat×List Nat))(e:a8):Bool×(iw.den e.ps->Option (uf (fe e.ps) (gD.den e.rs) (nd.den e.ps))):=match Tryz.prog.funcs[e.f]? with|some fn=>(p9 fn e.ps,λx=>xk ⟨Tryz.prog,nB,O,A,bB,I,V,aS⟩ fn e.ps e.rs x)|none=>(false,e.F)
def wi(V:List Nat)(aS:List (Nat×List Nat))(O:List a8)(A:List qw)(bB:List w7)(I:List nh){af:Prop}{e:a8}(h:r9 af Tryz.prog O)(hi:uQ af Tryz.prog I)(k:Nt O A bB I V aS e=(true,e.F):=by kernel_rfl):bn af e:=by unfold Nt at k;cases aG:Tryz.prog.funcs[e.f]? with|none=>rw[aG]at k;exact Bool.noConfusion (congrArg Prod.fst k)|some fn=>rw[aG]at k;exact HA (N:=⟨Tryz.prog,nB,O,A,bB,I,V,aS⟩) pu h aG (congrArg Prod.fst k) (λx=>congrFun (congrArg Prod.snd k) x) hi
def VF(O:List a8)(A:List qw)(bB:List w7)(I:List nh){af:Prop}{e:a8}(h:r9 af Tryz.prog O)(hi:uQ af Tryz.prog I)(k:Nt O A bB I .nil .nil e=(true,e.F):=by kernel_rfl):bn af e:=wi [] [] O A bB I h hi k
def bo(O:List a8)(A:List qw)(bB:List w7){af:Prop}{e:a8}(h:r9 af Tryz.prog O)(k:Nt O A bB .nil .nil .nil e=(true,e.F):=by kernel_rfl):bn af e:=wi [] [] O A bB [] h trivial k
def Ig(L:Int):Option ByteArray:=cond (L==1) (some ⟨#[48,44,48,32,49,44,48,32,48,44,49]⟩) (cond (L==2) (some ⟨#[48,44,48,32,50,44,48,32,48,44,50]⟩) (cond (L==3) (some ⟨#[45,49,44,45,49,32,49,44,45,49,32,49,44,49,32,45,49,44,49]⟩) (cond (L==4) (some ⟨#[48,44,48,32,51,44,48,32,49,44,50]⟩) (cond (L==5) (some ⟨#[45,49,44,45,49,32,50,44,45,49,32,45,49,44,50]⟩) (cond (L==6) (some ⟨#[48,44,48,32,53,44,50,32,51,44,52]⟩) (some ⟨#[]⟩))))))
def ad0:a8:=⟨178,[eD],[hF],λx=>Ig x⟩
def aqP{af:Prop}:bn af ad0:=bo [] [] [] trivial
def wj(L:ByteArray)(ax:Int)(S:List ByteArray×Int×Int):Option (List ByteArray×Int×Int⊕List ByteArray):=cond (d_ (S.2.2<=(L.size:Int))) (cond (S.2.2==(L.size:Int)) (B_ (vm L S.2.1 S.2.2) λaa=>B_ (bO 16 S.1 [aa]) λak=>some (.inl (ak,(W_ i64 (S.2.2+1),W_ i64 (S.2.2+1))))) (B_ (idx L.data.toList S.2.2) λar=>cond ((ar.toNat:Int)==ax) (B_ (vm L S.2.1 S.2.2) λv5=>B_ (bO 16 S.1 [v5]) λaR=>some (.inl (aR,(W_ i64 (S.2.2+1),W_ i64 (S.2.2+1))))) (some (.inl (S.1,(S.2.1,W_ i64 (S.2.2+1))))))) (some (.inr S.1))
def yc(L:ByteArray)(ax:Int):Option (List ByteArray):=B_ (aY (wj L ax) ([],(0,0))) λaP=>some aP
def Ih:a8:=⟨30,[jq,.d false (.int .u8)],[l1 9],λx=>yc x.1 x.2⟩
def Nu{af:Prop}:bn af Ih:=bo [] [cG 4 [(5,l1 9),(6,a0),(7,a0)] 0 [(5,l1 9)]] [] trivial
def DT(S:Int×ByteArray):Option (Int×ByteArray⊕ByteArray):=cond (S.1 !=0) (B_ (gu .i64 S.1 10) λaa=>cond (d_ (aa<0)) (B_ (fM (o0 [W_ u8 (W_ i64 (48+W_ i64 (0-aa)))]) S.2) λak=>B_ (gn .i64 S.1 10) λar=>some (.inl (ar,ak))) (B_ (fM (o0 [W_ u8 (W_ i64 (48+aa))]) S.2) λv5=>B_ (gn .i64 S.1 10) λaR=>some (.inl (aR,v5)))) (some (.inr S.2))
def jc(L:Int):Option ByteArray:=cond (L==0) (some ⟨#[48]⟩) (B_ (aY DT (L,⟨#[]⟩)) λaP=>cond (d_ (L<0)) (B_ (fM ⟨#[45]⟩ aP) λbl=>some bl) (some aP))
def uV:a8:=⟨218,[eD],[hF],λx=>jc x⟩
def wk{af:Prop}:bn af uV:=bo [] [cG 5 [(0,a0),(4,hF)] 0 [(4,hF)]] [] trivial
def uW(aa:ByteArray)(ak:Int×Int):Option (Int×Int⊕Int⊕Int×Bool):=cond (d_ (ak.2<(aa.size:Int))) (B_ (idx aa.data.toList ak.2) λar=>cond (d_ ((ar.toNat:Int)<48)) (some (.inr (.inr (0,false)))) (B_ (idx aa.data.toList ak.2) λv5=>cond (d_ ((v5.toNat:Int)>57)) (some (.inr (.inr (0,false)))) (B_ (idx aa.data.toList ak.2) λaR=>some (.inl (W_ i64 (W_ i64 (10*ak.1)+W_ i64 (W_ u8 ((aR.toNat:Int)-48))),W_ i64 (ak.2+1)))))) (some (.inr (.inl ak.1)))
def ad1(L:ByteArray)(bK:Int×Int):Option (Int×Int⊕Int⊕Int×Bool):=cond (d_ (bK.2<(L.size:Int))) (B_ (idx L.data.toList bK.2) λc1=>cond (d_ ((c1.toNat:Int)<48)) (some (.inr (.inr (0,false)))) (B_ (idx L.data.toList bK.2) λdH=>cond (d_ ((dH.toNat:Int)>57)) (some (.inr (.inr (0,false)))) (B_ (idx L.data.toList bK.2) λdF=>some (.inl (W_ i64 (W_ i64 (10*bK.1)+W_ i64 (W_ u8 ((dF.toNat:Int)-48))),W_ i64 (bK.2+1)))))) (some (.inr (.inl bK.1)))
def ad2(L:ByteArray)(eZ:Int×Int):Option (Int×Int⊕Int⊕Int×Bool):=cond (d_ (eZ.2<(L.size:Int))) (B_ (idx L.data.toList eZ.2) λhQ=>cond (d_ ((hQ.toNat:Int)<48)) (some (.inr (.inr (0,false)))) (B_ (idx L.data.toList eZ.2) λie=>cond (d_ ((ie.toNat:Int)>57)) (some (.inr (.inr (0,false)))) (B_ (idx L.data.toList eZ.2) λig=>some (.inl (W_ i64 (W_ i64 (10*eZ.1)+W_ i64 (W_ u8 ((ig.toNat:Int)-48))),W_ i64 (eZ.2+1)))))) (some (.inr (.inl eZ.1)))
def Nv(L:ByteArray)(ax:Int):Option (Int×Bool):=cond (d_ ((L.size:Int)>0)) (B_ (idx L.data.toList 0) λS=>cond ((S.toNat:Int)==45) (B_ (vm L 1 (L.size:Int)) λaa=>cond (d_ ((aa.size:Int)<1)) (some (0,false)) (cond (d_ ((aa.size:Int)>ax)) (some (0,false)) (B_ (aY (uW aa) (0,0)) λaP=>match aP with|.inl bl=>cond ((S.toNat:Int)==45) (B_ (jc (W_ i64 (0-bl))) λbH=>cond (! bH.toList==L.toList) (some (0,false)) (some (W_ i64 (0-bl),true))) (B_ (jc bl) λbF=>cond (! bF.toList==L.toList) (some (0,false)) (some (bl,true)))|.inr bk=>some (bk.1,bk.2)))) (cond (d_ ((L.size:Int)<1)) (some (0,false)) (cond (d_ ((L.size:Int)>ax)) (some (0,false)) (B_ (aY (ad1 L) (0,0)) λek=>match ek with|.inl dK=>cond ((S.toNat:Int)==45) (B_ (jc (W_ i64 (0-dK))) λfj=>cond (! fj.toList==L.toList) (some (0,false)) (some (W_ i64 (0-dK),true))) (B_ (jc dK) λdY=>cond (! dY.toList==L.toList) (some (0,false)) (some (dK,true)))|.inr eT=>some (eT.1,eT.2))))) (cond (d_ ((L.size:Int)<1)) (some (0,false)) (cond (d_ ((L.size:Int)>ax)) (some (0,false)) (B_ (aY (ad2 L) (0,0)) λjD=>match jD with|.inl l2=>B_ (jc l2) λih=>cond (! ih.toList==L.toList) (some (0,false)) (some (l2,true))|.inr ly=>some (ly.1,ly.2))))
def ad3:a8:=⟨216,[jq,eD],[a0,ci],λx=>Nv x.1 x.2⟩
def aqQ{af:Prop}:bn af ad3:=bo [uV] [⟨9,[(8,a0),(9,a0)],some (0,[(8,a0)]),some [(4,a0),(5,ci)],false,none⟩] [] ⟨wk,trivial⟩
def tC(L:ByteArray):Option (Int×Bool):=B_ (Nv L 12) λS=>some (S.1,S.2)
def DU:a8:=⟨157,[jq],[a0,ci],λx=>tC x⟩
def Ii{af:Prop}:bn af DU:=bo [ad3] [] [] ⟨aqQ,trivial⟩
def nC(L:Int)(ax:Int)(dm:Int):Option Bool:=cond (d_ (L>=ax)) (some (d_ (L<=dm))) (some false)
def rj:a8:=⟨79,[eD,eD,eD],[ci],λx=>nC x.1 x.2.1 x.2.2⟩
def so{af:Prop}:bn af rj:=bo [] [] [] trivial
def VG(L:List Int)(ax:Int)(S:Int):Option (Int⊕Unit⊕Bool):=cond (d_ (S<(L.length:Int))) (B_ (idx L S) λaa=>B_ (nC aa (W_ i64 (0-ax)) ax) λak=>cond (!ak) (some (.inr (.inr false))) (some (.inl (W_ i64 (S+1))))) (some (.inr (.inl ())))
def qf(L:List Int)(ax:Int):Option Bool:=B_ (aY (VG L ax) 0) λar=>match ar with|.inl v5=>some true|.inr aR=>some aR
def ye:a8:=⟨166,[dq,eD],[ci],λx=>qf x.1 x.2⟩
def AQ{af:Prop}:bn af ye:=bo [rj] [⟨2,[(5,a0)],some (0,[]),some [(4,ci)],false,none⟩] [] ⟨so,trivial⟩
def AR(L:List Int):Option Bool:=B_ (nC (L.length:Int) 1 3) λS=>cond S (B_ (qf L 1000) λaa=>some aa) (some false)
def Ij:a8:=⟨214,[dq],[ci],λx=>AR x⟩
def Nw{af:Prop}:bn af Ij:=bo [rj,ye] [] [] ⟨so,AQ,trivial⟩
def ad4(S:List ByteArray)(aa:List Int×Int):Option (List Int×Int⊕List Int⊕List Int×Bool):=cond (d_ (aa.2<(S.length:Int))) (B_ (idx S aa.2) λak=>B_ (tC ak) λar=>cond (!ar.2) (some (.inr (.inr ([],false)))) (B_ (bO 8 aa.1 [ar.1]) λv5=>some (.inl (v5,W_ i64 (aa.2+1))))) (some (.inr (.inl aa.1)))
def sp(L:ByteArray):Option (List Int×Bool):=B_ (yc L 44) λS=>B_ (aY (ad4 S) ([],0)) λaR=>match aR with|.inl aP=>B_ (AR aP) λbk=>cond (!bk) (some ([],false)) (some (aP,true))|.inr bl=>some (bl.1,bl.2)
def DV:a8:=⟨155,[jq],[cR 3,ci],λx=>sp x⟩
def Ik{af:Prop}:bn af DV:=bo [Ih,DU,Ij] [⟨4,[(4,cR 3),(6,a0)],some (0,[(4,cR 3)]),some [(2,cR 3),(3,ci)],false,none⟩] [] ⟨Nu,Ii,Nw,trivial⟩
def Nx(L:ap)(S:Int):Option (Int⊕Unit⊕Bool):=cond (d_ (S<(L.length:Int))) (B_ (idx L S) λaa=>cond ((aa.length:Int)!=2) (some (.inr (.inr false))) (B_ (idx L S) λak=>B_ (qf ak 50) λar=>cond (!ar) (some (.inr (.inr false))) (some (.inl (W_ i64 (S+1)))))) (some (.inr (.inl ())))
def Il(L:ap):Option Bool:=B_ (aY (Nx L) 0) λv5=>match v5 with|.inl aR=>some true|.inr aP=>some aP
def VH:a8:=⟨80,[cm],[ci],λx=>Il x⟩
def ad5{af:Prop}:bn af VH:=bo [ye] [⟨2,[(3,a0)],some (0,[]),some [(2,ci)],false,none⟩] [] ⟨AQ,trivial⟩
def Ny(L:List Int)(ax:List Int)(S:Int):Option (Int⊕Unit⊕Bool):=cond (d_ (S<(L.length:Int))) (cond (d_ (S<(ax.length:Int))) (B_ (idx L S) λaa=>B_ (idx ax S) λak=>cond (aa !=ak) (B_ (idx L S) λar=>B_ (idx ax S) λv5=>some (.inr (.inr (d_ (ar<v5))))) (some (.inl (W_ i64 (S+1))))) (some (.inr (.inl ())))) (some (.inr (.inl ())))
def Im(L:List Int)(ax:List Int):Option Bool:=B_ (aY (Ny L ax) 0) λaR=>match aR with|.inl aP=>some false|.inr bl=>some bl
def VI:a8:=⟨176,[dq,dq],[ci],λx=>Im x.1 x.2⟩
def ad6{af:Prop}:bn af VI:=bo [] [⟨2,[(5,a0)],some (0,[]),some [(4,ci)],false,none⟩] [cw 4 0,cw 5 0] trivial
def Nz(L:List Int)(ax:List Int)(S:Int):Option (Int⊕Unit⊕Bool):=cond (d_ (S<(L.length:Int))) (B_ (idx L S) λaa=>B_ (idx ax S) λak=>cond (aa !=ak) (some (.inr (.inr false))) (some (.inl (W_ i64 (S+1))))) (some (.inr (.inl ())))
def uX(L:List Int)(ax:List Int):Option Bool:=cond ((L.length:Int)!=(ax.length:Int)) (some false) (B_ (aY (Nz L ax) 0) λar=>match ar with|.inl v5=>some true|.inr aR=>some aR)
def DW:a8:=⟨163,[dq,dq],[ci],λx=>uX x.1 x.2⟩
def In{af:Prop}:bn af DW:=bo [] [⟨4,[(5,a0)],some (0,[]),some [(4,ci)],false,none⟩] [cw 6 0] trivial
def AS(ax:List Int)(S:ap×Int):Option (ap×Int⊕ap×Int):=cond (d_ (S.2>0)) (B_ (bE S.1.length (W_ i64 (S.2-1))) λ_=>B_ (idx S.1 (((W_ i64 (S.2-(1:Int))).toNat:Nat):Int)) λaa=>B_ (Im ax aa) λak=>cond ak (some (.inl (S.1,W_ i64 (S.2-1)))) (some (.inr (S.1,S.2)))) (some (.inr (S.1,S.2)))
def yf(L:ap)(ax:List Int):Option ap:=B_ (aY (AS ax) (L,(L.length:Int))) λar=>cond (d_ (ar.2>0)) (B_ (bE ar.1.length (W_ i64 (ar.2-1))) λ_=>B_ (idx ar.1 (((W_ i64 (ar.2-(1:Int))).toNat:Nat):Int)) λv5=>B_ (uX v5 ax) λaR=>cond aR (some ar.1) (B_ (fd ar.1 ar.2 (ar.1.length:Int)) λaP=>B_ (fd ar.1 (ar.2.toNat:Int) ((ar.1.length:Int).toNat:Int)) λbl=>B_ (bO 24 [] bl) λbk=>B_ (fd ar.1 0 ar.2) λbH=>B_ (bO 8 [] ax) λbF=>B_ (bO 24 bH [bF]) λbK=>B_ (bO 24 bK bk) λc1=>some c1)) (B_ (fd ar.1 ar.2 (ar.1.length:Int)) λdH=>B_ (fd ar.1 (ar.2.toNat:Int) ((ar.1.length:Int).toNat:Int)) λdF=>B_ (bO 24 [] dF) λek=>B_ (fd ar.1 0 ar.2) λdK=>B_ (bO 8 [] ax) λeT=>B_ (bO 24 dK [eT]) λfj=>B_ (bO 24 fj ek) λdY=>some dY)
def VJ:a8:=⟨167,[.mv false 65 bG,dq],[.l (.o false 65 bG)],λx=>yf x.1 x.2⟩
def ad7{af:Prop}:bn af VJ:=wi [35] [(7,[0,1,2,4,8,3,5,6,7,9,10])] [VI,DW] [cG 2 [(0,.l (.o false 65 bG)),(5,a0)] 0 [(0,.l (.o false 65 bG)),(5,a0)]] [cw 7 0] [] ⟨ad6,In,trivial⟩ trivial
def Io(L:List Int)(ax:List Int)(S:List Int×Int):Option (List Int×Int⊕List Int):=cond (d_ (S.2<(L.length:Int))) (B_ (idx L S.2) λaa=>B_ (idx ax S.2) λak=>B_ (bO 8 S.1 [W_ i64 (aa-ak)]) λar=>some (.inl (ar,W_ i64 (S.2+1)))) (some (.inr S.1))
def mD(L:List Int)(ax:List Int):Option (List Int):=B_ (aY (Io L ax) ([],0)) λv5=>some v5
def AT:a8:=⟨170,[dq,dq],[cR 3],λx=>mD x.1 x.2⟩
def DX{af:Prop}:bn af AT:=bo [] [cG 3 [(5,cR 3),(6,a0)] 0 [(5,cR 3)]] [cw 5 0] trivial
def nD(L:List Int)(ax:List Int):Option Int:=B_ (idx L 0) λS=>B_ (idx ax 1) λaa=>B_ (idx L 1) λak=>B_ (idx ax 0) λar=>some (W_ i64 (W_ i64 (S*aa)-W_ i64 (ak*ar)))
def wl:a8:=⟨177,[dq,dq],[a0],λx=>nD x.1 x.2⟩
def yg{af:Prop}:bn af wl:=bo [] [] [cw 1 0] trivial
def AU(L:List Int)(ax:List Int)(dm:List Int):Option Int:=B_ (mD ax L) λS=>B_ (mD dm ax) λaa=>B_ (nD S aa) λak=>some ak
def NA:a8:=⟨237,[dq,dq,dq],[a0],λx=>AU x.1 x.2.1 x.2.2⟩
def VK{af:Prop}:bn af NA:=bo [AT,wl] [] [] ⟨DX,yg,trivial⟩
def AV(S:ap×Int)(ar:List Int)(v5:ap):Option (ap⊕ap):=cond (d_ ((v5.length:Int)>=W_ i64 ((S.1.length:Int)+2))) (B_ (bE v5.length (W_ i64 ((v5.length:Int)-2))) λ_=>B_ (idx v5 (((W_ i64 ((v5.length:Int)-(2:Int))).toNat:Nat):Int)) λaR=>B_ (bE v5.length (W_ i64 ((v5.length:Int)-1))) λ_=>B_ (idx v5 (((W_ i64 ((v5.length:Int)-(1:Int))).toNat:Nat):Int)) λaP=>B_ (AU aR aP ar) λbl=>cond (d_ (bl<=0)) (B_ (fd v5 0 (W_ i64 ((v5.length:Int)-1))) λbk=>some (.inl bk)) (some (.inr v5))) (some (.inr v5))
def aqR(S:ap×Int)(ak:List Int)(bK:ap):Option (ap⊕ap):=cond (d_ ((bK.length:Int)>=W_ i64 ((S.1.length:Int)+2))) (B_ (bE bK.length (W_ i64 ((bK.length:Int)-2))) λ_=>B_ (idx bK (((W_ i64 ((bK.length:Int)-(2:Int))).toNat:Nat):Int)) λc1=>B_ (bE bK.length (W_ i64 ((bK.length:Int)-1))) λ_=>B_ (idx bK (((W_ i64 ((bK.length:Int)-(1:Int))).toNat:Nat):Int)) λdH=>B_ (AU c1 dH ak) λdF=>cond (d_ (dF<=0)) (B_ (fd bK 0 (W_ i64 ((bK.length:Int)-1))) λek=>some (.inl ek)) (some (.inr bK))) (some (.inr bK))
def Ip(L:ap)(S:ap×Int)(aa:ap×Int):Option (ap×Int⊕ap):=cond (d_ (aa.2<(L.length:Int))) (B_ (idx L aa.2) λak=>cond (S.2==1) (B_ (idx L (W_ i64 (W_ i64 ((L.length:Int)-1)-aa.2))) λar=>B_ (aY (AV S ar) aa.1) λbH=>B_ (bO 24 bH [ar]) λbF=>some (.inl (bF,W_ i64 (aa.2+1)))) (B_ (aY (aqR S ak) aa.1) λdK=>B_ (bO 24 dK [ak]) λeT=>some (.inl (eT,W_ i64 (aa.2+1))))) (some (.inr aa.1))
def Iq(L:ap)(S:ap×Int):Option (ap×Int⊕ap):=cond (d_ (S.2<2)) (B_ (aY (Ip L S) (S.1,0)) λfj=>B_ (fd fj 0 (W_ i64 ((fj.length:Int)-1))) λdY=>some (.inl (dY,W_ i64 (S.2+1)))) (some (.inr S.1))
def Ir(L:ap):Option ap:=B_ (aY (Iq L) ([],0)) λeZ=>some eZ
def VL:a8:=⟨168,[cm],[.l (.o false 65 bG)],λx=>Ir x⟩
def ad8{af:Prop}:bn af VL:=bo [NA] [cG 3 [(3,.l (.o false 65 bG)),(4,a0)] 0 [(3,.l (.o false 65 bG))],cG 7 [(3,.l (.o false 65 bG)),(6,a0)] 2 [(3,.l (.o false 65 bG))],cG 12 [(3,.l (.o false 65 bG))] 4 [(3,.l (.o false 65 bG))]] [cw 12 0] ⟨VK,trivial⟩
def AW(L:ap)(S:ap×Int):Option (ap×Int⊕ap):=cond (d_ (S.2<(L.length:Int))) (B_ (idx L S.2) λaa=>B_ (bO 8 [] aa) λak=>B_ (bO 24 S.1 [ak]) λar=>some (.inl (ar,W_ i64 (S.2+1)))) (some (.inr S.1))
def oQ(L:ap):Option ap:=B_ (aY (AW L) ([],0)) λv5=>some v5
def Is:a8:=⟨74,[cm],[cx 65],λx=>oQ x⟩
def NB{af:Prop}:bn af Is:=bo [] [cG 3 [(3,cx 65),(4,a0)] 0 [(3,cx 65)]] [] trivial
def It(L:ap)(aa:ap×Int):Option (ap×Int⊕ap):=cond (d_ (aa.2<(L.length:Int))) (B_ (idx L aa.2) λak=>B_ (yf aa.1 ak) λar=>some (.inl (ar,W_ i64 (aa.2+1)))) (some (.inr aa.1))
def uY(L:ap):Option (ap×Bool):=cond (d_ ((L.length:Int)>200)) (some ([],false)) (B_ (Il L) λS=>cond (!S) (some ([],false)) (B_ (aY (It L) ([],0)) λv5=>cond (d_ ((v5.length:Int)<3)) (some ([],false)) (B_ (Ir v5) λaR=>cond (d_ ((aR.length:Int)<3)) (some ([],false)) (cond (d_ ((aR.length:Int)>12)) (some ([],false)) (B_ (oQ aR) λaP=>some (aP,true))))))
def AX:a8:=⟨81,[cm],[cx 65,ci],λx=>uY x⟩
def DY{af:Prop}:bn af AX:=bo [VH,VJ,VL,Is] [cG 5 [(4,.l (.o false 65 bG)),(5,a0)] 0 [(4,.l (.o false 65 bG))]] [] ⟨ad5,ad7,ad8,NB,trivial⟩
def NC(L:ap)(ax:ap)(S:Int):Option (Int⊕Unit⊕Bool):=cond (d_ (S<(L.length:Int))) (B_ (idx L S) λaa=>B_ (idx ax S) λak=>B_ (uX aa ak) λar=>cond (!ar) (some (.inr (.inr false))) (some (.inl (W_ i64 (S+1))))) (some (.inr (.inl ())))
def Iu(L:ap)(ax:ap):Option Bool:=cond ((L.length:Int)!=(ax.length:Int)) (some false) (B_ (aY (NC L ax) 0) λv5=>match v5 with|.inl aR=>some true|.inr aP=>some aP)
def VM:a8:=⟨77,[cm,cm],[ci],λx=>Iu x.1 x.2⟩
def ad9{af:Prop}:bn af VM:=bo [DW] [⟨4,[(5,a0)],some (0,[]),some [(4,ci)],false,none⟩] [cw 6 0] ⟨In,trivial⟩
def kt(L:ap):Option Bool:=B_ (nC (L.length:Int) 3 12) λS=>cond (!S) (some false) (B_ (Il L) λaa=>cond (!aa) (some false) (B_ (uY L) λak=>cond ak.2 (B_ (Iu ak.1 L) λar=>some ar) (some false)))
def l3:a8:=⟨13,[cm],[ci],λx=>kt x⟩
def mE{af:Prop}:bn af l3:=bo [rj,VH,AX,VM] [] [] ⟨so,ad5,DY,ad9,trivial⟩
def yh(S:List ByteArray)(aa:ap×Int):Option (ap×Int⊕ap⊕ap×Bool):=cond (d_ (aa.2<(S.length:Int))) (B_ (idx S aa.2) λak=>B_ (sp ak) λar=>cond (!ar.2) (some (.inr (.inr ([],false)))) (cond (d_ (aa.2>=12)) (some (.inr (.inr ([],false)))) (B_ (bO 24 aa.1 [ar.1]) λv5=>some (.inl (v5,W_ i64 (aa.2+1)))))) (some (.inr (.inl aa.1)))
def AY(L:ByteArray):Option (ap×Bool):=B_ (yc L 32) λS=>B_ (aY (yh S) ([],0)) λaR=>match aR with|.inl aP=>B_ (kt aP) λbk=>cond (!bk) (some ([],false)) (some (aP,true))|.inr bl=>some (bl.1,bl.2)
def VN:a8:=⟨153,[jq],[cx 65,ci],λx=>AY x⟩
def aea{af:Prop}:bn af VN:=bo [Ih,DV,l3] [⟨4,[(4,cx 65),(6,a0)],some (0,[(4,cx 65)]),some [(2,cx 65),(3,ci)],false,none⟩] [] ⟨Nu,Ik,mE,trivial⟩
def Iv(L:List ByteArray)(ax:ByteArray)(S:List Int×Int):Option (List Int×Int⊕List Int):=cond (d_ (S.2<(L.length:Int))) (cond (d_ (S.2>0)) (B_ (bO 1 S.1 (nS ax)) λaa=>B_ (idx L S.2) λak=>B_ (bO 1 aa (nS ak)) λar=>some (.inl (ar,W_ i64 (S.2+1)))) (B_ (idx L S.2) λv5=>B_ (bO 1 S.1 (nS v5)) λaR=>some (.inl (aR,W_ i64 (S.2+1))))) (some (.inr S.1))
def tD(L:List ByteArray)(ax:ByteArray):Option ByteArray:=B_ (aY (Iv L ax) ([],0)) λaP=>some (o0 aP)
def DZ:a8:=⟨96,[.d false (.list .str),jq],[hF],λx=>tD x.1 x.2⟩
def Iw{af:Prop}:bn af DZ:=bo [] [cG 3 [(5,.l (.o true 5 (.int .u8))),(6,a0)] 0 [(5,.l (.o true 5 (.int .u8)))]] [] trivial
def ND(L:List Int)(S:List ByteArray×Int):Option (List ByteArray×Int⊕List ByteArray):=cond (d_ (S.2<(L.length:Int))) (B_ (idx L S.2) λaa=>B_ (jc aa) λak=>B_ (bO 16 S.1 [ak]) λar=>some (.inl (ar,W_ i64 (S.2+1)))) (some (.inr S.1))
def tE(L:List Int):Option ByteArray:=B_ (aY (ND L) ([],0)) λv5=>B_ (tD v5 ⟨#[44]⟩) λaR=>some aR
def AZ:a8:=⟨159,[dq],[hF],λx=>tE x⟩
def D0{af:Prop}:bn af AZ:=bo [uV,DZ] [cG 3 [(3,l1 9),(4,a0)] 0 [(3,l1 9)]] [] ⟨wk,Iw,trivial⟩
def Ix(L:ap)(aa:List ByteArray×Int):Option (List ByteArray×Int⊕List ByteArray):=cond (d_ (aa.2<(L.length:Int))) (B_ (idx L aa.2) λak=>B_ (tE ak) λar=>B_ (bO 16 aa.1 [ar]) λv5=>some (.inl (v5,W_ i64 (aa.2+1)))) (some (.inr aa.1))
def A0(L:ap):Option ByteArray:=B_ (kt L) λS=>cond (!S) (some ⟨#[]⟩) (B_ (aY (Ix L) ([],0)) λaR=>B_ (tD aR ⟨#[32]⟩) λaP=>some aP)
def VO:a8:=⟨75,[cm],[hF],λx=>A0 x⟩
def aeb{af:Prop}:bn af VO:=bo [l3,AZ,DZ] [cG 5 [(3,l1 9),(4,a0)] 0 [(3,l1 9)]] [] ⟨mE,D0,Iw,trivial⟩
def D1(L:ap×ap):Option (ap×ap):=B_ (oQ L.1) λS=>B_ (oQ L.2) λaa=>some (S,aa)
def aec:a8:=⟨72,[.d false (.prod eX eX)],[.a [.o true 65 bG,.o true 65 bG]],λx=>D1 x⟩
def aqS{af:Prop}:bn af aec:=bo [Is] [] [cw 1 0] ⟨NB,trivial⟩
def NE(L:List Int)(ax:Int)(S:List Int×Int):Option (List Int×Int⊕List Int):=cond (d_ (S.2<(L.length:Int))) (B_ (idx L S.2) λaa=>B_ (bO 8 S.1 [W_ i64 (aa*ax)]) λak=>some (.inl (ak,W_ i64 (S.2+1)))) (some (.inr S.1))
def ku(L:List Int)(ax:Int):Option (List Int):=B_ (aY (NE L ax) ([],0)) λar=>some ar
def D2:a8:=⟨173,[dq,eD],[cR 3],λx=>ku x.1 x.2⟩
def Iy{af:Prop}:bn af D2:=bo [] [cG 3 [(5,cR 3),(6,a0)] 0 [(5,cR 3)]] [] trivial
def NF(L:ap)(aa:ap×Int):Option (ap×Int⊕ap):=cond (d_ (aa.2<(L.length:Int))) (B_ (idx L aa.2) λak=>B_ (ku ak (-1)) λar=>B_ (bO 24 aa.1 [ar]) λv5=>some (.inl (v5,W_ i64 (aa.2+1)))) (some (.inr aa.1))
def Iz(L:ap):Option (ap×Bool):=B_ (kt L) λS=>cond (!S) (some ([],false)) (B_ (aY (NF L) ([],0)) λaR=>B_ (uY aR) λaP=>some (aP.1,aP.2))
def VP:a8:=⟨211,[cm],[cx 65,ci],λx=>Iz x⟩
def aed{af:Prop}:bn af VP:=bo [l3,D2,AX] [cG 5 [(4,cx 65),(5,a0)] 0 [(4,cx 65)]] [] ⟨mE,Iy,DY,trivial⟩
def sr(L:Int)(ax:Int):Option Int:=cond (d_ (L>ax)) (some L) (some ax)
def IA:a8:=⟨239,[eD,eD],[a0],λx=>sr x.1 x.2⟩
def NG{af:Prop}:bn af IA:=bo [] [] [] trivial
def D3(L:Int):Option Int:=B_ (sr L (W_ i64 (0-L))) λS=>some S
def VQ:a8:=⟨322,[eD],[a0],λx=>D3 x⟩
def aee{af:Prop}:bn af VQ:=bo [IA] [] [] ⟨NG,trivial⟩
def NH(ak:Int×Int):Option (Int×Int⊕Int):=cond (ak.2 !=0) (B_ (gu .i64 ak.1 ak.2) λar=>some (.inl (ak.2,ar))) (some (.inr ak.1))
def D4(L:Int)(ax:Int):Option Int:=B_ (D3 L) λS=>B_ (D3 ax) λaa=>B_ (aY NH (S,aa)) λv5=>some v5
def VR:a8:=⟨292,[eD,eD],[a0],λx=>D4 x.1 x.2⟩
def aef{af:Prop}:bn af VR:=bo [VQ] [cG 3 [(0,a0),(1,a0)] 0 [(0,a0)]] [] ⟨aee,trivial⟩
def NI(L:List Int)(S:Int×Int):Option (Int×Int⊕Int):=cond (d_ (S.2<(L.length:Int))) (B_ (idx L S.2) λaa=>B_ (D4 S.1 aa) λak=>some (.inl (ak,W_ i64 (S.2+1)))) (some (.inr S.1))
def wm(L:List Int):Option Int:=B_ (aY (NI L) (0,0)) λar=>some ar
def D5:a8:=⟨238,[dq],[a0],λx=>wm x⟩
def IB{af:Prop}:bn af D5:=bo [VR] [cG 3 [(3,a0),(4,a0)] 0 [(3,a0)]] [] ⟨aef,trivial⟩
def NJ(L:List Int)(S:Int)(aa:List Int×Int):Option (List Int×Int⊕List Int):=cond (d_ (aa.2<(L.length:Int))) (B_ (idx L aa.2) λak=>B_ (sr S 1) λar=>B_ (gn .i64 ak ar) λv5=>B_ (bO 8 aa.1 [v5]) λaR=>some (.inl (aR,W_ i64 (aa.2+1)))) (some (.inr aa.1))
def D6(L:List Int):Option (List Int):=B_ (wm L) λS=>B_ (aY (NJ L S) ([],0)) λaP=>some aP
def VS:a8:=⟨169,[dq],[cR 3],λx=>D6 x⟩
def aeg{af:Prop}:bn af VS:=bo [D5,IA] [cG 4 [(4,cR 3),(5,a0)] 0 [(4,cR 3)]] [cw 6 0] ⟨IB,NG,trivial⟩
def D7(L:List Int)(S:Int)(aa:Int)(ak:Int):Option (Int⊕Unit⊕List Int):=cond (d_ (ak<4)) (B_ (idx [[aa,S],[aa,W_ i64 (0-S)],[S,aa],[W_ i64 (0-S),aa]] ak) λar=>B_ (nD L ar) λv5=>cond (v5==1) (B_ (idx [[aa,S],[aa,W_ i64 (0-S)],[S,aa],[W_ i64 (0-S),aa]] ak) λaR=>some (.inr (.inr aR))) (some (.inl (W_ i64 (ak+1))))) (some (.inr (.inl ())))
def D8(L:List Int)(S:Int)(aa:Int):Option (Int⊕Unit⊕List Int):=cond (d_ (aa<=S)) (B_ (aY (D7 L S aa) 0) λaP=>match aP with|.inl bl=>some (.inl (W_ i64 (aa+1)))|.inr bk=>some (.inr (.inr bk))) (some (.inr (.inl ())))
def NK(L:List Int)(S:Int):Option (Int⊕List Int):=B_ (aY (D8 L S) (W_ i64 (0-S))) λbH=>match bH with|.inl bF=>some (.inl (W_ i64 (S+1)))|.inr bK=>some (.inr bK)
def A1(L:List Int):Option (List Int):=B_ (aY (NK L) 0) λc1=>some c1
def VT:a8:=⟨171,[dq],[wh],λx=>A1 x⟩
def aeh{af:Prop}:bn af VT:=bo [wl] [⟨3,[(3,a0)],none,some [(2,wh)],false,none⟩,⟨4,[(4,a0)],some (2,[]),some [(2,wh)],false,none⟩,⟨8,[(6,a0)],some (4,[]),some [(2,wh)],false,none⟩] [] ⟨yg,trivial⟩
def A2(L:List Int)(ax:List Int)(S:Int×Int):Option (Int×Int⊕Int):=cond (d_ (S.2<(L.length:Int))) (cond (d_ (S.2<(ax.length:Int))) (B_ (idx L S.2) λaa=>B_ (idx ax S.2) λak=>some (.inl (W_ i64 (S.1+W_ i64 (aa*ak)),W_ i64 (S.2+1)))) (some (.inr S.1))) (some (.inr S.1))
def nE(L:List Int)(ax:List Int):Option Int:=B_ (aY (A2 L ax) (0,0)) λar=>some ar
def D9:a8:=⟨240,[dq,dq],[a0],λx=>nE x.1 x.2⟩
def IC{af:Prop}:bn af D9:=bo [] [cG 3 [(5,a0),(6,a0)] 0 [(5,a0)]] [cw 5 0] trivial
def NL(L:ap)(ax:List Int)(S:List Int×Int):Option (List Int×Int⊕List Int):=cond (d_ (S.2<(L.length:Int))) (B_ (idx L S.2) λaa=>B_ (nE aa ax) λak=>B_ (bO 8 S.1 [ak]) λar=>some (.inl (ar,W_ i64 (S.2+1)))) (some (.inr S.1))
def rk(L:ap)(ax:List Int):Option (List Int):=B_ (aY (NL L ax) ([],0)) λv5=>some v5
def VU:a8:=⟨172,[cm,dq],[cR 3],λx=>rk x.1 x.2⟩
def aei{af:Prop}:bn af VU:=bo [D9] [cG 3 [(5,cR 3),(6,a0)] 0 [(5,cR 3)]] [] ⟨IC,trivial⟩
def yi(L:Int)(ax:Int):Option Int:=B_ (gn .i64 L ax) λS=>B_ (gu .i64 L ax) λaa=>cond (d_ (aa<0)) (some (W_ i64 (S-1))) (some S)
def VV:a8:=⟨174,[eD,eD],[a0],λx=>yi x.1 x.2⟩
def aej{af:Prop}:bn af VV:=bo [] [] [] trivial
def ID(L:List Int)(ax:List Int)(dm:List Int):Option (ap×List Int):=B_ (mD ax L) λS=>B_ (D6 S) λaa=>B_ (A1 aa) λak=>B_ (idx ak 1) λar=>B_ (idx ak 0) λv5=>B_ (idx aa 1) λaR=>B_ (idx aa 0) λaP=>B_ (mD dm L) λbl=>B_ (rk [[ar,W_ i64 (0-v5)],[W_ i64 (0-aR),aP]] bl) λbk=>B_ (bE bk.length 1) λ_=>B_ (idx bk (((1:Int).toNat:Nat):Int)) λbH=>cond (d_ (bH<0)) (B_ (bE ([[ar,W_ i64 (0-v5)],[W_ i64 (0-aR),aP]]:ap).length 1) λ_=>B_ (idx [[ar,W_ i64 (0-v5)],[W_ i64 (0-aR),aP]] (((1:Int).toNat:Nat):Int)) λbF=>B_ (ku bF (-1)) λbK=>B_ (bE ([[ar,W_ i64 (0-v5)],[W_ i64 (0-aR),aP]]:ap).length 1) λ_=>B_ (bE ([[ar,W_ i64 (0-v5)],[W_ i64 (0-aR),aP]]:ap).length (((1:Int).toNat:Nat):Int)) λ_=>B_ (bE bk.length 1) λ_=>B_ (idx bk (((1:Int).toNat:Nat):Int)) λc1=>B_ (bE bk.length 1) λ_=>B_ (bE bk.length (((1:Int).toNat:Nat):Int)) λ_=>B_ (bE (([[ar,W_ i64 (0-v5)],[W_ i64 (0-aR),aP]]:ap).set (1:Int).toNat bK).length 0) λ_=>B_ (idx (([[ar,W_ i64 (0-v5)],[W_ i64 (0-aR),aP]]:ap).set (1:Int).toNat bK) (((0:Int).toNat:Nat):Int)) λdH=>B_ (bE (([[ar,W_ i64 (0-v5)],[W_ i64 (0-aR),aP]]:ap).set (1:Int).toNat bK).length 1) λ_=>B_ (idx (([[ar,W_ i64 (0-v5)],[W_ i64 (0-aR),aP]]:ap).set (1:Int).toNat bK) (((1:Int).toNat:Nat):Int)) λdF=>B_ (bE (bk.set (1:Int).toNat (W_ i64 (0-c1))).length 0) λ_=>B_ (idx (bk.set (1:Int).toNat (W_ i64 (0-c1))) (((0:Int).toNat:Nat):Int)) λek=>B_ (bE (bk.set (1:Int).toNat (W_ i64 (0-c1))).length 1) λ_=>B_ (idx (bk.set (1:Int).toNat (W_ i64 (0-c1))) (((1:Int).toNat:Nat):Int)) λdK=>B_ (yi ek dK) λeT=>B_ (ku dF eT) λfj=>B_ (mD dH fj) λdY=>B_ (bE (([[ar,W_ i64 (0-v5)],[W_ i64 (0-aR),aP]]:ap).set (1:Int).toNat bK).length 0) λ_=>B_ (bE (([[ar,W_ i64 (0-v5)],[W_ i64 (0-aR),aP]]:ap).set (1:Int).toNat bK).length (((0:Int).toNat:Nat):Int)) λ_=>B_ (rk ((([[ar,W_ i64 (0-v5)],[W_ i64 (0-aR),aP]]:ap).set (1:Int).toNat bK).set (0:Int).toNat dY) L) λeZ=>B_ (ku eZ (-1)) λhQ=>some ((([[ar,W_ i64 (0-v5)],[W_ i64 (0-aR),aP]]:ap).set (1:Int).toNat bK).set (0:Int).toNat dY,hQ)) (B_ (bE ([[ar,W_ i64 (0-v5)],[W_ i64 (0-aR),aP]]:ap).length 0) λ_=>B_ (idx [[ar,W_ i64 (0-v5)],[W_ i64 (0-aR),aP]] (((0:Int).toNat:Nat):Int)) λie=>B_ (bE ([[ar,W_ i64 (0-v5)],[W_ i64 (0-aR),aP]]:ap).length 1) λ_=>B_ (idx [[ar,W_ i64 (0-v5)],[W_ i64 (0-aR),aP]] (((1:Int).toNat:Nat):Int)) λig=>B_ (bE bk.length 0) λ_=>B_ (idx bk (((0:Int).toNat:Nat):Int)) λjD=>B_ (bE bk.length 1) λ_=>B_ (idx bk (((1:Int).toNat:Nat):Int)) λl2=>B_ (yi jD l2) λly=>B_ (ku ig ly) λih=>B_ (mD ie ih) λkv=>B_ (bE ([[ar,W_ i64 (0-v5)],[W_ i64 (0-aR),aP]]:ap).length 0) λ_=>B_ (bE ([[ar,W_ i64 (0-v5)],[W_ i64 (0-aR),aP]]:ap).length (((0:Int).toNat:Nat):Int)) λ_=>B_ (rk (([[ar,W_ i64 (0-v5)],[W_ i64 (0-aR),aP]]:ap).set (0:Int).toNat kv) L) λkw=>B_ (ku kw (-1)) λjO=>some (([[ar,W_ i64 (0-v5)],[W_ i64 (0-aR),aP]]:ap).set (0:Int).toNat kv,jO))
def aek:a8:=⟨83,[dq,dq,dq],[.a [.o true 65 bG,.o true 3 bM]],λx=>ID x.1 x.2.1 x.2.2⟩
def aqT{af:Prop}:bn af aek:=bo [AT,VS,VT,VU,D2,VV] [] [cw 3 0,cw 8 0] ⟨DX,aeg,aeh,aei,Iy,aej,trivial⟩
def A3(L:List Int)(ax:List Int)(S:List Int×Int):Option (List Int×Int⊕List Int):=cond (d_ (S.2<(L.length:Int))) (B_ (idx L S.2) λaa=>B_ (idx ax S.2) λak=>B_ (bO 8 S.1 [W_ i64 (aa+ak)]) λar=>some (.inl (ar,W_ i64 (S.2+1)))) (some (.inr S.1))
def uZ(L:List Int)(ax:List Int):Option (List Int):=B_ (aY (A3 L ax) ([],0)) λv5=>some v5
def IE:a8:=⟨175,[dq,dq],[cR 3],λx=>uZ x.1 x.2⟩
def NM{af:Prop}:bn af IE:=bo [] [cG 3 [(5,cR 3),(6,a0)] 0 [(5,cR 3)]] [cw 5 0] trivial
def wn(L:ap×List Int)(ax:List Int):Option (List Int):=B_ (rk L.1 ax) λS=>B_ (uZ S L.2) λaa=>some aa
def VW:a8:=⟨84,[.d false (.prod eX bG),dq],[cR 3],λx=>wn x.1 x.2⟩
def ael{af:Prop}:bn af VW:=bo [VU,IE] [] [cw 1 0] ⟨aei,NM,trivial⟩
def u0(L:ap)(ax:ap)(S:Int):Option (Int⊕Unit⊕Bool):=cond (d_ (S<(L.length:Int))) (cond (d_ (S<(ax.length:Int))) (B_ (idx L S) λaa=>B_ (idx ax S) λak=>B_ (uX aa ak) λar=>cond (!ar) (B_ (idx L S) λv5=>B_ (idx ax S) λaR=>B_ (Im v5 aR) λaP=>some (.inr (.inr aP))) (some (.inl (W_ i64 (S+1))))) (some (.inr (.inl ())))) (some (.inr (.inl ())))
def Ea(L:ap)(ax:ap):Option Bool:=B_ (aY (u0 L ax) 0) λbl=>match bl with|.inl bk=>some (d_ ((L.length:Int)<(ax.length:Int)))|.inr bH=>some bH
def aem:a8:=⟨85,[cm,cm],[ci],λx=>Ea x.1 x.2⟩
def aqU{af:Prop}:bn af aem:=bo [DW,VI] [⟨2,[(5,a0)],some (0,[]),some [(4,ci)],false,none⟩] [cw 4 0,cw 5 0] ⟨In,ad6,trivial⟩
def IF(L:ap)(bF:ap×List Int)(bK:ap×Int):Option (ap×Int⊕ap):=cond (d_ (bK.2<(L.length:Int))) (B_ (idx L bK.2) λc1=>B_ (wn (bF.1,bF.2) c1) λdH=>B_ (bO 24 bK.1 [dH]) λdF=>some (.inl (dF,W_ i64 (bK.2+1)))) (some (.inr bK.1))
def aen(L:ap)(bk:ap×List Int)(fj:ap×Int):Option (ap×Int⊕ap):=cond (d_ (fj.2<(L.length:Int))) (B_ (idx L fj.2) λdY=>B_ (wn (bk.1,bk.2) dY) λeZ=>B_ (bO 24 fj.1 [eZ]) λhQ=>some (.inl (hQ,W_ i64 (fj.2+1)))) (some (.inr fj.1))
def A4(L:ap)(aa:ap×Int)(ak:ap×Int):Option (ap×Int⊕ap⊕ap×Bool):=cond (d_ (ak.2<2)) (B_ (gu .i64 (W_ i64 (aa.2+1)) (L.length:Int)) λar=>B_ (idx L ar) λv5=>B_ (gu .i64 (W_ i64 (W_ i64 (aa.2+(L.length:Int))-1)) (L.length:Int)) λaR=>B_ (idx L aR) λaP=>B_ (idx L aa.2) λbl=>B_ (ID bl v5 aP) λbk=>cond (ak.2==1) (B_ (idx L aa.2) λbH=>B_ (ID bH aP v5) λbF=>B_ (aY (IF L bF) ([],0)) λek=>B_ (uY ek) λdK=>cond (!dK.2) (some (.inr (.inr ([],false)))) (cond ((ak.1.length:Int)==0) (some (.inl (dK.1,W_ i64 (ak.2+1)))) (B_ (Ea dK.1 ak.1) λeT=>cond eT (some (.inl (dK.1,W_ i64 (ak.2+1)))) (some (.inl (ak.1,W_ i64 (ak.2+1))))))) (B_ (aY (aen L bk) ([],0)) λie=>B_ (uY ie) λig=>cond (!ig.2) (some (.inr (.inr ([],false)))) (cond ((ak.1.length:Int)==0) (some (.inl (ig.1,W_ i64 (ak.2+1)))) (B_ (Ea ig.1 ak.1) λjD=>cond jD (some (.inl (ig.1,W_ i64 (ak.2+1)))) (some (.inl (ak.1,W_ i64 (ak.2+1)))))))) (some (.inr (.inl ak.1)))
def IG(L:ap)(aa:ap×Int):Option (ap×Int⊕ap⊕ap×Bool):=cond (d_ (aa.2<(L.length:Int))) (B_ (aY (A4 L aa) (aa.1,0)) λl2=>match l2 with|.inl ly=>some (.inl (ly,W_ i64 (aa.2+1)))|.inr ih=>some (.inr (.inr (ih.1,ih.2)))) (some (.inr (.inl aa.1)))
def Eb(L:ap):Option (ap×Bool):=B_ (kt L) λS=>cond (!S) (some ([],false)) (B_ (aY (IG L) ([],0)) λkv=>match kv with|.inl kw=>some (kw,true)|.inr jO=>some (jO.1,jO.2))
def VX:a8:=⟨15,[cm],[If,ci],λx=>Eb x⟩
def aeo{af:Prop}:bn af VX:=bo [l3,aek,VW,AX,aem] [⟨6,[(4,If),(6,a0)],some (0,[(4,If)]),some [(2,cx 65),(3,ci)],false,none⟩,⟨9,[(4,If),(7,a0)],some (2,[(4,If)]),some [(2,cx 65),(3,ci)],false,none⟩,cG 18 [(11,cx 65),(12,a0)] 4 [(11,cx 65)]] [cw 20 0] ⟨mE,aqT,ael,DY,aqU,trivial⟩
def Ec(L:ap)(S:Int×Int):Option (Int×Int⊕Int):=cond (d_ (S.2<(L.length:Int))) (B_ (idx L S.2) λaa=>B_ (gu .i64 (W_ i64 (S.2+1)) (L.length:Int)) λak=>B_ (idx L ak) λar=>B_ (nD aa ar) λv5=>some (.inl (W_ i64 (S.1+v5),W_ i64 (S.2+1)))) (some (.inr S.1))
def oh(L:ap):Option Int:=B_ (aY (Ec L) (0,0)) λaR=>some aR
def A5:a8:=⟨86,[cm],[a0],λx=>oh x⟩
def Ed{af:Prop}:bn af A5:=bo [wl] [cG 3 [(3,a0),(4,a0)] 0 [(3,a0)]] [cw 5 0] ⟨yg,trivial⟩
def NN(L:ap)(ax:Int):Option Int:=B_ (gu .i64 (W_ i64 (ax+1)) (L.length:Int)) λS=>B_ (idx L S) λaa=>B_ (idx L ax) λak=>B_ (mD aa ak) λar=>B_ (wm ar) λv5=>some v5
def aep:a8:=⟨324,[cm,eD],[a0],λx=>NN x.1 x.2⟩
def aqV{af:Prop}:bn af aep:=bo [AT,D5] [] [cw 1 0] ⟨DX,IB,trivial⟩
def NO(L:ap)(aa:Int×Int):Option (Int×Int⊕Int):=cond (d_ (aa.2<(L.length:Int))) (B_ (NN L aa.2) λak=>some (.inl (W_ i64 (aa.1+ak),W_ i64 (aa.2+1)))) (some (.inr aa.1))
def yj(L:ap):Option Int:=B_ (kt L) λS=>cond (!S) (some (-1)) (B_ (aY (NO L) (0,0)) λar=>some ar)
def IH:a8:=⟨271,[cm],[a0],λx=>yj x⟩
def NP{af:Prop}:bn af IH:=bo [l3,aep] [cG 5 [(3,a0),(4,a0)] 0 [(3,a0)]] [] ⟨mE,aqV,trivial⟩
def Ee(L:ap):Option Int:=B_ (kt L) λS=>cond (!S) (some (-1)) (B_ (oh L) λaa=>B_ (yj L) λak=>B_ (gn .i64 (W_ i64 (W_ i64 (aa-ak)+2)) 2) λar=>some ar)
def NQ:a8:=⟨272,[cm],[a0],λx=>Ee x⟩
def VY{af:Prop}:bn af NQ:=bo [l3,A5,IH] [] [] ⟨mE,Ed,NP,trivial⟩
def wo(L:ap)(ax:List Int)(S:Int×Int):Option (Int×Int⊕Int⊕Int):=cond (d_ (S.2<(L.length:Int))) (B_ (idx L S.2) λaa=>B_ (gu .i64 (W_ i64 (S.2+1)) (L.length:Int)) λak=>B_ (idx L ak) λar=>B_ (AU aa ar ax) λv5=>cond (d_ (v5<0)) (some (.inr (.inr (-1)))) (cond (v5==0) (some (.inl (0,W_ i64 (S.2+1)))) (some (.inl (S.1,W_ i64 (S.2+1)))))) (some (.inr (.inl S.1)))
def u1(L:ap)(ax:List Int):Option Int:=B_ (aY (wo L ax) (1,0)) λaR=>match aR with|.inl aP=>some aP|.inr bl=>some bl
def NR:a8:=⟨285,[cm,dq],[a0],λx=>u1 x.1 x.2⟩
def VZ{af:Prop}:bn af NR:=bo [NA] [⟨3,[(5,a0),(6,a0)],some (0,[(5,a0)]),some [(4,a0)],false,none⟩] [cw 5 0] ⟨VK,trivial⟩
def II(L:ap):Option Bool:=B_ (kt L) λS=>cond S (B_ (Ee L) λaa=>cond (aa==1) (B_ (u1 L [0,0]) λak=>some (ak==1)) (some false)) (some false)
def V0:a8:=⟨268,[cm],[ci],λx=>II x⟩
def aeq{af:Prop}:bn af V0:=bo [l3,NQ,NR] [] [] ⟨mE,VY,VZ,trivial⟩
def NS(L:List Int)(ax:List Int):Option (List Int):=B_ (nD L ax) λS=>B_ (idx ax 1) λaa=>B_ (idx L 1) λak=>B_ (gn .i64 (W_ i64 (aa-ak)) S) λar=>B_ (idx L 0) λv5=>B_ (idx ax 0) λaR=>B_ (gn .i64 (W_ i64 (v5-aR)) S) λaP=>some [ar,aP]
def aer:a8:=⟨269,[dq,dq],[cR 3],λx=>NS x.1 x.2⟩
def aqW{af:Prop}:bn af aer:=bo [wl] [] [cw 2 0] ⟨yg,trivial⟩
def NT(L:ap)(aa:ap×Int):Option (ap×Int⊕ap):=cond (d_ (aa.2<(L.length:Int))) (B_ (idx L aa.2) λak=>B_ (gu .i64 (W_ i64 (aa.2+1)) (L.length:Int)) λar=>B_ (idx L ar) λv5=>B_ (NS ak v5) λaR=>B_ (bO 24 aa.1 [aR]) λaP=>some (.inl (aP,W_ i64 (aa.2+1)))) (some (.inr aa.1))
def Ef(L:ap):Option (ap×Bool):=B_ (II L) λS=>cond (!S) (some ([],false)) (B_ (aY (NT L) ([],0)) λbl=>B_ (uY bl) λbk=>cond (!bk.2) (some ([],false)) (some (bk.1,true)))
def V1:a8:=⟨212,[cm],[cx 65,ci],λx=>Ef x⟩
def aes{af:Prop}:bn af V1:=bo [V0,aer,AX] [cG 5 [(4,cx 65),(5,a0)] 0 [(4,cx 65)]] [cw 7 0] ⟨aeq,aqW,DY,trivial⟩
def IJ(L:ap)(ax:ap)(ak:ap×Int)(ar:ap×Int):Option (ap×Int⊕ap):=cond (d_ (ar.2<(ax.length:Int))) (B_ (idx L ak.2) λv5=>B_ (idx ax ar.2) λaR=>B_ (uZ v5 aR) λaP=>B_ (bO 24 ar.1 [aP]) λbl=>some (.inl (bl,W_ i64 (ar.2+1)))) (some (.inr ar.1))
def NU(L:ap)(ax:ap)(ak:ap×Int):Option (ap×Int⊕ap):=cond (d_ (ak.2<(L.length:Int))) (B_ (aY (IJ L ax ak) (ak.1,0)) λbk=>some (.inl (bk,W_ i64 (ak.2+1)))) (some (.inr ak.1))
def IK(L:ap)(ax:ap):Option (ap×Bool):=B_ (kt L) λS=>cond (!S) (some ([],false)) (B_ (kt ax) λaa=>cond (!aa) (some ([],false)) (B_ (aY (NU L ax) ([],0)) λbH=>B_ (uY bH) λbF=>cond (!bF.2) (some ([],false)) (some (bF.1,true))))
def V2:a8:=⟨213,[cm,cm],[cx 65,ci],λx=>IK x.1 x.2⟩
def aet{af:Prop}:bn af V2:=bo [l3,IE,AX] [cG 5 [(6,cx 65),(7,a0)] 0 [(6,cx 65)],cG 8 [(6,cx 65),(8,a0)] 2 [(6,cx 65)]] [cw 10 0] ⟨mE,NM,DY,trivial⟩
def NV(L:ap×ap)(ax:ByteArray):Option (ap×Bool×Bool):=cond (ax.toList==(⟨#[109,105,114,114,111,114]⟩:ByteArray).toList) (B_ (Iz L.1) λS=>some (S.1,(S.2,true))) (cond (ax.toList==(⟨#[110,111,114,109,97,108]⟩:ByteArray).toList) (B_ (Eb L.1) λaa=>some (aa.1,(aa.2,true))) (cond (ax.toList==(⟨#[100,117,97,108]⟩:ByteArray).toList) (B_ (Ef L.1) λak=>some (ak.1,(ak.2,true))) (cond (ax.toList==(⟨#[115,117,109]⟩:ByteArray).toList) (B_ (IK L.1 L.2) λar=>some (ar.1,(ar.2,true))) (some ([],(false,false))))))
def aeu:a8:=⟨154,[.d false (.prod eX eX),jq],[.a [.d false eX,.d false .bool,.d false .bool]],λx=>NV x.1 x.2⟩
def aqX{af:Prop}:bn af aeu:=bo [VP,VX,V1,V2] [] [] ⟨aed,aeo,aes,aet,trivial⟩
def NW(L:ap)(S:Int):Option (Int⊕Unit⊕Bool):=cond (d_ (S<(L.length:Int))) (B_ (idx L S) λaa=>cond ((aa.length:Int)!=(L.length:Int)) (some (.inr (.inr false))) (B_ (idx L S) λak=>B_ (qf ak 100) λar=>cond (!ar) (some (.inr (.inr false))) (some (.inl (W_ i64 (S+1)))))) (some (.inr (.inl ())))
def NX(L:ap):Option Bool:=B_ (aY (NW L) 0) λv5=>match v5 with|.inl aR=>B_ (nC (L.length:Int) 1 3) λbl=>some bl|.inr aP=>some aP
def aev:a8:=⟨348,[cm],[ci],λx=>NX x⟩
def aqY{af:Prop}:bn af aev:=bo [ye,rj] [⟨2,[(3,a0)],some (0,[]),some [(2,ci)],false,none⟩] [] ⟨AQ,so,trivial⟩
def Eg(L:ap)(bF:Int×Int):Option (Int×Int⊕Int):=cond (d_ (bF.2<3)) (B_ (gu .i64 (W_ i64 (bF.2+1)) 3) λbK=>B_ (gu .i64 (W_ i64 (bF.2+2)) 3) λc1=>B_ (idx L 0) λdH=>B_ (idx dH bF.2) λdF=>B_ (idx L 1) λek=>B_ (idx ek bK) λdK=>B_ (idx L 2) λeT=>B_ (idx eT c1) λfj=>B_ (idx L 1) λdY=>B_ (idx dY c1) λeZ=>B_ (idx L 2) λhQ=>B_ (idx hQ bK) λie=>some (.inl (W_ i64 (bF.1+W_ i64 (dF*W_ i64 (W_ i64 (dK*fj)-W_ i64 (eZ*ie)))),W_ i64 (bF.2+1)))) (some (.inr bF.1))
def u2(L:ap):Option Int:=cond ((L.length:Int)==1) (B_ (idx L 0) λS=>B_ (idx S 0) λaa=>some aa) (cond ((L.length:Int)==2) (B_ (idx L 0) λak=>B_ (idx ak 0) λar=>B_ (idx L 1) λv5=>B_ (idx v5 1) λaR=>B_ (idx L 0) λaP=>B_ (idx aP 1) λbl=>B_ (idx L 1) λbk=>B_ (idx bk 0) λbH=>some (W_ i64 (W_ i64 (ar*aR)-W_ i64 (bl*bH)))) (B_ (aY (Eg L) (0,0)) λig=>some ig))
def V3:a8:=⟨349,[cm],[a0],λx=>u2 x⟩
def aew{af:Prop}:bn af V3:=bo [] [cG 8 [(3,a0),(4,a0)] 1 [(3,a0)]] [cw 5 0,cw 12 0] trivial
def V4(L:ap):Option Int:=B_ (NX L) λS=>cond (!S) (some 0) (B_ (u2 L) λaa=>some aa)
def aex:a8:=⟨323,[cm],[a0],λx=>V4 x⟩
def aqZ{af:Prop}:bn af aex:=bo [aev,V3] [] [] ⟨aqY,aew,trivial⟩
def NY(L:ap):Option Bool:=B_ (V4 L) λS=>B_ (D3 S) λaa=>some (aa==1)
def aey:a8:=⟨270,[cm],[ci],λx=>NY x⟩
def aq0{af:Prop}:bn af aey:=bo [aex,VQ] [] [] ⟨aqZ,aee,trivial⟩
def NZ(L:ap×List Int):Option Bool:=cond ((L.1.length:Int)==2) (B_ (NY L.1) λS=>cond S (B_ (AR L.2) λaa=>cond aa (some ((L.2.length:Int)==2)) (some false)) (some false)) (some false)
def aez:a8:=⟨215,[.d false (.prod eX bG)],[ci],λx=>NZ x⟩
def aq1{af:Prop}:bn af aez:=bo [aey,Ij] [] [] ⟨aq0,Nw,trivial⟩
def N0(L:ap×List Int)(ax:ap)(ak:ap×Int):Option (ap×Int⊕ap):=cond (d_ (ak.2<(ax.length:Int))) (B_ (idx ax ak.2) λar=>B_ (wn (L.1,L.2) ar) λv5=>B_ (bO 24 ak.1 [v5]) λaR=>some (.inl (aR,W_ i64 (ak.2+1)))) (some (.inr ak.1))
def Eh(L:ap×List Int)(ax:ap):Option (ap×Bool):=B_ (NZ (L.1,L.2)) λS=>cond (!S) (some ([],false)) (B_ (kt ax) λaa=>cond (!aa) (some ([],false)) (B_ (aY (N0 L ax) ([],0)) λaP=>B_ (uY aP) λbl=>cond (!bl.2) (some ([],false)) (some (bl.1,true))))
def V5:a8:=⟨156,[.d false (.prod eX bG),cm],[cx 65,ci],λx=>Eh x.1 x.2⟩
def aeA{af:Prop}:bn af V5:=bo [aez,l3,VW,AX] [cG 5 [(6,cx 65),(7,a0)] 0 [(6,cx 65)]] [cw 7 0] ⟨aq1,mE,ael,DY,trivial⟩
def IL(L:ap)(ax:Int)(ak:ap×Int):Option (ap×Int⊕ap):=cond (d_ (ak.2<(L.length:Int))) (B_ (idx L ak.2) λar=>B_ (ku ar ax) λv5=>B_ (bO 24 ak.1 [v5]) λaR=>some (.inl (aR,W_ i64 (ak.2+1)))) (some (.inr ak.1))
def N1(L:ap)(ax:Int):Option (ap×Bool):=B_ (kt L) λS=>cond (!S) (some ([],false)) (B_ (nC ax 1 1000) λaa=>cond (!aa) (some ([],false)) (B_ (aY (IL L ax) ([],0)) λaP=>B_ (kt aP) λbl=>cond (!bl) (some ([],false)) (some (aP,true))))
def aeB:a8:=⟨217,[cm,eD],[cx 65,ci],λx=>N1 x.1 x.2⟩
def aq2{af:Prop}:bn af aeB:=bo [l3,rj,D2] [cG 5 [(6,cx 65),(7,a0)] 0 [(6,cx 65)]] [] ⟨mE,so,Iy,trivial⟩
def N2(L:ap×ap)(ax:ByteArray)(dm:Int):Option (ap×Bool×Bool):=cond (ax.toList==(⟨#[101,120,97,109,112,108,101]⟩:ByteArray).toList) (B_ (Ig dm) λS=>B_ (AY S) λaa=>some (aa.1,(aa.2,true))) (cond (ax.toList==(⟨#[100,105,108,97,116,101]⟩:ByteArray).toList) (B_ (N1 L.1 dm) λak=>some (ak.1,(ak.2,true))) (cond (ax.toList==(⟨#[115,104,101,97,114]⟩:ByteArray).toList) (B_ (Eh ([[1,dm],[0,1]],[0,0]) L.1) λar=>some (ar.1,(ar.2,true))) (some ([],(false,false)))))
def aeC:a8:=⟨158,[.d false (.prod eX eX),jq,eD],[.a [.o true 65 bG,.d false .bool,.d false .bool]],λx=>N2 x.1 x.2.1 x.2.2⟩
def aq3{af:Prop}:bn af aeC:=bo [ad0,VN,aeB,V5] [] [] ⟨aqP,aea,aq2,aeA,trivial⟩
def Ei(L:ap×ap)(ax:List ByteArray):Option (ap×Bool×Bool):=cond (d_ ((ax.length:Int)>1)) (B_ (idx ax 0) λS=>cond (S.toList==(⟨#[112,111,108,121]⟩:ByteArray).toList) (B_ (fd ax 1 (ax.length:Int)) λaa=>B_ (tD aa ⟨#[32]⟩) λak=>B_ (AY ak) λar=>some (ar.1,(ar.2,true))) (cond ((ax.length:Int)==1) (B_ (idx ax 0) λv5=>B_ (NV (L.1,L.2) v5) λaR=>some (aR.1,(aR.2.1,aR.2.2))) (cond ((ax.length:Int)!=2) (some ([],(false,false))) (B_ (idx ax 0) λaP=>cond (aP.toList==(⟨#[109,111,118,101]⟩:ByteArray).toList) (B_ (idx ax 1) λbl=>B_ (sp bl) λbk=>cond (!bk.2) (some ([],(false,false))) (B_ (Eh ([[1,0],[0,1]],bk.1) L.1) λbH=>some (bH.1,(bH.2,true)))) (B_ (idx ax 1) λbF=>B_ (tC bF) λbK=>cond (!bK.2) (some ([],(false,false))) (B_ (idx ax 0) λc1=>B_ (N2 (L.1,L.2) c1 bK.1) λdH=>some (dH.1,(dH.2.1,dH.2.2)))))))) (cond ((ax.length:Int)==1) (B_ (idx ax 0) λdF=>B_ (NV (L.1,L.2) dF) λek=>some (ek.1,(ek.2.1,ek.2.2))) (cond ((ax.length:Int)!=2) (some ([],(false,false))) (B_ (idx ax 0) λdK=>cond (dK.toList==(⟨#[109,111,118,101]⟩:ByteArray).toList) (B_ (idx ax 1) λeT=>B_ (sp eT) λfj=>cond (!fj.2) (some ([],(false,false))) (B_ (Eh ([[1,0],[0,1]],fj.1) L.1) λdY=>some (dY.1,(dY.2,true)))) (B_ (idx ax 1) λeZ=>B_ (tC eZ) λhQ=>cond (!hQ.2) (some ([],(false,false))) (B_ (idx ax 0) λie=>B_ (N2 (L.1,L.2) ie hQ.1) λig=>some (ig.1,(ig.2.1,ig.2.2)))))))
def aeD:a8:=⟨73,[.d false (.prod eX eX),.d false (.list .str)],[.a [.d false eX,.d false .bool,.d false .bool]],λx=>Ei x.1 x.2⟩
def aq4{af:Prop}:bn af aeD:=bo [DZ,VN,aeu,DV,V5,DU,aeC] [] [cw 5 0,cw 17 0] ⟨Iw,aea,aqX,Ik,aeA,Ii,aq3,trivial⟩
def N3(L:ap):Option Int:=B_ (kt L) λS=>cond (!S) (some (-1)) (B_ (oh L) λaa=>some aa)
def aeE:a8:=⟨16,[cm],[a0],λx=>N3 x⟩
def aq5{af:Prop}:bn af aeE:=bo [l3,A5] [] [] ⟨mE,Ed,trivial⟩
def yk(L:ap)(ax:Int):Option Int:=B_ (kt L) λS=>cond (!S) (some (-1)) (B_ (nC ax (-1000) 1000) λaa=>cond (!aa) (some (-1)) (B_ (yj L) λak=>B_ (oh L) λar=>B_ (gn .i64 (W_ i64 (W_ i64 (2+W_ i64 (ak*ax))+W_ i64 (W_ i64 (ar*ax)*ax))) 2) λv5=>some v5))
def N4:a8:=⟨229,[cm,eD],[a0],λx=>yk x.1 x.2⟩
def V6{af:Prop}:bn af N4:=bo [l3,rj,IH,A5] [] [] ⟨mE,so,NP,Ed,trivial⟩
def N5(L:ap):Option (List Int):=B_ (kt L) λS=>cond (!S) (some []) (B_ (yk L 1) λaa=>B_ (Ee L) λak=>some [1,W_ i64 (aa-3),ak])
def aeF:a8:=⟨273,[cm],[cR 3],λx=>N5 x⟩
def aq6{af:Prop}:bn af aeF:=bo [l3,N4,NQ] [] [] ⟨mE,V6,VY,trivial⟩
def IM(dm:Int)(S:ap×Int)(aa:ap×Int)(ak:ap×Int):Option (ap×Int⊕ap):=cond (d_ (ak.2<=dm)) (B_ (idx S.1 aa.2) λar=>B_ (bO 8 [] ar) λv5=>B_ (bO 8 v5 [ak.2]) λaR=>B_ (bO 24 ak.1 [aR]) λaP=>some (.inl (aP,W_ i64 (ak.2+1)))) (some (.inr ak.1))
def IN(ax:Int)(dm:Int)(S:ap×Int)(aa:ap×Int):Option (ap×Int⊕ap):=cond (d_ (aa.2<(S.1.length:Int))) (B_ (aY (IM dm S aa) (aa.1,ax)) λbl=>some (.inl (bl,W_ i64 (aa.2+1)))) (some (.inr aa.1))
def N6(L:Int)(ax:Int)(dm:Int)(S:ap×Int):Option (ap×Int⊕ap):=cond (d_ (S.2<L)) (B_ (aY (IN ax dm S) ([],0)) λbk=>some (.inl (bk,W_ i64 (S.2+1)))) (some (.inr S.1))
def IP(L:Int)(ax:Int)(dm:Int):Option ap:=B_ (aY (N6 L ax dm) ([[]],0)) λbH=>some bH
def V7:a8:=⟨326,[eD,eD,eD],[cx 65],λx=>IP x.1 x.2.1 x.2.2⟩
def aeG{af:Prop}:bn af V7:=bo [] [cG 3 [(7,cx 65),(8,a0)] 0 [(7,cx 65)],cG 7 [(9,cx 65),(10,a0)] 2 [(9,cx 65)],cG 10 [(9,cx 65),(11,a0)] 4 [(9,cx 65)]] [] trivial
def IQ(L:Int)(ax:Int):Option Int:=cond (d_ (L<ax)) (some L) (some ax)
def V8:a8:=⟨331,[eD,eD],[a0],λx=>IQ x.1 x.2⟩
def aeH{af:Prop}:bn af V8:=bo [] [] [] trivial
def N7(L:ap)(ax:List Int)(ak:Int×Int×Int):Option (Int×Int×Int⊕Int×Int):=cond (d_ (ak.2.2<(L.length:Int))) (B_ (idx L ak.2.2) λar=>B_ (nE ax ar) λv5=>B_ (sr ak.1 v5) λaR=>B_ (IQ ak.2.1 v5) λaP=>some (.inl (aR,(aP,W_ i64 (ak.2.2+1))))) (some (.inr (ak.1,ak.2.1)))
def Ej(L:ap)(ax:List Int):Option (Int×Int):=B_ (idx L 0) λS=>B_ (nE ax S) λaa=>B_ (aY (N7 L ax) (aa,(aa,1))) λbl=>some (bl.1,bl.2)
def V9:a8:=⟨286,[cm,dq],[a0,a0],λx=>Ej x.1 x.2⟩
def aeI{af:Prop}:bn af V9:=bo [D9,IA,V8] [cG 4 [(6,a0),(7,a0),(8,a0)] 0 [(6,a0),(7,a0)]] [] ⟨IC,NG,aeH,trivial⟩
def IR(L:ap)(S:ap)(aa:Int×ap×Int):Option (Int×ap×Int⊕Int×ap):=cond (d_ (aa.2.2<(S.length:Int))) (B_ (idx S aa.2.2) λak=>B_ (idx ak 0) λar=>cond (d_ (ar<0)) (some (.inl (aa.1,(aa.2.1,W_ i64 (aa.2.2+1))))) (B_ (idx ak 0) λv5=>cond (v5==0) (B_ (idx ak 1) λaR=>cond (d_ (aR<=0)) (some (.inl (aa.1,(aa.2.1,W_ i64 (aa.2.2+1))))) (B_ (Ej L ak) λaP=>cond (d_ (aa.1<0)) (cond (W_ i64 (aP.1-aP.2)==W_ i64 (aP.1-aP.2)) (B_ (bO 24 [] [ak]) λbl=>some (.inl (W_ i64 (aP.1-aP.2),(bl,W_ i64 (aa.2.2+1))))) (some (.inl (W_ i64 (aP.1-aP.2),([],W_ i64 (aa.2.2+1)))))) (cond (d_ (W_ i64 (aP.1-aP.2)<aa.1)) (cond (W_ i64 (aP.1-aP.2)==W_ i64 (aP.1-aP.2)) (B_ (bO 24 [] [ak]) λbk=>some (.inl (W_ i64 (aP.1-aP.2),(bk,W_ i64 (aa.2.2+1))))) (some (.inl (W_ i64 (aP.1-aP.2),([],W_ i64 (aa.2.2+1)))))) (cond (W_ i64 (aP.1-aP.2)==aa.1) (B_ (bO 24 aa.2.1 [ak]) λbH=>some (.inl (aa.1,(bH,W_ i64 (aa.2.2+1))))) (some (.inl (aa.1,(aa.2.1,W_ i64 (aa.2.2+1))))))))) (B_ (Ej L ak) λbF=>cond (d_ (aa.1<0)) (cond (W_ i64 (bF.1-bF.2)==W_ i64 (bF.1-bF.2)) (B_ (bO 24 [] [ak]) λbK=>some (.inl (W_ i64 (bF.1-bF.2),(bK,W_ i64 (aa.2.2+1))))) (some (.inl (W_ i64 (bF.1-bF.2),([],W_ i64 (aa.2.2+1)))))) (cond (d_ (W_ i64 (bF.1-bF.2)<aa.1)) (cond (W_ i64 (bF.1-bF.2)==W_ i64 (bF.1-bF.2)) (B_ (bO 24 [] [ak]) λc1=>some (.inl (W_ i64 (bF.1-bF.2),(c1,W_ i64 (aa.2.2+1))))) (some (.inl (W_ i64 (bF.1-bF.2),([],W_ i64 (aa.2.2+1)))))) (cond (W_ i64 (bF.1-bF.2)==aa.1) (B_ (bO 24 aa.2.1 [ak]) λdH=>some (.inl (aa.1,(dH,W_ i64 (aa.2.2+1))))) (some (.inl (aa.1,(aa.2.1,W_ i64 (aa.2.2+1)))))))))) (some (.inr (aa.1,aa.2.1)))
def IS(L:ap):Option (Int×ap):=B_ (IP 2 (-12) 12) λS=>B_ (aY (IR L S) (-1,([],0))) λdF=>some (dF.1,dF.2)
def Wa:a8:=⟨277,[cm],[a0,.l (.o false 65 bG)],λx=>IS x⟩
def aeJ{af:Prop}:bn af Wa:=bo [V7,V9] [cG 5 [(4,a0),(5,.l (.o false 65 bG)),(7,a0)] 0 [(4,a0),(5,.l (.o false 65 bG))]] [] ⟨aeG,aeI,trivial⟩
def IT(L:ap):Option Int:=B_ (kt L) λS=>cond (!S) (some (-1)) (B_ (IS L) λaa=>some aa.1)
def Wb:a8:=⟨221,[cm],[a0],λx=>IT x⟩
def aeK{af:Prop}:bn af Wb:=bo [l3,Wa] [] [] ⟨mE,aeJ,trivial⟩
def IU(L:List Int):Option Bool:=cond ((L.length:Int)==2) (B_ (qf L 30) λS=>cond S (B_ (wm L) λaa=>some (aa==1)) (some false)) (some false)
def aeL:a8:=⟨289,[dq],[ci],λx=>IU x⟩
def aq7{af:Prop}:bn af aeL:=bo [ye,D5] [] [] ⟨AQ,IB,trivial⟩
def wq(L:List Int×List Int):Option Bool:=B_ (IU L.1) λS=>cond S (B_ (IU L.2) λaa=>cond aa (B_ (nD L.1 L.2) λak=>some (d_ (ak>0))) (some false)) (some false)
def IV:a8:=⟨234,[.d false (.prod bG bG)],[ci],λx=>wq x⟩
def Ob{af:Prop}:bn af IV:=bo [aeL,wl] [] [] ⟨aq7,yg,trivial⟩
def A6(L:ap)(ax:Int):Option ((List Int×List Int)×Bool):=B_ (kt L) λS=>cond (!S) (some (([],[]),false)) (B_ (nC ax 0 (W_ i64 ((L.length:Int)-1))) λaa=>cond (!aa) (some (([],[]),false)) (B_ (gu .i64 (W_ i64 (ax+1)) (L.length:Int)) λak=>B_ (idx L ak) λar=>B_ (idx L ax) λv5=>B_ (mD ar v5) λaR=>B_ (D6 aR) λaP=>B_ (gu .i64 (W_ i64 (W_ i64 (ax+(L.length:Int))-1)) (L.length:Int)) λbl=>B_ (idx L bl) λbk=>B_ (idx L ax) λbH=>B_ (mD bk bH) λbF=>B_ (D6 bF) λbK=>B_ (wq (aP,bK)) λc1=>cond (!c1) (some (([],[]),false)) (some ((aP,bK),true))))
def Wd:a8:=⟨279,[cm,eD],[.a [.o true 3 bM,.o true 3 bM],ci],λx=>A6 x.1 x.2⟩
def aeM{af:Prop}:bn af Wd:=bo [l3,rj,AT,VS,IV] [] [cw 4 0] ⟨mE,so,DX,aeg,Ob,trivial⟩
def ws(L:List Int×List Int):Option Int:=B_ (wq (L.1,L.2)) λS=>cond (!S) (some 0) (B_ (nD L.1 L.2) λaa=>some aa)
def We:a8:=⟨280,[.d false (.prod bG bG)],[a0],λx=>ws x⟩
def aeN{af:Prop}:bn af We:=bo [IV,wl] [] [] ⟨Ob,yg,trivial⟩
def A7(L:Bool):Option Int:=cond L (some 1) (some 0)
def Oc:a8:=⟨291,[aqO],[a0],λx=>A7 x⟩
def Wf{af:Prop}:bn af Oc:=bo [] [] [] trivial
def A8(L:ap)(S:Int×Int):Option (Int×Int⊕Int⊕Int):=cond (d_ (S.2<(L.length:Int))) (B_ (A6 L S.2) λaa=>cond (!aa.2) (some (.inr (.inr (-1)))) (B_ (ws (aa.1.1,aa.1.2)) λak=>B_ (A7 (ak==1)) λar=>some (.inl (W_ i64 (S.1+ar),W_ i64 (S.2+1))))) (some (.inr (.inl S.1)))
def IW(L:ap):Option Int:=B_ (aY (A8 L) (0,0)) λv5=>match v5 with|.inl aR=>cond ((L.length:Int)==0) (some (-1)) (some aR)|.inr aP=>some aP
def aeO:a8:=⟨274,[cm],[a0],λx=>IW x⟩
def aq8{af:Prop}:bn af aeO:=bo [Wd,We,Oc] [⟨3,[(3,a0),(4,a0)],some (0,[(3,a0)]),some [(2,a0)],false,none⟩] [] ⟨aeM,aeN,Wf,trivial⟩
def Od(L:ap)(S:ap×Bool)(ar:List Int)(v5:Int):Option (Int⊕Unit⊕Bool):=cond (d_ (v5<(L.length:Int))) (B_ (idx S.1 v5) λaR=>B_ (uZ aR ar) λaP=>B_ (idx L v5) λbl=>B_ (uX aP bl) λbk=>cond (!bk) (some (.inr (.inr false))) (some (.inl (W_ i64 (v5+1))))) (some (.inr (.inl ())))
def Ek(L:ap):Option Bool:=B_ (Iz L) λS=>cond (!S.2) (some false) (B_ (idx L 0) λaa=>B_ (bE S.1.length 0) λ_=>B_ (idx S.1 (((0:Int).toNat:Nat):Int)) λak=>B_ (mD aa ak) λar=>B_ (aY (Od L S ar) 0) λbH=>match bH with|.inl bF=>some true|.inr bK=>some bK)
def aeP:a8:=⟨275,[cm],[ci],λx=>Ek x⟩
def aq9{af:Prop}:bn af aeP:=bo [VP,AT,IE,DW] [⟨6,[(6,a0)],some (0,[]),some [(2,ci)],false,none⟩] [cw 4 0,cw 8 0] ⟨aed,DX,NM,In,trivial⟩
def Oe(L:ap):Option ByteArray:=B_ (kt L) λS=>cond (!S) (some ⟨#[]⟩) (B_ (N3 L) λaa=>B_ (jc aa) λak=>B_ (fM ⟨#[97,114,101,97,32]⟩ ak) λar=>B_ (fM ar ⟨#[32,98,111,117,110,100,97,114,121,32]⟩) λv5=>B_ (yj L) λaR=>B_ (jc aR) λaP=>B_ (fM v5 aP) λbl=>B_ (fM bl ⟨#[32,105,110,110,101,114,32]⟩) λbk=>B_ (Ee L) λbH=>B_ (jc bH) λbF=>B_ (fM bk bF) λbK=>B_ (fM bK ⟨#[32,112,111,105,110,116,115,32]⟩) λc1=>B_ (yk L 1) λdH=>B_ (jc dH) λdF=>B_ (fM c1 dF) λek=>B_ (fM ek ⟨#[32,116,111,112,32]⟩) λdK=>B_ (N5 L) λeT=>B_ (tE eT) λfj=>B_ (fM dK fj) λdY=>B_ (fM dY ⟨#[32,119,105,100,116,104,32]⟩) λeZ=>B_ (IT L) λhQ=>B_ (jc hQ) λie=>B_ (fM eZ ie) λig=>B_ (fM ig ⟨#[32,115,109,111,111,116,104,32]⟩) λjD=>B_ (IW L) λl2=>B_ (jc l2) λly=>B_ (fM jD ly) λih=>B_ (II L) λkv=>cond kv (B_ (fM ih ⟨#[32,114,101,102,108,101,120,105,118,101]⟩) λkw=>B_ (Ek L) λjO=>cond jO (B_ (fM kw ⟨#[32,115,121,109,109,101,116,114,105,99]⟩) λwu=>some wu) (some kw)) (B_ (fM ih ⟨#[32,111,116,104,101,114]⟩) λu3=>B_ (Ek L) λu4=>cond u4 (B_ (fM u3 ⟨#[32,115,121,109,109,101,116,114,105,99]⟩) λnF=>some nF) (some u3)))
def aeQ:a8:=⟨219,[cm],[hF],λx=>Oe x⟩
def ara{af:Prop}:bn af aeQ:=bo [l3,aeE,uV,IH,NQ,N4,aeF,AZ,Wb,aeO,V0,aeP] [] [] ⟨mE,aq5,wk,NP,VY,V6,aq6,D0,aeK,aq8,aeq,aq9,trivial⟩
def Of(L:ap)(aP:ap×Int×Int×Int×Int):Option (ap×Int×Int×Int×Int⊕ap×Int×Int×Int):=cond (d_ (aP.2.2.2.2<(L.length:Int))) (B_ (idx L aP.2.2.2.2) λbl=>B_ (idx bl 1) λbk=>B_ (IQ aP.2.1 bk) λbH=>B_ (idx L aP.2.2.2.2) λbF=>B_ (idx bF 1) λbK=>B_ (sr aP.2.2.1 bK) λc1=>B_ (idx L aP.2.2.2.2) λdH=>B_ (idx dH 0) λdF=>B_ (sr aP.2.2.2.1 dF) λek=>some (.inl (aP.1,(bH,(c1,(ek,W_ i64 (aP.2.2.2.2+1))))))) (some (.inr (aP.1,(aP.2.1,(aP.2.2.1,aP.2.2.2.1)))))
def IX(L:ap)(dK:ap×Int×Int×Int)(dY:ap×Int)(eZ:ap×Int):Option (ap×Int⊕ap):=cond (d_ (eZ.2<=dK.2.2.1)) (B_ (u1 L [dY.2,eZ.2]) λhQ=>cond (d_ (hQ>=0)) (B_ (bO 24 eZ.1 [[dY.2,eZ.2]]) λie=>some (.inl (ie,W_ i64 (eZ.2+1)))) (some (.inl (eZ.1,W_ i64 (eZ.2+1))))) (some (.inr eZ.1))
def Oh(L:ap)(dK:ap×Int×Int×Int)(dY:ap×Int):Option (ap×Int⊕ap):=cond (d_ (dY.2<=dK.2.2.2)) (B_ (aY (IX L dK dY) (dY.1,dK.2.1)) λig=>some (.inl (ig,W_ i64 (dY.2+1)))) (some (.inr dY.1))
def A9(L:ap):Option ap:=B_ (idx L 0) λS=>B_ (idx S 1) λaa=>B_ (idx L 0) λak=>B_ (idx ak 1) λar=>B_ (idx L 0) λv5=>B_ (idx v5 0) λaR=>B_ (aY (Of L) ([],(aa,(ar,(aR,0))))) λdK=>B_ (idx L 0) λeT=>B_ (idx eT 0) λfj=>B_ (aY (Oh L dK) (dK.1,fj)) λjD=>some jD
def Wg:a8:=⟨287,[cm],[cx 65],λx=>A9 x⟩
def aeR{af:Prop}:bn af Wg:=bo [V8,IA,NR] [cG 6 [(3,cx 65),(4,a0),(5,a0),(6,a0),(7,a0)] 0 [(3,cx 65),(4,a0),(5,a0),(6,a0)],cG 12 [(3,cx 65),(8,a0)] 2 [(3,cx 65)],cG 15 [(3,cx 65),(9,a0)] 4 [(3,cx 65)]] [] ⟨aeH,NG,VZ,trivial⟩
def Oi(L:ap)(bl:ap)(bk:Int):Option (Int⊕Unit⊕List Int×Bool):=cond (d_ (bk<(bl.length:Int))) (B_ (idx bl bk) λbH=>B_ (idx L 0) λbF=>B_ (uX bH bF) λbK=>cond (!bK) (B_ (idx bl bk) λc1=>B_ (idx L 1) λdH=>B_ (uX c1 dH) λdF=>cond (!dF) (B_ (idx bl bk) λek=>B_ (idx L 2) λdK=>B_ (uX ek dK) λeT=>cond (!eT) (B_ (idx bl bk) λfj=>some (.inr (.inr (fj,true)))) (some (.inl (W_ i64 (bk+1))))) (some (.inl (W_ i64 (bk+1))))) (some (.inl (W_ i64 (bk+1))))) (some (.inr (.inl ())))
def Oj(L:ap):Option (List Int×Bool):=B_ (idx L 0) λS=>B_ (yf [] S) λaa=>B_ (idx L 1) λak=>B_ (yf aa ak) λar=>B_ (idx L 2) λv5=>B_ (yf ar v5) λaR=>B_ (Ir aR) λaP=>B_ (A9 aP) λbl=>B_ (aY (Oi L bl) 0) λdY=>match dY with|.inl eZ=>some ([],false)|.inr hQ=>some (hQ.1,hQ.2)
def aeS:a8:=⟨350,[cm],[wh,ci],λx=>Oj x⟩
def arb{af:Prop}:bn af aeS:=bo [VJ,VL,Wg,DW] [⟨5,[(7,a0)],some (0,[]),some [(2,wh),(3,ci)],false,none⟩] [cw 1 0,cw 7 0] ⟨ad7,ad8,aeR,In,trivial⟩
def Ol(L:ap):Option Int:=B_ (idx L 0) λS=>B_ (idx L 1) λaa=>B_ (idx L 2) λak=>B_ (AU S aa ak) λar=>some ar
def aeT:a8:=⟨351,[cm],[a0],λx=>Ol x⟩
def arc{af:Prop}:bn af aeT:=bo [NA] [] [cw 1 0] ⟨VK,trivial⟩
def Om(rec:ap->List ap->Option (List ap))(L:ap)(S:List Int×Bool)(ar:List ap×Int):Option (List ap×Int⊕List ap):=cond (d_ (ar.2<3)) (B_ (idx L ar.2) λv5=>B_ (gu .i64 (W_ i64 (ar.2+1)) 3) λaR=>B_ (idx L aR) λaP=>B_ (Ol [S.1,v5,aP]) λbl=>cond (bl !=0) (B_ (rec [S.1,v5,aP] ar.1) λbk=>some (.inl (bk,W_ i64 (ar.2+1)))) (some (.inl (ar.1,W_ i64 (ar.2+1))))) (some (.inr ar.1))
def IY(rec:ap->List ap->Option (List ap))(L:ap)(ax:List ap):Option (List ap):=B_ (Oj L) λS=>cond (!S.2) (B_ (oQ L) λaa=>B_ (bO 24 ax [aa]) λak=>some ak) (B_ (aY (Om rec L S) (ax,0)) λbH=>some bH)
def wv:Nat->ap->List ap->Option (List ap)|0=>λ_ _=>none|n+1=>IY (wv n)
def Wh(L:ap)(ax:List ap):Option (List ap):=wv 30000 L ax
def Wi:a8:=⟨325,[cm,.mv true 24 eX],[.l (.o true 24 eX)],λx=>Wh x.1 x.2⟩
def tF(rec:ap->List ap->Option (List ap)):a8:=⟨325,[.d false eX,.mv true 24 eX],[.l (.o true 24 eX)],λx=>rec x.1 x.2⟩
def aeU(rec:ap->List ap->Option (List ap)):cW:=⟨Tryz.prog,nB,[aeS,Is,aeT,tF rec],[cG 5 [(1,.l (.o true 24 eX)),(7,a0)] 0 [(1,.l (.o true 24 eX))]],[cw 7 0],[],[],[]⟩
def ard(rec:ap->List ap->Option (List ap))(x:iw.den (tF rec).ps):xk (aeU rec) Tryz.f325 (tF rec).ps (tF rec).rs x=(tF (IY rec)).F x:=by kernel_rfl
def are{af:Prop}(rec:ap->List ap->Option (List ap))(h:dJ Tryz.prog (tF rec).f/\ga af Tryz.prog (tF rec)):dJ Tryz.prog (tF (IY rec)).f/\ga af Tryz.prog (tF (IY rec)):=HA (N:=aeU rec) pu ⟨arb,NB,arc,h,trivial⟩ func325 (by kernel_rfl) (ard rec)
def aeV{af:Prop}:(n:Nat)->dJ Tryz.prog (tF (wv n)).f/\ga af Tryz.prog (tF (wv n))|0=>⟨⟨Tryz.f325,_,func325,by kernel_rfl,rfl⟩,λx z h=>by cases h⟩|n+1=>are _ (aeV n)
def arf{af:Prop}:dJ Tryz.prog Wi.f/\ga af Tryz.prog Wi:=aeV 30000
def On(L:ap)(ak:List ap×Int):Option (List ap×Int⊕List ap):=cond (d_ (W_ i64 (ak.2+1)<(L.length:Int))) (B_ (idx L 0) λar=>B_ (idx L ak.2) λv5=>B_ (idx L (W_ i64 (ak.2+1))) λaR=>B_ (Wh [ar,v5,aR] ak.1) λaP=>some (.inl (aP,W_ i64 (ak.2+1)))) (some (.inr ak.1))
def Oo(L:ap):Option (List ap):=B_ (kt L) λS=>cond (!S) (some []) (B_ (oh L) λaa=>cond (d_ (aa>200)) (some []) (B_ (aY (On L) ([],1)) λbl=>some bl))
def aeW:a8:=⟨276,[cm],[.l (.o true 24 eX)],λx=>Oo x⟩
def arg{af:Prop}:bn af aeW:=bo [l3,A5,Wi] [cG 5 [(3,.l (.o true 24 eX)),(4,a0)] 0 [(3,.l (.o true 24 eX))]] [cw 7 0] ⟨mE,Ed,arf,trivial⟩
def Oq(L:ap):Option Int:=B_ (Oo L) λS=>cond ((S.length:Int)==0) (some (-1)) (some (S.length:Int))
def aeX:a8:=⟨220,[cm],[a0],λx=>Oq x⟩
def arh{af:Prop}:bn af aeX:=bo [aeW] [] [] ⟨arg,trivial⟩
def I0(L:ap):Option ap:=B_ (kt L) λS=>cond (!S) (some []) (B_ (IS L) λaa=>some aa.2)
def aeY:a8:=⟨223,[cm],[.l (.o false 65 bG)],λx=>I0 x⟩
def ari{af:Prop}:bn af aeY:=bo [l3,Wa] [] [] ⟨mE,aeJ,trivial⟩
def Ot(L:List Int):Option ByteArray:=B_ (AR L) λS=>cond (!S) (some ⟨#[]⟩) (B_ (tE L) λaa=>some aa)
def aeZ:a8:=⟨278,[dq],[hF],λx=>Ot x⟩
def arj{af:Prop}:bn af aeZ:=bo [Ij,AZ] [] [] ⟨Nw,D0,trivial⟩
def I1(L:ap)(S:List ByteArray×Int):Option (List ByteArray×Int⊕List ByteArray):=cond (d_ (S.2<(L.length:Int))) (B_ (idx L S.2) λaa=>B_ (Ot aa) λak=>B_ (bO 16 S.1 [ak]) λar=>some (.inl (ar,W_ i64 (S.2+1)))) (some (.inr S.1))
def Ba(L:ap):Option ByteArray:=B_ (aY (I1 L) ([],0)) λv5=>cond ((v5.length:Int)==0) (some ⟨#[45]⟩) (B_ (tD v5 ⟨#[32]⟩) λaR=>some aR)
def Wj:a8:=⟨222,[cm],[hF],λx=>Ba x⟩
def ae0{af:Prop}:bn af Wj:=bo [aeZ,DZ] [cG 3 [(3,l1 9),(4,a0)] 0 [(3,l1 9)]] [] ⟨arj,Iw,trivial⟩
def Bb(L:List Int)(ax:ByteArray):Option ByteArray:=cond ((L.length:Int)==0) (some ax) (B_ (tE L) λS=>some S)
def Ou:a8:=⟨231,[dq,jq],[hF],λx=>Bb x.1 x.2⟩
def Wk{af:Prop}:bn af Ou:=bo [AZ] [] [] ⟨D0,trivial⟩
def Bc(L:ap)(S:List Int×Int):Option (List Int×Int⊕List Int⊕ByteArray):=cond (d_ (S.2<(L.length:Int))) (B_ (A6 L S.2) λaa=>cond (!aa.2) (some (.inr (.inr ⟨#[110,111]⟩))) (B_ (ws (aa.1.1,aa.1.2)) λak=>B_ (bO 8 S.1 [ak]) λar=>some (.inl (ar,W_ i64 (S.2+1))))) (some (.inr (.inl S.1)))
def Ov(L:ap):Option ByteArray:=B_ (aY (Bc L) ([],0)) λv5=>match v5 with|.inl aR=>B_ (Bb aR ⟨#[110,111]⟩) λbl=>some bl|.inr aP=>some aP
def ae1:a8:=⟨224,[cm],[hF],λx=>Ov x⟩
def ark{af:Prop}:bn af ae1:=bo [Wd,We,Ou] [⟨3,[(3,cR 3),(4,a0)],some (0,[(3,cR 3)]),some [(2,hF)],false,none⟩] [] ⟨aeM,aeN,Wk,trivial⟩
def I2(L:ap)(ax:ap):Option Int:=B_ (IK L ax) λS=>cond (!S.2) (some (-1)) (B_ (oh S.1) λaa=>B_ (oh L) λak=>B_ (oh ax) λar=>some (W_ i64 (W_ i64 (aa-ak)-ar)))
def ae2:a8:=⟨225,[cm,cm],[a0],λx=>I2 x.1 x.2⟩
def arl{af:Prop}:bn af ae2:=bo [V2,A5] [] [] ⟨aet,Ed,trivial⟩
def Ow(L:ap)(ax:ap):Option Bool:=B_ (Eb L) λS=>B_ (Eb ax) λaa=>cond S.2 (cond aa.2 (B_ (Iu S.1 aa.1) λak=>some ak) (some false)) (some false)
def ae3:a8:=⟨226,[cm,cm],[ci],λx=>Ow x.1 x.2⟩
def arm{af:Prop}:bn af ae3:=bo [VX,VM] [] [] ⟨aeo,ad9,trivial⟩
def I3(L:ap):Option Int:=B_ (Ef L) λS=>cond (!S.2) (some (-1)) (B_ (yj L) λaa=>B_ (yj S.1) λak=>some (W_ i64 (aa+ak)))
def ae4:a8:=⟨227,[cm],[a0],λx=>I3 x⟩
def arn{af:Prop}:bn af ae4:=bo [V1,IH] [] [] ⟨aes,NP,trivial⟩
def Wl(L:ap×ap)(ax:ByteArray):Option ByteArray:=cond (ax.toList==(⟨#[115,104,111,119]⟩:ByteArray).toList) (B_ (A0 L.1) λS=>some S) (cond (ax.toList==(⟨#[100,101,115,99,114,105,98,101]⟩:ByteArray).toList) (B_ (Oe L.1) λaa=>some aa) (cond (ax.toList==(⟨#[101,109,112,116,121]⟩:ByteArray).toList) (B_ (Oq L.1) λak=>B_ (jc ak) λar=>some ar) (cond (ax.toList==(⟨#[119,105,100,116,104]⟩:ByteArray).toList) (B_ (IT L.1) λv5=>B_ (jc v5) λaR=>some aR) (cond (ax.toList==(⟨#[100,105,114,101,99,116,105,111,110,115]⟩:ByteArray).toList) (B_ (I0 L.1) λaP=>B_ (Ba aP) λbl=>some bl) (cond (ax.toList==(⟨#[99,111,114,110,101,114,115]⟩:ByteArray).toList) (B_ (Ov L.1) λbk=>some bk) (cond (ax.toList==(⟨#[109,105,120,101,100]⟩:ByteArray).toList) (B_ (I2 L.1 L.2) λbH=>B_ (jc bH) λbF=>some bF) (cond (ax.toList==(⟨#[115,97,109,101]⟩:ByteArray).toList) (B_ (Ow L.1 L.2) λbK=>cond bK (some ⟨#[121,101,115]⟩) (some ⟨#[110,111]⟩)) (cond (ax.toList==(⟨#[116,119,101,108,118,101]⟩:ByteArray).toList) (B_ (I3 L.1) λc1=>B_ (jc c1) λdH=>some dH) (some ⟨#[119,104,97,116]⟩)))))))))
def ae5:a8:=⟨160,[.d false (.prod eX eX),jq],[hF],λx=>Wl x.1 x.2⟩
def aro{af:Prop}:bn af ae5:=bo [VO,aeQ,aeX,uV,Wb,aeY,Wj,ae1,ae2,ae3,ae4] [] [] ⟨aeb,ara,arh,wk,aeK,ari,ae0,ark,arl,arm,arn,trivial⟩
def Ox(L:Int)(ax:List Int×Int):Option Bool:=B_ (nC L 1 3) λS=>cond S (cond ((ax.1.length:Int)==L) (B_ (qf ax.1 20) λaa=>cond aa (B_ (wm ax.1) λak=>cond (d_ (ak>0)) (B_ (nC ax.2 (-200) 200) λar=>some ar) (some false)) (some false)) (some false)) (some false)
def ae6:a8:=⟨352,[eD,.d false (.prod bG bM)],[ci],λx=>Ox x.1 x.2⟩
def arp{af:Prop}:bn af ae6:=bo [rj,ye,D5] [] [] ⟨so,AQ,IB,trivial⟩
def Oy(L:Int×List (List Int×Int))(S:Int):Option (Int⊕Unit⊕Bool):=cond (d_ (S<(L.2.length:Int))) (B_ (idx L.2 S) λaa=>B_ (Ox L.1 aa) λak=>cond (!ak) (some (.inr (.inr false))) (some (.inl (W_ i64 (S+1))))) (some (.inr (.inl ())))
def u5(L:Int×List (List Int×Int)):Option Bool:=B_ (aY (Oy L) 0) λar=>match ar with|.inl v5=>B_ (nC L.1 1 3) λaP=>cond aP (some (d_ ((L.2.length:Int)<=8))) (some false)|.inr aR=>some aR
def Bd:a8:=⟨327,[.d false (.prod bM (.list (.prod bG bM)))],[ci],λx=>u5 x⟩
def El{af:Prop}:bn af Bd:=bo [ae6,rj] [⟨2,[(3,a0)],some (0,[]),some [(2,ci)],false,none⟩] [cw 4 0] ⟨arp,so,trivial⟩
def Oz(L:Int×List (List Int×Int))(ak:ByteArray×Int):Option (ByteArray×Int⊕ByteArray):=cond (d_ (ak.2<(L.2.length:Int))) (B_ (fM ak.1 ⟨#[59]⟩) λar=>B_ (idx L.2 ak.2) λv5=>B_ (tE v5.1) λaR=>B_ (fM ar aR) λaP=>B_ (fM aP ⟨#[60]⟩) λbl=>B_ (idx L.2 ak.2) λbk=>B_ (jc bk.2) λbH=>B_ (fM bl bH) λbF=>some (.inl (bF,W_ i64 (ak.2+1)))) (some (.inr ak.1))
def OA(L:Int×List (List Int×Int)):Option ByteArray:=B_ (u5 (L.1,L.2)) λS=>cond (!S) (some ⟨#[]⟩) (B_ (jc L.1) λaa=>B_ (aY (Oz L) (aa,0)) λbK=>some bK)
def ae7:a8:=⟨328,[.d false (.prod bM (.list (.prod bG bM)))],[hF],λx=>OA x⟩
def arq{af:Prop}:bn af ae7:=bo [Bd,uV,AZ] [cG 5 [(3,hF),(4,a0)] 0 [(3,hF)]] [cw 7 0] ⟨El,wk,D0,trivial⟩
def Em(S:List ByteArray)(ar:(Int×List (List Int×Int))×(Int×List (List Int×Int))×Int):Option ((Int×List (List Int×Int))×(Int×List (List Int×Int))×Int⊕(Int×List (List Int×Int))×Int×List (List Int×Int)⊕(Int×List (List Int×Int))×Bool):=cond (d_ (ar.2.2<(S.length:Int))) (B_ (idx S ar.2.2) λv5=>B_ (yc v5 60) λaR=>cond ((aR.length:Int)!=2) (some (.inr (.inr ((0,[]),false)))) (B_ (bE aR.length 0) λ_=>B_ (idx aR (((0:Int).toNat:Nat):Int)) λaP=>B_ (sp aP) λbl=>B_ (bE aR.length 1) λ_=>B_ (idx aR (((1:Int).toNat:Nat):Int)) λbk=>B_ (tC bk) λbH=>cond (!bl.2) (some (.inr (.inr ((0,[]),false)))) (cond (!bH.2) (some (.inr (.inr ((0,[]),false)))) (B_ (bO 32 ar.2.1.2 [(bl.1,bH.1)]) λbF=>some (.inl ((ar.1.1,ar.1.2),((ar.2.1.1,bF),W_ i64 (ar.2.2+1)))))))) (some (.inr (.inl ((ar.1.1,ar.1.2),(ar.2.1.1,ar.2.1.2)))))
def OB(L:ByteArray):Option ((Int×List (List Int×Int))×Bool):=B_ (yc L 59) λS=>B_ (bE S.length 0) λ_=>B_ (idx S (((0:Int).toNat:Nat):Int)) λaa=>B_ (tC aa) λak=>B_ (aY (Em S) ((0,[]),((ak.1,[]),1))) λbK=>match bK with|.inl c1=>cond (!ak.2) (some ((0,[]),false)) (B_ (u5 (c1.2.1,c1.2.2)) λdF=>cond (!dF) (some ((0,[]),false)) (B_ (OA (c1.2.1,c1.2.2)) λek=>cond (! ek.toList==L.toList) (some ((0,[]),false)) (some ((c1.2.1,c1.2.2),true))))|.inr dH=>some ((dH.1.1,dH.1.2),dH.2)
def ae8:a8:=⟨281,[jq],[.a [.d false bM,.o true 132 (.prod bG bM)],ci],λx=>OB x⟩
def arr{af:Prop}:bn af ae8:=bo [Ih,DU,DV,Bd,ae7] [⟨5,[(2,.b 79 [.d false bM,.o true 132 (.prod bG bM)]),(7,.b 79 [.d false bM,.o true 132 (.prod bG bM)]),(8,a0)],some (0,[(2,.b 79 [.d false bM,.o true 132 (.prod bG bM)]),(7,.b 79 [.d false bM,.o true 132 (.prod bG bM)])]),some [(2,.b 79 [.d false bM,.o true 132 (.prod bG bM)]),(3,ci)],false,none⟩] [] ⟨Nu,Ii,Ik,El,arq,trivial⟩
def OC(L:Int×List (List Int×Int))(ax:List Int)(S:Int):Option (Int⊕Unit⊕Bool):=cond (d_ (S<(L.2.length:Int))) (B_ (idx L.2 S) λaa=>B_ (nE aa.1 ax) λak=>B_ (idx L.2 S) λar=>cond (d_ (ak>ar.2)) (some (.inr (.inr false))) (some (.inl (W_ i64 (S+1))))) (some (.inr (.inl ())))
def I4(L:Int×List (List Int×Int))(ax:List Int):Option Bool:=B_ (aY (OC L ax) 0) λv5=>match v5 with|.inl aR=>some true|.inr aP=>some aP
def ae9:a8:=⟨353,[.d false (.prod bM (.list (.prod bG bM))),dq],[ci],λx=>I4 x.1 x.2⟩
def ars{af:Prop}:bn af ae9:=bo [D9] [⟨2,[(5,a0)],some (0,[]),some [(4,ci)],false,none⟩] [cw 4 0] ⟨IC,trivial⟩
def I5(L:Int×List (List Int×Int))(aa:ap)(ak:ap×Int):Option (ap×Int⊕ap):=cond (d_ (ak.2<(aa.length:Int))) (B_ (idx aa ak.2) λar=>B_ (I4 (L.1,L.2) ar) λv5=>cond v5 (B_ (idx aa ak.2) λaR=>B_ (bO 24 ak.1 [aR]) λaP=>some (.inl (aP,W_ i64 (ak.2+1)))) (some (.inl (ak.1,W_ i64 (ak.2+1))))) (some (.inr ak.1))
def I6(L:Int×List (List Int×Int)):Option ap:=B_ (u5 (L.1,L.2)) λS=>cond (!S) (some []) (B_ (IP L.1 (-6) 6) λaa=>B_ (aY (I5 L aa) ([],0)) λbl=>some bl)
def afa:a8:=⟨329,[.d false (.prod bM (.list (.prod bG bM)))],[.l (.o false 65 bG)],λx=>I6 x⟩
def art{af:Prop}:bn af afa:=bo [Bd,V7,ae9] [cG 6 [(3,.l (.o false 65 bG)),(5,a0)] 0 [(3,.l (.o false 65 bG))]] [cw 8 0] ⟨El,aeG,ars,trivial⟩
def OD(L:Int×List (List Int×Int)):Option Int:=B_ (u5 (L.1,L.2)) λS=>cond (!S) (some (-1)) (B_ (I6 (L.1,L.2)) λaa=>some (aa.length:Int))
def afb:a8:=⟨282,[.d false (.prod bM (.list (.prod bG bM)))],[a0],λx=>OD x⟩
def aru{af:Prop}:bn af afb:=bo [Bd,afa] [] [] ⟨El,art,trivial⟩
def I7(L:List (List Int×Int))(S:(List Int×Int)×ap×Int):Option ((List Int×Int)×ap×Int⊕(List Int×Int)×ap):=cond (d_ (S.2.2<(L.length:Int))) (B_ (idx L S.2.2) λaa=>B_ (bO 24 S.2.1 [aa.1]) λak=>some (.inl ((S.1.1,S.1.2),(ak,W_ i64 (S.2.2+1))))) (some (.inr ((S.1.1,S.1.2),S.2.1)))
def I8(L:List (List Int×Int))(ar:(List Int×Int)×ap)(aR:(List Int×Int)×List Int×Int)(aP:(List Int×Int)×List Int×ap×Int):Option ((List Int×Int)×List Int×ap×Int⊕(List Int×Int)×List Int×ap):=cond (d_ (aP.2.2.2<(ar.2.length:Int))) (B_ (idx ar.2 aP.2.2.2) λbl=>B_ (bO 8 [] bl) λbk=>B_ (idx L aP.2.2.2) λbH=>B_ (bE bk.length aR.2.2) λ_=>B_ (bE bk.length ((aR.2.2.toNat:Nat):Int)) λ_=>B_ (bO 24 aP.2.2.1 [bk.set aR.2.2.toNat bH.2]) λbF=>some (.inl ((aP.1.1,aP.1.2),(aP.2.1,(bF,W_ i64 (aP.2.2.2+1)))))) (some (.inr ((aP.1.1,aP.1.2),(aP.2.1,aP.2.2.1))))
def I9(L:List (List Int×Int))(ar:(List Int×Int)×ap)(aR:(List Int×Int)×List Int×Int):Option ((List Int×Int)×List Int×Int⊕(List Int×Int)×List Int):=cond (d_ (aR.2.2<(ar.2.length:Int))) (B_ (aY (I8 L ar aR) ((aR.1.1,aR.1.2),(aR.2.1,([],0)))) λbK=>B_ (u2 bK.2.2) λc1=>B_ (bO 8 bK.2.1 [c1]) λdH=>some (.inl ((bK.1.1,bK.1.2),(dH,W_ i64 (aR.2.2+1))))) (some (.inr ((aR.1.1,aR.1.2),aR.2.1)))
def En(ek:List Int)(eT:Int)(dY:(List Int×Int)×(List Int×Int)×Int):Option ((List Int×Int)×(List Int×Int)×Int⊕(List Int×Int)×List Int×Int):=cond (d_ (dY.2.2<(ek.length:Int))) (B_ (idx ek dY.2.2) λeZ=>B_ (gn .i64 eZ eT) λhQ=>B_ (bO 8 dY.2.1.1 [hQ]) λie=>some (.inl ((dY.1.1,dY.1.2),((ie,dY.2.1.2),W_ i64 (dY.2.2+1))))) (some (.inr ((dY.1.1,dY.1.2),(dY.2.1.1,dY.2.1.2))))
def afc(dF:(List Int×Int)×List Int)(l2:Int)(ih:(List Int×Int)×(List Int×Int)×Int):Option ((List Int×Int)×(List Int×Int)×Int⊕(List Int×Int)×List Int×Int):=cond (d_ (ih.2.2<(dF.2.length:Int))) (B_ (idx dF.2 ih.2.2) λkv=>B_ (gn .i64 kv l2) λkw=>B_ (bO 8 ih.2.1.1 [kw]) λjO=>some (.inl ((ih.1.1,ih.1.2),((jO,ih.2.1.2),W_ i64 (ih.2.2+1))))) (some (.inr ((ih.1.1,ih.1.2),(ih.2.1.1,ih.2.1.2))))
def OE(L:List (List Int×Int)):Option ((List Int×Int)×Bool):=B_ (aY (I7 L) (([],0),([],0))) λar=>B_ (u2 ar.2) λv5=>cond (v5==0) (some (([],0),false)) (B_ (aY (I9 L ar) ((ar.1.1,ar.1.2),([],0))) λdF=>cond (d_ (v5<0)) (B_ (ku dF.2 (-1)) λek=>B_ (wm ek) λdK=>B_ (D4 dK (W_ i64 (0-v5))) λeT=>B_ (gn .i64 (W_ i64 (0-v5)) eT) λfj=>B_ (aY (En ek eT) ((dF.1.1,dF.1.2),(([],fj),0))) λig=>some ((ig.2.1,ig.2.2),true)) (B_ (wm dF.2) λjD=>B_ (D4 jD v5) λl2=>B_ (gn .i64 v5 l2) λly=>B_ (aY (afc dF l2) ((dF.1.1,dF.1.2),(([],ly),0))) λwu=>some ((wu.2.1,wu.2.2),true)))
def afd:a8:=⟨354,[.d false (.list (.prod bG bM))],[.a [.o true 3 bM,.d false bM],ci],λx=>OE x⟩
def arv{af:Prop}:bn af afd:=bo [V3,D2,D5,VR] [cG 3 [(2,.b 86 [.o true 3 bM,.d false bM]),(4,.l (.o false 65 bG)),(5,a0)] 0 [(2,.b 86 [.o true 3 bM,.d false bM]),(4,.l (.o false 65 bG))],cG 11 [(2,.b 86 [.o true 3 bM,.d false bM]),(7,cR 3),(8,a0)] 2 [(2,.b 86 [.o true 3 bM,.d false bM]),(7,cR 3)],cG 15 [(2,.b 86 [.o true 3 bM,.d false bM]),(7,cR 3),(9,cx 65),(10,a0)] 4 [(2,.b 86 [.o true 3 bM,.d false bM]),(7,cR 3),(9,cx 65)],cG 27 [(2,.b 86 [.o true 3 bM,.d false bM]),(13,.b 86 [.o true 3 bM,.d false bM]),(14,a0)] 6 [(2,.b 86 [.o true 3 bM,.d false bM]),(13,.b 86 [.o true 3 bM,.d false bM])]] [cw 29 0] ⟨aew,Iy,IB,aef,trivial⟩
def Eo(L:List Int×Int):Option Bool:=B_ (nC L.2 1 100000) λS=>cond S (B_ (qf L.1 10000000) λaa=>some aa) (some false)
def Wm:a8:=⟨362,[.d false (.prod bG bM)],[ci],λx=>Eo x⟩
def afe{af:Prop}:bn af Wm:=bo [rj,ye] [] [] ⟨so,AQ,trivial⟩
def OF(L:Int×List (List Int×Int))(ax:List Int×Int)(ak:Int):Option (Int⊕Unit⊕Bool):=cond (d_ (ak<(L.2.length:Int))) (B_ (idx L.2 ak) λar=>B_ (nE ar.1 ax.1) λv5=>B_ (idx L.2 ak) λaR=>cond (d_ (v5>W_ i64 (aR.2*ax.2))) (some (.inr (.inr false))) (some (.inl (W_ i64 (ak+1))))) (some (.inr (.inl ())))
def OG(L:Int×List (List Int×Int))(ax:List Int×Int):Option Bool:=B_ (u5 (L.1,L.2)) λS=>cond (!S) (some false) (B_ (Eo (ax.1,ax.2)) λaa=>cond (!aa) (some false) (cond ((ax.1.length:Int)!=L.1) (some false) (B_ (aY (OF L ax) 0) λaP=>match aP with|.inl bl=>some true|.inr bk=>some bk)))
def aff:a8:=⟨355,[.d false (.prod bM (.list (.prod bG bM))),.d false (.prod bG bM)],[ci],λx=>OG x.1 x.2⟩
def arw{af:Prop}:bn af aff:=bo [Bd,Wm,D9] [⟨4,[(5,a0)],some (0,[]),some [(4,ci)],false,none⟩] [cw 6 0] ⟨El,afe,IC,trivial⟩
def Ja(L:List Int×Int)(ax:List Int×Int)(ak:Int):Option (Int⊕Unit⊕Int):=cond (d_ (ak<(L.1.length:Int))) (B_ (idx L.1 ak) λar=>B_ (idx ax.1 ak) λv5=>cond (W_ i64 (ar*ax.2)!=W_ i64 (v5*L.2)) (B_ (A7 (d_ (W_ i64 (ar*ax.2)<W_ i64 (v5*L.2)))) λaR=>some (.inr (.inr (W_ i64 (1-W_ i64 (2*aR)))))) (some (.inl (W_ i64 (ak+1))))) (some (.inr (.inl ())))
def Jb(L:List Int×Int)(ax:List Int×Int):Option Int:=B_ (Eo (L.1,L.2)) λS=>cond (!S) (some 0) (B_ (Eo (ax.1,ax.2)) λaa=>cond (!aa) (some 0) (cond ((L.1.length:Int)!=(ax.1.length:Int)) (some 0) (B_ (aY (Ja L ax) 0) λaP=>match aP with|.inl bl=>some 0|.inr bk=>some bk)))
def afg:a8:=⟨363,[.d false (.prod bG bM),.d false (.prod bG bM)],[a0],λx=>Jb x.1 x.2⟩
def arx{af:Prop}:bn af afg:=bo [Wm,Oc] [⟨4,[(5,a0)],some (0,[]),some [(4,a0)],false,none⟩] [cw 6 0,cw 7 0] ⟨afe,Wf,trivial⟩
def Wn(ax:List Int×Int)(S:List (List Int×Int)×Int):Option (List (List Int×Int)×Int⊕List (List Int×Int)×Int):=cond (d_ (S.2>0)) (B_ (bE S.1.length (W_ i64 (S.2-1))) λ_=>B_ (idx S.1 (((W_ i64 (S.2-(1:Int))).toNat:Nat):Int)) λaa=>B_ (Jb (ax.1,ax.2) aa) λak=>cond (d_ (ak<0)) (some (.inl (S.1,W_ i64 (S.2-1)))) (some (.inr (S.1,S.2)))) (some (.inr (S.1,S.2)))
def OH(L:List (List Int×Int))(ax:List Int×Int):Option (List (List Int×Int)):=B_ (aY (Wn ax) (L,(L.length:Int))) λar=>cond (d_ (ar.2>0)) (B_ (bE ar.1.length (W_ i64 (ar.2-1))) λ_=>B_ (idx ar.1 (((W_ i64 (ar.2-(1:Int))).toNat:Nat):Int)) λv5=>B_ (Jb (ax.1,ax.2) v5) λaR=>cond (aR==0) (some ar.1) (B_ (fd ar.1 ar.2 (ar.1.length:Int)) λaP=>B_ (fd ar.1 (ar.2.toNat:Int) ((ar.1.length:Int).toNat:Int)) λbl=>B_ (bO 32 [] bl) λbk=>B_ (fd ar.1 0 ar.2) λbH=>B_ (bO 32 bH [(ax.1,ax.2)]) λbF=>B_ (bO 32 bF bk) λbK=>some bK)) (B_ (fd ar.1 ar.2 (ar.1.length:Int)) λc1=>B_ (fd ar.1 (ar.2.toNat:Int) ((ar.1.length:Int).toNat:Int)) λdH=>B_ (bO 32 [] dH) λdF=>B_ (fd ar.1 0 ar.2) λek=>B_ (bO 32 ek [(ax.1,ax.2)]) λdK=>B_ (bO 32 dK dF) λeT=>some eT)
def afh:a8:=⟨356,[.mv false 86 (.prod bG bM),.d false (.prod bG bM)],[.l (.o false 86 (.prod bG bM))],λx=>OH x.1 x.2⟩
def ary{af:Prop}:bn af afh:=wi [37] [(7,[0,1,2,6,3,4,5,7,8])] [afg] [cG 2 [(0,.l (.o false 86 (.prod bG bM))),(5,a0)] 0 [(0,.l (.o false 86 (.prod bG bM))),(5,a0)]] [cw 2 0,cw 4 0,cw 7 0] [] ⟨arx,trivial⟩ trivial
def Jc(rec:Int×List (List Int×Int)->Int->List (List Int×Int)->List (List Int×Int)->Option (List (List Int×Int)))(L:Int×List (List Int×Int))(dm:List (List Int×Int))(ar:List (List Int×Int)×Int):Option (List (List Int×Int)×Int⊕List (List Int×Int)):=cond (d_ (ar.2<(L.2.length:Int))) (B_ (bO 32 [] dm) λv5=>B_ (idx L.2 ar.2) λaR=>B_ (bO 32 v5 [(aR.1,aR.2)]) λaP=>B_ (rec (L.1,L.2) (W_ i64 (ar.2+1)) aP ar.1) λbl=>some (.inl (bl,W_ i64 (ar.2+1)))) (some (.inr ar.1))
def yl(rec:Int×List (List Int×Int)->Int->List (List Int×Int)->List (List Int×Int)->Option (List (List Int×Int)))(L:Int×List (List Int×Int))(ax:Int)(dm:List (List Int×Int))(ww:List (List Int×Int)):Option (List (List Int×Int)):=cond ((dm.length:Int)==L.1) (B_ (OE dm) λS=>cond S.2 (B_ (OG (L.1,L.2) (S.1.1,S.1.2)) λaa=>cond aa (B_ (OH ww (S.1.1,S.1.2)) λak=>some ak) (some ww)) (some ww)) (B_ (aY (Jc rec L dm) (ww,ax)) λbk=>some bk)
def wx:Nat->Int×List (List Int×Int)->Int->List (List Int×Int)->List (List Int×Int)->Option (List (List Int×Int))|0=>λ_ _ _ _=>none|n+1=>yl (wx n)
def Wo(L:Int×List (List Int×Int))(ax:Int)(dm:List (List Int×Int))(ww:List (List Int×Int)):Option (List (List Int×Int)):=wx 30000 L ax dm ww
def Wp:a8:=⟨330,[.d false (.prod bM (.list (.prod bG bM))),eD,.d false (.list (.prod bG bM)),.mv false 86 (.prod bG bM)],[.l (.o false 86 (.prod bG bM))],λx=>Wo x.1 x.2.1 x.2.2.1 x.2.2.2⟩
def tG(rec:Int×List (List Int×Int)->Int->List (List Int×Int)->List (List Int×Int)->Option (List (List Int×Int))):a8:=⟨330,[.d false (.prod bM (.list (.prod bG bM))),.d false bM,.d false (.list (.prod bG bM)),.mv false 86 (.prod bG bM)],[.l (.o false 86 (.prod bG bM))],λx=>rec x.1 x.2.1 x.2.2.1 x.2.2.2⟩
def afi(rec:Int×List (List Int×Int)->Int->List (List Int×Int)->List (List Int×Int)->Option (List (List Int×Int))):cW:=⟨Tryz.prog,nB,[afd,aff,afh,tG rec],[cG 7 [(3,.l (.o false 86 (.prod bG bM))),(11,a0)] 0 [(3,.l (.o false 86 (.prod bG bM)))]],[cw 9 0],[],[],[]⟩
def arz(rec:Int×List (List Int×Int)->Int->List (List Int×Int)->List (List Int×Int)->Option (List (List Int×Int)))(x:iw.den (tG rec).ps):xk (afi rec) Tryz.f330 (tG rec).ps (tG rec).rs x=(tG (yl rec)).F x:=by kernel_rfl
def arA{af:Prop}(rec:Int×List (List Int×Int)->Int->List (List Int×Int)->List (List Int×Int)->Option (List (List Int×Int)))(h:dJ Tryz.prog (tG rec).f/\ga af Tryz.prog (tG rec)):dJ Tryz.prog (tG (yl rec)).f/\ga af Tryz.prog (tG (yl rec)):=HA (N:=afi rec) pu ⟨arv,arw,ary,h,trivial⟩ func330 (by kernel_rfl) (arz rec)
def afj{af:Prop}:(n:Nat)->dJ Tryz.prog (tG (wx n)).f/\ga af Tryz.prog (tG (wx n))|0=>⟨⟨Tryz.f330,_,func330,by kernel_rfl,rfl⟩,λx z h=>by cases h⟩|n+1=>arA _ (afj n)
def arB{af:Prop}:dJ Tryz.prog Wp.f/\ga af Tryz.prog Wp:=afj 30000
def Jd(L:Int×List (List Int×Int)):Option (List (List Int×Int)):=B_ (u5 (L.1,L.2)) λS=>cond (!S) (some []) (B_ (Wo (L.1,L.2) 0 [] []) λaa=>some aa)
def afk:a8:=⟨283,[.d false (.prod bM (.list (.prod bG bM)))],[.l (.o false 86 (.prod bG bM))],λx=>Jd x⟩
def arC{af:Prop}:bn af afk:=bo [Bd,Wp] [] [] ⟨El,arB,trivial⟩
def OI(L:List Int×Int):Option ByteArray:=cond ((L.1.length:Int)==0) (some ⟨#[]⟩) (cond (d_ (L.2<1)) (some ⟨#[]⟩) (cond (L.2==1) (B_ (tE L.1) λS=>some S) (B_ (tE L.1) λaa=>B_ (fM aa ⟨#[47]⟩) λak=>B_ (jc L.2) λar=>B_ (fM ak ar) λv5=>some v5)))
def afl:a8:=⟨284,[.d false (.prod bG bM)],[hF],λx=>OI x⟩
def arD{af:Prop}:bn af afl:=bo [AZ,uV] [] [cw 5 0] ⟨D0,wk,trivial⟩
def Ep(ar:List (List Int×Int))(v5:List ByteArray×Int):Option (List ByteArray×Int⊕List ByteArray):=cond (d_ (v5.2<(ar.length:Int))) (B_ (idx ar v5.2) λaR=>B_ (OI aR) λaP=>B_ (bO 16 v5.1 [aP]) λbl=>some (.inl (bl,W_ i64 (v5.2+1)))) (some (.inr v5.1))
def OJ(L:ByteArray)(ax:ByteArray):Option ByteArray:=B_ (OB ax) λS=>cond (!S.2) (some ⟨#[110,111]⟩) (cond (L.toList==(⟨#[99,111,117,110,116]⟩:ByteArray).toList) (B_ (OD (S.1.1,S.1.2)) λaa=>B_ (jc aa) λak=>some ak) (B_ (Jd (S.1.1,S.1.2)) λar=>B_ (aY (Ep ar) ([],0)) λbk=>cond ((bk.length:Int)==0) (some ⟨#[45]⟩) (B_ (tD bk ⟨#[32]⟩) λbH=>some bH)))
def afm:a8:=⟨228,[jq,jq],[hF],λx=>OJ x.1 x.2⟩
def arE{af:Prop}:bn af afm:=bo [ae8,afb,uV,afk,afl,DZ] [cG 9 [(7,l1 9),(9,a0)] 0 [(7,l1 9)]] [] ⟨arr,aru,wk,arC,arD,Iw,trivial⟩
def OK(L:ap)(ax:List Int):Option Int:=B_ (kt L) λS=>cond (!S) (some (-1)) (B_ (AR ax) λaa=>cond (!aa) (some (-1)) (cond ((ax.length:Int)!=2) (some (-1)) (B_ (u1 L ax) λak=>some ak)))
def afn:a8:=⟨230,[cm,dq],[a0],λx=>OK x.1 x.2⟩
def arF{af:Prop}:bn af afn:=bo [l3,Ij,NR] [] [] ⟨mE,Nw,VZ,trivial⟩
def Je(ax:List Int)(ar:Int×Int)(aR:ap)(aP:List Int×Int):Option (List Int×Int⊕List Int):=cond (d_ (aP.2<(aR.length:Int))) (B_ (idx aR aP.2) λbl=>B_ (nE ax bl) λbk=>B_ (bE aP.1.length (W_ i64 (bk-ar.2))) λ_=>B_ (idx aP.1 (((W_ i64 (bk-ar.2)).toNat:Nat):Int)) λbH=>B_ (bE aP.1.length (W_ i64 (bk-ar.2))) λ_=>B_ (bE aP.1.length (((W_ i64 (bk-ar.2)).toNat:Nat):Int)) λ_=>some (.inl (aP.1.set (W_ i64 (bk-ar.2)).toNat (W_ i64 (bH+1)),W_ i64 (aP.2+1)))) (some (.inr aP.1))
def OL(L:ap)(ax:List Int):Option (List Int):=B_ (kt L) λS=>cond (!S) (some []) (B_ (oh L) λaa=>cond (d_ (aa>2000)) (some []) (cond ((ax.length:Int)!=2) (some []) (B_ (qf ax 12) λak=>cond (!ak) (some []) (B_ (Ej L ax) λar=>B_ (ov 8 (W_ i64 (W_ i64 (ar.1-ar.2)+1)) 0) λv5=>B_ (A9 L) λaR=>B_ (aY (Je ax ar aR) (v5,0)) λbF=>some bF))))
def afo:a8:=⟨232,[cm,dq],[cR 3],λx=>OL x.1 x.2⟩
def arG{af:Prop}:bn af afo:=bo [l3,A5,ye,V9,Wg,D9] [cG 7 [(7,cR 3),(9,a0)] 0 [(7,cR 3)]] [] ⟨mE,Ed,AQ,aeI,aeR,IC,trivial⟩
def Wq(L:ap×ap)(ax:ByteArray)(dm:ByteArray):Option ByteArray:=cond (ax.toList==(⟨#[99,111,117,110,116]⟩:ByteArray).toList) (B_ (OJ ax dm) λS=>some S) (cond (ax.toList==(⟨#[118,101,114,116,105,99,101,115]⟩:ByteArray).toList) (B_ (OJ ax dm) λaa=>some aa) (cond (ax.toList==(⟨#[97,116]⟩:ByteArray).toList) (B_ (tC dm) λak=>cond ak.2 (B_ (yk L.1 ak.1) λar=>B_ (jc ar) λv5=>some v5) (some ⟨#[119,104,97,116]⟩)) (B_ (sp dm) λaR=>cond (!aR.2) (some ⟨#[119,104,97,116]⟩) (cond (ax.toList==(⟨#[112,108,97,99,101]⟩:ByteArray).toList) (B_ (OK L.1 aR.1) λaP=>B_ (jc aP) λbl=>some bl) (cond (ax.toList==(⟨#[108,97,121,101,114,115]⟩:ByteArray).toList) (B_ (OL L.1 aR.1) λbk=>B_ (Bb bk ⟨#[110,111]⟩) λbH=>some bH) (some ⟨#[119,104,97,116]⟩))))))
def afp:a8:=⟨161,[.d false (.prod eX eX),jq,jq],[hF],λx=>Wq x.1 x.2.1 x.2.2⟩
def arH{af:Prop}:bn af afp:=bo [afm,DU,N4,uV,DV,afn,afo,Ou] [] [] ⟨arE,Ii,V6,wk,Ik,arF,arG,Wk,trivial⟩
def Er(L:List Int)(S:Int):Option (Int⊕Unit⊕Bool):=cond (d_ (S<(L.length:Int))) (B_ (idx L S) λaa=>B_ (nC aa 1 30) λak=>cond (!ak) (some (.inr (.inr false))) (cond (d_ (S>0)) (B_ (idx L S) λar=>B_ (idx L (W_ i64 (S-1))) λv5=>cond (d_ (ar<=v5)) (some (.inr (.inr false))) (some (.inl (W_ i64 (S+1))))) (some (.inl (W_ i64 (S+1)))))) (some (.inr (.inl ())))
def OM(L:List Int):Option Bool:=B_ (aY (Er L) 0) λaR=>match aR with|.inl aP=>B_ (nC (L.length:Int) 1 6) λbk=>some bk|.inr bl=>some bl
def afq:a8:=⟨288,[dq],[ci],λx=>OM x⟩
def arI{af:Prop}:bn af afq:=bo [rj] [⟨2,[(3,a0)],some (0,[]),some [(2,ci)],false,none⟩] [cw 4 0] ⟨so,trivial⟩
def Wr(L:List Int)(ax:Int)(ar:List Int×Int)(aR:List Int×Int):Option (List Int×Int⊕List Int):=cond (d_ (aR.2<=ax)) (B_ (bE aR.1.length aR.2) λ_=>B_ (idx aR.1 ((aR.2.toNat:Nat):Int)) λaP=>B_ (idx L ar.2) λbl=>B_ (bE aR.1.length (W_ i64 (aR.2-bl))) λ_=>B_ (idx aR.1 (((W_ i64 (aR.2-bl)).toNat:Nat):Int)) λbk=>B_ (bE aR.1.length aR.2) λ_=>B_ (bE aR.1.length ((aR.2.toNat:Nat):Int)) λ_=>some (.inl (aR.1.set aR.2.toNat (W_ i64 (aP+bk)),W_ i64 (aR.2+1)))) (some (.inr aR.1))
def Ws(L:List Int)(ax:Int)(ar:List Int×Int):Option (List Int×Int⊕List Int):=cond (d_ (ar.2<(L.length:Int))) (B_ (idx L ar.2) λv5=>B_ (aY (Wr L ax ar) (ar.1,v5)) λbH=>some (.inl (bH,W_ i64 (ar.2+1)))) (some (.inr ar.1))
def ON(L:List Int)(ax:Int):Option Int:=B_ (OM L) λS=>cond (!S) (some (-1)) (B_ (nC ax 0 500) λaa=>cond (!aa) (some (-1)) (B_ (ov 8 (W_ i64 (ax+1)) 0) λak=>B_ (bE ak.length 0) λ_=>B_ (bE ak.length (((0:Int).toNat:Nat):Int)) λ_=>B_ (aY (Ws L ax) (ak.set (0:Int).toNat 1,0)) λbF=>B_ (bE bF.length ax) λ_=>B_ (idx bF (((ax).toNat:Nat):Int)) λbK=>some bK))
def afr:a8:=⟨233,[dq,eD],[a0],λx=>ON x.1 x.2⟩
def arJ{af:Prop}:bn af afr:=bo [afq,rj] [cG 6 [(5,cR 3),(6,a0)] 0 [(5,cR 3)],cG 9 [(5,cR 3),(7,a0)] 2 [(5,cR 3)]] [cw 11 0] ⟨arI,so,trivial⟩
def OO(L:List Int)(ax:List Int):Option (List Int):=B_ (nD L ax) λS=>B_ (A1 L) λaa=>B_ (nD aa ax) λak=>B_ (yi ak S) λar=>B_ (ku L ar) λv5=>B_ (mD aa v5) λaR=>some aR
def afs:a8:=⟨290,[dq,dq],[cR 3],λx=>OO x.1 x.2⟩
def arK{af:Prop}:bn af afs:=bo [wl,VT,VV,D2,AT] [] [] ⟨yg,aeh,aej,Iy,DX,trivial⟩
def Jf(L:List Int×List Int)(ak:ap×List Int):Option (ap×List Int⊕ap×List Int):=B_ (nD ak.2 L.2) λar=>cond (d_ (ar>0)) (B_ (bO 24 ak.1 [ak.2]) λv5=>B_ (OO ak.2 L.2) λaR=>some (.inl (v5,aR))) (some (.inr (ak.1,ak.2)))
def Be(L:List Int×List Int):Option ap:=B_ (wq (L.1,L.2)) λS=>cond (!S) (some []) (B_ (bO 8 [] L.1) λaa=>B_ (aY (Jf L) ([],aa)) λaP=>B_ (bO 24 aP.1 [aP.2]) λbl=>some bl)
def Wt:a8:=⟨235,[.d false (.prod bG bG)],[.l (.o false 65 bG)],λx=>Be x⟩
def aft{af:Prop}:bn af Wt:=bo [IV,wl,afs] [cG 5 [(3,.l (.o false 65 bG)),(4,wh)] 0 [(3,.l (.o false 65 bG)),(4,wh)]] [] ⟨Ob,yg,arK,trivial⟩
def Jg(S:ap)(aa:List Int×Int):Option (List Int×Int⊕List Int):=cond (d_ (W_ i64 (aa.2+1)<(S.length:Int))) (B_ (idx S (W_ i64 (aa.2-1))) λak=>B_ (idx S (W_ i64 (aa.2+1))) λar=>B_ (uZ ak ar) λv5=>B_ (idx S aa.2) λaR=>B_ (idx aR 0) λaP=>B_ (A7 (aP==0)) λbl=>B_ (bE v5.length bl) λ_=>B_ (idx v5 (((bl).toNat:Nat):Int)) λbk=>B_ (idx S aa.2) λbH=>B_ (idx bH bl) λbF=>B_ (gn .i64 bk bF) λbK=>B_ (bO 8 aa.1 [bK]) λc1=>some (.inl (c1,W_ i64 (aa.2+1)))) (some (.inr aa.1))
def Jh(L:List Int×List Int):Option (List Int):=B_ (Be (L.1,L.2)) λS=>B_ (aY (Jg S) ([],1)) λdH=>some dH
def afu:a8:=⟨236,[.d false (.prod bG bG)],[cR 3],λx=>Jh x⟩
def arL{af:Prop}:bn af afu:=bo [Wt,IE,Oc] [cG 4 [(3,cR 3),(5,a0)] 0 [(3,cR 3)]] [cw 6 0,cw 8 0] ⟨aft,NM,Wf,trivial⟩
def Wu(L:List ByteArray):Option ByteArray:=B_ (idx L 2) λS=>B_ (sp S) λaa=>cond (!aa.2) (some ⟨#[119,104,97,116]⟩) (B_ (idx L 0) λak=>cond (ak.toList==(⟨#[119,97,121,115]⟩:ByteArray).toList) (B_ (idx L 1) λar=>B_ (tC ar) λv5=>cond (!v5.2) (some ⟨#[119,104,97,116]⟩) (B_ (ON aa.1 v5.1) λaR=>B_ (jc aR) λaP=>some aP)) (B_ (idx L 1) λbl=>B_ (sp bl) λbk=>cond (!bk.2) (some ⟨#[119,104,97,116]⟩) (B_ (idx L 0) λbH=>cond (! bH.toList==(⟨#[115,112,108,105,116]⟩:ByteArray).toList) (B_ (idx L 0) λbF=>cond (! bF.toList==(⟨#[116,117,114,110,115]⟩:ByteArray).toList) (some ⟨#[119,104,97,116]⟩) (B_ (wq (bk.1,aa.1)) λbK=>cond (!bK) (some ⟨#[110,111]⟩) (B_ (idx L 0) λc1=>cond (c1.toList==(⟨#[115,112,108,105,116]⟩:ByteArray).toList) (B_ (Be (bk.1,aa.1)) λdH=>B_ (Ba dH) λdF=>some dF) (B_ (Jh (bk.1,aa.1)) λek=>B_ (Bb ek ⟨#[45]⟩) λdK=>some dK)))) (B_ (wq (bk.1,aa.1)) λeT=>cond (!eT) (some ⟨#[110,111]⟩) (B_ (idx L 0) λfj=>cond (fj.toList==(⟨#[115,112,108,105,116]⟩:ByteArray).toList) (B_ (Be (bk.1,aa.1)) λdY=>B_ (Ba dY) λeZ=>some eZ) (B_ (Jh (bk.1,aa.1)) λhQ=>B_ (Bb hQ ⟨#[45]⟩) λie=>some ie))))))
def afv:a8:=⟨162,[.d false (.list .str)],[hF],λx=>Wu x⟩
def arM{af:Prop}:bn af afv:=bo [DV,DU,afr,uV,IV,Wt,Wj,afu,Ou] [] [] ⟨Ik,Ii,arJ,wk,Ob,aft,ae0,arL,Wk,trivial⟩
def Bf(L:ap×ap)(ax:List ByteArray):Option ByteArray:=cond ((ax.length:Int)==1) (B_ (idx ax 0) λS=>B_ (Wl (L.1,L.2) S) λaa=>some aa) (cond ((ax.length:Int)==2) (B_ (idx ax 0) λak=>B_ (idx ax 1) λar=>B_ (Wq (L.1,L.2) ak ar) λv5=>some v5) (cond ((ax.length:Int)==3) (B_ (Wu ax) λaR=>some aR) (some ⟨#[119,104,97,116]⟩)))
def afw:a8:=⟨76,[.d false (.prod eX eX),.d false (.list .str)],[hF],λx=>Bf x.1 x.2⟩
def arN{af:Prop}:bn af afw:=bo [ae5,afp,afv] [] [cw 3 0,cw 5 0] ⟨aro,arH,arM,trivial⟩
def Bg(L:ap×ap)(ax:ByteArray):Option ((ap×ap)×ByteArray):=B_ (D1 (L.1,L.2)) λS=>B_ (yc ax 32) λaa=>B_ (Ei (L.1,L.2) aa) λak=>cond (ax.toList==(⟨#[107,101,101,112]⟩:ByteArray).toList) (B_ (oQ L.1) λar=>some ((S.1,ar),⟨#[111,107]⟩)) (cond (ax.toList==(⟨#[115,119,97,112]⟩:ByteArray).toList) (B_ (oQ L.2) λv5=>B_ (oQ L.1) λaR=>some ((v5,aR),⟨#[111,107]⟩)) (cond ak.2.2 (cond (!ak.2.1) (some ((S.1,S.2),⟨#[110,111]⟩)) (cond ak.2.2 (B_ (oQ ak.1) λaP=>B_ (A0 ak.1) λbl=>some ((aP,S.2),bl)) (B_ (Bf (L.1,L.2) aa) λbk=>some ((S.1,S.2),bk)))) (cond ak.2.2 (B_ (oQ ak.1) λbH=>B_ (A0 ak.1) λbF=>some ((bH,S.2),bF)) (B_ (Bf (L.1,L.2) aa) λbK=>some ((S.1,S.2),bK)))))
def afx:a8:=⟨10,[.d false (.prod eX eX),jq],[.a [.o true 65 bG,.o true 65 bG],hF],λx=>Bg x.1 x.2⟩
def arO{af:Prop}:bn af afx:=bo [aec,Ih,aeD,Is,VO,afw] [] [cw 15 0,cw 16 0] ⟨aqS,Nu,aq4,NB,aeb,arN,trivial⟩
def oR(L:List Int):Option (List Int):=B_ (bO 8 [] L) λS=>some S
def wy:a8:=⟨99,[dq],[cR 3],λx=>oR x⟩
def ym{af:Prop}:bn af wy:=bo [] [] [] trivial
def u6(L:ap)(S:ap×Int):Option (ap×Int⊕ap):=cond (d_ (S.2<(L.length:Int))) (B_ (idx L S.2) λaa=>B_ (oR aa) λak=>B_ (bO 24 S.1 [ak]) λar=>some (.inl (ar,W_ i64 (S.2+1)))) (some (.inr S.1))
def pw(L:ap):Option ap:=B_ (aY (u6 L) ([],0)) λv5=>some v5
def Es:a8:=⟨34,[cm],[cx 65],λx=>pw x⟩
def Ji{af:Prop}:bn af Es:=bo [wy] [cG 3 [(3,cx 65),(8,a0)] 0 [(3,cx 65)]] [] ⟨ym,trivial⟩
def Wv(L ax:ByteArray):Option (List ByteArray):=DL L ax
def Ww:a8:=⟨100,[jq,jq],[l1 9],λx=>Wv x.1 x.2⟩
def arP{af:Prop}:dJ Tryz.prog Ww.f/\ga af Tryz.prog Ww:=⟨⟨Tryz.f100,_,func100,by kernel_rfl,rfl⟩,apX {adI with} (by kernel_rfl) ap9 rfl rfl⟩
def yn(L:ByteArray)(ax:Int):Option (List ByteArray):=B_ (Wv L (o0 [ax])) λS=>some S
def Jj:a8:=⟨35,[jq,.d false (.int .u8)],[l1 9],λx=>yn x.1 x.2⟩
def OP{af:Prop}:bn af Jj:=bo [Ww] [] [] ⟨arP,trivial⟩
def Wx(L:List ByteArray)(ax:ByteArray):Option ByteArray:=H5 L ax
def Wy:a8:=⟨103,[.d false (.list .str),jq],[hF],λx=>Wx x.1 x.2⟩
def arQ:dJ Tryz.prog Wy.f/\ga False Tryz.prog Wy:=⟨⟨Tryz.f103,_,func103,by kernel_rfl,rfl⟩,apV ap6 ap7 rfl⟩
def tH(L:List ByteArray)(ax:ByteArray):Option ByteArray:=B_ (Wx L ax) λS=>some S
def Jk:a8:=⟨39,[.d false (.list .str),jq],[hF],λx=>tH x.1 x.2⟩
def OQ:bn False Jk:=bo [Wy] [] [] ⟨arQ,trivial⟩
def wz(L:ByteArray):Option (Int×Bool):=H7 L
def Jl:a8:=⟨55,[jq],[a0,ci],λx=>wz x⟩
def Wz:dJ Tryz.prog Jl.f/\ga False Tryz.prog Jl:=aqj
def nG(L:Int)(ax:Int)(dm:Int):Option Bool:=cond (d_ (L>=ax)) (some (d_ (L<=dm))) (some false)
def rl:a8:=⟨125,[eD,eD,eD],[ci],λx=>nG x.1 x.2.1 x.2.2⟩
def ss{af:Prop}:bn af rl:=bo [] [] [] trivial
def WA(L:List Int)(ax:Int)(dm:Int)(S:Int):Option (Int⊕Unit⊕Bool):=cond (d_ (S<(L.length:Int))) (B_ (idx L S) λaa=>B_ (nG aa ax dm) λak=>cond (!ak) (some (.inr (.inr false))) (some (.inl (W_ i64 (S+1))))) (some (.inr (.inl ())))
def su(L:List Int)(ax:Int)(dm:Int):Option Bool:=B_ (aY (WA L ax dm) 0) λar=>match ar with|.inl v5=>some true|.inr aR=>some aR
def Et:a8:=⟨204,[dq,eD,eD],[ci],λx=>su x.1 x.2.1 x.2.2⟩
def Jm{af:Prop}:bn af Et:=bo [rl] [⟨2,[(11,a0)],some (0,[]),some [(6,ci)],false,none⟩] [] ⟨ss,trivial⟩
def wB(L:List Int):Option Bool:=B_ (nG (L.length:Int) 1 3) λS=>cond S (B_ (su L (-1000) 1000) λaa=>some aa) (some false)
def Bh:a8:=⟨130,[dq],[ci],λx=>wB x⟩
def Eu{af:Prop}:bn af Bh:=bo [rl,Et] [] [] ⟨ss,Jm,trivial⟩
def WB(L:List Int):Option (List Int×Bool):=B_ (wB L) λS=>cond (!S) (some ([],false)) (some (L,true))
def afy:a8:=⟨126,[.mv true 3 bM],[cR 3,ci],λx=>WB x⟩
def arR{af:Prop}:bn af afy:=bo [Bh] [] [] ⟨Eu,trivial⟩
def afz(S:List ByteArray)(aa:List Int×Int):Option (List Int×Int⊕List Int⊕List Int×Bool):=cond (d_ (aa.2<(S.length:Int))) (B_ (idx S aa.2) λak=>B_ (wz ak) λar=>cond (!ar.2) (some (.inr (.inr ([],false)))) (B_ (bO 8 aa.1 [ar.1]) λv5=>some (.inl (v5,W_ i64 (aa.2+1))))) (some (.inr (.inl aa.1)))
def u7(L:ByteArray):Option (List Int×Bool):=B_ (yn L 44) λS=>B_ (aY (afz S) ([],0)) λaR=>match aR with|.inl aP=>B_ (WB aP) λbk=>some (bk.1,bk.2)|.inr bl=>some (bl.1,bl.2)
def OR:a8:=⟨56,[jq],[cR 3,ci],λx=>u7 x⟩
def WC:bn False OR:=bo [Jj,Jl,afy] [⟨3,[(4,cR 3),(12,a0)],some (0,[(4,cR 3)]),some [(2,cR 3),(3,ci)],false,none⟩] [] ⟨OP,Wz,arR,trivial⟩
def wC(L:List Int)(ax:Int):Option Bool:=cond ((L.length:Int)==2) (B_ (su L (W_ i64 (0-ax)) ax) λS=>some S) (some false)
def Ev:a8:=⟨133,[dq,eD],[ci],λx=>wC x.1 x.2⟩
def Jn{af:Prop}:bn af Ev:=bo [Et] [] [] ⟨Jm,trivial⟩
def oi(L:List Int)(ax:List Int):Option (List Int):=B_ (idx L 0) λS=>B_ (idx ax 0) λaa=>B_ (idx L 1) λak=>B_ (idx ax 1) λar=>some [W_ i64 (S-aa),W_ i64 (ak-ar)]
def yo:a8:=⟨194,[dq,dq],[cR 3],λx=>oi x.1 x.2⟩
def Bi{af:Prop}:bn af yo:=bo [] [] [cw 1 0] trivial
def l4(L:List Int)(ax:List Int):Option Int:=B_ (idx L 0) λS=>B_ (idx ax 1) λaa=>B_ (idx L 1) λak=>B_ (idx ax 0) λar=>some (W_ i64 (W_ i64 (S*aa)-W_ i64 (ak*ar)))
def yp:a8:=⟨148,[dq,dq],[a0],λx=>l4 x.1 x.2⟩
def Bj{af:Prop}:bn af yp:=bo [] [] [cw 1 0] trivial
def u9(L:List Int)(ax:List Int)(dm:List Int):Option Int:=B_ (oi ax L) λS=>B_ (oi dm L) λaa=>B_ (l4 S aa) λak=>some ak
def Ew:a8:=⟨187,[dq,dq,dq],[a0],λx=>u9 x.1 x.2.1 x.2.2⟩
def Jo{af:Prop}:bn af Ew:=bo [yo,yp] [] [] ⟨Bi,Bj,trivial⟩
def OS(L:Int):Option Bool:=some (L !=L)
def afA:a8:=⟨248,[eD],[ci],λx=>OS x⟩
def arS{af:Prop}:bn af afA:=bo [] [] [] trivial
def Bk(L:Int)(ax:Int):Option Int:=B_ (OS L) λS=>B_ (OS ax) λaa=>cond S (cond aa (some 0) (some (-1))) (cond aa (some 1) (cond (d_ (L<ax)) (some (-1)) (cond (d_ (L>ax)) (some 1) (some 0))))
def WD:a8:=⟨196,[eD,eD],[a0],λx=>Bk x.1 x.2⟩
def afB{af:Prop}:bn af WD:=bo [afA] [] [] ⟨arS,trivial⟩
def Ex(L:List Int)(ax:List Int)(S:Int):Option (Int⊕Unit⊕Int):=cond (d_ (S<(L.length:Int))) (B_ (idx L S) λaa=>cond (d_ (S>=(ax.length:Int))) (some (.inr (.inr 1))) (B_ (idx ax S) λak=>B_ (Bk aa ak) λar=>cond (ar !=0) (some (.inr (.inr ar))) (some (.inl (W_ i64 (S+1)))))) (some (.inr (.inl ())))
def wD(L:List Int)(ax:List Int):Option Int:=B_ (aY (Ex L ax) 0) λv5=>match v5 with|.inl aR=>cond (d_ ((L.length:Int)<(ax.length:Int))) (some (-1)) (some 0)|.inr aP=>some aP
def WE:a8:=⟨108,[dq,dq],[a0],λx=>wD x.1 x.2⟩
def OT{af:Prop}:bn af WE:=bo [WD] [⟨2,[(11,a0)],some (0,[]),some [(4,a0)],false,none⟩] [] ⟨afB,trivial⟩
def Jp(L:ap)(aa:Int):Option (Int⊕Unit⊕Bool):=cond (d_ (aa<(L.length:Int))) (B_ (idx L aa) λak=>B_ (wC ak 50) λar=>cond (!ar) (some (.inr (.inr false))) (some (.inl (W_ i64 (aa+1))))) (some (.inr (.inl ())))
def Jq(L:ap)(bl:Int):Option (Int⊕Unit⊕Bool):=cond (d_ (bl<(L.length:Int))) (B_ (idx L bl) λbk=>B_ (gu .i64 (W_ i64 (bl+1)) (L.length:Int)) λbH=>B_ (idx L bH) λbF=>B_ (gu .i64 (W_ i64 (bl+2)) (L.length:Int)) λbK=>B_ (idx L bK) λc1=>B_ (u9 bk bF c1) λdH=>cond (d_ (dH<=0)) (some (.inr (.inr false))) (cond (d_ (bl>0)) (B_ (idx L 0) λdF=>B_ (wD dF bk) λek=>cond (d_ (ek>=0)) (some (.inr (.inr false))) (cond (d_ (bl>0)) (cond (d_ (bl<W_ i64 ((L.length:Int)-1))) (B_ (idx L 0) λdK=>B_ (idx L (W_ i64 (bl+1))) λeT=>B_ (u9 dK bk eT) λfj=>cond (d_ (fj<=0)) (some (.inr (.inr false))) (some (.inl (W_ i64 (bl+1))))) (some (.inl (W_ i64 (bl+1))))) (some (.inl (W_ i64 (bl+1)))))) (cond (d_ (bl>0)) (cond (d_ (bl<W_ i64 ((L.length:Int)-1))) (B_ (idx L 0) λdY=>B_ (idx L (W_ i64 (bl+1))) λeZ=>B_ (u9 dY bk eZ) λhQ=>cond (d_ (hQ<=0)) (some (.inr (.inr false))) (some (.inl (W_ i64 (bl+1))))) (some (.inl (W_ i64 (bl+1))))) (some (.inl (W_ i64 (bl+1))))))) (some (.inr (.inl ())))
def kx(L:ap):Option Bool:=B_ (nG (L.length:Int) 3 12) λS=>cond (!S) (some false) (B_ (aY (Jp L) 0) λv5=>match v5 with|.inl aR=>(B_ (aY (Jq L) 0) λie=>match ie with|.inl ig=>some true|.inr jD=>some jD)|.inr aP=>some aP)
def l5:a8:=⟨101,[cm],[ci],λx=>kx x⟩
def mF{af:Prop}:bn af l5:=bo [rl,Ev,Ew,WE] [⟨4,[(14,a0)],some (0,[]),some [(2,ci)],false,none⟩,⟨11,[(26,a0)],some (2,[]),some [(2,ci)],false,none⟩] [cw 13 0] ⟨ss,Jn,Jo,OT,trivial⟩
def Ey(S:List ByteArray)(aa:ap×Int):Option (ap×Int⊕ap⊕ap×Bool):=cond (d_ (aa.2<(S.length:Int))) (B_ (idx S aa.2) λak=>B_ (u7 ak) λar=>cond (!ar.2) (some (.inr (.inr ([],false)))) (B_ (bO 24 aa.1 [ar.1]) λv5=>some (.inl (v5,W_ i64 (aa.2+1))))) (some (.inr (.inl aa.1)))
def Ez(L:ByteArray):Option (ap×Bool):=B_ (yn L 32) λS=>B_ (aY (Ey S) ([],0)) λaR=>match aR with|.inl aP=>B_ (kx aP) λbk=>cond (!bk) (some ([],false)) (some (aP,true))|.inr bl=>some (bl.1,bl.2)
def WF:a8:=⟨38,[jq],[cx 65,ci],λx=>Ez x⟩
def afC:bn False WF:=bo [Jj,OR,l5] [⟨3,[(4,cx 65),(12,a0)],some (0,[(4,cx 65)]),some [(2,cx 65),(3,ci)],false,none⟩] [] ⟨OP,WC,mF,trivial⟩
def WG(L:Int):Option ByteArray:=H4 L
def WH:a8:=⟨118,[eD],[hF],λx=>WG x⟩
def arT{af:Prop}:dJ Tryz.prog WH.f/\ga af Tryz.prog WH:=⟨⟨Tryz.f118,_,func118,by kernel_rfl,rfl⟩,apU adF adJ rfl⟩
def lz(L:Int):Option ByteArray:=B_ (WG L) λS=>some S
def Jr:a8:=⟨45,[eD],[hF],λx=>lz x⟩
def OU{af:Prop}:bn af Jr:=bo [WH] [] [] ⟨arT,trivial⟩
def OV(L:List Int)(S:List ByteArray×Int):Option (List ByteArray×Int⊕List ByteArray):=cond (d_ (S.2<(L.length:Int))) (B_ (idx L S.2) λaa=>B_ (lz aa) λak=>B_ (bO 16 S.1 [ak]) λar=>some (.inl (ar,W_ i64 (S.2+1)))) (some (.inr S.1))
def sv(L:List Int):Option ByteArray:=B_ (aY (OV L) ([],0)) λv5=>B_ (tH v5 ⟨#[44]⟩) λaR=>some aR
def EA:a8:=⟨62,[dq],[hF],λx=>sv x⟩
def Js:bn False EA:=bo [Jr,Jk] [cG 3 [(3,l1 9),(8,a0)] 0 [(3,l1 9)]] [] ⟨OU,OQ,trivial⟩
def Jt(L:List Int):Option ByteArray:=B_ (wB L) λS=>cond (!S) (some ⟨#[]⟩) (B_ (sv L) λaa=>some aa)
def WI:a8:=⟨102,[dq],[hF],λx=>Jt x⟩
def afD:bn False WI:=bo [Bh,EA] [] [] ⟨Eu,Js,trivial⟩
def arU(L:ap)(aa:List ByteArray×Int):Option (List ByteArray×Int⊕List ByteArray):=cond (d_ (aa.2<(L.length:Int))) (B_ (idx L aa.2) λak=>B_ (Jt ak) λar=>B_ (bO 16 aa.1 [ar]) λv5=>some (.inl (v5,W_ i64 (aa.2+1)))) (some (.inr aa.1))
def qg(L:ap):Option ByteArray:=B_ (kx L) λS=>cond (!S) (some ⟨#[]⟩) (B_ (aY (arU L) ([],0)) λaR=>B_ (tH aR ⟨#[32]⟩) λaP=>some aP)
def WJ:a8:=⟨37,[cm],[hF],λx=>qg x⟩
def afE:bn False WJ:=bo [l5,WI,Jk] [cG 5 [(3,l1 9),(11,a0)] 0 [(3,l1 9)]] [] ⟨mF,afD,OQ,trivial⟩
def Bl(i:Nat)(m t:Int)(s:Int×ap):Option (Int×ap⊕ap):=cond (d_ (s.1<m)) (B_ s.2[i]? λJ=>B_ (bE J.length s.1) λ_=>B_ s.2[i]? λJ=>B_ J[s.1.toNat]? λv=>B_ s.2[i]? λJ=>B_ (bE J.length s.1) λ_=>B_ s.2[i]? λJ=>B_ J[s.1.toNat]? λ_=>some (.inl (W_ i64 (s.1+1),s.2.set i (J.set s.1.toNat (W_ i64 (v*t)))))) (some (.inr s.2))
def OW(n t:Int)(s:Int×ap):Option (Int×ap⊕ap):=cond (d_ (s.1<n)) (B_ (bE s.2.length s.1) λ_=>if s.1.toNat<s.2.length then B_ s.2[s.1.toNat]? λJ=>B_ (aY (Bl s.1.toNat J.length t) (0,s.2)) λr=>some (.inl (W_ i64 (s.1+1),r))else none) (some (.inr s.2))
def OX(L:ap)(ax:Int):Option ap:=B_ (pw L) λS=>B_ (aY (OW S.length ax) (0,S)) λr=>some r
def Bm:a8:=⟨105,[cm,eD],[cx 65],λx=>OX x.1 x.2⟩
noncomputable def afF:cW:=⟨Tryz.prog,nB,[Es],[],[],[],[],[]⟩
def arV(x:iw.den Bm.ps):Ia afF [⟨0,11,[⟨3,0,13⟩,⟨6,2,19⟩]⟩] Tryz.f105 Bm.ps Bm.rs x=Bm.F x:=by kernel_rfl
def arW{af:Prop}:dJ Tryz.prog Bm.f/\ga af Tryz.prog Bm:=adN (N:=afF) pu ⟨Ji,trivial⟩ func105 (by kernel_rfl) rfl arV
def OY(L:ap):Option (Unit×ap×Unit):=HX (λa b=>wD a b) L
def WK:a8:=⟨191,[.io true 65 bG,.f 108],[],λx=>OY x.1⟩
def arX{af:Prop}:dJ Tryz.prog WK.f/\ga af Tryz.prog WK:=⟨⟨Tryz.f191,_,func191,by kernel_rfl,rfl⟩,apC ap0 rfl (OT (af:=True)).1 (OT (af:=True)).2⟩
def OZ(L:ap):Option (Unit×ap×Unit):=some ((),(L.reverse,()))
def WL:a8:=⟨192,[.io true 65 bG],[],λx=>OZ x⟩
def arY{af:Prop}:dJ Tryz.prog WL.f/\ga af Tryz.prog WL:=⟨⟨Tryz.f192,_,func192,by kernel_rfl,rfl⟩,apG ap2 rfl⟩
def O0(L:ap)(S:Int):Option (Int⊕Unit⊕ap×Bool):=cond (d_ (S<(L.length:Int))) (B_ (idx L S) λaa=>B_ (wC aa 50) λak=>cond (!ak) (some (.inr (.inr ([],false)))) (some (.inl (W_ i64 (S+1))))) (some (.inr (.inl ())))
def EB(bk:ap×ap×Int)(bF:List Int)(bK:ap):Option (ap⊕ap):=cond (d_ ((bK.length:Int)>=W_ i64 ((bk.2.1.length:Int)+2))) (B_ (bE bK.length (W_ i64 ((bK.length:Int)-2))) λ_=>B_ (idx bK (((W_ i64 ((bK.length:Int)-(2:Int))).toNat:Nat):Int)) λc1=>B_ (bE bK.length (W_ i64 ((bK.length:Int)-1))) λ_=>B_ (idx bK (((W_ i64 ((bK.length:Int)-(1:Int))).toNat:Nat):Int)) λdH=>B_ (u9 c1 dH bF) λdF=>cond (d_ (dF<=0)) (B_ (fd bK 0 (W_ i64 ((bK.length:Int)-1))) λek=>some (.inl ek)) (some (.inr bK))) (some (.inr bK))
def Ju(bk:ap×ap×Int)(bH:ap×Int):Option (ap×Int⊕ap):=cond (d_ (bH.2<(bk.1.length:Int))) (B_ (idx bk.1 bH.2) λbF=>B_ (aY (EB bk bF) bH.1) λdK=>B_ (oR bF) λeT=>B_ (bO 24 dK [eT]) λfj=>some (.inl (fj,W_ i64 (bH.2+1)))) (some (.inr bH.1))
def Bn(bk:ap×ap×Int):Option (ap×ap×Int⊕ap):=cond (d_ (bk.2.2<2)) (B_ (aY (Ju bk) (bk.2.1,0)) λdY=>B_ (fd dY 0 (if W_ i64 ((dY.length:Int)-1)>0 then W_ i64 ((dY.length:Int)-1)else 0)) λeZ=>B_ (OZ bk.1) λhQ=>some (.inl (hQ.2.1,(eZ,W_ i64 (bk.2.2+1))))) (some (.inr bk.2.1))
def wE(L:ap):Option (ap×Bool):=cond (d_ ((L.length:Int)>200)) (some ([],false)) (B_ (aY (O0 L) 0) λar=>match ar with|.inl v5=>B_ (pw L) λaP=>B_ (OY aP) λbl=>B_ (aY Bn (bl.2.1,([],0))) λie=>B_ (kx ie) λig=>cond (!ig) (some ([],false)) (some (ie,true))|.inr aR=>some (aR.1,aR.2))
def EC:a8:=⟨104,[cm],[cx 65,ci],λx=>wE x⟩
def Jv{af:Prop}:bn af EC:=bo [Ev,Es,WK,Ew,wy,WL,l5] [⟨4,[(17,a0)],some (0,[]),some [(2,cx 65),(3,ci)],false,none⟩,cG 13 [(6,cx 65),(7,cx 65),(8,a0)] 2 [(7,cx 65)],⟨17,[(7,cx 65),(37,a0)],some (4,[(7,cx 65)]),none,true,none⟩,cG 19 [(7,cx 65)] 6 [(7,cx 65)]] [cw 19 0] ⟨Jn,Ji,arX,Jo,ym,arY,mF,trivial⟩
def Jw(L:ap):Option (ap×Bool):=B_ (kx L) λS=>cond (!S) (some ([],false)) (B_ (OX L (-1)) λaa=>B_ (wE aa) λak=>some (ak.1,ak.2))
def WM:a8:=⟨40,[cm],[cx 65,ci],λx=>Jw x⟩
def afG{af:Prop}:bn af WM:=bo [l5,Bm,EC] [] [] ⟨mF,arW,Jv,trivial⟩
def Jx(L:Int):Option Int:=some (if W_ i64 (0-L)>L then W_ i64 (0-L)else L)
def WN:a8:=⟨256,[eD],[a0],λx=>Jx x⟩
def afH{af:Prop}:bn af WN:=bo [] [] [] trivial
def O1(S:Int×Int):Option (Int×Int⊕Int):=cond (S.2 !=0) (B_ (gu .i64 S.1 S.2) λaa=>some (.inl (S.2,aa))) (some (.inr S.1))
def Jy(L:Int)(ax:Int):Option Int:=B_ (aY O1 (L,ax)) λak=>B_ (Jx ak) λar=>some ar
def WO:a8:=⟨208,[eD,eD],[a0],λx=>Jy x.1 x.2⟩
def afI{af:Prop}:bn af WO:=bo [WN] [cG 1 [(0,a0),(1,a0)] 0 [(0,a0)]] [cw 2 0] ⟨afH,trivial⟩
def O2(L:List Int)(S:Int×Int):Option (Int×Int⊕Int):=cond (d_ (S.2<(L.length:Int))) (B_ (idx L S.2) λaa=>B_ (Jy S.1 aa) λak=>some (.inl (ak,W_ i64 (S.2+1)))) (some (.inr S.1))
def tI(L:List Int):Option Int:=B_ (aY (O2 L) (0,0)) λar=>some ar
def Bo:a8:=⟨147,[dq],[a0],λx=>tI x⟩
def ED{af:Prop}:bn af Bo:=bo [WO] [cG 3 [(3,a0),(8,a0)] 0 [(3,a0)]] [] ⟨afI,trivial⟩
def WP(L:List Int):Option Int:=B_ (wB L) λS=>cond (!S) (some (-1)) (B_ (tI L) λaa=>some aa)
def afJ:a8:=⟨247,[dq],[a0],λx=>WP x⟩
def arZ{af:Prop}:bn af afJ:=bo [Bh,Bo] [] [] ⟨Eu,ED,trivial⟩
def O3(S:Int)(aa:List Int)(ak:List Int×Int):Option (List Int×Int⊕List Int):=cond (d_ (ak.2<(aa.length:Int))) (B_ (bE ak.1.length ak.2) λ_=>B_ (idx ak.1 ((ak.2.toNat:Nat):Int)) λar=>B_ (gn .i64 ar S) λv5=>B_ (bE ak.1.length ak.2) λ_=>B_ (bE ak.1.length ((ak.2.toNat:Nat):Int)) λ_=>some (.inl (ak.1.set ak.2.toNat v5,W_ i64 (ak.2+1)))) (some (.inr ak.1))
def Bp(L:List Int):Option (List Int×Bool):=B_ (WP L) λS=>cond (d_ (S<=0)) (some ([],false)) (B_ (oR L) λaa=>B_ (aY (O3 S aa) (aa,0)) λaR=>some (aR,true))
def WT:a8:=⟨193,[dq],[cR 3,ci],λx=>Bp x⟩
def afK{af:Prop}:bn af WT:=bo [afJ,wy] [cG 6 [(5,cR 3),(15,a0)] 0 [(5,cR 3)]] [] ⟨arZ,ym,trivial⟩
def WU(ak:List Int×List Int×Int×Int):Option (List Int×List Int×Int×Int⊕List Int×Int):=cond (ak.2.2.2 !=0) (B_ (gn .i64 ak.2.2.1 ak.2.2.2) λar=>B_ (bE ak.1.length 0) λ_=>B_ (idx ak.1 (((0:Int).toNat:Nat):Int)) λv5=>B_ (bE ak.2.1.length 0) λ_=>B_ (idx ak.2.1 (((0:Int).toNat:Nat):Int)) λaR=>B_ (bE ak.1.length 1) λ_=>B_ (idx ak.1 (((1:Int).toNat:Nat):Int)) λaP=>B_ (bE ak.2.1.length 1) λ_=>B_ (idx ak.2.1 (((1:Int).toNat:Nat):Int)) λbl=>some (.inl (ak.2.1,([W_ i64 (v5-W_ i64 (ar*aR)),W_ i64 (aP-W_ i64 (ar*bl))],(ak.2.2.2,W_ i64 (ak.2.2.1-W_ i64 (ar*ak.2.2.2))))))) (some (.inr (ak.1,ak.2.2.1)))
def tJ(L:List Int):Option (List Int):=B_ (idx L 0) λS=>B_ (idx L 1) λaa=>B_ (aY WU ([1,0],([0,1],(S,aa)))) λbk=>B_ (bE bk.1.length 1) λ_=>B_ (idx bk.1 (((1:Int).toNat:Nat):Int)) λbH=>B_ (bE bk.1.length 0) λ_=>B_ (idx bk.1 (((0:Int).toNat:Nat):Int)) λbF=>some [W_ i64 (W_ i64 (0-bH)*bk.2),W_ i64 (bF*bk.2)]
def WV:a8:=⟨149,[dq],[cR 3],λx=>tJ x⟩
def afL{af:Prop}:bn af WV:=bo [] [cG 3 [(3,cR 3),(4,cR 3),(5,a0),(6,a0)] 0 [(3,cR 3),(5,a0)]] [cw 2 0,cw 6 0,cw 7 0] trivial
def Bq(L:Int)(ax:Int):Option Int:=B_ (gn .i64 L ax) λS=>B_ (gu .i64 L ax) λaa=>cond (d_ (aa<0)) (some (W_ i64 (S-1))) (some S)
def WW:a8:=⟨151,[eD,eD],[a0],λx=>Bq x.1 x.2⟩
def afM{af:Prop}:bn af WW:=bo [] [] [] trivial
def EE(L:ap)(dm:Int)(S:List Int)(aP:List Int×Bool)(bl:List Int)(dH:Int)(dF:ap×Int):Option (ap×Int⊕ap):=cond (d_ (dF.2<(L.length:Int))) (B_ (idx L dF.2) λek=>B_ (oi ek S) λdK=>B_ (l4 dK bl) λeT=>B_ (l4 aP.1 dK) λfj=>B_ (bE ([eT,W_ i64 (dm*fj)]:List Int).length 0) λ_=>B_ (idx [eT,W_ i64 (dm*fj)] (((0:Int).toNat:Nat):Int)) λdY=>B_ (bE ([eT,W_ i64 (dm*fj)]:List Int).length 1) λ_=>B_ (idx [eT,W_ i64 (dm*fj)] (((1:Int).toNat:Nat):Int)) λeZ=>B_ (bE ([eT,W_ i64 (dm*fj)]:List Int).length 1) λ_=>B_ (idx [eT,W_ i64 (dm*fj)] (((1:Int).toNat:Nat):Int)) λhQ=>B_ (bO 24 dF.1 [[W_ i64 (dY-W_ i64 (dH*eZ)),hQ]]) λie=>some (.inl (ie,W_ i64 (dF.2+1)))) (some (.inr dF.1))
def sw(L:ap)(ax:Int)(dm:Int):Option (ap×Bool):=B_ (idx L ax) λS=>B_ (gu .i64 (W_ i64 (W_ i64 (ax+(L.length:Int))+dm)) (L.length:Int)) λaa=>B_ (idx L aa) λak=>B_ (gu .i64 (W_ i64 (W_ i64 (ax+(L.length:Int))-dm)) (L.length:Int)) λar=>B_ (idx L ar) λv5=>B_ (oi ak S) λaR=>B_ (Bp aR) λaP=>B_ (tJ aP.1) λbl=>B_ (oi v5 S) λbk=>B_ (l4 bk bl) λbH=>B_ (l4 aP.1 bk) λbF=>B_ (bE ([bH,W_ i64 (dm*bF)]:List Int).length 0) λ_=>B_ (idx [bH,W_ i64 (dm*bF)] (((0:Int).toNat:Nat):Int)) λbK=>B_ (bE ([bH,W_ i64 (dm*bF)]:List Int).length 1) λ_=>B_ (idx [bH,W_ i64 (dm*bF)] (((1:Int).toNat:Nat):Int)) λc1=>B_ (Bq bK c1) λdH=>B_ (aY (EE L dm S aP bl dH) ([],0)) λig=>B_ (wE ig) λjD=>some (jD.1,jD.2)
def afN:a8:=⟨106,[cm,eD,eD],[cx 65,ci],λx=>sw x.1 x.2.1 x.2.2⟩
noncomputable def afO:cW:=⟨Tryz.prog,nB,[yo,yp],[],[cw 2 0],[],[],[]⟩
def WX:nh:=⟨195,false,oD afO Tryz.f195⟩
def ar0{af:Prop}:dJ Tryz.prog WX.f/\lr af Tryz.prog WX:=M1 (N:=afO) pu ⟨Bi,Bj,trivial⟩ func195 (by kernel_rfl)
def ar1{af:Prop}:bn af afN:=VF [yo,WT,WV,WW,EC] [cG 10 [(18,cx 65),(70,a0)] 0 [(18,cx 65)]] [cw 2 0,cw 7 0,cw 13 0] [WX] ⟨Bi,afK,afL,afM,Jv,trivial⟩ ⟨ar0,trivial⟩
def va(L:ap)(ax:ap)(S:Int):Option (Int⊕Unit⊕Int):=cond (d_ (S<(L.length:Int))) (B_ (idx L S) λaa=>cond (d_ (S>=(ax.length:Int))) (some (.inr (.inr 1))) (B_ (idx ax S) λak=>B_ (wD aa ak) λar=>cond (ar !=0) (some (.inr (.inr ar))) (some (.inl (W_ i64 (S+1)))))) (some (.inr (.inl ())))
def Br(L:ap)(ax:ap):Option Int:=B_ (aY (va L ax) 0) λv5=>match v5 with|.inl aR=>cond (d_ ((L.length:Int)<(ax.length:Int))) (some (-1)) (some 0)|.inr aP=>some aP
def afP:a8:=⟨107,[cm,cm,.f 108],[a0],λx=>Br x.1 x.2.1⟩
def ar3{af:Prop}:bn af afP:=bo [WE] [⟨2,[(13,a0)],some (0,[]),some [(6,a0)],false,none⟩] [] ⟨OT,trivial⟩
def WY(L:ap)(ar:ap×Int):Option (ap×Int⊕ap⊕ap×Bool):=cond (d_ (ar.2<(([1,-1]:List Int).length:Int))) (B_ (idx [1,-1] ar.2) λv5=>B_ (sw L 0 v5) λaR=>cond (!aR.2) (some (.inr (.inr ([],false)))) (B_ (jU ar.1) λ_=>B_ (Br aR.1 ar.1) λaP=>cond (d_ (aP<0)) (some (.inl (aR.1,W_ i64 (ar.2+1)))) (some (.inl (ar.1,W_ i64 (ar.2+1)))))) (some (.inr (.inl ar.1)))
def wF(L:ap)(bF:ap×Int)(dF:ap×Int):Option (ap×Int⊕ap⊕ap×Bool):=cond (d_ (dF.2<(([1,-1]:List Int).length:Int))) (B_ (idx [1,-1] dF.2) λek=>B_ (sw L bF.2 ek) λdK=>cond (!dK.2) (some (.inr (.inr ([],false)))) (B_ (jU dF.1) λ_=>B_ (Br dK.1 dF.1) λeT=>cond (d_ (eT<0)) (some (.inl (dK.1,W_ i64 (dF.2+1)))) (some (.inl (dF.1,W_ i64 (dF.2+1)))))) (some (.inr (.inl dF.1)))
def Bs(L:ap)(bF:ap×Int):Option (ap×Int⊕ap⊕ap×Bool):=cond (d_ (bF.2<(L.length:Int))) (B_ (bE ([1,-1]:List Int).length 0) λ_=>B_ (idx [1,-1] (((0:Int).toNat:Nat):Int)) λbK=>B_ (sw L bF.2 bK) λc1=>cond (!c1.2) (some (.inr (.inr ([],false)))) (B_ (jU bF.1) λ_=>B_ (Br c1.1 bF.1) λdH=>cond (d_ (dH<0)) (B_ (aY (wF L bF) (c1.1,W_ i64 (0+1))) λfj=>match fj with|.inl dY=>some (.inl (dY,W_ i64 (bF.2+1)))|.inr eZ=>some (.inr (.inr (eZ.1,eZ.2)))) (B_ (aY (wF L bF) (bF.1,W_ i64 (0+1))) λl2=>match l2 with|.inl ly=>some (.inl (ly,W_ i64 (bF.2+1)))|.inr ih=>some (.inr (.inr (ih.1,ih.2)))))) (some (.inr (.inl bF.1)))
def EF(L:ap):Option (ap×Bool):=B_ (kx L) λS=>cond (!S) (some ([],false)) (cond (d_ (0<(L.length:Int))) (B_ (bE ([1,-1]:List Int).length 0) λ_=>B_ (idx [1,-1] (((0:Int).toNat:Nat):Int)) λaa=>B_ (sw L 0 aa) λak=>cond (!ak.2) (some ([],false)) (B_ (aY (WY L) (ak.1,W_ i64 (0+1))) λbl=>match bl with|.inl bk=>(B_ (aY (Bs L) (bk,W_ i64 (0+1))) λkv=>match kv with|.inl kw=>some (kw,true)|.inr jO=>some (jO.1,jO.2))|.inr bH=>some (bH.1,bH.2))) (some ([],true)))
def WZ:a8:=⟨41,[cm],[cx 65,ci],λx=>EF x⟩
def afQ{af:Prop}:bn af WZ:=wi [] [(5,[]),(8,[])] [l5,afN,afP] [⟨5,[(4,cx 65),(15,a0)],some (0,[(4,cx 65)]),some [(2,cx 65),(3,ci)],false,none⟩,⟨8,[(4,cx 65),(20,a0)],some (2,[(4,cx 65)]),some [(2,cx 65),(3,ci)],false,none⟩] [] [] ⟨mF,ar1,ar3,trivial⟩ trivial
def ar4(L:ap)(S:Int×Int):Option (Int×Int⊕Int):=cond (d_ (S.2<(L.length:Int))) (B_ (idx L S.2) λaa=>B_ (gu .i64 (W_ i64 (S.2+1)) (L.length:Int)) λak=>B_ (idx L ak) λar=>B_ (l4 aa ar) λv5=>some (.inl (W_ i64 (S.1+v5),W_ i64 (S.2+1)))) (some (.inr S.1))
def W0(L:ap):Option Int:=B_ (aY (ar4 L) (0,0)) λaR=>some aR
def afR:a8:=⟨197,[cm],[a0],λx=>W0 x⟩
def ar5{af:Prop}:bn af afR:=bo [yp] [cG 3 [(3,a0),(8,a0)] 0 [(3,a0)]] [] ⟨Bj,trivial⟩
def oj(L:ap):Option Int:=B_ (kx L) λS=>cond (!S) (some (-1)) (B_ (W0 L) λaa=>some aa)
def Bt:a8:=⟨112,[cm],[a0],λx=>oj x⟩
def EH{af:Prop}:bn af Bt:=bo [l5,afR] [] [] ⟨mF,ar5,trivial⟩
def O4(L:ap)(aa:Int×Int):Option (Int×Int⊕Int):=cond (d_ (aa.2<(L.length:Int))) (B_ (idx L aa.2) λak=>B_ (gu .i64 (W_ i64 (aa.2+1)) (L.length:Int)) λar=>B_ (idx L ar) λv5=>B_ (oi v5 ak) λaR=>B_ (tI aR) λaP=>some (.inl (W_ i64 (aa.1+aP),W_ i64 (aa.2+1)))) (some (.inr aa.1))
def yq(L:ap):Option Int:=B_ (kx L) λS=>cond (!S) (some (-1)) (B_ (aY (O4 L) (0,0)) λbl=>some bl)
def Jz:a8:=⟨113,[cm],[a0],λx=>yq x⟩
def O5{af:Prop}:bn af Jz:=bo [l5,yo,Bo] [cG 5 [(3,a0),(11,a0)] 0 [(3,a0)]] [] ⟨mF,Bi,ED,trivial⟩
def yr(L:ap):Option Int:=B_ (kx L) λS=>cond (!S) (some (-1)) (B_ (oj L) λaa=>B_ (yq L) λak=>B_ (gn .i64 (W_ i64 (W_ i64 (aa-ak)+2)) 2) λar=>some ar)
def O6:a8:=⟨114,[cm],[a0],λx=>yr x⟩
def W1{af:Prop}:bn af O6:=bo [l5,Bt,Jz] [] [] ⟨mF,EH,O5,trivial⟩
def tK(L:ap)(ax:List Int)(S:Int×Int):Option (Int×Int⊕Int⊕Int):=cond (d_ (S.2<(L.length:Int))) (B_ (idx L S.2) λaa=>B_ (gu .i64 (W_ i64 (S.2+1)) (L.length:Int)) λak=>B_ (idx L ak) λar=>B_ (u9 aa ar ax) λv5=>cond (d_ (v5<0)) (some (.inr (.inr (-1)))) (cond (v5==0) (some (.inl (0,W_ i64 (S.2+1)))) (some (.inl (S.1,W_ i64 (S.2+1)))))) (some (.inr (.inl S.1)))
def sy(L:ap)(ax:List Int):Option Int:=B_ (aY (tK L ax) (1,0)) λaR=>match aR with|.inl aP=>some aP|.inr bl=>some bl
def O7:a8:=⟨131,[cm,dq],[a0],λx=>sy x.1 x.2⟩
def W2{af:Prop}:bn af O7:=bo [Ew] [⟨3,[(5,a0),(11,a0)],some (0,[(5,a0)]),some [(4,a0)],false,none⟩] [] ⟨Jo,trivial⟩
def Bu(L:ap)(ax:List Int):Option Int:=B_ (kx L) λS=>cond (!S) (some (-1)) (B_ (wB ax) λaa=>cond (!aa) (some (-1)) (cond ((ax.length:Int)!=2) (some (-1)) (B_ (sy L ax) λak=>some ak)))
def W3:a8:=⟨61,[cm,dq],[a0],λx=>Bu x.1 x.2⟩
def afS{af:Prop}:bn af W3:=bo [l5,Bh,O7] [] [] ⟨mF,Eu,W2,trivial⟩
def EI(L:ap):Option Bool:=B_ (yr L) λS=>cond (S==1) (B_ (Bu L [0,0]) λaa=>some (aa==1)) (some false)
def W4:a8:=⟨109,[cm],[ci],λx=>EI x⟩
def afT{af:Prop}:bn af W4:=bo [O6,W3] [] [] ⟨W1,afS,trivial⟩
def O8(L:ap)(ax:Int):Option (List Int):=B_ (gu .i64 (W_ i64 (ax+1)) (L.length:Int)) λS=>B_ (idx L S) λaa=>B_ (idx L ax) λak=>B_ (oi aa ak) λar=>B_ (tI ar) λv5=>B_ (bE ar.length 1) λ_=>B_ (idx ar (((1:Int).toNat:Nat):Int)) λaR=>B_ (gn .i64 aR v5) λaP=>B_ (bE ar.length 0) λ_=>B_ (idx ar (((0:Int).toNat:Nat):Int)) λbl=>B_ (gn .i64 (W_ i64 (0-bl)) v5) λbk=>some [aP,bk]
def afU:a8:=⟨110,[cm,eD],[cR 3],λx=>O8 x.1 x.2⟩
def ar6{af:Prop}:bn af afU:=bo [yo,Bo] [] [cw 1 0,cw 3 0] ⟨Bi,ED,trivial⟩
def Bv(L:List Int)(ax:List Int)(S:Int×Int):Option (Int×Int⊕Int):=cond (d_ (S.2<(L.length:Int))) (B_ (idx L S.2) λaa=>B_ (idx ax S.2) λak=>some (.inl (W_ i64 (S.1+W_ i64 (aa*ak)),W_ i64 (S.2+1)))) (some (.inr S.1))
def l6(L:List Int)(ax:List Int):Option Int:=B_ (aY (Bv L ax) (0,0)) λar=>some ar
def ys:a8:=⟨111,[dq,dq],[a0],λx=>l6 x.1 x.2⟩
def Bw{af:Prop}:bn af ys:=bo [] [cG 3 [(5,a0),(9,a0)] 0 [(5,a0)]] [cw 5 0] trivial
def O9(L:ap)(aa:ap×Int):Option (ap×Int⊕ap⊕ap×Bool):=cond (d_ (aa.2<(L.length:Int))) (B_ (idx L aa.2) λak=>B_ (O8 L aa.2) λar=>B_ (l6 ar ak) λv5=>cond (v5 !=1) (some (.inr (.inr ([],false)))) (B_ (bO 24 aa.1 [ar]) λaR=>some (.inl (aR,W_ i64 (aa.2+1))))) (some (.inr (.inl aa.1)))
def EJ(L:ap):Option (ap×Bool):=B_ (EI L) λS=>cond (!S) (some ([],false)) (B_ (aY (O9 L) ([],0)) λaP=>match aP with|.inl bl=>B_ (wE bl) λbH=>some (bH.1,bH.2)|.inr bk=>some (bk.1,bk.2))
def W5:a8:=⟨42,[cm],[cx 65,ci],λx=>EJ x⟩
def afV{af:Prop}:bn af W5:=bo [W4,afU,ys,EC] [⟨5,[(4,cx 65),(13,a0)],some (0,[(4,cx 65)]),some [(2,cx 65),(3,ci)],false,none⟩] [] ⟨afT,ar6,Bw,Jv,trivial⟩
def JA(ax:ap)(ar:List Int)(v5:ap×Int):Option (ap×Int⊕ap):=cond (d_ (v5.2<(ax.length:Int))) (B_ (idx ax v5.2) λaR=>B_ (idx ar 0) λaP=>B_ (idx aR 0) λbl=>B_ (idx ar 1) λbk=>B_ (idx aR 1) λbH=>B_ (bO 24 v5.1 [[W_ i64 (aP+bl),W_ i64 (bk+bH)]]) λbF=>some (.inl (bF,W_ i64 (v5.2+1)))) (some (.inr v5.1))
def Pa(L:ap)(ax:ap)(ak:ap×Int):Option (ap×Int⊕ap):=cond (d_ (ak.2<(L.length:Int))) (B_ (idx L ak.2) λar=>B_ (aY (JA ax ar) (ak.1,0)) λbK=>some (.inl (bK,W_ i64 (ak.2+1)))) (some (.inr ak.1))
def JC(L:ap)(ax:ap):Option (ap×Bool):=B_ (kx L) λS=>cond (!S) (some ([],false)) (B_ (kx ax) λaa=>cond (!aa) (some ([],false)) (B_ (aY (Pa L ax) ([],0)) λc1=>B_ (wE c1) λdH=>some (dH.1,dH.2)))
def W6:a8:=⟨43,[cm,cm],[cx 65,ci],λx=>JC x.1 x.2⟩
def afW{af:Prop}:bn af W6:=bo [l5,EC] [cG 5 [(6,cx 65),(21,a0)] 0 [(6,cx 65)],cG 8 [(6,cx 65),(27,a0)] 2 [(6,cx 65)]] [cw 10 0] ⟨mF,Jv,trivial⟩
def Pb(L:ap)(ax:Int):Option Int:=B_ (yq L) λS=>B_ (oj L) λaa=>B_ (gn .i64 (W_ i64 (W_ i64 (2+W_ i64 (S*ax))+W_ i64 (W_ i64 (aa*ax)*ax))) 2) λak=>some ak
def afX:a8:=⟨129,[cm,eD],[a0],λx=>Pb x.1 x.2⟩
def ar7{af:Prop}:bn af afX:=bo [Jz,Bt] [] [] ⟨O5,EH,trivial⟩
def yt(L:ap)(ax:Int):Option Int:=B_ (kx L) λS=>cond (!S) (some (-1)) (B_ (nG ax (-1000) 1000) λaa=>cond (!aa) (some (-1)) (B_ (Pb L ax) λak=>some ak))
def Pc:a8:=⟨60,[cm,eD],[a0],λx=>yt x.1 x.2⟩
def W7{af:Prop}:bn af Pc:=bo [l5,rl,afX] [] [] ⟨mF,ss,ar7,trivial⟩
def Pd(L:ap):Option (List Int):=B_ (kx L) λS=>cond (!S) (some []) (B_ (yt L 1) λaa=>B_ (yr L) λak=>some [1,W_ i64 (aa-3),ak])
def afY:a8:=⟨115,[cm],[cR 3],λx=>Pd x⟩
def ar8{af:Prop}:bn af afY:=bo [l5,Pc,O6] [] [] ⟨mF,W7,W1,trivial⟩
def JD(ax:List Int)(S:ap×Int)(ak:List Int)(v5:ap×Int):Option (ap×Int⊕ap):=B_ (idx ax S.2) λaR=>cond (d_ (v5.2<=aR)) (B_ (oR ak) λaP=>B_ (bO 8 aP [v5.2]) λbl=>B_ (bO 24 v5.1 [bl]) λbk=>some (.inl (bk,W_ i64 (v5.2+1)))) (some (.inr v5.1))
def JE(L:List Int)(ax:List Int)(S:ap×Int)(aa:ap×Int):Option (ap×Int⊕ap):=cond (d_ (aa.2<(S.1.length:Int))) (B_ (idx S.1 aa.2) λak=>B_ (idx L S.2) λar=>B_ (aY (JD ax S ak) (aa.1,ar)) λbH=>some (.inl (bH,W_ i64 (aa.2+1)))) (some (.inr aa.1))
def Pe(L:List Int)(ax:List Int)(S:ap×Int):Option (ap×Int⊕ap):=cond (d_ (S.2<(L.length:Int))) (B_ (aY (JE L ax S) ([],0)) λbF=>some (.inl (bF,W_ i64 (S.2+1)))) (some (.inr S.1))
def wG(L:List Int)(ax:List Int):Option ap:=B_ (aY (Pe L ax) ([[]],0)) λbK=>some bK
def JF:a8:=⟨200,[dq,dq],[cx 65],λx=>wG x.1 x.2⟩
def Pf{af:Prop}:bn af JF:=bo [wy] [cG 3 [(5,cx 65),(14,a0)] 0 [(5,cx 65)],cG 7 [(7,cx 65),(19,a0)] 2 [(7,cx 65)],cG 10 [(7,cx 65),(10,a0)] 4 [(7,cx 65)]] [] ⟨ym,trivial⟩
def Pg(S:ap)(aa:ap×Int):Option (ap×Int⊕ap):=cond (d_ (aa.2<(S.length:Int))) (B_ (idx S aa.2) λak=>B_ (idx ak 0) λar=>cond (d_ (ar>0)) (B_ (bO 24 aa.1 [ak]) λv5=>some (.inl (v5,W_ i64 (aa.2+1)))) (B_ (idx ak 1) λaR=>cond (d_ (aR>0)) (B_ (bO 24 aa.1 [ak]) λaP=>some (.inl (aP,W_ i64 (aa.2+1)))) (some (.inl (aa.1,W_ i64 (aa.2+1)))))) (some (.inr aa.1))
def JH:Option ap:=B_ (wG [0,-12] [12,12]) λS=>B_ (aY (Pg S) ([],0)) λbl=>some bl
def W8:a8:=⟨120,[],[.l (.o false 65 bG)],λx=>JH⟩
def afZ{af:Prop}:bn af W8:=bo [JF] [cG 3 [(1,.l (.o false 65 bG)),(8,a0)] 0 [(1,.l (.o false 65 bG))]] [] ⟨Pf,trivial⟩
def Ph(L:ap)(ax:List Int)(ak:Int×Int):Option (Int×Int⊕Int):=cond (d_ (ak.2<(L.length:Int))) (B_ (idx L ak.2) λar=>B_ (l6 ax ar) λv5=>some (.inl (if v5>ak.1 then v5 else ak.1,W_ i64 (ak.2+1)))) (some (.inr ak.1))
def EK(L:ap)(ax:List Int):Option Int:=B_ (idx L 0) λS=>B_ (l6 ax S) λaa=>B_ (aY (Ph L ax) (aa,0)) λaR=>some aR
def W9:a8:=⟨134,[cm,dq],[a0],λx=>EK x.1 x.2⟩
def af0{af:Prop}:bn af W9:=bo [ys] [cG 3 [(5,a0),(15,a0)] 0 [(5,a0)]] [] ⟨Bw,trivial⟩
def oS(L:ap)(ax:List Int):Option Int:=B_ (kx L) λS=>cond (!S) (some (-1)) (B_ (wB ax) λaa=>cond (!aa) (some (-1)) (cond ((ax.length:Int)!=2) (some (-1)) (B_ (EK L ax) λak=>B_ (idx ax 0) λar=>B_ (idx ax 1) λv5=>B_ (EK L [W_ i64 (0-ar),W_ i64 (0-v5)]) λaR=>some (W_ i64 (ak+aR)))))
def Pj:a8:=⟨121,[cm,dq],[a0],λx=>oS x.1 x.2⟩
def Xa{af:Prop}:bn af Pj:=bo [l5,Bh,W9] [] [cw 3 0] ⟨mF,Eu,af0,trivial⟩
def EL(L:ap)(S:ap)(aa:Int×Int):Option (Int×Int⊕Int):=cond (d_ (aa.2<(S.length:Int))) (B_ (idx S aa.2) λak=>B_ (oS L ak) λar=>cond (d_ (aa.1<0)) (some (.inl (ar,W_ i64 (aa.2+1)))) (cond (d_ (ar<aa.1)) (some (.inl (ar,W_ i64 (aa.2+1)))) (some (.inl (aa.1,W_ i64 (aa.2+1)))))) (some (.inr aa.1))
def sz(L:ap):Option Int:=B_ JH λS=>B_ (aY (EL L S) (-1,0)) λv5=>some v5
def Pk:a8:=⟨47,[cm],[a0],λx=>sz x⟩
def Xb{af:Prop}:bn af Pk:=bo [W8,Pj] [cG 3 [(3,a0),(9,a0)] 0 [(3,a0)]] [] ⟨afZ,Xa,trivial⟩
def yu(L:List Int×List Int):Option Bool:=B_ (wC L.1 30) λS=>cond S (B_ (wC L.2 30) λaa=>cond aa (B_ (tI L.1) λak=>cond (ak==1) (B_ (tI L.2) λar=>cond (ar==1) (B_ (l4 L.1 L.2) λv5=>some (d_ (v5>0))) (some false)) (some false)) (some false)) (some false)
def JI:a8:=⟨68,[.d false (.prod bG bG)],[ci],λx=>yu x⟩
def Pl{af:Prop}:bn af JI:=bo [Ev,Bo,yp] [] [] ⟨Jn,ED,Bj,trivial⟩
def EM(L:ap)(ax:Int):Option ((List Int×List Int)×Bool):=B_ (kx L) λS=>cond (!S) (some (([],[]),false)) (B_ (nG ax 0 (W_ i64 ((L.length:Int)-1))) λaa=>cond (!aa) (some (([],[]),false)) (B_ (gu .i64 (W_ i64 (ax+1)) (L.length:Int)) λak=>B_ (idx L ak) λar=>B_ (idx L ax) λv5=>B_ (oi ar v5) λaR=>B_ (Bp aR) λaP=>B_ (gu .i64 (W_ i64 (W_ i64 (ax+(L.length:Int))-1)) (L.length:Int)) λbl=>B_ (idx L bl) λbk=>B_ (idx L ax) λbH=>B_ (oi bk bH) λbF=>B_ (Bp bF) λbK=>B_ (yu (aP.1,bK.1)) λc1=>cond (!c1) (some (([],[]),false)) (some ((aP.1,bK.1),true))))
def Xc:a8:=⟨122,[cm,eD],[.a [.o true 3 bM,.o true 3 bM],ci],λx=>EM x.1 x.2⟩
def af1{af:Prop}:bn af Xc:=bo [l5,rl,yo,WT,JI] [] [cw 4 0,cw 5 0] ⟨mF,ss,Bi,afK,Pl,trivial⟩
def sB(L:List Int×List Int):Option Int:=B_ (yu (L.1,L.2)) λS=>cond (!S) (some 0) (B_ (l4 L.1 L.2) λaa=>some aa)
def Xd:a8:=⟨123,[.d false (.prod bG bG)],[a0],λx=>sB x⟩
def af2{af:Prop}:bn af Xd:=bo [JI,yp] [] [] ⟨Pl,Bj,trivial⟩
def EN(L:ap)(aa:Int×Int):Option (Int×Int⊕Int⊕Int):=cond (d_ (aa.2<(L.length:Int))) (B_ (EM L aa.2) λak=>cond (!ak.2) (some (.inr (.inr (-1)))) (B_ (sB (ak.1.1,ak.1.2)) λar=>cond (ar==1) (some (.inl (W_ i64 (aa.1+1),W_ i64 (aa.2+1)))) (some (.inl (aa.1,W_ i64 (aa.2+1)))))) (some (.inr (.inl aa.1)))
def EO(L:ap):Option Int:=B_ (kx L) λS=>cond (!S) (some (-1)) (B_ (aY (EN L) (0,0)) λv5=>match v5 with|.inl aR=>some aR|.inr aP=>some aP)
def af3:a8:=⟨116,[cm],[a0],λx=>EO x⟩
def ar9{af:Prop}:bn af af3:=bo [l5,Xc,Xd] [⟨5,[(3,a0),(12,a0)],some (0,[(3,a0)]),some [(2,a0)],false,none⟩] [] ⟨mF,af1,af2,trivial⟩
def Xe(L:List Int)(ax:List Int)(S:Int):Option (Int⊕Unit⊕Bool):=cond (d_ (S<(L.length:Int))) (B_ (idx L S) λaa=>B_ (idx ax S) λak=>cond (aa !=ak) (some (.inr (.inr false))) (some (.inl (W_ i64 (S+1))))) (some (.inr (.inl ())))
def Bx(L:List Int)(ax:List Int):Option Bool:=cond ((L.length:Int)!=(ax.length:Int)) (some false) (B_ (aY (Xe L ax) 0) λar=>match ar with|.inl v5=>some true|.inr aR=>some aR)
def Pm:a8:=⟨165,[dq,dq],[ci],λx=>Bx x.1 x.2⟩
def Xf{af:Prop}:bn af Pm:=bo [] [⟨4,[(13,a0)],some (0,[]),some [(4,ci)],false,none⟩] [cw 6 0] trivial
def Pn(L:ap)(S:ap×Bool)(aa:Int):Option (Int⊕Unit⊕Bool):=cond (d_ (aa<(L.length:Int))) (B_ (idx L aa) λak=>B_ (idx S.1 aa) λar=>B_ (oi ak ar) λv5=>B_ (idx L 0) λaR=>B_ (idx S.1 0) λaP=>B_ (oi aR aP) λbl=>B_ (Bx v5 bl) λbk=>cond (!bk) (some (.inr (.inr false))) (some (.inl (W_ i64 (aa+1))))) (some (.inr (.inl ())))
def EP(L:ap):Option Bool:=B_ (Jw L) λS=>cond (!S.2) (some false) (B_ (aY (Pn L S) 0) λbH=>match bH with|.inl bF=>some true|.inr bK=>some bK)
def af4:a8:=⟨117,[cm],[ci],λx=>EP x⟩
def asa{af:Prop}:bn af af4:=bo [WM,yo,Pm] [⟨5,[(16,a0)],some (0,[]),some [(2,ci)],false,none⟩] [cw 7 0] ⟨afG,Bi,Xf,trivial⟩
def Po(L:ap):Option ByteArray:=B_ (kx L) λS=>cond (!S) (some ⟨#[]⟩) (B_ (oj L) λaa=>B_ (lz aa) λak=>B_ (fM ⟨#[97,114,101,97,32]⟩ ak) λar=>B_ (fM ar ⟨#[32,98,111,117,110,100,97,114,121,32]⟩) λv5=>B_ (yq L) λaR=>B_ (lz aR) λaP=>B_ (fM v5 aP) λbl=>B_ (fM bl ⟨#[32,105,110,110,101,114,32]⟩) λbk=>B_ (yr L) λbH=>B_ (lz bH) λbF=>B_ (fM bk bF) λbK=>B_ (yt L 1) λc1=>B_ (lz c1) λdH=>B_ (fM ⟨#[32,112,111,105,110,116,115,32]⟩ dH) λdF=>B_ (fM dF ⟨#[32,116,111,112,32]⟩) λek=>B_ (Pd L) λdK=>B_ (sv dK) λeT=>B_ (fM ek eT) λfj=>B_ (fM fj ⟨#[32,119,105,100,116,104,32]⟩) λdY=>B_ (sz L) λeZ=>B_ (lz eZ) λhQ=>B_ (fM dY hQ) λie=>B_ (fM ie ⟨#[32,115,109,111,111,116,104,32]⟩) λig=>B_ (EO L) λjD=>B_ (lz jD) λl2=>B_ (fM ig l2) λly=>B_ (fM bK ly) λih=>B_ (EI L) λkv=>cond kv (B_ (fM ih ⟨#[32,114,101,102,108,101,120,105,118,101]⟩) λkw=>B_ (EP L) λjO=>cond jO (B_ (fM kw ⟨#[32,115,121,109,109,101,116,114,105,99]⟩) λwu=>some wu) (some kw)) (B_ (fM ih ⟨#[32,111,116,104,101,114]⟩) λu3=>B_ (EP L) λu4=>cond u4 (B_ (fM u3 ⟨#[32,115,121,109,109,101,116,114,105,99]⟩) λnF=>some nF) (some u3)))
def af5:a8:=⟨44,[cm],[hF],λx=>Po x⟩
def asb:bn False af5:=bo [l5,Bt,Jr,Jz,O6,Pc,afY,EA,Pk,af3,W4,af4] [] [] ⟨mF,EH,OU,O5,W1,W7,ar8,Js,Xb,ar9,afT,asa,trivial⟩
def JJ(v5:List Int×List Int×Int)(aR:List Int)(aP:List Int×List Int×Int):Option (List Int×List Int×Int⊕List Int×List Int):=cond (d_ (aP.2.2<(v5.1.length:Int))) (B_ (bE aP.1.length aP.2.2) λ_=>B_ (idx aP.1 ((aP.2.2.toNat:Nat):Int)) λbl=>B_ (idx aR aP.2.2) λbk=>B_ (bE aP.2.1.length aP.2.2) λ_=>B_ (idx aP.2.1 ((aP.2.2.toNat:Nat):Int)) λbH=>B_ (idx aR aP.2.2) λbF=>B_ (bE aP.1.length aP.2.2) λ_=>B_ (bE aP.1.length ((aP.2.2.toNat:Nat):Int)) λ_=>B_ (bE aP.2.1.length aP.2.2) λ_=>B_ (bE aP.2.1.length ((aP.2.2.toNat:Nat):Int)) λ_=>some (.inl (aP.1.set aP.2.2.toNat (if bk<bl then bk else bl),(aP.2.1.set aP.2.2.toNat (if bF>bH then bF else bH),W_ i64 (aP.2.2+1))))) (some (.inr (aP.1,aP.2.1)))
def EQ(L:ap)(v5:List Int×List Int×Int):Option (List Int×List Int×Int⊕List Int×List Int):=cond (d_ (v5.2.2<(L.length:Int))) (B_ (idx L v5.2.2) λaR=>B_ (aY (JJ v5 aR) (v5.1,(v5.2.1,0))) λbK=>some (.inl (bK.1,(bK.2,W_ i64 (v5.2.2+1))))) (some (.inr (v5.1,v5.2.1)))
def By(L:ap)(ie:List Int)(jD:Int):Option (Int⊕Unit⊕Int):=cond (d_ (jD<(L.length:Int))) (B_ (idx L jD) λl2=>B_ (Bx l2 ie) λly=>cond ly (some (.inr (.inr jD))) (some (.inl (W_ i64 (jD+1))))) (some (.inr (.inl ())))
def af6(L:ap)(eT:List Int)(fj:List Int)(dY:List Int)(eZ:ap)(hQ:Int):Option (Int⊕Unit⊕List Int):=cond (d_ (hQ<(eZ.length:Int))) (B_ (idx eZ hQ) λie=>B_ (sy [eT,fj,dY] ie) λig=>cond (d_ (ig>=0)) (B_ (aY (By L ie) 0) λih=>match ih with|.inl kv=>cond (!d_ (-1>=0)) (some (.inr (.inr ie))) (some (.inl (W_ i64 (hQ+1))))|.inr kw=>cond (!d_ (kw>=0)) (some (.inr (.inr ie))) (some (.inl (W_ i64 (hQ+1))))) (some (.inl (W_ i64 (hQ+1))))) (some (.inr (.inl ())))
def asc(L:ap)(rm:List Int)(ER:Int):Option (Int⊕Unit⊕Int):=cond (d_ (ER<(L.length:Int))) (B_ (idx L ER) λJK=>B_ (Bx JK rm) λXg=>cond Xg (some (.inr (.inr ER))) (some (.inl (W_ i64 (ER+1))))) (some (.inr (.inl ())))
def af7(L:ap)(u4:ap)(nF:Int):Option (Int⊕Unit⊕List Int):=cond (d_ (nF<(u4.length:Int))) (B_ (idx u4 nF) λrm=>B_ (sy L rm) λvb=>cond (d_ (vb>=0)) (B_ (aY (asc L rm) 0) λJL=>match JL with|.inl JM=>cond (!d_ (-1>=0)) (some (.inr (.inr rm))) (some (.inl (W_ i64 (nF+1))))|.inr JN=>cond (!d_ (JN>=0)) (some (.inr (.inr rm))) (some (.inl (W_ i64 (nF+1))))) (some (.inl (W_ i64 (nF+1))))) (some (.inr (.inl ())))
def Pp(L:ap):Option (List Int):=B_ (idx L 0) λS=>B_ (oR S) λaa=>B_ (idx L 0) λak=>B_ (oR ak) λar=>B_ (aY (EQ L) (aa,(ar,0))) λc1=>B_ (idx L 0) λdH=>B_ (idx L 1) λdF=>B_ (idx L 2) λek=>B_ (u9 dH dF ek) λdK=>cond (d_ (dK<0)) (B_ (idx L 0) λeT=>B_ (idx L 2) λfj=>B_ (idx L 1) λdY=>B_ (wG c1.1 c1.2) λeZ=>B_ (aY (af6 L eT fj dY eZ) 0) λjO=>match jO with|.inl wu=>some []|.inr u3=>B_ (jU u3) λ_=>some u3) (B_ (wG c1.1 c1.2) λu4=>B_ (aY (af7 L u4) 0) λXh=>match Xh with|.inl Pq=>some []|.inr Pr=>B_ (jU Pr) λ_=>some Pr)
def af8:a8:=⟨250,[cm],[.l (.d true bG)],λx=>Pp x⟩
noncomputable def af9:cW:=⟨Tryz.prog,nB,[Pm],[],[],[],[],[]⟩
def Xi:nh:=⟨312,true,oD af9 Tryz.f312⟩
def asd{af:Prop}:dJ Tryz.prog Xi.f/\lr af Tryz.prog Xi:=acR (N:=af9) pu ⟨Xf,trivial⟩ func312 (by kernel_rfl) (by kernel_rfl) rfl
noncomputable def aga:cW:=⟨Tryz.prog,nB,[],[⟨2,[(8,a0)],some (0,[]),some [(4,a0)],false,none⟩],[],[Xi],[],[]⟩
def Xj:nh:=⟨344,true,DI (oD aga Tryz.f344)⟩
def ase{af:Prop}:dJ Tryz.prog Xj.f/\lr af Tryz.prog Xj:=apm (N:=aga) pu trivial func344 (by kernel_rfl) ⟨asd,trivial⟩
noncomputable def agb:cW:=⟨Tryz.prog,nB,[],[],[],[Xj],[],[]⟩
def Xk:nh:=⟨311,false,oD agb Tryz.f311⟩
def asf{af:Prop}:dJ Tryz.prog Xk.f/\lr af Tryz.prog Xk:=M1 (N:=agb) pu trivial func311 (by kernel_rfl) ⟨ase,trivial⟩
def asg{af:Prop}:bn af af8:=wi [] [(8,[0,1,2,3,4,5,8,9,13,14,17,18,6,7,10,11,12,15,16,19,20,21,22,23,24,25])] [wy,Ew,JF,O7] [cG 3 [(3,cR 3),(4,cR 3),(21,a0)] 0 [(3,cR 3),(4,cR 3)],cG 6 [(3,cR 3),(4,cR 3),(27,a0)] 2 [(3,cR 3),(4,cR 3)],⟨15,[(82,a0)],some (4,[]),some [(2,wh)],false,none⟩] [cw 1 0,cw 8 0,cw 12 0,cw 13 0] [Xk] ⟨ym,Jo,Pf,W2,trivial⟩ ⟨asf,trivial⟩
def Ps(rec:ap->Option (List ap))(L:ap)(S:List Int)(ak:List ap×Int):Option (List ap×Int⊕List ap):=cond (d_ (ak.2<(L.length:Int))) (B_ (idx L ak.2) λar=>B_ (gu .i64 (W_ i64 (ak.2+1)) 3) λv5=>B_ (idx L v5) λaR=>B_ (u9 S ar aR) λaP=>cond (aP !=0) (B_ (rec [S,ar,aR]) λbl=>B_ (bO 24 ak.1 bl) λbk=>some (.inl (bk,W_ i64 (ak.2+1)))) (some (.inl (ak.1,W_ i64 (ak.2+1))))) (some (.inr ak.1))
def JO(rec:ap->Option (List ap))(L:ap):Option (List ap):=B_ (Pp L) λS=>cond S.isEmpty (B_ (pw L) λaa=>some [aa]) (B_ (aY (Ps rec L S) ([],0)) λbH=>some bH)
def wH:Nat->ap->Option (List ap)|0=>λ_=>none|n+1=>JO (wH n)
def Xl(L:ap):Option (List ap):=wH 30000 L
def Xm:a8:=⟨199,[cm],[.l (.o true 24 eX)],λx=>Xl x⟩
def tL(rec:ap->Option (List ap)):a8:=⟨199,[.d false eX],[.l (.o true 24 eX)],λx=>rec x⟩
def agc(rec:ap->Option (List ap)):cW:=⟨Tryz.prog,nB,[af8,Es,Ew,tL rec],[cG 6 [(4,.l (.o true 24 eX)),(17,a0)] 0 [(4,.l (.o true 24 eX))]],[cw 8 0],[],[],[]⟩
def ash(rec:ap->Option (List ap))(x:iw.den (tL rec).ps):xk (agc rec) Tryz.f199 (tL rec).ps (tL rec).rs x=(tL (JO rec)).F x:=by kernel_rfl
def asi{af:Prop}(rec:ap->Option (List ap))(h:dJ Tryz.prog (tL rec).f/\ga af Tryz.prog (tL rec)):dJ Tryz.prog (tL (JO rec)).f/\ga af Tryz.prog (tL (JO rec)):=HA (N:=agc rec) pu ⟨asg,Ji,Jo,h,trivial⟩ func199 (by kernel_rfl) (ash rec)
def agd{af:Prop}:(n:Nat)->dJ Tryz.prog (tL (wH n)).f/\ga af Tryz.prog (tL (wH n))|0=>⟨⟨Tryz.f199,_,func199,by kernel_rfl,rfl⟩,λx z h=>by cases h⟩|n+1=>asi _ (agd n)
def asj{af:Prop}:dJ Tryz.prog Xm.f/\ga af Tryz.prog Xm:=agd 30000
def Pu(L:ap)(ak:List ap×Int):Option (List ap×Int⊕List ap):=cond (d_ (W_ i64 (ak.2+1)<(L.length:Int))) (B_ (idx L 0) λar=>B_ (idx L ak.2) λv5=>B_ (idx L (W_ i64 (ak.2+1))) λaR=>B_ (Xl [ar,v5,aR]) λaP=>B_ (bO 24 ak.1 aP) λbl=>some (.inl (bl,W_ i64 (ak.2+1)))) (some (.inr ak.1))
def Pv(L:ap):Option (List ap):=B_ (kx L) λS=>cond (!S) (some []) (B_ (oj L) λaa=>cond (d_ (aa>200)) (some []) (B_ (aY (Pu L) ([],1)) λbk=>B_ (jU bk) λ_=>some bk))
def age:a8:=⟨119,[cm],[.l (.d true (.list eX))],λx=>Pv x⟩
def asl{af:Prop}:bn af age:=bo [l5,Bt,Xm] [cG 5 [(3,.l (.o true 24 eX)),(4,a0)] 0 [(3,.l (.o true 24 eX))]] [cw 7 0] ⟨mF,EH,asj,trivial⟩
def Pw(L:ap):Option Int:=B_ (Pv L) λS=>cond S.isEmpty (some (-1)) (some (S.length:Int))
def agf:a8:=⟨46,[cm],[a0],λx=>Pw x⟩
def asm{af:Prop}:bn af agf:=bo [age] [] [] ⟨asl,trivial⟩
def Px(L:ap)(S:Int)(aa:ap)(ak:ap×Int):Option (ap×Int⊕ap):=cond (d_ (ak.2<(aa.length:Int))) (B_ (idx aa ak.2) λar=>B_ (oS L ar) λv5=>cond (v5==S) (B_ (bO 24 ak.1 [ar]) λaR=>some (.inl (aR,W_ i64 (ak.2+1)))) (some (.inl (ak.1,W_ i64 (ak.2+1))))) (some (.inr ak.1))
def Bz(L:ap):Option ap:=B_ (sz L) λS=>cond (d_ (S<0)) (some []) (B_ JH λaa=>B_ (aY (Px L S aa) ([],0)) λaP=>some aP)
def agh:a8:=⟨50,[cm],[.l (.o false 65 bG)],λx=>Bz x⟩
def asn{af:Prop}:bn af agh:=bo [Pk,W8,Pj] [cG 6 [(4,.l (.o false 65 bG)),(13,a0)] 0 [(4,.l (.o false 65 bG))]] [] ⟨Xb,afZ,Xa,trivial⟩
def JP(L:ap)(S:List ByteArray×Int):Option (List ByteArray×Int⊕List ByteArray):=cond (d_ (S.2<(L.length:Int))) (B_ (idx L S.2) λaa=>B_ (Jt aa) λak=>B_ (bO 16 S.1 [ak]) λar=>some (.inl (ar,W_ i64 (S.2+1)))) (some (.inr S.1))
def ES(L:ap):Option ByteArray:=B_ (aY (JP L) ([],0)) λv5=>B_ (tH v5 ⟨#[32]⟩) λaR=>some aR
def agi:a8:=⟨49,[cm],[hF],λx=>ES x⟩
def aso:bn False agi:=bo [WI,Jk] [cG 3 [(3,l1 9),(8,a0)] 0 [(3,l1 9)]] [] ⟨afD,OQ,trivial⟩
def tM(L:ByteArray)(ax:ByteArray):Option ByteArray:=cond (L.toList==(⟨#[]⟩:ByteArray).toList) (some ax) (some L)
def Xn:a8:=⟨48,[jq,jq],[hF],λx=>tM x.1 x.2⟩
def agj{af:Prop}:bn af Xn:=bo [] [] [] trivial
def BA(L:ap)(S:List Int×Int):Option (List Int×Int⊕List Int⊕ByteArray):=cond (d_ (S.2<(L.length:Int))) (B_ (EM L S.2) λaa=>cond (!aa.2) (some (.inr (.inr ⟨#[110,111]⟩))) (B_ (sB (aa.1.1,aa.1.2)) λak=>B_ (bO 8 S.1 [ak]) λar=>some (.inl (ar,W_ i64 (S.2+1))))) (some (.inr (.inl S.1)))
def Pz(L:ap):Option ByteArray:=B_ (aY (BA L) ([],0)) λv5=>match v5 with|.inl aR=>B_ (sv aR) λbl=>B_ (tM bl ⟨#[110,111]⟩) λbk=>some bk|.inr aP=>some aP
def agk:a8:=⟨51,[cm],[hF],λx=>Pz x⟩
def asp:bn False agk:=bo [Xc,Xd,EA,Xn] [⟨3,[(3,cR 3),(9,a0)],some (0,[(3,cR 3)]),some [(2,hF)],false,none⟩] [] ⟨af1,af2,Js,agj,trivial⟩
def ET(L:ap)(ax:ap):Option Int:=B_ (JC L ax) λS=>cond (!S.2) (some (-1)) (B_ (oj S.1) λaa=>B_ (oj L) λak=>B_ (oj ax) λar=>some (W_ i64 (W_ i64 (aa-ak)-ar)))
def agl:a8:=⟨52,[cm,cm],[a0],λx=>ET x.1 x.2⟩
def asq{af:Prop}:bn af agl:=bo [W6,Bt] [] [] ⟨afW,EH,trivial⟩
def Xo(L:ap)(ax:ap)(S:Int):Option (Int⊕Unit⊕Bool):=cond (d_ (S<(L.length:Int))) (B_ (idx L S) λaa=>B_ (idx ax S) λak=>B_ (Bx aa ak) λar=>cond (!ar) (some (.inr (.inr false))) (some (.inl (W_ i64 (S+1))))) (some (.inr (.inl ())))
def PA(L:ap)(ax:ap):Option Bool:=cond ((L.length:Int)!=(ax.length:Int)) (some false) (B_ (aY (Xo L ax) 0) λv5=>match v5 with|.inl aR=>some true|.inr aP=>some aP)
def agm:a8:=⟨164,[cm,cm,.f 165],[ci],λx=>PA x.1 x.2.1⟩
def asr{af:Prop}:bn af agm:=bo [Pm] [⟨4,[(17,a0)],some (0,[]),some [(6,ci)],false,none⟩] [] ⟨Xf,trivial⟩
def Xp(L:ap)(ax:ap):Option Bool:=B_ (PA L ax) λS=>some S
def agn:a8:=⟨78,[cm,cm],[ci],λx=>Xp x.1 x.2⟩
def ass{af:Prop}:bn af agn:=bo [agm] [] [] ⟨asr,trivial⟩
def PB(L:ap)(ax:ap):Option Bool:=B_ (EF L) λS=>B_ (EF ax) λaa=>cond S.2 (cond aa.2 (B_ (Xp S.1 aa.1) λak=>some ak) (some false)) (some false)
def ago:a8:=⟨53,[cm,cm],[ci],λx=>PB x.1 x.2⟩
def ast{af:Prop}:bn af ago:=bo [WZ,agn] [] [] ⟨afQ,ass,trivial⟩
def EU(L:ap):Option Int:=B_ (EJ L) λS=>cond (!S.2) (some (-1)) (B_ (yq L) λaa=>B_ (yq S.1) λak=>some (W_ i64 (aa+ak)))
def agp:a8:=⟨54,[cm],[a0],λx=>EU x⟩
def asu{af:Prop}:bn af agp:=bo [W5,Jz] [] [] ⟨afV,O5,trivial⟩
def JQ(L:Int):Option ByteArray:=B_ (nG L 1 (([⟨#[48,44,48,32,49,44,48,32,48,44,49]⟩,⟨#[48,44,48,32,50,44,48,32,48,44,50]⟩,⟨#[45,49,44,45,49,32,49,44,45,49,32,49,44,49,32,45,49,44,49]⟩,⟨#[48,44,48,32,51,44,48,32,49,44,50]⟩,⟨#[45,49,44,45,49,32,50,44,45,49,32,45,49,44,50]⟩,⟨#[48,44,48,32,53,44,50,32,51,44,52]⟩]:List ByteArray).length:Int)) λS=>cond (!S) (some ⟨#[]⟩) (B_ (bE ([⟨#[48,44,48,32,49,44,48,32,48,44,49]⟩,⟨#[48,44,48,32,50,44,48,32,48,44,50]⟩,⟨#[45,49,44,45,49,32,49,44,45,49,32,49,44,49,32,45,49,44,49]⟩,⟨#[48,44,48,32,51,44,48,32,49,44,50]⟩,⟨#[45,49,44,45,49,32,50,44,45,49,32,45,49,44,50]⟩,⟨#[48,44,48,32,53,44,50,32,51,44,52]⟩]:List ByteArray).length (W_ i64 (L-1))) λ_=>B_ (idx [⟨#[48,44,48,32,49,44,48,32,48,44,49]⟩,⟨#[48,44,48,32,50,44,48,32,48,44,50]⟩,⟨#[45,49,44,45,49,32,49,44,45,49,32,49,44,49,32,45,49,44,49]⟩,⟨#[48,44,48,32,51,44,48,32,49,44,50]⟩,⟨#[45,49,44,45,49,32,50,44,45,49,32,45,49,44,50]⟩,⟨#[48,44,48,32,53,44,50,32,51,44,52]⟩] (((W_ i64 (L-(1:Int))).toNat:Nat):Int)) λaa=>some aa)
def agq:a8:=⟨127,[eD],[hF],λx=>JQ x⟩
def asv{af:Prop}:bn af agq:=bo [rl] [] [] ⟨ss,trivial⟩
def PC(L:Int):Option (ap×Bool):=B_ (JQ L) λS=>B_ (Ez S) λaa=>some (aa.1,aa.2)
def agr:a8:=⟨57,[eD],[cx 65,ci],λx=>PC x⟩
def asw:bn False agr:=bo [agq,WF] [] [] ⟨asv,afC,trivial⟩
def JR(n t:Int)(s:Int×ap):Option (Int×ap⊕ap):=cond (d_ (s.1<n)) ((bE s.2.length s.1).bind λ_=>if s.1.toNat<s.2.length then s.2[s.1.toNat]?.bind λJ=>(bE J.length 0).bind λ_=>s.2[s.1.toNat]?.bind λJ=>J[(0:Int).toNat]?.bind λv=>s.2[s.1.toNat]?.bind λJ=>(bE J.length 0).bind λ_=>s.2[s.1.toNat]?.bind λJ=>J[(0:Int).toNat]?.bind λ_=>(λr:ap=>r[s.1.toNat]?.bind λJ=>(bE J.length 1).bind λ_=>r[s.1.toNat]?.bind λJ=>J[(1:Int).toNat]?.bind λv=>r[s.1.toNat]?.bind λJ=>(bE J.length 1).bind λ_=>r[s.1.toNat]?.bind λJ=>J[(1:Int).toNat]?.bind λ_=>some (.inl (W_ i64 (s.1+1),r.set s.1.toNat (J.set (1:Int).toNat (W_ i64 (v*t)))))) (s.2.set s.1.toNat (J.set (0:Int).toNat (W_ i64 (v*t))))else none) (some (.inr s.2))
def PD(L:ap)(ax:Int):Option (ap×Bool):=B_ (kx L) λS=>cond (!S) (some ([],false)) (B_ (nG ax 1 50) λaa=>cond (!aa) (some ([],false)) (B_ (pw L) λak=>B_ (aY (JR (ak.length:Int) ax) (0,ak)) λar=>B_ (kx ar) λv5=>cond (!v5) (some ([],false)) (some (ar,true))))
def BB:a8:=⟨58,[cm,eD],[cx 65,ci],λx=>PD x.1 x.2⟩
noncomputable def ags:cW:=⟨Tryz.prog,nB,[l5,rl,Es],[],[],[],[],[]⟩
def asx(x:iw.den BB.ps):Ia ags [⟨0,19,[⟨5,0,21⟩]⟩] Tryz.f58 BB.ps BB.rs x=BB.F x:=by kernel_rfl
def asy{af:Prop}:dJ Tryz.prog BB.f/\ga af Tryz.prog BB:=adN (N:=ags) pu ⟨mF,ss,Ji,trivial⟩ func58 (by kernel_rfl) rfl asx
def JS(L:ap)(aa:Int):Option (Int⊕Unit⊕Bool):=cond (d_ (aa<(L.length:Int))) (B_ (idx L aa) λak=>cond ((ak.length:Int)!=(L.length:Int)) (some (.inr (.inr false))) (B_ (su ak (-100) 100) λar=>cond (!ar) (some (.inr (.inr false))) (some (.inl (W_ i64 (aa+1)))))) (some (.inr (.inl ())))
def PE(L:ap):Option Bool:=B_ (nG (L.length:Int) 1 3) λS=>cond (!S) (some false) (B_ (aY (JS L) 0) λv5=>match v5 with|.inl aR=>some true|.inr aP=>some aP)
def agt:a8:=⟨316,[cm],[ci],λx=>PE x⟩
def asz{af:Prop}:bn af agt:=bo [rl,Et] [⟨4,[(11,a0)],some (0,[]),some [(2,ci)],false,none⟩] [] ⟨ss,Jm,trivial⟩
def PF(L:ap)(ax:Int)(dm:Int)(S:ap×Int):Option (ap×Int⊕ap):=cond (d_ (S.2<(L.length:Int))) (B_ (idx L S.2) λaa=>cond (S.2 !=ax) (B_ (fd aa 0 dm) λak=>B_ (oR ak) λar=>B_ (fd aa (W_ i64 (dm+1)) (aa.length:Int)) λv5=>B_ (bO 8 ar v5) λaR=>B_ (bO 24 S.1 [aR]) λaP=>some (.inl (aP,W_ i64 (S.2+1)))) (some (.inl (S.1,W_ i64 (S.2+1))))) (some (.inr S.1))
def BC(L:ap)(ax:Int)(dm:Int):Option ap:=B_ (aY (PF L ax dm) ([],0)) λbl=>some bl
def Xq:a8:=⟨207,[cm,eD,eD],[cx 65],λx=>BC x.1 x.2.1 x.2.2⟩
def agu{af:Prop}:bn af Xq:=bo [wy] [cG 3 [(7,cx 65),(12,a0)] 0 [(7,cx 65)]] [cw 6 0] ⟨ym,trivial⟩
def PG(rec:ap->Option Int)(L:ap)(S:List Int)(aa:Int×Int×Int):Option (Int×Int×Int⊕Int):=cond (d_ (aa.2.2<(S.length:Int))) (B_ (idx S aa.2.2) λak=>cond (ak !=0) (B_ (BC L 0 aa.2.2) λar=>B_ (rec ar) λv5=>some (.inl (W_ i64 (aa.1+W_ i64 (W_ i64 (aa.2.1*ak)*v5)),(W_ i64 (0-aa.2.1),W_ i64 (aa.2.2+1))))) (some (.inl (aa.1,(W_ i64 (0-aa.2.1),W_ i64 (aa.2.2+1)))))) (some (.inr aa.1))
def wI(rec:ap->Option Int)(L:ap):Option Int:=cond ((L.length:Int)==0) (some 1) (B_ (idx L 0) λS=>B_ (aY (PG rec L S) (0,(1,0))) λaR=>some aR)
def tN:Nat->ap->Option Int|0=>λ_=>none|n+1=>wI (tN n)
def yv(L:ap):Option Int:=tN 30000 L
def JT:a8:=⟨139,[cm],[a0],λx=>yv x⟩
def tO(rec:ap->Option Int):a8:=⟨139,[.d false eX],[a0],λx=>rec x⟩
def agv(rec:ap->Option Int):cW:=⟨Tryz.prog,nB,[Xq,tO rec],[cG 5 [(3,a0),(4,a0),(14,a0)] 0 [(3,a0)]],[],[],[],[]⟩
def asA(rec:ap->Option Int)(x:iw.den (tO rec).ps):xk (agv rec) Tryz.f139 (tO rec).ps (tO rec).rs x=(tO (wI rec)).F x:=by kernel_rfl
def asB{af:Prop}(rec:ap->Option Int)(h:dJ Tryz.prog (tO rec).f/\ga af Tryz.prog (tO rec)):dJ Tryz.prog (tO (wI rec)).f/\ga af Tryz.prog (tO (wI rec)):=HA (N:=agv rec) pu ⟨agu,h,trivial⟩ func139 (by kernel_rfl) (asA rec)
def agw{af:Prop}:(n:Nat)->dJ Tryz.prog (tO (tN n)).f/\ga af Tryz.prog (tO (tN n))|0=>⟨⟨Tryz.f139,_,func139,by kernel_rfl,rfl⟩,λx z h=>by cases h⟩|n+1=>asB _ (agw n)
def Xr{af:Prop}:dJ Tryz.prog JT.f/\ga af Tryz.prog JT:=agw 30000
def Xs(L:ap):Option Int:=B_ (PE L) λS=>cond (!S) (some 0) (B_ (yv L) λaa=>some aa)
def agx:a8:=⟨257,[cm],[a0],λx=>Xs x⟩
def asC{af:Prop}:bn af agx:=bo [agt,JT] [] [] ⟨asz,Xr,trivial⟩
def PH(L:ap):Option Bool:=B_ (Xs L) λS=>B_ (Jx S) λaa=>some (aa==1)
def agy:a8:=⟨203,[cm],[ci],λx=>PH x⟩
def asD{af:Prop}:bn af agy:=bo [agx,WN] [] [] ⟨asC,afH,trivial⟩
def PI(L:ap×List Int):Option Bool:=cond ((L.1.length:Int)==2) (B_ (PH L.1) λS=>cond S (B_ (wC L.2 1000) λaa=>some aa) (some false)) (some false)
def agz:a8:=⟨128,[.d false (.prod eX bG)],[ci],λx=>PI x⟩
def asE{af:Prop}:bn af agz:=bo [agy,Ev] [] [] ⟨asD,Jn,trivial⟩
def PJ(L:ap×List Int)(ax:ap)(ak:ap×Int):Option (ap×Int⊕ap):=cond (d_ (ak.2<(ax.length:Int))) (B_ (idx ax ak.2) λar=>B_ (idx L.1 0) λv5=>B_ (l6 v5 ar) λaR=>B_ (idx L.2 0) λaP=>B_ (idx L.1 1) λbl=>B_ (l6 bl ar) λbk=>B_ (idx L.2 1) λbH=>B_ (bO 24 ak.1 [[W_ i64 (aR+aP),W_ i64 (bk+bH)]]) λbF=>some (.inl (bF,W_ i64 (ak.2+1)))) (some (.inr ak.1))
def JU(L:ap×List Int)(ax:ap):Option (ap×Bool):=B_ (PI (L.1,L.2)) λS=>cond (!S) (some ([],false)) (B_ (kx ax) λaa=>cond (!aa) (some ([],false)) (B_ (aY (PJ L ax) ([],0)) λbK=>B_ (wE bK) λc1=>some (c1.1,c1.2)))
def agA:a8:=⟨59,[.d false (.prod eX bG),cm],[cx 65,ci],λx=>JU x.1 x.2⟩
def asF{af:Prop}:bn af agA:=bo [agz,l5,ys,EC] [cG 5 [(6,cx 65),(19,a0)] 0 [(6,cx 65)]] [cw 7 0] ⟨asE,mF,Bw,Jv,trivial⟩
def JV(aP:List Int×List Int×Int)(bl:List Int)(bk:List Int×List Int×Int):Option (List Int×List Int×Int⊕List Int×List Int):=cond (d_ (bk.2.2<(aP.1.length:Int))) (B_ (bE bk.1.length bk.2.2) λ_=>B_ (idx bk.1 ((bk.2.2.toNat:Nat):Int)) λbH=>B_ (idx bl bk.2.2) λbF=>B_ (bE bk.2.1.length bk.2.2) λ_=>B_ (idx bk.2.1 ((bk.2.2.toNat:Nat):Int)) λbK=>B_ (idx bl bk.2.2) λc1=>B_ (bE bk.1.length bk.2.2) λ_=>B_ (bE bk.1.length ((bk.2.2.toNat:Nat):Int)) λ_=>B_ (bE bk.2.1.length bk.2.2) λ_=>B_ (bE bk.2.1.length ((bk.2.2.toNat:Nat):Int)) λ_=>some (.inl (bk.1.set bk.2.2.toNat (if bF<bH then bF else bH),(bk.2.1.set bk.2.2.toNat (if c1>bK then c1 else bK),W_ i64 (bk.2.2+1))))) (some (.inr (bk.1,bk.2.1)))
def EV(L:ap)(aP:List Int×List Int×Int):Option (List Int×List Int×Int⊕List Int×List Int):=cond (d_ (aP.2.2<(L.length:Int))) (B_ (idx L aP.2.2) λbl=>B_ (aY (JV aP bl) (aP.1,(aP.2.1,0))) λdH=>some (.inl (dH.1,(dH.2,W_ i64 (aP.2.2+1))))) (some (.inr (aP.1,aP.2.1)))
def PL(L:ap)(ek:ap)(dK:ap×Int):Option (ap×Int⊕ap):=cond (d_ (dK.2<(ek.length:Int))) (B_ (idx ek dK.2) λeT=>B_ (sy L eT) λfj=>cond (d_ (fj>=0)) (B_ (bO 24 dK.1 [eT]) λdY=>some (.inl (dY,W_ i64 (dK.2+1)))) (some (.inl (dK.1,W_ i64 (dK.2+1))))) (some (.inr dK.1))
def JW(L:ap):Option ap:=B_ (kx L) λS=>cond (!S) (some []) (B_ (oj L) λaa=>cond (d_ (aa>2000)) (some []) (B_ (idx L 0) λak=>B_ (oR ak) λar=>B_ (idx L 0) λv5=>B_ (oR v5) λaR=>B_ (aY (EV L) (ar,(aR,0))) λdF=>B_ (wG dF.1 dF.2) λek=>B_ (aY (PL L ek) ([],0)) λeZ=>B_ (jU eZ) λ_=>some eZ))
def agB:a8:=⟨132,[cm],[.l (.d true eX)],λx=>JW x⟩
def asG{af:Prop}:bn af agB:=wi [] [(10,[0,1,2,3,4,5,8,9,13,14,17,18,6,7,10,11,12,15,16,19,20,21,22,23,24,25])] [l5,Bt,wy,JF,O7] [cG 5 [(3,cR 3),(4,cR 3),(29,a0)] 0 [(3,cR 3),(4,cR 3)],cG 8 [(3,cR 3),(4,cR 3),(35,a0)] 2 [(3,cR 3),(4,cR 3)],cG 15 [(8,.l (.o false 65 bG)),(68,a0)] 4 [(8,.l (.o false 65 bG))]] [cw 3 0,cw 10 0] [] ⟨mF,EH,ym,Pf,W2,trivial⟩ trivial
def JX(ax:List Int)(S:ap)(aP:Int)(bl:List Int×Int):Option (List Int×Int⊕List Int):=cond (d_ (bl.2<(S.length:Int))) (B_ (idx S bl.2) λbk=>B_ (l6 ax bk) λbH=>B_ (bE bl.1.length (W_ i64 (bH-W_ i64 (0-aP)))) λ_=>B_ (idx bl.1 (((W_ i64 (bH-W_ i64 (0-aP))).toNat:Nat):Int)) λbF=>B_ (bE bl.1.length (W_ i64 (bH-W_ i64 (0-aP)))) λ_=>B_ (bE bl.1.length (((W_ i64 (bH-W_ i64 (0-aP))).toNat:Nat):Int)) λ_=>some (.inl (bl.1.set (W_ i64 (bH-W_ i64 (0-aP))).toNat (W_ i64 (bF+1)),W_ i64 (bl.2+1)))) (some (.inr bl.1))
def PM(L:ap)(ax:List Int):Option (List Int):=B_ (JW L) λS=>cond S.isEmpty (some []) (B_ (wC ax 12) λaa=>cond (!aa) (some []) (B_ (oS L ax) λak=>B_ (ov 8 (W_ i64 (ak+1)) 0) λar=>B_ (idx ax 0) λv5=>B_ (idx ax 1) λaR=>B_ (EK L [W_ i64 (0-v5),W_ i64 (0-aR)]) λaP=>B_ (aY (JX ax S aP) (ar,0)) λbK=>some bK))
def agC:a8:=⟨63,[cm,dq],[cR 3],λx=>PM x.1 x.2⟩
def asH{af:Prop}:bn af agC:=bo [agB,Ev,Pj,W9,ys] [cG 7 [(6,cR 3),(38,a0)] 0 [(6,cR 3)]] [cw 5 0] ⟨asG,Jn,Xa,af0,Bw,trivial⟩
def PN(L:Int)(ax:List Int×Int):Option Bool:=B_ (nG L 1 3) λS=>cond S (cond ((ax.1.length:Int)==L) (B_ (su ax.1 (-20) 20) λaa=>cond aa (B_ (tI ax.1) λak=>cond (d_ (ak>0)) (B_ (nG ax.2 (-200) 200) λar=>some ar) (some false)) (some false)) (some false)) (some false)
def agD:a8:=⟨205,[eD,.d false (.prod bG bM)],[ci],λx=>PN x.1 x.2⟩
def asI{af:Prop}:bn af agD:=bo [rl,Et,Bo] [] [] ⟨ss,Jm,ED,trivial⟩
def PO(L:Int×List (List Int×Int))(aa:Int):Option (Int⊕Unit⊕Bool):=cond (d_ (aa<(L.2.length:Int))) (B_ (idx L.2 aa) λak=>B_ (PN L.1 (ak.1,ak.2)) λar=>cond (!ar) (some (.inr (.inr false))) (some (.inl (W_ i64 (aa+1))))) (some (.inr (.inl ())))
def wJ(L:Int×List (List Int×Int)):Option Bool:=B_ (nG L.1 1 3) λS=>cond (!S) (some false) (cond (d_ ((L.2.length:Int)>8)) (some false) (B_ (aY (PO L) 0) λv5=>match v5 with|.inl aR=>some true|.inr aP=>some aP))
def EW:a8:=⟨136,[.d false (.prod bM (.list (.prod bG bM)))],[ci],λx=>wJ x⟩
def JY{af:Prop}:bn af EW:=bo [rl,agD] [⟨4,[(18,a0)],some (0,[]),some [(2,ci)],false,none⟩] [] ⟨ss,asI,trivial⟩
def EX(ar:List ByteArray)(v5:(Int×List (List Int×Int))×(Int×List (List Int×Int))×Int):Option ((Int×List (List Int×Int))×(Int×List (List Int×Int))×Int⊕(Int×List (List Int×Int))×Int×List (List Int×Int)⊕(Int×List (List Int×Int))×Bool):=cond (d_ (v5.2.2<(ar.length:Int))) (B_ (idx ar v5.2.2) λaR=>B_ (yn aR 60) λaP=>cond ((aP.length:Int)!=2) (some (.inr (.inr ((0,[]),false)))) (B_ (bE aP.length 0) λ_=>B_ (idx aP (((0:Int).toNat:Nat):Int)) λbl=>B_ (u7 bl) λbk=>B_ (bE aP.length 1) λ_=>B_ (idx aP (((1:Int).toNat:Nat):Int)) λbH=>B_ (wz bH) λbF=>cond (!bk.2) (some (.inr (.inr ((0,[]),false)))) (cond (!bF.2) (some (.inr (.inr ((0,[]),false)))) (B_ (bO 32 v5.2.1.2 [(bk.1,bF.1)]) λbK=>some (.inl ((v5.1.1,v5.1.2),((v5.2.1.1,bK),W_ i64 (v5.2.2+1)))))))) (some (.inr (.inl ((v5.1.1,v5.1.2),(v5.2.1.1,v5.2.1.2)))))
def PP(L:ByteArray):Option ((Int×List (List Int×Int))×Bool):=B_ (yn L 59) λS=>B_ (bE S.length 0) λ_=>B_ (idx S (((0:Int).toNat:Nat):Int)) λaa=>B_ (wz aa) λak=>cond (!ak.2) (some ((0,[]),false)) (B_ (fd S 1 (S.length:Int)) λar=>B_ (aY (EX ar) ((0,[]),((ak.1,[]),0))) λc1=>match c1 with|.inl dH=>B_ (wJ (dH.2.1,dH.2.2)) λek=>cond (!ek) (some ((0,[]),false)) (some ((dH.2.1,dH.2.2),true))|.inr dF=>some ((dF.1.1,dF.1.2),dF.2))
def agE:a8:=⟨64,[jq],[.a [.d false bM,.o true 132 (.prod bG bM)],ci],λx=>PP x⟩
noncomputable def agF:cW:=⟨Tryz.prog,nB,[EW],[],[],[],[],[]⟩
def Xt:nh:=⟨135,true,oD agF Tryz.f135⟩
def asJ{af:Prop}:dJ Tryz.prog Xt.f/\lr af Tryz.prog Xt:=acR (N:=agF) pu ⟨JY,trivial⟩ func135 (by kernel_rfl) (by kernel_rfl) rfl
def asK:bn False agE:=VF [Jj,Jl,OR] [⟨7,[(2,.b 79 [.d false bM,.o true 132 (.prod bG bM)]),(7,.b 79 [.d false bM,.o true 132 (.prod bG bM)]),(32,a0)],some (0,[(2,.b 79 [.d false bM,.o true 132 (.prod bG bM)]),(7,.b 79 [.d false bM,.o true 132 (.prod bG bM)])]),some [(2,.b 79 [.d false bM,.o true 132 (.prod bG bM)]),(3,ci)],false,none⟩] [] [Xt] ⟨OP,Wz,WC,trivial⟩ ⟨asJ,trivial⟩
def PQ(L:Int×List (List Int×Int))(ax:List Int)(ak:Int):Option (Int⊕Unit⊕Bool):=cond (d_ (ak<(L.2.length:Int))) (B_ (idx L.2 ak) λar=>B_ (l6 ar.1 ax) λv5=>cond (d_ (v5>ar.2)) (some (.inr (.inr false))) (some (.inl (W_ i64 (ak+1))))) (some (.inr (.inl ())))
def JZ(L:Int×List (List Int×Int))(ax:List Int):Option Bool:=B_ (wJ (L.1,L.2)) λS=>cond (!S) (some false) (B_ (wB ax) λaa=>cond (!aa) (some false) (cond ((ax.length:Int)!=L.1) (some false) (B_ (aY (PQ L ax) 0) λaR=>match aR with|.inl aP=>some true|.inr bl=>some bl)))
def agG:a8:=⟨206,[.d false (.prod bM (.list (.prod bG bM))),dq],[ci],λx=>JZ x.1 x.2⟩
def asL{af:Prop}:bn af agG:=bo [EW,Bh,ys] [⟨4,[(25,a0)],some (0,[]),some [(4,ci)],false,none⟩] [cw 6 0] ⟨JY,Eu,Bw,trivial⟩
def PR(aa:List Int)(ar:List Int×List Int×Int):Option (List Int×List Int×Int⊕List Int×List Int):=cond (d_ (ar.2.2<(aa.length:Int))) (B_ (bE ar.1.length ar.2.2) λ_=>B_ (bE ar.1.length ((ar.2.2.toNat:Nat):Int)) λ_=>B_ (bE ar.2.1.length ar.2.2) λ_=>B_ (bE ar.2.1.length ((ar.2.2.toNat:Nat):Int)) λ_=>some (.inl (ar.1.set ar.2.2.toNat (-6),(ar.2.1.set ar.2.2.toNat 6,W_ i64 (ar.2.2+1))))) (some (.inr (ar.1,ar.2.1)))
def J0(L:Int×List (List Int×Int))(aR:ap)(aP:ap×Int):Option (ap×Int⊕ap):=cond (d_ (aP.2<(aR.length:Int))) (B_ (idx aR aP.2) λbl=>B_ (JZ (L.1,L.2) bl) λbk=>cond bk (B_ (bO 24 aP.1 [bl]) λbH=>some (.inl (bH,W_ i64 (aP.2+1)))) (some (.inl (aP.1,W_ i64 (aP.2+1))))) (some (.inr aP.1))
def J1(L:Int×List (List Int×Int)):Option ap:=B_ (wJ (L.1,L.2)) λS=>cond (!S) (some []) (B_ (ov 8 L.1 0) λaa=>B_ (ov 8 L.1 0) λak=>B_ (aY (PR aa) (aa,(ak,0))) λv5=>B_ (wG v5.1 v5.2) λaR=>B_ (aY (J0 L aR) ([],0)) λbF=>some bF)
def agH:a8:=⟨137,[.d false (.prod bM (.list (.prod bG bM)))],[.l (.o false 65 bG)],λx=>J1 x⟩
def asM{af:Prop}:bn af agH:=bo [EW,JF,agG] [cG 5 [(3,cR 3),(4,cR 3),(20,a0)] 0 [(3,cR 3),(4,cR 3)],cG 11 [(6,.l (.o false 65 bG)),(34,a0)] 2 [(6,.l (.o false 65 bG))]] [cw 3 0] ⟨JY,Pf,asL,trivial⟩
def PS(L:Int×List (List Int×Int)):Option Int:=B_ (wJ (L.1,L.2)) λS=>cond (!S) (some (-1)) (B_ (J1 (L.1,L.2)) λaa=>some (aa.length:Int))
def agI:a8:=⟨65,[.d false (.prod bM (.list (.prod bG bM)))],[a0],λx=>PS x⟩
def asN{af:Prop}:bn af agI:=bo [EW,agH] [] [] ⟨JY,asM,trivial⟩
def J2(L:ap)(S:ap×Int)(ak:ap×List Int×Int):Option (ap×List Int×Int⊕ap×List Int):=cond (d_ (ak.2.2<(L.length:Int))) (B_ (BC L ak.2.2 S.2) λar=>B_ (yv ar) λv5=>B_ (bE ak.2.1.length ak.2.2) λ_=>B_ (bE ak.2.1.length ((ak.2.2.toNat:Nat):Int)) λ_=>B_ (gu .i64 (W_ i64 (S.2+ak.2.2)) 2) λaR=>cond (aR==1) (B_ (bE (ak.2.1.set ak.2.2.toNat v5).length ak.2.2) λ_=>B_ (idx (ak.2.1.set ak.2.2.toNat v5) ((ak.2.2.toNat:Nat):Int)) λaP=>B_ (bE (ak.2.1.set ak.2.2.toNat v5).length ak.2.2) λ_=>B_ (bE (ak.2.1.set ak.2.2.toNat v5).length ((ak.2.2.toNat:Nat):Int)) λ_=>some (.inl (ak.1,((ak.2.1.set ak.2.2.toNat v5).set ak.2.2.toNat (W_ i64 (0-aP)),W_ i64 (ak.2.2+1))))) (some (.inl (ak.1,(ak.2.1.set ak.2.2.toNat v5,W_ i64 (ak.2.2+1)))))) (some (.inr (ak.1,ak.2.1)))
def PT(L:ap)(S:ap×Int):Option (ap×Int⊕ap):=cond (d_ (S.2<(L.length:Int))) (B_ (ov 8 (L.length:Int) 0) λaa=>B_ (aY (J2 L S) (S.1,(aa,0))) λbl=>B_ (bO 24 bl.1 [bl.2]) λbk=>some (.inl (bk,W_ i64 (S.2+1)))) (some (.inr S.1))
def PU(L:ap):Option ap:=B_ (aY (PT L) ([],0)) λbH=>some bH
def agJ:a8:=⟨140,[cm],[cx 65],λx=>PU x⟩
def asO{af:Prop}:bn af agJ:=bo [Xq,JT] [cG 3 [(3,cx 65),(9,a0)] 0 [(3,cx 65)],cG 7 [(3,cx 65),(5,cR 3),(17,a0)] 2 [(3,cx 65),(5,cR 3)]] [] ⟨agu,Xr,trivial⟩
def J3(L:List Int×Int)(aa:Int)(ar:(List Int×Int)×(List Int×Int)×Int):Option ((List Int×Int)×(List Int×Int)×Int⊕(List Int×Int)×List Int×Int):=cond (d_ (ar.2.2<(L.1.length:Int))) (B_ (idx L.1 ar.2.2) λv5=>B_ (gn .i64 v5 (W_ i64 (0-aa))) λaR=>B_ (bO 8 ar.2.1.1 [aR]) λaP=>some (.inl ((ar.1.1,ar.1.2),((aP,ar.2.1.2),W_ i64 (ar.2.2+1))))) (some (.inr ((ar.1.1,ar.1.2),(ar.2.1.1,ar.2.1.2))))
def J4(L:List Int×Int)(aa:Int)(bH:(List Int×Int)×(List Int×Int)×Int):Option ((List Int×Int)×(List Int×Int)×Int⊕(List Int×Int)×List Int×Int):=cond (d_ (bH.2.2<(L.1.length:Int))) (B_ (idx L.1 bH.2.2) λbF=>B_ (gn .i64 bF aa) λbK=>B_ (bO 8 bH.2.1.1 [bK]) λc1=>some (.inl ((bH.1.1,bH.1.2),((c1,bH.2.1.2),W_ i64 (bH.2.2+1))))) (some (.inr ((bH.1.1,bH.1.2),(bH.2.1.1,bH.2.1.2))))
def PV(L:List Int×Int):Option (List Int×Int):=B_ (tI L.1) λS=>B_ (Jy S L.2) λaa=>cond (d_ (L.2<0)) (B_ (gn .i64 L.2 (W_ i64 (0-aa))) λak=>B_ (aY (J3 L aa) (([],0),(([],ak),0))) λbl=>some (bl.2.1,bl.2.2)) (B_ (gn .i64 L.2 aa) λbk=>B_ (aY (J4 L aa) (([],0),(([],bk),0))) λdH=>some (dH.2.1,dH.2.2))
def agK:a8:=⟨141,[.d false (.prod bG bM)],[.a [.o true 3 bM,.d false bM]],λx=>PV x⟩
def asP{af:Prop}:bn af agK:=bo [Bo,WO] [cG 6 [(2,.b 86 [.o true 3 bM,.d false bM]),(4,.b 86 [.o true 3 bM,.d false bM]),(26,a0)] 0 [(2,.b 86 [.o true 3 bM,.d false bM]),(4,.b 86 [.o true 3 bM,.d false bM])]] [cw 1 0,cw 8 0] ⟨ED,afI,trivial⟩
def PW(L:Int×List (List Int×Int))(ax:List Int×Int)(S:Int):Option (Int⊕Unit⊕Bool):=cond (d_ (S<(L.2.length:Int))) (B_ (idx L.2 S) λaa=>B_ (l6 aa.1 ax.1) λak=>cond (d_ (ak>W_ i64 (aa.2*ax.2))) (some (.inr (.inr false))) (some (.inl (W_ i64 (S+1))))) (some (.inr (.inl ())))
def J5(L:Int×List (List Int×Int))(ax:List Int×Int):Option Bool:=B_ (aY (PW L ax) 0) λar=>match ar with|.inl v5=>some true|.inr aR=>some aR
def agL:a8:=⟨142,[.d false (.prod bM (.list (.prod bG bM))),.d false (.prod bG bM)],[ci],λx=>J5 x.1 x.2⟩
def asQ{af:Prop}:bn af agL:=bo [ys] [⟨2,[(10,a0)],some (0,[]),some [(4,ci)],false,none⟩] [cw 4 0] ⟨Bw,trivial⟩
def PX(rec:oe)(dm:List (List Int×Int))(S:List (List Int×Int)×ap×List Int×Int):Option (List (List Int×Int)×ap×List Int×Int⊕List (List Int×Int)×ap×List Int):=cond (d_ (S.2.2.2<(dm.length:Int))) (B_ (idx dm S.2.2.2) λaa=>B_ (bO 24 S.2.1 [aa.1]) λak=>B_ (bO 8 S.2.2.1 [aa.2]) λar=>some (.inl (S.1,(ak,(ar,W_ i64 (S.2.2.2+1)))))) (some (.inr (S.1,(S.2.1,S.2.2.1))))
def PY(rec:oe)(v5:List (List Int×Int)×ap×List Int)(aP:ap)(bl:List (List Int×Int)×(List Int×Int)×Int):Option (List (List Int×Int)×(List Int×Int)×Int⊕List (List Int×Int)×List Int×Int):=cond (d_ (bl.2.2<(aP.length:Int))) (B_ (idx aP bl.2.2) λbk=>B_ (l6 bk v5.2.2) λbH=>B_ (bO 8 bl.2.1.1 [bH]) λbF=>some (.inl (bl.1,((bF,bl.2.1.2),W_ i64 (bl.2.2+1))))) (some (.inr (bl.1,(bl.2.1.1,bl.2.1.2))))
def J6(rec:oe)(L:Int×List (List Int×Int))(dm:List (List Int×Int))(ek:Int×List (List Int×Int)):Option (Int×List (List Int×Int)⊕List (List Int×Int)):=cond (d_ (ek.1<(L.2.length:Int))) (B_ (Gd (dm.length:Int) (dm.length:Int) dm.length) λdK=>B_ (idx L.2 ek.1) λeT=>B_ (jU [(eT.1,eT.2)]) λ_=>B_ (bO 32 dm [(eT.1,eT.2)]) λfj=>B_ (rec (L.1,L.2) (W_ i64 (ek.1+1)) fj ek.2) λdY=>some (.inl (W_ i64 (ek.1+1),dY))) (some (.inr ek.2))
def yw(rec:oe)(L:Int×List (List Int×Int))(ax:Int)(dm ww:List (List Int×Int)):Option (List (List Int×Int)):=cond ((dm.length:Int)==L.1) (B_ (aY (PX rec dm) (ww,([],([],0)))) λv5=>B_ (yv v5.2.1) λaR=>cond (aR==0) (some v5.1) (B_ (PU v5.2.1) λaP=>B_ (aY (PY rec v5 aP) (v5.1,(([],aR),0))) λbK=>B_ (PV (bK.2.1,bK.2.2)) λc1=>B_ (J5 (L.1,L.2) (c1.1,c1.2)) λdH=>cond dH (B_ (bO 32 bK.1 [(c1.1,c1.2)]) λdF=>some dF) (some bK.1))) (B_ (aY (J6 rec L dm) (ax,ww)) λeZ=>some eZ)
def yx:Nat->oe|0=>λ_ _ _ _=>none|n+1=>yw (yx n)
def J7:oe:=yx 30000
def PZ:pr:=⟨138,79,136,83,86⟩
def BD(rec:oe):nh:=⟨138,false,x9 PZ rec⟩
def agM(rec:oe):cW:=⟨Tryz.prog,nB,[JT,agJ,ys,agK,agL],[cG 4 [(3,.b 83 [.o false 86 (.prod bG bM)]),(7,.l (.o false 65 bG)),(8,cR 3),(23,a0)] 0 [(3,.b 83 [.o false 86 (.prod bG bM)]),(7,.l (.o false 65 bG)),(8,cR 3)],cG 13 [(3,.b 83 [.o false 86 (.prod bG bM)]),(12,.b 86 [.o true 3 bM,.d false bM]),(47,a0)] 2 [(3,.b 83 [.o false 86 (.prod bG bM)]),(12,.b 86 [.o true 3 bM,.d false bM])],⟨21,[(15,a0)],some (4,[]),none,false,some (3,.b 83 [.o false 86 (.prod bG bM)])⟩],[cw 15 0,cw 23 0],[BD rec],[],[]⟩
def asR(rec:oe)(x:Int×List (List Int×Int))(i:Int)(c r:List (List Int×Int)):Nr (agM rec) Tryz.f138 PZ x i c r=yw rec x i c r:=by kernel_rfl
def asS{af:Prop}(rec:oe)(h:dJ Tryz.prog 138/\lr af Tryz.prog (BD rec)):dJ Tryz.prog 138/\lr af Tryz.prog (BD (yw rec)):=aqM (N:=agM rec) (m:=PZ) pu ⟨Xr,asO,Bw,asP,asQ,trivial⟩ func138 (by kernel_rfl) (asR rec) ⟨h,trivial⟩
def agN{af:Prop}:(n:Nat)->dJ Tryz.prog 138/\lr af Tryz.prog (BD (yx n))|0=>aqN (m:=PZ) func138 (by kernel_rfl)|n+1=>asS _ (agN n)
def asT{af:Prop}:dJ Tryz.prog (BD J7).f/\lr af Tryz.prog (BD J7):=agN 30000
def J8(L:List Int×Int)(ax:List Int×Int)(S:Int):Option (Int⊕Unit⊕Int):=cond (d_ (S<(L.1.length:Int))) (B_ (idx L.1 S) λaa=>B_ (idx ax.1 S) λak=>B_ (Bk (W_ i64 (aa*ax.2)) (W_ i64 (ak*L.2))) λar=>cond (ar !=0) (some (.inr (.inr ar))) (some (.inl (W_ i64 (S+1))))) (some (.inr (.inl ())))
def wK(L:List Int×Int)(ax:List Int×Int):Option Int:=B_ (aY (J8 L ax) 0) λv5=>match v5 with|.inl aR=>some 0|.inr aP=>some aP
def agO:a8:=⟨144,[.d false (.prod bG bM),.d false (.prod bG bM)],[a0],λx=>wK x.1 x.2⟩
def Xu{af:Prop}:bn af agO:=bo [WD] [⟨2,[(10,a0)],some (0,[]),some [(4,a0)],false,none⟩] [cw 4 0] ⟨afB,trivial⟩
def P0(L:List (List Int×Int)):Option (Unit×List (List Int×Int)×Unit):=H3 (λa b=>wK a b) L
def Xv:a8:=⟨143,[.io false 86 (.prod bG bM),.f 144],[],λx=>P0 x.1⟩
def asU{af:Prop}:dJ Tryz.prog Xv.f/\ga af Tryz.prog Xv:=⟨⟨Tryz.f143,_,func143,by kernel_rfl,rfl⟩,apO (a:=bG) (b:=bM) ap4 rfl Tryz.isAgg86 Tryz.sizeOf86 (Xu (af:=True)).1 (Xu (af:=True)).2⟩
def BE(L:List Int×Int)(ax:List Int×Int):Option Bool:=B_ (wK (L.1,L.2) (ax.1,ax.2)) λS=>some (S==0)
def agP:a8:=⟨146,[.d false (.prod bG bM),.d false (.prod bG bM)],[ci],λx=>BE x.1 x.2⟩
def asV{af:Prop}:bn af agP:=bo [agO] [] [] ⟨Xu,trivial⟩
def P1(S:Int×List (List Int×Int))(aR:Int×Int×List (List Int×Int)):Option (Int×Int×List (List Int×Int)⊕Int×List (List Int×Int)):=cond (d_ (aR.2.1<(((S.2.length:Int).toNat-S.1.toNat:Nat):Int))) (B_ (bE ((S.2.length:Int).toNat-S.1.toNat) aR.2.1) λ_=>B_ (idx aR.2.2 ((S.1.toNat+aR.2.1.toNat:Nat):Int)) λaP=>B_ (bE ((S.2.length:Int).toNat-S.1.toNat) (W_ i64 (aR.2.1-1))) λ_=>B_ (idx aR.2.2 ((S.1.toNat+(W_ i64 (aR.2.1-(1:Int))).toNat:Nat):Int)) λbl=>B_ (BE aP bl) λbk=>cond (!bk) (B_ (bE ((S.2.length:Int).toNat-S.1.toNat) aR.2.1) λ_=>B_ (idx aR.2.2 ((S.1.toNat+aR.2.1.toNat:Nat):Int)) λbH=>B_ (bE aR.2.2.length aR.1) λ_=>B_ (bE aR.2.2.length ((aR.1.toNat:Nat):Int)) λ_=>some (.inl (W_ i64 (aR.1+1),(W_ i64 (aR.2.1+1),aR.2.2.set aR.1.toNat (bH.1,bH.2))))) (some (.inl (aR.1,(W_ i64 (aR.2.1+1),aR.2.2))))) (some (.inr (aR.1,aR.2.2)))
def Xw(S:Int×List (List Int×Int)):Option (Int×List (List Int×Int)⊕List (List Int×Int)⊕List (List Int×Int)):=cond (d_ (S.1<(S.2.length:Int))) (B_ (bE S.2.length S.1) λ_=>B_ (idx S.2 ((S.1.toNat:Nat):Int)) λaa=>B_ (bE S.2.length (W_ i64 (S.1-1))) λ_=>B_ (idx S.2 (((W_ i64 (S.1-(1:Int))).toNat:Nat):Int)) λak=>B_ (BE aa ak) λar=>cond ar (B_ (fd S.2 S.1 (S.2.length:Int)) λv5=>B_ (aY (P1 S) (S.1,(1,S.2))) λbF=>B_ (fd bF.2 bF.1 (bF.2.length:Int)) λbK=>B_ (Ge bF.1.toNat (bF.2.length:Int).toNat bF.2.length) λc1=>B_ (fd (bF.2.take bF.1.toNat++List.replicate ((bF.2.length:Int).toNat-bF.1.toNat) ([],0)) 0 bF.1) λdH=>some (.inr (.inr dH))) (some (.inl (W_ i64 (S.1+1),S.2)))) (some (.inr (.inl S.2)))
def P2(L:List (List Int×Int)):Option (List (List Int×Int)):=cond (d_ ((L.length:Int)<2)) (some L) (B_ (aY Xw (1,L)) λdF=>match dF with|.inl ek=>some ek|.inr dK=>some dK)
def agQ:a8:=⟨145,[.mv false 86 (.prod bG bM),.f 146],[.l (.o false 86 (.prod bG bM))],λx=>P2 x.1⟩
def asW{af:Prop}:bn af agQ:=wi [29,59] [] [agP] [⟨4,[(5,a0)],some (0,[]),some [(4,.l (.o false 86 (.prod bG bM)))],false,some (0,.l (.o false 86 (.prod bG bM)))⟩,⟨9,[(5,a0),(7,a0)],some (2,[(5,a0)]),none,false,some (0,.l (.o false 86 (.prod bG bM)))⟩] [cw 6 0,cw 11 0] [] ⟨asV,trivial⟩ trivial
def J9(L:Int×List (List Int×Int)):Option (List (List Int×Int)):=B_ (wJ (L.1,L.2)) λS=>cond (!S) (some []) (B_ (J7 (L.1,L.2) 0 [] []) λaa=>B_ (P0 aa) λak=>B_ (P2 ak.2.1) λar=>some ar)
def agR:a8:=⟨66,[.d false (.prod bM (.list (.prod bG bM)))],[.l (.o false 86 (.prod bG bM))],λx=>J9 x⟩
def asX{af:Prop}:bn af agR:=VF [EW,Xv,agQ] [] [] [BD J7] ⟨JY,asU,asW,trivial⟩ ⟨asT,trivial⟩
def Ka(L:List Int×Int):Option ByteArray:=cond ((L.1.length:Int)==0) (some ⟨#[]⟩) (cond (d_ (L.2<1)) (some ⟨#[]⟩) (B_ (sv L.1) λS=>cond (L.2 !=1) (B_ (lz L.2) λaa=>B_ (fM ⟨#[47]⟩ aa) λak=>B_ (fM S ak) λar=>some ar) (some S)))
def agS:a8:=⟨67,[.d false (.prod bG bM)],[hF],λx=>Ka x⟩
def asY:bn False agS:=bo [EA,Jr] [] [] ⟨Js,OU,trivial⟩
def P3(L:List Int)(ax:Int)(dm:List Int)(S:List Int×Int):Option (List Int×Int⊕List Int):=cond (d_ (S.2<(L.length:Int))) (B_ (bE S.1.length S.2) λ_=>B_ (idx S.1 ((S.2.toNat:Nat):Int)) λaa=>B_ (idx dm S.2) λak=>B_ (bE S.1.length S.2) λ_=>B_ (bE S.1.length ((S.2.toNat:Nat):Int)) λ_=>some (.inl (S.1.set S.2.toNat (W_ i64 (aa-W_ i64 (ax*ak))),W_ i64 (S.2+1)))) (some (.inr S.1))
def EY(L:List Int)(ax:Int)(dm:List Int):Option (Unit×List Int×Unit):=B_ (aY (P3 L ax dm) (L,0)) λar=>some ((),(ar,()))
def agT:a8:=⟨150,[.io true 3 bM,eD,dq],[],λx=>EY x.1 x.2.1 x.2.2⟩
def asZ{af:Prop}:bn af agT:=bo [] [cG 1 [(0,cR 3),(9,a0)] 0 [(0,cR 3)]] [cw 3 0] trivial
def Kb(L:List Int×List Int)(ak:ap):Option (ap⊕ap):=B_ (bE ak.length (W_ i64 ((ak.length:Int)-1))) λ_=>B_ (idx ak (((W_ i64 ((ak.length:Int)-(1:Int))).toNat:Nat):Int)) λar=>B_ (l4 ar L.2) λv5=>cond (v5==0) (some (.inr ak)) (B_ (tJ ar) λaR=>B_ (l4 aR L.2) λaP=>B_ (Bq aP v5) λbl=>B_ (EY aR bl ar) λbk=>B_ (bO 24 ak [bk.2.1]) λbH=>some (.inl bH))
def EZ(L:List Int×List Int):Option ap:=B_ (yu (L.1,L.2)) λS=>cond (!S) (some []) (B_ (oR L.1) λaa=>B_ (aY (Kb L) [aa]) λbF=>some bF)
def Xx:a8:=⟨69,[.d false (.prod bG bG)],[cx 65],λx=>EZ x⟩
def agU{af:Prop}:bn af Xx:=bo [JI,wy,yp,WV,WW,agT] [⟨4,[(3,cx 65)],none,some [(2,cx 65)],false,none⟩] [] ⟨Pl,ym,Bj,afL,afM,asZ,trivial⟩
def Kc(S:ap)(aa:List Int×Int):Option (List Int×Int⊕List Int):=cond (d_ (W_ i64 (aa.2+1)<(S.length:Int))) (B_ (idx S (W_ i64 (aa.2-1))) λak=>B_ (idx S (W_ i64 (aa.2+1))) λar=>B_ (l4 ak ar) λv5=>B_ (bO 8 aa.1 [v5]) λaR=>some (.inl (aR,W_ i64 (aa.2+1)))) (some (.inr aa.1))
def P4(L:List Int×List Int):Option (List Int):=B_ (EZ (L.1,L.2)) λS=>B_ (aY (Kc S) ([],1)) λaP=>some aP
def agV:a8:=⟨70,[.d false (.prod bG bG)],[cR 3],λx=>P4 x⟩
def as0{af:Prop}:bn af agV:=bo [Xx,yp] [cG 4 [(4,cR 3),(5,a0)] 0 [(4,cR 3)]] [cw 6 0] ⟨agU,Bj,trivial⟩
def P5(L:List Int)(ak:Int):Option (Int⊕Unit⊕Bool):=cond (d_ (ak<(L.length:Int))) (B_ (idx L (W_ i64 (ak-1))) λar=>B_ (idx L ak) λv5=>cond (d_ (ar>=v5)) (some (.inr (.inr false))) (some (.inl (W_ i64 (ak+1))))) (some (.inr (.inl ())))
def P6(L:List Int):Option Bool:=B_ (nG (L.length:Int) 1 6) λS=>cond (!S) (some false) (B_ (su L 1 30) λaa=>cond (!aa) (some false) (B_ (aY (P5 L) 1) λaR=>match aR with|.inl aP=>some true|.inr bl=>some bl))
def agW:a8:=⟨152,[dq],[ci],λx=>P6 x⟩
def as1{af:Prop}:bn af agW:=bo [rl,Et] [⟨4,[(3,a0)],some (0,[]),some [(2,ci)],false,none⟩] [cw 6 0] ⟨ss,Jm,trivial⟩
def E0(ax:Int)(v5:Int)(aR:List Int×Int):Option (List Int×Int⊕List Int):=cond (d_ (aR.2<=ax)) (B_ (bE aR.1.length aR.2) λ_=>B_ (idx aR.1 ((aR.2.toNat:Nat):Int)) λaP=>B_ (bE aR.1.length (W_ i64 (aR.2-v5))) λ_=>B_ (idx aR.1 (((W_ i64 (aR.2-v5)).toNat:Nat):Int)) λbl=>B_ (bE aR.1.length aR.2) λ_=>B_ (bE aR.1.length ((aR.2.toNat:Nat):Int)) λ_=>some (.inl (aR.1.set aR.2.toNat (W_ i64 (aP+bl)),W_ i64 (aR.2+1)))) (some (.inr aR.1))
def E1(L:List Int)(ax:Int)(ar:List Int×Int):Option (List Int×Int⊕List Int):=cond (d_ (ar.2<(L.length:Int))) (B_ (idx L ar.2) λv5=>B_ (aY (E0 ax v5) (ar.1,v5)) λbk=>some (.inl (bk,W_ i64 (ar.2+1)))) (some (.inr ar.1))
def P7(L:List Int)(ax:Int):Option Int:=B_ (P6 L) λS=>cond (!S) (some (-1)) (B_ (nG ax 0 500) λaa=>cond (!aa) (some (-1)) (B_ (ov 8 (W_ i64 (ax+1)) 0) λak=>B_ (bE ak.length 0) λ_=>B_ (bE ak.length (((0:Int).toNat:Nat):Int)) λ_=>B_ (aY (E1 L ax) (ak.set (0:Int).toNat 1,0)) λbH=>B_ (bE bH.length ax) λ_=>B_ (idx bH (((ax).toNat:Nat):Int)) λbF=>some bF))
def agX:a8:=⟨71,[dq,eD],[a0],λx=>P7 x.1 x.2⟩
def as2{af:Prop}:bn af agX:=bo [agW,rl] [cG 6 [(5,cR 3),(24,a0)] 0 [(5,cR 3)],cG 9 [(5,cR 3),(8,a0)] 2 [(5,cR 3)]] [cw 11 0] ⟨as1,ss,trivial⟩
def E2(E3:List (List Int×Int))(rn:(ap×ap)×(ap×ap)×List ByteArray×Int):Option ((ap×ap)×(ap×ap)×List ByteArray×Int⊕(ap×ap)×(ap×ap)×List ByteArray):=cond (d_ (rn.2.2.2<(E3.length:Int))) (B_ (idx E3 rn.2.2.2) λagY=>B_ (Ka (agY.1,agY.2)) λas3=>B_ (bO 16 rn.2.2.1 [as3]) λas4=>some (.inl ((rn.1.1,rn.1.2),((rn.2.1.1,rn.2.1.2),(as4,W_ i64 (rn.2.2.2+1)))))) (some (.inr ((rn.1.1,rn.1.2),((rn.2.1.1,rn.2.1.2),rn.2.2.1))))
def yy(L:(ap)×(ap))(ax:ByteArray):Option ((ap×ap)×ByteArray):=B_ (pw L.1) λS=>B_ (pw L.2) λaa=>B_ (yn ax 32) λak=>B_ (fd ak 1 (ak.length:Int)) λar=>B_ (idx ak 0) λv5=>B_ (cond (v5.toList==(⟨#[112,111,108,121]⟩:ByteArray).toList) (some (d_ ((ar.length:Int)>0))) (some false)) λaR=>cond aR (B_ (tH ar ⟨#[32]⟩) λaP=>B_ (Ez aP) λbl=>cond (!bl.2) (some ((S,aa),⟨#[110,111]⟩)) (B_ (qg bl.1) λbk=>some ((bl.1,aa),bk))) (cond ((ar.length:Int)==0) (cond (v5.toList==(⟨#[109,105,114,114,111,114]⟩:ByteArray).toList) (B_ (Jw L.1) λbH=>cond (!bH.2) (some ((S,aa),⟨#[110,111]⟩)) (B_ (qg bH.1) λbF=>some ((bH.1,aa),bF))) (cond (v5.toList==(⟨#[110,111,114,109,97,108]⟩:ByteArray).toList) (B_ (EF L.1) λbK=>cond (!bK.2) (some ((S,aa),⟨#[110,111]⟩)) (B_ (qg bK.1) λc1=>some ((bK.1,aa),c1))) (cond (v5.toList==(⟨#[100,117,97,108]⟩:ByteArray).toList) (B_ (EJ L.1) λdH=>cond (!dH.2) (some ((S,aa),⟨#[110,111]⟩)) (B_ (qg dH.1) λdF=>some ((dH.1,aa),dF))) (cond (v5.toList==(⟨#[115,117,109]⟩:ByteArray).toList) (B_ (JC L.1 L.2) λek=>cond (!ek.2) (some ((S,aa),⟨#[110,111]⟩)) (B_ (qg ek.1) λdK=>some ((ek.1,aa),dK))) (cond (v5.toList==(⟨#[107,101,101,112]⟩:ByteArray).toList) (B_ (pw L.1) λeT=>some ((S,eT),⟨#[111,107]⟩)) (cond (v5.toList==(⟨#[115,119,97,112]⟩:ByteArray).toList) (some ((aa,S),⟨#[111,107]⟩)) (cond (v5.toList==(⟨#[115,104,111,119]⟩:ByteArray).toList) (B_ (qg L.1) λfj=>some ((S,aa),fj)) (cond (v5.toList==(⟨#[100,101,115,99,114,105,98,101]⟩:ByteArray).toList) (B_ (Po L.1) λdY=>some ((S,aa),dY)) (cond (v5.toList==(⟨#[101,109,112,116,121]⟩:ByteArray).toList) (B_ (Pw L.1) λeZ=>B_ (lz eZ) λhQ=>some ((S,aa),hQ)) (cond (v5.toList==(⟨#[119,105,100,116,104]⟩:ByteArray).toList) (B_ (sz L.1) λie=>B_ (lz ie) λig=>some ((S,aa),ig)) (cond (v5.toList==(⟨#[100,105,114,101,99,116,105,111,110,115]⟩:ByteArray).toList) (B_ (Bz L.1) λjD=>B_ (ES jD) λl2=>B_ (tM l2 ⟨#[45]⟩) λly=>some ((S,aa),ly)) (cond (v5.toList==(⟨#[99,111,114,110,101,114,115]⟩:ByteArray).toList) (B_ (Pz L.1) λih=>some ((S,aa),ih)) (cond (v5.toList==(⟨#[109,105,120,101,100]⟩:ByteArray).toList) (B_ (ET L.1 L.2) λkv=>B_ (lz kv) λkw=>some ((S,aa),kw)) (cond (v5.toList==(⟨#[115,97,109,101]⟩:ByteArray).toList) (B_ (PB L.1 L.2) λjO=>cond jO (some ((S,aa),⟨#[121,101,115]⟩)) (some ((S,aa),⟨#[110,111]⟩))) (cond (v5.toList==(⟨#[116,119,101,108,118,101]⟩:ByteArray).toList) (B_ (EU L.1) λwu=>B_ (lz wu) λu3=>some ((S,aa),u3)) (some ((S,aa),⟨#[119,104,97,116]⟩))))))))))))))))) (cond ((ar.length:Int)==1) (B_ (idx ar 0) λu4=>B_ (wz u4) λnF=>B_ (idx ar 0) λrm=>B_ (u7 rm) λvb=>B_ (cond (v5.toList==(⟨#[101,120,97,109,112,108,101]⟩:ByteArray).toList) (some nF.2) (some false)) λER=>cond ER (B_ (PC nF.1) λJK=>cond (!JK.2) (some ((S,aa),⟨#[110,111]⟩)) (B_ (qg JK.1) λXg=>some ((JK.1,aa),Xg))) (B_ (cond (v5.toList==(⟨#[100,105,108,97,116,101]⟩:ByteArray).toList) (some nF.2) (some false)) λJL=>cond JL (B_ (PD L.1 nF.1) λJM=>cond (!JM.2) (some ((S,aa),⟨#[110,111]⟩)) (B_ (qg JM.1) λJN=>some ((JM.1,aa),JN))) (B_ (cond (v5.toList==(⟨#[115,104,101,97,114]⟩:ByteArray).toList) (some nF.2) (some false)) λXh=>cond Xh (B_ (JU ([[1,nF.1],[0,1]],[0,0]) L.1) λPq=>cond (!Pq.2) (some ((S,aa),⟨#[110,111]⟩)) (B_ (qg Pq.1) λPr=>some ((Pq.1,aa),Pr))) (B_ (cond (v5.toList==(⟨#[109,111,118,101]⟩:ByteArray).toList) (some vb.2) (some false)) λas5=>cond as5 (B_ (JU ([[1,0],[0,1]],vb.1) L.1) λXy=>cond (!Xy.2) (some ((S,aa),⟨#[110,111]⟩)) (B_ (qg Xy.1) λas6=>some ((Xy.1,aa),as6))) (B_ (cond (v5.toList==(⟨#[97,116]⟩:ByteArray).toList) (some nF.2) (some false)) λas7=>cond as7 (B_ (yt L.1 nF.1) λas8=>B_ (lz as8) λas9=>some ((S,aa),as9)) (B_ (cond (v5.toList==(⟨#[112,108,97,99,101]⟩:ByteArray).toList) (some vb.2) (some false)) λata=>cond ata (B_ (Bu L.1 vb.1) λatb=>B_ (lz atb) λatc=>some ((S,aa),atc)) (B_ (cond (v5.toList==(⟨#[108,97,121,101,114,115]⟩:ByteArray).toList) (some vb.2) (some false)) λatd=>cond atd (B_ (PM L.1 vb.1) λate=>B_ (sv ate) λatf=>B_ (tM atf ⟨#[110,111]⟩) λatg=>some ((S,aa),atg)) (B_ (cond (v5.toList==(⟨#[99,111,117,110,116]⟩:ByteArray).toList) (some true) (some (v5.toList==(⟨#[118,101,114,116,105,99,101,115]⟩:ByteArray).toList))) λath=>cond ath (B_ (idx ar 0) λati=>B_ (PP ati) λKe=>cond (!Ke.2) (some ((S,aa),⟨#[110,111]⟩)) (cond (v5.toList==(⟨#[99,111,117,110,116]⟩:ByteArray).toList) (B_ (PS (Ke.1.1,Ke.1.2)) λatj=>B_ (lz atj) λatk=>some ((S,aa),atk)) (B_ (J9 (Ke.1.1,Ke.1.2)) λE3=>B_ (aY (E2 E3) (([],[]),((S,aa),([],0)))) λBF=>B_ (tH BF.2.2 ⟨#[32]⟩) λXz=>B_ (tM Xz ⟨#[45]⟩) λXA=>some ((BF.2.1.1,BF.2.1.2),XA)))) (some ((S,aa),⟨#[119,104,97,116]⟩)))))))))) (cond ((ar.length:Int)==2) (B_ (idx ar 0) λatl=>B_ (wz atl) λagZ=>B_ (idx ar 0) λatm=>B_ (u7 atm) λKf=>B_ (idx ar 1) λatn=>B_ (u7 atn) λBG=>B_ (cond (v5.toList==(⟨#[115,112,108,105,116]⟩:ByteArray).toList) (cond Kf.2 (some BG.2) (some false)) (cond (v5.toList==(⟨#[116,117,114,110,115]⟩:ByteArray).toList) (cond Kf.2 (some BG.2) (some false)) (some false))) λato=>cond ato (B_ (yu (Kf.1,BG.1)) λatp=>cond (!atp) (some ((S,aa),⟨#[110,111]⟩)) (cond (v5.toList==(⟨#[115,112,108,105,116]⟩:ByteArray).toList) (B_ (EZ (Kf.1,BG.1)) λatq=>B_ (ES atq) λatr=>some ((S,aa),atr)) (B_ (P4 (Kf.1,BG.1)) λats=>B_ (sv ats) λatt=>B_ (tM att ⟨#[45]⟩) λatu=>some ((S,aa),atu)))) (B_ (cond (v5.toList==(⟨#[119,97,121,115]⟩:ByteArray).toList) (cond agZ.2 (some BG.2) (some false)) (some false)) λatv=>cond atv (B_ (P7 BG.1 agZ.1) λatw=>B_ (lz atw) λatx=>some ((S,aa),atx)) (some ((S,aa),⟨#[119,104,97,116]⟩)))) (some ((S,aa),⟨#[119,104,97,116]⟩)))))
def ag0:a8:=⟨9,[.d false (.prod eX eX),jq],[.a [.o true 65 bG,.o true 65 bG],hF],λx=>yy x.1 x.2⟩
noncomputable def ag1:cW:=⟨Tryz.prog,nB,[WJ],[],[⟨4,[],[],[(2,false)],0⟩],[],[],[]⟩
def XB:nh:=⟨36,false,oD ag1 Tryz.f36⟩
def aty:dJ Tryz.prog XB.f/\lr False Tryz.prog XB:=M1 (N:=ag1) pu ⟨afE,trivial⟩ func36 (by kernel_rfl)
def atz:bn False ag0:=wi [] [(3,[0,3,4,1,2,5,6]),(5,[48]),(47,[206]),(49,[220]),(51,[236]),(53,[257]),(55,[277]),(57,[289]),(59,[301]),(61,[314]),(78,[377]),(85,[408])] [Es,Jj,Jk,WF,WM,WZ,W5,W6,WJ,af5,agf,Jr,Pk,agh,agi,Xn,agk,agl,ago,agp,Jl,OR,agr,BB,agA,Pc,W3,agC,EA,agE,agI,agR,agS,JI,Xx,agV,agX] [cG 69 [(4,.b 26 [.o true 65 bG,.o true 65 bG]),(6,.b 26 [.o true 65 bG,.o true 65 bG]),(17,l1 9),(340,a0)] 3 [(4,.b 26 [.o true 65 bG,.o true 65 bG]),(6,.b 26 [.o true 65 bG,.o true 65 bG]),(17,l1 9)]] [cw 1 0,cw 3 0,⟨25,[],[],[(6,false)],0⟩,⟨27,[],[],[(6,false)],0⟩,⟨29,[],[],[(6,false)],0⟩,⟨31,[],[],[(6,false)],0⟩,⟨33,[],[],[(6,false)],0⟩,⟨35,[],[],[(6,false)],0⟩,⟨37,[],[],[(6,false)],0⟩,⟨43,[],[],[(6,false)],0⟩,⟨56,[],[],[(6,false)],0⟩,⟨58,[],[],[(6,false)],0⟩,⟨60,[],[],[(6,false)],0⟩,⟨66,[],[],[(6,false),(15,false)],0⟩,⟨73,[],[],[(6,false)],0⟩,⟨83,[],[],[(6,false),(26,false)],0⟩,⟨84,[],[],[(6,false),(26,false)],0⟩,⟨86,[],[],[(6,false)],0⟩] [XB] ⟨Ji,OP,OQ,afC,afG,afQ,afV,afW,afE,asb,asm,OU,Xb,asn,aso,agj,asp,asq,ast,asu,Wz,WC,asw,asy,asF,W7,afS,asH,Js,asK,asN,asX,asY,Pl,agU,as0,as2,trivial⟩ ⟨aty,trivial⟩
def P8(L:List Int)(ax:Int):Option Int:=cond (d_ (W_ i64 (ax-(L.length:Int))<0)) (some (-1)) (some (W_ i64 (ax-(L.length:Int))))
def ag2:a8:=⟨179,[dq,eD],[a0],λx=>P8 x.1 x.2⟩
def atA{af:Prop}:bn af ag2:=bo [] [] [] trivial
def Qa(L:ap)(S:Int×Int):Option (Int×Int⊕Int⊕Int):=cond (d_ (S.2<(L.length:Int))) (B_ (idx L S.2) λaa=>B_ (P8 aa S.1) λak=>cond (d_ (ak<0)) (some (.inr (.inr (-1)))) (some (.inl (ak,W_ i64 (S.2+1))))) (some (.inr (.inl S.1)))
def Kg(L:ap)(ax:Int):Option Int:=cond (d_ (W_ i64 (ax-(L.length:Int))<0)) (some (-1)) (B_ (aY (Qa L) (W_ i64 (ax-(L.length:Int)),0)) λar=>match ar with|.inl v5=>some v5|.inr aR=>some aR)
def ag3:a8:=⟨89,[cm,eD],[a0],λx=>Kg x.1 x.2⟩
def atB{af:Prop}:bn af ag3:=bo [ag2] [⟨5,[(1,a0),(5,a0)],some (0,[(1,a0)]),some [(4,a0)],false,none⟩] [] ⟨atA,trivial⟩
def Qb(L:ap×ap)(ax:Int):Option Int:=B_ (Kg L.1 ax) λS=>cond (d_ (S<0)) (some (-1)) (B_ (Kg L.2 S) λaa=>cond (d_ (aa<0)) (some (-1)) (some aa))
def ag4:a8:=⟨22,[.d false (.prod eX eX),eD],[a0],λx=>Qb x.1 x.2⟩
def atC{af:Prop}:bn af ag4:=bo [ag3] [] [] ⟨atB,trivial⟩
def Qc(L:List Int)(aa:List Int×Int):Option (List Int×Int⊕List Int):=cond (d_ (aa.2<(L.length:Int))) (B_ (idx L aa.2) λak=>B_ (bE aa.1.length aa.2) λ_=>B_ (bE aa.1.length ((aa.2.toNat:Nat):Int)) λ_=>some (.inl (aa.1.set aa.2.toNat ak,W_ i64 (aa.2+1)))) (some (.inr aa.1))
def Qd(L:List Int):Option (List Int):=B_ (ov 8 (L.length:Int) 0) λS=>B_ (aY (Qc L) (S,0)) λar=>some ar
def ag5:a8:=⟨180,[dq],[cR 3],λx=>Qd x⟩
def atD{af:Prop}:bn af ag5:=bo [] [cG 3 [(3,cR 3),(4,a0)] 0 [(3,cR 3)]] [] trivial
def Qe(L:ap)(aa:ap×Int):Option (ap×Int⊕ap):=cond (d_ (aa.2<(L.length:Int))) (B_ (idx L aa.2) λak=>B_ (Qd ak) λar=>B_ (bE aa.1.length aa.2) λ_=>B_ (bE aa.1.length ((aa.2.toNat:Nat):Int)) λ_=>some (.inl (aa.1.set aa.2.toNat ar,W_ i64 (aa.2+1)))) (some (.inr aa.1))
def E4(L:ap):Option ap:=B_ (ov 24 (L.length:Int) []) λS=>B_ (aY (Qe L) (S,0)) λv5=>some v5
def ag6:a8:=⟨90,[cm],[cx 65],λx=>E4 x⟩
def atE{af:Prop}:bn af ag6:=bo [ag5] [cG 3 [(3,cx 65),(4,a0)] 0 [(3,cx 65)]] [] ⟨atD,trivial⟩
def BH(L:ap×ap):Option (ap×ap):=B_ (E4 L.1) λS=>B_ (E4 L.2) λaa=>some (S,aa)
def ag7:a8:=⟨23,[.d false (.prod eX eX)],[.a [.o true 65 bG,.o true 65 bG]],λx=>BH x⟩
def atF{af:Prop}:bn af ag7:=bo [ag6] [] [] ⟨atE,trivial⟩
def XC(L:List Int)(ax:List Int)(S:Int):Option (Int⊕Unit⊕Bool):=cond (d_ (S<(L.length:Int))) (B_ (idx L S) λaa=>B_ (idx ax S) λak=>cond (aa !=ak) (some (.inr (.inr false))) (some (.inl (W_ i64 (S+1))))) (some (.inr (.inl ())))
def Qf(L:List Int)(ax:List Int):Option Bool:=cond ((L.length:Int)!=(ax.length:Int)) (some false) (B_ (aY (XC L ax) 0) λar=>match ar with|.inl v5=>some true|.inr aR=>some aR)
def ag8:a8:=⟨181,[dq,dq],[ci],λx=>Qf x.1 x.2⟩
def atG{af:Prop}:bn af ag8:=bo [] [⟨4,[(5,a0)],some (0,[]),some [(4,ci)],false,none⟩] [cw 6 0] trivial
def XD(L:ap)(ax:ap)(S:Int):Option (Int⊕Unit⊕Bool):=cond (d_ (S<(L.length:Int))) (B_ (idx L S) λaa=>B_ (idx ax S) λak=>B_ (Qf aa ak) λar=>cond (!ar) (some (.inr (.inr false))) (some (.inl (W_ i64 (S+1))))) (some (.inr (.inl ())))
def Kh(L:ap)(ax:ap):Option Bool:=cond ((L.length:Int)!=(ax.length:Int)) (some false) (B_ (aY (XD L ax) 0) λv5=>match v5 with|.inl aR=>some true|.inr aP=>some aP)
def ag9:a8:=⟨91,[cm,cm],[ci],λx=>Kh x.1 x.2⟩
def atH{af:Prop}:bn af ag9:=bo [ag8] [⟨4,[(5,a0)],some (0,[]),some [(4,ci)],false,none⟩] [cw 6 0] ⟨atG,trivial⟩
def BI(L:ap×ap)(ax:ap×ap):Option Bool:=B_ (Kh L.1 ax.1) λS=>cond (!S) (some false) (B_ (Kh L.2 ax.2) λaa=>cond (!aa) (some false) (some true))
def aha:a8:=⟨24,[.d false (.prod eX eX),.d false (.prod eX eX)],[ci],λx=>BI x.1 x.2⟩
def atI{af:Prop}:bn af aha:=bo [ag9] [] [] ⟨atH,trivial⟩
def Qg(s:Int×Int×List Int):Option (Int×Int×List Int⊕Int×List Int):=cond (decide (s.2.1<(s.2.2.length:Int))) ((bE s.2.2.length s.2.1).bind λ_=>s.2.2[s.2.1.toNat]?.bind λS=>(tx bM S 0 s.1).bind λaa=>some (.inl (i64.wrap (s.1+1),i64.wrap (s.2.1+1),s.2.2.set s.2.1.toNat aa))) (some (.inr (s.1,s.2.2)))
def XE(L:List Int)(ax:Int):Option (List Int×Int):=(aY Qg (ax,0,L)).bind λak=>some (ak.2,ak.1)
def yz:nv:=⟨182,bM,λr n=>XE r n⟩
noncomputable def ahb:cW:=⟨Tryz.prog,nB,[],[],[],[],[],[]⟩
def atJ(r:List Int)(n:Int):HQ ahb [] bM ⟨0,1,5,0⟩ Tryz.f182 r n=yz.F r n:=by kernel_rfl
def atK:dJ Tryz.prog yz.f/\∀e,oa Tryz.prog (yz.mark e):=adl (N:=ahb) (aS:=[]) (U:=⟨0,1,5,0⟩) trivial func182 (by kernel_rfl) atJ
def Qh(s:Int×Int×ap):Option (Int×Int×ap⊕Int×ap):=cond (decide (s.2.1<(s.2.2.length:Int))) ((bE s.2.2.length s.2.1).bind λ_=>if s.2.1.toNat<s.2.2.length/\0<a3.wid bG then s.2.2[s.2.1.toNat]?.bind λS=>(qa yz bG S 0 s.1).bind λaa=>some (.inl (aa.2,i64.wrap (s.2.1+1),s.2.2.set s.2.1.toNat aa.1))else none) (some (.inr (s.1,s.2.2)))
def wL(L:ap)(ax:Int):Option (ap×Int):=(aY Qh (ax,0,L)).bind λak=>some (ak.2,ak.1)
def tP:nv:=⟨92,bG,λr n=>wL r n⟩
noncomputable def ahc:cW:=⟨Tryz.prog,nB,[],[],[],[],[],[]⟩
def atL(r:ap)(n:Int):HQ ahc [yz] bG ⟨0,1,5,0⟩ Tryz.f92 r n=tP.F r n:=by kernel_rfl
def ahd:dJ Tryz.prog tP.f/\∀e,oa Tryz.prog (tP.mark e):=adl (N:=ahc) (aS:=[yz]) (U:=⟨0,1,5,0⟩) ⟨atK,trivial⟩ func92 (by kernel_rfl) atL
def XF:k7:=⟨25,some (2,0),65,tP.t,tP.F,some ⟨2,1,65,tP.t,tP.F⟩⟩
def atM:dJ Tryz.prog XF.f/\oa Tryz.prog XF:=by refine⟨⟨Tryz.f25,_,func25,by kernel_rfl,rfl⟩,?_⟩;intro r n cs gi cS w Z v bs ff g7 a6;show∀ae h2 dv,_;intro ae h2 dv U1 aa mZ zE atN Ve v1;obtain⟨al,rfl,am,au,qK⟩:=a6;obtain⟨hy,aF,_,Ki,_⟩:=v1;(have bz:al=[v,aa]:=by match al,am with|[a,b],_=>(have:hy=[a,b]:=by simpa using aF.symm);subst this;simp at au Ki;rw[au,Ki]);subst bz;have dD:=qK v (by simp);have dX:=qK aa (by simp);have rW:∀w0:World,cC (λ_=>False) w0 true 65 tP.t r v bs->Calls Tryz.prog 92 #[v,.int .i64 n] w0 λex w'=>ex=.returned (.int .i64 gi)/\i1 w0 w' bs/\cC (λ_=>False) w' true 65 tP.t cs v bs:=λw0 W=>ahd.2 65 r n cs gi cS w0 v v bs W g7 rfl;have qQ:∀w0:World,cC (λ_=>False) w0 true 65 tP.t ae aa mZ->Calls Tryz.prog 92 #[aa,.int .i64 gi] w0 λex w'=>ex=.returned (.int .i64 dv)/\i1 w0 w' mZ/\cC (λ_=>False) w' true 65 tP.t h2 aa mZ:=λw0 W=>ahd.2 65 ae gi h2 dv U1 w0 aa aa mZ W atN rfl;go_enter func25,Tryz.ntmps25;go_wp2_with (first|(go_at_call 92;with_reducible refine(rW _ ?_).mono ?_;rotate_left;rintro e cf ⟨rfl,HJ,gY⟩;have qG:=apf ff HJ)|(go_at_call 92;with_reducible refine(qQ _ ?_).mono ?_;rotate_left;rintro e bU ⟨rfl,DA,eh⟩)|go_in);{go_ret;exact⟨rfl,cf,aph HJ,gY,DA,eh⟩};{exact apg zE Ve HJ};exact adm ff _
def Qi(L:List Int)(S:Int×Int):Option (Int×Int⊕Int⊕Int):=cond (d_ (S.2<(L.length:Int))) (B_ (idx L S.2) λaa=>cond (aa !=S.1) (some (.inr (.inr (-1)))) (some (.inl (W_ i64 (S.1+1),W_ i64 (S.2+1))))) (some (.inr (.inl S.1)))
def Qj(L:List Int)(ax:Int):Option Int:=B_ (aY (Qi L) (ax,0)) λak=>match ak with|.inl ar=>some ar|.inr v5=>some v5
def ahe:a8:=⟨183,[dq,eD],[a0],λx=>Qj x.1 x.2⟩
def atO{af:Prop}:bn af ahe:=bo [] [⟨2,[(1,a0),(5,a0)],some (0,[(1,a0)]),some [(4,a0)],false,none⟩] [] trivial
def Qk(L:ap)(S:Int×Int):Option (Int×Int⊕Int⊕Int):=cond (d_ (S.2<(L.length:Int))) (B_ (idx L S.2) λaa=>B_ (Qj aa S.1) λak=>cond (d_ (ak<0)) (some (.inr (.inr (-1)))) (some (.inl (ak,W_ i64 (S.2+1))))) (some (.inr (.inl S.1)))
def Kj(L:ap)(ax:Int):Option Int:=B_ (aY (Qk L) (ax,0)) λar=>match ar with|.inl v5=>some v5|.inr aR=>some aR
def ahf:a8:=⟨93,[cm,eD],[a0],λx=>Kj x.1 x.2⟩
def atP{af:Prop}:bn af ahf:=bo [ahe] [⟨2,[(1,a0),(5,a0)],some (0,[(1,a0)]),some [(4,a0)],false,none⟩] [] ⟨atO,trivial⟩
def Kk(L:ap×ap)(ax:Int):Option Int:=B_ (Kj L.1 ax) λS=>cond (d_ (S<0)) (some (-1)) (B_ (Kj L.2 S) λaa=>cond (d_ (aa<0)) (some (-1)) (some aa))
def ahg:a8:=⟨26,[.d false (.prod eX eX),eD],[a0],λx=>Kk x.1 x.2⟩
def atQ{af:Prop}:bn af ahg:=bo [ahf] [] [] ⟨atP,trivial⟩
def XG(L:ap×ap)(ax:ByteArray):Option Bool:=cond (d_ ((ax.size:Int)>1048576)) (some true) (B_ (Qb L 1048576) λS=>cond (d_ (S<0)) (some true) (B_ (BH L) λaa=>B_ (Bg (aa.1,aa.2) ax) λak=>B_ (BH L) λar=>B_ (yy (ar.1,ar.2) ax) λv5=>B_ (BI (v5.1.1,v5.1.2) (ak.1.1,ak.1.2)) λaR=>cond (!aR) (some false) (cond (! v5.2.toList==ak.2.toList) (some false) (B_ (BH L) λaP=>B_ (BI (ar.1,ar.2) (aP.1,aP.2)) λbl=>cond (!bl) (some false) (B_ (wL ar.1 1) λbk=>B_ (wL ar.2 bk.2) λbH=>cond (d_ (bH.2<0)) (some false) (B_ (BI (v5.1.1,v5.1.2) (ak.1.1,ak.1.2)) λbF=>cond (!bF) (some false) (cond (! v5.2.toList==ak.2.toList) (some false) (B_ (wL v5.1.1 1) λbK=>B_ (wL v5.1.2 bK.2) λc1=>B_ (Kk (bK.1,c1.1) 1) λdH=>cond (d_ (dH<0)) (some false) (cond (dH !=c1.2) (some false) (B_ (BH L) λdF=>B_ (yy (dF.1,dF.2) ax) λek=>B_ (BI (ek.1.1,ek.1.2) (ak.1.1,ak.1.2)) λdK=>cond (!dK) (some false) (cond (! ek.2.toList==ak.2.toList) (some false) (B_ (Kk (bK.1,c1.1) 1) λeT=>cond (d_ (eT<0)) (some false) (cond (eT !=c1.2) (some false) (some true))))))))))))))
def E5:a8:=⟨5,[.d false (.prod eX eX),jq],[ci],λx=>XG x.1 x.2⟩
noncomputable def ahh:cW:=⟨Tryz.prog,nB,[ag4,ag7,afx,ag0,aha,ahg],[],[cw 12 1],[],[],[]⟩
def ahi:List k7:=[XF]
def atR(x:iw.den E5.ps):Nc ahh ahi 1 Tryz.f5 E5.ps E5.rs x=E5.F x:=by kernel_rfl
def atS:dJ Tryz.prog E5.f/\ga False Tryz.prog E5:=apy (N:=ahh) (bg:=ahi) 1 pu ⟨atC,atF,arO,atz,atI,atQ,trivial⟩ ⟨atM,trivial⟩ func5 (by kernel_rfl) (by kernel_rfl) atR
end
end Go.Proofs.YtmljnmmdahlfdaaGreatDoor
