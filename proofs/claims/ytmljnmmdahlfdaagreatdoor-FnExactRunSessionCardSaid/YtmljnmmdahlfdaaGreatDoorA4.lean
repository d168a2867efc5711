/-
  A part of the proof. No condition.
-/
import Derived.Test.YtmljnmmdahlfdaaGreatDoorA3
set_option linter.all false
namespace Go.Proofs.YtmljnmmdahlfdaaGreatDoor
noncomputable section
open Go Go.RowKit Go.Proofs.YtmljnmmdahlfdaaGreatDoor.Eng
set_option maxRecDepth 100000
open Go.IntKind (i64 u8)
open Go.IntKind renaming wrap->W_
open Option renaming bind->B_
open Decidable renaming decide->d_
open Tryz
abbrev ao:=List (List Int)
abbrev bK:a6:=.int .i64
abbrev bF:a6:=.list bK
abbrev fN:a6:=.list bF
abbrev aZ:cH:=.l (.d false bK)
abbrev cc:cH:=.l (.d false .bool)
abbrev gM:cH:=.l (.d false .str)
abbrev vt:cH:=.l (.d false bF)
abbrev G3:cH:=.l (.d false fN)
abbrev cQ(n:TypeId):cH:=.l (.o true n bK)
abbrev cs(n:TypeId):cH:=.l (.o true n bF)
abbrev jb(n:TypeId):cH:=.l (.o true n .str)
abbrev eA:cN:=.d false bK
abbrev aoG:cN:=.d false .bool
abbrev iH:cN:=.d false .str
abbrev dy:cN:=.d false bF
abbrev cm:cN:=.d false fN
abbrev cu(i:Nat)(s:List (Nat×cH))(n:Nat)(b:List (Nat×cH)):pT:=⟨i,s,some (n,b),none,false,none⟩
abbrev cp(i k:Nat):wi:=⟨i,[],[],[],k⟩
def oX:List (TypeId×a6):=[(3,bK),(5,.int .u8),(9,.str),(24,fN),(65,bF),(86,.prod bF bK),(132,.prod bF bK)]
def pA:Tryz.prog.follows .mixedOrders=true:=by kernel_rfl
abbrev bl(ae:Prop)(e:a4):Prop:=e3 Tryz.prog e.f/\gf ae Tryz.prog e
def Mn(O:List a4)(A:List pT)(bC:List wi)(I:List mK)(V:List Nat)(aS:List (Nat×List Nat))(e:a4):Bool×(i0.den e.ps->Option (uA (fB e.ps) (gq.den e.rs) (nj.den e.ps))):=match Tryz.prog.funcs[e.f]? with|some fn=>(tN fn e.ps,λx=>wy ⟨Tryz.prog,oX,O,A,bC,I,V,aS⟩ fn e.ps e.rs x)|none=>(false,e.F)
def vu(V:List Nat)(aS:List (Nat×List Nat))(O:List a4)(A:List pT)(bC:List wi)(I:List mK){ae:Prop}{e:a4}(c:sx ae Tryz.prog O)(hi:vj ae Tryz.prog I)(k:Mn O A bC I V aS e=(true,e.F):=by kernel_rfl):bl ae e:=by unfold Mn at k;cases aG:Tryz.prog.funcs[e.f]? with|none=>rw[aG]at k;exact Bool.noConfusion (congrArg Prod.fst k)|some fn=>rw[aG]at k;exact Gz (N:=⟨Tryz.prog,oX,O,A,bC,I,V,aS⟩) pA c aG (congrArg Prod.fst k) (λx=>congrFun (congrArg Prod.snd k) x) hi
def Ul(O:List a4)(A:List pT)(bC:List wi)(I:List mK){ae:Prop}{e:a4}(c:sx ae Tryz.prog O)(hi:vj ae Tryz.prog I)(k:Mn O A bC I .nil .nil e=(true,e.F):=by kernel_rfl):bl ae e:=vu [] [] O A bC I c hi k
def bn(O:List a4)(A:List pT)(bC:List wi){ae:Prop}{e:a4}(c:sx ae Tryz.prog O)(k:Mn O A bC .nil .nil .nil e=(true,e.F):=by kernel_rfl):bl ae e:=vu [] [] O A bC [] c trivial k
def CN(L:Int):Option ByteArray:=cond (L==1) (some ⟨#[48,44,48,32,49,44,48,32,48,44,49]⟩) (cond (L==2) (some ⟨#[48,44,48,32,50,44,48,32,48,44,50]⟩) (cond (L==3) (some ⟨#[45,49,44,45,49,32,49,44,45,49,32,49,44,49,32,45,49,44,49]⟩) (cond (L==4) (some ⟨#[48,44,48,32,51,44,48,32,49,44,50]⟩) (cond (L==5) (some ⟨#[45,49,44,45,49,32,50,44,45,49,32,45,49,44,50]⟩) (cond (L==6) (some ⟨#[48,44,48,32,53,44,50,32,51,44,52]⟩) (some ⟨#[]⟩))))))
def Um:a4:=⟨178,[eA],[gM],λx=>CN x⟩
def acj{ae:Prop}:bl ae Um:=bn [] [] [] trivial
def vw(L:ByteArray)(ay:Int)(S:List ByteArray×Int×Int):Option (List ByteArray×Int×Int⊕List ByteArray):=cond (d_ (S.2.2<=(L.size:Int))) (cond (S.2.2==(L.size:Int)) (B_ (uy L S.2.1 S.2.2) λaa=>B_ (bH 16 S.1 [aa]) λak=>some (.inl (ak,(W_ i64 (S.2.2+1),W_ i64 (S.2.2+1))))) (B_ (idx L.data.toList S.2.2) λaq=>cond ((aq.toNat:Int)==ay) (B_ (uy L S.2.1 S.2.2) λv5=>B_ (bH 16 S.1 [v5]) λaM=>some (.inl (aM,(W_ i64 (S.2.2+1),W_ i64 (S.2.2+1))))) (some (.inl (S.1,(S.2.1,W_ i64 (S.2.2+1))))))) (some (.inr S.1))
def vx(L:ByteArray)(ay:Int):Option (List ByteArray):=B_ (aV (vw L ay) ([],(0,0))) λaN=>some aN
def CO:a4:=⟨30,[iH,.d false (.int .u8)],[jb 9],λx=>vx x.1 x.2⟩
def G4{ae:Prop}:bl ae CO:=bn [] [cu 4 [(5,jb 9),(6,aZ),(7,aZ)] 0 [(5,jb 9)]] [] trivial
def CP(S:Int×ByteArray):Option (Int×ByteArray⊕ByteArray):=cond (S.1 !=0) (B_ (fT .i64 S.1 10) λaa=>cond (d_ (aa<0)) (B_ (fl (no [W_ u8 (W_ i64 (48+W_ i64 (0-aa)))]) S.2) λak=>B_ (fA .i64 S.1 10) λaq=>some (.inl (aq,ak))) (B_ (fl (no [W_ u8 (W_ i64 (48+aa))]) S.2) λv5=>B_ (fA .i64 S.1 10) λaM=>some (.inl (aM,v5)))) (some (.inr S.2))
def iT(L:Int):Option ByteArray:=cond (L==0) (some ⟨#[48]⟩) (B_ (aV CP (L,⟨#[]⟩)) λaN=>cond (d_ (L<0)) (B_ (fl ⟨#[45]⟩ aN) λbg=>some bg) (some aN))
def tS:a4:=⟨218,[eA],[gM],λx=>iT x⟩
def vy{ae:Prop}:bl ae tS:=bn [] [cu 5 [(0,aZ),(4,gM)] 0 [(4,gM)]] [] trivial
def tT(aa:ByteArray)(ak:Int×Int):Option (Int×Int⊕Int⊕Int×Bool):=cond (d_ (ak.2<(aa.size:Int))) (B_ (idx aa.data.toList ak.2) λaq=>cond (d_ ((aq.toNat:Int)<48)) (some (.inr (.inr (0,false)))) (B_ (idx aa.data.toList ak.2) λv5=>cond (d_ ((v5.toNat:Int)>57)) (some (.inr (.inr (0,false)))) (B_ (idx aa.data.toList ak.2) λaM=>some (.inl (W_ i64 (W_ i64 (10*ak.1)+W_ i64 (W_ u8 ((aM.toNat:Int)-48))),W_ i64 (ak.2+1)))))) (some (.inr (.inl ak.1)))
def acl(L:ByteArray)(bL:Int×Int):Option (Int×Int⊕Int⊕Int×Bool):=cond (d_ (bL.2<(L.size:Int))) (B_ (idx L.data.toList bL.2) λcZ=>cond (d_ ((cZ.toNat:Int)<48)) (some (.inr (.inr (0,false)))) (B_ (idx L.data.toList bL.2) λdF=>cond (d_ ((dF.toNat:Int)>57)) (some (.inr (.inr (0,false)))) (B_ (idx L.data.toList bL.2) λdA=>some (.inl (W_ i64 (W_ i64 (10*bL.1)+W_ i64 (W_ u8 ((dA.toNat:Int)-48))),W_ i64 (bL.2+1)))))) (some (.inr (.inl bL.1)))
def acm(L:ByteArray)(eJ:Int×Int):Option (Int×Int⊕Int⊕Int×Bool):=cond (d_ (eJ.2<(L.size:Int))) (B_ (idx L.data.toList eJ.2) λhk=>cond (d_ ((hk.toNat:Int)<48)) (some (.inr (.inr (0,false)))) (B_ (idx L.data.toList eJ.2) λhQ=>cond (d_ ((hQ.toNat:Int)>57)) (some (.inr (.inr (0,false)))) (B_ (idx L.data.toList eJ.2) λhR=>some (.inl (W_ i64 (W_ i64 (10*eJ.1)+W_ i64 (W_ u8 ((hR.toNat:Int)-48))),W_ i64 (eJ.2+1)))))) (some (.inr (.inl eJ.1)))
def Mo(L:ByteArray)(ay:Int):Option (Int×Bool):=cond (d_ ((L.size:Int)>0)) (B_ (idx L.data.toList 0) λS=>cond ((S.toNat:Int)==45) (B_ (uy L 1 (L.size:Int)) λaa=>cond (d_ ((aa.size:Int)<1)) (some (0,false)) (cond (d_ ((aa.size:Int)>ay)) (some (0,false)) (B_ (aV (tT aa) (0,0)) λaN=>match aN with|.inl bg=>cond ((S.toNat:Int)==45) (B_ (iT (W_ i64 (0-bg))) λbG=>cond (! bG.toList==L.toList) (some (0,false)) (some (W_ i64 (0-bg),true))) (B_ (iT bg) λbE=>cond (! bE.toList==L.toList) (some (0,false)) (some (bg,true)))|.inr bh=>some (bh.1,bh.2)))) (cond (d_ ((L.size:Int)<1)) (some (0,false)) (cond (d_ ((L.size:Int)>ay)) (some (0,false)) (B_ (aV (acl L) (0,0)) λep=>match ep with|.inl dG=>cond ((S.toNat:Int)==45) (B_ (iT (W_ i64 (0-dG))) λe7=>cond (! e7.toList==L.toList) (some (0,false)) (some (W_ i64 (0-dG),true))) (B_ (iT dG) λdO=>cond (! dO.toList==L.toList) (some (0,false)) (some (dG,true)))|.inr eS=>some (eS.1,eS.2))))) (cond (d_ ((L.size:Int)<1)) (some (0,false)) (cond (d_ ((L.size:Int)>ay)) (some (0,false)) (B_ (aV (acm L) (0,0)) λjq=>match jq with|.inl lv=>B_ (iT lv) λhS=>cond (! hS.toList==L.toList) (some (0,false)) (some (lv,true))|.inr k3=>some (k3.1,k3.2))))
def acn:a4:=⟨216,[iH,eA],[aZ,cc],λx=>Mo x.1 x.2⟩
def aoH{ae:Prop}:bl ae acn:=bn [tS] [⟨9,[(8,aZ),(9,aZ)],some (0,[(8,aZ)]),some [(4,aZ),(5,cc)],false,none⟩] [] ⟨vy,trivial⟩
def sE(L:ByteArray):Option (Int×Bool):=B_ (Mo L 12) λS=>some (S.1,S.2)
def CQ:a4:=⟨157,[iH],[aZ,cc],λx=>sE x⟩
def G5{ae:Prop}:bl ae CQ:=bn [acn] [] [] ⟨aoH,trivial⟩
def m0(L:Int)(ay:Int)(du:Int):Option Bool:=cond (d_ (L>=ay)) (some (d_ (L<=du))) (some false)
def qp:a4:=⟨79,[eA,eA,eA],[cc],λx=>m0 x.1 x.2.1 x.2.2⟩
def rn{ae:Prop}:bl ae qp:=bn [] [] [] trivial
def Un(L:List Int)(ay:Int)(S:Int):Option (Int⊕Unit⊕Bool):=cond (d_ (S<(L.length:Int))) (B_ (idx L S) λaa=>B_ (m0 aa (W_ i64 (0-ay)) ay) λak=>cond (!ak) (some (.inr (.inr false))) (some (.inl (W_ i64 (S+1))))) (some (.inr (.inl ())))
def pB(L:List Int)(ay:Int):Option Bool:=B_ (aV (Un L ay) 0) λaq=>match aq with|.inl v5=>some true|.inr aM=>some aM
def xp:a4:=⟨166,[dy,eA],[cc],λx=>pB x.1 x.2⟩
def zX{ae:Prop}:bl ae xp:=bn [qp] [⟨2,[(5,aZ)],some (0,[]),some [(4,cc)],false,none⟩] [] ⟨rn,trivial⟩
def zY(L:List Int):Option Bool:=B_ (m0 (L.length:Int) 1 3) λS=>cond S (B_ (pB L 1000) λaa=>some aa) (some false)
def G6:a4:=⟨214,[dy],[cc],λx=>zY x⟩
def Mp{ae:Prop}:bl ae G6:=bn [qp,xp] [] [] ⟨rn,zX,trivial⟩
def aco(S:List ByteArray)(aa:List Int×Int):Option (List Int×Int⊕List Int⊕List Int×Bool):=cond (d_ (aa.2<(S.length:Int))) (B_ (idx S aa.2) λak=>B_ (sE ak) λaq=>cond (!aq.2) (some (.inr (.inr ([],false)))) (B_ (bH 8 aa.1 [aq.1]) λv5=>some (.inl (v5,W_ i64 (aa.2+1))))) (some (.inr (.inl aa.1)))
def rp(L:ByteArray):Option (List Int×Bool):=B_ (vx L 44) λS=>B_ (aV (aco S) ([],0)) λaM=>match aM with|.inl aN=>B_ (zY aN) λbh=>cond (!bh) (some ([],false)) (some (aN,true))|.inr bg=>some (bg.1,bg.2)
def CR:a4:=⟨155,[iH],[cQ 3,cc],λx=>rp x⟩
def G7{ae:Prop}:bl ae CR:=bn [CO,CQ,G6] [⟨4,[(4,cQ 3),(6,aZ)],some (0,[(4,cQ 3)]),some [(2,cQ 3),(3,cc)],false,none⟩] [] ⟨G4,G5,Mp,trivial⟩
def Mq(L:ao)(S:Int):Option (Int⊕Unit⊕Bool):=cond (d_ (S<(L.length:Int))) (B_ (idx L S) λaa=>cond ((aa.length:Int)!=2) (some (.inr (.inr false))) (B_ (idx L S) λak=>B_ (pB ak 50) λaq=>cond (!aq) (some (.inr (.inr false))) (some (.inl (W_ i64 (S+1)))))) (some (.inr (.inl ())))
def G8(L:ao):Option Bool:=B_ (aV (Mq L) 0) λv5=>match v5 with|.inl aM=>some true|.inr aN=>some aN
def Uo:a4:=⟨80,[cm],[cc],λx=>G8 x⟩
def acp{ae:Prop}:bl ae Uo:=bn [xp] [⟨2,[(3,aZ)],some (0,[]),some [(2,cc)],false,none⟩] [] ⟨zX,trivial⟩
def Mr(L:List Int)(ay:List Int)(S:Int):Option (Int⊕Unit⊕Bool):=cond (d_ (S<(L.length:Int))) (cond (d_ (S<(ay.length:Int))) (B_ (idx L S) λaa=>B_ (idx ay S) λak=>cond (aa !=ak) (B_ (idx L S) λaq=>B_ (idx ay S) λv5=>some (.inr (.inr (d_ (aq<v5))))) (some (.inl (W_ i64 (S+1))))) (some (.inr (.inl ())))) (some (.inr (.inl ())))
def G9(L:List Int)(ay:List Int):Option Bool:=B_ (aV (Mr L ay) 0) λaM=>match aM with|.inl aN=>some false|.inr bg=>some bg
def Up:a4:=⟨176,[dy,dy],[cc],λx=>G9 x.1 x.2⟩
def acq{ae:Prop}:bl ae Up:=bn [] [⟨2,[(5,aZ)],some (0,[]),some [(4,cc)],false,none⟩] [cp 4 0,cp 5 0] trivial
def Ms(L:List Int)(ay:List Int)(S:Int):Option (Int⊕Unit⊕Bool):=cond (d_ (S<(L.length:Int))) (B_ (idx L S) λaa=>B_ (idx ay S) λak=>cond (aa !=ak) (some (.inr (.inr false))) (some (.inl (W_ i64 (S+1))))) (some (.inr (.inl ())))
def tU(L:List Int)(ay:List Int):Option Bool:=cond ((L.length:Int)!=(ay.length:Int)) (some false) (B_ (aV (Ms L ay) 0) λaq=>match aq with|.inl v5=>some true|.inr aM=>some aM)
def CS:a4:=⟨163,[dy,dy],[cc],λx=>tU x.1 x.2⟩
def Ha{ae:Prop}:bl ae CS:=bn [] [⟨4,[(5,aZ)],some (0,[]),some [(4,cc)],false,none⟩] [cp 6 0] trivial
def zZ(ay:List Int)(S:ao×Int):Option (ao×Int⊕ao×Int):=cond (d_ (S.2>0)) (B_ (bD S.1.length (W_ i64 (S.2-1))) λ_=>B_ (idx S.1 (((W_ i64 (S.2-(1:Int))).toNat:Nat):Int)) λaa=>B_ (G9 ay aa) λak=>cond ak (some (.inl (S.1,W_ i64 (S.2-1)))) (some (.inr (S.1,S.2)))) (some (.inr (S.1,S.2)))
def xq(L:ao)(ay:List Int):Option ao:=B_ (aV (zZ ay) (L,(L.length:Int))) λaq=>cond (d_ (aq.2>0)) (B_ (bD aq.1.length (W_ i64 (aq.2-1))) λ_=>B_ (idx aq.1 (((W_ i64 (aq.2-(1:Int))).toNat:Nat):Int)) λv5=>B_ (tU v5 ay) λaM=>cond aM (some aq.1) (B_ (eZ aq.1 aq.2 (aq.1.length:Int)) λaN=>B_ (eZ aq.1 (aq.2.toNat:Int) ((aq.1.length:Int).toNat:Int)) λbg=>B_ (bH 24 [] bg) λbh=>B_ (eZ aq.1 0 aq.2) λbG=>B_ (bH 8 [] ay) λbE=>B_ (bH 24 bG [bE]) λbL=>B_ (bH 24 bL bh) λcZ=>some cZ)) (B_ (eZ aq.1 aq.2 (aq.1.length:Int)) λdF=>B_ (eZ aq.1 (aq.2.toNat:Int) ((aq.1.length:Int).toNat:Int)) λdA=>B_ (bH 24 [] dA) λep=>B_ (eZ aq.1 0 aq.2) λdG=>B_ (bH 8 [] ay) λeS=>B_ (bH 24 dG [eS]) λe7=>B_ (bH 24 e7 ep) λdO=>some dO)
def Uq:a4:=⟨167,[.mv false 65 bF,dy],[.l (.o false 65 bF)],λx=>xq x.1 x.2⟩
def acr{ae:Prop}:bl ae Uq:=vu [35] [(7,[0,1,2,4,8,3,5,6,7,9,10])] [Up,CS] [cu 2 [(0,.l (.o false 65 bF)),(5,aZ)] 0 [(0,.l (.o false 65 bF)),(5,aZ)]] [cp 7 0] [] ⟨acq,Ha,trivial⟩ trivial
def Hb(L:List Int)(ay:List Int)(S:List Int×Int):Option (List Int×Int⊕List Int):=cond (d_ (S.2<(L.length:Int))) (B_ (idx L S.2) λaa=>B_ (idx ay S.2) λak=>B_ (bH 8 S.1 [W_ i64 (aa-ak)]) λaq=>some (.inl (aq,W_ i64 (S.2+1)))) (some (.inr S.1))
def l5(L:List Int)(ay:List Int):Option (List Int):=B_ (aV (Hb L ay) ([],0)) λv5=>some v5
def z0:a4:=⟨170,[dy,dy],[cQ 3],λx=>l5 x.1 x.2⟩
def CT{ae:Prop}:bl ae z0:=bn [] [cu 3 [(5,cQ 3),(6,aZ)] 0 [(5,cQ 3)]] [cp 5 0] trivial
def m1(L:List Int)(ay:List Int):Option Int:=B_ (idx L 0) λS=>B_ (idx ay 1) λaa=>B_ (idx L 1) λak=>B_ (idx ay 0) λaq=>some (W_ i64 (W_ i64 (S*aa)-W_ i64 (ak*aq)))
def vz:a4:=⟨177,[dy,dy],[aZ],λx=>m1 x.1 x.2⟩
def xt{ae:Prop}:bl ae vz:=bn [] [] [cp 1 0] trivial
def z1(L:List Int)(ay:List Int)(du:List Int):Option Int:=B_ (l5 ay L) λS=>B_ (l5 du ay) λaa=>B_ (m1 S aa) λak=>some ak
def Mt:a4:=⟨237,[dy,dy,dy],[aZ],λx=>z1 x.1 x.2.1 x.2.2⟩
def Ur{ae:Prop}:bl ae Mt:=bn [z0,vz] [] [] ⟨CT,xt,trivial⟩
def z2(S:ao×Int)(aq:List Int)(v5:ao):Option (ao⊕ao):=cond (d_ ((v5.length:Int)>=W_ i64 ((S.1.length:Int)+2))) (B_ (bD v5.length (W_ i64 ((v5.length:Int)-2))) λ_=>B_ (idx v5 (((W_ i64 ((v5.length:Int)-(2:Int))).toNat:Nat):Int)) λaM=>B_ (bD v5.length (W_ i64 ((v5.length:Int)-1))) λ_=>B_ (idx v5 (((W_ i64 ((v5.length:Int)-(1:Int))).toNat:Nat):Int)) λaN=>B_ (z1 aM aN aq) λbg=>cond (d_ (bg<=0)) (B_ (eZ v5 0 (W_ i64 ((v5.length:Int)-1))) λbh=>some (.inl bh)) (some (.inr v5))) (some (.inr v5))
def aoI(S:ao×Int)(ak:List Int)(bL:ao):Option (ao⊕ao):=cond (d_ ((bL.length:Int)>=W_ i64 ((S.1.length:Int)+2))) (B_ (bD bL.length (W_ i64 ((bL.length:Int)-2))) λ_=>B_ (idx bL (((W_ i64 ((bL.length:Int)-(2:Int))).toNat:Nat):Int)) λcZ=>B_ (bD bL.length (W_ i64 ((bL.length:Int)-1))) λ_=>B_ (idx bL (((W_ i64 ((bL.length:Int)-(1:Int))).toNat:Nat):Int)) λdF=>B_ (z1 cZ dF ak) λdA=>cond (d_ (dA<=0)) (B_ (eZ bL 0 (W_ i64 ((bL.length:Int)-1))) λep=>some (.inl ep)) (some (.inr bL))) (some (.inr bL))
def Hc(L:ao)(S:ao×Int)(aa:ao×Int):Option (ao×Int⊕ao):=cond (d_ (aa.2<(L.length:Int))) (B_ (idx L aa.2) λak=>cond (S.2==1) (B_ (idx L (W_ i64 (W_ i64 ((L.length:Int)-1)-aa.2))) λaq=>B_ (aV (z2 S aq) aa.1) λbG=>B_ (bH 24 bG [aq]) λbE=>some (.inl (bE,W_ i64 (aa.2+1)))) (B_ (aV (aoI S ak) aa.1) λdG=>B_ (bH 24 dG [ak]) λeS=>some (.inl (eS,W_ i64 (aa.2+1))))) (some (.inr aa.1))
def Hd(L:ao)(S:ao×Int):Option (ao×Int⊕ao):=cond (d_ (S.2<2)) (B_ (aV (Hc L S) (S.1,0)) λe7=>B_ (eZ e7 0 (W_ i64 ((e7.length:Int)-1))) λdO=>some (.inl (dO,W_ i64 (S.2+1)))) (some (.inr S.1))
def He(L:ao):Option ao:=B_ (aV (Hd L) ([],0)) λeJ=>some eJ
def Us:a4:=⟨168,[cm],[.l (.o false 65 bF)],λx=>He x⟩
def acs{ae:Prop}:bl ae Us:=bn [Mt] [cu 3 [(3,.l (.o false 65 bF)),(4,aZ)] 0 [(3,.l (.o false 65 bF))],cu 7 [(3,.l (.o false 65 bF)),(6,aZ)] 2 [(3,.l (.o false 65 bF))],cu 12 [(3,.l (.o false 65 bF))] 4 [(3,.l (.o false 65 bF))]] [cp 12 0] ⟨Ur,trivial⟩
def z3(L:ao)(S:ao×Int):Option (ao×Int⊕ao):=cond (d_ (S.2<(L.length:Int))) (B_ (idx L S.2) λaa=>B_ (bH 8 [] aa) λak=>B_ (bH 24 S.1 [ak]) λaq=>some (.inl (aq,W_ i64 (S.2+1)))) (some (.inr S.1))
def nL(L:ao):Option ao:=B_ (aV (z3 L) ([],0)) λv5=>some v5
def CU:a4:=⟨74,[cm],[cs 65],λx=>nL x⟩
def Hf{ae:Prop}:bl ae CU:=bn [] [cu 3 [(3,cs 65),(4,aZ)] 0 [(3,cs 65)]] [] trivial
def Hg(L:ao)(aa:ao×Int):Option (ao×Int⊕ao):=cond (d_ (aa.2<(L.length:Int))) (B_ (idx L aa.2) λak=>B_ (xq aa.1 ak) λaq=>some (.inl (aq,W_ i64 (aa.2+1)))) (some (.inr aa.1))
def tV(L:ao):Option (ao×Bool):=cond (d_ ((L.length:Int)>200)) (some ([],false)) (B_ (G8 L) λS=>cond (!S) (some ([],false)) (B_ (aV (Hg L) ([],0)) λv5=>cond (d_ ((v5.length:Int)<3)) (some ([],false)) (B_ (He v5) λaM=>cond (d_ ((aM.length:Int)<3)) (some ([],false)) (cond (d_ ((aM.length:Int)>12)) (some ([],false)) (B_ (nL aM) λaN=>some (aN,true))))))
def z4:a4:=⟨81,[cm],[cs 65,cc],λx=>tV x⟩
def CV{ae:Prop}:bl ae z4:=bn [Uo,Uq,Us,CU] [cu 5 [(4,.l (.o false 65 bF)),(5,aZ)] 0 [(4,.l (.o false 65 bF))]] [] ⟨acp,acr,acs,Hf,trivial⟩
def Mu(L:ao)(ay:ao)(S:Int):Option (Int⊕Unit⊕Bool):=cond (d_ (S<(L.length:Int))) (B_ (idx L S) λaa=>B_ (idx ay S) λak=>B_ (tU aa ak) λaq=>cond (!aq) (some (.inr (.inr false))) (some (.inl (W_ i64 (S+1))))) (some (.inr (.inl ())))
def Hh(L:ao)(ay:ao):Option Bool:=cond ((L.length:Int)!=(ay.length:Int)) (some false) (B_ (aV (Mu L ay) 0) λv5=>match v5 with|.inl aM=>some true|.inr aN=>some aN)
def Ut:a4:=⟨77,[cm,cm],[cc],λx=>Hh x.1 x.2⟩
def act{ae:Prop}:bl ae Ut:=bn [CS] [⟨4,[(5,aZ)],some (0,[]),some [(4,cc)],false,none⟩] [cp 6 0] ⟨Ha,trivial⟩
def j8(L:ao):Option Bool:=B_ (m0 (L.length:Int) 3 12) λS=>cond (!S) (some false) (B_ (G8 L) λaa=>cond (!aa) (some false) (B_ (tV L) λak=>cond ak.2 (B_ (Hh ak.1 L) λaq=>some aq) (some false)))
def lw:a4:=⟨13,[cm],[cc],λx=>j8 x⟩
def l6{ae:Prop}:bl ae lw:=bn [qp,Uo,z4,Ut] [] [] ⟨rn,acp,CV,act,trivial⟩
def xv(S:List ByteArray)(aa:ao×Int):Option (ao×Int⊕ao⊕ao×Bool):=cond (d_ (aa.2<(S.length:Int))) (B_ (idx S aa.2) λak=>B_ (rp ak) λaq=>cond (!aq.2) (some (.inr (.inr ([],false)))) (cond (d_ (aa.2>=12)) (some (.inr (.inr ([],false)))) (B_ (bH 24 aa.1 [aq.1]) λv5=>some (.inl (v5,W_ i64 (aa.2+1)))))) (some (.inr (.inl aa.1)))
def xw(L:ByteArray):Option (ao×Bool):=B_ (vx L 32) λS=>B_ (aV (xv S) ([],0)) λaM=>match aM with|.inl aN=>B_ (j8 aN) λbh=>cond (!bh) (some ([],false)) (some (aN,true))|.inr bg=>some (bg.1,bg.2)
def Mv:a4:=⟨153,[iH],[cs 65,cc],λx=>xw x⟩
def Uu{ae:Prop}:bl ae Mv:=bn [CO,CR,lw] [⟨4,[(4,cs 65),(6,aZ)],some (0,[(4,cs 65)]),some [(2,cs 65),(3,cc)],false,none⟩] [] ⟨G4,G7,l6,trivial⟩
def Mw:Option (ao×ao):=B_ (CN 1) λS=>B_ (xw S) λaa=>B_ (nL aa.1) λak=>some (aa.1,ak)
def acu:a4:=⟨87,[],[.a [.o true 65 bF,.o true 65 bF]],λx=>Mw⟩
def aoJ{ae:Prop}:bl ae acu:=bn [Um,Mv,CU] [] [] ⟨acj,Uu,Hf,trivial⟩
def Hi(L:List ByteArray)(ay:ByteArray)(S:List Int×Int):Option (List Int×Int⊕List Int):=cond (d_ (S.2<(L.length:Int))) (cond (d_ (S.2>0)) (B_ (bH 1 S.1 (nn ay)) λaa=>B_ (idx L S.2) λak=>B_ (bH 1 aa (nn ak)) λaq=>some (.inl (aq,W_ i64 (S.2+1)))) (B_ (idx L S.2) λv5=>B_ (bH 1 S.1 (nn v5)) λaM=>some (.inl (aM,W_ i64 (S.2+1))))) (some (.inr S.1))
def sF(L:List ByteArray)(ay:ByteArray):Option ByteArray:=B_ (aV (Hi L ay) ([],0)) λaN=>some (no aN)
def CW:a4:=⟨96,[.d false (.list .str),iH],[gM],λx=>sF x.1 x.2⟩
def Hj{ae:Prop}:bl ae CW:=bn [] [cu 3 [(5,.l (.o true 5 (.int .u8))),(6,aZ)] 0 [(5,.l (.o true 5 (.int .u8)))]] [] trivial
def Mx(L:List Int)(S:List ByteArray×Int):Option (List ByteArray×Int⊕List ByteArray):=cond (d_ (S.2<(L.length:Int))) (B_ (idx L S.2) λaa=>B_ (iT aa) λak=>B_ (bH 16 S.1 [ak]) λaq=>some (.inl (aq,W_ i64 (S.2+1)))) (some (.inr S.1))
def sG(L:List Int):Option ByteArray:=B_ (aV (Mx L) ([],0)) λv5=>B_ (sF v5 ⟨#[44]⟩) λaM=>some aM
def z6:a4:=⟨159,[dy],[gM],λx=>sG x⟩
def CX{ae:Prop}:bl ae z6:=bn [tS,CW] [cu 3 [(3,jb 9),(4,aZ)] 0 [(3,jb 9)]] [] ⟨vy,Hj,trivial⟩
def Hk(L:ao)(aa:List ByteArray×Int):Option (List ByteArray×Int⊕List ByteArray):=cond (d_ (aa.2<(L.length:Int))) (B_ (idx L aa.2) λak=>B_ (sG ak) λaq=>B_ (bH 16 aa.1 [aq]) λv5=>some (.inl (v5,W_ i64 (aa.2+1)))) (some (.inr aa.1))
def z7(L:ao):Option ByteArray:=B_ (j8 L) λS=>cond (!S) (some ⟨#[]⟩) (B_ (aV (Hk L) ([],0)) λaM=>B_ (sF aM ⟨#[32]⟩) λaN=>some aN)
def Uv:a4:=⟨75,[cm],[gM],λx=>z7 x⟩
def acv{ae:Prop}:bl ae Uv:=bn [lw,z6,CW] [cu 5 [(3,jb 9),(4,aZ)] 0 [(3,jb 9)]] [] ⟨l6,CX,Hj,trivial⟩
def CY(L:ao×ao):Option (ao×ao):=B_ (nL L.1) λS=>B_ (nL L.2) λaa=>some (S,aa)
def acw:a4:=⟨72,[.d false (.prod fN fN)],[.a [.o true 65 bF,.o true 65 bF]],λx=>CY x⟩
def aoK{ae:Prop}:bl ae acw:=bn [CU] [] [cp 1 0] ⟨Hf,trivial⟩
def My(L:List Int)(ay:Int)(S:List Int×Int):Option (List Int×Int⊕List Int):=cond (d_ (S.2<(L.length:Int))) (B_ (idx L S.2) λaa=>B_ (bH 8 S.1 [W_ i64 (aa*ay)]) λak=>some (.inl (ak,W_ i64 (S.2+1)))) (some (.inr S.1))
def j9(L:List Int)(ay:Int):Option (List Int):=B_ (aV (My L ay) ([],0)) λaq=>some aq
def CZ:a4:=⟨173,[dy,eA],[cQ 3],λx=>j9 x.1 x.2⟩
def Hl{ae:Prop}:bl ae CZ:=bn [] [cu 3 [(5,cQ 3),(6,aZ)] 0 [(5,cQ 3)]] [] trivial
def Mz(L:ao)(aa:ao×Int):Option (ao×Int⊕ao):=cond (d_ (aa.2<(L.length:Int))) (B_ (idx L aa.2) λak=>B_ (j9 ak (-1)) λaq=>B_ (bH 24 aa.1 [aq]) λv5=>some (.inl (v5,W_ i64 (aa.2+1)))) (some (.inr aa.1))
def Hm(L:ao):Option (ao×Bool):=B_ (j8 L) λS=>cond (!S) (some ([],false)) (B_ (aV (Mz L) ([],0)) λaM=>B_ (tV aM) λaN=>some (aN.1,aN.2))
def Uw:a4:=⟨211,[cm],[cs 65,cc],λx=>Hm x⟩
def acx{ae:Prop}:bl ae Uw:=bn [lw,CZ,z4] [cu 5 [(4,cs 65),(5,aZ)] 0 [(4,cs 65)]] [] ⟨l6,Hl,CV,trivial⟩
def rq(L:Int)(ay:Int):Option Int:=cond (d_ (L>ay)) (some L) (some ay)
def Hn:a4:=⟨239,[eA,eA],[aZ],λx=>rq x.1 x.2⟩
def MA{ae:Prop}:bl ae Hn:=bn [] [] [] trivial
def C0(L:Int):Option Int:=B_ (rq L (W_ i64 (0-L))) λS=>some S
def Ux:a4:=⟨322,[eA],[aZ],λx=>C0 x⟩
def acz{ae:Prop}:bl ae Ux:=bn [Hn] [] [] ⟨MA,trivial⟩
def MB(ak:Int×Int):Option (Int×Int⊕Int):=cond (ak.2 !=0) (B_ (fT .i64 ak.1 ak.2) λaq=>some (.inl (ak.2,aq))) (some (.inr ak.1))
def C1(L:Int)(ay:Int):Option Int:=B_ (C0 L) λS=>B_ (C0 ay) λaa=>B_ (aV MB (S,aa)) λv5=>some v5
def Uy:a4:=⟨292,[eA,eA],[aZ],λx=>C1 x.1 x.2⟩
def acA{ae:Prop}:bl ae Uy:=bn [Ux] [cu 3 [(0,aZ),(1,aZ)] 0 [(0,aZ)]] [] ⟨acz,trivial⟩
def MC(L:List Int)(S:Int×Int):Option (Int×Int⊕Int):=cond (d_ (S.2<(L.length:Int))) (B_ (idx L S.2) λaa=>B_ (C1 S.1 aa) λak=>some (.inl (ak,W_ i64 (S.2+1)))) (some (.inr S.1))
def vA(L:List Int):Option Int:=B_ (aV (MC L) (0,0)) λaq=>some aq
def C2:a4:=⟨238,[dy],[aZ],λx=>vA x⟩
def Ho{ae:Prop}:bl ae C2:=bn [Uy] [cu 3 [(3,aZ),(4,aZ)] 0 [(3,aZ)]] [] ⟨acA,trivial⟩
def MD(L:List Int)(S:Int)(aa:List Int×Int):Option (List Int×Int⊕List Int):=cond (d_ (aa.2<(L.length:Int))) (B_ (idx L aa.2) λak=>B_ (rq S 1) λaq=>B_ (fA .i64 ak aq) λv5=>B_ (bH 8 aa.1 [v5]) λaM=>some (.inl (aM,W_ i64 (aa.2+1)))) (some (.inr aa.1))
def C3(L:List Int):Option (List Int):=B_ (vA L) λS=>B_ (aV (MD L S) ([],0)) λaN=>some aN
def Uz:a4:=⟨169,[dy],[cQ 3],λx=>C3 x⟩
def acD{ae:Prop}:bl ae Uz:=bn [C2,Hn] [cu 4 [(4,cQ 3),(5,aZ)] 0 [(4,cQ 3)]] [cp 6 0] ⟨Ho,MA,trivial⟩
def C4(L:List Int)(S:Int)(aa:Int)(ak:Int):Option (Int⊕Unit⊕List Int):=cond (d_ (ak<4)) (B_ (idx [[aa,S],[aa,W_ i64 (0-S)],[S,aa],[W_ i64 (0-S),aa]] ak) λaq=>B_ (m1 L aq) λv5=>cond (v5==1) (B_ (idx [[aa,S],[aa,W_ i64 (0-S)],[S,aa],[W_ i64 (0-S),aa]] ak) λaM=>some (.inr (.inr aM))) (some (.inl (W_ i64 (ak+1))))) (some (.inr (.inl ())))
def C5(L:List Int)(S:Int)(aa:Int):Option (Int⊕Unit⊕List Int):=cond (d_ (aa<=S)) (B_ (aV (C4 L S aa) 0) λaN=>match aN with|.inl bg=>some (.inl (W_ i64 (aa+1)))|.inr bh=>some (.inr (.inr bh))) (some (.inr (.inl ())))
def ME(L:List Int)(S:Int):Option (Int⊕List Int):=B_ (aV (C5 L S) (W_ i64 (0-S))) λbG=>match bG with|.inl bE=>some (.inl (W_ i64 (S+1)))|.inr bL=>some (.inr bL)
def z8(L:List Int):Option (List Int):=B_ (aV (ME L) 0) λcZ=>some cZ
def UA:a4:=⟨171,[dy],[vt],λx=>z8 x⟩
def acE{ae:Prop}:bl ae UA:=bn [vz] [⟨3,[(3,aZ)],none,some [(2,vt)],false,none⟩,⟨4,[(4,aZ)],some (2,[]),some [(2,vt)],false,none⟩,⟨8,[(6,aZ)],some (4,[]),some [(2,vt)],false,none⟩] [] ⟨xt,trivial⟩
def z9(L:List Int)(ay:List Int)(S:Int×Int):Option (Int×Int⊕Int):=cond (d_ (S.2<(L.length:Int))) (cond (d_ (S.2<(ay.length:Int))) (B_ (idx L S.2) λaa=>B_ (idx ay S.2) λak=>some (.inl (W_ i64 (S.1+W_ i64 (aa*ak)),W_ i64 (S.2+1)))) (some (.inr S.1))) (some (.inr S.1))
def m2(L:List Int)(ay:List Int):Option Int:=B_ (aV (z9 L ay) (0,0)) λaq=>some aq
def C6:a4:=⟨240,[dy,dy],[aZ],λx=>m2 x.1 x.2⟩
def Hp{ae:Prop}:bl ae C6:=bn [] [cu 3 [(5,aZ),(6,aZ)] 0 [(5,aZ)]] [cp 5 0] trivial
def MF(L:ao)(ay:List Int)(S:List Int×Int):Option (List Int×Int⊕List Int):=cond (d_ (S.2<(L.length:Int))) (B_ (idx L S.2) λaa=>B_ (m2 aa ay) λak=>B_ (bH 8 S.1 [ak]) λaq=>some (.inl (aq,W_ i64 (S.2+1)))) (some (.inr S.1))
def qq(L:ao)(ay:List Int):Option (List Int):=B_ (aV (MF L ay) ([],0)) λv5=>some v5
def UB:a4:=⟨172,[cm,dy],[cQ 3],λx=>qq x.1 x.2⟩
def acF{ae:Prop}:bl ae UB:=bn [C6] [cu 3 [(5,cQ 3),(6,aZ)] 0 [(5,cQ 3)]] [] ⟨Hp,trivial⟩
def xx(L:Int)(ay:Int):Option Int:=B_ (fA .i64 L ay) λS=>B_ (fT .i64 L ay) λaa=>cond (d_ (aa<0)) (some (W_ i64 (S-1))) (some S)
def UC:a4:=⟨174,[eA,eA],[aZ],λx=>xx x.1 x.2⟩
def acG{ae:Prop}:bl ae UC:=bn [] [] [] trivial
def Hq(L:List Int)(ay:List Int)(du:List Int):Option (ao×List Int):=B_ (l5 ay L) λS=>B_ (C3 S) λaa=>B_ (z8 aa) λak=>B_ (idx ak 1) λaq=>B_ (idx ak 0) λv5=>B_ (idx aa 1) λaM=>B_ (idx aa 0) λaN=>B_ (l5 du L) λbg=>B_ (qq [[aq,W_ i64 (0-v5)],[W_ i64 (0-aM),aN]] bg) λbh=>B_ (bD bh.length 1) λ_=>B_ (idx bh (((1:Int).toNat:Nat):Int)) λbG=>cond (d_ (bG<0)) (B_ (bD ([[aq,W_ i64 (0-v5)],[W_ i64 (0-aM),aN]]:ao).length 1) λ_=>B_ (idx [[aq,W_ i64 (0-v5)],[W_ i64 (0-aM),aN]] (((1:Int).toNat:Nat):Int)) λbE=>B_ (j9 bE (-1)) λbL=>B_ (bD ([[aq,W_ i64 (0-v5)],[W_ i64 (0-aM),aN]]:ao).length 1) λ_=>B_ (bD ([[aq,W_ i64 (0-v5)],[W_ i64 (0-aM),aN]]:ao).length (((1:Int).toNat:Nat):Int)) λ_=>B_ (bD bh.length 1) λ_=>B_ (idx bh (((1:Int).toNat:Nat):Int)) λcZ=>B_ (bD bh.length 1) λ_=>B_ (bD bh.length (((1:Int).toNat:Nat):Int)) λ_=>B_ (bD (([[aq,W_ i64 (0-v5)],[W_ i64 (0-aM),aN]]:ao).set (1:Int).toNat bL).length 0) λ_=>B_ (idx (([[aq,W_ i64 (0-v5)],[W_ i64 (0-aM),aN]]:ao).set (1:Int).toNat bL) (((0:Int).toNat:Nat):Int)) λdF=>B_ (bD (([[aq,W_ i64 (0-v5)],[W_ i64 (0-aM),aN]]:ao).set (1:Int).toNat bL).length 1) λ_=>B_ (idx (([[aq,W_ i64 (0-v5)],[W_ i64 (0-aM),aN]]:ao).set (1:Int).toNat bL) (((1:Int).toNat:Nat):Int)) λdA=>B_ (bD (bh.set (1:Int).toNat (W_ i64 (0-cZ))).length 0) λ_=>B_ (idx (bh.set (1:Int).toNat (W_ i64 (0-cZ))) (((0:Int).toNat:Nat):Int)) λep=>B_ (bD (bh.set (1:Int).toNat (W_ i64 (0-cZ))).length 1) λ_=>B_ (idx (bh.set (1:Int).toNat (W_ i64 (0-cZ))) (((1:Int).toNat:Nat):Int)) λdG=>B_ (xx ep dG) λeS=>B_ (j9 dA eS) λe7=>B_ (l5 dF e7) λdO=>B_ (bD (([[aq,W_ i64 (0-v5)],[W_ i64 (0-aM),aN]]:ao).set (1:Int).toNat bL).length 0) λ_=>B_ (bD (([[aq,W_ i64 (0-v5)],[W_ i64 (0-aM),aN]]:ao).set (1:Int).toNat bL).length (((0:Int).toNat:Nat):Int)) λ_=>B_ (qq ((([[aq,W_ i64 (0-v5)],[W_ i64 (0-aM),aN]]:ao).set (1:Int).toNat bL).set (0:Int).toNat dO) L) λeJ=>B_ (j9 eJ (-1)) λhk=>some ((([[aq,W_ i64 (0-v5)],[W_ i64 (0-aM),aN]]:ao).set (1:Int).toNat bL).set (0:Int).toNat dO,hk)) (B_ (bD ([[aq,W_ i64 (0-v5)],[W_ i64 (0-aM),aN]]:ao).length 0) λ_=>B_ (idx [[aq,W_ i64 (0-v5)],[W_ i64 (0-aM),aN]] (((0:Int).toNat:Nat):Int)) λhQ=>B_ (bD ([[aq,W_ i64 (0-v5)],[W_ i64 (0-aM),aN]]:ao).length 1) λ_=>B_ (idx [[aq,W_ i64 (0-v5)],[W_ i64 (0-aM),aN]] (((1:Int).toNat:Nat):Int)) λhR=>B_ (bD bh.length 0) λ_=>B_ (idx bh (((0:Int).toNat:Nat):Int)) λjq=>B_ (bD bh.length 1) λ_=>B_ (idx bh (((1:Int).toNat:Nat):Int)) λlv=>B_ (xx jq lv) λk3=>B_ (j9 hR k3) λhS=>B_ (l5 hQ hS) λka=>B_ (bD ([[aq,W_ i64 (0-v5)],[W_ i64 (0-aM),aN]]:ao).length 0) λ_=>B_ (bD ([[aq,W_ i64 (0-v5)],[W_ i64 (0-aM),aN]]:ao).length (((0:Int).toNat:Nat):Int)) λ_=>B_ (qq (([[aq,W_ i64 (0-v5)],[W_ i64 (0-aM),aN]]:ao).set (0:Int).toNat ka) L) λkb=>B_ (j9 kb (-1)) λjC=>some (([[aq,W_ i64 (0-v5)],[W_ i64 (0-aM),aN]]:ao).set (0:Int).toNat ka,jC))
def acH:a4:=⟨83,[dy,dy,dy],[.a [.o true 65 bF,.o true 3 bK]],λx=>Hq x.1 x.2.1 x.2.2⟩
def aoL{ae:Prop}:bl ae acH:=bn [z0,Uz,UA,UB,CZ,UC] [] [cp 3 0,cp 8 0] ⟨CT,acD,acE,acF,Hl,acG,trivial⟩
def Aa(L:List Int)(ay:List Int)(S:List Int×Int):Option (List Int×Int⊕List Int):=cond (d_ (S.2<(L.length:Int))) (B_ (idx L S.2) λaa=>B_ (idx ay S.2) λak=>B_ (bH 8 S.1 [W_ i64 (aa+ak)]) λaq=>some (.inl (aq,W_ i64 (S.2+1)))) (some (.inr S.1))
def tW(L:List Int)(ay:List Int):Option (List Int):=B_ (aV (Aa L ay) ([],0)) λv5=>some v5
def Hr:a4:=⟨175,[dy,dy],[cQ 3],λx=>tW x.1 x.2⟩
def MG{ae:Prop}:bl ae Hr:=bn [] [cu 3 [(5,cQ 3),(6,aZ)] 0 [(5,cQ 3)]] [cp 5 0] trivial
def vB(L:ao×List Int)(ay:List Int):Option (List Int):=B_ (qq L.1 ay) λS=>B_ (tW S L.2) λaa=>some aa
def UD:a4:=⟨84,[.d false (.prod fN bF),dy],[cQ 3],λx=>vB x.1 x.2⟩
def acI{ae:Prop}:bl ae UD:=bn [UB,Hr] [] [cp 1 0] ⟨acF,MG,trivial⟩
def tX(L:ao)(ay:ao)(S:Int):Option (Int⊕Unit⊕Bool):=cond (d_ (S<(L.length:Int))) (cond (d_ (S<(ay.length:Int))) (B_ (idx L S) λaa=>B_ (idx ay S) λak=>B_ (tU aa ak) λaq=>cond (!aq) (B_ (idx L S) λv5=>B_ (idx ay S) λaM=>B_ (G9 v5 aM) λaN=>some (.inr (.inr aN))) (some (.inl (W_ i64 (S+1))))) (some (.inr (.inl ())))) (some (.inr (.inl ())))
def C7(L:ao)(ay:ao):Option Bool:=B_ (aV (tX L ay) 0) λbg=>match bg with|.inl bh=>some (d_ ((L.length:Int)<(ay.length:Int)))|.inr bG=>some bG
def acJ:a4:=⟨85,[cm,cm],[cc],λx=>C7 x.1 x.2⟩
def aoM{ae:Prop}:bl ae acJ:=bn [CS,Up] [⟨2,[(5,aZ)],some (0,[]),some [(4,cc)],false,none⟩] [cp 4 0,cp 5 0] ⟨Ha,acq,trivial⟩
def Hs(L:ao)(bE:ao×List Int)(bL:ao×Int):Option (ao×Int⊕ao):=cond (d_ (bL.2<(L.length:Int))) (B_ (idx L bL.2) λcZ=>B_ (vB (bE.1,bE.2) cZ) λdF=>B_ (bH 24 bL.1 [dF]) λdA=>some (.inl (dA,W_ i64 (bL.2+1)))) (some (.inr bL.1))
def acK(L:ao)(bh:ao×List Int)(e7:ao×Int):Option (ao×Int⊕ao):=cond (d_ (e7.2<(L.length:Int))) (B_ (idx L e7.2) λdO=>B_ (vB (bh.1,bh.2) dO) λeJ=>B_ (bH 24 e7.1 [eJ]) λhk=>some (.inl (hk,W_ i64 (e7.2+1)))) (some (.inr e7.1))
def Ab(L:ao)(aa:ao×Int)(ak:ao×Int):Option (ao×Int⊕ao⊕ao×Bool):=cond (d_ (ak.2<2)) (B_ (fT .i64 (W_ i64 (aa.2+1)) (L.length:Int)) λaq=>B_ (idx L aq) λv5=>B_ (fT .i64 (W_ i64 (W_ i64 (aa.2+(L.length:Int))-1)) (L.length:Int)) λaM=>B_ (idx L aM) λaN=>B_ (idx L aa.2) λbg=>B_ (Hq bg v5 aN) λbh=>cond (ak.2==1) (B_ (idx L aa.2) λbG=>B_ (Hq bG aN v5) λbE=>B_ (aV (Hs L bE) ([],0)) λep=>B_ (tV ep) λdG=>cond (!dG.2) (some (.inr (.inr ([],false)))) (cond ((ak.1.length:Int)==0) (some (.inl (dG.1,W_ i64 (ak.2+1)))) (B_ (C7 dG.1 ak.1) λeS=>cond eS (some (.inl (dG.1,W_ i64 (ak.2+1)))) (some (.inl (ak.1,W_ i64 (ak.2+1))))))) (B_ (aV (acK L bh) ([],0)) λhQ=>B_ (tV hQ) λhR=>cond (!hR.2) (some (.inr (.inr ([],false)))) (cond ((ak.1.length:Int)==0) (some (.inl (hR.1,W_ i64 (ak.2+1)))) (B_ (C7 hR.1 ak.1) λjq=>cond jq (some (.inl (hR.1,W_ i64 (ak.2+1)))) (some (.inl (ak.1,W_ i64 (ak.2+1)))))))) (some (.inr (.inl ak.1)))
def Ht(L:ao)(aa:ao×Int):Option (ao×Int⊕ao⊕ao×Bool):=cond (d_ (aa.2<(L.length:Int))) (B_ (aV (Ab L aa) (aa.1,0)) λlv=>match lv with|.inl k3=>some (.inl (k3,W_ i64 (aa.2+1)))|.inr hS=>some (.inr (.inr (hS.1,hS.2)))) (some (.inr (.inl aa.1)))
def C8(L:ao):Option (ao×Bool):=B_ (j8 L) λS=>cond (!S) (some ([],false)) (B_ (aV (Ht L) ([],0)) λka=>match ka with|.inl kb=>some (kb,true)|.inr jC=>some (jC.1,jC.2))
def UE:a4:=⟨15,[cm],[G3,cc],λx=>C8 x⟩
def acL{ae:Prop}:bl ae UE:=bn [lw,acH,UD,z4,acJ] [⟨6,[(4,G3),(6,aZ)],some (0,[(4,G3)]),some [(2,cs 65),(3,cc)],false,none⟩,⟨9,[(4,G3),(7,aZ)],some (2,[(4,G3)]),some [(2,cs 65),(3,cc)],false,none⟩,cu 18 [(11,cs 65),(12,aZ)] 4 [(11,cs 65)]] [cp 20 0] ⟨l6,aoL,acI,CV,aoM,trivial⟩
def C9(L:ao)(S:Int×Int):Option (Int×Int⊕Int):=cond (d_ (S.2<(L.length:Int))) (B_ (idx L S.2) λaa=>B_ (fT .i64 (W_ i64 (S.2+1)) (L.length:Int)) λak=>B_ (idx L ak) λaq=>B_ (m1 aa aq) λv5=>some (.inl (W_ i64 (S.1+v5),W_ i64 (S.2+1)))) (some (.inr S.1))
def nM(L:ao):Option Int:=B_ (aV (C9 L) (0,0)) λaM=>some aM
def Ac:a4:=⟨86,[cm],[aZ],λx=>nM x⟩
def Da{ae:Prop}:bl ae Ac:=bn [vz] [cu 3 [(3,aZ),(4,aZ)] 0 [(3,aZ)]] [cp 5 0] ⟨xt,trivial⟩
def MH(L:ao)(ay:Int):Option Int:=B_ (fT .i64 (W_ i64 (ay+1)) (L.length:Int)) λS=>B_ (idx L S) λaa=>B_ (idx L ay) λak=>B_ (l5 aa ak) λaq=>B_ (vA aq) λv5=>some v5
def acM:a4:=⟨324,[cm,eA],[aZ],λx=>MH x.1 x.2⟩
def aoN{ae:Prop}:bl ae acM:=bn [z0,C2] [] [cp 1 0] ⟨CT,Ho,trivial⟩
def MI(L:ao)(aa:Int×Int):Option (Int×Int⊕Int):=cond (d_ (aa.2<(L.length:Int))) (B_ (MH L aa.2) λak=>some (.inl (W_ i64 (aa.1+ak),W_ i64 (aa.2+1)))) (some (.inr aa.1))
def xy(L:ao):Option Int:=B_ (j8 L) λS=>cond (!S) (some (-1)) (B_ (aV (MI L) (0,0)) λaq=>some aq)
def Hu:a4:=⟨271,[cm],[aZ],λx=>xy x⟩
def MJ{ae:Prop}:bl ae Hu:=bn [lw,acM] [cu 5 [(3,aZ),(4,aZ)] 0 [(3,aZ)]] [] ⟨l6,aoN,trivial⟩
def Db(L:ao):Option Int:=B_ (j8 L) λS=>cond (!S) (some (-1)) (B_ (nM L) λaa=>B_ (xy L) λak=>B_ (fA .i64 (W_ i64 (W_ i64 (aa-ak)+2)) 2) λaq=>some aq)
def MK:a4:=⟨272,[cm],[aZ],λx=>Db x⟩
def UF{ae:Prop}:bl ae MK:=bn [lw,Ac,Hu] [] [] ⟨l6,Da,MJ,trivial⟩
def vC(L:ao)(ay:List Int)(S:Int×Int):Option (Int×Int⊕Int⊕Int):=cond (d_ (S.2<(L.length:Int))) (B_ (idx L S.2) λaa=>B_ (fT .i64 (W_ i64 (S.2+1)) (L.length:Int)) λak=>B_ (idx L ak) λaq=>B_ (z1 aa aq ay) λv5=>cond (d_ (v5<0)) (some (.inr (.inr (-1)))) (cond (v5==0) (some (.inl (0,W_ i64 (S.2+1)))) (some (.inl (S.1,W_ i64 (S.2+1)))))) (some (.inr (.inl S.1)))
def tY(L:ao)(ay:List Int):Option Int:=B_ (aV (vC L ay) (1,0)) λaM=>match aM with|.inl aN=>some aN|.inr bg=>some bg
def ML:a4:=⟨285,[cm,dy],[aZ],λx=>tY x.1 x.2⟩
def UG{ae:Prop}:bl ae ML:=bn [Mt] [⟨3,[(5,aZ),(6,aZ)],some (0,[(5,aZ)]),some [(4,aZ)],false,none⟩] [cp 5 0] ⟨Ur,trivial⟩
def Hv(L:ao):Option Bool:=B_ (j8 L) λS=>cond S (B_ (Db L) λaa=>cond (aa==1) (B_ (tY L [0,0]) λak=>some (ak==1)) (some false)) (some false)
def UH:a4:=⟨268,[cm],[cc],λx=>Hv x⟩
def acN{ae:Prop}:bl ae UH:=bn [lw,MK,ML] [] [] ⟨l6,UF,UG,trivial⟩
def MM(L:List Int)(ay:List Int):Option (List Int):=B_ (m1 L ay) λS=>B_ (idx ay 1) λaa=>B_ (idx L 1) λak=>B_ (fA .i64 (W_ i64 (aa-ak)) S) λaq=>B_ (idx L 0) λv5=>B_ (idx ay 0) λaM=>B_ (fA .i64 (W_ i64 (v5-aM)) S) λaN=>some [aq,aN]
def acO:a4:=⟨269,[dy,dy],[cQ 3],λx=>MM x.1 x.2⟩
def aoO{ae:Prop}:bl ae acO:=bn [vz] [] [cp 2 0] ⟨xt,trivial⟩
def MN(L:ao)(aa:ao×Int):Option (ao×Int⊕ao):=cond (d_ (aa.2<(L.length:Int))) (B_ (idx L aa.2) λak=>B_ (fT .i64 (W_ i64 (aa.2+1)) (L.length:Int)) λaq=>B_ (idx L aq) λv5=>B_ (MM ak v5) λaM=>B_ (bH 24 aa.1 [aM]) λaN=>some (.inl (aN,W_ i64 (aa.2+1)))) (some (.inr aa.1))
def Dc(L:ao):Option (ao×Bool):=B_ (Hv L) λS=>cond (!S) (some ([],false)) (B_ (aV (MN L) ([],0)) λbg=>B_ (tV bg) λbh=>cond (!bh.2) (some ([],false)) (some (bh.1,true)))
def UI:a4:=⟨212,[cm],[cs 65,cc],λx=>Dc x⟩
def acP{ae:Prop}:bl ae UI:=bn [UH,acO,z4] [cu 5 [(4,cs 65),(5,aZ)] 0 [(4,cs 65)]] [cp 7 0] ⟨acN,aoO,CV,trivial⟩
def Hw(L:ao)(ay:ao)(ak:ao×Int)(aq:ao×Int):Option (ao×Int⊕ao):=cond (d_ (aq.2<(ay.length:Int))) (B_ (idx L ak.2) λv5=>B_ (idx ay aq.2) λaM=>B_ (tW v5 aM) λaN=>B_ (bH 24 aq.1 [aN]) λbg=>some (.inl (bg,W_ i64 (aq.2+1)))) (some (.inr aq.1))
def MO(L:ao)(ay:ao)(ak:ao×Int):Option (ao×Int⊕ao):=cond (d_ (ak.2<(L.length:Int))) (B_ (aV (Hw L ay ak) (ak.1,0)) λbh=>some (.inl (bh,W_ i64 (ak.2+1)))) (some (.inr ak.1))
def Hx(L:ao)(ay:ao):Option (ao×Bool):=B_ (j8 L) λS=>cond (!S) (some ([],false)) (B_ (j8 ay) λaa=>cond (!aa) (some ([],false)) (B_ (aV (MO L ay) ([],0)) λbG=>B_ (tV bG) λbE=>cond (!bE.2) (some ([],false)) (some (bE.1,true))))
def UJ:a4:=⟨213,[cm,cm],[cs 65,cc],λx=>Hx x.1 x.2⟩
def acQ{ae:Prop}:bl ae UJ:=bn [lw,Hr,z4] [cu 5 [(6,cs 65),(7,aZ)] 0 [(6,cs 65)],cu 8 [(6,cs 65),(8,aZ)] 2 [(6,cs 65)]] [cp 10 0] ⟨l6,MG,CV,trivial⟩
def MP(L:ao×ao)(ay:ByteArray):Option (ao×Bool×Bool):=cond (ay.toList==(⟨#[109,105,114,114,111,114]⟩:ByteArray).toList) (B_ (Hm L.1) λS=>some (S.1,(S.2,true))) (cond (ay.toList==(⟨#[110,111,114,109,97,108]⟩:ByteArray).toList) (B_ (C8 L.1) λaa=>some (aa.1,(aa.2,true))) (cond (ay.toList==(⟨#[100,117,97,108]⟩:ByteArray).toList) (B_ (Dc L.1) λak=>some (ak.1,(ak.2,true))) (cond (ay.toList==(⟨#[115,117,109]⟩:ByteArray).toList) (B_ (Hx L.1 L.2) λaq=>some (aq.1,(aq.2,true))) (some ([],(false,false))))))
def acR:a4:=⟨154,[.d false (.prod fN fN),iH],[.a [.d false fN,.d false .bool,.d false .bool]],λx=>MP x.1 x.2⟩
def aoP{ae:Prop}:bl ae acR:=bn [Uw,UE,UI,UJ] [] [] ⟨acx,acL,acP,acQ,trivial⟩
def MQ(L:ao)(S:Int):Option (Int⊕Unit⊕Bool):=cond (d_ (S<(L.length:Int))) (B_ (idx L S) λaa=>cond ((aa.length:Int)!=(L.length:Int)) (some (.inr (.inr false))) (B_ (idx L S) λak=>B_ (pB ak 100) λaq=>cond (!aq) (some (.inr (.inr false))) (some (.inl (W_ i64 (S+1)))))) (some (.inr (.inl ())))
def MR(L:ao):Option Bool:=B_ (aV (MQ L) 0) λv5=>match v5 with|.inl aM=>B_ (m0 (L.length:Int) 1 3) λbg=>some bg|.inr aN=>some aN
def acS:a4:=⟨348,[cm],[cc],λx=>MR x⟩
def aoQ{ae:Prop}:bl ae acS:=bn [xp,qp] [⟨2,[(3,aZ)],some (0,[]),some [(2,cc)],false,none⟩] [] ⟨zX,rn,trivial⟩
def Dd(L:ao)(bE:Int×Int):Option (Int×Int⊕Int):=cond (d_ (bE.2<3)) (B_ (fT .i64 (W_ i64 (bE.2+1)) 3) λbL=>B_ (fT .i64 (W_ i64 (bE.2+2)) 3) λcZ=>B_ (idx L 0) λdF=>B_ (idx dF bE.2) λdA=>B_ (idx L 1) λep=>B_ (idx ep bL) λdG=>B_ (idx L 2) λeS=>B_ (idx eS cZ) λe7=>B_ (idx L 1) λdO=>B_ (idx dO cZ) λeJ=>B_ (idx L 2) λhk=>B_ (idx hk bL) λhQ=>some (.inl (W_ i64 (bE.1+W_ i64 (dA*W_ i64 (W_ i64 (dG*e7)-W_ i64 (eJ*hQ)))),W_ i64 (bE.2+1)))) (some (.inr bE.1))
def tZ(L:ao):Option Int:=cond ((L.length:Int)==1) (B_ (idx L 0) λS=>B_ (idx S 0) λaa=>some aa) (cond ((L.length:Int)==2) (B_ (idx L 0) λak=>B_ (idx ak 0) λaq=>B_ (idx L 1) λv5=>B_ (idx v5 1) λaM=>B_ (idx L 0) λaN=>B_ (idx aN 1) λbg=>B_ (idx L 1) λbh=>B_ (idx bh 0) λbG=>some (W_ i64 (W_ i64 (aq*aM)-W_ i64 (bg*bG)))) (B_ (aV (Dd L) (0,0)) λhR=>some hR))
def UK:a4:=⟨349,[cm],[aZ],λx=>tZ x⟩
def acT{ae:Prop}:bl ae UK:=bn [] [cu 8 [(3,aZ),(4,aZ)] 1 [(3,aZ)]] [cp 5 0,cp 12 0] trivial
def UL(L:ao):Option Int:=B_ (MR L) λS=>cond (!S) (some 0) (B_ (tZ L) λaa=>some aa)
def acU:a4:=⟨323,[cm],[aZ],λx=>UL x⟩
def aoR{ae:Prop}:bl ae acU:=bn [acS,UK] [] [] ⟨aoQ,acT,trivial⟩
def MS(L:ao):Option Bool:=B_ (UL L) λS=>B_ (C0 S) λaa=>some (aa==1)
def acV:a4:=⟨270,[cm],[cc],λx=>MS x⟩
def aoS{ae:Prop}:bl ae acV:=bn [acU,Ux] [] [] ⟨aoR,acz,trivial⟩
def MT(L:ao×List Int):Option Bool:=cond ((L.1.length:Int)==2) (B_ (MS L.1) λS=>cond S (B_ (zY L.2) λaa=>cond aa (some ((L.2.length:Int)==2)) (some false)) (some false)) (some false)
def acW:a4:=⟨215,[.d false (.prod fN bF)],[cc],λx=>MT x⟩
def aoT{ae:Prop}:bl ae acW:=bn [acV,G6] [] [] ⟨aoS,Mp,trivial⟩
def MU(L:ao×List Int)(ay:ao)(ak:ao×Int):Option (ao×Int⊕ao):=cond (d_ (ak.2<(ay.length:Int))) (B_ (idx ay ak.2) λaq=>B_ (vB (L.1,L.2) aq) λv5=>B_ (bH 24 ak.1 [v5]) λaM=>some (.inl (aM,W_ i64 (ak.2+1)))) (some (.inr ak.1))
def De(L:ao×List Int)(ay:ao):Option (ao×Bool):=B_ (MT (L.1,L.2)) λS=>cond (!S) (some ([],false)) (B_ (j8 ay) λaa=>cond (!aa) (some ([],false)) (B_ (aV (MU L ay) ([],0)) λaN=>B_ (tV aN) λbg=>cond (!bg.2) (some ([],false)) (some (bg.1,true))))
def UM:a4:=⟨156,[.d false (.prod fN bF),cm],[cs 65,cc],λx=>De x.1 x.2⟩
def acX{ae:Prop}:bl ae UM:=bn [acW,lw,UD,z4] [cu 5 [(6,cs 65),(7,aZ)] 0 [(6,cs 65)]] [cp 7 0] ⟨aoT,l6,acI,CV,trivial⟩
def Hy(L:ao)(ay:Int)(ak:ao×Int):Option (ao×Int⊕ao):=cond (d_ (ak.2<(L.length:Int))) (B_ (idx L ak.2) λaq=>B_ (j9 aq ay) λv5=>B_ (bH 24 ak.1 [v5]) λaM=>some (.inl (aM,W_ i64 (ak.2+1)))) (some (.inr ak.1))
def MV(L:ao)(ay:Int):Option (ao×Bool):=B_ (j8 L) λS=>cond (!S) (some ([],false)) (B_ (m0 ay 1 1000) λaa=>cond (!aa) (some ([],false)) (B_ (aV (Hy L ay) ([],0)) λaN=>B_ (j8 aN) λbg=>cond (!bg) (some ([],false)) (some (aN,true))))
def acY:a4:=⟨217,[cm,eA],[cs 65,cc],λx=>MV x.1 x.2⟩
def aoU{ae:Prop}:bl ae acY:=bn [lw,qp,CZ] [cu 5 [(6,cs 65),(7,aZ)] 0 [(6,cs 65)]] [] ⟨l6,rn,Hl,trivial⟩
def MW(L:ao×ao)(ay:ByteArray)(du:Int):Option (ao×Bool×Bool):=cond (ay.toList==(⟨#[101,120,97,109,112,108,101]⟩:ByteArray).toList) (B_ (CN du) λS=>B_ (xw S) λaa=>some (aa.1,(aa.2,true))) (cond (ay.toList==(⟨#[100,105,108,97,116,101]⟩:ByteArray).toList) (B_ (MV L.1 du) λak=>some (ak.1,(ak.2,true))) (cond (ay.toList==(⟨#[115,104,101,97,114]⟩:ByteArray).toList) (B_ (De ([[1,du],[0,1]],[0,0]) L.1) λaq=>some (aq.1,(aq.2,true))) (some ([],(false,false)))))
def acZ:a4:=⟨158,[.d false (.prod fN fN),iH,eA],[.a [.o true 65 bF,.d false .bool,.d false .bool]],λx=>MW x.1 x.2.1 x.2.2⟩
def aoV{ae:Prop}:bl ae acZ:=bn [Um,Mv,acY,UM] [] [] ⟨acj,Uu,aoU,acX,trivial⟩
def Df(L:ao×ao)(ay:List ByteArray):Option (ao×Bool×Bool):=cond (d_ ((ay.length:Int)>1)) (B_ (idx ay 0) λS=>cond (S.toList==(⟨#[112,111,108,121]⟩:ByteArray).toList) (B_ (eZ ay 1 (ay.length:Int)) λaa=>B_ (sF aa ⟨#[32]⟩) λak=>B_ (xw ak) λaq=>some (aq.1,(aq.2,true))) (cond ((ay.length:Int)==1) (B_ (idx ay 0) λv5=>B_ (MP (L.1,L.2) v5) λaM=>some (aM.1,(aM.2.1,aM.2.2))) (cond ((ay.length:Int)!=2) (some ([],(false,false))) (B_ (idx ay 0) λaN=>cond (aN.toList==(⟨#[109,111,118,101]⟩:ByteArray).toList) (B_ (idx ay 1) λbg=>B_ (rp bg) λbh=>cond (!bh.2) (some ([],(false,false))) (B_ (De ([[1,0],[0,1]],bh.1) L.1) λbG=>some (bG.1,(bG.2,true)))) (B_ (idx ay 1) λbE=>B_ (sE bE) λbL=>cond (!bL.2) (some ([],(false,false))) (B_ (idx ay 0) λcZ=>B_ (MW (L.1,L.2) cZ bL.1) λdF=>some (dF.1,(dF.2.1,dF.2.2)))))))) (cond ((ay.length:Int)==1) (B_ (idx ay 0) λdA=>B_ (MP (L.1,L.2) dA) λep=>some (ep.1,(ep.2.1,ep.2.2))) (cond ((ay.length:Int)!=2) (some ([],(false,false))) (B_ (idx ay 0) λdG=>cond (dG.toList==(⟨#[109,111,118,101]⟩:ByteArray).toList) (B_ (idx ay 1) λeS=>B_ (rp eS) λe7=>cond (!e7.2) (some ([],(false,false))) (B_ (De ([[1,0],[0,1]],e7.1) L.1) λdO=>some (dO.1,(dO.2,true)))) (B_ (idx ay 1) λeJ=>B_ (sE eJ) λhk=>cond (!hk.2) (some ([],(false,false))) (B_ (idx ay 0) λhQ=>B_ (MW (L.1,L.2) hQ hk.1) λhR=>some (hR.1,(hR.2.1,hR.2.2)))))))
def ac0:a4:=⟨73,[.d false (.prod fN fN),.d false (.list .str)],[.a [.d false fN,.d false .bool,.d false .bool]],λx=>Df x.1 x.2⟩
def aoW{ae:Prop}:bl ae ac0:=bn [CW,Mv,acR,CR,UM,CQ,acZ] [] [cp 5 0,cp 17 0] ⟨Hj,Uu,aoP,G7,acX,G5,aoV,trivial⟩
def MX(L:ao):Option Int:=B_ (j8 L) λS=>cond (!S) (some (-1)) (B_ (nM L) λaa=>some aa)
def ac1:a4:=⟨16,[cm],[aZ],λx=>MX x⟩
def aoX{ae:Prop}:bl ae ac1:=bn [lw,Ac] [] [] ⟨l6,Da,trivial⟩
def xA(L:ao)(ay:Int):Option Int:=B_ (j8 L) λS=>cond (!S) (some (-1)) (B_ (m0 ay (-1000) 1000) λaa=>cond (!aa) (some (-1)) (B_ (xy L) λak=>B_ (nM L) λaq=>B_ (fA .i64 (W_ i64 (W_ i64 (2+W_ i64 (ak*ay))+W_ i64 (W_ i64 (aq*ay)*ay))) 2) λv5=>some v5))
def MY:a4:=⟨229,[cm,eA],[aZ],λx=>xA x.1 x.2⟩
def UN{ae:Prop}:bl ae MY:=bn [lw,qp,Hu,Ac] [] [] ⟨l6,rn,MJ,Da,trivial⟩
def MZ(L:ao):Option (List Int):=B_ (j8 L) λS=>cond (!S) (some []) (B_ (xA L 1) λaa=>B_ (Db L) λak=>some [1,W_ i64 (aa-3),ak])
def ac2:a4:=⟨273,[cm],[cQ 3],λx=>MZ x⟩
def aoY{ae:Prop}:bl ae ac2:=bn [lw,MY,MK] [] [] ⟨l6,UN,UF,trivial⟩
def Hz(du:Int)(S:ao×Int)(aa:ao×Int)(ak:ao×Int):Option (ao×Int⊕ao):=cond (d_ (ak.2<=du)) (B_ (idx S.1 aa.2) λaq=>B_ (bH 8 [] aq) λv5=>B_ (bH 8 v5 [ak.2]) λaM=>B_ (bH 24 ak.1 [aM]) λaN=>some (.inl (aN,W_ i64 (ak.2+1)))) (some (.inr ak.1))
def HA(ay:Int)(du:Int)(S:ao×Int)(aa:ao×Int):Option (ao×Int⊕ao):=cond (d_ (aa.2<(S.1.length:Int))) (B_ (aV (Hz du S aa) (aa.1,ay)) λbg=>some (.inl (bg,W_ i64 (aa.2+1)))) (some (.inr aa.1))
def M0(L:Int)(ay:Int)(du:Int)(S:ao×Int):Option (ao×Int⊕ao):=cond (d_ (S.2<L)) (B_ (aV (HA ay du S) ([],0)) λbh=>some (.inl (bh,W_ i64 (S.2+1)))) (some (.inr S.1))
def HB(L:Int)(ay:Int)(du:Int):Option ao:=B_ (aV (M0 L ay du) ([[]],0)) λbG=>some bG
def UO:a4:=⟨326,[eA,eA,eA],[cs 65],λx=>HB x.1 x.2.1 x.2.2⟩
def ac3{ae:Prop}:bl ae UO:=bn [] [cu 3 [(7,cs 65),(8,aZ)] 0 [(7,cs 65)],cu 7 [(9,cs 65),(10,aZ)] 2 [(9,cs 65)],cu 10 [(9,cs 65),(11,aZ)] 4 [(9,cs 65)]] [] trivial
def HC(L:Int)(ay:Int):Option Int:=cond (d_ (L<ay)) (some L) (some ay)
def UP:a4:=⟨331,[eA,eA],[aZ],λx=>HC x.1 x.2⟩
def ac4{ae:Prop}:bl ae UP:=bn [] [] [] trivial
def M1(L:ao)(ay:List Int)(ak:Int×Int×Int):Option (Int×Int×Int⊕Int×Int):=cond (d_ (ak.2.2<(L.length:Int))) (B_ (idx L ak.2.2) λaq=>B_ (m2 ay aq) λv5=>B_ (rq ak.1 v5) λaM=>B_ (HC ak.2.1 v5) λaN=>some (.inl (aM,(aN,W_ i64 (ak.2.2+1))))) (some (.inr (ak.1,ak.2.1)))
def Dg(L:ao)(ay:List Int):Option (Int×Int):=B_ (idx L 0) λS=>B_ (m2 ay S) λaa=>B_ (aV (M1 L ay) (aa,(aa,1))) λbg=>some (bg.1,bg.2)
def UQ:a4:=⟨286,[cm,dy],[aZ,aZ],λx=>Dg x.1 x.2⟩
def ac5{ae:Prop}:bl ae UQ:=bn [C6,Hn,UP] [cu 4 [(6,aZ),(7,aZ),(8,aZ)] 0 [(6,aZ),(7,aZ)]] [] ⟨Hp,MA,ac4,trivial⟩
def HD(L:ao)(S:ao)(aa:Int×ao×Int):Option (Int×ao×Int⊕Int×ao):=cond (d_ (aa.2.2<(S.length:Int))) (B_ (idx S aa.2.2) λak=>B_ (idx ak 0) λaq=>cond (d_ (aq<0)) (some (.inl (aa.1,(aa.2.1,W_ i64 (aa.2.2+1))))) (B_ (idx ak 0) λv5=>cond (v5==0) (B_ (idx ak 1) λaM=>cond (d_ (aM<=0)) (some (.inl (aa.1,(aa.2.1,W_ i64 (aa.2.2+1))))) (B_ (Dg L ak) λaN=>cond (d_ (aa.1<0)) (cond (W_ i64 (aN.1-aN.2)==W_ i64 (aN.1-aN.2)) (B_ (bH 24 [] [ak]) λbg=>some (.inl (W_ i64 (aN.1-aN.2),(bg,W_ i64 (aa.2.2+1))))) (some (.inl (W_ i64 (aN.1-aN.2),([],W_ i64 (aa.2.2+1)))))) (cond (d_ (W_ i64 (aN.1-aN.2)<aa.1)) (cond (W_ i64 (aN.1-aN.2)==W_ i64 (aN.1-aN.2)) (B_ (bH 24 [] [ak]) λbh=>some (.inl (W_ i64 (aN.1-aN.2),(bh,W_ i64 (aa.2.2+1))))) (some (.inl (W_ i64 (aN.1-aN.2),([],W_ i64 (aa.2.2+1)))))) (cond (W_ i64 (aN.1-aN.2)==aa.1) (B_ (bH 24 aa.2.1 [ak]) λbG=>some (.inl (aa.1,(bG,W_ i64 (aa.2.2+1))))) (some (.inl (aa.1,(aa.2.1,W_ i64 (aa.2.2+1))))))))) (B_ (Dg L ak) λbE=>cond (d_ (aa.1<0)) (cond (W_ i64 (bE.1-bE.2)==W_ i64 (bE.1-bE.2)) (B_ (bH 24 [] [ak]) λbL=>some (.inl (W_ i64 (bE.1-bE.2),(bL,W_ i64 (aa.2.2+1))))) (some (.inl (W_ i64 (bE.1-bE.2),([],W_ i64 (aa.2.2+1)))))) (cond (d_ (W_ i64 (bE.1-bE.2)<aa.1)) (cond (W_ i64 (bE.1-bE.2)==W_ i64 (bE.1-bE.2)) (B_ (bH 24 [] [ak]) λcZ=>some (.inl (W_ i64 (bE.1-bE.2),(cZ,W_ i64 (aa.2.2+1))))) (some (.inl (W_ i64 (bE.1-bE.2),([],W_ i64 (aa.2.2+1)))))) (cond (W_ i64 (bE.1-bE.2)==aa.1) (B_ (bH 24 aa.2.1 [ak]) λdF=>some (.inl (aa.1,(dF,W_ i64 (aa.2.2+1))))) (some (.inl (aa.1,(aa.2.1,W_ i64 (aa.2.2+1)))))))))) (some (.inr (aa.1,aa.2.1)))
def HE(L:ao):Option (Int×ao):=B_ (HB 2 (-12) 12) λS=>B_ (aV (HD L S) (-1,([],0))) λdA=>some (dA.1,dA.2)
def UR:a4:=⟨277,[cm],[aZ,.l (.o false 65 bF)],λx=>HE x⟩
def ac6{ae:Prop}:bl ae UR:=bn [UO,UQ] [cu 5 [(4,aZ),(5,.l (.o false 65 bF)),(7,aZ)] 0 [(4,aZ),(5,.l (.o false 65 bF))]] [] ⟨ac3,ac5,trivial⟩
def HF(L:ao):Option Int:=B_ (j8 L) λS=>cond (!S) (some (-1)) (B_ (HE L) λaa=>some aa.1)
def US:a4:=⟨221,[cm],[aZ],λx=>HF x⟩
def ac7{ae:Prop}:bl ae US:=bn [lw,UR] [] [] ⟨l6,ac6,trivial⟩
def HG(L:List Int):Option Bool:=cond ((L.length:Int)==2) (B_ (pB L 30) λS=>cond S (B_ (vA L) λaa=>some (aa==1)) (some false)) (some false)
def ac8:a4:=⟨289,[dy],[cc],λx=>HG x⟩
def aoZ{ae:Prop}:bl ae ac8:=bn [xp,C2] [] [] ⟨zX,Ho,trivial⟩
def vD(L:List Int×List Int):Option Bool:=B_ (HG L.1) λS=>cond S (B_ (HG L.2) λaa=>cond aa (B_ (m1 L.1 L.2) λak=>some (d_ (ak>0))) (some false)) (some false)
def HH:a4:=⟨234,[.d false (.prod bF bF)],[cc],λx=>vD x⟩
def M2{ae:Prop}:bl ae HH:=bn [ac8,vz] [] [] ⟨aoZ,xt,trivial⟩
def Ad(L:ao)(ay:Int):Option ((List Int×List Int)×Bool):=B_ (j8 L) λS=>cond (!S) (some (([],[]),false)) (B_ (m0 ay 0 (W_ i64 ((L.length:Int)-1))) λaa=>cond (!aa) (some (([],[]),false)) (B_ (fT .i64 (W_ i64 (ay+1)) (L.length:Int)) λak=>B_ (idx L ak) λaq=>B_ (idx L ay) λv5=>B_ (l5 aq v5) λaM=>B_ (C3 aM) λaN=>B_ (fT .i64 (W_ i64 (W_ i64 (ay+(L.length:Int))-1)) (L.length:Int)) λbg=>B_ (idx L bg) λbh=>B_ (idx L ay) λbG=>B_ (l5 bh bG) λbE=>B_ (C3 bE) λbL=>B_ (vD (aN,bL)) λcZ=>cond (!cZ) (some (([],[]),false)) (some ((aN,bL),true))))
def UT:a4:=⟨279,[cm,eA],[.a [.o true 3 bK,.o true 3 bK],cc],λx=>Ad x.1 x.2⟩
def ac9{ae:Prop}:bl ae UT:=bn [lw,qp,z0,Uz,HH] [] [cp 4 0] ⟨l6,rn,CT,acD,M2,trivial⟩
def vE(L:List Int×List Int):Option Int:=B_ (vD (L.1,L.2)) λS=>cond (!S) (some 0) (B_ (m1 L.1 L.2) λaa=>some aa)
def UU:a4:=⟨280,[.d false (.prod bF bF)],[aZ],λx=>vE x⟩
def ada{ae:Prop}:bl ae UU:=bn [HH,vz] [] [] ⟨M2,xt,trivial⟩
def Ae(L:Bool):Option Int:=cond L (some 1) (some 0)
def M3:a4:=⟨291,[aoG],[aZ],λx=>Ae x⟩
def UV{ae:Prop}:bl ae M3:=bn [] [] [] trivial
def Af(L:ao)(S:Int×Int):Option (Int×Int⊕Int⊕Int):=cond (d_ (S.2<(L.length:Int))) (B_ (Ad L S.2) λaa=>cond (!aa.2) (some (.inr (.inr (-1)))) (B_ (vE (aa.1.1,aa.1.2)) λak=>B_ (Ae (ak==1)) λaq=>some (.inl (W_ i64 (S.1+aq),W_ i64 (S.2+1))))) (some (.inr (.inl S.1)))
def HI(L:ao):Option Int:=B_ (aV (Af L) (0,0)) λv5=>match v5 with|.inl aM=>cond ((L.length:Int)==0) (some (-1)) (some aM)|.inr aN=>some aN
def adb:a4:=⟨274,[cm],[aZ],λx=>HI x⟩
def ao0{ae:Prop}:bl ae adb:=bn [UT,UU,M3] [⟨3,[(3,aZ),(4,aZ)],some (0,[(3,aZ)]),some [(2,aZ)],false,none⟩] [] ⟨ac9,ada,UV,trivial⟩
def M4(L:ao)(S:ao×Bool)(aq:List Int)(v5:Int):Option (Int⊕Unit⊕Bool):=cond (d_ (v5<(L.length:Int))) (B_ (idx S.1 v5) λaM=>B_ (tW aM aq) λaN=>B_ (idx L v5) λbg=>B_ (tU aN bg) λbh=>cond (!bh) (some (.inr (.inr false))) (some (.inl (W_ i64 (v5+1))))) (some (.inr (.inl ())))
def Dh(L:ao):Option Bool:=B_ (Hm L) λS=>cond (!S.2) (some false) (B_ (idx L 0) λaa=>B_ (bD S.1.length 0) λ_=>B_ (idx S.1 (((0:Int).toNat:Nat):Int)) λak=>B_ (l5 aa ak) λaq=>B_ (aV (M4 L S aq) 0) λbG=>match bG with|.inl bE=>some true|.inr bL=>some bL)
def adc:a4:=⟨275,[cm],[cc],λx=>Dh x⟩
def ao1{ae:Prop}:bl ae adc:=bn [Uw,z0,Hr,CS] [⟨6,[(6,aZ)],some (0,[]),some [(2,cc)],false,none⟩] [cp 4 0,cp 8 0] ⟨acx,CT,MG,Ha,trivial⟩
def M8(L:ao):Option ByteArray:=B_ (j8 L) λS=>cond (!S) (some ⟨#[]⟩) (B_ (MX L) λaa=>B_ (iT aa) λak=>B_ (fl ⟨#[97,114,101,97,32]⟩ ak) λaq=>B_ (fl aq ⟨#[32,98,111,117,110,100,97,114,121,32]⟩) λv5=>B_ (xy L) λaM=>B_ (iT aM) λaN=>B_ (fl v5 aN) λbg=>B_ (fl bg ⟨#[32,105,110,110,101,114,32]⟩) λbh=>B_ (Db L) λbG=>B_ (iT bG) λbE=>B_ (fl bh bE) λbL=>B_ (fl bL ⟨#[32,112,111,105,110,116,115,32]⟩) λcZ=>B_ (xA L 1) λdF=>B_ (iT dF) λdA=>B_ (fl cZ dA) λep=>B_ (fl ep ⟨#[32,116,111,112,32]⟩) λdG=>B_ (MZ L) λeS=>B_ (sG eS) λe7=>B_ (fl dG e7) λdO=>B_ (fl dO ⟨#[32,119,105,100,116,104,32]⟩) λeJ=>B_ (HF L) λhk=>B_ (iT hk) λhQ=>B_ (fl eJ hQ) λhR=>B_ (fl hR ⟨#[32,115,109,111,111,116,104,32]⟩) λjq=>B_ (HI L) λlv=>B_ (iT lv) λk3=>B_ (fl jq k3) λhS=>B_ (Hv L) λka=>cond ka (B_ (fl hS ⟨#[32,114,101,102,108,101,120,105,118,101]⟩) λkb=>B_ (Dh L) λjC=>cond jC (B_ (fl kb ⟨#[32,115,121,109,109,101,116,114,105,99]⟩) λvF=>some vF) (some kb)) (B_ (fl hS ⟨#[32,111,116,104,101,114]⟩) λua=>B_ (Dh L) λud=>cond ud (B_ (fl ua ⟨#[32,115,121,109,109,101,116,114,105,99]⟩) λm3=>some m3) (some ua)))
def ade:a4:=⟨219,[cm],[gM],λx=>M8 x⟩
def ao2{ae:Prop}:bl ae ade:=bn [lw,ac1,tS,Hu,MK,MY,ac2,z6,US,adb,UH,adc] [] [] ⟨l6,aoX,vy,MJ,UF,UN,aoY,CX,ac7,ao0,acN,ao1,trivial⟩
def M9(L:ao)(aN:ao×Int×Int×Int×Int):Option (ao×Int×Int×Int×Int⊕ao×Int×Int×Int):=cond (d_ (aN.2.2.2.2<(L.length:Int))) (B_ (idx L aN.2.2.2.2) λbg=>B_ (idx bg 1) λbh=>B_ (HC aN.2.1 bh) λbG=>B_ (idx L aN.2.2.2.2) λbE=>B_ (idx bE 1) λbL=>B_ (rq aN.2.2.1 bL) λcZ=>B_ (idx L aN.2.2.2.2) λdF=>B_ (idx dF 0) λdA=>B_ (rq aN.2.2.2.1 dA) λep=>some (.inl (aN.1,(bG,(cZ,(ep,W_ i64 (aN.2.2.2.2+1))))))) (some (.inr (aN.1,(aN.2.1,(aN.2.2.1,aN.2.2.2.1)))))
def HJ(L:ao)(dG:ao×Int×Int×Int)(dO:ao×Int)(eJ:ao×Int):Option (ao×Int⊕ao):=cond (d_ (eJ.2<=dG.2.2.1)) (B_ (tY L [dO.2,eJ.2]) λhk=>cond (d_ (hk>=0)) (B_ (bH 24 eJ.1 [[dO.2,eJ.2]]) λhQ=>some (.inl (hQ,W_ i64 (eJ.2+1)))) (some (.inl (eJ.1,W_ i64 (eJ.2+1))))) (some (.inr eJ.1))
def Na(L:ao)(dG:ao×Int×Int×Int)(dO:ao×Int):Option (ao×Int⊕ao):=cond (d_ (dO.2<=dG.2.2.2)) (B_ (aV (HJ L dG dO) (dO.1,dG.2.1)) λhR=>some (.inl (hR,W_ i64 (dO.2+1)))) (some (.inr dO.1))
def Ag(L:ao):Option ao:=B_ (idx L 0) λS=>B_ (idx S 1) λaa=>B_ (idx L 0) λak=>B_ (idx ak 1) λaq=>B_ (idx L 0) λv5=>B_ (idx v5 0) λaM=>B_ (aV (M9 L) ([],(aa,(aq,(aM,0))))) λdG=>B_ (idx L 0) λeS=>B_ (idx eS 0) λe7=>B_ (aV (Na L dG) (dG.1,e7)) λjq=>some jq
def UW:a4:=⟨287,[cm],[cs 65],λx=>Ag x⟩
def adf{ae:Prop}:bl ae UW:=bn [UP,Hn,ML] [cu 6 [(3,cs 65),(4,aZ),(5,aZ),(6,aZ),(7,aZ)] 0 [(3,cs 65),(4,aZ),(5,aZ),(6,aZ)],cu 12 [(3,cs 65),(8,aZ)] 2 [(3,cs 65)],cu 15 [(3,cs 65),(9,aZ)] 4 [(3,cs 65)]] [] ⟨ac4,MA,UG,trivial⟩
def Nb(L:ao)(bg:ao)(bh:Int):Option (Int⊕Unit⊕List Int×Bool):=cond (d_ (bh<(bg.length:Int))) (B_ (idx bg bh) λbG=>B_ (idx L 0) λbE=>B_ (tU bG bE) λbL=>cond (!bL) (B_ (idx bg bh) λcZ=>B_ (idx L 1) λdF=>B_ (tU cZ dF) λdA=>cond (!dA) (B_ (idx bg bh) λep=>B_ (idx L 2) λdG=>B_ (tU ep dG) λeS=>cond (!eS) (B_ (idx bg bh) λe7=>some (.inr (.inr (e7,true)))) (some (.inl (W_ i64 (bh+1))))) (some (.inl (W_ i64 (bh+1))))) (some (.inl (W_ i64 (bh+1))))) (some (.inr (.inl ())))
def Nc(L:ao):Option (List Int×Bool):=B_ (idx L 0) λS=>B_ (xq [] S) λaa=>B_ (idx L 1) λak=>B_ (xq aa ak) λaq=>B_ (idx L 2) λv5=>B_ (xq aq v5) λaM=>B_ (He aM) λaN=>B_ (Ag aN) λbg=>B_ (aV (Nb L bg) 0) λdO=>match dO with|.inl eJ=>some ([],false)|.inr hk=>some (hk.1,hk.2)
def adg:a4:=⟨350,[cm],[vt,cc],λx=>Nc x⟩
def ao3{ae:Prop}:bl ae adg:=bn [Uq,Us,UW,CS] [⟨5,[(7,aZ)],some (0,[]),some [(2,vt),(3,cc)],false,none⟩] [cp 1 0,cp 7 0] ⟨acr,acs,adf,Ha,trivial⟩
def Nf(L:ao):Option Int:=B_ (idx L 0) λS=>B_ (idx L 1) λaa=>B_ (idx L 2) λak=>B_ (z1 S aa ak) λaq=>some aq
def adh:a4:=⟨351,[cm],[aZ],λx=>Nf x⟩
def ao4{ae:Prop}:bl ae adh:=bn [Mt] [] [cp 1 0] ⟨Ur,trivial⟩
def Ng(rec:ao->List ao->Option (List ao))(L:ao)(S:List Int×Bool)(aq:List ao×Int):Option (List ao×Int⊕List ao):=cond (d_ (aq.2<3)) (B_ (idx L aq.2) λv5=>B_ (fT .i64 (W_ i64 (aq.2+1)) 3) λaM=>B_ (idx L aM) λaN=>B_ (Nf [S.1,v5,aN]) λbg=>cond (bg !=0) (B_ (rec [S.1,v5,aN] aq.1) λbh=>some (.inl (bh,W_ i64 (aq.2+1)))) (some (.inl (aq.1,W_ i64 (aq.2+1))))) (some (.inr aq.1))
def HK(rec:ao->List ao->Option (List ao))(L:ao)(ay:List ao):Option (List ao):=B_ (Nc L) λS=>cond (!S.2) (B_ (nL L) λaa=>B_ (bH 24 ay [aa]) λak=>some ak) (B_ (aV (Ng rec L S) (ay,0)) λbG=>some bG)
def vG:Nat->ao->List ao->Option (List ao)|0=>λ_ _=>none|n+1=>HK (vG n)
def UX(L:ao)(ay:List ao):Option (List ao):=vG 30000 L ay
def UY:a4:=⟨325,[cm,.mv true 24 fN],[.l (.o true 24 fN)],λx=>UX x.1 x.2⟩
def sH(rec:ao->List ao->Option (List ao)):a4:=⟨325,[.d false fN,.mv true 24 fN],[.l (.o true 24 fN)],λx=>rec x.1 x.2⟩
def adi(rec:ao->List ao->Option (List ao)):db:=⟨Tryz.prog,oX,[adg,CU,adh,sH rec],[cu 5 [(1,.l (.o true 24 fN)),(7,aZ)] 0 [(1,.l (.o true 24 fN))]],[cp 7 0],[],[],[]⟩
def ao5(rec:ao->List ao->Option (List ao))(x:i0.den (sH rec).ps):wy (adi rec) Tryz.f325 (sH rec).ps (sH rec).rs x=(sH (HK rec)).F x:=by kernel_rfl
def ao6{ae:Prop}(rec:ao->List ao->Option (List ao))(c:e3 Tryz.prog (sH rec).f/\gf ae Tryz.prog (sH rec)):e3 Tryz.prog (sH (HK rec)).f/\gf ae Tryz.prog (sH (HK rec)):=Gz (N:=adi rec) pA ⟨ao3,Hf,ao4,c,trivial⟩ func325 (by kernel_rfl) (ao5 rec)
def adj{ae:Prop}:(n:Nat)->e3 Tryz.prog (sH (vG n)).f/\gf ae Tryz.prog (sH (vG n))|0=>⟨⟨Tryz.f325,_,func325,by kernel_rfl,rfl⟩,λx u c=>by cases c⟩|n+1=>ao6 _ (adj n)
def ao7{ae:Prop}:e3 Tryz.prog UY.f/\gf ae Tryz.prog UY:=adj 30000
def Nh(L:ao)(ak:List ao×Int):Option (List ao×Int⊕List ao):=cond (d_ (W_ i64 (ak.2+1)<(L.length:Int))) (B_ (idx L 0) λaq=>B_ (idx L ak.2) λv5=>B_ (idx L (W_ i64 (ak.2+1))) λaM=>B_ (UX [aq,v5,aM] ak.1) λaN=>some (.inl (aN,W_ i64 (ak.2+1)))) (some (.inr ak.1))
def Ni(L:ao):Option (List ao):=B_ (j8 L) λS=>cond (!S) (some []) (B_ (nM L) λaa=>cond (d_ (aa>200)) (some []) (B_ (aV (Nh L) ([],1)) λbg=>some bg))
def adk:a4:=⟨276,[cm],[.l (.o true 24 fN)],λx=>Ni x⟩
def ao8{ae:Prop}:bl ae adk:=bn [lw,Ac,UY] [cu 5 [(3,.l (.o true 24 fN)),(4,aZ)] 0 [(3,.l (.o true 24 fN))]] [cp 7 0] ⟨l6,Da,ao7,trivial⟩
def Nj(L:ao):Option Int:=B_ (Ni L) λS=>cond ((S.length:Int)==0) (some (-1)) (some (S.length:Int))
def adl:a4:=⟨220,[cm],[aZ],λx=>Nj x⟩
def ao9{ae:Prop}:bl ae adl:=bn [adk] [] [] ⟨ao8,trivial⟩
def HL(L:ao):Option ao:=B_ (j8 L) λS=>cond (!S) (some []) (B_ (HE L) λaa=>some aa.2)
def adm:a4:=⟨223,[cm],[.l (.o false 65 bF)],λx=>HL x⟩
def apa{ae:Prop}:bl ae adm:=bn [lw,UR] [] [] ⟨l6,ac6,trivial⟩
def Nk(L:List Int):Option ByteArray:=B_ (zY L) λS=>cond (!S) (some ⟨#[]⟩) (B_ (sG L) λaa=>some aa)
def adn:a4:=⟨278,[dy],[gM],λx=>Nk x⟩
def apb{ae:Prop}:bl ae adn:=bn [G6,z6] [] [] ⟨Mp,CX,trivial⟩
def HM(L:ao)(S:List ByteArray×Int):Option (List ByteArray×Int⊕List ByteArray):=cond (d_ (S.2<(L.length:Int))) (B_ (idx L S.2) λaa=>B_ (Nk aa) λak=>B_ (bH 16 S.1 [ak]) λaq=>some (.inl (aq,W_ i64 (S.2+1)))) (some (.inr S.1))
def Ah(L:ao):Option ByteArray:=B_ (aV (HM L) ([],0)) λv5=>cond ((v5.length:Int)==0) (some ⟨#[45]⟩) (B_ (sF v5 ⟨#[32]⟩) λaM=>some aM)
def UZ:a4:=⟨222,[cm],[gM],λx=>Ah x⟩
def ado{ae:Prop}:bl ae UZ:=bn [adn,CW] [cu 3 [(3,jb 9),(4,aZ)] 0 [(3,jb 9)]] [] ⟨apb,Hj,trivial⟩
def Ai(L:List Int)(ay:ByteArray):Option ByteArray:=cond ((L.length:Int)==0) (some ay) (B_ (sG L) λS=>some S)
def Nl:a4:=⟨231,[dy,iH],[gM],λx=>Ai x.1 x.2⟩
def U0{ae:Prop}:bl ae Nl:=bn [z6] [] [] ⟨CX,trivial⟩
def Aj(L:ao)(S:List Int×Int):Option (List Int×Int⊕List Int⊕ByteArray):=cond (d_ (S.2<(L.length:Int))) (B_ (Ad L S.2) λaa=>cond (!aa.2) (some (.inr (.inr ⟨#[110,111]⟩))) (B_ (vE (aa.1.1,aa.1.2)) λak=>B_ (bH 8 S.1 [ak]) λaq=>some (.inl (aq,W_ i64 (S.2+1))))) (some (.inr (.inl S.1)))
def Nn(L:ao):Option ByteArray:=B_ (aV (Aj L) ([],0)) λv5=>match v5 with|.inl aM=>B_ (Ai aM ⟨#[110,111]⟩) λbg=>some bg|.inr aN=>some aN
def adp:a4:=⟨224,[cm],[gM],λx=>Nn x⟩
def apc{ae:Prop}:bl ae adp:=bn [UT,UU,Nl] [⟨3,[(3,cQ 3),(4,aZ)],some (0,[(3,cQ 3)]),some [(2,gM)],false,none⟩] [] ⟨ac9,ada,U0,trivial⟩
def HN(L:ao)(ay:ao):Option Int:=B_ (Hx L ay) λS=>cond (!S.2) (some (-1)) (B_ (nM S.1) λaa=>B_ (nM L) λak=>B_ (nM ay) λaq=>some (W_ i64 (W_ i64 (aa-ak)-aq)))
def adq:a4:=⟨225,[cm,cm],[aZ],λx=>HN x.1 x.2⟩
def apd{ae:Prop}:bl ae adq:=bn [UJ,Ac] [] [] ⟨acQ,Da,trivial⟩
def No(L:ao)(ay:ao):Option Bool:=B_ (C8 L) λS=>B_ (C8 ay) λaa=>cond S.2 (cond aa.2 (B_ (Hh S.1 aa.1) λak=>some ak) (some false)) (some false)
def adr:a4:=⟨226,[cm,cm],[cc],λx=>No x.1 x.2⟩
def ape{ae:Prop}:bl ae adr:=bn [UE,Ut] [] [] ⟨acL,act,trivial⟩
def HO(L:ao):Option Int:=B_ (Dc L) λS=>cond (!S.2) (some (-1)) (B_ (xy L) λaa=>B_ (xy S.1) λak=>some (W_ i64 (aa+ak)))
def ads:a4:=⟨227,[cm],[aZ],λx=>HO x⟩
def apf{ae:Prop}:bl ae ads:=bn [UI,Hu] [] [] ⟨acP,MJ,trivial⟩
def U1(L:ao×ao)(ay:ByteArray):Option ByteArray:=cond (ay.toList==(⟨#[115,104,111,119]⟩:ByteArray).toList) (B_ (z7 L.1) λS=>some S) (cond (ay.toList==(⟨#[100,101,115,99,114,105,98,101]⟩:ByteArray).toList) (B_ (M8 L.1) λaa=>some aa) (cond (ay.toList==(⟨#[101,109,112,116,121]⟩:ByteArray).toList) (B_ (Nj L.1) λak=>B_ (iT ak) λaq=>some aq) (cond (ay.toList==(⟨#[119,105,100,116,104]⟩:ByteArray).toList) (B_ (HF L.1) λv5=>B_ (iT v5) λaM=>some aM) (cond (ay.toList==(⟨#[100,105,114,101,99,116,105,111,110,115]⟩:ByteArray).toList) (B_ (HL L.1) λaN=>B_ (Ah aN) λbg=>some bg) (cond (ay.toList==(⟨#[99,111,114,110,101,114,115]⟩:ByteArray).toList) (B_ (Nn L.1) λbh=>some bh) (cond (ay.toList==(⟨#[109,105,120,101,100]⟩:ByteArray).toList) (B_ (HN L.1 L.2) λbG=>B_ (iT bG) λbE=>some bE) (cond (ay.toList==(⟨#[115,97,109,101]⟩:ByteArray).toList) (B_ (No L.1 L.2) λbL=>cond bL (some ⟨#[121,101,115]⟩) (some ⟨#[110,111]⟩)) (cond (ay.toList==(⟨#[116,119,101,108,118,101]⟩:ByteArray).toList) (B_ (HO L.1) λcZ=>B_ (iT cZ) λdF=>some dF) (some ⟨#[119,104,97,116]⟩)))))))))
def adt:a4:=⟨160,[.d false (.prod fN fN),iH],[gM],λx=>U1 x.1 x.2⟩
def apg{ae:Prop}:bl ae adt:=bn [Uv,ade,adl,tS,US,adm,UZ,adp,adq,adr,ads] [] [] ⟨acv,ao2,ao9,vy,ac7,apa,ado,apc,apd,ape,apf,trivial⟩
def Np(L:Int)(ay:List Int×Int):Option Bool:=B_ (m0 L 1 3) λS=>cond S (cond ((ay.1.length:Int)==L) (B_ (pB ay.1 20) λaa=>cond aa (B_ (vA ay.1) λak=>cond (d_ (ak>0)) (B_ (m0 ay.2 (-200) 200) λaq=>some aq) (some false)) (some false)) (some false)) (some false)
def adu:a4:=⟨352,[eA,.d false (.prod bF bK)],[cc],λx=>Np x.1 x.2⟩
def aph{ae:Prop}:bl ae adu:=bn [qp,xp,C2] [] [] ⟨rn,zX,Ho,trivial⟩
def Nq(L:Int×List (List Int×Int))(S:Int):Option (Int⊕Unit⊕Bool):=cond (d_ (S<(L.2.length:Int))) (B_ (idx L.2 S) λaa=>B_ (Np L.1 aa) λak=>cond (!ak) (some (.inr (.inr false))) (some (.inl (W_ i64 (S+1))))) (some (.inr (.inl ())))
def ue(L:Int×List (List Int×Int)):Option Bool:=B_ (aV (Nq L) 0) λaq=>match aq with|.inl v5=>B_ (m0 L.1 1 3) λaN=>cond aN (some (d_ ((L.2.length:Int)<=8))) (some false)|.inr aM=>some aM
def Ak:a4:=⟨327,[.d false (.prod bK (.list (.prod bF bK)))],[cc],λx=>ue x⟩
def Di{ae:Prop}:bl ae Ak:=bn [adu,qp] [⟨2,[(3,aZ)],some (0,[]),some [(2,cc)],false,none⟩] [cp 4 0] ⟨aph,rn,trivial⟩
def Nr(L:Int×List (List Int×Int))(ak:ByteArray×Int):Option (ByteArray×Int⊕ByteArray):=cond (d_ (ak.2<(L.2.length:Int))) (B_ (fl ak.1 ⟨#[59]⟩) λaq=>B_ (idx L.2 ak.2) λv5=>B_ (sG v5.1) λaM=>B_ (fl aq aM) λaN=>B_ (fl aN ⟨#[60]⟩) λbg=>B_ (idx L.2 ak.2) λbh=>B_ (iT bh.2) λbG=>B_ (fl bg bG) λbE=>some (.inl (bE,W_ i64 (ak.2+1)))) (some (.inr ak.1))
def Ns(L:Int×List (List Int×Int)):Option ByteArray:=B_ (ue (L.1,L.2)) λS=>cond (!S) (some ⟨#[]⟩) (B_ (iT L.1) λaa=>B_ (aV (Nr L) (aa,0)) λbL=>some bL)
def adv:a4:=⟨328,[.d false (.prod bK (.list (.prod bF bK)))],[gM],λx=>Ns x⟩
def api{ae:Prop}:bl ae adv:=bn [Ak,tS,z6] [cu 5 [(3,gM),(4,aZ)] 0 [(3,gM)]] [cp 7 0] ⟨Di,vy,CX,trivial⟩
def Dj(S:List ByteArray)(aq:(Int×List (List Int×Int))×(Int×List (List Int×Int))×Int):Option ((Int×List (List Int×Int))×(Int×List (List Int×Int))×Int⊕(Int×List (List Int×Int))×Int×List (List Int×Int)⊕(Int×List (List Int×Int))×Bool):=cond (d_ (aq.2.2<(S.length:Int))) (B_ (idx S aq.2.2) λv5=>B_ (vx v5 60) λaM=>cond ((aM.length:Int)!=2) (some (.inr (.inr ((0,[]),false)))) (B_ (bD aM.length 0) λ_=>B_ (idx aM (((0:Int).toNat:Nat):Int)) λaN=>B_ (rp aN) λbg=>B_ (bD aM.length 1) λ_=>B_ (idx aM (((1:Int).toNat:Nat):Int)) λbh=>B_ (sE bh) λbG=>cond (!bg.2) (some (.inr (.inr ((0,[]),false)))) (cond (!bG.2) (some (.inr (.inr ((0,[]),false)))) (B_ (bH 32 aq.2.1.2 [(bg.1,bG.1)]) λbE=>some (.inl ((aq.1.1,aq.1.2),((aq.2.1.1,bE),W_ i64 (aq.2.2+1)))))))) (some (.inr (.inl ((aq.1.1,aq.1.2),(aq.2.1.1,aq.2.1.2)))))
def Nt(L:ByteArray):Option ((Int×List (List Int×Int))×Bool):=B_ (vx L 59) λS=>B_ (bD S.length 0) λ_=>B_ (idx S (((0:Int).toNat:Nat):Int)) λaa=>B_ (sE aa) λak=>B_ (aV (Dj S) ((0,[]),((ak.1,[]),1))) λbL=>match bL with|.inl cZ=>cond (!ak.2) (some ((0,[]),false)) (B_ (ue (cZ.2.1,cZ.2.2)) λdA=>cond (!dA) (some ((0,[]),false)) (B_ (Ns (cZ.2.1,cZ.2.2)) λep=>cond (! ep.toList==L.toList) (some ((0,[]),false)) (some ((cZ.2.1,cZ.2.2),true))))|.inr dF=>some ((dF.1.1,dF.1.2),dF.2)
def adw:a4:=⟨281,[iH],[.a [.d false bK,.o true 132 (.prod bF bK)],cc],λx=>Nt x⟩
def apj{ae:Prop}:bl ae adw:=bn [CO,CQ,CR,Ak,adv] [⟨5,[(2,.b 79 [.d false bK,.o true 132 (.prod bF bK)]),(7,.b 79 [.d false bK,.o true 132 (.prod bF bK)]),(8,aZ)],some (0,[(2,.b 79 [.d false bK,.o true 132 (.prod bF bK)]),(7,.b 79 [.d false bK,.o true 132 (.prod bF bK)])]),some [(2,.b 79 [.d false bK,.o true 132 (.prod bF bK)]),(3,cc)],false,none⟩] [] ⟨G4,G5,G7,Di,api,trivial⟩
def Nu(L:Int×List (List Int×Int))(ay:List Int)(S:Int):Option (Int⊕Unit⊕Bool):=cond (d_ (S<(L.2.length:Int))) (B_ (idx L.2 S) λaa=>B_ (m2 aa.1 ay) λak=>B_ (idx L.2 S) λaq=>cond (d_ (ak>aq.2)) (some (.inr (.inr false))) (some (.inl (W_ i64 (S+1))))) (some (.inr (.inl ())))
def HP(L:Int×List (List Int×Int))(ay:List Int):Option Bool:=B_ (aV (Nu L ay) 0) λv5=>match v5 with|.inl aM=>some true|.inr aN=>some aN
def adx:a4:=⟨353,[.d false (.prod bK (.list (.prod bF bK))),dy],[cc],λx=>HP x.1 x.2⟩
def apk{ae:Prop}:bl ae adx:=bn [C6] [⟨2,[(5,aZ)],some (0,[]),some [(4,cc)],false,none⟩] [cp 4 0] ⟨Hp,trivial⟩
def HQ(L:Int×List (List Int×Int))(aa:ao)(ak:ao×Int):Option (ao×Int⊕ao):=cond (d_ (ak.2<(aa.length:Int))) (B_ (idx aa ak.2) λaq=>B_ (HP (L.1,L.2) aq) λv5=>cond v5 (B_ (idx aa ak.2) λaM=>B_ (bH 24 ak.1 [aM]) λaN=>some (.inl (aN,W_ i64 (ak.2+1)))) (some (.inl (ak.1,W_ i64 (ak.2+1))))) (some (.inr ak.1))
def HR(L:Int×List (List Int×Int)):Option ao:=B_ (ue (L.1,L.2)) λS=>cond (!S) (some []) (B_ (HB L.1 (-6) 6) λaa=>B_ (aV (HQ L aa) ([],0)) λbg=>some bg)
def ady:a4:=⟨329,[.d false (.prod bK (.list (.prod bF bK)))],[.l (.o false 65 bF)],λx=>HR x⟩
def apl{ae:Prop}:bl ae ady:=bn [Ak,UO,adx] [cu 6 [(3,.l (.o false 65 bF)),(5,aZ)] 0 [(3,.l (.o false 65 bF))]] [cp 8 0] ⟨Di,ac3,apk,trivial⟩
def Nv(L:Int×List (List Int×Int)):Option Int:=B_ (ue (L.1,L.2)) λS=>cond (!S) (some (-1)) (B_ (HR (L.1,L.2)) λaa=>some (aa.length:Int))
def adz:a4:=⟨282,[.d false (.prod bK (.list (.prod bF bK)))],[aZ],λx=>Nv x⟩
def apm{ae:Prop}:bl ae adz:=bn [Ak,ady] [] [] ⟨Di,apl,trivial⟩
def HS(L:List (List Int×Int))(S:(List Int×Int)×ao×Int):Option ((List Int×Int)×ao×Int⊕(List Int×Int)×ao):=cond (d_ (S.2.2<(L.length:Int))) (B_ (idx L S.2.2) λaa=>B_ (bH 24 S.2.1 [aa.1]) λak=>some (.inl ((S.1.1,S.1.2),(ak,W_ i64 (S.2.2+1))))) (some (.inr ((S.1.1,S.1.2),S.2.1)))
def HT(L:List (List Int×Int))(aq:(List Int×Int)×ao)(aM:(List Int×Int)×List Int×Int)(aN:(List Int×Int)×List Int×ao×Int):Option ((List Int×Int)×List Int×ao×Int⊕(List Int×Int)×List Int×ao):=cond (d_ (aN.2.2.2<(aq.2.length:Int))) (B_ (idx aq.2 aN.2.2.2) λbg=>B_ (bH 8 [] bg) λbh=>B_ (idx L aN.2.2.2) λbG=>B_ (bD bh.length aM.2.2) λ_=>B_ (bD bh.length ((aM.2.2.toNat:Nat):Int)) λ_=>B_ (bH 24 aN.2.2.1 [bh.set aM.2.2.toNat bG.2]) λbE=>some (.inl ((aN.1.1,aN.1.2),(aN.2.1,(bE,W_ i64 (aN.2.2.2+1)))))) (some (.inr ((aN.1.1,aN.1.2),(aN.2.1,aN.2.2.1))))
def HU(L:List (List Int×Int))(aq:(List Int×Int)×ao)(aM:(List Int×Int)×List Int×Int):Option ((List Int×Int)×List Int×Int⊕(List Int×Int)×List Int):=cond (d_ (aM.2.2<(aq.2.length:Int))) (B_ (aV (HT L aq aM) ((aM.1.1,aM.1.2),(aM.2.1,([],0)))) λbL=>B_ (tZ bL.2.2) λcZ=>B_ (bH 8 bL.2.1 [cZ]) λdF=>some (.inl ((bL.1.1,bL.1.2),(dF,W_ i64 (aM.2.2+1))))) (some (.inr ((aM.1.1,aM.1.2),aM.2.1)))
def Dk(ep:List Int)(eS:Int)(dO:(List Int×Int)×(List Int×Int)×Int):Option ((List Int×Int)×(List Int×Int)×Int⊕(List Int×Int)×List Int×Int):=cond (d_ (dO.2.2<(ep.length:Int))) (B_ (idx ep dO.2.2) λeJ=>B_ (fA .i64 eJ eS) λhk=>B_ (bH 8 dO.2.1.1 [hk]) λhQ=>some (.inl ((dO.1.1,dO.1.2),((hQ,dO.2.1.2),W_ i64 (dO.2.2+1))))) (some (.inr ((dO.1.1,dO.1.2),(dO.2.1.1,dO.2.1.2))))
def adA(dA:(List Int×Int)×List Int)(lv:Int)(hS:(List Int×Int)×(List Int×Int)×Int):Option ((List Int×Int)×(List Int×Int)×Int⊕(List Int×Int)×List Int×Int):=cond (d_ (hS.2.2<(dA.2.length:Int))) (B_ (idx dA.2 hS.2.2) λka=>B_ (fA .i64 ka lv) λkb=>B_ (bH 8 hS.2.1.1 [kb]) λjC=>some (.inl ((hS.1.1,hS.1.2),((jC,hS.2.1.2),W_ i64 (hS.2.2+1))))) (some (.inr ((hS.1.1,hS.1.2),(hS.2.1.1,hS.2.1.2))))
def Nw(L:List (List Int×Int)):Option ((List Int×Int)×Bool):=B_ (aV (HS L) (([],0),([],0))) λaq=>B_ (tZ aq.2) λv5=>cond (v5==0) (some (([],0),false)) (B_ (aV (HU L aq) ((aq.1.1,aq.1.2),([],0))) λdA=>cond (d_ (v5<0)) (B_ (j9 dA.2 (-1)) λep=>B_ (vA ep) λdG=>B_ (C1 dG (W_ i64 (0-v5))) λeS=>B_ (fA .i64 (W_ i64 (0-v5)) eS) λe7=>B_ (aV (Dk ep eS) ((dA.1.1,dA.1.2),(([],e7),0))) λhR=>some ((hR.2.1,hR.2.2),true)) (B_ (vA dA.2) λjq=>B_ (C1 jq v5) λlv=>B_ (fA .i64 v5 lv) λk3=>B_ (aV (adA dA lv) ((dA.1.1,dA.1.2),(([],k3),0))) λvF=>some ((vF.2.1,vF.2.2),true)))
def adB:a4:=⟨354,[.d false (.list (.prod bF bK))],[.a [.o true 3 bK,.d false bK],cc],λx=>Nw x⟩
def apn{ae:Prop}:bl ae adB:=bn [UK,CZ,C2,Uy] [cu 3 [(2,.b 86 [.o true 3 bK,.d false bK]),(4,.l (.o false 65 bF)),(5,aZ)] 0 [(2,.b 86 [.o true 3 bK,.d false bK]),(4,.l (.o false 65 bF))],cu 11 [(2,.b 86 [.o true 3 bK,.d false bK]),(7,cQ 3),(8,aZ)] 2 [(2,.b 86 [.o true 3 bK,.d false bK]),(7,cQ 3)],cu 15 [(2,.b 86 [.o true 3 bK,.d false bK]),(7,cQ 3),(9,cs 65),(10,aZ)] 4 [(2,.b 86 [.o true 3 bK,.d false bK]),(7,cQ 3),(9,cs 65)],cu 27 [(2,.b 86 [.o true 3 bK,.d false bK]),(13,.b 86 [.o true 3 bK,.d false bK]),(14,aZ)] 6 [(2,.b 86 [.o true 3 bK,.d false bK]),(13,.b 86 [.o true 3 bK,.d false bK])]] [cp 29 0] ⟨acT,Hl,Ho,acA,trivial⟩
def Dl(L:List Int×Int):Option Bool:=B_ (m0 L.2 1 100000) λS=>cond S (B_ (pB L.1 10000000) λaa=>some aa) (some false)
def U2:a4:=⟨362,[.d false (.prod bF bK)],[cc],λx=>Dl x⟩
def adC{ae:Prop}:bl ae U2:=bn [qp,xp] [] [] ⟨rn,zX,trivial⟩
def Nx(L:Int×List (List Int×Int))(ay:List Int×Int)(ak:Int):Option (Int⊕Unit⊕Bool):=cond (d_ (ak<(L.2.length:Int))) (B_ (idx L.2 ak) λaq=>B_ (m2 aq.1 ay.1) λv5=>B_ (idx L.2 ak) λaM=>cond (d_ (v5>W_ i64 (aM.2*ay.2))) (some (.inr (.inr false))) (some (.inl (W_ i64 (ak+1))))) (some (.inr (.inl ())))
def Ny(L:Int×List (List Int×Int))(ay:List Int×Int):Option Bool:=B_ (ue (L.1,L.2)) λS=>cond (!S) (some false) (B_ (Dl (ay.1,ay.2)) λaa=>cond (!aa) (some false) (cond ((ay.1.length:Int)!=L.1) (some false) (B_ (aV (Nx L ay) 0) λaN=>match aN with|.inl bg=>some true|.inr bh=>some bh)))
def adD:a4:=⟨355,[.d false (.prod bK (.list (.prod bF bK))),.d false (.prod bF bK)],[cc],λx=>Ny x.1 x.2⟩
def apo{ae:Prop}:bl ae adD:=bn [Ak,U2,C6] [⟨4,[(5,aZ)],some (0,[]),some [(4,cc)],false,none⟩] [cp 6 0] ⟨Di,adC,Hp,trivial⟩
def HV(L:List Int×Int)(ay:List Int×Int)(ak:Int):Option (Int⊕Unit⊕Int):=cond (d_ (ak<(L.1.length:Int))) (B_ (idx L.1 ak) λaq=>B_ (idx ay.1 ak) λv5=>cond (W_ i64 (aq*ay.2)!=W_ i64 (v5*L.2)) (B_ (Ae (d_ (W_ i64 (aq*ay.2)<W_ i64 (v5*L.2)))) λaM=>some (.inr (.inr (W_ i64 (1-W_ i64 (2*aM)))))) (some (.inl (W_ i64 (ak+1))))) (some (.inr (.inl ())))
def HW(L:List Int×Int)(ay:List Int×Int):Option Int:=B_ (Dl (L.1,L.2)) λS=>cond (!S) (some 0) (B_ (Dl (ay.1,ay.2)) λaa=>cond (!aa) (some 0) (cond ((L.1.length:Int)!=(ay.1.length:Int)) (some 0) (B_ (aV (HV L ay) 0) λaN=>match aN with|.inl bg=>some 0|.inr bh=>some bh)))
def adE:a4:=⟨363,[.d false (.prod bF bK),.d false (.prod bF bK)],[aZ],λx=>HW x.1 x.2⟩
def app{ae:Prop}:bl ae adE:=bn [U2,M3] [⟨4,[(5,aZ)],some (0,[]),some [(4,aZ)],false,none⟩] [cp 6 0,cp 7 0] ⟨adC,UV,trivial⟩
def U3(ay:List Int×Int)(S:List (List Int×Int)×Int):Option (List (List Int×Int)×Int⊕List (List Int×Int)×Int):=cond (d_ (S.2>0)) (B_ (bD S.1.length (W_ i64 (S.2-1))) λ_=>B_ (idx S.1 (((W_ i64 (S.2-(1:Int))).toNat:Nat):Int)) λaa=>B_ (HW (ay.1,ay.2) aa) λak=>cond (d_ (ak<0)) (some (.inl (S.1,W_ i64 (S.2-1)))) (some (.inr (S.1,S.2)))) (some (.inr (S.1,S.2)))
def Nz(L:List (List Int×Int))(ay:List Int×Int):Option (List (List Int×Int)):=B_ (aV (U3 ay) (L,(L.length:Int))) λaq=>cond (d_ (aq.2>0)) (B_ (bD aq.1.length (W_ i64 (aq.2-1))) λ_=>B_ (idx aq.1 (((W_ i64 (aq.2-(1:Int))).toNat:Nat):Int)) λv5=>B_ (HW (ay.1,ay.2) v5) λaM=>cond (aM==0) (some aq.1) (B_ (eZ aq.1 aq.2 (aq.1.length:Int)) λaN=>B_ (eZ aq.1 (aq.2.toNat:Int) ((aq.1.length:Int).toNat:Int)) λbg=>B_ (bH 32 [] bg) λbh=>B_ (eZ aq.1 0 aq.2) λbG=>B_ (bH 32 bG [(ay.1,ay.2)]) λbE=>B_ (bH 32 bE bh) λbL=>some bL)) (B_ (eZ aq.1 aq.2 (aq.1.length:Int)) λcZ=>B_ (eZ aq.1 (aq.2.toNat:Int) ((aq.1.length:Int).toNat:Int)) λdF=>B_ (bH 32 [] dF) λdA=>B_ (eZ aq.1 0 aq.2) λep=>B_ (bH 32 ep [(ay.1,ay.2)]) λdG=>B_ (bH 32 dG dA) λeS=>some eS)
def adF:a4:=⟨356,[.mv false 86 (.prod bF bK),.d false (.prod bF bK)],[.l (.o false 86 (.prod bF bK))],λx=>Nz x.1 x.2⟩
def apq{ae:Prop}:bl ae adF:=vu [37] [(7,[0,1,2,6,3,4,5,7,8])] [adE] [cu 2 [(0,.l (.o false 86 (.prod bF bK))),(5,aZ)] 0 [(0,.l (.o false 86 (.prod bF bK))),(5,aZ)]] [cp 2 0,cp 4 0,cp 7 0] [] ⟨app,trivial⟩ trivial
def HX(rec:Int×List (List Int×Int)->Int->List (List Int×Int)->List (List Int×Int)->Option (List (List Int×Int)))(L:Int×List (List Int×Int))(du:List (List Int×Int))(aq:List (List Int×Int)×Int):Option (List (List Int×Int)×Int⊕List (List Int×Int)):=cond (d_ (aq.2<(L.2.length:Int))) (B_ (bH 32 [] du) λv5=>B_ (idx L.2 aq.2) λaM=>B_ (bH 32 v5 [(aM.1,aM.2)]) λaN=>B_ (rec (L.1,L.2) (W_ i64 (aq.2+1)) aN aq.1) λbg=>some (.inl (bg,W_ i64 (aq.2+1)))) (some (.inr aq.1))
def xB(rec:Int×List (List Int×Int)->Int->List (List Int×Int)->List (List Int×Int)->Option (List (List Int×Int)))(L:Int×List (List Int×Int))(ay:Int)(du:List (List Int×Int))(vH:List (List Int×Int)):Option (List (List Int×Int)):=cond ((du.length:Int)==L.1) (B_ (Nw du) λS=>cond S.2 (B_ (Ny (L.1,L.2) (S.1.1,S.1.2)) λaa=>cond aa (B_ (Nz vH (S.1.1,S.1.2)) λak=>some ak) (some vH)) (some vH)) (B_ (aV (HX rec L du) (vH,ay)) λbh=>some bh)
def vI:Nat->Int×List (List Int×Int)->Int->List (List Int×Int)->List (List Int×Int)->Option (List (List Int×Int))|0=>λ_ _ _ _=>none|n+1=>xB (vI n)
def U4(L:Int×List (List Int×Int))(ay:Int)(du:List (List Int×Int))(vH:List (List Int×Int)):Option (List (List Int×Int)):=vI 30000 L ay du vH
def U5:a4:=⟨330,[.d false (.prod bK (.list (.prod bF bK))),eA,.d false (.list (.prod bF bK)),.mv false 86 (.prod bF bK)],[.l (.o false 86 (.prod bF bK))],λx=>U4 x.1 x.2.1 x.2.2.1 x.2.2.2⟩
def sI(rec:Int×List (List Int×Int)->Int->List (List Int×Int)->List (List Int×Int)->Option (List (List Int×Int))):a4:=⟨330,[.d false (.prod bK (.list (.prod bF bK))),.d false bK,.d false (.list (.prod bF bK)),.mv false 86 (.prod bF bK)],[.l (.o false 86 (.prod bF bK))],λx=>rec x.1 x.2.1 x.2.2.1 x.2.2.2⟩
def adG(rec:Int×List (List Int×Int)->Int->List (List Int×Int)->List (List Int×Int)->Option (List (List Int×Int))):db:=⟨Tryz.prog,oX,[adB,adD,adF,sI rec],[cu 7 [(3,.l (.o false 86 (.prod bF bK))),(11,aZ)] 0 [(3,.l (.o false 86 (.prod bF bK)))]],[cp 9 0],[],[],[]⟩
def apr(rec:Int×List (List Int×Int)->Int->List (List Int×Int)->List (List Int×Int)->Option (List (List Int×Int)))(x:i0.den (sI rec).ps):wy (adG rec) Tryz.f330 (sI rec).ps (sI rec).rs x=(sI (xB rec)).F x:=by kernel_rfl
def aps{ae:Prop}(rec:Int×List (List Int×Int)->Int->List (List Int×Int)->List (List Int×Int)->Option (List (List Int×Int)))(c:e3 Tryz.prog (sI rec).f/\gf ae Tryz.prog (sI rec)):e3 Tryz.prog (sI (xB rec)).f/\gf ae Tryz.prog (sI (xB rec)):=Gz (N:=adG rec) pA ⟨apn,apo,apq,c,trivial⟩ func330 (by kernel_rfl) (apr rec)
def adH{ae:Prop}:(n:Nat)->e3 Tryz.prog (sI (vI n)).f/\gf ae Tryz.prog (sI (vI n))|0=>⟨⟨Tryz.f330,_,func330,by kernel_rfl,rfl⟩,λx u c=>by cases c⟩|n+1=>aps _ (adH n)
def apt{ae:Prop}:e3 Tryz.prog U5.f/\gf ae Tryz.prog U5:=adH 30000
def HY(L:Int×List (List Int×Int)):Option (List (List Int×Int)):=B_ (ue (L.1,L.2)) λS=>cond (!S) (some []) (B_ (U4 (L.1,L.2) 0 [] []) λaa=>some aa)
def adI:a4:=⟨283,[.d false (.prod bK (.list (.prod bF bK)))],[.l (.o false 86 (.prod bF bK))],λx=>HY x⟩
def apu{ae:Prop}:bl ae adI:=bn [Ak,U5] [] [] ⟨Di,apt,trivial⟩
def NA(L:List Int×Int):Option ByteArray:=cond ((L.1.length:Int)==0) (some ⟨#[]⟩) (cond (d_ (L.2<1)) (some ⟨#[]⟩) (cond (L.2==1) (B_ (sG L.1) λS=>some S) (B_ (sG L.1) λaa=>B_ (fl aa ⟨#[47]⟩) λak=>B_ (iT L.2) λaq=>B_ (fl ak aq) λv5=>some v5)))
def adJ:a4:=⟨284,[.d false (.prod bF bK)],[gM],λx=>NA x⟩
def apv{ae:Prop}:bl ae adJ:=bn [z6,tS] [] [cp 5 0] ⟨CX,vy,trivial⟩
def Dm(aq:List (List Int×Int))(v5:List ByteArray×Int):Option (List ByteArray×Int⊕List ByteArray):=cond (d_ (v5.2<(aq.length:Int))) (B_ (idx aq v5.2) λaM=>B_ (NA aM) λaN=>B_ (bH 16 v5.1 [aN]) λbg=>some (.inl (bg,W_ i64 (v5.2+1)))) (some (.inr v5.1))
def NB(L:ByteArray)(ay:ByteArray):Option ByteArray:=B_ (Nt ay) λS=>cond (!S.2) (some ⟨#[110,111]⟩) (cond (L.toList==(⟨#[99,111,117,110,116]⟩:ByteArray).toList) (B_ (Nv (S.1.1,S.1.2)) λaa=>B_ (iT aa) λak=>some ak) (B_ (HY (S.1.1,S.1.2)) λaq=>B_ (aV (Dm aq) ([],0)) λbh=>cond ((bh.length:Int)==0) (some ⟨#[45]⟩) (B_ (sF bh ⟨#[32]⟩) λbG=>some bG)))
def adK:a4:=⟨228,[iH,iH],[gM],λx=>NB x.1 x.2⟩
def apw{ae:Prop}:bl ae adK:=bn [adw,adz,tS,adI,adJ,CW] [cu 9 [(7,jb 9),(9,aZ)] 0 [(7,jb 9)]] [] ⟨apj,apm,vy,apu,apv,Hj,trivial⟩
def NC(L:ao)(ay:List Int):Option Int:=B_ (j8 L) λS=>cond (!S) (some (-1)) (B_ (zY ay) λaa=>cond (!aa) (some (-1)) (cond ((ay.length:Int)!=2) (some (-1)) (B_ (tY L ay) λak=>some ak)))
def adL:a4:=⟨230,[cm,dy],[aZ],λx=>NC x.1 x.2⟩
def apx{ae:Prop}:bl ae adL:=bn [lw,G6,ML] [] [] ⟨l6,Mp,UG,trivial⟩
def HZ(ay:List Int)(aq:Int×Int)(aM:ao)(aN:List Int×Int):Option (List Int×Int⊕List Int):=cond (d_ (aN.2<(aM.length:Int))) (B_ (idx aM aN.2) λbg=>B_ (m2 ay bg) λbh=>B_ (bD aN.1.length (W_ i64 (bh-aq.2))) λ_=>B_ (idx aN.1 (((W_ i64 (bh-aq.2)).toNat:Nat):Int)) λbG=>B_ (bD aN.1.length (W_ i64 (bh-aq.2))) λ_=>B_ (bD aN.1.length (((W_ i64 (bh-aq.2)).toNat:Nat):Int)) λ_=>some (.inl (aN.1.set (W_ i64 (bh-aq.2)).toNat (W_ i64 (bG+1)),W_ i64 (aN.2+1)))) (some (.inr aN.1))
def ND(L:ao)(ay:List Int):Option (List Int):=B_ (j8 L) λS=>cond (!S) (some []) (B_ (nM L) λaa=>cond (d_ (aa>2000)) (some []) (cond ((ay.length:Int)!=2) (some []) (B_ (pB ay 12) λak=>cond (!ak) (some []) (B_ (Dg L ay) λaq=>B_ (nV 8 (W_ i64 (W_ i64 (aq.1-aq.2)+1)) 0) λv5=>B_ (Ag L) λaM=>B_ (aV (HZ ay aq aM) (v5,0)) λbE=>some bE))))
def adM:a4:=⟨232,[cm,dy],[cQ 3],λx=>ND x.1 x.2⟩
def apy{ae:Prop}:bl ae adM:=bn [lw,Ac,xp,UQ,UW,C6] [cu 7 [(7,cQ 3),(9,aZ)] 0 [(7,cQ 3)]] [] ⟨l6,Da,zX,ac5,adf,Hp,trivial⟩
def U6(L:ao×ao)(ay:ByteArray)(du:ByteArray):Option ByteArray:=cond (ay.toList==(⟨#[99,111,117,110,116]⟩:ByteArray).toList) (B_ (NB ay du) λS=>some S) (cond (ay.toList==(⟨#[118,101,114,116,105,99,101,115]⟩:ByteArray).toList) (B_ (NB ay du) λaa=>some aa) (cond (ay.toList==(⟨#[97,116]⟩:ByteArray).toList) (B_ (sE du) λak=>cond ak.2 (B_ (xA L.1 ak.1) λaq=>B_ (iT aq) λv5=>some v5) (some ⟨#[119,104,97,116]⟩)) (B_ (rp du) λaM=>cond (!aM.2) (some ⟨#[119,104,97,116]⟩) (cond (ay.toList==(⟨#[112,108,97,99,101]⟩:ByteArray).toList) (B_ (NC L.1 aM.1) λaN=>B_ (iT aN) λbg=>some bg) (cond (ay.toList==(⟨#[108,97,121,101,114,115]⟩:ByteArray).toList) (B_ (ND L.1 aM.1) λbh=>B_ (Ai bh ⟨#[110,111]⟩) λbG=>some bG) (some ⟨#[119,104,97,116]⟩))))))
def adN:a4:=⟨161,[.d false (.prod fN fN),iH,iH],[gM],λx=>U6 x.1 x.2.1 x.2.2⟩
def apz{ae:Prop}:bl ae adN:=bn [adK,CQ,MY,tS,CR,adL,adM,Nl] [] [] ⟨apw,G5,UN,vy,G7,apx,apy,U0,trivial⟩
def Dn(L:List Int)(S:Int):Option (Int⊕Unit⊕Bool):=cond (d_ (S<(L.length:Int))) (B_ (idx L S) λaa=>B_ (m0 aa 1 30) λak=>cond (!ak) (some (.inr (.inr false))) (cond (d_ (S>0)) (B_ (idx L S) λaq=>B_ (idx L (W_ i64 (S-1))) λv5=>cond (d_ (aq<=v5)) (some (.inr (.inr false))) (some (.inl (W_ i64 (S+1))))) (some (.inl (W_ i64 (S+1)))))) (some (.inr (.inl ())))
def NE(L:List Int):Option Bool:=B_ (aV (Dn L) 0) λaM=>match aM with|.inl aN=>B_ (m0 (L.length:Int) 1 6) λbh=>some bh|.inr bg=>some bg
def adO:a4:=⟨288,[dy],[cc],λx=>NE x⟩
def apA{ae:Prop}:bl ae adO:=bn [qp] [⟨2,[(3,aZ)],some (0,[]),some [(2,cc)],false,none⟩] [cp 4 0] ⟨rn,trivial⟩
def U7(L:List Int)(ay:Int)(aq:List Int×Int)(aM:List Int×Int):Option (List Int×Int⊕List Int):=cond (d_ (aM.2<=ay)) (B_ (bD aM.1.length aM.2) λ_=>B_ (idx aM.1 ((aM.2.toNat:Nat):Int)) λaN=>B_ (idx L aq.2) λbg=>B_ (bD aM.1.length (W_ i64 (aM.2-bg))) λ_=>B_ (idx aM.1 (((W_ i64 (aM.2-bg)).toNat:Nat):Int)) λbh=>B_ (bD aM.1.length aM.2) λ_=>B_ (bD aM.1.length ((aM.2.toNat:Nat):Int)) λ_=>some (.inl (aM.1.set aM.2.toNat (W_ i64 (aN+bh)),W_ i64 (aM.2+1)))) (some (.inr aM.1))
def U8(L:List Int)(ay:Int)(aq:List Int×Int):Option (List Int×Int⊕List Int):=cond (d_ (aq.2<(L.length:Int))) (B_ (idx L aq.2) λv5=>B_ (aV (U7 L ay aq) (aq.1,v5)) λbG=>some (.inl (bG,W_ i64 (aq.2+1)))) (some (.inr aq.1))
def NF(L:List Int)(ay:Int):Option Int:=B_ (NE L) λS=>cond (!S) (some (-1)) (B_ (m0 ay 0 500) λaa=>cond (!aa) (some (-1)) (B_ (nV 8 (W_ i64 (ay+1)) 0) λak=>B_ (bD ak.length 0) λ_=>B_ (bD ak.length (((0:Int).toNat:Nat):Int)) λ_=>B_ (aV (U8 L ay) (ak.set (0:Int).toNat 1,0)) λbE=>B_ (bD bE.length ay) λ_=>B_ (idx bE (((ay).toNat:Nat):Int)) λbL=>some bL))
def adP:a4:=⟨233,[dy,eA],[aZ],λx=>NF x.1 x.2⟩
def apB{ae:Prop}:bl ae adP:=bn [adO,qp] [cu 6 [(5,cQ 3),(6,aZ)] 0 [(5,cQ 3)],cu 9 [(5,cQ 3),(7,aZ)] 2 [(5,cQ 3)]] [cp 11 0] ⟨apA,rn,trivial⟩
def NG(L:List Int)(ay:List Int):Option (List Int):=B_ (m1 L ay) λS=>B_ (z8 L) λaa=>B_ (m1 aa ay) λak=>B_ (xx ak S) λaq=>B_ (j9 L aq) λv5=>B_ (l5 aa v5) λaM=>some aM
def adQ:a4:=⟨290,[dy,dy],[cQ 3],λx=>NG x.1 x.2⟩
def apC{ae:Prop}:bl ae adQ:=bn [vz,UA,UC,CZ,z0] [] [] ⟨xt,acE,acG,Hl,CT,trivial⟩
def H0(L:List Int×List Int)(ak:ao×List Int):Option (ao×List Int⊕ao×List Int):=B_ (m1 ak.2 L.2) λaq=>cond (d_ (aq>0)) (B_ (bH 24 ak.1 [ak.2]) λv5=>B_ (NG ak.2 L.2) λaM=>some (.inl (v5,aM))) (some (.inr (ak.1,ak.2)))
def Al(L:List Int×List Int):Option ao:=B_ (vD (L.1,L.2)) λS=>cond (!S) (some []) (B_ (bH 8 [] L.1) λaa=>B_ (aV (H0 L) ([],aa)) λaN=>B_ (bH 24 aN.1 [aN.2]) λbg=>some bg)
def Va:a4:=⟨235,[.d false (.prod bF bF)],[.l (.o false 65 bF)],λx=>Al x⟩
def adR{ae:Prop}:bl ae Va:=bn [HH,vz,adQ] [cu 5 [(3,.l (.o false 65 bF)),(4,vt)] 0 [(3,.l (.o false 65 bF)),(4,vt)]] [] ⟨M2,xt,apC,trivial⟩
def H1(S:ao)(aa:List Int×Int):Option (List Int×Int⊕List Int):=cond (d_ (W_ i64 (aa.2+1)<(S.length:Int))) (B_ (idx S (W_ i64 (aa.2-1))) λak=>B_ (idx S (W_ i64 (aa.2+1))) λaq=>B_ (tW ak aq) λv5=>B_ (idx S aa.2) λaM=>B_ (idx aM 0) λaN=>B_ (Ae (aN==0)) λbg=>B_ (bD v5.length bg) λ_=>B_ (idx v5 (((bg).toNat:Nat):Int)) λbh=>B_ (idx S aa.2) λbG=>B_ (idx bG bg) λbE=>B_ (fA .i64 bh bE) λbL=>B_ (bH 8 aa.1 [bL]) λcZ=>some (.inl (cZ,W_ i64 (aa.2+1)))) (some (.inr aa.1))
def H2(L:List Int×List Int):Option (List Int):=B_ (Al (L.1,L.2)) λS=>B_ (aV (H1 S) ([],1)) λdF=>some dF
def adS:a4:=⟨236,[.d false (.prod bF bF)],[cQ 3],λx=>H2 x⟩
def apD{ae:Prop}:bl ae adS:=bn [Va,Hr,M3] [cu 4 [(3,cQ 3),(5,aZ)] 0 [(3,cQ 3)]] [cp 6 0,cp 8 0] ⟨adR,MG,UV,trivial⟩
def Vb(L:List ByteArray):Option ByteArray:=B_ (idx L 2) λS=>B_ (rp S) λaa=>cond (!aa.2) (some ⟨#[119,104,97,116]⟩) (B_ (idx L 0) λak=>cond (ak.toList==(⟨#[119,97,121,115]⟩:ByteArray).toList) (B_ (idx L 1) λaq=>B_ (sE aq) λv5=>cond (!v5.2) (some ⟨#[119,104,97,116]⟩) (B_ (NF aa.1 v5.1) λaM=>B_ (iT aM) λaN=>some aN)) (B_ (idx L 1) λbg=>B_ (rp bg) λbh=>cond (!bh.2) (some ⟨#[119,104,97,116]⟩) (B_ (idx L 0) λbG=>cond (! bG.toList==(⟨#[115,112,108,105,116]⟩:ByteArray).toList) (B_ (idx L 0) λbE=>cond (! bE.toList==(⟨#[116,117,114,110,115]⟩:ByteArray).toList) (some ⟨#[119,104,97,116]⟩) (B_ (vD (bh.1,aa.1)) λbL=>cond (!bL) (some ⟨#[110,111]⟩) (B_ (idx L 0) λcZ=>cond (cZ.toList==(⟨#[115,112,108,105,116]⟩:ByteArray).toList) (B_ (Al (bh.1,aa.1)) λdF=>B_ (Ah dF) λdA=>some dA) (B_ (H2 (bh.1,aa.1)) λep=>B_ (Ai ep ⟨#[45]⟩) λdG=>some dG)))) (B_ (vD (bh.1,aa.1)) λeS=>cond (!eS) (some ⟨#[110,111]⟩) (B_ (idx L 0) λe7=>cond (e7.toList==(⟨#[115,112,108,105,116]⟩:ByteArray).toList) (B_ (Al (bh.1,aa.1)) λdO=>B_ (Ah dO) λeJ=>some eJ) (B_ (H2 (bh.1,aa.1)) λhk=>B_ (Ai hk ⟨#[45]⟩) λhQ=>some hQ))))))
def adT:a4:=⟨162,[.d false (.list .str)],[gM],λx=>Vb x⟩
def apE{ae:Prop}:bl ae adT:=bn [CR,CQ,adP,tS,HH,Va,UZ,adS,Nl] [] [] ⟨G7,G5,apB,vy,M2,adR,ado,apD,U0,trivial⟩
def Am(L:ao×ao)(ay:List ByteArray):Option ByteArray:=cond ((ay.length:Int)==1) (B_ (idx ay 0) λS=>B_ (U1 (L.1,L.2) S) λaa=>some aa) (cond ((ay.length:Int)==2) (B_ (idx ay 0) λak=>B_ (idx ay 1) λaq=>B_ (U6 (L.1,L.2) ak aq) λv5=>some v5) (cond ((ay.length:Int)==3) (B_ (Vb ay) λaM=>some aM) (some ⟨#[119,104,97,116]⟩)))
def adU:a4:=⟨76,[.d false (.prod fN fN),.d false (.list .str)],[gM],λx=>Am x.1 x.2⟩
def apF{ae:Prop}:bl ae adU:=bn [adt,adN,adT] [] [cp 3 0,cp 5 0] ⟨apg,apz,apE,trivial⟩
def Ao(L:ao×ao)(ay:ByteArray):Option ((ao×ao)×ByteArray):=B_ (CY (L.1,L.2)) λS=>B_ (vx ay 32) λaa=>B_ (Df (L.1,L.2) aa) λak=>cond (ay.toList==(⟨#[107,101,101,112]⟩:ByteArray).toList) (B_ (nL L.1) λaq=>some ((S.1,aq),⟨#[111,107]⟩)) (cond (ay.toList==(⟨#[115,119,97,112]⟩:ByteArray).toList) (B_ (nL L.2) λv5=>B_ (nL L.1) λaM=>some ((v5,aM),⟨#[111,107]⟩)) (cond ak.2.2 (cond (!ak.2.1) (some ((S.1,S.2),⟨#[110,111]⟩)) (cond ak.2.2 (B_ (nL ak.1) λaN=>B_ (z7 ak.1) λbg=>some ((aN,S.2),bg)) (B_ (Am (L.1,L.2) aa) λbh=>some ((S.1,S.2),bh)))) (cond ak.2.2 (B_ (nL ak.1) λbG=>B_ (z7 ak.1) λbE=>some ((bG,S.2),bE)) (B_ (Am (L.1,L.2) aa) λbL=>some ((S.1,S.2),bL)))))
def adV:a4:=⟨10,[.d false (.prod fN fN),iH],[.a [.o true 65 bF,.o true 65 bF],gM],λx=>Ao x.1 x.2⟩
def apG{ae:Prop}:bl ae adV:=bn [acw,CO,ac0,CU,Uv,adU] [] [cp 15 0,cp 16 0] ⟨aoK,G4,aoW,Hf,acv,apF,trivial⟩
def oj(L:List Int):Option (List Int):=B_ (bH 8 [] L) λS=>some S
def vJ:a4:=⟨99,[dy],[cQ 3],λx=>oj x⟩
def xC{ae:Prop}:bl ae vJ:=bn [] [] [] trivial
def uf(L:ao)(S:ao×Int):Option (ao×Int⊕ao):=cond (d_ (S.2<(L.length:Int))) (B_ (idx L S.2) λaa=>B_ (oj aa) λak=>B_ (bH 24 S.1 [ak]) λaq=>some (.inl (aq,W_ i64 (S.2+1)))) (some (.inr S.1))
def ol(L:ao):Option ao:=B_ (aV (uf L) ([],0)) λv5=>some v5
def Ap:a4:=⟨34,[cm],[cs 65],λx=>ol x⟩
def Do{ae:Prop}:bl ae Ap:=bn [vJ] [cu 3 [(3,cs 65),(8,aZ)] 0 [(3,cs 65)]] [] ⟨xC,trivial⟩
def Vc(L ay:ByteArray):Option (List ByteArray):=CE L ay
def Vd:a4:=⟨100,[iH,iH],[jb 9],λx=>Vc x.1 x.2⟩
def apH{ae:Prop}:e3 Tryz.prog Vd.f/\gf ae Tryz.prog Vd:=⟨⟨Tryz.f100,_,func100,by kernel_rfl,rfl⟩,anK {abZ with} (by kernel_rfl) anW rfl rfl⟩
def vK(L:ByteArray)(ay:Int):Option (List ByteArray):=B_ (Vc L (no [ay])) λS=>some S
def Dp:a4:=⟨35,[iH,.d false (.int .u8)],[jb 9],λx=>vK x.1 x.2⟩
def H3{ae:Prop}:bl ae Dp:=bn [Vd] [] [] ⟨apH,trivial⟩
def Ve(L:List ByteArray)(ay:ByteArray):Option ByteArray:=GS L ay
def Vf:a4:=⟨103,[.d false (.list .str),iH],[gM],λx=>Ve x.1 x.2⟩
def apI:e3 Tryz.prog Vf.f/\gf False Tryz.prog Vf:=⟨⟨Tryz.f103,_,func103,by kernel_rfl,rfl⟩,anI anT anU rfl⟩
def sK(L:List ByteArray)(ay:ByteArray):Option ByteArray:=B_ (Ve L ay) λS=>some S
def H4:a4:=⟨39,[.d false (.list .str),iH],[gM],λx=>sK x.1 x.2⟩
def NH:bl False H4:=bn [Vf] [] [] ⟨apI,trivial⟩
def vL(L:ByteArray):Option (Int×Bool):=GV L
def H5:a4:=⟨55,[iH],[aZ,cc],λx=>vL x⟩
def Vg:e3 Tryz.prog H5.f/\gf False Tryz.prog H5:=an6
def m4(L:Int)(ay:Int)(du:Int):Option Bool:=cond (d_ (L>=ay)) (some (d_ (L<=du))) (some false)
def qr:a4:=⟨125,[eA,eA,eA],[cc],λx=>m4 x.1 x.2.1 x.2.2⟩
def rr{ae:Prop}:bl ae qr:=bn [] [] [] trivial
def Vh(L:List Int)(ay:Int)(du:Int)(S:Int):Option (Int⊕Unit⊕Bool):=cond (d_ (S<(L.length:Int))) (B_ (idx L S) λaa=>B_ (m4 aa ay du) λak=>cond (!ak) (some (.inr (.inr false))) (some (.inl (W_ i64 (S+1))))) (some (.inr (.inl ())))
def rt(L:List Int)(ay:Int)(du:Int):Option Bool:=B_ (aV (Vh L ay du) 0) λaq=>match aq with|.inl v5=>some true|.inr aM=>some aM
def Dq:a4:=⟨204,[dy,eA,eA],[cc],λx=>rt x.1 x.2.1 x.2.2⟩
def H6{ae:Prop}:bl ae Dq:=bn [qr] [⟨2,[(11,aZ)],some (0,[]),some [(6,cc)],false,none⟩] [] ⟨rr,trivial⟩
def vM(L:List Int):Option Bool:=B_ (m4 (L.length:Int) 1 3) λS=>cond S (B_ (rt L (-1000) 1000) λaa=>some aa) (some false)
def Aq:a4:=⟨130,[dy],[cc],λx=>vM x⟩
def Ds{ae:Prop}:bl ae Aq:=bn [qr,Dq] [] [] ⟨rr,H6,trivial⟩
def Vi(L:List Int):Option (List Int×Bool):=B_ (vM L) λS=>cond (!S) (some ([],false)) (some (L,true))
def adW:a4:=⟨126,[.mv true 3 bK],[cQ 3,cc],λx=>Vi x⟩
def apJ{ae:Prop}:bl ae adW:=bn [Aq] [] [] ⟨Ds,trivial⟩
def adX(S:List ByteArray)(aa:List Int×Int):Option (List Int×Int⊕List Int⊕List Int×Bool):=cond (d_ (aa.2<(S.length:Int))) (B_ (idx S aa.2) λak=>B_ (vL ak) λaq=>cond (!aq.2) (some (.inr (.inr ([],false)))) (B_ (bH 8 aa.1 [aq.1]) λv5=>some (.inl (v5,W_ i64 (aa.2+1))))) (some (.inr (.inl aa.1)))
def ug(L:ByteArray):Option (List Int×Bool):=B_ (vK L 44) λS=>B_ (aV (adX S) ([],0)) λaM=>match aM with|.inl aN=>B_ (Vi aN) λbh=>some (bh.1,bh.2)|.inr bg=>some (bg.1,bg.2)
def NI:a4:=⟨56,[iH],[cQ 3,cc],λx=>ug x⟩
def Vj:bl False NI:=bn [Dp,H5,adW] [⟨3,[(4,cQ 3),(12,aZ)],some (0,[(4,cQ 3)]),some [(2,cQ 3),(3,cc)],false,none⟩] [] ⟨H3,Vg,apJ,trivial⟩
def vN(L:List Int)(ay:Int):Option Bool:=cond ((L.length:Int)==2) (B_ (rt L (W_ i64 (0-ay)) ay) λS=>some S) (some false)
def Dt:a4:=⟨133,[dy,eA],[cc],λx=>vN x.1 x.2⟩
def H7{ae:Prop}:bl ae Dt:=bn [Dq] [] [] ⟨H6,trivial⟩
def nN(L:List Int)(ay:List Int):Option (List Int):=B_ (idx L 0) λS=>B_ (idx ay 0) λaa=>B_ (idx L 1) λak=>B_ (idx ay 1) λaq=>some [W_ i64 (S-aa),W_ i64 (ak-aq)]
def xD:a4:=⟨194,[dy,dy],[cQ 3],λx=>nN x.1 x.2⟩
def Ar{ae:Prop}:bl ae xD:=bn [] [] [cp 1 0] trivial
def ly(L:List Int)(ay:List Int):Option Int:=B_ (idx L 0) λS=>B_ (idx ay 1) λaa=>B_ (idx L 1) λak=>B_ (idx ay 0) λaq=>some (W_ i64 (W_ i64 (S*aa)-W_ i64 (ak*aq)))
def xE:a4:=⟨148,[dy,dy],[aZ],λx=>ly x.1 x.2⟩
def As{ae:Prop}:bl ae xE:=bn [] [] [cp 1 0] trivial
def uh(L:List Int)(ay:List Int)(du:List Int):Option Int:=B_ (nN ay L) λS=>B_ (nN du L) λaa=>B_ (ly S aa) λak=>some ak
def Du:a4:=⟨187,[dy,dy,dy],[aZ],λx=>uh x.1 x.2.1 x.2.2⟩
def H8{ae:Prop}:bl ae Du:=bn [xD,xE] [] [] ⟨Ar,As,trivial⟩
def NJ(L:Int):Option Bool:=some (L !=L)
def adY:a4:=⟨248,[eA],[cc],λx=>NJ x⟩
def apK{ae:Prop}:bl ae adY:=bn [] [] [] trivial
def Au(L:Int)(ay:Int):Option Int:=B_ (NJ L) λS=>B_ (NJ ay) λaa=>cond S (cond aa (some 0) (some (-1))) (cond aa (some 1) (cond (d_ (L<ay)) (some (-1)) (cond (d_ (L>ay)) (some 1) (some 0))))
def Vk:a4:=⟨196,[eA,eA],[aZ],λx=>Au x.1 x.2⟩
def adZ{ae:Prop}:bl ae Vk:=bn [adY] [] [] ⟨apK,trivial⟩
def Dv(L:List Int)(ay:List Int)(S:Int):Option (Int⊕Unit⊕Int):=cond (d_ (S<(L.length:Int))) (B_ (idx L S) λaa=>cond (d_ (S>=(ay.length:Int))) (some (.inr (.inr 1))) (B_ (idx ay S) λak=>B_ (Au aa ak) λaq=>cond (aq !=0) (some (.inr (.inr aq))) (some (.inl (W_ i64 (S+1)))))) (some (.inr (.inl ())))
def vO(L:List Int)(ay:List Int):Option Int:=B_ (aV (Dv L ay) 0) λv5=>match v5 with|.inl aM=>cond (d_ ((L.length:Int)<(ay.length:Int))) (some (-1)) (some 0)|.inr aN=>some aN
def Vl:a4:=⟨108,[dy,dy],[aZ],λx=>vO x.1 x.2⟩
def NK{ae:Prop}:bl ae Vl:=bn [Vk] [⟨2,[(11,aZ)],some (0,[]),some [(4,aZ)],false,none⟩] [] ⟨adZ,trivial⟩
def Ia(L:ao)(aa:Int):Option (Int⊕Unit⊕Bool):=cond (d_ (aa<(L.length:Int))) (B_ (idx L aa) λak=>B_ (vN ak 50) λaq=>cond (!aq) (some (.inr (.inr false))) (some (.inl (W_ i64 (aa+1))))) (some (.inr (.inl ())))
def Ib(L:ao)(bg:Int):Option (Int⊕Unit⊕Bool):=cond (d_ (bg<(L.length:Int))) (B_ (idx L bg) λbh=>B_ (fT .i64 (W_ i64 (bg+1)) (L.length:Int)) λbG=>B_ (idx L bG) λbE=>B_ (fT .i64 (W_ i64 (bg+2)) (L.length:Int)) λbL=>B_ (idx L bL) λcZ=>B_ (uh bh bE cZ) λdF=>cond (d_ (dF<=0)) (some (.inr (.inr false))) (cond (d_ (bg>0)) (B_ (idx L 0) λdA=>B_ (vO dA bh) λep=>cond (d_ (ep>=0)) (some (.inr (.inr false))) (cond (d_ (bg>0)) (cond (d_ (bg<W_ i64 ((L.length:Int)-1))) (B_ (idx L 0) λdG=>B_ (idx L (W_ i64 (bg+1))) λeS=>B_ (uh dG bh eS) λe7=>cond (d_ (e7<=0)) (some (.inr (.inr false))) (some (.inl (W_ i64 (bg+1))))) (some (.inl (W_ i64 (bg+1))))) (some (.inl (W_ i64 (bg+1)))))) (cond (d_ (bg>0)) (cond (d_ (bg<W_ i64 ((L.length:Int)-1))) (B_ (idx L 0) λdO=>B_ (idx L (W_ i64 (bg+1))) λeJ=>B_ (uh dO bh eJ) λhk=>cond (d_ (hk<=0)) (some (.inr (.inr false))) (some (.inl (W_ i64 (bg+1))))) (some (.inl (W_ i64 (bg+1))))) (some (.inl (W_ i64 (bg+1))))))) (some (.inr (.inl ())))
def kd(L:ao):Option Bool:=B_ (m4 (L.length:Int) 3 12) λS=>cond (!S) (some false) (B_ (aV (Ia L) 0) λv5=>match v5 with|.inl aM=>(B_ (aV (Ib L) 0) λhQ=>match hQ with|.inl hR=>some true|.inr jq=>some jq)|.inr aN=>some aN)
def lz:a4:=⟨101,[cm],[cc],λx=>kd x⟩
def l7{ae:Prop}:bl ae lz:=bn [qr,Dt,Du,Vl] [⟨4,[(14,aZ)],some (0,[]),some [(2,cc)],false,none⟩,⟨11,[(26,aZ)],some (2,[]),some [(2,cc)],false,none⟩] [cp 13 0] ⟨rr,H7,H8,NK,trivial⟩
def Dw(S:List ByteArray)(aa:ao×Int):Option (ao×Int⊕ao⊕ao×Bool):=cond (d_ (aa.2<(S.length:Int))) (B_ (idx S aa.2) λak=>B_ (ug ak) λaq=>cond (!aq.2) (some (.inr (.inr ([],false)))) (B_ (bH 24 aa.1 [aq.1]) λv5=>some (.inl (v5,W_ i64 (aa.2+1))))) (some (.inr (.inl aa.1)))
def Dx(L:ByteArray):Option (ao×Bool):=B_ (vK L 32) λS=>B_ (aV (Dw S) ([],0)) λaM=>match aM with|.inl aN=>B_ (kd aN) λbh=>cond (!bh) (some ([],false)) (some (aN,true))|.inr bg=>some (bg.1,bg.2)
def Vm:a4:=⟨38,[iH],[cs 65,cc],λx=>Dx x⟩
def ad0:bl False Vm:=bn [Dp,NI,lz] [⟨3,[(4,cs 65),(12,aZ)],some (0,[(4,cs 65)]),some [(2,cs 65),(3,cc)],false,none⟩] [] ⟨H3,Vj,l7,trivial⟩
def Vn(L:Int):Option ByteArray:=GR L
def Vo:a4:=⟨118,[eA],[gM],λx=>Vn x⟩
def apL{ae:Prop}:e3 Tryz.prog Vo.f/\gf ae Tryz.prog Vo:=⟨⟨Tryz.f118,_,func118,by kernel_rfl,rfl⟩,anH abX ab0 rfl⟩
def k4(L:Int):Option ByteArray:=B_ (Vn L) λS=>some S
def Ic:a4:=⟨45,[eA],[gM],λx=>k4 x⟩
def NL{ae:Prop}:bl ae Ic:=bn [Vo] [] [] ⟨apL,trivial⟩
def NM(L:List Int)(S:List ByteArray×Int):Option (List ByteArray×Int⊕List ByteArray):=cond (d_ (S.2<(L.length:Int))) (B_ (idx L S.2) λaa=>B_ (k4 aa) λak=>B_ (bH 16 S.1 [ak]) λaq=>some (.inl (aq,W_ i64 (S.2+1)))) (some (.inr S.1))
def rv(L:List Int):Option ByteArray:=B_ (aV (NM L) ([],0)) λv5=>B_ (sK v5 ⟨#[44]⟩) λaM=>some aM
def Dy:a4:=⟨62,[dy],[gM],λx=>rv x⟩
def Ie:bl False Dy:=bn [Ic,H4] [cu 3 [(3,jb 9),(8,aZ)] 0 [(3,jb 9)]] [] ⟨NL,NH,trivial⟩
def If(L:List Int):Option ByteArray:=B_ (vM L) λS=>cond (!S) (some ⟨#[]⟩) (B_ (rv L) λaa=>some aa)
def Vp:a4:=⟨102,[dy],[gM],λx=>If x⟩
def ad1:bl False Vp:=bn [Aq,Dy] [] [] ⟨Ds,Ie,trivial⟩
def apM(L:ao)(aa:List ByteArray×Int):Option (List ByteArray×Int⊕List ByteArray):=cond (d_ (aa.2<(L.length:Int))) (B_ (idx L aa.2) λak=>B_ (If ak) λaq=>B_ (bH 16 aa.1 [aq]) λv5=>some (.inl (v5,W_ i64 (aa.2+1)))) (some (.inr aa.1))
def pC(L:ao):Option ByteArray:=B_ (kd L) λS=>cond (!S) (some ⟨#[]⟩) (B_ (aV (apM L) ([],0)) λaM=>B_ (sK aM ⟨#[32]⟩) λaN=>some aN)
def Vq:a4:=⟨37,[cm],[gM],λx=>pC x⟩
def ad2:bl False Vq:=bn [lz,Vp,H4] [cu 5 [(3,jb 9),(11,aZ)] 0 [(3,jb 9)]] [] ⟨l7,ad1,NH,trivial⟩
def Av(i:Nat)(m t:Int)(s:Int×ao):Option (Int×ao⊕ao):=cond (d_ (s.1<m)) (B_ s.2[i]? λC=>B_ (bD C.length s.1) λ_=>B_ s.2[i]? λC=>B_ C[s.1.toNat]? λv=>B_ s.2[i]? λC=>B_ (bD C.length s.1) λ_=>B_ s.2[i]? λC=>B_ C[s.1.toNat]? λ_=>some (.inl (W_ i64 (s.1+1),s.2.set i (C.set s.1.toNat (W_ i64 (v*t)))))) (some (.inr s.2))
def NN(n t:Int)(s:Int×ao):Option (Int×ao⊕ao):=cond (d_ (s.1<n)) (B_ (bD s.2.length s.1) λ_=>if s.1.toNat<s.2.length then B_ s.2[s.1.toNat]? λC=>B_ (aV (Av s.1.toNat C.length t) (0,s.2)) λq=>some (.inl (W_ i64 (s.1+1),q))else none) (some (.inr s.2))
def NO(L:ao)(ay:Int):Option ao:=B_ (ol L) λS=>B_ (aV (NN S.length ay) (0,S)) λq=>some q
def Aw:a4:=⟨105,[cm,eA],[cs 65],λx=>NO x.1 x.2⟩
noncomputable def ad3:db:=⟨Tryz.prog,oX,[Ap],[],[],[],[],[]⟩
def apN(x:i0.den Aw.ps):GY ad3 [⟨0,11,[⟨3,0,13⟩,⟨6,2,19⟩]⟩] Tryz.f105 Aw.ps Aw.rs x=Aw.F x:=by kernel_rfl
def apO{ae:Prop}:e3 Tryz.prog Aw.f/\gf ae Tryz.prog Aw:=ab8 (N:=ad3) pA ⟨Do,trivial⟩ func105 (by kernel_rfl) rfl apN
def NP(L:ao):Option (Unit×ao×Unit):=GK (λa b=>vO a b) L
def Vr:a4:=⟨191,[.io true 65 bF,.f 108],[],λx=>NP x.1⟩
def apP{ae:Prop}:e3 Tryz.prog Vr.f/\gf ae Tryz.prog Vr:=⟨⟨Tryz.f191,_,func191,by kernel_rfl,rfl⟩,ano anN rfl (NK (ae:=True)).1 (NK (ae:=True)).2⟩
def NQ(L:ao):Option (Unit×ao×Unit):=some ((),(L.reverse,()))
def Vs:a4:=⟨192,[.io true 65 bF],[],λx=>NQ x⟩
def apQ{ae:Prop}:e3 Tryz.prog Vs.f/\gf ae Tryz.prog Vs:=⟨⟨Tryz.f192,_,func192,by kernel_rfl,rfl⟩,ans anP rfl⟩
def NR(L:ao)(S:Int):Option (Int⊕Unit⊕ao×Bool):=cond (d_ (S<(L.length:Int))) (B_ (idx L S) λaa=>B_ (vN aa 50) λak=>cond (!ak) (some (.inr (.inr ([],false)))) (some (.inl (W_ i64 (S+1))))) (some (.inr (.inl ())))
def Dz(bh:ao×ao×Int)(bE:List Int)(bL:ao):Option (ao⊕ao):=cond (d_ ((bL.length:Int)>=W_ i64 ((bh.2.1.length:Int)+2))) (B_ (bD bL.length (W_ i64 ((bL.length:Int)-2))) λ_=>B_ (idx bL (((W_ i64 ((bL.length:Int)-(2:Int))).toNat:Nat):Int)) λcZ=>B_ (bD bL.length (W_ i64 ((bL.length:Int)-1))) λ_=>B_ (idx bL (((W_ i64 ((bL.length:Int)-(1:Int))).toNat:Nat):Int)) λdF=>B_ (uh cZ dF bE) λdA=>cond (d_ (dA<=0)) (B_ (eZ bL 0 (W_ i64 ((bL.length:Int)-1))) λep=>some (.inl ep)) (some (.inr bL))) (some (.inr bL))
def Ig(bh:ao×ao×Int)(bG:ao×Int):Option (ao×Int⊕ao):=cond (d_ (bG.2<(bh.1.length:Int))) (B_ (idx bh.1 bG.2) λbE=>B_ (aV (Dz bh bE) bG.1) λdG=>B_ (oj bE) λeS=>B_ (bH 24 dG [eS]) λe7=>some (.inl (e7,W_ i64 (bG.2+1)))) (some (.inr bG.1))
def Ax(bh:ao×ao×Int):Option (ao×ao×Int⊕ao):=cond (d_ (bh.2.2<2)) (B_ (aV (Ig bh) (bh.2.1,0)) λdO=>B_ (eZ dO 0 (if W_ i64 ((dO.length:Int)-1)>0 then W_ i64 ((dO.length:Int)-1)else 0)) λeJ=>B_ (NQ bh.1) λhk=>some (.inl (hk.2.1,(eJ,W_ i64 (bh.2.2+1))))) (some (.inr bh.2.1))
def vP(L:ao):Option (ao×Bool):=cond (d_ ((L.length:Int)>200)) (some ([],false)) (B_ (aV (NR L) 0) λaq=>match aq with|.inl v5=>B_ (ol L) λaN=>B_ (NP aN) λbg=>B_ (aV Ax (bg.2.1,([],0))) λhQ=>B_ (kd hQ) λhR=>cond (!hR) (some ([],false)) (some (hQ,true))|.inr aM=>some (aM.1,aM.2))
def DA:a4:=⟨104,[cm],[cs 65,cc],λx=>vP x⟩
def Ih{ae:Prop}:bl ae DA:=bn [Dt,Ap,Vr,Du,vJ,Vs,lz] [⟨4,[(17,aZ)],some (0,[]),some [(2,cs 65),(3,cc)],false,none⟩,cu 13 [(6,cs 65),(7,cs 65),(8,aZ)] 2 [(7,cs 65)],⟨17,[(7,cs 65),(37,aZ)],some (4,[(7,cs 65)]),none,true,none⟩,cu 19 [(7,cs 65)] 6 [(7,cs 65)]] [cp 19 0] ⟨H7,Do,apP,H8,xC,apQ,l7,trivial⟩
def Ii(L:ao):Option (ao×Bool):=B_ (kd L) λS=>cond (!S) (some ([],false)) (B_ (NO L (-1)) λaa=>B_ (vP aa) λak=>some (ak.1,ak.2))
def Vt:a4:=⟨40,[cm],[cs 65,cc],λx=>Ii x⟩
def ad4{ae:Prop}:bl ae Vt:=bn [lz,Aw,DA] [] [] ⟨l7,apO,Ih,trivial⟩
def Ij(L:Int):Option Int:=some (if W_ i64 (0-L)>L then W_ i64 (0-L)else L)
def Vu:a4:=⟨256,[eA],[aZ],λx=>Ij x⟩
def ad5{ae:Prop}:bl ae Vu:=bn [] [] [] trivial
def NS(S:Int×Int):Option (Int×Int⊕Int):=cond (S.2 !=0) (B_ (fT .i64 S.1 S.2) λaa=>some (.inl (S.2,aa))) (some (.inr S.1))
def Ik(L:Int)(ay:Int):Option Int:=B_ (aV NS (L,ay)) λak=>B_ (Ij ak) λaq=>some aq
def Vv:a4:=⟨208,[eA,eA],[aZ],λx=>Ik x.1 x.2⟩
def ad6{ae:Prop}:bl ae Vv:=bn [Vu] [cu 1 [(0,aZ),(1,aZ)] 0 [(0,aZ)]] [cp 2 0] ⟨ad5,trivial⟩
def NT(L:List Int)(S:Int×Int):Option (Int×Int⊕Int):=cond (d_ (S.2<(L.length:Int))) (B_ (idx L S.2) λaa=>B_ (Ik S.1 aa) λak=>some (.inl (ak,W_ i64 (S.2+1)))) (some (.inr S.1))
def sL(L:List Int):Option Int:=B_ (aV (NT L) (0,0)) λaq=>some aq
def Ay:a4:=⟨147,[dy],[aZ],λx=>sL x⟩
def DB{ae:Prop}:bl ae Ay:=bn [Vv] [cu 3 [(3,aZ),(8,aZ)] 0 [(3,aZ)]] [] ⟨ad6,trivial⟩
def Vx(L:List Int):Option Int:=B_ (vM L) λS=>cond (!S) (some (-1)) (B_ (sL L) λaa=>some aa)
def ad7:a4:=⟨247,[dy],[aZ],λx=>Vx x⟩
def apR{ae:Prop}:bl ae ad7:=bn [Aq,Ay] [] [] ⟨Ds,DB,trivial⟩
def NU(S:Int)(aa:List Int)(ak:List Int×Int):Option (List Int×Int⊕List Int):=cond (d_ (ak.2<(aa.length:Int))) (B_ (bD ak.1.length ak.2) λ_=>B_ (idx ak.1 ((ak.2.toNat:Nat):Int)) λaq=>B_ (fA .i64 aq S) λv5=>B_ (bD ak.1.length ak.2) λ_=>B_ (bD ak.1.length ((ak.2.toNat:Nat):Int)) λ_=>some (.inl (ak.1.set ak.2.toNat v5,W_ i64 (ak.2+1)))) (some (.inr ak.1))
def Az(L:List Int):Option (List Int×Bool):=B_ (Vx L) λS=>cond (d_ (S<=0)) (some ([],false)) (B_ (oj L) λaa=>B_ (aV (NU S aa) (aa,0)) λaM=>some (aM,true))
def Vy:a4:=⟨193,[dy],[cQ 3,cc],λx=>Az x⟩
def ad8{ae:Prop}:bl ae Vy:=bn [ad7,vJ] [cu 6 [(5,cQ 3),(15,aZ)] 0 [(5,cQ 3)]] [] ⟨apR,xC,trivial⟩
def Vz(ak:List Int×List Int×Int×Int):Option (List Int×List Int×Int×Int⊕List Int×Int):=cond (ak.2.2.2 !=0) (B_ (fA .i64 ak.2.2.1 ak.2.2.2) λaq=>B_ (bD ak.1.length 0) λ_=>B_ (idx ak.1 (((0:Int).toNat:Nat):Int)) λv5=>B_ (bD ak.2.1.length 0) λ_=>B_ (idx ak.2.1 (((0:Int).toNat:Nat):Int)) λaM=>B_ (bD ak.1.length 1) λ_=>B_ (idx ak.1 (((1:Int).toNat:Nat):Int)) λaN=>B_ (bD ak.2.1.length 1) λ_=>B_ (idx ak.2.1 (((1:Int).toNat:Nat):Int)) λbg=>some (.inl (ak.2.1,([W_ i64 (v5-W_ i64 (aq*aM)),W_ i64 (aN-W_ i64 (aq*bg))],(ak.2.2.2,W_ i64 (ak.2.2.1-W_ i64 (aq*ak.2.2.2))))))) (some (.inr (ak.1,ak.2.2.1)))
def sM(L:List Int):Option (List Int):=B_ (idx L 0) λS=>B_ (idx L 1) λaa=>B_ (aV Vz ([1,0],([0,1],(S,aa)))) λbh=>B_ (bD bh.1.length 1) λ_=>B_ (idx bh.1 (((1:Int).toNat:Nat):Int)) λbG=>B_ (bD bh.1.length 0) λ_=>B_ (idx bh.1 (((0:Int).toNat:Nat):Int)) λbE=>some [W_ i64 (W_ i64 (0-bG)*bh.2),W_ i64 (bE*bh.2)]
def VA:a4:=⟨149,[dy],[cQ 3],λx=>sM x⟩
def ad9{ae:Prop}:bl ae VA:=bn [] [cu 3 [(3,cQ 3),(4,cQ 3),(5,aZ),(6,aZ)] 0 [(3,cQ 3),(5,aZ)]] [cp 2 0,cp 6 0,cp 7 0] trivial
def AA(L:Int)(ay:Int):Option Int:=B_ (fA .i64 L ay) λS=>B_ (fT .i64 L ay) λaa=>cond (d_ (aa<0)) (some (W_ i64 (S-1))) (some S)
def VB:a4:=⟨151,[eA,eA],[aZ],λx=>AA x.1 x.2⟩
def aea{ae:Prop}:bl ae VB:=bn [] [] [] trivial
def DC(L:ao)(du:Int)(S:List Int)(aN:List Int×Bool)(bg:List Int)(dF:Int)(dA:ao×Int):Option (ao×Int⊕ao):=cond (d_ (dA.2<(L.length:Int))) (B_ (idx L dA.2) λep=>B_ (nN ep S) λdG=>B_ (ly dG bg) λeS=>B_ (ly aN.1 dG) λe7=>B_ (bD ([eS,W_ i64 (du*e7)]:List Int).length 0) λ_=>B_ (idx [eS,W_ i64 (du*e7)] (((0:Int).toNat:Nat):Int)) λdO=>B_ (bD ([eS,W_ i64 (du*e7)]:List Int).length 1) λ_=>B_ (idx [eS,W_ i64 (du*e7)] (((1:Int).toNat:Nat):Int)) λeJ=>B_ (bD ([eS,W_ i64 (du*e7)]:List Int).length 1) λ_=>B_ (idx [eS,W_ i64 (du*e7)] (((1:Int).toNat:Nat):Int)) λhk=>B_ (bH 24 dA.1 [[W_ i64 (dO-W_ i64 (dF*eJ)),hk]]) λhQ=>some (.inl (hQ,W_ i64 (dA.2+1)))) (some (.inr dA.1))
def rx(L:ao)(ay:Int)(du:Int):Option (ao×Bool):=B_ (idx L ay) λS=>B_ (fT .i64 (W_ i64 (W_ i64 (ay+(L.length:Int))+du)) (L.length:Int)) λaa=>B_ (idx L aa) λak=>B_ (fT .i64 (W_ i64 (W_ i64 (ay+(L.length:Int))-du)) (L.length:Int)) λaq=>B_ (idx L aq) λv5=>B_ (nN ak S) λaM=>B_ (Az aM) λaN=>B_ (sM aN.1) λbg=>B_ (nN v5 S) λbh=>B_ (ly bh bg) λbG=>B_ (ly aN.1 bh) λbE=>B_ (bD ([bG,W_ i64 (du*bE)]:List Int).length 0) λ_=>B_ (idx [bG,W_ i64 (du*bE)] (((0:Int).toNat:Nat):Int)) λbL=>B_ (bD ([bG,W_ i64 (du*bE)]:List Int).length 1) λ_=>B_ (idx [bG,W_ i64 (du*bE)] (((1:Int).toNat:Nat):Int)) λcZ=>B_ (AA bL cZ) λdF=>B_ (aV (DC L du S aN bg dF) ([],0)) λhR=>B_ (vP hR) λjq=>some (jq.1,jq.2)
def aeb:a4:=⟨106,[cm,eA,eA],[cs 65,cc],λx=>rx x.1 x.2.1 x.2.2⟩
noncomputable def aec:db:=⟨Tryz.prog,oX,[xD,xE],[],[cp 2 0],[],[],[]⟩
def VC:mK:=⟨195,false,n4 aec Tryz.f195⟩
def apS{ae:Prop}:e3 Tryz.prog VC.f/\kY ae Tryz.prog VC:=L1 (N:=aec) pA ⟨Ar,As,trivial⟩ func195 (by kernel_rfl)
def apT{ae:Prop}:bl ae aeb:=Ul [xD,Vy,VA,VB,DA] [cu 10 [(18,cs 65),(70,aZ)] 0 [(18,cs 65)]] [cp 2 0,cp 7 0,cp 13 0] [VC] ⟨Ar,ad8,ad9,aea,Ih,trivial⟩ ⟨apS,trivial⟩
def ui(L:ao)(ay:ao)(S:Int):Option (Int⊕Unit⊕Int):=cond (d_ (S<(L.length:Int))) (B_ (idx L S) λaa=>cond (d_ (S>=(ay.length:Int))) (some (.inr (.inr 1))) (B_ (idx ay S) λak=>B_ (vO aa ak) λaq=>cond (aq !=0) (some (.inr (.inr aq))) (some (.inl (W_ i64 (S+1)))))) (some (.inr (.inl ())))
def AB(L:ao)(ay:ao):Option Int:=B_ (aV (ui L ay) 0) λv5=>match v5 with|.inl aM=>cond (d_ ((L.length:Int)<(ay.length:Int))) (some (-1)) (some 0)|.inr aN=>some aN
def aed:a4:=⟨107,[cm,cm,.f 108],[aZ],λx=>AB x.1 x.2.1⟩
def apU{ae:Prop}:bl ae aed:=bn [Vl] [⟨2,[(13,aZ)],some (0,[]),some [(6,aZ)],false,none⟩] [] ⟨NK,trivial⟩
def VD(L:ao)(aq:ao×Int):Option (ao×Int⊕ao⊕ao×Bool):=cond (d_ (aq.2<(([1,-1]:List Int).length:Int))) (B_ (idx [1,-1] aq.2) λv5=>B_ (rx L 0 v5) λaM=>cond (!aM.2) (some (.inr (.inr ([],false)))) (B_ (jI aq.1) λ_=>B_ (AB aM.1 aq.1) λaN=>cond (d_ (aN<0)) (some (.inl (aM.1,W_ i64 (aq.2+1)))) (some (.inl (aq.1,W_ i64 (aq.2+1)))))) (some (.inr (.inl aq.1)))
def vQ(L:ao)(bE:ao×Int)(dA:ao×Int):Option (ao×Int⊕ao⊕ao×Bool):=cond (d_ (dA.2<(([1,-1]:List Int).length:Int))) (B_ (idx [1,-1] dA.2) λep=>B_ (rx L bE.2 ep) λdG=>cond (!dG.2) (some (.inr (.inr ([],false)))) (B_ (jI dA.1) λ_=>B_ (AB dG.1 dA.1) λeS=>cond (d_ (eS<0)) (some (.inl (dG.1,W_ i64 (dA.2+1)))) (some (.inl (dA.1,W_ i64 (dA.2+1)))))) (some (.inr (.inl dA.1)))
def AC(L:ao)(bE:ao×Int):Option (ao×Int⊕ao⊕ao×Bool):=cond (d_ (bE.2<(L.length:Int))) (B_ (bD ([1,-1]:List Int).length 0) λ_=>B_ (idx [1,-1] (((0:Int).toNat:Nat):Int)) λbL=>B_ (rx L bE.2 bL) λcZ=>cond (!cZ.2) (some (.inr (.inr ([],false)))) (B_ (jI bE.1) λ_=>B_ (AB cZ.1 bE.1) λdF=>cond (d_ (dF<0)) (B_ (aV (vQ L bE) (cZ.1,W_ i64 (0+1))) λe7=>match e7 with|.inl dO=>some (.inl (dO,W_ i64 (bE.2+1)))|.inr eJ=>some (.inr (.inr (eJ.1,eJ.2)))) (B_ (aV (vQ L bE) (bE.1,W_ i64 (0+1))) λlv=>match lv with|.inl k3=>some (.inl (k3,W_ i64 (bE.2+1)))|.inr hS=>some (.inr (.inr (hS.1,hS.2)))))) (some (.inr (.inl bE.1)))
def DD(L:ao):Option (ao×Bool):=B_ (kd L) λS=>cond (!S) (some ([],false)) (cond (d_ (0<(L.length:Int))) (B_ (bD ([1,-1]:List Int).length 0) λ_=>B_ (idx [1,-1] (((0:Int).toNat:Nat):Int)) λaa=>B_ (rx L 0 aa) λak=>cond (!ak.2) (some ([],false)) (B_ (aV (VD L) (ak.1,W_ i64 (0+1))) λbg=>match bg with|.inl bh=>(B_ (aV (AC L) (bh,W_ i64 (0+1))) λka=>match ka with|.inl kb=>some (kb,true)|.inr jC=>some (jC.1,jC.2))|.inr bG=>some (bG.1,bG.2))) (some ([],true)))
def VE:a4:=⟨41,[cm],[cs 65,cc],λx=>DD x⟩
def aee{ae:Prop}:bl ae VE:=vu [] [(5,[]),(8,[])] [lz,aeb,aed] [⟨5,[(4,cs 65),(15,aZ)],some (0,[(4,cs 65)]),some [(2,cs 65),(3,cc)],false,none⟩,⟨8,[(4,cs 65),(20,aZ)],some (2,[(4,cs 65)]),some [(2,cs 65),(3,cc)],false,none⟩] [] [] ⟨l7,apT,apU,trivial⟩ trivial
def apV(L:ao)(S:Int×Int):Option (Int×Int⊕Int):=cond (d_ (S.2<(L.length:Int))) (B_ (idx L S.2) λaa=>B_ (fT .i64 (W_ i64 (S.2+1)) (L.length:Int)) λak=>B_ (idx L ak) λaq=>B_ (ly aa aq) λv5=>some (.inl (W_ i64 (S.1+v5),W_ i64 (S.2+1)))) (some (.inr S.1))
def VF(L:ao):Option Int:=B_ (aV (apV L) (0,0)) λaM=>some aM
def aef:a4:=⟨197,[cm],[aZ],λx=>VF x⟩
def apW{ae:Prop}:bl ae aef:=bn [xE] [cu 3 [(3,aZ),(8,aZ)] 0 [(3,aZ)]] [] ⟨As,trivial⟩
def nO(L:ao):Option Int:=B_ (kd L) λS=>cond (!S) (some (-1)) (B_ (VF L) λaa=>some aa)
def AD:a4:=⟨112,[cm],[aZ],λx=>nO x⟩
def DE{ae:Prop}:bl ae AD:=bn [lz,aef] [] [] ⟨l7,apW,trivial⟩
def NV(L:ao)(aa:Int×Int):Option (Int×Int⊕Int):=cond (d_ (aa.2<(L.length:Int))) (B_ (idx L aa.2) λak=>B_ (fT .i64 (W_ i64 (aa.2+1)) (L.length:Int)) λaq=>B_ (idx L aq) λv5=>B_ (nN v5 ak) λaM=>B_ (sL aM) λaN=>some (.inl (W_ i64 (aa.1+aN),W_ i64 (aa.2+1)))) (some (.inr aa.1))
def xF(L:ao):Option Int:=B_ (kd L) λS=>cond (!S) (some (-1)) (B_ (aV (NV L) (0,0)) λbg=>some bg)
def Il:a4:=⟨113,[cm],[aZ],λx=>xF x⟩
def NW{ae:Prop}:bl ae Il:=bn [lz,xD,Ay] [cu 5 [(3,aZ),(11,aZ)] 0 [(3,aZ)]] [] ⟨l7,Ar,DB,trivial⟩
def xG(L:ao):Option Int:=B_ (kd L) λS=>cond (!S) (some (-1)) (B_ (nO L) λaa=>B_ (xF L) λak=>B_ (fA .i64 (W_ i64 (W_ i64 (aa-ak)+2)) 2) λaq=>some aq)
def NX:a4:=⟨114,[cm],[aZ],λx=>xG x⟩
def VG{ae:Prop}:bl ae NX:=bn [lz,AD,Il] [] [] ⟨l7,DE,NW,trivial⟩
def sN(L:ao)(ay:List Int)(S:Int×Int):Option (Int×Int⊕Int⊕Int):=cond (d_ (S.2<(L.length:Int))) (B_ (idx L S.2) λaa=>B_ (fT .i64 (W_ i64 (S.2+1)) (L.length:Int)) λak=>B_ (idx L ak) λaq=>B_ (uh aa aq ay) λv5=>cond (d_ (v5<0)) (some (.inr (.inr (-1)))) (cond (v5==0) (some (.inl (0,W_ i64 (S.2+1)))) (some (.inl (S.1,W_ i64 (S.2+1)))))) (some (.inr (.inl S.1)))
def ry(L:ao)(ay:List Int):Option Int:=B_ (aV (sN L ay) (1,0)) λaM=>match aM with|.inl aN=>some aN|.inr bg=>some bg
def NY:a4:=⟨131,[cm,dy],[aZ],λx=>ry x.1 x.2⟩
def VH{ae:Prop}:bl ae NY:=bn [Du] [⟨3,[(5,aZ),(11,aZ)],some (0,[(5,aZ)]),some [(4,aZ)],false,none⟩] [] ⟨H8,trivial⟩
def AE(L:ao)(ay:List Int):Option Int:=B_ (kd L) λS=>cond (!S) (some (-1)) (B_ (vM ay) λaa=>cond (!aa) (some (-1)) (cond ((ay.length:Int)!=2) (some (-1)) (B_ (ry L ay) λak=>some ak)))
def VI:a4:=⟨61,[cm,dy],[aZ],λx=>AE x.1 x.2⟩
def aeg{ae:Prop}:bl ae VI:=bn [lz,Aq,NY] [] [] ⟨l7,Ds,VH,trivial⟩
def DF(L:ao):Option Bool:=B_ (xG L) λS=>cond (S==1) (B_ (AE L [0,0]) λaa=>some (aa==1)) (some false)
def VJ:a4:=⟨109,[cm],[cc],λx=>DF x⟩
def aeh{ae:Prop}:bl ae VJ:=bn [NX,VI] [] [] ⟨VG,aeg,trivial⟩
def NZ(L:ao)(ay:Int):Option (List Int):=B_ (fT .i64 (W_ i64 (ay+1)) (L.length:Int)) λS=>B_ (idx L S) λaa=>B_ (idx L ay) λak=>B_ (nN aa ak) λaq=>B_ (sL aq) λv5=>B_ (bD aq.length 1) λ_=>B_ (idx aq (((1:Int).toNat:Nat):Int)) λaM=>B_ (fA .i64 aM v5) λaN=>B_ (bD aq.length 0) λ_=>B_ (idx aq (((0:Int).toNat:Nat):Int)) λbg=>B_ (fA .i64 (W_ i64 (0-bg)) v5) λbh=>some [aN,bh]
def aei:a4:=⟨110,[cm,eA],[cQ 3],λx=>NZ x.1 x.2⟩
def apX{ae:Prop}:bl ae aei:=bn [xD,Ay] [] [cp 1 0,cp 3 0] ⟨Ar,DB,trivial⟩
def AF(L:List Int)(ay:List Int)(S:Int×Int):Option (Int×Int⊕Int):=cond (d_ (S.2<(L.length:Int))) (B_ (idx L S.2) λaa=>B_ (idx ay S.2) λak=>some (.inl (W_ i64 (S.1+W_ i64 (aa*ak)),W_ i64 (S.2+1)))) (some (.inr S.1))
def lA(L:List Int)(ay:List Int):Option Int:=B_ (aV (AF L ay) (0,0)) λaq=>some aq
def xH:a4:=⟨111,[dy,dy],[aZ],λx=>lA x.1 x.2⟩
def AG{ae:Prop}:bl ae xH:=bn [] [cu 3 [(5,aZ),(9,aZ)] 0 [(5,aZ)]] [cp 5 0] trivial
def N0(L:ao)(aa:ao×Int):Option (ao×Int⊕ao⊕ao×Bool):=cond (d_ (aa.2<(L.length:Int))) (B_ (idx L aa.2) λak=>B_ (NZ L aa.2) λaq=>B_ (lA aq ak) λv5=>cond (v5 !=1) (some (.inr (.inr ([],false)))) (B_ (bH 24 aa.1 [aq]) λaM=>some (.inl (aM,W_ i64 (aa.2+1))))) (some (.inr (.inl aa.1)))
def DG(L:ao):Option (ao×Bool):=B_ (DF L) λS=>cond (!S) (some ([],false)) (B_ (aV (N0 L) ([],0)) λaN=>match aN with|.inl bg=>B_ (vP bg) λbG=>some (bG.1,bG.2)|.inr bh=>some (bh.1,bh.2))
def VK:a4:=⟨42,[cm],[cs 65,cc],λx=>DG x⟩
def aej{ae:Prop}:bl ae VK:=bn [VJ,aei,xH,DA] [⟨5,[(4,cs 65),(13,aZ)],some (0,[(4,cs 65)]),some [(2,cs 65),(3,cc)],false,none⟩] [] ⟨aeh,apX,AG,Ih,trivial⟩
def Im(ay:ao)(aq:List Int)(v5:ao×Int):Option (ao×Int⊕ao):=cond (d_ (v5.2<(ay.length:Int))) (B_ (idx ay v5.2) λaM=>B_ (idx aq 0) λaN=>B_ (idx aM 0) λbg=>B_ (idx aq 1) λbh=>B_ (idx aM 1) λbG=>B_ (bH 24 v5.1 [[W_ i64 (aN+bg),W_ i64 (bh+bG)]]) λbE=>some (.inl (bE,W_ i64 (v5.2+1)))) (some (.inr v5.1))
def N1(L:ao)(ay:ao)(ak:ao×Int):Option (ao×Int⊕ao):=cond (d_ (ak.2<(L.length:Int))) (B_ (idx L ak.2) λaq=>B_ (aV (Im ay aq) (ak.1,0)) λbL=>some (.inl (bL,W_ i64 (ak.2+1)))) (some (.inr ak.1))
def In(L:ao)(ay:ao):Option (ao×Bool):=B_ (kd L) λS=>cond (!S) (some ([],false)) (B_ (kd ay) λaa=>cond (!aa) (some ([],false)) (B_ (aV (N1 L ay) ([],0)) λcZ=>B_ (vP cZ) λdF=>some (dF.1,dF.2)))
def VL:a4:=⟨43,[cm,cm],[cs 65,cc],λx=>In x.1 x.2⟩
def aek{ae:Prop}:bl ae VL:=bn [lz,DA] [cu 5 [(6,cs 65),(21,aZ)] 0 [(6,cs 65)],cu 8 [(6,cs 65),(27,aZ)] 2 [(6,cs 65)]] [cp 10 0] ⟨l7,Ih,trivial⟩
def N2(L:ao)(ay:Int):Option Int:=B_ (xF L) λS=>B_ (nO L) λaa=>B_ (fA .i64 (W_ i64 (W_ i64 (2+W_ i64 (S*ay))+W_ i64 (W_ i64 (aa*ay)*ay))) 2) λak=>some ak
def ael:a4:=⟨129,[cm,eA],[aZ],λx=>N2 x.1 x.2⟩
def apY{ae:Prop}:bl ae ael:=bn [Il,AD] [] [] ⟨NW,DE,trivial⟩
def xI(L:ao)(ay:Int):Option Int:=B_ (kd L) λS=>cond (!S) (some (-1)) (B_ (m4 ay (-1000) 1000) λaa=>cond (!aa) (some (-1)) (B_ (N2 L ay) λak=>some ak))
def N3:a4:=⟨60,[cm,eA],[aZ],λx=>xI x.1 x.2⟩
def VM{ae:Prop}:bl ae N3:=bn [lz,qr,ael] [] [] ⟨l7,rr,apY,trivial⟩
def N4(L:ao):Option (List Int):=B_ (kd L) λS=>cond (!S) (some []) (B_ (xI L 1) λaa=>B_ (xG L) λak=>some [1,W_ i64 (aa-3),ak])
def aem:a4:=⟨115,[cm],[cQ 3],λx=>N4 x⟩
def apZ{ae:Prop}:bl ae aem:=bn [lz,N3,NX] [] [] ⟨l7,VM,VG,trivial⟩
def Io(ay:List Int)(S:ao×Int)(ak:List Int)(v5:ao×Int):Option (ao×Int⊕ao):=B_ (idx ay S.2) λaM=>cond (d_ (v5.2<=aM)) (B_ (oj ak) λaN=>B_ (bH 8 aN [v5.2]) λbg=>B_ (bH 24 v5.1 [bg]) λbh=>some (.inl (bh,W_ i64 (v5.2+1)))) (some (.inr v5.1))
def Ip(L:List Int)(ay:List Int)(S:ao×Int)(aa:ao×Int):Option (ao×Int⊕ao):=cond (d_ (aa.2<(S.1.length:Int))) (B_ (idx S.1 aa.2) λak=>B_ (idx L S.2) λaq=>B_ (aV (Io ay S ak) (aa.1,aq)) λbG=>some (.inl (bG,W_ i64 (aa.2+1)))) (some (.inr aa.1))
def N5(L:List Int)(ay:List Int)(S:ao×Int):Option (ao×Int⊕ao):=cond (d_ (S.2<(L.length:Int))) (B_ (aV (Ip L ay S) ([],0)) λbE=>some (.inl (bE,W_ i64 (S.2+1)))) (some (.inr S.1))
def vR(L:List Int)(ay:List Int):Option ao:=B_ (aV (N5 L ay) ([[]],0)) λbL=>some bL
def Iq:a4:=⟨200,[dy,dy],[cs 65],λx=>vR x.1 x.2⟩
def N6{ae:Prop}:bl ae Iq:=bn [vJ] [cu 3 [(5,cs 65),(14,aZ)] 0 [(5,cs 65)],cu 7 [(7,cs 65),(19,aZ)] 2 [(7,cs 65)],cu 10 [(7,cs 65),(10,aZ)] 4 [(7,cs 65)]] [] ⟨xC,trivial⟩
def N7(S:ao)(aa:ao×Int):Option (ao×Int⊕ao):=cond (d_ (aa.2<(S.length:Int))) (B_ (idx S aa.2) λak=>B_ (idx ak 0) λaq=>cond (d_ (aq>0)) (B_ (bH 24 aa.1 [ak]) λv5=>some (.inl (v5,W_ i64 (aa.2+1)))) (B_ (idx ak 1) λaM=>cond (d_ (aM>0)) (B_ (bH 24 aa.1 [ak]) λaN=>some (.inl (aN,W_ i64 (aa.2+1)))) (some (.inl (aa.1,W_ i64 (aa.2+1)))))) (some (.inr aa.1))
def Ir:Option ao:=B_ (vR [0,-12] [12,12]) λS=>B_ (aV (N7 S) ([],0)) λbg=>some bg
def VN:a4:=⟨120,[],[.l (.o false 65 bF)],λx=>Ir⟩
def aen{ae:Prop}:bl ae VN:=bn [Iq] [cu 3 [(1,.l (.o false 65 bF)),(8,aZ)] 0 [(1,.l (.o false 65 bF))]] [] ⟨N6,trivial⟩
def N8(L:ao)(ay:List Int)(ak:Int×Int):Option (Int×Int⊕Int):=cond (d_ (ak.2<(L.length:Int))) (B_ (idx L ak.2) λaq=>B_ (lA ay aq) λv5=>some (.inl (if v5>ak.1 then v5 else ak.1,W_ i64 (ak.2+1)))) (some (.inr ak.1))
def DH(L:ao)(ay:List Int):Option Int:=B_ (idx L 0) λS=>B_ (lA ay S) λaa=>B_ (aV (N8 L ay) (aa,0)) λaM=>some aM
def VO:a4:=⟨134,[cm,dy],[aZ],λx=>DH x.1 x.2⟩
def aeo{ae:Prop}:bl ae VO:=bn [xH] [cu 3 [(5,aZ),(15,aZ)] 0 [(5,aZ)]] [] ⟨AG,trivial⟩
def om(L:ao)(ay:List Int):Option Int:=B_ (kd L) λS=>cond (!S) (some (-1)) (B_ (vM ay) λaa=>cond (!aa) (some (-1)) (cond ((ay.length:Int)!=2) (some (-1)) (B_ (DH L ay) λak=>B_ (idx ay 0) λaq=>B_ (idx ay 1) λv5=>B_ (DH L [W_ i64 (0-aq),W_ i64 (0-v5)]) λaM=>some (W_ i64 (ak+aM)))))
def N9:a4:=⟨121,[cm,dy],[aZ],λx=>om x.1 x.2⟩
def VP{ae:Prop}:bl ae N9:=bn [lz,Aq,VO] [] [cp 3 0] ⟨l7,Ds,aeo,trivial⟩
def DI(L:ao)(S:ao)(aa:Int×Int):Option (Int×Int⊕Int):=cond (d_ (aa.2<(S.length:Int))) (B_ (idx S aa.2) λak=>B_ (om L ak) λaq=>cond (d_ (aa.1<0)) (some (.inl (aq,W_ i64 (aa.2+1)))) (cond (d_ (aq<aa.1)) (some (.inl (aq,W_ i64 (aa.2+1)))) (some (.inl (aa.1,W_ i64 (aa.2+1)))))) (some (.inr aa.1))
def rz(L:ao):Option Int:=B_ Ir λS=>B_ (aV (DI L S) (-1,0)) λv5=>some v5
def Oa:a4:=⟨47,[cm],[aZ],λx=>rz x⟩
def VQ{ae:Prop}:bl ae Oa:=bn [VN,N9] [cu 3 [(3,aZ),(9,aZ)] 0 [(3,aZ)]] [] ⟨aen,VP,trivial⟩
def xJ(L:List Int×List Int):Option Bool:=B_ (vN L.1 30) λS=>cond S (B_ (vN L.2 30) λaa=>cond aa (B_ (sL L.1) λak=>cond (ak==1) (B_ (sL L.2) λaq=>cond (aq==1) (B_ (ly L.1 L.2) λv5=>some (d_ (v5>0))) (some false)) (some false)) (some false)) (some false)
def Is:a4:=⟨68,[.d false (.prod bF bF)],[cc],λx=>xJ x⟩
def Ob{ae:Prop}:bl ae Is:=bn [Dt,Ay,xE] [] [] ⟨H7,DB,As,trivial⟩
def DJ(L:ao)(ay:Int):Option ((List Int×List Int)×Bool):=B_ (kd L) λS=>cond (!S) (some (([],[]),false)) (B_ (m4 ay 0 (W_ i64 ((L.length:Int)-1))) λaa=>cond (!aa) (some (([],[]),false)) (B_ (fT .i64 (W_ i64 (ay+1)) (L.length:Int)) λak=>B_ (idx L ak) λaq=>B_ (idx L ay) λv5=>B_ (nN aq v5) λaM=>B_ (Az aM) λaN=>B_ (fT .i64 (W_ i64 (W_ i64 (ay+(L.length:Int))-1)) (L.length:Int)) λbg=>B_ (idx L bg) λbh=>B_ (idx L ay) λbG=>B_ (nN bh bG) λbE=>B_ (Az bE) λbL=>B_ (xJ (aN.1,bL.1)) λcZ=>cond (!cZ) (some (([],[]),false)) (some ((aN.1,bL.1),true))))
def VU:a4:=⟨122,[cm,eA],[.a [.o true 3 bK,.o true 3 bK],cc],λx=>DJ x.1 x.2⟩
def aep{ae:Prop}:bl ae VU:=bn [lz,qr,xD,Vy,Is] [] [cp 4 0,cp 5 0] ⟨l7,rr,Ar,ad8,Ob,trivial⟩
def rB(L:List Int×List Int):Option Int:=B_ (xJ (L.1,L.2)) λS=>cond (!S) (some 0) (B_ (ly L.1 L.2) λaa=>some aa)
def VV:a4:=⟨123,[.d false (.prod bF bF)],[aZ],λx=>rB x⟩
def aeq{ae:Prop}:bl ae VV:=bn [Is,xE] [] [] ⟨Ob,As,trivial⟩
def DK(L:ao)(aa:Int×Int):Option (Int×Int⊕Int⊕Int):=cond (d_ (aa.2<(L.length:Int))) (B_ (DJ L aa.2) λak=>cond (!ak.2) (some (.inr (.inr (-1)))) (B_ (rB (ak.1.1,ak.1.2)) λaq=>cond (aq==1) (some (.inl (W_ i64 (aa.1+1),W_ i64 (aa.2+1)))) (some (.inl (aa.1,W_ i64 (aa.2+1)))))) (some (.inr (.inl aa.1)))
def DL(L:ao):Option Int:=B_ (kd L) λS=>cond (!S) (some (-1)) (B_ (aV (DK L) (0,0)) λv5=>match v5 with|.inl aM=>some aM|.inr aN=>some aN)
def aer:a4:=⟨116,[cm],[aZ],λx=>DL x⟩
def ap0{ae:Prop}:bl ae aer:=bn [lz,VU,VV] [⟨5,[(3,aZ),(12,aZ)],some (0,[(3,aZ)]),some [(2,aZ)],false,none⟩] [] ⟨l7,aep,aeq,trivial⟩
def VW(L:List Int)(ay:List Int)(S:Int):Option (Int⊕Unit⊕Bool):=cond (d_ (S<(L.length:Int))) (B_ (idx L S) λaa=>B_ (idx ay S) λak=>cond (aa !=ak) (some (.inr (.inr false))) (some (.inl (W_ i64 (S+1))))) (some (.inr (.inl ())))
def AH(L:List Int)(ay:List Int):Option Bool:=cond ((L.length:Int)!=(ay.length:Int)) (some false) (B_ (aV (VW L ay) 0) λaq=>match aq with|.inl v5=>some true|.inr aM=>some aM)
def Oc:a4:=⟨165,[dy,dy],[cc],λx=>AH x.1 x.2⟩
def VX{ae:Prop}:bl ae Oc:=bn [] [⟨4,[(13,aZ)],some (0,[]),some [(4,cc)],false,none⟩] [cp 6 0] trivial
def Od(L:ao)(S:ao×Bool)(aa:Int):Option (Int⊕Unit⊕Bool):=cond (d_ (aa<(L.length:Int))) (B_ (idx L aa) λak=>B_ (idx S.1 aa) λaq=>B_ (nN ak aq) λv5=>B_ (idx L 0) λaM=>B_ (idx S.1 0) λaN=>B_ (nN aM aN) λbg=>B_ (AH v5 bg) λbh=>cond (!bh) (some (.inr (.inr false))) (some (.inl (W_ i64 (aa+1))))) (some (.inr (.inl ())))
def DM(L:ao):Option Bool:=B_ (Ii L) λS=>cond (!S.2) (some false) (B_ (aV (Od L S) 0) λbG=>match bG with|.inl bE=>some true|.inr bL=>some bL)
def aes:a4:=⟨117,[cm],[cc],λx=>DM x⟩
def ap1{ae:Prop}:bl ae aes:=bn [Vt,xD,Oc] [⟨5,[(16,aZ)],some (0,[]),some [(2,cc)],false,none⟩] [cp 7 0] ⟨ad4,Ar,VX,trivial⟩
def Oe(L:ao):Option ByteArray:=B_ (kd L) λS=>cond (!S) (some ⟨#[]⟩) (B_ (nO L) λaa=>B_ (k4 aa) λak=>B_ (fl ⟨#[97,114,101,97,32]⟩ ak) λaq=>B_ (fl aq ⟨#[32,98,111,117,110,100,97,114,121,32]⟩) λv5=>B_ (xF L) λaM=>B_ (k4 aM) λaN=>B_ (fl v5 aN) λbg=>B_ (fl bg ⟨#[32,105,110,110,101,114,32]⟩) λbh=>B_ (xG L) λbG=>B_ (k4 bG) λbE=>B_ (fl bh bE) λbL=>B_ (xI L 1) λcZ=>B_ (k4 cZ) λdF=>B_ (fl ⟨#[32,112,111,105,110,116,115,32]⟩ dF) λdA=>B_ (fl dA ⟨#[32,116,111,112,32]⟩) λep=>B_ (N4 L) λdG=>B_ (rv dG) λeS=>B_ (fl ep eS) λe7=>B_ (fl e7 ⟨#[32,119,105,100,116,104,32]⟩) λdO=>B_ (rz L) λeJ=>B_ (k4 eJ) λhk=>B_ (fl dO hk) λhQ=>B_ (fl hQ ⟨#[32,115,109,111,111,116,104,32]⟩) λhR=>B_ (DL L) λjq=>B_ (k4 jq) λlv=>B_ (fl hR lv) λk3=>B_ (fl bL k3) λhS=>B_ (DF L) λka=>cond ka (B_ (fl hS ⟨#[32,114,101,102,108,101,120,105,118,101]⟩) λkb=>B_ (DM L) λjC=>cond jC (B_ (fl kb ⟨#[32,115,121,109,109,101,116,114,105,99]⟩) λvF=>some vF) (some kb)) (B_ (fl hS ⟨#[32,111,116,104,101,114]⟩) λua=>B_ (DM L) λud=>cond ud (B_ (fl ua ⟨#[32,115,121,109,109,101,116,114,105,99]⟩) λm3=>some m3) (some ua)))
def aet:a4:=⟨44,[cm],[gM],λx=>Oe x⟩
def ap2:bl False aet:=bn [lz,AD,Ic,Il,NX,N3,aem,Dy,Oa,aer,VJ,aes] [] [] ⟨l7,DE,NL,NW,VG,VM,apZ,Ie,VQ,ap0,aeh,ap1,trivial⟩
def It(v5:List Int×List Int×Int)(aM:List Int)(aN:List Int×List Int×Int):Option (List Int×List Int×Int⊕List Int×List Int):=cond (d_ (aN.2.2<(v5.1.length:Int))) (B_ (bD aN.1.length aN.2.2) λ_=>B_ (idx aN.1 ((aN.2.2.toNat:Nat):Int)) λbg=>B_ (idx aM aN.2.2) λbh=>B_ (bD aN.2.1.length aN.2.2) λ_=>B_ (idx aN.2.1 ((aN.2.2.toNat:Nat):Int)) λbG=>B_ (idx aM aN.2.2) λbE=>B_ (bD aN.1.length aN.2.2) λ_=>B_ (bD aN.1.length ((aN.2.2.toNat:Nat):Int)) λ_=>B_ (bD aN.2.1.length aN.2.2) λ_=>B_ (bD aN.2.1.length ((aN.2.2.toNat:Nat):Int)) λ_=>some (.inl (aN.1.set aN.2.2.toNat (if bh<bg then bh else bg),(aN.2.1.set aN.2.2.toNat (if bE>bG then bE else bG),W_ i64 (aN.2.2+1))))) (some (.inr (aN.1,aN.2.1)))
def DN(L:ao)(v5:List Int×List Int×Int):Option (List Int×List Int×Int⊕List Int×List Int):=cond (d_ (v5.2.2<(L.length:Int))) (B_ (idx L v5.2.2) λaM=>B_ (aV (It v5 aM) (v5.1,(v5.2.1,0))) λbL=>some (.inl (bL.1,(bL.2,W_ i64 (v5.2.2+1))))) (some (.inr (v5.1,v5.2.1)))
def AI(L:ao)(hQ:List Int)(jq:Int):Option (Int⊕Unit⊕Int):=cond (d_ (jq<(L.length:Int))) (B_ (idx L jq) λlv=>B_ (AH lv hQ) λk3=>cond k3 (some (.inr (.inr jq))) (some (.inl (W_ i64 (jq+1))))) (some (.inr (.inl ())))
def aeu(L:ao)(eS:List Int)(e7:List Int)(dO:List Int)(eJ:ao)(hk:Int):Option (Int⊕Unit⊕List Int):=cond (d_ (hk<(eJ.length:Int))) (B_ (idx eJ hk) λhQ=>B_ (ry [eS,e7,dO] hQ) λhR=>cond (d_ (hR>=0)) (B_ (aV (AI L hQ) 0) λhS=>match hS with|.inl ka=>cond (!d_ (-1>=0)) (some (.inr (.inr hQ))) (some (.inl (W_ i64 (hk+1))))|.inr kb=>cond (!d_ (kb>=0)) (some (.inr (.inr hQ))) (some (.inl (W_ i64 (hk+1))))) (some (.inl (W_ i64 (hk+1))))) (some (.inr (.inl ())))
def ap4(L:ao)(qs:List Int)(DO:Int):Option (Int⊕Unit⊕Int):=cond (d_ (DO<(L.length:Int))) (B_ (idx L DO) λIu=>B_ (AH Iu qs) λVY=>cond VY (some (.inr (.inr DO))) (some (.inl (W_ i64 (DO+1))))) (some (.inr (.inl ())))
def aev(L:ao)(ud:ao)(m3:Int):Option (Int⊕Unit⊕List Int):=cond (d_ (m3<(ud.length:Int))) (B_ (idx ud m3) λqs=>B_ (ry L qs) λuj=>cond (d_ (uj>=0)) (B_ (aV (ap4 L qs) 0) λIv=>match Iv with|.inl Iw=>cond (!d_ (-1>=0)) (some (.inr (.inr qs))) (some (.inl (W_ i64 (m3+1))))|.inr Ix=>cond (!d_ (Ix>=0)) (some (.inr (.inr qs))) (some (.inl (W_ i64 (m3+1))))) (some (.inl (W_ i64 (m3+1))))) (some (.inr (.inl ())))
def Of(L:ao):Option (List Int):=B_ (idx L 0) λS=>B_ (oj S) λaa=>B_ (idx L 0) λak=>B_ (oj ak) λaq=>B_ (aV (DN L) (aa,(aq,0))) λcZ=>B_ (idx L 0) λdF=>B_ (idx L 1) λdA=>B_ (idx L 2) λep=>B_ (uh dF dA ep) λdG=>cond (d_ (dG<0)) (B_ (idx L 0) λeS=>B_ (idx L 2) λe7=>B_ (idx L 1) λdO=>B_ (vR cZ.1 cZ.2) λeJ=>B_ (aV (aeu L eS e7 dO eJ) 0) λjC=>match jC with|.inl vF=>some []|.inr ua=>B_ (jI ua) λ_=>some ua) (B_ (vR cZ.1 cZ.2) λud=>B_ (aV (aev L ud) 0) λVZ=>match VZ with|.inl Og=>some []|.inr Oh=>B_ (jI Oh) λ_=>some Oh)
def aew:a4:=⟨250,[cm],[.l (.d true bF)],λx=>Of x⟩
noncomputable def aex:db:=⟨Tryz.prog,oX,[Oc],[],[],[],[],[]⟩
def V0:mK:=⟨312,true,n4 aex Tryz.f312⟩
def ap5{ae:Prop}:e3 Tryz.prog V0.f/\kY ae Tryz.prog V0:=abx (N:=aex) pA ⟨VX,trivial⟩ func312 (by kernel_rfl) (by kernel_rfl) rfl
noncomputable def aey:db:=⟨Tryz.prog,oX,[],[⟨2,[(8,aZ)],some (0,[]),some [(4,aZ)],false,none⟩],[],[V0],[],[]⟩
def V1:mK:=⟨344,true,CA (n4 aey Tryz.f344)⟩
def ap6{ae:Prop}:e3 Tryz.prog V1.f/\kY ae Tryz.prog V1:=ank (N:=aey) pA trivial func344 (by kernel_rfl) ⟨ap5,trivial⟩
noncomputable def aez:db:=⟨Tryz.prog,oX,[],[],[],[V1],[],[]⟩
def V3:mK:=⟨311,false,n4 aez Tryz.f311⟩
def ap7{ae:Prop}:e3 Tryz.prog V3.f/\kY ae Tryz.prog V3:=L1 (N:=aez) pA trivial func311 (by kernel_rfl) ⟨ap6,trivial⟩
def ap8{ae:Prop}:bl ae aew:=vu [] [(8,[0,1,2,3,4,5,8,9,13,14,17,18,6,7,10,11,12,15,16,19,20,21,22,23,24,25])] [vJ,Du,Iq,NY] [cu 3 [(3,cQ 3),(4,cQ 3),(21,aZ)] 0 [(3,cQ 3),(4,cQ 3)],cu 6 [(3,cQ 3),(4,cQ 3),(27,aZ)] 2 [(3,cQ 3),(4,cQ 3)],⟨15,[(82,aZ)],some (4,[]),some [(2,vt)],false,none⟩] [cp 1 0,cp 8 0,cp 12 0,cp 13 0] [V3] ⟨xC,H8,N6,VH,trivial⟩ ⟨ap7,trivial⟩
def Oi(rec:ao->Option (List ao))(L:ao)(S:List Int)(ak:List ao×Int):Option (List ao×Int⊕List ao):=cond (d_ (ak.2<(L.length:Int))) (B_ (idx L ak.2) λaq=>B_ (fT .i64 (W_ i64 (ak.2+1)) 3) λv5=>B_ (idx L v5) λaM=>B_ (uh S aq aM) λaN=>cond (aN !=0) (B_ (rec [S,aq,aM]) λbg=>B_ (bH 24 ak.1 bg) λbh=>some (.inl (bh,W_ i64 (ak.2+1)))) (some (.inl (ak.1,W_ i64 (ak.2+1))))) (some (.inr ak.1))
def Iy(rec:ao->Option (List ao))(L:ao):Option (List ao):=B_ (Of L) λS=>cond S.isEmpty (B_ (ol L) λaa=>some [aa]) (B_ (aV (Oi rec L S) ([],0)) λbG=>some bG)
def vS:Nat->ao->Option (List ao)|0=>λ_=>none|n+1=>Iy (vS n)
def V4(L:ao):Option (List ao):=vS 30000 L
def V5:a4:=⟨199,[cm],[.l (.o true 24 fN)],λx=>V4 x⟩
def sO(rec:ao->Option (List ao)):a4:=⟨199,[.d false fN],[.l (.o true 24 fN)],λx=>rec x⟩
def aeA(rec:ao->Option (List ao)):db:=⟨Tryz.prog,oX,[aew,Ap,Du,sO rec],[cu 6 [(4,.l (.o true 24 fN)),(17,aZ)] 0 [(4,.l (.o true 24 fN))]],[cp 8 0],[],[],[]⟩
def ap9(rec:ao->Option (List ao))(x:i0.den (sO rec).ps):wy (aeA rec) Tryz.f199 (sO rec).ps (sO rec).rs x=(sO (Iy rec)).F x:=by kernel_rfl
def aqa{ae:Prop}(rec:ao->Option (List ao))(c:e3 Tryz.prog (sO rec).f/\gf ae Tryz.prog (sO rec)):e3 Tryz.prog (sO (Iy rec)).f/\gf ae Tryz.prog (sO (Iy rec)):=Gz (N:=aeA rec) pA ⟨ap8,Do,H8,c,trivial⟩ func199 (by kernel_rfl) (ap9 rec)
def aeB{ae:Prop}:(n:Nat)->e3 Tryz.prog (sO (vS n)).f/\gf ae Tryz.prog (sO (vS n))|0=>⟨⟨Tryz.f199,_,func199,by kernel_rfl,rfl⟩,λx u c=>by cases c⟩|n+1=>aqa _ (aeB n)
def aqb{ae:Prop}:e3 Tryz.prog V5.f/\gf ae Tryz.prog V5:=aeB 30000
def Oj(L:ao)(ak:List ao×Int):Option (List ao×Int⊕List ao):=cond (d_ (W_ i64 (ak.2+1)<(L.length:Int))) (B_ (idx L 0) λaq=>B_ (idx L ak.2) λv5=>B_ (idx L (W_ i64 (ak.2+1))) λaM=>B_ (V4 [aq,v5,aM]) λaN=>B_ (bH 24 ak.1 aN) λbg=>some (.inl (bg,W_ i64 (ak.2+1)))) (some (.inr ak.1))
def Ol(L:ao):Option (List ao):=B_ (kd L) λS=>cond (!S) (some []) (B_ (nO L) λaa=>cond (d_ (aa>200)) (some []) (B_ (aV (Oj L) ([],1)) λbh=>B_ (jI bh) λ_=>some bh))
def aeC:a4:=⟨119,[cm],[.l (.d true (.list fN))],λx=>Ol x⟩
def aqc{ae:Prop}:bl ae aeC:=bn [lz,AD,V5] [cu 5 [(3,.l (.o true 24 fN)),(4,aZ)] 0 [(3,.l (.o true 24 fN))]] [cp 7 0] ⟨l7,DE,aqb,trivial⟩
def Om(L:ao):Option Int:=B_ (Ol L) λS=>cond S.isEmpty (some (-1)) (some (S.length:Int))
def aeD:a4:=⟨46,[cm],[aZ],λx=>Om x⟩
def aqd{ae:Prop}:bl ae aeD:=bn [aeC] [] [] ⟨aqc,trivial⟩
def On(L:ao)(S:Int)(aa:ao)(ak:ao×Int):Option (ao×Int⊕ao):=cond (d_ (ak.2<(aa.length:Int))) (B_ (idx aa ak.2) λaq=>B_ (om L aq) λv5=>cond (v5==S) (B_ (bH 24 ak.1 [aq]) λaM=>some (.inl (aM,W_ i64 (ak.2+1)))) (some (.inl (ak.1,W_ i64 (ak.2+1))))) (some (.inr ak.1))
def AJ(L:ao):Option ao:=B_ (rz L) λS=>cond (d_ (S<0)) (some []) (B_ Ir λaa=>B_ (aV (On L S aa) ([],0)) λaN=>some aN)
def aeE:a4:=⟨50,[cm],[.l (.o false 65 bF)],λx=>AJ x⟩
def aqe{ae:Prop}:bl ae aeE:=bn [Oa,VN,N9] [cu 6 [(4,.l (.o false 65 bF)),(13,aZ)] 0 [(4,.l (.o false 65 bF))]] [] ⟨VQ,aen,VP,trivial⟩
def Iz(L:ao)(S:List ByteArray×Int):Option (List ByteArray×Int⊕List ByteArray):=cond (d_ (S.2<(L.length:Int))) (B_ (idx L S.2) λaa=>B_ (If aa) λak=>B_ (bH 16 S.1 [ak]) λaq=>some (.inl (aq,W_ i64 (S.2+1)))) (some (.inr S.1))
def DP(L:ao):Option ByteArray:=B_ (aV (Iz L) ([],0)) λv5=>B_ (sK v5 ⟨#[32]⟩) λaM=>some aM
def aeF:a4:=⟨49,[cm],[gM],λx=>DP x⟩
def aqf:bl False aeF:=bn [Vp,H4] [cu 3 [(3,jb 9),(8,aZ)] 0 [(3,jb 9)]] [] ⟨ad1,NH,trivial⟩
def sP(L:ByteArray)(ay:ByteArray):Option ByteArray:=cond (L.toList==(⟨#[]⟩:ByteArray).toList) (some ay) (some L)
def V6:a4:=⟨48,[iH,iH],[gM],λx=>sP x.1 x.2⟩
def aeG{ae:Prop}:bl ae V6:=bn [] [] [] trivial
def AK(L:ao)(S:List Int×Int):Option (List Int×Int⊕List Int⊕ByteArray):=cond (d_ (S.2<(L.length:Int))) (B_ (DJ L S.2) λaa=>cond (!aa.2) (some (.inr (.inr ⟨#[110,111]⟩))) (B_ (rB (aa.1.1,aa.1.2)) λak=>B_ (bH 8 S.1 [ak]) λaq=>some (.inl (aq,W_ i64 (S.2+1))))) (some (.inr (.inl S.1)))
def Oo(L:ao):Option ByteArray:=B_ (aV (AK L) ([],0)) λv5=>match v5 with|.inl aM=>B_ (rv aM) λbg=>B_ (sP bg ⟨#[110,111]⟩) λbh=>some bh|.inr aN=>some aN
def aeH:a4:=⟨51,[cm],[gM],λx=>Oo x⟩
def aqg:bl False aeH:=bn [VU,VV,Dy,V6] [⟨3,[(3,cQ 3),(9,aZ)],some (0,[(3,cQ 3)]),some [(2,gM)],false,none⟩] [] ⟨aep,aeq,Ie,aeG,trivial⟩
def DR(L:ao)(ay:ao):Option Int:=B_ (In L ay) λS=>cond (!S.2) (some (-1)) (B_ (nO S.1) λaa=>B_ (nO L) λak=>B_ (nO ay) λaq=>some (W_ i64 (W_ i64 (aa-ak)-aq)))
def aeI:a4:=⟨52,[cm,cm],[aZ],λx=>DR x.1 x.2⟩
def aqh{ae:Prop}:bl ae aeI:=bn [VL,AD] [] [] ⟨aek,DE,trivial⟩
def V7(L:ao)(ay:ao)(S:Int):Option (Int⊕Unit⊕Bool):=cond (d_ (S<(L.length:Int))) (B_ (idx L S) λaa=>B_ (idx ay S) λak=>B_ (AH aa ak) λaq=>cond (!aq) (some (.inr (.inr false))) (some (.inl (W_ i64 (S+1))))) (some (.inr (.inl ())))
def Oq(L:ao)(ay:ao):Option Bool:=cond ((L.length:Int)!=(ay.length:Int)) (some false) (B_ (aV (V7 L ay) 0) λv5=>match v5 with|.inl aM=>some true|.inr aN=>some aN)
def aeJ:a4:=⟨164,[cm,cm,.f 165],[cc],λx=>Oq x.1 x.2.1⟩
def aqi{ae:Prop}:bl ae aeJ:=bn [Oc] [⟨4,[(17,aZ)],some (0,[]),some [(6,cc)],false,none⟩] [] ⟨VX,trivial⟩
def V8(L:ao)(ay:ao):Option Bool:=B_ (Oq L ay) λS=>some S
def aeK:a4:=⟨78,[cm,cm],[cc],λx=>V8 x.1 x.2⟩
def aqj{ae:Prop}:bl ae aeK:=bn [aeJ] [] [] ⟨aqi,trivial⟩
def Ot(L:ao)(ay:ao):Option Bool:=B_ (DD L) λS=>B_ (DD ay) λaa=>cond S.2 (cond aa.2 (B_ (V8 S.1 aa.1) λak=>some ak) (some false)) (some false)
def aeL:a4:=⟨53,[cm,cm],[cc],λx=>Ot x.1 x.2⟩
def aqk{ae:Prop}:bl ae aeL:=bn [VE,aeK] [] [] ⟨aee,aqj,trivial⟩
def DS(L:ao):Option Int:=B_ (DG L) λS=>cond (!S.2) (some (-1)) (B_ (xF L) λaa=>B_ (xF S.1) λak=>some (W_ i64 (aa+ak)))
def aeM:a4:=⟨54,[cm],[aZ],λx=>DS x⟩
def aql{ae:Prop}:bl ae aeM:=bn [VK,Il] [] [] ⟨aej,NW,trivial⟩
def IA(L:Int):Option ByteArray:=B_ (m4 L 1 (([⟨#[48,44,48,32,49,44,48,32,48,44,49]⟩,⟨#[48,44,48,32,50,44,48,32,48,44,50]⟩,⟨#[45,49,44,45,49,32,49,44,45,49,32,49,44,49,32,45,49,44,49]⟩,⟨#[48,44,48,32,51,44,48,32,49,44,50]⟩,⟨#[45,49,44,45,49,32,50,44,45,49,32,45,49,44,50]⟩,⟨#[48,44,48,32,53,44,50,32,51,44,52]⟩]:List ByteArray).length:Int)) λS=>cond (!S) (some ⟨#[]⟩) (B_ (bD ([⟨#[48,44,48,32,49,44,48,32,48,44,49]⟩,⟨#[48,44,48,32,50,44,48,32,48,44,50]⟩,⟨#[45,49,44,45,49,32,49,44,45,49,32,49,44,49,32,45,49,44,49]⟩,⟨#[48,44,48,32,51,44,48,32,49,44,50]⟩,⟨#[45,49,44,45,49,32,50,44,45,49,32,45,49,44,50]⟩,⟨#[48,44,48,32,53,44,50,32,51,44,52]⟩]:List ByteArray).length (W_ i64 (L-1))) λ_=>B_ (idx [⟨#[48,44,48,32,49,44,48,32,48,44,49]⟩,⟨#[48,44,48,32,50,44,48,32,48,44,50]⟩,⟨#[45,49,44,45,49,32,49,44,45,49,32,49,44,49,32,45,49,44,49]⟩,⟨#[48,44,48,32,51,44,48,32,49,44,50]⟩,⟨#[45,49,44,45,49,32,50,44,45,49,32,45,49,44,50]⟩,⟨#[48,44,48,32,53,44,50,32,51,44,52]⟩] (((W_ i64 (L-(1:Int))).toNat:Nat):Int)) λaa=>some aa)
def aeN:a4:=⟨127,[eA],[gM],λx=>IA x⟩
def aqm{ae:Prop}:bl ae aeN:=bn [qr] [] [] ⟨rr,trivial⟩
def IB(L:Int):Option (ao×Bool):=B_ (IA L) λS=>B_ (Dx S) λaa=>some (aa.1,aa.2)
def V9:a4:=⟨57,[eA],[cs 65,cc],λx=>IB x⟩
def aeO:bl False V9:=bn [aeN,Vm] [] [] ⟨aqm,ad0,trivial⟩
def IC(n t:Int)(s:Int×ao):Option (Int×ao⊕ao):=cond (d_ (s.1<n)) ((bD s.2.length s.1).bind λ_=>if s.1.toNat<s.2.length then s.2[s.1.toNat]?.bind λC=>(bD C.length 0).bind λ_=>s.2[s.1.toNat]?.bind λC=>C[(0:Int).toNat]?.bind λv=>s.2[s.1.toNat]?.bind λC=>(bD C.length 0).bind λ_=>s.2[s.1.toNat]?.bind λC=>C[(0:Int).toNat]?.bind λ_=>(λq:ao=>q[s.1.toNat]?.bind λC=>(bD C.length 1).bind λ_=>q[s.1.toNat]?.bind λC=>C[(1:Int).toNat]?.bind λv=>q[s.1.toNat]?.bind λC=>(bD C.length 1).bind λ_=>q[s.1.toNat]?.bind λC=>C[(1:Int).toNat]?.bind λ_=>some (.inl (W_ i64 (s.1+1),q.set s.1.toNat (C.set (1:Int).toNat (W_ i64 (v*t)))))) (s.2.set s.1.toNat (C.set (0:Int).toNat (W_ i64 (v*t))))else none) (some (.inr s.2))
def Ou(L:ao)(ay:Int):Option (ao×Bool):=B_ (kd L) λS=>cond (!S) (some ([],false)) (B_ (m4 ay 1 50) λaa=>cond (!aa) (some ([],false)) (B_ (ol L) λak=>B_ (aV (IC (ak.length:Int) ay) (0,ak)) λaq=>B_ (kd aq) λv5=>cond (!v5) (some ([],false)) (some (aq,true))))
def AL:a4:=⟨58,[cm,eA],[cs 65,cc],λx=>Ou x.1 x.2⟩
noncomputable def aeP:db:=⟨Tryz.prog,oX,[lz,qr,Ap],[],[],[],[],[]⟩
def aqn(x:i0.den AL.ps):GY aeP [⟨0,19,[⟨5,0,21⟩]⟩] Tryz.f58 AL.ps AL.rs x=AL.F x:=by kernel_rfl
def aqo{ae:Prop}:e3 Tryz.prog AL.f/\gf ae Tryz.prog AL:=ab8 (N:=aeP) pA ⟨l7,rr,Do,trivial⟩ func58 (by kernel_rfl) rfl aqn
def ID(L:ao)(aa:Int):Option (Int⊕Unit⊕Bool):=cond (d_ (aa<(L.length:Int))) (B_ (idx L aa) λak=>cond ((ak.length:Int)!=(L.length:Int)) (some (.inr (.inr false))) (B_ (rt ak (-100) 100) λaq=>cond (!aq) (some (.inr (.inr false))) (some (.inl (W_ i64 (aa+1)))))) (some (.inr (.inl ())))
def Ov(L:ao):Option Bool:=B_ (m4 (L.length:Int) 1 3) λS=>cond (!S) (some false) (B_ (aV (ID L) 0) λv5=>match v5 with|.inl aM=>some true|.inr aN=>some aN)
def aeQ:a4:=⟨316,[cm],[cc],λx=>Ov x⟩
def aqp{ae:Prop}:bl ae aeQ:=bn [qr,Dq] [⟨4,[(11,aZ)],some (0,[]),some [(2,cc)],false,none⟩] [] ⟨rr,H6,trivial⟩
def Ow(L:ao)(ay:Int)(du:Int)(S:ao×Int):Option (ao×Int⊕ao):=cond (d_ (S.2<(L.length:Int))) (B_ (idx L S.2) λaa=>cond (S.2 !=ay) (B_ (eZ aa 0 du) λak=>B_ (oj ak) λaq=>B_ (eZ aa (W_ i64 (du+1)) (aa.length:Int)) λv5=>B_ (bH 8 aq v5) λaM=>B_ (bH 24 S.1 [aM]) λaN=>some (.inl (aN,W_ i64 (S.2+1)))) (some (.inl (S.1,W_ i64 (S.2+1))))) (some (.inr S.1))
def AM(L:ao)(ay:Int)(du:Int):Option ao:=B_ (aV (Ow L ay du) ([],0)) λbg=>some bg
def Wa:a4:=⟨207,[cm,eA,eA],[cs 65],λx=>AM x.1 x.2.1 x.2.2⟩
def aeR{ae:Prop}:bl ae Wa:=bn [vJ] [cu 3 [(7,cs 65),(12,aZ)] 0 [(7,cs 65)]] [cp 6 0] ⟨xC,trivial⟩
def Oy(rec:ao->Option Int)(L:ao)(S:List Int)(aa:Int×Int×Int):Option (Int×Int×Int⊕Int):=cond (d_ (aa.2.2<(S.length:Int))) (B_ (idx S aa.2.2) λak=>cond (ak !=0) (B_ (AM L 0 aa.2.2) λaq=>B_ (rec aq) λv5=>some (.inl (W_ i64 (aa.1+W_ i64 (W_ i64 (aa.2.1*ak)*v5)),(W_ i64 (0-aa.2.1),W_ i64 (aa.2.2+1))))) (some (.inl (aa.1,(W_ i64 (0-aa.2.1),W_ i64 (aa.2.2+1)))))) (some (.inr aa.1))
def vT(rec:ao->Option Int)(L:ao):Option Int:=cond ((L.length:Int)==0) (some 1) (B_ (idx L 0) λS=>B_ (aV (Oy rec L S) (0,(1,0))) λaM=>some aM)
def sQ:Nat->ao->Option Int|0=>λ_=>none|n+1=>vT (sQ n)
def xK(L:ao):Option Int:=sQ 30000 L
def IE:a4:=⟨139,[cm],[aZ],λx=>xK x⟩
def sR(rec:ao->Option Int):a4:=⟨139,[.d false fN],[aZ],λx=>rec x⟩
def aeS(rec:ao->Option Int):db:=⟨Tryz.prog,oX,[Wa,sR rec],[cu 5 [(3,aZ),(4,aZ),(14,aZ)] 0 [(3,aZ)]],[],[],[],[]⟩
def aqq(rec:ao->Option Int)(x:i0.den (sR rec).ps):wy (aeS rec) Tryz.f139 (sR rec).ps (sR rec).rs x=(sR (vT rec)).F x:=by kernel_rfl
def aqr{ae:Prop}(rec:ao->Option Int)(c:e3 Tryz.prog (sR rec).f/\gf ae Tryz.prog (sR rec)):e3 Tryz.prog (sR (vT rec)).f/\gf ae Tryz.prog (sR (vT rec)):=Gz (N:=aeS rec) pA ⟨aeR,c,trivial⟩ func139 (by kernel_rfl) (aqq rec)
def aeT{ae:Prop}:(n:Nat)->e3 Tryz.prog (sR (sQ n)).f/\gf ae Tryz.prog (sR (sQ n))|0=>⟨⟨Tryz.f139,_,func139,by kernel_rfl,rfl⟩,λx u c=>by cases c⟩|n+1=>aqr _ (aeT n)
def Wb{ae:Prop}:e3 Tryz.prog IE.f/\gf ae Tryz.prog IE:=aeT 30000
def Wc(L:ao):Option Int:=B_ (Ov L) λS=>cond (!S) (some 0) (B_ (xK L) λaa=>some aa)
def aeU:a4:=⟨257,[cm],[aZ],λx=>Wc x⟩
def aqs{ae:Prop}:bl ae aeU:=bn [aeQ,IE] [] [] ⟨aqp,Wb,trivial⟩
def Oz(L:ao):Option Bool:=B_ (Wc L) λS=>B_ (Ij S) λaa=>some (aa==1)
def aeV:a4:=⟨203,[cm],[cc],λx=>Oz x⟩
def aqt{ae:Prop}:bl ae aeV:=bn [aeU,Vu] [] [] ⟨aqs,ad5,trivial⟩
def OA(L:ao×List Int):Option Bool:=cond ((L.1.length:Int)==2) (B_ (Oz L.1) λS=>cond S (B_ (vN L.2 1000) λaa=>some aa) (some false)) (some false)
def aeW:a4:=⟨128,[.d false (.prod fN bF)],[cc],λx=>OA x⟩
def aqu{ae:Prop}:bl ae aeW:=bn [aeV,Dt] [] [] ⟨aqt,H7,trivial⟩
def OB(L:ao×List Int)(ay:ao)(ak:ao×Int):Option (ao×Int⊕ao):=cond (d_ (ak.2<(ay.length:Int))) (B_ (idx ay ak.2) λaq=>B_ (idx L.1 0) λv5=>B_ (lA v5 aq) λaM=>B_ (idx L.2 0) λaN=>B_ (idx L.1 1) λbg=>B_ (lA bg aq) λbh=>B_ (idx L.2 1) λbG=>B_ (bH 24 ak.1 [[W_ i64 (aM+aN),W_ i64 (bh+bG)]]) λbE=>some (.inl (bE,W_ i64 (ak.2+1)))) (some (.inr ak.1))
def IF(L:ao×List Int)(ay:ao):Option (ao×Bool):=B_ (OA (L.1,L.2)) λS=>cond (!S) (some ([],false)) (B_ (kd ay) λaa=>cond (!aa) (some ([],false)) (B_ (aV (OB L ay) ([],0)) λbL=>B_ (vP bL) λcZ=>some (cZ.1,cZ.2)))
def aeX:a4:=⟨59,[.d false (.prod fN bF),cm],[cs 65,cc],λx=>IF x.1 x.2⟩
def aqv{ae:Prop}:bl ae aeX:=bn [aeW,lz,xH,DA] [cu 5 [(6,cs 65),(19,aZ)] 0 [(6,cs 65)]] [cp 7 0] ⟨aqu,l7,AG,Ih,trivial⟩
def IG(aN:List Int×List Int×Int)(bg:List Int)(bh:List Int×List Int×Int):Option (List Int×List Int×Int⊕List Int×List Int):=cond (d_ (bh.2.2<(aN.1.length:Int))) (B_ (bD bh.1.length bh.2.2) λ_=>B_ (idx bh.1 ((bh.2.2.toNat:Nat):Int)) λbG=>B_ (idx bg bh.2.2) λbE=>B_ (bD bh.2.1.length bh.2.2) λ_=>B_ (idx bh.2.1 ((bh.2.2.toNat:Nat):Int)) λbL=>B_ (idx bg bh.2.2) λcZ=>B_ (bD bh.1.length bh.2.2) λ_=>B_ (bD bh.1.length ((bh.2.2.toNat:Nat):Int)) λ_=>B_ (bD bh.2.1.length bh.2.2) λ_=>B_ (bD bh.2.1.length ((bh.2.2.toNat:Nat):Int)) λ_=>some (.inl (bh.1.set bh.2.2.toNat (if bE<bG then bE else bG),(bh.2.1.set bh.2.2.toNat (if cZ>bL then cZ else bL),W_ i64 (bh.2.2+1))))) (some (.inr (bh.1,bh.2.1)))
def DT(L:ao)(aN:List Int×List Int×Int):Option (List Int×List Int×Int⊕List Int×List Int):=cond (d_ (aN.2.2<(L.length:Int))) (B_ (idx L aN.2.2) λbg=>B_ (aV (IG aN bg) (aN.1,(aN.2.1,0))) λdF=>some (.inl (dF.1,(dF.2,W_ i64 (aN.2.2+1))))) (some (.inr (aN.1,aN.2.1)))
def OC(L:ao)(ep:ao)(dG:ao×Int):Option (ao×Int⊕ao):=cond (d_ (dG.2<(ep.length:Int))) (B_ (idx ep dG.2) λeS=>B_ (ry L eS) λe7=>cond (d_ (e7>=0)) (B_ (bH 24 dG.1 [eS]) λdO=>some (.inl (dO,W_ i64 (dG.2+1)))) (some (.inl (dG.1,W_ i64 (dG.2+1))))) (some (.inr dG.1))
def IH(L:ao):Option ao:=B_ (kd L) λS=>cond (!S) (some []) (B_ (nO L) λaa=>cond (d_ (aa>2000)) (some []) (B_ (idx L 0) λak=>B_ (oj ak) λaq=>B_ (idx L 0) λv5=>B_ (oj v5) λaM=>B_ (aV (DT L) (aq,(aM,0))) λdA=>B_ (vR dA.1 dA.2) λep=>B_ (aV (OC L ep) ([],0)) λeJ=>B_ (jI eJ) λ_=>some eJ))
def aeY:a4:=⟨132,[cm],[.l (.d true fN)],λx=>IH x⟩
def aqw{ae:Prop}:bl ae aeY:=vu [] [(10,[0,1,2,3,4,5,8,9,13,14,17,18,6,7,10,11,12,15,16,19,20,21,22,23,24,25])] [lz,AD,vJ,Iq,NY] [cu 5 [(3,cQ 3),(4,cQ 3),(29,aZ)] 0 [(3,cQ 3),(4,cQ 3)],cu 8 [(3,cQ 3),(4,cQ 3),(35,aZ)] 2 [(3,cQ 3),(4,cQ 3)],cu 15 [(8,.l (.o false 65 bF)),(68,aZ)] 4 [(8,.l (.o false 65 bF))]] [cp 3 0,cp 10 0] [] ⟨l7,DE,xC,N6,VH,trivial⟩ trivial
def II(ay:List Int)(S:ao)(aN:Int)(bg:List Int×Int):Option (List Int×Int⊕List Int):=cond (d_ (bg.2<(S.length:Int))) (B_ (idx S bg.2) λbh=>B_ (lA ay bh) λbG=>B_ (bD bg.1.length (W_ i64 (bG-W_ i64 (0-aN)))) λ_=>B_ (idx bg.1 (((W_ i64 (bG-W_ i64 (0-aN))).toNat:Nat):Int)) λbE=>B_ (bD bg.1.length (W_ i64 (bG-W_ i64 (0-aN)))) λ_=>B_ (bD bg.1.length (((W_ i64 (bG-W_ i64 (0-aN))).toNat:Nat):Int)) λ_=>some (.inl (bg.1.set (W_ i64 (bG-W_ i64 (0-aN))).toNat (W_ i64 (bE+1)),W_ i64 (bg.2+1)))) (some (.inr bg.1))
def OD(L:ao)(ay:List Int):Option (List Int):=B_ (IH L) λS=>cond S.isEmpty (some []) (B_ (vN ay 12) λaa=>cond (!aa) (some []) (B_ (om L ay) λak=>B_ (nV 8 (W_ i64 (ak+1)) 0) λaq=>B_ (idx ay 0) λv5=>B_ (idx ay 1) λaM=>B_ (DH L [W_ i64 (0-v5),W_ i64 (0-aM)]) λaN=>B_ (aV (II ay S aN) (aq,0)) λbL=>some bL))
def aeZ:a4:=⟨63,[cm,dy],[cQ 3],λx=>OD x.1 x.2⟩
def aqx{ae:Prop}:bl ae aeZ:=bn [aeY,Dt,N9,VO,xH] [cu 7 [(6,cQ 3),(38,aZ)] 0 [(6,cQ 3)]] [cp 5 0] ⟨aqw,H7,VP,aeo,AG,trivial⟩
def OE(L:Int)(ay:List Int×Int):Option Bool:=B_ (m4 L 1 3) λS=>cond S (cond ((ay.1.length:Int)==L) (B_ (rt ay.1 (-20) 20) λaa=>cond aa (B_ (sL ay.1) λak=>cond (d_ (ak>0)) (B_ (m4 ay.2 (-200) 200) λaq=>some aq) (some false)) (some false)) (some false)) (some false)
def ae0:a4:=⟨205,[eA,.d false (.prod bF bK)],[cc],λx=>OE x.1 x.2⟩
def aqy{ae:Prop}:bl ae ae0:=bn [qr,Dq,Ay] [] [] ⟨rr,H6,DB,trivial⟩
def OF(L:Int×List (List Int×Int))(aa:Int):Option (Int⊕Unit⊕Bool):=cond (d_ (aa<(L.2.length:Int))) (B_ (idx L.2 aa) λak=>B_ (OE L.1 (ak.1,ak.2)) λaq=>cond (!aq) (some (.inr (.inr false))) (some (.inl (W_ i64 (aa+1))))) (some (.inr (.inl ())))
def vU(L:Int×List (List Int×Int)):Option Bool:=B_ (m4 L.1 1 3) λS=>cond (!S) (some false) (cond (d_ ((L.2.length:Int)>8)) (some false) (B_ (aV (OF L) 0) λv5=>match v5 with|.inl aM=>some true|.inr aN=>some aN))
def DU:a4:=⟨136,[.d false (.prod bK (.list (.prod bF bK)))],[cc],λx=>vU x⟩
def IJ{ae:Prop}:bl ae DU:=bn [qr,ae0] [⟨4,[(18,aZ)],some (0,[]),some [(2,cc)],false,none⟩] [] ⟨rr,aqy,trivial⟩
def DV(aq:List ByteArray)(v5:(Int×List (List Int×Int))×(Int×List (List Int×Int))×Int):Option ((Int×List (List Int×Int))×(Int×List (List Int×Int))×Int⊕(Int×List (List Int×Int))×Int×List (List Int×Int)⊕(Int×List (List Int×Int))×Bool):=cond (d_ (v5.2.2<(aq.length:Int))) (B_ (idx aq v5.2.2) λaM=>B_ (vK aM 60) λaN=>cond ((aN.length:Int)!=2) (some (.inr (.inr ((0,[]),false)))) (B_ (bD aN.length 0) λ_=>B_ (idx aN (((0:Int).toNat:Nat):Int)) λbg=>B_ (ug bg) λbh=>B_ (bD aN.length 1) λ_=>B_ (idx aN (((1:Int).toNat:Nat):Int)) λbG=>B_ (vL bG) λbE=>cond (!bh.2) (some (.inr (.inr ((0,[]),false)))) (cond (!bE.2) (some (.inr (.inr ((0,[]),false)))) (B_ (bH 32 v5.2.1.2 [(bh.1,bE.1)]) λbL=>some (.inl ((v5.1.1,v5.1.2),((v5.2.1.1,bL),W_ i64 (v5.2.2+1)))))))) (some (.inr (.inl ((v5.1.1,v5.1.2),(v5.2.1.1,v5.2.1.2)))))
def OG(L:ByteArray):Option ((Int×List (List Int×Int))×Bool):=B_ (vK L 59) λS=>B_ (bD S.length 0) λ_=>B_ (idx S (((0:Int).toNat:Nat):Int)) λaa=>B_ (vL aa) λak=>cond (!ak.2) (some ((0,[]),false)) (B_ (eZ S 1 (S.length:Int)) λaq=>B_ (aV (DV aq) ((0,[]),((ak.1,[]),0))) λcZ=>match cZ with|.inl dF=>B_ (vU (dF.2.1,dF.2.2)) λep=>cond (!ep) (some ((0,[]),false)) (some ((dF.2.1,dF.2.2),true))|.inr dA=>some ((dA.1.1,dA.1.2),dA.2))
def ae1:a4:=⟨64,[iH],[.a [.d false bK,.o true 132 (.prod bF bK)],cc],λx=>OG x⟩
noncomputable def ae2:db:=⟨Tryz.prog,oX,[DU],[],[],[],[],[]⟩
def Wd:mK:=⟨135,true,n4 ae2 Tryz.f135⟩
def aqz{ae:Prop}:e3 Tryz.prog Wd.f/\kY ae Tryz.prog Wd:=abx (N:=ae2) pA ⟨IJ,trivial⟩ func135 (by kernel_rfl) (by kernel_rfl) rfl
def aqA:bl False ae1:=Ul [Dp,H5,NI] [⟨7,[(2,.b 79 [.d false bK,.o true 132 (.prod bF bK)]),(7,.b 79 [.d false bK,.o true 132 (.prod bF bK)]),(32,aZ)],some (0,[(2,.b 79 [.d false bK,.o true 132 (.prod bF bK)]),(7,.b 79 [.d false bK,.o true 132 (.prod bF bK)])]),some [(2,.b 79 [.d false bK,.o true 132 (.prod bF bK)]),(3,cc)],false,none⟩] [] [Wd] ⟨H3,Vg,Vj,trivial⟩ ⟨aqz,trivial⟩
def OH(L:Int×List (List Int×Int))(ay:List Int)(ak:Int):Option (Int⊕Unit⊕Bool):=cond (d_ (ak<(L.2.length:Int))) (B_ (idx L.2 ak) λaq=>B_ (lA aq.1 ay) λv5=>cond (d_ (v5>aq.2)) (some (.inr (.inr false))) (some (.inl (W_ i64 (ak+1))))) (some (.inr (.inl ())))
def IK(L:Int×List (List Int×Int))(ay:List Int):Option Bool:=B_ (vU (L.1,L.2)) λS=>cond (!S) (some false) (B_ (vM ay) λaa=>cond (!aa) (some false) (cond ((ay.length:Int)!=L.1) (some false) (B_ (aV (OH L ay) 0) λaM=>match aM with|.inl aN=>some true|.inr bg=>some bg)))
def ae3:a4:=⟨206,[.d false (.prod bK (.list (.prod bF bK))),dy],[cc],λx=>IK x.1 x.2⟩
def aqB{ae:Prop}:bl ae ae3:=bn [DU,Aq,xH] [⟨4,[(25,aZ)],some (0,[]),some [(4,cc)],false,none⟩] [cp 6 0] ⟨IJ,Ds,AG,trivial⟩
def OI(aa:List Int)(aq:List Int×List Int×Int):Option (List Int×List Int×Int⊕List Int×List Int):=cond (d_ (aq.2.2<(aa.length:Int))) (B_ (bD aq.1.length aq.2.2) λ_=>B_ (bD aq.1.length ((aq.2.2.toNat:Nat):Int)) λ_=>B_ (bD aq.2.1.length aq.2.2) λ_=>B_ (bD aq.2.1.length ((aq.2.2.toNat:Nat):Int)) λ_=>some (.inl (aq.1.set aq.2.2.toNat (-6),(aq.2.1.set aq.2.2.toNat 6,W_ i64 (aq.2.2+1))))) (some (.inr (aq.1,aq.2.1)))
def IL(L:Int×List (List Int×Int))(aM:ao)(aN:ao×Int):Option (ao×Int⊕ao):=cond (d_ (aN.2<(aM.length:Int))) (B_ (idx aM aN.2) λbg=>B_ (IK (L.1,L.2) bg) λbh=>cond bh (B_ (bH 24 aN.1 [bg]) λbG=>some (.inl (bG,W_ i64 (aN.2+1)))) (some (.inl (aN.1,W_ i64 (aN.2+1))))) (some (.inr aN.1))
def IM(L:Int×List (List Int×Int)):Option ao:=B_ (vU (L.1,L.2)) λS=>cond (!S) (some []) (B_ (nV 8 L.1 0) λaa=>B_ (nV 8 L.1 0) λak=>B_ (aV (OI aa) (aa,(ak,0))) λv5=>B_ (vR v5.1 v5.2) λaM=>B_ (aV (IL L aM) ([],0)) λbE=>some bE)
def ae4:a4:=⟨137,[.d false (.prod bK (.list (.prod bF bK)))],[.l (.o false 65 bF)],λx=>IM x⟩
def aqC{ae:Prop}:bl ae ae4:=bn [DU,Iq,ae3] [cu 5 [(3,cQ 3),(4,cQ 3),(20,aZ)] 0 [(3,cQ 3),(4,cQ 3)],cu 11 [(6,.l (.o false 65 bF)),(34,aZ)] 2 [(6,.l (.o false 65 bF))]] [cp 3 0] ⟨IJ,N6,aqB,trivial⟩
def OJ(L:Int×List (List Int×Int)):Option Int:=B_ (vU (L.1,L.2)) λS=>cond (!S) (some (-1)) (B_ (IM (L.1,L.2)) λaa=>some (aa.length:Int))
def ae5:a4:=⟨65,[.d false (.prod bK (.list (.prod bF bK)))],[aZ],λx=>OJ x⟩
def aqD{ae:Prop}:bl ae ae5:=bn [DU,ae4] [] [] ⟨IJ,aqC,trivial⟩
def IP(L:ao)(S:ao×Int)(ak:ao×List Int×Int):Option (ao×List Int×Int⊕ao×List Int):=cond (d_ (ak.2.2<(L.length:Int))) (B_ (AM L ak.2.2 S.2) λaq=>B_ (xK aq) λv5=>B_ (bD ak.2.1.length ak.2.2) λ_=>B_ (bD ak.2.1.length ((ak.2.2.toNat:Nat):Int)) λ_=>B_ (fT .i64 (W_ i64 (S.2+ak.2.2)) 2) λaM=>cond (aM==1) (B_ (bD (ak.2.1.set ak.2.2.toNat v5).length ak.2.2) λ_=>B_ (idx (ak.2.1.set ak.2.2.toNat v5) ((ak.2.2.toNat:Nat):Int)) λaN=>B_ (bD (ak.2.1.set ak.2.2.toNat v5).length ak.2.2) λ_=>B_ (bD (ak.2.1.set ak.2.2.toNat v5).length ((ak.2.2.toNat:Nat):Int)) λ_=>some (.inl (ak.1,((ak.2.1.set ak.2.2.toNat v5).set ak.2.2.toNat (W_ i64 (0-aN)),W_ i64 (ak.2.2+1))))) (some (.inl (ak.1,(ak.2.1.set ak.2.2.toNat v5,W_ i64 (ak.2.2+1)))))) (some (.inr (ak.1,ak.2.1)))
def OK(L:ao)(S:ao×Int):Option (ao×Int⊕ao):=cond (d_ (S.2<(L.length:Int))) (B_ (nV 8 (L.length:Int) 0) λaa=>B_ (aV (IP L S) (S.1,(aa,0))) λbg=>B_ (bH 24 bg.1 [bg.2]) λbh=>some (.inl (bh,W_ i64 (S.2+1)))) (some (.inr S.1))
def OL(L:ao):Option ao:=B_ (aV (OK L) ([],0)) λbG=>some bG
def ae6:a4:=⟨140,[cm],[cs 65],λx=>OL x⟩
def aqE{ae:Prop}:bl ae ae6:=bn [Wa,IE] [cu 3 [(3,cs 65),(9,aZ)] 0 [(3,cs 65)],cu 7 [(3,cs 65),(5,cQ 3),(17,aZ)] 2 [(3,cs 65),(5,cQ 3)]] [] ⟨aeR,Wb,trivial⟩
def IQ(L:List Int×Int)(aa:Int)(aq:(List Int×Int)×(List Int×Int)×Int):Option ((List Int×Int)×(List Int×Int)×Int⊕(List Int×Int)×List Int×Int):=cond (d_ (aq.2.2<(L.1.length:Int))) (B_ (idx L.1 aq.2.2) λv5=>B_ (fA .i64 v5 (W_ i64 (0-aa))) λaM=>B_ (bH 8 aq.2.1.1 [aM]) λaN=>some (.inl ((aq.1.1,aq.1.2),((aN,aq.2.1.2),W_ i64 (aq.2.2+1))))) (some (.inr ((aq.1.1,aq.1.2),(aq.2.1.1,aq.2.1.2))))
def IR(L:List Int×Int)(aa:Int)(bG:(List Int×Int)×(List Int×Int)×Int):Option ((List Int×Int)×(List Int×Int)×Int⊕(List Int×Int)×List Int×Int):=cond (d_ (bG.2.2<(L.1.length:Int))) (B_ (idx L.1 bG.2.2) λbE=>B_ (fA .i64 bE aa) λbL=>B_ (bH 8 bG.2.1.1 [bL]) λcZ=>some (.inl ((bG.1.1,bG.1.2),((cZ,bG.2.1.2),W_ i64 (bG.2.2+1))))) (some (.inr ((bG.1.1,bG.1.2),(bG.2.1.1,bG.2.1.2))))
def OM(L:List Int×Int):Option (List Int×Int):=B_ (sL L.1) λS=>B_ (Ik S L.2) λaa=>cond (d_ (L.2<0)) (B_ (fA .i64 L.2 (W_ i64 (0-aa))) λak=>B_ (aV (IQ L aa) (([],0),(([],ak),0))) λbg=>some (bg.2.1,bg.2.2)) (B_ (fA .i64 L.2 aa) λbh=>B_ (aV (IR L aa) (([],0),(([],bh),0))) λdF=>some (dF.2.1,dF.2.2))
def ae7:a4:=⟨141,[.d false (.prod bF bK)],[.a [.o true 3 bK,.d false bK]],λx=>OM x⟩
def aqF{ae:Prop}:bl ae ae7:=bn [Ay,Vv] [cu 6 [(2,.b 86 [.o true 3 bK,.d false bK]),(4,.b 86 [.o true 3 bK,.d false bK]),(26,aZ)] 0 [(2,.b 86 [.o true 3 bK,.d false bK]),(4,.b 86 [.o true 3 bK,.d false bK])]] [cp 1 0,cp 8 0] ⟨DB,ad6,trivial⟩
def ON(L:Int×List (List Int×Int))(ay:List Int×Int)(S:Int):Option (Int⊕Unit⊕Bool):=cond (d_ (S<(L.2.length:Int))) (B_ (idx L.2 S) λaa=>B_ (lA aa.1 ay.1) λak=>cond (d_ (ak>W_ i64 (aa.2*ay.2))) (some (.inr (.inr false))) (some (.inl (W_ i64 (S+1))))) (some (.inr (.inl ())))
def IS(L:Int×List (List Int×Int))(ay:List Int×Int):Option Bool:=B_ (aV (ON L ay) 0) λaq=>match aq with|.inl v5=>some true|.inr aM=>some aM
def ae8:a4:=⟨142,[.d false (.prod bK (.list (.prod bF bK))),.d false (.prod bF bK)],[cc],λx=>IS x.1 x.2⟩
def aqG{ae:Prop}:bl ae ae8:=bn [xH] [⟨2,[(10,aZ)],some (0,[]),some [(4,cc)],false,none⟩] [cp 4 0] ⟨AG,trivial⟩
def OO(rec:nH)(du:List (List Int×Int))(S:List (List Int×Int)×ao×List Int×Int):Option (List (List Int×Int)×ao×List Int×Int⊕List (List Int×Int)×ao×List Int):=cond (d_ (S.2.2.2<(du.length:Int))) (B_ (idx du S.2.2.2) λaa=>B_ (bH 24 S.2.1 [aa.1]) λak=>B_ (bH 8 S.2.2.1 [aa.2]) λaq=>some (.inl (S.1,(ak,(aq,W_ i64 (S.2.2.2+1)))))) (some (.inr (S.1,(S.2.1,S.2.2.1))))
def OP(rec:nH)(v5:List (List Int×Int)×ao×List Int)(aN:ao)(bg:List (List Int×Int)×(List Int×Int)×Int):Option (List (List Int×Int)×(List Int×Int)×Int⊕List (List Int×Int)×List Int×Int):=cond (d_ (bg.2.2<(aN.length:Int))) (B_ (idx aN bg.2.2) λbh=>B_ (lA bh v5.2.2) λbG=>B_ (bH 8 bg.2.1.1 [bG]) λbE=>some (.inl (bg.1,((bE,bg.2.1.2),W_ i64 (bg.2.2+1))))) (some (.inr (bg.1,(bg.2.1.1,bg.2.1.2))))
def IT(rec:nH)(L:Int×List (List Int×Int))(du:List (List Int×Int))(ep:Int×List (List Int×Int)):Option (Int×List (List Int×Int)⊕List (List Int×Int)):=cond (d_ (ep.1<(L.2.length:Int))) (B_ (E7 (du.length:Int) (du.length:Int) du.length) λdG=>B_ (idx L.2 ep.1) λeS=>B_ (jI [(eS.1,eS.2)]) λ_=>B_ (bH 32 du [(eS.1,eS.2)]) λe7=>B_ (rec (L.1,L.2) (W_ i64 (ep.1+1)) e7 ep.2) λdO=>some (.inl (W_ i64 (ep.1+1),dO))) (some (.inr ep.2))
def xL(rec:nH)(L:Int×List (List Int×Int))(ay:Int)(du vH:List (List Int×Int)):Option (List (List Int×Int)):=cond ((du.length:Int)==L.1) (B_ (aV (OO rec du) (vH,([],([],0)))) λv5=>B_ (xK v5.2.1) λaM=>cond (aM==0) (some v5.1) (B_ (OL v5.2.1) λaN=>B_ (aV (OP rec v5 aN) (v5.1,(([],aM),0))) λbL=>B_ (OM (bL.2.1,bL.2.2)) λcZ=>B_ (IS (L.1,L.2) (cZ.1,cZ.2)) λdF=>cond dF (B_ (bH 32 bL.1 [(cZ.1,cZ.2)]) λdA=>some dA) (some bL.1))) (B_ (aV (IT rec L du) (ay,vH)) λeJ=>some eJ)
def xM:Nat->nH|0=>λ_ _ _ _=>none|n+1=>xL (xM n)
def IV:nH:=xM 30000
def OQ:oV:=⟨138,79,136,83,86⟩
def AN(rec:nH):mK:=⟨138,false,xm OQ rec⟩
def ae9(rec:nH):db:=⟨Tryz.prog,oX,[IE,ae6,xH,ae7,ae8],[cu 4 [(3,.b 83 [.o false 86 (.prod bF bK)]),(7,.l (.o false 65 bF)),(8,cQ 3),(23,aZ)] 0 [(3,.b 83 [.o false 86 (.prod bF bK)]),(7,.l (.o false 65 bF)),(8,cQ 3)],cu 13 [(3,.b 83 [.o false 86 (.prod bF bK)]),(12,.b 86 [.o true 3 bK,.d false bK]),(47,aZ)] 2 [(3,.b 83 [.o false 86 (.prod bF bK)]),(12,.b 86 [.o true 3 bK,.d false bK])],⟨21,[(15,aZ)],some (4,[]),none,false,some (3,.b 83 [.o false 86 (.prod bF bK)])⟩],[cp 15 0,cp 23 0],[AN rec],[],[]⟩
def aqH(rec:nH)(x:Int×List (List Int×Int))(i:Int)(D q:List (List Int×Int)):Ml (ae9 rec) Tryz.f138 OQ x i D q=xL rec x i D q:=by kernel_rfl
def aqI{ae:Prop}(rec:nH)(c:e3 Tryz.prog 138/\kY ae Tryz.prog (AN rec)):e3 Tryz.prog 138/\kY ae Tryz.prog (AN (xL rec)):=aoE (N:=ae9 rec) (m:=OQ) pA ⟨Wb,aqE,AG,aqF,aqG,trivial⟩ func138 (by kernel_rfl) (aqH rec) ⟨c,trivial⟩
def afa{ae:Prop}:(n:Nat)->e3 Tryz.prog 138/\kY ae Tryz.prog (AN (xM n))|0=>aoF (m:=OQ) func138 (by kernel_rfl)|n+1=>aqI _ (afa n)
def aqJ{ae:Prop}:e3 Tryz.prog (AN IV).f/\kY ae Tryz.prog (AN IV):=afa 30000
def IW(L:List Int×Int)(ay:List Int×Int)(S:Int):Option (Int⊕Unit⊕Int):=cond (d_ (S<(L.1.length:Int))) (B_ (idx L.1 S) λaa=>B_ (idx ay.1 S) λak=>B_ (Au (W_ i64 (aa*ay.2)) (W_ i64 (ak*L.2))) λaq=>cond (aq !=0) (some (.inr (.inr aq))) (some (.inl (W_ i64 (S+1))))) (some (.inr (.inl ())))
def vV(L:List Int×Int)(ay:List Int×Int):Option Int:=B_ (aV (IW L ay) 0) λv5=>match v5 with|.inl aM=>some 0|.inr aN=>some aN
def afb:a4:=⟨144,[.d false (.prod bF bK),.d false (.prod bF bK)],[aZ],λx=>vV x.1 x.2⟩
def We{ae:Prop}:bl ae afb:=bn [Vk] [⟨2,[(10,aZ)],some (0,[]),some [(4,aZ)],false,none⟩] [cp 4 0] ⟨adZ,trivial⟩
def OR(L:List (List Int×Int)):Option (Unit×List (List Int×Int)×Unit):=GQ (λa b=>vV a b) L
def Wf:a4:=⟨143,[.io false 86 (.prod bF bK),.f 144],[],λx=>OR x.1⟩
def aqK{ae:Prop}:e3 Tryz.prog Wf.f/\gf ae Tryz.prog Wf:=⟨⟨Tryz.f143,_,func143,by kernel_rfl,rfl⟩,anB (a:=bF) (b:=bK) anR rfl Tryz.isAgg86 Tryz.sizeOf86 (We (ae:=True)).1 (We (ae:=True)).2⟩
def AO(L:List Int×Int)(ay:List Int×Int):Option Bool:=B_ (vV (L.1,L.2) (ay.1,ay.2)) λS=>some (S==0)
def afc:a4:=⟨146,[.d false (.prod bF bK),.d false (.prod bF bK)],[cc],λx=>AO x.1 x.2⟩
def aqL{ae:Prop}:bl ae afc:=bn [afb] [] [] ⟨We,trivial⟩
def OS(S:Int×List (List Int×Int))(aM:Int×Int×List (List Int×Int)):Option (Int×Int×List (List Int×Int)⊕Int×List (List Int×Int)):=cond (d_ (aM.2.1<(((S.2.length:Int).toNat-S.1.toNat:Nat):Int))) (B_ (bD ((S.2.length:Int).toNat-S.1.toNat) aM.2.1) λ_=>B_ (idx aM.2.2 ((S.1.toNat+aM.2.1.toNat:Nat):Int)) λaN=>B_ (bD ((S.2.length:Int).toNat-S.1.toNat) (W_ i64 (aM.2.1-1))) λ_=>B_ (idx aM.2.2 ((S.1.toNat+(W_ i64 (aM.2.1-(1:Int))).toNat:Nat):Int)) λbg=>B_ (AO aN bg) λbh=>cond (!bh) (B_ (bD ((S.2.length:Int).toNat-S.1.toNat) aM.2.1) λ_=>B_ (idx aM.2.2 ((S.1.toNat+aM.2.1.toNat:Nat):Int)) λbG=>B_ (bD aM.2.2.length aM.1) λ_=>B_ (bD aM.2.2.length ((aM.1.toNat:Nat):Int)) λ_=>some (.inl (W_ i64 (aM.1+1),(W_ i64 (aM.2.1+1),aM.2.2.set aM.1.toNat (bG.1,bG.2))))) (some (.inl (aM.1,(W_ i64 (aM.2.1+1),aM.2.2))))) (some (.inr (aM.1,aM.2.2)))
def Wg(S:Int×List (List Int×Int)):Option (Int×List (List Int×Int)⊕List (List Int×Int)⊕List (List Int×Int)):=cond (d_ (S.1<(S.2.length:Int))) (B_ (bD S.2.length S.1) λ_=>B_ (idx S.2 ((S.1.toNat:Nat):Int)) λaa=>B_ (bD S.2.length (W_ i64 (S.1-1))) λ_=>B_ (idx S.2 (((W_ i64 (S.1-(1:Int))).toNat:Nat):Int)) λak=>B_ (AO aa ak) λaq=>cond aq (B_ (eZ S.2 S.1 (S.2.length:Int)) λv5=>B_ (aV (OS S) (S.1,(1,S.2))) λbE=>B_ (eZ bE.2 bE.1 (bE.2.length:Int)) λbL=>B_ (E8 bE.1.toNat (bE.2.length:Int).toNat bE.2.length) λcZ=>B_ (eZ (bE.2.take bE.1.toNat++List.replicate ((bE.2.length:Int).toNat-bE.1.toNat) ([],0)) 0 bE.1) λdF=>some (.inr (.inr dF))) (some (.inl (W_ i64 (S.1+1),S.2)))) (some (.inr (.inl S.2)))
def OT(L:List (List Int×Int)):Option (List (List Int×Int)):=cond (d_ ((L.length:Int)<2)) (some L) (B_ (aV Wg (1,L)) λdA=>match dA with|.inl ep=>some ep|.inr dG=>some dG)
def afd:a4:=⟨145,[.mv false 86 (.prod bF bK),.f 146],[.l (.o false 86 (.prod bF bK))],λx=>OT x.1⟩
def aqM{ae:Prop}:bl ae afd:=vu [29,59] [] [afc] [⟨4,[(5,aZ)],some (0,[]),some [(4,.l (.o false 86 (.prod bF bK)))],false,some (0,.l (.o false 86 (.prod bF bK)))⟩,⟨9,[(5,aZ),(7,aZ)],some (2,[(5,aZ)]),none,false,some (0,.l (.o false 86 (.prod bF bK)))⟩] [cp 6 0,cp 11 0] [] ⟨aqL,trivial⟩ trivial
def IX(L:Int×List (List Int×Int)):Option (List (List Int×Int)):=B_ (vU (L.1,L.2)) λS=>cond (!S) (some []) (B_ (IV (L.1,L.2) 0 [] []) λaa=>B_ (OR aa) λak=>B_ (OT ak.2.1) λaq=>some aq)
def afe:a4:=⟨66,[.d false (.prod bK (.list (.prod bF bK)))],[.l (.o false 86 (.prod bF bK))],λx=>IX x⟩
def aqN{ae:Prop}:bl ae afe:=Ul [DU,Wf,afd] [] [] [AN IV] ⟨IJ,aqK,aqM,trivial⟩ ⟨aqJ,trivial⟩
def IY(L:List Int×Int):Option ByteArray:=cond ((L.1.length:Int)==0) (some ⟨#[]⟩) (cond (d_ (L.2<1)) (some ⟨#[]⟩) (B_ (rv L.1) λS=>cond (L.2 !=1) (B_ (k4 L.2) λaa=>B_ (fl ⟨#[47]⟩ aa) λak=>B_ (fl S ak) λaq=>some aq) (some S)))
def aff:a4:=⟨67,[.d false (.prod bF bK)],[gM],λx=>IY x⟩
def aqO:bl False aff:=bn [Dy,Ic] [] [] ⟨Ie,NL,trivial⟩
def OU(L:List Int)(ay:Int)(du:List Int)(S:List Int×Int):Option (List Int×Int⊕List Int):=cond (d_ (S.2<(L.length:Int))) (B_ (bD S.1.length S.2) λ_=>B_ (idx S.1 ((S.2.toNat:Nat):Int)) λaa=>B_ (idx du S.2) λak=>B_ (bD S.1.length S.2) λ_=>B_ (bD S.1.length ((S.2.toNat:Nat):Int)) λ_=>some (.inl (S.1.set S.2.toNat (W_ i64 (aa-W_ i64 (ay*ak))),W_ i64 (S.2+1)))) (some (.inr S.1))
def DW(L:List Int)(ay:Int)(du:List Int):Option (Unit×List Int×Unit):=B_ (aV (OU L ay du) (L,0)) λaq=>some ((),(aq,()))
def afg:a4:=⟨150,[.io true 3 bK,eA,dy],[],λx=>DW x.1 x.2.1 x.2.2⟩
def aqP{ae:Prop}:bl ae afg:=bn [] [cu 1 [(0,cQ 3),(9,aZ)] 0 [(0,cQ 3)]] [cp 3 0] trivial
def IZ(L:List Int×List Int)(ak:ao):Option (ao⊕ao):=B_ (bD ak.length (W_ i64 ((ak.length:Int)-1))) λ_=>B_ (idx ak (((W_ i64 ((ak.length:Int)-(1:Int))).toNat:Nat):Int)) λaq=>B_ (ly aq L.2) λv5=>cond (v5==0) (some (.inr ak)) (B_ (sM aq) λaM=>B_ (ly aM L.2) λaN=>B_ (AA aN v5) λbg=>B_ (DW aM bg aq) λbh=>B_ (bH 24 ak [bh.2.1]) λbG=>some (.inl bG))
def DX(L:List Int×List Int):Option ao:=B_ (xJ (L.1,L.2)) λS=>cond (!S) (some []) (B_ (oj L.1) λaa=>B_ (aV (IZ L) [aa]) λbE=>some bE)
def Wh:a4:=⟨69,[.d false (.prod bF bF)],[cs 65],λx=>DX x⟩
def afh{ae:Prop}:bl ae Wh:=bn [Is,vJ,xE,VA,VB,afg] [⟨4,[(3,cs 65)],none,some [(2,cs 65)],false,none⟩] [] ⟨Ob,xC,As,ad9,aea,aqP,trivial⟩
def I0(S:ao)(aa:List Int×Int):Option (List Int×Int⊕List Int):=cond (d_ (W_ i64 (aa.2+1)<(S.length:Int))) (B_ (idx S (W_ i64 (aa.2-1))) λak=>B_ (idx S (W_ i64 (aa.2+1))) λaq=>B_ (ly ak aq) λv5=>B_ (bH 8 aa.1 [v5]) λaM=>some (.inl (aM,W_ i64 (aa.2+1)))) (some (.inr aa.1))
def OV(L:List Int×List Int):Option (List Int):=B_ (DX (L.1,L.2)) λS=>B_ (aV (I0 S) ([],1)) λaN=>some aN
def afi:a4:=⟨70,[.d false (.prod bF bF)],[cQ 3],λx=>OV x⟩
def aqQ{ae:Prop}:bl ae afi:=bn [Wh,xE] [cu 4 [(4,cQ 3),(5,aZ)] 0 [(4,cQ 3)]] [cp 6 0] ⟨afh,As,trivial⟩
def OW(L:List Int)(ak:Int):Option (Int⊕Unit⊕Bool):=cond (d_ (ak<(L.length:Int))) (B_ (idx L (W_ i64 (ak-1))) λaq=>B_ (idx L ak) λv5=>cond (d_ (aq>=v5)) (some (.inr (.inr false))) (some (.inl (W_ i64 (ak+1))))) (some (.inr (.inl ())))
def OX(L:List Int):Option Bool:=B_ (m4 (L.length:Int) 1 6) λS=>cond (!S) (some false) (B_ (rt L 1 30) λaa=>cond (!aa) (some false) (B_ (aV (OW L) 1) λaM=>match aM with|.inl aN=>some true|.inr bg=>some bg))
def afj:a4:=⟨152,[dy],[cc],λx=>OX x⟩
def aqR{ae:Prop}:bl ae afj:=bn [qr,Dq] [⟨4,[(3,aZ)],some (0,[]),some [(2,cc)],false,none⟩] [cp 6 0] ⟨rr,H6,trivial⟩
def DY(ay:Int)(v5:Int)(aM:List Int×Int):Option (List Int×Int⊕List Int):=cond (d_ (aM.2<=ay)) (B_ (bD aM.1.length aM.2) λ_=>B_ (idx aM.1 ((aM.2.toNat:Nat):Int)) λaN=>B_ (bD aM.1.length (W_ i64 (aM.2-v5))) λ_=>B_ (idx aM.1 (((W_ i64 (aM.2-v5)).toNat:Nat):Int)) λbg=>B_ (bD aM.1.length aM.2) λ_=>B_ (bD aM.1.length ((aM.2.toNat:Nat):Int)) λ_=>some (.inl (aM.1.set aM.2.toNat (W_ i64 (aN+bg)),W_ i64 (aM.2+1)))) (some (.inr aM.1))
def DZ(L:List Int)(ay:Int)(aq:List Int×Int):Option (List Int×Int⊕List Int):=cond (d_ (aq.2<(L.length:Int))) (B_ (idx L aq.2) λv5=>B_ (aV (DY ay v5) (aq.1,v5)) λbh=>some (.inl (bh,W_ i64 (aq.2+1)))) (some (.inr aq.1))
def OY(L:List Int)(ay:Int):Option Int:=B_ (OX L) λS=>cond (!S) (some (-1)) (B_ (m4 ay 0 500) λaa=>cond (!aa) (some (-1)) (B_ (nV 8 (W_ i64 (ay+1)) 0) λak=>B_ (bD ak.length 0) λ_=>B_ (bD ak.length (((0:Int).toNat:Nat):Int)) λ_=>B_ (aV (DZ L ay) (ak.set (0:Int).toNat 1,0)) λbG=>B_ (bD bG.length ay) λ_=>B_ (idx bG (((ay).toNat:Nat):Int)) λbE=>some bE))
def afk:a4:=⟨71,[dy,eA],[aZ],λx=>OY x.1 x.2⟩
def aqS{ae:Prop}:bl ae afk:=bn [afj,qr] [cu 6 [(5,cQ 3),(24,aZ)] 0 [(5,cQ 3)],cu 9 [(5,cQ 3),(8,aZ)] 2 [(5,cQ 3)]] [cp 11 0] ⟨aqR,rr,trivial⟩
def D0(D1:List (List Int×Int))(qt:(ao×ao)×(ao×ao)×List ByteArray×Int):Option ((ao×ao)×(ao×ao)×List ByteArray×Int⊕(ao×ao)×(ao×ao)×List ByteArray):=cond (d_ (qt.2.2.2<(D1.length:Int))) (B_ (idx D1 qt.2.2.2) λafl=>B_ (IY (afl.1,afl.2)) λaqT=>B_ (bH 16 qt.2.2.1 [aqT]) λaqU=>some (.inl ((qt.1.1,qt.1.2),((qt.2.1.1,qt.2.1.2),(aqU,W_ i64 (qt.2.2.2+1)))))) (some (.inr ((qt.1.1,qt.1.2),((qt.2.1.1,qt.2.1.2),qt.2.2.1))))
def AP(L:(ao)×(ao))(ay:ByteArray):Option ((ao×ao)×ByteArray):=B_ (ol L.1) λS=>B_ (ol L.2) λaa=>B_ (vK ay 32) λak=>B_ (eZ ak 1 (ak.length:Int)) λaq=>B_ (idx ak 0) λv5=>B_ (cond (v5.toList==(⟨#[112,111,108,121]⟩:ByteArray).toList) (some (d_ ((aq.length:Int)>0))) (some false)) λaM=>cond aM (B_ (sK aq ⟨#[32]⟩) λaN=>B_ (Dx aN) λbg=>cond (!bg.2) (some ((S,aa),⟨#[110,111]⟩)) (B_ (pC bg.1) λbh=>some ((bg.1,aa),bh))) (cond ((aq.length:Int)==0) (cond (v5.toList==(⟨#[109,105,114,114,111,114]⟩:ByteArray).toList) (B_ (Ii L.1) λbG=>cond (!bG.2) (some ((S,aa),⟨#[110,111]⟩)) (B_ (pC bG.1) λbE=>some ((bG.1,aa),bE))) (cond (v5.toList==(⟨#[110,111,114,109,97,108]⟩:ByteArray).toList) (B_ (DD L.1) λbL=>cond (!bL.2) (some ((S,aa),⟨#[110,111]⟩)) (B_ (pC bL.1) λcZ=>some ((bL.1,aa),cZ))) (cond (v5.toList==(⟨#[100,117,97,108]⟩:ByteArray).toList) (B_ (DG L.1) λdF=>cond (!dF.2) (some ((S,aa),⟨#[110,111]⟩)) (B_ (pC dF.1) λdA=>some ((dF.1,aa),dA))) (cond (v5.toList==(⟨#[115,117,109]⟩:ByteArray).toList) (B_ (In L.1 L.2) λep=>cond (!ep.2) (some ((S,aa),⟨#[110,111]⟩)) (B_ (pC ep.1) λdG=>some ((ep.1,aa),dG))) (cond (v5.toList==(⟨#[107,101,101,112]⟩:ByteArray).toList) (B_ (ol L.1) λeS=>some ((S,eS),⟨#[111,107]⟩)) (cond (v5.toList==(⟨#[115,119,97,112]⟩:ByteArray).toList) (some ((aa,S),⟨#[111,107]⟩)) (cond (v5.toList==(⟨#[115,104,111,119]⟩:ByteArray).toList) (B_ (pC L.1) λe7=>some ((S,aa),e7)) (cond (v5.toList==(⟨#[100,101,115,99,114,105,98,101]⟩:ByteArray).toList) (B_ (Oe L.1) λdO=>some ((S,aa),dO)) (cond (v5.toList==(⟨#[101,109,112,116,121]⟩:ByteArray).toList) (B_ (Om L.1) λeJ=>B_ (k4 eJ) λhk=>some ((S,aa),hk)) (cond (v5.toList==(⟨#[119,105,100,116,104]⟩:ByteArray).toList) (B_ (rz L.1) λhQ=>B_ (k4 hQ) λhR=>some ((S,aa),hR)) (cond (v5.toList==(⟨#[100,105,114,101,99,116,105,111,110,115]⟩:ByteArray).toList) (B_ (AJ L.1) λjq=>B_ (DP jq) λlv=>B_ (sP lv ⟨#[45]⟩) λk3=>some ((S,aa),k3)) (cond (v5.toList==(⟨#[99,111,114,110,101,114,115]⟩:ByteArray).toList) (B_ (Oo L.1) λhS=>some ((S,aa),hS)) (cond (v5.toList==(⟨#[109,105,120,101,100]⟩:ByteArray).toList) (B_ (DR L.1 L.2) λka=>B_ (k4 ka) λkb=>some ((S,aa),kb)) (cond (v5.toList==(⟨#[115,97,109,101]⟩:ByteArray).toList) (B_ (Ot L.1 L.2) λjC=>cond jC (some ((S,aa),⟨#[121,101,115]⟩)) (some ((S,aa),⟨#[110,111]⟩))) (cond (v5.toList==(⟨#[116,119,101,108,118,101]⟩:ByteArray).toList) (B_ (DS L.1) λvF=>B_ (k4 vF) λua=>some ((S,aa),ua)) (some ((S,aa),⟨#[119,104,97,116]⟩))))))))))))))))) (cond ((aq.length:Int)==1) (B_ (idx aq 0) λud=>B_ (vL ud) λm3=>B_ (idx aq 0) λqs=>B_ (ug qs) λuj=>B_ (cond (v5.toList==(⟨#[101,120,97,109,112,108,101]⟩:ByteArray).toList) (some m3.2) (some false)) λDO=>cond DO (B_ (IB m3.1) λIu=>cond (!Iu.2) (some ((S,aa),⟨#[110,111]⟩)) (B_ (pC Iu.1) λVY=>some ((Iu.1,aa),VY))) (B_ (cond (v5.toList==(⟨#[100,105,108,97,116,101]⟩:ByteArray).toList) (some m3.2) (some false)) λIv=>cond Iv (B_ (Ou L.1 m3.1) λIw=>cond (!Iw.2) (some ((S,aa),⟨#[110,111]⟩)) (B_ (pC Iw.1) λIx=>some ((Iw.1,aa),Ix))) (B_ (cond (v5.toList==(⟨#[115,104,101,97,114]⟩:ByteArray).toList) (some m3.2) (some false)) λVZ=>cond VZ (B_ (IF ([[1,m3.1],[0,1]],[0,0]) L.1) λOg=>cond (!Og.2) (some ((S,aa),⟨#[110,111]⟩)) (B_ (pC Og.1) λOh=>some ((Og.1,aa),Oh))) (B_ (cond (v5.toList==(⟨#[109,111,118,101]⟩:ByteArray).toList) (some uj.2) (some false)) λaqV=>cond aqV (B_ (IF ([[1,0],[0,1]],uj.1) L.1) λWi=>cond (!Wi.2) (some ((S,aa),⟨#[110,111]⟩)) (B_ (pC Wi.1) λaqW=>some ((Wi.1,aa),aqW))) (B_ (cond (v5.toList==(⟨#[97,116]⟩:ByteArray).toList) (some m3.2) (some false)) λaqX=>cond aqX (B_ (xI L.1 m3.1) λaqY=>B_ (k4 aqY) λaqZ=>some ((S,aa),aqZ)) (B_ (cond (v5.toList==(⟨#[112,108,97,99,101]⟩:ByteArray).toList) (some uj.2) (some false)) λaq0=>cond aq0 (B_ (AE L.1 uj.1) λaq1=>B_ (k4 aq1) λaq2=>some ((S,aa),aq2)) (B_ (cond (v5.toList==(⟨#[108,97,121,101,114,115]⟩:ByteArray).toList) (some uj.2) (some false)) λaq3=>cond aq3 (B_ (OD L.1 uj.1) λaq4=>B_ (rv aq4) λaq5=>B_ (sP aq5 ⟨#[110,111]⟩) λaq6=>some ((S,aa),aq6)) (B_ (cond (v5.toList==(⟨#[99,111,117,110,116]⟩:ByteArray).toList) (some true) (some (v5.toList==(⟨#[118,101,114,116,105,99,101,115]⟩:ByteArray).toList))) λaq7=>cond aq7 (B_ (idx aq 0) λaq8=>B_ (OG aq8) λI1=>cond (!I1.2) (some ((S,aa),⟨#[110,111]⟩)) (cond (v5.toList==(⟨#[99,111,117,110,116]⟩:ByteArray).toList) (B_ (OJ (I1.1.1,I1.1.2)) λaq9=>B_ (k4 aq9) λara=>some ((S,aa),ara)) (B_ (IX (I1.1.1,I1.1.2)) λD1=>B_ (aV (D0 D1) (([],[]),((S,aa),([],0)))) λAQ=>B_ (sK AQ.2.2 ⟨#[32]⟩) λWj=>B_ (sP Wj ⟨#[45]⟩) λWk=>some ((AQ.2.1.1,AQ.2.1.2),Wk)))) (some ((S,aa),⟨#[119,104,97,116]⟩)))))))))) (cond ((aq.length:Int)==2) (B_ (idx aq 0) λarb=>B_ (vL arb) λafm=>B_ (idx aq 0) λarc=>B_ (ug arc) λI2=>B_ (idx aq 1) λard=>B_ (ug ard) λAR=>B_ (cond (v5.toList==(⟨#[115,112,108,105,116]⟩:ByteArray).toList) (cond I2.2 (some AR.2) (some false)) (cond (v5.toList==(⟨#[116,117,114,110,115]⟩:ByteArray).toList) (cond I2.2 (some AR.2) (some false)) (some false))) λare=>cond are (B_ (xJ (I2.1,AR.1)) λarf=>cond (!arf) (some ((S,aa),⟨#[110,111]⟩)) (cond (v5.toList==(⟨#[115,112,108,105,116]⟩:ByteArray).toList) (B_ (DX (I2.1,AR.1)) λarg=>B_ (DP arg) λarh=>some ((S,aa),arh)) (B_ (OV (I2.1,AR.1)) λari=>B_ (rv ari) λarj=>B_ (sP arj ⟨#[45]⟩) λark=>some ((S,aa),ark)))) (B_ (cond (v5.toList==(⟨#[119,97,121,115]⟩:ByteArray).toList) (cond afm.2 (some AR.2) (some false)) (some false)) λarl=>cond arl (B_ (OY AR.1 afm.1) λarm=>B_ (k4 arm) λarn=>some ((S,aa),arn)) (some ((S,aa),⟨#[119,104,97,116]⟩)))) (some ((S,aa),⟨#[119,104,97,116]⟩)))))
def afn:a4:=⟨9,[.d false (.prod fN fN),iH],[.a [.o true 65 bF,.o true 65 bF],gM],λx=>AP x.1 x.2⟩
noncomputable def afo:db:=⟨Tryz.prog,oX,[Vq],[],[⟨4,[],[],[(2,false)],0⟩],[],[],[]⟩
def Wl:mK:=⟨36,false,n4 afo Tryz.f36⟩
def aro:e3 Tryz.prog Wl.f/\kY False Tryz.prog Wl:=L1 (N:=afo) pA ⟨ad2,trivial⟩ func36 (by kernel_rfl)
def arp:bl False afn:=vu [] [(3,[0,3,4,1,2,5,6]),(5,[48]),(47,[206]),(49,[220]),(51,[236]),(53,[257]),(55,[277]),(57,[289]),(59,[301]),(61,[314]),(78,[377]),(85,[408])] [Ap,Dp,H4,Vm,Vt,VE,VK,VL,Vq,aet,aeD,Ic,Oa,aeE,aeF,V6,aeH,aeI,aeL,aeM,H5,NI,V9,AL,aeX,N3,VI,aeZ,Dy,ae1,ae5,afe,aff,Is,Wh,afi,afk] [cu 69 [(4,.b 26 [.o true 65 bF,.o true 65 bF]),(6,.b 26 [.o true 65 bF,.o true 65 bF]),(17,jb 9),(340,aZ)] 3 [(4,.b 26 [.o true 65 bF,.o true 65 bF]),(6,.b 26 [.o true 65 bF,.o true 65 bF]),(17,jb 9)]] [cp 1 0,cp 3 0,⟨25,[],[],[(6,false)],0⟩,⟨27,[],[],[(6,false)],0⟩,⟨29,[],[],[(6,false)],0⟩,⟨31,[],[],[(6,false)],0⟩,⟨33,[],[],[(6,false)],0⟩,⟨35,[],[],[(6,false)],0⟩,⟨37,[],[],[(6,false)],0⟩,⟨43,[],[],[(6,false)],0⟩,⟨56,[],[],[(6,false)],0⟩,⟨58,[],[],[(6,false)],0⟩,⟨60,[],[],[(6,false)],0⟩,⟨66,[],[],[(6,false),(15,false)],0⟩,⟨73,[],[],[(6,false)],0⟩,⟨83,[],[],[(6,false),(26,false)],0⟩,⟨84,[],[],[(6,false),(26,false)],0⟩,⟨86,[],[],[(6,false)],0⟩] [Wl] ⟨Do,H3,NH,ad0,ad4,aee,aej,aek,ad2,ap2,aqd,NL,VQ,aqe,aqf,aeG,aqg,aqh,aqk,aql,Vg,Vj,aeO,aqo,aqv,VM,aeg,aqx,Ie,aqA,aqD,aqN,aqO,Ob,afh,aqQ,aqS,trivial⟩ ⟨aro,trivial⟩
def I3(S:List ByteArray)(ak:List ByteArray×(ao×ao)×Int):Option (List ByteArray×(ao×ao)×Int⊕List ByteArray):=cond (d_ (ak.2.2<(S.length:Int))) (B_ (idx S ak.2.2) λaq=>B_ (Ao (ak.2.1.1,ak.2.1.2) aq) λv5=>B_ (bH 16 ak.1 [v5.2]) λaM=>some (.inl (aM,((v5.1.1,v5.1.2),W_ i64 (ak.2.2+1))))) (some (.inr ak.1))
def OZ(L:ByteArray):Option (List ByteArray×Bool):=B_ (vx L 10) λS=>cond (d_ ((S.length:Int)>40)) (some ([],false)) (B_ Mw λaa=>B_ (aV (I3 S) ([],((aa.1,aa.2),0))) λaN=>some (aN,true))
def afp:a4:=⟨17,[iH],[jb 9,cc],λx=>OZ x⟩
def arq{ae:Prop}:bl ae afp:=bn [CO,acu,adV] [cu 7 [(5,jb 9),(6,.b 26 [.o true 65 bF,.o true 65 bF]),(7,aZ)] 0 [(5,jb 9)]] [cp 9 1] ⟨G4,aoJ,apG,trivial⟩
def O0:Option (ao×ao):=B_ (IB 1) λS=>B_ (ol S.1) λaa=>some (S.1,aa)
def afq:a4:=⟨29,[],[.a [.o true 65 bF,.o true 65 bF]],λx=>O0⟩
def arr:bl False afq:=bn [V9,Ap] [] [] ⟨aeO,Do,trivial⟩
def I4(S:List ByteArray)(ak:(ao×ao)×List ByteArray×Int):Option ((ao×ao)×List ByteArray×Int⊕List ByteArray):=cond (d_ (ak.2.2<(S.length:Int))) (B_ (idx S ak.2.2) λaq=>B_ (AP (ak.1.1,ak.1.2) aq) λv5=>B_ (bH 16 ak.2.1 [v5.2]) λaM=>some (.inl ((v5.1.1,v5.1.2),(aM,W_ i64 (ak.2.2+1))))) (some (.inr ak.2.1))
def I5(L:ByteArray):Option (List ByteArray×Bool):=B_ (vK L 10) λS=>cond (d_ ((S.length:Int)>40)) (some ([],false)) (B_ O0 λaa=>B_ (aV (I4 S) ((aa.1,aa.2),([],0))) λaN=>some (aN,true))
def afr:a4:=⟨18,[iH],[jb 9,cc],λx=>I5 x⟩
def ars:bl False afr:=bn [Dp,afq,afn] [cu 7 [(5,.b 26 [.o true 65 bF,.o true 65 bF]),(6,jb 9),(19,aZ)] 0 [(6,jb 9)]] [] ⟨H3,arr,arp,trivial⟩
def I6(L:List ByteArray)(ay:List ByteArray)(S:Int):Option (Int⊕Unit⊕Bool):=cond (d_ (S<(L.length:Int))) (B_ (idx L S) λaa=>B_ (idx ay S) λak=>cond (! aa.toList==ak.toList) (some (.inr (.inr false))) (some (.inl (W_ i64 (S+1))))) (some (.inr (.inl ())))
def I7(L:List ByteArray)(ay:List ByteArray):Option Bool:=cond ((L.length:Int)!=(ay.length:Int)) (some false) (B_ (aV (I6 L ay) 0) λaq=>match aq with|.inl v5=>some true|.inr aM=>some aM)
def afs:a4:=⟨19,[.d false (.list .str),.d false (.list .str)],[cc],λx=>I7 x.1 x.2⟩
def art{ae:Prop}:bl ae afs:=bn [] [⟨4,[(5,aZ)],some (0,[]),some [(4,cc)],false,none⟩] [cp 6 0] trivial
def I8(S:Int×ByteArray):Option (Int×ByteArray⊕ByteArray):=cond (d_ (S.1>0)) (B_ (fT .i64 S.1 10) λaa=>B_ (fl (no [W_ u8 (W_ i64 (48+aa))]) S.2) λak=>B_ (fA .i64 S.1 10) λaq=>some (.inl (aq,ak))) (some (.inr S.2))
def AS(L:Int):Option ByteArray:=cond (d_ (L<=0)) (some ⟨#[109,48]⟩) (B_ (aV I8 (L,⟨#[]⟩)) λv5=>B_ (fl ⟨#[109]⟩ v5) λaM=>some aM)
def Wm:a4:=⟨88,[eA],[gM],λx=>AS x⟩
def aft{ae:Prop}:bl ae Wm:=bn [] [cu 4 [(0,aZ),(3,gM)] 0 [(3,gM)]] [] trivial
def I9(S:List ByteArray×Int×Int):Option (List ByteArray×Int×Int⊕List ByteArray×Int):=cond (d_ (S.2.2<(S.1.length:Int))) (B_ (AS S.2.1) λaa=>B_ (bD S.1.length S.2.2) λ_=>B_ (bD S.1.length ((S.2.2.toNat:Nat):Int)) λ_=>some (.inl (S.1.set S.2.2.toNat aa,(W_ i64 (S.2.1+1),W_ i64 (S.2.2+1))))) (some (.inr (S.1,S.2.1)))
def O1(L:List ByteArray)(ay:Int):Option (Int×List ByteArray×Unit):=B_ (aV I9 (L,(ay,0))) λak=>some (ak.2,(ak.1,()))
def afu:a4:=⟨20,[.io true 9 .str,eA],[aZ],λx=>O1 x.1 x.2⟩
def aru{ae:Prop}:bl ae afu:=bn [Wm] [cu 2 [(0,jb 9),(1,aZ),(5,aZ)] 0 [(0,jb 9),(1,aZ)]] [] ⟨aft,trivial⟩
def Ja(L:List ByteArray)(S:Int×Int):Option (Int×Int⊕Int⊕Int):=cond (d_ (S.2<(L.length:Int))) (B_ (idx L S.2) λaa=>B_ (AS S.1) λak=>cond (! aa.toList==ak.toList) (some (.inr (.inr (-1)))) (some (.inl (W_ i64 (S.1+1),W_ i64 (S.2+1))))) (some (.inr (.inl S.1)))
def Jb(L:List ByteArray)(ay:Int):Option Int:=B_ (aV (Ja L) (ay,0)) λaq=>match aq with|.inl v5=>some v5|.inr aM=>some aM
def afv:a4:=⟨21,[.d false (.list .str),eA],[aZ],λx=>Jb x.1 x.2⟩
def arv{ae:Prop}:bl ae afv:=bn [Wm] [⟨2,[(1,aZ),(5,aZ)],some (0,[(1,aZ)]),some [(4,aZ)],false,none⟩] [cp 4 0] ⟨aft,trivial⟩
def Wn(L:ByteArray):Option Bool:=cond (d_ ((L.size:Int)>1048576)) (some true) (B_ (OZ L) λS=>B_ (I5 L) λaa=>B_ (I7 aa.1 S.1) λak=>cond (!ak) (some false) (cond (! aa.2==S.2) (some false) (B_ (O1 aa.1 1) λaq=>B_ (Jb aq.2.1 1) λv5=>cond (d_ (v5<0)) (some false) (cond (v5 !=aq.1) (some false) (B_ (I5 L) λaM=>B_ (I7 aM.1 S.1) λaN=>cond (!aN) (some false) (cond (! aM.2==S.2) (some false) (B_ (Jb aq.2.1 1) λbg=>cond (d_ (bg<0)) (some false) (cond (bg !=aq.1) (some false) (some true)))))))))
def arw:a4:=⟨4,[iH],[cc],λx=>Wn x⟩
def arx:bl False arw:=bn [afp,afr,afs,afu,afv] [] [] ⟨arq,ars,art,aru,arv,trivial⟩
def O2(L:List Int)(aa:List Int×Int):Option (List Int×Int⊕List Int):=cond (d_ (aa.2<(L.length:Int))) (B_ (idx L aa.2) λak=>B_ (bD aa.1.length aa.2) λ_=>B_ (bD aa.1.length ((aa.2.toNat:Nat):Int)) λ_=>some (.inl (aa.1.set aa.2.toNat ak,W_ i64 (aa.2+1)))) (some (.inr aa.1))
def Wo(L:List Int):Option (List Int):=B_ (nV 8 (L.length:Int) 0) λS=>B_ (aV (O2 L) (S,0)) λaq=>some aq
def O3(L:ao)(aa:ao×Int):Option (ao×Int⊕ao):=cond (d_ (aa.2<(L.length:Int))) (B_ (idx L aa.2) λak=>B_ (Wo ak) λaq=>B_ (bD aa.1.length aa.2) λ_=>B_ (bD aa.1.length ((aa.2.toNat:Nat):Int)) λ_=>some (.inl (aa.1.set aa.2.toNat aq,W_ i64 (aa.2+1)))) (some (.inr aa.1))
def Wp(L:ao):Option ao:=B_ (nV 24 (L.length:Int) []) λS=>B_ (aV (O3 L) (S,0)) λv5=>some v5
end
end Go.Proofs.YtmljnmmdahlfdaaGreatDoor
