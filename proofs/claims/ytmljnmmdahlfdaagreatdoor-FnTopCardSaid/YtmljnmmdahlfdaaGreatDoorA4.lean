/-
  A part of the proof. No condition.
-/
import Derived.Test.YtmljnmmdahlfdaaGreatDoorA3
set_option linter.all false
namespace Go.Proofs.YtmljnmmdahlfdaaGreatDoor
noncomputable section
open Go Go.RowKit Go.Proofs.YtmljnmmdahlfdaaGreatDoor.Eng
set_option maxRecDepth 100000
open Go.IntKind (i64 u8)
open Go.IntKind renaming wrap->W_
open Option renaming bind->B_
open Decidable renaming decide->d_
open Tryz
abbrev ao:=List (List Int)
abbrev bH:a6:=.int .i64
abbrev bG:a6:=.list bH
abbrev fi:a6:=.list bG
abbrev a0:cU:=.l (.d false bH)
abbrev ch:cU:=.l (.d false .bool)
abbrev gZ:cU:=.l (.d false .str)
abbrev wh:cU:=.l (.d false bG)
abbrev Il:cU:=.l (.d false fi)
abbrev cW(n:TypeId):cU:=.l (.o true n bH)
abbrev cw(n:TypeId):cU:=.l (.o true n bG)
abbrev lY(n:TypeId):cU:=.l (.o true n .str)
abbrev eK:c0:=.d false bH
abbrev ard:c0:=.d false .bool
abbrev jF:c0:=.d false .str
abbrev dE:c0:=.d false bG
abbrev cu:c0:=.d false fi
abbrev cF(i:Nat)(s:List (Nat×cU))(n:Nat)(b:List (Nat×cU)):qs:=⟨i,s,some (n,b),none,false,none⟩
abbrev cv(i k:Nat):xd:=⟨i,[],[],[],k⟩
def oO:List (TypeId×a6):=[(3,bH),(5,.int .u8),(9,.str),(24,fi),(65,bG),(86,.prod bG bH),(132,.prod bG bH)]
def px:Tryz.prog.follows .mixedOrders=true:=by kernel_rfl
abbrev bl(ag:Prop)(e:a4):Prop:=fb Tryz.prog e.f/\gt ag Tryz.prog e
def NN(O:List a4)(A:List qs)(bB:List xd)(I:List mG)(V:List Nat)(aT:List (Nat×List Nat))(e:a4):Bool×(jh.den e.ps->Option (vm (fQ e.ps) (gE.den e.rs) (nH.den e.ps))):=match Tryz.prog.funcs[e.f]? with|some fn=>(uF fn e.ps,λx=>xq ⟨Tryz.prog,oO,O,A,bB,I,V,aT⟩ fn e.ps e.rs x)|none=>(false,e.F)
def wi(V:List Nat)(aT:List (Nat×List Nat))(O:List a4)(A:List qs)(bB:List xd)(I:List mG){ag:Prop}{e:a4}(c:tk ag Tryz.prog O)(hi:v3 ag Tryz.prog I)(k:NN O A bB I V aT e=(true,e.F):=by kernel_rfl):bl ag e:=by unfold NN at k;cases aH:Tryz.prog.funcs[e.f]? with|none=>rw[aH]at k;exact Bool.noConfusion (congrArg Prod.fst k)|some fn=>rw[aH]at k;exact HQ (N:=⟨Tryz.prog,oO,O,A,bB,I,V,aT⟩) px c aH (congrArg Prod.fst k) (λx=>congrFun (congrArg Prod.snd k) x) hi
def NO(O:List a4)(A:List qs)(bB:List xd)(I:List mG){ag:Prop}{e:a4}(c:tk ag Tryz.prog O)(hi:v3 ag Tryz.prog I)(k:NN O A bB I .nil .nil e=(true,e.F):=by kernel_rfl):bl ag e:=wi [] [] O A bB I c hi k
def bp(O:List a4)(A:List qs)(bB:List xd){ag:Prop}{e:a4}(c:tk ag Tryz.prog O)(k:NN O A bB .nil .nil .nil e=(true,e.F):=by kernel_rfl):bl ag e:=wi [] [] O A bB [] c trivial k
def V1(L:List Int):Option Bool:=some (d_ ((L.length:Int)>1048576))
def aev:a4:=⟨7,[.d false (.list (.int .u8))],[ch],λx=>V1 x⟩
def are{ag:Prop}:bl ag aev:=bp [] [] [] trivial
def Bb(L:Int):Option ByteArray:=cond (L==1) (some ⟨#[48,44,48,32,49,44,48,32,48,44,49]⟩) (cond (L==2) (some ⟨#[48,44,48,32,50,44,48,32,48,44,50]⟩) (cond (L==3) (some ⟨#[45,49,44,45,49,32,49,44,45,49,32,49,44,49,32,45,49,44,49]⟩) (cond (L==4) (some ⟨#[48,44,48,32,51,44,48,32,49,44,50]⟩) (cond (L==5) (some ⟨#[45,49,44,45,49,32,50,44,45,49,32,45,49,44,50]⟩) (cond (L==6) (some ⟨#[48,44,48,32,53,44,50,32,51,44,52]⟩) (some ⟨#[]⟩))))))
def V2:a4:=⟨178,[eK],[gZ],λx=>Bb x⟩
def aew{ag:Prop}:bl ag V2:=bp [] [] [] trivial
def wj(L:ByteArray)(ay:Int)(S:List ByteArray×Int×Int):Option (List ByteArray×Int×Int⊕List ByteArray):=cond (d_ (S.2.2<=(L.size:Int))) (cond (S.2.2==(L.size:Int)) (B_ (vk L S.2.1 S.2.2) λaa=>B_ (bN 16 S.1 [aa]) λaj=>some (.inl (aj,(W_ i64 (S.2.2+1),W_ i64 (S.2.2+1))))) (B_ (idx L.data.toList S.2.2) λap=>cond ((ap.toNat:Int)==ay) (B_ (vk L S.2.1 S.2.2) λv5=>B_ (bN 16 S.1 [v5]) λaN=>some (.inl (aN,(W_ i64 (S.2.2+1),W_ i64 (S.2.2+1))))) (some (.inl (S.1,(S.2.1,W_ i64 (S.2.2+1))))))) (some (.inr S.1))
def yj(L:ByteArray)(ay:Int):Option (List ByteArray):=B_ (aW (wj L ay) ([],(0,0))) λaO=>some aO
def Im:a4:=⟨30,[jF,.d false (.int .u8)],[lY 9],λx=>yj x.1 x.2⟩
def NP{ag:Prop}:bl ag Im:=bp [] [cF 4 [(5,lY 9),(6,a0),(7,a0)] 0 [(5,lY 9)]] [] trivial
def DW(S:Int×ByteArray):Option (Int×ByteArray⊕ByteArray):=cond (S.1 !=0) (B_ (gi .i64 S.1 10) λaa=>cond (d_ (aa<0)) (B_ (fG (o2 [W_ u8 (W_ i64 (48+W_ i64 (0-aa)))]) S.2) λaj=>B_ (gk .i64 S.1 10) λap=>some (.inl (ap,aj))) (B_ (fG (o2 [W_ u8 (W_ i64 (48+aa))]) S.2) λv5=>B_ (gk .i64 S.1 10) λaN=>some (.inl (aN,v5)))) (some (.inr S.2))
def jf(L:Int):Option ByteArray:=cond (L==0) (some ⟨#[48]⟩) (B_ (aW DW (L,⟨#[]⟩)) λaO=>cond (d_ (L<0)) (B_ (fG ⟨#[45]⟩ aO) λbi=>some bi) (some aO))
def uJ:a4:=⟨218,[eK],[gZ],λx=>jf x⟩
def wk{ag:Prop}:bl ag uJ:=bp [] [cF 5 [(0,a0),(4,gZ)] 0 [(4,gZ)]] [] trivial
def uK(aa:ByteArray)(aj:Int×Int):Option (Int×Int⊕Int⊕Int×Bool):=cond (d_ (aj.2<(aa.size:Int))) (B_ (idx aa.data.toList aj.2) λap=>cond (d_ ((ap.toNat:Int)<48)) (some (.inr (.inr (0,false)))) (B_ (idx aa.data.toList aj.2) λv5=>cond (d_ ((v5.toNat:Int)>57)) (some (.inr (.inr (0,false)))) (B_ (idx aa.data.toList aj.2) λaN=>some (.inl (W_ i64 (W_ i64 (10*aj.1)+W_ i64 (W_ u8 ((aN.toNat:Int)-48))),W_ i64 (aj.2+1)))))) (some (.inr (.inl aj.1)))
def aex(L:ByteArray)(bK:Int×Int):Option (Int×Int⊕Int⊕Int×Bool):=cond (d_ (bK.2<(L.size:Int))) (B_ (idx L.data.toList bK.2) λc3=>cond (d_ ((c3.toNat:Int)<48)) (some (.inr (.inr (0,false)))) (B_ (idx L.data.toList bK.2) λdQ=>cond (d_ ((dQ.toNat:Int)>57)) (some (.inr (.inr (0,false)))) (B_ (idx L.data.toList bK.2) λdK=>some (.inl (W_ i64 (W_ i64 (10*bK.1)+W_ i64 (W_ u8 ((dK.toNat:Int)-48))),W_ i64 (bK.2+1)))))) (some (.inr (.inl bK.1)))
def aey(L:ByteArray)(dR:Int×Int):Option (Int×Int⊕Int⊕Int×Bool):=cond (d_ (dR.2<(L.size:Int))) (B_ (idx L.data.toList dR.2) λg0=>cond (d_ ((g0.toNat:Int)<48)) (some (.inr (.inr (0,false)))) (B_ (idx L.data.toList dR.2) λhk=>cond (d_ ((hk.toNat:Int)>57)) (some (.inr (.inr (0,false)))) (B_ (idx L.data.toList dR.2) λhl=>some (.inl (W_ i64 (W_ i64 (10*dR.1)+W_ i64 (W_ u8 ((hl.toNat:Int)-48))),W_ i64 (dR.2+1)))))) (some (.inr (.inl dR.1)))
def NQ(L:ByteArray)(ay:Int):Option (Int×Bool):=cond (d_ ((L.size:Int)>0)) (B_ (idx L.data.toList 0) λS=>cond ((S.toNat:Int)==45) (B_ (vk L 1 (L.size:Int)) λaa=>cond (d_ ((aa.size:Int)<1)) (some (0,false)) (cond (d_ ((aa.size:Int)>ay)) (some (0,false)) (B_ (aW (uK aa) (0,0)) λaO=>match aO with|.inl bi=>cond ((S.toNat:Int)==45) (B_ (jf (W_ i64 (0-bi))) λbF=>cond (! bF.toList==L.toList) (some (0,false)) (some (W_ i64 (0-bi),true))) (B_ (jf bi) λbC=>cond (! bC.toList==L.toList) (some (0,false)) (some (bi,true)))|.inr bf=>some (bf.1,bf.2)))) (cond (d_ ((L.size:Int)<1)) (some (0,false)) (cond (d_ ((L.size:Int)>ay)) (some (0,false)) (B_ (aW (aex L) (0,0)) λdz=>match dz with|.inl dO=>cond ((S.toNat:Int)==45) (B_ (jf (W_ i64 (0-dO))) λeM=>cond (! eM.toList==L.toList) (some (0,false)) (some (W_ i64 (0-dO),true))) (B_ (jf dO) λdP=>cond (! dP.toList==L.toList) (some (0,false)) (some (dO,true)))|.inr eU=>some (eU.1,eU.2))))) (cond (d_ ((L.size:Int)<1)) (some (0,false)) (cond (d_ ((L.size:Int)>ay)) (some (0,false)) (B_ (aW (aey L) (0,0)) λiN=>match iN with|.inl kv=>B_ (jf kv) λhm=>cond (! hm.toList==L.toList) (some (0,false)) (some (kv,true))|.inr kd=>some (kd.1,kd.2))))
def aez:a4:=⟨216,[jF,eK],[a0,ch],λx=>NQ x.1 x.2⟩
def arf{ag:Prop}:bl ag aez:=bp [uJ] [⟨9,[(8,a0),(9,a0)],some (0,[(8,a0)]),some [(4,a0),(5,ch)],false,none⟩] [] ⟨wk,trivial⟩
def ts(L:ByteArray):Option (Int×Bool):=B_ (NQ L 12) λS=>some (S.1,S.2)
def DX:a4:=⟨157,[jF],[a0,ch],λx=>ts x⟩
def In{ag:Prop}:bl ag DX:=bp [aez] [] [] ⟨arf,trivial⟩
def no(L:Int)(ay:Int)(dt:Int):Option Bool:=cond (d_ (L>=ay)) (some (d_ (L<=dt))) (some false)
def q1:a4:=⟨79,[eK,eK,eK],[ch],λx=>no x.1 x.2.1 x.2.2⟩
def r4{ag:Prop}:bl ag q1:=bp [] [] [] trivial
def V3(L:List Int)(ay:Int)(S:Int):Option (Int⊕Unit⊕Bool):=cond (d_ (S<(L.length:Int))) (B_ (idx L S) λaa=>B_ (no aa (W_ i64 (0-ay)) ay) λaj=>cond (!aj) (some (.inr (.inr false))) (some (.inl (W_ i64 (S+1))))) (some (.inr (.inl ())))
def p8(L:List Int)(ay:Int):Option Bool:=B_ (aW (V3 L ay) 0) λap=>match ap with|.inl v5=>some true|.inr aN=>some aN
def yk:a4:=⟨166,[dE,eK],[ch],λx=>p8 x.1 x.2⟩
def Bc{ag:Prop}:bl ag yk:=bp [q1] [⟨2,[(5,a0)],some (0,[]),some [(4,ch)],false,none⟩] [] ⟨r4,trivial⟩
def Bd(L:List Int):Option Bool:=B_ (no (L.length:Int) 1 3) λS=>cond S (B_ (p8 L 1000) λaa=>some aa) (some false)
def Io:a4:=⟨214,[dE],[ch],λx=>Bd x⟩
def NR{ag:Prop}:bl ag Io:=bp [q1,yk] [] [] ⟨r4,Bc,trivial⟩
def aeC(S:List ByteArray)(aa:List Int×Int):Option (List Int×Int⊕List Int⊕List Int×Bool):=cond (d_ (aa.2<(S.length:Int))) (B_ (idx S aa.2) λaj=>B_ (ts aj) λap=>cond (!ap.2) (some (.inr (.inr ([],false)))) (B_ (bN 8 aa.1 [ap.1]) λv5=>some (.inl (v5,W_ i64 (aa.2+1))))) (some (.inr (.inl aa.1)))
def r8(L:ByteArray):Option (List Int×Bool):=B_ (yj L 44) λS=>B_ (aW (aeC S) ([],0)) λaN=>match aN with|.inl aO=>B_ (Bd aO) λbf=>cond (!bf) (some ([],false)) (some (aO,true))|.inr bi=>some (bi.1,bi.2)
def DY:a4:=⟨155,[jF],[cW 3,ch],λx=>r8 x⟩
def Ip{ag:Prop}:bl ag DY:=bp [Im,DX,Io] [⟨4,[(4,cW 3),(6,a0)],some (0,[(4,cW 3)]),some [(2,cW 3),(3,ch)],false,none⟩] [] ⟨NP,In,NR,trivial⟩
def NS(L:ao)(S:Int):Option (Int⊕Unit⊕Bool):=cond (d_ (S<(L.length:Int))) (B_ (idx L S) λaa=>cond ((aa.length:Int)!=2) (some (.inr (.inr false))) (B_ (idx L S) λaj=>B_ (p8 aj 50) λap=>cond (!ap) (some (.inr (.inr false))) (some (.inl (W_ i64 (S+1)))))) (some (.inr (.inl ())))
def Iq(L:ao):Option Bool:=B_ (aW (NS L) 0) λv5=>match v5 with|.inl aN=>some true|.inr aO=>some aO
def V4:a4:=⟨80,[cu],[ch],λx=>Iq x⟩
def aeD{ag:Prop}:bl ag V4:=bp [yk] [⟨2,[(3,a0)],some (0,[]),some [(2,ch)],false,none⟩] [] ⟨Bc,trivial⟩
def NT(L:List Int)(ay:List Int)(S:Int):Option (Int⊕Unit⊕Bool):=cond (d_ (S<(L.length:Int))) (cond (d_ (S<(ay.length:Int))) (B_ (idx L S) λaa=>B_ (idx ay S) λaj=>cond (aa !=aj) (B_ (idx L S) λap=>B_ (idx ay S) λv5=>some (.inr (.inr (d_ (ap<v5))))) (some (.inl (W_ i64 (S+1))))) (some (.inr (.inl ())))) (some (.inr (.inl ())))
def Ir(L:List Int)(ay:List Int):Option Bool:=B_ (aW (NT L ay) 0) λaN=>match aN with|.inl aO=>some false|.inr bi=>some bi
def V5:a4:=⟨176,[dE,dE],[ch],λx=>Ir x.1 x.2⟩
def aeE{ag:Prop}:bl ag V5:=bp [] [⟨2,[(5,a0)],some (0,[]),some [(4,ch)],false,none⟩] [cv 4 0,cv 5 0] trivial
def NU(L:List Int)(ay:List Int)(S:Int):Option (Int⊕Unit⊕Bool):=cond (d_ (S<(L.length:Int))) (B_ (idx L S) λaa=>B_ (idx ay S) λaj=>cond (aa !=aj) (some (.inr (.inr false))) (some (.inl (W_ i64 (S+1))))) (some (.inr (.inl ())))
def uL(L:List Int)(ay:List Int):Option Bool:=cond ((L.length:Int)!=(ay.length:Int)) (some false) (B_ (aW (NU L ay) 0) λap=>match ap with|.inl v5=>some true|.inr aN=>some aN)
def DZ:a4:=⟨163,[dE,dE],[ch],λx=>uL x.1 x.2⟩
def Is{ag:Prop}:bl ag DZ:=bp [] [⟨4,[(5,a0)],some (0,[]),some [(4,ch)],false,none⟩] [cv 6 0] trivial
def Be(ay:List Int)(S:ao×Int):Option (ao×Int⊕ao×Int):=cond (d_ (S.2>0)) (B_ (bI S.1.length (W_ i64 (S.2-1))) λ_=>B_ (idx S.1 (((W_ i64 (S.2-(1:Int))).toNat:Nat):Int)) λaa=>B_ (Ir ay aa) λaj=>cond aj (some (.inl (S.1,W_ i64 (S.2-1)))) (some (.inr (S.1,S.2)))) (some (.inr (S.1,S.2)))
def yl(L:ao)(ay:List Int):Option ao:=B_ (aW (Be ay) (L,(L.length:Int))) λap=>cond (d_ (ap.2>0)) (B_ (bI ap.1.length (W_ i64 (ap.2-1))) λ_=>B_ (idx ap.1 (((W_ i64 (ap.2-(1:Int))).toNat:Nat):Int)) λv5=>B_ (uL v5 ay) λaN=>cond aN (some ap.1) (B_ (e9 ap.1 ap.2 (ap.1.length:Int)) λaO=>B_ (e9 ap.1 (ap.2.toNat:Int) ((ap.1.length:Int).toNat:Int)) λbi=>B_ (bN 24 [] bi) λbf=>B_ (e9 ap.1 0 ap.2) λbF=>B_ (bN 8 [] ay) λbC=>B_ (bN 24 bF [bC]) λbK=>B_ (bN 24 bK bf) λc3=>some c3)) (B_ (e9 ap.1 ap.2 (ap.1.length:Int)) λdQ=>B_ (e9 ap.1 (ap.2.toNat:Int) ((ap.1.length:Int).toNat:Int)) λdK=>B_ (bN 24 [] dK) λdz=>B_ (e9 ap.1 0 ap.2) λdO=>B_ (bN 8 [] ay) λeU=>B_ (bN 24 dO [eU]) λeM=>B_ (bN 24 eM dz) λdP=>some dP)
def V6:a4:=⟨167,[.mv false 65 bG,dE],[.l (.o false 65 bG)],λx=>yl x.1 x.2⟩
def aeG{ag:Prop}:bl ag V6:=wi [35] [(7,[0,1,2,4,8,3,5,6,7,9,10])] [V5,DZ] [cF 2 [(0,.l (.o false 65 bG)),(5,a0)] 0 [(0,.l (.o false 65 bG)),(5,a0)]] [cv 7 0] [] ⟨aeE,Is,trivial⟩ trivial
def It(L:List Int)(ay:List Int)(S:List Int×Int):Option (List Int×Int⊕List Int):=cond (d_ (S.2<(L.length:Int))) (B_ (idx L S.2) λaa=>B_ (idx ay S.2) λaj=>B_ (bN 8 S.1 [W_ i64 (aa-aj)]) λap=>some (.inl (ap,W_ i64 (S.2+1)))) (some (.inr S.1))
def mx(L:List Int)(ay:List Int):Option (List Int):=B_ (aW (It L ay) ([],0)) λv5=>some v5
def Bf:a4:=⟨170,[dE,dE],[cW 3],λx=>mx x.1 x.2⟩
def D0{ag:Prop}:bl ag Bf:=bp [] [cF 3 [(5,cW 3),(6,a0)] 0 [(5,cW 3)]] [cv 5 0] trivial
def nq(L:List Int)(ay:List Int):Option Int:=B_ (idx L 0) λS=>B_ (idx ay 1) λaa=>B_ (idx L 1) λaj=>B_ (idx ay 0) λap=>some (W_ i64 (W_ i64 (S*aa)-W_ i64 (aj*ap)))
def wl:a4:=⟨177,[dE,dE],[a0],λx=>nq x.1 x.2⟩
def ym{ag:Prop}:bl ag wl:=bp [] [] [cv 1 0] trivial
def Bg(L:List Int)(ay:List Int)(dt:List Int):Option Int:=B_ (mx ay L) λS=>B_ (mx dt ay) λaa=>B_ (nq S aa) λaj=>some aj
def NV:a4:=⟨237,[dE,dE,dE],[a0],λx=>Bg x.1 x.2.1 x.2.2⟩
def V7{ag:Prop}:bl ag NV:=bp [Bf,wl] [] [] ⟨D0,ym,trivial⟩
def Bh(S:ao×Int)(ap:List Int)(v5:ao):Option (ao⊕ao):=cond (d_ ((v5.length:Int)>=W_ i64 ((S.1.length:Int)+2))) (B_ (bI v5.length (W_ i64 ((v5.length:Int)-2))) λ_=>B_ (idx v5 (((W_ i64 ((v5.length:Int)-(2:Int))).toNat:Nat):Int)) λaN=>B_ (bI v5.length (W_ i64 ((v5.length:Int)-1))) λ_=>B_ (idx v5 (((W_ i64 ((v5.length:Int)-(1:Int))).toNat:Nat):Int)) λaO=>B_ (Bg aN aO ap) λbi=>cond (d_ (bi<=0)) (B_ (e9 v5 0 (W_ i64 ((v5.length:Int)-1))) λbf=>some (.inl bf)) (some (.inr v5))) (some (.inr v5))
def arg(S:ao×Int)(aj:List Int)(bK:ao):Option (ao⊕ao):=cond (d_ ((bK.length:Int)>=W_ i64 ((S.1.length:Int)+2))) (B_ (bI bK.length (W_ i64 ((bK.length:Int)-2))) λ_=>B_ (idx bK (((W_ i64 ((bK.length:Int)-(2:Int))).toNat:Nat):Int)) λc3=>B_ (bI bK.length (W_ i64 ((bK.length:Int)-1))) λ_=>B_ (idx bK (((W_ i64 ((bK.length:Int)-(1:Int))).toNat:Nat):Int)) λdQ=>B_ (Bg c3 dQ aj) λdK=>cond (d_ (dK<=0)) (B_ (e9 bK 0 (W_ i64 ((bK.length:Int)-1))) λdz=>some (.inl dz)) (some (.inr bK))) (some (.inr bK))
def Iu(L:ao)(S:ao×Int)(aa:ao×Int):Option (ao×Int⊕ao):=cond (d_ (aa.2<(L.length:Int))) (B_ (idx L aa.2) λaj=>cond (S.2==1) (B_ (idx L (W_ i64 (W_ i64 ((L.length:Int)-1)-aa.2))) λap=>B_ (aW (Bh S ap) aa.1) λbF=>B_ (bN 24 bF [ap]) λbC=>some (.inl (bC,W_ i64 (aa.2+1)))) (B_ (aW (arg S aj) aa.1) λdO=>B_ (bN 24 dO [aj]) λeU=>some (.inl (eU,W_ i64 (aa.2+1))))) (some (.inr aa.1))
def Iv(L:ao)(S:ao×Int):Option (ao×Int⊕ao):=cond (d_ (S.2<2)) (B_ (aW (Iu L S) (S.1,0)) λeM=>B_ (e9 eM 0 (W_ i64 ((eM.length:Int)-1))) λdP=>some (.inl (dP,W_ i64 (S.2+1)))) (some (.inr S.1))
def Iw(L:ao):Option ao:=B_ (aW (Iv L) ([],0)) λdR=>some dR
def V8:a4:=⟨168,[cu],[.l (.o false 65 bG)],λx=>Iw x⟩
def aeH{ag:Prop}:bl ag V8:=bp [NV] [cF 3 [(3,.l (.o false 65 bG)),(4,a0)] 0 [(3,.l (.o false 65 bG))],cF 7 [(3,.l (.o false 65 bG)),(6,a0)] 2 [(3,.l (.o false 65 bG))],cF 12 [(3,.l (.o false 65 bG))] 4 [(3,.l (.o false 65 bG))]] [cv 12 0] ⟨V7,trivial⟩
def Bi(L:ao)(S:ao×Int):Option (ao×Int⊕ao):=cond (d_ (S.2<(L.length:Int))) (B_ (idx L S.2) λaa=>B_ (bN 8 [] aa) λaj=>B_ (bN 24 S.1 [aj]) λap=>some (.inl (ap,W_ i64 (S.2+1)))) (some (.inr S.1))
def n7(L:ao):Option ao:=B_ (aW (Bi L) ([],0)) λv5=>some v5
def D1:a4:=⟨74,[cu],[cw 65],λx=>n7 x⟩
def Ix{ag:Prop}:bl ag D1:=bp [] [cF 3 [(3,cw 65),(4,a0)] 0 [(3,cw 65)]] [] trivial
def Iy(L:ao)(aa:ao×Int):Option (ao×Int⊕ao):=cond (d_ (aa.2<(L.length:Int))) (B_ (idx L aa.2) λaj=>B_ (yl aa.1 aj) λap=>some (.inl (ap,W_ i64 (aa.2+1)))) (some (.inr aa.1))
def sa(L:ao):Option (ao×Bool):=cond (d_ ((L.length:Int)>200)) (some ([],false)) (B_ (Iq L) λS=>cond (!S) (some ([],false)) (B_ (aW (Iy L) ([],0)) λv5=>cond (d_ ((v5.length:Int)<3)) (some ([],false)) (B_ (Iw v5) λaN=>cond (d_ ((aN.length:Int)<3)) (some ([],false)) (cond (d_ ((aN.length:Int)>12)) (some ([],false)) (B_ (n7 aN) λaO=>some (aO,true))))))
def yn:a4:=⟨81,[cu],[cw 65,ch],λx=>sa x⟩
def Bj{ag:Prop}:bl ag yn:=bp [V4,V6,V8,D1] [cF 5 [(4,.l (.o false 65 bG)),(5,a0)] 0 [(4,.l (.o false 65 bG))]] [] ⟨aeD,aeG,aeH,Ix,trivial⟩
def NW(L:ao)(ay:ao)(S:Int):Option (Int⊕Unit⊕Bool):=cond (d_ (S<(L.length:Int))) (B_ (idx L S) λaa=>B_ (idx ay S) λaj=>B_ (uL aa aj) λap=>cond (!ap) (some (.inr (.inr false))) (some (.inl (W_ i64 (S+1))))) (some (.inr (.inl ())))
def Bk(L:ao)(ay:ao):Option Bool:=cond ((L.length:Int)!=(ay.length:Int)) (some false) (B_ (aW (NW L ay) 0) λv5=>match v5 with|.inl aN=>some true|.inr aO=>some aO)
def NX:a4:=⟨77,[cu,cu],[ch],λx=>Bk x.1 x.2⟩
def V9{ag:Prop}:bl ag NX:=bp [DZ] [⟨4,[(5,a0)],some (0,[]),some [(4,ch)],false,none⟩] [cv 6 0] ⟨Is,trivial⟩
def jU(L:ao):Option Bool:=B_ (no (L.length:Int) 3 12) λS=>cond (!S) (some false) (B_ (Iq L) λaa=>cond (!aa) (some false) (B_ (sa L) λaj=>cond aj.2 (B_ (Bk aj.1 L) λap=>some ap) (some false)))
def ls:a4:=⟨13,[cu],[ch],λx=>jU x⟩
def lZ{ag:Prop}:bl ag ls:=bp [q1,V4,yn,NX] [] [] ⟨r4,aeD,Bj,V9,trivial⟩
def yo(S:List ByteArray)(aa:ao×Int):Option (ao×Int⊕ao⊕ao×Bool):=cond (d_ (aa.2<(S.length:Int))) (B_ (idx S aa.2) λaj=>B_ (r8 aj) λap=>cond (!ap.2) (some (.inr (.inr ([],false)))) (cond (d_ (aa.2>=12)) (some (.inr (.inr ([],false)))) (B_ (bN 24 aa.1 [ap.1]) λv5=>some (.inl (v5,W_ i64 (aa.2+1)))))) (some (.inr (.inl aa.1)))
def yp(L:ByteArray):Option (ao×Bool):=B_ (yj L 32) λS=>B_ (aW (yo S) ([],0)) λaN=>match aN with|.inl aO=>B_ (jU aO) λbf=>cond (!bf) (some ([],false)) (some (aO,true))|.inr bi=>some (bi.1,bi.2)
def NY:a4:=⟨153,[jF],[cw 65,ch],λx=>yp x⟩
def Wa{ag:Prop}:bl ag NY:=bp [Im,DY,ls] [⟨4,[(4,cw 65),(6,a0)],some (0,[(4,cw 65)]),some [(2,cw 65),(3,ch)],false,none⟩] [] ⟨NP,Ip,lZ,trivial⟩
def D2:Option (ao×ao):=B_ (Bb 1) λS=>B_ (yp S) λaa=>B_ (n7 aa.1) λaj=>some (aa.1,aj)
def aeI:a4:=⟨87,[],[.a [.o true 65 bG,.o true 65 bG]],λx=>D2⟩
def arh{ag:Prop}:bl ag aeI:=bp [V2,NY,D1] [] [] ⟨aew,Wa,Ix,trivial⟩
def wm(L:List Int×Int×Int):Option (Int×(List Int×Int×Int)×Unit):=B_ (Gc .i64 (W_ i64 (W_ i64 (L.2.2*6364136223846793005)+1442695040888963407)) 33) λS=>B_ (Gc .i64 (W_ i64 (W_ i64 (L.2.2*6364136223846793005)+1442695040888963407)) 45) λaa=>cond (d_ (L.2.1<(L.1.length:Int))) (B_ (idx L.1 L.2.1) λaj=>some (tY .i64 (W_ i64 (tY .i64 (LW .i64 S aa) 255+W_ i64 aj)) 255,((L.1,(W_ i64 (L.2.1+1),W_ i64 (W_ i64 (L.2.2*6364136223846793005)+1442695040888963407))),()))) (some (tY .i64 (LW .i64 S aa) 255,((L.1,(L.2.1,W_ i64 (W_ i64 (L.2.2*6364136223846793005)+1442695040888963407))),())))
def aeJ:a4:=⟨184,[.cur 106],[a0],λx=>wm x⟩
def ari{ag:Prop}:bl ag aeJ:=bp [] [] [cv 2 0,cv 3 0,cv 4 0] trivial
def q2(L:List Int×Int×Int)(ay:Int):Option (Int×(List Int×Int×Int)×Unit):=cond (d_ (ay<=0)) (some (0,((L.1,(L.2.1,L.2.2)),()))) (cond (d_ (ay<=256)) (B_ (wm (L.1,(L.2.1,L.2.2))) λS=>B_ (gi .i64 S.1 ay) λaa=>some (aa,((S.2.1.1,(S.2.1.2.1,S.2.1.2.2)),()))) (B_ (wm (L.1,(L.2.1,L.2.2))) λaj=>B_ (wm (aj.2.1.1,(aj.2.1.2.1,aj.2.1.2.2))) λap=>B_ (wm (ap.2.1.1,(ap.2.1.2.1,ap.2.1.2.2))) λv5=>B_ (wm (v5.2.1.1,(v5.2.1.2.1,v5.2.1.2.2))) λaN=>B_ (gi .i64 (W_ i64 (W_ i64 (W_ i64 (W_ i64 (aj.1*16777216)+W_ i64 (ap.1*65536))+W_ i64 (v5.1*256))+aN.1)) ay) λaO=>some (aO,((aN.2.1.1,(aN.2.1.2.1,aN.2.1.2.2)),()))))
def D3:a4:=⟨94,[.cur 106,eK],[a0],λx=>q2 x.1 x.2⟩
def Iz{ag:Prop}:bl ag D3:=bp [aeJ] [] [] ⟨ari,trivial⟩
def NZ(ay:Int)(dt:Int)(S:(List Int×Int×Int)×List Int×Int):Option ((List Int×Int×Int)×List Int×Int⊕(List Int×Int×Int)×List Int):=cond (d_ (S.2.2<ay)) (B_ (q2 (S.1.1,(S.1.2.1,S.1.2.2)) (W_ i64 (W_ i64 (2*dt)+1))) λaa=>B_ (bN 8 S.2.1 [W_ i64 (aa.1-dt)]) λaj=>some (.inl ((aa.2.1.1,(aa.2.1.2.1,aa.2.1.2.2)),(aj,W_ i64 (S.2.2+1))))) (some (.inr ((S.1.1,(S.1.2.1,S.1.2.2)),S.2.1)))
def IA(L:List Int×Int×Int)(ay:Int)(dt:Int):Option (List Int×(List Int×Int×Int)×Unit):=B_ (aW (NZ ay dt) ((L.1,(L.2.1,L.2.2)),([],0))) λap=>some (ap.2,((ap.1.1,(ap.1.2.1,ap.1.2.2)),()))
def aeK:a4:=⟨185,[.cur 106,eK,eK],[cW 3],λx=>IA x.1 x.2.1 x.2.2⟩
def arj{ag:Prop}:bl ag aeK:=bp [D3] [cF 3 [(0,.b 106 [.d false (.list (.int .u8)),.d false bH,.d false bH]),(7,cW 3),(8,a0)] 0 [(0,.b 106 [.d false (.list (.int .u8)),.d false bH,.d false bH]),(7,cW 3)]] [] ⟨Iz,trivial⟩
def IB(ay:Int)(aa:Int×(List Int×Int×Int)×Unit)(aj:(List Int×Int×Int)×ao×Int):Option ((List Int×Int×Int)×ao×Int⊕(List Int×Int×Int)×ao):=cond (d_ (aj.2.2<W_ i64 (3+aa.1))) (B_ (IA (aj.1.1,(aj.1.2.1,aj.1.2.2)) 2 ay) λap=>B_ (bN 24 aj.2.1 [ap.1]) λv5=>some (.inl ((ap.2.1.1,(ap.2.1.2.1,ap.2.1.2.2)),(v5,W_ i64 (aj.2.2+1))))) (some (.inr ((aj.1.1,(aj.1.2.1,aj.1.2.2)),aj.2.1)))
def N0(ay:Int)(S:(List Int×Int×Int)×Int):Option ((List Int×Int×Int)×Int⊕List Int×Int×Int⊕(List Int×Int×Int)×ao):=cond (d_ (S.2<6)) (B_ (q2 (S.1.1,(S.1.2.1,S.1.2.2)) 4) λaa=>B_ (aW (IB ay aa) ((aa.2.1.1,(aa.2.1.2.1,aa.2.1.2.2)),([],0))) λaN=>B_ (sa aN.2) λaO=>cond aO.2 (some (.inr (.inr ((aN.1.1,(aN.1.2.1,aN.1.2.2)),aO.1)))) (some (.inl ((aN.1.1,(aN.1.2.1,aN.1.2.2)),W_ i64 (S.2+1))))) (some (.inr (.inl (S.1.1,(S.1.2.1,S.1.2.2)))))
def IC(L:List Int×Int×Int)(ay:Int):Option (ao×(List Int×Int×Int)×Unit):=B_ (aW (N0 ay) ((L.1,(L.2.1,L.2.2)),0)) λbi=>match bi with|.inl bf=>some ([[0,0],[2,0],[0,1]],((bf.1,(bf.2.1,bf.2.2)),()))|.inr bF=>some (bF.2,((bF.1.1,(bF.1.2.1,bF.1.2.2)),()))
def aeL:a4:=⟨97,[.cur 106,eK],[cw 65],λx=>IC x.1 x.2⟩
def ark{ag:Prop}:bl ag aeL:=bp [D3,aeK,yn] [⟨2,[(0,.b 106 [.d false (.list (.int .u8)),.d false bH,.d false bH]),(5,a0)],some (0,[(0,.b 106 [.d false (.list (.int .u8)),.d false bH,.d false bH])]),some [(0,.b 106 [.d false (.list (.int .u8)),.d false bH,.d false bH]),(4,cw 65)],false,none⟩,cF 7 [(0,.b 106 [.d false (.list (.int .u8)),.d false bH,.d false bH]),(6,cw 65),(8,a0)] 2 [(0,.b 106 [.d false (.list (.int .u8)),.d false bH,.d false bH]),(6,cw 65)]] [] ⟨Iz,arj,Bj,trivial⟩
def ID(L:List ByteArray)(ay:ByteArray)(S:List Int×Int):Option (List Int×Int⊕List Int):=cond (d_ (S.2<(L.length:Int))) (cond (d_ (S.2>0)) (B_ (bN 1 S.1 (nK ay)) λaa=>B_ (idx L S.2) λaj=>B_ (bN 1 aa (nK aj)) λap=>some (.inl (ap,W_ i64 (S.2+1)))) (B_ (idx L S.2) λv5=>B_ (bN 1 S.1 (nK v5)) λaN=>some (.inl (aN,W_ i64 (S.2+1))))) (some (.inr S.1))
def tt(L:List ByteArray)(ay:ByteArray):Option ByteArray:=B_ (aW (ID L ay) ([],0)) λaO=>some (o2 aO)
def D4:a4:=⟨96,[.d false (.list .str),jF],[gZ],λx=>tt x.1 x.2⟩
def IE{ag:Prop}:bl ag D4:=bp [] [cF 3 [(5,.l (.o true 5 (.int .u8))),(6,a0)] 0 [(5,.l (.o true 5 (.int .u8)))]] [] trivial
def N1(L:List Int)(S:List ByteArray×Int):Option (List ByteArray×Int⊕List ByteArray):=cond (d_ (S.2<(L.length:Int))) (B_ (idx L S.2) λaa=>B_ (jf aa) λaj=>B_ (bN 16 S.1 [aj]) λap=>some (.inl (ap,W_ i64 (S.2+1)))) (some (.inr S.1))
def tu(L:List Int):Option ByteArray:=B_ (aW (N1 L) ([],0)) λv5=>B_ (tt v5 ⟨#[44]⟩) λaN=>some aN
def Bl:a4:=⟨159,[dE],[gZ],λx=>tu x⟩
def D5{ag:Prop}:bl ag Bl:=bp [uJ,D4] [cF 3 [(3,lY 9),(4,a0)] 0 [(3,lY 9)]] [] ⟨wk,IE,trivial⟩
def IF(L:ao)(aa:List ByteArray×Int):Option (List ByteArray×Int⊕List ByteArray):=cond (d_ (aa.2<(L.length:Int))) (B_ (idx L aa.2) λaj=>B_ (tu aj) λap=>B_ (bN 16 aa.1 [ap]) λv5=>some (.inl (v5,W_ i64 (aa.2+1)))) (some (.inr aa.1))
def yr(L:ao):Option ByteArray:=B_ (jU L) λS=>cond (!S) (some ⟨#[]⟩) (B_ (aW (IF L) ([],0)) λaN=>B_ (tt aN ⟨#[32]⟩) λaO=>some aO)
def N2:a4:=⟨75,[cu],[gZ],λx=>yr x⟩
def Wb{ag:Prop}:bl ag N2:=bp [ls,Bl,D4] [cF 5 [(3,lY 9),(4,a0)] 0 [(3,lY 9)]] [] ⟨lZ,D5,IE,trivial⟩
def p9(L:List Int×Int×Int)(ay:List ByteArray):Option (ByteArray×(List Int×Int×Int)×Unit):=B_ (q2 (L.1,(L.2.1,L.2.2)) (ay.length:Int)) λS=>B_ (idx ay S.1) λaa=>some (aa,((S.2.1.1,(S.2.1.2.1,S.2.1.2.2)),()))
def aeM:a4:=⟨98,[.cur 106,.d false (.list .str)],[gZ],λx=>p9 x.1 x.2⟩
def arl{ag:Prop}:bl ag aeM:=bp [D3] [] [] ⟨Iz,trivial⟩
def Bm(L:List Int×Int×Int):Option (ByteArray×(List Int×Int×Int)×Unit):=B_ (q2 (L.1,(L.2.1,L.2.2)) 9) λS=>cond (S.1==0) (B_ (IC (S.2.1.1,(S.2.1.2.1,S.2.1.2.2)) 3) λaa=>B_ (yr aa.1) λaj=>B_ (fG ⟨#[112,111,108,121,32]⟩ aj) λap=>some (ap,((aa.2.1.1,(aa.2.1.2.1,aa.2.1.2.2)),()))) (cond (S.1==1) (B_ (p9 (S.2.1.1,(S.2.1.2.1,S.2.1.2.2)) [⟨#[101,120,97,109,112,108,101,32,49]⟩,⟨#[101,120,97,109,112,108,101,32,50]⟩,⟨#[101,120,97,109,112,108,101,32,51]⟩,⟨#[101,120,97,109,112,108,101,32,52]⟩,⟨#[101,120,97,109,112,108,101,32,53]⟩,⟨#[101,120,97,109,112,108,101,32,54]⟩,⟨#[101,120,97,109,112,108,101,32,57]⟩,⟨#[101,120,97,109,112,108,101,32,120]⟩,⟨#[107,101,101,112]⟩,⟨#[115,119,97,112]⟩]) λv5=>some (v5.1,((v5.2.1.1,(v5.2.1.2.1,v5.2.1.2.2)),()))) (cond (S.1==2) (B_ (p9 (S.2.1.1,(S.2.1.2.1,S.2.1.2.2)) [⟨#[109,105,114,114,111,114]⟩,⟨#[110,111,114,109,97,108]⟩,⟨#[100,117,97,108]⟩,⟨#[115,117,109]⟩,⟨#[100,105,108,97,116,101,32,50]⟩,⟨#[100,105,108,97,116,101,32,48]⟩,⟨#[109,111,118,101,32,49,44,50]⟩,⟨#[109,111,118,101,32,49]⟩,⟨#[115,104,101,97,114,32,49]⟩,⟨#[115,104,101,97,114,32,45,50]⟩,⟨#[115,104,101,97,114,32,50,48,48]⟩,⟨#[109,111,118,101,32,49,44,50,44,51]⟩]) λaN=>some (aN.1,((aN.2.1.1,(aN.2.1.2.1,aN.2.1.2.2)),()))) (cond (S.1==3) (B_ (p9 (S.2.1.1,(S.2.1.2.1,S.2.1.2.2)) [⟨#[97,116,32,50]⟩,⟨#[97,116,32,45,49]⟩,⟨#[97,116,32,120]⟩,⟨#[112,108,97,99,101,32,48,44,48]⟩,⟨#[112,108,97,99,101,32,49,44,49]⟩,⟨#[112,108,97,99,101,32,49]⟩,⟨#[108,97,121,101,114,115,32,49,44,48]⟩,⟨#[108,97,121,101,114,115,32,49,44,49]⟩,⟨#[108,97,121,101,114,115,32,49]⟩,⟨#[108,97,121,101,114,115,32,120]⟩]) λaO=>some (aO.1,((aO.2.1.1,(aO.2.1.2.1,aO.2.1.2.2)),()))) (cond (S.1==4) (B_ (p9 (S.2.1.1,(S.2.1.2.1,S.2.1.2.2)) [⟨#[115,112,108,105,116,32,49,44,48,32,50,44,53]⟩,⟨#[116,117,114,110,115,32,49,44,48,32,50,44,53]⟩,⟨#[115,112,108,105,116,32,49,44,48,32,48,44,49]⟩,⟨#[116,117,114,110,115,32,49,44,48,32,48,44,49]⟩,⟨#[115,112,108,105,116,32,48,44,49,32,49,44,48]⟩,⟨#[116,117,114,110,115,32,49,44,48,32,45,51,44,55]⟩,⟨#[115,112,108,105,116,32,49,32,50]⟩,⟨#[115,112,108,105,116,32,120,32,49]⟩]) λbi=>some (bi.1,((bi.2.1.1,(bi.2.1.2.1,bi.2.1.2.2)),()))) (cond (S.1==5) (B_ (p9 (S.2.1.1,(S.2.1.2.1,S.2.1.2.2)) [⟨#[99,111,117,110,116,32,50,59,49,44,48,60,50,59,48,44,49,60,49,59,45,49,44,45,49,60,48]⟩,⟨#[99,111,117,110,116,32,49,59,50,60,53,59,45,49,60,48]⟩,⟨#[99,111,117,110,116,32,120]⟩,⟨#[118,101,114,116,105,99,101,115,32,50,59,49,44,48,60,50,59,48,44,49,60,49,59,45,50,44,45,49,60,48]⟩,⟨#[118,101,114,116,105,99,101,115,32,49,59,49,60,50]⟩,⟨#[119,97,121,115,32,49,48,32,50,44,51,44,53]⟩,⟨#[119,97,121,115,32,55,32,51,44,50]⟩,⟨#[119,97,121,115,32,120,32,49]⟩,⟨#[119,97,121,115,32,53,32,49]⟩]) λbf=>some (bf.1,((bf.2.1.1,(bf.2.1.2.1,bf.2.1.2.2)),()))) (cond (S.1==6) (cond (S.1==6) (B_ (p9 (S.2.1.1,(S.2.1.2.1,S.2.1.2.2)) [⟨#[115,104,111,119]⟩,⟨#[100,101,115,99,114,105,98,101]⟩,⟨#[101,109,112,116,121]⟩,⟨#[119,105,100,116,104]⟩,⟨#[100,105,114,101,99,116,105,111,110,115]⟩,⟨#[99,111,114,110,101,114,115]⟩,⟨#[109,105,120,101,100]⟩,⟨#[115,97,109,101]⟩,⟨#[116,119,101,108,118,101]⟩]) λbF=>some (bF.1,((bF.2.1.1,(bF.2.1.2.1,bF.2.1.2.2)),()))) (B_ (p9 (S.2.1.1,(S.2.1.2.1,S.2.1.2.2)) [⟨#[]⟩,⟨#[119,104,97,116]⟩,⟨#[112,111,108,121]⟩,⟨#[112,111,108,121,32,48,44,48,32,49,44,48]⟩,⟨#[115,104,111,119,32,110,111,119]⟩,⟨#[115,112,108,105,116,32,49,44,48]⟩,⟨#[97,32,98,32,99,32,100]⟩]) λbC=>some (bC.1,((bC.2.1.1,(bC.2.1.2.1,bC.2.1.2.2)),())))) (cond (S.1==7) (B_ (p9 (S.2.1.1,(S.2.1.2.1,S.2.1.2.2)) [⟨#[115,104,111,119]⟩,⟨#[100,101,115,99,114,105,98,101]⟩,⟨#[101,109,112,116,121]⟩,⟨#[119,105,100,116,104]⟩,⟨#[100,105,114,101,99,116,105,111,110,115]⟩,⟨#[99,111,114,110,101,114,115]⟩,⟨#[109,105,120,101,100]⟩,⟨#[115,97,109,101]⟩,⟨#[116,119,101,108,118,101]⟩]) λbK=>some (bK.1,((bK.2.1.1,(bK.2.1.2.1,bK.2.1.2.2)),()))) (B_ (p9 (S.2.1.1,(S.2.1.2.1,S.2.1.2.2)) [⟨#[]⟩,⟨#[119,104,97,116]⟩,⟨#[112,111,108,121]⟩,⟨#[112,111,108,121,32,48,44,48,32,49,44,48]⟩,⟨#[115,104,111,119,32,110,111,119]⟩,⟨#[115,112,108,105,116,32,49,44,48]⟩,⟨#[97,32,98,32,99,32,100]⟩]) λc3=>some (c3.1,((c3.2.1.1,(c3.2.1.2.1,c3.2.1.2.2)),()))))))))))
def Wc:a4:=⟨33,[.cur 106],[gZ],λx=>Bm x⟩
def aeN{ag:Prop}:bl ag Wc:=bp [D3,aeL,N2,aeM] [] [] ⟨Iz,ark,Wb,arl,trivial⟩
def ys(L:ao×ao):Option (ao×ao):=B_ (n7 L.1) λS=>B_ (n7 L.2) λaa=>some (S,aa)
def aeO:a4:=⟨72,[.d false (.prod fi fi)],[.a [.o true 65 bG,.o true 65 bG]],λx=>ys x⟩
def arm{ag:Prop}:bl ag aeO:=bp [D1] [] [cv 1 0] ⟨Ix,trivial⟩
def N3(L:List Int)(ay:Int)(S:List Int×Int):Option (List Int×Int⊕List Int):=cond (d_ (S.2<(L.length:Int))) (B_ (idx L S.2) λaa=>B_ (bN 8 S.1 [W_ i64 (aa*ay)]) λaj=>some (.inl (aj,W_ i64 (S.2+1)))) (some (.inr S.1))
def kw(L:List Int)(ay:Int):Option (List Int):=B_ (aW (N3 L ay) ([],0)) λap=>some ap
def D6:a4:=⟨173,[dE,eK],[cW 3],λx=>kw x.1 x.2⟩
def IG{ag:Prop}:bl ag D6:=bp [] [cF 3 [(5,cW 3),(6,a0)] 0 [(5,cW 3)]] [] trivial
def N4(L:ao)(aa:ao×Int):Option (ao×Int⊕ao):=cond (d_ (aa.2<(L.length:Int))) (B_ (idx L aa.2) λaj=>B_ (kw aj (-1)) λap=>B_ (bN 24 aa.1 [ap]) λv5=>some (.inl (v5,W_ i64 (aa.2+1)))) (some (.inr aa.1))
def IH(L:ao):Option (ao×Bool):=B_ (jU L) λS=>cond (!S) (some ([],false)) (B_ (aW (N4 L) ([],0)) λaN=>B_ (sa aN) λaO=>some (aO.1,aO.2))
def Wd:a4:=⟨211,[cu],[cw 65,ch],λx=>IH x⟩
def aeP{ag:Prop}:bl ag Wd:=bp [ls,D6,yn] [cF 5 [(4,cw 65),(5,a0)] 0 [(4,cw 65)]] [] ⟨lZ,IG,Bj,trivial⟩
def sc(L:Int)(ay:Int):Option Int:=cond (d_ (L>ay)) (some L) (some ay)
def II:a4:=⟨239,[eK,eK],[a0],λx=>sc x.1 x.2⟩
def N5{ag:Prop}:bl ag II:=bp [] [] [] trivial
def D7(L:Int):Option Int:=B_ (sc L (W_ i64 (0-L))) λS=>some S
def We:a4:=⟨322,[eK],[a0],λx=>D7 x⟩
def aeQ{ag:Prop}:bl ag We:=bp [II] [] [] ⟨N5,trivial⟩
def N6(aj:Int×Int):Option (Int×Int⊕Int):=cond (aj.2 !=0) (B_ (gi .i64 aj.1 aj.2) λap=>some (.inl (aj.2,ap))) (some (.inr aj.1))
def D8(L:Int)(ay:Int):Option Int:=B_ (D7 L) λS=>B_ (D7 ay) λaa=>B_ (aW N6 (S,aa)) λv5=>some v5
def Wf:a4:=⟨292,[eK,eK],[a0],λx=>D8 x.1 x.2⟩
def aeR{ag:Prop}:bl ag Wf:=bp [We] [cF 3 [(0,a0),(1,a0)] 0 [(0,a0)]] [] ⟨aeQ,trivial⟩
def N7(L:List Int)(S:Int×Int):Option (Int×Int⊕Int):=cond (d_ (S.2<(L.length:Int))) (B_ (idx L S.2) λaa=>B_ (D8 S.1 aa) λaj=>some (.inl (aj,W_ i64 (S.2+1)))) (some (.inr S.1))
def wn(L:List Int):Option Int:=B_ (aW (N7 L) (0,0)) λap=>some ap
def D9:a4:=⟨238,[dE],[a0],λx=>wn x⟩
def IJ{ag:Prop}:bl ag D9:=bp [Wf] [cF 3 [(3,a0),(4,a0)] 0 [(3,a0)]] [] ⟨aeR,trivial⟩
def N8(L:List Int)(S:Int)(aa:List Int×Int):Option (List Int×Int⊕List Int):=cond (d_ (aa.2<(L.length:Int))) (B_ (idx L aa.2) λaj=>B_ (sc S 1) λap=>B_ (gk .i64 aj ap) λv5=>B_ (bN 8 aa.1 [v5]) λaN=>some (.inl (aN,W_ i64 (aa.2+1)))) (some (.inr aa.1))
def Ea(L:List Int):Option (List Int):=B_ (wn L) λS=>B_ (aW (N8 L S) ([],0)) λaO=>some aO
def Wg:a4:=⟨169,[dE],[cW 3],λx=>Ea x⟩
def aeS{ag:Prop}:bl ag Wg:=bp [D9,II] [cF 4 [(4,cW 3),(5,a0)] 0 [(4,cW 3)]] [cv 6 0] ⟨IJ,N5,trivial⟩
def Eb(L:List Int)(S:Int)(aa:Int)(aj:Int):Option (Int⊕Unit⊕List Int):=cond (d_ (aj<4)) (B_ (idx [[aa,S],[aa,W_ i64 (0-S)],[S,aa],[W_ i64 (0-S),aa]] aj) λap=>B_ (nq L ap) λv5=>cond (v5==1) (B_ (idx [[aa,S],[aa,W_ i64 (0-S)],[S,aa],[W_ i64 (0-S),aa]] aj) λaN=>some (.inr (.inr aN))) (some (.inl (W_ i64 (aj+1))))) (some (.inr (.inl ())))
def Ec(L:List Int)(S:Int)(aa:Int):Option (Int⊕Unit⊕List Int):=cond (d_ (aa<=S)) (B_ (aW (Eb L S aa) 0) λaO=>match aO with|.inl bi=>some (.inl (W_ i64 (aa+1)))|.inr bf=>some (.inr (.inr bf))) (some (.inr (.inl ())))
def N9(L:List Int)(S:Int):Option (Int⊕List Int):=B_ (aW (Ec L S) (W_ i64 (0-S))) λbF=>match bF with|.inl bC=>some (.inl (W_ i64 (S+1)))|.inr bK=>some (.inr bK)
def Bn(L:List Int):Option (List Int):=B_ (aW (N9 L) 0) λc3=>some c3
def Wh:a4:=⟨171,[dE],[wh],λx=>Bn x⟩
def aeT{ag:Prop}:bl ag Wh:=bp [wl] [⟨3,[(3,a0)],none,some [(2,wh)],false,none⟩,⟨4,[(4,a0)],some (2,[]),some [(2,wh)],false,none⟩,⟨8,[(6,a0)],some (4,[]),some [(2,wh)],false,none⟩] [] ⟨ym,trivial⟩
def Bo(L:List Int)(ay:List Int)(S:Int×Int):Option (Int×Int⊕Int):=cond (d_ (S.2<(L.length:Int))) (cond (d_ (S.2<(ay.length:Int))) (B_ (idx L S.2) λaa=>B_ (idx ay S.2) λaj=>some (.inl (W_ i64 (S.1+W_ i64 (aa*aj)),W_ i64 (S.2+1)))) (some (.inr S.1))) (some (.inr S.1))
def nr(L:List Int)(ay:List Int):Option Int:=B_ (aW (Bo L ay) (0,0)) λap=>some ap
def Ed:a4:=⟨240,[dE,dE],[a0],λx=>nr x.1 x.2⟩
def IK{ag:Prop}:bl ag Ed:=bp [] [cF 3 [(5,a0),(6,a0)] 0 [(5,a0)]] [cv 5 0] trivial
def Oa(L:ao)(ay:List Int)(S:List Int×Int):Option (List Int×Int⊕List Int):=cond (d_ (S.2<(L.length:Int))) (B_ (idx L S.2) λaa=>B_ (nr aa ay) λaj=>B_ (bN 8 S.1 [aj]) λap=>some (.inl (ap,W_ i64 (S.2+1)))) (some (.inr S.1))
def q3(L:ao)(ay:List Int):Option (List Int):=B_ (aW (Oa L ay) ([],0)) λv5=>some v5
def Wi:a4:=⟨172,[cu,dE],[cW 3],λx=>q3 x.1 x.2⟩
def aeU{ag:Prop}:bl ag Wi:=bp [Ed] [cF 3 [(5,cW 3),(6,a0)] 0 [(5,cW 3)]] [] ⟨IK,trivial⟩
def yv(L:Int)(ay:Int):Option Int:=B_ (gk .i64 L ay) λS=>B_ (gi .i64 L ay) λaa=>cond (d_ (aa<0)) (some (W_ i64 (S-1))) (some S)
def Wj:a4:=⟨174,[eK,eK],[a0],λx=>yv x.1 x.2⟩
def aeV{ag:Prop}:bl ag Wj:=bp [] [] [] trivial
def IL(L:List Int)(ay:List Int)(dt:List Int):Option (ao×List Int):=B_ (mx ay L) λS=>B_ (Ea S) λaa=>B_ (Bn aa) λaj=>B_ (idx aj 1) λap=>B_ (idx aj 0) λv5=>B_ (idx aa 1) λaN=>B_ (idx aa 0) λaO=>B_ (mx dt L) λbi=>B_ (q3 [[ap,W_ i64 (0-v5)],[W_ i64 (0-aN),aO]] bi) λbf=>B_ (bI bf.length 1) λ_=>B_ (idx bf (((1:Int).toNat:Nat):Int)) λbF=>cond (d_ (bF<0)) (B_ (bI ([[ap,W_ i64 (0-v5)],[W_ i64 (0-aN),aO]]:ao).length 1) λ_=>B_ (idx [[ap,W_ i64 (0-v5)],[W_ i64 (0-aN),aO]] (((1:Int).toNat:Nat):Int)) λbC=>B_ (kw bC (-1)) λbK=>B_ (bI ([[ap,W_ i64 (0-v5)],[W_ i64 (0-aN),aO]]:ao).length 1) λ_=>B_ (bI ([[ap,W_ i64 (0-v5)],[W_ i64 (0-aN),aO]]:ao).length (((1:Int).toNat:Nat):Int)) λ_=>B_ (bI bf.length 1) λ_=>B_ (idx bf (((1:Int).toNat:Nat):Int)) λc3=>B_ (bI bf.length 1) λ_=>B_ (bI bf.length (((1:Int).toNat:Nat):Int)) λ_=>B_ (bI (([[ap,W_ i64 (0-v5)],[W_ i64 (0-aN),aO]]:ao).set (1:Int).toNat bK).length 0) λ_=>B_ (idx (([[ap,W_ i64 (0-v5)],[W_ i64 (0-aN),aO]]:ao).set (1:Int).toNat bK) (((0:Int).toNat:Nat):Int)) λdQ=>B_ (bI (([[ap,W_ i64 (0-v5)],[W_ i64 (0-aN),aO]]:ao).set (1:Int).toNat bK).length 1) λ_=>B_ (idx (([[ap,W_ i64 (0-v5)],[W_ i64 (0-aN),aO]]:ao).set (1:Int).toNat bK) (((1:Int).toNat:Nat):Int)) λdK=>B_ (bI (bf.set (1:Int).toNat (W_ i64 (0-c3))).length 0) λ_=>B_ (idx (bf.set (1:Int).toNat (W_ i64 (0-c3))) (((0:Int).toNat:Nat):Int)) λdz=>B_ (bI (bf.set (1:Int).toNat (W_ i64 (0-c3))).length 1) λ_=>B_ (idx (bf.set (1:Int).toNat (W_ i64 (0-c3))) (((1:Int).toNat:Nat):Int)) λdO=>B_ (yv dz dO) λeU=>B_ (kw dK eU) λeM=>B_ (mx dQ eM) λdP=>B_ (bI (([[ap,W_ i64 (0-v5)],[W_ i64 (0-aN),aO]]:ao).set (1:Int).toNat bK).length 0) λ_=>B_ (bI (([[ap,W_ i64 (0-v5)],[W_ i64 (0-aN),aO]]:ao).set (1:Int).toNat bK).length (((0:Int).toNat:Nat):Int)) λ_=>B_ (q3 ((([[ap,W_ i64 (0-v5)],[W_ i64 (0-aN),aO]]:ao).set (1:Int).toNat bK).set (0:Int).toNat dP) L) λdR=>B_ (kw dR (-1)) λg0=>some ((([[ap,W_ i64 (0-v5)],[W_ i64 (0-aN),aO]]:ao).set (1:Int).toNat bK).set (0:Int).toNat dP,g0)) (B_ (bI ([[ap,W_ i64 (0-v5)],[W_ i64 (0-aN),aO]]:ao).length 0) λ_=>B_ (idx [[ap,W_ i64 (0-v5)],[W_ i64 (0-aN),aO]] (((0:Int).toNat:Nat):Int)) λhk=>B_ (bI ([[ap,W_ i64 (0-v5)],[W_ i64 (0-aN),aO]]:ao).length 1) λ_=>B_ (idx [[ap,W_ i64 (0-v5)],[W_ i64 (0-aN),aO]] (((1:Int).toNat:Nat):Int)) λhl=>B_ (bI bf.length 0) λ_=>B_ (idx bf (((0:Int).toNat:Nat):Int)) λiN=>B_ (bI bf.length 1) λ_=>B_ (idx bf (((1:Int).toNat:Nat):Int)) λkv=>B_ (yv iN kv) λkd=>B_ (kw hl kd) λhm=>B_ (mx hk hm) λjq=>B_ (bI ([[ap,W_ i64 (0-v5)],[W_ i64 (0-aN),aO]]:ao).length 0) λ_=>B_ (bI ([[ap,W_ i64 (0-v5)],[W_ i64 (0-aN),aO]]:ao).length (((0:Int).toNat:Nat):Int)) λ_=>B_ (q3 (([[ap,W_ i64 (0-v5)],[W_ i64 (0-aN),aO]]:ao).set (0:Int).toNat jq) L) λjV=>B_ (kw jV (-1)) λjH=>some (([[ap,W_ i64 (0-v5)],[W_ i64 (0-aN),aO]]:ao).set (0:Int).toNat jq,jH))
def aeW:a4:=⟨83,[dE,dE,dE],[.a [.o true 65 bG,.o true 3 bH]],λx=>IL x.1 x.2.1 x.2.2⟩
def arn{ag:Prop}:bl ag aeW:=bp [Bf,Wg,Wh,Wi,D6,Wj] [] [cv 3 0,cv 8 0] ⟨D0,aeS,aeT,aeU,IG,aeV,trivial⟩
def Bp(L:List Int)(ay:List Int)(S:List Int×Int):Option (List Int×Int⊕List Int):=cond (d_ (S.2<(L.length:Int))) (B_ (idx L S.2) λaa=>B_ (idx ay S.2) λaj=>B_ (bN 8 S.1 [W_ i64 (aa+aj)]) λap=>some (.inl (ap,W_ i64 (S.2+1)))) (some (.inr S.1))
def uN(L:List Int)(ay:List Int):Option (List Int):=B_ (aW (Bp L ay) ([],0)) λv5=>some v5
def IM:a4:=⟨175,[dE,dE],[cW 3],λx=>uN x.1 x.2⟩
def Ob{ag:Prop}:bl ag IM:=bp [] [cF 3 [(5,cW 3),(6,a0)] 0 [(5,cW 3)]] [cv 5 0] trivial
def wo(L:ao×List Int)(ay:List Int):Option (List Int):=B_ (q3 L.1 ay) λS=>B_ (uN S L.2) λaa=>some aa
def Wk:a4:=⟨84,[.d false (.prod fi bG),dE],[cW 3],λx=>wo x.1 x.2⟩
def aeX{ag:Prop}:bl ag Wk:=bp [Wi,IM] [] [cv 1 0] ⟨aeU,Ob,trivial⟩
def uO(L:ao)(ay:ao)(S:Int):Option (Int⊕Unit⊕Bool):=cond (d_ (S<(L.length:Int))) (cond (d_ (S<(ay.length:Int))) (B_ (idx L S) λaa=>B_ (idx ay S) λaj=>B_ (uL aa aj) λap=>cond (!ap) (B_ (idx L S) λv5=>B_ (idx ay S) λaN=>B_ (Ir v5 aN) λaO=>some (.inr (.inr aO))) (some (.inl (W_ i64 (S+1))))) (some (.inr (.inl ())))) (some (.inr (.inl ())))
def Ee(L:ao)(ay:ao):Option Bool:=B_ (aW (uO L ay) 0) λbi=>match bi with|.inl bf=>some (d_ ((L.length:Int)<(ay.length:Int)))|.inr bF=>some bF
def aeY:a4:=⟨85,[cu,cu],[ch],λx=>Ee x.1 x.2⟩
def aro{ag:Prop}:bl ag aeY:=bp [DZ,V5] [⟨2,[(5,a0)],some (0,[]),some [(4,ch)],false,none⟩] [cv 4 0,cv 5 0] ⟨Is,aeE,trivial⟩
def IN(L:ao)(bC:ao×List Int)(bK:ao×Int):Option (ao×Int⊕ao):=cond (d_ (bK.2<(L.length:Int))) (B_ (idx L bK.2) λc3=>B_ (wo (bC.1,bC.2) c3) λdQ=>B_ (bN 24 bK.1 [dQ]) λdK=>some (.inl (dK,W_ i64 (bK.2+1)))) (some (.inr bK.1))
def aeZ(L:ao)(bf:ao×List Int)(eM:ao×Int):Option (ao×Int⊕ao):=cond (d_ (eM.2<(L.length:Int))) (B_ (idx L eM.2) λdP=>B_ (wo (bf.1,bf.2) dP) λdR=>B_ (bN 24 eM.1 [dR]) λg0=>some (.inl (g0,W_ i64 (eM.2+1)))) (some (.inr eM.1))
def Bq(L:ao)(aa:ao×Int)(aj:ao×Int):Option (ao×Int⊕ao⊕ao×Bool):=cond (d_ (aj.2<2)) (B_ (gi .i64 (W_ i64 (aa.2+1)) (L.length:Int)) λap=>B_ (idx L ap) λv5=>B_ (gi .i64 (W_ i64 (W_ i64 (aa.2+(L.length:Int))-1)) (L.length:Int)) λaN=>B_ (idx L aN) λaO=>B_ (idx L aa.2) λbi=>B_ (IL bi v5 aO) λbf=>cond (aj.2==1) (B_ (idx L aa.2) λbF=>B_ (IL bF aO v5) λbC=>B_ (aW (IN L bC) ([],0)) λdz=>B_ (sa dz) λdO=>cond (!dO.2) (some (.inr (.inr ([],false)))) (cond ((aj.1.length:Int)==0) (some (.inl (dO.1,W_ i64 (aj.2+1)))) (B_ (Ee dO.1 aj.1) λeU=>cond eU (some (.inl (dO.1,W_ i64 (aj.2+1)))) (some (.inl (aj.1,W_ i64 (aj.2+1))))))) (B_ (aW (aeZ L bf) ([],0)) λhk=>B_ (sa hk) λhl=>cond (!hl.2) (some (.inr (.inr ([],false)))) (cond ((aj.1.length:Int)==0) (some (.inl (hl.1,W_ i64 (aj.2+1)))) (B_ (Ee hl.1 aj.1) λiN=>cond iN (some (.inl (hl.1,W_ i64 (aj.2+1)))) (some (.inl (aj.1,W_ i64 (aj.2+1)))))))) (some (.inr (.inl aj.1)))
def IP(L:ao)(aa:ao×Int):Option (ao×Int⊕ao⊕ao×Bool):=cond (d_ (aa.2<(L.length:Int))) (B_ (aW (Bq L aa) (aa.1,0)) λkv=>match kv with|.inl kd=>some (.inl (kd,W_ i64 (aa.2+1)))|.inr hm=>some (.inr (.inr (hm.1,hm.2)))) (some (.inr (.inl aa.1)))
def wq(L:ao):Option (ao×Bool):=B_ (jU L) λS=>cond (!S) (some ([],false)) (B_ (aW (IP L) ([],0)) λjq=>match jq with|.inl jV=>some (jV,true)|.inr jH=>some (jH.1,jH.2))
def Oc:a4:=⟨15,[cu],[Il,ch],λx=>wq x⟩
def Wl{ag:Prop}:bl ag Oc:=bp [ls,aeW,Wk,yn,aeY] [⟨6,[(4,Il),(6,a0)],some (0,[(4,Il)]),some [(2,cw 65),(3,ch)],false,none⟩,⟨9,[(4,Il),(7,a0)],some (2,[(4,Il)]),some [(2,cw 65),(3,ch)],false,none⟩,cF 18 [(11,cw 65),(12,a0)] 4 [(11,cw 65)]] [cv 20 0] ⟨lZ,arn,aeX,Bj,aro,trivial⟩
def Ef(L:ao)(S:Int×Int):Option (Int×Int⊕Int):=cond (d_ (S.2<(L.length:Int))) (B_ (idx L S.2) λaa=>B_ (gi .i64 (W_ i64 (S.2+1)) (L.length:Int)) λaj=>B_ (idx L aj) λap=>B_ (nq aa ap) λv5=>some (.inl (W_ i64 (S.1+v5),W_ i64 (S.2+1)))) (some (.inr S.1))
def n8(L:ao):Option Int:=B_ (aW (Ef L) (0,0)) λaN=>some aN
def Br:a4:=⟨86,[cu],[a0],λx=>n8 x⟩
def Eg{ag:Prop}:bl ag Br:=bp [wl] [cF 3 [(3,a0),(4,a0)] 0 [(3,a0)]] [cv 5 0] ⟨ym,trivial⟩
def Od(L:ao)(ay:Int):Option Int:=B_ (gi .i64 (W_ i64 (ay+1)) (L.length:Int)) λS=>B_ (idx L S) λaa=>B_ (idx L ay) λaj=>B_ (mx aa aj) λap=>B_ (wn ap) λv5=>some v5
def ae0:a4:=⟨324,[cu,eK],[a0],λx=>Od x.1 x.2⟩
def arp{ag:Prop}:bl ag ae0:=bp [Bf,D9] [] [cv 1 0] ⟨D0,IJ,trivial⟩
def Oe(L:ao)(aa:Int×Int):Option (Int×Int⊕Int):=cond (d_ (aa.2<(L.length:Int))) (B_ (Od L aa.2) λaj=>some (.inl (W_ i64 (aa.1+aj),W_ i64 (aa.2+1)))) (some (.inr aa.1))
def yw(L:ao):Option Int:=B_ (jU L) λS=>cond (!S) (some (-1)) (B_ (aW (Oe L) (0,0)) λap=>some ap)
def IQ:a4:=⟨271,[cu],[a0],λx=>yw x⟩
def Of{ag:Prop}:bl ag IQ:=bp [ls,ae0] [cF 5 [(3,a0),(4,a0)] 0 [(3,a0)]] [] ⟨lZ,arp,trivial⟩
def Eh(L:ao):Option Int:=B_ (jU L) λS=>cond (!S) (some (-1)) (B_ (n8 L) λaa=>B_ (yw L) λaj=>B_ (gk .i64 (W_ i64 (W_ i64 (aa-aj)+2)) 2) λap=>some ap)
def Og:a4:=⟨272,[cu],[a0],λx=>Eh x⟩
def Wm{ag:Prop}:bl ag Og:=bp [ls,Br,IQ] [] [] ⟨lZ,Eg,Of,trivial⟩
def ws(L:ao)(ay:List Int)(S:Int×Int):Option (Int×Int⊕Int⊕Int):=cond (d_ (S.2<(L.length:Int))) (B_ (idx L S.2) λaa=>B_ (gi .i64 (W_ i64 (S.2+1)) (L.length:Int)) λaj=>B_ (idx L aj) λap=>B_ (Bg aa ap ay) λv5=>cond (d_ (v5<0)) (some (.inr (.inr (-1)))) (cond (v5==0) (some (.inl (0,W_ i64 (S.2+1)))) (some (.inl (S.1,W_ i64 (S.2+1)))))) (some (.inr (.inl S.1)))
def uP(L:ao)(ay:List Int):Option Int:=B_ (aW (ws L ay) (1,0)) λaN=>match aN with|.inl aO=>some aO|.inr bi=>some bi
def Oh:a4:=⟨285,[cu,dE],[a0],λx=>uP x.1 x.2⟩
def Wn{ag:Prop}:bl ag Oh:=bp [NV] [⟨3,[(5,a0),(6,a0)],some (0,[(5,a0)]),some [(4,a0)],false,none⟩] [cv 5 0] ⟨V7,trivial⟩
def IR(L:ao):Option Bool:=B_ (jU L) λS=>cond S (B_ (Eh L) λaa=>cond (aa==1) (B_ (uP L [0,0]) λaj=>some (aj==1)) (some false)) (some false)
def Wo:a4:=⟨268,[cu],[ch],λx=>IR x⟩
def ae1{ag:Prop}:bl ag Wo:=bp [ls,Og,Oh] [] [] ⟨lZ,Wm,Wn,trivial⟩
def Oi(L:List Int)(ay:List Int):Option (List Int):=B_ (nq L ay) λS=>B_ (idx ay 1) λaa=>B_ (idx L 1) λaj=>B_ (gk .i64 (W_ i64 (aa-aj)) S) λap=>B_ (idx L 0) λv5=>B_ (idx ay 0) λaN=>B_ (gk .i64 (W_ i64 (v5-aN)) S) λaO=>some [ap,aO]
def ae2:a4:=⟨269,[dE,dE],[cW 3],λx=>Oi x.1 x.2⟩
def arq{ag:Prop}:bl ag ae2:=bp [wl] [] [cv 2 0] ⟨ym,trivial⟩
def Oj(L:ao)(aa:ao×Int):Option (ao×Int⊕ao):=cond (d_ (aa.2<(L.length:Int))) (B_ (idx L aa.2) λaj=>B_ (gi .i64 (W_ i64 (aa.2+1)) (L.length:Int)) λap=>B_ (idx L ap) λv5=>B_ (Oi aj v5) λaN=>B_ (bN 24 aa.1 [aN]) λaO=>some (.inl (aO,W_ i64 (aa.2+1)))) (some (.inr aa.1))
def Ei(L:ao):Option (ao×Bool):=B_ (IR L) λS=>cond (!S) (some ([],false)) (B_ (aW (Oj L) ([],0)) λbi=>B_ (sa bi) λbf=>cond (!bf.2) (some ([],false)) (some (bf.1,true)))
def Wp:a4:=⟨212,[cu],[cw 65,ch],λx=>Ei x⟩
def ae3{ag:Prop}:bl ag Wp:=bp [Wo,ae2,yn] [cF 5 [(4,cw 65),(5,a0)] 0 [(4,cw 65)]] [cv 7 0] ⟨ae1,arq,Bj,trivial⟩
def IS(L:ao)(ay:ao)(aj:ao×Int)(ap:ao×Int):Option (ao×Int⊕ao):=cond (d_ (ap.2<(ay.length:Int))) (B_ (idx L aj.2) λv5=>B_ (idx ay ap.2) λaN=>B_ (uN v5 aN) λaO=>B_ (bN 24 ap.1 [aO]) λbi=>some (.inl (bi,W_ i64 (ap.2+1)))) (some (.inr ap.1))
def Ol(L:ao)(ay:ao)(aj:ao×Int):Option (ao×Int⊕ao):=cond (d_ (aj.2<(L.length:Int))) (B_ (aW (IS L ay aj) (aj.1,0)) λbf=>some (.inl (bf,W_ i64 (aj.2+1)))) (some (.inr aj.1))
def IT(L:ao)(ay:ao):Option (ao×Bool):=B_ (jU L) λS=>cond (!S) (some ([],false)) (B_ (jU ay) λaa=>cond (!aa) (some ([],false)) (B_ (aW (Ol L ay) ([],0)) λbF=>B_ (sa bF) λbC=>cond (!bC.2) (some ([],false)) (some (bC.1,true))))
def Wq:a4:=⟨213,[cu,cu],[cw 65,ch],λx=>IT x.1 x.2⟩
def ae4{ag:Prop}:bl ag Wq:=bp [ls,IM,yn] [cF 5 [(6,cw 65),(7,a0)] 0 [(6,cw 65)],cF 8 [(6,cw 65),(8,a0)] 2 [(6,cw 65)]] [cv 10 0] ⟨lZ,Ob,Bj,trivial⟩
def Bs(L:ao×ao)(ay:ByteArray):Option (ao×Bool×Bool):=cond (ay.toList==(⟨#[109,105,114,114,111,114]⟩:ByteArray).toList) (B_ (IH L.1) λS=>some (S.1,(S.2,true))) (cond (ay.toList==(⟨#[110,111,114,109,97,108]⟩:ByteArray).toList) (B_ (wq L.1) λaa=>some (aa.1,(aa.2,true))) (cond (ay.toList==(⟨#[100,117,97,108]⟩:ByteArray).toList) (B_ (Ei L.1) λaj=>some (aj.1,(aj.2,true))) (cond (ay.toList==(⟨#[115,117,109]⟩:ByteArray).toList) (B_ (IT L.1 L.2) λap=>some (ap.1,(ap.2,true))) (some ([],(false,false))))))
def ae5:a4:=⟨154,[.d false (.prod fi fi),jF],[.a [.d false fi,.d false .bool,.d false .bool]],λx=>Bs x.1 x.2⟩
def arr{ag:Prop}:bl ag ae5:=bp [Wd,Oc,Wp,Wq] [] [] ⟨aeP,Wl,ae3,ae4,trivial⟩
def Om(L:ao)(S:Int):Option (Int⊕Unit⊕Bool):=cond (d_ (S<(L.length:Int))) (B_ (idx L S) λaa=>cond ((aa.length:Int)!=(L.length:Int)) (some (.inr (.inr false))) (B_ (idx L S) λaj=>B_ (p8 aj 100) λap=>cond (!ap) (some (.inr (.inr false))) (some (.inl (W_ i64 (S+1)))))) (some (.inr (.inl ())))
def On(L:ao):Option Bool:=B_ (aW (Om L) 0) λv5=>match v5 with|.inl aN=>B_ (no (L.length:Int) 1 3) λbi=>some bi|.inr aO=>some aO
def ae6:a4:=⟨348,[cu],[ch],λx=>On x⟩
def ars{ag:Prop}:bl ag ae6:=bp [yk,q1] [⟨2,[(3,a0)],some (0,[]),some [(2,ch)],false,none⟩] [] ⟨Bc,r4,trivial⟩
def Ej(L:ao)(bC:Int×Int):Option (Int×Int⊕Int):=cond (d_ (bC.2<3)) (B_ (gi .i64 (W_ i64 (bC.2+1)) 3) λbK=>B_ (gi .i64 (W_ i64 (bC.2+2)) 3) λc3=>B_ (idx L 0) λdQ=>B_ (idx dQ bC.2) λdK=>B_ (idx L 1) λdz=>B_ (idx dz bK) λdO=>B_ (idx L 2) λeU=>B_ (idx eU c3) λeM=>B_ (idx L 1) λdP=>B_ (idx dP c3) λdR=>B_ (idx L 2) λg0=>B_ (idx g0 bK) λhk=>some (.inl (W_ i64 (bC.1+W_ i64 (dK*W_ i64 (W_ i64 (dO*eM)-W_ i64 (dR*hk)))),W_ i64 (bC.2+1)))) (some (.inr bC.1))
def uQ(L:ao):Option Int:=cond ((L.length:Int)==1) (B_ (idx L 0) λS=>B_ (idx S 0) λaa=>some aa) (cond ((L.length:Int)==2) (B_ (idx L 0) λaj=>B_ (idx aj 0) λap=>B_ (idx L 1) λv5=>B_ (idx v5 1) λaN=>B_ (idx L 0) λaO=>B_ (idx aO 1) λbi=>B_ (idx L 1) λbf=>B_ (idx bf 0) λbF=>some (W_ i64 (W_ i64 (ap*aN)-W_ i64 (bi*bF)))) (B_ (aW (Ej L) (0,0)) λhl=>some hl))
def Wr:a4:=⟨349,[cu],[a0],λx=>uQ x⟩
def ae7{ag:Prop}:bl ag Wr:=bp [] [cF 8 [(3,a0),(4,a0)] 1 [(3,a0)]] [cv 5 0,cv 12 0] trivial
def Ws(L:ao):Option Int:=B_ (On L) λS=>cond (!S) (some 0) (B_ (uQ L) λaa=>some aa)
def ae8:a4:=⟨323,[cu],[a0],λx=>Ws x⟩
def art{ag:Prop}:bl ag ae8:=bp [ae6,Wr] [] [] ⟨ars,ae7,trivial⟩
def Oo(L:ao):Option Bool:=B_ (Ws L) λS=>B_ (D7 S) λaa=>some (aa==1)
def ae9:a4:=⟨270,[cu],[ch],λx=>Oo x⟩
def aru{ag:Prop}:bl ag ae9:=bp [ae8,We] [] [] ⟨art,aeQ,trivial⟩
def Oq(L:ao×List Int):Option Bool:=cond ((L.1.length:Int)==2) (B_ (Oo L.1) λS=>cond S (B_ (Bd L.2) λaa=>cond aa (some ((L.2.length:Int)==2)) (some false)) (some false)) (some false)
def afa:a4:=⟨215,[.d false (.prod fi bG)],[ch],λx=>Oq x⟩
def arv{ag:Prop}:bl ag afa:=bp [ae9,Io] [] [] ⟨aru,NR,trivial⟩
def Ot(L:ao×List Int)(ay:ao)(aj:ao×Int):Option (ao×Int⊕ao):=cond (d_ (aj.2<(ay.length:Int))) (B_ (idx ay aj.2) λap=>B_ (wo (L.1,L.2) ap) λv5=>B_ (bN 24 aj.1 [v5]) λaN=>some (.inl (aN,W_ i64 (aj.2+1)))) (some (.inr aj.1))
def Ek(L:ao×List Int)(ay:ao):Option (ao×Bool):=B_ (Oq (L.1,L.2)) λS=>cond (!S) (some ([],false)) (B_ (jU ay) λaa=>cond (!aa) (some ([],false)) (B_ (aW (Ot L ay) ([],0)) λaO=>B_ (sa aO) λbi=>cond (!bi.2) (some ([],false)) (some (bi.1,true))))
def Wt:a4:=⟨156,[.d false (.prod fi bG),cu],[cw 65,ch],λx=>Ek x.1 x.2⟩
def afb{ag:Prop}:bl ag Wt:=bp [afa,ls,Wk,yn] [cF 5 [(6,cw 65),(7,a0)] 0 [(6,cw 65)]] [cv 7 0] ⟨arv,lZ,aeX,Bj,trivial⟩
def IU(L:ao)(ay:Int)(aj:ao×Int):Option (ao×Int⊕ao):=cond (d_ (aj.2<(L.length:Int))) (B_ (idx L aj.2) λap=>B_ (kw ap ay) λv5=>B_ (bN 24 aj.1 [v5]) λaN=>some (.inl (aN,W_ i64 (aj.2+1)))) (some (.inr aj.1))
def Ou(L:ao)(ay:Int):Option (ao×Bool):=B_ (jU L) λS=>cond (!S) (some ([],false)) (B_ (no ay 1 1000) λaa=>cond (!aa) (some ([],false)) (B_ (aW (IU L ay) ([],0)) λaO=>B_ (jU aO) λbi=>cond (!bi) (some ([],false)) (some (aO,true))))
def afc:a4:=⟨217,[cu,eK],[cw 65,ch],λx=>Ou x.1 x.2⟩
def arw{ag:Prop}:bl ag afc:=bp [ls,q1,D6] [cF 5 [(6,cw 65),(7,a0)] 0 [(6,cw 65)]] [] ⟨lZ,r4,IG,trivial⟩
def Bt(L:ao×ao)(ay:ByteArray)(dt:Int):Option (ao×Bool×Bool):=cond (ay.toList==(⟨#[101,120,97,109,112,108,101]⟩:ByteArray).toList) (B_ (Bb dt) λS=>B_ (yp S) λaa=>some (aa.1,(aa.2,true))) (cond (ay.toList==(⟨#[100,105,108,97,116,101]⟩:ByteArray).toList) (B_ (Ou L.1 dt) λaj=>some (aj.1,(aj.2,true))) (cond (ay.toList==(⟨#[115,104,101,97,114]⟩:ByteArray).toList) (B_ (Ek ([[1,dt],[0,1]],[0,0]) L.1) λap=>some (ap.1,(ap.2,true))) (some ([],(false,false)))))
def afd:a4:=⟨158,[.d false (.prod fi fi),jF,eK],[.a [.o true 65 bG,.d false .bool,.d false .bool]],λx=>Bt x.1 x.2.1 x.2.2⟩
def arx{ag:Prop}:bl ag afd:=bp [V2,NY,afc,Wt] [] [] ⟨aew,Wa,arw,afb,trivial⟩
def n9(L:ao×ao)(ay:List ByteArray):Option (ao×Bool×Bool):=cond (d_ ((ay.length:Int)>1)) (B_ (idx ay 0) λS=>cond (S.toList==(⟨#[112,111,108,121]⟩:ByteArray).toList) (B_ (e9 ay 1 (ay.length:Int)) λaa=>B_ (tt aa ⟨#[32]⟩) λaj=>B_ (yp aj) λap=>some (ap.1,(ap.2,true))) (cond ((ay.length:Int)==1) (B_ (idx ay 0) λv5=>B_ (Bs (L.1,L.2) v5) λaN=>some (aN.1,(aN.2.1,aN.2.2))) (cond ((ay.length:Int)!=2) (some ([],(false,false))) (B_ (idx ay 0) λaO=>cond (aO.toList==(⟨#[109,111,118,101]⟩:ByteArray).toList) (B_ (idx ay 1) λbi=>B_ (r8 bi) λbf=>cond (!bf.2) (some ([],(false,false))) (B_ (Ek ([[1,0],[0,1]],bf.1) L.1) λbF=>some (bF.1,(bF.2,true)))) (B_ (idx ay 1) λbC=>B_ (ts bC) λbK=>cond (!bK.2) (some ([],(false,false))) (B_ (idx ay 0) λc3=>B_ (Bt (L.1,L.2) c3 bK.1) λdQ=>some (dQ.1,(dQ.2.1,dQ.2.2)))))))) (cond ((ay.length:Int)==1) (B_ (idx ay 0) λdK=>B_ (Bs (L.1,L.2) dK) λdz=>some (dz.1,(dz.2.1,dz.2.2))) (cond ((ay.length:Int)!=2) (some ([],(false,false))) (B_ (idx ay 0) λdO=>cond (dO.toList==(⟨#[109,111,118,101]⟩:ByteArray).toList) (B_ (idx ay 1) λeU=>B_ (r8 eU) λeM=>cond (!eM.2) (some ([],(false,false))) (B_ (Ek ([[1,0],[0,1]],eM.1) L.1) λdP=>some (dP.1,(dP.2,true)))) (B_ (idx ay 1) λdR=>B_ (ts dR) λg0=>cond (!g0.2) (some ([],(false,false))) (B_ (idx ay 0) λhk=>B_ (Bt (L.1,L.2) hk g0.1) λhl=>some (hl.1,(hl.2.1,hl.2.2)))))))
def afe:a4:=⟨73,[.d false (.prod fi fi),.d false (.list .str)],[.a [.d false fi,.d false .bool,.d false .bool]],λx=>n9 x.1 x.2⟩
def ary{ag:Prop}:bl ag afe:=bp [D4,NY,ae5,DY,Wt,DX,afd] [] [cv 5 0,cv 17 0] ⟨IE,Wa,arr,Ip,afb,In,arx,trivial⟩
def ns(L:ao):Option Int:=B_ (jU L) λS=>cond (!S) (some (-1)) (B_ (n8 L) λaa=>some aa)
def Wu:a4:=⟨16,[cu],[a0],λx=>ns x⟩
def aff{ag:Prop}:bl ag Wu:=bp [ls,Br] [] [] ⟨lZ,Eg,trivial⟩
def yx(L:ao)(ay:Int):Option Int:=B_ (jU L) λS=>cond (!S) (some (-1)) (B_ (no ay (-1000) 1000) λaa=>cond (!aa) (some (-1)) (B_ (yw L) λaj=>B_ (n8 L) λap=>B_ (gk .i64 (W_ i64 (W_ i64 (2+W_ i64 (aj*ay))+W_ i64 (W_ i64 (ap*ay)*ay))) 2) λv5=>some v5))
def Ov:a4:=⟨229,[cu,eK],[a0],λx=>yx x.1 x.2⟩
def Wv{ag:Prop}:bl ag Ov:=bp [ls,q1,IQ,Br] [] [] ⟨lZ,r4,Of,Eg,trivial⟩
def Ow(L:ao):Option (List Int):=B_ (jU L) λS=>cond (!S) (some []) (B_ (yx L 1) λaa=>B_ (Eh L) λaj=>some [1,W_ i64 (aa-3),aj])
def afg:a4:=⟨273,[cu],[cW 3],λx=>Ow x⟩
def arz{ag:Prop}:bl ag afg:=bp [ls,Ov,Og] [] [] ⟨lZ,Wv,Wm,trivial⟩
def IV(dt:Int)(S:ao×Int)(aa:ao×Int)(aj:ao×Int):Option (ao×Int⊕ao):=cond (d_ (aj.2<=dt)) (B_ (idx S.1 aa.2) λap=>B_ (bN 8 [] ap) λv5=>B_ (bN 8 v5 [aj.2]) λaN=>B_ (bN 24 aj.1 [aN]) λaO=>some (.inl (aO,W_ i64 (aj.2+1)))) (some (.inr aj.1))
def IW(ay:Int)(dt:Int)(S:ao×Int)(aa:ao×Int):Option (ao×Int⊕ao):=cond (d_ (aa.2<(S.1.length:Int))) (B_ (aW (IV dt S aa) (aa.1,ay)) λbi=>some (.inl (bi,W_ i64 (aa.2+1)))) (some (.inr aa.1))
def Ox(L:Int)(ay:Int)(dt:Int)(S:ao×Int):Option (ao×Int⊕ao):=cond (d_ (S.2<L)) (B_ (aW (IW ay dt S) ([],0)) λbf=>some (.inl (bf,W_ i64 (S.2+1)))) (some (.inr S.1))
def IX(L:Int)(ay:Int)(dt:Int):Option ao:=B_ (aW (Ox L ay dt) ([[]],0)) λbF=>some bF
def Ww:a4:=⟨326,[eK,eK,eK],[cw 65],λx=>IX x.1 x.2.1 x.2.2⟩
def afh{ag:Prop}:bl ag Ww:=bp [] [cF 3 [(7,cw 65),(8,a0)] 0 [(7,cw 65)],cF 7 [(9,cw 65),(10,a0)] 2 [(9,cw 65)],cF 10 [(9,cw 65),(11,a0)] 4 [(9,cw 65)]] [] trivial
def IY(L:Int)(ay:Int):Option Int:=cond (d_ (L<ay)) (some L) (some ay)
def Wx:a4:=⟨331,[eK,eK],[a0],λx=>IY x.1 x.2⟩
def afi{ag:Prop}:bl ag Wx:=bp [] [] [] trivial
def Oy(L:ao)(ay:List Int)(aj:Int×Int×Int):Option (Int×Int×Int⊕Int×Int):=cond (d_ (aj.2.2<(L.length:Int))) (B_ (idx L aj.2.2) λap=>B_ (nr ay ap) λv5=>B_ (sc aj.1 v5) λaN=>B_ (IY aj.2.1 v5) λaO=>some (.inl (aN,(aO,W_ i64 (aj.2.2+1))))) (some (.inr (aj.1,aj.2.1)))
def El(L:ao)(ay:List Int):Option (Int×Int):=B_ (idx L 0) λS=>B_ (nr ay S) λaa=>B_ (aW (Oy L ay) (aa,(aa,1))) λbi=>some (bi.1,bi.2)
def Wy:a4:=⟨286,[cu,dE],[a0,a0],λx=>El x.1 x.2⟩
def afj{ag:Prop}:bl ag Wy:=bp [Ed,II,Wx] [cF 4 [(6,a0),(7,a0),(8,a0)] 0 [(6,a0),(7,a0)]] [] ⟨IK,N5,afi,trivial⟩
def IZ(L:ao)(S:ao)(aa:Int×ao×Int):Option (Int×ao×Int⊕Int×ao):=cond (d_ (aa.2.2<(S.length:Int))) (B_ (idx S aa.2.2) λaj=>B_ (idx aj 0) λap=>cond (d_ (ap<0)) (some (.inl (aa.1,(aa.2.1,W_ i64 (aa.2.2+1))))) (B_ (idx aj 0) λv5=>cond (v5==0) (B_ (idx aj 1) λaN=>cond (d_ (aN<=0)) (some (.inl (aa.1,(aa.2.1,W_ i64 (aa.2.2+1))))) (B_ (El L aj) λaO=>cond (d_ (aa.1<0)) (cond (W_ i64 (aO.1-aO.2)==W_ i64 (aO.1-aO.2)) (B_ (bN 24 [] [aj]) λbi=>some (.inl (W_ i64 (aO.1-aO.2),(bi,W_ i64 (aa.2.2+1))))) (some (.inl (W_ i64 (aO.1-aO.2),([],W_ i64 (aa.2.2+1)))))) (cond (d_ (W_ i64 (aO.1-aO.2)<aa.1)) (cond (W_ i64 (aO.1-aO.2)==W_ i64 (aO.1-aO.2)) (B_ (bN 24 [] [aj]) λbf=>some (.inl (W_ i64 (aO.1-aO.2),(bf,W_ i64 (aa.2.2+1))))) (some (.inl (W_ i64 (aO.1-aO.2),([],W_ i64 (aa.2.2+1)))))) (cond (W_ i64 (aO.1-aO.2)==aa.1) (B_ (bN 24 aa.2.1 [aj]) λbF=>some (.inl (aa.1,(bF,W_ i64 (aa.2.2+1))))) (some (.inl (aa.1,(aa.2.1,W_ i64 (aa.2.2+1))))))))) (B_ (El L aj) λbC=>cond (d_ (aa.1<0)) (cond (W_ i64 (bC.1-bC.2)==W_ i64 (bC.1-bC.2)) (B_ (bN 24 [] [aj]) λbK=>some (.inl (W_ i64 (bC.1-bC.2),(bK,W_ i64 (aa.2.2+1))))) (some (.inl (W_ i64 (bC.1-bC.2),([],W_ i64 (aa.2.2+1)))))) (cond (d_ (W_ i64 (bC.1-bC.2)<aa.1)) (cond (W_ i64 (bC.1-bC.2)==W_ i64 (bC.1-bC.2)) (B_ (bN 24 [] [aj]) λc3=>some (.inl (W_ i64 (bC.1-bC.2),(c3,W_ i64 (aa.2.2+1))))) (some (.inl (W_ i64 (bC.1-bC.2),([],W_ i64 (aa.2.2+1)))))) (cond (W_ i64 (bC.1-bC.2)==aa.1) (B_ (bN 24 aa.2.1 [aj]) λdQ=>some (.inl (aa.1,(dQ,W_ i64 (aa.2.2+1))))) (some (.inl (aa.1,(aa.2.1,W_ i64 (aa.2.2+1)))))))))) (some (.inr (aa.1,aa.2.1)))
def I0(L:ao):Option (Int×ao):=B_ (IX 2 (-12) 12) λS=>B_ (aW (IZ L S) (-1,([],0))) λdK=>some (dK.1,dK.2)
def Wz:a4:=⟨277,[cu],[a0,.l (.o false 65 bG)],λx=>I0 x⟩
def afk{ag:Prop}:bl ag Wz:=bp [Ww,Wy] [cF 5 [(4,a0),(5,.l (.o false 65 bG)),(7,a0)] 0 [(4,a0),(5,.l (.o false 65 bG))]] [] ⟨afh,afj,trivial⟩
def I1(L:ao):Option Int:=B_ (jU L) λS=>cond (!S) (some (-1)) (B_ (I0 L) λaa=>some aa.1)
def WA:a4:=⟨221,[cu],[a0],λx=>I1 x⟩
def afl{ag:Prop}:bl ag WA:=bp [ls,Wz] [] [] ⟨lZ,afk,trivial⟩
def I2(L:List Int):Option Bool:=cond ((L.length:Int)==2) (B_ (p8 L 30) λS=>cond S (B_ (wn L) λaa=>some (aa==1)) (some false)) (some false)
def afm:a4:=⟨289,[dE],[ch],λx=>I2 x⟩
def arA{ag:Prop}:bl ag afm:=bp [yk,D9] [] [] ⟨Bc,IJ,trivial⟩
def wu(L:List Int×List Int):Option Bool:=B_ (I2 L.1) λS=>cond S (B_ (I2 L.2) λaa=>cond aa (B_ (nq L.1 L.2) λaj=>some (d_ (aj>0))) (some false)) (some false)
def I3:a4:=⟨234,[.d false (.prod bG bG)],[ch],λx=>wu x⟩
def Oz{ag:Prop}:bl ag I3:=bp [afm,wl] [] [] ⟨arA,ym,trivial⟩
def Bu(L:ao)(ay:Int):Option ((List Int×List Int)×Bool):=B_ (jU L) λS=>cond (!S) (some (([],[]),false)) (B_ (no ay 0 (W_ i64 ((L.length:Int)-1))) λaa=>cond (!aa) (some (([],[]),false)) (B_ (gi .i64 (W_ i64 (ay+1)) (L.length:Int)) λaj=>B_ (idx L aj) λap=>B_ (idx L ay) λv5=>B_ (mx ap v5) λaN=>B_ (Ea aN) λaO=>B_ (gi .i64 (W_ i64 (W_ i64 (ay+(L.length:Int))-1)) (L.length:Int)) λbi=>B_ (idx L bi) λbf=>B_ (idx L ay) λbF=>B_ (mx bf bF) λbC=>B_ (Ea bC) λbK=>B_ (wu (aO,bK)) λc3=>cond (!c3) (some (([],[]),false)) (some ((aO,bK),true))))
def WB:a4:=⟨279,[cu,eK],[.a [.o true 3 bH,.o true 3 bH],ch],λx=>Bu x.1 x.2⟩
def afn{ag:Prop}:bl ag WB:=bp [ls,q1,Bf,Wg,I3] [] [cv 4 0] ⟨lZ,r4,D0,aeS,Oz,trivial⟩
def wv(L:List Int×List Int):Option Int:=B_ (wu (L.1,L.2)) λS=>cond (!S) (some 0) (B_ (nq L.1 L.2) λaa=>some aa)
def WC:a4:=⟨280,[.d false (.prod bG bG)],[a0],λx=>wv x⟩
def afo{ag:Prop}:bl ag WC:=bp [I3,wl] [] [] ⟨Oz,ym,trivial⟩
def Bv(L:Bool):Option Int:=cond L (some 1) (some 0)
def OA:a4:=⟨291,[ard],[a0],λx=>Bv x⟩
def WD{ag:Prop}:bl ag OA:=bp [] [] [] trivial
def Bw(L:ao)(S:Int×Int):Option (Int×Int⊕Int⊕Int):=cond (d_ (S.2<(L.length:Int))) (B_ (Bu L S.2) λaa=>cond (!aa.2) (some (.inr (.inr (-1)))) (B_ (wv (aa.1.1,aa.1.2)) λaj=>B_ (Bv (aj==1)) λap=>some (.inl (W_ i64 (S.1+ap),W_ i64 (S.2+1))))) (some (.inr (.inl S.1)))
def I4(L:ao):Option Int:=B_ (aW (Bw L) (0,0)) λv5=>match v5 with|.inl aN=>cond ((L.length:Int)==0) (some (-1)) (some aN)|.inr aO=>some aO
def afp:a4:=⟨274,[cu],[a0],λx=>I4 x⟩
def arB{ag:Prop}:bl ag afp:=bp [WB,WC,OA] [⟨3,[(3,a0),(4,a0)],some (0,[(3,a0)]),some [(2,a0)],false,none⟩] [] ⟨afn,afo,WD,trivial⟩
def OB(L:ao)(S:ao×Bool)(ap:List Int)(v5:Int):Option (Int⊕Unit⊕Bool):=cond (d_ (v5<(L.length:Int))) (B_ (idx S.1 v5) λaN=>B_ (uN aN ap) λaO=>B_ (idx L v5) λbi=>B_ (uL aO bi) λbf=>cond (!bf) (some (.inr (.inr false))) (some (.inl (W_ i64 (v5+1))))) (some (.inr (.inl ())))
def Em(L:ao):Option Bool:=B_ (IH L) λS=>cond (!S.2) (some false) (B_ (idx L 0) λaa=>B_ (bI S.1.length 0) λ_=>B_ (idx S.1 (((0:Int).toNat:Nat):Int)) λaj=>B_ (mx aa aj) λap=>B_ (aW (OB L S ap) 0) λbF=>match bF with|.inl bC=>some true|.inr bK=>some bK)
def afq:a4:=⟨275,[cu],[ch],λx=>Em x⟩
def arC{ag:Prop}:bl ag afq:=bp [Wd,Bf,IM,DZ] [⟨6,[(6,a0)],some (0,[]),some [(2,ch)],false,none⟩] [cv 4 0,cv 8 0] ⟨aeP,D0,Ob,Is,trivial⟩
def OC(L:ao):Option ByteArray:=B_ (jU L) λS=>cond (!S) (some ⟨#[]⟩) (B_ (ns L) λaa=>B_ (jf aa) λaj=>B_ (fG ⟨#[97,114,101,97,32]⟩ aj) λap=>B_ (fG ap ⟨#[32,98,111,117,110,100,97,114,121,32]⟩) λv5=>B_ (yw L) λaN=>B_ (jf aN) λaO=>B_ (fG v5 aO) λbi=>B_ (fG bi ⟨#[32,105,110,110,101,114,32]⟩) λbf=>B_ (Eh L) λbF=>B_ (jf bF) λbC=>B_ (fG bf bC) λbK=>B_ (fG bK ⟨#[32,112,111,105,110,116,115,32]⟩) λc3=>B_ (yx L 1) λdQ=>B_ (jf dQ) λdK=>B_ (fG c3 dK) λdz=>B_ (fG dz ⟨#[32,116,111,112,32]⟩) λdO=>B_ (Ow L) λeU=>B_ (tu eU) λeM=>B_ (fG dO eM) λdP=>B_ (fG dP ⟨#[32,119,105,100,116,104,32]⟩) λdR=>B_ (I1 L) λg0=>B_ (jf g0) λhk=>B_ (fG dR hk) λhl=>B_ (fG hl ⟨#[32,115,109,111,111,116,104,32]⟩) λiN=>B_ (I4 L) λkv=>B_ (jf kv) λkd=>B_ (fG iN kd) λhm=>B_ (IR L) λjq=>cond jq (B_ (fG hm ⟨#[32,114,101,102,108,101,120,105,118,101]⟩) λjV=>B_ (Em L) λjH=>cond jH (B_ (fG jV ⟨#[32,115,121,109,109,101,116,114,105,99]⟩) λtv=>some tv) (some jV)) (B_ (fG hm ⟨#[32,111,116,104,101,114]⟩) λuR=>B_ (Em L) λuS=>cond uS (B_ (fG uR ⟨#[32,115,121,109,109,101,116,114,105,99]⟩) λnt=>some nt) (some uR)))
def afr:a4:=⟨219,[cu],[gZ],λx=>OC x⟩
def arD{ag:Prop}:bl ag afr:=bp [ls,Wu,uJ,IQ,Og,Ov,afg,Bl,WA,afp,Wo,afq] [] [] ⟨lZ,aff,wk,Of,Wm,Wv,arz,D5,afl,arB,ae1,arC,trivial⟩
def OD(L:ao)(aO:ao×Int×Int×Int×Int):Option (ao×Int×Int×Int×Int⊕ao×Int×Int×Int):=cond (d_ (aO.2.2.2.2<(L.length:Int))) (B_ (idx L aO.2.2.2.2) λbi=>B_ (idx bi 1) λbf=>B_ (IY aO.2.1 bf) λbF=>B_ (idx L aO.2.2.2.2) λbC=>B_ (idx bC 1) λbK=>B_ (sc aO.2.2.1 bK) λc3=>B_ (idx L aO.2.2.2.2) λdQ=>B_ (idx dQ 0) λdK=>B_ (sc aO.2.2.2.1 dK) λdz=>some (.inl (aO.1,(bF,(c3,(dz,W_ i64 (aO.2.2.2.2+1))))))) (some (.inr (aO.1,(aO.2.1,(aO.2.2.1,aO.2.2.2.1)))))
def I5(L:ao)(dO:ao×Int×Int×Int)(dP:ao×Int)(dR:ao×Int):Option (ao×Int⊕ao):=cond (d_ (dR.2<=dO.2.2.1)) (B_ (uP L [dP.2,dR.2]) λg0=>cond (d_ (g0>=0)) (B_ (bN 24 dR.1 [[dP.2,dR.2]]) λhk=>some (.inl (hk,W_ i64 (dR.2+1)))) (some (.inl (dR.1,W_ i64 (dR.2+1))))) (some (.inr dR.1))
def OE(L:ao)(dO:ao×Int×Int×Int)(dP:ao×Int):Option (ao×Int⊕ao):=cond (d_ (dP.2<=dO.2.2.2)) (B_ (aW (I5 L dO dP) (dP.1,dO.2.1)) λhl=>some (.inl (hl,W_ i64 (dP.2+1)))) (some (.inr dP.1))
def Bx(L:ao):Option ao:=B_ (idx L 0) λS=>B_ (idx S 1) λaa=>B_ (idx L 0) λaj=>B_ (idx aj 1) λap=>B_ (idx L 0) λv5=>B_ (idx v5 0) λaN=>B_ (aW (OD L) ([],(aa,(ap,(aN,0))))) λdO=>B_ (idx L 0) λeU=>B_ (idx eU 0) λeM=>B_ (aW (OE L dO) (dO.1,eM)) λiN=>some iN
def WE:a4:=⟨287,[cu],[cw 65],λx=>Bx x⟩
def afs{ag:Prop}:bl ag WE:=bp [Wx,II,Oh] [cF 6 [(3,cw 65),(4,a0),(5,a0),(6,a0),(7,a0)] 0 [(3,cw 65),(4,a0),(5,a0),(6,a0)],cF 12 [(3,cw 65),(8,a0)] 2 [(3,cw 65)],cF 15 [(3,cw 65),(9,a0)] 4 [(3,cw 65)]] [] ⟨afi,N5,Wn,trivial⟩
def OF(L:ao)(bi:ao)(bf:Int):Option (Int⊕Unit⊕List Int×Bool):=cond (d_ (bf<(bi.length:Int))) (B_ (idx bi bf) λbF=>B_ (idx L 0) λbC=>B_ (uL bF bC) λbK=>cond (!bK) (B_ (idx bi bf) λc3=>B_ (idx L 1) λdQ=>B_ (uL c3 dQ) λdK=>cond (!dK) (B_ (idx bi bf) λdz=>B_ (idx L 2) λdO=>B_ (uL dz dO) λeU=>cond (!eU) (B_ (idx bi bf) λeM=>some (.inr (.inr (eM,true)))) (some (.inl (W_ i64 (bf+1))))) (some (.inl (W_ i64 (bf+1))))) (some (.inl (W_ i64 (bf+1))))) (some (.inr (.inl ())))
def OG(L:ao):Option (List Int×Bool):=B_ (idx L 0) λS=>B_ (yl [] S) λaa=>B_ (idx L 1) λaj=>B_ (yl aa aj) λap=>B_ (idx L 2) λv5=>B_ (yl ap v5) λaN=>B_ (Iw aN) λaO=>B_ (Bx aO) λbi=>B_ (aW (OF L bi) 0) λdP=>match dP with|.inl dR=>some ([],false)|.inr g0=>some (g0.1,g0.2)
def aft:a4:=⟨350,[cu],[wh,ch],λx=>OG x⟩
def arE{ag:Prop}:bl ag aft:=bp [V6,V8,WE,DZ] [⟨5,[(7,a0)],some (0,[]),some [(2,wh),(3,ch)],false,none⟩] [cv 1 0,cv 7 0] ⟨aeG,aeH,afs,Is,trivial⟩
def OK(L:ao):Option Int:=B_ (idx L 0) λS=>B_ (idx L 1) λaa=>B_ (idx L 2) λaj=>B_ (Bg S aa aj) λap=>some ap
def afu:a4:=⟨351,[cu],[a0],λx=>OK x⟩
def arF{ag:Prop}:bl ag afu:=bp [NV] [] [cv 1 0] ⟨V7,trivial⟩
def OL(rec:ao->List ao->Option (List ao))(L:ao)(S:List Int×Bool)(ap:List ao×Int):Option (List ao×Int⊕List ao):=cond (d_ (ap.2<3)) (B_ (idx L ap.2) λv5=>B_ (gi .i64 (W_ i64 (ap.2+1)) 3) λaN=>B_ (idx L aN) λaO=>B_ (OK [S.1,v5,aO]) λbi=>cond (bi !=0) (B_ (rec [S.1,v5,aO] ap.1) λbf=>some (.inl (bf,W_ i64 (ap.2+1)))) (some (.inl (ap.1,W_ i64 (ap.2+1))))) (some (.inr ap.1))
def I6(rec:ao->List ao->Option (List ao))(L:ao)(ay:List ao):Option (List ao):=B_ (OG L) λS=>cond (!S.2) (B_ (n7 L) λaa=>B_ (bN 24 ay [aa]) λaj=>some aj) (B_ (aW (OL rec L S) (ay,0)) λbF=>some bF)
def ww:Nat->ao->List ao->Option (List ao)|0=>λ_ _=>none|n+1=>I6 (ww n)
def WF(L:ao)(ay:List ao):Option (List ao):=ww 30000 L ay
def WG:a4:=⟨325,[cu,.mv true 24 fi],[.l (.o true 24 fi)],λx=>WF x.1 x.2⟩
def tw(rec:ao->List ao->Option (List ao)):a4:=⟨325,[.d false fi,.mv true 24 fi],[.l (.o true 24 fi)],λx=>rec x.1 x.2⟩
def afv(rec:ao->List ao->Option (List ao)):dp:=⟨Tryz.prog,oO,[aft,D1,afu,tw rec],[cF 5 [(1,.l (.o true 24 fi)),(7,a0)] 0 [(1,.l (.o true 24 fi))]],[cv 7 0],[],[],[]⟩
def arG(rec:ao->List ao->Option (List ao))(x:jh.den (tw rec).ps):xq (afv rec) Tryz.f325 (tw rec).ps (tw rec).rs x=(tw (I6 rec)).F x:=by kernel_rfl
def arH{ag:Prop}(rec:ao->List ao->Option (List ao))(c:fb Tryz.prog (tw rec).f/\gt ag Tryz.prog (tw rec)):fb Tryz.prog (tw (I6 rec)).f/\gt ag Tryz.prog (tw (I6 rec)):=HQ (N:=afv rec) px ⟨arE,Ix,arF,c,trivial⟩ func325 (by kernel_rfl) (arG rec)
def afw{ag:Prop}:(n:Nat)->fb Tryz.prog (tw (ww n)).f/\gt ag Tryz.prog (tw (ww n))|0=>⟨⟨Tryz.f325,_,func325,by kernel_rfl,rfl⟩,λx r c=>by cases c⟩|n+1=>arH _ (afw n)
def arI{ag:Prop}:fb Tryz.prog WG.f/\gt ag Tryz.prog WG:=afw 30000
def OM(L:ao)(aj:List ao×Int):Option (List ao×Int⊕List ao):=cond (d_ (W_ i64 (aj.2+1)<(L.length:Int))) (B_ (idx L 0) λap=>B_ (idx L aj.2) λv5=>B_ (idx L (W_ i64 (aj.2+1))) λaN=>B_ (WF [ap,v5,aN] aj.1) λaO=>some (.inl (aO,W_ i64 (aj.2+1)))) (some (.inr aj.1))
def OO(L:ao):Option (List ao):=B_ (jU L) λS=>cond (!S) (some []) (B_ (n8 L) λaa=>cond (d_ (aa>200)) (some []) (B_ (aW (OM L) ([],1)) λbi=>some bi))
def afx:a4:=⟨276,[cu],[.l (.o true 24 fi)],λx=>OO x⟩
def arJ{ag:Prop}:bl ag afx:=bp [ls,Br,WG] [cF 5 [(3,.l (.o true 24 fi)),(4,a0)] 0 [(3,.l (.o true 24 fi))]] [cv 7 0] ⟨lZ,Eg,arI,trivial⟩
def OP(L:ao):Option Int:=B_ (OO L) λS=>cond ((S.length:Int)==0) (some (-1)) (some (S.length:Int))
def afy:a4:=⟨220,[cu],[a0],λx=>OP x⟩
def arK{ag:Prop}:bl ag afy:=bp [afx] [] [] ⟨arJ,trivial⟩
def I7(L:ao):Option ao:=B_ (jU L) λS=>cond (!S) (some []) (B_ (I0 L) λaa=>some aa.2)
def afz:a4:=⟨223,[cu],[.l (.o false 65 bG)],λx=>I7 x⟩
def arL{ag:Prop}:bl ag afz:=bp [ls,Wz] [] [] ⟨lZ,afk,trivial⟩
def OQ(L:List Int):Option ByteArray:=B_ (Bd L) λS=>cond (!S) (some ⟨#[]⟩) (B_ (tu L) λaa=>some aa)
def afA:a4:=⟨278,[dE],[gZ],λx=>OQ x⟩
def arM{ag:Prop}:bl ag afA:=bp [Io,Bl] [] [] ⟨NR,D5,trivial⟩
def I8(L:ao)(S:List ByteArray×Int):Option (List ByteArray×Int⊕List ByteArray):=cond (d_ (S.2<(L.length:Int))) (B_ (idx L S.2) λaa=>B_ (OQ aa) λaj=>B_ (bN 16 S.1 [aj]) λap=>some (.inl (ap,W_ i64 (S.2+1)))) (some (.inr S.1))
def By(L:ao):Option ByteArray:=B_ (aW (I8 L) ([],0)) λv5=>cond ((v5.length:Int)==0) (some ⟨#[45]⟩) (B_ (tt v5 ⟨#[32]⟩) λaN=>some aN)
def WI:a4:=⟨222,[cu],[gZ],λx=>By x⟩
def afB{ag:Prop}:bl ag WI:=bp [afA,D4] [cF 3 [(3,lY 9),(4,a0)] 0 [(3,lY 9)]] [] ⟨arM,IE,trivial⟩
def Bz(L:List Int)(ay:ByteArray):Option ByteArray:=cond ((L.length:Int)==0) (some ay) (B_ (tu L) λS=>some S)
def OR:a4:=⟨231,[dE,jF],[gZ],λx=>Bz x.1 x.2⟩
def WK{ag:Prop}:bl ag OR:=bp [Bl] [] [] ⟨D5,trivial⟩
def BA(L:ao)(S:List Int×Int):Option (List Int×Int⊕List Int⊕ByteArray):=cond (d_ (S.2<(L.length:Int))) (B_ (Bu L S.2) λaa=>cond (!aa.2) (some (.inr (.inr ⟨#[110,111]⟩))) (B_ (wv (aa.1.1,aa.1.2)) λaj=>B_ (bN 8 S.1 [aj]) λap=>some (.inl (ap,W_ i64 (S.2+1))))) (some (.inr (.inl S.1)))
def OS(L:ao):Option ByteArray:=B_ (aW (BA L) ([],0)) λv5=>match v5 with|.inl aN=>B_ (Bz aN ⟨#[110,111]⟩) λbi=>some bi|.inr aO=>some aO
def afC:a4:=⟨224,[cu],[gZ],λx=>OS x⟩
def arN{ag:Prop}:bl ag afC:=bp [WB,WC,OR] [⟨3,[(3,cW 3),(4,a0)],some (0,[(3,cW 3)]),some [(2,gZ)],false,none⟩] [] ⟨afn,afo,WK,trivial⟩
def I9(L:ao)(ay:ao):Option Int:=B_ (IT L ay) λS=>cond (!S.2) (some (-1)) (B_ (n8 S.1) λaa=>B_ (n8 L) λaj=>B_ (n8 ay) λap=>some (W_ i64 (W_ i64 (aa-aj)-ap)))
def afD:a4:=⟨225,[cu,cu],[a0],λx=>I9 x.1 x.2⟩
def arO{ag:Prop}:bl ag afD:=bp [Wq,Br] [] [] ⟨ae4,Eg,trivial⟩
def OT(L:ao)(ay:ao):Option Bool:=B_ (wq L) λS=>B_ (wq ay) λaa=>cond S.2 (cond aa.2 (B_ (Bk S.1 aa.1) λaj=>some aj) (some false)) (some false)
def afE:a4:=⟨226,[cu,cu],[ch],λx=>OT x.1 x.2⟩
def arP{ag:Prop}:bl ag afE:=bp [Oc,NX] [] [] ⟨Wl,V9,trivial⟩
def Ja(L:ao):Option Int:=B_ (Ei L) λS=>cond (!S.2) (some (-1)) (B_ (yw L) λaa=>B_ (yw S.1) λaj=>some (W_ i64 (aa+aj)))
def afF:a4:=⟨227,[cu],[a0],λx=>Ja x⟩
def arQ{ag:Prop}:bl ag afF:=bp [Wp,IQ] [] [] ⟨ae3,Of,trivial⟩
def WL(L:ao×ao)(ay:ByteArray):Option ByteArray:=cond (ay.toList==(⟨#[115,104,111,119]⟩:ByteArray).toList) (B_ (yr L.1) λS=>some S) (cond (ay.toList==(⟨#[100,101,115,99,114,105,98,101]⟩:ByteArray).toList) (B_ (OC L.1) λaa=>some aa) (cond (ay.toList==(⟨#[101,109,112,116,121]⟩:ByteArray).toList) (B_ (OP L.1) λaj=>B_ (jf aj) λap=>some ap) (cond (ay.toList==(⟨#[119,105,100,116,104]⟩:ByteArray).toList) (B_ (I1 L.1) λv5=>B_ (jf v5) λaN=>some aN) (cond (ay.toList==(⟨#[100,105,114,101,99,116,105,111,110,115]⟩:ByteArray).toList) (B_ (I7 L.1) λaO=>B_ (By aO) λbi=>some bi) (cond (ay.toList==(⟨#[99,111,114,110,101,114,115]⟩:ByteArray).toList) (B_ (OS L.1) λbf=>some bf) (cond (ay.toList==(⟨#[109,105,120,101,100]⟩:ByteArray).toList) (B_ (I9 L.1 L.2) λbF=>B_ (jf bF) λbC=>some bC) (cond (ay.toList==(⟨#[115,97,109,101]⟩:ByteArray).toList) (B_ (OT L.1 L.2) λbK=>cond bK (some ⟨#[121,101,115]⟩) (some ⟨#[110,111]⟩)) (cond (ay.toList==(⟨#[116,119,101,108,118,101]⟩:ByteArray).toList) (B_ (Ja L.1) λc3=>B_ (jf c3) λdQ=>some dQ) (some ⟨#[119,104,97,116]⟩)))))))))
def afG:a4:=⟨160,[.d false (.prod fi fi),jF],[gZ],λx=>WL x.1 x.2⟩
def arR{ag:Prop}:bl ag afG:=bp [N2,afr,afy,uJ,WA,afz,WI,afC,afD,afE,afF] [] [] ⟨Wb,arD,arK,wk,afl,arL,afB,arN,arO,arP,arQ,trivial⟩
def OU(L:Int)(ay:List Int×Int):Option Bool:=B_ (no L 1 3) λS=>cond S (cond ((ay.1.length:Int)==L) (B_ (p8 ay.1 20) λaa=>cond aa (B_ (wn ay.1) λaj=>cond (d_ (aj>0)) (B_ (no ay.2 (-200) 200) λap=>some ap) (some false)) (some false)) (some false)) (some false)
def afH:a4:=⟨352,[eK,.d false (.prod bG bH)],[ch],λx=>OU x.1 x.2⟩
def arS{ag:Prop}:bl ag afH:=bp [q1,yk,D9] [] [] ⟨r4,Bc,IJ,trivial⟩
def OV(L:Int×List (List Int×Int))(S:Int):Option (Int⊕Unit⊕Bool):=cond (d_ (S<(L.2.length:Int))) (B_ (idx L.2 S) λaa=>B_ (OU L.1 aa) λaj=>cond (!aj) (some (.inr (.inr false))) (some (.inl (W_ i64 (S+1))))) (some (.inr (.inl ())))
def uT(L:Int×List (List Int×Int)):Option Bool:=B_ (aW (OV L) 0) λap=>match ap with|.inl v5=>B_ (no L.1 1 3) λaO=>cond aO (some (d_ ((L.2.length:Int)<=8))) (some false)|.inr aN=>some aN
def BB:a4:=⟨327,[.d false (.prod bH (.list (.prod bG bH)))],[ch],λx=>uT x⟩
def En{ag:Prop}:bl ag BB:=bp [afH,q1] [⟨2,[(3,a0)],some (0,[]),some [(2,ch)],false,none⟩] [cv 4 0] ⟨arS,r4,trivial⟩
def OW(L:Int×List (List Int×Int))(aj:ByteArray×Int):Option (ByteArray×Int⊕ByteArray):=cond (d_ (aj.2<(L.2.length:Int))) (B_ (fG aj.1 ⟨#[59]⟩) λap=>B_ (idx L.2 aj.2) λv5=>B_ (tu v5.1) λaN=>B_ (fG ap aN) λaO=>B_ (fG aO ⟨#[60]⟩) λbi=>B_ (idx L.2 aj.2) λbf=>B_ (jf bf.2) λbF=>B_ (fG bi bF) λbC=>some (.inl (bC,W_ i64 (aj.2+1)))) (some (.inr aj.1))
def OX(L:Int×List (List Int×Int)):Option ByteArray:=B_ (uT (L.1,L.2)) λS=>cond (!S) (some ⟨#[]⟩) (B_ (jf L.1) λaa=>B_ (aW (OW L) (aa,0)) λbK=>some bK)
def afI:a4:=⟨328,[.d false (.prod bH (.list (.prod bG bH)))],[gZ],λx=>OX x⟩
def arT{ag:Prop}:bl ag afI:=bp [BB,uJ,Bl] [cF 5 [(3,gZ),(4,a0)] 0 [(3,gZ)]] [cv 7 0] ⟨En,wk,D5,trivial⟩
def Eo(S:List ByteArray)(ap:(Int×List (List Int×Int))×(Int×List (List Int×Int))×Int):Option ((Int×List (List Int×Int))×(Int×List (List Int×Int))×Int⊕(Int×List (List Int×Int))×Int×List (List Int×Int)⊕(Int×List (List Int×Int))×Bool):=cond (d_ (ap.2.2<(S.length:Int))) (B_ (idx S ap.2.2) λv5=>B_ (yj v5 60) λaN=>cond ((aN.length:Int)!=2) (some (.inr (.inr ((0,[]),false)))) (B_ (bI aN.length 0) λ_=>B_ (idx aN (((0:Int).toNat:Nat):Int)) λaO=>B_ (r8 aO) λbi=>B_ (bI aN.length 1) λ_=>B_ (idx aN (((1:Int).toNat:Nat):Int)) λbf=>B_ (ts bf) λbF=>cond (!bi.2) (some (.inr (.inr ((0,[]),false)))) (cond (!bF.2) (some (.inr (.inr ((0,[]),false)))) (B_ (bN 32 ap.2.1.2 [(bi.1,bF.1)]) λbC=>some (.inl ((ap.1.1,ap.1.2),((ap.2.1.1,bC),W_ i64 (ap.2.2+1)))))))) (some (.inr (.inl ((ap.1.1,ap.1.2),(ap.2.1.1,ap.2.1.2)))))
def OY(L:ByteArray):Option ((Int×List (List Int×Int))×Bool):=B_ (yj L 59) λS=>B_ (bI S.length 0) λ_=>B_ (idx S (((0:Int).toNat:Nat):Int)) λaa=>B_ (ts aa) λaj=>B_ (aW (Eo S) ((0,[]),((aj.1,[]),1))) λbK=>match bK with|.inl c3=>cond (!aj.2) (some ((0,[]),false)) (B_ (uT (c3.2.1,c3.2.2)) λdK=>cond (!dK) (some ((0,[]),false)) (B_ (OX (c3.2.1,c3.2.2)) λdz=>cond (! dz.toList==L.toList) (some ((0,[]),false)) (some ((c3.2.1,c3.2.2),true))))|.inr dQ=>some ((dQ.1.1,dQ.1.2),dQ.2)
def afJ:a4:=⟨281,[jF],[.a [.d false bH,.o true 132 (.prod bG bH)],ch],λx=>OY x⟩
def arU{ag:Prop}:bl ag afJ:=bp [Im,DX,DY,BB,afI] [⟨5,[(2,.b 79 [.d false bH,.o true 132 (.prod bG bH)]),(7,.b 79 [.d false bH,.o true 132 (.prod bG bH)]),(8,a0)],some (0,[(2,.b 79 [.d false bH,.o true 132 (.prod bG bH)]),(7,.b 79 [.d false bH,.o true 132 (.prod bG bH)])]),some [(2,.b 79 [.d false bH,.o true 132 (.prod bG bH)]),(3,ch)],false,none⟩] [] ⟨NP,In,Ip,En,arT,trivial⟩
def OZ(L:Int×List (List Int×Int))(ay:List Int)(S:Int):Option (Int⊕Unit⊕Bool):=cond (d_ (S<(L.2.length:Int))) (B_ (idx L.2 S) λaa=>B_ (nr aa.1 ay) λaj=>B_ (idx L.2 S) λap=>cond (d_ (aj>ap.2)) (some (.inr (.inr false))) (some (.inl (W_ i64 (S+1))))) (some (.inr (.inl ())))
def Jb(L:Int×List (List Int×Int))(ay:List Int):Option Bool:=B_ (aW (OZ L ay) 0) λv5=>match v5 with|.inl aN=>some true|.inr aO=>some aO
def afK:a4:=⟨353,[.d false (.prod bH (.list (.prod bG bH))),dE],[ch],λx=>Jb x.1 x.2⟩
def arV{ag:Prop}:bl ag afK:=bp [Ed] [⟨2,[(5,a0)],some (0,[]),some [(4,ch)],false,none⟩] [cv 4 0] ⟨IK,trivial⟩
def Jc(L:Int×List (List Int×Int))(aa:ao)(aj:ao×Int):Option (ao×Int⊕ao):=cond (d_ (aj.2<(aa.length:Int))) (B_ (idx aa aj.2) λap=>B_ (Jb (L.1,L.2) ap) λv5=>cond v5 (B_ (idx aa aj.2) λaN=>B_ (bN 24 aj.1 [aN]) λaO=>some (.inl (aO,W_ i64 (aj.2+1)))) (some (.inl (aj.1,W_ i64 (aj.2+1))))) (some (.inr aj.1))
def Jd(L:Int×List (List Int×Int)):Option ao:=B_ (uT (L.1,L.2)) λS=>cond (!S) (some []) (B_ (IX L.1 (-6) 6) λaa=>B_ (aW (Jc L aa) ([],0)) λbi=>some bi)
def afL:a4:=⟨329,[.d false (.prod bH (.list (.prod bG bH)))],[.l (.o false 65 bG)],λx=>Jd x⟩
def arW{ag:Prop}:bl ag afL:=bp [BB,Ww,afK] [cF 6 [(3,.l (.o false 65 bG)),(5,a0)] 0 [(3,.l (.o false 65 bG))]] [cv 8 0] ⟨En,afh,arV,trivial⟩
def O0(L:Int×List (List Int×Int)):Option Int:=B_ (uT (L.1,L.2)) λS=>cond (!S) (some (-1)) (B_ (Jd (L.1,L.2)) λaa=>some (aa.length:Int))
def afM:a4:=⟨282,[.d false (.prod bH (.list (.prod bG bH)))],[a0],λx=>O0 x⟩
def arX{ag:Prop}:bl ag afM:=bp [BB,afL] [] [] ⟨En,arW,trivial⟩
def Je(L:List (List Int×Int))(S:(List Int×Int)×ao×Int):Option ((List Int×Int)×ao×Int⊕(List Int×Int)×ao):=cond (d_ (S.2.2<(L.length:Int))) (B_ (idx L S.2.2) λaa=>B_ (bN 24 S.2.1 [aa.1]) λaj=>some (.inl ((S.1.1,S.1.2),(aj,W_ i64 (S.2.2+1))))) (some (.inr ((S.1.1,S.1.2),S.2.1)))
def Jf(L:List (List Int×Int))(ap:(List Int×Int)×ao)(aN:(List Int×Int)×List Int×Int)(aO:(List Int×Int)×List Int×ao×Int):Option ((List Int×Int)×List Int×ao×Int⊕(List Int×Int)×List Int×ao):=cond (d_ (aO.2.2.2<(ap.2.length:Int))) (B_ (idx ap.2 aO.2.2.2) λbi=>B_ (bN 8 [] bi) λbf=>B_ (idx L aO.2.2.2) λbF=>B_ (bI bf.length aN.2.2) λ_=>B_ (bI bf.length ((aN.2.2.toNat:Nat):Int)) λ_=>B_ (bN 24 aO.2.2.1 [bf.set aN.2.2.toNat bF.2]) λbC=>some (.inl ((aO.1.1,aO.1.2),(aO.2.1,(bC,W_ i64 (aO.2.2.2+1)))))) (some (.inr ((aO.1.1,aO.1.2),(aO.2.1,aO.2.2.1))))
def Jg(L:List (List Int×Int))(ap:(List Int×Int)×ao)(aN:(List Int×Int)×List Int×Int):Option ((List Int×Int)×List Int×Int⊕(List Int×Int)×List Int):=cond (d_ (aN.2.2<(ap.2.length:Int))) (B_ (aW (Jf L ap aN) ((aN.1.1,aN.1.2),(aN.2.1,([],0)))) λbK=>B_ (uQ bK.2.2) λc3=>B_ (bN 8 bK.2.1 [c3]) λdQ=>some (.inl ((bK.1.1,bK.1.2),(dQ,W_ i64 (aN.2.2+1))))) (some (.inr ((aN.1.1,aN.1.2),aN.2.1)))
def Ep(dz:List Int)(eU:Int)(dP:(List Int×Int)×(List Int×Int)×Int):Option ((List Int×Int)×(List Int×Int)×Int⊕(List Int×Int)×List Int×Int):=cond (d_ (dP.2.2<(dz.length:Int))) (B_ (idx dz dP.2.2) λdR=>B_ (gk .i64 dR eU) λg0=>B_ (bN 8 dP.2.1.1 [g0]) λhk=>some (.inl ((dP.1.1,dP.1.2),((hk,dP.2.1.2),W_ i64 (dP.2.2+1))))) (some (.inr ((dP.1.1,dP.1.2),(dP.2.1.1,dP.2.1.2))))
def afN(dK:(List Int×Int)×List Int)(kv:Int)(hm:(List Int×Int)×(List Int×Int)×Int):Option ((List Int×Int)×(List Int×Int)×Int⊕(List Int×Int)×List Int×Int):=cond (d_ (hm.2.2<(dK.2.length:Int))) (B_ (idx dK.2 hm.2.2) λjq=>B_ (gk .i64 jq kv) λjV=>B_ (bN 8 hm.2.1.1 [jV]) λjH=>some (.inl ((hm.1.1,hm.1.2),((jH,hm.2.1.2),W_ i64 (hm.2.2+1))))) (some (.inr ((hm.1.1,hm.1.2),(hm.2.1.1,hm.2.1.2))))
def O1(L:List (List Int×Int)):Option ((List Int×Int)×Bool):=B_ (aW (Je L) (([],0),([],0))) λap=>B_ (uQ ap.2) λv5=>cond (v5==0) (some (([],0),false)) (B_ (aW (Jg L ap) ((ap.1.1,ap.1.2),([],0))) λdK=>cond (d_ (v5<0)) (B_ (kw dK.2 (-1)) λdz=>B_ (wn dz) λdO=>B_ (D8 dO (W_ i64 (0-v5))) λeU=>B_ (gk .i64 (W_ i64 (0-v5)) eU) λeM=>B_ (aW (Ep dz eU) ((dK.1.1,dK.1.2),(([],eM),0))) λhl=>some ((hl.2.1,hl.2.2),true)) (B_ (wn dK.2) λiN=>B_ (D8 iN v5) λkv=>B_ (gk .i64 v5 kv) λkd=>B_ (aW (afN dK kv) ((dK.1.1,dK.1.2),(([],kd),0))) λtv=>some ((tv.2.1,tv.2.2),true)))
def afO:a4:=⟨354,[.d false (.list (.prod bG bH))],[.a [.o true 3 bH,.d false bH],ch],λx=>O1 x⟩
def arY{ag:Prop}:bl ag afO:=bp [Wr,D6,D9,Wf] [cF 3 [(2,.b 86 [.o true 3 bH,.d false bH]),(4,.l (.o false 65 bG)),(5,a0)] 0 [(2,.b 86 [.o true 3 bH,.d false bH]),(4,.l (.o false 65 bG))],cF 11 [(2,.b 86 [.o true 3 bH,.d false bH]),(7,cW 3),(8,a0)] 2 [(2,.b 86 [.o true 3 bH,.d false bH]),(7,cW 3)],cF 15 [(2,.b 86 [.o true 3 bH,.d false bH]),(7,cW 3),(9,cw 65),(10,a0)] 4 [(2,.b 86 [.o true 3 bH,.d false bH]),(7,cW 3),(9,cw 65)],cF 27 [(2,.b 86 [.o true 3 bH,.d false bH]),(13,.b 86 [.o true 3 bH,.d false bH]),(14,a0)] 6 [(2,.b 86 [.o true 3 bH,.d false bH]),(13,.b 86 [.o true 3 bH,.d false bH])]] [cv 29 0] ⟨ae7,IG,IJ,aeR,trivial⟩
def Er(L:List Int×Int):Option Bool:=B_ (no L.2 1 100000) λS=>cond S (B_ (p8 L.1 10000000) λaa=>some aa) (some false)
def WM:a4:=⟨362,[.d false (.prod bG bH)],[ch],λx=>Er x⟩
def afP{ag:Prop}:bl ag WM:=bp [q1,yk] [] [] ⟨r4,Bc,trivial⟩
def O2(L:Int×List (List Int×Int))(ay:List Int×Int)(aj:Int):Option (Int⊕Unit⊕Bool):=cond (d_ (aj<(L.2.length:Int))) (B_ (idx L.2 aj) λap=>B_ (nr ap.1 ay.1) λv5=>B_ (idx L.2 aj) λaN=>cond (d_ (v5>W_ i64 (aN.2*ay.2))) (some (.inr (.inr false))) (some (.inl (W_ i64 (aj+1))))) (some (.inr (.inl ())))
def O3(L:Int×List (List Int×Int))(ay:List Int×Int):Option Bool:=B_ (uT (L.1,L.2)) λS=>cond (!S) (some false) (B_ (Er (ay.1,ay.2)) λaa=>cond (!aa) (some false) (cond ((ay.1.length:Int)!=L.1) (some false) (B_ (aW (O2 L ay) 0) λaO=>match aO with|.inl bi=>some true|.inr bf=>some bf)))
def afQ:a4:=⟨355,[.d false (.prod bH (.list (.prod bG bH))),.d false (.prod bG bH)],[ch],λx=>O3 x.1 x.2⟩
def arZ{ag:Prop}:bl ag afQ:=bp [BB,WM,Ed] [⟨4,[(5,a0)],some (0,[]),some [(4,ch)],false,none⟩] [cv 6 0] ⟨En,afP,IK,trivial⟩
def Jh(L:List Int×Int)(ay:List Int×Int)(aj:Int):Option (Int⊕Unit⊕Int):=cond (d_ (aj<(L.1.length:Int))) (B_ (idx L.1 aj) λap=>B_ (idx ay.1 aj) λv5=>cond (W_ i64 (ap*ay.2)!=W_ i64 (v5*L.2)) (B_ (Bv (d_ (W_ i64 (ap*ay.2)<W_ i64 (v5*L.2)))) λaN=>some (.inr (.inr (W_ i64 (1-W_ i64 (2*aN)))))) (some (.inl (W_ i64 (aj+1))))) (some (.inr (.inl ())))
def Ji(L:List Int×Int)(ay:List Int×Int):Option Int:=B_ (Er (L.1,L.2)) λS=>cond (!S) (some 0) (B_ (Er (ay.1,ay.2)) λaa=>cond (!aa) (some 0) (cond ((L.1.length:Int)!=(ay.1.length:Int)) (some 0) (B_ (aW (Jh L ay) 0) λaO=>match aO with|.inl bi=>some 0|.inr bf=>some bf)))
def afR:a4:=⟨363,[.d false (.prod bG bH),.d false (.prod bG bH)],[a0],λx=>Ji x.1 x.2⟩
def ar0{ag:Prop}:bl ag afR:=bp [WM,OA] [⟨4,[(5,a0)],some (0,[]),some [(4,a0)],false,none⟩] [cv 6 0,cv 7 0] ⟨afP,WD,trivial⟩
def WN(ay:List Int×Int)(S:List (List Int×Int)×Int):Option (List (List Int×Int)×Int⊕List (List Int×Int)×Int):=cond (d_ (S.2>0)) (B_ (bI S.1.length (W_ i64 (S.2-1))) λ_=>B_ (idx S.1 (((W_ i64 (S.2-(1:Int))).toNat:Nat):Int)) λaa=>B_ (Ji (ay.1,ay.2) aa) λaj=>cond (d_ (aj<0)) (some (.inl (S.1,W_ i64 (S.2-1)))) (some (.inr (S.1,S.2)))) (some (.inr (S.1,S.2)))
def O4(L:List (List Int×Int))(ay:List Int×Int):Option (List (List Int×Int)):=B_ (aW (WN ay) (L,(L.length:Int))) λap=>cond (d_ (ap.2>0)) (B_ (bI ap.1.length (W_ i64 (ap.2-1))) λ_=>B_ (idx ap.1 (((W_ i64 (ap.2-(1:Int))).toNat:Nat):Int)) λv5=>B_ (Ji (ay.1,ay.2) v5) λaN=>cond (aN==0) (some ap.1) (B_ (e9 ap.1 ap.2 (ap.1.length:Int)) λaO=>B_ (e9 ap.1 (ap.2.toNat:Int) ((ap.1.length:Int).toNat:Int)) λbi=>B_ (bN 32 [] bi) λbf=>B_ (e9 ap.1 0 ap.2) λbF=>B_ (bN 32 bF [(ay.1,ay.2)]) λbC=>B_ (bN 32 bC bf) λbK=>some bK)) (B_ (e9 ap.1 ap.2 (ap.1.length:Int)) λc3=>B_ (e9 ap.1 (ap.2.toNat:Int) ((ap.1.length:Int).toNat:Int)) λdQ=>B_ (bN 32 [] dQ) λdK=>B_ (e9 ap.1 0 ap.2) λdz=>B_ (bN 32 dz [(ay.1,ay.2)]) λdO=>B_ (bN 32 dO dK) λeU=>some eU)
def afS:a4:=⟨356,[.mv false 86 (.prod bG bH),.d false (.prod bG bH)],[.l (.o false 86 (.prod bG bH))],λx=>O4 x.1 x.2⟩
def ar1{ag:Prop}:bl ag afS:=wi [37] [(7,[0,1,2,6,3,4,5,7,8])] [afR] [cF 2 [(0,.l (.o false 86 (.prod bG bH))),(5,a0)] 0 [(0,.l (.o false 86 (.prod bG bH))),(5,a0)]] [cv 2 0,cv 4 0,cv 7 0] [] ⟨ar0,trivial⟩ trivial
def Jj(rec:Int×List (List Int×Int)->Int->List (List Int×Int)->List (List Int×Int)->Option (List (List Int×Int)))(L:Int×List (List Int×Int))(dt:List (List Int×Int))(ap:List (List Int×Int)×Int):Option (List (List Int×Int)×Int⊕List (List Int×Int)):=cond (d_ (ap.2<(L.2.length:Int))) (B_ (bN 32 [] dt) λv5=>B_ (idx L.2 ap.2) λaN=>B_ (bN 32 v5 [(aN.1,aN.2)]) λaO=>B_ (rec (L.1,L.2) (W_ i64 (ap.2+1)) aO ap.1) λbi=>some (.inl (bi,W_ i64 (ap.2+1)))) (some (.inr ap.1))
def yy(rec:Int×List (List Int×Int)->Int->List (List Int×Int)->List (List Int×Int)->Option (List (List Int×Int)))(L:Int×List (List Int×Int))(ay:Int)(dt:List (List Int×Int))(wx:List (List Int×Int)):Option (List (List Int×Int)):=cond ((dt.length:Int)==L.1) (B_ (O1 dt) λS=>cond S.2 (B_ (O3 (L.1,L.2) (S.1.1,S.1.2)) λaa=>cond aa (B_ (O4 wx (S.1.1,S.1.2)) λaj=>some aj) (some wx)) (some wx)) (B_ (aW (Jj rec L dt) (wx,ay)) λbf=>some bf)
def wy:Nat->Int×List (List Int×Int)->Int->List (List Int×Int)->List (List Int×Int)->Option (List (List Int×Int))|0=>λ_ _ _ _=>none|n+1=>yy (wy n)
def WO(L:Int×List (List Int×Int))(ay:Int)(dt:List (List Int×Int))(wx:List (List Int×Int)):Option (List (List Int×Int)):=wy 30000 L ay dt wx
def WP:a4:=⟨330,[.d false (.prod bH (.list (.prod bG bH))),eK,.d false (.list (.prod bG bH)),.mv false 86 (.prod bG bH)],[.l (.o false 86 (.prod bG bH))],λx=>WO x.1 x.2.1 x.2.2.1 x.2.2.2⟩
def tx(rec:Int×List (List Int×Int)->Int->List (List Int×Int)->List (List Int×Int)->Option (List (List Int×Int))):a4:=⟨330,[.d false (.prod bH (.list (.prod bG bH))),.d false bH,.d false (.list (.prod bG bH)),.mv false 86 (.prod bG bH)],[.l (.o false 86 (.prod bG bH))],λx=>rec x.1 x.2.1 x.2.2.1 x.2.2.2⟩
def afT(rec:Int×List (List Int×Int)->Int->List (List Int×Int)->List (List Int×Int)->Option (List (List Int×Int))):dp:=⟨Tryz.prog,oO,[afO,afQ,afS,tx rec],[cF 7 [(3,.l (.o false 86 (.prod bG bH))),(11,a0)] 0 [(3,.l (.o false 86 (.prod bG bH)))]],[cv 9 0],[],[],[]⟩
def ar2(rec:Int×List (List Int×Int)->Int->List (List Int×Int)->List (List Int×Int)->Option (List (List Int×Int)))(x:jh.den (tx rec).ps):xq (afT rec) Tryz.f330 (tx rec).ps (tx rec).rs x=(tx (yy rec)).F x:=by kernel_rfl
def ar3{ag:Prop}(rec:Int×List (List Int×Int)->Int->List (List Int×Int)->List (List Int×Int)->Option (List (List Int×Int)))(c:fb Tryz.prog (tx rec).f/\gt ag Tryz.prog (tx rec)):fb Tryz.prog (tx (yy rec)).f/\gt ag Tryz.prog (tx (yy rec)):=HQ (N:=afT rec) px ⟨arY,arZ,ar1,c,trivial⟩ func330 (by kernel_rfl) (ar2 rec)
def afU{ag:Prop}:(n:Nat)->fb Tryz.prog (tx (wy n)).f/\gt ag Tryz.prog (tx (wy n))|0=>⟨⟨Tryz.f330,_,func330,by kernel_rfl,rfl⟩,λx r c=>by cases c⟩|n+1=>ar3 _ (afU n)
def ar4{ag:Prop}:fb Tryz.prog WP.f/\gt ag Tryz.prog WP:=afU 30000
def Jk(L:Int×List (List Int×Int)):Option (List (List Int×Int)):=B_ (uT (L.1,L.2)) λS=>cond (!S) (some []) (B_ (WO (L.1,L.2) 0 [] []) λaa=>some aa)
def afV:a4:=⟨283,[.d false (.prod bH (.list (.prod bG bH)))],[.l (.o false 86 (.prod bG bH))],λx=>Jk x⟩
def ar5{ag:Prop}:bl ag afV:=bp [BB,WP] [] [] ⟨En,ar4,trivial⟩
def O5(L:List Int×Int):Option ByteArray:=cond ((L.1.length:Int)==0) (some ⟨#[]⟩) (cond (d_ (L.2<1)) (some ⟨#[]⟩) (cond (L.2==1) (B_ (tu L.1) λS=>some S) (B_ (tu L.1) λaa=>B_ (fG aa ⟨#[47]⟩) λaj=>B_ (jf L.2) λap=>B_ (fG aj ap) λv5=>some v5)))
def afW:a4:=⟨284,[.d false (.prod bG bH)],[gZ],λx=>O5 x⟩
def ar6{ag:Prop}:bl ag afW:=bp [Bl,uJ] [] [cv 5 0] ⟨D5,wk,trivial⟩
def Es(ap:List (List Int×Int))(v5:List ByteArray×Int):Option (List ByteArray×Int⊕List ByteArray):=cond (d_ (v5.2<(ap.length:Int))) (B_ (idx ap v5.2) λaN=>B_ (O5 aN) λaO=>B_ (bN 16 v5.1 [aO]) λbi=>some (.inl (bi,W_ i64 (v5.2+1)))) (some (.inr v5.1))
def O6(L:ByteArray)(ay:ByteArray):Option ByteArray:=B_ (OY ay) λS=>cond (!S.2) (some ⟨#[110,111]⟩) (cond (L.toList==(⟨#[99,111,117,110,116]⟩:ByteArray).toList) (B_ (O0 (S.1.1,S.1.2)) λaa=>B_ (jf aa) λaj=>some aj) (B_ (Jk (S.1.1,S.1.2)) λap=>B_ (aW (Es ap) ([],0)) λbf=>cond ((bf.length:Int)==0) (some ⟨#[45]⟩) (B_ (tt bf ⟨#[32]⟩) λbF=>some bF)))
def afX:a4:=⟨228,[jF,jF],[gZ],λx=>O6 x.1 x.2⟩
def ar7{ag:Prop}:bl ag afX:=bp [afJ,afM,uJ,afV,afW,D4] [cF 9 [(7,lY 9),(9,a0)] 0 [(7,lY 9)]] [] ⟨arU,arX,wk,ar5,ar6,IE,trivial⟩
def O7(L:ao)(ay:List Int):Option Int:=B_ (jU L) λS=>cond (!S) (some (-1)) (B_ (Bd ay) λaa=>cond (!aa) (some (-1)) (cond ((ay.length:Int)!=2) (some (-1)) (B_ (uP L ay) λaj=>some aj)))
def afY:a4:=⟨230,[cu,dE],[a0],λx=>O7 x.1 x.2⟩
def ar8{ag:Prop}:bl ag afY:=bp [ls,Io,Oh] [] [] ⟨lZ,NR,Wn,trivial⟩
def Jl(ay:List Int)(ap:Int×Int)(aN:ao)(aO:List Int×Int):Option (List Int×Int⊕List Int):=cond (d_ (aO.2<(aN.length:Int))) (B_ (idx aN aO.2) λbi=>B_ (nr ay bi) λbf=>B_ (bI aO.1.length (W_ i64 (bf-ap.2))) λ_=>B_ (idx aO.1 (((W_ i64 (bf-ap.2)).toNat:Nat):Int)) λbF=>B_ (bI aO.1.length (W_ i64 (bf-ap.2))) λ_=>B_ (bI aO.1.length (((W_ i64 (bf-ap.2)).toNat:Nat):Int)) λ_=>some (.inl (aO.1.set (W_ i64 (bf-ap.2)).toNat (W_ i64 (bF+1)),W_ i64 (aO.2+1)))) (some (.inr aO.1))
def O8(L:ao)(ay:List Int):Option (List Int):=B_ (jU L) λS=>cond (!S) (some []) (B_ (n8 L) λaa=>cond (d_ (aa>2000)) (some []) (cond ((ay.length:Int)!=2) (some []) (B_ (p8 ay 12) λaj=>cond (!aj) (some []) (B_ (El L ay) λap=>B_ (om 8 (W_ i64 (W_ i64 (ap.1-ap.2)+1)) 0) λv5=>B_ (Bx L) λaN=>B_ (aW (Jl ay ap aN) (v5,0)) λbC=>some bC))))
def afZ:a4:=⟨232,[cu,dE],[cW 3],λx=>O8 x.1 x.2⟩
def ar9{ag:Prop}:bl ag afZ:=bp [ls,Br,yk,Wy,WE,Ed] [cF 7 [(7,cW 3),(9,a0)] 0 [(7,cW 3)]] [] ⟨lZ,Eg,Bc,afj,afs,IK,trivial⟩
def WQ(L:ao×ao)(ay:ByteArray)(dt:ByteArray):Option ByteArray:=cond (ay.toList==(⟨#[99,111,117,110,116]⟩:ByteArray).toList) (B_ (O6 ay dt) λS=>some S) (cond (ay.toList==(⟨#[118,101,114,116,105,99,101,115]⟩:ByteArray).toList) (B_ (O6 ay dt) λaa=>some aa) (cond (ay.toList==(⟨#[97,116]⟩:ByteArray).toList) (B_ (ts dt) λaj=>cond aj.2 (B_ (yx L.1 aj.1) λap=>B_ (jf ap) λv5=>some v5) (some ⟨#[119,104,97,116]⟩)) (B_ (r8 dt) λaN=>cond (!aN.2) (some ⟨#[119,104,97,116]⟩) (cond (ay.toList==(⟨#[112,108,97,99,101]⟩:ByteArray).toList) (B_ (O7 L.1 aN.1) λaO=>B_ (jf aO) λbi=>some bi) (cond (ay.toList==(⟨#[108,97,121,101,114,115]⟩:ByteArray).toList) (B_ (O8 L.1 aN.1) λbf=>B_ (Bz bf ⟨#[110,111]⟩) λbF=>some bF) (some ⟨#[119,104,97,116]⟩))))))
def af0:a4:=⟨161,[.d false (.prod fi fi),jF,jF],[gZ],λx=>WQ x.1 x.2.1 x.2.2⟩
def asa{ag:Prop}:bl ag af0:=bp [afX,DX,Ov,uJ,DY,afY,afZ,OR] [] [] ⟨ar7,In,Wv,wk,Ip,ar8,ar9,WK,trivial⟩
def Et(L:List Int)(S:Int):Option (Int⊕Unit⊕Bool):=cond (d_ (S<(L.length:Int))) (B_ (idx L S) λaa=>B_ (no aa 1 30) λaj=>cond (!aj) (some (.inr (.inr false))) (cond (d_ (S>0)) (B_ (idx L S) λap=>B_ (idx L (W_ i64 (S-1))) λv5=>cond (d_ (ap<=v5)) (some (.inr (.inr false))) (some (.inl (W_ i64 (S+1))))) (some (.inl (W_ i64 (S+1)))))) (some (.inr (.inl ())))
def O9(L:List Int):Option Bool:=B_ (aW (Et L) 0) λaN=>match aN with|.inl aO=>B_ (no (L.length:Int) 1 6) λbf=>some bf|.inr bi=>some bi
def af1:a4:=⟨288,[dE],[ch],λx=>O9 x⟩
def asb{ag:Prop}:bl ag af1:=bp [q1] [⟨2,[(3,a0)],some (0,[]),some [(2,ch)],false,none⟩] [cv 4 0] ⟨r4,trivial⟩
def WR(L:List Int)(ay:Int)(ap:List Int×Int)(aN:List Int×Int):Option (List Int×Int⊕List Int):=cond (d_ (aN.2<=ay)) (B_ (bI aN.1.length aN.2) λ_=>B_ (idx aN.1 ((aN.2.toNat:Nat):Int)) λaO=>B_ (idx L ap.2) λbi=>B_ (bI aN.1.length (W_ i64 (aN.2-bi))) λ_=>B_ (idx aN.1 (((W_ i64 (aN.2-bi)).toNat:Nat):Int)) λbf=>B_ (bI aN.1.length aN.2) λ_=>B_ (bI aN.1.length ((aN.2.toNat:Nat):Int)) λ_=>some (.inl (aN.1.set aN.2.toNat (W_ i64 (aO+bf)),W_ i64 (aN.2+1)))) (some (.inr aN.1))
def WS(L:List Int)(ay:Int)(ap:List Int×Int):Option (List Int×Int⊕List Int):=cond (d_ (ap.2<(L.length:Int))) (B_ (idx L ap.2) λv5=>B_ (aW (WR L ay ap) (ap.1,v5)) λbF=>some (.inl (bF,W_ i64 (ap.2+1)))) (some (.inr ap.1))
def Pa(L:List Int)(ay:Int):Option Int:=B_ (O9 L) λS=>cond (!S) (some (-1)) (B_ (no ay 0 500) λaa=>cond (!aa) (some (-1)) (B_ (om 8 (W_ i64 (ay+1)) 0) λaj=>B_ (bI aj.length 0) λ_=>B_ (bI aj.length (((0:Int).toNat:Nat):Int)) λ_=>B_ (aW (WS L ay) (aj.set (0:Int).toNat 1,0)) λbC=>B_ (bI bC.length ay) λ_=>B_ (idx bC (((ay).toNat:Nat):Int)) λbK=>some bK))
def af2:a4:=⟨233,[dE,eK],[a0],λx=>Pa x.1 x.2⟩
def asc{ag:Prop}:bl ag af2:=bp [af1,q1] [cF 6 [(5,cW 3),(6,a0)] 0 [(5,cW 3)],cF 9 [(5,cW 3),(7,a0)] 2 [(5,cW 3)]] [cv 11 0] ⟨asb,r4,trivial⟩
def Pb(L:List Int)(ay:List Int):Option (List Int):=B_ (nq L ay) λS=>B_ (Bn L) λaa=>B_ (nq aa ay) λaj=>B_ (yv aj S) λap=>B_ (kw L ap) λv5=>B_ (mx aa v5) λaN=>some aN
def af3:a4:=⟨290,[dE,dE],[cW 3],λx=>Pb x.1 x.2⟩
def asd{ag:Prop}:bl ag af3:=bp [wl,Wh,Wj,D6,Bf] [] [] ⟨ym,aeT,aeV,IG,D0,trivial⟩
def Jm(L:List Int×List Int)(aj:ao×List Int):Option (ao×List Int⊕ao×List Int):=B_ (nq aj.2 L.2) λap=>cond (d_ (ap>0)) (B_ (bN 24 aj.1 [aj.2]) λv5=>B_ (Pb aj.2 L.2) λaN=>some (.inl (v5,aN))) (some (.inr (aj.1,aj.2)))
def BC(L:List Int×List Int):Option ao:=B_ (wu (L.1,L.2)) λS=>cond (!S) (some []) (B_ (bN 8 [] L.1) λaa=>B_ (aW (Jm L) ([],aa)) λaO=>B_ (bN 24 aO.1 [aO.2]) λbi=>some bi)
def WT:a4:=⟨235,[.d false (.prod bG bG)],[.l (.o false 65 bG)],λx=>BC x⟩
def af4{ag:Prop}:bl ag WT:=bp [I3,wl,af3] [cF 5 [(3,.l (.o false 65 bG)),(4,wh)] 0 [(3,.l (.o false 65 bG)),(4,wh)]] [] ⟨Oz,ym,asd,trivial⟩
def Jn(S:ao)(aa:List Int×Int):Option (List Int×Int⊕List Int):=cond (d_ (W_ i64 (aa.2+1)<(S.length:Int))) (B_ (idx S (W_ i64 (aa.2-1))) λaj=>B_ (idx S (W_ i64 (aa.2+1))) λap=>B_ (uN aj ap) λv5=>B_ (idx S aa.2) λaN=>B_ (idx aN 0) λaO=>B_ (Bv (aO==0)) λbi=>B_ (bI v5.length bi) λ_=>B_ (idx v5 (((bi).toNat:Nat):Int)) λbf=>B_ (idx S aa.2) λbF=>B_ (idx bF bi) λbC=>B_ (gk .i64 bf bC) λbK=>B_ (bN 8 aa.1 [bK]) λc3=>some (.inl (c3,W_ i64 (aa.2+1)))) (some (.inr aa.1))
def Jo(L:List Int×List Int):Option (List Int):=B_ (BC (L.1,L.2)) λS=>B_ (aW (Jn S) ([],1)) λdQ=>some dQ
def af5:a4:=⟨236,[.d false (.prod bG bG)],[cW 3],λx=>Jo x⟩
def ase{ag:Prop}:bl ag af5:=bp [WT,IM,OA] [cF 4 [(3,cW 3),(5,a0)] 0 [(3,cW 3)]] [cv 6 0,cv 8 0] ⟨af4,Ob,WD,trivial⟩
def WU(L:List ByteArray):Option ByteArray:=B_ (idx L 2) λS=>B_ (r8 S) λaa=>cond (!aa.2) (some ⟨#[119,104,97,116]⟩) (B_ (idx L 0) λaj=>cond (aj.toList==(⟨#[119,97,121,115]⟩:ByteArray).toList) (B_ (idx L 1) λap=>B_ (ts ap) λv5=>cond (!v5.2) (some ⟨#[119,104,97,116]⟩) (B_ (Pa aa.1 v5.1) λaN=>B_ (jf aN) λaO=>some aO)) (B_ (idx L 1) λbi=>B_ (r8 bi) λbf=>cond (!bf.2) (some ⟨#[119,104,97,116]⟩) (B_ (idx L 0) λbF=>cond (! bF.toList==(⟨#[115,112,108,105,116]⟩:ByteArray).toList) (B_ (idx L 0) λbC=>cond (! bC.toList==(⟨#[116,117,114,110,115]⟩:ByteArray).toList) (some ⟨#[119,104,97,116]⟩) (B_ (wu (bf.1,aa.1)) λbK=>cond (!bK) (some ⟨#[110,111]⟩) (B_ (idx L 0) λc3=>cond (c3.toList==(⟨#[115,112,108,105,116]⟩:ByteArray).toList) (B_ (BC (bf.1,aa.1)) λdQ=>B_ (By dQ) λdK=>some dK) (B_ (Jo (bf.1,aa.1)) λdz=>B_ (Bz dz ⟨#[45]⟩) λdO=>some dO)))) (B_ (wu (bf.1,aa.1)) λeU=>cond (!eU) (some ⟨#[110,111]⟩) (B_ (idx L 0) λeM=>cond (eM.toList==(⟨#[115,112,108,105,116]⟩:ByteArray).toList) (B_ (BC (bf.1,aa.1)) λdP=>B_ (By dP) λdR=>some dR) (B_ (Jo (bf.1,aa.1)) λg0=>B_ (Bz g0 ⟨#[45]⟩) λhk=>some hk))))))
def af6:a4:=⟨162,[.d false (.list .str)],[gZ],λx=>WU x⟩
def asf{ag:Prop}:bl ag af6:=bp [DY,DX,af2,uJ,I3,WT,WI,af5,OR] [] [] ⟨Ip,In,asc,wk,Oz,af4,afB,ase,WK,trivial⟩
def BD(L:ao×ao)(ay:List ByteArray):Option ByteArray:=cond ((ay.length:Int)==1) (B_ (idx ay 0) λS=>B_ (WL (L.1,L.2) S) λaa=>some aa) (cond ((ay.length:Int)==2) (B_ (idx ay 0) λaj=>B_ (idx ay 1) λap=>B_ (WQ (L.1,L.2) aj ap) λv5=>some v5) (cond ((ay.length:Int)==3) (B_ (WU ay) λaN=>some aN) (some ⟨#[119,104,97,116]⟩)))
def af7:a4:=⟨76,[.d false (.prod fi fi),.d false (.list .str)],[gZ],λx=>BD x.1 x.2⟩
def asg{ag:Prop}:bl ag af7:=bp [afG,af0,af6] [] [cv 3 0,cv 5 0] ⟨arR,asa,asf,trivial⟩
def se(L:ao×ao)(ay:ByteArray):Option ((ao×ao)×ByteArray):=B_ (ys (L.1,L.2)) λS=>B_ (yj ay 32) λaa=>B_ (n9 (L.1,L.2) aa) λaj=>cond (ay.toList==(⟨#[107,101,101,112]⟩:ByteArray).toList) (B_ (n7 L.1) λap=>some ((S.1,ap),⟨#[111,107]⟩)) (cond (ay.toList==(⟨#[115,119,97,112]⟩:ByteArray).toList) (B_ (n7 L.2) λv5=>B_ (n7 L.1) λaN=>some ((v5,aN),⟨#[111,107]⟩)) (cond aj.2.2 (cond (!aj.2.1) (some ((S.1,S.2),⟨#[110,111]⟩)) (cond aj.2.2 (B_ (n7 aj.1) λaO=>B_ (yr aj.1) λbi=>some ((aO,S.2),bi)) (B_ (BD (L.1,L.2) aa) λbf=>some ((S.1,S.2),bf)))) (cond aj.2.2 (B_ (n7 aj.1) λbF=>B_ (yr aj.1) λbC=>some ((bF,S.2),bC)) (B_ (BD (L.1,L.2) aa) λbK=>some ((S.1,S.2),bK)))))
def WV:a4:=⟨10,[.d false (.prod fi fi),jF],[.a [.o true 65 bG,.o true 65 bG],gZ],λx=>se x.1 x.2⟩
def af8{ag:Prop}:bl ag WV:=bp [aeO,Im,afe,D1,N2,af7] [] [cv 15 0,cv 16 0] ⟨arm,NP,ary,Ix,Wb,asg,trivial⟩
def WW(aa:Int×(List Int×Int×Int)×Unit)(aj:(List Int×Int×Int)×(ao×ao)×(ao×ao)×Int):Option ((List Int×Int×Int)×(ao×ao)×(ao×ao)×Int⊕(List Int×Int×Int)×(ao×ao)×ao×ao):=cond (d_ (aj.2.2.2<aa.1)) (B_ (Bm (aj.1.1,(aj.1.2.1,aj.1.2.2))) λap=>B_ (se (aj.2.2.1.1,aj.2.2.1.2) ap.1) λv5=>some (.inl ((ap.2.1.1,(ap.2.1.2.1,ap.2.1.2.2)),((aj.2.1.1,aj.2.1.2),((v5.1.1,v5.1.2),W_ i64 (aj.2.2.2+1)))))) (some (.inr ((aj.1.1,(aj.1.2.1,aj.1.2.2)),((aj.2.1.1,aj.2.1.2),(aj.2.2.1.1,aj.2.2.1.2)))))
def Pc(L:List Int×Int×Int)(ay:Int):Option ((ao×ao)×(List Int×Int×Int)×Unit):=B_ D2 λS=>B_ (q2 (L.1,(L.2.1,L.2.2)) (W_ i64 (ay+1))) λaa=>B_ (aW (WW aa) ((aa.2.1.1,(aa.2.1.2.1,aa.2.1.2.2)),(([],[]),((S.1,S.2),0)))) λaN=>some ((aN.2.2.1,aN.2.2.2),((aN.1.1,(aN.1.2.1,aN.1.2.2)),()))
def af9:a4:=⟨32,[.cur 106,eK],[.a [.o true 65 bG,.o true 65 bG]],λx=>Pc x.1 x.2⟩
def ash{ag:Prop}:bl ag af9:=bp [aeI,D3,Wc,WV] [cF 4 [(0,.b 106 [.d false (.list (.int .u8)),.d false bH,.d false bH]),(4,.b 26 [.o true 65 bG,.o true 65 bG]),(5,.b 26 [.o true 65 bG,.o true 65 bG]),(7,a0)] 0 [(0,.b 106 [.d false (.list (.int .u8)),.d false bH,.d false bH]),(4,.b 26 [.o true 65 bG,.o true 65 bG]),(5,.b 26 [.o true 65 bG,.o true 65 bG])]] [⟨6,[],[],[(0,false),(5,false)],1⟩] ⟨arh,Iz,aeN,af8,trivial⟩
def aga(L:List Int)(S:Int×Int):Option (Int×Int⊕Int):=cond (d_ (S.2<(L.length:Int))) (cond (d_ (S.2<4000)) (B_ (idx L S.2) λaa=>some (.inl (tY .i64 (W_ i64 (W_ i64 (W_ i64 (S.1*131)+W_ i64 aa)+7)) 1073741823,W_ i64 (S.2+1)))) (some (.inr S.1))) (some (.inr S.1))
def Pd(L:List Int):Option ((ao×ao)×ByteArray):=B_ (aW (aga L) (W_ i64 (26583+(L.length:Int)),0)) λaj=>B_ (Pc (L,(0,aj)) 4) λap=>B_ (Bm (ap.2.1.1,(ap.2.1.2.1,ap.2.1.2.2))) λv5=>some ((ap.1.1,ap.1.2),v5.1)
def agb:a4:=⟨8,[.d false (.list (.int .u8))],[.a [.o true 65 bG,.o true 65 bG],gZ],λx=>Pd x⟩
noncomputable def agc:dp:=⟨Tryz.prog,oO,[],[⟨3,[(3,a0),(4,a0)],some (0,[(3,a0)]),none,true,none⟩],[],[],[],[]⟩
def WX:mG:=⟨31,false,nO agc Tryz.f31⟩
def asi{ag:Prop}:fb Tryz.prog WX.f/\kZ ag Tryz.prog WX:=HP (N:=agc) px trivial func31 (by kernel_rfl)
def asj{ag:Prop}:bl ag agb:=NO [af9,Wc] [] [] [WX] ⟨ash,aeN,trivial⟩ ⟨asi,trivial⟩
def oP(L:List Int):Option (List Int):=B_ (bN 8 [] L) λS=>some S
def wz:a4:=⟨99,[dE],[cW 3],λx=>oP x⟩
def yz{ag:Prop}:bl ag wz:=bp [] [] [] trivial
def uU(L:ao)(S:ao×Int):Option (ao×Int⊕ao):=cond (d_ (S.2<(L.length:Int))) (B_ (idx L S.2) λaa=>B_ (oP aa) λaj=>B_ (bN 24 S.1 [aj]) λap=>some (.inl (ap,W_ i64 (S.2+1)))) (some (.inr S.1))
def oR(L:ao):Option ao:=B_ (aW (uU L) ([],0)) λv5=>some v5
def Eu:a4:=⟨34,[cu],[cw 65],λx=>oR x⟩
def Jp{ag:Prop}:bl ag Eu:=bp [wz] [cF 3 [(3,cw 65),(8,a0)] 0 [(3,cw 65)]] [] ⟨yz,trivial⟩
def WY(L ay:ByteArray):Option (List ByteArray):=DP L ay
def WZ:a4:=⟨100,[jF,jF],[lY 9],λx=>WY x.1 x.2⟩
def asl{ag:Prop}:fb Tryz.prog WZ.f/\gt ag Tryz.prog WZ:=⟨⟨Tryz.f100,_,func100,by kernel_rfl,rfl⟩,aqg {aea with} (by kernel_rfl) aqu rfl rfl⟩
def yB(L:ByteArray)(ay:Int):Option (List ByteArray):=B_ (WY L (o2 [ay])) λS=>some S
def Jq:a4:=⟨35,[jF,.d false (.int .u8)],[lY 9],λx=>yB x.1 x.2⟩
def Pe{ag:Prop}:bl ag Jq:=bp [WZ] [] [] ⟨asl,trivial⟩
def W0(L:List ByteArray)(ay:ByteArray):Option ByteArray:=Ia L ay
def W1:a4:=⟨103,[.d false (.list .str),jF],[gZ],λx=>W0 x.1 x.2⟩
def asm:fb Tryz.prog W1.f/\gt False Tryz.prog W1:=⟨⟨Tryz.f103,_,func103,by kernel_rfl,rfl⟩,aqe aqq aqr rfl⟩
def ty(L:List ByteArray)(ay:ByteArray):Option ByteArray:=B_ (W0 L ay) λS=>some S
def Jr:a4:=⟨39,[.d false (.list .str),jF],[gZ],λx=>ty x.1 x.2⟩
def Pf:bl False Jr:=bp [W1] [] [] ⟨asm,trivial⟩
def wA(L:ByteArray):Option (Int×Bool):=Ic L
def Jt:a4:=⟨55,[jF],[a0,ch],λx=>wA x⟩
def W2:fb Tryz.prog Jt.f/\gt False Tryz.prog Jt:=aqE
def nu(L:Int)(ay:Int)(dt:Int):Option Bool:=cond (d_ (L>=ay)) (some (d_ (L<=dt))) (some false)
def q4:a4:=⟨125,[eK,eK,eK],[ch],λx=>nu x.1 x.2.1 x.2.2⟩
def sf{ag:Prop}:bl ag q4:=bp [] [] [] trivial
def W3(L:List Int)(ay:Int)(dt:Int)(S:Int):Option (Int⊕Unit⊕Bool):=cond (d_ (S<(L.length:Int))) (B_ (idx L S) λaa=>B_ (nu aa ay dt) λaj=>cond (!aj) (some (.inr (.inr false))) (some (.inl (W_ i64 (S+1))))) (some (.inr (.inl ())))
def sh(L:List Int)(ay:Int)(dt:Int):Option Bool:=B_ (aW (W3 L ay dt) 0) λap=>match ap with|.inl v5=>some true|.inr aN=>some aN
def Ev:a4:=⟨204,[dE,eK,eK],[ch],λx=>sh x.1 x.2.1 x.2.2⟩
def Jv{ag:Prop}:bl ag Ev:=bp [q4] [⟨2,[(11,a0)],some (0,[]),some [(6,ch)],false,none⟩] [] ⟨sf,trivial⟩
def wB(L:List Int):Option Bool:=B_ (nu (L.length:Int) 1 3) λS=>cond S (B_ (sh L (-1000) 1000) λaa=>some aa) (some false)
def BE:a4:=⟨130,[dE],[ch],λx=>wB x⟩
def Ew{ag:Prop}:bl ag BE:=bp [q4,Ev] [] [] ⟨sf,Jv,trivial⟩
def W4(L:List Int):Option (List Int×Bool):=B_ (wB L) λS=>cond (!S) (some ([],false)) (some (L,true))
def agd:a4:=⟨126,[.mv true 3 bH],[cW 3,ch],λx=>W4 x⟩
def asn{ag:Prop}:bl ag agd:=bp [BE] [] [] ⟨Ew,trivial⟩
def age(S:List ByteArray)(aa:List Int×Int):Option (List Int×Int⊕List Int⊕List Int×Bool):=cond (d_ (aa.2<(S.length:Int))) (B_ (idx S aa.2) λaj=>B_ (wA aj) λap=>cond (!ap.2) (some (.inr (.inr ([],false)))) (B_ (bN 8 aa.1 [ap.1]) λv5=>some (.inl (v5,W_ i64 (aa.2+1))))) (some (.inr (.inl aa.1)))
def uV(L:ByteArray):Option (List Int×Bool):=B_ (yB L 44) λS=>B_ (aW (age S) ([],0)) λaN=>match aN with|.inl aO=>B_ (W4 aO) λbf=>some (bf.1,bf.2)|.inr bi=>some (bi.1,bi.2)
def Pg:a4:=⟨56,[jF],[cW 3,ch],λx=>uV x⟩
def W5:bl False Pg:=bp [Jq,Jt,agd] [⟨3,[(4,cW 3),(12,a0)],some (0,[(4,cW 3)]),some [(2,cW 3),(3,ch)],false,none⟩] [] ⟨Pe,W2,asn,trivial⟩
def wC(L:List Int)(ay:Int):Option Bool:=cond ((L.length:Int)==2) (B_ (sh L (W_ i64 (0-ay)) ay) λS=>some S) (some false)
def Ex:a4:=⟨133,[dE,eK],[ch],λx=>wC x.1 x.2⟩
def Jw{ag:Prop}:bl ag Ex:=bp [Ev] [] [] ⟨Jv,trivial⟩
def oa(L:List Int)(ay:List Int):Option (List Int):=B_ (idx L 0) λS=>B_ (idx ay 0) λaa=>B_ (idx L 1) λaj=>B_ (idx ay 1) λap=>some [W_ i64 (S-aa),W_ i64 (aj-ap)]
def yC:a4:=⟨194,[dE,dE],[cW 3],λx=>oa x.1 x.2⟩
def BF{ag:Prop}:bl ag yC:=bp [] [] [cv 1 0] trivial
def l0(L:List Int)(ay:List Int):Option Int:=B_ (idx L 0) λS=>B_ (idx ay 1) λaa=>B_ (idx L 1) λaj=>B_ (idx ay 0) λap=>some (W_ i64 (W_ i64 (S*aa)-W_ i64 (aj*ap)))
def yD:a4:=⟨148,[dE,dE],[a0],λx=>l0 x.1 x.2⟩
def BG{ag:Prop}:bl ag yD:=bp [] [] [cv 1 0] trivial
def uW(L:List Int)(ay:List Int)(dt:List Int):Option Int:=B_ (oa ay L) λS=>B_ (oa dt L) λaa=>B_ (l0 S aa) λaj=>some aj
def Ey:a4:=⟨187,[dE,dE,dE],[a0],λx=>uW x.1 x.2.1 x.2.2⟩
def Jy{ag:Prop}:bl ag Ey:=bp [yC,yD] [] [] ⟨BF,BG,trivial⟩
def Ph(L:Int):Option Bool:=some (L !=L)
def agf:a4:=⟨248,[eK],[ch],λx=>Ph x⟩
def aso{ag:Prop}:bl ag agf:=bp [] [] [] trivial
def BH(L:Int)(ay:Int):Option Int:=B_ (Ph L) λS=>B_ (Ph ay) λaa=>cond S (cond aa (some 0) (some (-1))) (cond aa (some 1) (cond (d_ (L<ay)) (some (-1)) (cond (d_ (L>ay)) (some 1) (some 0))))
def W6:a4:=⟨196,[eK,eK],[a0],λx=>BH x.1 x.2⟩
def agh{ag:Prop}:bl ag W6:=bp [agf] [] [] ⟨aso,trivial⟩
def Ez(L:List Int)(ay:List Int)(S:Int):Option (Int⊕Unit⊕Int):=cond (d_ (S<(L.length:Int))) (B_ (idx L S) λaa=>cond (d_ (S>=(ay.length:Int))) (some (.inr (.inr 1))) (B_ (idx ay S) λaj=>B_ (BH aa aj) λap=>cond (ap !=0) (some (.inr (.inr ap))) (some (.inl (W_ i64 (S+1)))))) (some (.inr (.inl ())))
def wD(L:List Int)(ay:List Int):Option Int:=B_ (aW (Ez L ay) 0) λv5=>match v5 with|.inl aN=>cond (d_ ((L.length:Int)<(ay.length:Int))) (some (-1)) (some 0)|.inr aO=>some aO
def W7:a4:=⟨108,[dE,dE],[a0],λx=>wD x.1 x.2⟩
def Pj{ag:Prop}:bl ag W7:=bp [W6] [⟨2,[(11,a0)],some (0,[]),some [(4,a0)],false,none⟩] [] ⟨agh,trivial⟩
def Jz(L:ao)(aa:Int):Option (Int⊕Unit⊕Bool):=cond (d_ (aa<(L.length:Int))) (B_ (idx L aa) λaj=>B_ (wC aj 50) λap=>cond (!ap) (some (.inr (.inr false))) (some (.inl (W_ i64 (aa+1))))) (some (.inr (.inl ())))
def JA(L:ao)(bi:Int):Option (Int⊕Unit⊕Bool):=cond (d_ (bi<(L.length:Int))) (B_ (idx L bi) λbf=>B_ (gi .i64 (W_ i64 (bi+1)) (L.length:Int)) λbF=>B_ (idx L bF) λbC=>B_ (gi .i64 (W_ i64 (bi+2)) (L.length:Int)) λbK=>B_ (idx L bK) λc3=>B_ (uW bf bC c3) λdQ=>cond (d_ (dQ<=0)) (some (.inr (.inr false))) (cond (d_ (bi>0)) (B_ (idx L 0) λdK=>B_ (wD dK bf) λdz=>cond (d_ (dz>=0)) (some (.inr (.inr false))) (cond (d_ (bi>0)) (cond (d_ (bi<W_ i64 ((L.length:Int)-1))) (B_ (idx L 0) λdO=>B_ (idx L (W_ i64 (bi+1))) λeU=>B_ (uW dO bf eU) λeM=>cond (d_ (eM<=0)) (some (.inr (.inr false))) (some (.inl (W_ i64 (bi+1))))) (some (.inl (W_ i64 (bi+1))))) (some (.inl (W_ i64 (bi+1)))))) (cond (d_ (bi>0)) (cond (d_ (bi<W_ i64 ((L.length:Int)-1))) (B_ (idx L 0) λdP=>B_ (idx L (W_ i64 (bi+1))) λdR=>B_ (uW dP bf dR) λg0=>cond (d_ (g0<=0)) (some (.inr (.inr false))) (some (.inl (W_ i64 (bi+1))))) (some (.inl (W_ i64 (bi+1))))) (some (.inl (W_ i64 (bi+1))))))) (some (.inr (.inl ())))
def kx(L:ao):Option Bool:=B_ (nu (L.length:Int) 3 12) λS=>cond (!S) (some false) (B_ (aW (Jz L) 0) λv5=>match v5 with|.inl aN=>(B_ (aW (JA L) 0) λhk=>match hk with|.inl hl=>some true|.inr iN=>some iN)|.inr aO=>some aO)
def l1:a4:=⟨101,[cu],[ch],λx=>kx x⟩
def my{ag:Prop}:bl ag l1:=bp [q4,Ex,Ey,W7] [⟨4,[(14,a0)],some (0,[]),some [(2,ch)],false,none⟩,⟨11,[(26,a0)],some (2,[]),some [(2,ch)],false,none⟩] [cv 13 0] ⟨sf,Jw,Jy,Pj,trivial⟩
def EA(S:List ByteArray)(aa:ao×Int):Option (ao×Int⊕ao⊕ao×Bool):=cond (d_ (aa.2<(S.length:Int))) (B_ (idx S aa.2) λaj=>B_ (uV aj) λap=>cond (!ap.2) (some (.inr (.inr ([],false)))) (B_ (bN 24 aa.1 [ap.1]) λv5=>some (.inl (v5,W_ i64 (aa.2+1))))) (some (.inr (.inl aa.1)))
def EB(L:ByteArray):Option (ao×Bool):=B_ (yB L 32) λS=>B_ (aW (EA S) ([],0)) λaN=>match aN with|.inl aO=>B_ (kx aO) λbf=>cond (!bf) (some ([],false)) (some (aO,true))|.inr bi=>some (bi.1,bi.2)
def W8:a4:=⟨38,[jF],[cw 65,ch],λx=>EB x⟩
def agi:bl False W8:=bp [Jq,Pg,l1] [⟨3,[(4,cw 65),(12,a0)],some (0,[(4,cw 65)]),some [(2,cw 65),(3,ch)],false,none⟩] [] ⟨Pe,W5,my,trivial⟩
def W9(L:Int):Option ByteArray:=H9 L
def Xa:a4:=⟨118,[eK],[gZ],λx=>W9 x⟩
def asp{ag:Prop}:fb Tryz.prog Xa.f/\gt ag Tryz.prog Xa:=⟨⟨Tryz.f118,_,func118,by kernel_rfl,rfl⟩,aqd ad8 aeb rfl⟩
def lu(L:Int):Option ByteArray:=B_ (W9 L) λS=>some S
def JB:a4:=⟨45,[eK],[gZ],λx=>lu x⟩
def Pk{ag:Prop}:bl ag JB:=bp [Xa] [] [] ⟨asp,trivial⟩
def Pl(L:List Int)(S:List ByteArray×Int):Option (List ByteArray×Int⊕List ByteArray):=cond (d_ (S.2<(L.length:Int))) (B_ (idx L S.2) λaa=>B_ (lu aa) λaj=>B_ (bN 16 S.1 [aj]) λap=>some (.inl (ap,W_ i64 (S.2+1)))) (some (.inr S.1))
def si(L:List Int):Option ByteArray:=B_ (aW (Pl L) ([],0)) λv5=>B_ (ty v5 ⟨#[44]⟩) λaN=>some aN
def EC:a4:=⟨62,[dE],[gZ],λx=>si x⟩
def JC:bl False EC:=bp [JB,Jr] [cF 3 [(3,lY 9),(8,a0)] 0 [(3,lY 9)]] [] ⟨Pk,Pf,trivial⟩
def JD(L:List Int):Option ByteArray:=B_ (wB L) λS=>cond (!S) (some ⟨#[]⟩) (B_ (si L) λaa=>some aa)
def Xb:a4:=⟨102,[dE],[gZ],λx=>JD x⟩
def agj:bl False Xb:=bp [BE,EC] [] [] ⟨Ew,JC,trivial⟩
def asq(L:ao)(aa:List ByteArray×Int):Option (List ByteArray×Int⊕List ByteArray):=cond (d_ (aa.2<(L.length:Int))) (B_ (idx L aa.2) λaj=>B_ (JD aj) λap=>B_ (bN 16 aa.1 [ap]) λv5=>some (.inl (v5,W_ i64 (aa.2+1)))) (some (.inr aa.1))
def qa(L:ao):Option ByteArray:=B_ (kx L) λS=>cond (!S) (some ⟨#[]⟩) (B_ (aW (asq L) ([],0)) λaN=>B_ (ty aN ⟨#[32]⟩) λaO=>some aO)
def Xc:a4:=⟨37,[cu],[gZ],λx=>qa x⟩
def agk:bl False Xc:=bp [l1,Xb,Jr] [cF 5 [(3,lY 9),(11,a0)] 0 [(3,lY 9)]] [] ⟨my,agj,Pf,trivial⟩
def BI(i:Nat)(m t:Int)(s:Int×ao):Option (Int×ao⊕ao):=cond (d_ (s.1<m)) (B_ s.2[i]? λq=>B_ (bI q.length s.1) λ_=>B_ s.2[i]? λq=>B_ q[s.1.toNat]? λv=>B_ s.2[i]? λq=>B_ (bI q.length s.1) λ_=>B_ s.2[i]? λq=>B_ q[s.1.toNat]? λ_=>some (.inl (W_ i64 (s.1+1),s.2.set i (q.set s.1.toNat (W_ i64 (v*t)))))) (some (.inr s.2))
def Pm(n t:Int)(s:Int×ao):Option (Int×ao⊕ao):=cond (d_ (s.1<n)) (B_ (bI s.2.length s.1) λ_=>if s.1.toNat<s.2.length then B_ s.2[s.1.toNat]? λq=>B_ (aW (BI s.1.toNat q.length t) (0,s.2)) λj=>some (.inl (W_ i64 (s.1+1),j))else none) (some (.inr s.2))
def Pn(L:ao)(ay:Int):Option ao:=B_ (oR L) λS=>B_ (aW (Pm S.length ay) (0,S)) λj=>some j
def BJ:a4:=⟨105,[cu,eK],[cw 65],λx=>Pn x.1 x.2⟩
noncomputable def agl:dp:=⟨Tryz.prog,oO,[Eu],[],[],[],[],[]⟩
def asr(x:jh.den BJ.ps):Ig agl [⟨0,11,[⟨3,0,13⟩,⟨6,2,19⟩]⟩] Tryz.f105 BJ.ps BJ.rs x=BJ.F x:=by kernel_rfl
def ass{ag:Prop}:fb Tryz.prog BJ.f/\gt ag Tryz.prog BJ:=aej (N:=agl) px ⟨Jp,trivial⟩ func105 (by kernel_rfl) rfl asr
def Po(L:ao):Option (Unit×ao×Unit):=H2 (λa b=>wD a b) L
def Xd:a4:=⟨191,[.io true 65 bG,.f 108],[],λx=>Po x.1⟩
def ast{ag:Prop}:fb Tryz.prog Xd.f/\gt ag Tryz.prog Xd:=⟨⟨Tryz.f191,_,func191,by kernel_rfl,rfl⟩,apV aqj rfl (Pj (ag:=True)).1 (Pj (ag:=True)).2⟩
def Pp(L:ao):Option (Unit×ao×Unit):=some ((),(L.reverse,()))
def Xe:a4:=⟨192,[.io true 65 bG],[],λx=>Pp x⟩
def asu{ag:Prop}:fb Tryz.prog Xe.f/\gt ag Tryz.prog Xe:=⟨⟨Tryz.f192,_,func192,by kernel_rfl,rfl⟩,apZ aql rfl⟩
def Pq(L:ao)(S:Int):Option (Int⊕Unit⊕ao×Bool):=cond (d_ (S<(L.length:Int))) (B_ (idx L S) λaa=>B_ (wC aa 50) λaj=>cond (!aj) (some (.inr (.inr ([],false)))) (some (.inl (W_ i64 (S+1))))) (some (.inr (.inl ())))
def ED(bf:ao×ao×Int)(bC:List Int)(bK:ao):Option (ao⊕ao):=cond (d_ ((bK.length:Int)>=W_ i64 ((bf.2.1.length:Int)+2))) (B_ (bI bK.length (W_ i64 ((bK.length:Int)-2))) λ_=>B_ (idx bK (((W_ i64 ((bK.length:Int)-(2:Int))).toNat:Nat):Int)) λc3=>B_ (bI bK.length (W_ i64 ((bK.length:Int)-1))) λ_=>B_ (idx bK (((W_ i64 ((bK.length:Int)-(1:Int))).toNat:Nat):Int)) λdQ=>B_ (uW c3 dQ bC) λdK=>cond (d_ (dK<=0)) (B_ (e9 bK 0 (W_ i64 ((bK.length:Int)-1))) λdz=>some (.inl dz)) (some (.inr bK))) (some (.inr bK))
def JE(bf:ao×ao×Int)(bF:ao×Int):Option (ao×Int⊕ao):=cond (d_ (bF.2<(bf.1.length:Int))) (B_ (idx bf.1 bF.2) λbC=>B_ (aW (ED bf bC) bF.1) λdO=>B_ (oP bC) λeU=>B_ (bN 24 dO [eU]) λeM=>some (.inl (eM,W_ i64 (bF.2+1)))) (some (.inr bF.1))
def BK(bf:ao×ao×Int):Option (ao×ao×Int⊕ao):=cond (d_ (bf.2.2<2)) (B_ (aW (JE bf) (bf.2.1,0)) λdP=>B_ (e9 dP 0 (if W_ i64 ((dP.length:Int)-1)>0 then W_ i64 ((dP.length:Int)-1)else 0)) λdR=>B_ (Pp bf.1) λg0=>some (.inl (g0.2.1,(dR,W_ i64 (bf.2.2+1))))) (some (.inr bf.2.1))
def wE(L:ao):Option (ao×Bool):=cond (d_ ((L.length:Int)>200)) (some ([],false)) (B_ (aW (Pq L) 0) λap=>match ap with|.inl v5=>B_ (oR L) λaO=>B_ (Po aO) λbi=>B_ (aW BK (bi.2.1,([],0))) λhk=>B_ (kx hk) λhl=>cond (!hl) (some ([],false)) (some (hk,true))|.inr aN=>some (aN.1,aN.2))
def EE:a4:=⟨104,[cu],[cw 65,ch],λx=>wE x⟩
def JF{ag:Prop}:bl ag EE:=bp [Ex,Eu,Xd,Ey,wz,Xe,l1] [⟨4,[(17,a0)],some (0,[]),some [(2,cw 65),(3,ch)],false,none⟩,cF 13 [(6,cw 65),(7,cw 65),(8,a0)] 2 [(7,cw 65)],⟨17,[(7,cw 65),(37,a0)],some (4,[(7,cw 65)]),none,true,none⟩,cF 19 [(7,cw 65)] 6 [(7,cw 65)]] [cv 19 0] ⟨Jw,Jp,ast,Jy,yz,asu,my,trivial⟩
def JG(L:ao):Option (ao×Bool):=B_ (kx L) λS=>cond (!S) (some ([],false)) (B_ (Pn L (-1)) λaa=>B_ (wE aa) λaj=>some (aj.1,aj.2))
def Xf:a4:=⟨40,[cu],[cw 65,ch],λx=>JG x⟩
def agm{ag:Prop}:bl ag Xf:=bp [l1,BJ,EE] [] [] ⟨my,ass,JF,trivial⟩
def JH(L:Int):Option Int:=some (if W_ i64 (0-L)>L then W_ i64 (0-L)else L)
def Xg:a4:=⟨256,[eK],[a0],λx=>JH x⟩
def agn{ag:Prop}:bl ag Xg:=bp [] [] [] trivial
def Pr(S:Int×Int):Option (Int×Int⊕Int):=cond (S.2 !=0) (B_ (gi .i64 S.1 S.2) λaa=>some (.inl (S.2,aa))) (some (.inr S.1))
def JI(L:Int)(ay:Int):Option Int:=B_ (aW Pr (L,ay)) λaj=>B_ (JH aj) λap=>some ap
def Xh:a4:=⟨208,[eK,eK],[a0],λx=>JI x.1 x.2⟩
def ago{ag:Prop}:bl ag Xh:=bp [Xg] [cF 1 [(0,a0),(1,a0)] 0 [(0,a0)]] [cv 2 0] ⟨agn,trivial⟩
def Ps(L:List Int)(S:Int×Int):Option (Int×Int⊕Int):=cond (d_ (S.2<(L.length:Int))) (B_ (idx L S.2) λaa=>B_ (JI S.1 aa) λaj=>some (.inl (aj,W_ i64 (S.2+1)))) (some (.inr S.1))
def tz(L:List Int):Option Int:=B_ (aW (Ps L) (0,0)) λap=>some ap
def BL:a4:=⟨147,[dE],[a0],λx=>tz x⟩
def EF{ag:Prop}:bl ag BL:=bp [Xh] [cF 3 [(3,a0),(8,a0)] 0 [(3,a0)]] [] ⟨ago,trivial⟩
def Xi(L:List Int):Option Int:=B_ (wB L) λS=>cond (!S) (some (-1)) (B_ (tz L) λaa=>some aa)
def agp:a4:=⟨247,[dE],[a0],λx=>Xi x⟩
def asv{ag:Prop}:bl ag agp:=bp [BE,BL] [] [] ⟨Ew,EF,trivial⟩
def Pu(S:Int)(aa:List Int)(aj:List Int×Int):Option (List Int×Int⊕List Int):=cond (d_ (aj.2<(aa.length:Int))) (B_ (bI aj.1.length aj.2) λ_=>B_ (idx aj.1 ((aj.2.toNat:Nat):Int)) λap=>B_ (gk .i64 ap S) λv5=>B_ (bI aj.1.length aj.2) λ_=>B_ (bI aj.1.length ((aj.2.toNat:Nat):Int)) λ_=>some (.inl (aj.1.set aj.2.toNat v5,W_ i64 (aj.2+1)))) (some (.inr aj.1))
def BM(L:List Int):Option (List Int×Bool):=B_ (Xi L) λS=>cond (d_ (S<=0)) (some ([],false)) (B_ (oP L) λaa=>B_ (aW (Pu S aa) (aa,0)) λaN=>some (aN,true))
def Xj:a4:=⟨193,[dE],[cW 3,ch],λx=>BM x⟩
def agq{ag:Prop}:bl ag Xj:=bp [agp,wz] [cF 6 [(5,cW 3),(15,a0)] 0 [(5,cW 3)]] [] ⟨asv,yz,trivial⟩
def Xk(aj:List Int×List Int×Int×Int):Option (List Int×List Int×Int×Int⊕List Int×Int):=cond (aj.2.2.2 !=0) (B_ (gk .i64 aj.2.2.1 aj.2.2.2) λap=>B_ (bI aj.1.length 0) λ_=>B_ (idx aj.1 (((0:Int).toNat:Nat):Int)) λv5=>B_ (bI aj.2.1.length 0) λ_=>B_ (idx aj.2.1 (((0:Int).toNat:Nat):Int)) λaN=>B_ (bI aj.1.length 1) λ_=>B_ (idx aj.1 (((1:Int).toNat:Nat):Int)) λaO=>B_ (bI aj.2.1.length 1) λ_=>B_ (idx aj.2.1 (((1:Int).toNat:Nat):Int)) λbi=>some (.inl (aj.2.1,([W_ i64 (v5-W_ i64 (ap*aN)),W_ i64 (aO-W_ i64 (ap*bi))],(aj.2.2.2,W_ i64 (aj.2.2.1-W_ i64 (ap*aj.2.2.2))))))) (some (.inr (aj.1,aj.2.2.1)))
def tA(L:List Int):Option (List Int):=B_ (idx L 0) λS=>B_ (idx L 1) λaa=>B_ (aW Xk ([1,0],([0,1],(S,aa)))) λbf=>B_ (bI bf.1.length 1) λ_=>B_ (idx bf.1 (((1:Int).toNat:Nat):Int)) λbF=>B_ (bI bf.1.length 0) λ_=>B_ (idx bf.1 (((0:Int).toNat:Nat):Int)) λbC=>some [W_ i64 (W_ i64 (0-bF)*bf.2),W_ i64 (bC*bf.2)]
def Xm:a4:=⟨149,[dE],[cW 3],λx=>tA x⟩
def agr{ag:Prop}:bl ag Xm:=bp [] [cF 3 [(3,cW 3),(4,cW 3),(5,a0),(6,a0)] 0 [(3,cW 3),(5,a0)]] [cv 2 0,cv 6 0,cv 7 0] trivial
def BN(L:Int)(ay:Int):Option Int:=B_ (gk .i64 L ay) λS=>B_ (gi .i64 L ay) λaa=>cond (d_ (aa<0)) (some (W_ i64 (S-1))) (some S)
def Xn:a4:=⟨151,[eK,eK],[a0],λx=>BN x.1 x.2⟩
def ags{ag:Prop}:bl ag Xn:=bp [] [] [] trivial
def EG(L:ao)(dt:Int)(S:List Int)(aO:List Int×Bool)(bi:List Int)(dQ:Int)(dK:ao×Int):Option (ao×Int⊕ao):=cond (d_ (dK.2<(L.length:Int))) (B_ (idx L dK.2) λdz=>B_ (oa dz S) λdO=>B_ (l0 dO bi) λeU=>B_ (l0 aO.1 dO) λeM=>B_ (bI ([eU,W_ i64 (dt*eM)]:List Int).length 0) λ_=>B_ (idx [eU,W_ i64 (dt*eM)] (((0:Int).toNat:Nat):Int)) λdP=>B_ (bI ([eU,W_ i64 (dt*eM)]:List Int).length 1) λ_=>B_ (idx [eU,W_ i64 (dt*eM)] (((1:Int).toNat:Nat):Int)) λdR=>B_ (bI ([eU,W_ i64 (dt*eM)]:List Int).length 1) λ_=>B_ (idx [eU,W_ i64 (dt*eM)] (((1:Int).toNat:Nat):Int)) λg0=>B_ (bN 24 dK.1 [[W_ i64 (dP-W_ i64 (dQ*dR)),g0]]) λhk=>some (.inl (hk,W_ i64 (dK.2+1)))) (some (.inr dK.1))
def sj(L:ao)(ay:Int)(dt:Int):Option (ao×Bool):=B_ (idx L ay) λS=>B_ (gi .i64 (W_ i64 (W_ i64 (ay+(L.length:Int))+dt)) (L.length:Int)) λaa=>B_ (idx L aa) λaj=>B_ (gi .i64 (W_ i64 (W_ i64 (ay+(L.length:Int))-dt)) (L.length:Int)) λap=>B_ (idx L ap) λv5=>B_ (oa aj S) λaN=>B_ (BM aN) λaO=>B_ (tA aO.1) λbi=>B_ (oa v5 S) λbf=>B_ (l0 bf bi) λbF=>B_ (l0 aO.1 bf) λbC=>B_ (bI ([bF,W_ i64 (dt*bC)]:List Int).length 0) λ_=>B_ (idx [bF,W_ i64 (dt*bC)] (((0:Int).toNat:Nat):Int)) λbK=>B_ (bI ([bF,W_ i64 (dt*bC)]:List Int).length 1) λ_=>B_ (idx [bF,W_ i64 (dt*bC)] (((1:Int).toNat:Nat):Int)) λc3=>B_ (BN bK c3) λdQ=>B_ (aW (EG L dt S aO bi dQ) ([],0)) λhl=>B_ (wE hl) λiN=>some (iN.1,iN.2)
def agt:a4:=⟨106,[cu,eK,eK],[cw 65,ch],λx=>sj x.1 x.2.1 x.2.2⟩
noncomputable def agu:dp:=⟨Tryz.prog,oO,[yC,yD],[],[cv 2 0],[],[],[]⟩
def Xo:mG:=⟨195,false,nO agu Tryz.f195⟩
def asw{ag:Prop}:fb Tryz.prog Xo.f/\kZ ag Tryz.prog Xo:=HP (N:=agu) px ⟨BF,BG,trivial⟩ func195 (by kernel_rfl)
def asx{ag:Prop}:bl ag agt:=NO [yC,Xj,Xm,Xn,EE] [cF 10 [(18,cw 65),(70,a0)] 0 [(18,cw 65)]] [cv 2 0,cv 7 0,cv 13 0] [Xo] ⟨BF,agq,agr,ags,JF,trivial⟩ ⟨asw,trivial⟩
def uX(L:ao)(ay:ao)(S:Int):Option (Int⊕Unit⊕Int):=cond (d_ (S<(L.length:Int))) (B_ (idx L S) λaa=>cond (d_ (S>=(ay.length:Int))) (some (.inr (.inr 1))) (B_ (idx ay S) λaj=>B_ (wD aa aj) λap=>cond (ap !=0) (some (.inr (.inr ap))) (some (.inl (W_ i64 (S+1)))))) (some (.inr (.inl ())))
def BO(L:ao)(ay:ao):Option Int:=B_ (aW (uX L ay) 0) λv5=>match v5 with|.inl aN=>cond (d_ ((L.length:Int)<(ay.length:Int))) (some (-1)) (some 0)|.inr aO=>some aO
def agv:a4:=⟨107,[cu,cu,.f 108],[a0],λx=>BO x.1 x.2.1⟩
def asy{ag:Prop}:bl ag agv:=bp [W7] [⟨2,[(13,a0)],some (0,[]),some [(6,a0)],false,none⟩] [] ⟨Pj,trivial⟩
def Xp(L:ao)(ap:ao×Int):Option (ao×Int⊕ao⊕ao×Bool):=cond (d_ (ap.2<(([1,-1]:List Int).length:Int))) (B_ (idx [1,-1] ap.2) λv5=>B_ (sj L 0 v5) λaN=>cond (!aN.2) (some (.inr (.inr ([],false)))) (B_ (j3 ap.1) λ_=>B_ (BO aN.1 ap.1) λaO=>cond (d_ (aO<0)) (some (.inl (aN.1,W_ i64 (ap.2+1)))) (some (.inl (ap.1,W_ i64 (ap.2+1)))))) (some (.inr (.inl ap.1)))
def wF(L:ao)(bC:ao×Int)(dK:ao×Int):Option (ao×Int⊕ao⊕ao×Bool):=cond (d_ (dK.2<(([1,-1]:List Int).length:Int))) (B_ (idx [1,-1] dK.2) λdz=>B_ (sj L bC.2 dz) λdO=>cond (!dO.2) (some (.inr (.inr ([],false)))) (B_ (j3 dK.1) λ_=>B_ (BO dO.1 dK.1) λeU=>cond (d_ (eU<0)) (some (.inl (dO.1,W_ i64 (dK.2+1)))) (some (.inl (dK.1,W_ i64 (dK.2+1)))))) (some (.inr (.inl dK.1)))
def BP(L:ao)(bC:ao×Int):Option (ao×Int⊕ao⊕ao×Bool):=cond (d_ (bC.2<(L.length:Int))) (B_ (bI ([1,-1]:List Int).length 0) λ_=>B_ (idx [1,-1] (((0:Int).toNat:Nat):Int)) λbK=>B_ (sj L bC.2 bK) λc3=>cond (!c3.2) (some (.inr (.inr ([],false)))) (B_ (j3 bC.1) λ_=>B_ (BO c3.1 bC.1) λdQ=>cond (d_ (dQ<0)) (B_ (aW (wF L bC) (c3.1,W_ i64 (0+1))) λeM=>match eM with|.inl dP=>some (.inl (dP,W_ i64 (bC.2+1)))|.inr dR=>some (.inr (.inr (dR.1,dR.2)))) (B_ (aW (wF L bC) (bC.1,W_ i64 (0+1))) λkv=>match kv with|.inl kd=>some (.inl (kd,W_ i64 (bC.2+1)))|.inr hm=>some (.inr (.inr (hm.1,hm.2)))))) (some (.inr (.inl bC.1)))
def EH(L:ao):Option (ao×Bool):=B_ (kx L) λS=>cond (!S) (some ([],false)) (cond (d_ (0<(L.length:Int))) (B_ (bI ([1,-1]:List Int).length 0) λ_=>B_ (idx [1,-1] (((0:Int).toNat:Nat):Int)) λaa=>B_ (sj L 0 aa) λaj=>cond (!aj.2) (some ([],false)) (B_ (aW (Xp L) (aj.1,W_ i64 (0+1))) λbi=>match bi with|.inl bf=>(B_ (aW (BP L) (bf,W_ i64 (0+1))) λjq=>match jq with|.inl jV=>some (jV,true)|.inr jH=>some (jH.1,jH.2))|.inr bF=>some (bF.1,bF.2))) (some ([],true)))
def Xq:a4:=⟨41,[cu],[cw 65,ch],λx=>EH x⟩
def agw{ag:Prop}:bl ag Xq:=wi [] [(5,[]),(8,[])] [l1,agt,agv] [⟨5,[(4,cw 65),(15,a0)],some (0,[(4,cw 65)]),some [(2,cw 65),(3,ch)],false,none⟩,⟨8,[(4,cw 65),(20,a0)],some (2,[(4,cw 65)]),some [(2,cw 65),(3,ch)],false,none⟩] [] [] ⟨my,asx,asy,trivial⟩ trivial
def asz(L:ao)(S:Int×Int):Option (Int×Int⊕Int):=cond (d_ (S.2<(L.length:Int))) (B_ (idx L S.2) λaa=>B_ (gi .i64 (W_ i64 (S.2+1)) (L.length:Int)) λaj=>B_ (idx L aj) λap=>B_ (l0 aa ap) λv5=>some (.inl (W_ i64 (S.1+v5),W_ i64 (S.2+1)))) (some (.inr S.1))
def Xr(L:ao):Option Int:=B_ (aW (asz L) (0,0)) λaN=>some aN
def agx:a4:=⟨197,[cu],[a0],λx=>Xr x⟩
def asA{ag:Prop}:bl ag agx:=bp [yD] [cF 3 [(3,a0),(8,a0)] 0 [(3,a0)]] [] ⟨BG,trivial⟩
def oc(L:ao):Option Int:=B_ (kx L) λS=>cond (!S) (some (-1)) (B_ (Xr L) λaa=>some aa)
def BQ:a4:=⟨112,[cu],[a0],λx=>oc x⟩
def EI{ag:Prop}:bl ag BQ:=bp [l1,agx] [] [] ⟨my,asA,trivial⟩
def Pv(L:ao)(aa:Int×Int):Option (Int×Int⊕Int):=cond (d_ (aa.2<(L.length:Int))) (B_ (idx L aa.2) λaj=>B_ (gi .i64 (W_ i64 (aa.2+1)) (L.length:Int)) λap=>B_ (idx L ap) λv5=>B_ (oa v5 aj) λaN=>B_ (tz aN) λaO=>some (.inl (W_ i64 (aa.1+aO),W_ i64 (aa.2+1)))) (some (.inr aa.1))
def yE(L:ao):Option Int:=B_ (kx L) λS=>cond (!S) (some (-1)) (B_ (aW (Pv L) (0,0)) λbi=>some bi)
def JJ:a4:=⟨113,[cu],[a0],λx=>yE x⟩
def Pw{ag:Prop}:bl ag JJ:=bp [l1,yC,BL] [cF 5 [(3,a0),(11,a0)] 0 [(3,a0)]] [] ⟨my,BF,EF,trivial⟩
def yF(L:ao):Option Int:=B_ (kx L) λS=>cond (!S) (some (-1)) (B_ (oc L) λaa=>B_ (yE L) λaj=>B_ (gk .i64 (W_ i64 (W_ i64 (aa-aj)+2)) 2) λap=>some ap)
def Py:a4:=⟨114,[cu],[a0],λx=>yF x⟩
def Xs{ag:Prop}:bl ag Py:=bp [l1,BQ,JJ] [] [] ⟨my,EI,Pw,trivial⟩
def tB(L:ao)(ay:List Int)(S:Int×Int):Option (Int×Int⊕Int⊕Int):=cond (d_ (S.2<(L.length:Int))) (B_ (idx L S.2) λaa=>B_ (gi .i64 (W_ i64 (S.2+1)) (L.length:Int)) λaj=>B_ (idx L aj) λap=>B_ (uW aa ap ay) λv5=>cond (d_ (v5<0)) (some (.inr (.inr (-1)))) (cond (v5==0) (some (.inl (0,W_ i64 (S.2+1)))) (some (.inl (S.1,W_ i64 (S.2+1)))))) (some (.inr (.inl S.1)))
def sn(L:ao)(ay:List Int):Option Int:=B_ (aW (tB L ay) (1,0)) λaN=>match aN with|.inl aO=>some aO|.inr bi=>some bi
def Pz:a4:=⟨131,[cu,dE],[a0],λx=>sn x.1 x.2⟩
def Xt{ag:Prop}:bl ag Pz:=bp [Ey] [⟨3,[(5,a0),(11,a0)],some (0,[(5,a0)]),some [(4,a0)],false,none⟩] [] ⟨Jy,trivial⟩
def BR(L:ao)(ay:List Int):Option Int:=B_ (kx L) λS=>cond (!S) (some (-1)) (B_ (wB ay) λaa=>cond (!aa) (some (-1)) (cond ((ay.length:Int)!=2) (some (-1)) (B_ (sn L ay) λaj=>some aj)))
def Xu:a4:=⟨61,[cu,dE],[a0],λx=>BR x.1 x.2⟩
def agy{ag:Prop}:bl ag Xu:=bp [l1,BE,Pz] [] [] ⟨my,Ew,Xt,trivial⟩
def EJ(L:ao):Option Bool:=B_ (yF L) λS=>cond (S==1) (B_ (BR L [0,0]) λaa=>some (aa==1)) (some false)
def Xv:a4:=⟨109,[cu],[ch],λx=>EJ x⟩
def agz{ag:Prop}:bl ag Xv:=bp [Py,Xu] [] [] ⟨Xs,agy,trivial⟩
def PA(L:ao)(ay:Int):Option (List Int):=B_ (gi .i64 (W_ i64 (ay+1)) (L.length:Int)) λS=>B_ (idx L S) λaa=>B_ (idx L ay) λaj=>B_ (oa aa aj) λap=>B_ (tz ap) λv5=>B_ (bI ap.length 1) λ_=>B_ (idx ap (((1:Int).toNat:Nat):Int)) λaN=>B_ (gk .i64 aN v5) λaO=>B_ (bI ap.length 0) λ_=>B_ (idx ap (((0:Int).toNat:Nat):Int)) λbi=>B_ (gk .i64 (W_ i64 (0-bi)) v5) λbf=>some [aO,bf]
def agA:a4:=⟨110,[cu,eK],[cW 3],λx=>PA x.1 x.2⟩
def asB{ag:Prop}:bl ag agA:=bp [yC,BL] [] [cv 1 0,cv 3 0] ⟨BF,EF,trivial⟩
def BS(L:List Int)(ay:List Int)(S:Int×Int):Option (Int×Int⊕Int):=cond (d_ (S.2<(L.length:Int))) (B_ (idx L S.2) λaa=>B_ (idx ay S.2) λaj=>some (.inl (W_ i64 (S.1+W_ i64 (aa*aj)),W_ i64 (S.2+1)))) (some (.inr S.1))
def l2(L:List Int)(ay:List Int):Option Int:=B_ (aW (BS L ay) (0,0)) λap=>some ap
def yG:a4:=⟨111,[dE,dE],[a0],λx=>l2 x.1 x.2⟩
def BT{ag:Prop}:bl ag yG:=bp [] [cF 3 [(5,a0),(9,a0)] 0 [(5,a0)]] [cv 5 0] trivial
def PB(L:ao)(aa:ao×Int):Option (ao×Int⊕ao⊕ao×Bool):=cond (d_ (aa.2<(L.length:Int))) (B_ (idx L aa.2) λaj=>B_ (PA L aa.2) λap=>B_ (l2 ap aj) λv5=>cond (v5 !=1) (some (.inr (.inr ([],false)))) (B_ (bN 24 aa.1 [ap]) λaN=>some (.inl (aN,W_ i64 (aa.2+1))))) (some (.inr (.inl aa.1)))
def EK(L:ao):Option (ao×Bool):=B_ (EJ L) λS=>cond (!S) (some ([],false)) (B_ (aW (PB L) ([],0)) λaO=>match aO with|.inl bi=>B_ (wE bi) λbF=>some (bF.1,bF.2)|.inr bf=>some (bf.1,bf.2))
def Xw:a4:=⟨42,[cu],[cw 65,ch],λx=>EK x⟩
def agB{ag:Prop}:bl ag Xw:=bp [Xv,agA,yG,EE] [⟨5,[(4,cw 65),(13,a0)],some (0,[(4,cw 65)]),some [(2,cw 65),(3,ch)],false,none⟩] [] ⟨agz,asB,BT,JF,trivial⟩
def JK(ay:ao)(ap:List Int)(v5:ao×Int):Option (ao×Int⊕ao):=cond (d_ (v5.2<(ay.length:Int))) (B_ (idx ay v5.2) λaN=>B_ (idx ap 0) λaO=>B_ (idx aN 0) λbi=>B_ (idx ap 1) λbf=>B_ (idx aN 1) λbF=>B_ (bN 24 v5.1 [[W_ i64 (aO+bi),W_ i64 (bf+bF)]]) λbC=>some (.inl (bC,W_ i64 (v5.2+1)))) (some (.inr v5.1))
def PC(L:ao)(ay:ao)(aj:ao×Int):Option (ao×Int⊕ao):=cond (d_ (aj.2<(L.length:Int))) (B_ (idx L aj.2) λap=>B_ (aW (JK ay ap) (aj.1,0)) λbK=>some (.inl (bK,W_ i64 (aj.2+1)))) (some (.inr aj.1))
def JL(L:ao)(ay:ao):Option (ao×Bool):=B_ (kx L) λS=>cond (!S) (some ([],false)) (B_ (kx ay) λaa=>cond (!aa) (some ([],false)) (B_ (aW (PC L ay) ([],0)) λc3=>B_ (wE c3) λdQ=>some (dQ.1,dQ.2)))
def Xx:a4:=⟨43,[cu,cu],[cw 65,ch],λx=>JL x.1 x.2⟩
def agC{ag:Prop}:bl ag Xx:=bp [l1,EE] [cF 5 [(6,cw 65),(21,a0)] 0 [(6,cw 65)],cF 8 [(6,cw 65),(27,a0)] 2 [(6,cw 65)]] [cv 10 0] ⟨my,JF,trivial⟩
def PD(L:ao)(ay:Int):Option Int:=B_ (yE L) λS=>B_ (oc L) λaa=>B_ (gk .i64 (W_ i64 (W_ i64 (2+W_ i64 (S*ay))+W_ i64 (W_ i64 (aa*ay)*ay))) 2) λaj=>some aj
def agF:a4:=⟨129,[cu,eK],[a0],λx=>PD x.1 x.2⟩
def asC{ag:Prop}:bl ag agF:=bp [JJ,BQ] [] [] ⟨Pw,EI,trivial⟩
def yH(L:ao)(ay:Int):Option Int:=B_ (kx L) λS=>cond (!S) (some (-1)) (B_ (nu ay (-1000) 1000) λaa=>cond (!aa) (some (-1)) (B_ (PD L ay) λaj=>some aj))
def PE:a4:=⟨60,[cu,eK],[a0],λx=>yH x.1 x.2⟩
def Xy{ag:Prop}:bl ag PE:=bp [l1,q4,agF] [] [] ⟨my,sf,asC,trivial⟩
def PF(L:ao):Option (List Int):=B_ (kx L) λS=>cond (!S) (some []) (B_ (yH L 1) λaa=>B_ (yF L) λaj=>some [1,W_ i64 (aa-3),aj])
def agG:a4:=⟨115,[cu],[cW 3],λx=>PF x⟩
def asD{ag:Prop}:bl ag agG:=bp [l1,PE,Py] [] [] ⟨my,Xy,Xs,trivial⟩
def JM(ay:List Int)(S:ao×Int)(aj:List Int)(v5:ao×Int):Option (ao×Int⊕ao):=B_ (idx ay S.2) λaN=>cond (d_ (v5.2<=aN)) (B_ (oP aj) λaO=>B_ (bN 8 aO [v5.2]) λbi=>B_ (bN 24 v5.1 [bi]) λbf=>some (.inl (bf,W_ i64 (v5.2+1)))) (some (.inr v5.1))
def JN(L:List Int)(ay:List Int)(S:ao×Int)(aa:ao×Int):Option (ao×Int⊕ao):=cond (d_ (aa.2<(S.1.length:Int))) (B_ (idx S.1 aa.2) λaj=>B_ (idx L S.2) λap=>B_ (aW (JM ay S aj) (aa.1,ap)) λbF=>some (.inl (bF,W_ i64 (aa.2+1)))) (some (.inr aa.1))
def PG(L:List Int)(ay:List Int)(S:ao×Int):Option (ao×Int⊕ao):=cond (d_ (S.2<(L.length:Int))) (B_ (aW (JN L ay S) ([],0)) λbC=>some (.inl (bC,W_ i64 (S.2+1)))) (some (.inr S.1))
def wG(L:List Int)(ay:List Int):Option ao:=B_ (aW (PG L ay) ([[]],0)) λbK=>some bK
def JO:a4:=⟨200,[dE,dE],[cw 65],λx=>wG x.1 x.2⟩
def PH{ag:Prop}:bl ag JO:=bp [wz] [cF 3 [(5,cw 65),(14,a0)] 0 [(5,cw 65)],cF 7 [(7,cw 65),(19,a0)] 2 [(7,cw 65)],cF 10 [(7,cw 65),(10,a0)] 4 [(7,cw 65)]] [] ⟨yz,trivial⟩
def PI(S:ao)(aa:ao×Int):Option (ao×Int⊕ao):=cond (d_ (aa.2<(S.length:Int))) (B_ (idx S aa.2) λaj=>B_ (idx aj 0) λap=>cond (d_ (ap>0)) (B_ (bN 24 aa.1 [aj]) λv5=>some (.inl (v5,W_ i64 (aa.2+1)))) (B_ (idx aj 1) λaN=>cond (d_ (aN>0)) (B_ (bN 24 aa.1 [aj]) λaO=>some (.inl (aO,W_ i64 (aa.2+1)))) (some (.inl (aa.1,W_ i64 (aa.2+1)))))) (some (.inr aa.1))
def JP:Option ao:=B_ (wG [0,-12] [12,12]) λS=>B_ (aW (PI S) ([],0)) λbi=>some bi
def Xz:a4:=⟨120,[],[.l (.o false 65 bG)],λx=>JP⟩
def agH{ag:Prop}:bl ag Xz:=bp [JO] [cF 3 [(1,.l (.o false 65 bG)),(8,a0)] 0 [(1,.l (.o false 65 bG))]] [] ⟨PH,trivial⟩
def PJ(L:ao)(ay:List Int)(aj:Int×Int):Option (Int×Int⊕Int):=cond (d_ (aj.2<(L.length:Int))) (B_ (idx L aj.2) λap=>B_ (l2 ay ap) λv5=>some (.inl (if v5>aj.1 then v5 else aj.1,W_ i64 (aj.2+1)))) (some (.inr aj.1))
def EL(L:ao)(ay:List Int):Option Int:=B_ (idx L 0) λS=>B_ (l2 ay S) λaa=>B_ (aW (PJ L ay) (aa,0)) λaN=>some aN
def XA:a4:=⟨134,[cu,dE],[a0],λx=>EL x.1 x.2⟩
def agI{ag:Prop}:bl ag XA:=bp [yG] [cF 3 [(5,a0),(15,a0)] 0 [(5,a0)]] [] ⟨BT,trivial⟩
def oT(L:ao)(ay:List Int):Option Int:=B_ (kx L) λS=>cond (!S) (some (-1)) (B_ (wB ay) λaa=>cond (!aa) (some (-1)) (cond ((ay.length:Int)!=2) (some (-1)) (B_ (EL L ay) λaj=>B_ (idx ay 0) λap=>B_ (idx ay 1) λv5=>B_ (EL L [W_ i64 (0-ap),W_ i64 (0-v5)]) λaN=>some (W_ i64 (aj+aN)))))
def PK:a4:=⟨121,[cu,dE],[a0],λx=>oT x.1 x.2⟩
def XB{ag:Prop}:bl ag PK:=bp [l1,BE,XA] [] [cv 3 0] ⟨my,Ew,agI,trivial⟩
def EM(L:ao)(S:ao)(aa:Int×Int):Option (Int×Int⊕Int):=cond (d_ (aa.2<(S.length:Int))) (B_ (idx S aa.2) λaj=>B_ (oT L aj) λap=>cond (d_ (aa.1<0)) (some (.inl (ap,W_ i64 (aa.2+1)))) (cond (d_ (ap<aa.1)) (some (.inl (ap,W_ i64 (aa.2+1)))) (some (.inl (aa.1,W_ i64 (aa.2+1)))))) (some (.inr aa.1))
def so(L:ao):Option Int:=B_ JP λS=>B_ (aW (EM L S) (-1,0)) λv5=>some v5
def PL:a4:=⟨47,[cu],[a0],λx=>so x⟩
def XC{ag:Prop}:bl ag PL:=bp [Xz,PK] [cF 3 [(3,a0),(9,a0)] 0 [(3,a0)]] [] ⟨agH,XB,trivial⟩
def yI(L:List Int×List Int):Option Bool:=B_ (wC L.1 30) λS=>cond S (B_ (wC L.2 30) λaa=>cond aa (B_ (tz L.1) λaj=>cond (aj==1) (B_ (tz L.2) λap=>cond (ap==1) (B_ (l0 L.1 L.2) λv5=>some (d_ (v5>0))) (some false)) (some false)) (some false)) (some false)
def JQ:a4:=⟨68,[.d false (.prod bG bG)],[ch],λx=>yI x⟩
def PM{ag:Prop}:bl ag JQ:=bp [Ex,BL,yD] [] [] ⟨Jw,EF,BG,trivial⟩
def EN(L:ao)(ay:Int):Option ((List Int×List Int)×Bool):=B_ (kx L) λS=>cond (!S) (some (([],[]),false)) (B_ (nu ay 0 (W_ i64 ((L.length:Int)-1))) λaa=>cond (!aa) (some (([],[]),false)) (B_ (gi .i64 (W_ i64 (ay+1)) (L.length:Int)) λaj=>B_ (idx L aj) λap=>B_ (idx L ay) λv5=>B_ (oa ap v5) λaN=>B_ (BM aN) λaO=>B_ (gi .i64 (W_ i64 (W_ i64 (ay+(L.length:Int))-1)) (L.length:Int)) λbi=>B_ (idx L bi) λbf=>B_ (idx L ay) λbF=>B_ (oa bf bF) λbC=>B_ (BM bC) λbK=>B_ (yI (aO.1,bK.1)) λc3=>cond (!c3) (some (([],[]),false)) (some ((aO.1,bK.1),true))))
def XD:a4:=⟨122,[cu,eK],[.a [.o true 3 bH,.o true 3 bH],ch],λx=>EN x.1 x.2⟩
def agJ{ag:Prop}:bl ag XD:=bp [l1,q4,yC,Xj,JQ] [] [cv 4 0,cv 5 0] ⟨my,sf,BF,agq,PM,trivial⟩
def sp(L:List Int×List Int):Option Int:=B_ (yI (L.1,L.2)) λS=>cond (!S) (some 0) (B_ (l0 L.1 L.2) λaa=>some aa)
def XE:a4:=⟨123,[.d false (.prod bG bG)],[a0],λx=>sp x⟩
def agK{ag:Prop}:bl ag XE:=bp [JQ,yD] [] [] ⟨PM,BG,trivial⟩
def EO(L:ao)(aa:Int×Int):Option (Int×Int⊕Int⊕Int):=cond (d_ (aa.2<(L.length:Int))) (B_ (EN L aa.2) λaj=>cond (!aj.2) (some (.inr (.inr (-1)))) (B_ (sp (aj.1.1,aj.1.2)) λap=>cond (ap==1) (some (.inl (W_ i64 (aa.1+1),W_ i64 (aa.2+1)))) (some (.inl (aa.1,W_ i64 (aa.2+1)))))) (some (.inr (.inl aa.1)))
def EP(L:ao):Option Int:=B_ (kx L) λS=>cond (!S) (some (-1)) (B_ (aW (EO L) (0,0)) λv5=>match v5 with|.inl aN=>some aN|.inr aO=>some aO)
def agL:a4:=⟨116,[cu],[a0],λx=>EP x⟩
def asE{ag:Prop}:bl ag agL:=bp [l1,XD,XE] [⟨5,[(3,a0),(12,a0)],some (0,[(3,a0)]),some [(2,a0)],false,none⟩] [] ⟨my,agJ,agK,trivial⟩
def XF(L:List Int)(ay:List Int)(S:Int):Option (Int⊕Unit⊕Bool):=cond (d_ (S<(L.length:Int))) (B_ (idx L S) λaa=>B_ (idx ay S) λaj=>cond (aa !=aj) (some (.inr (.inr false))) (some (.inl (W_ i64 (S+1))))) (some (.inr (.inl ())))
def BU(L:List Int)(ay:List Int):Option Bool:=cond ((L.length:Int)!=(ay.length:Int)) (some false) (B_ (aW (XF L ay) 0) λap=>match ap with|.inl v5=>some true|.inr aN=>some aN)
def PN:a4:=⟨165,[dE,dE],[ch],λx=>BU x.1 x.2⟩
def XG{ag:Prop}:bl ag PN:=bp [] [⟨4,[(13,a0)],some (0,[]),some [(4,ch)],false,none⟩] [cv 6 0] trivial
def PO(L:ao)(S:ao×Bool)(aa:Int):Option (Int⊕Unit⊕Bool):=cond (d_ (aa<(L.length:Int))) (B_ (idx L aa) λaj=>B_ (idx S.1 aa) λap=>B_ (oa aj ap) λv5=>B_ (idx L 0) λaN=>B_ (idx S.1 0) λaO=>B_ (oa aN aO) λbi=>B_ (BU v5 bi) λbf=>cond (!bf) (some (.inr (.inr false))) (some (.inl (W_ i64 (aa+1))))) (some (.inr (.inl ())))
def EQ(L:ao):Option Bool:=B_ (JG L) λS=>cond (!S.2) (some false) (B_ (aW (PO L S) 0) λbF=>match bF with|.inl bC=>some true|.inr bK=>some bK)
def agM:a4:=⟨117,[cu],[ch],λx=>EQ x⟩
def asF{ag:Prop}:bl ag agM:=bp [Xf,yC,PN] [⟨5,[(16,a0)],some (0,[]),some [(2,ch)],false,none⟩] [cv 7 0] ⟨agm,BF,XG,trivial⟩
def PP(L:ao):Option ByteArray:=B_ (kx L) λS=>cond (!S) (some ⟨#[]⟩) (B_ (oc L) λaa=>B_ (lu aa) λaj=>B_ (fG ⟨#[97,114,101,97,32]⟩ aj) λap=>B_ (fG ap ⟨#[32,98,111,117,110,100,97,114,121,32]⟩) λv5=>B_ (yE L) λaN=>B_ (lu aN) λaO=>B_ (fG v5 aO) λbi=>B_ (fG bi ⟨#[32,105,110,110,101,114,32]⟩) λbf=>B_ (yF L) λbF=>B_ (lu bF) λbC=>B_ (fG bf bC) λbK=>B_ (yH L 1) λc3=>B_ (lu c3) λdQ=>B_ (fG ⟨#[32,112,111,105,110,116,115,32]⟩ dQ) λdK=>B_ (fG dK ⟨#[32,116,111,112,32]⟩) λdz=>B_ (PF L) λdO=>B_ (si dO) λeU=>B_ (fG dz eU) λeM=>B_ (fG eM ⟨#[32,119,105,100,116,104,32]⟩) λdP=>B_ (so L) λdR=>B_ (lu dR) λg0=>B_ (fG dP g0) λhk=>B_ (fG hk ⟨#[32,115,109,111,111,116,104,32]⟩) λhl=>B_ (EP L) λiN=>B_ (lu iN) λkv=>B_ (fG hl kv) λkd=>B_ (fG bK kd) λhm=>B_ (EJ L) λjq=>cond jq (B_ (fG hm ⟨#[32,114,101,102,108,101,120,105,118,101]⟩) λjV=>B_ (EQ L) λjH=>cond jH (B_ (fG jV ⟨#[32,115,121,109,109,101,116,114,105,99]⟩) λtv=>some tv) (some jV)) (B_ (fG hm ⟨#[32,111,116,104,101,114]⟩) λuR=>B_ (EQ L) λuS=>cond uS (B_ (fG uR ⟨#[32,115,121,109,109,101,116,114,105,99]⟩) λnt=>some nt) (some uR)))
def agN:a4:=⟨44,[cu],[gZ],λx=>PP x⟩
def asG:bl False agN:=bp [l1,BQ,JB,JJ,Py,PE,agG,EC,PL,agL,Xv,agM] [] [] ⟨my,EI,Pk,Pw,Xs,Xy,asD,JC,XC,asE,agz,asF,trivial⟩
def JR(v5:List Int×List Int×Int)(aN:List Int)(aO:List Int×List Int×Int):Option (List Int×List Int×Int⊕List Int×List Int):=cond (d_ (aO.2.2<(v5.1.length:Int))) (B_ (bI aO.1.length aO.2.2) λ_=>B_ (idx aO.1 ((aO.2.2.toNat:Nat):Int)) λbi=>B_ (idx aN aO.2.2) λbf=>B_ (bI aO.2.1.length aO.2.2) λ_=>B_ (idx aO.2.1 ((aO.2.2.toNat:Nat):Int)) λbF=>B_ (idx aN aO.2.2) λbC=>B_ (bI aO.1.length aO.2.2) λ_=>B_ (bI aO.1.length ((aO.2.2.toNat:Nat):Int)) λ_=>B_ (bI aO.2.1.length aO.2.2) λ_=>B_ (bI aO.2.1.length ((aO.2.2.toNat:Nat):Int)) λ_=>some (.inl (aO.1.set aO.2.2.toNat (if bf<bi then bf else bi),(aO.2.1.set aO.2.2.toNat (if bC>bF then bC else bF),W_ i64 (aO.2.2+1))))) (some (.inr (aO.1,aO.2.1)))
def ER(L:ao)(v5:List Int×List Int×Int):Option (List Int×List Int×Int⊕List Int×List Int):=cond (d_ (v5.2.2<(L.length:Int))) (B_ (idx L v5.2.2) λaN=>B_ (aW (JR v5 aN) (v5.1,(v5.2.1,0))) λbK=>some (.inl (bK.1,(bK.2,W_ i64 (v5.2.2+1))))) (some (.inr (v5.1,v5.2.1)))
def BV(L:ao)(hk:List Int)(iN:Int):Option (Int⊕Unit⊕Int):=cond (d_ (iN<(L.length:Int))) (B_ (idx L iN) λkv=>B_ (BU kv hk) λkd=>cond kd (some (.inr (.inr iN))) (some (.inl (W_ i64 (iN+1))))) (some (.inr (.inl ())))
def agO(L:ao)(eU:List Int)(eM:List Int)(dP:List Int)(dR:ao)(g0:Int):Option (Int⊕Unit⊕List Int):=cond (d_ (g0<(dR.length:Int))) (B_ (idx dR g0) λhk=>B_ (sn [eU,eM,dP] hk) λhl=>cond (d_ (hl>=0)) (B_ (aW (BV L hk) 0) λhm=>match hm with|.inl jq=>cond (!d_ (-1>=0)) (some (.inr (.inr hk))) (some (.inl (W_ i64 (g0+1))))|.inr jV=>cond (!d_ (jV>=0)) (some (.inr (.inr hk))) (some (.inl (W_ i64 (g0+1))))) (some (.inl (W_ i64 (g0+1))))) (some (.inr (.inl ())))
def asH(L:ao)(q5:List Int)(ES:Int):Option (Int⊕Unit⊕Int):=cond (d_ (ES<(L.length:Int))) (B_ (idx L ES) λJS=>B_ (BU JS q5) λXH=>cond XH (some (.inr (.inr ES))) (some (.inl (W_ i64 (ES+1))))) (some (.inr (.inl ())))
def agP(L:ao)(uS:ao)(nt:Int):Option (Int⊕Unit⊕List Int):=cond (d_ (nt<(uS.length:Int))) (B_ (idx uS nt) λq5=>B_ (sn L q5) λuY=>cond (d_ (uY>=0)) (B_ (aW (asH L q5) 0) λJT=>match JT with|.inl JU=>cond (!d_ (-1>=0)) (some (.inr (.inr q5))) (some (.inl (W_ i64 (nt+1))))|.inr JV=>cond (!d_ (JV>=0)) (some (.inr (.inr q5))) (some (.inl (W_ i64 (nt+1))))) (some (.inl (W_ i64 (nt+1))))) (some (.inr (.inl ())))
def PQ(L:ao):Option (List Int):=B_ (idx L 0) λS=>B_ (oP S) λaa=>B_ (idx L 0) λaj=>B_ (oP aj) λap=>B_ (aW (ER L) (aa,(ap,0))) λc3=>B_ (idx L 0) λdQ=>B_ (idx L 1) λdK=>B_ (idx L 2) λdz=>B_ (uW dQ dK dz) λdO=>cond (d_ (dO<0)) (B_ (idx L 0) λeU=>B_ (idx L 2) λeM=>B_ (idx L 1) λdP=>B_ (wG c3.1 c3.2) λdR=>B_ (aW (agO L eU eM dP dR) 0) λjH=>match jH with|.inl tv=>some []|.inr uR=>B_ (j3 uR) λ_=>some uR) (B_ (wG c3.1 c3.2) λuS=>B_ (aW (agP L uS) 0) λXI=>match XI with|.inl PR=>some []|.inr PS=>B_ (j3 PS) λ_=>some PS)
def agQ:a4:=⟨250,[cu],[.l (.d true bG)],λx=>PQ x⟩
noncomputable def agR:dp:=⟨Tryz.prog,oO,[PN],[],[],[],[],[]⟩
def XJ:mG:=⟨312,true,nO agR Tryz.f312⟩
def asI{ag:Prop}:fb Tryz.prog XJ.f/\kZ ag Tryz.prog XJ:=adH (N:=agR) px ⟨XG,trivial⟩ func312 (by kernel_rfl) (by kernel_rfl) rfl
noncomputable def agS:dp:=⟨Tryz.prog,oO,[],[⟨2,[(8,a0)],some (0,[]),some [(4,a0)],false,none⟩],[],[XJ],[],[]⟩
def XK:mG:=⟨344,true,DN (nO agS Tryz.f344)⟩
def asJ{ag:Prop}:fb Tryz.prog XK.f/\kZ ag Tryz.prog XK:=apR (N:=agS) px trivial func344 (by kernel_rfl) ⟨asI,trivial⟩
noncomputable def agT:dp:=⟨Tryz.prog,oO,[],[],[],[XK],[],[]⟩
def XL:mG:=⟨311,false,nO agT Tryz.f311⟩
def asK{ag:Prop}:fb Tryz.prog XL.f/\kZ ag Tryz.prog XL:=HP (N:=agT) px trivial func311 (by kernel_rfl) ⟨asJ,trivial⟩
def asL{ag:Prop}:bl ag agQ:=wi [] [(8,[0,1,2,3,4,5,8,9,13,14,17,18,6,7,10,11,12,15,16,19,20,21,22,23,24,25])] [wz,Ey,JO,Pz] [cF 3 [(3,cW 3),(4,cW 3),(21,a0)] 0 [(3,cW 3),(4,cW 3)],cF 6 [(3,cW 3),(4,cW 3),(27,a0)] 2 [(3,cW 3),(4,cW 3)],⟨15,[(82,a0)],some (4,[]),some [(2,wh)],false,none⟩] [cv 1 0,cv 8 0,cv 12 0,cv 13 0] [XL] ⟨yz,Jy,PH,Xt,trivial⟩ ⟨asK,trivial⟩
def PT(rec:ao->Option (List ao))(L:ao)(S:List Int)(aj:List ao×Int):Option (List ao×Int⊕List ao):=cond (d_ (aj.2<(L.length:Int))) (B_ (idx L aj.2) λap=>B_ (gi .i64 (W_ i64 (aj.2+1)) 3) λv5=>B_ (idx L v5) λaN=>B_ (uW S ap aN) λaO=>cond (aO !=0) (B_ (rec [S,ap,aN]) λbi=>B_ (bN 24 aj.1 bi) λbf=>some (.inl (bf,W_ i64 (aj.2+1)))) (some (.inl (aj.1,W_ i64 (aj.2+1))))) (some (.inr aj.1))
def JW(rec:ao->Option (List ao))(L:ao):Option (List ao):=B_ (PQ L) λS=>cond S.isEmpty (B_ (oR L) λaa=>some [aa]) (B_ (aW (PT rec L S) ([],0)) λbF=>some bF)
def wH:Nat->ao->Option (List ao)|0=>λ_=>none|n+1=>JW (wH n)
def XM(L:ao):Option (List ao):=wH 30000 L
def XN:a4:=⟨199,[cu],[.l (.o true 24 fi)],λx=>XM x⟩
def tD(rec:ao->Option (List ao)):a4:=⟨199,[.d false fi],[.l (.o true 24 fi)],λx=>rec x⟩
def agU(rec:ao->Option (List ao)):dp:=⟨Tryz.prog,oO,[agQ,Eu,Ey,tD rec],[cF 6 [(4,.l (.o true 24 fi)),(17,a0)] 0 [(4,.l (.o true 24 fi))]],[cv 8 0],[],[],[]⟩
def asM(rec:ao->Option (List ao))(x:jh.den (tD rec).ps):xq (agU rec) Tryz.f199 (tD rec).ps (tD rec).rs x=(tD (JW rec)).F x:=by kernel_rfl
def asN{ag:Prop}(rec:ao->Option (List ao))(c:fb Tryz.prog (tD rec).f/\gt ag Tryz.prog (tD rec)):fb Tryz.prog (tD (JW rec)).f/\gt ag Tryz.prog (tD (JW rec)):=HQ (N:=agU rec) px ⟨asL,Jp,Jy,c,trivial⟩ func199 (by kernel_rfl) (asM rec)
def agV{ag:Prop}:(n:Nat)->fb Tryz.prog (tD (wH n)).f/\gt ag Tryz.prog (tD (wH n))|0=>⟨⟨Tryz.f199,_,func199,by kernel_rfl,rfl⟩,λx r c=>by cases c⟩|n+1=>asN _ (agV n)
def asO{ag:Prop}:fb Tryz.prog XN.f/\gt ag Tryz.prog XN:=agV 30000
def PU(L:ao)(aj:List ao×Int):Option (List ao×Int⊕List ao):=cond (d_ (W_ i64 (aj.2+1)<(L.length:Int))) (B_ (idx L 0) λap=>B_ (idx L aj.2) λv5=>B_ (idx L (W_ i64 (aj.2+1))) λaN=>B_ (XM [ap,v5,aN]) λaO=>B_ (bN 24 aj.1 aO) λbi=>some (.inl (bi,W_ i64 (aj.2+1)))) (some (.inr aj.1))
def PV(L:ao):Option (List ao):=B_ (kx L) λS=>cond (!S) (some []) (B_ (oc L) λaa=>cond (d_ (aa>200)) (some []) (B_ (aW (PU L) ([],1)) λbf=>B_ (j3 bf) λ_=>some bf))
def agW:a4:=⟨119,[cu],[.l (.d true (.list fi))],λx=>PV x⟩
def asP{ag:Prop}:bl ag agW:=bp [l1,BQ,XN] [cF 5 [(3,.l (.o true 24 fi)),(4,a0)] 0 [(3,.l (.o true 24 fi))]] [cv 7 0] ⟨my,EI,asO,trivial⟩
def PW(L:ao):Option Int:=B_ (PV L) λS=>cond S.isEmpty (some (-1)) (some (S.length:Int))
def agX:a4:=⟨46,[cu],[a0],λx=>PW x⟩
def asQ{ag:Prop}:bl ag agX:=bp [agW] [] [] ⟨asP,trivial⟩
def PX(L:ao)(S:Int)(aa:ao)(aj:ao×Int):Option (ao×Int⊕ao):=cond (d_ (aj.2<(aa.length:Int))) (B_ (idx aa aj.2) λap=>B_ (oT L ap) λv5=>cond (v5==S) (B_ (bN 24 aj.1 [ap]) λaN=>some (.inl (aN,W_ i64 (aj.2+1)))) (some (.inl (aj.1,W_ i64 (aj.2+1))))) (some (.inr aj.1))
def BW(L:ao):Option ao:=B_ (so L) λS=>cond (d_ (S<0)) (some []) (B_ JP λaa=>B_ (aW (PX L S aa) ([],0)) λaO=>some aO)
def agY:a4:=⟨50,[cu],[.l (.o false 65 bG)],λx=>BW x⟩
def asR{ag:Prop}:bl ag agY:=bp [PL,Xz,PK] [cF 6 [(4,.l (.o false 65 bG)),(13,a0)] 0 [(4,.l (.o false 65 bG))]] [] ⟨XC,agH,XB,trivial⟩
def JX(L:ao)(S:List ByteArray×Int):Option (List ByteArray×Int⊕List ByteArray):=cond (d_ (S.2<(L.length:Int))) (B_ (idx L S.2) λaa=>B_ (JD aa) λaj=>B_ (bN 16 S.1 [aj]) λap=>some (.inl (ap,W_ i64 (S.2+1)))) (some (.inr S.1))
def ET(L:ao):Option ByteArray:=B_ (aW (JX L) ([],0)) λv5=>B_ (ty v5 ⟨#[32]⟩) λaN=>some aN
def agZ:a4:=⟨49,[cu],[gZ],λx=>ET x⟩
def asS:bl False agZ:=bp [Xb,Jr] [cF 3 [(3,lY 9),(8,a0)] 0 [(3,lY 9)]] [] ⟨agj,Pf,trivial⟩
def tE(L:ByteArray)(ay:ByteArray):Option ByteArray:=cond (L.toList==(⟨#[]⟩:ByteArray).toList) (some ay) (some L)
def XO:a4:=⟨48,[jF,jF],[gZ],λx=>tE x.1 x.2⟩
def ag0{ag:Prop}:bl ag XO:=bp [] [] [] trivial
def BX(L:ao)(S:List Int×Int):Option (List Int×Int⊕List Int⊕ByteArray):=cond (d_ (S.2<(L.length:Int))) (B_ (EN L S.2) λaa=>cond (!aa.2) (some (.inr (.inr ⟨#[110,111]⟩))) (B_ (sp (aa.1.1,aa.1.2)) λaj=>B_ (bN 8 S.1 [aj]) λap=>some (.inl (ap,W_ i64 (S.2+1))))) (some (.inr (.inl S.1)))
def PY(L:ao):Option ByteArray:=B_ (aW (BX L) ([],0)) λv5=>match v5 with|.inl aN=>B_ (si aN) λbi=>B_ (tE bi ⟨#[110,111]⟩) λbf=>some bf|.inr aO=>some aO
def ag1:a4:=⟨51,[cu],[gZ],λx=>PY x⟩
def asT:bl False ag1:=bp [XD,XE,EC,XO] [⟨3,[(3,cW 3),(9,a0)],some (0,[(3,cW 3)]),some [(2,gZ)],false,none⟩] [] ⟨agJ,agK,JC,ag0,trivial⟩
def EU(L:ao)(ay:ao):Option Int:=B_ (JL L ay) λS=>cond (!S.2) (some (-1)) (B_ (oc S.1) λaa=>B_ (oc L) λaj=>B_ (oc ay) λap=>some (W_ i64 (W_ i64 (aa-aj)-ap)))
def ag2:a4:=⟨52,[cu,cu],[a0],λx=>EU x.1 x.2⟩
def asU{ag:Prop}:bl ag ag2:=bp [Xx,BQ] [] [] ⟨agC,EI,trivial⟩
def XP(L:ao)(ay:ao)(S:Int):Option (Int⊕Unit⊕Bool):=cond (d_ (S<(L.length:Int))) (B_ (idx L S) λaa=>B_ (idx ay S) λaj=>B_ (BU aa aj) λap=>cond (!ap) (some (.inr (.inr false))) (some (.inl (W_ i64 (S+1))))) (some (.inr (.inl ())))
def PZ(L:ao)(ay:ao):Option Bool:=cond ((L.length:Int)!=(ay.length:Int)) (some false) (B_ (aW (XP L ay) 0) λv5=>match v5 with|.inl aN=>some true|.inr aO=>some aO)
def ag3:a4:=⟨164,[cu,cu,.f 165],[ch],λx=>PZ x.1 x.2.1⟩
def asV{ag:Prop}:bl ag ag3:=bp [PN] [⟨4,[(17,a0)],some (0,[]),some [(6,ch)],false,none⟩] [] ⟨XG,trivial⟩
def BY(L:ao)(ay:ao):Option Bool:=B_ (PZ L ay) λS=>some S
def XQ:a4:=⟨78,[cu,cu],[ch],λx=>BY x.1 x.2⟩
def ag4{ag:Prop}:bl ag XQ:=bp [ag3] [] [] ⟨asV,trivial⟩
def BZ(L:ao)(ay:ao):Option Bool:=B_ (EH L) λS=>B_ (EH ay) λaa=>cond S.2 (cond aa.2 (B_ (BY S.1 aa.1) λaj=>some aj) (some false)) (some false)
def ag5:a4:=⟨53,[cu,cu],[ch],λx=>BZ x.1 x.2⟩
def asW{ag:Prop}:bl ag ag5:=bp [Xq,XQ] [] [] ⟨agw,ag4,trivial⟩
def EV(L:ao):Option Int:=B_ (EK L) λS=>cond (!S.2) (some (-1)) (B_ (yE L) λaa=>B_ (yE S.1) λaj=>some (W_ i64 (aa+aj)))
def ag6:a4:=⟨54,[cu],[a0],λx=>EV x⟩
def asX{ag:Prop}:bl ag ag6:=bp [Xw,JJ] [] [] ⟨agB,Pw,trivial⟩
def JY(L:Int):Option ByteArray:=B_ (nu L 1 (([⟨#[48,44,48,32,49,44,48,32,48,44,49]⟩,⟨#[48,44,48,32,50,44,48,32,48,44,50]⟩,⟨#[45,49,44,45,49,32,49,44,45,49,32,49,44,49,32,45,49,44,49]⟩,⟨#[48,44,48,32,51,44,48,32,49,44,50]⟩,⟨#[45,49,44,45,49,32,50,44,45,49,32,45,49,44,50]⟩,⟨#[48,44,48,32,53,44,50,32,51,44,52]⟩]:List ByteArray).length:Int)) λS=>cond (!S) (some ⟨#[]⟩) (B_ (bI ([⟨#[48,44,48,32,49,44,48,32,48,44,49]⟩,⟨#[48,44,48,32,50,44,48,32,48,44,50]⟩,⟨#[45,49,44,45,49,32,49,44,45,49,32,49,44,49,32,45,49,44,49]⟩,⟨#[48,44,48,32,51,44,48,32,49,44,50]⟩,⟨#[45,49,44,45,49,32,50,44,45,49,32,45,49,44,50]⟩,⟨#[48,44,48,32,53,44,50,32,51,44,52]⟩]:List ByteArray).length (W_ i64 (L-1))) λ_=>B_ (idx [⟨#[48,44,48,32,49,44,48,32,48,44,49]⟩,⟨#[48,44,48,32,50,44,48,32,48,44,50]⟩,⟨#[45,49,44,45,49,32,49,44,45,49,32,49,44,49,32,45,49,44,49]⟩,⟨#[48,44,48,32,51,44,48,32,49,44,50]⟩,⟨#[45,49,44,45,49,32,50,44,45,49,32,45,49,44,50]⟩,⟨#[48,44,48,32,53,44,50,32,51,44,52]⟩] (((W_ i64 (L-(1:Int))).toNat:Nat):Int)) λaa=>some aa)
def ag7:a4:=⟨127,[eK],[gZ],λx=>JY x⟩
def asY{ag:Prop}:bl ag ag7:=bp [q4] [] [] ⟨sf,trivial⟩
def JZ(L:Int):Option (ao×Bool):=B_ (JY L) λS=>B_ (EB S) λaa=>some (aa.1,aa.2)
def ag8:a4:=⟨57,[eK],[cw 65,ch],λx=>JZ x⟩
def asZ:bl False ag8:=bp [ag7,W8] [] [] ⟨asY,agi,trivial⟩
def J0(n t:Int)(s:Int×ao):Option (Int×ao⊕ao):=cond (d_ (s.1<n)) ((bI s.2.length s.1).bind λ_=>if s.1.toNat<s.2.length then s.2[s.1.toNat]?.bind λq=>(bI q.length 0).bind λ_=>s.2[s.1.toNat]?.bind λq=>q[(0:Int).toNat]?.bind λv=>s.2[s.1.toNat]?.bind λq=>(bI q.length 0).bind λ_=>s.2[s.1.toNat]?.bind λq=>q[(0:Int).toNat]?.bind λ_=>(λj:ao=>j[s.1.toNat]?.bind λq=>(bI q.length 1).bind λ_=>j[s.1.toNat]?.bind λq=>q[(1:Int).toNat]?.bind λv=>j[s.1.toNat]?.bind λq=>(bI q.length 1).bind λ_=>j[s.1.toNat]?.bind λq=>q[(1:Int).toNat]?.bind λ_=>some (.inl (W_ i64 (s.1+1),j.set s.1.toNat (q.set (1:Int).toNat (W_ i64 (v*t)))))) (s.2.set s.1.toNat (q.set (0:Int).toNat (W_ i64 (v*t))))else none) (some (.inr s.2))
def P0(L:ao)(ay:Int):Option (ao×Bool):=B_ (kx L) λS=>cond (!S) (some ([],false)) (B_ (nu ay 1 50) λaa=>cond (!aa) (some ([],false)) (B_ (oR L) λaj=>B_ (aW (J0 (aj.length:Int) ay) (0,aj)) λap=>B_ (kx ap) λv5=>cond (!v5) (some ([],false)) (some (ap,true))))
def B0:a4:=⟨58,[cu,eK],[cw 65,ch],λx=>P0 x.1 x.2⟩
noncomputable def ag9:dp:=⟨Tryz.prog,oO,[l1,q4,Eu],[],[],[],[],[]⟩
def as0(x:jh.den B0.ps):Ig ag9 [⟨0,19,[⟨5,0,21⟩]⟩] Tryz.f58 B0.ps B0.rs x=B0.F x:=by kernel_rfl
def as1{ag:Prop}:fb Tryz.prog B0.f/\gt ag Tryz.prog B0:=aej (N:=ag9) px ⟨my,sf,Jp,trivial⟩ func58 (by kernel_rfl) rfl as0
def J1(L:ao)(aa:Int):Option (Int⊕Unit⊕Bool):=cond (d_ (aa<(L.length:Int))) (B_ (idx L aa) λaj=>cond ((aj.length:Int)!=(L.length:Int)) (some (.inr (.inr false))) (B_ (sh aj (-100) 100) λap=>cond (!ap) (some (.inr (.inr false))) (some (.inl (W_ i64 (aa+1)))))) (some (.inr (.inl ())))
def P1(L:ao):Option Bool:=B_ (nu (L.length:Int) 1 3) λS=>cond (!S) (some false) (B_ (aW (J1 L) 0) λv5=>match v5 with|.inl aN=>some true|.inr aO=>some aO)
def aha:a4:=⟨316,[cu],[ch],λx=>P1 x⟩
def as2{ag:Prop}:bl ag aha:=bp [q4,Ev] [⟨4,[(11,a0)],some (0,[]),some [(2,ch)],false,none⟩] [] ⟨sf,Jv,trivial⟩
def P2(L:ao)(ay:Int)(dt:Int)(S:ao×Int):Option (ao×Int⊕ao):=cond (d_ (S.2<(L.length:Int))) (B_ (idx L S.2) λaa=>cond (S.2 !=ay) (B_ (e9 aa 0 dt) λaj=>B_ (oP aj) λap=>B_ (e9 aa (W_ i64 (dt+1)) (aa.length:Int)) λv5=>B_ (bN 8 ap v5) λaN=>B_ (bN 24 S.1 [aN]) λaO=>some (.inl (aO,W_ i64 (S.2+1)))) (some (.inl (S.1,W_ i64 (S.2+1))))) (some (.inr S.1))
def B1(L:ao)(ay:Int)(dt:Int):Option ao:=B_ (aW (P2 L ay dt) ([],0)) λbi=>some bi
def XR:a4:=⟨207,[cu,eK,eK],[cw 65],λx=>B1 x.1 x.2.1 x.2.2⟩
def ahb{ag:Prop}:bl ag XR:=bp [wz] [cF 3 [(7,cw 65),(12,a0)] 0 [(7,cw 65)]] [cv 6 0] ⟨yz,trivial⟩
def P3(rec:ao->Option Int)(L:ao)(S:List Int)(aa:Int×Int×Int):Option (Int×Int×Int⊕Int):=cond (d_ (aa.2.2<(S.length:Int))) (B_ (idx S aa.2.2) λaj=>cond (aj !=0) (B_ (B1 L 0 aa.2.2) λap=>B_ (rec ap) λv5=>some (.inl (W_ i64 (aa.1+W_ i64 (W_ i64 (aa.2.1*aj)*v5)),(W_ i64 (0-aa.2.1),W_ i64 (aa.2.2+1))))) (some (.inl (aa.1,(W_ i64 (0-aa.2.1),W_ i64 (aa.2.2+1)))))) (some (.inr aa.1))
def wI(rec:ao->Option Int)(L:ao):Option Int:=cond ((L.length:Int)==0) (some 1) (B_ (idx L 0) λS=>B_ (aW (P3 rec L S) (0,(1,0))) λaN=>some aN)
def tF:Nat->ao->Option Int|0=>λ_=>none|n+1=>wI (tF n)
def yJ(L:ao):Option Int:=tF 30000 L
def J2:a4:=⟨139,[cu],[a0],λx=>yJ x⟩
def tG(rec:ao->Option Int):a4:=⟨139,[.d false fi],[a0],λx=>rec x⟩
def ahc(rec:ao->Option Int):dp:=⟨Tryz.prog,oO,[XR,tG rec],[cF 5 [(3,a0),(4,a0),(14,a0)] 0 [(3,a0)]],[],[],[],[]⟩
def as3(rec:ao->Option Int)(x:jh.den (tG rec).ps):xq (ahc rec) Tryz.f139 (tG rec).ps (tG rec).rs x=(tG (wI rec)).F x:=by kernel_rfl
def as4{ag:Prop}(rec:ao->Option Int)(c:fb Tryz.prog (tG rec).f/\gt ag Tryz.prog (tG rec)):fb Tryz.prog (tG (wI rec)).f/\gt ag Tryz.prog (tG (wI rec)):=HQ (N:=ahc rec) px ⟨ahb,c,trivial⟩ func139 (by kernel_rfl) (as3 rec)
def ahd{ag:Prop}:(n:Nat)->fb Tryz.prog (tG (tF n)).f/\gt ag Tryz.prog (tG (tF n))|0=>⟨⟨Tryz.f139,_,func139,by kernel_rfl,rfl⟩,λx r c=>by cases c⟩|n+1=>as4 _ (ahd n)
def XS{ag:Prop}:fb Tryz.prog J2.f/\gt ag Tryz.prog J2:=ahd 30000
def XT(L:ao):Option Int:=B_ (P1 L) λS=>cond (!S) (some 0) (B_ (yJ L) λaa=>some aa)
def ahe:a4:=⟨257,[cu],[a0],λx=>XT x⟩
def as5{ag:Prop}:bl ag ahe:=bp [aha,J2] [] [] ⟨as2,XS,trivial⟩
def P4(L:ao):Option Bool:=B_ (XT L) λS=>B_ (JH S) λaa=>some (aa==1)
def ahf:a4:=⟨203,[cu],[ch],λx=>P4 x⟩
def as6{ag:Prop}:bl ag ahf:=bp [ahe,Xg] [] [] ⟨as5,agn,trivial⟩
def P5(L:ao×List Int):Option Bool:=cond ((L.1.length:Int)==2) (B_ (P4 L.1) λS=>cond S (B_ (wC L.2 1000) λaa=>some aa) (some false)) (some false)
def ahg:a4:=⟨128,[.d false (.prod fi bG)],[ch],λx=>P5 x⟩
def as7{ag:Prop}:bl ag ahg:=bp [ahf,Ex] [] [] ⟨as6,Jw,trivial⟩
def P6(L:ao×List Int)(ay:ao)(aj:ao×Int):Option (ao×Int⊕ao):=cond (d_ (aj.2<(ay.length:Int))) (B_ (idx ay aj.2) λap=>B_ (idx L.1 0) λv5=>B_ (l2 v5 ap) λaN=>B_ (idx L.2 0) λaO=>B_ (idx L.1 1) λbi=>B_ (l2 bi ap) λbf=>B_ (idx L.2 1) λbF=>B_ (bN 24 aj.1 [[W_ i64 (aN+aO),W_ i64 (bf+bF)]]) λbC=>some (.inl (bC,W_ i64 (aj.2+1)))) (some (.inr aj.1))
def J3(L:ao×List Int)(ay:ao):Option (ao×Bool):=B_ (P5 (L.1,L.2)) λS=>cond (!S) (some ([],false)) (B_ (kx ay) λaa=>cond (!aa) (some ([],false)) (B_ (aW (P6 L ay) ([],0)) λbK=>B_ (wE bK) λc3=>some (c3.1,c3.2)))
def ahh:a4:=⟨59,[.d false (.prod fi bG),cu],[cw 65,ch],λx=>J3 x.1 x.2⟩
def as9{ag:Prop}:bl ag ahh:=bp [ahg,l1,yG,EE] [cF 5 [(6,cw 65),(19,a0)] 0 [(6,cw 65)]] [cv 7 0] ⟨as7,my,BT,JF,trivial⟩
def J4(aO:List Int×List Int×Int)(bi:List Int)(bf:List Int×List Int×Int):Option (List Int×List Int×Int⊕List Int×List Int):=cond (d_ (bf.2.2<(aO.1.length:Int))) (B_ (bI bf.1.length bf.2.2) λ_=>B_ (idx bf.1 ((bf.2.2.toNat:Nat):Int)) λbF=>B_ (idx bi bf.2.2) λbC=>B_ (bI bf.2.1.length bf.2.2) λ_=>B_ (idx bf.2.1 ((bf.2.2.toNat:Nat):Int)) λbK=>B_ (idx bi bf.2.2) λc3=>B_ (bI bf.1.length bf.2.2) λ_=>B_ (bI bf.1.length ((bf.2.2.toNat:Nat):Int)) λ_=>B_ (bI bf.2.1.length bf.2.2) λ_=>B_ (bI bf.2.1.length ((bf.2.2.toNat:Nat):Int)) λ_=>some (.inl (bf.1.set bf.2.2.toNat (if bC<bF then bC else bF),(bf.2.1.set bf.2.2.toNat (if c3>bK then c3 else bK),W_ i64 (bf.2.2+1))))) (some (.inr (bf.1,bf.2.1)))
def EW(L:ao)(aO:List Int×List Int×Int):Option (List Int×List Int×Int⊕List Int×List Int):=cond (d_ (aO.2.2<(L.length:Int))) (B_ (idx L aO.2.2) λbi=>B_ (aW (J4 aO bi) (aO.1,(aO.2.1,0))) λdQ=>some (.inl (dQ.1,(dQ.2,W_ i64 (aO.2.2+1))))) (some (.inr (aO.1,aO.2.1)))
def P7(L:ao)(dz:ao)(dO:ao×Int):Option (ao×Int⊕ao):=cond (d_ (dO.2<(dz.length:Int))) (B_ (idx dz dO.2) λeU=>B_ (sn L eU) λeM=>cond (d_ (eM>=0)) (B_ (bN 24 dO.1 [eU]) λdP=>some (.inl (dP,W_ i64 (dO.2+1)))) (some (.inl (dO.1,W_ i64 (dO.2+1))))) (some (.inr dO.1))
def J5(L:ao):Option ao:=B_ (kx L) λS=>cond (!S) (some []) (B_ (oc L) λaa=>cond (d_ (aa>2000)) (some []) (B_ (idx L 0) λaj=>B_ (oP aj) λap=>B_ (idx L 0) λv5=>B_ (oP v5) λaN=>B_ (aW (EW L) (ap,(aN,0))) λdK=>B_ (wG dK.1 dK.2) λdz=>B_ (aW (P7 L dz) ([],0)) λdR=>B_ (j3 dR) λ_=>some dR))
def ahi:a4:=⟨132,[cu],[.l (.d true fi)],λx=>J5 x⟩
def ata{ag:Prop}:bl ag ahi:=wi [] [(10,[0,1,2,3,4,5,8,9,13,14,17,18,6,7,10,11,12,15,16,19,20,21,22,23,24,25])] [l1,BQ,wz,JO,Pz] [cF 5 [(3,cW 3),(4,cW 3),(29,a0)] 0 [(3,cW 3),(4,cW 3)],cF 8 [(3,cW 3),(4,cW 3),(35,a0)] 2 [(3,cW 3),(4,cW 3)],cF 15 [(8,.l (.o false 65 bG)),(68,a0)] 4 [(8,.l (.o false 65 bG))]] [cv 3 0,cv 10 0] [] ⟨my,EI,yz,PH,Xt,trivial⟩ trivial
def J6(ay:List Int)(S:ao)(aO:Int)(bi:List Int×Int):Option (List Int×Int⊕List Int):=cond (d_ (bi.2<(S.length:Int))) (B_ (idx S bi.2) λbf=>B_ (l2 ay bf) λbF=>B_ (bI bi.1.length (W_ i64 (bF-W_ i64 (0-aO)))) λ_=>B_ (idx bi.1 (((W_ i64 (bF-W_ i64 (0-aO))).toNat:Nat):Int)) λbC=>B_ (bI bi.1.length (W_ i64 (bF-W_ i64 (0-aO)))) λ_=>B_ (bI bi.1.length (((W_ i64 (bF-W_ i64 (0-aO))).toNat:Nat):Int)) λ_=>some (.inl (bi.1.set (W_ i64 (bF-W_ i64 (0-aO))).toNat (W_ i64 (bC+1)),W_ i64 (bi.2+1)))) (some (.inr bi.1))
def P8(L:ao)(ay:List Int):Option (List Int):=B_ (J5 L) λS=>cond S.isEmpty (some []) (B_ (wC ay 12) λaa=>cond (!aa) (some []) (B_ (oT L ay) λaj=>B_ (om 8 (W_ i64 (aj+1)) 0) λap=>B_ (idx ay 0) λv5=>B_ (idx ay 1) λaN=>B_ (EL L [W_ i64 (0-v5),W_ i64 (0-aN)]) λaO=>B_ (aW (J6 ay S aO) (ap,0)) λbK=>some bK))
def ahj:a4:=⟨63,[cu,dE],[cW 3],λx=>P8 x.1 x.2⟩
def atb{ag:Prop}:bl ag ahj:=bp [ahi,Ex,PK,XA,yG] [cF 7 [(6,cW 3),(38,a0)] 0 [(6,cW 3)]] [cv 5 0] ⟨ata,Jw,XB,agI,BT,trivial⟩
def P9(L:Int)(ay:List Int×Int):Option Bool:=B_ (nu L 1 3) λS=>cond S (cond ((ay.1.length:Int)==L) (B_ (sh ay.1 (-20) 20) λaa=>cond aa (B_ (tz ay.1) λaj=>cond (d_ (aj>0)) (B_ (nu ay.2 (-200) 200) λap=>some ap) (some false)) (some false)) (some false)) (some false)
def ahk:a4:=⟨205,[eK,.d false (.prod bG bH)],[ch],λx=>P9 x.1 x.2⟩
def atc{ag:Prop}:bl ag ahk:=bp [q4,Ev,BL] [] [] ⟨sf,Jv,EF,trivial⟩
def Qa(L:Int×List (List Int×Int))(aa:Int):Option (Int⊕Unit⊕Bool):=cond (d_ (aa<(L.2.length:Int))) (B_ (idx L.2 aa) λaj=>B_ (P9 L.1 (aj.1,aj.2)) λap=>cond (!ap) (some (.inr (.inr false))) (some (.inl (W_ i64 (aa+1))))) (some (.inr (.inl ())))
def wJ(L:Int×List (List Int×Int)):Option Bool:=B_ (nu L.1 1 3) λS=>cond (!S) (some false) (cond (d_ ((L.2.length:Int)>8)) (some false) (B_ (aW (Qa L) 0) λv5=>match v5 with|.inl aN=>some true|.inr aO=>some aO))
def EX:a4:=⟨136,[.d false (.prod bH (.list (.prod bG bH)))],[ch],λx=>wJ x⟩
def J7{ag:Prop}:bl ag EX:=bp [q4,ahk] [⟨4,[(18,a0)],some (0,[]),some [(2,ch)],false,none⟩] [] ⟨sf,atc,trivial⟩
def EY(ap:List ByteArray)(v5:(Int×List (List Int×Int))×(Int×List (List Int×Int))×Int):Option ((Int×List (List Int×Int))×(Int×List (List Int×Int))×Int⊕(Int×List (List Int×Int))×Int×List (List Int×Int)⊕(Int×List (List Int×Int))×Bool):=cond (d_ (v5.2.2<(ap.length:Int))) (B_ (idx ap v5.2.2) λaN=>B_ (yB aN 60) λaO=>cond ((aO.length:Int)!=2) (some (.inr (.inr ((0,[]),false)))) (B_ (bI aO.length 0) λ_=>B_ (idx aO (((0:Int).toNat:Nat):Int)) λbi=>B_ (uV bi) λbf=>B_ (bI aO.length 1) λ_=>B_ (idx aO (((1:Int).toNat:Nat):Int)) λbF=>B_ (wA bF) λbC=>cond (!bf.2) (some (.inr (.inr ((0,[]),false)))) (cond (!bC.2) (some (.inr (.inr ((0,[]),false)))) (B_ (bN 32 v5.2.1.2 [(bf.1,bC.1)]) λbK=>some (.inl ((v5.1.1,v5.1.2),((v5.2.1.1,bK),W_ i64 (v5.2.2+1)))))))) (some (.inr (.inl ((v5.1.1,v5.1.2),(v5.2.1.1,v5.2.1.2)))))
def Qb(L:ByteArray):Option ((Int×List (List Int×Int))×Bool):=B_ (yB L 59) λS=>B_ (bI S.length 0) λ_=>B_ (idx S (((0:Int).toNat:Nat):Int)) λaa=>B_ (wA aa) λaj=>cond (!aj.2) (some ((0,[]),false)) (B_ (e9 S 1 (S.length:Int)) λap=>B_ (aW (EY ap) ((0,[]),((aj.1,[]),0))) λc3=>match c3 with|.inl dQ=>B_ (wJ (dQ.2.1,dQ.2.2)) λdz=>cond (!dz) (some ((0,[]),false)) (some ((dQ.2.1,dQ.2.2),true))|.inr dK=>some ((dK.1.1,dK.1.2),dK.2))
def ahl:a4:=⟨64,[jF],[.a [.d false bH,.o true 132 (.prod bG bH)],ch],λx=>Qb x⟩
noncomputable def ahm:dp:=⟨Tryz.prog,oO,[EX],[],[],[],[],[]⟩
def XU:mG:=⟨135,true,nO ahm Tryz.f135⟩
def atd{ag:Prop}:fb Tryz.prog XU.f/\kZ ag Tryz.prog XU:=adH (N:=ahm) px ⟨J7,trivial⟩ func135 (by kernel_rfl) (by kernel_rfl) rfl
def ate:bl False ahl:=NO [Jq,Jt,Pg] [⟨7,[(2,.b 79 [.d false bH,.o true 132 (.prod bG bH)]),(7,.b 79 [.d false bH,.o true 132 (.prod bG bH)]),(32,a0)],some (0,[(2,.b 79 [.d false bH,.o true 132 (.prod bG bH)]),(7,.b 79 [.d false bH,.o true 132 (.prod bG bH)])]),some [(2,.b 79 [.d false bH,.o true 132 (.prod bG bH)]),(3,ch)],false,none⟩] [] [XU] ⟨Pe,W2,W5,trivial⟩ ⟨atd,trivial⟩
def Qc(L:Int×List (List Int×Int))(ay:List Int)(aj:Int):Option (Int⊕Unit⊕Bool):=cond (d_ (aj<(L.2.length:Int))) (B_ (idx L.2 aj) λap=>B_ (l2 ap.1 ay) λv5=>cond (d_ (v5>ap.2)) (some (.inr (.inr false))) (some (.inl (W_ i64 (aj+1))))) (some (.inr (.inl ())))
def J8(L:Int×List (List Int×Int))(ay:List Int):Option Bool:=B_ (wJ (L.1,L.2)) λS=>cond (!S) (some false) (B_ (wB ay) λaa=>cond (!aa) (some false) (cond ((ay.length:Int)!=L.1) (some false) (B_ (aW (Qc L ay) 0) λaN=>match aN with|.inl aO=>some true|.inr bi=>some bi)))
def ahn:a4:=⟨206,[.d false (.prod bH (.list (.prod bG bH))),dE],[ch],λx=>J8 x.1 x.2⟩
def atf{ag:Prop}:bl ag ahn:=bp [EX,BE,yG] [⟨4,[(25,a0)],some (0,[]),some [(4,ch)],false,none⟩] [cv 6 0] ⟨J7,Ew,BT,trivial⟩
def Qd(aa:List Int)(ap:List Int×List Int×Int):Option (List Int×List Int×Int⊕List Int×List Int):=cond (d_ (ap.2.2<(aa.length:Int))) (B_ (bI ap.1.length ap.2.2) λ_=>B_ (bI ap.1.length ((ap.2.2.toNat:Nat):Int)) λ_=>B_ (bI ap.2.1.length ap.2.2) λ_=>B_ (bI ap.2.1.length ((ap.2.2.toNat:Nat):Int)) λ_=>some (.inl (ap.1.set ap.2.2.toNat (-6),(ap.2.1.set ap.2.2.toNat 6,W_ i64 (ap.2.2+1))))) (some (.inr (ap.1,ap.2.1)))
def J9(L:Int×List (List Int×Int))(aN:ao)(aO:ao×Int):Option (ao×Int⊕ao):=cond (d_ (aO.2<(aN.length:Int))) (B_ (idx aN aO.2) λbi=>B_ (J8 (L.1,L.2) bi) λbf=>cond bf (B_ (bN 24 aO.1 [bi]) λbF=>some (.inl (bF,W_ i64 (aO.2+1)))) (some (.inl (aO.1,W_ i64 (aO.2+1))))) (some (.inr aO.1))
def Ka(L:Int×List (List Int×Int)):Option ao:=B_ (wJ (L.1,L.2)) λS=>cond (!S) (some []) (B_ (om 8 L.1 0) λaa=>B_ (om 8 L.1 0) λaj=>B_ (aW (Qd aa) (aa,(aj,0))) λv5=>B_ (wG v5.1 v5.2) λaN=>B_ (aW (J9 L aN) ([],0)) λbC=>some bC)
def aho:a4:=⟨137,[.d false (.prod bH (.list (.prod bG bH)))],[.l (.o false 65 bG)],λx=>Ka x⟩
def atg{ag:Prop}:bl ag aho:=bp [EX,JO,ahn] [cF 5 [(3,cW 3),(4,cW 3),(20,a0)] 0 [(3,cW 3),(4,cW 3)],cF 11 [(6,.l (.o false 65 bG)),(34,a0)] 2 [(6,.l (.o false 65 bG))]] [cv 3 0] ⟨J7,PH,atf,trivial⟩
def Qe(L:Int×List (List Int×Int)):Option Int:=B_ (wJ (L.1,L.2)) λS=>cond (!S) (some (-1)) (B_ (Ka (L.1,L.2)) λaa=>some (aa.length:Int))
def ahp:a4:=⟨65,[.d false (.prod bH (.list (.prod bG bH)))],[a0],λx=>Qe x⟩
def ath{ag:Prop}:bl ag ahp:=bp [EX,aho] [] [] ⟨J7,atg,trivial⟩
def Kb(L:ao)(S:ao×Int)(aj:ao×List Int×Int):Option (ao×List Int×Int⊕ao×List Int):=cond (d_ (aj.2.2<(L.length:Int))) (B_ (B1 L aj.2.2 S.2) λap=>B_ (yJ ap) λv5=>B_ (bI aj.2.1.length aj.2.2) λ_=>B_ (bI aj.2.1.length ((aj.2.2.toNat:Nat):Int)) λ_=>B_ (gi .i64 (W_ i64 (S.2+aj.2.2)) 2) λaN=>cond (aN==1) (B_ (bI (aj.2.1.set aj.2.2.toNat v5).length aj.2.2) λ_=>B_ (idx (aj.2.1.set aj.2.2.toNat v5) ((aj.2.2.toNat:Nat):Int)) λaO=>B_ (bI (aj.2.1.set aj.2.2.toNat v5).length aj.2.2) λ_=>B_ (bI (aj.2.1.set aj.2.2.toNat v5).length ((aj.2.2.toNat:Nat):Int)) λ_=>some (.inl (aj.1,((aj.2.1.set aj.2.2.toNat v5).set aj.2.2.toNat (W_ i64 (0-aO)),W_ i64 (aj.2.2+1))))) (some (.inl (aj.1,(aj.2.1.set aj.2.2.toNat v5,W_ i64 (aj.2.2+1)))))) (some (.inr (aj.1,aj.2.1)))
def Qf(L:ao)(S:ao×Int):Option (ao×Int⊕ao):=cond (d_ (S.2<(L.length:Int))) (B_ (om 8 (L.length:Int) 0) λaa=>B_ (aW (Kb L S) (S.1,(aa,0))) λbi=>B_ (bN 24 bi.1 [bi.2]) λbf=>some (.inl (bf,W_ i64 (S.2+1)))) (some (.inr S.1))
def Qg(L:ao):Option ao:=B_ (aW (Qf L) ([],0)) λbF=>some bF
def ahq:a4:=⟨140,[cu],[cw 65],λx=>Qg x⟩
def ati{ag:Prop}:bl ag ahq:=bp [XR,J2] [cF 3 [(3,cw 65),(9,a0)] 0 [(3,cw 65)],cF 7 [(3,cw 65),(5,cW 3),(17,a0)] 2 [(3,cw 65),(5,cW 3)]] [] ⟨ahb,XS,trivial⟩
def Kc(L:List Int×Int)(aa:Int)(ap:(List Int×Int)×(List Int×Int)×Int):Option ((List Int×Int)×(List Int×Int)×Int⊕(List Int×Int)×List Int×Int):=cond (d_ (ap.2.2<(L.1.length:Int))) (B_ (idx L.1 ap.2.2) λv5=>B_ (gk .i64 v5 (W_ i64 (0-aa))) λaN=>B_ (bN 8 ap.2.1.1 [aN]) λaO=>some (.inl ((ap.1.1,ap.1.2),((aO,ap.2.1.2),W_ i64 (ap.2.2+1))))) (some (.inr ((ap.1.1,ap.1.2),(ap.2.1.1,ap.2.1.2))))
def Kd(L:List Int×Int)(aa:Int)(bF:(List Int×Int)×(List Int×Int)×Int):Option ((List Int×Int)×(List Int×Int)×Int⊕(List Int×Int)×List Int×Int):=cond (d_ (bF.2.2<(L.1.length:Int))) (B_ (idx L.1 bF.2.2) λbC=>B_ (gk .i64 bC aa) λbK=>B_ (bN 8 bF.2.1.1 [bK]) λc3=>some (.inl ((bF.1.1,bF.1.2),((c3,bF.2.1.2),W_ i64 (bF.2.2+1))))) (some (.inr ((bF.1.1,bF.1.2),(bF.2.1.1,bF.2.1.2))))
def Qh(L:List Int×Int):Option (List Int×Int):=B_ (tz L.1) λS=>B_ (JI S L.2) λaa=>cond (d_ (L.2<0)) (B_ (gk .i64 L.2 (W_ i64 (0-aa))) λaj=>B_ (aW (Kc L aa) (([],0),(([],aj),0))) λbi=>some (bi.2.1,bi.2.2)) (B_ (gk .i64 L.2 aa) λbf=>B_ (aW (Kd L aa) (([],0),(([],bf),0))) λdQ=>some (dQ.2.1,dQ.2.2))
def ahr:a4:=⟨141,[.d false (.prod bG bH)],[.a [.o true 3 bH,.d false bH]],λx=>Qh x⟩
def atj{ag:Prop}:bl ag ahr:=bp [BL,Xh] [cF 6 [(2,.b 86 [.o true 3 bH,.d false bH]),(4,.b 86 [.o true 3 bH,.d false bH]),(26,a0)] 0 [(2,.b 86 [.o true 3 bH,.d false bH]),(4,.b 86 [.o true 3 bH,.d false bH])]] [cv 1 0,cv 8 0] ⟨EF,ago,trivial⟩
def Qi(L:Int×List (List Int×Int))(ay:List Int×Int)(S:Int):Option (Int⊕Unit⊕Bool):=cond (d_ (S<(L.2.length:Int))) (B_ (idx L.2 S) λaa=>B_ (l2 aa.1 ay.1) λaj=>cond (d_ (aj>W_ i64 (aa.2*ay.2))) (some (.inr (.inr false))) (some (.inl (W_ i64 (S+1))))) (some (.inr (.inl ())))
def Kf(L:Int×List (List Int×Int))(ay:List Int×Int):Option Bool:=B_ (aW (Qi L ay) 0) λap=>match ap with|.inl v5=>some true|.inr aN=>some aN
def ahs:a4:=⟨142,[.d false (.prod bH (.list (.prod bG bH))),.d false (.prod bG bH)],[ch],λx=>Kf x.1 x.2⟩
def atk{ag:Prop}:bl ag ahs:=bp [yG] [⟨2,[(10,a0)],some (0,[]),some [(4,ch)],false,none⟩] [cv 4 0] ⟨BT,trivial⟩
def Qk(rec:n4)(dt:List (List Int×Int))(S:List (List Int×Int)×ao×List Int×Int):Option (List (List Int×Int)×ao×List Int×Int⊕List (List Int×Int)×ao×List Int):=cond (d_ (S.2.2.2<(dt.length:Int))) (B_ (idx dt S.2.2.2) λaa=>B_ (bN 24 S.2.1 [aa.1]) λaj=>B_ (bN 8 S.2.2.1 [aa.2]) λap=>some (.inl (S.1,(aj,(ap,W_ i64 (S.2.2.2+1)))))) (some (.inr (S.1,(S.2.1,S.2.2.1))))
def Ql(rec:n4)(v5:List (List Int×Int)×ao×List Int)(aO:ao)(bi:List (List Int×Int)×(List Int×Int)×Int):Option (List (List Int×Int)×(List Int×Int)×Int⊕List (List Int×Int)×List Int×Int):=cond (d_ (bi.2.2<(aO.length:Int))) (B_ (idx aO bi.2.2) λbf=>B_ (l2 bf v5.2.2) λbF=>B_ (bN 8 bi.2.1.1 [bF]) λbC=>some (.inl (bi.1,((bC,bi.2.1.2),W_ i64 (bi.2.2+1))))) (some (.inr (bi.1,(bi.2.1.1,bi.2.1.2))))
def Kg(rec:n4)(L:Int×List (List Int×Int))(dt:List (List Int×Int))(dz:Int×List (List Int×Int)):Option (Int×List (List Int×Int)⊕List (List Int×Int)):=cond (d_ (dz.1<(L.2.length:Int))) (B_ (Gn (dt.length:Int) (dt.length:Int) dt.length) λdO=>B_ (idx L.2 dz.1) λeU=>B_ (j3 [(eU.1,eU.2)]) λ_=>B_ (bN 32 dt [(eU.1,eU.2)]) λeM=>B_ (rec (L.1,L.2) (W_ i64 (dz.1+1)) eM dz.2) λdP=>some (.inl (W_ i64 (dz.1+1),dP))) (some (.inr dz.2))
def yK(rec:n4)(L:Int×List (List Int×Int))(ay:Int)(dt wx:List (List Int×Int)):Option (List (List Int×Int)):=cond ((dt.length:Int)==L.1) (B_ (aW (Qk rec dt) (wx,([],([],0)))) λv5=>B_ (yJ v5.2.1) λaN=>cond (aN==0) (some v5.1) (B_ (Qg v5.2.1) λaO=>B_ (aW (Ql rec v5 aO) (v5.1,(([],aN),0))) λbK=>B_ (Qh (bK.2.1,bK.2.2)) λc3=>B_ (Kf (L.1,L.2) (c3.1,c3.2)) λdQ=>cond dQ (B_ (bN 32 bK.1 [(c3.1,c3.2)]) λdK=>some dK) (some bK.1))) (B_ (aW (Kg rec L dt) (ay,wx)) λdR=>some dR)
def yL:Nat->n4|0=>λ_ _ _ _=>none|n+1=>yK (yL n)
def Kh:n4:=yL 30000
def Qm:pu:=⟨138,79,136,83,86⟩
def B2(rec:n4):mG:=⟨138,false,yg Qm rec⟩
def aht(rec:n4):dp:=⟨Tryz.prog,oO,[J2,ahq,yG,ahr,ahs],[cF 4 [(3,.b 83 [.o false 86 (.prod bG bH)]),(7,.l (.o false 65 bG)),(8,cW 3),(23,a0)] 0 [(3,.b 83 [.o false 86 (.prod bG bH)]),(7,.l (.o false 65 bG)),(8,cW 3)],cF 13 [(3,.b 83 [.o false 86 (.prod bG bH)]),(12,.b 86 [.o true 3 bH,.d false bH]),(47,a0)] 2 [(3,.b 83 [.o false 86 (.prod bG bH)]),(12,.b 86 [.o true 3 bH,.d false bH])],⟨21,[(15,a0)],some (4,[]),none,false,some (3,.b 83 [.o false 86 (.prod bG bH)])⟩],[cv 15 0,cv 23 0],[B2 rec],[],[]⟩
def atl(rec:n4)(x:Int×List (List Int×Int))(i:Int)(D j:List (List Int×Int)):NL (aht rec) Tryz.f138 Qm x i D j=yK rec x i D j:=by kernel_rfl
def atm{ag:Prop}(rec:n4)(c:fb Tryz.prog 138/\kZ ag Tryz.prog (B2 rec)):fb Tryz.prog 138/\kZ ag Tryz.prog (B2 (yK rec)):=arb (N:=aht rec) (m:=Qm) px ⟨XS,ati,BT,atj,atk,trivial⟩ func138 (by kernel_rfl) (atl rec) ⟨c,trivial⟩
def ahu{ag:Prop}:(n:Nat)->fb Tryz.prog 138/\kZ ag Tryz.prog (B2 (yL n))|0=>arc (m:=Qm) func138 (by kernel_rfl)|n+1=>atm _ (ahu n)
def atn{ag:Prop}:fb Tryz.prog (B2 Kh).f/\kZ ag Tryz.prog (B2 Kh):=ahu 30000
def Ki(L:List Int×Int)(ay:List Int×Int)(S:Int):Option (Int⊕Unit⊕Int):=cond (d_ (S<(L.1.length:Int))) (B_ (idx L.1 S) λaa=>B_ (idx ay.1 S) λaj=>B_ (BH (W_ i64 (aa*ay.2)) (W_ i64 (aj*L.2))) λap=>cond (ap !=0) (some (.inr (.inr ap))) (some (.inl (W_ i64 (S+1))))) (some (.inr (.inl ())))
def wK(L:List Int×Int)(ay:List Int×Int):Option Int:=B_ (aW (Ki L ay) 0) λv5=>match v5 with|.inl aN=>some 0|.inr aO=>some aO
def ahv:a4:=⟨144,[.d false (.prod bG bH),.d false (.prod bG bH)],[a0],λx=>wK x.1 x.2⟩
def XV{ag:Prop}:bl ag ahv:=bp [W6] [⟨2,[(10,a0)],some (0,[]),some [(4,a0)],false,none⟩] [cv 4 0] ⟨agh,trivial⟩
def Qn(L:List (List Int×Int)):Option (Unit×List (List Int×Int)×Unit):=H8 (λa b=>wK a b) L
def XW:a4:=⟨143,[.io false 86 (.prod bG bH),.f 144],[],λx=>Qn x.1⟩
def ato{ag:Prop}:fb Tryz.prog XW.f/\gt ag Tryz.prog XW:=⟨⟨Tryz.f143,_,func143,by kernel_rfl,rfl⟩,ap7 (a:=bG) (b:=bH) aqn rfl Tryz.isAgg86 Tryz.sizeOf86 (XV (ag:=True)).1 (XV (ag:=True)).2⟩
def B3(L:List Int×Int)(ay:List Int×Int):Option Bool:=B_ (wK (L.1,L.2) (ay.1,ay.2)) λS=>some (S==0)
def ahw:a4:=⟨146,[.d false (.prod bG bH),.d false (.prod bG bH)],[ch],λx=>B3 x.1 x.2⟩
def atp{ag:Prop}:bl ag ahw:=bp [ahv] [] [] ⟨XV,trivial⟩
def Qo(S:Int×List (List Int×Int))(aN:Int×Int×List (List Int×Int)):Option (Int×Int×List (List Int×Int)⊕Int×List (List Int×Int)):=cond (d_ (aN.2.1<(((S.2.length:Int).toNat-S.1.toNat:Nat):Int))) (B_ (bI ((S.2.length:Int).toNat-S.1.toNat) aN.2.1) λ_=>B_ (idx aN.2.2 ((S.1.toNat+aN.2.1.toNat:Nat):Int)) λaO=>B_ (bI ((S.2.length:Int).toNat-S.1.toNat) (W_ i64 (aN.2.1-1))) λ_=>B_ (idx aN.2.2 ((S.1.toNat+(W_ i64 (aN.2.1-(1:Int))).toNat:Nat):Int)) λbi=>B_ (B3 aO bi) λbf=>cond (!bf) (B_ (bI ((S.2.length:Int).toNat-S.1.toNat) aN.2.1) λ_=>B_ (idx aN.2.2 ((S.1.toNat+aN.2.1.toNat:Nat):Int)) λbF=>B_ (bI aN.2.2.length aN.1) λ_=>B_ (bI aN.2.2.length ((aN.1.toNat:Nat):Int)) λ_=>some (.inl (W_ i64 (aN.1+1),(W_ i64 (aN.2.1+1),aN.2.2.set aN.1.toNat (bF.1,bF.2))))) (some (.inl (aN.1,(W_ i64 (aN.2.1+1),aN.2.2))))) (some (.inr (aN.1,aN.2.2)))
def XX(S:Int×List (List Int×Int)):Option (Int×List (List Int×Int)⊕List (List Int×Int)⊕List (List Int×Int)):=cond (d_ (S.1<(S.2.length:Int))) (B_ (bI S.2.length S.1) λ_=>B_ (idx S.2 ((S.1.toNat:Nat):Int)) λaa=>B_ (bI S.2.length (W_ i64 (S.1-1))) λ_=>B_ (idx S.2 (((W_ i64 (S.1-(1:Int))).toNat:Nat):Int)) λaj=>B_ (B3 aa aj) λap=>cond ap (B_ (e9 S.2 S.1 (S.2.length:Int)) λv5=>B_ (aW (Qo S) (S.1,(1,S.2))) λbC=>B_ (e9 bC.2 bC.1 (bC.2.length:Int)) λbK=>B_ (Gp bC.1.toNat (bC.2.length:Int).toNat bC.2.length) λc3=>B_ (e9 (bC.2.take bC.1.toNat++List.replicate ((bC.2.length:Int).toNat-bC.1.toNat) ([],0)) 0 bC.1) λdQ=>some (.inr (.inr dQ))) (some (.inl (W_ i64 (S.1+1),S.2)))) (some (.inr (.inl S.2)))
def Qp(L:List (List Int×Int)):Option (List (List Int×Int)):=cond (d_ ((L.length:Int)<2)) (some L) (B_ (aW XX (1,L)) λdK=>match dK with|.inl dz=>some dz|.inr dO=>some dO)
def ahx:a4:=⟨145,[.mv false 86 (.prod bG bH),.f 146],[.l (.o false 86 (.prod bG bH))],λx=>Qp x.1⟩
def atq{ag:Prop}:bl ag ahx:=wi [29,59] [] [ahw] [⟨4,[(5,a0)],some (0,[]),some [(4,.l (.o false 86 (.prod bG bH)))],false,some (0,.l (.o false 86 (.prod bG bH)))⟩,⟨9,[(5,a0),(7,a0)],some (2,[(5,a0)]),none,false,some (0,.l (.o false 86 (.prod bG bH)))⟩] [cv 6 0,cv 11 0] [] ⟨atp,trivial⟩ trivial
def Kk(L:Int×List (List Int×Int)):Option (List (List Int×Int)):=B_ (wJ (L.1,L.2)) λS=>cond (!S) (some []) (B_ (Kh (L.1,L.2) 0 [] []) λaa=>B_ (Qn aa) λaj=>B_ (Qp aj.2.1) λap=>some ap)
def ahy:a4:=⟨66,[.d false (.prod bH (.list (.prod bG bH)))],[.l (.o false 86 (.prod bG bH))],λx=>Kk x⟩
def atr{ag:Prop}:bl ag ahy:=NO [EX,XW,ahx] [] [] [B2 Kh] ⟨J7,ato,atq,trivial⟩ ⟨atn,trivial⟩
def Kl(L:List Int×Int):Option ByteArray:=cond ((L.1.length:Int)==0) (some ⟨#[]⟩) (cond (d_ (L.2<1)) (some ⟨#[]⟩) (B_ (si L.1) λS=>cond (L.2 !=1) (B_ (lu L.2) λaa=>B_ (fG ⟨#[47]⟩ aa) λaj=>B_ (fG S aj) λap=>some ap) (some S)))
def ahz:a4:=⟨67,[.d false (.prod bG bH)],[gZ],λx=>Kl x⟩
def ats:bl False ahz:=bp [EC,JB] [] [] ⟨JC,Pk,trivial⟩
def Qq(L:List Int)(ay:Int)(dt:List Int)(S:List Int×Int):Option (List Int×Int⊕List Int):=cond (d_ (S.2<(L.length:Int))) (B_ (bI S.1.length S.2) λ_=>B_ (idx S.1 ((S.2.toNat:Nat):Int)) λaa=>B_ (idx dt S.2) λaj=>B_ (bI S.1.length S.2) λ_=>B_ (bI S.1.length ((S.2.toNat:Nat):Int)) λ_=>some (.inl (S.1.set S.2.toNat (W_ i64 (aa-W_ i64 (ay*aj))),W_ i64 (S.2+1)))) (some (.inr S.1))
def EZ(L:List Int)(ay:Int)(dt:List Int):Option (Unit×List Int×Unit):=B_ (aW (Qq L ay dt) (L,0)) λap=>some ((),(ap,()))
def ahA:a4:=⟨150,[.io true 3 bH,eK,dE],[],λx=>EZ x.1 x.2.1 x.2.2⟩
def att{ag:Prop}:bl ag ahA:=bp [] [cF 1 [(0,cW 3),(9,a0)] 0 [(0,cW 3)]] [cv 3 0] trivial
def Km(L:List Int×List Int)(aj:ao):Option (ao⊕ao):=B_ (bI aj.length (W_ i64 ((aj.length:Int)-1))) λ_=>B_ (idx aj (((W_ i64 ((aj.length:Int)-(1:Int))).toNat:Nat):Int)) λap=>B_ (l0 ap L.2) λv5=>cond (v5==0) (some (.inr aj)) (B_ (tA ap) λaN=>B_ (l0 aN L.2) λaO=>B_ (BN aO v5) λbi=>B_ (EZ aN bi ap) λbf=>B_ (bN 24 aj [bf.2.1]) λbF=>some (.inl bF))
def E0(L:List Int×List Int):Option ao:=B_ (yI (L.1,L.2)) λS=>cond (!S) (some []) (B_ (oP L.1) λaa=>B_ (aW (Km L) [aa]) λbC=>some bC)
def XY:a4:=⟨69,[.d false (.prod bG bG)],[cw 65],λx=>E0 x⟩
def ahB{ag:Prop}:bl ag XY:=bp [JQ,wz,yD,Xm,Xn,ahA] [⟨4,[(3,cw 65)],none,some [(2,cw 65)],false,none⟩] [] ⟨PM,yz,BG,agr,ags,att,trivial⟩
def Kn(S:ao)(aa:List Int×Int):Option (List Int×Int⊕List Int):=cond (d_ (W_ i64 (aa.2+1)<(S.length:Int))) (B_ (idx S (W_ i64 (aa.2-1))) λaj=>B_ (idx S (W_ i64 (aa.2+1))) λap=>B_ (l0 aj ap) λv5=>B_ (bN 8 aa.1 [v5]) λaN=>some (.inl (aN,W_ i64 (aa.2+1)))) (some (.inr aa.1))
def Qr(L:List Int×List Int):Option (List Int):=B_ (E0 (L.1,L.2)) λS=>B_ (aW (Kn S) ([],1)) λaO=>some aO
def ahC:a4:=⟨70,[.d false (.prod bG bG)],[cW 3],λx=>Qr x⟩
def atu{ag:Prop}:bl ag ahC:=bp [XY,yD] [cF 4 [(4,cW 3),(5,a0)] 0 [(4,cW 3)]] [cv 6 0] ⟨ahB,BG,trivial⟩
def Qs(L:List Int)(aj:Int):Option (Int⊕Unit⊕Bool):=cond (d_ (aj<(L.length:Int))) (B_ (idx L (W_ i64 (aj-1))) λap=>B_ (idx L aj) λv5=>cond (d_ (ap>=v5)) (some (.inr (.inr false))) (some (.inl (W_ i64 (aj+1))))) (some (.inr (.inl ())))
def Qt(L:List Int):Option Bool:=B_ (nu (L.length:Int) 1 6) λS=>cond (!S) (some false) (B_ (sh L 1 30) λaa=>cond (!aa) (some false) (B_ (aW (Qs L) 1) λaN=>match aN with|.inl aO=>some true|.inr bi=>some bi))
def ahD:a4:=⟨152,[dE],[ch],λx=>Qt x⟩
def atv{ag:Prop}:bl ag ahD:=bp [q4,Ev] [⟨4,[(3,a0)],some (0,[]),some [(2,ch)],false,none⟩] [cv 6 0] ⟨sf,Jv,trivial⟩
def E1(ay:Int)(v5:Int)(aN:List Int×Int):Option (List Int×Int⊕List Int):=cond (d_ (aN.2<=ay)) (B_ (bI aN.1.length aN.2) λ_=>B_ (idx aN.1 ((aN.2.toNat:Nat):Int)) λaO=>B_ (bI aN.1.length (W_ i64 (aN.2-v5))) λ_=>B_ (idx aN.1 (((W_ i64 (aN.2-v5)).toNat:Nat):Int)) λbi=>B_ (bI aN.1.length aN.2) λ_=>B_ (bI aN.1.length ((aN.2.toNat:Nat):Int)) λ_=>some (.inl (aN.1.set aN.2.toNat (W_ i64 (aO+bi)),W_ i64 (aN.2+1)))) (some (.inr aN.1))
def E2(L:List Int)(ay:Int)(ap:List Int×Int):Option (List Int×Int⊕List Int):=cond (d_ (ap.2<(L.length:Int))) (B_ (idx L ap.2) λv5=>B_ (aW (E1 ay v5) (ap.1,v5)) λbf=>some (.inl (bf,W_ i64 (ap.2+1)))) (some (.inr ap.1))
def Qu(L:List Int)(ay:Int):Option Int:=B_ (Qt L) λS=>cond (!S) (some (-1)) (B_ (nu ay 0 500) λaa=>cond (!aa) (some (-1)) (B_ (om 8 (W_ i64 (ay+1)) 0) λaj=>B_ (bI aj.length 0) λ_=>B_ (bI aj.length (((0:Int).toNat:Nat):Int)) λ_=>B_ (aW (E2 L ay) (aj.set (0:Int).toNat 1,0)) λbF=>B_ (bI bF.length ay) λ_=>B_ (idx bF (((ay).toNat:Nat):Int)) λbC=>some bC))
def ahE:a4:=⟨71,[dE,eK],[a0],λx=>Qu x.1 x.2⟩
def atw{ag:Prop}:bl ag ahE:=bp [ahD,q4] [cF 6 [(5,cW 3),(24,a0)] 0 [(5,cW 3)],cF 9 [(5,cW 3),(8,a0)] 2 [(5,cW 3)]] [cv 11 0] ⟨atv,sf,trivial⟩
def E5(E6:List (List Int×Int))(q6:(ao×ao)×(ao×ao)×List ByteArray×Int):Option ((ao×ao)×(ao×ao)×List ByteArray×Int⊕(ao×ao)×(ao×ao)×List ByteArray):=cond (d_ (q6.2.2.2<(E6.length:Int))) (B_ (idx E6 q6.2.2.2) λahF=>B_ (Kl (ahF.1,ahF.2)) λatx=>B_ (bN 16 q6.2.2.1 [atx]) λaty=>some (.inl ((q6.1.1,q6.1.2),((q6.2.1.1,q6.2.1.2),(aty,W_ i64 (q6.2.2.2+1)))))) (some (.inr ((q6.1.1,q6.1.2),((q6.2.1.1,q6.2.1.2),q6.2.2.1))))
def k7(L:(ao)×(ao))(ay:ByteArray):Option ((ao×ao)×ByteArray):=B_ (oR L.1) λS=>B_ (oR L.2) λaa=>B_ (yB ay 32) λaj=>B_ (e9 aj 1 (aj.length:Int)) λap=>B_ (idx aj 0) λv5=>B_ (cond (v5.toList==(⟨#[112,111,108,121]⟩:ByteArray).toList) (some (d_ ((ap.length:Int)>0))) (some false)) λaN=>cond aN (B_ (ty ap ⟨#[32]⟩) λaO=>B_ (EB aO) λbi=>cond (!bi.2) (some ((S,aa),⟨#[110,111]⟩)) (B_ (qa bi.1) λbf=>some ((bi.1,aa),bf))) (cond ((ap.length:Int)==0) (cond (v5.toList==(⟨#[109,105,114,114,111,114]⟩:ByteArray).toList) (B_ (JG L.1) λbF=>cond (!bF.2) (some ((S,aa),⟨#[110,111]⟩)) (B_ (qa bF.1) λbC=>some ((bF.1,aa),bC))) (cond (v5.toList==(⟨#[110,111,114,109,97,108]⟩:ByteArray).toList) (B_ (EH L.1) λbK=>cond (!bK.2) (some ((S,aa),⟨#[110,111]⟩)) (B_ (qa bK.1) λc3=>some ((bK.1,aa),c3))) (cond (v5.toList==(⟨#[100,117,97,108]⟩:ByteArray).toList) (B_ (EK L.1) λdQ=>cond (!dQ.2) (some ((S,aa),⟨#[110,111]⟩)) (B_ (qa dQ.1) λdK=>some ((dQ.1,aa),dK))) (cond (v5.toList==(⟨#[115,117,109]⟩:ByteArray).toList) (B_ (JL L.1 L.2) λdz=>cond (!dz.2) (some ((S,aa),⟨#[110,111]⟩)) (B_ (qa dz.1) λdO=>some ((dz.1,aa),dO))) (cond (v5.toList==(⟨#[107,101,101,112]⟩:ByteArray).toList) (B_ (oR L.1) λeU=>some ((S,eU),⟨#[111,107]⟩)) (cond (v5.toList==(⟨#[115,119,97,112]⟩:ByteArray).toList) (some ((aa,S),⟨#[111,107]⟩)) (cond (v5.toList==(⟨#[115,104,111,119]⟩:ByteArray).toList) (B_ (qa L.1) λeM=>some ((S,aa),eM)) (cond (v5.toList==(⟨#[100,101,115,99,114,105,98,101]⟩:ByteArray).toList) (B_ (PP L.1) λdP=>some ((S,aa),dP)) (cond (v5.toList==(⟨#[101,109,112,116,121]⟩:ByteArray).toList) (B_ (PW L.1) λdR=>B_ (lu dR) λg0=>some ((S,aa),g0)) (cond (v5.toList==(⟨#[119,105,100,116,104]⟩:ByteArray).toList) (B_ (so L.1) λhk=>B_ (lu hk) λhl=>some ((S,aa),hl)) (cond (v5.toList==(⟨#[100,105,114,101,99,116,105,111,110,115]⟩:ByteArray).toList) (B_ (BW L.1) λiN=>B_ (ET iN) λkv=>B_ (tE kv ⟨#[45]⟩) λkd=>some ((S,aa),kd)) (cond (v5.toList==(⟨#[99,111,114,110,101,114,115]⟩:ByteArray).toList) (B_ (PY L.1) λhm=>some ((S,aa),hm)) (cond (v5.toList==(⟨#[109,105,120,101,100]⟩:ByteArray).toList) (B_ (EU L.1 L.2) λjq=>B_ (lu jq) λjV=>some ((S,aa),jV)) (cond (v5.toList==(⟨#[115,97,109,101]⟩:ByteArray).toList) (B_ (BZ L.1 L.2) λjH=>cond jH (some ((S,aa),⟨#[121,101,115]⟩)) (some ((S,aa),⟨#[110,111]⟩))) (cond (v5.toList==(⟨#[116,119,101,108,118,101]⟩:ByteArray).toList) (B_ (EV L.1) λtv=>B_ (lu tv) λuR=>some ((S,aa),uR)) (some ((S,aa),⟨#[119,104,97,116]⟩))))))))))))))))) (cond ((ap.length:Int)==1) (B_ (idx ap 0) λuS=>B_ (wA uS) λnt=>B_ (idx ap 0) λq5=>B_ (uV q5) λuY=>B_ (cond (v5.toList==(⟨#[101,120,97,109,112,108,101]⟩:ByteArray).toList) (some nt.2) (some false)) λES=>cond ES (B_ (JZ nt.1) λJS=>cond (!JS.2) (some ((S,aa),⟨#[110,111]⟩)) (B_ (qa JS.1) λXH=>some ((JS.1,aa),XH))) (B_ (cond (v5.toList==(⟨#[100,105,108,97,116,101]⟩:ByteArray).toList) (some nt.2) (some false)) λJT=>cond JT (B_ (P0 L.1 nt.1) λJU=>cond (!JU.2) (some ((S,aa),⟨#[110,111]⟩)) (B_ (qa JU.1) λJV=>some ((JU.1,aa),JV))) (B_ (cond (v5.toList==(⟨#[115,104,101,97,114]⟩:ByteArray).toList) (some nt.2) (some false)) λXI=>cond XI (B_ (J3 ([[1,nt.1],[0,1]],[0,0]) L.1) λPR=>cond (!PR.2) (some ((S,aa),⟨#[110,111]⟩)) (B_ (qa PR.1) λPS=>some ((PR.1,aa),PS))) (B_ (cond (v5.toList==(⟨#[109,111,118,101]⟩:ByteArray).toList) (some uY.2) (some false)) λatz=>cond atz (B_ (J3 ([[1,0],[0,1]],uY.1) L.1) λX2=>cond (!X2.2) (some ((S,aa),⟨#[110,111]⟩)) (B_ (qa X2.1) λatA=>some ((X2.1,aa),atA))) (B_ (cond (v5.toList==(⟨#[97,116]⟩:ByteArray).toList) (some nt.2) (some false)) λatB=>cond atB (B_ (yH L.1 nt.1) λatC=>B_ (lu atC) λatD=>some ((S,aa),atD)) (B_ (cond (v5.toList==(⟨#[112,108,97,99,101]⟩:ByteArray).toList) (some uY.2) (some false)) λatE=>cond atE (B_ (BR L.1 uY.1) λatF=>B_ (lu atF) λatG=>some ((S,aa),atG)) (B_ (cond (v5.toList==(⟨#[108,97,121,101,114,115]⟩:ByteArray).toList) (some uY.2) (some false)) λatH=>cond atH (B_ (P8 L.1 uY.1) λatI=>B_ (si atI) λatJ=>B_ (tE atJ ⟨#[110,111]⟩) λatK=>some ((S,aa),atK)) (B_ (cond (v5.toList==(⟨#[99,111,117,110,116]⟩:ByteArray).toList) (some true) (some (v5.toList==(⟨#[118,101,114,116,105,99,101,115]⟩:ByteArray).toList))) λatL=>cond atL (B_ (idx ap 0) λatM=>B_ (Qb atM) λKo=>cond (!Ko.2) (some ((S,aa),⟨#[110,111]⟩)) (cond (v5.toList==(⟨#[99,111,117,110,116]⟩:ByteArray).toList) (B_ (Qe (Ko.1.1,Ko.1.2)) λatN=>B_ (lu atN) λatO=>some ((S,aa),atO)) (B_ (Kk (Ko.1.1,Ko.1.2)) λE6=>B_ (aW (E5 E6) (([],[]),((S,aa),([],0)))) λB4=>B_ (ty B4.2.2 ⟨#[32]⟩) λX3=>B_ (tE X3 ⟨#[45]⟩) λX4=>some ((B4.2.1.1,B4.2.1.2),X4)))) (some ((S,aa),⟨#[119,104,97,116]⟩)))))))))) (cond ((ap.length:Int)==2) (B_ (idx ap 0) λatP=>B_ (wA atP) λahG=>B_ (idx ap 0) λatQ=>B_ (uV atQ) λKp=>B_ (idx ap 1) λatR=>B_ (uV atR) λB5=>B_ (cond (v5.toList==(⟨#[115,112,108,105,116]⟩:ByteArray).toList) (cond Kp.2 (some B5.2) (some false)) (cond (v5.toList==(⟨#[116,117,114,110,115]⟩:ByteArray).toList) (cond Kp.2 (some B5.2) (some false)) (some false))) λatS=>cond atS (B_ (yI (Kp.1,B5.1)) λatT=>cond (!atT) (some ((S,aa),⟨#[110,111]⟩)) (cond (v5.toList==(⟨#[115,112,108,105,116]⟩:ByteArray).toList) (B_ (E0 (Kp.1,B5.1)) λatU=>B_ (ET atU) λatV=>some ((S,aa),atV)) (B_ (Qr (Kp.1,B5.1)) λatW=>B_ (si atW) λatX=>B_ (tE atX ⟨#[45]⟩) λatY=>some ((S,aa),atY)))) (B_ (cond (v5.toList==(⟨#[119,97,121,115]⟩:ByteArray).toList) (cond ahG.2 (some B5.2) (some false)) (some false)) λatZ=>cond atZ (B_ (Qu B5.1 ahG.1) λat0=>B_ (lu at0) λat1=>some ((S,aa),at1)) (some ((S,aa),⟨#[119,104,97,116]⟩)))) (some ((S,aa),⟨#[119,104,97,116]⟩)))))
def ahH:a4:=⟨9,[.d false (.prod fi fi),jF],[.a [.o true 65 bG,.o true 65 bG],gZ],λx=>k7 x.1 x.2⟩
noncomputable def ahI:dp:=⟨Tryz.prog,oO,[Xc],[],[⟨4,[],[],[(2,false)],0⟩],[],[],[]⟩
def X5:mG:=⟨36,false,nO ahI Tryz.f36⟩
def at2:fb Tryz.prog X5.f/\kZ False Tryz.prog X5:=HP (N:=ahI) px ⟨agk,trivial⟩ func36 (by kernel_rfl)
def at3:bl False ahH:=wi [] [(3,[0,3,4,1,2,5,6]),(5,[48]),(47,[206]),(49,[220]),(51,[236]),(53,[257]),(55,[277]),(57,[289]),(59,[301]),(61,[314]),(78,[377]),(85,[408])] [Eu,Jq,Jr,W8,Xf,Xq,Xw,Xx,Xc,agN,agX,JB,PL,agY,agZ,XO,ag1,ag2,ag5,ag6,Jt,Pg,ag8,B0,ahh,PE,Xu,ahj,EC,ahl,ahp,ahy,ahz,JQ,XY,ahC,ahE] [cF 69 [(4,.b 26 [.o true 65 bG,.o true 65 bG]),(6,.b 26 [.o true 65 bG,.o true 65 bG]),(17,lY 9),(340,a0)] 3 [(4,.b 26 [.o true 65 bG,.o true 65 bG]),(6,.b 26 [.o true 65 bG,.o true 65 bG]),(17,lY 9)]] [cv 1 0,cv 3 0,⟨25,[],[],[(6,false)],0⟩,⟨27,[],[],[(6,false)],0⟩,⟨29,[],[],[(6,false)],0⟩,⟨31,[],[],[(6,false)],0⟩,⟨33,[],[],[(6,false)],0⟩,⟨35,[],[],[(6,false)],0⟩,⟨37,[],[],[(6,false)],0⟩,⟨43,[],[],[(6,false)],0⟩,⟨56,[],[],[(6,false)],0⟩,⟨58,[],[],[(6,false)],0⟩,⟨60,[],[],[(6,false)],0⟩,⟨66,[],[],[(6,false),(15,false)],0⟩,⟨73,[],[],[(6,false)],0⟩,⟨83,[],[],[(6,false),(26,false)],0⟩,⟨84,[],[],[(6,false),(26,false)],0⟩,⟨86,[],[],[(6,false)],0⟩] [X5] ⟨Jp,Pe,Pf,agi,agm,agw,agB,agC,agk,asG,asQ,Pk,XC,asR,asS,ag0,asT,asU,asW,asX,W2,W5,asZ,as1,as9,Xy,agy,atb,JC,ate,ath,atr,ats,PM,ahB,atu,atw,trivial⟩ ⟨at2,trivial⟩
def yM(L:ao×ao)(ay:ao×ao):Option Bool:=B_ (Bk L.1 ay.1) λS=>cond S (B_ (Bk L.2 ay.2) λaa=>some aa) (some false)
def ahJ:a4:=⟨11,[.d false (.prod fi fi),.d false (.prod fi fi)],[ch],λx=>yM x.1 x.2⟩
def at4{ag:Prop}:bl ag ahJ:=bp [NX] [] [] ⟨V9,trivial⟩
def Kq(L:ao×ao)(ay:ao×ao):Option Bool:=B_ (BY L.1 ay.1) λS=>cond S (B_ (BY L.2 ay.2) λaa=>some aa) (some false)
def ahK:a4:=⟨12,[.d false (.prod fi fi),.d false (.prod fi fi)],[ch],λx=>Kq x.1 x.2⟩
def at5{ag:Prop}:bl ag ahK:=bp [XQ] [] [] ⟨ag4,trivial⟩
def Kr(L:List Int)(ay:List Int)(S:Int):Option (Int⊕Unit⊕Bool):=cond (d_ (S<(L.length:Int))) (B_ (idx L S) λaa=>B_ (idx ay S) λaj=>cond (aa !=aj) (some (.inr (.inr false))) (some (.inl (W_ i64 (S+1))))) (some (.inr (.inl ())))
def Qv(L:List Int)(ay:List Int):Option Bool:=cond ((L.length:Int)!=(ay.length:Int)) (some false) (B_ (aW (Kr L ay) 0) λap=>match ap with|.inl v5=>some true|.inr aN=>some aN)
def ahL:a4:=⟨82,[dE,dE],[ch],λx=>Qv x.1 x.2⟩
def at6{ag:Prop}:bl ag ahL:=bp [] [⟨4,[(5,a0)],some (0,[]),some [(4,ch)],false,none⟩] [cv 6 0] trivial
def Ks(L:ao)(ay:ao)(S:Int):Option (Int⊕Unit⊕Bool):=cond (d_ (S<(L.length:Int))) (B_ (idx L S) λaa=>B_ (idx ay S) λaj=>B_ (Qv aa aj) λap=>cond (!ap) (some (.inr (.inr false))) (some (.inl (W_ i64 (S+1))))) (some (.inr (.inl ())))
def Qw(L:ao)(ay:ao):Option Bool:=cond ((L.length:Int)!=(ay.length:Int)) (some false) (B_ (aW (Ks L ay) 0) λv5=>match v5 with|.inl aN=>some true|.inr aO=>some aO)
def ahM:a4:=⟨14,[cu,cu],[ch],λx=>Qw x.1 x.2⟩
def at7{ag:Prop}:bl ag ahM:=bp [ahL] [⟨4,[(5,a0)],some (0,[]),some [(4,ch)],false,none⟩] [cv 6 0] ⟨at6,trivial⟩
def Qx(aj:(ao×ao)×ByteArray)(bf:Int):Option (Int⊕Unit⊕Bool):=cond (d_ (bf<(([⟨#[115,104,111,119]⟩,⟨#[119,105,100,116,104]⟩,⟨#[99,111,114,110,101,114,115]⟩,⟨#[109,105,120,101,100]⟩,⟨#[115,97,109,101]⟩,⟨#[97,116,32,50]⟩,⟨#[112,108,97,99,101,32,48,44,48]⟩,⟨#[115,112,108,105,116,32,49,44,48,32,50,44,53]⟩,⟨#[99,111,117,110,116,32,49,59,49,60,50]⟩,⟨#[119,97,121,115,32,53,32,49,44,50]⟩,⟨#[110,111,116,104,105,110,103]⟩,⟨#[]⟩]:List ByteArray).length:Int))) (B_ (idx [⟨#[115,104,111,119]⟩,⟨#[119,105,100,116,104]⟩,⟨#[99,111,114,110,101,114,115]⟩,⟨#[109,105,120,101,100]⟩,⟨#[115,97,109,101]⟩,⟨#[97,116,32,50]⟩,⟨#[112,108,97,99,101,32,48,44,48]⟩,⟨#[115,112,108,105,116,32,49,44,48,32,50,44,53]⟩,⟨#[99,111,117,110,116,32,49,59,49,60,50]⟩,⟨#[119,97,121,115,32,53,32,49,44,50]⟩,⟨#[110,111,116,104,105,110,103]⟩,⟨#[]⟩] bf) λbF=>B_ (k7 (aj.1.1,aj.1.2) bF) λbC=>B_ (yM (bC.1.1,bC.1.2) (aj.1.1,aj.1.2)) λbK=>cond (!bK) (some (.inr (.inr false))) (some (.inl (W_ i64 (bf+1))))) (some (.inr (.inl ())))
def Qy(aj:(ao×ao)×ByteArray)(dz:(ao×ao)×ByteArray)(eU:ao×Bool)(eM:Int):Option (Int⊕Unit⊕Bool):=cond (d_ (eM<(([⟨#[109,111,118,101,32,49,44,45,50]⟩,⟨#[115,104,101,97,114,32,49]⟩,⟨#[115,104,101,97,114,32,45,49]⟩,⟨#[109,105,114,114,111,114]⟩,⟨#[110,111,114,109,97,108]⟩]:List ByteArray).length:Int))) (B_ (idx [⟨#[109,111,118,101,32,49,44,45,50]⟩,⟨#[115,104,101,97,114,32,49]⟩,⟨#[115,104,101,97,114,32,45,49]⟩,⟨#[109,105,114,114,111,114]⟩,⟨#[110,111,114,109,97,108]⟩] eM) λdP=>B_ (k7 (dz.1.1,dz.1.2) dP) λdR=>cond (dR.2.toList==(⟨#[110,111]⟩:ByteArray).toList) (some (.inl (W_ i64 (eM+1)))) (B_ (k7 (dR.1.1,dR.1.2) ⟨#[115,97,109,101]⟩) λg0=>B_ (wq dR.1.1) λhk=>cond eU.2 (cond hk.2 (cond (! g0.2.toList==(⟨#[121,101,115]⟩:ByteArray).toList) (some (.inr (.inr false))) (B_ (ns dR.1.1) λhl=>B_ (ns aj.1.1) λiN=>cond (hl !=iN) (some (.inr (.inr false))) (some (.inl (W_ i64 (eM+1)))))) (B_ (ns dR.1.1) λkv=>B_ (ns aj.1.1) λkd=>cond (kv !=kd) (some (.inr (.inr false))) (some (.inl (W_ i64 (eM+1)))))) (B_ (ns dR.1.1) λhm=>B_ (ns aj.1.1) λjq=>cond (hm !=jq) (some (.inr (.inr false))) (some (.inl (W_ i64 (eM+1))))))) (some (.inr (.inl ())))
def X6(L:List Int):Option Bool:=B_ (V1 L) λS=>cond S (some true) (B_ (Pd L) λaa=>B_ (k7 (aa.1.1,aa.1.2) aa.2) λaj=>B_ (se (aa.1.1,aa.1.2) aa.2) λap=>cond (! aj.2.toList==ap.2.toList) (some false) (B_ (yM (aj.1.1,aj.1.2) (ap.1.1,ap.1.2)) λv5=>cond (!v5) (some false) (B_ (Kq (aj.1.1,aj.1.2) (ap.1.1,ap.1.2)) λaN=>cond (!aN) (some false) (B_ (jU aj.1.1) λaO=>cond (!aO) (some false) (B_ (jU aj.1.2) λbi=>cond (!bi) (some false) (B_ (aW (Qx aj) 0) λc3=>match c3 with|.inl dQ=>B_ (k7 (aj.1.1,aj.1.2) ⟨#[107,101,101,112]⟩) λdz=>B_ (Qw dz.1.2 aj.1.1) λdO=>cond (!dO) (some false) (B_ (wq aj.1.1) λeU=>B_ (aW (Qy aj dz eU) 0) λjV=>match jV with|.inl jH=>some true|.inr tv=>some tv)|.inr dK=>some dK))))))
def at8:a4:=⟨3,[.d false (.list (.int .u8))],[ch],λx=>X6 x⟩
def at9:bl False at8:=bp [aev,agb,ahH,WV,ahJ,ahK,ls,ahM,Oc,Wu] [⟨9,[(73,a0)],some (0,[]),some [(2,ch)],false,none⟩,⟨20,[(107,a0)],some (2,[]),some [(2,ch)],false,none⟩] [cv 26 0] ⟨are,asj,at3,af8,at4,at5,lZ,at7,Wl,aff,trivial⟩
def ahN:Option (ao×ao):=B_ (JZ 1) λS=>B_ (oR S.1) λaa=>some (S.1,aa)
def Qz(L:List Int)(aa:List Int×Int):Option (List Int×Int⊕List Int):=cond (d_ (aa.2<(L.length:Int))) (B_ (idx L aa.2) λaj=>B_ (bI aa.1.length aa.2) λ_=>B_ (bI aa.1.length ((aa.2.toNat:Nat):Int)) λ_=>some (.inl (aa.1.set aa.2.toNat aj,W_ i64 (aa.2+1)))) (some (.inr aa.1))
def X7(L:List Int):Option (List Int):=B_ (om 8 (L.length:Int) 0) λS=>B_ (aW (Qz L) (S,0)) λap=>some ap
def QA(L:ao)(aa:ao×Int):Option (ao×Int⊕ao):=cond (d_ (aa.2<(L.length:Int))) (B_ (idx L aa.2) λaj=>B_ (X7 aj) λap=>B_ (bI aa.1.length aa.2) λ_=>B_ (bI aa.1.length ((aa.2.toNat:Nat):Int)) λ_=>some (.inl (aa.1.set aa.2.toNat ap,W_ i64 (aa.2+1)))) (some (.inr aa.1))
def X8(L:ao):Option ao:=B_ (om 24 (L.length:Int) []) λS=>B_ (aW (QA L) (S,0)) λv5=>some v5
end
end Go.Proofs.YtmljnmmdahlfdaaGreatDoor
