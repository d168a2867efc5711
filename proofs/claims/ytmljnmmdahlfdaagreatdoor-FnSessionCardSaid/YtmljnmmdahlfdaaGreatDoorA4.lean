/-
  A part of the proof. No condition.
-/
import Derived.Test.YtmljnmmdahlfdaaGreatDoorA3
set_option linter.all false
namespace Go.Proofs.YtmljnmmdahlfdaaGreatDoor
noncomputable section
open Go Go.RowKit Go.Proofs.YtmljnmmdahlfdaaGreatDoor.Eng
set_option maxRecDepth 100000
open Go.IntKind (i64 u8)
open Go.IntKind renaming wrap->W_
open Option renaming bind->B_
open Decidable renaming decide->d_
open Tryz
abbrev al:=List (List Int)
abbrev bH:a6:=.int .i64
abbrev bF:a6:=.list bH
abbrev fN:a6:=.list bF
abbrev aZ:cK:=.l (.d false bH)
abbrev ca:cK:=.l (.d false .bool)
abbrev gN:cK:=.l (.d false .str)
abbrev vC:cK:=.l (.d false bF)
abbrev Hl:cK:=.l (.d false fN)
abbrev cM(n:TypeId):cK:=.l (.o true n bH)
abbrev cs(n:TypeId):cK:=.l (.o true n bF)
abbrev jc(n:TypeId):cK:=.l (.o true n .str)
abbrev ey:cQ:=.d false bH
abbrev apa:cQ:=.d false .bool
abbrev iW:cQ:=.d false .str
abbrev dE:cQ:=.d false bF
abbrev cq:cQ:=.d false fN
abbrev cv(i:Nat)(s:List (Nat×cK))(n:Nat)(b:List (Nat×cK)):p1:=⟨i,s,some (n,b),none,false,none⟩
abbrev cr(i k:Nat):ww:=⟨i,[],[],[],k⟩
def oq:List (TypeId×a6):=[(3,bH),(5,.int .u8),(9,.str),(24,fN),(65,bF),(86,.prod bF bH),(132,.prod bF bH)]
def o6:Tryz.prog.follows .mixedOrders=true:=by kernel_rfl
abbrev bk(ae:Prop)(e:a4):Prop:=eZ Tryz.prog e.f/\gg ae Tryz.prog e
def MC(O:List a4)(A:List p1)(bE:List ww)(I:List mg)(V:List Nat)(aT:List (Nat×List Nat))(e:a4):Bool×(i1.den e.ps->Option (uJ (fC e.ps) (gt.den e.rs) (nn.den e.ps))):=match Tryz.prog.funcs[e.f]? with|some fn=>(tX fn e.ps,λx=>wJ ⟨Tryz.prog,oq,O,A,bE,I,V,aT⟩ fn e.ps e.rs x)|none=>(false,e.F)
def uc(V:List Nat)(aT:List (Nat×List Nat))(O:List a4)(A:List p1)(bE:List ww)(I:List mg){ae:Prop}{e:a4}(c:sH ae Tryz.prog O)(hi:vs ae Tryz.prog I)(k:MC O A bE I V aT e=(true,e.F):=by kernel_rfl):bk ae e:=by unfold MC at k;cases aH:Tryz.prog.funcs[e.f]? with|none=>rw[aH]at k;exact Bool.noConfusion (congrArg Prod.fst k)|some fn=>rw[aH]at k;exact GS (N:=⟨Tryz.prog,oq,O,A,bE,I,V,aT⟩) o6 c aH (congrArg Prod.fst k) (λx=>congrFun (congrArg Prod.snd k) x) hi
def MD(O:List a4)(A:List p1)(bE:List ww)(I:List mg){ae:Prop}{e:a4}(c:sH ae Tryz.prog O)(hi:vs ae Tryz.prog I)(k:MC O A bE I .nil .nil e=(true,e.F):=by kernel_rfl):bk ae e:=uc [] [] O A bE I c hi k
def bm(O:List a4)(A:List p1)(bE:List ww){ae:Prop}{e:a4}(c:sH ae Tryz.prog O)(k:MC O A bE .nil .nil .nil e=(true,e.F):=by kernel_rfl):bk ae e:=uc [] [] O A bE [] c trivial k
def UE(L:List Int):Option Bool:=some (d_ ((L.length:Int)>1048576))
def acE:a4:=⟨7,[.d false (.list (.int .u8))],[ca],λx=>UE x⟩
def apb{ae:Prop}:bk ae acE:=bm [] [] [] trivial
def C4(L:Int):Option ByteArray:=cond (L==1) (some ⟨#[48,44,48,32,49,44,48,32,48,44,49]⟩) (cond (L==2) (some ⟨#[48,44,48,32,50,44,48,32,48,44,50]⟩) (cond (L==3) (some ⟨#[45,49,44,45,49,32,49,44,45,49,32,49,44,49,32,45,49,44,49]⟩) (cond (L==4) (some ⟨#[48,44,48,32,51,44,48,32,49,44,50]⟩) (cond (L==5) (some ⟨#[45,49,44,45,49,32,50,44,45,49,32,45,49,44,50]⟩) (cond (L==6) (some ⟨#[48,44,48,32,53,44,50,32,51,44,52]⟩) (some ⟨#[]⟩))))))
def UF:a4:=⟨178,[ey],[gN],λx=>C4 x⟩
def acF{ae:Prop}:bk ae UF:=bm [] [] [] trivial
def vD(L:ByteArray)(av:Int)(S:List ByteArray×Int×Int):Option (List ByteArray×Int×Int⊕List ByteArray):=cond (d_ (S.2.2<=(L.size:Int))) (cond (S.2.2==(L.size:Int)) (B_ (uH L S.2.1 S.2.2) λaa=>B_ (bI 16 S.1 [aa]) λaj=>some (.inl (aj,(W_ i64 (S.2.2+1),W_ i64 (S.2.2+1))))) (B_ (idx L.data.toList S.2.2) λap=>cond ((ap.toNat:Int)==av) (B_ (uH L S.2.1 S.2.2) λv5=>B_ (bI 16 S.1 [v5]) λaL=>some (.inl (aL,(W_ i64 (S.2.2+1),W_ i64 (S.2.2+1))))) (some (.inl (S.1,(S.2.1,W_ i64 (S.2.2+1))))))) (some (.inr S.1))
def ud(L:ByteArray)(av:Int):Option (List ByteArray):=B_ (aU (vD L av) ([],(0,0))) λaK=>some aK
def Af:a4:=⟨30,[iW,.d false (.int .u8)],[jc 9],λx=>ud x.1 x.2⟩
def C5{ae:Prop}:bk ae Af:=bm [] [cv 4 [(5,jc 9),(6,aZ),(7,aZ)] 0 [(5,jc 9)]] [] trivial
def C6(S:Int×ByteArray):Option (Int×ByteArray⊕ByteArray):=cond (S.1 !=0) (B_ (fT .i64 S.1 10) λaa=>cond (d_ (aa<0)) (B_ (ft (oH [W_ u8 (W_ i64 (48+W_ i64 (0-aa)))]) S.2) λaj=>B_ (fV .i64 S.1 10) λap=>some (.inl (ap,aj))) (B_ (ft (oH [W_ u8 (W_ i64 (48+aa))]) S.2) λv5=>B_ (fV .i64 S.1 10) λaL=>some (.inl (aL,v5)))) (some (.inr S.2))
def iX(L:Int):Option ByteArray:=cond (L==0) (some ⟨#[48]⟩) (B_ (aU C6 (L,⟨#[]⟩)) λaK=>cond (d_ (L<0)) (B_ (ft ⟨#[45]⟩ aK) λbe=>some be) (some aK))
def ue:a4:=⟨218,[ey],[gN],λx=>iX x⟩
def vE{ae:Prop}:bk ae ue:=bm [] [cv 5 [(0,aZ),(4,gN)] 0 [(4,gN)]] [] trivial
def uh(aa:ByteArray)(aj:Int×Int):Option (Int×Int⊕Int⊕Int×Bool):=cond (d_ (aj.2<(aa.size:Int))) (B_ (idx aa.data.toList aj.2) λap=>cond (d_ ((ap.toNat:Int)<48)) (some (.inr (.inr (0,false)))) (B_ (idx aa.data.toList aj.2) λv5=>cond (d_ ((v5.toNat:Int)>57)) (some (.inr (.inr (0,false)))) (B_ (idx aa.data.toList aj.2) λaL=>some (.inl (W_ i64 (W_ i64 (10*aj.1)+W_ i64 (W_ u8 ((aL.toNat:Int)-48))),W_ i64 (aj.2+1)))))) (some (.inr (.inl aj.1)))
def acG(L:ByteArray)(bJ:Int×Int):Option (Int×Int⊕Int⊕Int×Bool):=cond (d_ (bJ.2<(L.size:Int))) (B_ (idx L.data.toList bJ.2) λcw=>cond (d_ ((cw.toNat:Int)<48)) (some (.inr (.inr (0,false)))) (B_ (idx L.data.toList bJ.2) λdx=>cond (d_ ((dx.toNat:Int)>57)) (some (.inr (.inr (0,false)))) (B_ (idx L.data.toList bJ.2) λdk=>some (.inl (W_ i64 (W_ i64 (10*bJ.1)+W_ i64 (W_ u8 ((dk.toNat:Int)-48))),W_ i64 (bJ.2+1)))))) (some (.inr (.inl bJ.1)))
def acH(L:ByteArray)(eM:Int×Int):Option (Int×Int⊕Int⊕Int×Bool):=cond (d_ (eM.2<(L.size:Int))) (B_ (idx L.data.toList eM.2) λhl=>cond (d_ ((hl.toNat:Int)<48)) (some (.inr (.inr (0,false)))) (B_ (idx L.data.toList eM.2) λhQ=>cond (d_ ((hQ.toNat:Int)>57)) (some (.inr (.inr (0,false)))) (B_ (idx L.data.toList eM.2) λhR=>some (.inl (W_ i64 (W_ i64 (10*eM.1)+W_ i64 (W_ u8 ((hR.toNat:Int)-48))),W_ i64 (eM.2+1)))))) (some (.inr (.inl eM.1)))
def ME(L:ByteArray)(av:Int):Option (Int×Bool):=cond (d_ ((L.size:Int)>0)) (B_ (idx L.data.toList 0) λS=>cond ((S.toNat:Int)==45) (B_ (uH L 1 (L.size:Int)) λaa=>cond (d_ ((aa.size:Int)<1)) (some (0,false)) (cond (d_ ((aa.size:Int)>av)) (some (0,false)) (B_ (aU (uh aa) (0,0)) λaK=>match aK with|.inl be=>cond ((S.toNat:Int)==45) (B_ (iX (W_ i64 (0-be))) λbA=>cond (! bA.toList==L.toList) (some (0,false)) (some (W_ i64 (0-be),true))) (B_ (iX be) λbC=>cond (! bC.toList==L.toList) (some (0,false)) (some (be,true)))|.inr a8=>some (a8.1,a8.2)))) (cond (d_ ((L.size:Int)<1)) (some (0,false)) (cond (d_ ((L.size:Int)>av)) (some (0,false)) (B_ (aU (acG L) (0,0)) λep=>match ep with|.inl dF=>cond ((S.toNat:Int)==45) (B_ (iX (W_ i64 (0-dF))) λfa=>cond (! fa.toList==L.toList) (some (0,false)) (some (W_ i64 (0-dF),true))) (B_ (iX dF) λdS=>cond (! dS.toList==L.toList) (some (0,false)) (some (dF,true)))|.inr eJ=>some (eJ.1,eJ.2))))) (cond (d_ ((L.size:Int)<1)) (some (0,false)) (cond (d_ ((L.size:Int)>av)) (some (0,false)) (B_ (aU (acH L) (0,0)) λjr=>match jr with|.inl lz=>B_ (iX lz) λhS=>cond (! hS.toList==L.toList) (some (0,false)) (some (lz,true))|.inr k6=>some (k6.1,k6.2))))
def acI:a4:=⟨216,[iW,ey],[aZ,ca],λx=>ME x.1 x.2⟩
def apc{ae:Prop}:bk ae acI:=bm [ue] [⟨9,[(8,aZ),(9,aZ)],some (0,[(8,aZ)]),some [(4,aZ),(5,ca)],false,none⟩] [] ⟨vE,trivial⟩
def sP(L:ByteArray):Option (Int×Bool):=B_ (ME L 12) λS=>some (S.1,S.2)
def C7:a4:=⟨157,[iW],[aZ,ca],λx=>sP x⟩
def Hm{ae:Prop}:bk ae C7:=bm [acI] [] [] ⟨apc,trivial⟩
def m3(L:Int)(av:Int)(dd:Int):Option Bool:=cond (d_ (L>=av)) (some (d_ (L<=dd))) (some false)
def qx:a4:=⟨79,[ey,ey,ey],[ca],λx=>m3 x.1 x.2.1 x.2.2⟩
def rz{ae:Prop}:bk ae qx:=bm [] [] [] trivial
def UG(L:List Int)(av:Int)(S:Int):Option (Int⊕Unit⊕Bool):=cond (d_ (S<(L.length:Int))) (B_ (idx L S) λaa=>B_ (m3 aa (W_ i64 (0-av)) av) λaj=>cond (!aj) (some (.inr (.inr false))) (some (.inl (W_ i64 (S+1))))) (some (.inr (.inl ())))
def pH(L:List Int)(av:Int):Option Bool:=B_ (aU (UG L av) 0) λap=>match ap with|.inl v5=>some true|.inr aL=>some aL
def xE:a4:=⟨166,[dE,ey],[ca],λx=>pH x.1 x.2⟩
def Ag{ae:Prop}:bk ae xE:=bm [qx] [⟨2,[(5,aZ)],some (0,[]),some [(4,ca)],false,none⟩] [] ⟨rz,trivial⟩
def Ah(L:List Int):Option Bool:=B_ (m3 (L.length:Int) 1 3) λS=>cond S (B_ (pH L 1000) λaa=>some aa) (some false)
def Hn:a4:=⟨214,[dE],[ca],λx=>Ah x⟩
def MF{ae:Prop}:bk ae Hn:=bm [qx,xE] [] [] ⟨rz,Ag,trivial⟩
def acJ(S:List ByteArray)(aa:List Int×Int):Option (List Int×Int⊕List Int⊕List Int×Bool):=cond (d_ (aa.2<(S.length:Int))) (B_ (idx S aa.2) λaj=>B_ (sP aj) λap=>cond (!ap.2) (some (.inr (.inr ([],false)))) (B_ (bI 8 aa.1 [ap.1]) λv5=>some (.inl (v5,W_ i64 (aa.2+1))))) (some (.inr (.inl aa.1)))
def rB(L:ByteArray):Option (List Int×Bool):=B_ (ud L 44) λS=>B_ (aU (acJ S) ([],0)) λaL=>match aL with|.inl aK=>B_ (Ah aK) λa8=>cond (!a8) (some ([],false)) (some (aK,true))|.inr be=>some (be.1,be.2)
def C8:a4:=⟨155,[iW],[cM 3,ca],λx=>rB x⟩
def Ho{ae:Prop}:bk ae C8:=bm [Af,C7,Hn] [⟨4,[(4,cM 3),(6,aZ)],some (0,[(4,cM 3)]),some [(2,cM 3),(3,ca)],false,none⟩] [] ⟨C5,Hm,MF,trivial⟩
def MG(L:al)(S:Int):Option (Int⊕Unit⊕Bool):=cond (d_ (S<(L.length:Int))) (B_ (idx L S) λaa=>cond ((aa.length:Int)!=2) (some (.inr (.inr false))) (B_ (idx L S) λaj=>B_ (pH aj 50) λap=>cond (!ap) (some (.inr (.inr false))) (some (.inl (W_ i64 (S+1)))))) (some (.inr (.inl ())))
def Hp(L:al):Option Bool:=B_ (aU (MG L) 0) λv5=>match v5 with|.inl aL=>some true|.inr aK=>some aK
def UH:a4:=⟨80,[cq],[ca],λx=>Hp x⟩
def acK{ae:Prop}:bk ae UH:=bm [xE] [⟨2,[(3,aZ)],some (0,[]),some [(2,ca)],false,none⟩] [] ⟨Ag,trivial⟩
def MH(L:List Int)(av:List Int)(S:Int):Option (Int⊕Unit⊕Bool):=cond (d_ (S<(L.length:Int))) (cond (d_ (S<(av.length:Int))) (B_ (idx L S) λaa=>B_ (idx av S) λaj=>cond (aa !=aj) (B_ (idx L S) λap=>B_ (idx av S) λv5=>some (.inr (.inr (d_ (ap<v5))))) (some (.inl (W_ i64 (S+1))))) (some (.inr (.inl ())))) (some (.inr (.inl ())))
def Hq(L:List Int)(av:List Int):Option Bool:=B_ (aU (MH L av) 0) λaL=>match aL with|.inl aK=>some false|.inr be=>some be
def UI:a4:=⟨176,[dE,dE],[ca],λx=>Hq x.1 x.2⟩
def acL{ae:Prop}:bk ae UI:=bm [] [⟨2,[(5,aZ)],some (0,[]),some [(4,ca)],false,none⟩] [cr 4 0,cr 5 0] trivial
def MI(L:List Int)(av:List Int)(S:Int):Option (Int⊕Unit⊕Bool):=cond (d_ (S<(L.length:Int))) (B_ (idx L S) λaa=>B_ (idx av S) λaj=>cond (aa !=aj) (some (.inr (.inr false))) (some (.inl (W_ i64 (S+1))))) (some (.inr (.inl ())))
def ui(L:List Int)(av:List Int):Option Bool:=cond ((L.length:Int)!=(av.length:Int)) (some false) (B_ (aU (MI L av) 0) λap=>match ap with|.inl v5=>some true|.inr aL=>some aL)
def C9:a4:=⟨163,[dE,dE],[ca],λx=>ui x.1 x.2⟩
def Hr{ae:Prop}:bk ae C9:=bm [] [⟨4,[(5,aZ)],some (0,[]),some [(4,ca)],false,none⟩] [cr 6 0] trivial
def Ai(av:List Int)(S:al×Int):Option (al×Int⊕al×Int):=cond (d_ (S.2>0)) (B_ (bG S.1.length (W_ i64 (S.2-1))) λ_=>B_ (idx S.1 (((W_ i64 (S.2-(1:Int))).toNat:Nat):Int)) λaa=>B_ (Hq av aa) λaj=>cond aj (some (.inl (S.1,W_ i64 (S.2-1)))) (some (.inr (S.1,S.2)))) (some (.inr (S.1,S.2)))
def xF(L:al)(av:List Int):Option al:=B_ (aU (Ai av) (L,(L.length:Int))) λap=>cond (d_ (ap.2>0)) (B_ (bG ap.1.length (W_ i64 (ap.2-1))) λ_=>B_ (idx ap.1 (((W_ i64 (ap.2-(1:Int))).toNat:Nat):Int)) λv5=>B_ (ui v5 av) λaL=>cond aL (some ap.1) (B_ (e5 ap.1 ap.2 (ap.1.length:Int)) λaK=>B_ (e5 ap.1 (ap.2.toNat:Int) ((ap.1.length:Int).toNat:Int)) λbe=>B_ (bI 24 [] be) λa8=>B_ (e5 ap.1 0 ap.2) λbA=>B_ (bI 8 [] av) λbC=>B_ (bI 24 bA [bC]) λbJ=>B_ (bI 24 bJ a8) λcw=>some cw)) (B_ (e5 ap.1 ap.2 (ap.1.length:Int)) λdx=>B_ (e5 ap.1 (ap.2.toNat:Int) ((ap.1.length:Int).toNat:Int)) λdk=>B_ (bI 24 [] dk) λep=>B_ (e5 ap.1 0 ap.2) λdF=>B_ (bI 8 [] av) λeJ=>B_ (bI 24 dF [eJ]) λfa=>B_ (bI 24 fa ep) λdS=>some dS)
def UJ:a4:=⟨167,[.mv false 65 bF,dE],[.l (.o false 65 bF)],λx=>xF x.1 x.2⟩
def acM{ae:Prop}:bk ae UJ:=uc [35] [(7,[0,1,2,4,8,3,5,6,7,9,10])] [UI,C9] [cv 2 [(0,.l (.o false 65 bF)),(5,aZ)] 0 [(0,.l (.o false 65 bF)),(5,aZ)]] [cr 7 0] [] ⟨acL,Hr,trivial⟩ trivial
def Hs(L:List Int)(av:List Int)(S:List Int×Int):Option (List Int×Int⊕List Int):=cond (d_ (S.2<(L.length:Int))) (B_ (idx L S.2) λaa=>B_ (idx av S.2) λaj=>B_ (bI 8 S.1 [W_ i64 (aa-aj)]) λap=>some (.inl (ap,W_ i64 (S.2+1)))) (some (.inr S.1))
def ma(L:List Int)(av:List Int):Option (List Int):=B_ (aU (Hs L av) ([],0)) λv5=>some v5
def Aj:a4:=⟨170,[dE,dE],[cM 3],λx=>ma x.1 x.2⟩
def Da{ae:Prop}:bk ae Aj:=bm [] [cv 3 [(5,cM 3),(6,aZ)] 0 [(5,cM 3)]] [cr 5 0] trivial
def m4(L:List Int)(av:List Int):Option Int:=B_ (idx L 0) λS=>B_ (idx av 1) λaa=>B_ (idx L 1) λaj=>B_ (idx av 0) λap=>some (W_ i64 (W_ i64 (S*aa)-W_ i64 (aj*ap)))
def vG:a4:=⟨177,[dE,dE],[aZ],λx=>m4 x.1 x.2⟩
def xG{ae:Prop}:bk ae vG:=bm [] [] [cr 1 0] trivial
def Ak(L:List Int)(av:List Int)(dd:List Int):Option Int:=B_ (ma av L) λS=>B_ (ma dd av) λaa=>B_ (m4 S aa) λaj=>some aj
def MJ:a4:=⟨237,[dE,dE,dE],[aZ],λx=>Ak x.1 x.2.1 x.2.2⟩
def UK{ae:Prop}:bk ae MJ:=bm [Aj,vG] [] [] ⟨Da,xG,trivial⟩
def Al(S:al×Int)(ap:List Int)(v5:al):Option (al⊕al):=cond (d_ ((v5.length:Int)>=W_ i64 ((S.1.length:Int)+2))) (B_ (bG v5.length (W_ i64 ((v5.length:Int)-2))) λ_=>B_ (idx v5 (((W_ i64 ((v5.length:Int)-(2:Int))).toNat:Nat):Int)) λaL=>B_ (bG v5.length (W_ i64 ((v5.length:Int)-1))) λ_=>B_ (idx v5 (((W_ i64 ((v5.length:Int)-(1:Int))).toNat:Nat):Int)) λaK=>B_ (Ak aL aK ap) λbe=>cond (d_ (be<=0)) (B_ (e5 v5 0 (W_ i64 ((v5.length:Int)-1))) λa8=>some (.inl a8)) (some (.inr v5))) (some (.inr v5))
def apd(S:al×Int)(aj:List Int)(bJ:al):Option (al⊕al):=cond (d_ ((bJ.length:Int)>=W_ i64 ((S.1.length:Int)+2))) (B_ (bG bJ.length (W_ i64 ((bJ.length:Int)-2))) λ_=>B_ (idx bJ (((W_ i64 ((bJ.length:Int)-(2:Int))).toNat:Nat):Int)) λcw=>B_ (bG bJ.length (W_ i64 ((bJ.length:Int)-1))) λ_=>B_ (idx bJ (((W_ i64 ((bJ.length:Int)-(1:Int))).toNat:Nat):Int)) λdx=>B_ (Ak cw dx aj) λdk=>cond (d_ (dk<=0)) (B_ (e5 bJ 0 (W_ i64 ((bJ.length:Int)-1))) λep=>some (.inl ep)) (some (.inr bJ))) (some (.inr bJ))
def Ht(L:al)(S:al×Int)(aa:al×Int):Option (al×Int⊕al):=cond (d_ (aa.2<(L.length:Int))) (B_ (idx L aa.2) λaj=>cond (S.2==1) (B_ (idx L (W_ i64 (W_ i64 ((L.length:Int)-1)-aa.2))) λap=>B_ (aU (Al S ap) aa.1) λbA=>B_ (bI 24 bA [ap]) λbC=>some (.inl (bC,W_ i64 (aa.2+1)))) (B_ (aU (apd S aj) aa.1) λdF=>B_ (bI 24 dF [aj]) λeJ=>some (.inl (eJ,W_ i64 (aa.2+1))))) (some (.inr aa.1))
def Hu(L:al)(S:al×Int):Option (al×Int⊕al):=cond (d_ (S.2<2)) (B_ (aU (Ht L S) (S.1,0)) λfa=>B_ (e5 fa 0 (W_ i64 ((fa.length:Int)-1))) λdS=>some (.inl (dS,W_ i64 (S.2+1)))) (some (.inr S.1))
def Hv(L:al):Option al:=B_ (aU (Hu L) ([],0)) λeM=>some eM
def UL:a4:=⟨168,[cq],[.l (.o false 65 bF)],λx=>Hv x⟩
def acN{ae:Prop}:bk ae UL:=bm [MJ] [cv 3 [(3,.l (.o false 65 bF)),(4,aZ)] 0 [(3,.l (.o false 65 bF))],cv 7 [(3,.l (.o false 65 bF)),(6,aZ)] 2 [(3,.l (.o false 65 bF))],cv 12 [(3,.l (.o false 65 bF))] 4 [(3,.l (.o false 65 bF))]] [cr 12 0] ⟨UK,trivial⟩
def Am(L:al)(S:al×Int):Option (al×Int⊕al):=cond (d_ (S.2<(L.length:Int))) (B_ (idx L S.2) λaa=>B_ (bI 8 [] aa) λaj=>B_ (bI 24 S.1 [aj]) λap=>some (.inl (ap,W_ i64 (S.2+1)))) (some (.inr S.1))
def nP(L:al):Option al:=B_ (aU (Am L) ([],0)) λv5=>some v5
def Db:a4:=⟨74,[cq],[cs 65],λx=>nP x⟩
def Hw{ae:Prop}:bk ae Db:=bm [] [cv 3 [(3,cs 65),(4,aZ)] 0 [(3,cs 65)]] [] trivial
def Hx(L:al)(aa:al×Int):Option (al×Int⊕al):=cond (d_ (aa.2<(L.length:Int))) (B_ (idx L aa.2) λaj=>B_ (xF aa.1 aj) λap=>some (.inl (ap,W_ i64 (aa.2+1)))) (some (.inr aa.1))
def rC(L:al):Option (al×Bool):=cond (d_ ((L.length:Int)>200)) (some ([],false)) (B_ (Hp L) λS=>cond (!S) (some ([],false)) (B_ (aU (Hx L) ([],0)) λv5=>cond (d_ ((v5.length:Int)<3)) (some ([],false)) (B_ (Hv v5) λaL=>cond (d_ ((aL.length:Int)<3)) (some ([],false)) (cond (d_ ((aL.length:Int)>12)) (some ([],false)) (B_ (nP aL) λaK=>some (aK,true))))))
def xI:a4:=⟨81,[cq],[cs 65,ca],λx=>rC x⟩
def Ao{ae:Prop}:bk ae xI:=bm [UH,UJ,UL,Db] [cv 5 [(4,.l (.o false 65 bF)),(5,aZ)] 0 [(4,.l (.o false 65 bF))]] [] ⟨acK,acM,acN,Hw,trivial⟩
def MK(L:al)(av:al)(S:Int):Option (Int⊕Unit⊕Bool):=cond (d_ (S<(L.length:Int))) (B_ (idx L S) λaa=>B_ (idx av S) λaj=>B_ (ui aa aj) λap=>cond (!ap) (some (.inr (.inr false))) (some (.inl (W_ i64 (S+1))))) (some (.inr (.inl ())))
def Hy(L:al)(av:al):Option Bool:=cond ((L.length:Int)!=(av.length:Int)) (some false) (B_ (aU (MK L av) 0) λv5=>match v5 with|.inl aL=>some true|.inr aK=>some aK)
def UM:a4:=⟨77,[cq,cq],[ca],λx=>Hy x.1 x.2⟩
def acP{ae:Prop}:bk ae UM:=bm [C9] [⟨4,[(5,aZ)],some (0,[]),some [(4,ca)],false,none⟩] [cr 6 0] ⟨Hr,trivial⟩
def kd(L:al):Option Bool:=B_ (m3 (L.length:Int) 3 12) λS=>cond (!S) (some false) (B_ (Hp L) λaa=>cond (!aa) (some false) (B_ (rC L) λaj=>cond aj.2 (B_ (Hy aj.1 L) λap=>some ap) (some false)))
def lA:a4:=⟨13,[cq],[ca],λx=>kd x⟩
def mb{ae:Prop}:bk ae lA:=bm [qx,UH,xI,UM] [] [] ⟨rz,acK,Ao,acP,trivial⟩
def xJ(S:List ByteArray)(aa:al×Int):Option (al×Int⊕al⊕al×Bool):=cond (d_ (aa.2<(S.length:Int))) (B_ (idx S aa.2) λaj=>B_ (rB aj) λap=>cond (!ap.2) (some (.inr (.inr ([],false)))) (cond (d_ (aa.2>=12)) (some (.inr (.inr ([],false)))) (B_ (bI 24 aa.1 [ap.1]) λv5=>some (.inl (v5,W_ i64 (aa.2+1)))))) (some (.inr (.inl aa.1)))
def xK(L:ByteArray):Option (al×Bool):=B_ (ud L 32) λS=>B_ (aU (xJ S) ([],0)) λaL=>match aL with|.inl aK=>B_ (kd aK) λa8=>cond (!a8) (some ([],false)) (some (aK,true))|.inr be=>some (be.1,be.2)
def ML:a4:=⟨153,[iW],[cs 65,ca],λx=>xK x⟩
def UN{ae:Prop}:bk ae ML:=bm [Af,C8,lA] [⟨4,[(4,cs 65),(6,aZ)],some (0,[(4,cs 65)]),some [(2,cs 65),(3,ca)],false,none⟩] [] ⟨C5,Ho,mb,trivial⟩
def MM:Option (al×al):=B_ (C4 1) λS=>B_ (xK S) λaa=>B_ (nP aa.1) λaj=>some (aa.1,aj)
def acQ:a4:=⟨87,[],[.a [.o true 65 bF,.o true 65 bF]],λx=>MM⟩
def ape{ae:Prop}:bk ae acQ:=bm [UF,ML,Db] [] [] ⟨acF,UN,Hw,trivial⟩
def vH(L:List Int×Int×Int):Option (Int×(List Int×Int×Int)×Unit):=B_ (Fe .i64 (W_ i64 (W_ i64 (L.2.2*6364136223846793005)+1442695040888963407)) 33) λS=>B_ (Fe .i64 (W_ i64 (W_ i64 (L.2.2*6364136223846793005)+1442695040888963407)) 45) λaa=>cond (d_ (L.2.1<(L.1.length:Int))) (B_ (idx L.1 L.2.1) λaj=>some (tq .i64 (W_ i64 (tq .i64 (KL .i64 S aa) 255+W_ i64 aj)) 255,((L.1,(W_ i64 (L.2.1+1),W_ i64 (W_ i64 (L.2.2*6364136223846793005)+1442695040888963407))),()))) (some (tq .i64 (KL .i64 S aa) 255,((L.1,(L.2.1,W_ i64 (W_ i64 (L.2.2*6364136223846793005)+1442695040888963407))),())))
def acR:a4:=⟨184,[.cur 106],[aZ],λx=>vH x⟩
def apf{ae:Prop}:bk ae acR:=bm [] [] [cr 2 0,cr 3 0,cr 4 0] trivial
def ot(L:List Int×Int×Int)(av:Int):Option (Int×(List Int×Int×Int)×Unit):=cond (d_ (av<=0)) (some (0,((L.1,(L.2.1,L.2.2)),()))) (cond (d_ (av<=256)) (B_ (vH (L.1,(L.2.1,L.2.2))) λS=>B_ (fT .i64 S.1 av) λaa=>some (aa,((S.2.1.1,(S.2.1.2.1,S.2.1.2.2)),()))) (B_ (vH (L.1,(L.2.1,L.2.2))) λaj=>B_ (vH (aj.2.1.1,(aj.2.1.2.1,aj.2.1.2.2))) λap=>B_ (vH (ap.2.1.1,(ap.2.1.2.1,ap.2.1.2.2))) λv5=>B_ (vH (v5.2.1.1,(v5.2.1.2.1,v5.2.1.2.2))) λaL=>B_ (fT .i64 (W_ i64 (W_ i64 (W_ i64 (W_ i64 (aj.1*16777216)+W_ i64 (ap.1*65536))+W_ i64 (v5.1*256))+aL.1)) av) λaK=>some (aK,((aL.2.1.1,(aL.2.1.2.1,aL.2.1.2.2)),()))))
def Ap:a4:=⟨94,[.cur 106,ey],[aZ],λx=>ot x.1 x.2⟩
def Dc{ae:Prop}:bk ae Ap:=bm [acR] [] [] ⟨apf,trivial⟩
def MN(av:Int)(dd:Int)(S:(List Int×Int×Int)×List Int×Int):Option ((List Int×Int×Int)×List Int×Int⊕(List Int×Int×Int)×List Int):=cond (d_ (S.2.2<av)) (B_ (ot (S.1.1,(S.1.2.1,S.1.2.2)) (W_ i64 (W_ i64 (2*dd)+1))) λaa=>B_ (bI 8 S.2.1 [W_ i64 (aa.1-dd)]) λaj=>some (.inl ((aa.2.1.1,(aa.2.1.2.1,aa.2.1.2.2)),(aj,W_ i64 (S.2.2+1))))) (some (.inr ((S.1.1,(S.1.2.1,S.1.2.2)),S.2.1)))
def Hz(L:List Int×Int×Int)(av:Int)(dd:Int):Option (List Int×(List Int×Int×Int)×Unit):=B_ (aU (MN av dd) ((L.1,(L.2.1,L.2.2)),([],0))) λap=>some (ap.2,((ap.1.1,(ap.1.2.1,ap.1.2.2)),()))
def acS:a4:=⟨185,[.cur 106,ey,ey],[cM 3],λx=>Hz x.1 x.2.1 x.2.2⟩
def apg{ae:Prop}:bk ae acS:=bm [Ap] [cv 3 [(0,.b 106 [.d false (.list (.int .u8)),.d false bH,.d false bH]),(7,cM 3),(8,aZ)] 0 [(0,.b 106 [.d false (.list (.int .u8)),.d false bH,.d false bH]),(7,cM 3)]] [] ⟨Dc,trivial⟩
def HA(av:Int)(aa:Int×(List Int×Int×Int)×Unit)(aj:(List Int×Int×Int)×al×Int):Option ((List Int×Int×Int)×al×Int⊕(List Int×Int×Int)×al):=cond (d_ (aj.2.2<W_ i64 (3+aa.1))) (B_ (Hz (aj.1.1,(aj.1.2.1,aj.1.2.2)) 2 av) λap=>B_ (bI 24 aj.2.1 [ap.1]) λv5=>some (.inl ((ap.2.1.1,(ap.2.1.2.1,ap.2.1.2.2)),(v5,W_ i64 (aj.2.2+1))))) (some (.inr ((aj.1.1,(aj.1.2.1,aj.1.2.2)),aj.2.1)))
def MO(av:Int)(S:(List Int×Int×Int)×Int):Option ((List Int×Int×Int)×Int⊕List Int×Int×Int⊕(List Int×Int×Int)×al):=cond (d_ (S.2<6)) (B_ (ot (S.1.1,(S.1.2.1,S.1.2.2)) 4) λaa=>B_ (aU (HA av aa) ((aa.2.1.1,(aa.2.1.2.1,aa.2.1.2.2)),([],0))) λaL=>B_ (rC aL.2) λaK=>cond aK.2 (some (.inr (.inr ((aL.1.1,(aL.1.2.1,aL.1.2.2)),aK.1)))) (some (.inl ((aL.1.1,(aL.1.2.1,aL.1.2.2)),W_ i64 (S.2+1))))) (some (.inr (.inl (S.1.1,(S.1.2.1,S.1.2.2)))))
def HB(L:List Int×Int×Int)(av:Int):Option (al×(List Int×Int×Int)×Unit):=B_ (aU (MO av) ((L.1,(L.2.1,L.2.2)),0)) λbe=>match be with|.inl a8=>some ([[0,0],[2,0],[0,1]],((a8.1,(a8.2.1,a8.2.2)),()))|.inr bA=>some (bA.2,((bA.1.1,(bA.1.2.1,bA.1.2.2)),()))
def acT:a4:=⟨97,[.cur 106,ey],[cs 65],λx=>HB x.1 x.2⟩
def aph{ae:Prop}:bk ae acT:=bm [Ap,acS,xI] [⟨2,[(0,.b 106 [.d false (.list (.int .u8)),.d false bH,.d false bH]),(5,aZ)],some (0,[(0,.b 106 [.d false (.list (.int .u8)),.d false bH,.d false bH])]),some [(0,.b 106 [.d false (.list (.int .u8)),.d false bH,.d false bH]),(4,cs 65)],false,none⟩,cv 7 [(0,.b 106 [.d false (.list (.int .u8)),.d false bH,.d false bH]),(6,cs 65),(8,aZ)] 2 [(0,.b 106 [.d false (.list (.int .u8)),.d false bH,.d false bH]),(6,cs 65)]] [] ⟨Dc,apg,Ao,trivial⟩
def HC(L:List ByteArray)(av:ByteArray)(S:List Int×Int):Option (List Int×Int⊕List Int):=cond (d_ (S.2<(L.length:Int))) (cond (d_ (S.2>0)) (B_ (bI 1 S.1 (nq av)) λaa=>B_ (idx L S.2) λaj=>B_ (bI 1 aa (nq aj)) λap=>some (.inl (ap,W_ i64 (S.2+1)))) (B_ (idx L S.2) λv5=>B_ (bI 1 S.1 (nq v5)) λaL=>some (.inl (aL,W_ i64 (S.2+1))))) (some (.inr S.1))
def pI(L:List ByteArray)(av:ByteArray):Option ByteArray:=B_ (aU (HC L av) ([],0)) λaK=>some (oH aK)
def Aq:a4:=⟨96,[.d false (.list .str),iW],[gN],λx=>pI x.1 x.2⟩
def Dd{ae:Prop}:bk ae Aq:=bm [] [cv 3 [(5,.l (.o true 5 (.int .u8))),(6,aZ)] 0 [(5,.l (.o true 5 (.int .u8)))]] [] trivial
def MP(L:List Int)(S:List ByteArray×Int):Option (List ByteArray×Int⊕List ByteArray):=cond (d_ (S.2<(L.length:Int))) (B_ (idx L S.2) λaa=>B_ (iX aa) λaj=>B_ (bI 16 S.1 [aj]) λap=>some (.inl (ap,W_ i64 (S.2+1)))) (some (.inr S.1))
def sQ(L:List Int):Option ByteArray:=B_ (aU (MP L) ([],0)) λv5=>B_ (pI v5 ⟨#[44]⟩) λaL=>some aL
def Ar:a4:=⟨159,[dE],[gN],λx=>sQ x⟩
def De{ae:Prop}:bk ae Ar:=bm [ue,Aq] [cv 3 [(3,jc 9),(4,aZ)] 0 [(3,jc 9)]] [] ⟨vE,Dd,trivial⟩
def HD(L:al)(aa:List ByteArray×Int):Option (List ByteArray×Int⊕List ByteArray):=cond (d_ (aa.2<(L.length:Int))) (B_ (idx L aa.2) λaj=>B_ (sQ aj) λap=>B_ (bI 16 aa.1 [ap]) λv5=>some (.inl (v5,W_ i64 (aa.2+1)))) (some (.inr aa.1))
def xL(L:al):Option ByteArray:=B_ (kd L) λS=>cond (!S) (some ⟨#[]⟩) (B_ (aU (HD L) ([],0)) λaL=>B_ (pI aL ⟨#[32]⟩) λaK=>some aK)
def MQ:a4:=⟨75,[cq],[gN],λx=>xL x⟩
def UO{ae:Prop}:bk ae MQ:=bm [lA,Ar,Aq] [cv 5 [(3,jc 9),(4,aZ)] 0 [(3,jc 9)]] [] ⟨mb,De,Dd,trivial⟩
def pJ(L:List Int×Int×Int)(av:List ByteArray):Option (ByteArray×(List Int×Int×Int)×Unit):=B_ (ot (L.1,(L.2.1,L.2.2)) (av.length:Int)) λS=>B_ (idx av S.1) λaa=>some (aa,((S.2.1.1,(S.2.1.2.1,S.2.1.2.2)),()))
def acU:a4:=⟨98,[.cur 106,.d false (.list .str)],[gN],λx=>pJ x.1 x.2⟩
def api{ae:Prop}:bk ae acU:=bm [Ap] [] [] ⟨Dc,trivial⟩
def As(L:List Int×Int×Int):Option (ByteArray×(List Int×Int×Int)×Unit):=B_ (ot (L.1,(L.2.1,L.2.2)) 9) λS=>cond (S.1==0) (B_ (HB (S.2.1.1,(S.2.1.2.1,S.2.1.2.2)) 3) λaa=>B_ (xL aa.1) λaj=>B_ (ft ⟨#[112,111,108,121,32]⟩ aj) λap=>some (ap,((aa.2.1.1,(aa.2.1.2.1,aa.2.1.2.2)),()))) (cond (S.1==1) (B_ (pJ (S.2.1.1,(S.2.1.2.1,S.2.1.2.2)) [⟨#[101,120,97,109,112,108,101,32,49]⟩,⟨#[101,120,97,109,112,108,101,32,50]⟩,⟨#[101,120,97,109,112,108,101,32,51]⟩,⟨#[101,120,97,109,112,108,101,32,52]⟩,⟨#[101,120,97,109,112,108,101,32,53]⟩,⟨#[101,120,97,109,112,108,101,32,54]⟩,⟨#[101,120,97,109,112,108,101,32,57]⟩,⟨#[101,120,97,109,112,108,101,32,120]⟩,⟨#[107,101,101,112]⟩,⟨#[115,119,97,112]⟩]) λv5=>some (v5.1,((v5.2.1.1,(v5.2.1.2.1,v5.2.1.2.2)),()))) (cond (S.1==2) (B_ (pJ (S.2.1.1,(S.2.1.2.1,S.2.1.2.2)) [⟨#[109,105,114,114,111,114]⟩,⟨#[110,111,114,109,97,108]⟩,⟨#[100,117,97,108]⟩,⟨#[115,117,109]⟩,⟨#[100,105,108,97,116,101,32,50]⟩,⟨#[100,105,108,97,116,101,32,48]⟩,⟨#[109,111,118,101,32,49,44,50]⟩,⟨#[109,111,118,101,32,49]⟩,⟨#[115,104,101,97,114,32,49]⟩,⟨#[115,104,101,97,114,32,45,50]⟩,⟨#[115,104,101,97,114,32,50,48,48]⟩,⟨#[109,111,118,101,32,49,44,50,44,51]⟩]) λaL=>some (aL.1,((aL.2.1.1,(aL.2.1.2.1,aL.2.1.2.2)),()))) (cond (S.1==3) (B_ (pJ (S.2.1.1,(S.2.1.2.1,S.2.1.2.2)) [⟨#[97,116,32,50]⟩,⟨#[97,116,32,45,49]⟩,⟨#[97,116,32,120]⟩,⟨#[112,108,97,99,101,32,48,44,48]⟩,⟨#[112,108,97,99,101,32,49,44,49]⟩,⟨#[112,108,97,99,101,32,49]⟩,⟨#[108,97,121,101,114,115,32,49,44,48]⟩,⟨#[108,97,121,101,114,115,32,49,44,49]⟩,⟨#[108,97,121,101,114,115,32,49]⟩,⟨#[108,97,121,101,114,115,32,120]⟩]) λaK=>some (aK.1,((aK.2.1.1,(aK.2.1.2.1,aK.2.1.2.2)),()))) (cond (S.1==4) (B_ (pJ (S.2.1.1,(S.2.1.2.1,S.2.1.2.2)) [⟨#[115,112,108,105,116,32,49,44,48,32,50,44,53]⟩,⟨#[116,117,114,110,115,32,49,44,48,32,50,44,53]⟩,⟨#[115,112,108,105,116,32,49,44,48,32,48,44,49]⟩,⟨#[116,117,114,110,115,32,49,44,48,32,48,44,49]⟩,⟨#[115,112,108,105,116,32,48,44,49,32,49,44,48]⟩,⟨#[116,117,114,110,115,32,49,44,48,32,45,51,44,55]⟩,⟨#[115,112,108,105,116,32,49,32,50]⟩,⟨#[115,112,108,105,116,32,120,32,49]⟩]) λbe=>some (be.1,((be.2.1.1,(be.2.1.2.1,be.2.1.2.2)),()))) (cond (S.1==5) (B_ (pJ (S.2.1.1,(S.2.1.2.1,S.2.1.2.2)) [⟨#[99,111,117,110,116,32,50,59,49,44,48,60,50,59,48,44,49,60,49,59,45,49,44,45,49,60,48]⟩,⟨#[99,111,117,110,116,32,49,59,50,60,53,59,45,49,60,48]⟩,⟨#[99,111,117,110,116,32,120]⟩,⟨#[118,101,114,116,105,99,101,115,32,50,59,49,44,48,60,50,59,48,44,49,60,49,59,45,50,44,45,49,60,48]⟩,⟨#[118,101,114,116,105,99,101,115,32,49,59,49,60,50]⟩,⟨#[119,97,121,115,32,49,48,32,50,44,51,44,53]⟩,⟨#[119,97,121,115,32,55,32,51,44,50]⟩,⟨#[119,97,121,115,32,120,32,49]⟩,⟨#[119,97,121,115,32,53,32,49]⟩]) λa8=>some (a8.1,((a8.2.1.1,(a8.2.1.2.1,a8.2.1.2.2)),()))) (cond (S.1==6) (cond (S.1==6) (B_ (pJ (S.2.1.1,(S.2.1.2.1,S.2.1.2.2)) [⟨#[115,104,111,119]⟩,⟨#[100,101,115,99,114,105,98,101]⟩,⟨#[101,109,112,116,121]⟩,⟨#[119,105,100,116,104]⟩,⟨#[100,105,114,101,99,116,105,111,110,115]⟩,⟨#[99,111,114,110,101,114,115]⟩,⟨#[109,105,120,101,100]⟩,⟨#[115,97,109,101]⟩,⟨#[116,119,101,108,118,101]⟩]) λbA=>some (bA.1,((bA.2.1.1,(bA.2.1.2.1,bA.2.1.2.2)),()))) (B_ (pJ (S.2.1.1,(S.2.1.2.1,S.2.1.2.2)) [⟨#[]⟩,⟨#[119,104,97,116]⟩,⟨#[112,111,108,121]⟩,⟨#[112,111,108,121,32,48,44,48,32,49,44,48]⟩,⟨#[115,104,111,119,32,110,111,119]⟩,⟨#[115,112,108,105,116,32,49,44,48]⟩,⟨#[97,32,98,32,99,32,100]⟩]) λbC=>some (bC.1,((bC.2.1.1,(bC.2.1.2.1,bC.2.1.2.2)),())))) (cond (S.1==7) (B_ (pJ (S.2.1.1,(S.2.1.2.1,S.2.1.2.2)) [⟨#[115,104,111,119]⟩,⟨#[100,101,115,99,114,105,98,101]⟩,⟨#[101,109,112,116,121]⟩,⟨#[119,105,100,116,104]⟩,⟨#[100,105,114,101,99,116,105,111,110,115]⟩,⟨#[99,111,114,110,101,114,115]⟩,⟨#[109,105,120,101,100]⟩,⟨#[115,97,109,101]⟩,⟨#[116,119,101,108,118,101]⟩]) λbJ=>some (bJ.1,((bJ.2.1.1,(bJ.2.1.2.1,bJ.2.1.2.2)),()))) (B_ (pJ (S.2.1.1,(S.2.1.2.1,S.2.1.2.2)) [⟨#[]⟩,⟨#[119,104,97,116]⟩,⟨#[112,111,108,121]⟩,⟨#[112,111,108,121,32,48,44,48,32,49,44,48]⟩,⟨#[115,104,111,119,32,110,111,119]⟩,⟨#[115,112,108,105,116,32,49,44,48]⟩,⟨#[97,32,98,32,99,32,100]⟩]) λcw=>some (cw.1,((cw.2.1.1,(cw.2.1.2.1,cw.2.1.2.2)),()))))))))))
def acV:a4:=⟨33,[.cur 106],[gN],λx=>As x⟩
def apj{ae:Prop}:bk ae acV:=bm [Ap,acT,MQ,acU] [] [] ⟨Dc,aph,UO,api,trivial⟩
def Df(L:al×al):Option (al×al):=B_ (nP L.1) λS=>B_ (nP L.2) λaa=>some (S,aa)
def acW:a4:=⟨72,[.d false (.prod fN fN)],[.a [.o true 65 bF,.o true 65 bF]],λx=>Df x⟩
def apk{ae:Prop}:bk ae acW:=bm [Db] [] [cr 1 0] ⟨Hw,trivial⟩
def MR(L:List Int)(av:Int)(S:List Int×Int):Option (List Int×Int⊕List Int):=cond (d_ (S.2<(L.length:Int))) (B_ (idx L S.2) λaa=>B_ (bI 8 S.1 [W_ i64 (aa*av)]) λaj=>some (.inl (aj,W_ i64 (S.2+1)))) (some (.inr S.1))
def ke(L:List Int)(av:Int):Option (List Int):=B_ (aU (MR L av) ([],0)) λap=>some ap
def Dg:a4:=⟨173,[dE,ey],[cM 3],λx=>ke x.1 x.2⟩
def HE{ae:Prop}:bk ae Dg:=bm [] [cv 3 [(5,cM 3),(6,aZ)] 0 [(5,cM 3)]] [] trivial
def MS(L:al)(aa:al×Int):Option (al×Int⊕al):=cond (d_ (aa.2<(L.length:Int))) (B_ (idx L aa.2) λaj=>B_ (ke aj (-1)) λap=>B_ (bI 24 aa.1 [ap]) λv5=>some (.inl (v5,W_ i64 (aa.2+1)))) (some (.inr aa.1))
def HF(L:al):Option (al×Bool):=B_ (kd L) λS=>cond (!S) (some ([],false)) (B_ (aU (MS L) ([],0)) λaL=>B_ (rC aL) λaK=>some (aK.1,aK.2))
def UP:a4:=⟨211,[cq],[cs 65,ca],λx=>HF x⟩
def acX{ae:Prop}:bk ae UP:=bm [lA,Dg,xI] [cv 5 [(4,cs 65),(5,aZ)] 0 [(4,cs 65)]] [] ⟨mb,HE,Ao,trivial⟩
def rD(L:Int)(av:Int):Option Int:=cond (d_ (L>av)) (some L) (some av)
def HG:a4:=⟨239,[ey,ey],[aZ],λx=>rD x.1 x.2⟩
def MT{ae:Prop}:bk ae HG:=bm [] [] [] trivial
def Dh(L:Int):Option Int:=B_ (rD L (W_ i64 (0-L))) λS=>some S
def UQ:a4:=⟨322,[ey],[aZ],λx=>Dh x⟩
def acY{ae:Prop}:bk ae UQ:=bm [HG] [] [] ⟨MT,trivial⟩
def MU(aj:Int×Int):Option (Int×Int⊕Int):=cond (aj.2 !=0) (B_ (fT .i64 aj.1 aj.2) λap=>some (.inl (aj.2,ap))) (some (.inr aj.1))
def Di(L:Int)(av:Int):Option Int:=B_ (Dh L) λS=>B_ (Dh av) λaa=>B_ (aU MU (S,aa)) λv5=>some v5
def UR:a4:=⟨292,[ey,ey],[aZ],λx=>Di x.1 x.2⟩
def acZ{ae:Prop}:bk ae UR:=bm [UQ] [cv 3 [(0,aZ),(1,aZ)] 0 [(0,aZ)]] [] ⟨acY,trivial⟩
def MV(L:List Int)(S:Int×Int):Option (Int×Int⊕Int):=cond (d_ (S.2<(L.length:Int))) (B_ (idx L S.2) λaa=>B_ (Di S.1 aa) λaj=>some (.inl (aj,W_ i64 (S.2+1)))) (some (.inr S.1))
def vI(L:List Int):Option Int:=B_ (aU (MV L) (0,0)) λap=>some ap
def Dj:a4:=⟨238,[dE],[aZ],λx=>vI x⟩
def HH{ae:Prop}:bk ae Dj:=bm [UR] [cv 3 [(3,aZ),(4,aZ)] 0 [(3,aZ)]] [] ⟨acZ,trivial⟩
def MW(L:List Int)(S:Int)(aa:List Int×Int):Option (List Int×Int⊕List Int):=cond (d_ (aa.2<(L.length:Int))) (B_ (idx L aa.2) λaj=>B_ (rD S 1) λap=>B_ (fV .i64 aj ap) λv5=>B_ (bI 8 aa.1 [v5]) λaL=>some (.inl (aL,W_ i64 (aa.2+1)))) (some (.inr aa.1))
def Dk(L:List Int):Option (List Int):=B_ (vI L) λS=>B_ (aU (MW L S) ([],0)) λaK=>some aK
def US:a4:=⟨169,[dE],[cM 3],λx=>Dk x⟩
def ac1{ae:Prop}:bk ae US:=bm [Dj,HG] [cv 4 [(4,cM 3),(5,aZ)] 0 [(4,cM 3)]] [cr 6 0] ⟨HH,MT,trivial⟩
def Dl(L:List Int)(S:Int)(aa:Int)(aj:Int):Option (Int⊕Unit⊕List Int):=cond (d_ (aj<4)) (B_ (idx [[aa,S],[aa,W_ i64 (0-S)],[S,aa],[W_ i64 (0-S),aa]] aj) λap=>B_ (m4 L ap) λv5=>cond (v5==1) (B_ (idx [[aa,S],[aa,W_ i64 (0-S)],[S,aa],[W_ i64 (0-S),aa]] aj) λaL=>some (.inr (.inr aL))) (some (.inl (W_ i64 (aj+1))))) (some (.inr (.inl ())))
def Dm(L:List Int)(S:Int)(aa:Int):Option (Int⊕Unit⊕List Int):=cond (d_ (aa<=S)) (B_ (aU (Dl L S aa) 0) λaK=>match aK with|.inl be=>some (.inl (W_ i64 (aa+1)))|.inr a8=>some (.inr (.inr a8))) (some (.inr (.inl ())))
def MX(L:List Int)(S:Int):Option (Int⊕List Int):=B_ (aU (Dm L S) (W_ i64 (0-S))) λbA=>match bA with|.inl bC=>some (.inl (W_ i64 (S+1)))|.inr bJ=>some (.inr bJ)
def Au(L:List Int):Option (List Int):=B_ (aU (MX L) 0) λcw=>some cw
def UT:a4:=⟨171,[dE],[vC],λx=>Au x⟩
def ac2{ae:Prop}:bk ae UT:=bm [vG] [⟨3,[(3,aZ)],none,some [(2,vC)],false,none⟩,⟨4,[(4,aZ)],some (2,[]),some [(2,vC)],false,none⟩,⟨8,[(6,aZ)],some (4,[]),some [(2,vC)],false,none⟩] [] ⟨xG,trivial⟩
def Av(L:List Int)(av:List Int)(S:Int×Int):Option (Int×Int⊕Int):=cond (d_ (S.2<(L.length:Int))) (cond (d_ (S.2<(av.length:Int))) (B_ (idx L S.2) λaa=>B_ (idx av S.2) λaj=>some (.inl (W_ i64 (S.1+W_ i64 (aa*aj)),W_ i64 (S.2+1)))) (some (.inr S.1))) (some (.inr S.1))
def m5(L:List Int)(av:List Int):Option Int:=B_ (aU (Av L av) (0,0)) λap=>some ap
def Dn:a4:=⟨240,[dE,dE],[aZ],λx=>m5 x.1 x.2⟩
def HI{ae:Prop}:bk ae Dn:=bm [] [cv 3 [(5,aZ),(6,aZ)] 0 [(5,aZ)]] [cr 5 0] trivial
def MY(L:al)(av:List Int)(S:List Int×Int):Option (List Int×Int⊕List Int):=cond (d_ (S.2<(L.length:Int))) (B_ (idx L S.2) λaa=>B_ (m5 aa av) λaj=>B_ (bI 8 S.1 [aj]) λap=>some (.inl (ap,W_ i64 (S.2+1)))) (some (.inr S.1))
def qy(L:al)(av:List Int):Option (List Int):=B_ (aU (MY L av) ([],0)) λv5=>some v5
def UU:a4:=⟨172,[cq,dE],[cM 3],λx=>qy x.1 x.2⟩
def ac5{ae:Prop}:bk ae UU:=bm [Dn] [cv 3 [(5,cM 3),(6,aZ)] 0 [(5,cM 3)]] [] ⟨HI,trivial⟩
def xM(L:Int)(av:Int):Option Int:=B_ (fV .i64 L av) λS=>B_ (fT .i64 L av) λaa=>cond (d_ (aa<0)) (some (W_ i64 (S-1))) (some S)
def UV:a4:=⟨174,[ey,ey],[aZ],λx=>xM x.1 x.2⟩
def ac6{ae:Prop}:bk ae UV:=bm [] [] [] trivial
def HJ(L:List Int)(av:List Int)(dd:List Int):Option (al×List Int):=B_ (ma av L) λS=>B_ (Dk S) λaa=>B_ (Au aa) λaj=>B_ (idx aj 1) λap=>B_ (idx aj 0) λv5=>B_ (idx aa 1) λaL=>B_ (idx aa 0) λaK=>B_ (ma dd L) λbe=>B_ (qy [[ap,W_ i64 (0-v5)],[W_ i64 (0-aL),aK]] be) λa8=>B_ (bG a8.length 1) λ_=>B_ (idx a8 (((1:Int).toNat:Nat):Int)) λbA=>cond (d_ (bA<0)) (B_ (bG ([[ap,W_ i64 (0-v5)],[W_ i64 (0-aL),aK]]:al).length 1) λ_=>B_ (idx [[ap,W_ i64 (0-v5)],[W_ i64 (0-aL),aK]] (((1:Int).toNat:Nat):Int)) λbC=>B_ (ke bC (-1)) λbJ=>B_ (bG ([[ap,W_ i64 (0-v5)],[W_ i64 (0-aL),aK]]:al).length 1) λ_=>B_ (bG ([[ap,W_ i64 (0-v5)],[W_ i64 (0-aL),aK]]:al).length (((1:Int).toNat:Nat):Int)) λ_=>B_ (bG a8.length 1) λ_=>B_ (idx a8 (((1:Int).toNat:Nat):Int)) λcw=>B_ (bG a8.length 1) λ_=>B_ (bG a8.length (((1:Int).toNat:Nat):Int)) λ_=>B_ (bG (([[ap,W_ i64 (0-v5)],[W_ i64 (0-aL),aK]]:al).set (1:Int).toNat bJ).length 0) λ_=>B_ (idx (([[ap,W_ i64 (0-v5)],[W_ i64 (0-aL),aK]]:al).set (1:Int).toNat bJ) (((0:Int).toNat:Nat):Int)) λdx=>B_ (bG (([[ap,W_ i64 (0-v5)],[W_ i64 (0-aL),aK]]:al).set (1:Int).toNat bJ).length 1) λ_=>B_ (idx (([[ap,W_ i64 (0-v5)],[W_ i64 (0-aL),aK]]:al).set (1:Int).toNat bJ) (((1:Int).toNat:Nat):Int)) λdk=>B_ (bG (a8.set (1:Int).toNat (W_ i64 (0-cw))).length 0) λ_=>B_ (idx (a8.set (1:Int).toNat (W_ i64 (0-cw))) (((0:Int).toNat:Nat):Int)) λep=>B_ (bG (a8.set (1:Int).toNat (W_ i64 (0-cw))).length 1) λ_=>B_ (idx (a8.set (1:Int).toNat (W_ i64 (0-cw))) (((1:Int).toNat:Nat):Int)) λdF=>B_ (xM ep dF) λeJ=>B_ (ke dk eJ) λfa=>B_ (ma dx fa) λdS=>B_ (bG (([[ap,W_ i64 (0-v5)],[W_ i64 (0-aL),aK]]:al).set (1:Int).toNat bJ).length 0) λ_=>B_ (bG (([[ap,W_ i64 (0-v5)],[W_ i64 (0-aL),aK]]:al).set (1:Int).toNat bJ).length (((0:Int).toNat:Nat):Int)) λ_=>B_ (qy ((([[ap,W_ i64 (0-v5)],[W_ i64 (0-aL),aK]]:al).set (1:Int).toNat bJ).set (0:Int).toNat dS) L) λeM=>B_ (ke eM (-1)) λhl=>some ((([[ap,W_ i64 (0-v5)],[W_ i64 (0-aL),aK]]:al).set (1:Int).toNat bJ).set (0:Int).toNat dS,hl)) (B_ (bG ([[ap,W_ i64 (0-v5)],[W_ i64 (0-aL),aK]]:al).length 0) λ_=>B_ (idx [[ap,W_ i64 (0-v5)],[W_ i64 (0-aL),aK]] (((0:Int).toNat:Nat):Int)) λhQ=>B_ (bG ([[ap,W_ i64 (0-v5)],[W_ i64 (0-aL),aK]]:al).length 1) λ_=>B_ (idx [[ap,W_ i64 (0-v5)],[W_ i64 (0-aL),aK]] (((1:Int).toNat:Nat):Int)) λhR=>B_ (bG a8.length 0) λ_=>B_ (idx a8 (((0:Int).toNat:Nat):Int)) λjr=>B_ (bG a8.length 1) λ_=>B_ (idx a8 (((1:Int).toNat:Nat):Int)) λlz=>B_ (xM jr lz) λk6=>B_ (ke hR k6) λhS=>B_ (ma hQ hS) λkf=>B_ (bG ([[ap,W_ i64 (0-v5)],[W_ i64 (0-aL),aK]]:al).length 0) λ_=>B_ (bG ([[ap,W_ i64 (0-v5)],[W_ i64 (0-aL),aK]]:al).length (((0:Int).toNat:Nat):Int)) λ_=>B_ (qy (([[ap,W_ i64 (0-v5)],[W_ i64 (0-aL),aK]]:al).set (0:Int).toNat kf) L) λkh=>B_ (ke kh (-1)) λjB=>some (([[ap,W_ i64 (0-v5)],[W_ i64 (0-aL),aK]]:al).set (0:Int).toNat kf,jB))
def ac7:a4:=⟨83,[dE,dE,dE],[.a [.o true 65 bF,.o true 3 bH]],λx=>HJ x.1 x.2.1 x.2.2⟩
def apl{ae:Prop}:bk ae ac7:=bm [Aj,US,UT,UU,Dg,UV] [] [cr 3 0,cr 8 0] ⟨Da,ac1,ac2,ac5,HE,ac6,trivial⟩
def Aw(L:List Int)(av:List Int)(S:List Int×Int):Option (List Int×Int⊕List Int):=cond (d_ (S.2<(L.length:Int))) (B_ (idx L S.2) λaa=>B_ (idx av S.2) λaj=>B_ (bI 8 S.1 [W_ i64 (aa+aj)]) λap=>some (.inl (ap,W_ i64 (S.2+1)))) (some (.inr S.1))
def uj(L:List Int)(av:List Int):Option (List Int):=B_ (aU (Aw L av) ([],0)) λv5=>some v5
def HK:a4:=⟨175,[dE,dE],[cM 3],λx=>uj x.1 x.2⟩
def MZ{ae:Prop}:bk ae HK:=bm [] [cv 3 [(5,cM 3),(6,aZ)] 0 [(5,cM 3)]] [cr 5 0] trivial
def vJ(L:al×List Int)(av:List Int):Option (List Int):=B_ (qy L.1 av) λS=>B_ (uj S L.2) λaa=>some aa
def UW:a4:=⟨84,[.d false (.prod fN bF),dE],[cM 3],λx=>vJ x.1 x.2⟩
def ac8{ae:Prop}:bk ae UW:=bm [UU,HK] [] [cr 1 0] ⟨ac5,MZ,trivial⟩
def uk(L:al)(av:al)(S:Int):Option (Int⊕Unit⊕Bool):=cond (d_ (S<(L.length:Int))) (cond (d_ (S<(av.length:Int))) (B_ (idx L S) λaa=>B_ (idx av S) λaj=>B_ (ui aa aj) λap=>cond (!ap) (B_ (idx L S) λv5=>B_ (idx av S) λaL=>B_ (Hq v5 aL) λaK=>some (.inr (.inr aK))) (some (.inl (W_ i64 (S+1))))) (some (.inr (.inl ())))) (some (.inr (.inl ())))
def Do(L:al)(av:al):Option Bool:=B_ (aU (uk L av) 0) λbe=>match be with|.inl a8=>some (d_ ((L.length:Int)<(av.length:Int)))|.inr bA=>some bA
def ac9:a4:=⟨85,[cq,cq],[ca],λx=>Do x.1 x.2⟩
def apm{ae:Prop}:bk ae ac9:=bm [C9,UI] [⟨2,[(5,aZ)],some (0,[]),some [(4,ca)],false,none⟩] [cr 4 0,cr 5 0] ⟨Hr,acL,trivial⟩
def HL(L:al)(bC:al×List Int)(bJ:al×Int):Option (al×Int⊕al):=cond (d_ (bJ.2<(L.length:Int))) (B_ (idx L bJ.2) λcw=>B_ (vJ (bC.1,bC.2) cw) λdx=>B_ (bI 24 bJ.1 [dx]) λdk=>some (.inl (dk,W_ i64 (bJ.2+1)))) (some (.inr bJ.1))
def ada(L:al)(a8:al×List Int)(fa:al×Int):Option (al×Int⊕al):=cond (d_ (fa.2<(L.length:Int))) (B_ (idx L fa.2) λdS=>B_ (vJ (a8.1,a8.2) dS) λeM=>B_ (bI 24 fa.1 [eM]) λhl=>some (.inl (hl,W_ i64 (fa.2+1)))) (some (.inr fa.1))
def Ax(L:al)(aa:al×Int)(aj:al×Int):Option (al×Int⊕al⊕al×Bool):=cond (d_ (aj.2<2)) (B_ (fT .i64 (W_ i64 (aa.2+1)) (L.length:Int)) λap=>B_ (idx L ap) λv5=>B_ (fT .i64 (W_ i64 (W_ i64 (aa.2+(L.length:Int))-1)) (L.length:Int)) λaL=>B_ (idx L aL) λaK=>B_ (idx L aa.2) λbe=>B_ (HJ be v5 aK) λa8=>cond (aj.2==1) (B_ (idx L aa.2) λbA=>B_ (HJ bA aK v5) λbC=>B_ (aU (HL L bC) ([],0)) λep=>B_ (rC ep) λdF=>cond (!dF.2) (some (.inr (.inr ([],false)))) (cond ((aj.1.length:Int)==0) (some (.inl (dF.1,W_ i64 (aj.2+1)))) (B_ (Do dF.1 aj.1) λeJ=>cond eJ (some (.inl (dF.1,W_ i64 (aj.2+1)))) (some (.inl (aj.1,W_ i64 (aj.2+1))))))) (B_ (aU (ada L a8) ([],0)) λhQ=>B_ (rC hQ) λhR=>cond (!hR.2) (some (.inr (.inr ([],false)))) (cond ((aj.1.length:Int)==0) (some (.inl (hR.1,W_ i64 (aj.2+1)))) (B_ (Do hR.1 aj.1) λjr=>cond jr (some (.inl (hR.1,W_ i64 (aj.2+1)))) (some (.inl (aj.1,W_ i64 (aj.2+1)))))))) (some (.inr (.inl aj.1)))
def HM(L:al)(aa:al×Int):Option (al×Int⊕al⊕al×Bool):=cond (d_ (aa.2<(L.length:Int))) (B_ (aU (Ax L aa) (aa.1,0)) λlz=>match lz with|.inl k6=>some (.inl (k6,W_ i64 (aa.2+1)))|.inr hS=>some (.inr (.inr (hS.1,hS.2)))) (some (.inr (.inl aa.1)))
def Dp(L:al):Option (al×Bool):=B_ (kd L) λS=>cond (!S) (some ([],false)) (B_ (aU (HM L) ([],0)) λkf=>match kf with|.inl kh=>some (kh,true)|.inr jB=>some (jB.1,jB.2))
def UX:a4:=⟨15,[cq],[Hl,ca],λx=>Dp x⟩
def adb{ae:Prop}:bk ae UX:=bm [lA,ac7,UW,xI,ac9] [⟨6,[(4,Hl),(6,aZ)],some (0,[(4,Hl)]),some [(2,cs 65),(3,ca)],false,none⟩,⟨9,[(4,Hl),(7,aZ)],some (2,[(4,Hl)]),some [(2,cs 65),(3,ca)],false,none⟩,cv 18 [(11,cs 65),(12,aZ)] 4 [(11,cs 65)]] [cr 20 0] ⟨mb,apl,ac8,Ao,apm,trivial⟩
def Dq(L:al)(S:Int×Int):Option (Int×Int⊕Int):=cond (d_ (S.2<(L.length:Int))) (B_ (idx L S.2) λaa=>B_ (fT .i64 (W_ i64 (S.2+1)) (L.length:Int)) λaj=>B_ (idx L aj) λap=>B_ (m4 aa ap) λv5=>some (.inl (W_ i64 (S.1+v5),W_ i64 (S.2+1)))) (some (.inr S.1))
def nQ(L:al):Option Int:=B_ (aU (Dq L) (0,0)) λaL=>some aL
def Ay:a4:=⟨86,[cq],[aZ],λx=>nQ x⟩
def Ds{ae:Prop}:bk ae Ay:=bm [vG] [cv 3 [(3,aZ),(4,aZ)] 0 [(3,aZ)]] [cr 5 0] ⟨xG,trivial⟩
def M0(L:al)(av:Int):Option Int:=B_ (fT .i64 (W_ i64 (av+1)) (L.length:Int)) λS=>B_ (idx L S) λaa=>B_ (idx L av) λaj=>B_ (ma aa aj) λap=>B_ (vI ap) λv5=>some v5
def adc:a4:=⟨324,[cq,ey],[aZ],λx=>M0 x.1 x.2⟩
def apn{ae:Prop}:bk ae adc:=bm [Aj,Dj] [] [cr 1 0] ⟨Da,HH,trivial⟩
def M1(L:al)(aa:Int×Int):Option (Int×Int⊕Int):=cond (d_ (aa.2<(L.length:Int))) (B_ (M0 L aa.2) λaj=>some (.inl (W_ i64 (aa.1+aj),W_ i64 (aa.2+1)))) (some (.inr aa.1))
def xN(L:al):Option Int:=B_ (kd L) λS=>cond (!S) (some (-1)) (B_ (aU (M1 L) (0,0)) λap=>some ap)
def HN:a4:=⟨271,[cq],[aZ],λx=>xN x⟩
def M2{ae:Prop}:bk ae HN:=bm [lA,adc] [cv 5 [(3,aZ),(4,aZ)] 0 [(3,aZ)]] [] ⟨mb,apn,trivial⟩
def Dt(L:al):Option Int:=B_ (kd L) λS=>cond (!S) (some (-1)) (B_ (nQ L) λaa=>B_ (xN L) λaj=>B_ (fV .i64 (W_ i64 (W_ i64 (aa-aj)+2)) 2) λap=>some ap)
def M3:a4:=⟨272,[cq],[aZ],λx=>Dt x⟩
def UY{ae:Prop}:bk ae M3:=bm [lA,Ay,HN] [] [] ⟨mb,Ds,M2,trivial⟩
def vK(L:al)(av:List Int)(S:Int×Int):Option (Int×Int⊕Int⊕Int):=cond (d_ (S.2<(L.length:Int))) (B_ (idx L S.2) λaa=>B_ (fT .i64 (W_ i64 (S.2+1)) (L.length:Int)) λaj=>B_ (idx L aj) λap=>B_ (Ak aa ap av) λv5=>cond (d_ (v5<0)) (some (.inr (.inr (-1)))) (cond (v5==0) (some (.inl (0,W_ i64 (S.2+1)))) (some (.inl (S.1,W_ i64 (S.2+1)))))) (some (.inr (.inl S.1)))
def ul(L:al)(av:List Int):Option Int:=B_ (aU (vK L av) (1,0)) λaL=>match aL with|.inl aK=>some aK|.inr be=>some be
def M4:a4:=⟨285,[cq,dE],[aZ],λx=>ul x.1 x.2⟩
def UZ{ae:Prop}:bk ae M4:=bm [MJ] [⟨3,[(5,aZ),(6,aZ)],some (0,[(5,aZ)]),some [(4,aZ)],false,none⟩] [cr 5 0] ⟨UK,trivial⟩
def HO(L:al):Option Bool:=B_ (kd L) λS=>cond S (B_ (Dt L) λaa=>cond (aa==1) (B_ (ul L [0,0]) λaj=>some (aj==1)) (some false)) (some false)
def U0:a4:=⟨268,[cq],[ca],λx=>HO x⟩
def ade{ae:Prop}:bk ae U0:=bm [lA,M3,M4] [] [] ⟨mb,UY,UZ,trivial⟩
def M5(L:List Int)(av:List Int):Option (List Int):=B_ (m4 L av) λS=>B_ (idx av 1) λaa=>B_ (idx L 1) λaj=>B_ (fV .i64 (W_ i64 (aa-aj)) S) λap=>B_ (idx L 0) λv5=>B_ (idx av 0) λaL=>B_ (fV .i64 (W_ i64 (v5-aL)) S) λaK=>some [ap,aK]
def adf:a4:=⟨269,[dE,dE],[cM 3],λx=>M5 x.1 x.2⟩
def apo{ae:Prop}:bk ae adf:=bm [vG] [] [cr 2 0] ⟨xG,trivial⟩
def M6(L:al)(aa:al×Int):Option (al×Int⊕al):=cond (d_ (aa.2<(L.length:Int))) (B_ (idx L aa.2) λaj=>B_ (fT .i64 (W_ i64 (aa.2+1)) (L.length:Int)) λap=>B_ (idx L ap) λv5=>B_ (M5 aj v5) λaL=>B_ (bI 24 aa.1 [aL]) λaK=>some (.inl (aK,W_ i64 (aa.2+1)))) (some (.inr aa.1))
def Du(L:al):Option (al×Bool):=B_ (HO L) λS=>cond (!S) (some ([],false)) (B_ (aU (M6 L) ([],0)) λbe=>B_ (rC be) λa8=>cond (!a8.2) (some ([],false)) (some (a8.1,true)))
def U1:a4:=⟨212,[cq],[cs 65,ca],λx=>Du x⟩
def adg{ae:Prop}:bk ae U1:=bm [U0,adf,xI] [cv 5 [(4,cs 65),(5,aZ)] 0 [(4,cs 65)]] [cr 7 0] ⟨ade,apo,Ao,trivial⟩
def HP(L:al)(av:al)(aj:al×Int)(ap:al×Int):Option (al×Int⊕al):=cond (d_ (ap.2<(av.length:Int))) (B_ (idx L aj.2) λv5=>B_ (idx av ap.2) λaL=>B_ (uj v5 aL) λaK=>B_ (bI 24 ap.1 [aK]) λbe=>some (.inl (be,W_ i64 (ap.2+1)))) (some (.inr ap.1))
def M7(L:al)(av:al)(aj:al×Int):Option (al×Int⊕al):=cond (d_ (aj.2<(L.length:Int))) (B_ (aU (HP L av aj) (aj.1,0)) λa8=>some (.inl (a8,W_ i64 (aj.2+1)))) (some (.inr aj.1))
def HQ(L:al)(av:al):Option (al×Bool):=B_ (kd L) λS=>cond (!S) (some ([],false)) (B_ (kd av) λaa=>cond (!aa) (some ([],false)) (B_ (aU (M7 L av) ([],0)) λbA=>B_ (rC bA) λbC=>cond (!bC.2) (some ([],false)) (some (bC.1,true))))
def U2:a4:=⟨213,[cq,cq],[cs 65,ca],λx=>HQ x.1 x.2⟩
def adh{ae:Prop}:bk ae U2:=bm [lA,HK,xI] [cv 5 [(6,cs 65),(7,aZ)] 0 [(6,cs 65)],cv 8 [(6,cs 65),(8,aZ)] 2 [(6,cs 65)]] [cr 10 0] ⟨mb,MZ,Ao,trivial⟩
def M8(L:al×al)(av:ByteArray):Option (al×Bool×Bool):=cond (av.toList==(⟨#[109,105,114,114,111,114]⟩:ByteArray).toList) (B_ (HF L.1) λS=>some (S.1,(S.2,true))) (cond (av.toList==(⟨#[110,111,114,109,97,108]⟩:ByteArray).toList) (B_ (Dp L.1) λaa=>some (aa.1,(aa.2,true))) (cond (av.toList==(⟨#[100,117,97,108]⟩:ByteArray).toList) (B_ (Du L.1) λaj=>some (aj.1,(aj.2,true))) (cond (av.toList==(⟨#[115,117,109]⟩:ByteArray).toList) (B_ (HQ L.1 L.2) λap=>some (ap.1,(ap.2,true))) (some ([],(false,false))))))
def adi:a4:=⟨154,[.d false (.prod fN fN),iW],[.a [.d false fN,.d false .bool,.d false .bool]],λx=>M8 x.1 x.2⟩
def app{ae:Prop}:bk ae adi:=bm [UP,UX,U1,U2] [] [] ⟨acX,adb,adg,adh,trivial⟩
def M9(L:al)(S:Int):Option (Int⊕Unit⊕Bool):=cond (d_ (S<(L.length:Int))) (B_ (idx L S) λaa=>cond ((aa.length:Int)!=(L.length:Int)) (some (.inr (.inr false))) (B_ (idx L S) λaj=>B_ (pH aj 100) λap=>cond (!ap) (some (.inr (.inr false))) (some (.inl (W_ i64 (S+1)))))) (some (.inr (.inl ())))
def Na(L:al):Option Bool:=B_ (aU (M9 L) 0) λv5=>match v5 with|.inl aL=>B_ (m3 (L.length:Int) 1 3) λbe=>some be|.inr aK=>some aK
def adj:a4:=⟨348,[cq],[ca],λx=>Na x⟩
def apq{ae:Prop}:bk ae adj:=bm [xE,qx] [⟨2,[(3,aZ)],some (0,[]),some [(2,ca)],false,none⟩] [] ⟨Ag,rz,trivial⟩
def Dv(L:al)(bC:Int×Int):Option (Int×Int⊕Int):=cond (d_ (bC.2<3)) (B_ (fT .i64 (W_ i64 (bC.2+1)) 3) λbJ=>B_ (fT .i64 (W_ i64 (bC.2+2)) 3) λcw=>B_ (idx L 0) λdx=>B_ (idx dx bC.2) λdk=>B_ (idx L 1) λep=>B_ (idx ep bJ) λdF=>B_ (idx L 2) λeJ=>B_ (idx eJ cw) λfa=>B_ (idx L 1) λdS=>B_ (idx dS cw) λeM=>B_ (idx L 2) λhl=>B_ (idx hl bJ) λhQ=>some (.inl (W_ i64 (bC.1+W_ i64 (dk*W_ i64 (W_ i64 (dF*fa)-W_ i64 (eM*hQ)))),W_ i64 (bC.2+1)))) (some (.inr bC.1))
def um(L:al):Option Int:=cond ((L.length:Int)==1) (B_ (idx L 0) λS=>B_ (idx S 0) λaa=>some aa) (cond ((L.length:Int)==2) (B_ (idx L 0) λaj=>B_ (idx aj 0) λap=>B_ (idx L 1) λv5=>B_ (idx v5 1) λaL=>B_ (idx L 0) λaK=>B_ (idx aK 1) λbe=>B_ (idx L 1) λa8=>B_ (idx a8 0) λbA=>some (W_ i64 (W_ i64 (ap*aL)-W_ i64 (be*bA)))) (B_ (aU (Dv L) (0,0)) λhR=>some hR))
def U3:a4:=⟨349,[cq],[aZ],λx=>um x⟩
def adk{ae:Prop}:bk ae U3:=bm [] [cv 8 [(3,aZ),(4,aZ)] 1 [(3,aZ)]] [cr 5 0,cr 12 0] trivial
def U4(L:al):Option Int:=B_ (Na L) λS=>cond (!S) (some 0) (B_ (um L) λaa=>some aa)
def adl:a4:=⟨323,[cq],[aZ],λx=>U4 x⟩
def apr{ae:Prop}:bk ae adl:=bm [adj,U3] [] [] ⟨apq,adk,trivial⟩
def Nb(L:al):Option Bool:=B_ (U4 L) λS=>B_ (Dh S) λaa=>some (aa==1)
def adm:a4:=⟨270,[cq],[ca],λx=>Nb x⟩
def aps{ae:Prop}:bk ae adm:=bm [adl,UQ] [] [] ⟨apr,acY,trivial⟩
def Nc(L:al×List Int):Option Bool:=cond ((L.1.length:Int)==2) (B_ (Nb L.1) λS=>cond S (B_ (Ah L.2) λaa=>cond aa (some ((L.2.length:Int)==2)) (some false)) (some false)) (some false)
def adn:a4:=⟨215,[.d false (.prod fN bF)],[ca],λx=>Nc x⟩
def apt{ae:Prop}:bk ae adn:=bm [adm,Hn] [] [] ⟨aps,MF,trivial⟩
def Nd(L:al×List Int)(av:al)(aj:al×Int):Option (al×Int⊕al):=cond (d_ (aj.2<(av.length:Int))) (B_ (idx av aj.2) λap=>B_ (vJ (L.1,L.2) ap) λv5=>B_ (bI 24 aj.1 [v5]) λaL=>some (.inl (aL,W_ i64 (aj.2+1)))) (some (.inr aj.1))
def Dw(L:al×List Int)(av:al):Option (al×Bool):=B_ (Nc (L.1,L.2)) λS=>cond (!S) (some ([],false)) (B_ (kd av) λaa=>cond (!aa) (some ([],false)) (B_ (aU (Nd L av) ([],0)) λaK=>B_ (rC aK) λbe=>cond (!be.2) (some ([],false)) (some (be.1,true))))
def U5:a4:=⟨156,[.d false (.prod fN bF),cq],[cs 65,ca],λx=>Dw x.1 x.2⟩
def ado{ae:Prop}:bk ae U5:=bm [adn,lA,UW,xI] [cv 5 [(6,cs 65),(7,aZ)] 0 [(6,cs 65)]] [cr 7 0] ⟨apt,mb,ac8,Ao,trivial⟩
def HR(L:al)(av:Int)(aj:al×Int):Option (al×Int⊕al):=cond (d_ (aj.2<(L.length:Int))) (B_ (idx L aj.2) λap=>B_ (ke ap av) λv5=>B_ (bI 24 aj.1 [v5]) λaL=>some (.inl (aL,W_ i64 (aj.2+1)))) (some (.inr aj.1))
def Nf(L:al)(av:Int):Option (al×Bool):=B_ (kd L) λS=>cond (!S) (some ([],false)) (B_ (m3 av 1 1000) λaa=>cond (!aa) (some ([],false)) (B_ (aU (HR L av) ([],0)) λaK=>B_ (kd aK) λbe=>cond (!be) (some ([],false)) (some (aK,true))))
def adp:a4:=⟨217,[cq,ey],[cs 65,ca],λx=>Nf x.1 x.2⟩
def apu{ae:Prop}:bk ae adp:=bm [lA,qx,Dg] [cv 5 [(6,cs 65),(7,aZ)] 0 [(6,cs 65)]] [] ⟨mb,rz,HE,trivial⟩
def Ng(L:al×al)(av:ByteArray)(dd:Int):Option (al×Bool×Bool):=cond (av.toList==(⟨#[101,120,97,109,112,108,101]⟩:ByteArray).toList) (B_ (C4 dd) λS=>B_ (xK S) λaa=>some (aa.1,(aa.2,true))) (cond (av.toList==(⟨#[100,105,108,97,116,101]⟩:ByteArray).toList) (B_ (Nf L.1 dd) λaj=>some (aj.1,(aj.2,true))) (cond (av.toList==(⟨#[115,104,101,97,114]⟩:ByteArray).toList) (B_ (Dw ([[1,dd],[0,1]],[0,0]) L.1) λap=>some (ap.1,(ap.2,true))) (some ([],(false,false)))))
def adq:a4:=⟨158,[.d false (.prod fN fN),iW,ey],[.a [.o true 65 bF,.d false .bool,.d false .bool]],λx=>Ng x.1 x.2.1 x.2.2⟩
def apv{ae:Prop}:bk ae adq:=bm [UF,ML,adp,U5] [] [] ⟨acF,UN,apu,ado,trivial⟩
def Dx(L:al×al)(av:List ByteArray):Option (al×Bool×Bool):=cond (d_ ((av.length:Int)>1)) (B_ (idx av 0) λS=>cond (S.toList==(⟨#[112,111,108,121]⟩:ByteArray).toList) (B_ (e5 av 1 (av.length:Int)) λaa=>B_ (pI aa ⟨#[32]⟩) λaj=>B_ (xK aj) λap=>some (ap.1,(ap.2,true))) (cond ((av.length:Int)==1) (B_ (idx av 0) λv5=>B_ (M8 (L.1,L.2) v5) λaL=>some (aL.1,(aL.2.1,aL.2.2))) (cond ((av.length:Int)!=2) (some ([],(false,false))) (B_ (idx av 0) λaK=>cond (aK.toList==(⟨#[109,111,118,101]⟩:ByteArray).toList) (B_ (idx av 1) λbe=>B_ (rB be) λa8=>cond (!a8.2) (some ([],(false,false))) (B_ (Dw ([[1,0],[0,1]],a8.1) L.1) λbA=>some (bA.1,(bA.2,true)))) (B_ (idx av 1) λbC=>B_ (sP bC) λbJ=>cond (!bJ.2) (some ([],(false,false))) (B_ (idx av 0) λcw=>B_ (Ng (L.1,L.2) cw bJ.1) λdx=>some (dx.1,(dx.2.1,dx.2.2)))))))) (cond ((av.length:Int)==1) (B_ (idx av 0) λdk=>B_ (M8 (L.1,L.2) dk) λep=>some (ep.1,(ep.2.1,ep.2.2))) (cond ((av.length:Int)!=2) (some ([],(false,false))) (B_ (idx av 0) λdF=>cond (dF.toList==(⟨#[109,111,118,101]⟩:ByteArray).toList) (B_ (idx av 1) λeJ=>B_ (rB eJ) λfa=>cond (!fa.2) (some ([],(false,false))) (B_ (Dw ([[1,0],[0,1]],fa.1) L.1) λdS=>some (dS.1,(dS.2,true)))) (B_ (idx av 1) λeM=>B_ (sP eM) λhl=>cond (!hl.2) (some ([],(false,false))) (B_ (idx av 0) λhQ=>B_ (Ng (L.1,L.2) hQ hl.1) λhR=>some (hR.1,(hR.2.1,hR.2.2)))))))
def adr:a4:=⟨73,[.d false (.prod fN fN),.d false (.list .str)],[.a [.d false fN,.d false .bool,.d false .bool]],λx=>Dx x.1 x.2⟩
def apw{ae:Prop}:bk ae adr:=bm [Aq,ML,adi,C8,U5,C7,adq] [] [cr 5 0,cr 17 0] ⟨Dd,UN,app,Ho,ado,Hm,apv,trivial⟩
def Nh(L:al):Option Int:=B_ (kd L) λS=>cond (!S) (some (-1)) (B_ (nQ L) λaa=>some aa)
def ads:a4:=⟨16,[cq],[aZ],λx=>Nh x⟩
def apx{ae:Prop}:bk ae ads:=bm [lA,Ay] [] [] ⟨mb,Ds,trivial⟩
def xO(L:al)(av:Int):Option Int:=B_ (kd L) λS=>cond (!S) (some (-1)) (B_ (m3 av (-1000) 1000) λaa=>cond (!aa) (some (-1)) (B_ (xN L) λaj=>B_ (nQ L) λap=>B_ (fV .i64 (W_ i64 (W_ i64 (2+W_ i64 (aj*av))+W_ i64 (W_ i64 (ap*av)*av))) 2) λv5=>some v5))
def Ni:a4:=⟨229,[cq,ey],[aZ],λx=>xO x.1 x.2⟩
def U6{ae:Prop}:bk ae Ni:=bm [lA,qx,HN,Ay] [] [] ⟨mb,rz,M2,Ds,trivial⟩
def Nj(L:al):Option (List Int):=B_ (kd L) λS=>cond (!S) (some []) (B_ (xO L 1) λaa=>B_ (Dt L) λaj=>some [1,W_ i64 (aa-3),aj])
def adt:a4:=⟨273,[cq],[cM 3],λx=>Nj x⟩
def apy{ae:Prop}:bk ae adt:=bm [lA,Ni,M3] [] [] ⟨mb,U6,UY,trivial⟩
def HS(dd:Int)(S:al×Int)(aa:al×Int)(aj:al×Int):Option (al×Int⊕al):=cond (d_ (aj.2<=dd)) (B_ (idx S.1 aa.2) λap=>B_ (bI 8 [] ap) λv5=>B_ (bI 8 v5 [aj.2]) λaL=>B_ (bI 24 aj.1 [aL]) λaK=>some (.inl (aK,W_ i64 (aj.2+1)))) (some (.inr aj.1))
def HT(av:Int)(dd:Int)(S:al×Int)(aa:al×Int):Option (al×Int⊕al):=cond (d_ (aa.2<(S.1.length:Int))) (B_ (aU (HS dd S aa) (aa.1,av)) λbe=>some (.inl (be,W_ i64 (aa.2+1)))) (some (.inr aa.1))
def Nk(L:Int)(av:Int)(dd:Int)(S:al×Int):Option (al×Int⊕al):=cond (d_ (S.2<L)) (B_ (aU (HT av dd S) ([],0)) λa8=>some (.inl (a8,W_ i64 (S.2+1)))) (some (.inr S.1))
def HU(L:Int)(av:Int)(dd:Int):Option al:=B_ (aU (Nk L av dd) ([[]],0)) λbA=>some bA
def U7:a4:=⟨326,[ey,ey,ey],[cs 65],λx=>HU x.1 x.2.1 x.2.2⟩
def adu{ae:Prop}:bk ae U7:=bm [] [cv 3 [(7,cs 65),(8,aZ)] 0 [(7,cs 65)],cv 7 [(9,cs 65),(10,aZ)] 2 [(9,cs 65)],cv 10 [(9,cs 65),(11,aZ)] 4 [(9,cs 65)]] [] trivial
def HV(L:Int)(av:Int):Option Int:=cond (d_ (L<av)) (some L) (some av)
def U8:a4:=⟨331,[ey,ey],[aZ],λx=>HV x.1 x.2⟩
def adv{ae:Prop}:bk ae U8:=bm [] [] [] trivial
def Nl(L:al)(av:List Int)(aj:Int×Int×Int):Option (Int×Int×Int⊕Int×Int):=cond (d_ (aj.2.2<(L.length:Int))) (B_ (idx L aj.2.2) λap=>B_ (m5 av ap) λv5=>B_ (rD aj.1 v5) λaL=>B_ (HV aj.2.1 v5) λaK=>some (.inl (aL,(aK,W_ i64 (aj.2.2+1))))) (some (.inr (aj.1,aj.2.1)))
def Dy(L:al)(av:List Int):Option (Int×Int):=B_ (idx L 0) λS=>B_ (m5 av S) λaa=>B_ (aU (Nl L av) (aa,(aa,1))) λbe=>some (be.1,be.2)
def U9:a4:=⟨286,[cq,dE],[aZ,aZ],λx=>Dy x.1 x.2⟩
def adw{ae:Prop}:bk ae U9:=bm [Dn,HG,U8] [cv 4 [(6,aZ),(7,aZ),(8,aZ)] 0 [(6,aZ),(7,aZ)]] [] ⟨HI,MT,adv,trivial⟩
def HW(L:al)(S:al)(aa:Int×al×Int):Option (Int×al×Int⊕Int×al):=cond (d_ (aa.2.2<(S.length:Int))) (B_ (idx S aa.2.2) λaj=>B_ (idx aj 0) λap=>cond (d_ (ap<0)) (some (.inl (aa.1,(aa.2.1,W_ i64 (aa.2.2+1))))) (B_ (idx aj 0) λv5=>cond (v5==0) (B_ (idx aj 1) λaL=>cond (d_ (aL<=0)) (some (.inl (aa.1,(aa.2.1,W_ i64 (aa.2.2+1))))) (B_ (Dy L aj) λaK=>cond (d_ (aa.1<0)) (cond (W_ i64 (aK.1-aK.2)==W_ i64 (aK.1-aK.2)) (B_ (bI 24 [] [aj]) λbe=>some (.inl (W_ i64 (aK.1-aK.2),(be,W_ i64 (aa.2.2+1))))) (some (.inl (W_ i64 (aK.1-aK.2),([],W_ i64 (aa.2.2+1)))))) (cond (d_ (W_ i64 (aK.1-aK.2)<aa.1)) (cond (W_ i64 (aK.1-aK.2)==W_ i64 (aK.1-aK.2)) (B_ (bI 24 [] [aj]) λa8=>some (.inl (W_ i64 (aK.1-aK.2),(a8,W_ i64 (aa.2.2+1))))) (some (.inl (W_ i64 (aK.1-aK.2),([],W_ i64 (aa.2.2+1)))))) (cond (W_ i64 (aK.1-aK.2)==aa.1) (B_ (bI 24 aa.2.1 [aj]) λbA=>some (.inl (aa.1,(bA,W_ i64 (aa.2.2+1))))) (some (.inl (aa.1,(aa.2.1,W_ i64 (aa.2.2+1))))))))) (B_ (Dy L aj) λbC=>cond (d_ (aa.1<0)) (cond (W_ i64 (bC.1-bC.2)==W_ i64 (bC.1-bC.2)) (B_ (bI 24 [] [aj]) λbJ=>some (.inl (W_ i64 (bC.1-bC.2),(bJ,W_ i64 (aa.2.2+1))))) (some (.inl (W_ i64 (bC.1-bC.2),([],W_ i64 (aa.2.2+1)))))) (cond (d_ (W_ i64 (bC.1-bC.2)<aa.1)) (cond (W_ i64 (bC.1-bC.2)==W_ i64 (bC.1-bC.2)) (B_ (bI 24 [] [aj]) λcw=>some (.inl (W_ i64 (bC.1-bC.2),(cw,W_ i64 (aa.2.2+1))))) (some (.inl (W_ i64 (bC.1-bC.2),([],W_ i64 (aa.2.2+1)))))) (cond (W_ i64 (bC.1-bC.2)==aa.1) (B_ (bI 24 aa.2.1 [aj]) λdx=>some (.inl (aa.1,(dx,W_ i64 (aa.2.2+1))))) (some (.inl (aa.1,(aa.2.1,W_ i64 (aa.2.2+1)))))))))) (some (.inr (aa.1,aa.2.1)))
def HX(L:al):Option (Int×al):=B_ (HU 2 (-12) 12) λS=>B_ (aU (HW L S) (-1,([],0))) λdk=>some (dk.1,dk.2)
def Va:a4:=⟨277,[cq],[aZ,.l (.o false 65 bF)],λx=>HX x⟩
def adx{ae:Prop}:bk ae Va:=bm [U7,U9] [cv 5 [(4,aZ),(5,.l (.o false 65 bF)),(7,aZ)] 0 [(4,aZ),(5,.l (.o false 65 bF))]] [] ⟨adu,adw,trivial⟩
def HY(L:al):Option Int:=B_ (kd L) λS=>cond (!S) (some (-1)) (B_ (HX L) λaa=>some aa.1)
def Vb:a4:=⟨221,[cq],[aZ],λx=>HY x⟩
def ady{ae:Prop}:bk ae Vb:=bm [lA,Va] [] [] ⟨mb,adx,trivial⟩
def HZ(L:List Int):Option Bool:=cond ((L.length:Int)==2) (B_ (pH L 30) λS=>cond S (B_ (vI L) λaa=>some (aa==1)) (some false)) (some false)
def adz:a4:=⟨289,[dE],[ca],λx=>HZ x⟩
def apz{ae:Prop}:bk ae adz:=bm [xE,Dj] [] [] ⟨Ag,HH,trivial⟩
def vL(L:List Int×List Int):Option Bool:=B_ (HZ L.1) λS=>cond S (B_ (HZ L.2) λaa=>cond aa (B_ (m4 L.1 L.2) λaj=>some (d_ (aj>0))) (some false)) (some false)
def H0:a4:=⟨234,[.d false (.prod bF bF)],[ca],λx=>vL x⟩
def Nn{ae:Prop}:bk ae H0:=bm [adz,vG] [] [] ⟨apz,xG,trivial⟩
def Az(L:al)(av:Int):Option ((List Int×List Int)×Bool):=B_ (kd L) λS=>cond (!S) (some (([],[]),false)) (B_ (m3 av 0 (W_ i64 ((L.length:Int)-1))) λaa=>cond (!aa) (some (([],[]),false)) (B_ (fT .i64 (W_ i64 (av+1)) (L.length:Int)) λaj=>B_ (idx L aj) λap=>B_ (idx L av) λv5=>B_ (ma ap v5) λaL=>B_ (Dk aL) λaK=>B_ (fT .i64 (W_ i64 (W_ i64 (av+(L.length:Int))-1)) (L.length:Int)) λbe=>B_ (idx L be) λa8=>B_ (idx L av) λbA=>B_ (ma a8 bA) λbC=>B_ (Dk bC) λbJ=>B_ (vL (aK,bJ)) λcw=>cond (!cw) (some (([],[]),false)) (some ((aK,bJ),true))))
def Vc:a4:=⟨279,[cq,ey],[.a [.o true 3 bH,.o true 3 bH],ca],λx=>Az x.1 x.2⟩
def adA{ae:Prop}:bk ae Vc:=bm [lA,qx,Aj,US,H0] [] [cr 4 0] ⟨mb,rz,Da,ac1,Nn,trivial⟩
def vM(L:List Int×List Int):Option Int:=B_ (vL (L.1,L.2)) λS=>cond (!S) (some 0) (B_ (m4 L.1 L.2) λaa=>some aa)
def Vd:a4:=⟨280,[.d false (.prod bF bF)],[aZ],λx=>vM x⟩
def adB{ae:Prop}:bk ae Vd:=bm [H0,vG] [] [] ⟨Nn,xG,trivial⟩
def AA(L:Bool):Option Int:=cond L (some 1) (some 0)
def No:a4:=⟨291,[apa],[aZ],λx=>AA x⟩
def Ve{ae:Prop}:bk ae No:=bm [] [] [] trivial
def AB(L:al)(S:Int×Int):Option (Int×Int⊕Int⊕Int):=cond (d_ (S.2<(L.length:Int))) (B_ (Az L S.2) λaa=>cond (!aa.2) (some (.inr (.inr (-1)))) (B_ (vM (aa.1.1,aa.1.2)) λaj=>B_ (AA (aj==1)) λap=>some (.inl (W_ i64 (S.1+ap),W_ i64 (S.2+1))))) (some (.inr (.inl S.1)))
def H1(L:al):Option Int:=B_ (aU (AB L) (0,0)) λv5=>match v5 with|.inl aL=>cond ((L.length:Int)==0) (some (-1)) (some aL)|.inr aK=>some aK
def adC:a4:=⟨274,[cq],[aZ],λx=>H1 x⟩
def apA{ae:Prop}:bk ae adC:=bm [Vc,Vd,No] [⟨3,[(3,aZ),(4,aZ)],some (0,[(3,aZ)]),some [(2,aZ)],false,none⟩] [] ⟨adA,adB,Ve,trivial⟩
def Np(L:al)(S:al×Bool)(ap:List Int)(v5:Int):Option (Int⊕Unit⊕Bool):=cond (d_ (v5<(L.length:Int))) (B_ (idx S.1 v5) λaL=>B_ (uj aL ap) λaK=>B_ (idx L v5) λbe=>B_ (ui aK be) λa8=>cond (!a8) (some (.inr (.inr false))) (some (.inl (W_ i64 (v5+1))))) (some (.inr (.inl ())))
def Dz(L:al):Option Bool:=B_ (HF L) λS=>cond (!S.2) (some false) (B_ (idx L 0) λaa=>B_ (bG S.1.length 0) λ_=>B_ (idx S.1 (((0:Int).toNat:Nat):Int)) λaj=>B_ (ma aa aj) λap=>B_ (aU (Np L S ap) 0) λbA=>match bA with|.inl bC=>some true|.inr bJ=>some bJ)
def adD:a4:=⟨275,[cq],[ca],λx=>Dz x⟩
def apB{ae:Prop}:bk ae adD:=bm [UP,Aj,HK,C9] [⟨6,[(6,aZ)],some (0,[]),some [(2,ca)],false,none⟩] [cr 4 0,cr 8 0] ⟨acX,Da,MZ,Hr,trivial⟩
def Nq(L:al):Option ByteArray:=B_ (kd L) λS=>cond (!S) (some ⟨#[]⟩) (B_ (Nh L) λaa=>B_ (iX aa) λaj=>B_ (ft ⟨#[97,114,101,97,32]⟩ aj) λap=>B_ (ft ap ⟨#[32,98,111,117,110,100,97,114,121,32]⟩) λv5=>B_ (xN L) λaL=>B_ (iX aL) λaK=>B_ (ft v5 aK) λbe=>B_ (ft be ⟨#[32,105,110,110,101,114,32]⟩) λa8=>B_ (Dt L) λbA=>B_ (iX bA) λbC=>B_ (ft a8 bC) λbJ=>B_ (ft bJ ⟨#[32,112,111,105,110,116,115,32]⟩) λcw=>B_ (xO L 1) λdx=>B_ (iX dx) λdk=>B_ (ft cw dk) λep=>B_ (ft ep ⟨#[32,116,111,112,32]⟩) λdF=>B_ (Nj L) λeJ=>B_ (sQ eJ) λfa=>B_ (ft dF fa) λdS=>B_ (ft dS ⟨#[32,119,105,100,116,104,32]⟩) λeM=>B_ (HY L) λhl=>B_ (iX hl) λhQ=>B_ (ft eM hQ) λhR=>B_ (ft hR ⟨#[32,115,109,111,111,116,104,32]⟩) λjr=>B_ (H1 L) λlz=>B_ (iX lz) λk6=>B_ (ft jr k6) λhS=>B_ (HO L) λkf=>cond kf (B_ (ft hS ⟨#[32,114,101,102,108,101,120,105,118,101]⟩) λkh=>B_ (Dz L) λjB=>cond jB (B_ (ft kh ⟨#[32,115,121,109,109,101,116,114,105,99]⟩) λvN=>some vN) (some kh)) (B_ (ft hS ⟨#[32,111,116,104,101,114]⟩) λun=>B_ (Dz L) λuo=>cond uo (B_ (ft un ⟨#[32,115,121,109,109,101,116,114,105,99]⟩) λm6=>some m6) (some un)))
def adE:a4:=⟨219,[cq],[gN],λx=>Nq x⟩
def apC{ae:Prop}:bk ae adE:=bm [lA,ads,ue,HN,M3,Ni,adt,Ar,Vb,adC,U0,adD] [] [] ⟨mb,apx,vE,M2,UY,U6,apy,De,ady,apA,ade,apB,trivial⟩
def Nu(L:al)(aK:al×Int×Int×Int×Int):Option (al×Int×Int×Int×Int⊕al×Int×Int×Int):=cond (d_ (aK.2.2.2.2<(L.length:Int))) (B_ (idx L aK.2.2.2.2) λbe=>B_ (idx be 1) λa8=>B_ (HV aK.2.1 a8) λbA=>B_ (idx L aK.2.2.2.2) λbC=>B_ (idx bC 1) λbJ=>B_ (rD aK.2.2.1 bJ) λcw=>B_ (idx L aK.2.2.2.2) λdx=>B_ (idx dx 0) λdk=>B_ (rD aK.2.2.2.1 dk) λep=>some (.inl (aK.1,(bA,(cw,(ep,W_ i64 (aK.2.2.2.2+1))))))) (some (.inr (aK.1,(aK.2.1,(aK.2.2.1,aK.2.2.2.1)))))
def H2(L:al)(dF:al×Int×Int×Int)(dS:al×Int)(eM:al×Int):Option (al×Int⊕al):=cond (d_ (eM.2<=dF.2.2.1)) (B_ (ul L [dS.2,eM.2]) λhl=>cond (d_ (hl>=0)) (B_ (bI 24 eM.1 [[dS.2,eM.2]]) λhQ=>some (.inl (hQ,W_ i64 (eM.2+1)))) (some (.inl (eM.1,W_ i64 (eM.2+1))))) (some (.inr eM.1))
def Nv(L:al)(dF:al×Int×Int×Int)(dS:al×Int):Option (al×Int⊕al):=cond (d_ (dS.2<=dF.2.2.2)) (B_ (aU (H2 L dF dS) (dS.1,dF.2.1)) λhR=>some (.inl (hR,W_ i64 (dS.2+1)))) (some (.inr dS.1))
def AC(L:al):Option al:=B_ (idx L 0) λS=>B_ (idx S 1) λaa=>B_ (idx L 0) λaj=>B_ (idx aj 1) λap=>B_ (idx L 0) λv5=>B_ (idx v5 0) λaL=>B_ (aU (Nu L) ([],(aa,(ap,(aL,0))))) λdF=>B_ (idx L 0) λeJ=>B_ (idx eJ 0) λfa=>B_ (aU (Nv L dF) (dF.1,fa)) λjr=>some jr
def Vf:a4:=⟨287,[cq],[cs 65],λx=>AC x⟩
def adF{ae:Prop}:bk ae Vf:=bm [U8,HG,M4] [cv 6 [(3,cs 65),(4,aZ),(5,aZ),(6,aZ),(7,aZ)] 0 [(3,cs 65),(4,aZ),(5,aZ),(6,aZ)],cv 12 [(3,cs 65),(8,aZ)] 2 [(3,cs 65)],cv 15 [(3,cs 65),(9,aZ)] 4 [(3,cs 65)]] [] ⟨adv,MT,UZ,trivial⟩
def Nw(L:al)(be:al)(a8:Int):Option (Int⊕Unit⊕List Int×Bool):=cond (d_ (a8<(be.length:Int))) (B_ (idx be a8) λbA=>B_ (idx L 0) λbC=>B_ (ui bA bC) λbJ=>cond (!bJ) (B_ (idx be a8) λcw=>B_ (idx L 1) λdx=>B_ (ui cw dx) λdk=>cond (!dk) (B_ (idx be a8) λep=>B_ (idx L 2) λdF=>B_ (ui ep dF) λeJ=>cond (!eJ) (B_ (idx be a8) λfa=>some (.inr (.inr (fa,true)))) (some (.inl (W_ i64 (a8+1))))) (some (.inl (W_ i64 (a8+1))))) (some (.inl (W_ i64 (a8+1))))) (some (.inr (.inl ())))
def Nx(L:al):Option (List Int×Bool):=B_ (idx L 0) λS=>B_ (xF [] S) λaa=>B_ (idx L 1) λaj=>B_ (xF aa aj) λap=>B_ (idx L 2) λv5=>B_ (xF ap v5) λaL=>B_ (Hv aL) λaK=>B_ (AC aK) λbe=>B_ (aU (Nw L be) 0) λdS=>match dS with|.inl eM=>some ([],false)|.inr hl=>some (hl.1,hl.2)
def adG:a4:=⟨350,[cq],[vC,ca],λx=>Nx x⟩
def apD{ae:Prop}:bk ae adG:=bm [UJ,UL,Vf,C9] [⟨5,[(7,aZ)],some (0,[]),some [(2,vC),(3,ca)],false,none⟩] [cr 1 0,cr 7 0] ⟨acM,acN,adF,Hr,trivial⟩
def Ny(L:al):Option Int:=B_ (idx L 0) λS=>B_ (idx L 1) λaa=>B_ (idx L 2) λaj=>B_ (Ak S aa aj) λap=>some ap
def adH:a4:=⟨351,[cq],[aZ],λx=>Ny x⟩
def apE{ae:Prop}:bk ae adH:=bm [MJ] [] [cr 1 0] ⟨UK,trivial⟩
def NA(rec:al->List al->Option (List al))(L:al)(S:List Int×Bool)(ap:List al×Int):Option (List al×Int⊕List al):=cond (d_ (ap.2<3)) (B_ (idx L ap.2) λv5=>B_ (fT .i64 (W_ i64 (ap.2+1)) 3) λaL=>B_ (idx L aL) λaK=>B_ (Ny [S.1,v5,aK]) λbe=>cond (be !=0) (B_ (rec [S.1,v5,aK] ap.1) λa8=>some (.inl (a8,W_ i64 (ap.2+1)))) (some (.inl (ap.1,W_ i64 (ap.2+1))))) (some (.inr ap.1))
def H3(rec:al->List al->Option (List al))(L:al)(av:List al):Option (List al):=B_ (Nx L) λS=>cond (!S.2) (B_ (nP L) λaa=>B_ (bI 24 av [aa]) λaj=>some aj) (B_ (aU (NA rec L S) (av,0)) λbA=>some bA)
def vO:Nat->al->List al->Option (List al)|0=>λ_ _=>none|n+1=>H3 (vO n)
def Vg(L:al)(av:List al):Option (List al):=vO 30000 L av
def Vh:a4:=⟨325,[cq,.mv true 24 fN],[.l (.o true 24 fN)],λx=>Vg x.1 x.2⟩
def sR(rec:al->List al->Option (List al)):a4:=⟨325,[.d false fN,.mv true 24 fN],[.l (.o true 24 fN)],λx=>rec x.1 x.2⟩
def adI(rec:al->List al->Option (List al)):da:=⟨Tryz.prog,oq,[adG,Db,adH,sR rec],[cv 5 [(1,.l (.o true 24 fN)),(7,aZ)] 0 [(1,.l (.o true 24 fN))]],[cr 7 0],[],[],[]⟩
def apF(rec:al->List al->Option (List al))(x:i1.den (sR rec).ps):wJ (adI rec) Tryz.f325 (sR rec).ps (sR rec).rs x=(sR (H3 rec)).F x:=by kernel_rfl
def apG{ae:Prop}(rec:al->List al->Option (List al))(c:eZ Tryz.prog (sR rec).f/\gg ae Tryz.prog (sR rec)):eZ Tryz.prog (sR (H3 rec)).f/\gg ae Tryz.prog (sR (H3 rec)):=GS (N:=adI rec) o6 ⟨apD,Hw,apE,c,trivial⟩ func325 (by kernel_rfl) (apF rec)
def adJ{ae:Prop}:(n:Nat)->eZ Tryz.prog (sR (vO n)).f/\gg ae Tryz.prog (sR (vO n))|0=>⟨⟨Tryz.f325,_,func325,by kernel_rfl,rfl⟩,λx u c=>by cases c⟩|n+1=>apG _ (adJ n)
def apH{ae:Prop}:eZ Tryz.prog Vh.f/\gg ae Tryz.prog Vh:=adJ 30000
def NB(L:al)(aj:List al×Int):Option (List al×Int⊕List al):=cond (d_ (W_ i64 (aj.2+1)<(L.length:Int))) (B_ (idx L 0) λap=>B_ (idx L aj.2) λv5=>B_ (idx L (W_ i64 (aj.2+1))) λaL=>B_ (Vg [ap,v5,aL] aj.1) λaK=>some (.inl (aK,W_ i64 (aj.2+1)))) (some (.inr aj.1))
def NC(L:al):Option (List al):=B_ (kd L) λS=>cond (!S) (some []) (B_ (nQ L) λaa=>cond (d_ (aa>200)) (some []) (B_ (aU (NB L) ([],1)) λbe=>some be))
def adK:a4:=⟨276,[cq],[.l (.o true 24 fN)],λx=>NC x⟩
def apI{ae:Prop}:bk ae adK:=bm [lA,Ay,Vh] [cv 5 [(3,.l (.o true 24 fN)),(4,aZ)] 0 [(3,.l (.o true 24 fN))]] [cr 7 0] ⟨mb,Ds,apH,trivial⟩
def ND(L:al):Option Int:=B_ (NC L) λS=>cond ((S.length:Int)==0) (some (-1)) (some (S.length:Int))
def adL:a4:=⟨220,[cq],[aZ],λx=>ND x⟩
def apJ{ae:Prop}:bk ae adL:=bm [adK] [] [] ⟨apI,trivial⟩
def H4(L:al):Option al:=B_ (kd L) λS=>cond (!S) (some []) (B_ (HX L) λaa=>some aa.2)
def adM:a4:=⟨223,[cq],[.l (.o false 65 bF)],λx=>H4 x⟩
def apK{ae:Prop}:bk ae adM:=bm [lA,Va] [] [] ⟨mb,adx,trivial⟩
def NE(L:List Int):Option ByteArray:=B_ (Ah L) λS=>cond (!S) (some ⟨#[]⟩) (B_ (sQ L) λaa=>some aa)
def adN:a4:=⟨278,[dE],[gN],λx=>NE x⟩
def apL{ae:Prop}:bk ae adN:=bm [Hn,Ar] [] [] ⟨MF,De,trivial⟩
def H5(L:al)(S:List ByteArray×Int):Option (List ByteArray×Int⊕List ByteArray):=cond (d_ (S.2<(L.length:Int))) (B_ (idx L S.2) λaa=>B_ (NE aa) λaj=>B_ (bI 16 S.1 [aj]) λap=>some (.inl (ap,W_ i64 (S.2+1)))) (some (.inr S.1))
def AD(L:al):Option ByteArray:=B_ (aU (H5 L) ([],0)) λv5=>cond ((v5.length:Int)==0) (some ⟨#[45]⟩) (B_ (pI v5 ⟨#[32]⟩) λaL=>some aL)
def Vi:a4:=⟨222,[cq],[gN],λx=>AD x⟩
def adO{ae:Prop}:bk ae Vi:=bm [adN,Aq] [cv 3 [(3,jc 9),(4,aZ)] 0 [(3,jc 9)]] [] ⟨apL,Dd,trivial⟩
def AE(L:List Int)(av:ByteArray):Option ByteArray:=cond ((L.length:Int)==0) (some av) (B_ (sQ L) λS=>some S)
def NF:a4:=⟨231,[dE,iW],[gN],λx=>AE x.1 x.2⟩
def Vj{ae:Prop}:bk ae NF:=bm [Ar] [] [] ⟨De,trivial⟩
def AF(L:al)(S:List Int×Int):Option (List Int×Int⊕List Int⊕ByteArray):=cond (d_ (S.2<(L.length:Int))) (B_ (Az L S.2) λaa=>cond (!aa.2) (some (.inr (.inr ⟨#[110,111]⟩))) (B_ (vM (aa.1.1,aa.1.2)) λaj=>B_ (bI 8 S.1 [aj]) λap=>some (.inl (ap,W_ i64 (S.2+1))))) (some (.inr (.inl S.1)))
def NG(L:al):Option ByteArray:=B_ (aU (AF L) ([],0)) λv5=>match v5 with|.inl aL=>B_ (AE aL ⟨#[110,111]⟩) λbe=>some be|.inr aK=>some aK
def adP:a4:=⟨224,[cq],[gN],λx=>NG x⟩
def apM{ae:Prop}:bk ae adP:=bm [Vc,Vd,NF] [⟨3,[(3,cM 3),(4,aZ)],some (0,[(3,cM 3)]),some [(2,gN)],false,none⟩] [] ⟨adA,adB,Vj,trivial⟩
def H6(L:al)(av:al):Option Int:=B_ (HQ L av) λS=>cond (!S.2) (some (-1)) (B_ (nQ S.1) λaa=>B_ (nQ L) λaj=>B_ (nQ av) λap=>some (W_ i64 (W_ i64 (aa-aj)-ap)))
def adQ:a4:=⟨225,[cq,cq],[aZ],λx=>H6 x.1 x.2⟩
def apN{ae:Prop}:bk ae adQ:=bm [U2,Ay] [] [] ⟨adh,Ds,trivial⟩
def NH(L:al)(av:al):Option Bool:=B_ (Dp L) λS=>B_ (Dp av) λaa=>cond S.2 (cond aa.2 (B_ (Hy S.1 aa.1) λaj=>some aj) (some false)) (some false)
def adR:a4:=⟨226,[cq,cq],[ca],λx=>NH x.1 x.2⟩
def apO{ae:Prop}:bk ae adR:=bm [UX,UM] [] [] ⟨adb,acP,trivial⟩
def H7(L:al):Option Int:=B_ (Du L) λS=>cond (!S.2) (some (-1)) (B_ (xN L) λaa=>B_ (xN S.1) λaj=>some (W_ i64 (aa+aj)))
def adS:a4:=⟨227,[cq],[aZ],λx=>H7 x⟩
def apP{ae:Prop}:bk ae adS:=bm [U1,HN] [] [] ⟨adg,M2,trivial⟩
def Vk(L:al×al)(av:ByteArray):Option ByteArray:=cond (av.toList==(⟨#[115,104,111,119]⟩:ByteArray).toList) (B_ (xL L.1) λS=>some S) (cond (av.toList==(⟨#[100,101,115,99,114,105,98,101]⟩:ByteArray).toList) (B_ (Nq L.1) λaa=>some aa) (cond (av.toList==(⟨#[101,109,112,116,121]⟩:ByteArray).toList) (B_ (ND L.1) λaj=>B_ (iX aj) λap=>some ap) (cond (av.toList==(⟨#[119,105,100,116,104]⟩:ByteArray).toList) (B_ (HY L.1) λv5=>B_ (iX v5) λaL=>some aL) (cond (av.toList==(⟨#[100,105,114,101,99,116,105,111,110,115]⟩:ByteArray).toList) (B_ (H4 L.1) λaK=>B_ (AD aK) λbe=>some be) (cond (av.toList==(⟨#[99,111,114,110,101,114,115]⟩:ByteArray).toList) (B_ (NG L.1) λa8=>some a8) (cond (av.toList==(⟨#[109,105,120,101,100]⟩:ByteArray).toList) (B_ (H6 L.1 L.2) λbA=>B_ (iX bA) λbC=>some bC) (cond (av.toList==(⟨#[115,97,109,101]⟩:ByteArray).toList) (B_ (NH L.1 L.2) λbJ=>cond bJ (some ⟨#[121,101,115]⟩) (some ⟨#[110,111]⟩)) (cond (av.toList==(⟨#[116,119,101,108,118,101]⟩:ByteArray).toList) (B_ (H7 L.1) λcw=>B_ (iX cw) λdx=>some dx) (some ⟨#[119,104,97,116]⟩)))))))))
def adT:a4:=⟨160,[.d false (.prod fN fN),iW],[gN],λx=>Vk x.1 x.2⟩
def apQ{ae:Prop}:bk ae adT:=bm [MQ,adE,adL,ue,Vb,adM,Vi,adP,adQ,adR,adS] [] [] ⟨UO,apC,apJ,vE,ady,apK,adO,apM,apN,apO,apP,trivial⟩
def NI(L:Int)(av:List Int×Int):Option Bool:=B_ (m3 L 1 3) λS=>cond S (cond ((av.1.length:Int)==L) (B_ (pH av.1 20) λaa=>cond aa (B_ (vI av.1) λaj=>cond (d_ (aj>0)) (B_ (m3 av.2 (-200) 200) λap=>some ap) (some false)) (some false)) (some false)) (some false)
def adU:a4:=⟨352,[ey,.d false (.prod bF bH)],[ca],λx=>NI x.1 x.2⟩
def apR{ae:Prop}:bk ae adU:=bm [qx,xE,Dj] [] [] ⟨rz,Ag,HH,trivial⟩
def NJ(L:Int×List (List Int×Int))(S:Int):Option (Int⊕Unit⊕Bool):=cond (d_ (S<(L.2.length:Int))) (B_ (idx L.2 S) λaa=>B_ (NI L.1 aa) λaj=>cond (!aj) (some (.inr (.inr false))) (some (.inl (W_ i64 (S+1))))) (some (.inr (.inl ())))
def uq(L:Int×List (List Int×Int)):Option Bool:=B_ (aU (NJ L) 0) λap=>match ap with|.inl v5=>B_ (m3 L.1 1 3) λaK=>cond aK (some (d_ ((L.2.length:Int)<=8))) (some false)|.inr aL=>some aL
def AG:a4:=⟨327,[.d false (.prod bH (.list (.prod bF bH)))],[ca],λx=>uq x⟩
def DA{ae:Prop}:bk ae AG:=bm [adU,qx] [⟨2,[(3,aZ)],some (0,[]),some [(2,ca)],false,none⟩] [cr 4 0] ⟨apR,rz,trivial⟩
def NK(L:Int×List (List Int×Int))(aj:ByteArray×Int):Option (ByteArray×Int⊕ByteArray):=cond (d_ (aj.2<(L.2.length:Int))) (B_ (ft aj.1 ⟨#[59]⟩) λap=>B_ (idx L.2 aj.2) λv5=>B_ (sQ v5.1) λaL=>B_ (ft ap aL) λaK=>B_ (ft aK ⟨#[60]⟩) λbe=>B_ (idx L.2 aj.2) λa8=>B_ (iX a8.2) λbA=>B_ (ft be bA) λbC=>some (.inl (bC,W_ i64 (aj.2+1)))) (some (.inr aj.1))
def NL(L:Int×List (List Int×Int)):Option ByteArray:=B_ (uq (L.1,L.2)) λS=>cond (!S) (some ⟨#[]⟩) (B_ (iX L.1) λaa=>B_ (aU (NK L) (aa,0)) λbJ=>some bJ)
def adV:a4:=⟨328,[.d false (.prod bH (.list (.prod bF bH)))],[gN],λx=>NL x⟩
def apS{ae:Prop}:bk ae adV:=bm [AG,ue,Ar] [cv 5 [(3,gN),(4,aZ)] 0 [(3,gN)]] [cr 7 0] ⟨DA,vE,De,trivial⟩
def DB(S:List ByteArray)(ap:(Int×List (List Int×Int))×(Int×List (List Int×Int))×Int):Option ((Int×List (List Int×Int))×(Int×List (List Int×Int))×Int⊕(Int×List (List Int×Int))×Int×List (List Int×Int)⊕(Int×List (List Int×Int))×Bool):=cond (d_ (ap.2.2<(S.length:Int))) (B_ (idx S ap.2.2) λv5=>B_ (ud v5 60) λaL=>cond ((aL.length:Int)!=2) (some (.inr (.inr ((0,[]),false)))) (B_ (bG aL.length 0) λ_=>B_ (idx aL (((0:Int).toNat:Nat):Int)) λaK=>B_ (rB aK) λbe=>B_ (bG aL.length 1) λ_=>B_ (idx aL (((1:Int).toNat:Nat):Int)) λa8=>B_ (sP a8) λbA=>cond (!be.2) (some (.inr (.inr ((0,[]),false)))) (cond (!bA.2) (some (.inr (.inr ((0,[]),false)))) (B_ (bI 32 ap.2.1.2 [(be.1,bA.1)]) λbC=>some (.inl ((ap.1.1,ap.1.2),((ap.2.1.1,bC),W_ i64 (ap.2.2+1)))))))) (some (.inr (.inl ((ap.1.1,ap.1.2),(ap.2.1.1,ap.2.1.2)))))
def NM(L:ByteArray):Option ((Int×List (List Int×Int))×Bool):=B_ (ud L 59) λS=>B_ (bG S.length 0) λ_=>B_ (idx S (((0:Int).toNat:Nat):Int)) λaa=>B_ (sP aa) λaj=>B_ (aU (DB S) ((0,[]),((aj.1,[]),1))) λbJ=>match bJ with|.inl cw=>cond (!aj.2) (some ((0,[]),false)) (B_ (uq (cw.2.1,cw.2.2)) λdk=>cond (!dk) (some ((0,[]),false)) (B_ (NL (cw.2.1,cw.2.2)) λep=>cond (! ep.toList==L.toList) (some ((0,[]),false)) (some ((cw.2.1,cw.2.2),true))))|.inr dx=>some ((dx.1.1,dx.1.2),dx.2)
def adW:a4:=⟨281,[iW],[.a [.d false bH,.o true 132 (.prod bF bH)],ca],λx=>NM x⟩
def apT{ae:Prop}:bk ae adW:=bm [Af,C7,C8,AG,adV] [⟨5,[(2,.b 79 [.d false bH,.o true 132 (.prod bF bH)]),(7,.b 79 [.d false bH,.o true 132 (.prod bF bH)]),(8,aZ)],some (0,[(2,.b 79 [.d false bH,.o true 132 (.prod bF bH)]),(7,.b 79 [.d false bH,.o true 132 (.prod bF bH)])]),some [(2,.b 79 [.d false bH,.o true 132 (.prod bF bH)]),(3,ca)],false,none⟩] [] ⟨C5,Hm,Ho,DA,apS,trivial⟩
def NN(L:Int×List (List Int×Int))(av:List Int)(S:Int):Option (Int⊕Unit⊕Bool):=cond (d_ (S<(L.2.length:Int))) (B_ (idx L.2 S) λaa=>B_ (m5 aa.1 av) λaj=>B_ (idx L.2 S) λap=>cond (d_ (aj>ap.2)) (some (.inr (.inr false))) (some (.inl (W_ i64 (S+1))))) (some (.inr (.inl ())))
def H8(L:Int×List (List Int×Int))(av:List Int):Option Bool:=B_ (aU (NN L av) 0) λv5=>match v5 with|.inl aL=>some true|.inr aK=>some aK
def adX:a4:=⟨353,[.d false (.prod bH (.list (.prod bF bH))),dE],[ca],λx=>H8 x.1 x.2⟩
def apU{ae:Prop}:bk ae adX:=bm [Dn] [⟨2,[(5,aZ)],some (0,[]),some [(4,ca)],false,none⟩] [cr 4 0] ⟨HI,trivial⟩
def H9(L:Int×List (List Int×Int))(aa:al)(aj:al×Int):Option (al×Int⊕al):=cond (d_ (aj.2<(aa.length:Int))) (B_ (idx aa aj.2) λap=>B_ (H8 (L.1,L.2) ap) λv5=>cond v5 (B_ (idx aa aj.2) λaL=>B_ (bI 24 aj.1 [aL]) λaK=>some (.inl (aK,W_ i64 (aj.2+1)))) (some (.inl (aj.1,W_ i64 (aj.2+1))))) (some (.inr aj.1))
def Ia(L:Int×List (List Int×Int)):Option al:=B_ (uq (L.1,L.2)) λS=>cond (!S) (some []) (B_ (HU L.1 (-6) 6) λaa=>B_ (aU (H9 L aa) ([],0)) λbe=>some be)
def adY:a4:=⟨329,[.d false (.prod bH (.list (.prod bF bH)))],[.l (.o false 65 bF)],λx=>Ia x⟩
def apV{ae:Prop}:bk ae adY:=bm [AG,U7,adX] [cv 6 [(3,.l (.o false 65 bF)),(5,aZ)] 0 [(3,.l (.o false 65 bF))]] [cr 8 0] ⟨DA,adu,apU,trivial⟩
def NO(L:Int×List (List Int×Int)):Option Int:=B_ (uq (L.1,L.2)) λS=>cond (!S) (some (-1)) (B_ (Ia (L.1,L.2)) λaa=>some (aa.length:Int))
def adZ:a4:=⟨282,[.d false (.prod bH (.list (.prod bF bH)))],[aZ],λx=>NO x⟩
def apW{ae:Prop}:bk ae adZ:=bm [AG,adY] [] [] ⟨DA,apV,trivial⟩
def Ib(L:List (List Int×Int))(S:(List Int×Int)×al×Int):Option ((List Int×Int)×al×Int⊕(List Int×Int)×al):=cond (d_ (S.2.2<(L.length:Int))) (B_ (idx L S.2.2) λaa=>B_ (bI 24 S.2.1 [aa.1]) λaj=>some (.inl ((S.1.1,S.1.2),(aj,W_ i64 (S.2.2+1))))) (some (.inr ((S.1.1,S.1.2),S.2.1)))
def Ic(L:List (List Int×Int))(ap:(List Int×Int)×al)(aL:(List Int×Int)×List Int×Int)(aK:(List Int×Int)×List Int×al×Int):Option ((List Int×Int)×List Int×al×Int⊕(List Int×Int)×List Int×al):=cond (d_ (aK.2.2.2<(ap.2.length:Int))) (B_ (idx ap.2 aK.2.2.2) λbe=>B_ (bI 8 [] be) λa8=>B_ (idx L aK.2.2.2) λbA=>B_ (bG a8.length aL.2.2) λ_=>B_ (bG a8.length ((aL.2.2.toNat:Nat):Int)) λ_=>B_ (bI 24 aK.2.2.1 [a8.set aL.2.2.toNat bA.2]) λbC=>some (.inl ((aK.1.1,aK.1.2),(aK.2.1,(bC,W_ i64 (aK.2.2.2+1)))))) (some (.inr ((aK.1.1,aK.1.2),(aK.2.1,aK.2.2.1))))
def Ie(L:List (List Int×Int))(ap:(List Int×Int)×al)(aL:(List Int×Int)×List Int×Int):Option ((List Int×Int)×List Int×Int⊕(List Int×Int)×List Int):=cond (d_ (aL.2.2<(ap.2.length:Int))) (B_ (aU (Ic L ap aL) ((aL.1.1,aL.1.2),(aL.2.1,([],0)))) λbJ=>B_ (um bJ.2.2) λcw=>B_ (bI 8 bJ.2.1 [cw]) λdx=>some (.inl ((bJ.1.1,bJ.1.2),(dx,W_ i64 (aL.2.2+1))))) (some (.inr ((aL.1.1,aL.1.2),aL.2.1)))
def DC(ep:List Int)(eJ:Int)(dS:(List Int×Int)×(List Int×Int)×Int):Option ((List Int×Int)×(List Int×Int)×Int⊕(List Int×Int)×List Int×Int):=cond (d_ (dS.2.2<(ep.length:Int))) (B_ (idx ep dS.2.2) λeM=>B_ (fV .i64 eM eJ) λhl=>B_ (bI 8 dS.2.1.1 [hl]) λhQ=>some (.inl ((dS.1.1,dS.1.2),((hQ,dS.2.1.2),W_ i64 (dS.2.2+1))))) (some (.inr ((dS.1.1,dS.1.2),(dS.2.1.1,dS.2.1.2))))
def ad0(dk:(List Int×Int)×List Int)(lz:Int)(hS:(List Int×Int)×(List Int×Int)×Int):Option ((List Int×Int)×(List Int×Int)×Int⊕(List Int×Int)×List Int×Int):=cond (d_ (hS.2.2<(dk.2.length:Int))) (B_ (idx dk.2 hS.2.2) λkf=>B_ (fV .i64 kf lz) λkh=>B_ (bI 8 hS.2.1.1 [kh]) λjB=>some (.inl ((hS.1.1,hS.1.2),((jB,hS.2.1.2),W_ i64 (hS.2.2+1))))) (some (.inr ((hS.1.1,hS.1.2),(hS.2.1.1,hS.2.1.2))))
def NP(L:List (List Int×Int)):Option ((List Int×Int)×Bool):=B_ (aU (Ib L) (([],0),([],0))) λap=>B_ (um ap.2) λv5=>cond (v5==0) (some (([],0),false)) (B_ (aU (Ie L ap) ((ap.1.1,ap.1.2),([],0))) λdk=>cond (d_ (v5<0)) (B_ (ke dk.2 (-1)) λep=>B_ (vI ep) λdF=>B_ (Di dF (W_ i64 (0-v5))) λeJ=>B_ (fV .i64 (W_ i64 (0-v5)) eJ) λfa=>B_ (aU (DC ep eJ) ((dk.1.1,dk.1.2),(([],fa),0))) λhR=>some ((hR.2.1,hR.2.2),true)) (B_ (vI dk.2) λjr=>B_ (Di jr v5) λlz=>B_ (fV .i64 v5 lz) λk6=>B_ (aU (ad0 dk lz) ((dk.1.1,dk.1.2),(([],k6),0))) λvN=>some ((vN.2.1,vN.2.2),true)))
def ad1:a4:=⟨354,[.d false (.list (.prod bF bH))],[.a [.o true 3 bH,.d false bH],ca],λx=>NP x⟩
def apX{ae:Prop}:bk ae ad1:=bm [U3,Dg,Dj,UR] [cv 3 [(2,.b 86 [.o true 3 bH,.d false bH]),(4,.l (.o false 65 bF)),(5,aZ)] 0 [(2,.b 86 [.o true 3 bH,.d false bH]),(4,.l (.o false 65 bF))],cv 11 [(2,.b 86 [.o true 3 bH,.d false bH]),(7,cM 3),(8,aZ)] 2 [(2,.b 86 [.o true 3 bH,.d false bH]),(7,cM 3)],cv 15 [(2,.b 86 [.o true 3 bH,.d false bH]),(7,cM 3),(9,cs 65),(10,aZ)] 4 [(2,.b 86 [.o true 3 bH,.d false bH]),(7,cM 3),(9,cs 65)],cv 27 [(2,.b 86 [.o true 3 bH,.d false bH]),(13,.b 86 [.o true 3 bH,.d false bH]),(14,aZ)] 6 [(2,.b 86 [.o true 3 bH,.d false bH]),(13,.b 86 [.o true 3 bH,.d false bH])]] [cr 29 0] ⟨adk,HE,HH,acZ,trivial⟩
def DD(L:List Int×Int):Option Bool:=B_ (m3 L.2 1 100000) λS=>cond S (B_ (pH L.1 10000000) λaa=>some aa) (some false)
def Vl:a4:=⟨362,[.d false (.prod bF bH)],[ca],λx=>DD x⟩
def ad2{ae:Prop}:bk ae Vl:=bm [qx,xE] [] [] ⟨rz,Ag,trivial⟩
def NQ(L:Int×List (List Int×Int))(av:List Int×Int)(aj:Int):Option (Int⊕Unit⊕Bool):=cond (d_ (aj<(L.2.length:Int))) (B_ (idx L.2 aj) λap=>B_ (m5 ap.1 av.1) λv5=>B_ (idx L.2 aj) λaL=>cond (d_ (v5>W_ i64 (aL.2*av.2))) (some (.inr (.inr false))) (some (.inl (W_ i64 (aj+1))))) (some (.inr (.inl ())))
def NR(L:Int×List (List Int×Int))(av:List Int×Int):Option Bool:=B_ (uq (L.1,L.2)) λS=>cond (!S) (some false) (B_ (DD (av.1,av.2)) λaa=>cond (!aa) (some false) (cond ((av.1.length:Int)!=L.1) (some false) (B_ (aU (NQ L av) 0) λaK=>match aK with|.inl be=>some true|.inr a8=>some a8)))
def ad3:a4:=⟨355,[.d false (.prod bH (.list (.prod bF bH))),.d false (.prod bF bH)],[ca],λx=>NR x.1 x.2⟩
def apY{ae:Prop}:bk ae ad3:=bm [AG,Vl,Dn] [⟨4,[(5,aZ)],some (0,[]),some [(4,ca)],false,none⟩] [cr 6 0] ⟨DA,ad2,HI,trivial⟩
def If(L:List Int×Int)(av:List Int×Int)(aj:Int):Option (Int⊕Unit⊕Int):=cond (d_ (aj<(L.1.length:Int))) (B_ (idx L.1 aj) λap=>B_ (idx av.1 aj) λv5=>cond (W_ i64 (ap*av.2)!=W_ i64 (v5*L.2)) (B_ (AA (d_ (W_ i64 (ap*av.2)<W_ i64 (v5*L.2)))) λaL=>some (.inr (.inr (W_ i64 (1-W_ i64 (2*aL)))))) (some (.inl (W_ i64 (aj+1))))) (some (.inr (.inl ())))
def Ig(L:List Int×Int)(av:List Int×Int):Option Int:=B_ (DD (L.1,L.2)) λS=>cond (!S) (some 0) (B_ (DD (av.1,av.2)) λaa=>cond (!aa) (some 0) (cond ((L.1.length:Int)!=(av.1.length:Int)) (some 0) (B_ (aU (If L av) 0) λaK=>match aK with|.inl be=>some 0|.inr a8=>some a8)))
def ad4:a4:=⟨363,[.d false (.prod bF bH),.d false (.prod bF bH)],[aZ],λx=>Ig x.1 x.2⟩
def apZ{ae:Prop}:bk ae ad4:=bm [Vl,No] [⟨4,[(5,aZ)],some (0,[]),some [(4,aZ)],false,none⟩] [cr 6 0,cr 7 0] ⟨ad2,Ve,trivial⟩
def Vm(av:List Int×Int)(S:List (List Int×Int)×Int):Option (List (List Int×Int)×Int⊕List (List Int×Int)×Int):=cond (d_ (S.2>0)) (B_ (bG S.1.length (W_ i64 (S.2-1))) λ_=>B_ (idx S.1 (((W_ i64 (S.2-(1:Int))).toNat:Nat):Int)) λaa=>B_ (Ig (av.1,av.2) aa) λaj=>cond (d_ (aj<0)) (some (.inl (S.1,W_ i64 (S.2-1)))) (some (.inr (S.1,S.2)))) (some (.inr (S.1,S.2)))
def NS(L:List (List Int×Int))(av:List Int×Int):Option (List (List Int×Int)):=B_ (aU (Vm av) (L,(L.length:Int))) λap=>cond (d_ (ap.2>0)) (B_ (bG ap.1.length (W_ i64 (ap.2-1))) λ_=>B_ (idx ap.1 (((W_ i64 (ap.2-(1:Int))).toNat:Nat):Int)) λv5=>B_ (Ig (av.1,av.2) v5) λaL=>cond (aL==0) (some ap.1) (B_ (e5 ap.1 ap.2 (ap.1.length:Int)) λaK=>B_ (e5 ap.1 (ap.2.toNat:Int) ((ap.1.length:Int).toNat:Int)) λbe=>B_ (bI 32 [] be) λa8=>B_ (e5 ap.1 0 ap.2) λbA=>B_ (bI 32 bA [(av.1,av.2)]) λbC=>B_ (bI 32 bC a8) λbJ=>some bJ)) (B_ (e5 ap.1 ap.2 (ap.1.length:Int)) λcw=>B_ (e5 ap.1 (ap.2.toNat:Int) ((ap.1.length:Int).toNat:Int)) λdx=>B_ (bI 32 [] dx) λdk=>B_ (e5 ap.1 0 ap.2) λep=>B_ (bI 32 ep [(av.1,av.2)]) λdF=>B_ (bI 32 dF dk) λeJ=>some eJ)
def ad5:a4:=⟨356,[.mv false 86 (.prod bF bH),.d false (.prod bF bH)],[.l (.o false 86 (.prod bF bH))],λx=>NS x.1 x.2⟩
def ap0{ae:Prop}:bk ae ad5:=uc [37] [(7,[0,1,2,6,3,4,5,7,8])] [ad4] [cv 2 [(0,.l (.o false 86 (.prod bF bH))),(5,aZ)] 0 [(0,.l (.o false 86 (.prod bF bH))),(5,aZ)]] [cr 2 0,cr 4 0,cr 7 0] [] ⟨apZ,trivial⟩ trivial
def Ih(rec:Int×List (List Int×Int)->Int->List (List Int×Int)->List (List Int×Int)->Option (List (List Int×Int)))(L:Int×List (List Int×Int))(dd:List (List Int×Int))(ap:List (List Int×Int)×Int):Option (List (List Int×Int)×Int⊕List (List Int×Int)):=cond (d_ (ap.2<(L.2.length:Int))) (B_ (bI 32 [] dd) λv5=>B_ (idx L.2 ap.2) λaL=>B_ (bI 32 v5 [(aL.1,aL.2)]) λaK=>B_ (rec (L.1,L.2) (W_ i64 (ap.2+1)) aK ap.1) λbe=>some (.inl (be,W_ i64 (ap.2+1)))) (some (.inr ap.1))
def xP(rec:Int×List (List Int×Int)->Int->List (List Int×Int)->List (List Int×Int)->Option (List (List Int×Int)))(L:Int×List (List Int×Int))(av:Int)(dd:List (List Int×Int))(vP:List (List Int×Int)):Option (List (List Int×Int)):=cond ((dd.length:Int)==L.1) (B_ (NP dd) λS=>cond S.2 (B_ (NR (L.1,L.2) (S.1.1,S.1.2)) λaa=>cond aa (B_ (NS vP (S.1.1,S.1.2)) λaj=>some aj) (some vP)) (some vP)) (B_ (aU (Ih rec L dd) (vP,av)) λa8=>some a8)
def vQ:Nat->Int×List (List Int×Int)->Int->List (List Int×Int)->List (List Int×Int)->Option (List (List Int×Int))|0=>λ_ _ _ _=>none|n+1=>xP (vQ n)
def Vn(L:Int×List (List Int×Int))(av:Int)(dd:List (List Int×Int))(vP:List (List Int×Int)):Option (List (List Int×Int)):=vQ 30000 L av dd vP
def Vo:a4:=⟨330,[.d false (.prod bH (.list (.prod bF bH))),ey,.d false (.list (.prod bF bH)),.mv false 86 (.prod bF bH)],[.l (.o false 86 (.prod bF bH))],λx=>Vn x.1 x.2.1 x.2.2.1 x.2.2.2⟩
def sS(rec:Int×List (List Int×Int)->Int->List (List Int×Int)->List (List Int×Int)->Option (List (List Int×Int))):a4:=⟨330,[.d false (.prod bH (.list (.prod bF bH))),.d false bH,.d false (.list (.prod bF bH)),.mv false 86 (.prod bF bH)],[.l (.o false 86 (.prod bF bH))],λx=>rec x.1 x.2.1 x.2.2.1 x.2.2.2⟩
def ad6(rec:Int×List (List Int×Int)->Int->List (List Int×Int)->List (List Int×Int)->Option (List (List Int×Int))):da:=⟨Tryz.prog,oq,[ad1,ad3,ad5,sS rec],[cv 7 [(3,.l (.o false 86 (.prod bF bH))),(11,aZ)] 0 [(3,.l (.o false 86 (.prod bF bH)))]],[cr 9 0],[],[],[]⟩
def ap1(rec:Int×List (List Int×Int)->Int->List (List Int×Int)->List (List Int×Int)->Option (List (List Int×Int)))(x:i1.den (sS rec).ps):wJ (ad6 rec) Tryz.f330 (sS rec).ps (sS rec).rs x=(sS (xP rec)).F x:=by kernel_rfl
def ap2{ae:Prop}(rec:Int×List (List Int×Int)->Int->List (List Int×Int)->List (List Int×Int)->Option (List (List Int×Int)))(c:eZ Tryz.prog (sS rec).f/\gg ae Tryz.prog (sS rec)):eZ Tryz.prog (sS (xP rec)).f/\gg ae Tryz.prog (sS (xP rec)):=GS (N:=ad6 rec) o6 ⟨apX,apY,ap0,c,trivial⟩ func330 (by kernel_rfl) (ap1 rec)
def ad7{ae:Prop}:(n:Nat)->eZ Tryz.prog (sS (vQ n)).f/\gg ae Tryz.prog (sS (vQ n))|0=>⟨⟨Tryz.f330,_,func330,by kernel_rfl,rfl⟩,λx u c=>by cases c⟩|n+1=>ap2 _ (ad7 n)
def ap3{ae:Prop}:eZ Tryz.prog Vo.f/\gg ae Tryz.prog Vo:=ad7 30000
def Ii(L:Int×List (List Int×Int)):Option (List (List Int×Int)):=B_ (uq (L.1,L.2)) λS=>cond (!S) (some []) (B_ (Vn (L.1,L.2) 0 [] []) λaa=>some aa)
def ad8:a4:=⟨283,[.d false (.prod bH (.list (.prod bF bH)))],[.l (.o false 86 (.prod bF bH))],λx=>Ii x⟩
def ap4{ae:Prop}:bk ae ad8:=bm [AG,Vo] [] [] ⟨DA,ap3,trivial⟩
def NT(L:List Int×Int):Option ByteArray:=cond ((L.1.length:Int)==0) (some ⟨#[]⟩) (cond (d_ (L.2<1)) (some ⟨#[]⟩) (cond (L.2==1) (B_ (sQ L.1) λS=>some S) (B_ (sQ L.1) λaa=>B_ (ft aa ⟨#[47]⟩) λaj=>B_ (iX L.2) λap=>B_ (ft aj ap) λv5=>some v5)))
def ad9:a4:=⟨284,[.d false (.prod bF bH)],[gN],λx=>NT x⟩
def ap5{ae:Prop}:bk ae ad9:=bm [Ar,ue] [] [cr 5 0] ⟨De,vE,trivial⟩
def DE(ap:List (List Int×Int))(v5:List ByteArray×Int):Option (List ByteArray×Int⊕List ByteArray):=cond (d_ (v5.2<(ap.length:Int))) (B_ (idx ap v5.2) λaL=>B_ (NT aL) λaK=>B_ (bI 16 v5.1 [aK]) λbe=>some (.inl (be,W_ i64 (v5.2+1)))) (some (.inr v5.1))
def NU(L:ByteArray)(av:ByteArray):Option ByteArray:=B_ (NM av) λS=>cond (!S.2) (some ⟨#[110,111]⟩) (cond (L.toList==(⟨#[99,111,117,110,116]⟩:ByteArray).toList) (B_ (NO (S.1.1,S.1.2)) λaa=>B_ (iX aa) λaj=>some aj) (B_ (Ii (S.1.1,S.1.2)) λap=>B_ (aU (DE ap) ([],0)) λa8=>cond ((a8.length:Int)==0) (some ⟨#[45]⟩) (B_ (pI a8 ⟨#[32]⟩) λbA=>some bA)))
def aea:a4:=⟨228,[iW,iW],[gN],λx=>NU x.1 x.2⟩
def ap6{ae:Prop}:bk ae aea:=bm [adW,adZ,ue,ad8,ad9,Aq] [cv 9 [(7,jc 9),(9,aZ)] 0 [(7,jc 9)]] [] ⟨apT,apW,vE,ap4,ap5,Dd,trivial⟩
def NV(L:al)(av:List Int):Option Int:=B_ (kd L) λS=>cond (!S) (some (-1)) (B_ (Ah av) λaa=>cond (!aa) (some (-1)) (cond ((av.length:Int)!=2) (some (-1)) (B_ (ul L av) λaj=>some aj)))
def aeb:a4:=⟨230,[cq,dE],[aZ],λx=>NV x.1 x.2⟩
def ap7{ae:Prop}:bk ae aeb:=bm [lA,Hn,M4] [] [] ⟨mb,MF,UZ,trivial⟩
def Ij(av:List Int)(ap:Int×Int)(aL:al)(aK:List Int×Int):Option (List Int×Int⊕List Int):=cond (d_ (aK.2<(aL.length:Int))) (B_ (idx aL aK.2) λbe=>B_ (m5 av be) λa8=>B_ (bG aK.1.length (W_ i64 (a8-ap.2))) λ_=>B_ (idx aK.1 (((W_ i64 (a8-ap.2)).toNat:Nat):Int)) λbA=>B_ (bG aK.1.length (W_ i64 (a8-ap.2))) λ_=>B_ (bG aK.1.length (((W_ i64 (a8-ap.2)).toNat:Nat):Int)) λ_=>some (.inl (aK.1.set (W_ i64 (a8-ap.2)).toNat (W_ i64 (bA+1)),W_ i64 (aK.2+1)))) (some (.inr aK.1))
def NW(L:al)(av:List Int):Option (List Int):=B_ (kd L) λS=>cond (!S) (some []) (B_ (nQ L) λaa=>cond (d_ (aa>2000)) (some []) (cond ((av.length:Int)!=2) (some []) (B_ (pH av 12) λaj=>cond (!aj) (some []) (B_ (Dy L av) λap=>B_ (nZ 8 (W_ i64 (W_ i64 (ap.1-ap.2)+1)) 0) λv5=>B_ (AC L) λaL=>B_ (aU (Ij av ap aL) (v5,0)) λbC=>some bC))))
def aec:a4:=⟨232,[cq,dE],[cM 3],λx=>NW x.1 x.2⟩
def ap8{ae:Prop}:bk ae aec:=bm [lA,Ay,xE,U9,Vf,Dn] [cv 7 [(7,cM 3),(9,aZ)] 0 [(7,cM 3)]] [] ⟨mb,Ds,Ag,adw,adF,HI,trivial⟩
def Vp(L:al×al)(av:ByteArray)(dd:ByteArray):Option ByteArray:=cond (av.toList==(⟨#[99,111,117,110,116]⟩:ByteArray).toList) (B_ (NU av dd) λS=>some S) (cond (av.toList==(⟨#[118,101,114,116,105,99,101,115]⟩:ByteArray).toList) (B_ (NU av dd) λaa=>some aa) (cond (av.toList==(⟨#[97,116]⟩:ByteArray).toList) (B_ (sP dd) λaj=>cond aj.2 (B_ (xO L.1 aj.1) λap=>B_ (iX ap) λv5=>some v5) (some ⟨#[119,104,97,116]⟩)) (B_ (rB dd) λaL=>cond (!aL.2) (some ⟨#[119,104,97,116]⟩) (cond (av.toList==(⟨#[112,108,97,99,101]⟩:ByteArray).toList) (B_ (NV L.1 aL.1) λaK=>B_ (iX aK) λbe=>some be) (cond (av.toList==(⟨#[108,97,121,101,114,115]⟩:ByteArray).toList) (B_ (NW L.1 aL.1) λa8=>B_ (AE a8 ⟨#[110,111]⟩) λbA=>some bA) (some ⟨#[119,104,97,116]⟩))))))
def aed:a4:=⟨161,[.d false (.prod fN fN),iW,iW],[gN],λx=>Vp x.1 x.2.1 x.2.2⟩
def ap9{ae:Prop}:bk ae aed:=bm [aea,C7,Ni,ue,C8,aeb,aec,NF] [] [] ⟨ap6,Hm,U6,vE,Ho,ap7,ap8,Vj,trivial⟩
def DF(L:List Int)(S:Int):Option (Int⊕Unit⊕Bool):=cond (d_ (S<(L.length:Int))) (B_ (idx L S) λaa=>B_ (m3 aa 1 30) λaj=>cond (!aj) (some (.inr (.inr false))) (cond (d_ (S>0)) (B_ (idx L S) λap=>B_ (idx L (W_ i64 (S-1))) λv5=>cond (d_ (ap<=v5)) (some (.inr (.inr false))) (some (.inl (W_ i64 (S+1))))) (some (.inl (W_ i64 (S+1)))))) (some (.inr (.inl ())))
def NX(L:List Int):Option Bool:=B_ (aU (DF L) 0) λaL=>match aL with|.inl aK=>B_ (m3 (L.length:Int) 1 6) λa8=>some a8|.inr be=>some be
def aee:a4:=⟨288,[dE],[ca],λx=>NX x⟩
def aqa{ae:Prop}:bk ae aee:=bm [qx] [⟨2,[(3,aZ)],some (0,[]),some [(2,ca)],false,none⟩] [cr 4 0] ⟨rz,trivial⟩
def Vq(L:List Int)(av:Int)(ap:List Int×Int)(aL:List Int×Int):Option (List Int×Int⊕List Int):=cond (d_ (aL.2<=av)) (B_ (bG aL.1.length aL.2) λ_=>B_ (idx aL.1 ((aL.2.toNat:Nat):Int)) λaK=>B_ (idx L ap.2) λbe=>B_ (bG aL.1.length (W_ i64 (aL.2-be))) λ_=>B_ (idx aL.1 (((W_ i64 (aL.2-be)).toNat:Nat):Int)) λa8=>B_ (bG aL.1.length aL.2) λ_=>B_ (bG aL.1.length ((aL.2.toNat:Nat):Int)) λ_=>some (.inl (aL.1.set aL.2.toNat (W_ i64 (aK+a8)),W_ i64 (aL.2+1)))) (some (.inr aL.1))
def Vr(L:List Int)(av:Int)(ap:List Int×Int):Option (List Int×Int⊕List Int):=cond (d_ (ap.2<(L.length:Int))) (B_ (idx L ap.2) λv5=>B_ (aU (Vq L av ap) (ap.1,v5)) λbA=>some (.inl (bA,W_ i64 (ap.2+1)))) (some (.inr ap.1))
def NY(L:List Int)(av:Int):Option Int:=B_ (NX L) λS=>cond (!S) (some (-1)) (B_ (m3 av 0 500) λaa=>cond (!aa) (some (-1)) (B_ (nZ 8 (W_ i64 (av+1)) 0) λaj=>B_ (bG aj.length 0) λ_=>B_ (bG aj.length (((0:Int).toNat:Nat):Int)) λ_=>B_ (aU (Vr L av) (aj.set (0:Int).toNat 1,0)) λbC=>B_ (bG bC.length av) λ_=>B_ (idx bC (((av).toNat:Nat):Int)) λbJ=>some bJ))
def aef:a4:=⟨233,[dE,ey],[aZ],λx=>NY x.1 x.2⟩
def aqb{ae:Prop}:bk ae aef:=bm [aee,qx] [cv 6 [(5,cM 3),(6,aZ)] 0 [(5,cM 3)],cv 9 [(5,cM 3),(7,aZ)] 2 [(5,cM 3)]] [cr 11 0] ⟨aqa,rz,trivial⟩
def NZ(L:List Int)(av:List Int):Option (List Int):=B_ (m4 L av) λS=>B_ (Au L) λaa=>B_ (m4 aa av) λaj=>B_ (xM aj S) λap=>B_ (ke L ap) λv5=>B_ (ma aa v5) λaL=>some aL
def aeg:a4:=⟨290,[dE,dE],[cM 3],λx=>NZ x.1 x.2⟩
def aqc{ae:Prop}:bk ae aeg:=bm [vG,UT,UV,Dg,Aj] [] [] ⟨xG,ac2,ac6,HE,Da,trivial⟩
def Ik(L:List Int×List Int)(aj:al×List Int):Option (al×List Int⊕al×List Int):=B_ (m4 aj.2 L.2) λap=>cond (d_ (ap>0)) (B_ (bI 24 aj.1 [aj.2]) λv5=>B_ (NZ aj.2 L.2) λaL=>some (.inl (v5,aL))) (some (.inr (aj.1,aj.2)))
def AH(L:List Int×List Int):Option al:=B_ (vL (L.1,L.2)) λS=>cond (!S) (some []) (B_ (bI 8 [] L.1) λaa=>B_ (aU (Ik L) ([],aa)) λaK=>B_ (bI 24 aK.1 [aK.2]) λbe=>some be)
def Vs:a4:=⟨235,[.d false (.prod bF bF)],[.l (.o false 65 bF)],λx=>AH x⟩
def aeh{ae:Prop}:bk ae Vs:=bm [H0,vG,aeg] [cv 5 [(3,.l (.o false 65 bF)),(4,vC)] 0 [(3,.l (.o false 65 bF)),(4,vC)]] [] ⟨Nn,xG,aqc,trivial⟩
def Il(S:al)(aa:List Int×Int):Option (List Int×Int⊕List Int):=cond (d_ (W_ i64 (aa.2+1)<(S.length:Int))) (B_ (idx S (W_ i64 (aa.2-1))) λaj=>B_ (idx S (W_ i64 (aa.2+1))) λap=>B_ (uj aj ap) λv5=>B_ (idx S aa.2) λaL=>B_ (idx aL 0) λaK=>B_ (AA (aK==0)) λbe=>B_ (bG v5.length be) λ_=>B_ (idx v5 (((be).toNat:Nat):Int)) λa8=>B_ (idx S aa.2) λbA=>B_ (idx bA be) λbC=>B_ (fV .i64 a8 bC) λbJ=>B_ (bI 8 aa.1 [bJ]) λcw=>some (.inl (cw,W_ i64 (aa.2+1)))) (some (.inr aa.1))
def Im(L:List Int×List Int):Option (List Int):=B_ (AH (L.1,L.2)) λS=>B_ (aU (Il S) ([],1)) λdx=>some dx
def aei:a4:=⟨236,[.d false (.prod bF bF)],[cM 3],λx=>Im x⟩
def aqd{ae:Prop}:bk ae aei:=bm [Vs,HK,No] [cv 4 [(3,cM 3),(5,aZ)] 0 [(3,cM 3)]] [cr 6 0,cr 8 0] ⟨aeh,MZ,Ve,trivial⟩
def Vu(L:List ByteArray):Option ByteArray:=B_ (idx L 2) λS=>B_ (rB S) λaa=>cond (!aa.2) (some ⟨#[119,104,97,116]⟩) (B_ (idx L 0) λaj=>cond (aj.toList==(⟨#[119,97,121,115]⟩:ByteArray).toList) (B_ (idx L 1) λap=>B_ (sP ap) λv5=>cond (!v5.2) (some ⟨#[119,104,97,116]⟩) (B_ (NY aa.1 v5.1) λaL=>B_ (iX aL) λaK=>some aK)) (B_ (idx L 1) λbe=>B_ (rB be) λa8=>cond (!a8.2) (some ⟨#[119,104,97,116]⟩) (B_ (idx L 0) λbA=>cond (! bA.toList==(⟨#[115,112,108,105,116]⟩:ByteArray).toList) (B_ (idx L 0) λbC=>cond (! bC.toList==(⟨#[116,117,114,110,115]⟩:ByteArray).toList) (some ⟨#[119,104,97,116]⟩) (B_ (vL (a8.1,aa.1)) λbJ=>cond (!bJ) (some ⟨#[110,111]⟩) (B_ (idx L 0) λcw=>cond (cw.toList==(⟨#[115,112,108,105,116]⟩:ByteArray).toList) (B_ (AH (a8.1,aa.1)) λdx=>B_ (AD dx) λdk=>some dk) (B_ (Im (a8.1,aa.1)) λep=>B_ (AE ep ⟨#[45]⟩) λdF=>some dF)))) (B_ (vL (a8.1,aa.1)) λeJ=>cond (!eJ) (some ⟨#[110,111]⟩) (B_ (idx L 0) λfa=>cond (fa.toList==(⟨#[115,112,108,105,116]⟩:ByteArray).toList) (B_ (AH (a8.1,aa.1)) λdS=>B_ (AD dS) λeM=>some eM) (B_ (Im (a8.1,aa.1)) λhl=>B_ (AE hl ⟨#[45]⟩) λhQ=>some hQ))))))
def aej:a4:=⟨162,[.d false (.list .str)],[gN],λx=>Vu x⟩
def aqe{ae:Prop}:bk ae aej:=bm [C8,C7,aef,ue,H0,Vs,Vi,aei,NF] [] [] ⟨Ho,Hm,aqb,vE,Nn,aeh,adO,aqd,Vj,trivial⟩
def AI(L:al×al)(av:List ByteArray):Option ByteArray:=cond ((av.length:Int)==1) (B_ (idx av 0) λS=>B_ (Vk (L.1,L.2) S) λaa=>some aa) (cond ((av.length:Int)==2) (B_ (idx av 0) λaj=>B_ (idx av 1) λap=>B_ (Vp (L.1,L.2) aj ap) λv5=>some v5) (cond ((av.length:Int)==3) (B_ (Vu av) λaL=>some aL) (some ⟨#[119,104,97,116]⟩)))
def aek:a4:=⟨76,[.d false (.prod fN fN),.d false (.list .str)],[gN],λx=>AI x.1 x.2⟩
def aqf{ae:Prop}:bk ae aek:=bm [adT,aed,aej] [] [cr 3 0,cr 5 0] ⟨apQ,ap9,aqe,trivial⟩
def AJ(L:al×al)(av:ByteArray):Option ((al×al)×ByteArray):=B_ (Df (L.1,L.2)) λS=>B_ (ud av 32) λaa=>B_ (Dx (L.1,L.2) aa) λaj=>cond (av.toList==(⟨#[107,101,101,112]⟩:ByteArray).toList) (B_ (nP L.1) λap=>some ((S.1,ap),⟨#[111,107]⟩)) (cond (av.toList==(⟨#[115,119,97,112]⟩:ByteArray).toList) (B_ (nP L.2) λv5=>B_ (nP L.1) λaL=>some ((v5,aL),⟨#[111,107]⟩)) (cond aj.2.2 (cond (!aj.2.1) (some ((S.1,S.2),⟨#[110,111]⟩)) (cond aj.2.2 (B_ (nP aj.1) λaK=>B_ (xL aj.1) λbe=>some ((aK,S.2),be)) (B_ (AI (L.1,L.2) aa) λa8=>some ((S.1,S.2),a8)))) (cond aj.2.2 (B_ (nP aj.1) λbA=>B_ (xL aj.1) λbC=>some ((bA,S.2),bC)) (B_ (AI (L.1,L.2) aa) λbJ=>some ((S.1,S.2),bJ)))))
def ael:a4:=⟨10,[.d false (.prod fN fN),iW],[.a [.o true 65 bF,.o true 65 bF],gN],λx=>AJ x.1 x.2⟩
def aqg{ae:Prop}:bk ae ael:=bm [acW,Af,adr,Db,MQ,aek] [] [cr 15 0,cr 16 0] ⟨apk,C5,apw,Hw,UO,aqf,trivial⟩
def ou(L:List Int):Option (List Int):=B_ (bI 8 [] L) λS=>some S
def vR:a4:=⟨99,[dE],[cM 3],λx=>ou x⟩
def xQ{ae:Prop}:bk ae vR:=bm [] [] [] trivial
def ur(L:al)(S:al×Int):Option (al×Int⊕al):=cond (d_ (S.2<(L.length:Int))) (B_ (idx L S.2) λaa=>B_ (ou aa) λaj=>B_ (bI 24 S.1 [aj]) λap=>some (.inl (ap,W_ i64 (S.2+1)))) (some (.inr S.1))
def ov(L:al):Option al:=B_ (aU (ur L) ([],0)) λv5=>some v5
def AK:a4:=⟨34,[cq],[cs 65],λx=>ov x⟩
def DG{ae:Prop}:bk ae AK:=bm [vR] [cv 3 [(3,cs 65),(8,aZ)] 0 [(3,cs 65)]] [] ⟨xQ,trivial⟩
def Vv(L av:ByteArray):Option (List ByteArray):=CV L av
def Vx:a4:=⟨100,[iW,iW],[jc 9],λx=>Vv x.1 x.2⟩
def aqh{ae:Prop}:eZ Tryz.prog Vx.f/\gg ae Tryz.prog Vx:=⟨⟨Tryz.f100,_,func100,by kernel_rfl,rfl⟩,aoe {acl with} (by kernel_rfl) aoq rfl rfl⟩
def vS(L:ByteArray)(av:Int):Option (List ByteArray):=B_ (Vv L (oH [av])) λS=>some S
def DH:a4:=⟨35,[iW,.d false (.int .u8)],[jc 9],λx=>vS x.1 x.2⟩
def In{ae:Prop}:bk ae DH:=bm [Vx] [] [] ⟨aqh,trivial⟩
def Vy(L:List ByteArray)(av:ByteArray):Option ByteArray:=Hb L av
def Vz:a4:=⟨103,[.d false (.list .str),iW],[gN],λx=>Vy x.1 x.2⟩
def aqi:eZ Tryz.prog Vz.f/\gg False Tryz.prog Vz:=⟨⟨Tryz.f103,_,func103,by kernel_rfl,rfl⟩,aoc aon aoo rfl⟩
def sT(L:List ByteArray)(av:ByteArray):Option ByteArray:=B_ (Vy L av) λS=>some S
def Io:a4:=⟨39,[.d false (.list .str),iW],[gN],λx=>sT x.1 x.2⟩
def N0:bk False Io:=bm [Vz] [] [] ⟨aqi,trivial⟩
def vT(L:ByteArray):Option (Int×Bool):=Hd L
def Iq:a4:=⟨55,[iW],[aZ,ca],λx=>vT x⟩
def VA:eZ Tryz.prog Iq.f/\gg False Tryz.prog Iq:=aoA
def m7(L:Int)(av:Int)(dd:Int):Option Bool:=cond (d_ (L>=av)) (some (d_ (L<=dd))) (some false)
def qz:a4:=⟨125,[ey,ey,ey],[ca],λx=>m7 x.1 x.2.1 x.2.2⟩
def rE{ae:Prop}:bk ae qz:=bm [] [] [] trivial
def VB(L:List Int)(av:Int)(dd:Int)(S:Int):Option (Int⊕Unit⊕Bool):=cond (d_ (S<(L.length:Int))) (B_ (idx L S) λaa=>B_ (m7 aa av dd) λaj=>cond (!aj) (some (.inr (.inr false))) (some (.inl (W_ i64 (S+1))))) (some (.inr (.inl ())))
def rF(L:List Int)(av:Int)(dd:Int):Option Bool:=B_ (aU (VB L av dd) 0) λap=>match ap with|.inl v5=>some true|.inr aL=>some aL
def DI:a4:=⟨204,[dE,ey,ey],[ca],λx=>rF x.1 x.2.1 x.2.2⟩
def Ir{ae:Prop}:bk ae DI:=bm [qz] [⟨2,[(11,aZ)],some (0,[]),some [(6,ca)],false,none⟩] [] ⟨rE,trivial⟩
def vU(L:List Int):Option Bool:=B_ (m7 (L.length:Int) 1 3) λS=>cond S (B_ (rF L (-1000) 1000) λaa=>some aa) (some false)
def AL:a4:=⟨130,[dE],[ca],λx=>vU x⟩
def DJ{ae:Prop}:bk ae AL:=bm [qz,DI] [] [] ⟨rE,Ir,trivial⟩
def VC(L:List Int):Option (List Int×Bool):=B_ (vU L) λS=>cond (!S) (some ([],false)) (some (L,true))
def aem:a4:=⟨126,[.mv true 3 bH],[cM 3,ca],λx=>VC x⟩
def aqj{ae:Prop}:bk ae aem:=bm [AL] [] [] ⟨DJ,trivial⟩
def aen(S:List ByteArray)(aa:List Int×Int):Option (List Int×Int⊕List Int⊕List Int×Bool):=cond (d_ (aa.2<(S.length:Int))) (B_ (idx S aa.2) λaj=>B_ (vT aj) λap=>cond (!ap.2) (some (.inr (.inr ([],false)))) (B_ (bI 8 aa.1 [ap.1]) λv5=>some (.inl (v5,W_ i64 (aa.2+1))))) (some (.inr (.inl aa.1)))
def us(L:ByteArray):Option (List Int×Bool):=B_ (vS L 44) λS=>B_ (aU (aen S) ([],0)) λaL=>match aL with|.inl aK=>B_ (VC aK) λa8=>some (a8.1,a8.2)|.inr be=>some (be.1,be.2)
def N1:a4:=⟨56,[iW],[cM 3,ca],λx=>us x⟩
def VD:bk False N1:=bm [DH,Iq,aem] [⟨3,[(4,cM 3),(12,aZ)],some (0,[(4,cM 3)]),some [(2,cM 3),(3,ca)],false,none⟩] [] ⟨In,VA,aqj,trivial⟩
def vV(L:List Int)(av:Int):Option Bool:=cond ((L.length:Int)==2) (B_ (rF L (W_ i64 (0-av)) av) λS=>some S) (some false)
def DK:a4:=⟨133,[dE,ey],[ca],λx=>vV x.1 x.2⟩
def Is{ae:Prop}:bk ae DK:=bm [DI] [] [] ⟨Ir,trivial⟩
def nR(L:List Int)(av:List Int):Option (List Int):=B_ (idx L 0) λS=>B_ (idx av 0) λaa=>B_ (idx L 1) λaj=>B_ (idx av 1) λap=>some [W_ i64 (S-aa),W_ i64 (aj-ap)]
def xR:a4:=⟨194,[dE,dE],[cM 3],λx=>nR x.1 x.2⟩
def AM{ae:Prop}:bk ae xR:=bm [] [] [cr 1 0] trivial
def lB(L:List Int)(av:List Int):Option Int:=B_ (idx L 0) λS=>B_ (idx av 1) λaa=>B_ (idx L 1) λaj=>B_ (idx av 0) λap=>some (W_ i64 (W_ i64 (S*aa)-W_ i64 (aj*ap)))
def xS:a4:=⟨148,[dE,dE],[aZ],λx=>lB x.1 x.2⟩
def AN{ae:Prop}:bk ae xS:=bm [] [] [cr 1 0] trivial
def ut(L:List Int)(av:List Int)(dd:List Int):Option Int:=B_ (nR av L) λS=>B_ (nR dd L) λaa=>B_ (lB S aa) λaj=>some aj
def DL:a4:=⟨187,[dE,dE,dE],[aZ],λx=>ut x.1 x.2.1 x.2.2⟩
def It{ae:Prop}:bk ae DL:=bm [xR,xS] [] [] ⟨AM,AN,trivial⟩
def N2(L:Int):Option Bool:=some (L !=L)
def aeo:a4:=⟨248,[ey],[ca],λx=>N2 x⟩
def aqk{ae:Prop}:bk ae aeo:=bm [] [] [] trivial
def AO(L:Int)(av:Int):Option Int:=B_ (N2 L) λS=>B_ (N2 av) λaa=>cond S (cond aa (some 0) (some (-1))) (cond aa (some 1) (cond (d_ (L<av)) (some (-1)) (cond (d_ (L>av)) (some 1) (some 0))))
def VE:a4:=⟨196,[ey,ey],[aZ],λx=>AO x.1 x.2⟩
def aep{ae:Prop}:bk ae VE:=bm [aeo] [] [] ⟨aqk,trivial⟩
def DM(L:List Int)(av:List Int)(S:Int):Option (Int⊕Unit⊕Int):=cond (d_ (S<(L.length:Int))) (B_ (idx L S) λaa=>cond (d_ (S>=(av.length:Int))) (some (.inr (.inr 1))) (B_ (idx av S) λaj=>B_ (AO aa aj) λap=>cond (ap !=0) (some (.inr (.inr ap))) (some (.inl (W_ i64 (S+1)))))) (some (.inr (.inl ())))
def vW(L:List Int)(av:List Int):Option Int:=B_ (aU (DM L av) 0) λv5=>match v5 with|.inl aL=>cond (d_ ((L.length:Int)<(av.length:Int))) (some (-1)) (some 0)|.inr aK=>some aK
def VF:a4:=⟨108,[dE,dE],[aZ],λx=>vW x.1 x.2⟩
def N3{ae:Prop}:bk ae VF:=bm [VE] [⟨2,[(11,aZ)],some (0,[]),some [(4,aZ)],false,none⟩] [] ⟨aep,trivial⟩
def Iu(L:al)(aa:Int):Option (Int⊕Unit⊕Bool):=cond (d_ (aa<(L.length:Int))) (B_ (idx L aa) λaj=>B_ (vV aj 50) λap=>cond (!ap) (some (.inr (.inr false))) (some (.inl (W_ i64 (aa+1))))) (some (.inr (.inl ())))
def Iv(L:al)(be:Int):Option (Int⊕Unit⊕Bool):=cond (d_ (be<(L.length:Int))) (B_ (idx L be) λa8=>B_ (fT .i64 (W_ i64 (be+1)) (L.length:Int)) λbA=>B_ (idx L bA) λbC=>B_ (fT .i64 (W_ i64 (be+2)) (L.length:Int)) λbJ=>B_ (idx L bJ) λcw=>B_ (ut a8 bC cw) λdx=>cond (d_ (dx<=0)) (some (.inr (.inr false))) (cond (d_ (be>0)) (B_ (idx L 0) λdk=>B_ (vW dk a8) λep=>cond (d_ (ep>=0)) (some (.inr (.inr false))) (cond (d_ (be>0)) (cond (d_ (be<W_ i64 ((L.length:Int)-1))) (B_ (idx L 0) λdF=>B_ (idx L (W_ i64 (be+1))) λeJ=>B_ (ut dF a8 eJ) λfa=>cond (d_ (fa<=0)) (some (.inr (.inr false))) (some (.inl (W_ i64 (be+1))))) (some (.inl (W_ i64 (be+1))))) (some (.inl (W_ i64 (be+1)))))) (cond (d_ (be>0)) (cond (d_ (be<W_ i64 ((L.length:Int)-1))) (B_ (idx L 0) λdS=>B_ (idx L (W_ i64 (be+1))) λeM=>B_ (ut dS a8 eM) λhl=>cond (d_ (hl<=0)) (some (.inr (.inr false))) (some (.inl (W_ i64 (be+1))))) (some (.inl (W_ i64 (be+1))))) (some (.inl (W_ i64 (be+1))))))) (some (.inr (.inl ())))
def ki(L:al):Option Bool:=B_ (m7 (L.length:Int) 3 12) λS=>cond (!S) (some false) (B_ (aU (Iu L) 0) λv5=>match v5 with|.inl aL=>(B_ (aU (Iv L) 0) λhQ=>match hQ with|.inl hR=>some true|.inr jr=>some jr)|.inr aK=>some aK)
def lE:a4:=⟨101,[cq],[ca],λx=>ki x⟩
def mc{ae:Prop}:bk ae lE:=bm [qz,DK,DL,VF] [⟨4,[(14,aZ)],some (0,[]),some [(2,ca)],false,none⟩,⟨11,[(26,aZ)],some (2,[]),some [(2,ca)],false,none⟩] [cr 13 0] ⟨rE,Is,It,N3,trivial⟩
def DN(S:List ByteArray)(aa:al×Int):Option (al×Int⊕al⊕al×Bool):=cond (d_ (aa.2<(S.length:Int))) (B_ (idx S aa.2) λaj=>B_ (us aj) λap=>cond (!ap.2) (some (.inr (.inr ([],false)))) (B_ (bI 24 aa.1 [ap.1]) λv5=>some (.inl (v5,W_ i64 (aa.2+1))))) (some (.inr (.inl aa.1)))
def DO(L:ByteArray):Option (al×Bool):=B_ (vS L 32) λS=>B_ (aU (DN S) ([],0)) λaL=>match aL with|.inl aK=>B_ (ki aK) λa8=>cond (!a8) (some ([],false)) (some (aK,true))|.inr be=>some (be.1,be.2)
def VG:a4:=⟨38,[iW],[cs 65,ca],λx=>DO x⟩
def aeq:bk False VG:=bm [DH,N1,lE] [⟨3,[(4,cs 65),(12,aZ)],some (0,[(4,cs 65)]),some [(2,cs 65),(3,ca)],false,none⟩] [] ⟨In,VD,mc,trivial⟩
def VH(L:Int):Option ByteArray:=Ha L
def VI:a4:=⟨118,[ey],[gN],λx=>VH x⟩
def aql{ae:Prop}:eZ Tryz.prog VI.f/\gg ae Tryz.prog VI:=⟨⟨Tryz.f118,_,func118,by kernel_rfl,rfl⟩,aob acj acm rfl⟩
def k7(L:Int):Option ByteArray:=B_ (VH L) λS=>some S
def Iw:a4:=⟨45,[ey],[gN],λx=>k7 x⟩
def N4{ae:Prop}:bk ae Iw:=bm [VI] [] [] ⟨aql,trivial⟩
def N5(L:List Int)(S:List ByteArray×Int):Option (List ByteArray×Int⊕List ByteArray):=cond (d_ (S.2<(L.length:Int))) (B_ (idx L S.2) λaa=>B_ (k7 aa) λaj=>B_ (bI 16 S.1 [aj]) λap=>some (.inl (ap,W_ i64 (S.2+1)))) (some (.inr S.1))
def rG(L:List Int):Option ByteArray:=B_ (aU (N5 L) ([],0)) λv5=>B_ (sT v5 ⟨#[44]⟩) λaL=>some aL
def DP:a4:=⟨62,[dE],[gN],λx=>rG x⟩
def Ix:bk False DP:=bm [Iw,Io] [cv 3 [(3,jc 9),(8,aZ)] 0 [(3,jc 9)]] [] ⟨N4,N0,trivial⟩
def Iy(L:List Int):Option ByteArray:=B_ (vU L) λS=>cond (!S) (some ⟨#[]⟩) (B_ (rG L) λaa=>some aa)
def VJ:a4:=⟨102,[dE],[gN],λx=>Iy x⟩
def aer:bk False VJ:=bm [AL,DP] [] [] ⟨DJ,Ix,trivial⟩
def aqm(L:al)(aa:List ByteArray×Int):Option (List ByteArray×Int⊕List ByteArray):=cond (d_ (aa.2<(L.length:Int))) (B_ (idx L aa.2) λaj=>B_ (Iy aj) λap=>B_ (bI 16 aa.1 [ap]) λv5=>some (.inl (v5,W_ i64 (aa.2+1)))) (some (.inr aa.1))
def pK(L:al):Option ByteArray:=B_ (ki L) λS=>cond (!S) (some ⟨#[]⟩) (B_ (aU (aqm L) ([],0)) λaL=>B_ (sT aL ⟨#[32]⟩) λaK=>some aK)
def VK:a4:=⟨37,[cq],[gN],λx=>pK x⟩
def aes:bk False VK:=bm [lE,VJ,Io] [cv 5 [(3,jc 9),(11,aZ)] 0 [(3,jc 9)]] [] ⟨mc,aer,N0,trivial⟩
def AP(i:Nat)(m t:Int)(s:Int×al):Option (Int×al⊕al):=cond (d_ (s.1<m)) (B_ s.2[i]? λC=>B_ (bG C.length s.1) λ_=>B_ s.2[i]? λC=>B_ C[s.1.toNat]? λv=>B_ s.2[i]? λC=>B_ (bG C.length s.1) λ_=>B_ s.2[i]? λC=>B_ C[s.1.toNat]? λ_=>some (.inl (W_ i64 (s.1+1),s.2.set i (C.set s.1.toNat (W_ i64 (v*t)))))) (some (.inr s.2))
def N6(n t:Int)(s:Int×al):Option (Int×al⊕al):=cond (d_ (s.1<n)) (B_ (bG s.2.length s.1) λ_=>if s.1.toNat<s.2.length then B_ s.2[s.1.toNat]? λC=>B_ (aU (AP s.1.toNat C.length t) (0,s.2)) λq=>some (.inl (W_ i64 (s.1+1),q))else none) (some (.inr s.2))
def N7(L:al)(av:Int):Option al:=B_ (ov L) λS=>B_ (aU (N6 S.length av) (0,S)) λq=>some q
def AQ:a4:=⟨105,[cq,ey],[cs 65],λx=>N7 x.1 x.2⟩
noncomputable def aet:da:=⟨Tryz.prog,oq,[AK],[],[],[],[],[]⟩
def aqn(x:i1.den AQ.ps):Hg aet [⟨0,11,[⟨3,0,13⟩,⟨6,2,19⟩]⟩] Tryz.f105 AQ.ps AQ.rs x=AQ.F x:=by kernel_rfl
def aqo{ae:Prop}:eZ Tryz.prog AQ.f/\gg ae Tryz.prog AQ:=acu (N:=aet) o6 ⟨DG,trivial⟩ func105 (by kernel_rfl) rfl aqn
def N8(L:al):Option (Unit×al×Unit):=G3 (λa b=>vW a b) L
def VL:a4:=⟨191,[.io true 65 bF,.f 108],[],λx=>N8 x.1⟩
def aqp{ae:Prop}:eZ Tryz.prog VL.f/\gg ae Tryz.prog VL:=⟨⟨Tryz.f191,_,func191,by kernel_rfl,rfl⟩,anT aoh rfl (N3 (ae:=True)).1 (N3 (ae:=True)).2⟩
def N9(L:al):Option (Unit×al×Unit):=some ((),(L.reverse,()))
def VM:a4:=⟨192,[.io true 65 bF],[],λx=>N9 x⟩
def aqq{ae:Prop}:eZ Tryz.prog VM.f/\gg ae Tryz.prog VM:=⟨⟨Tryz.f192,_,func192,by kernel_rfl,rfl⟩,anX aoj rfl⟩
def Oa(L:al)(S:Int):Option (Int⊕Unit⊕al×Bool):=cond (d_ (S<(L.length:Int))) (B_ (idx L S) λaa=>B_ (vV aa 50) λaj=>cond (!aj) (some (.inr (.inr ([],false)))) (some (.inl (W_ i64 (S+1))))) (some (.inr (.inl ())))
def DQ(a8:al×al×Int)(bC:List Int)(bJ:al):Option (al⊕al):=cond (d_ ((bJ.length:Int)>=W_ i64 ((a8.2.1.length:Int)+2))) (B_ (bG bJ.length (W_ i64 ((bJ.length:Int)-2))) λ_=>B_ (idx bJ (((W_ i64 ((bJ.length:Int)-(2:Int))).toNat:Nat):Int)) λcw=>B_ (bG bJ.length (W_ i64 ((bJ.length:Int)-1))) λ_=>B_ (idx bJ (((W_ i64 ((bJ.length:Int)-(1:Int))).toNat:Nat):Int)) λdx=>B_ (ut cw dx bC) λdk=>cond (d_ (dk<=0)) (B_ (e5 bJ 0 (W_ i64 ((bJ.length:Int)-1))) λep=>some (.inl ep)) (some (.inr bJ))) (some (.inr bJ))
def Iz(a8:al×al×Int)(bA:al×Int):Option (al×Int⊕al):=cond (d_ (bA.2<(a8.1.length:Int))) (B_ (idx a8.1 bA.2) λbC=>B_ (aU (DQ a8 bC) bA.1) λdF=>B_ (ou bC) λeJ=>B_ (bI 24 dF [eJ]) λfa=>some (.inl (fa,W_ i64 (bA.2+1)))) (some (.inr bA.1))
def AR(a8:al×al×Int):Option (al×al×Int⊕al):=cond (d_ (a8.2.2<2)) (B_ (aU (Iz a8) (a8.2.1,0)) λdS=>B_ (e5 dS 0 (if W_ i64 ((dS.length:Int)-1)>0 then W_ i64 ((dS.length:Int)-1)else 0)) λeM=>B_ (N9 a8.1) λhl=>some (.inl (hl.2.1,(eM,W_ i64 (a8.2.2+1))))) (some (.inr a8.2.1))
def vX(L:al):Option (al×Bool):=cond (d_ ((L.length:Int)>200)) (some ([],false)) (B_ (aU (Oa L) 0) λap=>match ap with|.inl v5=>B_ (ov L) λaK=>B_ (N8 aK) λbe=>B_ (aU AR (be.2.1,([],0))) λhQ=>B_ (ki hQ) λhR=>cond (!hR) (some ([],false)) (some (hQ,true))|.inr aL=>some (aL.1,aL.2))
def DR:a4:=⟨104,[cq],[cs 65,ca],λx=>vX x⟩
def IA{ae:Prop}:bk ae DR:=bm [DK,AK,VL,DL,vR,VM,lE] [⟨4,[(17,aZ)],some (0,[]),some [(2,cs 65),(3,ca)],false,none⟩,cv 13 [(6,cs 65),(7,cs 65),(8,aZ)] 2 [(7,cs 65)],⟨17,[(7,cs 65),(37,aZ)],some (4,[(7,cs 65)]),none,true,none⟩,cv 19 [(7,cs 65)] 6 [(7,cs 65)]] [cr 19 0] ⟨Is,DG,aqp,It,xQ,aqq,mc,trivial⟩
def IB(L:al):Option (al×Bool):=B_ (ki L) λS=>cond (!S) (some ([],false)) (B_ (N7 L (-1)) λaa=>B_ (vX aa) λaj=>some (aj.1,aj.2))
def VN:a4:=⟨40,[cq],[cs 65,ca],λx=>IB x⟩
def aeu{ae:Prop}:bk ae VN:=bm [lE,AQ,DR] [] [] ⟨mc,aqo,IA,trivial⟩
def IC(L:Int):Option Int:=some (if W_ i64 (0-L)>L then W_ i64 (0-L)else L)
def VO:a4:=⟨256,[ey],[aZ],λx=>IC x⟩
def aev{ae:Prop}:bk ae VO:=bm [] [] [] trivial
def Ob(S:Int×Int):Option (Int×Int⊕Int):=cond (S.2 !=0) (B_ (fT .i64 S.1 S.2) λaa=>some (.inl (S.2,aa))) (some (.inr S.1))
def ID(L:Int)(av:Int):Option Int:=B_ (aU Ob (L,av)) λaj=>B_ (IC aj) λap=>some ap
def VP:a4:=⟨208,[ey,ey],[aZ],λx=>ID x.1 x.2⟩
def aew{ae:Prop}:bk ae VP:=bm [VO] [cv 1 [(0,aZ),(1,aZ)] 0 [(0,aZ)]] [cr 2 0] ⟨aev,trivial⟩
def Oc(L:List Int)(S:Int×Int):Option (Int×Int⊕Int):=cond (d_ (S.2<(L.length:Int))) (B_ (idx L S.2) λaa=>B_ (ID S.1 aa) λaj=>some (.inl (aj,W_ i64 (S.2+1)))) (some (.inr S.1))
def sU(L:List Int):Option Int:=B_ (aU (Oc L) (0,0)) λap=>some ap
def AS:a4:=⟨147,[dE],[aZ],λx=>sU x⟩
def DS{ae:Prop}:bk ae AS:=bm [VP] [cv 3 [(3,aZ),(8,aZ)] 0 [(3,aZ)]] [] ⟨aew,trivial⟩
def VQ(L:List Int):Option Int:=B_ (vU L) λS=>cond (!S) (some (-1)) (B_ (sU L) λaa=>some aa)
def aex:a4:=⟨247,[dE],[aZ],λx=>VQ x⟩
def aqr{ae:Prop}:bk ae aex:=bm [AL,AS] [] [] ⟨DJ,DS,trivial⟩
def Od(S:Int)(aa:List Int)(aj:List Int×Int):Option (List Int×Int⊕List Int):=cond (d_ (aj.2<(aa.length:Int))) (B_ (bG aj.1.length aj.2) λ_=>B_ (idx aj.1 ((aj.2.toNat:Nat):Int)) λap=>B_ (fV .i64 ap S) λv5=>B_ (bG aj.1.length aj.2) λ_=>B_ (bG aj.1.length ((aj.2.toNat:Nat):Int)) λ_=>some (.inl (aj.1.set aj.2.toNat v5,W_ i64 (aj.2+1)))) (some (.inr aj.1))
def AT(L:List Int):Option (List Int×Bool):=B_ (VQ L) λS=>cond (d_ (S<=0)) (some ([],false)) (B_ (ou L) λaa=>B_ (aU (Od S aa) (aa,0)) λaL=>some (aL,true))
def VR:a4:=⟨193,[dE],[cM 3,ca],λx=>AT x⟩
def aey{ae:Prop}:bk ae VR:=bm [aex,vR] [cv 6 [(5,cM 3),(15,aZ)] 0 [(5,cM 3)]] [] ⟨aqr,xQ,trivial⟩
def VS(aj:List Int×List Int×Int×Int):Option (List Int×List Int×Int×Int⊕List Int×Int):=cond (aj.2.2.2 !=0) (B_ (fV .i64 aj.2.2.1 aj.2.2.2) λap=>B_ (bG aj.1.length 0) λ_=>B_ (idx aj.1 (((0:Int).toNat:Nat):Int)) λv5=>B_ (bG aj.2.1.length 0) λ_=>B_ (idx aj.2.1 (((0:Int).toNat:Nat):Int)) λaL=>B_ (bG aj.1.length 1) λ_=>B_ (idx aj.1 (((1:Int).toNat:Nat):Int)) λaK=>B_ (bG aj.2.1.length 1) λ_=>B_ (idx aj.2.1 (((1:Int).toNat:Nat):Int)) λbe=>some (.inl (aj.2.1,([W_ i64 (v5-W_ i64 (ap*aL)),W_ i64 (aK-W_ i64 (ap*be))],(aj.2.2.2,W_ i64 (aj.2.2.1-W_ i64 (ap*aj.2.2.2))))))) (some (.inr (aj.1,aj.2.2.1)))
def sV(L:List Int):Option (List Int):=B_ (idx L 0) λS=>B_ (idx L 1) λaa=>B_ (aU VS ([1,0],([0,1],(S,aa)))) λa8=>B_ (bG a8.1.length 1) λ_=>B_ (idx a8.1 (((1:Int).toNat:Nat):Int)) λbA=>B_ (bG a8.1.length 0) λ_=>B_ (idx a8.1 (((0:Int).toNat:Nat):Int)) λbC=>some [W_ i64 (W_ i64 (0-bA)*a8.2),W_ i64 (bC*a8.2)]
def VT:a4:=⟨149,[dE],[cM 3],λx=>sV x⟩
def aez{ae:Prop}:bk ae VT:=bm [] [cv 3 [(3,cM 3),(4,cM 3),(5,aZ),(6,aZ)] 0 [(3,cM 3),(5,aZ)]] [cr 2 0,cr 6 0,cr 7 0] trivial
def AU(L:Int)(av:Int):Option Int:=B_ (fV .i64 L av) λS=>B_ (fT .i64 L av) λaa=>cond (d_ (aa<0)) (some (W_ i64 (S-1))) (some S)
def VU:a4:=⟨151,[ey,ey],[aZ],λx=>AU x.1 x.2⟩
def aeA{ae:Prop}:bk ae VU:=bm [] [] [] trivial
def DT(L:al)(dd:Int)(S:List Int)(aK:List Int×Bool)(be:List Int)(dx:Int)(dk:al×Int):Option (al×Int⊕al):=cond (d_ (dk.2<(L.length:Int))) (B_ (idx L dk.2) λep=>B_ (nR ep S) λdF=>B_ (lB dF be) λeJ=>B_ (lB aK.1 dF) λfa=>B_ (bG ([eJ,W_ i64 (dd*fa)]:List Int).length 0) λ_=>B_ (idx [eJ,W_ i64 (dd*fa)] (((0:Int).toNat:Nat):Int)) λdS=>B_ (bG ([eJ,W_ i64 (dd*fa)]:List Int).length 1) λ_=>B_ (idx [eJ,W_ i64 (dd*fa)] (((1:Int).toNat:Nat):Int)) λeM=>B_ (bG ([eJ,W_ i64 (dd*fa)]:List Int).length 1) λ_=>B_ (idx [eJ,W_ i64 (dd*fa)] (((1:Int).toNat:Nat):Int)) λhl=>B_ (bI 24 dk.1 [[W_ i64 (dS-W_ i64 (dx*eM)),hl]]) λhQ=>some (.inl (hQ,W_ i64 (dk.2+1)))) (some (.inr dk.1))
def rH(L:al)(av:Int)(dd:Int):Option (al×Bool):=B_ (idx L av) λS=>B_ (fT .i64 (W_ i64 (W_ i64 (av+(L.length:Int))+dd)) (L.length:Int)) λaa=>B_ (idx L aa) λaj=>B_ (fT .i64 (W_ i64 (W_ i64 (av+(L.length:Int))-dd)) (L.length:Int)) λap=>B_ (idx L ap) λv5=>B_ (nR aj S) λaL=>B_ (AT aL) λaK=>B_ (sV aK.1) λbe=>B_ (nR v5 S) λa8=>B_ (lB a8 be) λbA=>B_ (lB aK.1 a8) λbC=>B_ (bG ([bA,W_ i64 (dd*bC)]:List Int).length 0) λ_=>B_ (idx [bA,W_ i64 (dd*bC)] (((0:Int).toNat:Nat):Int)) λbJ=>B_ (bG ([bA,W_ i64 (dd*bC)]:List Int).length 1) λ_=>B_ (idx [bA,W_ i64 (dd*bC)] (((1:Int).toNat:Nat):Int)) λcw=>B_ (AU bJ cw) λdx=>B_ (aU (DT L dd S aK be dx) ([],0)) λhR=>B_ (vX hR) λjr=>some (jr.1,jr.2)
def aeB:a4:=⟨106,[cq,ey,ey],[cs 65,ca],λx=>rH x.1 x.2.1 x.2.2⟩
noncomputable def aeC:da:=⟨Tryz.prog,oq,[xR,xS],[],[cr 2 0],[],[],[]⟩
def VV:mg:=⟨195,false,nu aeC Tryz.f195⟩
def aqs{ae:Prop}:eZ Tryz.prog VV.f/\kM ae Tryz.prog VV:=GR (N:=aeC) o6 ⟨AM,AN,trivial⟩ func195 (by kernel_rfl)
def aqt{ae:Prop}:bk ae aeB:=MD [xR,VR,VT,VU,DR] [cv 10 [(18,cs 65),(70,aZ)] 0 [(18,cs 65)]] [cr 2 0,cr 7 0,cr 13 0] [VV] ⟨AM,aey,aez,aeA,IA,trivial⟩ ⟨aqs,trivial⟩
def uu(L:al)(av:al)(S:Int):Option (Int⊕Unit⊕Int):=cond (d_ (S<(L.length:Int))) (B_ (idx L S) λaa=>cond (d_ (S>=(av.length:Int))) (some (.inr (.inr 1))) (B_ (idx av S) λaj=>B_ (vW aa aj) λap=>cond (ap !=0) (some (.inr (.inr ap))) (some (.inl (W_ i64 (S+1)))))) (some (.inr (.inl ())))
def AV(L:al)(av:al):Option Int:=B_ (aU (uu L av) 0) λv5=>match v5 with|.inl aL=>cond (d_ ((L.length:Int)<(av.length:Int))) (some (-1)) (some 0)|.inr aK=>some aK
def aeD:a4:=⟨107,[cq,cq,.f 108],[aZ],λx=>AV x.1 x.2.1⟩
def aqu{ae:Prop}:bk ae aeD:=bm [VF] [⟨2,[(13,aZ)],some (0,[]),some [(6,aZ)],false,none⟩] [] ⟨N3,trivial⟩
def VW(L:al)(ap:al×Int):Option (al×Int⊕al⊕al×Bool):=cond (d_ (ap.2<(([1,-1]:List Int).length:Int))) (B_ (idx [1,-1] ap.2) λv5=>B_ (rH L 0 v5) λaL=>cond (!aL.2) (some (.inr (.inr ([],false)))) (B_ (jK ap.1) λ_=>B_ (AV aL.1 ap.1) λaK=>cond (d_ (aK<0)) (some (.inl (aL.1,W_ i64 (ap.2+1)))) (some (.inl (ap.1,W_ i64 (ap.2+1)))))) (some (.inr (.inl ap.1)))
def vY(L:al)(bC:al×Int)(dk:al×Int):Option (al×Int⊕al⊕al×Bool):=cond (d_ (dk.2<(([1,-1]:List Int).length:Int))) (B_ (idx [1,-1] dk.2) λep=>B_ (rH L bC.2 ep) λdF=>cond (!dF.2) (some (.inr (.inr ([],false)))) (B_ (jK dk.1) λ_=>B_ (AV dF.1 dk.1) λeJ=>cond (d_ (eJ<0)) (some (.inl (dF.1,W_ i64 (dk.2+1)))) (some (.inl (dk.1,W_ i64 (dk.2+1)))))) (some (.inr (.inl dk.1)))
def AW(L:al)(bC:al×Int):Option (al×Int⊕al⊕al×Bool):=cond (d_ (bC.2<(L.length:Int))) (B_ (bG ([1,-1]:List Int).length 0) λ_=>B_ (idx [1,-1] (((0:Int).toNat:Nat):Int)) λbJ=>B_ (rH L bC.2 bJ) λcw=>cond (!cw.2) (some (.inr (.inr ([],false)))) (B_ (jK bC.1) λ_=>B_ (AV cw.1 bC.1) λdx=>cond (d_ (dx<0)) (B_ (aU (vY L bC) (cw.1,W_ i64 (0+1))) λfa=>match fa with|.inl dS=>some (.inl (dS,W_ i64 (bC.2+1)))|.inr eM=>some (.inr (.inr (eM.1,eM.2)))) (B_ (aU (vY L bC) (bC.1,W_ i64 (0+1))) λlz=>match lz with|.inl k6=>some (.inl (k6,W_ i64 (bC.2+1)))|.inr hS=>some (.inr (.inr (hS.1,hS.2)))))) (some (.inr (.inl bC.1)))
def DU(L:al):Option (al×Bool):=B_ (ki L) λS=>cond (!S) (some ([],false)) (cond (d_ (0<(L.length:Int))) (B_ (bG ([1,-1]:List Int).length 0) λ_=>B_ (idx [1,-1] (((0:Int).toNat:Nat):Int)) λaa=>B_ (rH L 0 aa) λaj=>cond (!aj.2) (some ([],false)) (B_ (aU (VW L) (aj.1,W_ i64 (0+1))) λbe=>match be with|.inl a8=>(B_ (aU (AW L) (a8,W_ i64 (0+1))) λkf=>match kf with|.inl kh=>some (kh,true)|.inr jB=>some (jB.1,jB.2))|.inr bA=>some (bA.1,bA.2))) (some ([],true)))
def VX:a4:=⟨41,[cq],[cs 65,ca],λx=>DU x⟩
def aeE{ae:Prop}:bk ae VX:=uc [] [(5,[]),(8,[])] [lE,aeB,aeD] [⟨5,[(4,cs 65),(15,aZ)],some (0,[(4,cs 65)]),some [(2,cs 65),(3,ca)],false,none⟩,⟨8,[(4,cs 65),(20,aZ)],some (2,[(4,cs 65)]),some [(2,cs 65),(3,ca)],false,none⟩] [] [] ⟨mc,aqt,aqu,trivial⟩ trivial
def aqv(L:al)(S:Int×Int):Option (Int×Int⊕Int):=cond (d_ (S.2<(L.length:Int))) (B_ (idx L S.2) λaa=>B_ (fT .i64 (W_ i64 (S.2+1)) (L.length:Int)) λaj=>B_ (idx L aj) λap=>B_ (lB aa ap) λv5=>some (.inl (W_ i64 (S.1+v5),W_ i64 (S.2+1)))) (some (.inr S.1))
def VY(L:al):Option Int:=B_ (aU (aqv L) (0,0)) λaL=>some aL
def aeF:a4:=⟨197,[cq],[aZ],λx=>VY x⟩
def aqw{ae:Prop}:bk ae aeF:=bm [xS] [cv 3 [(3,aZ),(8,aZ)] 0 [(3,aZ)]] [] ⟨AN,trivial⟩
def nT(L:al):Option Int:=B_ (ki L) λS=>cond (!S) (some (-1)) (B_ (VY L) λaa=>some aa)
def AX:a4:=⟨112,[cq],[aZ],λx=>nT x⟩
def DV{ae:Prop}:bk ae AX:=bm [lE,aeF] [] [] ⟨mc,aqw,trivial⟩
def Oe(L:al)(aa:Int×Int):Option (Int×Int⊕Int):=cond (d_ (aa.2<(L.length:Int))) (B_ (idx L aa.2) λaj=>B_ (fT .i64 (W_ i64 (aa.2+1)) (L.length:Int)) λap=>B_ (idx L ap) λv5=>B_ (nR v5 aj) λaL=>B_ (sU aL) λaK=>some (.inl (W_ i64 (aa.1+aK),W_ i64 (aa.2+1)))) (some (.inr aa.1))
def xT(L:al):Option Int:=B_ (ki L) λS=>cond (!S) (some (-1)) (B_ (aU (Oe L) (0,0)) λbe=>some be)
def IE:a4:=⟨113,[cq],[aZ],λx=>xT x⟩
def Of{ae:Prop}:bk ae IE:=bm [lE,xR,AS] [cv 5 [(3,aZ),(11,aZ)] 0 [(3,aZ)]] [] ⟨mc,AM,DS,trivial⟩
def xU(L:al):Option Int:=B_ (ki L) λS=>cond (!S) (some (-1)) (B_ (nT L) λaa=>B_ (xT L) λaj=>B_ (fV .i64 (W_ i64 (W_ i64 (aa-aj)+2)) 2) λap=>some ap)
def Og:a4:=⟨114,[cq],[aZ],λx=>xU x⟩
def VZ{ae:Prop}:bk ae Og:=bm [lE,AX,IE] [] [] ⟨mc,DV,Of,trivial⟩
def sW(L:al)(av:List Int)(S:Int×Int):Option (Int×Int⊕Int⊕Int):=cond (d_ (S.2<(L.length:Int))) (B_ (idx L S.2) λaa=>B_ (fT .i64 (W_ i64 (S.2+1)) (L.length:Int)) λaj=>B_ (idx L aj) λap=>B_ (ut aa ap av) λv5=>cond (d_ (v5<0)) (some (.inr (.inr (-1)))) (cond (v5==0) (some (.inl (0,W_ i64 (S.2+1)))) (some (.inl (S.1,W_ i64 (S.2+1)))))) (some (.inr (.inl S.1)))
def rI(L:al)(av:List Int):Option Int:=B_ (aU (sW L av) (1,0)) λaL=>match aL with|.inl aK=>some aK|.inr be=>some be
def Oh:a4:=⟨131,[cq,dE],[aZ],λx=>rI x.1 x.2⟩
def V0{ae:Prop}:bk ae Oh:=bm [DL] [⟨3,[(5,aZ),(11,aZ)],some (0,[(5,aZ)]),some [(4,aZ)],false,none⟩] [] ⟨It,trivial⟩
def AY(L:al)(av:List Int):Option Int:=B_ (ki L) λS=>cond (!S) (some (-1)) (B_ (vU av) λaa=>cond (!aa) (some (-1)) (cond ((av.length:Int)!=2) (some (-1)) (B_ (rI L av) λaj=>some aj)))
def V1:a4:=⟨61,[cq,dE],[aZ],λx=>AY x.1 x.2⟩
def aeG{ae:Prop}:bk ae V1:=bm [lE,AL,Oh] [] [] ⟨mc,DJ,V0,trivial⟩
def DW(L:al):Option Bool:=B_ (xU L) λS=>cond (S==1) (B_ (AY L [0,0]) λaa=>some (aa==1)) (some false)
def V2:a4:=⟨109,[cq],[ca],λx=>DW x⟩
def aeH{ae:Prop}:bk ae V2:=bm [Og,V1] [] [] ⟨VZ,aeG,trivial⟩
def Oi(L:al)(av:Int):Option (List Int):=B_ (fT .i64 (W_ i64 (av+1)) (L.length:Int)) λS=>B_ (idx L S) λaa=>B_ (idx L av) λaj=>B_ (nR aa aj) λap=>B_ (sU ap) λv5=>B_ (bG ap.length 1) λ_=>B_ (idx ap (((1:Int).toNat:Nat):Int)) λaL=>B_ (fV .i64 aL v5) λaK=>B_ (bG ap.length 0) λ_=>B_ (idx ap (((0:Int).toNat:Nat):Int)) λbe=>B_ (fV .i64 (W_ i64 (0-be)) v5) λa8=>some [aK,a8]
def aeI:a4:=⟨110,[cq,ey],[cM 3],λx=>Oi x.1 x.2⟩
def aqx{ae:Prop}:bk ae aeI:=bm [xR,AS] [] [cr 1 0,cr 3 0] ⟨AM,DS,trivial⟩
def AZ(L:List Int)(av:List Int)(S:Int×Int):Option (Int×Int⊕Int):=cond (d_ (S.2<(L.length:Int))) (B_ (idx L S.2) λaa=>B_ (idx av S.2) λaj=>some (.inl (W_ i64 (S.1+W_ i64 (aa*aj)),W_ i64 (S.2+1)))) (some (.inr S.1))
def lF(L:List Int)(av:List Int):Option Int:=B_ (aU (AZ L av) (0,0)) λap=>some ap
def xV:a4:=⟨111,[dE,dE],[aZ],λx=>lF x.1 x.2⟩
def A0{ae:Prop}:bk ae xV:=bm [] [cv 3 [(5,aZ),(9,aZ)] 0 [(5,aZ)]] [cr 5 0] trivial
def Oj(L:al)(aa:al×Int):Option (al×Int⊕al⊕al×Bool):=cond (d_ (aa.2<(L.length:Int))) (B_ (idx L aa.2) λaj=>B_ (Oi L aa.2) λap=>B_ (lF ap aj) λv5=>cond (v5 !=1) (some (.inr (.inr ([],false)))) (B_ (bI 24 aa.1 [ap]) λaL=>some (.inl (aL,W_ i64 (aa.2+1))))) (some (.inr (.inl aa.1)))
def DX(L:al):Option (al×Bool):=B_ (DW L) λS=>cond (!S) (some ([],false)) (B_ (aU (Oj L) ([],0)) λaK=>match aK with|.inl be=>B_ (vX be) λbA=>some (bA.1,bA.2)|.inr a8=>some (a8.1,a8.2))
def V3:a4:=⟨42,[cq],[cs 65,ca],λx=>DX x⟩
def aeJ{ae:Prop}:bk ae V3:=bm [V2,aeI,xV,DR] [⟨5,[(4,cs 65),(13,aZ)],some (0,[(4,cs 65)]),some [(2,cs 65),(3,ca)],false,none⟩] [] ⟨aeH,aqx,A0,IA,trivial⟩
def IF(av:al)(ap:List Int)(v5:al×Int):Option (al×Int⊕al):=cond (d_ (v5.2<(av.length:Int))) (B_ (idx av v5.2) λaL=>B_ (idx ap 0) λaK=>B_ (idx aL 0) λbe=>B_ (idx ap 1) λa8=>B_ (idx aL 1) λbA=>B_ (bI 24 v5.1 [[W_ i64 (aK+be),W_ i64 (a8+bA)]]) λbC=>some (.inl (bC,W_ i64 (v5.2+1)))) (some (.inr v5.1))
def Ol(L:al)(av:al)(aj:al×Int):Option (al×Int⊕al):=cond (d_ (aj.2<(L.length:Int))) (B_ (idx L aj.2) λap=>B_ (aU (IF av ap) (aj.1,0)) λbJ=>some (.inl (bJ,W_ i64 (aj.2+1)))) (some (.inr aj.1))
def IG(L:al)(av:al):Option (al×Bool):=B_ (ki L) λS=>cond (!S) (some ([],false)) (B_ (ki av) λaa=>cond (!aa) (some ([],false)) (B_ (aU (Ol L av) ([],0)) λcw=>B_ (vX cw) λdx=>some (dx.1,dx.2)))
def V4:a4:=⟨43,[cq,cq],[cs 65,ca],λx=>IG x.1 x.2⟩
def aeK{ae:Prop}:bk ae V4:=bm [lE,DR] [cv 5 [(6,cs 65),(21,aZ)] 0 [(6,cs 65)],cv 8 [(6,cs 65),(27,aZ)] 2 [(6,cs 65)]] [cr 10 0] ⟨mc,IA,trivial⟩
def Om(L:al)(av:Int):Option Int:=B_ (xT L) λS=>B_ (nT L) λaa=>B_ (fV .i64 (W_ i64 (W_ i64 (2+W_ i64 (S*av))+W_ i64 (W_ i64 (aa*av)*av))) 2) λaj=>some aj
def aeL:a4:=⟨129,[cq,ey],[aZ],λx=>Om x.1 x.2⟩
def aqy{ae:Prop}:bk ae aeL:=bm [IE,AX] [] [] ⟨Of,DV,trivial⟩
def xW(L:al)(av:Int):Option Int:=B_ (ki L) λS=>cond (!S) (some (-1)) (B_ (m7 av (-1000) 1000) λaa=>cond (!aa) (some (-1)) (B_ (Om L av) λaj=>some aj))
def On:a4:=⟨60,[cq,ey],[aZ],λx=>xW x.1 x.2⟩
def V5{ae:Prop}:bk ae On:=bm [lE,qz,aeL] [] [] ⟨mc,rE,aqy,trivial⟩
def Oo(L:al):Option (List Int):=B_ (ki L) λS=>cond (!S) (some []) (B_ (xW L 1) λaa=>B_ (xU L) λaj=>some [1,W_ i64 (aa-3),aj])
def aeM:a4:=⟨115,[cq],[cM 3],λx=>Oo x⟩
def aqz{ae:Prop}:bk ae aeM:=bm [lE,On,Og] [] [] ⟨mc,V5,VZ,trivial⟩
def IH(av:List Int)(S:al×Int)(aj:List Int)(v5:al×Int):Option (al×Int⊕al):=B_ (idx av S.2) λaL=>cond (d_ (v5.2<=aL)) (B_ (ou aj) λaK=>B_ (bI 8 aK [v5.2]) λbe=>B_ (bI 24 v5.1 [be]) λa8=>some (.inl (a8,W_ i64 (v5.2+1)))) (some (.inr v5.1))
def II(L:List Int)(av:List Int)(S:al×Int)(aa:al×Int):Option (al×Int⊕al):=cond (d_ (aa.2<(S.1.length:Int))) (B_ (idx S.1 aa.2) λaj=>B_ (idx L S.2) λap=>B_ (aU (IH av S aj) (aa.1,ap)) λbA=>some (.inl (bA,W_ i64 (aa.2+1)))) (some (.inr aa.1))
def Oq(L:List Int)(av:List Int)(S:al×Int):Option (al×Int⊕al):=cond (d_ (S.2<(L.length:Int))) (B_ (aU (II L av S) ([],0)) λbC=>some (.inl (bC,W_ i64 (S.2+1)))) (some (.inr S.1))
def vZ(L:List Int)(av:List Int):Option al:=B_ (aU (Oq L av) ([[]],0)) λbJ=>some bJ
def IJ:a4:=⟨200,[dE,dE],[cs 65],λx=>vZ x.1 x.2⟩
def Ot{ae:Prop}:bk ae IJ:=bm [vR] [cv 3 [(5,cs 65),(14,aZ)] 0 [(5,cs 65)],cv 7 [(7,cs 65),(19,aZ)] 2 [(7,cs 65)],cv 10 [(7,cs 65),(10,aZ)] 4 [(7,cs 65)]] [] ⟨xQ,trivial⟩
def Ou(S:al)(aa:al×Int):Option (al×Int⊕al):=cond (d_ (aa.2<(S.length:Int))) (B_ (idx S aa.2) λaj=>B_ (idx aj 0) λap=>cond (d_ (ap>0)) (B_ (bI 24 aa.1 [aj]) λv5=>some (.inl (v5,W_ i64 (aa.2+1)))) (B_ (idx aj 1) λaL=>cond (d_ (aL>0)) (B_ (bI 24 aa.1 [aj]) λaK=>some (.inl (aK,W_ i64 (aa.2+1)))) (some (.inl (aa.1,W_ i64 (aa.2+1)))))) (some (.inr aa.1))
def IK:Option al:=B_ (vZ [0,-12] [12,12]) λS=>B_ (aU (Ou S) ([],0)) λbe=>some be
def V6:a4:=⟨120,[],[.l (.o false 65 bF)],λx=>IK⟩
def aeN{ae:Prop}:bk ae V6:=bm [IJ] [cv 3 [(1,.l (.o false 65 bF)),(8,aZ)] 0 [(1,.l (.o false 65 bF))]] [] ⟨Ot,trivial⟩
def Ov(L:al)(av:List Int)(aj:Int×Int):Option (Int×Int⊕Int):=cond (d_ (aj.2<(L.length:Int))) (B_ (idx L aj.2) λap=>B_ (lF av ap) λv5=>some (.inl (if v5>aj.1 then v5 else aj.1,W_ i64 (aj.2+1)))) (some (.inr aj.1))
def DY(L:al)(av:List Int):Option Int:=B_ (idx L 0) λS=>B_ (lF av S) λaa=>B_ (aU (Ov L av) (aa,0)) λaL=>some aL
def V7:a4:=⟨134,[cq,dE],[aZ],λx=>DY x.1 x.2⟩
def aeO{ae:Prop}:bk ae V7:=bm [xV] [cv 3 [(5,aZ),(15,aZ)] 0 [(5,aZ)]] [] ⟨A0,trivial⟩
def ow(L:al)(av:List Int):Option Int:=B_ (ki L) λS=>cond (!S) (some (-1)) (B_ (vU av) λaa=>cond (!aa) (some (-1)) (cond ((av.length:Int)!=2) (some (-1)) (B_ (DY L av) λaj=>B_ (idx av 0) λap=>B_ (idx av 1) λv5=>B_ (DY L [W_ i64 (0-ap),W_ i64 (0-v5)]) λaL=>some (W_ i64 (aj+aL)))))
def Ow:a4:=⟨121,[cq,dE],[aZ],λx=>ow x.1 x.2⟩
def V8{ae:Prop}:bk ae Ow:=bm [lE,AL,V7] [] [cr 3 0] ⟨mc,DJ,aeO,trivial⟩
def DZ(L:al)(S:al)(aa:Int×Int):Option (Int×Int⊕Int):=cond (d_ (aa.2<(S.length:Int))) (B_ (idx S aa.2) λaj=>B_ (ow L aj) λap=>cond (d_ (aa.1<0)) (some (.inl (ap,W_ i64 (aa.2+1)))) (cond (d_ (ap<aa.1)) (some (.inl (ap,W_ i64 (aa.2+1)))) (some (.inl (aa.1,W_ i64 (aa.2+1)))))) (some (.inr aa.1))
def rJ(L:al):Option Int:=B_ IK λS=>B_ (aU (DZ L S) (-1,0)) λv5=>some v5
def Ox:a4:=⟨47,[cq],[aZ],λx=>rJ x⟩
def V9{ae:Prop}:bk ae Ox:=bm [V6,Ow] [cv 3 [(3,aZ),(9,aZ)] 0 [(3,aZ)]] [] ⟨aeN,V8,trivial⟩
def xX(L:List Int×List Int):Option Bool:=B_ (vV L.1 30) λS=>cond S (B_ (vV L.2 30) λaa=>cond aa (B_ (sU L.1) λaj=>cond (aj==1) (B_ (sU L.2) λap=>cond (ap==1) (B_ (lB L.1 L.2) λv5=>some (d_ (v5>0))) (some false)) (some false)) (some false)) (some false)
def IL:a4:=⟨68,[.d false (.prod bF bF)],[ca],λx=>xX x⟩
def Oy{ae:Prop}:bk ae IL:=bm [DK,AS,xS] [] [] ⟨Is,DS,AN,trivial⟩
def D0(L:al)(av:Int):Option ((List Int×List Int)×Bool):=B_ (ki L) λS=>cond (!S) (some (([],[]),false)) (B_ (m7 av 0 (W_ i64 ((L.length:Int)-1))) λaa=>cond (!aa) (some (([],[]),false)) (B_ (fT .i64 (W_ i64 (av+1)) (L.length:Int)) λaj=>B_ (idx L aj) λap=>B_ (idx L av) λv5=>B_ (nR ap v5) λaL=>B_ (AT aL) λaK=>B_ (fT .i64 (W_ i64 (W_ i64 (av+(L.length:Int))-1)) (L.length:Int)) λbe=>B_ (idx L be) λa8=>B_ (idx L av) λbA=>B_ (nR a8 bA) λbC=>B_ (AT bC) λbJ=>B_ (xX (aK.1,bJ.1)) λcw=>cond (!cw) (some (([],[]),false)) (some ((aK.1,bJ.1),true))))
def Wa:a4:=⟨122,[cq,ey],[.a [.o true 3 bH,.o true 3 bH],ca],λx=>D0 x.1 x.2⟩
def aeP{ae:Prop}:bk ae Wa:=bm [lE,qz,xR,VR,IL] [] [cr 4 0,cr 5 0] ⟨mc,rE,AM,aey,Oy,trivial⟩
def rK(L:List Int×List Int):Option Int:=B_ (xX (L.1,L.2)) λS=>cond (!S) (some 0) (B_ (lB L.1 L.2) λaa=>some aa)
def We:a4:=⟨123,[.d false (.prod bF bF)],[aZ],λx=>rK x⟩
def aeQ{ae:Prop}:bk ae We:=bm [IL,xS] [] [] ⟨Oy,AN,trivial⟩
def D1(L:al)(aa:Int×Int):Option (Int×Int⊕Int⊕Int):=cond (d_ (aa.2<(L.length:Int))) (B_ (D0 L aa.2) λaj=>cond (!aj.2) (some (.inr (.inr (-1)))) (B_ (rK (aj.1.1,aj.1.2)) λap=>cond (ap==1) (some (.inl (W_ i64 (aa.1+1),W_ i64 (aa.2+1)))) (some (.inl (aa.1,W_ i64 (aa.2+1)))))) (some (.inr (.inl aa.1)))
def D2(L:al):Option Int:=B_ (ki L) λS=>cond (!S) (some (-1)) (B_ (aU (D1 L) (0,0)) λv5=>match v5 with|.inl aL=>some aL|.inr aK=>some aK)
def aeR:a4:=⟨116,[cq],[aZ],λx=>D2 x⟩
def aqA{ae:Prop}:bk ae aeR:=bm [lE,Wa,We] [⟨5,[(3,aZ),(12,aZ)],some (0,[(3,aZ)]),some [(2,aZ)],false,none⟩] [] ⟨mc,aeP,aeQ,trivial⟩
def Wf(L:List Int)(av:List Int)(S:Int):Option (Int⊕Unit⊕Bool):=cond (d_ (S<(L.length:Int))) (B_ (idx L S) λaa=>B_ (idx av S) λaj=>cond (aa !=aj) (some (.inr (.inr false))) (some (.inl (W_ i64 (S+1))))) (some (.inr (.inl ())))
def A1(L:List Int)(av:List Int):Option Bool:=cond ((L.length:Int)!=(av.length:Int)) (some false) (B_ (aU (Wf L av) 0) λap=>match ap with|.inl v5=>some true|.inr aL=>some aL)
def Oz:a4:=⟨165,[dE,dE],[ca],λx=>A1 x.1 x.2⟩
def Wg{ae:Prop}:bk ae Oz:=bm [] [⟨4,[(13,aZ)],some (0,[]),some [(4,ca)],false,none⟩] [cr 6 0] trivial
def OA(L:al)(S:al×Bool)(aa:Int):Option (Int⊕Unit⊕Bool):=cond (d_ (aa<(L.length:Int))) (B_ (idx L aa) λaj=>B_ (idx S.1 aa) λap=>B_ (nR aj ap) λv5=>B_ (idx L 0) λaL=>B_ (idx S.1 0) λaK=>B_ (nR aL aK) λbe=>B_ (A1 v5 be) λa8=>cond (!a8) (some (.inr (.inr false))) (some (.inl (W_ i64 (aa+1))))) (some (.inr (.inl ())))
def D4(L:al):Option Bool:=B_ (IB L) λS=>cond (!S.2) (some false) (B_ (aU (OA L S) 0) λbA=>match bA with|.inl bC=>some true|.inr bJ=>some bJ)
def aeS:a4:=⟨117,[cq],[ca],λx=>D4 x⟩
def aqB{ae:Prop}:bk ae aeS:=bm [VN,xR,Oz] [⟨5,[(16,aZ)],some (0,[]),some [(2,ca)],false,none⟩] [cr 7 0] ⟨aeu,AM,Wg,trivial⟩
def OB(L:al):Option ByteArray:=B_ (ki L) λS=>cond (!S) (some ⟨#[]⟩) (B_ (nT L) λaa=>B_ (k7 aa) λaj=>B_ (ft ⟨#[97,114,101,97,32]⟩ aj) λap=>B_ (ft ap ⟨#[32,98,111,117,110,100,97,114,121,32]⟩) λv5=>B_ (xT L) λaL=>B_ (k7 aL) λaK=>B_ (ft v5 aK) λbe=>B_ (ft be ⟨#[32,105,110,110,101,114,32]⟩) λa8=>B_ (xU L) λbA=>B_ (k7 bA) λbC=>B_ (ft a8 bC) λbJ=>B_ (xW L 1) λcw=>B_ (k7 cw) λdx=>B_ (ft ⟨#[32,112,111,105,110,116,115,32]⟩ dx) λdk=>B_ (ft dk ⟨#[32,116,111,112,32]⟩) λep=>B_ (Oo L) λdF=>B_ (rG dF) λeJ=>B_ (ft ep eJ) λfa=>B_ (ft fa ⟨#[32,119,105,100,116,104,32]⟩) λdS=>B_ (rJ L) λeM=>B_ (k7 eM) λhl=>B_ (ft dS hl) λhQ=>B_ (ft hQ ⟨#[32,115,109,111,111,116,104,32]⟩) λhR=>B_ (D2 L) λjr=>B_ (k7 jr) λlz=>B_ (ft hR lz) λk6=>B_ (ft bJ k6) λhS=>B_ (DW L) λkf=>cond kf (B_ (ft hS ⟨#[32,114,101,102,108,101,120,105,118,101]⟩) λkh=>B_ (D4 L) λjB=>cond jB (B_ (ft kh ⟨#[32,115,121,109,109,101,116,114,105,99]⟩) λvN=>some vN) (some kh)) (B_ (ft hS ⟨#[32,111,116,104,101,114]⟩) λun=>B_ (D4 L) λuo=>cond uo (B_ (ft un ⟨#[32,115,121,109,109,101,116,114,105,99]⟩) λm6=>some m6) (some un)))
def aeT:a4:=⟨44,[cq],[gN],λx=>OB x⟩
def aqC:bk False aeT:=bm [lE,AX,Iw,IE,Og,On,aeM,DP,Ox,aeR,V2,aeS] [] [] ⟨mc,DV,N4,Of,VZ,V5,aqz,Ix,V9,aqA,aeH,aqB,trivial⟩
def IM(v5:List Int×List Int×Int)(aL:List Int)(aK:List Int×List Int×Int):Option (List Int×List Int×Int⊕List Int×List Int):=cond (d_ (aK.2.2<(v5.1.length:Int))) (B_ (bG aK.1.length aK.2.2) λ_=>B_ (idx aK.1 ((aK.2.2.toNat:Nat):Int)) λbe=>B_ (idx aL aK.2.2) λa8=>B_ (bG aK.2.1.length aK.2.2) λ_=>B_ (idx aK.2.1 ((aK.2.2.toNat:Nat):Int)) λbA=>B_ (idx aL aK.2.2) λbC=>B_ (bG aK.1.length aK.2.2) λ_=>B_ (bG aK.1.length ((aK.2.2.toNat:Nat):Int)) λ_=>B_ (bG aK.2.1.length aK.2.2) λ_=>B_ (bG aK.2.1.length ((aK.2.2.toNat:Nat):Int)) λ_=>some (.inl (aK.1.set aK.2.2.toNat (if a8<be then a8 else be),(aK.2.1.set aK.2.2.toNat (if bC>bA then bC else bA),W_ i64 (aK.2.2+1))))) (some (.inr (aK.1,aK.2.1)))
def D5(L:al)(v5:List Int×List Int×Int):Option (List Int×List Int×Int⊕List Int×List Int):=cond (d_ (v5.2.2<(L.length:Int))) (B_ (idx L v5.2.2) λaL=>B_ (aU (IM v5 aL) (v5.1,(v5.2.1,0))) λbJ=>some (.inl (bJ.1,(bJ.2,W_ i64 (v5.2.2+1))))) (some (.inr (v5.1,v5.2.1)))
def A2(L:al)(hQ:List Int)(jr:Int):Option (Int⊕Unit⊕Int):=cond (d_ (jr<(L.length:Int))) (B_ (idx L jr) λlz=>B_ (A1 lz hQ) λk6=>cond k6 (some (.inr (.inr jr))) (some (.inl (W_ i64 (jr+1))))) (some (.inr (.inl ())))
def aeU(L:al)(eJ:List Int)(fa:List Int)(dS:List Int)(eM:al)(hl:Int):Option (Int⊕Unit⊕List Int):=cond (d_ (hl<(eM.length:Int))) (B_ (idx eM hl) λhQ=>B_ (rI [eJ,fa,dS] hQ) λhR=>cond (d_ (hR>=0)) (B_ (aU (A2 L hQ) 0) λhS=>match hS with|.inl kf=>cond (!d_ (-1>=0)) (some (.inr (.inr hQ))) (some (.inl (W_ i64 (hl+1))))|.inr kh=>cond (!d_ (kh>=0)) (some (.inr (.inr hQ))) (some (.inl (W_ i64 (hl+1))))) (some (.inl (W_ i64 (hl+1))))) (some (.inr (.inl ())))
def aqD(L:al)(qA:List Int)(D6:Int):Option (Int⊕Unit⊕Int):=cond (d_ (D6<(L.length:Int))) (B_ (idx L D6) λIN=>B_ (A1 IN qA) λWh=>cond Wh (some (.inr (.inr D6))) (some (.inl (W_ i64 (D6+1))))) (some (.inr (.inl ())))
def aeV(L:al)(uo:al)(m6:Int):Option (Int⊕Unit⊕List Int):=cond (d_ (m6<(uo.length:Int))) (B_ (idx uo m6) λqA=>B_ (rI L qA) λuv=>cond (d_ (uv>=0)) (B_ (aU (aqD L qA) 0) λIP=>match IP with|.inl IQ=>cond (!d_ (-1>=0)) (some (.inr (.inr qA))) (some (.inl (W_ i64 (m6+1))))|.inr IR=>cond (!d_ (IR>=0)) (some (.inr (.inr qA))) (some (.inl (W_ i64 (m6+1))))) (some (.inl (W_ i64 (m6+1))))) (some (.inr (.inl ())))
def OC(L:al):Option (List Int):=B_ (idx L 0) λS=>B_ (ou S) λaa=>B_ (idx L 0) λaj=>B_ (ou aj) λap=>B_ (aU (D5 L) (aa,(ap,0))) λcw=>B_ (idx L 0) λdx=>B_ (idx L 1) λdk=>B_ (idx L 2) λep=>B_ (ut dx dk ep) λdF=>cond (d_ (dF<0)) (B_ (idx L 0) λeJ=>B_ (idx L 2) λfa=>B_ (idx L 1) λdS=>B_ (vZ cw.1 cw.2) λeM=>B_ (aU (aeU L eJ fa dS eM) 0) λjB=>match jB with|.inl vN=>some []|.inr un=>B_ (jK un) λ_=>some un) (B_ (vZ cw.1 cw.2) λuo=>B_ (aU (aeV L uo) 0) λWi=>match Wi with|.inl OD=>some []|.inr OE=>B_ (jK OE) λ_=>some OE)
def aeW:a4:=⟨250,[cq],[.l (.d true bF)],λx=>OC x⟩
noncomputable def aeX:da:=⟨Tryz.prog,oq,[Oz],[],[],[],[],[]⟩
def Wj:mg:=⟨312,true,nu aeX Tryz.f312⟩
def aqE{ae:Prop}:eZ Tryz.prog Wj.f/\kM ae Tryz.prog Wj:=abR (N:=aeX) o6 ⟨Wg,trivial⟩ func312 (by kernel_rfl) (by kernel_rfl) rfl
noncomputable def aeY:da:=⟨Tryz.prog,oq,[],[⟨2,[(8,aZ)],some (0,[]),some [(4,aZ)],false,none⟩],[],[Wj],[],[]⟩
def Wk:mg:=⟨344,true,CR (nu aeY Tryz.f344)⟩
def aqF{ae:Prop}:eZ Tryz.prog Wk.f/\kM ae Tryz.prog Wk:=anP (N:=aeY) o6 trivial func344 (by kernel_rfl) ⟨aqE,trivial⟩
noncomputable def aeZ:da:=⟨Tryz.prog,oq,[],[],[],[Wk],[],[]⟩
def Wl:mg:=⟨311,false,nu aeZ Tryz.f311⟩
def aqG{ae:Prop}:eZ Tryz.prog Wl.f/\kM ae Tryz.prog Wl:=GR (N:=aeZ) o6 trivial func311 (by kernel_rfl) ⟨aqF,trivial⟩
def aqI{ae:Prop}:bk ae aeW:=uc [] [(8,[0,1,2,3,4,5,8,9,13,14,17,18,6,7,10,11,12,15,16,19,20,21,22,23,24,25])] [vR,DL,IJ,Oh] [cv 3 [(3,cM 3),(4,cM 3),(21,aZ)] 0 [(3,cM 3),(4,cM 3)],cv 6 [(3,cM 3),(4,cM 3),(27,aZ)] 2 [(3,cM 3),(4,cM 3)],⟨15,[(82,aZ)],some (4,[]),some [(2,vC)],false,none⟩] [cr 1 0,cr 8 0,cr 12 0,cr 13 0] [Wl] ⟨xQ,It,Ot,V0,trivial⟩ ⟨aqG,trivial⟩
def OF(rec:al->Option (List al))(L:al)(S:List Int)(aj:List al×Int):Option (List al×Int⊕List al):=cond (d_ (aj.2<(L.length:Int))) (B_ (idx L aj.2) λap=>B_ (fT .i64 (W_ i64 (aj.2+1)) 3) λv5=>B_ (idx L v5) λaL=>B_ (ut S ap aL) λaK=>cond (aK !=0) (B_ (rec [S,ap,aL]) λbe=>B_ (bI 24 aj.1 be) λa8=>some (.inl (a8,W_ i64 (aj.2+1)))) (some (.inl (aj.1,W_ i64 (aj.2+1))))) (some (.inr aj.1))
def IS(rec:al->Option (List al))(L:al):Option (List al):=B_ (OC L) λS=>cond S.isEmpty (B_ (ov L) λaa=>some [aa]) (B_ (aU (OF rec L S) ([],0)) λbA=>some bA)
def v0:Nat->al->Option (List al)|0=>λ_=>none|n+1=>IS (v0 n)
def Wn(L:al):Option (List al):=v0 30000 L
def Wo:a4:=⟨199,[cq],[.l (.o true 24 fN)],λx=>Wn x⟩
def sX(rec:al->Option (List al)):a4:=⟨199,[.d false fN],[.l (.o true 24 fN)],λx=>rec x⟩
def ae0(rec:al->Option (List al)):da:=⟨Tryz.prog,oq,[aeW,AK,DL,sX rec],[cv 6 [(4,.l (.o true 24 fN)),(17,aZ)] 0 [(4,.l (.o true 24 fN))]],[cr 8 0],[],[],[]⟩
def aqJ(rec:al->Option (List al))(x:i1.den (sX rec).ps):wJ (ae0 rec) Tryz.f199 (sX rec).ps (sX rec).rs x=(sX (IS rec)).F x:=by kernel_rfl
def aqK{ae:Prop}(rec:al->Option (List al))(c:eZ Tryz.prog (sX rec).f/\gg ae Tryz.prog (sX rec)):eZ Tryz.prog (sX (IS rec)).f/\gg ae Tryz.prog (sX (IS rec)):=GS (N:=ae0 rec) o6 ⟨aqI,DG,It,c,trivial⟩ func199 (by kernel_rfl) (aqJ rec)
def ae1{ae:Prop}:(n:Nat)->eZ Tryz.prog (sX (v0 n)).f/\gg ae Tryz.prog (sX (v0 n))|0=>⟨⟨Tryz.f199,_,func199,by kernel_rfl,rfl⟩,λx u c=>by cases c⟩|n+1=>aqK _ (ae1 n)
def aqL{ae:Prop}:eZ Tryz.prog Wo.f/\gg ae Tryz.prog Wo:=ae1 30000
def OG(L:al)(aj:List al×Int):Option (List al×Int⊕List al):=cond (d_ (W_ i64 (aj.2+1)<(L.length:Int))) (B_ (idx L 0) λap=>B_ (idx L aj.2) λv5=>B_ (idx L (W_ i64 (aj.2+1))) λaL=>B_ (Wn [ap,v5,aL]) λaK=>B_ (bI 24 aj.1 aK) λbe=>some (.inl (be,W_ i64 (aj.2+1)))) (some (.inr aj.1))
def OH(L:al):Option (List al):=B_ (ki L) λS=>cond (!S) (some []) (B_ (nT L) λaa=>cond (d_ (aa>200)) (some []) (B_ (aU (OG L) ([],1)) λa8=>B_ (jK a8) λ_=>some a8))
def ae2:a4:=⟨119,[cq],[.l (.d true (.list fN))],λx=>OH x⟩
def aqM{ae:Prop}:bk ae ae2:=bm [lE,AX,Wo] [cv 5 [(3,.l (.o true 24 fN)),(4,aZ)] 0 [(3,.l (.o true 24 fN))]] [cr 7 0] ⟨mc,DV,aqL,trivial⟩
def OI(L:al):Option Int:=B_ (OH L) λS=>cond S.isEmpty (some (-1)) (some (S.length:Int))
def ae3:a4:=⟨46,[cq],[aZ],λx=>OI x⟩
def aqN{ae:Prop}:bk ae ae3:=bm [ae2] [] [] ⟨aqM,trivial⟩
def OJ(L:al)(S:Int)(aa:al)(aj:al×Int):Option (al×Int⊕al):=cond (d_ (aj.2<(aa.length:Int))) (B_ (idx aa aj.2) λap=>B_ (ow L ap) λv5=>cond (v5==S) (B_ (bI 24 aj.1 [ap]) λaL=>some (.inl (aL,W_ i64 (aj.2+1)))) (some (.inl (aj.1,W_ i64 (aj.2+1))))) (some (.inr aj.1))
def A3(L:al):Option al:=B_ (rJ L) λS=>cond (d_ (S<0)) (some []) (B_ IK λaa=>B_ (aU (OJ L S aa) ([],0)) λaK=>some aK)
def ae4:a4:=⟨50,[cq],[.l (.o false 65 bF)],λx=>A3 x⟩
def aqO{ae:Prop}:bk ae ae4:=bm [Ox,V6,Ow] [cv 6 [(4,.l (.o false 65 bF)),(13,aZ)] 0 [(4,.l (.o false 65 bF))]] [] ⟨V9,aeN,V8,trivial⟩
def IT(L:al)(S:List ByteArray×Int):Option (List ByteArray×Int⊕List ByteArray):=cond (d_ (S.2<(L.length:Int))) (B_ (idx L S.2) λaa=>B_ (Iy aa) λaj=>B_ (bI 16 S.1 [aj]) λap=>some (.inl (ap,W_ i64 (S.2+1)))) (some (.inr S.1))
def D7(L:al):Option ByteArray:=B_ (aU (IT L) ([],0)) λv5=>B_ (sT v5 ⟨#[32]⟩) λaL=>some aL
def ae5:a4:=⟨49,[cq],[gN],λx=>D7 x⟩
def aqP:bk False ae5:=bm [VJ,Io] [cv 3 [(3,jc 9),(8,aZ)] 0 [(3,jc 9)]] [] ⟨aer,N0,trivial⟩
def sY(L:ByteArray)(av:ByteArray):Option ByteArray:=cond (L.toList==(⟨#[]⟩:ByteArray).toList) (some av) (some L)
def Wp:a4:=⟨48,[iW,iW],[gN],λx=>sY x.1 x.2⟩
def ae6{ae:Prop}:bk ae Wp:=bm [] [] [] trivial
def A4(L:al)(S:List Int×Int):Option (List Int×Int⊕List Int⊕ByteArray):=cond (d_ (S.2<(L.length:Int))) (B_ (D0 L S.2) λaa=>cond (!aa.2) (some (.inr (.inr ⟨#[110,111]⟩))) (B_ (rK (aa.1.1,aa.1.2)) λaj=>B_ (bI 8 S.1 [aj]) λap=>some (.inl (ap,W_ i64 (S.2+1))))) (some (.inr (.inl S.1)))
def OK(L:al):Option ByteArray:=B_ (aU (A4 L) ([],0)) λv5=>match v5 with|.inl aL=>B_ (rG aL) λbe=>B_ (sY be ⟨#[110,111]⟩) λa8=>some a8|.inr aK=>some aK
def ae7:a4:=⟨51,[cq],[gN],λx=>OK x⟩
def aqQ:bk False ae7:=bm [Wa,We,DP,Wp] [⟨3,[(3,cM 3),(9,aZ)],some (0,[(3,cM 3)]),some [(2,gN)],false,none⟩] [] ⟨aeP,aeQ,Ix,ae6,trivial⟩
def D8(L:al)(av:al):Option Int:=B_ (IG L av) λS=>cond (!S.2) (some (-1)) (B_ (nT S.1) λaa=>B_ (nT L) λaj=>B_ (nT av) λap=>some (W_ i64 (W_ i64 (aa-aj)-ap)))
def ae8:a4:=⟨52,[cq,cq],[aZ],λx=>D8 x.1 x.2⟩
def aqR{ae:Prop}:bk ae ae8:=bm [V4,AX] [] [] ⟨aeK,DV,trivial⟩
def Wq(L:al)(av:al)(S:Int):Option (Int⊕Unit⊕Bool):=cond (d_ (S<(L.length:Int))) (B_ (idx L S) λaa=>B_ (idx av S) λaj=>B_ (A1 aa aj) λap=>cond (!ap) (some (.inr (.inr false))) (some (.inl (W_ i64 (S+1))))) (some (.inr (.inl ())))
def OL(L:al)(av:al):Option Bool:=cond ((L.length:Int)!=(av.length:Int)) (some false) (B_ (aU (Wq L av) 0) λv5=>match v5 with|.inl aL=>some true|.inr aK=>some aK)
def ae9:a4:=⟨164,[cq,cq,.f 165],[ca],λx=>OL x.1 x.2.1⟩
def aqS{ae:Prop}:bk ae ae9:=bm [Oz] [⟨4,[(17,aZ)],some (0,[]),some [(6,ca)],false,none⟩] [] ⟨Wg,trivial⟩
def Wr(L:al)(av:al):Option Bool:=B_ (OL L av) λS=>some S
def afa:a4:=⟨78,[cq,cq],[ca],λx=>Wr x.1 x.2⟩
def aqT{ae:Prop}:bk ae afa:=bm [ae9] [] [] ⟨aqS,trivial⟩
def OM(L:al)(av:al):Option Bool:=B_ (DU L) λS=>B_ (DU av) λaa=>cond S.2 (cond aa.2 (B_ (Wr S.1 aa.1) λaj=>some aj) (some false)) (some false)
def afb:a4:=⟨53,[cq,cq],[ca],λx=>OM x.1 x.2⟩
def aqU{ae:Prop}:bk ae afb:=bm [VX,afa] [] [] ⟨aeE,aqT,trivial⟩
def D9(L:al):Option Int:=B_ (DX L) λS=>cond (!S.2) (some (-1)) (B_ (xT L) λaa=>B_ (xT S.1) λaj=>some (W_ i64 (aa+aj)))
def afc:a4:=⟨54,[cq],[aZ],λx=>D9 x⟩
def aqV{ae:Prop}:bk ae afc:=bm [V3,IE] [] [] ⟨aeJ,Of,trivial⟩
def IU(L:Int):Option ByteArray:=B_ (m7 L 1 (([⟨#[48,44,48,32,49,44,48,32,48,44,49]⟩,⟨#[48,44,48,32,50,44,48,32,48,44,50]⟩,⟨#[45,49,44,45,49,32,49,44,45,49,32,49,44,49,32,45,49,44,49]⟩,⟨#[48,44,48,32,51,44,48,32,49,44,50]⟩,⟨#[45,49,44,45,49,32,50,44,45,49,32,45,49,44,50]⟩,⟨#[48,44,48,32,53,44,50,32,51,44,52]⟩]:List ByteArray).length:Int)) λS=>cond (!S) (some ⟨#[]⟩) (B_ (bG ([⟨#[48,44,48,32,49,44,48,32,48,44,49]⟩,⟨#[48,44,48,32,50,44,48,32,48,44,50]⟩,⟨#[45,49,44,45,49,32,49,44,45,49,32,49,44,49,32,45,49,44,49]⟩,⟨#[48,44,48,32,51,44,48,32,49,44,50]⟩,⟨#[45,49,44,45,49,32,50,44,45,49,32,45,49,44,50]⟩,⟨#[48,44,48,32,53,44,50,32,51,44,52]⟩]:List ByteArray).length (W_ i64 (L-1))) λ_=>B_ (idx [⟨#[48,44,48,32,49,44,48,32,48,44,49]⟩,⟨#[48,44,48,32,50,44,48,32,48,44,50]⟩,⟨#[45,49,44,45,49,32,49,44,45,49,32,49,44,49,32,45,49,44,49]⟩,⟨#[48,44,48,32,51,44,48,32,49,44,50]⟩,⟨#[45,49,44,45,49,32,50,44,45,49,32,45,49,44,50]⟩,⟨#[48,44,48,32,53,44,50,32,51,44,52]⟩] (((W_ i64 (L-(1:Int))).toNat:Nat):Int)) λaa=>some aa)
def afd:a4:=⟨127,[ey],[gN],λx=>IU x⟩
def aqW{ae:Prop}:bk ae afd:=bm [qz] [] [] ⟨rE,trivial⟩
def IV(L:Int):Option (al×Bool):=B_ (IU L) λS=>B_ (DO S) λaa=>some (aa.1,aa.2)
def Ws:a4:=⟨57,[ey],[cs 65,ca],λx=>IV x⟩
def afe:bk False Ws:=bm [afd,VG] [] [] ⟨aqW,aeq,trivial⟩
def IW(n t:Int)(s:Int×al):Option (Int×al⊕al):=cond (d_ (s.1<n)) ((bG s.2.length s.1).bind λ_=>if s.1.toNat<s.2.length then s.2[s.1.toNat]?.bind λC=>(bG C.length 0).bind λ_=>s.2[s.1.toNat]?.bind λC=>C[(0:Int).toNat]?.bind λv=>s.2[s.1.toNat]?.bind λC=>(bG C.length 0).bind λ_=>s.2[s.1.toNat]?.bind λC=>C[(0:Int).toNat]?.bind λ_=>(λq:al=>q[s.1.toNat]?.bind λC=>(bG C.length 1).bind λ_=>q[s.1.toNat]?.bind λC=>C[(1:Int).toNat]?.bind λv=>q[s.1.toNat]?.bind λC=>(bG C.length 1).bind λ_=>q[s.1.toNat]?.bind λC=>C[(1:Int).toNat]?.bind λ_=>some (.inl (W_ i64 (s.1+1),q.set s.1.toNat (C.set (1:Int).toNat (W_ i64 (v*t)))))) (s.2.set s.1.toNat (C.set (0:Int).toNat (W_ i64 (v*t))))else none) (some (.inr s.2))
def ON(L:al)(av:Int):Option (al×Bool):=B_ (ki L) λS=>cond (!S) (some ([],false)) (B_ (m7 av 1 50) λaa=>cond (!aa) (some ([],false)) (B_ (ov L) λaj=>B_ (aU (IW (aj.length:Int) av) (0,aj)) λap=>B_ (ki ap) λv5=>cond (!v5) (some ([],false)) (some (ap,true))))
def A5:a4:=⟨58,[cq,ey],[cs 65,ca],λx=>ON x.1 x.2⟩
noncomputable def aff:da:=⟨Tryz.prog,oq,[lE,qz,AK],[],[],[],[],[]⟩
def aqX(x:i1.den A5.ps):Hg aff [⟨0,19,[⟨5,0,21⟩]⟩] Tryz.f58 A5.ps A5.rs x=A5.F x:=by kernel_rfl
def aqY{ae:Prop}:eZ Tryz.prog A5.f/\gg ae Tryz.prog A5:=acu (N:=aff) o6 ⟨mc,rE,DG,trivial⟩ func58 (by kernel_rfl) rfl aqX
def IX(L:al)(aa:Int):Option (Int⊕Unit⊕Bool):=cond (d_ (aa<(L.length:Int))) (B_ (idx L aa) λaj=>cond ((aj.length:Int)!=(L.length:Int)) (some (.inr (.inr false))) (B_ (rF aj (-100) 100) λap=>cond (!ap) (some (.inr (.inr false))) (some (.inl (W_ i64 (aa+1)))))) (some (.inr (.inl ())))
def OO(L:al):Option Bool:=B_ (m7 (L.length:Int) 1 3) λS=>cond (!S) (some false) (B_ (aU (IX L) 0) λv5=>match v5 with|.inl aL=>some true|.inr aK=>some aK)
def afg:a4:=⟨316,[cq],[ca],λx=>OO x⟩
def aqZ{ae:Prop}:bk ae afg:=bm [qz,DI] [⟨4,[(11,aZ)],some (0,[]),some [(2,ca)],false,none⟩] [] ⟨rE,Ir,trivial⟩
def OQ(L:al)(av:Int)(dd:Int)(S:al×Int):Option (al×Int⊕al):=cond (d_ (S.2<(L.length:Int))) (B_ (idx L S.2) λaa=>cond (S.2 !=av) (B_ (e5 aa 0 dd) λaj=>B_ (ou aj) λap=>B_ (e5 aa (W_ i64 (dd+1)) (aa.length:Int)) λv5=>B_ (bI 8 ap v5) λaL=>B_ (bI 24 S.1 [aL]) λaK=>some (.inl (aK,W_ i64 (S.2+1)))) (some (.inl (S.1,W_ i64 (S.2+1))))) (some (.inr S.1))
def A6(L:al)(av:Int)(dd:Int):Option al:=B_ (aU (OQ L av dd) ([],0)) λbe=>some be
def Wt:a4:=⟨207,[cq,ey,ey],[cs 65],λx=>A6 x.1 x.2.1 x.2.2⟩
def afh{ae:Prop}:bk ae Wt:=bm [vR] [cv 3 [(7,cs 65),(12,aZ)] 0 [(7,cs 65)]] [cr 6 0] ⟨xQ,trivial⟩
def OR(rec:al->Option Int)(L:al)(S:List Int)(aa:Int×Int×Int):Option (Int×Int×Int⊕Int):=cond (d_ (aa.2.2<(S.length:Int))) (B_ (idx S aa.2.2) λaj=>cond (aj !=0) (B_ (A6 L 0 aa.2.2) λap=>B_ (rec ap) λv5=>some (.inl (W_ i64 (aa.1+W_ i64 (W_ i64 (aa.2.1*aj)*v5)),(W_ i64 (0-aa.2.1),W_ i64 (aa.2.2+1))))) (some (.inl (aa.1,(W_ i64 (0-aa.2.1),W_ i64 (aa.2.2+1)))))) (some (.inr aa.1))
def v1(rec:al->Option Int)(L:al):Option Int:=cond ((L.length:Int)==0) (some 1) (B_ (idx L 0) λS=>B_ (aU (OR rec L S) (0,(1,0))) λaL=>some aL)
def sZ:Nat->al->Option Int|0=>λ_=>none|n+1=>v1 (sZ n)
def xY(L:al):Option Int:=sZ 30000 L
def IY:a4:=⟨139,[cq],[aZ],λx=>xY x⟩
def s2(rec:al->Option Int):a4:=⟨139,[.d false fN],[aZ],λx=>rec x⟩
def afi(rec:al->Option Int):da:=⟨Tryz.prog,oq,[Wt,s2 rec],[cv 5 [(3,aZ),(4,aZ),(14,aZ)] 0 [(3,aZ)]],[],[],[],[]⟩
def aq0(rec:al->Option Int)(x:i1.den (s2 rec).ps):wJ (afi rec) Tryz.f139 (s2 rec).ps (s2 rec).rs x=(s2 (v1 rec)).F x:=by kernel_rfl
def aq1{ae:Prop}(rec:al->Option Int)(c:eZ Tryz.prog (s2 rec).f/\gg ae Tryz.prog (s2 rec)):eZ Tryz.prog (s2 (v1 rec)).f/\gg ae Tryz.prog (s2 (v1 rec)):=GS (N:=afi rec) o6 ⟨afh,c,trivial⟩ func139 (by kernel_rfl) (aq0 rec)
def afj{ae:Prop}:(n:Nat)->eZ Tryz.prog (s2 (sZ n)).f/\gg ae Tryz.prog (s2 (sZ n))|0=>⟨⟨Tryz.f139,_,func139,by kernel_rfl,rfl⟩,λx u c=>by cases c⟩|n+1=>aq1 _ (afj n)
def Wu{ae:Prop}:eZ Tryz.prog IY.f/\gg ae Tryz.prog IY:=afj 30000
def Wv(L:al):Option Int:=B_ (OO L) λS=>cond (!S) (some 0) (B_ (xY L) λaa=>some aa)
def afk:a4:=⟨257,[cq],[aZ],λx=>Wv x⟩
def aq2{ae:Prop}:bk ae afk:=bm [afg,IY] [] [] ⟨aqZ,Wu,trivial⟩
def OS(L:al):Option Bool:=B_ (Wv L) λS=>B_ (IC S) λaa=>some (aa==1)
def afl:a4:=⟨203,[cq],[ca],λx=>OS x⟩
def aq3{ae:Prop}:bk ae afl:=bm [afk,VO] [] [] ⟨aq2,aev,trivial⟩
def OT(L:al×List Int):Option Bool:=cond ((L.1.length:Int)==2) (B_ (OS L.1) λS=>cond S (B_ (vV L.2 1000) λaa=>some aa) (some false)) (some false)
def afm:a4:=⟨128,[.d false (.prod fN bF)],[ca],λx=>OT x⟩
def aq4{ae:Prop}:bk ae afm:=bm [afl,DK] [] [] ⟨aq3,Is,trivial⟩
def OU(L:al×List Int)(av:al)(aj:al×Int):Option (al×Int⊕al):=cond (d_ (aj.2<(av.length:Int))) (B_ (idx av aj.2) λap=>B_ (idx L.1 0) λv5=>B_ (lF v5 ap) λaL=>B_ (idx L.2 0) λaK=>B_ (idx L.1 1) λbe=>B_ (lF be ap) λa8=>B_ (idx L.2 1) λbA=>B_ (bI 24 aj.1 [[W_ i64 (aL+aK),W_ i64 (a8+bA)]]) λbC=>some (.inl (bC,W_ i64 (aj.2+1)))) (some (.inr aj.1))
def IZ(L:al×List Int)(av:al):Option (al×Bool):=B_ (OT (L.1,L.2)) λS=>cond (!S) (some ([],false)) (B_ (ki av) λaa=>cond (!aa) (some ([],false)) (B_ (aU (OU L av) ([],0)) λbJ=>B_ (vX bJ) λcw=>some (cw.1,cw.2)))
def afn:a4:=⟨59,[.d false (.prod fN bF),cq],[cs 65,ca],λx=>IZ x.1 x.2⟩
def aq5{ae:Prop}:bk ae afn:=bm [afm,lE,xV,DR] [cv 5 [(6,cs 65),(19,aZ)] 0 [(6,cs 65)]] [cr 7 0] ⟨aq4,mc,A0,IA,trivial⟩
def I0(aK:List Int×List Int×Int)(be:List Int)(a8:List Int×List Int×Int):Option (List Int×List Int×Int⊕List Int×List Int):=cond (d_ (a8.2.2<(aK.1.length:Int))) (B_ (bG a8.1.length a8.2.2) λ_=>B_ (idx a8.1 ((a8.2.2.toNat:Nat):Int)) λbA=>B_ (idx be a8.2.2) λbC=>B_ (bG a8.2.1.length a8.2.2) λ_=>B_ (idx a8.2.1 ((a8.2.2.toNat:Nat):Int)) λbJ=>B_ (idx be a8.2.2) λcw=>B_ (bG a8.1.length a8.2.2) λ_=>B_ (bG a8.1.length ((a8.2.2.toNat:Nat):Int)) λ_=>B_ (bG a8.2.1.length a8.2.2) λ_=>B_ (bG a8.2.1.length ((a8.2.2.toNat:Nat):Int)) λ_=>some (.inl (a8.1.set a8.2.2.toNat (if bC<bA then bC else bA),(a8.2.1.set a8.2.2.toNat (if cw>bJ then cw else bJ),W_ i64 (a8.2.2+1))))) (some (.inr (a8.1,a8.2.1)))
def Ea(L:al)(aK:List Int×List Int×Int):Option (List Int×List Int×Int⊕List Int×List Int):=cond (d_ (aK.2.2<(L.length:Int))) (B_ (idx L aK.2.2) λbe=>B_ (aU (I0 aK be) (aK.1,(aK.2.1,0))) λdx=>some (.inl (dx.1,(dx.2,W_ i64 (aK.2.2+1))))) (some (.inr (aK.1,aK.2.1)))
def OV(L:al)(ep:al)(dF:al×Int):Option (al×Int⊕al):=cond (d_ (dF.2<(ep.length:Int))) (B_ (idx ep dF.2) λeJ=>B_ (rI L eJ) λfa=>cond (d_ (fa>=0)) (B_ (bI 24 dF.1 [eJ]) λdS=>some (.inl (dS,W_ i64 (dF.2+1)))) (some (.inl (dF.1,W_ i64 (dF.2+1))))) (some (.inr dF.1))
def I1(L:al):Option al:=B_ (ki L) λS=>cond (!S) (some []) (B_ (nT L) λaa=>cond (d_ (aa>2000)) (some []) (B_ (idx L 0) λaj=>B_ (ou aj) λap=>B_ (idx L 0) λv5=>B_ (ou v5) λaL=>B_ (aU (Ea L) (ap,(aL,0))) λdk=>B_ (vZ dk.1 dk.2) λep=>B_ (aU (OV L ep) ([],0)) λeM=>B_ (jK eM) λ_=>some eM))
def afo:a4:=⟨132,[cq],[.l (.d true fN)],λx=>I1 x⟩
def aq6{ae:Prop}:bk ae afo:=uc [] [(10,[0,1,2,3,4,5,8,9,13,14,17,18,6,7,10,11,12,15,16,19,20,21,22,23,24,25])] [lE,AX,vR,IJ,Oh] [cv 5 [(3,cM 3),(4,cM 3),(29,aZ)] 0 [(3,cM 3),(4,cM 3)],cv 8 [(3,cM 3),(4,cM 3),(35,aZ)] 2 [(3,cM 3),(4,cM 3)],cv 15 [(8,.l (.o false 65 bF)),(68,aZ)] 4 [(8,.l (.o false 65 bF))]] [cr 3 0,cr 10 0] [] ⟨mc,DV,xQ,Ot,V0,trivial⟩ trivial
def I2(av:List Int)(S:al)(aK:Int)(be:List Int×Int):Option (List Int×Int⊕List Int):=cond (d_ (be.2<(S.length:Int))) (B_ (idx S be.2) λa8=>B_ (lF av a8) λbA=>B_ (bG be.1.length (W_ i64 (bA-W_ i64 (0-aK)))) λ_=>B_ (idx be.1 (((W_ i64 (bA-W_ i64 (0-aK))).toNat:Nat):Int)) λbC=>B_ (bG be.1.length (W_ i64 (bA-W_ i64 (0-aK)))) λ_=>B_ (bG be.1.length (((W_ i64 (bA-W_ i64 (0-aK))).toNat:Nat):Int)) λ_=>some (.inl (be.1.set (W_ i64 (bA-W_ i64 (0-aK))).toNat (W_ i64 (bC+1)),W_ i64 (be.2+1)))) (some (.inr be.1))
def OW(L:al)(av:List Int):Option (List Int):=B_ (I1 L) λS=>cond S.isEmpty (some []) (B_ (vV av 12) λaa=>cond (!aa) (some []) (B_ (ow L av) λaj=>B_ (nZ 8 (W_ i64 (aj+1)) 0) λap=>B_ (idx av 0) λv5=>B_ (idx av 1) λaL=>B_ (DY L [W_ i64 (0-v5),W_ i64 (0-aL)]) λaK=>B_ (aU (I2 av S aK) (ap,0)) λbJ=>some bJ))
def afp:a4:=⟨63,[cq,dE],[cM 3],λx=>OW x.1 x.2⟩
def aq7{ae:Prop}:bk ae afp:=bm [afo,DK,Ow,V7,xV] [cv 7 [(6,cM 3),(38,aZ)] 0 [(6,cM 3)]] [cr 5 0] ⟨aq6,Is,V8,aeO,A0,trivial⟩
def OX(L:Int)(av:List Int×Int):Option Bool:=B_ (m7 L 1 3) λS=>cond S (cond ((av.1.length:Int)==L) (B_ (rF av.1 (-20) 20) λaa=>cond aa (B_ (sU av.1) λaj=>cond (d_ (aj>0)) (B_ (m7 av.2 (-200) 200) λap=>some ap) (some false)) (some false)) (some false)) (some false)
def afq:a4:=⟨205,[ey,.d false (.prod bF bH)],[ca],λx=>OX x.1 x.2⟩
def aq8{ae:Prop}:bk ae afq:=bm [qz,DI,AS] [] [] ⟨rE,Ir,DS,trivial⟩
def OY(L:Int×List (List Int×Int))(aa:Int):Option (Int⊕Unit⊕Bool):=cond (d_ (aa<(L.2.length:Int))) (B_ (idx L.2 aa) λaj=>B_ (OX L.1 (aj.1,aj.2)) λap=>cond (!ap) (some (.inr (.inr false))) (some (.inl (W_ i64 (aa+1))))) (some (.inr (.inl ())))
def v2(L:Int×List (List Int×Int)):Option Bool:=B_ (m7 L.1 1 3) λS=>cond (!S) (some false) (cond (d_ ((L.2.length:Int)>8)) (some false) (B_ (aU (OY L) 0) λv5=>match v5 with|.inl aL=>some true|.inr aK=>some aK))
def Eb:a4:=⟨136,[.d false (.prod bH (.list (.prod bF bH)))],[ca],λx=>v2 x⟩
def I3{ae:Prop}:bk ae Eb:=bm [qz,afq] [⟨4,[(18,aZ)],some (0,[]),some [(2,ca)],false,none⟩] [] ⟨rE,aq8,trivial⟩
def Ec(ap:List ByteArray)(v5:(Int×List (List Int×Int))×(Int×List (List Int×Int))×Int):Option ((Int×List (List Int×Int))×(Int×List (List Int×Int))×Int⊕(Int×List (List Int×Int))×Int×List (List Int×Int)⊕(Int×List (List Int×Int))×Bool):=cond (d_ (v5.2.2<(ap.length:Int))) (B_ (idx ap v5.2.2) λaL=>B_ (vS aL 60) λaK=>cond ((aK.length:Int)!=2) (some (.inr (.inr ((0,[]),false)))) (B_ (bG aK.length 0) λ_=>B_ (idx aK (((0:Int).toNat:Nat):Int)) λbe=>B_ (us be) λa8=>B_ (bG aK.length 1) λ_=>B_ (idx aK (((1:Int).toNat:Nat):Int)) λbA=>B_ (vT bA) λbC=>cond (!a8.2) (some (.inr (.inr ((0,[]),false)))) (cond (!bC.2) (some (.inr (.inr ((0,[]),false)))) (B_ (bI 32 v5.2.1.2 [(a8.1,bC.1)]) λbJ=>some (.inl ((v5.1.1,v5.1.2),((v5.2.1.1,bJ),W_ i64 (v5.2.2+1)))))))) (some (.inr (.inl ((v5.1.1,v5.1.2),(v5.2.1.1,v5.2.1.2)))))
def OZ(L:ByteArray):Option ((Int×List (List Int×Int))×Bool):=B_ (vS L 59) λS=>B_ (bG S.length 0) λ_=>B_ (idx S (((0:Int).toNat:Nat):Int)) λaa=>B_ (vT aa) λaj=>cond (!aj.2) (some ((0,[]),false)) (B_ (e5 S 1 (S.length:Int)) λap=>B_ (aU (Ec ap) ((0,[]),((aj.1,[]),0))) λcw=>match cw with|.inl dx=>B_ (v2 (dx.2.1,dx.2.2)) λep=>cond (!ep) (some ((0,[]),false)) (some ((dx.2.1,dx.2.2),true))|.inr dk=>some ((dk.1.1,dk.1.2),dk.2))
def afr:a4:=⟨64,[iW],[.a [.d false bH,.o true 132 (.prod bF bH)],ca],λx=>OZ x⟩
noncomputable def afs:da:=⟨Tryz.prog,oq,[Eb],[],[],[],[],[]⟩
def Ww:mg:=⟨135,true,nu afs Tryz.f135⟩
def aq9{ae:Prop}:eZ Tryz.prog Ww.f/\kM ae Tryz.prog Ww:=abR (N:=afs) o6 ⟨I3,trivial⟩ func135 (by kernel_rfl) (by kernel_rfl) rfl
def ara:bk False afr:=MD [DH,Iq,N1] [⟨7,[(2,.b 79 [.d false bH,.o true 132 (.prod bF bH)]),(7,.b 79 [.d false bH,.o true 132 (.prod bF bH)]),(32,aZ)],some (0,[(2,.b 79 [.d false bH,.o true 132 (.prod bF bH)]),(7,.b 79 [.d false bH,.o true 132 (.prod bF bH)])]),some [(2,.b 79 [.d false bH,.o true 132 (.prod bF bH)]),(3,ca)],false,none⟩] [] [Ww] ⟨In,VA,VD,trivial⟩ ⟨aq9,trivial⟩
def O0(L:Int×List (List Int×Int))(av:List Int)(aj:Int):Option (Int⊕Unit⊕Bool):=cond (d_ (aj<(L.2.length:Int))) (B_ (idx L.2 aj) λap=>B_ (lF ap.1 av) λv5=>cond (d_ (v5>ap.2)) (some (.inr (.inr false))) (some (.inl (W_ i64 (aj+1))))) (some (.inr (.inl ())))
def I4(L:Int×List (List Int×Int))(av:List Int):Option Bool:=B_ (v2 (L.1,L.2)) λS=>cond (!S) (some false) (B_ (vU av) λaa=>cond (!aa) (some false) (cond ((av.length:Int)!=L.1) (some false) (B_ (aU (O0 L av) 0) λaL=>match aL with|.inl aK=>some true|.inr be=>some be)))
def aft:a4:=⟨206,[.d false (.prod bH (.list (.prod bF bH))),dE],[ca],λx=>I4 x.1 x.2⟩
def arb{ae:Prop}:bk ae aft:=bm [Eb,AL,xV] [⟨4,[(25,aZ)],some (0,[]),some [(4,ca)],false,none⟩] [cr 6 0] ⟨I3,DJ,A0,trivial⟩
def O1(aa:List Int)(ap:List Int×List Int×Int):Option (List Int×List Int×Int⊕List Int×List Int):=cond (d_ (ap.2.2<(aa.length:Int))) (B_ (bG ap.1.length ap.2.2) λ_=>B_ (bG ap.1.length ((ap.2.2.toNat:Nat):Int)) λ_=>B_ (bG ap.2.1.length ap.2.2) λ_=>B_ (bG ap.2.1.length ((ap.2.2.toNat:Nat):Int)) λ_=>some (.inl (ap.1.set ap.2.2.toNat (-6),(ap.2.1.set ap.2.2.toNat 6,W_ i64 (ap.2.2+1))))) (some (.inr (ap.1,ap.2.1)))
def I5(L:Int×List (List Int×Int))(aL:al)(aK:al×Int):Option (al×Int⊕al):=cond (d_ (aK.2<(aL.length:Int))) (B_ (idx aL aK.2) λbe=>B_ (I4 (L.1,L.2) be) λa8=>cond a8 (B_ (bI 24 aK.1 [be]) λbA=>some (.inl (bA,W_ i64 (aK.2+1)))) (some (.inl (aK.1,W_ i64 (aK.2+1))))) (some (.inr aK.1))
def I7(L:Int×List (List Int×Int)):Option al:=B_ (v2 (L.1,L.2)) λS=>cond (!S) (some []) (B_ (nZ 8 L.1 0) λaa=>B_ (nZ 8 L.1 0) λaj=>B_ (aU (O1 aa) (aa,(aj,0))) λv5=>B_ (vZ v5.1 v5.2) λaL=>B_ (aU (I5 L aL) ([],0)) λbC=>some bC)
def afu:a4:=⟨137,[.d false (.prod bH (.list (.prod bF bH)))],[.l (.o false 65 bF)],λx=>I7 x⟩
def arc{ae:Prop}:bk ae afu:=bm [Eb,IJ,aft] [cv 5 [(3,cM 3),(4,cM 3),(20,aZ)] 0 [(3,cM 3),(4,cM 3)],cv 11 [(6,.l (.o false 65 bF)),(34,aZ)] 2 [(6,.l (.o false 65 bF))]] [cr 3 0] ⟨I3,Ot,arb,trivial⟩
def O2(L:Int×List (List Int×Int)):Option Int:=B_ (v2 (L.1,L.2)) λS=>cond (!S) (some (-1)) (B_ (I7 (L.1,L.2)) λaa=>some (aa.length:Int))
def afv:a4:=⟨65,[.d false (.prod bH (.list (.prod bF bH)))],[aZ],λx=>O2 x⟩
def ard{ae:Prop}:bk ae afv:=bm [Eb,afu] [] [] ⟨I3,arc,trivial⟩
def I8(L:al)(S:al×Int)(aj:al×List Int×Int):Option (al×List Int×Int⊕al×List Int):=cond (d_ (aj.2.2<(L.length:Int))) (B_ (A6 L aj.2.2 S.2) λap=>B_ (xY ap) λv5=>B_ (bG aj.2.1.length aj.2.2) λ_=>B_ (bG aj.2.1.length ((aj.2.2.toNat:Nat):Int)) λ_=>B_ (fT .i64 (W_ i64 (S.2+aj.2.2)) 2) λaL=>cond (aL==1) (B_ (bG (aj.2.1.set aj.2.2.toNat v5).length aj.2.2) λ_=>B_ (idx (aj.2.1.set aj.2.2.toNat v5) ((aj.2.2.toNat:Nat):Int)) λaK=>B_ (bG (aj.2.1.set aj.2.2.toNat v5).length aj.2.2) λ_=>B_ (bG (aj.2.1.set aj.2.2.toNat v5).length ((aj.2.2.toNat:Nat):Int)) λ_=>some (.inl (aj.1,((aj.2.1.set aj.2.2.toNat v5).set aj.2.2.toNat (W_ i64 (0-aK)),W_ i64 (aj.2.2+1))))) (some (.inl (aj.1,(aj.2.1.set aj.2.2.toNat v5,W_ i64 (aj.2.2+1)))))) (some (.inr (aj.1,aj.2.1)))
def O3(L:al)(S:al×Int):Option (al×Int⊕al):=cond (d_ (S.2<(L.length:Int))) (B_ (nZ 8 (L.length:Int) 0) λaa=>B_ (aU (I8 L S) (S.1,(aa,0))) λbe=>B_ (bI 24 be.1 [be.2]) λa8=>some (.inl (a8,W_ i64 (S.2+1)))) (some (.inr S.1))
def O4(L:al):Option al:=B_ (aU (O3 L) ([],0)) λbA=>some bA
def afw:a4:=⟨140,[cq],[cs 65],λx=>O4 x⟩
def are{ae:Prop}:bk ae afw:=bm [Wt,IY] [cv 3 [(3,cs 65),(9,aZ)] 0 [(3,cs 65)],cv 7 [(3,cs 65),(5,cM 3),(17,aZ)] 2 [(3,cs 65),(5,cM 3)]] [] ⟨afh,Wu,trivial⟩
def I9(L:List Int×Int)(aa:Int)(ap:(List Int×Int)×(List Int×Int)×Int):Option ((List Int×Int)×(List Int×Int)×Int⊕(List Int×Int)×List Int×Int):=cond (d_ (ap.2.2<(L.1.length:Int))) (B_ (idx L.1 ap.2.2) λv5=>B_ (fV .i64 v5 (W_ i64 (0-aa))) λaL=>B_ (bI 8 ap.2.1.1 [aL]) λaK=>some (.inl ((ap.1.1,ap.1.2),((aK,ap.2.1.2),W_ i64 (ap.2.2+1))))) (some (.inr ((ap.1.1,ap.1.2),(ap.2.1.1,ap.2.1.2))))
def Ja(L:List Int×Int)(aa:Int)(bA:(List Int×Int)×(List Int×Int)×Int):Option ((List Int×Int)×(List Int×Int)×Int⊕(List Int×Int)×List Int×Int):=cond (d_ (bA.2.2<(L.1.length:Int))) (B_ (idx L.1 bA.2.2) λbC=>B_ (fV .i64 bC aa) λbJ=>B_ (bI 8 bA.2.1.1 [bJ]) λcw=>some (.inl ((bA.1.1,bA.1.2),((cw,bA.2.1.2),W_ i64 (bA.2.2+1))))) (some (.inr ((bA.1.1,bA.1.2),(bA.2.1.1,bA.2.1.2))))
def O5(L:List Int×Int):Option (List Int×Int):=B_ (sU L.1) λS=>B_ (ID S L.2) λaa=>cond (d_ (L.2<0)) (B_ (fV .i64 L.2 (W_ i64 (0-aa))) λaj=>B_ (aU (I9 L aa) (([],0),(([],aj),0))) λbe=>some (be.2.1,be.2.2)) (B_ (fV .i64 L.2 aa) λa8=>B_ (aU (Ja L aa) (([],0),(([],a8),0))) λdx=>some (dx.2.1,dx.2.2))
def afx:a4:=⟨141,[.d false (.prod bF bH)],[.a [.o true 3 bH,.d false bH]],λx=>O5 x⟩
def arf{ae:Prop}:bk ae afx:=bm [AS,VP] [cv 6 [(2,.b 86 [.o true 3 bH,.d false bH]),(4,.b 86 [.o true 3 bH,.d false bH]),(26,aZ)] 0 [(2,.b 86 [.o true 3 bH,.d false bH]),(4,.b 86 [.o true 3 bH,.d false bH])]] [cr 1 0,cr 8 0] ⟨DS,aew,trivial⟩
def O6(L:Int×List (List Int×Int))(av:List Int×Int)(S:Int):Option (Int⊕Unit⊕Bool):=cond (d_ (S<(L.2.length:Int))) (B_ (idx L.2 S) λaa=>B_ (lF aa.1 av.1) λaj=>cond (d_ (aj>W_ i64 (aa.2*av.2))) (some (.inr (.inr false))) (some (.inl (W_ i64 (S+1))))) (some (.inr (.inl ())))
def Jb(L:Int×List (List Int×Int))(av:List Int×Int):Option Bool:=B_ (aU (O6 L av) 0) λap=>match ap with|.inl v5=>some true|.inr aL=>some aL
def afy:a4:=⟨142,[.d false (.prod bH (.list (.prod bF bH))),.d false (.prod bF bH)],[ca],λx=>Jb x.1 x.2⟩
def arg{ae:Prop}:bk ae afy:=bm [xV] [⟨2,[(10,aZ)],some (0,[]),some [(4,ca)],false,none⟩] [cr 4 0] ⟨A0,trivial⟩
def O7(rec:nN)(dd:List (List Int×Int))(S:List (List Int×Int)×al×List Int×Int):Option (List (List Int×Int)×al×List Int×Int⊕List (List Int×Int)×al×List Int):=cond (d_ (S.2.2.2<(dd.length:Int))) (B_ (idx dd S.2.2.2) λaa=>B_ (bI 24 S.2.1 [aa.1]) λaj=>B_ (bI 8 S.2.2.1 [aa.2]) λap=>some (.inl (S.1,(aj,(ap,W_ i64 (S.2.2.2+1)))))) (some (.inr (S.1,(S.2.1,S.2.2.1))))
def O8(rec:nN)(v5:List (List Int×Int)×al×List Int)(aK:al)(be:List (List Int×Int)×(List Int×Int)×Int):Option (List (List Int×Int)×(List Int×Int)×Int⊕List (List Int×Int)×List Int×Int):=cond (d_ (be.2.2<(aK.length:Int))) (B_ (idx aK be.2.2) λa8=>B_ (lF a8 v5.2.2) λbA=>B_ (bI 8 be.2.1.1 [bA]) λbC=>some (.inl (be.1,((bC,be.2.1.2),W_ i64 (be.2.2+1))))) (some (.inr (be.1,(be.2.1.1,be.2.1.2))))
def Jd(rec:nN)(L:Int×List (List Int×Int))(dd:List (List Int×Int))(ep:Int×List (List Int×Int)):Option (Int×List (List Int×Int)⊕List (List Int×Int)):=cond (d_ (ep.1<(L.2.length:Int))) (B_ (Fr (dd.length:Int) (dd.length:Int) dd.length) λdF=>B_ (idx L.2 ep.1) λeJ=>B_ (jK [(eJ.1,eJ.2)]) λ_=>B_ (bI 32 dd [(eJ.1,eJ.2)]) λfa=>B_ (rec (L.1,L.2) (W_ i64 (ep.1+1)) fa ep.2) λdS=>some (.inl (W_ i64 (ep.1+1),dS))) (some (.inr ep.2))
def xZ(rec:nN)(L:Int×List (List Int×Int))(av:Int)(dd vP:List (List Int×Int)):Option (List (List Int×Int)):=cond ((dd.length:Int)==L.1) (B_ (aU (O7 rec dd) (vP,([],([],0)))) λv5=>B_ (xY v5.2.1) λaL=>cond (aL==0) (some v5.1) (B_ (O4 v5.2.1) λaK=>B_ (aU (O8 rec v5 aK) (v5.1,(([],aL),0))) λbJ=>B_ (O5 (bJ.2.1,bJ.2.2)) λcw=>B_ (Jb (L.1,L.2) (cw.1,cw.2)) λdx=>cond dx (B_ (bI 32 bJ.1 [(cw.1,cw.2)]) λdk=>some dk) (some bJ.1))) (B_ (aU (Jd rec L dd) (av,vP)) λeM=>some eM)
def x0:Nat->nN|0=>λ_ _ _ _=>none|n+1=>xZ (x0 n)
def Je:nN:=x0 30000
def O9:o4:=⟨138,79,136,83,86⟩
def A7(rec:nN):mg:=⟨138,false,xA O9 rec⟩
def afz(rec:nN):da:=⟨Tryz.prog,oq,[IY,afw,xV,afx,afy],[cv 4 [(3,.b 83 [.o false 86 (.prod bF bH)]),(7,.l (.o false 65 bF)),(8,cM 3),(23,aZ)] 0 [(3,.b 83 [.o false 86 (.prod bF bH)]),(7,.l (.o false 65 bF)),(8,cM 3)],cv 13 [(3,.b 83 [.o false 86 (.prod bF bH)]),(12,.b 86 [.o true 3 bH,.d false bH]),(47,aZ)] 2 [(3,.b 83 [.o false 86 (.prod bF bH)]),(12,.b 86 [.o true 3 bH,.d false bH])],⟨21,[(15,aZ)],some (4,[]),none,false,some (3,.b 83 [.o false 86 (.prod bF bH)])⟩],[cr 15 0,cr 23 0],[A7 rec],[],[]⟩
def arh(rec:nN)(x:Int×List (List Int×Int))(i:Int)(D q:List (List Int×Int)):MA (afz rec) Tryz.f138 O9 x i D q=xZ rec x i D q:=by kernel_rfl
def ari{ae:Prop}(rec:nN)(c:eZ Tryz.prog 138/\kM ae Tryz.prog (A7 rec)):eZ Tryz.prog 138/\kM ae Tryz.prog (A7 (xZ rec)):=ao8 (N:=afz rec) (m:=O9) o6 ⟨Wu,are,A0,arf,arg,trivial⟩ func138 (by kernel_rfl) (arh rec) ⟨c,trivial⟩
def afA{ae:Prop}:(n:Nat)->eZ Tryz.prog 138/\kM ae Tryz.prog (A7 (x0 n))|0=>ao9 (m:=O9) func138 (by kernel_rfl)|n+1=>ari _ (afA n)
def arj{ae:Prop}:eZ Tryz.prog (A7 Je).f/\kM ae Tryz.prog (A7 Je):=afA 30000
def Jf(L:List Int×Int)(av:List Int×Int)(S:Int):Option (Int⊕Unit⊕Int):=cond (d_ (S<(L.1.length:Int))) (B_ (idx L.1 S) λaa=>B_ (idx av.1 S) λaj=>B_ (AO (W_ i64 (aa*av.2)) (W_ i64 (aj*L.2))) λap=>cond (ap !=0) (some (.inr (.inr ap))) (some (.inl (W_ i64 (S+1))))) (some (.inr (.inl ())))
def v3(L:List Int×Int)(av:List Int×Int):Option Int:=B_ (aU (Jf L av) 0) λv5=>match v5 with|.inl aL=>some 0|.inr aK=>some aK
def afB:a4:=⟨144,[.d false (.prod bF bH),.d false (.prod bF bH)],[aZ],λx=>v3 x.1 x.2⟩
def Wx{ae:Prop}:bk ae afB:=bm [VE] [⟨2,[(10,aZ)],some (0,[]),some [(4,aZ)],false,none⟩] [cr 4 0] ⟨aep,trivial⟩
def Pa(L:List (List Int×Int)):Option (Unit×List (List Int×Int)×Unit):=G9 (λa b=>v3 a b) L
def Wy:a4:=⟨143,[.io false 86 (.prod bF bH),.f 144],[],λx=>Pa x.1⟩
def ark{ae:Prop}:eZ Tryz.prog Wy.f/\gg ae Tryz.prog Wy:=⟨⟨Tryz.f143,_,func143,by kernel_rfl,rfl⟩,an5 (a:=bF) (b:=bH) aol rfl Tryz.isAgg86 Tryz.sizeOf86 (Wx (ae:=True)).1 (Wx (ae:=True)).2⟩
def A8(L:List Int×Int)(av:List Int×Int):Option Bool:=B_ (v3 (L.1,L.2) (av.1,av.2)) λS=>some (S==0)
def afC:a4:=⟨146,[.d false (.prod bF bH),.d false (.prod bF bH)],[ca],λx=>A8 x.1 x.2⟩
def arl{ae:Prop}:bk ae afC:=bm [afB] [] [] ⟨Wx,trivial⟩
def Pb(S:Int×List (List Int×Int))(aL:Int×Int×List (List Int×Int)):Option (Int×Int×List (List Int×Int)⊕Int×List (List Int×Int)):=cond (d_ (aL.2.1<(((S.2.length:Int).toNat-S.1.toNat:Nat):Int))) (B_ (bG ((S.2.length:Int).toNat-S.1.toNat) aL.2.1) λ_=>B_ (idx aL.2.2 ((S.1.toNat+aL.2.1.toNat:Nat):Int)) λaK=>B_ (bG ((S.2.length:Int).toNat-S.1.toNat) (W_ i64 (aL.2.1-1))) λ_=>B_ (idx aL.2.2 ((S.1.toNat+(W_ i64 (aL.2.1-(1:Int))).toNat:Nat):Int)) λbe=>B_ (A8 aK be) λa8=>cond (!a8) (B_ (bG ((S.2.length:Int).toNat-S.1.toNat) aL.2.1) λ_=>B_ (idx aL.2.2 ((S.1.toNat+aL.2.1.toNat:Nat):Int)) λbA=>B_ (bG aL.2.2.length aL.1) λ_=>B_ (bG aL.2.2.length ((aL.1.toNat:Nat):Int)) λ_=>some (.inl (W_ i64 (aL.1+1),(W_ i64 (aL.2.1+1),aL.2.2.set aL.1.toNat (bA.1,bA.2))))) (some (.inl (aL.1,(W_ i64 (aL.2.1+1),aL.2.2))))) (some (.inr (aL.1,aL.2.2)))
def Wz(S:Int×List (List Int×Int)):Option (Int×List (List Int×Int)⊕List (List Int×Int)⊕List (List Int×Int)):=cond (d_ (S.1<(S.2.length:Int))) (B_ (bG S.2.length S.1) λ_=>B_ (idx S.2 ((S.1.toNat:Nat):Int)) λaa=>B_ (bG S.2.length (W_ i64 (S.1-1))) λ_=>B_ (idx S.2 (((W_ i64 (S.1-(1:Int))).toNat:Nat):Int)) λaj=>B_ (A8 aa aj) λap=>cond ap (B_ (e5 S.2 S.1 (S.2.length:Int)) λv5=>B_ (aU (Pb S) (S.1,(1,S.2))) λbC=>B_ (e5 bC.2 bC.1 (bC.2.length:Int)) λbJ=>B_ (Fs bC.1.toNat (bC.2.length:Int).toNat bC.2.length) λcw=>B_ (e5 (bC.2.take bC.1.toNat++List.replicate ((bC.2.length:Int).toNat-bC.1.toNat) ([],0)) 0 bC.1) λdx=>some (.inr (.inr dx))) (some (.inl (W_ i64 (S.1+1),S.2)))) (some (.inr (.inl S.2)))
def Pc(L:List (List Int×Int)):Option (List (List Int×Int)):=cond (d_ ((L.length:Int)<2)) (some L) (B_ (aU Wz (1,L)) λdk=>match dk with|.inl ep=>some ep|.inr dF=>some dF)
def afD:a4:=⟨145,[.mv false 86 (.prod bF bH),.f 146],[.l (.o false 86 (.prod bF bH))],λx=>Pc x.1⟩
def arm{ae:Prop}:bk ae afD:=uc [29,59] [] [afC] [⟨4,[(5,aZ)],some (0,[]),some [(4,.l (.o false 86 (.prod bF bH)))],false,some (0,.l (.o false 86 (.prod bF bH)))⟩,⟨9,[(5,aZ),(7,aZ)],some (2,[(5,aZ)]),none,false,some (0,.l (.o false 86 (.prod bF bH)))⟩] [cr 6 0,cr 11 0] [] ⟨arl,trivial⟩ trivial
def Jg(L:Int×List (List Int×Int)):Option (List (List Int×Int)):=B_ (v2 (L.1,L.2)) λS=>cond (!S) (some []) (B_ (Je (L.1,L.2) 0 [] []) λaa=>B_ (Pa aa) λaj=>B_ (Pc aj.2.1) λap=>some ap)
def afE:a4:=⟨66,[.d false (.prod bH (.list (.prod bF bH)))],[.l (.o false 86 (.prod bF bH))],λx=>Jg x⟩
def arn{ae:Prop}:bk ae afE:=MD [Eb,Wy,afD] [] [] [A7 Je] ⟨I3,ark,arm,trivial⟩ ⟨arj,trivial⟩
def Jh(L:List Int×Int):Option ByteArray:=cond ((L.1.length:Int)==0) (some ⟨#[]⟩) (cond (d_ (L.2<1)) (some ⟨#[]⟩) (B_ (rG L.1) λS=>cond (L.2 !=1) (B_ (k7 L.2) λaa=>B_ (ft ⟨#[47]⟩ aa) λaj=>B_ (ft S aj) λap=>some ap) (some S)))
def afF:a4:=⟨67,[.d false (.prod bF bH)],[gN],λx=>Jh x⟩
def aro:bk False afF:=bm [DP,Iw] [] [] ⟨Ix,N4,trivial⟩
def Pd(L:List Int)(av:Int)(dd:List Int)(S:List Int×Int):Option (List Int×Int⊕List Int):=cond (d_ (S.2<(L.length:Int))) (B_ (bG S.1.length S.2) λ_=>B_ (idx S.1 ((S.2.toNat:Nat):Int)) λaa=>B_ (idx dd S.2) λaj=>B_ (bG S.1.length S.2) λ_=>B_ (bG S.1.length ((S.2.toNat:Nat):Int)) λ_=>some (.inl (S.1.set S.2.toNat (W_ i64 (aa-W_ i64 (av*aj))),W_ i64 (S.2+1)))) (some (.inr S.1))
def Ed(L:List Int)(av:Int)(dd:List Int):Option (Unit×List Int×Unit):=B_ (aU (Pd L av dd) (L,0)) λap=>some ((),(ap,()))
def afG:a4:=⟨150,[.io true 3 bH,ey,dE],[],λx=>Ed x.1 x.2.1 x.2.2⟩
def arp{ae:Prop}:bk ae afG:=bm [] [cv 1 [(0,cM 3),(9,aZ)] 0 [(0,cM 3)]] [cr 3 0] trivial
def Ji(L:List Int×List Int)(aj:al):Option (al⊕al):=B_ (bG aj.length (W_ i64 ((aj.length:Int)-1))) λ_=>B_ (idx aj (((W_ i64 ((aj.length:Int)-(1:Int))).toNat:Nat):Int)) λap=>B_ (lB ap L.2) λv5=>cond (v5==0) (some (.inr aj)) (B_ (sV ap) λaL=>B_ (lB aL L.2) λaK=>B_ (AU aK v5) λbe=>B_ (Ed aL be ap) λa8=>B_ (bI 24 aj [a8.2.1]) λbA=>some (.inl bA))
def Ee(L:List Int×List Int):Option al:=B_ (xX (L.1,L.2)) λS=>cond (!S) (some []) (B_ (ou L.1) λaa=>B_ (aU (Ji L) [aa]) λbC=>some bC)
def WA:a4:=⟨69,[.d false (.prod bF bF)],[cs 65],λx=>Ee x⟩
def afH{ae:Prop}:bk ae WA:=bm [IL,vR,xS,VT,VU,afG] [⟨4,[(3,cs 65)],none,some [(2,cs 65)],false,none⟩] [] ⟨Oy,xQ,AN,aez,aeA,arp,trivial⟩
def Jj(S:al)(aa:List Int×Int):Option (List Int×Int⊕List Int):=cond (d_ (W_ i64 (aa.2+1)<(S.length:Int))) (B_ (idx S (W_ i64 (aa.2-1))) λaj=>B_ (idx S (W_ i64 (aa.2+1))) λap=>B_ (lB aj ap) λv5=>B_ (bI 8 aa.1 [v5]) λaL=>some (.inl (aL,W_ i64 (aa.2+1)))) (some (.inr aa.1))
def Pe(L:List Int×List Int):Option (List Int):=B_ (Ee (L.1,L.2)) λS=>B_ (aU (Jj S) ([],1)) λaK=>some aK
def afI:a4:=⟨70,[.d false (.prod bF bF)],[cM 3],λx=>Pe x⟩
def arq{ae:Prop}:bk ae afI:=bm [WA,xS] [cv 4 [(4,cM 3),(5,aZ)] 0 [(4,cM 3)]] [cr 6 0] ⟨afH,AN,trivial⟩
def Pf(L:List Int)(aj:Int):Option (Int⊕Unit⊕Bool):=cond (d_ (aj<(L.length:Int))) (B_ (idx L (W_ i64 (aj-1))) λap=>B_ (idx L aj) λv5=>cond (d_ (ap>=v5)) (some (.inr (.inr false))) (some (.inl (W_ i64 (aj+1))))) (some (.inr (.inl ())))
def Pg(L:List Int):Option Bool:=B_ (m7 (L.length:Int) 1 6) λS=>cond (!S) (some false) (B_ (rF L 1 30) λaa=>cond (!aa) (some false) (B_ (aU (Pf L) 1) λaL=>match aL with|.inl aK=>some true|.inr be=>some be))
def afJ:a4:=⟨152,[dE],[ca],λx=>Pg x⟩
def arr{ae:Prop}:bk ae afJ:=bm [qz,DI] [⟨4,[(3,aZ)],some (0,[]),some [(2,ca)],false,none⟩] [cr 6 0] ⟨rE,Ir,trivial⟩
def Ef(av:Int)(v5:Int)(aL:List Int×Int):Option (List Int×Int⊕List Int):=cond (d_ (aL.2<=av)) (B_ (bG aL.1.length aL.2) λ_=>B_ (idx aL.1 ((aL.2.toNat:Nat):Int)) λaK=>B_ (bG aL.1.length (W_ i64 (aL.2-v5))) λ_=>B_ (idx aL.1 (((W_ i64 (aL.2-v5)).toNat:Nat):Int)) λbe=>B_ (bG aL.1.length aL.2) λ_=>B_ (bG aL.1.length ((aL.2.toNat:Nat):Int)) λ_=>some (.inl (aL.1.set aL.2.toNat (W_ i64 (aK+be)),W_ i64 (aL.2+1)))) (some (.inr aL.1))
def Eg(L:List Int)(av:Int)(ap:List Int×Int):Option (List Int×Int⊕List Int):=cond (d_ (ap.2<(L.length:Int))) (B_ (idx L ap.2) λv5=>B_ (aU (Ef av v5) (ap.1,v5)) λa8=>some (.inl (a8,W_ i64 (ap.2+1)))) (some (.inr ap.1))
def Ph(L:List Int)(av:Int):Option Int:=B_ (Pg L) λS=>cond (!S) (some (-1)) (B_ (m7 av 0 500) λaa=>cond (!aa) (some (-1)) (B_ (nZ 8 (W_ i64 (av+1)) 0) λaj=>B_ (bG aj.length 0) λ_=>B_ (bG aj.length (((0:Int).toNat:Nat):Int)) λ_=>B_ (aU (Eg L av) (aj.set (0:Int).toNat 1,0)) λbA=>B_ (bG bA.length av) λ_=>B_ (idx bA (((av).toNat:Nat):Int)) λbC=>some bC))
def afK:a4:=⟨71,[dE,ey],[aZ],λx=>Ph x.1 x.2⟩
def ars{ae:Prop}:bk ae afK:=bm [afJ,qz] [cv 6 [(5,cM 3),(24,aZ)] 0 [(5,cM 3)],cv 9 [(5,cM 3),(8,aZ)] 2 [(5,cM 3)]] [cr 11 0] ⟨arr,rE,trivial⟩
def Eh(Ei:List (List Int×Int))(qB:(al×al)×(al×al)×List ByteArray×Int):Option ((al×al)×(al×al)×List ByteArray×Int⊕(al×al)×(al×al)×List ByteArray):=cond (d_ (qB.2.2.2<(Ei.length:Int))) (B_ (idx Ei qB.2.2.2) λafL=>B_ (Jh (afL.1,afL.2)) λart=>B_ (bI 16 qB.2.2.1 [art]) λaru=>some (.inl ((qB.1.1,qB.1.2),((qB.2.1.1,qB.2.1.2),(aru,W_ i64 (qB.2.2.2+1)))))) (some (.inr ((qB.1.1,qB.1.2),((qB.2.1.1,qB.2.1.2),qB.2.2.1))))
def v4(L:(al)×(al))(av:ByteArray):Option ((al×al)×ByteArray):=B_ (ov L.1) λS=>B_ (ov L.2) λaa=>B_ (vS av 32) λaj=>B_ (e5 aj 1 (aj.length:Int)) λap=>B_ (idx aj 0) λv5=>B_ (cond (v5.toList==(⟨#[112,111,108,121]⟩:ByteArray).toList) (some (d_ ((ap.length:Int)>0))) (some false)) λaL=>cond aL (B_ (sT ap ⟨#[32]⟩) λaK=>B_ (DO aK) λbe=>cond (!be.2) (some ((S,aa),⟨#[110,111]⟩)) (B_ (pK be.1) λa8=>some ((be.1,aa),a8))) (cond ((ap.length:Int)==0) (cond (v5.toList==(⟨#[109,105,114,114,111,114]⟩:ByteArray).toList) (B_ (IB L.1) λbA=>cond (!bA.2) (some ((S,aa),⟨#[110,111]⟩)) (B_ (pK bA.1) λbC=>some ((bA.1,aa),bC))) (cond (v5.toList==(⟨#[110,111,114,109,97,108]⟩:ByteArray).toList) (B_ (DU L.1) λbJ=>cond (!bJ.2) (some ((S,aa),⟨#[110,111]⟩)) (B_ (pK bJ.1) λcw=>some ((bJ.1,aa),cw))) (cond (v5.toList==(⟨#[100,117,97,108]⟩:ByteArray).toList) (B_ (DX L.1) λdx=>cond (!dx.2) (some ((S,aa),⟨#[110,111]⟩)) (B_ (pK dx.1) λdk=>some ((dx.1,aa),dk))) (cond (v5.toList==(⟨#[115,117,109]⟩:ByteArray).toList) (B_ (IG L.1 L.2) λep=>cond (!ep.2) (some ((S,aa),⟨#[110,111]⟩)) (B_ (pK ep.1) λdF=>some ((ep.1,aa),dF))) (cond (v5.toList==(⟨#[107,101,101,112]⟩:ByteArray).toList) (B_ (ov L.1) λeJ=>some ((S,eJ),⟨#[111,107]⟩)) (cond (v5.toList==(⟨#[115,119,97,112]⟩:ByteArray).toList) (some ((aa,S),⟨#[111,107]⟩)) (cond (v5.toList==(⟨#[115,104,111,119]⟩:ByteArray).toList) (B_ (pK L.1) λfa=>some ((S,aa),fa)) (cond (v5.toList==(⟨#[100,101,115,99,114,105,98,101]⟩:ByteArray).toList) (B_ (OB L.1) λdS=>some ((S,aa),dS)) (cond (v5.toList==(⟨#[101,109,112,116,121]⟩:ByteArray).toList) (B_ (OI L.1) λeM=>B_ (k7 eM) λhl=>some ((S,aa),hl)) (cond (v5.toList==(⟨#[119,105,100,116,104]⟩:ByteArray).toList) (B_ (rJ L.1) λhQ=>B_ (k7 hQ) λhR=>some ((S,aa),hR)) (cond (v5.toList==(⟨#[100,105,114,101,99,116,105,111,110,115]⟩:ByteArray).toList) (B_ (A3 L.1) λjr=>B_ (D7 jr) λlz=>B_ (sY lz ⟨#[45]⟩) λk6=>some ((S,aa),k6)) (cond (v5.toList==(⟨#[99,111,114,110,101,114,115]⟩:ByteArray).toList) (B_ (OK L.1) λhS=>some ((S,aa),hS)) (cond (v5.toList==(⟨#[109,105,120,101,100]⟩:ByteArray).toList) (B_ (D8 L.1 L.2) λkf=>B_ (k7 kf) λkh=>some ((S,aa),kh)) (cond (v5.toList==(⟨#[115,97,109,101]⟩:ByteArray).toList) (B_ (OM L.1 L.2) λjB=>cond jB (some ((S,aa),⟨#[121,101,115]⟩)) (some ((S,aa),⟨#[110,111]⟩))) (cond (v5.toList==(⟨#[116,119,101,108,118,101]⟩:ByteArray).toList) (B_ (D9 L.1) λvN=>B_ (k7 vN) λun=>some ((S,aa),un)) (some ((S,aa),⟨#[119,104,97,116]⟩))))))))))))))))) (cond ((ap.length:Int)==1) (B_ (idx ap 0) λuo=>B_ (vT uo) λm6=>B_ (idx ap 0) λqA=>B_ (us qA) λuv=>B_ (cond (v5.toList==(⟨#[101,120,97,109,112,108,101]⟩:ByteArray).toList) (some m6.2) (some false)) λD6=>cond D6 (B_ (IV m6.1) λIN=>cond (!IN.2) (some ((S,aa),⟨#[110,111]⟩)) (B_ (pK IN.1) λWh=>some ((IN.1,aa),Wh))) (B_ (cond (v5.toList==(⟨#[100,105,108,97,116,101]⟩:ByteArray).toList) (some m6.2) (some false)) λIP=>cond IP (B_ (ON L.1 m6.1) λIQ=>cond (!IQ.2) (some ((S,aa),⟨#[110,111]⟩)) (B_ (pK IQ.1) λIR=>some ((IQ.1,aa),IR))) (B_ (cond (v5.toList==(⟨#[115,104,101,97,114]⟩:ByteArray).toList) (some m6.2) (some false)) λWi=>cond Wi (B_ (IZ ([[1,m6.1],[0,1]],[0,0]) L.1) λOD=>cond (!OD.2) (some ((S,aa),⟨#[110,111]⟩)) (B_ (pK OD.1) λOE=>some ((OD.1,aa),OE))) (B_ (cond (v5.toList==(⟨#[109,111,118,101]⟩:ByteArray).toList) (some uv.2) (some false)) λarv=>cond arv (B_ (IZ ([[1,0],[0,1]],uv.1) L.1) λWB=>cond (!WB.2) (some ((S,aa),⟨#[110,111]⟩)) (B_ (pK WB.1) λarw=>some ((WB.1,aa),arw))) (B_ (cond (v5.toList==(⟨#[97,116]⟩:ByteArray).toList) (some m6.2) (some false)) λarx=>cond arx (B_ (xW L.1 m6.1) λary=>B_ (k7 ary) λarz=>some ((S,aa),arz)) (B_ (cond (v5.toList==(⟨#[112,108,97,99,101]⟩:ByteArray).toList) (some uv.2) (some false)) λarA=>cond arA (B_ (AY L.1 uv.1) λarB=>B_ (k7 arB) λarC=>some ((S,aa),arC)) (B_ (cond (v5.toList==(⟨#[108,97,121,101,114,115]⟩:ByteArray).toList) (some uv.2) (some false)) λarD=>cond arD (B_ (OW L.1 uv.1) λarE=>B_ (rG arE) λarF=>B_ (sY arF ⟨#[110,111]⟩) λarG=>some ((S,aa),arG)) (B_ (cond (v5.toList==(⟨#[99,111,117,110,116]⟩:ByteArray).toList) (some true) (some (v5.toList==(⟨#[118,101,114,116,105,99,101,115]⟩:ByteArray).toList))) λarH=>cond arH (B_ (idx ap 0) λarI=>B_ (OZ arI) λJk=>cond (!Jk.2) (some ((S,aa),⟨#[110,111]⟩)) (cond (v5.toList==(⟨#[99,111,117,110,116]⟩:ByteArray).toList) (B_ (O2 (Jk.1.1,Jk.1.2)) λarJ=>B_ (k7 arJ) λarK=>some ((S,aa),arK)) (B_ (Jg (Jk.1.1,Jk.1.2)) λEi=>B_ (aU (Eh Ei) (([],[]),((S,aa),([],0)))) λA9=>B_ (sT A9.2.2 ⟨#[32]⟩) λWC=>B_ (sY WC ⟨#[45]⟩) λWD=>some ((A9.2.1.1,A9.2.1.2),WD)))) (some ((S,aa),⟨#[119,104,97,116]⟩)))))))))) (cond ((ap.length:Int)==2) (B_ (idx ap 0) λarL=>B_ (vT arL) λafM=>B_ (idx ap 0) λarM=>B_ (us arM) λJl=>B_ (idx ap 1) λarN=>B_ (us arN) λBa=>B_ (cond (v5.toList==(⟨#[115,112,108,105,116]⟩:ByteArray).toList) (cond Jl.2 (some Ba.2) (some false)) (cond (v5.toList==(⟨#[116,117,114,110,115]⟩:ByteArray).toList) (cond Jl.2 (some Ba.2) (some false)) (some false))) λarO=>cond arO (B_ (xX (Jl.1,Ba.1)) λarP=>cond (!arP) (some ((S,aa),⟨#[110,111]⟩)) (cond (v5.toList==(⟨#[115,112,108,105,116]⟩:ByteArray).toList) (B_ (Ee (Jl.1,Ba.1)) λarQ=>B_ (D7 arQ) λarR=>some ((S,aa),arR)) (B_ (Pe (Jl.1,Ba.1)) λarS=>B_ (rG arS) λarT=>B_ (sY arT ⟨#[45]⟩) λarU=>some ((S,aa),arU)))) (B_ (cond (v5.toList==(⟨#[119,97,121,115]⟩:ByteArray).toList) (cond afM.2 (some Ba.2) (some false)) (some false)) λarV=>cond arV (B_ (Ph Ba.1 afM.1) λarW=>B_ (k7 arW) λarX=>some ((S,aa),arX)) (some ((S,aa),⟨#[119,104,97,116]⟩)))) (some ((S,aa),⟨#[119,104,97,116]⟩)))))
def WE:a4:=⟨9,[.d false (.prod fN fN),iW],[.a [.o true 65 bF,.o true 65 bF],gN],λx=>v4 x.1 x.2⟩
noncomputable def afN:da:=⟨Tryz.prog,oq,[VK],[],[⟨4,[],[],[(2,false)],0⟩],[],[],[]⟩
def WF:mg:=⟨36,false,nu afN Tryz.f36⟩
def arY:eZ Tryz.prog WF.f/\kM False Tryz.prog WF:=GR (N:=afN) o6 ⟨aes,trivial⟩ func36 (by kernel_rfl)
def afO:bk False WE:=uc [] [(3,[0,3,4,1,2,5,6]),(5,[48]),(47,[206]),(49,[220]),(51,[236]),(53,[257]),(55,[277]),(57,[289]),(59,[301]),(61,[314]),(78,[377]),(85,[408])] [AK,DH,Io,VG,VN,VX,V3,V4,VK,aeT,ae3,Iw,Ox,ae4,ae5,Wp,ae7,ae8,afb,afc,Iq,N1,Ws,A5,afn,On,V1,afp,DP,afr,afv,afE,afF,IL,WA,afI,afK] [cv 69 [(4,.b 26 [.o true 65 bF,.o true 65 bF]),(6,.b 26 [.o true 65 bF,.o true 65 bF]),(17,jc 9),(340,aZ)] 3 [(4,.b 26 [.o true 65 bF,.o true 65 bF]),(6,.b 26 [.o true 65 bF,.o true 65 bF]),(17,jc 9)]] [cr 1 0,cr 3 0,⟨25,[],[],[(6,false)],0⟩,⟨27,[],[],[(6,false)],0⟩,⟨29,[],[],[(6,false)],0⟩,⟨31,[],[],[(6,false)],0⟩,⟨33,[],[],[(6,false)],0⟩,⟨35,[],[],[(6,false)],0⟩,⟨37,[],[],[(6,false)],0⟩,⟨43,[],[],[(6,false)],0⟩,⟨56,[],[],[(6,false)],0⟩,⟨58,[],[],[(6,false)],0⟩,⟨60,[],[],[(6,false)],0⟩,⟨66,[],[],[(6,false),(15,false)],0⟩,⟨73,[],[],[(6,false)],0⟩,⟨83,[],[],[(6,false),(26,false)],0⟩,⟨84,[],[],[(6,false),(26,false)],0⟩,⟨86,[],[],[(6,false)],0⟩] [WF] ⟨DG,In,N0,aeq,aeu,aeE,aeJ,aeK,aes,aqC,aqN,N4,V9,aqO,aqP,ae6,aqQ,aqR,aqU,aqV,VA,VD,afe,aqY,aq5,V5,aeG,aq7,Ix,ara,ard,arn,aro,Oy,afH,arq,ars,trivial⟩ ⟨arY,trivial⟩
def Jm(S:List ByteArray)(aj:List ByteArray×(al×al)×Int):Option (List ByteArray×(al×al)×Int⊕List ByteArray):=cond (d_ (aj.2.2<(S.length:Int))) (B_ (idx S aj.2.2) λap=>B_ (AJ (aj.2.1.1,aj.2.1.2) ap) λv5=>B_ (bI 16 aj.1 [v5.2]) λaL=>some (.inl (aL,((v5.1.1,v5.1.2),W_ i64 (aj.2.2+1))))) (some (.inr aj.1))
def Pj(L:ByteArray):Option (List ByteArray×Bool):=B_ (ud L 10) λS=>cond (d_ ((S.length:Int)>40)) (some ([],false)) (B_ MM λaa=>B_ (aU (Jm S) ([],((aa.1,aa.2),0))) λaK=>some (aK,true))
def afP:a4:=⟨17,[iW],[jc 9,ca],λx=>Pj x⟩
def arZ{ae:Prop}:bk ae afP:=bm [Af,acQ,ael] [cv 7 [(5,jc 9),(6,.b 26 [.o true 65 bF,.o true 65 bF]),(7,aZ)] 0 [(5,jc 9)]] [cr 9 1] ⟨C5,ape,aqg,trivial⟩
def Jn:Option (al×al):=B_ (IV 1) λS=>B_ (ov S.1) λaa=>some (S.1,aa)
def WG:a4:=⟨29,[],[.a [.o true 65 bF,.o true 65 bF]],λx=>Jn⟩
def afQ:bk False WG:=bm [Ws,AK] [] [] ⟨afe,DG,trivial⟩
def v6(S:List ByteArray)(aj:(al×al)×List ByteArray×Int):Option ((al×al)×List ByteArray×Int⊕List ByteArray):=cond (d_ (aj.2.2<(S.length:Int))) (B_ (idx S aj.2.2) λap=>B_ (v4 (aj.1.1,aj.1.2) ap) λv5=>B_ (bI 16 aj.2.1 [v5.2]) λaL=>some (.inl ((v5.1.1,v5.1.2),(aL,W_ i64 (aj.2.2+1))))) (some (.inr aj.2.1))
def Jo(L:ByteArray):Option (List ByteArray×Bool):=B_ (vS L 10) λS=>cond (d_ ((S.length:Int)>40)) (some ([],false)) (B_ Jn λaa=>B_ (aU (v6 S) ((aa.1,aa.2),([],0))) λaK=>some (aK,true))
def afR:a4:=⟨18,[iW],[jc 9,ca],λx=>Jo x⟩
def ar0:bk False afR:=bm [DH,WG,WE] [cv 7 [(5,.b 26 [.o true 65 bF,.o true 65 bF]),(6,jc 9),(19,aZ)] 0 [(6,jc 9)]] [] ⟨In,afQ,afO,trivial⟩
def Pk(L:List Int)(aa:List Int×Int):Option (List Int×Int⊕List Int):=cond (d_ (aa.2<(L.length:Int))) (B_ (idx L aa.2) λaj=>B_ (bG aa.1.length aa.2) λ_=>B_ (bG aa.1.length ((aa.2.toNat:Nat):Int)) λ_=>some (.inl (aa.1.set aa.2.toNat aj,W_ i64 (aa.2+1)))) (some (.inr aa.1))
def WH(L:List Int):Option (List Int):=B_ (nZ 8 (L.length:Int) 0) λS=>B_ (aU (Pk L) (S,0)) λap=>some ap
def Pl(L:al)(aa:al×Int):Option (al×Int⊕al):=cond (d_ (aa.2<(L.length:Int))) (B_ (idx L aa.2) λaj=>B_ (WH aj) λap=>B_ (bG aa.1.length aa.2) λ_=>B_ (bG aa.1.length ((aa.2.toNat:Nat):Int)) λ_=>some (.inl (aa.1.set aa.2.toNat ap,W_ i64 (aa.2+1)))) (some (.inr aa.1))
def WI(L:al):Option al:=B_ (nZ 24 (L.length:Int) []) λS=>B_ (aU (Pl L) (S,0)) λv5=>some v5
def Jp(L:List Int×Int×Int)(av:Int):Option (Bool×(List Int×Int×Int)×Unit):=B_ (ot (L.1,(L.2.1,L.2.2)) av) λS=>some (S.1==0,((S.2.1.1,(S.2.1.2.1,S.2.1.2.2)),()))
def afS:a4:=⟨95,[.cur 106,ey],[ca],λx=>Jp x.1 x.2⟩
def ar1{ae:Prop}:bk ae afS:=bm [Ap] [] [] ⟨Dc,trivial⟩
def afT(L:List Int)(S:Int×Int):Option (Int×Int⊕Int):=cond (d_ (S.2<(L.length:Int))) (cond (d_ (S.2<4000)) (B_ (idx L S.2) λaa=>some (.inl (tq .i64 (W_ i64 (W_ i64 (W_ i64 (S.1*131)+W_ i64 aa)+7)) 1073741823,W_ i64 (S.2+1)))) (some (.inr S.1))) (some (.inr S.1))
def afU(aL:Int×(List Int×Int×Int)×Unit)(aK:(List Int×Int×Int)×List ByteArray×Int):Option ((List Int×Int×Int)×List ByteArray×Int⊕List ByteArray):=cond (d_ (aK.2.2<W_ i64 (39+aL.1))) (cond (d_ (W_ i64 (39+aL.1)>20)) (B_ (bI 16 aK.2.1 [⟨#[115,104,111,119]⟩]) λbe=>some (.inl ((aK.1.1,(aK.1.2.1,aK.1.2.2)),(be,W_ i64 (aK.2.2+1))))) (B_ (As (aK.1.1,(aK.1.2.1,aK.1.2.2))) λa8=>B_ (bI 16 aK.2.1 [a8.1]) λbA=>some (.inl ((a8.2.1.1,(a8.2.1.2.1,a8.2.1.2.2)),(bA,W_ i64 (aK.2.2+1)))))) (some (.inr aK.2.1))
def afV(ap:Int×(List Int×Int×Int)×Unit)(cw:(List Int×Int×Int)×List ByteArray×Int):Option ((List Int×Int×Int)×List ByteArray×Int⊕List ByteArray):=cond (d_ (cw.2.2<W_ i64 (1+ap.1))) (cond (d_ (W_ i64 (1+ap.1)>20)) (B_ (bI 16 cw.2.1 [⟨#[115,104,111,119]⟩]) λdx=>some (.inl ((cw.1.1,(cw.1.2.1,cw.1.2.2)),(dx,W_ i64 (cw.2.2+1))))) (B_ (As (cw.1.1,(cw.1.2.1,cw.1.2.2))) λdk=>B_ (bI 16 cw.2.1 [dk.1]) λep=>some (.inl ((dk.2.1.1,(dk.2.1.2.1,dk.2.1.2.2)),(ep,W_ i64 (cw.2.2+1)))))) (some (.inr cw.2.1))
def Pm(L:List Int):Option ByteArray:=B_ (aU (afT L) (W_ i64 (26583+(L.length:Int)),0)) λaj=>B_ (ot (L,(0,aj)) 6) λap=>B_ (Jp (ap.2.1.1,(ap.2.1.2.1,ap.2.1.2.2)) 16) λv5=>cond v5.1 (B_ (ot (v5.2.1.1,(v5.2.1.2.1,v5.2.1.2.2)) 3) λaL=>B_ (aU (afU aL) ((aL.2.1.1,(aL.2.1.2.1,aL.2.1.2.2)),([],0))) λbC=>B_ (pI bC ⟨#[10]⟩) λbJ=>some bJ) (B_ (aU (afV ap) ((v5.2.1.1,(v5.2.1.2.1,v5.2.1.2.2)),([],0))) λdF=>B_ (pI dF ⟨#[10]⟩) λeJ=>some eJ)
def afW:a4:=⟨27,[.d false (.list (.int .u8))],[gN],λx=>Pm x⟩
noncomputable def afX:da:=⟨Tryz.prog,oq,[],[⟨3,[(3,aZ),(4,aZ)],some (0,[(3,aZ)]),none,true,none⟩],[],[],[],[]⟩
def WJ:mg:=⟨31,false,nu afX Tryz.f31⟩
def ar2{ae:Prop}:eZ Tryz.prog WJ.f/\kM ae Tryz.prog WJ:=GR (N:=afX) o6 trivial func31 (by kernel_rfl)
def ar3{ae:Prop}:bk ae afW:=MD [Ap,afS,acV,Aq] [cv 7 [(3,.b 106 [.d false (.list (.int .u8)),.d false bH,.d false bH]),(4,jc 9),(6,aZ)] 0 [(4,jc 9)]] [] [WJ] ⟨Dc,ar1,apj,Dd,trivial⟩ ⟨ar2,trivial⟩
def Jq(L:List ByteArray)(av:List ByteArray)(S:Int):Option (Int⊕Unit⊕Bool):=cond (d_ (S<(L.length:Int))) (B_ (idx L S) λaa=>B_ (idx av S) λaj=>cond (! aa.toList==aj.toList) (some (.inr (.inr false))) (some (.inl (W_ i64 (S+1))))) (some (.inr (.inl ())))
def Pn(L:List ByteArray)(av:List ByteArray):Option Bool:=cond ((L.length:Int)!=(av.length:Int)) (some false) (B_ (aU (Jq L av) 0) λap=>match ap with|.inl v5=>some true|.inr aL=>some aL)
def afY:a4:=⟨28,[.d false (.list .str),.d false (.list .str)],[ca],λx=>Pn x.1 x.2⟩
def ar4{ae:Prop}:bk ae afY:=bm [] [⟨4,[(5,aZ)],some (0,[]),some [(4,ca)],false,none⟩] [cr 6 0] trivial
def Jr(aj:List ByteArray×Bool)(aK:List ByteArray)(be:(al×al)×Int):Option ((al×al)×Int⊕Unit⊕Bool):=cond (d_ (be.2<(aK.length:Int))) (B_ (idx aK be.2) λa8=>B_ (v4 (be.1.1,be.1.2) a8) λbA=>cond (d_ (be.2>=(aj.1.length:Int))) (some (.inr (.inr false))) (B_ (idx aj.1 be.2) λbC=>cond (! bC.toList==bA.2.toList) (some (.inr (.inr false))) (some (.inl ((bA.1.1,bA.1.2),W_ i64 (be.2+1)))))) (some (.inr (.inl ())))
def WK(L:List Int):Option Bool:=B_ (UE L) λS=>cond S (some true) (B_ (Pm L) λaa=>B_ (Jo aa) λaj=>B_ (Pj aa) λap=>cond (! aj.2==ap.2) (some false) (B_ (Pn aj.1 ap.1) λv5=>cond (!v5) (some false) (cond (!aj.2) (some ((aj.1.length:Int)==0)) (B_ Jn λaL=>B_ (ud aa 10) λaK=>B_ (aU (Jr aj aK) ((aL.1,aL.2),0)) λbJ=>match bJ with|.inl cw=>some ((aj.1.length:Int)==(aK.length:Int))|.inr dx=>some dx))))
def ar5:a4:=⟨6,[.d false (.list (.int .u8))],[ca],λx=>WK x⟩
def ar6:bk False ar5:=uc [] [(16,[1,2,0,3,4,5,6,7,8,9,10])] [acE,afW,afR,afP,afY,WG,Af,WE] [⟨13,[(8,.b 26 [.o true 65 bF,.o true 65 bF]),(10,aZ)],some (0,[]),some [(2,ca)],false,none⟩] [] [] ⟨apb,ar3,ar0,arZ,ar4,afQ,C5,afO,trivial⟩ trivial
end
end Go.Proofs.YtmljnmmdahlfdaaGreatDoor
