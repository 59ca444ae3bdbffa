/- What functions of the program compute, and the walks that show it. No condition. -/
import Derived.Test.YtbeaohmbmfjabaaGreatDoorPTakeFromNetworkG6
import Derived.Test.YtbeaohmbmfjabaaGreatDoorPTakeFromNetworkG4
import Derived.Sort.Walk0
import Derived.Lib.ItoaNum
import Derived.Lib.ItoaLen
import Derived.Lib.Atoi
set_option linter.unusedVariables false
set_option linter.unusedSimpArgs false
namespace Go.Cx
open Go.RowKit Go.Proofs Tryz
set_option maxRecDepth 100000
variable{Γ:vP}{N:Nat->St->Prop}
def kZ(aB:aT)(aV:Bytes)(cV:Bytes)(k1:Bool->aT->Option (aT×Bool)):aT->Nat->Bool->aT->Option (aT×Bool)
 | [],i1,AB,bC=>(k1 AB bC)
 |bD::bn,i1,AB,bC=>(bif !(AB)then(bif !(Op.bytesLess bD.var aV||(bD.var:Bytes)==aV)then(bif room ((bC.map aS.c).length+([[D.str aV,D.str cV]]).length) 32 then(bif room (((bC.map aS.c)++([[D.str aV,D.str cV]])).length+([[D.str bD.var,D.str bD.value]]).length) 32 then(kZ aB aV cV k1 bn (i1+1) true ((bC++([(⟨aV,cV⟩:aS)]))++([bD])))else none)else none)else(bif room ((bC.map aS.c).length+([[D.str bD.var,D.str bD.value]]).length) 32 then(kZ aB aV cV k1 bn (i1+1) AB (bC++([bD])))else none))else(bif room ((bC.map aS.c).length+([[D.str bD.var,D.str bD.value]]).length) 32 then(kZ aB aV cV k1 bn (i1+1) AB (bC++([bD])))else none))
def ud(aB:aT)(aV:Bytes)(cV:Bytes):Option (aT×Bool):=((kf aB).bind fun y1=>(bif !(y1)then(some ([],false))else((lR aV).bind fun y4=>(bif !(y4)then(some ([],false))else((fG cV).bind fun y7=>(bif !(y7)then(some ([],false))else((pu aB aV).bind fun Oa=>(bif Oa.2 then(bif !((Oa.1:Bytes)==cV)then(some ([],false))else((jE aB).bind fun U6=>(some (U6,true))))else(bif decide ((((aB.map aS.c).length:Int):Int)>=6)then(some ([],false))else(kZ aB aV cV (fun(Vg:Bool) (bO:aT)=>(bif !(Vg)then(bif room ((bO.map aS.c).length+([[D.str aV,D.str cV]]).length) 32 then(some (bO++([(⟨aV,cV⟩:aS)]),true))else none)else(some (bO,true)))) aB 0 false ([]:aT)))))))))))
def wI(aB:aT)(aV:Bytes)(cV:Bytes)(AB:Bool)(W1:List aR)(cS:Int):St:=⟨[(1,D.str aV),(2,D.str cV),(10,D.acc 0),(11,D.bool AB),(42,D.sl (aB.map aS.c)),(43,D.int .i64 ((aB.map aS.c).length:Int)),(44,D.int .i64 cS)],[Ob.row .uq 152 2 W1]⟩
theorem MH(hΓ:Γ.nt=76){aB:aT}{aV:Bytes}{cV:Bytes}{r:aT×Bool}{k1:Bool->aT->Option (aT×Bool)}(cX:∀(Vg:Bool) (bO:aT),k1 Vg bO=some r->Ax Γ N f127 (.q [[some (152,2)],[none]] (D.gb [D.fr 152 2 (r.1.map aS.c),D.bool r.2])) [1,1,1,1,1,1,1] ⟨[(1,D.str aV),(2,D.str cV),(10,D.acc 0),(11,D.bool Vg)],[Ob.row .uq 152 2 (bO.map aS.c)]⟩)(hm1:aB.length<=maxLen):∀(rest:aT) (i1:Nat) (AB:Bool) (bC:aT),aB.drop i1=rest->kZ aB aV cV k1 rest i1 AB bC=some r->Ar Γ N f127 (.q [[some (152,2)],[none]] (D.gb [D.fr 152 2 (r.1.map aS.c),D.bool r.2])) [1,1,1,1,1,1,0,1,0] (rest.length+1) (wI aB aV cV AB (bC.map aS.c) (i1:Int)):=by
 intro rest
 induction rest with
 |nil=>
  intro i1 AB bC aq h;rw[kZ]at h;refine aM fun N1 bu bq=>?_
  exact((aU.ge aS.c aq).a [.hl 0 [1,2,10,11] [0]]).ex hΓ bu (cX AB bC h)
 |cons bD bn ih1=>
  intro i1 AB bC aq h;rw[kZ]at h;refine aM fun N1 bu bq=>?_
  have kT:=((aU.lt aS.c aq).l (ax aS.c 2 (dc aq) rfl))
  obtain⟨h58,h⟩|⟨h58,h⟩:=aL h
  ·have jN:=(kT.r 5 h58)
   obtain⟨h59,h⟩|⟨h59,h⟩:=aL h
   ·obtain⟨h60,h⟩:=bX h;obtain⟨h61,h⟩:=bX h;exact((((jN.b h59).w (cG h60)).w (cG h61)).a [.cn [1,2,10,11,42,43,44] [5]]).cs hΓ bq (wI aB aV cV true (((bC.map aS.c)++([[D.str aV,D.str cV]]))++([[D.str bD.var,D.str bD.value]])) (IntKind.i64.wrap ((i1:Int)+1))) (by first| (simp only[iS aq hm1,mA]<;>rfl)| (simp only[iS aq hm1,mA,aE.c,aS.c,aN.c,Action.c,aO.c,aJ.c,cx.c,aP.c,Node.c,aF.c,cy.c]<;>rfl)) (ih1 (i1+1) true ((bC++([(⟨aV,cV⟩:aS)]))++([bD])) (dn aq) h)
   ·obtain⟨h62,h⟩:=bX h;exact(((jN.b h59).w (cG h62)).a [.cn [1,2,10,11,42,43,44] [3]]).cs hΓ bq (wI aB aV cV AB ((bC.map aS.c)++([[D.str bD.var,D.str bD.value]])) (IntKind.i64.wrap ((i1:Int)+1))) (by first| (simp only[iS aq hm1,mA]<;>rfl)| (simp only[iS aq hm1,mA,aE.c,aS.c,aN.c,Action.c,aO.c,aJ.c,cx.c,aP.c,Node.c,aF.c,cy.c]<;>rfl)) (ih1 (i1+1) AB (bC++([bD])) (dn aq) h)
  ·obtain⟨h63,h⟩:=bX h;exact((((kT.r 5 h58).F 1).w (cG h63)).a [.cn [1,2,10,11,42,43,44] [3]]).cs hΓ bq (wI aB aV cV AB ((bC.map aS.c)++([[D.str bD.var,D.str bD.value]])) (IntKind.i64.wrap ((i1:Int)+1))) (by first| (simp only[iS aq hm1,mA]<;>rfl)| (simp only[iS aq hm1,mA,aE.c,aS.c,aN.c,Action.c,aO.c,aJ.c,cx.c,aP.c,Node.c,aF.c,cy.c]<;>rfl)) (ih1 (i1+1) AB (bC++([bD])) (dn aq) h)
theorem KS{aB:aT}{aV:Bytes}{cV:Bytes}{r:aT×Bool}(h:ud aB aV cV=some r):Good prog 127 [D.sl (aB.map aS.c),D.str aV,D.str cV] (D.gb [D.fr 152 2 (r.1.map aS.c),D.bool r.2]):=by
 refine gd func127 [[some (152,2)],[none]] 76 fun hr Γ hΓ=>?_
 rw[ud]at h;obtain⟨y1,h2,h⟩:=aD h;obtain⟨h3,h⟩|⟨h3,h⟩:=aL h
 ·cases h;exact(((aU.g (me h2)).r 4 h3).T 5).ret hΓ
 ·obtain⟨y4,h5,h⟩:=aD h;have uY:=((((aU.g (me h2)).r 2 h3).g (o7 h5)).r 2 h3)
  obtain⟨h6,h⟩|⟨h6,h⟩:=aL h
  ·cases h;exact((uY.r 4 h6).T 1).ret hΓ
  ·obtain⟨y7,h8,h⟩:=aD h;have wX:=(((uY.r 2 h6).g (eU h8)).r 2 h6)
   obtain⟨h9,h⟩|⟨h9,h⟩:=aL h
   ·cases h;exact(wX.b h9).ret hΓ
   ·obtain⟨Oa,h11,h⟩:=aD h;have AG:=((wX.b h9).g (wg h11))
    obtain⟨h12,h⟩|⟨h12,h⟩:=aL h
    ·obtain⟨h13,h⟩|⟨h13,h⟩:=aL h
     ·cases h;exact((AG.b h12).b h13).ret hΓ
     ·obtain⟨U6,h15,h⟩:=aD h;cases h;exact(((AG.b h12).b h13).g (vC h15)).ret hΓ
    ·obtain⟨h16,h⟩|⟨h16,h⟩:=aL h
     ·cases h;exact((AG.b h12).b h16).ret hΓ
     ·refine(((AG.b h12).b h16).a [.PT 10,.cn [1,2,10,11,42,43,44] [0]]).lp hΓ (MH hΓ (fun Vg bO h=>?_) (by have:=(dS.sl (hr _ (aC (i:=0) rfl))).1;simpa using this) aB 0 false ([]:aT) rfl h);obtain⟨h64,h⟩|⟨h64,h⟩:=aL h
      ·obtain⟨h65,h⟩:=bX h;cases h;exact((aU.b h64).w (cG h65)).rts hΓ (D.gb [D.fr 152 2 ((bO.map aS.c)++([[D.str aV,D.str cV]])),D.bool true]) (by first|rfl| (simp only[mA]<;>rfl)| (simp only[cU,mA]<;>rfl))
      ·cases h;exact(aU.b h64).ret hΓ
def jT(aB:aE)(aV:aE)(k1:aT->Option (aT×Bool)):aI->Nat->aT->Option (aT×Bool)
 | [],i1,cB=>(k1 cB)
 |bD::bn,i1,cB=>((fG bD).bind fun y80=>(bif y80 then((mC aV.args (i1:Int)).bind fun x83=>(bif !((bD:Bytes)==x83)then(some ([],false))else(jT aB aV k1 bn (i1+1) cB)))else((mC aV.args (i1:Int)).bind fun x86=>((ud cB bD x86).bind fun y88=>(bif !(y88.2)then(some ([],false))else(jT aB aV k1 bn (i1+1) y88.1))))))
def jC(aB:aE)(aV:aE)(cV:aT):Option (aT×Bool):=((jA aB).bind fun y1=>(bif !(y1)then(some ([],false))else((rI aV).bind fun y4=>(bif !(y4)then(some ([],false))else((kf cV).bind fun y7=>(bif !(y7)then(some ([],false))else(bif !((aB.rel:Bytes)==aV.rel)then(some ([],false))else(bif (((aB.args.map tx).length:Int):Int) != ((aV.args.map tx).length:Int)then(some ([],false))else((jE cV).bind fun y12=>(jT aB aV (fun(bO:aT)=>(some (bO,true))) aB.args 0 y12))))))))))
def IW(aB:aE)(aV:aE)(W0:List aR)(cS:Int):St:=⟨[(4,D.ptr 0 0),(8,D.acc 1),(45,D.sl (aB.args.map tx)),(46,D.int .i64 ((aB.args.map tx).length:Int)),(47,D.int .i64 cS)],[Ob.box (aE.c aV),Ob.row .uq 152 2 W0]⟩
theorem GH(hΓ:Γ.nt=77){aB:aE}{aV:aE}{r:aT×Bool}{k1:aT->Option (aT×Bool)}(cX:∀(bO:aT),k1 bO=some r->Ax Γ N f239 (.q [[some (152,2)],[none]] (D.gb [D.fr 152 2 (r.1.map aS.c),D.bool r.2])) [1,1,1,1] ⟨[(8,D.acc 0)],[Ob.row .uq 152 2 (bO.map aS.c)]⟩)(hm1:aB.args.length<=maxLen):∀(rest:aI) (i1:Nat) (cB:aT),aB.args.drop i1=rest->jT aB aV k1 rest i1 cB=some r->Ar Γ N f239 (.q [[some (152,2)],[none]] (D.gb [D.fr 152 2 (r.1.map aS.c),D.bool r.2])) [1,1,1,0,1,0] (rest.length+1) (IW aB aV (cB.map aS.c) (i1:Int)):=by
 intro rest
 induction rest with
 |nil=>
  intro i1 cB aq h;rw[jT]at h;refine aM fun N1 bu bq=>?_
  exact((aU.ge tx aq).a [.hl 0 [8] [1]]).ex hΓ bu (cX cB h)
 |cons bD bn ih1=>
  intro i1 cB aq h;rw[jT]at h;refine aM fun N1 bu bq=>?_
  obtain⟨y80,h81,h⟩:=aD h;have jN:=(((aU.lt tx aq).l (ax tx 1 (dc aq) rfl)).g (eU h81))
  obtain⟨h82,h⟩|⟨h82,h⟩:=aL h
  ·obtain⟨x83,h84,h⟩:=aD h;have uY:=((jN.b h82).l (dV tx 1 h84 rfl))
   obtain⟨h85,h⟩|⟨h85,h⟩:=aL h
   ·cases h;exact(uY.b h85).ret hΓ
   ·exact((uY.b h85).a [.cn [4,8,45,46,47] [0,1]]).ct hΓ bq (iS aq hm1) (ih1 (i1+1) cB (dn aq) h)
  ·obtain⟨x86,h87,h⟩:=aD h;obtain⟨y88,h89,h⟩:=aD h;have wX:=(((jN.b h82).l (dV tx 1 h87 rfl)).g (KS h89))
   obtain⟨h90,h⟩|⟨h90,h⟩:=aL h
   ·cases h;exact(wX.b h90).ret hΓ
   ·exact((wX.b h90).a [.cn [4,8,45,46,47] [0,2]]).ct hΓ bq (iS aq hm1) (ih1 (i1+1) y88.1 (dn aq) h)
theorem qM{aB:aE}{aV:aE}{cV:aT}{r:aT×Bool}(h:jC aB aV cV=some r):Good prog 239 [D.agg (aE.c aB),D.agg (aE.c aV),D.sl (cV.map aS.c)] (D.gb [D.fr 152 2 (r.1.map aS.c),D.bool r.2]):=by
 refine gd func239 [[some (152,2)],[none]] 77 fun hr Γ hΓ=>?_
 rw[jC]at h;obtain⟨y1,h2,h⟩:=aD h;obtain⟨h3,h⟩|⟨h3,h⟩:=aL h
 ·cases h;exact(((aU.g (jo h2)).r 4 h3).T 19).ret hΓ
 ·obtain⟨y4,h5,h⟩:=aD h;have AG:=((((aU.g (jo h2)).r 2 h3).g (Bc h5)).r 2 h3)
  obtain⟨h6,h⟩|⟨h6,h⟩:=aL h
  ·cases h;exact((AG.r 4 h6).T 15).ret hΓ
  ·obtain⟨y7,h8,h⟩:=aD h;have D3:=(((AG.r 2 h6).g (me h8)).r 2 h6)
   obtain⟨h9,h⟩|⟨h9,h⟩:=aL h
   ·cases h;exact((D3.r 6 h9).T 9).ret hΓ
   ·have Hw:=(D3.r 6 h9)
    obtain⟨h10,h⟩|⟨h10,h⟩:=aL h
    ·cases h;exact((Hw.r 8 h10).T 1).ret hΓ
    ·have yc:=(Hw.r 8 h10)
     obtain⟨h11,h⟩|⟨h11,h⟩:=aL h
     ·cases h;exact(yc.b h11).ret hΓ
     ·obtain⟨y12,h13,h⟩:=aD h;refine(((yc.b h11).g (vC h13)).a [.cn [4,8,45,46,47] [1,2]]).lp hΓ (GH hΓ (fun bO h=>?_) (by have:=(dS.sl (dS.agg (hr _ (aC (i:=0) rfl)) (.sl (aB.args.map tx)) (by simp))).1;simpa using this) aB.args 0 y12 rfl h);cases h;exact aU.ret hΓ
def fe(aB:aE)(aV:aT)(cV:aQ)(k1:aQ->Option aQ):aQ->Nat->aQ->Option aQ
 | [],i1,cB=>(k1 cB)
 |bD::bn,i1,cB=>((jC aB bD aV).bind fun Yl=>(bif Yl.2 then((j5 bD).bind fun D2=>(bif room ((cB.map aE.c).length+([[D.str D2.rel,D.sl (D2.args.map tx)]]).length) 40 then(fe aB aV cV k1 bn (i1+1) (cB++([D2])))else none))else(fe aB aV cV k1 bn (i1+1) cB)))
def iR(aB:aE)(aV:aT)(cV:aQ):Option aQ:=(fe aB aV cV (fun(bO:aQ)=>(some bO)) cV 0 ([]:aQ))
def xq(aB:aE)(aV:aT)(cV:aQ)(W0:List aR)(cS:Int):St:=⟨[(1,D.sl (aV.map aS.c)),(3,D.ptr 0 0),(7,D.acc 1),(12,D.sl (cV.map aE.c)),(13,D.int .i64 ((cV.map aE.c).length:Int)),(14,D.int .i64 cS)],[Ob.box (aE.c aB),Ob.row .uq 53 2 W0]⟩
theorem Ci(hΓ:Γ.nt=33){aB:aE}{aV:aT}{cV:aQ}{r:aQ}{k1:aQ->Option aQ}(cX:∀(bO:aQ),k1 bO=some r->Ax Γ N f202 (.q [[some (53,2)]] (D.fr 53 2 (r.map aE.c))) [1,1,1] ⟨[(7,D.acc 0)],[Ob.row .uq 53 2 (bO.map aE.c)]⟩)(hm1:cV.length<=maxLen):∀(rest:aQ) (i1:Nat) (cB:aQ),cV.drop i1=rest->fe aB aV cV k1 rest i1 cB=some r->Ar Γ N f202 (.q [[some (53,2)]] (D.fr 53 2 (r.map aE.c))) [1,1,0,1,0] (rest.length+1) (xq aB aV cV (cB.map aE.c) (i1:Int)):=by
 intro rest
 induction rest with
 |nil=>
  intro i1 cB aq h;rw[fe]at h;refine aM fun N1 bu bq=>?_
  exact((aU.ge aE.c aq).a [.hl 0 [7] [1]]).ex hΓ bu (cX cB h)
 |cons bD bn ih1=>
  intro i1 cB aq h;rw[fe]at h;refine aM fun N1 bu bq=>?_
  obtain⟨Yl,h43,h⟩:=aD h;have dJ:=(((aU.lt aE.c aq).l (ax aE.c 2 (dc aq) rfl)).g (qM h43))
  obtain⟨h44,h⟩|⟨h44,h⟩:=aL h
  ·obtain⟨D2,h46,h⟩:=aD h;obtain⟨h47,h⟩:=bX h;exact((((dJ.b h44).g (vf h46)).w (cG h47)).a [.cn [1,3,7,12,13,14] [0,6]]).cs hΓ bq (xq aB aV cV ((cB.map aE.c)++([[D.str D2.rel,D.sl (D2.args.map tx)]])) (IntKind.i64.wrap ((i1:Int)+1))) (by first| (simp only[iS aq hm1,mA]<;>rfl)| (simp only[iS aq hm1,mA,aE.c,aS.c,aN.c,Action.c,aO.c,aJ.c,cx.c,aP.c,Node.c,aF.c,cy.c]<;>rfl)) (ih1 (i1+1) (cB++([D2])) (dn aq) h)
  ·exact((dJ.b h44).a [.cn [1,3,7,12,13,14] [0,1]]).ct hΓ bq (iS aq hm1) (ih1 (i1+1) cB (dn aq) h)
theorem mX{aB:aE}{aV:aT}{cV:aQ}{r:aQ}(h:iR aB aV cV=some r):Good prog 202 [D.agg (aE.c aB),D.sl (aV.map aS.c),D.sl (cV.map aE.c)] (D.fr 53 2 (r.map aE.c)):=by
 refine gd func202 [[some (53,2)]] 33 fun hr Γ hΓ=>?_
 rw[iR]at h;refine(aU.a [.PT 7,.cn [1,3,7,12,13,14] [0,1]]).lp hΓ (Ci hΓ (fun bO h=>?_) (by have:=(dS.sl (hr _ (aC (i:=2) rfl))).1;simpa using this) cV 0 ([]:aQ) rfl h);have h:=aG h;subst h;exact aU.ret hΓ
def mq(aB:aF)(k1:bJ->Option aj):Nat->Int->bJ->Option aj
 |0,_,_=>none
 |n1+1,b7,cB=>(bif room ((cB.map dZ).length+([[D.int .i64 b7]]).length) 8 then((mC aB.nodes b7).bind fun x19=>(bif decide ((x19.parent:Int)<1)then(k1 (cB++([b7])))else(bif decide ((x19.parent:Int)>=b7)then(k1 (cB++([b7])))else(mq aB k1 n1 x19.parent (cB++([b7]))))))else none)
def kj(aB:aF)(C2:bJ)(k2:aj->Option aj):Nat->Int->aj->Option aj
 |0,_,_=>none
 |n2+1,PX,RD=>(bif decide ((PX:Int)>=0)then((mC C2 PX).bind fun x72=>((mC aB.nodes x72).bind fun x74=>((er x74.cond).bind fun y76=>(bif room ((RD.map aN.c).length+([[D.int .i64 y76.kind,D.str y76.pat.rel,D.sl (y76.pat.args.map tx),D.str y76.left,D.str y76.right]]).length) 80 then(kj aB C2 k2 n2 (IntKind.i64.wrap (PX-1)) (RD++([y76])))else none))))else(k2 RD))
def xB(aB:aF)(aV:Int):Option aj:=(bif decide ((aV:Int)<1)then(some ([]))else(bif decide ((aV:Int)>=((aB.nodes.map Node.c).length:Int))then(some ([]))else(mq aB (fun(C2:bJ)=>(kj aB C2 (fun(PU:aj)=>(some PU)) fuel (IntKind.i64.wrap (((C2.map dZ).length:Int)-1)) ([]:aj))) fuel aV ([]:bJ))))
def DK(aB:aF)(b7:Int)(W1:List aR):St:=⟨[(1,D.int .i64 b7),(2,D.ptr 0 0),(5,D.acc 1)],[Ob.box (aF.c aB),Ob.row .uq 3 1 W1]⟩
theorem MN(hΓ:Γ.nt=57){aB:aF}{r:aj}{k1:bJ->Option aj}(cX:∀(C2:bJ),k1 C2=some r->Ax Γ N f204 (.q [[some (115,5)]] (D.fr 115 5 (r.map aN.c))) [1,1,1,1] ⟨[(2,D.ptr 0 0),(5,D.acc 1)],[Ob.box (aF.c aB),Ob.row .uq 3 1 (C2.map dZ)]⟩):∀(n1:Nat) (b7:Int) (cB:bJ),mq aB k1 n1 b7 cB=some r->Ar Γ N f204 (.q [[some (115,5)]] (D.fr 115 5 (r.map aN.c))) [1,1,1,0,0] n1 (DK aB b7 (cB.map dZ)):=by
 intro n
 induction n with
 |zero=>intro b7 cB h;simp[mq]at h
 |succ n1 ih1=>
  intro b7 cB h;rw[mq]at h;refine aM fun N1 bu bq=>?_
  obtain⟨h18,h⟩:=bX h;obtain⟨x19,h20,h⟩:=aD h;have kT:=((aU.w (cG h18)).l (dV Node.c 8 h20 rfl))
  obtain⟨h21,h⟩|⟨h21,h⟩:=aL h
  ·exact(((kT.r 4 h21).T 1).a [.hl 0 [2,5] [0,3]]).exs hΓ bu ⟨[(2,D.ptr 0 0),(5,D.acc 1)],[Ob.box (aF.c aB),Ob.row .uq 3 1 ((cB.map dZ)++([[D.int .i64 b7]]))]⟩ (by first| (simp only[mA]<;>rfl)| (simp only[mA,aE.c,aS.c,aN.c,Action.c,aO.c,aJ.c,cx.c,aP.c,Node.c,aF.c,cy.c]<;>rfl)) (cX (cB++([b7])) h)
  ·have jN:=(kT.r 4 h21)
   obtain⟨h22,h⟩|⟨h22,h⟩:=aL h
   ·exact((jN.b h22).a [.hl 0 [2,5] [0,3]]).exs hΓ bu ⟨[(2,D.ptr 0 0),(5,D.acc 1)],[Ob.box (aF.c aB),Ob.row .uq 3 1 ((cB.map dZ)++([[D.int .i64 b7]]))]⟩ (by first| (simp only[mA]<;>rfl)| (simp only[mA,aE.c,aS.c,aN.c,Action.c,aO.c,aJ.c,cx.c,aP.c,Node.c,aF.c,cy.c]<;>rfl)) (cX (cB++([b7])) h)
   ·exact((jN.b h22).a [.cn [1,2,5] [0,3]]).cs hΓ bq (DK aB x19.parent ((cB.map dZ)++([[D.int .i64 b7]]))) (by first| (simp only[mA]<;>rfl)| (simp only[mA,aE.c,aS.c,aN.c,Action.c,aO.c,aJ.c,cx.c,aP.c,Node.c,aF.c,cy.c]<;>rfl)) (ih1 x19.parent (cB++([b7])) h)
def DL(aB:aF)(C2:bJ)(PX:Int)(W1:List aR):St:=⟨[(2,D.ptr 0 0),(5,D.acc 1),(7,D.acc 2),(8,D.int .i64 PX)],[Ob.box (aF.c aB),Ob.row .uq 3 1 (C2.map dZ),Ob.row .uq 115 5 W1]⟩
theorem MO(hΓ:Γ.nt=57){aB:aF}{C2:bJ}{r:aj}{k2:aj->Option aj}(CV:∀(PU:aj),k2 PU=some r->Ax Γ N f204 (.q [[some (115,5)]] (D.fr 115 5 (r.map aN.c))) [1,1,1,1,1,1] ⟨[(7,D.acc 0)],[Ob.row .uq 115 5 (PU.map aN.c)]⟩):∀(n2:Nat) (PX:Int) (RD:aj),kj aB C2 k2 n2 PX RD=some r->Ar Γ N f204 (.q [[some (115,5)]] (D.fr 115 5 (r.map aN.c))) [1,1,1,1,1,0,1,0] n2 (DL aB C2 PX (RD.map aN.c)):=by
 intro n
 induction n with
 |zero=>intro PX RD h;simp[kj]at h
 |succ n2 ih2=>
  intro PX RD h;rw[kj]at h;refine aM fun N2 xM uT=>?_
  obtain⟨h65,h⟩|⟨h65,h⟩:=aL h
  ·obtain⟨x72,h73,h⟩:=aD h;obtain⟨x74,h75,h⟩:=aD h;obtain⟨y76,h77,h⟩:=aD h;obtain⟨h78,h⟩:=bX h;exact((((((((aU.b h65).a [.n2 [0,1,2,3,4,5,6,7,8,9,10,11,12,13] [0,1,2,3,4,5,6,7,8,9,10,11,12,13] 11 12 [0] [3]]).i (xj dZ 1 h73)).o 1 1 .uq (dB dZ (tR h73))).l (dV Node.c 8 h75 rfl)).g (kp h77)).w (cG h78)).a [.cn [2,5,7,8] [0,1,5]]).cs hΓ uT (DL aB C2 (IntKind.i64.wrap (PX-1)) ((RD.map aN.c)++([[D.int .i64 y76.kind,D.str y76.pat.rel,D.sl (y76.pat.args.map tx),D.str y76.left,D.str y76.right]]))) (by first| (simp only[mA]<;>rfl)| (simp only[mA,aE.c,aS.c,aN.c,Action.c,aO.c,aJ.c,cx.c,aP.c,Node.c,aF.c,cy.c]<;>rfl)) (ih2 (IntKind.i64.wrap (PX-1)) (RD++([y76])) h)
  ·exact((aU.b h65).a [.hl 0 [7] [2]]).ex hΓ xM (CV RD h)
theorem xY{aB:aF}{aV:Int}{r:aj}(h:xB aB aV=some r):Good prog 204 [D.agg (aF.c aB),D.int .i64 aV] (D.fr 115 5 (r.map aN.c)):=by
 refine gd func204 [[some (115,5)]] 57 fun hr Γ hΓ=>?_
 rw[xB]at h;obtain⟨h1,h⟩|⟨h1,h⟩:=aL h
 ·cases h;exact((aU.r 6 h1).T 1).ret hΓ
 ·have uY:=(aU.r 6 h1)
  obtain⟨h2,h⟩|⟨h2,h⟩:=aL h
  ·cases h;exact(uY.b h2).ret hΓ
  ·refine((uY.b h2).a [.PT 5,.cn [1,2,5] [0,1]]).lp hΓ (MN hΓ (fun C2 h=>?_) fuel aV ([]:bJ) h);refine(aU.a [.PT 7,.cn [2,5,7,8] [0,1,2]]).lp hΓ (MO hΓ (fun PU h=>?_) fuel (IntKind.i64.wrap (((C2.map dZ).length:Int)-1)) ([]:aj) h);have h:=aG h;subst h;exact aU.ret hΓ
def xA(aB:aN):Option Bool:=((rH aB).bind fun y1=>(bif y1 then(some (decide ((aB.kind:Int)>=3)))else(some false)))
theorem Bd{aB:aN}{r:Bool}(h:xA aB=some r):Good prog 286 [D.agg (aN.c aB)] (D.bool r):=by
 refine gd func286 [[none]] 10 fun hr Γ hΓ=>?_
 rw[xA]at h;obtain⟨y1,h2,h⟩:=aD h;obtain⟨h3,h⟩|⟨h3,h⟩:=aL h
 ·cases h;exact((aU.g (pq h2)).r 4 h3).ret hΓ
 ·have h:=aG h;subst h;exact((aU.g (pq h2)).r 4 h3).ret hΓ
def sH(aB:aN)(aV:aT):Option Bool:=((xA aB).bind fun y1=>(bif !(y1)then(some false)else((kf aV).bind fun y4=>(bif !(y4)then(some false)else((pu aV aB.left).bind fun y7=>((pu aV aB.right).bind fun y9=>(bif !(y7.2)then(some false)else(bif !(y9.2)then(some false)else(bif (aB.kind:Int)==3 then(some ((y7.1:Bytes)==y9.1))else(bif (aB.kind:Int)==4 then(some (!((y7.1:Bytes)==y9.1)))else((mS y7.1).bind fun Vp=>((mS y9.1).bind fun P6=>(bif Vp.2 then(bif P6.2 then(some (decide ((Vp.1:Int)<P6.1)))else(some false))else(some false))))))))))))))
theorem F8{aB:aN}{aV:aT}{r:Bool}(h:sH aB aV=some r):Good prog 277 [D.agg (aN.c aB),D.sl (aV.map aS.c)] (D.bool r):=by
 refine gd func277 [[none]] 70 fun hr Γ hΓ=>?_
 rw[sH]at h;obtain⟨y1,h2,h⟩:=aD h;obtain⟨h3,h⟩|⟨h3,h⟩:=aL h
 ·have h:=aG h;subst h;exact(((aU.g (Bd h2)).r 4 h3).T 1).ret hΓ
 ·obtain⟨y4,h5,h⟩:=aD h;have jz:=((((aU.g (Bd h2)).r 2 h3).g (me h5)).r 2 h3)
  obtain⟨h6,h⟩|⟨h6,h⟩:=aL h
  ·have h:=aG h;subst h;exact(jz.b h6).ret hΓ
  ·obtain⟨y7,h8,h⟩:=aD h;obtain⟨y9,h10,h⟩:=aD h;have dJ:=(((jz.b h6).g (wg h8)).g (wg h10))
   obtain⟨h11,h⟩|⟨h11,h⟩:=aL h
   ·have h:=aG h;subst h;exact((dJ.r 3 h11).T 1).ret hΓ
   ·have kT:=(dJ.r 3 h11)
    obtain⟨h12,h⟩|⟨h12,h⟩:=aL h
    ·have h:=aG h;subst h;exact(kT.b h12).ret hΓ
    ·obtain⟨h13,h⟩|⟨h13,h⟩:=aL h
     ·cases h;exact((kT.b h12).b h13).ret hΓ
     ·have jN:=((kT.b h12).b h13)
      obtain⟨h14,h⟩|⟨h14,h⟩:=aL h
      ·cases h;exact(jN.b h14).ret hΓ
      ·obtain⟨Vp,h16,h⟩:=aD h;obtain⟨P6,h18,h⟩:=aD h;have uY:=(((jN.b h14).g (ql h16)).g (ql h18))
       obtain⟨h19,h⟩|⟨h19,h⟩:=aL h
       ·have wX:=(uY.r 2 h19)
        obtain⟨h20,h⟩|⟨h20,h⟩:=aL h
        ·cases h;exact(wX.r 4 h20).ret hΓ
        ·have h:=aG h;subst h;exact(wX.r 4 h20).ret hΓ
       ·have h:=aG h;subst h;exact((uY.r 2 h19).F 4).ret hΓ
def sG(aB:aN)(aV:aT)(cV:aQ):Option Bool:=((rH aB).bind fun y1=>(bif !(y1)then(some false)else((kf aV).bind fun y4=>(bif !(y4)then(some false)else(bif (aB.kind:Int)==1 then((iR aB.pat aV cV).bind fun y8=>(some (decide ((((y8.map aE.c).length:Int):Int)>0))))else(bif (aB.kind:Int)==2 then((iR aB.pat aV cV).bind fun Re=>(some ((((Re.map aE.c).length:Int):Int)==0)))else((sH aB aV).bind fun rp=>(some rp))))))))
theorem F7{aB:aN}{aV:aT}{cV:aQ}{r:Bool}(h:sG aB aV cV=some r):Good prog 259 [D.agg (aN.c aB),D.sl (aV.map aS.c),D.sl (cV.map aE.c)] (D.bool r):=by
 refine gd func259 [[none]] 38 fun hr Γ hΓ=>?_
 rw[sG]at h;obtain⟨y1,h2,h⟩:=aD h;obtain⟨h3,h⟩|⟨h3,h⟩:=aL h
 ·have h:=aG h;subst h;exact(((aU.g (pq h2)).r 4 h3).T 1).ret hΓ
 ·obtain⟨y4,h5,h⟩:=aD h;have jz:=((((aU.g (pq h2)).r 2 h3).g (me h5)).r 2 h3)
  obtain⟨h6,h⟩|⟨h6,h⟩:=aL h
  ·have h:=aG h;subst h;exact(jz.b h6).ret hΓ
  ·obtain⟨h7,h⟩|⟨h7,h⟩:=aL h
   ·obtain⟨y8,h9,h⟩:=aD h;cases h;exact(((jz.b h6).b h7).g (mX h9)).ret hΓ
   ·have dJ:=((jz.b h6).b h7)
    obtain⟨h10,h⟩|⟨h10,h⟩:=aL h
    ·obtain⟨Re,h12,h⟩:=aD h;cases h;exact((dJ.b h10).g (mX h12)).ret hΓ
    ·obtain⟨rp,h14,h⟩:=aD h;have h:=aG h;subst h;exact((dJ.b h10).g (F8 h14)).ret hΓ
def kH(aB:aj)(aV:aQ)(i2:Nat)(bC:af)(lM:aJ)(i1:Nat)(bD:aN)(k3:af->Option af):aQ->Nat->af->Option af
 | [],i3,AZ=>(k3 AZ)
 |Vo::Ty,i3,AZ=>((jC bD.pat Vo lM.bind).bind fun Sa=>(bif Sa.2 then((cv lM.facts).bind fun Sb=>((j5 Vo).bind fun Nl=>(bif room ((Sb.map aE.c).length+([[D.str Nl.rel,D.sl (Nl.args.map tx)]]).length) 40 then(bif room ((AZ.map aJ.c).length+([[D.sl ((Sb.map aE.c)++([[D.str Nl.rel,D.sl (Nl.args.map tx)]])),D.sl (Sa.1.map aS.c)]]).length) 48 then(kH aB aV i2 bC lM i1 bD k3 Ty (i3+1) (AZ++([(⟨Sb++([Nl]),Sa.1⟩:aJ)])))else none)else none)))else(kH aB aV i2 bC lM i1 bD k3 Ty (i3+1) AZ)))
def fI(aB:aj)(aV:aQ)(bC:af)(i1:Nat)(bD:aN)(k2:af->Option af):af->Nat->af->Option af
 | [],i2,jy=>(k2 jy)
 |lM::wF,i2,jy=>(bif (bD.kind:Int) != 1 then((sG bD lM.bind aV).bind fun a6N=>(bif a6N then(bif room ((jy.map aJ.c).length+([[D.sl (lM.facts.map aE.c),D.sl (lM.bind.map aS.c)]]).length) 48 then(fI aB aV bC i1 bD k2 wF (i2+1) (jy++([lM])))else none)else(fI aB aV bC i1 bD k2 wF (i2+1) jy)))else(bif decide (aV.length<=maxLen)then(kH aB aV i2 bC lM i1 bD (fun(Zj:af)=>(fI aB aV bC i1 bD k2 wF (i2+1) Zj)) aV 0 jy)else none))
def kG(aB:aj)(aV:aQ)(k1:af->Option af):aj->Nat->af->Option af
 | [],i1,bC=>(k1 bC)
 |bD::bn,i1,bC=>(bif decide (bC.length<=maxLen)then(fI aB aV bC i1 bD (fun(PU:af)=>(kG aB aV k1 bn (i1+1) PU)) bC 0 ([]:af))else none)
def uA(aB:aj)(aV:aQ):Option af:=(kG aB aV (fun(bO:af)=>(some bO)) aB 0 ([(⟨[],[]⟩:aJ)]))
def Bi(aB:aj)(aV:aQ)(W0:List aR)(cS:Int):St:=⟨[(1,D.sl (aV.map aE.c)),(5,D.acc 0),(17,D.sl (aB.map aN.c)),(18,D.int .i64 ((aB.map aN.c).length:Int)),(19,D.int .i64 cS)],[Ob.row .uq 124 2 W0]⟩
def Bj(aB:aj)(aV:aQ)(bC:af)(i1:Nat)(bD:aN)(W0:List aR)(aD0:Nat)(cS:Int):St:=⟨[(1,D.sl (aV.map aE.c)),(7,D.ptr 0 0),(8,D.acc 1),(17,D.sl (aB.map aN.c)),(18,D.int .i64 ((aB.map aN.c).length:Int)),(19,D.int .i64 (i1:Int)),(23,D.acc 2),(24,D.int .i64 ((bC.map aJ.c).length:Int)),(25,D.int .i64 cS)],[Ob.box [D.int .i64 bD.kind,D.str bD.pat.rel,D.sl (bD.pat.args.map tx),D.str bD.left,D.str bD.right],Ob.row .uq 124 2 W0,Ob.row (.mv aD0) 124 2 (bC.map aJ.c)]⟩
def Bk(aB:aj)(aV:aQ)(i2:Nat)(bC:af)(lM:aJ)(i1:Nat)(bD:aN)(W0:List aR)(cS:Int):St:=⟨[(1,D.sl (aV.map aE.c)),(7,D.ptr 0 0),(8,D.acc 1),(10,D.ptr 2 0),(17,D.sl (aB.map aN.c)),(18,D.int .i64 ((aB.map aN.c).length:Int)),(19,D.int .i64 (i1:Int)),(23,D.acc 3),(24,D.int .i64 ((bC.map aJ.c).length:Int)),(25,D.int .i64 (i2:Int)),(41,D.sl (aV.map aE.c)),(42,D.int .i64 ((aV.map aE.c).length:Int)),(43,D.int .i64 cS)],[Ob.box [D.int .i64 bD.kind,D.str bD.pat.rel,D.sl (bD.pat.args.map tx),D.str bD.left,D.str bD.right],Ob.row .uq 124 2 W0,Ob.box [D.acc 4,D.acc 5],Ob.row (.mv (i2+1)) 124 2 (bC.map aJ.c),Ob.tk (lM.facts.map aE.c),Ob.tk (lM.bind.map aS.c)]⟩
theorem Io(hΓ:Γ.nt=74){aB:aj}{aV:aQ}{i2:Nat}{bC:af}{lM:aJ}{i1:Nat}{bD:aN}{r:af}{k3:af->Option af}(hE3:∀(Zj:af),k3 Zj=some r->Ax Γ N f203 (.q [[some (124,2)]] (D.fr 124 2 (r.map aJ.c))) [1,1,0,1,0,0,1,1,0,0,1,1,0,1,0,0,1,1,1] ⟨[(1,D.sl (aV.map aE.c)),(7,D.ptr 0 0),(8,D.acc 1),(17,D.sl (aB.map aN.c)),(18,D.int .i64 ((aB.map aN.c).length:Int)),(19,D.int .i64 (i1:Int)),(23,D.acc 2),(24,D.int .i64 ((bC.map aJ.c).length:Int)),(25,D.int .i64 (i2:Int))],[Ob.box [D.int .i64 bD.kind,D.str bD.pat.rel,D.sl (bD.pat.args.map tx),D.str bD.left,D.str bD.right],Ob.row .uq 124 2 (Zj.map aJ.c),Ob.row (.mv (i2+1)) 124 2 (bC.map aJ.c)]⟩)(WY:aV.length<=maxLen):∀(rest:aQ) (i3:Nat) (AZ:af),aV.drop i3=rest->kH aB aV i2 bC lM i1 bD k3 rest i3 AZ=some r->Ar Γ N f203 (.q [[some (124,2)]] (D.fr 124 2 (r.map aJ.c))) [1,1,0,1,0,0,1,1,0,0,1,1,0,1,0,0,1,1,0,0,1,1,1,0] (rest.length+1) (Bk aB aV i2 bC lM i1 bD (AZ.map aJ.c) (i3:Int)):=by
 intro rest
 induction rest with
 |nil=>
  intro i3 AZ B9 h;rw[kH]at h;refine aM fun N3 Y8 Sy=>?_
  exact((aU.ge aE.c B9).a [.hl 8 [1,7,8,17,18,19,23,24,25] [0,1,3]]).ex hΓ Y8 (hE3 AZ h)
 |cons Vo Ty ih3=>
  intro i3 AZ B9 h;rw[kH]at h;refine aM fun N3 Y8 Sy=>?_
  obtain⟨Sa,h3513,h⟩:=aD h;have aAC:=(((aU.lt aE.c B9).l (ax aE.c 2 (dc B9) rfl)).g (qM h3513))
  obtain⟨h3514,h⟩|⟨h3514,h⟩:=aL h
  ·obtain⟨Sb,h3521,h⟩:=aD h;obtain⟨Nl,h3523,h⟩:=aD h;obtain⟨h3524,h⟩:=bX h;obtain⟨h3525,h⟩:=bX h;exact(((((((aAC.b h3514).a [.n2 [0,1,2,3,4,5,8,6,7,9,10,11,12] [0,1,2,3,4,5,7,8,6,9,10,11,12] 7 11 [0,6] [7,8,9,10,11]]).g (dL h3521)).g (vf h3523)).w (cG h3524)).w (cG h3525)).a [.cn [1,7,8,10,17,18,19,23,24,25,41,42,43] [0,13,2,3,4,5]]).cs hΓ Sy (Bk aB aV i2 bC lM i1 bD ((AZ.map aJ.c)++([[D.sl ((Sb.map aE.c)++([[D.str Nl.rel,D.sl (Nl.args.map tx)]])),D.sl (Sa.1.map aS.c)]])) (IntKind.i64.wrap ((i3:Int)+1))) (by first| (simp only[iS B9 WY,mA]<;>rfl)| (simp only[iS B9 WY,mA,aE.c,aS.c,aN.c,Action.c,aO.c,aJ.c,cx.c,aP.c,Node.c,aF.c,cy.c]<;>rfl)) (ih3 (i3+1) (AZ++([(⟨Sb++([Nl]),Sa.1⟩:aJ)])) (dn B9) h)
  ·exact((aAC.b h3514).a [.cn [1,7,8,10,17,18,19,23,24,25,41,42,43] [0,1,2,3,4,5]]).ct hΓ Sy (iS B9 WY) (ih3 (i3+1) AZ (dn B9) h)
theorem Im(hΓ:Γ.nt=74){aB:aj}{aV:aQ}{bC:af}{i1:Nat}{bD:aN}{r:af}{k2:af->Option af}(CV:∀(PU:af),k2 PU=some r->Ax Γ N f203 (.q [[some (124,2)]] (D.fr 124 2 (r.map aJ.c))) [1,1,0,1,0,0,1,1,0,0,1,1,1] ⟨[(1,D.sl (aV.map aE.c)),(8,D.acc 0),(17,D.sl (aB.map aN.c)),(18,D.int .i64 ((aB.map aN.c).length:Int)),(19,D.int .i64 (i1:Int))],[Ob.row .uq 124 2 (PU.map aJ.c)]⟩)(hm2:bC.length<=maxLen):∀(rest:af) (i2:Nat) (jy:af),bC.drop i2=rest->fI aB aV bC i1 bD k2 rest i2 jy=some r->Ar Γ N f203 (.q [[some (124,2)]] (D.fr 124 2 (r.map aJ.c))) [1,1,0,1,0,0,1,1,0,0,1,1,0,1,0] (rest.length+1) (Bj aB aV bC i1 bD (jy.map aJ.c) i2 (i2:Int)):=by
 intro rest
 induction rest with
 |nil=>
  intro i2 jy hd2 h;rw[fI]at h;refine aM fun N2 xM uT=>?_
  exact((aU.ge aJ.c hd2).a [.hl 5 [1,8,17,18,19] [1]]).ex hΓ xM (CV jy h)
 |cons lM wF ih2=>
  intro i2 jy hd2 h;rw[fI]at h;refine aM fun N2 xM uT=>?_
  have aAD:=((((aU.lt aJ.c hd2).i (p9 aJ.c 2 (dc hd2))).w (show i2=i2/\(bC.map aJ.c)[i2]?=some [D.sl (lM.facts.map aE.c),D.sl (lM.bind.map aS.c)]/\Tq [D.sl (lM.facts.map aE.c),D.sl (lM.bind.map aS.c)]=true from⟨rfl,dB aJ.c (dc hd2),rfl⟩)).a [.tk [D.sl (lM.facts.map aE.c),D.sl (lM.bind.map aS.c)]])
  obtain⟨h3426,h⟩|⟨h3426,h⟩:=aL h
  ·obtain⟨a6N,h3428,h⟩:=aD h;have aAE:=((aAD.b h3426).g (F7 h3428))
   obtain⟨h3429,h⟩|⟨h3429,h⟩:=aL h
   ·obtain⟨h3430,h⟩:=bX h;exact(((aAE.b h3429).w (cG h3430)).a [.cn [1,7,8,17,18,19,23,24,25] [0,7,2]]).cs hΓ uT (Bj aB aV bC i1 bD ((jy.map aJ.c)++([[D.sl (lM.facts.map aE.c),D.sl (lM.bind.map aS.c)]])) (i2+1) (IntKind.i64.wrap ((i2:Int)+1))) (by first| (simp only[iS hd2 hm2,mA]<;>rfl)| (simp only[iS hd2 hm2,mA,aE.c,aS.c,aN.c,Action.c,aO.c,aJ.c,cx.c,aP.c,Node.c,aF.c,cy.c]<;>rfl)) (ih2 (i2+1) (jy++([lM])) (dn hd2) h)
   ·exact((aAE.b h3429).a [.cn [1,7,8,17,18,19,23,24,25] [0,1,2]]).ct hΓ uT (iS hd2 hm2) (ih2 (i2+1) jy (dn hd2) h)
  ·obtain⟨h3526,h⟩:=bX h;refine((aAD.b h3426).a [.cn [1,7,8,10,17,18,19,23,24,25,41,42,43] [0,1,5,2,3,4]]).lp hΓ (Io hΓ (fun Zj h=>?_) (bt h3526) aV 0 jy rfl h);exact(aU.a [.cn [1,7,8,17,18,19,23,24,25] [0,1,2]]).ct hΓ uT (iS hd2 hm2) (ih2 (i2+1) Zj (dn hd2) h)
theorem Il(hΓ:Γ.nt=74){aB:aj}{aV:aQ}{r:af}{k1:af->Option af}(cX:∀(bO:af),k1 bO=some r->Ax Γ N f203 (.q [[some (124,2)]] (D.fr 124 2 (r.map aJ.c))) [1,1,1] ⟨[(5,D.acc 0)],[Ob.row .uq 124 2 (bO.map aJ.c)]⟩)(hm1:aB.length<=maxLen):∀(rest:aj) (i1:Nat) (bC:af),aB.drop i1=rest->kG aB aV k1 rest i1 bC=some r->Ar Γ N f203 (.q [[some (124,2)]] (D.fr 124 2 (r.map aJ.c))) [1,1,0,1,0] (rest.length+1) (Bi aB aV (bC.map aJ.c) (i1:Int)):=by
 intro rest
 induction rest with
 |nil=>
  intro i1 bC aq h;rw[kG]at h;refine aM fun N1 bu bq=>?_
  exact((aU.ge aN.c aq).a [.hl 0 [5] [0]]).ex hΓ bu (cX bC h)
 |cons bD bn ih1=>
  intro i1 bC aq h;rw[kG]at h;refine aM fun N1 bu bq=>?_
  obtain⟨h3527,h⟩:=bX h;refine(((aU.lt aN.c aq).l (ax aN.c 5 (dc aq) rfl)).a [.PT 8,.mz 0,.cn [1,7,8,17,18,19,23,24,25] [1,2,0]]).lp hΓ (Im hΓ (fun PU h=>?_) (bt h3527) bC 0 ([]:af) rfl h);exact(aU.a [.cn [1,5,17,18,19] [0]]).ct hΓ bq (iS aq hm1) (ih1 (i1+1) PU (dn aq) h)
theorem GY{aB:aj}{aV:aQ}{r:af}(h:uA aB aV=some r):Good prog 203 [D.sl (aB.map aN.c),D.sl (aV.map aE.c)] (D.fr 124 2 (r.map aJ.c)):=by
 refine gd func203 [[some (124,2)]] 74 fun hr Γ hΓ=>?_
 rw[uA]at h;refine(aU.a [.cn [1,5,17,18,19] [0]]).Wq hΓ (Bi aB aV ([[D.sl ([]),D.sl ([])]]) 0) (by first| (simp only[mA]<;>rfl)| (simp only[mA,aE.c,aS.c,aN.c,Action.c,aO.c,aJ.c,cx.c,aP.c,Node.c,aF.c,cy.c]<;>rfl)) (Il hΓ (fun bO h=>?_) (by have:=(dS.sl (hr _ (aC (i:=0) rfl))).1;simpa using this) aB 0 ([(⟨[],[]⟩:aJ)]) rfl h);have h:=aG h;subst h;exact aU.ret hΓ
def ed(aB:aF)(aV:aQ)(y1:aQ)(k1:b8->Option (aF×Unit)):b8->Nat->b8->Option (aF×Unit)
 | [],i1,gf=>(k1 gf)
 |bD::bn,i1,gf=>(bif decide (i1<(gf.map aP.c).length)then(((gf)[i1]?).bind fun x35=>((iR x35.shape ([]) aV).bind fun Xh=>(bif decide (i1<(gf.map aP.c).length)then(ed aB aV y1 k1 bn (i1+1) (gf.set i1 (⟨x35.shape,Xh⟩:aP)))else none)))else none)
def eC(aB:aF)(aV:aQ)(y1:aQ)(iI:b8)(k2:Option (aF×Unit)):az->Nat->az->Option (aF×Unit)
 | [],i2,ou=>(some ((⟨aB.rules,aB.ends,iI,ou,y1,aB.cK⟩:aF),()))
 |lM::wF,i2,ou=>((xB (⟨aB.rules,aB.ends,iI,ou,y1,aB.cK⟩:aF) (i2:Int)).bind fun a5E=>((uA a5E aV).bind fun Xe=>(bif decide (i2<(ou.map Node.c).length)then(((ou)[i2]?).bind fun x107=>(eC aB aV y1 iI k2 wF (i2+1) (ou.set i2 (⟨x107.parent,x107.cond,x107.cP,Xe⟩:Node))))else none)))
def j8(aB:aF)(aV:aQ):Option (aF×Unit):=((cv aV).bind fun y1=>(bif decide (aB.ay.length<=maxLen)then(ed aB aV y1 (fun(iI:b8)=>(bif decide (aB.nodes.length<=maxLen)then(eC aB aV y1 iI none aB.nodes 0 aB.nodes)else none)) aB.ay 0 aB.ay)else none))
def wS(ey:Value)(aB:aF)(aV:aQ)(y1:aQ)(W0:List aR)(cS:Int):St:=⟨[(0,D.ptr 0 0),(1,D.sl (aV.map aE.c)),(15,D.int .i64 ((aB.ay.map aP.c).length:Int)),(16,D.int .i64 cS)],[Ob.PS [D.acc 1,D.acc 2,D.acc 3,D.acc 4,D.acc 5,D.int .i64 aB.cK] ey,Ob.row .uq 105 4 (aB.rules.map aO.c),Ob.row .uq 3 1 (aB.ends.map dZ),Ob.row .uq 111 3 W0,Ob.row .uq 118 8 (aB.nodes.map Node.c),Ob.row .uq 53 2 (y1.map aE.c)]⟩
theorem Ba(hΓ:Γ.nt=60){ey:Value}{aB:aF}{aV:aQ}{y1:aQ}{r:aF×Unit}{k1:b8->Option (aF×Unit)}(cX:∀(iI:b8),k1 iI=some r->Ax Γ N f135 (.p [[some (105,4),some (3,1),some (111,3),some (118,8),some (53,2),none]] ey (cU r.1) (D.gb [])) [1,1] ⟨[(0,D.ptr 0 0),(1,D.sl (aV.map aE.c))],[Ob.PS [D.acc 1,D.acc 2,D.acc 3,D.acc 4,D.acc 5,D.int .i64 aB.cK] ey,Ob.row .uq 105 4 (aB.rules.map aO.c),Ob.row .uq 3 1 (aB.ends.map dZ),Ob.row .uq 111 3 (iI.map aP.c),Ob.row .uq 118 8 (aB.nodes.map Node.c),Ob.row .uq 53 2 (y1.map aE.c)]⟩)(hm1:aB.ay.length<=maxLen):∀(rest:b8) (i1:Nat) (gf:b8),aB.ay.drop i1=rest->ed aB aV y1 k1 rest i1 gf=some r->Ar Γ N f135 (.p [[some (105,4),some (3,1),some (111,3),some (118,8),some (53,2),none]] ey (cU r.1) (D.gb [])) [1,0,1,0] (rest.length+1) (wS ey aB aV y1 (gf.map aP.c) (i1:Int)):=by
 intro rest
 induction rest with
 |nil=>
  intro i1 gf aq h;rw[ed]at h;refine aM fun N1 bu bq=>?_
  exact((aU.ge aP.c aq).a [.hl 0 [0,1] [0,1,2,3,4,5]]).ex hΓ bu (cX gf h)
 |cons bD bn ih1=>
  intro i1 gf aq h;rw[ed]at h;refine aM fun N1 bu bq=>?_
  obtain⟨h34,h⟩:=bX h;obtain⟨x35,h36,h⟩:=aD h;obtain⟨Xh,h38,h⟩:=aD h;obtain⟨h39,h⟩:=bX h;exact(((((((((aU.lt aP.c aq).a [.n 15]).i (zJ 3 h34)).o 3 2 .uq (dB aP.c h36)).a [.d (D.fr 53 2 (Xh.map aE.c))]).w (show Good prog 202 [D.agg (aE.c x35.shape),D.sl ([]),D.sl (aV.map aE.c)] (D.fr 53 2 (Xh.map aE.c))from by first| (simpa only[bS,bG,bV,dH,cz]using mX h38)|exact mX h38)).i (zJ 3 h39)).w (show(gf.map aP.c)[i1]?=some [D.str x35.shape.rel,D.sl (x35.shape.args.map tx),D.sl (x35.facts.map aE.c)]from dB aP.c h36)).a [.row [D.str x35.shape.rel,D.sl (x35.shape.args.map tx),D.sl (x35.facts.map aE.c)],.cn [0,1,15,16] [0,1,2,3,4,5]]).cs hΓ bq (wS ey aB aV y1 ((gf.map aP.c).set i1 [D.str x35.shape.rel,D.sl (x35.shape.args.map tx),D.sl (Xh.map aE.c)]) (IntKind.i64.wrap ((i1:Int)+1))) (by first| (simp only[iS aq hm1,mA]<;>rfl)| (simp only[iS aq hm1,mA,aE.c,aS.c,aN.c,Action.c,aO.c,aJ.c,cx.c,aP.c,Node.c,aF.c,cy.c]<;>rfl)) (ih1 (i1+1) (gf.set i1 (⟨x35.shape,Xh⟩:aP)) (dn aq) h)
def wT(ey:Value)(aB:aF)(aV:aQ)(y1:aQ)(iI:b8)(W0:List aR)(cS:Int):St:=⟨[(0,D.ptr 0 0),(1,D.sl (aV.map aE.c)),(41,D.int .i64 ((aB.nodes.map Node.c).length:Int)),(42,D.int .i64 cS)],[Ob.PS [D.acc 1,D.acc 2,D.acc 3,D.acc 4,D.acc 5,D.int .i64 aB.cK] ey,Ob.row .uq 105 4 (aB.rules.map aO.c),Ob.row .uq 3 1 (aB.ends.map dZ),Ob.row .uq 111 3 (iI.map aP.c),Ob.row .uq 118 8 W0,Ob.row .uq 53 2 (y1.map aE.c)]⟩
theorem Bb(hΓ:Γ.nt=60){ey:Value}{aB:aF}{aV:aQ}{y1:aQ}{iI:b8}{r:aF×Unit}{k2:Option (aF×Unit)}(CV:k2=some r->Ax Γ N f135 (.p [[some (105,4),some (3,1),some (111,3),some (118,8),some (53,2),none]] ey (cU r.1) (D.gb [])) [1,1,1,0,0] ⟨[],[]⟩)(hm2:aB.nodes.length<=maxLen):∀(rest:az) (i2:Nat) (ou:az),aB.nodes.drop i2=rest->eC aB aV y1 iI k2 rest i2 ou=some r->Ar Γ N f135 (.p [[some (105,4),some (3,1),some (111,3),some (118,8),some (53,2),none]] ey (cU r.1) (D.gb [])) [1,1,1,0] (rest.length+1) (wT ey aB aV y1 iI (ou.map Node.c) (i2:Int)):=by
 intro rest
 induction rest with
 |nil=>
  intro i2 ou hd2 h;rw[eC]at h;refine aM fun N2 xM uT=>?_
  cases h;exact(aU.ge Node.c hd2).ret hΓ
 |cons lM wF ih2=>
  intro i2 ou hd2 h;rw[eC]at h;refine aM fun N2 xM uT=>?_
  obtain⟨a5E,h103,h⟩:=aD h;obtain⟨Xe,h105,h⟩:=aD h;obtain⟨h106,h⟩:=bX h;obtain⟨x107,h108,h⟩:=aD h;exact(((((((aU.lt Node.c hd2).a [.n2 [0,1,2,3,4,5,6,7,8,9,10,11,12,13,14] [0,1,2,3,4,5,6,7,8,9,10,11,12,13,14] 11 12 [0,1,2,3,4] [],.d (D.fr 115 5 (a5E.map aN.c))]).w (show Good prog 204 [D.agg [D.sl (aB.rules.map aO.c),D.sl (aB.ends.map dZ),D.sl (iI.map aP.c),D.sl (ou.map Node.c),D.sl (y1.map aE.c),D.int .i64 aB.cK],D.int .i64 (i2:Int)] (D.fr 115 5 (a5E.map aN.c))from by first| (simpa only[bS,bG,bV,dH,cz]using xY h103)|exact xY h103| (have t:=xY h103;simp only[bS,dH,cz,aF.c]at t;exact t))).g (GY h105)).i (zJ 8 h106)).w (show(ou.map Node.c)[i2]?=some [D.int .i64 x107.parent,D.int .i64 x107.cond.kind,D.str x107.cond.pat.rel,D.sl (x107.cond.pat.args.map tx),D.str x107.cond.left,D.str x107.cond.right,D.int .i64 x107.cP,D.sl (x107.tokens.map aJ.c)]from dB Node.c h108)).a [.row [D.int .i64 x107.parent,D.int .i64 x107.cond.kind,D.str x107.cond.pat.rel,D.sl (x107.cond.pat.args.map tx),D.str x107.cond.left,D.str x107.cond.right,D.int .i64 x107.cP,D.sl (x107.tokens.map aJ.c)],.cn [0,1,41,42] [0,1,2,3,4,5]]).cs hΓ uT (wT ey aB aV y1 iI ((ou.map Node.c).set i2 [D.int .i64 x107.parent,D.int .i64 x107.cond.kind,D.str x107.cond.pat.rel,D.sl (x107.cond.pat.args.map tx),D.str x107.cond.left,D.str x107.cond.right,D.int .i64 x107.cP,D.sl (Xe.map aJ.c)]) (IntKind.i64.wrap ((i2:Int)+1))) (by first| (simp only[iS hd2 hm2,mA]<;>rfl)| (simp only[iS hd2 hm2,mA,aE.c,aS.c,aN.c,Action.c,aO.c,aJ.c,cx.c,aP.c,Node.c,aF.c,cy.c]<;>rfl)) (ih2 (i2+1) (ou.set i2 (⟨x107.parent,x107.cond,x107.cP,Xe⟩:Node)) (dn hd2) h)
theorem vQ{aB:aF}{aV:aQ}{r:aF×Unit}(h:j8 aB aV=some r):BR prog 135 (cU aB) (cU r.1) [D.sl (aV.map aE.c)] (D.gb []):=by
 refine gdP func135 [[some (105,4),some (3,1),some (111,3),some (118,8),some (53,2),none]] 60 [D.acc 1,D.acc 2,D.acc 3,D.acc 4,D.acc 5,D.int .i64 aB.cK] [D.sl (aV.map aE.c)] [Ob.row .uq 105 4 (aB.rules.map aO.c),Ob.row .uq 3 1 (aB.ends.map dZ),Ob.row .uq 111 3 (aB.ay.map aP.c),Ob.row .uq 118 8 (aB.nodes.map Node.c),Ob.row .uq 53 2 (aB.facts.map aE.c)] fun hr ey Γ hΓ=>?_
 rw[j8]at h;obtain⟨y1,h2,h⟩:=aD h;obtain⟨h110,h⟩:=bX h;refine((aU.g (dL h2)).a [.cn [0,1,15,16] [0,1,2,3,4,6]]).lp hΓ (Ba hΓ (fun iI h=>?_) (bt h110) aB.ay 0 aB.ay rfl h);obtain⟨h109,h⟩:=bX h;refine(aU.a [.cn [0,1,41,42] [0,1,2,3,4,5]]).lp hΓ (Bb hΓ (fun h=>?_) (bt h109) aB.nodes 0 aB.nodes rfl h);cases h
def yS(aB:au)(aV:aQ)(cV:Int):Option aF:=((sR aB).bind fun y1=>((j8 y1 aV).bind fun y3=>(some (⟨y3.1.rules,y3.1.ends,y3.1.ay,y3.1.nodes,y3.1.facts,cV⟩:aF))))
theorem MQ{aB:au}{aV:aQ}{cV:Int}{r:aF}(h:yS aB aV cV=some r):Good prog 78 [D.sl (aB.map aO.c),D.sl (aV.map aE.c),D.int .i64 cV] (D.agg [D.fr 105 4 (r.rules.map aO.c),D.fr 3 1 (r.ends.map dZ),D.fr 111 3 (r.ay.map aP.c),D.fr 118 8 (r.nodes.map Node.c),D.fr 53 2 (r.facts.map aE.c),D.int .i64 r.cK]):=by
 refine gd func78 [[some (105,4),some (3,1),some (111,3),some (118,8),some (53,2),none]] 15 fun hr Γ hΓ=>?_
 rw[yS]at h;obtain⟨y1,h2,h⟩:=aD h;obtain⟨y3,h4,h⟩:=aD h;cases h;exact((aU.g (FJ h2)).hp [[some (105,4),some (3,1),some (111,3),some (118,8),some (53,2),none],[none]] (vQ h4)).ret hΓ
def kB(aB:aO)(aV:aO)(k1:Option Bool):aj->Nat->Option Bool
 | [],i1=>(k1)
 |bD::bn,i1=>((mC aV.conds (i1:Int)).bind fun x33=>((jx bD x33).bind fun y35=>(bif !(y35)then(some false)else(kB aB aV k1 bn (i1+1)))))
def iT(aB:aO)(aV:aO)(k2:Option Bool):bw->Nat->Option Bool
 | [],i2=>(k2)
 |lM::wF,i2=>((mC aV.cr (i2:Int)).bind fun x70=>(bif (lM.kind:Int) != x70.kind then(some false)else((fH lM.pat x70.pat).bind fun M3=>(bif !(M3)then(some false)else(iT aB aV k2 wF (i2+1))))))
def qX(aB:aO)(aV:aO):Option Bool:=(bif !((aB.name:Bytes)==aV.name)then(some false)else(bif (aB.prio:Int) != aV.prio then(some false)else(bif (((aB.conds.map aN.c).length:Int):Int) != ((aV.conds.map aN.c).length:Int)then(some false)else(bif (((aB.cr.map Action.c).length:Int):Int) != ((aV.cr.map Action.c).length:Int)then(some false)else(kB aB aV (iT aB aV (some true) aB.cr 0) aB.conds 0)))))
def KW(aB:aO)(aV:aO)(cS:Int):St:=⟨[(2,D.ptr 0 0),(3,D.ptr 1 0),(39,D.int .i64 ((aB.conds.map aN.c).length:Int)),(40,D.int .i64 cS)],[Ob.box (aO.c aB),Ob.box (aO.c aV)]⟩
theorem IY(hΓ:Γ.nt=92){aB:aO}{aV:aO}{r:Bool}{k1:Option Bool}(cX:k1=some r->Ax Γ N f230 (.q [[none]] (D.bool r)) [1,1,1] ⟨[(2,D.ptr 0 0),(3,D.ptr 1 0)],[Ob.box (aO.c aB),Ob.box (aO.c aV)]⟩)(hm1:aB.conds.length<=maxLen):∀(rest:aj) (i1:Nat),aB.conds.drop i1=rest->kB aB aV k1 rest i1=some r->Ar Γ N f230 (.q [[none]] (D.bool r)) [1,1,0,1,0] (rest.length+1) (KW aB aV (i1:Int)):=by
 intro rest
 induction rest with
 |nil=>
  intro i1 aq h;rw[kB]at h;refine aM fun N1 bu bq=>?_
  exact((aU.ge aN.c aq).a [.hl 0 [2,3] [0,1]]).ex hΓ bu (cX h)
 |cons bD bn ih1=>
  intro i1 aq h;rw[kB]at h;refine aM fun N1 bu bq=>?_
  obtain⟨x33,h34,h⟩:=aD h;obtain⟨y35,h36,h⟩:=aD h;have jN:=(((((aU.lt aN.c aq).a [.n 10]).l (ax aN.c 5 (dc aq) rfl)).l (dV aN.c 5 h34 rfl)).g (vc h36))
  obtain⟨h37,h⟩|⟨h37,h⟩:=aL h
  ·have h:=aG h;subst h;exact(jN.b h37).ret hΓ
  ·exact((jN.b h37).a [.cn [2,3,39,40] [0,1]]).ct hΓ bq (iS aq hm1) (ih1 (i1+1) (dn aq) h)
def KX(aB:aO)(aV:aO)(cS:Int):St:=⟨[(2,D.ptr 0 0),(3,D.ptr 1 0),(58,D.int .i64 ((aB.cr.map Action.c).length:Int)),(59,D.int .i64 cS)],[Ob.box (aO.c aB),Ob.box (aO.c aV)]⟩
theorem IZ(hΓ:Γ.nt=92){aB:aO}{aV:aO}{r:Bool}{k2:Option Bool}(CV:k2=some r->Ax Γ N f230 (.q [[none]] (D.bool r)) [1,1,1,1] ⟨[],[]⟩)(hm2:aB.cr.length<=maxLen):∀(rest:bw) (i2:Nat),aB.cr.drop i2=rest->iT aB aV k2 rest i2=some r->Ar Γ N f230 (.q [[none]] (D.bool r)) [1,1,1,0,1,0] (rest.length+1) (KX aB aV (i2:Int)):=by
 intro rest
 induction rest with
 |nil=>
  intro i2 hd2 h;rw[iT]at h;refine aM fun N2 xM uT=>?_
  exact((aU.ge Action.c hd2).a [.hl 0 [] []]).ex hΓ xM (CV h)
 |cons lM wF ih2=>
  intro i2 hd2 h;rw[iT]at h;refine aM fun N2 xM uT=>?_
  obtain⟨x70,h71,h⟩:=aD h;have uY:=((((aU.lt Action.c hd2).a [.n 26]).l (ax Action.c 3 (dc hd2) rfl)).l (dV Action.c 3 h71 rfl))
  obtain⟨h72,h⟩|⟨h72,h⟩:=aL h
  ·have h:=aG h;subst h;exact((uY.r 15 h72).T 1).ret hΓ
  ·obtain⟨M3,h74,h⟩:=aD h;have wX:=(((((((uY.r 4 h72).l (ax Action.c 3 (dc hd2) rfl)).r 6 h72).l (dV Action.c 3 h71 rfl)).r 3 h72).g (o8 h74)).r 2 h72)
   obtain⟨h75,h⟩|⟨h75,h⟩:=aL h
   ·have h:=aG h;subst h;exact(wX.b h75).ret hΓ
   ·exact((wX.b h75).a [.cn [2,3,58,59] [0,1]]).ct hΓ uT (iS hd2 hm2) (ih2 (i2+1) (dn hd2) h)
theorem GJ{aB:aO}{aV:aO}{r:Bool}(h:qX aB aV=some r):Good prog 230 [D.agg (aO.c aB),D.agg (aO.c aV)] (D.bool r):=by
 refine gd func230 [[none]] 92 fun hr Γ hΓ=>?_
 rw[qX]at h;obtain⟨h1,h⟩|⟨h1,h⟩:=aL h
 ·have h:=aG h;subst h;exact((aU.r 6 h1).T 17).ret hΓ
 ·have AG:=(aU.r 6 h1)
  obtain⟨h2,h⟩|⟨h2,h⟩:=aL h
  ·have h:=aG h;subst h;exact((AG.r 8 h2).T 9).ret hΓ
  ·have D3:=(AG.r 8 h2)
   obtain⟨h3,h⟩|⟨h3,h⟩:=aL h
   ·have h:=aG h;subst h;exact((D3.r 8 h3).T 1).ret hΓ
   ·have Hw:=(D3.r 8 h3)
    obtain⟨h4,h⟩|⟨h4,h⟩:=aL h
    ·have h:=aG h;subst h;exact(Hw.b h4).ret hΓ
    ·refine((Hw.b h4).a [.cn [2,3,39,40] [0,1]]).lp hΓ (IY hΓ (fun h=>?_) (by have:=(dS.sl (dS.agg (hr _ (aC (i:=0) rfl)) (.sl (aB.conds.map aN.c)) (by simp))).1;simpa using this) aB.conds 0 rfl h);refine(aU.a [.cn [2,3,58,59] [0,1]]).lp hΓ (IZ hΓ (fun h=>?_) (by have:=(dS.sl (dS.agg (hr _ (aC (i:=0) rfl)) (.sl (aB.cr.map Action.c)) (by simp))).1;simpa using this) aB.cr 0 rfl h);have h:=aG h;subst h;exact aU.ret hΓ
def mJ(aB:au)(aV:au)(k1:Option Bool):au->Nat->Option Bool
 | [],i1=>(k1)
 |bD::bn,i1=>((mC aV (i1:Int)).bind fun x30=>((qX bD x30).bind fun Dt=>(bif !(Dt)then(some false)else(mJ aB aV k1 bn (i1+1)))))
def sQ(aB:au)(aV:au):Option Bool:=(bif (((aB.map aO.c).length:Int):Int) != ((aV.map aO.c).length:Int)then(some false)else(mJ aB aV (some true) aB 0))
def Ii(aB:au)(aV:au)(cS:Int):St:=⟨[(0,D.sl (aB.map aO.c)),(1,D.sl (aV.map aO.c)),(12,D.int .i64 ((aB.map aO.c).length:Int)),(13,D.int .i64 cS)],[]⟩
theorem GS(hΓ:Γ.nt=27){aB:au}{aV:au}{r:Bool}{k1:Option Bool}(cX:k1=some r->Ax Γ N f156 (.q [[none]] (D.bool r)) [1,1,1] ⟨[],[]⟩)(hm1:aB.length<=maxLen):∀(rest:au) (i1:Nat),aB.drop i1=rest->mJ aB aV k1 rest i1=some r->Ar Γ N f156 (.q [[none]] (D.bool r)) [1,1,0,1,0] (rest.length+1) (Ii aB aV (i1:Int)):=by
 intro rest
 induction rest with
 |nil=>
  intro i1 aq h;rw[mJ]at h;refine aM fun N1 bu bq=>?_
  exact((aU.ge aO.c aq).a [.hl 0 [] []]).ex hΓ bu (cX h)
 |cons bD bn ih1=>
  intro i1 aq h;rw[mJ]at h;refine aM fun N1 bu bq=>?_
  obtain⟨x30,h31,h⟩:=aD h;obtain⟨Dt,h33,h⟩:=aD h;have dJ:=(((((aU.lt aO.c aq).a [.n 8]).l (ax aO.c 4 (dc aq) rfl)).l (dV aO.c 4 h31 rfl)).g (GJ h33))
  obtain⟨h34,h⟩|⟨h34,h⟩:=aL h
  ·have h:=aG h;subst h;exact(dJ.b h34).ret hΓ
  ·exact((dJ.b h34).a [.cn [0,1,12,13] []]).ct hΓ bq (iS aq hm1) (ih1 (i1+1) (dn aq) h)
theorem yw{aB:au}{aV:au}{r:Bool}(h:sQ aB aV=some r):Good prog 156 [D.sl (aB.map aO.c),D.sl (aV.map aO.c)] (D.bool r):=by
 refine gd func156 [[none]] 27 fun hr Γ hΓ=>?_
 rw[sQ]at h;obtain⟨h1,h⟩|⟨h1,h⟩:=aL h
 ·have h:=aG h;subst h;exact(aU.b h1).ret hΓ
 ·refine((aU.b h1).a [.cn [0,1,12,13] []]).lp hΓ (GS hΓ (fun h=>?_) (by have:=(dS.sl (hr _ (aC (i:=0) rfl))).1;simpa using this) aB 0 rfl h);have h:=aG h;subst h;exact aU.ret hΓ
def mw(aB:bJ)(aV:bJ)(k1:Option Bool):bJ->Nat->Option Bool
 | [],i1=>(k1)
 |bD::bn,i1=>((mC aV (i1:Int)).bind fun x22=>(bif (bD:Int) != x22 then(some false)else(mw aB aV k1 bn (i1+1))))
def u9(aB:bJ)(aV:bJ):Option Bool:=(bif (((aB.map dZ).length:Int):Int) != ((aV.map dZ).length:Int)then(some false)else(mw aB aV (some true) aB 0))
def Kf(aB:bJ)(aV:bJ)(cS:Int):St:=⟨[(0,D.sl (aB.map dZ)),(1,D.sl (aV.map dZ)),(12,D.int .i64 ((aB.map dZ).length:Int)),(13,D.int .i64 cS)],[]⟩
theorem Ig(hΓ:Γ.nt=26){aB:bJ}{aV:bJ}{r:Bool}{k1:Option Bool}(cX:k1=some r->Ax Γ N f157 (.q [[none]] (D.bool r)) [1,1,1] ⟨[],[]⟩)(hm1:aB.length<=maxLen):∀(rest:bJ) (i1:Nat),aB.drop i1=rest->mw aB aV k1 rest i1=some r->Ar Γ N f157 (.q [[none]] (D.bool r)) [1,1,0,1,0] (rest.length+1) (Kf aB aV (i1:Int)):=by
 intro rest
 induction rest with
 |nil=>
  intro i1 aq h;rw[mw]at h;refine aM fun N1 bu bq=>?_
  exact((aU.ge dZ aq).a [.hl 0 [] []]).ex hΓ bu (cX h)
 |cons bD bn ih1=>
  intro i1 aq h;rw[mw]at h;refine aM fun N1 bu bq=>?_
  obtain⟨x22,h23,h⟩:=aD h;have dJ:=((((aU.lt dZ aq).a [.n 8]).l (ax dZ 1 (dc aq) rfl)).l (dV dZ 1 h23 rfl))
  obtain⟨h24,h⟩|⟨h24,h⟩:=aL h
  ·have h:=aG h;subst h;exact(dJ.b h24).ret hΓ
  ·exact((dJ.b h24).a [.cn [0,1,12,13] []]).ct hΓ bq (iS aq hm1) (ih1 (i1+1) (dn aq) h)
theorem GQ{aB:bJ}{aV:bJ}{r:Bool}(h:u9 aB aV=some r):Good prog 157 [D.sl (aB.map dZ),D.sl (aV.map dZ)] (D.bool r):=by
 refine gd func157 [[none]] 26 fun hr Γ hΓ=>?_
 rw[u9]at h;obtain⟨h1,h⟩|⟨h1,h⟩:=aL h
 ·have h:=aG h;subst h;exact(aU.b h1).ret hΓ
 ·refine((aU.b h1).a [.cn [0,1,12,13] []]).lp hΓ (Ig hΓ (fun h=>?_) (by have:=(dS.sl (hr _ (aC (i:=0) rfl))).1;simpa using this) aB 0 rfl h);have h:=aG h;subst h;exact aU.ret hΓ
def oW(aB:aE)(aV:aE):Option Bool:=(bif (aB.rel:Bytes)==aV.rel then((pS aB.args aV.args).bind fun y2=>(some y2))else(some false))
theorem zk{aB:aE}{aV:aE}{r:Bool}(h:oW aB aV=some r):Good prog 231 [D.agg (aE.c aB),D.agg (aE.c aV)] (D.bool r):=by
 refine gd func231 [[none]] 17 fun hr Γ hΓ=>?_
 rw[oW]at h;obtain⟨h1,h⟩|⟨h1,h⟩:=aL h
 ·obtain⟨y2,h3,h⟩:=aD h;have h:=aG h;subst h;exact(((aU.r 5 h1).g (yx h3)).b h1).ret hΓ
 ·have h:=aG h;subst h;exact(aU.r 6 h1).ret hΓ
def mF(aB:aQ)(aV:aQ)(k1:Option Bool):aQ->Nat->Option Bool
 | [],i1=>(k1)
 |bD::bn,i1=>((mC aV (i1:Int)).bind fun x30=>((oW bD x30).bind fun Dt=>(bif !(Dt)then(some false)else(mF aB aV k1 bn (i1+1)))))
def jD(aB:aQ)(aV:aQ):Option Bool:=(bif (((aB.map aE.c).length:Int):Int) != ((aV.map aE.c).length:Int)then(some false)else(mF aB aV (some true) aB 0))
def IX(aB:aQ)(aV:aQ)(cS:Int):St:=⟨[(0,D.sl (aB.map aE.c)),(1,D.sl (aV.map aE.c)),(12,D.int .i64 ((aB.map aE.c).length:Int)),(13,D.int .i64 cS)],[]⟩
theorem GI(hΓ:Γ.nt=27){aB:aQ}{aV:aQ}{r:Bool}{k1:Option Bool}(cX:k1=some r->Ax Γ N f158 (.q [[none]] (D.bool r)) [1,1,1] ⟨[],[]⟩)(hm1:aB.length<=maxLen):∀(rest:aQ) (i1:Nat),aB.drop i1=rest->mF aB aV k1 rest i1=some r->Ar Γ N f158 (.q [[none]] (D.bool r)) [1,1,0,1,0] (rest.length+1) (IX aB aV (i1:Int)):=by
 intro rest
 induction rest with
 |nil=>
  intro i1 aq h;rw[mF]at h;refine aM fun N1 bu bq=>?_
  exact((aU.ge aE.c aq).a [.hl 0 [] []]).ex hΓ bu (cX h)
 |cons bD bn ih1=>
  intro i1 aq h;rw[mF]at h;refine aM fun N1 bu bq=>?_
  obtain⟨x30,h31,h⟩:=aD h;obtain⟨Dt,h33,h⟩:=aD h;have dJ:=(((((aU.lt aE.c aq).a [.n 8]).l (ax aE.c 2 (dc aq) rfl)).l (dV aE.c 2 h31 rfl)).g (zk h33))
  obtain⟨h34,h⟩|⟨h34,h⟩:=aL h
  ·have h:=aG h;subst h;exact(dJ.b h34).ret hΓ
  ·exact((dJ.b h34).a [.cn [0,1,12,13] []]).ct hΓ bq (iS aq hm1) (ih1 (i1+1) (dn aq) h)
theorem vA{aB:aQ}{aV:aQ}{r:Bool}(h:jD aB aV=some r):Good prog 158 [D.sl (aB.map aE.c),D.sl (aV.map aE.c)] (D.bool r):=by
 refine gd func158 [[none]] 27 fun hr Γ hΓ=>?_
 rw[jD]at h;obtain⟨h1,h⟩|⟨h1,h⟩:=aL h
 ·have h:=aG h;subst h;exact(aU.b h1).ret hΓ
 ·refine((aU.b h1).a [.cn [0,1,12,13] []]).lp hΓ (GI hΓ (fun h=>?_) (by have:=(dS.sl (hr _ (aC (i:=0) rfl))).1;simpa using this) aB 0 rfl h);have h:=aG h;subst h;exact aU.ret hΓ
def jU(aB:aT)(aV:aT)(k1:Option Bool):aT->Nat->Option Bool
 | [],i1=>(k1)
 |bD::bn,i1=>((mC aV (i1:Int)).bind fun x22=>(bif !((bD.var:Bytes)==x22.var&&(bD.value:Bytes)==x22.value)then(some false)else(jU aB aV k1 bn (i1+1))))
def pR(aB:aT)(aV:aT):Option Bool:=(bif (((aB.map aS.c).length:Int):Int) != ((aV.map aS.c).length:Int)then(some false)else(jU aB aV (some true) aB 0))
def Ih(aB:aT)(aV:aT)(cS:Int):St:=⟨[(0,D.sl (aB.map aS.c)),(1,D.sl (aV.map aS.c)),(12,D.int .i64 ((aB.map aS.c).length:Int)),(13,D.int .i64 cS)],[]⟩
theorem GR(hΓ:Γ.nt=26){aB:aT}{aV:aT}{r:Bool}{k1:Option Bool}(cX:k1=some r->Ax Γ N f233 (.q [[none]] (D.bool r)) [1,1,1] ⟨[],[]⟩)(hm1:aB.length<=maxLen):∀(rest:aT) (i1:Nat),aB.drop i1=rest->jU aB aV k1 rest i1=some r->Ar Γ N f233 (.q [[none]] (D.bool r)) [1,1,0,1,0] (rest.length+1) (Ih aB aV (i1:Int)):=by
 intro rest
 induction rest with
 |nil=>
  intro i1 aq h;rw[jU]at h;refine aM fun N1 bu bq=>?_
  exact((aU.ge aS.c aq).a [.hl 0 [] []]).ex hΓ bu (cX h)
 |cons bD bn ih1=>
  intro i1 aq h;rw[jU]at h;refine aM fun N1 bu bq=>?_
  obtain⟨x22,h23,h⟩:=aD h;have dJ:=((((aU.lt aS.c aq).a [.n 8]).l (ax aS.c 2 (dc aq) rfl)).l (dV aS.c 2 h23 rfl))
  obtain⟨h24,h⟩|⟨h24,h⟩:=aL h
  ·have h:=aG h;subst h;exact(dJ.b h24).ret hΓ
  ·exact((dJ.b h24).a [.cn [0,1,12,13] []]).ct hΓ bq (iS aq hm1) (ih1 (i1+1) (dn aq) h)
theorem FH{aB:aT}{aV:aT}{r:Bool}(h:pR aB aV=some r):Good prog 233 [D.sl (aB.map aS.c),D.sl (aV.map aS.c)] (D.bool r):=by
 refine gd func233 [[none]] 26 fun hr Γ hΓ=>?_
 rw[pR]at h;obtain⟨h1,h⟩|⟨h1,h⟩:=aL h
 ·have h:=aG h;subst h;exact(aU.b h1).ret hΓ
 ·refine((aU.b h1).a [.cn [0,1,12,13] []]).lp hΓ (GR hΓ (fun h=>?_) (by have:=(dS.sl (hr _ (aC (i:=0) rfl))).1;simpa using this) aB 0 rfl h);have h:=aG h;subst h;exact aU.ret hΓ
def iX(aB:af)(aV:af)(k1:Option Bool):af->Nat->Option Bool
 | [],i1=>(k1)
 |bD::bn,i1=>((mC aV (i1:Int)).bind fun x42=>((jD bD.facts x42.facts).bind fun y44=>(bif !(y44)then(some false)else((pR bD.bind x42.bind).bind fun y47=>(bif !(y47)then(some false)else(iX aB aV k1 bn (i1+1)))))))
def oB(aB:af)(aV:af):Option Bool:=(bif (((aB.map aJ.c).length:Int):Int) != ((aV.map aJ.c).length:Int)then(some false)else(iX aB aV (some true) aB 0))
def GV(aB:af)(aV:af)(cS:Int):St:=⟨[(0,D.sl (aB.map aJ.c)),(1,D.sl (aV.map aJ.c)),(12,D.int .i64 ((aB.map aJ.c).length:Int)),(13,D.int .i64 cS)],[]⟩
theorem FI(hΓ:Γ.nt=43){aB:af}{aV:af}{r:Bool}{k1:Option Bool}(cX:k1=some r->Ax Γ N f161 (.q [[none]] (D.bool r)) [1,1,1] ⟨[],[]⟩)(hm1:aB.length<=maxLen):∀(rest:af) (i1:Nat),aB.drop i1=rest->iX aB aV k1 rest i1=some r->Ar Γ N f161 (.q [[none]] (D.bool r)) [1,1,0,1,0] (rest.length+1) (GV aB aV (i1:Int)):=by
 intro rest
 induction rest with
 |nil=>
  intro i1 aq h;rw[iX]at h;refine aM fun N1 bu bq=>?_
  exact((aU.ge aJ.c aq).a [.hl 0 [] []]).ex hΓ bu (cX h)
 |cons bD bn ih1=>
  intro i1 aq h;rw[iX]at h;refine aM fun N1 bu bq=>?_
  obtain⟨x42,h43,h⟩:=aD h;obtain⟨y44,h45,h⟩:=aD h;have kT:=(((((aU.lt aJ.c aq).a [.n 23]).l (ax aJ.c 2 (dc aq) rfl)).l (dV aJ.c 2 h43 rfl)).g (vA h45))
  obtain⟨h46,h⟩|⟨h46,h⟩:=aL h
  ·have h:=aG h;subst h;exact((kT.r 13 h46).T 1).ret hΓ
  ·obtain⟨y47,h48,h⟩:=aD h;have jN:=(((((((kT.r 3 h46).l (ax aJ.c 2 (dc aq) rfl)).r 5 h46).l (dV aJ.c 2 h43 rfl)).r 3 h46).g (FH h48)).r 2 h46)
   obtain⟨h49,h⟩|⟨h49,h⟩:=aL h
   ·have h:=aG h;subst h;exact(jN.b h49).ret hΓ
   ·exact((jN.b h49).a [.cn [0,1,12,13] []]).ct hΓ bq (iS aq hm1) (ih1 (i1+1) (dn aq) h)
theorem EI{aB:af}{aV:af}{r:Bool}(h:oB aB aV=some r):Good prog 161 [D.sl (aB.map aJ.c),D.sl (aV.map aJ.c)] (D.bool r):=by
 refine gd func161 [[none]] 43 fun hr Γ hΓ=>?_
 rw[oB]at h;obtain⟨h1,h⟩|⟨h1,h⟩:=aL h
 ·have h:=aG h;subst h;exact(aU.b h1).ret hΓ
 ·refine((aU.b h1).a [.cn [0,1,12,13] []]).lp hΓ (FI hΓ (fun h=>?_) (by have:=(dS.sl (hr _ (aC (i:=0) rfl))).1;simpa using this) aB 0 rfl h);have h:=aG h;subst h;exact aU.ret hΓ
def gK(aB:aF)(aV:aF)(k1:Option Bool):b8->Nat->Option Bool
 | [],i1=>(k1)
 |bD::bn,i1=>((mC aV.ay (i1:Int)).bind fun x52=>((fH bD.shape x52.shape).bind fun PY=>(bif !(PY)then(some false)else((jD bD.facts x52.facts).bind fun y57=>(bif !(y57)then(some false)else(gK aB aV k1 bn (i1+1)))))))
def gL(aB:aF)(aV:aF)(k2:Option Bool):az->Nat->Option Bool
 | [],i2=>(k2)
 |lM::wF,i2=>((mC aV.nodes (i2:Int)).bind fun x108=>(bif (lM.parent:Int) != x108.parent then(some false)else(bif (lM.cP:Int) != x108.cP then(some false)else((jx lM.cond x108.cond).bind fun Jt=>(bif !(Jt)then(some false)else((oB lM.tokens x108.tokens).bind fun Tz=>(bif !(Tz)then(some false)else(gL aB aV k2 wF (i2+1)))))))))
def om(aB:aF)(aV:aF):Option Bool:=((sQ aB.rules aV.rules).bind fun y1=>(bif !(y1)then(some false)else((u9 aB.ends aV.ends).bind fun y4=>(bif !(y4)then(some false)else((jD aB.facts aV.facts).bind fun y7=>(bif !(y7)then(some false)else(bif (((aB.ay.map aP.c).length:Int):Int) != ((aV.ay.map aP.c).length:Int)then(some false)else(bif (((aB.nodes.map Node.c).length:Int):Int) != ((aV.nodes.map Node.c).length:Int)then(some false)else(gK aB aV (gL aB aV (some true) aB.nodes 0) aB.ay 0)))))))))
def EA(aB:aF)(aV:aF)(cS:Int):St:=⟨[(2,D.ptr 0 0),(3,D.ptr 1 0),(51,D.int .i64 ((aB.ay.map aP.c).length:Int)),(52,D.int .i64 cS)],[Ob.box (aF.c aB),Ob.box (aF.c aV)]⟩
theorem DM(hΓ:Γ.nt=131){aB:aF}{aV:aF}{r:Bool}{k1:Option Bool}(cX:k1=some r->Ax Γ N f91 (.q [[none]] (D.bool r)) [1,1,1] ⟨[(2,D.ptr 0 0),(3,D.ptr 1 0)],[Ob.box (aF.c aB),Ob.box (aF.c aV)]⟩)(hm1:aB.ay.length<=maxLen):∀(rest:b8) (i1:Nat),aB.ay.drop i1=rest->gK aB aV k1 rest i1=some r->Ar Γ N f91 (.q [[none]] (D.bool r)) [1,1,0,1,0] (rest.length+1) (EA aB aV (i1:Int)):=by
 intro rest
 induction rest with
 |nil=>
  intro i1 aq h;rw[gK]at h;refine aM fun N1 bu bq=>?_
  exact((aU.ge aP.c aq).a [.hl 0 [2,3] [0,1]]).ex hΓ bu (cX h)
 |cons bD bn ih1=>
  intro i1 aq h;rw[gK]at h;refine aM fun N1 bu bq=>?_
  obtain⟨x52,h53,h⟩:=aD h;obtain⟨PY,h55,h⟩:=aD h;have AG:=(((((aU.lt aP.c aq).a [.n 27]).l (ax aP.c 3 (dc aq) rfl)).l (dV aP.c 3 h53 rfl)).g (o8 h55))
  obtain⟨h56,h⟩|⟨h56,h⟩:=aL h
  ·have h:=aG h;subst h;exact((AG.r 15 h56).T 1).ret hΓ
  ·obtain⟨y57,h58,h⟩:=aD h;have D3:=(((((((AG.r 4 h56).l (ax aP.c 3 (dc aq) rfl)).r 6 h56).l (dV aP.c 3 h53 rfl)).r 3 h56).g (vA h58)).r 2 h56)
   obtain⟨h59,h⟩|⟨h59,h⟩:=aL h
   ·have h:=aG h;subst h;exact(D3.b h59).ret hΓ
   ·exact((D3.b h59).a [.cn [2,3,51,52] [0,1]]).ct hΓ bq (iS aq hm1) (ih1 (i1+1) (dn aq) h)
def EB(aB:aF)(aV:aF)(cS:Int):St:=⟨[(2,D.ptr 0 0),(3,D.ptr 1 0),(88,D.int .i64 ((aB.nodes.map Node.c).length:Int)),(89,D.int .i64 cS)],[Ob.box (aF.c aB),Ob.box (aF.c aV)]⟩
theorem DN(hΓ:Γ.nt=131){aB:aF}{aV:aF}{r:Bool}{k2:Option Bool}(CV:k2=some r->Ax Γ N f91 (.q [[none]] (D.bool r)) [1,1,1,1] ⟨[],[]⟩)(hm2:aB.nodes.length<=maxLen):∀(rest:az) (i2:Nat),aB.nodes.drop i2=rest->gL aB aV k2 rest i2=some r->Ar Γ N f91 (.q [[none]] (D.bool r)) [1,1,1,0,1,0] (rest.length+1) (EB aB aV (i2:Int)):=by
 intro rest
 induction rest with
 |nil=>
  intro i2 hd2 h;rw[gL]at h;refine aM fun N2 xM uT=>?_
  exact((aU.ge Node.c hd2).a [.hl 0 [] []]).ex hΓ xM (CV h)
 |cons lM wF ih2=>
  intro i2 hd2 h;rw[gL]at h;refine aM fun N2 xM uT=>?_
  obtain⟨x108,h109,h⟩:=aD h;have Hw:=((((aU.lt Node.c hd2).a [.n 13]).l (ax Node.c 8 (dc hd2) rfl)).l (dV Node.c 8 h109 rfl))
  obtain⟨h110,h⟩|⟨h110,h⟩:=aL h
  ·have h:=aG h;subst h;exact((Hw.r 6 h110).T 15).ret hΓ
  ·have yc:=(Hw.r 6 h110)
   obtain⟨h111,h⟩|⟨h111,h⟩:=aL h
   ·have h:=aG h;subst h;exact((yc.r 7 h111).T 8).ret hΓ
   ·obtain⟨Jt,h113,h⟩:=aD h;have Cv:=(((yc.r 5 h111).g (vc h113)).r 2 h111)
    obtain⟨h114,h⟩|⟨h114,h⟩:=aL h
    ·have h:=aG h;subst h;exact((Cv.r 7 h114).T 1).ret hΓ
    ·obtain⟨Tz,h116,h⟩:=aD h;have BB:=(((Cv.r 5 h114).g (EI h116)).r 2 h114)
     obtain⟨h117,h⟩|⟨h117,h⟩:=aL h
     ·have h:=aG h;subst h;exact(BB.b h117).ret hΓ
     ·exact((BB.b h117).a [.cn [2,3,88,89] [0,1]]).ct hΓ uT (iS hd2 hm2) (ih2 (i2+1) (dn hd2) h)
theorem Cj{aB:aF}{aV:aF}{r:Bool}(h:om aB aV=some r):Good prog 91 [D.agg (aF.c aB),D.agg (aF.c aV)] (D.bool r):=by
 refine gd func91 [[none]] 131 fun hr Γ hΓ=>?_
 rw[om]at h;obtain⟨y1,h2,h⟩:=aD h;obtain⟨h3,h⟩|⟨h3,h⟩:=aL h
 ·have h:=aG h;subst h;exact(((aU.g (yw h2)).r 7 h3).T 24).ret hΓ
 ·obtain⟨y4,h5,h⟩:=aD h;have Hu:=((((aU.g (yw h2)).r 5 h3).g (GQ h5)).r 2 h3)
  obtain⟨h6,h⟩|⟨h6,h⟩:=aL h
  ·have h:=aG h;subst h;exact((Hu.r 7 h6).T 17).ret hΓ
  ·obtain⟨y7,h8,h⟩:=aD h;have Hv:=(((Hu.r 5 h6).g (vA h8)).r 2 h6)
   obtain⟨h9,h⟩|⟨h9,h⟩:=aL h
   ·have h:=aG h;subst h;exact((Hv.r 8 h9).T 9).ret hΓ
   ·have Qs:=(Hv.r 8 h9)
    obtain⟨h10,h⟩|⟨h10,h⟩:=aL h
    ·have h:=aG h;subst h;exact((Qs.r 8 h10).T 1).ret hΓ
    ·have Qt:=(Qs.r 8 h10)
     obtain⟨h11,h⟩|⟨h11,h⟩:=aL h
     ·have h:=aG h;subst h;exact(Qt.b h11).ret hΓ
     ·refine((Qt.b h11).a [.cn [2,3,51,52] [0,1]]).lp hΓ (DM hΓ (fun h=>?_) (by have:=(dS.sl (dS.agg (hr _ (aC (i:=0) rfl)) (.sl (aB.ay.map aP.c)) (by simp))).1;simpa using this) aB.ay 0 rfl h);refine(aU.a [.cn [2,3,88,89] [0,1]]).lp hΓ (DN hΓ (fun h=>?_) (by have:=(dS.sl (dS.agg (hr _ (aC (i:=0) rfl)) (.sl (aB.nodes.map Node.c)) (by simp))).1;simpa using this) aB.nodes 0 rfl h);have h:=aG h;subst h;exact aU.ret hΓ
def sI(aB:aF):Option Bool:=((tj aB.rules).bind fun y1=>(bif y1 then((qW aB.facts).bind fun y4=>(bif y4 then(bif decide ((aB.cK:Int)>=0)then((yS aB.rules aB.facts 0).bind fun y8=>((om aB y8).bind fun Oa=>(some Oa)))else(some false))else(some false)))else(some false)))
theorem yp{aB:aF}{r:Bool}(h:sI aB=some r):Good prog 39 [D.agg (aF.c aB)] (D.bool r):=by
 refine gd func39 [[none]] 25 fun hr Γ hΓ=>?_
 rw[sI]at h;obtain⟨y1,h2,h⟩:=aD h;have jz:=((aU.a [.n 20]).g (G9 h2))
 obtain⟨h3,h⟩|⟨h3,h⟩:=aL h
 ·obtain⟨y4,h5,h⟩:=aD h;have dJ:=(((jz.r 3 h3).g (zb h5)).b h3)
  obtain⟨h6,h⟩|⟨h6,h⟩:=aL h
  ·have kT:=(dJ.r 4 h6)
   obtain⟨h7,h⟩|⟨h7,h⟩:=aL h
   ·obtain⟨y8,h9,h⟩:=aD h;obtain⟨Oa,h11,h⟩:=aD h;have h:=aG h;subst h;exact(((((kT.r 6 h7).g (MQ h9)).b h7).g (Cj h11)).b h7).ret hΓ
   ·have h:=aG h;subst h;exact(kT.r 8 h7).ret hΓ
  ·have h:=aG h;subst h;exact((dJ.r 4 h6).F 8).ret hΓ
 ·have h:=aG h;subst h;exact((jz.r 4 h3).F 12).ret hΓ
def k8(aB:aQ)(aV:aE)(k1:Option Int):aQ->Nat->Option Int
 | [],i1=>(k1)
 |bD::bn,i1=>((oW bD aV).bind fun RE=>(bif RE then(some (i1:Int))else(k8 aB aV k1 bn (i1+1))))
def tq(aB:aQ)(aV:aE):Option Int:=(k8 aB aV (some (-1)) aB 0)
def KT(aB:aQ)(aV:aE)(cS:Int):St:=⟨[(3,D.ptr 0 0),(7,D.sl (aB.map aE.c)),(8,D.int .i64 ((aB.map aE.c).length:Int)),(9,D.int .i64 cS)],[Ob.box (aE.c aV)]⟩
theorem IS(hΓ:Γ.nt=19){aB:aQ}{aV:aE}{r:Int}{k1:Option Int}(cX:k1=some r->Ax Γ N f237 (.q [[none]] (D.int .i64 r)) [1,1] ⟨[],[]⟩)(hm1:aB.length<=maxLen):∀(rest:aQ) (i1:Nat),aB.drop i1=rest->k8 aB aV k1 rest i1=some r->Ar Γ N f237 (.q [[none]] (D.int .i64 r)) [1,0,1,0] (rest.length+1) (KT aB aV (i1:Int)):=by
 intro rest
 induction rest with
 |nil=>
  intro i1 aq h;rw[k8]at h;refine aM fun N1 bu bq=>?_
  exact((aU.ge aE.c aq).a [.hl 0 [] []]).ex hΓ bu (cX h)
 |cons bD bn ih1=>
  intro i1 aq h;rw[k8]at h;refine aM fun N1 bu bq=>?_
  obtain⟨RE,h22,h⟩:=aD h;have dJ:=(((aU.lt aE.c aq).l (ax aE.c 2 (dc aq) rfl)).g (zk h22))
  obtain⟨h23,h⟩|⟨h23,h⟩:=aL h
  ·cases h;exact(dJ.b h23).ret hΓ
  ·exact((dJ.b h23).a [.cn [3,7,8,9] [0]]).ct hΓ bq (iS aq hm1) (ih1 (i1+1) (dn aq) h)
theorem GB{aB:aQ}{aV:aE}{r:Int}(h:tq aB aV=some r):Good prog 237 [D.sl (aB.map aE.c),D.agg (aE.c aV)] (D.int .i64 r):=by
 refine gd func237 [[none]] 19 fun hr Γ hΓ=>?_
 rw[tq]at h;refine(aU.a [.cn [3,7,8,9] [0]]).lp hΓ (IS hΓ (fun h=>?_) (by have:=(dS.sl (hr _ (aC (i:=0) rfl))).1;simpa using this) aB 0 rfl h);cases h;exact aU.ret hΓ
def eV(aB:aQ)(aV:aQ)(k1:Option Int):aQ->Nat->Option Int
 | [],i1=>(k1)
 |bD::bn,i1=>(bif decide (((i1:Int):Int)<((aV.map aE.c).length:Int))then((mC aV (i1:Int)).bind fun x34=>((gh bD x34).bind fun I5=>(bif (I5:Int) != 0 then(some I5)else(eV aB aV k1 bn (i1+1)))))else(k1))
def o9(aB:aQ)(aV:aQ):Option Int:=(eV aB aV ((iU ((aB.map aE.c).length:Int) ((aV.map aE.c).length:Int)).bind fun RF=>(some RF)) aB 0)
def Be(aB:aQ)(aV:aQ)(cS:Int):St:=⟨[(0,D.sl (aB.map aE.c)),(1,D.sl (aV.map aE.c)),(5,D.int .i64 cS)],[]⟩
theorem B5(hΓ:Γ.nt=36){aB:aQ}{aV:aQ}{r:Int}{k1:Option Int}(cX:k1=some r->Ax Γ N f282 (.q [[none]] (D.int .i64 r)) [1,1] ⟨[(0,D.sl (aB.map aE.c)),(1,D.sl (aV.map aE.c))],[]⟩)(hm1:aB.length<=maxLen):∀(rest:aQ) (i1:Nat),aB.drop i1=rest->eV aB aV k1 rest i1=some r->Ar Γ N f282 (.q [[none]] (D.int .i64 r)) [1,0,1,0] (rest.length+1) (Be aB aV (i1:Int)):=by
 intro rest
 induction rest with
 |nil=>
  intro i1 aq h;rw[eV]at h;refine aM fun N1 bu bq=>?_
  exact(((((((aU.ge aE.c aq).ge aE.c aq).ge aE.c aq).ge aE.c aq).ge aE.c aq).F 1).a [.hl 0 [0,1] []]).ex hΓ bu (cX h)
 |cons bD bn ih1=>
  intro i1 aq h;rw[eV]at h;refine aM fun N1 bu bq=>?_
  have kT:=(((((aU.lt aE.c aq).lt aE.c aq).lt aE.c aq).lt aE.c aq).lt aE.c aq)
  obtain⟨h33,h⟩|⟨h33,h⟩:=aL h
  ·obtain⟨x34,h35,h⟩:=aD h;obtain⟨I5,h37,h⟩:=aD h;have jN:=(((((kT.b h33).a [.n 8]).l (ax aE.c 2 (dc aq) rfl)).l (dV aE.c 2 h35 rfl)).g (x8 h37))
   obtain⟨h38,h⟩|⟨h38,h⟩:=aL h
   ·have h:=aG h;subst h;exact(jN.b h38).ret hΓ
   ·exact((jN.b h38).a [.cn [0,1,5] []]).ct hΓ bq (iS aq hm1) (ih1 (i1+1) (dn aq) h)
  ·exact((kT.b h33).a [.hl 0 [0,1] []]).ex hΓ bu (cX h)
theorem AQ{aB:aQ}{aV:aQ}{r:Int}(h:o9 aB aV=some r):Good prog 282 [D.sl (aB.map aE.c),D.sl (aV.map aE.c)] (D.int .i64 r):=by
 refine gd func282 [[none]] 36 fun hr Γ hΓ=>?_
 rw[o9]at h;refine(aU.a [.cn [0,1,5] []]).lp hΓ (B5 hΓ (fun h=>?_) (by have:=(dS.sl (hr _ (aC (i:=0) rfl))).1;simpa using this) aB 0 rfl h);obtain⟨RF,h40,h⟩:=aD h;have h:=aG h;subst h;exact(aU.g (sL h40)).ret hΓ
def nk(aB:aJ)(aV:aJ):Option Int:=((o9 aB.facts aV.facts).bind fun y1=>(some y1))
theorem CH{aB:aJ}{aV:aJ}{r:Int}(h:nk aB aV=some r):Good prog 271 [D.agg (aJ.c aB),D.agg (aJ.c aV)] (D.int .i64 r):=by
 refine gd func271 [[none]] 10 fun hr Γ hΓ=>?_
 rw[nk]at h;obtain⟨y1,h2,h⟩:=aD h;have h:=aG h;subst h;exact(aU.g (AQ h2)).ret hΓ
def kF(aB:af)(aV:aJ)(k1:Option Bool):af->Nat->Option Bool
 | [],i1=>(k1)
 |bD::bn,i1=>((nk bD aV).bind fun RE=>(bif (RE:Int)==0 then(some true)else(kF aB aV k1 bn (i1+1))))
def u7(aB:af)(aV:aJ):Option Bool:=(kF aB aV (some false) aB 0)
def Ke(aB:af)(aV:aJ)(cS:Int):St:=⟨[(3,D.ptr 0 0),(7,D.sl (aB.map aJ.c)),(8,D.int .i64 ((aB.map aJ.c).length:Int)),(9,D.int .i64 cS)],[Ob.box (aJ.c aV)]⟩
theorem Ie(hΓ:Γ.nt=18){aB:af}{aV:aJ}{r:Bool}{k1:Option Bool}(cX:k1=some r->Ax Γ N f238 (.q [[none]] (D.bool r)) [1,1] ⟨[],[]⟩)(hm1:aB.length<=maxLen):∀(rest:af) (i1:Nat),aB.drop i1=rest->kF aB aV k1 rest i1=some r->Ar Γ N f238 (.q [[none]] (D.bool r)) [1,0,1,0] (rest.length+1) (Ke aB aV (i1:Int)):=by
 intro rest
 induction rest with
 |nil=>
  intro i1 aq h;rw[kF]at h;refine aM fun N1 bu bq=>?_
  exact((aU.ge aJ.c aq).a [.hl 0 [] []]).ex hΓ bu (cX h)
 |cons bD bn ih1=>
  intro i1 aq h;rw[kF]at h;refine aM fun N1 bu bq=>?_
  obtain⟨RE,h22,h⟩:=aD h;have dJ:=(((aU.lt aJ.c aq).l (ax aJ.c 2 (dc aq) rfl)).g (CH h22))
  obtain⟨h23,h⟩|⟨h23,h⟩:=aL h
  ·have h:=aG h;subst h;exact(dJ.b h23).ret hΓ
  ·exact((dJ.b h23).a [.cn [3,7,8,9] [0]]).ct hΓ bq (iS aq hm1) (ih1 (i1+1) (dn aq) h)
theorem GP{aB:af}{aV:aJ}{r:Bool}(h:u7 aB aV=some r):Good prog 238 [D.sl (aB.map aJ.c),D.agg (aJ.c aV)] (D.bool r):=by
 refine gd func238 [[none]] 18 fun hr Γ hΓ=>?_
 rw[u7]at h;refine(aU.a [.cn [3,7,8,9] [0]]).lp hΓ (Ie hΓ (fun h=>?_) (by have:=(dS.sl (hr _ (aC (i:=0) rfl))).1;simpa using this) aB 0 rfl h);have h:=aG h;subst h;exact aU.ret hΓ
def jk(aB:aF)(cV:aE)(y3:aF×Unit)(mV:Int)(i1:Nat)(bD:Node)(x313:Node)(k2:Int->Int->Option aF):af->Nat->Int->Int->Option aF
 | [],i2,Cb,Cc=>(k2 Cb Cc)
 |lM::wF,i2,Cb,Cc=>((mC aB.nodes bD.parent).bind fun x359=>((u7 x359.tokens lM).bind fun aAv=>(bif aAv then(jk aB cV y3 mV i1 bD x313 k2 wF (i2+1) (IntKind.i64.wrap (Cb+1)) Cc)else(jk aB cV y3 mV i1 bD x313 k2 wF (i2+1) Cb (IntKind.i64.wrap (Cc+1))))))
def fA(aB:aF)(cV:aE)(y3:aF×Unit)(k1:Int->Option aF):az->Nat->Int->Option aF
 | [],i1,mV=>(k1 mV)
 |bD::bn,i1,mV=>(bif ((i1:Int):Int)==0 then(fA aB cV y3 k1 bn (i1+1) mV)else((mC y3.1.nodes bD.parent).bind fun x313=>(bif decide (x313.tokens.length<=maxLen)then(jk aB cV y3 mV i1 bD x313 (fun(Sc:Int) (KH:Int)=>(bif decide ((bD.cP:Int)<0)then(fA aB cV y3 k1 bn (i1+1) (IntKind.i64.wrap (mV+KH)))else((mC y3.1.ay bD.cP).bind fun x365=>((jC x365.shape cV ([])).bind fun a0C=>(bif a0C.2 then(fA aB cV y3 k1 bn (i1+1) (IntKind.i64.wrap ((IntKind.i64.wrap (mV+(IntKind.i64.wrap (KH*((x365.facts.map aE.c).length:Int)))))+Sc)))else(fA aB cV y3 k1 bn (i1+1) (IntKind.i64.wrap (mV+(IntKind.i64.wrap (KH*((x365.facts.map aE.c).length:Int))))))))))) x313.tokens 0 0 0)else none)))
def ve(aB:aF)(aV:aQ)(cV:aE):Option aF:=((kD aB).bind fun y1=>((j8 y1 aV).bind fun y3=>(bif decide (y3.1.nodes.length<=maxLen)then(fA aB cV y3 (fun(wC:Int)=>(some (⟨y3.1.rules,y3.1.ends,y3.1.ay,y3.1.nodes,y3.1.facts,wC⟩:aF))) y3.1.nodes 0 y3.1.cK)else none)))
def MR(aB:aF)(cV:aE)(y3:aF×Unit)(mV:Int)(cS:Int):St:=⟨[(3,D.ptr 0 0),(5,D.ptr 1 0),(6,D.ptr 2 0),(7,D.ptr 3 0),(22,D.acc 4),(23,D.int .i64 ((y3.1.nodes.map Node.c).length:Int)),(24,D.int .i64 cS)],[Ob.box (aF.c aB),Ob.box (aE.c cV),Ob.box [D.nil,D.nil,D.nil,D.nil,D.nil,D.int .i64 0],Ob.box [D.acc 5,D.acc 6,D.acc 7,D.acc 4,D.acc 8,D.int .i64 mV],Ob.row .uq 118 8 (y3.1.nodes.map Node.c),Ob.row .uq 105 4 (y3.1.rules.map aO.c),Ob.row .uq 3 1 (y3.1.ends.map dZ),Ob.row .uq 111 3 (y3.1.ay.map aP.c),Ob.row .uq 53 2 (y3.1.facts.map aE.c)]⟩
def MS(aB:aF)(cV:aE)(y3:aF×Unit)(mV:Int)(i1:Nat)(bD:Node)(x313:Node)(Cb:Int)(Cc:Int)(cS:Int):St:=⟨[(3,D.ptr 0 0),(5,D.ptr 1 0),(6,D.ptr 2 0),(7,D.ptr 3 0),(9,D.ptr 4 0),(10,D.int .i64 Cb),(11,D.int .i64 Cc),(22,D.acc 5),(23,D.int .i64 ((y3.1.nodes.map Node.c).length:Int)),(24,D.int .i64 (i1:Int)),(37,D.sl (x313.tokens.map aJ.c)),(38,D.int .i64 ((x313.tokens.map aJ.c).length:Int)),(39,D.int .i64 cS)],[Ob.box (aF.c aB),Ob.box (aE.c cV),Ob.box [D.nil,D.nil,D.nil,D.nil,D.nil,D.int .i64 0],Ob.box [D.acc 6,D.acc 7,D.acc 8,D.acc 5,D.acc 9,D.int .i64 mV],Ob.box [D.int .i64 bD.parent,D.int .i64 bD.cond.kind,D.str bD.cond.pat.rel,D.sl (bD.cond.pat.args.map tx),D.str bD.cond.left,D.str bD.cond.right,D.int .i64 bD.cP,D.sl (bD.tokens.map aJ.c)],Ob.row .uq 118 8 (y3.1.nodes.map Node.c),Ob.row .uq 105 4 (y3.1.rules.map aO.c),Ob.row .uq 3 1 (y3.1.ends.map dZ),Ob.row .uq 111 3 (y3.1.ay.map aP.c),Ob.row .uq 53 2 (y3.1.facts.map aE.c)]⟩
theorem Ka(hΓ:Γ.nt=95){aB:aF}{cV:aE}{y3:aF×Unit}{mV:Int}{i1:Nat}{bD:Node}{x313:Node}{r:aF}{k2:Int->Int->Option aF}(CV:∀(Sc:Int) (KH:Int),k2 Sc KH=some r->Ax Γ N f169 (.q [[some (105,4),some (3,1),some (111,3),some (118,8),some (53,2),none]] (D.agg [D.fr 105 4 (r.rules.map aO.c),D.fr 3 1 (r.ends.map dZ),D.fr 111 3 (r.ay.map aP.c),D.fr 118 8 (r.nodes.map Node.c),D.fr 53 2 (r.facts.map aE.c),D.int .i64 r.cK])) [1,1,1,0,1,0,0,1,1,0,0,1,1,1,1] ⟨[(3,D.ptr 0 0),(5,D.ptr 1 0),(6,D.ptr 2 0),(7,D.ptr 3 0),(9,D.ptr 4 0),(10,D.int .i64 Sc),(11,D.int .i64 KH),(22,D.acc 5),(23,D.int .i64 ((y3.1.nodes.map Node.c).length:Int)),(24,D.int .i64 (i1:Int))],[Ob.box (aF.c aB),Ob.box (aE.c cV),Ob.box [D.nil,D.nil,D.nil,D.nil,D.nil,D.int .i64 0],Ob.box [D.acc 6,D.acc 7,D.acc 8,D.acc 5,D.acc 9,D.int .i64 mV],Ob.box [D.int .i64 bD.parent,D.int .i64 bD.cond.kind,D.str bD.cond.pat.rel,D.sl (bD.cond.pat.args.map tx),D.str bD.cond.left,D.str bD.cond.right,D.int .i64 bD.cP,D.sl (bD.tokens.map aJ.c)],Ob.row .uq 118 8 (y3.1.nodes.map Node.c),Ob.row .uq 105 4 (y3.1.rules.map aO.c),Ob.row .uq 3 1 (y3.1.ends.map dZ),Ob.row .uq 111 3 (y3.1.ay.map aP.c),Ob.row .uq 53 2 (y3.1.facts.map aE.c)]⟩)(hm2:x313.tokens.length<=maxLen):∀(rest:af) (i2:Nat) (Cb:Int) (Cc:Int),x313.tokens.drop i2=rest->jk aB cV y3 mV i1 bD x313 k2 rest i2 Cb Cc=some r->Ar Γ N f169 (.q [[some (105,4),some (3,1),some (111,3),some (118,8),some (53,2),none]] (D.agg [D.fr 105 4 (r.rules.map aO.c),D.fr 3 1 (r.ends.map dZ),D.fr 111 3 (r.ay.map aP.c),D.fr 118 8 (r.nodes.map Node.c),D.fr 53 2 (r.facts.map aE.c),D.int .i64 r.cK])) [1,1,1,0,1,0,0,1,1,0,0,1,1,1,0,1,0] (rest.length+1) (MS aB cV y3 mV i1 bD x313 Cb Cc (i2:Int)):=by
 intro rest
 induction rest with
 |nil=>
  intro i2 Cb Cc hd2 h;rw[jk]at h;refine aM fun N2 xM uT=>?_
  exact((aU.ge aJ.c hd2).a [.hl 5 [3,5,6,7,9,10,11,22,23,24] [0,1,2,3,4,5,6,7,8,9]]).ex hΓ xM (CV Cb Cc h)
 |cons lM wF ih2=>
  intro i2 Cb Cc hd2 h;rw[jk]at h;refine aM fun N2 xM uT=>?_
  obtain⟨x359,h360,h⟩:=aD h;obtain⟨aAv,h362,h⟩:=aD h;have Hv:=(((((aU.lt aJ.c hd2).l (ax aJ.c 2 (dc hd2) rfl)).a [.n 8]).l (dV Node.c 8 h360 rfl)).g (GP h362))
  obtain⟨h363,h⟩|⟨h363,h⟩:=aL h
  ·exact((Hv.b h363).a [.cn [3,5,6,7,9,10,11,22,23,24,37,38,39] [0,1,2,3,4,5,6,7,8,9]]).ct hΓ uT (iS hd2 hm2) (ih2 (i2+1) (IntKind.i64.wrap (Cb+1)) Cc (dn hd2) h)
  ·exact((Hv.b h363).a [.cn [3,5,6,7,9,10,11,22,23,24,37,38,39] [0,1,2,3,4,5,6,7,8,9]]).ct hΓ uT (iS hd2 hm2) (ih2 (i2+1) Cb (IntKind.i64.wrap (Cc+1)) (dn hd2) h)
theorem KZ(hΓ:Γ.nt=95){aB:aF}{cV:aE}{y3:aF×Unit}{r:aF}{k1:Int->Option aF}(cX:∀(wC:Int),k1 wC=some r->Ax Γ N f169 (.q [[some (105,4),some (3,1),some (111,3),some (118,8),some (53,2),none]] (D.agg [D.fr 105 4 (r.rules.map aO.c),D.fr 3 1 (r.ends.map dZ),D.fr 111 3 (r.ay.map aP.c),D.fr 118 8 (r.nodes.map Node.c),D.fr 53 2 (r.facts.map aE.c),D.int .i64 r.cK])) [1,1,1,1] ⟨[(6,D.ptr 0 0),(7,D.ptr 1 0)],[Ob.box [D.nil,D.nil,D.nil,D.nil,D.nil,D.int .i64 0],Ob.box [D.acc 2,D.acc 3,D.acc 4,D.acc 5,D.acc 6,D.int .i64 wC],Ob.row .uq 105 4 (y3.1.rules.map aO.c),Ob.row .uq 3 1 (y3.1.ends.map dZ),Ob.row .uq 111 3 (y3.1.ay.map aP.c),Ob.row .uq 118 8 (y3.1.nodes.map Node.c),Ob.row .uq 53 2 (y3.1.facts.map aE.c)]⟩)(hm1:y3.1.nodes.length<=maxLen):∀(rest:az) (i1:Nat) (mV:Int),y3.1.nodes.drop i1=rest->fA aB cV y3 k1 rest i1 mV=some r->Ar Γ N f169 (.q [[some (105,4),some (3,1),some (111,3),some (118,8),some (53,2),none]] (D.agg [D.fr 105 4 (r.rules.map aO.c),D.fr 3 1 (r.ends.map dZ),D.fr 111 3 (r.ay.map aP.c),D.fr 118 8 (r.nodes.map Node.c),D.fr 53 2 (r.facts.map aE.c),D.int .i64 r.cK])) [1,1,1,0,1,0] (rest.length+1) (MR aB cV y3 mV (i1:Int)):=by
 intro rest
 induction rest with
 |nil=>
  intro i1 mV aq h;rw[fA]at h;refine aM fun N1 bu bq=>?_
  exact((aU.ge Node.c aq).a [.hl 0 [6,7] [2,3,5,6,7,4,8]]).ex hΓ bu (cX mV h)
 |cons bD bn ih1=>
  intro i1 mV aq h;rw[fA]at h;refine aM fun N1 bu bq=>?_
  have Qs:=(((aU.lt Node.c aq).i (p9 Node.c 8 (dc aq))).o 8 8 .uq (dB Node.c (dc aq)))
  obtain⟨h312,h⟩|⟨h312,h⟩:=aL h
  ·exact((Qs.b h312).a [.cn [3,5,6,7,22,23,24] [0,1,2,3,4,5,6,7,8]]).ct hΓ bq (iS aq hm1) (ih1 (i1+1) mV (dn aq) h)
  ·obtain⟨x313,h314,h⟩:=aD h;obtain⟨h370,h⟩:=bX h;refine((((Qs.b h312).i (xj Node.c 8 h314)).o 8 8 .uq (dB Node.c (tR h314))).a [.cn [3,5,6,7,9,10,11,22,23,24,37,38,39] [0,1,2,3,9,4,5,6,7,8]]).lp hΓ (Ka hΓ (fun Sc KH h=>?_) (bt h370) x313.tokens 0 0 0 rfl h);obtain⟨h364,h⟩|⟨h364,h⟩:=aL h
   ·exact((aU.b h364).a [.cn [3,5,6,7,22,23,24] [0,1,2,3,5,6,7,8,9]]).ct hΓ bq (iS aq hm1) (ih1 (i1+1) (IntKind.i64.wrap (mV+KH)) (dn aq) h)
   ·obtain⟨x365,h366,h⟩:=aD h;obtain⟨a0C,h368,h⟩:=aD h;have Qt:=(((((aU.b h364).i (xj aP.c 3 h366)).o 3 3 .uq (dB aP.c (tR h366))).a [.d (D.gb [D.fr 152 2 (a0C.1.map aS.c),D.bool a0C.2])]).w (show Good prog 239 [D.agg (aE.c x365.shape),D.agg (aE.c cV),D.sl ([])] (D.gb [D.fr 152 2 (a0C.1.map aS.c),D.bool a0C.2])from by first| (simpa only[bS,bG,bV,dH,cz]using qM h368)|exact qM h368))
    obtain⟨h369,h⟩|⟨h369,h⟩:=aL h
    ·exact((Qt.b h369).a [.cn [3,5,6,7,22,23,24] [0,1,2,3,5,6,7,8,9]]).ct hΓ bq (iS aq hm1) (ih1 (i1+1) (IntKind.i64.wrap ((IntKind.i64.wrap (mV+(IntKind.i64.wrap (KH*((x365.facts.map aE.c).length:Int)))))+Sc)) (dn aq) h)
    ·exact((Qt.b h369).a [.cn [3,5,6,7,22,23,24] [0,1,2,3,5,6,7,8,9]]).ct hΓ bq (iS aq hm1) (ih1 (i1+1) (IntKind.i64.wrap (mV+(IntKind.i64.wrap (KH*((x365.facts.map aE.c).length:Int))))) (dn aq) h)
theorem Ia{aB:aF}{aV:aQ}{cV:aE}{r:aF}(h:ve aB aV cV=some r):Good prog 169 [D.agg (aF.c aB),D.sl (aV.map aE.c),D.agg (aE.c cV)] (D.agg [D.fr 105 4 (r.rules.map aO.c),D.fr 3 1 (r.ends.map dZ),D.fr 111 3 (r.ay.map aP.c),D.fr 118 8 (r.nodes.map Node.c),D.fr 53 2 (r.facts.map aE.c),D.int .i64 r.cK]):=by
 refine gd func169 [[some (105,4),some (3,1),some (111,3),some (118,8),some (53,2),none]] 95 fun hr Γ hΓ=>?_
 rw[ve]at h;obtain⟨y1,h2,h⟩:=aD h;obtain⟨y3,h4,h⟩:=aD h;obtain⟨h371,h⟩:=bX h;refine(((aU.g (sN h2)).hp [[some (105,4),some (3,1),some (111,3),some (118,8),some (53,2),none],[none]] (vQ h4)).a [.cn [3,5,6,7,22,23,24] [0,1,2,8,12,9,10,11,13]]).lp hΓ (KZ hΓ (fun wC h=>?_) (bt h371) y3.1.nodes 0 y3.1.cK rfl h);cases h;exact aU.ret hΓ
def fW(aB:aQ)(aV:aE)(k1:aQ->Option aQ):aQ->Nat->aQ->Option aQ
 | [],i1,cB=>(k1 cB)
 |bD::bn,i1,cB=>((pH bD aV).bind fun Yl=>(bif !(Yl)then((ju bD).bind fun D2=>(bif room ((cB.map aE.c).length+([[D.str D2.rel,D.sl (D2.args.map tx)]]).length) 40 then(fW aB aV k1 bn (i1+1) (cB++([D2])))else none))else(fW aB aV k1 bn (i1+1) cB)))
def wJ(aB:aQ)(aV:aE):Option aQ:=(fW aB aV (fun(bO:aQ)=>(some bO)) aB 0 ([]:aQ))
def Ap(aB:aQ)(aV:aE)(W0:List aR)(cS:Int):St:=⟨[(0,D.sl (aB.map aE.c)),(3,D.ptr 0 0),(5,D.acc 1),(6,D.int .i64 cS)],[Ob.box (aE.c aV),Ob.row .uq 53 2 W0]⟩
theorem HQ(hΓ:Γ.nt=30){aB:aQ}{aV:aE}{r:aQ}{k1:aQ->Option aQ}(cX:∀(bO:aQ),k1 bO=some r->Ax Γ N f166 (.q [[some (53,2)]] (D.fr 53 2 (r.map aE.c))) [1,1,1] ⟨[(5,D.acc 0)],[Ob.row .uq 53 2 (bO.map aE.c)]⟩)(hm1:aB.length<=maxLen):∀(rest:aQ) (i1:Nat) (cB:aQ),aB.drop i1=rest->fW aB aV k1 rest i1 cB=some r->Ar Γ N f166 (.q [[some (53,2)]] (D.fr 53 2 (r.map aE.c))) [1,1,0,1,0] (rest.length+1) (Ap aB aV (cB.map aE.c) (i1:Int)):=by
 intro rest
 induction rest with
 |nil=>
  intro i1 cB aq h;rw[fW]at h;refine aM fun N1 bu bq=>?_
  exact((aU.ge aE.c aq).a [.hl 0 [5] [1]]).ex hΓ bu (cX cB h)
 |cons bD bn ih1=>
  intro i1 cB aq h;rw[fW]at h;refine aM fun N1 bu bq=>?_
  obtain⟨Yl,h43,h⟩:=aD h;have dJ:=((((aU.lt aE.c aq).a [.n 5]).l (ax aE.c 2 (dc aq) rfl)).g (xe h43))
  obtain⟨h44,h⟩|⟨h44,h⟩:=aL h
  ·obtain⟨D2,h46,h⟩:=aD h;obtain⟨h47,h⟩:=bX h;exact(((((dJ.b h44).l (ax aE.c 2 (dc aq) rfl)).g (tW h46)).w (cG h47)).a [.cn [0,3,5,6] [0,4]]).cs hΓ bq (Ap aB aV ((cB.map aE.c)++([[D.str D2.rel,D.sl (D2.args.map tx)]])) (IntKind.i64.wrap ((i1:Int)+1))) (by first| (simp only[iS aq hm1,mA]<;>rfl)| (simp only[iS aq hm1,mA,aE.c,aS.c,aN.c,Action.c,aO.c,aJ.c,cx.c,aP.c,Node.c,aF.c,cy.c]<;>rfl)) (ih1 (i1+1) (cB++([D2])) (dn aq) h)
  ·exact((dJ.b h44).a [.cn [0,3,5,6] [0,1]]).ct hΓ bq (iS aq hm1) (ih1 (i1+1) cB (dn aq) h)
theorem Fl{aB:aQ}{aV:aE}{r:aQ}(h:wJ aB aV=some r):Good prog 166 [D.sl (aB.map aE.c),D.agg (aE.c aV)] (D.fr 53 2 (r.map aE.c)):=by
 refine gd func166 [[some (53,2)]] 30 fun hr Γ hΓ=>?_
 rw[wJ]at h;refine(aU.a [.cn [0,3,5,6] [0,1]]).lp hΓ (HQ hΓ (fun bO h=>?_) (by have:=(dS.sl (hr _ (aC (i:=0) rfl))).1;simpa using this) aB 0 ([]:aQ) rfl h);have h:=aG h;subst h;exact aU.ret hΓ
def r9(aB:aQ)(aV:aE):Option (aQ×Bool):=((qg aB).bind fun y1=>(bif !(y1)then((eS aB).bind fun y4=>(some (y4,false)))else((uK aB aV).bind fun y6=>(bif decide ((y6:Int)<0)then((eS aB).bind fun y9=>(some (y9,false)))else((wJ aB aV).bind fun Re=>(some (Re,true)))))))
theorem EW{aB:aQ}{aV:aE}{r:aQ×Bool}(h:r9 aB aV=some r):Good prog 95 [D.sl (aB.map aE.c),D.agg (aE.c aV)] (D.gb [D.fr 53 2 (r.1.map aE.c),D.bool r.2]):=by
 refine gd func95 [[some (53,2)],[none]] 20 fun hr Γ hΓ=>?_
 rw[r9]at h;obtain⟨y1,h2,h⟩:=aD h;obtain⟨h3,h⟩|⟨h3,h⟩:=aL h
 ·obtain⟨y4,h5,h⟩:=aD h;cases h;exact((((aU.g (vz h2)).r 5 h3).T 1).g (iv h5)).ret hΓ
 ·obtain⟨y6,h7,h⟩:=aD h;have jz:=((((aU.g (vz h2)).r 3 h3).g (HD h7)).r 2 h3)
  obtain⟨h8,h⟩|⟨h8,h⟩:=aL h
  ·obtain⟨y9,h10,h⟩:=aD h;cases h;exact((jz.b h8).g (iv h10)).ret hΓ
  ·obtain⟨Re,h12,h⟩:=aD h;cases h;exact((jz.b h8).g (Fl h12)).ret hΓ
def jL(aB:aF)(aV:aE):Option (aF×Bool):=((r9 aB.facts aV).bind fun y1=>((tF aB).bind fun y3=>(bif !(y3)then((rW aB).bind fun y6=>(some (y6,false)))else(bif !(y1.2)then((rW aB).bind fun y9=>(some (y9,false)))else((uR aB y1.1 aV).bind fun Re=>(some (Re,true)))))))
theorem B7{aB:aF}{aV:aE}{r:aF×Bool}(h:jL aB aV=some r):Good prog 42 [D.agg (aF.c aB),D.agg (aE.c aV)] (D.gb [D.agg [D.fr 105 4 (r.1.rules.map aO.c),D.fr 3 1 (r.1.ends.map dZ),D.fr 111 3 (r.1.ay.map aP.c),D.fr 118 8 (r.1.nodes.map Node.c),D.fr 53 2 (r.1.facts.map aE.c),D.int .i64 r.1.cK],D.bool r.2]):=by
 refine gd func42 [[some (105,4),some (3,1),some (111,3),some (118,8),some (53,2),none],[none]] 28 fun hr Γ hΓ=>?_
 rw[jL]at h;obtain⟨y1,h2,h⟩:=aD h;obtain⟨y3,h4,h⟩:=aD h;have jz:=((aU.g (EW h2)).g (Ff h4))
 obtain⟨h5,h⟩|⟨h5,h⟩:=aL h
 ·obtain⟨y6,h7,h⟩:=aD h;cases h;exact(((jz.r 3 h5).T 1).g (xg h7)).ret hΓ
 ·have dJ:=(jz.r 3 h5)
  obtain⟨h8,h⟩|⟨h8,h⟩:=aL h
  ·obtain⟨y9,h10,h⟩:=aD h;cases h;exact((dJ.b h8).g (xg h10)).ret hΓ
  ·obtain⟨Re,h12,h⟩:=aD h;cases h;exact((dJ.b h8).g (HW h12)).ret hΓ
def qo(aB:aQ)(aV:aE):Option (aQ×Bool):=((tq aB aV).bind fun y1=>((qW aB).bind fun y3=>(bif !(y3)then((cv aB).bind fun y6=>(some (y6,false)))else(bif decide ((y1:Int)<0)then((cv aB).bind fun y9=>(some (y9,false)))else((Cw (aB.map aE.c).length none (some (D.int .i64 y1))).bind fun p=>(fun l11 u12=>((cv ((aB.take u12).drop l11)).bind fun U6=>((Cw (aB.map aE.c).length (some (D.int .i64 (IntKind.i64.wrap (y1+1)))) none).bind fun p=>(fun l16 u17=>((cv ((aB.take u17).drop l16)).bind fun y19=>(bif room ((U6.map aE.c).length+(y19.map aE.c).length) 40 then(some (U6++y19,true))else none))) p.1 p.2))) p.1 p.2)))))
theorem yR{aB:aQ}{aV:aE}{r:aQ×Bool}(h:qo aB aV=some r):Good prog 168 [D.sl (aB.map aE.c),D.agg (aE.c aV)] (D.gb [D.fr 53 2 (r.1.map aE.c),D.bool r.2]):=by
 refine gd func168 [[some (53,2)],[none]] 29 fun hr Γ hΓ=>?_
 rw[qo]at h;obtain⟨y1,h2,h⟩:=aD h;obtain⟨y3,h4,h⟩:=aD h;have jz:=(((aU.a [.PT 4]).g (GB h2)).g (zb h4))
 obtain⟨h5,h⟩|⟨h5,h⟩:=aL h
 ·obtain⟨y6,h7,h⟩:=aD h;cases h;exact(((jz.r 3 h5).T 1).g (dL h7)).ret hΓ
 ·have dJ:=(jz.r 3 h5)
  obtain⟨h8,h⟩|⟨h8,h⟩:=aL h
  ·obtain⟨y9,h10,h⟩:=aD h;cases h;exact((dJ.b h8).g (dL h10)).ret hΓ
  ·obtain⟨⟨l11,u12⟩,h13,h⟩:=aD h;obtain⟨U6,h15,h⟩:=aD h;obtain⟨⟨l16,u17⟩,h18,h⟩:=aD h;obtain⟨y19,h20,h⟩:=aD h;obtain⟨h21,h⟩:=bX h;cases h;exact((((((((dJ.b h8).w (show Cw (aB.map aE.c).length none (some (D.int .i64 y1))=some (l11,u12)/\((aB.map aE.c).all fun r=>r.length==2)=true from⟨h13,by simp[bA]⟩)).a [.n 8,.cut l11 u12,.d (D.fr 53 2 (U6.map aE.c))]).w (show Good prog 111 [D.sl (((aB.map aE.c).take u12).drop l11)] (D.fr 53 2 (U6.map aE.c))from by first| (simpa only[bS,bG,bV,dH,cz]using dL h15)|exact dL h15)).w (show Cw (aB.map aE.c).length (some (D.int .i64 (IntKind.i64.wrap (y1+1)))) none=some (l16,u17)/\((aB.map aE.c).all fun r=>r.length==2)=true from⟨h18,by simp[bA]⟩)).a [.cut l16 u17,.d (D.fr 53 2 (y19.map aE.c))]).w (show Good prog 111 [D.sl (((aB.map aE.c).take u17).drop l16)] (D.fr 53 2 (y19.map aE.c))from by first| (simpa only[bS,bG,bV,dH,cz]using dL h20)|exact dL h20)).w (cG h21)).rts hΓ (D.gb [D.fr 53 2 ((U6.map aE.c)++(y19.map aE.c)),D.bool true]) (by first|rfl| (simp only[mA]<;>rfl)| (simp only[cU,mA]<;>rfl))
def CS(aB:aF)(aV:aE):Option (aF×Bool):=((qo aB.facts aV).bind fun y1=>(bif !(y1.2)then((kD aB).bind fun y4=>(some (y4,false)))else((ve aB y1.1 aV).bind fun y6=>(some (y6,true)))))
theorem O4{aB:aF}{aV:aE}{r:aF×Bool}(h:CS aB aV=some r):Good prog 97 [D.agg (aF.c aB),D.agg (aE.c aV)] (D.gb [D.agg [D.fr 105 4 (r.1.rules.map aO.c),D.fr 3 1 (r.1.ends.map dZ),D.fr 111 3 (r.1.ay.map aP.c),D.fr 118 8 (r.1.nodes.map Node.c),D.fr 53 2 (r.1.facts.map aE.c),D.int .i64 r.1.cK],D.bool r.2]):=by
 refine gd func97 [[some (105,4),some (3,1),some (111,3),some (118,8),some (53,2),none],[none]] 23 fun hr Γ hΓ=>?_
 rw[CS]at h;obtain⟨y1,h2,h⟩:=aD h;obtain⟨h3,h⟩|⟨h3,h⟩:=aL h
 ·obtain⟨y4,h5,h⟩:=aD h;cases h;exact(((aU.g (yR h2)).b h3).g (sN h5)).ret hΓ
 ·obtain⟨y6,h7,h⟩:=aD h;cases h;exact(((aU.g (yR h2)).b h3).g (Ia h7)).ret hΓ
def gM(aB:aF)(aV:aE):Option (aF×Bool):=((sI aB).bind fun y1=>(bif !(y1)then((kD aB).bind fun y4=>(some (y4,false)))else((CS aB aV).bind fun y6=>(some (y6.1,y6.2)))))
theorem vR{aB:aF}{aV:aE}{r:aF×Bool}(h:gM aB aV=some r):Good prog 43 [D.agg (aF.c aB),D.agg (aE.c aV)] (D.gb [D.agg [D.fr 105 4 (r.1.rules.map aO.c),D.fr 3 1 (r.1.ends.map dZ),D.fr 111 3 (r.1.ay.map aP.c),D.fr 118 8 (r.1.nodes.map Node.c),D.fr 53 2 (r.1.facts.map aE.c),D.int .i64 r.1.cK],D.bool r.2]):=by
 refine gd func43 [[some (105,4),some (3,1),some (111,3),some (118,8),some (53,2),none],[none]] 16 fun hr Γ hΓ=>?_
 rw[gM]at h;obtain⟨y1,h2,h⟩:=aD h;obtain⟨h3,h⟩|⟨h3,h⟩:=aL h
 ·obtain⟨y4,h5,h⟩:=aD h;cases h;exact(((aU.g (yp h2)).b h3).g (sN h5)).ret hΓ
 ·obtain⟨y6,h7,h⟩:=aD h;cases h;exact(((aU.g (yp h2)).b h3).g (O4 h7)).ret hΓ
end Go.Cx
namespace Go.Cx
open Go.RowKit Go.Proofs Tryz
theorem zQ{α:Type}{a pre xs:List α}{x:α}(h:a=pre++x::xs):mC a (pre.length:Int)=some x:=by
 unfold mC;have:a[pre.length]?=some x:=by rw[h];simp
 simp[this]
theorem Hz{n b:Nat}(hn:n<=1099511627776)(hb:b<=128):room n b=true:=by
 unfold room maxLen;have:n*b<=1099511627776*128:=G1 hn hb;simp;omega
theorem ot{α:Type}{w:List α}{c:α->aR}{y:aR}{b:Nat}(h:w.length<1099511627776)(hb:b<=128):room ((w.map c).length+([y]).length) b=true:=Hz (by simp;omega) hb
theorem a2R{α β:Type}{w:List α}{v:List β}{c:α->aR}{d:β->aR}{b:Nat}(h:w.length+v.length<=1099511627776)(hb:b<=128):room ((w.map c).length+(v.map d).length) b=true:=Hz (by simp;omega) hb
theorem VK{β:Type}{v:List β}{d:β->aR}{b:Nat}(h:v.length<=1099511627776)(hb:b<=128):room (([]:List aR).length+(v.map d).length) b=true:=Hz (by simp;omega) hb
theorem wW{α:Type}{l:List α}(h:l.length<=1099511627776):decide (l.length<=maxLen)=true:=by unfold maxLen;simp;omega
theorem Fu{α β γ:Type}{c:β->aR}{b:Nat}{f:α->Option β}{g:α->β}{L:List α->Nat->List β->Option γ}{k:List β->Option γ}(hb:b<=128)(uU:∀i w,L [] i w=k w)
 (tK:∀x xs i w,L (x::xs) i w=(f x).bind fun y=>bif room ((w.map c).length+([c y]).length) b then L xs (i+1) (w++[y])else none):
 ∀(l:List α) (i:Nat) (w:List β),(∀x∈l,f x=some (g x))->w.length+l.length<=1099511627776->L l i w=k (w++l.map g):=by
 intro l
 induction l with
 |nil=>intro i w _ _;simp[uU]
 |cons x xs ih=>
  intro i w hf hl;simp only[aK]at hl;rw[tK,hf x (by simp),aA,ot (by omega) hb,aW,ih _ _ (fun y hy=>hf y (by simp[hy])) (by simp;omega)];simp
theorem Yx{α:Type}{f:α->Option Bool}{p:α->Bool}{L:List α->Nat->Option Bool}{k:Option Bool}(uU:∀i,L [] i=k)
 (tK:∀x xs i,L (x::xs) i=(f x).bind fun y=>bif !y then some false else L xs (i+1)):∀(l:List α) (i:Nat),(∀x∈l,f x=some (p x))->L l i=bif l.all p then k else some false:=by
 intro l
 induction l with
 |nil=>intro i _;simp[uU]
 |cons x xs ih=>
  intro i hf;rw[tK,hf x (by simp),aA,ih _ (fun y hy=>hf y (by simp[hy])),dG];cases p x<;>simp
theorem xp:∀(a:Bytes),Op.bytesLess a a=false
 | []=>rfl
 |x::a=>by simp[Op.bytesLess,xp a]
theorem DF:∀ {a b c:Bytes},Op.bytesLess a b=true->Op.bytesLess b c=true->Op.bytesLess a c=true
 | [],b,[],_,h2=>by cases b<;>simp[Op.bytesLess]at h2
 | [],b,_::_,_,_=>by simp[Op.bytesLess]
 |_::_,[],_,h1,_=>by simp[Op.bytesLess]at h1
 |_::_,_::_,[],_,h2=>by simp[Op.bytesLess]at h2
 |x::a,y::b,z::c,h1,h2=>by
  simp only[Op.bytesLess,oU,bI,aY,cj]at h1 h2⊢;rcases h1 with h1|⟨rfl,h1⟩
  ·rcases h2 with h2|⟨rfl,h2⟩
   ·exact .inl (UInt8.lt_trans h1 h2)
   ·exact .inl h1
  ·rcases h2 with h2|⟨rfl,h2⟩
   ·exact .inl h2
   ·exact .inr ⟨rfl,DF h1 h2⟩
theorem KM:∀ {a b:Bytes},Op.bytesLess a b=false->Op.bytesLess b a=false->a=b
 | [],[],_,_=>rfl
 | [],_::_,h,_=>by simp[Op.bytesLess]at h
 |_::_,[],_,h=>by simp[Op.bytesLess]at h
 |x::a,y::b,h1,h2=>by
  simp only[Op.bytesLess,Bool.or_eq_false_iff,kX,F1,dF,ne_eq]at h1 h2;have e:x=y:=by
   have h3:=h1.1;have h4:=h2.1;rw[F5]at h3 h4;exact UInt8.toNat_inj.1 (by omega)
  subst e;rw[KM (h1.2.resolve_left (by simp)) (h2.2.resolve_left (by simp))]
theorem ME{a b:Bytes}(h:Op.bytesLess a b=true):Op.bytesLess b a=false:=by
 cases hb:Op.bytesLess b a with
 |false=>rfl
 |true=>have:=DF h hb;rw[xp]at this;cases this
def SS(l:aI):Prop:=l.Pairwise fun a b=>Op.bytesLess a b=true
theorem Nt:∀ {a b:aI},SS a->SS b->(∀x,x∈a↔x∈b)->a=b
 | [],[],_,_,_=>rfl
 | [],y::b,_,_,h=>by have:=(h y).2 (by simp);cases this
 |x::a,[],_,_,h=>by have:=(h x).1 (by simp);cases this
 |x::a,y::b,h1,h2,h=>by
  obtain⟨p1,p2⟩:=k6.1 h1;obtain⟨q1,q2⟩:=k6.1 h2;have e:x=y:=by
   refine KM ?_ ?_
   ·cases hb:Op.bytesLess x y with
    |false=>rfl
    |true=>
     rcases bM.1 ((h x).1 (by simp))with rfl|hx
     ·exact(xp x▸hb).symm
     ·have:=ME (q1 x hx);rw[hb]at this;exact this
   ·cases hb:Op.bytesLess y x with
    |false=>rfl
    |true=>
     rcases bM.1 ((h y).2 (by simp))with rfl|hx
     ·exact(xp y▸hb).symm
     ·have:=ME (p1 y hx);rw[hb]at this;exact this
  subst e;rw[Nt p2 q2 (fun z=>?_)];constructor
  ·intro hz;rcases bM.1 ((h z).1 (by simp[hz]))with rfl|RG
   ·have:=p1 z hz;rw[xp]at this;cases this
   ·exact RG
  ·intro hz;rcases bM.1 ((h z).2 (by simp[hz]))with rfl|RG
   ·have:=q1 z hz;rw[xp]at this;cases this
   ·exact RG
def AX:aI->Bytes->aI
 | [],s=>[s]
 |x::xs,s=>bif Op.bytesLess x s then x::AX xs s else bif x==s then x::xs else s::x::xs
theorem Ql:∀ {l:aI} {s y:Bytes},y∈AX l s↔y=s\/y∈l
 | [],s,y=>by simp[AX]
 |x::xs,s,y=>by
  simp only[AX];cases Op.bytesLess x s with
  |true=>simp only[aW,bM,Ql (l:=xs)];constructor<;>(rintro(h|h|h)<;>simp[h])
  |false=>
   simp only[ah];cases hx:x==s with
   |true=>
    simp only[cj]at hx;subst hx;simp
   |false=>simp
theorem YW:∀ {l:aI} {s:Bytes},SS l->SS (AX l s)
 | [],s,_=>by simp[AX,SS]
 |x::xs,s,h=>by
  obtain⟨p1,p2⟩:=k6.1 h;simp only[AX];cases hb:Op.bytesLess x s with
  |true=>
   simp only[aW];refine k6.2 ⟨fun y hy=>?_,YW p2⟩;rcases Ql.1 hy with rfl|hy
   ·exact hb
   ·exact p1 y hy
  |false=>
   simp only[ah];cases hx:x==s with
   |true=>exact h
   |false=>
    have hs:Op.bytesLess s x=true:=by
     cases hc:Op.bytesLess s x with
     |true=>rfl
     |false=>have:=KM hb hc;subst this;simp at hx
    refine k6.2 ⟨fun y hy=>?_,h⟩;rcases bM.1 hy with rfl|hy
    ·exact hs
    ·exact DF hs (p1 y hy)
theorem By:∀(l:aI) (s:Bytes),(AX l s).length<=l.length+1
 | [],s=>by simp[AX]
 |x::xs,s=>by
  have:=By xs s;simp only[AX];cases Op.bytesLess x s<;>simp only[aW,ah,aK]
  ·cases x==s<;>simp
  ·omega
def fD(l:aI):aI:=l.foldl AX []
theorem Hg:∀(l a:aI) (y:Bytes),y∈l.foldl AX a↔y∈a\/y∈l
 | [],a,y=>by simp
 |x::l,a,y=>by
  rw[di,Hg l,Ql];simp only[bM];constructor
  ·rintro((h|h)|h)<;>simp[h]
  ·rintro(h|h|h)<;>simp[h]
theorem K1:∀(l:aI) {a:aI},SS a->SS (l.foldl AX a)
 | [],a,h=>h
 |x::l,a,h=>K1 l (YW h)
theorem Hf:∀(l a:aI),(l.foldl AX a).length<=a.length+l.length
 | [],a=>by simp
 |x::l,a=>by
  have h1:=Hf l (AX a x);have h2:=By a x;rw[di,aK];omega
theorem wK{l:aI}{y:Bytes}:y∈fD l↔y∈l:=by unfold fD;rw[Hg];simp
theorem R4(l:aI):SS (fD l):=K1 l (by simp[SS])
theorem qi(l:aI):(fD l).length<=l.length:=by have:=Hf l [];simpa[fD]using this
theorem I1{a b:aI}(h:∀x,x∈a↔x∈b):fD a=fD b:=Nt (R4 a) (R4 b) (fun x=>by rw[wK,wK,h])
theorem Xa(a:aI)(x:Bytes):AX (fD a) x=fD (a++[x]):=by simp[fD]
theorem XZ(a b:aI):b.foldl AX (fD a)=fD (a++b):=by simp[fD]
theorem I2(a b:aI):(fD b).foldl AX (fD a)=fD (a++b):=by
 rw[XZ];exact I1 (fun x=>by simp[wK])
theorem nj(l:aI)(v:Bytes):(fD l).contains v=l.contains v:=by
 rw[bh];simp[wK]
def in1(x:UInt8):Bool:=decide ((x.toNat:Int)>=97)&&decide ((x.toNat:Int)<=122)
def in2(x:UInt8):Bool:=decide ((x.toNat:Int)>=48)&&decide ((x.toNat:Int)<=57)
def ab(x:UInt8):Bool:=in1 x||in2 x
def ZQ(s:Bytes):Bool:=decide ((s.length:Int)>=1)&&decide ((s.length:Int)<=8)
def jj(s:Bytes):Bool:=s.all ab&&ZQ s
def a5T:Bytes->Bool
 | []=>false
 |x::_=>decide ((x.toNat:Int)>=97)
def As(s:Bytes):Bool:=jj s&&a5T s
def lH:Bytes->Bool
 | []=>false
 |x::t=>decide ((x.toNat:Int)=63)&&jj t
def qI(s:Bytes):Bool:=jj s||lH s
theorem I9{s:Bytes}(h:jj s=true):1<=s.length/\s.length<=8:=by
 simp only[jj,ZQ,aY,bI]at h;omega
theorem SG{s:Bytes}(h:As s=true):1<=s.length/\s.length<=8:=by
 simp only[As,aY]at h;exact I9 h.1
theorem a3B{s:Bytes}(h:lH s=true):1<=s.length/\s.length<=9:=by
 cases s with
 |nil=>cases h
 |cons x t=>simp only[lH,aY]at h;have:=I9 h.2;simp;omega
theorem a00{s:Bytes}(h:qI s=true):1<=s.length/\s.length<=9:=by
 simp only[qI,oU]at h;rcases h with h|h
 ·have:=I9 h;omega
 ·exact a3B h
theorem BF{s:Bytes}(h:lH s=true):jj s=false:=by
 cases s with
 |nil=>cases h
 |cons x t=>
  simp only[lH,aY,bI]at h;simp only[jj,dG,ab,in1,in2];have:(x.toNat:Int)=63:=h.1;simp[this]
theorem a6M(x:UInt8):IntKind.i64.wrap ((x.toNat:Nat):Int)=(x.toNat:Int):=gU (tM.i64.2 (by have:=x.toNat_lt;omega))
theorem KG{n:Nat}(h:n<=1099511627776):IntKind.i64.wrap ((n:Int)+1)=((n+1:Nat):Int):=by rw[gU (tM.i64.2 (by omega))];omega
theorem a65{n:Nat}(h:1<=n):Cw n (some (D.int .i64 1)) none=some (1,n):=by
 unfold Cw;have:(0:Int)<=1/\(1:Int).toNat<=n:=⟨by decide,h⟩
 simp only[bP this];rfl
theorem NJ(a b c:Int):lB a b c=some (decide (a>=b)&&decide (a<=c)):=by
 unfold lB;cases decide (a>=b)<;>rfl
theorem a7w(a:Bytes)(k:Option Bool)(ha:a.length<=1048576):∀(rest pre:Bytes),a=pre++rest->∀n,rest.length<n->jG a k n (pre.length:Int)=bif rest.all ab then k else some false:=by
 intro rest
 induction rest with
 |nil=>
  intro pre h n hn;obtain⟨m,rfl⟩:∃m,n=m+1:=⟨n-1,by simp at hn;omega⟩
  have e1:decide ((pre.length:Int)<(a.length:Int))=false:=by simp[h]
  rw[jG,e1];rfl
 |cons x xs ih=>
  intro pre h n hn;obtain⟨m,rfl⟩:∃m,n=m+1:=⟨n-1,by simp at hn;omega⟩
  have hl:a.length=pre.length+(xs.length+1):=by rw[h];simp
  have e1:decide ((pre.length:Int)<(a.length:Int))=true:=by rw[hl];simp;omega
  have e4:IntKind.i64.wrap ((pre.length:Int)+1)=((pre++[x]).length:Int):=by rw[KG (by omega)];simp
  have t:=ih (pre++[x]) (by simp[h]) m (by simp at hn;omega);rw[jG,e1,aW,zQ h,aA,a6M,NJ,NJ,aA,aA,e4,t,dG];show(bif !in1 x then(bif !in2 x then _ else _)else _)=bif (in1 x||in2 x)&&xs.all ab then k else some false
  cases in1 x<;>cases in2 x<;>simp
theorem P4(a:Bytes)(ha:a.length<=1048576):fL a=some (jj a):=by
 unfold fL;refine(a7w a _ ha a [] rfl fuel (by unfold fuel;omega)).trans ?_;rw[NJ,aA];show _=some (a.all ab&&ZQ a);cases a.all ab<;>rfl
theorem a7J(a:Bytes)(k:Option Bool)(ha:a.length<=1048576):∀(rest pre:Bytes),a=pre++rest->∀n,rest.length<n->fc a k n (pre.length:Int)=bif rest.all ab then k else some false:=by
 intro rest
 induction rest with
 |nil=>
  intro pre h n hn;obtain⟨m,rfl⟩:∃m,n=m+1:=⟨n-1,by simp at hn;omega⟩
  have e1:decide ((pre.length:Int)<(a.length:Int))=false:=by simp[h]
  rw[fc,e1];rfl
 |cons x xs ih=>
  intro pre h n hn;obtain⟨m,rfl⟩:∃m,n=m+1:=⟨n-1,by simp at hn;omega⟩
  have hl:a.length=pre.length+(xs.length+1):=by rw[h];simp
  have e1:decide ((pre.length:Int)<(a.length:Int))=true:=by rw[hl];simp;omega
  have e4:IntKind.i64.wrap ((pre.length:Int)+1)=((pre++[x]).length:Int):=by rw[KG (by omega)];simp
  have t:=ih (pre++[x]) (by simp[h]) m (by simp at hn;omega);rw[fc,e1,aW,zQ h,aA,e4,t,dG];have c1:decide ((x.toNat:Int)>=97)= !decide ((x.toNat:Int)<97):=by rw[bh];simp
  have c2:decide ((x.toNat:Int)<=122)= !decide ((x.toNat:Int)>122):=by rw[bh];simp
  have c3:decide ((x.toNat:Int)>=48)= !decide ((x.toNat:Int)<48):=by rw[bh];simp
  have c4:decide ((x.toNat:Int)<=57)= !decide ((x.toNat:Int)>57):=by rw[bh];simp
  rw[ab,in1,in2,c1,c2,c3,c4];cases decide ((x.toNat:Int)<97)<;>cases decide ((x.toNat:Int)>122)<;>cases decide ((x.toNat:Int)<48)<;>cases decide ((x.toNat:Int)>57)<;>simp
theorem Oq(a:Bytes)(ha:a.length<=1048576):fG a=some (jj a):=by
 unfold fG;rw[show fc a (some true) fuel 0=_ from a7J a _ ha a [] rfl fuel (by unfold fuel;omega)];have c1:decide ((a.length:Int)>=1)= !decide ((a.length:Int)<1):=by rw[bh];simp
 have c2:decide ((a.length:Int)<=8)= !decide ((a.length:Int)>8):=by rw[bh];simp
 rw[jj,ZQ,c1,c2];cases decide ((a.length:Int)<1)<;>cases decide ((a.length:Int)>8)<;>cases a.all ab<;>rfl
theorem a2Z(a:Bytes)(ha:a.length<=1048576):rR a=some (As a):=by
 unfold rR;rw[P4 a ha,aA,As];cases h:jj a with
 |false=>rfl
 |true=>
  cases a with
  |nil=>simp[jj,ZQ]at h
  |cons x xs=>
   rw[show mC (x::xs) 0=some x from rfl];simp only[aW,aA,a6M,NJ,fE,av,a5T];simp only[jj,dG,ab,in1,in2,aY,oU,bI]at h;rw[bh];simp only[aY,bI];omega
theorem a1g(a:Bytes)(ha:a.length<=1048576):rJ a=some (As a):=by
 unfold rJ;rw[Oq a ha,aA,As];cases h:jj a with
 |false=>rfl
 |true=>
  cases a with
  |nil=>simp[jj,ZQ]at h
  |cons x xs=>rfl
theorem VM(a:Bytes)(ha:a.length<=1048576):iF a=some (lH a):=by
 unfold iF;cases a with
 |nil=>rfl
 |cons x t=>
  simp only[aK]at ha;rw[show mC (x::t) 0=some x from rfl,aA,a65 (by simp),aA];have e:(((x::t).take ((x::t).length)).drop 1)=t:=by simp
  simp only[e,P4 t (by omega),aA,lH,ez];cases t with
  |nil=>cases decide ((x.toNat:Int)=63)<;>rfl
  |cons y t=>
   have e2:decide ((((x::y::t).length:Int):Int)>1)=true:=by simp;omega
   rw[e2];cases decide ((x.toNat:Int)=63)<;>simp
theorem ZK(a:Bytes)(ha:a.length<=1048576):lR a=some (lH a):=by
 unfold lR;cases a with
 |nil=>rfl
 |cons x t=>
  simp only[aK]at ha;rw[show mC (x::t) 0=some x from rfl,aA,a65 (by simp),aA];have e:(((x::t).take ((x::t).length)).drop 1)=t:=by simp
  simp only[e,Oq t (by omega),aA,lH,ez];cases t with
  |nil=>cases decide ((x.toNat:Int)=63)<;>rfl
  |cons y t=>
   have e2:decide ((((x::y::t).length:Int):Int)>1)=true:=by simp;omega
   rw[e2];cases decide ((x.toNat:Int)=63)<;>simp
theorem a2i(a:Bytes)(ha:a.length<=1048576):j6 a=some (qI a):=by
 unfold j6 qI;rw[P4 a ha,VM a ha];cases jj a<;>simp
theorem a1k(a:Bytes)(ha:a.length<=1048576):j3 a=some (qI a):=by
 unfold j3 qI;rw[Oq a ha,ZK a ha];cases jj a<;>simp
theorem a2k(l:aI)(h:l.length<=1099511627776):tI l=some l:=by
 unfold tI;rw[VK h (by decide)];rfl
theorem TF(l:aI)(h:l.length<=1099511627776):mr l=some l:=by
 unfold mr;rw[VK h (by decide)];rfl
theorem a2h(a b:aI):nP a b=some (decide (a=b)):=by
 unfold nP;exact S2 (c:=tx) (f:=fun x y=>some (x==y)) (fun k=>js a b k) (fun _ _=>rfl) (fun _ _ _ _=>rfl) (fun x y=>by rw[av,bh];simp)
theorem a1i(a b:aI):pS a b=some (decide (a=b)):=by
 unfold pS;exact S2 (c:=tx) (f:=fun x y=>some (x==y)) (fun k=>mK a b k) (fun _ _=>rfl) (fun _ _ _ _=>rfl) (fun x y=>by rw[av,bh];simp)
theorem a7W(a b:bJ):u9 a b=some (decide (a=b)):=by
 unfold u9;exact S2 (c:=dZ) (f:=fun x y=>some (x==y)) (fun k=>mw a b k) (fun _ _=>rfl) (fun _ _ _ _=>rfl) (fun x y=>by rw[av,bh];simp)
theorem a2Y(l:aI)(v:Bytes):gZ l v=some (l.contains v):=by
 unfold gZ;have:∀(r:aI) (i:Nat),jf l v (some false) r i=some (r.contains v):=by
  intro r
  induction r with
  |nil=>intro i;rfl
  |cons x r ih=>
   intro i;rw[jf,ih,List.contains_cons];have:(x==v)=(v==x):=by rw[bh,cj,cj];exact eq_comm
   rw[this];cases v==x<;>rfl
 exact this l 0
theorem a4L(l:aI)(v:Bytes):lV l v=some (l.contains v):=by
 unfold lV;have:∀(r:aI) (i:Nat),lW l v (some false) r i=some (r.contains v):=by
  intro r
  induction r with
  |nil=>intro i;rfl
  |cons x r ih=>
   intro i;rw[lW,ih,List.contains_cons];have:(x==v)=(v==x):=by rw[bh,cj,cj];exact eq_comm
   rw[this];cases v==x<;>rfl
 exact this l 0
theorem a6K(a:aI)(s:Bytes)(k:Bool->aI->Option aI):∀(l:aI) (i:Nat) (w:aI),w.length+l.length<1099511627776->
 eR a s k l i true w=k true (w++l):=by
 intro l
 induction l with
 |nil=>intro i w _;simp[eR]
 |cons x xs ih=>
  intro i w h;simp only[aK]at h;rw[eR,bQ,ah,ot (by omega) (by decide),aW,ih _ _ (by simp;omega)];simp
theorem aAW(a:aI)(s:Bytes)(k:Bool->aI->Option aI)(hk:∀w,w.length<1099511627776->k false w=some (w++[s]))(hk2:∀w,k true w=some w):∀(l:aI) (i:Nat) (w:aI),w.length+l.length+1<1099511627776->
 eR a s k l i false w=some (w++AX l s):=by
 intro l
 induction l with
 |nil=>intro i w h;rw[eR,hk w (by omega)];rfl
 |cons x xs ih=>
  intro i w h;simp only[aK]at h;rw[eR,cg,aW,AX];cases Op.bytesLess x s with
  |true=>
   simp only[bQ,ah,aW];rw[ot (by omega) (by decide),aW,ih _ _ (by simp;omega)];simp
  |false=>
   simp only[cg,aW,ah];cases x==s with
   |true=>
    simp only[bQ,ah,aW];rw[ot (by omega) (by decide),aW,a6K _ _ _ _ _ _ (by simp;omega),hk2];simp
   |false=>
    simp only[cg,aW,ah];rw[ot (by omega) (by decide),aW];have e:room (((w.map tx)++[[D.str s]]).length+([[D.str x]]).length) 16=true:=Hz (by simp;omega) (by decide);rw[e,aW,a6K _ _ _ _ _ _ (by simp;omega),hk2];simp
theorem XF(l:aI)(s:Bytes)(h:l.length+1<1099511627776):lZ l s=some (AX l s):=by
 unfold lZ;rw[aAW l s _ (fun w hw=>by simp only[cg,aW];rw[ot hw (by decide)];rfl) (fun w=>by simp) l 0 [] (by simpa using h)];rfl
def dd:Option Bytes->aI->aI
 |_,[]=>[]
 |p,x::xs=>if p=some x then dd (some x) xs else x::dd (some x) xs
theorem WE:∀ {l:aI} {p:Option Bytes} {y:Bytes},y∈dd p l->y∈l
 | [],p,y,h=>by cases h
 |x::xs,p,y,h=>by
  simp only[dd]at h;split at h
  ·exact bM.2 (.inr (WE h))
  ·rcases bM.1 h with rfl|h
   ·simp
   ·exact bM.2 (.inr (WE h))
theorem a23:∀ {l:aI} {p:Option Bytes} {y:Bytes},y∈l->p=some y\/y∈dd p l
 |x::xs,p,y,h=>by
  simp only[dd];rcases bM.1 h with rfl|h
  ·by_cases hp:p=some y
   ·exact .inl hp
   ·rw[bH hp];exact .inr (by simp)
  ·have:=a23 (p:=some x) h;split
   ·rename_i hp;rcases this with e|e
    ·exact .inl (hp.trans e)
    ·exact .inr e
   ·rcases this with e|e
    ·cases e;exact .inr (by simp)
    ·exact .inr (by simp[e])
theorem a5O:∀ {l:aI} {p:Option Bytes},l.Pairwise (fun a b=>Op.bytesLess b a=false)->(∀q,p=some q->∀y∈l,Op.bytesLess y q=false)->SS (dd p l)/\∀q,p=some q->∀y∈dd p l,Op.bytesLess q y=true
 | [],p,_,_=>⟨by simp[dd,SS],by simp[dd]⟩
 |x::xs,p,h,hp=>by
  obtain⟨p1,p2⟩:=k6.1 h;obtain⟨i1,i2⟩:=a5O (l:=xs) (p:=some x) p2 (fun q hq y hy=>by cases hq;exact p1 y hy);simp only[dd];split
  ·rename_i he;exact⟨i1,fun q hq y hy=>by rw[he]at hq;cases hq;exact i2 x rfl y hy⟩
  ·rename_i he;refine⟨k6.2 ⟨fun y hy=>i2 x rfl y hy,i1⟩,fun q hq y hy=>?_⟩;have hqx:Op.bytesLess q x=true:=by
    cases hc:Op.bytesLess q x with
    |true=>rfl
    |false=>exact absurd (by rw[hq,KM hc (hp q hq x (by simp))]) he
   rcases bM.1 hy with rfl|hy
   ·exact hqx
   ·exact DF hqx (i2 x rfl y hy)
theorem a2r(l:aI):oT l=l.mergeSort (fun x y=> !Op.bytesLess y x):=by
 unfold oT
 congr 1
 funext x y
 rw[Go.Proofs.bytesLess_eq];rw[bh];simp[List.not_lt]
theorem Tn(l:aI):(oT l).Pairwise (fun a b=>Op.bytesLess b a=false):=by
 rw[a2r];have:=List.pairwise_mergeSort (le:=fun x y=> !Op.bytesLess y x) (fun a b c h1 h2=>by
  simp only[nx]at h1 h2⊢;cases hc:Op.bytesLess c a with
  |false=>rfl
  |true=>
   cases hb:Op.bytesLess b a with
   |true=>rw[h1]at hb;cases hb
   |false=>
    cases Y9:Op.bytesLess a b with
    |true=>have:=DF hc Y9;rw[h2]at this;cases this
    |false=>have:=KM hb Y9;subst this;rw[h2]at hc;cases hc) (fun a b=>by
  cases hc:Op.bytesLess b a with
  |false=>simp
  |true=>simp[ME hc]) l
 exact this.imp (fun h=>by simpa using h)
theorem a41(l:aI):dd none (oT l)=fD l:=by
 refine Nt (a5O (Tn l) (by simp)).1 (R4 l) (fun x=>?_);rw[wK];have hm:x∈oT l↔x∈l:=(C5 l).mem_iff;constructor
 ·intro h;exact hm.1 (WE h)
 ·intro h;rcases a23 (p:=none) (hm.2 h)with h|h
  ·cases h
  ·exact h
theorem a1j(a:aI)(k:aI->Option aI)(ha:a.length<=1099511627775):∀(rest pre:aI) (w:aI),oT ([]++a)=pre++rest->w.length+rest.length<=1099511627775->
 dh a k rest pre.length w=k (w++dd pre.getLast? rest):=by
 have hlen:(oT ([]++a)).length=a.length:=(C5 _).length_eq;intro rest
 induction rest with
 |nil=>intro pre w _ _;simp[dh,dd]
 |cons x xs ih=>
  intro pre w h hw;simp only[aK]at hw;have hl:pre.length+(xs.length+1)=a.length:=by rw[<-hlen,h];simp
  have t:=fun w'=>ih (pre++[x]) w' (by rw[h];simp)
  simp only[aX,aK,bK,nh]at t;rw[dh];rcases yh pre with rfl|⟨p,z,hpz⟩
  ·have e0:(((([]:aI).length:Int):Int)==0)=true:=rfl;rw[e0,aW,ot (by omega) (by decide),aW,t _ (by simp;omega)];simp[dd]
  ·rw[yg]at hpz;subst hpz;have e0:((((p++[z]).length:Int):Int)==0)=false:=by simp;omega
   have e1:IntKind.i64.wrap (((p++[z]).length:Int)-1)=(p.length:Int):=by
    rw[gU (tM.i64.2 (by simp at hl⊢;omega))];simp
   have e2:mC (oT ([]++a)) (p.length:Int)=some z:=zQ (xs:=x::xs) (by rw[h];simp);rw[e0,ah,e1,e2,aA];simp only[dd,nh];by_cases hz:z=x
   ·subst hz;have e3:((z:Bytes)==z)=true:=by simp
    rw[e3,bQ,ah,t _ (by omega),bP rfl]
   ·have e3:((z:Bytes)==x)=false:=by simpa using hz
    rw[e3,cg,aW,ot (by omega) (by decide),aW,t _ (by simp;omega),bH (by simpa using hz)];simp
theorem TE(l:aI)(h:l.length<1099511627775):kC l=some (fD l):=by
 have hlen:(oT ([]++l)).length=l.length:=(C5 _).length_eq;unfold kC;have e1:decide ((([]:aI)++l).length<4611686018427387904)=true:=by simp;omega
 rw[VK (by omega) (by decide),aW,e1,aW,wW (by rw[hlen];omega),aW];have:=a1j l (fun q=>some q) (by omega) (oT ([]++l)) [] [] rfl (by rw[hlen];simp;omega);rw[show([]:aI).length=0 from rfl]at this;rw[this,<-a41];simp
end Go.Cx
namespace Go.Cx
open Go.RowKit Go.Proofs Tryz
theorem aE.Ta{p:aE}{n:Nat}(h:p.wt<=n):p.rel.length<=n:=by unfold aE.wt tw at h;omega
theorem aE.eF{p:aE}{n:Nat}(h:p.wt<=n):p.args.length<=n:=by unfold aE.wt at h;have:=gV tw p.args;omega
theorem aE.v8{p:aE}{n:Nat}(h:p.wt<=n){x:Bytes}(hx:x∈p.args):x.length<=n:=by unfold aE.wt at h;have:=iP (w:=tw) hx;have e:tw x=x.length:=rfl;omega
theorem aN.fC{c:aN}{n:Nat}(h:c.wt<=n):c.pat.wt<=n:=by simp only[aN.wt,aE.wt]at h⊢;omega
theorem aN.CW{c:aN}{n:Nat}(h:c.wt<=n):c.left.length<=n:=by simp only[aN.wt,tw]at h;omega
theorem aN.A8{c:aN}{n:Nat}(h:c.wt<=n):c.right.length<=n:=by simp only[aN.wt,tw]at h;omega
theorem Action.fC{c:Action}{n:Nat}(h:c.wt<=n):c.pat.wt<=n:=by simp only[Action.wt,aE.wt]at h⊢;omega
theorem aO.YL{r:aO}{n:Nat}(h:r.wt<=n):r.name.length<=n:=by simp only[aO.wt,tw]at h;omega
theorem aO.tg{r:aO}{n:Nat}(h:r.wt<=n):jw aN.wt r.conds<=n:=by simp only[aO.wt]at h;omega
theorem aO.MC{r:aO}{n:Nat}(h:r.wt<=n):jw Action.wt r.cr<=n:=by simp only[aO.wt]at h;omega
theorem aO.ru{r:aO}{n:Nat}(h:r.wt<=n){c:aN}(hc:c∈r.conds):c.wt<=n:=by have:=aO.tg h;have:=iP (w:=aN.wt) hc;omega
theorem aO.Sm{r:aO}{n:Nat}(h:r.wt<=n){c:Action}(hc:c∈r.cr):c.wt<=n:=by have:=aO.MC h;have:=iP (w:=Action.wt) hc;omega
theorem Tf(f:aE)(h:f.args.length<=1099511627776):ju f=some f:=by
 unfold ju;rw[a2k _ h];rfl
theorem Wi(f:aE)(h:f.args.length<=1099511627776):j5 f=some f:=by
 unfold j5;rw[TF _ h];rfl
theorem XG(a b:aE):pH a b=some (decide (a=b)):=by
 obtain⟨a0,a1⟩:=a;obtain⟨b0,b1⟩:=b;unfold pH;simp only[a2h,aA,ez];by_cases h0:a0=b0<;>by_cases h1:a1=b1<;>simp[h0,h1]
theorem a1h(a b:aE):oW a b=some (decide (a=b)):=by
 obtain⟨a0,a1⟩:=a;obtain⟨b0,b1⟩:=b;unfold oW;simp only[a1i,aA,ez];by_cases h0:a0=b0<;>by_cases h1:a1=b1<;>simp[h0,h1]
theorem XH(a b:aE):ir a b=some (decide (a=b)):=by
 obtain⟨a0,a1⟩:=a;obtain⟨b0,b1⟩:=b;unfold ir;simp only[a2h,aA,ez];by_cases h0:a0=b0<;>by_cases h1:a1=b1<;>simp[h0,h1]
theorem QX(a b:aE):fH a b=some (decide (a=b)):=by
 obtain⟨a0,a1⟩:=a;obtain⟨b0,b1⟩:=b;unfold fH;simp only[a1i,aA,ez];by_cases h0:a0=b0<;>by_cases h1:a1=b1<;>simp[h0,h1]
theorem Tj(a b:aQ):nO a b=some (decide (a=b)):=by
 unfold nO;exact S2 (c:=aE.c) (f:=pH) (fun k=>mQ a b k) (fun _ _=>rfl) (fun _ _ _ _=>rfl) XG
theorem Pf(a b:aQ):jD a b=some (decide (a=b)):=by
 unfold jD;exact S2 (c:=aE.c) (f:=oW) (fun k=>mF a b k) (fun _ _=>rfl) (fun _ _ _ _=>rfl) a1h
def ye(p:aE):Bool:=p.args.all qI&&(As p.rel&&decide ((p.args.length:Int)<=3))
def yB(f:aE):Bool:=f.args.all jj&&(As f.rel&&decide ((f.args.length:Int)<=3))
theorem a6G(f:aE)(h:f.wt<=1048576):rQ f=some (yB f):=by
 unfold rQ;rw[Yx (f:=fL) (L:=pY f _) (fun _=>rfl) (fun _ _ _=>rfl) f.args 0 (fun x hx=>P4 x (aE.v8 h hx)),a2Z _ (aE.Ta h),aA,aZ,yB];cases f.args.all jj<;>cases As f.rel<;>rfl
theorem a5e(f:aE)(h:f.wt<=1048576):rI f=some (yB f):=by
 unfold rI;rw[Yx (f:=fG) (L:=pP f _) (fun _=>rfl) (fun _ _ _=>rfl) f.args 0 (fun x hx=>Oq x (aE.v8 h hx)),a1g _ (aE.Ta h),aA,aZ,yB];have c:decide ((f.args.length:Int)<=3)= !decide ((f.args.length:Int)>3):=by rw[bh];simp
 rw[c];cases f.args.all jj<;>cases As f.rel<;>cases decide ((f.args.length:Int)>3)<;>rfl
theorem a89(f:aE)(h:f.wt<=1048576):jH f=some (ye f):=by
 unfold jH;rw[Yx (f:=j6) (L:=mP f _) (fun _=>rfl) (fun _ _ _=>rfl) f.args 0 (fun x hx=>a2i x (aE.v8 h hx)),a2Z _ (aE.Ta h),aA,aZ,ye];cases f.args.all qI<;>cases As f.rel<;>rfl
theorem a7T(f:aE)(h:f.wt<=1048576):jA f=some (ye f):=by
 unfold jA;rw[Yx (f:=j3) (L:=mE f _) (fun _=>rfl) (fun _ _ _=>rfl) f.args 0 (fun x hx=>a1k x (aE.v8 h hx)),a1g _ (aE.Ta h),aA,aZ,ye];have c:decide ((f.args.length:Int)<=3)= !decide ((f.args.length:Int)>3):=by rw[bh];simp
 rw[c];cases f.args.all qI<;>cases As f.rel<;>cases decide ((f.args.length:Int)>3)<;>rfl
def jS(l:aI):aI:=l.filter lH
theorem yE(l:aI):(jS l).length<=l.length:=mZ _ _
theorem SX(a b:aI):jS (a++b)=jS a++jS b:=BO _ _
theorem Nb(p:aE)(h:p.wt<=1048576):ng p=some (fD (jS p.args)):=by
 unfold ng;have:∀(r:aI) (i:Nat) (w:aI),(∀x∈r,x.length<=1048576)->w.length+r.length<=2097152->l9 p (fun q=>some q) r i w=some ((jS r).foldl AX w):=by
  intro r
  induction r with
  |nil=>intro i w _ _;rfl
  |cons x r ih=>
   intro i w hr hw;simp only[aK]at hw;have hl:=By w x;rw[l9,VM x (hr x (by simp)),aA,XF w x (by omega),aA,ih _ _ (fun y hy=>hr y (by simp[hy])) (by omega),ih _ _ (fun y hy=>hr y (by simp[hy])) (by omega)];cases hv:lH x<;>simp[jS,hv]
 exact this p.args 0 [] (fun x hx=>aE.v8 h hx) (by have:=aE.eF h;simp;omega)
theorem a1m(l:aI)(hl:l.length<=2097152)(h:∀x∈l,x.length<=1048576):n7 l=some (jS l):=by
 unfold n7;have:∀(r:aI) (i:Nat) (w:aI),(∀x∈r,x.length<=1048576)->w.length+r.length<=2097152->fU l (fun q=>some q) r i w=some (w++jS r):=by
  intro r
  induction r with
  |nil=>intro i w _ _;simp[fU,jS]
  |cons x r ih=>
   intro i w hr hw;simp only[aK]at hw;rw[fU,ZK x (hr x (by simp)),aA,ot (by omega) (by decide),ih _ _ (fun y hy=>hr y (by simp[hy])) (by simp;omega),ih _ _ (fun y hy=>hr y (by simp[hy])) (by omega)];cases hv:lH x<;>simp[jS,hv]
 exact this l 0 [] h (by simpa using hl)
def qk(c:aN):aI:=jS (c.pat.args++[c.left,c.right])
theorem zG{c:aN}{n:Nat}(h:c.wt<=n):(qk c).length<=n+2:=by
 have h1:=yE (c.pat.args++[c.left,c.right]);have h2:=aE.eF (aN.fC h);simp only[aX,aK,bK]at h1;unfold qk;omega
theorem XC(c:aN)(h:c.wt<=1048576):mT c=some (fD (qk c)):=by
 unfold mT;have h1:=aE.eF (aN.fC h);have h2:=qi (jS c.pat.args);have h3:=yE c.pat.args;have h4:=By (fD (jS c.pat.args)) c.left;rw[Nb _ (aN.fC h),aA,VM _ (aN.CW h),aA,VM _ (aN.A8 h)];simp only[aA];rw[XF _ _ (by omega),XF _ _ (by omega),aA,XF _ _ (by omega)];simp only[aA,qk,SX,Xa];cases hl:lH c.left<;>cases hr:lH c.right<;>simp[jS,hl,hr]
theorem a1l(c:aN)(h:c.wt<=1048576):sS c=some (c.pat.args++[c.left,c.right]):=by
 unfold sS;have h1:=aE.eF (aN.fC h);rw[TF _ (by omega),aA];rw[Hz (by simp;omega) (by decide)];rfl
theorem Wh(c:aN)(h:c.wt<=1048576):oV c=some (fD (qk c)):=by
 unfold oV;have h1:=aE.eF (aN.fC h);have h5:=zG h;rw[a1l c h,aA,a1m _ (by simp;omega) (fun x hx=>by
  simp only[ar,bM,sB,G3]at hx;rcases hx with hx|rfl|rfl
  ·exact aE.v8 (aN.fC h) hx
  ·exact aN.CW h
  ·exact aN.A8 h),aA]
 rw[show jS (c.pat.args++[c.left,c.right])=qk c from rfl,TE _ (by omega)];rfl
def I6(p:aE):Bool:=p.rel==[]&&decide ((p.args.length:Int)=0)
def sD(c:aN):Bool:=bif decide (c.kind=1)||decide (c.kind=2)then ye c.pat&&(c.left==[]&&c.right==[])else bif decide (c.kind=3)||decide (c.kind=4)||decide (c.kind=5)then I6 c.pat&&(qI c.left&&qI c.right)else false
def Nd(c:aN):Bool:=sD c&&decide (c.kind>=3)
theorem KO{c:aN}(h:sD c=true):1<=c.kind/\c.kind<=5:=by
 unfold sD at h;by_cases h1:c.kind=1
 ·omega
 by_cases h2:c.kind=2
 ·omega
 by_cases h3:c.kind=3
 ·omega
 by_cases h4:c.kind=4
 ·omega
 by_cases h5:c.kind=5
 ·omega
 simp[h1,h2,h3,h4,h5]at h
theorem a2V(c:aN)(h:c.wt<=1048576):rP c=some (sD c):=by
 unfold rP sD I6;simp only[a89 _ (aN.fC h),a2i _ (aN.CW h),a2i _ (aN.A8 h),aA,aZ,ez];by_cases h1:c.kind=1
 ·simp only[h1];cases ye c.pat<;>cases decide (c.left=[])<;>simp
 by_cases h2:c.kind=2
 ·simp only[h2];cases ye c.pat<;>cases decide (c.left=[])<;>simp
 by_cases h3:c.kind=3
 ·simp only[h3];cases decide (c.pat.rel=[])<;>cases decide ((c.pat.args.length:Int)=0)<;>cases qI c.left<;>simp
 by_cases h4:c.kind=4
 ·simp only[h4];cases decide (c.pat.rel=[])<;>cases decide ((c.pat.args.length:Int)=0)<;>cases qI c.left<;>simp
 by_cases h5:c.kind=5
 ·simp only[h5];cases decide (c.pat.rel=[])<;>cases decide ((c.pat.args.length:Int)=0)<;>cases qI c.left<;>simp
 simp[h1,h2,h3,h4,h5]
theorem a5g(p:aE):iY p=some (I6 p):=by
 unfold iY I6;simp only[aZ,ez];cases decide (p.rel=[])<;>rfl
theorem a1d(c:aN)(h:c.wt<=1048576):rH c=some (sD c):=by
 unfold rH sD;simp only[a7T _ (aN.fC h),a1k _ (aN.CW h),a1k _ (aN.A8 h),a5g,aA,ez];by_cases h1:c.kind=1
 ·simp only[h1];cases ye c.pat<;>cases decide (c.left=[])<;>simp
 by_cases h2:c.kind=2
 ·simp only[h2];cases ye c.pat<;>cases decide (c.left=[])<;>simp
 by_cases h3:c.kind=3
 ·simp only[h3];cases I6 c.pat<;>cases qI c.left<;>cases qI c.right<;>simp
 by_cases h4:c.kind=4
 ·simp only[h4];cases I6 c.pat<;>cases qI c.left<;>cases qI c.right<;>simp
 by_cases h5:c.kind=5
 ·simp only[h5];cases I6 c.pat<;>cases qI c.left<;>cases qI c.right<;>simp
 simp[h1,h2,h3,h4,h5]
theorem a2j(c:aN)(h:c.wt<=1048576):rS c=some (Nd c):=by
 unfold rS Nd;rw[a2V c h];cases sD c<;>rfl
theorem a9t(c:aN)(h:c.wt<=1048576):xA c=some (Nd c):=by
 unfold xA Nd;rw[a1d c h];cases sD c<;>rfl
theorem a2g(a b:aN):oY a b=some (decide (a=b)):=by
 obtain⟨a0,a1,a2,a3⟩:=a;obtain⟨b0,b1,b2,b3⟩:=b;unfold oY;simp only[XH,aA,ez];by_cases h0:a0=b0<;>by_cases h1:a1=b1<;>by_cases h2:a2=b2<;>by_cases h3:a3=b3<;>simp[h0,h1,h2,h3]
theorem TD(a b:aN):jx a b=some (decide (a=b)):=by
 obtain⟨a0,a1,a2,a3⟩:=a;obtain⟨b0,b1,b2,b3⟩:=b;unfold jx;simp only[QX,aA,ez];by_cases h0:a0=b0<;>by_cases h1:a1=b1<;>by_cases h2:a2=b2<;>by_cases h3:a3=b3<;>simp[h0,h1,h2,h3]
def Px(a:Action):Bool:=bif decide (a.kind=1)||decide (a.kind=2)then ye a.pat else bif decide (a.kind=3)then I6 a.pat else false
theorem aD9(a:Action)(h:a.wt<=1048576):uM a=some (Px a):=by
 unfold uM Px I6;simp only[a89 _ (Action.fC h),aA,aZ,ez];by_cases h1:a.kind=1
 ·simp[h1]
 by_cases h2:a.kind=2
 ·simp[h2]
 by_cases h3:a.kind=3
 ·simp only[h3];cases decide (a.pat.rel=[])<;>simp
 simp[h1,h2,h3]
theorem aCm(a:Action)(h:a.wt<=1048576):tu a=some (Px a):=by
 unfold tu Px;simp only[a7T _ (Action.fC h),a5g,aA,ez];by_cases h1:a.kind=1
 ·simp[h1]
 by_cases h2:a.kind=2
 ·simp[h2]
 by_cases h3:a.kind=3
 ·simp[h3]
 simp[h1,h2,h3]
end Go.Cx
namespace Go.Cx
open Go.RowKit Go.Proofs Tryz
theorem a4h:∀(k v:Nat),v<10^k->1<=k->Lib.nDigits v<=k:=by
 intro k
 induction k with
 |zero=>intro v _ h;omega
 |succ k ih=>
  intro v hv _;by_cases h10:v<10
  ·rw[Lib.nDigits_small h10];omega
  ·rw[Lib.nDigits_big h10];have h3:v/10<10^k:=by rw[yN]at hv;omega
   have hk1:1<=k:=by
    cases k with
    |zero=>simp at hv;omega
    |succ k=>omega
   have:=ih (v/10) h3 hk1;omega
theorem Wz{u:Nat}(h:u<=9223372036854775808):Lib.nDigits u<=19:=a4h 19 u (by omega) (by omega)
theorem aBa(u:Nat):UInt8.ofNat (IntKind.u8.wrap (IntKind.i64.wrap (48+((u:Int)%10)))).toNat=UInt8.ofNat (48+u%10):=by
 rw[gU (k:=.i64) (tM.i64.2 (by omega)),gU (tM.u8.2 (by omega))]
 congr 1
theorem a6H(k:Option Bytes):∀(n u:Nat) (acc:Bytes),Lib.nDigits u<=n->acc.length+Lib.nDigits u<=1000->iD k n (u:Int) acc=some (Lib.decDigits u++acc):=by
 intro n
 induction n with
 |zero=>intro u acc h _;have:=Lib.nDigits_pos u;omega
 |succ n ih=>
  intro u acc hn hl;have hp:=Lib.nDigits_pos u;have e0:(decide (0<=(u:Int))&&decide (0<(10:Int)))=true:=by simp
  have e1:decide (([UInt8.ofNat (48+u%10)]:Bytes).length+(acc:Bytes).length<=maxLen)=true:=by unfold maxLen;simp;omega
  rw[iD];simp only[aBa,e0,e1,aW];by_cases h10:u<10
  ·have e2:(((u:Int)/10:Int)==0)=true:=by rw[cj];omega
   rw[e2,aW,Lib.decDigits,dif_pos h10,Nat.mod_eq_of_lt h10]
  ·have e2:(((u:Int)/10:Int)==0)=false:=by rw[dF];omega
   have e3:((u:Int)/10)=((u/10:Nat):Int):=by omega
   have hd:=Lib.nDigits_big h10;rw[e2,ah,e3,ih (u/10) _ (by omega) (by simp;omega)]
   conv=>rhs;rw[Lib.decDigits,dif_neg h10]
   simp
theorem aAQ(m u:Nat)(h:u<=9223372036854775807):gR (m+1) (u:Int)=some (Lib.decDigits u):=by
 rw[gR];have e1:((u:Int)==(-9223372036854775808))=false:=by rw[dF];omega
 have e2:decide ((u:Int)<0)=false:=by simp
 have:=Wz (u:=u) (by omega);rw[e1,ah,e2,ah,a6H _ _ _ _ (by unfold fuel;omega) (by simp;omega)];simp
theorem a1o:Lib.itoa (-9223372036854775808)=[45,57,50,50,51,51,55,50,48,51,54,56,53,52,55,55,53,56,48,56]:=by
 unfold Lib.itoa;simp[Lib.decDigits]
theorem aAP(n:Int)(h:tM .i64 n):pX n=some (Lib.itoa n):=by
 have h:=tM.i64.1 h;unfold pX;rw[show fuel=4194303+1 from rfl,gR];by_cases hm:n= -9223372036854775808
 ·subst hm;rw[a1o];rfl
 have e1:((n:Int)==(-9223372036854775808))=false:=by rw[dF];exact hm
 rw[e1,ah];by_cases hn:n<0
 ·have e2:decide (n<0)=true:=by simpa using hn
  have e3:IntKind.i64.wrap (0-n)=((n.natAbs:Nat):Int):=by rw[gU (tM.i64.2 (by omega))];omega
  have hd:=Wz (u:=n.natAbs) (by omega);rw[e2,aW,e3,show(4194303:Nat)=4194302+1 from rfl,aAQ _ _ (by omega),aA];have e4:decide (([45]:Bytes).length+(Lib.decDigits n.natAbs:Bytes).length<=maxLen)=true:=by unfold maxLen;rw[Lib.decDigits_length];simp;omega
  rw[e4,aW];unfold Lib.itoa;rw[bP hn];rfl
 ·have e2:decide (n<0)=false:=by simpa using hn
  have e3:n=((n.toNat:Nat):Int):=by omega
  have:=Wz (u:=n.toNat) (by omega);rw[e2,ah]
  conv=>lhs;rw[e3]
  rw[a6H _ _ _ _ (by unfold fuel;omega) (by simp;omega)];unfold Lib.itoa;rw[bH hn];simp
theorem a7P(n:Int):ke n=some (Lib.itoa n):=by
 unfold ke Bw;rfl
theorem QZ(n:Int)(h:tM .i64 n):(Lib.itoa n).length<=21:=by
 have:=tM.i64.1 h;exact Lib.itoa_length_le n this.1 this.2
def Ey(to:aT)(s:Bytes):Bytes:=match to with
 | []=>s
 |p::r=>bif p.var==s then p.value else Ey r s
def R1(to:aT)(x:aN):aN:=⟨x.kind,⟨x.pat.rel,x.pat.args.map (Ey to)⟩,Ey to x.left,Ey to x.right⟩
theorem sRn(to:aT)(s:Bytes):lC s to=some (Ey to s):=by
 unfold lC;have:∀(r:aT) (i:Nat),jg s to (some s) r i=some (Ey r s):=by
  intro r
  induction r with
  |nil=>intro i;rfl
  |cons x r ih=>
   intro i;rw[jg,ih,Ey];cases x.var==s<;>rfl
 exact this to 0
theorem iRn(to:aT)(s:Bytes):iW s to=some (Ey to s):=by
 unfold iW;have:∀(r:aT) (i:Nat),iC s to (some s) r i=some (Ey r s):=by
  intro r
  induction r with
  |nil=>intro i;rfl
  |cons x r ih=>
   intro i;rw[iC,ih,Ey];cases x.var==s<;>rfl
 exact this to 0
theorem a8C(x:aN)(to:aT)(h:x.pat.args.length<=1099511627770):jm x to=some (R1 to x):=by
 unfold jm;rw[sRn,aA,sRn,aA];rw[Fu (c:=tx) (b:=16) (f:=fun a=>lC a to) (g:=Ey to) (L:=l7 x to (Ey to x.left) (Ey to x.right) _) (k:=_) (by decide) (fun _ _=>rfl) (fun _ _ _ _=>rfl) _ _ _ (fun a _=>sRn to a) (by simp;omega)];rfl
theorem a9o(x:aN)(to:aT)(h:x.pat.args.length<=1099511627770):lS x to=some (R1 to x):=by
 unfold lS;rw[iRn,aA,iRn,aA];rw[Fu (c:=tx) (b:=16) (f:=fun a=>iW a to) (g:=Ey to) (L:=ko x to (Ey to x.left) (Ey to x.right) _) (k:=_) (by decide) (fun _ _=>rfl) (fun _ _ _ _=>rfl) _ _ _ (fun a _=>iRn to a) (by simp;omega)];rfl
def Hh(l:aT)(t:Bytes):Bool:=l.any fun p=>p.var==t
def jR(l:aT)(t:Bytes):aT:=bif lH t&& !Hh l t then l++[⟨t,[63]++Lib.itoa ((l.length:Int)+1)⟩]else l
theorem Dj(l:aT)(t:Bytes):(jR l t).length<=l.length+1:=by
 unfold jR;cases lH t&& !Hh l t<;>simp
theorem AR:∀(ts:aI) (l:aT),(ts.foldl jR l).length<=l.length+ts.length
 | [],l=>by simp
 |t::ts,l=>by
  have h1:=AR ts (jR l t);have h2:=Dj l t;rw[di,aK];omega
theorem Th(l:aT)(t:Bytes)(hl:l.length<=1099511627770)(ht:t.length<=1048576):pJ l t=some (jR l t):=by
 unfold pJ;rw[VM t ht,aA,jR];cases hv:lH t with
 |false=>rfl
 |true=>
  rw[bQ,ah,fE];have key:∀(k:Option aT) (r:aT) (i:Nat),nX l t k r i=bif Hh r t then some l else k:=by
   intro k r
   induction r with
   |nil=>intro i;rfl
   |cons x r ih=>
    intro i;rw[nX,ih];simp only[Hh,uc];cases x.var==t<;>simp
  rw[key];cases Hh l t with
  |true=>rfl
  |false=>
   have e1:IntKind.i64.wrap (((l.map aS.c).length:Int)+1)=(l.length:Int)+1:=by rw[gU (tM.i64.2 (by simp;omega))];simp
   have hr:tM .i64 ((l.length:Int)+1):=tM.i64.2 (by omega);have hi:=QZ _ hr;have e2:decide (([63]:Bytes).length+(Lib.itoa ((l.length:Int)+1):Bytes).length<=maxLen)=true:=by unfold maxLen;simp;omega
   simp only[ah,cg,aW];rw[e1,aAP _ hr,aA,e2,aW,ot (by omega) (by decide)];rfl
theorem V5(x y:Bytes):∀(m:List (Bytes×Bool)),NP false y (Qh x true m)=(y==x||NP false y m)
 | []=>by simp only[Qh,NP];cases y==x<;>rfl
 |p::m=>by
  simp only[Qh];cases h:x==p.1 with
  |true=>
   have h':x=p.1:=by simpa using h
   subst h';simp only[aW,NP];cases y==p.1<;>simp
  |false=>
   simp only[ah,NP,V5 x y m];cases hy:y==p.1 with
   |true=>
    have h1:y=p.1:=by simpa using hy
    have h2:(y==x)=false:=by
     rw[dF]at h⊢;intro e;exact h (e.symm.trans h1)
    simp[h2]
   |false=>simp
theorem ZE(l:aT)(x y v:Bytes):Hh (l++[⟨x,v⟩]) y=(y==x||Hh l y):=by
 have:(x==y)=(y==x):=by rw[bh,cj,cj];exact eq_comm
 simp only[Hh,List.any_append,uc,M4,ua,this];cases y==x<;>simp
theorem YG(ts:aI)(hl:ts.length<=1099511627700)(h:∀x∈ts,x.length<=1048576):oA ts=some (ts.foldl jR []):=by
 unfold oA;have key:∀(r:aI) (i:Nat) (w:aT) (m:List (Bytes×Bool)),(∀x∈r,x.length<=1048576)->w.length+r.length<=1099511627700->(∀y,NP false y m=Hh w y)->
  fB ts (fun q=>some q) r i w m=some (r.foldl jR w):=by
  intro r
  induction r with
  |nil=>intro i w m _ _ _;rfl
  |cons x r ih=>
   intro i w m hx hw hm;simp only[aK]at hw;have hr:tM .i64 ((w.length:Int)+1):=tM.i64.2 (by omega);have hi:=QZ _ hr;have e1:IntKind.i64.wrap (((w.map aS.c).length:Int)+1)=(w.length:Int)+1:=by rw[gU (tM.i64.2 (by simp;omega))];simp
   have e2:decide (([63]:Bytes).length+(Lib.itoa ((w.length:Int)+1):Bytes).length<=maxLen)=true:=by unfold maxLen;simp;omega
   rw[fB,ZK x (hx x (by simp)),aA,di,jR,hm x];cases hv:lH x with
   |false=>simp only[ah,Bool.false_and];exact ih _ _ _ (fun y hy=>hx y (by simp[hy])) (by omega) hm
   |true=>
    cases hh:Hh w x with
    |true=>simp only[aW,bQ,ah,fE];exact ih _ _ _ (fun y hy=>hx y (by simp[hy])) (by omega) hm
    |false=>
     simp only[aW,cg,fE];rw[e1,a7P,aA,e2,aW,ot (by omega) (by decide),aW];exact ih _ _ _ (fun y hy=>hx y (by simp[hy])) (by simp;omega) (fun y=>by rw[V5,ZE,hm])
 exact key ts 0 [] [] h (by simpa using hl) (fun y=>rfl)
def vN(p:aE):aE:=(R1 (p.args.foldl jR []) ⟨0,p,[],[]⟩).pat
theorem a8F(p:aE)(h:p.wt<=1048576):tH p=some (vN p):=by
 have hl:=aE.eF h;unfold tH;have key:∀(k:aT->Option aE) (r:aI) (i:Nat) (w:aT),(∀x∈r,x.length<=1048576)->w.length+r.length<=1099511627700->lY p k r i w=k (r.foldl jR w):=by
  intro k r
  induction r with
  |nil=>intro i w _ _;rfl
  |cons x r ih=>
   intro i w hx hw;simp only[aK]at hw;have:=Dj w x;rw[lY,Th w x (by omega) (hx x (by simp)),aA,ih _ _ (fun y hy=>hx y (by simp[hy])) (by omega)];rfl
 rw[key _ _ _ _ (fun x hx=>aE.v8 h hx) (by simp;omega),a8C _ _ (by simp;omega)];rfl
theorem a7Y(p:aE)(h:p.wt<=1048576):sJ p=some (vN p):=by
 have hl:=aE.eF h;unfold sJ;rw[YG _ (by omega) (fun x hx=>aE.v8 h hx),aA,a9o _ _ (by simp;omega)];rfl
def AY(l:aj):aI:=l.flatMap fun c=>c.pat.args++[c.left,c.right]
theorem XQ(l:aj):(AY l).length<=3*jw aN.wt l:=by
 unfold AY
 induction l with
 |nil=>simp
 |cons x l ih=>
  rw[dM,aX,qL];have:=aE.eF (aN.fC (c:=x) (bR _));simp only[aX,aK,bK];omega
def qG(r:aO):aT:=(AY r.conds).foldl jR []
def gY(r:aO):aj:=r.conds.map (R1 (qG r))
theorem a2a(a:aO)(i:Nat)(c:aN)(k:aT->Option aT):∀(r:aI) (j:Nat) (w:aT),(∀x∈r,x.length<=1048576)->w.length+r.length<=1099511627700->ij a i c k r j w=k (r.foldl jR w):=by
 intro r
 induction r with
 |nil=>intro i w _ _;rfl
 |cons x r ih=>
  intro i w hx hw;simp only[aK]at hw;have:=Dj w x;rw[ij,Th w x (by omega) (hx x (by simp)),aA,ih _ _ (fun y hy=>hx y (by simp[hy])) (by omega)];rfl
theorem a86(r:aO)(h:r.wt<=1048576):qz r=some (qG r):=by
 unfold qz;have key:∀(l:aj) (i:Nat) (w:aT),(∀c∈l,c.wt<=1048576)->w.length+3*jw aN.wt l<=1099511627700->ig r (fun q=>some q) l i w=some ((AY l).foldl jR w):=by
  intro l
  induction l with
  |nil=>intro i w _ _;rfl
  |cons c l ih=>
   intro i w hc hw;rw[qL]at hw;have WV:=hc c (by simp);have ha:=aE.eF (aN.fC (c:=c) (bR _));have h1:=AR c.pat.args w;have h2:=Dj (c.pat.args.foldl jR w) c.left;have h3:=Dj (jR (c.pat.args.foldl jR w) c.left) c.right;rw[ig,wW (by omega),aW,a2a _ _ _ _ _ _ _ (fun x hx=>aE.v8 (aN.fC WV) hx) (by omega),Th _ _ (by omega) (aN.CW WV),aA,Th _ _ (by omega) (aN.A8 WV),aA,
    ih _ _ (fun y hy=>hc y (by simp[hy])) (by omega)]
   simp[AY]
 have:=aO.tg h;exact key r.conds 0 [] (fun c hc=>aO.ru h hc) (by simp;omega)
theorem a7S(r:aO)(h:r.wt<=1048576):qn r=some (qG r):=by
 unfold qn;have hw:=aO.tg h;have key:∀(k:aI->Option aT) (l:aj) (i:Nat) (w:aI),(∀c∈l,c.wt<=1048576)->w.length+3*jw aN.wt l<=1099511627700->gC r k l i w=k (w++AY l):=by
  intro k l
  induction l with
  |nil=>intro i w _ _;simp[gC,AY]
  |cons c l ih=>
   intro i w hc hw;rw[qL]at hw;have WV:=hc c (by simp);have ha:=aE.eF (aN.fC (c:=c) (bR _));rw[gC,a1l c WV,aA,a2R (by simp;omega) (by decide),aW,ih _ _ (fun y hy=>hc y (by simp[hy])) (by simp;omega)];simp[AY]
 have hl:=XQ r.conds;rw[key _ _ _ _ (fun c hc=>aO.ru h hc) (by simp;omega),cN,YG _ (by omega) ?_]
 ·rfl
 ·intro x hx;unfold AY at hx;obtain⟨c,hc,hx⟩:=cC.1 hx;have WV:=aO.ru h hc;rcases ar.1 hx with hx|hx
  ·exact aE.v8 (aN.fC WV) hx
  ·simp only[bM,sB,G3]at hx;rcases hx with rfl|rfl
   ·exact aN.CW WV
   ·exact aN.A8 WV
theorem a7x(r:aO)(h:r.wt<=1048576):qy r=some (gY r):=by
 unfold qy;have hw:=aO.tg h;have hl:=gV aN.wt r.conds;rw[a86 r h,aA];rw[Fu (c:=aN.c) (b:=80) (f:=fun a=>jm a (qG r)) (g:=R1 (qG r)) (L:=l6 r (qG r) _) (k:=_) (by decide) (fun _ _=>rfl) (fun _ _ _ _=>rfl) _ _ _ (fun c hc=>a8C c _ (by have:=aE.eF (aN.fC (aO.ru h hc));omega)) (by simp;omega)];simp[gY]
theorem a7L(r:aO)(h:r.wt<=1048576):qm r=some (gY r):=by
 unfold qm;have hw:=aO.tg h;have hl:=gV aN.wt r.conds;rw[a7S r h,aA];rw[Fu (c:=aN.c) (b:=80) (f:=fun a=>lS a (qG r)) (g:=R1 (qG r)) (L:=kn r (qG r) _) (k:=_) (by decide) (fun _ _=>rfl) (fun _ _ _ _=>rfl) _ _ _ (fun c hc=>a9o c _ (by have:=aE.eF (aN.fC (aO.ru h hc));omega)) (by simp;omega)];simp[gY]
end Go.Cx
namespace Go.Cx
open Go.RowKit Go.Proofs Tryz
def NOk(n:aF):Prop:=n.nodes.length<=1048576/\∀x∈n.nodes,x.cond.wt<=1048576
theorem a4q(s:Bytes):Ey [] s=s:=rfl
theorem a2L(x:aN):R1 [] x=x:=by
 have:x.pat.args.map (Ey [])=x.pat.args:=by
  rw[show(Ey [])=id from funext a4q];simp
 unfold R1;rw[this];rfl
def dD(i:Nat):Int:=(i:Int)
def Rc(ns:az):Nat->Nat->aa
 |0,_=>[]
 |k+1,v=>v::(match ns[v]? with
  |some x=>if 1<=x.parent/\x.parent<(v:Int)then Rc ns k x.parent.toNat else []
  |none=>[])
def Cg(ns:az)(i:Nat):Option aN:=(ns[i]?).map Node.cond
def K7(ns:az)(k v:Nat):aj:=(Rc ns k v).reverse.filterMap (Cg ns)
def eb(ns:az)(v:Int):aj:=if 1<=v/\v<(ns.length:Int)then K7 ns v.toNat v.toNat else []
theorem Vc{ns:az}{k v:Nat}{x:Node}(hx:ns[v]?=some x):Rc ns (k+1) v=v::(if 1<=x.parent/\x.parent<(v:Int)then Rc ns k x.parent.toNat else []):=by simp only[Rc,hx]
theorem a38(ns:az):∀(k v:Nat),v<ns.length->∀i∈Rc ns k v,i<ns.length
 |0,v,_,i,hi=>by cases hi
 |k+1,v,hv,i,hi=>by
  rw[Rc]at hi;rcases bM.1 hi with rfl|hi
  ·exact hv
  ·split at hi
   ·split at hi
    ·rename_i x hx hp;exact a38 ns k _ (by omega) i hi
    ·cases hi
   ·cases hi
theorem Yf(ns:az):∀(k v:Nat),(Rc ns k v).length<=k
 |0,v=>by simp[Rc]
 |k+1,v=>by
  rw[Rc,aK];split
  ·split
   ·have:=Yf ns k (by assumption:Node).parent.toNat;omega
   ·simp
  ·simp
theorem Qw{ns:az}{k v:Nat}{x:Node}(hx:ns[v]?=some x):K7 ns (k+1) v=(if 1<=x.parent/\x.parent<(v:Int)then K7 ns k x.parent.toNat else [])++[x.cond]:=by
 have hc:Cg ns v=some x.cond:=by unfold Cg;rw[hx];rfl
 unfold K7;rw[Vc hx];by_cases hp:1<=x.parent/\x.parent<(v:Int)
 ·rw[bP hp,bP hp];simp[hc]
 ·rw[bH hp,bH hp];simp[hc]
theorem Te(x:aN)(h:x.pat.args.length<=1099511627770):jv x=some x:=by
 unfold jv;rw[a8C x [] h,aA,a2L]
theorem TB(x:aN)(h:x.pat.args.length<=1099511627770):er x=some x:=by
 unfold er eA;rw[TF x.pat.args (by omega)];rfl
theorem a8A(n:aF)(h:NOk n)(K:aj->Option aj):∀(k v fu:Nat) (w:aj),v<=k->1<=v->v<n.nodes.length->k<fu->w.length+k<=4194304->jJ n K fu (v:Int) w=K (K7 n.nodes k v++w):=by
 have hl:=h.1;intro k
 induction k with
 |zero=>intro v fu w h1 h2;omega
 |succ k ih=>
  intro v fu w h1 h2 h3 h4 h5;obtain⟨fu,rfl⟩:∃m,fu=m+1:=⟨fu-1,by omega⟩
  have hx:n.nodes[v]?=some n.nodes[v]:=ai h3;have hw:=h.2 _ (D7 h3);generalize hxe:n.nodes[v]=x at*;have e1:IntKind.i64.wrap (((n.nodes.map Node.c).length:Int)-1)=(n.nodes.length:Int)-1:=by rw[aZ];exact gU (tM.i64.2 (by omega))
  have e2:(decide ((v:Int)>=1)&&decide ((v:Int)<=(n.nodes.length:Int)-1))=true:=by simp;omega
  have e3:mC n.nodes (v:Int)=some x:=by unfold mC;rw[bW (by omega),aW];exact hx
  have e4:=Te x.cond (by have:=aE.eF (aN.fC hw);omega);rw[jJ,e1,NJ,aA,e2,aW,e3,aA,e4,aA,Hz (by simp;omega) (by decide),aW,Qw hx];by_cases h6:x.parent>=(v:Int)
  ·rw[bW h6,aW,bH (by omega)];rfl
  ·rw[bB h6,ah];by_cases h7:1<=x.parent
   ·rw[bP ⟨h7,by omega⟩];obtain⟨m,hm⟩:=ny (by omega:0<=x.parent);rw[hm];rw[ih m fu ([x.cond]++w) (by omega) (by omega) (by omega) (by omega) (by simp;omega)];simp
   ·rw[bH (by omega)];obtain⟨fu,rfl⟩:∃m,fu=m+1:=⟨fu-1,by omega⟩
    have e5:(decide (x.parent>=1)&&decide (x.parent<=(n.nodes.length:Int)-1))=false:=by
     rw[bB (by omega)];rfl
    rw[jJ,e1,NJ,aA,e5,ah];rfl
theorem a8B(n:aF)(v:Int)(h:NOk n):xJ n v=some (eb n.nodes v):=by
 have hl:=h.1;unfold xJ eb;by_cases hv:1<=v/\v<(n.nodes.length:Int)
 ·rw[bP hv];obtain⟨m,rfl⟩:=ny (by omega:0<=v);rw[a8A n h _ m m fuel [] (bR _) (by omega) (by omega) (by unfold fuel;omega) (by simp;omega)];simp
 ·rw[bH hv];have e1:IntKind.i64.wrap (((n.nodes.map Node.c).length:Int)-1)=(n.nodes.length:Int)-1:=by rw[aZ];exact gU (tM.i64.2 (by omega))
  have e2:(decide (v>=1)&&decide (v<=(n.nodes.length:Int)-1))=false:=by
   by_cases h1:1<=v
   ·have h2:¬v<=(n.nodes.length:Int)-1:=by omega
    rw[bB h2,yK]
   ·rw[bB h1];rfl
  rw[show fuel=4194303+1 from rfl,jJ,e1,NJ,aA,e2,ah]
theorem a4N(n:aF)(h:NOk n)(K:bJ->Option aj):∀(k v fu:Nat) (w:bJ),v<=k->1<=v->v<n.nodes.length->k<fu->w.length+k<=4194304->mq n K fu (v:Int) w=K (w++(Rc n.nodes k v).map dD):=by
 have hl:=h.1;intro k
 induction k with
 |zero=>intro v fu w h1 h2;omega
 |succ k ih=>
  intro v fu w h1 h2 h3 h4 h5;obtain⟨fu,rfl⟩:∃m,fu=m+1:=⟨fu-1,by omega⟩
  have hx:n.nodes[v]?=some n.nodes[v]:=ai h3;generalize hxe:n.nodes[v]=x at*;have e3:mC n.nodes (v:Int)=some x:=by unfold mC;rw[bW (by omega),aW];exact hx
  rw[mq,ot (by omega) (by decide),aW,e3,aA,Vc hx];by_cases h7:x.parent<1
  ·rw[bW h7,aW,bH (by omega)];rfl
  ·rw[bB h7,ah];by_cases h6:x.parent>=(v:Int)
   ·rw[bW h6,aW,bH (by omega)];rfl
   ·rw[bB h6,ah,bP ⟨by omega,by omega⟩];obtain⟨m,hm⟩:=ny (by omega:0<=x.parent);rw[hm,ih m fu (w++[(v:Int)]) (by omega) (by omega) (by omega) (by omega) (by simp;omega)];simp[dD]
theorem a4O(n:aF)(h:NOk n)(us:aa)(wV:∀i∈us,i<n.nodes.length)(hul:us.length<=1048576)(K:aj->Option aj):∀(j fu:Nat) (w:aj),j<=us.length->j<fu->w.length+j<=4194304->kj n (us.map dD) K fu ((j:Int)-1) w=K (w++((us.take j).reverse.filterMap (Cg n.nodes))):=by
 intro j
 induction j with
 |zero=>
  intro fu w _ hf _;obtain⟨fu,rfl⟩:∃m,fu=m+1:=⟨fu-1,by omega⟩
  rw[kj,bB (by omega),ah];simp
 |succ j ih=>
  intro fu w hj hf hw;obtain⟨fu,rfl⟩:∃m,fu=m+1:=⟨fu-1,by omega⟩
  have hlt:j<us.length:=by omega
  have h3:=wV us[j] (D7 hlt);have hx:n.nodes[us[j]]?=some n.nodes[us[j]]:=ai h3;have hww:=h.2 _ (D7 h3);generalize hxe:n.nodes[us[j]]=x at*;have e0:((j+1:Nat):Int)-1=(j:Int):=by omega
  have e1:mC (us.map dD) (j:Int)=some ((us[j]:Nat):Int):=by
   unfold mC;rw[bW (by omega),aW];show(us.map dD)[(j:Int).toNat]?=_;rw[o4,bz,ai hlt];rfl
  have e3:mC n.nodes ((us[j]:Nat):Int)=some x:=by unfold mC;rw[bW (by omega),aW];exact hx
  have e4:=TB x.cond (by have:=aE.eF (aN.fC hww);omega);have e5:IntKind.i64.wrap ((j:Int)-1)=(j:Int)-1:=gU (tM.i64.2 (by omega));rw[e0,kj,bW (by omega),aW,e1,aA,e3,aA,e4,aA,ot (by omega) (by decide),aW,e5,ih fu _ (by omega) (by omega) (by simp;omega)];have hc:Cg n.nodes us[j]=some x.cond:=by unfold Cg;rw[hx];rfl
  have ht:us.take (j+1)=us.take j++[us[j]]:=by rw[List.take_add_one,ai hlt];rfl
  rw[ht,List.reverse_append,List.filterMap_append];simp[hc]
theorem a7U(n:aF)(v:Int)(h:NOk n):xB n v=some (eb n.nodes v):=by
 have hl:=h.1;unfold xB eb;rw[aZ];by_cases h1:v<1
 ·rw[bW h1,aW,bH (by omega)]
 ·rw[bB h1,ah];by_cases h2:v>=(n.nodes.length:Int)
  ·rw[bW h2,aW,bH (by omega)]
  ·rw[bB h2,ah,bP ⟨by omega,by omega⟩];obtain⟨m,rfl⟩:=ny (by omega:0<=v);rw[a4N n h _ m m fuel [] (bR _) (by omega) (by omega) (by unfold fuel;omega) (by simp;omega)];have hul:=Yf n.nodes m m;have e5:IntKind.i64.wrap ((((([]:bJ)++(Rc n.nodes m m).map dD).map dZ).length:Int)-1)=(((Rc n.nodes m m).length:Nat):Int)-1:=by
    rw[cN,aZ,aZ];exact gU (tM.i64.2 (by omega))
   rw[e5,cN,a4O n h (Rc n.nodes m m) (a38 n.nodes m m (by omega)) (by omega) _ (Rc n.nodes m m).length fuel [] (bR _) (by unfold fuel;omega) (by simp;omega),D9];rfl
end Go.Cx
namespace Go.Cx
open Go.RowKit Go.Proofs Tryz
def nmB(k:Nat):Bytes:=[63]++Lib.itoa ((k:Int)+1)
theorem decDigits_one{u:Nat}(h:u<10):Lib.decDigits u=[UInt8.ofNat (48+u)]:=by
 rw[Lib.decDigits,dif_pos h]
theorem Pk:∀i,i<6->nmB i=[63,UInt8.ofNat (49+i)]
 |0,_|1,_|2,_|3,_|4,_|5,_=>by
  unfold nmB Lib.itoa;rw[bH (by decide),decDigits_one (by decide)];decide
 |n+6,h=>by omega
theorem a4k:∀i,i<6->∀j,j<6->nmB i=nmB j->i=j:=by
 intro i hi j hj e;rw[Pk i hi,Pk j hj]at e
 revert i j
 decide
theorem TR:∀i,i<6->lH (nmB i)=true:=by
 intro i hi;rw[Pk i hi]
 revert i
 decide
def Xm(N:aT):Prop:=∀(i:Nat) p,N[i]?=some p->p.value=nmB i/\lH p.var=true
theorem Ul(N:aT)(t:Bytes):Hh N t=true↔∃p∈N,p.var=t:=by simp[Hh]
theorem Za(N:aT)(t:Bytes){p:aS}(h:p∈N):p∈jR N t:=by
 unfold jR;cases lH t&& !Hh N t<;>simp[h]
theorem Uj:∀(ts:aI) (N:aT) {p:aS},p∈N->p∈ts.foldl jR N
 | [],_,_,h=>h
 |t::ts,N,p,h=>Uj ts (jR N t) (Za N t h)
theorem a3F{N:aT}(h:Xm N)(t:Bytes):Xm (jR N t):=by
 unfold jR;cases hv:lH t&& !Hh N t with
 |false=>exact h
 |true=>
  simp only[aY]at hv;intro i p hp;rw[aW]at hp;rcases eH i N.length with hlt|hge
  ·rw[b9 hlt]at hp;exact h i p hp
  ·rw[bE hge]at hp;cases hi:i-N.length with
   |zero=>
    rw[hi]at hp;simp at hp;subst hp;have:i=N.length:=by omega
    subst this;exact⟨rfl,hv.1⟩
   |succ m=>rw[hi]at hp;simp at hp
theorem Eo:∀(ts:aI) {N:aT},Xm N->Xm (ts.foldl jR N)
 | [],_,h=>h
 |t::ts,_,h=>Eo ts (a3F h t)
def Vh(N:aT):Prop:=(N.map aS.var).Nodup
theorem Zc{N:aT}(h:Vh N)(t:Bytes):Vh (jR N t):=by
 unfold jR;cases hv:lH t&& !Hh N t with
 |false=>exact h
 |true=>
  simp only[aY,nx]at hv;rw[aW];unfold Vh;rw[bS,bN];refine⟨h,by simp,?_⟩;intro a ha b hb e;simp at hb;subst hb;subst e;obtain⟨p,hp,he⟩:=cH.1 ha;have:=(Ul N a).2 ⟨p,hp,he⟩;rw[hv.2]at this;cases this
theorem Dk:∀(ts:aI) {N:aT},Vh N->Vh (ts.foldl jR N)
 | [],_,h=>h
 |t::ts,_,h=>Dk ts (Zc h t)
theorem NC:∀(ts:aI) (N:aT) {t:Bytes},t∈ts->lH t=true->∃p∈ts.foldl jR N,p.var=t
 |x::ts,N,t,h,hv=>by
  rcases bM.1 h with rfl|h
  ·have:∃p∈jR N t,p.var=t:=by
    unfold jR;cases hh:Hh N t with
    |true=>rw[hv];exact(Ul N t).1 hh
    |false=>rw[hv];exact⟨⟨t,[63]++Lib.itoa ((N.length:Int)+1)⟩,by simp,rfl⟩
   obtain⟨p,hp,he⟩:=this;exact⟨p,Uj ts _ hp,he⟩
  ·exact NC ts _ h hv
theorem NX:∀ {N:aT} {p:aS},Vh N->p∈N->Ey N p.var=p.value
 |q::N,p,hn,hp=>by
  unfold Vh at hn;rw[bG,eP]at hn;rcases bM.1 hp with rfl|hp
  ·simp[Ey]
  ·have hne:(q.var==p.var)=false:=by
    rw[dF];intro e;exact hn.1 (by rw[e];exact cH.2 ⟨p,hp,rfl⟩)
   rw[Ey,hne,ah];exact NX (show Vh N from hn.2) hp
theorem OT:∀ {N:aT} {t:Bytes},(∀p∈N,p.var≠t)->Ey N t=t
 | [],t,_=>rfl
 |q::N,t,h=>by
  have hne:(q.var==t)=false:=by rw[dF];exact h q (by simp)
  rw[Ey,hne,ah];exact OT fun p hp=>h p (by simp[hp])
theorem Xm.nil:Xm []:=fun i p h=>by simp at h
theorem Vh.nil:Vh []:=by simp[Vh]
theorem CU(ts:aI):(ts.foldl jR []).length<=ts.length:=by simpa using AR ts []
theorem OZ{N:aT}(h:Xm N){p:aS}(hp:p∈N):∃i,i<N.length/\N[i]?=some p/\p.value=nmB i/\lH p.var=true:=by
 obtain⟨i,hi⟩:=cq hp;exact⟨i,(aH.1 hi).1,hi,h i p hi⟩
theorem Qn{ts:aI}{t:Bytes}(ht:lH t=false):Ey (ts.foldl jR []) t=t:=
 OT fun p hp e=>by
  obtain⟨i,_,_,_,hv⟩:=OZ (Eo ts Xm.nil) hp;rw[e,ht]at hv;cases hv
theorem Lt(p:aE):(vN p).args=p.args.map (Ey (p.args.foldl jR [])):=rfl
theorem YM:∀i,i<6->(nmB i).length<=16:=by
 intro i hi;rw[Pk i hi];simp
theorem a7u{ts:aI}(hl:ts.length<=5){t:Bytes}(ht:t.length<=16):(Ey (ts.foldl jR []) t).length<=16:=by
 by_cases h:∃p∈ts.foldl jR [],p.var=t
 ·obtain⟨p,hp,he⟩:=h;rw[<-he,NX (Dk ts Vh.nil) hp];obtain⟨i,hi,_,hpv,_⟩:=OZ (Eo ts Xm.nil) hp;have:=CU ts;rw[hpv];exact YM i (by omega)
 ·rw[OT (fun p hp e=>h ⟨p,hp,e⟩)];exact ht
def unB(N:aT)(x:Bytes):Bytes:=match N with
 | []=>x
 |p::r=>bif p.value==x then p.var else unB r x
theorem Ye:∀ {N:aT} {p:aS},(N.map aS.value).Nodup->p∈N->unB N p.value=p.var
 |q::N,p,hn,hp=>by
  rw[bG,eP]at hn;rcases bM.1 hp with rfl|hp
  ·simp[unB]
  ·have hne:(q.value==p.value)=false:=by
    rw[dF];intro e;exact hn.1 (by rw[e];exact cH.2 ⟨p,hp,rfl⟩)
   rw[unB,hne,ah];exact Ye hn.2 hp
theorem OX:∀ {N:aT} {t:Bytes},(∀p∈N,p.value≠t)->unB N t=t
 | [],t,_=>rfl
 |q::N,t,h=>by
  have hne:(q.value==t)=false:=by rw[dF];exact h q (by simp)
  rw[unB,hne,ah];exact OX fun p hp=>h p (by simp[hp])
theorem Xb{N:aT}(h:Xm N)(hl:N.length<=5):(N.map aS.value).Nodup:=by
 unfold List.Nodup;rw[List.pairwise_iff_getElem];intro i j hi0 hj hij e;rw[aZ]at hj;rw[List.getElem_map,List.getElem_map]at e;have h1:=(h i _ (ai (by omega))).1;have h2:=(h j _ (ai hj)).1;rw[h1,h2]at e;have:=a4k i (by omega) j (by omega) e;omega
theorem aAh{ts:aI}(hl:ts.length<=5){t:Bytes}(ht:t∈ts)(hT:qI t=true):unB (ts.foldl jR []) (Ey (ts.foldl jR []) t)=t:=by
 have hw:=Eo ts Xm.nil;have hlen:=CU ts;cases hv:lH t with
 |true=>
  obtain⟨p,hp,he⟩:=NC ts [] ht hv;rw[<-he,NX (Dk ts Vh.nil) hp,Ye (Xb hw (by omega)) hp]
 |false=>
  rw[Qn hv];refine OX fun p hp e=>?_
  obtain⟨i,hi,_,hpv,_⟩:=OZ hw hp;have:=TR i (by omega);rw[<-hpv,e,hv]at this;cases this
theorem Zs{p:aE}(h:ye p=true)(hl:p.args.length<=5):ye (vN p)=true:=by
 unfold ye at h⊢;rw[aY]at h⊢;refine⟨?_,?_⟩
 ·rw[Lt,Dw,bA];intro t ht;have hT:=bA.1 h.1 t ht;show qI (Ey _ t)=true;cases hv:lH t with
  |false=>rw[Qn hv];exact hT
  |true=>
   obtain⟨q,hq,he⟩:=NC p.args [] ht hv;obtain⟨i,hi,_,hpv,_⟩:=OZ (Eo p.args Xm.nil) hq;have:=CU p.args;rw[<-he,NX (Dk p.args Vh.nil) hq,hpv];unfold qI;rw[TR i (by omega)];simp
 ·have:=h.2;rw[aY]at this⊢;refine⟨this.1,?_⟩;rw[Lt,aZ];exact this.2
end Go.Cx
namespace Go.Cx
open Go.RowKit Go.Proofs Tryz
def PG(c:aN):aI:=bif decide (c.kind=1)then jS c.pat.args else []
theorem a0r{c:aN}:(PG c).length<=c.wt:=by
 unfold PG;have h2:=yE c.pat.args;have h3:=aE.eF (aN.fC (bR c.wt));cases decide (c.kind=1)<;>simp;omega
def CG(r:aO)(n:Int):aI:=(r.conds.take n.toNat).flatMap PG
theorem SP{α:Type}(x:α)(xs:List α)(n:Int)(i:Nat):(x::xs).take (n-(i:Int)).toNat=if(i:Int)<n then x::xs.take (n-((i+1:Nat):Int)).toNat else []:=by
 by_cases h:(i:Int)<n
 ·rw[bP h];obtain⟨m,hm⟩:∃m,(n-(i:Int)).toNat=m+1:=⟨(n-(i:Int)).toNat -1,by omega⟩
  have:(n-((i+1:Nat):Int)).toNat=m:=by omega
  rw[hm,this];rfl
 ·rw[bH h,show(n-(i:Int)).toNat=0 from by omega];rfl
theorem HY{α β:Type}{f:α->List β}{w:α->Nat}(l:List α)(h:∀x∈l,(f x).length<=w x+2):(l.flatMap f).length<=3*jw w l:=by
 induction l with
 |nil=>simp[jw]
 |cons x l ih=>
  rw[dM,aX,qL];have h1:=h x (by simp);have h2:=ih (fun y hy=>h y (by simp[hy]));omega
theorem a0s{r:aO}{n:Nat}(h:r.wt<=n)(m:Int):(CG r m).length<=3*n:=by
 unfold CG;have h1:=HY (w:=aN.wt) (f:=PG) (r.conds.take m.toNat) (fun c _=>by have:= @a0r c;omega);have h2:jw aN.wt (r.conds.take m.toNat)<=jw aN.wt r.conds:=by
  conv=>rhs;rw[<-cA m.toNat r.conds]
  rw[Xd];omega
 have h3:=aO.tg h;omega
theorem a2U(a:aO)(n:Int)(i:Nat)(y:aI)(k:aI->Option aI):∀(l:aI) (j:Nat) (w:aI),w.length+l.length<=1099511627770->jZ a n i y k l j w=k (l.foldl AX w):=by
 intro l
 induction l with
 |nil=>intro j w _;rfl
 |cons x l ih=>
  intro j w hw;simp only[aK]at hw;have:=By w x;rw[jZ,XF w x (by omega),aA,ih _ _ (by omega)];rfl
theorem a4r(a:aO)(n:Int)(k:aI->Option aI):∀(l:aj) (i:Nat) (acc:aI),(∀c∈l,c.wt<=1048576)->acc.length+jw aN.wt l<=2097152->
 fV a n k l i (fD acc)=k (fD (acc++(l.take (n-(i:Int)).toNat).flatMap PG)):=by
 intro l
 induction l with
 |nil=>intro i acc _ _;simp[fV]
 |cons c l ih=>
  intro i acc hc hb;rw[qL]at hb;have hwt:=hc c (by simp);have hv:=yE c.pat.args;have ha:=aE.eF (aN.fC (bR c.wt));have hu:=qi (jS c.pat.args);have hu2:=qi acc;rw[fV,SP];by_cases hi:(i:Int)<n
  ·have e1:decide (((i:Int):Int)<n)=true:=by simp[hi]
   rw[e1,aW,bP hi];by_cases hk:c.kind=1
   ·have e2:((c.kind:Int)==1)=true:=by simp[hk]
    rw[e2,aW,Nb _ (aN.fC hwt),aA,wW (by omega),aW,a2U _ _ _ _ _ _ _ _ (by omega),I2,ih _ _ (fun x hx=>hc x (by simp[hx])) (by simp;omega)];simp[PG,hk]
   ·have e2:((c.kind:Int)==1)=false:=by simp[hk]
    rw[e2,ah,ih _ _ (fun x hx=>hc x (by simp[hx])) (by omega)];simp[PG,hk]
  ·have e1:decide (((i:Int):Int)<n)=false:=by simp[hi]
   rw[e1,ah,bH hi];simp
theorem a2T(r:aO)(n:Int)(h:r.wt<=1048576):nK r n=some (fD (CG r n)):=by
 unfold nK;have:=a4r r n (fun q=>some q) r.conds 0 [] (fun c hc=>aO.ru h hc) (by have:=aO.tg h;simp;omega);rw[show fD []=[]from rfl]at this;rw[this];simp[CG]
theorem a4J(a:aO)(n:Int)(k:aI->Option aI):∀(l:aj) (i:Nat) (w:aI),(∀c∈l,c.wt<=1048576)->w.length+jw aN.wt l<=2097152->
 ec a n k l i w=k (w++(l.take (n-(i:Int)).toNat).flatMap PG):=by
 intro l
 induction l with
 |nil=>intro i w _ _;simp[ec]
 |cons c l ih=>
  intro i w hc hb;rw[qL]at hb;have hwt:=hc c (by simp);have hv:=yE c.pat.args;have ha:=aE.eF (aN.fC (bR c.wt));rw[ec,SP];by_cases hi:(i:Int)<n
  ·have e1:decide (((i:Int):Int)<n)=true:=by simp[hi]
   rw[e1,aW,bP hi];by_cases hk:c.kind=1
   ·have e2:((c.kind:Int)==1)=true:=by simp[hk]
    rw[e2,aW,a1m _ (by omega) (fun x hx=>aE.v8 (aN.fC hwt) hx),aA,a2R (by omega) (by decide),aW,ih _ _ (fun x hx=>hc x (by simp[hx])) (by simp;omega)];simp[PG,hk]
   ·have e2:((c.kind:Int)==1)=false:=by simp[hk]
    rw[e2,ah,ih _ _ (fun x hx=>hc x (by simp[hx])) (by omega)];simp[PG,hk]
  ·have e1:decide (((i:Int):Int)<n)=false:=by simp[hi]
   rw[e1,ah,bH hi,ih _ _ (fun x hx=>hc x (by simp[hx])) (by omega),show(n-((i+1:Nat):Int)).toNat=0 from by omega];simp
theorem a1Z(r:aO)(n:Int)(h:r.wt<=1048576):pO r n=some (fD (CG r n)):=by
 unfold pO;have hl:=a0s h n;rw[a4J r n _ r.conds 0 [] (fun c hc=>aO.ru h hc) (by have:=aO.tg h;simp;omega)];have e:([]:aI)++(r.conds.take (n-((0:Nat):Int)).toNat).flatMap PG=CG r n:=by simp[CG]
 rw[e,TE _ (by omega)];rfl
def F6(l:aj):aI:=l.flatMap qk
def a3m(l:bw):aI:=l.flatMap fun a=>jS a.pat.args
def a7v(r:aO):aI:=F6 r.conds++a3m r.cr
theorem a0w(l:aj):(F6 l).length<=3*jw aN.wt l:=HY l (fun c _=>zG (bR _))
theorem a2d(a:aO)(i:Nat)(y:aI)(k:aI->Option aI):∀(l:aI) (j:Nat) (w:aI),w.length+l.length<=1099511627770->kP a i y k l j w=k (l.foldl AX w):=by
 intro l
 induction l with
 |nil=>intro j w _;rfl
 |cons x l ih=>
  intro j w hw;simp only[aK]at hw;have:=By w x;rw[kP,XF w x (by omega),aA,ih _ _ (by omega)];rfl
theorem a2f(a:aO)(i:Nat)(y:aI)(k:aI->Option aI):∀(l:aI) (j:Nat) (w:aI),w.length+l.length<=1099511627770->kQ a i y k l j w=k (l.foldl AX w):=by
 intro l
 induction l with
 |nil=>intro j w _;rfl
 |cons x l ih=>
  intro j w hw;simp only[aK]at hw;have:=By w x;rw[kQ,XF w x (by omega),aA,ih _ _ (by omega)];rfl
theorem a2c(a:aO)(k:aI->Option aI):∀(l:aj) (i:Nat) (acc:aI),(∀c∈l,c.wt<=1048576)->acc.length+3*jw aN.wt l<=16777216->
 iq a k l i (fD acc)=k (fD (acc++F6 l)):=by
 intro l
 induction l with
 |nil=>intro i acc _ _;simp[iq,F6]
 |cons c l ih=>
  intro i acc hc hb;rw[qL]at hb;have hwt:=hc c (by simp);have h1:=zG (bR c.wt);have hu:=qi (qk c);have hu2:=qi acc;rw[iq,XC c hwt,aA,wW (by omega),aW,a2d _ _ _ _ _ _ _ (by omega),I2,ih _ _ (fun x hx=>hc x (by simp[hx])) (by simp;omega)];simp[F6]
theorem a2e(a:aO)(k:aI->Option aI):∀(l:bw) (i:Nat) (acc:aI),(∀c∈l,c.wt<=1048576)->acc.length+3*jw Action.wt l<=16777216->
 gS a k l i (fD acc)=k (fD (acc++a3m l)):=by
 intro l
 induction l with
 |nil=>intro i acc _ _;simp[gS,a3m]
 |cons c l ih=>
  intro i acc hc hb;rw[qL]at hb;have hwt:=hc c (by simp);have h1:=yE c.pat.args;have h2:=aE.eF (Action.fC (bR c.wt));have hu:=qi (jS c.pat.args);have hu2:=qi acc;rw[gS,Nb _ (Action.fC hwt),aA,wW (by omega),aW,a2f _ _ _ _ _ _ _ (by omega),I2,ih _ _ (fun x hx=>hc x (by simp[hx])) (by simp;omega)];simp[a3m]
theorem a8D(r:aO)(h:r.wt<=1048576):uO r=some (fD (a7v r)):=by
 unfold uO;have h3:=aO.tg h;have h4:=aO.MC h;have hl:=a0w r.conds;have:=a2c r (fun q=>gS r (fun q=>some q) r.cr 0 q) r.conds 0 [] (fun c hc=>aO.ru h hc) (by simp;omega);rw[show fD []=[]from rfl]at this;rw[this];simp only[cN];rw[a2e r _ r.cr 0 _ (fun c hc=>aO.Sm h hc) (by omega)];rfl
theorem a9f(l:aj)(hc:∀c∈l,c.wt<=1048576)(hb:jw aN.wt l<=1048576):qp l=some (l.flatMap fun c=>fD (qk c)):=by
 unfold qp;have:∀(r:aj) (i:Nat) (w:aI),(∀c∈r,c.wt<=1048576)->w.length+3*jw aN.wt r<=16777216->gD l (fun q=>some q) r i w=some (w++r.flatMap fun c=>fD (qk c)):=by
  intro r
  induction r with
  |nil=>intro i w _ _;simp[gD]
  |cons c r ih=>
   intro i w hc hb;rw[qL]at hb;have h1:=zG (bR c.wt);have hu:=qi (qk c);rw[gD,Wh c (hc c (by simp)),aA,a2R (by omega) (by decide),aW,ih _ _ (fun x hx=>hc x (by simp[hx])) (by simp;omega)];simp
 exact this l 0 [] hc (by simp;omega)
theorem a0v(l:aj):(l.flatMap fun c=>fD (qk c)).length<=3*jw aN.wt l:=HY l (fun c _=>by
 have h1:=zG (bR c.wt);have hu:=qi (qk c);omega)
theorem aBY(l:aj)(b:aI):fD ((l.flatMap fun c=>fD (qk c))++b)=fD (F6 l++b):=I1 (fun x=>by simp[F6,wK])
def Z7(v:Bytes)(k:Int):aj->Nat->Bool
 | [],_=>false
 |c::cs,i=>(decide (((i:Nat):Int)≠k)&&(qk c).contains v)||Z7 v k cs (i+1)
def Ub(r:aO)(k:Int)(v:Bytes):Bool:=Z7 v k r.conds 0||r.cr.any fun a=>(jS a.pat.args).contains v
theorem RR{l:aI}{v:Bytes}(h:lH v=true):l.contains v=(jS l).contains v:=by
 rw[bh];simp[jS,h]
theorem aAN(r:aO)(k:Int)(v:Bytes)(h:r.wt<=1048576):nT r k v=some (Ub r k v):=by
 unfold nT Ub;have k2:∀(l:bw) (i:Nat),(∀c∈l,c.wt<=1048576)->iE r v (some false) l i=some (l.any fun a=>(jS a.pat.args).contains v):=by
  intro l
  induction l with
  |nil=>intro i _;rfl
  |cons a l ih=>
   intro i hc;rw[iE,Nb _ (Action.fC (hc a (by simp))),aA,a2Y,aA,nj,ih _ (fun x hx=>hc x (by simp[hx])),uc];cases(jS a.pat.args).contains v<;>rfl
 have k1:∀(l:aj) (i:Nat),(∀c∈l,c.wt<=1048576)->fS r k v (some (r.cr.any fun a=>(jS a.pat.args).contains v)) l i=some (Z7 v k l i||r.cr.any fun a=>(jS a.pat.args).contains v):=by
  intro l
  induction l with
  |nil=>intro i _;rfl
  |cons c l ih=>
   intro i hc;rw[fS,XC _ (hc c (by simp)),aA,a2Y,aA,nj,ih _ (fun x hx=>hc x (by simp[hx]))];simp only[Z7,bne,ez];by_cases hi:((i:Nat):Int)=k
   ·simp[hi]
   ·cases(qk c).contains v<;>simp[hi]
 rw[k2 _ _ (fun c hc=>aO.Sm h hc),k1 _ _ (fun c hc=>aO.ru h hc)]
theorem aCr(r:aO)(k:Int)(v:Bytes)(hv:lH v=true)(h:r.wt<=1048576):lX r k v=some (Ub r k v):=by
 unfold lX Ub;have k2:∀(l:bw) (i:Nat),eg r v (some false) l i=some (l.any fun a=>(jS a.pat.args).contains v):=by
  intro l
  induction l with
  |nil=>intro i;rfl
  |cons a l ih=>
   intro i;rw[eg,a4L,aA,RR hv,ih,uc];cases(jS a.pat.args).contains v<;>rfl
 have k1:∀(l:aj) (i:Nat),(∀c∈l,c.wt<=1048576)->eD r k v (some (r.cr.any fun a=>(jS a.pat.args).contains v)) l i=some (Z7 v k l i||r.cr.any fun a=>(jS a.pat.args).contains v):=by
  intro l
  induction l with
  |nil=>intro i _;rfl
  |cons c l ih=>
   intro i hc;rw[eD,Wh _ (hc c (by simp)),aA,a4L,aA,nj,ih _ (fun x hx=>hc x (by simp[hx]))];simp only[Z7,bne,ez];by_cases hi:((i:Nat):Int)=k
   ·simp[hi]
   ·cases(qk c).contains v<;>simp[hi]
 rw[k2,k1 _ _ (fun c hc=>aO.ru h hc)]
def PL(r:aO)(i:Nat)(c:aN)(v:Bytes):Bool:=decide (c.kind=1)||(CG r i).contains v||(decide (c.kind=2)&& !Ub r i v)
def xX(r:aO):aj->Nat->Bool
 | [],_=>true
 |c::cs,i=>(sD c&&(!decide (i=0)||decide (c.kind=1))&&(fD (qk c)).all (PL r i c))&&xX r cs (i+1)
def Py(r:aO):Bool:=r.cr.all fun a=>Px a&&(jS a.pat.args).all fun v=>(CG r r.conds.length).contains v
def nv(r:aO):Bool:=As r.name&&(decide (0<=r.prio)&&decide (r.prio<=9))&&(decide (1<=(r.conds.length:Int))&&decide ((r.conds.length:Int)<=4))&&(decide (1<=(r.cr.length:Int))&&decide ((r.cr.length:Int)<=2))&&
 (xX r r.conds 0&&(Py r&&decide (((fD (F6 r.conds)).length:Int)<=6)))
theorem Rl(l:aI)(p:Bytes->Bool):(fD l).all p=l.all p:=by
 rw[bh];simp[bA,wK]
theorem a3q(r:aO)(n:Int){v:Bytes}(h:v∈CG r n):v∈F6 r.conds:=by
 unfold CG at h;obtain⟨c,hc,hv⟩:=cC.1 h;refine cC.2 ⟨c,cF hc,?_⟩;unfold PG at hv;cases hk:decide (c.kind=1)with
 |false=>rw[hk]at hv;cases hv
 |true=>
  rw[hk]at hv;simp only[aW]at hv;unfold qk;rw[SX];exact ar.2 (.inl hv)
theorem Vx{r:aO}(h:Py r=true):fD (a7v r)=fD (F6 r.conds):=by
 refine I1 (fun x=>?_);unfold a7v;simp only[ar];constructor
 ·rintro(hx|hx)
  ·exact hx
  ·obtain⟨a,ha,hv⟩:=cC.1 hx;unfold Py at h;have:=bA.1 h a ha;simp only[aY,bA]at this;have:=this.2 x hv;exact a3q r _ (by simpa using this)
 ·exact .inl
theorem a4v(r:aO)(y:aI)(i:Nat)(c:aN)(l:aI)(k:Option Bool)(hc:c.wt<=1048576)(hr:r.wt<=1048576)(hcb:sD c=true):∀(rest:aI) (j:Nat),ff r y i c (fD (CG r i)) l k rest j=bif rest.all (PL r i c)then k else some false:=by
 have hk:=KO hcb;intro rest
 induction rest with
 |nil=>intro j;rfl
 |cons v rest ih=>
  intro j;rw[ff,a2Y,aA,nj,a2j c hc,aA,aAN r _ v hr,aA,ih,dG];unfold Nd PL;rw[hcb];by_cases h1:c.kind=1
  ·simp[h1]
  by_cases h2:c.kind=2
  ·cases(CG r i).contains v<;>cases Ub r i v<;>simp[h2]
  have h3:c.kind>=3:=by omega
  cases(CG r i).contains v<;>simp[h1,h2,h3]
theorem a4w(r:aO)(y:aI)(i:Nat)(c:aN)(l:aI)(k:Option Bool)(hc:c.wt<=1048576)(hr:r.wt<=1048576)(hcb:sD c=true):∀(rest:aI) (j:Nat),fk r y i c (fD (CG r i)) l k rest j=bif rest.all (PL r i c)then k else some false:=by
 have hk:=KO hcb;intro rest
 induction rest with
 |nil=>intro j;rfl
 |cons v rest ih=>
  intro j;rw[fk,a2Y,aA,nj,a2j c hc,aA,aAN r _ v hr,aA,ih,dG];unfold Nd PL;rw[hcb];by_cases h1:c.kind=1
  ·simp[h1]
  by_cases h2:c.kind=2
  ·cases(CG r i).contains v<;>cases Ub r i v<;>simp[h2]
  have h3:c.kind>=3:=by omega
  cases(CG r i).contains v<;>simp[h1,h2,h3]
theorem a4u(r:aO)(y:aI)(k:Option Bool)(hr:r.wt<=1048576):∀(rest:aj) (i:Nat),(∀c∈rest,c.wt<=1048576)->kz r y k rest i=bif xX r rest i then k else some false:=by
 intro rest
 induction rest with
 |nil=>intro i _;rfl
 |cons c rest ih=>
  intro i h;have hc:=h c (by simp);have hl:=zG hc;have hu:=qi (qk c);rw[kz,a2V c hc,aA,xX];cases hcb:sD c with
  |false=>rfl
  |true=>
   rw[a2T r _ hr,XC c hc,ih _ (fun x hx=>h x (by simp[hx]))];simp only[aA,wW (show(fD (qk c)).length<=1099511627776 by omega),aW];rw[a4v r y i c _ _ hc hr hcb,a4w r y i c _ _ hc hr hcb];simp only[bne,ez];have e0:decide (((i:Int):Int)=0)=decide (i=0):=by rw[bh];simp
   rw[e0];cases decide (i=0)<;>cases decide (c.kind=1)<;>cases(fD (qk c)).all (PL r i c)<;>simp
theorem a4y(r:aO)(y:aI)(i:Nat)(l:aI)(k:Option Bool):∀(rest:aI) (j:Nat),nN r y i l k rest j=bif rest.all (fun v=>y.contains v)then k else some false:=
 fun rest j=>Yx (f:=fun v=>gZ y v) (L:=nN r y i l k) (fun _=>rfl) (fun _ _ _=>rfl) rest j (fun v _=>a2Y y v)
theorem a4x(r:aO)(b:aI)(k:Option Bool):∀(rest:bw) (i:Nat),(∀a∈rest,a.wt<=1048576)->nM r (fD b) k rest i=bif rest.all (fun a=>Px a&&(jS a.pat.args).all fun v=>b.contains v)then k else some false:=by
 intro rest
 induction rest with
 |nil=>intro i _;rfl
 |cons a rest ih=>
  intro i h;have ha:=h a (by simp);have h1:=yE a.pat.args;have h2:=aE.eF (Action.fC ha);have hu:=qi (jS a.pat.args);rw[nM,aD9 a ha,aA,Nb _ (Action.fC ha),aA,wW (by omega),ih _ (fun x hx=>h x (by simp[hx])),a4y,dG,Rl];have e:((jS a.pat.args).all fun v=>(fD b).contains v)=(jS a.pat.args).all fun v=>b.contains v:=by
   congr 1;funext v;exact nj b v
  rw[e];cases Px a<;>cases(jS a.pat.args).all (fun v=>b.contains v)<;>simp
theorem aAY(r:aO)(h:r.wt<=1048576):xI r=some (nv r):=by
 unfold xI;simp only[a2Z _ (aO.YL h),aA,NJ,aZ];rw[a2T r _ h];simp only[aA];rw[a4u r _ _ h _ _ (fun c hc=>aO.ru h hc),a4x r _ _ _ _ (fun a ha=>aO.Sm h ha),a8D r h];simp only[aA,aZ];have hab:(r.cr.all fun a=>Px a&&(jS a.pat.args).all fun v=>(CG r r.conds.length).contains v)=Py r:=rfl;rw[hab];unfold nv;have g1:decide (r.prio>=0)=decide (0<=r.prio):=rfl;have g2:decide ((r.conds.length:Int)>=1)=decide (1<=(r.conds.length:Int)):=rfl;have g3:decide ((r.cr.length:Int)>=1)=decide (1<=(r.cr.length:Int)):=rfl;rw[g1,g2,g3];cases ha:Py r with
 |false=>cases As r.name<;>cases(decide (0<=r.prio)&&decide (r.prio<=9))<;>cases(decide (1<=(r.conds.length:Int))&&decide ((r.conds.length:Int)<=4))<;>cases(decide (1<=(r.cr.length:Int))&&decide ((r.cr.length:Int)<=2))<;>cases xX r r.conds 0<;>rfl
 |true=>
  rw[Vx ha];cases As r.name<;>cases(decide (0<=r.prio)&&decide (r.prio<=9))<;>cases(decide (1<=(r.conds.length:Int))&&decide ((r.conds.length:Int)<=4))<;>cases(decide (1<=(r.cr.length:Int))&&decide ((r.cr.length:Int)<=2))<;>cases xX r r.conds 0<;>simp
theorem a7O(r:aO)(i:Nat)(c:aN)(l:aI)(k:Option Bool)(hr:r.wt<=1048576)(hcb:sD c=true):∀(rest:aI) (j:Nat),(∀v∈rest,lH v=true)->gN r (i:Int) c (fD (CG r i)) l k rest j=bif rest.all (PL r i c)then k else some false:=by
 have hk:=KO hcb;intro rest
 induction rest with
 |nil=>intro j _;rfl
 |cons v rest ih=>
  intro j hv;rw[gN,a4L,aA,nj,aCr r _ v (hv v (by simp)) hr,aA,ih _ (fun x hx=>hv x (by simp[hx])),dG];unfold PL;simp only[bne,ez];by_cases h1:c.kind=1
  ·simp[h1]
  by_cases h2:c.kind=2
  ·cases(CG r i).contains v<;>cases Ub r i v<;>simp[h2]
  cases(CG r i).contains v<;>simp[h1,h2]
theorem a9i(r:aO)(i:Nat)(c:aN)(hr:r.wt<=1048576)(hi:r.conds[i]?=some c)(hcb:sD c=true):qY r (i:Int)=some ((fD (qk c)).all (PL r i c)):=by
 unfold qY;have hc:=aO.ru hr (aC hi);have hl:=zG hc;have hu:=qi (qk c);have e:mC r.conds (i:Int)=some c:=by unfold mC;simp[hi]
 rw[e,aA,a1Z r _ hr,aA,Wh c hc,aA,wW (by omega),aW,a7O r i c _ _ hr hcb _ _ (fun v hv=>by
  rw[wK]at hv;unfold qk jS at hv;exact(fY.1 hv).2)]
 cases(fD (qk c)).all (PL r i c)<;>rfl
theorem a4P(r:aO)(k:Option Bool)(hr:r.wt<=1048576):∀(rest pre:aj),r.conds=pre++rest->jB r k rest pre.length=bif xX r rest pre.length then k else some false:=by
 intro rest
 induction rest with
 |nil=>intro pre _;rfl
 |cons c rest ih=>
  intro pre h;have hm:c∈r.conds:=by rw[h];simp
  have hc:=aO.ru hr hm;have hi:r.conds[pre.length]?=some c:=by rw[h];simp
  have t:=ih (pre++[c]) (by rw[h];simp);simp only[aX,aK,bK]at t;rw[jB,a1d c hc,aA,xX];cases hcb:sD c with
  |false=>rfl
  |true=>
   rw[a9i r _ c hr hi hcb,aA,t];simp only[bne,ez];have e0:decide ((((pre.length:Nat):Int):Int)=0)=decide (pre.length=0):=by rw[bh];simp
   rw[e0];cases decide (pre.length=0)<;>cases decide (c.kind=1)<;>cases(fD (qk c)).all (PL r pre.length c)<;>simp
theorem a4R(r:aO)(y:aI)(i:Nat)(l:aI)(k:Option Bool):∀(rest:aI) (j:Nat),mo r y i l k rest j=bif rest.all (fun v=>y.contains v)then k else some false:=
 fun rest j=>Yx (f:=fun v=>lV y v) (L:=mo r y i l k) (fun _=>rfl) (fun _ _ _=>rfl) rest j (fun v _=>a4L y v)
theorem a4Q(r:aO)(b:aI)(k:Option Bool):∀(rest:bw) (i:Nat),(∀a∈rest,a.wt<=1048576)->mm r (fD b) k rest i=bif rest.all (fun a=>Px a&&(jS a.pat.args).all fun v=>b.contains v)then k else some false:=by
 intro rest
 induction rest with
 |nil=>intro i _;rfl
 |cons a rest ih=>
  intro i h;have ha:=h a (by simp);have h1:=yE a.pat.args;have h2:=aE.eF (Action.fC ha);rw[mm,aCm a ha,aA,a1m _ (by omega) (fun x hx=>aE.v8 (Action.fC ha) hx),aA,wW (by omega),ih _ (fun x hx=>h x (by simp[hx])),a4R,dG];have e:((jS a.pat.args).all fun v=>(fD b).contains v)=(jS a.pat.args).all fun v=>b.contains v:=by
   congr 1;funext v;exact nj b v
  rw[e];cases Px a<;>cases(jS a.pat.args).all (fun v=>b.contains v)<;>simp
theorem a9p(r:aO)(h:r.wt<=1048576):x9 r=some (nv r):=by
 unfold x9;have hcu:=a0v r.conds;have hcl:=aO.tg h;rw[show jB r _ r.conds 0=_ from a4P r _ h r.conds [] rfl,a1Z r _ h,aA,a4Q r _ _ _ _ (fun a ha=>aO.Sm h ha),a9f _ (fun c hc=>aO.ru h hc) hcl,aA,TE _ (by omega),a1g _ (aO.YL h)];have e:=aBY r.conds [];simp only[cM]at e;rw[e];simp only[aA,aZ,bK];have hab:(r.cr.all fun a=>Px a&&(jS a.pat.args).all fun v=>(CG r r.conds.length).contains v)=Py r:=rfl;rw[hab];unfold nv;have g1:decide (0<=r.prio)= !decide (r.prio<0):=by rw[bh];simp
 have g2:decide (r.prio<=9)= !decide (r.prio>9):=by rw[bh];simp
 have g3:decide (1<=(r.conds.length:Int))= !decide ((r.conds.length:Int)<1):=by rw[bh];simp
 have g4:decide ((r.conds.length:Int)<=4)= !decide ((r.conds.length:Int)>4):=by rw[bh];simp
 have g5:decide (1<=(r.cr.length:Int))= !decide ((r.cr.length:Int)<1):=by rw[bh];simp
 have g6:decide ((r.cr.length:Int)<=2)= !decide ((r.cr.length:Int)>2):=by rw[bh];simp
 rw[g1,g2,g3,g4,g5,g6];cases As r.name
 ·rfl
 cases decide (r.prio<0)
 case true=>rfl
 cases decide (r.prio>9)
 case true=>rfl
 cases decide ((r.conds.length:Int)<1)
 case true=>rfl
 cases decide ((r.conds.length:Int)>4)
 case true=>rfl
 cases decide ((r.cr.length:Int)<1)
 case true=>rfl
 cases decide ((r.cr.length:Int)>2)
 case true=>rfl
 cases xX r r.conds 0
 ·rfl
 cases Py r
 ·rfl
 simp
def Jz(name:Bytes):au->Nat->Int
 | [],_=> -1
 |r::rs,i=>bif r.name==name then(i:Int)else Jz name rs (i+1)
def RQ(all:au):au->Nat->Bool
 | [],_=>true
 |r::rs,i=>(nv r&&decide (Jz r.name all 0=(i:Int)))&&RQ all rs (i+1)
def zF(l:au):Bool:=RQ l l 0&&decide ((l.length:Int)<=6)
theorem aAO(l:au)(n:Bytes):uL l n=some (Jz n l 0):=by
 unfold uL;have:∀(r:au) (i:Nat),kN l n (some (-1)) r i=some (Jz n r i):=by
  intro r
  induction r with
  |nil=>intro i;rfl
  |cons x r ih=>intro i;rw[kN,ih,Jz];cases x.name==n<;>rfl
 exact this l 0
theorem a9g(l:au)(n:Bytes):tr l n=some (Jz n l 0):=by
 unfold tr;have:∀(r:au) (i:Nat),k9 l n (some (-1)) r i=some (Jz n r i):=by
  intro r
  induction r with
  |nil=>intro i;rfl
  |cons x r ih=>intro i;rw[k9,ih,Jz];cases x.name==n<;>rfl
 exact this l 0
theorem aDB(l:au)(h:jw aO.wt l<=1048576):uJ l=some (zF l):=by
 unfold uJ;have:∀(r:au) (i:Nat) (k:Option Bool),(∀x∈r,x.wt<=1048576)->kL l k r i=bif RQ l r i then k else some false:=by
  intro r
  induction r with
  |nil=>intro i k _;rfl
  |cons x r ih=>
   intro i k hx;rw[kL,aAY x (hx x (by simp)),aA,aAO,aA,ih _ _ (fun y hy=>hx y (by simp[hy])),RQ];simp only[bne,ez];cases nv x<;>cases decide (Jz x.name l 0=(i:Int))<;>simp
 rw[this _ _ _ (fun x hx=>by have:=iP (w:=aO.wt) hx;omega),aZ,zF];cases RQ l l 0<;>rfl
theorem aCo(l:au)(h:jw aO.wt l<=1048576):tj l=some (zF l):=by
 unfold tj;have:∀(r:au) (i:Nat) (k:Option Bool),(∀x∈r,x.wt<=1048576)->k7 l k r i=bif RQ l r i then k else some false:=by
  intro r
  induction r with
  |nil=>intro i k _;rfl
  |cons x r ih=>
   intro i k hx;rw[k7,a9p x (hx x (by simp)),aA,a9g,aA,ih _ _ (fun y hy=>hx y (by simp[hy])),RQ];simp only[bne,ez];cases nv x<;>cases decide (Jz x.name l 0=(i:Int))<;>simp
 rw[this _ _ _ (fun x hx=>by have:=iP (w:=aO.wt) hx;omega),aZ,zF];have g:decide ((l.length:Int)<=6)= !decide ((l.length:Int)>6):=by rw[bh];simp
 rw[g];cases RQ l l 0<;>cases decide ((l.length:Int)>6)<;>rfl
end Go.Cx
namespace Go.Cx
open Go.RowKit Go.Proofs Tryz
theorem Qv{α β:Type}[DecidableEq β]{f:α->α->Option Bool}{g:α->β}{a b:List α}{k:Option Bool}{L:List α->Nat->Option Bool}(hl:a.length=b.length)(uU:∀i,L [] i=k)
 (tK:∀x xs i,L (x::xs) i=(mC b (i:Int)).bind fun y=>(f x y).bind fun r=>bif !r then some false else L xs (i+1)) (hf:∀x y,f x y=some (decide (g x=g y))):
 L a 0=bif decide (a.map g=b.map g)then k else some false:=by
 have key:∀(ra rb pa pb:List α),a=pa++ra->b=pb++rb->pa.length=pb.length->L ra pa.length=bif decide (ra.map g=rb.map g)then k else some false:=by
  intro ra
  induction ra with
  |nil=>
   intro rb pa pb h1 h2 h3;rw[uU];have:rb=[]:=by
    have:=congrArg List.length h1;have:=congrArg List.length h2;simp at*;apply cZ;omega
   subst this;simp
  |cons x xs ih=>
   intro rb pa pb h1 h2 h3;cases rb with
   |nil=>
    exfalso;have:=congrArg List.length h1;have:=congrArg List.length h2;simp at*;omega
   |cons y ys=>
    have e1:mC b (pa.length:Int)=some y:=by rw[h3];exact zQ h2
    rw[tK,e1,aA,hf,aA];have:=ih ys (pa++[x]) (pb++[y]) (by rw[h1];simp) (by rw[h2];simp) (by simp[h3]);simp only[aX,aK,bK]at this;rw[this];by_cases hxy:g x=g y
    ·simp[hxy]
    ·simp[hxy]
 exact key a b [] [] rfl rfl rfl
theorem Qj{α β:Type}{g:α->β}{a b:List α}(h:a.length≠b.length):a.map g≠b.map g:=fun e=>h (by have:=congrArg List.length e;simpa using this)
theorem IC{α:Type}{c:α->aR}(a b:List α):((((a.map c).length:Int):Int) != ((b.map c).length:Int))= !decide (a.length=b.length):=by
 rw[bh];simp;omega
theorem map_id'{α:Type}(l:List α):l.map (fun x=>x)=l:=by simp
theorem a7X(a b:aO):qX a b=some (decide (a=b)):=by
 have k2:∀(k:Option Bool),a.cr.length=b.cr.length->iT a b k a.cr 0=bif decide (a.cr=b.cr)then k else some false:=fun k hl=>by
  have:=Qv (g:=fun x:Action=>x) (f:=fun x y:Action=>bif x.kind != y.kind then some false else fH x.pat y.pat) (k:=k) (L:=iT a b k) hl (fun _=>rfl) (fun x xs i=>by
   rw[iT];congr 1;funext y;cases(x.kind != y.kind)<;>rfl) (fun x y=>by
   obtain⟨x0,x1⟩:=x;obtain⟨y0,y1⟩:=y;simp only[QX,bne,ez];by_cases h0:x0=y0<;>by_cases h1:x1=y1<;>simp[h0,h1])
  rw[map_id',map_id']at this;exact this
 have k1:∀(k:Option Bool),a.conds.length=b.conds.length->kB a b k a.conds 0=bif decide (a.conds=b.conds)then k else some false:=fun k hl=>by
  have:=Qv (g:=fun x:aN=>x) (f:=jx) (k:=k) (L:=kB a b k) hl (fun _=>rfl) (fun _ _ _=>rfl) TD;rw[map_id',map_id']at this;exact this
 unfold qX;rw[IC,IC];obtain⟨a0,a1,a2,a3⟩:=a;obtain⟨b0,b1,b2,b3⟩:=b;simp only at k1 k2⊢;simp only[bne,ez,Bool.not_not];by_cases h0:a0=b0;rotate_left
 ·simp[h0]
 by_cases h1:a1=b1;rotate_left
 ·simp[h1]
 by_cases h2:a2.length=b2.length;rotate_left
 ·have:a2≠b2:=fun e=>h2 (by rw[e])
  simp[h2,this]
 by_cases h3:a3.length=b3.length;rotate_left
 ·have:a3≠b3:=fun e=>h3 (by rw[e])
  simp[h3,this]
 rw[k1 _ h2,k2 _ h3];by_cases h4:a2=b2<;>by_cases h5:a3=b3<;>simp[h0,h1,h2,h3,h4,h5]
theorem a4S(a b:au):sQ a b=some (decide (a=b)):=by
 unfold sQ;exact S2 (c:=aO.c) (f:=qX) (fun k=>mJ a b k) (fun _ _=>rfl) (fun _ _ _ _=>rfl) a7X
theorem VF(x y:aS):((x.var:Bytes)==y.var&&(x.value:Bytes)==y.value)=decide (x=y):=by
 obtain⟨x0,x1⟩:=x;obtain⟨y0,y1⟩:=y;simp only[ez];by_cases h0:x0=y0<;>by_cases h1:x1=y1<;>simp[h0,h1]
theorem a8E(a b:aT):lD a b=some (decide (a=b)):=by
 unfold lD;exact S2 (c:=aS.c) (f:=fun x y=>some (decide (x=y))) (fun k=>fp a b k) (fun _ _=>rfl) (fun k x xs i=>by rw[fp];congr 1;funext y;rw[VF];rfl) (fun _ _=>rfl)
theorem a7V(a b:aT):pR a b=some (decide (a=b)):=by
 unfold pR;exact S2 (c:=aS.c) (f:=fun x y=>some (decide (x=y))) (fun k=>jU a b k) (fun _ _=>rfl) (fun k x xs i=>by rw[jU];congr 1;funext y;rw[VF];rfl) (fun _ _=>rfl)
theorem a4z(a b:af):oq a b=some (decide (a=b)):=by
 unfold oq;exact S2 (c:=aJ.c) (f:=fun x y=>(nO x.facts y.facts).bind fun r=>bif !r then some false else lD x.bind y.bind) (fun k=>gT a b k) (fun _ _=>rfl) (fun k x xs i=>by
  rw[gT];congr 1;funext y;rw[Tj,aA,aA];cases decide (x.facts=y.facts)<;>rfl) (fun x y=>by
  obtain⟨x0,x1⟩:=x;obtain⟨y0,y1⟩:=y;simp only[Tj,a8E,aA];by_cases h0:x0=y0<;>by_cases h1:x1=y1<;>simp[h0,h1])
theorem a4T(a b:af):oB a b=some (decide (a=b)):=by
 unfold oB;exact S2 (c:=aJ.c) (f:=fun x y=>(jD x.facts y.facts).bind fun r=>bif !r then some false else pR x.bind y.bind) (fun k=>iX a b k) (fun _ _=>rfl) (fun k x xs i=>by
  rw[iX];congr 1;funext y;rw[Pf,aA,aA];cases decide (x.facts=y.facts)<;>rfl) (fun x y=>by
  obtain⟨x0,x1⟩:=x;obtain⟨y0,y1⟩:=y;simp only[Pf,a7V,aA];by_cases h0:x0=y0<;>by_cases h1:x1=y1<;>simp[h0,h1])
def QL(a b:aF):Bool:=decide (a.ay.map aP.shape=b.ay.map aP.shape)&&(decide (a.nodes.map (fun x=>(x.parent,x.cP,x.cond))=b.nodes.map (fun x=>(x.parent,x.cP,x.cond)))&&decide (a.ends=b.ends))
def Ra(a b:aF):Bool:=decide (a.rules=b.rules)&&(decide (a.ends=b.ends)&&(decide (a.facts=b.facts)&&(decide (a.ay=b.ay)&&decide (a.nodes=b.nodes))))
theorem aAR(a b:aF):rA a b=some (QL a b):=by
 unfold rA QL;rw[IC,IC,IC];by_cases h1:a.ay.length=b.ay.length;rotate_left
 ·simp[h1,Qj h1]
 by_cases h2:a.nodes.length=b.nodes.length;rotate_left
 ·simp[h2,Qj h2]
 by_cases h3:a.ends.length=b.ends.length;rotate_left
 ·have:a.ends≠b.ends:=fun e=>h3 (by rw[e])
  simp[h3,this]
 have k1:=fun k=>Qv (g:=aP.shape) (f:=fun x y:aP=>ir x.shape y.shape) (k:=k) (L:=lE a b k) h1 (fun _=>rfl) (fun _ _ _=>rfl) (fun x y=>XH _ _)
 have k2:=fun k=>Qv (g:=fun x:Node=>(x.parent,x.cP,x.cond)) (f:=fun x y:Node=>bif x.parent != y.parent then some false else bif x.cP != y.cP then some false else oY x.cond y.cond) (k:=k) (L:=iw a b k) h2 (fun _=>rfl) (fun x xs i=>by
  rw[iw];congr 1;funext y;cases(x.parent != y.parent)<;>cases(x.cP != y.cP)<;>rfl) (fun x y=>by
  simp only[a2g,bne,ez];by_cases q0:x.parent=y.parent<;>by_cases q1:x.cP=y.cP<;>by_cases q2:x.cond=y.cond<;>simp[q0,q1,q2])
 have k3:=fun k=>Qv (g:=fun x:Int=>x) (f:=fun x y:Int=>some (decide (x=y))) (k:=k) (L:=iy a b k) h3 (fun _=>rfl) (fun x xs i=>by
  rw[iy];congr 1) (fun x y=>rfl)
 rw[k1,k2,k3,map_id',map_id'];simp only[h1,h2,h3,CO,bQ,ah];cases decide (a.ay.map aP.shape=b.ay.map aP.shape)<;>cases decide (a.nodes.map (fun x=>(x.parent,x.cP,x.cond))=b.nodes.map (fun x=>(x.parent,x.cP,x.cond)))<;>cases decide (a.ends=b.ends)<;>rfl
theorem aCt(a b:aF):om a b=some (Ra a b):=by
 unfold om;simp only[a4S,a7W,Pf,aA,IC];by_cases h1:a.ay.length=b.ay.length;rotate_left
 ·have:a.ay≠b.ay:=fun e=>h1 (by rw[e])
  simp only[h1,Ra,this,decide_false,cg,aW,Bool.false_and];cases decide (a.rules=b.rules)<;>cases decide (a.ends=b.ends)<;>cases decide (a.facts=b.facts)<;>rfl
 by_cases h2:a.nodes.length=b.nodes.length;rotate_left
 ·have:a.nodes≠b.nodes:=fun e=>h2 (by rw[e])
  simp only[h1,h2,Ra,this,CO,decide_false,cg,bQ,aW,ah,yK];cases decide (a.rules=b.rules)<;>cases decide (a.ends=b.ends)<;>cases decide (a.facts=b.facts)<;>rfl
 have k1:=fun k=>Qv (g:=fun x:aP=>x) (f:=fun x y:aP=>(fH x.shape y.shape).bind fun r=>bif !r then some false else jD x.facts y.facts) (k:=k) (L:=gK a b k) h1 (fun _=>rfl) (fun x xs i=>by
  rw[gK];congr 1;funext y;rw[QX,aA,aA];cases decide (x.shape=y.shape)<;>rfl) (fun x y=>by
  obtain⟨x0,x1⟩:=x;obtain⟨y0,y1⟩:=y;simp only[QX,Pf,aA];by_cases q0:x0=y0<;>by_cases q1:x1=y1<;>simp[q0,q1])
 have k2:=fun k=>Qv (g:=fun x:Node=>x) (f:=fun x y:Node=>bif x.parent != y.parent then some false else bif x.cP != y.cP then some false else(jx x.cond y.cond).bind fun r=>bif !r then some false else oB x.tokens y.tokens) (k:=k) (L:=gL a b k) h2 (fun _=>rfl) (fun x xs i=>by
  rw[gL];congr 1;funext y;rw[TD,aA,aA];cases(x.parent != y.parent)<;>cases(x.cP != y.cP)<;>cases decide (x.cond=y.cond)<;>rfl) (fun x y=>by
  obtain⟨x0,x1,x2,x3⟩:=x;obtain⟨y0,y1,y2,y3⟩:=y;simp only[TD,a4T,aA,bne,ez];by_cases q0:x0=y0<;>by_cases q1:x1=y1<;>by_cases q2:x2=y2<;>by_cases q3:x3=y3<;>simp[q0,q1,q2,q3])
 rw[k1,k2,map_id',map_id',map_id',map_id',Ra];simp only[h1,h2,CO,bQ,ah];cases decide (a.rules=b.rules)<;>cases decide (a.ends=b.ends)<;>cases decide (a.facts=b.facts)<;>cases decide (a.ay=b.ay)<;>cases decide (a.nodes=b.nodes)<;>rfl
end Go.Cx
namespace Go.Cx
open Go.RowKit Go.Proofs Tryz
def A5(s:Bytes):Option Nat:=if 1<=s.length/\s.length<=4 then(match Lib.decFrom 0 s with|some n=>if Lib.decDigits n=s then some n else none|none=>none)else none
def pI(s:Bytes):Int×Bool:=match A5 s with|some n=>((n:Int),true)|none=>(0,false)
theorem a0y:∀(u:Nat),∀b∈Lib.decDigits u,48<=b.toNat/\b.toNat<=57:=by
 intro u
 induction u using Nat.strongRecOn with
 |_ u ih=>
  have hb:∀v:Nat,v<10->48<=(UInt8.ofNat (48+v)).toNat/\(UInt8.ofNat (48+v)).toNat<=57:=by
   intro v hv;have:(UInt8.ofNat (48+v)).toNat=48+v:=by simp;omega
   omega
  intro b hm;rw[Lib.decDigits]at hm;split at hm
  ·rename_i h10;simp only[dw]at hm;subst hm;exact hb u h10
  ·rename_i h10;rcases ar.1 hm with hm|hm
   ·exact ih (u/10) (by omega) b hm
   ·simp only[dw]at hm;subst hm;exact hb (u%10) (by omega)
theorem a4t(a:Bytes)(k:Int->Option (Int×Bool))(ha:a.length<=4):∀(rest pre:Bytes) (acc:Nat),a=pre++rest->acc<10^pre.length->∀n,rest.length<n->
 ic a k n (acc:Int) (pre.length:Int)=(match Lib.decFrom acc rest with|some m=>k (m:Int)|none=>some (0,false)):=by
 intro rest
 induction rest with
 |nil=>
  intro pre acc h _ n hn;obtain⟨m,rfl⟩:∃m,n=m+1:=⟨n-1,by simp at hn;omega⟩
  have e1:decide ((pre.length:Int)<(a.length:Int))=false:=by simp[h]
  rw[ic,e1];rfl
 |cons x xs ih=>
  intro pre acc h hacc n hn;obtain⟨m,rfl⟩:∃m,n=m+1:=⟨n-1,by simp at hn;omega⟩
  have hl:a.length=pre.length+(xs.length+1):=by rw[h];simp
  have e1:decide ((pre.length:Int)<(a.length:Int))=true:=by rw[hl];simp;omega
  have e4:IntKind.i64.wrap ((pre.length:Int)+1)=((pre++[x]).length:Int):=by rw[KG (by omega)];simp
  have h10:acc<10000:=e9 hacc (vV (by omega) (show pre.length<=4 by omega));have hx:=x.toNat_lt;rw[ic,e1,aW,zQ h,aA,e4];by_cases c1:(x.toNat:Int)<48
  ·have:Lib.digitVal x=none:=by unfold Lib.digitVal;rw[bH (by omega)]
   simp only[Lib.decFrom,this];rw[bW c1,aW]
  ·by_cases c2:(x.toNat:Int)>57
   ·have:Lib.digitVal x=none:=by unfold Lib.digitVal;rw[bH (by omega)]
    simp only[Lib.decFrom,this];rw[bB c1,ah,bW c2,aW]
   ·have hd:Lib.digitVal x=some (x.toNat-48):=by unfold Lib.digitVal;rw[bP (by omega)]
    have e5:IntKind.i64.wrap ((IntKind.i64.wrap (10*(acc:Int)))+(IntKind.i64.wrap (IntKind.u8.wrap ((x.toNat:Int)-48))))=((acc*10+(x.toNat-48):Nat):Int):=by
     rw[gU (k:=.u8) (tM.u8.2 (by omega)),gU (n:=(10:Int)*(acc:Int)) (tM.i64.2 (by omega)),gU (n:=(x.toNat:Int)-48) (tM.i64.2 (by omega)),gU (tM.i64.2 (by omega))];omega
    simp only[Lib.decFrom,hd];rw[bB c1,ah,bB c2,ah,e5];refine ih (pre++[x]) _ (by simp[h]) ?_ m (by simp at hn;omega);rw[aX,fN,yN];omega
theorem Ti(s:Bytes):oX s=some (pI s):=by
 unfold oX;rw[NJ,aA];by_cases hl:1<=s.length/\s.length<=4
 ·have e1:(decide ((s.length:Int)>=1)&&decide ((s.length:Int)<=4))=true:=by simp;omega
  have t:=a4t s (fun z=>((pX z).bind fun I4=>(bif !((I4:Bytes)==s)then(some (0,false))else(some (z,true))))) hl.2 s [] 0 rfl (by simp) fuel (by unfold fuel;omega);rw[e1,bQ,ah];refine t.trans ?_;unfold pI A5;rw[bP hl];cases hd:Lib.decFrom 0 s with
  |none=>rfl
  |some m=>
   have hm:=Lib.decFrom_lt s 0 m hd;have h10:m<10000:=by
    have:=vV (n:=10) (by omega) hl.2;omega
   simp only;rw[aAP _ (tM.i64.2 (by omega)),aA];have e2:Lib.itoa (m:Int)=Lib.decDigits m:=by unfold Lib.itoa;rw[bH (by omega)];simp
   rw[e2];by_cases he:Lib.decDigits m=s
   ·rw[bP he,he];simp
   ·rw[bH he];have:(Lib.decDigits m==s)=false:=by simpa using he
    rw[this];rfl
 ·have e1:(decide ((s.length:Int)>=1)&&decide ((s.length:Int)<=4))=false:=by
   rw[F1,kX,kX];omega
  rw[e1];unfold pI A5;rw[bH hl];rfl
theorem TC(s:Bytes):mS s=some (pI s):=by
 unfold mS pI A5;by_cases hl:1<=s.length/\s.length<=4
 ·have e1:decide ((s.length:Int)<1)=false:=by simp;omega
  have e2:decide ((s.length:Int)>4)=false:=by simp;omega
  rw[bP hl,e1,ah,e2,ah];unfold Bv TG;rw[bP (by omega)];cases s with
  |nil=>simp at hl
  |cons b t=>
   have fin:∀(m:Nat),Lib.decFrom 0 (b::t)=some m->(bif decide ((m:Int)<0)then some ((0:Int),false)else bif decide ((m:Int)>9999)then some (0,false)else(ke (m:Int)).bind fun y8=>bif !((y8:Bytes)==(b::t))then some (0,false)else some ((m:Int),true))=
    some (match(if Lib.decDigits m=b::t then some m else none)with|some n=>((n:Int),true)|none=>(0,false)):=by
    intro m hd;have hm:=Lib.decFrom_lt (b::t) 0 m hd;have h10:m<10000:=by
     have:=vV (n:=10) (by omega) hl.2;omega
    have e3:decide ((m:Int)<0)=false:=by simp
    have e4:decide ((m:Int)>9999)=false:=by simp;omega
    have e5:Lib.itoa (m:Int)=Lib.decDigits m:=by unfold Lib.itoa;rw[bH (by omega)];simp
    rw[e3,ah,e4,ah,a7P,aA,e5];by_cases he:Lib.decDigits m=b::t
    ·rw[bP he,he];simp
    ·rw[bH he];have:(Lib.decDigits m==(b::t))=false:=by simpa using he
     rw[this];rfl
   have sign:∀(n:Int),b.toNat<48->(bif decide (n<0)then some ((0:Int),false)else bif decide (n>9999)then some (0,false)else(ke n).bind fun y8=>bif !((y8:Bytes)==(b::t))then some (0,false)else some (n,true))=some (0,false):=by
    intro n hb;by_cases hn:n<0
    ·rw[bW hn];rfl
    rw[bB hn,ah,a7P,aA];cases decide (n>9999)with
    |true=>rfl
    |false=>
     have e5:Lib.itoa n=Lib.decDigits n.toNat:=by unfold Lib.itoa;rw[bH hn]
     have:(Lib.itoa n==(b::t))=false:=by
      rw[e5,dF];intro h;have:=a0y n.toNat b (by rw[h];simp);omega
     rw[this];rfl
   simp only[Lib.atoi];by_cases hb:b=45
   ·subst hb;have hd:Lib.decFrom 0 ((45:UInt8)::t)=none:=by simp[Lib.decFrom,Lib.digitVal]
    rw[bP (by decide),hd];cases Lib.decNat t with
    |none=>rfl
    |some m=>exact sign _ (by decide)
   ·rw[bH (by simpa using hb)];by_cases Y9:b=43
    ·subst Y9;have hd:Lib.decFrom 0 ((43:UInt8)::t)=none:=by simp[Lib.decFrom,Lib.digitVal]
     rw[bP (by decide),hd];cases Lib.decNat t with
     |none=>rfl
     |some m=>exact sign (m:Int) (by decide)
    ·rw[bH (by simpa using Y9)];have hdn:Lib.decNat (b::t)=Lib.decFrom 0 (b::t):=by simp[Lib.decNat]
     rw[hdn];cases hd:Lib.decFrom 0 (b::t)with
     |none=>rfl
     |some m=>exact fin m hd
 ·rw[bH hl];by_cases h1:(s.length:Int)<1
  ·rw[bW h1];rfl
  ·have h2:(s.length:Int)>4:=by omega
   rw[bB h1,ah,bW h2];rfl
def yG(a b:Bytes):Int:=if Op.bytesLess a b=true then-1 else if a=b then 0 else 1
def KN(x y:Int):Int:=if x<y then-1 else if x>y then 1 else 0
def DI(a b:Bytes):Int:=match A5 a,A5 b with
 |some x,some y=>KN x y
 |some _,none=> -1
 |none,some _=>1
 |none,none=>yG a b
def vS{α:Type}(g:α->α->Int):List α->List α->Option Int
 |x::xs,y::ys=>if g x y≠0 then some (g x y)else vS g xs ys
 |_,_=>none
def cmpL{α:Type}(g:α->α->Int)(a b:List α):Int:=match vS g a b with|some z=>z|none=>KN a.length b.length
def tS(a b:aE):Int:=if a.rel≠b.rel then yG a.rel b.rel else cmpL DI a.args b.args
theorem Xx{a b:Bytes}(h:a≠b):yG a b≠0:=by
 unfold yG;split
 ·omega
 ·first|omega| (rw[bH h];omega)
theorem Rx(a:Bytes):yG a a=0:=by
 unfold yG;rw[xp];simp
theorem Xt:∀(a b:Bytes),Lib.compareBytes a b=yG a b
 | [],[]=>by simp[Lib.compareBytes,yG,Op.bytesLess]
 | [],_::_=>by simp[Lib.compareBytes,yG,Op.bytesLess]
 |_::_,[]=>by simp[Lib.compareBytes,yG,Op.bytesLess]
 |a::xs,b::ys=>by
  have ih:=Xt xs ys;simp only[Lib.compareBytes,yG,Op.bytesLess];by_cases h1:a<b
  ·simp[h1]
  ·by_cases h2:b<a
   ·have hne:a≠b:=fun e=>by subst e;exact h1 h2
    simp[h1,h2,hne]
   ·have e:a=b:=by
     rw[F5]at h1 h2;exact UInt8.toNat_inj.1 (by omega)
    subst e;rw[bH h1,bH h1,ih];simp[yG,h1]
theorem Pa{α:Type}{f:α->α->Option Int}{g:α->α->Int}{c:α->aR}{L:List α->Nat->Option Int}{k:Option Int}{b:List α}(uU:∀i,L [] i=k)
 (tK:∀x xs i,L (x::xs) i=bif decide (((i:Int):Int)<((b.map c).length:Int))then((mC b (i:Int)).bind fun y=>((f x y).bind fun z=>(bif (z:Int) != 0 then(some z)else(L xs (i+1)))))else k):
 ∀(l pre rest:List α),b=pre++rest->(∀x∈l,∀y∈rest,f x y=some (g x y))->L l pre.length=(match vS g l rest with|some z=>some z|none=>k):=by
 intro l
 induction l with
 |nil=>intro pre rest h _;rw[uU];cases rest<;>rfl
 |cons x xs ih=>
  intro pre rest h hf;rw[tK];cases rest with
  |nil=>
   have e1:decide ((pre.length:Int)<((b.map c).length:Int))=false:=by simp[h]
   rw[e1];rfl
  |cons y ys=>
   have e1:decide ((pre.length:Int)<((b.map c).length:Int))=true:=by simp[h];omega
   rw[e1,aW,zQ h,aA,hf x (by simp) y (by simp),aA];simp only[vS];have t:=ih (pre++[y]) ys (by simp[h]) (fun x' hx y' hy=>hf x' (by simp[hx]) y' (by simp[hy]));rw[aX,fN]at t;by_cases hz:g x y=0
   ·have e2:(g x y != 0)=false:=by simp[hz]
    rw[e2,ah,t,bH (by simp[hz])]
   ·have e2:(g x y != 0)=true:=by simp[hz]
    rw[e2,aW,bP hz]
theorem Pb(x y:Int):(bif decide (x<y)then some (-1:Int)else bif decide (x>y)then some 1 else some 0)=some (KN x y):=by
 unfold KN;by_cases h1:x<y
 ·simp[h1]
 ·by_cases h2:x>y
  ·simp[h1,h2]
  ·simp[h1,h2]
theorem a6E(a b:Bytes):tV a b=some (yG a b):=by
 unfold tV yG;cases h:Op.bytesLess a b with
 |true=>rfl
 |false=>
  by_cases e:a=b
  ·simp[e]
  ·have e':(a==b)=false:=by simpa using e
   simp[e,e']
theorem a6C(a b:Bytes):ja a b=some (DI a b):=by
 unfold ja DI;rw[Ti,Ti,aA,aA,a6E];unfold pI;cases A5 a with
 |none=>cases A5 b<;>rfl
 |some x=>
  cases A5 b with
  |none=>rfl
  |some y=>
   simp only[aW,bQ,ah];exact Pb _ _
theorem a1c(x y:Int):iU x y=some (KN x y):=by
 unfold iU;exact Pb x y
theorem a5c(a b:Bytes):rB a b=some (yG a b):=by
 unfold rB;show some (Lib.compareBytes a b)=_;rw[Xt]
theorem a9d(a b:Bytes):mD a b=some (DI a b):=by
 unfold mD DI;rw[TC,TC,aA,aA,a5c];unfold pI;cases A5 a with
 |none=>cases A5 b<;>rfl
 |some x=>
  cases A5 b with
  |none=>rfl
  |some y=>
   simp only[aW,a1c,aA]
theorem a6D(a b:aE):hG a b=some (tS a b):=by
 unfold hG tS;by_cases h:a.rel=b.rel
 ·have e:(a.rel==b.rel)=true:=by simpa using h
  rw[e,bQ,ah,bH (by simpa using h)];have t:=fun k=>Pa (f:=ja) (g:=DI) (c:=tx) (L:=jF a b k) (b:=b.args) (k:=k) (fun _=>rfl) (fun _ _ _=>rfl) a.args [] b.args rfl (fun x _ y _=>a6C x y)
  refine(t _).trans ?_;unfold cmpL;cases vS DI a.args b.args with
  |some z=>rfl
  |none=>simp only[aZ];exact Pb _ _
 ·have e:(a.rel==b.rel)=false:=by simpa using h
  rw[e,cg,aW,bP h,a6E];rfl
theorem a5d(a b:aE):gh a b=some (tS a b):=by
 unfold gh tS;rw[a5c,aA];by_cases h:a.rel=b.rel
 ·have e:(yG a.rel b.rel != 0)=false:=by rw[h,Rx];rfl
  rw[e,ah,bH (by simpa using h)];have t:=fun k=>Pa (f:=mD) (g:=DI) (c:=tx) (L:=j9 a b k) (b:=b.args) (k:=k) (fun _=>rfl) (fun _ _ _=>rfl) a.args [] b.args rfl (fun x _ y _=>a9d x y)
  refine(t _).trans ?_;unfold cmpL;cases vS DI a.args b.args with
  |some z=>rfl
  |none=>simp only[aZ,a1c,aA]
 ·have e:(yG a.rel b.rel != 0)=true:=by simpa using Xx h
  rw[e,aW,bP h]
theorem aAM(a b:aJ):nq a b=some (cmpL tS a.facts b.facts):=by
 unfold nq;have t:=fun k=>Pa (f:=hG) (g:=tS) (c:=aE.c) (L:=iO a b k) (b:=b.facts) (k:=k) (fun _=>rfl) (fun _ _ _=>rfl) a.facts [] b.facts rfl (fun x _ y _=>a6D x y)
 refine(t _).trans ?_;unfold cmpL;cases vS tS a.facts b.facts with
 |some z=>rfl
 |none=>simp only[aZ];exact Pb _ _
theorem a9e(a b:aJ):nk a b=some (cmpL tS a.facts b.facts):=by
 unfold nk o9;have t:=Pa (f:=gh) (g:=tS) (c:=aE.c) (L:=eV a.facts b.facts ((iU ((a.facts.map aE.c).length:Int) ((b.facts.map aE.c).length:Int)).bind fun RF=>(some RF))) (b:=b.facts) (k:=_) (fun _=>rfl) (fun _ _ _=>rfl) a.facts [] b.facts rfl (fun x _ y _=>a5d x y);rw[show eV a.facts b.facts _ a.facts 0=_ from t];unfold cmpL;cases vS tS a.facts b.facts with
 |some z=>rfl
 |none=>simp only[aZ,a1c,aA]
def chainB:Option aE->aQ->Bool
 |_,[]=>true
 |p,x::xs=>yB x&&(match p with|some q=>decide (tS q x<0)|none=>true)&&chainB (some x) xs
def pG(l:aQ):Bool:=chainB none l&&decide (l.length<=24)
theorem Rp{isF:aE->Option Bool}{cmp:aE->aE->Option Int}{a:aQ}{L:aQ->Nat->Option Bool}{k:Option Bool}(ha:a.length<=1099511627770)(hc:∀x y,cmp x y=some (tS x y))(uU:∀i,L [] i=k)
 (tK:∀x xs i,L (x::xs) i=((isF x).bind fun y=>(bif !(y)then(some false)else(bif decide (((i:Int):Int)>0)then((mC a (IntKind.i64.wrap ((i:Int)-1))).bind fun q=>((cmp q x).bind fun z=>(bif decide ((z:Int)>=0)then(some false)else(L xs (i+1)))))else(L xs (i+1)))))):
 ∀(l pre:aQ),a=pre++l->(∀x∈l,isF x=some (yB x))->L l pre.length=bif chainB pre.getLast? l then k else some false:=by
 intro l
 induction l with
 |nil=>intro pre _ _;rw[uU];rfl
 |cons x xs ih=>
  intro pre h hf;have hl:a.length=pre.length+(xs.length+1):=by rw[h];simp
  have t:=ih (pre++[x]) (by simp[h]) (fun y hy=>hf y (by simp[hy]));rw[aX,fN,nh]at t;rw[tK,hf x (by simp),aA,t];simp only[chainB];cases yB x with
  |false=>rfl
  |true=>
   rw[bQ,ah,fE];rcases yh pre with rfl|⟨p,z,hpz⟩
   ·simp
   ·rw[yg]at hpz;subst hpz;have e0:decide (((p++[z]).length:Int)>0)=true:=by simp<;>omega
    have e1:IntKind.i64.wrap (((p++[z]).length:Int)-1)=(p.length:Int):=by
     rw[gU (tM.i64.2 (by simp at hl⊢;omega))];simp
    have e2:mC a (p.length:Int)=some z:=zQ (xs:=x::xs) (by rw[h];simp);rw[e0,aW,e1,e2,aA,hc,aA,nh];by_cases hz:tS z x<0
    ·have e3:decide (tS z x>=0)=false:=by simp;omega
     rw[e3,ah];show _=bif (decide (tS z x<0)&&chainB (some x) xs)then k else some false
     rw[bW hz,fE]
    ·have e3:decide (tS z x>=0)=true:=by simp;omega
     rw[e3,aW];show _=bif (decide (tS z x<0)&&chainB (some x) xs)then k else some false
     rw[bB hz];rfl
theorem a6A(l:aQ)(h:jw aE.wt l<=1048576):qg l=some (pG l):=by
 unfold qg pG;have hl:=gV aE.wt l;have t:=Rp (isF:=rQ) (cmp:=hG) (a:=l) (L:=kK l (some (decide ((((l.map aE.c).length:Int):Int)<=24)))) (k:=_) (by omega) a6D (fun _=>rfl) (fun _ _ _=>rfl) l [] rfl (fun x hx=>a6G x (by have:=iP (w:=aE.wt) hx;omega));refine t.trans ?_;have e:decide (((l.map aE.c).length:Int)<=24)=decide (l.length<=24):=by rw[aZ];congr 1;rw[vW];omega
 rw[e];show(bif chainB none l then _ else _)=_;cases chainB none l<;>rfl
theorem a5b(l:aQ)(h:jw aE.wt l<=1048576):qW l=some (pG l):=by
 unfold qW pG;have hl:=gV aE.wt l;have t:=Rp (isF:=rI) (cmp:=gh) (a:=l) (L:=iQ l (some true)) (k:=_) (by omega) a5d (fun _=>rfl) (fun _ _ _=>rfl) l [] rfl (fun x hx=>a5e x (by have:=iP (w:=aE.wt) hx;omega));rw[show iQ l (some true) l 0=_ from t];by_cases h24:l.length<=24
 ·have e:decide (((l.map aE.c).length:Int)>24)=false:=by rw[aZ];simp;omega
  rw[e,ah,bW h24,uZ];show(bif chainB none l then _ else _)=_;cases chainB none l<;>rfl
 ·have e:decide (((l.map aE.c).length:Int)>24)=true:=by rw[aZ];simp;omega
  rw[e,aW,bB h24,yK]
end Go.Cx
namespace Go.Cx
open Go.RowKit Go.Proofs Tryz
def PB(b:aT):Prop:=b.length<=1048576/\∀x∈b,x.var.length<=1048576/\x.value.length<=1048576
theorem PB.nil:PB []:=⟨by simp,by simp⟩
def we:Option aS->aT->Bool
 |_,[]=>true
 |p,x::xs=>lH x.var&&(jj x.value&&((match p with|some q=>Op.bytesLess q.var x.var|none=>true)&&we (some x) xs))
def ol(b:aT):Bool:=we none b&&decide (b.length<=6)
theorem Nw{b:aT}(h:ol b=true):b.length<=6:=by
 unfold ol at h;simp only[aY,bI]at h;exact h.2
theorem UQ{isV isA:Bytes->Option Bool}{a:aT}{L:aT->Nat->Option Bool}{k:Option Bool}(ha:a.length<=1099511627770)(hV:∀x:Bytes,x.length<=1048576->isV x=some (lH x))(hA:∀x:Bytes,x.length<=1048576->isA x=some (jj x))(uU:∀i,L [] i=k)
 (tK:∀x xs i,L (x::xs) i=((isV x.var).bind fun y=>(bif !(y)then(some false)else((isA x.value).bind fun z=>(bif !(z)then(some false)else(bif decide (((i:Int):Int)>0)then((mC a (IntKind.i64.wrap ((i:Int)-1))).bind fun q=>(bif !(Op.bytesLess q.var x.var)then(some false)else(L xs (i+1))))else(L xs (i+1)))))))):
 ∀(l pre:aT),a=pre++l->(∀x∈l,x.var.length<=1048576/\x.value.length<=1048576)->L l pre.length=bif we pre.getLast? l then k else some false:=by
 intro l
 induction l with
 |nil=>intro pre _ _;rw[uU];rfl
 |cons x xs ih=>
  intro pre h hf;have hl:a.length=pre.length+(xs.length+1):=by rw[h];simp
  have t:=ih (pre++[x]) (by simp[h]) (fun y hy=>hf y (by simp[hy]));rw[aX,fN,nh]at t;rw[tK,hV _ (hf x (by simp)).1,aA,hA _ (hf x (by simp)).2,aA,t];simp only[we];cases lH x.var with
  |false=>rfl
  |true=>
   cases jj x.value with
   |false=>rfl
   |true=>
    simp only[bQ,ah,fE];rcases yh pre with rfl|⟨p,z,hpz⟩
    ·simp
    ·rw[yg]at hpz;subst hpz;have e0:decide (((p++[z]).length:Int)>0)=true:=by simp<;>omega
     have e1:IntKind.i64.wrap (((p++[z]).length:Int)-1)=(p.length:Int):=by
      rw[gU (tM.i64.2 (by simp at hl⊢;omega))];simp
     have e2:mC a (p.length:Int)=some z:=zQ (xs:=x::xs) (by rw[h];simp);rw[e0,aW,e1,e2,aA,nh];show _=bif (Op.bytesLess z.var x.var&&we (some x) xs)then k else some false
     cases Op.bytesLess z.var x.var<;>rfl
theorem YQ(b:aT)(h:PB b):kx b=some (ol b):=by
 unfold kx ol;have t:=fun k=>UQ (isV:=iF) (isA:=fL) (a:=b) (L:=jb b k) (k:=k) (by have:=h.1;omega) VM P4 (fun _=>rfl) (fun _ _ _=>rfl) b [] rfl h.2
 refine(t _).trans ?_;have e:decide (((b.map aS.c).length:Int)<=6)=decide (b.length<=6):=by rw[aZ];congr 1;rw[vW];omega
 rw[e];show(bif we none b then _ else _)=_;cases we none b<;>rfl
theorem YF(b:aT)(h:PB b):kf b=some (ol b):=by
 unfold kf ol;have t:=fun k=>UQ (isV:=lR) (isA:=fG) (a:=b) (L:=gi b k) (k:=k) (by have:=h.1;omega) ZK Oq (fun _=>rfl) (fun _ _ _=>rfl) b [] rfl h.2
 rw[show gi b (some true) b 0=_ from t _];by_cases h6:b.length<=6
 ·have e:decide (((b.map aS.c).length:Int)>6)=false:=by rw[aZ];simp;omega
  rw[e,ah,bW h6,uZ];show(bif we none b then _ else _)=_;cases we none b<;>rfl
 ·have e:decide (((b.map aS.c).length:Int)>6)=true:=by rw[aZ];simp;omega
  rw[e,aW,bB h6,yK]
def lJ(t:Bytes):aT->Option Bytes
 | []=>none
 |x::xs=>bif x.var==t then some x.value else lJ t xs
def BE(b:aT)(t:Bytes):Bytes×Bool:=bif jj t then(t,true)else bif lH t then(match lJ t b with|some v=>(v,true)|none=>([],false))else([],false)
theorem a8H(b:aT)(t:Bytes)(ht:t.length<=1048576):qD b t=some (BE b t):=by
 unfold qD BE;have key:∀(l:aT) (i:Nat),iG b t (some ([],false)) l i=some (bif lH t then(match lJ t l with|some v=>(v,true)|none=>([],false))else([],false)):=by
  intro l
  induction l with
  |nil=>intro i;rw[iG];cases lH t<;>rfl
  |cons x xs ih=>
   intro i;rw[iG,VM t ht,aA,ih];simp only[lJ];cases x.var==t<;>cases lH t<;>rfl
 rw[P4 t ht,aA,key];cases jj t<;>rfl
theorem a7a(b:aT)(t:Bytes)(ht:t.length<=1048576):pu b t=some (BE b t):=by
 unfold pu BE;have key:∀(l:aT) (i:Nat),lT b t (some ([],false)) l i=some (match lJ t l with|some v=>(v,true)|none=>([],false)):=by
  intro l
  induction l with
  |nil=>intro i;rfl
  |cons x xs ih=>
   intro i;rw[lT,ih];simp only[lJ];cases x.var==t<;>rfl
 rw[Oq t ht,aA,ZK t ht,aA,key];cases jj t<;>cases lH t<;>rfl
theorem XE(b:aT)(h:b.length<=1099511627776):rT b=some b:=by
 unfold rT;rw[VK h (by decide)];simp
theorem Wk(b:aT)(h:b.length<=1099511627776):jE b=some b:=by
 unfold jE;rw[VK h (by decide)];simp
def C4(v val:Bytes):aT->aT
 | []=>[⟨v,val⟩]
 |x::xs=>bif !(Op.bytesLess x.var v||x.var==v)then⟨v,val⟩::x::xs else x::C4 v val xs
theorem R3(v val:Bytes)(b:aT):(C4 v val b).length=b.length+1:=by
 induction b with
 |nil=>rfl
 |cons x xs ih=>simp only[C4];cases !(Op.bytesLess x.var v||x.var==v)<;>simp[ih]
theorem VO(v val:Bytes)(b:aT){x:aS}(h:x∈C4 v val b):x=⟨v,val⟩\/x∈b:=by
 induction b with
 |nil=>simp[C4]at h;exact .inl h
 |cons y ys ih=>
  simp only[C4]at h;cases hc: !(Op.bytesLess y.var v||y.var==v)with
  |true=>
   rw[hc,aW]at h;rcases bM.1 h with h|h
   ·exact .inl h
   ·exact .inr h
  |false=>
   rw[hc,ah]at h;rcases bM.1 h with h|h
   ·exact .inr (by simp[h])
   ·rcases ih h with h|h
    ·exact .inl h
    ·exact .inr (by simp[h])
theorem YT{γ:Type}{v val:Bytes}{L:aT->Nat->Bool->aT->Option γ}{k:Bool->aT->Option γ}{K:aT->Option γ}(hk1:∀w,k true w=K w)(hk2:∀w:aT,w.length<1099511627770->k false w=K (w++[⟨v,val⟩]))(uU:∀i d w,L [] i d w=k d w)
 (tK:∀x xs i d w,L (x::xs) i d w=(bif !(d)then(bif !(Op.bytesLess x.var v||(x.var:Bytes)==v)then(bif room ((w.map aS.c).length+([[D.str v,D.str val]]).length) 32 then(bif room (((w.map aS.c)++([[D.str v,D.str val]])).length+([[D.str x.var,D.str x.value]]).length) 32 then(L xs (i+1) true ((w++([(⟨v,val⟩:aS)]))++([x])))else none)else none)else(bif room ((w.map aS.c).length+([[D.str x.var,D.str x.value]]).length) 32 then(L xs (i+1) d (w++([x])))else none))else(bif room ((w.map aS.c).length+([[D.str x.var,D.str x.value]]).length) 32 then(L xs (i+1) d (w++([x])))else none))):
 ∀(l:aT) (i:Nat) (w:aT),w.length+l.length<1099511627760->L l i false w=K (w++C4 v val l):=by
 have c1:∀(l:aT) (i:Nat) (w:aT),w.length+l.length<1099511627765->L l i true w=K (w++l):=by
  intro l
  induction l with
  |nil=>intro i w _;rw[uU,hk1,cM]
  |cons x xs ih=>
   intro i w hw;simp only[aK]at hw;rw[tK,bQ,ah,ot (by omega) (by decide),aW,ih (i+1) (w++[x]) (by simp;omega)];simp
 intro l
 induction l with
 |nil=>intro i w hw;simp only[bK]at hw;rw[uU,hk2 _ (by omega)];rfl
 |cons x xs ih=>
  intro i w hw;simp only[aK]at hw;have r1:∀y:aR,room ((w.map aS.c).length+([y]).length) 32=true:=fun y=>ot (by omega) (by decide)
  have r2:room (((w.map aS.c)++([[D.str v,D.str val]])).length+([[D.str x.var,D.str x.value]]).length) 32=true:=Hz (by simp;omega) (by decide);have t1:=ih (i+1) (w++[x]) (by simp;omega);have t2:=c1 xs (i+1) ((w++[⟨v,val⟩])++[x]) (by simp;omega);rw[tK,cg,aW,r1,r1,r2];simp only[aW,C4];cases !(Op.bytesLess x.var v||x.var==v)with
  |true=>rw[aW,aW,t2];simp
  |false=>rw[ah,ah,t1];simp
theorem aAZ(b:aT)(v val:Bytes)(h:b.length<1099511627700):ya b v val=some (C4 v val b):=by
 unfold ya;exact YT (v:=v) (val:=val) (K:=fun w=>some w) (L:=mU b v val (fun(z:Bool) (q:aT)=>(bif !(z)then(bif room ((q.map aS.c).length+([[D.str v,D.str val]]).length) 32 then(some (q++([(⟨v,val⟩:aS)])))else none)else(some q)))) (fun w=>rfl) (fun w hw=>by show(bif !false then _ else _)=_;rw[ot (by omega) (by decide)];rfl) (fun _ _ _=>rfl) (fun _ _ _ _ _=>rfl) b 0 [] (by simp;omega)
def HX(b:aT)(v val:Bytes):aT×Bool:=bif ol b&&(lH v&&jj val)then(match lJ v b with|some o=>bif o==val then(b,true)else([],false)|none=>bif decide (b.length=6)then([],false)else(C4 v val b,true))else([],false)
theorem Xz{b:aT}{v val:Bytes}(h:PB b)(hv:v.length<=1048576)(hl:val.length<=1048576):PB (HX b v val).1:=by
 unfold HX;cases hb:ol b&&(lH v&&jj val)with
 |false=>exact PB.nil
 |true=>
  rw[aW];have h6:b.length<=6:=Nw (by simp only[aY]at hb;exact hb.1);cases lJ v b with
  |some o=>simp only;cases o==val<;>first|exact h|exact PB.nil
  |none=>
   simp only;cases decide (b.length=6)with
   |true=>exact PB.nil
   |false=>
    refine⟨by simp only[ah,R3];omega,fun x hx=>?_⟩;rcases VO _ _ _ hx with rfl|hx
    ·exact⟨hv,hl⟩
    ·exact h.2 x hx
theorem aDE(b:aT)(v val:Bytes)(h:PB b)(hv:v.length<=1048576)(hl:val.length<=1048576):ur b v val=some (HX b v val):=by
 unfold ur HX;have hlen:=h.1;rw[YQ b h,aA,VM v hv,aA,P4 val hl,aA,a8H b v hv,aA,XE b (by omega),aA,aAZ b v val (by omega),aA];have e6:((((b.map aS.c).length:Int):Int)==6)=decide (b.length=6):=by
  rw[aZ,bh];simp;omega
 rw[e6];cases hb:ol b with
 |false=>rfl
 |true=>
  cases hvv:lH v with
  |false=>rfl
  |true=>
   cases jj val with
   |false=>rfl
   |true=>
    have Ut:BE b v=(match lJ v b with|some o=>(o,true)|none=>([],false)):=by unfold BE;rw[BF hvv,hvv];rfl
    rw[Ut];simp only[bQ,ah,fE,uZ,aW];cases lJ v b with
    |some o=>simp only[aW];cases o==val<;>rfl
    |none=>simp only[ah];cases decide (b.length=6)<;>rfl
theorem aCs(b:aT)(v val:Bytes)(h:PB b)(hv:v.length<=1048576)(hl:val.length<=1048576):ud b v val=some (HX b v val):=by
 unfold ud HX;have hlen:=h.1;have t:=(YT (v:=v) (val:=val) (K:=fun w=>some ((w,true):aT×Bool)) (L:=kZ b v val (fun(z:Bool) (q:aT)=>(bif !(z)then(bif room ((q.map aS.c).length+([[D.str v,D.str val]]).length) 32 then(some (q++([(⟨v,val⟩:aS)]),true))else none)else(some (q,true))))) (fun w=>rfl) (fun w hw=>by show(bif !false then _ else _)=_;rw[ot (by omega) (by decide)];rfl) (fun _ _ _=>rfl) (fun _ _ _ _ _=>rfl) b 0 [] (by simp;omega))
 rw[YF b h,aA,ZK v hv,aA,Oq val hl,aA,a7a b v hv,aA,Wk b (by omega),aA,t];cases hb:ol b with
 |false=>rfl
 |true=>
  have h6:=Nw hb;have e6:decide ((((b.map aS.c).length:Int):Int)>=6)=decide (b.length=6):=by
   rw[aZ];congr 1;rw[vW];omega
  rw[e6];cases hvv:lH v with
  |false=>rfl
  |true=>
   cases jj val with
   |false=>rfl
   |true=>
    have Ut:BE b v=(match lJ v b with|some o=>(o,true)|none=>([],false)):=by unfold BE;rw[BF hvv,hvv];rfl
    rw[Ut];simp only[bQ,ah,fE,uZ,aW];cases lJ v b with
    |some o=>simp only[aW];cases o==val<;>rfl
    |none=>simp only[ah];cases decide (b.length=6)<;>rfl
def PR:aI->aI->aT->aT×Bool
 | [],_,w=>(w,true)
 |_::_,[],_=>([],false)
 |x::xs,y::ys,w=>bif jj x then(bif x==y then PR xs ys w else([],false))else(bif (HX w x y).2 then PR xs ys (HX w x y).1 else([],false))
def uW(p f:aE)(b:aT):aT×Bool:=bif ye p&&(yB f&&(ol b&&(p.rel==f.rel&&decide (p.args.length=f.args.length))))then PR p.args f.args b else([],false)
theorem TL:∀(l r:aI) (w:aT),PB w->(∀x∈l,x.length<=1048576)->(∀x∈r,x.length<=1048576)->PB (PR l r w).1
 | [],_,w,h,_,_=>h
 |_::_,[],_,_,_,_=>PB.nil
 |x::xs,y::ys,w,h,hl,hr=>by
  simp only[PR];have i1:=TL xs ys w h (fun z hz=>hl z (by simp[hz])) (fun z hz=>hr z (by simp[hz]));have i2:=TL xs ys (HX w x y).1 (Xz h (hl x (by simp)) (hr y (by simp))) (fun z hz=>hl z (by simp[hz])) (fun z hz=>hr z (by simp[hz]));cases jj x with
  |true=>cases x==y<;>first|exact i1|exact PB.nil
  |false=>cases(HX w x y).2<;>first|exact i2|exact PB.nil
theorem a4f{p f:aE}{b:aT}(hb:PB b)(hp:p.wt<=1048576)(hf:f.wt<=1048576):PB (uW p f b).1:=by
 unfold uW;cases ye p&&(yB f&&(ol b&&(p.rel==f.rel&&decide (p.args.length=f.args.length))))with
 |false=>exact PB.nil
 |true=>exact TL _ _ _ hb (fun x hx=>aE.v8 hp hx) (fun x hx=>aE.v8 hf hx)
theorem YJ{isA:Bytes->Option Bool}{ext:aT->Bytes->Bytes->Option (aT×Bool)}{fa:aI}{L:aI->Nat->aT->Option (aT×Bool)}(hA:∀x:Bytes,x.length<=1048576->isA x=some (jj x))(hE:∀w x y,PB w->x.length<=1048576->y.length<=1048576->ext w x y=some (HX w x y))(uU:∀i w,L [] i w=some (w,true))
 (tK:∀x xs i w,L (x::xs) i w=((isA x).bind fun y=>(bif y then((mC fa (i:Int)).bind fun z=>(bif !((x:Bytes)==z)then(some ([],false))else(L xs (i+1) w)))else((mC fa (i:Int)).bind fun z=>((ext w x z).bind fun q=>(bif !(q.2)then(some ([],false))else(L xs (i+1) q.1))))))):
 ∀(l pre rest:aI) (w:aT),fa=pre++rest->l.length=rest.length->(∀x∈l,x.length<=1048576)->(∀x∈rest,x.length<=1048576)->PB w->L l pre.length w=some (PR l rest w):=by
 intro l
 induction l with
 |nil=>intro pre rest w _ _ _ _ _;rw[uU];simp[PR]
 |cons x xs ih=>
  intro pre rest w h hl hx hr hw;cases rest with
  |nil=>simp at hl
  |cons y ys=>
   have t:=fun w' hw'=>ih (pre++[y]) ys w' (by simp[h]) (by simpa using hl) (fun z hz=>hx z (by simp[hz])) (fun z hz=>hr z (by simp[hz])) hw'
   simp only[aX,fN]at t;rw[tK,hA x (hx x (by simp)),aA,zQ h,aA,aA,hE w x y hw (hx x (by simp)) (hr y (by simp)),aA];simp only[PR];cases jj x with
   |true=>
    simp only[aW];cases x==y with
    |true=>simp only[bQ,ah,aW];exact t w hw
    |false=>rfl
   |false=>
    simp only[ah];cases hq:(HX w x y).2 with
    |true=>simp only[bQ,ah,aW];exact t _ (Xz hw (hx x (by simp)) (hr y (by simp)))
    |false=>rfl
theorem a1w(a b:aI):((((a.map tx).length:Int):Int) != ((b.map tx).length:Int))= !decide (a.length=b.length):=by
 rw[aZ,aZ];by_cases h:a.length=b.length
 ·simp[h]
 ·rw[bB h];simp;omega
theorem a84(p f:aE)(b:aT)(hp:p.wt<=1048576)(hf:f.wt<=1048576)(hb:PB b):jI p f b=some (uW p f b):=by
 unfold jI uW;have hlen:=hb.1;rw[a89 p hp,aA,a6G f hf,aA,YQ b hb,aA,XE b (by omega),aA,a1w];cases ye p with
 |false=>rfl
 |true=>
  cases yB f with
  |false=>rfl
  |true=>
   cases ol b with
   |false=>rfl
   |true=>
    cases p.rel==f.rel with
    |false=>rfl
    |true=>
     by_cases h:p.args.length=f.args.length
     ·rw[bW h];have t:=YJ (isA:=fL) (ext:=ur) (fa:=f.args) (L:=je p f (fun(q:aT)=>(some (q,true)))) P4 (fun w x y hw hx hy=>aDE w x y hw hx hy) (fun _ _=>rfl) (fun _ _ _ _=>rfl) p.args [] f.args b rfl h (fun x hx=>aE.v8 hp hx) (fun x hx=>aE.v8 hf hx) hb;exact t
     ·rw[bB h];rfl
theorem a7R(p f:aE)(b:aT)(hp:p.wt<=1048576)(hf:f.wt<=1048576)(hb:PB b):jC p f b=some (uW p f b):=by
 unfold jC uW;have hlen:=hb.1;rw[a7T p hp,aA,a5e f hf,aA,YF b hb,aA,Wk b (by omega),aA,a1w];cases ye p with
 |false=>rfl
 |true=>
  cases yB f with
  |false=>rfl
  |true=>
   cases ol b with
   |false=>rfl
   |true=>
    cases p.rel==f.rel with
    |false=>rfl
    |true=>
     by_cases h:p.args.length=f.args.length
     ·rw[bW h];have t:=YJ (isA:=fG) (ext:=ud) (fa:=f.args) (L:=jT p f (fun(q:aT)=>(some (q,true)))) Oq (fun w x y hw hx hy=>aCs w x y hw hx hy) (fun _ _=>rfl) (fun _ _ _ _=>rfl) p.args [] f.args b rfl h (fun x hx=>aE.v8 hp hx) (fun x hx=>aE.v8 hf hx) hb;exact t
     ·rw[bB h];rfl
def ltB(l r:Bytes):Bool:=match A5 l,A5 r with|some x,some y=>decide (x<y)|_,_=>false
def a1G(c:aN)(b:aT):Bool:=Nd c&&(ol b&&((BE b c.left).2&&((BE b c.right).2&&(bif decide (c.kind=3)then(BE b c.left).1==(BE b c.right).1 else bif decide (c.kind=4)then !((BE b c.left).1==(BE b c.right).1)else ltB (BE b c.left).1 (BE b c.right).1))))
theorem zT(a b:Int):(a==b)=decide (a=b):=by rw[bh];simp
theorem aAT(c:aN)(b:aT)(hc:c.wt<=1048576)(hb:PB b):tE c b=some (a1G c b):=by
 unfold tE a1G;rw[a2j c hc,aA,YQ b hb,aA,a8H b c.left (aN.CW hc),aA,a8H b c.right (aN.A8 hc),aA,zT,zT];cases Nd c with
 |false=>rfl
 |true=>
  cases ol b with
  |false=>rfl
  |true=>
   cases(BE b c.left).2 with
   |false=>rfl
   |true=>
    cases(BE b c.right).2 with
    |false=>rfl
    |true=>
     cases decide (c.kind=3)with
     |true=>rfl
     |false=>
      cases decide (c.kind=4)with
      |true=>rfl
      |false=>
       simp only[bQ,ah,fE];unfold uN ltB;rw[Ti,aA,aA,Ti,aA,aA,a6C,aA];unfold pI DI;cases A5 (BE b c.left).1 with
       |none=>rfl
       |some x=>
        cases A5 (BE b c.right).1 with
        |none=>rfl
        |some y=>
         simp only[aW]
         congr 1
         unfold KN;by_cases h:x<y
         ·have h1:(x:Int)<y:=by omega
          simp[h1,h]
         ·have h1:¬(x:Int)<y:=by omega
          by_cases h2:(x:Int)>y
          ·simp[h1,h,h2]
          ·simp[h1,h,h2]
theorem a9l(c:aN)(b:aT)(hc:c.wt<=1048576)(hb:PB b):sH c b=some (a1G c b):=by
 unfold sH a1G;rw[a9t c hc,aA,YF b hb,aA,a7a b c.left (aN.CW hc),aA,a7a b c.right (aN.A8 hc),aA,zT,zT];cases Nd c with
 |false=>rfl
 |true=>
  cases ol b with
  |false=>rfl
  |true=>
   cases(BE b c.left).2 with
   |false=>rfl
   |true=>
    cases(BE b c.right).2 with
    |false=>rfl
    |true=>
     cases decide (c.kind=3)with
     |true=>rfl
     |false=>
      cases decide (c.kind=4)with
      |true=>rfl
      |false=>
       simp only[bQ,ah,fE];unfold ltB;rw[TC,aA,TC,aA];unfold pI;cases A5 (BE b c.left).1 with
       |none=>rfl
       |some x=>
        cases A5 (BE b c.right).1 with
        |none=>rfl
        |some y=>
         simp only[aW]
         congr 1
         by_cases h:x<y
         ·simp[h]
         ·simp[h]
def uS(p:aE)(b:aT)(fs:aQ):aQ:=fs.filter fun f=>(uW p f b).2
def FS(fs:aQ):Prop:=fs.length<=1048576/\∀f∈fs,f.wt<=1048576
theorem Y3{γ:Type}{mf:aE->Option (aT×Bool)}{cp:aE->Option aE}{p:aE}{b:aT}{L:aQ->Nat->aQ->Option γ}{k:aQ->Option γ}(hm:∀f:aE,f.wt<=1048576->mf f=some (uW p f b))(hc:∀f:aE,f.wt<=1048576->cp f=some f)(uU:∀i w,L [] i w=k w)
 (tK:∀x xs i w,L (x::xs) i w=((mf x).bind fun y=>(bif y.2 then((cp x).bind fun z=>(bif room ((w.map aE.c).length+([[D.str z.rel,D.sl (z.args.map tx)]]).length) 40 then(L xs (i+1) (w++([z])))else none))else(L xs (i+1) w)))):
 ∀(l:aQ) (i:Nat) (w:aQ),(∀f∈l,f.wt<=1048576)->w.length+l.length<1099511627700->L l i w=k (w++uS p b l):=by
 intro l
 induction l with
 |nil=>intro i w _ _;rw[uU];simp[uS]
 |cons x xs ih=>
  intro i w hl hw;simp only[aK]at hw;have hx:=hl x (by simp);rw[tK,hm x hx,aA,hc x hx,aA,ot (by omega) (by decide),aW];have e:uS p b (x::xs)=bif (uW p x b).2 then x::uS p b xs else uS p b xs:=by
   unfold uS;rw[List.filter_cons];cases(uW p x b).2<;>rfl
  rw[e];cases(uW p x b).2 with
  |true=>rw[aW,aW,ih _ _ (fun f hf=>hl f (by simp[hf])) (by simp;omega)];simp
  |false=>rw[ah,ah,ih _ _ (fun f hf=>hl f (by simp[hf])) (by omega)]
theorem a82(p:aE)(b:aT)(fs:aQ)(hp:p.wt<=1048576)(hb:PB b)(hf:FS fs):gI p b fs=some (uS p b fs):=by
 unfold gI;have h1:=hf.1;refine(Y3 (mf:=fun f=>jI p f b) (cp:=ju) (p:=p) (b:=b) (L:=fm p b fs _) (k:=fun q=>some q) (fun f h=>a84 p f b hp h hb) (fun f h=>Tf f (by have:=aE.eF h;omega)) (fun _ _=>rfl) (fun _ _ _ _=>rfl) fs 0 [] hf.2 (by simp;omega)).trans ?_;simp
theorem a9h(p:aE)(b:aT)(fs:aQ)(hp:p.wt<=1048576)(hb:PB b)(hf:FS fs):iR p b fs=some (uS p b fs):=by
 unfold iR;have h1:=hf.1;refine(Y3 (mf:=fun f=>jC p f b) (cp:=j5) (p:=p) (b:=b) (L:=fe p b fs _) (k:=fun q=>some q) (fun f h=>a7R p f b hp h hb) (fun f h=>Wi f (by have:=aE.eF h;omega)) (fun _ _=>rfl) (fun _ _ _ _=>rfl) fs 0 [] hf.2 (by simp;omega)).trans ?_;simp
def OO(c:aN)(b:aT)(fs:aQ):Bool:=sD c&&(ol b&&(bif decide (c.kind=1)then decide (0<(uS c.pat b fs).length)else bif decide (c.kind=2)then decide ((uS c.pat b fs).length=0)else a1G c b))
theorem a1v(l:aQ):decide ((((l.map aE.c).length:Int):Int)>0)=decide (0<l.length):=by rw[aZ];congr 1;rw[vW];omega
theorem len_eq(l:aQ):((((l.map aE.c).length:Int):Int)==0)=decide (l.length=0):=by rw[aZ,zT];congr 1;rw[vW];omega
theorem aAS(c:aN)(b:aT)(fs:aQ)(hc:c.wt<=1048576)(hb:PB b)(hf:FS fs):tD c b fs=some (OO c b fs):=by
 unfold tD OO;rw[a2V c hc,aA,YQ b hb,aA,a82 c.pat b fs (aN.fC hc) hb hf,aA,aA,aAT c b hc hb,aA,zT,zT,a1v,len_eq];cases sD c with
 |false=>rfl
 |true=>
  cases ol b with
  |false=>rfl
  |true=>cases decide (c.kind=1)<;>cases decide (c.kind=2)<;>rfl
theorem a9k(c:aN)(b:aT)(fs:aQ)(hc:c.wt<=1048576)(hb:PB b)(hf:FS fs):sG c b fs=some (OO c b fs):=by
 unfold sG OO;rw[a1d c hc,aA,YF b hb,aA,a9h c.pat b fs (aN.fC hc) hb hf,aA,aA,a9l c b hc hb,aA,zT,zT,a1v,len_eq];cases sD c with
 |false=>rfl
 |true=>
  cases ol b with
  |false=>rfl
  |true=>cases decide (c.kind=1)<;>cases decide (c.kind=2)<;>rfl
end Go.Cx
namespace Go.Cx
open Go.RowKit Go.Proofs Tryz
def Fix(h:Bytes->Bytes):Prop:=∀y,jj y=true->h y=y
def Cov(a b:aE):Prop:=ye a=true/\ye b=true/\a.rel=b.rel/\∃h,b.args=a.args.map h/\Fix h
theorem Ed{t v val:Bytes}(h:v≠t):∀(w:aT),lJ t (C4 v val w)=lJ t w
 | []=>by
  have:(v==t)=false:=by simpa using h
  simp only[C4,lJ,this,ah]
 |x::xs=>by
  have hv:(v==t)=false:=by simpa using h
  rw[C4];cases !(Op.bytesLess x.var v||x.var==v)with
  |true=>rw[aW,lJ];simp only[hv,ah]
  |false=>rw[ah,lJ,lJ,Ed h xs]
theorem OL{v val:Bytes}:∀(w:aT),lJ v w=none->lJ v (C4 v val w)=some val
 | [],_=>by simp[C4,lJ]
 |x::xs,h=>by
  rw[lJ]at h;rw[C4];cases hx:x.var==v with
  |true=>rw[hx]at h;cases h
  |false=>
   rw[hx,ah]at h;cases !(Op.bytesLess x.var v||false)with
   |true=>rw[aW,lJ];simp
   |false=>rw[ah,lJ,hx,ah];exact OL xs h
theorem S6{t o:Bytes}:∀ {w:aT},lJ t w=some o->∃p∈w,p.var=t/\p.value=o
 |x::xs,h=>by
  rw[lJ]at h;cases hx:x.var==t with
  |true=>rw[hx,aW]at h;cases h;exact⟨x,by simp,by simpa using hx,rfl⟩
  |false=>
   rw[hx,ah]at h;obtain⟨p,hp,h1⟩:=S6 h;exact⟨p,by simp[hp],h1⟩
theorem zZ(p:Option aS)(x:aS)(xs:aT):we p (x::xs)=(lH x.var&&(jj x.value&&((match p with|some q=>Op.bytesLess q.var x.var|none=>true)&&we (some x) xs))):=by
 cases p<;>rfl
theorem Rr{v val:Bytes}(hv:lH v=true)(ha:jj val=true):∀(w:aT) (p:Option aS),we p w=true->lJ v w=none->(∀q,p=some q->Op.bytesLess q.var v=true)->we p (C4 v val w)=true
 | [],p,_,_,hp=>by
  simp only[C4,we,hv,ha,fE,uZ];cases p with
  |none=>rfl
  |some q=>exact hp q rfl
 |x::xs,p,hc,hf,hp=>by
  rw[zZ]at hc;simp only[aY]at hc;obtain⟨c1,c2,c3,c4⟩:=hc;rw[lJ]at hf;cases hx:x.var==v with
  |true=>rw[hx]at hf;cases hf
  |false=>
   rw[hx,ah]at hf;rw[C4,hx,ua];cases hl:Op.bytesLess x.var v with
   |true=>
    rw[bQ,ah,zZ];simp only[aY];exact⟨c1,c2,c3,Rr hv ha xs (some x) c4 hf (fun q hq=>by cases hq;exact hl)⟩
   |false=>
    have h2:Op.bytesLess v x.var=true:=by
     cases h3:Op.bytesLess v x.var with
     |true=>rfl
     |false=>
      have:=KM hl h3;rw[this]at hx;simp at hx
    rw[cg,aW,zZ];simp only[aY];refine⟨hv,ha,?_,?_⟩
    ·cases p with
     |none=>rfl
     |some q=>exact hp q rfl
    ·rw[zZ];simp only[aY];exact⟨c1,c2,h2,c4⟩
theorem a0q{v val:Bytes}{w:aT}(hv:lH v=true)(ha:jj val=true)(hb:ol w=true)(hf:lJ v w=none)(hl:w.length≠6):ol (C4 v val w)=true:=by
 have h6:=Nw hb;unfold ol at hb⊢;rw[aY]at hb⊢;exact⟨Rr hv ha w none hb.1 hf (fun q h=>by cases h),by rw[R3];simp;omega⟩
theorem Bz:∀(l r:aI) (w:aT),l.length=r.length->(∀p∈w,lH p.var=true)->(PR l r w).2=true->∃h,(∀v o,lJ v w=some o->h v=o)/\r=l.map h/\Fix h
 | [],[],w,_,hk,_=>by
  refine⟨fun y=>match lJ y w with|some o=>o|none=>y,fun v o ho=>by simp only[ho],rfl,fun y hy=>?_⟩;cases hf:lJ y w with
  |none=>simp only[hf]
  |some o=>
   obtain⟨p,hp,h1,_⟩:=S6 hf;have:=hk p hp;rw[h1]at this;rw[BF this]at hy;cases hy
 |x::xs,y::ys,w,hl,hk,hm=>by
  simp only[PR]at hm;cases hx:jj x with
  |true=>
   rw[hx,aW]at hm;cases hxy:x==y with
   |false=>rw[hxy]at hm;cases hm
   |true=>
    rw[hxy,aW]at hm;obtain⟨h,h1,h2,h3⟩:=Bz xs ys w (by simpa using hl) hk hm;have:x=y:=by simpa using hxy
    exact⟨h,h1,by rw[bG,h3 x hx,<-this,<-h2],h3⟩
  |false=>
   rw[hx,ah]at hm;cases he:(HX w x y).2 with
   |false=>rw[he]at hm;cases hm
   |true=>
    rw[he,aW]at hm;have key:lH x=true/\((lJ x w=some y/\(HX w x y).1=w)\/(lJ x w=none/\(HX w x y).1=C4 x y w)):=by
     unfold HX at he⊢;cases hc:ol w&&(lH x&&jj y)with
     |false=>rw[hc]at he;cases he
     |true=>
      rw[hc,aW]at he;simp only[aY]at hc;refine⟨hc.2.1,?_⟩;rw[aW];cases hf:lJ x w with
      |some o=>
       rw[hf]at he;simp only at he⊢;cases ho:o==y with
       |false=>rw[ho]at he;cases he
       |true=>exact .inl ⟨by rw[show o=y from by simpa using ho],rfl⟩
      |none=>
       rw[hf]at he;simp only at he⊢;cases hd:decide (w.length=6)with
       |true=>rw[hd]at he;cases he
       |false=>exact .inr ⟨by first|trivial|rfl,by first|rfl|trivial⟩
    obtain⟨hv,a92⟩:=key;rcases a92 with⟨hf,h1⟩|⟨hf,h1⟩
    ·rw[h1]at hm;obtain⟨h,k1,k2,k3⟩:=Bz xs ys w (by simpa using hl) hk hm;exact⟨h,k1,by rw[bG,k1 x y hf,<-k2],k3⟩
    ·rw[h1]at hm;obtain⟨h,k1,k2,k3⟩:=Bz xs ys (C4 x y w) (by simpa using hl) (fun p hp=>by
      rcases VO x y w hp with h|h
      ·rw[h];exact hv
      ·exact hk p h) hm
     refine⟨h,fun v o ho=>?_,by rw[bG,k1 x y (OL w hf),<-k2],k3⟩;refine k1 v o ?_;rw[Ed (fun e=>?_),ho];rw[e,ho]at hf;cases hf
 | [],_::_,_,hl,_,_=>by simp at hl
 |_::_,[],_,hl,_,_=>by simp at hl
theorem NQ(h:Bytes->Bytes)(a4B:Fix h):∀(l:aI) (w:aT),(∀x∈l,qI x=true)->(∀x∈l,jj (h x)=true)->ol w=true->w.length+l.length<=6->(∀v o,lJ v w=some o->h v=o)->(PR l (l.map h) w).2=true
 | [],_,_,_,_,_,_=>rfl
 |x::xs,w,ht,ha,hb,hl,hw=>by
  simp only[aK]at hl;rw[bG];simp only[PR];have ht':∀y∈xs,qI y=true:=fun y hy=>ht y (by simp[hy])
  have ha':∀y∈xs,jj (h y)=true:=fun y hy=>ha y (by simp[hy])
  cases hx:jj x with
  |true=>
   rw[aW,a4B x hx,cu,aW];exact NQ h a4B xs w ht' ha' hb (by omega) hw
  |false=>
   have hv:lH x=true:=by
    have:=ht x (by simp);unfold qI at this;rw[hx,pF]at this;exact this
   have hax:=ha x (by simp);rw[ah];unfold HX;rw[hb,hv,hax];simp only[fE,aW];cases hf:lJ x w with
   |some o=>
    have:=hw x o hf;simp only[this,cu,aW];exact NQ h a4B xs w ht' ha' hb (by omega) hw
   |none=>
    have h6:w.length≠6:=by omega
    simp only[bB h6,ah,aW];refine NQ h a4B xs (C4 x (h x) w) ht' ha' (a0q hv hax hb hf h6) (by rw[R3];omega) (fun v o ho=>?_);by_cases e:x=v
    ·subst e;rw[OL w hf]at ho;cases ho;rfl
    ·rw[Ed e]at ho;exact hw v o ho
theorem Qk{p f:aE}:(uW p f []).2=true↔ye p=true/\yB f=true/\p.rel=f.rel/\∃h,f.args=p.args.map h/\Fix h:=by
 unfold uW;constructor
 ·intro hm;cases hc:ye p&&(yB f&&(ol []&&(p.rel==f.rel&&decide (p.args.length=f.args.length))))with
  |false=>rw[hc]at hm;cases hm
  |true=>
   rw[hc,aW]at hm;simp only[aY,cj,bI]at hc;obtain⟨c1,c2,_,c4,c5⟩:=hc;obtain⟨h,_,h2,h3⟩:=Bz p.args f.args [] c5 (by simp) hm;exact⟨c1,c2,c4,h,h2,h3⟩
 ·rintro⟨c1,c2,c4,h,h2,h3⟩;have c5:p.args.length=f.args.length:=by rw[h2];simp
  rw[c1,c2,show ol []=true from rfl,c4,cu,bW c5];simp only[uZ,aW];have c1':=c1;unfold ye at c1';simp only[aY,bI]at c1';unfold yB at c2;simp only[aY]at c2;rw[h2];refine NQ h h3 p.args [] (fun x hx=>bA.1 c1'.1 x hx) (fun x hx=>?_) rfl (by simp;omega) (fun v o ho=>by simp[lJ]at ho);exact bA.1 c2.1 _ (by rw[h2];exact cH.2 ⟨x,hx,rfl⟩)
theorem a3z{p q f:aE}(hc:Cov p q)(hm:(uW q f []).2=true):(uW p f []).2=true:=by
 obtain⟨c1,c2,c3,h,h2,h3⟩:=hc;obtain⟨m1,m2,m3,k,k2,k3⟩:=Qk.1 hm;refine Qk.2 ⟨c1,m2,c3.trans m3,fun x=>k (h x),?_,fun y hy=>by show k (h y)=y;rw[h3 y hy,k3 y hy]⟩;rw[k2,h2,qj];rfl
theorem YY{p:aE}(h:ye p=true):∀t∈p.args,qI t=true:=by
 unfold ye at h;rw[aY]at h;exact fun t ht=>bA.1 h.1 t ht
end Go.Cx
namespace Go.Cx
open Go.RowKit Go.Proofs Tryz
theorem Dr(l:aQ)(h:l.length<=1048576)(hf:∀f∈l,f.args.length<=1048576):eS l=some l:=by
 unfold eS;refine(Fu (c:=aE.c) (b:=40) (f:=ju) (g:=fun x=>x) (L:=nQ l _) (k:=fun q=>some q) (by decide) (fun _ _=>rfl) (fun _ _ _ _=>rfl) l 0 [] (fun f h=>Tf f (by have:=hf f h;omega)) (by simp;omega)).trans ?_;simp
theorem zz(l:aQ)(h:l.length<=1048576)(hf:∀f∈l,f.args.length<=1048576):cv l=some l:=by
 unfold cv;refine(Fu (c:=aE.c) (b:=40) (f:=j5) (g:=fun x=>x) (L:=mH l _) (k:=fun q=>some q) (by decide) (fun _ _=>rfl) (fun _ _ _ _=>rfl) l 0 [] (fun f h=>Wi f (by have:=hf f h;omega)) (by simp;omega)).trans ?_;simp
def TK(n:Nat)(t:aJ):Prop:=t.facts.length<=n/\(∀f∈t.facts,f.wt<=1048576)/\PB t.bind
theorem TK.le{n m:Nat}{t:aJ}(h:TK n t)(hm:n<=m):TK m t:=⟨by have:=h.1;omega,h.2⟩
theorem a2W(t:aJ)(h:TK 1048576 t):rU t=some t:=by
 unfold rU;rw[Dr t.facts h.1 (fun f hf=>by have:=aE.eF (h.2.1 f hf);omega),aA,XE t.bind (by have:=h.2.2.1;omega),aA]
def ext1(c:aN)(t:aJ)(f:aE):af:=bif (uW c.pat f t.bind).2 then [⟨t.facts++[f],(uW c.pat f t.bind).1⟩]else []
def NU(c:aN)(fs:aQ)(t:aJ):af:=bif decide (c.kind=1)then fs.flatMap (ext1 c t)else bif OO c t.bind fs then [t]else []
def xh(fs:aQ)(l:af)(c:aN):af:=l.flatMap (NU c fs)
def yI(cs:aj)(fs:aQ):af:=cs.foldl (xh fs) [⟨[],[]⟩]
theorem a14(c:aN)(t:aJ)(f:aE):(ext1 c t f).length<=1:=by unfold ext1;cases(uW c.pat f t.bind).2<;>simp
theorem QH(c:aN)(t:aJ)(fs:aQ):(fs.flatMap (ext1 c t)).length<=fs.length:=by
 induction fs with
 |nil=>simp
 |cons f fs ih=>rw[dM,aX];have:=a14 c t f;simp only[aK];omega
theorem Qq(c:aN)(fs:aQ)(t:aJ):(NU c fs t).length<=fs.length+1:=by
 unfold NU;cases decide (c.kind=1)with
 |true=>have:=QH c t fs;rw[aW];omega
 |false=>cases OO c t.bind fs<;>simp
theorem Qr(fs:aQ)(l:af)(c:aN):(xh fs l c).length<=l.length*(fs.length+1):=by
 unfold xh
 induction l with
 |nil=>simp
 |cons t l ih=>rw[dM,aX,aK,M5];have:=Qq c fs t;omega
theorem a4l{c:aN}{fs:aQ}{t:aJ}{n:Nat}(h:TK n t)(hc:c.wt<=1048576)(hf:FS fs):∀u∈NU c fs t,TK (n+1) u:=by
 intro u hu;unfold NU at hu;cases hk:decide (c.kind=1)with
 |false=>
  rw[hk,ah]at hu;cases hh:OO c t.bind fs with
  |false=>rw[hh]at hu;cases hu
  |true=>
   rw[hh,aW,dw]at hu;subst hu;exact h.le (by omega)
 |true=>
  rw[hk,aW]at hu;obtain⟨f,hf1,hu⟩:=cC.1 hu;unfold ext1 at hu;cases hm:(uW c.pat f t.bind).2 with
  |false=>rw[hm]at hu;cases hu
  |true=>
   rw[hm,aW,dw]at hu;subst hu;refine⟨by have:=h.1;simp;omega,?_,a4f h.2.2 (aN.fC hc) (hf.2 f hf1)⟩;intro g hg;rcases ar.1 hg with hg|hg
   ·exact h.2.1 g hg
   ·rw[dw]at hg;rw[hg];exact hf.2 f hf1
theorem TS{c:aN}{fs:aQ}{l:af}{n:Nat}(h:∀t∈l,TK n t)(hc:c.wt<=1048576)(hf:FS fs):∀u∈xh fs l c,TK (n+1) u:=by
 intro u hu;obtain⟨t,ht,hu⟩:=cC.1 hu;exact a4l (h t ht) hc hf u hu
theorem Y0{γ:Type}{mf:aE->Option (aT×Bool)}{cps:Option aQ}{cp:aE->Option aE}{c:aN}{t:aJ}{L:aQ->Nat->af->Option γ}{k:af->Option γ}(hm:∀f:aE,f.wt<=1048576->mf f=some (uW c.pat f t.bind))(hcs:cps=some t.facts)(hc:∀f:aE,f.wt<=1048576->cp f=some f)(ht:t.facts.length<=1048576)(uU:∀i w,L [] i w=k w)
 (tK:∀x xs i w,L (x::xs) i w=((mf x).bind fun y=>(bif y.2 then(cps.bind fun q=>((cp x).bind fun z=>(bif room ((q.map aE.c).length+([[D.str z.rel,D.sl (z.args.map tx)]]).length) 40 then(bif room ((w.map aJ.c).length+([[D.sl ((q.map aE.c)++([[D.str z.rel,D.sl (z.args.map tx)]])),D.sl (y.1.map aS.c)]]).length) 48 then(L xs (i+1) (w++([(⟨q++([z]),y.1⟩:aJ)])))else none)else none)))else(L xs (i+1) w)))):
 ∀(l:aQ) (i:Nat) (w:af),(∀f∈l,f.wt<=1048576)->w.length+l.length<1099511627770->L l i w=k (w++l.flatMap (ext1 c t)):=by
 intro l
 induction l with
 |nil=>intro i w _ _;rw[uU];simp
 |cons x xs ih=>
  intro i w hl hw;simp only[aK]at hw;have hx:=hl x (by simp);rw[tK,hm x hx,aA,hcs,aA,hc x hx,aA,ot (by omega) (by decide),aW,ot (by omega) (by decide),aW,dM];rw[show ext1 c t x=bif (uW c.pat x t.bind).2 then [⟨t.facts++[x],(uW c.pat x t.bind).1⟩]else []from rfl];cases(uW c.pat x t.bind).2 with
  |true=>rw[aW,aW,ih _ _ (fun f hf=>hl f (by simp[hf])) (by simp;omega)];simp
  |false=>rw[ah,ah,ih _ _ (fun f hf=>hl f (by simp[hf])) (by omega)];simp
theorem YI(c:aN):((c.kind:Int) != 1)= !decide (c.kind=1):=by
 show(!((c.kind:Int)==1))=_;rw[zT]
theorem a88(l0:af)(c:aN)(fs:aQ)(k:af->Option af)(hc:c.wt<=1048576)(hf:FS fs):∀(l:af) (i:Nat) (w:af),(∀t∈l,TK 1048576 t)->w.length+l.length*(fs.length+1)<1099511627700->ga l0 c fs k l i w=k (w++xh fs l c):=by
 intro l;have h1:=hf.1
 induction l with
 |nil=>intro i w _ _;rw[ga];simp[xh]
 |cons t l ih=>
  intro i w hl hw;rw[aK,M5]at hw;have ht:=hl t (by simp);have e:xh fs (t::l) c=NU c fs t++xh fs l c:=by simp[xh]
  have hn:=Qq c fs t;have he:=QH c t fs;rw[ga,YI,aAS c t.bind fs hc ht.2.2 hf,aA,a2W t ht,aA,ot (by omega) (by decide),aW,wW (by omega),aW,e];rw[Y0 (mf:=fun f=>jI c.pat f t.bind) (cps:=eS t.facts) (cp:=ju) (c:=c) (t:=t) (L:=nU l0 c fs i t _) (k:=_) (fun f h=>a84 c.pat f t.bind (aN.fC hc) h ht.2.2) (Dr t.facts ht.1 (fun f hf=>by have:=aE.eF (ht.2.1 f hf);omega)) (fun f h=>Tf f (by have:=aE.eF h;omega)) ht.1 (fun _ _=>rfl) (fun _ _ _ _=>rfl) fs 0 w hf.2 (by omega)];unfold NU;cases decide (c.kind=1)with
  |true=>simp only[bQ,ah,aW];rw[ih _ _ (fun u hu=>hl u (by simp[hu])) (by rw[aX];omega)];simp
  |false=>
   simp only[cg,aW,ah];cases OO c t.bind fs with
   |true=>simp only[aW];rw[ih _ _ (fun u hu=>hl u (by simp[hu])) (by rw[aX];simp;omega)];simp
   |false=>simp only[ah];rw[ih _ _ (fun u hu=>hl u (by simp[hu])) (by omega)];simp
theorem a2b(l:af)(c:aN)(fs:aQ)(hc:c.wt<=1048576)(hf:FS fs)(hl:∀t∈l,TK 1048576 t)(hn:l.length*(fs.length+1)<1099511627700):rV l c fs=some (xh fs l c):=by
 unfold rV;rw[a88 l c fs _ hc hf l 0 [] hl (by simpa using hn)];simp
theorem X3:∀t∈[(⟨[],[]⟩:aJ)],TK 0 t:=by
 intro t ht;rw[dw]at ht;subst ht;exact⟨by simp,by simp,PB.nil⟩
theorem a2H{n:Nat}(h:n<=4):[(⟨[],[]⟩:aJ)].length*25^n<=390625:=by
 have:=vV (n:=25) (by decide) h;simp only[fN,ni];exact this
theorem a8G(c0:aj)(fs:aQ)(k:af->Option af)(hf:FS fs)(h24:fs.length<=24):∀(cs:aj) (i:Nat) (w:af) (n:Nat),(∀c∈cs,c.wt<=1048576)->(∀t∈w,TK n t)->n+cs.length<=1048576->w.length*25^cs.length<=390625->kR c0 fs k cs i w=k (cs.foldl (xh fs) w):=by
 intro cs
 induction cs with
 |nil=>intro i w n _ _ _ _;rfl
 |cons c cs ih=>
  intro i w n hc hw hn hl;simp only[aK]at hn;rw[aK,yN,E0 (25^cs.length) 25,<-Jv]at hl;have hp:1<=25^cs.length:=Nat.one_le_pow _ _ (by decide);have Ef:w.length*25<=390625:=cQ (DA _ hp) hl;have h25:w.length*(fs.length+1)<=w.length*25:=eG _ (by omega);rw[kR,a2b w c fs (hc c (by simp)) hf (fun t ht=>(hw t ht).le (by omega)) (by omega),aA];refine ih _ _ (n+1) (fun x hx=>hc x (by simp[hx])) (TS hw (hc c (by simp)) hf) (by omega) ?_;exact cQ (dR _ (cQ (Qr fs w c) h25)) hl
theorem aAd(cs:aj)(fs:aQ)(hc:∀c∈cs,c.wt<=1048576)(h4:cs.length<=4)(hf:FS fs)(h24:fs.length<=24):uQ cs fs=some (yI cs fs):=by
 unfold uQ;exact a8G cs fs _ hf h24 cs 0 _ 0 hc X3 (by omega) (a2H h4)
theorem a4U(c0:aj)(fs:aQ)(w0:af)(i1:Nat)(c:aN)(k:af->Option af)(hc:c.wt<=1048576)(hf:FS fs):∀(l:af) (i:Nat) (w:af),(∀t∈l,TK 1048576 t)->w.length+l.length*(fs.length+1)<1099511627700->fI c0 fs w0 i1 c k l i w=k (w++xh fs l c):=by
 intro l;have h1:=hf.1
 induction l with
 |nil=>intro i w _ _;rw[fI];simp[xh]
 |cons t l ih=>
  intro i w hl hw;rw[aK,M5]at hw;have ht:=hl t (by simp);have e:xh fs (t::l) c=NU c fs t++xh fs l c:=by simp[xh]
  have hn:=Qq c fs t;have he:=QH c t fs;rw[fI,YI,a9k c t.bind fs hc ht.2.2 hf,aA,ot (by omega) (by decide),aW,wW (by omega),aW,e];rw[Y0 (mf:=fun f=>jC c.pat f t.bind) (cps:=cv t.facts) (cp:=j5) (c:=c) (t:=t) (L:=kH c0 fs i w0 t i1 c _) (k:=_) (fun f h=>a7R c.pat f t.bind (aN.fC hc) h ht.2.2) (zz t.facts ht.1 (fun f hf=>by have:=aE.eF (ht.2.1 f hf);omega)) (fun f h=>Wi f (by have:=aE.eF h;omega)) ht.1 (fun _ _=>rfl) (fun _ _ _ _=>rfl) fs 0 w hf.2 (by omega)];unfold NU;cases decide (c.kind=1)with
  |true=>simp only[bQ,ah,aW];rw[ih _ _ (fun u hu=>hl u (by simp[hu])) (by rw[aX];omega)];simp
  |false=>
   simp only[cg,aW,ah];cases OO c t.bind fs with
   |true=>simp only[aW];rw[ih _ _ (fun u hu=>hl u (by simp[hu])) (by rw[aX];simp;omega)];simp
   |false=>simp only[ah];rw[ih _ _ (fun u hu=>hl u (by simp[hu])) (by omega)];simp
theorem a7Z(c0:aj)(fs:aQ)(k:af->Option af)(hf:FS fs)(h24:fs.length<=24):∀(cs:aj) (i:Nat) (w:af) (n:Nat),(∀c∈cs,c.wt<=1048576)->(∀t∈w,TK n t)->n+cs.length<=1048576->w.length*25^cs.length<=390625->kG c0 fs k cs i w=k (cs.foldl (xh fs) w):=by
 intro cs
 induction cs with
 |nil=>intro i w n _ _ _ _;rfl
 |cons c cs ih=>
  intro i w n hc hw hn hl;simp only[aK]at hn;rw[aK,yN,E0 (25^cs.length) 25,<-Jv]at hl;have hp:1<=25^cs.length:=Nat.one_le_pow _ _ (by decide);have Ef:w.length*25<=390625:=cQ (DA _ hp) hl;have h25:w.length*(fs.length+1)<=w.length*25:=eG _ (by omega);rw[kG,wW (by omega),aW,a4U c0 fs w i c _ (hc c (by simp)) hf w 0 [] (fun t ht=>(hw t ht).le (by omega)) (by simp only[bK];omega),cN];refine ih _ _ (n+1) (fun x hx=>hc x (by simp[hx])) (TS hw (hc c (by simp)) hf) (by omega) ?_;exact cQ (dR _ (cQ (Qr fs w c) h25)) hl
theorem a9u(cs:aj)(fs:aQ)(hc:∀c∈cs,c.wt<=1048576)(h4:cs.length<=4)(hf:FS fs)(h24:fs.length<=24):uA cs fs=some (yI cs fs):=by
 unfold uA;exact a7Z cs fs _ hf h24 cs 0 _ 0 hc X3 (by omega) (a2H h4)
theorem Zn{r:aO}(h:nv r=true):r.conds.length<=4:=by
 unfold nv at h;simp only[aY,bI]at h;omega
theorem QC{r:aO}:∀ {l:aj} {i:Nat},xX r l i=true->∀c∈l,sD c=true
 | [],_,_,c,hc=>by cases hc
 |x::xs,i,h,c,hc=>by
  simp only[xX,aY]at h;rcases bM.1 hc with rfl|hc
  ·exact h.1.1.1
  ·exact QC h.2 c hc
theorem P3{r:aO}(h:nv r=true):∀c∈r.conds,sD c=true:=by
 unfold nv at h;simp only[aY]at h;exact QC h.2.1
theorem xo{l:aQ}(h:pG l=true):l.length<=24:=by
 unfold pG at h;simp only[aY,bI]at h;exact h.2
theorem aAG{n:Nat}{a:Int}(h0:0<=a)(h1:a.toNat<=n):Cw n none (some (D.int .i64 a))=some (0,a.toNat):=by
 unfold Cw;simp only[bP (show 0<=a/\a.toNat<=n from⟨h0,h1⟩)]
theorem a34{cs:aj}{fs:aQ}(h4:cs.length<=4)(h24:fs.length<=24):(yI cs fs).length<=390625:=by
 have key:∀(cs:aj) (w:af),w.length*25^cs.length<=390625->(cs.foldl (xh fs) w).length<=390625:=by
  intro cs
  induction cs with
  |nil=>intro w h;simpa using h
  |cons c cs ih=>
   intro w h;rw[aK,yN,E0 (25^cs.length) 25,<-Jv]at h;refine ih _ ?_;have h25:w.length*(fs.length+1)<=w.length*25:=eG _ (by omega);exact cQ (dR _ (cQ (Qr fs w c) h25)) h
 exact key cs _ (a2H h4)
theorem UL{all:au}:∀ {l:au} {i:Nat},RQ all l i=true->∀r∈l,nv r=true
 | [],_,_,r,hr=>by cases hr
 |x::xs,i,h,r,hr=>by
  simp only[RQ,aY]at h;rcases bM.1 hr with rfl|hr
  ·exact h.1.1
  ·exact UL h.2 r hr
theorem tf{l:au}(h:zF l=true):∀r∈l,nv r=true:=by
 unfold zF at h;simp only[aY]at h;exact UL h.1
end Go.Cx
namespace Go.Cx
open Go.RowKit Go.Proofs Tryz
theorem SI:∀(a b:aI),a.Nodup->(∀x∈a,x∈b)->a.length<=b.length
 | [],b,_,_=>G2 _
 |x::xs,b,hn,hs=>by
  rw[eP]at hn;have h1:=SI xs (b.erase x) hn.2 fun y hy=>(List.mem_erase_of_ne (fun e=>hn.1 (by rw[<-e];exact hy))).2 (hs y (by simp[hy]))
  have h2:=rF (hs x (by simp));have h3:0<b.length:=Dz (hs x (by simp));simp only[aK];omega
theorem Zo{r:aO}(h:nv r=true):(fD (F6 r.conds)).length<=6:=by
 unfold nv at h;simp only[aY,bI]at h;omega
theorem Z0{c:aN}(hc:sD c=true)(hk:c.kind=1\/c.kind=2):ye c.pat=true/\c.left=[]/\c.right=[]:=by
 unfold sD at hc;have:(decide (c.kind=1)||decide (c.kind=2))=true:=by simpa using hk
 rw[this,aW]at hc;simp only[aY,cj]at hc;exact⟨hc.1,hc.2.1,hc.2.2⟩
theorem WA{c:aN}(hc:sD c=true)(h1:c.kind≠1)(h2:c.kind≠2):(decide (c.kind=3)||decide (c.kind=4)||decide (c.kind=5))=true/\I6 c.pat=true/\qI c.left=true/\qI c.right=true:=by
 unfold sD at hc;rw[bB h1,bB h2,ua,ah]at hc;cases h:(decide (c.kind=3)||decide (c.kind=4)||decide (c.kind=5))with
 |false=>rw[h]at hc;cases hc
 |true=>
  rw[h,aW]at hc;simp only[aY]at hc;exact⟨rfl,hc.1,hc.2.1,hc.2.2⟩
theorem UP{b:aT}(h:ol b=true):we none b=true:=by
 unfold ol at h;rw[aY]at h;exact h.1
theorem Rq:∀ {b:aT} {p:Option aS},we p b=true->∀x∈b,lH x.var=true/\jj x.value=true
 |y::ys,p,h,x,hx=>by
  rw[zZ]at h;simp only[aY]at h;rcases bM.1 hx with rfl|hx
  ·exact⟨h.1,h.2.1⟩
  ·exact Rq h.2.2.2 x hx
structure WB(U:List Bytes)(b:List aS):Prop where
 ok:ol b=true
 sub:∀p∈b,p.var∈U
theorem QB{r:aO}:∀ {pre rest:aj} {c:aN} {i:Nat},xX r (pre++c::rest) i=true->sD c=true/\(i+pre.length=0->c.kind=1)/\∀v∈qk c,PL r (i+pre.length) c v=true
 | [],rest,c,i,h=>by
  rw[cN]at h;unfold xX at h;rw[Rl]at h;simp only[aY,oU,nx,kX,bI]at h;refine⟨h.1.1.1,fun e=>?_,fun v hv=>bA.1 h.1.2 v hv⟩;rcases h.1.1.2 with q|q
  ·exact absurd (by simpa using e) q
  ·exact q
 |x::pre,rest,c,i,h=>by
  rw[dP]at h;unfold xX at h;rw[aY]at h;have:=QB h.2;rw[aK,show i+(pre.length+1)=i+1+pre.length by omega];exact this
theorem Tc{r:aO}(h:nv r=true):xX r r.conds 0=true:=by
 unfold nv at h;simp only[aY]at h;exact h.2.1
end Go.Cx
