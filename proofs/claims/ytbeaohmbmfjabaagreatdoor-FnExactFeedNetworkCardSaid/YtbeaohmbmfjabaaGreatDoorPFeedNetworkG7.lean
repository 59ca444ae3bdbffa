/- What functions of the program compute, and the walks that show it. No condition. -/
import Derived.Test.YtbeaohmbmfjabaaGreatDoorPFeedNetworkG6
import Derived.Test.YtbeaohmbmfjabaaGreatDoorPFeedNetworkG4
import Derived.Sort.Walk0
import Derived.Lib.ItoaNum
import Derived.Lib.ItoaLen
import Derived.Lib.Atoi
set_option linter.unusedVariables false
set_option linter.unusedSimpArgs false
namespace Go.Cx
open Go.RowKit Go.Proofs Tryz
set_option maxRecDepth 100000
variable{Γ:vn}{N:Nat->St->Prop}
def ko(aB:aT)(aV:Bytes)(cX:Bytes)(k1:Bool->aT->Option (aT×Bool)):aT->Nat->Bool->aT->Option (aT×Bool)
 | [],i1,AR,bC=>(k1 AR bC)
 |bD::bZ,i1,AR,bC=>(bif !(AR)then(bif !(Op.bytesLess bD.var aV||(bD.var:Bytes)==aV)then(bif room ((bC.map aS.c).length+([[D.str aV,D.str cX]]).length) 32 then(bif room (((bC.map aS.c)++([[D.str aV,D.str cX]])).length+([[D.str bD.var,D.str bD.value]]).length) 32 then(ko aB aV cX k1 bZ (i1+1) true ((bC++([(⟨aV,cX⟩:aS)]))++([bD])))else none)else none)else(bif room ((bC.map aS.c).length+([[D.str bD.var,D.str bD.value]]).length) 32 then(ko aB aV cX k1 bZ (i1+1) AR (bC++([bD])))else none))else(bif room ((bC.map aS.c).length+([[D.str bD.var,D.str bD.value]]).length) 32 then(ko aB aV cX k1 bZ (i1+1) AR (bC++([bD])))else none))
def vD(aB:aT)(aV:Bytes)(cX:Bytes):Option (aT×Bool):=((kq aB).bind fun y1=>(bif !(y1)then(some ([],false))else((lX aV).bind fun y4=>(bif !(y4)then(some ([],false))else((fP cX).bind fun y7=>(bif !(y7)then(some ([],false))else((qP aB aV).bind fun Oz=>(bif Oz.2 then(bif !((Oz.1:Bytes)==cX)then(some ([],false))else((jN aB).bind fun W7=>(some (W7,true))))else(bif decide ((((aB.map aS.c).length:Int):Int)>=6)then(some ([],false))else(ko aB aV cX (fun(W9:Bool) (bP:aT)=>(bif !(W9)then(bif room ((bP.map aS.c).length+([[D.str aV,D.str cX]]).length) 32 then(some (bP++([(⟨aV,cX⟩:aS)]),true))else none)else(some (bP,true)))) aB 0 false ([]:aT)))))))))))
def wj(aB:aT)(aV:Bytes)(cX:Bytes)(AR:Bool)(W1:List aR)(cS:Int):St:=⟨[(1,D.str aV),(2,D.str cX),(10,D.acc 0),(11,D.bool AR),(42,D.sl (aB.map aS.c)),(43,D.int .i64 ((aB.map aS.c).length:Int)),(44,D.int .i64 cS)],[Ob.row .uq 152 2 W1]⟩
theorem Ma(hΓ:Γ.nt=76){aB:aT}{aV:Bytes}{cX:Bytes}{r:aT×Bool}{k1:Bool->aT->Option (aT×Bool)}(cW:∀(W9:Bool) (bP:aT),k1 W9 bP=some r->Ax Γ N f127 (.q [[some (152,2)],[none]] (D.gN [D.fr 152 2 (r.1.map aS.c),D.bool r.2])) [1,1,1,1,1,1,1] ⟨[(1,D.str aV),(2,D.str cX),(10,D.acc 0),(11,D.bool W9)],[Ob.row .uq 152 2 (bP.map aS.c)]⟩)(hm1:aB.length<=maxLen):∀(rest:aT) (i1:Nat) (AR:Bool) (bC:aT),aB.drop i1=rest->ko aB aV cX k1 rest i1 AR bC=some r->Ar Γ N f127 (.q [[some (152,2)],[none]] (D.gN [D.fr 152 2 (r.1.map aS.c),D.bool r.2])) [1,1,1,1,1,1,0,1,0] (rest.length+1) (wj aB aV cX AR (bC.map aS.c) (i1:Int)):=by
 intro rest
 induction rest with
 |nil=>
  intro i1 AR bC aj h;rw[ko]at h;refine aN fun N1 bw bg=>?_
  exact((aU.ge aS.c aj).a [.hl 0 [1,2,10,11] [0]]).ex hΓ bw (cW AR bC h)
 |cons bD bZ ih1=>
  intro i1 AR bC aj h;rw[ko]at h;refine aN fun N1 bw bg=>?_
  have ja:=((aU.lt aS.c aj).l (ax aS.c 2 (dc aj) rfl))
  obtain⟨h58,h⟩|⟨h58,h⟩:=aL h
  ·have iY:=(ja.r 5 h58)
   obtain⟨h59,h⟩|⟨h59,h⟩:=aL h
   ·obtain⟨h60,h⟩:=bV h;obtain⟨h61,h⟩:=bV h;exact((((iY.b h59).w (cB h60)).w (cB h61)).a [.cn [1,2,10,11,42,43,44] [5]]).cs hΓ bg (wj aB aV cX true (((bC.map aS.c)++([[D.str aV,D.str cX]]))++([[D.str bD.var,D.str bD.value]])) (IntKind.i64.wrap ((i1:Int)+1))) (by first| (simp only[iS aj hm1,mA]<;>rfl)| (simp only[iS aj hm1,mA,aE.c,aS.c,aQ.c,Action.c,aO.c,aI.c,cr.c,aP.c,Node.c,aF.c,cv.c]<;>rfl)) (ih1 (i1+1) true ((bC++([(⟨aV,cX⟩:aS)]))++([bD])) (dn aj) h)
   ·obtain⟨h62,h⟩:=bV h;exact(((iY.b h59).w (cB h62)).a [.cn [1,2,10,11,42,43,44] [3]]).cs hΓ bg (wj aB aV cX AR ((bC.map aS.c)++([[D.str bD.var,D.str bD.value]])) (IntKind.i64.wrap ((i1:Int)+1))) (by first| (simp only[iS aj hm1,mA]<;>rfl)| (simp only[iS aj hm1,mA,aE.c,aS.c,aQ.c,Action.c,aO.c,aI.c,cr.c,aP.c,Node.c,aF.c,cv.c]<;>rfl)) (ih1 (i1+1) AR (bC++([bD])) (dn aj) h)
  ·obtain⟨h63,h⟩:=bV h;exact((((ja.r 5 h58).F 1).w (cB h63)).a [.cn [1,2,10,11,42,43,44] [3]]).cs hΓ bg (wj aB aV cX AR ((bC.map aS.c)++([[D.str bD.var,D.str bD.value]])) (IntKind.i64.wrap ((i1:Int)+1))) (by first| (simp only[iS aj hm1,mA]<;>rfl)| (simp only[iS aj hm1,mA,aE.c,aS.c,aQ.c,Action.c,aO.c,aI.c,cr.c,aP.c,Node.c,aF.c,cv.c]<;>rfl)) (ih1 (i1+1) AR (bC++([bD])) (dn aj) h)
theorem Km{aB:aT}{aV:Bytes}{cX:Bytes}{r:aT×Bool}(h:vD aB aV cX=some r):Good prog 127 [D.sl (aB.map aS.c),D.str aV,D.str cX] (D.gN [D.fr 152 2 (r.1.map aS.c),D.bool r.2]):=by
 refine gd func127 [[some (152,2)],[none]] 76 fun hr Γ hΓ=>?_
 rw[vD]at h;obtain⟨y1,h2,h⟩:=aD h;obtain⟨h3,h⟩|⟨h3,h⟩:=aL h
 ·cases h;exact(((aU.g (n7 h2)).r 4 h3).T 5).ret hΓ
 ·obtain⟨y4,h5,h⟩:=aD h;have tr:=((((aU.g (n7 h2)).r 2 h3).g (oL h5)).r 2 h3)
  obtain⟨h6,h⟩|⟨h6,h⟩:=aL h
  ·cases h;exact((tr.r 4 h6).T 1).ret hΓ
  ·obtain⟨y7,h8,h⟩:=aD h;have wX:=(((tr.r 2 h6).g (eY h8)).r 2 h6)
   obtain⟨h9,h⟩|⟨h9,h⟩:=aL h
   ·cases h;exact(wX.b h9).ret hΓ
   ·obtain⟨Oz,h11,h⟩:=aD h;have AV:=((wX.b h9).g (xE h11))
    obtain⟨h12,h⟩|⟨h12,h⟩:=aL h
    ·obtain⟨h13,h⟩|⟨h13,h⟩:=aL h
     ·cases h;exact((AV.b h12).b h13).ret hΓ
     ·obtain⟨W7,h15,h⟩:=aD h;cases h;exact(((AV.b h12).b h13).g (vX h15)).ret hΓ
    ·obtain⟨h16,h⟩|⟨h16,h⟩:=aL h
     ·cases h;exact((AV.b h12).b h16).ret hΓ
     ·refine(((AV.b h12).b h16).a [.Pk 10,.cn [1,2,10,11,42,43,44] [0]]).lp hΓ (Ma hΓ (fun W9 bP h=>?_) (by have:=(dW.sl (hr _ (aC (i:=0) rfl))).1;simpa using this) aB 0 false ([]:aT) rfl h);obtain⟨h64,h⟩|⟨h64,h⟩:=aL h
      ·obtain⟨h65,h⟩:=bV h;cases h;exact((aU.b h64).w (cB h65)).rts hΓ (D.gN [D.fr 152 2 ((bP.map aS.c)++([[D.str aV,D.str cX]])),D.bool true]) (by first|rfl| (simp only[mA]<;>rfl)| (simp only[cV,mA]<;>rfl))
      ·cases h;exact(aU.b h64).ret hΓ
def jb(aB:aE)(aV:aE)(k1:aT->Option (aT×Bool)):aJ->Nat->aT->Option (aT×Bool)
 | [],i1,bu=>(k1 bu)
 |bD::bZ,i1,bu=>((fP bD).bind fun y80=>(bif y80 then((mJ aV.args (i1:Int)).bind fun x83=>(bif !((bD:Bytes)==x83)then(some ([],false))else(jb aB aV k1 bZ (i1+1) bu)))else((mJ aV.args (i1:Int)).bind fun x86=>((vD bu bD x86).bind fun y88=>(bif !(y88.2)then(some ([],false))else(jb aB aV k1 bZ (i1+1) y88.1))))))
def jL(aB:aE)(aV:aE)(cX:aT):Option (aT×Bool):=((jJ aB).bind fun y1=>(bif !(y1)then(some ([],false))else((pZ aV).bind fun y4=>(bif !(y4)then(some ([],false))else((kq cX).bind fun y7=>(bif !(y7)then(some ([],false))else(bif !((aB.rel:Bytes)==aV.rel)then(some ([],false))else(bif (((aB.args.map tx).length:Int):Int) != ((aV.args.map tx).length:Int)then(some ([],false))else((jN cX).bind fun y12=>(jb aB aV (fun(bP:aT)=>(some (bP,true))) aB.args 0 y12))))))))))
def Ip(aB:aE)(aV:aE)(W0:List aR)(cS:Int):St:=⟨[(4,D.ptr 0 0),(8,D.acc 1),(45,D.sl (aB.args.map tx)),(46,D.int .i64 ((aB.args.map tx).length:Int)),(47,D.int .i64 cS)],[Ob.box (aE.c aV),Ob.row .uq 152 2 W0]⟩
theorem GY(hΓ:Γ.nt=77){aB:aE}{aV:aE}{r:aT×Bool}{k1:aT->Option (aT×Bool)}(cW:∀(bP:aT),k1 bP=some r->Ax Γ N f239 (.q [[some (152,2)],[none]] (D.gN [D.fr 152 2 (r.1.map aS.c),D.bool r.2])) [1,1,1,1] ⟨[(8,D.acc 0)],[Ob.row .uq 152 2 (bP.map aS.c)]⟩)(hm1:aB.args.length<=maxLen):∀(rest:aJ) (i1:Nat) (bu:aT),aB.args.drop i1=rest->jb aB aV k1 rest i1 bu=some r->Ar Γ N f239 (.q [[some (152,2)],[none]] (D.gN [D.fr 152 2 (r.1.map aS.c),D.bool r.2])) [1,1,1,0,1,0] (rest.length+1) (Ip aB aV (bu.map aS.c) (i1:Int)):=by
 intro rest
 induction rest with
 |nil=>
  intro i1 bu aj h;rw[jb]at h;refine aN fun N1 bw bg=>?_
  exact((aU.ge tx aj).a [.hl 0 [8] [1]]).ex hΓ bw (cW bu h)
 |cons bD bZ ih1=>
  intro i1 bu aj h;rw[jb]at h;refine aN fun N1 bw bg=>?_
  obtain⟨y80,h81,h⟩:=aD h;have iY:=(((aU.lt tx aj).l (ax tx 1 (dc aj) rfl)).g (eY h81))
  obtain⟨h82,h⟩|⟨h82,h⟩:=aL h
  ·obtain⟨x83,h84,h⟩:=aD h;have tr:=((iY.b h82).l (dh tx 1 h84 rfl))
   obtain⟨h85,h⟩|⟨h85,h⟩:=aL h
   ·cases h;exact(tr.b h85).ret hΓ
   ·exact((tr.b h85).a [.cn [4,8,45,46,47] [0,1]]).ct hΓ bg (iS aj hm1) (ih1 (i1+1) bu (dn aj) h)
  ·obtain⟨x86,h87,h⟩:=aD h;obtain⟨y88,h89,h⟩:=aD h;have wX:=(((iY.b h82).l (dh tx 1 h87 rfl)).g (Km h89))
   obtain⟨h90,h⟩|⟨h90,h⟩:=aL h
   ·cases h;exact(wX.b h90).ret hΓ
   ·exact((wX.b h90).a [.cn [4,8,45,46,47] [0,2]]).ct hΓ bg (iS aj hm1) (ih1 (i1+1) y88.1 (dn aj) h)
theorem qg{aB:aE}{aV:aE}{cX:aT}{r:aT×Bool}(h:jL aB aV cX=some r):Good prog 239 [D.agg (aE.c aB),D.agg (aE.c aV),D.sl (cX.map aS.c)] (D.gN [D.fr 152 2 (r.1.map aS.c),D.bool r.2]):=by
 refine gd func239 [[some (152,2)],[none]] 77 fun hr Γ hΓ=>?_
 rw[jL]at h;obtain⟨y1,h2,h⟩:=aD h;obtain⟨h3,h⟩|⟨h3,h⟩:=aL h
 ·cases h;exact(((aU.g (jy h2)).r 4 h3).T 19).ret hΓ
 ·obtain⟨y4,h5,h⟩:=aD h;have AV:=((((aU.g (jy h2)).r 2 h3).g (xw h5)).r 2 h3)
  obtain⟨h6,h⟩|⟨h6,h⟩:=aL h
  ·cases h;exact((AV.r 4 h6).T 15).ret hΓ
  ·obtain⟨y7,h8,h⟩:=aD h;have DC:=(((AV.r 2 h6).g (n7 h8)).r 2 h6)
   obtain⟨h9,h⟩|⟨h9,h⟩:=aL h
   ·cases h;exact((DC.r 6 h9).T 9).ret hΓ
   ·have IA:=(DC.r 6 h9)
    obtain⟨h10,h⟩|⟨h10,h⟩:=aL h
    ·cases h;exact((IA.r 8 h10).T 1).ret hΓ
    ·have yu:=(IA.r 8 h10)
     obtain⟨h11,h⟩|⟨h11,h⟩:=aL h
     ·cases h;exact(yu.b h11).ret hΓ
     ·obtain⟨y12,h13,h⟩:=aD h;refine(((yu.b h11).g (vX h13)).a [.cn [4,8,45,46,47] [1,2]]).lp hΓ (GY hΓ (fun bP h=>?_) (by have:=(dW.sl (dW.agg (hr _ (aC (i:=0) rfl)) (.sl (aB.args.map tx)) (by simp))).1;simpa using this) aB.args 0 y12 rfl h);cases h;exact aU.ret hΓ
def gD(aB:aE)(aV:aT)(cX:aK)(k1:aK->Option aK):aK->Nat->aK->Option aK
 | [],i1,bu=>(k1 bu)
 |bD::bZ,i1,bu=>((jL aB bD aV).bind fun y42=>(bif y42.2 then((eF bD).bind fun IL=>(bif room ((bu.map aE.c).length+([[D.str IL.rel,D.sl (IL.args.map tx)]]).length) 40 then(gD aB aV cX k1 bZ (i1+1) (bu++([IL])))else none))else(gD aB aV cX k1 bZ (i1+1) bu)))
def ic(aB:aE)(aV:aT)(cX:aK):Option aK:=(gD aB aV cX (fun(bP:aK)=>(some bP)) cX 0 ([]:aK))
def yK(aB:aE)(aV:aT)(cX:aK)(W0:List aR)(cS:Int):St:=⟨[(1,D.sl (aV.map aS.c)),(3,D.ptr 0 0),(7,D.acc 1),(12,D.sl (cX.map aE.c)),(13,D.int .i64 ((cX.map aE.c).length:Int)),(14,D.int .i64 cS)],[Ob.box (aE.c aB),Ob.row .uq 53 2 W0]⟩
theorem Cu(hΓ:Γ.nt=33){aB:aE}{aV:aT}{cX:aK}{r:aK}{k1:aK->Option aK}(cW:∀(bP:aK),k1 bP=some r->Ax Γ N f202 (.q [[some (53,2)]] (D.fr 53 2 (r.map aE.c))) [1,1,1] ⟨[(7,D.acc 0)],[Ob.row .uq 53 2 (bP.map aE.c)]⟩)(hm1:cX.length<=maxLen):∀(rest:aK) (i1:Nat) (bu:aK),cX.drop i1=rest->gD aB aV cX k1 rest i1 bu=some r->Ar Γ N f202 (.q [[some (53,2)]] (D.fr 53 2 (r.map aE.c))) [1,1,0,1,0] (rest.length+1) (yK aB aV cX (bu.map aE.c) (i1:Int)):=by
 intro rest
 induction rest with
 |nil=>
  intro i1 bu aj h;rw[gD]at h;refine aN fun N1 bw bg=>?_
  exact((aU.ge aE.c aj).a [.hl 0 [7] [1]]).ex hΓ bw (cW bu h)
 |cons bD bZ ih1=>
  intro i1 bu aj h;rw[gD]at h;refine aN fun N1 bw bg=>?_
  obtain⟨y42,h43,h⟩:=aD h;have dJ:=(((aU.lt aE.c aj).l (ax aE.c 2 (dc aj) rfl)).g (qg h43))
  obtain⟨h44,h⟩|⟨h44,h⟩:=aL h
  ·obtain⟨IL,h46,h⟩:=aD h;obtain⟨h47,h⟩:=bV h;exact((((dJ.b h44).g (gR h46)).w (cB h47)).a [.cn [1,3,7,12,13,14] [0,6]]).cs hΓ bg (yK aB aV cX ((bu.map aE.c)++([[D.str IL.rel,D.sl (IL.args.map tx)]])) (IntKind.i64.wrap ((i1:Int)+1))) (by first| (simp only[iS aj hm1,mA]<;>rfl)| (simp only[iS aj hm1,mA,aE.c,aS.c,aQ.c,Action.c,aO.c,aI.c,cr.c,aP.c,Node.c,aF.c,cv.c]<;>rfl)) (ih1 (i1+1) (bu++([IL])) (dn aj) h)
  ·exact((dJ.b h44).a [.cn [1,3,7,12,13,14] [0,1]]).ct hΓ bg (iS aj hm1) (ih1 (i1+1) bu (dn aj) h)
theorem mo{aB:aE}{aV:aT}{cX:aK}{r:aK}(h:ic aB aV cX=some r):Good prog 202 [D.agg (aE.c aB),D.sl (aV.map aS.c),D.sl (cX.map aE.c)] (D.fr 53 2 (r.map aE.c)):=by
 refine gd func202 [[some (53,2)]] 33 fun hr Γ hΓ=>?_
 rw[ic]at h;refine(aU.a [.Pk 7,.cn [1,3,7,12,13,14] [0,1]]).lp hΓ (Cu hΓ (fun bP h=>?_) (by have:=(dW.sl (hr _ (aC (i:=2) rfl))).1;simpa using this) cX 0 ([]:aK) rfl h);have h:=aG h;subst h;exact aU.ret hΓ
def nD(aB:aF)(k1:bI->Option aq):Nat->Int->bI->Option aq
 |0,_,_=>none
 |n1+1,b8,bu=>(bif room ((bu.map dL).length+([[D.int .i64 b8]]).length) 8 then((mJ aB.nodes b8).bind fun x19=>(bif decide ((x19.parent:Int)<1)then(k1 (bu++([b8])))else(bif decide ((x19.parent:Int)>=b8)then(k1 (bu++([b8])))else(nD aB k1 n1 x19.parent (bu++([b8]))))))else none)
def kr(aB:aF)(td:bI)(k2:aq->Option aq):Nat->Int->aq->Option aq
 |0,_,_=>none
 |n2+1,Po,RY=>(bif decide ((Po:Int)>=0)then((mJ td Po).bind fun x72=>((mJ aB.nodes x72).bind fun x74=>((fE x74.cond).bind fun y76=>(bif room ((RY.map aQ.c).length+([[D.int .i64 y76.kind,D.str y76.pat.rel,D.sl (y76.pat.args.map tx),D.str y76.left,D.str y76.right]]).length) 80 then(kr aB td k2 n2 (IntKind.i64.wrap (Po-1)) (RY++([y76])))else none))))else(k2 RY))
def xQ(aB:aF)(aV:Int):Option aq:=(bif decide ((aV:Int)<1)then(some ([]))else(bif decide ((aV:Int)>=((aB.nodes.map Node.c).length:Int))then(some ([]))else(nD aB (fun(td:bI)=>(kr aB td (fun(Pm:aq)=>(some Pm)) fuel (IntKind.i64.wrap (((td.map dL).length:Int)-1)) ([]:aq))) fuel aV ([]:bI))))
def DR(aB:aF)(b8:Int)(W1:List aR):St:=⟨[(1,D.int .i64 b8),(2,D.ptr 0 0),(5,D.acc 1)],[Ob.box (aF.c aB),Ob.row .uq 3 1 W1]⟩
theorem Mg(hΓ:Γ.nt=57){aB:aF}{r:aq}{k1:bI->Option aq}(cW:∀(td:bI),k1 td=some r->Ax Γ N f204 (.q [[some (115,5)]] (D.fr 115 5 (r.map aQ.c))) [1,1,1,1] ⟨[(2,D.ptr 0 0),(5,D.acc 1)],[Ob.box (aF.c aB),Ob.row .uq 3 1 (td.map dL)]⟩):∀(n1:Nat) (b8:Int) (bu:bI),nD aB k1 n1 b8 bu=some r->Ar Γ N f204 (.q [[some (115,5)]] (D.fr 115 5 (r.map aQ.c))) [1,1,1,0,0] n1 (DR aB b8 (bu.map dL)):=by
 intro n
 induction n with
 |zero=>intro b8 bu h;simp[nD]at h
 |succ n1 ih1=>
  intro b8 bu h;rw[nD]at h;refine aN fun N1 bw bg=>?_
  obtain⟨h18,h⟩:=bV h;obtain⟨x19,h20,h⟩:=aD h;have ja:=((aU.w (cB h18)).l (dh Node.c 8 h20 rfl))
  obtain⟨h21,h⟩|⟨h21,h⟩:=aL h
  ·exact(((ja.r 4 h21).T 1).a [.hl 0 [2,5] [0,3]]).exs hΓ bw ⟨[(2,D.ptr 0 0),(5,D.acc 1)],[Ob.box (aF.c aB),Ob.row .uq 3 1 ((bu.map dL)++([[D.int .i64 b8]]))]⟩ (by first| (simp only[mA]<;>rfl)| (simp only[mA,aE.c,aS.c,aQ.c,Action.c,aO.c,aI.c,cr.c,aP.c,Node.c,aF.c,cv.c]<;>rfl)) (cW (bu++([b8])) h)
  ·have iY:=(ja.r 4 h21)
   obtain⟨h22,h⟩|⟨h22,h⟩:=aL h
   ·exact((iY.b h22).a [.hl 0 [2,5] [0,3]]).exs hΓ bw ⟨[(2,D.ptr 0 0),(5,D.acc 1)],[Ob.box (aF.c aB),Ob.row .uq 3 1 ((bu.map dL)++([[D.int .i64 b8]]))]⟩ (by first| (simp only[mA]<;>rfl)| (simp only[mA,aE.c,aS.c,aQ.c,Action.c,aO.c,aI.c,cr.c,aP.c,Node.c,aF.c,cv.c]<;>rfl)) (cW (bu++([b8])) h)
   ·exact((iY.b h22).a [.cn [1,2,5] [0,3]]).cs hΓ bg (DR aB x19.parent ((bu.map dL)++([[D.int .i64 b8]]))) (by first| (simp only[mA]<;>rfl)| (simp only[mA,aE.c,aS.c,aQ.c,Action.c,aO.c,aI.c,cr.c,aP.c,Node.c,aF.c,cv.c]<;>rfl)) (ih1 x19.parent (bu++([b8])) h)
def DS(aB:aF)(td:bI)(Po:Int)(W1:List aR):St:=⟨[(2,D.ptr 0 0),(5,D.acc 1),(7,D.acc 2),(8,D.int .i64 Po)],[Ob.box (aF.c aB),Ob.row .uq 3 1 (td.map dL),Ob.row .uq 115 5 W1]⟩
theorem Mh(hΓ:Γ.nt=57){aB:aF}{td:bI}{r:aq}{k2:aq->Option aq}(Cf:∀(Pm:aq),k2 Pm=some r->Ax Γ N f204 (.q [[some (115,5)]] (D.fr 115 5 (r.map aQ.c))) [1,1,1,1,1,1] ⟨[(7,D.acc 0)],[Ob.row .uq 115 5 (Pm.map aQ.c)]⟩):∀(n2:Nat) (Po:Int) (RY:aq),kr aB td k2 n2 Po RY=some r->Ar Γ N f204 (.q [[some (115,5)]] (D.fr 115 5 (r.map aQ.c))) [1,1,1,1,1,0,1,0] n2 (DS aB td Po (RY.map aQ.c)):=by
 intro n
 induction n with
 |zero=>intro Po RY h;simp[kr]at h
 |succ n2 ih2=>
  intro Po RY h;rw[kr]at h;refine aN fun N2 xa ur=>?_
  obtain⟨h65,h⟩|⟨h65,h⟩:=aL h
  ·obtain⟨x72,h73,h⟩:=aD h;obtain⟨x74,h75,h⟩:=aD h;obtain⟨y76,h77,h⟩:=aD h;obtain⟨h78,h⟩:=bV h;exact((((((((aU.b h65).a [.n2 [0,1,2,3,4,5,6,7,8,9,10,11,12,13] [0,1,2,3,4,5,6,7,8,9,10,11,12,13] 11 12 [0] [3]]).i (yF dL 1 h73)).o 1 1 .uq (dF dL (u9 h73))).l (dh Node.c 8 h75 rfl)).g (kz h77)).w (cB h78)).a [.cn [2,5,7,8] [0,1,5]]).cs hΓ ur (DS aB td (IntKind.i64.wrap (Po-1)) ((RY.map aQ.c)++([[D.int .i64 y76.kind,D.str y76.pat.rel,D.sl (y76.pat.args.map tx),D.str y76.left,D.str y76.right]]))) (by first| (simp only[mA]<;>rfl)| (simp only[mA,aE.c,aS.c,aQ.c,Action.c,aO.c,aI.c,cr.c,aP.c,Node.c,aF.c,cv.c]<;>rfl)) (ih2 (IntKind.i64.wrap (Po-1)) (RY++([y76])) h)
  ·exact((aU.b h65).a [.hl 0 [7] [2]]).ex hΓ xa (Cf RY h)
theorem xy{aB:aF}{aV:Int}{r:aq}(h:xQ aB aV=some r):Good prog 204 [D.agg (aF.c aB),D.int .i64 aV] (D.fr 115 5 (r.map aQ.c)):=by
 refine gd func204 [[some (115,5)]] 57 fun hr Γ hΓ=>?_
 rw[xQ]at h;obtain⟨h1,h⟩|⟨h1,h⟩:=aL h
 ·cases h;exact((aU.r 6 h1).T 1).ret hΓ
 ·have tr:=(aU.r 6 h1)
  obtain⟨h2,h⟩|⟨h2,h⟩:=aL h
  ·cases h;exact(tr.b h2).ret hΓ
  ·refine((tr.b h2).a [.Pk 5,.cn [1,2,5] [0,1]]).lp hΓ (Mg hΓ (fun td h=>?_) fuel aV ([]:bI) h);refine(aU.a [.Pk 7,.cn [2,5,7,8] [0,1,2]]).lp hΓ (Mh hΓ (fun Pm h=>?_) fuel (IntKind.i64.wrap (((td.map dL).length:Int)-1)) ([]:aq) h);have h:=aG h;subst h;exact aU.ret hΓ
def xP(aB:aQ):Option Bool:=((rp aB).bind fun y1=>(bif y1 then(some (decide ((aB.kind:Int)>=3)))else(some false)))
theorem Bp{aB:aQ}{r:Bool}(h:xP aB=some r):Good prog 286 [D.agg (aQ.c aB)] (D.bool r):=by
 refine gd func286 [[none]] 10 fun hr Γ hΓ=>?_
 rw[xP]at h;obtain⟨y1,h2,h⟩:=aD h;obtain⟨h3,h⟩|⟨h3,h⟩:=aL h
 ·cases h;exact((aU.g (qO h2)).r 4 h3).ret hΓ
 ·have h:=aG h;subst h;exact((aU.g (qO h2)).r 4 h3).ret hΓ
def sY(aB:aQ)(aV:aT):Option Bool:=((xP aB).bind fun y1=>(bif !(y1)then(some false)else((kq aV).bind fun y4=>(bif !(y4)then(some false)else((qP aV aB.left).bind fun y7=>((qP aV aB.right).bind fun y9=>(bif !(y7.2)then(some false)else(bif !(y9.2)then(some false)else(bif (aB.kind:Int)==3 then(some ((y7.1:Bytes)==y9.1))else(bif (aB.kind:Int)==4 then(some (!((y7.1:Bytes)==y9.1)))else((mZ y7.1).bind fun Xz=>((mZ y9.1).bind fun Ka=>(bif Xz.2 then(bif Ka.2 then(some (decide ((Xz.1:Int)<Ka.1)))else(some false))else(some false))))))))))))))
theorem FO{aB:aQ}{aV:aT}{r:Bool}(h:sY aB aV=some r):Good prog 277 [D.agg (aQ.c aB),D.sl (aV.map aS.c)] (D.bool r):=by
 refine gd func277 [[none]] 70 fun hr Γ hΓ=>?_
 rw[sY]at h;obtain⟨y1,h2,h⟩:=aD h;obtain⟨h3,h⟩|⟨h3,h⟩:=aL h
 ·have h:=aG h;subst h;exact(((aU.g (Bp h2)).r 4 h3).T 1).ret hΓ
 ·obtain⟨y4,h5,h⟩:=aD h;have kC:=((((aU.g (Bp h2)).r 2 h3).g (n7 h5)).r 2 h3)
  obtain⟨h6,h⟩|⟨h6,h⟩:=aL h
  ·have h:=aG h;subst h;exact(kC.b h6).ret hΓ
  ·obtain⟨y7,h8,h⟩:=aD h;obtain⟨y9,h10,h⟩:=aD h;have dJ:=(((kC.b h6).g (xE h8)).g (xE h10))
   obtain⟨h11,h⟩|⟨h11,h⟩:=aL h
   ·have h:=aG h;subst h;exact((dJ.r 3 h11).T 1).ret hΓ
   ·have ja:=(dJ.r 3 h11)
    obtain⟨h12,h⟩|⟨h12,h⟩:=aL h
    ·have h:=aG h;subst h;exact(ja.b h12).ret hΓ
    ·obtain⟨h13,h⟩|⟨h13,h⟩:=aL h
     ·cases h;exact((ja.b h12).b h13).ret hΓ
     ·have iY:=((ja.b h12).b h13)
      obtain⟨h14,h⟩|⟨h14,h⟩:=aL h
      ·cases h;exact(iY.b h14).ret hΓ
      ·obtain⟨Xz,h16,h⟩:=aD h;obtain⟨Ka,h18,h⟩:=aD h;have tr:=(((iY.b h14).g (rH h16)).g (rH h18))
       obtain⟨h19,h⟩|⟨h19,h⟩:=aL h
       ·have wX:=(tr.r 2 h19)
        obtain⟨h20,h⟩|⟨h20,h⟩:=aL h
        ·cases h;exact(wX.r 4 h20).ret hΓ
        ·have h:=aG h;subst h;exact(wX.r 4 h20).ret hΓ
       ·have h:=aG h;subst h;exact((tr.r 2 h19).F 4).ret hΓ
def sX(aB:aQ)(aV:aT)(cX:aK):Option Bool:=((rp aB).bind fun y1=>(bif !(y1)then(some false)else((kq aV).bind fun y4=>(bif !(y4)then(some false)else(bif (aB.kind:Int)==1 then((ic aB.pat aV cX).bind fun y8=>(some (decide ((((y8.map aE.c).length:Int):Int)>0))))else(bif (aB.kind:Int)==2 then((ic aB.pat aV cX).bind fun MI=>(some ((((MI.map aE.c).length:Int):Int)==0)))else((sY aB aV).bind fun sJ=>(some sJ))))))))
theorem FN{aB:aQ}{aV:aT}{cX:aK}{r:Bool}(h:sX aB aV cX=some r):Good prog 259 [D.agg (aQ.c aB),D.sl (aV.map aS.c),D.sl (cX.map aE.c)] (D.bool r):=by
 refine gd func259 [[none]] 38 fun hr Γ hΓ=>?_
 rw[sX]at h;obtain⟨y1,h2,h⟩:=aD h;obtain⟨h3,h⟩|⟨h3,h⟩:=aL h
 ·have h:=aG h;subst h;exact(((aU.g (qO h2)).r 4 h3).T 1).ret hΓ
 ·obtain⟨y4,h5,h⟩:=aD h;have kC:=((((aU.g (qO h2)).r 2 h3).g (n7 h5)).r 2 h3)
  obtain⟨h6,h⟩|⟨h6,h⟩:=aL h
  ·have h:=aG h;subst h;exact(kC.b h6).ret hΓ
  ·obtain⟨h7,h⟩|⟨h7,h⟩:=aL h
   ·obtain⟨y8,h9,h⟩:=aD h;cases h;exact(((kC.b h6).b h7).g (mo h9)).ret hΓ
   ·have dJ:=((kC.b h6).b h7)
    obtain⟨h10,h⟩|⟨h10,h⟩:=aL h
    ·obtain⟨MI,h12,h⟩:=aD h;cases h;exact((dJ.b h10).g (mo h12)).ret hΓ
    ·obtain⟨sJ,h14,h⟩:=aD h;have h:=aG h;subst h;exact((dJ.b h10).g (FO h14)).ret hΓ
def kO(aB:aq)(aV:aK)(i2:Nat)(bC:ah)(lU:aI)(i1:Nat)(bD:aQ)(k3:ah->Option ah):aK->Nat->ah->Option ah
 | [],i3,Am=>(k3 Am)
 |WJ::UF,i3,Am=>((jL bD.pat WJ lU.bind).bind fun Sr=>(bif Sr.2 then((cy lU.facts).bind fun Ss=>((eF WJ).bind fun O5=>(bif room ((Ss.map aE.c).length+([[D.str O5.rel,D.sl (O5.args.map tx)]]).length) 40 then(bif room ((Am.map aI.c).length+([[D.sl ((Ss.map aE.c)++([[D.str O5.rel,D.sl (O5.args.map tx)]])),D.sl (Sr.1.map aS.c)]]).length) 48 then(kO aB aV i2 bC lU i1 bD k3 UF (i3+1) (Am++([(⟨Ss++([O5]),Sr.1⟩:aI)])))else none)else none)))else(kO aB aV i2 bC lU i1 bD k3 UF (i3+1) Am)))
def fR(aB:aq)(aV:aK)(bC:ah)(i1:Nat)(bD:aQ)(k2:ah->Option ah):ah->Nat->ah->Option ah
 | [],i2,kB=>(k2 kB)
 |lU::wg,i2,kB=>(bif (bD.kind:Int) != 1 then((sX bD lU.bind aV).bind fun a6h=>(bif a6h then(bif room ((kB.map aI.c).length+([[D.sl (lU.facts.map aE.c),D.sl (lU.bind.map aS.c)]]).length) 48 then(fR aB aV bC i1 bD k2 wg (i2+1) (kB++([lU])))else none)else(fR aB aV bC i1 bD k2 wg (i2+1) kB)))else(bif decide (aV.length<=maxLen)then(kO aB aV i2 bC lU i1 bD (fun(a03:ah)=>(fR aB aV bC i1 bD k2 wg (i2+1) a03)) aV 0 kB)else none))
def kN(aB:aq)(aV:aK)(k1:ah->Option ah):aq->Nat->ah->Option ah
 | [],i1,bC=>(k1 bC)
 |bD::bZ,i1,bC=>(bif decide (bC.length<=maxLen)then(fR aB aV bC i1 bD (fun(Pm:ah)=>(kN aB aV k1 bZ (i1+1) Pm)) bC 0 ([]:ah))else none)
def uS(aB:aq)(aV:aK):Option ah:=(kN aB aV (fun(bP:ah)=>(some bP)) aB 0 ([(⟨[],[]⟩:aI)]))
def Bu(aB:aq)(aV:aK)(W0:List aR)(cS:Int):St:=⟨[(1,D.sl (aV.map aE.c)),(5,D.acc 0),(17,D.sl (aB.map aQ.c)),(18,D.int .i64 ((aB.map aQ.c).length:Int)),(19,D.int .i64 cS)],[Ob.row .uq 124 2 W0]⟩
def Bv(aB:aq)(aV:aK)(bC:ah)(i1:Nat)(bD:aQ)(W0:List aR)(aDM:Nat)(cS:Int):St:=⟨[(1,D.sl (aV.map aE.c)),(7,D.ptr 0 0),(8,D.acc 1),(17,D.sl (aB.map aQ.c)),(18,D.int .i64 ((aB.map aQ.c).length:Int)),(19,D.int .i64 (i1:Int)),(23,D.acc 2),(24,D.int .i64 ((bC.map aI.c).length:Int)),(25,D.int .i64 cS)],[Ob.box [D.int .i64 bD.kind,D.str bD.pat.rel,D.sl (bD.pat.args.map tx),D.str bD.left,D.str bD.right],Ob.row .uq 124 2 W0,Ob.row (.mv aDM) 124 2 (bC.map aI.c)]⟩
def Bw(aB:aq)(aV:aK)(i2:Nat)(bC:ah)(lU:aI)(i1:Nat)(bD:aQ)(W0:List aR)(cS:Int):St:=⟨[(1,D.sl (aV.map aE.c)),(7,D.ptr 0 0),(8,D.acc 1),(10,D.ptr 2 0),(17,D.sl (aB.map aQ.c)),(18,D.int .i64 ((aB.map aQ.c).length:Int)),(19,D.int .i64 (i1:Int)),(23,D.acc 3),(24,D.int .i64 ((bC.map aI.c).length:Int)),(25,D.int .i64 (i2:Int)),(41,D.sl (aV.map aE.c)),(42,D.int .i64 ((aV.map aE.c).length:Int)),(43,D.int .i64 cS)],[Ob.box [D.int .i64 bD.kind,D.str bD.pat.rel,D.sl (bD.pat.args.map tx),D.str bD.left,D.str bD.right],Ob.row .uq 124 2 W0,Ob.box [D.acc 4,D.acc 5],Ob.row (.mv (i2+1)) 124 2 (bC.map aI.c),Ob.tk (lU.facts.map aE.c),Ob.tk (lU.bind.map aS.c)]⟩
theorem J5(hΓ:Γ.nt=74){aB:aq}{aV:aK}{i2:Nat}{bC:ah}{lU:aI}{i1:Nat}{bD:aQ}{r:ah}{k3:ah->Option ah}(hE3:∀(a03:ah),k3 a03=some r->Ax Γ N f203 (.q [[some (124,2)]] (D.fr 124 2 (r.map aI.c))) [1,1,0,1,0,0,1,1,0,0,1,1,0,1,0,0,1,1,1] ⟨[(1,D.sl (aV.map aE.c)),(7,D.ptr 0 0),(8,D.acc 1),(17,D.sl (aB.map aQ.c)),(18,D.int .i64 ((aB.map aQ.c).length:Int)),(19,D.int .i64 (i1:Int)),(23,D.acc 2),(24,D.int .i64 ((bC.map aI.c).length:Int)),(25,D.int .i64 (i2:Int))],[Ob.box [D.int .i64 bD.kind,D.str bD.pat.rel,D.sl (bD.pat.args.map tx),D.str bD.left,D.str bD.right],Ob.row .uq 124 2 (a03.map aI.c),Ob.row (.mv (i2+1)) 124 2 (bC.map aI.c)]⟩)(Ww:aV.length<=maxLen):∀(rest:aK) (i3:Nat) (Am:ah),aV.drop i3=rest->kO aB aV i2 bC lU i1 bD k3 rest i3 Am=some r->Ar Γ N f203 (.q [[some (124,2)]] (D.fr 124 2 (r.map aI.c))) [1,1,0,1,0,0,1,1,0,0,1,1,0,1,0,0,1,1,0,0,1,1,1,0] (rest.length+1) (Bw aB aV i2 bC lU i1 bD (Am.map aI.c) (i3:Int)):=by
 intro rest
 induction rest with
 |nil=>
  intro i3 Am BL h;rw[kO]at h;refine aN fun N3 YS TF=>?_
  exact((aU.ge aE.c BL).a [.hl 8 [1,7,8,17,18,19,23,24,25] [0,1,3]]).ex hΓ YS (hE3 Am h)
 |cons WJ UF ih3=>
  intro i3 Am BL h;rw[kO]at h;refine aN fun N3 YS TF=>?_
  obtain⟨Sr,h3513,h⟩:=aD h;have aAZ:=(((aU.lt aE.c BL).l (ax aE.c 2 (dc BL) rfl)).g (qg h3513))
  obtain⟨h3514,h⟩|⟨h3514,h⟩:=aL h
  ·obtain⟨Ss,h3521,h⟩:=aD h;obtain⟨O5,h3523,h⟩:=aD h;obtain⟨h3524,h⟩:=bV h;obtain⟨h3525,h⟩:=bV h;exact(((((((aAZ.b h3514).a [.n2 [0,1,2,3,4,5,8,6,7,9,10,11,12] [0,1,2,3,4,5,7,8,6,9,10,11,12] 7 11 [0,6] [7,8,9,10,11]]).g (eg h3521)).g (gR h3523)).w (cB h3524)).w (cB h3525)).a [.cn [1,7,8,10,17,18,19,23,24,25,41,42,43] [0,13,2,3,4,5]]).cs hΓ TF (Bw aB aV i2 bC lU i1 bD ((Am.map aI.c)++([[D.sl ((Ss.map aE.c)++([[D.str O5.rel,D.sl (O5.args.map tx)]])),D.sl (Sr.1.map aS.c)]])) (IntKind.i64.wrap ((i3:Int)+1))) (by first| (simp only[iS BL Ww,mA]<;>rfl)| (simp only[iS BL Ww,mA,aE.c,aS.c,aQ.c,Action.c,aO.c,aI.c,cr.c,aP.c,Node.c,aF.c,cv.c]<;>rfl)) (ih3 (i3+1) (Am++([(⟨Ss++([O5]),Sr.1⟩:aI)])) (dn BL) h)
  ·exact((aAZ.b h3514).a [.cn [1,7,8,10,17,18,19,23,24,25,41,42,43] [0,1,2,3,4,5]]).ct hΓ TF (iS BL Ww) (ih3 (i3+1) Am (dn BL) h)
theorem J4(hΓ:Γ.nt=74){aB:aq}{aV:aK}{bC:ah}{i1:Nat}{bD:aQ}{r:ah}{k2:ah->Option ah}(Cf:∀(Pm:ah),k2 Pm=some r->Ax Γ N f203 (.q [[some (124,2)]] (D.fr 124 2 (r.map aI.c))) [1,1,0,1,0,0,1,1,0,0,1,1,1] ⟨[(1,D.sl (aV.map aE.c)),(8,D.acc 0),(17,D.sl (aB.map aQ.c)),(18,D.int .i64 ((aB.map aQ.c).length:Int)),(19,D.int .i64 (i1:Int))],[Ob.row .uq 124 2 (Pm.map aI.c)]⟩)(hm2:bC.length<=maxLen):∀(rest:ah) (i2:Nat) (kB:ah),bC.drop i2=rest->fR aB aV bC i1 bD k2 rest i2 kB=some r->Ar Γ N f203 (.q [[some (124,2)]] (D.fr 124 2 (r.map aI.c))) [1,1,0,1,0,0,1,1,0,0,1,1,0,1,0] (rest.length+1) (Bv aB aV bC i1 bD (kB.map aI.c) i2 (i2:Int)):=by
 intro rest
 induction rest with
 |nil=>
  intro i2 kB hd2 h;rw[fR]at h;refine aN fun N2 xa ur=>?_
  exact((aU.ge aI.c hd2).a [.hl 5 [1,8,17,18,19] [1]]).ex hΓ xa (Cf kB h)
 |cons lU wg ih2=>
  intro i2 kB hd2 h;rw[fR]at h;refine aN fun N2 xa ur=>?_
  have aAa:=((((aU.lt aI.c hd2).i (pV aI.c 2 (dc hd2))).w (show i2=i2/\(bC.map aI.c)[i2]?=some [D.sl (lU.facts.map aE.c),D.sl (lU.bind.map aS.c)]/\U7 [D.sl (lU.facts.map aE.c),D.sl (lU.bind.map aS.c)]=true from⟨rfl,dF aI.c (dc hd2),rfl⟩)).a [.tk [D.sl (lU.facts.map aE.c),D.sl (lU.bind.map aS.c)]])
  obtain⟨h3426,h⟩|⟨h3426,h⟩:=aL h
  ·obtain⟨a6h,h3428,h⟩:=aD h;have aAb:=((aAa.b h3426).g (FN h3428))
   obtain⟨h3429,h⟩|⟨h3429,h⟩:=aL h
   ·obtain⟨h3430,h⟩:=bV h;exact(((aAb.b h3429).w (cB h3430)).a [.cn [1,7,8,17,18,19,23,24,25] [0,7,2]]).cs hΓ ur (Bv aB aV bC i1 bD ((kB.map aI.c)++([[D.sl (lU.facts.map aE.c),D.sl (lU.bind.map aS.c)]])) (i2+1) (IntKind.i64.wrap ((i2:Int)+1))) (by first| (simp only[iS hd2 hm2,mA]<;>rfl)| (simp only[iS hd2 hm2,mA,aE.c,aS.c,aQ.c,Action.c,aO.c,aI.c,cr.c,aP.c,Node.c,aF.c,cv.c]<;>rfl)) (ih2 (i2+1) (kB++([lU])) (dn hd2) h)
   ·exact((aAb.b h3429).a [.cn [1,7,8,17,18,19,23,24,25] [0,1,2]]).ct hΓ ur (iS hd2 hm2) (ih2 (i2+1) kB (dn hd2) h)
  ·obtain⟨h3526,h⟩:=bV h;refine((aAa.b h3426).a [.cn [1,7,8,10,17,18,19,23,24,25,41,42,43] [0,1,5,2,3,4]]).lp hΓ (J5 hΓ (fun a03 h=>?_) (bt h3526) aV 0 kB rfl h);exact(aU.a [.cn [1,7,8,17,18,19,23,24,25] [0,1,2]]).ct hΓ ur (iS hd2 hm2) (ih2 (i2+1) a03 (dn hd2) h)
theorem J3(hΓ:Γ.nt=74){aB:aq}{aV:aK}{r:ah}{k1:ah->Option ah}(cW:∀(bP:ah),k1 bP=some r->Ax Γ N f203 (.q [[some (124,2)]] (D.fr 124 2 (r.map aI.c))) [1,1,1] ⟨[(5,D.acc 0)],[Ob.row .uq 124 2 (bP.map aI.c)]⟩)(hm1:aB.length<=maxLen):∀(rest:aq) (i1:Nat) (bC:ah),aB.drop i1=rest->kN aB aV k1 rest i1 bC=some r->Ar Γ N f203 (.q [[some (124,2)]] (D.fr 124 2 (r.map aI.c))) [1,1,0,1,0] (rest.length+1) (Bu aB aV (bC.map aI.c) (i1:Int)):=by
 intro rest
 induction rest with
 |nil=>
  intro i1 bC aj h;rw[kN]at h;refine aN fun N1 bw bg=>?_
  exact((aU.ge aQ.c aj).a [.hl 0 [5] [0]]).ex hΓ bw (cW bC h)
 |cons bD bZ ih1=>
  intro i1 bC aj h;rw[kN]at h;refine aN fun N1 bw bg=>?_
  obtain⟨h3527,h⟩:=bV h;refine(((aU.lt aQ.c aj).l (ax aQ.c 5 (dc aj) rfl)).a [.Pk 8,.mz 0,.cn [1,7,8,17,18,19,23,24,25] [1,2,0]]).lp hΓ (J4 hΓ (fun Pm h=>?_) (bt h3527) bC 0 ([]:ah) rfl h);exact(aU.a [.cn [1,5,17,18,19] [0]]).ct hΓ bg (iS aj hm1) (ih1 (i1+1) Pm (dn aj) h)
theorem Gp{aB:aq}{aV:aK}{r:ah}(h:uS aB aV=some r):Good prog 203 [D.sl (aB.map aQ.c),D.sl (aV.map aE.c)] (D.fr 124 2 (r.map aI.c)):=by
 refine gd func203 [[some (124,2)]] 74 fun hr Γ hΓ=>?_
 rw[uS]at h;refine(aU.a [.cn [1,5,17,18,19] [0]]).XB hΓ (Bu aB aV ([[D.sl ([]),D.sl ([])]]) 0) (by first| (simp only[mA]<;>rfl)| (simp only[mA,aE.c,aS.c,aQ.c,Action.c,aO.c,aI.c,cr.c,aP.c,Node.c,aF.c,cv.c]<;>rfl)) (J3 hΓ (fun bP h=>?_) (by have:=(dW.sl (hr _ (aC (i:=0) rfl))).1;simpa using this) aB 0 ([(⟨[],[]⟩:aI)]) rfl h);have h:=aG h;subst h;exact aU.ret hΓ
def fA(aB:aF)(aV:aK)(y1:aK)(k1:b7->Option (aF×Unit)):b7->Nat->b7->Option (aF×Unit)
 | [],i1,eN=>(k1 eN)
 |bD::bZ,i1,eN=>(bif decide (i1<(eN.map aP.c).length)then(((eN)[i1]?).bind fun x35=>((ic x35.shape ([]) aV).bind fun Y1=>(bif decide (i1<(eN.map aP.c).length)then(fA aB aV y1 k1 bZ (i1+1) (eN.set i1 (⟨x35.shape,Y1⟩:aP)))else none)))else none)
def eL(aB:aF)(aV:aK)(y1:aK)(fU:b7)(k2:Option (aF×Unit)):ay->Nat->ay->Option (aF×Unit)
 | [],i2,pO=>(some ((⟨aB.rules,aB.ends,fU,pO,y1,aB.bz⟩:aF),()))
 |lU::wg,i2,pO=>((xQ (⟨aB.rules,aB.ends,fU,pO,y1,aB.bz⟩:aF) (i2:Int)).bind fun Pp=>((uS Pp aV).bind fun Xu=>(bif decide (i2<(pO.map Node.c).length)then(((pO)[i2]?).bind fun x107=>(eL aB aV y1 fU k2 wg (i2+1) (pO.set i2 (⟨x107.parent,x107.cond,x107.cP,Xu⟩:Node))))else none)))
def jH(aB:aF)(aV:aK):Option (aF×Unit):=((cy aV).bind fun y1=>(bif decide (aB.av.length<=maxLen)then(fA aB aV y1 (fun(fU:b7)=>(bif decide (aB.nodes.length<=maxLen)then(eL aB aV y1 fU none aB.nodes 0 aB.nodes)else none)) aB.av 0 aB.av)else none))
def x6(fM:Value)(aB:aF)(aV:aK)(y1:aK)(W0:List aR)(cS:Int):St:=⟨[(0,D.ptr 0 0),(1,D.sl (aV.map aE.c)),(15,D.int .i64 ((aB.av.map aP.c).length:Int)),(16,D.int .i64 cS)],[Ob.Ph [D.acc 1,D.acc 2,D.acc 3,D.acc 4,D.acc 5,D.int .i64 aB.bz] fM,Ob.row .uq 105 4 (aB.rules.map aO.c),Ob.row .uq 3 1 (aB.ends.map dL),Ob.row .uq 111 3 W0,Ob.row .uq 118 8 (aB.nodes.map Node.c),Ob.row .uq 53 2 (y1.map aE.c)]⟩
theorem Bn(hΓ:Γ.nt=60){fM:Value}{aB:aF}{aV:aK}{y1:aK}{r:aF×Unit}{k1:b7->Option (aF×Unit)}(cW:∀(fU:b7),k1 fU=some r->Ax Γ N f135 (.p [[some (105,4),some (3,1),some (111,3),some (118,8),some (53,2),none]] fM (cV r.1) (D.gN [])) [1,1] ⟨[(0,D.ptr 0 0),(1,D.sl (aV.map aE.c))],[Ob.Ph [D.acc 1,D.acc 2,D.acc 3,D.acc 4,D.acc 5,D.int .i64 aB.bz] fM,Ob.row .uq 105 4 (aB.rules.map aO.c),Ob.row .uq 3 1 (aB.ends.map dL),Ob.row .uq 111 3 (fU.map aP.c),Ob.row .uq 118 8 (aB.nodes.map Node.c),Ob.row .uq 53 2 (y1.map aE.c)]⟩)(hm1:aB.av.length<=maxLen):∀(rest:b7) (i1:Nat) (eN:b7),aB.av.drop i1=rest->fA aB aV y1 k1 rest i1 eN=some r->Ar Γ N f135 (.p [[some (105,4),some (3,1),some (111,3),some (118,8),some (53,2),none]] fM (cV r.1) (D.gN [])) [1,0,1,0] (rest.length+1) (x6 fM aB aV y1 (eN.map aP.c) (i1:Int)):=by
 intro rest
 induction rest with
 |nil=>
  intro i1 eN aj h;rw[fA]at h;refine aN fun N1 bw bg=>?_
  exact((aU.ge aP.c aj).a [.hl 0 [0,1] [0,1,2,3,4,5]]).ex hΓ bw (cW eN h)
 |cons bD bZ ih1=>
  intro i1 eN aj h;rw[fA]at h;refine aN fun N1 bw bg=>?_
  obtain⟨h34,h⟩:=bV h;obtain⟨x35,h36,h⟩:=aD h;obtain⟨Y1,h38,h⟩:=aD h;obtain⟨h39,h⟩:=bV h;exact(((((((((aU.lt aP.c aj).a [.n 15]).i (zY 3 h34)).o 3 2 .uq (dF aP.c h36)).a [.d (D.fr 53 2 (Y1.map aE.c))]).w (show Good prog 202 [D.agg (aE.c x35.shape),D.sl ([]),D.sl (aV.map aE.c)] (D.fr 53 2 (Y1.map aE.c))from by first| (simpa only[bN,bH,bX,dB,dA]using mo h38)|exact mo h38)).i (zY 3 h39)).w (show(eN.map aP.c)[i1]?=some [D.str x35.shape.rel,D.sl (x35.shape.args.map tx),D.sl (x35.facts.map aE.c)]from dF aP.c h36)).a [.row [D.str x35.shape.rel,D.sl (x35.shape.args.map tx),D.sl (x35.facts.map aE.c)],.cn [0,1,15,16] [0,1,2,3,4,5]]).cs hΓ bg (x6 fM aB aV y1 ((eN.map aP.c).set i1 [D.str x35.shape.rel,D.sl (x35.shape.args.map tx),D.sl (Y1.map aE.c)]) (IntKind.i64.wrap ((i1:Int)+1))) (by first| (simp only[iS aj hm1,mA]<;>rfl)| (simp only[iS aj hm1,mA,aE.c,aS.c,aQ.c,Action.c,aO.c,aI.c,cr.c,aP.c,Node.c,aF.c,cv.c]<;>rfl)) (ih1 (i1+1) (eN.set i1 (⟨x35.shape,Y1⟩:aP)) (dn aj) h)
def x7(fM:Value)(aB:aF)(aV:aK)(y1:aK)(fU:b7)(W0:List aR)(cS:Int):St:=⟨[(0,D.ptr 0 0),(1,D.sl (aV.map aE.c)),(41,D.int .i64 ((aB.nodes.map Node.c).length:Int)),(42,D.int .i64 cS)],[Ob.Ph [D.acc 1,D.acc 2,D.acc 3,D.acc 4,D.acc 5,D.int .i64 aB.bz] fM,Ob.row .uq 105 4 (aB.rules.map aO.c),Ob.row .uq 3 1 (aB.ends.map dL),Ob.row .uq 111 3 (fU.map aP.c),Ob.row .uq 118 8 W0,Ob.row .uq 53 2 (y1.map aE.c)]⟩
theorem Bo(hΓ:Γ.nt=60){fM:Value}{aB:aF}{aV:aK}{y1:aK}{fU:b7}{r:aF×Unit}{k2:Option (aF×Unit)}(Cf:k2=some r->Ax Γ N f135 (.p [[some (105,4),some (3,1),some (111,3),some (118,8),some (53,2),none]] fM (cV r.1) (D.gN [])) [1,1,1,0,0] ⟨[],[]⟩)(hm2:aB.nodes.length<=maxLen):∀(rest:ay) (i2:Nat) (pO:ay),aB.nodes.drop i2=rest->eL aB aV y1 fU k2 rest i2 pO=some r->Ar Γ N f135 (.p [[some (105,4),some (3,1),some (111,3),some (118,8),some (53,2),none]] fM (cV r.1) (D.gN [])) [1,1,1,0] (rest.length+1) (x7 fM aB aV y1 fU (pO.map Node.c) (i2:Int)):=by
 intro rest
 induction rest with
 |nil=>
  intro i2 pO hd2 h;rw[eL]at h;refine aN fun N2 xa ur=>?_
  cases h;exact(aU.ge Node.c hd2).ret hΓ
 |cons lU wg ih2=>
  intro i2 pO hd2 h;rw[eL]at h;refine aN fun N2 xa ur=>?_
  obtain⟨Pp,h103,h⟩:=aD h;obtain⟨Xu,h105,h⟩:=aD h;obtain⟨h106,h⟩:=bV h;obtain⟨x107,h108,h⟩:=aD h;exact(((((((aU.lt Node.c hd2).a [.n2 [0,1,2,3,4,5,6,7,8,9,10,11,12,13,14] [0,1,2,3,4,5,6,7,8,9,10,11,12,13,14] 11 12 [0,1,2,3,4] [],.d (D.fr 115 5 (Pp.map aQ.c))]).w (show Good prog 204 [D.agg [D.sl (aB.rules.map aO.c),D.sl (aB.ends.map dL),D.sl (fU.map aP.c),D.sl (pO.map Node.c),D.sl (y1.map aE.c),D.int .i64 aB.bz],D.int .i64 (i2:Int)] (D.fr 115 5 (Pp.map aQ.c))from by first| (simpa only[bN,bH,bX,dB,dA]using xy h103)|exact xy h103| (have t:=xy h103;simp only[bN,dB,dA,aF.c]at t;exact t))).g (Gp h105)).i (zY 8 h106)).w (show(pO.map Node.c)[i2]?=some [D.int .i64 x107.parent,D.int .i64 x107.cond.kind,D.str x107.cond.pat.rel,D.sl (x107.cond.pat.args.map tx),D.str x107.cond.left,D.str x107.cond.right,D.int .i64 x107.cP,D.sl (x107.tokens.map aI.c)]from dF Node.c h108)).a [.row [D.int .i64 x107.parent,D.int .i64 x107.cond.kind,D.str x107.cond.pat.rel,D.sl (x107.cond.pat.args.map tx),D.str x107.cond.left,D.str x107.cond.right,D.int .i64 x107.cP,D.sl (x107.tokens.map aI.c)],.cn [0,1,41,42] [0,1,2,3,4,5]]).cs hΓ ur (x7 fM aB aV y1 fU ((pO.map Node.c).set i2 [D.int .i64 x107.parent,D.int .i64 x107.cond.kind,D.str x107.cond.pat.rel,D.sl (x107.cond.pat.args.map tx),D.str x107.cond.left,D.str x107.cond.right,D.int .i64 x107.cP,D.sl (Xu.map aI.c)]) (IntKind.i64.wrap ((i2:Int)+1))) (by first| (simp only[iS hd2 hm2,mA]<;>rfl)| (simp only[iS hd2 hm2,mA,aE.c,aS.c,aQ.c,Action.c,aO.c,aI.c,cr.c,aP.c,Node.c,aF.c,cv.c]<;>rfl)) (ih2 (i2+1) (pO.set i2 (⟨x107.parent,x107.cond,x107.cP,Xu⟩:Node)) (dn hd2) h)
theorem vo{aB:aF}{aV:aK}{r:aF×Unit}(h:jH aB aV=some r):Be prog 135 (cV aB) (cV r.1) [D.sl (aV.map aE.c)] (D.gN []):=by
 refine gdP func135 [[some (105,4),some (3,1),some (111,3),some (118,8),some (53,2),none]] 60 [D.acc 1,D.acc 2,D.acc 3,D.acc 4,D.acc 5,D.int .i64 aB.bz] [D.sl (aV.map aE.c)] [Ob.row .uq 105 4 (aB.rules.map aO.c),Ob.row .uq 3 1 (aB.ends.map dL),Ob.row .uq 111 3 (aB.av.map aP.c),Ob.row .uq 118 8 (aB.nodes.map Node.c),Ob.row .uq 53 2 (aB.facts.map aE.c)] fun hr fM Γ hΓ=>?_
 rw[jH]at h;obtain⟨y1,h2,h⟩:=aD h;obtain⟨h110,h⟩:=bV h;refine((aU.g (eg h2)).a [.cn [0,1,15,16] [0,1,2,3,4,6]]).lp hΓ (Bn hΓ (fun fU h=>?_) (bt h110) aB.av 0 aB.av rfl h);obtain⟨h109,h⟩:=bV h;refine(aU.a [.cn [0,1,41,42] [0,1,2,3,4,5]]).lp hΓ (Bo hΓ (fun h=>?_) (bt h109) aB.nodes 0 aB.nodes rfl h);cases h
def yd(aB:ar)(aV:aK)(cX:Int):Option aF:=((sx aB).bind fun y1=>((jH y1 aV).bind fun y3=>(some (⟨y3.1.rules,y3.1.ends,y3.1.av,y3.1.nodes,y3.1.facts,cX⟩:aF))))
theorem Mj{aB:ar}{aV:aK}{cX:Int}{r:aF}(h:yd aB aV cX=some r):Good prog 78 [D.sl (aB.map aO.c),D.sl (aV.map aE.c),D.int .i64 cX] (D.agg [D.fr 105 4 (r.rules.map aO.c),D.fr 3 1 (r.ends.map dL),D.fr 111 3 (r.av.map aP.c),D.fr 118 8 (r.nodes.map Node.c),D.fr 53 2 (r.facts.map aE.c),D.int .i64 r.bz]):=by
 refine gd func78 [[some (105,4),some (3,1),some (111,3),some (118,8),some (53,2),none]] 15 fun hr Γ hΓ=>?_
 rw[yd]at h;obtain⟨y1,h2,h⟩:=aD h;obtain⟨y3,h4,h⟩:=aD h;cases h;exact((aU.g (Fa h2)).hp [[some (105,4),some (3,1),some (111,3),some (118,8),some (53,2),none],[none]] (vo h4)).ret hΓ
def kJ(aB:aO)(aV:aO)(k1:Option Bool):aq->Nat->Option Bool
 | [],i1=>(k1)
 |bD::bZ,i1=>((mJ aV.conds (i1:Int)).bind fun x33=>((kA bD x33).bind fun xg=>(bif !(xg)then(some false)else(kJ aB aV k1 bZ (i1+1)))))
def ig(aB:aO)(aV:aO)(k2:Option Bool):c8->Nat->Option Bool
 | [],i2=>(k2)
 |lU::wg,i2=>((mJ aV.cu (i2:Int)).bind fun x70=>(bif (lU.kind:Int) != x70.kind then(some false)else((fQ lU.pat x70.pat).bind fun MM=>(bif !(MM)then(some false)else(ig aB aV k2 wg (i2+1))))))
def qv(aB:aO)(aV:aO):Option Bool:=(bif !((aB.name:Bytes)==aV.name)then(some false)else(bif (aB.prio:Int) != aV.prio then(some false)else(bif (((aB.conds.map aQ.c).length:Int):Int) != ((aV.conds.map aQ.c).length:Int)then(some false)else(bif (((aB.cu.map Action.c).length:Int):Int) != ((aV.cu.map Action.c).length:Int)then(some false)else(kJ aB aV (ig aB aV (some true) aB.cu 0) aB.conds 0)))))
def Kq(aB:aO)(aV:aO)(cS:Int):St:=⟨[(2,D.ptr 0 0),(3,D.ptr 1 0),(39,D.int .i64 ((aB.conds.map aQ.c).length:Int)),(40,D.int .i64 cS)],[Ob.box (aO.c aB),Ob.box (aO.c aV)]⟩
theorem Ir(hΓ:Γ.nt=92){aB:aO}{aV:aO}{r:Bool}{k1:Option Bool}(cW:k1=some r->Ax Γ N f230 (.q [[none]] (D.bool r)) [1,1,1] ⟨[(2,D.ptr 0 0),(3,D.ptr 1 0)],[Ob.box (aO.c aB),Ob.box (aO.c aV)]⟩)(hm1:aB.conds.length<=maxLen):∀(rest:aq) (i1:Nat),aB.conds.drop i1=rest->kJ aB aV k1 rest i1=some r->Ar Γ N f230 (.q [[none]] (D.bool r)) [1,1,0,1,0] (rest.length+1) (Kq aB aV (i1:Int)):=by
 intro rest
 induction rest with
 |nil=>
  intro i1 aj h;rw[kJ]at h;refine aN fun N1 bw bg=>?_
  exact((aU.ge aQ.c aj).a [.hl 0 [2,3] [0,1]]).ex hΓ bw (cW h)
 |cons bD bZ ih1=>
  intro i1 aj h;rw[kJ]at h;refine aN fun N1 bw bg=>?_
  obtain⟨x33,h34,h⟩:=aD h;obtain⟨xg,h36,h⟩:=aD h;have iY:=(((((aU.lt aQ.c aj).a [.n 10]).l (ax aQ.c 5 (dc aj) rfl)).l (dh aQ.c 5 h34 rfl)).g (wD h36))
  obtain⟨h37,h⟩|⟨h37,h⟩:=aL h
  ·have h:=aG h;subst h;exact(iY.b h37).ret hΓ
  ·exact((iY.b h37).a [.cn [2,3,39,40] [0,1]]).ct hΓ bg (iS aj hm1) (ih1 (i1+1) (dn aj) h)
def Kr(aB:aO)(aV:aO)(cS:Int):St:=⟨[(2,D.ptr 0 0),(3,D.ptr 1 0),(58,D.int .i64 ((aB.cu.map Action.c).length:Int)),(59,D.int .i64 cS)],[Ob.box (aO.c aB),Ob.box (aO.c aV)]⟩
theorem Is(hΓ:Γ.nt=92){aB:aO}{aV:aO}{r:Bool}{k2:Option Bool}(Cf:k2=some r->Ax Γ N f230 (.q [[none]] (D.bool r)) [1,1,1,1] ⟨[],[]⟩)(hm2:aB.cu.length<=maxLen):∀(rest:c8) (i2:Nat),aB.cu.drop i2=rest->ig aB aV k2 rest i2=some r->Ar Γ N f230 (.q [[none]] (D.bool r)) [1,1,1,0,1,0] (rest.length+1) (Kr aB aV (i2:Int)):=by
 intro rest
 induction rest with
 |nil=>
  intro i2 hd2 h;rw[ig]at h;refine aN fun N2 xa ur=>?_
  exact((aU.ge Action.c hd2).a [.hl 0 [] []]).ex hΓ xa (Cf h)
 |cons lU wg ih2=>
  intro i2 hd2 h;rw[ig]at h;refine aN fun N2 xa ur=>?_
  obtain⟨x70,h71,h⟩:=aD h;have tr:=((((aU.lt Action.c hd2).a [.n 26]).l (ax Action.c 3 (dc hd2) rfl)).l (dh Action.c 3 h71 rfl))
  obtain⟨h72,h⟩|⟨h72,h⟩:=aL h
  ·have h:=aG h;subst h;exact((tr.r 15 h72).T 1).ret hΓ
  ·obtain⟨MM,h74,h⟩:=aD h;have wX:=(((((((tr.r 4 h72).l (ax Action.c 3 (dc hd2) rfl)).r 6 h72).l (dh Action.c 3 h71 rfl)).r 3 h72).g (oM h74)).r 2 h72)
   obtain⟨h75,h⟩|⟨h75,h⟩:=aL h
   ·have h:=aG h;subst h;exact(wX.b h75).ret hΓ
   ·exact((wX.b h75).a [.cn [2,3,58,59] [0,1]]).ct hΓ ur (iS hd2 hm2) (ih2 (i2+1) (dn hd2) h)
theorem Ga{aB:aO}{aV:aO}{r:Bool}(h:qv aB aV=some r):Good prog 230 [D.agg (aO.c aB),D.agg (aO.c aV)] (D.bool r):=by
 refine gd func230 [[none]] 92 fun hr Γ hΓ=>?_
 rw[qv]at h;obtain⟨h1,h⟩|⟨h1,h⟩:=aL h
 ·have h:=aG h;subst h;exact((aU.r 6 h1).T 17).ret hΓ
 ·have AV:=(aU.r 6 h1)
  obtain⟨h2,h⟩|⟨h2,h⟩:=aL h
  ·have h:=aG h;subst h;exact((AV.r 8 h2).T 9).ret hΓ
  ·have DC:=(AV.r 8 h2)
   obtain⟨h3,h⟩|⟨h3,h⟩:=aL h
   ·have h:=aG h;subst h;exact((DC.r 8 h3).T 1).ret hΓ
   ·have IA:=(DC.r 8 h3)
    obtain⟨h4,h⟩|⟨h4,h⟩:=aL h
    ·have h:=aG h;subst h;exact(IA.b h4).ret hΓ
    ·refine((IA.b h4).a [.cn [2,3,39,40] [0,1]]).lp hΓ (Ir hΓ (fun h=>?_) (by have:=(dW.sl (dW.agg (hr _ (aC (i:=0) rfl)) (.sl (aB.conds.map aQ.c)) (by simp))).1;simpa using this) aB.conds 0 rfl h);refine(aU.a [.cn [2,3,58,59] [0,1]]).lp hΓ (Is hΓ (fun h=>?_) (by have:=(dW.sl (dW.agg (hr _ (aC (i:=0) rfl)) (.sl (aB.cu.map Action.c)) (by simp))).1;simpa using this) aB.cu 0 rfl h);have h:=aG h;subst h;exact aU.ret hΓ
def mQ(aB:ar)(aV:ar)(k1:Option Bool):ar->Nat->Option Bool
 | [],i1=>(k1)
 |bD::bZ,i1=>((mJ aV (i1:Int)).bind fun x30=>((qv bD x30).bind fun E2=>(bif !(E2)then(some false)else(mQ aB aV k1 bZ (i1+1)))))
def sw(aB:ar)(aV:ar):Option Bool:=(bif (((aB.map aO.c).length:Int):Int) != ((aV.map aO.c).length:Int)then(some false)else(mQ aB aV (some true) aB 0))
def J0(aB:ar)(aV:ar)(cS:Int):St:=⟨[(0,D.sl (aB.map aO.c)),(1,D.sl (aV.map aO.c)),(12,D.int .i64 ((aB.map aO.c).length:Int)),(13,D.int .i64 cS)],[]⟩
theorem Gj(hΓ:Γ.nt=27){aB:ar}{aV:ar}{r:Bool}{k1:Option Bool}(cW:k1=some r->Ax Γ N f156 (.q [[none]] (D.bool r)) [1,1,1] ⟨[],[]⟩)(hm1:aB.length<=maxLen):∀(rest:ar) (i1:Nat),aB.drop i1=rest->mQ aB aV k1 rest i1=some r->Ar Γ N f156 (.q [[none]] (D.bool r)) [1,1,0,1,0] (rest.length+1) (J0 aB aV (i1:Int)):=by
 intro rest
 induction rest with
 |nil=>
  intro i1 aj h;rw[mQ]at h;refine aN fun N1 bw bg=>?_
  exact((aU.ge aO.c aj).a [.hl 0 [] []]).ex hΓ bw (cW h)
 |cons bD bZ ih1=>
  intro i1 aj h;rw[mQ]at h;refine aN fun N1 bw bg=>?_
  obtain⟨x30,h31,h⟩:=aD h;obtain⟨E2,h33,h⟩:=aD h;have dJ:=(((((aU.lt aO.c aj).a [.n 8]).l (ax aO.c 4 (dc aj) rfl)).l (dh aO.c 4 h31 rfl)).g (Ga h33))
  obtain⟨h34,h⟩|⟨h34,h⟩:=aL h
  ·have h:=aG h;subst h;exact(dJ.b h34).ret hΓ
  ·exact((dJ.b h34).a [.cn [0,1,12,13] []]).ct hΓ bg (iS aj hm1) (ih1 (i1+1) (dn aj) h)
theorem zG{aB:ar}{aV:ar}{r:Bool}(h:sw aB aV=some r):Good prog 156 [D.sl (aB.map aO.c),D.sl (aV.map aO.c)] (D.bool r):=by
 refine gd func156 [[none]] 27 fun hr Γ hΓ=>?_
 rw[sw]at h;obtain⟨h1,h⟩|⟨h1,h⟩:=aL h
 ·have h:=aG h;subst h;exact(aU.b h1).ret hΓ
 ·refine((aU.b h1).a [.cn [0,1,12,13] []]).lp hΓ (Gj hΓ (fun h=>?_) (by have:=(dW.sl (hr _ (aC (i:=0) rfl))).1;simpa using this) aB 0 rfl h);have h:=aG h;subst h;exact aU.ret hΓ
def nF(aB:bI)(aV:bI)(k1:Option Bool):bI->Nat->Option Bool
 | [],i1=>(k1)
 |bD::bZ,i1=>((mJ aV (i1:Int)).bind fun x22=>(bif (bD:Int) != x22 then(some false)else(nF aB aV k1 bZ (i1+1))))
def uR(aB:bI)(aV:bI):Option Bool:=(bif (((aB.map dL).length:Int):Int) != ((aV.map dL).length:Int)then(some false)else(nF aB aV (some true) aB 0))
def Kz(aB:bI)(aV:bI)(cS:Int):St:=⟨[(0,D.sl (aB.map dL)),(1,D.sl (aV.map dL)),(12,D.int .i64 ((aB.map dL).length:Int)),(13,D.int .i64 cS)],[]⟩
theorem Iy(hΓ:Γ.nt=26){aB:bI}{aV:bI}{r:Bool}{k1:Option Bool}(cW:k1=some r->Ax Γ N f157 (.q [[none]] (D.bool r)) [1,1,1] ⟨[],[]⟩)(hm1:aB.length<=maxLen):∀(rest:bI) (i1:Nat),aB.drop i1=rest->nF aB aV k1 rest i1=some r->Ar Γ N f157 (.q [[none]] (D.bool r)) [1,1,0,1,0] (rest.length+1) (Kz aB aV (i1:Int)):=by
 intro rest
 induction rest with
 |nil=>
  intro i1 aj h;rw[nF]at h;refine aN fun N1 bw bg=>?_
  exact((aU.ge dL aj).a [.hl 0 [] []]).ex hΓ bw (cW h)
 |cons bD bZ ih1=>
  intro i1 aj h;rw[nF]at h;refine aN fun N1 bw bg=>?_
  obtain⟨x22,h23,h⟩:=aD h;have dJ:=((((aU.lt dL aj).a [.n 8]).l (ax dL 1 (dc aj) rfl)).l (dh dL 1 h23 rfl))
  obtain⟨h24,h⟩|⟨h24,h⟩:=aL h
  ·have h:=aG h;subst h;exact(dJ.b h24).ret hΓ
  ·exact((dJ.b h24).a [.cn [0,1,12,13] []]).ct hΓ bg (iS aj hm1) (ih1 (i1+1) (dn aj) h)
theorem Gh{aB:bI}{aV:bI}{r:Bool}(h:uR aB aV=some r):Good prog 157 [D.sl (aB.map dL),D.sl (aV.map dL)] (D.bool r):=by
 refine gd func157 [[none]] 26 fun hr Γ hΓ=>?_
 rw[uR]at h;obtain⟨h1,h⟩|⟨h1,h⟩:=aL h
 ·have h:=aG h;subst h;exact(aU.b h1).ret hΓ
 ·refine((aU.b h1).a [.cn [0,1,12,13] []]).lp hΓ (Iy hΓ (fun h=>?_) (by have:=(dW.sl (hr _ (aC (i:=0) rfl))).1;simpa using this) aB 0 rfl h);have h:=aG h;subst h;exact aU.ret hΓ
def oy(aB:aE)(aV:aE):Option Bool:=(bif (aB.rel:Bytes)==aV.rel then((qF aB.args aV.args).bind fun y2=>(some y2))else(some false))
theorem A9{aB:aE}{aV:aE}{r:Bool}(h:oy aB aV=some r):Good prog 231 [D.agg (aE.c aB),D.agg (aE.c aV)] (D.bool r):=by
 refine gd func231 [[none]] 17 fun hr Γ hΓ=>?_
 rw[oy]at h;obtain⟨h1,h⟩|⟨h1,h⟩:=aL h
 ·obtain⟨y2,h3,h⟩:=aD h;have h:=aG h;subst h;exact(((aU.r 5 h1).g (zH h3)).b h1).ret hΓ
 ·have h:=aG h;subst h;exact(aU.r 6 h1).ret hΓ
def mM(aB:aK)(aV:aK)(k1:Option Bool):aK->Nat->Option Bool
 | [],i1=>(k1)
 |bD::bZ,i1=>((mJ aV (i1:Int)).bind fun x30=>((oy bD x30).bind fun E2=>(bif !(E2)then(some false)else(mM aB aV k1 bZ (i1+1)))))
def jM(aB:aK)(aV:aK):Option Bool:=(bif (((aB.map aE.c).length:Int):Int) != ((aV.map aE.c).length:Int)then(some false)else(mM aB aV (some true) aB 0))
def Iq(aB:aK)(aV:aK)(cS:Int):St:=⟨[(0,D.sl (aB.map aE.c)),(1,D.sl (aV.map aE.c)),(12,D.int .i64 ((aB.map aE.c).length:Int)),(13,D.int .i64 cS)],[]⟩
theorem GZ(hΓ:Γ.nt=27){aB:aK}{aV:aK}{r:Bool}{k1:Option Bool}(cW:k1=some r->Ax Γ N f158 (.q [[none]] (D.bool r)) [1,1,1] ⟨[],[]⟩)(hm1:aB.length<=maxLen):∀(rest:aK) (i1:Nat),aB.drop i1=rest->mM aB aV k1 rest i1=some r->Ar Γ N f158 (.q [[none]] (D.bool r)) [1,1,0,1,0] (rest.length+1) (Iq aB aV (i1:Int)):=by
 intro rest
 induction rest with
 |nil=>
  intro i1 aj h;rw[mM]at h;refine aN fun N1 bw bg=>?_
  exact((aU.ge aE.c aj).a [.hl 0 [] []]).ex hΓ bw (cW h)
 |cons bD bZ ih1=>
  intro i1 aj h;rw[mM]at h;refine aN fun N1 bw bg=>?_
  obtain⟨x30,h31,h⟩:=aD h;obtain⟨E2,h33,h⟩:=aD h;have dJ:=(((((aU.lt aE.c aj).a [.n 8]).l (ax aE.c 2 (dc aj) rfl)).l (dh aE.c 2 h31 rfl)).g (A9 h33))
  obtain⟨h34,h⟩|⟨h34,h⟩:=aL h
  ·have h:=aG h;subst h;exact(dJ.b h34).ret hΓ
  ·exact((dJ.b h34).a [.cn [0,1,12,13] []]).ct hΓ bg (iS aj hm1) (ih1 (i1+1) (dn aj) h)
theorem vV{aB:aK}{aV:aK}{r:Bool}(h:jM aB aV=some r):Good prog 158 [D.sl (aB.map aE.c),D.sl (aV.map aE.c)] (D.bool r):=by
 refine gd func158 [[none]] 27 fun hr Γ hΓ=>?_
 rw[jM]at h;obtain⟨h1,h⟩|⟨h1,h⟩:=aL h
 ·have h:=aG h;subst h;exact(aU.b h1).ret hΓ
 ·refine((aU.b h1).a [.cn [0,1,12,13] []]).lp hΓ (GZ hΓ (fun h=>?_) (by have:=(dW.sl (hr _ (aC (i:=0) rfl))).1;simpa using this) aB 0 rfl h);have h:=aG h;subst h;exact aU.ret hΓ
def jc(aB:aT)(aV:aT)(k1:Option Bool):aT->Nat->Option Bool
 | [],i1=>(k1)
 |bD::bZ,i1=>((mJ aV (i1:Int)).bind fun x22=>(bif !((bD.var:Bytes)==x22.var&&(bD.value:Bytes)==x22.value)then(some false)else(jc aB aV k1 bZ (i1+1))))
def qE(aB:aT)(aV:aT):Option Bool:=(bif (((aB.map aS.c).length:Int):Int) != ((aV.map aS.c).length:Int)then(some false)else(jc aB aV (some true) aB 0))
def Iz(aB:aT)(aV:aT)(cS:Int):St:=⟨[(0,D.sl (aB.map aS.c)),(1,D.sl (aV.map aS.c)),(12,D.int .i64 ((aB.map aS.c).length:Int)),(13,D.int .i64 cS)],[]⟩
theorem Gi(hΓ:Γ.nt=26){aB:aT}{aV:aT}{r:Bool}{k1:Option Bool}(cW:k1=some r->Ax Γ N f233 (.q [[none]] (D.bool r)) [1,1,1] ⟨[],[]⟩)(hm1:aB.length<=maxLen):∀(rest:aT) (i1:Nat),aB.drop i1=rest->jc aB aV k1 rest i1=some r->Ar Γ N f233 (.q [[none]] (D.bool r)) [1,1,0,1,0] (rest.length+1) (Iz aB aV (i1:Int)):=by
 intro rest
 induction rest with
 |nil=>
  intro i1 aj h;rw[jc]at h;refine aN fun N1 bw bg=>?_
  exact((aU.ge aS.c aj).a [.hl 0 [] []]).ex hΓ bw (cW h)
 |cons bD bZ ih1=>
  intro i1 aj h;rw[jc]at h;refine aN fun N1 bw bg=>?_
  obtain⟨x22,h23,h⟩:=aD h;have dJ:=((((aU.lt aS.c aj).a [.n 8]).l (ax aS.c 2 (dc aj) rfl)).l (dh aS.c 2 h23 rfl))
  obtain⟨h24,h⟩|⟨h24,h⟩:=aL h
  ·have h:=aG h;subst h;exact(dJ.b h24).ret hΓ
  ·exact((dJ.b h24).a [.cn [0,1,12,13] []]).ct hΓ bg (iS aj hm1) (ih1 (i1+1) (dn aj) h)
theorem FY{aB:aT}{aV:aT}{r:Bool}(h:qE aB aV=some r):Good prog 233 [D.sl (aB.map aS.c),D.sl (aV.map aS.c)] (D.bool r):=by
 refine gd func233 [[none]] 26 fun hr Γ hΓ=>?_
 rw[qE]at h;obtain⟨h1,h⟩|⟨h1,h⟩:=aL h
 ·have h:=aG h;subst h;exact(aU.b h1).ret hΓ
 ·refine((aU.b h1).a [.cn [0,1,12,13] []]).lp hΓ (Gi hΓ (fun h=>?_) (by have:=(dW.sl (hr _ (aC (i:=0) rfl))).1;simpa using this) aB 0 rfl h);have h:=aG h;subst h;exact aU.ret hΓ
def iw(aB:ah)(aV:ah)(k1:Option Bool):ah->Nat->Option Bool
 | [],i1=>(k1)
 |bD::bZ,i1=>((mJ aV (i1:Int)).bind fun x42=>((jM bD.facts x42.facts).bind fun y44=>(bif !(y44)then(some false)else((qE bD.bind x42.bind).bind fun W8=>(bif !(W8)then(some false)else(iw aB aV k1 bZ (i1+1)))))))
def oQ(aB:ah)(aV:ah):Option Bool:=(bif (((aB.map aI.c).length:Int):Int) != ((aV.map aI.c).length:Int)then(some false)else(iw aB aV (some true) aB 0))
def Gl(aB:ah)(aV:ah)(cS:Int):St:=⟨[(0,D.sl (aB.map aI.c)),(1,D.sl (aV.map aI.c)),(12,D.int .i64 ((aB.map aI.c).length:Int)),(13,D.int .i64 cS)],[]⟩
theorem FZ(hΓ:Γ.nt=43){aB:ah}{aV:ah}{r:Bool}{k1:Option Bool}(cW:k1=some r->Ax Γ N f161 (.q [[none]] (D.bool r)) [1,1,1] ⟨[],[]⟩)(hm1:aB.length<=maxLen):∀(rest:ah) (i1:Nat),aB.drop i1=rest->iw aB aV k1 rest i1=some r->Ar Γ N f161 (.q [[none]] (D.bool r)) [1,1,0,1,0] (rest.length+1) (Gl aB aV (i1:Int)):=by
 intro rest
 induction rest with
 |nil=>
  intro i1 aj h;rw[iw]at h;refine aN fun N1 bw bg=>?_
  exact((aU.ge aI.c aj).a [.hl 0 [] []]).ex hΓ bw (cW h)
 |cons bD bZ ih1=>
  intro i1 aj h;rw[iw]at h;refine aN fun N1 bw bg=>?_
  obtain⟨x42,h43,h⟩:=aD h;obtain⟨y44,h45,h⟩:=aD h;have ja:=(((((aU.lt aI.c aj).a [.n 23]).l (ax aI.c 2 (dc aj) rfl)).l (dh aI.c 2 h43 rfl)).g (vV h45))
  obtain⟨h46,h⟩|⟨h46,h⟩:=aL h
  ·have h:=aG h;subst h;exact((ja.r 13 h46).T 1).ret hΓ
  ·obtain⟨W8,h48,h⟩:=aD h;have iY:=(((((((ja.r 3 h46).l (ax aI.c 2 (dc aj) rfl)).r 5 h46).l (dh aI.c 2 h43 rfl)).r 3 h46).g (FY h48)).r 2 h46)
   obtain⟨h49,h⟩|⟨h49,h⟩:=aL h
   ·have h:=aG h;subst h;exact(iY.b h49).ret hΓ
   ·exact((iY.b h49).a [.cn [0,1,12,13] []]).ct hΓ bg (iS aj hm1) (ih1 (i1+1) (dn aj) h)
theorem ET{aB:ah}{aV:ah}{r:Bool}(h:oQ aB aV=some r):Good prog 161 [D.sl (aB.map aI.c),D.sl (aV.map aI.c)] (D.bool r):=by
 refine gd func161 [[none]] 43 fun hr Γ hΓ=>?_
 rw[oQ]at h;obtain⟨h1,h⟩|⟨h1,h⟩:=aL h
 ·have h:=aG h;subst h;exact(aU.b h1).ret hΓ
 ·refine((aU.b h1).a [.cn [0,1,12,13] []]).lp hΓ (FZ hΓ (fun h=>?_) (by have:=(dW.sl (hr _ (aC (i:=0) rfl))).1;simpa using this) aB 0 rfl h);have h:=aG h;subst h;exact aU.ret hΓ
def gY(aB:aF)(aV:aF)(k1:Option Bool):b7->Nat->Option Bool
 | [],i1=>(k1)
 |bD::bZ,i1=>((mJ aV.av (i1:Int)).bind fun x52=>((fQ bD.shape x52.shape).bind fun Pq=>(bif !(Pq)then(some false)else((jM bD.facts x52.facts).bind fun y57=>(bif !(y57)then(some false)else(gY aB aV k1 bZ (i1+1)))))))
def gZ(aB:aF)(aV:aF)(k2:Option Bool):ay->Nat->Option Bool
 | [],i2=>(k2)
 |lU::wg,i2=>((mJ aV.nodes (i2:Int)).bind fun x108=>(bif (lU.parent:Int) != x108.parent then(some false)else(bif (lU.cP:Int) != x108.cP then(some false)else((kA lU.cond x108.cond).bind fun KE=>(bif !(KE)then(some false)else((oQ lU.tokens x108.tokens).bind fun UG=>(bif !(UG)then(some false)else(gZ aB aV k2 wg (i2+1)))))))))
def pH(aB:aF)(aV:aF):Option Bool:=((sw aB.rules aV.rules).bind fun y1=>(bif !(y1)then(some false)else((uR aB.ends aV.ends).bind fun y4=>(bif !(y4)then(some false)else((jM aB.facts aV.facts).bind fun y7=>(bif !(y7)then(some false)else(bif (((aB.av.map aP.c).length:Int):Int) != ((aV.av.map aP.c).length:Int)then(some false)else(bif (((aB.nodes.map Node.c).length:Int):Int) != ((aV.nodes.map Node.c).length:Int)then(some false)else(gY aB aV (gZ aB aV (some true) aB.nodes 0) aB.av 0)))))))))
def EK(aB:aF)(aV:aF)(cS:Int):St:=⟨[(2,D.ptr 0 0),(3,D.ptr 1 0),(51,D.int .i64 ((aB.av.map aP.c).length:Int)),(52,D.int .i64 cS)],[Ob.box (aF.c aB),Ob.box (aF.c aV)]⟩
theorem DT(hΓ:Γ.nt=131){aB:aF}{aV:aF}{r:Bool}{k1:Option Bool}(cW:k1=some r->Ax Γ N f91 (.q [[none]] (D.bool r)) [1,1,1] ⟨[(2,D.ptr 0 0),(3,D.ptr 1 0)],[Ob.box (aF.c aB),Ob.box (aF.c aV)]⟩)(hm1:aB.av.length<=maxLen):∀(rest:b7) (i1:Nat),aB.av.drop i1=rest->gY aB aV k1 rest i1=some r->Ar Γ N f91 (.q [[none]] (D.bool r)) [1,1,0,1,0] (rest.length+1) (EK aB aV (i1:Int)):=by
 intro rest
 induction rest with
 |nil=>
  intro i1 aj h;rw[gY]at h;refine aN fun N1 bw bg=>?_
  exact((aU.ge aP.c aj).a [.hl 0 [2,3] [0,1]]).ex hΓ bw (cW h)
 |cons bD bZ ih1=>
  intro i1 aj h;rw[gY]at h;refine aN fun N1 bw bg=>?_
  obtain⟨x52,h53,h⟩:=aD h;obtain⟨Pq,h55,h⟩:=aD h;have AV:=(((((aU.lt aP.c aj).a [.n 27]).l (ax aP.c 3 (dc aj) rfl)).l (dh aP.c 3 h53 rfl)).g (oM h55))
  obtain⟨h56,h⟩|⟨h56,h⟩:=aL h
  ·have h:=aG h;subst h;exact((AV.r 15 h56).T 1).ret hΓ
  ·obtain⟨y57,h58,h⟩:=aD h;have DC:=(((((((AV.r 4 h56).l (ax aP.c 3 (dc aj) rfl)).r 6 h56).l (dh aP.c 3 h53 rfl)).r 3 h56).g (vV h58)).r 2 h56)
   obtain⟨h59,h⟩|⟨h59,h⟩:=aL h
   ·have h:=aG h;subst h;exact(DC.b h59).ret hΓ
   ·exact((DC.b h59).a [.cn [2,3,51,52] [0,1]]).ct hΓ bg (iS aj hm1) (ih1 (i1+1) (dn aj) h)
def EL(aB:aF)(aV:aF)(cS:Int):St:=⟨[(2,D.ptr 0 0),(3,D.ptr 1 0),(88,D.int .i64 ((aB.nodes.map Node.c).length:Int)),(89,D.int .i64 cS)],[Ob.box (aF.c aB),Ob.box (aF.c aV)]⟩
theorem DU(hΓ:Γ.nt=131){aB:aF}{aV:aF}{r:Bool}{k2:Option Bool}(Cf:k2=some r->Ax Γ N f91 (.q [[none]] (D.bool r)) [1,1,1,1] ⟨[],[]⟩)(hm2:aB.nodes.length<=maxLen):∀(rest:ay) (i2:Nat),aB.nodes.drop i2=rest->gZ aB aV k2 rest i2=some r->Ar Γ N f91 (.q [[none]] (D.bool r)) [1,1,1,0,1,0] (rest.length+1) (EL aB aV (i2:Int)):=by
 intro rest
 induction rest with
 |nil=>
  intro i2 hd2 h;rw[gZ]at h;refine aN fun N2 xa ur=>?_
  exact((aU.ge Node.c hd2).a [.hl 0 [] []]).ex hΓ xa (Cf h)
 |cons lU wg ih2=>
  intro i2 hd2 h;rw[gZ]at h;refine aN fun N2 xa ur=>?_
  obtain⟨x108,h109,h⟩:=aD h;have IA:=((((aU.lt Node.c hd2).a [.n 13]).l (ax Node.c 8 (dc hd2) rfl)).l (dh Node.c 8 h109 rfl))
  obtain⟨h110,h⟩|⟨h110,h⟩:=aL h
  ·have h:=aG h;subst h;exact((IA.r 6 h110).T 15).ret hΓ
  ·have yu:=(IA.r 6 h110)
   obtain⟨h111,h⟩|⟨h111,h⟩:=aL h
   ·have h:=aG h;subst h;exact((yu.r 7 h111).T 8).ret hΓ
   ·obtain⟨KE,h113,h⟩:=aD h;have D7:=(((yu.r 5 h111).g (wD h113)).r 2 h111)
    obtain⟨h114,h⟩|⟨h114,h⟩:=aL h
    ·have h:=aG h;subst h;exact((D7.r 7 h114).T 1).ret hΓ
    ·obtain⟨UG,h116,h⟩:=aD h;have BN:=(((D7.r 5 h114).g (ET h116)).r 2 h114)
     obtain⟨h117,h⟩|⟨h117,h⟩:=aL h
     ·have h:=aG h;subst h;exact(BN.b h117).ret hΓ
     ·exact((BN.b h117).a [.cn [2,3,88,89] [0,1]]).ct hΓ ur (iS hd2 hm2) (ih2 (i2+1) (dn hd2) h)
theorem Cv{aB:aF}{aV:aF}{r:Bool}(h:pH aB aV=some r):Good prog 91 [D.agg (aF.c aB),D.agg (aF.c aV)] (D.bool r):=by
 refine gd func91 [[none]] 131 fun hr Γ hΓ=>?_
 rw[pH]at h;obtain⟨y1,h2,h⟩:=aD h;obtain⟨h3,h⟩|⟨h3,h⟩:=aL h
 ·have h:=aG h;subst h;exact(((aU.g (zG h2)).r 7 h3).T 24).ret hΓ
 ·obtain⟨y4,h5,h⟩:=aD h;have I8:=((((aU.g (zG h2)).r 5 h3).g (Gh h5)).r 2 h3)
  obtain⟨h6,h⟩|⟨h6,h⟩:=aL h
  ·have h:=aG h;subst h;exact((I8.r 7 h6).T 17).ret hΓ
  ·obtain⟨y7,h8,h⟩:=aD h;have I9:=(((I8.r 5 h6).g (vV h8)).r 2 h6)
   obtain⟨h9,h⟩|⟨h9,h⟩:=aL h
   ·have h:=aG h;subst h;exact((I9.r 8 h9).T 9).ret hΓ
   ·have RA:=(I9.r 8 h9)
    obtain⟨h10,h⟩|⟨h10,h⟩:=aL h
    ·have h:=aG h;subst h;exact((RA.r 8 h10).T 1).ret hΓ
    ·have RC:=(RA.r 8 h10)
     obtain⟨h11,h⟩|⟨h11,h⟩:=aL h
     ·have h:=aG h;subst h;exact(RC.b h11).ret hΓ
     ·refine((RC.b h11).a [.cn [2,3,51,52] [0,1]]).lp hΓ (DT hΓ (fun h=>?_) (by have:=(dW.sl (dW.agg (hr _ (aC (i:=0) rfl)) (.sl (aB.av.map aP.c)) (by simp))).1;simpa using this) aB.av 0 rfl h);refine(aU.a [.cn [2,3,88,89] [0,1]]).lp hΓ (DU hΓ (fun h=>?_) (by have:=(dW.sl (dW.agg (hr _ (aC (i:=0) rfl)) (.sl (aB.nodes.map Node.c)) (by simp))).1;simpa using this) aB.nodes 0 rfl h);have h:=aG h;subst h;exact aU.ret hΓ
def sZ(aB:aF):Option Bool:=((uL aB.rules).bind fun y1=>(bif y1 then((qu aB.facts).bind fun y4=>(bif y4 then(bif decide ((aB.bz:Int)>=0)then((yd aB.rules aB.facts 0).bind fun y8=>((pH aB y8).bind fun Oz=>(some Oz)))else(some false))else(some false)))else(some false)))
theorem zC{aB:aF}{r:Bool}(h:sZ aB=some r):Good prog 39 [D.agg (aF.c aB)] (D.bool r):=by
 refine gd func39 [[none]] 25 fun hr Γ hΓ=>?_
 rw[sZ]at h;obtain⟨y1,h2,h⟩:=aD h;have kC:=((aU.a [.n 20]).g (GQ h2))
 obtain⟨h3,h⟩|⟨h3,h⟩:=aL h
 ·obtain⟨y4,h5,h⟩:=aD h;have dJ:=(((kC.r 3 h3).g (wB h5)).b h3)
  obtain⟨h6,h⟩|⟨h6,h⟩:=aL h
  ·have ja:=(dJ.r 4 h6)
   obtain⟨h7,h⟩|⟨h7,h⟩:=aL h
   ·obtain⟨y8,h9,h⟩:=aD h;obtain⟨Oz,h11,h⟩:=aD h;have h:=aG h;subst h;exact(((((ja.r 6 h7).g (Mj h9)).b h7).g (Cv h11)).b h7).ret hΓ
   ·have h:=aG h;subst h;exact(ja.r 8 h7).ret hΓ
  ·have h:=aG h;subst h;exact((dJ.r 4 h6).F 8).ret hΓ
 ·have h:=aG h;subst h;exact((kC.r 4 h3).F 12).ret hΓ
def kG(aB:aK)(aV:aE)(k1:Option Int):aK->Nat->Option Int
 | [],i1=>(k1)
 |bD::bZ,i1=>((oy bD aV).bind fun RZ=>(bif RZ then(some (i1:Int))else(kG aB aV k1 bZ (i1+1))))
def uM(aB:aK)(aV:aE):Option Int:=(kG aB aV (some (-1)) aB 0)
def Kn(aB:aK)(aV:aE)(cS:Int):St:=⟨[(3,D.ptr 0 0),(7,D.sl (aB.map aE.c)),(8,D.int .i64 ((aB.map aE.c).length:Int)),(9,D.int .i64 cS)],[Ob.box (aE.c aV)]⟩
theorem Ik(hΓ:Γ.nt=19){aB:aK}{aV:aE}{r:Int}{k1:Option Int}(cW:k1=some r->Ax Γ N f237 (.q [[none]] (D.int .i64 r)) [1,1] ⟨[],[]⟩)(hm1:aB.length<=maxLen):∀(rest:aK) (i1:Nat),aB.drop i1=rest->kG aB aV k1 rest i1=some r->Ar Γ N f237 (.q [[none]] (D.int .i64 r)) [1,0,1,0] (rest.length+1) (Kn aB aV (i1:Int)):=by
 intro rest
 induction rest with
 |nil=>
  intro i1 aj h;rw[kG]at h;refine aN fun N1 bw bg=>?_
  exact((aU.ge aE.c aj).a [.hl 0 [] []]).ex hΓ bw (cW h)
 |cons bD bZ ih1=>
  intro i1 aj h;rw[kG]at h;refine aN fun N1 bw bg=>?_
  obtain⟨RZ,h22,h⟩:=aD h;have dJ:=(((aU.lt aE.c aj).l (ax aE.c 2 (dc aj) rfl)).g (A9 h22))
  obtain⟨h23,h⟩|⟨h23,h⟩:=aL h
  ·cases h;exact(dJ.b h23).ret hΓ
  ·exact((dJ.b h23).a [.cn [3,7,8,9] [0]]).ct hΓ bg (iS aj hm1) (ih1 (i1+1) (dn aj) h)
theorem GS{aB:aK}{aV:aE}{r:Int}(h:uM aB aV=some r):Good prog 237 [D.sl (aB.map aE.c),D.agg (aE.c aV)] (D.int .i64 r):=by
 refine gd func237 [[none]] 19 fun hr Γ hΓ=>?_
 rw[uM]at h;refine(aU.a [.cn [3,7,8,9] [0]]).lp hΓ (Ik hΓ (fun h=>?_) (by have:=(dW.sl (hr _ (aC (i:=0) rfl))).1;simpa using this) aB 0 rfl h);cases h;exact aU.ret hΓ
def dO(aB:aK)(aV:aE)(k1:Bool->aK->Option aK):aK->Nat->Bool->aK->Option aK
 | [],i1,jx,bu=>(k1 jx bu)
 |bD::bZ,i1,jx,bu=>(bif !(jx)then((fo bD aV).bind fun y93=>(bif decide ((y93:Int)>0)then((eF aV).bind fun Z6=>(bif room ((bu.map aE.c).length+([[D.str Z6.rel,D.sl (Z6.args.map tx)]]).length) 40 then((eF bD).bind fun y99=>(bif room (((bu.map aE.c)++([[D.str Z6.rel,D.sl (Z6.args.map tx)]])).length+([[D.str y99.rel,D.sl (y99.args.map tx)]]).length) 40 then(dO aB aV k1 bZ (i1+1) true ((bu++([Z6]))++([y99])))else none))else none))else((eF bD).bind fun Pp=>(bif room ((bu.map aE.c).length+([[D.str Pp.rel,D.sl (Pp.args.map tx)]]).length) 40 then(dO aB aV k1 bZ (i1+1) jx (bu++([Pp])))else none))))else((eF bD).bind fun Xv=>(bif room ((bu.map aE.c).length+([[D.str Xv.rel,D.sl (Xv.args.map tx)]]).length) 40 then(dO aB aV k1 bZ (i1+1) jx (bu++([Xv])))else none)))
def wF(aB:aK)(aV:aE):Option aK:=(dO aB aV (fun(ze:Bool) (td:aK)=>(bif !(ze)then((eF aV).bind fun a0V=>(bif room ((td.map aE.c).length+([[D.str a0V.rel,D.sl (a0V.args.map tx)]]).length) 40 then(some (td++([a0V])))else none))else(some td))) aB 0 false ([]:aK))
def vp(aB:aK)(aV:aE)(jx:Bool)(W1:List aR)(cS:Int):St:=⟨[(3,D.ptr 0 0),(5,D.acc 1),(6,D.bool jx),(9,D.sl (aB.map aE.c)),(10,D.int .i64 ((aB.map aE.c).length:Int)),(11,D.int .i64 cS)],[Ob.box (aE.c aV),Ob.row .uq 53 2 W1]⟩
theorem Ky(hΓ:Γ.nt=42){aB:aK}{aV:aE}{r:aK}{k1:Bool->aK->Option aK}(cW:∀(ze:Bool) (td:aK),k1 ze td=some r->Ax Γ N f240 (.q [[some (53,2)]] (D.fr 53 2 (r.map aE.c))) [1,1,1,1] ⟨[(3,D.ptr 0 0),(5,D.acc 1),(6,D.bool ze)],[Ob.box (aE.c aV),Ob.row .uq 53 2 (td.map aE.c)]⟩)(hm1:aB.length<=maxLen):∀(rest:aK) (i1:Nat) (jx:Bool) (bu:aK),aB.drop i1=rest->dO aB aV k1 rest i1 jx bu=some r->Ar Γ N f240 (.q [[some (53,2)]] (D.fr 53 2 (r.map aE.c))) [1,1,1,0,1,0] (rest.length+1) (vp aB aV jx (bu.map aE.c) (i1:Int)):=by
 intro rest
 induction rest with
 |nil=>
  intro i1 jx bu aj h;rw[dO]at h;refine aN fun N1 bw bg=>?_
  exact((aU.ge aE.c aj).a [.hl 0 [3,5,6] [0,1]]).ex hΓ bw (cW jx bu h)
 |cons bD bZ ih1=>
  intro i1 jx bu aj h;rw[dO]at h;refine aN fun N1 bw bg=>?_
  have ja:=((aU.lt aE.c aj).l (ax aE.c 2 (dc aj) rfl))
  obtain⟨h92,h⟩|⟨h92,h⟩:=aL h
  ·obtain⟨y93,h94,h⟩:=aD h;have iY:=(((ja.r 3 h92).g (rj h94)).r 2 h92)
   obtain⟨h95,h⟩|⟨h95,h⟩:=aL h
   ·obtain⟨Z6,h97,h⟩:=aD h;obtain⟨h98,h⟩:=bV h;obtain⟨y99,h100,h⟩:=aD h;obtain⟨h101,h⟩:=bV h;exact((((((iY.b h95).g (gR h97)).w (cB h98)).g (gR h100)).w (cB h101)).a [.cn [3,5,6,9,10,11] [0,8]]).cs hΓ bg (vp aB aV true (((bu.map aE.c)++([[D.str Z6.rel,D.sl (Z6.args.map tx)]]))++([[D.str y99.rel,D.sl (y99.args.map tx)]])) (IntKind.i64.wrap ((i1:Int)+1))) (by first| (simp only[iS aj hm1,mA]<;>rfl)| (simp only[iS aj hm1,mA,aE.c,aS.c,aQ.c,Action.c,aO.c,aI.c,cr.c,aP.c,Node.c,aF.c,cv.c]<;>rfl)) (ih1 (i1+1) true ((bu++([Z6]))++([y99])) (dn aj) h)
   ·obtain⟨Pp,h103,h⟩:=aD h;obtain⟨h104,h⟩:=bV h;exact((((iY.b h95).g (gR h103)).w (cB h104)).a [.cn [3,5,6,9,10,11] [0,5]]).cs hΓ bg (vp aB aV jx ((bu.map aE.c)++([[D.str Pp.rel,D.sl (Pp.args.map tx)]])) (IntKind.i64.wrap ((i1:Int)+1))) (by first| (simp only[iS aj hm1,mA]<;>rfl)| (simp only[iS aj hm1,mA,aE.c,aS.c,aQ.c,Action.c,aO.c,aI.c,cr.c,aP.c,Node.c,aF.c,cv.c]<;>rfl)) (ih1 (i1+1) jx (bu++([Pp])) (dn aj) h)
  ·obtain⟨Xv,h106,h⟩:=aD h;obtain⟨h107,h⟩:=bV h;exact(((((ja.r 5 h92).F 1).g (gR h106)).w (cB h107)).a [.cn [3,5,6,9,10,11] [0,5]]).cs hΓ bg (vp aB aV jx ((bu.map aE.c)++([[D.str Xv.rel,D.sl (Xv.args.map tx)]])) (IntKind.i64.wrap ((i1:Int)+1))) (by first| (simp only[iS aj hm1,mA]<;>rfl)| (simp only[iS aj hm1,mA,aE.c,aS.c,aQ.c,Action.c,aO.c,aI.c,cr.c,aP.c,Node.c,aF.c,cv.c]<;>rfl)) (ih1 (i1+1) jx (bu++([Xv])) (dn aj) h)
theorem Ix{aB:aK}{aV:aE}{r:aK}(h:wF aB aV=some r):Good prog 240 [D.sl (aB.map aE.c),D.agg (aE.c aV)] (D.fr 53 2 (r.map aE.c)):=by
 refine gd func240 [[some (53,2)]] 42 fun hr Γ hΓ=>?_
 rw[wF]at h;refine(aU.a [.Pk 5,.cn [3,5,6,9,10,11] [0,1]]).lp hΓ (Ky hΓ (fun ze td h=>?_) (by have:=(dW.sl (hr _ (aC (i:=0) rfl))).1;simpa using this) aB 0 false ([]:aK) rfl h);obtain⟨h108,h⟩|⟨h108,h⟩:=aL h
 ·obtain⟨a0V,h110,h⟩:=aD h;obtain⟨h111,h⟩:=bV h;cases h;exact(((aU.b h108).g (gR h110)).w (cB h111)).rts hΓ (D.fr 53 2 ((td.map aE.c)++([[D.str a0V.rel,D.sl (a0V.args.map tx)]]))) (by first|rfl| (simp only[mA]<;>rfl)| (simp only[cV,mA]<;>rfl))
 ·have h:=aG h;subst h;exact(aU.b h108).ret hΓ
def wA(aB:aK)(aV:aE):Option (aK×Bool):=((qu aB).bind fun y1=>(bif !(y1)then((cy aB).bind fun y4=>(some (y4,false)))else((pZ aV).bind fun y6=>(bif !(y6)then((cy aB).bind fun y9=>(some (y9,false)))else((uM aB aV).bind fun MI=>(bif decide ((MI:Int)>=0)then((cy aB).bind fun W7=>(some (W7,false)))else(bif decide ((((aB.map aE.c).length:Int):Int)>=24)then((cy aB).bind fun Ka=>(some (Ka,false)))else((wF aB aV).bind fun y19=>(some (y19,true))))))))))
theorem As{aB:aK}{aV:aE}{r:aK×Bool}(h:wA aB aV=some r):Good prog 171 [D.sl (aB.map aE.c),D.agg (aE.c aV)] (D.gN [D.fr 53 2 (r.1.map aE.c),D.bool r.2]):=by
 refine gd func171 [[some (53,2)],[none]] 30 fun hr Γ hΓ=>?_
 rw[wA]at h;obtain⟨y1,h2,h⟩:=aD h;obtain⟨h3,h⟩|⟨h3,h⟩:=aL h
 ·obtain⟨y4,h5,h⟩:=aD h;cases h;exact((((aU.g (wB h2)).r 4 h3).T 10).g (eg h5)).ret hΓ
 ·obtain⟨y6,h7,h⟩:=aD h;have kC:=((((aU.g (wB h2)).r 2 h3).g (xw h7)).r 2 h3)
  obtain⟨h8,h⟩|⟨h8,h⟩:=aL h
  ·obtain⟨y9,h10,h⟩:=aD h;cases h;exact(((kC.r 5 h8).T 5).g (eg h10)).ret hΓ
  ·obtain⟨MI,h12,h⟩:=aD h;have dJ:=(((kC.r 3 h8).g (GS h12)).r 2 h8)
   obtain⟨h13,h⟩|⟨h13,h⟩:=aL h
   ·obtain⟨W7,h15,h⟩:=aD h;cases h;exact(((dJ.r 4 h13).T 1).g (eg h15)).ret hΓ
   ·have ja:=(dJ.r 4 h13)
    obtain⟨h16,h⟩|⟨h16,h⟩:=aL h
    ·obtain⟨Ka,h18,h⟩:=aD h;cases h;exact((ja.b h16).g (eg h18)).ret hΓ
    ·obtain⟨y19,h20,h⟩:=aD h;cases h;exact((ja.b h16).g (Ix h20)).ret hΓ
def eZ(aB:aK)(aV:aK)(k1:Option Int):aK->Nat->Option Int
 | [],i1=>(k1)
 |bD::bZ,i1=>(bif decide (((i1:Int):Int)<((aV.map aE.c).length:Int))then((mJ aV (i1:Int)).bind fun x34=>((fo bD x34).bind fun IK=>(bif (IK:Int) != 0 then(some IK)else(eZ aB aV k1 bZ (i1+1)))))else(k1))
def oN(aB:aK)(aV:aK):Option Int:=(eZ aB aV ((ij ((aB.map aE.c).length:Int) ((aV.map aE.c).length:Int)).bind fun Ra=>(some Ra)) aB 0)
def Bq(aB:aK)(aV:aK)(cS:Int):St:=⟨[(0,D.sl (aB.map aE.c)),(1,D.sl (aV.map aE.c)),(5,D.int .i64 cS)],[]⟩
theorem BI(hΓ:Γ.nt=36){aB:aK}{aV:aK}{r:Int}{k1:Option Int}(cW:k1=some r->Ax Γ N f282 (.q [[none]] (D.int .i64 r)) [1,1] ⟨[(0,D.sl (aB.map aE.c)),(1,D.sl (aV.map aE.c))],[]⟩)(hm1:aB.length<=maxLen):∀(rest:aK) (i1:Nat),aB.drop i1=rest->eZ aB aV k1 rest i1=some r->Ar Γ N f282 (.q [[none]] (D.int .i64 r)) [1,0,1,0] (rest.length+1) (Bq aB aV (i1:Int)):=by
 intro rest
 induction rest with
 |nil=>
  intro i1 aj h;rw[eZ]at h;refine aN fun N1 bw bg=>?_
  exact(((((((aU.ge aE.c aj).ge aE.c aj).ge aE.c aj).ge aE.c aj).ge aE.c aj).F 1).a [.hl 0 [0,1] []]).ex hΓ bw (cW h)
 |cons bD bZ ih1=>
  intro i1 aj h;rw[eZ]at h;refine aN fun N1 bw bg=>?_
  have ja:=(((((aU.lt aE.c aj).lt aE.c aj).lt aE.c aj).lt aE.c aj).lt aE.c aj)
  obtain⟨h33,h⟩|⟨h33,h⟩:=aL h
  ·obtain⟨x34,h35,h⟩:=aD h;obtain⟨IK,h37,h⟩:=aD h;have iY:=(((((ja.b h33).a [.n 8]).l (ax aE.c 2 (dc aj) rfl)).l (dh aE.c 2 h35 rfl)).g (rj h37))
   obtain⟨h38,h⟩|⟨h38,h⟩:=aL h
   ·have h:=aG h;subst h;exact(iY.b h38).ret hΓ
   ·exact((iY.b h38).a [.cn [0,1,5] []]).ct hΓ bg (iS aj hm1) (ih1 (i1+1) (dn aj) h)
  ·exact((ja.b h33).a [.hl 0 [0,1] []]).ex hΓ bw (cW h)
theorem Af{aB:aK}{aV:aK}{r:Int}(h:oN aB aV=some r):Good prog 282 [D.sl (aB.map aE.c),D.sl (aV.map aE.c)] (D.int .i64 r):=by
 refine gd func282 [[none]] 36 fun hr Γ hΓ=>?_
 rw[oN]at h;refine(aU.a [.cn [0,1,5] []]).lp hΓ (BI hΓ (fun h=>?_) (by have:=(dW.sl (hr _ (aC (i:=0) rfl))).1;simpa using this) aB 0 rfl h);obtain⟨Ra,h40,h⟩:=aD h;have h:=aG h;subst h;exact(aU.g (sn h40)).ret hΓ
def o7(aB:aI)(aV:aI):Option Int:=((oN aB.facts aV.facts).bind fun y1=>(some y1))
theorem CR{aB:aI}{aV:aI}{r:Int}(h:o7 aB aV=some r):Good prog 271 [D.agg (aI.c aB),D.agg (aI.c aV)] (D.int .i64 r):=by
 refine gd func271 [[none]] 10 fun hr Γ hΓ=>?_
 rw[o7]at h;obtain⟨y1,h2,h⟩:=aD h;have h:=aG h;subst h;exact(aU.g (Af h2)).ret hΓ
def kM(aB:ah)(aV:aI)(k1:Option Bool):ah->Nat->Option Bool
 | [],i1=>(k1)
 |bD::bZ,i1=>((o7 bD aV).bind fun RZ=>(bif (RZ:Int)==0 then(some true)else(kM aB aV k1 bZ (i1+1))))
def uQ(aB:ah)(aV:aI):Option Bool:=(kM aB aV (some false) aB 0)
def Kx(aB:ah)(aV:aI)(cS:Int):St:=⟨[(3,D.ptr 0 0),(7,D.sl (aB.map aI.c)),(8,D.int .i64 ((aB.map aI.c).length:Int)),(9,D.int .i64 cS)],[Ob.box (aI.c aV)]⟩
theorem Iw(hΓ:Γ.nt=18){aB:ah}{aV:aI}{r:Bool}{k1:Option Bool}(cW:k1=some r->Ax Γ N f238 (.q [[none]] (D.bool r)) [1,1] ⟨[],[]⟩)(hm1:aB.length<=maxLen):∀(rest:ah) (i1:Nat),aB.drop i1=rest->kM aB aV k1 rest i1=some r->Ar Γ N f238 (.q [[none]] (D.bool r)) [1,0,1,0] (rest.length+1) (Kx aB aV (i1:Int)):=by
 intro rest
 induction rest with
 |nil=>
  intro i1 aj h;rw[kM]at h;refine aN fun N1 bw bg=>?_
  exact((aU.ge aI.c aj).a [.hl 0 [] []]).ex hΓ bw (cW h)
 |cons bD bZ ih1=>
  intro i1 aj h;rw[kM]at h;refine aN fun N1 bw bg=>?_
  obtain⟨RZ,h22,h⟩:=aD h;have dJ:=(((aU.lt aI.c aj).l (ax aI.c 2 (dc aj) rfl)).g (CR h22))
  obtain⟨h23,h⟩|⟨h23,h⟩:=aL h
  ·have h:=aG h;subst h;exact(dJ.b h23).ret hΓ
  ·exact((dJ.b h23).a [.cn [3,7,8,9] [0]]).ct hΓ bg (iS aj hm1) (ih1 (i1+1) (dn aj) h)
theorem Gg{aB:ah}{aV:aI}{r:Bool}(h:uQ aB aV=some r):Good prog 238 [D.sl (aB.map aI.c),D.agg (aI.c aV)] (D.bool r):=by
 refine gd func238 [[none]] 18 fun hr Γ hΓ=>?_
 rw[uQ]at h;refine(aU.a [.cn [3,7,8,9] [0]]).lp hΓ (Iw hΓ (fun h=>?_) (by have:=(dW.sl (hr _ (aC (i:=0) rfl))).1;simpa using this) aB 0 rfl h);have h:=aG h;subst h;exact aU.ret hΓ
def jv(aB:aF)(cX:aE)(y3:aF×Unit)(mj:Int)(i1:Nat)(bD:Node)(x313:Node)(k2:Int->Int->Option aF):ah->Nat->Int->Int->Option aF
 | [],i2,Cm,Cn=>(k2 Cm Cn)
 |lU::wg,i2,Cm,Cn=>((mJ aB.nodes bD.parent).bind fun x359=>((uQ x359.tokens lU).bind fun aBI=>(bif aBI then(jv aB cX y3 mj i1 bD x313 k2 wg (i2+1) (IntKind.i64.wrap (Cm+1)) Cn)else(jv aB cX y3 mj i1 bD x313 k2 wg (i2+1) Cm (IntKind.i64.wrap (Cn+1))))))
def fH(aB:aF)(cX:aE)(y3:aF×Unit)(k1:Int->Option aF):ay->Nat->Int->Option aF
 | [],i1,mj=>(k1 mj)
 |bD::bZ,i1,mj=>(bif ((i1:Int):Int)==0 then(fH aB cX y3 k1 bZ (i1+1) mj)else((mJ y3.1.nodes bD.parent).bind fun x313=>(bif decide (x313.tokens.length<=maxLen)then(jv aB cX y3 mj i1 bD x313 (fun(Su:Int) (Kb:Int)=>(bif decide ((bD.cP:Int)<0)then(fH aB cX y3 k1 bZ (i1+1) (IntKind.i64.wrap (mj+Kb)))else((mJ y3.1.av bD.cP).bind fun x365=>((jL x365.shape cX ([])).bind fun a0X=>(bif a0X.2 then(fH aB cX y3 k1 bZ (i1+1) (IntKind.i64.wrap ((IntKind.i64.wrap (mj+(IntKind.i64.wrap (Kb*((x365.facts.map aE.c).length:Int)))))+Su)))else(fH aB cX y3 k1 bZ (i1+1) (IntKind.i64.wrap (mj+(IntKind.i64.wrap (Kb*((x365.facts.map aE.c).length:Int))))))))))) x313.tokens 0 0 0)else none)))
def wE(aB:aF)(aV:aK)(cX:aE):Option aF:=((iq aB).bind fun y1=>((jH y1 aV).bind fun y3=>(bif decide (y3.1.nodes.length<=maxLen)then(fH aB cX y3 (fun(mD:Int)=>(some (⟨y3.1.rules,y3.1.ends,y3.1.av,y3.1.nodes,y3.1.facts,mD⟩:aF))) y3.1.nodes 0 y3.1.bz)else none)))
def Mk(aB:aF)(cX:aE)(y3:aF×Unit)(mj:Int)(cS:Int):St:=⟨[(3,D.ptr 0 0),(5,D.ptr 1 0),(6,D.ptr 2 0),(7,D.ptr 3 0),(22,D.acc 4),(23,D.int .i64 ((y3.1.nodes.map Node.c).length:Int)),(24,D.int .i64 cS)],[Ob.box (aF.c aB),Ob.box (aE.c cX),Ob.box [D.nil,D.nil,D.nil,D.nil,D.nil,D.int .i64 0],Ob.box [D.acc 5,D.acc 6,D.acc 7,D.acc 4,D.acc 8,D.int .i64 mj],Ob.row .uq 118 8 (y3.1.nodes.map Node.c),Ob.row .uq 105 4 (y3.1.rules.map aO.c),Ob.row .uq 3 1 (y3.1.ends.map dL),Ob.row .uq 111 3 (y3.1.av.map aP.c),Ob.row .uq 53 2 (y3.1.facts.map aE.c)]⟩
def Ml(aB:aF)(cX:aE)(y3:aF×Unit)(mj:Int)(i1:Nat)(bD:Node)(x313:Node)(Cm:Int)(Cn:Int)(cS:Int):St:=⟨[(3,D.ptr 0 0),(5,D.ptr 1 0),(6,D.ptr 2 0),(7,D.ptr 3 0),(9,D.ptr 4 0),(10,D.int .i64 Cm),(11,D.int .i64 Cn),(22,D.acc 5),(23,D.int .i64 ((y3.1.nodes.map Node.c).length:Int)),(24,D.int .i64 (i1:Int)),(37,D.sl (x313.tokens.map aI.c)),(38,D.int .i64 ((x313.tokens.map aI.c).length:Int)),(39,D.int .i64 cS)],[Ob.box (aF.c aB),Ob.box (aE.c cX),Ob.box [D.nil,D.nil,D.nil,D.nil,D.nil,D.int .i64 0],Ob.box [D.acc 6,D.acc 7,D.acc 8,D.acc 5,D.acc 9,D.int .i64 mj],Ob.box [D.int .i64 bD.parent,D.int .i64 bD.cond.kind,D.str bD.cond.pat.rel,D.sl (bD.cond.pat.args.map tx),D.str bD.cond.left,D.str bD.cond.right,D.int .i64 bD.cP,D.sl (bD.tokens.map aI.c)],Ob.row .uq 118 8 (y3.1.nodes.map Node.c),Ob.row .uq 105 4 (y3.1.rules.map aO.c),Ob.row .uq 3 1 (y3.1.ends.map dL),Ob.row .uq 111 3 (y3.1.av.map aP.c),Ob.row .uq 53 2 (y3.1.facts.map aE.c)]⟩
theorem Ku(hΓ:Γ.nt=95){aB:aF}{cX:aE}{y3:aF×Unit}{mj:Int}{i1:Nat}{bD:Node}{x313:Node}{r:aF}{k2:Int->Int->Option aF}(Cf:∀(Su:Int) (Kb:Int),k2 Su Kb=some r->Ax Γ N f169 (.q [[some (105,4),some (3,1),some (111,3),some (118,8),some (53,2),none]] (D.agg [D.fr 105 4 (r.rules.map aO.c),D.fr 3 1 (r.ends.map dL),D.fr 111 3 (r.av.map aP.c),D.fr 118 8 (r.nodes.map Node.c),D.fr 53 2 (r.facts.map aE.c),D.int .i64 r.bz])) [1,1,1,0,1,0,0,1,1,0,0,1,1,1,1] ⟨[(3,D.ptr 0 0),(5,D.ptr 1 0),(6,D.ptr 2 0),(7,D.ptr 3 0),(9,D.ptr 4 0),(10,D.int .i64 Su),(11,D.int .i64 Kb),(22,D.acc 5),(23,D.int .i64 ((y3.1.nodes.map Node.c).length:Int)),(24,D.int .i64 (i1:Int))],[Ob.box (aF.c aB),Ob.box (aE.c cX),Ob.box [D.nil,D.nil,D.nil,D.nil,D.nil,D.int .i64 0],Ob.box [D.acc 6,D.acc 7,D.acc 8,D.acc 5,D.acc 9,D.int .i64 mj],Ob.box [D.int .i64 bD.parent,D.int .i64 bD.cond.kind,D.str bD.cond.pat.rel,D.sl (bD.cond.pat.args.map tx),D.str bD.cond.left,D.str bD.cond.right,D.int .i64 bD.cP,D.sl (bD.tokens.map aI.c)],Ob.row .uq 118 8 (y3.1.nodes.map Node.c),Ob.row .uq 105 4 (y3.1.rules.map aO.c),Ob.row .uq 3 1 (y3.1.ends.map dL),Ob.row .uq 111 3 (y3.1.av.map aP.c),Ob.row .uq 53 2 (y3.1.facts.map aE.c)]⟩)(hm2:x313.tokens.length<=maxLen):∀(rest:ah) (i2:Nat) (Cm:Int) (Cn:Int),x313.tokens.drop i2=rest->jv aB cX y3 mj i1 bD x313 k2 rest i2 Cm Cn=some r->Ar Γ N f169 (.q [[some (105,4),some (3,1),some (111,3),some (118,8),some (53,2),none]] (D.agg [D.fr 105 4 (r.rules.map aO.c),D.fr 3 1 (r.ends.map dL),D.fr 111 3 (r.av.map aP.c),D.fr 118 8 (r.nodes.map Node.c),D.fr 53 2 (r.facts.map aE.c),D.int .i64 r.bz])) [1,1,1,0,1,0,0,1,1,0,0,1,1,1,0,1,0] (rest.length+1) (Ml aB cX y3 mj i1 bD x313 Cm Cn (i2:Int)):=by
 intro rest
 induction rest with
 |nil=>
  intro i2 Cm Cn hd2 h;rw[jv]at h;refine aN fun N2 xa ur=>?_
  exact((aU.ge aI.c hd2).a [.hl 5 [3,5,6,7,9,10,11,22,23,24] [0,1,2,3,4,5,6,7,8,9]]).ex hΓ xa (Cf Cm Cn h)
 |cons lU wg ih2=>
  intro i2 Cm Cn hd2 h;rw[jv]at h;refine aN fun N2 xa ur=>?_
  obtain⟨x359,h360,h⟩:=aD h;obtain⟨aBI,h362,h⟩:=aD h;have I9:=(((((aU.lt aI.c hd2).l (ax aI.c 2 (dc hd2) rfl)).a [.n 8]).l (dh Node.c 8 h360 rfl)).g (Gg h362))
  obtain⟨h363,h⟩|⟨h363,h⟩:=aL h
  ·exact((I9.b h363).a [.cn [3,5,6,7,9,10,11,22,23,24,37,38,39] [0,1,2,3,4,5,6,7,8,9]]).ct hΓ ur (iS hd2 hm2) (ih2 (i2+1) (IntKind.i64.wrap (Cm+1)) Cn (dn hd2) h)
  ·exact((I9.b h363).a [.cn [3,5,6,7,9,10,11,22,23,24,37,38,39] [0,1,2,3,4,5,6,7,8,9]]).ct hΓ ur (iS hd2 hm2) (ih2 (i2+1) Cm (IntKind.i64.wrap (Cn+1)) (dn hd2) h)
theorem Kt(hΓ:Γ.nt=95){aB:aF}{cX:aE}{y3:aF×Unit}{r:aF}{k1:Int->Option aF}(cW:∀(mD:Int),k1 mD=some r->Ax Γ N f169 (.q [[some (105,4),some (3,1),some (111,3),some (118,8),some (53,2),none]] (D.agg [D.fr 105 4 (r.rules.map aO.c),D.fr 3 1 (r.ends.map dL),D.fr 111 3 (r.av.map aP.c),D.fr 118 8 (r.nodes.map Node.c),D.fr 53 2 (r.facts.map aE.c),D.int .i64 r.bz])) [1,1,1,1] ⟨[(6,D.ptr 0 0),(7,D.ptr 1 0)],[Ob.box [D.nil,D.nil,D.nil,D.nil,D.nil,D.int .i64 0],Ob.box [D.acc 2,D.acc 3,D.acc 4,D.acc 5,D.acc 6,D.int .i64 mD],Ob.row .uq 105 4 (y3.1.rules.map aO.c),Ob.row .uq 3 1 (y3.1.ends.map dL),Ob.row .uq 111 3 (y3.1.av.map aP.c),Ob.row .uq 118 8 (y3.1.nodes.map Node.c),Ob.row .uq 53 2 (y3.1.facts.map aE.c)]⟩)(hm1:y3.1.nodes.length<=maxLen):∀(rest:ay) (i1:Nat) (mj:Int),y3.1.nodes.drop i1=rest->fH aB cX y3 k1 rest i1 mj=some r->Ar Γ N f169 (.q [[some (105,4),some (3,1),some (111,3),some (118,8),some (53,2),none]] (D.agg [D.fr 105 4 (r.rules.map aO.c),D.fr 3 1 (r.ends.map dL),D.fr 111 3 (r.av.map aP.c),D.fr 118 8 (r.nodes.map Node.c),D.fr 53 2 (r.facts.map aE.c),D.int .i64 r.bz])) [1,1,1,0,1,0] (rest.length+1) (Mk aB cX y3 mj (i1:Int)):=by
 intro rest
 induction rest with
 |nil=>
  intro i1 mj aj h;rw[fH]at h;refine aN fun N1 bw bg=>?_
  exact((aU.ge Node.c aj).a [.hl 0 [6,7] [2,3,5,6,7,4,8]]).ex hΓ bw (cW mj h)
 |cons bD bZ ih1=>
  intro i1 mj aj h;rw[fH]at h;refine aN fun N1 bw bg=>?_
  have RA:=(((aU.lt Node.c aj).i (pV Node.c 8 (dc aj))).o 8 8 .uq (dF Node.c (dc aj)))
  obtain⟨h312,h⟩|⟨h312,h⟩:=aL h
  ·exact((RA.b h312).a [.cn [3,5,6,7,22,23,24] [0,1,2,3,4,5,6,7,8]]).ct hΓ bg (iS aj hm1) (ih1 (i1+1) mj (dn aj) h)
  ·obtain⟨x313,h314,h⟩:=aD h;obtain⟨h370,h⟩:=bV h;refine((((RA.b h312).i (yF Node.c 8 h314)).o 8 8 .uq (dF Node.c (u9 h314))).a [.cn [3,5,6,7,9,10,11,22,23,24,37,38,39] [0,1,2,3,9,4,5,6,7,8]]).lp hΓ (Ku hΓ (fun Su Kb h=>?_) (bt h370) x313.tokens 0 0 0 rfl h);obtain⟨h364,h⟩|⟨h364,h⟩:=aL h
   ·exact((aU.b h364).a [.cn [3,5,6,7,22,23,24] [0,1,2,3,5,6,7,8,9]]).ct hΓ bg (iS aj hm1) (ih1 (i1+1) (IntKind.i64.wrap (mj+Kb)) (dn aj) h)
   ·obtain⟨x365,h366,h⟩:=aD h;obtain⟨a0X,h368,h⟩:=aD h;have RC:=(((((aU.b h364).i (yF aP.c 3 h366)).o 3 3 .uq (dF aP.c (u9 h366))).a [.d (D.gN [D.fr 152 2 (a0X.1.map aS.c),D.bool a0X.2])]).w (show Good prog 239 [D.agg (aE.c x365.shape),D.agg (aE.c cX),D.sl ([])] (D.gN [D.fr 152 2 (a0X.1.map aS.c),D.bool a0X.2])from by first| (simpa only[bN,bH,bX,dB,dA]using qg h368)|exact qg h368))
    obtain⟨h369,h⟩|⟨h369,h⟩:=aL h
    ·exact((RC.b h369).a [.cn [3,5,6,7,22,23,24] [0,1,2,3,5,6,7,8,9]]).ct hΓ bg (iS aj hm1) (ih1 (i1+1) (IntKind.i64.wrap ((IntKind.i64.wrap (mj+(IntKind.i64.wrap (Kb*((x365.facts.map aE.c).length:Int)))))+Su)) (dn aj) h)
    ·exact((RC.b h369).a [.cn [3,5,6,7,22,23,24] [0,1,2,3,5,6,7,8,9]]).ct hΓ bg (iS aj hm1) (ih1 (i1+1) (IntKind.i64.wrap (mj+(IntKind.i64.wrap (Kb*((x365.facts.map aE.c).length:Int))))) (dn aj) h)
theorem It{aB:aF}{aV:aK}{cX:aE}{r:aF}(h:wE aB aV cX=some r):Good prog 169 [D.agg (aF.c aB),D.sl (aV.map aE.c),D.agg (aE.c cX)] (D.agg [D.fr 105 4 (r.rules.map aO.c),D.fr 3 1 (r.ends.map dL),D.fr 111 3 (r.av.map aP.c),D.fr 118 8 (r.nodes.map Node.c),D.fr 53 2 (r.facts.map aE.c),D.int .i64 r.bz]):=by
 refine gd func169 [[some (105,4),some (3,1),some (111,3),some (118,8),some (53,2),none]] 95 fun hr Γ hΓ=>?_
 rw[wE]at h;obtain⟨y1,h2,h⟩:=aD h;obtain⟨y3,h4,h⟩:=aD h;obtain⟨h371,h⟩:=bV h;refine(((aU.g (oO h2)).hp [[some (105,4),some (3,1),some (111,3),some (118,8),some (53,2),none],[none]] (vo h4)).a [.cn [3,5,6,7,22,23,24] [0,1,2,8,12,9,10,11,13]]).lp hΓ (Kt hΓ (fun mD h=>?_) (bt h371) y3.1.nodes 0 y3.1.bz rfl h);cases h;exact aU.ret hΓ
def ER(aB:aF)(aV:aE):Option (aF×Bool):=((wA aB.facts aV).bind fun y1=>(bif !(y1.2)then((iq aB).bind fun y4=>(some (y4,false)))else((wE aB y1.1 aV).bind fun y6=>(some (y6,true)))))
theorem Pa{aB:aF}{aV:aE}{r:aF×Bool}(h:ER aB aV=some r):Good prog 99 [D.agg (aF.c aB),D.agg (aE.c aV)] (D.gN [D.agg [D.fr 105 4 (r.1.rules.map aO.c),D.fr 3 1 (r.1.ends.map dL),D.fr 111 3 (r.1.av.map aP.c),D.fr 118 8 (r.1.nodes.map Node.c),D.fr 53 2 (r.1.facts.map aE.c),D.int .i64 r.1.bz],D.bool r.2]):=by
 refine gd func99 [[some (105,4),some (3,1),some (111,3),some (118,8),some (53,2),none],[none]] 23 fun hr Γ hΓ=>?_
 rw[ER]at h;obtain⟨y1,h2,h⟩:=aD h;obtain⟨h3,h⟩|⟨h3,h⟩:=aL h
 ·obtain⟨y4,h5,h⟩:=aD h;cases h;exact(((aU.g (As h2)).b h3).g (oO h5)).ret hΓ
 ·obtain⟨y6,h7,h⟩:=aD h;cases h;exact(((aU.g (As h2)).b h3).g (It h7)).ret hΓ
def pG(aB:aF)(aV:aE):Option (aF×Bool):=((sZ aB).bind fun y1=>(bif !(y1)then((iq aB).bind fun y4=>(some (y4,false)))else((ER aB aV).bind fun y6=>(some (y6.1,y6.2)))))
theorem ru{aB:aF}{aV:aE}{r:aF×Bool}(h:pG aB aV=some r):Good prog 45 [D.agg (aF.c aB),D.agg (aE.c aV)] (D.gN [D.agg [D.fr 105 4 (r.1.rules.map aO.c),D.fr 3 1 (r.1.ends.map dL),D.fr 111 3 (r.1.av.map aP.c),D.fr 118 8 (r.1.nodes.map Node.c),D.fr 53 2 (r.1.facts.map aE.c),D.int .i64 r.1.bz],D.bool r.2]):=by
 refine gd func45 [[some (105,4),some (3,1),some (111,3),some (118,8),some (53,2),none],[none]] 16 fun hr Γ hΓ=>?_
 rw[pG]at h;obtain⟨y1,h2,h⟩:=aD h;obtain⟨h3,h⟩|⟨h3,h⟩:=aL h
 ·obtain⟨y4,h5,h⟩:=aD h;cases h;exact(((aU.g (zC h2)).b h3).g (oO h5)).ret hΓ
 ·obtain⟨y6,h7,h⟩:=aD h;cases h;exact(((aU.g (zC h2)).b h3).g (Pa h7)).ret hΓ
def fX(aV:aK)(k1:Int->Int->ar->bI->b7->ay->aK->Option (aF×Int)):aK->Nat->Int->Int->ar->bI->b7->ay->aK->Option (aF×Int)
 | [],i1,rW,dS,fV,eN,mF,iU,qd=>(k1 rW dS fV eN mF iU qd)
 |bD::bZ,i1,rW,dS,fV,eN,mF,iU,qd=>((pG (⟨fV,eN,mF,iU,qd,dS⟩:aF) bD).bind fun xg=>(bif xg.2 then(fX aV k1 bZ (i1+1) (IntKind.i64.wrap (rW+1)) xg.1.bz xg.1.rules xg.1.ends xg.1.av xg.1.nodes xg.1.facts)else(fX aV k1 bZ (i1+1) rW dS fV eN mF iU qd)))
def kF(aB:aF)(aV:aK):Option (aF×Int):=((iq aB).bind fun y1=>(fX aV (fun(Rb:Int) (mD:Int) (sK:ar) (fU:bI) (CC:b7) (nu:ay) (qX:aK)=>(some ((⟨sK,fU,CC,nu,qX,mD⟩:aF),Rb))) aV 0 0 y1.bz y1.rules y1.ends y1.av y1.nodes y1.facts))
def FM(aV:aK)(rW:Int)(dS:Int)(W2:List aR)(W3:List aR)(W4:List aR)(W5:List aR)(W6:List aR)(cS:Int):St:=⟨[(4,D.ptr 0 0),(6,D.ptr 1 0),(7,D.int .i64 rW),(14,D.sl (aV.map aE.c)),(15,D.int .i64 ((aV.map aE.c).length:Int)),(16,D.int .i64 cS)],[Ob.box [D.nil,D.nil,D.nil,D.nil,D.nil,D.int .i64 0],Ob.box [D.acc 2,D.acc 3,D.acc 4,D.acc 5,D.acc 6,D.int .i64 dS],Ob.row .uq 105 4 W2,Ob.row .uq 3 1 W3,Ob.row .uq 111 3 W4,Ob.row .uq 118 8 W5,Ob.row .uq 53 2 W6]⟩
theorem EH(hΓ:Γ.nt=33){aV:aK}{r:aF×Int}{k1:Int->Int->ar->bI->b7->ay->aK->Option (aF×Int)}(cW:∀(Rb:Int) (mD:Int) (sK:ar) (fU:bI) (CC:b7) (nu:ay) (qX:aK),k1 Rb mD sK fU CC nu qX=some r->Ax Γ N f16 (.q [[some (105,4),some (3,1),some (111,3),some (118,8),some (53,2),none],[none]] (D.gN [D.agg [D.fr 105 4 (r.1.rules.map aO.c),D.fr 3 1 (r.1.ends.map dL),D.fr 111 3 (r.1.av.map aP.c),D.fr 118 8 (r.1.nodes.map Node.c),D.fr 53 2 (r.1.facts.map aE.c),D.int .i64 r.1.bz],D.int .i64 r.2])) [1,1,1,1] ⟨[(4,D.ptr 0 0),(6,D.ptr 1 0),(7,D.int .i64 Rb)],[Ob.box [D.nil,D.nil,D.nil,D.nil,D.nil,D.int .i64 0],Ob.box [D.acc 2,D.acc 3,D.acc 4,D.acc 5,D.acc 6,D.int .i64 mD],Ob.row .uq 105 4 (sK.map aO.c),Ob.row .uq 3 1 (fU.map dL),Ob.row .uq 111 3 (CC.map aP.c),Ob.row .uq 118 8 (nu.map Node.c),Ob.row .uq 53 2 (qX.map aE.c)]⟩)(hm1:aV.length<=maxLen):∀(rest:aK) (i1:Nat) (rW:Int) (dS:Int) (fV:ar) (eN:bI) (mF:b7) (iU:ay) (qd:aK),aV.drop i1=rest->fX aV k1 rest i1 rW dS fV eN mF iU qd=some r->Ar Γ N f16 (.q [[some (105,4),some (3,1),some (111,3),some (118,8),some (53,2),none],[none]] (D.gN [D.agg [D.fr 105 4 (r.1.rules.map aO.c),D.fr 3 1 (r.1.ends.map dL),D.fr 111 3 (r.1.av.map aP.c),D.fr 118 8 (r.1.nodes.map Node.c),D.fr 53 2 (r.1.facts.map aE.c),D.int .i64 r.1.bz],D.int .i64 r.2])) [1,1,1,0,1,0] (rest.length+1) (FM aV rW dS (fV.map aO.c) (eN.map dL) (mF.map aP.c) (iU.map Node.c) (qd.map aE.c) (i1:Int)):=by
 intro rest
 induction rest with
 |nil=>
  intro i1 rW dS fV eN mF iU qd aj h;rw[fX]at h;refine aN fun N1 bw bg=>?_
  exact((aU.ge aE.c aj).a [.hl 0 [4,6,7] [0,1,2,3,4,5,6]]).ex hΓ bw (cW rW dS fV eN mF iU qd h)
 |cons bD bZ ih1=>
  intro i1 rW dS fV eN mF iU qd aj h;rw[fX]at h;refine aN fun N1 bw bg=>?_
  obtain⟨xg,h36,h⟩:=aD h;have dJ:=((((aU.lt aE.c aj).l (ax aE.c 2 (dc aj) rfl)).a [.d (D.gN [D.agg [D.fr 105 4 (xg.1.rules.map aO.c),D.fr 3 1 (xg.1.ends.map dL),D.fr 111 3 (xg.1.av.map aP.c),D.fr 118 8 (xg.1.nodes.map Node.c),D.fr 53 2 (xg.1.facts.map aE.c),D.int .i64 xg.1.bz],D.bool xg.2])]).w (show Good prog 45 [D.agg [D.sl (fV.map aO.c),D.sl (eN.map dL),D.sl (mF.map aP.c),D.sl (iU.map Node.c),D.sl (qd.map aE.c),D.int .i64 dS],D.agg (aE.c bD)] (D.gN [D.agg [D.fr 105 4 (xg.1.rules.map aO.c),D.fr 3 1 (xg.1.ends.map dL),D.fr 111 3 (xg.1.av.map aP.c),D.fr 118 8 (xg.1.nodes.map Node.c),D.fr 53 2 (xg.1.facts.map aE.c),D.int .i64 xg.1.bz],D.bool xg.2])from by first| (simpa only[bN,bH,bX,dB,dA]using ru h36)|exact ru h36| (have t:=ru h36;simp only[bN,dB,dA,aF.c]at t;exact t)))
  obtain⟨h37,h⟩|⟨h37,h⟩:=aL h
  ·exact((dJ.b h37).a [.cn [4,6,7,14,15,16] [0,1,8,9,10,11,12]]).ct hΓ bg (iS aj hm1) (ih1 (i1+1) (IntKind.i64.wrap (rW+1)) xg.1.bz xg.1.rules xg.1.ends xg.1.av xg.1.nodes xg.1.facts (dn aj) h)
  ·exact((dJ.b h37).a [.cn [4,6,7,14,15,16] [0,1,2,3,4,5,6]]).ct hΓ bg (iS aj hm1) (ih1 (i1+1) rW dS fV eN mF iU qd (dn aj) h)
theorem yJ{aB:aF}{aV:aK}{r:aF×Int}(h:kF aB aV=some r):Good prog 16 [D.agg (aF.c aB),D.sl (aV.map aE.c)] (D.gN [D.agg [D.fr 105 4 (r.1.rules.map aO.c),D.fr 3 1 (r.1.ends.map dL),D.fr 111 3 (r.1.av.map aP.c),D.fr 118 8 (r.1.nodes.map Node.c),D.fr 53 2 (r.1.facts.map aE.c),D.int .i64 r.1.bz],D.int .i64 r.2]):=by
 refine gd func16 [[some (105,4),some (3,1),some (111,3),some (118,8),some (53,2),none],[none]] 33 fun hr Γ hΓ=>?_
 rw[kF]at h;obtain⟨y1,h2,h⟩:=aD h;refine((aU.g (oO h2)).a [.cn [4,6,7,14,15,16] [1,7,2,3,4,5,6]]).lp hΓ (EH hΓ (fun Rb mD sK fU CC nu qX h=>?_) (by have:=(dW.sl (hr _ (aC (i:=1) rfl))).1;simpa using this) aV 0 0 y1.bz y1.rules y1.ends y1.av y1.nodes y1.facts rfl h);cases h;exact aU.ret hΓ
end Go.Cx
namespace Go.Cx
open Go.RowKit Go.Proofs Tryz
theorem zh{α:Type}{a pre xs:List α}{x:α}(h:a=pre++x::xs):mJ a (pre.length:Int)=some x:=by
 unfold mJ;have:a[pre.length]?=some x:=by rw[h];simp
 simp[this]
theorem KU{n b:Nat}(hn:n<=1099511627776)(hb:b<=128):room n b=true:=by
 unfold room maxLen;have:n*b<=1099511627776*128:=GI hn hb;simp;omega
theorem mh{α:Type}{w:List α}{c:α->aR}{y:aR}{b:Nat}(h:w.length<1099511627776)(hb:b<=128):room ((w.map c).length+([y]).length) b=true:=KU (by simp;omega) hb
theorem a2p{α β:Type}{w:List α}{v:List β}{c:α->aR}{d:β->aR}{b:Nat}(h:w.length+v.length<=1099511627776)(hb:b<=128):room ((w.map c).length+(v.map d).length) b=true:=KU (by simp;omega) hb
theorem Ve{β:Type}{v:List β}{d:β->aR}{b:Nat}(h:v.length<=1099511627776)(hb:b<=128):room (([]:List aR).length+(v.map d).length) b=true:=KU (by simp;omega) hb
theorem xA{α:Type}{l:List α}(h:l.length<=1099511627776):decide (l.length<=maxLen)=true:=by unfold maxLen;simp;omega
theorem GA{α β γ:Type}{c:β->aR}{b:Nat}{f:α->Option β}{g:α->β}{L:List α->Nat->List β->Option γ}{k:List β->Option γ}(hb:b<=128)(uw:∀i w,L [] i w=k w)
 (tZ:∀x xs i w,L (x::xs) i w=(f x).bind fun y=>bif room ((w.map c).length+([c y]).length) b then L xs (i+1) (w++[y])else none):
 ∀(l:List α) (i:Nat) (w:List β),(∀x∈l,f x=some (g x))->w.length+l.length<=1099511627776->L l i w=k (w++l.map g):=by
 intro l
 induction l with
 |nil=>intro i w _ _;simp[uw]
 |cons x xs ih=>
  intro i w hf hl;simp only[aM]at hl;rw[tZ,hf x (by simp),aA,mh (by omega) hb,aW,ih _ _ (fun y hy=>hf y (by simp[hy])) (by simp;omega)];simp
theorem ZH{α:Type}{f:α->Option Bool}{p:α->Bool}{L:List α->Nat->Option Bool}{k:Option Bool}(uw:∀i,L [] i=k)
 (tZ:∀x xs i,L (x::xs) i=(f x).bind fun y=>bif !y then some false else L xs (i+1)):∀(l:List α) (i:Nat),(∀x∈l,f x=some (p x))->L l i=bif l.all p then k else some false:=by
 intro l
 induction l with
 |nil=>intro i _;simp[uw]
 |cons x xs ih=>
  intro i hf;rw[tZ,hf x (by simp),aA,ih _ (fun y hy=>hf y (by simp[hy])),dK];cases p x<;>simp
theorem yI:∀(a:Bytes),Op.bytesLess a a=false
 | []=>rfl
 |x::a=>by simp[Op.bytesLess,yI a]
theorem DM:∀ {a b c:Bytes},Op.bytesLess a b=true->Op.bytesLess b c=true->Op.bytesLess a c=true
 | [],b,[],_,h2=>by cases b<;>simp[Op.bytesLess]at h2
 | [],b,_::_,_,_=>by simp[Op.bytesLess]
 |_::_,[],_,h1,_=>by simp[Op.bytesLess]at h1
 |_::_,_::_,[],_,h2=>by simp[Op.bytesLess]at h2
 |x::a,y::b,z::c,h1,h2=>by
  simp only[Op.bytesLess,ot,bJ,aY,cj]at h1 h2⊢;rcases h1 with h1|⟨rfl,h1⟩
  ·rcases h2 with h2|⟨rfl,h2⟩
   ·exact .inl (UInt8.lt_trans h1 h2)
   ·exact .inl h1
  ·rcases h2 with h2|⟨rfl,h2⟩
   ·exact .inl h2
   ·exact .inr ⟨rfl,DM h1 h2⟩
theorem Kh:∀ {a b:Bytes},Op.bytesLess a b=false->Op.bytesLess b a=false->a=b
 | [],[],_,_=>rfl
 | [],_::_,h,_=>by simp[Op.bytesLess]at h
 |_::_,[],_,h=>by simp[Op.bytesLess]at h
 |x::a,y::b,h1,h2=>by
  simp only[Op.bytesLess,Bool.or_eq_false_iff,oK,FG,dH,ne_eq]at h1 h2;have e:x=y:=by
   have h3:=h1.1;have h4:=h2.1;rw[FK]at h3 h4;exact UInt8.toNat_inj.1 (by omega)
  subst e;rw[Kh (h1.2.resolve_left (by simp)) (h2.2.resolve_left (by simp))]
theorem MX{a b:Bytes}(h:Op.bytesLess a b=true):Op.bytesLess b a=false:=by
 cases hb:Op.bytesLess b a with
 |false=>rfl
 |true=>have:=DM h hb;rw[yI]at this;cases this
def SS(l:aJ):Prop:=l.Pairwise fun a b=>Op.bytesLess a b=true
theorem OC:∀ {a b:aJ},SS a->SS b->(∀x,x∈a↔x∈b)->a=b
 | [],[],_,_,_=>rfl
 | [],y::b,_,_,h=>by have:=(h y).2 (by simp);cases this
 |x::a,[],_,_,h=>by have:=(h x).1 (by simp);cases this
 |x::a,y::b,h1,h2,h=>by
  obtain⟨p1,p2⟩:=kD.1 h1;obtain⟨q1,q2⟩:=kD.1 h2;have e:x=y:=by
   refine Kh ?_ ?_
   ·cases hb:Op.bytesLess x y with
    |false=>rfl
    |true=>
     rcases bM.1 ((h x).1 (by simp))with rfl|hx
     ·exact(yI x▸hb).symm
     ·have:=MX (q1 x hx);rw[hb]at this;exact this
   ·cases hb:Op.bytesLess y x with
    |false=>rfl
    |true=>
     rcases bM.1 ((h y).2 (by simp))with rfl|hx
     ·exact(yI y▸hb).symm
     ·have:=MX (p1 y hx);rw[hb]at this;exact this
  subst e;rw[OC p2 q2 (fun z=>?_)];constructor
  ·intro hz;rcases bM.1 ((h z).1 (by simp[hz]))with rfl|Rc
   ·have:=p1 z hz;rw[yI]at this;cases this
   ·exact Rc
  ·intro hz;rcases bM.1 ((h z).2 (by simp[hz]))with rfl|Rc
   ·have:=q1 z hz;rw[yI]at this;cases this
   ·exact Rc
def Ak:aJ->Bytes->aJ
 | [],s=>[s]
 |x::xs,s=>bif Op.bytesLess x s then x::Ak xs s else bif x==s then x::xs else s::x::xs
theorem R3:∀ {l:aJ} {s y:Bytes},y∈Ak l s↔y=s\/y∈l
 | [],s,y=>by simp[Ak]
 |x::xs,s,y=>by
  simp only[Ak];cases Op.bytesLess x s with
  |true=>simp only[aW,bM,R3 (l:=xs)];constructor<;>(rintro(h|h|h)<;>simp[h])
  |false=>
   simp only[aa];cases hx:x==s with
   |true=>
    simp only[cj]at hx;subst hx;simp
   |false=>simp
theorem Yr:∀ {l:aJ} {s:Bytes},SS l->SS (Ak l s)
 | [],s,_=>by simp[Ak,SS]
 |x::xs,s,h=>by
  obtain⟨p1,p2⟩:=kD.1 h;simp only[Ak];cases hb:Op.bytesLess x s with
  |true=>
   simp only[aW];refine kD.2 ⟨fun y hy=>?_,Yr p2⟩;rcases R3.1 hy with rfl|hy
   ·exact hb
   ·exact p1 y hy
  |false=>
   simp only[aa];cases hx:x==s with
   |true=>exact h
   |false=>
    have hs:Op.bytesLess s x=true:=by
     cases hc:Op.bytesLess s x with
     |true=>rfl
     |false=>have:=Kh hb hc;subst this;simp at hx
    refine kD.2 ⟨fun y hy=>?_,h⟩;rcases bM.1 hy with rfl|hy
    ·exact hs
    ·exact DM hs (p1 y hy)
theorem C9:∀(l:aJ) (s:Bytes),(Ak l s).length<=l.length+1
 | [],s=>by simp[Ak]
 |x::xs,s=>by
  have:=C9 xs s;simp only[Ak];cases Op.bytesLess x s<;>simp only[aW,aa,aM]
  ·cases x==s<;>simp
  ·omega
def fL(l:aJ):aJ:=l.foldl Ak []
theorem Hx:∀(l a:aJ) (y:Bytes),y∈l.foldl Ak a↔y∈a\/y∈l
 | [],a,y=>by simp
 |x::l,a,y=>by
  rw[eA,Hx l,R3];simp only[bM];constructor
  ·rintro((h|h)|h)<;>simp[h]
  ·rintro(h|h|h)<;>simp[h]
theorem KL:∀(l:aJ) {a:aJ},SS a->SS (l.foldl Ak a)
 | [],a,h=>h
 |x::l,a,h=>KL l (Yr h)
theorem Hw:∀(l a:aJ),(l.foldl Ak a).length<=a.length+l.length
 | [],a=>by simp
 |x::l,a=>by
  have h1:=Hw l (Ak a x);have h2:=C9 a x;rw[eA,aM];omega
theorem wk{l:aJ}{y:Bytes}:y∈fL l↔y∈l:=by unfold fL;rw[Hx];simp
theorem RO(l:aJ):SS (fL l):=KL l (by simp[SS])
theorem rC(l:aJ):(fL l).length<=l.length:=by have:=Hw l [];simpa[fL]using this
theorem IE{a b:aJ}(h:∀x,x∈a↔x∈b):fL a=fL b:=OC (RO a) (RO b) (fun x=>by rw[wk,wk,h])
theorem Xq(a:aJ)(x:Bytes):Ak (fL a) x=fL (a++[x]):=by simp[fL]
theorem Xp(a b:aJ):b.foldl Ak (fL a)=fL (a++b):=by simp[fL]
theorem IF(a b:aJ):(fL b).foldl Ak (fL a)=fL (a++b):=by
 rw[Xp];exact IE (fun x=>by simp[wk])
theorem o6(l:aJ)(v:Bytes):(fL l).contains v=l.contains v:=by
 rw[bp];simp[wk]
def in1(x:UInt8):Bool:=decide ((x.toNat:Int)>=97)&&decide ((x.toNat:Int)<=122)
def in2(x:UInt8):Bool:=decide ((x.toNat:Int)>=48)&&decide ((x.toNat:Int)<=57)
def ab(x:UInt8):Bool:=in1 x||in2 x
def Zl(s:Bytes):Bool:=decide ((s.length:Int)>=1)&&decide ((s.length:Int)<=8)
def ju(s:Bytes):Bool:=s.all ab&&Zl s
def a5s:Bytes->Bool
 | []=>false
 |x::_=>decide ((x.toNat:Int)>=97)
def B7(s:Bytes):Bool:=ju s&&a5s s
def lR:Bytes->Bool
 | []=>false
 |x::t=>decide ((x.toNat:Int)=63)&&ju t
def qZ(s:Bytes):Bool:=ju s||lR s
theorem IQ{s:Bytes}(h:ju s=true):1<=s.length/\s.length<=8:=by
 simp only[ju,Zl,aY,bJ]at h;omega
theorem SZ{s:Bytes}(h:B7 s=true):1<=s.length/\s.length<=8:=by
 simp only[B7,aY]at h;exact IQ h.1
theorem a3c{s:Bytes}(h:lR s=true):1<=s.length/\s.length<=9:=by
 cases s with
 |nil=>cases h
 |cons x t=>simp only[lR,aY]at h;have:=IQ h.2;simp;omega
theorem a0J{s:Bytes}(h:qZ s=true):1<=s.length/\s.length<=9:=by
 simp only[qZ,ot]at h;rcases h with h|h
 ·have:=IQ h;omega
 ·exact a3c h
theorem BS{s:Bytes}(h:lR s=true):ju s=false:=by
 cases s with
 |nil=>cases h
 |cons x t=>
  simp only[lR,aY,bJ]at h;simp only[ju,dK,ab,in1,in2];have:(x.toNat:Int)=63:=h.1;simp[this]
theorem a6g(x:UInt8):IntKind.i64.wrap ((x.toNat:Nat):Int)=(x.toNat:Int):=gr (th.i64.2 (by have:=x.toNat_lt;omega))
theorem II{n:Nat}(h:n<=1099511627776):IntKind.i64.wrap ((n:Int)+1)=((n+1:Nat):Int):=by rw[gr (th.i64.2 (by omega))];omega
theorem a6S{n:Nat}(h:1<=n):Pj n (some (D.int .i64 1)) none=some (1,n):=by
 unfold Pj;have:(0:Int)<=1/\(1:Int).toNat<=n:=⟨by decide,h⟩
 simp only[bR this];rfl
theorem Nd(a b c:Int):lI a b c=some (decide (a>=b)&&decide (a<=c)):=by
 unfold lI;cases decide (a>=b)<;>rfl
theorem a8J(a:Bytes)(k:Option Bool)(ha:a.length<=1048576):∀(rest pre:Bytes),a=pre++rest->∀n,rest.length<n->jP a k n (pre.length:Int)=bif rest.all ab then k else some false:=by
 intro rest
 induction rest with
 |nil=>
  intro pre h n hn;obtain⟨m,rfl⟩:∃m,n=m+1:=⟨n-1,by simp at hn;omega⟩
  have e1:decide ((pre.length:Int)<(a.length:Int))=false:=by simp[h]
  rw[jP,e1];rfl
 |cons x xs ih=>
  intro pre h n hn;obtain⟨m,rfl⟩:∃m,n=m+1:=⟨n-1,by simp at hn;omega⟩
  have hl:a.length=pre.length+(xs.length+1):=by rw[h];simp
  have e1:decide ((pre.length:Int)<(a.length:Int))=true:=by rw[hl];simp;omega
  have e4:IntKind.i64.wrap ((pre.length:Int)+1)=((pre++[x]).length:Int):=by rw[II (by omega)];simp
  have t:=ih (pre++[x]) (by simp[h]) m (by simp at hn;omega);rw[jP,e1,aW,zh h,aA,a6g,Nd,Nd,aA,aA,e4,t,dK];show(bif !in1 x then(bif !in2 x then _ else _)else _)=bif (in1 x||in2 x)&&xs.all ab then k else some false
  cases in1 x<;>cases in2 x<;>simp
theorem PM(a:Bytes)(ha:a.length<=1048576):fT a=some (ju a):=by
 unfold fT;refine(a8J a _ ha a [] rfl fuel (by unfold fuel;omega)).trans ?_;rw[Nd,aA];show _=some (a.all ab&&Zl a);cases a.all ab<;>rfl
theorem a7c(a:Bytes)(k:Option Bool)(ha:a.length<=1048576):∀(rest pre:Bytes),a=pre++rest->∀n,rest.length<n->gC a k n (pre.length:Int)=bif rest.all ab then k else some false:=by
 intro rest
 induction rest with
 |nil=>
  intro pre h n hn;obtain⟨m,rfl⟩:∃m,n=m+1:=⟨n-1,by simp at hn;omega⟩
  have e1:decide ((pre.length:Int)<(a.length:Int))=false:=by simp[h]
  rw[gC,e1];rfl
 |cons x xs ih=>
  intro pre h n hn;obtain⟨m,rfl⟩:∃m,n=m+1:=⟨n-1,by simp at hn;omega⟩
  have hl:a.length=pre.length+(xs.length+1):=by rw[h];simp
  have e1:decide ((pre.length:Int)<(a.length:Int))=true:=by rw[hl];simp;omega
  have e4:IntKind.i64.wrap ((pre.length:Int)+1)=((pre++[x]).length:Int):=by rw[II (by omega)];simp
  have t:=ih (pre++[x]) (by simp[h]) m (by simp at hn;omega);rw[gC,e1,aW,zh h,aA,e4,t,dK];have c1:decide ((x.toNat:Int)>=97)= !decide ((x.toNat:Int)<97):=by rw[bp];simp
  have c2:decide ((x.toNat:Int)<=122)= !decide ((x.toNat:Int)>122):=by rw[bp];simp
  have c3:decide ((x.toNat:Int)>=48)= !decide ((x.toNat:Int)<48):=by rw[bp];simp
  have c4:decide ((x.toNat:Int)<=57)= !decide ((x.toNat:Int)>57):=by rw[bp];simp
  rw[ab,in1,in2,c1,c2,c3,c4];cases decide ((x.toNat:Int)<97)<;>cases decide ((x.toNat:Int)>122)<;>cases decide ((x.toNat:Int)<48)<;>cases decide ((x.toNat:Int)>57)<;>simp
theorem PA(a:Bytes)(ha:a.length<=1048576):fP a=some (ju a):=by
 unfold fP;rw[show gC a (some true) fuel 0=_ from a7c a _ ha a [] rfl fuel (by unfold fuel;omega)];have c1:decide ((a.length:Int)>=1)= !decide ((a.length:Int)<1):=by rw[bp];simp
 have c2:decide ((a.length:Int)<=8)= !decide ((a.length:Int)>8):=by rw[bp];simp
 rw[ju,Zl,c1,c2];cases decide ((a.length:Int)<1)<;>cases decide ((a.length:Int)>8)<;>cases a.all ab<;>rfl
theorem a2z(a:Bytes)(ha:a.length<=1048576):sA a=some (B7 a):=by
 unfold sA;rw[PM a ha,aA,B7];cases h:ju a with
 |false=>rfl
 |true=>
  cases a with
  |nil=>simp[ju,Zl]at h
  |cons x xs=>
   rw[show mJ (x::xs) 0=some x from rfl];simp only[aW,aA,a6g,Nd,fN,az,a5s];simp only[ju,dK,ab,in1,in2,aY,ot,bJ]at h;rw[bp];simp only[aY,bJ];omega
theorem a26(a:Bytes)(ha:a.length<=1048576):rq a=some (B7 a):=by
 unfold rq;rw[PA a ha,aA,B7];cases h:ju a with
 |false=>rfl
 |true=>
  cases a with
  |nil=>simp[ju,Zl]at h
  |cons x xs=>rfl
theorem Vg(a:Bytes)(ha:a.length<=1048576):iR a=some (lR a):=by
 unfold iR;cases a with
 |nil=>rfl
 |cons x t=>
  simp only[aM]at ha;rw[show mJ (x::t) 0=some x from rfl,aA,a6S (by simp),aA];have e:(((x::t).take ((x::t).length)).drop 1)=t:=by simp
  simp only[e,PM t (by omega),aA,lR,fG];cases t with
  |nil=>cases decide ((x.toNat:Int)=63)<;>rfl
  |cons y t=>
   have e2:decide ((((x::y::t).length:Int):Int)>1)=true:=by simp;omega
   rw[e2];cases decide ((x.toNat:Int)=63)<;>simp
theorem Zf(a:Bytes)(ha:a.length<=1048576):lX a=some (lR a):=by
 unfold lX;cases a with
 |nil=>rfl
 |cons x t=>
  simp only[aM]at ha;rw[show mJ (x::t) 0=some x from rfl,aA,a6S (by simp),aA];have e:(((x::t).take ((x::t).length)).drop 1)=t:=by simp
  simp only[e,PA t (by omega),aA,lR,fG];cases t with
  |nil=>cases decide ((x.toNat:Int)=63)<;>rfl
  |cons y t=>
   have e2:decide ((((x::y::t).length:Int):Int)>1)=true:=by simp;omega
   rw[e2];cases decide ((x.toNat:Int)=63)<;>simp
theorem a3B(a:Bytes)(ha:a.length<=1048576):jF a=some (qZ a):=by
 unfold jF qZ;rw[PM a ha,Vg a ha];cases ju a<;>simp
theorem a2B(a:Bytes)(ha:a.length<=1048576):jE a=some (qZ a):=by
 unfold jE qZ;rw[PA a ha,Zf a ha];cases ju a<;>simp
theorem a3D(l:aJ)(h:l.length<=1099511627776):tX l=some l:=by
 unfold tX;rw[Ve h (by decide)];rfl
theorem TW(l:aJ)(h:l.length<=1099511627776):nE l=some l:=by
 unfold nE;rw[Ve h (by decide)];rfl
theorem a3A(a b:aJ):nY a b=some (decide (a=b)):=by
 unfold nY;exact SJ (c:=tx) (f:=fun x y=>some (x==y)) (fun k=>k7 a b k) (fun _ _=>rfl) (fun _ _ _ _=>rfl) (fun x y=>by rw[az,bp];simp)
theorem a29(a b:aJ):qF a b=some (decide (a=b)):=by
 unfold qF;exact SJ (c:=tx) (f:=fun x y=>some (x==y)) (fun k=>mR a b k) (fun _ _=>rfl) (fun _ _ _ _=>rfl) (fun x y=>by rw[az,bp];simp)
theorem a7q(a b:bI):uR a b=some (decide (a=b)):=by
 unfold uR;exact SJ (c:=dL) (f:=fun x y=>some (x==y)) (fun k=>nF a b k) (fun _ _=>rfl) (fun _ _ _ _=>rfl) (fun x y=>by rw[az,bp];simp)
theorem a2y(l:aJ)(v:Bytes):gz l v=some (l.contains v):=by
 unfold gz;have:∀(r:aJ) (i:Nat),jq l v (some false) r i=some (r.contains v):=by
  intro r
  induction r with
  |nil=>intro i;rfl
  |cons x r ih=>
   intro i;rw[jq,ih,List.contains_cons];have:(x==v)=(v==x):=by rw[bp,cj,cj];exact eq_comm
   rw[this];cases v==x<;>rfl
 exact this l 0
theorem a4l(l:aJ)(v:Bytes):lf l v=some (l.contains v):=by
 unfold lf;have:∀(r:aJ) (i:Nat),lg l v (some false) r i=some (r.contains v):=by
  intro r
  induction r with
  |nil=>intro i;rfl
  |cons x r ih=>
   intro i;rw[lg,ih,List.contains_cons];have:(x==v)=(v==x):=by rw[bp,cj,cj];exact eq_comm
   rw[this];cases v==x<;>rfl
 exact this l 0
theorem a6e(a:aJ)(s:Bytes)(k:Bool->aJ->Option aJ):∀(l:aJ) (i:Nat) (w:aJ),w.length+l.length<1099511627776->
 eW a s k l i true w=k true (w++l):=by
 intro l
 induction l with
 |nil=>intro i w _;simp[eW]
 |cons x xs ih=>
  intro i w h;simp only[aM]at h;rw[eW,bQ,aa,mh (by omega) (by decide),aW,ih _ _ (by simp;omega)];simp
theorem aAw(a:aJ)(s:Bytes)(k:Bool->aJ->Option aJ)(hk:∀w,w.length<1099511627776->k false w=some (w++[s]))(hk2:∀w,k true w=some w):∀(l:aJ) (i:Nat) (w:aJ),w.length+l.length+1<1099511627776->
 eW a s k l i false w=some (w++Ak l s):=by
 intro l
 induction l with
 |nil=>intro i w h;rw[eW,hk w (by omega)];rfl
 |cons x xs ih=>
  intro i w h;simp only[aM]at h;rw[eW,cQ,aW,Ak];cases Op.bytesLess x s with
  |true=>
   simp only[bQ,aa,aW];rw[mh (by omega) (by decide),aW,ih _ _ (by simp;omega)];simp
  |false=>
   simp only[cQ,aW,aa];cases x==s with
   |true=>
    simp only[bQ,aa,aW];rw[mh (by omega) (by decide),aW,a6e _ _ _ _ _ _ (by simp;omega),hk2];simp
   |false=>
    simp only[cQ,aW,aa];rw[mh (by omega) (by decide),aW];have e:room (((w.map tx)++[[D.str s]]).length+([[D.str x]]).length) 16=true:=KU (by simp;omega) (by decide);rw[e,aW,a6e _ _ _ _ _ _ (by simp;omega),hk2];simp
theorem XW(l:aJ)(s:Bytes)(h:l.length+1<1099511627776):lz l s=some (Ak l s):=by
 unfold lz;rw[aAw l s _ (fun w hw=>by simp only[cQ,aW];rw[mh hw (by decide)];rfl) (fun w=>by simp) l 0 [] (by simpa using h)];rfl
def dd:Option Bytes->aJ->aJ
 |_,[]=>[]
 |p,x::xs=>if p=some x then dd (some x) xs else x::dd (some x) xs
theorem Wd:∀ {l:aJ} {p:Option Bytes} {y:Bytes},y∈dd p l->y∈l
 | [],p,y,h=>by cases h
 |x::xs,p,y,h=>by
  simp only[dd]at h;split at h
  ·exact bM.2 (.inr (Wd h))
  ·rcases bM.1 h with rfl|h
   ·simp
   ·exact bM.2 (.inr (Wd h))
theorem a2T:∀ {l:aJ} {p:Option Bytes} {y:Bytes},y∈l->p=some y\/y∈dd p l
 |x::xs,p,y,h=>by
  simp only[dd];rcases bM.1 h with rfl|h
  ·by_cases hp:p=some y
   ·exact .inl hp
   ·rw[bG hp];exact .inr (by simp)
  ·have:=a2T (p:=some x) h;split
   ·rename_i hp;rcases this with e|e
    ·exact .inl (hp.trans e)
    ·exact .inr e
   ·rcases this with e|e
    ·cases e;exact .inr (by simp)
    ·exact .inr (by simp[e])
theorem a5n:∀ {l:aJ} {p:Option Bytes},l.Pairwise (fun a b=>Op.bytesLess b a=false)->(∀q,p=some q->∀y∈l,Op.bytesLess y q=false)->SS (dd p l)/\∀q,p=some q->∀y∈dd p l,Op.bytesLess q y=true
 | [],p,_,_=>⟨by simp[dd,SS],by simp[dd]⟩
 |x::xs,p,h,hp=>by
  obtain⟨p1,p2⟩:=kD.1 h;obtain⟨i1,i2⟩:=a5n (l:=xs) (p:=some x) p2 (fun q hq y hy=>by cases hq;exact p1 y hy);simp only[dd];split
  ·rename_i he;exact⟨i1,fun q hq y hy=>by rw[he]at hq;cases hq;exact i2 x rfl y hy⟩
  ·rename_i he;refine⟨kD.2 ⟨fun y hy=>i2 x rfl y hy,i1⟩,fun q hq y hy=>?_⟩;have hqx:Op.bytesLess q x=true:=by
    cases hc:Op.bytesLess q x with
    |true=>rfl
    |false=>exact absurd (by rw[hq,Kh hc (hp q hq x (by simp))]) he
   rcases bM.1 hy with rfl|hy
   ·exact hqx
   ·exact DM hqx (i2 x rfl y hy)
theorem a3K(l:aJ):oq l=l.mergeSort (fun x y=> !Op.bytesLess y x):=by
 unfold oq
 congr 1
 funext x y
 rw[Go.Proofs.bytesLess_eq];rw[bp];simp[List.not_lt]
theorem U4(l:aJ):(oq l).Pairwise (fun a b=>Op.bytesLess b a=false):=by
 rw[a3K];have:=List.pairwise_mergeSort (le:=fun x y=> !Op.bytesLess y x) (fun a b c h1 h2=>by
  simp only[rD]at h1 h2⊢;cases hc:Op.bytesLess c a with
  |false=>rfl
  |true=>
   cases hb:Op.bytesLess b a with
   |true=>rw[h1]at hb;cases hb
   |false=>
    cases YT:Op.bytesLess a b with
    |true=>have:=DM hc YT;rw[h2]at this;cases this
    |false=>have:=Kh hb YT;subst this;rw[h2]at hc;cases hc) (fun a b=>by
  cases hc:Op.bytesLess b a with
  |false=>simp
  |true=>simp[MX hc]) l
 exact this.imp (fun h=>by simpa using h)
theorem a4T(l:aJ):dd none (oq l)=fL l:=by
 refine OC (a5n (U4 l) (by simp)).1 (RO l) (fun x=>?_);rw[wk];have hm:x∈oq l↔x∈l:=(CF l).mem_iff;constructor
 ·intro h;exact hm.1 (Wd h)
 ·intro h;rcases a2T (p:=none) (hm.2 h)with h|h
  ·cases h
  ·exact h
theorem a2A(a:aJ)(k:aJ->Option aJ)(ha:a.length<=1099511627775):∀(rest pre:aJ) (w:aJ),oq ([]++a)=pre++rest->w.length+rest.length<=1099511627775->
 e9 a k rest pre.length w=k (w++dd pre.getLast? rest):=by
 have hlen:(oq ([]++a)).length=a.length:=(CF _).length_eq;intro rest
 induction rest with
 |nil=>intro pre w _ _;simp[e9,dd]
 |cons x xs ih=>
  intro pre w h hw;simp only[aM]at hw;have hl:pre.length+(xs.length+1)=a.length:=by rw[<-hlen,h];simp
  have t:=fun w'=>ih (pre++[x]) w' (by rw[h];simp)
  simp only[aX,aM,bK,o4]at t;rw[e9];rcases z6 pre with rfl|⟨p,z,hpz⟩
  ·have e0:(((([]:aJ).length:Int):Int)==0)=true:=rfl;rw[e0,aW,mh (by omega) (by decide),aW,t _ (by simp;omega)];simp[dd]
  ·rw[yz]at hpz;subst hpz;have e0:((((p++[z]).length:Int):Int)==0)=false:=by simp;omega
   have e1:IntKind.i64.wrap (((p++[z]).length:Int)-1)=(p.length:Int):=by
    rw[gr (th.i64.2 (by simp at hl⊢;omega))];simp
   have e2:mJ (oq ([]++a)) (p.length:Int)=some z:=zh (xs:=x::xs) (by rw[h];simp);rw[e0,aa,e1,e2,aA];simp only[dd,o4];by_cases hz:z=x
   ·subst hz;have e3:((z:Bytes)==z)=true:=by simp
    rw[e3,bQ,aa,t _ (by omega),bR rfl]
   ·have e3:((z:Bytes)==x)=false:=by simpa using hz
    rw[e3,cQ,aW,mh (by omega) (by decide),aW,t _ (by simp;omega),bG (by simpa using hz)];simp
theorem TV(l:aJ)(h:l.length<1099511627775):kK l=some (fL l):=by
 have hlen:(oq ([]++l)).length=l.length:=(CF _).length_eq;unfold kK;have e1:decide ((([]:aJ)++l).length<4611686018427387904)=true:=by simp;omega
 rw[Ve (by omega) (by decide),aW,e1,aW,xA (by rw[hlen];omega),aW];have:=a2A l (fun q=>some q) (by omega) (oq ([]++l)) [] [] rfl (by rw[hlen];simp;omega);rw[show([]:aJ).length=0 from rfl]at this;rw[this,<-a4T];simp
end Go.Cx
namespace Go.Cx
open Go.RowKit Go.Proofs Tryz
theorem aE.Ts{p:aE}{n:Nat}(h:p.wt<=n):p.rel.length<=n:=by unfold aE.wt tw at h;omega
theorem aE.dY{p:aE}{n:Nat}(h:p.wt<=n):p.args.length<=n:=by unfold aE.wt at h;have:=gu tw p.args;omega
theorem aE.vU{p:aE}{n:Nat}(h:p.wt<=n){x:Bytes}(hx:x∈p.args):x.length<=n:=by unfold aE.wt at h;have:=iZ (w:=tw) hx;have e:tw x=x.length:=rfl;omega
theorem aQ.fK{c:aQ}{n:Nat}(h:c.wt<=n):c.pat.wt<=n:=by simp only[aQ.wt,aE.wt]at h⊢;omega
theorem aQ.Cg{c:aQ}{n:Nat}(h:c.wt<=n):c.left.length<=n:=by simp only[aQ.wt,tw]at h;omega
theorem aQ.AN{c:aQ}{n:Nat}(h:c.wt<=n):c.right.length<=n:=by simp only[aQ.wt,tw]at h;omega
theorem Action.fK{c:Action}{n:Nat}(h:c.wt<=n):c.pat.wt<=n:=by simp only[Action.wt,aE.wt]at h⊢;omega
theorem aO.Yg{r:aO}{n:Nat}(h:r.wt<=n):r.name.length<=n:=by simp only[aO.wt,tw]at h;omega
theorem aO.uJ{r:aO}{n:Nat}(h:r.wt<=n):k8 aQ.wt r.conds<=n:=by simp only[aO.wt]at h;omega
theorem aO.MV{r:aO}{n:Nat}(h:r.wt<=n):k8 Action.wt r.cu<=n:=by simp only[aO.wt]at h;omega
theorem aO.sM{r:aO}{n:Nat}(h:r.wt<=n){c:aQ}(hc:c∈r.conds):c.wt<=n:=by have:=aO.uJ h;have:=iZ (w:=aQ.wt) hc;omega
theorem aO.T5{r:aO}{n:Nat}(h:r.wt<=n){c:Action}(hc:c∈r.cu):c.wt<=n:=by have:=aO.MV h;have:=iZ (w:=Action.wt) hc;omega
theorem Ot(f:aE)(h:f.args.length<=1099511627776):ez f=some f:=by
 unfold ez;rw[a3D _ h];rfl
theorem Oj(f:aE)(h:f.args.length<=1099511627776):eF f=some f:=by
 unfold eF;rw[TW _ h];rfl
theorem a39(a b:aE):sD a b=some (decide (a=b)):=by
 obtain⟨a0,a1⟩:=a;obtain⟨b0,b1⟩:=b;unfold sD;simp only[a3A,aA,fG];by_cases h0:a0=b0<;>by_cases h1:a1=b1<;>simp[h0,h1]
theorem a27(a b:aE):oy a b=some (decide (a=b)):=by
 obtain⟨a0,a1⟩:=a;obtain⟨b0,b1⟩:=b;unfold oy;simp only[a29,aA,fG];by_cases h0:a0=b0<;>by_cases h1:a1=b1<;>simp[h0,h1]
theorem XX(a b:aE):j9 a b=some (decide (a=b)):=by
 obtain⟨a0,a1⟩:=a;obtain⟨b0,b1⟩:=b;unfold j9;simp only[a3A,aA,fG];by_cases h0:a0=b0<;>by_cases h1:a1=b1<;>simp[h0,h1]
theorem Qo(a b:aE):fQ a b=some (decide (a=b)):=by
 obtain⟨a0,a1⟩:=a;obtain⟨b0,b1⟩:=b;unfold fQ;simp only[a29,aA,fG];by_cases h0:a0=b0<;>by_cases h1:a1=b1<;>simp[h0,h1]
theorem U0(a b:aK):nX a b=some (decide (a=b)):=by
 unfold nX;exact SJ (c:=aE.c) (f:=sD) (fun k=>mX a b k) (fun _ _=>rfl) (fun _ _ _ _=>rfl) a39
theorem Py(a b:aK):jM a b=some (decide (a=b)):=by
 unfold jM;exact SJ (c:=aE.c) (f:=oy) (fun k=>mM a b k) (fun _ _=>rfl) (fun _ _ _ _=>rfl) a27
def yx(p:aE):Bool:=p.args.all qZ&&(B7 p.rel&&decide ((p.args.length:Int)<=3))
def tj(f:aE):Bool:=f.args.all ju&&(B7 f.rel&&decide ((f.args.length:Int)<=3))
theorem a2x(f:aE)(h:f.wt<=1048576):pg f=some (tj f):=by
 unfold pg;rw[ZH (f:=fT) (L:=qL f _) (fun _=>rfl) (fun _ _ _=>rfl) f.args 0 (fun x hx=>PM x (aE.vU h hx)),a2z _ (aE.Ts h),aA,aZ,tj];cases f.args.all ju<;>cases B7 f.rel<;>rfl
theorem a25(f:aE)(h:f.wt<=1048576):pZ f=some (tj f):=by
 unfold pZ;rw[ZH (f:=fP) (L:=qC f _) (fun _=>rfl) (fun _ _ _=>rfl) f.args 0 (fun x hx=>PA x (aE.vU h hx)),a26 _ (aE.Ts h),aA,aZ,tj];have c:decide ((f.args.length:Int)<=3)= !decide ((f.args.length:Int)>3):=by rw[bp];simp
 rw[c];cases f.args.all ju<;>cases B7 f.rel<;>cases decide ((f.args.length:Int)>3)<;>rfl
theorem a8U(f:aE)(h:f.wt<=1048576):jQ f=some (yx f):=by
 unfold jQ;rw[ZH (f:=jF) (L:=mW f _) (fun _=>rfl) (fun _ _ _=>rfl) f.args 0 (fun x hx=>a3B x (aE.vU h hx)),a2z _ (aE.Ts h),aA,aZ,yx];cases f.args.all qZ<;>cases B7 f.rel<;>rfl
theorem a7n(f:aE)(h:f.wt<=1048576):jJ f=some (yx f):=by
 unfold jJ;rw[ZH (f:=jE) (L:=mL f _) (fun _=>rfl) (fun _ _ _=>rfl) f.args 0 (fun x hx=>a2B x (aE.vU h hx)),a26 _ (aE.Ts h),aA,aZ,yx];have c:decide ((f.args.length:Int)<=3)= !decide ((f.args.length:Int)>3):=by rw[bp];simp
 rw[c];cases f.args.all qZ<;>cases B7 f.rel<;>cases decide ((f.args.length:Int)>3)<;>rfl
def jZ(l:aJ):aJ:=l.filter lR
theorem yS(l:aJ):(jZ l).length<=l.length:=qf _ _
theorem Sn(a b:aJ):jZ (a++b)=jZ a++jZ b:=List.filter_append _ _
theorem Ny(p:aE)(h:p.wt<=1048576):ny p=some (fL (jZ p.args)):=by
 unfold ny;have:∀(r:aJ) (i:Nat) (w:aJ),(∀x∈r,x.length<=1048576)->w.length+r.length<=2097152->lH p (fun q=>some q) r i w=some ((jZ r).foldl Ak w):=by
  intro r
  induction r with
  |nil=>intro i w _ _;rfl
  |cons x r ih=>
   intro i w hr hw;simp only[aM]at hw;have hl:=C9 w x;rw[lH,Vg x (hr x (by simp)),aA,XW w x (by omega),aA,ih _ _ (fun y hy=>hr y (by simp[hy])) (by omega),ih _ _ (fun y hy=>hr y (by simp[hy])) (by omega)];cases hv:lR x<;>simp[jZ,hv]
 exact this p.args 0 [] (fun x hx=>aE.vU h hx) (by have:=aE.dY h;simp;omega)
theorem a2D(l:aJ)(hl:l.length<=2097152)(h:∀x∈l,x.length<=1048576):nG l=some (jZ l):=by
 unfold nG;have:∀(r:aJ) (i:Nat) (w:aJ),(∀x∈r,x.length<=1048576)->w.length+r.length<=2097152->fp l (fun q=>some q) r i w=some (w++jZ r):=by
  intro r
  induction r with
  |nil=>intro i w _ _;simp[fp,jZ]
  |cons x r ih=>
   intro i w hr hw;simp only[aM]at hw;rw[fp,Zf x (hr x (by simp)),aA,mh (by omega) (by decide),ih _ _ (fun y hy=>hr y (by simp[hy])) (by simp;omega),ih _ _ (fun y hy=>hr y (by simp[hy])) (by omega)];cases hv:lR x<;>simp[jZ,hv]
 exact this l 0 [] h (by simpa using hl)
def rF(c:aQ):aJ:=jZ (c.pat.args++[c.left,c.right])
theorem zU{c:aQ}{n:Nat}(h:c.wt<=n):(rF c).length<=n+2:=by
 have h1:=yS (c.pat.args++[c.left,c.right]);have h2:=aE.dY (aQ.fK h);simp only[aX,aM,bK]at h1;unfold rF;omega
theorem XU(c:aQ)(h:c.wt<=1048576):mc c=some (fL (rF c)):=by
 unfold mc;have h1:=aE.dY (aQ.fK h);have h2:=rC (jZ c.pat.args);have h3:=yS c.pat.args;have h4:=C9 (fL (jZ c.pat.args)) c.left;rw[Ny _ (aQ.fK h),aA,Vg _ (aQ.Cg h),aA,Vg _ (aQ.AN h)];simp only[aA];rw[XW _ _ (by omega),XW _ _ (by omega),aA,XW _ _ (by omega)];simp only[aA,rF,Sn,Xq];cases hl:lR c.left<;>cases hr:lR c.right<;>simp[jZ,hl,hr]
theorem a2C(c:aQ)(h:c.wt<=1048576):sy c=some (c.pat.args++[c.left,c.right]):=by
 unfold sy;have h1:=aE.dY (aQ.fK h);rw[TW _ (by omega),aA];rw[KU (by simp;omega) (by decide)];rfl
theorem X4(c:aQ)(h:c.wt<=1048576):ou c=some (fL (rF c)):=by
 unfold ou;have h1:=aE.dY (aQ.fK h);have h5:=zU h;rw[a2C c h,aA,a2D _ (by simp;omega) (fun x hx=>by
  simp only[au,bM,sR,GK]at hx;rcases hx with hx|rfl|rfl
  ·exact aE.vU (aQ.fK h) hx
  ·exact aQ.Cg h
  ·exact aQ.AN h),aA]
 rw[show jZ (c.pat.args++[c.left,c.right])=rF c from rfl,TV _ (by omega)];rfl
def IM(p:aE):Bool:=p.rel==[]&&decide ((p.args.length:Int)=0)
def sU(c:aQ):Bool:=bif decide (c.kind=1)||decide (c.kind=2)then yx c.pat&&(c.left==[]&&c.right==[])else bif decide (c.kind=3)||decide (c.kind=4)||decide (c.kind=5)then IM c.pat&&(qZ c.left&&qZ c.right)else false
def O0(c:aQ):Bool:=sU c&&decide (c.kind>=3)
theorem Kj{c:aQ}(h:sU c=true):1<=c.kind/\c.kind<=5:=by
 unfold sU at h;by_cases h1:c.kind=1
 ·omega
 by_cases h2:c.kind=2
 ·omega
 by_cases h3:c.kind=3
 ·omega
 by_cases h4:c.kind=4
 ·omega
 by_cases h5:c.kind=5
 ·omega
 simp[h1,h2,h3,h4,h5]at h
theorem a2u(c:aQ)(h:c.wt<=1048576):s9 c=some (sU c):=by
 unfold s9 sU IM;simp only[a8U _ (aQ.fK h),a3B _ (aQ.Cg h),a3B _ (aQ.AN h),aA,aZ,fG];by_cases h1:c.kind=1
 ·simp only[h1];cases yx c.pat<;>cases decide (c.left=[])<;>simp
 by_cases h2:c.kind=2
 ·simp only[h2];cases yx c.pat<;>cases decide (c.left=[])<;>simp
 by_cases h3:c.kind=3
 ·simp only[h3];cases decide (c.pat.rel=[])<;>cases decide ((c.pat.args.length:Int)=0)<;>cases qZ c.left<;>simp
 by_cases h4:c.kind=4
 ·simp only[h4];cases decide (c.pat.rel=[])<;>cases decide ((c.pat.args.length:Int)=0)<;>cases qZ c.left<;>simp
 by_cases h5:c.kind=5
 ·simp only[h5];cases decide (c.pat.rel=[])<;>cases decide ((c.pat.args.length:Int)=0)<;>cases qZ c.left<;>simp
 simp[h1,h2,h3,h4,h5]
theorem a63(p:aE):iy p=some (IM p):=by
 unfold iy IM;simp only[aZ,fG];cases decide (p.rel=[])<;>rfl
theorem a1z(c:aQ)(h:c.wt<=1048576):rp c=some (sU c):=by
 unfold rp sU;simp only[a7n _ (aQ.fK h),a2B _ (aQ.Cg h),a2B _ (aQ.AN h),a63,aA,fG];by_cases h1:c.kind=1
 ·simp only[h1];cases yx c.pat<;>cases decide (c.left=[])<;>simp
 by_cases h2:c.kind=2
 ·simp only[h2];cases yx c.pat<;>cases decide (c.left=[])<;>simp
 by_cases h3:c.kind=3
 ·simp only[h3];cases IM c.pat<;>cases qZ c.left<;>cases qZ c.right<;>simp
 by_cases h4:c.kind=4
 ·simp only[h4];cases IM c.pat<;>cases qZ c.left<;>cases qZ c.right<;>simp
 by_cases h5:c.kind=5
 ·simp only[h5];cases IM c.pat<;>cases qZ c.left<;>cases qZ c.right<;>simp
 simp[h1,h2,h3,h4,h5]
theorem a3C(c:aQ)(h:c.wt<=1048576):sB c=some (O0 c):=by
 unfold sB O0;rw[a2u c h];cases sU c<;>rfl
theorem aAI(c:aQ)(h:c.wt<=1048576):xP c=some (O0 c):=by
 unfold xP O0;rw[a1z c h];cases sU c<;>rfl
theorem a38(a b:aQ):p6 a b=some (decide (a=b)):=by
 obtain⟨a0,a1,a2,a3⟩:=a;obtain⟨b0,b1,b2,b3⟩:=b;unfold p6;simp only[XX,aA,fG];by_cases h0:a0=b0<;>by_cases h1:a1=b1<;>by_cases h2:a2=b2<;>by_cases h3:a3=b3<;>simp[h0,h1,h2,h3]
theorem TU(a b:aQ):kA a b=some (decide (a=b)):=by
 obtain⟨a0,a1,a2,a3⟩:=a;obtain⟨b0,b1,b2,b3⟩:=b;unfold kA;simp only[Qo,aA,fG];by_cases h0:a0=b0<;>by_cases h1:a1=b1<;>by_cases h2:a2=b2<;>by_cases h3:a3=b3<;>simp[h0,h1,h2,h3]
def QH(a:Action):Bool:=bif decide (a.kind=1)||decide (a.kind=2)then yx a.pat else bif decide (a.kind=3)then IM a.pat else false
theorem aDV(a:Action)(h:a.wt<=1048576):uf a=some (QH a):=by
 unfold uf QH IM;simp only[a8U _ (Action.fK h),aA,aZ,fG];by_cases h1:a.kind=1
 ·simp[h1]
 by_cases h2:a.kind=2
 ·simp[h2]
 by_cases h3:a.kind=3
 ·simp only[h3];cases decide (a.pat.rel=[])<;>simp
 simp[h1,h2,h3]
theorem aD8(a:Action)(h:a.wt<=1048576):uO a=some (QH a):=by
 unfold uO QH;simp only[a7n _ (Action.fK h),a63,aA,fG];by_cases h1:a.kind=1
 ·simp[h1]
 by_cases h2:a.kind=2
 ·simp[h2]
 by_cases h3:a.kind=3
 ·simp[h3]
 simp[h1,h2,h3]
end Go.Cx
namespace Go.Cx
open Go.RowKit Go.Proofs Tryz
theorem a5A:∀(k v:Nat),v<10^k->1<=k->Lib.nDigits v<=k:=by
 intro k
 induction k with
 |zero=>intro v _ h;omega
 |succ k ih=>
  intro v hv _;by_cases h10:v<10
  ·rw[Lib.nDigits_small h10];omega
  ·rw[Lib.nDigits_big h10];have h3:v/10<10^k:=by rw[yZ]at hv;omega
   have hk1:1<=k:=by
    cases k with
    |zero=>simp at hv;omega
    |succ k=>omega
   have:=ih (v/10) h3 hk1;omega
theorem XI{u:Nat}(h:u<=9223372036854775808):Lib.nDigits u<=19:=a5A 19 u (by omega) (by omega)
theorem aBw(u:Nat):UInt8.ofNat (IntKind.u8.wrap (IntKind.i64.wrap (48+((u:Int)%10)))).toNat=UInt8.ofNat (48+u%10):=by
 rw[gr (k:=.i64) (th.i64.2 (by omega)),gr (th.u8.2 (by omega))]
 congr 1
theorem a6b(k:Option Bytes):∀(n u:Nat) (acc:Bytes),Lib.nDigits u<=n->acc.length+Lib.nDigits u<=1000->iO k n (u:Int) acc=some (Lib.decDigits u++acc):=by
 intro n
 induction n with
 |zero=>intro u acc h _;have:=Lib.nDigits_pos u;omega
 |succ n ih=>
  intro u acc hn hl;have hp:=Lib.nDigits_pos u;have e0:(decide (0<=(u:Int))&&decide (0<(10:Int)))=true:=by simp
  have e1:decide (([UInt8.ofNat (48+u%10)]:Bytes).length+(acc:Bytes).length<=maxLen)=true:=by unfold maxLen;simp;omega
  rw[iO];simp only[aBw,e0,e1,aW];by_cases h10:u<10
  ·have e2:(((u:Int)/10:Int)==0)=true:=by rw[cj];omega
   rw[e2,aW,Lib.decDigits,dif_pos h10,Nat.mod_eq_of_lt h10]
  ·have e2:(((u:Int)/10:Int)==0)=false:=by rw[dH];omega
   have e3:((u:Int)/10)=((u/10:Nat):Int):=by omega
   have hd:=Lib.nDigits_big h10;rw[e2,aa,e3,ih (u/10) _ (by omega) (by simp;omega)]
   conv=>rhs;rw[Lib.decDigits,dif_neg h10]
   simp
theorem aAo(m u:Nat)(h:u<=9223372036854775807):gj (m+1) (u:Int)=some (Lib.decDigits u):=by
 rw[gj];have e1:((u:Int)==(-9223372036854775808))=false:=by rw[dH];omega
 have e2:decide ((u:Int)<0)=false:=by simp
 have:=XI (u:=u) (by omega);rw[e1,aa,e2,aa,a6b _ _ _ _ (by unfold fuel;omega) (by simp;omega)];simp
theorem a2G:Lib.itoa (-9223372036854775808)=[45,57,50,50,51,51,55,50,48,51,54,56,53,52,55,55,53,56,48,56]:=by
 unfold Lib.itoa;simp[Lib.decDigits]
theorem aAn(n:Int)(h:th .i64 n):qK n=some (Lib.itoa n):=by
 have h:=th.i64.1 h;unfold qK;rw[show fuel=4194303+1 from rfl,gj];by_cases hm:n= -9223372036854775808
 ·subst hm;rw[a2G];rfl
 have e1:((n:Int)==(-9223372036854775808))=false:=by rw[dH];exact hm
 rw[e1,aa];by_cases hn:n<0
 ·have e2:decide (n<0)=true:=by simpa using hn
  have e3:IntKind.i64.wrap (0-n)=((n.natAbs:Nat):Int):=by rw[gr (th.i64.2 (by omega))];omega
  have hd:=XI (u:=n.natAbs) (by omega);rw[e2,aW,e3,show(4194303:Nat)=4194302+1 from rfl,aAo _ _ (by omega),aA];have e4:decide (([45]:Bytes).length+(Lib.decDigits n.natAbs:Bytes).length<=maxLen)=true:=by unfold maxLen;rw[Lib.decDigits_length];simp;omega
  rw[e4,aW];unfold Lib.itoa;rw[bR hn];rfl
 ·have e2:decide (n<0)=false:=by simpa using hn
  have e3:n=((n.toNat:Nat):Int):=by omega
  have:=XI (u:=n.toNat) (by omega);rw[e2,aa]
  conv=>lhs;rw[e3]
  rw[a6b _ _ _ _ (by unfold fuel;omega) (by simp;omega)];unfold Lib.itoa;rw[bG hn];simp
theorem a7j(n:Int):kp n=some (Lib.itoa n):=by
 unfold kp C6;rfl
theorem Qq(n:Int)(h:th .i64 n):(Lib.itoa n).length<=21:=by
 have:=th.i64.1 h;exact Lib.itoa_length_le n this.1 this.2
def FD(to:aT)(s:Bytes):Bytes:=match to with
 | []=>s
 |p::r=>bif p.var==s then p.value else FD r s
def RJ(to:aT)(x:aQ):aQ:=⟨x.kind,⟨x.pat.rel,x.pat.args.map (FD to)⟩,FD to x.left,FD to x.right⟩
theorem sRn(to:aT)(s:Bytes):lJ s to=some (FD to s):=by
 unfold lJ;have:∀(r:aT) (i:Nat),jr s to (some s) r i=some (FD r s):=by
  intro r
  induction r with
  |nil=>intro i;rfl
  |cons x r ih=>
   intro i;rw[jr,ih,FD];cases x.var==s<;>rfl
 exact this to 0
theorem iRn(to:aT)(s:Bytes):iv s to=some (FD to s):=by
 unfold iv;have:∀(r:aT) (i:Nat),iN s to (some s) r i=some (FD r s):=by
  intro r
  induction r with
  |nil=>intro i;rfl
  |cons x r ih=>
   intro i;rw[iN,ih,FD];cases x.var==s<;>rfl
 exact this to 0
theorem a8X(x:aQ)(to:aT)(h:x.pat.args.length<=1099511627770):jw x to=some (RJ to x):=by
 unfold jw;rw[sRn,aA,sRn,aA];rw[GA (c:=tx) (b:=16) (f:=fun a=>lJ a to) (g:=FD to) (L:=lG x to (FD to x.left) (FD to x.right) _) (k:=_) (by decide) (fun _ _=>rfl) (fun _ _ _ _=>rfl) _ _ _ (fun a _=>sRn to a) (by simp;omega)];rfl
theorem aAE(x:aQ)(to:aT)(h:x.pat.args.length<=1099511627770):lY x to=some (RJ to x):=by
 unfold lY;rw[iRn,aA,iRn,aA];rw[GA (c:=tx) (b:=16) (f:=fun a=>iv a to) (g:=FD to) (L:=kx x to (FD to x.left) (FD to x.right) _) (k:=_) (by decide) (fun _ _=>rfl) (fun _ _ _ _=>rfl) _ _ _ (fun a _=>iRn to a) (by simp;omega)];rfl
def Hy(l:aT)(t:Bytes):Bool:=l.any fun p=>p.var==t
def jY(l:aT)(t:Bytes):aT:=bif lR t&& !Hy l t then l++[⟨t,[63]++Lib.itoa ((l.length:Int)+1)⟩]else l
theorem Dt(l:aT)(t:Bytes):(jY l t).length<=l.length+1:=by
 unfold jY;cases lR t&& !Hy l t<;>simp
theorem Ag:∀(ts:aJ) (l:aT),(ts.foldl jY l).length<=l.length+ts.length
 | [],l=>by simp
 |t::ts,l=>by
  have h1:=Ag ts (jY l t);have h2:=Dt l t;rw[eA,aM];omega
theorem Ty(l:aT)(t:Bytes)(hl:l.length<=1099511627770)(ht:t.length<=1048576):pu l t=some (jY l t):=by
 unfold pu;rw[Vg t ht,aA,jY];cases hv:lR t with
 |false=>rfl
 |true=>
  rw[bQ,aa,fN];have key:∀(k:Option aT) (r:aT) (i:Nat),nq l t k r i=bif Hy r t then some l else k:=by
   intro k r
   induction r with
   |nil=>intro i;rfl
   |cons x r ih=>
    intro i;rw[nq,ih];simp only[Hy,vB];cases x.var==t<;>simp
  rw[key];cases Hy l t with
  |true=>rfl
  |false=>
   have e1:IntKind.i64.wrap (((l.map aS.c).length:Int)+1)=(l.length:Int)+1:=by rw[gr (th.i64.2 (by simp;omega))];simp
   have hr:th .i64 ((l.length:Int)+1):=th.i64.2 (by omega);have hi:=Qq _ hr;have e2:decide (([63]:Bytes).length+(Lib.itoa ((l.length:Int)+1):Bytes).length<=maxLen)=true:=by unfold maxLen;simp;omega
   simp only[aa,cQ,aW];rw[e1,aAn _ hr,aA,e2,aW,mh (by omega) (by decide)];rfl
theorem VP(x y:Bytes):∀(m:List (Bytes×Bool)),Nk false y (Qy x true m)=(y==x||Nk false y m)
 | []=>by simp only[Qy,Nk];cases y==x<;>rfl
 |p::m=>by
  simp only[Qy];cases h:x==p.1 with
  |true=>
   have h':x=p.1:=by simpa using h
   subst h';simp only[aW,Nk];cases y==p.1<;>simp
  |false=>
   simp only[aa,Nk,VP x y m];cases hy:y==p.1 with
   |true=>
    have h1:y=p.1:=by simpa using hy
    have h2:(y==x)=false:=by
     rw[dH]at h⊢;intro e;exact h (e.symm.trans h1)
    simp[h2]
   |false=>simp
theorem ZZ(l:aT)(x y v:Bytes):Hy (l++[⟨x,v⟩]) y=(y==x||Hy l y):=by
 have:(x==y)=(y==x):=by rw[bp,cj,cj];exact eq_comm
 simp only[Hy,List.any_append,vB,MN,vA,this];cases y==x<;>simp
theorem Ya(ts:aJ)(hl:ts.length<=1099511627700)(h:∀x∈ts,x.length<=1048576):oP ts=some (ts.foldl jY []):=by
 unfold oP;have key:∀(r:aJ) (i:Nat) (w:aT) (m:List (Bytes×Bool)),(∀x∈r,x.length<=1048576)->w.length+r.length<=1099511627700->(∀y,Nk false y m=Hy w y)->
  fI ts (fun q=>some q) r i w m=some (r.foldl jY w):=by
  intro r
  induction r with
  |nil=>intro i w m _ _ _;rfl
  |cons x r ih=>
   intro i w m hx hw hm;simp only[aM]at hw;have hr:th .i64 ((w.length:Int)+1):=th.i64.2 (by omega);have hi:=Qq _ hr;have e1:IntKind.i64.wrap (((w.map aS.c).length:Int)+1)=(w.length:Int)+1:=by rw[gr (th.i64.2 (by simp;omega))];simp
   have e2:decide (([63]:Bytes).length+(Lib.itoa ((w.length:Int)+1):Bytes).length<=maxLen)=true:=by unfold maxLen;simp;omega
   rw[fI,Zf x (hx x (by simp)),aA,eA,jY,hm x];cases hv:lR x with
   |false=>simp only[aa,Bool.false_and];exact ih _ _ _ (fun y hy=>hx y (by simp[hy])) (by omega) hm
   |true=>
    cases hh:Hy w x with
    |true=>simp only[aW,bQ,aa,fN];exact ih _ _ _ (fun y hy=>hx y (by simp[hy])) (by omega) hm
    |false=>
     simp only[aW,cQ,fN];rw[e1,a7j,aA,e2,aW,mh (by omega) (by decide),aW];exact ih _ _ _ (fun y hy=>hx y (by simp[hy])) (by simp;omega) (fun y=>by rw[VP,ZZ,hm])
 exact key ts 0 [] [] h (by simpa using hl) (fun y=>rfl)
def vl(p:aE):aE:=(RJ (p.args.foldl jY []) ⟨0,p,[],[]⟩).pat
theorem a8a(p:aE)(h:p.wt<=1048576):tW p=some (vl p):=by
 have hl:=aE.dY h;unfold tW;have key:∀(k:aT->Option aE) (r:aJ) (i:Nat) (w:aT),(∀x∈r,x.length<=1048576)->w.length+r.length<=1099511627700->lq p k r i w=k (r.foldl jY w):=by
  intro k r
  induction r with
  |nil=>intro i w _ _;rfl
  |cons x r ih=>
   intro i w hx hw;simp only[aM]at hw;have:=Dt w x;rw[lq,Ty w x (by omega) (hx x (by simp)),aA,ih _ _ (fun y hy=>hx y (by simp[hy])) (by omega)];rfl
 rw[key _ _ _ _ (fun x hx=>aE.vU h hx) (by simp;omega),a8X _ _ (by simp;omega)];rfl
theorem a7s(p:aE)(h:p.wt<=1048576):si p=some (vl p):=by
 have hl:=aE.dY h;unfold si;rw[Ya _ (by omega) (fun x hx=>aE.vU h hx),aA,aAE _ _ (by simp;omega)];rfl
def Al(l:aq):aJ:=l.flatMap fun c=>c.pat.args++[c.left,c.right]
theorem Xg(l:aq):(Al l).length<=3*k8 aQ.wt l:=by
 unfold Al
 induction l with
 |nil=>simp
 |cons x l ih=>
  rw[dN,aX,qe];have:=aE.dY (aQ.fK (c:=x) (bS _));simp only[aX,aM,bK];omega
def qW(r:aO):aT:=(Al r.conds).foldl jY []
def gy(r:aO):aq:=r.conds.map (RJ (qW r))
theorem a30(a:aO)(i:Nat)(c:aQ)(k:aT->Option aT):∀(r:aJ) (j:Nat) (w:aT),(∀x∈r,x.length<=1048576)->w.length+r.length<=1099511627700->j7 a i c k r j w=k (r.foldl jY w):=by
 intro r
 induction r with
 |nil=>intro i w _ _;rfl
 |cons x r ih=>
  intro i w hx hw;simp only[aM]at hw;have:=Dt w x;rw[j7,Ty w x (by omega) (hx x (by simp)),aA,ih _ _ (fun y hy=>hx y (by simp[hy])) (by omega)];rfl
theorem a8S(r:aO)(h:r.wt<=1048576):rR r=some (qW r):=by
 unfold rR;have key:∀(l:aq) (i:Nat) (w:aT),(∀c∈l,c.wt<=1048576)->w.length+3*k8 aQ.wt l<=1099511627700->j6 r (fun q=>some q) l i w=some ((Al l).foldl jY w):=by
  intro l
  induction l with
  |nil=>intro i w _ _;rfl
  |cons c l ih=>
   intro i w hc hw;rw[qe]at hw;have Wt:=hc c (by simp);have ha:=aE.dY (aQ.fK (c:=c) (bS _));have h1:=Ag c.pat.args w;have h2:=Dt (c.pat.args.foldl jY w) c.left;have h3:=Dt (jY (c.pat.args.foldl jY w) c.left) c.right;rw[j6,xA (by omega),aW,a30 _ _ _ _ _ _ _ (fun x hx=>aE.vU (aQ.fK Wt) hx) (by omega),Ty _ _ (by omega) (aQ.Cg Wt),aA,Ty _ _ (by omega) (aQ.AN Wt),aA,
    ih _ _ (fun y hy=>hc y (by simp[hy])) (by omega)]
   simp[Al]
 have:=aO.uJ h;exact key r.conds 0 [] (fun c hc=>aO.sM h hc) (by simp;omega)
theorem a7m(r:aO)(h:r.wt<=1048576):rJ r=some (qW r):=by
 unfold rJ;have hw:=aO.uJ h;have key:∀(k:aJ->Option aT) (l:aq) (i:Nat) (w:aJ),(∀c∈l,c.wt<=1048576)->w.length+3*k8 aQ.wt l<=1099511627700->gP r k l i w=k (w++Al l):=by
  intro k l
  induction l with
  |nil=>intro i w _ _;simp[gP,Al]
  |cons c l ih=>
   intro i w hc hw;rw[qe]at hw;have Wt:=hc c (by simp);have ha:=aE.dY (aQ.fK (c:=c) (bS _));rw[gP,a2C c Wt,aA,a2p (by simp;omega) (by decide),aW,ih _ _ (fun y hy=>hc y (by simp[hy])) (by simp;omega)];simp[Al]
 have hl:=Xg r.conds;rw[key _ _ _ _ (fun c hc=>aO.sM h hc) (by simp;omega),cI,Ya _ (by omega) ?_]
 ·rfl
 ·intro x hx;unfold Al at hx;obtain⟨c,hc,hx⟩:=cE.1 hx;have Wt:=aO.sM h hc;rcases au.1 hx with hx|hx
  ·exact aE.vU (aQ.fK Wt) hx
  ·simp only[bM,sR,GK]at hx;rcases hx with rfl|rfl
   ·exact aQ.Cg Wt
   ·exact aQ.AN Wt
theorem a8K(r:aO)(h:r.wt<=1048576):rQ r=some (gy r):=by
 unfold rQ;have hw:=aO.uJ h;have hl:=gu aQ.wt r.conds;rw[a8S r h,aA];rw[GA (c:=aQ.c) (b:=80) (f:=fun a=>jw a (qW r)) (g:=RJ (qW r)) (L:=lF r (qW r) _) (k:=_) (by decide) (fun _ _=>rfl) (fun _ _ _ _=>rfl) _ _ _ (fun c hc=>a8X c _ (by have:=aE.dY (aQ.fK (aO.sM h hc));omega)) (by simp;omega)];simp[gy]
theorem a7e(r:aO)(h:r.wt<=1048576):rI r=some (gy r):=by
 unfold rI;have hw:=aO.uJ h;have hl:=gu aQ.wt r.conds;rw[a7m r h,aA];rw[GA (c:=aQ.c) (b:=80) (f:=fun a=>lY a (qW r)) (g:=RJ (qW r)) (L:=kw r (qW r) _) (k:=_) (by decide) (fun _ _=>rfl) (fun _ _ _ _=>rfl) _ _ _ (fun c hc=>aAE c _ (by have:=aE.dY (aQ.fK (aO.sM h hc));omega)) (by simp;omega)];simp[gy]
end Go.Cx
namespace Go.Cx
open Go.RowKit Go.Proofs Tryz
def NOk(n:aF):Prop:=n.nodes.length<=1048576/\∀x∈n.nodes,x.cond.wt<=1048576
theorem a5J(s:Bytes):FD [] s=s:=rfl
theorem a2j(x:aQ):RJ [] x=x:=by
 have:x.pat.args.map (FD [])=x.pat.args:=by
  rw[show(FD [])=id from funext a5J];simp
 unfold RJ;rw[this];rfl
def dG(i:Nat):Int:=(i:Int)
def Rv(ns:ay):Nat->Nat->af
 |0,_=>[]
 |k+1,v=>v::(match ns[v]? with
  |some x=>if 1<=x.parent/\x.parent<(v:Int)then Rv ns k x.parent.toNat else []
  |none=>[])
def Cs(ns:ay)(i:Nat):Option aQ:=(ns[i]?).map Node.cond
def KR(ns:ay)(k v:Nat):aq:=(Rv ns k v).reverse.filterMap (Cs ns)
def er(ns:ay)(v:Int):aq:=if 1<=v/\v<(ns.length:Int)then KR ns v.toNat v.toNat else []
theorem Vw{ns:ay}{k v:Nat}{x:Node}(hx:ns[v]?=some x):Rv ns (k+1) v=v::(if 1<=x.parent/\x.parent<(v:Int)then Rv ns k x.parent.toNat else []):=by simp only[Rv,hx]
theorem a3Z(ns:ay):∀(k v:Nat),v<ns.length->∀i∈Rv ns k v,i<ns.length
 |0,v,_,i,hi=>by cases hi
 |k+1,v,hv,i,hi=>by
  rw[Rv]at hi;rcases bM.1 hi with rfl|hi
  ·exact hv
  ·split at hi
   ·split at hi
    ·rename_i x hx hp;exact a3Z ns k _ (by omega) i hi
    ·cases hi
   ·cases hi
theorem Z0(ns:ay):∀(k v:Nat),(Rv ns k v).length<=k
 |0,v=>by simp[Rv]
 |k+1,v=>by
  rw[Rv,aM];split
  ·split
   ·have:=Z0 ns k (by assumption:Node).parent.toNat;omega
   ·simp
  ·simp
theorem RF{ns:ay}{k v:Nat}{x:Node}(hx:ns[v]?=some x):KR ns (k+1) v=(if 1<=x.parent/\x.parent<(v:Int)then KR ns k x.parent.toNat else [])++[x.cond]:=by
 have hc:Cs ns v=some x.cond:=by unfold Cs;rw[hx];rfl
 unfold KR;rw[Vw hx];by_cases hp:1<=x.parent/\x.parent<(v:Int)
 ·rw[bR hp,bR hp];simp[hc]
 ·rw[bG hp,bG hp];simp[hc]
theorem Tv(x:aQ)(h:x.pat.args.length<=1099511627770):k9 x=some x:=by
 unfold k9;rw[a8X x [] h,aA,a2j]
theorem TR(x:aQ)(h:x.pat.args.length<=1099511627770):fE x=some x:=by
 unfold fE eG;rw[TW x.pat.args (by omega)];rfl
theorem a8V(n:aF)(h:NOk n)(K:aq->Option aq):∀(k v fu:Nat) (w:aq),v<=k->1<=v->v<n.nodes.length->k<fu->w.length+k<=4194304->jS n K fu (v:Int) w=K (KR n.nodes k v++w):=by
 have hl:=h.1;intro k
 induction k with
 |zero=>intro v fu w h1 h2;omega
 |succ k ih=>
  intro v fu w h1 h2 h3 h4 h5;obtain⟨fu,rfl⟩:∃m,fu=m+1:=⟨fu-1,by omega⟩
  have hx:n.nodes[v]?=some n.nodes[v]:=ai h3;have hw:=h.2 _ (DF h3);generalize hxe:n.nodes[v]=x at*;have e1:IntKind.i64.wrap (((n.nodes.map Node.c).length:Int)-1)=(n.nodes.length:Int)-1:=by rw[aZ];exact gr (th.i64.2 (by omega))
  have e2:(decide ((v:Int)>=1)&&decide ((v:Int)<=(n.nodes.length:Int)-1))=true:=by simp;omega
  have e3:mJ n.nodes (v:Int)=some x:=by unfold mJ;rw[bU (by omega),aW];exact hx
  have e4:=Tv x.cond (by have:=aE.dY (aQ.fK hw);omega);rw[jS,e1,Nd,aA,e2,aW,e3,aA,e4,aA,KU (by simp;omega) (by decide),aW,RF hx];by_cases h6:x.parent>=(v:Int)
  ·rw[bU h6,aW,bG (by omega)];rfl
  ·rw[b9 h6,aa];by_cases h7:1<=x.parent
   ·rw[bR ⟨h7,by omega⟩];obtain⟨m,hm⟩:=oG (by omega:0<=x.parent);rw[hm];rw[ih m fu ([x.cond]++w) (by omega) (by omega) (by omega) (by omega) (by simp;omega)];simp
   ·rw[bG (by omega)];obtain⟨fu,rfl⟩:∃m,fu=m+1:=⟨fu-1,by omega⟩
    have e5:(decide (x.parent>=1)&&decide (x.parent<=(n.nodes.length:Int)-1))=false:=by
     rw[b9 (by omega)];rfl
    rw[jS,e1,Nd,aA,e5,aa];rfl
theorem a8W(n:aF)(v:Int)(h:NOk n):xX n v=some (er n.nodes v):=by
 have hl:=h.1;unfold xX er;by_cases hv:1<=v/\v<(n.nodes.length:Int)
 ·rw[bR hv];obtain⟨m,rfl⟩:=oG (by omega:0<=v);rw[a8V n h _ m m fuel [] (bS _) (by omega) (by omega) (by unfold fuel;omega) (by simp;omega)];simp
 ·rw[bG hv];have e1:IntKind.i64.wrap (((n.nodes.map Node.c).length:Int)-1)=(n.nodes.length:Int)-1:=by rw[aZ];exact gr (th.i64.2 (by omega))
  have e2:(decide (v>=1)&&decide (v<=(n.nodes.length:Int)-1))=false:=by
   by_cases h1:1<=v
   ·have h2:¬v<=(n.nodes.length:Int)-1:=by omega
    rw[b9 h2,yW]
   ·rw[b9 h1];rfl
  rw[show fuel=4194303+1 from rfl,jS,e1,Nd,aA,e2,aa]
theorem a4n(n:aF)(h:NOk n)(K:bI->Option aq):∀(k v fu:Nat) (w:bI),v<=k->1<=v->v<n.nodes.length->k<fu->w.length+k<=4194304->nD n K fu (v:Int) w=K (w++(Rv n.nodes k v).map dG):=by
 have hl:=h.1;intro k
 induction k with
 |zero=>intro v fu w h1 h2;omega
 |succ k ih=>
  intro v fu w h1 h2 h3 h4 h5;obtain⟨fu,rfl⟩:∃m,fu=m+1:=⟨fu-1,by omega⟩
  have hx:n.nodes[v]?=some n.nodes[v]:=ai h3;generalize hxe:n.nodes[v]=x at*;have e3:mJ n.nodes (v:Int)=some x:=by unfold mJ;rw[bU (by omega),aW];exact hx
  rw[nD,mh (by omega) (by decide),aW,e3,aA,Vw hx];by_cases h7:x.parent<1
  ·rw[bU h7,aW,bG (by omega)];rfl
  ·rw[b9 h7,aa];by_cases h6:x.parent>=(v:Int)
   ·rw[bU h6,aW,bG (by omega)];rfl
   ·rw[b9 h6,aa,bR ⟨by omega,by omega⟩];obtain⟨m,hm⟩:=oG (by omega:0<=x.parent);rw[hm,ih m fu (w++[(v:Int)]) (by omega) (by omega) (by omega) (by omega) (by simp;omega)];simp[dG]
theorem a4o(n:aF)(h:NOk n)(us:af)(x9:∀i∈us,i<n.nodes.length)(hul:us.length<=1048576)(K:aq->Option aq):∀(j fu:Nat) (w:aq),j<=us.length->j<fu->w.length+j<=4194304->kr n (us.map dG) K fu ((j:Int)-1) w=K (w++((us.take j).reverse.filterMap (Cs n.nodes))):=by
 intro j
 induction j with
 |zero=>
  intro fu w _ hf _;obtain⟨fu,rfl⟩:∃m,fu=m+1:=⟨fu-1,by omega⟩
  rw[kr,b9 (by omega),aa];simp
 |succ j ih=>
  intro fu w hj hf hw;obtain⟨fu,rfl⟩:∃m,fu=m+1:=⟨fu-1,by omega⟩
  have hlt:j<us.length:=by omega
  have h3:=x9 us[j] (DF hlt);have hx:n.nodes[us[j]]?=some n.nodes[us[j]]:=ai h3;have hww:=h.2 _ (DF h3);generalize hxe:n.nodes[us[j]]=x at*;have e0:((j+1:Nat):Int)-1=(j:Int):=by omega
  have e1:mJ (us.map dG) (j:Int)=some ((us[j]:Nat):Int):=by
   unfold mJ;rw[bU (by omega),aW];show(us.map dG)[(j:Int).toNat]?=_;rw[oH,cA,ai hlt];rfl
  have e3:mJ n.nodes ((us[j]:Nat):Int)=some x:=by unfold mJ;rw[bU (by omega),aW];exact hx
  have e4:=TR x.cond (by have:=aE.dY (aQ.fK hww);omega);have e5:IntKind.i64.wrap ((j:Int)-1)=(j:Int)-1:=gr (th.i64.2 (by omega));rw[e0,kr,bU (by omega),aW,e1,aA,e3,aA,e4,aA,mh (by omega) (by decide),aW,e5,ih fu _ (by omega) (by omega) (by simp;omega)];have hc:Cs n.nodes us[j]=some x.cond:=by unfold Cs;rw[hx];rfl
  have ht:us.take (j+1)=us.take j++[us[j]]:=by rw[List.take_add_one,ai hlt];rfl
  rw[ht,List.reverse_append,List.filterMap_append];simp[hc]
theorem a7o(n:aF)(v:Int)(h:NOk n):xQ n v=some (er n.nodes v):=by
 have hl:=h.1;unfold xQ er;rw[aZ];by_cases h1:v<1
 ·rw[bU h1,aW,bG (by omega)]
 ·rw[b9 h1,aa];by_cases h2:v>=(n.nodes.length:Int)
  ·rw[bU h2,aW,bG (by omega)]
  ·rw[b9 h2,aa,bR ⟨by omega,by omega⟩];obtain⟨m,rfl⟩:=oG (by omega:0<=v);rw[a4n n h _ m m fuel [] (bS _) (by omega) (by omega) (by unfold fuel;omega) (by simp;omega)];have hul:=Z0 n.nodes m m;have e5:IntKind.i64.wrap ((((([]:bI)++(Rv n.nodes m m).map dG).map dL).length:Int)-1)=(((Rv n.nodes m m).length:Nat):Int)-1:=by
    rw[cI,aZ,aZ];exact gr (th.i64.2 (by omega))
   rw[e5,cI,a4o n h (Rv n.nodes m m) (a3Z n.nodes m m (by omega)) (by omega) _ (Rv n.nodes m m).length fuel [] (bS _) (by unfold fuel;omega) (by simp;omega),List.take_length];rfl
end Go.Cx
namespace Go.Cx
open Go.RowKit Go.Proofs Tryz
def nmB(k:Nat):Bytes:=[63]++Lib.itoa ((k:Int)+1)
theorem decDigits_one{u:Nat}(h:u<10):Lib.decDigits u=[UInt8.ofNat (48+u)]:=by
 rw[Lib.decDigits,dif_pos h]
theorem Q3:∀i,i<6->nmB i=[63,UInt8.ofNat (49+i)]
 |0,_|1,_|2,_|3,_|4,_|5,_=>by
  unfold nmB Lib.itoa;rw[bG (by decide),decDigits_one (by decide)];decide
 |n+6,h=>by omega
theorem a5D:∀i,i<6->∀j,j<6->nmB i=nmB j->i=j:=by
 intro i hi j hj e;rw[Q3 i hi,Q3 j hj]at e
 revert i j
 decide
theorem Tj:∀i,i<6->lR (nmB i)=true:=by
 intro i hi;rw[Q3 i hi]
 revert i
 decide
def Y6(N:aT):Prop:=∀(i:Nat) p,N[i]?=some p->p.value=nmB i/\lR p.var=true
theorem V4(N:aT)(t:Bytes):Hy N t=true↔∃p∈N,p.var=t:=by simp[Hy]
theorem Zu(N:aT)(t:Bytes){p:aS}(h:p∈N):p∈jY N t:=by
 unfold jY;cases lR t&& !Hy N t<;>simp[h]
theorem V2:∀(ts:aJ) (N:aT) {p:aS},p∈N->p∈ts.foldl jY N
 | [],_,_,h=>h
 |t::ts,N,p,h=>V2 ts (jY N t) (Zu N t h)
theorem a3g{N:aT}(h:Y6 N)(t:Bytes):Y6 (jY N t):=by
 unfold jY;cases hv:lR t&& !Hy N t with
 |false=>exact h
 |true=>
  simp only[aY]at hv;intro i p hp;rw[aW]at hp;rcases eR i N.length with hlt|hge
  ·rw[bA hlt]at hp;exact h i p hp
  ·rw[bE hge]at hp;cases hi:i-N.length with
   |zero=>
    rw[hi]at hp;simp at hp;subst hp;have:i=N.length:=by omega
    subst this;exact⟨rfl,hv.1⟩
   |succ m=>rw[hi]at hp;simp at hp
theorem F4:∀(ts:aJ) {N:aT},Y6 N->Y6 (ts.foldl jY N)
 | [],_,h=>h
 |t::ts,_,h=>F4 ts (a3g h t)
def WA(N:aT):Prop:=(N.map aS.var).Nodup
theorem Zw{N:aT}(h:WA N)(t:Bytes):WA (jY N t):=by
 unfold jY;cases hv:lR t&& !Hy N t with
 |false=>exact h
 |true=>
  simp only[aY,rD]at hv;rw[aW];unfold WA;rw[bN,bO];refine⟨h,by simp,?_⟩;intro a ha b hb e;simp at hb;subst hb;subst e;obtain⟨p,hp,he⟩:=cJ.1 ha;have:=(V4 N a).2 ⟨p,hp,he⟩;rw[hv.2]at this;cases this
theorem Du:∀(ts:aJ) {N:aT},WA N->WA (ts.foldl jY N)
 | [],_,h=>h
 |t::ts,_,h=>Du ts (Zw h t)
theorem NW:∀(ts:aJ) (N:aT) {t:Bytes},t∈ts->lR t=true->∃p∈ts.foldl jY N,p.var=t
 |x::ts,N,t,h,hv=>by
  rcases bM.1 h with rfl|h
  ·have:∃p∈jY N t,p.var=t:=by
    unfold jY;cases hh:Hy N t with
    |true=>rw[hv];exact(V4 N t).1 hh
    |false=>rw[hv];exact⟨⟨t,[63]++Lib.itoa ((N.length:Int)+1)⟩,by simp,rfl⟩
   obtain⟨p,hp,he⟩:=this;exact⟨p,V2 ts _ hp,he⟩
  ·exact NW ts _ h hv
theorem Nu:∀ {N:aT} {p:aS},WA N->p∈N->FD N p.var=p.value
 |q::N,p,hn,hp=>by
  unfold WA at hn;rw[bH,fC]at hn;rcases bM.1 hp with rfl|hp
  ·simp[FD]
  ·have hne:(q.var==p.var)=false:=by
    rw[dH];intro e;exact hn.1 (by rw[e];exact cJ.2 ⟨p,hp,rfl⟩)
   rw[FD,hne,aa];exact Nu (show WA N from hn.2) hp
theorem Oo:∀ {N:aT} {t:Bytes},(∀p∈N,p.var≠t)->FD N t=t
 | [],t,_=>rfl
 |q::N,t,h=>by
  have hne:(q.var==t)=false:=by rw[dH];exact h q (by simp)
  rw[FD,hne,aa];exact Oo fun p hp=>h p (by simp[hp])
theorem Y6.nil:Y6 []:=fun i p h=>by simp at h
theorem WA.nil:WA []:=by simp[WA]
theorem Ce(ts:aJ):(ts.foldl jY []).length<=ts.length:=by simpa using Ag ts []
theorem Oy{N:aT}(h:Y6 N){p:aS}(hp:p∈N):∃i,i<N.length/\N[i]?=some p/\p.value=nmB i/\lR p.var=true:=by
 obtain⟨i,hi⟩:=cm hp;exact⟨i,(aH.1 hi).1,hi,h i p hi⟩
theorem R5{ts:aJ}{t:Bytes}(ht:lR t=false):FD (ts.foldl jY []) t=t:=
 Oo fun p hp e=>by
  obtain⟨i,_,_,_,hv⟩:=Oy (F4 ts Y6.nil) hp;rw[e,ht]at hv;cases hv
theorem MF(p:aE):(vl p).args=p.args.map (FD (p.args.foldl jY [])):=rfl
theorem Yh:∀i,i<6->(nmB i).length<=16:=by
 intro i hi;rw[Q3 i hi];simp
theorem a8H{ts:aJ}(hl:ts.length<=5){t:Bytes}(ht:t.length<=16):(FD (ts.foldl jY []) t).length<=16:=by
 by_cases h:∃p∈ts.foldl jY [],p.var=t
 ·obtain⟨p,hp,he⟩:=h;rw[<-he,Nu (Du ts WA.nil) hp];obtain⟨i,hi,_,hpv,_⟩:=Oy (F4 ts Y6.nil) hp;have:=Ce ts;rw[hpv];exact Yh i (by omega)
 ·rw[Oo (fun p hp e=>h ⟨p,hp,e⟩)];exact ht
def unB(N:aT)(x:Bytes):Bytes:=match N with
 | []=>x
 |p::r=>bif p.value==x then p.var else unB r x
theorem Yz:∀ {N:aT} {p:aS},(N.map aS.value).Nodup->p∈N->unB N p.value=p.var
 |q::N,p,hn,hp=>by
  rw[bH,fC]at hn;rcases bM.1 hp with rfl|hp
  ·simp[unB]
  ·have hne:(q.value==p.value)=false:=by
    rw[dH];intro e;exact hn.1 (by rw[e];exact cJ.2 ⟨p,hp,rfl⟩)
   rw[unB,hne,aa];exact Yz hn.2 hp
theorem Ow:∀ {N:aT} {t:Bytes},(∀p∈N,p.value≠t)->unB N t=t
 | [],t,_=>rfl
 |q::N,t,h=>by
  have hne:(q.value==t)=false:=by rw[dH];exact h q (by simp)
  rw[unB,hne,aa];exact Ow fun p hp=>h p (by simp[hp])
theorem Xr{N:aT}(h:Y6 N)(hl:N.length<=5):(N.map aS.value).Nodup:=by
 unfold List.Nodup;rw[List.pairwise_iff_getElem];intro i j hi0 hj hij e;rw[aZ]at hj;rw[List.getElem_map,List.getElem_map]at e;have h1:=(h i _ (ai (by omega))).1;have h2:=(h j _ (ai hj)).1;rw[h1,h2]at e;have:=a5D i (by omega) j (by omega) e;omega
theorem aB4{ts:aJ}(hl:ts.length<=5){t:Bytes}(ht:t∈ts)(hT:qZ t=true):unB (ts.foldl jY []) (FD (ts.foldl jY []) t)=t:=by
 have hw:=F4 ts Y6.nil;have hlen:=Ce ts;cases hv:lR t with
 |true=>
  obtain⟨p,hp,he⟩:=NW ts [] ht hv;rw[<-he,Nu (Du ts WA.nil) hp,Yz (Xr hw (by omega)) hp]
 |false=>
  rw[R5 hv];refine Ow fun p hp e=>?_
  obtain⟨i,hi,_,hpv,_⟩:=Oy hw hp;have:=Tj i (by omega);rw[<-hpv,e,hv]at this;cases this
theorem a0C{p:aE}(h:yx p=true)(hl:p.args.length<=5):yx (vl p)=true:=by
 unfold yx at h⊢;rw[aY]at h⊢;refine⟨?_,?_⟩
 ·rw[MF,E5,bB];intro t ht;have hT:=bB.1 h.1 t ht;show qZ (FD _ t)=true;cases hv:lR t with
  |false=>rw[R5 hv];exact hT
  |true=>
   obtain⟨q,hq,he⟩:=NW p.args [] ht hv;obtain⟨i,hi,_,hpv,_⟩:=Oy (F4 p.args Y6.nil) hq;have:=Ce p.args;rw[<-he,Nu (Du p.args WA.nil) hq,hpv];unfold qZ;rw[Tj i (by omega)];simp
 ·have:=h.2;rw[aY]at this⊢;refine⟨this.1,?_⟩;rw[MF,aZ];exact this.2
end Go.Cx
namespace Go.Cx
open Go.RowKit Go.Proofs Tryz
def PY(c:aQ):aJ:=bif decide (c.kind=1)then jZ c.pat.args else []
theorem a1E{c:aQ}:(PY c).length<=c.wt:=by
 unfold PY;have h2:=yS c.pat.args;have h3:=aE.dY (aQ.fK (bS c.wt));cases decide (c.kind=1)<;>simp;omega
def CQ(r:aO)(n:Int):aJ:=(r.conds.take n.toNat).flatMap PY
theorem Si{α:Type}(x:α)(xs:List α)(n:Int)(i:Nat):(x::xs).take (n-(i:Int)).toNat=if(i:Int)<n then x::xs.take (n-((i+1:Nat):Int)).toNat else []:=by
 by_cases h:(i:Int)<n
 ·rw[bR h];obtain⟨m,hm⟩:∃m,(n-(i:Int)).toNat=m+1:=⟨(n-(i:Int)).toNat -1,by omega⟩
  have:(n-((i+1:Nat):Int)).toNat=m:=by omega
  rw[hm,this];rfl
 ·rw[bG h,show(n-(i:Int)).toNat=0 from by omega];rfl
theorem Ht{α β:Type}{f:α->List β}{w:α->Nat}(l:List α)(h:∀x∈l,(f x).length<=w x+2):(l.flatMap f).length<=3*k8 w l:=by
 induction l with
 |nil=>simp[k8]
 |cons x l ih=>
  rw[dN,aX,qe];have h1:=h x (by simp);have h2:=ih (fun y hy=>h y (by simp[hy]));omega
theorem a1F{r:aO}{n:Nat}(h:r.wt<=n)(m:Int):(CQ r m).length<=3*n:=by
 unfold CQ;have h1:=Ht (w:=aQ.wt) (f:=PY) (r.conds.take m.toNat) (fun c _=>by have:= @a1E c;omega);have h2:k8 aQ.wt (r.conds.take m.toNat)<=k8 aQ.wt r.conds:=by
  conv=>rhs;rw[<-cD m.toNat r.conds]
  rw[Xt];omega
 have h3:=aO.uJ h;omega
theorem a2s(a:aO)(n:Int)(i:Nat)(y:aJ)(k:aJ->Option aJ):∀(l:aJ) (j:Nat) (w:aJ),w.length+l.length<=1099511627770->ji a n i y k l j w=k (l.foldl Ak w):=by
 intro l
 induction l with
 |nil=>intro j w _;rfl
 |cons x l ih=>
  intro j w hw;simp only[aM]at hw;have:=C9 w x;rw[ji,XW w x (by omega),aA,ih _ _ (by omega)];rfl
theorem a5K(a:aO)(n:Int)(k:aJ->Option aJ):∀(l:aq) (i:Nat) (acc:aJ),(∀c∈l,c.wt<=1048576)->acc.length+k8 aQ.wt l<=2097152->
 fq a n k l i (fL acc)=k (fL (acc++(l.take (n-(i:Int)).toNat).flatMap PY)):=by
 intro l
 induction l with
 |nil=>intro i acc _ _;simp[fq]
 |cons c l ih=>
  intro i acc hc hb;rw[qe]at hb;have hwt:=hc c (by simp);have hv:=yS c.pat.args;have ha:=aE.dY (aQ.fK (bS c.wt));have hu:=rC (jZ c.pat.args);have hu2:=rC acc;rw[fq,Si];by_cases hi:(i:Int)<n
  ·have e1:decide (((i:Int):Int)<n)=true:=by simp[hi]
   rw[e1,aW,bR hi];by_cases hk:c.kind=1
   ·have e2:((c.kind:Int)==1)=true:=by simp[hk]
    rw[e2,aW,Ny _ (aQ.fK hwt),aA,xA (by omega),aW,a2s _ _ _ _ _ _ _ _ (by omega),IF,ih _ _ (fun x hx=>hc x (by simp[hx])) (by simp;omega)];simp[PY,hk]
   ·have e2:((c.kind:Int)==1)=false:=by simp[hk]
    rw[e2,aa,ih _ _ (fun x hx=>hc x (by simp[hx])) (by omega)];simp[PY,hk]
  ·have e1:decide (((i:Int):Int)<n)=false:=by simp[hi]
   rw[e1,aa,bG hi];simp
theorem a2r(r:aO)(n:Int)(h:r.wt<=1048576):nS r n=some (fL (CQ r n)):=by
 unfold nS;have:=a5K r n (fun q=>some q) r.conds 0 [] (fun c hc=>aO.sM h hc) (by have:=aO.uJ h;simp;omega);rw[show fL []=[]from rfl]at this;rw[this];simp[CQ]
theorem a4j(a:aO)(n:Int)(k:aJ->Option aJ):∀(l:aq) (i:Nat) (w:aJ),(∀c∈l,c.wt<=1048576)->w.length+k8 aQ.wt l<=2097152->
 ew a n k l i w=k (w++(l.take (n-(i:Int)).toNat).flatMap PY):=by
 intro l
 induction l with
 |nil=>intro i w _ _;simp[ew]
 |cons c l ih=>
  intro i w hc hb;rw[qe]at hb;have hwt:=hc c (by simp);have hv:=yS c.pat.args;have ha:=aE.dY (aQ.fK (bS c.wt));rw[ew,Si];by_cases hi:(i:Int)<n
  ·have e1:decide (((i:Int):Int)<n)=true:=by simp[hi]
   rw[e1,aW,bR hi];by_cases hk:c.kind=1
   ·have e2:((c.kind:Int)==1)=true:=by simp[hk]
    rw[e2,aW,a2D _ (by omega) (fun x hx=>aE.vU (aQ.fK hwt) hx),aA,a2p (by omega) (by decide),aW,ih _ _ (fun x hx=>hc x (by simp[hx])) (by simp;omega)];simp[PY,hk]
   ·have e2:((c.kind:Int)==1)=false:=by simp[hk]
    rw[e2,aa,ih _ _ (fun x hx=>hc x (by simp[hx])) (by omega)];simp[PY,hk]
  ·have e1:decide (((i:Int):Int)<n)=false:=by simp[hi]
   rw[e1,aa,bG hi,ih _ _ (fun x hx=>hc x (by simp[hx])) (by omega),show(n-((i+1:Nat):Int)).toNat=0 from by omega];simp
theorem a1u(r:aO)(n:Int)(h:r.wt<=1048576):qB r n=some (fL (CQ r n)):=by
 unfold qB;have hl:=a1F h n;rw[a4j r n _ r.conds 0 [] (fun c hc=>aO.sM h hc) (by have:=aO.uJ h;simp;omega)];have e:([]:aJ)++(r.conds.take (n-((0:Nat):Int)).toNat).flatMap PY=CQ r n:=by simp[CQ]
 rw[e,TV _ (by omega)];rfl
def FL(l:aq):aJ:=l.flatMap rF
def a4F(l:c8):aJ:=l.flatMap fun a=>jZ a.pat.args
def a8I(r:aO):aJ:=FL r.conds++a4F r.cu
theorem a1J(l:aq):(FL l).length<=3*k8 aQ.wt l:=Ht l (fun c _=>zU (bS _))
theorem a34(a:aO)(i:Nat)(y:aJ)(k:aJ->Option aJ):∀(l:aJ) (j:Nat) (w:aJ),w.length+l.length<=1099511627770->kX a i y k l j w=k (l.foldl Ak w):=by
 intro l
 induction l with
 |nil=>intro j w _;rfl
 |cons x l ih=>
  intro j w hw;simp only[aM]at hw;have:=C9 w x;rw[kX,XW w x (by omega),aA,ih _ _ (by omega)];rfl
theorem a36(a:aO)(i:Nat)(y:aJ)(k:aJ->Option aJ):∀(l:aJ) (j:Nat) (w:aJ),w.length+l.length<=1099511627770->kY a i y k l j w=k (l.foldl Ak w):=by
 intro l
 induction l with
 |nil=>intro j w _;rfl
 |cons x l ih=>
  intro j w hw;simp only[aM]at hw;have:=C9 w x;rw[kY,XW w x (by omega),aA,ih _ _ (by omega)];rfl
theorem a33(a:aO)(k:aJ->Option aJ):∀(l:aq) (i:Nat) (acc:aJ),(∀c∈l,c.wt<=1048576)->acc.length+3*k8 aQ.wt l<=16777216->
 j8 a k l i (fL acc)=k (fL (acc++FL l)):=by
 intro l
 induction l with
 |nil=>intro i acc _ _;simp[j8,FL]
 |cons c l ih=>
  intro i acc hc hb;rw[qe]at hb;have hwt:=hc c (by simp);have h1:=zU (bS c.wt);have hu:=rC (rF c);have hu2:=rC acc;rw[j8,XU c hwt,aA,xA (by omega),aW,a34 _ _ _ _ _ _ _ (by omega),IF,ih _ _ (fun x hx=>hc x (by simp[hx])) (by simp;omega)];simp[FL]
theorem a35(a:aO)(k:aJ->Option aJ):∀(l:c8) (i:Nat) (acc:aJ),(∀c∈l,c.wt<=1048576)->acc.length+3*k8 Action.wt l<=16777216->
 gl a k l i (fL acc)=k (fL (acc++a4F l)):=by
 intro l
 induction l with
 |nil=>intro i acc _ _;simp[gl,a4F]
 |cons c l ih=>
  intro i acc hc hb;rw[qe]at hb;have hwt:=hc c (by simp);have h1:=yS c.pat.args;have h2:=aE.dY (Action.fK (bS c.wt));have hu:=rC (jZ c.pat.args);have hu2:=rC acc;rw[gl,Ny _ (Action.fK hwt),aA,xA (by omega),aW,a36 _ _ _ _ _ _ _ (by omega),IF,ih _ _ (fun x hx=>hc x (by simp[hx])) (by simp;omega)];simp[a4F]
theorem a8Y(r:aO)(h:r.wt<=1048576):uh r=some (fL (a8I r)):=by
 unfold uh;have h3:=aO.uJ h;have h4:=aO.MV h;have hl:=a1J r.conds;have:=a33 r (fun q=>gl r (fun q=>some q) r.cu 0 q) r.conds 0 [] (fun c hc=>aO.sM h hc) (by simp;omega);rw[show fL []=[]from rfl]at this;rw[this];simp only[cI];rw[a35 r _ r.cu 0 _ (fun c hc=>aO.T5 h hc) (by omega)];rfl
theorem aA2(l:aq)(hc:∀c∈l,c.wt<=1048576)(hb:k8 aQ.wt l<=1048576):rK l=some (l.flatMap fun c=>fL (rF c)):=by
 unfold rK;have:∀(r:aq) (i:Nat) (w:aJ),(∀c∈r,c.wt<=1048576)->w.length+3*k8 aQ.wt r<=16777216->gQ l (fun q=>some q) r i w=some (w++r.flatMap fun c=>fL (rF c)):=by
  intro r
  induction r with
  |nil=>intro i w _ _;simp[gQ]
  |cons c r ih=>
   intro i w hc hb;rw[qe]at hb;have h1:=zU (bS c.wt);have hu:=rC (rF c);rw[gQ,X4 c (hc c (by simp)),aA,a2p (by omega) (by decide),aW,ih _ _ (fun x hx=>hc x (by simp[hx])) (by simp;omega)];simp
 exact this l 0 [] hc (by simp;omega)
theorem a1I(l:aq):(l.flatMap fun c=>fL (rF c)).length<=3*k8 aQ.wt l:=Ht l (fun c _=>by
 have h1:=zU (bS c.wt);have hu:=rC (rF c);omega)
theorem aBu(l:aq)(b:aJ):fL ((l.flatMap fun c=>fL (rF c))++b)=fL (FL l++b):=IE (fun x=>by simp[FL,wk])
def ZR(v:Bytes)(k:Int):aq->Nat->Bool
 | [],_=>false
 |c::cs,i=>(decide (((i:Nat):Int)≠k)&&(rF c).contains v)||ZR v k cs (i+1)
def Uu(r:aO)(k:Int)(v:Bytes):Bool:=ZR v k r.conds 0||r.cu.any fun a=>(jZ a.pat.args).contains v
theorem Rl{l:aJ}{v:Bytes}(h:lR v=true):l.contains v=(jZ l).contains v:=by
 rw[bp];simp[jZ,h]
theorem aAk(r:aO)(k:Int)(v:Bytes)(h:r.wt<=1048576):nh r k v=some (Uu r k v):=by
 unfold nh Uu;have k2:∀(l:c8) (i:Nat),(∀c∈l,c.wt<=1048576)->iP r v (some false) l i=some (l.any fun a=>(jZ a.pat.args).contains v):=by
  intro l
  induction l with
  |nil=>intro i _;rfl
  |cons a l ih=>
   intro i hc;rw[iP,Ny _ (Action.fK (hc a (by simp))),aA,a2y,aA,o6,ih _ (fun x hx=>hc x (by simp[hx])),vB];cases(jZ a.pat.args).contains v<;>rfl
 have k1:∀(l:aq) (i:Nat),(∀c∈l,c.wt<=1048576)->fk r k v (some (r.cu.any fun a=>(jZ a.pat.args).contains v)) l i=some (ZR v k l i||r.cu.any fun a=>(jZ a.pat.args).contains v):=by
  intro l
  induction l with
  |nil=>intro i _;rfl
  |cons c l ih=>
   intro i hc;rw[fk,XU _ (hc c (by simp)),aA,a2y,aA,o6,ih _ (fun x hx=>hc x (by simp[hx]))];simp only[ZR,bne,fG];by_cases hi:((i:Nat):Int)=k
   ·simp[hi]
   ·cases(rF c).contains v<;>simp[hi]
 rw[k2 _ _ (fun c hc=>aO.T5 h hc),k1 _ _ (fun c hc=>aO.sM h hc)]
theorem aDD(r:aO)(k:Int)(v:Bytes)(hv:lR v=true)(h:r.wt<=1048576):lm r k v=some (Uu r k v):=by
 unfold lm Uu;have k2:∀(l:c8) (i:Nat),fB r v (some false) l i=some (l.any fun a=>(jZ a.pat.args).contains v):=by
  intro l
  induction l with
  |nil=>intro i;rfl
  |cons a l ih=>
   intro i;rw[fB,a4l,aA,Rl hv,ih,vB];cases(jZ a.pat.args).contains v<;>rfl
 have k1:∀(l:aq) (i:Nat),(∀c∈l,c.wt<=1048576)->eM r k v (some (r.cu.any fun a=>(jZ a.pat.args).contains v)) l i=some (ZR v k l i||r.cu.any fun a=>(jZ a.pat.args).contains v):=by
  intro l
  induction l with
  |nil=>intro i _;rfl
  |cons c l ih=>
   intro i hc;rw[eM,X4 _ (hc c (by simp)),aA,a4l,aA,o6,ih _ (fun x hx=>hc x (by simp[hx]))];simp only[ZR,bne,fG];by_cases hi:((i:Nat):Int)=k
   ·simp[hi]
   ·cases(rF c).contains v<;>simp[hi]
 rw[k2,k1 _ _ (fun c hc=>aO.sM h hc)]
def Pc(r:aO)(i:Nat)(c:aQ)(v:Bytes):Bool:=decide (c.kind=1)||(CQ r i).contains v||(decide (c.kind=2)&& !Uu r i v)
def xu(r:aO):aq->Nat->Bool
 | [],_=>true
 |c::cs,i=>(sU c&&(!decide (i=0)||decide (c.kind=1))&&(fL (rF c)).all (Pc r i c))&&xu r cs (i+1)
def QI(r:aO):Bool:=r.cu.all fun a=>QH a&&(jZ a.pat.args).all fun v=>(CQ r r.conds.length).contains v
def oD(r:aO):Bool:=B7 r.name&&(decide (0<=r.prio)&&decide (r.prio<=9))&&(decide (1<=(r.conds.length:Int))&&decide ((r.conds.length:Int)<=4))&&(decide (1<=(r.cu.length:Int))&&decide ((r.cu.length:Int)<=2))&&
 (xu r r.conds 0&&(QI r&&decide (((fL (FL r.conds)).length:Int)<=6)))
theorem S4(l:aJ)(p:Bytes->Bool):(fL l).all p=l.all p:=by
 rw[bp];simp[bB,wk]
theorem a4J(r:aO)(n:Int){v:Bytes}(h:v∈CQ r n):v∈FL r.conds:=by
 unfold CQ at h;obtain⟨c,hc,hv⟩:=cE.1 h;refine cE.2 ⟨c,cH hc,?_⟩;unfold PY at hv;cases hk:decide (c.kind=1)with
 |false=>rw[hk]at hv;cases hv
 |true=>
  rw[hk]at hv;simp only[aW]at hv;unfold rF;rw[Sn];exact au.2 (.inl hv)
theorem WS{r:aO}(h:QI r=true):fL (a8I r)=fL (FL r.conds):=by
 refine IE (fun x=>?_);unfold a8I;simp only[au];constructor
 ·rintro(hx|hx)
  ·exact hx
  ·obtain⟨a,ha,hv⟩:=cE.1 hx;unfold QI at h;have:=bB.1 h a ha;simp only[aY,bB]at this;have:=this.2 x hv;exact a4J r _ (by simpa using this)
 ·exact .inl
theorem a5O(r:aO)(y:aJ)(i:Nat)(c:aQ)(l:aJ)(k:Option Bool)(hc:c.wt<=1048576)(hr:r.wt<=1048576)(hcb:sU c=true):∀(rest:aJ) (j:Nat),gE r y i c (fL (CQ r i)) l k rest j=bif rest.all (Pc r i c)then k else some false:=by
 have hk:=Kj hcb;intro rest
 induction rest with
 |nil=>intro j;rfl
 |cons v rest ih=>
  intro j;rw[gE,a2y,aA,o6,a3C c hc,aA,aAk r _ v hr,aA,ih,dK];unfold O0 Pc;rw[hcb];by_cases h1:c.kind=1
  ·simp[h1]
  by_cases h2:c.kind=2
  ·cases(CQ r i).contains v<;>cases Uu r i v<;>simp[h2]
  have h3:c.kind>=3:=by omega
  cases(CQ r i).contains v<;>simp[h1,h2,h3]
theorem a5P(r:aO)(y:aJ)(i:Nat)(c:aQ)(l:aJ)(k:Option Bool)(hc:c.wt<=1048576)(hr:r.wt<=1048576)(hcb:sU c=true):∀(rest:aJ) (j:Nat),gF r y i c (fL (CQ r i)) l k rest j=bif rest.all (Pc r i c)then k else some false:=by
 have hk:=Kj hcb;intro rest
 induction rest with
 |nil=>intro j;rfl
 |cons v rest ih=>
  intro j;rw[gF,a2y,aA,o6,a3C c hc,aA,aAk r _ v hr,aA,ih,dK];unfold O0 Pc;rw[hcb];by_cases h1:c.kind=1
  ·simp[h1]
  by_cases h2:c.kind=2
  ·cases(CQ r i).contains v<;>cases Uu r i v<;>simp[h2]
  have h3:c.kind>=3:=by omega
  cases(CQ r i).contains v<;>simp[h1,h2,h3]
theorem a5N(r:aO)(y:aJ)(k:Option Bool)(hr:r.wt<=1048576):∀(rest:aq) (i:Nat),(∀c∈rest,c.wt<=1048576)->lE r y k rest i=bif xu r rest i then k else some false:=by
 intro rest
 induction rest with
 |nil=>intro i _;rfl
 |cons c rest ih=>
  intro i h;have hc:=h c (by simp);have hl:=zU hc;have hu:=rC (rF c);rw[lE,a2u c hc,aA,xu];cases hcb:sU c with
  |false=>rfl
  |true=>
   rw[a2r r _ hr,XU c hc,ih _ (fun x hx=>h x (by simp[hx]))];simp only[aA,xA (show(fL (rF c)).length<=1099511627776 by omega),aW];rw[a5O r y i c _ _ hc hr hcb,a5P r y i c _ _ hc hr hcb];simp only[bne,fG];have e0:decide (((i:Int):Int)=0)=decide (i=0):=by rw[bp];simp
   rw[e0];cases decide (i=0)<;>cases decide (c.kind=1)<;>cases(fL (rF c)).all (Pc r i c)<;>simp
theorem a5R(r:aO)(y:aJ)(i:Nat)(l:aJ)(k:Option Bool):∀(rest:aJ) (j:Nat),nW r y i l k rest j=bif rest.all (fun v=>y.contains v)then k else some false:=
 fun rest j=>ZH (f:=fun v=>gz y v) (L:=nW r y i l k) (fun _=>rfl) (fun _ _ _=>rfl) rest j (fun v _=>a2y y v)
theorem a5Q(r:aO)(b:aJ)(k:Option Bool):∀(rest:c8) (i:Nat),(∀a∈rest,a.wt<=1048576)->nV r (fL b) k rest i=bif rest.all (fun a=>QH a&&(jZ a.pat.args).all fun v=>b.contains v)then k else some false:=by
 intro rest
 induction rest with
 |nil=>intro i _;rfl
 |cons a rest ih=>
  intro i h;have ha:=h a (by simp);have h1:=yS a.pat.args;have h2:=aE.dY (Action.fK ha);have hu:=rC (jZ a.pat.args);rw[nV,aDV a ha,aA,Ny _ (Action.fK ha),aA,xA (by omega),ih _ (fun x hx=>h x (by simp[hx])),a5R,dK,S4];have e:((jZ a.pat.args).all fun v=>(fL b).contains v)=(jZ a.pat.args).all fun v=>b.contains v:=by
   congr 1;funext v;exact o6 b v
  rw[e];cases QH a<;>cases(jZ a.pat.args).all (fun v=>b.contains v)<;>simp
theorem aAy(r:aO)(h:r.wt<=1048576):xW r=some (oD r):=by
 unfold xW;simp only[a2z _ (aO.Yg h),aA,Nd,aZ];rw[a2r r _ h];simp only[aA];rw[a5N r _ _ h _ _ (fun c hc=>aO.sM h hc),a5Q r _ _ _ _ (fun a ha=>aO.T5 h ha),a8Y r h];simp only[aA,aZ];have hab:(r.cu.all fun a=>QH a&&(jZ a.pat.args).all fun v=>(CQ r r.conds.length).contains v)=QI r:=rfl;rw[hab];unfold oD;have g1:decide (r.prio>=0)=decide (0<=r.prio):=rfl;have g2:decide ((r.conds.length:Int)>=1)=decide (1<=(r.conds.length:Int)):=rfl;have g3:decide ((r.cu.length:Int)>=1)=decide (1<=(r.cu.length:Int)):=rfl;rw[g1,g2,g3];cases ha:QI r with
 |false=>cases B7 r.name<;>cases(decide (0<=r.prio)&&decide (r.prio<=9))<;>cases(decide (1<=(r.conds.length:Int))&&decide ((r.conds.length:Int)<=4))<;>cases(decide (1<=(r.cu.length:Int))&&decide ((r.cu.length:Int)<=2))<;>cases xu r r.conds 0<;>rfl
 |true=>
  rw[WS ha];cases B7 r.name<;>cases(decide (0<=r.prio)&&decide (r.prio<=9))<;>cases(decide (1<=(r.conds.length:Int))&&decide ((r.conds.length:Int)<=4))<;>cases(decide (1<=(r.cu.length:Int))&&decide ((r.cu.length:Int)<=2))<;>cases xu r r.conds 0<;>simp
theorem a7i(r:aO)(i:Nat)(c:aQ)(l:aJ)(k:Option Bool)(hr:r.wt<=1048576)(hcb:sU c=true):∀(rest:aJ) (j:Nat),(∀v∈rest,lR v=true)->ga r (i:Int) c (fL (CQ r i)) l k rest j=bif rest.all (Pc r i c)then k else some false:=by
 have hk:=Kj hcb;intro rest
 induction rest with
 |nil=>intro j _;rfl
 |cons v rest ih=>
  intro j hv;rw[ga,a4l,aA,o6,aDD r _ v (hv v (by simp)) hr,aA,ih _ (fun x hx=>hv x (by simp[hx])),dK];unfold Pc;simp only[bne,fG];by_cases h1:c.kind=1
  ·simp[h1]
  by_cases h2:c.kind=2
  ·cases(CQ r i).contains v<;>cases Uu r i v<;>simp[h2]
  cases(CQ r i).contains v<;>simp[h1,h2]
theorem aA6(r:aO)(i:Nat)(c:aQ)(hr:r.wt<=1048576)(hi:r.conds[i]?=some c)(hcb:sU c=true):qw r (i:Int)=some ((fL (rF c)).all (Pc r i c)):=by
 unfold qw;have hc:=aO.sM hr (aC hi);have hl:=zU hc;have hu:=rC (rF c);have e:mJ r.conds (i:Int)=some c:=by unfold mJ;simp[hi]
 rw[e,aA,a1u r _ hr,aA,X4 c hc,aA,xA (by omega),aW,a7i r i c _ _ hr hcb _ _ (fun v hv=>by
  rw[wk]at hv;unfold rF jZ at hv;exact(fy.1 hv).2)]
 cases(fL (rF c)).all (Pc r i c)<;>rfl
theorem a4p(r:aO)(k:Option Bool)(hr:r.wt<=1048576):∀(rest pre:aq),r.conds=pre++rest->jK r k rest pre.length=bif xu r rest pre.length then k else some false:=by
 intro rest
 induction rest with
 |nil=>intro pre _;rfl
 |cons c rest ih=>
  intro pre h;have hm:c∈r.conds:=by rw[h];simp
  have hc:=aO.sM hr hm;have hi:r.conds[pre.length]?=some c:=by rw[h];simp
  have t:=ih (pre++[c]) (by rw[h];simp);simp only[aX,aM,bK]at t;rw[jK,a1z c hc,aA,xu];cases hcb:sU c with
  |false=>rfl
  |true=>
   rw[aA6 r _ c hr hi hcb,aA,t];simp only[bne,fG];have e0:decide ((((pre.length:Nat):Int):Int)=0)=decide (pre.length=0):=by rw[bp];simp
   rw[e0];cases decide (pre.length=0)<;>cases decide (c.kind=1)<;>cases(fL (rF c)).all (Pc r pre.length c)<;>simp
theorem a4r(r:aO)(y:aJ)(i:Nat)(l:aJ)(k:Option Bool):∀(rest:aJ) (j:Nat),nC r y i l k rest j=bif rest.all (fun v=>y.contains v)then k else some false:=
 fun rest j=>ZH (f:=fun v=>lf y v) (L:=nC r y i l k) (fun _=>rfl) (fun _ _ _=>rfl) rest j (fun v _=>a4l y v)
theorem a4q(r:aO)(b:aJ)(k:Option Bool):∀(rest:c8) (i:Nat),(∀a∈rest,a.wt<=1048576)->nB r (fL b) k rest i=bif rest.all (fun a=>QH a&&(jZ a.pat.args).all fun v=>b.contains v)then k else some false:=by
 intro rest
 induction rest with
 |nil=>intro i _;rfl
 |cons a rest ih=>
  intro i h;have ha:=h a (by simp);have h1:=yS a.pat.args;have h2:=aE.dY (Action.fK ha);rw[nB,aD8 a ha,aA,a2D _ (by omega) (fun x hx=>aE.vU (Action.fK ha) hx),aA,xA (by omega),ih _ (fun x hx=>h x (by simp[hx])),a4r,dK];have e:((jZ a.pat.args).all fun v=>(fL b).contains v)=(jZ a.pat.args).all fun v=>b.contains v:=by
   congr 1;funext v;exact o6 b v
  rw[e];cases QH a<;>cases(jZ a.pat.args).all (fun v=>b.contains v)<;>simp
theorem aAF(r:aO)(h:r.wt<=1048576):xO r=some (oD r):=by
 unfold xO;have hcu:=a1I r.conds;have hcl:=aO.uJ h;rw[show jK r _ r.conds 0=_ from a4p r _ h r.conds [] rfl,a1u r _ h,aA,a4q r _ _ _ _ (fun a ha=>aO.T5 h ha),aA2 _ (fun c hc=>aO.sM h hc) hcl,aA,TV _ (by omega),a26 _ (aO.Yg h)];have e:=aBu r.conds [];simp only[cN]at e;rw[e];simp only[aA,aZ,bK];have hab:(r.cu.all fun a=>QH a&&(jZ a.pat.args).all fun v=>(CQ r r.conds.length).contains v)=QI r:=rfl;rw[hab];unfold oD;have g1:decide (0<=r.prio)= !decide (r.prio<0):=by rw[bp];simp
 have g2:decide (r.prio<=9)= !decide (r.prio>9):=by rw[bp];simp
 have g3:decide (1<=(r.conds.length:Int))= !decide ((r.conds.length:Int)<1):=by rw[bp];simp
 have g4:decide ((r.conds.length:Int)<=4)= !decide ((r.conds.length:Int)>4):=by rw[bp];simp
 have g5:decide (1<=(r.cu.length:Int))= !decide ((r.cu.length:Int)<1):=by rw[bp];simp
 have g6:decide ((r.cu.length:Int)<=2)= !decide ((r.cu.length:Int)>2):=by rw[bp];simp
 rw[g1,g2,g3,g4,g5,g6];cases B7 r.name
 ·rfl
 cases decide (r.prio<0)
 case true=>rfl
 cases decide (r.prio>9)
 case true=>rfl
 cases decide ((r.conds.length:Int)<1)
 case true=>rfl
 cases decide ((r.conds.length:Int)>4)
 case true=>rfl
 cases decide ((r.cu.length:Int)<1)
 case true=>rfl
 cases decide ((r.cu.length:Int)>2)
 case true=>rfl
 cases xu r r.conds 0
 ·rfl
 cases QI r
 ·rfl
 simp
def KK(name:Bytes):ar->Nat->Int
 | [],_=> -1
 |r::rs,i=>bif r.name==name then(i:Int)else KK name rs (i+1)
def Rk(all:ar):ar->Nat->Bool
 | [],_=>true
 |r::rs,i=>(oD r&&decide (KK r.name all 0=(i:Int)))&&Rk all rs (i+1)
def zT(l:ar):Bool:=Rk l l 0&&decide ((l.length:Int)<=6)
theorem aAm(l:ar)(n:Bytes):ue l n=some (KK n l 0):=by
 unfold ue;have:∀(r:ar) (i:Nat),kV l n (some (-1)) r i=some (KK n r i):=by
  intro r
  induction r with
  |nil=>intro i;rfl
  |cons x r ih=>intro i;rw[kV,ih,KK];cases x.name==n<;>rfl
 exact this l 0
theorem aA4(l:ar)(n:Bytes):uN l n=some (KK n l 0):=by
 unfold uN;have:∀(r:ar) (i:Nat),kH l n (some (-1)) r i=some (KK n r i):=by
  intro r
  induction r with
  |nil=>intro i;rfl
  |cons x r ih=>intro i;rw[kH,ih,KK];cases x.name==n<;>rfl
 exact this l 0
theorem aDX(l:ar)(h:k8 aO.wt l<=1048576):uc l=some (zT l):=by
 unfold uc;have:∀(r:ar) (i:Nat) (k:Option Bool),(∀x∈r,x.wt<=1048576)->kT l k r i=bif Rk l r i then k else some false:=by
  intro r
  induction r with
  |nil=>intro i k _;rfl
  |cons x r ih=>
   intro i k hx;rw[kT,aAy x (hx x (by simp)),aA,aAm,aA,ih _ _ (fun y hy=>hx y (by simp[hy])),Rk];simp only[bne,fG];cases oD x<;>cases decide (KK x.name l 0=(i:Int))<;>simp
 rw[this _ _ _ (fun x hx=>by have:=iZ (w:=aO.wt) hx;omega),aZ,zT];cases Rk l l 0<;>rfl
theorem aDA(l:ar)(h:k8 aO.wt l<=1048576):uL l=some (zT l):=by
 unfold uL;have:∀(r:ar) (i:Nat) (k:Option Bool),(∀x∈r,x.wt<=1048576)->kE l k r i=bif Rk l r i then k else some false:=by
  intro r
  induction r with
  |nil=>intro i k _;rfl
  |cons x r ih=>
   intro i k hx;rw[kE,aAF x (hx x (by simp)),aA,aA4,aA,ih _ _ (fun y hy=>hx y (by simp[hy])),Rk];simp only[bne,fG];cases oD x<;>cases decide (KK x.name l 0=(i:Int))<;>simp
 rw[this _ _ _ (fun x hx=>by have:=iZ (w:=aO.wt) hx;omega),aZ,zT];have g:decide ((l.length:Int)<=6)= !decide ((l.length:Int)>6):=by rw[bp];simp
 rw[g];cases Rk l l 0<;>cases decide ((l.length:Int)>6)<;>rfl
end Go.Cx
namespace Go.Cx
open Go.RowKit Go.Proofs Tryz
theorem RE{α β:Type}[DecidableEq β]{f:α->α->Option Bool}{g:α->β}{a b:List α}{k:Option Bool}{L:List α->Nat->Option Bool}(hl:a.length=b.length)(uw:∀i,L [] i=k)
 (tZ:∀x xs i,L (x::xs) i=(mJ b (i:Int)).bind fun y=>(f x y).bind fun r=>bif !r then some false else L xs (i+1)) (hf:∀x y,f x y=some (decide (g x=g y))):
 L a 0=bif decide (a.map g=b.map g)then k else some false:=by
 have key:∀(ra rb pa pb:List α),a=pa++ra->b=pb++rb->pa.length=pb.length->L ra pa.length=bif decide (ra.map g=rb.map g)then k else some false:=by
  intro ra
  induction ra with
  |nil=>
   intro rb pa pb h1 h2 h3;rw[uw];have:rb=[]:=by
    have:=congrArg List.length h1;have:=congrArg List.length h2;simp at*;apply cc;omega
   subst this;simp
  |cons x xs ih=>
   intro rb pa pb h1 h2 h3;cases rb with
   |nil=>
    exfalso;have:=congrArg List.length h1;have:=congrArg List.length h2;simp at*;omega
   |cons y ys=>
    have e1:mJ b (pa.length:Int)=some y:=by rw[h3];exact zh h2
    rw[tZ,e1,aA,hf,aA];have:=ih ys (pa++[x]) (pb++[y]) (by rw[h1];simp) (by rw[h2];simp) (by simp[h3]);simp only[aX,aM,bK]at this;rw[this];by_cases hxy:g x=g y
    ·simp[hxy]
    ·simp[hxy]
 exact key a b [] [] rfl rfl rfl
theorem R1{α β:Type}{g:α->β}{a b:List α}(h:a.length≠b.length):a.map g≠b.map g:=fun e=>h (by have:=congrArg List.length e;simpa using this)
theorem IT{α:Type}{c:α->aR}(a b:List α):((((a.map c).length:Int):Int) != ((b.map c).length:Int))= !decide (a.length=b.length):=by
 rw[bp];simp;omega
theorem map_id'{α:Type}(l:List α):l.map (fun x=>x)=l:=by simp
theorem a7r(a b:aO):qv a b=some (decide (a=b)):=by
 have k2:∀(k:Option Bool),a.cu.length=b.cu.length->ig a b k a.cu 0=bif decide (a.cu=b.cu)then k else some false:=fun k hl=>by
  have:=RE (g:=fun x:Action=>x) (f:=fun x y:Action=>bif x.kind != y.kind then some false else fQ x.pat y.pat) (k:=k) (L:=ig a b k) hl (fun _=>rfl) (fun x xs i=>by
   rw[ig];congr 1;funext y;cases(x.kind != y.kind)<;>rfl) (fun x y=>by
   obtain⟨x0,x1⟩:=x;obtain⟨y0,y1⟩:=y;simp only[Qo,bne,fG];by_cases h0:x0=y0<;>by_cases h1:x1=y1<;>simp[h0,h1])
  rw[map_id',map_id']at this;exact this
 have k1:∀(k:Option Bool),a.conds.length=b.conds.length->kJ a b k a.conds 0=bif decide (a.conds=b.conds)then k else some false:=fun k hl=>by
  have:=RE (g:=fun x:aQ=>x) (f:=kA) (k:=k) (L:=kJ a b k) hl (fun _=>rfl) (fun _ _ _=>rfl) TU;rw[map_id',map_id']at this;exact this
 unfold qv;rw[IT,IT];obtain⟨a0,a1,a2,a3⟩:=a;obtain⟨b0,b1,b2,b3⟩:=b;simp only at k1 k2⊢;simp only[bne,fG,Bool.not_not];by_cases h0:a0=b0;rotate_left
 ·simp[h0]
 by_cases h1:a1=b1;rotate_left
 ·simp[h1]
 by_cases h2:a2.length=b2.length;rotate_left
 ·have:a2≠b2:=fun e=>h2 (by rw[e])
  simp[h2,this]
 by_cases h3:a3.length=b3.length;rotate_left
 ·have:a3≠b3:=fun e=>h3 (by rw[e])
  simp[h3,this]
 rw[k1 _ h2,k2 _ h3];by_cases h4:a2=b2<;>by_cases h5:a3=b3<;>simp[h0,h1,h2,h3,h4,h5]
theorem a4s(a b:ar):sw a b=some (decide (a=b)):=by
 unfold sw;exact SJ (c:=aO.c) (f:=qv) (fun k=>mQ a b k) (fun _ _=>rfl) (fun _ _ _ _=>rfl) a7r
theorem VZ(x y:aS):((x.var:Bytes)==y.var&&(x.value:Bytes)==y.value)=decide (x=y):=by
 obtain⟨x0,x1⟩:=x;obtain⟨y0,y1⟩:=y;simp only[fG];by_cases h0:x0=y0<;>by_cases h1:x1=y1<;>simp[h0,h1]
theorem a8Z(a b:aT):lK a b=some (decide (a=b)):=by
 unfold lK;exact SJ (c:=aS.c) (f:=fun x y=>some (decide (x=y))) (fun k=>gI a b k) (fun _ _=>rfl) (fun k x xs i=>by rw[gI];congr 1;funext y;rw[VZ];rfl) (fun _ _=>rfl)
theorem a7p(a b:aT):qE a b=some (decide (a=b)):=by
 unfold qE;exact SJ (c:=aS.c) (f:=fun x y=>some (decide (x=y))) (fun k=>jc a b k) (fun _ _=>rfl) (fun k x xs i=>by rw[jc];congr 1;funext y;rw[VZ];rfl) (fun _ _=>rfl)
theorem a5S(a b:ah):pN a b=some (decide (a=b)):=by
 unfold pN;exact SJ (c:=aI.c) (f:=fun x y=>(nX x.facts y.facts).bind fun r=>bif !r then some false else lK x.bind y.bind) (fun k=>gq a b k) (fun _ _=>rfl) (fun k x xs i=>by
  rw[gq];congr 1;funext y;rw[U0,aA,aA];cases decide (x.facts=y.facts)<;>rfl) (fun x y=>by
  obtain⟨x0,x1⟩:=x;obtain⟨y0,y1⟩:=y;simp only[U0,a8Z,aA];by_cases h0:x0=y0<;>by_cases h1:x1=y1<;>simp[h0,h1])
theorem a4t(a b:ah):oQ a b=some (decide (a=b)):=by
 unfold oQ;exact SJ (c:=aI.c) (f:=fun x y=>(jM x.facts y.facts).bind fun r=>bif !r then some false else qE x.bind y.bind) (fun k=>iw a b k) (fun _ _=>rfl) (fun k x xs i=>by
  rw[iw];congr 1;funext y;rw[Py,aA,aA];cases decide (x.facts=y.facts)<;>rfl) (fun x y=>by
  obtain⟨x0,x1⟩:=x;obtain⟨y0,y1⟩:=y;simp only[Py,a7p,aA];by_cases h0:x0=y0<;>by_cases h1:x1=y1<;>simp[h0,h1])
def Qe(a b:aF):Bool:=decide (a.av.map aP.shape=b.av.map aP.shape)&&(decide (a.nodes.map (fun x=>(x.parent,x.cP,x.cond))=b.nodes.map (fun x=>(x.parent,x.cP,x.cond)))&&decide (a.ends=b.ends))
def Rt(a b:aF):Bool:=decide (a.rules=b.rules)&&(decide (a.ends=b.ends)&&(decide (a.facts=b.facts)&&(decide (a.av=b.av)&&decide (a.nodes=b.nodes))))
theorem aAp(a b:aF):rS a b=some (Qe a b):=by
 unfold rS Qe;rw[IT,IT,IT];by_cases h1:a.av.length=b.av.length;rotate_left
 ·simp[h1,R1 h1]
 by_cases h2:a.nodes.length=b.nodes.length;rotate_left
 ·simp[h2,R1 h2]
 by_cases h3:a.ends.length=b.ends.length;rotate_left
 ·have:a.ends≠b.ends:=fun e=>h3 (by rw[e])
  simp[h3,this]
 have k1:=fun k=>RE (g:=aP.shape) (f:=fun x y:aP=>j9 x.shape y.shape) (k:=k) (L:=lM a b k) h1 (fun _=>rfl) (fun _ _ _=>rfl) (fun x y=>XX _ _)
 have k2:=fun k=>RE (g:=fun x:Node=>(x.parent,x.cP,x.cond)) (f:=fun x y:Node=>bif x.parent != y.parent then some false else bif x.cP != y.cP then some false else p6 x.cond y.cond) (k:=k) (L:=jA a b k) h2 (fun _=>rfl) (fun x xs i=>by
  rw[jA];congr 1;funext y;cases(x.parent != y.parent)<;>cases(x.cP != y.cP)<;>rfl) (fun x y=>by
  simp only[a38,bne,fG];by_cases q0:x.parent=y.parent<;>by_cases q1:x.cP=y.cP<;>by_cases q2:x.cond=y.cond<;>simp[q0,q1,q2])
 have k3:=fun k=>RE (g:=fun x:Int=>x) (f:=fun x y:Int=>some (decide (x=y))) (k:=k) (L:=jB a b k) h3 (fun _=>rfl) (fun x xs i=>by
  rw[jB];congr 1) (fun x y=>rfl)
 rw[k1,k2,k3,map_id',map_id'];simp only[h1,h2,h3,Ca,bQ,aa];cases decide (a.av.map aP.shape=b.av.map aP.shape)<;>cases decide (a.nodes.map (fun x=>(x.parent,x.cP,x.cond))=b.nodes.map (fun x=>(x.parent,x.cP,x.cond)))<;>cases decide (a.ends=b.ends)<;>rfl
theorem aDF(a b:aF):pH a b=some (Rt a b):=by
 unfold pH;simp only[a4s,a7q,Py,aA,IT];by_cases h1:a.av.length=b.av.length;rotate_left
 ·have:a.av≠b.av:=fun e=>h1 (by rw[e])
  simp only[h1,Rt,this,decide_false,cQ,aW,Bool.false_and];cases decide (a.rules=b.rules)<;>cases decide (a.ends=b.ends)<;>cases decide (a.facts=b.facts)<;>rfl
 by_cases h2:a.nodes.length=b.nodes.length;rotate_left
 ·have:a.nodes≠b.nodes:=fun e=>h2 (by rw[e])
  simp only[h1,h2,Rt,this,Ca,decide_false,cQ,bQ,aW,aa,yW];cases decide (a.rules=b.rules)<;>cases decide (a.ends=b.ends)<;>cases decide (a.facts=b.facts)<;>rfl
 have k1:=fun k=>RE (g:=fun x:aP=>x) (f:=fun x y:aP=>(fQ x.shape y.shape).bind fun r=>bif !r then some false else jM x.facts y.facts) (k:=k) (L:=gY a b k) h1 (fun _=>rfl) (fun x xs i=>by
  rw[gY];congr 1;funext y;rw[Qo,aA,aA];cases decide (x.shape=y.shape)<;>rfl) (fun x y=>by
  obtain⟨x0,x1⟩:=x;obtain⟨y0,y1⟩:=y;simp only[Qo,Py,aA];by_cases q0:x0=y0<;>by_cases q1:x1=y1<;>simp[q0,q1])
 have k2:=fun k=>RE (g:=fun x:Node=>x) (f:=fun x y:Node=>bif x.parent != y.parent then some false else bif x.cP != y.cP then some false else(kA x.cond y.cond).bind fun r=>bif !r then some false else oQ x.tokens y.tokens) (k:=k) (L:=gZ a b k) h2 (fun _=>rfl) (fun x xs i=>by
  rw[gZ];congr 1;funext y;rw[TU,aA,aA];cases(x.parent != y.parent)<;>cases(x.cP != y.cP)<;>cases decide (x.cond=y.cond)<;>rfl) (fun x y=>by
  obtain⟨x0,x1,x2,x3⟩:=x;obtain⟨y0,y1,y2,y3⟩:=y;simp only[TU,a4t,aA,bne,fG];by_cases q0:x0=y0<;>by_cases q1:x1=y1<;>by_cases q2:x2=y2<;>by_cases q3:x3=y3<;>simp[q0,q1,q2,q3])
 rw[k1,k2,map_id',map_id',map_id',map_id',Rt];simp only[h1,h2,Ca,bQ,aa];cases decide (a.rules=b.rules)<;>cases decide (a.ends=b.ends)<;>cases decide (a.facts=b.facts)<;>cases decide (a.av=b.av)<;>cases decide (a.nodes=b.nodes)<;>rfl
end Go.Cx
namespace Go.Cx
open Go.RowKit Go.Proofs Tryz
def AK(s:Bytes):Option Nat:=if 1<=s.length/\s.length<=4 then(match Lib.decFrom 0 s with|some n=>if Lib.decDigits n=s then some n else none|none=>none)else none
def pI(s:Bytes):Int×Bool:=match AK s with|some n=>((n:Int),true)|none=>(0,false)
theorem a1K:∀(u:Nat),∀b∈Lib.decDigits u,48<=b.toNat/\b.toNat<=57:=by
 intro u
 induction u using Nat.strongRecOn with
 |_ u ih=>
  have hb:∀v:Nat,v<10->48<=(UInt8.ofNat (48+v)).toNat/\(UInt8.ofNat (48+v)).toNat<=57:=by
   intro v hv;have:(UInt8.ofNat (48+v)).toNat=48+v:=by simp;omega
   omega
  intro b hm;rw[Lib.decDigits]at hm;split at hm
  ·rename_i h10;simp only[eD]at hm;subst hm;exact hb u h10
  ·rename_i h10;rcases au.1 hm with hm|hm
   ·exact ih (u/10) (by omega) b hm
   ·simp only[eD]at hm;subst hm;exact hb (u%10) (by omega)
theorem a5M(a:Bytes)(k:Int->Option (Int×Bool))(ha:a.length<=4):∀(rest pre:Bytes) (acc:Nat),a=pre++rest->acc<10^pre.length->∀n,rest.length<n->
 j5 a k n (acc:Int) (pre.length:Int)=(match Lib.decFrom acc rest with|some m=>k (m:Int)|none=>some (0,false)):=by
 intro rest
 induction rest with
 |nil=>
  intro pre acc h _ n hn;obtain⟨m,rfl⟩:∃m,n=m+1:=⟨n-1,by simp at hn;omega⟩
  have e1:decide ((pre.length:Int)<(a.length:Int))=false:=by simp[h]
  rw[j5,e1];rfl
 |cons x xs ih=>
  intro pre acc h hacc n hn;obtain⟨m,rfl⟩:∃m,n=m+1:=⟨n-1,by simp at hn;omega⟩
  have hl:a.length=pre.length+(xs.length+1):=by rw[h];simp
  have e1:decide ((pre.length:Int)<(a.length:Int))=true:=by rw[hl];simp;omega
  have e4:IntKind.i64.wrap ((pre.length:Int)+1)=((pre++[x]).length:Int):=by rw[II (by omega)];simp
  have h10:acc<10000:=eE hacc (vz (by omega) (show pre.length<=4 by omega));have hx:=x.toNat_lt;rw[j5,e1,aW,zh h,aA,e4];by_cases c1:(x.toNat:Int)<48
  ·have:Lib.digitVal x=none:=by unfold Lib.digitVal;rw[bG (by omega)]
   simp only[Lib.decFrom,this];rw[bU c1,aW]
  ·by_cases c2:(x.toNat:Int)>57
   ·have:Lib.digitVal x=none:=by unfold Lib.digitVal;rw[bG (by omega)]
    simp only[Lib.decFrom,this];rw[b9 c1,aa,bU c2,aW]
   ·have hd:Lib.digitVal x=some (x.toNat-48):=by unfold Lib.digitVal;rw[bR (by omega)]
    have e5:IntKind.i64.wrap ((IntKind.i64.wrap (10*(acc:Int)))+(IntKind.i64.wrap (IntKind.u8.wrap ((x.toNat:Int)-48))))=((acc*10+(x.toNat-48):Nat):Int):=by
     rw[gr (k:=.u8) (th.u8.2 (by omega)),gr (n:=(10:Int)*(acc:Int)) (th.i64.2 (by omega)),gr (n:=(x.toNat:Int)-48) (th.i64.2 (by omega)),gr (th.i64.2 (by omega))];omega
    simp only[Lib.decFrom,hd];rw[b9 c1,aa,b9 c2,aa,e5];refine ih (pre++[x]) _ (by simp[h]) ?_ m (by simp at hn;omega);rw[aX,fW,yZ];omega
theorem Tz(s:Bytes):oz s=some (pI s):=by
 unfold oz;rw[Nd,aA];by_cases hl:1<=s.length/\s.length<=4
 ·have e1:(decide ((s.length:Int)>=1)&&decide ((s.length:Int)<=4))=true:=by simp;omega
  have t:=a5M s (fun z=>((qK z).bind fun IJ=>(bif !((IJ:Bytes)==s)then(some (0,false))else(some (z,true))))) hl.2 s [] 0 rfl (by simp) fuel (by unfold fuel;omega);rw[e1,bQ,aa];refine t.trans ?_;unfold pI AK;rw[bR hl];cases hd:Lib.decFrom 0 s with
  |none=>rfl
  |some m=>
   have hm:=Lib.decFrom_lt s 0 m hd;have h10:m<10000:=by
    have:=vz (n:=10) (by omega) hl.2;omega
   simp only;rw[aAn _ (th.i64.2 (by omega)),aA];have e2:Lib.itoa (m:Int)=Lib.decDigits m:=by unfold Lib.itoa;rw[bG (by omega)];simp
   rw[e2];by_cases he:Lib.decDigits m=s
   ·rw[bR he,he];simp
   ·rw[bG he];have:(Lib.decDigits m==s)=false:=by simpa using he
    rw[this];rfl
 ·have e1:(decide ((s.length:Int)>=1)&&decide ((s.length:Int)<=4))=false:=by
   rw[FG,oK,oK];omega
  rw[e1];unfold pI AK;rw[bG hl];rfl
theorem TT(s:Bytes):mZ s=some (pI s):=by
 unfold mZ pI AK;by_cases hl:1<=s.length/\s.length<=4
 ·have e1:decide ((s.length:Int)<1)=false:=by simp;omega
  have e2:decide ((s.length:Int)>4)=false:=by simp;omega
  rw[bR hl,e1,aa,e2,aa];unfold C5 TX;rw[bR (by omega)];cases s with
  |nil=>simp at hl
  |cons b t=>
   have fin:∀(m:Nat),Lib.decFrom 0 (b::t)=some m->(bif decide ((m:Int)<0)then some ((0:Int),false)else bif decide ((m:Int)>9999)then some (0,false)else(kp (m:Int)).bind fun y8=>bif !((y8:Bytes)==(b::t))then some (0,false)else some ((m:Int),true))=
    some (match(if Lib.decDigits m=b::t then some m else none)with|some n=>((n:Int),true)|none=>(0,false)):=by
    intro m hd;have hm:=Lib.decFrom_lt (b::t) 0 m hd;have h10:m<10000:=by
     have:=vz (n:=10) (by omega) hl.2;omega
    have e3:decide ((m:Int)<0)=false:=by simp
    have e4:decide ((m:Int)>9999)=false:=by simp;omega
    have e5:Lib.itoa (m:Int)=Lib.decDigits m:=by unfold Lib.itoa;rw[bG (by omega)];simp
    rw[e3,aa,e4,aa,a7j,aA,e5];by_cases he:Lib.decDigits m=b::t
    ·rw[bR he,he];simp
    ·rw[bG he];have:(Lib.decDigits m==(b::t))=false:=by simpa using he
     rw[this];rfl
   have sign:∀(n:Int),b.toNat<48->(bif decide (n<0)then some ((0:Int),false)else bif decide (n>9999)then some (0,false)else(kp n).bind fun y8=>bif !((y8:Bytes)==(b::t))then some (0,false)else some (n,true))=some (0,false):=by
    intro n hb;by_cases hn:n<0
    ·rw[bU hn];rfl
    rw[b9 hn,aa,a7j,aA];cases decide (n>9999)with
    |true=>rfl
    |false=>
     have e5:Lib.itoa n=Lib.decDigits n.toNat:=by unfold Lib.itoa;rw[bG hn]
     have:(Lib.itoa n==(b::t))=false:=by
      rw[e5,dH];intro h;have:=a1K n.toNat b (by rw[h];simp);omega
     rw[this];rfl
   simp only[Lib.atoi];by_cases hb:b=45
   ·subst hb;have hd:Lib.decFrom 0 ((45:UInt8)::t)=none:=by simp[Lib.decFrom,Lib.digitVal]
    rw[bR (by decide),hd];cases Lib.decNat t with
    |none=>rfl
    |some m=>exact sign _ (by decide)
   ·rw[bG (by simpa using hb)];by_cases YT:b=43
    ·subst YT;have hd:Lib.decFrom 0 ((43:UInt8)::t)=none:=by simp[Lib.decFrom,Lib.digitVal]
     rw[bR (by decide),hd];cases Lib.decNat t with
     |none=>rfl
     |some m=>exact sign (m:Int) (by decide)
    ·rw[bG (by simpa using YT)];have hdn:Lib.decNat (b::t)=Lib.decFrom 0 (b::t):=by simp[Lib.decNat]
     rw[hdn];cases hd:Lib.decFrom 0 (b::t)with
     |none=>rfl
     |some m=>exact fin m hd
 ·rw[bG hl];by_cases h1:(s.length:Int)<1
  ·rw[bU h1];rfl
  ·have h2:(s.length:Int)>4:=by omega
   rw[b9 h1,aa,bU h2];rfl
def yU(a b:Bytes):Int:=if Op.bytesLess a b=true then-1 else if a=b then 0 else 1
def Ki(x y:Int):Int:=if x<y then-1 else if x>y then 1 else 0
def DP(a b:Bytes):Int:=match AK a,AK b with
 |some x,some y=>Ki x y
 |some _,none=> -1
 |none,some _=>1
 |none,none=>yU a b
def vq{α:Type}(g:α->α->Int):List α->List α->Option Int
 |x::xs,y::ys=>if g x y≠0 then some (g x y)else vq g xs ys
 |_,_=>none
def cmpL{α:Type}(g:α->α->Int)(a b:List α):Int:=match vq g a b with|some z=>z|none=>Ki a.length b.length
def qA(a b:aE):Int:=if a.rel≠b.rel then yU a.rel b.rel else cmpL DP a.args b.args
theorem YH{a b:Bytes}(h:a≠b):yU a b≠0:=by
 unfold yU;split
 ·omega
 ·first|omega| (rw[bG h];omega)
theorem SG(a:Bytes):yU a a=0:=by
 unfold yU;rw[yI];simp
theorem YD:∀(a b:Bytes),Lib.compareBytes a b=yU a b
 | [],[]=>by simp[Lib.compareBytes,yU,Op.bytesLess]
 | [],_::_=>by simp[Lib.compareBytes,yU,Op.bytesLess]
 |_::_,[]=>by simp[Lib.compareBytes,yU,Op.bytesLess]
 |a::xs,b::ys=>by
  have ih:=YD xs ys;simp only[Lib.compareBytes,yU,Op.bytesLess];by_cases h1:a<b
  ·simp[h1]
  ·by_cases h2:b<a
   ·have hne:a≠b:=fun e=>by subst e;exact h1 h2
    simp[h1,h2,hne]
   ·have e:a=b:=by
     rw[FK]at h1 h2;exact UInt8.toNat_inj.1 (by omega)
    subst e;rw[bG h1,bG h1,ih];simp[yU,h1]
theorem Ps{α:Type}{f:α->α->Option Int}{g:α->α->Int}{c:α->aR}{L:List α->Nat->Option Int}{k:Option Int}{b:List α}(uw:∀i,L [] i=k)
 (tZ:∀x xs i,L (x::xs) i=bif decide (((i:Int):Int)<((b.map c).length:Int))then((mJ b (i:Int)).bind fun y=>((f x y).bind fun z=>(bif (z:Int) != 0 then(some z)else(L xs (i+1)))))else k):
 ∀(l pre rest:List α),b=pre++rest->(∀x∈l,∀y∈rest,f x y=some (g x y))->L l pre.length=(match vq g l rest with|some z=>some z|none=>k):=by
 intro l
 induction l with
 |nil=>intro pre rest h _;rw[uw];cases rest<;>rfl
 |cons x xs ih=>
  intro pre rest h hf;rw[tZ];cases rest with
  |nil=>
   have e1:decide ((pre.length:Int)<((b.map c).length:Int))=false:=by simp[h]
   rw[e1];rfl
  |cons y ys=>
   have e1:decide ((pre.length:Int)<((b.map c).length:Int))=true:=by simp[h];omega
   rw[e1,aW,zh h,aA,hf x (by simp) y (by simp),aA];simp only[vq];have t:=ih (pre++[y]) ys (by simp[h]) (fun x' hx y' hy=>hf x' (by simp[hx]) y' (by simp[hy]));rw[aX,fW]at t;by_cases hz:g x y=0
   ·have e2:(g x y != 0)=false:=by simp[hz]
    rw[e2,aa,t,bG (by simp[hz])]
   ·have e2:(g x y != 0)=true:=by simp[hz]
    rw[e2,aW,bR hz]
theorem Pt(x y:Int):(bif decide (x<y)then some (-1:Int)else bif decide (x>y)then some 1 else some 0)=some (Ki x y):=by
 unfold Ki;by_cases h1:x<y
 ·simp[h1]
 ·by_cases h2:x>y
  ·simp[h1,h2]
  ·simp[h1,h2]
theorem a6a(a b:Bytes):uC a b=some (yU a b):=by
 unfold uC yU;cases h:Op.bytesLess a b with
 |true=>rfl
 |false=>
  by_cases e:a=b
  ·simp[e]
  ·have e':(a==b)=false:=by simpa using e
   simp[e,e']
theorem a6Z(a b:Bytes):jj a b=some (DP a b):=by
 unfold jj DP;rw[Tz,Tz,aA,aA,a6a];unfold pI;cases AK a with
 |none=>cases AK b<;>rfl
 |some x=>
  cases AK b with
  |none=>rfl
  |some y=>
   simp only[aW,bQ,aa];exact Pt _ _
theorem a1y(x y:Int):ij x y=some (Ki x y):=by
 unfold ij;exact Pt x y
theorem a61(a b:Bytes):rT a b=some (yU a b):=by
 unfold rT;show some (Lib.compareBytes a b)=_;rw[YD]
theorem aA0(a b:Bytes):mK a b=some (DP a b):=by
 unfold mK DP;rw[TT,TT,aA,aA,a61];unfold pI;cases AK a with
 |none=>cases AK b<;>rfl
 |some x=>
  cases AK b with
  |none=>rfl
  |some y=>
   simp only[aW,a1y,aA]
theorem a2t(a b:aE):ey a b=some (qA a b):=by
 unfold ey qA;by_cases h:a.rel=b.rel
 ·have e:(a.rel==b.rel)=true:=by simpa using h
  rw[e,bQ,aa,bG (by simpa using h)];have t:=fun k=>Ps (f:=jj) (g:=DP) (c:=tx) (L:=jO a b k) (b:=b.args) (k:=k) (fun _=>rfl) (fun _ _ _=>rfl) a.args [] b.args rfl (fun x _ y _=>a6Z x y)
  refine(t _).trans ?_;unfold cmpL;cases vq DP a.args b.args with
  |some z=>rfl
  |none=>simp only[aZ];exact Pt _ _
 ·have e:(a.rel==b.rel)=false:=by simpa using h
  rw[e,cQ,aW,bR h,a6a];rfl
theorem a1x(a b:aE):fo a b=some (qA a b):=by
 unfold fo qA;rw[a61,aA];by_cases h:a.rel=b.rel
 ·have e:(yU a.rel b.rel != 0)=false:=by rw[h,SG];rfl
  rw[e,aa,bG (by simpa using h)];have t:=fun k=>Ps (f:=mK) (g:=DP) (c:=tx) (L:=jI a b k) (b:=b.args) (k:=k) (fun _=>rfl) (fun _ _ _=>rfl) a.args [] b.args rfl (fun x _ y _=>aA0 x y)
  refine(t _).trans ?_;unfold cmpL;cases vq DP a.args b.args with
  |some z=>rfl
  |none=>simp only[aZ,a1y,aA]
 ·have e:(yU a.rel b.rel != 0)=true:=by simpa using YH h
  rw[e,aW,bR h]
theorem aAj(a b:aI):oA a b=some (cmpL qA a.facts b.facts):=by
 unfold oA;have t:=fun k=>Ps (f:=ey) (g:=qA) (c:=aE.c) (L:=iX a b k) (b:=b.facts) (k:=k) (fun _=>rfl) (fun _ _ _=>rfl) a.facts [] b.facts rfl (fun x _ y _=>a2t x y)
 refine(t _).trans ?_;unfold cmpL;cases vq qA a.facts b.facts with
 |some z=>rfl
 |none=>simp only[aZ];exact Pt _ _
theorem aA1(a b:aI):o7 a b=some (cmpL qA a.facts b.facts):=by
 unfold o7 oN;have t:=Ps (f:=fo) (g:=qA) (c:=aE.c) (L:=eZ a.facts b.facts ((ij ((a.facts.map aE.c).length:Int) ((b.facts.map aE.c).length:Int)).bind fun Ra=>(some Ra))) (b:=b.facts) (k:=_) (fun _=>rfl) (fun _ _ _=>rfl) a.facts [] b.facts rfl (fun x _ y _=>a1x x y);rw[show eZ a.facts b.facts _ a.facts 0=_ from t];unfold cmpL;cases vq qA a.facts b.facts with
 |some z=>rfl
 |none=>simp only[aZ,a1y,aA]
def chainB:Option aE->aK->Bool
 |_,[]=>true
 |p,x::xs=>tj x&&(match p with|some q=>decide (qA q x<0)|none=>true)&&chainB (some x) xs
def pY(l:aK):Bool:=chainB none l&&decide (l.length<=24)
theorem S8{isF:aE->Option Bool}{cmp:aE->aE->Option Int}{a:aK}{L:aK->Nat->Option Bool}{k:Option Bool}(ha:a.length<=1099511627770)(hc:∀x y,cmp x y=some (qA x y))(uw:∀i,L [] i=k)
 (tZ:∀x xs i,L (x::xs) i=((isF x).bind fun y=>(bif !(y)then(some false)else(bif decide (((i:Int):Int)>0)then((mJ a (IntKind.i64.wrap ((i:Int)-1))).bind fun q=>((cmp q x).bind fun z=>(bif decide ((z:Int)>=0)then(some false)else(L xs (i+1)))))else(L xs (i+1)))))):
 ∀(l pre:aK),a=pre++l->(∀x∈l,isF x=some (tj x))->L l pre.length=bif chainB pre.getLast? l then k else some false:=by
 intro l
 induction l with
 |nil=>intro pre _ _;rw[uw];rfl
 |cons x xs ih=>
  intro pre h hf;have hl:a.length=pre.length+(xs.length+1):=by rw[h];simp
  have t:=ih (pre++[x]) (by simp[h]) (fun y hy=>hf y (by simp[hy]));rw[aX,fW,o4]at t;rw[tZ,hf x (by simp),aA,t];simp only[chainB];cases tj x with
  |false=>rfl
  |true=>
   rw[bQ,aa,fN];rcases z6 pre with rfl|⟨p,z,hpz⟩
   ·simp
   ·rw[yz]at hpz;subst hpz;have e0:decide (((p++[z]).length:Int)>0)=true:=by simp<;>omega
    have e1:IntKind.i64.wrap (((p++[z]).length:Int)-1)=(p.length:Int):=by
     rw[gr (th.i64.2 (by simp at hl⊢;omega))];simp
    have e2:mJ a (p.length:Int)=some z:=zh (xs:=x::xs) (by rw[h];simp);rw[e0,aW,e1,e2,aA,hc,aA,o4];by_cases hz:qA z x<0
    ·have e3:decide (qA z x>=0)=false:=by simp;omega
     rw[e3,aa];show _=bif (decide (qA z x<0)&&chainB (some x) xs)then k else some false
     rw[bU hz,fN]
    ·have e3:decide (qA z x>=0)=true:=by simp;omega
     rw[e3,aW];show _=bif (decide (qA z x<0)&&chainB (some x) xs)then k else some false
     rw[b9 hz];rfl
theorem a6X(l:aK)(h:k8 aE.wt l<=1048576):rA l=some (pY l):=by
 unfold rA pY;have hl:=gu aE.wt l;have t:=S8 (isF:=pg) (cmp:=ey) (a:=l) (L:=kR l (some (decide ((((l.map aE.c).length:Int):Int)<=24)))) (k:=_) (by omega) a2t (fun _=>rfl) (fun _ _ _=>rfl) l [] rfl (fun x hx=>a2x x (by have:=iZ (w:=aE.wt) hx;omega));refine t.trans ?_;have e:decide (((l.map aE.c).length:Int)<=24)=decide (l.length<=24):=by rw[aZ];congr 1;rw[zR];omega
 rw[e];show(bif chainB none l then _ else _)=_;cases chainB none l<;>rfl
theorem a60(l:aK)(h:k8 aE.wt l<=1048576):qu l=some (pY l):=by
 unfold qu pY;have hl:=gu aE.wt l;have t:=S8 (isF:=pZ) (cmp:=fo) (a:=l) (L:=ia l (some true)) (k:=_) (by omega) a1x (fun _=>rfl) (fun _ _ _=>rfl) l [] rfl (fun x hx=>a25 x (by have:=iZ (w:=aE.wt) hx;omega));rw[show ia l (some true) l 0=_ from t];by_cases h24:l.length<=24
 ·have e:decide (((l.map aE.c).length:Int)>24)=false:=by rw[aZ];simp;omega
  rw[e,aa,bU h24,v8];show(bif chainB none l then _ else _)=_;cases chainB none l<;>rfl
 ·have e:decide (((l.map aE.c).length:Int)>24)=true:=by rw[aZ];simp;omega
  rw[e,aW,b9 h24,yW]
end Go.Cx
namespace Go.Cx
open Go.RowKit Go.Proofs Tryz
def PB(b:aT):Prop:=b.length<=1048576/\∀x∈b,x.var.length<=1048576/\x.value.length<=1048576
theorem PB.nil:PB []:=⟨by simp,by simp⟩
def xD:Option aS->aT->Bool
 |_,[]=>true
 |p,x::xs=>lR x.var&&(ju x.value&&((match p with|some q=>Op.bytesLess q.var x.var|none=>true)&&xD (some x) xs))
def pF(b:aT):Bool:=xD none b&&decide (b.length<=6)
theorem OF{b:aT}(h:pF b=true):b.length<=6:=by
 unfold pF at h;simp only[aY,bJ]at h;exact h.2
theorem Ul{isV isA:Bytes->Option Bool}{a:aT}{L:aT->Nat->Option Bool}{k:Option Bool}(ha:a.length<=1099511627770)(hV:∀x:Bytes,x.length<=1048576->isV x=some (lR x))(hA:∀x:Bytes,x.length<=1048576->isA x=some (ju x))(uw:∀i,L [] i=k)
 (tZ:∀x xs i,L (x::xs) i=((isV x.var).bind fun y=>(bif !(y)then(some false)else((isA x.value).bind fun z=>(bif !(z)then(some false)else(bif decide (((i:Int):Int)>0)then((mJ a (IntKind.i64.wrap ((i:Int)-1))).bind fun q=>(bif !(Op.bytesLess q.var x.var)then(some false)else(L xs (i+1))))else(L xs (i+1)))))))):
 ∀(l pre:aT),a=pre++l->(∀x∈l,x.var.length<=1048576/\x.value.length<=1048576)->L l pre.length=bif xD pre.getLast? l then k else some false:=by
 intro l
 induction l with
 |nil=>intro pre _ _;rw[uw];rfl
 |cons x xs ih=>
  intro pre h hf;have hl:a.length=pre.length+(xs.length+1):=by rw[h];simp
  have t:=ih (pre++[x]) (by simp[h]) (fun y hy=>hf y (by simp[hy]));rw[aX,fW,o4]at t;rw[tZ,hV _ (hf x (by simp)).1,aA,hA _ (hf x (by simp)).2,aA,t];simp only[xD];cases lR x.var with
  |false=>rfl
  |true=>
   cases ju x.value with
   |false=>rfl
   |true=>
    simp only[bQ,aa,fN];rcases z6 pre with rfl|⟨p,z,hpz⟩
    ·simp
    ·rw[yz]at hpz;subst hpz;have e0:decide (((p++[z]).length:Int)>0)=true:=by simp<;>omega
     have e1:IntKind.i64.wrap (((p++[z]).length:Int)-1)=(p.length:Int):=by
      rw[gr (th.i64.2 (by simp at hl⊢;omega))];simp
     have e2:mJ a (p.length:Int)=some z:=zh (xs:=x::xs) (by rw[h];simp);rw[e0,aW,e1,e2,aA,o4];show _=bif (Op.bytesLess z.var x.var&&xD (some x) xs)then k else some false
     cases Op.bytesLess z.var x.var<;>rfl
theorem Yl(b:aT)(h:PB b):lD b=some (pF b):=by
 unfold lD pF;have t:=fun k=>Ul (isV:=iR) (isA:=fT) (a:=b) (L:=jk b k) (k:=k) (by have:=h.1;omega) Vg PM (fun _=>rfl) (fun _ _ _=>rfl) b [] rfl h.2
 refine(t _).trans ?_;have e:decide (((b.map aS.c).length:Int)<=6)=decide (b.length<=6):=by rw[aZ];congr 1;rw[zR];omega
 rw[e];show(bif xD none b then _ else _)=_;cases xD none b<;>rfl
theorem YZ(b:aT)(h:PB b):kq b=some (pF b):=by
 unfold kq pF;have t:=fun k=>Ul (isV:=lX) (isA:=fP) (a:=b) (L:=hO b k) (k:=k) (by have:=h.1;omega) Zf PA (fun _=>rfl) (fun _ _ _=>rfl) b [] rfl h.2
 rw[show hO b (some true) b 0=_ from t _];by_cases h6:b.length<=6
 ·have e:decide (((b.map aS.c).length:Int)>6)=false:=by rw[aZ];simp;omega
  rw[e,aa,bU h6,v8];show(bif xD none b then _ else _)=_;cases xD none b<;>rfl
 ·have e:decide (((b.map aS.c).length:Int)>6)=true:=by rw[aZ];simp;omega
  rw[e,aW,b9 h6,yW]
def lT(t:Bytes):aT->Option Bytes
 | []=>none
 |x::xs=>bif x.var==t then some x.value else lT t xs
def BR(b:aT)(t:Bytes):Bytes×Bool:=bif ju t then(t,true)else bif lR t then(match lT t b with|some v=>(v,true)|none=>([],false))else([],false)
theorem a8c(b:aT)(t:Bytes)(ht:t.length<=1048576):qT b t=some (BR b t):=by
 unfold qT BR;have key:∀(l:aT) (i:Nat),iT b t (some ([],false)) l i=some (bif lR t then(match lT t l with|some v=>(v,true)|none=>([],false))else([],false)):=by
  intro l
  induction l with
  |nil=>intro i;rw[iT];cases lR t<;>rfl
  |cons x xs ih=>
   intro i;rw[iT,Vg t ht,aA,ih];simp only[lT];cases x.var==t<;>cases lR t<;>rfl
 rw[PM t ht,aA,key];cases ju t<;>rfl
theorem a7u(b:aT)(t:Bytes)(ht:t.length<=1048576):qP b t=some (BR b t):=by
 unfold qP BR;have key:∀(l:aT) (i:Nat),lZ b t (some ([],false)) l i=some (match lT t l with|some v=>(v,true)|none=>([],false)):=by
  intro l
  induction l with
  |nil=>intro i;rfl
  |cons x xs ih=>
   intro i;rw[lZ,ih];simp only[lT];cases x.var==t<;>rfl
 rw[PA t ht,aA,Zf t ht,aA,key];cases ju t<;>cases lR t<;>rfl
theorem XV(b:aT)(h:b.length<=1099511627776):sE b=some b:=by
 unfold sE;rw[Ve h (by decide)];simp
theorem X5(b:aT)(h:b.length<=1099511627776):jN b=some b:=by
 unfold jN;rw[Ve h (by decide)];simp
def CE(v val:Bytes):aT->aT
 | []=>[⟨v,val⟩]
 |x::xs=>bif !(Op.bytesLess x.var v||x.var==v)then⟨v,val⟩::x::xs else x::CE v val xs
theorem RN(v val:Bytes)(b:aT):(CE v val b).length=b.length+1:=by
 induction b with
 |nil=>rfl
 |cons x xs ih=>simp only[CE];cases !(Op.bytesLess x.var v||x.var==v)<;>simp[ih]
theorem Vi(v val:Bytes)(b:aT){x:aS}(h:x∈CE v val b):x=⟨v,val⟩\/x∈b:=by
 induction b with
 |nil=>simp[CE]at h;exact .inl h
 |cons y ys ih=>
  simp only[CE]at h;cases hc: !(Op.bytesLess y.var v||y.var==v)with
  |true=>
   rw[hc,aW]at h;rcases bM.1 h with h|h
   ·exact .inl h
   ·exact .inr h
  |false=>
   rw[hc,aa]at h;rcases bM.1 h with h|h
   ·exact .inr (by simp[h])
   ·rcases ih h with h|h
    ·exact .inl h
    ·exact .inr (by simp[h])
theorem Yo{γ:Type}{v val:Bytes}{L:aT->Nat->Bool->aT->Option γ}{k:Bool->aT->Option γ}{K:aT->Option γ}(hk1:∀w,k true w=K w)(hk2:∀w:aT,w.length<1099511627770->k false w=K (w++[⟨v,val⟩]))(uw:∀i d w,L [] i d w=k d w)
 (tZ:∀x xs i d w,L (x::xs) i d w=(bif !(d)then(bif !(Op.bytesLess x.var v||(x.var:Bytes)==v)then(bif room ((w.map aS.c).length+([[D.str v,D.str val]]).length) 32 then(bif room (((w.map aS.c)++([[D.str v,D.str val]])).length+([[D.str x.var,D.str x.value]]).length) 32 then(L xs (i+1) true ((w++([(⟨v,val⟩:aS)]))++([x])))else none)else none)else(bif room ((w.map aS.c).length+([[D.str x.var,D.str x.value]]).length) 32 then(L xs (i+1) d (w++([x])))else none))else(bif room ((w.map aS.c).length+([[D.str x.var,D.str x.value]]).length) 32 then(L xs (i+1) d (w++([x])))else none))):
 ∀(l:aT) (i:Nat) (w:aT),w.length+l.length<1099511627760->L l i false w=K (w++CE v val l):=by
 have c1:∀(l:aT) (i:Nat) (w:aT),w.length+l.length<1099511627765->L l i true w=K (w++l):=by
  intro l
  induction l with
  |nil=>intro i w _;rw[uw,hk1,cN]
  |cons x xs ih=>
   intro i w hw;simp only[aM]at hw;rw[tZ,bQ,aa,mh (by omega) (by decide),aW,ih (i+1) (w++[x]) (by simp;omega)];simp
 intro l
 induction l with
 |nil=>intro i w hw;simp only[bK]at hw;rw[uw,hk2 _ (by omega)];rfl
 |cons x xs ih=>
  intro i w hw;simp only[aM]at hw;have r1:∀y:aR,room ((w.map aS.c).length+([y]).length) 32=true:=fun y=>mh (by omega) (by decide)
  have r2:room (((w.map aS.c)++([[D.str v,D.str val]])).length+([[D.str x.var,D.str x.value]]).length) 32=true:=KU (by simp;omega) (by decide);have t1:=ih (i+1) (w++[x]) (by simp;omega);have t2:=c1 xs (i+1) ((w++[⟨v,val⟩])++[x]) (by simp;omega);rw[tZ,cQ,aW,r1,r1,r2];simp only[aW,CE];cases !(Op.bytesLess x.var v||x.var==v)with
  |true=>rw[aW,aW,t2];simp
  |false=>rw[aa,aa,t1];simp
theorem aAz(b:aT)(v val:Bytes)(h:b.length<1099511627700):yp b v val=some (CE v val b):=by
 unfold yp;exact Yo (v:=v) (val:=val) (K:=fun w=>some w) (L:=me b v val (fun(z:Bool) (q:aT)=>(bif !(z)then(bif room ((q.map aS.c).length+([[D.str v,D.str val]]).length) 32 then(some (q++([(⟨v,val⟩:aS)])))else none)else(some q)))) (fun w=>rfl) (fun w hw=>by show(bif !false then _ else _)=_;rw[mh (by omega) (by decide)];rfl) (fun _ _ _=>rfl) (fun _ _ _ _ _=>rfl) b 0 [] (by simp;omega)
def Hs(b:aT)(v val:Bytes):aT×Bool:=bif pF b&&(lR v&&ju val)then(match lT v b with|some o=>bif o==val then(b,true)else([],false)|none=>bif decide (b.length=6)then([],false)else(CE v val b,true))else([],false)
theorem YJ{b:aT}{v val:Bytes}(h:PB b)(hv:v.length<=1048576)(hl:val.length<=1048576):PB (Hs b v val).1:=by
 unfold Hs;cases hb:pF b&&(lR v&&ju val)with
 |false=>exact PB.nil
 |true=>
  rw[aW];have h6:b.length<=6:=OF (by simp only[aY]at hb;exact hb.1);cases lT v b with
  |some o=>simp only;cases o==val<;>first|exact h|exact PB.nil
  |none=>
   simp only;cases decide (b.length=6)with
   |true=>exact PB.nil
   |false=>
    refine⟨by simp only[aa,RN];omega,fun x hx=>?_⟩;rcases Vi _ _ _ hx with rfl|hx
    ·exact⟨hv,hl⟩
    ·exact h.2 x hx
theorem aDa(b:aT)(v val:Bytes)(h:PB b)(hv:v.length<=1048576)(hl:val.length<=1048576):vQ b v val=some (Hs b v val):=by
 unfold vQ Hs;have hlen:=h.1;rw[Yl b h,aA,Vg v hv,aA,PM val hl,aA,a8c b v hv,aA,XV b (by omega),aA,aAz b v val (by omega),aA];have e6:((((b.map aS.c).length:Int):Int)==6)=decide (b.length=6):=by
  rw[aZ,bp];simp;omega
 rw[e6];cases hb:pF b with
 |false=>rfl
 |true=>
  cases hvv:lR v with
  |false=>rfl
  |true=>
   cases ju val with
   |false=>rfl
   |true=>
    have VC:BR b v=(match lT v b with|some o=>(o,true)|none=>([],false)):=by unfold BR;rw[BS hvv,hvv];rfl
    rw[VC];simp only[bQ,aa,fN,v8,aW];cases lT v b with
    |some o=>simp only[aW];cases o==val<;>rfl
    |none=>simp only[aa];cases decide (b.length=6)<;>rfl
theorem aDE(b:aT)(v val:Bytes)(h:PB b)(hv:v.length<=1048576)(hl:val.length<=1048576):vD b v val=some (Hs b v val):=by
 unfold vD Hs;have hlen:=h.1;have t:=(Yo (v:=v) (val:=val) (K:=fun w=>some ((w,true):aT×Bool)) (L:=ko b v val (fun(z:Bool) (q:aT)=>(bif !(z)then(bif room ((q.map aS.c).length+([[D.str v,D.str val]]).length) 32 then(some (q++([(⟨v,val⟩:aS)]),true))else none)else(some (q,true))))) (fun w=>rfl) (fun w hw=>by show(bif !false then _ else _)=_;rw[mh (by omega) (by decide)];rfl) (fun _ _ _=>rfl) (fun _ _ _ _ _=>rfl) b 0 [] (by simp;omega))
 rw[YZ b h,aA,Zf v hv,aA,PA val hl,aA,a7u b v hv,aA,X5 b (by omega),aA,t];cases hb:pF b with
 |false=>rfl
 |true=>
  have h6:=OF hb;have e6:decide ((((b.map aS.c).length:Int):Int)>=6)=decide (b.length=6):=by
   rw[aZ];congr 1;rw[zR];omega
  rw[e6];cases hvv:lR v with
  |false=>rfl
  |true=>
   cases ju val with
   |false=>rfl
   |true=>
    have VC:BR b v=(match lT v b with|some o=>(o,true)|none=>([],false)):=by unfold BR;rw[BS hvv,hvv];rfl
    rw[VC];simp only[bQ,aa,fN,v8,aW];cases lT v b with
    |some o=>simp only[aW];cases o==val<;>rfl
    |none=>simp only[aa];cases decide (b.length=6)<;>rfl
def Pg:aJ->aJ->aT->aT×Bool
 | [],_,w=>(w,true)
 |_::_,[],_=>([],false)
 |x::xs,y::ys,w=>bif ju x then(bif x==y then Pg xs ys w else([],false))else(bif (Hs w x y).2 then Pg xs ys (Hs w x y).1 else([],false))
def uy(p f:aE)(b:aT):aT×Bool:=bif yx p&&(tj f&&(pF b&&(p.rel==f.rel&&decide (p.args.length=f.args.length))))then Pg p.args f.args b else([],false)
theorem Tc:∀(l r:aJ) (w:aT),PB w->(∀x∈l,x.length<=1048576)->(∀x∈r,x.length<=1048576)->PB (Pg l r w).1
 | [],_,w,h,_,_=>h
 |_::_,[],_,_,_,_=>PB.nil
 |x::xs,y::ys,w,h,hl,hr=>by
  simp only[Pg];have i1:=Tc xs ys w h (fun z hz=>hl z (by simp[hz])) (fun z hz=>hr z (by simp[hz]));have i2:=Tc xs ys (Hs w x y).1 (YJ h (hl x (by simp)) (hr y (by simp))) (fun z hz=>hl z (by simp[hz])) (fun z hz=>hr z (by simp[hz]));cases ju x with
  |true=>cases x==y<;>first|exact i1|exact PB.nil
  |false=>cases(Hs w x y).2<;>first|exact i2|exact PB.nil
theorem a57{p f:aE}{b:aT}(hb:PB b)(hp:p.wt<=1048576)(hf:f.wt<=1048576):PB (uy p f b).1:=by
 unfold uy;cases yx p&&(tj f&&(pF b&&(p.rel==f.rel&&decide (p.args.length=f.args.length))))with
 |false=>exact PB.nil
 |true=>exact Tc _ _ _ hb (fun x hx=>aE.vU hp hx) (fun x hx=>aE.vU hf hx)
theorem Yd{isA:Bytes->Option Bool}{ext:aT->Bytes->Bytes->Option (aT×Bool)}{fa:aJ}{L:aJ->Nat->aT->Option (aT×Bool)}(hA:∀x:Bytes,x.length<=1048576->isA x=some (ju x))(hE:∀w x y,PB w->x.length<=1048576->y.length<=1048576->ext w x y=some (Hs w x y))(uw:∀i w,L [] i w=some (w,true))
 (tZ:∀x xs i w,L (x::xs) i w=((isA x).bind fun y=>(bif y then((mJ fa (i:Int)).bind fun z=>(bif !((x:Bytes)==z)then(some ([],false))else(L xs (i+1) w)))else((mJ fa (i:Int)).bind fun z=>((ext w x z).bind fun q=>(bif !(q.2)then(some ([],false))else(L xs (i+1) q.1))))))):
 ∀(l pre rest:aJ) (w:aT),fa=pre++rest->l.length=rest.length->(∀x∈l,x.length<=1048576)->(∀x∈rest,x.length<=1048576)->PB w->L l pre.length w=some (Pg l rest w):=by
 intro l
 induction l with
 |nil=>intro pre rest w _ _ _ _ _;rw[uw];simp[Pg]
 |cons x xs ih=>
  intro pre rest w h hl hx hr hw;cases rest with
  |nil=>simp at hl
  |cons y ys=>
   have t:=fun w' hw'=>ih (pre++[y]) ys w' (by simp[h]) (by simpa using hl) (fun z hz=>hx z (by simp[hz])) (fun z hz=>hr z (by simp[hz])) hw'
   simp only[aX,fW]at t;rw[tZ,hA x (hx x (by simp)),aA,zh h,aA,aA,hE w x y hw (hx x (by simp)) (hr y (by simp)),aA];simp only[Pg];cases ju x with
   |true=>
    simp only[aW];cases x==y with
    |true=>simp only[bQ,aa,aW];exact t w hw
    |false=>rfl
   |false=>
    simp only[aa];cases hq:(Hs w x y).2 with
    |true=>simp only[bQ,aa,aW];exact t _ (YJ hw (hx x (by simp)) (hr y (by simp)))
    |false=>rfl
theorem a2O(a b:aJ):((((a.map tx).length:Int):Int) != ((b.map tx).length:Int))= !decide (a.length=b.length):=by
 rw[aZ,aZ];by_cases h:a.length=b.length
 ·simp[h]
 ·rw[b9 h];simp;omega
theorem a8R(p f:aE)(b:aT)(hp:p.wt<=1048576)(hf:f.wt<=1048576)(hb:PB b):jR p f b=some (uy p f b):=by
 unfold jR uy;have hlen:=hb.1;rw[a8U p hp,aA,a2x f hf,aA,Yl b hb,aA,XV b (by omega),aA,a2O];cases yx p with
 |false=>rfl
 |true=>
  cases tj f with
  |false=>rfl
  |true=>
   cases pF b with
   |false=>rfl
   |true=>
    cases p.rel==f.rel with
    |false=>rfl
    |true=>
     by_cases h:p.args.length=f.args.length
     ·rw[bU h];have t:=Yd (isA:=fT) (ext:=vQ) (fa:=f.args) (L:=jo p f (fun(q:aT)=>(some (q,true)))) PM (fun w x y hw hx hy=>aDa w x y hw hx hy) (fun _ _=>rfl) (fun _ _ _ _=>rfl) p.args [] f.args b rfl h (fun x hx=>aE.vU hp hx) (fun x hx=>aE.vU hf hx) hb;exact t
     ·rw[b9 h];rfl
theorem a7l(p f:aE)(b:aT)(hp:p.wt<=1048576)(hf:f.wt<=1048576)(hb:PB b):jL p f b=some (uy p f b):=by
 unfold jL uy;have hlen:=hb.1;rw[a7n p hp,aA,a25 f hf,aA,YZ b hb,aA,X5 b (by omega),aA,a2O];cases yx p with
 |false=>rfl
 |true=>
  cases tj f with
  |false=>rfl
  |true=>
   cases pF b with
   |false=>rfl
   |true=>
    cases p.rel==f.rel with
    |false=>rfl
    |true=>
     by_cases h:p.args.length=f.args.length
     ·rw[bU h];have t:=Yd (isA:=fP) (ext:=vD) (fa:=f.args) (L:=jb p f (fun(q:aT)=>(some (q,true)))) PA (fun w x y hw hx hy=>aDE w x y hw hx hy) (fun _ _=>rfl) (fun _ _ _ _=>rfl) p.args [] f.args b rfl h (fun x hx=>aE.vU hp hx) (fun x hx=>aE.vU hf hx) hb;exact t
     ·rw[b9 h];rfl
def ltB(l r:Bytes):Bool:=match AK l,AK r with|some x,some y=>decide (x<y)|_,_=>false
def a1b(c:aQ)(b:aT):Bool:=O0 c&&(pF b&&((BR b c.left).2&&((BR b c.right).2&&(bif decide (c.kind=3)then(BR b c.left).1==(BR b c.right).1 else bif decide (c.kind=4)then !((BR b c.left).1==(BR b c.right).1)else ltB (BR b c.left).1 (BR b c.right).1))))
theorem zk(a b:Int):(a==b)=decide (a=b):=by rw[bp];simp
theorem aAr(c:aQ)(b:aT)(hc:c.wt<=1048576)(hb:PB b):tT c b=some (a1b c b):=by
 unfold tT a1b;rw[a3C c hc,aA,Yl b hb,aA,a8c b c.left (aQ.Cg hc),aA,a8c b c.right (aQ.AN hc),aA,zk,zk];cases O0 c with
 |false=>rfl
 |true=>
  cases pF b with
  |false=>rfl
  |true=>
   cases(BR b c.left).2 with
   |false=>rfl
   |true=>
    cases(BR b c.right).2 with
    |false=>rfl
    |true=>
     cases decide (c.kind=3)with
     |true=>rfl
     |false=>
      cases decide (c.kind=4)with
      |true=>rfl
      |false=>
       simp only[bQ,aa,fN];unfold ug ltB;rw[Tz,aA,aA,Tz,aA,aA,a6Z,aA];unfold pI DP;cases AK (BR b c.left).1 with
       |none=>rfl
       |some x=>
        cases AK (BR b c.right).1 with
        |none=>rfl
        |some y=>
         simp only[aW]
         congr 1
         unfold Ki;by_cases h:x<y
         ·have h1:(x:Int)<y:=by omega
          simp[h1,h]
         ·have h1:¬(x:Int)<y:=by omega
          by_cases h2:(x:Int)>y
          ·simp[h1,h,h2]
          ·simp[h1,h,h2]
theorem aA9(c:aQ)(b:aT)(hc:c.wt<=1048576)(hb:PB b):sY c b=some (a1b c b):=by
 unfold sY a1b;rw[aAI c hc,aA,YZ b hb,aA,a7u b c.left (aQ.Cg hc),aA,a7u b c.right (aQ.AN hc),aA,zk,zk];cases O0 c with
 |false=>rfl
 |true=>
  cases pF b with
  |false=>rfl
  |true=>
   cases(BR b c.left).2 with
   |false=>rfl
   |true=>
    cases(BR b c.right).2 with
    |false=>rfl
    |true=>
     cases decide (c.kind=3)with
     |true=>rfl
     |false=>
      cases decide (c.kind=4)with
      |true=>rfl
      |false=>
       simp only[bQ,aa,fN];unfold ltB;rw[TT,aA,TT,aA];unfold pI;cases AK (BR b c.left).1 with
       |none=>rfl
       |some x=>
        cases AK (BR b c.right).1 with
        |none=>rfl
        |some y=>
         simp only[aW]
         congr 1
         by_cases h:x<y
         ·simp[h]
         ·simp[h]
def uo(p:aE)(b:aT)(fs:aK):aK:=fs.filter fun f=>(uy p f b).2
def FS(fs:aK):Prop:=fs.length<=1048576/\∀f∈fs,f.wt<=1048576
theorem YN{γ:Type}{mf:aE->Option (aT×Bool)}{cp:aE->Option aE}{p:aE}{b:aT}{L:aK->Nat->aK->Option γ}{k:aK->Option γ}(hm:∀f:aE,f.wt<=1048576->mf f=some (uy p f b))(hc:∀f:aE,f.wt<=1048576->cp f=some f)(uw:∀i w,L [] i w=k w)
 (tZ:∀x xs i w,L (x::xs) i w=((mf x).bind fun y=>(bif y.2 then((cp x).bind fun z=>(bif room ((w.map aE.c).length+([[D.str z.rel,D.sl (z.args.map tx)]]).length) 40 then(L xs (i+1) (w++([z])))else none))else(L xs (i+1) w)))):
 ∀(l:aK) (i:Nat) (w:aK),(∀f∈l,f.wt<=1048576)->w.length+l.length<1099511627700->L l i w=k (w++uo p b l):=by
 intro l
 induction l with
 |nil=>intro i w _ _;rw[uw];simp[uo]
 |cons x xs ih=>
  intro i w hl hw;simp only[aM]at hw;have hx:=hl x (by simp);rw[tZ,hm x hx,aA,hc x hx,aA,mh (by omega) (by decide),aW];have e:uo p b (x::xs)=bif (uy p x b).2 then x::uo p b xs else uo p b xs:=by
   unfold uo;rw[List.filter_cons];cases(uy p x b).2<;>rfl
  rw[e];cases(uy p x b).2 with
  |true=>rw[aW,aW,ih _ _ (fun f hf=>hl f (by simp[hf])) (by simp;omega)];simp
  |false=>rw[aa,aa,ih _ _ (fun f hf=>hl f (by simp[hf])) (by omega)]
theorem a8P(p:aE)(b:aT)(fs:aK)(hp:p.wt<=1048576)(hb:PB b)(hf:FS fs):gW p b fs=some (uo p b fs):=by
 unfold gW;have h1:=hf.1;refine(YN (mf:=fun f=>jR p f b) (cp:=ez) (p:=p) (b:=b) (L:=gG p b fs _) (k:=fun q=>some q) (fun f h=>a8R p f b hp h hb) (fun f h=>Ot f (by have:=aE.dY h;omega)) (fun _ _=>rfl) (fun _ _ _ _=>rfl) fs 0 [] hf.2 (by simp;omega)).trans ?_;simp
theorem aA5(p:aE)(b:aT)(fs:aK)(hp:p.wt<=1048576)(hb:PB b)(hf:FS fs):ic p b fs=some (uo p b fs):=by
 unfold ic;have h1:=hf.1;refine(YN (mf:=fun f=>jL p f b) (cp:=eF) (p:=p) (b:=b) (L:=gD p b fs _) (k:=fun q=>some q) (fun f h=>a7l p f b hp h hb) (fun f h=>Oj f (by have:=aE.dY h;omega)) (fun _ _=>rfl) (fun _ _ _ _=>rfl) fs 0 [] hf.2 (by simp;omega)).trans ?_;simp
def Og(c:aQ)(b:aT)(fs:aK):Bool:=sU c&&(pF b&&(bif decide (c.kind=1)then decide (0<(uo c.pat b fs).length)else bif decide (c.kind=2)then decide ((uo c.pat b fs).length=0)else a1b c b))
theorem a2N(l:aK):decide ((((l.map aE.c).length:Int):Int)>0)=decide (0<l.length):=by rw[aZ];congr 1;rw[zR];omega
theorem len_eq(l:aK):((((l.map aE.c).length:Int):Int)==0)=decide (l.length=0):=by rw[aZ,zk];congr 1;rw[zR];omega
theorem aAq(c:aQ)(b:aT)(fs:aK)(hc:c.wt<=1048576)(hb:PB b)(hf:FS fs):tS c b fs=some (Og c b fs):=by
 unfold tS Og;rw[a2u c hc,aA,Yl b hb,aA,a8P c.pat b fs (aQ.fK hc) hb hf,aA,aA,aAr c b hc hb,aA,zk,zk,a2N,len_eq];cases sU c with
 |false=>rfl
 |true=>
  cases pF b with
  |false=>rfl
  |true=>cases decide (c.kind=1)<;>cases decide (c.kind=2)<;>rfl
theorem aA8(c:aQ)(b:aT)(fs:aK)(hc:c.wt<=1048576)(hb:PB b)(hf:FS fs):sX c b fs=some (Og c b fs):=by
 unfold sX Og;rw[a1z c hc,aA,YZ b hb,aA,aA5 c.pat b fs (aQ.fK hc) hb hf,aA,aA,aA9 c b hc hb,aA,zk,zk,a2N,len_eq];cases sU c with
 |false=>rfl
 |true=>
  cases pF b with
  |false=>rfl
  |true=>cases decide (c.kind=1)<;>cases decide (c.kind=2)<;>rfl
end Go.Cx
namespace Go.Cx
open Go.RowKit Go.Proofs Tryz
def Fix(h:Bytes->Bytes):Prop:=∀y,ju y=true->h y=y
def Cov(a b:aE):Prop:=yx a=true/\yx b=true/\a.rel=b.rel/\∃h,b.args=a.args.map h/\Fix h
theorem Ep{t v val:Bytes}(h:v≠t):∀(w:aT),lT t (CE v val w)=lT t w
 | []=>by
  have:(v==t)=false:=by simpa using h
  simp only[CE,lT,this,aa]
 |x::xs=>by
  have hv:(v==t)=false:=by simpa using h
  rw[CE];cases !(Op.bytesLess x.var v||x.var==v)with
  |true=>rw[aW,lT];simp only[hv,aa]
  |false=>rw[aa,lT,lT,Ep h xs]
theorem Od{v val:Bytes}:∀(w:aT),lT v w=none->lT v (CE v val w)=some val
 | [],_=>by simp[CE,lT]
 |x::xs,h=>by
  rw[lT]at h;rw[CE];cases hx:x.var==v with
  |true=>rw[hx]at h;cases h
  |false=>
   rw[hx,aa]at h;cases !(Op.bytesLess x.var v||false)with
   |true=>rw[aW,lT];simp
   |false=>rw[aa,lT,hx,aa];exact Od xs h
theorem SN{t o:Bytes}:∀ {w:aT},lT t w=some o->∃p∈w,p.var=t/\p.value=o
 |x::xs,h=>by
  rw[lT]at h;cases hx:x.var==t with
  |true=>rw[hx,aW]at h;cases h;exact⟨x,by simp,by simpa using hx,rfl⟩
  |false=>
   rw[hx,aa]at h;obtain⟨p,hp,h1⟩:=SN h;exact⟨p,by simp[hp],h1⟩
theorem zu(p:Option aS)(x:aS)(xs:aT):xD p (x::xs)=(lR x.var&&(ju x.value&&((match p with|some q=>Op.bytesLess q.var x.var|none=>true)&&xD (some x) xs))):=by
 cases p<;>rfl
theorem SB{v val:Bytes}(hv:lR v=true)(ha:ju val=true):∀(w:aT) (p:Option aS),xD p w=true->lT v w=none->(∀q,p=some q->Op.bytesLess q.var v=true)->xD p (CE v val w)=true
 | [],p,_,_,hp=>by
  simp only[CE,xD,hv,ha,fN,v8];cases p with
  |none=>rfl
  |some q=>exact hp q rfl
 |x::xs,p,hc,hf,hp=>by
  rw[zu]at hc;simp only[aY]at hc;obtain⟨c1,c2,c3,c4⟩:=hc;rw[lT]at hf;cases hx:x.var==v with
  |true=>rw[hx]at hf;cases hf
  |false=>
   rw[hx,aa]at hf;rw[CE,hx,vA];cases hl:Op.bytesLess x.var v with
   |true=>
    rw[bQ,aa,zu];simp only[aY];exact⟨c1,c2,c3,SB hv ha xs (some x) c4 hf (fun q hq=>by cases hq;exact hl)⟩
   |false=>
    have h2:Op.bytesLess v x.var=true:=by
     cases h3:Op.bytesLess v x.var with
     |true=>rfl
     |false=>
      have:=Kh hl h3;rw[this]at hx;simp at hx
    rw[cQ,aW,zu];simp only[aY];refine⟨hv,ha,?_,?_⟩
    ·cases p with
     |none=>rfl
     |some q=>exact hp q rfl
    ·rw[zu];simp only[aY];exact⟨c1,c2,h2,c4⟩
theorem a1D{v val:Bytes}{w:aT}(hv:lR v=true)(ha:ju val=true)(hb:pF w=true)(hf:lT v w=none)(hl:w.length≠6):pF (CE v val w)=true:=by
 have h6:=OF hb;unfold pF at hb⊢;rw[aY]at hb⊢;exact⟨SB hv ha w none hb.1 hf (fun q h=>by cases h),by rw[RN];simp;omega⟩
theorem CA:∀(l r:aJ) (w:aT),l.length=r.length->(∀p∈w,lR p.var=true)->(Pg l r w).2=true->∃h,(∀v o,lT v w=some o->h v=o)/\r=l.map h/\Fix h
 | [],[],w,_,hk,_=>by
  refine⟨fun y=>match lT y w with|some o=>o|none=>y,fun v o ho=>by simp only[ho],rfl,fun y hy=>?_⟩;cases hf:lT y w with
  |none=>simp only[hf]
  |some o=>
   obtain⟨p,hp,h1,_⟩:=SN hf;have:=hk p hp;rw[h1]at this;rw[BS this]at hy;cases hy
 |x::xs,y::ys,w,hl,hk,hm=>by
  simp only[Pg]at hm;cases hx:ju x with
  |true=>
   rw[hx,aW]at hm;cases hxy:x==y with
   |false=>rw[hxy]at hm;cases hm
   |true=>
    rw[hxy,aW]at hm;obtain⟨h,h1,h2,h3⟩:=CA xs ys w (by simpa using hl) hk hm;have:x=y:=by simpa using hxy
    exact⟨h,h1,by rw[bH,h3 x hx,<-this,<-h2],h3⟩
  |false=>
   rw[hx,aa]at hm;cases he:(Hs w x y).2 with
   |false=>rw[he]at hm;cases hm
   |true=>
    rw[he,aW]at hm;have key:lR x=true/\((lT x w=some y/\(Hs w x y).1=w)\/(lT x w=none/\(Hs w x y).1=CE x y w)):=by
     unfold Hs at he⊢;cases hc:pF w&&(lR x&&ju y)with
     |false=>rw[hc]at he;cases he
     |true=>
      rw[hc,aW]at he;simp only[aY]at hc;refine⟨hc.2.1,?_⟩;rw[aW];cases hf:lT x w with
      |some o=>
       rw[hf]at he;simp only at he⊢;cases ho:o==y with
       |false=>rw[ho]at he;cases he
       |true=>exact .inl ⟨by rw[show o=y from by simpa using ho],rfl⟩
      |none=>
       rw[hf]at he;simp only at he⊢;cases hd:decide (w.length=6)with
       |true=>rw[hd]at he;cases he
       |false=>exact .inr ⟨by first|trivial|rfl,by first|rfl|trivial⟩
    obtain⟨hv,a9P⟩:=key;rcases a9P with⟨hf,h1⟩|⟨hf,h1⟩
    ·rw[h1]at hm;obtain⟨h,k1,k2,k3⟩:=CA xs ys w (by simpa using hl) hk hm;exact⟨h,k1,by rw[bH,k1 x y hf,<-k2],k3⟩
    ·rw[h1]at hm;obtain⟨h,k1,k2,k3⟩:=CA xs ys (CE x y w) (by simpa using hl) (fun p hp=>by
      rcases Vi x y w hp with h|h
      ·rw[h];exact hv
      ·exact hk p h) hm
     refine⟨h,fun v o ho=>?_,by rw[bH,k1 x y (Od w hf),<-k2],k3⟩;refine k1 v o ?_;rw[Ep (fun e=>?_),ho];rw[e,ho]at hf;cases hf
 | [],_::_,_,hl,_,_=>by simp at hl
 |_::_,[],_,hl,_,_=>by simp at hl
theorem Nl(h:Bytes->Bytes)(a4b:Fix h):∀(l:aJ) (w:aT),(∀x∈l,qZ x=true)->(∀x∈l,ju (h x)=true)->pF w=true->w.length+l.length<=6->(∀v o,lT v w=some o->h v=o)->(Pg l (l.map h) w).2=true
 | [],_,_,_,_,_,_=>rfl
 |x::xs,w,ht,ha,hb,hl,hw=>by
  simp only[aM]at hl;rw[bH];simp only[Pg];have ht':∀y∈xs,qZ y=true:=fun y hy=>ht y (by simp[hy])
  have ha':∀y∈xs,ju (h y)=true:=fun y hy=>ha y (by simp[hy])
  cases hx:ju x with
  |true=>
   rw[aW,a4b x hx,cw,aW];exact Nl h a4b xs w ht' ha' hb (by omega) hw
  |false=>
   have hv:lR x=true:=by
    have:=ht x (by simp);unfold qZ at this;rw[hx,pX]at this;exact this
   have hax:=ha x (by simp);rw[aa];unfold Hs;rw[hb,hv,hax];simp only[fN,aW];cases hf:lT x w with
   |some o=>
    have:=hw x o hf;simp only[this,cw,aW];exact Nl h a4b xs w ht' ha' hb (by omega) hw
   |none=>
    have h6:w.length≠6:=by omega
    simp only[b9 h6,aa,aW];refine Nl h a4b xs (CE x (h x) w) ht' ha' (a1D hv hax hb hf h6) (by rw[RN];omega) (fun v o ho=>?_);by_cases e:x=v
    ·subst e;rw[Od w hf]at ho;cases ho;rfl
    ·rw[Ep e]at ho;exact hw v o ho
theorem R2{p f:aE}:(uy p f []).2=true↔yx p=true/\tj f=true/\p.rel=f.rel/\∃h,f.args=p.args.map h/\Fix h:=by
 unfold uy;constructor
 ·intro hm;cases hc:yx p&&(tj f&&(pF []&&(p.rel==f.rel&&decide (p.args.length=f.args.length))))with
  |false=>rw[hc]at hm;cases hm
  |true=>
   rw[hc,aW]at hm;simp only[aY,cj,bJ]at hc;obtain⟨c1,c2,_,c4,c5⟩:=hc;obtain⟨h,_,h2,h3⟩:=CA p.args f.args [] c5 (by simp) hm;exact⟨c1,c2,c4,h,h2,h3⟩
 ·rintro⟨c1,c2,c4,h,h2,h3⟩;have c5:p.args.length=f.args.length:=by rw[h2];simp
  rw[c1,c2,show pF []=true from rfl,c4,cw,bU c5];simp only[v8,aW];have c1':=c1;unfold yx at c1';simp only[aY,bJ]at c1';unfold tj at c2;simp only[aY]at c2;rw[h2];refine Nl h h3 p.args [] (fun x hx=>bB.1 c1'.1 x hx) (fun x hx=>?_) rfl (by simp;omega) (fun v o ho=>by simp[lT]at ho);exact bB.1 c2.1 _ (by rw[h2];exact cJ.2 ⟨x,hx,rfl⟩)
theorem a4S{p q f:aE}(hc:Cov p q)(hm:(uy q f []).2=true):(uy p f []).2=true:=by
 obtain⟨c1,c2,c3,h,h2,h3⟩:=hc;obtain⟨m1,m2,m3,k,k2,k3⟩:=R2.1 hm;refine R2.2 ⟨c1,m2,c3.trans m3,fun x=>k (h x),?_,fun y hy=>by show k (h y)=y;rw[h3 y hy,k3 y hy]⟩;rw[k2,h2,rE];rfl
theorem Yt{p:aE}(h:yx p=true):∀t∈p.args,qZ t=true:=by
 unfold yx at h;rw[aY]at h;exact fun t ht=>bB.1 h.1 t ht
end Go.Cx
namespace Go.Cx
open Go.RowKit Go.Proofs Tryz
theorem E0(l:aK)(h:l.length<=1048576)(hf:∀f∈l,f.args.length<=1048576):dU l=some l:=by
 unfold dU;refine(GA (c:=aE.c) (b:=40) (f:=ez) (g:=fun x=>x) (L:=nZ l _) (k:=fun q=>some q) (by decide) (fun _ _=>rfl) (fun _ _ _ _=>rfl) l 0 [] (fun f h=>Ot f (by have:=hf f h;omega)) (by simp;omega)).trans ?_;simp
theorem Dr(l:aK)(h:l.length<=1048576)(hf:∀f∈l,f.args.length<=1048576):cy l=some l:=by
 unfold cy;refine(GA (c:=aE.c) (b:=40) (f:=eF) (g:=fun x=>x) (L:=mO l _) (k:=fun q=>some q) (by decide) (fun _ _=>rfl) (fun _ _ _ _=>rfl) l 0 [] (fun f h=>Oj f (by have:=hf f h;omega)) (by simp;omega)).trans ?_;simp
def TK(n:Nat)(t:aI):Prop:=t.facts.length<=n/\(∀f∈t.facts,f.wt<=1048576)/\PB t.bind
theorem TK.le{n m:Nat}{t:aI}(h:TK n t)(hm:n<=m):TK m t:=⟨by have:=h.1;omega,h.2⟩
theorem a2v(t:aI)(h:TK 1048576 t):sF t=some t:=by
 unfold sF;rw[E0 t.facts h.1 (fun f hf=>by have:=aE.dY (h.2.1 f hf);omega),aA,XV t.bind (by have:=h.2.2.1;omega),aA]
def ext1(c:aQ)(t:aI)(f:aE):ah:=bif (uy c.pat f t.bind).2 then [⟨t.facts++[f],(uy c.pat f t.bind).1⟩]else []
def Nr(c:aQ)(fs:aK)(t:aI):ah:=bif decide (c.kind=1)then fs.flatMap (ext1 c t)else bif Og c t.bind fs then [t]else []
def yE(fs:aK)(l:ah)(c:aQ):ah:=l.flatMap (Nr c fs)
def yV(cs:aq)(fs:aK):ah:=cs.foldl (yE fs) [⟨[],[]⟩]
theorem a1P(c:aQ)(t:aI)(f:aE):(ext1 c t f).length<=1:=by unfold ext1;cases(uy c.pat f t.bind).2<;>simp
theorem QZ(c:aQ)(t:aI)(fs:aK):(fs.flatMap (ext1 c t)).length<=fs.length:=by
 induction fs with
 |nil=>simp
 |cons f fs ih=>rw[dN,aX];have:=a1P c t f;simp only[aM];omega
theorem R8(c:aQ)(fs:aK)(t:aI):(Nr c fs t).length<=fs.length+1:=by
 unfold Nr;cases decide (c.kind=1)with
 |true=>have:=QZ c t fs;rw[aW];omega
 |false=>cases Og c t.bind fs<;>simp
theorem R9(fs:aK)(l:ah)(c:aQ):(yE fs l c).length<=l.length*(fs.length+1):=by
 unfold yE
 induction l with
 |nil=>simp
 |cons t l ih=>rw[dN,aX,aM,MO];have:=R8 c fs t;omega
theorem a5E{c:aQ}{fs:aK}{t:aI}{n:Nat}(h:TK n t)(hc:c.wt<=1048576)(hf:FS fs):∀u∈Nr c fs t,TK (n+1) u:=by
 intro u hu;unfold Nr at hu;cases hk:decide (c.kind=1)with
 |false=>
  rw[hk,aa]at hu;cases hh:Og c t.bind fs with
  |false=>rw[hh]at hu;cases hu
  |true=>
   rw[hh,aW,eD]at hu;subst hu;exact h.le (by omega)
 |true=>
  rw[hk,aW]at hu;obtain⟨f,hf1,hu⟩:=cE.1 hu;unfold ext1 at hu;cases hm:(uy c.pat f t.bind).2 with
  |false=>rw[hm]at hu;cases hu
  |true=>
   rw[hm,aW,eD]at hu;subst hu;refine⟨by have:=h.1;simp;omega,?_,a57 h.2.2 (aQ.fK hc) (hf.2 f hf1)⟩;intro g hg;rcases au.1 hg with hg|hg
   ·exact h.2.1 g hg
   ·rw[eD]at hg;rw[hg];exact hf.2 f hf1
theorem Tk{c:aQ}{fs:aK}{l:ah}{n:Nat}(h:∀t∈l,TK n t)(hc:c.wt<=1048576)(hf:FS fs):∀u∈yE fs l c,TK (n+1) u:=by
 intro u hu;obtain⟨t,ht,hu⟩:=cE.1 hu;exact a5E (h t ht) hc hf u hu
theorem YK{γ:Type}{mf:aE->Option (aT×Bool)}{cps:Option aK}{cp:aE->Option aE}{c:aQ}{t:aI}{L:aK->Nat->ah->Option γ}{k:ah->Option γ}(hm:∀f:aE,f.wt<=1048576->mf f=some (uy c.pat f t.bind))(hcs:cps=some t.facts)(hc:∀f:aE,f.wt<=1048576->cp f=some f)(ht:t.facts.length<=1048576)(uw:∀i w,L [] i w=k w)
 (tZ:∀x xs i w,L (x::xs) i w=((mf x).bind fun y=>(bif y.2 then(cps.bind fun q=>((cp x).bind fun z=>(bif room ((q.map aE.c).length+([[D.str z.rel,D.sl (z.args.map tx)]]).length) 40 then(bif room ((w.map aI.c).length+([[D.sl ((q.map aE.c)++([[D.str z.rel,D.sl (z.args.map tx)]])),D.sl (y.1.map aS.c)]]).length) 48 then(L xs (i+1) (w++([(⟨q++([z]),y.1⟩:aI)])))else none)else none)))else(L xs (i+1) w)))):
 ∀(l:aK) (i:Nat) (w:ah),(∀f∈l,f.wt<=1048576)->w.length+l.length<1099511627770->L l i w=k (w++l.flatMap (ext1 c t)):=by
 intro l
 induction l with
 |nil=>intro i w _ _;rw[uw];simp
 |cons x xs ih=>
  intro i w hl hw;simp only[aM]at hw;have hx:=hl x (by simp);rw[tZ,hm x hx,aA,hcs,aA,hc x hx,aA,mh (by omega) (by decide),aW,mh (by omega) (by decide),aW,dN];rw[show ext1 c t x=bif (uy c.pat x t.bind).2 then [⟨t.facts++[x],(uy c.pat x t.bind).1⟩]else []from rfl];cases(uy c.pat x t.bind).2 with
  |true=>rw[aW,aW,ih _ _ (fun f hf=>hl f (by simp[hf])) (by simp;omega)];simp
  |false=>rw[aa,aa,ih _ _ (fun f hf=>hl f (by simp[hf])) (by omega)];simp
theorem Yc(c:aQ):((c.kind:Int) != 1)= !decide (c.kind=1):=by
 show(!((c.kind:Int)==1))=_;rw[zk]
theorem a8T(l0:ah)(c:aQ)(fs:aK)(k:ah->Option ah)(hc:c.wt<=1048576)(hf:FS fs):∀(l:ah) (i:Nat) (w:ah),(∀t∈l,TK 1048576 t)->w.length+l.length*(fs.length+1)<1099511627700->hG l0 c fs k l i w=k (w++yE fs l c):=by
 intro l;have h1:=hf.1
 induction l with
 |nil=>intro i w _ _;rw[hG];simp[yE]
 |cons t l ih=>
  intro i w hl hw;rw[aM,MO]at hw;have ht:=hl t (by simp);have e:yE fs (t::l) c=Nr c fs t++yE fs l c:=by simp[yE]
  have hn:=R8 c fs t;have he:=QZ c t fs;rw[hG,Yc,aAq c t.bind fs hc ht.2.2 hf,aA,a2v t ht,aA,mh (by omega) (by decide),aW,xA (by omega),aW,e];rw[YK (mf:=fun f=>jR c.pat f t.bind) (cps:=dU t.facts) (cp:=ez) (c:=c) (t:=t) (L:=ni l0 c fs i t _) (k:=_) (fun f h=>a8R c.pat f t.bind (aQ.fK hc) h ht.2.2) (E0 t.facts ht.1 (fun f hf=>by have:=aE.dY (ht.2.1 f hf);omega)) (fun f h=>Ot f (by have:=aE.dY h;omega)) ht.1 (fun _ _=>rfl) (fun _ _ _ _=>rfl) fs 0 w hf.2 (by omega)];unfold Nr;cases decide (c.kind=1)with
  |true=>simp only[bQ,aa,aW];rw[ih _ _ (fun u hu=>hl u (by simp[hu])) (by rw[aX];omega)];simp
  |false=>
   simp only[cQ,aW,aa];cases Og c t.bind fs with
   |true=>simp only[aW];rw[ih _ _ (fun u hu=>hl u (by simp[hu])) (by rw[aX];simp;omega)];simp
   |false=>simp only[aa];rw[ih _ _ (fun u hu=>hl u (by simp[hu])) (by omega)];simp
theorem a32(l:ah)(c:aQ)(fs:aK)(hc:c.wt<=1048576)(hf:FS fs)(hl:∀t∈l,TK 1048576 t)(hn:l.length*(fs.length+1)<1099511627700):sG l c fs=some (yE fs l c):=by
 unfold sG;rw[a8T l c fs _ hc hf l 0 [] hl (by simpa using hn)];simp
theorem XL:∀t∈[(⟨[],[]⟩:aI)],TK 0 t:=by
 intro t ht;rw[eD]at ht;subst ht;exact⟨by simp,by simp,PB.nil⟩
theorem a2f{n:Nat}(h:n<=4):[(⟨[],[]⟩:aI)].length*25^n<=390625:=by
 have:=vz (n:=25) (by decide) h;simp only[fW,o5];exact this
theorem a8b(c0:aq)(fs:aK)(k:ah->Option ah)(hf:FS fs)(h24:fs.length<=24):∀(cs:aq) (i:Nat) (w:ah) (n:Nat),(∀c∈cs,c.wt<=1048576)->(∀t∈w,TK n t)->n+cs.length<=1048576->w.length*25^cs.length<=390625->kZ c0 fs k cs i w=k (cs.foldl (yE fs) w):=by
 intro cs
 induction cs with
 |nil=>intro i w n _ _ _ _;rfl
 |cons c cs ih=>
  intro i w n hc hw hn hl;simp only[aM]at hn;rw[aM,yZ,E9 (25^cs.length) 25,<-KG]at hl;have hp:1<=25^cs.length:=Nat.one_le_pow _ _ (by decide);have Es:w.length*25<=390625:=cT (DH _ hp) hl;have h25:w.length*(fs.length+1)<=w.length*25:=eP _ (by omega);rw[kZ,a32 w c fs (hc c (by simp)) hf (fun t ht=>(hw t ht).le (by omega)) (by omega),aA];refine ih _ _ (n+1) (fun x hx=>hc x (by simp[hx])) (Tk hw (hc c (by simp)) hf) (by omega) ?_;exact cT (dX _ (cT (R9 fs w c) h25)) hl
theorem aB2(cs:aq)(fs:aK)(hc:∀c∈cs,c.wt<=1048576)(h4:cs.length<=4)(hf:FS fs)(h24:fs.length<=24):ul cs fs=some (yV cs fs):=by
 unfold ul;exact a8b cs fs _ hf h24 cs 0 _ 0 hc XL (by omega) (a2f h4)
theorem a4u(c0:aq)(fs:aK)(w0:ah)(i1:Nat)(c:aQ)(k:ah->Option ah)(hc:c.wt<=1048576)(hf:FS fs):∀(l:ah) (i:Nat) (w:ah),(∀t∈l,TK 1048576 t)->w.length+l.length*(fs.length+1)<1099511627700->fR c0 fs w0 i1 c k l i w=k (w++yE fs l c):=by
 intro l;have h1:=hf.1
 induction l with
 |nil=>intro i w _ _;rw[fR];simp[yE]
 |cons t l ih=>
  intro i w hl hw;rw[aM,MO]at hw;have ht:=hl t (by simp);have e:yE fs (t::l) c=Nr c fs t++yE fs l c:=by simp[yE]
  have hn:=R8 c fs t;have he:=QZ c t fs;rw[fR,Yc,aA8 c t.bind fs hc ht.2.2 hf,aA,mh (by omega) (by decide),aW,xA (by omega),aW,e];rw[YK (mf:=fun f=>jL c.pat f t.bind) (cps:=cy t.facts) (cp:=eF) (c:=c) (t:=t) (L:=kO c0 fs i w0 t i1 c _) (k:=_) (fun f h=>a7l c.pat f t.bind (aQ.fK hc) h ht.2.2) (Dr t.facts ht.1 (fun f hf=>by have:=aE.dY (ht.2.1 f hf);omega)) (fun f h=>Oj f (by have:=aE.dY h;omega)) ht.1 (fun _ _=>rfl) (fun _ _ _ _=>rfl) fs 0 w hf.2 (by omega)];unfold Nr;cases decide (c.kind=1)with
  |true=>simp only[bQ,aa,aW];rw[ih _ _ (fun u hu=>hl u (by simp[hu])) (by rw[aX];omega)];simp
  |false=>
   simp only[cQ,aW,aa];cases Og c t.bind fs with
   |true=>simp only[aW];rw[ih _ _ (fun u hu=>hl u (by simp[hu])) (by rw[aX];simp;omega)];simp
   |false=>simp only[aa];rw[ih _ _ (fun u hu=>hl u (by simp[hu])) (by omega)];simp
theorem a7t(c0:aq)(fs:aK)(k:ah->Option ah)(hf:FS fs)(h24:fs.length<=24):∀(cs:aq) (i:Nat) (w:ah) (n:Nat),(∀c∈cs,c.wt<=1048576)->(∀t∈w,TK n t)->n+cs.length<=1048576->w.length*25^cs.length<=390625->kN c0 fs k cs i w=k (cs.foldl (yE fs) w):=by
 intro cs
 induction cs with
 |nil=>intro i w n _ _ _ _;rfl
 |cons c cs ih=>
  intro i w n hc hw hn hl;simp only[aM]at hn;rw[aM,yZ,E9 (25^cs.length) 25,<-KG]at hl;have hp:1<=25^cs.length:=Nat.one_le_pow _ _ (by decide);have Es:w.length*25<=390625:=cT (DH _ hp) hl;have h25:w.length*(fs.length+1)<=w.length*25:=eP _ (by omega);rw[kN,xA (by omega),aW,a4u c0 fs w i c _ (hc c (by simp)) hf w 0 [] (fun t ht=>(hw t ht).le (by omega)) (by simp only[bK];omega),cI];refine ih _ _ (n+1) (fun x hx=>hc x (by simp[hx])) (Tk hw (hc c (by simp)) hf) (by omega) ?_;exact cT (dX _ (cT (R9 fs w c) h25)) hl
theorem aAJ(cs:aq)(fs:aK)(hc:∀c∈cs,c.wt<=1048576)(h4:cs.length<=4)(hf:FS fs)(h24:fs.length<=24):uS cs fs=some (yV cs fs):=by
 unfold uS;exact a7t cs fs _ hf h24 cs 0 _ 0 hc XL (by omega) (a2f h4)
theorem a07{r:aO}(h:oD r=true):r.conds.length<=4:=by
 unfold oD at h;simp only[aY,bJ]at h;omega
theorem QU{r:aO}:∀ {l:aq} {i:Nat},xu r l i=true->∀c∈l,sU c=true
 | [],_,_,c,hc=>by cases hc
 |x::xs,i,h,c,hc=>by
  simp only[xu,aY]at h;rcases bM.1 hc with rfl|hc
  ·exact h.1.1.1
  ·exact QU h.2 c hc
theorem PL{r:aO}(h:oD r=true):∀c∈r.conds,sU c=true:=by
 unfold oD at h;simp only[aY]at h;exact QU h.2.1
theorem vC{l:aK}(h:pY l=true):l.length<=24:=by
 unfold pY at h;simp only[aY,bJ]at h;exact h.2
theorem a3W{cs:aq}{fs:aK}(h4:cs.length<=4)(h24:fs.length<=24):(yV cs fs).length<=390625:=by
 have key:∀(cs:aq) (w:ah),w.length*25^cs.length<=390625->(cs.foldl (yE fs) w).length<=390625:=by
  intro cs
  induction cs with
  |nil=>intro w h;simpa using h
  |cons c cs ih=>
   intro w h;rw[aM,yZ,E9 (25^cs.length) 25,<-KG]at h;refine ih _ ?_;have h25:w.length*(fs.length+1)<=w.length*25:=eP _ (by omega);exact cT (dX _ (cT (R9 fs w c) h25)) h
 exact key cs _ (a2f h4)
theorem Ug{all:ar}:∀ {l:ar} {i:Nat},Rk all l i=true->∀r∈l,oD r=true
 | [],_,_,r,hr=>by cases hr
 |x::xs,i,h,r,hr=>by
  simp only[Rk,aY]at h;rcases bM.1 hr with rfl|hr
  ·exact h.1.1
  ·exact Ug h.2 r hr
theorem uI{l:ar}(h:zT l=true):∀r∈l,oD r=true:=by
 unfold zT at h;simp only[aY]at h;exact Ug h.1
end Go.Cx
namespace Go.Cx
open Go.RowKit Go.Proofs Tryz
theorem Sb:∀(a b:aJ),a.Nodup->(∀x∈a,x∈b)->a.length<=b.length
 | [],b,_,_=>GJ _
 |x::xs,b,hn,hs=>by
  rw[fC]at hn;have h1:=Sb xs (b.erase x) hn.2 fun y hy=>(List.mem_erase_of_ne (fun e=>hn.1 (by rw[<-e];exact hy))).2 (hs y (by simp[hy]))
  have h2:=rY (hs x (by simp));have h3:0<b.length:=E8 (hs x (by simp));simp only[aM];omega
theorem a08{r:aO}(h:oD r=true):(fL (FL r.conds)).length<=6:=by
 unfold oD at h;simp only[aY,bJ]at h;omega
theorem ZK{c:aQ}(hc:sU c=true)(hk:c.kind=1\/c.kind=2):yx c.pat=true/\c.left=[]/\c.right=[]:=by
 unfold sU at hc;have:(decide (c.kind=1)||decide (c.kind=2))=true:=by simpa using hk
 rw[this,aW]at hc;simp only[aY,cj]at hc;exact⟨hc.1,hc.2.1,hc.2.2⟩
theorem WZ{c:aQ}(hc:sU c=true)(h1:c.kind≠1)(h2:c.kind≠2):(decide (c.kind=3)||decide (c.kind=4)||decide (c.kind=5))=true/\IM c.pat=true/\qZ c.left=true/\qZ c.right=true:=by
 unfold sU at hc;rw[b9 h1,b9 h2,vA,aa]at hc;cases h:(decide (c.kind=3)||decide (c.kind=4)||decide (c.kind=5))with
 |false=>rw[h]at hc;cases hc
 |true=>
  rw[h,aW]at hc;simp only[aY]at hc;exact⟨rfl,hc.1,hc.2.1,hc.2.2⟩
theorem Uk{b:aT}(h:pF b=true):xD none b=true:=by
 unfold pF at h;rw[aY]at h;exact h.1
theorem SA:∀ {b:aT} {p:Option aS},xD p b=true->∀x∈b,lR x.var=true/\ju x.value=true
 |y::ys,p,h,x,hx=>by
  rw[zu]at h;simp only[aY]at h;rcases bM.1 hx with rfl|hx
  ·exact⟨h.1,h.2.1⟩
  ·exact SA h.2.2.2 x hx
structure WB(U:List Bytes)(b:List aS):Prop where
 ok:pF b=true
 sub:∀p∈b,p.var∈U
theorem QT{r:aO}:∀ {pre rest:aq} {c:aQ} {i:Nat},xu r (pre++c::rest) i=true->sU c=true/\(i+pre.length=0->c.kind=1)/\∀v∈rF c,Pc r (i+pre.length) c v=true
 | [],rest,c,i,h=>by
  rw[cI]at h;unfold xu at h;rw[S4]at h;simp only[aY,ot,rD,oK,bJ]at h;refine⟨h.1.1.1,fun e=>?_,fun v hv=>bB.1 h.1.2 v hv⟩;rcases h.1.1.2 with q|q
  ·exact absurd (by simpa using e) q
  ·exact q
 |x::pre,rest,c,i,h=>by
  rw[dR]at h;unfold xu at h;rw[aY]at h;have:=QT h.2;rw[aM,show i+(pre.length+1)=i+1+pre.length by omega];exact this
theorem Tt{r:aO}(h:oD r=true):xu r r.conds 0=true:=by
 unfold oD at h;simp only[aY]at h;exact h.2.1
end Go.Cx
