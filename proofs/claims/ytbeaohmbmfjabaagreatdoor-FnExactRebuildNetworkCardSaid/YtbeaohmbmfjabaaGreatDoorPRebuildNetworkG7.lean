/- What functions of the program compute, and the walks that show it. No condition. -/
import Derived.Test.YtbeaohmbmfjabaaGreatDoorPRebuildNetworkG6
import Derived.Test.YtbeaohmbmfjabaaGreatDoorPRebuildNetworkG4
import Derived.Sort.Walk0
import Derived.Lib.ItoaNum
import Derived.Lib.ItoaLen
import Derived.Lib.Atoi
set_option linter.unusedVariables false
set_option linter.unusedSimpArgs false
namespace Go.Cx
open Go.RowKit Go.Proofs Tryz
set_option maxRecDepth 100000
variable{Γ:w5}{N:Nat->St->Prop}
def kq(aB:aT)(aW:Bytes)(cY:Bytes)(k1:Bool->aT->Option (aT×Bool)):aT->Nat->Bool->aT->Option (aT×Bool)
 | [],i1,AZ,bC=>(k1 AZ bC)
 |bD::bZ,i1,AZ,bC=>(bif !(AZ)then(bif !(Op.bytesLess bD.var aW||(bD.var:Bytes)==aW)then(bif room ((bC.map aS.c).length+([[D.str aW,D.str cY]]).length) 32 then(bif room (((bC.map aS.c)++([[D.str aW,D.str cY]])).length+([[D.str bD.var,D.str bD.value]]).length) 32 then(kq aB aW cY k1 bZ (i1+1) true ((bC++([(⟨aW,cY⟩:aS)]))++([bD])))else none)else none)else(bif room ((bC.map aS.c).length+([[D.str bD.var,D.str bD.value]]).length) 32 then(kq aB aW cY k1 bZ (i1+1) AZ (bC++([bD])))else none))else(bif room ((bC.map aS.c).length+([[D.str bD.var,D.str bD.value]]).length) 32 then(kq aB aW cY k1 bZ (i1+1) AZ (bC++([bD])))else none))
def vH(aB:aT)(aW:Bytes)(cY:Bytes):Option (aT×Bool):=((kw aB).bind fun y1=>(bif !(y1)then(some ([],false))else((lY aW).bind fun y4=>(bif !(y4)then(some ([],false))else((fQ cY).bind fun y7=>(bif !(y7)then(some ([],false))else((qM aB aW).bind fun DK=>(bif DK.2 then(bif !((DK.1:Bytes)==cY)then(some ([],false))else((jP aB).bind fun WH=>(some (WH,true))))else(bif decide ((((aB.map aS.c).length:Int):Int)>=6)then(some ([],false))else(kq aB aW cY (fun(WI:Bool) (bQ:aT)=>(bif !(WI)then(bif room ((bQ.map aS.c).length+([[D.str aW,D.str cY]]).length) 32 then(some (bQ++([(⟨aW,cY⟩:aS)]),true))else none)else(some (bQ,true)))) aB 0 false ([]:aT)))))))))))
def x6(aB:aT)(aW:Bytes)(cY:Bytes)(AZ:Bool)(W1:List aR)(cT:Int):St:=⟨[(1,D.str aW),(2,D.str cY),(10,D.acc 0),(11,D.bool AZ),(42,D.sl (aB.map aS.c)),(43,D.int .i64 ((aB.map aS.c).length:Int)),(44,D.int .i64 cT)],[Ob.row .uq 152 2 W1]⟩
theorem Mf(hΓ:Γ.nt=76){aB:aT}{aW:Bytes}{cY:Bytes}{r:aT×Bool}{k1:Bool->aT->Option (aT×Bool)}(cX:∀(WI:Bool) (bQ:aT),k1 WI bQ=some r->Ax Γ N f127 (.q [[some (152,2)],[none]] (D.gZ [D.fr 152 2 (r.1.map aS.c),D.bool r.2])) [1,1,1,1,1,1,1] ⟨[(1,D.str aW),(2,D.str cY),(10,D.acc 0),(11,D.bool WI)],[Ob.row .uq 152 2 (bQ.map aS.c)]⟩)(hm1:aB.length<=maxLen):∀(rest:aT) (i1:Nat) (AZ:Bool) (bC:aT),aB.drop i1=rest->kq aB aW cY k1 rest i1 AZ bC=some r->Ar Γ N f127 (.q [[some (152,2)],[none]] (D.gZ [D.fr 152 2 (r.1.map aS.c),D.bool r.2])) [1,1,1,1,1,1,0,1,0] (rest.length+1) (x6 aB aW cY AZ (bC.map aS.c) (i1:Int)):=by
 intro rest
 induction rest with
 |nil=>
  intro i1 AZ bC aj h;rw[kq]at h;refine aO fun N1 bz bg=>?_
  exact((aU.ge aS.c aj).a [.hl 0 [1,2,10,11] [0]]).ex hΓ bz (cX AZ bC h)
 |cons bD bZ ih1=>
  intro i1 AZ bC aj h;rw[kq]at h;refine aO fun N1 bz bg=>?_
  have jb:=((aU.lt aS.c aj).l (ax aS.c 2 (dc aj) rfl))
  obtain⟨h58,h⟩|⟨h58,h⟩:=aM h
  ·have ia:=(jb.r 5 h58)
   obtain⟨h59,h⟩|⟨h59,h⟩:=aM h
   ·obtain⟨h60,h⟩:=bV h;obtain⟨h61,h⟩:=bV h;exact((((ia.b h59).w (cB h60)).w (cB h61)).a [.cn [1,2,10,11,42,43,44] [5]]).cs hΓ bg (x6 aB aW cY true (((bC.map aS.c)++([[D.str aW,D.str cY]]))++([[D.str bD.var,D.str bD.value]])) (IntKind.i64.wrap ((i1:Int)+1))) (by first| (simp only[iS aj hm1,mA]<;>rfl)| (simp only[iS aj hm1,mA,aE.c,aS.c,aQ.c,Action.c,aN.c,aI.c,cu.c,aP.c,Node.c,aF.c,cw.c]<;>rfl)) (ih1 (i1+1) true ((bC++([(⟨aW,cY⟩:aS)]))++([bD])) (dn aj) h)
   ·obtain⟨h62,h⟩:=bV h;exact(((ia.b h59).w (cB h62)).a [.cn [1,2,10,11,42,43,44] [3]]).cs hΓ bg (x6 aB aW cY AZ ((bC.map aS.c)++([[D.str bD.var,D.str bD.value]])) (IntKind.i64.wrap ((i1:Int)+1))) (by first| (simp only[iS aj hm1,mA]<;>rfl)| (simp only[iS aj hm1,mA,aE.c,aS.c,aQ.c,Action.c,aN.c,aI.c,cu.c,aP.c,Node.c,aF.c,cw.c]<;>rfl)) (ih1 (i1+1) AZ (bC++([bD])) (dn aj) h)
  ·obtain⟨h63,h⟩:=bV h;exact((((jb.r 5 h58).F 1).w (cB h63)).a [.cn [1,2,10,11,42,43,44] [3]]).cs hΓ bg (x6 aB aW cY AZ ((bC.map aS.c)++([[D.str bD.var,D.str bD.value]])) (IntKind.i64.wrap ((i1:Int)+1))) (by first| (simp only[iS aj hm1,mA]<;>rfl)| (simp only[iS aj hm1,mA,aE.c,aS.c,aQ.c,Action.c,aN.c,aI.c,cu.c,aP.c,Node.c,aF.c,cw.c]<;>rfl)) (ih1 (i1+1) AZ (bC++([bD])) (dn aj) h)
theorem Kn{aB:aT}{aW:Bytes}{cY:Bytes}{r:aT×Bool}(h:vH aB aW cY=some r):Good prog 127 [D.sl (aB.map aS.c),D.str aW,D.str cY] (D.gZ [D.fr 152 2 (r.1.map aS.c),D.bool r.2]):=by
 refine gd func127 [[some (152,2)],[none]] 76 fun hr Γ hΓ=>?_
 rw[vH]at h;obtain⟨y1,h2,h⟩:=aD h;obtain⟨h3,h⟩|⟨h3,h⟩:=aM h
 ·cases h;exact(((aU.g (mw h2)).r 4 h3).T 5).ret hΓ
 ·obtain⟨y4,h5,h⟩:=aD h;have tq:=((((aU.g (mw h2)).r 2 h3).g (oI h5)).r 2 h3)
  obtain⟨h6,h⟩|⟨h6,h⟩:=aM h
  ·cases h;exact((tq.r 4 h6).T 1).ret hΓ
  ·obtain⟨y7,h8,h⟩:=aD h;have wm:=(((tq.r 2 h6).g (eY h8)).r 2 h6)
   obtain⟨h9,h⟩|⟨h9,h⟩:=aM h
   ·cases h;exact(wm.b h9).ret hΓ
   ·obtain⟨DK,h11,h⟩:=aD h;have AR:=((wm.b h9).g (xN h11))
    obtain⟨h12,h⟩|⟨h12,h⟩:=aM h
    ·obtain⟨h13,h⟩|⟨h13,h⟩:=aM h
     ·cases h;exact((AR.b h12).b h13).ret hΓ
     ·obtain⟨WH,h15,h⟩:=aD h;cases h;exact(((AR.b h12).b h13).g (ve h15)).ret hΓ
    ·obtain⟨h16,h⟩|⟨h16,h⟩:=aM h
     ·cases h;exact((AR.b h12).b h16).ret hΓ
     ·refine(((AR.b h12).b h16).a [.Pt 10,.cn [1,2,10,11,42,43,44] [0]]).lp hΓ (Mf hΓ (fun WI bQ h=>?_) (by have:=(dY.sl (hr _ (aC (i:=0) rfl))).1;simpa using this) aB 0 false ([]:aT) rfl h);obtain⟨h64,h⟩|⟨h64,h⟩:=aM h
      ·obtain⟨h65,h⟩:=bV h;cases h;exact((aU.b h64).w (cB h65)).rts hΓ (D.gZ [D.fr 152 2 ((bQ.map aS.c)++([[D.str aW,D.str cY]])),D.bool true]) (by first|rfl| (simp only[mA]<;>rfl)| (simp only[cW,mA]<;>rfl))
      ·cases h;exact(aU.b h64).ret hΓ
def jc(aB:aE)(aW:aE)(k1:aT->Option (aT×Bool)):aJ->Nat->aT->Option (aT×Bool)
 | [],i1,bu=>(k1 bu)
 |bD::bZ,i1,bu=>((fQ bD).bind fun y80=>(bif y80 then((mK aW.args (i1:Int)).bind fun x83=>(bif !((bD:Bytes)==x83)then(some ([],false))else(jc aB aW k1 bZ (i1+1) bu)))else((mK aW.args (i1:Int)).bind fun x86=>((vH bu bD x86).bind fun y88=>(bif !(y88.2)then(some ([],false))else(jc aB aW k1 bZ (i1+1) y88.1))))))
def jN(aB:aE)(aW:aE)(cY:aT):Option (aT×Bool):=((jL aB).bind fun y1=>(bif !(y1)then(some ([],false))else((pS aW).bind fun y4=>(bif !(y4)then(some ([],false))else((kw cY).bind fun y7=>(bif !(y7)then(some ([],false))else(bif !((aB.rel:Bytes)==aW.rel)then(some ([],false))else(bif (((aB.args.map tx).length:Int):Int) != ((aW.args.map tx).length:Int)then(some ([],false))else((jP cY).bind fun ZB=>(jc aB aW (fun(bQ:aT)=>(some (bQ,true))) aB.args 0 ZB))))))))))
def Ip(aB:aE)(aW:aE)(W0:List aR)(cT:Int):St:=⟨[(4,D.ptr 0 0),(8,D.acc 1),(45,D.sl (aB.args.map tx)),(46,D.int .i64 ((aB.args.map tx).length:Int)),(47,D.int .i64 cT)],[Ob.box (aE.c aW),Ob.row .uq 152 2 W0]⟩
theorem Gb(hΓ:Γ.nt=77){aB:aE}{aW:aE}{r:aT×Bool}{k1:aT->Option (aT×Bool)}(cX:∀(bQ:aT),k1 bQ=some r->Ax Γ N f239 (.q [[some (152,2)],[none]] (D.gZ [D.fr 152 2 (r.1.map aS.c),D.bool r.2])) [1,1,1,1] ⟨[(8,D.acc 0)],[Ob.row .uq 152 2 (bQ.map aS.c)]⟩)(hm1:aB.args.length<=maxLen):∀(rest:aJ) (i1:Nat) (bu:aT),aB.args.drop i1=rest->jc aB aW k1 rest i1 bu=some r->Ar Γ N f239 (.q [[some (152,2)],[none]] (D.gZ [D.fr 152 2 (r.1.map aS.c),D.bool r.2])) [1,1,1,0,1,0] (rest.length+1) (Ip aB aW (bu.map aS.c) (i1:Int)):=by
 intro rest
 induction rest with
 |nil=>
  intro i1 bu aj h;rw[jc]at h;refine aO fun N1 bz bg=>?_
  exact((aU.ge tx aj).a [.hl 0 [8] [1]]).ex hΓ bz (cX bu h)
 |cons bD bZ ih1=>
  intro i1 bu aj h;rw[jc]at h;refine aO fun N1 bz bg=>?_
  obtain⟨y80,h81,h⟩:=aD h;have ia:=(((aU.lt tx aj).l (ax tx 1 (dc aj) rfl)).g (eY h81))
  obtain⟨h82,h⟩|⟨h82,h⟩:=aM h
  ·obtain⟨x83,h84,h⟩:=aD h;have tq:=((ia.b h82).l (dl tx 1 h84 rfl))
   obtain⟨h85,h⟩|⟨h85,h⟩:=aM h
   ·cases h;exact(tq.b h85).ret hΓ
   ·exact((tq.b h85).a [.cn [4,8,45,46,47] [0,1]]).ct hΓ bg (iS aj hm1) (ih1 (i1+1) bu (dn aj) h)
  ·obtain⟨x86,h87,h⟩:=aD h;obtain⟨y88,h89,h⟩:=aD h;have wm:=(((ia.b h82).l (dl tx 1 h87 rfl)).g (Kn h89))
   obtain⟨h90,h⟩|⟨h90,h⟩:=aM h
   ·cases h;exact(wm.b h90).ret hΓ
   ·exact((wm.b h90).a [.cn [4,8,45,46,47] [0,2]]).ct hΓ bg (iS aj hm1) (ih1 (i1+1) y88.1 (dn aj) h)
theorem qk{aB:aE}{aW:aE}{cY:aT}{r:aT×Bool}(h:jN aB aW cY=some r):Good prog 239 [D.agg (aE.c aB),D.agg (aE.c aW),D.sl (cY.map aS.c)] (D.gZ [D.fr 152 2 (r.1.map aS.c),D.bool r.2]):=by
 refine gd func239 [[some (152,2)],[none]] 77 fun hr Γ hΓ=>?_
 rw[jN]at h;obtain⟨y1,h2,h⟩:=aD h;obtain⟨h3,h⟩|⟨h3,h⟩:=aM h
 ·cases h;exact(((aU.g (jz h2)).r 4 h3).T 19).ret hΓ
 ·obtain⟨y4,h5,h⟩:=aD h;have AR:=((((aU.g (jz h2)).r 2 h3).g (yH h5)).r 2 h3)
  obtain⟨h6,h⟩|⟨h6,h⟩:=aM h
  ·cases h;exact((AR.r 4 h6).T 15).ret hΓ
  ·obtain⟨y7,h8,h⟩:=aD h;have FG:=(((AR.r 2 h6).g (mw h8)).r 2 h6)
   obtain⟨h9,h⟩|⟨h9,h⟩:=aM h
   ·cases h;exact((FG.r 6 h9).T 9).ret hΓ
   ·have KR:=(FG.r 6 h9)
    obtain⟨h10,h⟩|⟨h10,h⟩:=aM h
    ·cases h;exact((KR.r 8 h10).T 1).ret hΓ
    ·have AQ:=(KR.r 8 h10)
     obtain⟨h11,h⟩|⟨h11,h⟩:=aM h
     ·cases h;exact(AQ.b h11).ret hΓ
     ·obtain⟨ZB,h13,h⟩:=aD h;refine(((AQ.b h11).g (ve h13)).a [.cn [4,8,45,46,47] [1,2]]).lp hΓ (Gb hΓ (fun bQ h=>?_) (by have:=(dY.sl (dY.agg (hr _ (aC (i:=0) rfl)) (.sl (aB.args.map tx)) (by simp))).1;simpa using this) aB.args 0 ZB rfl h);cases h;exact aU.ret hΓ
def gE(aB:aE)(aW:aT)(cY:aL)(k1:aL->Option aL):aL->Nat->aL->Option aL
 | [],i1,bu=>(k1 bu)
 |bD::bZ,i1,bu=>((jN aB bD aW).bind fun y42=>(bif y42.2 then((eF bD).bind fun IN=>(bif room ((bu.map aE.c).length+([[D.str IN.rel,D.sl (IN.args.map tx)]]).length) 40 then(gE aB aW cY k1 bZ (i1+1) (bu++([IN])))else none))else(gE aB aW cY k1 bZ (i1+1) bu)))
def ij(aB:aE)(aW:aT)(cY:aL):Option aL:=(gE aB aW cY (fun(bQ:aL)=>(some bQ)) cY 0 ([]:aL))
def yS(aB:aE)(aW:aT)(cY:aL)(W0:List aR)(cT:Int):St:=⟨[(1,D.sl (aW.map aS.c)),(3,D.ptr 0 0),(7,D.acc 1),(12,D.sl (cY.map aE.c)),(13,D.int .i64 ((cY.map aE.c).length:Int)),(14,D.int .i64 cT)],[Ob.box (aE.c aB),Ob.row .uq 53 2 W0]⟩
theorem D2(hΓ:Γ.nt=33){aB:aE}{aW:aT}{cY:aL}{r:aL}{k1:aL->Option aL}(cX:∀(bQ:aL),k1 bQ=some r->Ax Γ N f202 (.q [[some (53,2)]] (D.fr 53 2 (r.map aE.c))) [1,1,1] ⟨[(7,D.acc 0)],[Ob.row .uq 53 2 (bQ.map aE.c)]⟩)(hm1:cY.length<=maxLen):∀(rest:aL) (i1:Nat) (bu:aL),cY.drop i1=rest->gE aB aW cY k1 rest i1 bu=some r->Ar Γ N f202 (.q [[some (53,2)]] (D.fr 53 2 (r.map aE.c))) [1,1,0,1,0] (rest.length+1) (yS aB aW cY (bu.map aE.c) (i1:Int)):=by
 intro rest
 induction rest with
 |nil=>
  intro i1 bu aj h;rw[gE]at h;refine aO fun N1 bz bg=>?_
  exact((aU.ge aE.c aj).a [.hl 0 [7] [1]]).ex hΓ bz (cX bu h)
 |cons bD bZ ih1=>
  intro i1 bu aj h;rw[gE]at h;refine aO fun N1 bz bg=>?_
  obtain⟨y42,h43,h⟩:=aD h;have dJ:=(((aU.lt aE.c aj).l (ax aE.c 2 (dc aj) rfl)).g (qk h43))
  obtain⟨h44,h⟩|⟨h44,h⟩:=aM h
  ·obtain⟨IN,h46,h⟩:=aD h;obtain⟨h47,h⟩:=bV h;exact((((dJ.b h44).g (gS h46)).w (cB h47)).a [.cn [1,3,7,12,13,14] [0,6]]).cs hΓ bg (yS aB aW cY ((bu.map aE.c)++([[D.str IN.rel,D.sl (IN.args.map tx)]])) (IntKind.i64.wrap ((i1:Int)+1))) (by first| (simp only[iS aj hm1,mA]<;>rfl)| (simp only[iS aj hm1,mA,aE.c,aS.c,aQ.c,Action.c,aN.c,aI.c,cu.c,aP.c,Node.c,aF.c,cw.c]<;>rfl)) (ih1 (i1+1) (bu++([IN])) (dn aj) h)
  ·exact((dJ.b h44).a [.cn [1,3,7,12,13,14] [0,1]]).ct hΓ bg (iS aj hm1) (ih1 (i1+1) bu (dn aj) h)
theorem mo{aB:aE}{aW:aT}{cY:aL}{r:aL}(h:ij aB aW cY=some r):Good prog 202 [D.agg (aE.c aB),D.sl (aW.map aS.c),D.sl (cY.map aE.c)] (D.fr 53 2 (r.map aE.c)):=by
 refine gd func202 [[some (53,2)]] 33 fun hr Γ hΓ=>?_
 rw[ij]at h;refine(aU.a [.Pt 7,.cn [1,3,7,12,13,14] [0,1]]).lp hΓ (D2 hΓ (fun bQ h=>?_) (by have:=(dY.sl (hr _ (aC (i:=2) rfl))).1;simpa using this) cY 0 ([]:aL) rfl h);have h:=aG h;subst h;exact aU.ret hΓ
def nC(aB:aF)(k1:bI->Option aq):Nat->Int->bI->Option aq
 |0,_,_=>none
 |n1+1,b8,bu=>(bif room ((bu.map dL).length+([[D.int .i64 b8]]).length) 8 then((mK aB.nodes b8).bind fun x19=>(bif decide ((x19.parent:Int)<1)then(k1 (bu++([b8])))else(bif decide ((x19.parent:Int)>=b8)then(k1 (bu++([b8])))else(nC aB k1 n1 x19.parent (bu++([b8]))))))else none)
def kx(aB:aF)(tj:bI)(k2:aq->Option aq):Nat->Int->aq->Option aq
 |0,_,_=>none
 |n2+1,Pw,Rh=>(bif decide ((Pw:Int)>=0)then((mK tj Pw).bind fun x72=>((mK aB.nodes x72).bind fun x74=>((fF x74.cond).bind fun y76=>(bif room ((Rh.map aQ.c).length+([[D.int .i64 y76.kind,D.str y76.pat.rel,D.sl (y76.pat.args.map tx),D.str y76.left,D.str y76.right]]).length) 80 then(kx aB tj k2 n2 (IntKind.i64.wrap (Pw-1)) (Rh++([y76])))else none))))else(k2 Rh))
def xb(aB:aF)(aW:Int):Option aq:=(bif decide ((aW:Int)<1)then(some ([]))else(bif decide ((aW:Int)>=((aB.nodes.map Node.c).length:Int))then(some ([]))else(nC aB (fun(tj:bI)=>(kx aB tj (fun(Pu:aq)=>(some Pu)) fuel (IntKind.i64.wrap (((tj.map dL).length:Int)-1)) ([]:aq))) fuel aW ([]:bI))))
def DZ(aB:aF)(b8:Int)(W1:List aR):St:=⟨[(1,D.int .i64 b8),(2,D.ptr 0 0),(5,D.acc 1)],[Ob.box (aF.c aB),Ob.row .uq 3 1 W1]⟩
theorem Ml(hΓ:Γ.nt=57){aB:aF}{r:aq}{k1:bI->Option aq}(cX:∀(tj:bI),k1 tj=some r->Ax Γ N f204 (.q [[some (115,5)]] (D.fr 115 5 (r.map aQ.c))) [1,1,1,1] ⟨[(2,D.ptr 0 0),(5,D.acc 1)],[Ob.box (aF.c aB),Ob.row .uq 3 1 (tj.map dL)]⟩):∀(n1:Nat) (b8:Int) (bu:bI),nC aB k1 n1 b8 bu=some r->Ar Γ N f204 (.q [[some (115,5)]] (D.fr 115 5 (r.map aQ.c))) [1,1,1,0,0] n1 (DZ aB b8 (bu.map dL)):=by
 intro n
 induction n with
 |zero=>intro b8 bu h;simp[nC]at h
 |succ n1 ih1=>
  intro b8 bu h;rw[nC]at h;refine aO fun N1 bz bg=>?_
  obtain⟨h18,h⟩:=bV h;obtain⟨x19,h20,h⟩:=aD h;have jb:=((aU.w (cB h18)).l (dl Node.c 8 h20 rfl))
  obtain⟨h21,h⟩|⟨h21,h⟩:=aM h
  ·exact(((jb.r 4 h21).T 1).a [.hl 0 [2,5] [0,3]]).exs hΓ bz ⟨[(2,D.ptr 0 0),(5,D.acc 1)],[Ob.box (aF.c aB),Ob.row .uq 3 1 ((bu.map dL)++([[D.int .i64 b8]]))]⟩ (by first| (simp only[mA]<;>rfl)| (simp only[mA,aE.c,aS.c,aQ.c,Action.c,aN.c,aI.c,cu.c,aP.c,Node.c,aF.c,cw.c]<;>rfl)) (cX (bu++([b8])) h)
  ·have ia:=(jb.r 4 h21)
   obtain⟨h22,h⟩|⟨h22,h⟩:=aM h
   ·exact((ia.b h22).a [.hl 0 [2,5] [0,3]]).exs hΓ bz ⟨[(2,D.ptr 0 0),(5,D.acc 1)],[Ob.box (aF.c aB),Ob.row .uq 3 1 ((bu.map dL)++([[D.int .i64 b8]]))]⟩ (by first| (simp only[mA]<;>rfl)| (simp only[mA,aE.c,aS.c,aQ.c,Action.c,aN.c,aI.c,cu.c,aP.c,Node.c,aF.c,cw.c]<;>rfl)) (cX (bu++([b8])) h)
   ·exact((ia.b h22).a [.cn [1,2,5] [0,3]]).cs hΓ bg (DZ aB x19.parent ((bu.map dL)++([[D.int .i64 b8]]))) (by first| (simp only[mA]<;>rfl)| (simp only[mA,aE.c,aS.c,aQ.c,Action.c,aN.c,aI.c,cu.c,aP.c,Node.c,aF.c,cw.c]<;>rfl)) (ih1 x19.parent (bu++([b8])) h)
def Da(aB:aF)(tj:bI)(Pw:Int)(W1:List aR):St:=⟨[(2,D.ptr 0 0),(5,D.acc 1),(7,D.acc 2),(8,D.int .i64 Pw)],[Ob.box (aF.c aB),Ob.row .uq 3 1 (tj.map dL),Ob.row .uq 115 5 W1]⟩
theorem Mm(hΓ:Γ.nt=57){aB:aF}{tj:bI}{r:aq}{k2:aq->Option aq}(Cn:∀(Pu:aq),k2 Pu=some r->Ax Γ N f204 (.q [[some (115,5)]] (D.fr 115 5 (r.map aQ.c))) [1,1,1,1,1,1] ⟨[(7,D.acc 0)],[Ob.row .uq 115 5 (Pu.map aQ.c)]⟩):∀(n2:Nat) (Pw:Int) (Rh:aq),kx aB tj k2 n2 Pw Rh=some r->Ar Γ N f204 (.q [[some (115,5)]] (D.fr 115 5 (r.map aQ.c))) [1,1,1,1,1,0,1,0] n2 (Da aB tj Pw (Rh.map aQ.c)):=by
 intro n
 induction n with
 |zero=>intro Pw Rh h;simp[kx]at h
 |succ n2 ih2=>
  intro Pw Rh h;rw[kx]at h;refine aO fun N2 xo uz=>?_
  obtain⟨h65,h⟩|⟨h65,h⟩:=aM h
  ·obtain⟨x72,h73,h⟩:=aD h;obtain⟨x74,h75,h⟩:=aD h;obtain⟨y76,h77,h⟩:=aD h;obtain⟨h78,h⟩:=bV h;exact((((((((aU.b h65).a [.n2 [0,1,2,3,4,5,6,7,8,9,10,11,12,13] [0,1,2,3,4,5,6,7,8,9,10,11,12,13] 11 12 [0] [3]]).i (yO dL 1 h73)).o 1 1 .uq (dG dL (uC h73))).l (dl Node.c 8 h75 rfl)).g (l7 h77)).w (cB h78)).a [.cn [2,5,7,8] [0,1,5]]).cs hΓ uz (Da aB tj (IntKind.i64.wrap (Pw-1)) ((Rh.map aQ.c)++([[D.int .i64 y76.kind,D.str y76.pat.rel,D.sl (y76.pat.args.map tx),D.str y76.left,D.str y76.right]]))) (by first| (simp only[mA]<;>rfl)| (simp only[mA,aE.c,aS.c,aQ.c,Action.c,aN.c,aI.c,cu.c,aP.c,Node.c,aF.c,cw.c]<;>rfl)) (ih2 (IntKind.i64.wrap (Pw-1)) (Rh++([y76])) h)
  ·exact((aU.b h65).a [.hl 0 [7] [2]]).ex hΓ xo (Cn Rh h)
theorem yI{aB:aF}{aW:Int}{r:aq}(h:xb aB aW=some r):Good prog 204 [D.agg (aF.c aB),D.int .i64 aW] (D.fr 115 5 (r.map aQ.c)):=by
 refine gd func204 [[some (115,5)]] 57 fun hr Γ hΓ=>?_
 rw[xb]at h;obtain⟨h1,h⟩|⟨h1,h⟩:=aM h
 ·cases h;exact((aU.r 6 h1).T 1).ret hΓ
 ·have tq:=(aU.r 6 h1)
  obtain⟨h2,h⟩|⟨h2,h⟩:=aM h
  ·cases h;exact(tq.b h2).ret hΓ
  ·refine((tq.b h2).a [.Pt 5,.cn [1,2,5] [0,1]]).lp hΓ (Ml hΓ (fun tj h=>?_) fuel aW ([]:bI) h);refine(aU.a [.Pt 7,.cn [2,5,7,8] [0,1,2]]).lp hΓ (Mm hΓ (fun Pu h=>?_) fuel (IntKind.i64.wrap (((tj.map dL).length:Int)-1)) ([]:aq) h);have h:=aG h;subst h;exact aU.ret hΓ
def xa(aB:aQ):Option Bool:=((ru aB).bind fun y1=>(bif y1 then(some (decide ((aB.kind:Int)>=3)))else(some false)))
theorem Bu{aB:aQ}{r:Bool}(h:xa aB=some r):Good prog 286 [D.agg (aQ.c aB)] (D.bool r):=by
 refine gd func286 [[none]] 10 fun hr Γ hΓ=>?_
 rw[xa]at h;obtain⟨y1,h2,h⟩:=aD h;obtain⟨h3,h⟩|⟨h3,h⟩:=aM h
 ·cases h;exact((aU.g (qL h2)).r 4 h3).ret hΓ
 ·have h:=aG h;subst h;exact((aU.g (qL h2)).r 4 h3).ret hΓ
def su(aB:aQ)(aW:aT):Option Bool:=((xa aB).bind fun y1=>(bif !(y1)then(some false)else((kw aW).bind fun y4=>(bif !(y4)then(some false)else((qM aW aB.left).bind fun y7=>((qM aW aB.right).bind fun y9=>(bif !(y7.2)then(some false)else(bif !(y9.2)then(some false)else(bif (aB.kind:Int)==3 then(some ((y7.1:Bytes)==y9.1))else(bif (aB.kind:Int)==4 then(some (!((y7.1:Bytes)==y9.1)))else((mc y7.1).bind fun y15=>((mc y9.1).bind fun UP=>(bif y15.2 then(bif UP.2 then(some (decide ((y15.1:Int)<UP.1)))else(some false))else(some false))))))))))))))
theorem FU{aB:aQ}{aW:aT}{r:Bool}(h:su aB aW=some r):Good prog 277 [D.agg (aQ.c aB),D.sl (aW.map aS.c)] (D.bool r):=by
 refine gd func277 [[none]] 70 fun hr Γ hΓ=>?_
 rw[su]at h;obtain⟨y1,h2,h⟩:=aD h;obtain⟨h3,h⟩|⟨h3,h⟩:=aM h
 ·have h:=aG h;subst h;exact(((aU.g (Bu h2)).r 4 h3).T 1).ret hΓ
 ·obtain⟨y4,h5,h⟩:=aD h;have kF:=((((aU.g (Bu h2)).r 2 h3).g (mw h5)).r 2 h3)
  obtain⟨h6,h⟩|⟨h6,h⟩:=aM h
  ·have h:=aG h;subst h;exact(kF.b h6).ret hΓ
  ·obtain⟨y7,h8,h⟩:=aD h;obtain⟨y9,h10,h⟩:=aD h;have dJ:=(((kF.b h6).g (xN h8)).g (xN h10))
   obtain⟨h11,h⟩|⟨h11,h⟩:=aM h
   ·have h:=aG h;subst h;exact((dJ.r 3 h11).T 1).ret hΓ
   ·have jb:=(dJ.r 3 h11)
    obtain⟨h12,h⟩|⟨h12,h⟩:=aM h
    ·have h:=aG h;subst h;exact(jb.b h12).ret hΓ
    ·obtain⟨h13,h⟩|⟨h13,h⟩:=aM h
     ·cases h;exact((jb.b h12).b h13).ret hΓ
     ·have ia:=((jb.b h12).b h13)
      obtain⟨h14,h⟩|⟨h14,h⟩:=aM h
      ·cases h;exact(ia.b h14).ret hΓ
      ·obtain⟨y15,h16,h⟩:=aD h;obtain⟨UP,h18,h⟩:=aD h;have tq:=(((ia.b h14).g (rJ h16)).g (rJ h18))
       obtain⟨h19,h⟩|⟨h19,h⟩:=aM h
       ·have wm:=(tq.r 2 h19)
        obtain⟨h20,h⟩|⟨h20,h⟩:=aM h
        ·cases h;exact(wm.r 4 h20).ret hΓ
        ·have h:=aG h;subst h;exact(wm.r 4 h20).ret hΓ
       ·have h:=aG h;subst h;exact((tq.r 2 h19).F 4).ret hΓ
def sr(aB:aQ)(aW:aT)(cY:aL):Option Bool:=((ru aB).bind fun y1=>(bif !(y1)then(some false)else((kw aW).bind fun y4=>(bif !(y4)then(some false)else(bif (aB.kind:Int)==1 then((ij aB.pat aW cY).bind fun y8=>(some (decide ((((y8.map aE.c).length:Int):Int)>0))))else(bif (aB.kind:Int)==2 then((ij aB.pat aW cY).bind fun WG=>(some ((((WG.map aE.c).length:Int):Int)==0)))else((su aB aW).bind fun vz=>(some vz))))))))
theorem FT{aB:aQ}{aW:aT}{cY:aL}{r:Bool}(h:sr aB aW cY=some r):Good prog 259 [D.agg (aQ.c aB),D.sl (aW.map aS.c),D.sl (cY.map aE.c)] (D.bool r):=by
 refine gd func259 [[none]] 38 fun hr Γ hΓ=>?_
 rw[sr]at h;obtain⟨y1,h2,h⟩:=aD h;obtain⟨h3,h⟩|⟨h3,h⟩:=aM h
 ·have h:=aG h;subst h;exact(((aU.g (qL h2)).r 4 h3).T 1).ret hΓ
 ·obtain⟨y4,h5,h⟩:=aD h;have kF:=((((aU.g (qL h2)).r 2 h3).g (mw h5)).r 2 h3)
  obtain⟨h6,h⟩|⟨h6,h⟩:=aM h
  ·have h:=aG h;subst h;exact(kF.b h6).ret hΓ
  ·obtain⟨h7,h⟩|⟨h7,h⟩:=aM h
   ·obtain⟨y8,h9,h⟩:=aD h;cases h;exact(((kF.b h6).b h7).g (mo h9)).ret hΓ
   ·have dJ:=((kF.b h6).b h7)
    obtain⟨h10,h⟩|⟨h10,h⟩:=aM h
    ·obtain⟨WG,h12,h⟩:=aD h;cases h;exact((dJ.b h10).g (mo h12)).ret hΓ
    ·obtain⟨vz,h14,h⟩:=aD h;have h:=aG h;subst h;exact((dJ.b h10).g (FU h14)).ret hΓ
def kQ(aB:aq)(aW:aL)(i2:Nat)(bC:ah)(lV:aI)(i1:Nat)(bD:aQ)(k3:ah->Option ah):aL->Nat->ah->Option ah
 | [],i3,Av=>(k3 Av)
 |WS::UM,i3,Av=>((jN bD.pat WS lV.bind).bind fun T0=>(bif T0.2 then((cz lV.facts).bind fun T3=>((eF WS).bind fun O8=>(bif room ((T3.map aE.c).length+([[D.str O8.rel,D.sl (O8.args.map tx)]]).length) 40 then(bif room ((Av.map aI.c).length+([[D.sl ((T3.map aE.c)++([[D.str O8.rel,D.sl (O8.args.map tx)]])),D.sl (T0.1.map aS.c)]]).length) 48 then(kQ aB aW i2 bC lV i1 bD k3 UM (i3+1) (Av++([(⟨T3++([O8]),T0.1⟩:aI)])))else none)else none)))else(kQ aB aW i2 bC lV i1 bD k3 UM (i3+1) Av)))
def fS(aB:aq)(aW:aL)(bC:ah)(i1:Nat)(bD:aQ)(k2:ah->Option ah):ah->Nat->ah->Option ah
 | [],i2,kE=>(k2 kE)
 |lV::wu,i2,kE=>(bif (bD.kind:Int) != 1 then((sr bD lV.bind aW).bind fun a79=>(bif a79 then(bif room ((kE.map aI.c).length+([[D.sl (lV.facts.map aE.c),D.sl (lV.bind.map aS.c)]]).length) 48 then(fS aB aW bC i1 bD k2 wu (i2+1) (kE++([lV])))else none)else(fS aB aW bC i1 bD k2 wu (i2+1) kE)))else(bif decide (aW.length<=maxLen)then(kQ aB aW i2 bC lV i1 bD (fun(a0D:ah)=>(fS aB aW bC i1 bD k2 wu (i2+1) a0D)) aW 0 kE)else none))
def kP(aB:aq)(aW:aL)(k1:ah->Option ah):aq->Nat->ah->Option ah
 | [],i1,bC=>(k1 bC)
 |bD::bZ,i1,bC=>(bif decide (bC.length<=maxLen)then(fS aB aW bC i1 bD (fun(Pu:ah)=>(kP aB aW k1 bZ (i1+1) Pu)) bC 0 ([]:ah))else none)
def uX(aB:aq)(aW:aL):Option ah:=(kP aB aW (fun(bQ:ah)=>(some bQ)) aB 0 ([(⟨[],[]⟩:aI)]))
def Bz(aB:aq)(aW:aL)(W0:List aR)(cT:Int):St:=⟨[(1,D.sl (aW.map aE.c)),(5,D.acc 0),(17,D.sl (aB.map aQ.c)),(18,D.int .i64 ((aB.map aQ.c).length:Int)),(19,D.int .i64 cT)],[Ob.row .uq 124 2 W0]⟩
def C0(aB:aq)(aW:aL)(bC:ah)(i1:Nat)(bD:aQ)(W0:List aR)(aDh:Nat)(cT:Int):St:=⟨[(1,D.sl (aW.map aE.c)),(7,D.ptr 0 0),(8,D.acc 1),(17,D.sl (aB.map aQ.c)),(18,D.int .i64 ((aB.map aQ.c).length:Int)),(19,D.int .i64 (i1:Int)),(23,D.acc 2),(24,D.int .i64 ((bC.map aI.c).length:Int)),(25,D.int .i64 cT)],[Ob.box [D.int .i64 bD.kind,D.str bD.pat.rel,D.sl (bD.pat.args.map tx),D.str bD.left,D.str bD.right],Ob.row .uq 124 2 W0,Ob.row (.mv aDh) 124 2 (bC.map aI.c)]⟩
def C1(aB:aq)(aW:aL)(i2:Nat)(bC:ah)(lV:aI)(i1:Nat)(bD:aQ)(W0:List aR)(cT:Int):St:=⟨[(1,D.sl (aW.map aE.c)),(7,D.ptr 0 0),(8,D.acc 1),(10,D.ptr 2 0),(17,D.sl (aB.map aQ.c)),(18,D.int .i64 ((aB.map aQ.c).length:Int)),(19,D.int .i64 (i1:Int)),(23,D.acc 3),(24,D.int .i64 ((bC.map aI.c).length:Int)),(25,D.int .i64 (i2:Int)),(41,D.sl (aW.map aE.c)),(42,D.int .i64 ((aW.map aE.c).length:Int)),(43,D.int .i64 cT)],[Ob.box [D.int .i64 bD.kind,D.str bD.pat.rel,D.sl (bD.pat.args.map tx),D.str bD.left,D.str bD.right],Ob.row .uq 124 2 W0,Ob.box [D.acc 4,D.acc 5],Ob.row (.mv (i2+1)) 124 2 (bC.map aI.c),Ob.tk (lV.facts.map aE.c),Ob.tk (lV.bind.map aS.c)]⟩
theorem J5(hΓ:Γ.nt=74){aB:aq}{aW:aL}{i2:Nat}{bC:ah}{lV:aI}{i1:Nat}{bD:aQ}{r:ah}{k3:ah->Option ah}(hE3:∀(a0D:ah),k3 a0D=some r->Ax Γ N f203 (.q [[some (124,2)]] (D.fr 124 2 (r.map aI.c))) [1,1,0,1,0,0,1,1,0,0,1,1,0,1,0,0,1,1,1] ⟨[(1,D.sl (aW.map aE.c)),(7,D.ptr 0 0),(8,D.acc 1),(17,D.sl (aB.map aQ.c)),(18,D.int .i64 ((aB.map aQ.c).length:Int)),(19,D.int .i64 (i1:Int)),(23,D.acc 2),(24,D.int .i64 ((bC.map aI.c).length:Int)),(25,D.int .i64 (i2:Int))],[Ob.box [D.int .i64 bD.kind,D.str bD.pat.rel,D.sl (bD.pat.args.map tx),D.str bD.left,D.str bD.right],Ob.row .uq 124 2 (a0D.map aI.c),Ob.row (.mv (i2+1)) 124 2 (bC.map aI.c)]⟩)(X4:aW.length<=maxLen):∀(rest:aL) (i3:Nat) (Av:ah),aW.drop i3=rest->kQ aB aW i2 bC lV i1 bD k3 rest i3 Av=some r->Ar Γ N f203 (.q [[some (124,2)]] (D.fr 124 2 (r.map aI.c))) [1,1,0,1,0,0,1,1,0,0,1,1,0,1,0,0,1,1,0,0,1,1,1,0] (rest.length+1) (C1 aB aW i2 bC lV i1 bD (Av.map aI.c) (i3:Int)):=by
 intro rest
 induction rest with
 |nil=>
  intro i3 Av BS h;rw[kQ]at h;refine aO fun N3 YX TO=>?_
  exact((aU.ge aE.c BS).a [.hl 8 [1,7,8,17,18,19,23,24,25] [0,1,3]]).ex hΓ YX (hE3 Av h)
 |cons WS UM ih3=>
  intro i3 Av BS h;rw[kQ]at h;refine aO fun N3 YX TO=>?_
  obtain⟨T0,h3513,h⟩:=aD h;have aAu:=(((aU.lt aE.c BS).l (ax aE.c 2 (dc BS) rfl)).g (qk h3513))
  obtain⟨h3514,h⟩|⟨h3514,h⟩:=aM h
  ·obtain⟨T3,h3521,h⟩:=aD h;obtain⟨O8,h3523,h⟩:=aD h;obtain⟨h3524,h⟩:=bV h;obtain⟨h3525,h⟩:=bV h;exact(((((((aAu.b h3514).a [.n2 [0,1,2,3,4,5,8,6,7,9,10,11,12] [0,1,2,3,4,5,7,8,6,9,10,11,12] 7 11 [0,6] [7,8,9,10,11]]).g (er h3521)).g (gS h3523)).w (cB h3524)).w (cB h3525)).a [.cn [1,7,8,10,17,18,19,23,24,25,41,42,43] [0,13,2,3,4,5]]).cs hΓ TO (C1 aB aW i2 bC lV i1 bD ((Av.map aI.c)++([[D.sl ((T3.map aE.c)++([[D.str O8.rel,D.sl (O8.args.map tx)]])),D.sl (T0.1.map aS.c)]])) (IntKind.i64.wrap ((i3:Int)+1))) (by first| (simp only[iS BS X4,mA]<;>rfl)| (simp only[iS BS X4,mA,aE.c,aS.c,aQ.c,Action.c,aN.c,aI.c,cu.c,aP.c,Node.c,aF.c,cw.c]<;>rfl)) (ih3 (i3+1) (Av++([(⟨T3++([O8]),T0.1⟩:aI)])) (dn BS) h)
  ·exact((aAu.b h3514).a [.cn [1,7,8,10,17,18,19,23,24,25,41,42,43] [0,1,2,3,4,5]]).ct hΓ TO (iS BS X4) (ih3 (i3+1) Av (dn BS) h)
theorem J4(hΓ:Γ.nt=74){aB:aq}{aW:aL}{bC:ah}{i1:Nat}{bD:aQ}{r:ah}{k2:ah->Option ah}(Cn:∀(Pu:ah),k2 Pu=some r->Ax Γ N f203 (.q [[some (124,2)]] (D.fr 124 2 (r.map aI.c))) [1,1,0,1,0,0,1,1,0,0,1,1,1] ⟨[(1,D.sl (aW.map aE.c)),(8,D.acc 0),(17,D.sl (aB.map aQ.c)),(18,D.int .i64 ((aB.map aQ.c).length:Int)),(19,D.int .i64 (i1:Int))],[Ob.row .uq 124 2 (Pu.map aI.c)]⟩)(hm2:bC.length<=maxLen):∀(rest:ah) (i2:Nat) (kE:ah),bC.drop i2=rest->fS aB aW bC i1 bD k2 rest i2 kE=some r->Ar Γ N f203 (.q [[some (124,2)]] (D.fr 124 2 (r.map aI.c))) [1,1,0,1,0,0,1,1,0,0,1,1,0,1,0] (rest.length+1) (C0 aB aW bC i1 bD (kE.map aI.c) i2 (i2:Int)):=by
 intro rest
 induction rest with
 |nil=>
  intro i2 kE hd2 h;rw[fS]at h;refine aO fun N2 xo uz=>?_
  exact((aU.ge aI.c hd2).a [.hl 5 [1,8,17,18,19] [1]]).ex hΓ xo (Cn kE h)
 |cons lV wu ih2=>
  intro i2 kE hd2 h;rw[fS]at h;refine aO fun N2 xo uz=>?_
  have aAv:=((((aU.lt aI.c hd2).i (pP aI.c 2 (dc hd2))).w (show i2=i2/\(bC.map aI.c)[i2]?=some [D.sl (lV.facts.map aE.c),D.sl (lV.bind.map aS.c)]/\UE [D.sl (lV.facts.map aE.c),D.sl (lV.bind.map aS.c)]=true from⟨rfl,dG aI.c (dc hd2),rfl⟩)).a [.tk [D.sl (lV.facts.map aE.c),D.sl (lV.bind.map aS.c)]])
  obtain⟨h3426,h⟩|⟨h3426,h⟩:=aM h
  ·obtain⟨a79,h3428,h⟩:=aD h;have aAw:=((aAv.b h3426).g (FT h3428))
   obtain⟨h3429,h⟩|⟨h3429,h⟩:=aM h
   ·obtain⟨h3430,h⟩:=bV h;exact(((aAw.b h3429).w (cB h3430)).a [.cn [1,7,8,17,18,19,23,24,25] [0,7,2]]).cs hΓ uz (C0 aB aW bC i1 bD ((kE.map aI.c)++([[D.sl (lV.facts.map aE.c),D.sl (lV.bind.map aS.c)]])) (i2+1) (IntKind.i64.wrap ((i2:Int)+1))) (by first| (simp only[iS hd2 hm2,mA]<;>rfl)| (simp only[iS hd2 hm2,mA,aE.c,aS.c,aQ.c,Action.c,aN.c,aI.c,cu.c,aP.c,Node.c,aF.c,cw.c]<;>rfl)) (ih2 (i2+1) (kE++([lV])) (dn hd2) h)
   ·exact((aAw.b h3429).a [.cn [1,7,8,17,18,19,23,24,25] [0,1,2]]).ct hΓ uz (iS hd2 hm2) (ih2 (i2+1) kE (dn hd2) h)
  ·obtain⟨h3526,h⟩:=bV h;refine((aAv.b h3426).a [.cn [1,7,8,10,17,18,19,23,24,25,41,42,43] [0,1,5,2,3,4]]).lp hΓ (J5 hΓ (fun a0D h=>?_) (bt h3526) aW 0 kE rfl h);exact(aU.a [.cn [1,7,8,17,18,19,23,24,25] [0,1,2]]).ct hΓ uz (iS hd2 hm2) (ih2 (i2+1) a0D (dn hd2) h)
theorem J3(hΓ:Γ.nt=74){aB:aq}{aW:aL}{r:ah}{k1:ah->Option ah}(cX:∀(bQ:ah),k1 bQ=some r->Ax Γ N f203 (.q [[some (124,2)]] (D.fr 124 2 (r.map aI.c))) [1,1,1] ⟨[(5,D.acc 0)],[Ob.row .uq 124 2 (bQ.map aI.c)]⟩)(hm1:aB.length<=maxLen):∀(rest:aq) (i1:Nat) (bC:ah),aB.drop i1=rest->kP aB aW k1 rest i1 bC=some r->Ar Γ N f203 (.q [[some (124,2)]] (D.fr 124 2 (r.map aI.c))) [1,1,0,1,0] (rest.length+1) (Bz aB aW (bC.map aI.c) (i1:Int)):=by
 intro rest
 induction rest with
 |nil=>
  intro i1 bC aj h;rw[kP]at h;refine aO fun N1 bz bg=>?_
  exact((aU.ge aQ.c aj).a [.hl 0 [5] [0]]).ex hΓ bz (cX bC h)
 |cons bD bZ ih1=>
  intro i1 bC aj h;rw[kP]at h;refine aO fun N1 bz bg=>?_
  obtain⟨h3527,h⟩:=bV h;refine(((aU.lt aQ.c aj).l (ax aQ.c 5 (dc aj) rfl)).a [.Pt 8,.mz 0,.cn [1,7,8,17,18,19,23,24,25] [1,2,0]]).lp hΓ (J4 hΓ (fun Pu h=>?_) (bt h3527) bC 0 ([]:ah) rfl h);exact(aU.a [.cn [1,5,17,18,19] [0]]).ct hΓ bg (iS aj hm1) (ih1 (i1+1) Pu (dn aj) h)
theorem Gs{aB:aq}{aW:aL}{r:ah}(h:uX aB aW=some r):Good prog 203 [D.sl (aB.map aQ.c),D.sl (aW.map aE.c)] (D.fr 124 2 (r.map aI.c)):=by
 refine gd func203 [[some (124,2)]] 74 fun hr Γ hΓ=>?_
 rw[uX]at h;refine(aU.a [.cn [1,5,17,18,19] [0]]).XI hΓ (Bz aB aW ([[D.sl ([]),D.sl ([])]]) 0) (by first| (simp only[mA]<;>rfl)| (simp only[mA,aE.c,aS.c,aQ.c,Action.c,aN.c,aI.c,cu.c,aP.c,Node.c,aF.c,cw.c]<;>rfl)) (J3 hΓ (fun bQ h=>?_) (by have:=(dY.sl (hr _ (aC (i:=0) rfl))).1;simpa using this) aB 0 ([(⟨[],[]⟩:aI)]) rfl h);have h:=aG h;subst h;exact aU.ret hΓ
def fB(aB:aF)(aW:aL)(y1:aL)(k1:b7->Option (aF×Unit)):b7->Nat->b7->Option (aF×Unit)
 | [],i1,eN=>(k1 eN)
 |bD::bZ,i1,eN=>(bif decide (i1<(eN.map aP.c).length)then(((eN)[i1]?).bind fun x35=>((ij x35.shape ([]) aW).bind fun Y6=>(bif decide (i1<(eN.map aP.c).length)then(fB aB aW y1 k1 bZ (i1+1) (eN.set i1 (⟨x35.shape,Y6⟩:aP)))else none)))else none)
def eL(aB:aF)(aW:aL)(y1:aL)(fV:b7)(k2:Option (aF×Unit)):ay->Nat->ay->Option (aF×Unit)
 | [],i2,pJ=>(some ((⟨aB.rules,aB.ends,fV,pJ,y1,aB.bw⟩:aF),()))
 |lV::wu,i2,pJ=>((xb (⟨aB.rules,aB.ends,fV,pJ,y1,aB.bw⟩:aF) (i2:Int)).bind fun Px=>((uX Px aW).bind fun Y1=>(bif decide (i2<(pJ.map Node.c).length)then(((pJ)[i2]?).bind fun x107=>(eL aB aW y1 fV k2 wu (i2+1) (pJ.set i2 (⟨x107.parent,x107.cond,x107.cP,Y1⟩:Node))))else none)))
def jJ(aB:aF)(aW:aL):Option (aF×Unit):=((cz aW).bind fun y1=>(bif decide (aB.av.length<=maxLen)then(fB aB aW y1 (fun(fV:b7)=>(bif decide (aB.nodes.length<=maxLen)then(eL aB aW y1 fV none aB.nodes 0 aB.nodes)else none)) aB.av 0 aB.av)else none))
def xF(fN:Value)(aB:aF)(aW:aL)(y1:aL)(W0:List aR)(cT:Int):St:=⟨[(0,D.ptr 0 0),(1,D.sl (aW.map aE.c)),(15,D.int .i64 ((aB.av.map aP.c).length:Int)),(16,D.int .i64 cT)],[Ob.Pr [D.acc 1,D.acc 2,D.acc 3,D.acc 4,D.acc 5,D.int .i64 aB.bw] fN,Ob.row .uq 105 4 (aB.rules.map aN.c),Ob.row .uq 3 1 (aB.ends.map dL),Ob.row .uq 111 3 W0,Ob.row .uq 118 8 (aB.nodes.map Node.c),Ob.row .uq 53 2 (y1.map aE.c)]⟩
theorem Bs(hΓ:Γ.nt=60){fN:Value}{aB:aF}{aW:aL}{y1:aL}{r:aF×Unit}{k1:b7->Option (aF×Unit)}(cX:∀(fV:b7),k1 fV=some r->Ax Γ N f135 (.p [[some (105,4),some (3,1),some (111,3),some (118,8),some (53,2),none]] fN (cW r.1) (D.gZ [])) [1,1] ⟨[(0,D.ptr 0 0),(1,D.sl (aW.map aE.c))],[Ob.Pr [D.acc 1,D.acc 2,D.acc 3,D.acc 4,D.acc 5,D.int .i64 aB.bw] fN,Ob.row .uq 105 4 (aB.rules.map aN.c),Ob.row .uq 3 1 (aB.ends.map dL),Ob.row .uq 111 3 (fV.map aP.c),Ob.row .uq 118 8 (aB.nodes.map Node.c),Ob.row .uq 53 2 (y1.map aE.c)]⟩)(hm1:aB.av.length<=maxLen):∀(rest:b7) (i1:Nat) (eN:b7),aB.av.drop i1=rest->fB aB aW y1 k1 rest i1 eN=some r->Ar Γ N f135 (.p [[some (105,4),some (3,1),some (111,3),some (118,8),some (53,2),none]] fN (cW r.1) (D.gZ [])) [1,0,1,0] (rest.length+1) (xF fN aB aW y1 (eN.map aP.c) (i1:Int)):=by
 intro rest
 induction rest with
 |nil=>
  intro i1 eN aj h;rw[fB]at h;refine aO fun N1 bz bg=>?_
  exact((aU.ge aP.c aj).a [.hl 0 [0,1] [0,1,2,3,4,5]]).ex hΓ bz (cX eN h)
 |cons bD bZ ih1=>
  intro i1 eN aj h;rw[fB]at h;refine aO fun N1 bz bg=>?_
  obtain⟨h34,h⟩:=bV h;obtain⟨x35,h36,h⟩:=aD h;obtain⟨Y6,h38,h⟩:=aD h;obtain⟨h39,h⟩:=bV h;exact(((((((((aU.lt aP.c aj).a [.n 15]).i (zh 3 h34)).o 3 2 .uq (dG aP.c h36)).a [.d (D.fr 53 2 (Y6.map aE.c))]).w (show Good prog 202 [D.agg (aE.c x35.shape),D.sl ([]),D.sl (aW.map aE.c)] (D.fr 53 2 (Y6.map aE.c))from by first| (simpa only[bN,bG,bW,dB,cm]using mo h38)|exact mo h38)).i (zh 3 h39)).w (show(eN.map aP.c)[i1]?=some [D.str x35.shape.rel,D.sl (x35.shape.args.map tx),D.sl (x35.facts.map aE.c)]from dG aP.c h36)).a [.row [D.str x35.shape.rel,D.sl (x35.shape.args.map tx),D.sl (x35.facts.map aE.c)],.cn [0,1,15,16] [0,1,2,3,4,5]]).cs hΓ bg (xF fN aB aW y1 ((eN.map aP.c).set i1 [D.str x35.shape.rel,D.sl (x35.shape.args.map tx),D.sl (Y6.map aE.c)]) (IntKind.i64.wrap ((i1:Int)+1))) (by first| (simp only[iS aj hm1,mA]<;>rfl)| (simp only[iS aj hm1,mA,aE.c,aS.c,aQ.c,Action.c,aN.c,aI.c,cu.c,aP.c,Node.c,aF.c,cw.c]<;>rfl)) (ih1 (i1+1) (eN.set i1 (⟨x35.shape,Y6⟩:aP)) (dn aj) h)
def xG(fN:Value)(aB:aF)(aW:aL)(y1:aL)(fV:b7)(W0:List aR)(cT:Int):St:=⟨[(0,D.ptr 0 0),(1,D.sl (aW.map aE.c)),(41,D.int .i64 ((aB.nodes.map Node.c).length:Int)),(42,D.int .i64 cT)],[Ob.Pr [D.acc 1,D.acc 2,D.acc 3,D.acc 4,D.acc 5,D.int .i64 aB.bw] fN,Ob.row .uq 105 4 (aB.rules.map aN.c),Ob.row .uq 3 1 (aB.ends.map dL),Ob.row .uq 111 3 (fV.map aP.c),Ob.row .uq 118 8 W0,Ob.row .uq 53 2 (y1.map aE.c)]⟩
theorem Bt(hΓ:Γ.nt=60){fN:Value}{aB:aF}{aW:aL}{y1:aL}{fV:b7}{r:aF×Unit}{k2:Option (aF×Unit)}(Cn:k2=some r->Ax Γ N f135 (.p [[some (105,4),some (3,1),some (111,3),some (118,8),some (53,2),none]] fN (cW r.1) (D.gZ [])) [1,1,1,0,0] ⟨[],[]⟩)(hm2:aB.nodes.length<=maxLen):∀(rest:ay) (i2:Nat) (pJ:ay),aB.nodes.drop i2=rest->eL aB aW y1 fV k2 rest i2 pJ=some r->Ar Γ N f135 (.p [[some (105,4),some (3,1),some (111,3),some (118,8),some (53,2),none]] fN (cW r.1) (D.gZ [])) [1,1,1,0] (rest.length+1) (xG fN aB aW y1 fV (pJ.map Node.c) (i2:Int)):=by
 intro rest
 induction rest with
 |nil=>
  intro i2 pJ hd2 h;rw[eL]at h;refine aO fun N2 xo uz=>?_
  cases h;exact(aU.ge Node.c hd2).ret hΓ
 |cons lV wu ih2=>
  intro i2 pJ hd2 h;rw[eL]at h;refine aO fun N2 xo uz=>?_
  obtain⟨Px,h103,h⟩:=aD h;obtain⟨Y1,h105,h⟩:=aD h;obtain⟨h106,h⟩:=bV h;obtain⟨x107,h108,h⟩:=aD h;exact(((((((aU.lt Node.c hd2).a [.n2 [0,1,2,3,4,5,6,7,8,9,10,11,12,13,14] [0,1,2,3,4,5,6,7,8,9,10,11,12,13,14] 11 12 [0,1,2,3,4] [],.d (D.fr 115 5 (Px.map aQ.c))]).w (show Good prog 204 [D.agg [D.sl (aB.rules.map aN.c),D.sl (aB.ends.map dL),D.sl (fV.map aP.c),D.sl (pJ.map Node.c),D.sl (y1.map aE.c),D.int .i64 aB.bw],D.int .i64 (i2:Int)] (D.fr 115 5 (Px.map aQ.c))from by first| (simpa only[bN,bG,bW,dB,cm]using yI h103)|exact yI h103| (have t:=yI h103;simp only[bN,dB,cm,aF.c]at t;exact t))).g (Gs h105)).i (zh 8 h106)).w (show(pJ.map Node.c)[i2]?=some [D.int .i64 x107.parent,D.int .i64 x107.cond.kind,D.str x107.cond.pat.rel,D.sl (x107.cond.pat.args.map tx),D.str x107.cond.left,D.str x107.cond.right,D.int .i64 x107.cP,D.sl (x107.tokens.map aI.c)]from dG Node.c h108)).a [.row [D.int .i64 x107.parent,D.int .i64 x107.cond.kind,D.str x107.cond.pat.rel,D.sl (x107.cond.pat.args.map tx),D.str x107.cond.left,D.str x107.cond.right,D.int .i64 x107.cP,D.sl (x107.tokens.map aI.c)],.cn [0,1,41,42] [0,1,2,3,4,5]]).cs hΓ uz (xG fN aB aW y1 fV ((pJ.map Node.c).set i2 [D.int .i64 x107.parent,D.int .i64 x107.cond.kind,D.str x107.cond.pat.rel,D.sl (x107.cond.pat.args.map tx),D.str x107.cond.left,D.str x107.cond.right,D.int .i64 x107.cP,D.sl (Y1.map aI.c)]) (IntKind.i64.wrap ((i2:Int)+1))) (by first| (simp only[iS hd2 hm2,mA]<;>rfl)| (simp only[iS hd2 hm2,mA,aE.c,aS.c,aQ.c,Action.c,aN.c,aI.c,cu.c,aP.c,Node.c,aF.c,cw.c]<;>rfl)) (ih2 (i2+1) (pJ.set i2 (⟨x107.parent,x107.cond,x107.cP,Y1⟩:Node)) (dn hd2) h)
theorem w8{aB:aF}{aW:aL}{r:aF×Unit}(h:jJ aB aW=some r):Bj prog 135 (cW aB) (cW r.1) [D.sl (aW.map aE.c)] (D.gZ []):=by
 refine gdP func135 [[some (105,4),some (3,1),some (111,3),some (118,8),some (53,2),none]] 60 [D.acc 1,D.acc 2,D.acc 3,D.acc 4,D.acc 5,D.int .i64 aB.bw] [D.sl (aW.map aE.c)] [Ob.row .uq 105 4 (aB.rules.map aN.c),Ob.row .uq 3 1 (aB.ends.map dL),Ob.row .uq 111 3 (aB.av.map aP.c),Ob.row .uq 118 8 (aB.nodes.map Node.c),Ob.row .uq 53 2 (aB.facts.map aE.c)] fun hr fN Γ hΓ=>?_
 rw[jJ]at h;obtain⟨y1,h2,h⟩:=aD h;obtain⟨h110,h⟩:=bV h;refine((aU.g (er h2)).a [.cn [0,1,15,16] [0,1,2,3,4,6]]).lp hΓ (Bs hΓ (fun fV h=>?_) (bt h110) aB.av 0 aB.av rfl h);obtain⟨h109,h⟩:=bV h;refine(aU.a [.cn [0,1,41,42] [0,1,2,3,4,5]]).lp hΓ (Bt hΓ (fun h=>?_) (bt h109) aB.nodes 0 aB.nodes rfl h);cases h
def uD(aB:ar)(aW:aL)(cY:Int):Option aF:=((tD aB).bind fun y1=>((jJ y1 aW).bind fun y3=>(some (⟨y3.1.rules,y3.1.ends,y3.1.av,y3.1.nodes,y3.1.facts,cY⟩:aF))))
theorem yt{aB:ar}{aW:aL}{cY:Int}{r:aF}(h:uD aB aW cY=some r):Good prog 78 [D.sl (aB.map aN.c),D.sl (aW.map aE.c),D.int .i64 cY] (D.agg [D.fr 105 4 (r.rules.map aN.c),D.fr 3 1 (r.ends.map dL),D.fr 111 3 (r.av.map aP.c),D.fr 118 8 (r.nodes.map Node.c),D.fr 53 2 (r.facts.map aE.c),D.int .i64 r.bw]):=by
 refine gd func78 [[some (105,4),some (3,1),some (111,3),some (118,8),some (53,2),none]] 15 fun hr Γ hΓ=>?_
 rw[uD]at h;obtain⟨y1,h2,h⟩:=aD h;obtain⟨y3,h4,h⟩:=aD h;cases h;exact((aU.g (Fg h2)).hp [[some (105,4),some (3,1),some (111,3),some (118,8),some (53,2),none],[none]] (w8 h4)).ret hΓ
def kL(aB:aN)(aW:aN)(k1:Option Bool):aq->Nat->Option Bool
 | [],i1=>(k1)
 |bD::bZ,i1=>((mK aW.conds (i1:Int)).bind fun x33=>((kC bD x33).bind fun yf=>(bif !(yf)then(some false)else(kL aB aW k1 bZ (i1+1)))))
def iq(aB:aN)(aW:aN)(k2:Option Bool):c8->Nat->Option Bool
 | [],i2=>(k2)
 |lV::wu,i2=>((mK aW.cv (i2:Int)).bind fun x70=>(bif (lV.kind:Int) != x70.kind then(some false)else((fR lV.pat x70.pat).bind fun MR=>(bif !(MR)then(some false)else(iq aB aW k2 wu (i2+1))))))
def qy(aB:aN)(aW:aN):Option Bool:=(bif !((aB.name:Bytes)==aW.name)then(some false)else(bif (aB.prio:Int) != aW.prio then(some false)else(bif (((aB.conds.map aQ.c).length:Int):Int) != ((aW.conds.map aQ.c).length:Int)then(some false)else(bif (((aB.cv.map Action.c).length:Int):Int) != ((aW.cv.map Action.c).length:Int)then(some false)else(kL aB aW (iq aB aW (some true) aB.cv 0) aB.conds 0)))))
def Kr(aB:aN)(aW:aN)(cT:Int):St:=⟨[(2,D.ptr 0 0),(3,D.ptr 1 0),(39,D.int .i64 ((aB.conds.map aQ.c).length:Int)),(40,D.int .i64 cT)],[Ob.box (aN.c aB),Ob.box (aN.c aW)]⟩
theorem Ir(hΓ:Γ.nt=92){aB:aN}{aW:aN}{r:Bool}{k1:Option Bool}(cX:k1=some r->Ax Γ N f230 (.q [[none]] (D.bool r)) [1,1,1] ⟨[(2,D.ptr 0 0),(3,D.ptr 1 0)],[Ob.box (aN.c aB),Ob.box (aN.c aW)]⟩)(hm1:aB.conds.length<=maxLen):∀(rest:aq) (i1:Nat),aB.conds.drop i1=rest->kL aB aW k1 rest i1=some r->Ar Γ N f230 (.q [[none]] (D.bool r)) [1,1,0,1,0] (rest.length+1) (Kr aB aW (i1:Int)):=by
 intro rest
 induction rest with
 |nil=>
  intro i1 aj h;rw[kL]at h;refine aO fun N1 bz bg=>?_
  exact((aU.ge aQ.c aj).a [.hl 0 [2,3] [0,1]]).ex hΓ bz (cX h)
 |cons bD bZ ih1=>
  intro i1 aj h;rw[kL]at h;refine aO fun N1 bz bg=>?_
  obtain⟨x33,h34,h⟩:=aD h;obtain⟨yf,h36,h⟩:=aD h;have ia:=(((((aU.lt aQ.c aj).a [.n 10]).l (ax aQ.c 5 (dc aj) rfl)).l (dl aQ.c 5 h34 rfl)).g (wM h36))
  obtain⟨h37,h⟩|⟨h37,h⟩:=aM h
  ·have h:=aG h;subst h;exact(ia.b h37).ret hΓ
  ·exact((ia.b h37).a [.cn [2,3,39,40] [0,1]]).ct hΓ bg (iS aj hm1) (ih1 (i1+1) (dn aj) h)
def Ks(aB:aN)(aW:aN)(cT:Int):St:=⟨[(2,D.ptr 0 0),(3,D.ptr 1 0),(58,D.int .i64 ((aB.cv.map Action.c).length:Int)),(59,D.int .i64 cT)],[Ob.box (aN.c aB),Ob.box (aN.c aW)]⟩
theorem Is(hΓ:Γ.nt=92){aB:aN}{aW:aN}{r:Bool}{k2:Option Bool}(Cn:k2=some r->Ax Γ N f230 (.q [[none]] (D.bool r)) [1,1,1,1] ⟨[],[]⟩)(hm2:aB.cv.length<=maxLen):∀(rest:c8) (i2:Nat),aB.cv.drop i2=rest->iq aB aW k2 rest i2=some r->Ar Γ N f230 (.q [[none]] (D.bool r)) [1,1,1,0,1,0] (rest.length+1) (Ks aB aW (i2:Int)):=by
 intro rest
 induction rest with
 |nil=>
  intro i2 hd2 h;rw[iq]at h;refine aO fun N2 xo uz=>?_
  exact((aU.ge Action.c hd2).a [.hl 0 [] []]).ex hΓ xo (Cn h)
 |cons lV wu ih2=>
  intro i2 hd2 h;rw[iq]at h;refine aO fun N2 xo uz=>?_
  obtain⟨x70,h71,h⟩:=aD h;have tq:=((((aU.lt Action.c hd2).a [.n 26]).l (ax Action.c 3 (dc hd2) rfl)).l (dl Action.c 3 h71 rfl))
  obtain⟨h72,h⟩|⟨h72,h⟩:=aM h
  ·have h:=aG h;subst h;exact((tq.r 15 h72).T 1).ret hΓ
  ·obtain⟨MR,h74,h⟩:=aD h;have wm:=(((((((tq.r 4 h72).l (ax Action.c 3 (dc hd2) rfl)).r 6 h72).l (dl Action.c 3 h71 rfl)).r 3 h72).g (oJ h74)).r 2 h72)
   obtain⟨h75,h⟩|⟨h75,h⟩:=aM h
   ·have h:=aG h;subst h;exact(wm.b h75).ret hΓ
   ·exact((wm.b h75).a [.cn [2,3,58,59] [0,1]]).ct hΓ uz (iS hd2 hm2) (ih2 (i2+1) (dn hd2) h)
theorem Gd{aB:aN}{aW:aN}{r:Bool}(h:qy aB aW=some r):Good prog 230 [D.agg (aN.c aB),D.agg (aN.c aW)] (D.bool r):=by
 refine gd func230 [[none]] 92 fun hr Γ hΓ=>?_
 rw[qy]at h;obtain⟨h1,h⟩|⟨h1,h⟩:=aM h
 ·have h:=aG h;subst h;exact((aU.r 6 h1).T 17).ret hΓ
 ·have AR:=(aU.r 6 h1)
  obtain⟨h2,h⟩|⟨h2,h⟩:=aM h
  ·have h:=aG h;subst h;exact((AR.r 8 h2).T 9).ret hΓ
  ·have FG:=(AR.r 8 h2)
   obtain⟨h3,h⟩|⟨h3,h⟩:=aM h
   ·have h:=aG h;subst h;exact((FG.r 8 h3).T 1).ret hΓ
   ·have KR:=(FG.r 8 h3)
    obtain⟨h4,h⟩|⟨h4,h⟩:=aM h
    ·have h:=aG h;subst h;exact(KR.b h4).ret hΓ
    ·refine((KR.b h4).a [.cn [2,3,39,40] [0,1]]).lp hΓ (Ir hΓ (fun h=>?_) (by have:=(dY.sl (dY.agg (hr _ (aC (i:=0) rfl)) (.sl (aB.conds.map aQ.c)) (by simp))).1;simpa using this) aB.conds 0 rfl h);refine(aU.a [.cn [2,3,58,59] [0,1]]).lp hΓ (Is hΓ (fun h=>?_) (by have:=(dY.sl (dY.agg (hr _ (aC (i:=0) rfl)) (.sl (aB.cv.map Action.c)) (by simp))).1;simpa using this) aB.cv 0 rfl h);have h:=aG h;subst h;exact aU.ret hΓ
def mR(aB:ar)(aW:ar)(k1:Option Bool):ar->Nat->Option Bool
 | [],i1=>(k1)
 |bD::bZ,i1=>((mK aW (i1:Int)).bind fun x30=>((qy bD x30).bind fun BF=>(bif !(BF)then(some false)else(mR aB aW k1 bZ (i1+1)))))
def tC(aB:ar)(aW:ar):Option Bool:=(bif (((aB.map aN.c).length:Int):Int) != ((aW.map aN.c).length:Int)then(some false)else(mR aB aW (some true) aB 0))
def J0(aB:ar)(aW:ar)(cT:Int):St:=⟨[(0,D.sl (aB.map aN.c)),(1,D.sl (aW.map aN.c)),(12,D.int .i64 ((aB.map aN.c).length:Int)),(13,D.int .i64 cT)],[]⟩
theorem Gm(hΓ:Γ.nt=27){aB:ar}{aW:ar}{r:Bool}{k1:Option Bool}(cX:k1=some r->Ax Γ N f156 (.q [[none]] (D.bool r)) [1,1,1] ⟨[],[]⟩)(hm1:aB.length<=maxLen):∀(rest:ar) (i1:Nat),aB.drop i1=rest->mR aB aW k1 rest i1=some r->Ar Γ N f156 (.q [[none]] (D.bool r)) [1,1,0,1,0] (rest.length+1) (J0 aB aW (i1:Int)):=by
 intro rest
 induction rest with
 |nil=>
  intro i1 aj h;rw[mR]at h;refine aO fun N1 bz bg=>?_
  exact((aU.ge aN.c aj).a [.hl 0 [] []]).ex hΓ bz (cX h)
 |cons bD bZ ih1=>
  intro i1 aj h;rw[mR]at h;refine aO fun N1 bz bg=>?_
  obtain⟨x30,h31,h⟩:=aD h;obtain⟨BF,h33,h⟩:=aD h;have dJ:=(((((aU.lt aN.c aj).a [.n 8]).l (ax aN.c 4 (dc aj) rfl)).l (dl aN.c 4 h31 rfl)).g (Gd h33))
  obtain⟨h34,h⟩|⟨h34,h⟩:=aM h
  ·have h:=aG h;subst h;exact(dJ.b h34).ret hΓ
  ·exact((dJ.b h34).a [.cn [0,1,12,13] []]).ct hΓ bg (iS aj hm1) (ih1 (i1+1) (dn aj) h)
theorem zQ{aB:ar}{aW:ar}{r:Bool}(h:tC aB aW=some r):Good prog 156 [D.sl (aB.map aN.c),D.sl (aW.map aN.c)] (D.bool r):=by
 refine gd func156 [[none]] 27 fun hr Γ hΓ=>?_
 rw[tC]at h;obtain⟨h1,h⟩|⟨h1,h⟩:=aM h
 ·have h:=aG h;subst h;exact(aU.b h1).ret hΓ
 ·refine((aU.b h1).a [.cn [0,1,12,13] []]).lp hΓ (Gm hΓ (fun h=>?_) (by have:=(dY.sl (hr _ (aC (i:=0) rfl))).1;simpa using this) aB 0 rfl h);have h:=aG h;subst h;exact aU.ret hΓ
def nE(aB:bI)(aW:bI)(k1:Option Bool):bI->Nat->Option Bool
 | [],i1=>(k1)
 |bD::bZ,i1=>((mK aW (i1:Int)).bind fun x22=>(bif (bD:Int) != x22 then(some false)else(nE aB aW k1 bZ (i1+1))))
def uW(aB:bI)(aW:bI):Option Bool:=(bif (((aB.map dL).length:Int):Int) != ((aW.map dL).length:Int)then(some false)else(nE aB aW (some true) aB 0))
def L3(aB:bI)(aW:bI)(cT:Int):St:=⟨[(0,D.sl (aB.map dL)),(1,D.sl (aW.map dL)),(12,D.int .i64 ((aB.map dL).length:Int)),(13,D.int .i64 cT)],[]⟩
theorem Iy(hΓ:Γ.nt=26){aB:bI}{aW:bI}{r:Bool}{k1:Option Bool}(cX:k1=some r->Ax Γ N f157 (.q [[none]] (D.bool r)) [1,1,1] ⟨[],[]⟩)(hm1:aB.length<=maxLen):∀(rest:bI) (i1:Nat),aB.drop i1=rest->nE aB aW k1 rest i1=some r->Ar Γ N f157 (.q [[none]] (D.bool r)) [1,1,0,1,0] (rest.length+1) (L3 aB aW (i1:Int)):=by
 intro rest
 induction rest with
 |nil=>
  intro i1 aj h;rw[nE]at h;refine aO fun N1 bz bg=>?_
  exact((aU.ge dL aj).a [.hl 0 [] []]).ex hΓ bz (cX h)
 |cons bD bZ ih1=>
  intro i1 aj h;rw[nE]at h;refine aO fun N1 bz bg=>?_
  obtain⟨x22,h23,h⟩:=aD h;have dJ:=((((aU.lt dL aj).a [.n 8]).l (ax dL 1 (dc aj) rfl)).l (dl dL 1 h23 rfl))
  obtain⟨h24,h⟩|⟨h24,h⟩:=aM h
  ·have h:=aG h;subst h;exact(dJ.b h24).ret hΓ
  ·exact((dJ.b h24).a [.cn [0,1,12,13] []]).ct hΓ bg (iS aj hm1) (ih1 (i1+1) (dn aj) h)
theorem Gk{aB:bI}{aW:bI}{r:Bool}(h:uW aB aW=some r):Good prog 157 [D.sl (aB.map dL),D.sl (aW.map dL)] (D.bool r):=by
 refine gd func157 [[none]] 26 fun hr Γ hΓ=>?_
 rw[uW]at h;obtain⟨h1,h⟩|⟨h1,h⟩:=aM h
 ·have h:=aG h;subst h;exact(aU.b h1).ret hΓ
 ·refine((aU.b h1).a [.cn [0,1,12,13] []]).lp hΓ (Iy hΓ (fun h=>?_) (by have:=(dY.sl (hr _ (aC (i:=0) rfl))).1;simpa using this) aB 0 rfl h);have h:=aG h;subst h;exact aU.ret hΓ
def oq(aB:aE)(aW:aE):Option Bool:=(bif (aB.rel:Bytes)==aW.rel then((q9 aB.args aW.args).bind fun y2=>(some y2))else(some false))
theorem AE{aB:aE}{aW:aE}{r:Bool}(h:oq aB aW=some r):Good prog 231 [D.agg (aE.c aB),D.agg (aE.c aW)] (D.bool r):=by
 refine gd func231 [[none]] 17 fun hr Γ hΓ=>?_
 rw[oq]at h;obtain⟨h1,h⟩|⟨h1,h⟩:=aM h
 ·obtain⟨y2,h3,h⟩:=aD h;have h:=aG h;subst h;exact(((aU.r 5 h1).g (zR h3)).b h1).ret hΓ
 ·have h:=aG h;subst h;exact(aU.r 6 h1).ret hΓ
def mN(aB:aL)(aW:aL)(k1:Option Bool):aL->Nat->Option Bool
 | [],i1=>(k1)
 |bD::bZ,i1=>((mK aW (i1:Int)).bind fun x30=>((oq bD x30).bind fun BF=>(bif !(BF)then(some false)else(mN aB aW k1 bZ (i1+1)))))
def jO(aB:aL)(aW:aL):Option Bool:=(bif (((aB.map aE.c).length:Int):Int) != ((aW.map aE.c).length:Int)then(some false)else(mN aB aW (some true) aB 0))
def Iq(aB:aL)(aW:aL)(cT:Int):St:=⟨[(0,D.sl (aB.map aE.c)),(1,D.sl (aW.map aE.c)),(12,D.int .i64 ((aB.map aE.c).length:Int)),(13,D.int .i64 cT)],[]⟩
theorem Gc(hΓ:Γ.nt=27){aB:aL}{aW:aL}{r:Bool}{k1:Option Bool}(cX:k1=some r->Ax Γ N f158 (.q [[none]] (D.bool r)) [1,1,1] ⟨[],[]⟩)(hm1:aB.length<=maxLen):∀(rest:aL) (i1:Nat),aB.drop i1=rest->mN aB aW k1 rest i1=some r->Ar Γ N f158 (.q [[none]] (D.bool r)) [1,1,0,1,0] (rest.length+1) (Iq aB aW (i1:Int)):=by
 intro rest
 induction rest with
 |nil=>
  intro i1 aj h;rw[mN]at h;refine aO fun N1 bz bg=>?_
  exact((aU.ge aE.c aj).a [.hl 0 [] []]).ex hΓ bz (cX h)
 |cons bD bZ ih1=>
  intro i1 aj h;rw[mN]at h;refine aO fun N1 bz bg=>?_
  obtain⟨x30,h31,h⟩:=aD h;obtain⟨BF,h33,h⟩:=aD h;have dJ:=(((((aU.lt aE.c aj).a [.n 8]).l (ax aE.c 2 (dc aj) rfl)).l (dl aE.c 2 h31 rfl)).g (AE h33))
  obtain⟨h34,h⟩|⟨h34,h⟩:=aM h
  ·have h:=aG h;subst h;exact(dJ.b h34).ret hΓ
  ·exact((dJ.b h34).a [.cn [0,1,12,13] []]).ct hΓ bg (iS aj hm1) (ih1 (i1+1) (dn aj) h)
theorem vb{aB:aL}{aW:aL}{r:Bool}(h:jO aB aW=some r):Good prog 158 [D.sl (aB.map aE.c),D.sl (aW.map aE.c)] (D.bool r):=by
 refine gd func158 [[none]] 27 fun hr Γ hΓ=>?_
 rw[jO]at h;obtain⟨h1,h⟩|⟨h1,h⟩:=aM h
 ·have h:=aG h;subst h;exact(aU.b h1).ret hΓ
 ·refine((aU.b h1).a [.cn [0,1,12,13] []]).lp hΓ (Gc hΓ (fun h=>?_) (by have:=(dY.sl (hr _ (aC (i:=0) rfl))).1;simpa using this) aB 0 rfl h);have h:=aG h;subst h;exact aU.ret hΓ
def jd(aB:aT)(aW:aT)(k1:Option Bool):aT->Nat->Option Bool
 | [],i1=>(k1)
 |bD::bZ,i1=>((mK aW (i1:Int)).bind fun x22=>(bif !((bD.var:Bytes)==x22.var&&(bD.value:Bytes)==x22.value)then(some false)else(jd aB aW k1 bZ (i1+1))))
def q8(aB:aT)(aW:aT):Option Bool:=(bif (((aB.map aS.c).length:Int):Int) != ((aW.map aS.c).length:Int)then(some false)else(jd aB aW (some true) aB 0))
def Iz(aB:aT)(aW:aT)(cT:Int):St:=⟨[(0,D.sl (aB.map aS.c)),(1,D.sl (aW.map aS.c)),(12,D.int .i64 ((aB.map aS.c).length:Int)),(13,D.int .i64 cT)],[]⟩
theorem Gl(hΓ:Γ.nt=26){aB:aT}{aW:aT}{r:Bool}{k1:Option Bool}(cX:k1=some r->Ax Γ N f233 (.q [[none]] (D.bool r)) [1,1,1] ⟨[],[]⟩)(hm1:aB.length<=maxLen):∀(rest:aT) (i1:Nat),aB.drop i1=rest->jd aB aW k1 rest i1=some r->Ar Γ N f233 (.q [[none]] (D.bool r)) [1,1,0,1,0] (rest.length+1) (Iz aB aW (i1:Int)):=by
 intro rest
 induction rest with
 |nil=>
  intro i1 aj h;rw[jd]at h;refine aO fun N1 bz bg=>?_
  exact((aU.ge aS.c aj).a [.hl 0 [] []]).ex hΓ bz (cX h)
 |cons bD bZ ih1=>
  intro i1 aj h;rw[jd]at h;refine aO fun N1 bz bg=>?_
  obtain⟨x22,h23,h⟩:=aD h;have dJ:=((((aU.lt aS.c aj).a [.n 8]).l (ax aS.c 2 (dc aj) rfl)).l (dl aS.c 2 h23 rfl))
  obtain⟨h24,h⟩|⟨h24,h⟩:=aM h
  ·have h:=aG h;subst h;exact(dJ.b h24).ret hΓ
  ·exact((dJ.b h24).a [.cn [0,1,12,13] []]).ct hΓ bg (iS aj hm1) (ih1 (i1+1) (dn aj) h)
theorem Fe{aB:aT}{aW:aT}{r:Bool}(h:q8 aB aW=some r):Good prog 233 [D.sl (aB.map aS.c),D.sl (aW.map aS.c)] (D.bool r):=by
 refine gd func233 [[none]] 26 fun hr Γ hΓ=>?_
 rw[q8]at h;obtain⟨h1,h⟩|⟨h1,h⟩:=aM h
 ·have h:=aG h;subst h;exact(aU.b h1).ret hΓ
 ·refine((aU.b h1).a [.cn [0,1,12,13] []]).lp hΓ (Gl hΓ (fun h=>?_) (by have:=(dY.sl (hr _ (aC (i:=0) rfl))).1;simpa using this) aB 0 rfl h);have h:=aG h;subst h;exact aU.ret hΓ
def iz(aB:ah)(aW:ah)(k1:Option Bool):ah->Nat->Option Bool
 | [],i1=>(k1)
 |bD::bZ,i1=>((mK aW (i1:Int)).bind fun x42=>((jO bD.facts x42.facts).bind fun y44=>(bif !(y44)then(some false)else((q8 bD.bind x42.bind).bind fun y47=>(bif !(y47)then(some false)else(iz aB aW k1 bZ (i1+1)))))))
def oN(aB:ah)(aW:ah):Option Bool:=(bif (((aB.map aI.c).length:Int):Int) != ((aW.map aI.c).length:Int)then(some false)else(iz aB aW (some true) aB 0))
def Gp(aB:ah)(aW:ah)(cT:Int):St:=⟨[(0,D.sl (aB.map aI.c)),(1,D.sl (aW.map aI.c)),(12,D.int .i64 ((aB.map aI.c).length:Int)),(13,D.int .i64 cT)],[]⟩
theorem Ff(hΓ:Γ.nt=43){aB:ah}{aW:ah}{r:Bool}{k1:Option Bool}(cX:k1=some r->Ax Γ N f161 (.q [[none]] (D.bool r)) [1,1,1] ⟨[],[]⟩)(hm1:aB.length<=maxLen):∀(rest:ah) (i1:Nat),aB.drop i1=rest->iz aB aW k1 rest i1=some r->Ar Γ N f161 (.q [[none]] (D.bool r)) [1,1,0,1,0] (rest.length+1) (Gp aB aW (i1:Int)):=by
 intro rest
 induction rest with
 |nil=>
  intro i1 aj h;rw[iz]at h;refine aO fun N1 bz bg=>?_
  exact((aU.ge aI.c aj).a [.hl 0 [] []]).ex hΓ bz (cX h)
 |cons bD bZ ih1=>
  intro i1 aj h;rw[iz]at h;refine aO fun N1 bz bg=>?_
  obtain⟨x42,h43,h⟩:=aD h;obtain⟨y44,h45,h⟩:=aD h;have jb:=(((((aU.lt aI.c aj).a [.n 23]).l (ax aI.c 2 (dc aj) rfl)).l (dl aI.c 2 h43 rfl)).g (vb h45))
  obtain⟨h46,h⟩|⟨h46,h⟩:=aM h
  ·have h:=aG h;subst h;exact((jb.r 13 h46).T 1).ret hΓ
  ·obtain⟨y47,h48,h⟩:=aD h;have ia:=(((((((jb.r 3 h46).l (ax aI.c 2 (dc aj) rfl)).r 5 h46).l (dl aI.c 2 h43 rfl)).r 3 h46).g (Fe h48)).r 2 h46)
   obtain⟨h49,h⟩|⟨h49,h⟩:=aM h
   ·have h:=aG h;subst h;exact(ia.b h49).ret hΓ
   ·exact((ia.b h49).a [.cn [0,1,12,13] []]).ct hΓ bg (iS aj hm1) (ih1 (i1+1) (dn aj) h)
theorem Ea{aB:ah}{aW:ah}{r:Bool}(h:oN aB aW=some r):Good prog 161 [D.sl (aB.map aI.c),D.sl (aW.map aI.c)] (D.bool r):=by
 refine gd func161 [[none]] 43 fun hr Γ hΓ=>?_
 rw[oN]at h;obtain⟨h1,h⟩|⟨h1,h⟩:=aM h
 ·have h:=aG h;subst h;exact(aU.b h1).ret hΓ
 ·refine((aU.b h1).a [.cn [0,1,12,13] []]).lp hΓ (Ff hΓ (fun h=>?_) (by have:=(dY.sl (hr _ (aC (i:=0) rfl))).1;simpa using this) aB 0 rfl h);have h:=aG h;subst h;exact aU.ret hΓ
def ga(aB:aF)(aW:aF)(k1:Option Bool):b7->Nat->Option Bool
 | [],i1=>(k1)
 |bD::bZ,i1=>((mK aW.av (i1:Int)).bind fun x52=>((fR bD.shape x52.shape).bind fun Py=>(bif !(Py)then(some false)else((jO bD.facts x52.facts).bind fun y57=>(bif !(y57)then(some false)else(ga aB aW k1 bZ (i1+1)))))))
def gb(aB:aF)(aW:aF)(k2:Option Bool):ay->Nat->Option Bool
 | [],i2=>(k2)
 |lV::wu,i2=>((mK aW.nodes (i2:Int)).bind fun x108=>(bif (lV.parent:Int) != x108.parent then(some false)else(bif (lV.cP:Int) != x108.cP then(some false)else((kC lV.cond x108.cond).bind fun KE=>(bif !(KE)then(some false)else((oN lV.tokens x108.tokens).bind fun UN=>(bif !(UN)then(some false)else(gb aB aW k2 wu (i2+1)))))))))
def pF(aB:aF)(aW:aF):Option Bool:=((tC aB.rules aW.rules).bind fun y1=>(bif !(y1)then(some false)else((uW aB.ends aW.ends).bind fun y4=>(bif !(y4)then(some false)else((jO aB.facts aW.facts).bind fun y7=>(bif !(y7)then(some false)else(bif (((aB.av.map aP.c).length:Int):Int) != ((aW.av.map aP.c).length:Int)then(some false)else(bif (((aB.nodes.map Node.c).length:Int):Int) != ((aW.nodes.map Node.c).length:Int)then(some false)else(ga aB aW (gb aB aW (some true) aB.nodes 0) aB.av 0)))))))))
def ER(aB:aF)(aW:aF)(cT:Int):St:=⟨[(2,D.ptr 0 0),(3,D.ptr 1 0),(51,D.int .i64 ((aB.av.map aP.c).length:Int)),(52,D.int .i64 cT)],[Ob.box (aF.c aB),Ob.box (aF.c aW)]⟩
theorem Db(hΓ:Γ.nt=131){aB:aF}{aW:aF}{r:Bool}{k1:Option Bool}(cX:k1=some r->Ax Γ N f91 (.q [[none]] (D.bool r)) [1,1,1] ⟨[(2,D.ptr 0 0),(3,D.ptr 1 0)],[Ob.box (aF.c aB),Ob.box (aF.c aW)]⟩)(hm1:aB.av.length<=maxLen):∀(rest:b7) (i1:Nat),aB.av.drop i1=rest->ga aB aW k1 rest i1=some r->Ar Γ N f91 (.q [[none]] (D.bool r)) [1,1,0,1,0] (rest.length+1) (ER aB aW (i1:Int)):=by
 intro rest
 induction rest with
 |nil=>
  intro i1 aj h;rw[ga]at h;refine aO fun N1 bz bg=>?_
  exact((aU.ge aP.c aj).a [.hl 0 [2,3] [0,1]]).ex hΓ bz (cX h)
 |cons bD bZ ih1=>
  intro i1 aj h;rw[ga]at h;refine aO fun N1 bz bg=>?_
  obtain⟨x52,h53,h⟩:=aD h;obtain⟨Py,h55,h⟩:=aD h;have AR:=(((((aU.lt aP.c aj).a [.n 27]).l (ax aP.c 3 (dc aj) rfl)).l (dl aP.c 3 h53 rfl)).g (oJ h55))
  obtain⟨h56,h⟩|⟨h56,h⟩:=aM h
  ·have h:=aG h;subst h;exact((AR.r 15 h56).T 1).ret hΓ
  ·obtain⟨y57,h58,h⟩:=aD h;have FG:=(((((((AR.r 4 h56).l (ax aP.c 3 (dc aj) rfl)).r 6 h56).l (dl aP.c 3 h53 rfl)).r 3 h56).g (vb h58)).r 2 h56)
   obtain⟨h59,h⟩|⟨h59,h⟩:=aM h
   ·have h:=aG h;subst h;exact(FG.b h59).ret hΓ
   ·exact((FG.b h59).a [.cn [2,3,51,52] [0,1]]).ct hΓ bg (iS aj hm1) (ih1 (i1+1) (dn aj) h)
def ES(aB:aF)(aW:aF)(cT:Int):St:=⟨[(2,D.ptr 0 0),(3,D.ptr 1 0),(88,D.int .i64 ((aB.nodes.map Node.c).length:Int)),(89,D.int .i64 cT)],[Ob.box (aF.c aB),Ob.box (aF.c aW)]⟩
theorem Dc(hΓ:Γ.nt=131){aB:aF}{aW:aF}{r:Bool}{k2:Option Bool}(Cn:k2=some r->Ax Γ N f91 (.q [[none]] (D.bool r)) [1,1,1,1] ⟨[],[]⟩)(hm2:aB.nodes.length<=maxLen):∀(rest:ay) (i2:Nat),aB.nodes.drop i2=rest->gb aB aW k2 rest i2=some r->Ar Γ N f91 (.q [[none]] (D.bool r)) [1,1,1,0,1,0] (rest.length+1) (ES aB aW (i2:Int)):=by
 intro rest
 induction rest with
 |nil=>
  intro i2 hd2 h;rw[gb]at h;refine aO fun N2 xo uz=>?_
  exact((aU.ge Node.c hd2).a [.hl 0 [] []]).ex hΓ xo (Cn h)
 |cons lV wu ih2=>
  intro i2 hd2 h;rw[gb]at h;refine aO fun N2 xo uz=>?_
  obtain⟨x108,h109,h⟩:=aD h;have KR:=((((aU.lt Node.c hd2).a [.n 13]).l (ax Node.c 8 (dc hd2) rfl)).l (dl Node.c 8 h109 rfl))
  obtain⟨h110,h⟩|⟨h110,h⟩:=aM h
  ·have h:=aG h;subst h;exact((KR.r 6 h110).T 15).ret hΓ
  ·have AQ:=(KR.r 6 h110)
   obtain⟨h111,h⟩|⟨h111,h⟩:=aM h
   ·have h:=aG h;subst h;exact((AQ.r 7 h111).T 8).ret hΓ
   ·obtain⟨KE,h113,h⟩:=aD h;have IB:=(((AQ.r 5 h111).g (wM h113)).r 2 h111)
    obtain⟨h114,h⟩|⟨h114,h⟩:=aM h
    ·have h:=aG h;subst h;exact((IB.r 7 h114).T 1).ret hΓ
    ·obtain⟨UN,h116,h⟩:=aD h;have BU:=(((IB.r 5 h114).g (Ea h116)).r 2 h114)
     obtain⟨h117,h⟩|⟨h117,h⟩:=aM h
     ·have h:=aG h;subst h;exact(BU.b h117).ret hΓ
     ·exact((BU.b h117).a [.cn [2,3,88,89] [0,1]]).ct hΓ uz (iS hd2 hm2) (ih2 (i2+1) (dn hd2) h)
theorem D3{aB:aF}{aW:aF}{r:Bool}(h:pF aB aW=some r):Good prog 91 [D.agg (aF.c aB),D.agg (aF.c aW)] (D.bool r):=by
 refine gd func91 [[none]] 131 fun hr Γ hΓ=>?_
 rw[pF]at h;obtain⟨y1,h2,h⟩:=aD h;obtain⟨h3,h⟩|⟨h3,h⟩:=aM h
 ·have h:=aG h;subst h;exact(((aU.g (zQ h2)).r 7 h3).T 24).ret hΓ
 ·obtain⟨y4,h5,h⟩:=aD h;have IC:=((((aU.g (zQ h2)).r 5 h3).g (Gk h5)).r 2 h3)
  obtain⟨h6,h⟩|⟨h6,h⟩:=aM h
  ·have h:=aG h;subst h;exact((IC.r 7 h6).T 17).ret hΓ
  ·obtain⟨y7,h8,h⟩:=aD h;have ID:=(((IC.r 5 h6).g (vb h8)).r 2 h6)
   obtain⟨h9,h⟩|⟨h9,h⟩:=aM h
   ·have h:=aG h;subst h;exact((ID.r 8 h9).T 9).ret hΓ
   ·have RJ:=(ID.r 8 h9)
    obtain⟨h10,h⟩|⟨h10,h⟩:=aM h
    ·have h:=aG h;subst h;exact((RJ.r 8 h10).T 1).ret hΓ
    ·have RM:=(RJ.r 8 h10)
     obtain⟨h11,h⟩|⟨h11,h⟩:=aM h
     ·have h:=aG h;subst h;exact(RM.b h11).ret hΓ
     ·refine((RM.b h11).a [.cn [2,3,51,52] [0,1]]).lp hΓ (Db hΓ (fun h=>?_) (by have:=(dY.sl (dY.agg (hr _ (aC (i:=0) rfl)) (.sl (aB.av.map aP.c)) (by simp))).1;simpa using this) aB.av 0 rfl h);refine(aU.a [.cn [2,3,88,89] [0,1]]).lp hΓ (Dc hΓ (fun h=>?_) (by have:=(dY.sl (dY.agg (hr _ (aC (i:=0) rfl)) (.sl (aB.nodes.map Node.c)) (by simp))).1;simpa using this) aB.nodes 0 rfl h);have h:=aG h;subst h;exact aU.ret hΓ
def py(aB:aF):Option Bool:=((uQ aB.rules).bind fun y1=>(bif y1 then((qx aB.facts).bind fun y4=>(bif y4 then(bif decide ((aB.bw:Int)>=0)then((uD aB.rules aB.facts 0).bind fun y8=>((pF aB y8).bind fun DK=>(some DK)))else(some false))else(some false)))else(some false)))
theorem qj{aB:aF}{r:Bool}(h:py aB=some r):Good prog 39 [D.agg (aF.c aB)] (D.bool r):=by
 refine gd func39 [[none]] 25 fun hr Γ hΓ=>?_
 rw[py]at h;obtain⟨y1,h2,h⟩:=aD h;have kF:=((aU.a [.n 20]).g (GU h2))
 obtain⟨h3,h⟩|⟨h3,h⟩:=aM h
 ·obtain⟨y4,h5,h⟩:=aD h;have dJ:=(((kF.r 3 h3).g (wJ h5)).b h3)
  obtain⟨h6,h⟩|⟨h6,h⟩:=aM h
  ·have jb:=(dJ.r 4 h6)
   obtain⟨h7,h⟩|⟨h7,h⟩:=aM h
   ·obtain⟨y8,h9,h⟩:=aD h;obtain⟨DK,h11,h⟩:=aD h;have h:=aG h;subst h;exact(((((jb.r 6 h7).g (yt h9)).b h7).g (D3 h11)).b h7).ret hΓ
   ·have h:=aG h;subst h;exact(jb.r 8 h7).ret hΓ
  ·have h:=aG h;subst h;exact((dJ.r 4 h6).F 8).ret hΓ
 ·have h:=aG h;subst h;exact((kF.r 4 h3).F 12).ret hΓ
def kI(aB:aL)(aW:aE)(k1:Option Int):aL->Nat->Option Int
 | [],i1=>(k1)
 |bD::bZ,i1=>((oq bD aW).bind fun Ri=>(bif Ri then(some (i1:Int))else(kI aB aW k1 bZ (i1+1))))
def uR(aB:aL)(aW:aE):Option Int:=(kI aB aW (some (-1)) aB 0)
def Ko(aB:aL)(aW:aE)(cT:Int):St:=⟨[(3,D.ptr 0 0),(7,D.sl (aB.map aE.c)),(8,D.int .i64 ((aB.map aE.c).length:Int)),(9,D.int .i64 cT)],[Ob.box (aE.c aW)]⟩
theorem Ik(hΓ:Γ.nt=19){aB:aL}{aW:aE}{r:Int}{k1:Option Int}(cX:k1=some r->Ax Γ N f237 (.q [[none]] (D.int .i64 r)) [1,1] ⟨[],[]⟩)(hm1:aB.length<=maxLen):∀(rest:aL) (i1:Nat),aB.drop i1=rest->kI aB aW k1 rest i1=some r->Ar Γ N f237 (.q [[none]] (D.int .i64 r)) [1,0,1,0] (rest.length+1) (Ko aB aW (i1:Int)):=by
 intro rest
 induction rest with
 |nil=>
  intro i1 aj h;rw[kI]at h;refine aO fun N1 bz bg=>?_
  exact((aU.ge aE.c aj).a [.hl 0 [] []]).ex hΓ bz (cX h)
 |cons bD bZ ih1=>
  intro i1 aj h;rw[kI]at h;refine aO fun N1 bz bg=>?_
  obtain⟨Ri,h22,h⟩:=aD h;have dJ:=(((aU.lt aE.c aj).l (ax aE.c 2 (dc aj) rfl)).g (AE h22))
  obtain⟨h23,h⟩|⟨h23,h⟩:=aM h
  ·cases h;exact(dJ.b h23).ret hΓ
  ·exact((dJ.b h23).a [.cn [3,7,8,9] [0]]).ct hΓ bg (iS aj hm1) (ih1 (i1+1) (dn aj) h)
theorem GW{aB:aL}{aW:aE}{r:Int}(h:uR aB aW=some r):Good prog 237 [D.sl (aB.map aE.c),D.agg (aE.c aW)] (D.int .i64 r):=by
 refine gd func237 [[none]] 19 fun hr Γ hΓ=>?_
 rw[uR]at h;refine(aU.a [.cn [3,7,8,9] [0]]).lp hΓ (Ik hΓ (fun h=>?_) (by have:=(dY.sl (hr _ (aC (i:=0) rfl))).1;simpa using this) aB 0 rfl h);cases h;exact aU.ret hΓ
def dP(aB:aL)(aW:aE)(k1:Bool->aL->Option aL):aL->Nat->Bool->aL->Option aL
 | [],i1,jy,bu=>(k1 jy bu)
 |bD::bZ,i1,jy,bu=>(bif !(jy)then((fp bD aW).bind fun y93=>(bif decide ((y93:Int)>0)then((eF aW).bind fun ZD=>(bif room ((bu.map aE.c).length+([[D.str ZD.rel,D.sl (ZD.args.map tx)]]).length) 40 then((eF bD).bind fun y99=>(bif room (((bu.map aE.c)++([[D.str ZD.rel,D.sl (ZD.args.map tx)]])).length+([[D.str y99.rel,D.sl (y99.args.map tx)]]).length) 40 then(dP aB aW k1 bZ (i1+1) true ((bu++([ZD]))++([y99])))else none))else none))else((eF bD).bind fun Px=>(bif room ((bu.map aE.c).length+([[D.str Px.rel,D.sl (Px.args.map tx)]]).length) 40 then(dP aB aW k1 bZ (i1+1) jy (bu++([Px])))else none))))else((eF bD).bind fun Y2=>(bif room ((bu.map aE.c).length+([[D.str Y2.rel,D.sl (Y2.args.map tx)]]).length) 40 then(dP aB aW k1 bZ (i1+1) jy (bu++([Y2])))else none)))
def wO(aB:aL)(aW:aE):Option aL:=(dP aB aW (fun(zk:Bool) (tj:aL)=>(bif !(zk)then((eF aW).bind fun a0f=>(bif room ((tj.map aE.c).length+([[D.str a0f.rel,D.sl (a0f.args.map tx)]]).length) 40 then(some (tj++([a0f])))else none))else(some tj))) aB 0 false ([]:aL))
def w9(aB:aL)(aW:aE)(jy:Bool)(W1:List aR)(cT:Int):St:=⟨[(3,D.ptr 0 0),(5,D.acc 1),(6,D.bool jy),(9,D.sl (aB.map aE.c)),(10,D.int .i64 ((aB.map aE.c).length:Int)),(11,D.int .i64 cT)],[Ob.box (aE.c aW),Ob.row .uq 53 2 W1]⟩
theorem Kz(hΓ:Γ.nt=42){aB:aL}{aW:aE}{r:aL}{k1:Bool->aL->Option aL}(cX:∀(zk:Bool) (tj:aL),k1 zk tj=some r->Ax Γ N f240 (.q [[some (53,2)]] (D.fr 53 2 (r.map aE.c))) [1,1,1,1] ⟨[(3,D.ptr 0 0),(5,D.acc 1),(6,D.bool zk)],[Ob.box (aE.c aW),Ob.row .uq 53 2 (tj.map aE.c)]⟩)(hm1:aB.length<=maxLen):∀(rest:aL) (i1:Nat) (jy:Bool) (bu:aL),aB.drop i1=rest->dP aB aW k1 rest i1 jy bu=some r->Ar Γ N f240 (.q [[some (53,2)]] (D.fr 53 2 (r.map aE.c))) [1,1,1,0,1,0] (rest.length+1) (w9 aB aW jy (bu.map aE.c) (i1:Int)):=by
 intro rest
 induction rest with
 |nil=>
  intro i1 jy bu aj h;rw[dP]at h;refine aO fun N1 bz bg=>?_
  exact((aU.ge aE.c aj).a [.hl 0 [3,5,6] [0,1]]).ex hΓ bz (cX jy bu h)
 |cons bD bZ ih1=>
  intro i1 jy bu aj h;rw[dP]at h;refine aO fun N1 bz bg=>?_
  have jb:=((aU.lt aE.c aj).l (ax aE.c 2 (dc aj) rfl))
  obtain⟨h92,h⟩|⟨h92,h⟩:=aM h
  ·obtain⟨y93,h94,h⟩:=aD h;have ia:=(((jb.r 3 h92).g (rq h94)).r 2 h92)
   obtain⟨h95,h⟩|⟨h95,h⟩:=aM h
   ·obtain⟨ZD,h97,h⟩:=aD h;obtain⟨h98,h⟩:=bV h;obtain⟨y99,h100,h⟩:=aD h;obtain⟨h101,h⟩:=bV h;exact((((((ia.b h95).g (gS h97)).w (cB h98)).g (gS h100)).w (cB h101)).a [.cn [3,5,6,9,10,11] [0,8]]).cs hΓ bg (w9 aB aW true (((bu.map aE.c)++([[D.str ZD.rel,D.sl (ZD.args.map tx)]]))++([[D.str y99.rel,D.sl (y99.args.map tx)]])) (IntKind.i64.wrap ((i1:Int)+1))) (by first| (simp only[iS aj hm1,mA]<;>rfl)| (simp only[iS aj hm1,mA,aE.c,aS.c,aQ.c,Action.c,aN.c,aI.c,cu.c,aP.c,Node.c,aF.c,cw.c]<;>rfl)) (ih1 (i1+1) true ((bu++([ZD]))++([y99])) (dn aj) h)
   ·obtain⟨Px,h103,h⟩:=aD h;obtain⟨h104,h⟩:=bV h;exact((((ia.b h95).g (gS h103)).w (cB h104)).a [.cn [3,5,6,9,10,11] [0,5]]).cs hΓ bg (w9 aB aW jy ((bu.map aE.c)++([[D.str Px.rel,D.sl (Px.args.map tx)]])) (IntKind.i64.wrap ((i1:Int)+1))) (by first| (simp only[iS aj hm1,mA]<;>rfl)| (simp only[iS aj hm1,mA,aE.c,aS.c,aQ.c,Action.c,aN.c,aI.c,cu.c,aP.c,Node.c,aF.c,cw.c]<;>rfl)) (ih1 (i1+1) jy (bu++([Px])) (dn aj) h)
  ·obtain⟨Y2,h106,h⟩:=aD h;obtain⟨h107,h⟩:=bV h;exact(((((jb.r 5 h92).F 1).g (gS h106)).w (cB h107)).a [.cn [3,5,6,9,10,11] [0,5]]).cs hΓ bg (w9 aB aW jy ((bu.map aE.c)++([[D.str Y2.rel,D.sl (Y2.args.map tx)]])) (IntKind.i64.wrap ((i1:Int)+1))) (by first| (simp only[iS aj hm1,mA]<;>rfl)| (simp only[iS aj hm1,mA,aE.c,aS.c,aQ.c,Action.c,aN.c,aI.c,cu.c,aP.c,Node.c,aF.c,cw.c]<;>rfl)) (ih1 (i1+1) jy (bu++([Y2])) (dn aj) h)
theorem Ix{aB:aL}{aW:aE}{r:aL}(h:wO aB aW=some r):Good prog 240 [D.sl (aB.map aE.c),D.agg (aE.c aW)] (D.fr 53 2 (r.map aE.c)):=by
 refine gd func240 [[some (53,2)]] 42 fun hr Γ hΓ=>?_
 rw[wO]at h;refine(aU.a [.Pt 5,.cn [3,5,6,9,10,11] [0,1]]).lp hΓ (Kz hΓ (fun zk tj h=>?_) (by have:=(dY.sl (hr _ (aC (i:=0) rfl))).1;simpa using this) aB 0 false ([]:aL) rfl h);obtain⟨h108,h⟩|⟨h108,h⟩:=aM h
 ·obtain⟨a0f,h110,h⟩:=aD h;obtain⟨h111,h⟩:=bV h;cases h;exact(((aU.b h108).g (gS h110)).w (cB h111)).rts hΓ (D.fr 53 2 ((tj.map aE.c)++([[D.str a0f.rel,D.sl (a0f.args.map tx)]]))) (by first|rfl| (simp only[mA]<;>rfl)| (simp only[cW,mA]<;>rfl))
 ·have h:=aG h;subst h;exact(aU.b h108).ret hΓ
def wI(aB:aL)(aW:aE):Option (aL×Bool):=((qx aB).bind fun y1=>(bif !(y1)then((cz aB).bind fun y4=>(some (y4,false)))else((pS aW).bind fun y6=>(bif !(y6)then((cz aB).bind fun y9=>(some (y9,false)))else((uR aB aW).bind fun WG=>(bif decide ((WG:Int)>=0)then((cz aB).bind fun WH=>(some (WH,false)))else(bif decide ((((aB.map aE.c).length:Int):Int)>=24)then((cz aB).bind fun UP=>(some (UP,false)))else((wO aB aW).bind fun y19=>(some (y19,true))))))))))
theorem B0{aB:aL}{aW:aE}{r:aL×Bool}(h:wI aB aW=some r):Good prog 171 [D.sl (aB.map aE.c),D.agg (aE.c aW)] (D.gZ [D.fr 53 2 (r.1.map aE.c),D.bool r.2]):=by
 refine gd func171 [[some (53,2)],[none]] 30 fun hr Γ hΓ=>?_
 rw[wI]at h;obtain⟨y1,h2,h⟩:=aD h;obtain⟨h3,h⟩|⟨h3,h⟩:=aM h
 ·obtain⟨y4,h5,h⟩:=aD h;cases h;exact((((aU.g (wJ h2)).r 4 h3).T 10).g (er h5)).ret hΓ
 ·obtain⟨y6,h7,h⟩:=aD h;have kF:=((((aU.g (wJ h2)).r 2 h3).g (yH h7)).r 2 h3)
  obtain⟨h8,h⟩|⟨h8,h⟩:=aM h
  ·obtain⟨y9,h10,h⟩:=aD h;cases h;exact(((kF.r 5 h8).T 5).g (er h10)).ret hΓ
  ·obtain⟨WG,h12,h⟩:=aD h;have dJ:=(((kF.r 3 h8).g (GW h12)).r 2 h8)
   obtain⟨h13,h⟩|⟨h13,h⟩:=aM h
   ·obtain⟨WH,h15,h⟩:=aD h;cases h;exact(((dJ.r 4 h13).T 1).g (er h15)).ret hΓ
   ·have jb:=(dJ.r 4 h13)
    obtain⟨h16,h⟩|⟨h16,h⟩:=aM h
    ·obtain⟨UP,h18,h⟩:=aD h;cases h;exact((jb.b h16).g (er h18)).ret hΓ
    ·obtain⟨y19,h20,h⟩:=aD h;cases h;exact((jb.b h16).g (Ix h20)).ret hΓ
def eZ(aB:aL)(aW:aL)(k1:Option Int):aL->Nat->Option Int
 | [],i1=>(k1)
 |bD::bZ,i1=>(bif decide (((i1:Int):Int)<((aW.map aE.c).length:Int))then((mK aW (i1:Int)).bind fun x34=>((fp bD x34).bind fun FB=>(bif (FB:Int) != 0 then(some FB)else(eZ aB aW k1 bZ (i1+1)))))else(k1))
def oK(aB:aL)(aW:aL):Option Int:=(eZ aB aW ((ir ((aB.map aE.c).length:Int) ((aW.map aE.c).length:Int)).bind fun O9=>(some O9)) aB 0)
def Bv(aB:aL)(aW:aL)(cT:Int):St:=⟨[(0,D.sl (aB.map aE.c)),(1,D.sl (aW.map aE.c)),(5,D.int .i64 cT)],[]⟩
theorem BP(hΓ:Γ.nt=36){aB:aL}{aW:aL}{r:Int}{k1:Option Int}(cX:k1=some r->Ax Γ N f282 (.q [[none]] (D.int .i64 r)) [1,1] ⟨[(0,D.sl (aB.map aE.c)),(1,D.sl (aW.map aE.c))],[]⟩)(hm1:aB.length<=maxLen):∀(rest:aL) (i1:Nat),aB.drop i1=rest->eZ aB aW k1 rest i1=some r->Ar Γ N f282 (.q [[none]] (D.int .i64 r)) [1,0,1,0] (rest.length+1) (Bv aB aW (i1:Int)):=by
 intro rest
 induction rest with
 |nil=>
  intro i1 aj h;rw[eZ]at h;refine aO fun N1 bz bg=>?_
  exact(((((((aU.ge aE.c aj).ge aE.c aj).ge aE.c aj).ge aE.c aj).ge aE.c aj).F 1).a [.hl 0 [0,1] []]).ex hΓ bz (cX h)
 |cons bD bZ ih1=>
  intro i1 aj h;rw[eZ]at h;refine aO fun N1 bz bg=>?_
  have jb:=(((((aU.lt aE.c aj).lt aE.c aj).lt aE.c aj).lt aE.c aj).lt aE.c aj)
  obtain⟨h33,h⟩|⟨h33,h⟩:=aM h
  ·obtain⟨x34,h35,h⟩:=aD h;obtain⟨FB,h37,h⟩:=aD h;have ia:=(((((jb.b h33).a [.n 8]).l (ax aE.c 2 (dc aj) rfl)).l (dl aE.c 2 h35 rfl)).g (rq h37))
   obtain⟨h38,h⟩|⟨h38,h⟩:=aM h
   ·have h:=aG h;subst h;exact(ia.b h38).ret hΓ
   ·exact((ia.b h38).a [.cn [0,1,5] []]).ct hΓ bg (iS aj hm1) (ih1 (i1+1) (dn aj) h)
  ·exact((jb.b h33).a [.hl 0 [0,1] []]).ex hΓ bz (cX h)
theorem Al{aB:aL}{aW:aL}{r:Int}(h:oK aB aW=some r):Good prog 282 [D.sl (aB.map aE.c),D.sl (aW.map aE.c)] (D.int .i64 r):=by
 refine gd func282 [[none]] 36 fun hr Γ hΓ=>?_
 rw[oK]at h;refine(aU.a [.cn [0,1,5] []]).lp hΓ (BP hΓ (fun h=>?_) (by have:=(dY.sl (hr _ (aC (i:=0) rfl))).1;simpa using this) aB 0 rfl h);obtain⟨O9,h40,h⟩:=aD h;have h:=aG h;subst h;exact(aU.g (sx h40)).ret hΓ
def o8(aB:aI)(aW:aI):Option Int:=((oK aB.facts aW.facts).bind fun y1=>(some y1))
theorem CX{aB:aI}{aW:aI}{r:Int}(h:o8 aB aW=some r):Good prog 271 [D.agg (aI.c aB),D.agg (aI.c aW)] (D.int .i64 r):=by
 refine gd func271 [[none]] 10 fun hr Γ hΓ=>?_
 rw[o8]at h;obtain⟨y1,h2,h⟩:=aD h;have h:=aG h;subst h;exact(aU.g (Al h2)).ret hΓ
def kO(aB:ah)(aW:aI)(k1:Option Bool):ah->Nat->Option Bool
 | [],i1=>(k1)
 |bD::bZ,i1=>((o8 bD aW).bind fun Ri=>(bif (Ri:Int)==0 then(some true)else(kO aB aW k1 bZ (i1+1))))
def uV(aB:ah)(aW:aI):Option Bool:=(kO aB aW (some false) aB 0)
def Ky(aB:ah)(aW:aI)(cT:Int):St:=⟨[(3,D.ptr 0 0),(7,D.sl (aB.map aI.c)),(8,D.int .i64 ((aB.map aI.c).length:Int)),(9,D.int .i64 cT)],[Ob.box (aI.c aW)]⟩
theorem Iw(hΓ:Γ.nt=18){aB:ah}{aW:aI}{r:Bool}{k1:Option Bool}(cX:k1=some r->Ax Γ N f238 (.q [[none]] (D.bool r)) [1,1] ⟨[],[]⟩)(hm1:aB.length<=maxLen):∀(rest:ah) (i1:Nat),aB.drop i1=rest->kO aB aW k1 rest i1=some r->Ar Γ N f238 (.q [[none]] (D.bool r)) [1,0,1,0] (rest.length+1) (Ky aB aW (i1:Int)):=by
 intro rest
 induction rest with
 |nil=>
  intro i1 aj h;rw[kO]at h;refine aO fun N1 bz bg=>?_
  exact((aU.ge aI.c aj).a [.hl 0 [] []]).ex hΓ bz (cX h)
 |cons bD bZ ih1=>
  intro i1 aj h;rw[kO]at h;refine aO fun N1 bz bg=>?_
  obtain⟨Ri,h22,h⟩:=aD h;have dJ:=(((aU.lt aI.c aj).l (ax aI.c 2 (dc aj) rfl)).g (CX h22))
  obtain⟨h23,h⟩|⟨h23,h⟩:=aM h
  ·have h:=aG h;subst h;exact(dJ.b h23).ret hΓ
  ·exact((dJ.b h23).a [.cn [3,7,8,9] [0]]).ct hΓ bg (iS aj hm1) (ih1 (i1+1) (dn aj) h)
theorem Gj{aB:ah}{aW:aI}{r:Bool}(h:uV aB aW=some r):Good prog 238 [D.sl (aB.map aI.c),D.agg (aI.c aW)] (D.bool r):=by
 refine gd func238 [[none]] 18 fun hr Γ hΓ=>?_
 rw[uV]at h;refine(aU.a [.cn [3,7,8,9] [0]]).lp hΓ (Iw hΓ (fun h=>?_) (by have:=(dY.sl (hr _ (aC (i:=0) rfl))).1;simpa using this) aB 0 rfl h);have h:=aG h;subst h;exact aU.ret hΓ
def jw(aB:aF)(cY:aE)(y3:aF×Unit)(mj:Int)(i1:Nat)(bD:Node)(x313:Node)(k2:Int->Int->Option aF):ah->Nat->Int->Int->Option aF
 | [],i2,Cu,Cv=>(k2 Cu Cv)
 |lV::wu,i2,Cu,Cv=>((mK aB.nodes bD.parent).bind fun x359=>((uV x359.tokens lV).bind fun aBc=>(bif aBc then(jw aB cY y3 mj i1 bD x313 k2 wu (i2+1) (IntKind.i64.wrap (Cu+1)) Cv)else(jw aB cY y3 mj i1 bD x313 k2 wu (i2+1) Cu (IntKind.i64.wrap (Cv+1))))))
def fI(aB:aF)(cY:aE)(y3:aF×Unit)(k1:Int->Option aF):ay->Nat->Int->Option aF
 | [],i1,mj=>(k1 mj)
 |bD::bZ,i1,mj=>(bif ((i1:Int):Int)==0 then(fI aB cY y3 k1 bZ (i1+1) mj)else((mK y3.1.nodes bD.parent).bind fun x313=>(bif decide (x313.tokens.length<=maxLen)then(jw aB cY y3 mj i1 bD x313 (fun(T4:Int) (Kc:Int)=>(bif decide ((bD.cP:Int)<0)then(fI aB cY y3 k1 bZ (i1+1) (IntKind.i64.wrap (mj+Kc)))else((mK y3.1.av bD.cP).bind fun x365=>((jN x365.shape cY ([])).bind fun a0h=>(bif a0h.2 then(fI aB cY y3 k1 bZ (i1+1) (IntKind.i64.wrap ((IntKind.i64.wrap (mj+(IntKind.i64.wrap (Kc*((x365.facts.map aE.c).length:Int)))))+T4)))else(fI aB cY y3 k1 bZ (i1+1) (IntKind.i64.wrap (mj+(IntKind.i64.wrap (Kc*((x365.facts.map aE.c).length:Int))))))))))) x313.tokens 0 0 0)else none)))
def wN(aB:aF)(aW:aL)(cY:aE):Option aF:=((iv aB).bind fun y1=>((jJ y1 aW).bind fun y3=>(bif decide (y3.1.nodes.length<=maxLen)then(fI aB cY y3 (fun(mE:Int)=>(some (⟨y3.1.rules,y3.1.ends,y3.1.av,y3.1.nodes,y3.1.facts,mE⟩:aF))) y3.1.nodes 0 y3.1.bw)else none)))
def Mo(aB:aF)(cY:aE)(y3:aF×Unit)(mj:Int)(cT:Int):St:=⟨[(3,D.ptr 0 0),(5,D.ptr 1 0),(6,D.ptr 2 0),(7,D.ptr 3 0),(22,D.acc 4),(23,D.int .i64 ((y3.1.nodes.map Node.c).length:Int)),(24,D.int .i64 cT)],[Ob.box (aF.c aB),Ob.box (aE.c cY),Ob.box [D.nil,D.nil,D.nil,D.nil,D.nil,D.int .i64 0],Ob.box [D.acc 5,D.acc 6,D.acc 7,D.acc 4,D.acc 8,D.int .i64 mj],Ob.row .uq 118 8 (y3.1.nodes.map Node.c),Ob.row .uq 105 4 (y3.1.rules.map aN.c),Ob.row .uq 3 1 (y3.1.ends.map dL),Ob.row .uq 111 3 (y3.1.av.map aP.c),Ob.row .uq 53 2 (y3.1.facts.map aE.c)]⟩
def Mp(aB:aF)(cY:aE)(y3:aF×Unit)(mj:Int)(i1:Nat)(bD:Node)(x313:Node)(Cu:Int)(Cv:Int)(cT:Int):St:=⟨[(3,D.ptr 0 0),(5,D.ptr 1 0),(6,D.ptr 2 0),(7,D.ptr 3 0),(9,D.ptr 4 0),(10,D.int .i64 Cu),(11,D.int .i64 Cv),(22,D.acc 5),(23,D.int .i64 ((y3.1.nodes.map Node.c).length:Int)),(24,D.int .i64 (i1:Int)),(37,D.sl (x313.tokens.map aI.c)),(38,D.int .i64 ((x313.tokens.map aI.c).length:Int)),(39,D.int .i64 cT)],[Ob.box (aF.c aB),Ob.box (aE.c cY),Ob.box [D.nil,D.nil,D.nil,D.nil,D.nil,D.int .i64 0],Ob.box [D.acc 6,D.acc 7,D.acc 8,D.acc 5,D.acc 9,D.int .i64 mj],Ob.box [D.int .i64 bD.parent,D.int .i64 bD.cond.kind,D.str bD.cond.pat.rel,D.sl (bD.cond.pat.args.map tx),D.str bD.cond.left,D.str bD.cond.right,D.int .i64 bD.cP,D.sl (bD.tokens.map aI.c)],Ob.row .uq 118 8 (y3.1.nodes.map Node.c),Ob.row .uq 105 4 (y3.1.rules.map aN.c),Ob.row .uq 3 1 (y3.1.ends.map dL),Ob.row .uq 111 3 (y3.1.av.map aP.c),Ob.row .uq 53 2 (y3.1.facts.map aE.c)]⟩
theorem Kv(hΓ:Γ.nt=95){aB:aF}{cY:aE}{y3:aF×Unit}{mj:Int}{i1:Nat}{bD:Node}{x313:Node}{r:aF}{k2:Int->Int->Option aF}(Cn:∀(T4:Int) (Kc:Int),k2 T4 Kc=some r->Ax Γ N f169 (.q [[some (105,4),some (3,1),some (111,3),some (118,8),some (53,2),none]] (D.agg [D.fr 105 4 (r.rules.map aN.c),D.fr 3 1 (r.ends.map dL),D.fr 111 3 (r.av.map aP.c),D.fr 118 8 (r.nodes.map Node.c),D.fr 53 2 (r.facts.map aE.c),D.int .i64 r.bw])) [1,1,1,0,1,0,0,1,1,0,0,1,1,1,1] ⟨[(3,D.ptr 0 0),(5,D.ptr 1 0),(6,D.ptr 2 0),(7,D.ptr 3 0),(9,D.ptr 4 0),(10,D.int .i64 T4),(11,D.int .i64 Kc),(22,D.acc 5),(23,D.int .i64 ((y3.1.nodes.map Node.c).length:Int)),(24,D.int .i64 (i1:Int))],[Ob.box (aF.c aB),Ob.box (aE.c cY),Ob.box [D.nil,D.nil,D.nil,D.nil,D.nil,D.int .i64 0],Ob.box [D.acc 6,D.acc 7,D.acc 8,D.acc 5,D.acc 9,D.int .i64 mj],Ob.box [D.int .i64 bD.parent,D.int .i64 bD.cond.kind,D.str bD.cond.pat.rel,D.sl (bD.cond.pat.args.map tx),D.str bD.cond.left,D.str bD.cond.right,D.int .i64 bD.cP,D.sl (bD.tokens.map aI.c)],Ob.row .uq 118 8 (y3.1.nodes.map Node.c),Ob.row .uq 105 4 (y3.1.rules.map aN.c),Ob.row .uq 3 1 (y3.1.ends.map dL),Ob.row .uq 111 3 (y3.1.av.map aP.c),Ob.row .uq 53 2 (y3.1.facts.map aE.c)]⟩)(hm2:x313.tokens.length<=maxLen):∀(rest:ah) (i2:Nat) (Cu:Int) (Cv:Int),x313.tokens.drop i2=rest->jw aB cY y3 mj i1 bD x313 k2 rest i2 Cu Cv=some r->Ar Γ N f169 (.q [[some (105,4),some (3,1),some (111,3),some (118,8),some (53,2),none]] (D.agg [D.fr 105 4 (r.rules.map aN.c),D.fr 3 1 (r.ends.map dL),D.fr 111 3 (r.av.map aP.c),D.fr 118 8 (r.nodes.map Node.c),D.fr 53 2 (r.facts.map aE.c),D.int .i64 r.bw])) [1,1,1,0,1,0,0,1,1,0,0,1,1,1,0,1,0] (rest.length+1) (Mp aB cY y3 mj i1 bD x313 Cu Cv (i2:Int)):=by
 intro rest
 induction rest with
 |nil=>
  intro i2 Cu Cv hd2 h;rw[jw]at h;refine aO fun N2 xo uz=>?_
  exact((aU.ge aI.c hd2).a [.hl 5 [3,5,6,7,9,10,11,22,23,24] [0,1,2,3,4,5,6,7,8,9]]).ex hΓ xo (Cn Cu Cv h)
 |cons lV wu ih2=>
  intro i2 Cu Cv hd2 h;rw[jw]at h;refine aO fun N2 xo uz=>?_
  obtain⟨x359,h360,h⟩:=aD h;obtain⟨aBc,h362,h⟩:=aD h;have ID:=(((((aU.lt aI.c hd2).l (ax aI.c 2 (dc hd2) rfl)).a [.n 8]).l (dl Node.c 8 h360 rfl)).g (Gj h362))
  obtain⟨h363,h⟩|⟨h363,h⟩:=aM h
  ·exact((ID.b h363).a [.cn [3,5,6,7,9,10,11,22,23,24,37,38,39] [0,1,2,3,4,5,6,7,8,9]]).ct hΓ uz (iS hd2 hm2) (ih2 (i2+1) (IntKind.i64.wrap (Cu+1)) Cv (dn hd2) h)
  ·exact((ID.b h363).a [.cn [3,5,6,7,9,10,11,22,23,24,37,38,39] [0,1,2,3,4,5,6,7,8,9]]).ct hΓ uz (iS hd2 hm2) (ih2 (i2+1) Cu (IntKind.i64.wrap (Cv+1)) (dn hd2) h)
theorem Ku(hΓ:Γ.nt=95){aB:aF}{cY:aE}{y3:aF×Unit}{r:aF}{k1:Int->Option aF}(cX:∀(mE:Int),k1 mE=some r->Ax Γ N f169 (.q [[some (105,4),some (3,1),some (111,3),some (118,8),some (53,2),none]] (D.agg [D.fr 105 4 (r.rules.map aN.c),D.fr 3 1 (r.ends.map dL),D.fr 111 3 (r.av.map aP.c),D.fr 118 8 (r.nodes.map Node.c),D.fr 53 2 (r.facts.map aE.c),D.int .i64 r.bw])) [1,1,1,1] ⟨[(6,D.ptr 0 0),(7,D.ptr 1 0)],[Ob.box [D.nil,D.nil,D.nil,D.nil,D.nil,D.int .i64 0],Ob.box [D.acc 2,D.acc 3,D.acc 4,D.acc 5,D.acc 6,D.int .i64 mE],Ob.row .uq 105 4 (y3.1.rules.map aN.c),Ob.row .uq 3 1 (y3.1.ends.map dL),Ob.row .uq 111 3 (y3.1.av.map aP.c),Ob.row .uq 118 8 (y3.1.nodes.map Node.c),Ob.row .uq 53 2 (y3.1.facts.map aE.c)]⟩)(hm1:y3.1.nodes.length<=maxLen):∀(rest:ay) (i1:Nat) (mj:Int),y3.1.nodes.drop i1=rest->fI aB cY y3 k1 rest i1 mj=some r->Ar Γ N f169 (.q [[some (105,4),some (3,1),some (111,3),some (118,8),some (53,2),none]] (D.agg [D.fr 105 4 (r.rules.map aN.c),D.fr 3 1 (r.ends.map dL),D.fr 111 3 (r.av.map aP.c),D.fr 118 8 (r.nodes.map Node.c),D.fr 53 2 (r.facts.map aE.c),D.int .i64 r.bw])) [1,1,1,0,1,0] (rest.length+1) (Mo aB cY y3 mj (i1:Int)):=by
 intro rest
 induction rest with
 |nil=>
  intro i1 mj aj h;rw[fI]at h;refine aO fun N1 bz bg=>?_
  exact((aU.ge Node.c aj).a [.hl 0 [6,7] [2,3,5,6,7,4,8]]).ex hΓ bz (cX mj h)
 |cons bD bZ ih1=>
  intro i1 mj aj h;rw[fI]at h;refine aO fun N1 bz bg=>?_
  have RJ:=(((aU.lt Node.c aj).i (pP Node.c 8 (dc aj))).o 8 8 .uq (dG Node.c (dc aj)))
  obtain⟨h312,h⟩|⟨h312,h⟩:=aM h
  ·exact((RJ.b h312).a [.cn [3,5,6,7,22,23,24] [0,1,2,3,4,5,6,7,8]]).ct hΓ bg (iS aj hm1) (ih1 (i1+1) mj (dn aj) h)
  ·obtain⟨x313,h314,h⟩:=aD h;obtain⟨h370,h⟩:=bV h;refine((((RJ.b h312).i (yO Node.c 8 h314)).o 8 8 .uq (dG Node.c (uC h314))).a [.cn [3,5,6,7,9,10,11,22,23,24,37,38,39] [0,1,2,3,9,4,5,6,7,8]]).lp hΓ (Kv hΓ (fun T4 Kc h=>?_) (bt h370) x313.tokens 0 0 0 rfl h);obtain⟨h364,h⟩|⟨h364,h⟩:=aM h
   ·exact((aU.b h364).a [.cn [3,5,6,7,22,23,24] [0,1,2,3,5,6,7,8,9]]).ct hΓ bg (iS aj hm1) (ih1 (i1+1) (IntKind.i64.wrap (mj+Kc)) (dn aj) h)
   ·obtain⟨x365,h366,h⟩:=aD h;obtain⟨a0h,h368,h⟩:=aD h;have RM:=(((((aU.b h364).i (yO aP.c 3 h366)).o 3 3 .uq (dG aP.c (uC h366))).a [.d (D.gZ [D.fr 152 2 (a0h.1.map aS.c),D.bool a0h.2])]).w (show Good prog 239 [D.agg (aE.c x365.shape),D.agg (aE.c cY),D.sl ([])] (D.gZ [D.fr 152 2 (a0h.1.map aS.c),D.bool a0h.2])from by first| (simpa only[bN,bG,bW,dB,cm]using qk h368)|exact qk h368))
    obtain⟨h369,h⟩|⟨h369,h⟩:=aM h
    ·exact((RM.b h369).a [.cn [3,5,6,7,22,23,24] [0,1,2,3,5,6,7,8,9]]).ct hΓ bg (iS aj hm1) (ih1 (i1+1) (IntKind.i64.wrap ((IntKind.i64.wrap (mj+(IntKind.i64.wrap (Kc*((x365.facts.map aE.c).length:Int)))))+T4)) (dn aj) h)
    ·exact((RM.b h369).a [.cn [3,5,6,7,22,23,24] [0,1,2,3,5,6,7,8,9]]).ct hΓ bg (iS aj hm1) (ih1 (i1+1) (IntKind.i64.wrap (mj+(IntKind.i64.wrap (Kc*((x365.facts.map aE.c).length:Int))))) (dn aj) h)
theorem It{aB:aF}{aW:aL}{cY:aE}{r:aF}(h:wN aB aW cY=some r):Good prog 169 [D.agg (aF.c aB),D.sl (aW.map aE.c),D.agg (aE.c cY)] (D.agg [D.fr 105 4 (r.rules.map aN.c),D.fr 3 1 (r.ends.map dL),D.fr 111 3 (r.av.map aP.c),D.fr 118 8 (r.nodes.map Node.c),D.fr 53 2 (r.facts.map aE.c),D.int .i64 r.bw]):=by
 refine gd func169 [[some (105,4),some (3,1),some (111,3),some (118,8),some (53,2),none]] 95 fun hr Γ hΓ=>?_
 rw[wN]at h;obtain⟨y1,h2,h⟩:=aD h;obtain⟨y3,h4,h⟩:=aD h;obtain⟨h371,h⟩:=bV h;refine(((aU.g (oL h2)).hp [[some (105,4),some (3,1),some (111,3),some (118,8),some (53,2),none],[none]] (w8 h4)).a [.cn [3,5,6,7,22,23,24] [0,1,2,8,12,9,10,11,13]]).lp hΓ (Ku hΓ (fun mE h=>?_) (bt h371) y3.1.nodes 0 y3.1.bw rfl h);cases h;exact aU.ret hΓ
def EY(aB:aF)(aW:aE):Option (aF×Bool):=((wI aB.facts aW).bind fun y1=>(bif !(y1.2)then((iv aB).bind fun y4=>(some (y4,false)))else((wN aB y1.1 aW).bind fun y6=>(some (y6,true)))))
theorem Ph{aB:aF}{aW:aE}{r:aF×Bool}(h:EY aB aW=some r):Good prog 99 [D.agg (aF.c aB),D.agg (aE.c aW)] (D.gZ [D.agg [D.fr 105 4 (r.1.rules.map aN.c),D.fr 3 1 (r.1.ends.map dL),D.fr 111 3 (r.1.av.map aP.c),D.fr 118 8 (r.1.nodes.map Node.c),D.fr 53 2 (r.1.facts.map aE.c),D.int .i64 r.1.bw],D.bool r.2]):=by
 refine gd func99 [[some (105,4),some (3,1),some (111,3),some (118,8),some (53,2),none],[none]] 23 fun hr Γ hΓ=>?_
 rw[EY]at h;obtain⟨y1,h2,h⟩:=aD h;obtain⟨h3,h⟩|⟨h3,h⟩:=aM h
 ·obtain⟨y4,h5,h⟩:=aD h;cases h;exact(((aU.g (B0 h2)).b h3).g (oL h5)).ret hΓ
 ·obtain⟨y6,h7,h⟩:=aD h;cases h;exact(((aU.g (B0 h2)).b h3).g (It h7)).ret hΓ
def pE(aB:aF)(aW:aE):Option (aF×Bool):=((py aB).bind fun y1=>(bif !(y1)then((iv aB).bind fun y4=>(some (y4,false)))else((EY aB aW).bind fun y6=>(some (y6.1,y6.2)))))
theorem s7{aB:aF}{aW:aE}{r:aF×Bool}(h:pE aB aW=some r):Good prog 45 [D.agg (aF.c aB),D.agg (aE.c aW)] (D.gZ [D.agg [D.fr 105 4 (r.1.rules.map aN.c),D.fr 3 1 (r.1.ends.map dL),D.fr 111 3 (r.1.av.map aP.c),D.fr 118 8 (r.1.nodes.map Node.c),D.fr 53 2 (r.1.facts.map aE.c),D.int .i64 r.1.bw],D.bool r.2]):=by
 refine gd func45 [[some (105,4),some (3,1),some (111,3),some (118,8),some (53,2),none],[none]] 16 fun hr Γ hΓ=>?_
 rw[pE]at h;obtain⟨y1,h2,h⟩:=aD h;obtain⟨h3,h⟩|⟨h3,h⟩:=aM h
 ·obtain⟨y4,h5,h⟩:=aD h;cases h;exact(((aU.g (qj h2)).b h3).g (oL h5)).ret hΓ
 ·obtain⟨y6,h7,h⟩:=aD h;cases h;exact(((aU.g (qj h2)).b h3).g (Ph h7)).ret hΓ
def fY(aW:aL)(k1:Int->Int->ar->bI->b7->ay->aL->Option (aF×Int)):aL->Nat->Int->Int->ar->bI->b7->ay->aL->Option (aF×Int)
 | [],i1,rY,dV,fW,eN,mG,iV,qg=>(k1 rY dV fW eN mG iV qg)
 |bD::bZ,i1,rY,dV,fW,eN,mG,iV,qg=>((pE (⟨fW,eN,mG,iV,qg,dV⟩:aF) bD).bind fun yf=>(bif yf.2 then(fY aW k1 bZ (i1+1) (IntKind.i64.wrap (rY+1)) yf.1.bw yf.1.rules yf.1.ends yf.1.av yf.1.nodes yf.1.facts)else(fY aW k1 bZ (i1+1) rY dV fW eN mG iV qg)))
def qK(aB:aF)(aW:aL):Option (aF×Int):=((iv aB).bind fun y1=>(fY aW (fun(Rj:Int) (mE:Int) (sM:ar) (fV:bI) (CH:b7) (nu:ay) (qc:aL)=>(some ((⟨sM,fV,CH,nu,qc,mE⟩:aF),Rj))) aW 0 0 y1.bw y1.rules y1.ends y1.av y1.nodes y1.facts))
def FR(aW:aL)(rY:Int)(dV:Int)(W2:List aR)(W3:List aR)(W4:List aR)(W5:List aR)(W6:List aR)(cT:Int):St:=⟨[(4,D.ptr 0 0),(6,D.ptr 1 0),(7,D.int .i64 rY),(14,D.sl (aW.map aE.c)),(15,D.int .i64 ((aW.map aE.c).length:Int)),(16,D.int .i64 cT)],[Ob.box [D.nil,D.nil,D.nil,D.nil,D.nil,D.int .i64 0],Ob.box [D.acc 2,D.acc 3,D.acc 4,D.acc 5,D.acc 6,D.int .i64 dV],Ob.row .uq 105 4 W2,Ob.row .uq 3 1 W3,Ob.row .uq 111 3 W4,Ob.row .uq 118 8 W5,Ob.row .uq 53 2 W6]⟩
theorem EO(hΓ:Γ.nt=33){aW:aL}{r:aF×Int}{k1:Int->Int->ar->bI->b7->ay->aL->Option (aF×Int)}(cX:∀(Rj:Int) (mE:Int) (sM:ar) (fV:bI) (CH:b7) (nu:ay) (qc:aL),k1 Rj mE sM fV CH nu qc=some r->Ax Γ N f16 (.q [[some (105,4),some (3,1),some (111,3),some (118,8),some (53,2),none],[none]] (D.gZ [D.agg [D.fr 105 4 (r.1.rules.map aN.c),D.fr 3 1 (r.1.ends.map dL),D.fr 111 3 (r.1.av.map aP.c),D.fr 118 8 (r.1.nodes.map Node.c),D.fr 53 2 (r.1.facts.map aE.c),D.int .i64 r.1.bw],D.int .i64 r.2])) [1,1,1,1] ⟨[(4,D.ptr 0 0),(6,D.ptr 1 0),(7,D.int .i64 Rj)],[Ob.box [D.nil,D.nil,D.nil,D.nil,D.nil,D.int .i64 0],Ob.box [D.acc 2,D.acc 3,D.acc 4,D.acc 5,D.acc 6,D.int .i64 mE],Ob.row .uq 105 4 (sM.map aN.c),Ob.row .uq 3 1 (fV.map dL),Ob.row .uq 111 3 (CH.map aP.c),Ob.row .uq 118 8 (nu.map Node.c),Ob.row .uq 53 2 (qc.map aE.c)]⟩)(hm1:aW.length<=maxLen):∀(rest:aL) (i1:Nat) (rY:Int) (dV:Int) (fW:ar) (eN:bI) (mG:b7) (iV:ay) (qg:aL),aW.drop i1=rest->fY aW k1 rest i1 rY dV fW eN mG iV qg=some r->Ar Γ N f16 (.q [[some (105,4),some (3,1),some (111,3),some (118,8),some (53,2),none],[none]] (D.gZ [D.agg [D.fr 105 4 (r.1.rules.map aN.c),D.fr 3 1 (r.1.ends.map dL),D.fr 111 3 (r.1.av.map aP.c),D.fr 118 8 (r.1.nodes.map Node.c),D.fr 53 2 (r.1.facts.map aE.c),D.int .i64 r.1.bw],D.int .i64 r.2])) [1,1,1,0,1,0] (rest.length+1) (FR aW rY dV (fW.map aN.c) (eN.map dL) (mG.map aP.c) (iV.map Node.c) (qg.map aE.c) (i1:Int)):=by
 intro rest
 induction rest with
 |nil=>
  intro i1 rY dV fW eN mG iV qg aj h;rw[fY]at h;refine aO fun N1 bz bg=>?_
  exact((aU.ge aE.c aj).a [.hl 0 [4,6,7] [0,1,2,3,4,5,6]]).ex hΓ bz (cX rY dV fW eN mG iV qg h)
 |cons bD bZ ih1=>
  intro i1 rY dV fW eN mG iV qg aj h;rw[fY]at h;refine aO fun N1 bz bg=>?_
  obtain⟨yf,h36,h⟩:=aD h;have dJ:=((((aU.lt aE.c aj).l (ax aE.c 2 (dc aj) rfl)).a [.d (D.gZ [D.agg [D.fr 105 4 (yf.1.rules.map aN.c),D.fr 3 1 (yf.1.ends.map dL),D.fr 111 3 (yf.1.av.map aP.c),D.fr 118 8 (yf.1.nodes.map Node.c),D.fr 53 2 (yf.1.facts.map aE.c),D.int .i64 yf.1.bw],D.bool yf.2])]).w (show Good prog 45 [D.agg [D.sl (fW.map aN.c),D.sl (eN.map dL),D.sl (mG.map aP.c),D.sl (iV.map Node.c),D.sl (qg.map aE.c),D.int .i64 dV],D.agg (aE.c bD)] (D.gZ [D.agg [D.fr 105 4 (yf.1.rules.map aN.c),D.fr 3 1 (yf.1.ends.map dL),D.fr 111 3 (yf.1.av.map aP.c),D.fr 118 8 (yf.1.nodes.map Node.c),D.fr 53 2 (yf.1.facts.map aE.c),D.int .i64 yf.1.bw],D.bool yf.2])from by first| (simpa only[bN,bG,bW,dB,cm]using s7 h36)|exact s7 h36| (have t:=s7 h36;simp only[bN,dB,cm,aF.c]at t;exact t)))
  obtain⟨h37,h⟩|⟨h37,h⟩:=aM h
  ·exact((dJ.b h37).a [.cn [4,6,7,14,15,16] [0,1,8,9,10,11,12]]).ct hΓ bg (iS aj hm1) (ih1 (i1+1) (IntKind.i64.wrap (rY+1)) yf.1.bw yf.1.rules yf.1.ends yf.1.av yf.1.nodes yf.1.facts (dn aj) h)
  ·exact((dJ.b h37).a [.cn [4,6,7,14,15,16] [0,1,2,3,4,5,6]]).ct hΓ bg (iS aj hm1) (ih1 (i1+1) rY dV fW eN mG iV qg (dn aj) h)
theorem DY{aB:aF}{aW:aL}{r:aF×Int}(h:qK aB aW=some r):Good prog 16 [D.agg (aF.c aB),D.sl (aW.map aE.c)] (D.gZ [D.agg [D.fr 105 4 (r.1.rules.map aN.c),D.fr 3 1 (r.1.ends.map dL),D.fr 111 3 (r.1.av.map aP.c),D.fr 118 8 (r.1.nodes.map Node.c),D.fr 53 2 (r.1.facts.map aE.c),D.int .i64 r.1.bw],D.int .i64 r.2]):=by
 refine gd func16 [[some (105,4),some (3,1),some (111,3),some (118,8),some (53,2),none],[none]] 33 fun hr Γ hΓ=>?_
 rw[qK]at h;obtain⟨y1,h2,h⟩:=aD h;refine((aU.g (oL h2)).a [.cn [4,6,7,14,15,16] [1,7,2,3,4,5,6]]).lp hΓ (EO hΓ (fun Rj mE sM fV CH nu qc h=>?_) (by have:=(dY.sl (hr _ (aC (i:=1) rfl))).1;simpa using this) aW 0 0 y1.bw y1.rules y1.ends y1.av y1.nodes y1.facts rfl h);cases h;exact aU.ret hΓ
def k8(aB:aF):Option aF:=((qG aB).bind fun y1=>(bif !(y1)then(some (⟨[],[],[],[],[],0⟩:aF))else((jk aB.rules).bind fun y4=>((qS y4.1 aB.facts).bind fun y6=>(some y6.1)))))
theorem C4{aB:aF}{r:aF}(h:k8 aB=some r):Good prog 31 [D.agg (aF.c aB)] (D.agg [D.fr 105 4 (r.rules.map aN.c),D.fr 3 1 (r.ends.map dL),D.fr 111 3 (r.av.map aP.c),D.fr 118 8 (r.nodes.map Node.c),D.fr 53 2 (r.facts.map aE.c),D.int .i64 r.bw]):=by
 refine gd func31 [[some (105,4),some (3,1),some (111,3),some (118,8),some (53,2),none]] 25 fun hr Γ hΓ=>?_
 rw[k8]at h;obtain⟨y1,h2,h⟩:=aD h;obtain⟨h3,h⟩|⟨h3,h⟩:=aM h
 ·cases h;exact((aU.g (vo h2)).b h3).ret hΓ
 ·obtain⟨y4,h5,h⟩:=aD h;obtain⟨y6,h7,h⟩:=aD h;cases h;exact((((aU.g (vo h2)).b h3).g (sB h5)).g (Dj h7)).ret hΓ
def iM(aB:aF):Option aF:=((py aB).bind fun y1=>(bif !(y1)then(some (⟨[],[],[],[],[],0⟩:aF))else((uD aB.rules ([]) 0).bind fun y4=>((qK y4 aB.facts).bind fun y6=>(some y6.1)))))
theorem wL{aB:aF}{r:aF}(h:iM aB=some r):Good prog 32 [D.agg (aF.c aB)] (D.agg [D.fr 105 4 (r.rules.map aN.c),D.fr 3 1 (r.ends.map dL),D.fr 111 3 (r.av.map aP.c),D.fr 118 8 (r.nodes.map Node.c),D.fr 53 2 (r.facts.map aE.c),D.int .i64 r.bw]):=by
 refine gd func32 [[some (105,4),some (3,1),some (111,3),some (118,8),some (53,2),none]] 19 fun hr Γ hΓ=>?_
 rw[iM]at h;obtain⟨y1,h2,h⟩:=aD h;obtain⟨h3,h⟩|⟨h3,h⟩:=aM h
 ·cases h;exact((aU.g (qj h2)).b h3).ret hΓ
 ·obtain⟨y4,h5,h⟩:=aD h;obtain⟨y6,h7,h⟩:=aD h;cases h;exact(((((aU.g (qj h2)).b h3).a [.n 11,.ds (D.agg [D.fr 105 4 (y4.rules.map aN.c),D.fr 3 1 (y4.ends.map dL),D.fr 111 3 (y4.av.map aP.c),D.fr 118 8 (y4.nodes.map Node.c),D.fr 53 2 (y4.facts.map aE.c),D.int .i64 y4.bw])]).w (show Good prog 78 [D.sl (aB.rules.map aN.c),D.sl ([]),D.int .i64 0] (D.agg [D.fr 105 4 (y4.rules.map aN.c),D.fr 3 1 (y4.ends.map dL),D.fr 111 3 (y4.av.map aP.c),D.fr 118 8 (y4.nodes.map Node.c),D.fr 53 2 (y4.facts.map aE.c),D.int .i64 y4.bw])from by first| (simpa only[bN,bG,bW,dB,cm]using yt h5)|exact yt h5)).g (DY h7)).ret hΓ
theorem zn{α:Type}{a pre xs:List α}{x:α}(h:a=pre++x::xs):mK a (pre.length:Int)=some x:=by
 unfold mK;have:a[pre.length]?=some x:=by rw[h];simp
 simp[this]
theorem KV{n b:Nat}(hn:n<=1099511627776)(hb:b<=128):room n b=true:=by
 unfold room maxLen;have:n*b<=1099511627776*128:=GL hn hb;simp;omega
theorem mi{α:Type}{w:List α}{c:α->aR}{y:aR}{b:Nat}(h:w.length<1099511627776)(hb:b<=128):room ((w.map c).length+([y]).length) b=true:=KV (by simp;omega) hb
theorem a30{α β:Type}{w:List α}{v:List β}{c:α->aR}{d:β->aR}{b:Nat}(h:w.length+v.length<=1099511627776)(hb:b<=128):room ((w.map c).length+(v.map d).length) b=true:=KV (by simp;omega) hb
theorem Vl{β:Type}{v:List β}{d:β->aR}{b:Nat}(h:v.length<=1099511627776)(hb:b<=128):room (([]:List aR).length+(v.map d).length) b=true:=KV (by simp;omega) hb
theorem xJ{α:Type}{l:List α}(h:l.length<=1099511627776):decide (l.length<=maxLen)=true:=by unfold maxLen;simp;omega
theorem GF{α β γ:Type}{c:β->aR}{b:Nat}{f:α->Option β}{g:α->β}{L:List α->Nat->List β->Option γ}{k:List β->Option γ}(hb:b<=128)(v8:∀i w,L [] i w=k w)
 (th:∀x xs i w,L (x::xs) i w=(f x).bind fun y=>bif room ((w.map c).length+([c y]).length) b then L xs (i+1) (w++[y])else none):
 ∀(l:List α) (i:Nat) (w:List β),(∀x∈l,f x=some (g x))->w.length+l.length<=1099511627776->L l i w=k (w++l.map g):=by
 intro l
 induction l with
 |nil=>intro i w _ _;simp[v8]
 |cons x xs ih=>
  intro i w hf hl;simp only[aK]at hl;rw[th,hf x (by simp),aA,mi (by omega) hb,aV,ih _ _ (fun y hy=>hf y (by simp[hy])) (by simp;omega)];simp
theorem ZO{α:Type}{f:α->Option Bool}{p:α->Bool}{L:List α->Nat->Option Bool}{k:Option Bool}(v8:∀i,L [] i=k)
 (th:∀x xs i,L (x::xs) i=(f x).bind fun y=>bif !y then some false else L xs (i+1)):∀(l:List α) (i:Nat),(∀x∈l,f x=some (p x))->L l i=bif l.all p then k else some false:=by
 intro l
 induction l with
 |nil=>intro i _;simp[v8]
 |cons x xs ih=>
  intro i hf;rw[th,hf x (by simp),aA,ih _ (fun y hy=>hf y (by simp[hy])),dM];cases p x<;>simp
theorem yR:∀(a:Bytes),Op.bytesLess a a=false
 | []=>rfl
 |x::a=>by simp[Op.bytesLess,yR a]
theorem DT:∀ {a b c:Bytes},Op.bytesLess a b=true->Op.bytesLess b c=true->Op.bytesLess a c=true
 | [],b,[],_,h2=>by cases b<;>simp[Op.bytesLess]at h2
 | [],b,_::_,_,_=>by simp[Op.bytesLess]
 |_::_,[],_,h1,_=>by simp[Op.bytesLess]at h1
 |_::_,_::_,[],_,h2=>by simp[Op.bytesLess]at h2
 |x::a,y::b,z::c,h1,h2=>by
  simp only[Op.bytesLess,om,bJ,aY,cj]at h1 h2⊢;rcases h1 with h1|⟨rfl,h1⟩
  ·rcases h2 with h2|⟨rfl,h2⟩
   ·exact .inl (UInt8.lt_trans h1 h2)
   ·exact .inl h1
  ·rcases h2 with h2|⟨rfl,h2⟩
   ·exact .inl h2
   ·exact .inr ⟨rfl,DT h1 h2⟩
theorem Ki:∀ {a b:Bytes},Op.bytesLess a b=false->Op.bytesLess b a=false->a=b
 | [],[],_,_=>rfl
 | [],_::_,h,_=>by simp[Op.bytesLess]at h
 |_::_,[],_,h=>by simp[Op.bytesLess]at h
 |x::a,y::b,h1,h2=>by
  simp only[Op.bytesLess,Bool.or_eq_false_iff,oH,FL,dH,ne_eq]at h1 h2;have e:x=y:=by
   have h3:=h1.1;have h4:=h2.1;rw[FP]at h3 h4;exact UInt8.toNat_inj.1 (by omega)
  subst e;rw[Ki (h1.2.resolve_left (by simp)) (h2.2.resolve_left (by simp))]
theorem Mc{a b:Bytes}(h:Op.bytesLess a b=true):Op.bytesLess b a=false:=by
 cases hb:Op.bytesLess b a with
 |false=>rfl
 |true=>have:=DT h hb;rw[yR]at this;cases this
def SS(l:aJ):Prop:=l.Pairwise fun a b=>Op.bytesLess a b=true
theorem OF:∀ {a b:aJ},SS a->SS b->(∀x,x∈a↔x∈b)->a=b
 | [],[],_,_,_=>rfl
 | [],y::b,_,_,h=>by have:=(h y).2 (by simp);cases this
 |x::a,[],_,_,h=>by have:=(h x).1 (by simp);cases this
 |x::a,y::b,h1,h2,h=>by
  obtain⟨p1,p2⟩:=kG.1 h1;obtain⟨q1,q2⟩:=kG.1 h2;have e:x=y:=by
   refine Ki ?_ ?_
   ·cases hb:Op.bytesLess x y with
    |false=>rfl
    |true=>
     rcases bM.1 ((h x).1 (by simp))with rfl|hx
     ·exact(yR x▸hb).symm
     ·have:=Mc (q1 x hx);rw[hb]at this;exact this
   ·cases hb:Op.bytesLess y x with
    |false=>rfl
    |true=>
     rcases bM.1 ((h y).2 (by simp))with rfl|hx
     ·exact(yR y▸hb).symm
     ·have:=Mc (p1 y hx);rw[hb]at this;exact this
  subst e;rw[OF p2 q2 (fun z=>?_)];constructor
  ·intro hz;rcases bM.1 ((h z).1 (by simp[hz]))with rfl|Rk
   ·have:=p1 z hz;rw[yR]at this;cases this
   ·exact Rk
  ·intro hz;rcases bM.1 ((h z).2 (by simp[hz]))with rfl|Rk
   ·have:=q1 z hz;rw[yR]at this;cases this
   ·exact Rk
def As:aJ->Bytes->aJ
 | [],s=>[s]
 |x::xs,s=>bif Op.bytesLess x s then x::As xs s else bif x==s then x::xs else s::x::xs
theorem RC:∀ {l:aJ} {s y:Bytes},y∈As l s↔y=s\/y∈l
 | [],s,y=>by simp[As]
 |x::xs,s,y=>by
  simp only[As];cases Op.bytesLess x s with
  |true=>simp only[aV,bM,RC (l:=xs)];constructor<;>(rintro(h|h|h)<;>simp[h])
  |false=>
   simp only[aZ];cases hx:x==s with
   |true=>
    simp only[cj]at hx;subst hx;simp
   |false=>simp
theorem Yx:∀ {l:aJ} {s:Bytes},SS l->SS (As l s)
 | [],s,_=>by simp[As,SS]
 |x::xs,s,h=>by
  obtain⟨p1,p2⟩:=kG.1 h;simp only[As];cases hb:Op.bytesLess x s with
  |true=>
   simp only[aV];refine kG.2 ⟨fun y hy=>?_,Yx p2⟩;rcases RC.1 hy with rfl|hy
   ·exact hb
   ·exact p1 y hy
  |false=>
   simp only[aZ];cases hx:x==s with
   |true=>exact h
   |false=>
    have hs:Op.bytesLess s x=true:=by
     cases hc:Op.bytesLess s x with
     |true=>rfl
     |false=>have:=Ki hb hc;subst this;simp at hx
    refine kG.2 ⟨fun y hy=>?_,h⟩;rcases bM.1 hy with rfl|hy
    ·exact hs
    ·exact DT hs (p1 y hy)
theorem CE:∀(l:aJ) (s:Bytes),(As l s).length<=l.length+1
 | [],s=>by simp[As]
 |x::xs,s=>by
  have:=CE xs s;simp only[As];cases Op.bytesLess x s<;>simp only[aV,aZ,aK]
  ·cases x==s<;>simp
  ·omega
def fM(l:aJ):aJ:=l.foldl As []
theorem I0:∀(l a:aJ) (y:Bytes),y∈l.foldl As a↔y∈a\/y∈l
 | [],a,y=>by simp
 |x::l,a,y=>by
  rw[dK,I0 l,RC];simp only[bM];constructor
  ·rintro((h|h)|h)<;>simp[h]
  ·rintro(h|h|h)<;>simp[h]
theorem KL:∀(l:aJ) {a:aJ},SS a->SS (l.foldl As a)
 | [],a,h=>h
 |x::l,a,h=>KL l (Yx h)
theorem Hz:∀(l a:aJ),(l.foldl As a).length<=a.length+l.length
 | [],a=>by simp
 |x::l,a=>by
  have h1:=Hz l (As a x);have h2:=CE a x;rw[dK,aK];omega
theorem x7{l:aJ}{y:Bytes}:y∈fM l↔y∈l:=by unfold fM;rw[I0];simp
theorem RY(l:aJ):SS (fM l):=KL l (by simp[SS])
theorem rF(l:aJ):(fM l).length<=l.length:=by have:=Hz l [];simpa[fM]using this
theorem II{a b:aJ}(h:∀x,x∈a↔x∈b):fM a=fM b:=OF (RY a) (RY b) (fun x=>by rw[x7,x7,h])
theorem Xx(a:aJ)(x:Bytes):As (fM a) x=fM (a++[x]):=by simp[fM]
theorem Xw(a b:aJ):b.foldl As (fM a)=fM (a++b):=by simp[fM]
theorem IJ(a b:aJ):(fM b).foldl As (fM a)=fM (a++b):=by
 rw[Xw];exact II (fun x=>by simp[x7])
theorem o7(l:aJ)(v:Bytes):(fM l).contains v=l.contains v:=by
 rw[bp];simp[x7]
def in1(x:UInt8):Bool:=decide ((x.toNat:Int)>=97)&&decide ((x.toNat:Int)<=122)
def in2(x:UInt8):Bool:=decide ((x.toNat:Int)>=48)&&decide ((x.toNat:Int)<=57)
def ab(x:UInt8):Bool:=in1 x||in2 x
def Zv(s:Bytes):Bool:=decide ((s.length:Int)>=1)&&decide ((s.length:Int)<=8)
def jv(s:Bytes):Bool:=s.all ab&&Zv s
def a6D:Bytes->Bool
 | []=>false
 |x::_=>decide ((x.toNat:Int)>=97)
def BD(s:Bytes):Bool:=jv s&&a6D s
def lS:Bytes->Bool
 | []=>false
 |x::t=>decide ((x.toNat:Int)=63)&&jv t
def qe(s:Bytes):Bool:=jv s||lS s
theorem IS{s:Bytes}(h:jv s=true):1<=s.length/\s.length<=8:=by
 simp only[jv,Zv,aY,bJ]at h;omega
theorem Sg{s:Bytes}(h:BD s=true):1<=s.length/\s.length<=8:=by
 simp only[BD,aY]at h;exact IS h.1
theorem a3p{s:Bytes}(h:lS s=true):1<=s.length/\s.length<=9:=by
 cases s with
 |nil=>cases h
 |cons x t=>simp only[lS,aY]at h;have:=IS h.2;simp;omega
theorem a0S{s:Bytes}(h:qe s=true):1<=s.length/\s.length<=9:=by
 simp only[qe,om]at h;rcases h with h|h
 ·have:=IS h;omega
 ·exact a3p h
theorem BY{s:Bytes}(h:lS s=true):jv s=false:=by
 cases s with
 |nil=>cases h
 |cons x t=>
  simp only[lS,aY,bJ]at h;simp only[jv,dM,ab,in1,in2];have:(x.toNat:Int)=63:=h.1;simp[this]
theorem a71(x:UInt8):IntKind.i64.wrap ((x.toNat:Nat):Int)=(x.toNat:Int):=gx (tv.i64.2 (by have:=x.toNat_lt;omega))
theorem IL{n:Nat}(h:n<=1099511627776):IntKind.i64.wrap ((n:Int)+1)=((n+1:Nat):Int):=by rw[gx (tv.i64.2 (by omega))];omega
theorem a6n{n:Nat}(h:1<=n):Ps n (some (D.int .i64 1)) none=some (1,n):=by
 unfold Ps;have:(0:Int)<=1/\(1:Int).toNat<=n:=⟨by decide,h⟩
 simp only[bS this];rfl
theorem Ni(a b c:Int):lJ a b c=some (decide (a>=b)&&decide (a<=c)):=by
 unfold lJ;cases decide (a>=b)<;>rfl
theorem a8h(a:Bytes)(k:Option Bool)(ha:a.length<=1048576):∀(rest pre:Bytes),a=pre++rest->∀n,rest.length<n->jR a k n (pre.length:Int)=bif rest.all ab then k else some false:=by
 intro rest
 induction rest with
 |nil=>
  intro pre h n hn;obtain⟨m,rfl⟩:∃m,n=m+1:=⟨n-1,by simp at hn;omega⟩
  have e1:decide ((pre.length:Int)<(a.length:Int))=false:=by simp[h]
  rw[jR,e1];rfl
 |cons x xs ih=>
  intro pre h n hn;obtain⟨m,rfl⟩:∃m,n=m+1:=⟨n-1,by simp at hn;omega⟩
  have hl:a.length=pre.length+(xs.length+1):=by rw[h];simp
  have e1:decide ((pre.length:Int)<(a.length:Int))=true:=by rw[hl];simp;omega
  have e4:IntKind.i64.wrap ((pre.length:Int)+1)=((pre++[x]).length:Int):=by rw[IL (by omega)];simp
  have t:=ih (pre++[x]) (by simp[h]) m (by simp at hn;omega);rw[jR,e1,aV,zn h,aA,a71,Ni,Ni,aA,aA,e4,t,dM];show(bif !in1 x then(bif !in2 x then _ else _)else _)=bif (in1 x||in2 x)&&xs.all ab then k else some false
  cases in1 x<;>cases in2 x<;>simp
theorem PV(a:Bytes)(ha:a.length<=1048576):fU a=some (jv a):=by
 unfold fU;refine(a8h a _ ha a [] rfl fuel (by unfold fuel;omega)).trans ?_;rw[Ni,aA];show _=some (a.all ab&&Zv a);cases a.all ab<;>rfl
theorem a82(a:Bytes)(k:Option Bool)(ha:a.length<=1048576):∀(rest pre:Bytes),a=pre++rest->∀n,rest.length<n->gD a k n (pre.length:Int)=bif rest.all ab then k else some false:=by
 intro rest
 induction rest with
 |nil=>
  intro pre h n hn;obtain⟨m,rfl⟩:∃m,n=m+1:=⟨n-1,by simp at hn;omega⟩
  have e1:decide ((pre.length:Int)<(a.length:Int))=false:=by simp[h]
  rw[gD,e1];rfl
 |cons x xs ih=>
  intro pre h n hn;obtain⟨m,rfl⟩:∃m,n=m+1:=⟨n-1,by simp at hn;omega⟩
  have hl:a.length=pre.length+(xs.length+1):=by rw[h];simp
  have e1:decide ((pre.length:Int)<(a.length:Int))=true:=by rw[hl];simp;omega
  have e4:IntKind.i64.wrap ((pre.length:Int)+1)=((pre++[x]).length:Int):=by rw[IL (by omega)];simp
  have t:=ih (pre++[x]) (by simp[h]) m (by simp at hn;omega);rw[gD,e1,aV,zn h,aA,e4,t,dM];have c1:decide ((x.toNat:Int)>=97)= !decide ((x.toNat:Int)<97):=by rw[bp];simp
  have c2:decide ((x.toNat:Int)<=122)= !decide ((x.toNat:Int)>122):=by rw[bp];simp
  have c3:decide ((x.toNat:Int)>=48)= !decide ((x.toNat:Int)<48):=by rw[bp];simp
  have c4:decide ((x.toNat:Int)<=57)= !decide ((x.toNat:Int)>57):=by rw[bp];simp
  rw[ab,in1,in2,c1,c2,c3,c4];cases decide ((x.toNat:Int)<97)<;>cases decide ((x.toNat:Int)>122)<;>cases decide ((x.toNat:Int)<48)<;>cases decide ((x.toNat:Int)>57)<;>simp
theorem PJ(a:Bytes)(ha:a.length<=1048576):fQ a=some (jv a):=by
 unfold fQ;rw[show gD a (some true) fuel 0=_ from a82 a _ ha a [] rfl fuel (by unfold fuel;omega)];have c1:decide ((a.length:Int)>=1)= !decide ((a.length:Int)<1):=by rw[bp];simp
 have c2:decide ((a.length:Int)<=8)= !decide ((a.length:Int)>8):=by rw[bp];simp
 rw[jv,Zv,c1,c2];cases decide ((a.length:Int)<1)<;>cases decide ((a.length:Int)>8)<;>cases a.all ab<;>rfl
theorem a3E(a:Bytes)(ha:a.length<=1048576):sD a=some (BD a):=by
 unfold sD;rw[PV a ha,aA,BD];cases h:jv a with
 |false=>rfl
 |true=>
  cases a with
  |nil=>simp[jv,Zv]at h
  |cons x xs=>
   rw[show mK (x::xs) 0=some x from rfl];simp only[aV,aA,a71,Ni,fO,az,a6D];simp only[jv,dM,ab,in1,in2,aY,om,bJ]at h;rw[bp];simp only[aY,bJ];omega
theorem a2H(a:Bytes)(ha:a.length<=1048576):rz a=some (BD a):=by
 unfold rz;rw[PJ a ha,aA,BD];cases h:jv a with
 |false=>rfl
 |true=>
  cases a with
  |nil=>simp[jv,Zv]at h
  |cons x xs=>rfl
theorem Vn(a:Bytes)(ha:a.length<=1048576):iT a=some (lS a):=by
 unfold iT;cases a with
 |nil=>rfl
 |cons x t=>
  simp only[aK]at ha;rw[show mK (x::t) 0=some x from rfl,aA,a6n (by simp),aA];have e:(((x::t).take ((x::t).length)).drop 1)=t:=by simp
  simp only[e,PV t (by omega),aA,lS,fH];cases t with
  |nil=>cases decide ((x.toNat:Int)=63)<;>rfl
  |cons y t=>
   have e2:decide ((((x::y::t).length:Int):Int)>1)=true:=by simp;omega
   rw[e2];cases decide ((x.toNat:Int)=63)<;>simp
theorem Zp(a:Bytes)(ha:a.length<=1048576):lY a=some (lS a):=by
 unfold lY;cases a with
 |nil=>rfl
 |cons x t=>
  simp only[aK]at ha;rw[show mK (x::t) 0=some x from rfl,aA,a6n (by simp),aA];have e:(((x::t).take ((x::t).length)).drop 1)=t:=by simp
  simp only[e,PJ t (by omega),aA,lS,fH];cases t with
  |nil=>cases decide ((x.toNat:Int)=63)<;>rfl
  |cons y t=>
   have e2:decide ((((x::y::t).length:Int):Int)>1)=true:=by simp;omega
   rw[e2];cases decide ((x.toNat:Int)=63)<;>simp
theorem a3O(a:Bytes)(ha:a.length<=1048576):jH a=some (qe a):=by
 unfold jH qe;rw[PV a ha,Vn a ha];cases jv a<;>simp
theorem a2L(a:Bytes)(ha:a.length<=1048576):jG a=some (qe a):=by
 unfold jG qe;rw[PJ a ha,Zp a ha];cases jv a<;>simp
theorem a3Q(l:aJ)(h:l.length<=1099511627776):tf l=some l:=by
 unfold tf;rw[Vl h (by decide)];rfl
theorem Tf(l:aJ)(h:l.length<=1099511627776):nD l=some l:=by
 unfold nD;rw[Vl h (by decide)];rfl
theorem a3N(a b:aJ):nX a b=some (decide (a=b)):=by
 unfold nX;exact SQ (c:=tx) (f:=fun x y=>some (x==y)) (fun k=>k9 a b k) (fun _ _=>rfl) (fun _ _ _ _=>rfl) (fun x y=>by rw[az,bp];simp)
theorem a2J(a b:aJ):q9 a b=some (decide (a=b)):=by
 unfold q9;exact SQ (c:=tx) (f:=fun x y=>some (x==y)) (fun k=>mS a b k) (fun _ _=>rfl) (fun _ _ _ _=>rfl) (fun x y=>by rw[az,bp];simp)
theorem a8G(a b:bI):uW a b=some (decide (a=b)):=by
 unfold uW;exact SQ (c:=dL) (f:=fun x y=>some (x==y)) (fun k=>nE a b k) (fun _ _=>rfl) (fun _ _ _ _=>rfl) (fun x y=>by rw[az,bp];simp)
theorem a3C(l:aJ)(v:Bytes):hG l v=some (l.contains v):=by
 unfold hG;have:∀(r:aJ) (i:Nat),jr l v (some false) r i=some (r.contains v):=by
  intro r
  induction r with
  |nil=>intro i;rfl
  |cons x r ih=>
   intro i;rw[jr,ih,List.contains_cons];have:(x==v)=(v==x):=by rw[bp,cj,cj];exact eq_comm
   rw[this];cases v==x<;>rfl
 exact this l 0
theorem a54(l:aJ)(v:Bytes):lg l v=some (l.contains v):=by
 unfold lg;have:∀(r:aJ) (i:Nat),lm l v (some false) r i=some (r.contains v):=by
  intro r
  induction r with
  |nil=>intro i;rfl
  |cons x r ih=>
   intro i;rw[lm,ih,List.contains_cons];have:(x==v)=(v==x):=by rw[bp,cj,cj];exact eq_comm
   rw[this];cases v==x<;>rfl
 exact this l 0
theorem a6y(a:aJ)(s:Bytes)(k:Bool->aJ->Option aJ):∀(l:aJ) (i:Nat) (w:aJ),w.length+l.length<1099511627776->
 eW a s k l i true w=k true (w++l):=by
 intro l
 induction l with
 |nil=>intro i w _;simp[eW]
 |cons x xs ih=>
  intro i w h;simp only[aK]at h;rw[eW,bP,aZ,mi (by omega) (by decide),aV,ih _ _ (by simp;omega)];simp
theorem aBG(a:aJ)(s:Bytes)(k:Bool->aJ->Option aJ)(hk:∀w,w.length<1099511627776->k false w=some (w++[s]))(hk2:∀w,k true w=some w):∀(l:aJ) (i:Nat) (w:aJ),w.length+l.length+1<1099511627776->
 eW a s k l i false w=some (w++As l s):=by
 intro l
 induction l with
 |nil=>intro i w h;rw[eW,hk w (by omega)];rfl
 |cons x xs ih=>
  intro i w h;simp only[aK]at h;rw[eW,cR,aV,As];cases Op.bytesLess x s with
  |true=>
   simp only[bP,aZ,aV];rw[mi (by omega) (by decide),aV,ih _ _ (by simp;omega)];simp
  |false=>
   simp only[cR,aV,aZ];cases x==s with
   |true=>
    simp only[bP,aZ,aV];rw[mi (by omega) (by decide),aV,a6y _ _ _ _ _ _ (by simp;omega),hk2];simp
   |false=>
    simp only[cR,aV,aZ];rw[mi (by omega) (by decide),aV];have e:room (((w.map tx)++[[D.str s]]).length+([[D.str x]]).length) 16=true:=KV (by simp;omega) (by decide);rw[e,aV,a6y _ _ _ _ _ _ (by simp;omega),hk2];simp
theorem Xd(l:aJ)(s:Bytes)(h:l.length+1<1099511627776):mB l s=some (As l s):=by
 unfold mB;rw[aBG l s _ (fun w hw=>by simp only[cR,aV];rw[mi hw (by decide)];rfl) (fun w=>by simp) l 0 [] (by simpa using h)];rfl
def dd:Option Bytes->aJ->aJ
 |_,[]=>[]
 |p,x::xs=>if p=some x then dd (some x) xs else x::dd (some x) xs
theorem Wl:∀ {l:aJ} {p:Option Bytes} {y:Bytes},y∈dd p l->y∈l
 | [],p,y,h=>by cases h
 |x::xs,p,y,h=>by
  simp only[dd]at h;split at h
  ·exact bM.2 (.inr (Wl h))
  ·rcases bM.1 h with rfl|h
   ·simp
   ·exact bM.2 (.inr (Wl h))
theorem a2d:∀ {l:aJ} {p:Option Bytes} {y:Bytes},y∈l->p=some y\/y∈dd p l
 |x::xs,p,y,h=>by
  simp only[dd];rcases bM.1 h with rfl|h
  ·by_cases hp:p=some y
   ·exact .inl hp
   ·rw[bH hp];exact .inr (by simp)
  ·have:=a2d (p:=some x) h;split
   ·rename_i hp;rcases this with e|e
    ·exact .inl (hp.trans e)
    ·exact .inr e
   ·rcases this with e|e
    ·cases e;exact .inr (by simp)
    ·exact .inr (by simp[e])
theorem a68:∀ {l:aJ} {p:Option Bytes},l.Pairwise (fun a b=>Op.bytesLess b a=false)->(∀q,p=some q->∀y∈l,Op.bytesLess y q=false)->SS (dd p l)/\∀q,p=some q->∀y∈dd p l,Op.bytesLess q y=true
 | [],p,_,_=>⟨by simp[dd,SS],by simp[dd]⟩
 |x::xs,p,h,hp=>by
  obtain⟨p1,p2⟩:=kG.1 h;obtain⟨i1,i2⟩:=a68 (l:=xs) (p:=some x) p2 (fun q hq y hy=>by cases hq;exact p1 y hy);simp only[dd];split
  ·rename_i he;exact⟨i1,fun q hq y hy=>by rw[he]at hq;cases hq;exact i2 x rfl y hy⟩
  ·rename_i he;refine⟨kG.2 ⟨fun y hy=>i2 x rfl y hy,i1⟩,fun q hq y hy=>?_⟩;have hqx:Op.bytesLess q x=true:=by
    cases hc:Op.bytesLess q x with
    |true=>rfl
    |false=>exact absurd (by rw[hq,Ki hc (hp q hq x (by simp))]) he
   rcases bM.1 hy with rfl|hy
   ·exact hqx
   ·exact DT hqx (i2 x rfl y hy)
theorem a3X(l:aJ):ol l=l.mergeSort (fun x y=> !Op.bytesLess y x):=by
 unfold ol
 congr 1
 funext x y
 rw[Go.Proofs.bytesLess_eq];rw[bp];simp[List.not_lt]
theorem UB(l:aJ):(ol l).Pairwise (fun a b=>Op.bytesLess b a=false):=by
 rw[a3X];have:=List.pairwise_mergeSort (le:=fun x y=> !Op.bytesLess y x) (fun a b c h1 h2=>by
  simp only[rG]at h1 h2⊢;cases hc:Op.bytesLess c a with
  |false=>rfl
  |true=>
   cases hb:Op.bytesLess b a with
   |true=>rw[h1]at hb;cases hb
   |false=>
    cases YY:Op.bytesLess a b with
    |true=>have:=DT hc YY;rw[h2]at this;cases this
    |false=>have:=Ki hb YY;subst this;rw[h2]at hc;cases hc) (fun a b=>by
  cases hc:Op.bytesLess b a with
  |false=>simp
  |true=>simp[Mc hc]) l
 exact this.imp (fun h=>by simpa using h)
theorem a4j(l:aJ):dd none (ol l)=fM l:=by
 refine OF (a68 (UB l) (by simp)).1 (RY l) (fun x=>?_);rw[x7];have hm:x∈ol l↔x∈l:=(CK l).mem_iff;constructor
 ·intro h;exact hm.1 (Wl h)
 ·intro h;rcases a2d (p:=none) (hm.2 h)with h|h
  ·cases h
  ·exact h
theorem a2K(a:aJ)(k:aJ->Option aJ)(ha:a.length<=1099511627775):∀(rest pre:aJ) (w:aJ),ol ([]++a)=pre++rest->w.length+rest.length<=1099511627775->
 eC a k rest pre.length w=k (w++dd pre.getLast? rest):=by
 have hlen:(ol ([]++a)).length=a.length:=(CK _).length_eq;intro rest
 induction rest with
 |nil=>intro pre w _ _;simp[eC,dd]
 |cons x xs ih=>
  intro pre w h hw;simp only[aK]at hw;have hl:pre.length+(xs.length+1)=a.length:=by rw[<-hlen,h];simp
  have t:=fun w'=>ih (pre++[x]) w' (by rw[h];simp)
  simp only[aX,aK,bK,o5]at t;rw[eC];rcases zH pre with rfl|⟨p,z,hpz⟩
  ·have e0:(((([]:aJ).length:Int):Int)==0)=true:=rfl;rw[e0,aV,mi (by omega) (by decide),aV,t _ (by simp;omega)];simp[dd]
  ·rw[zG]at hpz;subst hpz;have e0:((((p++[z]).length:Int):Int)==0)=false:=by simp;omega
   have e1:IntKind.i64.wrap (((p++[z]).length:Int)-1)=(p.length:Int):=by
    rw[gx (tv.i64.2 (by simp at hl⊢;omega))];simp
   have e2:mK (ol ([]++a)) (p.length:Int)=some z:=zn (xs:=x::xs) (by rw[h];simp);rw[e0,aZ,e1,e2,aA];simp only[dd,o5];by_cases hz:z=x
   ·subst hz;have e3:((z:Bytes)==z)=true:=by simp
    rw[e3,bP,aZ,t _ (by omega),bS rfl]
   ·have e3:((z:Bytes)==x)=false:=by simpa using hz
    rw[e3,cR,aV,mi (by omega) (by decide),aV,t _ (by simp;omega),bH (by simpa using hz)];simp
theorem Te(l:aJ)(h:l.length<1099511627775):kM l=some (fM l):=by
 have hlen:(ol ([]++l)).length=l.length:=(CK _).length_eq;unfold kM;have e1:decide ((([]:aJ)++l).length<4611686018427387904)=true:=by simp;omega
 rw[Vl (by omega) (by decide),aV,e1,aV,xJ (by rw[hlen];omega),aV];have:=a2K l (fun q=>some q) (by omega) (ol ([]++l)) [] [] rfl (by rw[hlen];simp;omega);rw[show([]:aJ).length=0 from rfl]at this;rw[this,<-a4j];simp
theorem aE.Tz{p:aE}{n:Nat}(h:p.wt<=n):p.rel.length<=n:=by unfold aE.wt tw at h;omega
theorem aE.dh{p:aE}{n:Nat}(h:p.wt<=n):p.args.length<=n:=by unfold aE.wt at h;have:=gy tw p.args;omega
theorem aE.vZ{p:aE}{n:Nat}(h:p.wt<=n){x:Bytes}(hx:x∈p.args):x.length<=n:=by unfold aE.wt at h;have:=ic (w:=tw) hx;have e:tw x=x.length:=rfl;omega
theorem aQ.fL{c:aQ}{n:Nat}(h:c.wt<=n):c.pat.wt<=n:=by simp only[aQ.wt,aE.wt]at h⊢;omega
theorem aQ.Co{c:aQ}{n:Nat}(h:c.wt<=n):c.left.length<=n:=by simp only[aQ.wt,tw]at h;omega
theorem aQ.AU{c:aQ}{n:Nat}(h:c.wt<=n):c.right.length<=n:=by simp only[aQ.wt,tw]at h;omega
theorem Action.fL{c:Action}{n:Nat}(h:c.wt<=n):c.pat.wt<=n:=by simp only[Action.wt,aE.wt]at h⊢;omega
theorem aN.Yk{r:aN}{n:Nat}(h:r.wt<=n):r.name.length<=n:=by simp only[aN.wt,tw]at h;omega
theorem aN.uO{r:aN}{n:Nat}(h:r.wt<=n):kA aQ.wt r.conds<=n:=by simp only[aN.wt]at h;omega
theorem aN.Ma{r:aN}{n:Nat}(h:r.wt<=n):kA Action.wt r.cv<=n:=by simp only[aN.wt]at h;omega
theorem aN.sO{r:aN}{n:Nat}(h:r.wt<=n){c:aQ}(hc:c∈r.conds):c.wt<=n:=by have:=aN.uO h;have:=ic (w:=aQ.wt) hc;omega
theorem aN.TD{r:aN}{n:Nat}(h:r.wt<=n){c:Action}(hc:c∈r.cv):c.wt<=n:=by have:=aN.Ma h;have:=ic (w:=Action.wt) hc;omega
theorem P3(f:aE)(h:f.args.length<=1099511627776):fA f=some f:=by
 unfold fA;rw[a3Q _ h];rfl
theorem Oq(f:aE)(h:f.args.length<=1099511627776):eF f=some f:=by
 unfold eF;rw[Tf _ h];rfl
theorem a3M(a b:aE):sG a b=some (decide (a=b)):=by
 obtain⟨a0,a1⟩:=a;obtain⟨b0,b1⟩:=b;unfold sG;simp only[a3N,aA,fH];by_cases h0:a0=b0<;>by_cases h1:a1=b1<;>simp[h0,h1]
theorem a2I(a b:aE):oq a b=some (decide (a=b)):=by
 obtain⟨a0,a1⟩:=a;obtain⟨b0,b1⟩:=b;unfold oq;simp only[a2J,aA,fH];by_cases h0:a0=b0<;>by_cases h1:a1=b1<;>simp[h0,h1]
theorem Xe(a b:aE):jA a b=some (decide (a=b)):=by
 obtain⟨a0,a1⟩:=a;obtain⟨b0,b1⟩:=b;unfold jA;simp only[a3N,aA,fH];by_cases h0:a0=b0<;>by_cases h1:a1=b1<;>simp[h0,h1]
theorem Qw(a b:aE):fR a b=some (decide (a=b)):=by
 obtain⟨a0,a1⟩:=a;obtain⟨b0,b1⟩:=b;unfold fR;simp only[a2J,aA,fH];by_cases h0:a0=b0<;>by_cases h1:a1=b1<;>simp[h0,h1]
theorem U7(a b:aL):nW a b=some (decide (a=b)):=by
 unfold nW;exact SQ (c:=aE.c) (f:=sG) (fun k=>mY a b k) (fun _ _=>rfl) (fun _ _ _ _=>rfl) a3M
theorem Q7(a b:aL):jO a b=some (decide (a=b)):=by
 unfold jO;exact SQ (c:=aE.c) (f:=oq) (fun k=>mN a b k) (fun _ _=>rfl) (fun _ _ _ _=>rfl) a2I
def zE(p:aE):Bool:=p.args.all qe&&(BD p.rel&&decide ((p.args.length:Int)<=3))
def u7(f:aE):Bool:=f.args.all jv&&(BD f.rel&&decide ((f.args.length:Int)<=3))
theorem a3B(f:aE)(h:f.wt<=1048576):pT f=some (u7 f):=by
 unfold pT;rw[ZO (f:=fU) (L:=qF f _) (fun _=>rfl) (fun _ _ _=>rfl) f.args 0 (fun x hx=>PV x (aE.vZ h hx)),a3E _ (aE.Tz h),aA,aa,u7];cases f.args.all jv<;>cases BD f.rel<;>rfl
theorem a2F(f:aE)(h:f.wt<=1048576):pS f=some (u7 f):=by
 unfold pS;rw[ZO (f:=fQ) (L:=pu f _) (fun _=>rfl) (fun _ _ _=>rfl) f.args 0 (fun x hx=>PJ x (aE.vZ h hx)),a2H _ (aE.Tz h),aA,aa,u7];have c:decide ((f.args.length:Int)<=3)= !decide ((f.args.length:Int)>3):=by rw[bp];simp
 rw[c];cases f.args.all jv<;>cases BD f.rel<;>cases decide ((f.args.length:Int)>3)<;>rfl
theorem a8q(f:aE)(h:f.wt<=1048576):jS f=some (zE f):=by
 unfold jS;rw[ZO (f:=jH) (L:=mX f _) (fun _=>rfl) (fun _ _ _=>rfl) f.args 0 (fun x hx=>a3O x (aE.vZ h hx)),a3E _ (aE.Tz h),aA,aa,zE];cases f.args.all qe<;>cases BD f.rel<;>rfl
theorem a8D(f:aE)(h:f.wt<=1048576):jL f=some (zE f):=by
 unfold jL;rw[ZO (f:=jG) (L:=mM f _) (fun _=>rfl) (fun _ _ _=>rfl) f.args 0 (fun x hx=>a2L x (aE.vZ h hx)),a2H _ (aE.Tz h),aA,aa,zE];have c:decide ((f.args.length:Int)<=3)= !decide ((f.args.length:Int)>3):=by rw[bp];simp
 rw[c];cases f.args.all qe<;>cases BD f.rel<;>cases decide ((f.args.length:Int)>3)<;>rfl
def ja(l:aJ):aJ:=l.filter lS
theorem yb(l:aJ):(ja l).length<=l.length:=qi _ _
theorem Sx(a b:aJ):ja (a++b)=ja a++ja b:=List.filter_append _ _
theorem O0(p:aE)(h:p.wt<=1048576):o4 p=some (fM (ja p.args)):=by
 unfold o4;have:∀(r:aJ) (i:Nat) (w:aJ),(∀x∈r,x.length<=1048576)->w.length+r.length<=2097152->lI p (fun q=>some q) r i w=some ((ja r).foldl As w):=by
  intro r
  induction r with
  |nil=>intro i w _ _;rfl
  |cons x r ih=>
   intro i w hr hw;simp only[aK]at hw;have hl:=CE w x;rw[lI,Vn x (hr x (by simp)),aA,Xd w x (by omega),aA,ih _ _ (fun y hy=>hr y (by simp[hy])) (by omega),ih _ _ (fun y hy=>hr y (by simp[hy])) (by omega)];cases hv:lS x<;>simp[ja,hv]
 exact this p.args 0 [] (fun x hx=>aE.vZ h hx) (by have:=aE.dh h;simp;omega)
theorem a2N(l:aJ)(hl:l.length<=2097152)(h:∀x∈l,x.length<=1048576):nF l=some (ja l):=by
 unfold nF;have:∀(r:aJ) (i:Nat) (w:aJ),(∀x∈r,x.length<=1048576)->w.length+r.length<=2097152->fq l (fun q=>some q) r i w=some (w++ja r):=by
  intro r
  induction r with
  |nil=>intro i w _ _;simp[fq,ja]
  |cons x r ih=>
   intro i w hr hw;simp only[aK]at hw;rw[fq,Zp x (hr x (by simp)),aA,mi (by omega) (by decide),ih _ _ (fun y hy=>hr y (by simp[hy])) (by simp;omega),ih _ _ (fun y hy=>hr y (by simp[hy])) (by omega)];cases hv:lS x<;>simp[ja,hv]
 exact this l 0 [] h (by simpa using hl)
def rI(c:aQ):aJ:=ja (c.pat.args++[c.left,c.right])
theorem ze{c:aQ}{n:Nat}(h:c.wt<=n):(rI c).length<=n+2:=by
 have h1:=yb (c.pat.args++[c.left,c.right]);have h2:=aE.dh (aQ.fL h);simp only[aX,aK,bK]at h1;unfold rI;omega
theorem Xb(c:aQ)(h:c.wt<=1048576):me c=some (fM (rI c)):=by
 unfold me;have h1:=aE.dh (aQ.fL h);have h2:=rF (ja c.pat.args);have h3:=yb c.pat.args;have h4:=CE (fM (ja c.pat.args)) c.left;rw[O0 _ (aQ.fL h),aA,Vn _ (aQ.Co h),aA,Vn _ (aQ.AU h)];simp only[aA];rw[Xd _ _ (by omega),Xd _ _ (by omega),aA,Xd _ _ (by omega)];simp only[aA,rI,Sx,Xx];cases hl:lS c.left<;>cases hr:lS c.right<;>simp[ja,hl,hr]
theorem a2M(c:aQ)(h:c.wt<=1048576):tE c=some (c.pat.args++[c.left,c.right]):=by
 unfold tE;have h1:=aE.dh (aQ.fL h);rw[Tf _ (by omega),aA];rw[KV (by simp;omega) (by decide)];rfl
theorem XC(c:aQ)(h:c.wt<=1048576):oo c=some (fM (rI c)):=by
 unfold oo;have h1:=aE.dh (aQ.fL h);have h5:=ze h;rw[a2M c h,aA,a2N _ (by simp;omega) (fun x hx=>by
  simp only[au,bM,sX,GN]at hx;rcases hx with hx|rfl|rfl
  ·exact aE.vZ (aQ.fL h) hx
  ·exact aQ.Co h
  ·exact aQ.AU h),aA]
 rw[show ja (c.pat.args++[c.left,c.right])=rI c from rfl,Te _ (by omega)];rfl
def IP(p:aE):Bool:=p.rel==[]&&decide ((p.args.length:Int)=0)
def si(c:aQ):Bool:=bif decide (c.kind=1)||decide (c.kind=2)then zE c.pat&&(c.left==[]&&c.right==[])else bif decide (c.kind=3)||decide (c.kind=4)||decide (c.kind=5)then IP c.pat&&(qe c.left&&qe c.right)else false
def O2(c:aQ):Bool:=si c&&decide (c.kind>=3)
theorem Kk{c:aQ}(h:si c=true):1<=c.kind/\c.kind<=5:=by
 unfold si at h;by_cases h1:c.kind=1
 ·omega
 by_cases h2:c.kind=2
 ·omega
 by_cases h3:c.kind=3
 ·omega
 by_cases h4:c.kind=4
 ·omega
 by_cases h5:c.kind=5
 ·omega
 simp[h1,h2,h3,h4,h5]at h
theorem a36(c:aQ)(h:c.wt<=1048576):sC c=some (si c):=by
 unfold sC si IP;simp only[a8q _ (aQ.fL h),a3O _ (aQ.Co h),a3O _ (aQ.AU h),aA,aa,fH];by_cases h1:c.kind=1
 ·simp only[h1];cases zE c.pat<;>cases decide (c.left=[])<;>simp
 by_cases h2:c.kind=2
 ·simp only[h2];cases zE c.pat<;>cases decide (c.left=[])<;>simp
 by_cases h3:c.kind=3
 ·simp only[h3];cases decide (c.pat.rel=[])<;>cases decide ((c.pat.args.length:Int)=0)<;>cases qe c.left<;>simp
 by_cases h4:c.kind=4
 ·simp only[h4];cases decide (c.pat.rel=[])<;>cases decide ((c.pat.args.length:Int)=0)<;>cases qe c.left<;>simp
 by_cases h5:c.kind=5
 ·simp only[h5];cases decide (c.pat.rel=[])<;>cases decide ((c.pat.args.length:Int)=0)<;>cases qe c.left<;>simp
 simp[h1,h2,h3,h4,h5]
theorem a6O(p:aE):j0 p=some (IP p):=by
 unfold j0 IP;simp only[aa,fH];cases decide (p.rel=[])<;>rfl
theorem a2C(c:aQ)(h:c.wt<=1048576):ru c=some (si c):=by
 unfold ru si;simp only[a8D _ (aQ.fL h),a2L _ (aQ.Co h),a2L _ (aQ.AU h),a6O,aA,fH];by_cases h1:c.kind=1
 ·simp only[h1];cases zE c.pat<;>cases decide (c.left=[])<;>simp
 by_cases h2:c.kind=2
 ·simp only[h2];cases zE c.pat<;>cases decide (c.left=[])<;>simp
 by_cases h3:c.kind=3
 ·simp only[h3];cases IP c.pat<;>cases qe c.left<;>cases qe c.right<;>simp
 by_cases h4:c.kind=4
 ·simp only[h4];cases IP c.pat<;>cases qe c.left<;>cases qe c.right<;>simp
 by_cases h5:c.kind=5
 ·simp only[h5];cases IP c.pat<;>cases qe c.left<;>cases qe c.right<;>simp
 simp[h1,h2,h3,h4,h5]
theorem a3P(c:aQ)(h:c.wt<=1048576):sE c=some (O2 c):=by
 unfold sE O2;rw[a36 c h];cases si c<;>rfl
theorem aAd(c:aQ)(h:c.wt<=1048576):xa c=some (O2 c):=by
 unfold xa O2;rw[a2C c h];cases si c<;>rfl
theorem a3L(a b:aQ):ou a b=some (decide (a=b)):=by
 obtain⟨a0,a1,a2,a3⟩:=a;obtain⟨b0,b1,b2,b3⟩:=b;unfold ou;simp only[Xe,aA,fH];by_cases h0:a0=b0<;>by_cases h1:a1=b1<;>by_cases h2:a2=b2<;>by_cases h3:a3=b3<;>simp[h0,h1,h2,h3]
theorem Td(a b:aQ):kC a b=some (decide (a=b)):=by
 obtain⟨a0,a1,a2,a3⟩:=a;obtain⟨b0,b1,b2,b3⟩:=b;unfold kC;simp only[Qw,aA,fH];by_cases h0:a0=b0<;>by_cases h1:a1=b1<;>by_cases h2:a2=b2<;>by_cases h3:a3=b3<;>simp[h0,h1,h2,h3]
def QO(a:Action):Bool:=bif decide (a.kind=1)||decide (a.kind=2)then zE a.pat else bif decide (a.kind=3)then IP a.pat else false
theorem aDp(a:Action)(h:a.wt<=1048576):ul a=some (QO a):=by
 unfold ul QO IP;simp only[a8q _ (Action.fL h),aA,aa,fH];by_cases h1:a.kind=1
 ·simp[h1]
 by_cases h2:a.kind=2
 ·simp[h2]
 by_cases h3:a.kind=3
 ·simp only[h3];cases decide (a.pat.rel=[])<;>simp
 simp[h1,h2,h3]
theorem aDS(a:Action)(h:a.wt<=1048576):uT a=some (QO a):=by
 unfold uT QO;simp only[a8D _ (Action.fL h),a6O,aA,fH];by_cases h1:a.kind=1
 ·simp[h1]
 by_cases h2:a.kind=2
 ·simp[h2]
 by_cases h3:a.kind=3
 ·simp[h3]
 simp[h1,h2,h3]
theorem a5S:∀(k v:Nat),v<10^k->1<=k->Lib.nDigits v<=k:=by
 intro k
 induction k with
 |zero=>intro v _ h;omega
 |succ k ih=>
  intro v hv _;by_cases h10:v<10
  ·rw[Lib.nDigits_small h10];omega
  ·rw[Lib.nDigits_big h10];have h3:v/10<10^k:=by rw[yl]at hv;omega
   have hk1:1<=k:=by
    cases k with
    |zero=>simp at hv;omega
    |succ k=>omega
   have:=ih (v/10) h3 hk1;omega
theorem XP{u:Nat}(h:u<=9223372036854775808):Lib.nDigits u<=19:=a5S 19 u (by omega) (by omega)
theorem aCG(u:Nat):UInt8.ofNat (IntKind.u8.wrap (IntKind.i64.wrap (48+((u:Int)%10)))).toNat=UInt8.ofNat (48+u%10):=by
 rw[gx (k:=.i64) (tv.i64.2 (by omega)),gx (tv.u8.2 (by omega))]
 congr 1
theorem a6v(k:Option Bytes):∀(n u:Nat) (acc:Bytes),Lib.nDigits u<=n->acc.length+Lib.nDigits u<=1000->iQ k n (u:Int) acc=some (Lib.decDigits u++acc):=by
 intro n
 induction n with
 |zero=>intro u acc h _;have:=Lib.nDigits_pos u;omega
 |succ n ih=>
  intro u acc hn hl;have hp:=Lib.nDigits_pos u;have e0:(decide (0<=(u:Int))&&decide (0<(10:Int)))=true:=by simp
  have e1:decide (([UInt8.ofNat (48+u%10)]:Bytes).length+(acc:Bytes).length<=maxLen)=true:=by unfold maxLen;simp;omega
  rw[iQ];simp only[aCG,e0,e1,aV];by_cases h10:u<10
  ·have e2:(((u:Int)/10:Int)==0)=true:=by rw[cj];omega
   rw[e2,aV,Lib.decDigits,dif_pos h10,Nat.mod_eq_of_lt h10]
  ·have e2:(((u:Int)/10:Int)==0)=false:=by rw[dH];omega
   have e3:((u:Int)/10)=((u/10:Nat):Int):=by omega
   have hd:=Lib.nDigits_big h10;rw[e2,aZ,e3,ih (u/10) _ (by omega) (by simp;omega)]
   conv=>rhs;rw[Lib.decDigits,dif_neg h10]
   simp
theorem aB8(m u:Nat)(h:u<=9223372036854775807):gm (m+1) (u:Int)=some (Lib.decDigits u):=by
 rw[gm];have e1:((u:Int)==(-9223372036854775808))=false:=by rw[dH];omega
 have e2:decide ((u:Int)<0)=false:=by simp
 have:=XP (u:=u) (by omega);rw[e1,aZ,e2,aZ,a6v _ _ _ _ (by unfold fuel;omega) (by simp;omega)];simp
theorem a2Q:Lib.itoa (-9223372036854775808)=[45,57,50,50,51,51,55,50,48,51,54,56,53,52,55,55,53,56,48,56]:=by
 unfold Lib.itoa;simp[Lib.decDigits]
theorem aB7(n:Int)(h:tv .i64 n):qE n=some (Lib.itoa n):=by
 have h:=tv.i64.1 h;unfold qE;rw[show fuel=4194303+1 from rfl,gm];by_cases hm:n= -9223372036854775808
 ·subst hm;rw[a2Q];rfl
 have e1:((n:Int)==(-9223372036854775808))=false:=by rw[dH];exact hm
 rw[e1,aZ];by_cases hn:n<0
 ·have e2:decide (n<0)=true:=by simpa using hn
  have e3:IntKind.i64.wrap (0-n)=((n.natAbs:Nat):Int):=by rw[gx (tv.i64.2 (by omega))];omega
  have hd:=XP (u:=n.natAbs) (by omega);rw[e2,aV,e3,show(4194303:Nat)=4194302+1 from rfl,aB8 _ _ (by omega),aA];have e4:decide (([45]:Bytes).length+(Lib.decDigits n.natAbs:Bytes).length<=maxLen)=true:=by unfold maxLen;rw[Lib.decDigits_length];simp;omega
  rw[e4,aV];unfold Lib.itoa;rw[bS hn];rfl
 ·have e2:decide (n<0)=false:=by simpa using hn
  have e3:n=((n.toNat:Nat):Int):=by omega
  have:=XP (u:=n.toNat) (by omega);rw[e2,aZ]
  conv=>lhs;rw[e3]
  rw[a6v _ _ _ _ (by unfold fuel;omega) (by simp;omega)];unfold Lib.itoa;rw[bH hn];simp
theorem a8A(n:Int):kr n=some (Lib.itoa n):=by
 unfold kr CC;rfl
theorem Qy(n:Int)(h:tv .i64 n):(Lib.itoa n).length<=21:=by
 have:=tv.i64.1 h;exact Lib.itoa_length_le n this.1 this.2
def FJ(to:aT)(s:Bytes):Bytes:=match to with
 | []=>s
 |p::r=>bif p.var==s then p.value else FJ r s
def RV(to:aT)(x:aQ):aQ:=⟨x.kind,⟨x.pat.rel,x.pat.args.map (FJ to)⟩,FJ to x.left,FJ to x.right⟩
theorem sRn(to:aT)(s:Bytes):lK s to=some (FJ to s):=by
 unfold lK;have:∀(r:aT) (i:Nat),js s to (some s) r i=some (FJ r s):=by
  intro r
  induction r with
  |nil=>intro i;rfl
  |cons x r ih=>
   intro i;rw[js,ih,FJ];cases x.var==s<;>rfl
 exact this to 0
theorem iRn(to:aT)(s:Bytes):iy s to=some (FJ to s):=by
 unfold iy;have:∀(r:aT) (i:Nat),iP s to (some s) r i=some (FJ r s):=by
  intro r
  induction r with
  |nil=>intro i;rfl
  |cons x r ih=>
   intro i;rw[iP,ih,FJ];cases x.var==s<;>rfl
 exact this to 0
theorem a8t(x:aQ)(to:aT)(h:x.pat.args.length<=1099511627770):jx x to=some (RV to x):=by
 unfold jx;rw[sRn,aA,sRn,aA];rw[GF (c:=tx) (b:=16) (f:=fun a=>lK a to) (g:=FJ to) (L:=lH x to (FJ to x.left) (FJ to x.right) _) (k:=_) (by decide) (fun _ _=>rfl) (fun _ _ _ _=>rfl) _ _ _ (fun a _=>sRn to a) (by simp;omega)];rfl
theorem aAZ(x:aQ)(to:aT)(h:x.pat.args.length<=1099511627770):lZ x to=some (RV to x):=by
 unfold lZ;rw[iRn,aA,iRn,aA];rw[GF (c:=tx) (b:=16) (f:=fun a=>iy a to) (g:=FJ to) (L:=l6 x to (FJ to x.left) (FJ to x.right) _) (k:=_) (by decide) (fun _ _=>rfl) (fun _ _ _ _=>rfl) _ _ _ (fun a _=>iRn to a) (by simp;omega)];rfl
def I1(l:aT)(t:Bytes):Bool:=l.any fun p=>p.var==t
def jZ(l:aT)(t:Bytes):aT:=bif lS t&& !I1 l t then l++[⟨t,[63]++Lib.itoa ((l.length:Int)+1)⟩]else l
theorem E1(l:aT)(t:Bytes):(jZ l t).length<=l.length+1:=by
 unfold jZ;cases lS t&& !I1 l t<;>simp
theorem Am:∀(ts:aJ) (l:aT),(ts.foldl jZ l).length<=l.length+ts.length
 | [],l=>by simp
 |t::ts,l=>by
  have h1:=Am ts (jZ l t);have h2:=E1 l t;rw[dK,aK];omega
theorem U5(l:aT)(t:Bytes)(hl:l.length<=1099511627770)(ht:t.length<=1048576):pV l t=some (jZ l t):=by
 unfold pV;rw[Vn t ht,aA,jZ];cases hv:lS t with
 |false=>rfl
 |true=>
  rw[bP,aZ,fO];have key:∀(k:Option aT) (r:aT) (i:Nat),nk l t k r i=bif I1 r t then some l else k:=by
   intro k r
   induction r with
   |nil=>intro i;rfl
   |cons x r ih=>
    intro i;rw[nk,ih];simp only[I1,vF];cases x.var==t<;>simp
  rw[key];cases I1 l t with
  |true=>rfl
  |false=>
   have e1:IntKind.i64.wrap (((l.map aS.c).length:Int)+1)=(l.length:Int)+1:=by rw[gx (tv.i64.2 (by simp;omega))];simp
   have hr:tv .i64 ((l.length:Int)+1):=tv.i64.2 (by omega);have hi:=Qy _ hr;have e2:decide (([63]:Bytes).length+(Lib.itoa ((l.length:Int)+1):Bytes).length<=maxLen)=true:=by unfold maxLen;simp;omega
   simp only[aZ,cR,aV];rw[e1,aB7 _ hr,aA,e2,aV,mi (by omega) (by decide)];rfl
theorem VW(x y:Bytes):∀(m:List (Bytes×Bool)),Np false y (R7 x true m)=(y==x||Np false y m)
 | []=>by simp only[R7,Np];cases y==x<;>rfl
 |p::m=>by
  simp only[R7];cases h:x==p.1 with
  |true=>
   have h':x=p.1:=by simpa using h
   subst h';simp only[aV,Np];cases y==p.1<;>simp
  |false=>
   simp only[aZ,Np,VW x y m];cases hy:y==p.1 with
   |true=>
    have h1:y=p.1:=by simpa using hy
    have h2:(y==x)=false:=by
     rw[dH]at h⊢;intro e;exact h (e.symm.trans h1)
    simp[h2]
   |false=>simp
theorem Zj(l:aT)(x y v:Bytes):I1 (l++[⟨x,v⟩]) y=(y==x||I1 l y):=by
 have:(x==y)=(y==x):=by rw[bp,cj,cj];exact eq_comm
 simp only[I1,List.any_append,vF,MS,vE,this];cases y==x<;>simp
theorem Yf(ts:aJ)(hl:ts.length<=1099511627700)(h:∀x∈ts,x.length<=1048576):oM ts=some (ts.foldl jZ []):=by
 unfold oM;have key:∀(r:aJ) (i:Nat) (w:aT) (m:List (Bytes×Bool)),(∀x∈r,x.length<=1048576)->w.length+r.length<=1099511627700->(∀y,Np false y m=I1 w y)->
  fJ ts (fun q=>some q) r i w m=some (r.foldl jZ w):=by
  intro r
  induction r with
  |nil=>intro i w m _ _ _;rfl
  |cons x r ih=>
   intro i w m hx hw hm;simp only[aK]at hw;have hr:tv .i64 ((w.length:Int)+1):=tv.i64.2 (by omega);have hi:=Qy _ hr;have e1:IntKind.i64.wrap (((w.map aS.c).length:Int)+1)=(w.length:Int)+1:=by rw[gx (tv.i64.2 (by simp;omega))];simp
   have e2:decide (([63]:Bytes).length+(Lib.itoa ((w.length:Int)+1):Bytes).length<=maxLen)=true:=by unfold maxLen;simp;omega
   rw[fJ,Zp x (hx x (by simp)),aA,dK,jZ,hm x];cases hv:lS x with
   |false=>simp only[aZ,Bool.false_and];exact ih _ _ _ (fun y hy=>hx y (by simp[hy])) (by omega) hm
   |true=>
    cases hh:I1 w x with
    |true=>simp only[aV,bP,aZ,fO];exact ih _ _ _ (fun y hy=>hx y (by simp[hy])) (by omega) hm
    |false=>
     simp only[aV,cR,fO];rw[e1,a8A,aA,e2,aV,mi (by omega) (by decide),aV];exact ih _ _ _ (fun y hy=>hx y (by simp[hy])) (by simp;omega) (fun y=>by rw[VW,Zj,hm])
 exact key ts 0 [] [] h (by simpa using hl) (fun y=>rfl)
def vu(p:aE):aE:=(RV (p.args.foldl jZ []) ⟨0,p,[],[]⟩).pat
theorem a8w(p:aE)(h:p.wt<=1048576):td p=some (vu p):=by
 have hl:=aE.dh h;unfold td;have key:∀(k:aT->Option aE) (r:aJ) (i:Nat) (w:aT),(∀x∈r,x.length<=1048576)->w.length+r.length<=1099511627700->lz p k r i w=k (r.foldl jZ w):=by
  intro k r
  induction r with
  |nil=>intro i w _ _;rfl
  |cons x r ih=>
   intro i w hx hw;simp only[aK]at hw;have:=E1 w x;rw[lz,U5 w x (by omega) (hx x (by simp)),aA,ih _ _ (fun y hy=>hx y (by simp[hy])) (by omega)];rfl
 rw[key _ _ _ _ (fun x hx=>aE.vZ h hx) (by simp;omega),a8t _ _ (by simp;omega)];rfl
theorem a8I(p:aE)(h:p.wt<=1048576):sv p=some (vu p):=by
 have hl:=aE.dh h;unfold sv;rw[Yf _ (by omega) (fun x hx=>aE.vZ h hx),aA,aAZ _ _ (by simp;omega)];rfl
def Au(l:aq):aJ:=l.flatMap fun c=>c.pat.args++[c.left,c.right]
theorem Xn(l:aq):(Au l).length<=3*kA aQ.wt l:=by
 unfold Au
 induction l with
 |nil=>simp
 |cons x l ih=>
  rw[dO,aX,qh];have:=aE.dh (aQ.fL (c:=x) (bR _));simp only[aX,aK,bK];omega
def qZ(r:aN):aT:=(Au r.conds).foldl jZ []
def gw(r:aN):aq:=r.conds.map (RV (qZ r))
theorem a3F(a:aN)(i:Nat)(c:aQ)(k:aT->Option aT):∀(r:aJ) (j:Nat) (w:aT),(∀x∈r,x.length<=1048576)->w.length+r.length<=1099511627700->j8 a i c k r j w=k (r.foldl jZ w):=by
 intro r
 induction r with
 |nil=>intro i w _ _;rfl
 |cons x r ih=>
  intro i w hx hw;simp only[aK]at hw;have:=E1 w x;rw[j8,U5 w x (by omega) (hx x (by simp)),aA,ih _ _ (fun y hy=>hx y (by simp[hy])) (by omega)];rfl
theorem a8o(r:aN)(h:r.wt<=1048576):rT r=some (qZ r):=by
 unfold rT;have key:∀(l:aq) (i:Nat) (w:aT),(∀c∈l,c.wt<=1048576)->w.length+3*kA aQ.wt l<=1099511627700->j7 r (fun q=>some q) l i w=some ((Au l).foldl jZ w):=by
  intro l
  induction l with
  |nil=>intro i w _ _;rfl
  |cons c l ih=>
   intro i w hc hw;rw[qh]at hw;have X1:=hc c (by simp);have ha:=aE.dh (aQ.fL (c:=c) (bR _));have h1:=Am c.pat.args w;have h2:=E1 (c.pat.args.foldl jZ w) c.left;have h3:=E1 (jZ (c.pat.args.foldl jZ w) c.left) c.right;rw[j7,xJ (by omega),aV,a3F _ _ _ _ _ _ _ (fun x hx=>aE.vZ (aQ.fL X1) hx) (by omega),U5 _ _ (by omega) (aQ.Co X1),aA,U5 _ _ (by omega) (aQ.AU X1),aA,
    ih _ _ (fun y hy=>hc y (by simp[hy])) (by omega)]
   simp[Au]
 have:=aN.uO h;exact key r.conds 0 [] (fun c hc=>aN.sO h hc) (by simp;omega)
theorem a8C(r:aN)(h:r.wt<=1048576):rL r=some (qZ r):=by
 unfold rL;have hw:=aN.uO h;have key:∀(k:aJ->Option aT) (l:aq) (i:Nat) (w:aJ),(∀c∈l,c.wt<=1048576)->w.length+3*kA aQ.wt l<=1099511627700->gQ r k l i w=k (w++Au l):=by
  intro k l
  induction l with
  |nil=>intro i w _ _;simp[gQ,Au]
  |cons c l ih=>
   intro i w hc hw;rw[qh]at hw;have X1:=hc c (by simp);have ha:=aE.dh (aQ.fL (c:=c) (bR _));rw[gQ,a2M c X1,aA,a30 (by simp;omega) (by decide),aV,ih _ _ (fun y hy=>hc y (by simp[hy])) (by simp;omega)];simp[Au]
 have hl:=Xn r.conds;rw[key _ _ _ _ (fun c hc=>aN.sO h hc) (by simp;omega),cI,Yf _ (by omega) ?_]
 ·rfl
 ·intro x hx;unfold Au at hx;obtain⟨c,hc,hx⟩:=cE.1 hx;have X1:=aN.sO h hc;rcases au.1 hx with hx|hx
  ·exact aE.vZ (aQ.fL X1) hx
  ·simp only[bM,sX,GN]at hx;rcases hx with rfl|rfl
   ·exact aQ.Co X1
   ·exact aQ.AU X1
theorem a8i(r:aN)(h:r.wt<=1048576):rS r=some (gw r):=by
 unfold rS;have hw:=aN.uO h;have hl:=gy aQ.wt r.conds;rw[a8o r h,aA];rw[GF (c:=aQ.c) (b:=80) (f:=fun a=>jx a (qZ r)) (g:=RV (qZ r)) (L:=lG r (qZ r) _) (k:=_) (by decide) (fun _ _=>rfl) (fun _ _ _ _=>rfl) _ _ _ (fun c hc=>a8t c _ (by have:=aE.dh (aQ.fL (aN.sO h hc));omega)) (by simp;omega)];simp[gw]
theorem a83(r:aN)(h:r.wt<=1048576):rK r=some (gw r):=by
 unfold rK;have hw:=aN.uO h;have hl:=gy aQ.wt r.conds;rw[a8C r h,aA];rw[GF (c:=aQ.c) (b:=80) (f:=fun a=>lZ a (qZ r)) (g:=RV (qZ r)) (L:=kz r (qZ r) _) (k:=_) (by decide) (fun _ _=>rfl) (fun _ _ _ _=>rfl) _ _ _ (fun c hc=>aAZ c _ (by have:=aE.dh (aQ.fL (aN.sO h hc));omega)) (by simp;omega)];simp[gw]
def NOk(n:aF):Prop:=n.nodes.length<=1048576/\∀x∈n.nodes,x.cond.wt<=1048576
theorem a5a(s:Bytes):FJ [] s=s:=rfl
theorem a2u(x:aQ):RV [] x=x:=by
 have:x.pat.args.map (FJ [])=x.pat.args:=by
  rw[show(FJ [])=id from funext a5a];simp
 unfold RV;rw[this];rfl
def dD(i:Nat):Int:=(i:Int)
def S5(ns:ay):Nat->Nat->af
 |0,_=>[]
 |k+1,v=>v::(match ns[v]? with
  |some x=>if 1<=x.parent/\x.parent<(v:Int)then S5 ns k x.parent.toNat else []
  |none=>[])
def D0(ns:ay)(i:Nat):Option aQ:=(ns[i]?).map Node.cond
def KS(ns:ay)(k v:Nat):aq:=(S5 ns k v).reverse.filterMap (D0 ns)
def eg(ns:ay)(v:Int):aq:=if 1<=v/\v<(ns.length:Int)then KS ns v.toNat v.toNat else []
theorem WA{ns:ay}{k v:Nat}{x:Node}(hx:ns[v]?=some x):S5 ns (k+1) v=v::(if 1<=x.parent/\x.parent<(v:Int)then S5 ns k x.parent.toNat else []):=by simp only[S5,hx]
theorem a3m(ns:ay):∀(k v:Nat),v<ns.length->∀i∈S5 ns k v,i<ns.length
 |0,v,_,i,hi=>by cases hi
 |k+1,v,hv,i,hi=>by
  rw[S5]at hi;rcases bM.1 hi with rfl|hi
  ·exact hv
  ·split at hi
   ·split at hi
    ·rename_i x hx hp;exact a3m ns k _ (by omega) i hi
    ·cases hi
   ·cases hi
theorem Z6(ns:ay):∀(k v:Nat),(S5 ns k v).length<=k
 |0,v=>by simp[S5]
 |k+1,v=>by
  rw[S5,aK];split
  ·split
   ·have:=Z6 ns k (by assumption:Node).parent.toNat;omega
   ·simp
  ·simp
theorem RQ{ns:ay}{k v:Nat}{x:Node}(hx:ns[v]?=some x):KS ns (k+1) v=(if 1<=x.parent/\x.parent<(v:Int)then KS ns k x.parent.toNat else [])++[x.cond]:=by
 have hc:D0 ns v=some x.cond:=by unfold D0;rw[hx];rfl
 unfold KS;rw[WA hx];by_cases hp:1<=x.parent/\x.parent<(v:Int)
 ·rw[bS hp,bS hp];simp[hc]
 ·rw[bH hp,bH hp];simp[hc]
theorem U2(x:aQ)(h:x.pat.args.length<=1099511627770):kB x=some x:=by
 unfold kB;rw[a8t x [] h,aA,a2u]
theorem TZ(x:aQ)(h:x.pat.args.length<=1099511627770):fF x=some x:=by
 unfold fF eG;rw[Tf x.pat.args (by omega)];rfl
theorem a8r(n:aF)(h:NOk n)(K:aq->Option aq):∀(k v fu:Nat) (w:aq),v<=k->1<=v->v<n.nodes.length->k<fu->w.length+k<=4194304->jU n K fu (v:Int) w=K (KS n.nodes k v++w):=by
 have hl:=h.1;intro k
 induction k with
 |zero=>intro v fu w h1 h2;omega
 |succ k ih=>
  intro v fu w h1 h2 h3 h4 h5;obtain⟨fu,rfl⟩:∃m,fu=m+1:=⟨fu-1,by omega⟩
  have hx:n.nodes[v]?=some n.nodes[v]:=ai h3;have hw:=h.2 _ (DM h3);generalize hxe:n.nodes[v]=x at*;have e1:IntKind.i64.wrap (((n.nodes.map Node.c).length:Int)-1)=(n.nodes.length:Int)-1:=by rw[aa];exact gx (tv.i64.2 (by omega))
  have e2:(decide ((v:Int)>=1)&&decide ((v:Int)<=(n.nodes.length:Int)-1))=true:=by simp;omega
  have e3:mK n.nodes (v:Int)=some x:=by unfold mK;rw[bU (by omega),aV];exact hx
  have e4:=U2 x.cond (by have:=aE.dh (aQ.fL hw);omega);rw[jU,e1,Ni,aA,e2,aV,e3,aA,e4,aA,KV (by simp;omega) (by decide),aV,RQ hx];by_cases h6:x.parent>=(v:Int)
  ·rw[bU h6,aV,bH (by omega)];rfl
  ·rw[bA h6,aZ];by_cases h7:1<=x.parent
   ·rw[bS ⟨h7,by omega⟩];obtain⟨m,hm⟩:=oC (by omega:0<=x.parent);rw[hm];rw[ih m fu ([x.cond]++w) (by omega) (by omega) (by omega) (by omega) (by simp;omega)];simp
   ·rw[bH (by omega)];obtain⟨fu,rfl⟩:∃m,fu=m+1:=⟨fu-1,by omega⟩
    have e5:(decide (x.parent>=1)&&decide (x.parent<=(n.nodes.length:Int)-1))=false:=by
     rw[bA (by omega)];rfl
    rw[jU,e1,Ni,aA,e5,aZ];rfl
theorem a8s(n:aF)(v:Int)(h:NOk n):xj n v=some (eg n.nodes v):=by
 have hl:=h.1;unfold xj eg;by_cases hv:1<=v/\v<(n.nodes.length:Int)
 ·rw[bS hv];obtain⟨m,rfl⟩:=oC (by omega:0<=v);rw[a8r n h _ m m fuel [] (bR _) (by omega) (by omega) (by unfold fuel;omega) (by simp;omega)];simp
 ·rw[bH hv];have e1:IntKind.i64.wrap (((n.nodes.map Node.c).length:Int)-1)=(n.nodes.length:Int)-1:=by rw[aa];exact gx (tv.i64.2 (by omega))
  have e2:(decide (v>=1)&&decide (v<=(n.nodes.length:Int)-1))=false:=by
   by_cases h1:1<=v
   ·have h2:¬v<=(n.nodes.length:Int)-1:=by omega
    rw[bA h2,yg]
   ·rw[bA h1];rfl
  rw[show fuel=4194303+1 from rfl,jU,e1,Ni,aA,e2,aZ]
theorem a56(n:aF)(h:NOk n)(K:bI->Option aq):∀(k v fu:Nat) (w:bI),v<=k->1<=v->v<n.nodes.length->k<fu->w.length+k<=4194304->nC n K fu (v:Int) w=K (w++(S5 n.nodes k v).map dD):=by
 have hl:=h.1;intro k
 induction k with
 |zero=>intro v fu w h1 h2;omega
 |succ k ih=>
  intro v fu w h1 h2 h3 h4 h5;obtain⟨fu,rfl⟩:∃m,fu=m+1:=⟨fu-1,by omega⟩
  have hx:n.nodes[v]?=some n.nodes[v]:=ai h3;generalize hxe:n.nodes[v]=x at*;have e3:mK n.nodes (v:Int)=some x:=by unfold mK;rw[bU (by omega),aV];exact hx
  rw[nC,mi (by omega) (by decide),aV,e3,aA,WA hx];by_cases h7:x.parent<1
  ·rw[bU h7,aV,bH (by omega)];rfl
  ·rw[bA h7,aZ];by_cases h6:x.parent>=(v:Int)
   ·rw[bU h6,aV,bH (by omega)];rfl
   ·rw[bA h6,aZ,bS ⟨by omega,by omega⟩];obtain⟨m,hm⟩:=oC (by omega:0<=x.parent);rw[hm,ih m fu (w++[(v:Int)]) (by omega) (by omega) (by omega) (by omega) (by simp;omega)];simp[dD]
theorem a57(n:aF)(h:NOk n)(us:af)(xI:∀i∈us,i<n.nodes.length)(hul:us.length<=1048576)(K:aq->Option aq):∀(j fu:Nat) (w:aq),j<=us.length->j<fu->w.length+j<=4194304->kx n (us.map dD) K fu ((j:Int)-1) w=K (w++((us.take j).reverse.filterMap (D0 n.nodes))):=by
 intro j
 induction j with
 |zero=>
  intro fu w _ hf _;obtain⟨fu,rfl⟩:∃m,fu=m+1:=⟨fu-1,by omega⟩
  rw[kx,bA (by omega),aZ];simp
 |succ j ih=>
  intro fu w hj hf hw;obtain⟨fu,rfl⟩:∃m,fu=m+1:=⟨fu-1,by omega⟩
  have hlt:j<us.length:=by omega
  have h3:=xI us[j] (DM hlt);have hx:n.nodes[us[j]]?=some n.nodes[us[j]]:=ai h3;have hww:=h.2 _ (DM h3);generalize hxe:n.nodes[us[j]]=x at*;have e0:((j+1:Nat):Int)-1=(j:Int):=by omega
  have e1:mK (us.map dD) (j:Int)=some ((us[j]:Nat):Int):=by
   unfold mK;rw[bU (by omega),aV];show(us.map dD)[(j:Int).toNat]?=_;rw[oD,cA,ai hlt];rfl
  have e3:mK n.nodes ((us[j]:Nat):Int)=some x:=by unfold mK;rw[bU (by omega),aV];exact hx
  have e4:=TZ x.cond (by have:=aE.dh (aQ.fL hww);omega);have e5:IntKind.i64.wrap ((j:Int)-1)=(j:Int)-1:=gx (tv.i64.2 (by omega));rw[e0,kx,bU (by omega),aV,e1,aA,e3,aA,e4,aA,mi (by omega) (by decide),aV,e5,ih fu _ (by omega) (by omega) (by simp;omega)];have hc:D0 n.nodes us[j]=some x.cond:=by unfold D0;rw[hx];rfl
  have ht:us.take (j+1)=us.take j++[us[j]]:=by rw[List.take_add_one,ai hlt];rfl
  rw[ht,List.reverse_append,List.filterMap_append];simp[hc]
theorem a8E(n:aF)(v:Int)(h:NOk n):xb n v=some (eg n.nodes v):=by
 have hl:=h.1;unfold xb eg;rw[aa];by_cases h1:v<1
 ·rw[bU h1,aV,bH (by omega)]
 ·rw[bA h1,aZ];by_cases h2:v>=(n.nodes.length:Int)
  ·rw[bU h2,aV,bH (by omega)]
  ·rw[bA h2,aZ,bS ⟨by omega,by omega⟩];obtain⟨m,rfl⟩:=oC (by omega:0<=v);rw[a56 n h _ m m fuel [] (bR _) (by omega) (by omega) (by unfold fuel;omega) (by simp;omega)];have hul:=Z6 n.nodes m m;have e5:IntKind.i64.wrap ((((([]:bI)++(S5 n.nodes m m).map dD).map dL).length:Int)-1)=(((S5 n.nodes m m).length:Nat):Int)-1:=by
    rw[cI,aa,aa];exact gx (tv.i64.2 (by omega))
   rw[e5,cI,a57 n h (S5 n.nodes m m) (a3m n.nodes m m (by omega)) (by omega) _ (S5 n.nodes m m).length fuel [] (bR _) (by unfold fuel;omega) (by simp;omega),List.take_length];rfl
def nmB(k:Nat):Bytes:=[63]++Lib.itoa ((k:Int)+1)
theorem decDigits_one{u:Nat}(h:u<10):Lib.decDigits u=[UInt8.ofNat (48+u)]:=by
 rw[Lib.decDigits,dif_pos h]
theorem QA:∀i,i<6->nmB i=[63,UInt8.ofNat (49+i)]
 |0,_|1,_|2,_|3,_|4,_|5,_=>by
  unfold nmB Lib.itoa;rw[bH (by decide),decDigits_one (by decide)];decide
 |n+6,h=>by omega
theorem a5U:∀i,i<6->∀j,j<6->nmB i=nmB j->i=j:=by
 intro i hi j hj e;rw[QA i hi,QA j hj]at e
 revert i j
 decide
theorem Tq:∀i,i<6->lS (nmB i)=true:=by
 intro i hi;rw[QA i hi]
 revert i
 decide
def YB(N:aT):Prop:=∀(i:Nat) p,N[i]?=some p->p.value=nmB i/\lS p.var=true
theorem VB(N:aT)(t:Bytes):I1 N t=true↔∃p∈N,p.var=t:=by simp[I1]
theorem a04(N:aT)(t:Bytes){p:aS}(h:p∈N):p∈jZ N t:=by
 unfold jZ;cases lS t&& !I1 N t<;>simp[h]
theorem V9:∀(ts:aJ) (N:aT) {p:aS},p∈N->p∈ts.foldl jZ N
 | [],_,_,h=>h
 |t::ts,N,p,h=>V9 ts (jZ N t) (a04 N t h)
theorem a3t{N:aT}(h:YB N)(t:Bytes):YB (jZ N t):=by
 unfold jZ;cases hv:lS t&& !I1 N t with
 |false=>exact h
 |true=>
  simp only[aY]at hv;intro i p hp;rw[aV]at hp;rcases eR i N.length with hlt|hge
  ·rw[b9 hlt]at hp;exact h i p hp
  ·rw[bE hge]at hp;cases hi:i-N.length with
   |zero=>
    rw[hi]at hp;simp at hp;subst hp;have:i=N.length:=by omega
    subst this;exact⟨rfl,hv.1⟩
   |succ m=>rw[hi]at hp;simp at hp
theorem F7:∀(ts:aJ) {N:aT},YB N->YB (ts.foldl jZ N)
 | [],_,h=>h
 |t::ts,_,h=>F7 ts (a3t h t)
def WJ(N:aT):Prop:=(N.map aS.var).Nodup
theorem a06{N:aT}(h:WJ N)(t:Bytes):WJ (jZ N t):=by
 unfold jZ;cases hv:lS t&& !I1 N t with
 |false=>exact h
 |true=>
  simp only[aY,rG]at hv;rw[aV];unfold WJ;rw[bN,bO];refine⟨h,by simp,?_⟩;intro a ha b hb e;simp at hb;subst hb;subst e;obtain⟨p,hp,he⟩:=cJ.1 ha;have:=(VB N a).2 ⟨p,hp,he⟩;rw[hv.2]at this;cases this
theorem E2:∀(ts:aJ) {N:aT},WJ N->WJ (ts.foldl jZ N)
 | [],_,h=>h
 |t::ts,_,h=>E2 ts (a06 h t)
theorem Na:∀(ts:aJ) (N:aT) {t:Bytes},t∈ts->lS t=true->∃p∈ts.foldl jZ N,p.var=t
 |x::ts,N,t,h,hv=>by
  rcases bM.1 h with rfl|h
  ·have:∃p∈jZ N t,p.var=t:=by
    unfold jZ;cases hh:I1 N t with
    |true=>rw[hv];exact(VB N t).1 hh
    |false=>rw[hv];exact⟨⟨t,[63]++Lib.itoa ((N.length:Int)+1)⟩,by simp,rfl⟩
   obtain⟨p,hp,he⟩:=this;exact⟨p,V9 ts _ hp,he⟩
  ·exact Na ts _ h hv
theorem Nw:∀ {N:aT} {p:aS},WJ N->p∈N->FJ N p.var=p.value
 |q::N,p,hn,hp=>by
  unfold WJ at hn;rw[bG,fD]at hn;rcases bM.1 hp with rfl|hp
  ·simp[FJ]
  ·have hne:(q.var==p.var)=false:=by
    rw[dH];intro e;exact hn.1 (by rw[e];exact cJ.2 ⟨p,hp,rfl⟩)
   rw[FJ,hne,aZ];exact Nw (show WJ N from hn.2) hp
theorem Oz:∀ {N:aT} {t:Bytes},(∀p∈N,p.var≠t)->FJ N t=t
 | [],t,_=>rfl
 |q::N,t,h=>by
  have hne:(q.var==t)=false:=by rw[dH];exact h q (by simp)
  rw[FJ,hne,aZ];exact Oz fun p hp=>h p (by simp[hp])
theorem YB.nil:YB []:=fun i p h=>by simp at h
theorem WJ.nil:WJ []:=by simp[WJ]
theorem Cm(ts:aJ):(ts.foldl jZ []).length<=ts.length:=by simpa using Am ts []
theorem P8{N:aT}(h:YB N){p:aS}(hp:p∈N):∃i,i<N.length/\N[i]?=some p/\p.value=nmB i/\lS p.var=true:=by
 obtain⟨i,hi⟩:=cq hp;exact⟨i,(aH.1 hi).1,hi,h i p hi⟩
theorem RE{ts:aJ}{t:Bytes}(ht:lS t=false):FJ (ts.foldl jZ []) t=t:=
 Oz fun p hp e=>by
  obtain⟨i,_,_,_,hv⟩:=P8 (F7 ts YB.nil) hp;rw[e,ht]at hv;cases hv
theorem MI(p:aE):(vu p).args=p.args.map (FJ (p.args.foldl jZ [])):=rfl
theorem Ym:∀i,i<6->(nmB i).length<=16:=by
 intro i hi;rw[QA i hi];simp
theorem a8e{ts:aJ}(hl:ts.length<=5){t:Bytes}(ht:t.length<=16):(FJ (ts.foldl jZ []) t).length<=16:=by
 by_cases h:∃p∈ts.foldl jZ [],p.var=t
 ·obtain⟨p,hp,he⟩:=h;rw[<-he,Nw (E2 ts WJ.nil) hp];obtain⟨i,hi,_,hpv,_⟩:=P8 (F7 ts YB.nil) hp;have:=Cm ts;rw[hpv];exact Ym i (by omega)
 ·rw[Oz (fun p hp e=>h ⟨p,hp,e⟩)];exact ht
def unB(N:aT)(x:Bytes):Bytes:=match N with
 | []=>x
 |p::r=>bif p.value==x then p.var else unB r x
theorem Z5:∀ {N:aT} {p:aS},(N.map aS.value).Nodup->p∈N->unB N p.value=p.var
 |q::N,p,hn,hp=>by
  rw[bG,fD]at hn;rcases bM.1 hp with rfl|hp
  ·simp[unB]
  ·have hne:(q.value==p.value)=false:=by
    rw[dH];intro e;exact hn.1 (by rw[e];exact cJ.2 ⟨p,hp,rfl⟩)
   rw[unB,hne,aZ];exact Z5 hn.2 hp
theorem P6:∀ {N:aT} {t:Bytes},(∀p∈N,p.value≠t)->unB N t=t
 | [],t,_=>rfl
 |q::N,t,h=>by
  have hne:(q.value==t)=false:=by rw[dH];exact h q (by simp)
  rw[unB,hne,aZ];exact P6 fun p hp=>h p (by simp[hp])
theorem Xy{N:aT}(h:YB N)(hl:N.length<=5):(N.map aS.value).Nodup:=by
 unfold List.Nodup;rw[List.pairwise_iff_getElem];intro i j hi0 hj hij e;rw[aa]at hj;rw[List.getElem_map,List.getElem_map]at e;have h1:=(h i _ (ai (by omega))).1;have h2:=(h j _ (ai hj)).1;rw[h1,h2]at e;have:=a5U i (by omega) j (by omega) e;omega
theorem aBO{ts:aJ}(hl:ts.length<=5){t:Bytes}(ht:t∈ts)(hT:qe t=true):unB (ts.foldl jZ []) (FJ (ts.foldl jZ []) t)=t:=by
 have hw:=F7 ts YB.nil;have hlen:=Cm ts;cases hv:lS t with
 |true=>
  obtain⟨p,hp,he⟩:=Na ts [] ht hv;rw[<-he,Nw (E2 ts WJ.nil) hp,Z5 (Xy hw (by omega)) hp]
 |false=>
  rw[RE hv];refine P6 fun p hp e=>?_
  obtain⟨i,hi,_,hpv,_⟩:=P8 hw hp;have:=Tq i (by omega);rw[<-hpv,e,hv]at this;cases this
theorem a0L{p:aE}(h:zE p=true)(hl:p.args.length<=5):zE (vu p)=true:=by
 unfold zE at h⊢;rw[aY]at h⊢;refine⟨?_,?_⟩
 ·rw[MI,EC,bB];intro t ht;have hT:=bB.1 h.1 t ht;show qe (FJ _ t)=true;cases hv:lS t with
  |false=>rw[RE hv];exact hT
  |true=>
   obtain⟨q,hq,he⟩:=Na p.args [] ht hv;obtain⟨i,hi,_,hpv,_⟩:=P8 (F7 p.args YB.nil) hq;have:=Cm p.args;rw[<-he,Nw (E2 p.args WJ.nil) hq,hpv];unfold qe;rw[Tq i (by omega)];simp
 ·have:=h.2;rw[aY]at this⊢;refine⟨this.1,?_⟩;rw[MI,aa];exact this.2
def Pf(c:aQ):aJ:=bif decide (c.kind=1)then ja c.pat.args else []
theorem a1M{c:aQ}:(Pf c).length<=c.wt:=by
 unfold Pf;have h2:=yb c.pat.args;have h3:=aE.dh (aQ.fL (bR c.wt));cases decide (c.kind=1)<;>simp;omega
def CW(r:aN)(n:Int):aJ:=(r.conds.take n.toNat).flatMap Pf
theorem Sr{α:Type}(x:α)(xs:List α)(n:Int)(i:Nat):(x::xs).take (n-(i:Int)).toNat=if(i:Int)<n then x::xs.take (n-((i+1:Nat):Int)).toNat else []:=by
 by_cases h:(i:Int)<n
 ·rw[bS h];obtain⟨m,hm⟩:∃m,(n-(i:Int)).toNat=m+1:=⟨(n-(i:Int)).toNat -1,by omega⟩
  have:(n-((i+1:Nat):Int)).toNat=m:=by omega
  rw[hm,this];rfl
 ·rw[bH h,show(n-(i:Int)).toNat=0 from by omega];rfl
theorem Hw{α β:Type}{f:α->List β}{w:α->Nat}(l:List α)(h:∀x∈l,(f x).length<=w x+2):(l.flatMap f).length<=3*kA w l:=by
 induction l with
 |nil=>simp[kA]
 |cons x l ih=>
  rw[dO,aX,qh];have h1:=h x (by simp);have h2:=ih (fun y hy=>h y (by simp[hy]));omega
theorem a1N{r:aN}{n:Nat}(h:r.wt<=n)(m:Int):(CW r m).length<=3*n:=by
 unfold CW;have h1:=Hw (w:=aQ.wt) (f:=Pf) (r.conds.take m.toNat) (fun c _=>by have:= @a1M c;omega);have h2:kA aQ.wt (r.conds.take m.toNat)<=kA aQ.wt r.conds:=by
  conv=>rhs;rw[<-cD m.toNat r.conds]
  rw[Y0];omega
 have h3:=aN.uO h;omega
theorem a34(a:aN)(n:Int)(i:Nat)(y:aJ)(k:aJ->Option aJ):∀(l:aJ) (j:Nat) (w:aJ),w.length+l.length<=1099511627770->ji a n i y k l j w=k (l.foldl As w):=by
 intro l
 induction l with
 |nil=>intro j w _;rfl
 |cons x l ih=>
  intro j w hw;simp only[aK]at hw;have:=CE w x;rw[ji,Xd w x (by omega),aA,ih _ _ (by omega)];rfl
theorem a5d(a:aN)(n:Int)(k:aJ->Option aJ):∀(l:aq) (i:Nat) (acc:aJ),(∀c∈l,c.wt<=1048576)->acc.length+kA aQ.wt l<=2097152->
 fw a n k l i (fM acc)=k (fM (acc++(l.take (n-(i:Int)).toNat).flatMap Pf)):=by
 intro l
 induction l with
 |nil=>intro i acc _ _;simp[fw]
 |cons c l ih=>
  intro i acc hc hb;rw[qh]at hb;have hwt:=hc c (by simp);have hv:=yb c.pat.args;have ha:=aE.dh (aQ.fL (bR c.wt));have hu:=rF (ja c.pat.args);have hu2:=rF acc;rw[fw,Sr];by_cases hi:(i:Int)<n
  ·have e1:decide (((i:Int):Int)<n)=true:=by simp[hi]
   rw[e1,aV,bS hi];by_cases hk:c.kind=1
   ·have e2:((c.kind:Int)==1)=true:=by simp[hk]
    rw[e2,aV,O0 _ (aQ.fL hwt),aA,xJ (by omega),aV,a34 _ _ _ _ _ _ _ _ (by omega),IJ,ih _ _ (fun x hx=>hc x (by simp[hx])) (by simp;omega)];simp[Pf,hk]
   ·have e2:((c.kind:Int)==1)=false:=by simp[hk]
    rw[e2,aZ,ih _ _ (fun x hx=>hc x (by simp[hx])) (by omega)];simp[Pf,hk]
  ·have e1:decide (((i:Int):Int)<n)=false:=by simp[hi]
   rw[e1,aZ,bH hi];simp
theorem a33(r:aN)(n:Int)(h:r.wt<=1048576):nS r n=some (fM (CW r n)):=by
 unfold nS;have:=a5d r n (fun q=>some q) r.conds 0 [] (fun c hc=>aN.sO h hc) (by have:=aN.uO h;simp;omega);rw[show fM []=[]from rfl]at this;rw[this];simp[CW]
theorem a4z(a:aN)(n:Int)(k:aJ->Option aJ):∀(l:aq) (i:Nat) (w:aJ),(∀c∈l,c.wt<=1048576)->w.length+kA aQ.wt l<=2097152->
 ey a n k l i w=k (w++(l.take (n-(i:Int)).toNat).flatMap Pf):=by
 intro l
 induction l with
 |nil=>intro i w _ _;simp[ey]
 |cons c l ih=>
  intro i w hc hb;rw[qh]at hb;have hwt:=hc c (by simp);have hv:=yb c.pat.args;have ha:=aE.dh (aQ.fL (bR c.wt));rw[ey,Sr];by_cases hi:(i:Int)<n
  ·have e1:decide (((i:Int):Int)<n)=true:=by simp[hi]
   rw[e1,aV,bS hi];by_cases hk:c.kind=1
   ·have e2:((c.kind:Int)==1)=true:=by simp[hk]
    rw[e2,aV,a2N _ (by omega) (fun x hx=>aE.vZ (aQ.fL hwt) hx),aA,a30 (by omega) (by decide),aV,ih _ _ (fun x hx=>hc x (by simp[hx])) (by simp;omega)];simp[Pf,hk]
   ·have e2:((c.kind:Int)==1)=false:=by simp[hk]
    rw[e2,aZ,ih _ _ (fun x hx=>hc x (by simp[hx])) (by omega)];simp[Pf,hk]
  ·have e1:decide (((i:Int):Int)<n)=false:=by simp[hi]
   rw[e1,aZ,bH hi,ih _ _ (fun x hx=>hc x (by simp[hx])) (by omega),show(n-((i+1:Nat):Int)).toNat=0 from by omega];simp
theorem a25(r:aN)(n:Int)(h:r.wt<=1048576):pq r n=some (fM (CW r n)):=by
 unfold pq;have hl:=a1N h n;rw[a4z r n _ r.conds 0 [] (fun c hc=>aN.sO h hc) (by have:=aN.uO h;simp;omega)];have e:([]:aJ)++(r.conds.take (n-((0:Nat):Int)).toNat).flatMap Pf=CW r n:=by simp[CW]
 rw[e,Te _ (by omega)];rfl
def FQ(l:aq):aJ:=l.flatMap rI
def a4U(l:c8):aJ:=l.flatMap fun a=>ja a.pat.args
def a8g(r:aN):aJ:=FQ r.conds++a4U r.cv
theorem a1R(l:aq):(FQ l).length<=3*kA aQ.wt l:=Hw l (fun c _=>ze (bR _))
theorem a3I(a:aN)(i:Nat)(y:aJ)(k:aJ->Option aJ):∀(l:aJ) (j:Nat) (w:aJ),w.length+l.length<=1099511627770->kZ a i y k l j w=k (l.foldl As w):=by
 intro l
 induction l with
 |nil=>intro j w _;rfl
 |cons x l ih=>
  intro j w hw;simp only[aK]at hw;have:=CE w x;rw[kZ,Xd w x (by omega),aA,ih _ _ (by omega)];rfl
theorem a3K(a:aN)(i:Nat)(y:aJ)(k:aJ->Option aJ):∀(l:aJ) (j:Nat) (w:aJ),w.length+l.length<=1099511627770->ke a i y k l j w=k (l.foldl As w):=by
 intro l
 induction l with
 |nil=>intro j w _;rfl
 |cons x l ih=>
  intro j w hw;simp only[aK]at hw;have:=CE w x;rw[ke,Xd w x (by omega),aA,ih _ _ (by omega)];rfl
theorem a3H(a:aN)(k:aJ->Option aJ):∀(l:aq) (i:Nat) (acc:aJ),(∀c∈l,c.wt<=1048576)->acc.length+3*kA aQ.wt l<=16777216->
 j9 a k l i (fM acc)=k (fM (acc++FQ l)):=by
 intro l
 induction l with
 |nil=>intro i acc _ _;simp[j9,FQ]
 |cons c l ih=>
  intro i acc hc hb;rw[qh]at hb;have hwt:=hc c (by simp);have h1:=ze (bR c.wt);have hu:=rF (rI c);have hu2:=rF acc;rw[j9,Xb c hwt,aA,xJ (by omega),aV,a3I _ _ _ _ _ _ _ (by omega),IJ,ih _ _ (fun x hx=>hc x (by simp[hx])) (by simp;omega)];simp[FQ]
theorem a3J(a:aN)(k:aJ->Option aJ):∀(l:c8) (i:Nat) (acc:aJ),(∀c∈l,c.wt<=1048576)->acc.length+3*kA Action.wt l<=16777216->
 gq a k l i (fM acc)=k (fM (acc++a4U l)):=by
 intro l
 induction l with
 |nil=>intro i acc _ _;simp[gq,a4U]
 |cons c l ih=>
  intro i acc hc hb;rw[qh]at hb;have hwt:=hc c (by simp);have h1:=yb c.pat.args;have h2:=aE.dh (Action.fL (bR c.wt));have hu:=rF (ja c.pat.args);have hu2:=rF acc;rw[gq,O0 _ (Action.fL hwt),aA,xJ (by omega),aV,a3K _ _ _ _ _ _ _ (by omega),IJ,ih _ _ (fun x hx=>hc x (by simp[hx])) (by simp;omega)];simp[a4U]
theorem a8u(r:aN)(h:r.wt<=1048576):uo r=some (fM (a8g r)):=by
 unfold uo;have h3:=aN.uO h;have h4:=aN.Ma h;have hl:=a1R r.conds;have:=a3H r (fun q=>gq r (fun q=>some q) r.cv 0 q) r.conds 0 [] (fun c hc=>aN.sO h hc) (by simp;omega);rw[show fM []=[]from rfl]at this;rw[this];simp only[cI];rw[a3J r _ r.cv 0 _ (fun c hc=>aN.TD h hc) (by omega)];rfl
theorem aAN(l:aq)(hc:∀c∈l,c.wt<=1048576)(hb:kA aQ.wt l<=1048576):rM l=some (l.flatMap fun c=>fM (rI c)):=by
 unfold rM;have:∀(r:aq) (i:Nat) (w:aJ),(∀c∈r,c.wt<=1048576)->w.length+3*kA aQ.wt r<=16777216->gR l (fun q=>some q) r i w=some (w++r.flatMap fun c=>fM (rI c)):=by
  intro r
  induction r with
  |nil=>intro i w _ _;simp[gR]
  |cons c r ih=>
   intro i w hc hb;rw[qh]at hb;have h1:=ze (bR c.wt);have hu:=rF (rI c);rw[gR,XC c (hc c (by simp)),aA,a30 (by omega) (by decide),aV,ih _ _ (fun x hx=>hc x (by simp[hx])) (by simp;omega)];simp
 exact this l 0 [] hc (by simp;omega)
theorem a1Q(l:aq):(l.flatMap fun c=>fM (rI c)).length<=3*kA aQ.wt l:=Hw l (fun c _=>by
 have h1:=ze (bR c.wt);have hu:=rF (rI c);omega)
theorem aCE(l:aq)(b:aJ):fM ((l.flatMap fun c=>fM (rI c))++b)=fM (FQ l++b):=II (fun x=>by simp[FQ,x7])
def ZY(v:Bytes)(k:Int):aq->Nat->Bool
 | [],_=>false
 |c::cs,i=>(decide (((i:Nat):Int)≠k)&&(rI c).contains v)||ZY v k cs (i+1)
def V1(r:aN)(k:Int)(v:Bytes):Bool:=ZY v k r.conds 0||r.cv.any fun a=>(ja a.pat.args).contains v
theorem Rt{l:aJ}{v:Bytes}(h:lS v=true):l.contains v=(ja l).contains v:=by
 rw[bp];simp[ja,h]
theorem aB4(r:aN)(k:Int)(v:Bytes)(h:r.wt<=1048576):ng r k v=some (V1 r k v):=by
 unfold ng V1;have k2:∀(l:c8) (i:Nat),(∀c∈l,c.wt<=1048576)->iR r v (some false) l i=some (l.any fun a=>(ja a.pat.args).contains v):=by
  intro l
  induction l with
  |nil=>intro i _;rfl
  |cons a l ih=>
   intro i hc;rw[iR,O0 _ (Action.fL (hc a (by simp))),aA,a3C,aA,o7,ih _ (fun x hx=>hc x (by simp[hx])),vF];cases(ja a.pat.args).contains v<;>rfl
 have k1:∀(l:aq) (i:Nat),(∀c∈l,c.wt<=1048576)->fm r k v (some (r.cv.any fun a=>(ja a.pat.args).contains v)) l i=some (ZY v k l i||r.cv.any fun a=>(ja a.pat.args).contains v):=by
  intro l
  induction l with
  |nil=>intro i _;rfl
  |cons c l ih=>
   intro i hc;rw[fm,Xb _ (hc c (by simp)),aA,a3C,aA,o7,ih _ (fun x hx=>hc x (by simp[hx]))];simp only[ZY,bne,fH];by_cases hi:((i:Nat):Int)=k
   ·simp[hi]
   ·cases(rI c).contains v<;>simp[hi]
 rw[k2 _ _ (fun c hc=>aN.TD h hc),k1 _ _ (fun c hc=>aN.sO h hc)]
theorem aDX(r:aN)(k:Int)(v:Bytes)(hv:lS v=true)(h:r.wt<=1048576):lq r k v=some (V1 r k v):=by
 unfold lq V1;have k2:∀(l:c8) (i:Nat),fC r v (some false) l i=some (l.any fun a=>(ja a.pat.args).contains v):=by
  intro l
  induction l with
  |nil=>intro i;rfl
  |cons a l ih=>
   intro i;rw[fC,a54,aA,Rt hv,ih,vF];cases(ja a.pat.args).contains v<;>rfl
 have k1:∀(l:aq) (i:Nat),(∀c∈l,c.wt<=1048576)->eM r k v (some (r.cv.any fun a=>(ja a.pat.args).contains v)) l i=some (ZY v k l i||r.cv.any fun a=>(ja a.pat.args).contains v):=by
  intro l
  induction l with
  |nil=>intro i _;rfl
  |cons c l ih=>
   intro i hc;rw[eM,XC _ (hc c (by simp)),aA,a54,aA,o7,ih _ (fun x hx=>hc x (by simp[hx]))];simp only[ZY,bne,fH];by_cases hi:((i:Nat):Int)=k
   ·simp[hi]
   ·cases(rI c).contains v<;>simp[hi]
 rw[k2,k1 _ _ (fun c hc=>aN.sO h hc)]
def Pm(r:aN)(i:Nat)(c:aQ)(v:Bytes):Bool:=decide (c.kind=1)||(CW r i).contains v||(decide (c.kind=2)&& !V1 r i v)
def yG(r:aN):aq->Nat->Bool
 | [],_=>true
 |c::cs,i=>(si c&&(!decide (i=0)||decide (c.kind=1))&&(fM (rI c)).all (Pm r i c))&&yG r cs (i+1)
def QR(r:aN):Bool:=r.cv.all fun a=>QO a&&(ja a.pat.args).all fun v=>(CW r r.conds.length).contains v
def nw(r:aN):Bool:=BD r.name&&(decide (0<=r.prio)&&decide (r.prio<=9))&&(decide (1<=(r.conds.length:Int))&&decide ((r.conds.length:Int)<=4))&&(decide (1<=(r.cv.length:Int))&&decide ((r.cv.length:Int)<=2))&&
 (yG r r.conds 0&&(QR r&&decide (((fM (FQ r.conds)).length:Int)<=6)))
theorem SC(l:aJ)(p:Bytes->Bool):(fM l).all p=l.all p:=by
 rw[bp];simp[bB,x7]
theorem a4Y(r:aN)(n:Int){v:Bytes}(h:v∈CW r n):v∈FQ r.conds:=by
 unfold CW at h;obtain⟨c,hc,hv⟩:=cE.1 h;refine cE.2 ⟨c,cH hc,?_⟩;unfold Pf at hv;cases hk:decide (c.kind=1)with
 |false=>rw[hk]at hv;cases hv
 |true=>
  rw[hk]at hv;simp only[aV]at hv;unfold rI;rw[Sx];exact au.2 (.inl hv)
theorem Wa{r:aN}(h:QR r=true):fM (a8g r)=fM (FQ r.conds):=by
 refine II (fun x=>?_);unfold a8g;simp only[au];constructor
 ·rintro(hx|hx)
  ·exact hx
  ·obtain⟨a,ha,hv⟩:=cE.1 hx;unfold QR at h;have:=bB.1 h a ha;simp only[aY,bB]at this;have:=this.2 x hv;exact a4Y r _ (by simpa using this)
 ·exact .inl
theorem a5i(r:aN)(y:aJ)(i:Nat)(c:aQ)(l:aJ)(k:Option Bool)(hc:c.wt<=1048576)(hr:r.wt<=1048576)(hcb:si c=true):∀(rest:aJ) (j:Nat),gF r y i c (fM (CW r i)) l k rest j=bif rest.all (Pm r i c)then k else some false:=by
 have hk:=Kk hcb;intro rest
 induction rest with
 |nil=>intro j;rfl
 |cons v rest ih=>
  intro j;rw[gF,a3C,aA,o7,a3P c hc,aA,aB4 r _ v hr,aA,ih,dM];unfold O2 Pm;rw[hcb];by_cases h1:c.kind=1
  ·simp[h1]
  by_cases h2:c.kind=2
  ·cases(CW r i).contains v<;>cases V1 r i v<;>simp[h2]
  have h3:c.kind>=3:=by omega
  cases(CW r i).contains v<;>simp[h1,h2,h3]
theorem a5j(r:aN)(y:aJ)(i:Nat)(c:aQ)(l:aJ)(k:Option Bool)(hc:c.wt<=1048576)(hr:r.wt<=1048576)(hcb:si c=true):∀(rest:aJ) (j:Nat),gG r y i c (fM (CW r i)) l k rest j=bif rest.all (Pm r i c)then k else some false:=by
 have hk:=Kk hcb;intro rest
 induction rest with
 |nil=>intro j;rfl
 |cons v rest ih=>
  intro j;rw[gG,a3C,aA,o7,a3P c hc,aA,aB4 r _ v hr,aA,ih,dM];unfold O2 Pm;rw[hcb];by_cases h1:c.kind=1
  ·simp[h1]
  by_cases h2:c.kind=2
  ·cases(CW r i).contains v<;>cases V1 r i v<;>simp[h2]
  have h3:c.kind>=3:=by omega
  cases(CW r i).contains v<;>simp[h1,h2,h3]
theorem a5h(r:aN)(y:aJ)(k:Option Bool)(hr:r.wt<=1048576):∀(rest:aq) (i:Nat),(∀c∈rest,c.wt<=1048576)->lF r y k rest i=bif yG r rest i then k else some false:=by
 intro rest
 induction rest with
 |nil=>intro i _;rfl
 |cons c rest ih=>
  intro i h;have hc:=h c (by simp);have hl:=ze hc;have hu:=rF (rI c);rw[lF,a36 c hc,aA,yG];cases hcb:si c with
  |false=>rfl
  |true=>
   rw[a33 r _ hr,Xb c hc,ih _ (fun x hx=>h x (by simp[hx]))];simp only[aA,xJ (show(fM (rI c)).length<=1099511627776 by omega),aV];rw[a5i r y i c _ _ hc hr hcb,a5j r y i c _ _ hc hr hcb];simp only[bne,fH];have e0:decide (((i:Int):Int)=0)=decide (i=0):=by rw[bp];simp
   rw[e0];cases decide (i=0)<;>cases decide (c.kind=1)<;>cases(fM (rI c)).all (Pm r i c)<;>simp
theorem a5l(r:aN)(y:aJ)(i:Nat)(l:aJ)(k:Option Bool):∀(rest:aJ) (j:Nat),nV r y i l k rest j=bif rest.all (fun v=>y.contains v)then k else some false:=
 fun rest j=>ZO (f:=fun v=>hG y v) (L:=nV r y i l k) (fun _=>rfl) (fun _ _ _=>rfl) rest j (fun v _=>a3C y v)
theorem a5k(r:aN)(b:aJ)(k:Option Bool):∀(rest:c8) (i:Nat),(∀a∈rest,a.wt<=1048576)->nU r (fM b) k rest i=bif rest.all (fun a=>QO a&&(ja a.pat.args).all fun v=>b.contains v)then k else some false:=by
 intro rest
 induction rest with
 |nil=>intro i _;rfl
 |cons a rest ih=>
  intro i h;have ha:=h a (by simp);have h1:=yb a.pat.args;have h2:=aE.dh (Action.fL ha);have hu:=rF (ja a.pat.args);rw[nU,aDp a ha,aA,O0 _ (Action.fL ha),aA,xJ (by omega),ih _ (fun x hx=>h x (by simp[hx])),a5l,dM,SC];have e:((ja a.pat.args).all fun v=>(fM b).contains v)=(ja a.pat.args).all fun v=>b.contains v:=by
   congr 1;funext v;exact o7 b v
  rw[e];cases QO a<;>cases(ja a.pat.args).all (fun v=>b.contains v)<;>simp
theorem aBI(r:aN)(h:r.wt<=1048576):xh r=some (nw r):=by
 unfold xh;simp only[a3E _ (aN.Yk h),aA,Ni,aa];rw[a33 r _ h];simp only[aA];rw[a5h r _ _ h _ _ (fun c hc=>aN.sO h hc),a5k r _ _ _ _ (fun a ha=>aN.TD h ha),a8u r h];simp only[aA,aa];have hab:(r.cv.all fun a=>QO a&&(ja a.pat.args).all fun v=>(CW r r.conds.length).contains v)=QR r:=rfl;rw[hab];unfold nw;have g1:decide (r.prio>=0)=decide (0<=r.prio):=rfl;have g2:decide ((r.conds.length:Int)>=1)=decide (1<=(r.conds.length:Int)):=rfl;have g3:decide ((r.cv.length:Int)>=1)=decide (1<=(r.cv.length:Int)):=rfl;rw[g1,g2,g3];cases ha:QR r with
 |false=>cases BD r.name<;>cases(decide (0<=r.prio)&&decide (r.prio<=9))<;>cases(decide (1<=(r.conds.length:Int))&&decide ((r.conds.length:Int)<=4))<;>cases(decide (1<=(r.cv.length:Int))&&decide ((r.cv.length:Int)<=2))<;>cases yG r r.conds 0<;>rfl
 |true=>
  rw[Wa ha];cases BD r.name<;>cases(decide (0<=r.prio)&&decide (r.prio<=9))<;>cases(decide (1<=(r.conds.length:Int))&&decide ((r.conds.length:Int)<=4))<;>cases(decide (1<=(r.cv.length:Int))&&decide ((r.cv.length:Int)<=2))<;>cases yG r r.conds 0<;>simp
theorem a89(r:aN)(i:Nat)(c:aQ)(l:aJ)(k:Option Bool)(hr:r.wt<=1048576)(hcb:si c=true):∀(rest:aJ) (j:Nat),(∀v∈rest,lS v=true)->gf r (i:Int) c (fM (CW r i)) l k rest j=bif rest.all (Pm r i c)then k else some false:=by
 have hk:=Kk hcb;intro rest
 induction rest with
 |nil=>intro j _;rfl
 |cons v rest ih=>
  intro j hv;rw[gf,a54,aA,o7,aDX r _ v (hv v (by simp)) hr,aA,ih _ (fun x hx=>hv x (by simp[hx])),dM];unfold Pm;simp only[bne,fH];by_cases h1:c.kind=1
  ·simp[h1]
  by_cases h2:c.kind=2
  ·cases(CW r i).contains v<;>cases V1 r i v<;>simp[h2]
  cases(CW r i).contains v<;>simp[h1,h2]
theorem aAR(r:aN)(i:Nat)(c:aQ)(hr:r.wt<=1048576)(hi:r.conds[i]?=some c)(hcb:si c=true):qz r (i:Int)=some ((fM (rI c)).all (Pm r i c)):=by
 unfold qz;have hc:=aN.sO hr (aC hi);have hl:=ze hc;have hu:=rF (rI c);have e:mK r.conds (i:Int)=some c:=by unfold mK;simp[hi]
 rw[e,aA,a25 r _ hr,aA,XC c hc,aA,xJ (by omega),aV,a89 r i c _ _ hr hcb _ _ (fun v hv=>by
  rw[x7]at hv;unfold rI ja at hv;exact(gA.1 hv).2)]
 cases(fM (rI c)).all (Pm r i c)<;>rfl
theorem a58(r:aN)(k:Option Bool)(hr:r.wt<=1048576):∀(rest pre:aq),r.conds=pre++rest->jM r k rest pre.length=bif yG r rest pre.length then k else some false:=by
 intro rest
 induction rest with
 |nil=>intro pre _;rfl
 |cons c rest ih=>
  intro pre h;have hm:c∈r.conds:=by rw[h];simp
  have hc:=aN.sO hr hm;have hi:r.conds[pre.length]?=some c:=by rw[h];simp
  have t:=ih (pre++[c]) (by rw[h];simp);simp only[aX,aK,bK]at t;rw[jM,a2C c hc,aA,yG];cases hcb:si c with
  |false=>rfl
  |true=>
   rw[aAR r _ c hr hi hcb,aA,t];simp only[bne,fH];have e0:decide ((((pre.length:Nat):Int):Int)=0)=decide (pre.length=0):=by rw[bp];simp
   rw[e0];cases decide (pre.length=0)<;>cases decide (c.kind=1)<;>cases(fM (rI c)).all (Pm r pre.length c)<;>simp
theorem a5B(r:aN)(y:aJ)(i:Nat)(l:aJ)(k:Option Bool):∀(rest:aJ) (j:Nat),nB r y i l k rest j=bif rest.all (fun v=>y.contains v)then k else some false:=
 fun rest j=>ZO (f:=fun v=>lg y v) (L:=nB r y i l k) (fun _=>rfl) (fun _ _ _=>rfl) rest j (fun v _=>a54 y v)
theorem a5A(r:aN)(b:aJ)(k:Option Bool):∀(rest:c8) (i:Nat),(∀a∈rest,a.wt<=1048576)->nA r (fM b) k rest i=bif rest.all (fun a=>QO a&&(ja a.pat.args).all fun v=>b.contains v)then k else some false:=by
 intro rest
 induction rest with
 |nil=>intro i _;rfl
 |cons a rest ih=>
  intro i h;have ha:=h a (by simp);have h1:=yb a.pat.args;have h2:=aE.dh (Action.fL ha);rw[nA,aDS a ha,aA,a2N _ (by omega) (fun x hx=>aE.vZ (Action.fL ha) hx),aA,xJ (by omega),ih _ (fun x hx=>h x (by simp[hx])),a5B,dM];have e:((ja a.pat.args).all fun v=>(fM b).contains v)=(ja a.pat.args).all fun v=>b.contains v:=by
   congr 1;funext v;exact o7 b v
  rw[e];cases QO a<;>cases(ja a.pat.args).all (fun v=>b.contains v)<;>simp
theorem aAa(r:aN)(h:r.wt<=1048576):xZ r=some (nw r):=by
 unfold xZ;have hcu:=a1Q r.conds;have hcl:=aN.uO h;rw[show jM r _ r.conds 0=_ from a58 r _ h r.conds [] rfl,a25 r _ h,aA,a5A r _ _ _ _ (fun a ha=>aN.TD h ha),aAN _ (fun c hc=>aN.sO h hc) hcl,aA,Te _ (by omega),a2H _ (aN.Yk h)];have e:=aCE r.conds [];simp only[cN]at e;rw[e];simp only[aA,aa,bK];have hab:(r.cv.all fun a=>QO a&&(ja a.pat.args).all fun v=>(CW r r.conds.length).contains v)=QR r:=rfl;rw[hab];unfold nw;have g1:decide (0<=r.prio)= !decide (r.prio<0):=by rw[bp];simp
 have g2:decide (r.prio<=9)= !decide (r.prio>9):=by rw[bp];simp
 have g3:decide (1<=(r.conds.length:Int))= !decide ((r.conds.length:Int)<1):=by rw[bp];simp
 have g4:decide ((r.conds.length:Int)<=4)= !decide ((r.conds.length:Int)>4):=by rw[bp];simp
 have g5:decide (1<=(r.cv.length:Int))= !decide ((r.cv.length:Int)<1):=by rw[bp];simp
 have g6:decide ((r.cv.length:Int)<=2)= !decide ((r.cv.length:Int)>2):=by rw[bp];simp
 rw[g1,g2,g3,g4,g5,g6];cases BD r.name
 ·rfl
 cases decide (r.prio<0)
 case true=>rfl
 cases decide (r.prio>9)
 case true=>rfl
 cases decide ((r.conds.length:Int)<1)
 case true=>rfl
 cases decide ((r.conds.length:Int)>4)
 case true=>rfl
 cases decide ((r.cv.length:Int)<1)
 case true=>rfl
 cases decide ((r.cv.length:Int)>2)
 case true=>rfl
 cases yG r r.conds 0
 ·rfl
 cases QR r
 ·rfl
 simp
def KK(name:Bytes):ar->Nat->Int
 | [],_=> -1
 |r::rs,i=>bif r.name==name then(i:Int)else KK name rs (i+1)
def Rr(all:ar):ar->Nat->Bool
 | [],_=>true
 |r::rs,i=>(nw r&&decide (KK r.name all 0=(i:Int)))&&Rr all rs (i+1)
def yF(l:ar):Bool:=Rr l l 0&&decide ((l.length:Int)<=6)
theorem aB6(l:ar)(n:Bytes):uk l n=some (KK n l 0):=by
 unfold uk;have:∀(r:ar) (i:Nat),kX l n (some (-1)) r i=some (KK n r i):=by
  intro r
  induction r with
  |nil=>intro i;rfl
  |cons x r ih=>intro i;rw[kX,ih,KK];cases x.name==n<;>rfl
 exact this l 0
theorem aAP(l:ar)(n:Bytes):uS l n=some (KK n l 0):=by
 unfold uS;have:∀(r:ar) (i:Nat),kJ l n (some (-1)) r i=some (KK n r i):=by
  intro r
  induction r with
  |nil=>intro i;rfl
  |cons x r ih=>intro i;rw[kJ,ih,KK];cases x.name==n<;>rfl
 exact this l 0
theorem aDr(l:ar)(h:kA aN.wt l<=1048576):uh l=some (yF l):=by
 unfold uh;have:∀(r:ar) (i:Nat) (k:Option Bool),(∀x∈r,x.wt<=1048576)->kV l k r i=bif Rr l r i then k else some false:=by
  intro r
  induction r with
  |nil=>intro i k _;rfl
  |cons x r ih=>
   intro i k hx;rw[kV,aBI x (hx x (by simp)),aA,aB6,aA,ih _ _ (fun y hy=>hx y (by simp[hy])),Rr];simp only[bne,fH];cases nw x<;>cases decide (KK x.name l 0=(i:Int))<;>simp
 rw[this _ _ _ (fun x hx=>by have:=ic (w:=aN.wt) hx;omega),aa,yF];cases Rr l l 0<;>rfl
theorem aDU(l:ar)(h:kA aN.wt l<=1048576):uQ l=some (yF l):=by
 unfold uQ;have:∀(r:ar) (i:Nat) (k:Option Bool),(∀x∈r,x.wt<=1048576)->kH l k r i=bif Rr l r i then k else some false:=by
  intro r
  induction r with
  |nil=>intro i k _;rfl
  |cons x r ih=>
   intro i k hx;rw[kH,aAa x (hx x (by simp)),aA,aAP,aA,ih _ _ (fun y hy=>hx y (by simp[hy])),Rr];simp only[bne,fH];cases nw x<;>cases decide (KK x.name l 0=(i:Int))<;>simp
 rw[this _ _ _ (fun x hx=>by have:=ic (w:=aN.wt) hx;omega),aa,yF];have g:decide ((l.length:Int)<=6)= !decide ((l.length:Int)>6):=by rw[bp];simp
 rw[g];cases Rr l l 0<;>cases decide ((l.length:Int)>6)<;>rfl
theorem RO{α β:Type}[DecidableEq β]{f:α->α->Option Bool}{g:α->β}{a b:List α}{k:Option Bool}{L:List α->Nat->Option Bool}(hl:a.length=b.length)(v8:∀i,L [] i=k)
 (th:∀x xs i,L (x::xs) i=(mK b (i:Int)).bind fun y=>(f x y).bind fun r=>bif !r then some false else L xs (i+1)) (hf:∀x y,f x y=some (decide (g x=g y))):
 L a 0=bif decide (a.map g=b.map g)then k else some false:=by
 have key:∀(ra rb pa pb:List α),a=pa++ra->b=pb++rb->pa.length=pb.length->L ra pa.length=bif decide (ra.map g=rb.map g)then k else some false:=by
  intro ra
  induction ra with
  |nil=>
   intro rb pa pb h1 h2 h3;rw[v8];have:rb=[]:=by
    have:=congrArg List.length h1;have:=congrArg List.length h2;simp at*;apply cg;omega
   subst this;simp
  |cons x xs ih=>
   intro rb pa pb h1 h2 h3;cases rb with
   |nil=>
    exfalso;have:=congrArg List.length h1;have:=congrArg List.length h2;simp at*;omega
   |cons y ys=>
    have e1:mK b (pa.length:Int)=some y:=by rw[h3];exact zn h2
    rw[th,e1,aA,hf,aA];have:=ih ys (pa++[x]) (pb++[y]) (by rw[h1];simp) (by rw[h2];simp) (by simp[h3]);simp only[aX,aK,bK]at this;rw[this];by_cases hxy:g x=g y
    ·simp[hxy]
    ·simp[hxy]
 exact key a b [] [] rfl rfl rfl
theorem R9{α β:Type}{g:α->β}{a b:List α}(h:a.length≠b.length):a.map g≠b.map g:=fun e=>h (by have:=congrArg List.length e;simpa using this)
theorem IU{α:Type}{c:α->aR}(a b:List α):((((a.map c).length:Int):Int) != ((b.map c).length:Int))= !decide (a.length=b.length):=by
 rw[bp];simp;omega
theorem map_id'{α:Type}(l:List α):l.map (fun x=>x)=l:=by simp
theorem a8H(a b:aN):qy a b=some (decide (a=b)):=by
 have k2:∀(k:Option Bool),a.cv.length=b.cv.length->iq a b k a.cv 0=bif decide (a.cv=b.cv)then k else some false:=fun k hl=>by
  have:=RO (g:=fun x:Action=>x) (f:=fun x y:Action=>bif x.kind != y.kind then some false else fR x.pat y.pat) (k:=k) (L:=iq a b k) hl (fun _=>rfl) (fun x xs i=>by
   rw[iq];congr 1;funext y;cases(x.kind != y.kind)<;>rfl) (fun x y=>by
   obtain⟨x0,x1⟩:=x;obtain⟨y0,y1⟩:=y;simp only[Qw,bne,fH];by_cases h0:x0=y0<;>by_cases h1:x1=y1<;>simp[h0,h1])
  rw[map_id',map_id']at this;exact this
 have k1:∀(k:Option Bool),a.conds.length=b.conds.length->kL a b k a.conds 0=bif decide (a.conds=b.conds)then k else some false:=fun k hl=>by
  have:=RO (g:=fun x:aQ=>x) (f:=kC) (k:=k) (L:=kL a b k) hl (fun _=>rfl) (fun _ _ _=>rfl) Td;rw[map_id',map_id']at this;exact this
 unfold qy;rw[IU,IU];obtain⟨a0,a1,a2,a3⟩:=a;obtain⟨b0,b1,b2,b3⟩:=b;simp only at k1 k2⊢;simp only[bne,fH,Bool.not_not];by_cases h0:a0=b0;rotate_left
 ·simp[h0]
 by_cases h1:a1=b1;rotate_left
 ·simp[h1]
 by_cases h2:a2.length=b2.length;rotate_left
 ·have:a2≠b2:=fun e=>h2 (by rw[e])
  simp[h2,this]
 by_cases h3:a3.length=b3.length;rotate_left
 ·have:a3≠b3:=fun e=>h3 (by rw[e])
  simp[h3,this]
 rw[k1 _ h2,k2 _ h3];by_cases h4:a2=b2<;>by_cases h5:a3=b3<;>simp[h0,h1,h2,h3,h4,h5]
theorem a5C(a b:ar):tC a b=some (decide (a=b)):=by
 unfold tC;exact SQ (c:=aN.c) (f:=qy) (fun k=>mR a b k) (fun _ _=>rfl) (fun _ _ _ _=>rfl) a8H
theorem Vg(x y:aS):((x.var:Bytes)==y.var&&(x.value:Bytes)==y.value)=decide (x=y):=by
 obtain⟨x0,x1⟩:=x;obtain⟨y0,y1⟩:=y;simp only[fH];by_cases h0:x0=y0<;>by_cases h1:x1=y1<;>simp[h0,h1]
theorem a8v(a b:aT):lM a b=some (decide (a=b)):=by
 unfold lM;exact SQ (c:=aS.c) (f:=fun x y=>some (decide (x=y))) (fun k=>gJ a b k) (fun _ _=>rfl) (fun k x xs i=>by rw[gJ];congr 1;funext y;rw[Vg];rfl) (fun _ _=>rfl)
theorem a8F(a b:aT):q8 a b=some (decide (a=b)):=by
 unfold q8;exact SQ (c:=aS.c) (f:=fun x y=>some (decide (x=y))) (fun k=>jd a b k) (fun _ _=>rfl) (fun k x xs i=>by rw[jd];congr 1;funext y;rw[Vg];rfl) (fun _ _=>rfl)
theorem a5m(a b:ah):pH a b=some (decide (a=b)):=by
 unfold pH;exact SQ (c:=aI.c) (f:=fun x y=>(nW x.facts y.facts).bind fun r=>bif !r then some false else lM x.bind y.bind) (fun k=>gu a b k) (fun _ _=>rfl) (fun k x xs i=>by
  rw[gu];congr 1;funext y;rw[U7,aA,aA];cases decide (x.facts=y.facts)<;>rfl) (fun x y=>by
  obtain⟨x0,x1⟩:=x;obtain⟨y0,y1⟩:=y;simp only[U7,a8v,aA];by_cases h0:x0=y0<;>by_cases h1:x1=y1<;>simp[h0,h1])
theorem a5D(a b:ah):oN a b=some (decide (a=b)):=by
 unfold oN;exact SQ (c:=aI.c) (f:=fun x y=>(jO x.facts y.facts).bind fun r=>bif !r then some false else q8 x.bind y.bind) (fun k=>iz a b k) (fun _ _=>rfl) (fun k x xs i=>by
  rw[iz];congr 1;funext y;rw[Q7,aA,aA];cases decide (x.facts=y.facts)<;>rfl) (fun x y=>by
  obtain⟨x0,x1⟩:=x;obtain⟨y0,y1⟩:=y;simp only[Q7,a8F,aA];by_cases h0:x0=y0<;>by_cases h1:x1=y1<;>simp[h0,h1])
def Qm(a b:aF):Bool:=decide (a.av.map aP.shape=b.av.map aP.shape)&&(decide (a.nodes.map (fun x=>(x.parent,x.cP,x.cond))=b.nodes.map (fun x=>(x.parent,x.cP,x.cond)))&&decide (a.ends=b.ends))
def S3(a b:aF):Bool:=decide (a.rules=b.rules)&&(decide (a.ends=b.ends)&&(decide (a.facts=b.facts)&&(decide (a.av=b.av)&&decide (a.nodes=b.nodes))))
theorem aB9(a b:aF):rU a b=some (Qm a b):=by
 unfold rU Qm;rw[IU,IU,IU];by_cases h1:a.av.length=b.av.length;rotate_left
 ·simp[h1,R9 h1]
 by_cases h2:a.nodes.length=b.nodes.length;rotate_left
 ·simp[h2,R9 h2]
 by_cases h3:a.ends.length=b.ends.length;rotate_left
 ·have:a.ends≠b.ends:=fun e=>h3 (by rw[e])
  simp[h3,this]
 have k1:=fun k=>RO (g:=aP.shape) (f:=fun x y:aP=>jA x.shape y.shape) (k:=k) (L:=lN a b k) h1 (fun _=>rfl) (fun _ _ _=>rfl) (fun x y=>Xe _ _)
 have k2:=fun k=>RO (g:=fun x:Node=>(x.parent,x.cP,x.cond)) (f:=fun x y:Node=>bif x.parent != y.parent then some false else bif x.cP != y.cP then some false else ou x.cond y.cond) (k:=k) (L:=jB a b k) h2 (fun _=>rfl) (fun x xs i=>by
  rw[jB];congr 1;funext y;cases(x.parent != y.parent)<;>cases(x.cP != y.cP)<;>rfl) (fun x y=>by
  simp only[a3L,bne,fH];by_cases q0:x.parent=y.parent<;>by_cases q1:x.cP=y.cP<;>by_cases q2:x.cond=y.cond<;>simp[q0,q1,q2])
 have k3:=fun k=>RO (g:=fun x:Int=>x) (f:=fun x y:Int=>some (decide (x=y))) (k:=k) (L:=jC a b k) h3 (fun _=>rfl) (fun x xs i=>by
  rw[jC];congr 1) (fun x y=>rfl)
 rw[k1,k2,k3,map_id',map_id'];simp only[h1,h2,h3,Ch,bP,aZ];cases decide (a.av.map aP.shape=b.av.map aP.shape)<;>cases decide (a.nodes.map (fun x=>(x.parent,x.cP,x.cond))=b.nodes.map (fun x=>(x.parent,x.cP,x.cond)))<;>cases decide (a.ends=b.ends)<;>rfl
theorem aDZ(a b:aF):pF a b=some (S3 a b):=by
 unfold pF;simp only[a5C,a8G,Q7,aA,IU];by_cases h1:a.av.length=b.av.length;rotate_left
 ·have:a.av≠b.av:=fun e=>h1 (by rw[e])
  simp only[h1,S3,this,decide_false,cR,aV,Bool.false_and];cases decide (a.rules=b.rules)<;>cases decide (a.ends=b.ends)<;>cases decide (a.facts=b.facts)<;>rfl
 by_cases h2:a.nodes.length=b.nodes.length;rotate_left
 ·have:a.nodes≠b.nodes:=fun e=>h2 (by rw[e])
  simp only[h1,h2,S3,this,Ch,decide_false,cR,bP,aV,aZ,yg];cases decide (a.rules=b.rules)<;>cases decide (a.ends=b.ends)<;>cases decide (a.facts=b.facts)<;>rfl
 have k1:=fun k=>RO (g:=fun x:aP=>x) (f:=fun x y:aP=>(fR x.shape y.shape).bind fun r=>bif !r then some false else jO x.facts y.facts) (k:=k) (L:=ga a b k) h1 (fun _=>rfl) (fun x xs i=>by
  rw[ga];congr 1;funext y;rw[Qw,aA,aA];cases decide (x.shape=y.shape)<;>rfl) (fun x y=>by
  obtain⟨x0,x1⟩:=x;obtain⟨y0,y1⟩:=y;simp only[Qw,Q7,aA];by_cases q0:x0=y0<;>by_cases q1:x1=y1<;>simp[q0,q1])
 have k2:=fun k=>RO (g:=fun x:Node=>x) (f:=fun x y:Node=>bif x.parent != y.parent then some false else bif x.cP != y.cP then some false else(kC x.cond y.cond).bind fun r=>bif !r then some false else oN x.tokens y.tokens) (k:=k) (L:=gb a b k) h2 (fun _=>rfl) (fun x xs i=>by
  rw[gb];congr 1;funext y;rw[Td,aA,aA];cases(x.parent != y.parent)<;>cases(x.cP != y.cP)<;>cases decide (x.cond=y.cond)<;>rfl) (fun x y=>by
  obtain⟨x0,x1,x2,x3⟩:=x;obtain⟨y0,y1,y2,y3⟩:=y;simp only[Td,a5D,aA,bne,fH];by_cases q0:x0=y0<;>by_cases q1:x1=y1<;>by_cases q2:x2=y2<;>by_cases q3:x3=y3<;>simp[q0,q1,q2,q3])
 rw[k1,k2,map_id',map_id',map_id',map_id',S3];simp only[h1,h2,Ch,bP,aZ];cases decide (a.rules=b.rules)<;>cases decide (a.ends=b.ends)<;>cases decide (a.facts=b.facts)<;>cases decide (a.av=b.av)<;>cases decide (a.nodes=b.nodes)<;>rfl
def AP(s:Bytes):Option Nat:=if 1<=s.length/\s.length<=4 then(match Lib.decFrom 0 s with|some n=>if Lib.decDigits n=s then some n else none|none=>none)else none
def pI(s:Bytes):Int×Bool:=match AP s with|some n=>((n:Int),true)|none=>(0,false)
theorem a1S:∀(u:Nat),∀b∈Lib.decDigits u,48<=b.toNat/\b.toNat<=57:=by
 intro u
 induction u using Nat.strongRecOn with
 |_ u ih=>
  have hb:∀v:Nat,v<10->48<=(UInt8.ofNat (48+v)).toNat/\(UInt8.ofNat (48+v)).toNat<=57:=by
   intro v hv;have:(UInt8.ofNat (48+v)).toNat=48+v:=by simp;omega
   omega
  intro b hm;rw[Lib.decDigits]at hm;split at hm
  ·rename_i h10;simp only[dU]at hm;subst hm;exact hb u h10
  ·rename_i h10;rcases au.1 hm with hm|hm
   ·exact ih (u/10) (by omega) b hm
   ·simp only[dU]at hm;subst hm;exact hb (u%10) (by omega)
theorem a5g(a:Bytes)(k:Int->Option (Int×Bool))(ha:a.length<=4):∀(rest pre:Bytes) (acc:Nat),a=pre++rest->acc<10^pre.length->∀n,rest.length<n->
 j6 a k n (acc:Int) (pre.length:Int)=(match Lib.decFrom acc rest with|some m=>k (m:Int)|none=>some (0,false)):=by
 intro rest
 induction rest with
 |nil=>
  intro pre acc h _ n hn;obtain⟨m,rfl⟩:∃m,n=m+1:=⟨n-1,by simp at hn;omega⟩
  have e1:decide ((pre.length:Int)<(a.length:Int))=false:=by simp[h]
  rw[j6,e1];rfl
 |cons x xs ih=>
  intro pre acc h hacc n hn;obtain⟨m,rfl⟩:∃m,n=m+1:=⟨n-1,by simp at hn;omega⟩
  have hl:a.length=pre.length+(xs.length+1):=by rw[h];simp
  have e1:decide ((pre.length:Int)<(a.length:Int))=true:=by rw[hl];simp;omega
  have e4:IntKind.i64.wrap ((pre.length:Int)+1)=((pre++[x]).length:Int):=by rw[IL (by omega)];simp
  have h10:acc<10000:=eE hacc (wE (by omega) (show pre.length<=4 by omega));have hx:=x.toNat_lt;rw[j6,e1,aV,zn h,aA,e4];by_cases c1:(x.toNat:Int)<48
  ·have:Lib.digitVal x=none:=by unfold Lib.digitVal;rw[bH (by omega)]
   simp only[Lib.decFrom,this];rw[bU c1,aV]
  ·by_cases c2:(x.toNat:Int)>57
   ·have:Lib.digitVal x=none:=by unfold Lib.digitVal;rw[bH (by omega)]
    simp only[Lib.decFrom,this];rw[bA c1,aZ,bU c2,aV]
   ·have hd:Lib.digitVal x=some (x.toNat-48):=by unfold Lib.digitVal;rw[bS (by omega)]
    have e5:IntKind.i64.wrap ((IntKind.i64.wrap (10*(acc:Int)))+(IntKind.i64.wrap (IntKind.u8.wrap ((x.toNat:Int)-48))))=((acc*10+(x.toNat-48):Nat):Int):=by
     rw[gx (k:=.u8) (tv.u8.2 (by omega)),gx (n:=(10:Int)*(acc:Int)) (tv.i64.2 (by omega)),gx (n:=(x.toNat:Int)-48) (tv.i64.2 (by omega)),gx (tv.i64.2 (by omega))];omega
    simp only[Lib.decFrom,hd];rw[bA c1,aZ,bA c2,aZ,e5];refine ih (pre++[x]) _ (by simp[h]) ?_ m (by simp at hn;omega);rw[aX,fX,yl];omega
theorem U6(s:Bytes):ot s=some (pI s):=by
 unfold ot;rw[Ni,aA];by_cases hl:1<=s.length/\s.length<=4
 ·have e1:(decide ((s.length:Int)>=1)&&decide ((s.length:Int)<=4))=true:=by simp;omega
  have t:=a5g s (fun z=>((qE z).bind fun IM=>(bif !((IM:Bytes)==s)then(some (0,false))else(some (z,true))))) hl.2 s [] 0 rfl (by simp) fuel (by unfold fuel;omega);rw[e1,bP,aZ];refine t.trans ?_;unfold pI AP;rw[bS hl];cases hd:Lib.decFrom 0 s with
  |none=>rfl
  |some m=>
   have hm:=Lib.decFrom_lt s 0 m hd;have h10:m<10000:=by
    have:=wE (n:=10) (by omega) hl.2;omega
   simp only;rw[aB7 _ (tv.i64.2 (by omega)),aA];have e2:Lib.itoa (m:Int)=Lib.decDigits m:=by unfold Lib.itoa;rw[bH (by omega)];simp
   rw[e2];by_cases he:Lib.decDigits m=s
   ·rw[bS he,he];simp
   ·rw[bH he];have:(Lib.decDigits m==s)=false:=by simpa using he
    rw[this];rfl
 ·have e1:(decide ((s.length:Int)>=1)&&decide ((s.length:Int)<=4))=false:=by
   rw[FL,oH,oH];omega
  rw[e1];unfold pI AP;rw[bH hl];rfl
theorem Tc(s:Bytes):mc s=some (pI s):=by
 unfold mc pI AP;by_cases hl:1<=s.length/\s.length<=4
 ·have e1:decide ((s.length:Int)<1)=false:=by simp;omega
  have e2:decide ((s.length:Int)>4)=false:=by simp;omega
  rw[bS hl,e1,aZ,e2,aZ];unfold CB Tg;rw[bS (by omega)];cases s with
  |nil=>simp at hl
  |cons b t=>
   have fin:∀(m:Nat),Lib.decFrom 0 (b::t)=some m->(bif decide ((m:Int)<0)then some ((0:Int),false)else bif decide ((m:Int)>9999)then some (0,false)else(kr (m:Int)).bind fun y8=>bif !((y8:Bytes)==(b::t))then some (0,false)else some ((m:Int),true))=
    some (match(if Lib.decDigits m=b::t then some m else none)with|some n=>((n:Int),true)|none=>(0,false)):=by
    intro m hd;have hm:=Lib.decFrom_lt (b::t) 0 m hd;have h10:m<10000:=by
     have:=wE (n:=10) (by omega) hl.2;omega
    have e3:decide ((m:Int)<0)=false:=by simp
    have e4:decide ((m:Int)>9999)=false:=by simp;omega
    have e5:Lib.itoa (m:Int)=Lib.decDigits m:=by unfold Lib.itoa;rw[bH (by omega)];simp
    rw[e3,aZ,e4,aZ,a8A,aA,e5];by_cases he:Lib.decDigits m=b::t
    ·rw[bS he,he];simp
    ·rw[bH he];have:(Lib.decDigits m==(b::t))=false:=by simpa using he
     rw[this];rfl
   have sign:∀(n:Int),b.toNat<48->(bif decide (n<0)then some ((0:Int),false)else bif decide (n>9999)then some (0,false)else(kr n).bind fun y8=>bif !((y8:Bytes)==(b::t))then some (0,false)else some (n,true))=some (0,false):=by
    intro n hb;by_cases hn:n<0
    ·rw[bU hn];rfl
    rw[bA hn,aZ,a8A,aA];cases decide (n>9999)with
    |true=>rfl
    |false=>
     have e5:Lib.itoa n=Lib.decDigits n.toNat:=by unfold Lib.itoa;rw[bH hn]
     have:(Lib.itoa n==(b::t))=false:=by
      rw[e5,dH];intro h;have:=a1S n.toNat b (by rw[h];simp);omega
     rw[this];rfl
   simp only[Lib.atoi];by_cases hb:b=45
   ·subst hb;have hd:Lib.decFrom 0 ((45:UInt8)::t)=none:=by simp[Lib.decFrom,Lib.digitVal]
    rw[bS (by decide),hd];cases Lib.decNat t with
    |none=>rfl
    |some m=>exact sign _ (by decide)
   ·rw[bH (by simpa using hb)];by_cases YY:b=43
    ·subst YY;have hd:Lib.decFrom 0 ((43:UInt8)::t)=none:=by simp[Lib.decFrom,Lib.digitVal]
     rw[bS (by decide),hd];cases Lib.decNat t with
     |none=>rfl
     |some m=>exact sign (m:Int) (by decide)
    ·rw[bH (by simpa using YY)];have hdn:Lib.decNat (b::t)=Lib.decFrom 0 (b::t):=by simp[Lib.decNat]
     rw[hdn];cases hd:Lib.decFrom 0 (b::t)with
     |none=>rfl
     |some m=>exact fin m hd
 ·rw[bH hl];by_cases h1:(s.length:Int)<1
  ·rw[bU h1];rfl
  ·have h2:(s.length:Int)>4:=by omega
   rw[bA h1,aZ,bU h2];rfl
def yd(a b:Bytes):Int:=if Op.bytesLess a b=true then-1 else if a=b then 0 else 1
def Kj(x y:Int):Int:=if x<y then-1 else if x>y then 1 else 0
def DW(a b:Bytes):Int:=match AP a,AP b with
 |some x,some y=>Kj x y
 |some _,none=> -1
 |none,some _=>1
 |none,none=>yd a b
def wA{α:Type}(g:α->α->Int):List α->List α->Option Int
 |x::xs,y::ys=>if g x y≠0 then some (g x y)else wA g xs ys
 |_,_=>none
def cmpL{α:Type}(g:α->α->Int)(a b:List α):Int:=match wA g a b with|some z=>z|none=>Kj a.length b.length
def pg(a b:aE):Int:=if a.rel≠b.rel then yd a.rel b.rel else cmpL DW a.args b.args
theorem YM{a b:Bytes}(h:a≠b):yd a b≠0:=by
 unfold yd;split
 ·omega
 ·first|omega| (rw[bH h];omega)
theorem SN(a:Bytes):yd a a=0:=by
 unfold yd;rw[yR];simp
theorem YI:∀(a b:Bytes),Lib.compareBytes a b=yd a b
 | [],[]=>by simp[Lib.compareBytes,yd,Op.bytesLess]
 | [],_::_=>by simp[Lib.compareBytes,yd,Op.bytesLess]
 |_::_,[]=>by simp[Lib.compareBytes,yd,Op.bytesLess]
 |a::xs,b::ys=>by
  have ih:=YI xs ys;simp only[Lib.compareBytes,yd,Op.bytesLess];by_cases h1:a<b
  ·simp[h1]
  ·by_cases h2:b<a
   ·have hne:a≠b:=fun e=>by subst e;exact h1 h2
    simp[h1,h2,hne]
   ·have e:a=b:=by
     rw[FP]at h1 h2;exact UInt8.toNat_inj.1 (by omega)
    subst e;rw[bH h1,bH h1,ih];simp[yd,h1]
theorem Q0{α:Type}{f:α->α->Option Int}{g:α->α->Int}{c:α->aR}{L:List α->Nat->Option Int}{k:Option Int}{b:List α}(v8:∀i,L [] i=k)
 (th:∀x xs i,L (x::xs) i=bif decide (((i:Int):Int)<((b.map c).length:Int))then((mK b (i:Int)).bind fun y=>((f x y).bind fun z=>(bif (z:Int) != 0 then(some z)else(L xs (i+1)))))else k):
 ∀(l pre rest:List α),b=pre++rest->(∀x∈l,∀y∈rest,f x y=some (g x y))->L l pre.length=(match wA g l rest with|some z=>some z|none=>k):=by
 intro l
 induction l with
 |nil=>intro pre rest h _;rw[v8];cases rest<;>rfl
 |cons x xs ih=>
  intro pre rest h hf;rw[th];cases rest with
  |nil=>
   have e1:decide ((pre.length:Int)<((b.map c).length:Int))=false:=by simp[h]
   rw[e1];rfl
  |cons y ys=>
   have e1:decide ((pre.length:Int)<((b.map c).length:Int))=true:=by simp[h];omega
   rw[e1,aV,zn h,aA,hf x (by simp) y (by simp),aA];simp only[wA];have t:=ih (pre++[y]) ys (by simp[h]) (fun x' hx y' hy=>hf x' (by simp[hx]) y' (by simp[hy]));rw[aX,fX]at t;by_cases hz:g x y=0
   ·have e2:(g x y != 0)=false:=by simp[hz]
    rw[e2,aZ,t,bH (by simp[hz])]
   ·have e2:(g x y != 0)=true:=by simp[hz]
    rw[e2,aV,bS hz]
theorem Q3(x y:Int):(bif decide (x<y)then some (-1:Int)else bif decide (x>y)then some 1 else some 0)=some (Kj x y):=by
 unfold Kj;by_cases h1:x<y
 ·simp[h1]
 ·by_cases h2:x>y
  ·simp[h1,h2]
  ·simp[h1,h2]
theorem a6u(a b:Bytes):uG a b=some (yd a b):=by
 unfold uG yd;cases h:Op.bytesLess a b with
 |true=>rfl
 |false=>
  by_cases e:a=b
  ·simp[e]
  ·have e':(a==b)=false:=by simpa using e
   simp[e,e']
theorem a6t(a b:Bytes):jj a b=some (DW a b):=by
 unfold jj DW;rw[U6,U6,aA,aA,a6u];unfold pI;cases AP a with
 |none=>cases AP b<;>rfl
 |some x=>
  cases AP b with
  |none=>rfl
  |some y=>
   simp only[aV,bP,aZ];exact Q3 _ _
theorem a2B(x y:Int):ir x y=some (Kj x y):=by
 unfold ir;exact Q3 x y
theorem a6M(a b:Bytes):rV a b=some (yd a b):=by
 unfold rV;show some (Lib.compareBytes a b)=_;rw[YI]
theorem aAL(a b:Bytes):mL a b=some (DW a b):=by
 unfold mL DW;rw[Tc,Tc,aA,aA,a6M];unfold pI;cases AP a with
 |none=>cases AP b<;>rfl
 |some x=>
  cases AP b with
  |none=>rfl
  |some y=>
   simp only[aV,a2B,aA]
theorem a35(a b:aE):ez a b=some (pg a b):=by
 unfold ez pg;by_cases h:a.rel=b.rel
 ·have e:(a.rel==b.rel)=true:=by simpa using h
  rw[e,bP,aZ,bH (by simpa using h)];have t:=fun k=>Q0 (f:=jj) (g:=DW) (c:=tx) (L:=jQ a b k) (b:=b.args) (k:=k) (fun _=>rfl) (fun _ _ _=>rfl) a.args [] b.args rfl (fun x _ y _=>a6t x y)
  refine(t _).trans ?_;unfold cmpL;cases wA DW a.args b.args with
  |some z=>rfl
  |none=>simp only[aa];exact Q3 _ _
 ·have e:(a.rel==b.rel)=false:=by simpa using h
  rw[e,cR,aV,bS h,a6u];rfl
theorem a2A(a b:aE):fp a b=some (pg a b):=by
 unfold fp pg;rw[a6M,aA];by_cases h:a.rel=b.rel
 ·have e:(yd a.rel b.rel != 0)=false:=by rw[h,SN];rfl
  rw[e,aZ,bH (by simpa using h)];have t:=fun k=>Q0 (f:=mL) (g:=DW) (c:=tx) (L:=jK a b k) (b:=b.args) (k:=k) (fun _=>rfl) (fun _ _ _=>rfl) a.args [] b.args rfl (fun x _ y _=>aAL x y)
  refine(t _).trans ?_;unfold cmpL;cases wA DW a.args b.args with
  |some z=>rfl
  |none=>simp only[aa,a2B,aA]
 ·have e:(yd a.rel b.rel != 0)=true:=by simpa using YM h
  rw[e,aV,bS h]
theorem aB3(a b:aI):o9 a b=some (cmpL pg a.facts b.facts):=by
 unfold o9;have t:=fun k=>Q0 (f:=ez) (g:=pg) (c:=aE.c) (L:=iY a b k) (b:=b.facts) (k:=k) (fun _=>rfl) (fun _ _ _=>rfl) a.facts [] b.facts rfl (fun x _ y _=>a35 x y)
 refine(t _).trans ?_;unfold cmpL;cases wA pg a.facts b.facts with
 |some z=>rfl
 |none=>simp only[aa];exact Q3 _ _
theorem aAM(a b:aI):o8 a b=some (cmpL pg a.facts b.facts):=by
 unfold o8 oK;have t:=Q0 (f:=fp) (g:=pg) (c:=aE.c) (L:=eZ a.facts b.facts ((ir ((a.facts.map aE.c).length:Int) ((b.facts.map aE.c).length:Int)).bind fun O9=>(some O9))) (b:=b.facts) (k:=_) (fun _=>rfl) (fun _ _ _=>rfl) a.facts [] b.facts rfl (fun x _ y _=>a2A x y);rw[show eZ a.facts b.facts _ a.facts 0=_ from t];unfold cmpL;cases wA pg a.facts b.facts with
 |some z=>rfl
 |none=>simp only[aa,a2B,aA]
def chainB:Option aE->aL->Bool
 |_,[]=>true
 |p,x::xs=>u7 x&&(match p with|some q=>decide (pg q x<0)|none=>true)&&chainB (some x) xs
def p8(l:aL):Bool:=chainB none l&&decide (l.length<=24)
theorem SF{isF:aE->Option Bool}{cmp:aE->aE->Option Int}{a:aL}{L:aL->Nat->Option Bool}{k:Option Bool}(ha:a.length<=1099511627770)(hc:∀x y,cmp x y=some (pg x y))(v8:∀i,L [] i=k)
 (th:∀x xs i,L (x::xs) i=((isF x).bind fun y=>(bif !(y)then(some false)else(bif decide (((i:Int):Int)>0)then((mK a (IntKind.i64.wrap ((i:Int)-1))).bind fun q=>((cmp q x).bind fun z=>(bif decide ((z:Int)>=0)then(some false)else(L xs (i+1)))))else(L xs (i+1)))))):
 ∀(l pre:aL),a=pre++l->(∀x∈l,isF x=some (u7 x))->L l pre.length=bif chainB pre.getLast? l then k else some false:=by
 intro l
 induction l with
 |nil=>intro pre _ _;rw[v8];rfl
 |cons x xs ih=>
  intro pre h hf;have hl:a.length=pre.length+(xs.length+1):=by rw[h];simp
  have t:=ih (pre++[x]) (by simp[h]) (fun y hy=>hf y (by simp[hy]));rw[aX,fX,o5]at t;rw[th,hf x (by simp),aA,t];simp only[chainB];cases u7 x with
  |false=>rfl
  |true=>
   rw[bP,aZ,fO];rcases zH pre with rfl|⟨p,z,hpz⟩
   ·simp
   ·rw[zG]at hpz;subst hpz;have e0:decide (((p++[z]).length:Int)>0)=true:=by simp<;>omega
    have e1:IntKind.i64.wrap (((p++[z]).length:Int)-1)=(p.length:Int):=by
     rw[gx (tv.i64.2 (by simp at hl⊢;omega))];simp
    have e2:mK a (p.length:Int)=some z:=zn (xs:=x::xs) (by rw[h];simp);rw[e0,aV,e1,e2,aA,hc,aA,o5];by_cases hz:pg z x<0
    ·have e3:decide (pg z x>=0)=false:=by simp;omega
     rw[e3,aZ];show _=bif (decide (pg z x<0)&&chainB (some x) xs)then k else some false
     rw[bU hz,fO]
    ·have e3:decide (pg z x>=0)=true:=by simp;omega
     rw[e3,aV];show _=bif (decide (pg z x<0)&&chainB (some x) xs)then k else some false
     rw[bA hz];rfl
theorem a6r(l:aL)(h:kA aE.wt l<=1048576):rD l=some (p8 l):=by
 unfold rD p8;have hl:=gy aE.wt l;have t:=SF (isF:=pT) (cmp:=ez) (a:=l) (L:=kU l (some (decide ((((l.map aE.c).length:Int):Int)<=24)))) (k:=_) (by omega) a35 (fun _=>rfl) (fun _ _ _=>rfl) l [] rfl (fun x hx=>a3B x (by have:=ic (w:=aE.wt) hx;omega));refine t.trans ?_;have e:decide (((l.map aE.c).length:Int)<=24)=decide (l.length<=24):=by rw[aa];congr 1;rw[zb];omega
 rw[e];show(bif chainB none l then _ else _)=_;cases chainB none l<;>rfl
theorem a6L(l:aL)(h:kA aE.wt l<=1048576):qx l=some (p8 l):=by
 unfold qx p8;have hl:=gy aE.wt l;have t:=SF (isF:=pS) (cmp:=fp) (a:=l) (L:=ig l (some true)) (k:=_) (by omega) a2A (fun _=>rfl) (fun _ _ _=>rfl) l [] rfl (fun x hx=>a2F x (by have:=ic (w:=aE.wt) hx;omega));rw[show ig l (some true) l 0=_ from t];by_cases h24:l.length<=24
 ·have e:decide (((l.map aE.c).length:Int)>24)=false:=by rw[aa];simp;omega
  rw[e,aZ,bU h24,vD];show(bif chainB none l then _ else _)=_;cases chainB none l<;>rfl
 ·have e:decide (((l.map aE.c).length:Int)>24)=true:=by rw[aa];simp;omega
  rw[e,aV,bA h24,yg]
def PB(b:aT):Prop:=b.length<=1048576/\∀x∈b,x.var.length<=1048576/\x.value.length<=1048576
theorem PB.nil:PB []:=⟨by simp,by simp⟩
def xM:Option aS->aT->Bool
 |_,[]=>true
 |p,x::xs=>lS x.var&&(jv x.value&&((match p with|some q=>Op.bytesLess q.var x.var|none=>true)&&xM (some x) xs))
def p9(b:aT):Bool:=xM none b&&decide (b.length<=6)
theorem OJ{b:aT}(h:p9 b=true):b.length<=6:=by
 unfold p9 at h;simp only[aY,bJ]at h;exact h.2
theorem Us{isV isA:Bytes->Option Bool}{a:aT}{L:aT->Nat->Option Bool}{k:Option Bool}(ha:a.length<=1099511627770)(hV:∀x:Bytes,x.length<=1048576->isV x=some (lS x))(hA:∀x:Bytes,x.length<=1048576->isA x=some (jv x))(v8:∀i,L [] i=k)
 (th:∀x xs i,L (x::xs) i=((isV x.var).bind fun y=>(bif !(y)then(some false)else((isA x.value).bind fun z=>(bif !(z)then(some false)else(bif decide (((i:Int):Int)>0)then((mK a (IntKind.i64.wrap ((i:Int)-1))).bind fun q=>(bif !(Op.bytesLess q.var x.var)then(some false)else(L xs (i+1))))else(L xs (i+1)))))))):
 ∀(l pre:aT),a=pre++l->(∀x∈l,x.var.length<=1048576/\x.value.length<=1048576)->L l pre.length=bif xM pre.getLast? l then k else some false:=by
 intro l
 induction l with
 |nil=>intro pre _ _;rw[v8];rfl
 |cons x xs ih=>
  intro pre h hf;have hl:a.length=pre.length+(xs.length+1):=by rw[h];simp
  have t:=ih (pre++[x]) (by simp[h]) (fun y hy=>hf y (by simp[hy]));rw[aX,fX,o5]at t;rw[th,hV _ (hf x (by simp)).1,aA,hA _ (hf x (by simp)).2,aA,t];simp only[xM];cases lS x.var with
  |false=>rfl
  |true=>
   cases jv x.value with
   |false=>rfl
   |true=>
    simp only[bP,aZ,fO];rcases zH pre with rfl|⟨p,z,hpz⟩
    ·simp
    ·rw[zG]at hpz;subst hpz;have e0:decide (((p++[z]).length:Int)>0)=true:=by simp<;>omega
     have e1:IntKind.i64.wrap (((p++[z]).length:Int)-1)=(p.length:Int):=by
      rw[gx (tv.i64.2 (by simp at hl⊢;omega))];simp
     have e2:mK a (p.length:Int)=some z:=zn (xs:=x::xs) (by rw[h];simp);rw[e0,aV,e1,e2,aA,o5];show _=bif (Op.bytesLess z.var x.var&&xM (some x) xs)then k else some false
     cases Op.bytesLess z.var x.var<;>rfl
theorem Yr(b:aT)(h:PB b):lE b=some (p9 b):=by
 unfold lE p9;have t:=fun k=>Us (isV:=iT) (isA:=fU) (a:=b) (L:=jl b k) (k:=k) (by have:=h.1;omega) Vn PV (fun _=>rfl) (fun _ _ _=>rfl) b [] rfl h.2
 refine(t _).trans ?_;have e:decide (((b.map aS.c).length:Int)<=6)=decide (b.length<=6):=by rw[aa];congr 1;rw[zb];omega
 rw[e];show(bif xM none b then _ else _)=_;cases xM none b<;>rfl
theorem Ye(b:aT)(h:PB b):kw b=some (p9 b):=by
 unfold kw p9;have t:=fun k=>Us (isV:=lY) (isA:=fQ) (a:=b) (L:=hY b k) (k:=k) (by have:=h.1;omega) Zp PJ (fun _=>rfl) (fun _ _ _=>rfl) b [] rfl h.2
 rw[show hY b (some true) b 0=_ from t _];by_cases h6:b.length<=6
 ·have e:decide (((b.map aS.c).length:Int)>6)=false:=by rw[aa];simp;omega
  rw[e,aZ,bU h6,vD];show(bif xM none b then _ else _)=_;cases xM none b<;>rfl
 ·have e:decide (((b.map aS.c).length:Int)>6)=true:=by rw[aa];simp;omega
  rw[e,aV,bA h6,yg]
def lU(t:Bytes):aT->Option Bytes
 | []=>none
 |x::xs=>bif x.var==t then some x.value else lU t xs
def BX(b:aT)(t:Bytes):Bytes×Bool:=bif jv t then(t,true)else bif lS t then(match lU t b with|some v=>(v,true)|none=>([],false))else([],false)
theorem a8y(b:aT)(t:Bytes)(ht:t.length<=1048576):qU b t=some (BX b t):=by
 unfold qU BX;have key:∀(l:aT) (i:Nat),iU b t (some ([],false)) l i=some (bif lS t then(match lU t l with|some v=>(v,true)|none=>([],false))else([],false)):=by
  intro l
  induction l with
  |nil=>intro i;rw[iU];cases lS t<;>rfl
  |cons x xs ih=>
   intro i;rw[iU,Vn t ht,aA,ih];simp only[lU];cases x.var==t<;>cases lS t<;>rfl
 rw[PV t ht,aA,key];cases jv t<;>rfl
theorem a8K(b:aT)(t:Bytes)(ht:t.length<=1048576):qM b t=some (BX b t):=by
 unfold qM BX;have key:∀(l:aT) (i:Nat),ld b t (some ([],false)) l i=some (match lU t l with|some v=>(v,true)|none=>([],false)):=by
  intro l
  induction l with
  |nil=>intro i;rfl
  |cons x xs ih=>
   intro i;rw[ld,ih];simp only[lU];cases x.var==t<;>rfl
 rw[PJ t ht,aA,Zp t ht,aA,key];cases jv t<;>cases lS t<;>rfl
theorem Xc(b:aT)(h:b.length<=1099511627776):sH b=some b:=by
 unfold sH;rw[Vl h (by decide)];simp
theorem XD(b:aT)(h:b.length<=1099511627776):jP b=some b:=by
 unfold jP;rw[Vl h (by decide)];simp
def CJ(v val:Bytes):aT->aT
 | []=>[⟨v,val⟩]
 |x::xs=>bif !(Op.bytesLess x.var v||x.var==v)then⟨v,val⟩::x::xs else x::CJ v val xs
theorem RX(v val:Bytes)(b:aT):(CJ v val b).length=b.length+1:=by
 induction b with
 |nil=>rfl
 |cons x xs ih=>simp only[CJ];cases !(Op.bytesLess x.var v||x.var==v)<;>simp[ih]
theorem Vp(v val:Bytes)(b:aT){x:aS}(h:x∈CJ v val b):x=⟨v,val⟩\/x∈b:=by
 induction b with
 |nil=>simp[CJ]at h;exact .inl h
 |cons y ys ih=>
  simp only[CJ]at h;cases hc: !(Op.bytesLess y.var v||y.var==v)with
  |true=>
   rw[hc,aV]at h;rcases bM.1 h with h|h
   ·exact .inl h
   ·exact .inr h
  |false=>
   rw[hc,aZ]at h;rcases bM.1 h with h|h
   ·exact .inr (by simp[h])
   ·rcases ih h with h|h
    ·exact .inl h
    ·exact .inr (by simp[h])
theorem Yu{γ:Type}{v val:Bytes}{L:aT->Nat->Bool->aT->Option γ}{k:Bool->aT->Option γ}{K:aT->Option γ}(hk1:∀w,k true w=K w)(hk2:∀w:aT,w.length<1099511627770->k false w=K (w++[⟨v,val⟩]))(v8:∀i d w,L [] i d w=k d w)
 (th:∀x xs i d w,L (x::xs) i d w=(bif !(d)then(bif !(Op.bytesLess x.var v||(x.var:Bytes)==v)then(bif room ((w.map aS.c).length+([[D.str v,D.str val]]).length) 32 then(bif room (((w.map aS.c)++([[D.str v,D.str val]])).length+([[D.str x.var,D.str x.value]]).length) 32 then(L xs (i+1) true ((w++([(⟨v,val⟩:aS)]))++([x])))else none)else none)else(bif room ((w.map aS.c).length+([[D.str x.var,D.str x.value]]).length) 32 then(L xs (i+1) d (w++([x])))else none))else(bif room ((w.map aS.c).length+([[D.str x.var,D.str x.value]]).length) 32 then(L xs (i+1) d (w++([x])))else none))):
 ∀(l:aT) (i:Nat) (w:aT),w.length+l.length<1099511627760->L l i false w=K (w++CJ v val l):=by
 have c1:∀(l:aT) (i:Nat) (w:aT),w.length+l.length<1099511627765->L l i true w=K (w++l):=by
  intro l
  induction l with
  |nil=>intro i w _;rw[v8,hk1,cN]
  |cons x xs ih=>
   intro i w hw;simp only[aK]at hw;rw[th,bP,aZ,mi (by omega) (by decide),aV,ih (i+1) (w++[x]) (by simp;omega)];simp
 intro l
 induction l with
 |nil=>intro i w hw;simp only[bK]at hw;rw[v8,hk2 _ (by omega)];rfl
 |cons x xs ih=>
  intro i w hw;simp only[aK]at hw;have r1:∀y:aR,room ((w.map aS.c).length+([y]).length) 32=true:=fun y=>mi (by omega) (by decide)
  have r2:room (((w.map aS.c)++([[D.str v,D.str val]])).length+([[D.str x.var,D.str x.value]]).length) 32=true:=KV (by simp;omega) (by decide);have t1:=ih (i+1) (w++[x]) (by simp;omega);have t2:=c1 xs (i+1) ((w++[⟨v,val⟩])++[x]) (by simp;omega);rw[th,cR,aV,r1,r1,r2];simp only[aV,CJ];cases !(Op.bytesLess x.var v||x.var==v)with
  |true=>rw[aV,aV,t2];simp
  |false=>rw[aZ,aZ,t1];simp
theorem aBJ(b:aT)(v val:Bytes)(h:b.length<1099511627700):zA b v val=some (CJ v val b):=by
 unfold zA;exact Yu (v:=v) (val:=val) (K:=fun w=>some w) (L:=mh b v val (fun(z:Bool) (q:aT)=>(bif !(z)then(bif room ((q.map aS.c).length+([[D.str v,D.str val]]).length) 32 then(some (q++([(⟨v,val⟩:aS)])))else none)else(some q)))) (fun w=>rfl) (fun w hw=>by show(bif !false then _ else _)=_;rw[mi (by omega) (by decide)];rfl) (fun _ _ _=>rfl) (fun _ _ _ _ _=>rfl) b 0 [] (by simp;omega)
def Hv(b:aT)(v val:Bytes):aT×Bool:=bif p9 b&&(lS v&&jv val)then(match lU v b with|some o=>bif o==val then(b,true)else([],false)|none=>bif decide (b.length=6)then([],false)else(CJ v val b,true))else([],false)
theorem YO{b:aT}{v val:Bytes}(h:PB b)(hv:v.length<=1048576)(hl:val.length<=1048576):PB (Hv b v val).1:=by
 unfold Hv;cases hb:p9 b&&(lS v&&jv val)with
 |false=>exact PB.nil
 |true=>
  rw[aV];have h6:b.length<=6:=OJ (by simp only[aY]at hb;exact hb.1);cases lU v b with
  |some o=>simp only;cases o==val<;>first|exact h|exact PB.nil
  |none=>
   simp only;cases decide (b.length=6)with
   |true=>exact PB.nil
   |false=>
    refine⟨by simp only[aZ,RX];omega,fun x hx=>?_⟩;rcases Vp _ _ _ hx with rfl|hx
    ·exact⟨hv,hl⟩
    ·exact h.2 x hx
theorem aDu(b:aT)(v val:Bytes)(h:PB b)(hv:v.length<=1048576)(hl:val.length<=1048576):vU b v val=some (Hv b v val):=by
 unfold vU Hv;have hlen:=h.1;rw[Yr b h,aA,Vn v hv,aA,PV val hl,aA,a8y b v hv,aA,Xc b (by omega),aA,aBJ b v val (by omega),aA];have e6:((((b.map aS.c).length:Int):Int)==6)=decide (b.length=6):=by
  rw[aa,bp];simp;omega
 rw[e6];cases hb:p9 b with
 |false=>rfl
 |true=>
  cases hvv:lS v with
  |false=>rfl
  |true=>
   cases jv val with
   |false=>rfl
   |true=>
    have VJ:BX b v=(match lU v b with|some o=>(o,true)|none=>([],false)):=by unfold BX;rw[BY hvv,hvv];rfl
    rw[VJ];simp only[bP,aZ,fO,vD,aV];cases lU v b with
    |some o=>simp only[aV];cases o==val<;>rfl
    |none=>simp only[aZ];cases decide (b.length=6)<;>rfl
theorem aDY(b:aT)(v val:Bytes)(h:PB b)(hv:v.length<=1048576)(hl:val.length<=1048576):vH b v val=some (Hv b v val):=by
 unfold vH Hv;have hlen:=h.1;have t:=(Yu (v:=v) (val:=val) (K:=fun w=>some ((w,true):aT×Bool)) (L:=kq b v val (fun(z:Bool) (q:aT)=>(bif !(z)then(bif room ((q.map aS.c).length+([[D.str v,D.str val]]).length) 32 then(some (q++([(⟨v,val⟩:aS)]),true))else none)else(some (q,true))))) (fun w=>rfl) (fun w hw=>by show(bif !false then _ else _)=_;rw[mi (by omega) (by decide)];rfl) (fun _ _ _=>rfl) (fun _ _ _ _ _=>rfl) b 0 [] (by simp;omega))
 rw[Ye b h,aA,Zp v hv,aA,PJ val hl,aA,a8K b v hv,aA,XD b (by omega),aA,t];cases hb:p9 b with
 |false=>rfl
 |true=>
  have h6:=OJ hb;have e6:decide ((((b.map aS.c).length:Int):Int)>=6)=decide (b.length=6):=by
   rw[aa];congr 1;rw[zb];omega
  rw[e6];cases hvv:lS v with
  |false=>rfl
  |true=>
   cases jv val with
   |false=>rfl
   |true=>
    have VJ:BX b v=(match lU v b with|some o=>(o,true)|none=>([],false)):=by unfold BX;rw[BY hvv,hvv];rfl
    rw[VJ];simp only[bP,aZ,fO,vD,aV];cases lU v b with
    |some o=>simp only[aV];cases o==val<;>rfl
    |none=>simp only[aZ];cases decide (b.length=6)<;>rfl
def Pq:aJ->aJ->aT->aT×Bool
 | [],_,w=>(w,true)
 |_::_,[],_=>([],false)
 |x::xs,y::ys,w=>bif jv x then(bif x==y then Pq xs ys w else([],false))else(bif (Hv w x y).2 then Pq xs ys (Hv w x y).1 else([],false))
def vB(p f:aE)(b:aT):aT×Bool:=bif zE p&&(u7 f&&(p9 b&&(p.rel==f.rel&&decide (p.args.length=f.args.length))))then Pq p.args f.args b else([],false)
theorem Tk:∀(l r:aJ) (w:aT),PB w->(∀x∈l,x.length<=1048576)->(∀x∈r,x.length<=1048576)->PB (Pq l r w).1
 | [],_,w,h,_,_=>h
 |_::_,[],_,_,_,_=>PB.nil
 |x::xs,y::ys,w,h,hl,hr=>by
  simp only[Pq];have i1:=Tk xs ys w h (fun z hz=>hl z (by simp[hz])) (fun z hz=>hr z (by simp[hz]));have i2:=Tk xs ys (Hv w x y).1 (YO h (hl x (by simp)) (hr y (by simp))) (fun z hz=>hl z (by simp[hz])) (fun z hz=>hr z (by simp[hz]));cases jv x with
  |true=>cases x==y<;>first|exact i1|exact PB.nil
  |false=>cases(Hv w x y).2<;>first|exact i2|exact PB.nil
theorem a5P{p f:aE}{b:aT}(hb:PB b)(hp:p.wt<=1048576)(hf:f.wt<=1048576):PB (vB p f b).1:=by
 unfold vB;cases zE p&&(u7 f&&(p9 b&&(p.rel==f.rel&&decide (p.args.length=f.args.length))))with
 |false=>exact PB.nil
 |true=>exact Tk _ _ _ hb (fun x hx=>aE.vZ hp hx) (fun x hx=>aE.vZ hf hx)
theorem Yi{isA:Bytes->Option Bool}{ext:aT->Bytes->Bytes->Option (aT×Bool)}{fa:aJ}{L:aJ->Nat->aT->Option (aT×Bool)}(hA:∀x:Bytes,x.length<=1048576->isA x=some (jv x))(hE:∀w x y,PB w->x.length<=1048576->y.length<=1048576->ext w x y=some (Hv w x y))(v8:∀i w,L [] i w=some (w,true))
 (th:∀x xs i w,L (x::xs) i w=((isA x).bind fun y=>(bif y then((mK fa (i:Int)).bind fun z=>(bif !((x:Bytes)==z)then(some ([],false))else(L xs (i+1) w)))else((mK fa (i:Int)).bind fun z=>((ext w x z).bind fun q=>(bif !(q.2)then(some ([],false))else(L xs (i+1) q.1))))))):
 ∀(l pre rest:aJ) (w:aT),fa=pre++rest->l.length=rest.length->(∀x∈l,x.length<=1048576)->(∀x∈rest,x.length<=1048576)->PB w->L l pre.length w=some (Pq l rest w):=by
 intro l
 induction l with
 |nil=>intro pre rest w _ _ _ _ _;rw[v8];simp[Pq]
 |cons x xs ih=>
  intro pre rest w h hl hx hr hw;cases rest with
  |nil=>simp at hl
  |cons y ys=>
   have t:=fun w' hw'=>ih (pre++[y]) ys w' (by simp[h]) (by simpa using hl) (fun z hz=>hx z (by simp[hz])) (fun z hz=>hr z (by simp[hz])) hw'
   simp only[aX,fX]at t;rw[th,hA x (hx x (by simp)),aA,zn h,aA,aA,hE w x y hw (hx x (by simp)) (hr y (by simp)),aA];simp only[Pq];cases jv x with
   |true=>
    simp only[aV];cases x==y with
    |true=>simp only[bP,aZ,aV];exact t w hw
    |false=>rfl
   |false=>
    simp only[aZ];cases hq:(Hv w x y).2 with
    |true=>simp only[bP,aZ,aV];exact t _ (YO hw (hx x (by simp)) (hr y (by simp)))
    |false=>rfl
theorem a2Y(a b:aJ):((((a.map tx).length:Int):Int) != ((b.map tx).length:Int))= !decide (a.length=b.length):=by
 rw[aa,aa];by_cases h:a.length=b.length
 ·simp[h]
 ·rw[bA h];simp;omega
theorem a8n(p f:aE)(b:aT)(hp:p.wt<=1048576)(hf:f.wt<=1048576)(hb:PB b):jT p f b=some (vB p f b):=by
 unfold jT vB;have hlen:=hb.1;rw[a8q p hp,aA,a3B f hf,aA,Yr b hb,aA,Xc b (by omega),aA,a2Y];cases zE p with
 |false=>rfl
 |true=>
  cases u7 f with
  |false=>rfl
  |true=>
   cases p9 b with
   |false=>rfl
   |true=>
    cases p.rel==f.rel with
    |false=>rfl
    |true=>
     by_cases h:p.args.length=f.args.length
     ·rw[bU h];have t:=Yi (isA:=fU) (ext:=vU) (fa:=f.args) (L:=jq p f (fun(q:aT)=>(some (q,true)))) PV (fun w x y hw hx hy=>aDu w x y hw hx hy) (fun _ _=>rfl) (fun _ _ _ _=>rfl) p.args [] f.args b rfl h (fun x hx=>aE.vZ hp hx) (fun x hx=>aE.vZ hf hx) hb;exact t
     ·rw[bA h];rfl
theorem a8B(p f:aE)(b:aT)(hp:p.wt<=1048576)(hf:f.wt<=1048576)(hb:PB b):jN p f b=some (vB p f b):=by
 unfold jN vB;have hlen:=hb.1;rw[a8D p hp,aA,a2F f hf,aA,Ye b hb,aA,XD b (by omega),aA,a2Y];cases zE p with
 |false=>rfl
 |true=>
  cases u7 f with
  |false=>rfl
  |true=>
   cases p9 b with
   |false=>rfl
   |true=>
    cases p.rel==f.rel with
    |false=>rfl
    |true=>
     by_cases h:p.args.length=f.args.length
     ·rw[bU h];have t:=Yi (isA:=fQ) (ext:=vH) (fa:=f.args) (L:=jc p f (fun(q:aT)=>(some (q,true)))) PJ (fun w x y hw hx hy=>aDY w x y hw hx hy) (fun _ _=>rfl) (fun _ _ _ _=>rfl) p.args [] f.args b rfl h (fun x hx=>aE.vZ hp hx) (fun x hx=>aE.vZ hf hx) hb;exact t
     ·rw[bA h];rfl
def ltB(l r:Bytes):Bool:=match AP l,AP r with|some x,some y=>decide (x<y)|_,_=>false
def a1j(c:aQ)(b:aT):Bool:=O2 c&&(p9 b&&((BX b c.left).2&&((BX b c.right).2&&(bif decide (c.kind=3)then(BX b c.left).1==(BX b c.right).1 else bif decide (c.kind=4)then !((BX b c.left).1==(BX b c.right).1)else ltB (BX b c.left).1 (BX b c.right).1))))
theorem zu(a b:Int):(a==b)=decide (a=b):=by rw[bp];simp
theorem aBB(c:aQ)(b:aT)(hc:c.wt<=1048576)(hb:PB b):tY c b=some (a1j c b):=by
 unfold tY a1j;rw[a3P c hc,aA,Yr b hb,aA,a8y b c.left (aQ.Co hc),aA,a8y b c.right (aQ.AU hc),aA,zu,zu];cases O2 c with
 |false=>rfl
 |true=>
  cases p9 b with
  |false=>rfl
  |true=>
   cases(BX b c.left).2 with
   |false=>rfl
   |true=>
    cases(BX b c.right).2 with
    |false=>rfl
    |true=>
     cases decide (c.kind=3)with
     |true=>rfl
     |false=>
      cases decide (c.kind=4)with
      |true=>rfl
      |false=>
       simp only[bP,aZ,fO];unfold um ltB;rw[U6,aA,aA,U6,aA,aA,a6t,aA];unfold pI DW;cases AP (BX b c.left).1 with
       |none=>rfl
       |some x=>
        cases AP (BX b c.right).1 with
        |none=>rfl
        |some y=>
         simp only[aV]
         congr 1
         unfold Kj;by_cases h:x<y
         ·have h1:(x:Int)<y:=by omega
          simp[h1,h]
         ·have h1:¬(x:Int)<y:=by omega
          by_cases h2:(x:Int)>y
          ·simp[h1,h,h2]
          ·simp[h1,h,h2]
theorem aAU(c:aQ)(b:aT)(hc:c.wt<=1048576)(hb:PB b):su c b=some (a1j c b):=by
 unfold su a1j;rw[aAd c hc,aA,Ye b hb,aA,a8K b c.left (aQ.Co hc),aA,a8K b c.right (aQ.AU hc),aA,zu,zu];cases O2 c with
 |false=>rfl
 |true=>
  cases p9 b with
  |false=>rfl
  |true=>
   cases(BX b c.left).2 with
   |false=>rfl
   |true=>
    cases(BX b c.right).2 with
    |false=>rfl
    |true=>
     cases decide (c.kind=3)with
     |true=>rfl
     |false=>
      cases decide (c.kind=4)with
      |true=>rfl
      |false=>
       simp only[bP,aZ,fO];unfold ltB;rw[Tc,aA,Tc,aA];unfold pI;cases AP (BX b c.left).1 with
       |none=>rfl
       |some x=>
        cases AP (BX b c.right).1 with
        |none=>rfl
        |some y=>
         simp only[aV]
         congr 1
         by_cases h:x<y
         ·simp[h]
         ·simp[h]
def uM(p:aE)(b:aT)(fs:aL):aL:=fs.filter fun f=>(vB p f b).2
def FS(fs:aL):Prop:=fs.length<=1048576/\∀f∈fs,f.wt<=1048576
theorem YS{γ:Type}{mf:aE->Option (aT×Bool)}{cp:aE->Option aE}{p:aE}{b:aT}{L:aL->Nat->aL->Option γ}{k:aL->Option γ}(hm:∀f:aE,f.wt<=1048576->mf f=some (vB p f b))(hc:∀f:aE,f.wt<=1048576->cp f=some f)(v8:∀i w,L [] i w=k w)
 (th:∀x xs i w,L (x::xs) i w=((mf x).bind fun y=>(bif y.2 then((cp x).bind fun z=>(bif room ((w.map aE.c).length+([[D.str z.rel,D.sl (z.args.map tx)]]).length) 40 then(L xs (i+1) (w++([z])))else none))else(L xs (i+1) w)))):
 ∀(l:aL) (i:Nat) (w:aL),(∀f∈l,f.wt<=1048576)->w.length+l.length<1099511627700->L l i w=k (w++uM p b l):=by
 intro l
 induction l with
 |nil=>intro i w _ _;rw[v8];simp[uM]
 |cons x xs ih=>
  intro i w hl hw;simp only[aK]at hw;have hx:=hl x (by simp);rw[th,hm x hx,aA,hc x hx,aA,mi (by omega) (by decide),aV];have e:uM p b (x::xs)=bif (vB p x b).2 then x::uM p b xs else uM p b xs:=by
   unfold uM;rw[List.filter_cons];cases(vB p x b).2<;>rfl
  rw[e];cases(vB p x b).2 with
  |true=>rw[aV,aV,ih _ _ (fun f hf=>hl f (by simp[hf])) (by simp;omega)];simp
  |false=>rw[aZ,aZ,ih _ _ (fun f hf=>hl f (by simp[hf])) (by omega)]
theorem a8m(p:aE)(b:aT)(fs:aL)(hp:p.wt<=1048576)(hb:PB b)(hf:FS fs):gX p b fs=some (uM p b fs):=by
 unfold gX;have h1:=hf.1;refine(YS (mf:=fun f=>jT p f b) (cp:=fA) (p:=p) (b:=b) (L:=gH p b fs _) (k:=fun q=>some q) (fun f h=>a8n p f b hp h hb) (fun f h=>P3 f (by have:=aE.dh h;omega)) (fun _ _=>rfl) (fun _ _ _ _=>rfl) fs 0 [] hf.2 (by simp;omega)).trans ?_;simp
theorem aAQ(p:aE)(b:aT)(fs:aL)(hp:p.wt<=1048576)(hb:PB b)(hf:FS fs):ij p b fs=some (uM p b fs):=by
 unfold ij;have h1:=hf.1;refine(YS (mf:=fun f=>jN p f b) (cp:=eF) (p:=p) (b:=b) (L:=gE p b fs _) (k:=fun q=>some q) (fun f h=>a8B p f b hp h hb) (fun f h=>Oq f (by have:=aE.dh h;omega)) (fun _ _=>rfl) (fun _ _ _ _=>rfl) fs 0 [] hf.2 (by simp;omega)).trans ?_;simp
def Om(c:aQ)(b:aT)(fs:aL):Bool:=si c&&(p9 b&&(bif decide (c.kind=1)then decide (0<(uM c.pat b fs).length)else bif decide (c.kind=2)then decide ((uM c.pat b fs).length=0)else a1j c b))
theorem a2X(l:aL):decide ((((l.map aE.c).length:Int):Int)>0)=decide (0<l.length):=by rw[aa];congr 1;rw[zb];omega
theorem len_eq(l:aL):((((l.map aE.c).length:Int):Int)==0)=decide (l.length=0):=by rw[aa,zu];congr 1;rw[zb];omega
theorem aBA(c:aQ)(b:aT)(fs:aL)(hc:c.wt<=1048576)(hb:PB b)(hf:FS fs):tX c b fs=some (Om c b fs):=by
 unfold tX Om;rw[a36 c hc,aA,Yr b hb,aA,a8m c.pat b fs (aQ.fL hc) hb hf,aA,aA,aBB c b hc hb,aA,zu,zu,a2X,len_eq];cases si c with
 |false=>rfl
 |true=>
  cases p9 b with
  |false=>rfl
  |true=>cases decide (c.kind=1)<;>cases decide (c.kind=2)<;>rfl
theorem aAT(c:aQ)(b:aT)(fs:aL)(hc:c.wt<=1048576)(hb:PB b)(hf:FS fs):sr c b fs=some (Om c b fs):=by
 unfold sr Om;rw[a2C c hc,aA,Ye b hb,aA,aAQ c.pat b fs (aQ.fL hc) hb hf,aA,aA,aAU c b hc hb,aA,zu,zu,a2X,len_eq];cases si c with
 |false=>rfl
 |true=>
  cases p9 b with
  |false=>rfl
  |true=>cases decide (c.kind=1)<;>cases decide (c.kind=2)<;>rfl
def Fix(h:Bytes->Bytes):Prop:=∀y,jv y=true->h y=y
def Cov(a b:aE):Prop:=zE a=true/\zE b=true/\a.rel=b.rel/\∃h,b.args=a.args.map h/\Fix h
theorem Ew{t v val:Bytes}(h:v≠t):∀(w:aT),lU t (CJ v val w)=lU t w
 | []=>by
  have:(v==t)=false:=by simpa using h
  simp only[CJ,lU,this,aZ]
 |x::xs=>by
  have hv:(v==t)=false:=by simpa using h
  rw[CJ];cases !(Op.bytesLess x.var v||x.var==v)with
  |true=>rw[aV,lU];simp only[hv,aZ]
  |false=>rw[aZ,lU,lU,Ew h xs]
theorem Oi{v val:Bytes}:∀(w:aT),lU v w=none->lU v (CJ v val w)=some val
 | [],_=>by simp[CJ,lU]
 |x::xs,h=>by
  rw[lU]at h;rw[CJ];cases hx:x.var==v with
  |true=>rw[hx]at h;cases h
  |false=>
   rw[hx,aZ]at h;cases !(Op.bytesLess x.var v||false)with
   |true=>rw[aV,lU];simp
   |false=>rw[aZ,lU,hx,aZ];exact Oi xs h
theorem SW{t o:Bytes}:∀ {w:aT},lU t w=some o->∃p∈w,p.var=t/\p.value=o
 |x::xs,h=>by
  rw[lU]at h;cases hx:x.var==t with
  |true=>rw[hx,aV]at h;cases h;exact⟨x,by simp,by simpa using hx,rfl⟩
  |false=>
   rw[hx,aZ]at h;obtain⟨p,hp,h1⟩:=SW h;exact⟨p,by simp[hp],h1⟩
theorem zz(p:Option aS)(x:aS)(xs:aT):xM p (x::xs)=(lS x.var&&(jv x.value&&((match p with|some q=>Op.bytesLess q.var x.var|none=>true)&&xM (some x) xs))):=by
 cases p<;>rfl
theorem SI{v val:Bytes}(hv:lS v=true)(ha:jv val=true):∀(w:aT) (p:Option aS),xM p w=true->lU v w=none->(∀q,p=some q->Op.bytesLess q.var v=true)->xM p (CJ v val w)=true
 | [],p,_,_,hp=>by
  simp only[CJ,xM,hv,ha,fO,vD];cases p with
  |none=>rfl
  |some q=>exact hp q rfl
 |x::xs,p,hc,hf,hp=>by
  rw[zz]at hc;simp only[aY]at hc;obtain⟨c1,c2,c3,c4⟩:=hc;rw[lU]at hf;cases hx:x.var==v with
  |true=>rw[hx]at hf;cases hf
  |false=>
   rw[hx,aZ]at hf;rw[CJ,hx,vE];cases hl:Op.bytesLess x.var v with
   |true=>
    rw[bP,aZ,zz];simp only[aY];exact⟨c1,c2,c3,SI hv ha xs (some x) c4 hf (fun q hq=>by cases hq;exact hl)⟩
   |false=>
    have h2:Op.bytesLess v x.var=true:=by
     cases h3:Op.bytesLess v x.var with
     |true=>rfl
     |false=>
      have:=Ki hl h3;rw[this]at hx;simp at hx
    rw[cR,aV,zz];simp only[aY];refine⟨hv,ha,?_,?_⟩
    ·cases p with
     |none=>rfl
     |some q=>exact hp q rfl
    ·rw[zz];simp only[aY];exact⟨c1,c2,h2,c4⟩
theorem a1L{v val:Bytes}{w:aT}(hv:lS v=true)(ha:jv val=true)(hb:p9 w=true)(hf:lU v w=none)(hl:w.length≠6):p9 (CJ v val w)=true:=by
 have h6:=OJ hb;unfold p9 at hb⊢;rw[aY]at hb⊢;exact⟨SI hv ha w none hb.1 hf (fun q h=>by cases h),by rw[RX];simp;omega⟩
theorem CF:∀(l r:aJ) (w:aT),l.length=r.length->(∀p∈w,lS p.var=true)->(Pq l r w).2=true->∃h,(∀v o,lU v w=some o->h v=o)/\r=l.map h/\Fix h
 | [],[],w,_,hk,_=>by
  refine⟨fun y=>match lU y w with|some o=>o|none=>y,fun v o ho=>by simp only[ho],rfl,fun y hy=>?_⟩;cases hf:lU y w with
  |none=>simp only[hf]
  |some o=>
   obtain⟨p,hp,h1,_⟩:=SW hf;have:=hk p hp;rw[h1]at this;rw[BY this]at hy;cases hy
 |x::xs,y::ys,w,hl,hk,hm=>by
  simp only[Pq]at hm;cases hx:jv x with
  |true=>
   rw[hx,aV]at hm;cases hxy:x==y with
   |false=>rw[hxy]at hm;cases hm
   |true=>
    rw[hxy,aV]at hm;obtain⟨h,h1,h2,h3⟩:=CF xs ys w (by simpa using hl) hk hm;have:x=y:=by simpa using hxy
    exact⟨h,h1,by rw[bG,h3 x hx,<-this,<-h2],h3⟩
  |false=>
   rw[hx,aZ]at hm;cases he:(Hv w x y).2 with
   |false=>rw[he]at hm;cases hm
   |true=>
    rw[he,aV]at hm;have key:lS x=true/\((lU x w=some y/\(Hv w x y).1=w)\/(lU x w=none/\(Hv w x y).1=CJ x y w)):=by
     unfold Hv at he⊢;cases hc:p9 w&&(lS x&&jv y)with
     |false=>rw[hc]at he;cases he
     |true=>
      rw[hc,aV]at he;simp only[aY]at hc;refine⟨hc.2.1,?_⟩;rw[aV];cases hf:lU x w with
      |some o=>
       rw[hf]at he;simp only at he⊢;cases ho:o==y with
       |false=>rw[ho]at he;cases he
       |true=>exact .inl ⟨by rw[show o=y from by simpa using ho],rfl⟩
      |none=>
       rw[hf]at he;simp only at he⊢;cases hd:decide (w.length=6)with
       |true=>rw[hd]at he;cases he
       |false=>exact .inr ⟨by first|trivial|rfl,by first|rfl|trivial⟩
    obtain⟨hv,a9k⟩:=key;rcases a9k with⟨hf,h1⟩|⟨hf,h1⟩
    ·rw[h1]at hm;obtain⟨h,k1,k2,k3⟩:=CF xs ys w (by simpa using hl) hk hm;exact⟨h,k1,by rw[bG,k1 x y hf,<-k2],k3⟩
    ·rw[h1]at hm;obtain⟨h,k1,k2,k3⟩:=CF xs ys (CJ x y w) (by simpa using hl) (fun p hp=>by
      rcases Vp x y w hp with h|h
      ·rw[h];exact hv
      ·exact hk p h) hm
     refine⟨h,fun v o ho=>?_,by rw[bG,k1 x y (Oi w hf),<-k2],k3⟩;refine k1 v o ?_;rw[Ew (fun e=>?_),ho];rw[e,ho]at hf;cases hf
 | [],_::_,_,hl,_,_=>by simp at hl
 |_::_,[],_,hl,_,_=>by simp at hl
theorem Nq(h:Bytes->Bytes)(a4r:Fix h):∀(l:aJ) (w:aT),(∀x∈l,qe x=true)->(∀x∈l,jv (h x)=true)->p9 w=true->w.length+l.length<=6->(∀v o,lU v w=some o->h v=o)->(Pq l (l.map h) w).2=true
 | [],_,_,_,_,_,_=>rfl
 |x::xs,w,ht,ha,hb,hl,hw=>by
  simp only[aK]at hl;rw[bG];simp only[Pq];have ht':∀y∈xs,qe y=true:=fun y hy=>ht y (by simp[hy])
  have ha':∀y∈xs,jv (h y)=true:=fun y hy=>ha y (by simp[hy])
  cases hx:jv x with
  |true=>
   rw[aV,a4r x hx,cy,aV];exact Nq h a4r xs w ht' ha' hb (by omega) hw
  |false=>
   have hv:lS x=true:=by
    have:=ht x (by simp);unfold qe at this;rw[hx,pR]at this;exact this
   have hax:=ha x (by simp);rw[aZ];unfold Hv;rw[hb,hv,hax];simp only[fO,aV];cases hf:lU x w with
   |some o=>
    have:=hw x o hf;simp only[this,cy,aV];exact Nq h a4r xs w ht' ha' hb (by omega) hw
   |none=>
    have h6:w.length≠6:=by omega
    simp only[bA h6,aZ,aV];refine Nq h a4r xs (CJ x (h x) w) ht' ha' (a1L hv hax hb hf h6) (by rw[RX];omega) (fun v o ho=>?_);by_cases e:x=v
    ·subst e;rw[Oi w hf]at ho;cases ho;rfl
    ·rw[Ew e]at ho;exact hw v o ho
theorem RA{p f:aE}:(vB p f []).2=true↔zE p=true/\u7 f=true/\p.rel=f.rel/\∃h,f.args=p.args.map h/\Fix h:=by
 unfold vB;constructor
 ·intro hm;cases hc:zE p&&(u7 f&&(p9 []&&(p.rel==f.rel&&decide (p.args.length=f.args.length))))with
  |false=>rw[hc]at hm;cases hm
  |true=>
   rw[hc,aV]at hm;simp only[aY,cj,bJ]at hc;obtain⟨c1,c2,_,c4,c5⟩:=hc;obtain⟨h,_,h2,h3⟩:=CF p.args f.args [] c5 (by simp) hm;exact⟨c1,c2,c4,h,h2,h3⟩
 ·rintro⟨c1,c2,c4,h,h2,h3⟩;have c5:p.args.length=f.args.length:=by rw[h2];simp
  rw[c1,c2,show p9 []=true from rfl,c4,cy,bU c5];simp only[vD,aV];have c1':=c1;unfold zE at c1';simp only[aY,bJ]at c1';unfold u7 at c2;simp only[aY]at c2;rw[h2];refine Nq h h3 p.args [] (fun x hx=>bB.1 c1'.1 x hx) (fun x hx=>?_) rfl (by simp;omega) (fun v o ho=>by simp[lU]at ho);exact bB.1 c2.1 _ (by rw[h2];exact cJ.2 ⟨x,hx,rfl⟩)
theorem a4i{p q f:aE}(hc:Cov p q)(hm:(vB q f []).2=true):(vB p f []).2=true:=by
 obtain⟨c1,c2,c3,h,h2,h3⟩:=hc;obtain⟨m1,m2,m3,k,k2,k3⟩:=RA.1 hm;refine RA.2 ⟨c1,m2,c3.trans m3,fun x=>k (h x),?_,fun y hy=>by show k (h y)=y;rw[h3 y hy,k3 y hy]⟩;rw[k2,h2,rH];rfl
theorem Yz{p:aE}(h:zE p=true):∀t∈p.args,qe t=true:=by
 unfold zE at h;rw[aY]at h;exact fun t ht=>bB.1 h.1 t ht
theorem E8(l:aL)(h:l.length<=1048576)(hf:∀f∈l,f.args.length<=1048576):dW l=some l:=by
 unfold dW;refine(GF (c:=aE.c) (b:=40) (f:=fA) (g:=fun x=>x) (L:=nY l _) (k:=fun q=>some q) (by decide) (fun _ _=>rfl) (fun _ _ _ _=>rfl) l 0 [] (fun f h=>P3 f (by have:=hf f h;omega)) (by simp;omega)).trans ?_;simp
theorem Dz(l:aL)(h:l.length<=1048576)(hf:∀f∈l,f.args.length<=1048576):cz l=some l:=by
 unfold cz;refine(GF (c:=aE.c) (b:=40) (f:=eF) (g:=fun x=>x) (L:=mP l _) (k:=fun q=>some q) (by decide) (fun _ _=>rfl) (fun _ _ _ _=>rfl) l 0 [] (fun f h=>Oq f (by have:=hf f h;omega)) (by simp;omega)).trans ?_;simp
def TK(n:Nat)(t:aI):Prop:=t.facts.length<=n/\(∀f∈t.facts,f.wt<=1048576)/\PB t.bind
theorem TK.le{n m:Nat}{t:aI}(h:TK n t)(hm:n<=m):TK m t:=⟨by have:=h.1;omega,h.2⟩
theorem a38(t:aI)(h:TK 1048576 t):sI t=some t:=by
 unfold sI;rw[E8 t.facts h.1 (fun f hf=>by have:=aE.dh (h.2.1 f hf);omega),aA,Xc t.bind (by have:=h.2.2.1;omega),aA]
def ext1(c:aQ)(t:aI)(f:aE):ah:=bif (vB c.pat f t.bind).2 then [⟨t.facts++[f],(vB c.pat f t.bind).1⟩]else []
def MD(c:aQ)(fs:aL)(t:aI):ah:=bif decide (c.kind=1)then fs.flatMap (ext1 c t)else bif Om c t.bind fs then [t]else []
def x8(fs:aL)(l:ah)(c:aQ):ah:=l.flatMap (MD c fs)
def xU(cs:aq)(fs:aL):ah:=cs.foldl (x8 fs) [⟨[],[]⟩]
theorem a1X(c:aQ)(t:aI)(f:aE):(ext1 c t f).length<=1:=by unfold ext1;cases(vB c.pat f t.bind).2<;>simp
theorem Qg(c:aQ)(t:aI)(fs:aL):(fs.flatMap (ext1 c t)).length<=fs.length:=by
 induction fs with
 |nil=>simp
 |cons f fs ih=>rw[dO,aX];have:=a1X c t f;simp only[aK];omega
theorem RH(c:aQ)(fs:aL)(t:aI):(MD c fs t).length<=fs.length+1:=by
 unfold MD;cases decide (c.kind=1)with
 |true=>have:=Qg c t fs;rw[aV];omega
 |false=>cases Om c t.bind fs<;>simp
theorem RI(fs:aL)(l:ah)(c:aQ):(x8 fs l c).length<=l.length*(fs.length+1):=by
 unfold x8
 induction l with
 |nil=>simp
 |cons t l ih=>rw[dO,aX,aK,MT];have:=RH c fs t;omega
theorem a5V{c:aQ}{fs:aL}{t:aI}{n:Nat}(h:TK n t)(hc:c.wt<=1048576)(hf:FS fs):∀u∈MD c fs t,TK (n+1) u:=by
 intro u hu;unfold MD at hu;cases hk:decide (c.kind=1)with
 |false=>
  rw[hk,aZ]at hu;cases hh:Om c t.bind fs with
  |false=>rw[hh]at hu;cases hu
  |true=>
   rw[hh,aV,dU]at hu;subst hu;exact h.le (by omega)
 |true=>
  rw[hk,aV]at hu;obtain⟨f,hf1,hu⟩:=cE.1 hu;unfold ext1 at hu;cases hm:(vB c.pat f t.bind).2 with
  |false=>rw[hm]at hu;cases hu
  |true=>
   rw[hm,aV,dU]at hu;subst hu;refine⟨by have:=h.1;simp;omega,?_,a5P h.2.2 (aQ.fL hc) (hf.2 f hf1)⟩;intro g hg;rcases au.1 hg with hg|hg
   ·exact h.2.1 g hg
   ·rw[dU]at hg;rw[hg];exact hf.2 f hf1
theorem Tr{c:aQ}{fs:aL}{l:ah}{n:Nat}(h:∀t∈l,TK n t)(hc:c.wt<=1048576)(hf:FS fs):∀u∈x8 fs l c,TK (n+1) u:=by
 intro u hu;obtain⟨t,ht,hu⟩:=cE.1 hu;exact a5V (h t ht) hc hf u hu
theorem YP{γ:Type}{mf:aE->Option (aT×Bool)}{cps:Option aL}{cp:aE->Option aE}{c:aQ}{t:aI}{L:aL->Nat->ah->Option γ}{k:ah->Option γ}(hm:∀f:aE,f.wt<=1048576->mf f=some (vB c.pat f t.bind))(hcs:cps=some t.facts)(hc:∀f:aE,f.wt<=1048576->cp f=some f)(ht:t.facts.length<=1048576)(v8:∀i w,L [] i w=k w)
 (th:∀x xs i w,L (x::xs) i w=((mf x).bind fun y=>(bif y.2 then(cps.bind fun q=>((cp x).bind fun z=>(bif room ((q.map aE.c).length+([[D.str z.rel,D.sl (z.args.map tx)]]).length) 40 then(bif room ((w.map aI.c).length+([[D.sl ((q.map aE.c)++([[D.str z.rel,D.sl (z.args.map tx)]])),D.sl (y.1.map aS.c)]]).length) 48 then(L xs (i+1) (w++([(⟨q++([z]),y.1⟩:aI)])))else none)else none)))else(L xs (i+1) w)))):
 ∀(l:aL) (i:Nat) (w:ah),(∀f∈l,f.wt<=1048576)->w.length+l.length<1099511627770->L l i w=k (w++l.flatMap (ext1 c t)):=by
 intro l
 induction l with
 |nil=>intro i w _ _;rw[v8];simp
 |cons x xs ih=>
  intro i w hl hw;simp only[aK]at hw;have hx:=hl x (by simp);rw[th,hm x hx,aA,hcs,aA,hc x hx,aA,mi (by omega) (by decide),aV,mi (by omega) (by decide),aV,dO];rw[show ext1 c t x=bif (vB c.pat x t.bind).2 then [⟨t.facts++[x],(vB c.pat x t.bind).1⟩]else []from rfl];cases(vB c.pat x t.bind).2 with
  |true=>rw[aV,aV,ih _ _ (fun f hf=>hl f (by simp[hf])) (by simp;omega)];simp
  |false=>rw[aZ,aZ,ih _ _ (fun f hf=>hl f (by simp[hf])) (by omega)];simp
theorem Yh(c:aQ):((c.kind:Int) != 1)= !decide (c.kind=1):=by
 show(!((c.kind:Int)==1))=_;rw[zu]
theorem a8p(l0:ah)(c:aQ)(fs:aL)(k:ah->Option ah)(hc:c.wt<=1048576)(hf:FS fs):∀(l:ah) (i:Nat) (w:ah),(∀t∈l,TK 1048576 t)->w.length+l.length*(fs.length+1)<1099511627700->hO l0 c fs k l i w=k (w++x8 fs l c):=by
 intro l;have h1:=hf.1
 induction l with
 |nil=>intro i w _ _;rw[hO];simp[x8]
 |cons t l ih=>
  intro i w hl hw;rw[aK,MT]at hw;have ht:=hl t (by simp);have e:x8 fs (t::l) c=MD c fs t++x8 fs l c:=by simp[x8]
  have hn:=RH c fs t;have he:=Qg c t fs;rw[hO,Yh,aBA c t.bind fs hc ht.2.2 hf,aA,a38 t ht,aA,mi (by omega) (by decide),aV,xJ (by omega),aV,e];rw[YP (mf:=fun f=>jT c.pat f t.bind) (cps:=dW t.facts) (cp:=fA) (c:=c) (t:=t) (L:=nh l0 c fs i t _) (k:=_) (fun f h=>a8n c.pat f t.bind (aQ.fL hc) h ht.2.2) (E8 t.facts ht.1 (fun f hf=>by have:=aE.dh (ht.2.1 f hf);omega)) (fun f h=>P3 f (by have:=aE.dh h;omega)) ht.1 (fun _ _=>rfl) (fun _ _ _ _=>rfl) fs 0 w hf.2 (by omega)];unfold MD;cases decide (c.kind=1)with
  |true=>simp only[bP,aZ,aV];rw[ih _ _ (fun u hu=>hl u (by simp[hu])) (by rw[aX];omega)];simp
  |false=>
   simp only[cR,aV,aZ];cases Om c t.bind fs with
   |true=>simp only[aV];rw[ih _ _ (fun u hu=>hl u (by simp[hu])) (by rw[aX];simp;omega)];simp
   |false=>simp only[aZ];rw[ih _ _ (fun u hu=>hl u (by simp[hu])) (by omega)];simp
theorem a3G(l:ah)(c:aQ)(fs:aL)(hc:c.wt<=1048576)(hf:FS fs)(hl:∀t∈l,TK 1048576 t)(hn:l.length*(fs.length+1)<1099511627700):sJ l c fs=some (x8 fs l c):=by
 unfold sJ;rw[a8p l c fs _ hc hf l 0 [] hl (by simpa using hn)];simp
theorem XS:∀t∈[(⟨[],[]⟩:aI)],TK 0 t:=by
 intro t ht;rw[dU]at ht;subst ht;exact⟨by simp,by simp,PB.nil⟩
theorem a2p{n:Nat}(h:n<=4):[(⟨[],[]⟩:aI)].length*25^n<=390625:=by
 have:=wE (n:=25) (by decide) h;simp only[fX,o6];exact this
theorem a8x(c0:aq)(fs:aL)(k:ah->Option ah)(hf:FS fs)(h24:fs.length<=24):∀(cs:aq) (i:Nat) (w:ah) (n:Nat),(∀c∈cs,c.wt<=1048576)->(∀t∈w,TK n t)->n+cs.length<=1048576->w.length*25^cs.length<=390625->kf c0 fs k cs i w=k (cs.foldl (x8 fs) w):=by
 intro cs
 induction cs with
 |nil=>intro i w n _ _ _ _;rfl
 |cons c cs ih=>
  intro i w n hc hw hn hl;simp only[aK]at hn;rw[aK,yl,EG (25^cs.length) 25,<-KG]at hl;have hp:1<=25^cs.length:=Nat.one_le_pow _ _ (by decide);have Ey:w.length*25<=390625:=cU (DO _ hp) hl;have h25:w.length*(fs.length+1)<=w.length*25:=eP _ (by omega);rw[kf,a3G w c fs (hc c (by simp)) hf (fun t ht=>(hw t ht).le (by omega)) (by omega),aA];refine ih _ _ (n+1) (fun x hx=>hc x (by simp[hx])) (Tr hw (hc c (by simp)) hf) (by omega) ?_;exact cU (dZ _ (cU (RI fs w c) h25)) hl
theorem aBM(cs:aq)(fs:aL)(hc:∀c∈cs,c.wt<=1048576)(h4:cs.length<=4)(hf:FS fs)(h24:fs.length<=24):ux cs fs=some (xU cs fs):=by
 unfold ux;exact a8x cs fs _ hf h24 cs 0 _ 0 hc XS (by omega) (a2p h4)
theorem a5E(c0:aq)(fs:aL)(w0:ah)(i1:Nat)(c:aQ)(k:ah->Option ah)(hc:c.wt<=1048576)(hf:FS fs):∀(l:ah) (i:Nat) (w:ah),(∀t∈l,TK 1048576 t)->w.length+l.length*(fs.length+1)<1099511627700->fS c0 fs w0 i1 c k l i w=k (w++x8 fs l c):=by
 intro l;have h1:=hf.1
 induction l with
 |nil=>intro i w _ _;rw[fS];simp[x8]
 |cons t l ih=>
  intro i w hl hw;rw[aK,MT]at hw;have ht:=hl t (by simp);have e:x8 fs (t::l) c=MD c fs t++x8 fs l c:=by simp[x8]
  have hn:=RH c fs t;have he:=Qg c t fs;rw[fS,Yh,aAT c t.bind fs hc ht.2.2 hf,aA,mi (by omega) (by decide),aV,xJ (by omega),aV,e];rw[YP (mf:=fun f=>jN c.pat f t.bind) (cps:=cz t.facts) (cp:=eF) (c:=c) (t:=t) (L:=kQ c0 fs i w0 t i1 c _) (k:=_) (fun f h=>a8B c.pat f t.bind (aQ.fL hc) h ht.2.2) (Dz t.facts ht.1 (fun f hf=>by have:=aE.dh (ht.2.1 f hf);omega)) (fun f h=>Oq f (by have:=aE.dh h;omega)) ht.1 (fun _ _=>rfl) (fun _ _ _ _=>rfl) fs 0 w hf.2 (by omega)];unfold MD;cases decide (c.kind=1)with
  |true=>simp only[bP,aZ,aV];rw[ih _ _ (fun u hu=>hl u (by simp[hu])) (by rw[aX];omega)];simp
  |false=>
   simp only[cR,aV,aZ];cases Om c t.bind fs with
   |true=>simp only[aV];rw[ih _ _ (fun u hu=>hl u (by simp[hu])) (by rw[aX];simp;omega)];simp
   |false=>simp only[aZ];rw[ih _ _ (fun u hu=>hl u (by simp[hu])) (by omega)];simp
theorem a8J(c0:aq)(fs:aL)(k:ah->Option ah)(hf:FS fs)(h24:fs.length<=24):∀(cs:aq) (i:Nat) (w:ah) (n:Nat),(∀c∈cs,c.wt<=1048576)->(∀t∈w,TK n t)->n+cs.length<=1048576->w.length*25^cs.length<=390625->kP c0 fs k cs i w=k (cs.foldl (x8 fs) w):=by
 intro cs
 induction cs with
 |nil=>intro i w n _ _ _ _;rfl
 |cons c cs ih=>
  intro i w n hc hw hn hl;simp only[aK]at hn;rw[aK,yl,EG (25^cs.length) 25,<-KG]at hl;have hp:1<=25^cs.length:=Nat.one_le_pow _ _ (by decide);have Ey:w.length*25<=390625:=cU (DO _ hp) hl;have h25:w.length*(fs.length+1)<=w.length*25:=eP _ (by omega);rw[kP,xJ (by omega),aV,a5E c0 fs w i c _ (hc c (by simp)) hf w 0 [] (fun t ht=>(hw t ht).le (by omega)) (by simp only[bK];omega),cI];refine ih _ _ (n+1) (fun x hx=>hc x (by simp[hx])) (Tr hw (hc c (by simp)) hf) (by omega) ?_;exact cU (dZ _ (cU (RI fs w c) h25)) hl
theorem aAe(cs:aq)(fs:aL)(hc:∀c∈cs,c.wt<=1048576)(h4:cs.length<=4)(hf:FS fs)(h24:fs.length<=24):uX cs fs=some (xU cs fs):=by
 unfold uX;exact a8J cs fs _ hf h24 cs 0 _ 0 hc XS (by omega) (a2p h4)
theorem a0H{r:aN}(h:nw r=true):r.conds.length<=4:=by
 unfold nw at h;simp only[aY,bJ]at h;omega
theorem Qb{r:aN}:∀ {l:aq} {i:Nat},yG r l i=true->∀c∈l,si c=true
 | [],_,_,c,hc=>by cases hc
 |x::xs,i,h,c,hc=>by
  simp only[yG,aY]at h;rcases bM.1 hc with rfl|hc
  ·exact h.1.1.1
  ·exact Qb h.2 c hc
theorem PU{r:aN}(h:nw r=true):∀c∈r.conds,si c=true:=by
 unfold nw at h;simp only[aY]at h;exact Qb h.2.1
theorem vG{l:aL}(h:p8 l=true):l.length<=24:=by
 unfold p8 at h;simp only[aY,bJ]at h;exact h.2
theorem a3j{cs:aq}{fs:aL}(h4:cs.length<=4)(h24:fs.length<=24):(xU cs fs).length<=390625:=by
 have key:∀(cs:aq) (w:ah),w.length*25^cs.length<=390625->(cs.foldl (x8 fs) w).length<=390625:=by
  intro cs
  induction cs with
  |nil=>intro w h;simpa using h
  |cons c cs ih=>
   intro w h;rw[aK,yl,EG (25^cs.length) 25,<-KG]at h;refine ih _ ?_;have h25:w.length*(fs.length+1)<=w.length*25:=eP _ (by omega);exact cU (dZ _ (cU (RI fs w c) h25)) h
 exact key cs _ (a2p h4)
theorem Un{all:ar}:∀ {l:ar} {i:Nat},Rr all l i=true->∀r∈l,nw r=true
 | [],_,_,r,hr=>by cases hr
 |x::xs,i,h,r,hr=>by
  simp only[Rr,aY]at h;rcases bM.1 hr with rfl|hr
  ·exact h.1.1
  ·exact Un h.2 r hr
theorem sY{l:ar}(h:yF l=true):∀r∈l,nw r=true:=by
 unfold yF at h;simp only[aY]at h;exact Un h.1
theorem Sj:∀(a b:aJ),a.Nodup->(∀x∈a,x∈b)->a.length<=b.length
 | [],b,_,_=>GM _
 |x::xs,b,hn,hs=>by
  rw[fD]at hn;have h1:=Sj xs (b.erase x) hn.2 fun y hy=>(List.mem_erase_of_ne (fun e=>hn.1 (by rw[<-e];exact hy))).2 (hs y (by simp[hy]))
  have h2:=rj (hs x (by simp));have h3:0<b.length:=EF (hs x (by simp));simp only[aK];omega
theorem a0I{r:aN}(h:nw r=true):(fM (FQ r.conds)).length<=6:=by
 unfold nw at h;simp only[aY,bJ]at h;omega
theorem ZR{c:aQ}(hc:si c=true)(hk:c.kind=1\/c.kind=2):zE c.pat=true/\c.left=[]/\c.right=[]:=by
 unfold si at hc;have:(decide (c.kind=1)||decide (c.kind=2))=true:=by simpa using hk
 rw[this,aV]at hc;simp only[aY,cj]at hc;exact⟨hc.1,hc.2.1,hc.2.2⟩
theorem Wi{c:aQ}(hc:si c=true)(h1:c.kind≠1)(h2:c.kind≠2):(decide (c.kind=3)||decide (c.kind=4)||decide (c.kind=5))=true/\IP c.pat=true/\qe c.left=true/\qe c.right=true:=by
 unfold si at hc;rw[bA h1,bA h2,vE,aZ]at hc;cases h:(decide (c.kind=3)||decide (c.kind=4)||decide (c.kind=5))with
 |false=>rw[h]at hc;cases hc
 |true=>
  rw[h,aV]at hc;simp only[aY]at hc;exact⟨rfl,hc.1,hc.2.1,hc.2.2⟩
theorem Ur{b:aT}(h:p9 b=true):xM none b=true:=by
 unfold p9 at h;rw[aY]at h;exact h.1
theorem SH:∀ {b:aT} {p:Option aS},xM p b=true->∀x∈b,lS x.var=true/\jv x.value=true
 |y::ys,p,h,x,hx=>by
  rw[zz]at h;simp only[aY]at h;rcases bM.1 hx with rfl|hx
  ·exact⟨h.1,h.2.1⟩
  ·exact SH h.2.2.2 x hx
structure WB(U:List Bytes)(b:List aS):Prop where
 ok:p9 b=true
 sub:∀p∈b,p.var∈U
theorem Qa{r:aN}:∀ {pre rest:aq} {c:aQ} {i:Nat},yG r (pre++c::rest) i=true->si c=true/\(i+pre.length=0->c.kind=1)/\∀v∈rI c,Pm r (i+pre.length) c v=true
 | [],rest,c,i,h=>by
  rw[cI]at h;unfold yG at h;rw[SC]at h;simp only[aY,om,rG,oH,bJ]at h;refine⟨h.1.1.1,fun e=>?_,fun v hv=>bB.1 h.1.2 v hv⟩;rcases h.1.1.2 with q|q
  ·exact absurd (by simpa using e) q
  ·exact q
 |x::pre,rest,c,i,h=>by
  rw[dS]at h;unfold yG at h;rw[aY]at h;have:=Qa h.2;rw[aK,show i+(pre.length+1)=i+1+pre.length by omega];exact this
theorem U0{r:aN}(h:nw r=true):yG r r.conds 0=true:=by
 unfold nw at h;simp only[aY]at h;exact h.2.1
end Go.Cx
