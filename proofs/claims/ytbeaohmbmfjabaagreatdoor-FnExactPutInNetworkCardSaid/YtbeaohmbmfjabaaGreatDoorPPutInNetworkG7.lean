/- What functions of the program compute, and the walks that show it. No condition. -/
import Derived.Test.YtbeaohmbmfjabaaGreatDoorPPutInNetworkG6
import Derived.Test.YtbeaohmbmfjabaaGreatDoorPPutInNetworkG4
import Derived.Sort.Walk0
import Derived.Lib.ItoaNum
import Derived.Lib.ItoaLen
import Derived.Lib.Atoi
set_option linter.unusedVariables false
set_option linter.unusedSimpArgs false
namespace Go.Cx
open Go.RowKit Go.Proofs Tryz
set_option maxRecDepth 100000
variable{Γ:vY}{N:Nat->St->Prop}
def kZ(aB:aT)(aV:Bytes)(cW:Bytes)(k1:Bool->aT->Option (aT×Bool)):aT->Nat->Bool->aT->Option (aT×Bool)
 | [],i1,AI,bC=>(k1 AI bC)
 |bD::bg,i1,AI,bC=>(bif !(AI)then(bif !(Op.bytesLess bD.var aV||(bD.var:Bytes)==aV)then(bif room ((bC.map aR.c).length+([[D.str aV,D.str cW]]).length) 32 then(bif room (((bC.map aR.c)++([[D.str aV,D.str cW]])).length+([[D.str bD.var,D.str bD.value]]).length) 32 then(kZ aB aV cW k1 bg (i1+1) true ((bC++([(⟨aV,cW⟩:aR)]))++([bD])))else none)else none)else(bif room ((bC.map aR.c).length+([[D.str bD.var,D.str bD.value]]).length) 32 then(kZ aB aV cW k1 bg (i1+1) AI (bC++([bD])))else none))else(bif room ((bC.map aR.c).length+([[D.str bD.var,D.str bD.value]]).length) 32 then(kZ aB aV cW k1 bg (i1+1) AI (bC++([bD])))else none))
def uo(aB:aT)(aV:Bytes)(cW:Bytes):Option (aT×Bool):=((kf aB).bind fun y1=>(bif !(y1)then(some ([],false))else((lQ aV).bind fun y4=>(bif !(y4)then(some ([],false))else((fN cW).bind fun y7=>(bif !(y7)then(some ([],false))else((qA aB aV).bind fun Oj=>(bif Oj.2 then(bif !((Oj.1:Bytes)==cW)then(some ([],false))else((jH aB).bind fun Vk=>(some (Vk,true))))else(bif decide ((((aB.map aR.c).length:Int):Int)>=6)then(some ([],false))else(kZ aB aV cW (fun(Vl:Bool) (bO:aT)=>(bif !(Vl)then(bif room ((bO.map aR.c).length+([[D.str aV,D.str cW]]).length) 32 then(some (bO++([(⟨aV,cW⟩:aR)]),true))else none)else(some (bO,true)))) aB 0 false ([]:aT)))))))))))
def wU(aB:aT)(aV:Bytes)(cW:Bytes)(AI:Bool)(W1:List aS)(cT:Int):St:=⟨[(1,D.str aV),(2,D.str cW),(10,D.acc 0),(11,D.bool AI),(42,D.sl (aB.map aR.c)),(43,D.int .i64 ((aB.map aR.c).length:Int)),(44,D.int .i64 cT)],[Ob.row .uq 152 2 W1]⟩
theorem MO(hΓ:Γ.nt=76){aB:aT}{aV:Bytes}{cW:Bytes}{r:aT×Bool}{k1:Bool->aT->Option (aT×Bool)}(cY:∀(Vl:Bool) (bO:aT),k1 Vl bO=some r->Ax Γ N f127 (.q [[some (152,2)],[none]] (D.iF [D.fr 152 2 (r.1.map aR.c),D.bool r.2])) [1,1,1,1,1,1,1] ⟨[(1,D.str aV),(2,D.str cW),(10,D.acc 0),(11,D.bool Vl)],[Ob.row .uq 152 2 (bO.map aR.c)]⟩)(hm1:aB.length<=maxLen):∀(rest:aT) (i1:Nat) (AI:Bool) (bC:aT),aB.drop i1=rest->kZ aB aV cW k1 rest i1 AI bC=some r->Ar Γ N f127 (.q [[some (152,2)],[none]] (D.iF [D.fr 152 2 (r.1.map aR.c),D.bool r.2])) [1,1,1,1,1,1,0,1,0] (rest.length+1) (wU aB aV cW AI (bC.map aR.c) (i1:Int)):=by
 intro rest
 induction rest with
 |nil=>
  intro i1 AI bC aq h;rw[kZ]at h;refine aM fun N1 bw bn=>?_
  exact((aU.ge aR.c aq).a [.hl 0 [1,2,10,11] [0]]).ex hΓ bw (cY AI bC h)
 |cons bD bg ih1=>
  intro i1 AI bC aq h;rw[kZ]at h;refine aM fun N1 bw bn=>?_
  have jU:=((aU.lt aR.c aq).l (av aR.c 2 (dc aq) rfl))
  obtain⟨h58,h⟩|⟨h58,h⟩:=aK h
  ·have iU:=(jU.r 5 h58)
   obtain⟨h59,h⟩|⟨h59,h⟩:=aK h
   ·obtain⟨h60,h⟩:=bV h;obtain⟨h61,h⟩:=bV h;exact((((iU.b h59).w (cA h60)).w (cA h61)).a [.cn [1,2,10,11,42,43,44] [5]]).cs hΓ bn (wU aB aV cW true (((bC.map aR.c)++([[D.str aV,D.str cW]]))++([[D.str bD.var,D.str bD.value]])) (IntKind.i64.wrap ((i1:Int)+1))) (by first| (simp only[iS aq hm1,mA]<;>rfl)| (simp only[iS aq hm1,mA,aE.c,aR.c,aN.c,Action.c,aO.c,aI.c,cr.c,aQ.c,Node.c,aF.c,cv.c]<;>rfl)) (ih1 (i1+1) true ((bC++([(⟨aV,cW⟩:aR)]))++([bD])) (dn aq) h)
   ·obtain⟨h62,h⟩:=bV h;exact(((iU.b h59).w (cA h62)).a [.cn [1,2,10,11,42,43,44] [3]]).cs hΓ bn (wU aB aV cW AI ((bC.map aR.c)++([[D.str bD.var,D.str bD.value]])) (IntKind.i64.wrap ((i1:Int)+1))) (by first| (simp only[iS aq hm1,mA]<;>rfl)| (simp only[iS aq hm1,mA,aE.c,aR.c,aN.c,Action.c,aO.c,aI.c,cr.c,aQ.c,Node.c,aF.c,cv.c]<;>rfl)) (ih1 (i1+1) AI (bC++([bD])) (dn aq) h)
  ·obtain⟨h63,h⟩:=bV h;exact((((jU.r 5 h58).F 1).w (cA h63)).a [.cn [1,2,10,11,42,43,44] [3]]).cs hΓ bn (wU aB aV cW AI ((bC.map aR.c)++([[D.str bD.var,D.str bD.value]])) (IntKind.i64.wrap ((i1:Int)+1))) (by first| (simp only[iS aq hm1,mA]<;>rfl)| (simp only[iS aq hm1,mA,aE.c,aR.c,aN.c,Action.c,aO.c,aI.c,cr.c,aQ.c,Node.c,aF.c,cv.c]<;>rfl)) (ih1 (i1+1) AI (bC++([bD])) (dn aq) h)
theorem KZ{aB:aT}{aV:Bytes}{cW:Bytes}{r:aT×Bool}(h:uo aB aV cW=some r):Good prog 127 [D.sl (aB.map aR.c),D.str aV,D.str cW] (D.iF [D.fr 152 2 (r.1.map aR.c),D.bool r.2]):=by
 refine gd func127 [[some (152,2)],[none]] 76 fun hr Γ hΓ=>?_
 rw[uo]at h;obtain⟨y1,h2,h⟩:=aD h;obtain⟨h3,h⟩|⟨h3,h⟩:=aK h
 ·cases h;exact(((aU.g (mh h2)).r 4 h3).T 5).ret hΓ
 ·obtain⟨y4,h5,h⟩:=aD h;have tX:=((((aU.g (mh h2)).r 2 h3).g (oA h5)).r 2 h3)
  obtain⟨h6,h⟩|⟨h6,h⟩:=aK h
  ·cases h;exact((tX.r 4 h6).T 1).ret hΓ
  ·obtain⟨y7,h8,h⟩:=aD h;have wL:=(((tX.r 2 h6).g (eW h8)).r 2 h6)
   obtain⟨h9,h⟩|⟨h9,h⟩:=aK h
   ·cases h;exact(wL.b h9).ret hΓ
   ·obtain⟨Oj,h11,h⟩:=aD h;have AM:=((wL.b h9).g (wz h11))
    obtain⟨h12,h⟩|⟨h12,h⟩:=aK h
    ·obtain⟨h13,h⟩|⟨h13,h⟩:=aK h
     ·cases h;exact((AM.b h12).b h13).ret hΓ
     ·obtain⟨Vk,h15,h⟩:=aD h;cases h;exact(((AM.b h12).b h13).g (vL h15)).ret hΓ
    ·obtain⟨h16,h⟩|⟨h16,h⟩:=aK h
     ·cases h;exact((AM.b h12).b h16).ret hΓ
     ·refine(((AM.b h12).b h16).a [.PY 10,.cn [1,2,10,11,42,43,44] [0]]).lp hΓ (MO hΓ (fun Vl bO h=>?_) (by have:=(dU.sl (hr _ (aC (i:=0) rfl))).1;simpa using this) aB 0 false ([]:aT) rfl h);obtain⟨h64,h⟩|⟨h64,h⟩:=aK h
      ·obtain⟨h65,h⟩:=bV h;cases h;exact((aU.b h64).w (cA h65)).rts hΓ (D.iF [D.fr 152 2 ((bO.map aR.c)++([[D.str aV,D.str cW]])),D.bool true]) (by first|rfl| (simp only[mA]<;>rfl)| (simp only[cV,mA]<;>rfl))
      ·cases h;exact(aU.b h64).ret hΓ
def jV(aB:aE)(aV:aE)(k1:aT->Option (aT×Bool)):aJ->Nat->aT->Option (aT×Bool)
 | [],i1,bu=>(k1 bu)
 |bD::bg,i1,bu=>((fN bD).bind fun y80=>(bif y80 then((mC aV.args (i1:Int)).bind fun x83=>(bif !((bD:Bytes)==x83)then(some ([],false))else(jV aB aV k1 bg (i1+1) bu)))else((mC aV.args (i1:Int)).bind fun x86=>((uo bu bD x86).bind fun y88=>(bif !(y88.2)then(some ([],false))else(jV aB aV k1 bg (i1+1) y88.1))))))
def jF(aB:aE)(aV:aE)(cW:aT):Option (aT×Bool):=((jD aB).bind fun y1=>(bif !(y1)then(some ([],false))else((pL aV).bind fun y4=>(bif !(y4)then(some ([],false))else((kf cW).bind fun y7=>(bif !(y7)then(some ([],false))else(bif !((aB.rel:Bytes)==aV.rel)then(some ([],false))else(bif (((aB.args.map tx).length:Int):Int) != ((aV.args.map tx).length:Int)then(some ([],false))else((jH cW).bind fun y12=>(jV aB aV (fun(bO:aT)=>(some (bO,true))) aB.args 0 y12))))))))))
def IZ(aB:aE)(aV:aE)(W0:List aS)(cT:Int):St:=⟨[(4,D.ptr 0 0),(8,D.acc 1),(45,D.sl (aB.args.map tx)),(46,D.int .i64 ((aB.args.map tx).length:Int)),(47,D.int .i64 cT)],[Ob.box (aE.c aV),Ob.row .uq 152 2 W0]⟩
theorem GL(hΓ:Γ.nt=77){aB:aE}{aV:aE}{r:aT×Bool}{k1:aT->Option (aT×Bool)}(cY:∀(bO:aT),k1 bO=some r->Ax Γ N f239 (.q [[some (152,2)],[none]] (D.iF [D.fr 152 2 (r.1.map aR.c),D.bool r.2])) [1,1,1,1] ⟨[(8,D.acc 0)],[Ob.row .uq 152 2 (bO.map aR.c)]⟩)(hm1:aB.args.length<=maxLen):∀(rest:aJ) (i1:Nat) (bu:aT),aB.args.drop i1=rest->jV aB aV k1 rest i1 bu=some r->Ar Γ N f239 (.q [[some (152,2)],[none]] (D.iF [D.fr 152 2 (r.1.map aR.c),D.bool r.2])) [1,1,1,0,1,0] (rest.length+1) (IZ aB aV (bu.map aR.c) (i1:Int)):=by
 intro rest
 induction rest with
 |nil=>
  intro i1 bu aq h;rw[jV]at h;refine aM fun N1 bw bn=>?_
  exact((aU.ge tx aq).a [.hl 0 [8] [1]]).ex hΓ bw (cY bu h)
 |cons bD bg ih1=>
  intro i1 bu aq h;rw[jV]at h;refine aM fun N1 bw bn=>?_
  obtain⟨y80,h81,h⟩:=aD h;have iU:=(((aU.lt tx aq).l (av tx 1 (dc aq) rfl)).g (eW h81))
  obtain⟨h82,h⟩|⟨h82,h⟩:=aK h
  ·obtain⟨x83,h84,h⟩:=aD h;have tX:=((iU.b h82).l (dX tx 1 h84 rfl))
   obtain⟨h85,h⟩|⟨h85,h⟩:=aK h
   ·cases h;exact(tX.b h85).ret hΓ
   ·exact((tX.b h85).a [.cn [4,8,45,46,47] [0,1]]).ct hΓ bn (iS aq hm1) (ih1 (i1+1) bu (dn aq) h)
  ·obtain⟨x86,h87,h⟩:=aD h;obtain⟨y88,h89,h⟩:=aD h;have wL:=(((iU.b h82).l (dX tx 1 h87 rfl)).g (KZ h89))
   obtain⟨h90,h⟩|⟨h90,h⟩:=aK h
   ·cases h;exact(wL.b h90).ret hΓ
   ·exact((wL.b h90).a [.cn [4,8,45,46,47] [0,2]]).ct hΓ bn (iS aq hm1) (ih1 (i1+1) y88.1 (dn aq) h)
theorem qS{aB:aE}{aV:aE}{cW:aT}{r:aT×Bool}(h:jF aB aV cW=some r):Good prog 239 [D.agg (aE.c aB),D.agg (aE.c aV),D.sl (cW.map aR.c)] (D.iF [D.fr 152 2 (r.1.map aR.c),D.bool r.2]):=by
 refine gd func239 [[some (152,2)],[none]] 77 fun hr Γ hΓ=>?_
 rw[jF]at h;obtain⟨y1,h2,h⟩:=aD h;obtain⟨h3,h⟩|⟨h3,h⟩:=aK h
 ·cases h;exact(((aU.g (js h2)).r 4 h3).T 19).ret hΓ
 ·obtain⟨y4,h5,h⟩:=aD h;have AM:=((((aU.g (js h2)).r 2 h3).g (xj h5)).r 2 h3)
  obtain⟨h6,h⟩|⟨h6,h⟩:=aK h
  ·cases h;exact((AM.r 4 h6).T 15).ret hΓ
  ·obtain⟨y7,h8,h⟩:=aD h;have D7:=(((AM.r 2 h6).g (mh h8)).r 2 h6)
   obtain⟨h9,h⟩|⟨h9,h⟩:=aK h
   ·cases h;exact((D7.r 6 h9).T 9).ret hΓ
   ·have Hz:=(D7.r 6 h9)
    obtain⟨h10,h⟩|⟨h10,h⟩:=aK h
    ·cases h;exact((Hz.r 8 h10).T 1).ret hΓ
    ·have yj:=(Hz.r 8 h10)
     obtain⟨h11,h⟩|⟨h11,h⟩:=aK h
     ·cases h;exact(yj.b h11).ret hΓ
     ·obtain⟨y12,h13,h⟩:=aD h;refine(((yj.b h11).g (vL h13)).a [.cn [4,8,45,46,47] [1,2]]).lp hΓ (GL hΓ (fun bO h=>?_) (by have:=(dU.sl (dU.agg (hr _ (aC (i:=0) rfl)) (.sl (aB.args.map tx)) (by simp))).1;simpa using this) aB.args 0 y12 rfl h);cases h;exact aU.ret hΓ
def fw(aB:aE)(aV:aT)(cW:aP)(k1:aP->Option aP):aP->Nat->aP->Option aP
 | [],i1,bu=>(k1 bu)
 |bD::bg,i1,bu=>((jF aB bD aV).bind fun y42=>(bif y42.2 then((eE bD).bind fun I8=>(bif room ((bu.map aE.c).length+([[D.str I8.rel,D.sl (I8.args.map tx)]]).length) 40 then(fw aB aV cW k1 bg (i1+1) (bu++([I8])))else none))else(fw aB aV cW k1 bg (i1+1) bu)))
def iX(aB:aE)(aV:aT)(cW:aP):Option aP:=(fw aB aV cW (fun(bO:aP)=>(some bO)) cW 0 ([]:aP))
def yD(aB:aE)(aV:aT)(cW:aP)(W0:List aS)(cT:Int):St:=⟨[(1,D.sl (aV.map aR.c)),(3,D.ptr 0 0),(7,D.acc 1),(12,D.sl (cW.map aE.c)),(13,D.int .i64 ((cW.map aE.c).length:Int)),(14,D.int .i64 cT)],[Ob.box (aE.c aB),Ob.row .uq 53 2 W0]⟩
theorem Cm(hΓ:Γ.nt=33){aB:aE}{aV:aT}{cW:aP}{r:aP}{k1:aP->Option aP}(cY:∀(bO:aP),k1 bO=some r->Ax Γ N f202 (.q [[some (53,2)]] (D.fr 53 2 (r.map aE.c))) [1,1,1] ⟨[(7,D.acc 0)],[Ob.row .uq 53 2 (bO.map aE.c)]⟩)(hm1:cW.length<=maxLen):∀(rest:aP) (i1:Nat) (bu:aP),cW.drop i1=rest->fw aB aV cW k1 rest i1 bu=some r->Ar Γ N f202 (.q [[some (53,2)]] (D.fr 53 2 (r.map aE.c))) [1,1,0,1,0] (rest.length+1) (yD aB aV cW (bu.map aE.c) (i1:Int)):=by
 intro rest
 induction rest with
 |nil=>
  intro i1 bu aq h;rw[fw]at h;refine aM fun N1 bw bn=>?_
  exact((aU.ge aE.c aq).a [.hl 0 [7] [1]]).ex hΓ bw (cY bu h)
 |cons bD bg ih1=>
  intro i1 bu aq h;rw[fw]at h;refine aM fun N1 bw bn=>?_
  obtain⟨y42,h43,h⟩:=aD h;have dH:=(((aU.lt aE.c aq).l (av aE.c 2 (dc aq) rfl)).g (qS h43))
  obtain⟨h44,h⟩|⟨h44,h⟩:=aK h
  ·obtain⟨I8,h46,h⟩:=aD h;obtain⟨h47,h⟩:=bV h;exact((((dH.b h44).g (gL h46)).w (cA h47)).a [.cn [1,3,7,12,13,14] [0,6]]).cs hΓ bn (yD aB aV cW ((bu.map aE.c)++([[D.str I8.rel,D.sl (I8.args.map tx)]])) (IntKind.i64.wrap ((i1:Int)+1))) (by first| (simp only[iS aq hm1,mA]<;>rfl)| (simp only[iS aq hm1,mA,aE.c,aR.c,aN.c,Action.c,aO.c,aI.c,cr.c,aQ.c,Node.c,aF.c,cv.c]<;>rfl)) (ih1 (i1+1) (bu++([I8])) (dn aq) h)
  ·exact((dH.b h44).a [.cn [1,3,7,12,13,14] [0,1]]).ct hΓ bn (iS aq hm1) (ih1 (i1+1) bu (dn aq) h)
theorem mZ{aB:aE}{aV:aT}{cW:aP}{r:aP}(h:iX aB aV cW=some r):Good prog 202 [D.agg (aE.c aB),D.sl (aV.map aR.c),D.sl (cW.map aE.c)] (D.fr 53 2 (r.map aE.c)):=by
 refine gd func202 [[some (53,2)]] 33 fun hr Γ hΓ=>?_
 rw[iX]at h;refine(aU.a [.PY 7,.cn [1,3,7,12,13,14] [0,1]]).lp hΓ (Cm hΓ (fun bO h=>?_) (by have:=(dU.sl (hr _ (aC (i:=2) rfl))).1;simpa using this) cW 0 ([]:aP) rfl h);have h:=aG h;subst h;exact aU.ret hΓ
def mr(aB:aF)(k1:bJ->Option aj):Nat->Int->bJ->Option aj
 |0,_,_=>none
 |n1+1,b7,bu=>(bif room ((bu.map di).length+([[D.int .i64 b7]]).length) 8 then((mC aB.nodes b7).bind fun x19=>(bif decide ((x19.parent:Int)<1)then(k1 (bu++([b7])))else(bif decide ((x19.parent:Int)>=b7)then(k1 (bu++([b7])))else(mr aB k1 n1 x19.parent (bu++([b7]))))))else none)
def kj(aB:aF)(tS:bJ)(k2:aj->Option aj):Nat->Int->aj->Option aj
 |0,_,_=>none
 |n2+1,Pb,RH=>(bif decide ((Pb:Int)>=0)then((mC tS Pb).bind fun x72=>((mC aB.nodes x72).bind fun x74=>((fC x74.cond).bind fun y76=>(bif room ((RH.map aN.c).length+([[D.int .i64 y76.kind,D.str y76.pat.rel,D.sl (y76.pat.args.map tx),D.str y76.left,D.str y76.right]]).length) 80 then(kj aB tS k2 n2 (IntKind.i64.wrap (Pb-1)) (RH++([y76])))else none))))else(k2 RH))
def xK(aB:aF)(aV:Int):Option aj:=(bif decide ((aV:Int)<1)then(some ([]))else(bif decide ((aV:Int)>=((aB.nodes.map Node.c).length:Int))then(some ([]))else(mr aB (fun(tS:bJ)=>(kj aB tS (fun(PZ:aj)=>(some PZ)) fuel (IntKind.i64.wrap (((tS.map di).length:Int)-1)) ([]:aj))) fuel aV ([]:bJ))))
def DN(aB:aF)(b7:Int)(W1:List aS):St:=⟨[(1,D.int .i64 b7),(2,D.ptr 0 0),(5,D.acc 1)],[Ob.box (aF.c aB),Ob.row .uq 3 1 W1]⟩
theorem MU(hΓ:Γ.nt=57){aB:aF}{r:aj}{k1:bJ->Option aj}(cY:∀(tS:bJ),k1 tS=some r->Ax Γ N f204 (.q [[some (115,5)]] (D.fr 115 5 (r.map aN.c))) [1,1,1,1] ⟨[(2,D.ptr 0 0),(5,D.acc 1)],[Ob.box (aF.c aB),Ob.row .uq 3 1 (tS.map di)]⟩):∀(n1:Nat) (b7:Int) (bu:bJ),mr aB k1 n1 b7 bu=some r->Ar Γ N f204 (.q [[some (115,5)]] (D.fr 115 5 (r.map aN.c))) [1,1,1,0,0] n1 (DN aB b7 (bu.map di)):=by
 intro n
 induction n with
 |zero=>intro b7 bu h;simp[mr]at h
 |succ n1 ih1=>
  intro b7 bu h;rw[mr]at h;refine aM fun N1 bw bn=>?_
  obtain⟨h18,h⟩:=bV h;obtain⟨x19,h20,h⟩:=aD h;have jU:=((aU.w (cA h18)).l (dX Node.c 8 h20 rfl))
  obtain⟨h21,h⟩|⟨h21,h⟩:=aK h
  ·exact(((jU.r 4 h21).T 1).a [.hl 0 [2,5] [0,3]]).exs hΓ bw ⟨[(2,D.ptr 0 0),(5,D.acc 1)],[Ob.box (aF.c aB),Ob.row .uq 3 1 ((bu.map di)++([[D.int .i64 b7]]))]⟩ (by first| (simp only[mA]<;>rfl)| (simp only[mA,aE.c,aR.c,aN.c,Action.c,aO.c,aI.c,cr.c,aQ.c,Node.c,aF.c,cv.c]<;>rfl)) (cY (bu++([b7])) h)
  ·have iU:=(jU.r 4 h21)
   obtain⟨h22,h⟩|⟨h22,h⟩:=aK h
   ·exact((iU.b h22).a [.hl 0 [2,5] [0,3]]).exs hΓ bw ⟨[(2,D.ptr 0 0),(5,D.acc 1)],[Ob.box (aF.c aB),Ob.row .uq 3 1 ((bu.map di)++([[D.int .i64 b7]]))]⟩ (by first| (simp only[mA]<;>rfl)| (simp only[mA,aE.c,aR.c,aN.c,Action.c,aO.c,aI.c,cr.c,aQ.c,Node.c,aF.c,cv.c]<;>rfl)) (cY (bu++([b7])) h)
   ·exact((iU.b h22).a [.cn [1,2,5] [0,3]]).cs hΓ bn (DN aB x19.parent ((bu.map di)++([[D.int .i64 b7]]))) (by first| (simp only[mA]<;>rfl)| (simp only[mA,aE.c,aR.c,aN.c,Action.c,aO.c,aI.c,cr.c,aQ.c,Node.c,aF.c,cv.c]<;>rfl)) (ih1 x19.parent (bu++([b7])) h)
def DO(aB:aF)(tS:bJ)(Pb:Int)(W1:List aS):St:=⟨[(2,D.ptr 0 0),(5,D.acc 1),(7,D.acc 2),(8,D.int .i64 Pb)],[Ob.box (aF.c aB),Ob.row .uq 3 1 (tS.map di),Ob.row .uq 115 5 W1]⟩
theorem MV(hΓ:Γ.nt=57){aB:aF}{tS:bJ}{r:aj}{k2:aj->Option aj}(CZ:∀(PZ:aj),k2 PZ=some r->Ax Γ N f204 (.q [[some (115,5)]] (D.fr 115 5 (r.map aN.c))) [1,1,1,1,1,1] ⟨[(7,D.acc 0)],[Ob.row .uq 115 5 (PZ.map aN.c)]⟩):∀(n2:Nat) (Pb:Int) (RH:aj),kj aB tS k2 n2 Pb RH=some r->Ar Γ N f204 (.q [[some (115,5)]] (D.fr 115 5 (r.map aN.c))) [1,1,1,1,1,0,1,0] n2 (DO aB tS Pb (RH.map aN.c)):=by
 intro n
 induction n with
 |zero=>intro Pb RH h;simp[kj]at h
 |succ n2 ih2=>
  intro Pb RH h;rw[kj]at h;refine aM fun N2 xV ud=>?_
  obtain⟨h65,h⟩|⟨h65,h⟩:=aK h
  ·obtain⟨x72,h73,h⟩:=aD h;obtain⟨x74,h75,h⟩:=aD h;obtain⟨y76,h77,h⟩:=aD h;obtain⟨h78,h⟩:=bV h;exact((((((((aU.b h65).a [.n2 [0,1,2,3,4,5,6,7,8,9,10,11,12,13] [0,1,2,3,4,5,6,7,8,9,10,11,12,13] 11 12 [0] [3]]).i (xz di 1 h73)).o 1 1 .uq (dB di (tf h73))).l (dX Node.c 8 h75 rfl)).g (kp h77)).w (cA h78)).a [.cn [2,5,7,8] [0,1,5]]).cs hΓ ud (DO aB tS (IntKind.i64.wrap (Pb-1)) ((RH.map aN.c)++([[D.int .i64 y76.kind,D.str y76.pat.rel,D.sl (y76.pat.args.map tx),D.str y76.left,D.str y76.right]]))) (by first| (simp only[mA]<;>rfl)| (simp only[mA,aE.c,aR.c,aN.c,Action.c,aO.c,aI.c,cr.c,aQ.c,Node.c,aF.c,cv.c]<;>rfl)) (ih2 (IntKind.i64.wrap (Pb-1)) (RH++([y76])) h)
  ·exact((aU.b h65).a [.hl 0 [7] [2]]).ex hΓ xV (CZ RH h)
theorem xk{aB:aF}{aV:Int}{r:aj}(h:xK aB aV=some r):Good prog 204 [D.agg (aF.c aB),D.int .i64 aV] (D.fr 115 5 (r.map aN.c)):=by
 refine gd func204 [[some (115,5)]] 57 fun hr Γ hΓ=>?_
 rw[xK]at h;obtain⟨h1,h⟩|⟨h1,h⟩:=aK h
 ·cases h;exact((aU.r 6 h1).T 1).ret hΓ
 ·have tX:=(aU.r 6 h1)
  obtain⟨h2,h⟩|⟨h2,h⟩:=aK h
  ·cases h;exact(tX.b h2).ret hΓ
  ·refine((tX.b h2).a [.PY 5,.cn [1,2,5] [0,1]]).lp hΓ (MU hΓ (fun tS h=>?_) fuel aV ([]:bJ) h);refine(aU.a [.PY 7,.cn [2,5,7,8] [0,1,2]]).lp hΓ (MV hΓ (fun PZ h=>?_) fuel (IntKind.i64.wrap (((tS.map di).length:Int)-1)) ([]:aj) h);have h:=aG h;subst h;exact aU.ret hΓ
def xJ(aB:aN):Option Bool:=((rN aB).bind fun y1=>(bif y1 then(some (decide ((aB.kind:Int)>=3)))else(some false)))
theorem Bh{aB:aN}{r:Bool}(h:xJ aB=some r):Good prog 286 [D.agg (aN.c aB)] (D.bool r):=by
 refine gd func286 [[none]] 10 fun hr Γ hΓ=>?_
 rw[xJ]at h;obtain⟨y1,h2,h⟩:=aD h;obtain⟨h3,h⟩|⟨h3,h⟩:=aK h
 ·cases h;exact((aU.g (q9 h2)).r 4 h3).ret hΓ
 ·have h:=aG h;subst h;exact((aU.g (q9 h2)).r 4 h3).ret hΓ
def sO(aB:aN)(aV:aT):Option Bool:=((xJ aB).bind fun y1=>(bif !(y1)then(some false)else((kf aV).bind fun y4=>(bif !(y4)then(some false)else((qA aV aB.left).bind fun y7=>((qA aV aB.right).bind fun y9=>(bif !(y7.2)then(some false)else(bif !(y9.2)then(some false)else(bif (aB.kind:Int)==3 then(some ((y7.1:Bytes)==y9.1))else(bif (aB.kind:Int)==4 then(some (!((y7.1:Bytes)==y9.1)))else((mT y7.1).bind fun Vu=>((mT y9.1).bind fun KN=>(bif Vu.2 then(bif KN.2 then(some (decide ((Vu.1:Int)<KN.1)))else(some false))else(some false))))))))))))))
theorem FC{aB:aN}{aV:aT}{r:Bool}(h:sO aB aV=some r):Good prog 277 [D.agg (aN.c aB),D.sl (aV.map aR.c)] (D.bool r):=by
 refine gd func277 [[none]] 70 fun hr Γ hΓ=>?_
 rw[sO]at h;obtain⟨y1,h2,h⟩:=aD h;obtain⟨h3,h⟩|⟨h3,h⟩:=aK h
 ·have h:=aG h;subst h;exact(((aU.g (Bh h2)).r 4 h3).T 1).ret hΓ
 ·obtain⟨y4,h5,h⟩:=aD h;have k7:=((((aU.g (Bh h2)).r 2 h3).g (mh h5)).r 2 h3)
  obtain⟨h6,h⟩|⟨h6,h⟩:=aK h
  ·have h:=aG h;subst h;exact(k7.b h6).ret hΓ
  ·obtain⟨y7,h8,h⟩:=aD h;obtain⟨y9,h10,h⟩:=aD h;have dH:=(((k7.b h6).g (wz h8)).g (wz h10))
   obtain⟨h11,h⟩|⟨h11,h⟩:=aK h
   ·have h:=aG h;subst h;exact((dH.r 3 h11).T 1).ret hΓ
   ·have jU:=(dH.r 3 h11)
    obtain⟨h12,h⟩|⟨h12,h⟩:=aK h
    ·have h:=aG h;subst h;exact(jU.b h12).ret hΓ
    ·obtain⟨h13,h⟩|⟨h13,h⟩:=aK h
     ·cases h;exact((jU.b h12).b h13).ret hΓ
     ·have iU:=((jU.b h12).b h13)
      obtain⟨h14,h⟩|⟨h14,h⟩:=aK h
      ·cases h;exact(iU.b h14).ret hΓ
      ·obtain⟨Vu,h16,h⟩:=aD h;obtain⟨KN,h18,h⟩:=aD h;have tX:=(((iU.b h14).g (qv h16)).g (qv h18))
       obtain⟨h19,h⟩|⟨h19,h⟩:=aK h
       ·have wL:=(tX.r 2 h19)
        obtain⟨h20,h⟩|⟨h20,h⟩:=aK h
        ·cases h;exact(wL.r 4 h20).ret hΓ
        ·have h:=aG h;subst h;exact(wL.r 4 h20).ret hΓ
       ·have h:=aG h;subst h;exact((tX.r 2 h19).F 4).ret hΓ
def sN(aB:aN)(aV:aT)(cW:aP):Option Bool:=((rN aB).bind fun y1=>(bif !(y1)then(some false)else((kf aV).bind fun y4=>(bif !(y4)then(some false)else(bif (aB.kind:Int)==1 then((iX aB.pat aV cW).bind fun y8=>(some (decide ((((y8.map aE.c).length:Int):Int)>0))))else(bif (aB.kind:Int)==2 then((iX aB.pat aV cW).bind fun Pv=>(some ((((Pv.map aE.c).length:Int):Int)==0)))else((sO aB aV).bind fun s8=>(some s8))))))))
theorem FB{aB:aN}{aV:aT}{cW:aP}{r:Bool}(h:sN aB aV cW=some r):Good prog 259 [D.agg (aN.c aB),D.sl (aV.map aR.c),D.sl (cW.map aE.c)] (D.bool r):=by
 refine gd func259 [[none]] 38 fun hr Γ hΓ=>?_
 rw[sN]at h;obtain⟨y1,h2,h⟩:=aD h;obtain⟨h3,h⟩|⟨h3,h⟩:=aK h
 ·have h:=aG h;subst h;exact(((aU.g (q9 h2)).r 4 h3).T 1).ret hΓ
 ·obtain⟨y4,h5,h⟩:=aD h;have k7:=((((aU.g (q9 h2)).r 2 h3).g (mh h5)).r 2 h3)
  obtain⟨h6,h⟩|⟨h6,h⟩:=aK h
  ·have h:=aG h;subst h;exact(k7.b h6).ret hΓ
  ·obtain⟨h7,h⟩|⟨h7,h⟩:=aK h
   ·obtain⟨y8,h9,h⟩:=aD h;cases h;exact(((k7.b h6).b h7).g (mZ h9)).ret hΓ
   ·have dH:=((k7.b h6).b h7)
    obtain⟨h10,h⟩|⟨h10,h⟩:=aK h
    ·obtain⟨Pv,h12,h⟩:=aD h;cases h;exact((dH.b h10).g (mZ h12)).ret hΓ
    ·obtain⟨s8,h14,h⟩:=aD h;have h:=aG h;subst h;exact((dH.b h10).g (FC h14)).ret hΓ
def kJ(aB:aj)(aV:aP)(i2:Nat)(bC:ah)(lM:aI)(i1:Nat)(bD:aN)(k3:ah->Option ah):aP->Nat->ah->Option ah
 | [],i3,Af=>(k3 Af)
 |Vt::U1,i3,Af=>((jF bD.pat Vt lM.bind).bind fun Se=>(bif Se.2 then((cy lM.facts).bind fun Sf=>((eE Vt).bind fun Nu=>(bif room ((Sf.map aE.c).length+([[D.str Nu.rel,D.sl (Nu.args.map tx)]]).length) 40 then(bif room ((Af.map aI.c).length+([[D.sl ((Sf.map aE.c)++([[D.str Nu.rel,D.sl (Nu.args.map tx)]])),D.sl (Se.1.map aR.c)]]).length) 48 then(kJ aB aV i2 bC lM i1 bD k3 U1 (i3+1) (Af++([(⟨Sf++([Nu]),Se.1⟩:aI)])))else none)else none)))else(kJ aB aV i2 bC lM i1 bD k3 U1 (i3+1) Af)))
def fP(aB:aj)(aV:aP)(bC:ah)(i1:Nat)(bD:aN)(k2:ah->Option ah):ah->Nat->ah->Option ah
 | [],i2,k6=>(k2 k6)
 |lM::wR,i2,k6=>(bif (bD.kind:Int) != 1 then((sN bD lM.bind aV).bind fun a6W=>(bif a6W then(bif room ((k6.map aI.c).length+([[D.sl (lM.facts.map aE.c),D.sl (lM.bind.map aR.c)]]).length) 48 then(fP aB aV bC i1 bD k2 wR (i2+1) (k6++([lM])))else none)else(fP aB aV bC i1 bD k2 wR (i2+1) k6)))else(bif decide (aV.length<=maxLen)then(kJ aB aV i2 bC lM i1 bD (fun(Zs:ah)=>(fP aB aV bC i1 bD k2 wR (i2+1) Zs)) aV 0 k6)else none))
def kI(aB:aj)(aV:aP)(k1:ah->Option ah):aj->Nat->ah->Option ah
 | [],i1,bC=>(k1 bC)
 |bD::bg,i1,bC=>(bif decide (bC.length<=maxLen)then(fP aB aV bC i1 bD (fun(PZ:ah)=>(kI aB aV k1 bg (i1+1) PZ)) bC 0 ([]:ah))else none)
def uI(aB:aj)(aV:aP):Option ah:=(kI aB aV (fun(bO:ah)=>(some bO)) aB 0 ([(⟨[],[]⟩:aI)]))
def Bm(aB:aj)(aV:aP)(W0:List aS)(cT:Int):St:=⟨[(1,D.sl (aV.map aE.c)),(5,D.acc 0),(17,D.sl (aB.map aN.c)),(18,D.int .i64 ((aB.map aN.c).length:Int)),(19,D.int .i64 cT)],[Ob.row .uq 124 2 W0]⟩
def Bn(aB:aj)(aV:aP)(bC:ah)(i1:Nat)(bD:aN)(W0:List aS)(aD9:Nat)(cT:Int):St:=⟨[(1,D.sl (aV.map aE.c)),(7,D.ptr 0 0),(8,D.acc 1),(17,D.sl (aB.map aN.c)),(18,D.int .i64 ((aB.map aN.c).length:Int)),(19,D.int .i64 (i1:Int)),(23,D.acc 2),(24,D.int .i64 ((bC.map aI.c).length:Int)),(25,D.int .i64 cT)],[Ob.box [D.int .i64 bD.kind,D.str bD.pat.rel,D.sl (bD.pat.args.map tx),D.str bD.left,D.str bD.right],Ob.row .uq 124 2 W0,Ob.row (.mv aD9) 124 2 (bC.map aI.c)]⟩
def Bo(aB:aj)(aV:aP)(i2:Nat)(bC:ah)(lM:aI)(i1:Nat)(bD:aN)(W0:List aS)(cT:Int):St:=⟨[(1,D.sl (aV.map aE.c)),(7,D.ptr 0 0),(8,D.acc 1),(10,D.ptr 2 0),(17,D.sl (aB.map aN.c)),(18,D.int .i64 ((aB.map aN.c).length:Int)),(19,D.int .i64 (i1:Int)),(23,D.acc 3),(24,D.int .i64 ((bC.map aI.c).length:Int)),(25,D.int .i64 (i2:Int)),(41,D.sl (aV.map aE.c)),(42,D.int .i64 ((aV.map aE.c).length:Int)),(43,D.int .i64 cT)],[Ob.box [D.int .i64 bD.kind,D.str bD.pat.rel,D.sl (bD.pat.args.map tx),D.str bD.left,D.str bD.right],Ob.row .uq 124 2 W0,Ob.box [D.acc 4,D.acc 5],Ob.row (.mv (i2+1)) 124 2 (bC.map aI.c),Ob.tk (lM.facts.map aE.c),Ob.tk (lM.bind.map aR.c)]⟩
theorem Is(hΓ:Γ.nt=74){aB:aj}{aV:aP}{i2:Nat}{bC:ah}{lM:aI}{i1:Nat}{bD:aN}{r:ah}{k3:ah->Option ah}(hE3:∀(Zs:ah),k3 Zs=some r->Ax Γ N f203 (.q [[some (124,2)]] (D.fr 124 2 (r.map aI.c))) [1,1,0,1,0,0,1,1,0,0,1,1,0,1,0,0,1,1,1] ⟨[(1,D.sl (aV.map aE.c)),(7,D.ptr 0 0),(8,D.acc 1),(17,D.sl (aB.map aN.c)),(18,D.int .i64 ((aB.map aN.c).length:Int)),(19,D.int .i64 (i1:Int)),(23,D.acc 2),(24,D.int .i64 ((bC.map aI.c).length:Int)),(25,D.int .i64 (i2:Int))],[Ob.box [D.int .i64 bD.kind,D.str bD.pat.rel,D.sl (bD.pat.args.map tx),D.str bD.left,D.str bD.right],Ob.row .uq 124 2 (Zs.map aI.c),Ob.row (.mv (i2+1)) 124 2 (bC.map aI.c)]⟩)(Wf:aV.length<=maxLen):∀(rest:aP) (i3:Nat) (Af:ah),aV.drop i3=rest->kJ aB aV i2 bC lM i1 bD k3 rest i3 Af=some r->Ar Γ N f203 (.q [[some (124,2)]] (D.fr 124 2 (r.map aI.c))) [1,1,0,1,0,0,1,1,0,0,1,1,0,1,0,0,1,1,0,0,1,1,1,0] (rest.length+1) (Bo aB aV i2 bC lM i1 bD (Af.map aI.c) (i3:Int)):=by
 intro rest
 induction rest with
 |nil=>
  intro i3 Af BE h;rw[kJ]at h;refine aM fun N3 YF T4=>?_
  exact((aU.ge aE.c BE).a [.hl 8 [1,7,8,17,18,19,23,24,25] [0,1,3]]).ex hΓ YF (hE3 Af h)
 |cons Vt U1 ih3=>
  intro i3 Af BE h;rw[kJ]at h;refine aM fun N3 YF T4=>?_
  obtain⟨Se,h3513,h⟩:=aD h;have aAM:=(((aU.lt aE.c BE).l (av aE.c 2 (dc BE) rfl)).g (qS h3513))
  obtain⟨h3514,h⟩|⟨h3514,h⟩:=aK h
  ·obtain⟨Sf,h3521,h⟩:=aD h;obtain⟨Nu,h3523,h⟩:=aD h;obtain⟨h3524,h⟩:=bV h;obtain⟨h3525,h⟩:=bV h;exact(((((((aAM.b h3514).a [.n2 [0,1,2,3,4,5,8,6,7,9,10,11,12] [0,1,2,3,4,5,7,8,6,9,10,11,12] 7 11 [0,6] [7,8,9,10,11]]).g (ec h3521)).g (gL h3523)).w (cA h3524)).w (cA h3525)).a [.cn [1,7,8,10,17,18,19,23,24,25,41,42,43] [0,13,2,3,4,5]]).cs hΓ T4 (Bo aB aV i2 bC lM i1 bD ((Af.map aI.c)++([[D.sl ((Sf.map aE.c)++([[D.str Nu.rel,D.sl (Nu.args.map tx)]])),D.sl (Se.1.map aR.c)]])) (IntKind.i64.wrap ((i3:Int)+1))) (by first| (simp only[iS BE Wf,mA]<;>rfl)| (simp only[iS BE Wf,mA,aE.c,aR.c,aN.c,Action.c,aO.c,aI.c,cr.c,aQ.c,Node.c,aF.c,cv.c]<;>rfl)) (ih3 (i3+1) (Af++([(⟨Sf++([Nu]),Se.1⟩:aI)])) (dn BE) h)
  ·exact((aAM.b h3514).a [.cn [1,7,8,10,17,18,19,23,24,25,41,42,43] [0,1,2,3,4,5]]).ct hΓ T4 (iS BE Wf) (ih3 (i3+1) Af (dn BE) h)
theorem Ir(hΓ:Γ.nt=74){aB:aj}{aV:aP}{bC:ah}{i1:Nat}{bD:aN}{r:ah}{k2:ah->Option ah}(CZ:∀(PZ:ah),k2 PZ=some r->Ax Γ N f203 (.q [[some (124,2)]] (D.fr 124 2 (r.map aI.c))) [1,1,0,1,0,0,1,1,0,0,1,1,1] ⟨[(1,D.sl (aV.map aE.c)),(8,D.acc 0),(17,D.sl (aB.map aN.c)),(18,D.int .i64 ((aB.map aN.c).length:Int)),(19,D.int .i64 (i1:Int))],[Ob.row .uq 124 2 (PZ.map aI.c)]⟩)(hm2:bC.length<=maxLen):∀(rest:ah) (i2:Nat) (k6:ah),bC.drop i2=rest->fP aB aV bC i1 bD k2 rest i2 k6=some r->Ar Γ N f203 (.q [[some (124,2)]] (D.fr 124 2 (r.map aI.c))) [1,1,0,1,0,0,1,1,0,0,1,1,0,1,0] (rest.length+1) (Bn aB aV bC i1 bD (k6.map aI.c) i2 (i2:Int)):=by
 intro rest
 induction rest with
 |nil=>
  intro i2 k6 hd2 h;rw[fP]at h;refine aM fun N2 xV ud=>?_
  exact((aU.ge aI.c hd2).a [.hl 5 [1,8,17,18,19] [1]]).ex hΓ xV (CZ k6 h)
 |cons lM wR ih2=>
  intro i2 k6 hd2 h;rw[fP]at h;refine aM fun N2 xV ud=>?_
  have aAN:=((((aU.lt aI.c hd2).i (pG aI.c 2 (dc hd2))).w (show i2=i2/\(bC.map aI.c)[i2]?=some [D.sl (lM.facts.map aE.c),D.sl (lM.bind.map aR.c)]/\Tt [D.sl (lM.facts.map aE.c),D.sl (lM.bind.map aR.c)]=true from⟨rfl,dB aI.c (dc hd2),rfl⟩)).a [.tk [D.sl (lM.facts.map aE.c),D.sl (lM.bind.map aR.c)]])
  obtain⟨h3426,h⟩|⟨h3426,h⟩:=aK h
  ·obtain⟨a6W,h3428,h⟩:=aD h;have aAO:=((aAN.b h3426).g (FB h3428))
   obtain⟨h3429,h⟩|⟨h3429,h⟩:=aK h
   ·obtain⟨h3430,h⟩:=bV h;exact(((aAO.b h3429).w (cA h3430)).a [.cn [1,7,8,17,18,19,23,24,25] [0,7,2]]).cs hΓ ud (Bn aB aV bC i1 bD ((k6.map aI.c)++([[D.sl (lM.facts.map aE.c),D.sl (lM.bind.map aR.c)]])) (i2+1) (IntKind.i64.wrap ((i2:Int)+1))) (by first| (simp only[iS hd2 hm2,mA]<;>rfl)| (simp only[iS hd2 hm2,mA,aE.c,aR.c,aN.c,Action.c,aO.c,aI.c,cr.c,aQ.c,Node.c,aF.c,cv.c]<;>rfl)) (ih2 (i2+1) (k6++([lM])) (dn hd2) h)
   ·exact((aAO.b h3429).a [.cn [1,7,8,17,18,19,23,24,25] [0,1,2]]).ct hΓ ud (iS hd2 hm2) (ih2 (i2+1) k6 (dn hd2) h)
  ·obtain⟨h3526,h⟩:=bV h;refine((aAN.b h3426).a [.cn [1,7,8,10,17,18,19,23,24,25,41,42,43] [0,1,5,2,3,4]]).lp hΓ (Is hΓ (fun Zs h=>?_) (bt h3526) aV 0 k6 rfl h);exact(aU.a [.cn [1,7,8,17,18,19,23,24,25] [0,1,2]]).ct hΓ ud (iS hd2 hm2) (ih2 (i2+1) Zs (dn hd2) h)
theorem Iq(hΓ:Γ.nt=74){aB:aj}{aV:aP}{r:ah}{k1:ah->Option ah}(cY:∀(bO:ah),k1 bO=some r->Ax Γ N f203 (.q [[some (124,2)]] (D.fr 124 2 (r.map aI.c))) [1,1,1] ⟨[(5,D.acc 0)],[Ob.row .uq 124 2 (bO.map aI.c)]⟩)(hm1:aB.length<=maxLen):∀(rest:aj) (i1:Nat) (bC:ah),aB.drop i1=rest->kI aB aV k1 rest i1 bC=some r->Ar Γ N f203 (.q [[some (124,2)]] (D.fr 124 2 (r.map aI.c))) [1,1,0,1,0] (rest.length+1) (Bm aB aV (bC.map aI.c) (i1:Int)):=by
 intro rest
 induction rest with
 |nil=>
  intro i1 bC aq h;rw[kI]at h;refine aM fun N1 bw bn=>?_
  exact((aU.ge aN.c aq).a [.hl 0 [5] [0]]).ex hΓ bw (cY bC h)
 |cons bD bg ih1=>
  intro i1 bC aq h;rw[kI]at h;refine aM fun N1 bw bn=>?_
  obtain⟨h3527,h⟩:=bV h;refine(((aU.lt aN.c aq).l (av aN.c 5 (dc aq) rfl)).a [.PY 8,.mz 0,.cn [1,7,8,17,18,19,23,24,25] [1,2,0]]).lp hΓ (Ir hΓ (fun PZ h=>?_) (bt h3527) bC 0 ([]:ah) rfl h);exact(aU.a [.cn [1,5,17,18,19] [0]]).ct hΓ bn (iS aq hm1) (ih1 (i1+1) PZ (dn aq) h)
theorem Gc{aB:aj}{aV:aP}{r:ah}(h:uI aB aV=some r):Good prog 203 [D.sl (aB.map aN.c),D.sl (aV.map aE.c)] (D.fr 124 2 (r.map aI.c)):=by
 refine gd func203 [[some (124,2)]] 74 fun hr Γ hΓ=>?_
 rw[uI]at h;refine(aU.a [.cn [1,5,17,18,19] [0]]).Ww hΓ (Bm aB aV ([[D.sl ([]),D.sl ([])]]) 0) (by first| (simp only[mA]<;>rfl)| (simp only[mA,aE.c,aR.c,aN.c,Action.c,aO.c,aI.c,cr.c,aQ.c,Node.c,aF.c,cv.c]<;>rfl)) (Iq hΓ (fun bO h=>?_) (by have:=(dU.sl (hr _ (aC (i:=0) rfl))).1;simpa using this) aB 0 ([(⟨[],[]⟩:aI)]) rfl h);have h:=aG h;subst h;exact aU.ret hΓ
def ey(aB:aF)(aV:aP)(y1:aP)(k1:b8->Option (aF×Unit)):b8->Nat->b8->Option (aF×Unit)
 | [],i1,gr=>(k1 gr)
 |bD::bg,i1,gr=>(bif decide (i1<(gr.map aQ.c).length)then(((gr)[i1]?).bind fun x35=>((iX x35.shape ([]) aV).bind fun Xo=>(bif decide (i1<(gr.map aQ.c).length)then(ey aB aV y1 k1 bg (i1+1) (gr.set i1 (⟨x35.shape,Xo⟩:aQ)))else none)))else none)
def eH(aB:aF)(aV:aP)(y1:aP)(iO:b8)(k2:Option (aF×Unit)):az->Nat->az->Option (aF×Unit)
 | [],i2,oz=>(some ((⟨aB.rules,aB.ends,iO,oz,y1,aB.cL⟩:aF),()))
 |lM::wR,i2,oz=>((xK (⟨aB.rules,aB.ends,iO,oz,y1,aB.cL⟩:aF) (i2:Int)).bind fun Pc=>((uI Pc aV).bind fun Xi=>(bif decide (i2<(oz.map Node.c).length)then(((oz)[i2]?).bind fun x107=>(eH aB aV y1 iO k2 wR (i2+1) (oz.set i2 (⟨x107.parent,x107.cond,x107.cP,Xi⟩:Node))))else none)))
def jB(aB:aF)(aV:aP):Option (aF×Unit):=((cy aV).bind fun y1=>(bif decide (aB.ay.length<=maxLen)then(ey aB aV y1 (fun(iO:b8)=>(bif decide (aB.nodes.length<=maxLen)then(eH aB aV y1 iO none aB.nodes 0 aB.nodes)else none)) aB.ay 0 aB.ay)else none))
def wi(fE:Value)(aB:aF)(aV:aP)(y1:aP)(W0:List aS)(cT:Int):St:=⟨[(0,D.ptr 0 0),(1,D.sl (aV.map aE.c)),(15,D.int .i64 ((aB.ay.map aQ.c).length:Int)),(16,D.int .i64 cT)],[Ob.PW [D.acc 1,D.acc 2,D.acc 3,D.acc 4,D.acc 5,D.int .i64 aB.cL] fE,Ob.row .uq 105 4 (aB.rules.map aO.c),Ob.row .uq 3 1 (aB.ends.map di),Ob.row .uq 111 3 W0,Ob.row .uq 118 8 (aB.nodes.map Node.c),Ob.row .uq 53 2 (y1.map aE.c)]⟩
theorem Bf(hΓ:Γ.nt=60){fE:Value}{aB:aF}{aV:aP}{y1:aP}{r:aF×Unit}{k1:b8->Option (aF×Unit)}(cY:∀(iO:b8),k1 iO=some r->Ax Γ N f135 (.p [[some (105,4),some (3,1),some (111,3),some (118,8),some (53,2),none]] fE (cV r.1) (D.iF [])) [1,1] ⟨[(0,D.ptr 0 0),(1,D.sl (aV.map aE.c))],[Ob.PW [D.acc 1,D.acc 2,D.acc 3,D.acc 4,D.acc 5,D.int .i64 aB.cL] fE,Ob.row .uq 105 4 (aB.rules.map aO.c),Ob.row .uq 3 1 (aB.ends.map di),Ob.row .uq 111 3 (iO.map aQ.c),Ob.row .uq 118 8 (aB.nodes.map Node.c),Ob.row .uq 53 2 (y1.map aE.c)]⟩)(hm1:aB.ay.length<=maxLen):∀(rest:b8) (i1:Nat) (gr:b8),aB.ay.drop i1=rest->ey aB aV y1 k1 rest i1 gr=some r->Ar Γ N f135 (.p [[some (105,4),some (3,1),some (111,3),some (118,8),some (53,2),none]] fE (cV r.1) (D.iF [])) [1,0,1,0] (rest.length+1) (wi fE aB aV y1 (gr.map aQ.c) (i1:Int)):=by
 intro rest
 induction rest with
 |nil=>
  intro i1 gr aq h;rw[ey]at h;refine aM fun N1 bw bn=>?_
  exact((aU.ge aQ.c aq).a [.hl 0 [0,1] [0,1,2,3,4,5]]).ex hΓ bw (cY gr h)
 |cons bD bg ih1=>
  intro i1 gr aq h;rw[ey]at h;refine aM fun N1 bw bn=>?_
  obtain⟨h34,h⟩:=bV h;obtain⟨x35,h36,h⟩:=aD h;obtain⟨Xo,h38,h⟩:=aD h;obtain⟨h39,h⟩:=bV h;exact(((((((((aU.lt aQ.c aq).a [.n 15]).i (zR 3 h34)).o 3 2 .uq (dB aQ.c h36)).a [.d (D.fr 53 2 (Xo.map aE.c))]).w (show Good prog 202 [D.agg (aE.c x35.shape),D.sl ([]),D.sl (aV.map aE.c)] (D.fr 53 2 (Xo.map aE.c))from by first| (simpa only[bS,bH,bX,dl,dR]using mZ h38)|exact mZ h38)).i (zR 3 h39)).w (show(gr.map aQ.c)[i1]?=some [D.str x35.shape.rel,D.sl (x35.shape.args.map tx),D.sl (x35.facts.map aE.c)]from dB aQ.c h36)).a [.row [D.str x35.shape.rel,D.sl (x35.shape.args.map tx),D.sl (x35.facts.map aE.c)],.cn [0,1,15,16] [0,1,2,3,4,5]]).cs hΓ bn (wi fE aB aV y1 ((gr.map aQ.c).set i1 [D.str x35.shape.rel,D.sl (x35.shape.args.map tx),D.sl (Xo.map aE.c)]) (IntKind.i64.wrap ((i1:Int)+1))) (by first| (simp only[iS aq hm1,mA]<;>rfl)| (simp only[iS aq hm1,mA,aE.c,aR.c,aN.c,Action.c,aO.c,aI.c,cr.c,aQ.c,Node.c,aF.c,cv.c]<;>rfl)) (ih1 (i1+1) (gr.set i1 (⟨x35.shape,Xo⟩:aQ)) (dn aq) h)
def wj(fE:Value)(aB:aF)(aV:aP)(y1:aP)(iO:b8)(W0:List aS)(cT:Int):St:=⟨[(0,D.ptr 0 0),(1,D.sl (aV.map aE.c)),(41,D.int .i64 ((aB.nodes.map Node.c).length:Int)),(42,D.int .i64 cT)],[Ob.PW [D.acc 1,D.acc 2,D.acc 3,D.acc 4,D.acc 5,D.int .i64 aB.cL] fE,Ob.row .uq 105 4 (aB.rules.map aO.c),Ob.row .uq 3 1 (aB.ends.map di),Ob.row .uq 111 3 (iO.map aQ.c),Ob.row .uq 118 8 W0,Ob.row .uq 53 2 (y1.map aE.c)]⟩
theorem Bg(hΓ:Γ.nt=60){fE:Value}{aB:aF}{aV:aP}{y1:aP}{iO:b8}{r:aF×Unit}{k2:Option (aF×Unit)}(CZ:k2=some r->Ax Γ N f135 (.p [[some (105,4),some (3,1),some (111,3),some (118,8),some (53,2),none]] fE (cV r.1) (D.iF [])) [1,1,1,0,0] ⟨[],[]⟩)(hm2:aB.nodes.length<=maxLen):∀(rest:az) (i2:Nat) (oz:az),aB.nodes.drop i2=rest->eH aB aV y1 iO k2 rest i2 oz=some r->Ar Γ N f135 (.p [[some (105,4),some (3,1),some (111,3),some (118,8),some (53,2),none]] fE (cV r.1) (D.iF [])) [1,1,1,0] (rest.length+1) (wj fE aB aV y1 iO (oz.map Node.c) (i2:Int)):=by
 intro rest
 induction rest with
 |nil=>
  intro i2 oz hd2 h;rw[eH]at h;refine aM fun N2 xV ud=>?_
  cases h;exact(aU.ge Node.c hd2).ret hΓ
 |cons lM wR ih2=>
  intro i2 oz hd2 h;rw[eH]at h;refine aM fun N2 xV ud=>?_
  obtain⟨Pc,h103,h⟩:=aD h;obtain⟨Xi,h105,h⟩:=aD h;obtain⟨h106,h⟩:=bV h;obtain⟨x107,h108,h⟩:=aD h;exact(((((((aU.lt Node.c hd2).a [.n2 [0,1,2,3,4,5,6,7,8,9,10,11,12,13,14] [0,1,2,3,4,5,6,7,8,9,10,11,12,13,14] 11 12 [0,1,2,3,4] [],.d (D.fr 115 5 (Pc.map aN.c))]).w (show Good prog 204 [D.agg [D.sl (aB.rules.map aO.c),D.sl (aB.ends.map di),D.sl (iO.map aQ.c),D.sl (oz.map Node.c),D.sl (y1.map aE.c),D.int .i64 aB.cL],D.int .i64 (i2:Int)] (D.fr 115 5 (Pc.map aN.c))from by first| (simpa only[bS,bH,bX,dl,dR]using xk h103)|exact xk h103| (have t:=xk h103;simp only[bS,dl,dR,aF.c]at t;exact t))).g (Gc h105)).i (zR 8 h106)).w (show(oz.map Node.c)[i2]?=some [D.int .i64 x107.parent,D.int .i64 x107.cond.kind,D.str x107.cond.pat.rel,D.sl (x107.cond.pat.args.map tx),D.str x107.cond.left,D.str x107.cond.right,D.int .i64 x107.cP,D.sl (x107.tokens.map aI.c)]from dB Node.c h108)).a [.row [D.int .i64 x107.parent,D.int .i64 x107.cond.kind,D.str x107.cond.pat.rel,D.sl (x107.cond.pat.args.map tx),D.str x107.cond.left,D.str x107.cond.right,D.int .i64 x107.cP,D.sl (x107.tokens.map aI.c)],.cn [0,1,41,42] [0,1,2,3,4,5]]).cs hΓ ud (wj fE aB aV y1 iO ((oz.map Node.c).set i2 [D.int .i64 x107.parent,D.int .i64 x107.cond.kind,D.str x107.cond.pat.rel,D.sl (x107.cond.pat.args.map tx),D.str x107.cond.left,D.str x107.cond.right,D.int .i64 x107.cP,D.sl (Xi.map aI.c)]) (IntKind.i64.wrap ((i2:Int)+1))) (by first| (simp only[iS hd2 hm2,mA]<;>rfl)| (simp only[iS hd2 hm2,mA,aE.c,aR.c,aN.c,Action.c,aO.c,aI.c,cr.c,aQ.c,Node.c,aF.c,cv.c]<;>rfl)) (ih2 (i2+1) (oz.set i2 (⟨x107.parent,x107.cond,x107.cP,Xi⟩:Node)) (dn hd2) h)
theorem vZ{aB:aF}{aV:aP}{r:aF×Unit}(h:jB aB aV=some r):BW prog 135 (cV aB) (cV r.1) [D.sl (aV.map aE.c)] (D.iF []):=by
 refine gdP func135 [[some (105,4),some (3,1),some (111,3),some (118,8),some (53,2),none]] 60 [D.acc 1,D.acc 2,D.acc 3,D.acc 4,D.acc 5,D.int .i64 aB.cL] [D.sl (aV.map aE.c)] [Ob.row .uq 105 4 (aB.rules.map aO.c),Ob.row .uq 3 1 (aB.ends.map di),Ob.row .uq 111 3 (aB.ay.map aQ.c),Ob.row .uq 118 8 (aB.nodes.map Node.c),Ob.row .uq 53 2 (aB.facts.map aE.c)] fun hr fE Γ hΓ=>?_
 rw[jB]at h;obtain⟨y1,h2,h⟩:=aD h;obtain⟨h110,h⟩:=bV h;refine((aU.g (ec h2)).a [.cn [0,1,15,16] [0,1,2,3,4,6]]).lp hΓ (Bf hΓ (fun iO h=>?_) (bt h110) aB.ay 0 aB.ay rfl h);obtain⟨h109,h⟩:=bV h;refine(aU.a [.cn [0,1,41,42] [0,1,2,3,4,5]]).lp hΓ (Bg hΓ (fun h=>?_) (bt h109) aB.nodes 0 aB.nodes rfl h);cases h
def yX(aB:au)(aV:aP)(cW:Int):Option aF:=((sZ aB).bind fun y1=>((jB y1 aV).bind fun y3=>(some (⟨y3.1.rules,y3.1.ends,y3.1.ay,y3.1.nodes,y3.1.facts,cW⟩:aF))))
theorem MX{aB:au}{aV:aP}{cW:Int}{r:aF}(h:yX aB aV cW=some r):Good prog 78 [D.sl (aB.map aO.c),D.sl (aV.map aE.c),D.int .i64 cW] (D.agg [D.fr 105 4 (r.rules.map aO.c),D.fr 3 1 (r.ends.map di),D.fr 111 3 (r.ay.map aQ.c),D.fr 118 8 (r.nodes.map Node.c),D.fr 53 2 (r.facts.map aE.c),D.int .i64 r.cL]):=by
 refine gd func78 [[some (105,4),some (3,1),some (111,3),some (118,8),some (53,2),none]] 15 fun hr Γ hΓ=>?_
 rw[yX]at h;obtain⟨y1,h2,h⟩:=aD h;obtain⟨y3,h4,h⟩:=aD h;cases h;exact((aU.g (FN h2)).hp [[some (105,4),some (3,1),some (111,3),some (118,8),some (53,2),none],[none]] (vZ h4)).ret hΓ
def kD(aB:aO)(aV:aO)(k1:Option Bool):aj->Nat->Option Bool
 | [],i1=>(k1)
 |bD::bg,i1=>((mC aV.conds (i1:Int)).bind fun x33=>((jz bD x33).bind fun y35=>(bif !(y35)then(some false)else(kD aB aV k1 bg (i1+1)))))
def iY(aB:aO)(aV:aO)(k2:Option Bool):bz->Nat->Option Bool
 | [],i2=>(k2)
 |lM::wR,i2=>((mC aV.cu (i2:Int)).bind fun x70=>(bif (lM.kind:Int) != x70.kind then(some false)else((fO lM.pat x70.pat).bind fun MA=>(bif !(MA)then(some false)else(iY aB aV k2 wR (i2+1))))))
def qf(aB:aO)(aV:aO):Option Bool:=(bif !((aB.name:Bytes)==aV.name)then(some false)else(bif (aB.prio:Int) != aV.prio then(some false)else(bif (((aB.conds.map aN.c).length:Int):Int) != ((aV.conds.map aN.c).length:Int)then(some false)else(bif (((aB.cu.map Action.c).length:Int):Int) != ((aV.cu.map Action.c).length:Int)then(some false)else(kD aB aV (iY aB aV (some true) aB.cu 0) aB.conds 0)))))
def Ke(aB:aO)(aV:aO)(cT:Int):St:=⟨[(2,D.ptr 0 0),(3,D.ptr 1 0),(39,D.int .i64 ((aB.conds.map aN.c).length:Int)),(40,D.int .i64 cT)],[Ob.box (aO.c aB),Ob.box (aO.c aV)]⟩
theorem Ib(hΓ:Γ.nt=92){aB:aO}{aV:aO}{r:Bool}{k1:Option Bool}(cY:k1=some r->Ax Γ N f230 (.q [[none]] (D.bool r)) [1,1,1] ⟨[(2,D.ptr 0 0),(3,D.ptr 1 0)],[Ob.box (aO.c aB),Ob.box (aO.c aV)]⟩)(hm1:aB.conds.length<=maxLen):∀(rest:aj) (i1:Nat),aB.conds.drop i1=rest->kD aB aV k1 rest i1=some r->Ar Γ N f230 (.q [[none]] (D.bool r)) [1,1,0,1,0] (rest.length+1) (Ke aB aV (i1:Int)):=by
 intro rest
 induction rest with
 |nil=>
  intro i1 aq h;rw[kD]at h;refine aM fun N1 bw bn=>?_
  exact((aU.ge aN.c aq).a [.hl 0 [2,3] [0,1]]).ex hΓ bw (cY h)
 |cons bD bg ih1=>
  intro i1 aq h;rw[kD]at h;refine aM fun N1 bw bn=>?_
  obtain⟨x33,h34,h⟩:=aD h;obtain⟨y35,h36,h⟩:=aD h;have iU:=(((((aU.lt aN.c aq).a [.n 10]).l (av aN.c 5 (dc aq) rfl)).l (dX aN.c 5 h34 rfl)).g (vp h36))
  obtain⟨h37,h⟩|⟨h37,h⟩:=aK h
  ·have h:=aG h;subst h;exact(iU.b h37).ret hΓ
  ·exact((iU.b h37).a [.cn [2,3,39,40] [0,1]]).ct hΓ bn (iS aq hm1) (ih1 (i1+1) (dn aq) h)
def Kf(aB:aO)(aV:aO)(cT:Int):St:=⟨[(2,D.ptr 0 0),(3,D.ptr 1 0),(58,D.int .i64 ((aB.cu.map Action.c).length:Int)),(59,D.int .i64 cT)],[Ob.box (aO.c aB),Ob.box (aO.c aV)]⟩
theorem Ic(hΓ:Γ.nt=92){aB:aO}{aV:aO}{r:Bool}{k2:Option Bool}(CZ:k2=some r->Ax Γ N f230 (.q [[none]] (D.bool r)) [1,1,1,1] ⟨[],[]⟩)(hm2:aB.cu.length<=maxLen):∀(rest:bz) (i2:Nat),aB.cu.drop i2=rest->iY aB aV k2 rest i2=some r->Ar Γ N f230 (.q [[none]] (D.bool r)) [1,1,1,0,1,0] (rest.length+1) (Kf aB aV (i2:Int)):=by
 intro rest
 induction rest with
 |nil=>
  intro i2 hd2 h;rw[iY]at h;refine aM fun N2 xV ud=>?_
  exact((aU.ge Action.c hd2).a [.hl 0 [] []]).ex hΓ xV (CZ h)
 |cons lM wR ih2=>
  intro i2 hd2 h;rw[iY]at h;refine aM fun N2 xV ud=>?_
  obtain⟨x70,h71,h⟩:=aD h;have tX:=((((aU.lt Action.c hd2).a [.n 26]).l (av Action.c 3 (dc hd2) rfl)).l (dX Action.c 3 h71 rfl))
  obtain⟨h72,h⟩|⟨h72,h⟩:=aK h
  ·have h:=aG h;subst h;exact((tX.r 15 h72).T 1).ret hΓ
  ·obtain⟨MA,h74,h⟩:=aD h;have wL:=(((((((tX.r 4 h72).l (av Action.c 3 (dc hd2) rfl)).r 6 h72).l (dX Action.c 3 h71 rfl)).r 3 h72).g (oB h74)).r 2 h72)
   obtain⟨h75,h⟩|⟨h75,h⟩:=aK h
   ·have h:=aG h;subst h;exact(wL.b h75).ret hΓ
   ·exact((wL.b h75).a [.cn [2,3,58,59] [0,1]]).ct hΓ ud (iS hd2 hm2) (ih2 (i2+1) (dn hd2) h)
theorem GN{aB:aO}{aV:aO}{r:Bool}(h:qf aB aV=some r):Good prog 230 [D.agg (aO.c aB),D.agg (aO.c aV)] (D.bool r):=by
 refine gd func230 [[none]] 92 fun hr Γ hΓ=>?_
 rw[qf]at h;obtain⟨h1,h⟩|⟨h1,h⟩:=aK h
 ·have h:=aG h;subst h;exact((aU.r 6 h1).T 17).ret hΓ
 ·have AM:=(aU.r 6 h1)
  obtain⟨h2,h⟩|⟨h2,h⟩:=aK h
  ·have h:=aG h;subst h;exact((AM.r 8 h2).T 9).ret hΓ
  ·have D7:=(AM.r 8 h2)
   obtain⟨h3,h⟩|⟨h3,h⟩:=aK h
   ·have h:=aG h;subst h;exact((D7.r 8 h3).T 1).ret hΓ
   ·have Hz:=(D7.r 8 h3)
    obtain⟨h4,h⟩|⟨h4,h⟩:=aK h
    ·have h:=aG h;subst h;exact(Hz.b h4).ret hΓ
    ·refine((Hz.b h4).a [.cn [2,3,39,40] [0,1]]).lp hΓ (Ib hΓ (fun h=>?_) (by have:=(dU.sl (dU.agg (hr _ (aC (i:=0) rfl)) (.sl (aB.conds.map aN.c)) (by simp))).1;simpa using this) aB.conds 0 rfl h);refine(aU.a [.cn [2,3,58,59] [0,1]]).lp hΓ (Ic hΓ (fun h=>?_) (by have:=(dU.sl (dU.agg (hr _ (aC (i:=0) rfl)) (.sl (aB.cu.map Action.c)) (by simp))).1;simpa using this) aB.cu 0 rfl h);have h:=aG h;subst h;exact aU.ret hΓ
def mJ(aB:au)(aV:au)(k1:Option Bool):au->Nat->Option Bool
 | [],i1=>(k1)
 |bD::bg,i1=>((mC aV (i1:Int)).bind fun x30=>((qf bD x30).bind fun Dx=>(bif !(Dx)then(some false)else(mJ aB aV k1 bg (i1+1)))))
def sY(aB:au)(aV:au):Option Bool:=(bif (((aB.map aO.c).length:Int):Int) != ((aV.map aO.c).length:Int)then(some false)else(mJ aB aV (some true) aB 0))
def Im(aB:au)(aV:au)(cT:Int):St:=⟨[(0,D.sl (aB.map aO.c)),(1,D.sl (aV.map aO.c)),(12,D.int .i64 ((aB.map aO.c).length:Int)),(13,D.int .i64 cT)],[]⟩
theorem GX(hΓ:Γ.nt=27){aB:au}{aV:au}{r:Bool}{k1:Option Bool}(cY:k1=some r->Ax Γ N f156 (.q [[none]] (D.bool r)) [1,1,1] ⟨[],[]⟩)(hm1:aB.length<=maxLen):∀(rest:au) (i1:Nat),aB.drop i1=rest->mJ aB aV k1 rest i1=some r->Ar Γ N f156 (.q [[none]] (D.bool r)) [1,1,0,1,0] (rest.length+1) (Im aB aV (i1:Int)):=by
 intro rest
 induction rest with
 |nil=>
  intro i1 aq h;rw[mJ]at h;refine aM fun N1 bw bn=>?_
  exact((aU.ge aO.c aq).a [.hl 0 [] []]).ex hΓ bw (cY h)
 |cons bD bg ih1=>
  intro i1 aq h;rw[mJ]at h;refine aM fun N1 bw bn=>?_
  obtain⟨x30,h31,h⟩:=aD h;obtain⟨Dx,h33,h⟩:=aD h;have dH:=(((((aU.lt aO.c aq).a [.n 8]).l (av aO.c 4 (dc aq) rfl)).l (dX aO.c 4 h31 rfl)).g (GN h33))
  obtain⟨h34,h⟩|⟨h34,h⟩:=aK h
  ·have h:=aG h;subst h;exact(dH.b h34).ret hΓ
  ·exact((dH.b h34).a [.cn [0,1,12,13] []]).ct hΓ bn (iS aq hm1) (ih1 (i1+1) (dn aq) h)
theorem zA{aB:au}{aV:au}{r:Bool}(h:sY aB aV=some r):Good prog 156 [D.sl (aB.map aO.c),D.sl (aV.map aO.c)] (D.bool r):=by
 refine gd func156 [[none]] 27 fun hr Γ hΓ=>?_
 rw[sY]at h;obtain⟨h1,h⟩|⟨h1,h⟩:=aK h
 ·have h:=aG h;subst h;exact(aU.b h1).ret hΓ
 ·refine((aU.b h1).a [.cn [0,1,12,13] []]).lp hΓ (GX hΓ (fun h=>?_) (by have:=(dU.sl (hr _ (aC (i:=0) rfl))).1;simpa using this) aB 0 rfl h);have h:=aG h;subst h;exact aU.ret hΓ
def n7(aB:bJ)(aV:bJ)(k1:Option Bool):bJ->Nat->Option Bool
 | [],i1=>(k1)
 |bD::bg,i1=>((mC aV (i1:Int)).bind fun x22=>(bif (bD:Int) != x22 then(some false)else(n7 aB aV k1 bg (i1+1))))
def uH(aB:bJ)(aV:bJ):Option Bool:=(bif (((aB.map di).length:Int):Int) != ((aV.map di).length:Int)then(some false)else(n7 aB aV (some true) aB 0))
def Kn(aB:bJ)(aV:bJ)(cT:Int):St:=⟨[(0,D.sl (aB.map di)),(1,D.sl (aV.map di)),(12,D.int .i64 ((aB.map di).length:Int)),(13,D.int .i64 cT)],[]⟩
theorem Ik(hΓ:Γ.nt=26){aB:bJ}{aV:bJ}{r:Bool}{k1:Option Bool}(cY:k1=some r->Ax Γ N f157 (.q [[none]] (D.bool r)) [1,1,1] ⟨[],[]⟩)(hm1:aB.length<=maxLen):∀(rest:bJ) (i1:Nat),aB.drop i1=rest->n7 aB aV k1 rest i1=some r->Ar Γ N f157 (.q [[none]] (D.bool r)) [1,1,0,1,0] (rest.length+1) (Kn aB aV (i1:Int)):=by
 intro rest
 induction rest with
 |nil=>
  intro i1 aq h;rw[n7]at h;refine aM fun N1 bw bn=>?_
  exact((aU.ge di aq).a [.hl 0 [] []]).ex hΓ bw (cY h)
 |cons bD bg ih1=>
  intro i1 aq h;rw[n7]at h;refine aM fun N1 bw bn=>?_
  obtain⟨x22,h23,h⟩:=aD h;have dH:=((((aU.lt di aq).a [.n 8]).l (av di 1 (dc aq) rfl)).l (dX di 1 h23 rfl))
  obtain⟨h24,h⟩|⟨h24,h⟩:=aK h
  ·have h:=aG h;subst h;exact(dH.b h24).ret hΓ
  ·exact((dH.b h24).a [.cn [0,1,12,13] []]).ct hΓ bn (iS aq hm1) (ih1 (i1+1) (dn aq) h)
theorem GV{aB:bJ}{aV:bJ}{r:Bool}(h:uH aB aV=some r):Good prog 157 [D.sl (aB.map di),D.sl (aV.map di)] (D.bool r):=by
 refine gd func157 [[none]] 26 fun hr Γ hΓ=>?_
 rw[uH]at h;obtain⟨h1,h⟩|⟨h1,h⟩:=aK h
 ·have h:=aG h;subst h;exact(aU.b h1).ret hΓ
 ·refine((aU.b h1).a [.cn [0,1,12,13] []]).lp hΓ (Ik hΓ (fun h=>?_) (by have:=(dU.sl (hr _ (aC (i:=0) rfl))).1;simpa using this) aB 0 rfl h);have h:=aG h;subst h;exact aU.ret hΓ
def oZ(aB:aE)(aV:aE):Option Bool:=(bif (aB.rel:Bytes)==aV.rel then((pX aB.args aV.args).bind fun y2=>(some y2))else(some false))
theorem zv{aB:aE}{aV:aE}{r:Bool}(h:oZ aB aV=some r):Good prog 231 [D.agg (aE.c aB),D.agg (aE.c aV)] (D.bool r):=by
 refine gd func231 [[none]] 17 fun hr Γ hΓ=>?_
 rw[oZ]at h;obtain⟨h1,h⟩|⟨h1,h⟩:=aK h
 ·obtain⟨y2,h3,h⟩:=aD h;have h:=aG h;subst h;exact(((aU.r 5 h1).g (zB h3)).b h1).ret hΓ
 ·have h:=aG h;subst h;exact(aU.r 6 h1).ret hΓ
def mF(aB:aP)(aV:aP)(k1:Option Bool):aP->Nat->Option Bool
 | [],i1=>(k1)
 |bD::bg,i1=>((mC aV (i1:Int)).bind fun x30=>((oZ bD x30).bind fun Dx=>(bif !(Dx)then(some false)else(mF aB aV k1 bg (i1+1)))))
def jG(aB:aP)(aV:aP):Option Bool:=(bif (((aB.map aE.c).length:Int):Int) != ((aV.map aE.c).length:Int)then(some false)else(mF aB aV (some true) aB 0))
def Ia(aB:aP)(aV:aP)(cT:Int):St:=⟨[(0,D.sl (aB.map aE.c)),(1,D.sl (aV.map aE.c)),(12,D.int .i64 ((aB.map aE.c).length:Int)),(13,D.int .i64 cT)],[]⟩
theorem GM(hΓ:Γ.nt=27){aB:aP}{aV:aP}{r:Bool}{k1:Option Bool}(cY:k1=some r->Ax Γ N f158 (.q [[none]] (D.bool r)) [1,1,1] ⟨[],[]⟩)(hm1:aB.length<=maxLen):∀(rest:aP) (i1:Nat),aB.drop i1=rest->mF aB aV k1 rest i1=some r->Ar Γ N f158 (.q [[none]] (D.bool r)) [1,1,0,1,0] (rest.length+1) (Ia aB aV (i1:Int)):=by
 intro rest
 induction rest with
 |nil=>
  intro i1 aq h;rw[mF]at h;refine aM fun N1 bw bn=>?_
  exact((aU.ge aE.c aq).a [.hl 0 [] []]).ex hΓ bw (cY h)
 |cons bD bg ih1=>
  intro i1 aq h;rw[mF]at h;refine aM fun N1 bw bn=>?_
  obtain⟨x30,h31,h⟩:=aD h;obtain⟨Dx,h33,h⟩:=aD h;have dH:=(((((aU.lt aE.c aq).a [.n 8]).l (av aE.c 2 (dc aq) rfl)).l (dX aE.c 2 h31 rfl)).g (zv h33))
  obtain⟨h34,h⟩|⟨h34,h⟩:=aK h
  ·have h:=aG h;subst h;exact(dH.b h34).ret hΓ
  ·exact((dH.b h34).a [.cn [0,1,12,13] []]).ct hΓ bn (iS aq hm1) (ih1 (i1+1) (dn aq) h)
theorem vJ{aB:aP}{aV:aP}{r:Bool}(h:jG aB aV=some r):Good prog 158 [D.sl (aB.map aE.c),D.sl (aV.map aE.c)] (D.bool r):=by
 refine gd func158 [[none]] 27 fun hr Γ hΓ=>?_
 rw[jG]at h;obtain⟨h1,h⟩|⟨h1,h⟩:=aK h
 ·have h:=aG h;subst h;exact(aU.b h1).ret hΓ
 ·refine((aU.b h1).a [.cn [0,1,12,13] []]).lp hΓ (GM hΓ (fun h=>?_) (by have:=(dU.sl (hr _ (aC (i:=0) rfl))).1;simpa using this) aB 0 rfl h);have h:=aG h;subst h;exact aU.ret hΓ
def jX(aB:aT)(aV:aT)(k1:Option Bool):aT->Nat->Option Bool
 | [],i1=>(k1)
 |bD::bg,i1=>((mC aV (i1:Int)).bind fun x22=>(bif !((bD.var:Bytes)==x22.var&&(bD.value:Bytes)==x22.value)then(some false)else(jX aB aV k1 bg (i1+1))))
def pW(aB:aT)(aV:aT):Option Bool:=(bif (((aB.map aR.c).length:Int):Int) != ((aV.map aR.c).length:Int)then(some false)else(jX aB aV (some true) aB 0))
def Il(aB:aT)(aV:aT)(cT:Int):St:=⟨[(0,D.sl (aB.map aR.c)),(1,D.sl (aV.map aR.c)),(12,D.int .i64 ((aB.map aR.c).length:Int)),(13,D.int .i64 cT)],[]⟩
theorem GW(hΓ:Γ.nt=26){aB:aT}{aV:aT}{r:Bool}{k1:Option Bool}(cY:k1=some r->Ax Γ N f233 (.q [[none]] (D.bool r)) [1,1,1] ⟨[],[]⟩)(hm1:aB.length<=maxLen):∀(rest:aT) (i1:Nat),aB.drop i1=rest->jX aB aV k1 rest i1=some r->Ar Γ N f233 (.q [[none]] (D.bool r)) [1,1,0,1,0] (rest.length+1) (Il aB aV (i1:Int)):=by
 intro rest
 induction rest with
 |nil=>
  intro i1 aq h;rw[jX]at h;refine aM fun N1 bw bn=>?_
  exact((aU.ge aR.c aq).a [.hl 0 [] []]).ex hΓ bw (cY h)
 |cons bD bg ih1=>
  intro i1 aq h;rw[jX]at h;refine aM fun N1 bw bn=>?_
  obtain⟨x22,h23,h⟩:=aD h;have dH:=((((aU.lt aR.c aq).a [.n 8]).l (av aR.c 2 (dc aq) rfl)).l (dX aR.c 2 h23 rfl))
  obtain⟨h24,h⟩|⟨h24,h⟩:=aK h
  ·have h:=aG h;subst h;exact(dH.b h24).ret hΓ
  ·exact((dH.b h24).a [.cn [0,1,12,13] []]).ct hΓ bn (iS aq hm1) (ih1 (i1+1) (dn aq) h)
theorem FL{aB:aT}{aV:aT}{r:Bool}(h:pW aB aV=some r):Good prog 233 [D.sl (aB.map aR.c),D.sl (aV.map aR.c)] (D.bool r):=by
 refine gd func233 [[none]] 26 fun hr Γ hΓ=>?_
 rw[pW]at h;obtain⟨h1,h⟩|⟨h1,h⟩:=aK h
 ·have h:=aG h;subst h;exact(aU.b h1).ret hΓ
 ·refine((aU.b h1).a [.cn [0,1,12,13] []]).lp hΓ (GW hΓ (fun h=>?_) (by have:=(dU.sl (hr _ (aC (i:=0) rfl))).1;simpa using this) aB 0 rfl h);have h:=aG h;subst h;exact aU.ret hΓ
def ig(aB:ah)(aV:ah)(k1:Option Bool):ah->Nat->Option Bool
 | [],i1=>(k1)
 |bD::bg,i1=>((mC aV (i1:Int)).bind fun x42=>((jG bD.facts x42.facts).bind fun y44=>(bif !(y44)then(some false)else((pW bD.bind x42.bind).bind fun y47=>(bif !(y47)then(some false)else(ig aB aV k1 bg (i1+1)))))))
def oF(aB:ah)(aV:ah):Option Bool:=(bif (((aB.map aI.c).length:Int):Int) != ((aV.map aI.c).length:Int)then(some false)else(ig aB aV (some true) aB 0))
def GZ(aB:ah)(aV:ah)(cT:Int):St:=⟨[(0,D.sl (aB.map aI.c)),(1,D.sl (aV.map aI.c)),(12,D.int .i64 ((aB.map aI.c).length:Int)),(13,D.int .i64 cT)],[]⟩
theorem FM(hΓ:Γ.nt=43){aB:ah}{aV:ah}{r:Bool}{k1:Option Bool}(cY:k1=some r->Ax Γ N f161 (.q [[none]] (D.bool r)) [1,1,1] ⟨[],[]⟩)(hm1:aB.length<=maxLen):∀(rest:ah) (i1:Nat),aB.drop i1=rest->ig aB aV k1 rest i1=some r->Ar Γ N f161 (.q [[none]] (D.bool r)) [1,1,0,1,0] (rest.length+1) (GZ aB aV (i1:Int)):=by
 intro rest
 induction rest with
 |nil=>
  intro i1 aq h;rw[ig]at h;refine aM fun N1 bw bn=>?_
  exact((aU.ge aI.c aq).a [.hl 0 [] []]).ex hΓ bw (cY h)
 |cons bD bg ih1=>
  intro i1 aq h;rw[ig]at h;refine aM fun N1 bw bn=>?_
  obtain⟨x42,h43,h⟩:=aD h;obtain⟨y44,h45,h⟩:=aD h;have jU:=(((((aU.lt aI.c aq).a [.n 23]).l (av aI.c 2 (dc aq) rfl)).l (dX aI.c 2 h43 rfl)).g (vJ h45))
  obtain⟨h46,h⟩|⟨h46,h⟩:=aK h
  ·have h:=aG h;subst h;exact((jU.r 13 h46).T 1).ret hΓ
  ·obtain⟨y47,h48,h⟩:=aD h;have iU:=(((((((jU.r 3 h46).l (av aI.c 2 (dc aq) rfl)).r 5 h46).l (dX aI.c 2 h43 rfl)).r 3 h46).g (FL h48)).r 2 h46)
   obtain⟨h49,h⟩|⟨h49,h⟩:=aK h
   ·have h:=aG h;subst h;exact(iU.b h49).ret hΓ
   ·exact((iU.b h49).a [.cn [0,1,12,13] []]).ct hΓ bn (iS aq hm1) (ih1 (i1+1) (dn aq) h)
theorem EN{aB:ah}{aV:ah}{r:Bool}(h:oF aB aV=some r):Good prog 161 [D.sl (aB.map aI.c),D.sl (aV.map aI.c)] (D.bool r):=by
 refine gd func161 [[none]] 43 fun hr Γ hΓ=>?_
 rw[oF]at h;obtain⟨h1,h⟩|⟨h1,h⟩:=aK h
 ·have h:=aG h;subst h;exact(aU.b h1).ret hΓ
 ·refine((aU.b h1).a [.cn [0,1,12,13] []]).lp hΓ (FM hΓ (fun h=>?_) (by have:=(dU.sl (hr _ (aC (i:=0) rfl))).1;simpa using this) aB 0 rfl h);have h:=aG h;subst h;exact aU.ret hΓ
def gS(aB:aF)(aV:aF)(k1:Option Bool):b8->Nat->Option Bool
 | [],i1=>(k1)
 |bD::bg,i1=>((mC aV.ay (i1:Int)).bind fun x52=>((fO bD.shape x52.shape).bind fun Pd=>(bif !(Pd)then(some false)else((jG bD.facts x52.facts).bind fun y57=>(bif !(y57)then(some false)else(gS aB aV k1 bg (i1+1)))))))
def gT(aB:aF)(aV:aF)(k2:Option Bool):az->Nat->Option Bool
 | [],i2=>(k2)
 |lM::wR,i2=>((mC aV.nodes (i2:Int)).bind fun x108=>(bif (lM.parent:Int) != x108.parent then(some false)else(bif (lM.cP:Int) != x108.cP then(some false)else((jz lM.cond x108.cond).bind fun Jy=>(bif !(Jy)then(some false)else((oF lM.tokens x108.tokens).bind fun U2=>(bif !(U2)then(some false)else(gT aB aV k2 wR (i2+1)))))))))
def ot(aB:aF)(aV:aF):Option Bool:=((sY aB.rules aV.rules).bind fun y1=>(bif !(y1)then(some false)else((uH aB.ends aV.ends).bind fun y4=>(bif !(y4)then(some false)else((jG aB.facts aV.facts).bind fun y7=>(bif !(y7)then(some false)else(bif (((aB.ay.map aQ.c).length:Int):Int) != ((aV.ay.map aQ.c).length:Int)then(some false)else(bif (((aB.nodes.map Node.c).length:Int):Int) != ((aV.nodes.map Node.c).length:Int)then(some false)else(gS aB aV (gT aB aV (some true) aB.nodes 0) aB.ay 0)))))))))
def EE(aB:aF)(aV:aF)(cT:Int):St:=⟨[(2,D.ptr 0 0),(3,D.ptr 1 0),(51,D.int .i64 ((aB.ay.map aQ.c).length:Int)),(52,D.int .i64 cT)],[Ob.box (aF.c aB),Ob.box (aF.c aV)]⟩
theorem DP(hΓ:Γ.nt=131){aB:aF}{aV:aF}{r:Bool}{k1:Option Bool}(cY:k1=some r->Ax Γ N f91 (.q [[none]] (D.bool r)) [1,1,1] ⟨[(2,D.ptr 0 0),(3,D.ptr 1 0)],[Ob.box (aF.c aB),Ob.box (aF.c aV)]⟩)(hm1:aB.ay.length<=maxLen):∀(rest:b8) (i1:Nat),aB.ay.drop i1=rest->gS aB aV k1 rest i1=some r->Ar Γ N f91 (.q [[none]] (D.bool r)) [1,1,0,1,0] (rest.length+1) (EE aB aV (i1:Int)):=by
 intro rest
 induction rest with
 |nil=>
  intro i1 aq h;rw[gS]at h;refine aM fun N1 bw bn=>?_
  exact((aU.ge aQ.c aq).a [.hl 0 [2,3] [0,1]]).ex hΓ bw (cY h)
 |cons bD bg ih1=>
  intro i1 aq h;rw[gS]at h;refine aM fun N1 bw bn=>?_
  obtain⟨x52,h53,h⟩:=aD h;obtain⟨Pd,h55,h⟩:=aD h;have AM:=(((((aU.lt aQ.c aq).a [.n 27]).l (av aQ.c 3 (dc aq) rfl)).l (dX aQ.c 3 h53 rfl)).g (oB h55))
  obtain⟨h56,h⟩|⟨h56,h⟩:=aK h
  ·have h:=aG h;subst h;exact((AM.r 15 h56).T 1).ret hΓ
  ·obtain⟨y57,h58,h⟩:=aD h;have D7:=(((((((AM.r 4 h56).l (av aQ.c 3 (dc aq) rfl)).r 6 h56).l (dX aQ.c 3 h53 rfl)).r 3 h56).g (vJ h58)).r 2 h56)
   obtain⟨h59,h⟩|⟨h59,h⟩:=aK h
   ·have h:=aG h;subst h;exact(D7.b h59).ret hΓ
   ·exact((D7.b h59).a [.cn [2,3,51,52] [0,1]]).ct hΓ bn (iS aq hm1) (ih1 (i1+1) (dn aq) h)
def EF(aB:aF)(aV:aF)(cT:Int):St:=⟨[(2,D.ptr 0 0),(3,D.ptr 1 0),(88,D.int .i64 ((aB.nodes.map Node.c).length:Int)),(89,D.int .i64 cT)],[Ob.box (aF.c aB),Ob.box (aF.c aV)]⟩
theorem DQ(hΓ:Γ.nt=131){aB:aF}{aV:aF}{r:Bool}{k2:Option Bool}(CZ:k2=some r->Ax Γ N f91 (.q [[none]] (D.bool r)) [1,1,1,1] ⟨[],[]⟩)(hm2:aB.nodes.length<=maxLen):∀(rest:az) (i2:Nat),aB.nodes.drop i2=rest->gT aB aV k2 rest i2=some r->Ar Γ N f91 (.q [[none]] (D.bool r)) [1,1,1,0,1,0] (rest.length+1) (EF aB aV (i2:Int)):=by
 intro rest
 induction rest with
 |nil=>
  intro i2 hd2 h;rw[gT]at h;refine aM fun N2 xV ud=>?_
  exact((aU.ge Node.c hd2).a [.hl 0 [] []]).ex hΓ xV (CZ h)
 |cons lM wR ih2=>
  intro i2 hd2 h;rw[gT]at h;refine aM fun N2 xV ud=>?_
  obtain⟨x108,h109,h⟩:=aD h;have Hz:=((((aU.lt Node.c hd2).a [.n 13]).l (av Node.c 8 (dc hd2) rfl)).l (dX Node.c 8 h109 rfl))
  obtain⟨h110,h⟩|⟨h110,h⟩:=aK h
  ·have h:=aG h;subst h;exact((Hz.r 6 h110).T 15).ret hΓ
  ·have yj:=(Hz.r 6 h110)
   obtain⟨h111,h⟩|⟨h111,h⟩:=aK h
   ·have h:=aG h;subst h;exact((yj.r 7 h111).T 8).ret hΓ
   ·obtain⟨Jy,h113,h⟩:=aD h;have D1:=(((yj.r 5 h111).g (vp h113)).r 2 h111)
    obtain⟨h114,h⟩|⟨h114,h⟩:=aK h
    ·have h:=aG h;subst h;exact((D1.r 7 h114).T 1).ret hΓ
    ·obtain⟨U2,h116,h⟩:=aD h;have BG:=(((D1.r 5 h114).g (EN h116)).r 2 h114)
     obtain⟨h117,h⟩|⟨h117,h⟩:=aK h
     ·have h:=aG h;subst h;exact(BG.b h117).ret hΓ
     ·exact((BG.b h117).a [.cn [2,3,88,89] [0,1]]).ct hΓ ud (iS hd2 hm2) (ih2 (i2+1) (dn hd2) h)
theorem Cn{aB:aF}{aV:aF}{r:Bool}(h:ot aB aV=some r):Good prog 91 [D.agg (aF.c aB),D.agg (aF.c aV)] (D.bool r):=by
 refine gd func91 [[none]] 131 fun hr Γ hΓ=>?_
 rw[ot]at h;obtain⟨y1,h2,h⟩:=aD h;obtain⟨h3,h⟩|⟨h3,h⟩:=aK h
 ·have h:=aG h;subst h;exact(((aU.g (zA h2)).r 7 h3).T 24).ret hΓ
 ·obtain⟨y4,h5,h⟩:=aD h;have Hx:=((((aU.g (zA h2)).r 5 h3).g (GV h5)).r 2 h3)
  obtain⟨h6,h⟩|⟨h6,h⟩:=aK h
  ·have h:=aG h;subst h;exact((Hx.r 7 h6).T 17).ret hΓ
  ·obtain⟨y7,h8,h⟩:=aD h;have Hy:=(((Hx.r 5 h6).g (vJ h8)).r 2 h6)
   obtain⟨h9,h⟩|⟨h9,h⟩:=aK h
   ·have h:=aG h;subst h;exact((Hy.r 8 h9).T 9).ret hΓ
   ·have Qw:=(Hy.r 8 h9)
    obtain⟨h10,h⟩|⟨h10,h⟩:=aK h
    ·have h:=aG h;subst h;exact((Qw.r 8 h10).T 1).ret hΓ
    ·have Qx:=(Qw.r 8 h10)
     obtain⟨h11,h⟩|⟨h11,h⟩:=aK h
     ·have h:=aG h;subst h;exact(Qx.b h11).ret hΓ
     ·refine((Qx.b h11).a [.cn [2,3,51,52] [0,1]]).lp hΓ (DP hΓ (fun h=>?_) (by have:=(dU.sl (dU.agg (hr _ (aC (i:=0) rfl)) (.sl (aB.ay.map aQ.c)) (by simp))).1;simpa using this) aB.ay 0 rfl h);refine(aU.a [.cn [2,3,88,89] [0,1]]).lp hΓ (DQ hΓ (fun h=>?_) (by have:=(dU.sl (dU.agg (hr _ (aC (i:=0) rfl)) (.sl (aB.nodes.map Node.c)) (by simp))).1;simpa using this) aB.nodes 0 rfl h);have h:=aG h;subst h;exact aU.ret hΓ
def sP(aB:aF):Option Bool:=((uB aB.rules).bind fun y1=>(bif y1 then((qe aB.facts).bind fun y4=>(bif y4 then(bif decide ((aB.cL:Int)>=0)then((yX aB.rules aB.facts 0).bind fun y8=>((ot aB y8).bind fun Oj=>(some Oj)))else(some false))else(some false)))else(some false)))
theorem yz{aB:aF}{r:Bool}(h:sP aB=some r):Good prog 39 [D.agg (aF.c aB)] (D.bool r):=by
 refine gd func39 [[none]] 25 fun hr Γ hΓ=>?_
 rw[sP]at h;obtain⟨y1,h2,h⟩:=aD h;have k7:=((aU.a [.n 20]).g (GD h2))
 obtain⟨h3,h⟩|⟨h3,h⟩:=aK h
 ·obtain⟨y4,h5,h⟩:=aD h;have dH:=(((k7.r 3 h3).g (vn h5)).b h3)
  obtain⟨h6,h⟩|⟨h6,h⟩:=aK h
  ·have jU:=(dH.r 4 h6)
   obtain⟨h7,h⟩|⟨h7,h⟩:=aK h
   ·obtain⟨y8,h9,h⟩:=aD h;obtain⟨Oj,h11,h⟩:=aD h;have h:=aG h;subst h;exact(((((jU.r 6 h7).g (MX h9)).b h7).g (Cn h11)).b h7).ret hΓ
   ·have h:=aG h;subst h;exact(jU.r 8 h7).ret hΓ
  ·have h:=aG h;subst h;exact((dH.r 4 h6).F 8).ret hΓ
 ·have h:=aG h;subst h;exact((k7.r 4 h3).F 12).ret hΓ
def kA(aB:aP)(aV:aE)(k1:Option Int):aP->Nat->Option Int
 | [],i1=>(k1)
 |bD::bg,i1=>((oZ bD aV).bind fun RI=>(bif RI then(some (i1:Int))else(kA aB aV k1 bg (i1+1))))
def uC(aB:aP)(aV:aE):Option Int:=(kA aB aV (some (-1)) aB 0)
def Ka(aB:aP)(aV:aE)(cT:Int):St:=⟨[(3,D.ptr 0 0),(7,D.sl (aB.map aE.c)),(8,D.int .i64 ((aB.map aE.c).length:Int)),(9,D.int .i64 cT)],[Ob.box (aE.c aV)]⟩
theorem IV(hΓ:Γ.nt=19){aB:aP}{aV:aE}{r:Int}{k1:Option Int}(cY:k1=some r->Ax Γ N f237 (.q [[none]] (D.int .i64 r)) [1,1] ⟨[],[]⟩)(hm1:aB.length<=maxLen):∀(rest:aP) (i1:Nat),aB.drop i1=rest->kA aB aV k1 rest i1=some r->Ar Γ N f237 (.q [[none]] (D.int .i64 r)) [1,0,1,0] (rest.length+1) (Ka aB aV (i1:Int)):=by
 intro rest
 induction rest with
 |nil=>
  intro i1 aq h;rw[kA]at h;refine aM fun N1 bw bn=>?_
  exact((aU.ge aE.c aq).a [.hl 0 [] []]).ex hΓ bw (cY h)
 |cons bD bg ih1=>
  intro i1 aq h;rw[kA]at h;refine aM fun N1 bw bn=>?_
  obtain⟨RI,h22,h⟩:=aD h;have dH:=(((aU.lt aE.c aq).l (av aE.c 2 (dc aq) rfl)).g (zv h22))
  obtain⟨h23,h⟩|⟨h23,h⟩:=aK h
  ·cases h;exact(dH.b h23).ret hΓ
  ·exact((dH.b h23).a [.cn [3,7,8,9] [0]]).ct hΓ bn (iS aq hm1) (ih1 (i1+1) (dn aq) h)
theorem GG{aB:aP}{aV:aE}{r:Int}(h:uC aB aV=some r):Good prog 237 [D.sl (aB.map aE.c),D.agg (aE.c aV)] (D.int .i64 r):=by
 refine gd func237 [[none]] 19 fun hr Γ hΓ=>?_
 rw[uC]at h;refine(aU.a [.cn [3,7,8,9] [0]]).lp hΓ (IV hΓ (fun h=>?_) (by have:=(dU.sl (hr _ (aC (i:=0) rfl))).1;simpa using this) aB 0 rfl h);cases h;exact aU.ret hΓ
def dL(aB:aP)(aV:aE)(k1:Bool->aP->Option aP):aP->Nat->Bool->aP->Option aP
 | [],i1,jr,bu=>(k1 jr bu)
 |bD::bg,i1,jr,bu=>(bif !(jr)then((fe bD aV).bind fun y93=>(bif decide ((y93:Int)>0)then((eE aV).bind fun Ys=>(bif room ((bu.map aE.c).length+([[D.str Ys.rel,D.sl (Ys.args.map tx)]]).length) 40 then((eE bD).bind fun y99=>(bif room (((bu.map aE.c)++([[D.str Ys.rel,D.sl (Ys.args.map tx)]])).length+([[D.str y99.rel,D.sl (y99.args.map tx)]]).length) 40 then(dL aB aV k1 bg (i1+1) true ((bu++([Ys]))++([y99])))else none))else none))else((eE bD).bind fun Pc=>(bif room ((bu.map aE.c).length+([[D.str Pc.rel,D.sl (Pc.args.map tx)]]).length) 40 then(dL aB aV k1 bg (i1+1) jr (bu++([Pc])))else none))))else((eE bD).bind fun Xj=>(bif room ((bu.map aE.c).length+([[D.str Xj.rel,D.sl (Xj.args.map tx)]]).length) 40 then(dL aB aV k1 bg (i1+1) jr (bu++([Xj])))else none)))
def vr(aB:aP)(aV:aE):Option aP:=(dL aB aV (fun(zW:Bool) (tS:aP)=>(bif !(zW)then((eE aV).bind fun a0I=>(bif room ((tS.map aE.c).length+([[D.str a0I.rel,D.sl (a0I.args.map tx)]]).length) 40 then(some (tS++([a0I])))else none))else(some tS))) aB 0 false ([]:aP))
def vb(aB:aP)(aV:aE)(jr:Bool)(W1:List aS)(cT:Int):St:=⟨[(3,D.ptr 0 0),(5,D.acc 1),(6,D.bool jr),(9,D.sl (aB.map aE.c)),(10,D.int .i64 ((aB.map aE.c).length:Int)),(11,D.int .i64 cT)],[Ob.box (aE.c aV),Ob.row .uq 53 2 W1]⟩
theorem Km(hΓ:Γ.nt=42){aB:aP}{aV:aE}{r:aP}{k1:Bool->aP->Option aP}(cY:∀(zW:Bool) (tS:aP),k1 zW tS=some r->Ax Γ N f240 (.q [[some (53,2)]] (D.fr 53 2 (r.map aE.c))) [1,1,1,1] ⟨[(3,D.ptr 0 0),(5,D.acc 1),(6,D.bool zW)],[Ob.box (aE.c aV),Ob.row .uq 53 2 (tS.map aE.c)]⟩)(hm1:aB.length<=maxLen):∀(rest:aP) (i1:Nat) (jr:Bool) (bu:aP),aB.drop i1=rest->dL aB aV k1 rest i1 jr bu=some r->Ar Γ N f240 (.q [[some (53,2)]] (D.fr 53 2 (r.map aE.c))) [1,1,1,0,1,0] (rest.length+1) (vb aB aV jr (bu.map aE.c) (i1:Int)):=by
 intro rest
 induction rest with
 |nil=>
  intro i1 jr bu aq h;rw[dL]at h;refine aM fun N1 bw bn=>?_
  exact((aU.ge aE.c aq).a [.hl 0 [3,5,6] [0,1]]).ex hΓ bw (cY jr bu h)
 |cons bD bg ih1=>
  intro i1 jr bu aq h;rw[dL]at h;refine aM fun N1 bw bn=>?_
  have jU:=((aU.lt aE.c aq).l (av aE.c 2 (dc aq) rfl))
  obtain⟨h92,h⟩|⟨h92,h⟩:=aK h
  ·obtain⟨y93,h94,h⟩:=aD h;have iU:=(((jU.r 3 h92).g (rM h94)).r 2 h92)
   obtain⟨h95,h⟩|⟨h95,h⟩:=aK h
   ·obtain⟨Ys,h97,h⟩:=aD h;obtain⟨h98,h⟩:=bV h;obtain⟨y99,h100,h⟩:=aD h;obtain⟨h101,h⟩:=bV h;exact((((((iU.b h95).g (gL h97)).w (cA h98)).g (gL h100)).w (cA h101)).a [.cn [3,5,6,9,10,11] [0,8]]).cs hΓ bn (vb aB aV true (((bu.map aE.c)++([[D.str Ys.rel,D.sl (Ys.args.map tx)]]))++([[D.str y99.rel,D.sl (y99.args.map tx)]])) (IntKind.i64.wrap ((i1:Int)+1))) (by first| (simp only[iS aq hm1,mA]<;>rfl)| (simp only[iS aq hm1,mA,aE.c,aR.c,aN.c,Action.c,aO.c,aI.c,cr.c,aQ.c,Node.c,aF.c,cv.c]<;>rfl)) (ih1 (i1+1) true ((bu++([Ys]))++([y99])) (dn aq) h)
   ·obtain⟨Pc,h103,h⟩:=aD h;obtain⟨h104,h⟩:=bV h;exact((((iU.b h95).g (gL h103)).w (cA h104)).a [.cn [3,5,6,9,10,11] [0,5]]).cs hΓ bn (vb aB aV jr ((bu.map aE.c)++([[D.str Pc.rel,D.sl (Pc.args.map tx)]])) (IntKind.i64.wrap ((i1:Int)+1))) (by first| (simp only[iS aq hm1,mA]<;>rfl)| (simp only[iS aq hm1,mA,aE.c,aR.c,aN.c,Action.c,aO.c,aI.c,cr.c,aQ.c,Node.c,aF.c,cv.c]<;>rfl)) (ih1 (i1+1) jr (bu++([Pc])) (dn aq) h)
  ·obtain⟨Xj,h106,h⟩:=aD h;obtain⟨h107,h⟩:=bV h;exact(((((jU.r 5 h92).F 1).g (gL h106)).w (cA h107)).a [.cn [3,5,6,9,10,11] [0,5]]).cs hΓ bn (vb aB aV jr ((bu.map aE.c)++([[D.str Xj.rel,D.sl (Xj.args.map tx)]])) (IntKind.i64.wrap ((i1:Int)+1))) (by first| (simp only[iS aq hm1,mA]<;>rfl)| (simp only[iS aq hm1,mA,aE.c,aR.c,aN.c,Action.c,aO.c,aI.c,cr.c,aQ.c,Node.c,aF.c,cv.c]<;>rfl)) (ih1 (i1+1) jr (bu++([Xj])) (dn aq) h)
theorem Ij{aB:aP}{aV:aE}{r:aP}(h:vr aB aV=some r):Good prog 240 [D.sl (aB.map aE.c),D.agg (aE.c aV)] (D.fr 53 2 (r.map aE.c)):=by
 refine gd func240 [[some (53,2)]] 42 fun hr Γ hΓ=>?_
 rw[vr]at h;refine(aU.a [.PY 5,.cn [3,5,6,9,10,11] [0,1]]).lp hΓ (Km hΓ (fun zW tS h=>?_) (by have:=(dU.sl (hr _ (aC (i:=0) rfl))).1;simpa using this) aB 0 false ([]:aP) rfl h);obtain⟨h108,h⟩|⟨h108,h⟩:=aK h
 ·obtain⟨a0I,h110,h⟩:=aD h;obtain⟨h111,h⟩:=bV h;cases h;exact(((aU.b h108).g (gL h110)).w (cA h111)).rts hΓ (D.fr 53 2 ((tS.map aE.c)++([[D.str a0I.rel,D.sl (a0I.args.map tx)]]))) (by first|rfl| (simp only[mA]<;>rfl)| (simp only[cV,mA]<;>rfl))
 ·have h:=aG h;subst h;exact(aU.b h108).ret hΓ
def vm(aB:aP)(aV:aE):Option (aP×Bool):=((qe aB).bind fun y1=>(bif !(y1)then((cy aB).bind fun y4=>(some (y4,false)))else((pL aV).bind fun y6=>(bif !(y6)then((cy aB).bind fun y9=>(some (y9,false)))else((uC aB aV).bind fun Pv=>(bif decide ((Pv:Int)>=0)then((cy aB).bind fun Vk=>(some (Vk,false)))else(bif decide ((((aB.map aE.c).length:Int):Int)>=24)then((cy aB).bind fun KN=>(some (KN,false)))else((vr aB aV).bind fun y19=>(some (y19,true))))))))))
theorem Aj{aB:aP}{aV:aE}{r:aP×Bool}(h:vm aB aV=some r):Good prog 171 [D.sl (aB.map aE.c),D.agg (aE.c aV)] (D.iF [D.fr 53 2 (r.1.map aE.c),D.bool r.2]):=by
 refine gd func171 [[some (53,2)],[none]] 30 fun hr Γ hΓ=>?_
 rw[vm]at h;obtain⟨y1,h2,h⟩:=aD h;obtain⟨h3,h⟩|⟨h3,h⟩:=aK h
 ·obtain⟨y4,h5,h⟩:=aD h;cases h;exact((((aU.g (vn h2)).r 4 h3).T 10).g (ec h5)).ret hΓ
 ·obtain⟨y6,h7,h⟩:=aD h;have k7:=((((aU.g (vn h2)).r 2 h3).g (xj h7)).r 2 h3)
  obtain⟨h8,h⟩|⟨h8,h⟩:=aK h
  ·obtain⟨y9,h10,h⟩:=aD h;cases h;exact(((k7.r 5 h8).T 5).g (ec h10)).ret hΓ
  ·obtain⟨Pv,h12,h⟩:=aD h;have dH:=(((k7.r 3 h8).g (GG h12)).r 2 h8)
   obtain⟨h13,h⟩|⟨h13,h⟩:=aK h
   ·obtain⟨Vk,h15,h⟩:=aD h;cases h;exact(((dH.r 4 h13).T 1).g (ec h15)).ret hΓ
   ·have jU:=(dH.r 4 h13)
    obtain⟨h16,h⟩|⟨h16,h⟩:=aK h
    ·obtain⟨KN,h18,h⟩:=aD h;cases h;exact((jU.b h16).g (ec h18)).ret hΓ
    ·obtain⟨y19,h20,h⟩:=aD h;cases h;exact((jU.b h16).g (Ij h20)).ret hΓ
def eX(aB:aP)(aV:aP)(k1:Option Int):aP->Nat->Option Int
 | [],i1=>(k1)
 |bD::bg,i1=>(bif decide (((i1:Int):Int)<((aV.map aE.c).length:Int))then((mC aV (i1:Int)).bind fun x34=>((fe bD x34).bind fun I7=>(bif (I7:Int) != 0 then(some I7)else(eX aB aV k1 bg (i1+1)))))else(k1))
def oC(aB:aP)(aV:aP):Option Int:=(eX aB aV ((iZ ((aB.map aE.c).length:Int) ((aV.map aE.c).length:Int)).bind fun RJ=>(some RJ)) aB 0)
def Bi(aB:aP)(aV:aP)(cT:Int):St:=⟨[(0,D.sl (aB.map aE.c)),(1,D.sl (aV.map aE.c)),(5,D.int .i64 cT)],[]⟩
theorem BB(hΓ:Γ.nt=36){aB:aP}{aV:aP}{r:Int}{k1:Option Int}(cY:k1=some r->Ax Γ N f282 (.q [[none]] (D.int .i64 r)) [1,1] ⟨[(0,D.sl (aB.map aE.c)),(1,D.sl (aV.map aE.c))],[]⟩)(hm1:aB.length<=maxLen):∀(rest:aP) (i1:Nat),aB.drop i1=rest->eX aB aV k1 rest i1=some r->Ar Γ N f282 (.q [[none]] (D.int .i64 r)) [1,0,1,0] (rest.length+1) (Bi aB aV (i1:Int)):=by
 intro rest
 induction rest with
 |nil=>
  intro i1 aq h;rw[eX]at h;refine aM fun N1 bw bn=>?_
  exact(((((((aU.ge aE.c aq).ge aE.c aq).ge aE.c aq).ge aE.c aq).ge aE.c aq).F 1).a [.hl 0 [0,1] []]).ex hΓ bw (cY h)
 |cons bD bg ih1=>
  intro i1 aq h;rw[eX]at h;refine aM fun N1 bw bn=>?_
  have jU:=(((((aU.lt aE.c aq).lt aE.c aq).lt aE.c aq).lt aE.c aq).lt aE.c aq)
  obtain⟨h33,h⟩|⟨h33,h⟩:=aK h
  ·obtain⟨x34,h35,h⟩:=aD h;obtain⟨I7,h37,h⟩:=aD h;have iU:=(((((jU.b h33).a [.n 8]).l (av aE.c 2 (dc aq) rfl)).l (dX aE.c 2 h35 rfl)).g (rM h37))
   obtain⟨h38,h⟩|⟨h38,h⟩:=aK h
   ·have h:=aG h;subst h;exact(iU.b h38).ret hΓ
   ·exact((iU.b h38).a [.cn [0,1,5] []]).ct hΓ bn (iS aq hm1) (ih1 (i1+1) (dn aq) h)
  ·exact((jU.b h33).a [.hl 0 [0,1] []]).ex hΓ bw (cY h)
theorem AX{aB:aP}{aV:aP}{r:Int}(h:oC aB aV=some r):Good prog 282 [D.sl (aB.map aE.c),D.sl (aV.map aE.c)] (D.int .i64 r):=by
 refine gd func282 [[none]] 36 fun hr Γ hΓ=>?_
 rw[oC]at h;refine(aU.a [.cn [0,1,5] []]).lp hΓ (BB hΓ (fun h=>?_) (by have:=(dU.sl (hr _ (aC (i:=0) rfl))).1;simpa using this) aB 0 rfl h);obtain⟨RJ,h40,h⟩:=aD h;have h:=aG h;subst h;exact(aU.g (sS h40)).ret hΓ
def nr(aB:aI)(aV:aI):Option Int:=((oC aB.facts aV.facts).bind fun y1=>(some y1))
theorem CK{aB:aI}{aV:aI}{r:Int}(h:nr aB aV=some r):Good prog 271 [D.agg (aI.c aB),D.agg (aI.c aV)] (D.int .i64 r):=by
 refine gd func271 [[none]] 10 fun hr Γ hΓ=>?_
 rw[nr]at h;obtain⟨y1,h2,h⟩:=aD h;have h:=aG h;subst h;exact(aU.g (AX h2)).ret hΓ
def kH(aB:ah)(aV:aI)(k1:Option Bool):ah->Nat->Option Bool
 | [],i1=>(k1)
 |bD::bg,i1=>((nr bD aV).bind fun RI=>(bif (RI:Int)==0 then(some true)else(kH aB aV k1 bg (i1+1))))
def uG(aB:ah)(aV:aI):Option Bool:=(kH aB aV (some false) aB 0)
def Kl(aB:ah)(aV:aI)(cT:Int):St:=⟨[(3,D.ptr 0 0),(7,D.sl (aB.map aI.c)),(8,D.int .i64 ((aB.map aI.c).length:Int)),(9,D.int .i64 cT)],[Ob.box (aI.c aV)]⟩
theorem Ii(hΓ:Γ.nt=18){aB:ah}{aV:aI}{r:Bool}{k1:Option Bool}(cY:k1=some r->Ax Γ N f238 (.q [[none]] (D.bool r)) [1,1] ⟨[],[]⟩)(hm1:aB.length<=maxLen):∀(rest:ah) (i1:Nat),aB.drop i1=rest->kH aB aV k1 rest i1=some r->Ar Γ N f238 (.q [[none]] (D.bool r)) [1,0,1,0] (rest.length+1) (Kl aB aV (i1:Int)):=by
 intro rest
 induction rest with
 |nil=>
  intro i1 aq h;rw[kH]at h;refine aM fun N1 bw bn=>?_
  exact((aU.ge aI.c aq).a [.hl 0 [] []]).ex hΓ bw (cY h)
 |cons bD bg ih1=>
  intro i1 aq h;rw[kH]at h;refine aM fun N1 bw bn=>?_
  obtain⟨RI,h22,h⟩:=aD h;have dH:=(((aU.lt aI.c aq).l (av aI.c 2 (dc aq) rfl)).g (CK h22))
  obtain⟨h23,h⟩|⟨h23,h⟩:=aK h
  ·have h:=aG h;subst h;exact(dH.b h23).ret hΓ
  ·exact((dH.b h23).a [.cn [3,7,8,9] [0]]).ct hΓ bn (iS aq hm1) (ih1 (i1+1) (dn aq) h)
theorem GU{aB:ah}{aV:aI}{r:Bool}(h:uG aB aV=some r):Good prog 238 [D.sl (aB.map aI.c),D.agg (aI.c aV)] (D.bool r):=by
 refine gd func238 [[none]] 18 fun hr Γ hΓ=>?_
 rw[uG]at h;refine(aU.a [.cn [3,7,8,9] [0]]).lp hΓ (Ii hΓ (fun h=>?_) (by have:=(dU.sl (hr _ (aC (i:=0) rfl))).1;simpa using this) aB 0 rfl h);have h:=aG h;subst h;exact aU.ret hΓ
def jo(aB:aF)(cW:aE)(y3:aF×Unit)(mX:Int)(i1:Nat)(bD:Node)(x313:Node)(k2:Int->Int->Option aF):ah->Nat->Int->Int->Option aF
 | [],i2,Cf,Cg=>(k2 Cf Cg)
 |lM::wR,i2,Cf,Cg=>((mC aB.nodes bD.parent).bind fun x359=>((uG x359.tokens lM).bind fun aB5=>(bif aB5 then(jo aB cW y3 mX i1 bD x313 k2 wR (i2+1) (IntKind.i64.wrap (Cf+1)) Cg)else(jo aB cW y3 mX i1 bD x313 k2 wR (i2+1) Cf (IntKind.i64.wrap (Cg+1))))))
def fG(aB:aF)(cW:aE)(y3:aF×Unit)(k1:Int->Option aF):az->Nat->Int->Option aF
 | [],i1,mX=>(k1 mX)
 |bD::bg,i1,mX=>(bif ((i1:Int):Int)==0 then(fG aB cW y3 k1 bg (i1+1) mX)else((mC y3.1.nodes bD.parent).bind fun x313=>(bif decide (x313.tokens.length<=maxLen)then(jo aB cW y3 mX i1 bD x313 (fun(Sg:Int) (KO:Int)=>(bif decide ((bD.cP:Int)<0)then(fG aB cW y3 k1 bg (i1+1) (IntKind.i64.wrap (mX+KO)))else((mC y3.1.ay bD.cP).bind fun x365=>((jF x365.shape cW ([])).bind fun a0K=>(bif a0K.2 then(fG aB cW y3 k1 bg (i1+1) (IntKind.i64.wrap ((IntKind.i64.wrap (mX+(IntKind.i64.wrap (KO*((x365.facts.map aE.c).length:Int)))))+Sg)))else(fG aB cW y3 k1 bg (i1+1) (IntKind.i64.wrap (mX+(IntKind.i64.wrap (KO*((x365.facts.map aE.c).length:Int))))))))))) x313.tokens 0 0 0)else none)))
def vq(aB:aF)(aV:aP)(cW:aE):Option aF:=((kF aB).bind fun y1=>((jB y1 aV).bind fun y3=>(bif decide (y3.1.nodes.length<=maxLen)then(fG aB cW y3 (fun(wO:Int)=>(some (⟨y3.1.rules,y3.1.ends,y3.1.ay,y3.1.nodes,y3.1.facts,wO⟩:aF))) y3.1.nodes 0 y3.1.cL)else none)))
def MY(aB:aF)(cW:aE)(y3:aF×Unit)(mX:Int)(cT:Int):St:=⟨[(3,D.ptr 0 0),(5,D.ptr 1 0),(6,D.ptr 2 0),(7,D.ptr 3 0),(22,D.acc 4),(23,D.int .i64 ((y3.1.nodes.map Node.c).length:Int)),(24,D.int .i64 cT)],[Ob.box (aF.c aB),Ob.box (aE.c cW),Ob.box [D.nil,D.nil,D.nil,D.nil,D.nil,D.int .i64 0],Ob.box [D.acc 5,D.acc 6,D.acc 7,D.acc 4,D.acc 8,D.int .i64 mX],Ob.row .uq 118 8 (y3.1.nodes.map Node.c),Ob.row .uq 105 4 (y3.1.rules.map aO.c),Ob.row .uq 3 1 (y3.1.ends.map di),Ob.row .uq 111 3 (y3.1.ay.map aQ.c),Ob.row .uq 53 2 (y3.1.facts.map aE.c)]⟩
def MZ(aB:aF)(cW:aE)(y3:aF×Unit)(mX:Int)(i1:Nat)(bD:Node)(x313:Node)(Cf:Int)(Cg:Int)(cT:Int):St:=⟨[(3,D.ptr 0 0),(5,D.ptr 1 0),(6,D.ptr 2 0),(7,D.ptr 3 0),(9,D.ptr 4 0),(10,D.int .i64 Cf),(11,D.int .i64 Cg),(22,D.acc 5),(23,D.int .i64 ((y3.1.nodes.map Node.c).length:Int)),(24,D.int .i64 (i1:Int)),(37,D.sl (x313.tokens.map aI.c)),(38,D.int .i64 ((x313.tokens.map aI.c).length:Int)),(39,D.int .i64 cT)],[Ob.box (aF.c aB),Ob.box (aE.c cW),Ob.box [D.nil,D.nil,D.nil,D.nil,D.nil,D.int .i64 0],Ob.box [D.acc 6,D.acc 7,D.acc 8,D.acc 5,D.acc 9,D.int .i64 mX],Ob.box [D.int .i64 bD.parent,D.int .i64 bD.cond.kind,D.str bD.cond.pat.rel,D.sl (bD.cond.pat.args.map tx),D.str bD.cond.left,D.str bD.cond.right,D.int .i64 bD.cP,D.sl (bD.tokens.map aI.c)],Ob.row .uq 118 8 (y3.1.nodes.map Node.c),Ob.row .uq 105 4 (y3.1.rules.map aO.c),Ob.row .uq 3 1 (y3.1.ends.map di),Ob.row .uq 111 3 (y3.1.ay.map aQ.c),Ob.row .uq 53 2 (y3.1.facts.map aE.c)]⟩
theorem Ki(hΓ:Γ.nt=95){aB:aF}{cW:aE}{y3:aF×Unit}{mX:Int}{i1:Nat}{bD:Node}{x313:Node}{r:aF}{k2:Int->Int->Option aF}(CZ:∀(Sg:Int) (KO:Int),k2 Sg KO=some r->Ax Γ N f169 (.q [[some (105,4),some (3,1),some (111,3),some (118,8),some (53,2),none]] (D.agg [D.fr 105 4 (r.rules.map aO.c),D.fr 3 1 (r.ends.map di),D.fr 111 3 (r.ay.map aQ.c),D.fr 118 8 (r.nodes.map Node.c),D.fr 53 2 (r.facts.map aE.c),D.int .i64 r.cL])) [1,1,1,0,1,0,0,1,1,0,0,1,1,1,1] ⟨[(3,D.ptr 0 0),(5,D.ptr 1 0),(6,D.ptr 2 0),(7,D.ptr 3 0),(9,D.ptr 4 0),(10,D.int .i64 Sg),(11,D.int .i64 KO),(22,D.acc 5),(23,D.int .i64 ((y3.1.nodes.map Node.c).length:Int)),(24,D.int .i64 (i1:Int))],[Ob.box (aF.c aB),Ob.box (aE.c cW),Ob.box [D.nil,D.nil,D.nil,D.nil,D.nil,D.int .i64 0],Ob.box [D.acc 6,D.acc 7,D.acc 8,D.acc 5,D.acc 9,D.int .i64 mX],Ob.box [D.int .i64 bD.parent,D.int .i64 bD.cond.kind,D.str bD.cond.pat.rel,D.sl (bD.cond.pat.args.map tx),D.str bD.cond.left,D.str bD.cond.right,D.int .i64 bD.cP,D.sl (bD.tokens.map aI.c)],Ob.row .uq 118 8 (y3.1.nodes.map Node.c),Ob.row .uq 105 4 (y3.1.rules.map aO.c),Ob.row .uq 3 1 (y3.1.ends.map di),Ob.row .uq 111 3 (y3.1.ay.map aQ.c),Ob.row .uq 53 2 (y3.1.facts.map aE.c)]⟩)(hm2:x313.tokens.length<=maxLen):∀(rest:ah) (i2:Nat) (Cf:Int) (Cg:Int),x313.tokens.drop i2=rest->jo aB cW y3 mX i1 bD x313 k2 rest i2 Cf Cg=some r->Ar Γ N f169 (.q [[some (105,4),some (3,1),some (111,3),some (118,8),some (53,2),none]] (D.agg [D.fr 105 4 (r.rules.map aO.c),D.fr 3 1 (r.ends.map di),D.fr 111 3 (r.ay.map aQ.c),D.fr 118 8 (r.nodes.map Node.c),D.fr 53 2 (r.facts.map aE.c),D.int .i64 r.cL])) [1,1,1,0,1,0,0,1,1,0,0,1,1,1,0,1,0] (rest.length+1) (MZ aB cW y3 mX i1 bD x313 Cf Cg (i2:Int)):=by
 intro rest
 induction rest with
 |nil=>
  intro i2 Cf Cg hd2 h;rw[jo]at h;refine aM fun N2 xV ud=>?_
  exact((aU.ge aI.c hd2).a [.hl 5 [3,5,6,7,9,10,11,22,23,24] [0,1,2,3,4,5,6,7,8,9]]).ex hΓ xV (CZ Cf Cg h)
 |cons lM wR ih2=>
  intro i2 Cf Cg hd2 h;rw[jo]at h;refine aM fun N2 xV ud=>?_
  obtain⟨x359,h360,h⟩:=aD h;obtain⟨aB5,h362,h⟩:=aD h;have Hy:=(((((aU.lt aI.c hd2).l (av aI.c 2 (dc hd2) rfl)).a [.n 8]).l (dX Node.c 8 h360 rfl)).g (GU h362))
  obtain⟨h363,h⟩|⟨h363,h⟩:=aK h
  ·exact((Hy.b h363).a [.cn [3,5,6,7,9,10,11,22,23,24,37,38,39] [0,1,2,3,4,5,6,7,8,9]]).ct hΓ ud (iS hd2 hm2) (ih2 (i2+1) (IntKind.i64.wrap (Cf+1)) Cg (dn hd2) h)
  ·exact((Hy.b h363).a [.cn [3,5,6,7,9,10,11,22,23,24,37,38,39] [0,1,2,3,4,5,6,7,8,9]]).ct hΓ ud (iS hd2 hm2) (ih2 (i2+1) Cf (IntKind.i64.wrap (Cg+1)) (dn hd2) h)
theorem Kh(hΓ:Γ.nt=95){aB:aF}{cW:aE}{y3:aF×Unit}{r:aF}{k1:Int->Option aF}(cY:∀(wO:Int),k1 wO=some r->Ax Γ N f169 (.q [[some (105,4),some (3,1),some (111,3),some (118,8),some (53,2),none]] (D.agg [D.fr 105 4 (r.rules.map aO.c),D.fr 3 1 (r.ends.map di),D.fr 111 3 (r.ay.map aQ.c),D.fr 118 8 (r.nodes.map Node.c),D.fr 53 2 (r.facts.map aE.c),D.int .i64 r.cL])) [1,1,1,1] ⟨[(6,D.ptr 0 0),(7,D.ptr 1 0)],[Ob.box [D.nil,D.nil,D.nil,D.nil,D.nil,D.int .i64 0],Ob.box [D.acc 2,D.acc 3,D.acc 4,D.acc 5,D.acc 6,D.int .i64 wO],Ob.row .uq 105 4 (y3.1.rules.map aO.c),Ob.row .uq 3 1 (y3.1.ends.map di),Ob.row .uq 111 3 (y3.1.ay.map aQ.c),Ob.row .uq 118 8 (y3.1.nodes.map Node.c),Ob.row .uq 53 2 (y3.1.facts.map aE.c)]⟩)(hm1:y3.1.nodes.length<=maxLen):∀(rest:az) (i1:Nat) (mX:Int),y3.1.nodes.drop i1=rest->fG aB cW y3 k1 rest i1 mX=some r->Ar Γ N f169 (.q [[some (105,4),some (3,1),some (111,3),some (118,8),some (53,2),none]] (D.agg [D.fr 105 4 (r.rules.map aO.c),D.fr 3 1 (r.ends.map di),D.fr 111 3 (r.ay.map aQ.c),D.fr 118 8 (r.nodes.map Node.c),D.fr 53 2 (r.facts.map aE.c),D.int .i64 r.cL])) [1,1,1,0,1,0] (rest.length+1) (MY aB cW y3 mX (i1:Int)):=by
 intro rest
 induction rest with
 |nil=>
  intro i1 mX aq h;rw[fG]at h;refine aM fun N1 bw bn=>?_
  exact((aU.ge Node.c aq).a [.hl 0 [6,7] [2,3,5,6,7,4,8]]).ex hΓ bw (cY mX h)
 |cons bD bg ih1=>
  intro i1 mX aq h;rw[fG]at h;refine aM fun N1 bw bn=>?_
  have Qw:=(((aU.lt Node.c aq).i (pG Node.c 8 (dc aq))).o 8 8 .uq (dB Node.c (dc aq)))
  obtain⟨h312,h⟩|⟨h312,h⟩:=aK h
  ·exact((Qw.b h312).a [.cn [3,5,6,7,22,23,24] [0,1,2,3,4,5,6,7,8]]).ct hΓ bn (iS aq hm1) (ih1 (i1+1) mX (dn aq) h)
  ·obtain⟨x313,h314,h⟩:=aD h;obtain⟨h370,h⟩:=bV h;refine((((Qw.b h312).i (xz Node.c 8 h314)).o 8 8 .uq (dB Node.c (tf h314))).a [.cn [3,5,6,7,9,10,11,22,23,24,37,38,39] [0,1,2,3,9,4,5,6,7,8]]).lp hΓ (Ki hΓ (fun Sg KO h=>?_) (bt h370) x313.tokens 0 0 0 rfl h);obtain⟨h364,h⟩|⟨h364,h⟩:=aK h
   ·exact((aU.b h364).a [.cn [3,5,6,7,22,23,24] [0,1,2,3,5,6,7,8,9]]).ct hΓ bn (iS aq hm1) (ih1 (i1+1) (IntKind.i64.wrap (mX+KO)) (dn aq) h)
   ·obtain⟨x365,h366,h⟩:=aD h;obtain⟨a0K,h368,h⟩:=aD h;have Qx:=(((((aU.b h364).i (xz aQ.c 3 h366)).o 3 3 .uq (dB aQ.c (tf h366))).a [.d (D.iF [D.fr 152 2 (a0K.1.map aR.c),D.bool a0K.2])]).w (show Good prog 239 [D.agg (aE.c x365.shape),D.agg (aE.c cW),D.sl ([])] (D.iF [D.fr 152 2 (a0K.1.map aR.c),D.bool a0K.2])from by first| (simpa only[bS,bH,bX,dl,dR]using qS h368)|exact qS h368))
    obtain⟨h369,h⟩|⟨h369,h⟩:=aK h
    ·exact((Qx.b h369).a [.cn [3,5,6,7,22,23,24] [0,1,2,3,5,6,7,8,9]]).ct hΓ bn (iS aq hm1) (ih1 (i1+1) (IntKind.i64.wrap ((IntKind.i64.wrap (mX+(IntKind.i64.wrap (KO*((x365.facts.map aE.c).length:Int)))))+Sg)) (dn aq) h)
    ·exact((Qx.b h369).a [.cn [3,5,6,7,22,23,24] [0,1,2,3,5,6,7,8,9]]).ct hΓ bn (iS aq hm1) (ih1 (i1+1) (IntKind.i64.wrap (mX+(IntKind.i64.wrap (KO*((x365.facts.map aE.c).length:Int))))) (dn aq) h)
theorem Ie{aB:aF}{aV:aP}{cW:aE}{r:aF}(h:vq aB aV cW=some r):Good prog 169 [D.agg (aF.c aB),D.sl (aV.map aE.c),D.agg (aE.c cW)] (D.agg [D.fr 105 4 (r.rules.map aO.c),D.fr 3 1 (r.ends.map di),D.fr 111 3 (r.ay.map aQ.c),D.fr 118 8 (r.nodes.map Node.c),D.fr 53 2 (r.facts.map aE.c),D.int .i64 r.cL]):=by
 refine gd func169 [[some (105,4),some (3,1),some (111,3),some (118,8),some (53,2),none]] 95 fun hr Γ hΓ=>?_
 rw[vq]at h;obtain⟨y1,h2,h⟩:=aD h;obtain⟨y3,h4,h⟩:=aD h;obtain⟨h371,h⟩:=bV h;refine(((aU.g (sV h2)).hp [[some (105,4),some (3,1),some (111,3),some (118,8),some (53,2),none],[none]] (vZ h4)).a [.cn [3,5,6,7,22,23,24] [0,1,2,8,12,9,10,11,13]]).lp hΓ (Kh hΓ (fun wO h=>?_) (bt h371) y3.1.nodes 0 y3.1.cL rfl h);cases h;exact aU.ret hΓ
def EL(aB:aF)(aV:aE):Option (aF×Bool):=((vm aB.facts aV).bind fun y1=>(bif !(y1.2)then((kF aB).bind fun y4=>(some (y4,false)))else((vq aB y1.1 aV).bind fun y6=>(some (y6,true)))))
theorem PN{aB:aF}{aV:aE}{r:aF×Bool}(h:EL aB aV=some r):Good prog 99 [D.agg (aF.c aB),D.agg (aE.c aV)] (D.iF [D.agg [D.fr 105 4 (r.1.rules.map aO.c),D.fr 3 1 (r.1.ends.map di),D.fr 111 3 (r.1.ay.map aQ.c),D.fr 118 8 (r.1.nodes.map Node.c),D.fr 53 2 (r.1.facts.map aE.c),D.int .i64 r.1.cL],D.bool r.2]):=by
 refine gd func99 [[some (105,4),some (3,1),some (111,3),some (118,8),some (53,2),none],[none]] 23 fun hr Γ hΓ=>?_
 rw[EL]at h;obtain⟨y1,h2,h⟩:=aD h;obtain⟨h3,h⟩|⟨h3,h⟩:=aK h
 ·obtain⟨y4,h5,h⟩:=aD h;cases h;exact(((aU.g (Aj h2)).b h3).g (sV h5)).ret hΓ
 ·obtain⟨y6,h7,h⟩:=aD h;cases h;exact(((aU.g (Aj h2)).b h3).g (Ie h7)).ret hΓ
def jW(aB:aF)(aV:aE):Option (aF×Bool):=((sP aB).bind fun y1=>(bif !(y1)then((kF aB).bind fun y4=>(some (y4,false)))else((EL aB aV).bind fun y6=>(some (y6.1,y6.2)))))
theorem xL{aB:aF}{aV:aE}{r:aF×Bool}(h:jW aB aV=some r):Good prog 45 [D.agg (aF.c aB),D.agg (aE.c aV)] (D.iF [D.agg [D.fr 105 4 (r.1.rules.map aO.c),D.fr 3 1 (r.1.ends.map di),D.fr 111 3 (r.1.ay.map aQ.c),D.fr 118 8 (r.1.nodes.map Node.c),D.fr 53 2 (r.1.facts.map aE.c),D.int .i64 r.1.cL],D.bool r.2]):=by
 refine gd func45 [[some (105,4),some (3,1),some (111,3),some (118,8),some (53,2),none],[none]] 16 fun hr Γ hΓ=>?_
 rw[jW]at h;obtain⟨y1,h2,h⟩:=aD h;obtain⟨h3,h⟩|⟨h3,h⟩:=aK h
 ·obtain⟨y4,h5,h⟩:=aD h;cases h;exact(((aU.g (yz h2)).b h3).g (sV h5)).ret hΓ
 ·obtain⟨y6,h7,h⟩:=aD h;cases h;exact(((aU.g (yz h2)).b h3).g (PN h7)).ret hΓ
end Go.Cx
namespace Go.Cx
open Go.RowKit Go.Proofs Tryz
theorem zZ{α:Type}{a pre xs:List α}{x:α}(h:a=pre++x::xs):mC a (pre.length:Int)=some x:=by
 unfold mC;have:a[pre.length]?=some x:=by rw[h];simp
 simp[this]
theorem KH{n b:Nat}(hn:n<=1099511627776)(hb:b<=128):room n b=true:=by
 unfold room maxLen;have:n*b<=1099511627776*128:=G4 hn hb;simp;omega
theorem mW{α:Type}{w:List α}{c:α->aS}{y:aS}{b:Nat}(h:w.length<1099511627776)(hb:b<=128):room ((w.map c).length+([y]).length) b=true:=KH (by simp;omega) hb
theorem a2c{α β:Type}{w:List α}{v:List β}{c:α->aS}{d:β->aS}{b:Nat}(h:w.length+v.length<=1099511627776)(hb:b<=128):room ((w.map c).length+(v.map d).length) b=true:=KH (by simp;omega) hb
theorem VO{β:Type}{v:List β}{d:β->aS}{b:Nat}(h:v.length<=1099511627776)(hb:b<=128):room (([]:List aS).length+(v.map d).length) b=true:=KH (by simp;omega) hb
theorem wo{α:Type}{l:List α}(h:l.length<=1099511627776):decide (l.length<=maxLen)=true:=by unfold maxLen;simp;omega
theorem Fx{α β γ:Type}{c:β->aS}{b:Nat}{f:α->Option β}{g:α->β}{L:List α->Nat->List β->Option γ}{k:List β->Option γ}(hb:b<=128)(ue:∀i w,L [] i w=k w)
 (tR:∀x xs i w,L (x::xs) i w=(f x).bind fun y=>bif room ((w.map c).length+([c y]).length) b then L xs (i+1) (w++[y])else none):
 ∀(l:List α) (i:Nat) (w:List β),(∀x∈l,f x=some (g x))->w.length+l.length<=1099511627776->L l i w=k (w++l.map g):=by
 intro l
 induction l with
 |nil=>intro i w _ _;simp[ue]
 |cons x xs ih=>
  intro i w hf hl;simp only[aL]at hl;rw[tR,hf x (by simp),aA,mW (by omega) hb,aW,ih _ _ (fun y hy=>hf y (by simp[hy])) (by simp;omega)];simp
theorem Z4{α:Type}{f:α->Option Bool}{p:α->Bool}{L:List α->Nat->Option Bool}{k:Option Bool}(ue:∀i,L [] i=k)
 (tR:∀x xs i,L (x::xs) i=(f x).bind fun y=>bif !y then some false else L xs (i+1)):∀(l:List α) (i:Nat),(∀x∈l,f x=some (p x))->L l i=bif l.all p then k else some false:=by
 intro l
 induction l with
 |nil=>intro i _;simp[ue]
 |cons x xs ih=>
  intro i hf;rw[tR,hf x (by simp),aA,ih _ (fun y hy=>hf y (by simp[hy])),dG];cases p x<;>simp
theorem yC:∀(a:Bytes),Op.bytesLess a a=false
 | []=>rfl
 |x::a=>by simp[Op.bytesLess,yC a]
theorem DI:∀ {a b c:Bytes},Op.bytesLess a b=true->Op.bytesLess b c=true->Op.bytesLess a c=true
 | [],b,[],_,h2=>by cases b<;>simp[Op.bytesLess]at h2
 | [],b,_::_,_,_=>by simp[Op.bytesLess]
 |_::_,[],_,h1,_=>by simp[Op.bytesLess]at h1
 |_::_,_::_,[],_,h2=>by simp[Op.bytesLess]at h2
 |x::a,y::b,z::c,h1,h2=>by
  simp only[Op.bytesLess,oX,bI,aY,cj]at h1 h2⊢;rcases h1 with h1|⟨rfl,h1⟩
  ·rcases h2 with h2|⟨rfl,h2⟩
   ·exact .inl (UInt8.lt_trans h1 h2)
   ·exact .inl h1
  ·rcases h2 with h2|⟨rfl,h2⟩
   ·exact .inl h2
   ·exact .inr ⟨rfl,DI h1 h2⟩
theorem KU:∀ {a b:Bytes},Op.bytesLess a b=false->Op.bytesLess b a=false->a=b
 | [],[],_,_=>rfl
 | [],_::_,h,_=>by simp[Op.bytesLess]at h
 |_::_,[],_,h=>by simp[Op.bytesLess]at h
 |x::a,y::b,h1,h2=>by
  simp only[Op.bytesLess,Bool.or_eq_false_iff,o9,F5,dF,ne_eq]at h1 h2;have e:x=y:=by
   have h3:=h1.1;have h4:=h2.1;rw[F9]at h3 h4;exact UInt8.toNat_inj.1 (by omega)
  subst e;rw[KU (h1.2.resolve_left (by simp)) (h2.2.resolve_left (by simp))]
theorem ML{a b:Bytes}(h:Op.bytesLess a b=true):Op.bytesLess b a=false:=by
 cases hb:Op.bytesLess b a with
 |false=>rfl
 |true=>have:=DI h hb;rw[yC]at this;cases this
def SS(l:aJ):Prop:=l.Pairwise fun a b=>Op.bytesLess a b=true
theorem O1:∀ {a b:aJ},SS a->SS b->(∀x,x∈a↔x∈b)->a=b
 | [],[],_,_,_=>rfl
 | [],y::b,_,_,h=>by have:=(h y).2 (by simp);cases this
 |x::a,[],_,_,h=>by have:=(h x).1 (by simp);cases this
 |x::a,y::b,h1,h2,h=>by
  obtain⟨p1,p2⟩:=k8.1 h1;obtain⟨q1,q2⟩:=k8.1 h2;have e:x=y:=by
   refine KU ?_ ?_
   ·cases hb:Op.bytesLess x y with
    |false=>rfl
    |true=>
     rcases bM.1 ((h x).1 (by simp))with rfl|hx
     ·exact(yC x▸hb).symm
     ·have:=ML (q1 x hx);rw[hb]at this;exact this
   ·cases hb:Op.bytesLess y x with
    |false=>rfl
    |true=>
     rcases bM.1 ((h y).2 (by simp))with rfl|hx
     ·exact(yC y▸hb).symm
     ·have:=ML (p1 y hx);rw[hb]at this;exact this
  subst e;rw[O1 p2 q2 (fun z=>?_)];constructor
  ·intro hz;rcases bM.1 ((h z).1 (by simp[hz]))with rfl|RM
   ·have:=p1 z hz;rw[yC]at this;cases this
   ·exact RM
  ·intro hz;rcases bM.1 ((h z).2 (by simp[hz]))with rfl|RM
   ·have:=q1 z hz;rw[yC]at this;cases this
   ·exact RM
def Ad:aJ->Bytes->aJ
 | [],s=>[s]
 |x::xs,s=>bif Op.bytesLess x s then x::Ad xs s else bif x==s then x::xs else s::x::xs
theorem Qp:∀ {l:aJ} {s y:Bytes},y∈Ad l s↔y=s\/y∈l
 | [],s,y=>by simp[Ad]
 |x::xs,s,y=>by
  simp only[Ad];cases Op.bytesLess x s with
  |true=>simp only[aW,bM,Qp (l:=xs)];constructor<;>(rintro(h|h|h)<;>simp[h])
  |false=>
   simp only[af];cases hx:x==s with
   |true=>
    simp only[cj]at hx;subst hx;simp
   |false=>simp
theorem Yd:∀ {l:aJ} {s:Bytes},SS l->SS (Ad l s)
 | [],s,_=>by simp[Ad,SS]
 |x::xs,s,h=>by
  obtain⟨p1,p2⟩:=k8.1 h;simp only[Ad];cases hb:Op.bytesLess x s with
  |true=>
   simp only[aW];refine k8.2 ⟨fun y hy=>?_,Yd p2⟩;rcases Qp.1 hy with rfl|hy
   ·exact hb
   ·exact p1 y hy
  |false=>
   simp only[af];cases hx:x==s with
   |true=>exact h
   |false=>
    have hs:Op.bytesLess s x=true:=by
     cases hc:Op.bytesLess s x with
     |true=>rfl
     |false=>have:=KU hb hc;subst this;simp at hx
    refine k8.2 ⟨fun y hy=>?_,h⟩;rcases bM.1 hy with rfl|hy
    ·exact hs
    ·exact DI hs (p1 y hy)
theorem C2:∀(l:aJ) (s:Bytes),(Ad l s).length<=l.length+1
 | [],s=>by simp[Ad]
 |x::xs,s=>by
  have:=C2 xs s;simp only[Ad];cases Op.bytesLess x s<;>simp only[aW,af,aL]
  ·cases x==s<;>simp
  ·omega
def fK(l:aJ):aJ:=l.foldl Ad []
theorem Hj:∀(l a:aJ) (y:Bytes),y∈l.foldl Ad a↔y∈a\/y∈l
 | [],a,y=>by simp
 |x::l,a,y=>by
  rw[e9,Hj l,Qp];simp only[bM];constructor
  ·rintro((h|h)|h)<;>simp[h]
  ·rintro(h|h|h)<;>simp[h]
theorem K8:∀(l:aJ) {a:aJ},SS a->SS (l.foldl Ad a)
 | [],a,h=>h
 |x::l,a,h=>K8 l (Yd h)
theorem Hi:∀(l a:aJ),(l.foldl Ad a).length<=a.length+l.length
 | [],a=>by simp
 |x::l,a=>by
  have h1:=Hi l (Ad a x);have h2:=C2 a x;rw[e9,aL];omega
theorem wV{l:aJ}{y:Bytes}:y∈fK l↔y∈l:=by unfold fK;rw[Hj];simp
theorem R8(l:aJ):SS (fK l):=K8 l (by simp[SS])
theorem qo(l:aJ):(fK l).length<=l.length:=by have:=Hi l [];simpa[fK]using this
theorem I3{a b:aJ}(h:∀x,x∈a↔x∈b):fK a=fK b:=O1 (R8 a) (R8 b) (fun x=>by rw[wV,wV,h])
theorem Xe(a:aJ)(x:Bytes):Ad (fK a) x=fK (a++[x]):=by simp[fK]
theorem Xd(a b:aJ):b.foldl Ad (fK a)=fK (a++b):=by simp[fK]
theorem I4(a b:aJ):(fK b).foldl Ad (fK a)=fK (a++b):=by
 rw[Xd];exact I3 (fun x=>by simp[wV])
theorem nq(l:aJ)(v:Bytes):(fK l).contains v=l.contains v:=by
 rw[bp];simp[wV]
def in1(x:UInt8):Bool:=decide ((x.toNat:Int)>=97)&&decide ((x.toNat:Int)<=122)
def in2(x:UInt8):Bool:=decide ((x.toNat:Int)>=48)&&decide ((x.toNat:Int)<=57)
def ab(x:UInt8):Bool:=in1 x||in2 x
def ZX(s:Bytes):Bool:=decide ((s.length:Int)>=1)&&decide ((s.length:Int)<=8)
def jm(s:Bytes):Bool:=s.all ab&&ZX s
def a5h:Bytes->Bool
 | []=>false
 |x::_=>decide ((x.toNat:Int)>=97)
def B0(s:Bytes):Bool:=jm s&&a5h s
def lH:Bytes->Bool
 | []=>false
 |x::t=>decide ((x.toNat:Int)=63)&&jm t
def qN(s:Bytes):Bool:=jm s||lH s
theorem IC{s:Bytes}(h:jm s=true):1<=s.length/\s.length<=8:=by
 simp only[jm,ZX,aY,bI]at h;omega
theorem SK{s:Bytes}(h:B0 s=true):1<=s.length/\s.length<=8:=by
 simp only[B0,aY]at h;exact IC h.1
theorem a3P{s:Bytes}(h:lH s=true):1<=s.length/\s.length<=9:=by
 cases s with
 |nil=>cases h
 |cons x t=>simp only[lH,aY]at h;have:=IC h.2;simp;omega
theorem a07{s:Bytes}(h:qN s=true):1<=s.length/\s.length<=9:=by
 simp only[qN,oX]at h;rcases h with h|h
 ·have:=IC h;omega
 ·exact a3P h
theorem BK{s:Bytes}(h:lH s=true):jm s=false:=by
 cases s with
 |nil=>cases h
 |cons x t=>
  simp only[lH,aY,bI]at h;simp only[jm,dG,ab,in1,in2];have:(x.toNat:Int)=63:=h.1;simp[this]
theorem a6V(x:UInt8):IntKind.i64.wrap ((x.toNat:Nat):Int)=(x.toNat:Int):=gf (tU.i64.2 (by have:=x.toNat_lt;omega))
theorem Nq{n:Nat}(h:n<=1099511627776):IntKind.i64.wrap ((n:Int)+1)=((n+1:Nat):Int):=by rw[gf (tU.i64.2 (by omega))];omega
theorem a6H{n:Nat}(h:1<=n):PX n (some (D.int .i64 1)) none=some (1,n):=by
 unfold PX;have:(0:Int)<=1/\(1:Int).toNat<=n:=⟨by decide,h⟩
 simp only[bQ this];rfl
theorem NR(a b c:Int):lB a b c=some (decide (a>=b)&&decide (a<=c)):=by
 unfold lB;cases decide (a>=b)<;>rfl
theorem a88(a:Bytes)(k:Option Bool)(ha:a.length<=1048576):∀(rest pre:Bytes),a=pre++rest->∀n,rest.length<n->jJ a k n (pre.length:Int)=bif rest.all ab then k else some false:=by
 intro rest
 induction rest with
 |nil=>
  intro pre h n hn;obtain⟨m,rfl⟩:∃m,n=m+1:=⟨n-1,by simp at hn;omega⟩
  have e1:decide ((pre.length:Int)<(a.length:Int))=false:=by simp[h]
  rw[jJ,e1];rfl
 |cons x xs ih=>
  intro pre h n hn;obtain⟨m,rfl⟩:∃m,n=m+1:=⟨n-1,by simp at hn;omega⟩
  have hl:a.length=pre.length+(xs.length+1):=by rw[h];simp
  have e1:decide ((pre.length:Int)<(a.length:Int))=true:=by rw[hl];simp;omega
  have e4:IntKind.i64.wrap ((pre.length:Int)+1)=((pre++[x]).length:Int):=by rw[Nq (by omega)];simp
  have t:=ih (pre++[x]) (by simp[h]) m (by simp at hn;omega);rw[jJ,e1,aW,zZ h,aA,a6V,NR,NR,aA,aA,e4,t,dG];show(bif !in1 x then(bif !in2 x then _ else _)else _)=bif (in1 x||in2 x)&&xs.all ab then k else some false
  cases in1 x<;>cases in2 x<;>simp
theorem P8(a:Bytes)(ha:a.length<=1048576):fS a=some (jm a):=by
 unfold fS;refine(a88 a _ ha a [] rfl fuel (by unfold fuel;omega)).trans ?_;rw[NR,aA];show _=some (a.all ab&&ZX a);cases a.all ab<;>rfl
theorem a7S(a:Bytes)(k:Option Bool)(ha:a.length<=1048576):∀(rest pre:Bytes),a=pre++rest->∀n,rest.length<n->fq a k n (pre.length:Int)=bif rest.all ab then k else some false:=by
 intro rest
 induction rest with
 |nil=>
  intro pre h n hn;obtain⟨m,rfl⟩:∃m,n=m+1:=⟨n-1,by simp at hn;omega⟩
  have e1:decide ((pre.length:Int)<(a.length:Int))=false:=by simp[h]
  rw[fq,e1];rfl
 |cons x xs ih=>
  intro pre h n hn;obtain⟨m,rfl⟩:∃m,n=m+1:=⟨n-1,by simp at hn;omega⟩
  have hl:a.length=pre.length+(xs.length+1):=by rw[h];simp
  have e1:decide ((pre.length:Int)<(a.length:Int))=true:=by rw[hl];simp;omega
  have e4:IntKind.i64.wrap ((pre.length:Int)+1)=((pre++[x]).length:Int):=by rw[Nq (by omega)];simp
  have t:=ih (pre++[x]) (by simp[h]) m (by simp at hn;omega);rw[fq,e1,aW,zZ h,aA,e4,t,dG];have c1:decide ((x.toNat:Int)>=97)= !decide ((x.toNat:Int)<97):=by rw[bp];simp
  have c2:decide ((x.toNat:Int)<=122)= !decide ((x.toNat:Int)>122):=by rw[bp];simp
  have c3:decide ((x.toNat:Int)>=48)= !decide ((x.toNat:Int)<48):=by rw[bp];simp
  have c4:decide ((x.toNat:Int)<=57)= !decide ((x.toNat:Int)>57):=by rw[bp];simp
  rw[ab,in1,in2,c1,c2,c3,c4];cases decide ((x.toNat:Int)<97)<;>cases decide ((x.toNat:Int)>122)<;>cases decide ((x.toNat:Int)<48)<;>cases decide ((x.toNat:Int)>57)<;>simp
theorem Ow(a:Bytes)(ha:a.length<=1048576):fN a=some (jm a):=by
 unfold fN;rw[show fq a (some true) fuel 0=_ from a7S a _ ha a [] rfl fuel (by unfold fuel;omega)];have c1:decide ((a.length:Int)>=1)= !decide ((a.length:Int)<1):=by rw[bp];simp
 have c2:decide ((a.length:Int)<=8)= !decide ((a.length:Int)>8):=by rw[bp];simp
 rw[jm,ZX,c1,c2];cases decide ((a.length:Int)<1)<;>cases decide ((a.length:Int)>8)<;>cases a.all ab<;>rfl
theorem a2m(a:Bytes)(ha:a.length<=1048576):rV a=some (B0 a):=by
 unfold rV;rw[P8 a ha,aA,B0];cases h:jm a with
 |false=>rfl
 |true=>
  cases a with
  |nil=>simp[jm,ZX]at h
  |cons x xs=>
   rw[show mC (x::xs) 0=some x from rfl];simp only[aW,aA,a6V,NR,fL,ax,a5h];simp only[jm,dG,ab,in1,in2,aY,oX,bI]at h;rw[bp];simp only[aY,bI];omega
theorem a1q(a:Bytes)(ha:a.length<=1048576):rO a=some (B0 a):=by
 unfold rO;rw[Ow a ha,aA,B0];cases h:jm a with
 |false=>rfl
 |true=>
  cases a with
  |nil=>simp[jm,ZX]at h
  |cons x xs=>rfl
theorem VQ(a:Bytes)(ha:a.length<=1048576):iL a=some (lH a):=by
 unfold iL;cases a with
 |nil=>rfl
 |cons x t=>
  simp only[aL]at ha;rw[show mC (x::t) 0=some x from rfl,aA,a6H (by simp),aA];have e:(((x::t).take ((x::t).length)).drop 1)=t:=by simp
  simp only[e,P8 t (by omega),aA,lH,fF];cases t with
  |nil=>cases decide ((x.toNat:Int)=63)<;>rfl
  |cons y t=>
   have e2:decide ((((x::y::t).length:Int):Int)>1)=true:=by simp;omega
   rw[e2];cases decide ((x.toNat:Int)=63)<;>simp
theorem ZR(a:Bytes)(ha:a.length<=1048576):lQ a=some (lH a):=by
 unfold lQ;cases a with
 |nil=>rfl
 |cons x t=>
  simp only[aL]at ha;rw[show mC (x::t) 0=some x from rfl,aA,a6H (by simp),aA];have e:(((x::t).take ((x::t).length)).drop 1)=t:=by simp
  simp only[e,Ow t (by omega),aA,lH,fF];cases t with
  |nil=>cases decide ((x.toNat:Int)=63)<;>rfl
  |cons y t=>
   have e2:decide ((((x::y::t).length:Int):Int)>1)=true:=by simp;omega
   rw[e2];cases decide ((x.toNat:Int)=63)<;>simp
theorem a2w(a:Bytes)(ha:a.length<=1048576):j9 a=some (qN a):=by
 unfold j9 qN;rw[P8 a ha,VQ a ha];cases jm a<;>simp
theorem a1u(a:Bytes)(ha:a.length<=1048576):j8 a=some (qN a):=by
 unfold j8 qN;rw[Ow a ha,ZR a ha];cases jm a<;>simp
theorem a2y(l:aJ)(h:l.length<=1099511627776):tP l=some l:=by
 unfold tP;rw[VO h (by decide)];rfl
theorem TJ(l:aJ)(h:l.length<=1099511627776):mw l=some l:=by
 unfold mw;rw[VO h (by decide)];rfl
theorem a2v(a b:aJ):nQ a b=some (decide (a=b)):=by
 unfold nQ;exact S6 (c:=tx) (f:=fun x y=>some (x==y)) (fun k=>jv a b k) (fun _ _=>rfl) (fun _ _ _ _=>rfl) (fun x y=>by rw[ax,bp];simp)
theorem a1s(a b:aJ):pX a b=some (decide (a=b)):=by
 unfold pX;exact S6 (c:=tx) (f:=fun x y=>some (x==y)) (fun k=>mK a b k) (fun _ _=>rfl) (fun _ _ _ _=>rfl) (fun x y=>by rw[ax,bp];simp)
theorem a7f(a b:bJ):uH a b=some (decide (a=b)):=by
 unfold uH;exact S6 (c:=di) (f:=fun x y=>some (x==y)) (fun k=>n7 a b k) (fun _ _=>rfl) (fun _ _ _ _=>rfl) (fun x y=>by rw[ax,bp];simp)
theorem a2l(l:aJ)(v:Bytes):gm l v=some (l.contains v):=by
 unfold gm;have:∀(r:aJ) (i:Nat),ji l v (some false) r i=some (r.contains v):=by
  intro r
  induction r with
  |nil=>intro i;rfl
  |cons x r ih=>
   intro i;rw[ji,ih,List.contains_cons];have:(x==v)=(v==x):=by rw[bp,cj,cj];exact eq_comm
   rw[this];cases v==x<;>rfl
 exact this l 0
theorem a4a(l:aJ)(v:Bytes):lU l v=some (l.contains v):=by
 unfold lU;have:∀(r:aJ) (i:Nat),lV l v (some false) r i=some (r.contains v):=by
  intro r
  induction r with
  |nil=>intro i;rfl
  |cons x r ih=>
   intro i;rw[lV,ih,List.contains_cons];have:(x==v)=(v==x):=by rw[bp,cj,cj];exact eq_comm
   rw[this];cases v==x<;>rfl
 exact this l 0
theorem a6T(a:aJ)(s:Bytes)(k:Bool->aJ->Option aJ):∀(l:aJ) (i:Nat) (w:aJ),w.length+l.length<1099511627776->
 eU a s k l i true w=k true (w++l):=by
 intro l
 induction l with
 |nil=>intro i w _;simp[eU]
 |cons x xs ih=>
  intro i w h;simp only[aL]at h;rw[eU,bP,af,mW (by omega) (by decide),aW,ih _ _ (by simp;omega)];simp
theorem aAi(a:aJ)(s:Bytes)(k:Bool->aJ->Option aJ)(hk:∀w,w.length<1099511627776->k false w=some (w++[s]))(hk2:∀w,k true w=some w):∀(l:aJ) (i:Nat) (w:aJ),w.length+l.length+1<1099511627776->
 eU a s k l i false w=some (w++Ad l s):=by
 intro l
 induction l with
 |nil=>intro i w h;rw[eU,hk w (by omega)];rfl
 |cons x xs ih=>
  intro i w h;simp only[aL]at h;rw[eU,cQ,aW,Ad];cases Op.bytesLess x s with
  |true=>
   simp only[bP,af,aW];rw[mW (by omega) (by decide),aW,ih _ _ (by simp;omega)];simp
  |false=>
   simp only[cQ,aW,af];cases x==s with
   |true=>
    simp only[bP,af,aW];rw[mW (by omega) (by decide),aW,a6T _ _ _ _ _ _ (by simp;omega),hk2];simp
   |false=>
    simp only[cQ,aW,af];rw[mW (by omega) (by decide),aW];have e:room (((w.map tx)++[[D.str s]]).length+([[D.str x]]).length) 16=true:=KH (by simp;omega) (by decide);rw[e,aW,a6T _ _ _ _ _ _ (by simp;omega),hk2];simp
theorem XK(l:aJ)(s:Bytes)(h:l.length+1<1099511627776):lZ l s=some (Ad l s):=by
 unfold lZ;rw[aAi l s _ (fun w hw=>by simp only[cQ,aW];rw[mW hw (by decide)];rfl) (fun w=>by simp) l 0 [] (by simpa using h)];rfl
def dd:Option Bytes->aJ->aJ
 |_,[]=>[]
 |p,x::xs=>if p=some x then dd (some x) xs else x::dd (some x) xs
theorem WL:∀ {l:aJ} {p:Option Bytes} {y:Bytes},y∈dd p l->y∈l
 | [],p,y,h=>by cases h
 |x::xs,p,y,h=>by
  simp only[dd]at h;split at h
  ·exact bM.2 (.inr (WL h))
  ·rcases bM.1 h with rfl|h
   ·simp
   ·exact bM.2 (.inr (WL h))
theorem a2G:∀ {l:aJ} {p:Option Bytes} {y:Bytes},y∈l->p=some y\/y∈dd p l
 |x::xs,p,y,h=>by
  simp only[dd];rcases bM.1 h with rfl|h
  ·by_cases hp:p=some y
   ·exact .inl hp
   ·rw[bG hp];exact .inr (by simp)
  ·have:=a2G (p:=some x) h;split
   ·rename_i hp;rcases this with e|e
    ·exact .inl (hp.trans e)
    ·exact .inr e
   ·rcases this with e|e
    ·cases e;exact .inr (by simp)
    ·exact .inr (by simp[e])
theorem a5c:∀ {l:aJ} {p:Option Bytes},l.Pairwise (fun a b=>Op.bytesLess b a=false)->(∀q,p=some q->∀y∈l,Op.bytesLess y q=false)->SS (dd p l)/\∀q,p=some q->∀y∈dd p l,Op.bytesLess q y=true
 | [],p,_,_=>⟨by simp[dd,SS],by simp[dd]⟩
 |x::xs,p,h,hp=>by
  obtain⟨p1,p2⟩:=k8.1 h;obtain⟨i1,i2⟩:=a5c (l:=xs) (p:=some x) p2 (fun q hq y hy=>by cases hq;exact p1 y hy);simp only[dd];split
  ·rename_i he;exact⟨i1,fun q hq y hy=>by rw[he]at hq;cases hq;exact i2 x rfl y hy⟩
  ·rename_i he;refine⟨k8.2 ⟨fun y hy=>i2 x rfl y hy,i1⟩,fun q hq y hy=>?_⟩;have hqx:Op.bytesLess q x=true:=by
    cases hc:Op.bytesLess q x with
    |true=>rfl
    |false=>exact absurd (by rw[hq,KU hc (hp q hq x (by simp))]) he
   rcases bM.1 hy with rfl|hy
   ·exact hqx
   ·exact DI hqx (i2 x rfl y hy)
theorem a36(l:aJ):oW l=l.mergeSort (fun x y=> !Op.bytesLess y x):=by
 unfold oW
 congr 1
 funext x y
 rw[Go.Proofs.bytesLess_eq];rw[bp];simp[List.not_lt]
theorem Tq(l:aJ):(oW l).Pairwise (fun a b=>Op.bytesLess b a=false):=by
 rw[a36];have:=List.pairwise_mergeSort (le:=fun x y=> !Op.bytesLess y x) (fun a b c h1 h2=>by
  simp only[qp]at h1 h2⊢;cases hc:Op.bytesLess c a with
  |false=>rfl
  |true=>
   cases hb:Op.bytesLess b a with
   |true=>rw[h1]at hb;cases hb
   |false=>
    cases YG:Op.bytesLess a b with
    |true=>have:=DI hc YG;rw[h2]at this;cases this
    |false=>have:=KU hb YG;subst this;rw[h2]at hc;cases hc) (fun a b=>by
  cases hc:Op.bytesLess b a with
  |false=>simp
  |true=>simp[ML hc]) l
 exact this.imp (fun h=>by simpa using h)
theorem a4I(l:aJ):dd none (oW l)=fK l:=by
 refine O1 (a5c (Tq l) (by simp)).1 (R8 l) (fun x=>?_);rw[wV];have hm:x∈oW l↔x∈l:=(C8 l).mem_iff;constructor
 ·intro h;exact hm.1 (WL h)
 ·intro h;rcases a2G (p:=none) (hm.2 h)with h|h
  ·cases h
  ·exact h
theorem a1t(a:aJ)(k:aJ->Option aJ)(ha:a.length<=1099511627775):∀(rest pre:aJ) (w:aJ),oW ([]++a)=pre++rest->w.length+rest.length<=1099511627775->
 dw a k rest pre.length w=k (w++dd pre.getLast? rest):=by
 have hlen:(oW ([]++a)).length=a.length:=(C8 _).length_eq;intro rest
 induction rest with
 |nil=>intro pre w _ _;simp[dw,dd]
 |cons x xs ih=>
  intro pre w h hw;simp only[aL]at hw;have hl:pre.length+(xs.length+1)=a.length:=by rw[<-hlen,h];simp
  have t:=fun w'=>ih (pre++[x]) w' (by rw[h];simp)
  simp only[aX,aL,bK,nj]at t;rw[dw];rcases yt pre with rfl|⟨p,z,hpz⟩
  ·have e0:(((([]:aJ).length:Int):Int)==0)=true:=rfl;rw[e0,aW,mW (by omega) (by decide),aW,t _ (by simp;omega)];simp[dd]
  ·rw[yq]at hpz;subst hpz;have e0:((((p++[z]).length:Int):Int)==0)=false:=by simp;omega
   have e1:IntKind.i64.wrap (((p++[z]).length:Int)-1)=(p.length:Int):=by
    rw[gf (tU.i64.2 (by simp at hl⊢;omega))];simp
   have e2:mC (oW ([]++a)) (p.length:Int)=some z:=zZ (xs:=x::xs) (by rw[h];simp);rw[e0,af,e1,e2,aA];simp only[dd,nj];by_cases hz:z=x
   ·subst hz;have e3:((z:Bytes)==z)=true:=by simp
    rw[e3,bP,af,t _ (by omega),bQ rfl]
   ·have e3:((z:Bytes)==x)=false:=by simpa using hz
    rw[e3,cQ,aW,mW (by omega) (by decide),aW,t _ (by simp;omega),bG (by simpa using hz)];simp
theorem TI(l:aJ)(h:l.length<1099511627775):kE l=some (fK l):=by
 have hlen:(oW ([]++l)).length=l.length:=(C8 _).length_eq;unfold kE;have e1:decide ((([]:aJ)++l).length<4611686018427387904)=true:=by simp;omega
 rw[VO (by omega) (by decide),aW,e1,aW,wo (by rw[hlen];omega),aW];have:=a1t l (fun q=>some q) (by omega) (oW ([]++l)) [] [] rfl (by rw[hlen];simp;omega);rw[show([]:aJ).length=0 from rfl]at this;rw[this,<-a4I];simp
end Go.Cx
namespace Go.Cx
open Go.RowKit Go.Proofs Tryz
theorem aE.Tf{p:aE}{n:Nat}(h:p.wt<=n):p.rel.length<=n:=by unfold aE.wt tw at h;omega
theorem aE.dV{p:aE}{n:Nat}(h:p.wt<=n):p.args.length<=n:=by unfold aE.wt at h;have:=gh tw p.args;omega
theorem aE.vI{p:aE}{n:Nat}(h:p.wt<=n){x:Bytes}(hx:x∈p.args):x.length<=n:=by unfold aE.wt at h;have:=iV (w:=tw) hx;have e:tw x=x.length:=rfl;omega
theorem aN.fJ{c:aN}{n:Nat}(h:c.wt<=n):c.pat.wt<=n:=by simp only[aN.wt,aE.wt]at h⊢;omega
theorem aN.Ca{c:aN}{n:Nat}(h:c.wt<=n):c.left.length<=n:=by simp only[aN.wt,tw]at h;omega
theorem aN.AF{c:aN}{n:Nat}(h:c.wt<=n):c.right.length<=n:=by simp only[aN.wt,tw]at h;omega
theorem Action.fJ{c:Action}{n:Nat}(h:c.wt<=n):c.pat.wt<=n:=by simp only[Action.wt,aE.wt]at h⊢;omega
theorem aO.YS{r:aO}{n:Nat}(h:r.wt<=n):r.name.length<=n:=by simp only[aO.wt,tw]at h;omega
theorem aO.u9{r:aO}{n:Nat}(h:r.wt<=n):jy aN.wt r.conds<=n:=by simp only[aO.wt]at h;omega
theorem aO.MJ{r:aO}{n:Nat}(h:r.wt<=n):jy Action.wt r.cu<=n:=by simp only[aO.wt]at h;omega
theorem aO.sA{r:aO}{n:Nat}(h:r.wt<=n){c:aN}(hc:c∈r.conds):c.wt<=n:=by have:=aO.u9 h;have:=iV (w:=aN.wt) hc;omega
theorem aO.Sr{r:aO}{n:Nat}(h:r.wt<=n){c:Action}(hc:c∈r.cu):c.wt<=n:=by have:=aO.MJ h;have:=iV (w:=Action.wt) hc;omega
theorem Od(f:aE)(h:f.args.length<=1099511627776):ew f=some f:=by
 unfold ew;rw[a2y _ h];rfl
theorem OX(f:aE)(h:f.args.length<=1099511627776):eE f=some f:=by
 unfold eE;rw[TJ _ h];rfl
theorem a2u(a b:aE):rX a b=some (decide (a=b)):=by
 obtain⟨a0,a1⟩:=a;obtain⟨b0,b1⟩:=b;unfold rX;simp only[a2v,aA,fF];by_cases h0:a0=b0<;>by_cases h1:a1=b1<;>simp[h0,h1]
theorem a1r(a b:aE):oZ a b=some (decide (a=b)):=by
 obtain⟨a0,a1⟩:=a;obtain⟨b0,b1⟩:=b;unfold oZ;simp only[a1s,aA,fF];by_cases h0:a0=b0<;>by_cases h1:a1=b1<;>simp[h0,h1]
theorem XL(a b:aE):j0 a b=some (decide (a=b)):=by
 obtain⟨a0,a1⟩:=a;obtain⟨b0,b1⟩:=b;unfold j0;simp only[a2v,aA,fF];by_cases h0:a0=b0<;>by_cases h1:a1=b1<;>simp[h0,h1]
theorem Qb(a b:aE):fO a b=some (decide (a=b)):=by
 obtain⟨a0,a1⟩:=a;obtain⟨b0,b1⟩:=b;unfold fO;simp only[a1s,aA,fF];by_cases h0:a0=b0<;>by_cases h1:a1=b1<;>simp[h0,h1]
theorem Tm(a b:aP):nP a b=some (decide (a=b)):=by
 unfold nP;exact S6 (c:=aE.c) (f:=rX) (fun k=>mR a b k) (fun _ _=>rfl) (fun _ _ _ _=>rfl) a2u
theorem Pm(a b:aP):jG a b=some (decide (a=b)):=by
 unfold jG;exact S6 (c:=aE.c) (f:=oZ) (fun k=>mF a b k) (fun _ _=>rfl) (fun _ _ _ _=>rfl) a1r
def yo(p:aE):Bool:=p.args.all qN&&(B0 p.rel&&decide ((p.args.length:Int)<=3))
def tV(f:aE):Bool:=f.args.all jm&&(B0 f.rel&&decide ((f.args.length:Int)<=3))
theorem a2k(f:aE)(h:f.wt<=1048576):pM f=some (tV f):=by
 unfold pM;rw[Z4 (f:=fS) (L:=py f _) (fun _=>rfl) (fun _ _ _=>rfl) f.args 0 (fun x hx=>P8 x (aE.vI h hx)),a2m _ (aE.Tf h),aA,aZ,tV];cases f.args.all jm<;>cases B0 f.rel<;>rfl
theorem a1p(f:aE)(h:f.wt<=1048576):pL f=some (tV f):=by
 unfold pL;rw[Z4 (f:=fN) (L:=pU f _) (fun _=>rfl) (fun _ _ _=>rfl) f.args 0 (fun x hx=>Ow x (aE.vI h hx)),a1q _ (aE.Tf h),aA,aZ,tV];have c:decide ((f.args.length:Int)<=3)= !decide ((f.args.length:Int)>3):=by rw[bp];simp
 rw[c];cases f.args.all jm<;>cases B0 f.rel<;>cases decide ((f.args.length:Int)>3)<;>rfl
theorem a8I(f:aE)(h:f.wt<=1048576):jK f=some (yo f):=by
 unfold jK;rw[Z4 (f:=j9) (L:=mP f _) (fun _=>rfl) (fun _ _ _=>rfl) f.args 0 (fun x hx=>a2w x (aE.vI h hx)),a2m _ (aE.Tf h),aA,aZ,yo];cases f.args.all qN<;>cases B0 f.rel<;>rfl
theorem a7c(f:aE)(h:f.wt<=1048576):jD f=some (yo f):=by
 unfold jD;rw[Z4 (f:=j8) (L:=mE f _) (fun _=>rfl) (fun _ _ _=>rfl) f.args 0 (fun x hx=>a1u x (aE.vI h hx)),a1q _ (aE.Tf h),aA,aZ,yo];have c:decide ((f.args.length:Int)<=3)= !decide ((f.args.length:Int)>3):=by rw[bp];simp
 rw[c];cases f.args.all qN<;>cases B0 f.rel<;>cases decide ((f.args.length:Int)>3)<;>rfl
def jT(l:aJ):aJ:=l.filter lH
theorem yL(l:aJ):(jT l).length<=l.length:=qR _ _
theorem Sb(a b:aJ):jT (a++b)=jT a++jT b:=List.filter_append _ _
theorem Nk(p:aE)(h:p.wt<=1048576):ni p=some (fK (jT p.args)):=by
 unfold ni;have:∀(r:aJ) (i:Nat) (w:aJ),(∀x∈r,x.length<=1048576)->w.length+r.length<=2097152->l9 p (fun q=>some q) r i w=some ((jT r).foldl Ad w):=by
  intro r
  induction r with
  |nil=>intro i w _ _;rfl
  |cons x r ih=>
   intro i w hr hw;simp only[aL]at hw;have hl:=C2 w x;rw[l9,VQ x (hr x (by simp)),aA,XK w x (by omega),aA,ih _ _ (fun y hy=>hr y (by simp[hy])) (by omega),ih _ _ (fun y hy=>hr y (by simp[hy])) (by omega)];cases hv:lH x<;>simp[jT,hv]
 exact this p.args 0 [] (fun x hx=>aE.vI h hx) (by have:=aE.dV h;simp;omega)
theorem a1w(l:aJ)(hl:l.length<=2097152)(h:∀x∈l,x.length<=1048576):n8 l=some (jT l):=by
 unfold n8;have:∀(r:aJ) (i:Nat) (w:aJ),(∀x∈r,x.length<=1048576)->w.length+r.length<=2097152->ff l (fun q=>some q) r i w=some (w++jT r):=by
  intro r
  induction r with
  |nil=>intro i w _ _;simp[ff,jT]
  |cons x r ih=>
   intro i w hr hw;simp only[aL]at hw;rw[ff,ZR x (hr x (by simp)),aA,mW (by omega) (by decide),ih _ _ (fun y hy=>hr y (by simp[hy])) (by simp;omega),ih _ _ (fun y hy=>hr y (by simp[hy])) (by omega)];cases hv:lH x<;>simp[jT,hv]
 exact this l 0 [] h (by simpa using hl)
def qu(c:aN):aJ:=jT (c.pat.args++[c.left,c.right])
theorem zO{c:aN}{n:Nat}(h:c.wt<=n):(qu c).length<=n+2:=by
 have h1:=yL (c.pat.args++[c.left,c.right]);have h2:=aE.dV (aN.fJ h);simp only[aX,aL,bK]at h1;unfold qu;omega
theorem XH(c:aN)(h:c.wt<=1048576):mU c=some (fK (qu c)):=by
 unfold mU;have h1:=aE.dV (aN.fJ h);have h2:=qo (jT c.pat.args);have h3:=yL c.pat.args;have h4:=C2 (fK (jT c.pat.args)) c.left;rw[Nk _ (aN.fJ h),aA,VQ _ (aN.Ca h),aA,VQ _ (aN.AF h)];simp only[aA];rw[XK _ _ (by omega),XK _ _ (by omega),aA,XK _ _ (by omega)];simp only[aA,qu,Sb,Xe];cases hl:lH c.left<;>cases hr:lH c.right<;>simp[jT,hl,hr]
theorem a1v(c:aN)(h:c.wt<=1048576):si c=some (c.pat.args++[c.left,c.right]):=by
 unfold si;have h1:=aE.dV (aN.fJ h);rw[TJ _ (by omega),aA];rw[KH (by simp;omega) (by decide)];rfl
theorem Wn(c:aN)(h:c.wt<=1048576):oY c=some (fK (qu c)):=by
 unfold oY;have h1:=aE.dV (aN.fJ h);have h5:=zO h;rw[a1v c h,aA,a1w _ (by simp;omega) (fun x hx=>by
  simp only[ar,bM,sI,G6]at hx;rcases hx with hx|rfl|rfl
  ·exact aE.vI (aN.fJ h) hx
  ·exact aN.Ca h
  ·exact aN.AF h),aA]
 rw[show jT (c.pat.args++[c.left,c.right])=qu c from rfl,TI _ (by omega)];rfl
def I9(p:aE):Bool:=p.rel==[]&&decide ((p.args.length:Int)=0)
def sK(c:aN):Bool:=bif decide (c.kind=1)||decide (c.kind=2)then yo c.pat&&(c.left==[]&&c.right==[])else bif decide (c.kind=3)||decide (c.kind=4)||decide (c.kind=5)then I9 c.pat&&(qN c.left&&qN c.right)else false
def Nn(c:aN):Bool:=sK c&&decide (c.kind>=3)
theorem KW{c:aN}(h:sK c=true):1<=c.kind/\c.kind<=5:=by
 unfold sK at h;by_cases h1:c.kind=1
 ·omega
 by_cases h2:c.kind=2
 ·omega
 by_cases h3:c.kind=3
 ·omega
 by_cases h4:c.kind=4
 ·omega
 by_cases h5:c.kind=5
 ·omega
 simp[h1,h2,h3,h4,h5]at h
theorem a2h(c:aN)(h:c.wt<=1048576):rU c=some (sK c):=by
 unfold rU sK I9;simp only[a8I _ (aN.fJ h),a2w _ (aN.Ca h),a2w _ (aN.AF h),aA,aZ,fF];by_cases h1:c.kind=1
 ·simp only[h1];cases yo c.pat<;>cases decide (c.left=[])<;>simp
 by_cases h2:c.kind=2
 ·simp only[h2];cases yo c.pat<;>cases decide (c.left=[])<;>simp
 by_cases h3:c.kind=3
 ·simp only[h3];cases decide (c.pat.rel=[])<;>cases decide ((c.pat.args.length:Int)=0)<;>cases qN c.left<;>simp
 by_cases h4:c.kind=4
 ·simp only[h4];cases decide (c.pat.rel=[])<;>cases decide ((c.pat.args.length:Int)=0)<;>cases qN c.left<;>simp
 by_cases h5:c.kind=5
 ·simp only[h5];cases decide (c.pat.rel=[])<;>cases decide ((c.pat.args.length:Int)=0)<;>cases qN c.left<;>simp
 simp[h1,h2,h3,h4,h5]
theorem a5s(p:aE):ij p=some (I9 p):=by
 unfold ij I9;simp only[aZ,fF];cases decide (p.rel=[])<;>rfl
theorem a1m(c:aN)(h:c.wt<=1048576):rN c=some (sK c):=by
 unfold rN sK;simp only[a7c _ (aN.fJ h),a1u _ (aN.Ca h),a1u _ (aN.AF h),a5s,aA,fF];by_cases h1:c.kind=1
 ·simp only[h1];cases yo c.pat<;>cases decide (c.left=[])<;>simp
 by_cases h2:c.kind=2
 ·simp only[h2];cases yo c.pat<;>cases decide (c.left=[])<;>simp
 by_cases h3:c.kind=3
 ·simp only[h3];cases I9 c.pat<;>cases qN c.left<;>cases qN c.right<;>simp
 by_cases h4:c.kind=4
 ·simp only[h4];cases I9 c.pat<;>cases qN c.left<;>cases qN c.right<;>simp
 by_cases h5:c.kind=5
 ·simp only[h5];cases I9 c.pat<;>cases qN c.left<;>cases qN c.right<;>simp
 simp[h1,h2,h3,h4,h5]
theorem a2x(c:aN)(h:c.wt<=1048576):rW c=some (Nn c):=by
 unfold rW Nn;rw[a2h c h];cases sK c<;>rfl
theorem aA5(c:aN)(h:c.wt<=1048576):xJ c=some (Nn c):=by
 unfold xJ Nn;rw[a1m c h];cases sK c<;>rfl
theorem a2t(a b:aN):oc a b=some (decide (a=b)):=by
 obtain⟨a0,a1,a2,a3⟩:=a;obtain⟨b0,b1,b2,b3⟩:=b;unfold oc;simp only[XL,aA,fF];by_cases h0:a0=b0<;>by_cases h1:a1=b1<;>by_cases h2:a2=b2<;>by_cases h3:a3=b3<;>simp[h0,h1,h2,h3]
theorem TH(a b:aN):jz a b=some (decide (a=b)):=by
 obtain⟨a0,a1,a2,a3⟩:=a;obtain⟨b0,b1,b2,b3⟩:=b;unfold jz;simp only[Qb,aA,fF];by_cases h0:a0=b0<;>by_cases h1:a1=b1<;>by_cases h2:a2=b2<;>by_cases h3:a3=b3<;>simp[h0,h1,h2,h3]
def Q5(a:Action):Bool:=bif decide (a.kind=1)||decide (a.kind=2)then yo a.pat else bif decide (a.kind=3)then I9 a.pat else false
theorem aDI(a:Action)(h:a.wt<=1048576):uU a=some (Q5 a):=by
 unfold uU Q5 I9;simp only[a8I _ (Action.fJ h),aA,aZ,fF];by_cases h1:a.kind=1
 ·simp[h1]
 by_cases h2:a.kind=2
 ·simp[h2]
 by_cases h3:a.kind=3
 ·simp only[h3];cases decide (a.pat.rel=[])<;>simp
 simp[h1,h2,h3]
theorem aCv(a:Action)(h:a.wt<=1048576):uE a=some (Q5 a):=by
 unfold uE Q5;simp only[a7c _ (Action.fJ h),a5s,aA,fF];by_cases h1:a.kind=1
 ·simp[h1]
 by_cases h2:a.kind=2
 ·simp[h2]
 by_cases h3:a.kind=3
 ·simp[h3]
 simp[h1,h2,h3]
end Go.Cx
namespace Go.Cx
open Go.RowKit Go.Proofs Tryz
theorem a4w:∀(k v:Nat),v<10^k->1<=k->Lib.nDigits v<=k:=by
 intro k
 induction k with
 |zero=>intro v _ h;omega
 |succ k ih=>
  intro v hv _;by_cases h10:v<10
  ·rw[Lib.nDigits_small h10];omega
  ·rw[Lib.nDigits_big h10];have h3:v/10<10^k:=by rw[yT]at hv;omega
   have hk1:1<=k:=by
    cases k with
    |zero=>simp at hv;omega
    |succ k=>omega
   have:=ih (v/10) h3 hk1;omega
theorem X4{u:Nat}(h:u<=9223372036854775808):Lib.nDigits u<=19:=a4w 19 u (by omega) (by omega)
theorem aBj(u:Nat):UInt8.ofNat (IntKind.u8.wrap (IntKind.i64.wrap (48+((u:Int)%10)))).toNat=UInt8.ofNat (48+u%10):=by
 rw[gf (k:=.i64) (tU.i64.2 (by omega)),gf (tU.u8.2 (by omega))]
 congr 1
theorem a6Q(k:Option Bytes):∀(n u:Nat) (acc:Bytes),Lib.nDigits u<=n->acc.length+Lib.nDigits u<=1000->iJ k n (u:Int) acc=some (Lib.decDigits u++acc):=by
 intro n
 induction n with
 |zero=>intro u acc h _;have:=Lib.nDigits_pos u;omega
 |succ n ih=>
  intro u acc hn hl;have hp:=Lib.nDigits_pos u;have e0:(decide (0<=(u:Int))&&decide (0<(10:Int)))=true:=by simp
  have e1:decide (([UInt8.ofNat (48+u%10)]:Bytes).length+(acc:Bytes).length<=maxLen)=true:=by unfold maxLen;simp;omega
  rw[iJ];simp only[aBj,e0,e1,aW];by_cases h10:u<10
  ·have e2:(((u:Int)/10:Int)==0)=true:=by rw[cj];omega
   rw[e2,aW,Lib.decDigits,dif_pos h10,Nat.mod_eq_of_lt h10]
  ·have e2:(((u:Int)/10:Int)==0)=false:=by rw[dF];omega
   have e3:((u:Int)/10)=((u/10:Nat):Int):=by omega
   have hd:=Lib.nDigits_big h10;rw[e2,af,e3,ih (u/10) _ (by omega) (by simp;omega)]
   conv=>rhs;rw[Lib.decDigits,dif_neg h10]
   simp
theorem aAa(m u:Nat)(h:u<=9223372036854775807):gY (m+1) (u:Int)=some (Lib.decDigits u):=by
 rw[gY];have e1:((u:Int)==(-9223372036854775808))=false:=by rw[dF];omega
 have e2:decide ((u:Int)<0)=false:=by simp
 have:=X4 (u:=u) (by omega);rw[e1,af,e2,af,a6Q _ _ _ _ (by unfold fuel;omega) (by simp;omega)];simp
theorem a1z:Lib.itoa (-9223372036854775808)=[45,57,50,50,51,51,55,50,48,51,54,56,53,52,55,55,53,56,48,56]:=by
 unfold Lib.itoa;simp[Lib.decDigits]
theorem aAZ(n:Int)(h:tU .i64 n):pu n=some (Lib.itoa n):=by
 have h:=tU.i64.1 h;unfold pu;rw[show fuel=4194303+1 from rfl,gY];by_cases hm:n= -9223372036854775808
 ·subst hm;rw[a1z];rfl
 have e1:((n:Int)==(-9223372036854775808))=false:=by rw[dF];exact hm
 rw[e1,af];by_cases hn:n<0
 ·have e2:decide (n<0)=true:=by simpa using hn
  have e3:IntKind.i64.wrap (0-n)=((n.natAbs:Nat):Int):=by rw[gf (tU.i64.2 (by omega))];omega
  have hd:=X4 (u:=n.natAbs) (by omega);rw[e2,aW,e3,show(4194303:Nat)=4194302+1 from rfl,aAa _ _ (by omega),aA];have e4:decide (([45]:Bytes).length+(Lib.decDigits n.natAbs:Bytes).length<=maxLen)=true:=by unfold maxLen;rw[Lib.decDigits_length];simp;omega
  rw[e4,aW];unfold Lib.itoa;rw[bQ hn];rfl
 ·have e2:decide (n<0)=false:=by simpa using hn
  have e3:n=((n.toNat:Nat):Int):=by omega
  have:=X4 (u:=n.toNat) (by omega);rw[e2,af]
  conv=>lhs;rw[e3]
  rw[a6Q _ _ _ _ (by unfold fuel;omega) (by simp;omega)];unfold Lib.itoa;rw[bG hn];simp
theorem a7Y(n:Int):ke n=some (Lib.itoa n):=by
 unfold ke C0;rfl
theorem Qd(n:Int)(h:tU .i64 n):(Lib.itoa n).length<=21:=by
 have:=tU.i64.1 h;exact Lib.itoa_length_le n this.1 this.2
def F2(to:aT)(s:Bytes):Bytes:=match to with
 | []=>s
 |p::r=>bif p.var==s then p.value else F2 r s
def R5(to:aT)(x:aN):aN:=⟨x.kind,⟨x.pat.rel,x.pat.args.map (F2 to)⟩,F2 to x.left,F2 to x.right⟩
theorem sRn(to:aT)(s:Bytes):lC s to=some (F2 to s):=by
 unfold lC;have:∀(r:aT) (i:Nat),jj s to (some s) r i=some (F2 r s):=by
  intro r
  induction r with
  |nil=>intro i;rfl
  |cons x r ih=>
   intro i;rw[jj,ih,F2];cases x.var==s<;>rfl
 exact this to 0
theorem iRn(to:aT)(s:Bytes):ic s to=some (F2 to s):=by
 unfold ic;have:∀(r:aT) (i:Nat),iI s to (some s) r i=some (F2 r s):=by
  intro r
  induction r with
  |nil=>intro i;rfl
  |cons x r ih=>
   intro i;rw[iI,ih,F2];cases x.var==s<;>rfl
 exact this to 0
theorem a8L(x:aN)(to:aT)(h:x.pat.args.length<=1099511627770):jq x to=some (R5 to x):=by
 unfold jq;rw[sRn,aA,sRn,aA];rw[Fx (c:=tx) (b:=16) (f:=fun a=>lC a to) (g:=F2 to) (L:=l7 x to (F2 to x.left) (F2 to x.right) _) (k:=_) (by decide) (fun _ _=>rfl) (fun _ _ _ _=>rfl) _ _ _ (fun a _=>sRn to a) (by simp;omega)];rfl
theorem aA1(x:aN)(to:aT)(h:x.pat.args.length<=1099511627770):lR x to=some (R5 to x):=by
 unfold lR;rw[iRn,aA,iRn,aA];rw[Fx (c:=tx) (b:=16) (f:=fun a=>ic a to) (g:=F2 to) (L:=ko x to (F2 to x.left) (F2 to x.right) _) (k:=_) (by decide) (fun _ _=>rfl) (fun _ _ _ _=>rfl) _ _ _ (fun a _=>iRn to a) (by simp;omega)];rfl
def Hl(l:aT)(t:Bytes):Bool:=l.any fun p=>p.var==t
def jS(l:aT)(t:Bytes):aT:=bif lH t&& !Hl l t then l++[⟨t,[63]++Lib.itoa ((l.length:Int)+1)⟩]else l
theorem Dn(l:aT)(t:Bytes):(jS l t).length<=l.length+1:=by
 unfold jS;cases lH t&& !Hl l t<;>simp
theorem AY:∀(ts:aJ) (l:aT),(ts.foldl jS l).length<=l.length+ts.length
 | [],l=>by simp
 |t::ts,l=>by
  have h1:=AY ts (jS l t);have h2:=Dn l t;rw[e9,aL];omega
theorem Tk(l:aT)(t:Bytes)(hl:l.length<=1099511627770)(ht:t.length<=1048576):pN l t=some (jS l t):=by
 unfold pN;rw[VQ t ht,aA,jS];cases hv:lH t with
 |false=>rfl
 |true=>
  rw[bP,af,fL];have key:∀(k:Option aT) (r:aT) (i:Nat),nY l t k r i=bif Hl r t then some l else k:=by
   intro k r
   induction r with
   |nil=>intro i;rfl
   |cons x r ih=>
    intro i;rw[nY,ih];simp only[Hl,ul];cases x.var==t<;>simp
  rw[key];cases Hl l t with
  |true=>rfl
  |false=>
   have e1:IntKind.i64.wrap (((l.map aR.c).length:Int)+1)=(l.length:Int)+1:=by rw[gf (tU.i64.2 (by simp;omega))];simp
   have hr:tU .i64 ((l.length:Int)+1):=tU.i64.2 (by omega);have hi:=Qd _ hr;have e2:decide (([63]:Bytes).length+(Lib.itoa ((l.length:Int)+1):Bytes).length<=maxLen)=true:=by unfold maxLen;simp;omega
   simp only[af,cQ,aW];rw[e1,aAZ _ hr,aA,e2,aW,mW (by omega) (by decide)];rfl
theorem V9(x y:Bytes):∀(m:List (Bytes×Bool)),NX false y (Ql x true m)=(y==x||NX false y m)
 | []=>by simp only[Ql,NX];cases y==x<;>rfl
 |p::m=>by
  simp only[Ql];cases h:x==p.1 with
  |true=>
   have h':x=p.1:=by simpa using h
   subst h';simp only[aW,NX];cases y==p.1<;>simp
  |false=>
   simp only[af,NX,V9 x y m];cases hy:y==p.1 with
   |true=>
    have h1:y=p.1:=by simpa using hy
    have h2:(y==x)=false:=by
     rw[dF]at h⊢;intro e;exact h (e.symm.trans h1)
    simp[h2]
   |false=>simp
theorem ZL(l:aT)(x y v:Bytes):Hl (l++[⟨x,v⟩]) y=(y==x||Hl l y):=by
 have:(x==y)=(y==x):=by rw[bp,cj,cj];exact eq_comm
 simp only[Hl,List.any_append,ul,MB,uk,this];cases y==x<;>simp
theorem YN(ts:aJ)(hl:ts.length<=1099511627700)(h:∀x∈ts,x.length<=1048576):oD ts=some (ts.foldl jS []):=by
 unfold oD;have key:∀(r:aJ) (i:Nat) (w:aT) (m:List (Bytes×Bool)),(∀x∈r,x.length<=1048576)->w.length+r.length<=1099511627700->(∀y,NX false y m=Hl w y)->
  fH ts (fun q=>some q) r i w m=some (r.foldl jS w):=by
  intro r
  induction r with
  |nil=>intro i w m _ _ _;rfl
  |cons x r ih=>
   intro i w m hx hw hm;simp only[aL]at hw;have hr:tU .i64 ((w.length:Int)+1):=tU.i64.2 (by omega);have hi:=Qd _ hr;have e1:IntKind.i64.wrap (((w.map aR.c).length:Int)+1)=(w.length:Int)+1:=by rw[gf (tU.i64.2 (by simp;omega))];simp
   have e2:decide (([63]:Bytes).length+(Lib.itoa ((w.length:Int)+1):Bytes).length<=maxLen)=true:=by unfold maxLen;simp;omega
   rw[fH,ZR x (hx x (by simp)),aA,e9,jS,hm x];cases hv:lH x with
   |false=>simp only[af,Bool.false_and];exact ih _ _ _ (fun y hy=>hx y (by simp[hy])) (by omega) hm
   |true=>
    cases hh:Hl w x with
    |true=>simp only[aW,bP,af,fL];exact ih _ _ _ (fun y hy=>hx y (by simp[hy])) (by omega) hm
    |false=>
     simp only[aW,cQ,fL];rw[e1,a7Y,aA,e2,aW,mW (by omega) (by decide),aW];exact ih _ _ _ (fun y hy=>hx y (by simp[hy])) (by simp;omega) (fun y=>by rw[V9,ZL,hm])
 exact key ts 0 [] [] h (by simpa using hl) (fun y=>rfl)
def vW(p:aE):aE:=(R5 (p.args.foldl jS []) ⟨0,p,[],[]⟩).pat
theorem a8O(p:aE)(h:p.wt<=1048576):tO p=some (vW p):=by
 have hl:=aE.dV h;unfold tO;have key:∀(k:aT->Option aE) (r:aJ) (i:Nat) (w:aT),(∀x∈r,x.length<=1048576)->w.length+r.length<=1099511627700->lY p k r i w=k (r.foldl jS w):=by
  intro k r
  induction r with
  |nil=>intro i w _ _;rfl
  |cons x r ih=>
   intro i w hx hw;simp only[aL]at hw;have:=Dn w x;rw[lY,Tk w x (by omega) (hx x (by simp)),aA,ih _ _ (fun y hy=>hx y (by simp[hy])) (by omega)];rfl
 rw[key _ _ _ _ (fun x hx=>aE.vI h hx) (by simp;omega),a8L _ _ (by simp;omega)];rfl
theorem a7h(p:aE)(h:p.wt<=1048576):sQ p=some (vW p):=by
 have hl:=aE.dV h;unfold sQ;rw[YN _ (by omega) (fun x hx=>aE.vI h hx),aA,aA1 _ _ (by simp;omega)];rfl
def Ae(l:aj):aJ:=l.flatMap fun c=>c.pat.args++[c.left,c.right]
theorem XU(l:aj):(Ae l).length<=3*jy aN.wt l:=by
 unfold Ae
 induction l with
 |nil=>simp
 |cons x l ih=>
  rw[dK,aX,qQ];have:=aE.dV (aN.fJ (c:=x) (bR _));simp only[aX,aL,bK];omega
def qL(r:aO):aT:=(Ae r.conds).foldl jS []
def gl(r:aO):aj:=r.conds.map (R5 (qL r))
theorem a2n(a:aO)(i:Nat)(c:aN)(k:aT->Option aT):∀(r:aJ) (j:Nat) (w:aT),(∀x∈r,x.length<=1048576)->w.length+r.length<=1099511627700->iy a i c k r j w=k (r.foldl jS w):=by
 intro r
 induction r with
 |nil=>intro i w _ _;rfl
 |cons x r ih=>
  intro i w hx hw;simp only[aL]at hw;have:=Dn w x;rw[iy,Tk w x (by omega) (hx x (by simp)),aA,ih _ _ (fun y hy=>hx y (by simp[hy])) (by omega)];rfl
theorem a8G(r:aO)(h:r.wt<=1048576):rE r=some (qL r):=by
 unfold rE;have key:∀(l:aj) (i:Nat) (w:aT),(∀c∈l,c.wt<=1048576)->w.length+3*jy aN.wt l<=1099511627700->iw r (fun q=>some q) l i w=some ((Ae l).foldl jS w):=by
  intro l
  induction l with
  |nil=>intro i w _ _;rfl
  |cons c l ih=>
   intro i w hc hw;rw[qQ]at hw;have Wb:=hc c (by simp);have ha:=aE.dV (aN.fJ (c:=c) (bR _));have h1:=AY c.pat.args w;have h2:=Dn (c.pat.args.foldl jS w) c.left;have h3:=Dn (jS (c.pat.args.foldl jS w) c.left) c.right;rw[iw,wo (by omega),aW,a2n _ _ _ _ _ _ _ (fun x hx=>aE.vI (aN.fJ Wb) hx) (by omega),Tk _ _ (by omega) (aN.Ca Wb),aA,Tk _ _ (by omega) (aN.AF Wb),aA,
    ih _ _ (fun y hy=>hc y (by simp[hy])) (by omega)]
   simp[Ae]
 have:=aO.u9 h;exact key r.conds 0 [] (fun c hc=>aO.sA h hc) (by simp;omega)
theorem a7b(r:aO)(h:r.wt<=1048576):qx r=some (qL r):=by
 unfold qx;have hw:=aO.u9 h;have key:∀(k:aJ->Option aT) (l:aj) (i:Nat) (w:aJ),(∀c∈l,c.wt<=1048576)->w.length+3*jy aN.wt l<=1099511627700->gJ r k l i w=k (w++Ae l):=by
  intro k l
  induction l with
  |nil=>intro i w _ _;simp[gJ,Ae]
  |cons c l ih=>
   intro i w hc hw;rw[qQ]at hw;have Wb:=hc c (by simp);have ha:=aE.dV (aN.fJ (c:=c) (bR _));rw[gJ,a1v c Wb,aA,a2c (by simp;omega) (by decide),aW,ih _ _ (fun y hy=>hc y (by simp[hy])) (by simp;omega)];simp[Ae]
 have hl:=XU r.conds;rw[key _ _ _ _ (fun c hc=>aO.sA h hc) (by simp;omega),cH,YN _ (by omega) ?_]
 ·rfl
 ·intro x hx;unfold Ae at hx;obtain⟨c,hc,hx⟩:=cD.1 hx;have Wb:=aO.sA h hc;rcases ar.1 hx with hx|hx
  ·exact aE.vI (aN.fJ Wb) hx
  ·simp only[bM,sI,G6]at hx;rcases hx with rfl|rfl
   ·exact aN.Ca Wb
   ·exact aN.AF Wb
theorem a89(r:aO)(h:r.wt<=1048576):rD r=some (gl r):=by
 unfold rD;have hw:=aO.u9 h;have hl:=gh aN.wt r.conds;rw[a8G r h,aA];rw[Fx (c:=aN.c) (b:=80) (f:=fun a=>jq a (qL r)) (g:=R5 (qL r)) (L:=l6 r (qL r) _) (k:=_) (by decide) (fun _ _=>rfl) (fun _ _ _ _=>rfl) _ _ _ (fun c hc=>a8L c _ (by have:=aE.dV (aN.fJ (aO.sA h hc));omega)) (by simp;omega)];simp[gl]
theorem a7U(r:aO)(h:r.wt<=1048576):qw r=some (gl r):=by
 unfold qw;have hw:=aO.u9 h;have hl:=gh aN.wt r.conds;rw[a7b r h,aA];rw[Fx (c:=aN.c) (b:=80) (f:=fun a=>lR a (qL r)) (g:=R5 (qL r)) (L:=kn r (qL r) _) (k:=_) (by decide) (fun _ _=>rfl) (fun _ _ _ _=>rfl) _ _ _ (fun c hc=>aA1 c _ (by have:=aE.dV (aN.fJ (aO.sA h hc));omega)) (by simp;omega)];simp[gl]
end Go.Cx
namespace Go.Cx
open Go.RowKit Go.Proofs Tryz
def NOk(n:aF):Prop:=n.nodes.length<=1048576/\∀x∈n.nodes,x.cond.wt<=1048576
theorem a57(s:Bytes):F2 [] s=s:=rfl
theorem a2W(x:aN):R5 [] x=x:=by
 have:x.pat.args.map (F2 [])=x.pat.args:=by
  rw[show(F2 [])=id from funext a57];simp
 unfold R5;rw[this];rfl
def dD(i:Nat):Int:=(i:Int)
def Rh(ns:az):Nat->Nat->aa
 |0,_=>[]
 |k+1,v=>v::(match ns[v]? with
  |some x=>if 1<=x.parent/\x.parent<(v:Int)then Rh ns k x.parent.toNat else []
  |none=>[])
def Ck(ns:az)(i:Nat):Option aN:=(ns[i]?).map Node.cond
def KE(ns:az)(k v:Nat):aj:=(Rh ns k v).reverse.filterMap (Ck ns)
def eg(ns:az)(v:Int):aj:=if 1<=v/\v<(ns.length:Int)then KE ns v.toNat v.toNat else []
theorem Vg{ns:az}{k v:Nat}{x:Node}(hx:ns[v]?=some x):Rh ns (k+1) v=v::(if 1<=x.parent/\x.parent<(v:Int)then Rh ns k x.parent.toNat else []):=by simp only[Rh,hx]
theorem a3M(ns:az):∀(k v:Nat),v<ns.length->∀i∈Rh ns k v,i<ns.length
 |0,v,_,i,hi=>by cases hi
 |k+1,v,hv,i,hi=>by
  rw[Rh]at hi;rcases bM.1 hi with rfl|hi
  ·exact hv
  ·split at hi
   ·split at hi
    ·rename_i x hx hp;exact a3M ns k _ (by omega) i hi
    ·cases hi
   ·cases hi
theorem Ym(ns:az):∀(k v:Nat),(Rh ns k v).length<=k
 |0,v=>by simp[Rh]
 |k+1,v=>by
  rw[Rh,aL];split
  ·split
   ·have:=Ym ns k (by assumption:Node).parent.toNat;omega
   ·simp
  ·simp
theorem R1{ns:az}{k v:Nat}{x:Node}(hx:ns[v]?=some x):KE ns (k+1) v=(if 1<=x.parent/\x.parent<(v:Int)then KE ns k x.parent.toNat else [])++[x.cond]:=by
 have hc:Ck ns v=some x.cond:=by unfold Ck;rw[hx];rfl
 unfold KE;rw[Vg hx];by_cases hp:1<=x.parent/\x.parent<(v:Int)
 ·rw[bQ hp,bQ hp];simp[hc]
 ·rw[bG hp,bG hp];simp[hc]
theorem Ti(x:aN)(h:x.pat.args.length<=1099511627770):jx x=some x:=by
 unfold jx;rw[a8L x [] h,aA,a2W]
theorem TF(x:aN)(h:x.pat.args.length<=1099511627770):fC x=some x:=by
 unfold fC eF;rw[TJ x.pat.args (by omega)];rfl
theorem a8J(n:aF)(h:NOk n)(K:aj->Option aj):∀(k v fu:Nat) (w:aj),v<=k->1<=v->v<n.nodes.length->k<fu->w.length+k<=4194304->jM n K fu (v:Int) w=K (KE n.nodes k v++w):=by
 have hl:=h.1;intro k
 induction k with
 |zero=>intro v fu w h1 h2;omega
 |succ k ih=>
  intro v fu w h1 h2 h3 h4 h5;obtain⟨fu,rfl⟩:∃m,fu=m+1:=⟨fu-1,by omega⟩
  have hx:n.nodes[v]?=some n.nodes[v]:=ai h3;have hw:=h.2 _ (DB h3);generalize hxe:n.nodes[v]=x at*;have e1:IntKind.i64.wrap (((n.nodes.map Node.c).length:Int)-1)=(n.nodes.length:Int)-1:=by rw[aZ];exact gf (tU.i64.2 (by omega))
  have e2:(decide ((v:Int)>=1)&&decide ((v:Int)<=(n.nodes.length:Int)-1))=true:=by simp;omega
  have e3:mC n.nodes (v:Int)=some x:=by unfold mC;rw[bU (by omega),aW];exact hx
  have e4:=Ti x.cond (by have:=aE.dV (aN.fJ hw);omega);rw[jM,e1,NR,aA,e2,aW,e3,aA,e4,aA,KH (by simp;omega) (by decide),aW,R1 hx];by_cases h6:x.parent>=(v:Int)
  ·rw[bU h6,aW,bG (by omega)];rfl
  ·rw[b9 h6,af];by_cases h7:1<=x.parent
   ·rw[bQ ⟨h7,by omega⟩];obtain⟨m,hm⟩:=o5 (by omega:0<=x.parent);rw[hm];rw[ih m fu ([x.cond]++w) (by omega) (by omega) (by omega) (by omega) (by simp;omega)];simp
   ·rw[bG (by omega)];obtain⟨fu,rfl⟩:∃m,fu=m+1:=⟨fu-1,by omega⟩
    have e5:(decide (x.parent>=1)&&decide (x.parent<=(n.nodes.length:Int)-1))=false:=by
     rw[b9 (by omega)];rfl
    rw[jM,e1,NR,aA,e5,af];rfl
theorem a8K(n:aF)(v:Int)(h:NOk n):xS n v=some (eg n.nodes v):=by
 have hl:=h.1;unfold xS eg;by_cases hv:1<=v/\v<(n.nodes.length:Int)
 ·rw[bQ hv];obtain⟨m,rfl⟩:=o5 (by omega:0<=v);rw[a8J n h _ m m fuel [] (bR _) (by omega) (by omega) (by unfold fuel;omega) (by simp;omega)];simp
 ·rw[bG hv];have e1:IntKind.i64.wrap (((n.nodes.map Node.c).length:Int)-1)=(n.nodes.length:Int)-1:=by rw[aZ];exact gf (tU.i64.2 (by omega))
  have e2:(decide (v>=1)&&decide (v<=(n.nodes.length:Int)-1))=false:=by
   by_cases h1:1<=v
   ·have h2:¬v<=(n.nodes.length:Int)-1:=by omega
    rw[b9 h2,yQ]
   ·rw[b9 h1];rfl
  rw[show fuel=4194303+1 from rfl,jM,e1,NR,aA,e2,af]
theorem a4c(n:aF)(h:NOk n)(K:bJ->Option aj):∀(k v fu:Nat) (w:bJ),v<=k->1<=v->v<n.nodes.length->k<fu->w.length+k<=4194304->mr n K fu (v:Int) w=K (w++(Rh n.nodes k v).map dD):=by
 have hl:=h.1;intro k
 induction k with
 |zero=>intro v fu w h1 h2;omega
 |succ k ih=>
  intro v fu w h1 h2 h3 h4 h5;obtain⟨fu,rfl⟩:∃m,fu=m+1:=⟨fu-1,by omega⟩
  have hx:n.nodes[v]?=some n.nodes[v]:=ai h3;generalize hxe:n.nodes[v]=x at*;have e3:mC n.nodes (v:Int)=some x:=by unfold mC;rw[bU (by omega),aW];exact hx
  rw[mr,mW (by omega) (by decide),aW,e3,aA,Vg hx];by_cases h7:x.parent<1
  ·rw[bU h7,aW,bG (by omega)];rfl
  ·rw[b9 h7,af];by_cases h6:x.parent>=(v:Int)
   ·rw[bU h6,aW,bG (by omega)];rfl
   ·rw[b9 h6,af,bQ ⟨by omega,by omega⟩];obtain⟨m,hm⟩:=o5 (by omega:0<=x.parent);rw[hm,ih m fu (w++[(v:Int)]) (by omega) (by omega) (by omega) (by omega) (by simp;omega)];simp[dD]
theorem a4d(n:aF)(h:NOk n)(us:aa)(wm:∀i∈us,i<n.nodes.length)(hul:us.length<=1048576)(K:aj->Option aj):∀(j fu:Nat) (w:aj),j<=us.length->j<fu->w.length+j<=4194304->kj n (us.map dD) K fu ((j:Int)-1) w=K (w++((us.take j).reverse.filterMap (Ck n.nodes))):=by
 intro j
 induction j with
 |zero=>
  intro fu w _ hf _;obtain⟨fu,rfl⟩:∃m,fu=m+1:=⟨fu-1,by omega⟩
  rw[kj,b9 (by omega),af];simp
 |succ j ih=>
  intro fu w hj hf hw;obtain⟨fu,rfl⟩:∃m,fu=m+1:=⟨fu-1,by omega⟩
  have hlt:j<us.length:=by omega
  have h3:=wm us[j] (DB hlt);have hx:n.nodes[us[j]]?=some n.nodes[us[j]]:=ai h3;have hww:=h.2 _ (DB h3);generalize hxe:n.nodes[us[j]]=x at*;have e0:((j+1:Nat):Int)-1=(j:Int):=by omega
  have e1:mC (us.map dD) (j:Int)=some ((us[j]:Nat):Int):=by
   unfold mC;rw[bU (by omega),aW];show(us.map dD)[(j:Int).toNat]?=_;rw[o6,c8,ai hlt];rfl
  have e3:mC n.nodes ((us[j]:Nat):Int)=some x:=by unfold mC;rw[bU (by omega),aW];exact hx
  have e4:=TF x.cond (by have:=aE.dV (aN.fJ hww);omega);have e5:IntKind.i64.wrap ((j:Int)-1)=(j:Int)-1:=gf (tU.i64.2 (by omega));rw[e0,kj,bU (by omega),aW,e1,aA,e3,aA,e4,aA,mW (by omega) (by decide),aW,e5,ih fu _ (by omega) (by omega) (by simp;omega)];have hc:Ck n.nodes us[j]=some x.cond:=by unfold Ck;rw[hx];rfl
  have ht:us.take (j+1)=us.take j++[us[j]]:=by rw[List.take_add_one,ai hlt];rfl
  rw[ht,List.reverse_append,List.filterMap_append];simp[hc]
theorem a7d(n:aF)(v:Int)(h:NOk n):xK n v=some (eg n.nodes v):=by
 have hl:=h.1;unfold xK eg;rw[aZ];by_cases h1:v<1
 ·rw[bU h1,aW,bG (by omega)]
 ·rw[b9 h1,af];by_cases h2:v>=(n.nodes.length:Int)
  ·rw[bU h2,aW,bG (by omega)]
  ·rw[b9 h2,af,bQ ⟨by omega,by omega⟩];obtain⟨m,rfl⟩:=o5 (by omega:0<=v);rw[a4c n h _ m m fuel [] (bR _) (by omega) (by omega) (by unfold fuel;omega) (by simp;omega)];have hul:=Ym n.nodes m m;have e5:IntKind.i64.wrap ((((([]:bJ)++(Rh n.nodes m m).map dD).map di).length:Int)-1)=(((Rh n.nodes m m).length:Nat):Int)-1:=by
    rw[cH,aZ,aZ];exact gf (tU.i64.2 (by omega))
   rw[e5,cH,a4d n h (Rh n.nodes m m) (a3M n.nodes m m (by omega)) (by omega) _ (Rh n.nodes m m).length fuel [] (bR _) (by unfold fuel;omega) (by simp;omega),List.take_length];rfl
end Go.Cx
namespace Go.Cx
open Go.RowKit Go.Proofs Tryz
def nmB(k:Nat):Bytes:=[63]++Lib.itoa ((k:Int)+1)
theorem decDigits_one{u:Nat}(h:u<10):Lib.decDigits u=[UInt8.ofNat (48+u)]:=by
 rw[Lib.decDigits,dif_pos h]
theorem Pq:∀i,i<6->nmB i=[63,UInt8.ofNat (49+i)]
 |0,_|1,_|2,_|3,_|4,_|5,_=>by
  unfold nmB Lib.itoa;rw[bG (by decide),decDigits_one (by decide)];decide
 |n+6,h=>by omega
theorem a4z:∀i,i<6->∀j,j<6->nmB i=nmB j->i=j:=by
 intro i hi j hj e;rw[Pq i hi,Pq j hj]at e
 revert i j
 decide
theorem TV:∀i,i<6->lH (nmB i)=true:=by
 intro i hi;rw[Pq i hi]
 revert i
 decide
def Xt(N:aT):Prop:=∀(i:Nat) p,N[i]?=some p->p.value=nmB i/\lH p.var=true
theorem Uo(N:aT)(t:Bytes):Hl N t=true↔∃p∈N,p.var=t:=by simp[Hl]
theorem Zh(N:aT)(t:Bytes){p:aR}(h:p∈N):p∈jS N t:=by
 unfold jS;cases lH t&& !Hl N t<;>simp[h]
theorem Um:∀(ts:aJ) (N:aT) {p:aR},p∈N->p∈ts.foldl jS N
 | [],_,_,h=>h
 |t::ts,N,p,h=>Um ts (jS N t) (Zh N t h)
theorem a3T{N:aT}(h:Xt N)(t:Bytes):Xt (jS N t):=by
 unfold jS;cases hv:lH t&& !Hl N t with
 |false=>exact h
 |true=>
  simp only[aY]at hv;intro i p hp;rw[aW]at hp;rcases eO i N.length with hlt|hge
  ·rw[bA hlt]at hp;exact h i p hp
  ·rw[bE hge]at hp;cases hi:i-N.length with
   |zero=>
    rw[hi]at hp;simp at hp;subst hp;have:i=N.length:=by omega
    subst this;exact⟨rfl,hv.1⟩
   |succ m=>rw[hi]at hp;simp at hp
theorem Et:∀(ts:aJ) {N:aT},Xt N->Xt (ts.foldl jS N)
 | [],_,h=>h
 |t::ts,_,h=>Et ts (a3T h t)
def Vm(N:aT):Prop:=(N.map aR.var).Nodup
theorem Zj{N:aT}(h:Vm N)(t:Bytes):Vm (jS N t):=by
 unfold jS;cases hv:lH t&& !Hl N t with
 |false=>exact h
 |true=>
  simp only[aY,qp]at hv;rw[aW];unfold Vm;rw[bS,bN];refine⟨h,by simp,?_⟩;intro a ha b hb e;simp at hb;subst hb;subst e;obtain⟨p,hp,he⟩:=cI.1 ha;have:=(Uo N a).2 ⟨p,hp,he⟩;rw[hv.2]at this;cases this
theorem Dp:∀(ts:aJ) {N:aT},Vm N->Vm (ts.foldl jS N)
 | [],_,h=>h
 |t::ts,_,h=>Dp ts (Zj h t)
theorem NK:∀(ts:aJ) (N:aT) {t:Bytes},t∈ts->lH t=true->∃p∈ts.foldl jS N,p.var=t
 |x::ts,N,t,h,hv=>by
  rcases bM.1 h with rfl|h
  ·have:∃p∈jS N t,p.var=t:=by
    unfold jS;cases hh:Hl N t with
    |true=>rw[hv];exact(Uo N t).1 hh
    |false=>rw[hv];exact⟨⟨t,[63]++Lib.itoa ((N.length:Int)+1)⟩,by simp,rfl⟩
   obtain⟨p,hp,he⟩:=this;exact⟨p,Um ts _ hp,he⟩
  ·exact NK ts _ h hv
theorem Ng:∀ {N:aT} {p:aR},Vm N->p∈N->F2 N p.var=p.value
 |q::N,p,hn,hp=>by
  unfold Vm at hn;rw[bH,fA]at hn;rcases bM.1 hp with rfl|hp
  ·simp[F2]
  ·have hne:(q.var==p.var)=false:=by
    rw[dF];intro e;exact hn.1 (by rw[e];exact cI.2 ⟨p,hp,rfl⟩)
   rw[F2,hne,af];exact Ng (show Vm N from hn.2) hp
theorem Oa:∀ {N:aT} {t:Bytes},(∀p∈N,p.var≠t)->F2 N t=t
 | [],t,_=>rfl
 |q::N,t,h=>by
  have hne:(q.var==t)=false:=by rw[dF];exact h q (by simp)
  rw[F2,hne,af];exact Oa fun p hp=>h p (by simp[hp])
theorem Xt.nil:Xt []:=fun i p h=>by simp at h
theorem Vm.nil:Vm []:=by simp[Vm]
theorem CY(ts:aJ):(ts.foldl jS []).length<=ts.length:=by simpa using AY ts []
theorem Oi{N:aT}(h:Xt N){p:aR}(hp:p∈N):∃i,i<N.length/\N[i]?=some p/\p.value=nmB i/\lH p.var=true:=by
 obtain⟨i,hi⟩:=cm hp;exact⟨i,(aH.1 hi).1,hi,h i p hi⟩
theorem Qr{ts:aJ}{t:Bytes}(ht:lH t=false):F2 (ts.foldl jS []) t=t:=
 Oa fun p hp e=>by
  obtain⟨i,_,_,_,hv⟩:=Oi (Et ts Xt.nil) hp;rw[e,ht]at hv;cases hv
theorem M2(p:aE):(vW p).args=p.args.map (F2 (p.args.foldl jS [])):=rfl
theorem YT:∀i,i<6->(nmB i).length<=16:=by
 intro i hi;rw[Pq i hi];simp
theorem a84{ts:aJ}(hl:ts.length<=5){t:Bytes}(ht:t.length<=16):(F2 (ts.foldl jS []) t).length<=16:=by
 by_cases h:∃p∈ts.foldl jS [],p.var=t
 ·obtain⟨p,hp,he⟩:=h;rw[<-he,Ng (Dp ts Vm.nil) hp];obtain⟨i,hi,_,hpv,_⟩:=Oi (Et ts Xt.nil) hp;have:=CY ts;rw[hpv];exact YT i (by omega)
 ·rw[Oa (fun p hp e=>h ⟨p,hp,e⟩)];exact ht
def unB(N:aT)(x:Bytes):Bytes:=match N with
 | []=>x
 |p::r=>bif p.value==x then p.var else unB r x
theorem Yl:∀ {N:aT} {p:aR},(N.map aR.value).Nodup->p∈N->unB N p.value=p.var
 |q::N,p,hn,hp=>by
  rw[bH,fA]at hn;rcases bM.1 hp with rfl|hp
  ·simp[unB]
  ·have hne:(q.value==p.value)=false:=by
    rw[dF];intro e;exact hn.1 (by rw[e];exact cI.2 ⟨p,hp,rfl⟩)
   rw[unB,hne,af];exact Yl hn.2 hp
theorem Og:∀ {N:aT} {t:Bytes},(∀p∈N,p.value≠t)->unB N t=t
 | [],t,_=>rfl
 |q::N,t,h=>by
  have hne:(q.value==t)=false:=by rw[dF];exact h q (by simp)
  rw[unB,hne,af];exact Og fun p hp=>h p (by simp[hp])
theorem Xf{N:aT}(h:Xt N)(hl:N.length<=5):(N.map aR.value).Nodup:=by
 unfold List.Nodup;rw[List.pairwise_iff_getElem];intro i j hi0 hj hij e;rw[aZ]at hj;rw[List.getElem_map,List.getElem_map]at e;have h1:=(h i _ (ai (by omega))).1;have h2:=(h j _ (ai hj)).1;rw[h1,h2]at e;have:=a4z i (by omega) j (by omega) e;omega
theorem aAq{ts:aJ}(hl:ts.length<=5){t:Bytes}(ht:t∈ts)(hT:qN t=true):unB (ts.foldl jS []) (F2 (ts.foldl jS []) t)=t:=by
 have hw:=Et ts Xt.nil;have hlen:=CY ts;cases hv:lH t with
 |true=>
  obtain⟨p,hp,he⟩:=NK ts [] ht hv;rw[<-he,Ng (Dp ts Vm.nil) hp,Yl (Xf hw (by omega)) hp]
 |false=>
  rw[Qr hv];refine Og fun p hp e=>?_
  obtain⟨i,hi,_,hpv,_⟩:=Oi hw hp;have:=TV i (by omega);rw[<-hpv,e,hv]at this;cases this
theorem a01{p:aE}(h:yo p=true)(hl:p.args.length<=5):yo (vW p)=true:=by
 unfold yo at h⊢;rw[aY]at h⊢;refine⟨?_,?_⟩
 ·rw[M2,E0,bB];intro t ht;have hT:=bB.1 h.1 t ht;show qN (F2 _ t)=true;cases hv:lH t with
  |false=>rw[Qr hv];exact hT
  |true=>
   obtain⟨q,hq,he⟩:=NK p.args [] ht hv;obtain⟨i,hi,_,hpv,_⟩:=Oi (Et p.args Xt.nil) hq;have:=CY p.args;rw[<-he,Ng (Dp p.args Vm.nil) hq,hpv];unfold qN;rw[TV i (by omega)];simp
 ·have:=h.2;rw[aY]at this⊢;refine⟨this.1,?_⟩;rw[M2,aZ];exact this.2
end Go.Cx
namespace Go.Cx
open Go.RowKit Go.Proofs Tryz
def PL(c:aN):aJ:=bif decide (c.kind=1)then jT c.pat.args else []
theorem a10{c:aN}:(PL c).length<=c.wt:=by
 unfold PL;have h2:=yL c.pat.args;have h3:=aE.dV (aN.fJ (bR c.wt));cases decide (c.kind=1)<;>simp;omega
def CJ(r:aO)(n:Int):aJ:=(r.conds.take n.toNat).flatMap PL
theorem SV{α:Type}(x:α)(xs:List α)(n:Int)(i:Nat):(x::xs).take (n-(i:Int)).toNat=if(i:Int)<n then x::xs.take (n-((i+1:Nat):Int)).toNat else []:=by
 by_cases h:(i:Int)<n
 ·rw[bQ h];obtain⟨m,hm⟩:∃m,(n-(i:Int)).toNat=m+1:=⟨(n-(i:Int)).toNat -1,by omega⟩
  have:(n-((i+1:Nat):Int)).toNat=m:=by omega
  rw[hm,this];rfl
 ·rw[bG h,show(n-(i:Int)).toNat=0 from by omega];rfl
theorem Hf{α β:Type}{f:α->List β}{w:α->Nat}(l:List α)(h:∀x∈l,(f x).length<=w x+2):(l.flatMap f).length<=3*jy w l:=by
 induction l with
 |nil=>simp[jy]
 |cons x l ih=>
  rw[dK,aX,qQ];have h1:=h x (by simp);have h2:=ih (fun y hy=>h y (by simp[hy]));omega
theorem a11{r:aO}{n:Nat}(h:r.wt<=n)(m:Int):(CJ r m).length<=3*n:=by
 unfold CJ;have h1:=Hf (w:=aN.wt) (f:=PL) (r.conds.take m.toNat) (fun c _=>by have:= @a10 c;omega);have h2:jy aN.wt (r.conds.take m.toNat)<=jy aN.wt r.conds:=by
  conv=>rhs;rw[<-cC m.toNat r.conds]
  rw[Xh];omega
 have h3:=aO.u9 h;omega
theorem a2f(a:aO)(n:Int)(i:Nat)(y:aJ)(k:aJ->Option aJ):∀(l:aJ) (j:Nat) (w:aJ),w.length+l.length<=1099511627770->jc a n i y k l j w=k (l.foldl Ad w):=by
 intro l
 induction l with
 |nil=>intro j w _;rfl
 |cons x l ih=>
  intro j w hw;simp only[aL]at hw;have:=C2 w x;rw[jc,XK w x (by omega),aA,ih _ _ (by omega)];rfl
theorem a58(a:aO)(n:Int)(k:aJ->Option aJ):∀(l:aj) (i:Nat) (acc:aJ),(∀c∈l,c.wt<=1048576)->acc.length+jy aN.wt l<=2097152->
 fk a n k l i (fK acc)=k (fK (acc++(l.take (n-(i:Int)).toNat).flatMap PL)):=by
 intro l
 induction l with
 |nil=>intro i acc _ _;simp[fk]
 |cons c l ih=>
  intro i acc hc hb;rw[qQ]at hb;have hwt:=hc c (by simp);have hv:=yL c.pat.args;have ha:=aE.dV (aN.fJ (bR c.wt));have hu:=qo (jT c.pat.args);have hu2:=qo acc;rw[fk,SV];by_cases hi:(i:Int)<n
  ·have e1:decide (((i:Int):Int)<n)=true:=by simp[hi]
   rw[e1,aW,bQ hi];by_cases hk:c.kind=1
   ·have e2:((c.kind:Int)==1)=true:=by simp[hk]
    rw[e2,aW,Nk _ (aN.fJ hwt),aA,wo (by omega),aW,a2f _ _ _ _ _ _ _ _ (by omega),I4,ih _ _ (fun x hx=>hc x (by simp[hx])) (by simp;omega)];simp[PL,hk]
   ·have e2:((c.kind:Int)==1)=false:=by simp[hk]
    rw[e2,af,ih _ _ (fun x hx=>hc x (by simp[hx])) (by omega)];simp[PL,hk]
  ·have e1:decide (((i:Int):Int)<n)=false:=by simp[hi]
   rw[e1,af,bG hi];simp
theorem a2e(r:aO)(n:Int)(h:r.wt<=1048576):nL r n=some (fK (CJ r n)):=by
 unfold nL;have:=a58 r n (fun q=>some q) r.conds 0 [] (fun c hc=>aO.sA h hc) (by have:=aO.u9 h;simp;omega);rw[show fK []=[]from rfl]at this;rw[this];simp[CJ]
theorem a4Y(a:aO)(n:Int)(k:aJ->Option aJ):∀(l:aj) (i:Nat) (w:aJ),(∀c∈l,c.wt<=1048576)->w.length+jy aN.wt l<=2097152->
 eo a n k l i w=k (w++(l.take (n-(i:Int)).toNat).flatMap PL):=by
 intro l
 induction l with
 |nil=>intro i w _ _;simp[eo]
 |cons c l ih=>
  intro i w hc hb;rw[qQ]at hb;have hwt:=hc c (by simp);have hv:=yL c.pat.args;have ha:=aE.dV (aN.fJ (bR c.wt));rw[eo,SV];by_cases hi:(i:Int)<n
  ·have e1:decide (((i:Int):Int)<n)=true:=by simp[hi]
   rw[e1,aW,bQ hi];by_cases hk:c.kind=1
   ·have e2:((c.kind:Int)==1)=true:=by simp[hk]
    rw[e2,aW,a1w _ (by omega) (fun x hx=>aE.vI (aN.fJ hwt) hx),aA,a2c (by omega) (by decide),aW,ih _ _ (fun x hx=>hc x (by simp[hx])) (by simp;omega)];simp[PL,hk]
   ·have e2:((c.kind:Int)==1)=false:=by simp[hk]
    rw[e2,af,ih _ _ (fun x hx=>hc x (by simp[hx])) (by omega)];simp[PL,hk]
  ·have e1:decide (((i:Int):Int)<n)=false:=by simp[hi]
   rw[e1,af,bG hi,ih _ _ (fun x hx=>hc x (by simp[hx])) (by omega),show(n-((i+1:Nat):Int)).toNat=0 from by omega];simp
theorem a1h(r:aO)(n:Int)(h:r.wt<=1048576):pT r n=some (fK (CJ r n)):=by
 unfold pT;have hl:=a11 h n;rw[a4Y r n _ r.conds 0 [] (fun c hc=>aO.sA h hc) (by have:=aO.u9 h;simp;omega)];have e:([]:aJ)++(r.conds.take (n-((0:Nat):Int)).toNat).flatMap PL=CJ r n:=by simp[CJ]
 rw[e,TI _ (by omega)];rfl
def FA(l:aj):aJ:=l.flatMap qu
def a42(l:bz):aJ:=l.flatMap fun a=>jT a.pat.args
def a86(r:aO):aJ:=FA r.conds++a42 r.cu
theorem a16(l:aj):(FA l).length<=3*jy aN.wt l:=Hf l (fun c _=>zO (bR _))
theorem a2q(a:aO)(i:Nat)(y:aJ)(k:aJ->Option aJ):∀(l:aJ) (j:Nat) (w:aJ),w.length+l.length<=1099511627770->kR a i y k l j w=k (l.foldl Ad w):=by
 intro l
 induction l with
 |nil=>intro j w _;rfl
 |cons x l ih=>
  intro j w hw;simp only[aL]at hw;have:=C2 w x;rw[kR,XK w x (by omega),aA,ih _ _ (by omega)];rfl
theorem a2s(a:aO)(i:Nat)(y:aJ)(k:aJ->Option aJ):∀(l:aJ) (j:Nat) (w:aJ),w.length+l.length<=1099511627770->kT a i y k l j w=k (l.foldl Ad w):=by
 intro l
 induction l with
 |nil=>intro j w _;rfl
 |cons x l ih=>
  intro j w hw;simp only[aL]at hw;have:=C2 w x;rw[kT,XK w x (by omega),aA,ih _ _ (by omega)];rfl
theorem a2p(a:aO)(k:aJ->Option aJ):∀(l:aj) (i:Nat) (acc:aJ),(∀c∈l,c.wt<=1048576)->acc.length+3*jy aN.wt l<=16777216->
 iz a k l i (fK acc)=k (fK (acc++FA l)):=by
 intro l
 induction l with
 |nil=>intro i acc _ _;simp[iz,FA]
 |cons c l ih=>
  intro i acc hc hb;rw[qQ]at hb;have hwt:=hc c (by simp);have h1:=zO (bR c.wt);have hu:=qo (qu c);have hu2:=qo acc;rw[iz,XH c hwt,aA,wo (by omega),aW,a2q _ _ _ _ _ _ _ (by omega),I4,ih _ _ (fun x hx=>hc x (by simp[hx])) (by simp;omega)];simp[FA]
theorem a2r(a:aO)(k:aJ->Option aJ):∀(l:bz) (i:Nat) (acc:aJ),(∀c∈l,c.wt<=1048576)->acc.length+3*jy Action.wt l<=16777216->
 gZ a k l i (fK acc)=k (fK (acc++a42 l)):=by
 intro l
 induction l with
 |nil=>intro i acc _ _;simp[gZ,a42]
 |cons c l ih=>
  intro i acc hc hb;rw[qQ]at hb;have hwt:=hc c (by simp);have h1:=yL c.pat.args;have h2:=aE.dV (Action.fJ (bR c.wt));have hu:=qo (jT c.pat.args);have hu2:=qo acc;rw[gZ,Nk _ (Action.fJ hwt),aA,wo (by omega),aW,a2s _ _ _ _ _ _ _ (by omega),I4,ih _ _ (fun x hx=>hc x (by simp[hx])) (by simp;omega)];simp[a42]
theorem a8M(r:aO)(h:r.wt<=1048576):uW r=some (fK (a86 r)):=by
 unfold uW;have h3:=aO.u9 h;have h4:=aO.MJ h;have hl:=a16 r.conds;have:=a2p r (fun q=>gZ r (fun q=>some q) r.cu 0 q) r.conds 0 [] (fun c hc=>aO.sA h hc) (by simp;omega);rw[show fK []=[]from rfl]at this;rw[this];simp only[cH];rw[a2r r _ r.cu 0 _ (fun c hc=>aO.Sr h hc) (by omega)];rfl
theorem a9q(l:aj)(hc:∀c∈l,c.wt<=1048576)(hb:jy aN.wt l<=1048576):qy l=some (l.flatMap fun c=>fK (qu c)):=by
 unfold qy;have:∀(r:aj) (i:Nat) (w:aJ),(∀c∈r,c.wt<=1048576)->w.length+3*jy aN.wt r<=16777216->gK l (fun q=>some q) r i w=some (w++r.flatMap fun c=>fK (qu c)):=by
  intro r
  induction r with
  |nil=>intro i w _ _;simp[gK]
  |cons c r ih=>
   intro i w hc hb;rw[qQ]at hb;have h1:=zO (bR c.wt);have hu:=qo (qu c);rw[gK,Wn c (hc c (by simp)),aA,a2c (by omega) (by decide),aW,ih _ _ (fun x hx=>hc x (by simp[hx])) (by simp;omega)];simp
 exact this l 0 [] hc (by simp;omega)
theorem a15(l:aj):(l.flatMap fun c=>fK (qu c)).length<=3*jy aN.wt l:=Hf l (fun c _=>by
 have h1:=zO (bR c.wt);have hu:=qo (qu c);omega)
theorem aBh(l:aj)(b:aJ):fK ((l.flatMap fun c=>fK (qu c))++b)=fK (FA l++b):=I3 (fun x=>by simp[FA,wV])
def ZE(v:Bytes)(k:Int):aj->Nat->Bool
 | [],_=>false
 |c::cs,i=>(decide (((i:Nat):Int)≠k)&&(qu c).contains v)||ZE v k cs (i+1)
def Ue(r:aO)(k:Int)(v:Bytes):Bool:=ZE v k r.conds 0||r.cu.any fun a=>(jT a.pat.args).contains v
theorem RW{l:aJ}{v:Bytes}(h:lH v=true):l.contains v=(jT l).contains v:=by
 rw[bp];simp[jT,h]
theorem aAX(r:aO)(k:Int)(v:Bytes)(h:r.wt<=1048576):nU r k v=some (Ue r k v):=by
 unfold nU Ue;have k2:∀(l:bz) (i:Nat),(∀c∈l,c.wt<=1048576)->iK r v (some false) l i=some (l.any fun a=>(jT a.pat.args).contains v):=by
  intro l
  induction l with
  |nil=>intro i _;rfl
  |cons a l ih=>
   intro i hc;rw[iK,Nk _ (Action.fJ (hc a (by simp))),aA,a2l,aA,nq,ih _ (fun x hx=>hc x (by simp[hx])),ul];cases(jT a.pat.args).contains v<;>rfl
 have k1:∀(l:aj) (i:Nat),(∀c∈l,c.wt<=1048576)->fZ r k v (some (r.cu.any fun a=>(jT a.pat.args).contains v)) l i=some (ZE v k l i||r.cu.any fun a=>(jT a.pat.args).contains v):=by
  intro l
  induction l with
  |nil=>intro i _;rfl
  |cons c l ih=>
   intro i hc;rw[fZ,XH _ (hc c (by simp)),aA,a2l,aA,nq,ih _ (fun x hx=>hc x (by simp[hx]))];simp only[ZE,bne,fF];by_cases hi:((i:Nat):Int)=k
   ·simp[hi]
   ·cases(qu c).contains v<;>simp[hi]
 rw[k2 _ _ (fun c hc=>aO.Sr h hc),k1 _ _ (fun c hc=>aO.sA h hc)]
theorem aD0(r:aO)(k:Int)(v:Bytes)(hv:lH v=true)(h:r.wt<=1048576):lW r k v=some (Ue r k v):=by
 unfold lW Ue;have k2:∀(l:bz) (i:Nat),ez r v (some false) l i=some (l.any fun a=>(jT a.pat.args).contains v):=by
  intro l
  induction l with
  |nil=>intro i;rfl
  |cons a l ih=>
   intro i;rw[ez,a4a,aA,RW hv,ih,ul];cases(jT a.pat.args).contains v<;>rfl
 have k1:∀(l:aj) (i:Nat),(∀c∈l,c.wt<=1048576)->eL r k v (some (r.cu.any fun a=>(jT a.pat.args).contains v)) l i=some (ZE v k l i||r.cu.any fun a=>(jT a.pat.args).contains v):=by
  intro l
  induction l with
  |nil=>intro i _;rfl
  |cons c l ih=>
   intro i hc;rw[eL,Wn _ (hc c (by simp)),aA,a4a,aA,nq,ih _ (fun x hx=>hc x (by simp[hx]))];simp only[ZE,bne,fF];by_cases hi:((i:Nat):Int)=k
   ·simp[hi]
   ·cases(qu c).contains v<;>simp[hi]
 rw[k2,k1 _ _ (fun c hc=>aO.sA h hc)]
def PR(r:aO)(i:Nat)(c:aN)(v:Bytes):Bool:=decide (c.kind=1)||(CJ r i).contains v||(decide (c.kind=2)&& !Ue r i v)
def xh(r:aO):aj->Nat->Bool
 | [],_=>true
 |c::cs,i=>(sK c&&(!decide (i=0)||decide (c.kind=1))&&(fK (qu c)).all (PR r i c))&&xh r cs (i+1)
def Q6(r:aO):Bool:=r.cu.all fun a=>Q5 a&&(jT a.pat.args).all fun v=>(CJ r r.conds.length).contains v
def ny(r:aO):Bool:=B0 r.name&&(decide (0<=r.prio)&&decide (r.prio<=9))&&(decide (1<=(r.conds.length:Int))&&decide ((r.conds.length:Int)<=4))&&(decide (1<=(r.cu.length:Int))&&decide ((r.cu.length:Int)<=2))&&
 (xh r r.conds 0&&(Q6 r&&decide (((fK (FA r.conds)).length:Int)<=6)))
theorem Ro(l:aJ)(p:Bytes->Bool):(fK l).all p=l.all p:=by
 rw[bp];simp[bB,wV]
theorem a47(r:aO)(n:Int){v:Bytes}(h:v∈CJ r n):v∈FA r.conds:=by
 unfold CJ at h;obtain⟨c,hc,hv⟩:=cD.1 h;refine cD.2 ⟨c,cG hc,?_⟩;unfold PL at hv;cases hk:decide (c.kind=1)with
 |false=>rw[hk]at hv;cases hv
 |true=>
  rw[hk]at hv;simp only[aW]at hv;unfold qu;rw[Sb];exact ar.2 (.inl hv)
theorem W9{r:aO}(h:Q6 r=true):fK (a86 r)=fK (FA r.conds):=by
 refine I3 (fun x=>?_);unfold a86;simp only[ar];constructor
 ·rintro(hx|hx)
  ·exact hx
  ·obtain⟨a,ha,hv⟩:=cD.1 hx;unfold Q6 at h;have:=bB.1 h a ha;simp only[aY,bB]at this;have:=this.2 x hv;exact a47 r _ (by simpa using this)
 ·exact .inl
theorem a5D(r:aO)(y:aJ)(i:Nat)(c:aN)(l:aJ)(k:Option Bool)(hc:c.wt<=1048576)(hr:r.wt<=1048576)(hcb:sK c=true):∀(rest:aJ) (j:Nat),fy r y i c (fK (CJ r i)) l k rest j=bif rest.all (PR r i c)then k else some false:=by
 have hk:=KW hcb;intro rest
 induction rest with
 |nil=>intro j;rfl
 |cons v rest ih=>
  intro j;rw[fy,a2l,aA,nq,a2x c hc,aA,aAX r _ v hr,aA,ih,dG];unfold Nn PR;rw[hcb];by_cases h1:c.kind=1
  ·simp[h1]
  by_cases h2:c.kind=2
  ·cases(CJ r i).contains v<;>cases Ue r i v<;>simp[h2]
  have h3:c.kind>=3:=by omega
  cases(CJ r i).contains v<;>simp[h1,h2,h3]
theorem a5E(r:aO)(y:aJ)(i:Nat)(c:aN)(l:aJ)(k:Option Bool)(hc:c.wt<=1048576)(hr:r.wt<=1048576)(hcb:sK c=true):∀(rest:aJ) (j:Nat),gA r y i c (fK (CJ r i)) l k rest j=bif rest.all (PR r i c)then k else some false:=by
 have hk:=KW hcb;intro rest
 induction rest with
 |nil=>intro j;rfl
 |cons v rest ih=>
  intro j;rw[gA,a2l,aA,nq,a2x c hc,aA,aAX r _ v hr,aA,ih,dG];unfold Nn PR;rw[hcb];by_cases h1:c.kind=1
  ·simp[h1]
  by_cases h2:c.kind=2
  ·cases(CJ r i).contains v<;>cases Ue r i v<;>simp[h2]
  have h3:c.kind>=3:=by omega
  cases(CJ r i).contains v<;>simp[h1,h2,h3]
theorem a5C(r:aO)(y:aJ)(k:Option Bool)(hr:r.wt<=1048576):∀(rest:aj) (i:Nat),(∀c∈rest,c.wt<=1048576)->kz r y k rest i=bif xh r rest i then k else some false:=by
 intro rest
 induction rest with
 |nil=>intro i _;rfl
 |cons c rest ih=>
  intro i h;have hc:=h c (by simp);have hl:=zO hc;have hu:=qo (qu c);rw[kz,a2h c hc,aA,xh];cases hcb:sK c with
  |false=>rfl
  |true=>
   rw[a2e r _ hr,XH c hc,ih _ (fun x hx=>h x (by simp[hx]))];simp only[aA,wo (show(fK (qu c)).length<=1099511627776 by omega),aW];rw[a5D r y i c _ _ hc hr hcb,a5E r y i c _ _ hc hr hcb];simp only[bne,fF];have e0:decide (((i:Int):Int)=0)=decide (i=0):=by rw[bp];simp
   rw[e0];cases decide (i=0)<;>cases decide (c.kind=1)<;>cases(fK (qu c)).all (PR r i c)<;>simp
theorem a5G(r:aO)(y:aJ)(i:Nat)(l:aJ)(k:Option Bool):∀(rest:aJ) (j:Nat),nO r y i l k rest j=bif rest.all (fun v=>y.contains v)then k else some false:=
 fun rest j=>Z4 (f:=fun v=>gm y v) (L:=nO r y i l k) (fun _=>rfl) (fun _ _ _=>rfl) rest j (fun v _=>a2l y v)
theorem a5F(r:aO)(b:aJ)(k:Option Bool):∀(rest:bz) (i:Nat),(∀a∈rest,a.wt<=1048576)->nN r (fK b) k rest i=bif rest.all (fun a=>Q5 a&&(jT a.pat.args).all fun v=>b.contains v)then k else some false:=by
 intro rest
 induction rest with
 |nil=>intro i _;rfl
 |cons a rest ih=>
  intro i h;have ha:=h a (by simp);have h1:=yL a.pat.args;have h2:=aE.dV (Action.fJ ha);have hu:=qo (jT a.pat.args);rw[nN,aDI a ha,aA,Nk _ (Action.fJ ha),aA,wo (by omega),ih _ (fun x hx=>h x (by simp[hx])),a5G,dG,Ro];have e:((jT a.pat.args).all fun v=>(fK b).contains v)=(jT a.pat.args).all fun v=>b.contains v:=by
   congr 1;funext v;exact nq b v
  rw[e];cases Q5 a<;>cases(jT a.pat.args).all (fun v=>b.contains v)<;>simp
theorem aAk(r:aO)(h:r.wt<=1048576):xR r=some (ny r):=by
 unfold xR;simp only[a2m _ (aO.YS h),aA,NR,aZ];rw[a2e r _ h];simp only[aA];rw[a5C r _ _ h _ _ (fun c hc=>aO.sA h hc),a5F r _ _ _ _ (fun a ha=>aO.Sr h ha),a8M r h];simp only[aA,aZ];have hab:(r.cu.all fun a=>Q5 a&&(jT a.pat.args).all fun v=>(CJ r r.conds.length).contains v)=Q6 r:=rfl;rw[hab];unfold ny;have g1:decide (r.prio>=0)=decide (0<=r.prio):=rfl;have g2:decide ((r.conds.length:Int)>=1)=decide (1<=(r.conds.length:Int)):=rfl;have g3:decide ((r.cu.length:Int)>=1)=decide (1<=(r.cu.length:Int)):=rfl;rw[g1,g2,g3];cases ha:Q6 r with
 |false=>cases B0 r.name<;>cases(decide (0<=r.prio)&&decide (r.prio<=9))<;>cases(decide (1<=(r.conds.length:Int))&&decide ((r.conds.length:Int)<=4))<;>cases(decide (1<=(r.cu.length:Int))&&decide ((r.cu.length:Int)<=2))<;>cases xh r r.conds 0<;>rfl
 |true=>
  rw[W9 ha];cases B0 r.name<;>cases(decide (0<=r.prio)&&decide (r.prio<=9))<;>cases(decide (1<=(r.conds.length:Int))&&decide ((r.conds.length:Int)<=4))<;>cases(decide (1<=(r.cu.length:Int))&&decide ((r.cu.length:Int)<=2))<;>cases xh r r.conds 0<;>simp
theorem a7X(r:aO)(i:Nat)(c:aN)(l:aJ)(k:Option Bool)(hr:r.wt<=1048576)(hcb:sK c=true):∀(rest:aJ) (j:Nat),(∀v∈rest,lH v=true)->gU r (i:Int) c (fK (CJ r i)) l k rest j=bif rest.all (PR r i c)then k else some false:=by
 have hk:=KW hcb;intro rest
 induction rest with
 |nil=>intro j _;rfl
 |cons v rest ih=>
  intro j hv;rw[gU,a4a,aA,nq,aD0 r _ v (hv v (by simp)) hr,aA,ih _ (fun x hx=>hv x (by simp[hx])),dG];unfold PR;simp only[bne,fF];by_cases h1:c.kind=1
  ·simp[h1]
  by_cases h2:c.kind=2
  ·cases(CJ r i).contains v<;>cases Ue r i v<;>simp[h2]
  cases(CJ r i).contains v<;>simp[h1,h2]
theorem a9t(r:aO)(i:Nat)(c:aN)(hr:r.wt<=1048576)(hi:r.conds[i]?=some c)(hcb:sK c=true):qg r (i:Int)=some ((fK (qu c)).all (PR r i c)):=by
 unfold qg;have hc:=aO.sA hr (aC hi);have hl:=zO hc;have hu:=qo (qu c);have e:mC r.conds (i:Int)=some c:=by unfold mC;simp[hi]
 rw[e,aA,a1h r _ hr,aA,Wn c hc,aA,wo (by omega),aW,a7X r i c _ _ hr hcb _ _ (fun v hv=>by
  rw[wV]at hv;unfold qu jT at hv;exact(fo.1 hv).2)]
 cases(fK (qu c)).all (PR r i c)<;>rfl
theorem a4e(r:aO)(k:Option Bool)(hr:r.wt<=1048576):∀(rest pre:aj),r.conds=pre++rest->jE r k rest pre.length=bif xh r rest pre.length then k else some false:=by
 intro rest
 induction rest with
 |nil=>intro pre _;rfl
 |cons c rest ih=>
  intro pre h;have hm:c∈r.conds:=by rw[h];simp
  have hc:=aO.sA hr hm;have hi:r.conds[pre.length]?=some c:=by rw[h];simp
  have t:=ih (pre++[c]) (by rw[h];simp);simp only[aX,aL,bK]at t;rw[jE,a1m c hc,aA,xh];cases hcb:sK c with
  |false=>rfl
  |true=>
   rw[a9t r _ c hr hi hcb,aA,t];simp only[bne,fF];have e0:decide ((((pre.length:Nat):Int):Int)=0)=decide (pre.length=0):=by rw[bp];simp
   rw[e0];cases decide (pre.length=0)<;>cases decide (c.kind=1)<;>cases(fK (qu c)).all (PR r pre.length c)<;>simp
theorem a4g(r:aO)(y:aJ)(i:Nat)(l:aJ)(k:Option Bool):∀(rest:aJ) (j:Nat),mq r y i l k rest j=bif rest.all (fun v=>y.contains v)then k else some false:=
 fun rest j=>Z4 (f:=fun v=>lU y v) (L:=mq r y i l k) (fun _=>rfl) (fun _ _ _=>rfl) rest j (fun v _=>a4a y v)
theorem a4f(r:aO)(b:aJ)(k:Option Bool):∀(rest:bz) (i:Nat),(∀a∈rest,a.wt<=1048576)->mo r (fK b) k rest i=bif rest.all (fun a=>Q5 a&&(jT a.pat.args).all fun v=>b.contains v)then k else some false:=by
 intro rest
 induction rest with
 |nil=>intro i _;rfl
 |cons a rest ih=>
  intro i h;have ha:=h a (by simp);have h1:=yL a.pat.args;have h2:=aE.dV (Action.fJ ha);rw[mo,aCv a ha,aA,a1w _ (by omega) (fun x hx=>aE.vI (Action.fJ ha) hx),aA,wo (by omega),ih _ (fun x hx=>h x (by simp[hx])),a4g,dG];have e:((jT a.pat.args).all fun v=>(fK b).contains v)=(jT a.pat.args).all fun v=>b.contains v:=by
   congr 1;funext v;exact nq b v
  rw[e];cases Q5 a<;>cases(jT a.pat.args).all (fun v=>b.contains v)<;>simp
theorem aA2(r:aO)(h:r.wt<=1048576):xI r=some (ny r):=by
 unfold xI;have hcu:=a15 r.conds;have hcl:=aO.u9 h;rw[show jE r _ r.conds 0=_ from a4e r _ h r.conds [] rfl,a1h r _ h,aA,a4f r _ _ _ _ (fun a ha=>aO.Sr h ha),a9q _ (fun c hc=>aO.sA h hc) hcl,aA,TI _ (by omega),a1q _ (aO.YS h)];have e:=aBh r.conds [];simp only[cN]at e;rw[e];simp only[aA,aZ,bK];have hab:(r.cu.all fun a=>Q5 a&&(jT a.pat.args).all fun v=>(CJ r r.conds.length).contains v)=Q6 r:=rfl;rw[hab];unfold ny;have g1:decide (0<=r.prio)= !decide (r.prio<0):=by rw[bp];simp
 have g2:decide (r.prio<=9)= !decide (r.prio>9):=by rw[bp];simp
 have g3:decide (1<=(r.conds.length:Int))= !decide ((r.conds.length:Int)<1):=by rw[bp];simp
 have g4:decide ((r.conds.length:Int)<=4)= !decide ((r.conds.length:Int)>4):=by rw[bp];simp
 have g5:decide (1<=(r.cu.length:Int))= !decide ((r.cu.length:Int)<1):=by rw[bp];simp
 have g6:decide ((r.cu.length:Int)<=2)= !decide ((r.cu.length:Int)>2):=by rw[bp];simp
 rw[g1,g2,g3,g4,g5,g6];cases B0 r.name
 ·rfl
 cases decide (r.prio<0)
 case true=>rfl
 cases decide (r.prio>9)
 case true=>rfl
 cases decide ((r.conds.length:Int)<1)
 case true=>rfl
 cases decide ((r.conds.length:Int)>4)
 case true=>rfl
 cases decide ((r.cu.length:Int)<1)
 case true=>rfl
 cases decide ((r.cu.length:Int)>2)
 case true=>rfl
 cases xh r r.conds 0
 ·rfl
 cases Q6 r
 ·rfl
 simp
def K7(name:Bytes):au->Nat->Int
 | [],_=> -1
 |r::rs,i=>bif r.name==name then(i:Int)else K7 name rs (i+1)
def RV(all:au):au->Nat->Bool
 | [],_=>true
 |r::rs,i=>(ny r&&decide (K7 r.name all 0=(i:Int)))&&RV all rs (i+1)
def zN(l:au):Bool:=RV l l 0&&decide ((l.length:Int)<=6)
theorem aAY(l:au)(n:Bytes):uT l n=some (K7 n l 0):=by
 unfold uT;have:∀(r:au) (i:Nat),kP l n (some (-1)) r i=some (K7 n r i):=by
  intro r
  induction r with
  |nil=>intro i;rfl
  |cons x r ih=>intro i;rw[kP,ih,K7];cases x.name==n<;>rfl
 exact this l 0
theorem a9r(l:au)(n:Bytes):uD l n=some (K7 n l 0):=by
 unfold uD;have:∀(r:au) (i:Nat),kB l n (some (-1)) r i=some (K7 n r i):=by
  intro r
  induction r with
  |nil=>intro i;rfl
  |cons x r ih=>intro i;rw[kB,ih,K7];cases x.name==n<;>rfl
 exact this l 0
theorem aDK(l:au)(h:jy aO.wt l<=1048576):uR l=some (zN l):=by
 unfold uR;have:∀(r:au) (i:Nat) (k:Option Bool),(∀x∈r,x.wt<=1048576)->kN l k r i=bif RV l r i then k else some false:=by
  intro r
  induction r with
  |nil=>intro i k _;rfl
  |cons x r ih=>
   intro i k hx;rw[kN,aAk x (hx x (by simp)),aA,aAY,aA,ih _ _ (fun y hy=>hx y (by simp[hy])),RV];simp only[bne,fF];cases ny x<;>cases decide (K7 x.name l 0=(i:Int))<;>simp
 rw[this _ _ _ (fun x hx=>by have:=iV (w:=aO.wt) hx;omega),aZ,zN];cases RV l l 0<;>rfl
theorem aCx(l:au)(h:jy aO.wt l<=1048576):uB l=some (zN l):=by
 unfold uB;have:∀(r:au) (i:Nat) (k:Option Bool),(∀x∈r,x.wt<=1048576)->k9 l k r i=bif RV l r i then k else some false:=by
  intro r
  induction r with
  |nil=>intro i k _;rfl
  |cons x r ih=>
   intro i k hx;rw[k9,aA2 x (hx x (by simp)),aA,a9r,aA,ih _ _ (fun y hy=>hx y (by simp[hy])),RV];simp only[bne,fF];cases ny x<;>cases decide (K7 x.name l 0=(i:Int))<;>simp
 rw[this _ _ _ (fun x hx=>by have:=iV (w:=aO.wt) hx;omega),aZ,zN];have g:decide ((l.length:Int)<=6)= !decide ((l.length:Int)>6):=by rw[bp];simp
 rw[g];cases RV l l 0<;>cases decide ((l.length:Int)>6)<;>rfl
end Go.Cx
namespace Go.Cx
open Go.RowKit Go.Proofs Tryz
theorem Qz{α β:Type}[DecidableEq β]{f:α->α->Option Bool}{g:α->β}{a b:List α}{k:Option Bool}{L:List α->Nat->Option Bool}(hl:a.length=b.length)(ue:∀i,L [] i=k)
 (tR:∀x xs i,L (x::xs) i=(mC b (i:Int)).bind fun y=>(f x y).bind fun r=>bif !r then some false else L xs (i+1)) (hf:∀x y,f x y=some (decide (g x=g y))):
 L a 0=bif decide (a.map g=b.map g)then k else some false:=by
 have key:∀(ra rb pa pb:List α),a=pa++ra->b=pb++rb->pa.length=pb.length->L ra pa.length=bif decide (ra.map g=rb.map g)then k else some false:=by
  intro ra
  induction ra with
  |nil=>
   intro rb pa pb h1 h2 h3;rw[ue];have:rb=[]:=by
    have:=congrArg List.length h1;have:=congrArg List.length h2;simp at*;apply cc;omega
   subst this;simp
  |cons x xs ih=>
   intro rb pa pb h1 h2 h3;cases rb with
   |nil=>
    exfalso;have:=congrArg List.length h1;have:=congrArg List.length h2;simp at*;omega
   |cons y ys=>
    have e1:mC b (pa.length:Int)=some y:=by rw[h3];exact zZ h2
    rw[tR,e1,aA,hf,aA];have:=ih ys (pa++[x]) (pb++[y]) (by rw[h1];simp) (by rw[h2];simp) (by simp[h3]);simp only[aX,aL,bK]at this;rw[this];by_cases hxy:g x=g y
    ·simp[hxy]
    ·simp[hxy]
 exact key a b [] [] rfl rfl rfl
theorem Qn{α β:Type}{g:α->β}{a b:List α}(h:a.length≠b.length):a.map g≠b.map g:=fun e=>h (by have:=congrArg List.length e;simpa using this)
theorem IF{α:Type}{c:α->aS}(a b:List α):((((a.map c).length:Int):Int) != ((b.map c).length:Int))= !decide (a.length=b.length):=by
 rw[bp];simp;omega
theorem map_id'{α:Type}(l:List α):l.map (fun x=>x)=l:=by simp
theorem a7g(a b:aO):qf a b=some (decide (a=b)):=by
 have k2:∀(k:Option Bool),a.cu.length=b.cu.length->iY a b k a.cu 0=bif decide (a.cu=b.cu)then k else some false:=fun k hl=>by
  have:=Qz (g:=fun x:Action=>x) (f:=fun x y:Action=>bif x.kind != y.kind then some false else fO x.pat y.pat) (k:=k) (L:=iY a b k) hl (fun _=>rfl) (fun x xs i=>by
   rw[iY];congr 1;funext y;cases(x.kind != y.kind)<;>rfl) (fun x y=>by
   obtain⟨x0,x1⟩:=x;obtain⟨y0,y1⟩:=y;simp only[Qb,bne,fF];by_cases h0:x0=y0<;>by_cases h1:x1=y1<;>simp[h0,h1])
  rw[map_id',map_id']at this;exact this
 have k1:∀(k:Option Bool),a.conds.length=b.conds.length->kD a b k a.conds 0=bif decide (a.conds=b.conds)then k else some false:=fun k hl=>by
  have:=Qz (g:=fun x:aN=>x) (f:=jz) (k:=k) (L:=kD a b k) hl (fun _=>rfl) (fun _ _ _=>rfl) TH;rw[map_id',map_id']at this;exact this
 unfold qf;rw[IF,IF];obtain⟨a0,a1,a2,a3⟩:=a;obtain⟨b0,b1,b2,b3⟩:=b;simp only at k1 k2⊢;simp only[bne,fF,Bool.not_not];by_cases h0:a0=b0;rotate_left
 ·simp[h0]
 by_cases h1:a1=b1;rotate_left
 ·simp[h1]
 by_cases h2:a2.length=b2.length;rotate_left
 ·have:a2≠b2:=fun e=>h2 (by rw[e])
  simp[h2,this]
 by_cases h3:a3.length=b3.length;rotate_left
 ·have:a3≠b3:=fun e=>h3 (by rw[e])
  simp[h3,this]
 rw[k1 _ h2,k2 _ h3];by_cases h4:a2=b2<;>by_cases h5:a3=b3<;>simp[h0,h1,h2,h3,h4,h5]
theorem a4h(a b:au):sY a b=some (decide (a=b)):=by
 unfold sY;exact S6 (c:=aO.c) (f:=qf) (fun k=>mJ a b k) (fun _ _=>rfl) (fun _ _ _ _=>rfl) a7g
theorem VJ(x y:aR):((x.var:Bytes)==y.var&&(x.value:Bytes)==y.value)=decide (x=y):=by
 obtain⟨x0,x1⟩:=x;obtain⟨y0,y1⟩:=y;simp only[fF];by_cases h0:x0=y0<;>by_cases h1:x1=y1<;>simp[h0,h1]
theorem a8N(a b:aT):lD a b=some (decide (a=b)):=by
 unfold lD;exact S6 (c:=aR.c) (f:=fun x y=>some (decide (x=y))) (fun k=>gD a b k) (fun _ _=>rfl) (fun k x xs i=>by rw[gD];congr 1;funext y;rw[VJ];rfl) (fun _ _=>rfl)
theorem a7e(a b:aT):pW a b=some (decide (a=b)):=by
 unfold pW;exact S6 (c:=aR.c) (f:=fun x y=>some (decide (x=y))) (fun k=>jX a b k) (fun _ _=>rfl) (fun k x xs i=>by rw[jX];congr 1;funext y;rw[VJ];rfl) (fun _ _=>rfl)
theorem a5H(a b:ah):oy a b=some (decide (a=b)):=by
 unfold oy;exact S6 (c:=aI.c) (f:=fun x y=>(nP x.facts y.facts).bind fun r=>bif !r then some false else lD x.bind y.bind) (fun k=>gb a b k) (fun _ _=>rfl) (fun k x xs i=>by
  rw[gb];congr 1;funext y;rw[Tm,aA,aA];cases decide (x.facts=y.facts)<;>rfl) (fun x y=>by
  obtain⟨x0,x1⟩:=x;obtain⟨y0,y1⟩:=y;simp only[Tm,a8N,aA];by_cases h0:x0=y0<;>by_cases h1:x1=y1<;>simp[h0,h1])
theorem a4i(a b:ah):oF a b=some (decide (a=b)):=by
 unfold oF;exact S6 (c:=aI.c) (f:=fun x y=>(jG x.facts y.facts).bind fun r=>bif !r then some false else pW x.bind y.bind) (fun k=>ig a b k) (fun _ _=>rfl) (fun k x xs i=>by
  rw[ig];congr 1;funext y;rw[Pm,aA,aA];cases decide (x.facts=y.facts)<;>rfl) (fun x y=>by
  obtain⟨x0,x1⟩:=x;obtain⟨y0,y1⟩:=y;simp only[Pm,a7e,aA];by_cases h0:x0=y0<;>by_cases h1:x1=y1<;>simp[h0,h1])
def QR(a b:aF):Bool:=decide (a.ay.map aQ.shape=b.ay.map aQ.shape)&&(decide (a.nodes.map (fun x=>(x.parent,x.cP,x.cond))=b.nodes.map (fun x=>(x.parent,x.cP,x.cond)))&&decide (a.ends=b.ends))
def Rf(a b:aF):Bool:=decide (a.rules=b.rules)&&(decide (a.ends=b.ends)&&(decide (a.facts=b.facts)&&(decide (a.ay=b.ay)&&decide (a.nodes=b.nodes))))
theorem aAb(a b:aF):rF a b=some (QR a b):=by
 unfold rF QR;rw[IF,IF,IF];by_cases h1:a.ay.length=b.ay.length;rotate_left
 ·simp[h1,Qn h1]
 by_cases h2:a.nodes.length=b.nodes.length;rotate_left
 ·simp[h2,Qn h2]
 by_cases h3:a.ends.length=b.ends.length;rotate_left
 ·have:a.ends≠b.ends:=fun e=>h3 (by rw[e])
  simp[h3,this]
 have k1:=fun k=>Qz (g:=aQ.shape) (f:=fun x y:aQ=>j0 x.shape y.shape) (k:=k) (L:=lE a b k) h1 (fun _=>rfl) (fun _ _ _=>rfl) (fun x y=>XL _ _)
 have k2:=fun k=>Qz (g:=fun x:Node=>(x.parent,x.cP,x.cond)) (f:=fun x y:Node=>bif x.parent != y.parent then some false else bif x.cP != y.cP then some false else oc x.cond y.cond) (k:=k) (L:=j3 a b k) h2 (fun _=>rfl) (fun x xs i=>by
  rw[j3];congr 1;funext y;cases(x.parent != y.parent)<;>cases(x.cP != y.cP)<;>rfl) (fun x y=>by
  simp only[a2t,bne,fF];by_cases q0:x.parent=y.parent<;>by_cases q1:x.cP=y.cP<;>by_cases q2:x.cond=y.cond<;>simp[q0,q1,q2])
 have k3:=fun k=>Qz (g:=fun x:Int=>x) (f:=fun x y:Int=>some (decide (x=y))) (k:=k) (L:=j5 a b k) h3 (fun _=>rfl) (fun x xs i=>by
  rw[j5];congr 1) (fun x y=>rfl)
 rw[k1,k2,k3,map_id',map_id'];simp only[h1,h2,h3,CT,bP,af];cases decide (a.ay.map aQ.shape=b.ay.map aQ.shape)<;>cases decide (a.nodes.map (fun x=>(x.parent,x.cP,x.cond))=b.nodes.map (fun x=>(x.parent,x.cP,x.cond)))<;>cases decide (a.ends=b.ends)<;>rfl
theorem aD2(a b:aF):ot a b=some (Rf a b):=by
 unfold ot;simp only[a4h,a7f,Pm,aA,IF];by_cases h1:a.ay.length=b.ay.length;rotate_left
 ·have:a.ay≠b.ay:=fun e=>h1 (by rw[e])
  simp only[h1,Rf,this,decide_false,cQ,aW,Bool.false_and];cases decide (a.rules=b.rules)<;>cases decide (a.ends=b.ends)<;>cases decide (a.facts=b.facts)<;>rfl
 by_cases h2:a.nodes.length=b.nodes.length;rotate_left
 ·have:a.nodes≠b.nodes:=fun e=>h2 (by rw[e])
  simp only[h1,h2,Rf,this,CT,decide_false,cQ,bP,aW,af,yQ];cases decide (a.rules=b.rules)<;>cases decide (a.ends=b.ends)<;>cases decide (a.facts=b.facts)<;>rfl
 have k1:=fun k=>Qz (g:=fun x:aQ=>x) (f:=fun x y:aQ=>(fO x.shape y.shape).bind fun r=>bif !r then some false else jG x.facts y.facts) (k:=k) (L:=gS a b k) h1 (fun _=>rfl) (fun x xs i=>by
  rw[gS];congr 1;funext y;rw[Qb,aA,aA];cases decide (x.shape=y.shape)<;>rfl) (fun x y=>by
  obtain⟨x0,x1⟩:=x;obtain⟨y0,y1⟩:=y;simp only[Qb,Pm,aA];by_cases q0:x0=y0<;>by_cases q1:x1=y1<;>simp[q0,q1])
 have k2:=fun k=>Qz (g:=fun x:Node=>x) (f:=fun x y:Node=>bif x.parent != y.parent then some false else bif x.cP != y.cP then some false else(jz x.cond y.cond).bind fun r=>bif !r then some false else oF x.tokens y.tokens) (k:=k) (L:=gT a b k) h2 (fun _=>rfl) (fun x xs i=>by
  rw[gT];congr 1;funext y;rw[TH,aA,aA];cases(x.parent != y.parent)<;>cases(x.cP != y.cP)<;>cases decide (x.cond=y.cond)<;>rfl) (fun x y=>by
  obtain⟨x0,x1,x2,x3⟩:=x;obtain⟨y0,y1,y2,y3⟩:=y;simp only[TH,a4i,aA,bne,fF];by_cases q0:x0=y0<;>by_cases q1:x1=y1<;>by_cases q2:x2=y2<;>by_cases q3:x3=y3<;>simp[q0,q1,q2,q3])
 rw[k1,k2,map_id',map_id',map_id',map_id',Rf];simp only[h1,h2,CT,bP,af];cases decide (a.rules=b.rules)<;>cases decide (a.ends=b.ends)<;>cases decide (a.facts=b.facts)<;>cases decide (a.ay=b.ay)<;>cases decide (a.nodes=b.nodes)<;>rfl
end Go.Cx
namespace Go.Cx
open Go.RowKit Go.Proofs Tryz
def AB(s:Bytes):Option Nat:=if 1<=s.length/\s.length<=4 then(match Lib.decFrom 0 s with|some n=>if Lib.decDigits n=s then some n else none|none=>none)else none
def pI(s:Bytes):Int×Bool:=match AB s with|some n=>((n:Int),true)|none=>(0,false)
theorem a17:∀(u:Nat),∀b∈Lib.decDigits u,48<=b.toNat/\b.toNat<=57:=by
 intro u
 induction u using Nat.strongRecOn with
 |_ u ih=>
  have hb:∀v:Nat,v<10->48<=(UInt8.ofNat (48+v)).toNat/\(UInt8.ofNat (48+v)).toNat<=57:=by
   intro v hv;have:(UInt8.ofNat (48+v)).toNat=48+v:=by simp;omega
   omega
  intro b hm;rw[Lib.decDigits]at hm;split at hm
  ·rename_i h10;simp only[eC]at hm;subst hm;exact hb u h10
  ·rename_i h10;rcases ar.1 hm with hm|hm
   ·exact ih (u/10) (by omega) b hm
   ·simp only[eC]at hm;subst hm;exact hb (u%10) (by omega)
theorem a5B(a:Bytes)(k:Int->Option (Int×Bool))(ha:a.length<=4):∀(rest pre:Bytes) (acc:Nat),a=pre++rest->acc<10^pre.length->∀n,rest.length<n->
 iv a k n (acc:Int) (pre.length:Int)=(match Lib.decFrom acc rest with|some m=>k (m:Int)|none=>some (0,false)):=by
 intro rest
 induction rest with
 |nil=>
  intro pre acc h _ n hn;obtain⟨m,rfl⟩:∃m,n=m+1:=⟨n-1,by simp at hn;omega⟩
  have e1:decide ((pre.length:Int)<(a.length:Int))=false:=by simp[h]
  rw[iv,e1];rfl
 |cons x xs ih=>
  intro pre acc h hacc n hn;obtain⟨m,rfl⟩:∃m,n=m+1:=⟨n-1,by simp at hn;omega⟩
  have hl:a.length=pre.length+(xs.length+1):=by rw[h];simp
  have e1:decide ((pre.length:Int)<(a.length:Int))=true:=by rw[hl];simp;omega
  have e4:IntKind.i64.wrap ((pre.length:Int)+1)=((pre++[x]).length:Int):=by rw[Nq (by omega)];simp
  have h10:acc<10000:=eD hacc (vg (by omega) (show pre.length<=4 by omega));have hx:=x.toNat_lt;rw[iv,e1,aW,zZ h,aA,e4];by_cases c1:(x.toNat:Int)<48
  ·have:Lib.digitVal x=none:=by unfold Lib.digitVal;rw[bG (by omega)]
   simp only[Lib.decFrom,this];rw[bU c1,aW]
  ·by_cases c2:(x.toNat:Int)>57
   ·have:Lib.digitVal x=none:=by unfold Lib.digitVal;rw[bG (by omega)]
    simp only[Lib.decFrom,this];rw[b9 c1,af,bU c2,aW]
   ·have hd:Lib.digitVal x=some (x.toNat-48):=by unfold Lib.digitVal;rw[bQ (by omega)]
    have e5:IntKind.i64.wrap ((IntKind.i64.wrap (10*(acc:Int)))+(IntKind.i64.wrap (IntKind.u8.wrap ((x.toNat:Int)-48))))=((acc*10+(x.toNat-48):Nat):Int):=by
     rw[gf (k:=.u8) (tU.u8.2 (by omega)),gf (n:=(10:Int)*(acc:Int)) (tU.i64.2 (by omega)),gf (n:=(x.toNat:Int)-48) (tU.i64.2 (by omega)),gf (tU.i64.2 (by omega))];omega
    simp only[Lib.decFrom,hd];rw[b9 c1,af,b9 c2,af,e5];refine ih (pre++[x]) _ (by simp[h]) ?_ m (by simp at hn;omega);rw[aX,fU,yT];omega
theorem Tl(s:Bytes):oa s=some (pI s):=by
 unfold oa;rw[NR,aA];by_cases hl:1<=s.length/\s.length<=4
 ·have e1:(decide ((s.length:Int)>=1)&&decide ((s.length:Int)<=4))=true:=by simp;omega
  have t:=a5B s (fun z=>((pu z).bind fun I6=>(bif !((I6:Bytes)==s)then(some (0,false))else(some (z,true))))) hl.2 s [] 0 rfl (by simp) fuel (by unfold fuel;omega);rw[e1,bP,af];refine t.trans ?_;unfold pI AB;rw[bQ hl];cases hd:Lib.decFrom 0 s with
  |none=>rfl
  |some m=>
   have hm:=Lib.decFrom_lt s 0 m hd;have h10:m<10000:=by
    have:=vg (n:=10) (by omega) hl.2;omega
   simp only;rw[aAZ _ (tU.i64.2 (by omega)),aA];have e2:Lib.itoa (m:Int)=Lib.decDigits m:=by unfold Lib.itoa;rw[bG (by omega)];simp
   rw[e2];by_cases he:Lib.decDigits m=s
   ·rw[bQ he,he];simp
   ·rw[bG he];have:(Lib.decDigits m==s)=false:=by simpa using he
    rw[this];rfl
 ·have e1:(decide ((s.length:Int)>=1)&&decide ((s.length:Int)<=4))=false:=by
   rw[F5,o9,o9];omega
  rw[e1];unfold pI AB;rw[bG hl];rfl
theorem TG(s:Bytes):mT s=some (pI s):=by
 unfold mT pI AB;by_cases hl:1<=s.length/\s.length<=4
 ·have e1:decide ((s.length:Int)<1)=false:=by simp;omega
  have e2:decide ((s.length:Int)>4)=false:=by simp;omega
  rw[bQ hl,e1,af,e2,af];unfold Bz TL;rw[bQ (by omega)];cases s with
  |nil=>simp at hl
  |cons b t=>
   have fin:∀(m:Nat),Lib.decFrom 0 (b::t)=some m->(bif decide ((m:Int)<0)then some ((0:Int),false)else bif decide ((m:Int)>9999)then some (0,false)else(ke (m:Int)).bind fun y8=>bif !((y8:Bytes)==(b::t))then some (0,false)else some ((m:Int),true))=
    some (match(if Lib.decDigits m=b::t then some m else none)with|some n=>((n:Int),true)|none=>(0,false)):=by
    intro m hd;have hm:=Lib.decFrom_lt (b::t) 0 m hd;have h10:m<10000:=by
     have:=vg (n:=10) (by omega) hl.2;omega
    have e3:decide ((m:Int)<0)=false:=by simp
    have e4:decide ((m:Int)>9999)=false:=by simp;omega
    have e5:Lib.itoa (m:Int)=Lib.decDigits m:=by unfold Lib.itoa;rw[bG (by omega)];simp
    rw[e3,af,e4,af,a7Y,aA,e5];by_cases he:Lib.decDigits m=b::t
    ·rw[bQ he,he];simp
    ·rw[bG he];have:(Lib.decDigits m==(b::t))=false:=by simpa using he
     rw[this];rfl
   have sign:∀(n:Int),b.toNat<48->(bif decide (n<0)then some ((0:Int),false)else bif decide (n>9999)then some (0,false)else(ke n).bind fun y8=>bif !((y8:Bytes)==(b::t))then some (0,false)else some (n,true))=some (0,false):=by
    intro n hb;by_cases hn:n<0
    ·rw[bU hn];rfl
    rw[b9 hn,af,a7Y,aA];cases decide (n>9999)with
    |true=>rfl
    |false=>
     have e5:Lib.itoa n=Lib.decDigits n.toNat:=by unfold Lib.itoa;rw[bG hn]
     have:(Lib.itoa n==(b::t))=false:=by
      rw[e5,dF];intro h;have:=a17 n.toNat b (by rw[h];simp);omega
     rw[this];rfl
   simp only[Lib.atoi];by_cases hb:b=45
   ·subst hb;have hd:Lib.decFrom 0 ((45:UInt8)::t)=none:=by simp[Lib.decFrom,Lib.digitVal]
    rw[bQ (by decide),hd];cases Lib.decNat t with
    |none=>rfl
    |some m=>exact sign _ (by decide)
   ·rw[bG (by simpa using hb)];by_cases YG:b=43
    ·subst YG;have hd:Lib.decFrom 0 ((43:UInt8)::t)=none:=by simp[Lib.decFrom,Lib.digitVal]
     rw[bQ (by decide),hd];cases Lib.decNat t with
     |none=>rfl
     |some m=>exact sign (m:Int) (by decide)
    ·rw[bG (by simpa using YG)];have hdn:Lib.decNat (b::t)=Lib.decFrom 0 (b::t):=by simp[Lib.decNat]
     rw[hdn];cases hd:Lib.decFrom 0 (b::t)with
     |none=>rfl
     |some m=>exact fin m hd
 ·rw[bG hl];by_cases h1:(s.length:Int)<1
  ·rw[bU h1];rfl
  ·have h2:(s.length:Int)>4:=by omega
   rw[b9 h1,af,bU h2];rfl
def yN(a b:Bytes):Int:=if Op.bytesLess a b=true then-1 else if a=b then 0 else 1
def KV(x y:Int):Int:=if x<y then-1 else if x>y then 1 else 0
def DL(a b:Bytes):Int:=match AB a,AB b with
 |some x,some y=>KV x y
 |some _,none=> -1
 |none,some _=>1
 |none,none=>yN a b
def vc{α:Type}(g:α->α->Int):List α->List α->Option Int
 |x::xs,y::ys=>if g x y≠0 then some (g x y)else vc g xs ys
 |_,_=>none
def cmpL{α:Type}(g:α->α->Int)(a b:List α):Int:=match vc g a b with|some z=>z|none=>KV a.length b.length
def pS(a b:aE):Int:=if a.rel≠b.rel then yN a.rel b.rel else cmpL DL a.args b.args
theorem Y4{a b:Bytes}(h:a≠b):yN a b≠0:=by
 unfold yN;split
 ·omega
 ·first|omega| (rw[bG h];omega)
theorem S2(a:Bytes):yN a a=0:=by
 unfold yN;rw[yC];simp
theorem Y0:∀(a b:Bytes),Lib.compareBytes a b=yN a b
 | [],[]=>by simp[Lib.compareBytes,yN,Op.bytesLess]
 | [],_::_=>by simp[Lib.compareBytes,yN,Op.bytesLess]
 |_::_,[]=>by simp[Lib.compareBytes,yN,Op.bytesLess]
 |a::xs,b::ys=>by
  have ih:=Y0 xs ys;simp only[Lib.compareBytes,yN,Op.bytesLess];by_cases h1:a<b
  ·simp[h1]
  ·by_cases h2:b<a
   ·have hne:a≠b:=fun e=>by subst e;exact h1 h2
    simp[h1,h2,hne]
   ·have e:a=b:=by
     rw[F9]at h1 h2;exact UInt8.toNat_inj.1 (by omega)
    subst e;rw[bG h1,bG h1,ih];simp[yN,h1]
theorem Pf{α:Type}{f:α->α->Option Int}{g:α->α->Int}{c:α->aS}{L:List α->Nat->Option Int}{k:Option Int}{b:List α}(ue:∀i,L [] i=k)
 (tR:∀x xs i,L (x::xs) i=bif decide (((i:Int):Int)<((b.map c).length:Int))then((mC b (i:Int)).bind fun y=>((f x y).bind fun z=>(bif (z:Int) != 0 then(some z)else(L xs (i+1)))))else k):
 ∀(l pre rest:List α),b=pre++rest->(∀x∈l,∀y∈rest,f x y=some (g x y))->L l pre.length=(match vc g l rest with|some z=>some z|none=>k):=by
 intro l
 induction l with
 |nil=>intro pre rest h _;rw[ue];cases rest<;>rfl
 |cons x xs ih=>
  intro pre rest h hf;rw[tR];cases rest with
  |nil=>
   have e1:decide ((pre.length:Int)<((b.map c).length:Int))=false:=by simp[h]
   rw[e1];rfl
  |cons y ys=>
   have e1:decide ((pre.length:Int)<((b.map c).length:Int))=true:=by simp[h];omega
   rw[e1,aW,zZ h,aA,hf x (by simp) y (by simp),aA];simp only[vc];have t:=ih (pre++[y]) ys (by simp[h]) (fun x' hx y' hy=>hf x' (by simp[hx]) y' (by simp[hy]));rw[aX,fU]at t;by_cases hz:g x y=0
   ·have e2:(g x y != 0)=false:=by simp[hz]
    rw[e2,af,t,bG (by simp[hz])]
   ·have e2:(g x y != 0)=true:=by simp[hz]
    rw[e2,aW,bQ hz]
theorem Pg(x y:Int):(bif decide (x<y)then some (-1:Int)else bif decide (x>y)then some 1 else some 0)=some (KV x y):=by
 unfold KV;by_cases h1:x<y
 ·simp[h1]
 ·by_cases h2:x>y
  ·simp[h1,h2]
  ·simp[h1,h2]
theorem a6P(a b:Bytes):tj a b=some (yN a b):=by
 unfold tj yN;cases h:Op.bytesLess a b with
 |true=>rfl
 |false=>
  by_cases e:a=b
  ·simp[e]
  ·have e':(a==b)=false:=by simpa using e
   simp[e,e']
theorem a6O(a b:Bytes):jd a b=some (DL a b):=by
 unfold jd DL;rw[Tl,Tl,aA,aA,a6P];unfold pI;cases AB a with
 |none=>cases AB b<;>rfl
 |some x=>
  cases AB b with
  |none=>rfl
  |some y=>
   simp only[aW,bP,af];exact Pg _ _
theorem a1l(x y:Int):iZ x y=some (KV x y):=by
 unfold iZ;exact Pg x y
theorem a5q(a b:Bytes):rG a b=some (yN a b):=by
 unfold rG;show some (Lib.compareBytes a b)=_;rw[Y0]
theorem a9o(a b:Bytes):mD a b=some (DL a b):=by
 unfold mD DL;rw[TG,TG,aA,aA,a5q];unfold pI;cases AB a with
 |none=>cases AB b<;>rfl
 |some x=>
  cases AB b with
  |none=>rfl
  |some y=>
   simp only[aW,a1l,aA]
theorem a2g(a b:aE):er a b=some (pS a b):=by
 unfold er pS;by_cases h:a.rel=b.rel
 ·have e:(a.rel==b.rel)=true:=by simpa using h
  rw[e,bP,af,bG (by simpa using h)];have t:=fun k=>Pf (f:=jd) (g:=DL) (c:=tx) (L:=jI a b k) (b:=b.args) (k:=k) (fun _=>rfl) (fun _ _ _=>rfl) a.args [] b.args rfl (fun x _ y _=>a6O x y)
  refine(t _).trans ?_;unfold cmpL;cases vc DL a.args b.args with
  |some z=>rfl
  |none=>simp only[aZ];exact Pg _ _
 ·have e:(a.rel==b.rel)=false:=by simpa using h
  rw[e,cQ,aW,bQ h,a6P];rfl
theorem a1k(a b:aE):fe a b=some (pS a b):=by
 unfold fe pS;rw[a5q,aA];by_cases h:a.rel=b.rel
 ·have e:(yN a.rel b.rel != 0)=false:=by rw[h,S2];rfl
  rw[e,af,bG (by simpa using h)];have t:=fun k=>Pf (f:=mD) (g:=DL) (c:=tx) (L:=jC a b k) (b:=b.args) (k:=k) (fun _=>rfl) (fun _ _ _=>rfl) a.args [] b.args rfl (fun x _ y _=>a9o x y)
  refine(t _).trans ?_;unfold cmpL;cases vc DL a.args b.args with
  |some z=>rfl
  |none=>simp only[aZ,a1l,aA]
 ·have e:(yN a.rel b.rel != 0)=true:=by simpa using Y4 h
  rw[e,aW,bQ h]
theorem aAW(a b:aI):nu a b=some (cmpL pS a.facts b.facts):=by
 unfold nu;have t:=fun k=>Pf (f:=er) (g:=pS) (c:=aE.c) (L:=iT a b k) (b:=b.facts) (k:=k) (fun _=>rfl) (fun _ _ _=>rfl) a.facts [] b.facts rfl (fun x _ y _=>a2g x y)
 refine(t _).trans ?_;unfold cmpL;cases vc pS a.facts b.facts with
 |some z=>rfl
 |none=>simp only[aZ];exact Pg _ _
theorem a9p(a b:aI):nr a b=some (cmpL pS a.facts b.facts):=by
 unfold nr oC;have t:=Pf (f:=fe) (g:=pS) (c:=aE.c) (L:=eX a.facts b.facts ((iZ ((a.facts.map aE.c).length:Int) ((b.facts.map aE.c).length:Int)).bind fun RJ=>(some RJ))) (b:=b.facts) (k:=_) (fun _=>rfl) (fun _ _ _=>rfl) a.facts [] b.facts rfl (fun x _ y _=>a1k x y);rw[show eX a.facts b.facts _ a.facts 0=_ from t];unfold cmpL;cases vc pS a.facts b.facts with
 |some z=>rfl
 |none=>simp only[aZ,a1l,aA]
def chainB:Option aE->aP->Bool
 |_,[]=>true
 |p,x::xs=>tV x&&(match p with|some q=>decide (pS q x<0)|none=>true)&&chainB (some x) xs
def pK(l:aP):Bool:=chainB none l&&decide (l.length<=24)
theorem Rs{isF:aE->Option Bool}{cmp:aE->aE->Option Int}{a:aP}{L:aP->Nat->Option Bool}{k:Option Bool}(ha:a.length<=1099511627770)(hc:∀x y,cmp x y=some (pS x y))(ue:∀i,L [] i=k)
 (tR:∀x xs i,L (x::xs) i=((isF x).bind fun y=>(bif !(y)then(some false)else(bif decide (((i:Int):Int)>0)then((mC a (IntKind.i64.wrap ((i:Int)-1))).bind fun q=>((cmp q x).bind fun z=>(bif decide ((z:Int)>=0)then(some false)else(L xs (i+1)))))else(L xs (i+1)))))):
 ∀(l pre:aP),a=pre++l->(∀x∈l,isF x=some (tV x))->L l pre.length=bif chainB pre.getLast? l then k else some false:=by
 intro l
 induction l with
 |nil=>intro pre _ _;rw[ue];rfl
 |cons x xs ih=>
  intro pre h hf;have hl:a.length=pre.length+(xs.length+1):=by rw[h];simp
  have t:=ih (pre++[x]) (by simp[h]) (fun y hy=>hf y (by simp[hy]));rw[aX,fU,nj]at t;rw[tR,hf x (by simp),aA,t];simp only[chainB];cases tV x with
  |false=>rfl
  |true=>
   rw[bP,af,fL];rcases yt pre with rfl|⟨p,z,hpz⟩
   ·simp
   ·rw[yq]at hpz;subst hpz;have e0:decide (((p++[z]).length:Int)>0)=true:=by simp<;>omega
    have e1:IntKind.i64.wrap (((p++[z]).length:Int)-1)=(p.length:Int):=by
     rw[gf (tU.i64.2 (by simp at hl⊢;omega))];simp
    have e2:mC a (p.length:Int)=some z:=zZ (xs:=x::xs) (by rw[h];simp);rw[e0,aW,e1,e2,aA,hc,aA,nj];by_cases hz:pS z x<0
    ·have e3:decide (pS z x>=0)=false:=by simp;omega
     rw[e3,af];show _=bif (decide (pS z x<0)&&chainB (some x) xs)then k else some false
     rw[bU hz,fL]
    ·have e3:decide (pS z x>=0)=true:=by simp;omega
     rw[e3,aW];show _=bif (decide (pS z x<0)&&chainB (some x) xs)then k else some false
     rw[b9 hz];rfl
theorem a6M(l:aP)(h:jy aE.wt l<=1048576):qm l=some (pK l):=by
 unfold qm pK;have hl:=gh aE.wt l;have t:=Rs (isF:=pM) (cmp:=er) (a:=l) (L:=kM l (some (decide ((((l.map aE.c).length:Int):Int)<=24)))) (k:=_) (by omega) a2g (fun _=>rfl) (fun _ _ _=>rfl) l [] rfl (fun x hx=>a2k x (by have:=iV (w:=aE.wt) hx;omega));refine t.trans ?_;have e:decide (((l.map aE.c).length:Int)<=24)=decide (l.length<=24):=by rw[aZ];congr 1;rw[zL];omega
 rw[e];show(bif chainB none l then _ else _)=_;cases chainB none l<;>rfl
theorem a5p(l:aP)(h:jy aE.wt l<=1048576):qe l=some (pK l):=by
 unfold qe pK;have hl:=gh aE.wt l;have t:=Rs (isF:=pL) (cmp:=fe) (a:=l) (L:=iW l (some true)) (k:=_) (by omega) a1k (fun _=>rfl) (fun _ _ _=>rfl) l [] rfl (fun x hx=>a1p x (by have:=iV (w:=aE.wt) hx;omega));rw[show iW l (some true) l 0=_ from t];by_cases h24:l.length<=24
 ·have e:decide (((l.map aE.c).length:Int)>24)=false:=by rw[aZ];simp;omega
  rw[e,af,bU h24,uj];show(bif chainB none l then _ else _)=_;cases chainB none l<;>rfl
 ·have e:decide (((l.map aE.c).length:Int)>24)=true:=by rw[aZ];simp;omega
  rw[e,aW,b9 h24,yQ]
end Go.Cx
namespace Go.Cx
open Go.RowKit Go.Proofs Tryz
def PB(b:aT):Prop:=b.length<=1048576/\∀x∈b,x.var.length<=1048576/\x.value.length<=1048576
theorem PB.nil:PB []:=⟨by simp,by simp⟩
def wv:Option aR->aT->Bool
 |_,[]=>true
 |p,x::xs=>lH x.var&&(jm x.value&&((match p with|some q=>Op.bytesLess q.var x.var|none=>true)&&wv (some x) xs))
def oq(b:aT):Bool:=wv none b&&decide (b.length<=6)
theorem O4{b:aT}(h:oq b=true):b.length<=6:=by
 unfold oq at h;simp only[aY,bI]at h;exact h.2
theorem UU{isV isA:Bytes->Option Bool}{a:aT}{L:aT->Nat->Option Bool}{k:Option Bool}(ha:a.length<=1099511627770)(hV:∀x:Bytes,x.length<=1048576->isV x=some (lH x))(hA:∀x:Bytes,x.length<=1048576->isA x=some (jm x))(ue:∀i,L [] i=k)
 (tR:∀x xs i,L (x::xs) i=((isV x.var).bind fun y=>(bif !(y)then(some false)else((isA x.value).bind fun z=>(bif !(z)then(some false)else(bif decide (((i:Int):Int)>0)then((mC a (IntKind.i64.wrap ((i:Int)-1))).bind fun q=>(bif !(Op.bytesLess q.var x.var)then(some false)else(L xs (i+1))))else(L xs (i+1)))))))):
 ∀(l pre:aT),a=pre++l->(∀x∈l,x.var.length<=1048576/\x.value.length<=1048576)->L l pre.length=bif wv pre.getLast? l then k else some false:=by
 intro l
 induction l with
 |nil=>intro pre _ _;rw[ue];rfl
 |cons x xs ih=>
  intro pre h hf;have hl:a.length=pre.length+(xs.length+1):=by rw[h];simp
  have t:=ih (pre++[x]) (by simp[h]) (fun y hy=>hf y (by simp[hy]));rw[aX,fU,nj]at t;rw[tR,hV _ (hf x (by simp)).1,aA,hA _ (hf x (by simp)).2,aA,t];simp only[wv];cases lH x.var with
  |false=>rfl
  |true=>
   cases jm x.value with
   |false=>rfl
   |true=>
    simp only[bP,af,fL];rcases yt pre with rfl|⟨p,z,hpz⟩
    ·simp
    ·rw[yq]at hpz;subst hpz;have e0:decide (((p++[z]).length:Int)>0)=true:=by simp<;>omega
     have e1:IntKind.i64.wrap (((p++[z]).length:Int)-1)=(p.length:Int):=by
      rw[gf (tU.i64.2 (by simp at hl⊢;omega))];simp
     have e2:mC a (p.length:Int)=some z:=zZ (xs:=x::xs) (by rw[h];simp);rw[e0,aW,e1,e2,aA,nj];show _=bif (Op.bytesLess z.var x.var&&wv (some x) xs)then k else some false
     cases Op.bytesLess z.var x.var<;>rfl
theorem YX(b:aT)(h:PB b):kx b=some (oq b):=by
 unfold kx oq;have t:=fun k=>UU (isV:=iL) (isA:=fS) (a:=b) (L:=je b k) (k:=k) (by have:=h.1;omega) VQ P8 (fun _=>rfl) (fun _ _ _=>rfl) b [] rfl h.2
 refine(t _).trans ?_;have e:decide (((b.map aR.c).length:Int)<=6)=decide (b.length<=6):=by rw[aZ];congr 1;rw[zL];omega
 rw[e];show(bif wv none b then _ else _)=_;cases wv none b<;>rfl
theorem YM(b:aT)(h:PB b):kf b=some (oq b):=by
 unfold kf oq;have t:=fun k=>UU (isV:=lQ) (isA:=fN) (a:=b) (L:=gu b k) (k:=k) (by have:=h.1;omega) ZR Ow (fun _=>rfl) (fun _ _ _=>rfl) b [] rfl h.2
 rw[show gu b (some true) b 0=_ from t _];by_cases h6:b.length<=6
 ·have e:decide (((b.map aR.c).length:Int)>6)=false:=by rw[aZ];simp;omega
  rw[e,af,bU h6,uj];show(bif wv none b then _ else _)=_;cases wv none b<;>rfl
 ·have e:decide (((b.map aR.c).length:Int)>6)=true:=by rw[aZ];simp;omega
  rw[e,aW,b9 h6,yQ]
def lJ(t:Bytes):aT->Option Bytes
 | []=>none
 |x::xs=>bif x.var==t then some x.value else lJ t xs
def BJ(b:aT)(t:Bytes):Bytes×Bool:=bif jm t then(t,true)else bif lH t then(match lJ t b with|some v=>(v,true)|none=>([],false))else([],false)
theorem a8Q(b:aT)(t:Bytes)(ht:t.length<=1048576):qI b t=some (BJ b t):=by
 unfold qI BJ;have key:∀(l:aT) (i:Nat),iM b t (some ([],false)) l i=some (bif lH t then(match lJ t l with|some v=>(v,true)|none=>([],false))else([],false)):=by
  intro l
  induction l with
  |nil=>intro i;rw[iM];cases lH t<;>rfl
  |cons x xs ih=>
   intro i;rw[iM,VQ t ht,aA,ih];simp only[lJ];cases x.var==t<;>cases lH t<;>rfl
 rw[P8 t ht,aA,key];cases jm t<;>rfl
theorem a7j(b:aT)(t:Bytes)(ht:t.length<=1048576):qA b t=some (BJ b t):=by
 unfold qA BJ;have key:∀(l:aT) (i:Nat),lS b t (some ([],false)) l i=some (match lJ t l with|some v=>(v,true)|none=>([],false)):=by
  intro l
  induction l with
  |nil=>intro i;rfl
  |cons x xs ih=>
   intro i;rw[lS,ih];simp only[lJ];cases x.var==t<;>rfl
 rw[Ow t ht,aA,ZR t ht,aA,key];cases jm t<;>cases lH t<;>rfl
theorem XJ(b:aT)(h:b.length<=1099511627776):rY b=some b:=by
 unfold rY;rw[VO h (by decide)];simp
theorem Wp(b:aT)(h:b.length<=1099511627776):jH b=some b:=by
 unfold jH;rw[VO h (by decide)];simp
def C7(v val:Bytes):aT->aT
 | []=>[⟨v,val⟩]
 |x::xs=>bif !(Op.bytesLess x.var v||x.var==v)then⟨v,val⟩::x::xs else x::C7 v val xs
theorem R7(v val:Bytes)(b:aT):(C7 v val b).length=b.length+1:=by
 induction b with
 |nil=>rfl
 |cons x xs ih=>simp only[C7];cases !(Op.bytesLess x.var v||x.var==v)<;>simp[ih]
theorem VS(v val:Bytes)(b:aT){x:aR}(h:x∈C7 v val b):x=⟨v,val⟩\/x∈b:=by
 induction b with
 |nil=>simp[C7]at h;exact .inl h
 |cons y ys ih=>
  simp only[C7]at h;cases hc: !(Op.bytesLess y.var v||y.var==v)with
  |true=>
   rw[hc,aW]at h;rcases bM.1 h with h|h
   ·exact .inl h
   ·exact .inr h
  |false=>
   rw[hc,af]at h;rcases bM.1 h with h|h
   ·exact .inr (by simp[h])
   ·rcases ih h with h|h
    ·exact .inl h
    ·exact .inr (by simp[h])
theorem Ya{γ:Type}{v val:Bytes}{L:aT->Nat->Bool->aT->Option γ}{k:Bool->aT->Option γ}{K:aT->Option γ}(hk1:∀w,k true w=K w)(hk2:∀w:aT,w.length<1099511627770->k false w=K (w++[⟨v,val⟩]))(ue:∀i d w,L [] i d w=k d w)
 (tR:∀x xs i d w,L (x::xs) i d w=(bif !(d)then(bif !(Op.bytesLess x.var v||(x.var:Bytes)==v)then(bif room ((w.map aR.c).length+([[D.str v,D.str val]]).length) 32 then(bif room (((w.map aR.c)++([[D.str v,D.str val]])).length+([[D.str x.var,D.str x.value]]).length) 32 then(L xs (i+1) true ((w++([(⟨v,val⟩:aR)]))++([x])))else none)else none)else(bif room ((w.map aR.c).length+([[D.str x.var,D.str x.value]]).length) 32 then(L xs (i+1) d (w++([x])))else none))else(bif room ((w.map aR.c).length+([[D.str x.var,D.str x.value]]).length) 32 then(L xs (i+1) d (w++([x])))else none))):
 ∀(l:aT) (i:Nat) (w:aT),w.length+l.length<1099511627760->L l i false w=K (w++C7 v val l):=by
 have c1:∀(l:aT) (i:Nat) (w:aT),w.length+l.length<1099511627765->L l i true w=K (w++l):=by
  intro l
  induction l with
  |nil=>intro i w _;rw[ue,hk1,cN]
  |cons x xs ih=>
   intro i w hw;simp only[aL]at hw;rw[tR,bP,af,mW (by omega) (by decide),aW,ih (i+1) (w++[x]) (by simp;omega)];simp
 intro l
 induction l with
 |nil=>intro i w hw;simp only[bK]at hw;rw[ue,hk2 _ (by omega)];rfl
 |cons x xs ih=>
  intro i w hw;simp only[aL]at hw;have r1:∀y:aS,room ((w.map aR.c).length+([y]).length) 32=true:=fun y=>mW (by omega) (by decide)
  have r2:room (((w.map aR.c)++([[D.str v,D.str val]])).length+([[D.str x.var,D.str x.value]]).length) 32=true:=KH (by simp;omega) (by decide);have t1:=ih (i+1) (w++[x]) (by simp;omega);have t2:=c1 xs (i+1) ((w++[⟨v,val⟩])++[x]) (by simp;omega);rw[tR,cQ,aW,r1,r1,r2];simp only[aW,C7];cases !(Op.bytesLess x.var v||x.var==v)with
  |true=>rw[aW,aW,t2];simp
  |false=>rw[af,af,t1];simp
theorem aAl(b:aT)(v val:Bytes)(h:b.length<1099511627700):yg b v val=some (C7 v val b):=by
 unfold yg;exact Ya (v:=v) (val:=val) (K:=fun w=>some w) (L:=mV b v val (fun(z:Bool) (q:aT)=>(bif !(z)then(bif room ((q.map aR.c).length+([[D.str v,D.str val]]).length) 32 then(some (q++([(⟨v,val⟩:aR)])))else none)else(some q)))) (fun w=>rfl) (fun w hw=>by show(bif !false then _ else _)=_;rw[mW (by omega) (by decide)];rfl) (fun _ _ _=>rfl) (fun _ _ _ _ _=>rfl) b 0 [] (by simp;omega)
def He(b:aT)(v val:Bytes):aT×Bool:=bif oq b&&(lH v&&jm val)then(match lJ v b with|some o=>bif o==val then(b,true)else([],false)|none=>bif decide (b.length=6)then([],false)else(C7 v val b,true))else([],false)
theorem Y6{b:aT}{v val:Bytes}(h:PB b)(hv:v.length<=1048576)(hl:val.length<=1048576):PB (He b v val).1:=by
 unfold He;cases hb:oq b&&(lH v&&jm val)with
 |false=>exact PB.nil
 |true=>
  rw[aW];have h6:b.length<=6:=O4 (by simp only[aY]at hb;exact hb.1);cases lJ v b with
  |some o=>simp only;cases o==val<;>first|exact h|exact PB.nil
  |none=>
   simp only;cases decide (b.length=6)with
   |true=>exact PB.nil
   |false=>
    refine⟨by simp only[af,R7];omega,fun x hx=>?_⟩;rcases VS _ _ _ hx with rfl|hx
    ·exact⟨hv,hl⟩
    ·exact h.2 x hx
theorem aDN(b:aT)(v val:Bytes)(h:PB b)(hv:v.length<=1048576)(hl:val.length<=1048576):vD b v val=some (He b v val):=by
 unfold vD He;have hlen:=h.1;rw[YX b h,aA,VQ v hv,aA,P8 val hl,aA,a8Q b v hv,aA,XJ b (by omega),aA,aAl b v val (by omega),aA];have e6:((((b.map aR.c).length:Int):Int)==6)=decide (b.length=6):=by
  rw[aZ,bp];simp;omega
 rw[e6];cases hb:oq b with
 |false=>rfl
 |true=>
  cases hvv:lH v with
  |false=>rfl
  |true=>
   cases jm val with
   |false=>rfl
   |true=>
    have Uw:BJ b v=(match lJ v b with|some o=>(o,true)|none=>([],false)):=by unfold BJ;rw[BK hvv,hvv];rfl
    rw[Uw];simp only[bP,af,fL,uj,aW];cases lJ v b with
    |some o=>simp only[aW];cases o==val<;>rfl
    |none=>simp only[af];cases decide (b.length=6)<;>rfl
theorem aD1(b:aT)(v val:Bytes)(h:PB b)(hv:v.length<=1048576)(hl:val.length<=1048576):uo b v val=some (He b v val):=by
 unfold uo He;have hlen:=h.1;have t:=(Ya (v:=v) (val:=val) (K:=fun w=>some ((w,true):aT×Bool)) (L:=kZ b v val (fun(z:Bool) (q:aT)=>(bif !(z)then(bif room ((q.map aR.c).length+([[D.str v,D.str val]]).length) 32 then(some (q++([(⟨v,val⟩:aR)]),true))else none)else(some (q,true))))) (fun w=>rfl) (fun w hw=>by show(bif !false then _ else _)=_;rw[mW (by omega) (by decide)];rfl) (fun _ _ _=>rfl) (fun _ _ _ _ _=>rfl) b 0 [] (by simp;omega))
 rw[YM b h,aA,ZR v hv,aA,Ow val hl,aA,a7j b v hv,aA,Wp b (by omega),aA,t];cases hb:oq b with
 |false=>rfl
 |true=>
  have h6:=O4 hb;have e6:decide ((((b.map aR.c).length:Int):Int)>=6)=decide (b.length=6):=by
   rw[aZ];congr 1;rw[zL];omega
  rw[e6];cases hvv:lH v with
  |false=>rfl
  |true=>
   cases jm val with
   |false=>rfl
   |true=>
    have Uw:BJ b v=(match lJ v b with|some o=>(o,true)|none=>([],false)):=by unfold BJ;rw[BK hvv,hvv];rfl
    rw[Uw];simp only[bP,af,fL,uj,aW];cases lJ v b with
    |some o=>simp only[aW];cases o==val<;>rfl
    |none=>simp only[af];cases decide (b.length=6)<;>rfl
def PV:aJ->aJ->aT->aT×Bool
 | [],_,w=>(w,true)
 |_::_,[],_=>([],false)
 |x::xs,y::ys,w=>bif jm x then(bif x==y then PV xs ys w else([],false))else(bif (He w x y).2 then PV xs ys (He w x y).1 else([],false))
def ug(p f:aE)(b:aT):aT×Bool:=bif yo p&&(tV f&&(oq b&&(p.rel==f.rel&&decide (p.args.length=f.args.length))))then PV p.args f.args b else([],false)
theorem TP:∀(l r:aJ) (w:aT),PB w->(∀x∈l,x.length<=1048576)->(∀x∈r,x.length<=1048576)->PB (PV l r w).1
 | [],_,w,h,_,_=>h
 |_::_,[],_,_,_,_=>PB.nil
 |x::xs,y::ys,w,h,hl,hr=>by
  simp only[PV];have i1:=TP xs ys w h (fun z hz=>hl z (by simp[hz])) (fun z hz=>hr z (by simp[hz]));have i2:=TP xs ys (He w x y).1 (Y6 h (hl x (by simp)) (hr y (by simp))) (fun z hz=>hl z (by simp[hz])) (fun z hz=>hr z (by simp[hz]));cases jm x with
  |true=>cases x==y<;>first|exact i1|exact PB.nil
  |false=>cases(He w x y).2<;>first|exact i2|exact PB.nil
theorem a4u{p f:aE}{b:aT}(hb:PB b)(hp:p.wt<=1048576)(hf:f.wt<=1048576):PB (ug p f b).1:=by
 unfold ug;cases yo p&&(tV f&&(oq b&&(p.rel==f.rel&&decide (p.args.length=f.args.length))))with
 |false=>exact PB.nil
 |true=>exact TP _ _ _ hb (fun x hx=>aE.vI hp hx) (fun x hx=>aE.vI hf hx)
theorem YQ{isA:Bytes->Option Bool}{ext:aT->Bytes->Bytes->Option (aT×Bool)}{fa:aJ}{L:aJ->Nat->aT->Option (aT×Bool)}(hA:∀x:Bytes,x.length<=1048576->isA x=some (jm x))(hE:∀w x y,PB w->x.length<=1048576->y.length<=1048576->ext w x y=some (He w x y))(ue:∀i w,L [] i w=some (w,true))
 (tR:∀x xs i w,L (x::xs) i w=((isA x).bind fun y=>(bif y then((mC fa (i:Int)).bind fun z=>(bif !((x:Bytes)==z)then(some ([],false))else(L xs (i+1) w)))else((mC fa (i:Int)).bind fun z=>((ext w x z).bind fun q=>(bif !(q.2)then(some ([],false))else(L xs (i+1) q.1))))))):
 ∀(l pre rest:aJ) (w:aT),fa=pre++rest->l.length=rest.length->(∀x∈l,x.length<=1048576)->(∀x∈rest,x.length<=1048576)->PB w->L l pre.length w=some (PV l rest w):=by
 intro l
 induction l with
 |nil=>intro pre rest w _ _ _ _ _;rw[ue];simp[PV]
 |cons x xs ih=>
  intro pre rest w h hl hx hr hw;cases rest with
  |nil=>simp at hl
  |cons y ys=>
   have t:=fun w' hw'=>ih (pre++[y]) ys w' (by simp[h]) (by simpa using hl) (fun z hz=>hx z (by simp[hz])) (fun z hz=>hr z (by simp[hz])) hw'
   simp only[aX,fU]at t;rw[tR,hA x (hx x (by simp)),aA,zZ h,aA,aA,hE w x y hw (hx x (by simp)) (hr y (by simp)),aA];simp only[PV];cases jm x with
   |true=>
    simp only[aW];cases x==y with
    |true=>simp only[bP,af,aW];exact t w hw
    |false=>rfl
   |false=>
    simp only[af];cases hq:(He w x y).2 with
    |true=>simp only[bP,af,aW];exact t _ (Y6 hw (hx x (by simp)) (hr y (by simp)))
    |false=>rfl
theorem a2B(a b:aJ):((((a.map tx).length:Int):Int) != ((b.map tx).length:Int))= !decide (a.length=b.length):=by
 rw[aZ,aZ];by_cases h:a.length=b.length
 ·simp[h]
 ·rw[b9 h];simp;omega
theorem a8F(p f:aE)(b:aT)(hp:p.wt<=1048576)(hf:f.wt<=1048576)(hb:PB b):jL p f b=some (ug p f b):=by
 unfold jL ug;have hlen:=hb.1;rw[a8I p hp,aA,a2k f hf,aA,YX b hb,aA,XJ b (by omega),aA,a2B];cases yo p with
 |false=>rfl
 |true=>
  cases tV f with
  |false=>rfl
  |true=>
   cases oq b with
   |false=>rfl
   |true=>
    cases p.rel==f.rel with
    |false=>rfl
    |true=>
     by_cases h:p.args.length=f.args.length
     ·rw[bU h];have t:=YQ (isA:=fS) (ext:=vD) (fa:=f.args) (L:=jh p f (fun(q:aT)=>(some (q,true)))) P8 (fun w x y hw hx hy=>aDN w x y hw hx hy) (fun _ _=>rfl) (fun _ _ _ _=>rfl) p.args [] f.args b rfl h (fun x hx=>aE.vI hp hx) (fun x hx=>aE.vI hf hx) hb;exact t
     ·rw[b9 h];rfl
theorem a7a(p f:aE)(b:aT)(hp:p.wt<=1048576)(hf:f.wt<=1048576)(hb:PB b):jF p f b=some (ug p f b):=by
 unfold jF ug;have hlen:=hb.1;rw[a7c p hp,aA,a1p f hf,aA,YM b hb,aA,Wp b (by omega),aA,a2B];cases yo p with
 |false=>rfl
 |true=>
  cases tV f with
  |false=>rfl
  |true=>
   cases oq b with
   |false=>rfl
   |true=>
    cases p.rel==f.rel with
    |false=>rfl
    |true=>
     by_cases h:p.args.length=f.args.length
     ·rw[bU h];have t:=YQ (isA:=fN) (ext:=uo) (fa:=f.args) (L:=jV p f (fun(q:aT)=>(some (q,true)))) Ow (fun w x y hw hx hy=>aD1 w x y hw hx hy) (fun _ _=>rfl) (fun _ _ _ _=>rfl) p.args [] f.args b rfl h (fun x hx=>aE.vI hp hx) (fun x hx=>aE.vI hf hx) hb;exact t
     ·rw[b9 h];rfl
def ltB(l r:Bytes):Bool:=match AB l,AB r with|some x,some y=>decide (x<y)|_,_=>false
def a1O(c:aN)(b:aT):Bool:=Nn c&&(oq b&&((BJ b c.left).2&&((BJ b c.right).2&&(bif decide (c.kind=3)then(BJ b c.left).1==(BJ b c.right).1 else bif decide (c.kind=4)then !((BJ b c.left).1==(BJ b c.right).1)else ltB (BJ b c.left).1 (BJ b c.right).1))))
theorem zc(a b:Int):(a==b)=decide (a=b):=by rw[bp];simp
theorem aAd(c:aN)(b:aT)(hc:c.wt<=1048576)(hb:PB b):tL c b=some (a1O c b):=by
 unfold tL a1O;rw[a2x c hc,aA,YX b hb,aA,a8Q b c.left (aN.Ca hc),aA,a8Q b c.right (aN.AF hc),aA,zc,zc];cases Nn c with
 |false=>rfl
 |true=>
  cases oq b with
  |false=>rfl
  |true=>
   cases(BJ b c.left).2 with
   |false=>rfl
   |true=>
    cases(BJ b c.right).2 with
    |false=>rfl
    |true=>
     cases decide (c.kind=3)with
     |true=>rfl
     |false=>
      cases decide (c.kind=4)with
      |true=>rfl
      |false=>
       simp only[bP,af,fL];unfold uV ltB;rw[Tl,aA,aA,Tl,aA,aA,a6O,aA];unfold pI DL;cases AB (BJ b c.left).1 with
       |none=>rfl
       |some x=>
        cases AB (BJ b c.right).1 with
        |none=>rfl
        |some y=>
         simp only[aW]
         congr 1
         unfold KV;by_cases h:x<y
         ·have h1:(x:Int)<y:=by omega
          simp[h1,h]
         ·have h1:¬(x:Int)<y:=by omega
          by_cases h2:(x:Int)>y
          ·simp[h1,h,h2]
          ·simp[h1,h,h2]
theorem a9w(c:aN)(b:aT)(hc:c.wt<=1048576)(hb:PB b):sO c b=some (a1O c b):=by
 unfold sO a1O;rw[aA5 c hc,aA,YM b hb,aA,a7j b c.left (aN.Ca hc),aA,a7j b c.right (aN.AF hc),aA,zc,zc];cases Nn c with
 |false=>rfl
 |true=>
  cases oq b with
  |false=>rfl
  |true=>
   cases(BJ b c.left).2 with
   |false=>rfl
   |true=>
    cases(BJ b c.right).2 with
    |false=>rfl
    |true=>
     cases decide (c.kind=3)with
     |true=>rfl
     |false=>
      cases decide (c.kind=4)with
      |true=>rfl
      |false=>
       simp only[bP,af,fL];unfold ltB;rw[TG,aA,TG,aA];unfold pI;cases AB (BJ b c.left).1 with
       |none=>rfl
       |some x=>
        cases AB (BJ b c.right).1 with
        |none=>rfl
        |some y=>
         simp only[aW]
         congr 1
         by_cases h:x<y
         ·simp[h]
         ·simp[h]
def uc(p:aE)(b:aT)(fs:aP):aP:=fs.filter fun f=>(ug p f b).2
def FS(fs:aP):Prop:=fs.length<=1048576/\∀f∈fs,f.wt<=1048576
theorem YA{γ:Type}{mf:aE->Option (aT×Bool)}{cp:aE->Option aE}{p:aE}{b:aT}{L:aP->Nat->aP->Option γ}{k:aP->Option γ}(hm:∀f:aE,f.wt<=1048576->mf f=some (ug p f b))(hc:∀f:aE,f.wt<=1048576->cp f=some f)(ue:∀i w,L [] i w=k w)
 (tR:∀x xs i w,L (x::xs) i w=((mf x).bind fun y=>(bif y.2 then((cp x).bind fun z=>(bif room ((w.map aE.c).length+([[D.str z.rel,D.sl (z.args.map tx)]]).length) 40 then(L xs (i+1) (w++([z])))else none))else(L xs (i+1) w)))):
 ∀(l:aP) (i:Nat) (w:aP),(∀f∈l,f.wt<=1048576)->w.length+l.length<1099511627700->L l i w=k (w++uc p b l):=by
 intro l
 induction l with
 |nil=>intro i w _ _;rw[ue];simp[uc]
 |cons x xs ih=>
  intro i w hl hw;simp only[aL]at hw;have hx:=hl x (by simp);rw[tR,hm x hx,aA,hc x hx,aA,mW (by omega) (by decide),aW];have e:uc p b (x::xs)=bif (ug p x b).2 then x::uc p b xs else uc p b xs:=by
   unfold uc;rw[List.filter_cons];cases(ug p x b).2<;>rfl
  rw[e];cases(ug p x b).2 with
  |true=>rw[aW,aW,ih _ _ (fun f hf=>hl f (by simp[hf])) (by simp;omega)];simp
  |false=>rw[af,af,ih _ _ (fun f hf=>hl f (by simp[hf])) (by omega)]
theorem a8D(p:aE)(b:aT)(fs:aP)(hp:p.wt<=1048576)(hb:PB b)(hf:FS fs):gQ p b fs=some (uc p b fs):=by
 unfold gQ;have h1:=hf.1;refine(YA (mf:=fun f=>jL p f b) (cp:=ew) (p:=p) (b:=b) (L:=gB p b fs _) (k:=fun q=>some q) (fun f h=>a8F p f b hp h hb) (fun f h=>Od f (by have:=aE.dV h;omega)) (fun _ _=>rfl) (fun _ _ _ _=>rfl) fs 0 [] hf.2 (by simp;omega)).trans ?_;simp
theorem a9s(p:aE)(b:aT)(fs:aP)(hp:p.wt<=1048576)(hb:PB b)(hf:FS fs):iX p b fs=some (uc p b fs):=by
 unfold iX;have h1:=hf.1;refine(YA (mf:=fun f=>jF p f b) (cp:=eE) (p:=p) (b:=b) (L:=fw p b fs _) (k:=fun q=>some q) (fun f h=>a7a p f b hp h hb) (fun f h=>OX f (by have:=aE.dV h;omega)) (fun _ _=>rfl) (fun _ _ _ _=>rfl) fs 0 [] hf.2 (by simp;omega)).trans ?_;simp
def OU(c:aN)(b:aT)(fs:aP):Bool:=sK c&&(oq b&&(bif decide (c.kind=1)then decide (0<(uc c.pat b fs).length)else bif decide (c.kind=2)then decide ((uc c.pat b fs).length=0)else a1O c b))
theorem a2A(l:aP):decide ((((l.map aE.c).length:Int):Int)>0)=decide (0<l.length):=by rw[aZ];congr 1;rw[zL];omega
theorem len_eq(l:aP):((((l.map aE.c).length:Int):Int)==0)=decide (l.length=0):=by rw[aZ,zc];congr 1;rw[zL];omega
theorem aAc(c:aN)(b:aT)(fs:aP)(hc:c.wt<=1048576)(hb:PB b)(hf:FS fs):tK c b fs=some (OU c b fs):=by
 unfold tK OU;rw[a2h c hc,aA,YX b hb,aA,a8D c.pat b fs (aN.fJ hc) hb hf,aA,aA,aAd c b hc hb,aA,zc,zc,a2A,len_eq];cases sK c with
 |false=>rfl
 |true=>
  cases oq b with
  |false=>rfl
  |true=>cases decide (c.kind=1)<;>cases decide (c.kind=2)<;>rfl
theorem a9v(c:aN)(b:aT)(fs:aP)(hc:c.wt<=1048576)(hb:PB b)(hf:FS fs):sN c b fs=some (OU c b fs):=by
 unfold sN OU;rw[a1m c hc,aA,YM b hb,aA,a9s c.pat b fs (aN.fJ hc) hb hf,aA,aA,a9w c b hc hb,aA,zc,zc,a2A,len_eq];cases sK c with
 |false=>rfl
 |true=>
  cases oq b with
  |false=>rfl
  |true=>cases decide (c.kind=1)<;>cases decide (c.kind=2)<;>rfl
end Go.Cx
namespace Go.Cx
open Go.RowKit Go.Proofs Tryz
def Fix(h:Bytes->Bytes):Prop:=∀y,jm y=true->h y=y
def Cov(a b:aE):Prop:=yo a=true/\yo b=true/\a.rel=b.rel/\∃h,b.args=a.args.map h/\Fix h
theorem Eh{t v val:Bytes}(h:v≠t):∀(w:aT),lJ t (C7 v val w)=lJ t w
 | []=>by
  have:(v==t)=false:=by simpa using h
  simp only[C7,lJ,this,af]
 |x::xs=>by
  have hv:(v==t)=false:=by simpa using h
  rw[C7];cases !(Op.bytesLess x.var v||x.var==v)with
  |true=>rw[aW,lJ];simp only[hv,af]
  |false=>rw[af,lJ,lJ,Eh h xs]
theorem OR{v val:Bytes}:∀(w:aT),lJ v w=none->lJ v (C7 v val w)=some val
 | [],_=>by simp[C7,lJ]
 |x::xs,h=>by
  rw[lJ]at h;rw[C7];cases hx:x.var==v with
  |true=>rw[hx]at h;cases h
  |false=>
   rw[hx,af]at h;cases !(Op.bytesLess x.var v||false)with
   |true=>rw[aW,lJ];simp
   |false=>rw[af,lJ,hx,af];exact OR xs h
theorem SA{t o:Bytes}:∀ {w:aT},lJ t w=some o->∃p∈w,p.var=t/\p.value=o
 |x::xs,h=>by
  rw[lJ]at h;cases hx:x.var==t with
  |true=>rw[hx,aW]at h;cases h;exact⟨x,by simp,by simpa using hx,rfl⟩
  |false=>
   rw[hx,af]at h;obtain⟨p,hp,h1⟩:=SA h;exact⟨p,by simp[hp],h1⟩
theorem zi(p:Option aR)(x:aR)(xs:aT):wv p (x::xs)=(lH x.var&&(jm x.value&&((match p with|some q=>Op.bytesLess q.var x.var|none=>true)&&wv (some x) xs))):=by
 cases p<;>rfl
theorem Rv{v val:Bytes}(hv:lH v=true)(ha:jm val=true):∀(w:aT) (p:Option aR),wv p w=true->lJ v w=none->(∀q,p=some q->Op.bytesLess q.var v=true)->wv p (C7 v val w)=true
 | [],p,_,_,hp=>by
  simp only[C7,wv,hv,ha,fL,uj];cases p with
  |none=>rfl
  |some q=>exact hp q rfl
 |x::xs,p,hc,hf,hp=>by
  rw[zi]at hc;simp only[aY]at hc;obtain⟨c1,c2,c3,c4⟩:=hc;rw[lJ]at hf;cases hx:x.var==v with
  |true=>rw[hx]at hf;cases hf
  |false=>
   rw[hx,af]at hf;rw[C7,hx,uk];cases hl:Op.bytesLess x.var v with
   |true=>
    rw[bP,af,zi];simp only[aY];exact⟨c1,c2,c3,Rv hv ha xs (some x) c4 hf (fun q hq=>by cases hq;exact hl)⟩
   |false=>
    have h2:Op.bytesLess v x.var=true:=by
     cases h3:Op.bytesLess v x.var with
     |true=>rfl
     |false=>
      have:=KU hl h3;rw[this]at hx;simp at hx
    rw[cQ,aW,zi];simp only[aY];refine⟨hv,ha,?_,?_⟩
    ·cases p with
     |none=>rfl
     |some q=>exact hp q rfl
    ·rw[zi];simp only[aY];exact⟨c1,c2,h2,c4⟩
theorem a0z{v val:Bytes}{w:aT}(hv:lH v=true)(ha:jm val=true)(hb:oq w=true)(hf:lJ v w=none)(hl:w.length≠6):oq (C7 v val w)=true:=by
 have h6:=O4 hb;unfold oq at hb⊢;rw[aY]at hb⊢;exact⟨Rv hv ha w none hb.1 hf (fun q h=>by cases h),by rw[R7];simp;omega⟩
theorem C3:∀(l r:aJ) (w:aT),l.length=r.length->(∀p∈w,lH p.var=true)->(PV l r w).2=true->∃h,(∀v o,lJ v w=some o->h v=o)/\r=l.map h/\Fix h
 | [],[],w,_,hk,_=>by
  refine⟨fun y=>match lJ y w with|some o=>o|none=>y,fun v o ho=>by simp only[ho],rfl,fun y hy=>?_⟩;cases hf:lJ y w with
  |none=>simp only[hf]
  |some o=>
   obtain⟨p,hp,h1,_⟩:=SA hf;have:=hk p hp;rw[h1]at this;rw[BK this]at hy;cases hy
 |x::xs,y::ys,w,hl,hk,hm=>by
  simp only[PV]at hm;cases hx:jm x with
  |true=>
   rw[hx,aW]at hm;cases hxy:x==y with
   |false=>rw[hxy]at hm;cases hm
   |true=>
    rw[hxy,aW]at hm;obtain⟨h,h1,h2,h3⟩:=C3 xs ys w (by simpa using hl) hk hm;have:x=y:=by simpa using hxy
    exact⟨h,h1,by rw[bH,h3 x hx,<-this,<-h2],h3⟩
  |false=>
   rw[hx,af]at hm;cases he:(He w x y).2 with
   |false=>rw[he]at hm;cases hm
   |true=>
    rw[he,aW]at hm;have key:lH x=true/\((lJ x w=some y/\(He w x y).1=w)\/(lJ x w=none/\(He w x y).1=C7 x y w)):=by
     unfold He at he⊢;cases hc:oq w&&(lH x&&jm y)with
     |false=>rw[hc]at he;cases he
     |true=>
      rw[hc,aW]at he;simp only[aY]at hc;refine⟨hc.2.1,?_⟩;rw[aW];cases hf:lJ x w with
      |some o=>
       rw[hf]at he;simp only at he⊢;cases ho:o==y with
       |false=>rw[ho]at he;cases he
       |true=>exact .inl ⟨by rw[show o=y from by simpa using ho],rfl⟩
      |none=>
       rw[hf]at he;simp only at he⊢;cases hd:decide (w.length=6)with
       |true=>rw[hd]at he;cases he
       |false=>exact .inr ⟨by first|trivial|rfl,by first|rfl|trivial⟩
    obtain⟨hv,a9D⟩:=key;rcases a9D with⟨hf,h1⟩|⟨hf,h1⟩
    ·rw[h1]at hm;obtain⟨h,k1,k2,k3⟩:=C3 xs ys w (by simpa using hl) hk hm;exact⟨h,k1,by rw[bH,k1 x y hf,<-k2],k3⟩
    ·rw[h1]at hm;obtain⟨h,k1,k2,k3⟩:=C3 xs ys (C7 x y w) (by simpa using hl) (fun p hp=>by
      rcases VS x y w hp with h|h
      ·rw[h];exact hv
      ·exact hk p h) hm
     refine⟨h,fun v o ho=>?_,by rw[bH,k1 x y (OR w hf),<-k2],k3⟩;refine k1 v o ?_;rw[Eh (fun e=>?_),ho];rw[e,ho]at hf;cases hf
 | [],_::_,_,hl,_,_=>by simp at hl
 |_::_,[],_,hl,_,_=>by simp at hl
theorem NY(h:Bytes->Bytes)(a4Q:Fix h):∀(l:aJ) (w:aT),(∀x∈l,qN x=true)->(∀x∈l,jm (h x)=true)->oq w=true->w.length+l.length<=6->(∀v o,lJ v w=some o->h v=o)->(PV l (l.map h) w).2=true
 | [],_,_,_,_,_,_=>rfl
 |x::xs,w,ht,ha,hb,hl,hw=>by
  simp only[aL]at hl;rw[bH];simp only[PV];have ht':∀y∈xs,qN y=true:=fun y hy=>ht y (by simp[hy])
  have ha':∀y∈xs,jm (h y)=true:=fun y hy=>ha y (by simp[hy])
  cases hx:jm x with
  |true=>
   rw[aW,a4Q x hx,cw,aW];exact NY h a4Q xs w ht' ha' hb (by omega) hw
  |false=>
   have hv:lH x=true:=by
    have:=ht x (by simp);unfold qN at this;rw[hx,pJ]at this;exact this
   have hax:=ha x (by simp);rw[af];unfold He;rw[hb,hv,hax];simp only[fL,aW];cases hf:lJ x w with
   |some o=>
    have:=hw x o hf;simp only[this,cw,aW];exact NY h a4Q xs w ht' ha' hb (by omega) hw
   |none=>
    have h6:w.length≠6:=by omega
    simp only[b9 h6,af,aW];refine NY h a4Q xs (C7 x (h x) w) ht' ha' (a0z hv hax hb hf h6) (by rw[R7];omega) (fun v o ho=>?_);by_cases e:x=v
    ·subst e;rw[OR w hf]at ho;cases ho;rfl
    ·rw[Eh e]at ho;exact hw v o ho
theorem Qo{p f:aE}:(ug p f []).2=true↔yo p=true/\tV f=true/\p.rel=f.rel/\∃h,f.args=p.args.map h/\Fix h:=by
 unfold ug;constructor
 ·intro hm;cases hc:yo p&&(tV f&&(oq []&&(p.rel==f.rel&&decide (p.args.length=f.args.length))))with
  |false=>rw[hc]at hm;cases hm
  |true=>
   rw[hc,aW]at hm;simp only[aY,cj,bI]at hc;obtain⟨c1,c2,_,c4,c5⟩:=hc;obtain⟨h,_,h2,h3⟩:=C3 p.args f.args [] c5 (by simp) hm;exact⟨c1,c2,c4,h,h2,h3⟩
 ·rintro⟨c1,c2,c4,h,h2,h3⟩;have c5:p.args.length=f.args.length:=by rw[h2];simp
  rw[c1,c2,show oq []=true from rfl,c4,cw,bU c5];simp only[uj,aW];have c1':=c1;unfold yo at c1';simp only[aY,bI]at c1';unfold tV at c2;simp only[aY]at c2;rw[h2];refine NY h h3 p.args [] (fun x hx=>bB.1 c1'.1 x hx) (fun x hx=>?_) rfl (by simp;omega) (fun v o ho=>by simp[lJ]at ho);exact bB.1 c2.1 _ (by rw[h2];exact cI.2 ⟨x,hx,rfl⟩)
theorem a4H{p q f:aE}(hc:Cov p q)(hm:(ug q f []).2=true):(ug p f []).2=true:=by
 obtain⟨c1,c2,c3,h,h2,h3⟩:=hc;obtain⟨m1,m2,m3,k,k2,k3⟩:=Qo.1 hm;refine Qo.2 ⟨c1,m2,c3.trans m3,fun x=>k (h x),?_,fun y hy=>by show k (h y)=y;rw[h3 y hy,k3 y hy]⟩;rw[k2,h2,qt];rfl
theorem Yf{p:aE}(h:yo p=true):∀t∈p.args,qN t=true:=by
 unfold yo at h;rw[aY]at h;exact fun t ht=>bB.1 h.1 t ht
end Go.Cx
namespace Go.Cx
open Go.RowKit Go.Proofs Tryz
theorem Dv(l:aP)(h:l.length<=1048576)(hf:∀f∈l,f.args.length<=1048576):dP l=some l:=by
 unfold dP;refine(Fx (c:=aE.c) (b:=40) (f:=ew) (g:=fun x=>x) (L:=nR l _) (k:=fun q=>some q) (by decide) (fun _ _=>rfl) (fun _ _ _ _=>rfl) l 0 [] (fun f h=>Od f (by have:=hf f h;omega)) (by simp;omega)).trans ?_;simp
theorem Dl(l:aP)(h:l.length<=1048576)(hf:∀f∈l,f.args.length<=1048576):cy l=some l:=by
 unfold cy;refine(Fx (c:=aE.c) (b:=40) (f:=eE) (g:=fun x=>x) (L:=mH l _) (k:=fun q=>some q) (by decide) (fun _ _=>rfl) (fun _ _ _ _=>rfl) l 0 [] (fun f h=>OX f (by have:=hf f h;omega)) (by simp;omega)).trans ?_;simp
def TK(n:Nat)(t:aI):Prop:=t.facts.length<=n/\(∀f∈t.facts,f.wt<=1048576)/\PB t.bind
theorem TK.le{n m:Nat}{t:aI}(h:TK n t)(hm:n<=m):TK m t:=⟨by have:=h.1;omega,h.2⟩
theorem a2i(t:aI)(h:TK 1048576 t):rZ t=some t:=by
 unfold rZ;rw[Dv t.facts h.1 (fun f hf=>by have:=aE.dV (h.2.1 f hf);omega),aA,XJ t.bind (by have:=h.2.2.1;omega),aA]
def ext1(c:aN)(t:aI)(f:aE):ah:=bif (ug c.pat f t.bind).2 then [⟨t.facts++[f],(ug c.pat f t.bind).1⟩]else []
def Nc(c:aN)(fs:aP)(t:aI):ah:=bif decide (c.kind=1)then fs.flatMap (ext1 c t)else bif OU c t.bind fs then [t]else []
def xy(fs:aP)(l:ah)(c:aN):ah:=l.flatMap (Nc c fs)
def yP(cs:aj)(fs:aP):ah:=cs.foldl (xy fs) [⟨[],[]⟩]
theorem a1C(c:aN)(t:aI)(f:aE):(ext1 c t f).length<=1:=by unfold ext1;cases(ug c.pat f t.bind).2<;>simp
theorem QL(c:aN)(t:aI)(fs:aP):(fs.flatMap (ext1 c t)).length<=fs.length:=by
 induction fs with
 |nil=>simp
 |cons f fs ih=>rw[dK,aX];have:=a1C c t f;simp only[aL];omega
theorem Qu(c:aN)(fs:aP)(t:aI):(Nc c fs t).length<=fs.length+1:=by
 unfold Nc;cases decide (c.kind=1)with
 |true=>have:=QL c t fs;rw[aW];omega
 |false=>cases OU c t.bind fs<;>simp
theorem Qv(fs:aP)(l:ah)(c:aN):(xy fs l c).length<=l.length*(fs.length+1):=by
 unfold xy
 induction l with
 |nil=>simp
 |cons t l ih=>rw[dK,aX,aL,MC];have:=Qu c fs t;omega
theorem a50{c:aN}{fs:aP}{t:aI}{n:Nat}(h:TK n t)(hc:c.wt<=1048576)(hf:FS fs):∀u∈Nc c fs t,TK (n+1) u:=by
 intro u hu;unfold Nc at hu;cases hk:decide (c.kind=1)with
 |false=>
  rw[hk,af]at hu;cases hh:OU c t.bind fs with
  |false=>rw[hh]at hu;cases hu
  |true=>
   rw[hh,aW,eC]at hu;subst hu;exact h.le (by omega)
 |true=>
  rw[hk,aW]at hu;obtain⟨f,hf1,hu⟩:=cD.1 hu;unfold ext1 at hu;cases hm:(ug c.pat f t.bind).2 with
  |false=>rw[hm]at hu;cases hu
  |true=>
   rw[hm,aW,eC]at hu;subst hu;refine⟨by have:=h.1;simp;omega,?_,a4u h.2.2 (aN.fJ hc) (hf.2 f hf1)⟩;intro g hg;rcases ar.1 hg with hg|hg
   ·exact h.2.1 g hg
   ·rw[eC]at hg;rw[hg];exact hf.2 f hf1
theorem TW{c:aN}{fs:aP}{l:ah}{n:Nat}(h:∀t∈l,TK n t)(hc:c.wt<=1048576)(hf:FS fs):∀u∈xy fs l c,TK (n+1) u:=by
 intro u hu;obtain⟨t,ht,hu⟩:=cD.1 hu;exact a50 (h t ht) hc hf u hu
theorem Y7{γ:Type}{mf:aE->Option (aT×Bool)}{cps:Option aP}{cp:aE->Option aE}{c:aN}{t:aI}{L:aP->Nat->ah->Option γ}{k:ah->Option γ}(hm:∀f:aE,f.wt<=1048576->mf f=some (ug c.pat f t.bind))(hcs:cps=some t.facts)(hc:∀f:aE,f.wt<=1048576->cp f=some f)(ht:t.facts.length<=1048576)(ue:∀i w,L [] i w=k w)
 (tR:∀x xs i w,L (x::xs) i w=((mf x).bind fun y=>(bif y.2 then(cps.bind fun q=>((cp x).bind fun z=>(bif room ((q.map aE.c).length+([[D.str z.rel,D.sl (z.args.map tx)]]).length) 40 then(bif room ((w.map aI.c).length+([[D.sl ((q.map aE.c)++([[D.str z.rel,D.sl (z.args.map tx)]])),D.sl (y.1.map aR.c)]]).length) 48 then(L xs (i+1) (w++([(⟨q++([z]),y.1⟩:aI)])))else none)else none)))else(L xs (i+1) w)))):
 ∀(l:aP) (i:Nat) (w:ah),(∀f∈l,f.wt<=1048576)->w.length+l.length<1099511627770->L l i w=k (w++l.flatMap (ext1 c t)):=by
 intro l
 induction l with
 |nil=>intro i w _ _;rw[ue];simp
 |cons x xs ih=>
  intro i w hl hw;simp only[aL]at hw;have hx:=hl x (by simp);rw[tR,hm x hx,aA,hcs,aA,hc x hx,aA,mW (by omega) (by decide),aW,mW (by omega) (by decide),aW,dK];rw[show ext1 c t x=bif (ug c.pat x t.bind).2 then [⟨t.facts++[x],(ug c.pat x t.bind).1⟩]else []from rfl];cases(ug c.pat x t.bind).2 with
  |true=>rw[aW,aW,ih _ _ (fun f hf=>hl f (by simp[hf])) (by simp;omega)];simp
  |false=>rw[af,af,ih _ _ (fun f hf=>hl f (by simp[hf])) (by omega)];simp
theorem YP(c:aN):((c.kind:Int) != 1)= !decide (c.kind=1):=by
 show(!((c.kind:Int)==1))=_;rw[zc]
theorem a8H(l0:ah)(c:aN)(fs:aP)(k:ah->Option ah)(hc:c.wt<=1048576)(hf:FS fs):∀(l:ah) (i:Nat) (w:ah),(∀t∈l,TK 1048576 t)->w.length+l.length*(fs.length+1)<1099511627700->gq l0 c fs k l i w=k (w++xy fs l c):=by
 intro l;have h1:=hf.1
 induction l with
 |nil=>intro i w _ _;rw[gq];simp[xy]
 |cons t l ih=>
  intro i w hl hw;rw[aL,MC]at hw;have ht:=hl t (by simp);have e:xy fs (t::l) c=Nc c fs t++xy fs l c:=by simp[xy]
  have hn:=Qu c fs t;have he:=QL c t fs;rw[gq,YP,aAc c t.bind fs hc ht.2.2 hf,aA,a2i t ht,aA,mW (by omega) (by decide),aW,wo (by omega),aW,e];rw[Y7 (mf:=fun f=>jL c.pat f t.bind) (cps:=dP t.facts) (cp:=ew) (c:=c) (t:=t) (L:=nV l0 c fs i t _) (k:=_) (fun f h=>a8F c.pat f t.bind (aN.fJ hc) h ht.2.2) (Dv t.facts ht.1 (fun f hf=>by have:=aE.dV (ht.2.1 f hf);omega)) (fun f h=>Od f (by have:=aE.dV h;omega)) ht.1 (fun _ _=>rfl) (fun _ _ _ _=>rfl) fs 0 w hf.2 (by omega)];unfold Nc;cases decide (c.kind=1)with
  |true=>simp only[bP,af,aW];rw[ih _ _ (fun u hu=>hl u (by simp[hu])) (by rw[aX];omega)];simp
  |false=>
   simp only[cQ,aW,af];cases OU c t.bind fs with
   |true=>simp only[aW];rw[ih _ _ (fun u hu=>hl u (by simp[hu])) (by rw[aX];simp;omega)];simp
   |false=>simp only[af];rw[ih _ _ (fun u hu=>hl u (by simp[hu])) (by omega)];simp
theorem a2o(l:ah)(c:aN)(fs:aP)(hc:c.wt<=1048576)(hf:FS fs)(hl:∀t∈l,TK 1048576 t)(hn:l.length*(fs.length+1)<1099511627700):rj l c fs=some (xy fs l c):=by
 unfold rj;rw[a8H l c fs _ hc hf l 0 [] hl (by simpa using hn)];simp
theorem X8:∀t∈[(⟨[],[]⟩:aI)],TK 0 t:=by
 intro t ht;rw[eC]at ht;subst ht;exact⟨by simp,by simp,PB.nil⟩
theorem a2S{n:Nat}(h:n<=4):[(⟨[],[]⟩:aI)].length*25^n<=390625:=by
 have:=vg (n:=25) (by decide) h;simp only[fU,nk];exact this
theorem a8P(c0:aj)(fs:aP)(k:ah->Option ah)(hf:FS fs)(h24:fs.length<=24):∀(cs:aj) (i:Nat) (w:ah) (n:Nat),(∀c∈cs,c.wt<=1048576)->(∀t∈w,TK n t)->n+cs.length<=1048576->w.length*25^cs.length<=390625->kU c0 fs k cs i w=k (cs.foldl (xy fs) w):=by
 intro cs
 induction cs with
 |nil=>intro i w n _ _ _ _;rfl
 |cons c cs ih=>
  intro i w n hc hw hn hl;simp only[aL]at hn;rw[aL,yT,E4 (25^cs.length) 25,<-K3]at hl;have hp:1<=25^cs.length:=Nat.one_le_pow _ _ (by decide);have Ej:w.length*25<=390625:=cS (DD _ hp) hl;have h25:w.length*(fs.length+1)<=w.length*25:=eN _ (by omega);rw[kU,a2o w c fs (hc c (by simp)) hf (fun t ht=>(hw t ht).le (by omega)) (by omega),aA];refine ih _ _ (n+1) (fun x hx=>hc x (by simp[hx])) (TW hw (hc c (by simp)) hf) (by omega) ?_;exact cS (dS _ (cS (Qv fs w c) h25)) hl
theorem aAo(cs:aj)(fs:aP)(hc:∀c∈cs,c.wt<=1048576)(h4:cs.length<=4)(hf:FS fs)(h24:fs.length<=24):uZ cs fs=some (yP cs fs):=by
 unfold uZ;exact a8P cs fs _ hf h24 cs 0 _ 0 hc X8 (by omega) (a2S h4)
theorem a4j(c0:aj)(fs:aP)(w0:ah)(i1:Nat)(c:aN)(k:ah->Option ah)(hc:c.wt<=1048576)(hf:FS fs):∀(l:ah) (i:Nat) (w:ah),(∀t∈l,TK 1048576 t)->w.length+l.length*(fs.length+1)<1099511627700->fP c0 fs w0 i1 c k l i w=k (w++xy fs l c):=by
 intro l;have h1:=hf.1
 induction l with
 |nil=>intro i w _ _;rw[fP];simp[xy]
 |cons t l ih=>
  intro i w hl hw;rw[aL,MC]at hw;have ht:=hl t (by simp);have e:xy fs (t::l) c=Nc c fs t++xy fs l c:=by simp[xy]
  have hn:=Qu c fs t;have he:=QL c t fs;rw[fP,YP,a9v c t.bind fs hc ht.2.2 hf,aA,mW (by omega) (by decide),aW,wo (by omega),aW,e];rw[Y7 (mf:=fun f=>jF c.pat f t.bind) (cps:=cy t.facts) (cp:=eE) (c:=c) (t:=t) (L:=kJ c0 fs i w0 t i1 c _) (k:=_) (fun f h=>a7a c.pat f t.bind (aN.fJ hc) h ht.2.2) (Dl t.facts ht.1 (fun f hf=>by have:=aE.dV (ht.2.1 f hf);omega)) (fun f h=>OX f (by have:=aE.dV h;omega)) ht.1 (fun _ _=>rfl) (fun _ _ _ _=>rfl) fs 0 w hf.2 (by omega)];unfold Nc;cases decide (c.kind=1)with
  |true=>simp only[bP,af,aW];rw[ih _ _ (fun u hu=>hl u (by simp[hu])) (by rw[aX];omega)];simp
  |false=>
   simp only[cQ,aW,af];cases OU c t.bind fs with
   |true=>simp only[aW];rw[ih _ _ (fun u hu=>hl u (by simp[hu])) (by rw[aX];simp;omega)];simp
   |false=>simp only[af];rw[ih _ _ (fun u hu=>hl u (by simp[hu])) (by omega)];simp
theorem a7i(c0:aj)(fs:aP)(k:ah->Option ah)(hf:FS fs)(h24:fs.length<=24):∀(cs:aj) (i:Nat) (w:ah) (n:Nat),(∀c∈cs,c.wt<=1048576)->(∀t∈w,TK n t)->n+cs.length<=1048576->w.length*25^cs.length<=390625->kI c0 fs k cs i w=k (cs.foldl (xy fs) w):=by
 intro cs
 induction cs with
 |nil=>intro i w n _ _ _ _;rfl
 |cons c cs ih=>
  intro i w n hc hw hn hl;simp only[aL]at hn;rw[aL,yT,E4 (25^cs.length) 25,<-K3]at hl;have hp:1<=25^cs.length:=Nat.one_le_pow _ _ (by decide);have Ej:w.length*25<=390625:=cS (DD _ hp) hl;have h25:w.length*(fs.length+1)<=w.length*25:=eN _ (by omega);rw[kI,wo (by omega),aW,a4j c0 fs w i c _ (hc c (by simp)) hf w 0 [] (fun t ht=>(hw t ht).le (by omega)) (by simp only[bK];omega),cH];refine ih _ _ (n+1) (fun x hx=>hc x (by simp[hx])) (TW hw (hc c (by simp)) hf) (by omega) ?_;exact cS (dS _ (cS (Qv fs w c) h25)) hl
theorem aA6(cs:aj)(fs:aP)(hc:∀c∈cs,c.wt<=1048576)(h4:cs.length<=4)(hf:FS fs)(h24:fs.length<=24):uI cs fs=some (yP cs fs):=by
 unfold uI;exact a7i cs fs _ hf h24 cs 0 _ 0 hc X8 (by omega) (a2S h4)
theorem Zw{r:aO}(h:ny r=true):r.conds.length<=4:=by
 unfold ny at h;simp only[aY,bI]at h;omega
theorem QG{r:aO}:∀ {l:aj} {i:Nat},xh r l i=true->∀c∈l,sK c=true
 | [],_,_,c,hc=>by cases hc
 |x::xs,i,h,c,hc=>by
  simp only[xh,aY]at h;rcases bM.1 hc with rfl|hc
  ·exact h.1.1.1
  ·exact QG h.2 c hc
theorem P7{r:aO}(h:ny r=true):∀c∈r.conds,sK c=true:=by
 unfold ny at h;simp only[aY]at h;exact QG h.2.1
theorem um{l:aP}(h:pK l=true):l.length<=24:=by
 unfold pK at h;simp only[aY,bI]at h;exact h.2
theorem a3J{cs:aj}{fs:aP}(h4:cs.length<=4)(h24:fs.length<=24):(yP cs fs).length<=390625:=by
 have key:∀(cs:aj) (w:ah),w.length*25^cs.length<=390625->(cs.foldl (xy fs) w).length<=390625:=by
  intro cs
  induction cs with
  |nil=>intro w h;simpa using h
  |cons c cs ih=>
   intro w h;rw[aL,yT,E4 (25^cs.length) 25,<-K3]at h;refine ih _ ?_;have h25:w.length*(fs.length+1)<=w.length*25:=eN _ (by omega);exact cS (dS _ (cS (Qv fs w c) h25)) h
 exact key cs _ (a2S h4)
theorem UP{all:au}:∀ {l:au} {i:Nat},RV all l i=true->∀r∈l,ny r=true
 | [],_,_,r,hr=>by cases hr
 |x::xs,i,h,r,hr=>by
  simp only[RV,aY]at h;rcases bM.1 hr with rfl|hr
  ·exact h.1.1
  ·exact UP h.2 r hr
theorem u7{l:au}(h:zN l=true):∀r∈l,ny r=true:=by
 unfold zN at h;simp only[aY]at h;exact UP h.1
end Go.Cx
namespace Go.Cx
open Go.RowKit Go.Proofs Tryz
theorem SM:∀(a b:aJ),a.Nodup->(∀x∈a,x∈b)->a.length<=b.length
 | [],b,_,_=>G5 _
 |x::xs,b,hn,hs=>by
  rw[fA]at hn;have h1:=SM xs (b.erase x) hn.2 fun y hy=>(List.mem_erase_of_ne (fun e=>hn.1 (by rw[<-e];exact hy))).2 (hs y (by simp[hy]))
  have h2:=rK (hs x (by simp));have h3:0<b.length:=E3 (hs x (by simp));simp only[aL];omega
theorem Zx{r:aO}(h:ny r=true):(fK (FA r.conds)).length<=6:=by
 unfold ny at h;simp only[aY,bI]at h;omega
theorem Z7{c:aN}(hc:sK c=true)(hk:c.kind=1\/c.kind=2):yo c.pat=true/\c.left=[]/\c.right=[]:=by
 unfold sK at hc;have:(decide (c.kind=1)||decide (c.kind=2))=true:=by simpa using hk
 rw[this,aW]at hc;simp only[aY,cj]at hc;exact⟨hc.1,hc.2.1,hc.2.2⟩
theorem WI{c:aN}(hc:sK c=true)(h1:c.kind≠1)(h2:c.kind≠2):(decide (c.kind=3)||decide (c.kind=4)||decide (c.kind=5))=true/\I9 c.pat=true/\qN c.left=true/\qN c.right=true:=by
 unfold sK at hc;rw[b9 h1,b9 h2,uk,af]at hc;cases h:(decide (c.kind=3)||decide (c.kind=4)||decide (c.kind=5))with
 |false=>rw[h]at hc;cases hc
 |true=>
  rw[h,aW]at hc;simp only[aY]at hc;exact⟨rfl,hc.1,hc.2.1,hc.2.2⟩
theorem UT{b:aT}(h:oq b=true):wv none b=true:=by
 unfold oq at h;rw[aY]at h;exact h.1
theorem Ru:∀ {b:aT} {p:Option aR},wv p b=true->∀x∈b,lH x.var=true/\jm x.value=true
 |y::ys,p,h,x,hx=>by
  rw[zi]at h;simp only[aY]at h;rcases bM.1 hx with rfl|hx
  ·exact⟨h.1,h.2.1⟩
  ·exact Ru h.2.2.2 x hx
structure WB(U:List Bytes)(b:List aR):Prop where
 ok:oq b=true
 sub:∀p∈b,p.var∈U
theorem QF{r:aO}:∀ {pre rest:aj} {c:aN} {i:Nat},xh r (pre++c::rest) i=true->sK c=true/\(i+pre.length=0->c.kind=1)/\∀v∈qu c,PR r (i+pre.length) c v=true
 | [],rest,c,i,h=>by
  rw[cH]at h;unfold xh at h;rw[Ro]at h;simp only[aY,oX,qp,o9,bI]at h;refine⟨h.1.1.1,fun e=>?_,fun v hv=>bB.1 h.1.2 v hv⟩;rcases h.1.1.2 with q|q
  ·exact absurd (by simpa using e) q
  ·exact q
 |x::pre,rest,c,i,h=>by
  rw[dO]at h;unfold xh at h;rw[aY]at h;have:=QF h.2;rw[aL,show i+(pre.length+1)=i+1+pre.length by omega];exact this
theorem Tg{r:aO}(h:ny r=true):xh r r.conds 0=true:=by
 unfold ny at h;simp only[aY]at h;exact h.2.1
end Go.Cx
