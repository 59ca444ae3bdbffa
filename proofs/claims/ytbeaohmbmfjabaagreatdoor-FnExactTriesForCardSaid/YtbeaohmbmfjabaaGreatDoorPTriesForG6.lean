/- What functions of the program compute, and the walks that show it. No condition. -/
import Derived.Test.YtbeaohmbmfjabaaGreatDoorPTriesForG5
import Derived.Test.YtbeaohmbmfjabaaGreatDoorPTriesForG3
import Derived.Sort.Walk0
import Derived.Lib.ItoaNum
import Derived.Lib.ItoaLen
import Derived.Lib.Atoi
set_option linter.unusedVariables false
set_option linter.unusedSimpArgs false
namespace Go.Cx
open Go.RowKit Go.Proofs Tryz
set_option maxRecDepth 100000
variable{Γ:vJ}{N:Nat->St->Prop}
def jh(aB:aR)(aU:Bytes)(cL:Bytes)(k1:Bool->aR->Option (aR×Bool)):aR->Nat->Bool->aR->Option (aR×Bool)
 | [],i1,xQ,bA=>(k1 xQ bA)
 |bL::bz,i1,xQ,bA=>(bif !(xQ)then(bif !(Op.bytesLess bL.var aU||(bL.var:Bytes)==aU)then(bif room ((bA.map aS.c).length+([[D.str aU,D.str cL]]).length) 32 then(bif room (((bA.map aS.c)++([[D.str aU,D.str cL]])).length+([[D.str bL.var,D.str bL.value]]).length) 32 then(jh aB aU cL k1 bz (i1+1) true ((bA++([(⟨aU,cL⟩:aS)]))++([bL])))else none)else none)else(bif room ((bA.map aS.c).length+([[D.str bL.var,D.str bL.value]]).length) 32 then(jh aB aU cL k1 bz (i1+1) xQ (bA++([bL])))else none))else(bif room ((bA.map aS.c).length+([[D.str bL.var,D.str bL.value]]).length) 32 then(jh aB aU cL k1 bz (i1+1) xQ (bA++([bL])))else none))
def sH(aB:aR)(aU:Bytes)(cL:Bytes):Option (aR×Bool):=((jj aB).bind fun y1=>(bif !(y1)then(some ([],false))else((kB aU).bind fun y4=>(bif !(y4)then(some ([],false))else((ew cL).bind fun y7=>(bif !(y7)then(some ([],false))else((oK aB aU).bind fun Qj=>(bif Qj.2 then(bif !((Qj.1:Bytes)==cL)then(some ([],false))else((iL aB).bind fun Qb=>(some (Qb,true))))else(bif decide ((((aB.map aS.c).length:Int):Int)>=6)then(some ([],false))else(jh aB aU cL (fun(Qc:Bool) (bf:aR)=>(bif !(Qc)then(bif room ((bf.map aS.c).length+([[D.str aU,D.str cL]]).length) 32 then(some (bf++([(⟨aU,cL⟩:aS)]),true))else none)else(some (bf,true)))) aB 0 false ([]:aR)))))))))))
def tq(aB:aR)(aU:Bytes)(cL:Bytes)(xQ:Bool)(W1:List aQ)(cR:Int):St:=⟨[(1,D.str aU),(2,D.str cL),(10,D.acc 0),(11,D.bool xQ),(42,D.sl (aB.map aS.c)),(43,D.int .i64 ((aB.map aS.c).length:Int)),(44,D.int .i64 cR)],[Ob.row .uq 152 2 W1]⟩
theorem Hl(hΓ:Γ.nt=76){aB:aR}{aU:Bytes}{cL:Bytes}{r:aR×Bool}{k1:Bool->aR->Option (aR×Bool)}(cc:∀(Qc:Bool) (bf:aR),k1 Qc bf=some r->Ax Γ N f127 (.q [[some (152,2)],[none]] (D.hY [D.fr 152 2 (r.1.map aS.c),D.bool r.2])) [1,1,1,1,1,1,1] ⟨[(1,D.str aU),(2,D.str cL),(10,D.acc 0),(11,D.bool Qc)],[Ob.row .uq 152 2 (bf.map aS.c)]⟩)(hm1:aB.length<=maxLen):∀(rest:aR) (i1:Nat) (xQ:Bool) (bA:aR),aB.drop i1=rest->jh aB aU cL k1 rest i1 xQ bA=some r->Ar Γ N f127 (.q [[some (152,2)],[none]] (D.hY [D.fr 152 2 (r.1.map aS.c),D.bool r.2])) [1,1,1,1,1,1,0,1,0] (rest.length+1) (tq aB aU cL xQ (bA.map aS.c) (i1:Int)):=by
 intro rest
 induction rest with
 |nil=>
  intro i1 xQ bA aq h;rw[jh]at h;refine aP fun N1 cC br=>?_
  exact((aT.ge aS.c aq).a [.hl 0 [1,2,10,11] [0]]).ex hΓ cC (cc xQ bA h)
 |cons bL bz ih1=>
  intro i1 xQ bA aq h;rw[jh]at h;refine aP fun N1 cC br=>?_
  have kx:=((aT.lt aS.c aq).l (az aS.c 2 (dc aq) rfl))
  obtain⟨h58,h⟩|⟨h58,h⟩:=aM h
  ·have kM:=(kx.r 5 h58)
   obtain⟨h59,h⟩|⟨h59,h⟩:=aM h
   ·obtain⟨h60,h⟩:=bQ h;obtain⟨h61,h⟩:=bQ h;exact((((kM.b h59).w (bh h60)).w (bh h61)).a [.cn [1,2,10,11,42,43,44] [5]]).cs hΓ br (tq aB aU cL true (((bA.map aS.c)++([[D.str aU,D.str cL]]))++([[D.str bL.var,D.str bL.value]])) (IntKind.i64.wrap ((i1:Int)+1))) (by first| (simp only[iS aq hm1,mA]<;>rfl)| (simp only[iS aq hm1,mA,aC.c,aS.c,aL.c,Action.c,aK.c,aN.c,cX.c,aV.c,Node.c,aG.c,cg.c]<;>rfl)) (ih1 (i1+1) true ((bA++([(⟨aU,cL⟩:aS)]))++([bL])) (dn aq) h)
   ·obtain⟨h62,h⟩:=bQ h;exact(((kM.b h59).w (bh h62)).a [.cn [1,2,10,11,42,43,44] [3]]).cs hΓ br (tq aB aU cL xQ ((bA.map aS.c)++([[D.str bL.var,D.str bL.value]])) (IntKind.i64.wrap ((i1:Int)+1))) (by first| (simp only[iS aq hm1,mA]<;>rfl)| (simp only[iS aq hm1,mA,aC.c,aS.c,aL.c,Action.c,aK.c,aN.c,cX.c,aV.c,Node.c,aG.c,cg.c]<;>rfl)) (ih1 (i1+1) xQ (bA++([bL])) (dn aq) h)
  ·obtain⟨h63,h⟩:=bQ h;exact((((kx.r 5 h58).F 1).w (bh h63)).a [.cn [1,2,10,11,42,43,44] [3]]).cs hΓ br (tq aB aU cL xQ ((bA.map aS.c)++([[D.str bL.var,D.str bL.value]])) (IntKind.i64.wrap ((i1:Int)+1))) (by first| (simp only[iS aq hm1,mA]<;>rfl)| (simp only[iS aq hm1,mA,aC.c,aS.c,aL.c,Action.c,aK.c,aN.c,cX.c,aV.c,Node.c,aG.c,cg.c]<;>rfl)) (ih1 (i1+1) xQ (bA++([bL])) (dn aq) h)
theorem GK{aB:aR}{aU:Bytes}{cL:Bytes}{r:aR×Bool}(h:sH aB aU cL=some r):Good prog 127 [D.sl (aB.map aS.c),D.str aU,D.str cL] (D.hY [D.fr 152 2 (r.1.map aS.c),D.bool r.2]):=by
 refine gd func127 [[some (152,2)],[none]] 76 fun hr Γ hΓ=>?_
 rw[sH]at h;obtain⟨y1,h2,h⟩:=aE h;obtain⟨h3,h⟩|⟨h3,h⟩:=aM h
 ·cases h;exact(((aT.g (lG h2)).r 4 h3).T 5).ret hΓ
 ·obtain⟨y4,h5,h⟩:=aE h;have uK:=((((aT.g (lG h2)).r 2 h3).g (mV h5)).r 2 h3)
  obtain⟨h6,h⟩|⟨h6,h⟩:=aM h
  ·cases h;exact((uK.r 4 h6).T 1).ret hΓ
  ·obtain⟨y7,h8,h⟩:=aE h;have wO:=(((uK.r 2 h6).g (eD h8)).r 2 h6)
   obtain⟨h9,h⟩|⟨h9,h⟩:=aM h
   ·cases h;exact(wO.b h9).ret hΓ
   ·obtain⟨Qj,h11,h⟩:=aE h;have AA:=((wO.b h9).g (uP h11))
    obtain⟨h12,h⟩|⟨h12,h⟩:=aM h
    ·obtain⟨h13,h⟩|⟨h13,h⟩:=aM h
     ·cases h;exact((AA.b h12).b h13).ret hΓ
     ·obtain⟨Qb,h15,h⟩:=aE h;cases h;exact(((AA.b h12).b h13).g (si h15)).ret hΓ
    ·obtain⟨h16,h⟩|⟨h16,h⟩:=aM h
     ·cases h;exact((AA.b h12).b h16).ret hΓ
     ·refine(((AA.b h12).b h16).a [.Kc 10,.cn [1,2,10,11,42,43,44] [0]]).lp hΓ (Hl hΓ (fun Qc bf h=>?_) (by have:=(eN.sl (hr _ (aD (i:=0) rfl))).1;simpa using this) aB 0 false ([]:aR) rfl h);obtain⟨h64,h⟩|⟨h64,h⟩:=aM h
      ·obtain⟨h65,h⟩:=bQ h;cases h;exact((aT.b h64).w (bh h65)).rts hΓ (D.hY [D.fr 152 2 ((bf.map aS.c)++([[D.str aU,D.str cL]])),D.bool true]) (by first|rfl| (simp only[mA]<;>rfl)| (simp only[cK,mA]<;>rfl))
      ·cases h;exact(aT.b h64).ret hΓ
def iY(aB:aC)(aU:aC)(k1:aR->Option (aR×Bool)):aH->Nat->aR->Option (aR×Bool)
 | [],i1,bW=>(k1 bW)
 |bL::bz,i1,bW=>((ew bL).bind fun y80=>(bif y80 then((lF aU.args (i1:Int)).bind fun x83=>(bif !((bL:Bytes)==x83)then(some ([],false))else(iY aB aU k1 bz (i1+1) bW)))else((lF aU.args (i1:Int)).bind fun x86=>((sH bW bL x86).bind fun Zm=>(bif !(Zm.2)then(some ([],false))else(iY aB aU k1 bz (i1+1) Zm.1))))))
def iJ(aB:aC)(aU:aC)(cL:aR):Option (aR×Bool):=((iH aB).bind fun y1=>(bif !(y1)then(some ([],false))else((ng aU).bind fun y4=>(bif !(y4)then(some ([],false))else((jj cL).bind fun y7=>(bif !(y7)then(some ([],false))else(bif !((aB.rel:Bytes)==aU.rel)then(some ([],false))else(bif (((aB.args.map tx).length:Int):Int) != ((aU.args.map tx).length:Int)then(some ([],false))else((iL cL).bind fun YC=>(iY aB aU (fun(bf:aR)=>(some (bf,true))) aB.args 0 YC))))))))))
def El(aB:aC)(aU:aC)(W0:List aQ)(cR:Int):St:=⟨[(4,D.ptr 0 0),(8,D.acc 1),(45,D.sl (aB.args.map tx)),(46,D.int .i64 ((aB.args.map tx).length:Int)),(47,D.int .i64 cR)],[Ob.box (aC.c aU),Ob.row .uq 152 2 W0]⟩
theorem D9(hΓ:Γ.nt=77){aB:aC}{aU:aC}{r:aR×Bool}{k1:aR->Option (aR×Bool)}(cc:∀(bf:aR),k1 bf=some r->Ax Γ N f239 (.q [[some (152,2)],[none]] (D.hY [D.fr 152 2 (r.1.map aS.c),D.bool r.2])) [1,1,1,1] ⟨[(8,D.acc 0)],[Ob.row .uq 152 2 (bf.map aS.c)]⟩)(hm1:aB.args.length<=maxLen):∀(rest:aH) (i1:Nat) (bW:aR),aB.args.drop i1=rest->iY aB aU k1 rest i1 bW=some r->Ar Γ N f239 (.q [[some (152,2)],[none]] (D.hY [D.fr 152 2 (r.1.map aS.c),D.bool r.2])) [1,1,1,0,1,0] (rest.length+1) (El aB aU (bW.map aS.c) (i1:Int)):=by
 intro rest
 induction rest with
 |nil=>
  intro i1 bW aq h;rw[iY]at h;refine aP fun N1 cC br=>?_
  exact((aT.ge tx aq).a [.hl 0 [8] [1]]).ex hΓ cC (cc bW h)
 |cons bL bz ih1=>
  intro i1 bW aq h;rw[iY]at h;refine aP fun N1 cC br=>?_
  obtain⟨y80,h81,h⟩:=aE h;have kM:=(((aT.lt tx aq).l (az tx 1 (dc aq) rfl)).g (eD h81))
  obtain⟨h82,h⟩|⟨h82,h⟩:=aM h
  ·obtain⟨x83,h84,h⟩:=aE h;have uK:=((kM.b h82).l (eA tx 1 h84 rfl))
   obtain⟨h85,h⟩|⟨h85,h⟩:=aM h
   ·cases h;exact(uK.b h85).ret hΓ
   ·exact((uK.b h85).a [.cn [4,8,45,46,47] [0,1]]).ct hΓ br (iS aq hm1) (ih1 (i1+1) bW (dn aq) h)
  ·obtain⟨x86,h87,h⟩:=aE h;obtain⟨Zm,h89,h⟩:=aE h;have wO:=(((kM.b h82).l (eA tx 1 h87 rfl)).g (GK h89))
   obtain⟨h90,h⟩|⟨h90,h⟩:=aM h
   ·cases h;exact(wO.b h90).ret hΓ
   ·exact((wO.b h90).a [.cn [4,8,45,46,47] [0,2]]).ct hΓ br (iS aq hm1) (ih1 (i1+1) Zm.1 (dn aq) h)
theorem oc{aB:aC}{aU:aC}{cL:aR}{r:aR×Bool}(h:iJ aB aU cL=some r):Good prog 239 [D.agg (aC.c aB),D.agg (aC.c aU),D.sl (cL.map aS.c)] (D.hY [D.fr 152 2 (r.1.map aS.c),D.bool r.2]):=by
 refine gd func239 [[some (152,2)],[none]] 77 fun hr Γ hΓ=>?_
 rw[iJ]at h;obtain⟨y1,h2,h⟩:=aE h;obtain⟨h3,h⟩|⟨h3,h⟩:=aM h
 ·cases h;exact(((aT.g (jC h2)).r 4 h3).T 19).ret hΓ
 ·obtain⟨y4,h5,h⟩:=aE h;have AA:=((((aT.g (jC h2)).r 2 h3).g (vB h5)).r 2 h3)
  obtain⟨h6,h⟩|⟨h6,h⟩:=aM h
  ·cases h;exact((AA.r 4 h6).T 15).ret hΓ
  ·obtain⟨y7,h8,h⟩:=aE h;have G0:=(((AA.r 2 h6).g (lG h8)).r 2 h6)
   obtain⟨h9,h⟩|⟨h9,h⟩:=aM h
   ·cases h;exact((G0.r 6 h9).T 9).ret hΓ
   ·have KB:=(G0.r 6 h9)
    obtain⟨h10,h⟩|⟨h10,h⟩:=aM h
    ·cases h;exact((KB.r 8 h10).T 1).ret hΓ
    ·have B2:=(KB.r 8 h10)
     obtain⟨h11,h⟩|⟨h11,h⟩:=aM h
     ·cases h;exact(B2.b h11).ret hΓ
     ·obtain⟨YC,h13,h⟩:=aE h;refine(((B2.b h11).g (si h13)).a [.cn [4,8,45,46,47] [1,2]]).lp hΓ (D9 hΓ (fun bf h=>?_) (by have:=(eN.sl (eN.agg (hr _ (aD (i:=0) rfl)) (.sl (aB.args.map tx)) (by simp))).1;simpa using this) aB.args 0 YC rfl h);cases h;exact aT.ret hΓ
def fR(aB:aC)(aU:aR)(cL:aJ)(k1:aJ->Option aJ):aJ->Nat->aJ->Option aJ
 | [],i1,bW=>(k1 bW)
 |bL::bz,i1,bW=>((iJ aB bL aU).bind fun Xz=>(bif Xz.2 then((dQ bL).bind fun GB=>(bif room ((bW.map aC.c).length+([[D.str GB.rel,D.sl (GB.args.map tx)]]).length) 40 then(fR aB aU cL k1 bz (i1+1) (bW++([GB])))else none))else(fR aB aU cL k1 bz (i1+1) bW)))
def gb(aB:aC)(aU:aR)(cL:aJ):Option aJ:=(fR aB aU cL (fun(bf:aJ)=>(some bf)) cL 0 ([]:aJ))
def vL(aB:aC)(aU:aR)(cL:aJ)(W0:List aQ)(cR:Int):St:=⟨[(1,D.sl (aU.map aS.c)),(3,D.ptr 0 0),(7,D.acc 1),(12,D.sl (cL.map aC.c)),(13,D.int .i64 ((cL.map aC.c).length:Int)),(14,D.int .i64 cR)],[Ob.box (aC.c aB),Ob.row .uq 53 2 W0]⟩
theorem zv(hΓ:Γ.nt=33){aB:aC}{aU:aR}{cL:aJ}{r:aJ}{k1:aJ->Option aJ}(cc:∀(bf:aJ),k1 bf=some r->Ax Γ N f202 (.q [[some (53,2)]] (D.fr 53 2 (r.map aC.c))) [1,1,1] ⟨[(7,D.acc 0)],[Ob.row .uq 53 2 (bf.map aC.c)]⟩)(hm1:cL.length<=maxLen):∀(rest:aJ) (i1:Nat) (bW:aJ),cL.drop i1=rest->fR aB aU cL k1 rest i1 bW=some r->Ar Γ N f202 (.q [[some (53,2)]] (D.fr 53 2 (r.map aC.c))) [1,1,0,1,0] (rest.length+1) (vL aB aU cL (bW.map aC.c) (i1:Int)):=by
 intro rest
 induction rest with
 |nil=>
  intro i1 bW aq h;rw[fR]at h;refine aP fun N1 cC br=>?_
  exact((aT.ge aC.c aq).a [.hl 0 [7] [1]]).ex hΓ cC (cc bW h)
 |cons bL bz ih1=>
  intro i1 bW aq h;rw[fR]at h;refine aP fun N1 cC br=>?_
  obtain⟨Xz,h43,h⟩:=aE h;have eH:=(((aT.lt aC.c aq).l (az aC.c 2 (dc aq) rfl)).g (oc h43))
  obtain⟨h44,h⟩|⟨h44,h⟩:=aM h
  ·obtain⟨GB,h46,h⟩:=aE h;obtain⟨h47,h⟩:=bQ h;exact((((eH.b h44).g (fk h46)).w (bh h47)).a [.cn [1,3,7,12,13,14] [0,6]]).cs hΓ br (vL aB aU cL ((bW.map aC.c)++([[D.str GB.rel,D.sl (GB.args.map tx)]])) (IntKind.i64.wrap ((i1:Int)+1))) (by first| (simp only[iS aq hm1,mA]<;>rfl)| (simp only[iS aq hm1,mA,aC.c,aS.c,aL.c,Action.c,aK.c,aN.c,cX.c,aV.c,Node.c,aG.c,cg.c]<;>rfl)) (ih1 (i1+1) (bW++([GB])) (dn aq) h)
  ·exact((eH.b h44).a [.cn [1,3,7,12,13,14] [0,1]]).ct hΓ br (iS aq hm1) (ih1 (i1+1) bW (dn aq) h)
theorem lD{aB:aC}{aU:aR}{cL:aJ}{r:aJ}(h:gb aB aU cL=some r):Good prog 202 [D.agg (aC.c aB),D.sl (aU.map aS.c),D.sl (cL.map aC.c)] (D.fr 53 2 (r.map aC.c)):=by
 refine gd func202 [[some (53,2)]] 33 fun hr Γ hΓ=>?_
 rw[gb]at h;refine(aT.a [.Kc 7,.cn [1,3,7,12,13,14] [0,1]]).lp hΓ (zv hΓ (fun bf h=>?_) (by have:=(eN.sl (hr _ (aD (i:=2) rfl))).1;simpa using this) cL 0 ([]:aJ) rfl h);have h:=aI h;subst h;exact aT.ret hΓ
def lN(aB:aG)(k1:bR->Option ai):Nat->Int->bR->Option ai
 |0,_,_=>none
 |n1+1,eT,bW=>(bif room ((bW.map gS).length+([[D.int .i64 eT]]).length) 8 then((lF aB.nodes eT).bind fun x19=>(bif decide ((x19.parent:Int)<1)then(k1 (bW++([eT])))else(bif decide ((x19.parent:Int)>=eT)then(k1 (bW++([eT])))else(lN aB k1 n1 x19.parent (bW++([eT]))))))else none)
def jk(aB:aG)(qy:bR)(k2:ai->Option ai):Nat->Int->ai->Option ai
 |0,_,_=>none
 |n2+1,Kg,MK=>(bif decide ((Kg:Int)>=0)then((lF qy Kg).bind fun x72=>((lF aB.nodes x72).bind fun x74=>((eY x74.cond).bind fun Um=>(bif room ((MK.map aL.c).length+([[D.int .i64 Um.kind,D.str Um.pat.rel,D.sl (Um.pat.args.map tx),D.str Um.left,D.str Um.right]]).length) 80 then(jk aB qy k2 n2 (IntKind.i64.wrap (Kg-1)) (MK++([Um])))else none))))else(k2 MK))
def ue(aB:aG)(aU:Int):Option ai:=(bif decide ((aU:Int)<1)then(some ([]))else(bif decide ((aU:Int)>=((aB.nodes.map Node.c).length:Int))then(some ([]))else(lN aB (fun(qy:bR)=>(jk aB qy (fun(Ke:ai)=>(some Ke)) fuel (IntKind.i64.wrap (((qy.map gS).length:Int)-1)) ([]:ai))) fuel aU ([]:bR))))
def AZ(aB:aG)(eT:Int)(W1:List aQ):St:=⟨[(1,D.int .i64 eT),(2,D.ptr 0 0),(5,D.acc 1)],[Ob.box (aG.c aB),Ob.row .uq 3 1 W1]⟩
theorem Ht(hΓ:Γ.nt=57){aB:aG}{r:ai}{k1:bR->Option ai}(cc:∀(qy:bR),k1 qy=some r->Ax Γ N f204 (.q [[some (115,5)]] (D.fr 115 5 (r.map aL.c))) [1,1,1,1] ⟨[(2,D.ptr 0 0),(5,D.acc 1)],[Ob.box (aG.c aB),Ob.row .uq 3 1 (qy.map gS)]⟩):∀(n1:Nat) (eT:Int) (bW:bR),lN aB k1 n1 eT bW=some r->Ar Γ N f204 (.q [[some (115,5)]] (D.fr 115 5 (r.map aL.c))) [1,1,1,0,0] n1 (AZ aB eT (bW.map gS)):=by
 intro n
 induction n with
 |zero=>intro eT bW h;simp[lN]at h
 |succ n1 ih1=>
  intro eT bW h;rw[lN]at h;refine aP fun N1 cC br=>?_
  obtain⟨h18,h⟩:=bQ h;obtain⟨x19,h20,h⟩:=aE h;have kx:=((aT.w (bh h18)).l (eA Node.c 8 h20 rfl))
  obtain⟨h21,h⟩|⟨h21,h⟩:=aM h
  ·exact(((kx.r 4 h21).T 1).a [.hl 0 [2,5] [0,3]]).exs hΓ cC ⟨[(2,D.ptr 0 0),(5,D.acc 1)],[Ob.box (aG.c aB),Ob.row .uq 3 1 ((bW.map gS)++([[D.int .i64 eT]]))]⟩ (by first| (simp only[mA]<;>rfl)| (simp only[mA,aC.c,aS.c,aL.c,Action.c,aK.c,aN.c,cX.c,aV.c,Node.c,aG.c,cg.c]<;>rfl)) (cc (bW++([eT])) h)
  ·have kM:=(kx.r 4 h21)
   obtain⟨h22,h⟩|⟨h22,h⟩:=aM h
   ·exact((kM.b h22).a [.hl 0 [2,5] [0,3]]).exs hΓ cC ⟨[(2,D.ptr 0 0),(5,D.acc 1)],[Ob.box (aG.c aB),Ob.row .uq 3 1 ((bW.map gS)++([[D.int .i64 eT]]))]⟩ (by first| (simp only[mA]<;>rfl)| (simp only[mA,aC.c,aS.c,aL.c,Action.c,aK.c,aN.c,cX.c,aV.c,Node.c,aG.c,cg.c]<;>rfl)) (cc (bW++([eT])) h)
   ·exact((kM.b h22).a [.cn [1,2,5] [0,3]]).cs hΓ br (AZ aB x19.parent ((bW.map gS)++([[D.int .i64 eT]]))) (by first| (simp only[mA]<;>rfl)| (simp only[mA,aC.c,aS.c,aL.c,Action.c,aK.c,aN.c,cX.c,aV.c,Node.c,aG.c,cg.c]<;>rfl)) (ih1 x19.parent (bW++([eT])) h)
def Aa(aB:aG)(qy:bR)(Kg:Int)(W1:List aQ):St:=⟨[(2,D.ptr 0 0),(5,D.acc 1),(7,D.acc 2),(8,D.int .i64 Kg)],[Ob.box (aG.c aB),Ob.row .uq 3 1 (qy.map gS),Ob.row .uq 115 5 W1]⟩
theorem Hu(hΓ:Γ.nt=57){aB:aG}{qy:bR}{r:ai}{k2:ai->Option ai}(zf:∀(Ke:ai),k2 Ke=some r->Ax Γ N f204 (.q [[some (115,5)]] (D.fr 115 5 (r.map aL.c))) [1,1,1,1,1,1] ⟨[(7,D.acc 0)],[Ob.row .uq 115 5 (Ke.map aL.c)]⟩):∀(n2:Nat) (Kg:Int) (MK:ai),jk aB qy k2 n2 Kg MK=some r->Ar Γ N f204 (.q [[some (115,5)]] (D.fr 115 5 (r.map aL.c))) [1,1,1,1,1,0,1,0] n2 (Aa aB qy Kg (MK.map aL.c)):=by
 intro n
 induction n with
 |zero=>intro Kg MK h;simp[jk]at h
 |succ n2 ih2=>
  intro Kg MK h;rw[jk]at h;refine aP fun N2 ul sA=>?_
  obtain⟨h65,h⟩|⟨h65,h⟩:=aM h
  ·obtain⟨x72,h73,h⟩:=aE h;obtain⟨x74,h75,h⟩:=aE h;obtain⟨Um,h77,h⟩:=aE h;obtain⟨h78,h⟩:=bQ h;exact((((((((aT.b h65).a [.n2 [0,1,2,3,4,5,6,7,8,9,10,11,12,13] [0,1,2,3,4,5,6,7,8,9,10,11,12,13] 11 12 [0] [3]]).i (vF gS 1 h73)).o 1 1 .uq (dK gS (rE h73))).l (eA Node.c 8 h75 rfl)).g (jo h77)).w (bh h78)).a [.cn [2,5,7,8] [0,1,5]]).cs hΓ sA (Aa aB qy (IntKind.i64.wrap (Kg-1)) ((MK.map aL.c)++([[D.int .i64 Um.kind,D.str Um.pat.rel,D.sl (Um.pat.args.map tx),D.str Um.left,D.str Um.right]]))) (by first| (simp only[mA]<;>rfl)| (simp only[mA,aC.c,aS.c,aL.c,Action.c,aK.c,aN.c,cX.c,aV.c,Node.c,aG.c,cg.c]<;>rfl)) (ih2 (IntKind.i64.wrap (Kg-1)) (MK++([Um])) h)
  ·exact((aT.b h65).a [.hl 0 [7] [2]]).ex hΓ ul (zf MK h)
theorem vC{aB:aG}{aU:Int}{r:ai}(h:ue aB aU=some r):Good prog 204 [D.agg (aG.c aB),D.int .i64 aU] (D.fr 115 5 (r.map aL.c)):=by
 refine gd func204 [[some (115,5)]] 57 fun hr Γ hΓ=>?_
 rw[ue]at h;obtain⟨h1,h⟩|⟨h1,h⟩:=aM h
 ·cases h;exact((aT.r 6 h1).T 1).ret hΓ
 ·have uK:=(aT.r 6 h1)
  obtain⟨h2,h⟩|⟨h2,h⟩:=aM h
  ·cases h;exact(uK.b h2).ret hΓ
  ·refine((uK.b h2).a [.Kc 5,.cn [1,2,5] [0,1]]).lp hΓ (Ht hΓ (fun qy h=>?_) fuel aU ([]:bR) h);refine(aT.a [.Kc 7,.cn [2,5,7,8] [0,1,2]]).lp hΓ (Hu hΓ (fun Ke h=>?_) fuel (IntKind.i64.wrap (((qy.map gS).length:Int)-1)) ([]:ai) h);have h:=aI h;subst h;exact aT.ret hΓ
def ud(aB:aL):Option Bool:=((pz aB).bind fun y1=>(bif y1 then(some (decide ((aB.kind:Int)>=3)))else(some false)))
theorem ym{aB:aL}{r:Bool}(h:ud aB=some r):Good prog 286 [D.agg (aL.c aB)] (D.bool r):=by
 refine gd func286 [[none]] 10 fun hr Γ hΓ=>?_
 rw[ud]at h;obtain⟨y1,h2,h⟩:=aE h;obtain⟨h3,h⟩|⟨h3,h⟩:=aM h
 ·cases h;exact((aT.g (oJ h2)).r 4 h3).ret hΓ
 ·have h:=aI h;subst h;exact((aT.g (oJ h2)).r 4 h3).ret hΓ
def qX(aB:aL)(aU:aR):Option Bool:=((ud aB).bind fun y1=>(bif !(y1)then(some false)else((jj aU).bind fun y4=>(bif !(y4)then(some false)else((oK aU aB.left).bind fun y7=>((oK aU aB.right).bind fun y9=>(bif !(y7.2)then(some false)else(bif !(y9.2)then(some false)else(bif (aB.kind:Int)==3 then(some ((y7.1:Bytes)==y9.1))else(bif (aB.kind:Int)==4 then(some (!((y7.1:Bytes)==y9.1)))else((l6 y7.1).bind fun TP=>((l6 y9.1).bind fun Ot=>(bif TP.2 then(bif Ot.2 then(some (decide ((TP.1:Int)<Ot.1)))else(some false))else(some false))))))))))))))
theorem CH{aB:aL}{aU:aR}{r:Bool}(h:qX aB aU=some r):Good prog 277 [D.agg (aL.c aB),D.sl (aU.map aS.c)] (D.bool r):=by
 refine gd func277 [[none]] 70 fun hr Γ hΓ=>?_
 rw[qX]at h;obtain⟨y1,h2,h⟩:=aE h;obtain⟨h3,h⟩|⟨h3,h⟩:=aM h
 ·have h:=aI h;subst h;exact(((aT.g (ym h2)).r 4 h3).T 1).ret hΓ
 ·obtain⟨y4,h5,h⟩:=aE h;have mQ:=((((aT.g (ym h2)).r 2 h3).g (lG h5)).r 2 h3)
  obtain⟨h6,h⟩|⟨h6,h⟩:=aM h
  ·have h:=aI h;subst h;exact(mQ.b h6).ret hΓ
  ·obtain⟨y7,h8,h⟩:=aE h;obtain⟨y9,h10,h⟩:=aE h;have eH:=(((mQ.b h6).g (uP h8)).g (uP h10))
   obtain⟨h11,h⟩|⟨h11,h⟩:=aM h
   ·have h:=aI h;subst h;exact((eH.r 3 h11).T 1).ret hΓ
   ·have kx:=(eH.r 3 h11)
    obtain⟨h12,h⟩|⟨h12,h⟩:=aM h
    ·have h:=aI h;subst h;exact(kx.b h12).ret hΓ
    ·obtain⟨h13,h⟩|⟨h13,h⟩:=aM h
     ·cases h;exact((kx.b h12).b h13).ret hΓ
     ·have kM:=((kx.b h12).b h13)
      obtain⟨h14,h⟩|⟨h14,h⟩:=aM h
      ·cases h;exact(kM.b h14).ret hΓ
      ·obtain⟨TP,h16,h⟩:=aE h;obtain⟨Ot,h18,h⟩:=aE h;have uK:=(((kM.b h14).g (pM h16)).g (pM h18))
       obtain⟨h19,h⟩|⟨h19,h⟩:=aM h
       ·have wO:=(uK.r 2 h19)
        obtain⟨h20,h⟩|⟨h20,h⟩:=aM h
        ·cases h;exact(wO.r 4 h20).ret hΓ
        ·have h:=aI h;subst h;exact(wO.r 4 h20).ret hΓ
       ·have h:=aI h;subst h;exact((uK.r 2 h19).F 4).ret hΓ
def qW(aB:aL)(aU:aR)(cL:aJ):Option Bool:=((pz aB).bind fun y1=>(bif !(y1)then(some false)else((jj aU).bind fun y4=>(bif !(y4)then(some false)else(bif (aB.kind:Int)==1 then((gb aB.pat aU cL).bind fun y8=>(some (decide ((((y8.map aC.c).length:Int):Int)>0))))else(bif (aB.kind:Int)==2 then((gb aB.pat aU cL).bind fun Mf=>(some ((((Mf.map aC.c).length:Int):Int)==0)))else((qX aB aU).bind fun uC=>(some uC))))))))
theorem CG{aB:aL}{aU:aR}{cL:aJ}{r:Bool}(h:qW aB aU cL=some r):Good prog 259 [D.agg (aL.c aB),D.sl (aU.map aS.c),D.sl (cL.map aC.c)] (D.bool r):=by
 refine gd func259 [[none]] 38 fun hr Γ hΓ=>?_
 rw[qW]at h;obtain⟨y1,h2,h⟩:=aE h;obtain⟨h3,h⟩|⟨h3,h⟩:=aM h
 ·have h:=aI h;subst h;exact(((aT.g (oJ h2)).r 4 h3).T 1).ret hΓ
 ·obtain⟨y4,h5,h⟩:=aE h;have mQ:=((((aT.g (oJ h2)).r 2 h3).g (lG h5)).r 2 h3)
  obtain⟨h6,h⟩|⟨h6,h⟩:=aM h
  ·have h:=aI h;subst h;exact(mQ.b h6).ret hΓ
  ·obtain⟨h7,h⟩|⟨h7,h⟩:=aM h
   ·obtain⟨y8,h9,h⟩:=aE h;cases h;exact(((mQ.b h6).b h7).g (lD h9)).ret hΓ
   ·have eH:=((mQ.b h6).b h7)
    obtain⟨h10,h⟩|⟨h10,h⟩:=aM h
    ·obtain⟨Mf,h12,h⟩:=aE h;cases h;exact((eH.b h10).g (lD h12)).ret hΓ
    ·obtain⟨uC,h14,h⟩:=aE h;have h:=aI h;subst h;exact((eH.b h10).g (CH h14)).ret hΓ
def jT(aB:ai)(aU:aJ)(i2:Nat)(bA:aj)(k8:aN)(i1:Nat)(bL:aL)(k3:aj->Option aj):aJ->Nat->aj->Option aj
 | [],i3,xd=>(k3 xd)
 |Qi::On,i3,xd=>((iJ bL.pat Qi k8.bind).bind fun Na=>(bif Na.2 then((cS k8.facts).bind fun Nb=>((dQ Qi).bind fun JE=>(bif room ((Nb.map aC.c).length+([[D.str JE.rel,D.sl (JE.args.map tx)]]).length) 40 then(bif room ((xd.map aN.c).length+([[D.sl ((Nb.map aC.c)++([[D.str JE.rel,D.sl (JE.args.map tx)]])),D.sl (Na.1.map aS.c)]]).length) 48 then(jT aB aU i2 bA k8 i1 bL k3 On (i3+1) (xd++([(⟨Nb++([JE]),Na.1⟩:aN)])))else none)else none)))else(jT aB aU i2 bA k8 i1 bL k3 On (i3+1) xd)))
def ez(aB:ai)(aU:aJ)(bA:aj)(i1:Nat)(bL:aL)(k2:aj->Option aj):aj->Nat->aj->Option aj
 | [],i2,jH=>(k2 jH)
 |k8::tf,i2,jH=>(bif (bL.kind:Int) != 1 then((qW bL k8.bind aU).bind fun a0q=>(bif a0q then(bif room ((jH.map aN.c).length+([[D.sl (k8.facts.map aC.c),D.sl (k8.bind.map aS.c)]]).length) 48 then(ez aB aU bA i1 bL k2 tf (i2+1) (jH++([k8])))else none)else(ez aB aU bA i1 bL k2 tf (i2+1) jH)))else(bif decide (aU.length<=maxLen)then(jT aB aU i2 bA k8 i1 bL (fun(UJ:aj)=>(ez aB aU bA i1 bL k2 tf (i2+1) UJ)) aU 0 jH)else none))
def jS(aB:ai)(aU:aJ)(k1:aj->Option aj):ai->Nat->aj->Option aj
 | [],i1,bA=>(k1 bA)
 |bL::bz,i1,bA=>(bif decide (bA.length<=maxLen)then(ez aB aU bA i1 bL (fun(Ke:aj)=>(jS aB aU k1 bz (i1+1) Ke)) bA 0 ([]:aj))else none)
def rj(aB:ai)(aU:aJ):Option aj:=(jS aB aU (fun(bf:aj)=>(some bf)) aB 0 ([(⟨[],[]⟩:aN)]))
def yu(aB:ai)(aU:aJ)(W0:List aQ)(cR:Int):St:=⟨[(1,D.sl (aU.map aC.c)),(5,D.acc 0),(17,D.sl (aB.map aL.c)),(18,D.int .i64 ((aB.map aL.c).length:Int)),(19,D.int .i64 cR)],[Ob.row .uq 124 2 W0]⟩
def yw(aB:ai)(aU:aJ)(bA:aj)(i1:Nat)(bL:aL)(W0:List aQ)(a7o:Nat)(cR:Int):St:=⟨[(1,D.sl (aU.map aC.c)),(7,D.ptr 0 0),(8,D.acc 1),(17,D.sl (aB.map aL.c)),(18,D.int .i64 ((aB.map aL.c).length:Int)),(19,D.int .i64 (i1:Int)),(23,D.acc 2),(24,D.int .i64 ((bA.map aN.c).length:Int)),(25,D.int .i64 cR)],[Ob.box [D.int .i64 bL.kind,D.str bL.pat.rel,D.sl (bL.pat.args.map tx),D.str bL.left,D.str bL.right],Ob.row .uq 124 2 W0,Ob.row (.mv a7o) 124 2 (bA.map aN.c)]⟩
def yx(aB:ai)(aU:aJ)(i2:Nat)(bA:aj)(k8:aN)(i1:Nat)(bL:aL)(W0:List aQ)(cR:Int):St:=⟨[(1,D.sl (aU.map aC.c)),(7,D.ptr 0 0),(8,D.acc 1),(10,D.ptr 2 0),(17,D.sl (aB.map aL.c)),(18,D.int .i64 ((aB.map aL.c).length:Int)),(19,D.int .i64 (i1:Int)),(23,D.acc 3),(24,D.int .i64 ((bA.map aN.c).length:Int)),(25,D.int .i64 (i2:Int)),(41,D.sl (aU.map aC.c)),(42,D.int .i64 ((aU.map aC.c).length:Int)),(43,D.int .i64 cR)],[Ob.box [D.int .i64 bL.kind,D.str bL.pat.rel,D.sl (bL.pat.args.map tx),D.str bL.left,D.str bL.right],Ob.row .uq 124 2 W0,Ob.box [D.acc 4,D.acc 5],Ob.row (.mv (i2+1)) 124 2 (bA.map aN.c),Ob.tk (k8.facts.map aC.c),Ob.tk (k8.bind.map aS.c)]⟩
theorem F2(hΓ:Γ.nt=74){aB:ai}{aU:aJ}{i2:Nat}{bA:aj}{k8:aN}{i1:Nat}{bL:aL}{r:aj}{k3:aj->Option aj}(Yd:∀(UJ:aj),k3 UJ=some r->Ax Γ N f203 (.q [[some (124,2)]] (D.fr 124 2 (r.map aN.c))) [1,1,0,1,0,0,1,1,0,0,1,1,0,1,0,0,1,1,1] ⟨[(1,D.sl (aU.map aC.c)),(7,D.ptr 0 0),(8,D.acc 1),(17,D.sl (aB.map aL.c)),(18,D.int .i64 ((aB.map aL.c).length:Int)),(19,D.int .i64 (i1:Int)),(23,D.acc 2),(24,D.int .i64 ((bA.map aN.c).length:Int)),(25,D.int .i64 (i2:Int))],[Ob.box [D.int .i64 bL.kind,D.str bL.pat.rel,D.sl (bL.pat.args.map tx),D.str bL.left,D.str bL.right],Ob.row .uq 124 2 (UJ.map aN.c),Ob.row (.mv (i2+1)) 124 2 (bA.map aN.c)]⟩)(RE:aU.length<=maxLen):∀(rest:aJ) (i3:Nat) (xd:aj),aU.drop i3=rest->jT aB aU i2 bA k8 i1 bL k3 rest i3 xd=some r->Ar Γ N f203 (.q [[some (124,2)]] (D.fr 124 2 (r.map aN.c))) [1,1,0,1,0,0,1,1,0,0,1,1,0,1,0,0,1,1,0,0,1,1,1,0] (rest.length+1) (yx aB aU i2 bA k8 i1 bL (xd.map aN.c) (i3:Int)):=by
 intro rest
 induction rest with
 |nil=>
  intro i3 xd yL h;rw[jT]at h;refine aP fun N3 Sk Nv=>?_
  exact((aT.ge aC.c yL).a [.hl 8 [1,7,8,17,18,19,23,24,25] [0,1,3]]).ex hΓ Sk (Yd xd h)
 |cons Qi On ih3=>
  intro i3 xd yL h;rw[jT]at h;refine aP fun N3 Sk Nv=>?_
  obtain⟨Na,h3513,h⟩:=aE h;have a4p:=(((aT.lt aC.c yL).l (az aC.c 2 (dc yL) rfl)).g (oc h3513))
  obtain⟨h3514,h⟩|⟨h3514,h⟩:=aM h
  ·obtain⟨Nb,h3521,h⟩:=aE h;obtain⟨JE,h3523,h⟩:=aE h;obtain⟨h3524,h⟩:=bQ h;obtain⟨h3525,h⟩:=bQ h;exact(((((((a4p.b h3514).a [.n2 [0,1,2,3,4,5,8,6,7,9,10,11,12] [0,1,2,3,4,5,7,8,6,9,10,11,12] 7 11 [0,6] [7,8,9,10,11]]).g (eM h3521)).g (fk h3523)).w (bh h3524)).w (bh h3525)).a [.cn [1,7,8,10,17,18,19,23,24,25,41,42,43] [0,13,2,3,4,5]]).cs hΓ Nv (yx aB aU i2 bA k8 i1 bL ((xd.map aN.c)++([[D.sl ((Nb.map aC.c)++([[D.str JE.rel,D.sl (JE.args.map tx)]])),D.sl (Na.1.map aS.c)]])) (IntKind.i64.wrap ((i3:Int)+1))) (by first| (simp only[iS yL RE,mA]<;>rfl)| (simp only[iS yL RE,mA,aC.c,aS.c,aL.c,Action.c,aK.c,aN.c,cX.c,aV.c,Node.c,aG.c,cg.c]<;>rfl)) (ih3 (i3+1) (xd++([(⟨Nb++([JE]),Na.1⟩:aN)])) (dn yL) h)
  ·exact((a4p.b h3514).a [.cn [1,7,8,10,17,18,19,23,24,25,41,42,43] [0,1,2,3,4,5]]).ct hΓ Nv (iS yL RE) (ih3 (i3+1) xd (dn yL) h)
theorem F1(hΓ:Γ.nt=74){aB:ai}{aU:aJ}{bA:aj}{i1:Nat}{bL:aL}{r:aj}{k2:aj->Option aj}(zf:∀(Ke:aj),k2 Ke=some r->Ax Γ N f203 (.q [[some (124,2)]] (D.fr 124 2 (r.map aN.c))) [1,1,0,1,0,0,1,1,0,0,1,1,1] ⟨[(1,D.sl (aU.map aC.c)),(8,D.acc 0),(17,D.sl (aB.map aL.c)),(18,D.int .i64 ((aB.map aL.c).length:Int)),(19,D.int .i64 (i1:Int))],[Ob.row .uq 124 2 (Ke.map aN.c)]⟩)(hm2:bA.length<=maxLen):∀(rest:aj) (i2:Nat) (jH:aj),bA.drop i2=rest->ez aB aU bA i1 bL k2 rest i2 jH=some r->Ar Γ N f203 (.q [[some (124,2)]] (D.fr 124 2 (r.map aN.c))) [1,1,0,1,0,0,1,1,0,0,1,1,0,1,0] (rest.length+1) (yw aB aU bA i1 bL (jH.map aN.c) i2 (i2:Int)):=by
 intro rest
 induction rest with
 |nil=>
  intro i2 jH hd2 h;rw[ez]at h;refine aP fun N2 ul sA=>?_
  exact((aT.ge aN.c hd2).a [.hl 5 [1,8,17,18,19] [1]]).ex hΓ ul (zf jH h)
 |cons k8 tf ih2=>
  intro i2 jH hd2 h;rw[ez]at h;refine aP fun N2 ul sA=>?_
  have a4q:=((((aT.lt aN.c hd2).i (nX aN.c 2 (dc hd2))).w (show i2=i2/\(bA.map aN.c)[i2]?=some [D.sl (k8.facts.map aC.c),D.sl (k8.bind.map aS.c)]/\Of [D.sl (k8.facts.map aC.c),D.sl (k8.bind.map aS.c)]=true from⟨rfl,dK aN.c (dc hd2),rfl⟩)).a [.tk [D.sl (k8.facts.map aC.c),D.sl (k8.bind.map aS.c)]])
  obtain⟨h3426,h⟩|⟨h3426,h⟩:=aM h
  ·obtain⟨a0q,h3428,h⟩:=aE h;have a4r:=((a4q.b h3426).g (CG h3428))
   obtain⟨h3429,h⟩|⟨h3429,h⟩:=aM h
   ·obtain⟨h3430,h⟩:=bQ h;exact(((a4r.b h3429).w (bh h3430)).a [.cn [1,7,8,17,18,19,23,24,25] [0,7,2]]).cs hΓ sA (yw aB aU bA i1 bL ((jH.map aN.c)++([[D.sl (k8.facts.map aC.c),D.sl (k8.bind.map aS.c)]])) (i2+1) (IntKind.i64.wrap ((i2:Int)+1))) (by first| (simp only[iS hd2 hm2,mA]<;>rfl)| (simp only[iS hd2 hm2,mA,aC.c,aS.c,aL.c,Action.c,aK.c,aN.c,cX.c,aV.c,Node.c,aG.c,cg.c]<;>rfl)) (ih2 (i2+1) (jH++([k8])) (dn hd2) h)
   ·exact((a4r.b h3429).a [.cn [1,7,8,17,18,19,23,24,25] [0,1,2]]).ct hΓ sA (iS hd2 hm2) (ih2 (i2+1) jH (dn hd2) h)
  ·obtain⟨h3526,h⟩:=bQ h;refine((a4q.b h3426).a [.cn [1,7,8,10,17,18,19,23,24,25,41,42,43] [0,1,5,2,3,4]]).lp hΓ (F2 hΓ (fun UJ h=>?_) (bY h3526) aU 0 jH rfl h);exact(aT.a [.cn [1,7,8,17,18,19,23,24,25] [0,1,2]]).ct hΓ sA (iS hd2 hm2) (ih2 (i2+1) UJ (dn hd2) h)
theorem F0(hΓ:Γ.nt=74){aB:ai}{aU:aJ}{r:aj}{k1:aj->Option aj}(cc:∀(bf:aj),k1 bf=some r->Ax Γ N f203 (.q [[some (124,2)]] (D.fr 124 2 (r.map aN.c))) [1,1,1] ⟨[(5,D.acc 0)],[Ob.row .uq 124 2 (bf.map aN.c)]⟩)(hm1:aB.length<=maxLen):∀(rest:ai) (i1:Nat) (bA:aj),aB.drop i1=rest->jS aB aU k1 rest i1 bA=some r->Ar Γ N f203 (.q [[some (124,2)]] (D.fr 124 2 (r.map aN.c))) [1,1,0,1,0] (rest.length+1) (yu aB aU (bA.map aN.c) (i1:Int)):=by
 intro rest
 induction rest with
 |nil=>
  intro i1 bA aq h;rw[jS]at h;refine aP fun N1 cC br=>?_
  exact((aT.ge aL.c aq).a [.hl 0 [5] [0]]).ex hΓ cC (cc bA h)
 |cons bL bz ih1=>
  intro i1 bA aq h;rw[jS]at h;refine aP fun N1 cC br=>?_
  obtain⟨h3527,h⟩:=bQ h;refine(((aT.lt aL.c aq).l (az aL.c 5 (dc aq) rfl)).a [.Kc 8,.mz 0,.cn [1,7,8,17,18,19,23,24,25] [1,2,0]]).lp hΓ (F1 hΓ (fun Ke h=>?_) (bY h3527) bA 0 ([]:aj) rfl h);exact(aT.a [.cn [1,5,17,18,19] [0]]).ct hΓ br (iS aq hm1) (ih1 (i1+1) Ke (dn aq) h)
theorem DQ{aB:ai}{aU:aJ}{r:aj}(h:rj aB aU=some r):Good prog 203 [D.sl (aB.map aL.c),D.sl (aU.map aC.c)] (D.fr 124 2 (r.map aN.c)):=by
 refine gd func203 [[some (124,2)]] 74 fun hr Γ hΓ=>?_
 rw[rj]at h;refine(aT.a [.cn [1,5,17,18,19] [0]]).Y8 hΓ (yu aB aU ([[D.sl ([]),D.sl ([])]]) 0) (by first| (simp only[mA]<;>rfl)| (simp only[mA,aC.c,aS.c,aL.c,Action.c,aK.c,aN.c,cX.c,aV.c,Node.c,aG.c,cg.c]<;>rfl)) (F0 hΓ (fun bf h=>?_) (by have:=(eN.sl (hr _ (aD (i:=0) rfl))).1;simpa using this) aB 0 ([(⟨[],[]⟩:aN)]) rfl h);have h:=aI h;subst h;exact aT.ret hΓ
def eU(aB:aG)(aU:aJ)(y1:aJ)(k1:bD->Option (aG×Unit)):bD->Nat->bD->Option (aG×Unit)
 | [],i1,dW=>(k1 dW)
 |bL::bz,i1,dW=>(bif decide (i1<(dW.map aV.c).length)then(((dW)[i1]?).bind fun x35=>((gb x35.shape ([]) aU).bind fun SF=>(bif decide (i1<(dW.map aV.c).length)then(eU aB aU y1 k1 bz (i1+1) (dW.set i1 (⟨x35.shape,SF⟩:aV)))else none)))else none)
def dU(aB:aG)(aU:aJ)(y1:aJ)(fC:bD)(k2:Option (aG×Unit)):b9->Nat->b9->Option (aG×Unit)
 | [],i2,nQ=>(some ((⟨aB.rules,aB.ends,fC,nQ,y1,aB.bn⟩:aG),()))
 |k8::tf,i2,nQ=>((ue (⟨aB.rules,aB.ends,fC,nQ,y1,aB.bn⟩:aG) (i2:Int)).bind fun Kh=>((rj Kh aU).bind fun S9=>(bif decide (i2<(nQ.map Node.c).length)then(((nQ)[i2]?).bind fun x107=>(dU aB aU y1 fC k2 tf (i2+1) (nQ.set i2 (⟨x107.parent,x107.cond,x107.cQ,S9⟩:Node))))else none)))
def iF(aB:aG)(aU:aJ):Option (aG×Unit):=((cS aU).bind fun y1=>(bif decide (aB.av.length<=maxLen)then(eU aB aU y1 (fun(fC:bD)=>(bif decide (aB.nodes.length<=maxLen)then(dU aB aU y1 fC none aB.nodes 0 aB.nodes)else none)) aB.av 0 aB.av)else none))
def uF(wX:Value)(aB:aG)(aU:aJ)(y1:aJ)(W0:List aQ)(cR:Int):St:=⟨[(0,D.ptr 0 0),(1,D.sl (aU.map aC.c)),(15,D.int .i64 ((aB.av.map aV.c).length:Int)),(16,D.int .i64 cR)],[Ob.Ka [D.acc 1,D.acc 2,D.acc 3,D.acc 4,D.acc 5,D.int .i64 aB.bn] wX,Ob.row .uq 105 4 (aB.rules.map aK.c),Ob.row .uq 3 1 (aB.ends.map gS),Ob.row .uq 111 3 W0,Ob.row .uq 118 8 (aB.nodes.map Node.c),Ob.row .uq 53 2 (y1.map aC.c)]⟩
theorem yj(hΓ:Γ.nt=60){wX:Value}{aB:aG}{aU:aJ}{y1:aJ}{r:aG×Unit}{k1:bD->Option (aG×Unit)}(cc:∀(fC:bD),k1 fC=some r->Ax Γ N f135 (.p [[some (105,4),some (3,1),some (111,3),some (118,8),some (53,2),none]] wX (cK r.1) (D.hY [])) [1,1] ⟨[(0,D.ptr 0 0),(1,D.sl (aU.map aC.c))],[Ob.Ka [D.acc 1,D.acc 2,D.acc 3,D.acc 4,D.acc 5,D.int .i64 aB.bn] wX,Ob.row .uq 105 4 (aB.rules.map aK.c),Ob.row .uq 3 1 (aB.ends.map gS),Ob.row .uq 111 3 (fC.map aV.c),Ob.row .uq 118 8 (aB.nodes.map Node.c),Ob.row .uq 53 2 (y1.map aC.c)]⟩)(hm1:aB.av.length<=maxLen):∀(rest:bD) (i1:Nat) (dW:bD),aB.av.drop i1=rest->eU aB aU y1 k1 rest i1 dW=some r->Ar Γ N f135 (.p [[some (105,4),some (3,1),some (111,3),some (118,8),some (53,2),none]] wX (cK r.1) (D.hY [])) [1,0,1,0] (rest.length+1) (uF wX aB aU y1 (dW.map aV.c) (i1:Int)):=by
 intro rest
 induction rest with
 |nil=>
  intro i1 dW aq h;rw[eU]at h;refine aP fun N1 cC br=>?_
  exact((aT.ge aV.c aq).a [.hl 0 [0,1] [0,1,2,3,4,5]]).ex hΓ cC (cc dW h)
 |cons bL bz ih1=>
  intro i1 dW aq h;rw[eU]at h;refine aP fun N1 cC br=>?_
  obtain⟨h34,h⟩:=bQ h;obtain⟨x35,h36,h⟩:=aE h;obtain⟨SF,h38,h⟩:=aE h;obtain⟨h39,h⟩:=bQ h;exact(((((((((aT.lt aV.c aq).a [.n 15]).i (EF 3 h34)).o 3 2 .uq (dK aV.c h36)).a [.d (D.fr 53 2 (SF.map aC.c))]).w (show Good prog 202 [D.agg (aC.c x35.shape),D.sl ([]),D.sl (aU.map aC.c)] (D.fr 53 2 (SF.map aC.c))from by first| (simpa only[bV,bH,cD,dG,ck]using lD h38)|exact lD h38)).i (EF 3 h39)).w (show(dW.map aV.c)[i1]?=some [D.str x35.shape.rel,D.sl (x35.shape.args.map tx),D.sl (x35.facts.map aC.c)]from dK aV.c h36)).a [.row [D.str x35.shape.rel,D.sl (x35.shape.args.map tx),D.sl (x35.facts.map aC.c)],.cn [0,1,15,16] [0,1,2,3,4,5]]).cs hΓ br (uF wX aB aU y1 ((dW.map aV.c).set i1 [D.str x35.shape.rel,D.sl (x35.shape.args.map tx),D.sl (SF.map aC.c)]) (IntKind.i64.wrap ((i1:Int)+1))) (by first| (simp only[iS aq hm1,mA]<;>rfl)| (simp only[iS aq hm1,mA,aC.c,aS.c,aL.c,Action.c,aK.c,aN.c,cX.c,aV.c,Node.c,aG.c,cg.c]<;>rfl)) (ih1 (i1+1) (dW.set i1 (⟨x35.shape,SF⟩:aV)) (dn aq) h)
def uG(wX:Value)(aB:aG)(aU:aJ)(y1:aJ)(fC:bD)(W0:List aQ)(cR:Int):St:=⟨[(0,D.ptr 0 0),(1,D.sl (aU.map aC.c)),(41,D.int .i64 ((aB.nodes.map Node.c).length:Int)),(42,D.int .i64 cR)],[Ob.Ka [D.acc 1,D.acc 2,D.acc 3,D.acc 4,D.acc 5,D.int .i64 aB.bn] wX,Ob.row .uq 105 4 (aB.rules.map aK.c),Ob.row .uq 3 1 (aB.ends.map gS),Ob.row .uq 111 3 (fC.map aV.c),Ob.row .uq 118 8 W0,Ob.row .uq 53 2 (y1.map aC.c)]⟩
theorem yl(hΓ:Γ.nt=60){wX:Value}{aB:aG}{aU:aJ}{y1:aJ}{fC:bD}{r:aG×Unit}{k2:Option (aG×Unit)}(zf:k2=some r->Ax Γ N f135 (.p [[some (105,4),some (3,1),some (111,3),some (118,8),some (53,2),none]] wX (cK r.1) (D.hY [])) [1,1,1,0,0] ⟨[],[]⟩)(hm2:aB.nodes.length<=maxLen):∀(rest:b9) (i2:Nat) (nQ:b9),aB.nodes.drop i2=rest->dU aB aU y1 fC k2 rest i2 nQ=some r->Ar Γ N f135 (.p [[some (105,4),some (3,1),some (111,3),some (118,8),some (53,2),none]] wX (cK r.1) (D.hY [])) [1,1,1,0] (rest.length+1) (uG wX aB aU y1 fC (nQ.map Node.c) (i2:Int)):=by
 intro rest
 induction rest with
 |nil=>
  intro i2 nQ hd2 h;rw[dU]at h;refine aP fun N2 ul sA=>?_
  cases h;exact(aT.ge Node.c hd2).ret hΓ
 |cons k8 tf ih2=>
  intro i2 nQ hd2 h;rw[dU]at h;refine aP fun N2 ul sA=>?_
  obtain⟨Kh,h103,h⟩:=aE h;obtain⟨S9,h105,h⟩:=aE h;obtain⟨h106,h⟩:=bQ h;obtain⟨x107,h108,h⟩:=aE h;exact(((((((aT.lt Node.c hd2).a [.n2 [0,1,2,3,4,5,6,7,8,9,10,11,12,13,14] [0,1,2,3,4,5,6,7,8,9,10,11,12,13,14] 11 12 [0,1,2,3,4] [],.d (D.fr 115 5 (Kh.map aL.c))]).w (show Good prog 204 [D.agg [D.sl (aB.rules.map aK.c),D.sl (aB.ends.map gS),D.sl (fC.map aV.c),D.sl (nQ.map Node.c),D.sl (y1.map aC.c),D.int .i64 aB.bn],D.int .i64 (i2:Int)] (D.fr 115 5 (Kh.map aL.c))from by first| (simpa only[bV,bH,cD,dG,ck]using vC h103)|exact vC h103| (have t:=vC h103;simp only[bV,dG,ck,aG.c]at t;exact t))).g (DQ h105)).i (EF 8 h106)).w (show(nQ.map Node.c)[i2]?=some [D.int .i64 x107.parent,D.int .i64 x107.cond.kind,D.str x107.cond.pat.rel,D.sl (x107.cond.pat.args.map tx),D.str x107.cond.left,D.str x107.cond.right,D.int .i64 x107.cQ,D.sl (x107.tokens.map aN.c)]from dK Node.c h108)).a [.row [D.int .i64 x107.parent,D.int .i64 x107.cond.kind,D.str x107.cond.pat.rel,D.sl (x107.cond.pat.args.map tx),D.str x107.cond.left,D.str x107.cond.right,D.int .i64 x107.cQ,D.sl (x107.tokens.map aN.c)],.cn [0,1,41,42] [0,1,2,3,4,5]]).cs hΓ sA (uG wX aB aU y1 fC ((nQ.map Node.c).set i2 [D.int .i64 x107.parent,D.int .i64 x107.cond.kind,D.str x107.cond.pat.rel,D.sl (x107.cond.pat.args.map tx),D.str x107.cond.left,D.str x107.cond.right,D.int .i64 x107.cQ,D.sl (S9.map aN.c)]) (IntKind.i64.wrap ((i2:Int)+1))) (by first| (simp only[iS hd2 hm2,mA]<;>rfl)| (simp only[iS hd2 hm2,mA,aC.c,aS.c,aL.c,Action.c,aK.c,aN.c,cX.c,aV.c,Node.c,aG.c,cg.c]<;>rfl)) (ih2 (i2+1) (nQ.set i2 (⟨x107.parent,x107.cond,x107.cQ,S9⟩:Node)) (dn hd2) h)
theorem tA{aB:aG}{aU:aJ}{r:aG×Unit}(h:iF aB aU=some r):yc prog 135 (cK aB) (cK r.1) [D.sl (aU.map aC.c)] (D.hY []):=by
 refine gdP func135 [[some (105,4),some (3,1),some (111,3),some (118,8),some (53,2),none]] 60 [D.acc 1,D.acc 2,D.acc 3,D.acc 4,D.acc 5,D.int .i64 aB.bn] [D.sl (aU.map aC.c)] [Ob.row .uq 105 4 (aB.rules.map aK.c),Ob.row .uq 3 1 (aB.ends.map gS),Ob.row .uq 111 3 (aB.av.map aV.c),Ob.row .uq 118 8 (aB.nodes.map Node.c),Ob.row .uq 53 2 (aB.facts.map aC.c)] fun hr wX Γ hΓ=>?_
 rw[iF]at h;obtain⟨y1,h2,h⟩:=aE h;obtain⟨h110,h⟩:=bQ h;refine((aT.g (eM h2)).a [.cn [0,1,15,16] [0,1,2,3,4,6]]).lp hΓ (yj hΓ (fun fC h=>?_) (bY h110) aB.av 0 aB.av rfl h);obtain⟨h109,h⟩:=bQ h;refine(aT.a [.cn [0,1,41,42] [0,1,2,3,4,5]]).lp hΓ (yl hΓ (fun h=>?_) (bY h109) aB.nodes 0 aB.nodes rfl h);cases h
def rF(aB:ah)(aU:aJ)(cL:Int):Option aG:=((qi aB).bind fun y1=>((iF y1 aU).bind fun y3=>(some (⟨y3.1.rules,y3.1.ends,y3.1.av,y3.1.nodes,y3.1.facts,cL⟩:aG))))
theorem ve{aB:ah}{aU:aJ}{cL:Int}{r:aG}(h:rF aB aU cL=some r):Good prog 78 [D.sl (aB.map aK.c),D.sl (aU.map aC.c),D.int .i64 cL] (D.agg [D.fr 105 4 (r.rules.map aK.c),D.fr 3 1 (r.ends.map gS),D.fr 111 3 (r.av.map aV.c),D.fr 118 8 (r.nodes.map Node.c),D.fr 53 2 (r.facts.map aC.c),D.int .i64 r.bn]):=by
 refine gd func78 [[some (105,4),some (3,1),some (111,3),some (118,8),some (53,2),none]] 15 fun hr Γ hΓ=>?_
 rw[rF]at h;obtain⟨y1,h2,h⟩:=aE h;obtain⟨y3,h4,h⟩:=aE h;cases h;exact((aT.g (CS h2)).hp [[some (105,4),some (3,1),some (111,3),some (118,8),some (53,2),none],[none]] (tA h4)).ret hΓ
def jO(aB:aK)(aU:aK)(k1:Option Bool):ai->Nat->Option Bool
 | [],i1=>(k1)
 |bL::bz,i1=>((lF aU.conds (i1:Int)).bind fun x33=>((jG bL x33).bind fun vU=>(bif !(vU)then(some false)else(jO aB aU k1 bz (i1+1)))))
def gf(aB:aK)(aU:aK)(k2:Option Bool):cH->Nat->Option Bool
 | [],i2=>(k2)
 |k8::tf,i2=>((lF aU.cU (i2:Int)).bind fun x70=>(bif (k8.kind:Int) != x70.kind then(some false)else((ey k8.pat x70.pat).bind fun HY=>(bif !(HY)then(some false)else(gf aB aU k2 tf (i2+1))))))
def ou(aB:aK)(aU:aK):Option Bool:=(bif !((aB.name:Bytes)==aU.name)then(some false)else(bif (aB.prio:Int) != aU.prio then(some false)else(bif (((aB.conds.map aL.c).length:Int):Int) != ((aU.conds.map aL.c).length:Int)then(some false)else(bif (((aB.cU.map Action.c).length:Int):Int) != ((aU.cU.map Action.c).length:Int)then(some false)else(jO aB aU (gf aB aU (some true) aB.cU 0) aB.conds 0)))))
def GO(aB:aK)(aU:aK)(cR:Int):St:=⟨[(2,D.ptr 0 0),(3,D.ptr 1 0),(39,D.int .i64 ((aB.conds.map aL.c).length:Int)),(40,D.int .i64 cR)],[Ob.box (aK.c aB),Ob.box (aK.c aU)]⟩
theorem En(hΓ:Γ.nt=92){aB:aK}{aU:aK}{r:Bool}{k1:Option Bool}(cc:k1=some r->Ax Γ N f230 (.q [[none]] (D.bool r)) [1,1,1] ⟨[(2,D.ptr 0 0),(3,D.ptr 1 0)],[Ob.box (aK.c aB),Ob.box (aK.c aU)]⟩)(hm1:aB.conds.length<=maxLen):∀(rest:ai) (i1:Nat),aB.conds.drop i1=rest->jO aB aU k1 rest i1=some r->Ar Γ N f230 (.q [[none]] (D.bool r)) [1,1,0,1,0] (rest.length+1) (GO aB aU (i1:Int)):=by
 intro rest
 induction rest with
 |nil=>
  intro i1 aq h;rw[jO]at h;refine aP fun N1 cC br=>?_
  exact((aT.ge aL.c aq).a [.hl 0 [2,3] [0,1]]).ex hΓ cC (cc h)
 |cons bL bz ih1=>
  intro i1 aq h;rw[jO]at h;refine aP fun N1 cC br=>?_
  obtain⟨x33,h34,h⟩:=aE h;obtain⟨vU,h36,h⟩:=aE h;have kM:=(((((aT.lt aL.c aq).a [.n 10]).l (az aL.c 5 (dc aq) rfl)).l (eA aL.c 5 h34 rfl)).g (tL h36))
  obtain⟨h37,h⟩|⟨h37,h⟩:=aM h
  ·have h:=aI h;subst h;exact(kM.b h37).ret hΓ
  ·exact((kM.b h37).a [.cn [2,3,39,40] [0,1]]).ct hΓ br (iS aq hm1) (ih1 (i1+1) (dn aq) h)
def GP(aB:aK)(aU:aK)(cR:Int):St:=⟨[(2,D.ptr 0 0),(3,D.ptr 1 0),(58,D.int .i64 ((aB.cU.map Action.c).length:Int)),(59,D.int .i64 cR)],[Ob.box (aK.c aB),Ob.box (aK.c aU)]⟩
theorem Eo(hΓ:Γ.nt=92){aB:aK}{aU:aK}{r:Bool}{k2:Option Bool}(zf:k2=some r->Ax Γ N f230 (.q [[none]] (D.bool r)) [1,1,1,1] ⟨[],[]⟩)(hm2:aB.cU.length<=maxLen):∀(rest:cH) (i2:Nat),aB.cU.drop i2=rest->gf aB aU k2 rest i2=some r->Ar Γ N f230 (.q [[none]] (D.bool r)) [1,1,1,0,1,0] (rest.length+1) (GP aB aU (i2:Int)):=by
 intro rest
 induction rest with
 |nil=>
  intro i2 hd2 h;rw[gf]at h;refine aP fun N2 ul sA=>?_
  exact((aT.ge Action.c hd2).a [.hl 0 [] []]).ex hΓ ul (zf h)
 |cons k8 tf ih2=>
  intro i2 hd2 h;rw[gf]at h;refine aP fun N2 ul sA=>?_
  obtain⟨x70,h71,h⟩:=aE h;have uK:=((((aT.lt Action.c hd2).a [.n 26]).l (az Action.c 3 (dc hd2) rfl)).l (eA Action.c 3 h71 rfl))
  obtain⟨h72,h⟩|⟨h72,h⟩:=aM h
  ·have h:=aI h;subst h;exact((uK.r 15 h72).T 1).ret hΓ
  ·obtain⟨HY,h74,h⟩:=aE h;have wO:=(((((((uK.r 4 h72).l (az Action.c 3 (dc hd2) rfl)).r 6 h72).l (eA Action.c 3 h71 rfl)).r 3 h72).g (mW h74)).r 2 h72)
   obtain⟨h75,h⟩|⟨h75,h⟩:=aM h
   ·have h:=aI h;subst h;exact(wO.b h75).ret hΓ
   ·exact((wO.b h75).a [.cn [2,3,58,59] [0,1]]).ct hΓ sA (iS hd2 hm2) (ih2 (i2+1) (dn hd2) h)
theorem DB{aB:aK}{aU:aK}{r:Bool}(h:ou aB aU=some r):Good prog 230 [D.agg (aK.c aB),D.agg (aK.c aU)] (D.bool r):=by
 refine gd func230 [[none]] 92 fun hr Γ hΓ=>?_
 rw[ou]at h;obtain⟨h1,h⟩|⟨h1,h⟩:=aM h
 ·have h:=aI h;subst h;exact((aT.r 6 h1).T 17).ret hΓ
 ·have AA:=(aT.r 6 h1)
  obtain⟨h2,h⟩|⟨h2,h⟩:=aM h
  ·have h:=aI h;subst h;exact((AA.r 8 h2).T 9).ret hΓ
  ·have G0:=(AA.r 8 h2)
   obtain⟨h3,h⟩|⟨h3,h⟩:=aM h
   ·have h:=aI h;subst h;exact((G0.r 8 h3).T 1).ret hΓ
   ·have KB:=(G0.r 8 h3)
    obtain⟨h4,h⟩|⟨h4,h⟩:=aM h
    ·have h:=aI h;subst h;exact(KB.b h4).ret hΓ
    ·refine((KB.b h4).a [.cn [2,3,39,40] [0,1]]).lp hΓ (En hΓ (fun h=>?_) (by have:=(eN.sl (eN.agg (hr _ (aD (i:=0) rfl)) (.sl (aB.conds.map aL.c)) (by simp))).1;simpa using this) aB.conds 0 rfl h);refine(aT.a [.cn [2,3,58,59] [0,1]]).lp hΓ (Eo hΓ (fun h=>?_) (by have:=(eN.sl (eN.agg (hr _ (aD (i:=0) rfl)) (.sl (aB.cU.map Action.c)) (by simp))).1;simpa using this) aB.cU 0 rfl h);have h:=aI h;subst h;exact aT.ret hΓ
def kf(aB:ah)(aU:ah)(k1:Option Bool):ah->Nat->Option Bool
 | [],i1=>(k1)
 |bL::bz,i1=>((lF aU (i1:Int)).bind fun x30=>((ou bL x30).bind fun JB=>(bif !(JB)then(some false)else(kf aB aU k1 bz (i1+1)))))
def qh(aB:ah)(aU:ah):Option Bool:=(bif (((aB.map aK.c).length:Int):Int) != ((aU.map aK.c).length:Int)then(some false)else(kf aB aU (some true) aB 0))
def Ex(aB:ah)(aU:ah)(cR:Int):St:=⟨[(0,D.sl (aB.map aK.c)),(1,D.sl (aU.map aK.c)),(12,D.int .i64 ((aB.map aK.c).length:Int)),(13,D.int .i64 cR)],[]⟩
theorem DL(hΓ:Γ.nt=27){aB:ah}{aU:ah}{r:Bool}{k1:Option Bool}(cc:k1=some r->Ax Γ N f156 (.q [[none]] (D.bool r)) [1,1,1] ⟨[],[]⟩)(hm1:aB.length<=maxLen):∀(rest:ah) (i1:Nat),aB.drop i1=rest->kf aB aU k1 rest i1=some r->Ar Γ N f156 (.q [[none]] (D.bool r)) [1,1,0,1,0] (rest.length+1) (Ex aB aU (i1:Int)):=by
 intro rest
 induction rest with
 |nil=>
  intro i1 aq h;rw[kf]at h;refine aP fun N1 cC br=>?_
  exact((aT.ge aK.c aq).a [.hl 0 [] []]).ex hΓ cC (cc h)
 |cons bL bz ih1=>
  intro i1 aq h;rw[kf]at h;refine aP fun N1 cC br=>?_
  obtain⟨x30,h31,h⟩:=aE h;obtain⟨JB,h33,h⟩:=aE h;have eH:=(((((aT.lt aK.c aq).a [.n 8]).l (az aK.c 4 (dc aq) rfl)).l (eA aK.c 4 h31 rfl)).g (DB h33))
  obtain⟨h34,h⟩|⟨h34,h⟩:=aM h
  ·have h:=aI h;subst h;exact(eH.b h34).ret hΓ
  ·exact((eH.b h34).a [.cn [0,1,12,13] []]).ct hΓ br (iS aq hm1) (ih1 (i1+1) (dn aq) h)
theorem wG{aB:ah}{aU:ah}{r:Bool}(h:qh aB aU=some r):Good prog 156 [D.sl (aB.map aK.c),D.sl (aU.map aK.c)] (D.bool r):=by
 refine gd func156 [[none]] 27 fun hr Γ hΓ=>?_
 rw[qh]at h;obtain⟨h1,h⟩|⟨h1,h⟩:=aM h
 ·have h:=aI h;subst h;exact(aT.b h1).ret hΓ
 ·refine((aT.b h1).a [.cn [0,1,12,13] []]).lp hΓ (DL hΓ (fun h=>?_) (by have:=(eN.sl (hr _ (aD (i:=0) rfl))).1;simpa using this) aB 0 rfl h);have h:=aI h;subst h;exact aT.ret hΓ
def lQ(aB:bR)(aU:bR)(k1:Option Bool):bR->Nat->Option Bool
 | [],i1=>(k1)
 |bL::bz,i1=>((lF aU (i1:Int)).bind fun x22=>(bif (bL:Int) != x22 then(some false)else(lQ aB aU k1 bz (i1+1))))
def rZ(aB:bR)(aU:bR):Option Bool:=(bif (((aB.map gS).length:Int):Int) != ((aU.map gS).length:Int)then(some false)else(lQ aB aU (some true) aB 0))
def GY(aB:bR)(aU:bR)(cR:Int):St:=⟨[(0,D.sl (aB.map gS)),(1,D.sl (aU.map gS)),(12,D.int .i64 ((aB.map gS).length:Int)),(13,D.int .i64 cR)],[]⟩
theorem Ev(hΓ:Γ.nt=26){aB:bR}{aU:bR}{r:Bool}{k1:Option Bool}(cc:k1=some r->Ax Γ N f157 (.q [[none]] (D.bool r)) [1,1,1] ⟨[],[]⟩)(hm1:aB.length<=maxLen):∀(rest:bR) (i1:Nat),aB.drop i1=rest->lQ aB aU k1 rest i1=some r->Ar Γ N f157 (.q [[none]] (D.bool r)) [1,1,0,1,0] (rest.length+1) (GY aB aU (i1:Int)):=by
 intro rest
 induction rest with
 |nil=>
  intro i1 aq h;rw[lQ]at h;refine aP fun N1 cC br=>?_
  exact((aT.ge gS aq).a [.hl 0 [] []]).ex hΓ cC (cc h)
 |cons bL bz ih1=>
  intro i1 aq h;rw[lQ]at h;refine aP fun N1 cC br=>?_
  obtain⟨x22,h23,h⟩:=aE h;have eH:=((((aT.lt gS aq).a [.n 8]).l (az gS 1 (dc aq) rfl)).l (eA gS 1 h23 rfl))
  obtain⟨h24,h⟩|⟨h24,h⟩:=aM h
  ·have h:=aI h;subst h;exact(eH.b h24).ret hΓ
  ·exact((eH.b h24).a [.cn [0,1,12,13] []]).ct hΓ br (iS aq hm1) (ih1 (i1+1) (dn aq) h)
theorem DJ{aB:bR}{aU:bR}{r:Bool}(h:rZ aB aU=some r):Good prog 157 [D.sl (aB.map gS),D.sl (aU.map gS)] (D.bool r):=by
 refine gd func157 [[none]] 26 fun hr Γ hΓ=>?_
 rw[rZ]at h;obtain⟨h1,h⟩|⟨h1,h⟩:=aM h
 ·have h:=aI h;subst h;exact(aT.b h1).ret hΓ
 ·refine((aT.b h1).a [.cn [0,1,12,13] []]).lp hΓ (Ev hΓ (fun h=>?_) (by have:=(eN.sl (hr _ (aD (i:=0) rfl))).1;simpa using this) aB 0 rfl h);have h:=aI h;subst h;exact aT.ret hΓ
def nD(aB:aC)(aU:aC):Option Bool:=(bif (aB.rel:Bytes)==aU.rel then((o5 aB.args aU.args).bind fun y2=>(some y2))else(some false))
theorem x9{aB:aC}{aU:aC}{r:Bool}(h:nD aB aU=some r):Good prog 231 [D.agg (aC.c aB),D.agg (aC.c aU)] (D.bool r):=by
 refine gd func231 [[none]] 17 fun hr Γ hΓ=>?_
 rw[nD]at h;obtain⟨h1,h⟩|⟨h1,h⟩:=aM h
 ·obtain⟨y2,h3,h⟩:=aE h;have h:=aI h;subst h;exact(((aT.r 5 h1).g (wH h3)).b h1).ret hΓ
 ·have h:=aI h;subst h;exact(aT.r 6 h1).ret hΓ
def kX(aB:aJ)(aU:aJ)(k1:Option Bool):aJ->Nat->Option Bool
 | [],i1=>(k1)
 |bL::bz,i1=>((lF aU (i1:Int)).bind fun x30=>((nD bL x30).bind fun JB=>(bif !(JB)then(some false)else(kX aB aU k1 bz (i1+1)))))
def iK(aB:aJ)(aU:aJ):Option Bool:=(bif (((aB.map aC.c).length:Int):Int) != ((aU.map aC.c).length:Int)then(some false)else(kX aB aU (some true) aB 0))
def Em(aB:aJ)(aU:aJ)(cR:Int):St:=⟨[(0,D.sl (aB.map aC.c)),(1,D.sl (aU.map aC.c)),(12,D.int .i64 ((aB.map aC.c).length:Int)),(13,D.int .i64 cR)],[]⟩
theorem DA(hΓ:Γ.nt=27){aB:aJ}{aU:aJ}{r:Bool}{k1:Option Bool}(cc:k1=some r->Ax Γ N f158 (.q [[none]] (D.bool r)) [1,1,1] ⟨[],[]⟩)(hm1:aB.length<=maxLen):∀(rest:aJ) (i1:Nat),aB.drop i1=rest->kX aB aU k1 rest i1=some r->Ar Γ N f158 (.q [[none]] (D.bool r)) [1,1,0,1,0] (rest.length+1) (Em aB aU (i1:Int)):=by
 intro rest
 induction rest with
 |nil=>
  intro i1 aq h;rw[kX]at h;refine aP fun N1 cC br=>?_
  exact((aT.ge aC.c aq).a [.hl 0 [] []]).ex hΓ cC (cc h)
 |cons bL bz ih1=>
  intro i1 aq h;rw[kX]at h;refine aP fun N1 cC br=>?_
  obtain⟨x30,h31,h⟩:=aE h;obtain⟨JB,h33,h⟩:=aE h;have eH:=(((((aT.lt aC.c aq).a [.n 8]).l (az aC.c 2 (dc aq) rfl)).l (eA aC.c 2 h31 rfl)).g (x9 h33))
  obtain⟨h34,h⟩|⟨h34,h⟩:=aM h
  ·have h:=aI h;subst h;exact(eH.b h34).ret hΓ
  ·exact((eH.b h34).a [.cn [0,1,12,13] []]).ct hΓ br (iS aq hm1) (ih1 (i1+1) (dn aq) h)
theorem sY{aB:aJ}{aU:aJ}{r:Bool}(h:iK aB aU=some r):Good prog 158 [D.sl (aB.map aC.c),D.sl (aU.map aC.c)] (D.bool r):=by
 refine gd func158 [[none]] 27 fun hr Γ hΓ=>?_
 rw[iK]at h;obtain⟨h1,h⟩|⟨h1,h⟩:=aM h
 ·have h:=aI h;subst h;exact(aT.b h1).ret hΓ
 ·refine((aT.b h1).a [.cn [0,1,12,13] []]).lp hΓ (DA hΓ (fun h=>?_) (by have:=(eN.sl (hr _ (aD (i:=0) rfl))).1;simpa using this) aB 0 rfl h);have h:=aI h;subst h;exact aT.ret hΓ
def iZ(aB:aR)(aU:aR)(k1:Option Bool):aR->Nat->Option Bool
 | [],i1=>(k1)
 |bL::bz,i1=>((lF aU (i1:Int)).bind fun x22=>(bif !((bL.var:Bytes)==x22.var&&(bL.value:Bytes)==x22.value)then(some false)else(iZ aB aU k1 bz (i1+1))))
def o4(aB:aR)(aU:aR):Option Bool:=(bif (((aB.map aS.c).length:Int):Int) != ((aU.map aS.c).length:Int)then(some false)else(iZ aB aU (some true) aB 0))
def Ew(aB:aR)(aU:aR)(cR:Int):St:=⟨[(0,D.sl (aB.map aS.c)),(1,D.sl (aU.map aS.c)),(12,D.int .i64 ((aB.map aS.c).length:Int)),(13,D.int .i64 cR)],[]⟩
theorem DK(hΓ:Γ.nt=26){aB:aR}{aU:aR}{r:Bool}{k1:Option Bool}(cc:k1=some r->Ax Γ N f233 (.q [[none]] (D.bool r)) [1,1,1] ⟨[],[]⟩)(hm1:aB.length<=maxLen):∀(rest:aR) (i1:Nat),aB.drop i1=rest->iZ aB aU k1 rest i1=some r->Ar Γ N f233 (.q [[none]] (D.bool r)) [1,1,0,1,0] (rest.length+1) (Ew aB aU (i1:Int)):=by
 intro rest
 induction rest with
 |nil=>
  intro i1 aq h;rw[iZ]at h;refine aP fun N1 cC br=>?_
  exact((aT.ge aS.c aq).a [.hl 0 [] []]).ex hΓ cC (cc h)
 |cons bL bz ih1=>
  intro i1 aq h;rw[iZ]at h;refine aP fun N1 cC br=>?_
  obtain⟨x22,h23,h⟩:=aE h;have eH:=((((aT.lt aS.c aq).a [.n 8]).l (az aS.c 2 (dc aq) rfl)).l (eA aS.c 2 h23 rfl))
  obtain⟨h24,h⟩|⟨h24,h⟩:=aM h
  ·have h:=aI h;subst h;exact(eH.b h24).ret hΓ
  ·exact((eH.b h24).a [.cn [0,1,12,13] []]).ct hΓ br (iS aq hm1) (ih1 (i1+1) (dn aq) h)
theorem CQ{aB:aR}{aU:aR}{r:Bool}(h:o4 aB aU=some r):Good prog 233 [D.sl (aB.map aS.c),D.sl (aU.map aS.c)] (D.bool r):=by
 refine gd func233 [[none]] 26 fun hr Γ hΓ=>?_
 rw[o4]at h;obtain⟨h1,h⟩|⟨h1,h⟩:=aM h
 ·have h:=aI h;subst h;exact(aT.b h1).ret hΓ
 ·refine((aT.b h1).a [.cn [0,1,12,13] []]).lp hΓ (DK hΓ (fun h=>?_) (by have:=(eN.sl (hr _ (aD (i:=0) rfl))).1;simpa using this) aB 0 rfl h);have h:=aI h;subst h;exact aT.ret hΓ
def gm(aB:aj)(aU:aj)(k1:Option Bool):aj->Nat->Option Bool
 | [],i1=>(k1)
 |bL::bz,i1=>((lF aU (i1:Int)).bind fun x42=>((iK bL.facts x42.facts).bind fun y44=>(bif !(y44)then(some false)else((o4 bL.bind x42.bind).bind fun y47=>(bif !(y47)then(some false)else(gm aB aU k1 bz (i1+1)))))))
def mc(aB:aj)(aU:aj):Option Bool:=(bif (((aB.map aN.c).length:Int):Int) != ((aU.map aN.c).length:Int)then(some false)else(gm aB aU (some true) aB 0))
def DN(aB:aj)(aU:aj)(cR:Int):St:=⟨[(0,D.sl (aB.map aN.c)),(1,D.sl (aU.map aN.c)),(12,D.int .i64 ((aB.map aN.c).length:Int)),(13,D.int .i64 cR)],[]⟩
theorem CR(hΓ:Γ.nt=43){aB:aj}{aU:aj}{r:Bool}{k1:Option Bool}(cc:k1=some r->Ax Γ N f161 (.q [[none]] (D.bool r)) [1,1,1] ⟨[],[]⟩)(hm1:aB.length<=maxLen):∀(rest:aj) (i1:Nat),aB.drop i1=rest->gm aB aU k1 rest i1=some r->Ar Γ N f161 (.q [[none]] (D.bool r)) [1,1,0,1,0] (rest.length+1) (DN aB aU (i1:Int)):=by
 intro rest
 induction rest with
 |nil=>
  intro i1 aq h;rw[gm]at h;refine aP fun N1 cC br=>?_
  exact((aT.ge aN.c aq).a [.hl 0 [] []]).ex hΓ cC (cc h)
 |cons bL bz ih1=>
  intro i1 aq h;rw[gm]at h;refine aP fun N1 cC br=>?_
  obtain⟨x42,h43,h⟩:=aE h;obtain⟨y44,h45,h⟩:=aE h;have kx:=(((((aT.lt aN.c aq).a [.n 23]).l (az aN.c 2 (dc aq) rfl)).l (eA aN.c 2 h43 rfl)).g (sY h45))
  obtain⟨h46,h⟩|⟨h46,h⟩:=aM h
  ·have h:=aI h;subst h;exact((kx.r 13 h46).T 1).ret hΓ
  ·obtain⟨y47,h48,h⟩:=aE h;have kM:=(((((((kx.r 3 h46).l (az aN.c 2 (dc aq) rfl)).r 5 h46).l (eA aN.c 2 h43 rfl)).r 3 h46).g (CQ h48)).r 2 h46)
   obtain⟨h49,h⟩|⟨h49,h⟩:=aM h
   ·have h:=aI h;subst h;exact(kM.b h49).ret hΓ
   ·exact((kM.b h49).a [.cn [0,1,12,13] []]).ct hΓ br (iS aq hm1) (ih1 (i1+1) (dn aq) h)
theorem Bb{aB:aj}{aU:aj}{r:Bool}(h:mc aB aU=some r):Good prog 161 [D.sl (aB.map aN.c),D.sl (aU.map aN.c)] (D.bool r):=by
 refine gd func161 [[none]] 43 fun hr Γ hΓ=>?_
 rw[mc]at h;obtain⟨h1,h⟩|⟨h1,h⟩:=aM h
 ·have h:=aI h;subst h;exact(aT.b h1).ret hΓ
 ·refine((aT.b h1).a [.cn [0,1,12,13] []]).lp hΓ (CR hΓ (fun h=>?_) (by have:=(eN.sl (hr _ (aD (i:=0) rfl))).1;simpa using this) aB 0 rfl h);have h:=aI h;subst h;exact aT.ret hΓ
def fq(aB:aG)(aU:aG)(k1:Option Bool):bD->Nat->Option Bool
 | [],i1=>(k1)
 |bL::bz,i1=>((lF aU.av (i1:Int)).bind fun x52=>((ey bL.shape x52.shape).bind fun Ki=>(bif !(Ki)then(some false)else((iK bL.facts x52.facts).bind fun y57=>(bif !(y57)then(some false)else(fq aB aU k1 bz (i1+1)))))))
def fw(aB:aG)(aU:aG)(k2:Option Bool):b9->Nat->Option Bool
 | [],i2=>(k2)
 |k8::tf,i2=>((lF aU.nodes (i2:Int)).bind fun x108=>(bif (k8.parent:Int) != x108.parent then(some false)else(bif (k8.cQ:Int) != x108.cQ then(some false)else((jG k8.cond x108.cond).bind fun Fm=>(bif !(Fm)then(some false)else((mc k8.tokens x108.tokens).bind fun Oo=>(bif !(Oo)then(some false)else(fw aB aU k2 tf (i2+1)))))))))
def nN(aB:aG)(aU:aG):Option Bool:=((qh aB.rules aU.rules).bind fun y1=>(bif !(y1)then(some false)else((rZ aB.ends aU.ends).bind fun y4=>(bif !(y4)then(some false)else((iK aB.facts aU.facts).bind fun y7=>(bif !(y7)then(some false)else(bif (((aB.av.map aV.c).length:Int):Int) != ((aU.av.map aV.c).length:Int)then(some false)else(bif (((aB.nodes.map Node.c).length:Int):Int) != ((aU.nodes.map Node.c).length:Int)then(some false)else(fq aB aU (fw aB aU (some true) aB.nodes 0) aB.av 0)))))))))
def BS(aB:aG)(aU:aG)(cR:Int):St:=⟨[(2,D.ptr 0 0),(3,D.ptr 1 0),(51,D.int .i64 ((aB.av.map aV.c).length:Int)),(52,D.int .i64 cR)],[Ob.box (aG.c aB),Ob.box (aG.c aU)]⟩
theorem Ab(hΓ:Γ.nt=131){aB:aG}{aU:aG}{r:Bool}{k1:Option Bool}(cc:k1=some r->Ax Γ N f91 (.q [[none]] (D.bool r)) [1,1,1] ⟨[(2,D.ptr 0 0),(3,D.ptr 1 0)],[Ob.box (aG.c aB),Ob.box (aG.c aU)]⟩)(hm1:aB.av.length<=maxLen):∀(rest:bD) (i1:Nat),aB.av.drop i1=rest->fq aB aU k1 rest i1=some r->Ar Γ N f91 (.q [[none]] (D.bool r)) [1,1,0,1,0] (rest.length+1) (BS aB aU (i1:Int)):=by
 intro rest
 induction rest with
 |nil=>
  intro i1 aq h;rw[fq]at h;refine aP fun N1 cC br=>?_
  exact((aT.ge aV.c aq).a [.hl 0 [2,3] [0,1]]).ex hΓ cC (cc h)
 |cons bL bz ih1=>
  intro i1 aq h;rw[fq]at h;refine aP fun N1 cC br=>?_
  obtain⟨x52,h53,h⟩:=aE h;obtain⟨Ki,h55,h⟩:=aE h;have AA:=(((((aT.lt aV.c aq).a [.n 27]).l (az aV.c 3 (dc aq) rfl)).l (eA aV.c 3 h53 rfl)).g (mW h55))
  obtain⟨h56,h⟩|⟨h56,h⟩:=aM h
  ·have h:=aI h;subst h;exact((AA.r 15 h56).T 1).ret hΓ
  ·obtain⟨y57,h58,h⟩:=aE h;have G0:=(((((((AA.r 4 h56).l (az aV.c 3 (dc aq) rfl)).r 6 h56).l (eA aV.c 3 h53 rfl)).r 3 h56).g (sY h58)).r 2 h56)
   obtain⟨h59,h⟩|⟨h59,h⟩:=aM h
   ·have h:=aI h;subst h;exact(G0.b h59).ret hΓ
   ·exact((G0.b h59).a [.cn [2,3,51,52] [0,1]]).ct hΓ br (iS aq hm1) (ih1 (i1+1) (dn aq) h)
def BT(aB:aG)(aU:aG)(cR:Int):St:=⟨[(2,D.ptr 0 0),(3,D.ptr 1 0),(88,D.int .i64 ((aB.nodes.map Node.c).length:Int)),(89,D.int .i64 cR)],[Ob.box (aG.c aB),Ob.box (aG.c aU)]⟩
theorem Ac(hΓ:Γ.nt=131){aB:aG}{aU:aG}{r:Bool}{k2:Option Bool}(zf:k2=some r->Ax Γ N f91 (.q [[none]] (D.bool r)) [1,1,1,1] ⟨[],[]⟩)(hm2:aB.nodes.length<=maxLen):∀(rest:b9) (i2:Nat),aB.nodes.drop i2=rest->fw aB aU k2 rest i2=some r->Ar Γ N f91 (.q [[none]] (D.bool r)) [1,1,1,0,1,0] (rest.length+1) (BT aB aU (i2:Int)):=by
 intro rest
 induction rest with
 |nil=>
  intro i2 hd2 h;rw[fw]at h;refine aP fun N2 ul sA=>?_
  exact((aT.ge Node.c hd2).a [.hl 0 [] []]).ex hΓ ul (zf h)
 |cons k8 tf ih2=>
  intro i2 hd2 h;rw[fw]at h;refine aP fun N2 ul sA=>?_
  obtain⟨x108,h109,h⟩:=aE h;have KB:=((((aT.lt Node.c hd2).a [.n 13]).l (az Node.c 8 (dc hd2) rfl)).l (eA Node.c 8 h109 rfl))
  obtain⟨h110,h⟩|⟨h110,h⟩:=aM h
  ·have h:=aI h;subst h;exact((KB.r 6 h110).T 15).ret hΓ
  ·have B2:=(KB.r 6 h110)
   obtain⟨h111,h⟩|⟨h111,h⟩:=aM h
   ·have h:=aI h;subst h;exact((B2.r 7 h111).T 8).ret hΓ
   ·obtain⟨Fm,h113,h⟩:=aE h;have It:=(((B2.r 5 h111).g (tL h113)).r 2 h111)
    obtain⟨h114,h⟩|⟨h114,h⟩:=aM h
    ·have h:=aI h;subst h;exact((It.r 7 h114).T 1).ret hΓ
    ·obtain⟨Oo,h116,h⟩:=aE h;have A9:=(((It.r 5 h114).g (Bb h116)).r 2 h114)
     obtain⟨h117,h⟩|⟨h117,h⟩:=aM h
     ·have h:=aI h;subst h;exact(A9.b h117).ret hΓ
     ·exact((A9.b h117).a [.cn [2,3,88,89] [0,1]]).ct hΓ sA (iS hd2 hm2) (ih2 (i2+1) (dn hd2) h)
theorem zw{aB:aG}{aU:aG}{r:Bool}(h:nN aB aU=some r):Good prog 91 [D.agg (aG.c aB),D.agg (aG.c aU)] (D.bool r):=by
 refine gd func91 [[none]] 131 fun hr Γ hΓ=>?_
 rw[nN]at h;obtain⟨y1,h2,h⟩:=aE h;obtain⟨h3,h⟩|⟨h3,h⟩:=aM h
 ·have h:=aI h;subst h;exact(((aT.g (wG h2)).r 7 h3).T 24).ret hΓ
 ·obtain⟨y4,h5,h⟩:=aE h;have Iu:=((((aT.g (wG h2)).r 5 h3).g (DJ h5)).r 2 h3)
  obtain⟨h6,h⟩|⟨h6,h⟩:=aM h
  ·have h:=aI h;subst h;exact((Iu.r 7 h6).T 17).ret hΓ
  ·obtain⟨y7,h8,h⟩:=aE h;have Iv:=(((Iu.r 5 h6).g (sY h8)).r 2 h6)
   obtain⟨h9,h⟩|⟨h9,h⟩:=aM h
   ·have h:=aI h;subst h;exact((Iv.r 8 h9).T 9).ret hΓ
   ·have Q8:=(Iv.r 8 h9)
    obtain⟨h10,h⟩|⟨h10,h⟩:=aM h
    ·have h:=aI h;subst h;exact((Q8.r 8 h10).T 1).ret hΓ
    ·have Q9:=(Q8.r 8 h10)
     obtain⟨h11,h⟩|⟨h11,h⟩:=aM h
     ·have h:=aI h;subst h;exact(Q9.b h11).ret hΓ
     ·refine((Q9.b h11).a [.cn [2,3,51,52] [0,1]]).lp hΓ (Ab hΓ (fun h=>?_) (by have:=(eN.sl (eN.agg (hr _ (aD (i:=0) rfl)) (.sl (aB.av.map aV.c)) (by simp))).1;simpa using this) aB.av 0 rfl h);refine(aT.a [.cn [2,3,88,89] [0,1]]).lp hΓ (Ac hΓ (fun h=>?_) (by have:=(eN.sl (eN.agg (hr _ (aD (i:=0) rfl)) (.sl (aB.nodes.map Node.c)) (by simp))).1;simpa using this) aB.nodes 0 rfl h);have h:=aI h;subst h;exact aT.ret hΓ
def qY(aB:aG):Option Bool:=((ot aB.rules).bind fun y1=>(bif y1 then((nB aB.facts).bind fun y4=>(bif y4 then(bif decide ((aB.bn:Int)>=0)then((rF aB.rules aB.facts 0).bind fun y8=>((nN aB y8).bind fun Qj=>(some Qj)))else(some false))else(some false)))else(some false)))
theorem wC{aB:aG}{r:Bool}(h:qY aB=some r):Good prog 39 [D.agg (aG.c aB)] (D.bool r):=by
 refine gd func39 [[none]] 25 fun hr Γ hΓ=>?_
 rw[qY]at h;obtain⟨y1,h2,h⟩:=aE h;have mQ:=((aT.a [.n 20]).g (tJ h2))
 obtain⟨h3,h⟩|⟨h3,h⟩:=aM h
 ·obtain⟨y4,h5,h⟩:=aE h;have eH:=(((mQ.r 3 h3).g (pL h5)).b h3)
  obtain⟨h6,h⟩|⟨h6,h⟩:=aM h
  ·have kx:=(eH.r 4 h6)
   obtain⟨h7,h⟩|⟨h7,h⟩:=aM h
   ·obtain⟨y8,h9,h⟩:=aE h;obtain⟨Qj,h11,h⟩:=aE h;have h:=aI h;subst h;exact(((((kx.r 6 h7).g (ve h9)).b h7).g (zw h11)).b h7).ret hΓ
   ·have h:=aI h;subst h;exact(kx.r 8 h7).ret hΓ
  ·have h:=aI h;subst h;exact((eH.r 4 h6).F 8).ret hΓ
 ·have h:=aI h;subst h;exact((mQ.r 4 h3).F 12).ret hΓ
def jL(aB:aJ)(aU:aC)(k1:Option Int):aJ->Nat->Option Int
 | [],i1=>(k1)
 |bL::bz,i1=>((nD bL aU).bind fun NZ=>(bif NZ then(some (i1:Int))else(jL aB aU k1 bz (i1+1))))
def rU(aB:aJ)(aU:aC):Option Int:=(jL aB aU (some (-1)) aB 0)
def GL(aB:aJ)(aU:aC)(cR:Int):St:=⟨[(3,D.ptr 0 0),(7,D.sl (aB.map aC.c)),(8,D.int .i64 ((aB.map aC.c).length:Int)),(9,D.int .i64 cR)],[Ob.box (aC.c aU)]⟩
theorem Eh(hΓ:Γ.nt=19){aB:aJ}{aU:aC}{r:Int}{k1:Option Int}(cc:k1=some r->Ax Γ N f237 (.q [[none]] (D.int .i64 r)) [1,1] ⟨[],[]⟩)(hm1:aB.length<=maxLen):∀(rest:aJ) (i1:Nat),aB.drop i1=rest->jL aB aU k1 rest i1=some r->Ar Γ N f237 (.q [[none]] (D.int .i64 r)) [1,0,1,0] (rest.length+1) (GL aB aU (i1:Int)):=by
 intro rest
 induction rest with
 |nil=>
  intro i1 aq h;rw[jL]at h;refine aP fun N1 cC br=>?_
  exact((aT.ge aC.c aq).a [.hl 0 [] []]).ex hΓ cC (cc h)
 |cons bL bz ih1=>
  intro i1 aq h;rw[jL]at h;refine aP fun N1 cC br=>?_
  obtain⟨NZ,h22,h⟩:=aE h;have eH:=(((aT.lt aC.c aq).l (az aC.c 2 (dc aq) rfl)).g (x9 h22))
  obtain⟨h23,h⟩|⟨h23,h⟩:=aM h
  ·cases h;exact(eH.b h23).ret hΓ
  ·exact((eH.b h23).a [.cn [3,7,8,9] [0]]).ct hΓ br (iS aq hm1) (ih1 (i1+1) (dn aq) h)
theorem D4{aB:aJ}{aU:aC}{r:Int}(h:rU aB aU=some r):Good prog 237 [D.sl (aB.map aC.c),D.agg (aC.c aU)] (D.int .i64 r):=by
 refine gd func237 [[none]] 19 fun hr Γ hΓ=>?_
 rw[rU]at h;refine(aT.a [.cn [3,7,8,9] [0]]).lp hΓ (Eh hΓ (fun h=>?_) (by have:=(eN.sl (hr _ (aD (i:=0) rfl))).1;simpa using this) aB 0 rfl h);cases h;exact aT.ret hΓ
def cu(aB:aJ)(aU:aC)(k1:Bool->aJ->Option aJ):aJ->Nat->Bool->aJ->Option aJ
 | [],i1,jB,bW=>(k1 jB bW)
 |bL::bz,i1,jB,bW=>(bif !(jB)then((fJ bL aU).bind fun y93=>(bif decide ((y93:Int)>0)then((dQ aU).bind fun Zn=>(bif room ((bW.map aC.c).length+([[D.str Zn.rel,D.sl (Zn.args.map tx)]]).length) 40 then((dQ bL).bind fun y99=>(bif room (((bW.map aC.c)++([[D.str Zn.rel,D.sl (Zn.args.map tx)]])).length+([[D.str y99.rel,D.sl (y99.args.map tx)]]).length) 40 then(cu aB aU k1 bz (i1+1) true ((bW++([Zn]))++([y99])))else none))else none))else((dQ bL).bind fun Kh=>(bif room ((bW.map aC.c).length+([[D.str Kh.rel,D.sl (Kh.args.map tx)]]).length) 40 then(cu aB aU k1 bz (i1+1) jB (bW++([Kh])))else none))))else((dQ bL).bind fun SA=>(bif room ((bW.map aC.c).length+([[D.str SA.rel,D.sl (SA.args.map tx)]]).length) 40 then(cu aB aU k1 bz (i1+1) jB (bW++([SA])))else none)))
def tN(aB:aJ)(aU:aC):Option aJ:=(cu aB aU (fun(wZ:Bool) (qy:aJ)=>(bif !(wZ)then((dQ aU).bind fun Ug=>(bif room ((qy.map aC.c).length+([[D.str Ug.rel,D.sl (Ug.args.map tx)]]).length) 40 then(some (qy++([Ug])))else none))else(some qy))) aB 0 false ([]:aJ))
def tB(aB:aJ)(aU:aC)(jB:Bool)(W1:List aQ)(cR:Int):St:=⟨[(3,D.ptr 0 0),(5,D.acc 1),(6,D.bool jB),(9,D.sl (aB.map aC.c)),(10,D.int .i64 ((aB.map aC.c).length:Int)),(11,D.int .i64 cR)],[Ob.box (aC.c aU),Ob.row .uq 53 2 W1]⟩
theorem GX(hΓ:Γ.nt=42){aB:aJ}{aU:aC}{r:aJ}{k1:Bool->aJ->Option aJ}(cc:∀(wZ:Bool) (qy:aJ),k1 wZ qy=some r->Ax Γ N f240 (.q [[some (53,2)]] (D.fr 53 2 (r.map aC.c))) [1,1,1,1] ⟨[(3,D.ptr 0 0),(5,D.acc 1),(6,D.bool wZ)],[Ob.box (aC.c aU),Ob.row .uq 53 2 (qy.map aC.c)]⟩)(hm1:aB.length<=maxLen):∀(rest:aJ) (i1:Nat) (jB:Bool) (bW:aJ),aB.drop i1=rest->cu aB aU k1 rest i1 jB bW=some r->Ar Γ N f240 (.q [[some (53,2)]] (D.fr 53 2 (r.map aC.c))) [1,1,1,0,1,0] (rest.length+1) (tB aB aU jB (bW.map aC.c) (i1:Int)):=by
 intro rest
 induction rest with
 |nil=>
  intro i1 jB bW aq h;rw[cu]at h;refine aP fun N1 cC br=>?_
  exact((aT.ge aC.c aq).a [.hl 0 [3,5,6] [0,1]]).ex hΓ cC (cc jB bW h)
 |cons bL bz ih1=>
  intro i1 jB bW aq h;rw[cu]at h;refine aP fun N1 cC br=>?_
  have kx:=((aT.lt aC.c aq).l (az aC.c 2 (dc aq) rfl))
  obtain⟨h92,h⟩|⟨h92,h⟩:=aM h
  ·obtain⟨y93,h94,h⟩:=aE h;have kM:=(((kx.r 3 h92).g (py h94)).r 2 h92)
   obtain⟨h95,h⟩|⟨h95,h⟩:=aM h
   ·obtain⟨Zn,h97,h⟩:=aE h;obtain⟨h98,h⟩:=bQ h;obtain⟨y99,h100,h⟩:=aE h;obtain⟨h101,h⟩:=bQ h;exact((((((kM.b h95).g (fk h97)).w (bh h98)).g (fk h100)).w (bh h101)).a [.cn [3,5,6,9,10,11] [0,8]]).cs hΓ br (tB aB aU true (((bW.map aC.c)++([[D.str Zn.rel,D.sl (Zn.args.map tx)]]))++([[D.str y99.rel,D.sl (y99.args.map tx)]])) (IntKind.i64.wrap ((i1:Int)+1))) (by first| (simp only[iS aq hm1,mA]<;>rfl)| (simp only[iS aq hm1,mA,aC.c,aS.c,aL.c,Action.c,aK.c,aN.c,cX.c,aV.c,Node.c,aG.c,cg.c]<;>rfl)) (ih1 (i1+1) true ((bW++([Zn]))++([y99])) (dn aq) h)
   ·obtain⟨Kh,h103,h⟩:=aE h;obtain⟨h104,h⟩:=bQ h;exact((((kM.b h95).g (fk h103)).w (bh h104)).a [.cn [3,5,6,9,10,11] [0,5]]).cs hΓ br (tB aB aU jB ((bW.map aC.c)++([[D.str Kh.rel,D.sl (Kh.args.map tx)]])) (IntKind.i64.wrap ((i1:Int)+1))) (by first| (simp only[iS aq hm1,mA]<;>rfl)| (simp only[iS aq hm1,mA,aC.c,aS.c,aL.c,Action.c,aK.c,aN.c,cX.c,aV.c,Node.c,aG.c,cg.c]<;>rfl)) (ih1 (i1+1) jB (bW++([Kh])) (dn aq) h)
  ·obtain⟨SA,h106,h⟩:=aE h;obtain⟨h107,h⟩:=bQ h;exact(((((kx.r 5 h92).F 1).g (fk h106)).w (bh h107)).a [.cn [3,5,6,9,10,11] [0,5]]).cs hΓ br (tB aB aU jB ((bW.map aC.c)++([[D.str SA.rel,D.sl (SA.args.map tx)]])) (IntKind.i64.wrap ((i1:Int)+1))) (by first| (simp only[iS aq hm1,mA]<;>rfl)| (simp only[iS aq hm1,mA,aC.c,aS.c,aL.c,Action.c,aK.c,aN.c,cX.c,aV.c,Node.c,aG.c,cg.c]<;>rfl)) (ih1 (i1+1) jB (bW++([SA])) (dn aq) h)
theorem Eu{aB:aJ}{aU:aC}{r:aJ}(h:tN aB aU=some r):Good prog 240 [D.sl (aB.map aC.c),D.agg (aC.c aU)] (D.fr 53 2 (r.map aC.c)):=by
 refine gd func240 [[some (53,2)]] 42 fun hr Γ hΓ=>?_
 rw[tN]at h;refine(aT.a [.Kc 5,.cn [3,5,6,9,10,11] [0,1]]).lp hΓ (GX hΓ (fun wZ qy h=>?_) (by have:=(eN.sl (hr _ (aD (i:=0) rfl))).1;simpa using this) aB 0 false ([]:aJ) rfl h);obtain⟨h108,h⟩|⟨h108,h⟩:=aM h
 ·obtain⟨Ug,h110,h⟩:=aE h;obtain⟨h111,h⟩:=bQ h;cases h;exact(((aT.b h108).g (fk h110)).w (bh h111)).rts hΓ (D.fr 53 2 ((qy.map aC.c)++([[D.str Ug.rel,D.sl (Ug.args.map tx)]]))) (by first|rfl| (simp only[mA]<;>rfl)| (simp only[cK,mA]<;>rfl))
 ·have h:=aI h;subst h;exact(aT.b h108).ret hΓ
def tI(aB:aJ)(aU:aC):Option (aJ×Bool):=((nB aB).bind fun y1=>(bif !(y1)then((cS aB).bind fun y4=>(some (y4,false)))else((ng aU).bind fun y6=>(bif !(y6)then((cS aB).bind fun y9=>(some (y9,false)))else((rU aB aU).bind fun Mf=>(bif decide ((Mf:Int)>=0)then((cS aB).bind fun Qb=>(some (Qb,false)))else(bif decide ((((aB.map aC.c).length:Int):Int)>=24)then((cS aB).bind fun Ot=>(some (Ot,false)))else((tN aB aU).bind fun y19=>(some (y19,true))))))))))
theorem xh{aB:aJ}{aU:aC}{r:aJ×Bool}(h:tI aB aU=some r):Good prog 171 [D.sl (aB.map aC.c),D.agg (aC.c aU)] (D.hY [D.fr 53 2 (r.1.map aC.c),D.bool r.2]):=by
 refine gd func171 [[some (53,2)],[none]] 30 fun hr Γ hΓ=>?_
 rw[tI]at h;obtain⟨y1,h2,h⟩:=aE h;obtain⟨h3,h⟩|⟨h3,h⟩:=aM h
 ·obtain⟨y4,h5,h⟩:=aE h;cases h;exact((((aT.g (pL h2)).r 4 h3).T 10).g (eM h5)).ret hΓ
 ·obtain⟨y6,h7,h⟩:=aE h;have mQ:=((((aT.g (pL h2)).r 2 h3).g (vB h7)).r 2 h3)
  obtain⟨h8,h⟩|⟨h8,h⟩:=aM h
  ·obtain⟨y9,h10,h⟩:=aE h;cases h;exact(((mQ.r 5 h8).T 5).g (eM h10)).ret hΓ
  ·obtain⟨Mf,h12,h⟩:=aE h;have eH:=(((mQ.r 3 h8).g (D4 h12)).r 2 h8)
   obtain⟨h13,h⟩|⟨h13,h⟩:=aM h
   ·obtain⟨Qb,h15,h⟩:=aE h;cases h;exact(((eH.r 4 h13).T 1).g (eM h15)).ret hΓ
   ·have kx:=(eH.r 4 h13)
    obtain⟨h16,h⟩|⟨h16,h⟩:=aM h
    ·obtain⟨Ot,h18,h⟩:=aE h;cases h;exact((kx.b h16).g (eM h18)).ret hΓ
    ·obtain⟨y19,h20,h⟩:=aE h;cases h;exact((kx.b h16).g (Eu h20)).ret hΓ
def eE(aB:aJ)(aU:aJ)(k1:Option Int):aJ->Nat->Option Int
 | [],i1=>(k1)
 |bL::bz,i1=>(bif decide (((i1:Int):Int)<((aU.map aC.c).length:Int))then((lF aU (i1:Int)).bind fun x34=>((fJ bL x34).bind fun MO=>(bif (MO:Int) != 0 then(some MO)else(eE aB aU k1 bz (i1+1)))))else(k1))
def mX(aB:aJ)(aU:aJ):Option Int:=(eE aB aU ((gh ((aB.map aC.c).length:Int) ((aU.map aC.c).length:Int)).bind fun ML=>(some ML)) aB 0)
def yo(aB:aJ)(aU:aJ)(cR:Int):St:=⟨[(0,D.sl (aB.map aC.c)),(1,D.sl (aU.map aC.c)),(5,D.int .i64 cR)],[]⟩
theorem yH(hΓ:Γ.nt=36){aB:aJ}{aU:aJ}{r:Int}{k1:Option Int}(cc:k1=some r->Ax Γ N f282 (.q [[none]] (D.int .i64 r)) [1,1] ⟨[(0,D.sl (aB.map aC.c)),(1,D.sl (aU.map aC.c))],[]⟩)(hm1:aB.length<=maxLen):∀(rest:aJ) (i1:Nat),aB.drop i1=rest->eE aB aU k1 rest i1=some r->Ar Γ N f282 (.q [[none]] (D.int .i64 r)) [1,0,1,0] (rest.length+1) (yo aB aU (i1:Int)):=by
 intro rest
 induction rest with
 |nil=>
  intro i1 aq h;rw[eE]at h;refine aP fun N1 cC br=>?_
  exact(((((((aT.ge aC.c aq).ge aC.c aq).ge aC.c aq).ge aC.c aq).ge aC.c aq).F 1).a [.hl 0 [0,1] []]).ex hΓ cC (cc h)
 |cons bL bz ih1=>
  intro i1 aq h;rw[eE]at h;refine aP fun N1 cC br=>?_
  have kx:=(((((aT.lt aC.c aq).lt aC.c aq).lt aC.c aq).lt aC.c aq).lt aC.c aq)
  obtain⟨h33,h⟩|⟨h33,h⟩:=aM h
  ·obtain⟨x34,h35,h⟩:=aE h;obtain⟨MO,h37,h⟩:=aE h;have kM:=(((((kx.b h33).a [.n 8]).l (az aC.c 2 (dc aq) rfl)).l (eA aC.c 2 h35 rfl)).g (py h37))
   obtain⟨h38,h⟩|⟨h38,h⟩:=aM h
   ·have h:=aI h;subst h;exact(kM.b h38).ret hΓ
   ·exact((kM.b h38).a [.cn [0,1,5] []]).ct hΓ br (iS aq hm1) (ih1 (i1+1) (dn aq) h)
  ·exact((kx.b h33).a [.hl 0 [0,1] []]).ex hΓ cC (cc h)
theorem xX{aB:aJ}{aU:aJ}{r:Int}(h:mX aB aU=some r):Good prog 282 [D.sl (aB.map aC.c),D.sl (aU.map aC.c)] (D.int .i64 r):=by
 refine gd func282 [[none]] 36 fun hr Γ hΓ=>?_
 rw[mX]at h;refine(aT.a [.cn [0,1,5] []]).lp hΓ (yH hΓ (fun h=>?_) (by have:=(eN.sl (hr _ (aD (i:=0) rfl))).1;simpa using this) aB 0 rfl h);obtain⟨ML,h40,h⟩:=aE h;have h:=aI h;subst h;exact(aT.g (qd h40)).ret hΓ
def mL(aB:aN)(aU:aN):Option Int:=((mX aB.facts aU.facts).bind fun y1=>(some y1))
theorem zR{aB:aN}{aU:aN}{r:Int}(h:mL aB aU=some r):Good prog 271 [D.agg (aN.c aB),D.agg (aN.c aU)] (D.int .i64 r):=by
 refine gd func271 [[none]] 10 fun hr Γ hΓ=>?_
 rw[mL]at h;obtain⟨y1,h2,h⟩:=aE h;have h:=aI h;subst h;exact(aT.g (xX h2)).ret hΓ
def jR(aB:aj)(aU:aN)(k1:Option Bool):aj->Nat->Option Bool
 | [],i1=>(k1)
 |bL::bz,i1=>((mL bL aU).bind fun NZ=>(bif (NZ:Int)==0 then(some true)else(jR aB aU k1 bz (i1+1))))
def rY(aB:aj)(aU:aN):Option Bool:=(jR aB aU (some false) aB 0)
def GW(aB:aj)(aU:aN)(cR:Int):St:=⟨[(3,D.ptr 0 0),(7,D.sl (aB.map aN.c)),(8,D.int .i64 ((aB.map aN.c).length:Int)),(9,D.int .i64 cR)],[Ob.box (aN.c aU)]⟩
theorem Et(hΓ:Γ.nt=18){aB:aj}{aU:aN}{r:Bool}{k1:Option Bool}(cc:k1=some r->Ax Γ N f238 (.q [[none]] (D.bool r)) [1,1] ⟨[],[]⟩)(hm1:aB.length<=maxLen):∀(rest:aj) (i1:Nat),aB.drop i1=rest->jR aB aU k1 rest i1=some r->Ar Γ N f238 (.q [[none]] (D.bool r)) [1,0,1,0] (rest.length+1) (GW aB aU (i1:Int)):=by
 intro rest
 induction rest with
 |nil=>
  intro i1 aq h;rw[jR]at h;refine aP fun N1 cC br=>?_
  exact((aT.ge aN.c aq).a [.hl 0 [] []]).ex hΓ cC (cc h)
 |cons bL bz ih1=>
  intro i1 aq h;rw[jR]at h;refine aP fun N1 cC br=>?_
  obtain⟨NZ,h22,h⟩:=aE h;have eH:=(((aT.lt aN.c aq).l (az aN.c 2 (dc aq) rfl)).g (zR h22))
  obtain⟨h23,h⟩|⟨h23,h⟩:=aM h
  ·have h:=aI h;subst h;exact(eH.b h23).ret hΓ
  ·exact((eH.b h23).a [.cn [3,7,8,9] [0]]).ct hΓ br (iS aq hm1) (ih1 (i1+1) (dn aq) h)
theorem DI{aB:aj}{aU:aN}{r:Bool}(h:rY aB aU=some r):Good prog 238 [D.sl (aB.map aN.c),D.agg (aN.c aU)] (D.bool r):=by
 refine gd func238 [[none]] 18 fun hr Γ hΓ=>?_
 rw[rY]at h;refine(aT.a [.cn [3,7,8,9] [0]]).lp hΓ (Et hΓ (fun h=>?_) (by have:=(eN.sl (hr _ (aD (i:=0) rfl))).1;simpa using this) aB 0 rfl h);have h:=aI h;subst h;exact aT.ret hΓ
def j9(aB:aG)(cL:aC)(y3:aG×Unit)(lB:Int)(i1:Nat)(bL:Node)(x313:Node)(k2:Int->Int->Option aG):aj->Nat->Int->Int->Option aG
 | [],i2,zk,zl=>(k2 zk zl)
 |k8::tf,i2,zk,zl=>((lF aB.nodes bL.parent).bind fun x359=>((rY x359.tokens k8).bind fun a5e=>(bif a5e then(j9 aB cL y3 lB i1 bL x313 k2 tf (i2+1) (IntKind.i64.wrap (zk+1)) zl)else(j9 aB cL y3 lB i1 bL x313 k2 tf (i2+1) zk (IntKind.i64.wrap (zl+1))))))
def eZ(aB:aG)(cL:aC)(y3:aG×Unit)(k1:Int->Option aG):b9->Nat->Int->Option aG
 | [],i1,lB=>(k1 lB)
 |bL::bz,i1,lB=>(bif ((i1:Int):Int)==0 then(eZ aB cL y3 k1 bz (i1+1) lB)else((lF y3.1.nodes bL.parent).bind fun x313=>(bif decide (x313.tokens.length<=maxLen)then(j9 aB cL y3 lB i1 bL x313 (fun(Nc:Int) (GC:Int)=>(bif decide ((bL.cQ:Int)<0)then(eZ aB cL y3 k1 bz (i1+1) (IntKind.i64.wrap (lB+GC)))else((lF y3.1.av bL.cQ).bind fun x365=>((iJ x365.shape cL ([])).bind fun Ui=>(bif Ui.2 then(eZ aB cL y3 k1 bz (i1+1) (IntKind.i64.wrap ((IntKind.i64.wrap (lB+(IntKind.i64.wrap (GC*((x365.facts.map aC.c).length:Int)))))+Nc)))else(eZ aB cL y3 k1 bz (i1+1) (IntKind.i64.wrap (lB+(IntKind.i64.wrap (GC*((x365.facts.map aC.c).length:Int))))))))))) x313.tokens 0 0 0)else none)))
def tM(aB:aG)(aU:aJ)(cL:aC):Option aG:=((gi aB).bind fun y1=>((iF y1 aU).bind fun y3=>(bif decide (y3.1.nodes.length<=maxLen)then(eZ aB cL y3 (fun(kN:Int)=>(some (⟨y3.1.rules,y3.1.ends,y3.1.av,y3.1.nodes,y3.1.facts,kN⟩:aG))) y3.1.nodes 0 y3.1.bn)else none)))
def Hw(aB:aG)(cL:aC)(y3:aG×Unit)(lB:Int)(cR:Int):St:=⟨[(3,D.ptr 0 0),(5,D.ptr 1 0),(6,D.ptr 2 0),(7,D.ptr 3 0),(22,D.acc 4),(23,D.int .i64 ((y3.1.nodes.map Node.c).length:Int)),(24,D.int .i64 cR)],[Ob.box (aG.c aB),Ob.box (aC.c cL),Ob.box [D.nil,D.nil,D.nil,D.nil,D.nil,D.int .i64 0],Ob.box [D.acc 5,D.acc 6,D.acc 7,D.acc 4,D.acc 8,D.int .i64 lB],Ob.row .uq 118 8 (y3.1.nodes.map Node.c),Ob.row .uq 105 4 (y3.1.rules.map aK.c),Ob.row .uq 3 1 (y3.1.ends.map gS),Ob.row .uq 111 3 (y3.1.av.map aV.c),Ob.row .uq 53 2 (y3.1.facts.map aC.c)]⟩
def Hx(aB:aG)(cL:aC)(y3:aG×Unit)(lB:Int)(i1:Nat)(bL:Node)(x313:Node)(zk:Int)(zl:Int)(cR:Int):St:=⟨[(3,D.ptr 0 0),(5,D.ptr 1 0),(6,D.ptr 2 0),(7,D.ptr 3 0),(9,D.ptr 4 0),(10,D.int .i64 zk),(11,D.int .i64 zl),(22,D.acc 5),(23,D.int .i64 ((y3.1.nodes.map Node.c).length:Int)),(24,D.int .i64 (i1:Int)),(37,D.sl (x313.tokens.map aN.c)),(38,D.int .i64 ((x313.tokens.map aN.c).length:Int)),(39,D.int .i64 cR)],[Ob.box (aG.c aB),Ob.box (aC.c cL),Ob.box [D.nil,D.nil,D.nil,D.nil,D.nil,D.int .i64 0],Ob.box [D.acc 6,D.acc 7,D.acc 8,D.acc 5,D.acc 9,D.int .i64 lB],Ob.box [D.int .i64 bL.parent,D.int .i64 bL.cond.kind,D.str bL.cond.pat.rel,D.sl (bL.cond.pat.args.map tx),D.str bL.cond.left,D.str bL.cond.right,D.int .i64 bL.cQ,D.sl (bL.tokens.map aN.c)],Ob.row .uq 118 8 (y3.1.nodes.map Node.c),Ob.row .uq 105 4 (y3.1.rules.map aK.c),Ob.row .uq 3 1 (y3.1.ends.map gS),Ob.row .uq 111 3 (y3.1.av.map aV.c),Ob.row .uq 53 2 (y3.1.facts.map aC.c)]⟩
theorem GS(hΓ:Γ.nt=95){aB:aG}{cL:aC}{y3:aG×Unit}{lB:Int}{i1:Nat}{bL:Node}{x313:Node}{r:aG}{k2:Int->Int->Option aG}(zf:∀(Nc:Int) (GC:Int),k2 Nc GC=some r->Ax Γ N f169 (.q [[some (105,4),some (3,1),some (111,3),some (118,8),some (53,2),none]] (D.agg [D.fr 105 4 (r.rules.map aK.c),D.fr 3 1 (r.ends.map gS),D.fr 111 3 (r.av.map aV.c),D.fr 118 8 (r.nodes.map Node.c),D.fr 53 2 (r.facts.map aC.c),D.int .i64 r.bn])) [1,1,1,0,1,0,0,1,1,0,0,1,1,1,1] ⟨[(3,D.ptr 0 0),(5,D.ptr 1 0),(6,D.ptr 2 0),(7,D.ptr 3 0),(9,D.ptr 4 0),(10,D.int .i64 Nc),(11,D.int .i64 GC),(22,D.acc 5),(23,D.int .i64 ((y3.1.nodes.map Node.c).length:Int)),(24,D.int .i64 (i1:Int))],[Ob.box (aG.c aB),Ob.box (aC.c cL),Ob.box [D.nil,D.nil,D.nil,D.nil,D.nil,D.int .i64 0],Ob.box [D.acc 6,D.acc 7,D.acc 8,D.acc 5,D.acc 9,D.int .i64 lB],Ob.box [D.int .i64 bL.parent,D.int .i64 bL.cond.kind,D.str bL.cond.pat.rel,D.sl (bL.cond.pat.args.map tx),D.str bL.cond.left,D.str bL.cond.right,D.int .i64 bL.cQ,D.sl (bL.tokens.map aN.c)],Ob.row .uq 118 8 (y3.1.nodes.map Node.c),Ob.row .uq 105 4 (y3.1.rules.map aK.c),Ob.row .uq 3 1 (y3.1.ends.map gS),Ob.row .uq 111 3 (y3.1.av.map aV.c),Ob.row .uq 53 2 (y3.1.facts.map aC.c)]⟩)(hm2:x313.tokens.length<=maxLen):∀(rest:aj) (i2:Nat) (zk:Int) (zl:Int),x313.tokens.drop i2=rest->j9 aB cL y3 lB i1 bL x313 k2 rest i2 zk zl=some r->Ar Γ N f169 (.q [[some (105,4),some (3,1),some (111,3),some (118,8),some (53,2),none]] (D.agg [D.fr 105 4 (r.rules.map aK.c),D.fr 3 1 (r.ends.map gS),D.fr 111 3 (r.av.map aV.c),D.fr 118 8 (r.nodes.map Node.c),D.fr 53 2 (r.facts.map aC.c),D.int .i64 r.bn])) [1,1,1,0,1,0,0,1,1,0,0,1,1,1,0,1,0] (rest.length+1) (Hx aB cL y3 lB i1 bL x313 zk zl (i2:Int)):=by
 intro rest
 induction rest with
 |nil=>
  intro i2 zk zl hd2 h;rw[j9]at h;refine aP fun N2 ul sA=>?_
  exact((aT.ge aN.c hd2).a [.hl 5 [3,5,6,7,9,10,11,22,23,24] [0,1,2,3,4,5,6,7,8,9]]).ex hΓ ul (zf zk zl h)
 |cons k8 tf ih2=>
  intro i2 zk zl hd2 h;rw[j9]at h;refine aP fun N2 ul sA=>?_
  obtain⟨x359,h360,h⟩:=aE h;obtain⟨a5e,h362,h⟩:=aE h;have Iv:=(((((aT.lt aN.c hd2).l (az aN.c 2 (dc hd2) rfl)).a [.n 8]).l (eA Node.c 8 h360 rfl)).g (DI h362))
  obtain⟨h363,h⟩|⟨h363,h⟩:=aM h
  ·exact((Iv.b h363).a [.cn [3,5,6,7,9,10,11,22,23,24,37,38,39] [0,1,2,3,4,5,6,7,8,9]]).ct hΓ sA (iS hd2 hm2) (ih2 (i2+1) (IntKind.i64.wrap (zk+1)) zl (dn hd2) h)
  ·exact((Iv.b h363).a [.cn [3,5,6,7,9,10,11,22,23,24,37,38,39] [0,1,2,3,4,5,6,7,8,9]]).ct hΓ sA (iS hd2 hm2) (ih2 (i2+1) zk (IntKind.i64.wrap (zl+1)) (dn hd2) h)
theorem GR(hΓ:Γ.nt=95){aB:aG}{cL:aC}{y3:aG×Unit}{r:aG}{k1:Int->Option aG}(cc:∀(kN:Int),k1 kN=some r->Ax Γ N f169 (.q [[some (105,4),some (3,1),some (111,3),some (118,8),some (53,2),none]] (D.agg [D.fr 105 4 (r.rules.map aK.c),D.fr 3 1 (r.ends.map gS),D.fr 111 3 (r.av.map aV.c),D.fr 118 8 (r.nodes.map Node.c),D.fr 53 2 (r.facts.map aC.c),D.int .i64 r.bn])) [1,1,1,1] ⟨[(6,D.ptr 0 0),(7,D.ptr 1 0)],[Ob.box [D.nil,D.nil,D.nil,D.nil,D.nil,D.int .i64 0],Ob.box [D.acc 2,D.acc 3,D.acc 4,D.acc 5,D.acc 6,D.int .i64 kN],Ob.row .uq 105 4 (y3.1.rules.map aK.c),Ob.row .uq 3 1 (y3.1.ends.map gS),Ob.row .uq 111 3 (y3.1.av.map aV.c),Ob.row .uq 118 8 (y3.1.nodes.map Node.c),Ob.row .uq 53 2 (y3.1.facts.map aC.c)]⟩)(hm1:y3.1.nodes.length<=maxLen):∀(rest:b9) (i1:Nat) (lB:Int),y3.1.nodes.drop i1=rest->eZ aB cL y3 k1 rest i1 lB=some r->Ar Γ N f169 (.q [[some (105,4),some (3,1),some (111,3),some (118,8),some (53,2),none]] (D.agg [D.fr 105 4 (r.rules.map aK.c),D.fr 3 1 (r.ends.map gS),D.fr 111 3 (r.av.map aV.c),D.fr 118 8 (r.nodes.map Node.c),D.fr 53 2 (r.facts.map aC.c),D.int .i64 r.bn])) [1,1,1,0,1,0] (rest.length+1) (Hw aB cL y3 lB (i1:Int)):=by
 intro rest
 induction rest with
 |nil=>
  intro i1 lB aq h;rw[eZ]at h;refine aP fun N1 cC br=>?_
  exact((aT.ge Node.c aq).a [.hl 0 [6,7] [2,3,5,6,7,4,8]]).ex hΓ cC (cc lB h)
 |cons bL bz ih1=>
  intro i1 lB aq h;rw[eZ]at h;refine aP fun N1 cC br=>?_
  have Q8:=(((aT.lt Node.c aq).i (nX Node.c 8 (dc aq))).o 8 8 .uq (dK Node.c (dc aq)))
  obtain⟨h312,h⟩|⟨h312,h⟩:=aM h
  ·exact((Q8.b h312).a [.cn [3,5,6,7,22,23,24] [0,1,2,3,4,5,6,7,8]]).ct hΓ br (iS aq hm1) (ih1 (i1+1) lB (dn aq) h)
  ·obtain⟨x313,h314,h⟩:=aE h;obtain⟨h370,h⟩:=bQ h;refine((((Q8.b h312).i (vF Node.c 8 h314)).o 8 8 .uq (dK Node.c (rE h314))).a [.cn [3,5,6,7,9,10,11,22,23,24,37,38,39] [0,1,2,3,9,4,5,6,7,8]]).lp hΓ (GS hΓ (fun Nc GC h=>?_) (bY h370) x313.tokens 0 0 0 rfl h);obtain⟨h364,h⟩|⟨h364,h⟩:=aM h
   ·exact((aT.b h364).a [.cn [3,5,6,7,22,23,24] [0,1,2,3,5,6,7,8,9]]).ct hΓ br (iS aq hm1) (ih1 (i1+1) (IntKind.i64.wrap (lB+GC)) (dn aq) h)
   ·obtain⟨x365,h366,h⟩:=aE h;obtain⟨Ui,h368,h⟩:=aE h;have Q9:=(((((aT.b h364).i (vF aV.c 3 h366)).o 3 3 .uq (dK aV.c (rE h366))).a [.d (D.hY [D.fr 152 2 (Ui.1.map aS.c),D.bool Ui.2])]).w (show Good prog 239 [D.agg (aC.c x365.shape),D.agg (aC.c cL),D.sl ([])] (D.hY [D.fr 152 2 (Ui.1.map aS.c),D.bool Ui.2])from by first| (simpa only[bV,bH,cD,dG,ck]using oc h368)|exact oc h368))
    obtain⟨h369,h⟩|⟨h369,h⟩:=aM h
    ·exact((Q9.b h369).a [.cn [3,5,6,7,22,23,24] [0,1,2,3,5,6,7,8,9]]).ct hΓ br (iS aq hm1) (ih1 (i1+1) (IntKind.i64.wrap ((IntKind.i64.wrap (lB+(IntKind.i64.wrap (GC*((x365.facts.map aC.c).length:Int)))))+Nc)) (dn aq) h)
    ·exact((Q9.b h369).a [.cn [3,5,6,7,22,23,24] [0,1,2,3,5,6,7,8,9]]).ct hΓ br (iS aq hm1) (ih1 (i1+1) (IntKind.i64.wrap (lB+(IntKind.i64.wrap (GC*((x365.facts.map aC.c).length:Int))))) (dn aq) h)
theorem Ep{aB:aG}{aU:aJ}{cL:aC}{r:aG}(h:tM aB aU cL=some r):Good prog 169 [D.agg (aG.c aB),D.sl (aU.map aC.c),D.agg (aC.c cL)] (D.agg [D.fr 105 4 (r.rules.map aK.c),D.fr 3 1 (r.ends.map gS),D.fr 111 3 (r.av.map aV.c),D.fr 118 8 (r.nodes.map Node.c),D.fr 53 2 (r.facts.map aC.c),D.int .i64 r.bn]):=by
 refine gd func169 [[some (105,4),some (3,1),some (111,3),some (118,8),some (53,2),none]] 95 fun hr Γ hΓ=>?_
 rw[tM]at h;obtain⟨y1,h2,h⟩:=aE h;obtain⟨y3,h4,h⟩:=aE h;obtain⟨h371,h⟩:=bQ h;refine(((aT.g (mY h2)).hp [[some (105,4),some (3,1),some (111,3),some (118,8),some (53,2),none],[none]] (tA h4)).a [.cn [3,5,6,7,22,23,24] [0,1,2,8,12,9,10,11,13]]).lp hΓ (GR hΓ (fun kN h=>?_) (bY h371) y3.1.nodes 0 y3.1.bn rfl h);cases h;exact aT.ret hΓ
def BZ(aB:aG)(aU:aC):Option (aG×Bool):=((tI aB.facts aU).bind fun y1=>(bif !(y1.2)then((gi aB).bind fun y4=>(some (y4,false)))else((tM aB y1.1 aU).bind fun y6=>(some (y6,true)))))
theorem KS{aB:aG}{aU:aC}{r:aG×Bool}(h:BZ aB aU=some r):Good prog 99 [D.agg (aG.c aB),D.agg (aC.c aU)] (D.hY [D.agg [D.fr 105 4 (r.1.rules.map aK.c),D.fr 3 1 (r.1.ends.map gS),D.fr 111 3 (r.1.av.map aV.c),D.fr 118 8 (r.1.nodes.map Node.c),D.fr 53 2 (r.1.facts.map aC.c),D.int .i64 r.1.bn],D.bool r.2]):=by
 refine gd func99 [[some (105,4),some (3,1),some (111,3),some (118,8),some (53,2),none],[none]] 23 fun hr Γ hΓ=>?_
 rw[BZ]at h;obtain⟨y1,h2,h⟩:=aE h;obtain⟨h3,h⟩|⟨h3,h⟩:=aM h
 ·obtain⟨y4,h5,h⟩:=aE h;cases h;exact(((aT.g (xh h2)).b h3).g (mY h5)).ret hΓ
 ·obtain⟨y6,h7,h⟩:=aE h;cases h;exact(((aT.g (xh h2)).b h3).g (Ep h7)).ret hΓ
def nM(aB:aG)(aU:aC):Option (aG×Bool):=((qY aB).bind fun y1=>(bif !(y1)then((gi aB).bind fun y4=>(some (y4,false)))else((BZ aB aU).bind fun y6=>(some (y6.1,y6.2)))))
theorem q9{aB:aG}{aU:aC}{r:aG×Bool}(h:nM aB aU=some r):Good prog 45 [D.agg (aG.c aB),D.agg (aC.c aU)] (D.hY [D.agg [D.fr 105 4 (r.1.rules.map aK.c),D.fr 3 1 (r.1.ends.map gS),D.fr 111 3 (r.1.av.map aV.c),D.fr 118 8 (r.1.nodes.map Node.c),D.fr 53 2 (r.1.facts.map aC.c),D.int .i64 r.1.bn],D.bool r.2]):=by
 refine gd func45 [[some (105,4),some (3,1),some (111,3),some (118,8),some (53,2),none],[none]] 16 fun hr Γ hΓ=>?_
 rw[nM]at h;obtain⟨y1,h2,h⟩:=aE h;obtain⟨h3,h⟩|⟨h3,h⟩:=aM h
 ·obtain⟨y4,h5,h⟩:=aE h;cases h;exact(((aT.g (wC h2)).b h3).g (mY h5)).ret hΓ
 ·obtain⟨y6,h7,h⟩:=aE h;cases h;exact(((aT.g (wC h2)).b h3).g (KS h7)).ret hΓ
def fF(aU:aJ)(k1:Int->Int->ah->bR->bD->b9->aJ->Option (aG×Int)):aJ->Nat->Int->Int->ah->bR->bD->b9->aJ->Option (aG×Int)
 | [],i1,pY,cz,fD,dW,kP,gW,oY=>(k1 pY cz fD dW kP gW oY)
 |bL::bz,i1,pY,cz,fD,dW,kP,gW,oY=>((nM (⟨fD,dW,kP,gW,oY,cz⟩:aG) bL).bind fun vU=>(bif vU.2 then(fF aU k1 bz (i1+1) (IntKind.i64.wrap (pY+1)) vU.1.bn vU.1.rules vU.1.ends vU.1.av vU.1.nodes vU.1.facts)else(fF aU k1 bz (i1+1) pY cz fD dW kP gW oY)))
def oI(aB:aG)(aU:aJ):Option (aG×Int):=((gi aB).bind fun y1=>(fF aU (fun(MM:Int) (kN:Int) (qK:ah) (fC:bR) (zH:bD) (mC:b9) (oU:aJ)=>(some ((⟨qK,fC,zH,mC,oU,kN⟩:aG),MM))) aU 0 0 y1.bn y1.rules y1.ends y1.av y1.nodes y1.facts))
def CF(aU:aJ)(pY:Int)(cz:Int)(W2:List aQ)(W3:List aQ)(W4:List aQ)(W5:List aQ)(W6:List aQ)(cR:Int):St:=⟨[(4,D.ptr 0 0),(6,D.ptr 1 0),(7,D.int .i64 pY),(14,D.sl (aU.map aC.c)),(15,D.int .i64 ((aU.map aC.c).length:Int)),(16,D.int .i64 cR)],[Ob.box [D.nil,D.nil,D.nil,D.nil,D.nil,D.int .i64 0],Ob.box [D.acc 2,D.acc 3,D.acc 4,D.acc 5,D.acc 6,D.int .i64 cz],Ob.row .uq 105 4 W2,Ob.row .uq 3 1 W3,Ob.row .uq 111 3 W4,Ob.row .uq 118 8 W5,Ob.row .uq 53 2 W6]⟩
theorem BP(hΓ:Γ.nt=33){aU:aJ}{r:aG×Int}{k1:Int->Int->ah->bR->bD->b9->aJ->Option (aG×Int)}(cc:∀(MM:Int) (kN:Int) (qK:ah) (fC:bR) (zH:bD) (mC:b9) (oU:aJ),k1 MM kN qK fC zH mC oU=some r->Ax Γ N f16 (.q [[some (105,4),some (3,1),some (111,3),some (118,8),some (53,2),none],[none]] (D.hY [D.agg [D.fr 105 4 (r.1.rules.map aK.c),D.fr 3 1 (r.1.ends.map gS),D.fr 111 3 (r.1.av.map aV.c),D.fr 118 8 (r.1.nodes.map Node.c),D.fr 53 2 (r.1.facts.map aC.c),D.int .i64 r.1.bn],D.int .i64 r.2])) [1,1,1,1] ⟨[(4,D.ptr 0 0),(6,D.ptr 1 0),(7,D.int .i64 MM)],[Ob.box [D.nil,D.nil,D.nil,D.nil,D.nil,D.int .i64 0],Ob.box [D.acc 2,D.acc 3,D.acc 4,D.acc 5,D.acc 6,D.int .i64 kN],Ob.row .uq 105 4 (qK.map aK.c),Ob.row .uq 3 1 (fC.map gS),Ob.row .uq 111 3 (zH.map aV.c),Ob.row .uq 118 8 (mC.map Node.c),Ob.row .uq 53 2 (oU.map aC.c)]⟩)(hm1:aU.length<=maxLen):∀(rest:aJ) (i1:Nat) (pY:Int) (cz:Int) (fD:ah) (dW:bR) (kP:bD) (gW:b9) (oY:aJ),aU.drop i1=rest->fF aU k1 rest i1 pY cz fD dW kP gW oY=some r->Ar Γ N f16 (.q [[some (105,4),some (3,1),some (111,3),some (118,8),some (53,2),none],[none]] (D.hY [D.agg [D.fr 105 4 (r.1.rules.map aK.c),D.fr 3 1 (r.1.ends.map gS),D.fr 111 3 (r.1.av.map aV.c),D.fr 118 8 (r.1.nodes.map Node.c),D.fr 53 2 (r.1.facts.map aC.c),D.int .i64 r.1.bn],D.int .i64 r.2])) [1,1,1,0,1,0] (rest.length+1) (CF aU pY cz (fD.map aK.c) (dW.map gS) (kP.map aV.c) (gW.map Node.c) (oY.map aC.c) (i1:Int)):=by
 intro rest
 induction rest with
 |nil=>
  intro i1 pY cz fD dW kP gW oY aq h;rw[fF]at h;refine aP fun N1 cC br=>?_
  exact((aT.ge aC.c aq).a [.hl 0 [4,6,7] [0,1,2,3,4,5,6]]).ex hΓ cC (cc pY cz fD dW kP gW oY h)
 |cons bL bz ih1=>
  intro i1 pY cz fD dW kP gW oY aq h;rw[fF]at h;refine aP fun N1 cC br=>?_
  obtain⟨vU,h36,h⟩:=aE h;have eH:=((((aT.lt aC.c aq).l (az aC.c 2 (dc aq) rfl)).a [.d (D.hY [D.agg [D.fr 105 4 (vU.1.rules.map aK.c),D.fr 3 1 (vU.1.ends.map gS),D.fr 111 3 (vU.1.av.map aV.c),D.fr 118 8 (vU.1.nodes.map Node.c),D.fr 53 2 (vU.1.facts.map aC.c),D.int .i64 vU.1.bn],D.bool vU.2])]).w (show Good prog 45 [D.agg [D.sl (fD.map aK.c),D.sl (dW.map gS),D.sl (kP.map aV.c),D.sl (gW.map Node.c),D.sl (oY.map aC.c),D.int .i64 cz],D.agg (aC.c bL)] (D.hY [D.agg [D.fr 105 4 (vU.1.rules.map aK.c),D.fr 3 1 (vU.1.ends.map gS),D.fr 111 3 (vU.1.av.map aV.c),D.fr 118 8 (vU.1.nodes.map Node.c),D.fr 53 2 (vU.1.facts.map aC.c),D.int .i64 vU.1.bn],D.bool vU.2])from by first| (simpa only[bV,bH,cD,dG,ck]using q9 h36)|exact q9 h36| (have t:=q9 h36;simp only[bV,dG,ck,aG.c]at t;exact t)))
  obtain⟨h37,h⟩|⟨h37,h⟩:=aM h
  ·exact((eH.b h37).a [.cn [4,6,7,14,15,16] [0,1,8,9,10,11,12]]).ct hΓ br (iS aq hm1) (ih1 (i1+1) (IntKind.i64.wrap (pY+1)) vU.1.bn vU.1.rules vU.1.ends vU.1.av vU.1.nodes vU.1.facts (dn aq) h)
  ·exact((eH.b h37).a [.cn [4,6,7,14,15,16] [0,1,2,3,4,5,6]]).ct hΓ br (iS aq hm1) (ih1 (i1+1) pY cz fD dW kP gW oY (dn aq) h)
theorem AY{aB:aG}{aU:aJ}{r:aG×Int}(h:oI aB aU=some r):Good prog 16 [D.agg (aG.c aB),D.sl (aU.map aC.c)] (D.hY [D.agg [D.fr 105 4 (r.1.rules.map aK.c),D.fr 3 1 (r.1.ends.map gS),D.fr 111 3 (r.1.av.map aV.c),D.fr 118 8 (r.1.nodes.map Node.c),D.fr 53 2 (r.1.facts.map aC.c),D.int .i64 r.1.bn],D.int .i64 r.2]):=by
 refine gd func16 [[some (105,4),some (3,1),some (111,3),some (118,8),some (53,2),none],[none]] 33 fun hr Γ hΓ=>?_
 rw[oI]at h;obtain⟨y1,h2,h⟩:=aE h;refine((aT.g (mY h2)).a [.cn [4,6,7,14,15,16] [1,7,2,3,4,5,6]]).lp hΓ (BP hΓ (fun MM kN qK fC zH mC oU h=>?_) (by have:=(eN.sl (hr _ (aD (i:=1) rfl))).1;simpa using this) aU 0 0 y1.bn y1.rules y1.ends y1.av y1.nodes y1.facts rfl h);cases h;exact aT.ret hΓ
def pE(aB:ah)(aU:aJ):Option Int:=((iv aB).bind fun y1=>(bif !(y1.2)then(some (-1))else((nE aU).bind fun y4=>(bif !(y4)then(some (-1))else((oN y1.1 aU).bind fun y7=>(some y7.1.bn))))))
theorem Dq{aB:ah}{aU:aJ}{r:Int}(h:pE aB aU=some r):Good prog 34 [D.sl (aB.map aK.c),D.sl (aU.map aC.c)] (D.int .i64 r):=by
 refine gd func34 [[none]] 29 fun hr Γ hΓ=>?_
 rw[pE]at h;obtain⟨y1,h2,h⟩:=aE h;obtain⟨h3,h⟩|⟨h3,h⟩:=aM h
 ·cases h;exact(((aT.g (mF h2)).r 4 h3).T 1).ret hΓ
 ·obtain⟨y4,h5,h⟩:=aE h;have mQ:=((((aT.g (mF h2)).r 2 h3).g (pQ h5)).r 2 h3)
  obtain⟨h6,h⟩|⟨h6,h⟩:=aM h
  ·cases h;exact(mQ.b h6).ret hΓ
  ·obtain⟨y7,h8,h⟩:=aE h;cases h;exact((mQ.b h6).g (Ah h8)).ret hΓ
def oy(aB:ah)(aU:aJ):Option Int:=((ot aB).bind fun y1=>(bif !(y1)then(some (-1))else((nB aU).bind fun y4=>(bif !(y4)then(some (-1))else((rF aB ([]) 0).bind fun y7=>((oI y7 aU).bind fun y9=>(some y9.1.bn)))))))
theorem DC{aB:ah}{aU:aJ}{r:Int}(h:oy aB aU=some r):Good prog 36 [D.sl (aB.map aK.c),D.sl (aU.map aC.c)] (D.int .i64 r):=by
 refine gd func36 [[none]] 24 fun hr Γ hΓ=>?_
 rw[oy]at h;obtain⟨y1,h2,h⟩:=aE h;obtain⟨h3,h⟩|⟨h3,h⟩:=aM h
 ·cases h;exact(((aT.g (tJ h2)).r 4 h3).T 1).ret hΓ
 ·obtain⟨y4,h5,h⟩:=aE h;have mQ:=((((aT.g (tJ h2)).r 2 h3).g (pL h5)).r 2 h3)
  obtain⟨h6,h⟩|⟨h6,h⟩:=aM h
  ·cases h;exact(mQ.b h6).ret hΓ
  ·obtain⟨y7,h8,h⟩:=aE h;obtain⟨y9,h10,h⟩:=aE h;cases h;exact((((mQ.b h6).a [.d (D.agg [D.fr 105 4 (y7.rules.map aK.c),D.fr 3 1 (y7.ends.map gS),D.fr 111 3 (y7.av.map aV.c),D.fr 118 8 (y7.nodes.map Node.c),D.fr 53 2 (y7.facts.map aC.c),D.int .i64 y7.bn])]).w (show Good prog 78 [D.sl (aB.map aK.c),D.sl ([]),D.int .i64 0] (D.agg [D.fr 105 4 (y7.rules.map aK.c),D.fr 3 1 (y7.ends.map gS),D.fr 111 3 (y7.av.map aV.c),D.fr 118 8 (y7.nodes.map Node.c),D.fr 53 2 (y7.facts.map aC.c),D.int .i64 y7.bn])from by first| (simpa only[bV,bH,cD,dG,ck]using ve h8)|exact ve h8)).g (AY h10)).ret hΓ
end Go.Cx
namespace Go.Cx
open Go.RowKit Go.Proofs Tryz
theorem wh{α:Type}{a pre xs:List α}{x:α}(h:a=pre++x::xs):lF a (pre.length:Int)=some x:=by
 unfold lF;have:a[pre.length]?=some x:=by rw[h];simp
 simp[this]
theorem G4{n b:Nat}(hn:n<=1099511627776)(hb:b<=128):room n b=true:=by
 unfold room maxLen;have:n*b<=1099511627776*128:=Cu hn hb;simp;omega
theorem l9{α:Type}{w:List α}{c:α->aQ}{y:aQ}{b:Nat}(h:w.length<1099511627776)(hb:b<=128):room ((w.map c).length+([y]).length) b=true:=G4 (by simp;omega) hb
theorem X4{α β:Type}{w:List α}{v:List β}{c:α->aQ}{d:β->aQ}{b:Nat}(h:w.length+v.length<=1099511627776)(hb:b<=128):room ((w.map c).length+(v.map d).length) b=true:=G4 (by simp;omega) hb
theorem QG{β:Type}{v:List β}{d:β->aQ}{b:Nat}(h:v.length<=1099511627776)(hb:b<=128):room (([]:List aQ).length+(v.map d).length) b=true:=G4 (by simp;omega) hb
theorem uJ{α:Type}{l:List α}(h:l.length<=1099511627776):decide (l.length<=maxLen)=true:=by unfold maxLen;simp;omega
theorem Cl{α β γ:Type}{c:β->aQ}{b:Nat}{f:α->Option β}{g:α->β}{L:List α->Nat->List β->Option γ}{k:List β->Option γ}(hb:b<=128)(sB:∀i w,L [] i w=k w)
 (qx:∀x xs i w,L (x::xs) i w=(f x).bind fun y=>bif room ((w.map c).length+([c y]).length) b then L xs (i+1) (w++[y])else none):
 ∀(l:List α) (i:Nat) (w:List β),(∀x∈l,f x=some (g x))->w.length+l.length<=1099511627776->L l i w=k (w++l.map g):=by
 intro l
 induction l with
 |nil=>intro i w _ _;simp[sB]
 |cons x xs ih=>
  intro i w hf hl;simp only[aY]at hl;rw[qx,hf x (by simp),aA,l9 (by omega) hb,aO,ih _ _ (fun y hy=>hf y (by simp[hy])) (by simp;omega)];simp
theorem Tc{α:Type}{f:α->Option Bool}{p:α->Bool}{L:List α->Nat->Option Bool}{k:Option Bool}(sB:∀i,L [] i=k)
 (qx:∀x xs i,L (x::xs) i=(f x).bind fun y=>bif !y then some false else L xs (i+1)):∀(l:List α) (i:Nat),(∀x∈l,f x=some (p x))->L l i=bif l.all p then k else some false:=by
 intro l
 induction l with
 |nil=>intro i _;simp[sB]
 |cons x xs ih=>
  intro i hf;rw[qx,hf x (by simp),aA,ih _ (fun y hy=>hf y (by simp[hy])),dD];cases p x<;>simp
theorem vK:∀(a:Bytes),Op.bytesLess a a=false
 | []=>rfl
 |x::a=>by simp[Op.bytesLess,vK a]
theorem AR:∀ {a b c:Bytes},Op.bytesLess a b=true->Op.bytesLess b c=true->Op.bytesLess a c=true
 | [],b,[],_,h2=>by cases b<;>simp[Op.bytesLess]at h2
 | [],b,_::_,_,_=>by simp[Op.bytesLess]
 |_::_,[],_,h1,_=>by simp[Op.bytesLess]at h1
 |_::_,_::_,[],_,h2=>by simp[Op.bytesLess]at h2
 |x::a,y::b,z::c,h1,h2=>by
  simp only[Op.bytesLess,nA,bC,aW,cO]at h1 h2⊢;rcases h1 with h1|⟨rfl,h1⟩
  ·rcases h2 with h2|⟨rfl,h2⟩
   ·exact .inl (UInt8.lt_trans h1 h2)
   ·exact .inl h1
  ·rcases h2 with h2|⟨rfl,h2⟩
   ·exact .inl h2
   ·exact .inr ⟨rfl,AR h1 h2⟩
theorem GF:∀ {a b:Bytes},Op.bytesLess a b=false->Op.bytesLess b a=false->a=b
 | [],[],_,_=>rfl
 | [],_::_,h,_=>by simp[Op.bytesLess]at h
 |_::_,[],_,h=>by simp[Op.bytesLess]at h
 |x::a,y::b,h1,h2=>by
  simp only[Op.bytesLess,Bool.or_eq_false_iff,qT,C9,cZ,ne_eq]at h1 h2;have e:x=y:=by
   have h3:=h1.1;have h4:=h2.1;rw[CD]at h3 h4;exact UInt8.toNat_inj.1 (by omega)
  subst e;rw[GF (h1.2.resolve_left (by simp)) (h2.2.resolve_left (by simp))]
theorem Hi{a b:Bytes}(h:Op.bytesLess a b=true):Op.bytesLess b a=false:=by
 cases hb:Op.bytesLess b a with
 |false=>rfl
 |true=>have:=AR h hb;rw[vK]at this;cases this
def SS(l:aH):Prop:=l.Pairwise fun a b=>Op.bytesLess a b=true
theorem JK:∀ {a b:aH},SS a->SS b->(∀x,x∈a↔x∈b)->a=b
 | [],[],_,_,_=>rfl
 | [],y::b,_,_,h=>by have:=(h y).2 (by simp);cases this
 |x::a,[],_,_,h=>by have:=(h x).1 (by simp);cases this
 |x::a,y::b,h1,h2,h=>by
  obtain⟨p1,p2⟩:=jI.1 h1;obtain⟨q1,q2⟩:=jI.1 h2;have e:x=y:=by
   refine GF ?_ ?_
   ·cases hb:Op.bytesLess x y with
    |false=>rfl
    |true=>
     rcases bI.1 ((h x).1 (by simp))with rfl|hx
     ·exact(vK x▸hb).symm
     ·have:=Hi (q1 x hx);rw[hb]at this;exact this
   ·cases hb:Op.bytesLess y x with
    |false=>rfl
    |true=>
     rcases bI.1 ((h y).2 (by simp))with rfl|hx
     ·exact(vK y▸hb).symm
     ·have:=Hi (p1 y hx);rw[hb]at this;exact this
  subst e;rw[JK p2 q2 (fun z=>?_)];constructor
  ·intro hz;rcases bI.1 ((h z).1 (by simp[hz]))with rfl|MN
   ·have:=p1 z hz;rw[vK]at this;cases this
   ·exact MN
  ·intro hz;rcases bI.1 ((h z).2 (by simp[hz]))with rfl|MN
   ·have:=q1 z hz;rw[vK]at this;cases this
   ·exact MN
def xa:aH->Bytes->aH
 | [],s=>[s]
 |x::xs,s=>bif Op.bytesLess x s then x::xa xs s else bif x==s then x::xs else s::x::xs
theorem Lw:∀ {l:aH} {s y:Bytes},y∈xa l s↔y=s\/y∈l
 | [],s,y=>by simp[xa]
 |x::xs,s,y=>by
  simp only[xa];cases Op.bytesLess x s with
  |true=>simp only[aO,bI,Lw (l:=xs)];constructor<;>(rintro(h|h|h)<;>simp[h])
  |false=>
   simp only[aZ];cases hx:x==s with
   |true=>
    simp only[cO]at hx;subst hx;simp
   |false=>simp
theorem TA:∀ {l:aH} {s:Bytes},SS l->SS (xa l s)
 | [],s,_=>by simp[xa,SS]
 |x::xs,s,h=>by
  obtain⟨p1,p2⟩:=jI.1 h;simp only[xa];cases hb:Op.bytesLess x s with
  |true=>
   simp only[aO];refine jI.2 ⟨fun y hy=>?_,TA p2⟩;rcases Lw.1 hy with rfl|hy
   ·exact hb
   ·exact p1 y hy
  |false=>
   simp only[aZ];cases hx:x==s with
   |true=>exact h
   |false=>
    have hs:Op.bytesLess s x=true:=by
     cases hc:Op.bytesLess s x with
     |true=>rfl
     |false=>have:=GF hb hc;subst this;simp at hx
    refine jI.2 ⟨fun y hy=>?_,h⟩;rcases bI.1 hy with rfl|hy
    ·exact hs
    ·exact AR hs (p1 y hy)
theorem zE:∀(l:aH) (s:Bytes),(xa l s).length<=l.length+1
 | [],s=>by simp[xa]
 |x::xs,s=>by
  have:=zE xs s;simp only[xa];cases Op.bytesLess x s<;>simp only[aO,aZ,aY]
  ·cases x==s<;>simp
  ·omega
def eg(l:aH):aH:=l.foldl xa []
theorem E3:∀(l a:aH) (y:Bytes),y∈l.foldl xa a↔y∈a\/y∈l
 | [],a,y=>by simp
 |x::l,a,y=>by
  rw[cj,E3 l,Lw];simp only[bI];constructor
  ·rintro((h|h)|h)<;>simp[h]
  ·rintro(h|h|h)<;>simp[h]
theorem Fx:∀(l:aH) {a:aH},SS a->SS (l.foldl xa a)
 | [],a,h=>h
 |x::l,a,h=>Fx l (TA h)
theorem E2:∀(l a:aH),(l.foldl xa a).length<=a.length+l.length
 | [],a=>by simp
 |x::l,a=>by
  have h1:=E2 l (xa a x);have h2:=zE a x;rw[cj,aY];omega
theorem tr{l:aH}{y:Bytes}:y∈eg l↔y∈l:=by unfold eg;rw[E3];simp
theorem MD(l:aH):SS (eg l):=Fx l (by simp[SS])
theorem pG(l:aH):(eg l).length<=l.length:=by have:=E2 l [];simpa[eg]using this
theorem EK{a b:aH}(h:∀x,x∈a↔x∈b):eg a=eg b:=JK (MD a) (MD b) (fun x=>by rw[tr,tr,h])
theorem S5(a:aH)(x:Bytes):xa (eg a) x=eg (a++[x]):=by simp[eg]
theorem S4(a b:aH):b.foldl xa (eg a)=eg (a++b):=by simp[eg]
theorem EL(a b:aH):(eg b).foldl xa (eg a)=eg (a++b):=by
 rw[S4];exact EK (fun x=>by simp[tr])
theorem mK(l:aH)(v:Bytes):(eg l).contains v=l.contains v:=by
 rw[bU];simp[tr]
def in1(x:UInt8):Bool:=decide ((x.toNat:Int)>=97)&&decide ((x.toNat:Int)<=122)
def in2(x:UInt8):Bool:=decide ((x.toNat:Int)>=48)&&decide ((x.toNat:Int)<=57)
def ab(x:UInt8):Bool:=in1 x||in2 x
def U4(s:Bytes):Bool:=decide ((s.length:Int)>=1)&&decide ((s.length:Int)<=8)
def j8(s:Bytes):Bool:=s.all ab&&U4 s
def a02:Bytes->Bool
 | []=>false
 |x::_=>decide ((x.toNat:Int)>=97)
def yB(s:Bytes):Bool:=j8 s&&a02 s
def k6:Bytes->Bool
 | []=>false
 |x::t=>decide ((x.toNat:Int)=63)&&j8 t
def oW(s:Bytes):Bool:=j8 s||k6 s
theorem ET{s:Bytes}(h:j8 s=true):1<=s.length/\s.length<=8:=by
 simp only[j8,U4,aW,bC]at h;omega
theorem NJ{s:Bytes}(h:yB s=true):1<=s.length/\s.length<=8:=by
 simp only[yB,aW]at h;exact ET h.1
theorem Xo{s:Bytes}(h:k6 s=true):1<=s.length/\s.length<=9:=by
 cases s with
 |nil=>cases h
 |cons x t=>simp only[k6,aW]at h;have:=ET h.2;simp;omega
theorem UW{s:Bytes}(h:oW s=true):1<=s.length/\s.length<=9:=by
 simp only[oW,nA]at h;rcases h with h|h
 ·have:=ET h;omega
 ·exact Xo h
theorem yR{s:Bytes}(h:k6 s=true):j8 s=false:=by
 cases s with
 |nil=>cases h
 |cons x t=>
  simp only[k6,aW,bC]at h;simp only[j8,dD,ab,in1,in2];have:(x.toNat:Int)=63:=h.1;simp[this]
theorem a0n(x:UInt8):IntKind.i64.wrap ((x.toNat:Nat):Int)=(x.toNat:Int):=gV (rQ.i64.2 (by have:=x.toNat_lt;omega))
theorem EO{n:Nat}(h:n<=1099511627776):IntKind.i64.wrap ((n:Int)+1)=((n+1:Nat):Int):=by rw[gV (rQ.i64.2 (by omega))];omega
theorem a0a{n:Nat}(h:1<=n):Kb n (some (D.int .i64 1)) none=some (1,n):=by
 unfold Kb;have:(0:Int)<=1/\(1:Int).toNat<=n:=⟨by decide,h⟩
 simp only[bK this];rfl
theorem Ih(a b c:Int):jv a b c=some (decide (a>=b)&&decide (a<=c)):=by
 unfold jv;cases decide (a>=b)<;>rfl
theorem a2T(a:Bytes)(k:Option Bool)(ha:a.length<=1048576):∀(rest pre:Bytes),a=pre++rest->∀n,rest.length<n->iN a k n (pre.length:Int)=bif rest.all ab then k else some false:=by
 intro rest
 induction rest with
 |nil=>
  intro pre h n hn;obtain⟨m,rfl⟩:∃m,n=m+1:=⟨n-1,by simp at hn;omega⟩
  have e1:decide ((pre.length:Int)<(a.length:Int))=false:=by simp[h]
  rw[iN,e1];rfl
 |cons x xs ih=>
  intro pre h n hn;obtain⟨m,rfl⟩:∃m,n=m+1:=⟨n-1,by simp at hn;omega⟩
  have hl:a.length=pre.length+(xs.length+1):=by rw[h];simp
  have e1:decide ((pre.length:Int)<(a.length:Int))=true:=by rw[hl];simp;omega
  have e4:IntKind.i64.wrap ((pre.length:Int)+1)=((pre++[x]).length:Int):=by rw[EO (by omega)];simp
  have t:=ih (pre++[x]) (by simp[h]) m (by simp at hn;omega);rw[iN,e1,aO,wh h,aA,a0n,Ih,Ih,aA,aA,e4,t,dD];show(bif !in1 x then(bif !in2 x then _ else _)else _)=bif (in1 x||in2 x)&&xs.all ab then k else some false
  cases in1 x<;>cases in2 x<;>simp
theorem KK(a:Bytes)(ha:a.length<=1048576):fA a=some (j8 a):=by
 unfold fA;refine(a2T a _ ha a [] rfl fuel (by unfold fuel;omega)).trans ?_;rw[Ih,aA];show _=some (a.all ab&&U4 a);cases a.all ab<;>rfl
theorem a1l(a:Bytes)(k:Option Bool)(ha:a.length<=1048576):∀(rest pre:Bytes),a=pre++rest->∀n,rest.length<n->fQ a k n (pre.length:Int)=bif rest.all ab then k else some false:=by
 intro rest
 induction rest with
 |nil=>
  intro pre h n hn;obtain⟨m,rfl⟩:∃m,n=m+1:=⟨n-1,by simp at hn;omega⟩
  have e1:decide ((pre.length:Int)<(a.length:Int))=false:=by simp[h]
  rw[fQ,e1];rfl
 |cons x xs ih=>
  intro pre h n hn;obtain⟨m,rfl⟩:∃m,n=m+1:=⟨n-1,by simp at hn;omega⟩
  have hl:a.length=pre.length+(xs.length+1):=by rw[h];simp
  have e1:decide ((pre.length:Int)<(a.length:Int))=true:=by rw[hl];simp;omega
  have e4:IntKind.i64.wrap ((pre.length:Int)+1)=((pre++[x]).length:Int):=by rw[EO (by omega)];simp
  have t:=ih (pre++[x]) (by simp[h]) m (by simp at hn;omega);rw[fQ,e1,aO,wh h,aA,e4,t,dD];have c1:decide ((x.toNat:Int)>=97)= !decide ((x.toNat:Int)<97):=by rw[bU];simp
  have c2:decide ((x.toNat:Int)<=122)= !decide ((x.toNat:Int)>122):=by rw[bU];simp
  have c3:decide ((x.toNat:Int)>=48)= !decide ((x.toNat:Int)<48):=by rw[bU];simp
  have c4:decide ((x.toNat:Int)<=57)= !decide ((x.toNat:Int)>57):=by rw[bU];simp
  rw[ab,in1,in2,c1,c2,c3,c4];cases decide ((x.toNat:Int)<97)<;>cases decide ((x.toNat:Int)>122)<;>cases decide ((x.toNat:Int)<48)<;>cases decide ((x.toNat:Int)>57)<;>simp
theorem K7(a:Bytes)(ha:a.length<=1048576):ew a=some (j8 a):=by
 unfold ew;rw[show fQ a (some true) fuel 0=_ from a1l a _ ha a [] rfl fuel (by unfold fuel;omega)];have c1:decide ((a.length:Int)>=1)= !decide ((a.length:Int)<1):=by rw[bU];simp
 have c2:decide ((a.length:Int)<=8)= !decide ((a.length:Int)>8):=by rw[bU];simp
 rw[j8,U4,c1,c2];cases decide ((a.length:Int)<1)<;>cases decide ((a.length:Int)>8)<;>cases a.all ab<;>rfl
theorem XG(a:Bytes)(ha:a.length<=1048576):qB a=some (yB a):=by
 unfold qB;rw[KK a ha,aA,yB];cases h:j8 a with
 |false=>rfl
 |true=>
  cases a with
  |nil=>simp[j8,U4]at h
  |cons x xs=>
   rw[show lF (x::xs) 0=some x from rfl];simp only[aO,aA,a0n,Ih,eo,ar,a02];simp only[j8,dD,ab,in1,in2,aW,nA,bC]at h;rw[bU];simp only[aW,bC];omega
theorem WJ(a:Bytes)(ha:a.length<=1048576):q8 a=some (yB a):=by
 unfold q8;rw[K7 a ha,aA,yB];cases h:j8 a with
 |false=>rfl
 |true=>
  cases a with
  |nil=>simp[j8,U4]at h
  |cons x xs=>rfl
theorem QJ(a:Bytes)(ha:a.length<=1048576):gT a=some (k6 a):=by
 unfold gT;cases a with
 |nil=>rfl
 |cons x t=>
  simp only[aY]at ha;rw[show lF (x::t) 0=some x from rfl,aA,a0a (by simp),aA];have e:(((x::t).take ((x::t).length)).drop 1)=t:=by simp
  simp only[e,KK t (by omega),aA,k6,gI];cases t with
  |nil=>cases decide ((x.toNat:Int)=63)<;>rfl
  |cons y t=>
   have e2:decide ((((x::y::t).length:Int):Int)>1)=true:=by simp;omega
   rw[e2];cases decide ((x.toNat:Int)=63)<;>simp
theorem Ty(a:Bytes)(ha:a.length<=1048576):kB a=some (k6 a):=by
 unfold kB;cases a with
 |nil=>rfl
 |cons x t=>
  simp only[aY]at ha;rw[show lF (x::t) 0=some x from rfl,aA,a0a (by simp),aA];have e:(((x::t).take ((x::t).length)).drop 1)=t:=by simp
  simp only[e,K7 t (by omega),aA,k6,gI];cases t with
  |nil=>cases decide ((x.toNat:Int)=63)<;>rfl
  |cons y t=>
   have e2:decide ((((x::y::t).length:Int):Int)>1)=true:=by simp;omega
   rw[e2];cases decide ((x.toNat:Int)=63)<;>simp
theorem XQ(a:Bytes)(ha:a.length<=1048576):iC a=some (oW a):=by
 unfold iC oW;rw[KK a ha,QJ a ha];cases j8 a<;>simp
theorem WN(a:Bytes)(ha:a.length<=1048576):iB a=some (oW a):=by
 unfold iB oW;rw[K7 a ha,Ty a ha];cases j8 a<;>simp
theorem XS(l:aH)(h:l.length<=1099511627776):qv l=some l:=by
 unfold qv;rw[QG h (by decide)];rfl
theorem OA(l:aH)(h:l.length<=1099511627776):lP l=some l:=by
 unfold lP;rw[QG h (by decide)];rfl
theorem XP(a b:aH):lX a b=some (decide (a=b)):=by
 unfold lX;exact R2 (c:=tx) (f:=fun x y=>some (x==y)) (fun k=>jE a b k) (fun _ _=>rfl) (fun _ _ _ _=>rfl) (fun x y=>by rw[ar,bU];simp)
theorem WL(a b:aH):o5 a b=some (decide (a=b)):=by
 unfold o5;exact R2 (c:=tx) (f:=fun x y=>some (x==y)) (fun k=>kj a b k) (fun _ _=>rfl) (fun _ _ _ _=>rfl) (fun x y=>by rw[ar,bU];simp)
theorem a1y(a b:bR):rZ a b=some (decide (a=b)):=by
 unfold rZ;exact R2 (c:=gS) (f:=fun x y=>some (x==y)) (fun k=>lQ a b k) (fun _ _=>rfl) (fun _ _ _ _=>rfl) (fun x y=>by rw[ar,bU];simp)
theorem XF(l:aH)(v:Bytes):gJ l v=some (l.contains v):=by
 unfold gJ;have:∀(r:aH) (i:Nat),j3 l v (some false) r i=some (r.contains v):=by
  intro r
  induction r with
  |nil=>intro i;rfl
  |cons x r ih=>
   intro i;rw[j3,ih,List.contains_cons];have:(x==v)=(v==x):=by rw[bU,cO,cO];exact eq_comm
   rw[this];cases v==x<;>rfl
 exact this l 0
theorem Yt(l:aH)(v:Bytes):kF l v=some (l.contains v):=by
 unfold kF;have:∀(r:aH) (i:Nat),kG l v (some false) r i=some (r.contains v):=by
  intro r
  induction r with
  |nil=>intro i;rfl
  |cons x r ih=>
   intro i;rw[kG,ih,List.contains_cons];have:(x==v)=(v==x):=by rw[bU,cO,cO];exact eq_comm
   rw[this];cases v==x<;>rfl
 exact this l 0
theorem a0k(a:aH)(s:Bytes)(k:Bool->aH->Option aH):∀(l:aH) (i:Nat) (w:aH),w.length+l.length<1099511627776->
 e9 a s k l i true w=k true (w++l):=by
 intro l
 induction l with
 |nil=>intro i w _;simp[e9]
 |cons x xs ih=>
  intro i w h;simp only[aY]at h;rw[e9,bP,aZ,l9 (by omega) (by decide),aO,ih _ _ (by simp;omega)];simp
theorem a5E(a:aH)(s:Bytes)(k:Bool->aH->Option aH)(hk:∀w,w.length<1099511627776->k false w=some (w++[s]))(hk2:∀w,k true w=some w):∀(l:aH) (i:Nat) (w:aH),w.length+l.length+1<1099511627776->
 e9 a s k l i false w=some (w++xa l s):=by
 intro l
 induction l with
 |nil=>intro i w h;rw[e9,hk w (by omega)];rfl
 |cons x xs ih=>
  intro i w h;simp only[aY]at h;rw[e9,cF,aO,xa];cases Op.bytesLess x s with
  |true=>
   simp only[bP,aZ,aO];rw[l9 (by omega) (by decide),aO,ih _ _ (by simp;omega)];simp
  |false=>
   simp only[cF,aO,aZ];cases x==s with
   |true=>
    simp only[bP,aZ,aO];rw[l9 (by omega) (by decide),aO,a0k _ _ _ _ _ _ (by simp;omega),hk2];simp
   |false=>
    simp only[cF,aO,aZ];rw[l9 (by omega) (by decide),aO];have e:room (((w.map tx)++[[D.str s]]).length+([[D.str x]]).length) 16=true:=G4 (by simp;omega) (by decide);rw[e,aO,a0k _ _ _ _ _ _ (by simp;omega),hk2];simp
theorem Rn(l:aH)(s:Bytes)(h:l.length+1<1099511627776):kJ l s=some (xa l s):=by
 unfold kJ;rw[a5E l s _ (fun w hw=>by simp only[cF,aO];rw[l9 hw (by decide)];rfl) (fun w=>by simp) l 0 [] (by simpa using h)];rfl
def dd:Option Bytes->aH->aH
 |_,[]=>[]
 |p,x::xs=>if p=some x then dd (some x) xs else x::dd (some x) xs
theorem Qw:∀ {l:aH} {p:Option Bytes} {y:Bytes},y∈dd p l->y∈l
 | [],p,y,h=>by cases h
 |x::xs,p,y,h=>by
  simp only[dd]at h;split at h
  ·exact bI.2 (.inr (Qw h))
  ·rcases bI.1 h with rfl|h
   ·simp
   ·exact bI.2 (.inr (Qw h))
theorem Wh:∀ {l:aH} {p:Option Bytes} {y:Bytes},y∈l->p=some y\/y∈dd p l
 |x::xs,p,y,h=>by
  simp only[dd];rcases bI.1 h with rfl|h
  ·by_cases hp:p=some y
   ·exact .inl hp
   ·rw[b8 hp];exact .inr (by simp)
  ·have:=Wh (p:=some x) h;split
   ·rename_i hp;rcases this with e|e
    ·exact .inl (hp.trans e)
    ·exact .inr e
   ·rcases this with e|e
    ·cases e;exact .inr (by simp)
    ·exact .inr (by simp[e])
theorem Zw:∀ {l:aH} {p:Option Bytes},l.Pairwise (fun a b=>Op.bytesLess b a=false)->(∀q,p=some q->∀y∈l,Op.bytesLess y q=false)->SS (dd p l)/\∀q,p=some q->∀y∈dd p l,Op.bytesLess q y=true
 | [],p,_,_=>⟨by simp[dd,SS],by simp[dd]⟩
 |x::xs,p,h,hp=>by
  obtain⟨p1,p2⟩:=jI.1 h;obtain⟨i1,i2⟩:=Zw (l:=xs) (p:=some x) p2 (fun q hq y hy=>by cases hq;exact p1 y hy);simp only[dd];split
  ·rename_i he;exact⟨i1,fun q hq y hy=>by rw[he]at hq;cases hq;exact i2 x rfl y hy⟩
  ·rename_i he;refine⟨jI.2 ⟨fun y hy=>i2 x rfl y hy,i1⟩,fun q hq y hy=>?_⟩;have hqx:Op.bytesLess q x=true:=by
    cases hc:Op.bytesLess q x with
    |true=>rfl
    |false=>exact absurd (by rw[hq,GF hc (hp q hq x (by simp))]) he
   rcases bI.1 hy with rfl|hy
   ·exact hqx
   ·exact AR hqx (i2 x rfl y hy)
theorem XW(l:aH):n8 l=l.mergeSort (fun x y=> !Op.bytesLess y x):=by
 unfold n8
 congr 1
 funext x y
 rw[Go.Proofs.bytesLess_eq];rw[bU];simp[List.not_lt]
theorem Od(l:aH):(n8 l).Pairwise (fun a b=>Op.bytesLess b a=false):=by
 rw[XW];have:=List.pairwise_mergeSort (le:=fun x y=> !Op.bytesLess y x) (fun a b c h1 h2=>by
  simp only[pH]at h1 h2⊢;cases hc:Op.bytesLess c a with
  |false=>rfl
  |true=>
   cases hb:Op.bytesLess b a with
   |true=>rw[h1]at hb;cases hb
   |false=>
    cases Sl:Op.bytesLess a b with
    |true=>have:=AR hc Sl;rw[h2]at this;cases this
    |false=>have:=GF hb Sl;subst this;rw[h2]at hc;cases hc) (fun a b=>by
  cases hc:Op.bytesLess b a with
  |false=>simp
  |true=>simp[Hi hc]) l
 exact this.imp (fun h=>by simpa using h)
theorem Yb(l:aH):dd none (n8 l)=eg l:=by
 refine JK (Zw (Od l) (by simp)).1 (MD l) (fun x=>?_);rw[tr];have hm:x∈n8 l↔x∈l:=(zK l).mem_iff;constructor
 ·intro h;exact hm.1 (Qw h)
 ·intro h;rcases Wh (p:=none) (hm.2 h)with h|h
  ·cases h
  ·exact h
theorem WM(a:aH)(k:aH->Option aH)(ha:a.length<=1099511627775):∀(rest pre:aH) (w:aH),n8 ([]++a)=pre++rest->w.length+rest.length<=1099511627775->
 dN a k rest pre.length w=k (w++dd pre.getLast? rest):=by
 have hlen:(n8 ([]++a)).length=a.length:=(zK _).length_eq;intro rest
 induction rest with
 |nil=>intro pre w _ _;simp[dN,dd]
 |cons x xs ih=>
  intro pre w h hw;simp only[aY]at hw;have hl:pre.length+(xs.length+1)=a.length:=by rw[<-hlen,h];simp
  have t:=fun w'=>ih (pre++[x]) w' (by rw[h];simp)
  simp only[bB,aY,bX,mH]at t;rw[dN];rcases w5 pre with rfl|⟨p,z,Y6⟩
  ·have e0:(((([]:aH).length:Int):Int)==0)=true:=rfl;rw[e0,aO,l9 (by omega) (by decide),aO,t _ (by simp;omega)];simp[dd]
  ·rw[vz]at Y6;subst Y6;have e0:((((p++[z]).length:Int):Int)==0)=false:=by simp;omega
   have e1:IntKind.i64.wrap (((p++[z]).length:Int)-1)=(p.length:Int):=by
    rw[gV (rQ.i64.2 (by simp at hl⊢;omega))];simp
   have e2:lF (n8 ([]++a)) (p.length:Int)=some z:=wh (xs:=x::xs) (by rw[h];simp);rw[e0,aZ,e1,e2,aA];simp only[dd,mH];by_cases hz:z=x
   ·subst hz;have e3:((z:Bytes)==z)=true:=by simp
    rw[e3,bP,aZ,t _ (by omega),bK rfl]
   ·have e3:((z:Bytes)==x)=false:=by simpa using hz
    rw[e3,cF,aO,l9 (by omega) (by decide),aO,t _ (by simp;omega),b8 (by simpa using hz)];simp
theorem O9(l:aH)(h:l.length<1099511627775):jP l=some (eg l):=by
 have hlen:(n8 ([]++l)).length=l.length:=(zK _).length_eq;unfold jP;have e1:decide ((([]:aH)++l).length<4611686018427387904)=true:=by simp;omega
 rw[QG (by omega) (by decide),aO,e1,aO,uJ (by rw[hlen];omega),aO];have:=WM l (fun q=>some q) (by omega) (n8 ([]++l)) [] [] rfl (by rw[hlen];simp;omega);rw[show([]:aH).length=0 from rfl]at this;rw[this,<-Yb];simp
end Go.Cx
namespace Go.Cx
open Go.RowKit Go.Proofs Tryz
theorem aC.OR{p:aC}{n:Nat}(h:p.wt<=n):p.rel.length<=n:=by unfold aC.wt tw at h;omega
theorem aC.dJ{p:aC}{n:Nat}(h:p.wt<=n):p.args.length<=n:=by unfold aC.wt at h;have:=n9 tw p.args;omega
theorem aC.sX{p:aC}{n:Nat}(h:p.wt<=n){x:Bytes}(hx:x∈p.args):x.length<=n:=by unfold aC.wt at h;have:=nZ (w:=tw) hx;have e:tw x=x.length:=rfl;omega
theorem aL.fB{c:aL}{n:Nat}(h:c.wt<=n):c.pat.wt<=n:=by simp only[aL.wt,aC.wt]at h⊢;omega
theorem aL.zh{c:aL}{n:Nat}(h:c.wt<=n):c.left.length<=n:=by simp only[aL.wt,tw]at h;omega
theorem aL.xM{c:aL}{n:Nat}(h:c.wt<=n):c.right.length<=n:=by simp only[aL.wt,tw]at h;omega
theorem Action.fB{c:Action}{n:Nat}(h:c.wt<=n):c.pat.wt<=n:=by simp only[Action.wt,aC.wt]at h⊢;omega
theorem aK.Sy{r:aK}{n:Nat}(h:r.wt<=n):r.name.length<=n:=by simp only[aK.wt,tw]at h;omega
theorem aK.rS{r:aK}{n:Nat}(h:r.wt<=n):oZ aL.wt r.conds<=n:=by simp only[aK.wt]at h;omega
theorem aK.Hg{r:aK}{n:Nat}(h:r.wt<=n):oZ Action.wt r.cU<=n:=by simp only[aK.wt]at h;omega
theorem aK.qN{r:aK}{n:Nat}(h:r.wt<=n){c:aL}(hc:c∈r.conds):c.wt<=n:=by have:=aK.rS h;have:=nZ (w:=aL.wt) hc;omega
theorem aK.Nl{r:aK}{n:Nat}(h:r.wt<=n){c:Action}(hc:c∈r.cU):c.wt<=n:=by have:=aK.Hg h;have:=nZ (w:=Action.wt) hc;omega
theorem Js(f:aC)(h:f.args.length<=1099511627776):eS f=some f:=by
 unfold eS;rw[XS _ h];rfl
theorem Jn(f:aC)(h:f.args.length<=1099511627776):dQ f=some f:=by
 unfold dQ;rw[OA _ h];rfl
theorem XO(a b:aC):qE a b=some (decide (a=b)):=by
 obtain⟨a0,a1⟩:=a;obtain⟨b0,b1⟩:=b;unfold qE;simp only[XP,aA,gI];by_cases h0:a0=b0<;>by_cases h1:a1=b1<;>simp[h0,h1]
theorem WK(a b:aC):nD a b=some (decide (a=b)):=by
 obtain⟨a0,a1⟩:=a;obtain⟨b0,b1⟩:=b;unfold nD;simp only[WL,aA,gI];by_cases h0:a0=b0<;>by_cases h1:a1=b1<;>simp[h0,h1]
theorem Ro(a b:aC):gy a b=some (decide (a=b)):=by
 obtain⟨a0,a1⟩:=a;obtain⟨b0,b1⟩:=b;unfold gy;simp only[XP,aA,gI];by_cases h0:a0=b0<;>by_cases h1:a1=b1<;>simp[h0,h1]
theorem Lf(a b:aC):ey a b=some (decide (a=b)):=by
 obtain⟨a0,a1⟩:=a;obtain⟨b0,b1⟩:=b;unfold ey;simp only[WL,aA,gI];by_cases h0:a0=b0<;>by_cases h1:a1=b1<;>simp[h0,h1]
theorem OZ(a b:aJ):lW a b=some (decide (a=b)):=by
 unfold lW;exact R2 (c:=aC.c) (f:=qE) (fun k=>kw a b k) (fun _ _=>rfl) (fun _ _ _ _=>rfl) XO
theorem Kp(a b:aJ):iK a b=some (decide (a=b)):=by
 unfold iK;exact R2 (c:=aC.c) (f:=nD) (fun k=>kX a b k) (fun _ _=>rfl) (fun _ _ _ _=>rfl) WK
def vu(p:aC):Bool:=p.args.all oW&&(yB p.rel&&decide ((p.args.length:Int)<=3))
def rA(f:aC):Bool:=f.args.all j8&&(yB f.rel&&decide ((f.args.length:Int)<=3))
theorem XE(f:aC)(h:f.wt<=1048576):nh f=some (rA f):=by
 unfold nh;rw[Tc (f:=fA) (L:=oD f _) (fun _=>rfl) (fun _ _ _=>rfl) f.args 0 (fun x hx=>KK x (aC.sX h hx)),XG _ (aC.OR h),aA,ax,rA];cases f.args.all j8<;>cases yB f.rel<;>rfl
theorem WI(f:aC)(h:f.wt<=1048576):ng f=some (rA f):=by
 unfold ng;rw[Tc (f:=ew) (L:=nw f _) (fun _=>rfl) (fun _ _ _=>rfl) f.args 0 (fun x hx=>K7 x (aC.sX h hx)),WJ _ (aC.OR h),aA,ax,rA];have c:decide ((f.args.length:Int)<=3)= !decide ((f.args.length:Int)>3):=by rw[bU];simp
 rw[c];cases f.args.all j8<;>cases yB f.rel<;>cases decide ((f.args.length:Int)>3)<;>rfl
theorem a2d(f:aC)(h:f.wt<=1048576):iO f=some (vu f):=by
 unfold iO;rw[Tc (f:=iC) (L:=kr f _) (fun _=>rfl) (fun _ _ _=>rfl) f.args 0 (fun x hx=>XQ x (aC.sX h hx)),XG _ (aC.OR h),aA,ax,vu];cases f.args.all oW<;>cases yB f.rel<;>rfl
theorem a1v(f:aC)(h:f.wt<=1048576):iH f=some (vu f):=by
 unfold iH;rw[Tc (f:=iB) (L:=kW f _) (fun _=>rfl) (fun _ _ _=>rfl) f.args 0 (fun x hx=>WN x (aC.sX h hx)),WJ _ (aC.OR h),aA,ax,vu];have c:decide ((f.args.length:Int)<=3)= !decide ((f.args.length:Int)>3):=by rw[bU];simp
 rw[c];cases f.args.all oW<;>cases yB f.rel<;>cases decide ((f.args.length:Int)>3)<;>rfl
def iX(l:aH):aH:=l.filter k6
theorem vS(l:aH):(iX l).length<=l.length:=sW _ _
theorem NW(a b:aH):iX (a++b)=iX a++iX b:=List.filter_append _ _
theorem J3(p:aC)(h:p.wt<=1048576):mG p=some (eg (iX p.args)):=by
 unfold mG;have:∀(r:aH) (i:Nat) (w:aH),(∀x∈r,x.length<=1048576)->w.length+r.length<=2097152->ju p (fun q=>some q) r i w=some ((iX r).foldl xa w):=by
  intro r
  induction r with
  |nil=>intro i w _ _;rfl
  |cons x r ih=>
   intro i w hr hw;simp only[aY]at hw;have hl:=zE w x;rw[ju,QJ x (hr x (by simp)),aA,Rn w x (by omega),aA,ih _ _ (fun y hy=>hr y (by simp[hy])) (by omega),ih _ _ (fun y hy=>hr y (by simp[hy])) (by omega)];cases hv:k6 x<;>simp[iX,hv]
 exact this p.args 0 [] (fun x hx=>aC.sX h hx) (by have:=aC.dJ h;simp;omega)
theorem WQ(l:aH)(hl:l.length<=2097152)(h:∀x∈l,x.length<=1048576):lR l=some (iX l):=by
 unfold lR;have:∀(r:aH) (i:Nat) (w:aH),(∀x∈r,x.length<=1048576)->w.length+r.length<=2097152->fK l (fun q=>some q) r i w=some (w++iX r):=by
  intro r
  induction r with
  |nil=>intro i w _ _;simp[fK,iX]
  |cons x r ih=>
   intro i w hr hw;simp only[aY]at hw;rw[fK,Ty x (hr x (by simp)),aA,l9 (by omega) (by decide),ih _ _ (fun y hy=>hr y (by simp[hy])) (by simp;omega),ih _ _ (fun y hy=>hr y (by simp[hy])) (by omega)];cases hv:k6 x<;>simp[iX,hv]
 exact this l 0 [] h (by simpa using hl)
def pK(c:aL):aH:=iX (c.pat.args++[c.left,c.right])
theorem wU{c:aL}{n:Nat}(h:c.wt<=n):(pK c).length<=n+2:=by
 have h1:=vS (c.pat.args++[c.left,c.right]);have h2:=aC.dJ (aL.fB h);simp only[bB,aY,bX]at h1;unfold pK;omega
theorem Rl(c:aL)(h:c.wt<=1048576):l7 c=some (eg (pK c)):=by
 unfold l7;have h1:=aC.dJ (aL.fB h);have h2:=pG (iX c.pat.args);have h3:=vS c.pat.args;have h4:=zE (eg (iX c.pat.args)) c.left;rw[J3 _ (aL.fB h),aA,QJ _ (aL.zh h),aA,QJ _ (aL.xM h)];simp only[aA];rw[Rn _ _ (by omega),Rn _ _ (by omega),aA,Rn _ _ (by omega)];simp only[aA,pK,NW,S5];cases hl:k6 c.left<;>cases hr:k6 c.right<;>simp[iX,hl,hr]
theorem WO(c:aL)(h:c.wt<=1048576):qj c=some (c.pat.args++[c.left,c.right]):=by
 unfold qj;have h1:=aC.dJ (aL.fB h);rw[OA _ (by omega),aA];rw[G4 (by simp;omega) (by decide)];rfl
theorem RQ(c:aL)(h:c.wt<=1048576):nC c=some (eg (pK c)):=by
 unfold nC;have h1:=aC.dJ (aL.fB h);have h5:=wU h;rw[WO c h,aA,WQ _ (by simp;omega) (fun x hx=>by
  simp only[af,bI,wR,or_false]at hx;rcases hx with hx|rfl|rfl
  ·exact aC.sX (aL.fB h) hx
  ·exact aL.zh h
  ·exact aL.xM h),aA]
 rw[show iX (c.pat.args++[c.left,c.right])=pK c from rfl,O9 _ (by omega)];rfl
def EQ(p:aC):Bool:=p.rel==[]&&decide ((p.args.length:Int)=0)
def qV(c:aL):Bool:=bif decide (c.kind=1)||decide (c.kind=2)then vu c.pat&&(c.left==[]&&c.right==[])else bif decide (c.kind=3)||decide (c.kind=4)||decide (c.kind=5)then EQ c.pat&&(oW c.left&&oW c.right)else false
def J6(c:aL):Bool:=qV c&&decide (c.kind>=3)
theorem GH{c:aL}(h:qV c=true):1<=c.kind/\c.kind<=5:=by
 unfold qV at h;by_cases h1:c.kind=1
 ·omega
 by_cases h2:c.kind=2
 ·omega
 by_cases h3:c.kind=3
 ·omega
 by_cases h4:c.kind=4
 ·omega
 by_cases h5:c.kind=5
 ·omega
 simp[h1,h2,h3,h4,h5]at h
theorem XA(c:aL)(h:c.wt<=1048576):qA c=some (qV c):=by
 unfold qA qV EQ;simp only[a2d _ (aL.fB h),XQ _ (aL.zh h),XQ _ (aL.xM h),aA,ax,gI];by_cases h1:c.kind=1
 ·simp only[h1];cases vu c.pat<;>cases decide (c.left=[])<;>simp
 by_cases h2:c.kind=2
 ·simp only[h2];cases vu c.pat<;>cases decide (c.left=[])<;>simp
 by_cases h3:c.kind=3
 ·simp only[h3];cases decide (c.pat.rel=[])<;>cases decide ((c.pat.args.length:Int)=0)<;>cases oW c.left<;>simp
 by_cases h4:c.kind=4
 ·simp only[h4];cases decide (c.pat.rel=[])<;>cases decide ((c.pat.args.length:Int)=0)<;>cases oW c.left<;>simp
 by_cases h5:c.kind=5
 ·simp only[h5];cases decide (c.pat.rel=[])<;>cases decide ((c.pat.args.length:Int)=0)<;>cases oW c.left<;>simp
 simp[h1,h2,h3,h4,h5]
theorem a0C(p:aC):gq p=some (EQ p):=by
 unfold gq EQ;simp only[ax,gI];cases decide (p.rel=[])<;>rfl
theorem WE(c:aL)(h:c.wt<=1048576):pz c=some (qV c):=by
 unfold pz qV;simp only[a1v _ (aL.fB h),WN _ (aL.zh h),WN _ (aL.xM h),a0C,aA,gI];by_cases h1:c.kind=1
 ·simp only[h1];cases vu c.pat<;>cases decide (c.left=[])<;>simp
 by_cases h2:c.kind=2
 ·simp only[h2];cases vu c.pat<;>cases decide (c.left=[])<;>simp
 by_cases h3:c.kind=3
 ·simp only[h3];cases EQ c.pat<;>cases oW c.left<;>cases oW c.right<;>simp
 by_cases h4:c.kind=4
 ·simp only[h4];cases EQ c.pat<;>cases oW c.left<;>cases oW c.right<;>simp
 by_cases h5:c.kind=5
 ·simp only[h5];cases EQ c.pat<;>cases oW c.left<;>cases oW c.right<;>simp
 simp[h1,h2,h3,h4,h5]
theorem XR(c:aL)(h:c.wt<=1048576):qC c=some (J6 c):=by
 unfold qC J6;rw[XA c h];cases qV c<;>rfl
theorem a4W(c:aL)(h:c.wt<=1048576):ud c=some (J6 c):=by
 unfold ud J6;rw[WE c h];cases qV c<;>rfl
theorem XN(a b:aL):nG a b=some (decide (a=b)):=by
 obtain⟨a0,a1,a2,a3⟩:=a;obtain⟨b0,b1,b2,b3⟩:=b;unfold nG;simp only[Ro,aA,gI];by_cases h0:a0=b0<;>by_cases h1:a1=b1<;>by_cases h2:a2=b2<;>by_cases h3:a3=b3<;>simp[h0,h1,h2,h3]
theorem O8(a b:aL):jG a b=some (decide (a=b)):=by
 obtain⟨a0,a1,a2,a3⟩:=a;obtain⟨b0,b1,b2,b3⟩:=b;unfold jG;simp only[Lf,aA,gI];by_cases h0:a0=b0<;>by_cases h1:a1=b1<;>by_cases h2:a2=b2<;>by_cases h3:a3=b3<;>simp[h0,h1,h2,h3]
def L5(a:Action):Bool:=bif decide (a.kind=1)||decide (a.kind=2)then vu a.pat else bif decide (a.kind=3)then EQ a.pat else false
theorem a7u(a:Action)(h:a.wt<=1048576):rz a=some (L5 a):=by
 unfold rz L5 EQ;simp only[a2d _ (Action.fB h),aA,ax,gI];by_cases h1:a.kind=1
 ·simp[h1]
 by_cases h2:a.kind=2
 ·simp[h2]
 by_cases h3:a.kind=3
 ·simp only[h3];cases decide (a.pat.rel=[])<;>simp
 simp[h1,h2,h3]
theorem a7b(a:Action)(h:a.wt<=1048576):rW a=some (L5 a):=by
 unfold rW L5;simp only[a1v _ (Action.fB h),a0C,aA,gI];by_cases h1:a.kind=1
 ·simp[h1]
 by_cases h2:a.kind=2
 ·simp[h2]
 by_cases h3:a.kind=3
 ·simp[h3]
 simp[h1,h2,h3]
end Go.Cx
namespace Go.Cx
open Go.RowKit Go.Proofs Tryz
theorem ZF:∀(k v:Nat),v<10^k->1<=k->Lib.nDigits v<=k:=by
 intro k
 induction k with
 |zero=>intro v _ h;omega
 |succ k ih=>
  intro v hv _;by_cases h10:v<10
  ·rw[Lib.nDigits_small h10];omega
  ·rw[Lib.nDigits_big h10];have h3:v/10<10^k:=by rw[vY]at hv;omega
   have hk1:1<=k:=by
    cases k with
    |zero=>simp at hv;omega
    |succ k=>omega
   have:=ih (v/10) h3 hk1;omega
theorem RZ{u:Nat}(h:u<=9223372036854775808):Lib.nDigits u<=19:=ZF 19 u (by omega) (by omega)
theorem a6K(u:Nat):UInt8.ofNat (IntKind.u8.wrap (IntKind.i64.wrap (48+((u:Int)%10)))).toNat=UInt8.ofNat (48+u%10):=by
 rw[gV (k:=.i64) (rQ.i64.2 (by omega)),gV (rQ.u8.2 (by omega))]
 congr 1
theorem a0h(k:Option Bytes):∀(n u:Nat) (acc:Bytes),Lib.nDigits u<=n->acc.length+Lib.nDigits u<=1000->gQ k n (u:Int) acc=some (Lib.decDigits u++acc):=by
 intro n
 induction n with
 |zero=>intro u acc h _;have:=Lib.nDigits_pos u;omega
 |succ n ih=>
  intro u acc hn hl;have hp:=Lib.nDigits_pos u;have e0:(decide (0<=(u:Int))&&decide (0<(10:Int)))=true:=by simp
  have e1:decide (([UInt8.ofNat (48+u%10)]:Bytes).length+(acc:Bytes).length<=maxLen)=true:=by unfold maxLen;simp;omega
  rw[gQ];simp only[a6K,e0,e1,aO];by_cases h10:u<10
  ·have e2:(((u:Int)/10:Int)==0)=true:=by rw[cO];omega
   rw[e2,aO,Lib.decDigits,dif_pos h10,Nat.mod_eq_of_lt h10]
  ·have e2:(((u:Int)/10:Int)==0)=false:=by rw[cZ];omega
   have e3:((u:Int)/10)=((u/10:Nat):Int):=by omega
   have hd:=Lib.nDigits_big h10;rw[e2,aZ,e3,ih (u/10) _ (by omega) (by simp;omega)]
   conv=>rhs;rw[Lib.decDigits,dif_neg h10]
   simp
theorem a55(m u:Nat)(h:u<=9223372036854775807):gC (m+1) (u:Int)=some (Lib.decDigits u):=by
 rw[gC];have e1:((u:Int)==(-9223372036854775808))=false:=by rw[cZ];omega
 have e2:decide ((u:Int)<0)=false:=by simp
 have:=RZ (u:=u) (by omega);rw[e1,aZ,e2,aZ,a0h _ _ _ _ (by unfold fuel;omega) (by simp;omega)];simp
theorem WT:Lib.itoa (-9223372036854775808)=[45,57,50,50,51,51,55,50,48,51,54,56,53,52,55,55,53,56,48,56]:=by
 unfold Lib.itoa;simp[Lib.decDigits]
theorem a54(n:Int)(h:rQ .i64 n):oC n=some (Lib.itoa n):=by
 have h:=rQ.i64.1 h;unfold oC;rw[show fuel=4194303+1 from rfl,gC];by_cases hm:n= -9223372036854775808
 ·subst hm;rw[WT];rfl
 have e1:((n:Int)==(-9223372036854775808))=false:=by rw[cZ];exact hm
 rw[e1,aZ];by_cases hn:n<0
 ·have e2:decide (n<0)=true:=by simpa using hn
  have e3:IntKind.i64.wrap (0-n)=((n.natAbs:Nat):Int):=by rw[gV (rQ.i64.2 (by omega))];omega
  have hd:=RZ (u:=n.natAbs) (by omega);rw[e2,aO,e3,show(4194303:Nat)=4194302+1 from rfl,a55 _ _ (by omega),aA];have e4:decide (([45]:Bytes).length+(Lib.decDigits n.natAbs:Bytes).length<=maxLen)=true:=by unfold maxLen;rw[Lib.decDigits_length];simp;omega
  rw[e4,aO];unfold Lib.itoa;rw[bK hn];rfl
 ·have e2:decide (n<0)=false:=by simpa using hn
  have e3:n=((n.toNat:Nat):Int):=by omega
  have:=RZ (u:=n.toNat) (by omega);rw[e2,aZ]
  conv=>lhs;rw[e3]
  rw[a0h _ _ _ _ (by unfold fuel;omega) (by simp;omega)];unfold Lib.itoa;rw[b8 hn];simp
theorem a1r(n:Int):ji n=some (Lib.itoa n):=by
 unfold ji zC;rfl
theorem Lh(n:Int)(h:rQ .i64 n):(Lib.itoa n).length<=21:=by
 have:=rQ.i64.1 h;exact Lib.itoa_length_le n this.1 this.2
def C7(to:aR)(s:Bytes):Bytes:=match to with
 | []=>s
 |p::r=>bif p.var==s then p.value else C7 r s
def MA(to:aR)(x:aL):aL:=⟨x.kind,⟨x.pat.rel,x.pat.args.map (C7 to)⟩,C7 to x.left,C7 to x.right⟩
theorem sRn(to:aR)(s:Bytes):jw s to=some (C7 to s):=by
 unfold jw;have:∀(r:aR) (i:Nat),j5 s to (some s) r i=some (C7 r s):=by
  intro r
  induction r with
  |nil=>intro i;rfl
  |cons x r ih=>
   intro i;rw[j5,ih,C7];cases x.var==s<;>rfl
 exact this to 0
theorem iRn(to:aR)(s:Bytes):gl s to=some (C7 to s):=by
 unfold gl;have:∀(r:aR) (i:Nat),gP s to (some s) r i=some (C7 r s):=by
  intro r
  induction r with
  |nil=>intro i;rfl
  |cons x r ih=>
   intro i;rw[gP,ih,C7];cases x.var==s<;>rfl
 exact this to 0
theorem a2g(x:aL)(to:aR)(h:x.pat.args.length<=1099511627770):jA x to=some (MA to x):=by
 unfold jA;rw[sRn,aA,sRn,aA];rw[Cl (c:=tx) (b:=16) (f:=fun a=>jw a to) (g:=C7 to) (L:=jt x to (C7 to x.left) (C7 to x.right) _) (k:=_) (by decide) (fun _ _=>rfl) (fun _ _ _ _=>rfl) _ _ _ (fun a _=>sRn to a) (by simp;omega)];rfl
theorem a4S(x:aL)(to:aR)(h:x.pat.args.length<=1099511627770):kC x to=some (MA to x):=by
 unfold kC;rw[iRn,aA,iRn,aA];rw[Cl (c:=tx) (b:=16) (f:=fun a=>gl a to) (g:=C7 to) (L:=jm x to (C7 to x.left) (C7 to x.right) _) (k:=_) (by decide) (fun _ _=>rfl) (fun _ _ _ _=>rfl) _ _ _ (fun a _=>iRn to a) (by simp;omega)];rfl
def E4(l:aR)(t:Bytes):Bool:=l.any fun p=>p.var==t
def iW(l:aR)(t:Bytes):aR:=bif k6 t&& !E4 l t then l++[⟨t,[63]++Lib.itoa ((l.length:Int)+1)⟩]else l
theorem B0(l:aR)(t:Bytes):(iW l t).length<=l.length+1:=by
 unfold iW;cases k6 t&& !E4 l t<;>simp
theorem xY:∀(ts:aH) (l:aR),(ts.foldl iW l).length<=l.length+ts.length
 | [],l=>by simp
 |t::ts,l=>by
  have h1:=xY ts (iW l t);have h2:=B0 l t;rw[cj,aY];omega
theorem OX(l:aR)(t:Bytes)(hl:l.length<=1099511627770)(ht:t.length<=1048576):nj l t=some (iW l t):=by
 unfold nj;rw[QJ t ht,aA,iW];cases hv:k6 t with
 |false=>rfl
 |true=>
  rw[bP,aZ,eo];have key:∀(k:Option aR) (r:aR) (i:Nat),lz l t k r i=bif E4 r t then some l else k:=by
   intro k r
   induction r with
   |nil=>intro i;rfl
   |cons x r ih=>
    intro i;rw[lz,ih];simp only[E4,sG];cases x.var==t<;>simp
  rw[key];cases E4 l t with
  |true=>rfl
  |false=>
   have e1:IntKind.i64.wrap (((l.map aS.c).length:Int)+1)=(l.length:Int)+1:=by rw[gV (rQ.i64.2 (by simp;omega))];simp
   have hr:rQ .i64 ((l.length:Int)+1):=rQ.i64.2 (by omega);have hi:=Lh _ hr;have e2:decide (([63]:Bytes).length+(Lib.itoa ((l.length:Int)+1):Bytes).length<=maxLen)=true:=by unfold maxLen;simp;omega
   simp only[aZ,cF,aO];rw[e1,a54 _ hr,aA,e2,aO,l9 (by omega) (by decide)];rfl
theorem Pz(x y:Bytes):∀(m:List (Bytes×Bool)),Im false y (Ls x true m)=(y==x||Im false y m)
 | []=>by simp only[Ls,Im];cases y==x<;>rfl
 |p::m=>by
  simp only[Ls];cases h:x==p.1 with
  |true=>
   have h':x=p.1:=by simpa using h
   subst h';simp only[aO,Im];cases y==p.1<;>simp
  |false=>
   simp only[aZ,Im,Pz x y m];cases hy:y==p.1 with
   |true=>
    have h1:y=p.1:=by simpa using hy
    have h2:(y==x)=false:=by
     rw[cZ]at h⊢;intro e;exact h (e.symm.trans h1)
    simp[h2]
   |false=>simp
theorem Tu(l:aR)(x y v:Bytes):E4 (l++[⟨x,v⟩]) y=(y==x||E4 l y):=by
 have:(x==y)=(y==x):=by rw[bU,cO,cO];exact eq_comm
 simp only[E4,List.any_append,sG,HZ,sF,this];cases y==x<;>simp
theorem Ss(ts:aH)(hl:ts.length<=1099511627700)(h:∀x∈ts,x.length<=1048576):mZ ts=some (ts.foldl iW []):=by
 unfold mZ;have key:∀(r:aH) (i:Nat) (w:aR) (m:List (Bytes×Bool)),(∀x∈r,x.length<=1048576)->w.length+r.length<=1099511627700->(∀y,Im false y m=E4 w y)->
  eb ts (fun q=>some q) r i w m=some (r.foldl iW w):=by
  intro r
  induction r with
  |nil=>intro i w m _ _ _;rfl
  |cons x r ih=>
   intro i w m hx hw hm;simp only[aY]at hw;have hr:rQ .i64 ((w.length:Int)+1):=rQ.i64.2 (by omega);have hi:=Lh _ hr;have e1:IntKind.i64.wrap (((w.map aS.c).length:Int)+1)=(w.length:Int)+1:=by rw[gV (rQ.i64.2 (by simp;omega))];simp
   have e2:decide (([63]:Bytes).length+(Lib.itoa ((w.length:Int)+1):Bytes).length<=maxLen)=true:=by unfold maxLen;simp;omega
   rw[eb,Ty x (hx x (by simp)),aA,cj,iW,hm x];cases hv:k6 x with
   |false=>simp only[aZ,Bool.false_and];exact ih _ _ _ (fun y hy=>hx y (by simp[hy])) (by omega) hm
   |true=>
    cases hh:E4 w x with
    |true=>simp only[aO,bP,aZ,eo];exact ih _ _ _ (fun y hy=>hx y (by simp[hy])) (by omega) hm
    |false=>
     simp only[aO,cF,eo];rw[e1,a1r,aA,e2,aO,l9 (by omega) (by decide),aO];exact ih _ _ _ (fun y hy=>hx y (by simp[hy])) (by simp;omega) (fun y=>by rw[Pz,Tu,hm])
 exact key ts 0 [] [] h (by simpa using hl) (fun y=>rfl)
def sx(p:aC):aC:=(MA (p.args.foldl iW []) ⟨0,p,[],[]⟩).pat
theorem a2j(p:aC)(h:p.wt<=1048576):qu p=some (sx p):=by
 have hl:=aC.dJ h;unfold qu;have key:∀(k:aR->Option aC) (r:aH) (i:Nat) (w:aR),(∀x∈r,x.length<=1048576)->w.length+r.length<=1099511627700->kI p k r i w=k (r.foldl iW w):=by
  intro k r
  induction r with
  |nil=>intro i w _ _;rfl
  |cons x r ih=>
   intro i w hx hw;simp only[aY]at hw;have:=B0 w x;rw[kI,OX w x (by omega) (hx x (by simp)),aA,ih _ _ (fun y hy=>hx y (by simp[hy])) (by omega)];rfl
 rw[key _ _ _ _ (fun x hx=>aC.sX h hx) (by simp;omega),a2g _ _ (by simp;omega)];rfl
theorem a22(p:aC)(h:p.wt<=1048576):qZ p=some (sx p):=by
 have hl:=aC.dJ h;unfold qZ;rw[Ss _ (by omega) (fun x hx=>aC.sX h hx),aA,a4S _ _ (by simp;omega)];rfl
def xb(l:ai):aH:=l.flatMap fun c=>c.pat.args++[c.left,c.right]
theorem Rx(l:ai):(xb l).length<=3*oZ aL.wt l:=by
 unfold xb
 induction l with
 |nil=>simp
 |cons x l ih=>
  rw[cr,bB,pg];have:=aC.dJ (aL.fB (c:=x) (bN _));simp only[bB,aY,bX];omega
def oT(r:aK):aR:=(xb r.conds).foldl iW []
def gG(r:aK):ai:=r.conds.map (MA (oT r))
theorem XH(a:aK)(i:Nat)(c:aL)(k:aR->Option aR):∀(r:aH) (j:Nat) (w:aR),(∀x∈r,x.length<=1048576)->w.length+r.length<=1099511627700->gw a i c k r j w=k (r.foldl iW w):=by
 intro r
 induction r with
 |nil=>intro i w _ _;rfl
 |cons x r ih=>
  intro i w hx hw;simp only[aY]at hw;have:=B0 w x;rw[gw,OX w x (by omega) (hx x (by simp)),aA,ih _ _ (fun y hy=>hx y (by simp[hy])) (by omega)];rfl
theorem a2b(r:aK)(h:r.wt<=1048576):pT r=some (oT r):=by
 unfold pT;have key:∀(l:ai) (i:Nat) (w:aR),(∀c∈l,c.wt<=1048576)->w.length+3*oZ aL.wt l<=1099511627700->gu r (fun q=>some q) l i w=some ((xb l).foldl iW w):=by
  intro l
  induction l with
  |nil=>intro i w _ _;rfl
  |cons c l ih=>
   intro i w hc hw;rw[pg]at hw;have RA:=hc c (by simp);have ha:=aC.dJ (aL.fB (c:=c) (bN _));have h1:=xY c.pat.args w;have h2:=B0 (c.pat.args.foldl iW w) c.left;have h3:=B0 (iW (c.pat.args.foldl iW w) c.left) c.right;rw[gu,uJ (by omega),aO,XH _ _ _ _ _ _ _ (fun x hx=>aC.sX (aL.fB RA) hx) (by omega),OX _ _ (by omega) (aL.zh RA),aA,OX _ _ (by omega) (aL.xM RA),aA,
    ih _ _ (fun y hy=>hc y (by simp[hy])) (by omega)]
   simp[xb]
 have:=aK.rS h;exact key r.conds 0 [] (fun c hc=>aK.qN h hc) (by simp;omega)
theorem a1u(r:aK)(h:r.wt<=1048576):pO r=some (oT r):=by
 unfold pO;have hw:=aK.rS h;have key:∀(k:aH->Option aR) (l:ai) (i:Nat) (w:aH),(∀c∈l,c.wt<=1048576)->w.length+3*oZ aL.wt l<=1099511627700->fe r k l i w=k (w++xb l):=by
  intro k l
  induction l with
  |nil=>intro i w _ _;simp[fe,xb]
  |cons c l ih=>
   intro i w hc hw;rw[pg]at hw;have RA:=hc c (by simp);have ha:=aC.dJ (aL.fB (c:=c) (bN _));rw[fe,WO c RA,aA,X4 (by simp;omega) (by decide),aO,ih _ _ (fun y hy=>hc y (by simp[hy])) (by simp;omega)];simp[xb]
 have hl:=Rx r.conds;rw[key _ _ _ _ (fun c hc=>aK.qN h hc) (by simp;omega),cT,Ss _ (by omega) ?_]
 ·rfl
 ·intro x hx;unfold xb at hx;obtain⟨c,hc,hx⟩:=bq.1 hx;have RA:=aK.qN h hc;rcases af.1 hx with hx|hx
  ·exact aC.sX (aL.fB RA) hx
  ·simp only[bI,wR,or_false]at hx;rcases hx with rfl|rfl
   ·exact aL.zh RA
   ·exact aL.xM RA
theorem a2U(r:aK)(h:r.wt<=1048576):pS r=some (gG r):=by
 unfold pS;have hw:=aK.rS h;have hl:=n9 aL.wt r.conds;rw[a2b r h,aA];rw[Cl (c:=aL.c) (b:=80) (f:=fun a=>jA a (oT r)) (g:=MA (oT r)) (L:=js r (oT r) _) (k:=_) (by decide) (fun _ _=>rfl) (fun _ _ _ _=>rfl) _ _ _ (fun c hc=>a2g c _ (by have:=aC.dJ (aL.fB (aK.qN h hc));omega)) (by simp;omega)];simp[gG]
theorem a1m(r:aK)(h:r.wt<=1048576):pN r=some (gG r):=by
 unfold pN;have hw:=aK.rS h;have hl:=n9 aL.wt r.conds;rw[a1u r h,aA];rw[Cl (c:=aL.c) (b:=80) (f:=fun a=>kC a (oT r)) (g:=MA (oT r)) (L:=jl r (oT r) _) (k:=_) (by decide) (fun _ _=>rfl) (fun _ _ _ _=>rfl) _ _ _ (fun c hc=>a4S c _ (by have:=aC.dJ (aL.fB (aK.qN h hc));omega)) (by simp;omega)];simp[gG]
end Go.Cx
namespace Go.Cx
open Go.RowKit Go.Proofs Tryz
def NOk(n:aG):Prop:=n.nodes.length<=1048576/\∀x∈n.nodes,x.cond.wt<=1048576
theorem ZM(s:Bytes):C7 [] s=s:=rfl
theorem Wz(x:aL):MA [] x=x:=by
 have:x.pat.args.map (C7 [])=x.pat.args:=by
  rw[show(C7 [])=id from funext ZM];simp
 unfold MA;rw[this];rfl
def cV(i:Nat):Int:=(i:Int)
def Me(ns:b9):Nat->Nat->aX
 |0,_=>[]
 |k+1,v=>v::(match ns[v]? with
  |some x=>if 1<=x.parent/\x.parent<(v:Int)then Me ns k x.parent.toNat else []
  |none=>[])
def zq(ns:b9)(i:Nat):Option aL:=(ns[i]?).map Node.cond
def G1(ns:b9)(k v:Nat):ai:=(Me ns k v).reverse.filterMap (zq ns)
def eL(ns:b9)(v:Int):ai:=if 1<=v/\v<(ns.length:Int)then G1 ns v.toNat v.toNat else []
theorem QX{ns:b9}{k v:Nat}{x:Node}(hx:ns[v]?=some x):Me ns (k+1) v=v::(if 1<=x.parent/\x.parent<(v:Int)then Me ns k x.parent.toNat else []):=by simp only[Me,hx]
theorem Xl(ns:b9):∀(k v:Nat),v<ns.length->∀i∈Me ns k v,i<ns.length
 |0,v,_,i,hi=>by cases hi
 |k+1,v,hv,i,hi=>by
  rw[Me]at hi;rcases bI.1 hi with rfl|hi
  ·exact hv
  ·split at hi
   ·split at hi
    ·rename_i x hx hp;exact Xl ns k _ (by omega) i hi
    ·cases hi
   ·cases hi
theorem TJ(ns:b9):∀(k v:Nat),(Me ns k v).length<=k
 |0,v=>by simp[Me]
 |k+1,v=>by
  rw[Me,aY];split
  ·split
   ·have:=TJ ns k (by assumption:Node).parent.toNat;omega
   ·simp
  ·simp
theorem M7{ns:b9}{k v:Nat}{x:Node}(hx:ns[v]?=some x):G1 ns (k+1) v=(if 1<=x.parent/\x.parent<(v:Int)then G1 ns k x.parent.toNat else [])++[x.cond]:=by
 have hc:zq ns v=some x.cond:=by unfold zq;rw[hx];rfl
 unfold G1;rw[QX hx];by_cases hp:1<=x.parent/\x.parent<(v:Int)
 ·rw[bK hp,bK hp];simp[hc]
 ·rw[b8 hp,b8 hp];simp[hc]
theorem OU(x:aL)(h:x.pat.args.length<=1099511627770):jF x=some x:=by
 unfold jF;rw[a2g x [] h,aA,Wz]
theorem O5(x:aL)(h:x.pat.args.length<=1099511627770):eY x=some x:=by
 unfold eY dR;rw[OA x.pat.args (by omega)];rfl
theorem a2e(n:aG)(h:NOk n)(K:ai->Option ai):∀(k v fu:Nat) (w:ai),v<=k->1<=v->v<n.nodes.length->k<fu->w.length+k<=4194304->iQ n K fu (v:Int) w=K (G1 n.nodes k v++w):=by
 have hl:=h.1;intro k
 induction k with
 |zero=>intro v fu w h1 h2;omega
 |succ k ih=>
  intro v fu w h1 h2 h3 h4 h5;obtain⟨fu,rfl⟩:∃m,fu=m+1:=⟨fu-1,by omega⟩
  have hx:n.nodes[v]?=some n.nodes[v]:=aa h3;have hw:=h.2 _ (AJ h3);generalize hxe:n.nodes[v]=x at*;have e1:IntKind.i64.wrap (((n.nodes.map Node.c).length:Int)-1)=(n.nodes.length:Int)-1:=by rw[ax];exact gV (rQ.i64.2 (by omega))
  have e2:(decide ((v:Int)>=1)&&decide ((v:Int)<=(n.nodes.length:Int)-1))=true:=by simp;omega
  have e3:lF n.nodes (v:Int)=some x:=by unfold lF;rw[bM (by omega),aO];exact hx
  have e4:=OU x.cond (by have:=aC.dJ (aL.fB hw);omega);rw[iQ,e1,Ih,aA,e2,aO,e3,aA,e4,aA,G4 (by simp;omega) (by decide),aO,M7 hx];by_cases h6:x.parent>=(v:Int)
  ·rw[bM h6,aO,b8 (by omega)];rfl
  ·rw[bE h6,aZ];by_cases h7:1<=x.parent
   ·rw[bK ⟨h7,by omega⟩];obtain⟨m,hm⟩:=mR (by omega:0<=x.parent);rw[hm];rw[ih m fu ([x.cond]++w) (by omega) (by omega) (by omega) (by omega) (by simp;omega)];simp
   ·rw[b8 (by omega)];obtain⟨fu,rfl⟩:∃m,fu=m+1:=⟨fu-1,by omega⟩
    have e5:(decide (x.parent>=1)&&decide (x.parent<=(n.nodes.length:Int)-1))=false:=by
     rw[bE (by omega)];rfl
    rw[iQ,e1,Ih,aA,e5,aZ];rfl
theorem a2f(n:aG)(v:Int)(h:NOk n):uh n v=some (eL n.nodes v):=by
 have hl:=h.1;unfold uh eL;by_cases hv:1<=v/\v<(n.nodes.length:Int)
 ·rw[bK hv];obtain⟨m,rfl⟩:=mR (by omega:0<=v);rw[a2e n h _ m m fuel [] (bN _) (by omega) (by omega) (by unfold fuel;omega) (by simp;omega)];simp
 ·rw[b8 hv];have e1:IntKind.i64.wrap (((n.nodes.map Node.c).length:Int)-1)=(n.nodes.length:Int)-1:=by rw[ax];exact gV (rQ.i64.2 (by omega))
  have e2:(decide (v>=1)&&decide (v<=(n.nodes.length:Int)-1))=false:=by
   by_cases h1:1<=v
   ·have h2:¬v<=(n.nodes.length:Int)-1:=by omega
    rw[bE h2,vV]
   ·rw[bE h1];rfl
  rw[show fuel=4194303+1 from rfl,iQ,e1,Ih,aA,e2,aZ]
theorem Yv(n:aG)(h:NOk n)(K:bR->Option ai):∀(k v fu:Nat) (w:bR),v<=k->1<=v->v<n.nodes.length->k<fu->w.length+k<=4194304->lN n K fu (v:Int) w=K (w++(Me n.nodes k v).map cV):=by
 have hl:=h.1;intro k
 induction k with
 |zero=>intro v fu w h1 h2;omega
 |succ k ih=>
  intro v fu w h1 h2 h3 h4 h5;obtain⟨fu,rfl⟩:∃m,fu=m+1:=⟨fu-1,by omega⟩
  have hx:n.nodes[v]?=some n.nodes[v]:=aa h3;generalize hxe:n.nodes[v]=x at*;have e3:lF n.nodes (v:Int)=some x:=by unfold lF;rw[bM (by omega),aO];exact hx
  rw[lN,l9 (by omega) (by decide),aO,e3,aA,QX hx];by_cases h7:x.parent<1
  ·rw[bM h7,aO,b8 (by omega)];rfl
  ·rw[bE h7,aZ];by_cases h6:x.parent>=(v:Int)
   ·rw[bM h6,aO,b8 (by omega)];rfl
   ·rw[bE h6,aZ,bK ⟨by omega,by omega⟩];obtain⟨m,hm⟩:=mR (by omega:0<=x.parent);rw[hm,ih m fu (w++[(v:Int)]) (by omega) (by omega) (by omega) (by omega) (by simp;omega)];simp[cV]
theorem Yw(n:aG)(h:NOk n)(us:aX)(uI:∀i∈us,i<n.nodes.length)(hul:us.length<=1048576)(K:ai->Option ai):∀(j fu:Nat) (w:ai),j<=us.length->j<fu->w.length+j<=4194304->jk n (us.map cV) K fu ((j:Int)-1) w=K (w++((us.take j).reverse.filterMap (zq n.nodes))):=by
 intro j
 induction j with
 |zero=>
  intro fu w _ hf _;obtain⟨fu,rfl⟩:∃m,fu=m+1:=⟨fu-1,by omega⟩
  rw[jk,bE (by omega),aZ];simp
 |succ j ih=>
  intro fu w hj hf hw;obtain⟨fu,rfl⟩:∃m,fu=m+1:=⟨fu-1,by omega⟩
  have hlt:j<us.length:=by omega
  have h3:=uI us[j] (AJ hlt);have hx:n.nodes[us[j]]?=some n.nodes[us[j]]:=aa h3;have hww:=h.2 _ (AJ h3);generalize hxe:n.nodes[us[j]]=x at*;have e0:((j+1:Nat):Int)-1=(j:Int):=by omega
  have e1:lF (us.map cV) (j:Int)=some ((us[j]:Nat):Int):=by
   unfold lF;rw[bM (by omega),aO];show(us.map cV)[(j:Int).toNat]?=_;rw[mS,bg,aa hlt];rfl
  have e3:lF n.nodes ((us[j]:Nat):Int)=some x:=by unfold lF;rw[bM (by omega),aO];exact hx
  have e4:=O5 x.cond (by have:=aC.dJ (aL.fB hww);omega);have e5:IntKind.i64.wrap ((j:Int)-1)=(j:Int)-1:=gV (rQ.i64.2 (by omega));rw[e0,jk,bM (by omega),aO,e1,aA,e3,aA,e4,aA,l9 (by omega) (by decide),aO,e5,ih fu _ (by omega) (by omega) (by simp;omega)];have hc:zq n.nodes us[j]=some x.cond:=by unfold zq;rw[hx];rfl
  have ht:us.take (j+1)=us.take j++[us[j]]:=by rw[List.take_add_one,aa hlt];rfl
  rw[ht,List.reverse_append,List.filterMap_append];simp[hc]
theorem a1w(n:aG)(v:Int)(h:NOk n):ue n v=some (eL n.nodes v):=by
 have hl:=h.1;unfold ue eL;rw[ax];by_cases h1:v<1
 ·rw[bM h1,aO,b8 (by omega)]
 ·rw[bE h1,aZ];by_cases h2:v>=(n.nodes.length:Int)
  ·rw[bM h2,aO,b8 (by omega)]
  ·rw[bE h2,aZ,bK ⟨by omega,by omega⟩];obtain⟨m,rfl⟩:=mR (by omega:0<=v);rw[Yv n h _ m m fuel [] (bN _) (by omega) (by omega) (by unfold fuel;omega) (by simp;omega)];have hul:=TJ n.nodes m m;have e5:IntKind.i64.wrap ((((([]:bR)++(Me n.nodes m m).map cV).map gS).length:Int)-1)=(((Me n.nodes m m).length:Nat):Int)-1:=by
    rw[cT,ax,ax];exact gV (rQ.i64.2 (by omega))
   rw[e5,cT,Yw n h (Me n.nodes m m) (Xl n.nodes m m (by omega)) (by omega) _ (Me n.nodes m m).length fuel [] (bN _) (by unfold fuel;omega) (by simp;omega),List.take_length];rfl
end Go.Cx
namespace Go.Cx
open Go.RowKit Go.Proofs Tryz
def ZG(k:Nat):Bytes:=[63]++Lib.itoa ((k:Int)+1)
theorem decDigits_one{u:Nat}(h:u<10):Lib.decDigits u=[UInt8.ofNat (48+u)]:=by
 rw[Lib.decDigits,dif_pos h]
theorem Ks:∀i,i<6->ZG i=[63,UInt8.ofNat (49+i)]
 |0,_|1,_|2,_|3,_|4,_|5,_=>by
  unfold ZG Lib.itoa;rw[b8 (by decide),decDigits_one (by decide)];decide
 |n+6,h=>by omega
theorem ZH:∀i,i<6->∀j,j<6->ZG i=ZG j->i=j:=by
 intro i hi j hj e;rw[Ks i hi,Ks j hj]at e
 revert i j
 decide
theorem OJ:∀i,i<6->k6 (ZG i)=true:=by
 intro i hi;rw[Ks i hi]
 revert i
 decide
def SL(N:aR):Prop:=∀(i:Nat) p,N[i]?=some p->p.value=ZG i/\k6 p.var=true
theorem Pc(N:aR)(t:Bytes):E4 N t=true↔∃p∈N,p.var=t:=by simp[E4]
theorem UA(N:aR)(t:Bytes){p:aS}(h:p∈N):p∈iW N t:=by
 unfold iW;cases k6 t&& !E4 N t<;>simp[h]
theorem Pa:∀(ts:aH) (N:aR) {p:aS},p∈N->p∈ts.foldl iW N
 | [],_,_,h=>h
 |t::ts,N,p,h=>Pa ts (iW N t) (UA N t h)
theorem Xs{N:aR}(h:SL N)(t:Bytes):SL (iW N t):=by
 unfold iW;cases hv:k6 t&& !E4 N t with
 |false=>exact h
 |true=>
  simp only[aW]at hv;intro i p hp;rw[aO]at hp;rcases dY i N.length with hlt|hge
  ·rw[au hlt]at hp;exact h i p hp
  ·rw[b7 hge]at hp;cases hi:i-N.length with
   |zero=>
    rw[hi]at hp;simp at hp;subst hp;have:i=N.length:=by omega
    subst this;exact⟨rfl,hv.1⟩
   |succ m=>rw[hi]at hp;simp at hp
theorem Bw:∀(ts:aH) {N:aR},SL N->SL (ts.foldl iW N)
 | [],_,h=>h
 |t::ts,_,h=>Bw ts (Xs h t)
def Qd(N:aR):Prop:=(N.map aS.var).Nodup
theorem UC{N:aR}(h:Qd N)(t:Bytes):Qd (iW N t):=by
 unfold iW;cases hv:k6 t&& !E4 N t with
 |false=>exact h
 |true=>
  simp only[aW,pH]at hv;rw[aO];unfold Qd;rw[bV,bJ];refine⟨h,by simp,?_⟩;intro a ha b hb e;simp at hb;subst hb;subst e;obtain⟨p,hp,he⟩:=cB.1 ha;have:=(Pc N a).2 ⟨p,hp,he⟩;rw[hv.2]at this;cases this
theorem B1:∀(ts:aH) {N:aR},Qd N->Qd (ts.foldl iW N)
 | [],_,h=>h
 |t::ts,_,h=>B1 ts (UC h t)
theorem IZ:∀(ts:aH) (N:aR) {t:Bytes},t∈ts->k6 t=true->∃p∈ts.foldl iW N,p.var=t
 |x::ts,N,t,h,hv=>by
  rcases bI.1 h with rfl|h
  ·have:∃p∈iW N t,p.var=t:=by
    unfold iW;cases hh:E4 N t with
    |true=>rw[hv];exact(Pc N t).1 hh
    |false=>rw[hv];exact⟨⟨t,[63]++Lib.itoa ((N.length:Int)+1)⟩,by simp,rfl⟩
   obtain⟨p,hp,he⟩:=this;exact⟨p,Pa ts _ hp,he⟩
  ·exact IZ ts _ h hv
theorem Iy:∀ {N:aR} {p:aS},Qd N->p∈N->C7 N p.var=p.value
 |q::N,p,hn,hp=>by
  unfold Qd at hn;rw[bH,eW]at hn;rcases bI.1 hp with rfl|hp
  ·simp[C7]
  ·have hne:(q.var==p.var)=false:=by
    rw[cZ];intro e;exact hn.1 (by rw[e];exact cB.2 ⟨p,hp,rfl⟩)
   rw[C7,hne,aZ];exact Iy (show Qd N from hn.2) hp
theorem Jq:∀ {N:aR} {t:Bytes},(∀p∈N,p.var≠t)->C7 N t=t
 | [],t,_=>rfl
 |q::N,t,h=>by
  have hne:(q.var==t)=false:=by rw[cZ];exact h q (by simp)
  rw[C7,hne,aZ];exact Jq fun p hp=>h p (by simp[hp])
theorem SL.nil:SL []:=fun i p h=>by simp at h
theorem Qd.nil:Qd []:=by simp[Qd]
theorem ze(ts:aH):(ts.foldl iW []).length<=ts.length:=by simpa using xY ts []
theorem Jx{N:aR}(h:SL N){p:aS}(hp:p∈N):∃i,i<N.length/\N[i]?=some p/\p.value=ZG i/\k6 p.var=true:=by
 obtain⟨i,hi⟩:=dZ hp;exact⟨i,(aF.1 hi).1,hi,h i p hi⟩
theorem M0{ts:aH}{t:Bytes}(ht:k6 t=false):C7 (ts.foldl iW []) t=t:=
 Jq fun p hp e=>by
  obtain⟨i,_,_,_,hv⟩:=Jx (Bw ts SL.nil) hp;rw[e,ht]at hv;cases hv
theorem HS(p:aC):(sx p).args=p.args.map (C7 (p.args.foldl iW [])):=rfl
theorem Sz:∀i,i<6->(ZG i).length<=16:=by
 intro i hi;rw[Ks i hi];simp
theorem a2Q{ts:aH}(hl:ts.length<=5){t:Bytes}(ht:t.length<=16):(C7 (ts.foldl iW []) t).length<=16:=by
 by_cases h:∃p∈ts.foldl iW [],p.var=t
 ·obtain⟨p,hp,he⟩:=h;rw[<-he,Iy (B1 ts Qd.nil) hp];obtain⟨i,hi,_,hpv,_⟩:=Jx (Bw ts SL.nil) hp;have:=ze ts;rw[hpv];exact Sz i (by omega)
 ·rw[Jq (fun p hp e=>h ⟨p,hp,e⟩)];exact ht
def Zj(N:aR)(x:Bytes):Bytes:=match N with
 | []=>x
 |p::r=>bif p.value==x then p.var else Zj r x
theorem TI:∀ {N:aR} {p:aS},(N.map aS.value).Nodup->p∈N->Zj N p.value=p.var
 |q::N,p,hn,hp=>by
  rw[bH,eW]at hn;rcases bI.1 hp with rfl|hp
  ·simp[Zj]
  ·have hne:(q.value==p.value)=false:=by
    rw[cZ];intro e;exact hn.1 (by rw[e];exact cB.2 ⟨p,hp,rfl⟩)
   rw[Zj,hne,aZ];exact TI hn.2 hp
theorem Jv:∀ {N:aR} {t:Bytes},(∀p∈N,p.value≠t)->Zj N t=t
 | [],t,_=>rfl
 |q::N,t,h=>by
  have hne:(q.value==t)=false:=by rw[cZ];exact h q (by simp)
  rw[Zj,hne,aZ];exact Jv fun p hp=>h p (by simp[hp])
theorem S6{N:aR}(h:SL N)(hl:N.length<=5):(N.map aS.value).Nodup:=by
 unfold List.Nodup;rw[List.pairwise_iff_getElem];intro i j hi0 hj hij e;rw[ax]at hj;rw[List.getElem_map,List.getElem_map]at e;have h1:=(h i _ (aa (by omega))).1;have h2:=(h j _ (aa hj)).1;rw[h1,h2]at e;have:=ZH i (by omega) j (by omega) e;omega
theorem a5Q{ts:aH}(hl:ts.length<=5){t:Bytes}(ht:t∈ts)(hT:oW t=true):Zj (ts.foldl iW []) (C7 (ts.foldl iW []) t)=t:=by
 have hw:=Bw ts SL.nil;have hlen:=ze ts;cases hv:k6 t with
 |true=>
  obtain⟨p,hp,he⟩:=IZ ts [] ht hv;rw[<-he,Iy (B1 ts Qd.nil) hp,TI (S6 hw (by omega)) hp]
 |false=>
  rw[M0 hv];refine Jv fun p hp e=>?_
  obtain⟨i,hi,_,hpv,_⟩:=Jx hw hp;have:=OJ i (by omega);rw[<-hpv,e,hv]at this;cases this
theorem UQ{p:aC}(h:vu p=true)(hl:p.args.length<=5):vu (sx p)=true:=by
 unfold vu at h⊢;rw[aW]at h⊢;refine⟨?_,?_⟩
 ·rw[HS,BB,ay];intro t ht;have hT:=ay.1 h.1 t ht;show oW (C7 _ t)=true;cases hv:k6 t with
  |false=>rw[M0 hv];exact hT
  |true=>
   obtain⟨q,hq,he⟩:=IZ p.args [] ht hv;obtain⟨i,hi,_,hpv,_⟩:=Jx (Bw p.args SL.nil) hq;have:=ze p.args;rw[<-he,Iy (B1 p.args Qd.nil) hq,hpv];unfold oW;rw[OJ i (by omega)];simp
 ·have:=h.2;rw[aW]at this⊢;refine⟨this.1,?_⟩;rw[HS,ax];exact this.2
end Go.Cx
namespace Go.Cx
open Go.RowKit Go.Proofs Tryz
def KP(c:aL):aH:=bif decide (c.kind=1)then iX c.pat.args else []
theorem VI{c:aL}:(KP c).length<=c.wt:=by
 unfold KP;have h2:=vS c.pat.args;have h3:=aC.dJ (aL.fB (bN c.wt));cases decide (c.kind=1)<;>simp;omega
def zQ(r:aK)(n:Int):aH:=(r.conds.take n.toNat).flatMap KP
theorem NS{α:Type}(x:α)(xs:List α)(n:Int)(i:Nat):(x::xs).take (n-(i:Int)).toNat=if(i:Int)<n then x::xs.take (n-((i+1:Nat):Int)).toNat else []:=by
 by_cases h:(i:Int)<n
 ·rw[bK h];obtain⟨m,hm⟩:∃m,(n-(i:Int)).toNat=m+1:=⟨(n-(i:Int)).toNat -1,by omega⟩
  have:(n-((i+1:Nat):Int)).toNat=m:=by omega
  rw[hm,this];rfl
 ·rw[b8 h,show(n-(i:Int)).toNat=0 from by omega];rfl
theorem Dz{α β:Type}{f:α->List β}{w:α->Nat}(l:List α)(h:∀x∈l,(f x).length<=w x+2):(l.flatMap f).length<=3*oZ w l:=by
 induction l with
 |nil=>simp[oZ]
 |cons x l ih=>
  rw[cr,bB,pg];have h1:=h x (by simp);have h2:=ih (fun y hy=>h y (by simp[hy]));omega
theorem VJ{r:aK}{n:Nat}(h:r.wt<=n)(m:Int):(zQ r m).length<=3*n:=by
 unfold zQ;have h1:=Dz (w:=aL.wt) (f:=KP) (r.conds.take m.toNat) (fun c _=>by have:= @VI c;omega);have h2:oZ aL.wt (r.conds.take m.toNat)<=oZ aL.wt r.conds:=by
  conv=>rhs;rw[<-bp m.toNat r.conds]
  rw[S8];omega
 have h3:=aK.rS h;omega
theorem X8(a:aK)(n:Int)(i:Nat)(y:aH)(k:aH->Option aH):∀(l:aH) (j:Nat) (w:aH),w.length+l.length<=1099511627770->iq a n i y k l j w=k (l.foldl xa w):=by
 intro l
 induction l with
 |nil=>intro j w _;rfl
 |cons x l ih=>
  intro j w hw;simp only[aY]at hw;have:=zE w x;rw[iq,Rn w x (by omega),aA,ih _ _ (by omega)];rfl
theorem ZP(a:aK)(n:Int)(k:aH->Option aH):∀(l:ai) (i:Nat) (acc:aH),(∀c∈l,c.wt<=1048576)->acc.length+oZ aL.wt l<=2097152->
 fL a n k l i (eg acc)=k (eg (acc++(l.take (n-(i:Int)).toNat).flatMap KP)):=by
 intro l
 induction l with
 |nil=>intro i acc _ _;simp[fL]
 |cons c l ih=>
  intro i acc hc hb;rw[pg]at hb;have Vu:=hc c (by simp);have hv:=vS c.pat.args;have ha:=aC.dJ (aL.fB (bN c.wt));have hu:=pG (iX c.pat.args);have hu2:=pG acc;rw[fL,NS];by_cases hi:(i:Int)<n
  ·have e1:decide (((i:Int):Int)<n)=true:=by simp[hi]
   rw[e1,aO,bK hi];by_cases hk:c.kind=1
   ·have e2:((c.kind:Int)==1)=true:=by simp[hk]
    rw[e2,aO,J3 _ (aL.fB Vu),aA,uJ (by omega),aO,X8 _ _ _ _ _ _ _ _ (by omega),EL,ih _ _ (fun x hx=>hc x (by simp[hx])) (by simp;omega)];simp[KP,hk]
   ·have e2:((c.kind:Int)==1)=false:=by simp[hk]
    rw[e2,aZ,ih _ _ (fun x hx=>hc x (by simp[hx])) (by omega)];simp[KP,hk]
  ·have e1:decide (((i:Int):Int)<n)=false:=by simp[hi]
   rw[e1,aZ,b8 hi];simp
theorem X7(r:aK)(n:Int)(h:r.wt<=1048576):lS r n=some (eg (zQ r n)):=by
 unfold lS;have:=ZP r n (fun q=>some q) r.conds 0 [] (fun c hc=>aK.qN h hc) (by have:=aK.rS h;simp;omega);rw[show eg []=[]from rfl]at this;rw[this];simp[zQ]
theorem Yq(a:aK)(n:Int)(k:aH->Option aH):∀(l:ai) (i:Nat) (w:aH),(∀c∈l,c.wt<=1048576)->w.length+oZ aL.wt l<=2097152->
 eP a n k l i w=k (w++(l.take (n-(i:Int)).toNat).flatMap KP):=by
 intro l
 induction l with
 |nil=>intro i w _ _;simp[eP]
 |cons c l ih=>
  intro i w hc hb;rw[pg]at hb;have Vu:=hc c (by simp);have hv:=vS c.pat.args;have ha:=aC.dJ (aL.fB (bN c.wt));rw[eP,NS];by_cases hi:(i:Int)<n
  ·have e1:decide (((i:Int):Int)<n)=true:=by simp[hi]
   rw[e1,aO,bK hi];by_cases hk:c.kind=1
   ·have e2:((c.kind:Int)==1)=true:=by simp[hk]
    rw[e2,aO,WQ _ (by omega) (fun x hx=>aC.sX (aL.fB Vu) hx),aA,X4 (by omega) (by decide),aO,ih _ _ (fun x hx=>hc x (by simp[hx])) (by simp;omega)];simp[KP,hk]
   ·have e2:((c.kind:Int)==1)=false:=by simp[hk]
    rw[e2,aZ,ih _ _ (fun x hx=>hc x (by simp[hx])) (by omega)];simp[KP,hk]
  ·have e1:decide (((i:Int):Int)<n)=false:=by simp[hi]
   rw[e1,aZ,b8 hi,ih _ _ (fun x hx=>hc x (by simp[hx])) (by omega),show(n-((i+1:Nat):Int)).toNat=0 from by omega];simp
theorem W7(r:aK)(n:Int)(h:r.wt<=1048576):nv r n=some (eg (zQ r n)):=by
 unfold nv;have hl:=VJ h n;rw[Yq r n _ r.conds 0 [] (fun c hc=>aK.qN h hc) (by have:=aK.rS h;simp;omega)];have e:([]:aH)++(r.conds.take (n-((0:Nat):Int)).toNat).flatMap KP=zQ r n:=by simp[zQ]
 rw[e,O9 _ (by omega)];rfl
def CE(l:ai):aH:=l.flatMap pK
def YN(l:cH):aH:=l.flatMap fun a=>iX a.pat.args
def a2S(r:aK):aH:=CE r.conds++YN r.cU
theorem VN(l:ai):(CE l).length<=3*oZ aL.wt l:=Dz l (fun c _=>wU (bN _))
theorem XK(a:aK)(i:Nat)(y:aH)(k:aH->Option aH):∀(l:aH) (j:Nat) (w:aH),w.length+l.length<=1099511627770->jZ a i y k l j w=k (l.foldl xa w):=by
 intro l
 induction l with
 |nil=>intro j w _;rfl
 |cons x l ih=>
  intro j w hw;simp only[aY]at hw;have:=zE w x;rw[jZ,Rn w x (by omega),aA,ih _ _ (by omega)];rfl
theorem XM(a:aK)(i:Nat)(y:aH)(k:aH->Option aH):∀(l:aH) (j:Nat) (w:aH),w.length+l.length<=1099511627770->ja a i y k l j w=k (l.foldl xa w):=by
 intro l
 induction l with
 |nil=>intro j w _;rfl
 |cons x l ih=>
  intro j w hw;simp only[aY]at hw;have:=zE w x;rw[ja,Rn w x (by omega),aA,ih _ _ (by omega)];rfl
theorem XJ(a:aK)(k:aH->Option aH):∀(l:ai) (i:Nat) (acc:aH),(∀c∈l,c.wt<=1048576)->acc.length+3*oZ aL.wt l<=16777216->
 gx a k l i (eg acc)=k (eg (acc++CE l)):=by
 intro l
 induction l with
 |nil=>intro i acc _ _;simp[gx,CE]
 |cons c l ih=>
  intro i acc hc hb;rw[pg]at hb;have Vu:=hc c (by simp);have h1:=wU (bN c.wt);have hu:=pG (pK c);have hu2:=pG acc;rw[gx,Rl c Vu,aA,uJ (by omega),aO,XK _ _ _ _ _ _ _ (by omega),EL,ih _ _ (fun x hx=>hc x (by simp[hx])) (by simp;omega)];simp[CE]
theorem XL(a:aK)(k:aH->Option aH):∀(l:cH) (i:Nat) (acc:aH),(∀c∈l,c.wt<=1048576)->acc.length+3*oZ Action.wt l<=16777216->
 gD a k l i (eg acc)=k (eg (acc++YN l)):=by
 intro l
 induction l with
 |nil=>intro i acc _ _;simp[gD,YN]
 |cons c l ih=>
  intro i acc hc hb;rw[pg]at hb;have Vu:=hc c (by simp);have h1:=vS c.pat.args;have h2:=aC.dJ (Action.fB (bN c.wt));have hu:=pG (iX c.pat.args);have hu2:=pG acc;rw[gD,J3 _ (Action.fB Vu),aA,uJ (by omega),aO,XM _ _ _ _ _ _ _ (by omega),EL,ih _ _ (fun x hx=>hc x (by simp[hx])) (by simp;omega)];simp[YN]
theorem a2h(r:aK)(h:r.wt<=1048576):s5 r=some (eg (a2S r)):=by
 unfold s5;have h3:=aK.rS h;have h4:=aK.Hg h;have hl:=VN r.conds;have:=XJ r (fun q=>gD r (fun q=>some q) r.cU 0 q) r.conds 0 [] (fun c hc=>aK.qN h hc) (by simp;omega);rw[show eg []=[]from rfl]at this;rw[this];simp only[cT];rw[XL r _ r.cU 0 _ (fun c hc=>aK.Nl h hc) (by omega)];rfl
theorem a4G(l:ai)(hc:∀c∈l,c.wt<=1048576)(hb:oZ aL.wt l<=1048576):pP l=some (l.flatMap fun c=>eg (pK c)):=by
 unfold pP;have:∀(r:ai) (i:Nat) (w:aH),(∀c∈r,c.wt<=1048576)->w.length+3*oZ aL.wt r<=16777216->ff l (fun q=>some q) r i w=some (w++r.flatMap fun c=>eg (pK c)):=by
  intro r
  induction r with
  |nil=>intro i w _ _;simp[ff]
  |cons c r ih=>
   intro i w hc hb;rw[pg]at hb;have h1:=wU (bN c.wt);have hu:=pG (pK c);rw[ff,RQ c (hc c (by simp)),aA,X4 (by omega) (by decide),aO,ih _ _ (fun x hx=>hc x (by simp[hx])) (by simp;omega)];simp
 exact this l 0 [] hc (by simp;omega)
theorem VM(l:ai):(l.flatMap fun c=>eg (pK c)).length<=3*oZ aL.wt l:=Dz l (fun c _=>by
 have h1:=wU (bN c.wt);have hu:=pG (pK c);omega)
theorem a6I(l:ai)(b:aH):eg ((l.flatMap fun c=>eg (pK c))++b)=eg (CE l++b):=EK (fun x=>by simp[CE,tr])
def Tl(v:Bytes)(k:Int):ai->Nat->Bool
 | [],_=>false
 |c::cs,i=>(decide (((i:Nat):Int)≠k)&&(pK c).contains v)||Tl v k cs (i+1)
def PT(r:aK)(k:Int)(v:Bytes):Bool:=Tl v k r.conds 0||r.cU.any fun a=>(iX a.pat.args).contains v
theorem MT{l:aH}{v:Bytes}(h:k6 v=true):l.contains v=(iX l).contains v:=by
 rw[bU];simp[iX,h]
theorem a4z(r:aK)(k:Int)(v:Bytes)(h:r.wt<=1048576):lf r k v=some (PT r k v):=by
 unfold lf PT;have k2:∀(l:cH) (i:Nat),(∀c∈l,c.wt<=1048576)->gR r v (some false) l i=some (l.any fun a=>(iX a.pat.args).contains v):=by
  intro l
  induction l with
  |nil=>intro i _;rfl
  |cons a l ih=>
   intro i hc;rw[gR,J3 _ (Action.fB (hc a (by simp))),aA,XF,aA,mK,ih _ (fun x hx=>hc x (by simp[hx])),sG];cases(iX a.pat.args).contains v<;>rfl
 have k1:∀(l:ai) (i:Nat),(∀c∈l,c.wt<=1048576)->fH r k v (some (r.cU.any fun a=>(iX a.pat.args).contains v)) l i=some (Tl v k l i||r.cU.any fun a=>(iX a.pat.args).contains v):=by
  intro l
  induction l with
  |nil=>intro i _;rfl
  |cons c l ih=>
   intro i hc;rw[fH,Rl _ (hc c (by simp)),aA,XF,aA,mK,ih _ (fun x hx=>hc x (by simp[hx]))];simp only[Tl,bne,gI];by_cases hi:((i:Nat):Int)=k
   ·simp[hi]
   ·cases(pK c).contains v<;>simp[hi]
 rw[k2 _ _ (fun c hc=>aK.Nl h hc),k1 _ _ (fun c hc=>aK.qN h hc)]
theorem a7f(r:aK)(k:Int)(v:Bytes)(hv:k6 v=true)(h:r.wt<=1048576):kH r k v=some (PT r k v):=by
 unfold kH PT;have k2:∀(l:cH) (i:Nat),eV r v (some false) l i=some (l.any fun a=>(iX a.pat.args).contains v):=by
  intro l
  induction l with
  |nil=>intro i;rfl
  |cons a l ih=>
   intro i;rw[eV,Yt,aA,MT hv,ih,sG];cases(iX a.pat.args).contains v<;>rfl
 have k1:∀(l:ai) (i:Nat),(∀c∈l,c.wt<=1048576)->dV r k v (some (r.cU.any fun a=>(iX a.pat.args).contains v)) l i=some (Tl v k l i||r.cU.any fun a=>(iX a.pat.args).contains v):=by
  intro l
  induction l with
  |nil=>intro i _;rfl
  |cons c l ih=>
   intro i hc;rw[dV,RQ _ (hc c (by simp)),aA,Yt,aA,mK,ih _ (fun x hx=>hc x (by simp[hx]))];simp only[Tl,bne,gI];by_cases hi:((i:Nat):Int)=k
   ·simp[hi]
   ·cases(pK c).contains v<;>simp[hi]
 rw[k2,k1 _ _ (fun c hc=>aK.qN h hc)]
def KU(r:aK)(i:Nat)(c:aL)(v:Bytes):Bool:=decide (c.kind=1)||(zQ r i).contains v||(decide (c.kind=2)&& !PT r i v)
def vA(r:aK):ai->Nat->Bool
 | [],_=>true
 |c::cs,i=>(qV c&&(!decide (i=0)||decide (c.kind=1))&&(eg (pK c)).all (KU r i c))&&vA r cs (i+1)
def L6(r:aK):Bool:=r.cU.all fun a=>L5 a&&(iX a.pat.args).all fun v=>(zQ r r.conds.length).contains v
def mD(r:aK):Bool:=yB r.name&&(decide (0<=r.prio)&&decide (r.prio<=9))&&(decide (1<=(r.conds.length:Int))&&decide ((r.conds.length:Int)<=4))&&(decide (1<=(r.cU.length:Int))&&decide ((r.cU.length:Int)<=2))&&
 (vA r r.conds 0&&(L6 r&&decide (((eg (CE r.conds)).length:Int)<=6)))
theorem Mm(l:aH)(p:Bytes->Bool):(eg l).all p=l.all p:=by
 rw[bU];simp[ay,tr]
theorem YR(r:aK)(n:Int){v:Bytes}(h:v∈zQ r n):v∈CE r.conds:=by
 unfold zQ at h;obtain⟨c,hc,hv⟩:=bq.1 h;refine bq.2 ⟨c,bw hc,?_⟩;unfold KP at hv;cases hk:decide (c.kind=1)with
 |false=>rw[hk]at hv;cases hv
 |true=>
  rw[hk]at hv;simp only[aO]at hv;unfold pK;rw[NW];exact af.2 (.inl hv)
theorem Qo{r:aK}(h:L6 r=true):eg (a2S r)=eg (CE r.conds):=by
 refine EK (fun x=>?_);unfold a2S;simp only[af];constructor
 ·rintro(hx|hx)
  ·exact hx
  ·obtain⟨a,ha,hv⟩:=bq.1 hx;unfold L6 at h;have:=ay.1 h a ha;simp only[aW,ay]at this;have:=this.2 x hv;exact YR r _ (by simpa using this)
 ·exact .inl
theorem ZU(r:aK)(y:aH)(i:Nat)(c:aL)(l:aH)(k:Option Bool)(hc:c.wt<=1048576)(hr:r.wt<=1048576)(hcb:qV c=true):∀(rest:aH) (j:Nat),fS r y i c (eg (zQ r i)) l k rest j=bif rest.all (KU r i c)then k else some false:=by
 have hk:=GH hcb;intro rest
 induction rest with
 |nil=>intro j;rfl
 |cons v rest ih=>
  intro j;rw[fS,XF,aA,mK,XR c hc,aA,a4z r _ v hr,aA,ih,dD];unfold J6 KU;rw[hcb];by_cases h1:c.kind=1
  ·simp[h1]
  by_cases h2:c.kind=2
  ·cases(zQ r i).contains v<;>cases PT r i v<;>simp[h2]
  have h3:c.kind>=3:=by omega
  cases(zQ r i).contains v<;>simp[h1,h2,h3]
theorem ZV(r:aK)(y:aH)(i:Nat)(c:aL)(l:aH)(k:Option Bool)(hc:c.wt<=1048576)(hr:r.wt<=1048576)(hcb:qV c=true):∀(rest:aH) (j:Nat),fT r y i c (eg (zQ r i)) l k rest j=bif rest.all (KU r i c)then k else some false:=by
 have hk:=GH hcb;intro rest
 induction rest with
 |nil=>intro j;rfl
 |cons v rest ih=>
  intro j;rw[fT,XF,aA,mK,XR c hc,aA,a4z r _ v hr,aA,ih,dD];unfold J6 KU;rw[hcb];by_cases h1:c.kind=1
  ·simp[h1]
  by_cases h2:c.kind=2
  ·cases(zQ r i).contains v<;>cases PT r i v<;>simp[h2]
  have h3:c.kind>=3:=by omega
  cases(zQ r i).contains v<;>simp[h1,h2,h3]
theorem ZT(r:aK)(y:aH)(k:Option Bool)(hr:r.wt<=1048576):∀(rest:ai) (i:Nat),(∀c∈rest,c.wt<=1048576)->jr r y k rest i=bif vA r rest i then k else some false:=by
 intro rest
 induction rest with
 |nil=>intro i _;rfl
 |cons c rest ih=>
  intro i h;have hc:=h c (by simp);have hl:=wU hc;have hu:=pG (pK c);rw[jr,XA c hc,aA,vA];cases hcb:qV c with
  |false=>rfl
  |true=>
   rw[X7 r _ hr,Rl c hc,ih _ (fun x hx=>h x (by simp[hx]))];simp only[aA,uJ (show(eg (pK c)).length<=1099511627776 by omega),aO];rw[ZU r y i c _ _ hc hr hcb,ZV r y i c _ _ hc hr hcb];simp only[bne,gI];have e0:decide (((i:Int):Int)=0)=decide (i=0):=by rw[bU];simp
   rw[e0];cases decide (i=0)<;>cases decide (c.kind=1)<;>cases(eg (pK c)).all (KU r i c)<;>simp
theorem ZX(r:aK)(y:aH)(i:Nat)(l:aH)(k:Option Bool):∀(rest:aH) (j:Nat),lV r y i l k rest j=bif rest.all (fun v=>y.contains v)then k else some false:=
 fun rest j=>Tc (f:=fun v=>gJ y v) (L:=lV r y i l k) (fun _=>rfl) (fun _ _ _=>rfl) rest j (fun v _=>XF y v)
theorem ZW(r:aK)(b:aH)(k:Option Bool):∀(rest:cH) (i:Nat),(∀a∈rest,a.wt<=1048576)->lU r (eg b) k rest i=bif rest.all (fun a=>L5 a&&(iX a.pat.args).all fun v=>b.contains v)then k else some false:=by
 intro rest
 induction rest with
 |nil=>intro i _;rfl
 |cons a rest ih=>
  intro i h;have ha:=h a (by simp);have h1:=vS a.pat.args;have h2:=aC.dJ (Action.fB ha);have hu:=pG (iX a.pat.args);rw[lU,a7u a ha,aA,J3 _ (Action.fB ha),aA,uJ (by omega),ih _ (fun x hx=>h x (by simp[hx])),ZX,dD,Mm];have e:((iX a.pat.args).all fun v=>(eg b).contains v)=(iX a.pat.args).all fun v=>b.contains v:=by
   congr 1;funext v;exact mK b v
  rw[e];cases L5 a<;>cases(iX a.pat.args).all (fun v=>b.contains v)<;>simp
theorem a5G(r:aK)(h:r.wt<=1048576):ug r=some (mD r):=by
 unfold ug;simp only[XG _ (aK.Sy h),aA,Ih,ax];rw[X7 r _ h];simp only[aA];rw[ZT r _ _ h _ _ (fun c hc=>aK.qN h hc),ZW r _ _ _ _ (fun a ha=>aK.Nl h ha),a2h r h];simp only[aA,ax];have hab:(r.cU.all fun a=>L5 a&&(iX a.pat.args).all fun v=>(zQ r r.conds.length).contains v)=L6 r:=rfl;rw[hab];unfold mD;have g1:decide (r.prio>=0)=decide (0<=r.prio):=rfl;have g2:decide ((r.conds.length:Int)>=1)=decide (1<=(r.conds.length:Int)):=rfl;have g3:decide ((r.cU.length:Int)>=1)=decide (1<=(r.cU.length:Int)):=rfl;rw[g1,g2,g3];cases ha:L6 r with
 |false=>cases yB r.name<;>cases(decide (0<=r.prio)&&decide (r.prio<=9))<;>cases(decide (1<=(r.conds.length:Int))&&decide ((r.conds.length:Int)<=4))<;>cases(decide (1<=(r.cU.length:Int))&&decide ((r.cU.length:Int)<=2))<;>cases vA r r.conds 0<;>rfl
 |true=>
  rw[Qo ha];cases yB r.name<;>cases(decide (0<=r.prio)&&decide (r.prio<=9))<;>cases(decide (1<=(r.conds.length:Int))&&decide ((r.conds.length:Int)<=4))<;>cases(decide (1<=(r.cU.length:Int))&&decide ((r.cU.length:Int)<=2))<;>cases vA r r.conds 0<;>simp
theorem a1q(r:aK)(i:Nat)(c:aL)(l:aH)(k:Option Bool)(hr:r.wt<=1048576)(hcb:qV c=true):∀(rest:aH) (j:Nat),(∀v∈rest,k6 v=true)->fy r (i:Int) c (eg (zQ r i)) l k rest j=bif rest.all (KU r i c)then k else some false:=by
 have hk:=GH hcb;intro rest
 induction rest with
 |nil=>intro j _;rfl
 |cons v rest ih=>
  intro j hv;rw[fy,Yt,aA,mK,a7f r _ v (hv v (by simp)) hr,aA,ih _ (fun x hx=>hv x (by simp[hx])),dD];unfold KU;simp only[bne,gI];by_cases h1:c.kind=1
  ·simp[h1]
  by_cases h2:c.kind=2
  ·cases(zQ r i).contains v<;>cases PT r i v<;>simp[h2]
  cases(zQ r i).contains v<;>simp[h1,h2]
theorem a4K(r:aK)(i:Nat)(c:aL)(hr:r.wt<=1048576)(hi:r.conds[i]?=some c)(hcb:qV c=true):oz r (i:Int)=some ((eg (pK c)).all (KU r i c)):=by
 unfold oz;have hc:=aK.qN hr (aD hi);have hl:=wU hc;have hu:=pG (pK c);have e:lF r.conds (i:Int)=some c:=by unfold lF;simp[hi]
 rw[e,aA,W7 r _ hr,aA,RQ c hc,aA,uJ (by omega),aO,a1q r i c _ _ hr hcb _ _ (fun v hv=>by
  rw[tr]at hv;unfold pK iX at hv;exact(fN.1 hv).2)]
 cases(eg (pK c)).all (KU r i c)<;>rfl
theorem Yx(r:aK)(k:Option Bool)(hr:r.wt<=1048576):∀(rest pre:ai),r.conds=pre++rest->iI r k rest pre.length=bif vA r rest pre.length then k else some false:=by
 intro rest
 induction rest with
 |nil=>intro pre _;rfl
 |cons c rest ih=>
  intro pre h;have hm:c∈r.conds:=by rw[h];simp
  have hc:=aK.qN hr hm;have hi:r.conds[pre.length]?=some c:=by rw[h];simp
  have t:=ih (pre++[c]) (by rw[h];simp);simp only[bB,aY,bX]at t;rw[iI,WE c hc,aA,vA];cases hcb:qV c with
  |false=>rfl
  |true=>
   rw[a4K r _ c hr hi hcb,aA,t];simp only[bne,gI];have e0:decide ((((pre.length:Nat):Int):Int)=0)=decide (pre.length=0):=by rw[bU];simp
   rw[e0];cases decide (pre.length=0)<;>cases decide (c.kind=1)<;>cases(eg (pK c)).all (KU r pre.length c)<;>simp
theorem Yz(r:aK)(y:aH)(i:Nat)(l:aH)(k:Option Bool):∀(rest:aH) (j:Nat),lM r y i l k rest j=bif rest.all (fun v=>y.contains v)then k else some false:=
 fun rest j=>Tc (f:=fun v=>kF y v) (L:=lM r y i l k) (fun _=>rfl) (fun _ _ _=>rfl) rest j (fun v _=>Yt y v)
theorem Yy(r:aK)(b:aH)(k:Option Bool):∀(rest:cH) (i:Nat),(∀a∈rest,a.wt<=1048576)->lK r (eg b) k rest i=bif rest.all (fun a=>L5 a&&(iX a.pat.args).all fun v=>b.contains v)then k else some false:=by
 intro rest
 induction rest with
 |nil=>intro i _;rfl
 |cons a rest ih=>
  intro i h;have ha:=h a (by simp);have h1:=vS a.pat.args;have h2:=aC.dJ (Action.fB ha);rw[lK,a7b a ha,aA,WQ _ (by omega) (fun x hx=>aC.sX (Action.fB ha) hx),aA,uJ (by omega),ih _ (fun x hx=>h x (by simp[hx])),Yz,dD];have e:((iX a.pat.args).all fun v=>(eg b).contains v)=(iX a.pat.args).all fun v=>b.contains v:=by
   congr 1;funext v;exact mK b v
  rw[e];cases L5 a<;>cases(iX a.pat.args).all (fun v=>b.contains v)<;>simp
theorem a4T(r:aK)(h:r.wt<=1048576):uc r=some (mD r):=by
 unfold uc;have hcu:=VM r.conds;have hcl:=aK.rS h;rw[show iI r _ r.conds 0=_ from Yx r _ h r.conds [] rfl,W7 r _ h,aA,Yy r _ _ _ _ (fun a ha=>aK.Nl h ha),a4G _ (fun c hc=>aK.qN h hc) hcl,aA,O9 _ (by omega),WJ _ (aK.Sy h)];have e:=a6I r.conds [];simp only[dA]at e;rw[e];simp only[aA,ax,bX];have hab:(r.cU.all fun a=>L5 a&&(iX a.pat.args).all fun v=>(zQ r r.conds.length).contains v)=L6 r:=rfl;rw[hab];unfold mD;have g1:decide (0<=r.prio)= !decide (r.prio<0):=by rw[bU];simp
 have g2:decide (r.prio<=9)= !decide (r.prio>9):=by rw[bU];simp
 have g3:decide (1<=(r.conds.length:Int))= !decide ((r.conds.length:Int)<1):=by rw[bU];simp
 have g4:decide ((r.conds.length:Int)<=4)= !decide ((r.conds.length:Int)>4):=by rw[bU];simp
 have g5:decide (1<=(r.cU.length:Int))= !decide ((r.cU.length:Int)<1):=by rw[bU];simp
 have g6:decide ((r.cU.length:Int)<=2)= !decide ((r.cU.length:Int)>2):=by rw[bU];simp
 rw[g1,g2,g3,g4,g5,g6];cases yB r.name
 ·rfl
 cases decide (r.prio<0)
 case true=>rfl
 cases decide (r.prio>9)
 case true=>rfl
 cases decide ((r.conds.length:Int)<1)
 case true=>rfl
 cases decide ((r.conds.length:Int)>4)
 case true=>rfl
 cases decide ((r.cU.length:Int)<1)
 case true=>rfl
 cases decide ((r.cU.length:Int)>2)
 case true=>rfl
 cases vA r r.conds 0
 ·rfl
 cases L6 r
 ·rfl
 simp
def Fw(name:Bytes):ah->Nat->Int
 | [],_=> -1
 |r::rs,i=>bif r.name==name then(i:Int)else Fw name rs (i+1)
def MR(all:ah):ah->Nat->Bool
 | [],_=>true
 |r::rs,i=>(mD r&&decide (Fw r.name all 0=(i:Int)))&&MR all rs (i+1)
def uN(l:ah):Bool:=MR l l 0&&decide ((l.length:Int)<=6)
theorem a52(l:ah)(n:Bytes):ru l n=some (Fw n l 0):=by
 unfold ru;have:∀(r:ah) (i:Nat),jX l n (some (-1)) r i=some (Fw n r i):=by
  intro r
  induction r with
  |nil=>intro i;rfl
  |cons x r ih=>intro i;rw[jX,ih,Fw];cases x.name==n<;>rfl
 exact this l 0
theorem a4I(l:ah)(n:Bytes):rV l n=some (Fw n l 0):=by
 unfold rV;have:∀(r:ah) (i:Nat),jM l n (some (-1)) r i=some (Fw n r i):=by
  intro r
  induction r with
  |nil=>intro i;rfl
  |cons x r ih=>intro i;rw[jM,ih,Fw];cases x.name==n<;>rfl
 exact this l 0
theorem a7w(l:ah)(h:oZ aK.wt l<=1048576):rp l=some (uN l):=by
 unfold rp;have:∀(r:ah) (i:Nat) (k:Option Bool),(∀x∈r,x.wt<=1048576)->jV l k r i=bif MR l r i then k else some false:=by
  intro r
  induction r with
  |nil=>intro i k _;rfl
  |cons x r ih=>
   intro i k hx;rw[jV,a5G x (hx x (by simp)),aA,a52,aA,ih _ _ (fun y hy=>hx y (by simp[hy])),MR];simp only[bne,gI];cases mD x<;>cases decide (Fw x.name l 0=(i:Int))<;>simp
 rw[this _ _ _ (fun x hx=>by have:=nZ (w:=aK.wt) hx;omega),ax,uN];cases MR l l 0<;>rfl
theorem a4D(l:ah)(h:oZ aK.wt l<=1048576):ot l=some (uN l):=by
 unfold ot;have:∀(r:ah) (i:Nat) (k:Option Bool),(∀x∈r,x.wt<=1048576)->jK l k r i=bif MR l r i then k else some false:=by
  intro r
  induction r with
  |nil=>intro i k _;rfl
  |cons x r ih=>
   intro i k hx;rw[jK,a4T x (hx x (by simp)),aA,a4I,aA,ih _ _ (fun y hy=>hx y (by simp[hy])),MR];simp only[bne,gI];cases mD x<;>cases decide (Fw x.name l 0=(i:Int))<;>simp
 rw[this _ _ _ (fun x hx=>by have:=nZ (w:=aK.wt) hx;omega),ax,uN];have g:decide ((l.length:Int)<=6)= !decide ((l.length:Int)>6):=by rw[bU];simp
 rw[g];cases MR l l 0<;>cases decide ((l.length:Int)>6)<;>rfl
end Go.Cx
namespace Go.Cx
open Go.RowKit Go.Proofs Tryz
theorem M6{α β:Type}[DecidableEq β]{f:α->α->Option Bool}{g:α->β}{a b:List α}{k:Option Bool}{L:List α->Nat->Option Bool}(hl:a.length=b.length)(sB:∀i,L [] i=k)
 (qx:∀x xs i,L (x::xs) i=(lF b (i:Int)).bind fun y=>(f x y).bind fun r=>bif !r then some false else L xs (i+1)) (hf:∀x y,f x y=some (decide (g x=g y))):
 L a 0=bif decide (a.map g=b.map g)then k else some false:=by
 have key:∀(ra rb pa pb:List α),a=pa++ra->b=pb++rb->pa.length=pb.length->L ra pa.length=bif decide (ra.map g=rb.map g)then k else some false:=by
  intro ra
  induction ra with
  |nil=>
   intro rb pa pb h1 h2 h3;rw[sB];have:rb=[]:=by
    have:=congrArg List.length h1;have:=congrArg List.length h2;simp at*;apply cN;omega
   subst this;simp
  |cons x xs ih=>
   intro rb pa pb h1 h2 h3;cases rb with
   |nil=>
    exfalso;have:=congrArg List.length h1;have:=congrArg List.length h2;simp at*;omega
   |cons y ys=>
    have e1:lF b (pa.length:Int)=some y:=by rw[h3];exact wh h2
    rw[qx,e1,aA,hf,aA];have:=ih ys (pa++[x]) (pb++[y]) (by rw[h1];simp) (by rw[h2];simp) (by simp[h3]);simp only[bB,aY,bX]at this;rw[this];by_cases hxy:g x=g y
    ·simp[hxy]
    ·simp[hxy]
 exact key a b [] [] rfl rfl rfl
theorem Lu{α β:Type}{g:α->β}{a b:List α}(h:a.length≠b.length):a.map g≠b.map g:=fun e=>h (by have:=congrArg List.length e;simpa using this)
theorem EX{α:Type}{c:α->aQ}(a b:List α):((((a.map c).length:Int):Int) != ((b.map c).length:Int))= !decide (a.length=b.length):=by
 rw[bU];simp;omega
theorem map_id'{α:Type}(l:List α):l.map (fun x=>x)=l:=by simp
theorem a1z(a b:aK):ou a b=some (decide (a=b)):=by
 have k2:∀(k:Option Bool),a.cU.length=b.cU.length->gf a b k a.cU 0=bif decide (a.cU=b.cU)then k else some false:=fun k hl=>by
  have:=M6 (g:=fun x:Action=>x) (f:=fun x y:Action=>bif x.kind != y.kind then some false else ey x.pat y.pat) (k:=k) (L:=gf a b k) hl (fun _=>rfl) (fun x xs i=>by
   rw[gf];congr 1;funext y;cases(x.kind != y.kind)<;>rfl) (fun x y=>by
   obtain⟨x0,x1⟩:=x;obtain⟨y0,y1⟩:=y;simp only[Lf,bne,gI];by_cases h0:x0=y0<;>by_cases h1:x1=y1<;>simp[h0,h1])
  rw[map_id',map_id']at this;exact this
 have k1:∀(k:Option Bool),a.conds.length=b.conds.length->jO a b k a.conds 0=bif decide (a.conds=b.conds)then k else some false:=fun k hl=>by
  have:=M6 (g:=fun x:aL=>x) (f:=jG) (k:=k) (L:=jO a b k) hl (fun _=>rfl) (fun _ _ _=>rfl) O8;rw[map_id',map_id']at this;exact this
 unfold ou;rw[EX,EX];obtain⟨a0,a1,a2,a3⟩:=a;obtain⟨b0,b1,b2,b3⟩:=b;simp only at k1 k2⊢;simp only[bne,gI,Bool.not_not];by_cases h0:a0=b0;rotate_left
 ·simp[h0]
 by_cases h1:a1=b1;rotate_left
 ·simp[h1]
 by_cases h2:a2.length=b2.length;rotate_left
 ·have:a2≠b2:=fun e=>h2 (by rw[e])
  simp[h2,this]
 by_cases h3:a3.length=b3.length;rotate_left
 ·have:a3≠b3:=fun e=>h3 (by rw[e])
  simp[h3,this]
 rw[k1 _ h2,k2 _ h3];by_cases h4:a2=b2<;>by_cases h5:a3=b3<;>simp[h0,h1,h2,h3,h4,h5]
theorem Z0(a b:ah):qh a b=some (decide (a=b)):=by
 unfold qh;exact R2 (c:=aK.c) (f:=ou) (fun k=>kf a b k) (fun _ _=>rfl) (fun _ _ _ _=>rfl) a1z
theorem QB(x y:aS):((x.var:Bytes)==y.var&&(x.value:Bytes)==y.value)=decide (x=y):=by
 obtain⟨x0,x1⟩:=x;obtain⟨y0,y1⟩:=y;simp only[gI];by_cases h0:x0=y0<;>by_cases h1:x1=y1<;>simp[h0,h1]
theorem a2i(a b:aR):jx a b=some (decide (a=b)):=by
 unfold jx;exact R2 (c:=aS.c) (f:=fun x y=>some (decide (x=y))) (fun k=>fW a b k) (fun _ _=>rfl) (fun k x xs i=>by rw[fW];congr 1;funext y;rw[QB];rfl) (fun _ _=>rfl)
theorem a1x(a b:aR):o4 a b=some (decide (a=b)):=by
 unfold o4;exact R2 (c:=aS.c) (f:=fun x y=>some (decide (x=y))) (fun k=>iZ a b k) (fun _ _=>rfl) (fun k x xs i=>by rw[iZ];congr 1;funext y;rw[QB];rfl) (fun _ _=>rfl)
theorem ZY(a b:aj):nP a b=some (decide (a=b)):=by
 unfold nP;exact R2 (c:=aN.c) (f:=fun x y=>(lW x.facts y.facts).bind fun r=>bif !r then some false else jx x.bind y.bind) (fun k=>gF a b k) (fun _ _=>rfl) (fun k x xs i=>by
  rw[gF];congr 1;funext y;rw[OZ,aA,aA];cases decide (x.facts=y.facts)<;>rfl) (fun x y=>by
  obtain⟨x0,x1⟩:=x;obtain⟨y0,y1⟩:=y;simp only[OZ,a2i,aA];by_cases h0:x0=y0<;>by_cases h1:x1=y1<;>simp[h0,h1])
theorem Z1(a b:aj):mc a b=some (decide (a=b)):=by
 unfold mc;exact R2 (c:=aN.c) (f:=fun x y=>(iK x.facts y.facts).bind fun r=>bif !r then some false else o4 x.bind y.bind) (fun k=>gm a b k) (fun _ _=>rfl) (fun k x xs i=>by
  rw[gm];congr 1;funext y;rw[Kp,aA,aA];cases decide (x.facts=y.facts)<;>rfl) (fun x y=>by
  obtain⟨x0,x1⟩:=x;obtain⟨y0,y1⟩:=y;simp only[Kp,a1x,aA];by_cases h0:x0=y0<;>by_cases h1:x1=y1<;>simp[h0,h1])
def LS(a b:aG):Bool:=decide (a.av.map aV.shape=b.av.map aV.shape)&&(decide (a.nodes.map (fun x=>(x.parent,x.cQ,x.cond))=b.nodes.map (fun x=>(x.parent,x.cQ,x.cond)))&&decide (a.ends=b.ends))
def Ma(a b:aG):Bool:=decide (a.rules=b.rules)&&(decide (a.ends=b.ends)&&(decide (a.facts=b.facts)&&(decide (a.av=b.av)&&decide (a.nodes=b.nodes))))
theorem a56(a b:aG):pU a b=some (LS a b):=by
 unfold pU LS;rw[EX,EX,EX];by_cases h1:a.av.length=b.av.length;rotate_left
 ·simp[h1,Lu h1]
 by_cases h2:a.nodes.length=b.nodes.length;rotate_left
 ·simp[h2,Lu h2]
 by_cases h3:a.ends.length=b.ends.length;rotate_left
 ·have:a.ends≠b.ends:=fun e=>h3 (by rw[e])
  simp[h3,this]
 have k1:=fun k=>M6 (g:=aV.shape) (f:=fun x y:aV=>gy x.shape y.shape) (k:=k) (L:=jy a b k) h1 (fun _=>rfl) (fun _ _ _=>rfl) (fun x y=>Ro _ _)
 have k2:=fun k=>M6 (g:=fun x:Node=>(x.parent,x.cQ,x.cond)) (f:=fun x y:Node=>bif x.parent != y.parent then some false else bif x.cQ != y.cQ then some false else nG x.cond y.cond) (k:=k) (L:=gz a b k) h2 (fun _=>rfl) (fun x xs i=>by
  rw[gz];congr 1;funext y;cases(x.parent != y.parent)<;>cases(x.cQ != y.cQ)<;>rfl) (fun x y=>by
  simp only[XN,bne,gI];by_cases q0:x.parent=y.parent<;>by_cases q1:x.cQ=y.cQ<;>by_cases q2:x.cond=y.cond<;>simp[q0,q1,q2])
 have k3:=fun k=>M6 (g:=fun x:Int=>x) (f:=fun x y:Int=>some (decide (x=y))) (k:=k) (L:=hG a b k) h3 (fun _=>rfl) (fun x xs i=>by
  rw[hG];congr 1) (fun x y=>rfl)
 rw[k1,k2,k3,map_id',map_id'];simp only[h1,h2,h3,za,bP,aZ];cases decide (a.av.map aV.shape=b.av.map aV.shape)<;>cases decide (a.nodes.map (fun x=>(x.parent,x.cQ,x.cond))=b.nodes.map (fun x=>(x.parent,x.cQ,x.cond)))<;>cases decide (a.ends=b.ends)<;>rfl
theorem a7h(a b:aG):nN a b=some (Ma a b):=by
 unfold nN;simp only[Z0,a1y,Kp,aA,EX];by_cases h1:a.av.length=b.av.length;rotate_left
 ·have:a.av≠b.av:=fun e=>h1 (by rw[e])
  simp only[h1,Ma,this,decide_false,cF,aO,Bool.false_and];cases decide (a.rules=b.rules)<;>cases decide (a.ends=b.ends)<;>cases decide (a.facts=b.facts)<;>rfl
 by_cases h2:a.nodes.length=b.nodes.length;rotate_left
 ·have:a.nodes≠b.nodes:=fun e=>h2 (by rw[e])
  simp only[h1,h2,Ma,this,za,decide_false,cF,bP,aO,aZ,vV];cases decide (a.rules=b.rules)<;>cases decide (a.ends=b.ends)<;>cases decide (a.facts=b.facts)<;>rfl
 have k1:=fun k=>M6 (g:=fun x:aV=>x) (f:=fun x y:aV=>(ey x.shape y.shape).bind fun r=>bif !r then some false else iK x.facts y.facts) (k:=k) (L:=fq a b k) h1 (fun _=>rfl) (fun x xs i=>by
  rw[fq];congr 1;funext y;rw[Lf,aA,aA];cases decide (x.shape=y.shape)<;>rfl) (fun x y=>by
  obtain⟨x0,x1⟩:=x;obtain⟨y0,y1⟩:=y;simp only[Lf,Kp,aA];by_cases q0:x0=y0<;>by_cases q1:x1=y1<;>simp[q0,q1])
 have k2:=fun k=>M6 (g:=fun x:Node=>x) (f:=fun x y:Node=>bif x.parent != y.parent then some false else bif x.cQ != y.cQ then some false else(jG x.cond y.cond).bind fun r=>bif !r then some false else mc x.tokens y.tokens) (k:=k) (L:=fw a b k) h2 (fun _=>rfl) (fun x xs i=>by
  rw[fw];congr 1;funext y;rw[O8,aA,aA];cases(x.parent != y.parent)<;>cases(x.cQ != y.cQ)<;>cases decide (x.cond=y.cond)<;>rfl) (fun x y=>by
  obtain⟨x0,x1,x2,x3⟩:=x;obtain⟨y0,y1,y2,y3⟩:=y;simp only[O8,Z1,aA,bne,gI];by_cases q0:x0=y0<;>by_cases q1:x1=y1<;>by_cases q2:x2=y2<;>by_cases q3:x3=y3<;>simp[q0,q1,q2,q3])
 rw[k1,k2,map_id',map_id',map_id',map_id',Ma];simp only[h1,h2,za,bP,aZ];cases decide (a.rules=b.rules)<;>cases decide (a.ends=b.ends)<;>cases decide (a.facts=b.facts)<;>cases decide (a.av=b.av)<;>cases decide (a.nodes=b.nodes)<;>rfl
end Go.Cx
namespace Go.Cx
open Go.RowKit Go.Proofs Tryz
def xJ(s:Bytes):Option Nat:=if 1<=s.length/\s.length<=4 then(match Lib.decFrom 0 s with|some n=>if Lib.decDigits n=s then some n else none|none=>none)else none
def pI(s:Bytes):Int×Bool:=match xJ s with|some n=>((n:Int),true)|none=>(0,false)
theorem VO:∀(u:Nat),∀b∈Lib.decDigits u,48<=b.toNat/\b.toNat<=57:=by
 intro u
 induction u using Nat.strongRecOn with
 |_ u ih=>
  have hb:∀v:Nat,v<10->48<=(UInt8.ofNat (48+v)).toNat/\(UInt8.ofNat (48+v)).toNat<=57:=by
   intro v hv;have:(UInt8.ofNat (48+v)).toNat=48+v:=by simp;omega
   omega
  intro b hm;rw[Lib.decDigits]at hm;split at hm
  ·rename_i h10;simp only[cy]at hm;subst hm;exact hb u h10
  ·rename_i h10;rcases af.1 hm with hm|hm
   ·exact ih (u/10) (by omega) b hm
   ·simp only[cy]at hm;subst hm;exact hb (u%10) (by omega)
theorem ZS(a:Bytes)(k:Int->Option (Int×Bool))(ha:a.length<=4):∀(rest pre:Bytes) (acc:Nat),a=pre++rest->acc<10^pre.length->∀n,rest.length<n->
 gr a k n (acc:Int) (pre.length:Int)=(match Lib.decFrom acc rest with|some m=>k (m:Int)|none=>some (0,false)):=by
 intro rest
 induction rest with
 |nil=>
  intro pre acc h _ n hn;obtain⟨m,rfl⟩:∃m,n=m+1:=⟨n-1,by simp at hn;omega⟩
  have e1:decide ((pre.length:Int)<(a.length:Int))=false:=by simp[h]
  rw[gr,e1];rfl
 |cons x xs ih=>
  intro pre acc h hacc n hn;obtain⟨m,rfl⟩:∃m,n=m+1:=⟨n-1,by simp at hn;omega⟩
  have hl:a.length=pre.length+(xs.length+1):=by rw[h];simp
  have e1:decide ((pre.length:Int)<(a.length:Int))=true:=by rw[hl];simp;omega
  have e4:IntKind.i64.wrap ((pre.length:Int)+1)=((pre++[x]).length:Int):=by rw[EO (by omega)];simp
  have h10:acc<10000:=dP hacc (tF (by omega) (show pre.length<=4 by omega));have hx:=x.toNat_lt;rw[gr,e1,aO,wh h,aA,e4];by_cases c1:(x.toNat:Int)<48
  ·have:Lib.digitVal x=none:=by unfold Lib.digitVal;rw[b8 (by omega)]
   simp only[Lib.decFrom,this];rw[bM c1,aO]
  ·by_cases c2:(x.toNat:Int)>57
   ·have:Lib.digitVal x=none:=by unfold Lib.digitVal;rw[b8 (by omega)]
    simp only[Lib.decFrom,this];rw[bE c1,aZ,bM c2,aO]
   ·have hd:Lib.digitVal x=some (x.toNat-48):=by unfold Lib.digitVal;rw[bK (by omega)]
    have e5:IntKind.i64.wrap ((IntKind.i64.wrap (10*(acc:Int)))+(IntKind.i64.wrap (IntKind.u8.wrap ((x.toNat:Int)-48))))=((acc*10+(x.toNat-48):Nat):Int):=by
     rw[gV (k:=.u8) (rQ.u8.2 (by omega)),gV (n:=(10:Int)*(acc:Int)) (rQ.i64.2 (by omega)),gV (n:=(x.toNat:Int)-48) (rQ.i64.2 (by omega)),gV (rQ.i64.2 (by omega))];omega
    simp only[Lib.decFrom,hd];rw[bE c1,aZ,bE c2,aZ,e5];refine ih (pre++[x]) _ (by simp[h]) ?_ m (by simp at hn;omega);rw[bB,fE,vY];omega
theorem OY(s:Bytes):nF s=some (pI s):=by
 unfold nF;rw[Ih,aA];by_cases hl:1<=s.length/\s.length<=4
 ·have e1:(decide ((s.length:Int)>=1)&&decide ((s.length:Int)<=4))=true:=by simp;omega
  have t:=ZS s (fun z=>((oC z).bind fun EP=>(bif !((EP:Bytes)==s)then(some (0,false))else(some (z,true))))) hl.2 s [] 0 rfl (by simp) fuel (by unfold fuel;omega);rw[e1,bP,aZ];refine t.trans ?_;unfold pI xJ;rw[bK hl];cases hd:Lib.decFrom 0 s with
  |none=>rfl
  |some m=>
   have hm:=Lib.decFrom_lt s 0 m hd;have h10:m<10000:=by
    have:=tF (n:=10) (by omega) hl.2;omega
   simp only;rw[a54 _ (rQ.i64.2 (by omega)),aA];have e2:Lib.itoa (m:Int)=Lib.decDigits m:=by unfold Lib.itoa;rw[b8 (by omega)];simp
   rw[e2];by_cases he:Lib.decDigits m=s
   ·rw[bK he,he];simp
   ·rw[b8 he];have:(Lib.decDigits m==s)=false:=by simpa using he
    rw[this];rfl
 ·have e1:(decide ((s.length:Int)>=1)&&decide ((s.length:Int)<=4))=false:=by
   rw[C9,qT,qT];omega
  rw[e1];unfold pI xJ;rw[b8 hl];rfl
theorem O7(s:Bytes):l6 s=some (pI s):=by
 unfold l6 pI xJ;by_cases hl:1<=s.length/\s.length<=4
 ·have e1:decide ((s.length:Int)<1)=false:=by simp;omega
  have e2:decide ((s.length:Int)>4)=false:=by simp;omega
  rw[bK hl,e1,aZ,e2,aZ];unfold zB OB;rw[bK (by omega)];cases s with
  |nil=>simp at hl
  |cons b t=>
   have fin:∀(m:Nat),Lib.decFrom 0 (b::t)=some m->(bif decide ((m:Int)<0)then some ((0:Int),false)else bif decide ((m:Int)>9999)then some (0,false)else(ji (m:Int)).bind fun y8=>bif !((y8:Bytes)==(b::t))then some (0,false)else some ((m:Int),true))=
    some (match(if Lib.decDigits m=b::t then some m else none)with|some n=>((n:Int),true)|none=>(0,false)):=by
    intro m hd;have hm:=Lib.decFrom_lt (b::t) 0 m hd;have h10:m<10000:=by
     have:=tF (n:=10) (by omega) hl.2;omega
    have e3:decide ((m:Int)<0)=false:=by simp
    have e4:decide ((m:Int)>9999)=false:=by simp;omega
    have e5:Lib.itoa (m:Int)=Lib.decDigits m:=by unfold Lib.itoa;rw[b8 (by omega)];simp
    rw[e3,aZ,e4,aZ,a1r,aA,e5];by_cases he:Lib.decDigits m=b::t
    ·rw[bK he,he];simp
    ·rw[b8 he];have:(Lib.decDigits m==(b::t))=false:=by simpa using he
     rw[this];rfl
   have sign:∀(n:Int),b.toNat<48->(bif decide (n<0)then some ((0:Int),false)else bif decide (n>9999)then some (0,false)else(ji n).bind fun y8=>bif !((y8:Bytes)==(b::t))then some (0,false)else some (n,true))=some (0,false):=by
    intro n hb;by_cases hn:n<0
    ·rw[bM hn];rfl
    rw[bE hn,aZ,a1r,aA];cases decide (n>9999)with
    |true=>rfl
    |false=>
     have e5:Lib.itoa n=Lib.decDigits n.toNat:=by unfold Lib.itoa;rw[b8 hn]
     have:(Lib.itoa n==(b::t))=false:=by
      rw[e5,cZ];intro h;have:=VO n.toNat b (by rw[h];simp);omega
     rw[this];rfl
   simp only[Lib.atoi];by_cases hb:b=45
   ·subst hb;have hd:Lib.decFrom 0 ((45:UInt8)::t)=none:=by simp[Lib.decFrom,Lib.digitVal]
    rw[bK (by decide),hd];cases Lib.decNat t with
    |none=>rfl
    |some m=>exact sign _ (by decide)
   ·rw[b8 (by simpa using hb)];by_cases Sl:b=43
    ·subst Sl;have hd:Lib.decFrom 0 ((43:UInt8)::t)=none:=by simp[Lib.decFrom,Lib.digitVal]
     rw[bK (by decide),hd];cases Lib.decNat t with
     |none=>rfl
     |some m=>exact sign (m:Int) (by decide)
    ·rw[b8 (by simpa using Sl)];have hdn:Lib.decNat (b::t)=Lib.decFrom 0 (b::t):=by simp[Lib.decNat]
     rw[hdn];cases hd:Lib.decFrom 0 (b::t)with
     |none=>rfl
     |some m=>exact fin m hd
 ·rw[b8 hl];by_cases h1:(s.length:Int)<1
  ·rw[bM h1];rfl
  ·have h2:(s.length:Int)>4:=by omega
   rw[bE h1,aZ,bM h2];rfl
def vT(a b:Bytes):Int:=if Op.bytesLess a b=true then-1 else if a=b then 0 else 1
def GG(x y:Int):Int:=if x<y then-1 else if x>y then 1 else 0
def AU(a b:Bytes):Int:=match xJ a,xJ b with
 |some x,some y=>GG x y
 |some _,none=> -1
 |none,some _=>1
 |none,none=>vT a b
def tC{α:Type}(g:α->α->Int):List α->List α->Option Int
 |x::xs,y::ys=>if g x y≠0 then some (g x y)else tC g xs ys
 |_,_=>none
def cmpL{α:Type}(g:α->α->Int)(a b:List α):Int:=match tC g a b with|some z=>z|none=>GG a.length b.length
def nu(a b:aC):Int:=if a.rel≠b.rel then vT a.rel b.rel else cmpL AU a.args b.args
theorem SY{a b:Bytes}(h:a≠b):vT a b≠0:=by
 unfold vT;split
 ·omega
 ·first|omega| (rw[b8 h];omega)
theorem My(a:Bytes):vT a a=0:=by
 unfold vT;rw[vK];simp
theorem SU:∀(a b:Bytes),Lib.compareBytes a b=vT a b
 | [],[]=>by simp[Lib.compareBytes,vT,Op.bytesLess]
 | [],_::_=>by simp[Lib.compareBytes,vT,Op.bytesLess]
 |_::_,[]=>by simp[Lib.compareBytes,vT,Op.bytesLess]
 |a::xs,b::ys=>by
  have ih:=SU xs ys;simp only[Lib.compareBytes,vT,Op.bytesLess];by_cases h1:a<b
  ·simp[h1]
  ·by_cases h2:b<a
   ·have hne:a≠b:=fun e=>by subst e;exact h1 h2
    simp[h1,h2,hne]
   ·have e:a=b:=by
     rw[CD]at h1 h2;exact UInt8.toNat_inj.1 (by omega)
    subst e;rw[b8 h1,b8 h1,ih];simp[vT,h1]
theorem Kk{α:Type}{f:α->α->Option Int}{g:α->α->Int}{c:α->aQ}{L:List α->Nat->Option Int}{k:Option Int}{b:List α}(sB:∀i,L [] i=k)
 (qx:∀x xs i,L (x::xs) i=bif decide (((i:Int):Int)<((b.map c).length:Int))then((lF b (i:Int)).bind fun y=>((f x y).bind fun z=>(bif (z:Int) != 0 then(some z)else(L xs (i+1)))))else k):
 ∀(l pre rest:List α),b=pre++rest->(∀x∈l,∀y∈rest,f x y=some (g x y))->L l pre.length=(match tC g l rest with|some z=>some z|none=>k):=by
 intro l
 induction l with
 |nil=>intro pre rest h _;rw[sB];cases rest<;>rfl
 |cons x xs ih=>
  intro pre rest h hf;rw[qx];cases rest with
  |nil=>
   have e1:decide ((pre.length:Int)<((b.map c).length:Int))=false:=by simp[h]
   rw[e1];rfl
  |cons y ys=>
   have e1:decide ((pre.length:Int)<((b.map c).length:Int))=true:=by simp[h];omega
   rw[e1,aO,wh h,aA,hf x (by simp) y (by simp),aA];simp only[tC];have t:=ih (pre++[y]) ys (by simp[h]) (fun x' hx y' hy=>hf x' (by simp[hx]) y' (by simp[hy]));rw[bB,fE]at t;by_cases hz:g x y=0
   ·have e2:(g x y != 0)=false:=by simp[hz]
    rw[e2,aZ,t,b8 (by simp[hz])]
   ·have e2:(g x y != 0)=true:=by simp[hz]
    rw[e2,aO,bK hz]
theorem Kl(x y:Int):(bif decide (x<y)then some (-1:Int)else bif decide (x>y)then some 1 else some 0)=some (GG x y):=by
 unfold GG;by_cases h1:x<y
 ·simp[h1]
 ·by_cases h2:x>y
  ·simp[h1,h2]
  ·simp[h1,h2]
theorem a0g(a b:Bytes):rI a b=some (vT a b):=by
 unfold rI vT;cases h:Op.bytesLess a b with
 |true=>rfl
 |false=>
  by_cases e:a=b
  ·simp[e]
  ·have e':(a==b)=false:=by simpa using e
   simp[e,e']
theorem a0f(a b:Bytes):ir a b=some (AU a b):=by
 unfold ir AU;rw[OY,OY,aA,aA,a0g];unfold pI;cases xJ a with
 |none=>cases xJ b<;>rfl
 |some x=>
  cases xJ b with
  |none=>rfl
  |some y=>
   simp only[aO,bP,aZ];exact Kl _ _
theorem WD(x y:Int):gh x y=some (GG x y):=by
 unfold gh;exact Kl x y
theorem a0A(a b:Bytes):pV a b=some (vT a b):=by
 unfold pV;show some (Lib.compareBytes a b)=_;rw[SU]
theorem a4E(a b:Bytes):kV a b=some (AU a b):=by
 unfold kV AU;rw[O7,O7,aA,aA,a0A];unfold pI;cases xJ a with
 |none=>cases xJ b<;>rfl
 |some x=>
  cases xJ b with
  |none=>rfl
  |some y=>
   simp only[aO,WD,aA]
theorem X9(a b:aC):eR a b=some (nu a b):=by
 unfold eR nu;by_cases h:a.rel=b.rel
 ·have e:(a.rel==b.rel)=true:=by simpa using h
  rw[e,bP,aZ,b8 (by simpa using h)];have t:=fun k=>Kk (f:=ir) (g:=AU) (c:=tx) (L:=iM a b k) (b:=b.args) (k:=k) (fun _=>rfl) (fun _ _ _=>rfl) a.args [] b.args rfl (fun x _ y _=>a0f x y)
  refine(t _).trans ?_;unfold cmpL;cases tC AU a.args b.args with
  |some z=>rfl
  |none=>simp only[ax];exact Kl _ _
 ·have e:(a.rel==b.rel)=false:=by simpa using h
  rw[e,cF,aO,bK h,a0g];rfl
theorem WC(a b:aC):fJ a b=some (nu a b):=by
 unfold fJ nu;rw[a0A,aA];by_cases h:a.rel=b.rel
 ·have e:(vT a.rel b.rel != 0)=false:=by rw[h,My];rfl
  rw[e,aZ,b8 (by simpa using h)];have t:=fun k=>Kk (f:=kV) (g:=AU) (c:=tx) (L:=iG a b k) (b:=b.args) (k:=k) (fun _=>rfl) (fun _ _ _=>rfl) a.args [] b.args rfl (fun x _ y _=>a4E x y)
  refine(t _).trans ?_;unfold cmpL;cases tC AU a.args b.args with
  |some z=>rfl
  |none=>simp only[ax,WD,aA]
 ·have e:(vT a.rel b.rel != 0)=true:=by simpa using SY h
  rw[e,aO,bK h]
theorem a4y(a b:aN):mM a b=some (cmpL nu a.facts b.facts):=by
 unfold mM;have t:=fun k=>Kk (f:=eR) (g:=nu) (c:=aC.c) (L:=gY a b k) (b:=b.facts) (k:=k) (fun _=>rfl) (fun _ _ _=>rfl) a.facts [] b.facts rfl (fun x _ y _=>X9 x y)
 refine(t _).trans ?_;unfold cmpL;cases tC nu a.facts b.facts with
 |some z=>rfl
 |none=>simp only[ax];exact Kl _ _
theorem a4F(a b:aN):mL a b=some (cmpL nu a.facts b.facts):=by
 unfold mL mX;have t:=Kk (f:=fJ) (g:=nu) (c:=aC.c) (L:=eE a.facts b.facts ((gh ((a.facts.map aC.c).length:Int) ((b.facts.map aC.c).length:Int)).bind fun ML=>(some ML))) (b:=b.facts) (k:=_) (fun _=>rfl) (fun _ _ _=>rfl) a.facts [] b.facts rfl (fun x _ y _=>WC x y);rw[show eE a.facts b.facts _ a.facts 0=_ from t];unfold cmpL;cases tC nu a.facts b.facts with
 |some z=>rfl
 |none=>simp only[ax,WD,aA]
def chainB:Option aC->aJ->Bool
 |_,[]=>true
 |p,x::xs=>rA x&&(match p with|some q=>decide (nu q x<0)|none=>true)&&chainB (some x) xs
def mJ(l:aJ):Bool:=chainB none l&&decide (l.length<=24)
theorem Mq{isF:aC->Option Bool}{cmp:aC->aC->Option Int}{a:aJ}{L:aJ->Nat->Option Bool}{k:Option Bool}(ha:a.length<=1099511627770)(hc:∀x y,cmp x y=some (nu x y))(sB:∀i,L [] i=k)
 (qx:∀x xs i,L (x::xs) i=((isF x).bind fun y=>(bif !(y)then(some false)else(bif decide (((i:Int):Int)>0)then((lF a (IntKind.i64.wrap ((i:Int)-1))).bind fun q=>((cmp q x).bind fun z=>(bif decide ((z:Int)>=0)then(some false)else(L xs (i+1)))))else(L xs (i+1)))))):
 ∀(l pre:aJ),a=pre++l->(∀x∈l,isF x=some (rA x))->L l pre.length=bif chainB pre.getLast? l then k else some false:=by
 intro l
 induction l with
 |nil=>intro pre _ _;rw[sB];rfl
 |cons x xs ih=>
  intro pre h hf;have hl:a.length=pre.length+(xs.length+1):=by rw[h];simp
  have t:=ih (pre++[x]) (by simp[h]) (fun y hy=>hf y (by simp[hy]));rw[bB,fE,mH]at t;rw[qx,hf x (by simp),aA,t];simp only[chainB];cases rA x with
  |false=>rfl
  |true=>
   rw[bP,aZ,eo];rcases w5 pre with rfl|⟨p,z,Y6⟩
   ·simp
   ·rw[vz]at Y6;subst Y6;have e0:decide (((p++[z]).length:Int)>0)=true:=by simp<;>omega
    have e1:IntKind.i64.wrap (((p++[z]).length:Int)-1)=(p.length:Int):=by
     rw[gV (rQ.i64.2 (by simp at hl⊢;omega))];simp
    have e2:lF a (p.length:Int)=some z:=wh (xs:=x::xs) (by rw[h];simp);rw[e0,aO,e1,e2,aA,hc,aA,mH];by_cases hz:nu z x<0
    ·have e3:decide (nu z x>=0)=false:=by simp;omega
     rw[e3,aZ];show _=bif (decide (nu z x<0)&&chainB (some x) xs)then k else some false
     rw[bM hz,eo]
    ·have e3:decide (nu z x>=0)=true:=by simp;omega
     rw[e3,aO];show _=bif (decide (nu z x<0)&&chainB (some x) xs)then k else some false
     rw[bE hz];rfl
theorem X6(l:aJ)(h:oZ aC.wt l<=1048576):nE l=some (mJ l):=by
 unfold nE mJ;have hl:=n9 aC.wt l;have t:=Mq (isF:=nh) (cmp:=eR) (a:=l) (L:=jU l (some (decide ((((l.map aC.c).length:Int):Int)<=24)))) (k:=_) (by omega) X9 (fun _=>rfl) (fun _ _ _=>rfl) l [] rfl (fun x hx=>XE x (by have:=nZ (w:=aC.wt) hx;omega));refine t.trans ?_;have e:decide (((l.map aC.c).length:Int)<=24)=decide (l.length<=24):=by rw[ax];congr 1;rw[wT];omega
 rw[e];show(bif chainB none l then _ else _)=_;cases chainB none l<;>rfl
theorem Vz(l:aJ)(h:oZ aC.wt l<=1048576):nB l=some (mJ l):=by
 unfold nB mJ;have hl:=n9 aC.wt l;have t:=Mq (isF:=ng) (cmp:=fJ) (a:=l) (L:=ga l (some true)) (k:=_) (by omega) WC (fun _=>rfl) (fun _ _ _=>rfl) l [] rfl (fun x hx=>WI x (by have:=nZ (w:=aC.wt) hx;omega));rw[show ga l (some true) l 0=_ from t];by_cases h24:l.length<=24
 ·have e:decide (((l.map aC.c).length:Int)>24)=false:=by rw[ax];simp;omega
  rw[e,aZ,bM h24,uZ];show(bif chainB none l then _ else _)=_;cases chainB none l<;>rfl
 ·have e:decide (((l.map aC.c).length:Int)>24)=true:=by rw[ax];simp;omega
  rw[e,aO,bE h24,vV]
end Go.Cx
namespace Go.Cx
open Go.RowKit Go.Proofs Tryz
def PB(b:aR):Prop:=b.length<=1048576/\∀x∈b,x.var.length<=1048576/\x.value.length<=1048576
theorem PB.nil:PB []:=⟨by simp,by simp⟩
def uO:Option aS->aR->Bool
 |_,[]=>true
 |p,x::xs=>k6 x.var&&(j8 x.value&&((match p with|some q=>Op.bytesLess q.var x.var|none=>true)&&uO (some x) xs))
def nL(b:aR):Bool:=uO none b&&decide (b.length<=6)
theorem JM{b:aR}(h:nL b=true):b.length<=6:=by
 unfold nL at h;simp only[aW,bC]at h;exact h.2
theorem PI{isV Z5:Bytes->Option Bool}{a:aR}{L:aR->Nat->Option Bool}{k:Option Bool}(ha:a.length<=1099511627770)(hV:∀x:Bytes,x.length<=1048576->isV x=some (k6 x))(hA:∀x:Bytes,x.length<=1048576->Z5 x=some (j8 x))(sB:∀i,L [] i=k)
 (qx:∀x xs i,L (x::xs) i=((isV x.var).bind fun y=>(bif !(y)then(some false)else((Z5 x.value).bind fun z=>(bif !(z)then(some false)else(bif decide (((i:Int):Int)>0)then((lF a (IntKind.i64.wrap ((i:Int)-1))).bind fun q=>(bif !(Op.bytesLess q.var x.var)then(some false)else(L xs (i+1))))else(L xs (i+1)))))))):
 ∀(l pre:aR),a=pre++l->(∀x∈l,x.var.length<=1048576/\x.value.length<=1048576)->L l pre.length=bif uO pre.getLast? l then k else some false:=by
 intro l
 induction l with
 |nil=>intro pre _ _;rw[sB];rfl
 |cons x xs ih=>
  intro pre h hf;have hl:a.length=pre.length+(xs.length+1):=by rw[h];simp
  have t:=ih (pre++[x]) (by simp[h]) (fun y hy=>hf y (by simp[hy]));rw[bB,fE,mH]at t;rw[qx,hV _ (hf x (by simp)).1,aA,hA _ (hf x (by simp)).2,aA,t];simp only[uO];cases k6 x.var with
  |false=>rfl
  |true=>
   cases j8 x.value with
   |false=>rfl
   |true=>
    simp only[bP,aZ,eo];rcases w5 pre with rfl|⟨p,z,Y6⟩
    ·simp
    ·rw[vz]at Y6;subst Y6;have e0:decide (((p++[z]).length:Int)>0)=true:=by simp<;>omega
     have e1:IntKind.i64.wrap (((p++[z]).length:Int)-1)=(p.length:Int):=by
      rw[gV (rQ.i64.2 (by simp at hl⊢;omega))];simp
     have e2:lF a (p.length:Int)=some z:=wh (xs:=x::xs) (by rw[h];simp);rw[e0,aO,e1,e2,aA,mH];show _=bif (Op.bytesLess z.var x.var&&uO (some x) xs)then k else some false
     cases Op.bytesLess z.var x.var<;>rfl
theorem T6(b:aR)(h:PB b):jq b=some (nL b):=by
 unfold jq nL;have t:=fun k=>PI (isV:=gT) (Z5:=fA) (a:=b) (L:=iw b k) (k:=k) (by have:=h.1;omega) QJ KK (fun _=>rfl) (fun _ _ _=>rfl) b [] rfl h.2
 refine(t _).trans ?_;have e:decide (((b.map aS.c).length:Int)<=6)=decide (b.length<=6):=by rw[ax];congr 1;rw[wT];omega
 rw[e];show(bif uO none b then _ else _)=_;cases uO none b<;>rfl
theorem Sr(b:aR)(h:PB b):jj b=some (nL b):=by
 unfold jj nL;have t:=fun k=>PI (isV:=kB) (Z5:=ew) (a:=b) (L:=gL b k) (k:=k) (by have:=h.1;omega) Ty K7 (fun _=>rfl) (fun _ _ _=>rfl) b [] rfl h.2
 rw[show gL b (some true) b 0=_ from t _];by_cases h6:b.length<=6
 ·have e:decide (((b.map aS.c).length:Int)>6)=false:=by rw[ax];simp;omega
  rw[e,aZ,bM h6,uZ];show(bif uO none b then _ else _)=_;cases uO none b<;>rfl
 ·have e:decide (((b.map aS.c).length:Int)>6)=true:=by rw[ax];simp;omega
  rw[e,aO,bE h6,vV]
def k7(t:Bytes):aR->Option Bytes
 | []=>none
 |x::xs=>bif x.var==t then some x.value else k7 t xs
def yQ(b:aR)(t:Bytes):Bytes×Bool:=bif j8 t then(t,true)else bif k6 t then(match k7 t b with|some v=>(v,true)|none=>([],false))else([],false)
theorem a2l(b:aR)(t:Bytes)(ht:t.length<=1048576):oP b t=some (yQ b t):=by
 unfold oP yQ;have key:∀(l:aR) (i:Nat),gU b t (some ([],false)) l i=some (bif k6 t then(match k7 t l with|some v=>(v,true)|none=>([],false))else([],false)):=by
  intro l
  induction l with
  |nil=>intro i;rw[gU];cases k6 t<;>rfl
  |cons x xs ih=>
   intro i;rw[gU,QJ t ht,aA,ih];simp only[k7];cases x.var==t<;>cases k6 t<;>rfl
 rw[KK t ht,aA,key];cases j8 t<;>rfl
theorem a25(b:aR)(t:Bytes)(ht:t.length<=1048576):oK b t=some (yQ b t):=by
 unfold oK yQ;have key:∀(l:aR) (i:Nat),kD b t (some ([],false)) l i=some (match k7 t l with|some v=>(v,true)|none=>([],false)):=by
  intro l
  induction l with
  |nil=>intro i;rfl
  |cons x xs ih=>
   intro i;rw[kD,ih];simp only[k7];cases x.var==t<;>rfl
 rw[K7 t ht,aA,Ty t ht,aA,key];cases j8 t<;>cases k6 t<;>rfl
theorem Rm(b:aR)(h:b.length<=1099511627776):qF b=some b:=by
 unfold qF;rw[QG h (by decide)];simp
theorem RR(b:aR)(h:b.length<=1099511627776):iL b=some b:=by
 unfold iL;rw[QG h (by decide)];simp
def zJ(v val:Bytes):aR->aR
 | []=>[⟨v,val⟩]
 |x::xs=>bif !(Op.bytesLess x.var v||x.var==v)then⟨v,val⟩::x::xs else x::zJ v val xs
theorem MC(v val:Bytes)(b:aR):(zJ v val b).length=b.length+1:=by
 induction b with
 |nil=>rfl
 |cons x xs ih=>simp only[zJ];cases !(Op.bytesLess x.var v||x.var==v)<;>simp[ih]
theorem QL(v val:Bytes)(b:aR){x:aS}(h:x∈zJ v val b):x=⟨v,val⟩\/x∈b:=by
 induction b with
 |nil=>simp[zJ]at h;exact .inl h
 |cons y ys ih=>
  simp only[zJ]at h;cases hc: !(Op.bytesLess y.var v||y.var==v)with
  |true=>
   rw[hc,aO]at h;rcases bI.1 h with h|h
   ·exact .inl h
   ·exact .inr h
  |false=>
   rw[hc,aZ]at h;rcases bI.1 h with h|h
   ·exact .inr (by simp[h])
   ·rcases ih h with h|h
    ·exact .inl h
    ·exact .inr (by simp[h])
theorem T9{γ:Type}{v val:Bytes}{L:aR->Nat->Bool->aR->Option γ}{k:Bool->aR->Option γ}{K:aR->Option γ}(hk1:∀w,k true w=K w)(hk2:∀w:aR,w.length<1099511627770->k false w=K (w++[⟨v,val⟩]))(sB:∀i d w,L [] i d w=k d w)
 (qx:∀x xs i d w,L (x::xs) i d w=(bif !(d)then(bif !(Op.bytesLess x.var v||(x.var:Bytes)==v)then(bif room ((w.map aS.c).length+([[D.str v,D.str val]]).length) 32 then(bif room (((w.map aS.c)++([[D.str v,D.str val]])).length+([[D.str x.var,D.str x.value]]).length) 32 then(L xs (i+1) true ((w++([(⟨v,val⟩:aS)]))++([x])))else none)else none)else(bif room ((w.map aS.c).length+([[D.str x.var,D.str x.value]]).length) 32 then(L xs (i+1) d (w++([x])))else none))else(bif room ((w.map aS.c).length+([[D.str x.var,D.str x.value]]).length) 32 then(L xs (i+1) d (w++([x])))else none))):
 ∀(l:aR) (i:Nat) (w:aR),w.length+l.length<1099511627760->L l i false w=K (w++zJ v val l):=by
 have c1:∀(l:aR) (i:Nat) (w:aR),w.length+l.length<1099511627765->L l i true w=K (w++l):=by
  intro l
  induction l with
  |nil=>intro i w _;rw[sB,hk1,dA]
  |cons x xs ih=>
   intro i w hw;simp only[aY]at hw;rw[qx,bP,aZ,l9 (by omega) (by decide),aO,ih (i+1) (w++[x]) (by simp;omega)];simp
 intro l
 induction l with
 |nil=>intro i w hw;simp only[bX]at hw;rw[sB,hk2 _ (by omega)];rfl
 |cons x xs ih=>
  intro i w hw;simp only[aY]at hw;have r1:∀y:aQ,room ((w.map aS.c).length+([y]).length) 32=true:=fun y=>l9 (by omega) (by decide)
  have r2:room (((w.map aS.c)++([[D.str v,D.str val]])).length+([[D.str x.var,D.str x.value]]).length) 32=true:=G4 (by simp;omega) (by decide);have t1:=ih (i+1) (w++[x]) (by simp;omega);have t2:=c1 xs (i+1) ((w++[⟨v,val⟩])++[x]) (by simp;omega);rw[qx,cF,aO,r1,r1,r2];simp only[aO,zJ];cases !(Op.bytesLess x.var v||x.var==v)with
  |true=>rw[aO,aO,t2];simp
  |false=>rw[aZ,aZ,t1];simp
theorem a5H(b:aR)(v val:Bytes)(h:b.length<1099511627700):vn b v val=some (zJ v val b):=by
 unfold vn;exact T9 (v:=v) (val:=val) (K:=fun w=>some w) (L:=l8 b v val (fun(z:Bool) (q:aR)=>(bif !(z)then(bif room ((q.map aS.c).length+([[D.str v,D.str val]]).length) 32 then(some (q++([(⟨v,val⟩:aS)])))else none)else(some q)))) (fun w=>rfl) (fun w hw=>by show(bif !false then _ else _)=_;rw[l9 (by omega) (by decide)];rfl) (fun _ _ _=>rfl) (fun _ _ _ _ _=>rfl) b 0 [] (by simp;omega)
def Dy(b:aR)(v val:Bytes):aR×Bool:=bif nL b&&(k6 v&&j8 val)then(match k7 v b with|some o=>bif o==val then(b,true)else([],false)|none=>bif decide (b.length=6)then([],false)else(zJ v val b,true))else([],false)
theorem Sa{b:aR}{v val:Bytes}(h:PB b)(hv:v.length<=1048576)(hl:val.length<=1048576):PB (Dy b v val).1:=by
 unfold Dy;cases hb:nL b&&(k6 v&&j8 val)with
 |false=>exact PB.nil
 |true=>
  rw[aO];have h6:b.length<=6:=JM (by simp only[aW]at hb;exact hb.1);cases k7 v b with
  |some o=>simp only;cases o==val<;>first|exact h|exact PB.nil
  |none=>
   simp only;cases decide (b.length=6)with
   |true=>exact PB.nil
   |false=>
    refine⟨by simp only[aZ,MC];omega,fun x hx=>?_⟩;rcases QL _ _ _ hx with rfl|hx
    ·exact⟨hv,hl⟩
    ·exact h.2 x hx
theorem a7z(b:aR)(v val:Bytes)(h:PB b)(hv:v.length<=1048576)(hl:val.length<=1048576):sR b v val=some (Dy b v val):=by
 unfold sR Dy;have hlen:=h.1;rw[T6 b h,aA,QJ v hv,aA,KK val hl,aA,a2l b v hv,aA,Rm b (by omega),aA,a5H b v val (by omega),aA];have e6:((((b.map aS.c).length:Int):Int)==6)=decide (b.length=6):=by
  rw[ax,bU];simp;omega
 rw[e6];cases hb:nL b with
 |false=>rfl
 |true=>
  cases hvv:k6 v with
  |false=>rfl
  |true=>
   cases j8 val with
   |false=>rfl
   |true=>
    have Pm:yQ b v=(match k7 v b with|some o=>(o,true)|none=>([],false)):=by unfold yQ;rw[yR hvv,hvv];rfl
    rw[Pm];simp only[bP,aZ,eo,uZ,aO];cases k7 v b with
    |some o=>simp only[aO];cases o==val<;>rfl
    |none=>simp only[aZ];cases decide (b.length=6)<;>rfl
theorem a7g(b:aR)(v val:Bytes)(h:PB b)(hv:v.length<=1048576)(hl:val.length<=1048576):sH b v val=some (Dy b v val):=by
 unfold sH Dy;have hlen:=h.1;have t:=(T9 (v:=v) (val:=val) (K:=fun w=>some ((w,true):aR×Bool)) (L:=jh b v val (fun(z:Bool) (q:aR)=>(bif !(z)then(bif room ((q.map aS.c).length+([[D.str v,D.str val]]).length) 32 then(some (q++([(⟨v,val⟩:aS)]),true))else none)else(some (q,true))))) (fun w=>rfl) (fun w hw=>by show(bif !false then _ else _)=_;rw[l9 (by omega) (by decide)];rfl) (fun _ _ _=>rfl) (fun _ _ _ _ _=>rfl) b 0 [] (by simp;omega))
 rw[Sr b h,aA,Ty v hv,aA,K7 val hl,aA,a25 b v hv,aA,RR b (by omega),aA,t];cases hb:nL b with
 |false=>rfl
 |true=>
  have h6:=JM hb;have e6:decide ((((b.map aS.c).length:Int):Int)>=6)=decide (b.length=6):=by
   rw[ax];congr 1;rw[wT];omega
  rw[e6];cases hvv:k6 v with
  |false=>rfl
  |true=>
   cases j8 val with
   |false=>rfl
   |true=>
    have Pm:yQ b v=(match k7 v b with|some o=>(o,true)|none=>([],false)):=by unfold yQ;rw[yR hvv,hvv];rfl
    rw[Pm];simp only[bP,aZ,eo,uZ,aO];cases k7 v b with
    |some o=>simp only[aO];cases o==val<;>rfl
    |none=>simp only[aZ];cases decide (b.length=6)<;>rfl
def KZ:aH->aH->aR->aR×Bool
 | [],_,w=>(w,true)
 |_::_,[],_=>([],false)
 |x::xs,y::ys,w=>bif j8 x then(bif x==y then KZ xs ys w else([],false))else(bif (Dy w x y).2 then KZ xs ys (Dy w x y).1 else([],false))
def sE(p f:aC)(b:aR):aR×Bool:=bif vu p&&(rA f&&(nL b&&(p.rel==f.rel&&decide (p.args.length=f.args.length))))then KZ p.args f.args b else([],false)
theorem OF:∀(l r:aH) (w:aR),PB w->(∀x∈l,x.length<=1048576)->(∀x∈r,x.length<=1048576)->PB (KZ l r w).1
 | [],_,w,h,_,_=>h
 |_::_,[],_,_,_,_=>PB.nil
 |x::xs,y::ys,w,h,hl,hr=>by
  simp only[KZ];have i1:=OF xs ys w h (fun z hz=>hl z (by simp[hz])) (fun z hz=>hr z (by simp[hz]));have i2:=OF xs ys (Dy w x y).1 (Sa h (hl x (by simp)) (hr y (by simp))) (fun z hz=>hl z (by simp[hz])) (fun z hz=>hr z (by simp[hz]));cases j8 x with
  |true=>cases x==y<;>first|exact i1|exact PB.nil
  |false=>cases(Dy w x y).2<;>first|exact i2|exact PB.nil
theorem ZD{p f:aC}{b:aR}(hb:PB b)(hp:p.wt<=1048576)(hf:f.wt<=1048576):PB (sE p f b).1:=by
 unfold sE;cases vu p&&(rA f&&(nL b&&(p.rel==f.rel&&decide (p.args.length=f.args.length))))with
 |false=>exact PB.nil
 |true=>exact OF _ _ _ hb (fun x hx=>aC.sX hp hx) (fun x hx=>aC.sX hf hx)
theorem Sw{Z5:Bytes->Option Bool}{ext:aR->Bytes->Bytes->Option (aR×Bool)}{fa:aH}{L:aH->Nat->aR->Option (aR×Bool)}(hA:∀x:Bytes,x.length<=1048576->Z5 x=some (j8 x))(hE:∀w x y,PB w->x.length<=1048576->y.length<=1048576->ext w x y=some (Dy w x y))(sB:∀i w,L [] i w=some (w,true))
 (qx:∀x xs i w,L (x::xs) i w=((Z5 x).bind fun y=>(bif y then((lF fa (i:Int)).bind fun z=>(bif !((x:Bytes)==z)then(some ([],false))else(L xs (i+1) w)))else((lF fa (i:Int)).bind fun z=>((ext w x z).bind fun q=>(bif !(q.2)then(some ([],false))else(L xs (i+1) q.1))))))):
 ∀(l pre rest:aH) (w:aR),fa=pre++rest->l.length=rest.length->(∀x∈l,x.length<=1048576)->(∀x∈rest,x.length<=1048576)->PB w->L l pre.length w=some (KZ l rest w):=by
 intro l
 induction l with
 |nil=>intro pre rest w _ _ _ _ _;rw[sB];simp[KZ]
 |cons x xs ih=>
  intro pre rest w h hl hx hr hw;cases rest with
  |nil=>simp at hl
  |cons y ys=>
   have t:=fun w' hw'=>ih (pre++[y]) ys w' (by simp[h]) (by simpa using hl) (fun z hz=>hx z (by simp[hz])) (fun z hz=>hr z (by simp[hz])) hw'
   simp only[bB,fE]at t;rw[qx,hA x (hx x (by simp)),aA,wh h,aA,aA,hE w x y hw (hx x (by simp)) (hr y (by simp)),aA];simp only[KZ];cases j8 x with
   |true=>
    simp only[aO];cases x==y with
    |true=>simp only[bP,aZ,aO];exact t w hw
    |false=>rfl
   |false=>
    simp only[aZ];cases hq:(Dy w x y).2 with
    |true=>simp only[bP,aZ,aO];exact t _ (Sa hw (hx x (by simp)) (hr y (by simp)))
    |false=>rfl
theorem Wb(a b:aH):((((a.map tx).length:Int):Int) != ((b.map tx).length:Int))= !decide (a.length=b.length):=by
 rw[ax,ax];by_cases h:a.length=b.length
 ·simp[h]
 ·rw[bE h];simp;omega
theorem a2a(p f:aC)(b:aR)(hp:p.wt<=1048576)(hf:f.wt<=1048576)(hb:PB b):iP p f b=some (sE p f b):=by
 unfold iP sE;have hlen:=hb.1;rw[a2d p hp,aA,XE f hf,aA,T6 b hb,aA,Rm b (by omega),aA,Wb];cases vu p with
 |false=>rfl
 |true=>
  cases rA f with
  |false=>rfl
  |true=>
   cases nL b with
   |false=>rfl
   |true=>
    cases p.rel==f.rel with
    |false=>rfl
    |true=>
     by_cases h:p.args.length=f.args.length
     ·rw[bM h];have t:=Sw (Z5:=fA) (ext:=sR) (fa:=f.args) (L:=j0 p f (fun(q:aR)=>(some (q,true)))) KK (fun w x y hw hx hy=>a7z w x y hw hx hy) (fun _ _=>rfl) (fun _ _ _ _=>rfl) p.args [] f.args b rfl h (fun x hx=>aC.sX hp hx) (fun x hx=>aC.sX hf hx) hb;exact t
     ·rw[bE h];rfl
theorem a1t(p f:aC)(b:aR)(hp:p.wt<=1048576)(hf:f.wt<=1048576)(hb:PB b):iJ p f b=some (sE p f b):=by
 unfold iJ sE;have hlen:=hb.1;rw[a1v p hp,aA,WI f hf,aA,Sr b hb,aA,RR b (by omega),aA,Wb];cases vu p with
 |false=>rfl
 |true=>
  cases rA f with
  |false=>rfl
  |true=>
   cases nL b with
   |false=>rfl
   |true=>
    cases p.rel==f.rel with
    |false=>rfl
    |true=>
     by_cases h:p.args.length=f.args.length
     ·rw[bM h];have t:=Sw (Z5:=ew) (ext:=sH) (fa:=f.args) (L:=iY p f (fun(q:aR)=>(some (q,true)))) K7 (fun w x y hw hx hy=>a7g w x y hw hx hy) (fun _ _=>rfl) (fun _ _ _ _=>rfl) p.args [] f.args b rfl h (fun x hx=>aC.sX hp hx) (fun x hx=>aC.sX hf hx) hb;exact t
     ·rw[bE h];rfl
def ltB(l r:Bytes):Bool:=match xJ l,xJ r with|some x,some y=>decide (x<y)|_,_=>false
def Vf(c:aL)(b:aR):Bool:=J6 c&&(nL b&&((yQ b c.left).2&&((yQ b c.right).2&&(bif decide (c.kind=3)then(yQ b c.left).1==(yQ b c.right).1 else bif decide (c.kind=4)then !((yQ b c.left).1==(yQ b c.right).1)else ltB (yQ b c.left).1 (yQ b c.right).1))))
theorem wj(a b:Int):(a==b)=decide (a=b):=by rw[bU];simp
theorem a58(c:aL)(b:aR)(hc:c.wt<=1048576)(hb:PB b):qo c b=some (Vf c b):=by
 unfold qo Vf;rw[XR c hc,aA,T6 b hb,aA,a2l b c.left (aL.zh hc),aA,a2l b c.right (aL.xM hc),aA,wj,wj];cases J6 c with
 |false=>rfl
 |true=>
  cases nL b with
  |false=>rfl
  |true=>
   cases(yQ b c.left).2 with
   |false=>rfl
   |true=>
    cases(yQ b c.right).2 with
    |false=>rfl
    |true=>
     cases decide (c.kind=3)with
     |true=>rfl
     |false=>
      cases decide (c.kind=4)with
      |true=>rfl
      |false=>
       simp only[bP,aZ,eo];unfold s4 ltB;rw[OY,aA,aA,OY,aA,aA,a0f,aA];unfold pI AU;cases xJ (yQ b c.left).1 with
       |none=>rfl
       |some x=>
        cases xJ (yQ b c.right).1 with
        |none=>rfl
        |some y=>
         simp only[aO]
         congr 1
         unfold GG;by_cases h:x<y
         ·have h1:(x:Int)<y:=by omega
          simp[h1,h]
         ·have h1:¬(x:Int)<y:=by omega
          by_cases h2:(x:Int)>y
          ·simp[h1,h,h2]
          ·simp[h1,h,h2]
theorem a4N(c:aL)(b:aR)(hc:c.wt<=1048576)(hb:PB b):qX c b=some (Vf c b):=by
 unfold qX Vf;rw[a4W c hc,aA,Sr b hb,aA,a25 b c.left (aL.zh hc),aA,a25 b c.right (aL.xM hc),aA,wj,wj];cases J6 c with
 |false=>rfl
 |true=>
  cases nL b with
  |false=>rfl
  |true=>
   cases(yQ b c.left).2 with
   |false=>rfl
   |true=>
    cases(yQ b c.right).2 with
    |false=>rfl
    |true=>
     cases decide (c.kind=3)with
     |true=>rfl
     |false=>
      cases decide (c.kind=4)with
      |true=>rfl
      |false=>
       simp only[bP,aZ,eo];unfold ltB;rw[O7,aA,O7,aA];unfold pI;cases xJ (yQ b c.left).1 with
       |none=>rfl
       |some x=>
        cases xJ (yQ b c.right).1 with
        |none=>rfl
        |some y=>
         simp only[aO]
         congr 1
         by_cases h:x<y
         ·simp[h]
         ·simp[h]
def rO(p:aC)(b:aR)(fs:aJ):aJ:=fs.filter fun f=>(sE p f b).2
def FS(fs:aJ):Prop:=fs.length<=1048576/\∀f∈fs,f.wt<=1048576
theorem Se{γ:Type}{mf:aC->Option (aR×Bool)}{cp:aC->Option aC}{p:aC}{b:aR}{L:aJ->Nat->aJ->Option γ}{k:aJ->Option γ}(hm:∀f:aC,f.wt<=1048576->mf f=some (sE p f b))(hc:∀f:aC,f.wt<=1048576->cp f=some f)(sB:∀i w,L [] i w=k w)
 (qx:∀x xs i w,L (x::xs) i w=((mf x).bind fun y=>(bif y.2 then((cp x).bind fun z=>(bif room ((w.map aC.c).length+([[D.str z.rel,D.sl (z.args.map tx)]]).length) 40 then(L xs (i+1) (w++([z])))else none))else(L xs (i+1) w)))):
 ∀(l:aJ) (i:Nat) (w:aJ),(∀f∈l,f.wt<=1048576)->w.length+l.length<1099511627700->L l i w=k (w++rO p b l):=by
 intro l
 induction l with
 |nil=>intro i w _ _;rw[sB];simp[rO]
 |cons x xs ih=>
  intro i w hl hw;simp only[aY]at hw;have hx:=hl x (by simp);rw[qx,hm x hx,aA,hc x hx,aA,l9 (by omega) (by decide),aO];have e:rO p b (x::xs)=bif (sE p x b).2 then x::rO p b xs else rO p b xs:=by
   unfold rO;rw[List.filter_cons];cases(sE p x b).2<;>rfl
  rw[e];cases(sE p x b).2 with
  |true=>rw[aO,aO,ih _ _ (fun f hf=>hl f (by simp[hf])) (by simp;omega)];simp
  |false=>rw[aZ,aZ,ih _ _ (fun f hf=>hl f (by simp[hf])) (by omega)]
theorem a2Y(p:aC)(b:aR)(fs:aJ)(hp:p.wt<=1048576)(hb:PB b)(hf:FS fs):fm p b fs=some (rO p b fs):=by
 unfold fm;have h1:=hf.1;refine(Se (mf:=fun f=>iP p f b) (cp:=eS) (p:=p) (b:=b) (L:=fU p b fs _) (k:=fun q=>some q) (fun f h=>a2a p f b hp h hb) (fun f h=>Js f (by have:=aC.dJ h;omega)) (fun _ _=>rfl) (fun _ _ _ _=>rfl) fs 0 [] hf.2 (by simp;omega)).trans ?_;simp
theorem a4J(p:aC)(b:aR)(fs:aJ)(hp:p.wt<=1048576)(hb:PB b)(hf:FS fs):gb p b fs=some (rO p b fs):=by
 unfold gb;have h1:=hf.1;refine(Se (mf:=fun f=>iJ p f b) (cp:=dQ) (p:=p) (b:=b) (L:=fR p b fs _) (k:=fun q=>some q) (fun f h=>a1t p f b hp h hb) (fun f h=>Jn f (by have:=aC.dJ h;omega)) (fun _ _=>rfl) (fun _ _ _ _=>rfl) fs 0 [] hf.2 (by simp;omega)).trans ?_;simp
def Jk(c:aL)(b:aR)(fs:aJ):Bool:=qV c&&(nL b&&(bif decide (c.kind=1)then decide (0<(rO c.pat b fs).length)else bif decide (c.kind=2)then decide ((rO c.pat b fs).length=0)else Vf c b))
theorem Wa(l:aJ):decide ((((l.map aC.c).length:Int):Int)>0)=decide (0<l.length):=by rw[ax];congr 1;rw[wT];omega
theorem len_eq(l:aJ):((((l.map aC.c).length:Int):Int)==0)=decide (l.length=0):=by rw[ax,wj];congr 1;rw[wT];omega
theorem a57(c:aL)(b:aR)(fs:aJ)(hc:c.wt<=1048576)(hb:PB b)(hf:FS fs):qn c b fs=some (Jk c b fs):=by
 unfold qn Jk;rw[XA c hc,aA,T6 b hb,aA,a2Y c.pat b fs (aL.fB hc) hb hf,aA,aA,a58 c b hc hb,aA,wj,wj,Wa,len_eq];cases qV c with
 |false=>rfl
 |true=>
  cases nL b with
  |false=>rfl
  |true=>cases decide (c.kind=1)<;>cases decide (c.kind=2)<;>rfl
theorem a4M(c:aL)(b:aR)(fs:aJ)(hc:c.wt<=1048576)(hb:PB b)(hf:FS fs):qW c b fs=some (Jk c b fs):=by
 unfold qW Jk;rw[WE c hc,aA,Sr b hb,aA,a4J c.pat b fs (aL.fB hc) hb hf,aA,aA,a4N c b hc hb,aA,wj,wj,Wa,len_eq];cases qV c with
 |false=>rfl
 |true=>
  cases nL b with
  |false=>rfl
  |true=>cases decide (c.kind=1)<;>cases decide (c.kind=2)<;>rfl
end Go.Cx
namespace Go.Cx
open Go.RowKit Go.Proofs Tryz
def Fix(h:Bytes->Bytes):Prop:=∀y,j8 y=true->h y=y
def Cov(a b:aC):Prop:=vu a=true/\vu b=true/\a.rel=b.rel/\∃h,b.args=a.args.map h/\Fix h
theorem Bn{t v val:Bytes}(h:v≠t):∀(w:aR),k7 t (zJ v val w)=k7 t w
 | []=>by
  have:(v==t)=false:=by simpa using h
  simp only[zJ,k7,this,aZ]
 |x::xs=>by
  have hv:(v==t)=false:=by simpa using h
  rw[zJ];cases !(Op.bytesLess x.var v||x.var==v)with
  |true=>rw[aO,k7];simp only[hv,aZ]
  |false=>rw[aZ,k7,k7,Bn h xs]
theorem Ji{v val:Bytes}:∀(w:aR),k7 v w=none->k7 v (zJ v val w)=some val
 | [],_=>by simp[zJ,k7]
 |x::xs,h=>by
  rw[k7]at h;rw[zJ];cases hx:x.var==v with
  |true=>rw[hx]at h;cases h
  |false=>
   rw[hx,aZ]at h;cases !(Op.bytesLess x.var v||false)with
   |true=>rw[aO,k7];simp
   |false=>rw[aZ,k7,hx,aZ];exact Ji xs h
theorem N9{t o:Bytes}:∀ {w:aR},k7 t w=some o->∃p∈w,p.var=t/\p.value=o
 |x::xs,h=>by
  rw[k7]at h;cases hx:x.var==t with
  |true=>rw[hx,aO]at h;cases h;exact⟨x,by simp,by simpa using hx,rfl⟩
  |false=>
   rw[hx,aZ]at h;obtain⟨p,hp,h1⟩:=N9 h;exact⟨p,by simp[hp],h1⟩
theorem wo(p:Option aS)(x:aS)(xs:aR):uO p (x::xs)=(k6 x.var&&(j8 x.value&&((match p with|some q=>Op.bytesLess q.var x.var|none=>true)&&uO (some x) xs))):=by
 cases p<;>rfl
theorem Mt{v val:Bytes}(hv:k6 v=true)(ha:j8 val=true):∀(w:aR) (p:Option aS),uO p w=true->k7 v w=none->(∀q,p=some q->Op.bytesLess q.var v=true)->uO p (zJ v val w)=true
 | [],p,_,_,hp=>by
  simp only[zJ,uO,hv,ha,eo,uZ];cases p with
  |none=>rfl
  |some q=>exact hp q rfl
 |x::xs,p,hc,hf,hp=>by
  rw[wo]at hc;simp only[aW]at hc;obtain⟨c1,c2,c3,c4⟩:=hc;rw[k7]at hf;cases hx:x.var==v with
  |true=>rw[hx]at hf;cases hf
  |false=>
   rw[hx,aZ]at hf;rw[zJ,hx,sF];cases hl:Op.bytesLess x.var v with
   |true=>
    rw[bP,aZ,wo];simp only[aW];exact⟨c1,c2,c3,Mt hv ha xs (some x) c4 hf (fun q hq=>by cases hq;exact hl)⟩
   |false=>
    have h2:Op.bytesLess v x.var=true:=by
     cases h3:Op.bytesLess v x.var with
     |true=>rfl
     |false=>
      have:=GF hl h3;rw[this]at hx;simp at hx
    rw[cF,aO,wo];simp only[aW];refine⟨hv,ha,?_,?_⟩
    ·cases p with
     |none=>rfl
     |some q=>exact hp q rfl
    ·rw[wo];simp only[aW];exact⟨c1,c2,h2,c4⟩
theorem VH{v val:Bytes}{w:aR}(hv:k6 v=true)(ha:j8 val=true)(hb:nL w=true)(hf:k7 v w=none)(hl:w.length≠6):nL (zJ v val w)=true:=by
 have h6:=JM hb;unfold nL at hb⊢;rw[aW]at hb⊢;exact⟨Mt hv ha w none hb.1 hf (fun q h=>by cases h),by rw[MC];simp;omega⟩
theorem zF:∀(l r:aH) (w:aR),l.length=r.length->(∀p∈w,k6 p.var=true)->(KZ l r w).2=true->∃h,(∀v o,k7 v w=some o->h v=o)/\r=l.map h/\Fix h
 | [],[],w,_,hk,_=>by
  refine⟨fun y=>match k7 y w with|some o=>o|none=>y,fun v o ho=>by simp only[ho],rfl,fun y hy=>?_⟩;cases hf:k7 y w with
  |none=>simp only[hf]
  |some o=>
   obtain⟨p,hp,h1,_⟩:=N9 hf;have:=hk p hp;rw[h1]at this;rw[yR this]at hy;cases hy
 |x::xs,y::ys,w,hl,hk,hm=>by
  simp only[KZ]at hm;cases hx:j8 x with
  |true=>
   rw[hx,aO]at hm;cases hxy:x==y with
   |false=>rw[hxy]at hm;cases hm
   |true=>
    rw[hxy,aO]at hm;obtain⟨h,h1,h2,h3⟩:=zF xs ys w (by simpa using hl) hk hm;have:x=y:=by simpa using hxy
    exact⟨h,h1,by rw[bH,h3 x hx,<-this,<-h2],h3⟩
  |false=>
   rw[hx,aZ]at hm;cases he:(Dy w x y).2 with
   |false=>rw[he]at hm;cases hm
   |true=>
    rw[he,aO]at hm;have key:k6 x=true/\((k7 x w=some y/\(Dy w x y).1=w)\/(k7 x w=none/\(Dy w x y).1=zJ x y w)):=by
     unfold Dy at he⊢;cases hc:nL w&&(k6 x&&j8 y)with
     |false=>rw[hc]at he;cases he
     |true=>
      rw[hc,aO]at he;simp only[aW]at hc;refine⟨hc.2.1,?_⟩;rw[aO];cases hf:k7 x w with
      |some o=>
       rw[hf]at he;simp only at he⊢;cases ho:o==y with
       |false=>rw[ho]at he;cases he
       |true=>exact .inl ⟨by rw[show o=y from by simpa using ho],rfl⟩
      |none=>
       rw[hf]at he;simp only at he⊢;cases hd:decide (w.length=6)with
       |true=>rw[hd]at he;cases he
       |false=>exact .inr ⟨by first|trivial|rfl,by first|rfl|trivial⟩
    obtain⟨hv,a3Y⟩:=key;rcases a3Y with⟨hf,h1⟩|⟨hf,h1⟩
    ·rw[h1]at hm;obtain⟨h,k1,k2,k3⟩:=zF xs ys w (by simpa using hl) hk hm;exact⟨h,k1,by rw[bH,k1 x y hf,<-k2],k3⟩
    ·rw[h1]at hm;obtain⟨h,k1,k2,k3⟩:=zF xs ys (zJ x y w) (by simpa using hl) (fun p hp=>by
      rcases QL x y w hp with h|h
      ·rw[h];exact hv
      ·exact hk p h) hm
     refine⟨h,fun v o ho=>?_,by rw[bH,k1 x y (Ji w hf),<-k2],k3⟩;refine k1 v o ?_;rw[Bn (fun e=>?_),ho];rw[e,ho]at hf;cases hf
 | [],_::_,_,hl,_,_=>by simp at hl
 |_::_,[],_,hl,_,_=>by simp at hl
theorem Io(h:Bytes->Bytes)(Yj:Fix h):∀(l:aH) (w:aR),(∀x∈l,oW x=true)->(∀x∈l,j8 (h x)=true)->nL w=true->w.length+l.length<=6->(∀v o,k7 v w=some o->h v=o)->(KZ l (l.map h) w).2=true
 | [],_,_,_,_,_,_=>rfl
 |x::xs,w,ht,ha,hb,hl,hw=>by
  simp only[aY]at hl;rw[bH];simp only[KZ];have ht':∀y∈xs,oW y=true:=fun y hy=>ht y (by simp[hy])
  have ha':∀y∈xs,j8 (h y)=true:=fun y hy=>ha y (by simp[hy])
  cases hx:j8 x with
  |true=>
   rw[aO,Yj x hx,jf,aO];exact Io h Yj xs w ht' ha' hb (by omega) hw
  |false=>
   have hv:k6 x=true:=by
    have:=ht x (by simp);unfold oW at this;rw[hx,nc]at this;exact this
   have hax:=ha x (by simp);rw[aZ];unfold Dy;rw[hb,hv,hax];simp only[eo,aO];cases hf:k7 x w with
   |some o=>
    have:=hw x o hf;simp only[this,jf,aO];exact Io h Yj xs w ht' ha' hb (by omega) hw
   |none=>
    have h6:w.length≠6:=by omega
    simp only[bE h6,aZ,aO];refine Io h Yj xs (zJ x (h x) w) ht' ha' (VH hv hax hb hf h6) (by rw[MC];omega) (fun v o ho=>?_);by_cases e:x=v
    ·subst e;rw[Ji w hf]at ho;cases ho;rfl
    ·rw[Bn e]at ho;exact hw v o ho
theorem Lv{p f:aC}:(sE p f []).2=true↔vu p=true/\rA f=true/\p.rel=f.rel/\∃h,f.args=p.args.map h/\Fix h:=by
 unfold sE;constructor
 ·intro hm;cases hc:vu p&&(rA f&&(nL []&&(p.rel==f.rel&&decide (p.args.length=f.args.length))))with
  |false=>rw[hc]at hm;cases hm
  |true=>
   rw[hc,aO]at hm;simp only[aW,cO,bC]at hc;obtain⟨c1,c2,_,c4,c5⟩:=hc;obtain⟨h,_,h2,h3⟩:=zF p.args f.args [] c5 (by simp) hm;exact⟨c1,c2,c4,h,h2,h3⟩
 ·rintro⟨c1,c2,c4,h,h2,h3⟩;have c5:p.args.length=f.args.length:=by rw[h2];simp
  rw[c1,c2,show nL []=true from rfl,c4,jf,bM c5];simp only[uZ,aO];have c1':=c1;unfold vu at c1';simp only[aW,bC]at c1';unfold rA at c2;simp only[aW]at c2;rw[h2];refine Io h h3 p.args [] (fun x hx=>ay.1 c1'.1 x hx) (fun x hx=>?_) rfl (by simp;omega) (fun v o ho=>by simp[k7]at ho);exact ay.1 c2.1 _ (by rw[h2];exact cB.2 ⟨x,hx,rfl⟩)
theorem Ya{p q f:aC}(hc:Cov p q)(hm:(sE q f []).2=true):(sE p f []).2=true:=by
 obtain⟨c1,c2,c3,h,h2,h3⟩:=hc;obtain⟨m1,m2,m3,k,k2,k3⟩:=Lv.1 hm;refine Lv.2 ⟨c1,m2,c3.trans m3,fun x=>k (h x),?_,fun y hy=>by show k (h y)=y;rw[h3 y hy,k3 y hy]⟩;rw[k2,h2,pJ];rfl
theorem TC{p:aC}(h:vu p=true):∀t∈p.args,oW t=true:=by
 unfold vu at h;rw[aW]at h;exact fun t ht=>ay.1 h.1 t ht
end Go.Cx
namespace Go.Cx
open Go.RowKit Go.Proofs Tryz
theorem B7(l:aJ)(h:l.length<=1048576)(hf:∀f∈l,f.args.length<=1048576):dB l=some l:=by
 unfold dB;refine(Cl (c:=aC.c) (b:=40) (f:=eS) (g:=fun x=>x) (L:=lY l _) (k:=fun q=>some q) (by decide) (fun _ _=>rfl) (fun _ _ _ _=>rfl) l 0 [] (fun f h=>Js f (by have:=hf f h;omega)) (by simp;omega)).trans ?_;simp
theorem Ay(l:aJ)(h:l.length<=1048576)(hf:∀f∈l,f.args.length<=1048576):cS l=some l:=by
 unfold cS;refine(Cl (c:=aC.c) (b:=40) (f:=dQ) (g:=fun x=>x) (L:=kZ l _) (k:=fun q=>some q) (by decide) (fun _ _=>rfl) (fun _ _ _ _=>rfl) l 0 [] (fun f h=>Jn f (by have:=hf f h;omega)) (by simp;omega)).trans ?_;simp
def TK(n:Nat)(t:aN):Prop:=t.facts.length<=n/\(∀f∈t.facts,f.wt<=1048576)/\PB t.bind
theorem TK.le{n m:Nat}{t:aN}(h:TK n t)(hm:n<=m):TK m t:=⟨by have:=h.1;omega,h.2⟩
theorem XB(t:aN)(h:TK 1048576 t):qG t=some t:=by
 unfold qG;rw[B7 t.facts h.1 (fun f hf=>by have:=aC.dJ (h.2.1 f hf);omega),aA,Rm t.bind (by have:=h.2.2.1;omega),aA]
def ext1(c:aL)(t:aN)(f:aC):aj:=bif (sE c.pat f t.bind).2 then [⟨t.facts++[f],(sE c.pat f t.bind).1⟩]else []
def HN(c:aL)(fs:aJ)(t:aN):aj:=bif decide (c.kind=1)then fs.flatMap (ext1 c t)else bif Jk c t.bind fs then [t]else []
def tu(fs:aJ)(l:aj)(c:aL):aj:=l.flatMap (HN c fs)
def uX(cs:ai)(fs:aJ):aj:=cs.foldl (tu fs) [⟨[],[]⟩]
theorem VT(c:aL)(t:aN)(f:aC):(ext1 c t f).length<=1:=by unfold ext1;cases(sE c.pat f t.bind).2<;>simp
theorem LN(c:aL)(t:aN)(fs:aJ):(fs.flatMap (ext1 c t)).length<=fs.length:=by
 induction fs with
 |nil=>simp
 |cons f fs ih=>rw[cr,bB];have:=VT c t f;simp only[aY];omega
theorem M3(c:aL)(fs:aJ)(t:aN):(HN c fs t).length<=fs.length+1:=by
 unfold HN;cases decide (c.kind=1)with
 |true=>have:=LN c t fs;rw[aO];omega
 |false=>cases Jk c t.bind fs<;>simp
theorem M4(fs:aJ)(l:aj)(c:aL):(tu fs l c).length<=l.length*(fs.length+1):=by
 unfold tu
 induction l with
 |nil=>simp
 |cons t l ih=>rw[cr,bB,aY,He];have:=M3 c fs t;omega
theorem ZI{c:aL}{fs:aJ}{t:aN}{n:Nat}(h:TK n t)(hc:c.wt<=1048576)(hf:FS fs):∀u∈HN c fs t,TK (n+1) u:=by
 intro u hu;unfold HN at hu;cases hk:decide (c.kind=1)with
 |false=>
  rw[hk,aZ]at hu;cases hh:Jk c t.bind fs with
  |false=>rw[hh]at hu;cases hu
  |true=>
   rw[hh,aO,cy]at hu;subst hu;exact h.le (by omega)
 |true=>
  rw[hk,aO]at hu;obtain⟨f,hf1,hu⟩:=bq.1 hu;unfold ext1 at hu;cases hm:(sE c.pat f t.bind).2 with
  |false=>rw[hm]at hu;cases hu
  |true=>
   rw[hm,aO,cy]at hu;subst hu;refine⟨by have:=h.1;simp;omega,?_,ZD h.2.2 (aL.fB hc) (hf.2 f hf1)⟩;intro g hg;rcases af.1 hg with hg|hg
   ·exact h.2.1 g hg
   ·rw[cy]at hg;rw[hg];exact hf.2 f hf1
theorem OK{c:aL}{fs:aJ}{l:aj}{n:Nat}(h:∀t∈l,TK n t)(hc:c.wt<=1048576)(hf:FS fs):∀u∈tu fs l c,TK (n+1) u:=by
 intro u hu;obtain⟨t,ht,hu⟩:=bq.1 hu;exact ZI (h t ht) hc hf u hu
theorem Sb{γ:Type}{mf:aC->Option (aR×Bool)}{cps:Option aJ}{cp:aC->Option aC}{c:aL}{t:aN}{L:aJ->Nat->aj->Option γ}{k:aj->Option γ}(hm:∀f:aC,f.wt<=1048576->mf f=some (sE c.pat f t.bind))(hcs:cps=some t.facts)(hc:∀f:aC,f.wt<=1048576->cp f=some f)(ht:t.facts.length<=1048576)(sB:∀i w,L [] i w=k w)
 (qx:∀x xs i w,L (x::xs) i w=((mf x).bind fun y=>(bif y.2 then(cps.bind fun q=>((cp x).bind fun z=>(bif room ((q.map aC.c).length+([[D.str z.rel,D.sl (z.args.map tx)]]).length) 40 then(bif room ((w.map aN.c).length+([[D.sl ((q.map aC.c)++([[D.str z.rel,D.sl (z.args.map tx)]])),D.sl (y.1.map aS.c)]]).length) 48 then(L xs (i+1) (w++([(⟨q++([z]),y.1⟩:aN)])))else none)else none)))else(L xs (i+1) w)))):
 ∀(l:aJ) (i:Nat) (w:aj),(∀f∈l,f.wt<=1048576)->w.length+l.length<1099511627770->L l i w=k (w++l.flatMap (ext1 c t)):=by
 intro l
 induction l with
 |nil=>intro i w _ _;rw[sB];simp
 |cons x xs ih=>
  intro i w hl hw;simp only[aY]at hw;have hx:=hl x (by simp);rw[qx,hm x hx,aA,hcs,aA,hc x hx,aA,l9 (by omega) (by decide),aO,l9 (by omega) (by decide),aO,cr];rw[show ext1 c t x=bif (sE c.pat x t.bind).2 then [⟨t.facts++[x],(sE c.pat x t.bind).1⟩]else []from rfl];cases(sE c.pat x t.bind).2 with
  |true=>rw[aO,aO,ih _ _ (fun f hf=>hl f (by simp[hf])) (by simp;omega)];simp
  |false=>rw[aZ,aZ,ih _ _ (fun f hf=>hl f (by simp[hf])) (by omega)];simp
theorem Sv(c:aL):((c.kind:Int) != 1)= !decide (c.kind=1):=by
 show(!((c.kind:Int)==1))=_;rw[wj]
theorem a2c(l0:aj)(c:aL)(fs:aJ)(k:aj->Option aj)(hc:c.wt<=1048576)(hf:FS fs):∀(l:aj) (i:Nat) (w:aj),(∀t∈l,TK 1048576 t)->w.length+l.length*(fs.length+1)<1099511627700->gK l0 c fs k l i w=k (w++tu fs l c):=by
 intro l;have h1:=hf.1
 induction l with
 |nil=>intro i w _ _;rw[gK];simp[tu]
 |cons t l ih=>
  intro i w hl hw;rw[aY,He]at hw;have ht:=hl t (by simp);have e:tu fs (t::l) c=HN c fs t++tu fs l c:=by simp[tu]
  have hn:=M3 c fs t;have he:=LN c t fs;rw[gK,Sv,a57 c t.bind fs hc ht.2.2 hf,aA,XB t ht,aA,l9 (by omega) (by decide),aO,uJ (by omega),aO,e];rw[Sb (mf:=fun f=>iP c.pat f t.bind) (cps:=dB t.facts) (cp:=eS) (c:=c) (t:=t) (L:=lg l0 c fs i t _) (k:=_) (fun f h=>a2a c.pat f t.bind (aL.fB hc) h ht.2.2) (B7 t.facts ht.1 (fun f hf=>by have:=aC.dJ (ht.2.1 f hf);omega)) (fun f h=>Js f (by have:=aC.dJ h;omega)) ht.1 (fun _ _=>rfl) (fun _ _ _ _=>rfl) fs 0 w hf.2 (by omega)];unfold HN;cases decide (c.kind=1)with
  |true=>simp only[bP,aZ,aO];rw[ih _ _ (fun u hu=>hl u (by simp[hu])) (by rw[bB];omega)];simp
  |false=>
   simp only[cF,aO,aZ];cases Jk c t.bind fs with
   |true=>simp only[aO];rw[ih _ _ (fun u hu=>hl u (by simp[hu])) (by rw[bB];simp;omega)];simp
   |false=>simp only[aZ];rw[ih _ _ (fun u hu=>hl u (by simp[hu])) (by omega)];simp
theorem XI(l:aj)(c:aL)(fs:aJ)(hc:c.wt<=1048576)(hf:FS fs)(hl:∀t∈l,TK 1048576 t)(hn:l.length*(fs.length+1)<1099511627700):qH l c fs=some (tu fs l c):=by
 unfold qH;rw[a2c l c fs _ hc hf l 0 [] hl (by simpa using hn)];simp
theorem Rc:∀t∈[(⟨[],[]⟩:aN)],TK 0 t:=by
 intro t ht;rw[cy]at ht;subst ht;exact⟨by simp,by simp,PB.nil⟩
theorem Wu{n:Nat}(h:n<=4):[(⟨[],[]⟩:aN)].length*25^n<=390625:=by
 have:=tF (n:=25) (by decide) h;simp only[fE,mI];exact this
theorem a2k(c0:ai)(fs:aJ)(k:aj->Option aj)(hf:FS fs)(h24:fs.length<=24):∀(cs:ai) (i:Nat) (w:aj) (n:Nat),(∀c∈cs,c.wt<=1048576)->(∀t∈w,TK n t)->n+cs.length<=1048576->w.length*25^cs.length<=390625->jb c0 fs k cs i w=k (cs.foldl (tu fs) w):=by
 intro cs
 induction cs with
 |nil=>intro i w n _ _ _ _;rfl
 |cons c cs ih=>
  intro i w n hc hw hn hl;simp only[aY]at hn;rw[aY,vY,BF (25^cs.length) 25,<-Fp]at hl;have hp:1<=25^cs.length:=Nat.one_le_pow _ _ (by decide);have Bp:w.length*25<=390625:=cW (AL _ hp) hl;have h25:w.length*(fs.length+1)<=w.length*25:=kU _ (by omega);rw[jb,XI w c fs (hc c (by simp)) hf (fun t ht=>(hw t ht).le (by omega)) (by omega),aA];refine ih _ _ (n+1) (fun x hx=>hc x (by simp[hx])) (OK hw (hc c (by simp)) hf) (by omega) ?_;exact cW (dH _ (cW (M4 fs w c) h25)) hl
theorem a5K(cs:ai)(fs:aJ)(hc:∀c∈cs,c.wt<=1048576)(h4:cs.length<=4)(hf:FS fs)(h24:fs.length<=24):s8 cs fs=some (uX cs fs):=by
 unfold s8;exact a2k cs fs _ hf h24 cs 0 _ 0 hc Rc (by omega) (Wu h4)
theorem Z2(c0:ai)(fs:aJ)(w0:aj)(i1:Nat)(c:aL)(k:aj->Option aj)(hc:c.wt<=1048576)(hf:FS fs):∀(l:aj) (i:Nat) (w:aj),(∀t∈l,TK 1048576 t)->w.length+l.length*(fs.length+1)<1099511627700->ez c0 fs w0 i1 c k l i w=k (w++tu fs l c):=by
 intro l;have h1:=hf.1
 induction l with
 |nil=>intro i w _ _;rw[ez];simp[tu]
 |cons t l ih=>
  intro i w hl hw;rw[aY,He]at hw;have ht:=hl t (by simp);have e:tu fs (t::l) c=HN c fs t++tu fs l c:=by simp[tu]
  have hn:=M3 c fs t;have he:=LN c t fs;rw[ez,Sv,a4M c t.bind fs hc ht.2.2 hf,aA,l9 (by omega) (by decide),aO,uJ (by omega),aO,e];rw[Sb (mf:=fun f=>iJ c.pat f t.bind) (cps:=cS t.facts) (cp:=dQ) (c:=c) (t:=t) (L:=jT c0 fs i w0 t i1 c _) (k:=_) (fun f h=>a1t c.pat f t.bind (aL.fB hc) h ht.2.2) (Ay t.facts ht.1 (fun f hf=>by have:=aC.dJ (ht.2.1 f hf);omega)) (fun f h=>Jn f (by have:=aC.dJ h;omega)) ht.1 (fun _ _=>rfl) (fun _ _ _ _=>rfl) fs 0 w hf.2 (by omega)];unfold HN;cases decide (c.kind=1)with
  |true=>simp only[bP,aZ,aO];rw[ih _ _ (fun u hu=>hl u (by simp[hu])) (by rw[bB];omega)];simp
  |false=>
   simp only[cF,aO,aZ];cases Jk c t.bind fs with
   |true=>simp only[aO];rw[ih _ _ (fun u hu=>hl u (by simp[hu])) (by rw[bB];simp;omega)];simp
   |false=>simp only[aZ];rw[ih _ _ (fun u hu=>hl u (by simp[hu])) (by omega)];simp
theorem a23(c0:ai)(fs:aJ)(k:aj->Option aj)(hf:FS fs)(h24:fs.length<=24):∀(cs:ai) (i:Nat) (w:aj) (n:Nat),(∀c∈cs,c.wt<=1048576)->(∀t∈w,TK n t)->n+cs.length<=1048576->w.length*25^cs.length<=390625->jS c0 fs k cs i w=k (cs.foldl (tu fs) w):=by
 intro cs
 induction cs with
 |nil=>intro i w n _ _ _ _;rfl
 |cons c cs ih=>
  intro i w n hc hw hn hl;simp only[aY]at hn;rw[aY,vY,BF (25^cs.length) 25,<-Fp]at hl;have hp:1<=25^cs.length:=Nat.one_le_pow _ _ (by decide);have Bp:w.length*25<=390625:=cW (AL _ hp) hl;have h25:w.length*(fs.length+1)<=w.length*25:=kU _ (by omega);rw[jS,uJ (by omega),aO,Z2 c0 fs w i c _ (hc c (by simp)) hf w 0 [] (fun t ht=>(hw t ht).le (by omega)) (by simp only[bX];omega),cT];refine ih _ _ (n+1) (fun x hx=>hc x (by simp[hx])) (OK hw (hc c (by simp)) hf) (by omega) ?_;exact cW (dH _ (cW (M4 fs w c) h25)) hl
theorem a4X(cs:ai)(fs:aJ)(hc:∀c∈cs,c.wt<=1048576)(h4:cs.length<=4)(hf:FS fs)(h24:fs.length<=24):rj cs fs=some (uX cs fs):=by
 unfold rj;exact a23 cs fs _ hf h24 cs 0 _ 0 hc Rc (by omega) (Wu h4)
theorem UN{r:aK}(h:mD r=true):r.conds.length<=4:=by
 unfold mD at h;simp only[aW,bC]at h;omega
theorem LH{r:aK}:∀ {l:ai} {i:Nat},vA r l i=true->∀c∈l,qV c=true
 | [],_,_,c,hc=>by cases hc
 |x::xs,i,h,c,hc=>by
  simp only[vA,aW]at h;rcases bI.1 hc with rfl|hc
  ·exact h.1.1.1
  ·exact LH h.2 c hc
theorem KJ{r:aK}(h:mD r=true):∀c∈r.conds,qV c=true:=by
 unfold mD at h;simp only[aW]at h;exact LH h.2.1
theorem tj{l:aJ}(h:mJ l=true):l.length<=24:=by
 unfold mJ at h;simp only[aW,bC]at h;exact h.2
theorem Xi{cs:ai}{fs:aJ}(h4:cs.length<=4)(h24:fs.length<=24):(uX cs fs).length<=390625:=by
 have key:∀(cs:ai) (w:aj),w.length*25^cs.length<=390625->(cs.foldl (tu fs) w).length<=390625:=by
  intro cs
  induction cs with
  |nil=>intro w h;simpa using h
  |cons c cs ih=>
   intro w h;rw[aY,vY,BF (25^cs.length) 25,<-Fp]at h;refine ih _ ?_;have h25:w.length*(fs.length+1)<=w.length*25:=kU _ (by omega);exact cW (dH _ (cW (M4 fs w c) h25)) h
 exact key cs _ (Wu h4)
theorem PC{all:ah}:∀ {l:ah} {i:Nat},MR all l i=true->∀r∈l,mD r=true
 | [],_,_,r,hr=>by cases hr
 |x::xs,i,h,r,hr=>by
  simp only[MR,aW]at h;rcases bI.1 hr with rfl|hr
  ·exact h.1.1
  ·exact PC h.2 r hr
theorem rR{l:ah}(h:uN l=true):∀r∈l,mD r=true:=by
 unfold uN at h;simp only[aW]at h;exact PC h.1
end Go.Cx
namespace Go.Cx
open Go.RowKit Go.Proofs Tryz
theorem NL:∀(a b:aH),a.Nodup->(∀x∈a,x∈b)->a.length<=b.length
 | [],b,_,_=>Cv _
 |x::xs,b,hn,hs=>by
  rw[eW]at hn;have h1:=NL xs (b.erase x) hn.2 fun y hy=>(List.mem_erase_of_ne (fun e=>hn.1 (by rw[<-e];exact hy))).2 (hs y (by simp[hy]))
  have h2:=pq (hs x (by simp));have h3:0<b.length:=BE (hs x (by simp));simp only[aY];omega
theorem UO{r:aK}(h:mD r=true):(eg (CE r.conds)).length<=6:=by
 unfold mD at h;simp only[aW,bC]at h;omega
theorem Tf{c:aL}(hc:qV c=true)(hk:c.kind=1\/c.kind=2):vu c.pat=true/\c.left=[]/\c.right=[]:=by
 unfold qV at hc;have:(decide (c.kind=1)||decide (c.kind=2))=true:=by simpa using hk
 rw[this,aO]at hc;simp only[aW,cO]at hc;exact⟨hc.1,hc.2.1,hc.2.2⟩
theorem Qv{c:aL}(hc:qV c=true)(h1:c.kind≠1)(h2:c.kind≠2):(decide (c.kind=3)||decide (c.kind=4)||decide (c.kind=5))=true/\EQ c.pat=true/\oW c.left=true/\oW c.right=true:=by
 unfold qV at hc;rw[bE h1,bE h2,sF,aZ]at hc;cases h:(decide (c.kind=3)||decide (c.kind=4)||decide (c.kind=5))with
 |false=>rw[h]at hc;cases hc
 |true=>
  rw[h,aO]at hc;simp only[aW]at hc;exact⟨rfl,hc.1,hc.2.1,hc.2.2⟩
theorem PG{b:aR}(h:nL b=true):uO none b=true:=by
 unfold nL at h;rw[aW]at h;exact h.1
theorem Ms:∀ {b:aR} {p:Option aS},uO p b=true->∀x∈b,k6 x.var=true/\j8 x.value=true
 |y::ys,p,h,x,hx=>by
  rw[wo]at h;simp only[aW]at h;rcases bI.1 hx with rfl|hx
  ·exact⟨h.1,h.2.1⟩
  ·exact Ms h.2.2.2 x hx
structure WB(U:List Bytes)(b:List aS):Prop where
 ok:nL b=true
 sub:∀p∈b,p.var∈U
theorem LG{r:aK}:∀ {pre rest:ai} {c:aL} {i:Nat},vA r (pre++c::rest) i=true->qV c=true/\(i+pre.length=0->c.kind=1)/\∀v∈pK c,KU r (i+pre.length) c v=true
 | [],rest,c,i,h=>by
  rw[cT]at h;unfold vA at h;rw[Mm]at h;simp only[aW,nA,pH,qT,bC]at h;refine⟨h.1.1.1,fun e=>?_,fun v hv=>ay.1 h.1.2 v hv⟩;rcases h.1.1.2 with q|q
  ·exact absurd (by simpa using e) q
  ·exact q
 |x::pre,rest,c,i,h=>by
  rw[qQ]at h;unfold vA at h;rw[aW]at h;have:=LG h.2;rw[aY,show i+(pre.length+1)=i+1+pre.length by omega];exact this
theorem OS{r:aK}(h:mD r=true):vA r r.conds 0=true:=by
 unfold mD at h;simp only[aW]at h;exact h.2.1
end Go.Cx
