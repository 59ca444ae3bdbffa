/- What functions of the program compute, and the walks that show it. No condition. -/
import Derived.Test.YtbeaohmbmfjabaaGreatDoorPTriesForG3
set_option linter.unusedVariables false
set_option linter.unusedSimpArgs false
namespace Go.Cx
open Go.RowKit Go.Proofs Tryz
set_option maxRecDepth 100000
variable{Γ:vJ}{N:Nat->St->Prop}
def j5(aB:Bytes)(aU:aR)(k1:Option Bytes):aR->Nat->Option Bytes
 | [],i1=>(k1)
 |bL::bz,i1=>(bif (bL.var:Bytes)==aB then(some bL.value)else(j5 aB aU k1 bz (i1+1)))
def jw(aB:Bytes)(aU:aR):Option Bytes:=(j5 aB aU (some aB) aU 0)
def FZ(aB:Bytes)(aU:aR)(cR:Int):St:=⟨[(0,D.str aB),(1,D.sl (aU.map aS.c)),(5,D.int .i64 cR)],[]⟩
theorem Ds(hΓ:Γ.nt=25){aB:Bytes}{aU:aR}{r:Bytes}{k1:Option Bytes}(cc:k1=some r->Ax Γ N f242 (.q [[none]] (D.str r)) [1,1] ⟨[(0,D.str aB)],[]⟩)(hm1:aU.length<=maxLen):∀(rest:aR) (i1:Nat),aU.drop i1=rest->j5 aB aU k1 rest i1=some r->Ar Γ N f242 (.q [[none]] (D.str r)) [1,0,1,0] (rest.length+1) (FZ aB aU (i1:Int)):=by
 intro rest
 induction rest with
 |nil=>
  intro i1 aq h;rw[j5]at h;refine aP fun N1 cC br=>?_
  exact((aT.ge aS.c aq).a [.hl 0 [0] []]).ex hΓ cC (cc h)
 |cons bL bz ih1=>
  intro i1 aq h;rw[j5]at h;refine aP fun N1 cC br=>?_
  have eH:=((aT.lt aS.c aq).l (az aS.c 2 (dc aq) rfl))
  obtain⟨h13,h⟩|⟨h13,h⟩:=aM h
  ·cases h;exact((eH.b h13).l (az aS.c 2 (dc aq) rfl)).ret hΓ
  ·exact((eH.b h13).a [.cn [0,1,5] []]).ct hΓ br (iS aq hm1) (ih1 (i1+1) (dn aq) h)
theorem sv{aB:Bytes}{aU:aR}{r:Bytes}(h:jw aB aU=some r):Good prog 242 [D.str aB,D.sl (aU.map aS.c)] (D.str r):=by
 refine gd func242 [[none]] 25 fun hr Γ hΓ=>?_
 rw[jw]at h;refine(aT.a [.cn [0,1,5] []]).lp hΓ (Ds hΓ (fun h=>?_) (by have:=(eN.sl (hr _ (aD (i:=1) rfl))).1;simpa using this) aU 0 rfl h);have h:=aI h;subst h;exact aT.ret hΓ
def jt(aB:aL)(aU:aR)(y1:Bytes)(y3:Bytes)(k1:aH->Option aL):aH->Nat->aH->Option aL
 | [],i1,dW=>(k1 dW)
 |bL::bz,i1,dW=>((jw bL aU).bind fun TQ=>(bif room ((dW.map tx).length+([[D.str TQ]]).length) 16 then(jt aB aU y1 y3 k1 bz (i1+1) (dW++([TQ])))else none))
def jA(aB:aL)(aU:aR):Option aL:=((jw aB.left aU).bind fun y1=>((jw aB.right aU).bind fun y3=>(jt aB aU y1 y3 (fun(qK:aH)=>(some (⟨aB.kind,(⟨aB.pat.rel,qK⟩:aC),y1,y3⟩:aL))) aB.pat.args 0 ([]:aH))))
def xD(aB:aL)(aU:aR)(y1:Bytes)(y3:Bytes)(W0:List aQ)(cR:Int):St:=⟨[(1,D.sl (aU.map aS.c)),(2,D.ptr 0 0),(4,D.ptr 1 0),(5,D.ptr 2 0),(6,D.int .i64 cR)],[Ob.box (aL.c aB),Ob.box [D.int .i64 0,D.str ([]),D.nil,D.str ([]),D.str ([])],Ob.box [D.int .i64 aB.kind,D.str aB.pat.rel,D.acc 3,D.str y1,D.str y3],Ob.row .uq 9 1 W0]⟩
theorem Ce(hΓ:Γ.nt=46){aB:aL}{aU:aR}{y1:Bytes}{y3:Bytes}{r:aL}{k1:aH->Option aL}(cc:∀(qK:aH),k1 qK=some r->Ax Γ N f177 (.q [[none,none,some (9,1),none,none]] (D.agg [D.int .i64 r.kind,D.str r.pat.rel,D.fr 9 1 (r.pat.args.map tx),D.str r.left,D.str r.right])) [1,1,1] ⟨[(4,D.ptr 0 0),(5,D.ptr 1 0)],[Ob.box [D.int .i64 0,D.str ([]),D.nil,D.str ([]),D.str ([])],Ob.box [D.int .i64 aB.kind,D.str aB.pat.rel,D.acc 2,D.str y1,D.str y3],Ob.row .uq 9 1 (qK.map tx)]⟩)(hm1:aB.pat.args.length<=maxLen):∀(rest:aH) (i1:Nat) (dW:aH),aB.pat.args.drop i1=rest->jt aB aU y1 y3 k1 rest i1 dW=some r->Ar Γ N f177 (.q [[none,none,some (9,1),none,none]] (D.agg [D.int .i64 r.kind,D.str r.pat.rel,D.fr 9 1 (r.pat.args.map tx),D.str r.left,D.str r.right])) [1,1,0,1,0] (rest.length+1) (xD aB aU y1 y3 (dW.map tx) (i1:Int)):=by
 intro rest
 induction rest with
 |nil=>
  intro i1 dW aq h;rw[jt]at h;refine aP fun N1 cC br=>?_
  exact((aT.ge tx aq).a [.hl 0 [4,5] [1,2,3]]).ex hΓ cC (cc dW h)
 |cons bL bz ih1=>
  intro i1 dW aq h;rw[jt]at h;refine aP fun N1 cC br=>?_
  obtain⟨TQ,h32,h⟩:=aE h;obtain⟨h33,h⟩:=bQ h;exact((((((aT.lt tx aq).a [.n 12]).l (az tx 1 (dc aq) rfl)).g (sv h32)).w (bh h33)).a [.cn [1,2,4,5,6] [0,1,2,5]]).cs hΓ br (xD aB aU y1 y3 ((dW.map tx)++([[D.str TQ]])) (IntKind.i64.wrap ((i1:Int)+1))) (by first| (simp only[iS aq hm1,mA]<;>rfl)| (simp only[iS aq hm1,mA,aC.c,aS.c,aL.c,Action.c,aK.c,aN.c,cX.c,aV.c,Node.c,aG.c,cg.c]<;>rfl)) (ih1 (i1+1) (dW++([TQ])) (dn aq) h)
theorem iR{aB:aL}{aU:aR}{r:aL}(h:jA aB aU=some r):Good prog 177 [D.agg (aL.c aB),D.sl (aU.map aS.c)] (D.agg [D.int .i64 r.kind,D.str r.pat.rel,D.fr 9 1 (r.pat.args.map tx),D.str r.left,D.str r.right]):=by
 refine gd func177 [[none,none,some (9,1),none,none]] 46 fun hr Γ hΓ=>?_
 rw[jA]at h;obtain⟨y1,h2,h⟩:=aE h;obtain⟨y3,h4,h⟩:=aE h;refine((((aT.a [.n 16]).g (sv h2)).g (sv h4)).a [.pb 2 2 9 1,.cn [1,2,4,5,6] [0,1,2,3]]).lp hΓ (Ce hΓ (fun qK h=>?_) (by have:=(eN.sl (eN.agg (hr _ (aD (i:=0) rfl)) (.sl (aB.pat.args.map tx)) (by simp))).1;simpa using this) aB.pat.args 0 ([]:aH) rfl h);cases h;exact aT.ret hΓ
def jF(aB:aL):Option aL:=((jA aB ([])).bind fun y1=>(some y1))
theorem oR{aB:aL}{r:aL}(h:jF aB=some r):Good prog 105 [D.agg (aL.c aB)] (D.agg [D.int .i64 r.kind,D.str r.pat.rel,D.fr 9 1 (r.pat.args.map tx),D.str r.left,D.str r.right]):=by
 refine gd func105 [[none,none,some (9,1),none,none]] 5 fun hr Γ hΓ=>?_
 rw[jF]at h;obtain⟨y1,h2,h⟩:=aE h;have h:=aI h;subst h;exact((aT.a [.d (D.agg [D.int .i64 y1.kind,D.str y1.pat.rel,D.fr 9 1 (y1.pat.args.map tx),D.str y1.left,D.str y1.right])]).w (show Good prog 177 [D.agg (aL.c aB),D.sl ([])] (D.agg [D.int .i64 y1.kind,D.str y1.pat.rel,D.fr 9 1 (y1.pat.args.map tx),D.str y1.left,D.str y1.right])from by first| (simpa only[bV,bH,cD,dG,ck]using iR h2)|exact iR h2)).ret hΓ
def qv(aB:aH):Option aH:=(bif room (([]:List aQ).length+(aB.map tx).length) 16 then(some (([]:aH)++aB))else none)
theorem xz{aB:aH}{r:aH}(h:qv aB=some r):Good prog 176 [D.sl (aB.map tx)] (D.fr 9 1 (r.map tx)):=by
 refine gd func176 [[some (9,1)]] 6 fun hr Γ hΓ=>?_
 rw[qv]at h;obtain⟨h1,h⟩:=bQ h;cases h;exact(((aT.w (bh h1)).w (show(∀r∈(aB.map tx),r.length=1)/\(true=true->D.mN (aB.map tx)=true)from⟨by first|simp| (intro r hr;obtain⟨x,_,rfl⟩:=cB.1 (bw (fc hr));rfl),by simp[D.mN,D.flat]⟩)).a [.Kc 2,.fl true]).rts hΓ (D.fr 9 1 (([]:List aQ)++(aB.map tx))) (by first|rfl| (simp only[mA]<;>rfl))
def dl(aB:aC):Option aC:=((qv aB.args).bind fun y1=>(some (⟨aB.rel,y1⟩:aC)))
theorem uH{aB:aC}{r:aC}(h:dl aB=some r):Good prog 104 [D.agg (aC.c aB)] (D.agg [D.str r.rel,D.fr 9 1 (r.args.map tx)]):=by
 refine gd func104 [[none,some (9,1)]] 9 fun hr Γ hΓ=>?_
 rw[dl]at h;obtain⟨y1,h2,h⟩:=aE h;cases h;exact((aT.a [.n 5]).g (xz h2)).ret hΓ
def oF(aB:aK)(k1:ai->Option aK):ai->Nat->ai->Option aK
 | [],i1,dW=>(k1 dW)
 |bL::bz,i1,dW=>((jF bL).bind fun GB=>(bif room ((dW.map aL.c).length+([[D.int .i64 GB.kind,D.str GB.pat.rel,D.sl (GB.pat.args.map tx),D.str GB.left,D.str GB.right]]).length) 80 then(oF aB k1 bz (i1+1) (dW++([GB])))else none))
def ld(aB:aK)(fC:ai)(k2:cH->Option aK):cH->Nat->cH->Option aK
 | [],i2,nQ=>(k2 nQ)
 |k8::tf,i2,nQ=>((dl k8.pat).bind fun y92=>(bif room ((nQ.map Action.c).length+([[D.int .i64 k8.kind,D.str y92.rel,D.sl (y92.args.map tx)]]).length) 48 then(ld aB fC k2 tf (i2+1) (nQ++([(⟨k8.kind,y92⟩:Action)])))else none))
def sS(aB:aK):Option aK:=(oF aB (fun(fC:ai)=>(ld aB fC (fun(zI:cH)=>(some (⟨aB.name,aB.prio,fC,zI⟩:aK))) aB.cU 0 ([]:cH))) aB.conds 0 ([]:ai))
def Ak(aB:aK)(W0:List aQ)(cR:Int):St:=⟨[(1,D.ptr 0 0),(2,D.ptr 1 0),(3,D.ptr 2 0),(4,D.int .i64 cR)],[Ob.box (aK.c aB),Ob.box [D.str ([]),D.int .i64 0,D.nil,D.nil],Ob.box [D.str aB.name,D.int .i64 aB.prio,D.acc 3,D.nil],Ob.row .uq 115 5 W0]⟩
theorem IJ(hΓ:Γ.nt=56){aB:aK}{r:aK}{k1:ai->Option aK}(cc:∀(fC:ai),k1 fC=some r->Ax Γ N f175 (.q [[none,none,some (115,5),some (199,3)]] (D.agg [D.str r.name,D.int .i64 r.prio,D.fr 115 5 (r.conds.map aL.c),D.fr 199 3 (r.cU.map Action.c)])) [1,1,1] ⟨[(1,D.ptr 0 0),(2,D.ptr 1 0),(3,D.ptr 2 0)],[Ob.box (aK.c aB),Ob.box [D.str ([]),D.int .i64 0,D.nil,D.nil],Ob.box [D.str aB.name,D.int .i64 aB.prio,D.acc 3,D.nil],Ob.row .uq 115 5 (fC.map aL.c)]⟩)(hm1:aB.conds.length<=maxLen):∀(rest:ai) (i1:Nat) (dW:ai),aB.conds.drop i1=rest->oF aB k1 rest i1 dW=some r->Ar Γ N f175 (.q [[none,none,some (115,5),some (199,3)]] (D.agg [D.str r.name,D.int .i64 r.prio,D.fr 115 5 (r.conds.map aL.c),D.fr 199 3 (r.cU.map Action.c)])) [1,1,0,1,0] (rest.length+1) (Ak aB (dW.map aL.c) (i1:Int)):=by
 intro rest
 induction rest with
 |nil=>
  intro i1 dW aq h;rw[oF]at h;refine aP fun N1 cC br=>?_
  exact((aT.ge aL.c aq).a [.hl 0 [1,2,3] [0,1,2,3]]).ex hΓ cC (cc dW h)
 |cons bL bz ih1=>
  intro i1 dW aq h;rw[oF]at h;refine aP fun N1 cC br=>?_
  obtain⟨GB,h46,h⟩:=aE h;obtain⟨h47,h⟩:=bQ h;exact((((((aT.lt aL.c aq).a [.n2 [0,1,2,3,4,5,6,7,8,9,10,11] [0,1,2,3,4,5,6,7,8,9,10,11] 8 9 [0,1] [4]]).l (az aL.c 5 (dc aq) rfl)).g (oR h46)).w (bh h47)).a [.cn [1,2,3,4] [0,1,2,6]]).cs hΓ br (Ak aB ((dW.map aL.c)++([[D.int .i64 GB.kind,D.str GB.pat.rel,D.sl (GB.pat.args.map tx),D.str GB.left,D.str GB.right]])) (IntKind.i64.wrap ((i1:Int)+1))) (by first| (simp only[iS aq hm1,mA]<;>rfl)| (simp only[iS aq hm1,mA,aC.c,aS.c,aL.c,Action.c,aK.c,aN.c,cX.c,aV.c,Node.c,aG.c,cg.c]<;>rfl)) (ih1 (i1+1) (dW++([GB])) (dn aq) h)
def Al(aB:aK)(fC:ai)(W0:List aQ)(cR:Int):St:=⟨[(1,D.ptr 0 0),(2,D.ptr 1 0),(3,D.ptr 2 0),(5,D.int .i64 cR)],[Ob.box (aK.c aB),Ob.box [D.str ([]),D.int .i64 0,D.nil,D.nil],Ob.box [D.str aB.name,D.int .i64 aB.prio,D.acc 3,D.acc 4],Ob.row .uq 115 5 (fC.map aL.c),Ob.row .uq 199 3 W0]⟩
theorem IK(hΓ:Γ.nt=56){aB:aK}{fC:ai}{r:aK}{k2:cH->Option aK}(zf:∀(zI:cH),k2 zI=some r->Ax Γ N f175 (.q [[none,none,some (115,5),some (199,3)]] (D.agg [D.str r.name,D.int .i64 r.prio,D.fr 115 5 (r.conds.map aL.c),D.fr 199 3 (r.cU.map Action.c)])) [1,1,1,1] ⟨[(2,D.ptr 0 0),(3,D.ptr 1 0)],[Ob.box [D.str ([]),D.int .i64 0,D.nil,D.nil],Ob.box [D.str aB.name,D.int .i64 aB.prio,D.acc 2,D.acc 3],Ob.row .uq 115 5 (fC.map aL.c),Ob.row .uq 199 3 (zI.map Action.c)]⟩)(hm2:aB.cU.length<=maxLen):∀(rest:cH) (i2:Nat) (nQ:cH),aB.cU.drop i2=rest->ld aB fC k2 rest i2 nQ=some r->Ar Γ N f175 (.q [[none,none,some (115,5),some (199,3)]] (D.agg [D.str r.name,D.int .i64 r.prio,D.fr 115 5 (r.conds.map aL.c),D.fr 199 3 (r.cU.map Action.c)])) [1,1,1,0,1,0] (rest.length+1) (Al aB fC (nQ.map Action.c) (i2:Int)):=by
 intro rest
 induction rest with
 |nil=>
  intro i2 nQ hd2 h;rw[ld]at h;refine aP fun N2 ul sA=>?_
  exact((aT.ge Action.c hd2).a [.hl 0 [2,3] [1,2,3,4]]).ex hΓ ul (zf nQ h)
 |cons k8 tf ih2=>
  intro i2 nQ hd2 h;rw[ld]at h;refine aP fun N2 ul sA=>?_
  obtain⟨y92,h93,h⟩:=aE h;obtain⟨h94,h⟩:=bQ h;exact(((((((aT.lt Action.c hd2).a [.n2 [0,1,2,3,4,5,6,7,8,9,10,11,12,13,14,15,16,17,18,19] [0,1,2,3,4,5,6,7,8,9,10,11,12,13,14,15,16,17,18,19] 16 17 [0,1] [5]]).l (az Action.c 3 (dc hd2) rfl)).l (az Action.c 3 (dc hd2) rfl)).g (uH h93)).w (bh h94)).a [.cn [1,2,3,5] [0,1,2,3,7]]).cs hΓ sA (Al aB fC ((nQ.map Action.c)++([[D.int .i64 k8.kind,D.str y92.rel,D.sl (y92.args.map tx)]])) (IntKind.i64.wrap ((i2:Int)+1))) (by first| (simp only[iS hd2 hm2,mA]<;>rfl)| (simp only[iS hd2 hm2,mA,aC.c,aS.c,aL.c,Action.c,aK.c,aN.c,cX.c,aV.c,Node.c,aG.c,cg.c]<;>rfl)) (ih2 (i2+1) (nQ++([(⟨k8.kind,y92⟩:Action)])) (dn hd2) h)
theorem HD{aB:aK}{r:aK}(h:sS aB=some r):Good prog 175 [D.agg (aK.c aB)] (D.agg [D.str r.name,D.int .i64 r.prio,D.fr 115 5 (r.conds.map aL.c),D.fr 199 3 (r.cU.map Action.c)]):=by
 refine gd func175 [[none,none,some (115,5),some (199,3)]] 56 fun hr Γ hΓ=>?_
 rw[sS]at h;refine(aT.a [.pb 2 2 115 5,.cn [1,2,3,4] [0,1,2,3]]).lp hΓ (IJ hΓ (fun fC h=>?_) (by have:=(eN.sl (eN.agg (hr _ (aD (i:=0) rfl)) (.sl (aB.conds.map aL.c)) (by simp))).1;simpa using this) aB.conds 0 ([]:ai) rfl h);refine(aT.a [.pb 2 3 199 3,.cn [1,2,3,5] [0,1,2,3,4]]).lp hΓ (IK hΓ (fun zI h=>?_) (by have:=(eN.sl (eN.agg (hr _ (aD (i:=0) rfl)) (.sl (aB.cU.map Action.c)) (by simp))).1;simpa using this) aB.cU 0 ([]:cH) rfl h);cases h;exact aT.ret hΓ
def lZ(aB:ah)(k1:ah->Option ah):ah->Nat->ah->Option ah
 | [],i1,bA=>(k1 bA)
 |bL::bz,i1,bA=>((sS bL).bind fun nK=>(bif room ((bA.map aK.c).length+([[D.str nK.name,D.int .i64 nK.prio,D.sl (nK.conds.map aL.c),D.sl (nK.cU.map Action.c)]]).length) 72 then(lZ aB k1 bz (i1+1) (bA++([nK])))else none))
def pF(aB:ah):Option ah:=(lZ aB (fun(bf:ah)=>(some bf)) aB 0 ([]:ah))
def z6(aB:ah)(W0:List aQ)(cR:Int):St:=⟨[(0,D.sl (aB.map aK.c)),(3,D.acc 0),(4,D.int .i64 cR)],[Ob.row .uq 105 4 W0]⟩
theorem Fa(hΓ:Γ.nt=21){aB:ah}{r:ah}{k1:ah->Option ah}(cc:∀(bf:ah),k1 bf=some r->Ax Γ N f102 (.q [[some (105,4)]] (D.fr 105 4 (r.map aK.c))) [1,1,1] ⟨[(3,D.acc 0)],[Ob.row .uq 105 4 (bf.map aK.c)]⟩)(hm1:aB.length<=maxLen):∀(rest:ah) (i1:Nat) (bA:ah),aB.drop i1=rest->lZ aB k1 rest i1 bA=some r->Ar Γ N f102 (.q [[some (105,4)]] (D.fr 105 4 (r.map aK.c))) [1,1,0,1,0] (rest.length+1) (z6 aB (bA.map aK.c) (i1:Int)):=by
 intro rest
 induction rest with
 |nil=>
  intro i1 bA aq h;rw[lZ]at h;refine aP fun N1 cC br=>?_
  exact((aT.ge aK.c aq).a [.hl 0 [3] [0]]).ex hΓ cC (cc bA h)
 |cons bL bz ih1=>
  intro i1 bA aq h;rw[lZ]at h;refine aP fun N1 cC br=>?_
  obtain⟨nK,h28,h⟩:=aE h;obtain⟨h29,h⟩:=bQ h;exact(((((aT.lt aK.c aq).l (az aK.c 4 (dc aq) rfl)).g (HD h28)).w (bh h29)).a [.cn [0,3,4] [4]]).cs hΓ br (z6 aB ((bA.map aK.c)++([[D.str nK.name,D.int .i64 nK.prio,D.sl (nK.conds.map aL.c),D.sl (nK.cU.map Action.c)]])) (IntKind.i64.wrap ((i1:Int)+1))) (by first| (simp only[iS aq hm1,mA]<;>rfl)| (simp only[iS aq hm1,mA,aC.c,aS.c,aL.c,Action.c,aK.c,aN.c,cX.c,aV.c,Node.c,aG.c,cg.c]<;>rfl)) (ih1 (i1+1) (bA++([nK])) (dn aq) h)
theorem xF{aB:ah}{r:ah}(h:pF aB=some r):Good prog 102 [D.sl (aB.map aK.c)] (D.fr 105 4 (r.map aK.c)):=by
 refine gd func102 [[some (105,4)]] 21 fun hr Γ hΓ=>?_
 rw[pF]at h;refine(aT.a [.cn [0,3,4] [0]]).lp hΓ (Fa hΓ (fun bf h=>?_) (by have:=(eN.sl (hr _ (aD (i:=0) rfl))).1;simpa using this) aB 0 ([]:ah) rfl h);have h:=aI h;subst h;exact aT.ret hΓ
def uj(aB:bR):Option bR:=(bif room (([]:List aQ).length+(aB.map gS).length) 8 then(some (([]:bR)++aB))else none)
theorem HC{aB:bR}{r:bR}(h:uj aB=some r):Good prog 103 [D.sl (aB.map gS)] (D.fr 3 1 (r.map gS)):=by
 refine gd func103 [[some (3,1)]] 6 fun hr Γ hΓ=>?_
 rw[uj]at h;obtain⟨h1,h⟩:=bQ h;cases h;exact(((aT.w (bh h1)).w (show(∀r∈(aB.map gS),r.length=1)/\(true=true->D.mN (aB.map gS)=true)from⟨by first|simp| (intro r hr;obtain⟨x,_,rfl⟩:=cB.1 (bw (fc hr));rfl),by simp[D.mN,D.flat]⟩)).a [.Kc 2,.fl true]).rts hΓ (D.fr 3 1 (([]:List aQ)++(aB.map gS))) (by first|rfl| (simp only[mA]<;>rfl))
def eS(aB:aC):Option aC:=((qv aB.args).bind fun y1=>(some (⟨aB.rel,y1⟩:aC)))
theorem gE{aB:aC}{r:aC}(h:eS aB=some r):Good prog 152 [D.agg (aC.c aB)] (D.agg [D.str r.rel,D.fr 9 1 (r.args.map tx)]):=by
 refine gd func152 [[none,some (9,1)]] 9 fun hr Γ hΓ=>?_
 rw[eS]at h;obtain⟨y1,h2,h⟩:=aE h;cases h;exact((aT.a [.n 5]).g (xz h2)).ret hΓ
def lY(aB:aJ)(k1:aJ->Option aJ):aJ->Nat->aJ->Option aJ
 | [],i1,bA=>(k1 bA)
 |bL::bz,i1,bA=>((eS bL).bind fun nK=>(bif room ((bA.map aC.c).length+([[D.str nK.rel,D.sl (nK.args.map tx)]]).length) 40 then(lY aB k1 bz (i1+1) (bA++([nK])))else none))
def dB(aB:aJ):Option aJ:=(lY aB (fun(bf:aJ)=>(some bf)) aB 0 ([]:aJ))
def yy(aB:aJ)(W0:List aQ)(cR:Int):St:=⟨[(0,D.sl (aB.map aC.c)),(3,D.acc 0),(4,D.int .i64 cR)],[Ob.row .uq 53 2 W0]⟩
theorem FY(hΓ:Γ.nt=21){aB:aJ}{r:aJ}{k1:aJ->Option aJ}(cc:∀(bf:aJ),k1 bf=some r->Ax Γ N f93 (.q [[some (53,2)]] (D.fr 53 2 (r.map aC.c))) [1,1,1] ⟨[(3,D.acc 0)],[Ob.row .uq 53 2 (bf.map aC.c)]⟩)(hm1:aB.length<=maxLen):∀(rest:aJ) (i1:Nat) (bA:aJ),aB.drop i1=rest->lY aB k1 rest i1 bA=some r->Ar Γ N f93 (.q [[some (53,2)]] (D.fr 53 2 (r.map aC.c))) [1,1,0,1,0] (rest.length+1) (yy aB (bA.map aC.c) (i1:Int)):=by
 intro rest
 induction rest with
 |nil=>
  intro i1 bA aq h;rw[lY]at h;refine aP fun N1 cC br=>?_
  exact((aT.ge aC.c aq).a [.hl 0 [3] [0]]).ex hΓ cC (cc bA h)
 |cons bL bz ih1=>
  intro i1 bA aq h;rw[lY]at h;refine aP fun N1 cC br=>?_
  obtain⟨nK,h28,h⟩:=aE h;obtain⟨h29,h⟩:=bQ h;exact(((((aT.lt aC.c aq).l (az aC.c 2 (dc aq) rfl)).g (gE h28)).w (bh h29)).a [.cn [0,3,4] [3]]).cs hΓ br (yy aB ((bA.map aC.c)++([[D.str nK.rel,D.sl (nK.args.map tx)]])) (IntKind.i64.wrap ((i1:Int)+1))) (by first| (simp only[iS aq hm1,mA]<;>rfl)| (simp only[iS aq hm1,mA,aC.c,aS.c,aL.c,Action.c,aK.c,aN.c,cX.c,aV.c,Node.c,aG.c,cg.c]<;>rfl)) (ih1 (i1+1) (bA++([nK])) (dn aq) h)
theorem ed{aB:aJ}{r:aJ}(h:dB aB=some r):Good prog 93 [D.sl (aB.map aC.c)] (D.fr 53 2 (r.map aC.c)):=by
 refine gd func93 [[some (53,2)]] 21 fun hr Γ hΓ=>?_
 rw[dB]at h;refine(aT.a [.cn [0,3,4] [0]]).lp hΓ (FY hΓ (fun bf h=>?_) (by have:=(eN.sl (hr _ (aD (i:=0) rfl))).1;simpa using this) aB 0 ([]:aJ) rfl h);have h:=aI h;subst h;exact aT.ret hΓ
def qF(aB:aR):Option aR:=(bif room (([]:List aQ).length+(aB.map aS.c).length) 32 then(some (([]:aR)++aB))else none)
theorem vE{aB:aR}{r:aR}(h:qF aB=some r):Good prog 227 [D.sl (aB.map aS.c)] (D.fr 152 2 (r.map aS.c)):=by
 refine gd func227 [[some (152,2)]] 6 fun hr Γ hΓ=>?_
 rw[qF]at h;obtain⟨h1,h⟩:=bQ h;cases h;exact(((aT.w (bh h1)).w (show(∀r∈(aB.map aS.c),r.length=2)/\(true=true->D.mN (aB.map aS.c)=true)from⟨by first|simp| (intro r hr;obtain⟨x,_,rfl⟩:=cB.1 (bw (fc hr));rfl),by simp[D.mN,D.flat]⟩)).a [.Kc 2,.fl true]).rts hΓ (D.fr 152 2 (([]:List aQ)++(aB.map aS.c))) (by first|rfl| (simp only[mA]<;>rfl))
def qG(aB:aN):Option aN:=((dB aB.facts).bind fun y1=>((qF aB.bind).bind fun y3=>(some (⟨y1,y3⟩:aN))))
theorem z7{aB:aN}{r:aN}(h:qG aB=some r):Good prog 178 [D.agg (aN.c aB)] (D.agg [D.fr 53 2 (r.facts.map aC.c),D.fr 152 2 (r.bind.map aS.c)]):=by
 refine gd func178 [[some (53,2),some (152,2)]] 10 fun hr Γ hΓ=>?_
 rw[qG]at h;obtain⟨y1,h2,h⟩:=aE h;obtain⟨y3,h4,h⟩:=aE h;cases h;exact(((aT.a [.n 5]).g (ed h2)).g (vE h4)).ret hΓ
def iT(aB:aj)(k1:aj->Option aj):aj->Nat->aj->Option aj
 | [],i1,bA=>(k1 bA)
 |bL::bz,i1,bA=>((qG bL).bind fun nK=>(bif room ((bA.map aN.c).length+([[D.sl (nK.facts.map aC.c),D.sl (nK.bind.map aS.c)]]).length) 48 then(iT aB k1 bz (i1+1) (bA++([nK])))else none))
def j6(aB:aj):Option aj:=(iT aB (fun(bf:aj)=>(some bf)) aB 0 ([]:aj))
def vo(aB:aj)(W0:List aQ)(cR:Int):St:=⟨[(0,D.sl (aB.map aN.c)),(3,D.acc 0),(4,D.int .i64 cR)],[Ob.row .uq 124 2 W0]⟩
theorem Aq(hΓ:Γ.nt=21){aB:aj}{r:aj}{k1:aj->Option aj}(cc:∀(bf:aj),k1 bf=some r->Ax Γ N f106 (.q [[some (124,2)]] (D.fr 124 2 (r.map aN.c))) [1,1,1] ⟨[(3,D.acc 0)],[Ob.row .uq 124 2 (bf.map aN.c)]⟩)(hm1:aB.length<=maxLen):∀(rest:aj) (i1:Nat) (bA:aj),aB.drop i1=rest->iT aB k1 rest i1 bA=some r->Ar Γ N f106 (.q [[some (124,2)]] (D.fr 124 2 (r.map aN.c))) [1,1,0,1,0] (rest.length+1) (vo aB (bA.map aN.c) (i1:Int)):=by
 intro rest
 induction rest with
 |nil=>
  intro i1 bA aq h;rw[iT]at h;refine aP fun N1 cC br=>?_
  exact((aT.ge aN.c aq).a [.hl 0 [3] [0]]).ex hΓ cC (cc bA h)
 |cons bL bz ih1=>
  intro i1 bA aq h;rw[iT]at h;refine aP fun N1 cC br=>?_
  obtain⟨nK,h28,h⟩:=aE h;obtain⟨h29,h⟩:=bQ h;exact(((((aT.lt aN.c aq).l (az aN.c 2 (dc aq) rfl)).g (z7 h28)).w (bh h29)).a [.cn [0,3,4] [4]]).cs hΓ br (vo aB ((bA.map aN.c)++([[D.sl (nK.facts.map aC.c),D.sl (nK.bind.map aS.c)]])) (IntKind.i64.wrap ((i1:Int)+1))) (by first| (simp only[iS aq hm1,mA]<;>rfl)| (simp only[iS aq hm1,mA,aC.c,aS.c,aL.c,Action.c,aK.c,aN.c,cX.c,aV.c,Node.c,aG.c,cg.c]<;>rfl)) (ih1 (i1+1) (bA++([nK])) (dn aq) h)
theorem A5{aB:aj}{r:aj}(h:j6 aB=some r):Good prog 106 [D.sl (aB.map aN.c)] (D.fr 124 2 (r.map aN.c)):=by
 refine gd func106 [[some (124,2)]] 21 fun hr Γ hΓ=>?_
 rw[j6]at h;refine(aT.a [.cn [0,3,4] [0]]).lp hΓ (Aq hΓ (fun bf h=>?_) (by have:=(eN.sl (hr _ (aD (i:=0) rfl))).1;simpa using this) aB 0 ([]:aj) rfl h);have h:=aI h;subst h;exact aT.ret hΓ
def lm(aB:aG)(y1:ah)(y3:bR)(y5:aJ)(k1:bD->Option aG):bD->Nat->bD->Option aG
 | [],i1,gW=>(k1 gW)
 |bL::bz,i1,gW=>((dl bL.shape).bind fun HY=>((dB bL.facts).bind fun y75=>(bif room ((gW.map aV.c).length+([[D.str HY.rel,D.sl (HY.args.map tx),D.sl (y75.map aC.c)]]).length) 64 then(lm aB y1 y3 y5 k1 bz (i1+1) (gW++([(⟨HY,y75⟩:aV)])))else none)))
def lq(aB:aG)(y1:ah)(y3:bR)(y5:aJ)(mC:bD)(k2:b9->Option aG):b9->Nat->b9->Option aG
 | [],i2,uB=>(k2 uB)
 |k8::tf,i2,uB=>((jF k8.cond).bind fun AE=>((j6 k8.tokens).bind fun Xw=>(bif room ((uB.map Node.c).length+([[D.int .i64 k8.parent,D.int .i64 AE.kind,D.str AE.pat.rel,D.sl (AE.pat.args.map tx),D.str AE.left,D.str AE.right,D.int .i64 k8.cQ,D.sl (Xw.map aN.c)]]).length) 120 then(lq aB y1 y3 y5 mC k2 tf (i2+1) (uB++([(⟨k8.parent,AE,k8.cQ,Xw⟩:Node)])))else none)))
def ni(aB:aG):Option aG:=((pF aB.rules).bind fun y1=>((uj aB.ends).bind fun y3=>((dB aB.facts).bind fun y5=>(lm aB y1 y3 y5 (fun(mC:bD)=>(lq aB y1 y3 y5 mC (fun(sw:b9)=>(some (⟨y1,y3,mC,sw,y5,aB.bn⟩:aG))) aB.nodes 0 ([]:b9))) aB.av 0 ([]:bD)))))
def As(aB:aG)(y1:ah)(y3:bR)(y5:aJ)(W0:List aQ)(cR:Int):St:=⟨[(1,D.ptr 0 0),(2,D.ptr 1 0),(3,D.ptr 2 0),(4,D.int .i64 cR)],[Ob.box (aG.c aB),Ob.box [D.nil,D.nil,D.nil,D.nil,D.nil,D.int .i64 0],Ob.box [D.acc 3,D.acc 4,D.acc 5,D.nil,D.acc 6,D.int .i64 aB.bn],Ob.row .uq 105 4 (y1.map aK.c),Ob.row .uq 3 1 (y3.map gS),Ob.row .uq 111 3 W0,Ob.row .uq 53 2 (y5.map aC.c)]⟩
theorem IQ(hΓ:Γ.nt=75){aB:aG}{y1:ah}{y3:bR}{y5:aJ}{r:aG}{k1:bD->Option aG}(cc:∀(mC:bD),k1 mC=some r->Ax Γ N f49 (.q [[some (105,4),some (3,1),some (111,3),some (118,8),some (53,2),none]] (D.agg [D.fr 105 4 (r.rules.map aK.c),D.fr 3 1 (r.ends.map gS),D.fr 111 3 (r.av.map aV.c),D.fr 118 8 (r.nodes.map Node.c),D.fr 53 2 (r.facts.map aC.c),D.int .i64 r.bn])) [1,1,1] ⟨[(1,D.ptr 0 0),(2,D.ptr 1 0),(3,D.ptr 2 0)],[Ob.box (aG.c aB),Ob.box [D.nil,D.nil,D.nil,D.nil,D.nil,D.int .i64 0],Ob.box [D.acc 3,D.acc 4,D.acc 5,D.nil,D.acc 6,D.int .i64 aB.bn],Ob.row .uq 105 4 (y1.map aK.c),Ob.row .uq 3 1 (y3.map gS),Ob.row .uq 111 3 (mC.map aV.c),Ob.row .uq 53 2 (y5.map aC.c)]⟩)(hm1:aB.av.length<=maxLen):∀(rest:bD) (i1:Nat) (gW:bD),aB.av.drop i1=rest->lm aB y1 y3 y5 k1 rest i1 gW=some r->Ar Γ N f49 (.q [[some (105,4),some (3,1),some (111,3),some (118,8),some (53,2),none]] (D.agg [D.fr 105 4 (r.rules.map aK.c),D.fr 3 1 (r.ends.map gS),D.fr 111 3 (r.av.map aV.c),D.fr 118 8 (r.nodes.map Node.c),D.fr 53 2 (r.facts.map aC.c),D.int .i64 r.bn])) [1,1,0,1,0] (rest.length+1) (As aB y1 y3 y5 (gW.map aV.c) (i1:Int)):=by
 intro rest
 induction rest with
 |nil=>
  intro i1 gW aq h;rw[lm]at h;refine aP fun N1 cC br=>?_
  exact((aT.ge aV.c aq).a [.hl 0 [1,2,3] [0,1,2,3,4,5,6]]).ex hΓ cC (cc gW h)
 |cons bL bz ih1=>
  intro i1 gW aq h;rw[lm]at h;refine aP fun N1 cC br=>?_
  obtain⟨HY,h74,h⟩:=aE h;obtain⟨y75,h76,h⟩:=aE h;obtain⟨h77,h⟩:=bQ h;exact((((((((aT.lt aV.c aq).a [.n2 [0,1,2,3,4,5,6,7,8,9,10,11,12,13,14,15,16,17,18,19,20] [0,1,2,3,4,5,6,7,8,9,10,11,12,13,14,15,16,17,18,19,20] 17 18 [0,1] [7,8]]).l (az aV.c 3 (dc aq) rfl)).g (uH h74)).l (az aV.c 3 (dc aq) rfl)).g (ed h76)).w (bh h77)).a [.cn [1,2,3,4] [0,1,2,3,4,10,6]]).cs hΓ br (As aB y1 y3 y5 ((gW.map aV.c)++([[D.str HY.rel,D.sl (HY.args.map tx),D.sl (y75.map aC.c)]])) (IntKind.i64.wrap ((i1:Int)+1))) (by first| (simp only[iS aq hm1,mA]<;>rfl)| (simp only[iS aq hm1,mA,aC.c,aS.c,aL.c,Action.c,aK.c,aN.c,cX.c,aV.c,Node.c,aG.c,cg.c]<;>rfl)) (ih1 (i1+1) (gW++([(⟨HY,y75⟩:aV)])) (dn aq) h)
def Au(aB:aG)(y1:ah)(y3:bR)(y5:aJ)(mC:bD)(W0:List aQ)(cR:Int):St:=⟨[(1,D.ptr 0 0),(2,D.ptr 1 0),(3,D.ptr 2 0),(5,D.int .i64 cR)],[Ob.box (aG.c aB),Ob.box [D.nil,D.nil,D.nil,D.nil,D.nil,D.int .i64 0],Ob.box [D.acc 3,D.acc 4,D.acc 5,D.acc 6,D.acc 7,D.int .i64 aB.bn],Ob.row .uq 105 4 (y1.map aK.c),Ob.row .uq 3 1 (y3.map gS),Ob.row .uq 111 3 (mC.map aV.c),Ob.row .uq 118 8 W0,Ob.row .uq 53 2 (y5.map aC.c)]⟩
theorem IR(hΓ:Γ.nt=75){aB:aG}{y1:ah}{y3:bR}{y5:aJ}{mC:bD}{r:aG}{k2:b9->Option aG}(zf:∀(sw:b9),k2 sw=some r->Ax Γ N f49 (.q [[some (105,4),some (3,1),some (111,3),some (118,8),some (53,2),none]] (D.agg [D.fr 105 4 (r.rules.map aK.c),D.fr 3 1 (r.ends.map gS),D.fr 111 3 (r.av.map aV.c),D.fr 118 8 (r.nodes.map Node.c),D.fr 53 2 (r.facts.map aC.c),D.int .i64 r.bn])) [1,1,1,1] ⟨[(2,D.ptr 0 0),(3,D.ptr 1 0)],[Ob.box [D.nil,D.nil,D.nil,D.nil,D.nil,D.int .i64 0],Ob.box [D.acc 2,D.acc 3,D.acc 4,D.acc 5,D.acc 6,D.int .i64 aB.bn],Ob.row .uq 105 4 (y1.map aK.c),Ob.row .uq 3 1 (y3.map gS),Ob.row .uq 111 3 (mC.map aV.c),Ob.row .uq 118 8 (sw.map Node.c),Ob.row .uq 53 2 (y5.map aC.c)]⟩)(hm2:aB.nodes.length<=maxLen):∀(rest:b9) (i2:Nat) (uB:b9),aB.nodes.drop i2=rest->lq aB y1 y3 y5 mC k2 rest i2 uB=some r->Ar Γ N f49 (.q [[some (105,4),some (3,1),some (111,3),some (118,8),some (53,2),none]] (D.agg [D.fr 105 4 (r.rules.map aK.c),D.fr 3 1 (r.ends.map gS),D.fr 111 3 (r.av.map aV.c),D.fr 118 8 (r.nodes.map Node.c),D.fr 53 2 (r.facts.map aC.c),D.int .i64 r.bn])) [1,1,1,0,1,0] (rest.length+1) (Au aB y1 y3 y5 mC (uB.map Node.c) (i2:Int)):=by
 intro rest
 induction rest with
 |nil=>
  intro i2 uB hd2 h;rw[lq]at h;refine aP fun N2 ul sA=>?_
  exact((aT.ge Node.c hd2).a [.hl 0 [2,3] [1,2,3,4,5,6,7]]).ex hΓ ul (zf uB h)
 |cons k8 tf ih2=>
  intro i2 uB hd2 h;rw[lq]at h;refine aP fun N2 ul sA=>?_
  obtain⟨AE,h139,h⟩:=aE h;obtain⟨Xw,h141,h⟩:=aE h;obtain⟨h142,h⟩:=bQ h;exact(((((((aT.lt Node.c hd2).l (az Node.c 8 (dc hd2) rfl)).a [.n2 [0,1,2,3,4,5,6,7,8,9,10,11,12,13,14,15,16] [0,1,2,3,4,5,6,7,8,9,10,11,12,13,14,15,16] 13 14 [0,1] [9,10]]).g (oR h139)).g (A5 h141)).w (bh h142)).a [.cn [1,2,3,5] [0,1,2,3,4,5,12,7]]).cs hΓ sA (Au aB y1 y3 y5 mC ((uB.map Node.c)++([[D.int .i64 k8.parent,D.int .i64 AE.kind,D.str AE.pat.rel,D.sl (AE.pat.args.map tx),D.str AE.left,D.str AE.right,D.int .i64 k8.cQ,D.sl (Xw.map aN.c)]])) (IntKind.i64.wrap ((i2:Int)+1))) (by first| (simp only[iS hd2 hm2,mA]<;>rfl)| (simp only[iS hd2 hm2,mA,aC.c,aS.c,aL.c,Action.c,aK.c,aN.c,cX.c,aV.c,Node.c,aG.c,cg.c]<;>rfl)) (ih2 (i2+1) (uB++([(⟨k8.parent,AE,k8.cQ,Xw⟩:Node)])) (dn hd2) h)
theorem rK{aB:aG}{r:aG}(h:ni aB=some r):Good prog 49 [D.agg (aG.c aB)] (D.agg [D.fr 105 4 (r.rules.map aK.c),D.fr 3 1 (r.ends.map gS),D.fr 111 3 (r.av.map aV.c),D.fr 118 8 (r.nodes.map Node.c),D.fr 53 2 (r.facts.map aC.c),D.int .i64 r.bn]):=by
 refine gd func49 [[some (105,4),some (3,1),some (111,3),some (118,8),some (53,2),none]] 75 fun hr Γ hΓ=>?_
 rw[ni]at h;obtain⟨y1,h2,h⟩:=aE h;obtain⟨y3,h4,h⟩:=aE h;obtain⟨y5,h6,h⟩:=aE h;refine(((((aT.a [.n 13]).g (xF h2)).g (HC h4)).g (ed h6)).a [.pb 5 2 111 3,.cn [1,2,3,4] [0,1,5,2,3,6,4]]).lp hΓ (IQ hΓ (fun mC h=>?_) (by have:=(eN.sl (eN.agg (hr _ (aD (i:=0) rfl)) (.sl (aB.av.map aV.c)) (by simp))).1;simpa using this) aB.av 0 ([]:bD) rfl h);refine(aT.a [.pb 2 3 118 8,.cn [1,2,3,5] [0,1,2,3,4,5,7,6]]).lp hΓ (IR hΓ (fun sw h=>?_) (by have:=(eN.sl (eN.agg (hr _ (aD (i:=0) rfl)) (.sl (aB.nodes.map Node.c)) (by simp))).1;simpa using this) aB.nodes 0 ([]:b9) rfl h);cases h;exact aT.ret hΓ
def jv(aB:Int)(aU:Int)(cL:Int):Option Bool:=(bif decide ((aB:Int)>=aU)then(some (decide ((aB:Int)<=cL)))else(some false))
theorem fV{aB:Int}{aU:Int}{cL:Int}{r:Bool}(h:jv aB aU cL=some r):Good prog 155 [D.int .i64 aB,D.int .i64 aU,D.int .i64 cL] (D.bool r):=by
 refine gd func155 [[none]] 15 fun hr Γ hΓ=>?_
 rw[jv]at h;obtain⟨h1,h⟩|⟨h1,h⟩:=aM h
 ·cases h;exact(aT.r 4 h1).ret hΓ
 ·have h:=aI h;subst h;exact(aT.r 4 h1).ret hΓ
def iN(aB:Bytes)(k1:Option Bool):Nat->Int->Option Bool
 |0,_=>none
 |n1+1,qL=>(bif decide ((qL:Int)<(aB.length:Int))then((lF aB qL).bind fun b29=>((jv (IntKind.i64.wrap b29.toNat) 97 122).bind fun TQ=>(bif !(TQ)then((jv (IntKind.i64.wrap b29.toNat) 48 57).bind fun Cr=>(bif !(Cr)then(some false)else(iN aB k1 n1 (IntKind.i64.wrap (qL+1)))))else(iN aB k1 n1 (IntKind.i64.wrap (qL+1))))))else(k1))
def fA(aB:Bytes):Option Bool:=(iN aB ((jv (aB.length:Int) 1 8).bind fun SF=>(some SF)) fuel 0)
def JT(aB:Bytes)(qL:Int):St:=⟨[(0,D.str aB),(3,D.int .i64 qL)],[]⟩
theorem I5(hΓ:Γ.nt=27){aB:Bytes}{r:Bool}{k1:Option Bool}(cc:k1=some r->Ax Γ N f206 (.q [[none]] (D.bool r)) [1,1] ⟨[(0,D.str aB)],[]⟩):∀(n1:Nat) (qL:Int),iN aB k1 n1 qL=some r->Ar Γ N f206 (.q [[none]] (D.bool r)) [1,0,1,0] n1 (JT aB qL):=by
 intro n
 induction n with
 |zero=>intro qL h;simp[iN]at h
 |succ n1 ih1=>
  intro qL h;rw[iN]at h;refine aP fun N1 cC br=>?_
  obtain⟨h28,h⟩|⟨h28,h⟩:=aM h
  ·obtain⟨b29,h30,h⟩:=aE h;obtain⟨TQ,h32,h⟩:=aE h;have kx:=(((aT.b h28).c h30).g (fV h32))
   obtain⟨h33,h⟩|⟨h33,h⟩:=aM h
   ·obtain⟨Cr,h35,h⟩:=aE h;have kM:=(((((kx.r 3 h33).c h30).r 2 h33).g (fV h35)).r 2 h33)
    obtain⟨h36,h⟩|⟨h36,h⟩:=aM h
    ·have h:=aI h;subst h;exact(kM.b h36).ret hΓ
    ·exact((kM.b h36).a [.cn [0,3] []]).cf hΓ br (ih1 (IntKind.i64.wrap (qL+1)) h)
   ·exact(((kx.r 7 h33).F 1).a [.cn [0,3] []]).cf hΓ br (ih1 (IntKind.i64.wrap (qL+1)) h)
  ·exact((aT.b h28).a [.hl 0 [0] []]).ex hΓ cC (cc h)
theorem eF{aB:Bytes}{r:Bool}(h:fA aB=some r):Good prog 206 [D.str aB] (D.bool r):=by
 refine gd func206 [[none]] 27 fun hr Γ hΓ=>?_
 rw[fA]at h;refine(aT.a [.cn [0,3] []]).lp hΓ (I5 hΓ (fun h=>?_) fuel 0 h);obtain⟨SF,h38,h⟩:=aE h;have h:=aI h;subst h;exact(aT.g (fV h38)).ret hΓ
def qB(aB:Bytes):Option Bool:=((fA aB).bind fun y1=>(bif y1 then((lF aB 0).bind fun b4=>((jv (IntKind.i64.wrap b4.toNat) 97 122).bind fun y6=>(some y6)))else(some false)))
theorem lT{aB:Bytes}{r:Bool}(h:qB aB=some r):Good prog 207 [D.str aB] (D.bool r):=by
 refine gd func207 [[none]] 11 fun hr Γ hΓ=>?_
 rw[qB]at h;obtain⟨y1,h2,h⟩:=aE h;obtain⟨h3,h⟩|⟨h3,h⟩:=aM h
 ·obtain⟨b4,h5,h⟩:=aE h;obtain⟨y6,h7,h⟩:=aE h;have h:=aI h;subst h;exact((((((aT.g (eF h2)).r 2 h3).c h5).r 2 h3).g (fV h7)).b h3).ret hΓ
 ·have h:=aI h;subst h;exact((aT.g (eF h2)).r 5 h3).ret hΓ
def oD(aB:aC)(k1:Option Bool):aH->Nat->Option Bool
 | [],i1=>(k1)
 |bL::bz,i1=>((fA bL).bind fun NZ=>(bif !(NZ)then(some false)else(oD aB k1 bz (i1+1))))
def nh(aB:aC):Option Bool:=(oD aB ((qB aB.rel).bind fun Mg=>(bif Mg then(some (decide ((((aB.args.map tx).length:Int):Int)<=3)))else(some false))) aB.args 0)
def JU(aB:aC)(cR:Int):St:=⟨[(1,D.ptr 0 0),(3,D.int .i64 cR)],[Ob.box (aC.c aB)]⟩
theorem I6(hΓ:Γ.nt=27){aB:aC}{r:Bool}{k1:Option Bool}(cc:k1=some r->Ax Γ N f138 (.q [[none]] (D.bool r)) [1,1] ⟨[(1,D.ptr 0 0)],[Ob.box (aC.c aB)]⟩)(hm1:aB.args.length<=maxLen):∀(rest:aH) (i1:Nat),aB.args.drop i1=rest->oD aB k1 rest i1=some r->Ar Γ N f138 (.q [[none]] (D.bool r)) [1,0,1,0] (rest.length+1) (JU aB (i1:Int)):=by
 intro rest
 induction rest with
 |nil=>
  intro i1 aq h;rw[oD]at h;refine aP fun N1 cC br=>?_
  exact((aT.ge tx aq).a [.hl 0 [1] [0]]).ex hΓ cC (cc h)
 |cons bL bz ih1=>
  intro i1 aq h;rw[oD]at h;refine aP fun N1 cC br=>?_
  obtain⟨NZ,h22,h⟩:=aE h;have eH:=(((aT.lt tx aq).l (az tx 1 (dc aq) rfl)).g (eF h22))
  obtain⟨h23,h⟩|⟨h23,h⟩:=aM h
  ·have h:=aI h;subst h;exact(eH.b h23).ret hΓ
  ·exact((eH.b h23).a [.cn [1,3] [0]]).ct hΓ br (iS aq hm1) (ih1 (i1+1) (dn aq) h)
theorem vD{aB:aC}{r:Bool}(h:nh aB=some r):Good prog 138 [D.agg (aC.c aB)] (D.bool r):=by
 refine gd func138 [[none]] 27 fun hr Γ hΓ=>?_
 rw[nh]at h;refine(aT.a [.cn [1,3] [0]]).lp hΓ (I6 hΓ (fun h=>?_) (by have:=(eN.sl (eN.agg (hr _ (aD (i:=0) rfl)) (.sl (aB.args.map tx)) (by simp))).1;simpa using this) aB.args 0 rfl h);obtain⟨Mg,h25,h⟩:=aE h;obtain⟨h26,h⟩|⟨h26,h⟩:=aM h
 ·cases h;exact((aT.g (lT h25)).r 5 h26).ret hΓ
 ·have h:=aI h;subst h;exact((aT.g (lT h25)).r 5 h26).ret hΓ
def rI(aB:Bytes)(aU:Bytes):Option Int:=(bif Op.bytesLess aB aU then(some (-1))else(bif !(Op.bytesLess aB aU||(aB:Bytes)==aU)then(some 1)else(some 0)))
theorem vl{aB:Bytes}{aU:Bytes}{r:Int}(h:rI aB aU=some r):Good prog 208 [D.str aB,D.str aU] (D.int .i64 r):=by
 refine gd func208 [[none]] 13 fun hr Γ hΓ=>?_
 rw[rI]at h;obtain⟨h1,h⟩|⟨h1,h⟩:=aM h
 ·cases h;exact(aT.b h1).ret hΓ
 ·obtain⟨h2,h⟩|⟨h2,h⟩:=aM h
  ·have h:=aI h;subst h;exact((aT.b h1).b h2).ret hΓ
  ·have h:=aI h;subst h;exact((aT.b h1).b h2).ret hΓ
def gQ(k1:Option Bytes):Nat->Int->Bytes->Option Bytes
 |0,_,_=>none
 |n1+1,EM,qL=>(bif decide (0<=(EM:Int))&&decide (0<(10:Int))then(bif decide (([UInt8.ofNat (IntKind.u8.wrap (IntKind.i64.wrap (48+((EM:Int)%10)))).toNat]:Bytes).length+(qL:Bytes).length<=maxLen)then(bif decide (0<=(EM:Int))&&decide (0<(10:Int))then(bif ((EM:Int)/10:Int)==0 then(some (([UInt8.ofNat (IntKind.u8.wrap (IntKind.i64.wrap (48+((EM:Int)%10)))).toNat])++qL))else(gQ k1 n1 ((EM:Int)/10) (([UInt8.ofNat (IntKind.u8.wrap (IntKind.i64.wrap (48+((EM:Int)%10)))).toNat])++qL)))else none)else none)else none)
def gC:Nat->Int->Option Bytes
 |0,_=>none
 |m_+1,aB=>(bif (aB:Int)==(-9223372036854775808)then(some ([45,57,50,50,51,51,55,50,48,51,54,56,53,52,55,55,53,56,48,56]))else(bif decide ((aB:Int)<0)then((gC m_ (IntKind.i64.wrap (0-aB))).bind fun y3=>(bif decide (([45]:Bytes).length+(y3:Bytes).length<=maxLen)then(some (([45])++y3))else none))else(gQ none fuel aB ([]))))
def CX(EM:Int)(qL:Bytes):St:=⟨[(0,D.int .i64 EM),(3,D.str qL)],[]⟩
theorem Bf(hΓ:Γ.nt=25){r:Bytes}{k1:Option Bytes}(cc:k1=some r->Ax Γ N f235 (.q [[none]] (D.str r)) [1,1,1,1,0,0] ⟨[],[]⟩):∀(n1:Nat) (EM:Int) (qL:Bytes),gQ k1 n1 EM qL=some r->Ar Γ N f235 (.q [[none]] (D.str r)) [1,1,1,1,0] n1 (CX EM qL):=by
 intro n
 induction n with
 |zero=>intro EM qL h;simp[gQ]at h
 |succ n1 ih1=>
  intro EM qL h;rw[gQ]at h;refine aP fun N1 cC br=>?_
  obtain⟨h14,h⟩:=bQ h;obtain⟨h15,h⟩:=bQ h;obtain⟨h16,h⟩:=bQ h;have eH:=(((aT.w (Wy .i64 h14)).w (bY h15)).w (Wy .i64 h16))
  obtain⟨h17,h⟩|⟨h17,h⟩:=aM h
  ·cases h;exact(eH.b h17).rts hΓ (D.str (([UInt8.ofNat (IntKind.u8.wrap (IntKind.i64.wrap (48+((EM:Int)%10)))).toNat])++qL)) (by first|rfl| (simp only[mA]<;>rfl))
  ·exact((eH.b h17).a [.cn [0,3] []]).cf hΓ br (ih1 ((EM:Int)/10) (([UInt8.ofNat (IntKind.u8.wrap (IntKind.i64.wrap (48+((EM:Int)%10)))).toNat])++qL) h)
theorem Ai{m_:Nat}(ihR:∀ {aB:Int} {r:Bytes},gC m_ aB=some r->Good prog 235 [D.int .i64 aB] (D.str r)){aB:Int}{r:Bytes}(h:gC (m_+1) aB=some r):Good prog 235 [D.int .i64 aB] (D.str r):=by
 refine gd func235 [[none]] 25 fun hr Γ hΓ=>?_
 rw[gC]at h;obtain⟨h1,h⟩|⟨h1,h⟩:=aM h
 ·cases h;exact(aT.b h1).ret hΓ
 ·obtain⟨h2,h⟩|⟨h2,h⟩:=aM h
  ·obtain⟨y3,h4,h⟩:=aE h;obtain⟨h5,h⟩:=bQ h;cases h;exact((((aT.b h1).b h2).g (ihR h4)).w (bY h5)).rts hΓ (D.str (([45])++y3)) (by first|rfl| (simp only[mA]<;>rfl))
  ·refine(((aT.b h1).b h2).a [.cn [0,3] []]).lp hΓ (Bf hΓ (fun h=>?_) fuel aB ([]) h);cases h
theorem vM:∀(m_:Nat) {aB:Int} {r:Bytes},gC m_ aB=some r->Good prog 235 [D.int .i64 aB] (D.str r)
 |0,_,_,h=>by cases h
 |m_+1,_,_,h=>Ai (fun h=>vM m_ h) h
def oC(aB:Int):Option Bytes:=gC fuel aB
theorem su{aB:Int}{r:Bytes}(h:oC aB=some r):Good prog 235 [D.int .i64 aB] (D.str r):=vM fuel h
def gr(aB:Bytes)(k1:Int->Option (Int×Bool)):Nat->Int->Int->Option (Int×Bool)
 |0,_,_=>none
 |n1+1,MI,MJ=>(bif decide ((MJ:Int)<(aB.length:Int))then((lF aB MJ).bind fun b25=>(bif decide ((b25.toNat:Int)<48)then(some (0,false))else(bif decide ((b25.toNat:Int)>57)then(some (0,false))else(gr aB k1 n1 (IntKind.i64.wrap ((IntKind.i64.wrap (10*MI))+(IntKind.i64.wrap (IntKind.u8.wrap (b25.toNat-48))))) (IntKind.i64.wrap (MJ+1))))))else(k1 MI))
def nF(aB:Bytes):Option (Int×Bool):=((jv (aB.length:Int) 1 4).bind fun y1=>(bif !(y1)then(some (0,false))else(gr aB (fun(Un:Int)=>((oC Un).bind fun EP=>(bif !((EP:Bytes)==aB)then(some (0,false))else(some (Un,true))))) fuel 0 0)))
def Gy(aB:Bytes)(MI:Int)(MJ:Int):St:=⟨[(0,D.str aB),(4,D.int .i64 MI),(5,D.int .i64 MJ)],[]⟩
theorem FQ(hΓ:Γ.nt=39){aB:Bytes}{r:Int×Bool}{k1:Int->Option (Int×Bool)}(cc:∀(Un:Int),k1 Un=some r->Ax Γ N f260 (.q [[none],[none]] (D.hY [D.int .i64 r.1,D.bool r.2])) [1,1,1,1] ⟨[(0,D.str aB),(4,D.int .i64 Un)],[]⟩):∀(n1:Nat) (MI:Int) (MJ:Int),gr aB k1 n1 MI MJ=some r->Ar Γ N f260 (.q [[none],[none]] (D.hY [D.int .i64 r.1,D.bool r.2])) [1,1,1,0,1,0] n1 (Gy aB MI MJ):=by
 intro n
 induction n with
 |zero=>intro MI MJ h;simp[gr]at h
 |succ n1 ih1=>
  intro MI MJ h;rw[gr]at h;refine aP fun N1 cC br=>?_
  obtain⟨h24,h⟩|⟨h24,h⟩:=aM h
  ·obtain⟨b25,h26,h⟩:=aE h;have kx:=((aT.b h24).c h26)
   obtain⟨h27,h⟩|⟨h27,h⟩:=aM h
   ·cases h;exact((kx.r 5 h27).T 1).ret hΓ
   ·have kM:=(((kx.r 3 h27).c h26).r 2 h27)
    obtain⟨h28,h⟩|⟨h28,h⟩:=aM h
    ·cases h;exact(kM.b h28).ret hΓ
    ·exact(((kM.b h28).c h26).a [.cn [0,4,5] []]).cf hΓ br (ih1 (IntKind.i64.wrap ((IntKind.i64.wrap (10*MI))+(IntKind.i64.wrap (IntKind.u8.wrap (b25.toNat-48))))) (IntKind.i64.wrap (MJ+1)) h)
  ·exact((aT.b h24).a [.hl 0 [0,4] []]).ex hΓ cC (cc MI h)
theorem tW{aB:Bytes}{r:Int×Bool}(h:nF aB=some r):Good prog 260 [D.str aB] (D.hY [D.int .i64 r.1,D.bool r.2]):=by
 refine gd func260 [[none],[none]] 39 fun hr Γ hΓ=>?_
 rw[nF]at h;obtain⟨y1,h2,h⟩:=aE h;obtain⟨h3,h⟩|⟨h3,h⟩:=aM h
 ·cases h;exact((aT.g (fV h2)).b h3).ret hΓ
 ·refine(((aT.g (fV h2)).b h3).a [.cn [0,4,5] []]).lp hΓ (FQ hΓ (fun Un h=>?_) fuel 0 0 h);obtain⟨EP,h30,h⟩:=aE h;obtain⟨h31,h⟩|⟨h31,h⟩:=aM h
  ·cases h;exact((aT.g (su h30)).b h31).ret hΓ
  ·cases h;exact((aT.g (su h30)).b h31).ret hΓ
def ir(aB:Bytes)(aU:Bytes):Option Int:=((nF aB).bind fun y1=>((nF aU).bind fun y3=>(bif y1.2 then(bif y3.2 then(bif decide ((y1.1:Int)<y3.1)then(some (-1))else(bif !(y3.2)then(some (-1))else(bif decide ((y1.1:Int)>y3.1)then(some 1)else(bif !(y1.2)then(some 1)else(some 0)))))else(bif !(y3.2)then(some (-1))else(some 0)))else(bif y3.2 then(bif !(y1.2)then(some 1)else((rI aB aU).bind fun Qb=>(some Qb)))else((rI aB aU).bind fun y16=>(some y16))))))
theorem uf{aB:Bytes}{aU:Bytes}{r:Int}(h:ir aB aU=some r):Good prog 209 [D.str aB,D.str aU] (D.int .i64 r):=by
 refine gd func209 [[none]] 54 fun hr Γ hΓ=>?_
 rw[ir]at h;obtain⟨y1,h2,h⟩:=aE h;obtain⟨y3,h4,h⟩:=aE h;have mQ:=((aT.g (tW h2)).g (tW h4))
 obtain⟨h5,h⟩|⟨h5,h⟩:=aM h
 ·have eH:=(mQ.r 2 h5)
  obtain⟨h6,h⟩|⟨h6,h⟩:=aM h
  ·have kx:=(eH.r 4 h6)
   obtain⟨h7,h⟩|⟨h7,h⟩:=aM h
   ·cases h;exact(kx.r 2 h7).ret hΓ
   ·have kM:=((kx.b h7).r 3 h5)
    obtain⟨h8,h⟩|⟨h8,h⟩:=aM h
    ·cases h;exact(kM.b h8).ret hΓ
    ·have uK:=(((kM.b h8).r 2 h5).r 4 h6)
     obtain⟨h9,h⟩|⟨h9,h⟩:=aM h
     ·have h:=aI h;subst h;exact(uK.r 2 h9).ret hΓ
     ·have wO:=((uK.b h9).r 3 h6)
      obtain⟨h10,h⟩|⟨h10,h⟩:=aM h
      ·have h:=aI h;subst h;exact(wO.b h10).ret hΓ
      ·have h:=aI h;subst h;exact((wO.b h10).b h5).ret hΓ
  ·have AA:=(((eH.r 4 h6).F 1).r 3 h5)
   obtain⟨h11,h⟩|⟨h11,h⟩:=aM h
   ·cases h;exact(AA.b h11).ret hΓ
   ·have h:=aI h;subst h;exact(((((((AA.b h11).r 2 h5).r 4 h6).F 1).r 3 h6).F 1).b h5).ret hΓ
 ·have G0:=((((((mQ.r 2 h5).F 5).r 3 h5).F 1).r 2 h5).F 5)
  obtain⟨h12,h⟩|⟨h12,h⟩:=aM h
  ·have KB:=(G0.r 3 h12)
   obtain⟨h13,h⟩|⟨h13,h⟩:=aM h
   ·have h:=aI h;subst h;exact(KB.b h13).ret hΓ
   ·obtain⟨Qb,h15,h⟩:=aE h;have h:=aI h;subst h;exact(((KB.b h13).b h5).g (vl h15)).ret hΓ
  ·obtain⟨y16,h17,h⟩:=aE h;have h:=aI h;subst h;exact((((G0.r 3 h12).F 1).b h5).g (vl h17)).ret hΓ
def iM(aB:aC)(aU:aC)(k1:Option Int):aH->Nat->Option Int
 | [],i1=>(k1)
 |bL::bz,i1=>(bif decide (((i1:Int):Int)<((aU.args.map tx).length:Int))then((lF aU.args (i1:Int)).bind fun x37=>((ir bL x37).bind fun ML=>(bif (ML:Int) != 0 then(some ML)else(iM aB aU k1 bz (i1+1)))))else(k1))
def eR(aB:aC)(aU:aC):Option Int:=(bif !((aB.rel:Bytes)==aU.rel)then((rI aB.rel aU.rel).bind fun y2=>(some y2))else(iM aB aU (bif decide ((((aB.args.map tx).length:Int):Int)<((aU.args.map tx).length:Int))then(some (-1))else(bif decide ((((aB.args.map tx).length:Int):Int)>((aU.args.map tx).length:Int))then(some 1)else(some 0))) aB.args 0))
def Bc(aB:aC)(aU:aC)(cR:Int):St:=⟨[(2,D.ptr 0 0),(3,D.ptr 1 0),(5,D.int .i64 cR)],[Ob.box (aC.c aB),Ob.box (aC.c aU)]⟩
theorem Ad(hΓ:Γ.nt=61){aB:aC}{aU:aC}{r:Int}{k1:Option Int}(cc:k1=some r->Ax Γ N f139 (.q [[none]] (D.int .i64 r)) [1,1,1] ⟨[(2,D.ptr 0 0),(3,D.ptr 1 0)],[Ob.box (aC.c aB),Ob.box (aC.c aU)]⟩)(hm1:aB.args.length<=maxLen):∀(rest:aH) (i1:Nat),aB.args.drop i1=rest->iM aB aU k1 rest i1=some r->Ar Γ N f139 (.q [[none]] (D.int .i64 r)) [1,1,0,1,0] (rest.length+1) (Bc aB aU (i1:Int)):=by
 intro rest
 induction rest with
 |nil=>
  intro i1 aq h;rw[iM]at h;refine aP fun N1 cC br=>?_
  exact((((((((aT.ge tx aq).ge tx aq).ge tx aq).ge tx aq).ge tx aq).ge tx aq).F 1).a [.hl 0 [2,3] [0,1]]).ex hΓ cC (cc h)
 |cons bL bz ih1=>
  intro i1 aq h;rw[iM]at h;refine aP fun N1 cC br=>?_
  have kx:=((((((aT.lt tx aq).lt tx aq).lt tx aq).lt tx aq).lt tx aq).lt tx aq)
  obtain⟨h36,h⟩|⟨h36,h⟩:=aM h
  ·obtain⟨x37,h38,h⟩:=aE h;obtain⟨ML,h40,h⟩:=aE h;have kM:=(((((kx.b h36).a [.n 10]).l (az tx 1 (dc aq) rfl)).l (eA tx 1 h38 rfl)).g (uf h40))
   obtain⟨h41,h⟩|⟨h41,h⟩:=aM h
   ·have h:=aI h;subst h;exact(kM.b h41).ret hΓ
   ·exact((kM.b h41).a [.cn [2,3,5] [0,1]]).ct hΓ br (iS aq hm1) (ih1 (i1+1) (dn aq) h)
  ·exact((kx.b h36).a [.hl 0 [2,3] [0,1]]).ex hΓ cC (cc h)
theorem mE{aB:aC}{aU:aC}{r:Int}(h:eR aB aU=some r):Good prog 139 [D.agg (aC.c aB),D.agg (aC.c aU)] (D.int .i64 r):=by
 refine gd func139 [[none]] 61 fun hr Γ hΓ=>?_
 rw[eR]at h;obtain⟨h1,h⟩|⟨h1,h⟩:=aM h
 ·obtain⟨y2,h3,h⟩:=aE h;have h:=aI h;subst h;exact((aT.b h1).g (vl h3)).ret hΓ
 ·refine((aT.b h1).a [.cn [2,3,5] [0,1]]).lp hΓ (Ad hΓ (fun h=>?_) (by have:=(eN.sl (eN.agg (hr _ (aD (i:=0) rfl)) (.sl (aB.args.map tx)) (by simp))).1;simpa using this) aB.args 0 rfl h);obtain⟨h42,h⟩|⟨h42,h⟩:=aM h
  ·cases h;exact(aT.b h42).ret hΓ
  ·obtain⟨h43,h⟩|⟨h43,h⟩:=aM h
   ·have h:=aI h;subst h;exact((aT.b h42).b h43).ret hΓ
   ·have h:=aI h;subst h;exact((aT.b h42).b h43).ret hΓ
def jU(aB:aJ)(k1:Option Bool):aJ->Nat->Option Bool
 | [],i1=>(k1)
 |bL::bz,i1=>((nh bL).bind fun GB=>(bif !(GB)then(some false)else(bif decide (((i1:Int):Int)>0)then((lF aB (IntKind.i64.wrap ((i1:Int)-1))).bind fun x49=>((eR x49 bL).bind fun y51=>(bif decide ((y51:Int)>=0)then(some false)else(jU aB k1 bz (i1+1)))))else(jU aB k1 bz (i1+1)))))
def nE(aB:aJ):Option Bool:=(jU aB (some (decide ((((aB.map aC.c).length:Int):Int)<=24))) aB 0)
def Gs(aB:aJ)(cR:Int):St:=⟨[(0,D.sl (aB.map aC.c)),(3,D.int .i64 cR)],[]⟩
theorem FF(hΓ:Γ.nt=36){aB:aJ}{r:Bool}{k1:Option Bool}(cc:k1=some r->Ax Γ N f80 (.q [[none]] (D.bool r)) [1,1] ⟨[(0,D.sl (aB.map aC.c))],[]⟩)(hm1:aB.length<=maxLen):∀(rest:aJ) (i1:Nat),aB.drop i1=rest->jU aB k1 rest i1=some r->Ar Γ N f80 (.q [[none]] (D.bool r)) [1,0,1,0] (rest.length+1) (Gs aB (i1:Int)):=by
 intro rest
 induction rest with
 |nil=>
  intro i1 aq h;rw[jU]at h;refine aP fun N1 cC br=>?_
  exact((aT.ge aC.c aq).a [.hl 0 [0] []]).ex hΓ cC (cc h)
 |cons bL bz ih1=>
  intro i1 aq h;rw[jU]at h;refine aP fun N1 cC br=>?_
  obtain⟨GB,h46,h⟩:=aE h;have kM:=((((aT.lt aC.c aq).a [.n 19]).l (az aC.c 2 (dc aq) rfl)).g (vD h46))
  obtain⟨h47,h⟩|⟨h47,h⟩:=aM h
  ·have h:=aI h;subst h;exact((((kM.r 3 h47).a [bF,bF,bF,bF,bF,bF,bF,bF,bF,bF,bF]).r 2 h47).T 1).ret hΓ
  ·have uK:=(kM.r 3 h47)
   obtain⟨h48,h⟩|⟨h48,h⟩:=aM h
   ·obtain⟨x49,h50,h⟩:=aE h;obtain⟨y51,h52,h⟩:=aE h;have wO:=((((((((((uK.r 4 h48).l (eA aC.c 2 h50 rfl)).r 4 h48).l (az aC.c 2 (dc aq) rfl)).r 2 h48).g (mE h52)).b h48).b h47).b h48).b h47)
    obtain⟨h53,h⟩|⟨h53,h⟩:=aM h
    ·have h:=aI h;subst h;exact(wO.b h53).ret hΓ
    ·exact((wO.b h53).a [.cn [0,3] []]).ct hΓ br (iS aq hm1) (ih1 (i1+1) (dn aq) h)
   ·exact((((((uK.r 11 h48).b h47).b h48).b h47).F 1).a [.cn [0,3] []]).ct hΓ br (iS aq hm1) (ih1 (i1+1) (dn aq) h)
theorem pQ{aB:aJ}{r:Bool}(h:nE aB=some r):Good prog 80 [D.sl (aB.map aC.c)] (D.bool r):=by
 refine gd func80 [[none]] 36 fun hr Γ hΓ=>?_
 rw[nE]at h;refine(aT.a [.cn [0,3] []]).lp hΓ (FF hΓ (fun h=>?_) (by have:=(eN.sl (hr _ (aD (i:=0) rfl))).1;simpa using this) aB 0 rfl h);cases h;exact aT.ret hΓ
def jE(aB:aH)(aU:aH)(k1:Option Bool):aH->Nat->Option Bool
 | [],i1=>(k1)
 |bL::bz,i1=>((lF aU (i1:Int)).bind fun x22=>(bif !((bL:Bytes)==x22)then(some false)else(jE aB aU k1 bz (i1+1))))
def lX(aB:aH)(aU:aH):Option Bool:=(bif (((aB.map tx).length:Int):Int) != ((aU.map tx).length:Int)then(some false)else(jE aB aU (some true) aB 0))
def Cf(aB:aH)(aU:aH)(cR:Int):St:=⟨[(0,D.sl (aB.map tx)),(1,D.sl (aU.map tx)),(5,D.int .i64 cR)],[]⟩
theorem Bi(hΓ:Γ.nt=26){aB:aH}{aU:aH}{r:Bool}{k1:Option Bool}(cc:k1=some r->Ax Γ N f224 (.q [[none]] (D.bool r)) [1,1,1] ⟨[],[]⟩)(hm1:aB.length<=maxLen):∀(rest:aH) (i1:Nat),aB.drop i1=rest->jE aB aU k1 rest i1=some r->Ar Γ N f224 (.q [[none]] (D.bool r)) [1,1,0,1,0] (rest.length+1) (Cf aB aU (i1:Int)):=by
 intro rest
 induction rest with
 |nil=>
  intro i1 aq h;rw[jE]at h;refine aP fun N1 cC br=>?_
  exact((aT.ge tx aq).a [.hl 0 [] []]).ex hΓ cC (cc h)
 |cons bL bz ih1=>
  intro i1 aq h;rw[jE]at h;refine aP fun N1 cC br=>?_
  obtain⟨x22,h23,h⟩:=aE h;have eH:=((((aT.lt tx aq).a [.n 8]).l (az tx 1 (dc aq) rfl)).l (eA tx 1 h23 rfl))
  obtain⟨h24,h⟩|⟨h24,h⟩:=aM h
  ·have h:=aI h;subst h;exact(eH.b h24).ret hΓ
  ·exact((eH.b h24).a [.cn [0,1,5] []]).ct hΓ br (iS aq hm1) (ih1 (i1+1) (dn aq) h)
theorem vO{aB:aH}{aU:aH}{r:Bool}(h:lX aB aU=some r):Good prog 224 [D.sl (aB.map tx),D.sl (aU.map tx)] (D.bool r):=by
 refine gd func224 [[none]] 26 fun hr Γ hΓ=>?_
 rw[lX]at h;obtain⟨h1,h⟩|⟨h1,h⟩:=aM h
 ·have h:=aI h;subst h;exact(aT.b h1).ret hΓ
 ·refine((aT.b h1).a [.cn [0,1,5] []]).lp hΓ (Bi hΓ (fun h=>?_) (by have:=(eN.sl (hr _ (aD (i:=0) rfl))).1;simpa using this) aB 0 rfl h);have h:=aI h;subst h;exact aT.ret hΓ
def qE(aB:aC)(aU:aC):Option Bool:=(bif (aB.rel:Bytes)==aU.rel then((lX aB.args aU.args).bind fun y2=>(some y2))else(some false))
theorem yz{aB:aC}{aU:aC}{r:Bool}(h:qE aB aU=some r):Good prog 150 [D.agg (aC.c aB),D.agg (aC.c aU)] (D.bool r):=by
 refine gd func150 [[none]] 17 fun hr Γ hΓ=>?_
 rw[qE]at h;obtain⟨h1,h⟩|⟨h1,h⟩:=aM h
 ·obtain⟨y2,h3,h⟩:=aE h;have h:=aI h;subst h;exact(((aT.r 5 h1).g (vO h3)).b h1).ret hΓ
 ·have h:=aI h;subst h;exact(aT.r 6 h1).ret hΓ
def jW(aB:aJ)(aU:aC)(k1:Option Int):aJ->Nat->Option Int
 | [],i1=>(k1)
 |bL::bz,i1=>((qE bL aU).bind fun NZ=>(bif NZ then(some (i1:Int))else(jW aB aU k1 bz (i1+1))))
def rq(aB:aJ)(aU:aC):Option Int:=(jW aB aU (some (-1)) aB 0)
def Gv(aB:aJ)(aU:aC)(cR:Int):St:=⟨[(0,D.sl (aB.map aC.c)),(3,D.ptr 0 0),(5,D.int .i64 cR)],[Ob.box (aC.c aU)]⟩
theorem FJ(hΓ:Γ.nt=19){aB:aJ}{aU:aC}{r:Int}{k1:Option Int}(cc:k1=some r->Ax Γ N f165 (.q [[none]] (D.int .i64 r)) [1,1] ⟨[],[]⟩)(hm1:aB.length<=maxLen):∀(rest:aJ) (i1:Nat),aB.drop i1=rest->jW aB aU k1 rest i1=some r->Ar Γ N f165 (.q [[none]] (D.int .i64 r)) [1,0,1,0] (rest.length+1) (Gv aB aU (i1:Int)):=by
 intro rest
 induction rest with
 |nil=>
  intro i1 aq h;rw[jW]at h;refine aP fun N1 cC br=>?_
  exact((aT.ge aC.c aq).a [.hl 0 [] []]).ex hΓ cC (cc h)
 |cons bL bz ih1=>
  intro i1 aq h;rw[jW]at h;refine aP fun N1 cC br=>?_
  obtain⟨NZ,h22,h⟩:=aE h;have eH:=((((aT.lt aC.c aq).a [.n 5]).l (az aC.c 2 (dc aq) rfl)).g (yz h22))
  obtain⟨h23,h⟩|⟨h23,h⟩:=aM h
  ·cases h;exact(eH.b h23).ret hΓ
  ·exact((eH.b h23).a [.cn [0,3,5] [0]]).ct hΓ br (iS aq hm1) (ih1 (i1+1) (dn aq) h)
theorem Dd{aB:aJ}{aU:aC}{r:Int}(h:rq aB aU=some r):Good prog 165 [D.sl (aB.map aC.c),D.agg (aC.c aU)] (D.int .i64 r):=by
 refine gd func165 [[none]] 19 fun hr Γ hΓ=>?_
 rw[rq]at h;refine(aT.a [.cn [0,3,5] [0]]).lp hΓ (FJ hΓ (fun h=>?_) (by have:=(eN.sl (hr _ (aD (i:=0) rfl))).1;simpa using this) aB 0 rfl h);cases h;exact aT.ret hΓ
def dS(aB:aJ)(aU:aC)(k1:Bool->aJ->Option aJ):aJ->Nat->Bool->aJ->Option aJ
 | [],i1,jB,bW=>(k1 jB bW)
 |bL::bz,i1,jB,bW=>(bif !(jB)then((eR bL aU).bind fun a5X=>(bif decide ((a5X:Int)>=0)then((eR bL aU).bind fun Fo=>(bif decide ((Fo:Int)>0)then((eS aU).bind fun Oq=>(bif room ((bW.map aC.c).length+([[D.str Oq.rel,D.sl (Oq.args.map tx)]]).length) 40 then((eS bL).bind fun AE=>(bif room (((bW.map aC.c)++([[D.str Oq.rel,D.sl (Oq.args.map tx)]])).length+([[D.str AE.rel,D.sl (AE.args.map tx)]]).length) 40 then(dS aB aU k1 bz (i1+1) true ((bW++([Oq]))++([AE])))else none))else none))else((eS bL).bind fun SC=>(bif room ((bW.map aC.c).length+([[D.str SC.rel,D.sl (SC.args.map tx)]]).length) 40 then(dS aB aU k1 bz (i1+1) true (bW++([SC])))else none))))else((eS bL).bind fun SD=>(bif room ((bW.map aC.c).length+([[D.str SD.rel,D.sl (SD.args.map tx)]]).length) 40 then(dS aB aU k1 bz (i1+1) jB (bW++([SD])))else none))))else((eS bL).bind fun zX=>(bif room ((bW.map aC.c).length+([[D.str zX.rel,D.sl (zX.args.map tx)]]).length) 40 then(dS aB aU k1 bz (i1+1) jB (bW++([zX])))else none)))
def vm(aB:aJ)(aU:aC):Option aJ:=(dS aB aU (fun(wZ:Bool) (qy:aJ)=>(bif !(wZ)then((eS aU).bind fun Uh=>(bif room ((qy.map aC.c).length+([[D.str Uh.rel,D.sl (Uh.args.map tx)]]).length) 40 then(some (qy++([Uh])))else none))else(some qy))) aB 0 false ([]:aJ))
def s7(aB:aJ)(aU:aC)(jB:Bool)(W1:List aQ)(cR:Int):St:=⟨[(0,D.sl (aB.map aC.c)),(3,D.ptr 0 0),(5,D.acc 1),(6,D.bool jB),(7,D.int .i64 cR)],[Ob.box (aC.c aU),Ob.row .uq 53 2 W1]⟩
theorem Jc(hΓ:Γ.nt=54){aB:aJ}{aU:aC}{r:aJ}{k1:Bool->aJ->Option aJ}(cc:∀(wZ:Bool) (qy:aJ),k1 wZ qy=some r->Ax Γ N f170 (.q [[some (53,2)]] (D.fr 53 2 (r.map aC.c))) [1,1,1,1] ⟨[(3,D.ptr 0 0),(5,D.acc 1),(6,D.bool wZ)],[Ob.box (aC.c aU),Ob.row .uq 53 2 (qy.map aC.c)]⟩)(hm1:aB.length<=maxLen):∀(rest:aJ) (i1:Nat) (jB:Bool) (bW:aJ),aB.drop i1=rest->dS aB aU k1 rest i1 jB bW=some r->Ar Γ N f170 (.q [[some (53,2)]] (D.fr 53 2 (r.map aC.c))) [1,1,1,0,1,0] (rest.length+1) (s7 aB aU jB (bW.map aC.c) (i1:Int)):=by
 intro rest
 induction rest with
 |nil=>
  intro i1 jB bW aq h;rw[dS]at h;refine aP fun N1 cC br=>?_
  exact((aT.ge aC.c aq).a [.hl 0 [3,5,6] [0,1]]).ex hΓ cC (cc jB bW h)
 |cons bL bz ih1=>
  intro i1 jB bW aq h;rw[dS]at h;refine aP fun N1 cC br=>?_
  have kM:=((aT.lt aC.c aq).a [.n 8])
  obtain⟨h128,h⟩|⟨h128,h⟩:=aM h
  ·obtain⟨a5X,h130,h⟩:=aE h;have uK:=(((((kM.r 3 h128).l (az aC.c 2 (dc aq) rfl)).r 3 h128).g (mE h130)).r 2 h128)
   obtain⟨h131,h⟩|⟨h131,h⟩:=aM h
   ·obtain⟨Fo,h133,h⟩:=aE h;have wO:=((((uK.b h131).a [.n 5]).l (az aC.c 2 (dc aq) rfl)).g (mE h133))
    obtain⟨h134,h⟩|⟨h134,h⟩:=aM h
    ·obtain⟨Oq,h136,h⟩:=aE h;obtain⟨h137,h⟩:=bQ h;obtain⟨AE,h139,h⟩:=aE h;obtain⟨h140,h⟩:=bQ h;exact(((((((wO.b h134).g (gE h136)).w (bh h137)).l (az aC.c 2 (dc aq) rfl)).g (gE h139)).w (bh h140)).a [.cn [0,3,5,6,7] [0,7]]).cs hΓ br (s7 aB aU true (((bW.map aC.c)++([[D.str Oq.rel,D.sl (Oq.args.map tx)]]))++([[D.str AE.rel,D.sl (AE.args.map tx)]])) (IntKind.i64.wrap ((i1:Int)+1))) (by first| (simp only[iS aq hm1,mA]<;>rfl)| (simp only[iS aq hm1,mA,aC.c,aS.c,aL.c,Action.c,aK.c,aN.c,cX.c,aV.c,Node.c,aG.c,cg.c]<;>rfl)) (ih1 (i1+1) true ((bW++([Oq]))++([AE])) (dn aq) h)
    ·obtain⟨SC,h142,h⟩:=aE h;obtain⟨h143,h⟩:=bQ h;exact(((((wO.b h134).l (az aC.c 2 (dc aq) rfl)).g (gE h142)).w (bh h143)).a [.cn [0,3,5,6,7] [0,4]]).cs hΓ br (s7 aB aU true ((bW.map aC.c)++([[D.str SC.rel,D.sl (SC.args.map tx)]])) (IntKind.i64.wrap ((i1:Int)+1))) (by first| (simp only[iS aq hm1,mA]<;>rfl)| (simp only[iS aq hm1,mA,aC.c,aS.c,aL.c,Action.c,aK.c,aN.c,cX.c,aV.c,Node.c,aG.c,cg.c]<;>rfl)) (ih1 (i1+1) true (bW++([SC])) (dn aq) h)
   ·obtain⟨SD,h145,h⟩:=aE h;obtain⟨h146,h⟩:=bQ h;exact(((((uK.b h131).l (az aC.c 2 (dc aq) rfl)).g (gE h145)).w (bh h146)).a [.cn [0,3,5,6,7] [0,4]]).cs hΓ br (s7 aB aU jB ((bW.map aC.c)++([[D.str SD.rel,D.sl (SD.args.map tx)]])) (IntKind.i64.wrap ((i1:Int)+1))) (by first| (simp only[iS aq hm1,mA]<;>rfl)| (simp only[iS aq hm1,mA,aC.c,aS.c,aL.c,Action.c,aK.c,aN.c,cX.c,aV.c,Node.c,aG.c,cg.c]<;>rfl)) (ih1 (i1+1) jB (bW++([SD])) (dn aq) h)
  ·obtain⟨zX,h148,h⟩:=aE h;obtain⟨h149,h⟩:=bQ h;exact((((((kM.r 8 h128).F 1).l (az aC.c 2 (dc aq) rfl)).g (gE h148)).w (bh h149)).a [.cn [0,3,5,6,7] [0,4]]).cs hΓ br (s7 aB aU jB ((bW.map aC.c)++([[D.str zX.rel,D.sl (zX.args.map tx)]])) (IntKind.i64.wrap ((i1:Int)+1))) (by first| (simp only[iS aq hm1,mA]<;>rfl)| (simp only[iS aq hm1,mA,aC.c,aS.c,aL.c,Action.c,aK.c,aN.c,cX.c,aV.c,Node.c,aG.c,cg.c]<;>rfl)) (ih1 (i1+1) jB (bW++([zX])) (dn aq) h)
theorem IG{aB:aJ}{aU:aC}{r:aJ}(h:vm aB aU=some r):Good prog 170 [D.sl (aB.map aC.c),D.agg (aC.c aU)] (D.fr 53 2 (r.map aC.c)):=by
 refine gd func170 [[some (53,2)]] 54 fun hr Γ hΓ=>?_
 rw[vm]at h;refine(aT.a [.cn [0,3,5,6,7] [0,1]]).lp hΓ (Jc hΓ (fun wZ qy h=>?_) (by have:=(eN.sl (hr _ (aD (i:=0) rfl))).1;simpa using this) aB 0 false ([]:aJ) rfl h);obtain⟨h150,h⟩|⟨h150,h⟩:=aM h
 ·obtain⟨Uh,h152,h⟩:=aE h;obtain⟨h153,h⟩:=bQ h;cases h;exact(((aT.b h150).g (gE h152)).w (bh h153)).rts hΓ (D.fr 53 2 ((qy.map aC.c)++([[D.str Uh.rel,D.sl (Uh.args.map tx)]]))) (by first|rfl| (simp only[mA]<;>rfl))
 ·have h:=aI h;subst h;exact(aT.b h150).ret hΓ
def tV(aB:aJ)(aU:aC):Option (aJ×Bool):=((nE aB).bind fun y1=>(bif !(y1)then((dB aB).bind fun y4=>(some (y4,false)))else((nh aU).bind fun y6=>(bif !(y6)then((dB aB).bind fun y9=>(some (y9,false)))else((rq aB aU).bind fun Mf=>(bif decide ((Mf:Int)>=0)then((dB aB).bind fun Qb=>(some (Qb,false)))else(bif (((aB.map aC.c).length:Int):Int)==24 then((dB aB).bind fun Ot=>(some (Ot,false)))else((vm aB aU).bind fun y19=>(some (y19,true))))))))))
theorem FE{aB:aJ}{aU:aC}{r:aJ×Bool}(h:tV aB aU=some r):Good prog 98 [D.sl (aB.map aC.c),D.agg (aC.c aU)] (D.hY [D.fr 53 2 (r.1.map aC.c),D.bool r.2]):=by
 refine gd func98 [[some (53,2)],[none]] 30 fun hr Γ hΓ=>?_
 rw[tV]at h;obtain⟨y1,h2,h⟩:=aE h;obtain⟨h3,h⟩|⟨h3,h⟩:=aM h
 ·obtain⟨y4,h5,h⟩:=aE h;cases h;exact((((aT.g (pQ h2)).r 4 h3).T 10).g (ed h5)).ret hΓ
 ·obtain⟨y6,h7,h⟩:=aE h;have mQ:=((((aT.g (pQ h2)).r 2 h3).g (vD h7)).r 2 h3)
  obtain⟨h8,h⟩|⟨h8,h⟩:=aM h
  ·obtain⟨y9,h10,h⟩:=aE h;cases h;exact(((mQ.r 5 h8).T 5).g (ed h10)).ret hΓ
  ·obtain⟨Mf,h12,h⟩:=aE h;have eH:=(((mQ.r 3 h8).g (Dd h12)).r 2 h8)
   obtain⟨h13,h⟩|⟨h13,h⟩:=aM h
   ·obtain⟨Qb,h15,h⟩:=aE h;cases h;exact(((eH.r 4 h13).T 1).g (ed h15)).ret hΓ
   ·have kx:=(eH.r 4 h13)
    obtain⟨h16,h⟩|⟨h16,h⟩:=aM h
    ·obtain⟨Ot,h18,h⟩:=aE h;cases h;exact((kx.b h16).g (ed h18)).ret hΓ
    ·obtain⟨y19,h20,h⟩:=aE h;cases h;exact((kx.b h16).g (IG h20)).ret hΓ
def gT(aB:Bytes):Option Bool:=(bif decide (((aB.length:Int):Int)>1)then((lF aB 0).bind fun b2=>(bif (b2.toNat:Int)==63 then((Kb aB.length (some (D.int .i64 1)) none).bind fun p=>(fun l5 u6=>((fA ((aB.take u6).drop l5)).bind fun y8=>(some y8))) p.1 p.2)else(some false)))else(some false))
theorem fY{aB:Bytes}{r:Bool}(h:gT aB=some r):Good prog 234 [D.str aB] (D.bool r):=by
 refine gd func234 [[none]] 16 fun hr Γ hΓ=>?_
 rw[gT]at h;obtain⟨h1,h⟩|⟨h1,h⟩:=aM h
 ·obtain⟨b2,h3,h⟩:=aE h;have mQ:=(((aT.r 2 h1).c h3).r 2 h1)
  obtain⟨h4,h⟩|⟨h4,h⟩:=aM h
  ·obtain⟨⟨l5,u6⟩,h7,h⟩:=aE h;obtain⟨y8,h9,h⟩:=aE h;have h:=aI h;subst h;exact((((((mQ.r 2 h4).w h7).a [.cut l5 u6]).b h4).g (eF h9)).b h4).ret hΓ
  ·have h:=aI h;subst h;exact(mQ.r 4 h4).ret hΓ
 ·have h:=aI h;subst h;exact((aT.r 4 h1).F 4).ret hΓ
def e9(aB:aH)(aU:Bytes)(k1:Bool->aH->Option aH):aH->Nat->Bool->aH->Option aH
 | [],i1,jB,bA=>(k1 jB bA)
 |bL::bz,i1,jB,bA=>(bif !(jB)then(bif !(Op.bytesLess bL aU)then(bif !((bL:Bytes)==aU)then(bif room ((bA.map tx).length+([[D.str aU]]).length) 16 then(bif room (((bA.map tx)++([[D.str aU]])).length+([[D.str bL]]).length) 16 then(e9 aB aU k1 bz (i1+1) true ((bA++([aU]))++([bL])))else none)else none)else(bif room ((bA.map tx).length+([[D.str bL]]).length) 16 then(e9 aB aU k1 bz (i1+1) true (bA++([bL])))else none))else(bif room ((bA.map tx).length+([[D.str bL]]).length) 16 then(e9 aB aU k1 bz (i1+1) jB (bA++([bL])))else none))else(bif room ((bA.map tx).length+([[D.str bL]]).length) 16 then(e9 aB aU k1 bz (i1+1) jB (bA++([bL])))else none))
def kJ(aB:aH)(aU:Bytes):Option aH:=(e9 aB aU (fun(wZ:Bool) (bf:aH)=>(bif !(wZ)then(bif room ((bf.map tx).length+([[D.str aU]]).length) 16 then(some (bf++([aU])))else none)else(some bf))) aB 0 false ([]:aH))
def s6(aB:aH)(aU:Bytes)(jB:Bool)(W1:List aQ)(cR:Int):St:=⟨[(0,D.sl (aB.map tx)),(1,D.str aU),(5,D.acc 0),(6,D.bool jB),(7,D.int .i64 cR)],[Ob.row .uq 9 1 W1]⟩
theorem Jb(hΓ:Γ.nt=49){aB:aH}{aU:Bytes}{r:aH}{k1:Bool->aH->Option aH}(cc:∀(wZ:Bool) (bf:aH),k1 wZ bf=some r->Ax Γ N f275 (.q [[some (9,1)]] (D.fr 9 1 (r.map tx))) [1,1,1,1] ⟨[(1,D.str aU),(5,D.acc 0),(6,D.bool wZ)],[Ob.row .uq 9 1 (bf.map tx)]⟩)(hm1:aB.length<=maxLen):∀(rest:aH) (i1:Nat) (jB:Bool) (bA:aH),aB.drop i1=rest->e9 aB aU k1 rest i1 jB bA=some r->Ar Γ N f275 (.q [[some (9,1)]] (D.fr 9 1 (r.map tx))) [1,1,1,0,1,0] (rest.length+1) (s6 aB aU jB (bA.map tx) (i1:Int)):=by
 intro rest
 induction rest with
 |nil=>
  intro i1 jB bA aq h;rw[e9]at h;refine aP fun N1 cC br=>?_
  exact((aT.ge tx aq).a [.hl 0 [1,5,6] [0]]).ex hΓ cC (cc jB bA h)
 |cons bL bz ih1=>
  intro i1 jB bA aq h;rw[e9]at h;refine aP fun N1 cC br=>?_
  obtain⟨h58,h⟩|⟨h58,h⟩:=aM h
  ·have kx:=((((aT.lt tx aq).r 3 h58).l (az tx 1 (dc aq) rfl)).r 4 h58)
   obtain⟨h59,h⟩|⟨h59,h⟩:=aM h
   ·have kM:=((kx.b h59).l (az tx 1 (dc aq) rfl))
    obtain⟨h60,h⟩|⟨h60,h⟩:=aM h
    ·obtain⟨h61,h⟩:=bQ h;obtain⟨h62,h⟩:=bQ h;exact(((((kM.b h60).w (bh h61)).l (az tx 1 (dc aq) rfl)).w (bh h62)).a [.cn [0,1,5,6,7] [4]]).cs hΓ br (s6 aB aU true (((bA.map tx)++([[D.str aU]]))++([[D.str bL]])) (IntKind.i64.wrap ((i1:Int)+1))) (by first| (simp only[iS aq hm1,mA]<;>rfl)| (simp only[iS aq hm1,mA,aC.c,aS.c,aL.c,Action.c,aK.c,aN.c,cX.c,aV.c,Node.c,aG.c,cg.c]<;>rfl)) (ih1 (i1+1) true ((bA++([aU]))++([bL])) (dn aq) h)
    ·obtain⟨h63,h⟩:=bQ h;exact((((kM.b h60).l (az tx 1 (dc aq) rfl)).w (bh h63)).a [.cn [0,1,5,6,7] [2]]).cs hΓ br (s6 aB aU true ((bA.map tx)++([[D.str bL]])) (IntKind.i64.wrap ((i1:Int)+1))) (by first| (simp only[iS aq hm1,mA]<;>rfl)| (simp only[iS aq hm1,mA,aC.c,aS.c,aL.c,Action.c,aK.c,aN.c,cX.c,aV.c,Node.c,aG.c,cg.c]<;>rfl)) (ih1 (i1+1) true (bA++([bL])) (dn aq) h)
   ·obtain⟨h64,h⟩:=bQ h;exact((((kx.b h59).l (az tx 1 (dc aq) rfl)).w (bh h64)).a [.cn [0,1,5,6,7] [2]]).cs hΓ br (s6 aB aU jB ((bA.map tx)++([[D.str bL]])) (IntKind.i64.wrap ((i1:Int)+1))) (by first| (simp only[iS aq hm1,mA]<;>rfl)| (simp only[iS aq hm1,mA,aC.c,aS.c,aL.c,Action.c,aK.c,aN.c,cX.c,aV.c,Node.c,aG.c,cg.c]<;>rfl)) (ih1 (i1+1) jB (bA++([bL])) (dn aq) h)
  ·obtain⟨h65,h⟩:=bQ h;exact((((((aT.lt tx aq).r 7 h58).F 1).l (az tx 1 (dc aq) rfl)).w (bh h65)).a [.cn [0,1,5,6,7] [2]]).cs hΓ br (s6 aB aU jB ((bA.map tx)++([[D.str bL]])) (IntKind.i64.wrap ((i1:Int)+1))) (by first| (simp only[iS aq hm1,mA]<;>rfl)| (simp only[iS aq hm1,mA,aC.c,aS.c,aL.c,Action.c,aK.c,aN.c,cX.c,aV.c,Node.c,aG.c,cg.c]<;>rfl)) (ih1 (i1+1) jB (bA++([bL])) (dn aq) h)
theorem kK{aB:aH}{aU:Bytes}{r:aH}(h:kJ aB aU=some r):Good prog 275 [D.sl (aB.map tx),D.str aU] (D.fr 9 1 (r.map tx)):=by
 refine gd func275 [[some (9,1)]] 49 fun hr Γ hΓ=>?_
 rw[kJ]at h;refine(aT.a [.cn [0,1,5,6,7] [0]]).lp hΓ (Jb hΓ (fun wZ bf h=>?_) (by have:=(eN.sl (hr _ (aD (i:=0) rfl))).1;simpa using this) aB 0 false ([]:aH) rfl h);obtain⟨h66,h⟩|⟨h66,h⟩:=aM h
 ·obtain⟨h67,h⟩:=bQ h;cases h;exact((aT.b h66).w (bh h67)).rts hΓ (D.fr 9 1 ((bf.map tx)++([[D.str aU]]))) (by first|rfl| (simp only[mA]<;>rfl))
 ·have h:=aI h;subst h;exact(aT.b h66).ret hΓ
def ju(aB:aC)(k1:aH->Option aH):aH->Nat->aH->Option aH
 | [],i1,bW=>(k1 bW)
 |bL::bz,i1,bW=>((gT bL).bind fun SF=>(bif SF then((kJ bW bL).bind fun y40=>(ju aB k1 bz (i1+1) y40))else(ju aB k1 bz (i1+1) bW)))
def mG(aB:aC):Option aH:=(ju aB (fun(bf:aH)=>(some bf)) aB.args 0 ([]:aH))
def Ja(aB:aC)(W0:List aQ)(cR:Int):St:=⟨[(1,D.ptr 0 0),(3,D.acc 1),(4,D.int .i64 cR)],[Ob.box (aC.c aB),Ob.row .uq 9 1 W0]⟩
theorem IF(hΓ:Γ.nt=27){aB:aC}{r:aH}{k1:aH->Option aH}(cc:∀(bf:aH),k1 bf=some r->Ax Γ N f254 (.q [[some (9,1)]] (D.fr 9 1 (r.map tx))) [1,1,1] ⟨[(3,D.acc 0)],[Ob.row .uq 9 1 (bf.map tx)]⟩)(hm1:aB.args.length<=maxLen):∀(rest:aH) (i1:Nat) (bW:aH),aB.args.drop i1=rest->ju aB k1 rest i1 bW=some r->Ar Γ N f254 (.q [[some (9,1)]] (D.fr 9 1 (r.map tx))) [1,1,0,1,0] (rest.length+1) (Ja aB (bW.map tx) (i1:Int)):=by
 intro rest
 induction rest with
 |nil=>
  intro i1 bW aq h;rw[ju]at h;refine aP fun N1 cC br=>?_
  exact((aT.ge tx aq).a [.hl 0 [3] [1]]).ex hΓ cC (cc bW h)
 |cons bL bz ih1=>
  intro i1 bW aq h;rw[ju]at h;refine aP fun N1 cC br=>?_
  obtain⟨SF,h38,h⟩:=aE h;have eH:=(((aT.lt tx aq).l (az tx 1 (dc aq) rfl)).g (fY h38))
  obtain⟨h39,h⟩|⟨h39,h⟩:=aM h
  ·obtain⟨y40,h41,h⟩:=aE h;exact((((eH.b h39).l (az tx 1 (dc aq) rfl)).g (kK h41)).a [.cn [1,3,4] [0,2]]).ct hΓ br (iS aq hm1) (ih1 (i1+1) y40 (dn aq) h)
  ·exact((eH.b h39).a [.cn [1,3,4] [0,1]]).ct hΓ br (iS aq hm1) (ih1 (i1+1) bW (dn aq) h)
theorem oQ{aB:aC}{r:aH}(h:mG aB=some r):Good prog 254 [D.agg (aC.c aB)] (D.fr 9 1 (r.map tx)):=by
 refine gd func254 [[some (9,1)]] 27 fun hr Γ hΓ=>?_
 rw[mG]at h;refine(aT.a [.cn [1,3,4] [0,1]]).lp hΓ (IF hΓ (fun bf h=>?_) (by have:=(eN.sl (eN.agg (hr _ (aD (i:=0) rfl)) (.sl (aB.args.map tx)) (by simp))).1;simpa using this) aB.args 0 ([]:aH) rfl h);have h:=aI h;subst h;exact aT.ret hΓ
def iq(aB:aK)(aU:Int)(i1:Nat)(J9:aH)(k2:aH->Option aH):aH->Nat->aH->Option aH
 | [],i2,jH=>(k2 jH)
 |k8::tf,i2,jH=>((kJ jH k8).bind fun a2u=>(iq aB aU i1 J9 k2 tf (i2+1) a2u))
def fL(aB:aK)(aU:Int)(k1:aH->Option aH):ai->Nat->aH->Option aH
 | [],i1,bW=>(k1 bW)
 |bL::bz,i1,bW=>(bif decide (((i1:Int):Int)<aU)then(bif (bL.kind:Int)==1 then((mG bL.pat).bind fun J9=>(bif decide (J9.length<=maxLen)then(iq aB aU i1 J9 (fun(vq:aH)=>(fL aB aU k1 bz (i1+1) vq)) J9 0 bW)else none))else(fL aB aU k1 bz (i1+1) bW))else(k1 bW))
def lS(aB:aK)(aU:Int):Option aH:=(fL aB aU (fun(bf:aH)=>(some bf)) aB.conds 0 ([]:aH))
def FH(aB:aK)(aU:Int)(W0:List aQ)(cR:Int):St:=⟨[(1,D.int .i64 aU),(2,D.ptr 0 0),(5,D.acc 1),(6,D.int .i64 cR)],[Ob.box (aK.c aB),Ob.row .uq 9 1 W0]⟩
def FI(aB:aK)(aU:Int)(i1:Nat)(J9:aH)(W0:List aQ)(cR:Int):St:=⟨[(1,D.int .i64 aU),(2,D.ptr 0 0),(5,D.acc 1),(6,D.int .i64 (i1:Int)),(7,D.acc 2),(8,D.int .i64 cR)],[Ob.box (aK.c aB),Ob.row .uq 9 1 W0,Ob.row .uq 9 1 (J9.map tx)]⟩
theorem Dc(hΓ:Γ.nt=49){aB:aK}{aU:Int}{i1:Nat}{J9:aH}{r:aH}{k2:aH->Option aH}(zf:∀(vq:aH),k2 vq=some r->Ax Γ N f247 (.q [[some (9,1)]] (D.fr 9 1 (r.map tx))) [1,1,0,1,0,0,1,1] ⟨[(1,D.int .i64 aU),(2,D.ptr 0 0),(5,D.acc 1),(6,D.int .i64 (i1:Int))],[Ob.box (aK.c aB),Ob.row .uq 9 1 (vq.map tx)]⟩)(hm2:J9.length<=maxLen):∀(rest:aH) (i2:Nat) (jH:aH),J9.drop i2=rest->iq aB aU i1 J9 k2 rest i2 jH=some r->Ar Γ N f247 (.q [[some (9,1)]] (D.fr 9 1 (r.map tx))) [1,1,0,1,0,0,1,0,0,1,0,1,1,0] (rest.length+1) (FI aB aU i1 J9 (jH.map tx) (i2:Int)):=by
 intro rest
 induction rest with
 |nil=>
  intro i2 jH hd2 h;rw[iq]at h;refine aP fun N2 ul sA=>?_
  exact((aT.ge tx hd2).a [.hl 3 [1,2,5,6] [0,1]]).ex hΓ ul (zf jH h)
 |cons k8 tf ih2=>
  intro i2 jH hd2 h;rw[iq]at h;refine aP fun N2 ul sA=>?_
  obtain⟨a2u,h184,h⟩:=aE h;exact(((((aT.lt tx hd2).i (nX tx 1 (dc hd2))).o 1 1 .uq (dK tx (dc hd2))).g (kK h184)).a [.cn [1,2,5,6,7,8] [0,3,2]]).ct hΓ sA (iS hd2 hm2) (ih2 (i2+1) a2u (dn hd2) h)
theorem Db(hΓ:Γ.nt=49){aB:aK}{aU:Int}{r:aH}{k1:aH->Option aH}(cc:∀(bf:aH),k1 bf=some r->Ax Γ N f247 (.q [[some (9,1)]] (D.fr 9 1 (r.map tx))) [1,1,1] ⟨[(5,D.acc 0)],[Ob.row .uq 9 1 (bf.map tx)]⟩)(hm1:aB.conds.length<=maxLen):∀(rest:ai) (i1:Nat) (bW:aH),aB.conds.drop i1=rest->fL aB aU k1 rest i1 bW=some r->Ar Γ N f247 (.q [[some (9,1)]] (D.fr 9 1 (r.map tx))) [1,1,0,1,0] (rest.length+1) (FH aB aU (bW.map tx) (i1:Int)):=by
 intro rest
 induction rest with
 |nil=>
  intro i1 bW aq h;rw[fL]at h;refine aP fun N1 cC br=>?_
  exact((((((aT.ge aL.c aq).ge aL.c aq).ge aL.c aq).ge aL.c aq).F 1).a [.hl 0 [5] [1]]).ex hΓ cC (cc bW h)
 |cons bL bz ih1=>
  intro i1 bW aq h;rw[fL]at h;refine aP fun N1 cC br=>?_
  have kx:=((((aT.lt aL.c aq).lt aL.c aq).lt aL.c aq).lt aL.c aq)
  obtain⟨h157,h⟩|⟨h157,h⟩:=aM h
  ·have kM:=((kx.b h157).l (az aL.c 5 (dc aq) rfl))
   obtain⟨h158,h⟩|⟨h158,h⟩:=aM h
   ·obtain⟨J9,h160,h⟩:=aE h;obtain⟨h185,h⟩:=bQ h;refine((((kM.b h158).l (az aL.c 5 (dc aq) rfl)).g (oQ h160)).a [.cn [1,2,5,6,7,8] [0,1,2]]).lp hΓ (Dc hΓ (fun vq h=>?_) (bY h185) J9 0 bW rfl h);exact(aT.a [.cn [1,2,5,6] [0,1]]).ct hΓ br (iS aq hm1) (ih1 (i1+1) vq (dn aq) h)
   ·exact((kM.b h158).a [.cn [1,2,5,6] [0,1]]).ct hΓ br (iS aq hm1) (ih1 (i1+1) bW (dn aq) h)
  ·exact((kx.b h157).a [.hl 0 [5] [1]]).ex hΓ cC (cc bW h)
theorem sr{aB:aK}{aU:Int}{r:aH}(h:lS aB aU=some r):Good prog 247 [D.agg (aK.c aB),D.int .i64 aU] (D.fr 9 1 (r.map tx)):=by
 refine gd func247 [[some (9,1)]] 49 fun hr Γ hΓ=>?_
 rw[lS]at h;refine(aT.a [.cn [1,2,5,6] [0,1]]).lp hΓ (Db hΓ (fun bf h=>?_) (by have:=(eN.sl (eN.agg (hr _ (aD (i:=0) rfl)) (.sl (aB.conds.map aL.c)) (by simp))).1;simpa using this) aB.conds 0 ([]:aH) rfl h);have h:=aI h;subst h;exact aT.ret hΓ
def iC(aB:Bytes):Option Bool:=((fA aB).bind fun y1=>(bif y1 then(some true)else((gT aB).bind fun y4=>(some y4))))
theorem jY{aB:Bytes}{r:Bool}(h:iC aB=some r):Good prog 269 [D.str aB] (D.bool r):=by
 refine gd func269 [[none]] 9 fun hr Γ hΓ=>?_
 rw[iC]at h;obtain⟨y1,h2,h⟩:=aE h;obtain⟨h3,h⟩|⟨h3,h⟩:=aM h
 ·have h:=aI h;subst h;exact((aT.g (eF h2)).r 3 h3).ret hΓ
 ·obtain⟨y4,h5,h⟩:=aE h;have h:=aI h;subst h;exact((((aT.g (eF h2)).r 2 h3).g (fY h5)).b h3).ret hΓ
def kr(aB:aC)(k1:Option Bool):aH->Nat->Option Bool
 | [],i1=>(k1)
 |bL::bz,i1=>((iC bL).bind fun NZ=>(bif !(NZ)then(some false)else(kr aB k1 bz (i1+1))))
def iO(aB:aC):Option Bool:=(kr aB ((qB aB.rel).bind fun Mg=>(bif Mg then(some (decide ((((aB.args.map tx).length:Int):Int)<=3)))else(some false))) aB.args 0)
def FO(aB:aC)(cR:Int):St:=⟨[(1,D.ptr 0 0),(3,D.int .i64 cR)],[Ob.box (aC.c aB)]⟩
theorem Dj(hΓ:Γ.nt=27){aB:aC}{r:Bool}{k1:Option Bool}(cc:k1=some r->Ax Γ N f225 (.q [[none]] (D.bool r)) [1,1] ⟨[(1,D.ptr 0 0)],[Ob.box (aC.c aB)]⟩)(hm1:aB.args.length<=maxLen):∀(rest:aH) (i1:Nat),aB.args.drop i1=rest->kr aB k1 rest i1=some r->Ar Γ N f225 (.q [[none]] (D.bool r)) [1,0,1,0] (rest.length+1) (FO aB (i1:Int)):=by
 intro rest
 induction rest with
 |nil=>
  intro i1 aq h;rw[kr]at h;refine aP fun N1 cC br=>?_
  exact((aT.ge tx aq).a [.hl 0 [1] [0]]).ex hΓ cC (cc h)
 |cons bL bz ih1=>
  intro i1 aq h;rw[kr]at h;refine aP fun N1 cC br=>?_
  obtain⟨NZ,h22,h⟩:=aE h;have eH:=(((aT.lt tx aq).l (az tx 1 (dc aq) rfl)).g (jY h22))
  obtain⟨h23,h⟩|⟨h23,h⟩:=aM h
  ·have h:=aI h;subst h;exact(eH.b h23).ret hΓ
  ·exact((eH.b h23).a [.cn [1,3] [0]]).ct hΓ br (iS aq hm1) (ih1 (i1+1) (dn aq) h)
theorem jD{aB:aC}{r:Bool}(h:iO aB=some r):Good prog 225 [D.agg (aC.c aB)] (D.bool r):=by
 refine gd func225 [[none]] 27 fun hr Γ hΓ=>?_
 rw[iO]at h;refine(aT.a [.cn [1,3] [0]]).lp hΓ (Dj hΓ (fun h=>?_) (by have:=(eN.sl (eN.agg (hr _ (aD (i:=0) rfl)) (.sl (aB.args.map tx)) (by simp))).1;simpa using this) aB.args 0 rfl h);obtain⟨Mg,h25,h⟩:=aE h;obtain⟨h26,h⟩|⟨h26,h⟩:=aM h
 ·cases h;exact((aT.g (lT h25)).r 5 h26).ret hΓ
 ·have h:=aI h;subst h;exact((aT.g (lT h25)).r 5 h26).ret hΓ
def qA(aB:aL):Option Bool:=(bif (aB.kind:Int)==1 then((iO aB.pat).bind fun y2=>(bif y2 then(bif (aB.left:Bytes)==([])then(some ((aB.right:Bytes)==([])))else(some false))else(some false)))else(bif (aB.kind:Int)==2 then((iO aB.pat).bind fun y7=>(bif y7 then(bif (aB.left:Bytes)==([])then(some ((aB.right:Bytes)==([])))else(some false))else(some false)))else(bif (aB.kind:Int)==3 then(bif (aB.pat.rel:Bytes)==([])then(bif (((aB.pat.args.map tx).length:Int):Int)==0 then((iC aB.left).bind fun Qb=>(bif Qb then((iC aB.right).bind fun Ot=>(some Ot))else(some false)))else(some false))else(some false))else(bif (aB.kind:Int)==4 then(bif (aB.pat.rel:Bytes)==([])then(bif (((aB.pat.args.map tx).length:Int):Int)==0 then((iC aB.left).bind fun mP=>(bif mP then((iC aB.right).bind fun SE=>(some SE))else(some false)))else(some false))else(some false))else(bif (aB.kind:Int)==5 then(bif (aB.pat.rel:Bytes)==([])then(bif (((aB.pat.args.map tx).length:Int):Int)==0 then((iC aB.left).bind fun y30=>(bif y30 then((iC aB.right).bind fun JD=>(some JD))else(some false)))else(some false))else(some false))else(some false))))))
theorem oO{aB:aL}{r:Bool}(h:qA aB=some r):Good prog 248 [D.agg (aL.c aB)] (D.bool r):=by
 refine gd func248 [[none]] 46 fun hr Γ hΓ=>?_
 rw[qA]at h;obtain⟨h1,h⟩|⟨h1,h⟩:=aM h
 ·obtain⟨y2,h3,h⟩:=aE h;have mQ:=((aT.r 2 h1).g (jD h3))
  obtain⟨h4,h⟩|⟨h4,h⟩:=aM h
  ·have eH:=(mQ.r 4 h4)
   obtain⟨h5,h⟩|⟨h5,h⟩:=aM h
   ·cases h;exact(eH.r 4 h5).ret hΓ
   ·have h:=aI h;subst h;exact(eH.r 4 h5).ret hΓ
  ·have h:=aI h;subst h;exact((mQ.r 4 h4).F 4).ret hΓ
 ·obtain⟨h6,h⟩|⟨h6,h⟩:=aM h
  ·obtain⟨y7,h8,h⟩:=aE h;have kx:=(((aT.b h1).b h6).g (jD h8))
   obtain⟨h9,h⟩|⟨h9,h⟩:=aM h
   ·have kM:=(kx.r 4 h9)
    obtain⟨h10,h⟩|⟨h10,h⟩:=aM h
    ·cases h;exact(kM.r 4 h10).ret hΓ
    ·have h:=aI h;subst h;exact(kM.r 4 h10).ret hΓ
   ·have h:=aI h;subst h;exact((kx.r 4 h9).F 4).ret hΓ
  ·have uK:=((aT.b h1).b h6)
   obtain⟨h11,h⟩|⟨h11,h⟩:=aM h
   ·have wO:=(uK.r 2 h11)
    obtain⟨h12,h⟩|⟨h12,h⟩:=aM h
    ·have AA:=(wO.r 6 h12)
     obtain⟨h13,h⟩|⟨h13,h⟩:=aM h
     ·obtain⟨Qb,h15,h⟩:=aE h;have G0:=(((AA.r 3 h13).g (jY h15)).b h13)
      obtain⟨h16,h⟩|⟨h16,h⟩:=aM h
      ·obtain⟨Ot,h18,h⟩:=aE h;have h:=aI h;subst h;exact(((G0.r 3 h16).g (jY h18)).b h16).ret hΓ
      ·have h:=aI h;subst h;exact(G0.r 4 h16).ret hΓ
     ·have h:=aI h;subst h;exact((AA.r 4 h13).F 4).ret hΓ
    ·have h:=aI h;subst h;exact((wO.r 6 h12).F 8).ret hΓ
   ·obtain⟨h19,h⟩|⟨h19,h⟩:=aM h
    ·have KB:=((uK.b h11).r 2 h19)
     obtain⟨h20,h⟩|⟨h20,h⟩:=aM h
     ·have B2:=(KB.r 6 h20)
      obtain⟨h21,h⟩|⟨h21,h⟩:=aM h
      ·obtain⟨mP,h23,h⟩:=aE h;have It:=(((B2.r 3 h21).g (jY h23)).b h21)
       obtain⟨h24,h⟩|⟨h24,h⟩:=aM h
       ·obtain⟨SE,h26,h⟩:=aE h;have h:=aI h;subst h;exact(((It.r 3 h24).g (jY h26)).b h24).ret hΓ
       ·have h:=aI h;subst h;exact(It.r 4 h24).ret hΓ
      ·have h:=aI h;subst h;exact((B2.r 4 h21).F 4).ret hΓ
     ·have h:=aI h;subst h;exact((KB.r 6 h20).F 8).ret hΓ
    ·have A9:=((uK.b h11).b h19)
     obtain⟨h27,h⟩|⟨h27,h⟩:=aM h
     ·obtain⟨h28,h⟩|⟨h28,h⟩:=aM h
      ·have Iu:=((A9.b h27).r 6 h28)
       obtain⟨h29,h⟩|⟨h29,h⟩:=aM h
       ·obtain⟨y30,h31,h⟩:=aE h;have Iv:=(((Iu.r 3 h29).g (jY h31)).b h29)
        obtain⟨h32,h⟩|⟨h32,h⟩:=aM h
        ·obtain⟨JD,h34,h⟩:=aE h;have h:=aI h;subst h;exact(((Iv.r 3 h32).g (jY h34)).b h32).ret hΓ
        ·have h:=aI h;subst h;exact(Iv.r 4 h32).ret hΓ
       ·have h:=aI h;subst h;exact((Iu.r 4 h29).F 4).ret hΓ
      ·have h:=aI h;subst h;exact(((A9.b h27).r 6 h28).F 8).ret hΓ
     ·have h:=aI h;subst h;exact(A9.b h27).ret hΓ
def l7(aB:aL):Option aH:=((mG aB.pat).bind fun y1=>((gT aB.left).bind fun y3=>(bif y3 then((kJ y1 aB.left).bind fun y6=>((gT aB.right).bind fun y8=>(bif y8 then((kJ y6 aB.right).bind fun Mf=>(some Mf))else(some y6))))else((gT aB.right).bind fun uC=>(bif uC then((kJ y1 aB.right).bind fun y16=>(some y16))else(some y1))))))
theorem pR{aB:aL}{r:aH}(h:l7 aB=some r):Good prog 249 [D.agg (aL.c aB)] (D.fr 9 1 (r.map tx)):=by
 refine gd func249 [[some (9,1)]] 22 fun hr Γ hΓ=>?_
 rw[l7]at h;obtain⟨y1,h2,h⟩:=aE h;obtain⟨y3,h4,h⟩:=aE h;have mQ:=((aT.g (oQ h2)).g (fY h4))
 obtain⟨h5,h⟩|⟨h5,h⟩:=aM h
 ·obtain⟨y6,h7,h⟩:=aE h;obtain⟨y8,h9,h⟩:=aE h;have eH:=(((mQ.b h5).g (kK h7)).g (fY h9))
  obtain⟨h10,h⟩|⟨h10,h⟩:=aM h
  ·obtain⟨Mf,h12,h⟩:=aE h;have h:=aI h;subst h;exact((eH.b h10).g (kK h12)).ret hΓ
  ·have h:=aI h;subst h;exact(eH.b h10).ret hΓ
 ·obtain⟨uC,h14,h⟩:=aE h;have kx:=((mQ.b h5).g (fY h14))
  obtain⟨h15,h⟩|⟨h15,h⟩:=aM h
  ·obtain⟨y16,h17,h⟩:=aE h;have h:=aI h;subst h;exact((kx.b h15).g (kK h17)).ret hΓ
  ·have h:=aI h;subst h;exact(kx.b h15).ret hΓ
def j3(aB:aH)(aU:Bytes)(k1:Option Bool):aH->Nat->Option Bool
 | [],i1=>(k1)
 |bL::bz,i1=>(bif (bL:Bytes)==aU then(some true)else(j3 aB aU k1 bz (i1+1)))
def gJ(aB:aH)(aU:Bytes):Option Bool:=(j3 aB aU (some false) aB 0)
def FX(aB:aH)(aU:Bytes)(cR:Int):St:=⟨[(0,D.sl (aB.map tx)),(1,D.str aU),(5,D.int .i64 cR)],[]⟩
theorem Dr(hΓ:Γ.nt=18){aB:aH}{aU:Bytes}{r:Bool}{k1:Option Bool}(cc:k1=some r->Ax Γ N f250 (.q [[none]] (D.bool r)) [1,1] ⟨[],[]⟩)(hm1:aB.length<=maxLen):∀(rest:aH) (i1:Nat),aB.drop i1=rest->j3 aB aU k1 rest i1=some r->Ar Γ N f250 (.q [[none]] (D.bool r)) [1,0,1,0] (rest.length+1) (FX aB aU (i1:Int)):=by
 intro rest
 induction rest with
 |nil=>
  intro i1 aq h;rw[j3]at h;refine aP fun N1 cC br=>?_
  exact((aT.ge tx aq).a [.hl 0 [] []]).ex hΓ cC (cc h)
 |cons bL bz ih1=>
  intro i1 aq h;rw[j3]at h;refine aP fun N1 cC br=>?_
  have eH:=((aT.lt tx aq).l (az tx 1 (dc aq) rfl))
  obtain⟨h13,h⟩|⟨h13,h⟩:=aM h
  ·have h:=aI h;subst h;exact(eH.b h13).ret hΓ
  ·exact((eH.b h13).a [.cn [0,1,5] []]).ct hΓ br (iS aq hm1) (ih1 (i1+1) (dn aq) h)
theorem lI{aB:aH}{aU:Bytes}{r:Bool}(h:gJ aB aU=some r):Good prog 250 [D.sl (aB.map tx),D.str aU] (D.bool r):=by
 refine gd func250 [[none]] 18 fun hr Γ hΓ=>?_
 rw[gJ]at h;refine(aT.a [.cn [0,1,5] []]).lp hΓ (Dr hΓ (fun h=>?_) (by have:=(eN.sl (hr _ (aD (i:=0) rfl))).1;simpa using this) aB 0 rfl h);have h:=aI h;subst h;exact aT.ret hΓ
def qC(aB:aL):Option Bool:=((qA aB).bind fun y1=>(bif y1 then(some (decide ((aB.kind:Int)>=3)))else(some false)))
theorem rH{aB:aL}{r:Bool}(h:qC aB=some r):Good prog 251 [D.agg (aL.c aB)] (D.bool r):=by
 refine gd func251 [[none]] 10 fun hr Γ hΓ=>?_
 rw[qC]at h;obtain⟨y1,h2,h⟩:=aE h;obtain⟨h3,h⟩|⟨h3,h⟩:=aM h
 ·cases h;exact((aT.g (oO h2)).r 4 h3).ret hΓ
 ·have h:=aI h;subst h;exact((aT.g (oO h2)).r 4 h3).ret hΓ
def fH(aB:aK)(aU:Int)(cL:Bytes)(k1:Option Bool):ai->Nat->Option Bool
 | [],i1=>(k1)
 |bL::bz,i1=>(bif ((i1:Int):Int) != aU then((l7 bL).bind fun Cr=>((gJ Cr cL).bind fun MO=>(bif MO then(some true)else(fH aB aU cL k1 bz (i1+1)))))else(fH aB aU cL k1 bz (i1+1)))
def gR(aB:aK)(cL:Bytes)(k2:Option Bool):cH->Nat->Option Bool
 | [],i2=>(k2)
 |k8::tf,i2=>((mG k8.pat).bind fun Ul=>((gJ Ul cL).bind fun y69=>(bif y69 then(some true)else(gR aB cL k2 tf (i2+1)))))
def lf(aB:aK)(aU:Int)(cL:Bytes):Option Bool:=(fH aB aU cL (gR aB cL (some false) aB.cU 0) aB.conds 0)
def Cg(aB:aK)(aU:Int)(cL:Bytes)(cR:Int):St:=⟨[(1,D.int .i64 aU),(2,D.str cL),(3,D.ptr 0 0),(7,D.int .i64 cR)],[Ob.box (aK.c aB)]⟩
theorem Bj(hΓ:Γ.nt=45){aB:aK}{aU:Int}{cL:Bytes}{r:Bool}{k1:Option Bool}(cc:k1=some r->Ax Γ N f252 (.q [[none]] (D.bool r)) [1,1] ⟨[(2,D.str cL),(3,D.ptr 0 0)],[Ob.box (aK.c aB)]⟩)(hm1:aB.conds.length<=maxLen):∀(rest:ai) (i1:Nat),aB.conds.drop i1=rest->fH aB aU cL k1 rest i1=some r->Ar Γ N f252 (.q [[none]] (D.bool r)) [1,0,1,0] (rest.length+1) (Cg aB aU cL (i1:Int)):=by
 intro rest
 induction rest with
 |nil=>
  intro i1 aq h;rw[fH]at h;refine aP fun N1 cC br=>?_
  exact((aT.ge aL.c aq).a [.hl 0 [2,3] [0]]).ex hΓ cC (cc h)
 |cons bL bz ih1=>
  intro i1 aq h;rw[fH]at h;refine aP fun N1 cC br=>?_
  obtain⟨h33,h⟩|⟨h33,h⟩:=aM h
  ·obtain⟨Cr,h35,h⟩:=aE h;obtain⟨MO,h37,h⟩:=aE h;have kx:=((((((((aT.lt aL.c aq).r 4 h33).l (az aL.c 5 (dc aq) rfl)).r 2 h33).g (pR h35)).r 2 h33).g (lI h37)).b h33)
   obtain⟨h38,h⟩|⟨h38,h⟩:=aM h
   ·have h:=aI h;subst h;exact(kx.b h38).ret hΓ
   ·exact((kx.b h38).a [.cn [1,2,3,7] [0]]).ct hΓ br (iS aq hm1) (ih1 (i1+1) (dn aq) h)
  ·exact((((aT.lt aL.c aq).r 9 h33).F 1).a [.cn [1,2,3,7] [0]]).ct hΓ br (iS aq hm1) (ih1 (i1+1) (dn aq) h)
def Ch(aB:aK)(cL:Bytes)(cR:Int):St:=⟨[(2,D.str cL),(3,D.ptr 0 0),(8,D.int .i64 cR)],[Ob.box (aK.c aB)]⟩
theorem Bk(hΓ:Γ.nt=45){aB:aK}{cL:Bytes}{r:Bool}{k2:Option Bool}(zf:k2=some r->Ax Γ N f252 (.q [[none]] (D.bool r)) [1,1,1] ⟨[],[]⟩)(hm2:aB.cU.length<=maxLen):∀(rest:cH) (i2:Nat),aB.cU.drop i2=rest->gR aB cL k2 rest i2=some r->Ar Γ N f252 (.q [[none]] (D.bool r)) [1,1,0,1,0] (rest.length+1) (Ch aB cL (i2:Int)):=by
 intro rest
 induction rest with
 |nil=>
  intro i2 hd2 h;rw[gR]at h;refine aP fun N2 ul sA=>?_
  exact((aT.ge Action.c hd2).a [.hl 0 [] []]).ex hΓ ul (zf h)
 |cons k8 tf ih2=>
  intro i2 hd2 h;rw[gR]at h;refine aP fun N2 ul sA=>?_
  obtain⟨Ul,h68,h⟩:=aE h;obtain⟨y69,h70,h⟩:=aE h;have kM:=((((aT.lt Action.c hd2).l (az Action.c 3 (dc hd2) rfl)).g (oQ h68)).g (lI h70))
  obtain⟨h71,h⟩|⟨h71,h⟩:=aM h
  ·have h:=aI h;subst h;exact(kM.b h71).ret hΓ
  ·exact((kM.b h71).a [.cn [2,3,8] [0]]).ct hΓ sA (iS hd2 hm2) (ih2 (i2+1) (dn hd2) h)
theorem vP{aB:aK}{aU:Int}{cL:Bytes}{r:Bool}(h:lf aB aU cL=some r):Good prog 252 [D.agg (aK.c aB),D.int .i64 aU,D.str cL] (D.bool r):=by
 refine gd func252 [[none]] 45 fun hr Γ hΓ=>?_
 rw[lf]at h;refine(aT.a [.cn [1,2,3,7] [0]]).lp hΓ (Bj hΓ (fun h=>?_) (by have:=(eN.sl (eN.agg (hr _ (aD (i:=0) rfl)) (.sl (aB.conds.map aL.c)) (by simp))).1;simpa using this) aB.conds 0 rfl h);refine(aT.a [.cn [2,3,8] [0]]).lp hΓ (Bk hΓ (fun h=>?_) (by have:=(eN.sl (eN.agg (hr _ (aD (i:=0) rfl)) (.sl (aB.cU.map Action.c)) (by simp))).1;simpa using this) aB.cU 0 rfl h);have h:=aI h;subst h;exact aT.ret hΓ
def rz(aB:Action):Option Bool:=(bif (aB.kind:Int)==1 then((iO aB.pat).bind fun y2=>(some y2))else(bif (aB.kind:Int)==2 then((iO aB.pat).bind fun y5=>(some y5))else(bif (aB.kind:Int)==3 then(bif (aB.pat.rel:Bytes)==([])then(some ((((aB.pat.args.map tx).length:Int):Int)==0))else(some false))else(some false))))
theorem Df{aB:Action}{r:Bool}(h:rz aB=some r):Good prog 253 [D.agg (Action.c aB)] (D.bool r):=by
 refine gd func253 [[none]] 24 fun hr Γ hΓ=>?_
 rw[rz]at h;obtain⟨h1,h⟩|⟨h1,h⟩:=aM h
 ·obtain⟨y2,h3,h⟩:=aE h;have h:=aI h;subst h;exact((aT.r 2 h1).g (jD h3)).ret hΓ
 ·obtain⟨h4,h⟩|⟨h4,h⟩:=aM h
  ·obtain⟨y5,h6,h⟩:=aE h;have h:=aI h;subst h;exact(((aT.b h1).b h4).g (jD h6)).ret hΓ
  ·have mQ:=((aT.b h1).b h4)
   obtain⟨h7,h⟩|⟨h7,h⟩:=aM h
   ·obtain⟨h8,h⟩|⟨h8,h⟩:=aM h
    ·cases h;exact((mQ.b h7).r 6 h8).ret hΓ
    ·have h:=aI h;subst h;exact((mQ.b h7).r 6 h8).ret hΓ
   ·have h:=aI h;subst h;exact(mQ.b h7).ret hΓ
def jZ(aB:aK)(i1:Nat)(zX:aH)(k2:aH->Option aH):aH->Nat->aH->Option aH
 | [],i2,jH=>(k2 jH)
 |k8::tf,i2,jH=>((kJ jH k8).bind fun a2t=>(jZ aB i1 zX k2 tf (i2+1) a2t))
def gx(aB:aK)(k1:aH->Option aH):ai->Nat->aH->Option aH
 | [],i1,bW=>(k1 bW)
 |bL::bz,i1,bW=>((l7 bL).bind fun zX=>(bif decide (zX.length<=maxLen)then(jZ aB i1 zX (fun(vq:aH)=>(gx aB k1 bz (i1+1) vq)) zX 0 bW)else none))
def ja(aB:aK)(i3:Nat)(JC:aH)(k4:aH->Option aH):aH->Nat->aH->Option aH
 | [],i4,Om=>(k4 Om)
 |x4_::xs4,i4,Om=>((kJ Om x4_).bind fun a2v=>(ja aB i3 JC k4 xs4 (i4+1) a2v))
def gD(aB:aK)(k3:aH->Option aH):cH->Nat->aH->Option aH
 | [],i3,xd=>(k3 xd)
 |Qi::On,i3,xd=>((mG Qi.pat).bind fun JC=>(bif decide (JC.length<=maxLen)then(ja aB i3 JC (fun(UK:aH)=>(gD aB k3 On (i3+1) UK)) JC 0 xd)else none))
def s5(aB:aK):Option aH:=(gx aB (fun(qy:aH)=>(gD aB (fun(Wx:aH)=>(some Wx)) aB.cU 0 qy)) aB.conds 0 ([]:aH))
def H6(aB:aK)(W0:List aQ)(cR:Int):St:=⟨[(1,D.ptr 0 0),(3,D.acc 1),(4,D.int .i64 cR)],[Ob.box (aK.c aB),Ob.row .uq 9 1 W0]⟩
def H7(aB:aK)(i1:Nat)(zX:aH)(W0:List aQ)(cR:Int):St:=⟨[(1,D.ptr 0 0),(3,D.acc 1),(4,D.int .i64 (i1:Int)),(5,D.acc 2),(6,D.int .i64 cR)],[Ob.box (aK.c aB),Ob.row .uq 9 1 W0,Ob.row .uq 9 1 (zX.map tx)]⟩
theorem FT(hΓ:Γ.nt=63){aB:aK}{i1:Nat}{zX:aH}{r:aH}{k2:aH->Option aH}(zf:∀(vq:aH),k2 vq=some r->Ax Γ N f255 (.q [[some (9,1)]] (D.fr 9 1 (r.map tx))) [1,1,0,1,0,0,1,1] ⟨[(1,D.ptr 0 0),(3,D.acc 1),(4,D.int .i64 (i1:Int))],[Ob.box (aK.c aB),Ob.row .uq 9 1 (vq.map tx)]⟩)(hm2:zX.length<=maxLen):∀(rest:aH) (i2:Nat) (jH:aH),zX.drop i2=rest->jZ aB i1 zX k2 rest i2 jH=some r->Ar Γ N f255 (.q [[some (9,1)]] (D.fr 9 1 (r.map tx))) [1,1,0,1,0,0,1,0,0,1,1,0] (rest.length+1) (H7 aB i1 zX (jH.map tx) (i2:Int)):=by
 intro rest
 induction rest with
 |nil=>
  intro i2 jH hd2 h;rw[jZ]at h;refine aP fun N2 ul sA=>?_
  exact((aT.ge tx hd2).a [.hl 3 [1,3,4] [0,1]]).ex hΓ ul (zf jH h)
 |cons k8 tf ih2=>
  intro i2 jH hd2 h;rw[jZ]at h;refine aP fun N2 ul sA=>?_
  obtain⟨a2t,h172,h⟩:=aE h;exact(((((aT.lt tx hd2).i (nX tx 1 (dc hd2))).o 1 1 .uq (dK tx (dc hd2))).g (kK h172)).a [.cn [1,3,4,5,6] [0,3,2]]).ct hΓ sA (iS hd2 hm2) (ih2 (i2+1) a2t (dn hd2) h)
theorem FR(hΓ:Γ.nt=63){aB:aK}{r:aH}{k1:aH->Option aH}(cc:∀(qy:aH),k1 qy=some r->Ax Γ N f255 (.q [[some (9,1)]] (D.fr 9 1 (r.map tx))) [1,1,1] ⟨[(1,D.ptr 0 0),(3,D.acc 1)],[Ob.box (aK.c aB),Ob.row .uq 9 1 (qy.map tx)]⟩)(hm1:aB.conds.length<=maxLen):∀(rest:ai) (i1:Nat) (bW:aH),aB.conds.drop i1=rest->gx aB k1 rest i1 bW=some r->Ar Γ N f255 (.q [[some (9,1)]] (D.fr 9 1 (r.map tx))) [1,1,0,1,0] (rest.length+1) (H6 aB (bW.map tx) (i1:Int)):=by
 intro rest
 induction rest with
 |nil=>
  intro i1 bW aq h;rw[gx]at h;refine aP fun N1 cC br=>?_
  exact((aT.ge aL.c aq).a [.hl 0 [1,3] [0,1]]).ex hΓ cC (cc bW h)
 |cons bL bz ih1=>
  intro i1 bW aq h;rw[gx]at h;refine aP fun N1 cC br=>?_
  obtain⟨zX,h148,h⟩:=aE h;obtain⟨h173,h⟩:=bQ h;refine((((aT.lt aL.c aq).l (az aL.c 5 (dc aq) rfl)).g (pR h148)).a [.cn [1,3,4,5,6] [0,1,2]]).lp hΓ (FT hΓ (fun vq h=>?_) (bY h173) zX 0 bW rfl h);exact(aT.a [.cn [1,3,4] [0,1]]).ct hΓ br (iS aq hm1) (ih1 (i1+1) vq (dn aq) h)
def H8(aB:aK)(W0:List aQ)(cR:Int):St:=⟨[(1,D.ptr 0 0),(3,D.acc 1),(7,D.int .i64 cR)],[Ob.box (aK.c aB),Ob.row .uq 9 1 W0]⟩
def H9(aB:aK)(i3:Nat)(JC:aH)(W0:List aQ)(cR:Int):St:=⟨[(1,D.ptr 0 0),(3,D.acc 1),(7,D.int .i64 (i3:Int)),(8,D.acc 2),(9,D.int .i64 cR)],[Ob.box (aK.c aB),Ob.row .uq 9 1 W0,Ob.row .uq 9 1 (JC.map tx)]⟩
theorem FV(hΓ:Γ.nt=63){aB:aK}{i3:Nat}{JC:aH}{r:aH}{k4:aH->Option aH}(hE4:∀(UK:aH),k4 UK=some r->Ax Γ N f255 (.q [[some (9,1)]] (D.fr 9 1 (r.map tx))) [1,1,1,0,1,0,0,1,1] ⟨[(1,D.ptr 0 0),(3,D.acc 1),(7,D.int .i64 (i3:Int))],[Ob.box (aK.c aB),Ob.row .uq 9 1 (UK.map tx)]⟩)(hm4:JC.length<=maxLen):∀(rest:aH) (i4:Nat) (Om:aH),JC.drop i4=rest->ja aB i3 JC k4 rest i4 Om=some r->Ar Γ N f255 (.q [[some (9,1)]] (D.fr 9 1 (r.map tx))) [1,1,1,0,1,0,0,1,0,0,1,1,0] (rest.length+1) (H9 aB i3 JC (Om.map tx) (i4:Int)):=by
 intro rest
 induction rest with
 |nil=>
  intro i4 Om RC h;rw[ja]at h;refine aP fun N4 hN4 hS4=>?_
  exact((aT.ge tx RC).a [.hl 3 [1,3,7] [0,1]]).ex hΓ hN4 (hE4 Om h)
 |cons x4_ xs4 ih4=>
  intro i4 Om RC h;rw[ja]at h;refine aP fun N4 hN4 hS4=>?_
  obtain⟨a2v,h345,h⟩:=aE h;exact(((((aT.lt tx RC).i (nX tx 1 (dc RC))).o 1 1 .uq (dK tx (dc RC))).g (kK h345)).a [.cn [1,3,7,8,9] [0,3,2]]).ct hΓ hS4 (iS RC hm4) (ih4 (i4+1) a2v (dn RC) h)
theorem FU(hΓ:Γ.nt=63){aB:aK}{r:aH}{k3:aH->Option aH}(Yd:∀(Wx:aH),k3 Wx=some r->Ax Γ N f255 (.q [[some (9,1)]] (D.fr 9 1 (r.map tx))) [1,1,1,1] ⟨[(3,D.acc 0)],[Ob.row .uq 9 1 (Wx.map tx)]⟩)(RE:aB.cU.length<=maxLen):∀(rest:cH) (i3:Nat) (xd:aH),aB.cU.drop i3=rest->gD aB k3 rest i3 xd=some r->Ar Γ N f255 (.q [[some (9,1)]] (D.fr 9 1 (r.map tx))) [1,1,1,0,1,0] (rest.length+1) (H8 aB (xd.map tx) (i3:Int)):=by
 intro rest
 induction rest with
 |nil=>
  intro i3 xd yL h;rw[gD]at h;refine aP fun N3 Sk Nv=>?_
  exact((aT.ge Action.c yL).a [.hl 0 [3] [1]]).ex hΓ Sk (Yd xd h)
 |cons Qi On ih3=>
  intro i3 xd yL h;rw[gD]at h;refine aP fun N3 Sk Nv=>?_
  obtain⟨JC,h321,h⟩:=aE h;obtain⟨h346,h⟩:=bQ h;refine((((aT.lt Action.c yL).l (az Action.c 3 (dc yL) rfl)).g (oQ h321)).a [.cn [1,3,7,8,9] [0,1,2]]).lp hΓ (FV hΓ (fun UK h=>?_) (bY h346) JC 0 xd rfl h);exact(aT.a [.cn [1,3,7] [0,1]]).ct hΓ Nv (iS yL RE) (ih3 (i3+1) UK (dn yL) h)
theorem Dn{aB:aK}{r:aH}(h:s5 aB=some r):Good prog 255 [D.agg (aK.c aB)] (D.fr 9 1 (r.map tx)):=by
 refine gd func255 [[some (9,1)]] 63 fun hr Γ hΓ=>?_
 rw[s5]at h;refine(aT.a [.cn [1,3,4] [0,1]]).lp hΓ (FR hΓ (fun qy h=>?_) (by have:=(eN.sl (eN.agg (hr _ (aD (i:=0) rfl)) (.sl (aB.conds.map aL.c)) (by simp))).1;simpa using this) aB.conds 0 ([]:aH) rfl h);refine(aT.a [.cn [1,3,7] [0,1]]).lp hΓ (FU hΓ (fun Wx h=>?_) (by have:=(eN.sl (eN.agg (hr _ (aD (i:=0) rfl)) (.sl (aB.cU.map Action.c)) (by simp))).1;simpa using this) aB.cU 0 qy rfl h);have h:=aI h;subst h;exact aT.ret hΓ
def fS(aB:aK)(uC:aH)(i1:Nat)(bL:aL)(JF:aH)(Co:aH)(k2:Option Bool):aH->Nat->Option Bool
 | [],i2=>(k2)
 |k8::tf,i2=>((gJ JF k8).bind fun a2w=>((qC bL).bind fun a5l=>(bif a5l then(bif !(a2w)then(some false)else(bif (bL.kind:Int)==2 then(fS aB uC i1 bL JF Co k2 tf (i2+1))else(fS aB uC i1 bL JF Co k2 tf (i2+1))))else(bif (bL.kind:Int)==2 then(bif !(a2w)then((lf aB (i1:Int) k8).bind fun a5m=>(bif a5m then(some false)else(fS aB uC i1 bL JF Co k2 tf (i2+1))))else(fS aB uC i1 bL JF Co k2 tf (i2+1)))else(fS aB uC i1 bL JF Co k2 tf (i2+1))))))
def fT(aB:aK)(uC:aH)(i1:Nat)(bL:aL)(JG:aH)(Cq:aH)(k3:Option Bool):aH->Nat->Option Bool
 | [],i3=>(k3)
 |Qi::On,i3=>((gJ JG Qi).bind fun a2x=>((qC bL).bind fun a5o=>(bif a5o then(bif !(a2x)then(some false)else(bif (bL.kind:Int)==2 then(fT aB uC i1 bL JG Cq k3 On (i3+1))else(fT aB uC i1 bL JG Cq k3 On (i3+1))))else(bif (bL.kind:Int)==2 then(bif !(a2x)then((lf aB (i1:Int) Qi).bind fun a5p=>(bif a5p then(some false)else(fT aB uC i1 bL JG Cq k3 On (i3+1))))else(fT aB uC i1 bL JG Cq k3 On (i3+1)))else(fT aB uC i1 bL JG Cq k3 On (i3+1))))))
def jr(aB:aK)(uC:aH)(k1:Option Bool):ai->Nat->Option Bool
 | [],i1=>(k1)
 |bL::bz,i1=>((qA bL).bind fun a5k=>(bif !(a5k)then(some false)else(bif ((i1:Int):Int)==0 then(bif (bL.kind:Int) != 1 then(some false)else((lS aB (i1:Int)).bind fun JF=>((l7 bL).bind fun Co=>(bif decide (Co.length<=maxLen)then(fS aB uC i1 bL JF Co (jr aB uC k1 bz (i1+1)) Co 0)else none))))else((lS aB (i1:Int)).bind fun JG=>((l7 bL).bind fun Cq=>(bif decide (Cq.length<=maxLen)then(fT aB uC i1 bL JG Cq (jr aB uC k1 bz (i1+1)) Cq 0)else none))))))
def lV(aB:aK)(uC:aH)(i4:Nat)(JH:aH)(k5:Option Bool):aH->Nat->Option Bool
 | [],i5=>(k5)
 |x5_::xs5,i5=>((gJ uC x5_).bind fun a5s=>(bif !(a5s)then(some false)else(lV aB uC i4 JH k5 xs5 (i5+1))))
def lU(aB:aK)(uC:aH)(k4:Option Bool):cH->Nat->Option Bool
 | [],i4=>(k4)
 |x4_::xs4,i4=>((rz x4_).bind fun a5r=>(bif !(a5r)then(some false)else((mG x4_.pat).bind fun JH=>(bif decide (JH.length<=maxLen)then(lV aB uC i4 JH (lU aB uC k4 xs4 (i4+1)) JH 0)else none))))
def ug(aB:aK):Option Bool:=((qB aB.name).bind fun y1=>(bif !(y1)then(some false)else((jv aB.prio 0 9).bind fun y4=>(bif !(y4)then(some false)else((jv ((aB.conds.map aL.c).length:Int) 1 4).bind fun y7=>(bif !(y7)then(some false)else((jv ((aB.cU.map Action.c).length:Int) 1 2).bind fun Qj=>(bif !(Qj)then(some false)else((lS aB ((aB.conds.map aL.c).length:Int)).bind fun uC=>(jr aB uC (lU aB uC ((s5 aB).bind fun a5t=>(some (decide ((((a5t.map tx).length:Int):Int)<=6)))) aB.cU 0) aB.conds 0))))))))))
def JV(aB:aK)(uC:aH)(cR:Int):St:=⟨[(1,D.ptr 0 0),(3,D.acc 1),(4,D.int .i64 cR)],[Ob.box (aK.c aB),Ob.row .uq 9 1 (uC.map tx)]⟩
def JW(aB:aK)(uC:aH)(i1:Nat)(bL:aL)(JF:aH)(Co:aH)(cR:Int):St:=⟨[(1,D.ptr 0 0),(3,D.acc 1),(4,D.int .i64 (i1:Int)),(5,D.ptr 2 0),(6,D.acc 3),(7,D.acc 4),(8,D.int .i64 cR)],[Ob.box (aK.c aB),Ob.row .uq 9 1 (uC.map tx),Ob.box [D.int .i64 bL.kind,D.str bL.pat.rel,D.sl (bL.pat.args.map tx),D.str bL.left,D.str bL.right],Ob.row .uq 9 1 (JF.map tx),Ob.row .uq 9 1 (Co.map tx)]⟩
theorem I8(hΓ:Γ.nt=145){aB:aK}{uC:aH}{i1:Nat}{bL:aL}{JF:aH}{Co:aH}{r:Bool}{k2:Option Bool}(zf:k2=some r->Ax Γ N f196 (.q [[none]] (D.bool r)) [1,1,1,0,1,0,0,1,1] ⟨[(1,D.ptr 0 0),(3,D.acc 1),(4,D.int .i64 (i1:Int))],[Ob.box (aK.c aB),Ob.row .uq 9 1 (uC.map tx)]⟩)(hm2:Co.length<=maxLen):∀(rest:aH) (i2:Nat),Co.drop i2=rest->fS aB uC i1 bL JF Co k2 rest i2=some r->Ar Γ N f196 (.q [[none]] (D.bool r)) [1,1,1,0,1,0,0,1,0,0,1,1,1,1,1,0] (rest.length+1) (JW aB uC i1 bL JF Co (i2:Int)):=by
 intro rest
 induction rest with
 |nil=>
  intro i2 hd2 h;rw[fS]at h;refine aP fun N2 ul sA=>?_
  exact((aT.ge tx hd2).a [.hl 3 [1,3,4] [0,1]]).ex hΓ ul (zf h)
 |cons k8 tf ih2=>
  intro i2 hd2 h;rw[fS]at h;refine aP fun N2 ul sA=>?_
  obtain⟨a2w,h711,h⟩:=aE h;obtain⟨a5l,h713,h⟩:=aE h;have a0G:=((((((aT.lt tx hd2).i (nX tx 1 (dc hd2))).o 1 1 .uq (dK tx (dc hd2))).g (lI h711)).a [.n 21]).g (rH h713))
  obtain⟨h714,h⟩|⟨h714,h⟩:=aM h
  ·have a0H:=(a0G.r 3 h714)
   obtain⟨h715,h⟩|⟨h715,h⟩:=aM h
   ·have h:=aI h;subst h;exact((((((a0H.r 4 h715).a [bF,bF]).r 2 h715).a [bF,bF,bF,bF,bF,bF,bF]).r 2 h715).T 1).ret hΓ
   ·have a0I:=(a0H.r 4 h715)
    obtain⟨h716,h⟩|⟨h716,h⟩:=aM h
    ·exact((((((a0I.r 2 h716).b h715).b h716).r 11 h715).F 1).a [.cn [1,3,4,5,6,7,8] [0,1,2,3,4]]).ct hΓ sA (iS hd2 hm2) (ih2 (i2+1) (dn hd2) h)
    ·exact((((((((((a0I.r 2 h716).b h715).b h716).b h715).F 7).b h715).F 1).b h715).F 1).a [.cn [1,3,4,5,6,7,8] [0,1,2,3,4]]).ct hΓ sA (iS hd2 hm2) (ih2 (i2+1) (dn hd2) h)
  ·have a0J:=((a0G.r 3 h714).F 4)
   obtain⟨h717,h⟩|⟨h717,h⟩:=aM h
   ·have a0K:=((((a0J.r 2 h717).F 1).b h717).F 1)
    obtain⟨h718,h⟩|⟨h718,h⟩:=aM h
    ·obtain⟨a5m,h720,h⟩:=aE h;have a0L:=(((((((((a0K.r 5 h718).i (nX tx 1 (dc hd2))).b h718).o 1 1 .uq (dK tx (dc hd2))).b h718).g (vP h720)).F 1).b h718).F 1)
     obtain⟨h721,h⟩|⟨h721,h⟩:=aM h
     ·have h:=aI h;subst h;exact(a0L.b h721).ret hΓ
     ·exact((a0L.b h721).a [.cn [1,3,4,5,6,7,8] [0,1,2,3,4]]).ct hΓ sA (iS hd2 hm2) (ih2 (i2+1) (dn hd2) h)
    ·exact(((((a0K.r 7 h718).F 1).b h718).F 2).a [.cn [1,3,4,5,6,7,8] [0,1,2,3,4]]).ct hΓ sA (iS hd2 hm2) (ih2 (i2+1) (dn hd2) h)
   ·exact(((((a0J.r 2 h717).F 1).b h717).F 12).a [.cn [1,3,4,5,6,7,8] [0,1,2,3,4]]).ct hΓ sA (iS hd2 hm2) (ih2 (i2+1) (dn hd2) h)
def JX(aB:aK)(uC:aH)(i1:Nat)(bL:aL)(JG:aH)(Cq:aH)(cR:Int):St:=⟨[(1,D.ptr 0 0),(3,D.acc 1),(4,D.int .i64 (i1:Int)),(5,D.ptr 2 0),(6,D.acc 3),(7,D.acc 4),(8,D.int .i64 cR)],[Ob.box (aK.c aB),Ob.row .uq 9 1 (uC.map tx),Ob.box [D.int .i64 bL.kind,D.str bL.pat.rel,D.sl (bL.pat.args.map tx),D.str bL.left,D.str bL.right],Ob.row .uq 9 1 (JG.map tx),Ob.row .uq 9 1 (Cq.map tx)]⟩
theorem I9(hΓ:Γ.nt=145){aB:aK}{uC:aH}{i1:Nat}{bL:aL}{JG:aH}{Cq:aH}{r:Bool}{k3:Option Bool}(Yd:k3=some r->Ax Γ N f196 (.q [[none]] (D.bool r)) [1,1,1,0,1,0,0,1,1] ⟨[(1,D.ptr 0 0),(3,D.acc 1),(4,D.int .i64 (i1:Int))],[Ob.box (aK.c aB),Ob.row .uq 9 1 (uC.map tx)]⟩)(RE:Cq.length<=maxLen):∀(rest:aH) (i3:Nat),Cq.drop i3=rest->fT aB uC i1 bL JG Cq k3 rest i3=some r->Ar Γ N f196 (.q [[none]] (D.bool r)) [1,1,1,0,1,0,0,1,0,0,1,1,1,1,1,0] (rest.length+1) (JX aB uC i1 bL JG Cq (i3:Int)):=by
 intro rest
 induction rest with
 |nil=>
  intro i3 yL h;rw[fT]at h;refine aP fun N3 Sk Nv=>?_
  exact((aT.ge tx yL).a [.hl 3 [1,3,4] [0,1]]).ex hΓ Sk (Yd h)
 |cons Qi On ih3=>
  intro i3 yL h;rw[fT]at h;refine aP fun N3 Sk Nv=>?_
  obtain⟨a2x,h786,h⟩:=aE h;obtain⟨a5o,h788,h⟩:=aE h;have a0M:=((((((aT.lt tx yL).i (nX tx 1 (dc yL))).o 1 1 .uq (dK tx (dc yL))).g (lI h786)).a [.n 21]).g (rH h788))
  obtain⟨h789,h⟩|⟨h789,h⟩:=aM h
  ·have a0N:=(a0M.r 3 h789)
   obtain⟨h790,h⟩|⟨h790,h⟩:=aM h
   ·have h:=aI h;subst h;exact((((((a0N.r 4 h790).a [bF,bF]).r 2 h790).a [bF,bF,bF,bF,bF,bF,bF]).r 2 h790).T 1).ret hΓ
   ·have a0O:=(a0N.r 4 h790)
    obtain⟨h791,h⟩|⟨h791,h⟩:=aM h
    ·exact((((((a0O.r 2 h791).b h790).b h791).r 11 h790).F 1).a [.cn [1,3,4,5,6,7,8] [0,1,2,3,4]]).ct hΓ Nv (iS yL RE) (ih3 (i3+1) (dn yL) h)
    ·exact((((((((((a0O.r 2 h791).b h790).b h791).b h790).F 7).b h790).F 1).b h790).F 1).a [.cn [1,3,4,5,6,7,8] [0,1,2,3,4]]).ct hΓ Nv (iS yL RE) (ih3 (i3+1) (dn yL) h)
  ·have a0P:=((a0M.r 3 h789).F 4)
   obtain⟨h792,h⟩|⟨h792,h⟩:=aM h
   ·have a0Q:=((((a0P.r 2 h792).F 1).b h792).F 1)
    obtain⟨h793,h⟩|⟨h793,h⟩:=aM h
    ·obtain⟨a5p,h795,h⟩:=aE h;have a0R:=(((((((((a0Q.r 5 h793).i (nX tx 1 (dc yL))).b h793).o 1 1 .uq (dK tx (dc yL))).b h793).g (vP h795)).F 1).b h793).F 1)
     obtain⟨h796,h⟩|⟨h796,h⟩:=aM h
     ·have h:=aI h;subst h;exact(a0R.b h796).ret hΓ
     ·exact((a0R.b h796).a [.cn [1,3,4,5,6,7,8] [0,1,2,3,4]]).ct hΓ Nv (iS yL RE) (ih3 (i3+1) (dn yL) h)
    ·exact(((((a0Q.r 7 h793).F 1).b h793).F 2).a [.cn [1,3,4,5,6,7,8] [0,1,2,3,4]]).ct hΓ Nv (iS yL RE) (ih3 (i3+1) (dn yL) h)
   ·exact(((((a0P.r 2 h792).F 1).b h792).F 12).a [.cn [1,3,4,5,6,7,8] [0,1,2,3,4]]).ct hΓ Nv (iS yL RE) (ih3 (i3+1) (dn yL) h)
theorem I7(hΓ:Γ.nt=145){aB:aK}{uC:aH}{r:Bool}{k1:Option Bool}(cc:k1=some r->Ax Γ N f196 (.q [[none]] (D.bool r)) [1,1,1,1] ⟨[(1,D.ptr 0 0),(3,D.acc 1)],[Ob.box (aK.c aB),Ob.row .uq 9 1 (uC.map tx)]⟩)(hm1:aB.conds.length<=maxLen):∀(rest:ai) (i1:Nat),aB.conds.drop i1=rest->jr aB uC k1 rest i1=some r->Ar Γ N f196 (.q [[none]] (D.bool r)) [1,1,1,0,1,0] (rest.length+1) (JV aB uC (i1:Int)):=by
 intro rest
 induction rest with
 |nil=>
  intro i1 aq h;rw[jr]at h;refine aP fun N1 cC br=>?_
  exact((aT.ge aL.c aq).a [.hl 0 [1,3] [0,1]]).ex hΓ cC (cc h)
 |cons bL bz ih1=>
  intro i1 aq h;rw[jr]at h;refine aP fun N1 cC br=>?_
  obtain⟨a5k,h644,h⟩:=aE h;have a0S:=(((aT.lt aL.c aq).l (az aL.c 5 (dc aq) rfl)).g (oO h644))
  obtain⟨h645,h⟩|⟨h645,h⟩:=aM h
  ·have h:=aI h;subst h;exact((((a0S.r 3 h645).a [bF,bF,bF]).r 2 h645).T 1).ret hΓ
  ·have a0T:=(a0S.r 3 h645)
   obtain⟨h646,h⟩|⟨h646,h⟩:=aM h
   ·have a0U:=((((a0T.r 3 h646).b h645).b h646).b h645)
    obtain⟨h647,h⟩|⟨h647,h⟩:=aM h
    ·have h:=aI h;subst h;exact(a0U.b h647).ret hΓ
    ·obtain⟨JF,h649,h⟩:=aE h;obtain⟨Co,h651,h⟩:=aE h;obtain⟨h722,h⟩:=bQ h;refine((((a0U.b h647).g (sr h649)).g (pR h651)).a [.cn [1,3,4,5,6,7,8] [0,1,2,3,4]]).lp hΓ (I8 hΓ (fun h=>?_) (bY h722) Co 0 rfl h);exact(aT.a [.cn [1,3,4] [0,1]]).ct hΓ br (iS aq hm1) (ih1 (i1+1) (dn aq) h)
   ·obtain⟨JG,h724,h⟩:=aE h;obtain⟨Cq,h726,h⟩:=aE h;obtain⟨h797,h⟩:=bQ h;refine((((((((a0T.r 3 h646).b h645).b h646).b h645).F 1).g (sr h724)).g (pR h726)).a [.cn [1,3,4,5,6,7,8] [0,1,2,3,4]]).lp hΓ (I9 hΓ (fun h=>?_) (bY h797) Cq 0 rfl h);exact(aT.a [.cn [1,3,4] [0,1]]).ct hΓ br (iS aq hm1) (ih1 (i1+1) (dn aq) h)
def JY(aB:aK)(uC:aH)(cR:Int):St:=⟨[(1,D.ptr 0 0),(3,D.acc 1),(10,D.int .i64 cR)],[Ob.box (aK.c aB),Ob.row .uq 9 1 (uC.map tx)]⟩
def JZ(aB:aK)(uC:aH)(i4:Nat)(JH:aH)(cR:Int):St:=⟨[(1,D.ptr 0 0),(3,D.acc 1),(10,D.int .i64 (i4:Int)),(11,D.acc 2),(12,D.int .i64 cR)],[Ob.box (aK.c aB),Ob.row .uq 9 1 (uC.map tx),Ob.row .uq 9 1 (JH.map tx)]⟩
theorem IB(hΓ:Γ.nt=145){aB:aK}{uC:aH}{i4:Nat}{JH:aH}{r:Bool}{k5:Option Bool}(hE5:k5=some r->Ax Γ N f196 (.q [[none]] (D.bool r)) [1,1,1,1,0,1,0,0,1,1] ⟨[(1,D.ptr 0 0),(3,D.acc 1),(10,D.int .i64 (i4:Int))],[Ob.box (aK.c aB),Ob.row .uq 9 1 (uC.map tx)]⟩)(hm5:JH.length<=maxLen):∀(rest:aH) (i5:Nat),JH.drop i5=rest->lV aB uC i4 JH k5 rest i5=some r->Ar Γ N f196 (.q [[none]] (D.bool r)) [1,1,1,1,0,1,0,0,1,0,0,1,1,1,0] (rest.length+1) (JZ aB uC i4 JH (i5:Int)):=by
 intro rest
 induction rest with
 |nil=>
  intro i5 hd5 h;rw[lV]at h;refine aP fun N5 hN5 hS5=>?_
  exact((aT.ge tx hd5).a [.hl 3 [1,3,10] [0,1]]).ex hΓ hN5 (hE5 h)
 |cons x5_ xs5 ih5=>
  intro i5 hd5 h;rw[lV]at h;refine aP fun N5 hN5 hS5=>?_
  obtain⟨a5s,h953,h⟩:=aE h;have a0V:=((((aT.lt tx hd5).i (nX tx 1 (dc hd5))).o 1 1 .uq (dK tx (dc hd5))).g (lI h953))
  obtain⟨h954,h⟩|⟨h954,h⟩:=aM h
  ·have h:=aI h;subst h;exact(a0V.b h954).ret hΓ
  ·exact((a0V.b h954).a [.cn [1,3,10,11,12] [0,1,2]]).ct hΓ hS5 (iS hd5 hm5) (ih5 (i5+1) (dn hd5) h)
theorem IA(hΓ:Γ.nt=145){aB:aK}{uC:aH}{r:Bool}{k4:Option Bool}(hE4:k4=some r->Ax Γ N f196 (.q [[none]] (D.bool r)) [1,1,1,1,1] ⟨[(1,D.ptr 0 0)],[Ob.box (aK.c aB)]⟩)(hm4:aB.cU.length<=maxLen):∀(rest:cH) (i4:Nat),aB.cU.drop i4=rest->lU aB uC k4 rest i4=some r->Ar Γ N f196 (.q [[none]] (D.bool r)) [1,1,1,1,0,1,0] (rest.length+1) (JY aB uC (i4:Int)):=by
 intro rest
 induction rest with
 |nil=>
  intro i4 RC h;rw[lU]at h;refine aP fun N4 hN4 hS4=>?_
  exact((aT.ge Action.c RC).a [.hl 0 [1] [0]]).ex hΓ hN4 (hE4 h)
 |cons x4_ xs4 ih4=>
  intro i4 RC h;rw[lU]at h;refine aP fun N4 hN4 hS4=>?_
  obtain⟨a5r,h927,h⟩:=aE h;have a0W:=(((aT.lt Action.c RC).l (az Action.c 3 (dc RC) rfl)).g (Df h927))
  obtain⟨h928,h⟩|⟨h928,h⟩:=aM h
  ·have h:=aI h;subst h;exact(a0W.b h928).ret hΓ
  ·obtain⟨JH,h930,h⟩:=aE h;obtain⟨h955,h⟩:=bQ h;refine((((a0W.b h928).l (az Action.c 3 (dc RC) rfl)).g (oQ h930)).a [.cn [1,3,10,11,12] [0,1,2]]).lp hΓ (IB hΓ (fun h=>?_) (bY h955) JH 0 rfl h);exact(aT.a [.cn [1,3,10] [0,1]]).ct hΓ hS4 (iS RC hm4) (ih4 (i4+1) (dn RC) h)
theorem Gx{aB:aK}{r:Bool}(h:ug aB=some r):Good prog 196 [D.agg (aK.c aB)] (D.bool r):=by
 refine gd func196 [[none]] 145 fun hr Γ hΓ=>?_
 rw[ug]at h;obtain⟨y1,h2,h⟩:=aE h;obtain⟨h3,h⟩|⟨h3,h⟩:=aM h
 ·have h:=aI h;subst h;exact(((aT.g (lT h2)).r 5 h3).T 13).ret hΓ
 ·obtain⟨y4,h5,h⟩:=aE h;have a0X:=((((aT.g (lT h2)).r 3 h3).g (fV h5)).r 2 h3)
  obtain⟨h6,h⟩|⟨h6,h⟩:=aM h
  ·have h:=aI h;subst h;exact((a0X.r 6 h6).T 7).ret hΓ
  ·obtain⟨y7,h8,h⟩:=aE h;have a0Y:=(((a0X.r 4 h6).g (fV h8)).r 2 h6)
   obtain⟨h9,h⟩|⟨h9,h⟩:=aM h
   ·have h:=aI h;subst h;exact((a0Y.r 6 h9).T 1).ret hΓ
   ·obtain⟨Qj,h11,h⟩:=aE h;have a0Z:=(((a0Y.r 4 h9).g (fV h11)).r 2 h9)
    obtain⟨h12,h⟩|⟨h12,h⟩:=aM h
    ·have h:=aI h;subst h;exact(a0Z.b h12).ret hΓ
    ·obtain⟨uC,h14,h⟩:=aE h;refine(((a0Z.b h12).g (sr h14)).a [.cn [1,3,4] [0,1]]).lp hΓ (I7 hΓ (fun h=>?_) (by have:=(eN.sl (eN.agg (hr _ (aD (i:=0) rfl)) (.sl (aB.conds.map aL.c)) (by simp))).1;simpa using this) aB.conds 0 rfl h);refine(aT.a [.cn [1,3,10] [0,1]]).lp hΓ (IA hΓ (fun h=>?_) (by have:=(eN.sl (eN.agg (hr _ (aD (i:=0) rfl)) (.sl (aB.cU.map Action.c)) (by simp))).1;simpa using this) aB.cU 0 rfl h);obtain⟨a5t,h957,h⟩:=aE h;cases h;exact(aT.g (Dn h957)).ret hΓ
def jX(aB:ah)(aU:Bytes)(k1:Option Int):ah->Nat->Option Int
 | [],i1=>(k1)
 |bL::bz,i1=>(bif (bL.name:Bytes)==aU then(some (i1:Int))else(jX aB aU k1 bz (i1+1)))
def ru(aB:ah)(aU:Bytes):Option Int:=(jX aB aU (some (-1)) aB 0)
def Gw(aB:ah)(aU:Bytes)(cR:Int):St:=⟨[(0,D.sl (aB.map aK.c)),(1,D.str aU),(5,D.int .i64 cR)],[]⟩
theorem FK(hΓ:Γ.nt=20){aB:ah}{aU:Bytes}{r:Int}{k1:Option Int}(cc:k1=some r->Ax Γ N f197 (.q [[none]] (D.int .i64 r)) [1,1] ⟨[],[]⟩)(hm1:aB.length<=maxLen):∀(rest:ah) (i1:Nat),aB.drop i1=rest->jX aB aU k1 rest i1=some r->Ar Γ N f197 (.q [[none]] (D.int .i64 r)) [1,0,1,0] (rest.length+1) (Gw aB aU (i1:Int)):=by
 intro rest
 induction rest with
 |nil=>
  intro i1 aq h;rw[jX]at h;refine aP fun N1 cC br=>?_
  exact((aT.ge aK.c aq).a [.hl 0 [] []]).ex hΓ cC (cc h)
 |cons bL bz ih1=>
  intro i1 aq h;rw[jX]at h;refine aP fun N1 cC br=>?_
  have eH:=((aT.lt aK.c aq).l (az aK.c 4 (dc aq) rfl))
  obtain⟨h13,h⟩|⟨h13,h⟩:=aM h
  ·cases h;exact(eH.b h13).ret hΓ
  ·exact((eH.b h13).a [.cn [0,1,5] []]).ct hΓ br (iS aq hm1) (ih1 (i1+1) (dn aq) h)
theorem De{aB:ah}{aU:Bytes}{r:Int}(h:ru aB aU=some r):Good prog 197 [D.sl (aB.map aK.c),D.str aU] (D.int .i64 r):=by
 refine gd func197 [[none]] 20 fun hr Γ hΓ=>?_
 rw[ru]at h;refine(aT.a [.cn [0,1,5] []]).lp hΓ (FK hΓ (fun h=>?_) (by have:=(eN.sl (hr _ (aD (i:=0) rfl))).1;simpa using this) aB 0 rfl h);cases h;exact aT.ret hΓ
def jV(aB:ah)(k1:Option Bool):ah->Nat->Option Bool
 | [],i1=>(k1)
 |bL::bz,i1=>((ug bL).bind fun JD=>(bif !(JD)then(some false)else((ru aB bL.name).bind fun MO=>(bif (MO:Int) != (i1:Int)then(some false)else(jV aB k1 bz (i1+1))))))
def rp(aB:ah):Option Bool:=(jV aB (some (decide ((((aB.map aK.c).length:Int):Int)<=6))) aB 0)
def Gt(aB:ah)(cR:Int):St:=⟨[(0,D.sl (aB.map aK.c)),(3,D.int .i64 cR)],[]⟩
theorem FG(hΓ:Γ.nt=30){aB:ah}{r:Bool}{k1:Option Bool}(cc:k1=some r->Ax Γ N f131 (.q [[none]] (D.bool r)) [1,1] ⟨[(0,D.sl (aB.map aK.c))],[]⟩)(hm1:aB.length<=maxLen):∀(rest:ah) (i1:Nat),aB.drop i1=rest->jV aB k1 rest i1=some r->Ar Γ N f131 (.q [[none]] (D.bool r)) [1,0,1,0] (rest.length+1) (Gt aB (i1:Int)):=by
 intro rest
 induction rest with
 |nil=>
  intro i1 aq h;rw[jV]at h;refine aP fun N1 cC br=>?_
  exact((aT.ge aK.c aq).a [.hl 0 [0] []]).ex hΓ cC (cc h)
 |cons bL bz ih1=>
  intro i1 aq h;rw[jV]at h;refine aP fun N1 cC br=>?_
  obtain⟨JD,h34,h⟩:=aE h;have kx:=(((aT.lt aK.c aq).l (az aK.c 4 (dc aq) rfl)).g (Gx h34))
  obtain⟨h35,h⟩|⟨h35,h⟩:=aM h
  ·have h:=aI h;subst h;exact((kx.r 10 h35).T 1).ret hΓ
  ·obtain⟨MO,h37,h⟩:=aE h;have kM:=(((((kx.r 4 h35).l (az aK.c 4 (dc aq) rfl)).r 3 h35).g (De h37)).r 3 h35)
   obtain⟨h38,h⟩|⟨h38,h⟩:=aM h
   ·have h:=aI h;subst h;exact(kM.b h38).ret hΓ
   ·exact((kM.b h38).a [.cn [0,3] []]).ct hΓ br (iS aq hm1) (ih1 (i1+1) (dn aq) h)
theorem xA{aB:ah}{r:Bool}(h:rp aB=some r):Good prog 131 [D.sl (aB.map aK.c)] (D.bool r):=by
 refine gd func131 [[none]] 30 fun hr Γ hΓ=>?_
 rw[rp]at h;refine(aT.a [.cn [0,3] []]).lp hΓ (FG hΓ (fun h=>?_) (by have:=(eN.sl (hr _ (aD (i:=0) rfl))).1;simpa using this) aB 0 rfl h);cases h;exact aT.ret hΓ
def lz(aB:aR)(aU:Bytes)(k1:Option aR):aR->Nat->Option aR
 | [],i1=>(k1)
 |bL::bz,i1=>(bif (bL.var:Bytes)==aU then(some aB)else(lz aB aU k1 bz (i1+1)))
def nj(aB:aR)(aU:Bytes):Option aR:=((gT aU).bind fun y1=>(bif !(y1)then(some aB)else(lz aB aU ((oC (IntKind.i64.wrap (((aB.map aS.c).length:Int)+1))).bind fun Xx=>(bif decide (([63]:Bytes).length+(Xx:Bytes).length<=maxLen)then(bif room ((aB.map aS.c).length+([[D.str aU,D.str (([63])++Xx)]]).length) 32 then(some (aB++([(⟨aU,([63])++Xx⟩:aS)])))else none)else none)) aB 0)))
def Je(aB:aR)(aU:Bytes)(cR:Int):St:=⟨[(0,D.acc 0),(1,D.str aU),(5,D.int .i64 cR)],[Ob.row .uq 152 2 (aB.map aS.c)]⟩
theorem IS(hΓ:Γ.nt=34){aB:aR}{aU:Bytes}{r:aR}{k1:Option aR}(cc:k1=some r->Ax Γ N f162 (.q [[some (152,2)]] (D.fr 152 2 (r.map aS.c))) [1,1,1] ⟨[(0,D.acc 0),(1,D.str aU)],[Ob.row .uq 152 2 (aB.map aS.c)]⟩)(hm1:aB.length<=maxLen):∀(rest:aR) (i1:Nat),aB.drop i1=rest->lz aB aU k1 rest i1=some r->Ar Γ N f162 (.q [[some (152,2)]] (D.fr 152 2 (r.map aS.c))) [1,1,0,1,0] (rest.length+1) (Je aB aU (i1:Int)):=by
 intro rest
 induction rest with
 |nil=>
  intro i1 aq h;rw[lz]at h;refine aP fun N1 cC br=>?_
  exact((aT.ge aS.c aq).a [.hl 0 [0,1] [0]]).ex hΓ cC (cc h)
 |cons bL bz ih1=>
  intro i1 aq h;rw[lz]at h;refine aP fun N1 cC br=>?_
  have mQ:=(((aT.lt aS.c aq).i (nX aS.c 2 (dc aq))).o 2 1 .uq (dK aS.c (dc aq)))
  obtain⟨h17,h⟩|⟨h17,h⟩:=aM h
  ·have h:=aI h;subst h;exact(mQ.b h17).ret hΓ
  ·exact((mQ.b h17).a [.cn [0,1,5] [0]]).ct hΓ br (iS aq hm1) (ih1 (i1+1) (dn aq) h)
theorem rL{aB:aR}{aU:Bytes}{r:aR}(h:nj aB aU=some r):Fq prog 162 [D.acc 0,D.str aU] 152 2 (aB.map aS.c) (r.map aS.c):=by
 refine Fq.of (c:=Cz f162) func162 rfl (by decide) (by simp[f162]) (Aw (c:=aS.c) (fun _=>rfl) r) ?_;intro Bq Γ hΓ;have hΓ:Γ.nt=34:=hΓ;rw[nj]at h;refine(show AW prog Γ (Cz f162) (KQ prog Γ (fun _ _=>False) ((Kd.q [[some (152,2)]] (D.fr 152 2 (r.map aS.c))).qq prog f162) []) _ from ?_);obtain⟨y1,h2,h⟩:=aE h;obtain⟨h3,h⟩|⟨h3,h⟩:=aM h
 ·have h:=aI h;subst h;exact((aT.g (fY h2)).b h3).ret hΓ
 ·refine(((aT.g (fY h2)).b h3).a [.cn [0,1,5] [0]]).lp hΓ (IS hΓ (fun h=>?_) (by simpa using Bq) aB 0 rfl h);obtain⟨Xx,h19,h⟩:=aE h;obtain⟨h20,h⟩:=bQ h;obtain⟨h21,h⟩:=bQ h;cases h;exact(((aT.g (su h19)).w (bY h20)).w (bh h21)).rts hΓ (D.fr 152 2 ((aB.map aS.c)++([[D.str aU,D.str (([63])++Xx)]]))) (by first|rfl| (simp only[mA]<;>rfl))
def gw(aB:aK)(i1:Nat)(bL:aL)(k2:aR->Option aR):aH->Nat->aR->Option aR
 | [],i2,jH=>(k2 jH)
 |k8::tf,i2,jH=>((nj jH k8).bind fun AF=>(gw aB i1 bL k2 tf (i2+1) AF))
def gu(aB:aK)(k1:aR->Option aR):ai->Nat->aR->Option aR
 | [],i1,bW=>(k1 bW)
 |bL::bz,i1,bW=>(bif decide (bL.pat.args.length<=maxLen)then(gw aB i1 bL (fun(vq:aR)=>((nj vq bL.left).bind fun wY=>((nj wY bL.right).bind fun Xy=>(gu aB k1 bz (i1+1) Xy)))) bL.pat.args 0 bW)else none)
def pT(aB:aK):Option aR:=(gu aB (fun(bf:aR)=>(some bf)) aB.conds 0 ([]:aR))
def Dl(aB:aK)(W0:List aQ)(cR:Int):St:=⟨[(1,D.ptr 0 0),(3,D.acc 1),(4,D.int .i64 cR)],[Ob.box (aK.c aB),Ob.row .uq 152 2 W0]⟩
def Dm(aB:aK)(i1:Nat)(W0:List aQ)(cR:Int):St:=⟨[(1,D.ptr 0 0),(3,D.acc 1),(4,D.int .i64 (i1:Int)),(5,D.int .i64 cR)],[Ob.box (aK.c aB),Ob.row .uq 152 2 W0]⟩
theorem Cd(hΓ:Γ.nt=55){aB:aK}{i1:Nat}{bL:aL}{r:aR}{k2:aR->Option aR}(zf:∀(vq:aR),k2 vq=some r->Ax Γ N f92 (.q [[some (152,2)]] (D.fr 152 2 (r.map aS.c))) [1,1,0,1,0,0,1,0,0,1] ⟨[(1,D.ptr 0 0),(3,D.acc 1),(4,D.int .i64 (i1:Int))],[Ob.box (aK.c aB),Ob.row .uq 152 2 (vq.map aS.c)]⟩)(hx1:(aB.conds)[i1]?=some bL)(hm2:bL.pat.args.length<=maxLen):∀(rest:aH) (i2:Nat) (jH:aR),bL.pat.args.drop i2=rest->gw aB i1 bL k2 rest i2 jH=some r->Ar Γ N f92 (.q [[some (152,2)]] (D.fr 152 2 (r.map aS.c))) [1,1,0,1,0,0,1,0,0,0,1,0] (rest.length+1) (Dm aB i1 (jH.map aS.c) (i2:Int)):=by
 intro rest
 induction rest with
 |nil=>
  intro i2 jH hd2 h;rw[gw]at h;refine aP fun N2 ul sA=>?_
  exact(((aT.l (az aL.c 5 hx1 rfl)).ge tx hd2).a [.hl 5 [1,3,4] [0,1]]).ex hΓ ul (zf jH h)
 |cons k8 tf ih2=>
  intro i2 jH hd2 h;rw[gw]at h;refine aP fun N2 ul sA=>?_
  obtain⟨AF,h207,h⟩:=aE h;exact(((((((aT.l (az aL.c 5 hx1 rfl)).lt tx hd2).l (az aL.c 5 hx1 rfl)).l (az tx 1 (dc hd2) rfl)).w (show(jH.map aS.c).flatten.all D.flat=true from by simpa only[bV,bH,cD]using Aw (c:=aS.c) (fun _=>rfl) jH)).w (show Fq prog 162 [D.acc 0,D.str k8] 152 2 (jH.map aS.c) (AF.map aS.c)from by simpa only[bV,bH,cD]using rL h207)).a [.ov 1 (AF.map aS.c),.cn [1,3,4,5] [0,2]]).ct hΓ sA (iS hd2 hm2) (ih2 (i2+1) AF (dn hd2) h)
theorem Cc(hΓ:Γ.nt=55){aB:aK}{r:aR}{k1:aR->Option aR}(cc:∀(bf:aR),k1 bf=some r->Ax Γ N f92 (.q [[some (152,2)]] (D.fr 152 2 (r.map aS.c))) [1,1,1] ⟨[(3,D.acc 0)],[Ob.row .uq 152 2 (bf.map aS.c)]⟩)(hm1:aB.conds.length<=maxLen):∀(rest:ai) (i1:Nat) (bW:aR),aB.conds.drop i1=rest->gu aB k1 rest i1 bW=some r->Ar Γ N f92 (.q [[some (152,2)]] (D.fr 152 2 (r.map aS.c))) [1,1,0,1,0] (rest.length+1) (Dl aB (bW.map aS.c) (i1:Int)):=by
 intro rest
 induction rest with
 |nil=>
  intro i1 bW aq h;rw[gu]at h;refine aP fun N1 cC br=>?_
  exact((aT.ge aL.c aq).a [.hl 0 [3] [1]]).ex hΓ cC (cc bW h)
 |cons bL bz ih1=>
  intro i1 bW aq h;rw[gu]at h;refine aP fun N1 cC br=>?_
  obtain⟨h212,h⟩:=bQ h;refine((aT.lt aL.c aq).a [.cn [1,3,4,5] [0,1]]).lp hΓ (Cd hΓ (fun vq h=>?_) ((drop_cons aq).1) (bY h212) bL.pat.args 0 bW rfl h);obtain⟨wY,h209,h⟩:=aE h;obtain⟨Xy,h211,h⟩:=aE h;exact((((((((aT.l (az aL.c 5 (dc aq) rfl)).w (show(vq.map aS.c).flatten.all D.flat=true from by simpa only[bV,bH,cD]using Aw (c:=aS.c) (fun _=>rfl) vq)).w (show Fq prog 162 [D.acc 0,D.str bL.left] 152 2 (vq.map aS.c) (wY.map aS.c)from by simpa only[bV,bH,cD]using rL h209)).a [.ov 1 (wY.map aS.c)]).l (az aL.c 5 (dc aq) rfl)).w (show(wY.map aS.c).flatten.all D.flat=true from by simpa only[bV,bH,cD]using Aw (c:=aS.c) (fun _=>rfl) wY)).w (show Fq prog 162 [D.acc 0,D.str bL.right] 152 2 (wY.map aS.c) (Xy.map aS.c)from by simpa only[bV,bH,cD]using rL h211)).a [.ov 2 (Xy.map aS.c),.cn [1,3,4] [0,3]]).ct hΓ br (iS aq hm1) (ih1 (i1+1) Xy (dn aq) h)
theorem Bh{aB:aK}{r:aR}(h:pT aB=some r):Good prog 92 [D.agg (aK.c aB)] (D.fr 152 2 (r.map aS.c)):=by
 refine gd func92 [[some (152,2)]] 55 fun hr Γ hΓ=>?_
 rw[pT]at h;refine(aT.a [.cn [1,3,4] [0,1]]).lp hΓ (Cc hΓ (fun bf h=>?_) (by have:=(eN.sl (eN.agg (hr _ (aD (i:=0) rfl)) (.sl (aB.conds.map aL.c)) (by simp))).1;simpa using this) aB.conds 0 ([]:aR) rfl h);have h:=aI h;subst h;exact aT.ret hΓ
def js(aB:aK)(y1:aR)(k1:ai->Option ai):ai->Nat->ai->Option ai
 | [],i1,bW=>(k1 bW)
 |bL::bz,i1,bW=>((jA bL y1).bind fun EP=>(bif room ((bW.map aL.c).length+([[D.int .i64 EP.kind,D.str EP.pat.rel,D.sl (EP.pat.args.map tx),D.str EP.left,D.str EP.right]]).length) 80 then(js aB y1 k1 bz (i1+1) (bW++([EP])))else none))
def pS(aB:aK):Option ai:=((pT aB).bind fun y1=>(js aB y1 (fun(bf:ai)=>(some bf)) aB.conds 0 ([]:ai)))
def xC(aB:aK)(y1:aR)(W0:List aQ)(cR:Int):St:=⟨[(1,D.ptr 0 0),(3,D.acc 1),(4,D.acc 2),(5,D.int .i64 cR)],[Ob.box (aK.c aB),Ob.row .uq 115 5 W0,Ob.row .uq 152 2 (y1.map aS.c)]⟩
theorem Cb(hΓ:Γ.nt=27){aB:aK}{y1:aR}{r:ai}{k1:ai->Option ai}(cc:∀(bf:ai),k1 bf=some r->Ax Γ N f132 (.q [[some (115,5)]] (D.fr 115 5 (r.map aL.c))) [1,1,1,1] ⟨[(3,D.acc 0)],[Ob.row .uq 115 5 (bf.map aL.c)]⟩)(hm1:aB.conds.length<=maxLen):∀(rest:ai) (i1:Nat) (bW:ai),aB.conds.drop i1=rest->js aB y1 k1 rest i1 bW=some r->Ar Γ N f132 (.q [[some (115,5)]] (D.fr 115 5 (r.map aL.c))) [1,1,1,0,1,0] (rest.length+1) (xC aB y1 (bW.map aL.c) (i1:Int)):=by
 intro rest
 induction rest with
 |nil=>
  intro i1 bW aq h;rw[js]at h;refine aP fun N1 cC br=>?_
  exact((aT.ge aL.c aq).a [.hl 0 [3] [1]]).ex hΓ cC (cc bW h)
 |cons bL bz ih1=>
  intro i1 bW aq h;rw[js]at h;refine aP fun N1 cC br=>?_
  obtain⟨EP,h30,h⟩:=aE h;obtain⟨h31,h⟩:=bQ h;exact(((((aT.lt aL.c aq).l (az aL.c 5 (dc aq) rfl)).g (iR h30)).w (bh h31)).a [.cn [1,3,4,5] [0,5,2]]).cs hΓ br (xC aB y1 ((bW.map aL.c)++([[D.int .i64 EP.kind,D.str EP.pat.rel,D.sl (EP.pat.args.map tx),D.str EP.left,D.str EP.right]])) (IntKind.i64.wrap ((i1:Int)+1))) (by first| (simp only[iS aq hm1,mA]<;>rfl)| (simp only[iS aq hm1,mA,aC.c,aS.c,aL.c,Action.c,aK.c,aN.c,cX.c,aV.c,Node.c,aG.c,cg.c]<;>rfl)) (ih1 (i1+1) (bW++([EP])) (dn aq) h)
theorem Bg{aB:aK}{r:ai}(h:pS aB=some r):Good prog 132 [D.agg (aK.c aB)] (D.fr 115 5 (r.map aL.c)):=by
 refine gd func132 [[some (115,5)]] 27 fun hr Γ hΓ=>?_
 rw[pS]at h;obtain⟨y1,h2,h⟩:=aE h;refine((aT.g (Bh h2)).a [.cn [1,3,4,5] [0,1,2]]).lp hΓ (Cb hΓ (fun bf h=>?_) (by have:=(eN.sl (eN.agg (hr _ (aD (i:=0) rfl)) (.sl (aB.conds.map aL.c)) (by simp))).1;simpa using this) aB.conds 0 ([]:ai) rfl h);have h:=aI h;subst h;exact aT.ret hΓ
def gy(aB:aC)(aU:aC):Option Bool:=(bif (aB.rel:Bytes)==aU.rel then((lX aB.args aU.args).bind fun y2=>(some y2))else(some false))
theorem qt{aB:aC}{aU:aC}{r:Bool}(h:gy aB aU=some r):Good prog 148 [D.agg (aC.c aB),D.agg (aC.c aU)] (D.bool r):=by
 refine gd func148 [[none]] 17 fun hr Γ hΓ=>?_
 rw[gy]at h;obtain⟨h1,h⟩|⟨h1,h⟩:=aM h
 ·obtain⟨y2,h3,h⟩:=aE h;have h:=aI h;subst h;exact(((aT.r 5 h1).g (vO h3)).b h1).ret hΓ
 ·have h:=aI h;subst h;exact(aT.r 6 h1).ret hΓ
def nG(aB:aL)(aU:aL):Option Bool:=(bif (aB.kind:Int)==aU.kind then((gy aB.pat aU.pat).bind fun y2=>(bif y2 then(bif (aB.left:Bytes)==aU.left then(some ((aB.right:Bytes)==aU.right))else(some false))else(some false)))else(some false))
theorem xE{aB:aL}{aU:aL}{r:Bool}(h:nG aB aU=some r):Good prog 149 [D.agg (aL.c aB),D.agg (aL.c aU)] (D.bool r):=by
 refine gd func149 [[none]] 31 fun hr Γ hΓ=>?_
 rw[nG]at h;obtain⟨h1,h⟩|⟨h1,h⟩:=aM h
 ·obtain⟨y2,h3,h⟩:=aE h;have mQ:=(((aT.r 5 h1).g (qt h3)).b h1)
  obtain⟨h4,h⟩|⟨h4,h⟩:=aM h
  ·have eH:=(mQ.r 6 h4)
   obtain⟨h5,h⟩|⟨h5,h⟩:=aM h
   ·cases h;exact(eH.r 6 h5).ret hΓ
   ·have h:=aI h;subst h;exact(eH.r 6 h5).ret hΓ
  ·have h:=aI h;subst h;exact((mQ.r 6 h4).F 6).ret hΓ
 ·have h:=aI h;subst h;exact((aT.r 6 h1).F 12).ret hΓ
def kI(aB:aC)(k1:aR->Option aC):aH->Nat->aR->Option aC
 | [],i1,fD=>(k1 fD)
 |bL::bz,i1,fD=>((nj fD bL).bind fun mP=>(kI aB k1 bz (i1+1) mP))
def qu(aB:aC):Option aC:=(kI aB (fun(qK:aR)=>((jA (⟨0,aB,[],[]⟩:aL) qK).bind fun Mg=>(some Mg.pat))) aB.args 0 ([]:aR))
def ID(aB:aC)(W0:List aQ)(cR:Int):St:=⟨[(1,D.ptr 0 0),(2,D.ptr 1 0),(3,D.acc 2),(4,D.int .i64 cR)],[Ob.box (aC.c aB),Ob.box [D.str ([]),D.nil],Ob.row .uq 152 2 W0]⟩
theorem HA(hΓ:Γ.nt=25){aB:aC}{r:aC}{k1:aR->Option aC}(cc:∀(qK:aR),k1 qK=some r->Ax Γ N f199 (.q [[none,some (9,1)]] (D.agg [D.str r.rel,D.fr 9 1 (r.args.map tx)])) [1,1,1] ⟨[(1,D.ptr 0 0),(2,D.ptr 1 0),(3,D.acc 2)],[Ob.box (aC.c aB),Ob.box [D.str ([]),D.nil],Ob.row .uq 152 2 (qK.map aS.c)]⟩)(hm1:aB.args.length<=maxLen):∀(rest:aH) (i1:Nat) (fD:aR),aB.args.drop i1=rest->kI aB k1 rest i1 fD=some r->Ar Γ N f199 (.q [[none,some (9,1)]] (D.agg [D.str r.rel,D.fr 9 1 (r.args.map tx)])) [1,1,0,1,0] (rest.length+1) (ID aB (fD.map aS.c) (i1:Int)):=by
 intro rest
 induction rest with
 |nil=>
  intro i1 fD aq h;rw[kI]at h;refine aP fun N1 cC br=>?_
  exact((aT.ge tx aq).a [.hl 0 [1,2,3] [0,1,2]]).ex hΓ cC (cc fD h)
 |cons bL bz ih1=>
  intro i1 fD aq h;rw[kI]at h;refine aP fun N1 cC br=>?_
  obtain⟨mP,h23,h⟩:=aE h;exact(((((aT.lt tx aq).l (az tx 1 (dc aq) rfl)).w (show(fD.map aS.c).flatten.all D.flat=true from by simpa only[bV,bH,cD]using Aw (c:=aS.c) (fun _=>rfl) fD)).w (show Fq prog 162 [D.acc 0,D.str bL] 152 2 (fD.map aS.c) (mP.map aS.c)from by simpa only[bV,bH,cD]using rL h23)).a [.ov 2 (mP.map aS.c),.cn [1,2,3,4] [0,1,3]]).ct hΓ br (iS aq hm1) (ih1 (i1+1) mP (dn aq) h)
theorem xy{aB:aC}{r:aC}(h:qu aB=some r):Good prog 199 [D.agg (aC.c aB)] (D.agg [D.str r.rel,D.fr 9 1 (r.args.map tx)]):=by
 refine gd func199 [[none,some (9,1)]] 25 fun hr Γ hΓ=>?_
 rw[qu]at h;refine(aT.a [.cn [1,2,3,4] [0,1,2]]).lp hΓ (HA hΓ (fun qK h=>?_) (by have:=(eN.sl (eN.agg (hr _ (aD (i:=0) rfl)) (.sl (aB.args.map tx)) (by simp))).1;simpa using this) aB.args 0 ([]:aR) rfl h);obtain⟨Mg,h25,h⟩:=aE h;cases h;exact((aT.a [.d (D.agg [D.int .i64 Mg.kind,D.str Mg.pat.rel,D.fr 9 1 (Mg.pat.args.map tx),D.str Mg.left,D.str Mg.right])]).w (show Good prog 177 [D.agg [D.int .i64 0,D.str aB.rel,D.sl (aB.args.map tx),D.str ([]),D.str ([])],D.sl (qK.map aS.c)] (D.agg [D.int .i64 Mg.kind,D.str Mg.pat.rel,D.fr 9 1 (Mg.pat.args.map tx),D.str Mg.left,D.str Mg.right])from by first| (simpa only[bV,bH,cD,dG,ck]using iR h25)|exact iR h25| (have t:=iR h25;simp only[bV,dG,ck,aL.c]at t;exact t))).ret hΓ
def cK(x:aG):aQ:=[D.fr 105 4 (x.rules.map aK.c),D.fr 3 1 (x.ends.map gS),D.fr 111 3 (x.av.map aV.c),D.fr 118 8 (x.nodes.map Node.c),D.fr 53 2 (x.facts.map aC.c),D.int .i64 x.bn]
def kL(aB:aG)(aU:aC)(k1:Option (aG×Int)):bD->Nat->Option (aG×Int)
 | [],i1=>(k1)
 |bL::bz,i1=>((gy bL.shape aU).bind fun mP=>(bif mP then(some (aB,(i1:Int)))else(kL aB aU k1 bz (i1+1))))
def qw(aB:aG)(aU:aC):Option (aG×Int):=(bif decide (aB.av.length<=maxLen)then(kL aB aU (bif room ((aB.av.map aV.c).length+([[D.str aU.rel,D.sl (aU.args.map tx),D.sl ([])]]).length) 64 then(some ((⟨aB.rules,aB.ends,aB.av++([(⟨aU,[]⟩:aV)]),aB.nodes,aB.facts,aB.bn⟩:aG),IntKind.i64.wrap ((((aB.av.map aV.c)++([[D.str aU.rel,D.sl (aU.args.map tx),D.sl ([])]])).length:Int)-1)))else none) aB.av 0)else none)
def IN(wX:Value)(aB:aG)(aU:aC)(cR:Int):St:=⟨[(0,D.ptr 0 0),(3,D.ptr 1 0),(5,D.int .i64 cR)],[Ob.Ka [D.acc 2,D.acc 3,D.acc 4,D.acc 5,D.acc 6,D.int .i64 aB.bn] wX,Ob.box [D.str aU.rel,D.acc 7],Ob.row .uq 105 4 (aB.rules.map aK.c),Ob.row .uq 3 1 (aB.ends.map gS),Ob.row .uq 111 3 (aB.av.map aV.c),Ob.row .uq 118 8 (aB.nodes.map Node.c),Ob.row .uq 53 2 (aB.facts.map aC.c),Ob.row .uq 9 1 (aU.args.map tx)]⟩
theorem HE(hΓ:Γ.nt=43){wX:Value}{aB:aG}{aU:aC}{r:aG×Int}{k1:Option (aG×Int)}(cc:k1=some r->Ax Γ N f198 (.p [[some (105,4),some (3,1),some (111,3),some (118,8),some (53,2),none],[none]] wX (cK r.1) (D.int .i64 r.2)) [1,1] ⟨[(0,D.ptr 0 0),(3,D.ptr 1 0)],[Ob.Ka [D.acc 2,D.acc 3,D.acc 4,D.acc 5,D.acc 6,D.int .i64 aB.bn] wX,Ob.box [D.str aU.rel,D.acc 7],Ob.row .uq 105 4 (aB.rules.map aK.c),Ob.row .uq 3 1 (aB.ends.map gS),Ob.row .uq 111 3 (aB.av.map aV.c),Ob.row .uq 118 8 (aB.nodes.map Node.c),Ob.row .uq 53 2 (aB.facts.map aC.c),Ob.row .uq 9 1 (aU.args.map tx)]⟩)(hm1:aB.av.length<=maxLen):∀(rest:bD) (i1:Nat),aB.av.drop i1=rest->kL aB aU k1 rest i1=some r->Ar Γ N f198 (.p [[some (105,4),some (3,1),some (111,3),some (118,8),some (53,2),none],[none]] wX (cK r.1) (D.int .i64 r.2)) [1,0,1,0] (rest.length+1) (IN wX aB aU (i1:Int)):=by
 intro rest
 induction rest with
 |nil=>
  intro i1 aq h;rw[kL]at h;refine aP fun N1 cC br=>?_
  exact((aT.ge aV.c aq).a [.hl 0 [0,3] [0,1,2,3,4,5,6,7]]).ex hΓ cC (cc h)
 |cons bL bz ih1=>
  intro i1 aq h;rw[kL]at h;refine aP fun N1 cC br=>?_
  obtain⟨mP,h23,h⟩:=aE h;have eH:=(((((aT.lt aV.c aq).a [.n 9]).i (nX aV.c 3 (dc aq))).o 3 2 .uq (dK aV.c (dc aq))).g (qt h23))
  obtain⟨h24,h⟩|⟨h24,h⟩:=aM h
  ·cases h;exact(eH.b h24).ret hΓ
  ·exact((eH.b h24).a [.cn [0,3,5] [0,1,2,3,4,5,6,7]]).ct hΓ br (iS aq hm1) (ih1 (i1+1) (dn aq) h)
theorem yA{aB:aG}{aU:aC}{r:aG×Int}(h:qw aB aU=some r):yc prog 198 (cK aB) (cK r.1) [D.agg [D.str aU.rel,D.fr 9 1 (aU.args.map tx)]] (D.int .i64 r.2):=by
 refine gdP func198 [[some (105,4),some (3,1),some (111,3),some (118,8),some (53,2),none],[none]] 43 [D.acc 1,D.acc 2,D.acc 3,D.acc 4,D.acc 5,D.int .i64 aB.bn] [D.agg [D.str aU.rel,D.acc 6]] [Ob.row .uq 105 4 (aB.rules.map aK.c),Ob.row .uq 3 1 (aB.ends.map gS),Ob.row .uq 111 3 (aB.av.map aV.c),Ob.row .uq 118 8 (aB.nodes.map Node.c),Ob.row .uq 53 2 (aB.facts.map aC.c),Ob.row .uq 9 1 (aU.args.map tx)] fun hr wX Γ hΓ=>?_
 rw[qw]at h;obtain⟨h27,h⟩:=bQ h;refine(aT.a [.cn [0,3,5] [0,7,1,2,3,4,5,6]]).lp hΓ (HE hΓ (fun h=>?_) (bY h27) aB.av 0 rfl h);obtain⟨h26,h⟩:=bQ h;cases h;exact((aT.w (bh h26)).a [.n2 [0,1,2,3,4,5,6,7,8,9,10,11] [0,1,2,3,4,5,6,7,8,9,10,11] 7 9 [0,1,2,3,4] [4,7,8]]).rts hΓ (D.hY [D.int .i64 (IntKind.i64.wrap ((((aB.av.map aV.c)++([[D.str aU.rel,D.sl (aU.args.map tx),D.sl ([])]])).length:Int)-1)),D.agg [D.fr 105 4 (aB.rules.map aK.c),D.fr 3 1 (aB.ends.map gS),D.fr 111 3 ((aB.av.map aV.c)++([[D.str aU.rel,D.sl (aU.args.map tx),D.sl ([])]])),D.fr 118 8 (aB.nodes.map Node.c),D.fr 53 2 (aB.facts.map aC.c),D.int .i64 aB.bn],D.val wX]) (by first|rfl| (simp only[mA]<;>rfl)| (simp only[cK,mA]<;>rfl))
def fZ(aB:aG)(aU:Int)(cL:aL)(k1:Option (aG×Int)):Nat->Int->Option (aG×Int)
 |0,_=>none
 |n1+1,pY=>(bif decide ((pY:Int)<((aB.nodes.map Node.c).length:Int))then((lF aB.nodes pY).bind fun x16=>(bif (x16.parent:Int)==aU then((nG x16.cond cL).bind fun y19=>(bif y19 then(some (aB,pY))else(fZ aB aU cL k1 n1 (IntKind.i64.wrap (pY+1)))))else(fZ aB aU cL k1 n1 (IntKind.i64.wrap (pY+1)))))else(k1))
def tX(aB:aG)(aU:Int)(cL:aL):Option (aG×Int):=(fZ aB aU cL ((jF cL).bind fun mP=>(bif (cL.kind:Int)==1 then((qu cL.pat).bind fun SE=>((qw aB SE).bind fun nK=>(bif room ((nK.1.nodes.map Node.c).length+([[D.int .i64 aU,D.int .i64 mP.kind,D.str mP.pat.rel,D.sl (mP.pat.args.map tx),D.str mP.left,D.str mP.right,D.int .i64 nK.2,D.sl ([])]]).length) 120 then(some ((⟨nK.1.rules,nK.1.ends,nK.1.av,nK.1.nodes++([(⟨aU,mP,nK.2,[]⟩:Node)]),nK.1.facts,nK.1.bn⟩:aG),IntKind.i64.wrap ((((nK.1.nodes.map Node.c)++([[D.int .i64 aU,D.int .i64 mP.kind,D.str mP.pat.rel,D.sl (mP.pat.args.map tx),D.str mP.left,D.str mP.right,D.int .i64 nK.2,D.sl ([])]])).length:Int)-1)))else none)))else(bif (cL.kind:Int)==2 then((qu cL.pat).bind fun JB=>((qw aB JB).bind fun Cr=>(bif room ((Cr.1.nodes.map Node.c).length+([[D.int .i64 aU,D.int .i64 mP.kind,D.str mP.pat.rel,D.sl (mP.pat.args.map tx),D.str mP.left,D.str mP.right,D.int .i64 Cr.2,D.sl ([])]]).length) 120 then(some ((⟨Cr.1.rules,Cr.1.ends,Cr.1.av,Cr.1.nodes++([(⟨aU,mP,Cr.2,[]⟩:Node)]),Cr.1.facts,Cr.1.bn⟩:aG),IntKind.i64.wrap ((((Cr.1.nodes.map Node.c)++([[D.int .i64 aU,D.int .i64 mP.kind,D.str mP.pat.rel,D.sl (mP.pat.args.map tx),D.str mP.left,D.str mP.right,D.int .i64 Cr.2,D.sl ([])]])).length:Int)-1)))else none)))else(bif room ((aB.nodes.map Node.c).length+([[D.int .i64 aU,D.int .i64 mP.kind,D.str mP.pat.rel,D.sl (mP.pat.args.map tx),D.str mP.left,D.str mP.right,D.int .i64 (-1),D.sl ([])]]).length) 120 then(some ((⟨aB.rules,aB.ends,aB.av,aB.nodes++([(⟨aU,mP, -1,[]⟩:Node)]),aB.facts,aB.bn⟩:aG),IntKind.i64.wrap ((((aB.nodes.map Node.c)++([[D.int .i64 aU,D.int .i64 mP.kind,D.str mP.pat.rel,D.sl (mP.pat.args.map tx),D.str mP.left,D.str mP.right,D.int .i64 (-1),D.sl ([])]])).length:Int)-1)))else none)))) fuel 1)
def IP(wX:Value)(aB:aG)(aU:Int)(cL:aL)(pY:Int):St:=⟨[(0,D.ptr 0 0),(1,D.int .i64 aU),(5,D.ptr 1 0),(7,D.int .i64 pY)],[Ob.Ka [D.acc 2,D.acc 3,D.acc 4,D.acc 5,D.acc 6,D.int .i64 aB.bn] wX,Ob.box (aL.c cL),Ob.row .uq 105 4 (aB.rules.map aK.c),Ob.row .uq 3 1 (aB.ends.map gS),Ob.row .uq 111 3 (aB.av.map aV.c),Ob.row .uq 118 8 (aB.nodes.map Node.c),Ob.row .uq 53 2 (aB.facts.map aC.c)]⟩
theorem HF(hΓ:Γ.nt=75){wX:Value}{aB:aG}{aU:Int}{cL:aL}{r:aG×Int}{k1:Option (aG×Int)}(cc:k1=some r->Ax Γ N f133 (.p [[some (105,4),some (3,1),some (111,3),some (118,8),some (53,2),none],[none]] wX (cK r.1) (D.int .i64 r.2)) [1,1] ⟨[(0,D.ptr 0 0),(1,D.int .i64 aU),(5,D.ptr 1 0)],[Ob.Ka [D.acc 2,D.acc 3,D.acc 4,D.acc 5,D.acc 6,D.int .i64 aB.bn] wX,Ob.box (aL.c cL),Ob.row .uq 105 4 (aB.rules.map aK.c),Ob.row .uq 3 1 (aB.ends.map gS),Ob.row .uq 111 3 (aB.av.map aV.c),Ob.row .uq 118 8 (aB.nodes.map Node.c),Ob.row .uq 53 2 (aB.facts.map aC.c)]⟩):∀(n1:Nat) (pY:Int),fZ aB aU cL k1 n1 pY=some r->Ar Γ N f133 (.p [[some (105,4),some (3,1),some (111,3),some (118,8),some (53,2),none],[none]] wX (cK r.1) (D.int .i64 r.2)) [1,0,1,0] n1 (IP wX aB aU cL pY):=by
 intro n
 induction n with
 |zero=>intro pY h;simp[fZ]at h
 |succ n1 ih1=>
  intro pY h;rw[fZ]at h;refine aP fun N1 cC br=>?_
  obtain⟨h15,h⟩|⟨h15,h⟩:=aM h
  ·obtain⟨x16,h17,h⟩:=aE h;have kx:=((((aT.b h15).a [.n 20]).i (vF Node.c 8 h17)).o 8 1 .uq (dK Node.c (rE h17)))
   obtain⟨h18,h⟩|⟨h18,h⟩:=aM h
   ·obtain⟨y19,h20,h⟩:=aE h;have kM:=(((((((kx.r 6 h18).i (vF Node.c 8 h17)).r 2 h18).o 8 6 .uq (dK Node.c (rE h17))).r 2 h18).g (xE h20)).b h18)
    obtain⟨h21,h⟩|⟨h21,h⟩:=aM h
    ·cases h;exact(kM.b h21).ret hΓ
    ·exact((kM.b h21).a [.cn [0,1,5,7] [0,1,2,3,4,5,6]]).cf hΓ br (ih1 (IntKind.i64.wrap (pY+1)) h)
   ·exact(((kx.r 11 h18).F 1).a [.cn [0,1,5,7] [0,1,2,3,4,5,6]]).cf hΓ br (ih1 (IntKind.i64.wrap (pY+1)) h)
  ·exact((aT.b h15).a [.hl 0 [0,1,5] [0,1,2,3,4,5,6]]).ex hΓ cC (cc h)
theorem Fc{aB:aG}{aU:Int}{cL:aL}{r:aG×Int}(h:tX aB aU cL=some r):yc prog 133 (cK aB) (cK r.1) [D.int .i64 aU,D.agg (aL.c cL)] (D.int .i64 r.2):=by
 refine gdP func133 [[some (105,4),some (3,1),some (111,3),some (118,8),some (53,2),none],[none]] 75 [D.acc 1,D.acc 2,D.acc 3,D.acc 4,D.acc 5,D.int .i64 aB.bn] [D.int .i64 aU,D.agg [D.int .i64 cL.kind,D.str cL.pat.rel,D.sl (cL.pat.args.map tx),D.str cL.left,D.str cL.right]] [Ob.row .uq 105 4 (aB.rules.map aK.c),Ob.row .uq 3 1 (aB.ends.map gS),Ob.row .uq 111 3 (aB.av.map aV.c),Ob.row .uq 118 8 (aB.nodes.map Node.c),Ob.row .uq 53 2 (aB.facts.map aC.c)] fun hr wX Γ hΓ=>?_
 rw[tX]at h;refine(aT.a [.cn [0,1,5,7] [0,6,1,2,3,4,5]]).lp hΓ (HF hΓ (fun h=>?_) fuel 1 h);obtain⟨mP,h23,h⟩:=aE h;obtain⟨h24,h⟩|⟨h24,h⟩:=aM h
 ·obtain⟨SE,h26,h⟩:=aE h;obtain⟨nK,h28,h⟩:=aE h;obtain⟨h30,h⟩:=bQ h;cases h;exact(((((((aT.g (oR h23)).r 4 h24).T 1).g (xy h26)).hp [[some (105,4),some (3,1),some (111,3),some (118,8),some (53,2),none],[none,some (9,1)]] (yA h28)).w (bh h30)).a [.n2 [0,1,2,3,4,5,6,7,8,9,10] [0,1,2,3,4,5,6,7,8,9,10] 6 8 [0,1,2,3,4] [7,13,15]]).rts hΓ (D.hY [D.int .i64 (IntKind.i64.wrap ((((nK.1.nodes.map Node.c)++([[D.int .i64 aU,D.int .i64 mP.kind,D.str mP.pat.rel,D.sl (mP.pat.args.map tx),D.str mP.left,D.str mP.right,D.int .i64 nK.2,D.sl ([])]])).length:Int)-1)),D.agg [D.fr 105 4 (nK.1.rules.map aK.c),D.fr 3 1 (nK.1.ends.map gS),D.fr 111 3 (nK.1.av.map aV.c),D.fr 118 8 ((nK.1.nodes.map Node.c)++([[D.int .i64 aU,D.int .i64 mP.kind,D.str mP.pat.rel,D.sl (mP.pat.args.map tx),D.str mP.left,D.str mP.right,D.int .i64 nK.2,D.sl ([])]])),D.fr 53 2 (nK.1.facts.map aC.c),D.int .i64 nK.1.bn],D.val wX]) (by first|rfl| (simp only[mA]<;>rfl)| (simp only[cK,mA]<;>rfl))
 ·have uK:=((aT.g (oR h23)).r 4 h24)
  obtain⟨h31,h⟩|⟨h31,h⟩:=aM h
  ·obtain⟨JB,h33,h⟩:=aE h;obtain⟨Cr,h35,h⟩:=aE h;obtain⟨h37,h⟩:=bQ h;cases h;exact(((((uK.b h31).g (xy h33)).hp [[some (105,4),some (3,1),some (111,3),some (118,8),some (53,2),none],[none,some (9,1)]] (yA h35)).w (bh h37)).a [.n2 [0,1,2,3,4,5,6,7,8,9,10] [0,1,2,3,4,5,6,7,8,9,10] 6 8 [0,1,2,3,4] [7,13,15]]).rts hΓ (D.hY [D.int .i64 (IntKind.i64.wrap ((((Cr.1.nodes.map Node.c)++([[D.int .i64 aU,D.int .i64 mP.kind,D.str mP.pat.rel,D.sl (mP.pat.args.map tx),D.str mP.left,D.str mP.right,D.int .i64 Cr.2,D.sl ([])]])).length:Int)-1)),D.agg [D.fr 105 4 (Cr.1.rules.map aK.c),D.fr 3 1 (Cr.1.ends.map gS),D.fr 111 3 (Cr.1.av.map aV.c),D.fr 118 8 ((Cr.1.nodes.map Node.c)++([[D.int .i64 aU,D.int .i64 mP.kind,D.str mP.pat.rel,D.sl (mP.pat.args.map tx),D.str mP.left,D.str mP.right,D.int .i64 Cr.2,D.sl ([])]])),D.fr 53 2 (Cr.1.facts.map aC.c),D.int .i64 Cr.1.bn],D.val wX]) (by first|rfl| (simp only[mA]<;>rfl)| (simp only[cK,mA]<;>rfl))
  ·obtain⟨h39,h⟩:=bQ h;cases h;exact(((uK.b h31).w (bh h39)).a [.n2 [0,1,2,3,4,5,6,7,8,9,10] [0,1,2,3,4,5,6,7,8,9,10] 6 8 [0,1,2,3,4] [5,7,9]]).rts hΓ (D.hY [D.int .i64 (IntKind.i64.wrap ((((aB.nodes.map Node.c)++([[D.int .i64 aU,D.int .i64 mP.kind,D.str mP.pat.rel,D.sl (mP.pat.args.map tx),D.str mP.left,D.str mP.right,D.int .i64 (-1),D.sl ([])]])).length:Int)-1)),D.agg [D.fr 105 4 (aB.rules.map aK.c),D.fr 3 1 (aB.ends.map gS),D.fr 111 3 (aB.av.map aV.c),D.fr 118 8 ((aB.nodes.map Node.c)++([[D.int .i64 aU,D.int .i64 mP.kind,D.str mP.pat.rel,D.sl (mP.pat.args.map tx),D.str mP.left,D.str mP.right,D.int .i64 (-1),D.sl ([])]])),D.fr 53 2 (aB.facts.map aC.c),D.int .i64 aB.bn],D.val wX]) (by first|rfl| (simp only[mA]<;>rfl)| (simp only[cK,mA]<;>rfl))
def gB(aB:ah)(i1:Nat)(JA:ai)(k2:Int->Int->ah->bR->bD->b9->aJ->Option (aG×Bool)):ai->Nat->Int->Int->ah->bR->bD->b9->aJ->Option (aG×Bool)
 | [],i2,qz,nI,AD,nQ,uA,uB,qJ=>(k2 qz nI AD nQ uA uB qJ)
 |k8::tf,i2,qz,nI,AD,nQ,uA,uB,qJ=>((tX (⟨AD,nQ,uA,uB,qJ,nI⟩:aG) qz k8).bind fun By=>(gB aB i1 JA k2 tf (i2+1) By.2 By.1.bn By.1.rules By.1.ends By.1.av By.1.nodes By.1.facts))
def gA(aB:ah)(k1:Int->ah->bR->bD->b9->aJ->Option (aG×Bool)):ah->Nat->Int->ah->bR->bD->b9->aJ->Option (aG×Bool)
 | [],i1,cz,fD,dW,kP,gW,oY=>(k1 cz fD dW kP gW oY)
 |bL::bz,i1,cz,fD,dW,kP,gW,oY=>((pS bL).bind fun JA=>(bif decide (JA.length<=maxLen)then(gB aB i1 JA (fun(yS:Int) (nH:Int) (HP:ah) (zI:bR) (HQ:bD) (sw:b9) (HR:aJ)=>(bif room ((zI.map gS).length+([[D.int .i64 yS]]).length) 8 then(gA aB k1 bz (i1+1) nH HP (zI++([yS])) HQ sw HR)else none)) JA 0 0 cz fD dW kP gW oY)else none))
def iv(aB:ah):Option (aG×Bool):=((rp aB).bind fun y1=>(bif !(y1)then(some ((⟨[],[],[],[],[],0⟩:aG),false))else((pF aB).bind fun y4=>(gA aB (fun(kN:Int) (qK:ah) (fC:bR) (zH:bD) (mC:b9) (oU:aJ)=>(some ((⟨qK,fC,zH,mC,oU,kN⟩:aG),true))) aB 0 0 y4 ([]:bR) ([]:bD) ([(⟨-1,(⟨0,(⟨[],[]⟩:aC),[],[]⟩:aL), -1,[(⟨[],[]⟩:aN)]⟩:Node)]) ([]:aJ)))))
def rG(aB:ah)(cz:Int)(W1:List aQ)(W2:List aQ)(W3:List aQ)(W4:List aQ)(W5:List aQ)(cR:Int):St:=⟨[(0,D.sl (aB.map aK.c)),(2,D.ptr 0 0),(4,D.ptr 1 0),(5,D.int .i64 cR)],[Ob.box [D.nil,D.nil,D.nil,D.nil,D.nil,D.int .i64 0],Ob.box [D.acc 2,D.acc 3,D.acc 4,D.acc 5,D.acc 6,D.int .i64 cz],Ob.row .uq 105 4 W1,Ob.row .uq 3 1 W2,Ob.row .uq 111 3 W3,Ob.row .uq 118 8 W4,Ob.row .uq 53 2 W5]⟩
def Bd(aB:ah)(i1:Nat)(JA:ai)(qz:Int)(nI:Int)(W2:List aQ)(W3:List aQ)(W4:List aQ)(W5:List aQ)(W6:List aQ)(cR:Int):St:=⟨[(0,D.sl (aB.map aK.c)),(2,D.ptr 0 0),(4,D.ptr 1 0),(5,D.int .i64 (i1:Int)),(6,D.int .i64 qz),(7,D.acc 2),(8,D.int .i64 cR)],[Ob.box [D.nil,D.nil,D.nil,D.nil,D.nil,D.int .i64 0],Ob.box [D.acc 3,D.acc 4,D.acc 5,D.acc 6,D.acc 7,D.int .i64 nI],Ob.row .uq 115 5 (JA.map aL.c),Ob.row .uq 105 4 W2,Ob.row .uq 3 1 W3,Ob.row .uq 111 3 W4,Ob.row .uq 118 8 W5,Ob.row .uq 53 2 W6]⟩
theorem Ag(hΓ:Γ.nt=50){aB:ah}{i1:Nat}{JA:ai}{r:aG×Bool}{k2:Int->Int->ah->bR->bD->b9->aJ->Option (aG×Bool)}(zf:∀(yS:Int) (nH:Int) (HP:ah) (zI:bR) (HQ:bD) (sw:b9) (HR:aJ),k2 yS nH HP zI HQ sw HR=some r->Ax Γ N f77 (.q [[some (105,4),some (3,1),some (111,3),some (118,8),some (53,2),none],[none]] (D.hY [D.agg [D.fr 105 4 (r.1.rules.map aK.c),D.fr 3 1 (r.1.ends.map gS),D.fr 111 3 (r.1.av.map aV.c),D.fr 118 8 (r.1.nodes.map Node.c),D.fr 53 2 (r.1.facts.map aC.c),D.int .i64 r.1.bn],D.bool r.2])) [1,1,1,0,1,0,0,1,0,0,1,1,1] ⟨[(0,D.sl (aB.map aK.c)),(2,D.ptr 0 0),(4,D.ptr 1 0),(5,D.int .i64 (i1:Int)),(6,D.int .i64 yS)],[Ob.box [D.nil,D.nil,D.nil,D.nil,D.nil,D.int .i64 0],Ob.box [D.acc 2,D.acc 3,D.acc 4,D.acc 5,D.acc 6,D.int .i64 nH],Ob.row .uq 105 4 (HP.map aK.c),Ob.row .uq 3 1 (zI.map gS),Ob.row .uq 111 3 (HQ.map aV.c),Ob.row .uq 118 8 (sw.map Node.c),Ob.row .uq 53 2 (HR.map aC.c)]⟩)(hm2:JA.length<=maxLen):∀(rest:ai) (i2:Nat) (qz:Int) (nI:Int) (AD:ah) (nQ:bR) (uA:bD) (uB:b9) (qJ:aJ),JA.drop i2=rest->gB aB i1 JA k2 rest i2 qz nI AD nQ uA uB qJ=some r->Ar Γ N f77 (.q [[some (105,4),some (3,1),some (111,3),some (118,8),some (53,2),none],[none]] (D.hY [D.agg [D.fr 105 4 (r.1.rules.map aK.c),D.fr 3 1 (r.1.ends.map gS),D.fr 111 3 (r.1.av.map aV.c),D.fr 118 8 (r.1.nodes.map Node.c),D.fr 53 2 (r.1.facts.map aC.c),D.int .i64 r.1.bn],D.bool r.2])) [1,1,1,0,1,0,0,1,0,0,1,1,0,1,0] (rest.length+1) (Bd aB i1 JA qz nI (AD.map aK.c) (nQ.map gS) (uA.map aV.c) (uB.map Node.c) (qJ.map aC.c) (i2:Int)):=by
 intro rest
 induction rest with
 |nil=>
  intro i2 qz nI AD nQ uA uB qJ hd2 h;rw[gB]at h;refine aP fun N2 ul sA=>?_
  exact((aT.ge aL.c hd2).a [.hl 5 [0,2,4,5,6] [0,1,3,4,5,6,7]]).ex hΓ ul (zf qz nI AD nQ uA uB qJ h)
 |cons k8 tf ih2=>
  intro i2 qz nI AD nQ uA uB qJ hd2 h;rw[gB]at h;refine aP fun N2 ul sA=>?_
  obtain⟨By,h212,h⟩:=aE h;exact((((((aT.lt aL.c hd2).i (nX aL.c 5 (dc hd2))).o 5 5 .uq (dK aL.c (dc hd2))).a [.gp [[some (105,4),some (3,1),some (111,3),some (118,8),some (53,2),none],[none],[none,none,none,none,none]] (cK By.1) (D.int .i64 By.2)]).w (show yc prog 133 (cK (⟨AD,nQ,uA,uB,qJ,nI⟩:aG)) (cK By.1) [D.int .i64 qz,D.agg (aL.c k8)] (D.int .i64 By.2)from by simpa only[bV,bH,cD,dG,ck]using Fc h212)).a [.cn [0,2,4,5,6,7,8] [0,1,2,8,9,10,11,12]]).ct hΓ sA (iS hd2 hm2) (ih2 (i2+1) By.2 By.1.bn By.1.rules By.1.ends By.1.av By.1.nodes By.1.facts (dn hd2) h)
theorem Af(hΓ:Γ.nt=50){aB:ah}{r:aG×Bool}{k1:Int->ah->bR->bD->b9->aJ->Option (aG×Bool)}(cc:∀(kN:Int) (qK:ah) (fC:bR) (zH:bD) (mC:b9) (oU:aJ),k1 kN qK fC zH mC oU=some r->Ax Γ N f77 (.q [[some (105,4),some (3,1),some (111,3),some (118,8),some (53,2),none],[none]] (D.hY [D.agg [D.fr 105 4 (r.1.rules.map aK.c),D.fr 3 1 (r.1.ends.map gS),D.fr 111 3 (r.1.av.map aV.c),D.fr 118 8 (r.1.nodes.map Node.c),D.fr 53 2 (r.1.facts.map aC.c),D.int .i64 r.1.bn],D.bool r.2])) [1,1,1,1] ⟨[(2,D.ptr 0 0),(4,D.ptr 1 0)],[Ob.box [D.nil,D.nil,D.nil,D.nil,D.nil,D.int .i64 0],Ob.box [D.acc 2,D.acc 3,D.acc 4,D.acc 5,D.acc 6,D.int .i64 kN],Ob.row .uq 105 4 (qK.map aK.c),Ob.row .uq 3 1 (fC.map gS),Ob.row .uq 111 3 (zH.map aV.c),Ob.row .uq 118 8 (mC.map Node.c),Ob.row .uq 53 2 (oU.map aC.c)]⟩)(hm1:aB.length<=maxLen):∀(rest:ah) (i1:Nat) (cz:Int) (fD:ah) (dW:bR) (kP:bD) (gW:b9) (oY:aJ),aB.drop i1=rest->gA aB k1 rest i1 cz fD dW kP gW oY=some r->Ar Γ N f77 (.q [[some (105,4),some (3,1),some (111,3),some (118,8),some (53,2),none],[none]] (D.hY [D.agg [D.fr 105 4 (r.1.rules.map aK.c),D.fr 3 1 (r.1.ends.map gS),D.fr 111 3 (r.1.av.map aV.c),D.fr 118 8 (r.1.nodes.map Node.c),D.fr 53 2 (r.1.facts.map aC.c),D.int .i64 r.1.bn],D.bool r.2])) [1,1,1,0,1,0] (rest.length+1) (rG aB cz (fD.map aK.c) (dW.map gS) (kP.map aV.c) (gW.map Node.c) (oY.map aC.c) (i1:Int)):=by
 intro rest
 induction rest with
 |nil=>
  intro i1 cz fD dW kP gW oY aq h;rw[gA]at h;refine aP fun N1 cC br=>?_
  exact((aT.ge aK.c aq).a [.hl 0 [2,4] [0,1,2,3,4,5,6]]).ex hΓ cC (cc cz fD dW kP gW oY h)
 |cons bL bz ih1=>
  intro i1 cz fD dW kP gW oY aq h;rw[gA]at h;refine aP fun N1 cC br=>?_
  obtain⟨JA,h183,h⟩:=aE h;obtain⟨h214,h⟩:=bQ h;refine((((aT.lt aK.c aq).l (az aK.c 4 (dc aq) rfl)).g (Bg h183)).a [.cn [0,2,4,5,6,7,8] [0,1,7,2,3,4,5,6]]).lp hΓ (Ag hΓ (fun yS nH HP zI HQ sw HR h=>?_) (bY h214) JA 0 0 cz fD dW kP gW oY rfl h);obtain⟨h213,h⟩:=bQ h;exact((aT.w (bh h213)).a [.cn [0,2,4,5] [0,1,2,8,4,5,6]]).cs hΓ br (rG aB nH (HP.map aK.c) ((zI.map gS)++([[D.int .i64 yS]])) (HQ.map aV.c) (sw.map Node.c) (HR.map aC.c) (IntKind.i64.wrap ((i1:Int)+1))) (by first| (simp only[iS aq hm1,mA]<;>rfl)| (simp only[iS aq hm1,mA,aC.c,aS.c,aL.c,Action.c,aK.c,aN.c,cX.c,aV.c,Node.c,aG.c,cg.c]<;>rfl)) (ih1 (i1+1) nH HP (zI++([yS])) HQ sw HR (dn aq) h)
theorem mF{aB:ah}{r:aG×Bool}(h:iv aB=some r):Good prog 77 [D.sl (aB.map aK.c)] (D.hY [D.agg [D.fr 105 4 (r.1.rules.map aK.c),D.fr 3 1 (r.1.ends.map gS),D.fr 111 3 (r.1.av.map aV.c),D.fr 118 8 (r.1.nodes.map Node.c),D.fr 53 2 (r.1.facts.map aC.c),D.int .i64 r.1.bn],D.bool r.2]):=by
 refine gd func77 [[some (105,4),some (3,1),some (111,3),some (118,8),some (53,2),none],[none]] 50 fun hr Γ hΓ=>?_
 rw[iv]at h;obtain⟨y1,h2,h⟩:=aE h;obtain⟨h3,h⟩|⟨h3,h⟩:=aM h
 ·cases h;exact((aT.g (xA h2)).b h3).ret hΓ
 ·obtain⟨y4,h5,h⟩:=aE h;refine((((aT.g (xA h2)).b h3).g (xF h5)).a [.pb 4 1 3 1,.pb 4 2 111 3,.pb 4 4 53 2,.cn [0,2,4,5] [0,4,1,5,6,3,7]]).Y8 hΓ (rG aB 0 (y4.map aK.c) ([]:List aQ) ([]:List aQ) ([[D.int .i64 (-1),D.int .i64 0,D.str ([]),D.sl ([]),D.str ([]),D.str ([]),D.int .i64 (-1),D.sl ([[D.sl ([]),D.sl ([])]])]]) ([]:List aQ) 0) (by first| (simp only[mA]<;>rfl)| (simp only[mA,aC.c,aS.c,aL.c,Action.c,aK.c,aN.c,cX.c,aV.c,Node.c,aG.c,cg.c]<;>rfl)) (Af hΓ (fun kN qK fC zH mC oU h=>?_) (by have:=(eN.sl (hr _ (aD (i:=0) rfl))).1;simpa using this) aB 0 0 y4 ([]:bR) ([]:bD) ([(⟨-1,(⟨0,(⟨[],[]⟩:aC),[],[]⟩:aL), -1,[(⟨[],[]⟩:aN)]⟩:Node)]) ([]:aJ) rfl h);cases h;exact aT.ret hΓ
def jy(aB:aG)(aU:aG)(k1:Option Bool):bD->Nat->Option Bool
 | [],i1=>(k1)
 |bL::bz,i1=>((lF aU.av (i1:Int)).bind fun x32=>((gy bL.shape x32.shape).bind fun Cr=>(bif !(Cr)then(some false)else(jy aB aU k1 bz (i1+1)))))
def gz(aB:aG)(aU:aG)(k2:Option Bool):b9->Nat->Option Bool
 | [],i2=>(k2)
 |k8::tf,i2=>((lF aU.nodes (i2:Int)).bind fun x73=>(bif (k8.parent:Int) != x73.parent then(some false)else(bif (k8.cQ:Int) != x73.cQ then(some false)else((nG k8.cond x73.cond).bind fun y77=>(bif !(y77)then(some false)else(gz aB aU k2 tf (i2+1)))))))
def hG(aB:aG)(aU:aG)(k3:Option Bool):bR->Nat->Option Bool
 | [],i3=>(k3)
 |Qi::On,i3=>((lF aU.ends (i3:Int)).bind fun x100=>(bif (Qi:Int) != x100 then(some false)else(hG aB aU k3 On (i3+1))))
def pU(aB:aG)(aU:aG):Option Bool:=(bif (((aB.av.map aV.c).length:Int):Int) != ((aU.av.map aV.c).length:Int)then(some false)else(bif (((aB.nodes.map Node.c).length:Int):Int) != ((aU.nodes.map Node.c).length:Int)then(some false)else(bif (((aB.ends.map gS).length:Int):Int) != ((aU.ends.map gS).length:Int)then(some false)else(jy aB aU (gz aB aU (hG aB aU (some true) aB.ends 0) aB.nodes 0) aB.av 0))))
def Du(aB:aG)(aU:aG)(cR:Int):St:=⟨[(2,D.ptr 0 0),(3,D.ptr 1 0),(5,D.int .i64 cR)],[Ob.box (aG.c aB),Ob.box (aG.c aU)]⟩
theorem Ci(hΓ:Γ.nt=123){aB:aG}{aU:aG}{r:Bool}{k1:Option Bool}(cc:k1=some r->Ax Γ N f85 (.q [[none]] (D.bool r)) [1,1,1] ⟨[(2,D.ptr 0 0),(3,D.ptr 1 0)],[Ob.box (aG.c aB),Ob.box (aG.c aU)]⟩)(hm1:aB.av.length<=maxLen):∀(rest:bD) (i1:Nat),aB.av.drop i1=rest->jy aB aU k1 rest i1=some r->Ar Γ N f85 (.q [[none]] (D.bool r)) [1,1,0,1,0] (rest.length+1) (Du aB aU (i1:Int)):=by
 intro rest
 induction rest with
 |nil=>
  intro i1 aq h;rw[jy]at h;refine aP fun N1 cC br=>?_
  exact((aT.ge aV.c aq).a [.hl 0 [2,3] [0,1]]).ex hΓ cC (cc h)
 |cons bL bz ih1=>
  intro i1 aq h;rw[jy]at h;refine aP fun N1 cC br=>?_
  obtain⟨x32,h33,h⟩:=aE h;obtain⟨Cr,h35,h⟩:=aE h;have wO:=(((((aT.lt aV.c aq).a [.n 12]).l (az aV.c 3 (dc aq) rfl)).l (eA aV.c 3 h33 rfl)).g (qt h35))
  obtain⟨h36,h⟩|⟨h36,h⟩:=aM h
  ·have h:=aI h;subst h;exact(wO.b h36).ret hΓ
  ·exact((wO.b h36).a [.cn [2,3,5] [0,1]]).ct hΓ br (iS aq hm1) (ih1 (i1+1) (dn aq) h)
def Dv(aB:aG)(aU:aG)(cR:Int):St:=⟨[(2,D.ptr 0 0),(3,D.ptr 1 0),(6,D.int .i64 cR)],[Ob.box (aG.c aB),Ob.box (aG.c aU)]⟩
theorem Cj(hΓ:Γ.nt=123){aB:aG}{aU:aG}{r:Bool}{k2:Option Bool}(zf:k2=some r->Ax Γ N f85 (.q [[none]] (D.bool r)) [1,1,1,1] ⟨[(2,D.ptr 0 0),(3,D.ptr 1 0)],[Ob.box (aG.c aB),Ob.box (aG.c aU)]⟩)(hm2:aB.nodes.length<=maxLen):∀(rest:b9) (i2:Nat),aB.nodes.drop i2=rest->gz aB aU k2 rest i2=some r->Ar Γ N f85 (.q [[none]] (D.bool r)) [1,1,1,0,1,0] (rest.length+1) (Dv aB aU (i2:Int)):=by
 intro rest
 induction rest with
 |nil=>
  intro i2 hd2 h;rw[gz]at h;refine aP fun N2 ul sA=>?_
  exact((aT.ge Node.c hd2).a [.hl 0 [2,3] [0,1]]).ex hΓ ul (zf h)
 |cons k8 tf ih2=>
  intro i2 hd2 h;rw[gz]at h;refine aP fun N2 ul sA=>?_
  obtain⟨x73,h74,h⟩:=aE h;have AA:=((((aT.lt Node.c hd2).a [.n 41]).l (az Node.c 8 (dc hd2) rfl)).l (eA Node.c 8 h74 rfl))
  obtain⟨h75,h⟩|⟨h75,h⟩:=aM h
  ·have h:=aI h;subst h;exact((AA.r 14 h75).T 16).ret hΓ
  ·have G0:=(((((AA.r 4 h75).l (az Node.c 8 (dc hd2) rfl)).r 6 h75).l (eA Node.c 8 h74 rfl)).r 4 h75)
   obtain⟨h76,h⟩|⟨h76,h⟩:=aM h
   ·have h:=aI h;subst h;exact((G0.r 15 h76).T 1).ret hΓ
   ·obtain⟨y77,h78,h⟩:=aE h;have KB:=(((((((G0.r 4 h76).l (az Node.c 8 (dc hd2) rfl)).r 6 h76).l (eA Node.c 8 h74 rfl)).r 3 h76).g (xE h78)).r 2 h76)
    obtain⟨h79,h⟩|⟨h79,h⟩:=aM h
    ·have h:=aI h;subst h;exact(KB.b h79).ret hΓ
    ·exact((KB.b h79).a [.cn [2,3,6] [0,1]]).ct hΓ sA (iS hd2 hm2) (ih2 (i2+1) (dn hd2) h)
def Dw(aB:aG)(aU:aG)(cR:Int):St:=⟨[(2,D.ptr 0 0),(3,D.ptr 1 0),(7,D.int .i64 cR)],[Ob.box (aG.c aB),Ob.box (aG.c aU)]⟩
theorem Ck(hΓ:Γ.nt=123){aB:aG}{aU:aG}{r:Bool}{k3:Option Bool}(Yd:k3=some r->Ax Γ N f85 (.q [[none]] (D.bool r)) [1,1,1,1,1] ⟨[],[]⟩)(RE:aB.ends.length<=maxLen):∀(rest:bR) (i3:Nat),aB.ends.drop i3=rest->hG aB aU k3 rest i3=some r->Ar Γ N f85 (.q [[none]] (D.bool r)) [1,1,1,1,0,1,0] (rest.length+1) (Dw aB aU (i3:Int)):=by
 intro rest
 induction rest with
 |nil=>
  intro i3 yL h;rw[hG]at h;refine aP fun N3 Sk Nv=>?_
  exact((aT.ge gS yL).a [.hl 0 [] []]).ex hΓ Sk (Yd h)
 |cons Qi On ih3=>
  intro i3 yL h;rw[hG]at h;refine aP fun N3 Sk Nv=>?_
  obtain⟨x100,h101,h⟩:=aE h;have B2:=((((aT.lt gS yL).a [.n 10]).l (az gS 1 (dc yL) rfl)).l (eA gS 1 h101 rfl))
  obtain⟨h102,h⟩|⟨h102,h⟩:=aM h
  ·have h:=aI h;subst h;exact(B2.b h102).ret hΓ
  ·exact((B2.b h102).a [.cn [2,3,7] [0,1]]).ct hΓ Nv (iS yL RE) (ih3 (i3+1) (dn yL) h)
theorem Bl{aB:aG}{aU:aG}{r:Bool}(h:pU aB aU=some r):Good prog 85 [D.agg (aG.c aB),D.agg (aG.c aU)] (D.bool r):=by
 refine gd func85 [[none]] 123 fun hr Γ hΓ=>?_
 rw[pU]at h;obtain⟨h1,h⟩|⟨h1,h⟩:=aM h
 ·have h:=aI h;subst h;exact((aT.r 8 h1).T 9).ret hΓ
 ·have It:=(aT.r 8 h1)
  obtain⟨h2,h⟩|⟨h2,h⟩:=aM h
  ·have h:=aI h;subst h;exact((It.r 8 h2).T 1).ret hΓ
  ·have A9:=(It.r 8 h2)
   obtain⟨h3,h⟩|⟨h3,h⟩:=aM h
   ·have h:=aI h;subst h;exact(A9.b h3).ret hΓ
   ·refine((A9.b h3).a [.cn [2,3,5] [0,1]]).lp hΓ (Ci hΓ (fun h=>?_) (by have:=(eN.sl (eN.agg (hr _ (aD (i:=0) rfl)) (.sl (aB.av.map aV.c)) (by simp))).1;simpa using this) aB.av 0 rfl h);refine(aT.a [.cn [2,3,6] [0,1]]).lp hΓ (Cj hΓ (fun h=>?_) (by have:=(eN.sl (eN.agg (hr _ (aD (i:=0) rfl)) (.sl (aB.nodes.map Node.c)) (by simp))).1;simpa using this) aB.nodes 0 rfl h);refine(aT.a [.cn [2,3,7] [0,1]]).lp hΓ (Ck hΓ (fun h=>?_) (by have:=(eN.sl (eN.agg (hr _ (aD (i:=0) rfl)) (.sl (aB.ends.map gS)) (by simp))).1;simpa using this) aB.ends 0 rfl h);have h:=aI h;subst h;exact aT.ret hΓ
def iw(aB:aR)(k1:Option Bool):aR->Nat->Option Bool
 | [],i1=>(k1)
 |bL::bz,i1=>((gT bL.var).bind fun Jy=>(bif !(Jy)then(some false)else((fA bL.value).bind fun y52=>(bif !(y52)then(some false)else(bif decide (((i1:Int):Int)>0)then((lF aB (IntKind.i64.wrap ((i1:Int)-1))).bind fun x56=>(bif !(Op.bytesLess x56.var bL.var)then(some false)else(iw aB k1 bz (i1+1))))else(iw aB k1 bz (i1+1)))))))
def jq(aB:aR):Option Bool:=(iw aB (some (decide ((((aB.map aS.c).length:Int):Int)<=6))) aB 0)
def FL(aB:aR)(cR:Int):St:=⟨[(0,D.sl (aB.map aS.c)),(3,D.int .i64 cR)],[]⟩
theorem Dg(hΓ:Γ.nt=47){aB:aR}{r:Bool}{k1:Option Bool}(cc:k1=some r->Ax Γ N f226 (.q [[none]] (D.bool r)) [1,1] ⟨[(0,D.sl (aB.map aS.c))],[]⟩)(hm1:aB.length<=maxLen):∀(rest:aR) (i1:Nat),aB.drop i1=rest->iw aB k1 rest i1=some r->Ar Γ N f226 (.q [[none]] (D.bool r)) [1,0,1,0] (rest.length+1) (FL aB (i1:Int)):=by
 intro rest
 induction rest with
 |nil=>
  intro i1 aq h;rw[iw]at h;refine aP fun N1 cC br=>?_
  exact((aT.ge aS.c aq).a [.hl 0 [0] []]).ex hΓ cC (cc h)
 |cons bL bz ih1=>
  intro i1 aq h;rw[iw]at h;refine aP fun N1 cC br=>?_
  obtain⟨Jy,h50,h⟩:=aE h;have uK:=((((aT.lt aS.c aq).a [.n 31]).l (az aS.c 2 (dc aq) rfl)).g (fY h50))
  obtain⟨h51,h⟩|⟨h51,h⟩:=aM h
  ·have h:=aI h;subst h;exact((((uK.r 8 h51).T 3).a [bF,bF,bF,bF,bF,bF,bF,bF,bF,bF,bF,bF]).T 3).ret hΓ
  ·obtain⟨y52,h53,h⟩:=aE h;have wO:=(((((uK.r 3 h51).l (az aS.c 2 (dc aq) rfl)).r 3 h51).g (eF h53)).r 2 h51)
   obtain⟨h54,h⟩|⟨h54,h⟩:=aM h
   ·have h:=aI h;subst h;exact((((wO.r 3 h54).a [bF,bF,bF,bF,bF,bF,bF,bF,bF,bF,bF,bF]).r 2 h54).T 1).ret hΓ
   ·have AA:=(wO.r 3 h54)
    obtain⟨h55,h⟩|⟨h55,h⟩:=aM h
    ·obtain⟨x56,h57,h⟩:=aE h;have G0:=((((((((AA.r 4 h55).l (eA aS.c 2 h57 rfl)).r 5 h55).l (az aS.c 2 (dc aq) rfl)).r 3 h55).b h54).b h55).b h54)
     obtain⟨h58,h⟩|⟨h58,h⟩:=aM h
     ·have h:=aI h;subst h;exact(G0.b h58).ret hΓ
     ·exact((G0.b h58).a [.cn [0,3] []]).ct hΓ br (iS aq hm1) (ih1 (i1+1) (dn aq) h)
    ·exact((((((AA.r 12 h55).b h54).b h55).b h54).F 1).a [.cn [0,3] []]).ct hΓ br (iS aq hm1) (ih1 (i1+1) (dn aq) h)
theorem lH{aB:aR}{r:Bool}(h:jq aB=some r):Good prog 226 [D.sl (aB.map aS.c)] (D.bool r):=by
 refine gd func226 [[none]] 47 fun hr Γ hΓ=>?_
 rw[jq]at h;refine(aT.a [.cn [0,3] []]).lp hΓ (Dg hΓ (fun h=>?_) (by have:=(eN.sl (hr _ (aD (i:=0) rfl))).1;simpa using this) aB 0 rfl h);cases h;exact aT.ret hΓ
def gU(aB:aR)(aU:Bytes)(k1:Option (Bytes×Bool)):aR->Nat->Option (Bytes×Bool)
 | [],i1=>(k1)
 |bL::bz,i1=>(bif (bL.var:Bytes)==aU then((gT aU).bind fun EP=>(bif EP then(some (bL.value,true))else(gU aB aU k1 bz (i1+1))))else(gU aB aU k1 bz (i1+1)))
def oP(aB:aR)(aU:Bytes):Option (Bytes×Bool):=((fA aU).bind fun y1=>(bif y1 then(some (aU,true))else(gU aB aU (some ([],false)) aB 0)))
def IE(aB:aR)(aU:Bytes)(cR:Int):St:=⟨[(0,D.sl (aB.map aS.c)),(1,D.str aU),(6,D.int .i64 cR)],[]⟩
theorem HB(hΓ:Γ.nt=32){aB:aR}{aU:Bytes}{r:Bytes×Bool}{k1:Option (Bytes×Bool)}(cc:k1=some r->Ax Γ N f163 (.q [[none],[none]] (D.hY [D.str r.1,D.bool r.2])) [1,1,1] ⟨[],[]⟩)(hm1:aB.length<=maxLen):∀(rest:aR) (i1:Nat),aB.drop i1=rest->gU aB aU k1 rest i1=some r->Ar Γ N f163 (.q [[none],[none]] (D.hY [D.str r.1,D.bool r.2])) [1,1,0,1,0] (rest.length+1) (IE aB aU (i1:Int)):=by
 intro rest
 induction rest with
 |nil=>
  intro i1 aq h;rw[gU]at h;refine aP fun N1 cC br=>?_
  exact((aT.ge aS.c aq).a [.hl 0 [] []]).ex hΓ cC (cc h)
 |cons bL bz ih1=>
  intro i1 aq h;rw[gU]at h;refine aP fun N1 cC br=>?_
  have kx:=((aT.lt aS.c aq).l (az aS.c 2 (dc aq) rfl))
  obtain⟨h28,h⟩|⟨h28,h⟩:=aM h
  ·obtain⟨EP,h30,h⟩:=aE h;have kM:=(((kx.r 2 h28).g (fY h30)).b h28)
   obtain⟨h31,h⟩|⟨h31,h⟩:=aM h
   ·cases h;exact((kM.b h31).l (az aS.c 2 (dc aq) rfl)).ret hΓ
   ·exact((kM.b h31).a [.cn [0,1,6] []]).ct hΓ br (iS aq hm1) (ih1 (i1+1) (dn aq) h)
  ·exact(((kx.r 3 h28).F 1).a [.cn [0,1,6] []]).ct hΓ br (iS aq hm1) (ih1 (i1+1) (dn aq) h)
theorem uV{aB:aR}{aU:Bytes}{r:Bytes×Bool}(h:oP aB aU=some r):Good prog 163 [D.sl (aB.map aS.c),D.str aU] (D.hY [D.str r.1,D.bool r.2]):=by
 refine gd func163 [[none],[none]] 32 fun hr Γ hΓ=>?_
 rw[oP]at h;obtain⟨y1,h2,h⟩:=aE h;obtain⟨h3,h⟩|⟨h3,h⟩:=aM h
 ·cases h;exact((aT.g (eF h2)).b h3).ret hΓ
 ·refine(((aT.g (eF h2)).b h3).a [.cn [0,1,6] []]).lp hΓ (HB hΓ (fun h=>?_) (by have:=(eN.sl (hr _ (aD (i:=0) rfl))).1;simpa using this) aB 0 rfl h);cases h;exact aT.ret hΓ
def l8(aB:aR)(aU:Bytes)(cL:Bytes)(k1:Bool->aR->Option aR):aR->Nat->Bool->aR->Option aR
 | [],i1,EN,bA=>(k1 EN bA)
 |bL::bz,i1,EN,bA=>(bif !(EN)then(bif !(Op.bytesLess bL.var aU||(bL.var:Bytes)==aU)then(bif room ((bA.map aS.c).length+([[D.str aU,D.str cL]]).length) 32 then(bif room (((bA.map aS.c)++([[D.str aU,D.str cL]])).length+([[D.str bL.var,D.str bL.value]]).length) 32 then(l8 aB aU cL k1 bz (i1+1) true ((bA++([(⟨aU,cL⟩:aS)]))++([bL])))else none)else none)else(bif room ((bA.map aS.c).length+([[D.str bL.var,D.str bL.value]]).length) 32 then(l8 aB aU cL k1 bz (i1+1) EN (bA++([bL])))else none))else(bif room ((bA.map aS.c).length+([[D.str bL.var,D.str bL.value]]).length) 32 then(l8 aB aU cL k1 bz (i1+1) EN (bA++([bL])))else none))
def vn(aB:aR)(aU:Bytes)(cL:Bytes):Option aR:=(l8 aB aU cL (fun(Y0:Bool) (bf:aR)=>(bif !(Y0)then(bif room ((bf.map aS.c).length+([[D.str aU,D.str cL]]).length) 32 then(some (bf++([(⟨aU,cL⟩:aS)])))else none)else(some bf))) aB 0 false ([]:aR))
def ux(aB:aR)(aU:Bytes)(cL:Bytes)(EN:Bool)(W1:List aQ)(cR:Int):St:=⟨[(0,D.sl (aB.map aS.c)),(1,D.str aU),(2,D.str cL),(7,D.acc 0),(8,D.bool EN),(9,D.int .i64 cR)],[Ob.row .uq 152 2 W1]⟩
theorem Jd(hΓ:Γ.nt=50){aB:aR}{aU:Bytes}{cL:Bytes}{r:aR}{k1:Bool->aR->Option aR}(cc:∀(Y0:Bool) (bf:aR),k1 Y0 bf=some r->Ax Γ N f164 (.q [[some (152,2)]] (D.fr 152 2 (r.map aS.c))) [1,1,1,1] ⟨[(1,D.str aU),(2,D.str cL),(7,D.acc 0),(8,D.bool Y0)],[Ob.row .uq 152 2 (bf.map aS.c)]⟩)(hm1:aB.length<=maxLen):∀(rest:aR) (i1:Nat) (EN:Bool) (bA:aR),aB.drop i1=rest->l8 aB aU cL k1 rest i1 EN bA=some r->Ar Γ N f164 (.q [[some (152,2)]] (D.fr 152 2 (r.map aS.c))) [1,1,1,0,1,0] (rest.length+1) (ux aB aU cL EN (bA.map aS.c) (i1:Int)):=by
 intro rest
 induction rest with
 |nil=>
  intro i1 EN bA aq h;rw[l8]at h;refine aP fun N1 cC br=>?_
  exact((aT.ge aS.c aq).a [.hl 0 [1,2,7,8] [0]]).ex hΓ cC (cc EN bA h)
 |cons bL bz ih1=>
  intro i1 EN bA aq h;rw[l8]at h;refine aP fun N1 cC br=>?_
  obtain⟨h48,h⟩|⟨h48,h⟩:=aM h
  ·have eH:=((((aT.lt aS.c aq).r 3 h48).l (az aS.c 2 (dc aq) rfl)).r 5 h48)
   obtain⟨h49,h⟩|⟨h49,h⟩:=aM h
   ·obtain⟨h50,h⟩:=bQ h;obtain⟨h51,h⟩:=bQ h;exact(((((eH.b h49).w (bh h50)).l (az aS.c 2 (dc aq) rfl)).w (bh h51)).a [.cn [0,1,2,7,8,9] [4]]).cs hΓ br (ux aB aU cL true (((bA.map aS.c)++([[D.str aU,D.str cL]]))++([[D.str bL.var,D.str bL.value]])) (IntKind.i64.wrap ((i1:Int)+1))) (by first| (simp only[iS aq hm1,mA]<;>rfl)| (simp only[iS aq hm1,mA,aC.c,aS.c,aL.c,Action.c,aK.c,aN.c,cX.c,aV.c,Node.c,aG.c,cg.c]<;>rfl)) (ih1 (i1+1) true ((bA++([(⟨aU,cL⟩:aS)]))++([bL])) (dn aq) h)
   ·obtain⟨h52,h⟩:=bQ h;exact((((eH.b h49).l (az aS.c 2 (dc aq) rfl)).w (bh h52)).a [.cn [0,1,2,7,8,9] [2]]).cs hΓ br (ux aB aU cL EN ((bA.map aS.c)++([[D.str bL.var,D.str bL.value]])) (IntKind.i64.wrap ((i1:Int)+1))) (by first| (simp only[iS aq hm1,mA]<;>rfl)| (simp only[iS aq hm1,mA,aC.c,aS.c,aL.c,Action.c,aK.c,aN.c,cX.c,aV.c,Node.c,aG.c,cg.c]<;>rfl)) (ih1 (i1+1) EN (bA++([bL])) (dn aq) h)
  ·obtain⟨h53,h⟩:=bQ h;exact((((((aT.lt aS.c aq).r 8 h48).F 1).l (az aS.c 2 (dc aq) rfl)).w (bh h53)).a [.cn [0,1,2,7,8,9] [2]]).cs hΓ br (ux aB aU cL EN ((bA.map aS.c)++([[D.str bL.var,D.str bL.value]])) (IntKind.i64.wrap ((i1:Int)+1))) (by first| (simp only[iS aq hm1,mA]<;>rfl)| (simp only[iS aq hm1,mA,aC.c,aS.c,aL.c,Action.c,aK.c,aN.c,cX.c,aV.c,Node.c,aG.c,cg.c]<;>rfl)) (ih1 (i1+1) EN (bA++([bL])) (dn aq) h)
theorem II{aB:aR}{aU:Bytes}{cL:Bytes}{r:aR}(h:vn aB aU cL=some r):Good prog 164 [D.sl (aB.map aS.c),D.str aU,D.str cL] (D.fr 152 2 (r.map aS.c)):=by
 refine gd func164 [[some (152,2)]] 50 fun hr Γ hΓ=>?_
 rw[vn]at h;refine(aT.a [.cn [0,1,2,7,8,9] [0]]).lp hΓ (Jd hΓ (fun Y0 bf h=>?_) (by have:=(eN.sl (hr _ (aD (i:=0) rfl))).1;simpa using this) aB 0 false ([]:aR) rfl h);obtain⟨h54,h⟩|⟨h54,h⟩:=aM h
 ·obtain⟨h55,h⟩:=bQ h;cases h;exact((aT.b h54).w (bh h55)).rts hΓ (D.fr 152 2 ((bf.map aS.c)++([[D.str aU,D.str cL]]))) (by first|rfl| (simp only[mA]<;>rfl)| (simp only[cK,mA]<;>rfl))
 ·have h:=aI h;subst h;exact(aT.b h54).ret hΓ
def sR(aB:aR)(aU:Bytes)(cL:Bytes):Option (aR×Bool):=((jq aB).bind fun y1=>(bif !(y1)then(some (([]:aR),false))else((gT aU).bind fun y4=>(bif !(y4)then(some (([]:aR),false))else((fA cL).bind fun y7=>(bif !(y7)then(some (([]:aR),false))else((oP aB aU).bind fun Qj=>(bif Qj.2 then(bif (Qj.1:Bytes)==cL then((qF aB).bind fun Qb=>(some (Qb,true)))else(some (([]:aR),false)))else(bif (((aB.map aS.c).length:Int):Int)==6 then(some (([]:aR),false))else((vn aB aU cL).bind fun Ot=>(some (Ot,true))))))))))))
theorem Gu{aB:aR}{aU:Bytes}{cL:Bytes}{r:aR×Bool}(h:sR aB aU cL=some r):Good prog 228 [D.sl (aB.map aS.c),D.str aU,D.str cL] (D.hY [D.fr 152 2 (r.1.map aS.c),D.bool r.2]):=by
 refine gd func228 [[some (152,2)],[none]] 49 fun hr Γ hΓ=>?_
 rw[sR]at h;obtain⟨y1,h2,h⟩:=aE h;obtain⟨h3,h⟩|⟨h3,h⟩:=aM h
 ·cases h;exact(((aT.g (lH h2)).r 4 h3).T 5).ret hΓ
 ·obtain⟨y4,h5,h⟩:=aE h;have mQ:=((((aT.g (lH h2)).r 2 h3).g (fY h5)).r 2 h3)
  obtain⟨h6,h⟩|⟨h6,h⟩:=aM h
  ·cases h;exact((mQ.r 4 h6).T 1).ret hΓ
  ·obtain⟨y7,h8,h⟩:=aE h;have eH:=(((mQ.r 2 h6).g (eF h8)).r 2 h6)
   obtain⟨h9,h⟩|⟨h9,h⟩:=aM h
   ·cases h;exact(eH.b h9).ret hΓ
   ·obtain⟨Qj,h11,h⟩:=aE h;have kx:=((eH.b h9).g (uV h11))
    obtain⟨h12,h⟩|⟨h12,h⟩:=aM h
    ·have kM:=(kx.r 4 h12)
     obtain⟨h13,h⟩|⟨h13,h⟩:=aM h
     ·obtain⟨Qb,h15,h⟩:=aE h;cases h;exact((kM.b h13).g (vE h15)).ret hΓ
     ·cases h;exact(((kM.b h13).r 4 h12).T 1).ret hΓ
    ·have uK:=(((kx.r 4 h12).F 1).r 4 h12)
     obtain⟨h16,h⟩|⟨h16,h⟩:=aM h
     ·cases h;exact(uK.b h16).ret hΓ
     ·obtain⟨Ot,h18,h⟩:=aE h;cases h;exact((uK.b h16).g (II h18)).ret hΓ
def j0(aB:aC)(aU:aC)(k1:aR->Option (aR×Bool)):aH->Nat->aR->Option (aR×Bool)
 | [],i1,fD=>(k1 fD)
 |bL::bz,i1,fD=>((fA bL).bind fun y80=>(bif y80 then((lF aU.args (i1:Int)).bind fun x83=>(bif !((bL:Bytes)==x83)then(some (([]:aR),false))else(j0 aB aU k1 bz (i1+1) fD)))else((lF aU.args (i1:Int)).bind fun x86=>((sR fD bL x86).bind fun Zm=>(bif !(Zm.2)then(some (([]:aR),false))else(j0 aB aU k1 bz (i1+1) Zm.1))))))
def iP(aB:aC)(aU:aC)(cL:aR):Option (aR×Bool):=((iO aB).bind fun y1=>(bif !(y1)then(some (([]:aR),false))else((nh aU).bind fun y4=>(bif !(y4)then(some (([]:aR),false))else((jq cL).bind fun y7=>(bif !(y7)then(some (([]:aR),false))else(bif !((aB.rel:Bytes)==aU.rel)then(some (([]:aR),false))else(bif (((aB.args.map tx).length:Int):Int) != ((aU.args.map tx).length:Int)then(some (([]:aR),false))else((qF cL).bind fun YC=>(j0 aB aU (fun(bf:aR)=>(some (bf,true))) aB.args 0 YC))))))))))
def FP(aB:aC)(aU:aC)(W0:List aQ)(cR:Int):St:=⟨[(3,D.ptr 0 0),(4,D.ptr 1 0),(8,D.acc 2),(9,D.int .i64 cR)],[Ob.box (aC.c aB),Ob.box (aC.c aU),Ob.row .uq 152 2 W0]⟩
theorem Dk(hΓ:Γ.nt=89){aB:aC}{aU:aC}{r:aR×Bool}{k1:aR->Option (aR×Bool)}(cc:∀(bf:aR),k1 bf=some r->Ax Γ N f151 (.q [[some (152,2)],[none]] (D.hY [D.fr 152 2 (r.1.map aS.c),D.bool r.2])) [1,1,1,1] ⟨[(8,D.acc 0)],[Ob.row .uq 152 2 (bf.map aS.c)]⟩)(hm1:aB.args.length<=maxLen):∀(rest:aH) (i1:Nat) (fD:aR),aB.args.drop i1=rest->j0 aB aU k1 rest i1 fD=some r->Ar Γ N f151 (.q [[some (152,2)],[none]] (D.hY [D.fr 152 2 (r.1.map aS.c),D.bool r.2])) [1,1,1,0,1,0] (rest.length+1) (FP aB aU (fD.map aS.c) (i1:Int)):=by
 intro rest
 induction rest with
 |nil=>
  intro i1 fD aq h;rw[j0]at h;refine aP fun N1 cC br=>?_
  exact((aT.ge tx aq).a [.hl 0 [8] [2]]).ex hΓ cC (cc fD h)
 |cons bL bz ih1=>
  intro i1 fD aq h;rw[j0]at h;refine aP fun N1 cC br=>?_
  obtain⟨y80,h81,h⟩:=aE h;have kM:=(((aT.lt tx aq).l (az tx 1 (dc aq) rfl)).g (eF h81))
  obtain⟨h82,h⟩|⟨h82,h⟩:=aM h
  ·obtain⟨x83,h84,h⟩:=aE h;have uK:=((((kM.b h82).a [.n 10]).l (az tx 1 (dc aq) rfl)).l (eA tx 1 h84 rfl))
   obtain⟨h85,h⟩|⟨h85,h⟩:=aM h
   ·cases h;exact(uK.b h85).ret hΓ
   ·exact((uK.b h85).a [.cn [3,4,8,9] [0,1,2]]).ct hΓ br (iS aq hm1) (ih1 (i1+1) fD (dn aq) h)
  ·obtain⟨x86,h87,h⟩:=aE h;obtain⟨Zm,h89,h⟩:=aE h;have wO:=(((((kM.b h82).a [.n 16]).l (az tx 1 (dc aq) rfl)).l (eA tx 1 h87 rfl)).g (Gu h89))
   obtain⟨h90,h⟩|⟨h90,h⟩:=aM h
   ·cases h;exact(wO.b h90).ret hΓ
   ·exact((wO.b h90).a [.cn [3,4,8,9] [0,1,3]]).ct hΓ br (iS aq hm1) (ih1 (i1+1) Zm.1 (dn aq) h)
theorem oh{aB:aC}{aU:aC}{cL:aR}{r:aR×Bool}(h:iP aB aU cL=some r):Good prog 151 [D.agg (aC.c aB),D.agg (aC.c aU),D.sl (cL.map aS.c)] (D.hY [D.fr 152 2 (r.1.map aS.c),D.bool r.2]):=by
 refine gd func151 [[some (152,2)],[none]] 89 fun hr Γ hΓ=>?_
 rw[iP]at h;obtain⟨y1,h2,h⟩:=aE h;obtain⟨h3,h⟩|⟨h3,h⟩:=aM h
 ·cases h;exact(((aT.g (jD h2)).r 4 h3).T 19).ret hΓ
 ·obtain⟨y4,h5,h⟩:=aE h;have AA:=((((aT.g (jD h2)).r 2 h3).g (vD h5)).r 2 h3)
  obtain⟨h6,h⟩|⟨h6,h⟩:=aM h
  ·cases h;exact((AA.r 4 h6).T 15).ret hΓ
  ·obtain⟨y7,h8,h⟩:=aE h;have G0:=(((AA.r 2 h6).g (lH h8)).r 2 h6)
   obtain⟨h9,h⟩|⟨h9,h⟩:=aM h
   ·cases h;exact((G0.r 6 h9).T 9).ret hΓ
   ·have KB:=(G0.r 6 h9)
    obtain⟨h10,h⟩|⟨h10,h⟩:=aM h
    ·cases h;exact((KB.r 8 h10).T 1).ret hΓ
    ·have B2:=(KB.r 8 h10)
     obtain⟨h11,h⟩|⟨h11,h⟩:=aM h
     ·cases h;exact(B2.b h11).ret hΓ
     ·obtain⟨YC,h13,h⟩:=aE h;refine(((B2.b h11).g (vE h13)).a [.cn [3,4,8,9] [0,1,2]]).lp hΓ (Dk hΓ (fun bf h=>?_) (by have:=(eN.sl (eN.agg (hr _ (aD (i:=0) rfl)) (.sl (aB.args.map tx)) (by simp))).1;simpa using this) aB.args 0 YC rfl h);cases h;exact aT.ret hΓ
def fU(aB:aC)(aU:aR)(cL:aJ)(k1:aJ->Option aJ):aJ->Nat->aJ->Option aJ
 | [],i1,bW=>(k1 bW)
 |bL::bz,i1,bW=>((iP aB bL aU).bind fun Xz=>(bif Xz.2 then((eS bL).bind fun GB=>(bif room ((bW.map aC.c).length+([[D.str GB.rel,D.sl (GB.args.map tx)]]).length) 40 then(fU aB aU cL k1 bz (i1+1) (bW++([GB])))else none))else(fU aB aU cL k1 bz (i1+1) bW)))
def fm(aB:aC)(aU:aR)(cL:aJ):Option aJ:=(fU aB aU cL (fun(bf:aJ)=>(some bf)) cL 0 ([]:aJ))
def vN(aB:aC)(aU:aR)(cL:aJ)(W0:List aQ)(cR:Int):St:=⟨[(1,D.sl (aU.map aS.c)),(2,D.sl (cL.map aC.c)),(3,D.ptr 0 0),(7,D.acc 1),(8,D.int .i64 cR)],[Ob.box (aC.c aB),Ob.row .uq 53 2 W0]⟩
theorem zy(hΓ:Γ.nt=38){aB:aC}{aU:aR}{cL:aJ}{r:aJ}{k1:aJ->Option aJ}(cc:∀(bf:aJ),k1 bf=some r->Ax Γ N f87 (.q [[some (53,2)]] (D.fr 53 2 (r.map aC.c))) [1,1,1] ⟨[(7,D.acc 0)],[Ob.row .uq 53 2 (bf.map aC.c)]⟩)(hm1:cL.length<=maxLen):∀(rest:aJ) (i1:Nat) (bW:aJ),cL.drop i1=rest->fU aB aU cL k1 rest i1 bW=some r->Ar Γ N f87 (.q [[some (53,2)]] (D.fr 53 2 (r.map aC.c))) [1,1,0,1,0] (rest.length+1) (vN aB aU cL (bW.map aC.c) (i1:Int)):=by
 intro rest
 induction rest with
 |nil=>
  intro i1 bW aq h;rw[fU]at h;refine aP fun N1 cC br=>?_
  exact((aT.ge aC.c aq).a [.hl 0 [7] [1]]).ex hΓ cC (cc bW h)
 |cons bL bz ih1=>
  intro i1 bW aq h;rw[fU]at h;refine aP fun N1 cC br=>?_
  obtain⟨Xz,h43,h⟩:=aE h;have eH:=((((aT.lt aC.c aq).a [.n 11]).l (az aC.c 2 (dc aq) rfl)).g (oh h43))
  obtain⟨h44,h⟩|⟨h44,h⟩:=aM h
  ·obtain⟨GB,h46,h⟩:=aE h;obtain⟨h47,h⟩:=bQ h;exact(((((eH.b h44).l (az aC.c 2 (dc aq) rfl)).g (gE h46)).w (bh h47)).a [.cn [1,2,3,7,8] [0,5]]).cs hΓ br (vN aB aU cL ((bW.map aC.c)++([[D.str GB.rel,D.sl (GB.args.map tx)]])) (IntKind.i64.wrap ((i1:Int)+1))) (by first| (simp only[iS aq hm1,mA]<;>rfl)| (simp only[iS aq hm1,mA,aC.c,aS.c,aL.c,Action.c,aK.c,aN.c,cX.c,aV.c,Node.c,aG.c,cg.c]<;>rfl)) (ih1 (i1+1) (bW++([GB])) (dn aq) h)
  ·exact((eH.b h44).a [.cn [1,2,3,7,8] [0,1]]).ct hΓ br (iS aq hm1) (ih1 (i1+1) bW (dn aq) h)
theorem fp{aB:aC}{aU:aR}{cL:aJ}{r:aJ}(h:fm aB aU cL=some r):Good prog 87 [D.agg (aC.c aB),D.sl (aU.map aS.c),D.sl (cL.map aC.c)] (D.fr 53 2 (r.map aC.c)):=by
 refine gd func87 [[some (53,2)]] 38 fun hr Γ hΓ=>?_
 rw[fm]at h;refine(aT.a [.cn [1,2,3,7,8] [0,1]]).lp hΓ (zy hΓ (fun bf h=>?_) (by have:=(eN.sl (hr _ (aD (i:=2) rfl))).1;simpa using this) cL 0 ([]:aJ) rfl h);have h:=aI h;subst h;exact aT.ret hΓ
def kw(aB:aJ)(aU:aJ)(k1:Option Bool):aJ->Nat->Option Bool
 | [],i1=>(k1)
 |bL::bz,i1=>((lF aU (i1:Int)).bind fun x30=>((qE bL x30).bind fun JB=>(bif !(JB)then(some false)else(kw aB aU k1 bz (i1+1)))))
def lW(aB:aJ)(aU:aJ):Option Bool:=(bif (((aB.map aC.c).length:Int):Int) != ((aU.map aC.c).length:Int)then(some false)else(kw aB aU (some true) aB 0))
def FW(aB:aJ)(aU:aJ)(cR:Int):St:=⟨[(0,D.sl (aB.map aC.c)),(1,D.sl (aU.map aC.c)),(5,D.int .i64 cR)],[]⟩
theorem Dp(hΓ:Γ.nt=27){aB:aJ}{aU:aJ}{r:Bool}{k1:Option Bool}(cc:k1=some r->Ax Γ N f86 (.q [[none]] (D.bool r)) [1,1,1] ⟨[],[]⟩)(hm1:aB.length<=maxLen):∀(rest:aJ) (i1:Nat),aB.drop i1=rest->kw aB aU k1 rest i1=some r->Ar Γ N f86 (.q [[none]] (D.bool r)) [1,1,0,1,0] (rest.length+1) (FW aB aU (i1:Int)):=by
 intro rest
 induction rest with
 |nil=>
  intro i1 aq h;rw[kw]at h;refine aP fun N1 cC br=>?_
  exact((aT.ge aC.c aq).a [.hl 0 [] []]).ex hΓ cC (cc h)
 |cons bL bz ih1=>
  intro i1 aq h;rw[kw]at h;refine aP fun N1 cC br=>?_
  obtain⟨x30,h31,h⟩:=aE h;obtain⟨JB,h33,h⟩:=aE h;have eH:=(((((aT.lt aC.c aq).a [.n 8]).l (az aC.c 2 (dc aq) rfl)).l (eA aC.c 2 h31 rfl)).g (yz h33))
  obtain⟨h34,h⟩|⟨h34,h⟩:=aM h
  ·have h:=aI h;subst h;exact(eH.b h34).ret hΓ
  ·exact((eH.b h34).a [.cn [0,1,5] []]).ct hΓ br (iS aq hm1) (ih1 (i1+1) (dn aq) h)
theorem wN{aB:aJ}{aU:aJ}{r:Bool}(h:lW aB aU=some r):Good prog 86 [D.sl (aB.map aC.c),D.sl (aU.map aC.c)] (D.bool r):=by
 refine gd func86 [[none]] 27 fun hr Γ hΓ=>?_
 rw[lW]at h;obtain⟨h1,h⟩|⟨h1,h⟩:=aM h
 ·have h:=aI h;subst h;exact(aT.b h1).ret hΓ
 ·refine((aT.b h1).a [.cn [0,1,5] []]).lp hΓ (Dp hΓ (fun h=>?_) (by have:=(eN.sl (hr _ (aD (i:=0) rfl))).1;simpa using this) aB 0 rfl h);have h:=aI h;subst h;exact aT.ret hΓ
end Go.Cx
