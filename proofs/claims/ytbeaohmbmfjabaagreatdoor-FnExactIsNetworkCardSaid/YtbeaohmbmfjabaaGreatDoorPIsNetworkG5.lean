/- What functions of the program compute, and the walks that show it. No condition. -/
import Derived.Test.YtbeaohmbmfjabaaGreatDoorPIsNetworkG4
namespace Go.Cx
open Go.RowKit Go.Proofs
set_option linter.unusedVariables false
set_option linter.unusedSimpArgs false
set_option maxRecDepth 100000
variable{Γ:uK}{N:Nat→St→Prop}
def fI(aA:Bytes)(aM:List aH)(k1:Option Bytes):List aH→Nat→Option Bytes
 | [],i1=>(k1)
 |aS::aX,i1=>(bif (aS.var:Bytes)==(aA)then(some (aS.value))else(fI aA aM k1 aX (i1+1)))
def gT(aA:Bytes)(aM:List aH):Option Bytes:=(fI aA aM (some (aA)) (aM) 0)
def JN(aA:Bytes)(aM:List aH)(bB:Int):St:=⟨[(0,D.str (aA)),(1,D.sl ((aM).map aH.c)),(5,D.int .i64 (bB))],[]⟩
theorem GH(hΓ:Γ.nt=25){aA:Bytes}{aM:List aH}{r:Bytes}{k1:Option Bytes}(bE:k1=some r→Ax Γ N Tryz.f242 (.q [[none]] (D.str (r))) [1,1] ⟨[(0,D.str (aA))],[]⟩)(hm1:(aM).length≤maxLen):∀(rest:List aH) (i1:Nat),(aM).drop i1=rest→fI aA aM k1 rest i1=some r→Ar Γ N Tryz.f242 (.q [[none]] (D.str (r))) [1,0,1,0] (rest.length+1) (JN aA aM ((i1:Int))):=by
 intro rest
 induction rest with
 |nil=>
  intro i1 aO h
  rw[fI]at h
  refine aJ fun N1 aY aV=>?_
  exact((aK.ge aH.c aO).a [.hl 0 [0] []]).ex hΓ aY (bE h)
 |cons aS aX ih1=>
  intro i1 aO h
  rw[fI]at h
  refine aJ fun N1 aY aV=>?_
  have bO:=((aK.lt aH.c aO).l (aQ aH.c 2 (dc aO) rfl))
  obtain⟨h13,h⟩|⟨h13,h⟩:=aE h
  ·cases h;exact((bO.b h13).l (aQ aH.c 2 (dc aO) rfl)).ret hΓ
  ·exact((bO.b h13).a [.cn [0,1,5] []]).ct hΓ aV (iS aO hm1) (ih1 (i1+1) (dn aO) h)
theorem sQ{aA:Bytes}{aM:List aH}{r:Bytes}(h:gT aA aM=some r):Good Tryz.prog 242 [D.str (aA),D.sl ((aM).map aH.c)] (D.str (r)):=by
 refine gd Tryz.func242 [[none]] 25 fun hr Γ hΓ=>?_
 rw[gT]at h
 refine(aK.a [.cn [0,1,5] []]).lp hΓ (GH hΓ (fun h=>?_) (by have:=(bR.sl (hr _ (List.mem_of_getElem? (i:=1) rfl))).1;simpa using this) (aM) 0 rfl h)
 have h:=aC h;subst h;exact aK.ret hΓ
def gU(aA:aF)(aM:List aH)(y1:Bytes)(y3:Bytes)(k1:List Bytes→Option aF):List Bytes→Nat→List Bytes→Option aF
 | [],i1,dL=>(k1 (dL))
 |aS::aX,i1,dL=>((gT (aS) (aM)).bind fun y31=>(bif room (((dL).map tx).length+([[D.str (y31)]]).length) 16 then(gU aA aM y1 y3 k1 aX (i1+1) ((dL)++([y31])))else none))
def fV(aA:aF)(aM:List aH):Option aF:=((gT (aA.left) (aM)).bind fun y1=>((gT (aA.right) (aM)).bind fun y3=>(gU aA aM y1 y3 (fun(vZ:List Bytes)=>(some ((⟨aA.kind,(⟨aA.pat.rel,vZ⟩:aD),y1,y3⟩:aF)))) (aA.pat.args) 0 (([]:List Bytes)))))
def xS(aA:aF)(aM:List aH)(y1:Bytes)(y3:Bytes)(W0:List (List D))(bB:Int):St:=⟨[(1,D.sl ((aM).map aH.c)),(2,D.ptr 0 0),(4,D.ptr 1 0),(5,D.ptr 2 0),(6,D.int .i64 (bB))],[Ob.box (aF.c aA),Ob.box [D.int .i64 (0),D.str ([]),D.nil,D.str ([]),D.str ([])],Ob.box [D.int .i64 (aA.kind),D.str (aA.pat.rel),D.acc 3,D.str (y1),D.str (y3)],Ob.row .uq 9 1 (W0)]⟩
theorem EJ(hΓ:Γ.nt=46){aA:aF}{aM:List aH}{y1:Bytes}{y3:Bytes}{r:aF}{k1:List Bytes→Option aF}(bE:∀(vZ:List Bytes),k1 vZ=some r→Ax Γ N Tryz.f177 (.q [[none,none,some (9,1),none,none]] (D.agg [D.int .i64 (r.kind),D.str (r.pat.rel),D.fr 9 1 ((r.pat.args).map tx),D.str (r.left),D.str (r.right)])) [1,1,1] ⟨[(4,D.ptr 0 0),(5,D.ptr 1 0)],[Ob.box [D.int .i64 (0),D.str ([]),D.nil,D.str ([]),D.str ([])],Ob.box [D.int .i64 (aA.kind),D.str (aA.pat.rel),D.acc 2,D.str (y1),D.str (y3)],Ob.row .uq 9 1 ((vZ).map tx)]⟩)(hm1:(aA.pat.args).length≤maxLen):∀(rest:List Bytes) (i1:Nat) (dL:List Bytes),(aA.pat.args).drop i1=rest→gU aA aM y1 y3 k1 rest i1 dL=some r→Ar Γ N Tryz.f177 (.q [[none,none,some (9,1),none,none]] (D.agg [D.int .i64 (r.kind),D.str (r.pat.rel),D.fr 9 1 ((r.pat.args).map tx),D.str (r.left),D.str (r.right)])) [1,1,0,1,0] (rest.length+1) (xS aA aM y1 y3 ((dL).map tx) ((i1:Int))):=by
 intro rest
 induction rest with
 |nil=>
  intro i1 dL aO h
  rw[gU]at h
  refine aJ fun N1 aY aV=>?_
  exact((aK.ge tx aO).a [.hl 0 [4,5] [1,2,3]]).ex hΓ aY (bE (dL) h)
 |cons aS aX ih1=>
  intro i1 dL aO h
  rw[gU]at h
  refine aJ fun N1 aY aV=>?_
  obtain⟨y31,h32,h⟩:=aB h
  obtain⟨h33,h⟩:=aU h
  exact((((((aK.lt tx aO).a [.n 12]).l (aQ tx 1 (dc aO) rfl)).g (sQ h32)).w (aZ h33)).a [.cn [1,2,4,5,6] [0,1,2,5]]).cs hΓ aV (xS aA aM y1 y3 (((dL).map tx)++([[D.str (y31)]])) (IntKind.i64.wrap (((i1:Int))+(1)))) (by first| (simp only[iS aO hm1,mA]<;>rfl)| (simp only[iS aO hm1,mA,aD.c,aH.c,aF.c,Action.c,aI.c,aL.c,bH.c,aN.c,Node.c,aG.c,bI.c]<;>rfl)) (ih1 (i1+1) ((dL)++([y31])) (dn aO) h)
theorem eU{aA:aF}{aM:List aH}{r:aF}(h:fV aA aM=some r):Good Tryz.prog 177 [D.agg (aF.c aA),D.sl ((aM).map aH.c)] (D.agg [D.int .i64 (r.kind),D.str (r.pat.rel),D.fr 9 1 ((r.pat.args).map tx),D.str (r.left),D.str (r.right)]):=by
 refine gd Tryz.func177 [[none,none,some (9,1),none,none]] 46 fun hr Γ hΓ=>?_
 rw[fV]at h
 obtain⟨y1,h2,h⟩:=aB h
 obtain⟨y3,h4,h⟩:=aB h
 refine((((aK.a [.n 16]).g (sQ h2)).g (sQ h4)).a [.pb 2 2 9 1,.cn [1,2,4,5,6] [0,1,2,3]]).lp hΓ (EJ hΓ (fun vZ h=>?_) (by have:=(bR.sl (bR.agg (hr _ (List.mem_of_getElem? (i:=0) rfl)) (.sl ((aA.pat.args).map tx)) (by simp))).1;simpa using this) (aA.pat.args) 0 (([]:List Bytes)) rfl h)
 cases h;exact aK.ret hΓ
def mY(aA:aF):Option aF:=((fV (aA) ([])).bind fun y1=>(some (y1)))
theorem qY{aA:aF}{r:aF}(h:mY aA=some r):Good Tryz.prog 105 [D.agg (aF.c aA)] (D.agg [D.int .i64 (r.kind),D.str (r.pat.rel),D.fr 9 1 ((r.pat.args).map tx),D.str (r.left),D.str (r.right)]):=by
 refine gd Tryz.func105 [[none,none,some (9,1),none,none]] 5 fun hr Γ hΓ=>?_
 rw[mY]at h
 obtain⟨y1,h2,h⟩:=aB h
 have h:=aC h;subst h;exact((aK.a [.d (D.agg [D.int .i64 (y1.kind),D.str (y1.pat.rel),D.fr 9 1 ((y1.pat.args).map tx),D.str (y1.left),D.str (y1.right)])]).w (show Good Tryz.prog 177 [D.agg (aF.c (aA)),D.sl ([])] (D.agg [D.int .i64 (y1.kind),D.str (y1.pat.rel),D.fr 9 1 ((y1.pat.args).map tx),D.str (y1.left),D.str (y1.right)])from by first| (simpa only[List.map_append,List.map_cons,List.map_nil,List.map_drop,List.map_take]using eU h2)|exact eU h2)).ret hΓ
def q9(aA:List Bytes):Option (List Bytes):=(bif room ((([]:List (List D))).length+((aA).map tx).length) 16 then(some ((([]:List Bytes))++(aA)))else none)
theorem zD{aA:List Bytes}{r:List Bytes}(h:q9 aA=some r):Good Tryz.prog 176 [D.sl ((aA).map tx)] (D.fr 9 1 ((r).map tx)):=by
 refine gd Tryz.func176 [[some (9,1)]] 6 fun hr Γ hΓ=>?_
 rw[q9]at h
 obtain⟨h1,h⟩:=aU h
 cases h;exact(((aK.w (aZ h1)).w (show(∀r∈((aA).map tx),r.length=1)∧(true=true→D.pN ((aA).map tx)=true)from⟨by first|simp| (intro r hr;obtain⟨x,_,rfl⟩:=List.mem_map.1 (List.mem_of_mem_take (List.mem_of_mem_drop hr));rfl),by simp[D.pN,D.flat]⟩)).a [.VP 2,.fl true]).rts hΓ (D.fr 9 1 ((([]:List (List D)))++((aA).map tx))) (by first|rfl| (simp only[mA]<;>rfl))
def dZ(aA:aD):Option aD:=((q9 (aA.args)).bind fun y1=>(some ((⟨aA.rel,y1⟩:aD))))
theorem BB{aA:aD}{r:aD}(h:dZ aA=some r):Good Tryz.prog 104 [D.agg (aD.c aA)] (D.agg [D.str (r.rel),D.fr 9 1 ((r.args).map tx)]):=by
 refine gd Tryz.func104 [[none,some (9,1)]] 9 fun hr Γ hΓ=>?_
 rw[dZ]at h
 obtain⟨y1,h2,h⟩:=aB h
 cases h;exact((aK.a [.n 5]).g (zD h2)).ret hΓ
def nD(aA:aI)(k1:List aF→Option aI):List aF→Nat→List aF→Option aI
 | [],i1,dL=>(k1 (dL))
 |aS::aX,i1,dL=>((mY (aS)).bind fun L8=>(bif room (((dL).map aF.c).length+([[D.int .i64 (L8.kind),D.str (L8.pat.rel),D.sl ((L8.pat.args).map tx),D.str (L8.left),D.str (L8.right)]]).length) 80 then(nD aA k1 aX (i1+1) ((dL)++([L8])))else none))
def kF(aA:aI)(lF:List aF)(k2:List Action→Option aI):List Action→Nat→List Action→Option aI
 | [],i2,mO=>(k2 (mO))
 |o8::wO,i2,mO=>((dZ (o8.pat)).bind fun y92=>(bif room (((mO).map Action.c).length+([[D.int .i64 (o8.kind),D.str (y92.rel),D.sl ((y92.args).map tx)]]).length) 48 then(kF aA lF k2 wO (i2+1) ((mO)++([(⟨o8.kind,y92⟩:Action)])))else none))
def sJ(aA:aI):Option aI:=(nD aA (fun(lF:List aF)=>(kF aA lF (fun(AK:List Action)=>(some ((⟨aA.name,aA.prio,lF,AK⟩:aI)))) (aA.bC) 0 (([]:List Action)))) (aA.conds) 0 (([]:List aF)))
def CL(aA:aI)(W0:List (List D))(bB:Int):St:=⟨[(1,D.ptr 0 0),(2,D.ptr 1 0),(3,D.ptr 2 0),(4,D.int .i64 (bB))],[Ob.box (aI.c aA),Ob.box [D.str ([]),D.int .i64 (0),D.nil,D.nil],Ob.box [D.str (aA.name),D.int .i64 (aA.prio),D.acc 3,D.nil],Ob.row .uq 115 5 (W0)]⟩
theorem OW(hΓ:Γ.nt=56){aA:aI}{r:aI}{k1:List aF→Option aI}(bE:∀(lF:List aF),k1 lF=some r→Ax Γ N Tryz.f175 (.q [[none,none,some (115,5),some (199,3)]] (D.agg [D.str (r.name),D.int .i64 (r.prio),D.fr 115 5 ((r.conds).map aF.c),D.fr 199 3 ((r.bC).map Action.c)])) [1,1,1] ⟨[(1,D.ptr 0 0),(2,D.ptr 1 0),(3,D.ptr 2 0)],[Ob.box (aI.c aA),Ob.box [D.str ([]),D.int .i64 (0),D.nil,D.nil],Ob.box [D.str (aA.name),D.int .i64 (aA.prio),D.acc 3,D.nil],Ob.row .uq 115 5 ((lF).map aF.c)]⟩)(hm1:(aA.conds).length≤maxLen):∀(rest:List aF) (i1:Nat) (dL:List aF),(aA.conds).drop i1=rest→nD aA k1 rest i1 dL=some r→Ar Γ N Tryz.f175 (.q [[none,none,some (115,5),some (199,3)]] (D.agg [D.str (r.name),D.int .i64 (r.prio),D.fr 115 5 ((r.conds).map aF.c),D.fr 199 3 ((r.bC).map Action.c)])) [1,1,0,1,0] (rest.length+1) (CL aA ((dL).map aF.c) ((i1:Int))):=by
 intro rest
 induction rest with
 |nil=>
  intro i1 dL aO h
  rw[nD]at h
  refine aJ fun N1 aY aV=>?_
  exact((aK.ge aF.c aO).a [.hl 0 [1,2,3] [0,1,2,3]]).ex hΓ aY (bE (dL) h)
 |cons aS aX ih1=>
  intro i1 dL aO h
  rw[nD]at h
  refine aJ fun N1 aY aV=>?_
  obtain⟨L8,h46,h⟩:=aB h
  obtain⟨h47,h⟩:=aU h
  exact((((((aK.lt aF.c aO).a [.n2 [0,1,2,3,4,5,6,7,8,9,10,11] [0,1,2,3,4,5,6,7,8,9,10,11] 8 9 [0,1] [4]]).l (aQ aF.c 5 (dc aO) rfl)).g (qY h46)).w (aZ h47)).a [.cn [1,2,3,4] [0,1,2,6]]).cs hΓ aV (CL aA (((dL).map aF.c)++([[D.int .i64 (L8.kind),D.str (L8.pat.rel),D.sl ((L8.pat.args).map tx),D.str (L8.left),D.str (L8.right)]])) (IntKind.i64.wrap (((i1:Int))+(1)))) (by first| (simp only[iS aO hm1,mA]<;>rfl)| (simp only[iS aO hm1,mA,aD.c,aH.c,aF.c,Action.c,aI.c,aL.c,bH.c,aN.c,Node.c,aG.c,bI.c]<;>rfl)) (ih1 (i1+1) ((dL)++([L8])) (dn aO) h)
def CM(aA:aI)(lF:List aF)(W0:List (List D))(bB:Int):St:=⟨[(1,D.ptr 0 0),(2,D.ptr 1 0),(3,D.ptr 2 0),(5,D.int .i64 (bB))],[Ob.box (aI.c aA),Ob.box [D.str ([]),D.int .i64 (0),D.nil,D.nil],Ob.box [D.str (aA.name),D.int .i64 (aA.prio),D.acc 3,D.acc 4],Ob.row .uq 115 5 ((lF).map aF.c),Ob.row .uq 199 3 (W0)]⟩
theorem OX(hΓ:Γ.nt=56){aA:aI}{lF:List aF}{r:aI}{k2:List Action→Option aI}(IK:∀(AK:List Action),k2 AK=some r→Ax Γ N Tryz.f175 (.q [[none,none,some (115,5),some (199,3)]] (D.agg [D.str (r.name),D.int .i64 (r.prio),D.fr 115 5 ((r.conds).map aF.c),D.fr 199 3 ((r.bC).map Action.c)])) [1,1,1,1] ⟨[(2,D.ptr 0 0),(3,D.ptr 1 0)],[Ob.box [D.str ([]),D.int .i64 (0),D.nil,D.nil],Ob.box [D.str (aA.name),D.int .i64 (aA.prio),D.acc 2,D.acc 3],Ob.row .uq 115 5 ((lF).map aF.c),Ob.row .uq 199 3 ((AK).map Action.c)]⟩)(hm2:(aA.bC).length≤maxLen):∀(rest:List Action) (i2:Nat) (mO:List Action),(aA.bC).drop i2=rest→kF aA lF k2 rest i2 mO=some r→Ar Γ N Tryz.f175 (.q [[none,none,some (115,5),some (199,3)]] (D.agg [D.str (r.name),D.int .i64 (r.prio),D.fr 115 5 ((r.conds).map aF.c),D.fr 199 3 ((r.bC).map Action.c)])) [1,1,1,0,1,0] (rest.length+1) (CM aA lF ((mO).map Action.c) ((i2:Int))):=by
 intro rest
 induction rest with
 |nil=>
  intro i2 mO hd2 h
  rw[kF]at h
  refine aJ fun N2 yR wG=>?_
  exact((aK.ge Action.c hd2).a [.hl 0 [2,3] [1,2,3,4]]).ex hΓ yR (IK (mO) h)
 |cons o8 wO ih2=>
  intro i2 mO hd2 h
  rw[kF]at h
  refine aJ fun N2 yR wG=>?_
  obtain⟨y92,h93,h⟩:=aB h
  obtain⟨h94,h⟩:=aU h
  exact(((((((aK.lt Action.c hd2).a [.n2 [0,1,2,3,4,5,6,7,8,9,10,11,12,13,14,15,16,17,18,19] [0,1,2,3,4,5,6,7,8,9,10,11,12,13,14,15,16,17,18,19] 16 17 [0,1] [5]]).l (aQ Action.c 3 (dc hd2) rfl)).l (aQ Action.c 3 (dc hd2) rfl)).g (BB h93)).w (aZ h94)).a [.cn [1,2,3,5] [0,1,2,3,7]]).cs hΓ wG (CM aA lF (((mO).map Action.c)++([[D.int .i64 (o8.kind),D.str (y92.rel),D.sl ((y92.args).map tx)]])) (IntKind.i64.wrap (((i2:Int))+(1)))) (by first| (simp only[iS hd2 hm2,mA]<;>rfl)| (simp only[iS hd2 hm2,mA,aD.c,aH.c,aF.c,Action.c,aI.c,aL.c,bH.c,aN.c,Node.c,aG.c,bI.c]<;>rfl)) (ih2 (i2+1) ((mO)++([(⟨o8.kind,y92⟩:Action)])) (dn hd2) h)
theorem MO{aA:aI}{r:aI}(h:sJ aA=some r):Good Tryz.prog 175 [D.agg (aI.c aA)] (D.agg [D.str (r.name),D.int .i64 (r.prio),D.fr 115 5 ((r.conds).map aF.c),D.fr 199 3 ((r.bC).map Action.c)]):=by
 refine gd Tryz.func175 [[none,none,some (115,5),some (199,3)]] 56 fun hr Γ hΓ=>?_
 rw[sJ]at h
 refine(aK.a [.pb 2 2 115 5,.cn [1,2,3,4] [0,1,2,3]]).lp hΓ (OW hΓ (fun lF h=>?_) (by have:=(bR.sl (bR.agg (hr _ (List.mem_of_getElem? (i:=0) rfl)) (.sl ((aA.conds).map aF.c)) (by simp))).1;simpa using this) (aA.conds) 0 (([]:List aF)) rfl h)
 refine(aK.a [.pb 2 3 199 3,.cn [1,2,3,5] [0,1,2,3,4]]).lp hΓ (OX hΓ (fun AK h=>?_) (by have:=(bR.sl (bR.agg (hr _ (List.mem_of_getElem? (i:=0) rfl)) (.sl ((aA.bC).map Action.c)) (by simp))).1;simpa using this) (aA.bC) 0 (([]:List Action)) rfl h)
 cases h;exact aK.ret hΓ
def kG(aA:List aI)(k1:List aI→Option (List aI)):List aI→Nat→List aI→Option (List aI)
 | [],i1,aP=>(k1 (aP))
 |aS::aX,i1,aP=>((sJ (aS)).bind fun o9=>(bif room (((aP).map aI.c).length+([[D.str (o9.name),D.int .i64 (o9.prio),D.sl ((o9.conds).map aF.c),D.sl ((o9.bC).map Action.c)]]).length) 72 then(kG aA k1 aX (i1+1) ((aP)++([o9])))else none))
def rL(aA:List aI):Option (List aI):=(kG aA (fun(aT:List aI)=>(some (aT))) (aA) 0 (([]:List aI)))
def AL(aA:List aI)(W0:List (List D))(bB:Int):St:=⟨[(0,D.sl ((aA).map aI.c)),(3,D.acc 0),(4,D.int .i64 (bB))],[Ob.row .uq 105 4 (W0)]⟩
theorem JO(hΓ:Γ.nt=21){aA:List aI}{r:List aI}{k1:List aI→Option (List aI)}(bE:∀(aT:List aI),k1 aT=some r→Ax Γ N Tryz.f102 (.q [[some (105,4)]] (D.fr 105 4 ((r).map aI.c))) [1,1,1] ⟨[(3,D.acc 0)],[Ob.row .uq 105 4 ((aT).map aI.c)]⟩)(hm1:(aA).length≤maxLen):∀(rest:List aI) (i1:Nat) (aP:List aI),(aA).drop i1=rest→kG aA k1 rest i1 aP=some r→Ar Γ N Tryz.f102 (.q [[some (105,4)]] (D.fr 105 4 ((r).map aI.c))) [1,1,0,1,0] (rest.length+1) (AL aA ((aP).map aI.c) ((i1:Int))):=by
 intro rest
 induction rest with
 |nil=>
  intro i1 aP aO h
  rw[kG]at h
  refine aJ fun N1 aY aV=>?_
  exact((aK.ge aI.c aO).a [.hl 0 [3] [0]]).ex hΓ aY (bE (aP) h)
 |cons aS aX ih1=>
  intro i1 aP aO h
  rw[kG]at h
  refine aJ fun N1 aY aV=>?_
  obtain⟨o9,h28,h⟩:=aB h
  obtain⟨h29,h⟩:=aU h
  exact(((((aK.lt aI.c aO).l (aQ aI.c 4 (dc aO) rfl)).g (MO h28)).w (aZ h29)).a [.cn [0,3,4] [4]]).cs hΓ aV (AL aA (((aP).map aI.c)++([[D.str (o9.name),D.int .i64 (o9.prio),D.sl ((o9.conds).map aF.c),D.sl ((o9.bC).map Action.c)]])) (IntKind.i64.wrap (((i1:Int))+(1)))) (by first| (simp only[iS aO hm1,mA]<;>rfl)| (simp only[iS aO hm1,mA,aD.c,aH.c,aF.c,Action.c,aI.c,aL.c,bH.c,aN.c,Node.c,aG.c,bI.c]<;>rfl)) (ih1 (i1+1) ((aP)++([o9])) (dn aO) h)
theorem GI{aA:List aI}{r:List aI}(h:rL aA=some r):Good Tryz.prog 102 [D.sl ((aA).map aI.c)] (D.fr 105 4 ((r).map aI.c)):=by
 refine gd Tryz.func102 [[some (105,4)]] 21 fun hr Γ hΓ=>?_
 rw[rL]at h
 refine(aK.a [.cn [0,3,4] [0]]).lp hΓ (JO hΓ (fun aT h=>?_) (by have:=(bR.sl (hr _ (List.mem_of_getElem? (i:=0) rfl))).1;simpa using this) (aA) 0 (([]:List aI)) rfl h)
 have h:=aC h;subst h;exact aK.ret hΓ
def iM(aA:aD):Option aD:=((q9 (aA.args)).bind fun y1=>(some ((⟨aA.rel,y1⟩:aD))))
theorem vK{aA:aD}{r:aD}(h:iM aA=some r):Good Tryz.prog 152 [D.agg (aD.c aA)] (D.agg [D.str (r.rel),D.fr 9 1 ((r.args).map tx)]):=by
 refine gd Tryz.func152 [[none,some (9,1)]] 9 fun hr Γ hΓ=>?_
 rw[iM]at h
 obtain⟨y1,h2,h⟩:=aB h
 cases h;exact((aK.a [.n 5]).g (zD h2)).ret hΓ
def kH(aA:List aD)(k1:List aD→Option (List aD)):List aD→Nat→List aD→Option (List aD)
 | [],i1,aP=>(k1 (aP))
 |aS::aX,i1,aP=>((iM (aS)).bind fun o9=>(bif room (((aP).map aD.c).length+([[D.str (o9.rel),D.sl ((o9.args).map tx)]]).length) 40 then(kH aA k1 aX (i1+1) ((aP)++([o9])))else none))
def mH(aA:List aD):Option (List aD):=(kH aA (fun(aT:List aD)=>(some (aT))) (aA) 0 (([]:List aD)))
def AM(aA:List aD)(W0:List (List D))(bB:Int):St:=⟨[(0,D.sl ((aA).map aD.c)),(3,D.acc 0),(4,D.int .i64 (bB))],[Ob.row .uq 53 2 (W0)]⟩
theorem JP(hΓ:Γ.nt=21){aA:List aD}{r:List aD}{k1:List aD→Option (List aD)}(bE:∀(aT:List aD),k1 aT=some r→Ax Γ N Tryz.f93 (.q [[some (53,2)]] (D.fr 53 2 ((r).map aD.c))) [1,1,1] ⟨[(3,D.acc 0)],[Ob.row .uq 53 2 ((aT).map aD.c)]⟩)(hm1:(aA).length≤maxLen):∀(rest:List aD) (i1:Nat) (aP:List aD),(aA).drop i1=rest→kH aA k1 rest i1 aP=some r→Ar Γ N Tryz.f93 (.q [[some (53,2)]] (D.fr 53 2 ((r).map aD.c))) [1,1,0,1,0] (rest.length+1) (AM aA ((aP).map aD.c) ((i1:Int))):=by
 intro rest
 induction rest with
 |nil=>
  intro i1 aP aO h
  rw[kH]at h
  refine aJ fun N1 aY aV=>?_
  exact((aK.ge aD.c aO).a [.hl 0 [3] [0]]).ex hΓ aY (bE (aP) h)
 |cons aS aX ih1=>
  intro i1 aP aO h
  rw[kH]at h
  refine aJ fun N1 aY aV=>?_
  obtain⟨o9,h28,h⟩:=aB h
  obtain⟨h29,h⟩:=aU h
  exact(((((aK.lt aD.c aO).l (aQ aD.c 2 (dc aO) rfl)).g (vK h28)).w (aZ h29)).a [.cn [0,3,4] [3]]).cs hΓ aV (AM aA (((aP).map aD.c)++([[D.str (o9.rel),D.sl ((o9.args).map tx)]])) (IntKind.i64.wrap (((i1:Int))+(1)))) (by first| (simp only[iS aO hm1,mA]<;>rfl)| (simp only[iS aO hm1,mA,aD.c,aH.c,aF.c,Action.c,aI.c,aL.c,bH.c,aN.c,Node.c,aG.c,bI.c]<;>rfl)) (ih1 (i1+1) ((aP)++([o9])) (dn aO) h)
theorem xT{aA:List aD}{r:List aD}(h:mH aA=some r):Good Tryz.prog 93 [D.sl ((aA).map aD.c)] (D.fr 53 2 ((r).map aD.c)):=by
 refine gd Tryz.func93 [[some (53,2)]] 21 fun hr Γ hΓ=>?_
 rw[mH]at h
 refine(aK.a [.cn [0,3,4] [0]]).lp hΓ (JP hΓ (fun aT h=>?_) (by have:=(bR.sl (hr _ (List.mem_of_getElem? (i:=0) rfl))).1;simpa using this) (aA) 0 (([]:List aD)) rfl h)
 have h:=aC h;subst h;exact aK.ret hΓ
def oY(aA:List aH):Option (List aH):=(bif room ((([]:List (List D))).length+((aA).map aH.c).length) 32 then(some ((([]:List aH))++(aA)))else none)
theorem vL{aA:List aH}{r:List aH}(h:oY aA=some r):Good Tryz.prog 227 [D.sl ((aA).map aH.c)] (D.fr 152 2 ((r).map aH.c)):=by
 refine gd Tryz.func227 [[some (152,2)]] 6 fun hr Γ hΓ=>?_
 rw[oY]at h
 obtain⟨h1,h⟩:=aU h
 cases h;exact(((aK.w (aZ h1)).w (show(∀r∈((aA).map aH.c),r.length=2)∧(true=true→D.pN ((aA).map aH.c)=true)from⟨by first|simp| (intro r hr;obtain⟨x,_,rfl⟩:=List.mem_map.1 (List.mem_of_mem_take (List.mem_of_mem_drop hr));rfl),by simp[D.pN,D.flat]⟩)).a [.VP 2,.fl true]).rts hΓ (D.fr 152 2 ((([]:List (List D)))++((aA).map aH.c))) (by first|rfl| (simp only[mA]<;>rfl))
def uT(aA:aL):Option aL:=((mH (aA.facts)).bind fun y1=>((oY (aA.bind)).bind fun y3=>(some ((⟨y1,y3⟩:aL)))))
theorem MP{aA:aL}{r:aL}(h:uT aA=some r):Good Tryz.prog 178 [D.agg (aL.c aA)] (D.agg [D.fr 53 2 ((r.facts).map aD.c),D.fr 152 2 ((r.bind).map aH.c)]):=by
 refine gd Tryz.func178 [[some (53,2),some (152,2)]] 10 fun hr Γ hΓ=>?_
 rw[uT]at h
 obtain⟨y1,h2,h⟩:=aB h
 obtain⟨y3,h4,h⟩:=aB h
 cases h;exact(((aK.a [.n 5]).g (xT h2)).g (vL h4)).ret hΓ
def gV(aA:Int)(aM:Int)(bA:Int):Option Bool:=(bif decide ((aA:Int)≥(aM))then(some (decide ((aA:Int)≤(bA))))else(some (false)))
theorem cM{aA:Int}{aM:Int}{bA:Int}{r:Bool}(h:gV aA aM bA=some r):Good Tryz.prog 155 [D.int .i64 (aA),D.int .i64 (aM),D.int .i64 (bA)] (D.bool (r)):=by
 refine gd Tryz.func155 [[none]] 15 fun hr Γ hΓ=>?_
 rw[gV]at h
 obtain⟨h1,h⟩|⟨h1,h⟩:=aE h
 ·cases h;exact(aK.r 4 h1).ret hΓ
 ·have h:=aC h;subst h;exact(aK.r 4 h1).ret hΓ
def eV(aA:Bytes)(k1:Option Bool):Nat→Int→Option Bool
 |0,_=>none
 |n1+1,pF=>(bif decide ((pF:Int)<(((aA).length:Int)))then((oI (aA) (pF)).bind fun b29=>((gV (IntKind.i64.wrap (b29.toNat)) (97) (122)).bind fun y31=>(bif !(y31)then((gV (IntKind.i64.wrap (b29.toNat)) (48) (57)).bind fun FH=>(bif !(FH)then(some (false))else(eV aA k1 n1 (IntKind.i64.wrap ((pF)+(1))))))else(eV aA k1 n1 (IntKind.i64.wrap ((pF)+(1)))))))else(k1))
def cE(aA:Bytes):Option Bool:=(eV aA ((gV (((aA).length:Int)) (1) (8)).bind fun y37=>(some (y37))) fuel (0))
def R2(aA:Bytes)(pF:Int):St:=⟨[(0,D.str (aA)),(3,D.int .i64 (pF))],[]⟩
theorem OY(hΓ:Γ.nt=27){aA:Bytes}{r:Bool}{k1:Option Bool}(bE:k1=some r→Ax Γ N Tryz.f206 (.q [[none]] (D.bool (r))) [1,1] ⟨[(0,D.str (aA))],[]⟩):∀(n1:Nat) (pF:Int),eV aA k1 n1 pF=some r→Ar Γ N Tryz.f206 (.q [[none]] (D.bool (r))) [1,0,1,0] n1 (R2 aA pF):=by
 intro n
 induction n with
 |zero=>intro pF h;simp[eV]at h
 |succ n1 ih1=>
  intro pF h
  rw[eV]at h
  refine aJ fun N1 aY aV=>?_
  obtain⟨h28,h⟩|⟨h28,h⟩:=aE h
  ·obtain⟨b29,h30,h⟩:=aB h
   obtain⟨y31,h32,h⟩:=aB h
   have mG:=(((aK.b h28).c h30).g (cM h32))
   obtain⟨h33,h⟩|⟨h33,h⟩:=aE h
   ·obtain⟨FH,h35,h⟩:=aB h
    have l8:=(((((mG.r 3 h33).c h30).r 2 h33).g (cM h35)).r 2 h33)
    obtain⟨h36,h⟩|⟨h36,h⟩:=aE h
    ·have h:=aC h;subst h;exact(l8.b h36).ret hΓ
    ·exact((l8.b h36).a [.cn [0,3] []]).cf hΓ aV (ih1 (IntKind.i64.wrap ((pF)+(1))) h)
   ·exact(((mG.r 7 h33).F 1).a [.cn [0,3] []]).cf hΓ aV (ih1 (IntKind.i64.wrap ((pF)+(1))) h)
  ·exact((aK.b h28).a [.hl 0 [0] []]).ex hΓ aY (bE h)
theorem bS{aA:Bytes}{r:Bool}(h:cE aA=some r):Good Tryz.prog 206 [D.str (aA)] (D.bool (r)):=by
 refine gd Tryz.func206 [[none]] 27 fun hr Γ hΓ=>?_
 rw[cE]at h
 refine(aK.a [.cn [0,3] []]).lp hΓ (OY hΓ (fun h=>?_) fuel (0) h)
 obtain⟨y37,h38,h⟩:=aB h
 have h:=aC h;subst h;exact(aK.g (cM h38)).ret hΓ
def oZ(aA:Bytes):Option Bool:=((cE (aA)).bind fun y1=>(bif y1 then((oI (aA) (0)).bind fun b4=>((gV (IntKind.i64.wrap (b4.toNat)) (97) (122)).bind fun y6=>(some (y6))))else(some (false))))
theorem kI{aA:Bytes}{r:Bool}(h:oZ aA=some r):Good Tryz.prog 207 [D.str (aA)] (D.bool (r)):=by
 refine gd Tryz.func207 [[none]] 11 fun hr Γ hΓ=>?_
 rw[oZ]at h
 obtain⟨y1,h2,h⟩:=aB h
 obtain⟨h3,h⟩|⟨h3,h⟩:=aE h
 ·obtain⟨b4,h5,h⟩:=aB h
  obtain⟨y6,h7,h⟩:=aB h
  have h:=aC h;subst h;exact((((((aK.g (bS h2)).r 2 h3).c h5).r 2 h3).g (cM h7)).b h3).ret hΓ
 ·have h:=aC h;subst h;exact((aK.g (bS h2)).r 5 h3).ret hΓ
def nE(aA:aD)(k1:Option Bool):List Bytes→Nat→Option Bool
 | [],i1=>(k1)
 |aS::aX,i1=>((cE (aS)).bind fun y21=>(bif !(y21)then(some (false))else(nE aA k1 aX (i1+1))))
def p0(aA:aD):Option Bool:=(nE aA ((oZ (aA.rel)).bind fun VQ=>(bif VQ then(some (decide (((((aA.args).map tx).length:Int):Int)≤(3))))else(some (false)))) (aA.args) 0)
def R3(aA:aD)(bB:Int):St:=⟨[(1,D.ptr 0 0),(3,D.int .i64 (bB))],[Ob.box (aD.c aA)]⟩
theorem OZ(hΓ:Γ.nt=27){aA:aD}{r:Bool}{k1:Option Bool}(bE:k1=some r→Ax Γ N Tryz.f138 (.q [[none]] (D.bool (r))) [1,1] ⟨[(1,D.ptr 0 0)],[Ob.box (aD.c aA)]⟩)(hm1:(aA.args).length≤maxLen):∀(rest:List Bytes) (i1:Nat),(aA.args).drop i1=rest→nE aA k1 rest i1=some r→Ar Γ N Tryz.f138 (.q [[none]] (D.bool (r))) [1,0,1,0] (rest.length+1) (R3 aA ((i1:Int))):=by
 intro rest
 induction rest with
 |nil=>
  intro i1 aO h
  rw[nE]at h
  refine aJ fun N1 aY aV=>?_
  exact((aK.ge tx aO).a [.hl 0 [1] [0]]).ex hΓ aY (bE h)
 |cons aS aX ih1=>
  intro i1 aO h
  rw[nE]at h
  refine aJ fun N1 aY aV=>?_
  obtain⟨y21,h22,h⟩:=aB h
  have bO:=(((aK.lt tx aO).l (aQ tx 1 (dc aO) rfl)).g (bS h22))
  obtain⟨h23,h⟩|⟨h23,h⟩:=aE h
  ·have h:=aC h;subst h;exact(bO.b h23).ret hΓ
  ·exact((bO.b h23).a [.cn [1,3] [0]]).ct hΓ aV (iS aO hm1) (ih1 (i1+1) (dn aO) h)
theorem AN{aA:aD}{r:Bool}(h:p0 aA=some r):Good Tryz.prog 138 [D.agg (aD.c aA)] (D.bool (r)):=by
 refine gd Tryz.func138 [[none]] 27 fun hr Γ hΓ=>?_
 rw[p0]at h
 refine(aK.a [.cn [1,3] [0]]).lp hΓ (OZ hΓ (fun h=>?_) (by have:=(bR.sl (bR.agg (hr _ (List.mem_of_getElem? (i:=0) rfl)) (.sl ((aA.args).map tx)) (by simp))).1;simpa using this) (aA.args) 0 rfl h)
 obtain⟨VQ,h25,h⟩:=aB h
 obtain⟨h26,h⟩|⟨h26,h⟩:=aE h
 ·cases h;exact((aK.g (kI h25)).r 5 h26).ret hΓ
 ·have h:=aC h;subst h;exact((aK.g (kI h25)).r 5 h26).ret hΓ
def qZ(aA:Bytes)(aM:Bytes):Option Int:=(bif Op.bytesLess (aA) (aM)then(some (-1))else(bif !(Op.bytesLess (aA) (aM)||(aA:Bytes)==(aM))then(some (1))else(some (0))))
theorem wH{aA:Bytes}{aM:Bytes}{r:Int}(h:qZ aA aM=some r):Good Tryz.prog 208 [D.str (aA),D.str (aM)] (D.int .i64 (r)):=by
 refine gd Tryz.func208 [[none]] 13 fun hr Γ hΓ=>?_
 rw[qZ]at h
 obtain⟨h1,h⟩|⟨h1,h⟩:=aE h
 ·cases h;exact(aK.b h1).ret hΓ
 ·obtain⟨h2,h⟩|⟨h2,h⟩:=aE h
  ·have h:=aC h;subst h;exact((aK.b h1).b h2).ret hΓ
  ·have h:=aC h;subst h;exact((aK.b h1).b h2).ret hΓ
def dQ(k1:Option Bytes):Nat→Int→Bytes→Option Bytes
 |0,_,_=>none
 |n1+1,GJ,pF=>(bif decide (0≤(GJ:Int))&&decide (0<(10:Int))then(bif decide (([UInt8.ofNat (IntKind.u8.wrap (IntKind.i64.wrap ((48)+((GJ:Int)% (10))))).toNat]:Bytes).length+(pF:Bytes).length≤maxLen)then(bif decide (0≤(GJ:Int))&&decide (0<(10:Int))then(bif ((GJ:Int)/(10):Int)==(0)then(some (([UInt8.ofNat (IntKind.u8.wrap (IntKind.i64.wrap ((48)+((GJ:Int)% (10))))).toNat])++(pF)))else(dQ k1 n1 ((GJ:Int)/(10)) (([UInt8.ofNat (IntKind.u8.wrap (IntKind.i64.wrap ((48)+((GJ:Int)% (10))))).toNat])++(pF))))else none)else none)else none)
def cZ:Nat→Int→Option Bytes
 |0,_=>none
 |m_+1,aA=>(bif (aA:Int)==(-9223372036854775808)then(some ([45,57,50,50,51,51,55,50,48,51,54,56,53,52,55,55,53,56,48,56]))else(bif decide ((aA:Int)<(0))then((cZ m_ (IntKind.i64.wrap (0-(aA)))).bind fun y3=>(bif decide (([45]:Bytes).length+(y3:Bytes).length≤maxLen)then(some (([45])++(y3)))else none))else(dQ none fuel (aA) ([]))))
def EK(GJ:Int)(pF:Bytes):St:=⟨[(0,D.int .i64 (GJ)),(3,D.str (pF))],[]⟩
theorem DL(hΓ:Γ.nt=25){r:Bytes}{k1:Option Bytes}(bE:k1=some r→Ax Γ N Tryz.f235 (.q [[none]] (D.str (r))) [1,1,1,1,0,0] ⟨[],[]⟩):∀(n1:Nat) (GJ:Int) (pF:Bytes),dQ k1 n1 GJ pF=some r→Ar Γ N Tryz.f235 (.q [[none]] (D.str (r))) [1,1,1,1,0] n1 (EK GJ pF):=by
 intro n
 induction n with
 |zero=>intro GJ pF h;simp[dQ]at h
 |succ n1 ih1=>
  intro GJ pF h
  rw[dQ]at h
  refine aJ fun N1 aY aV=>?_
  obtain⟨h14,h⟩:=aU h
  obtain⟨h15,h⟩:=aU h
  obtain⟨h16,h⟩:=aU h
  have bO:=(((aK.w (a6g .i64 h14)).w (of_decide_eq_true h15)).w (a6g .i64 h16))
  obtain⟨h17,h⟩|⟨h17,h⟩:=aE h
  ·cases h;exact(bO.b h17).rts hΓ (D.str (([UInt8.ofNat (IntKind.u8.wrap (IntKind.i64.wrap ((48)+((GJ:Int)% (10))))).toNat])++(pF))) (by first|rfl| (simp only[mA]<;>rfl))
  ·exact((bO.b h17).a [.cn [0,3] []]).cf hΓ aV (ih1 ((GJ:Int)/(10)) (([UInt8.ofNat (IntKind.u8.wrap (IntKind.i64.wrap ((48)+((GJ:Int)% (10))))).toNat])++(pF)) h)
theorem CN{m_:Nat}(ihR:∀ {aA:Int} {r:Bytes},cZ m_ aA=some r→Good Tryz.prog 235 [D.int .i64 (aA)] (D.str (r))){aA:Int}{r:Bytes}(h:cZ (m_+1) aA=some r):Good Tryz.prog 235 [D.int .i64 (aA)] (D.str (r)):=by
 refine gd Tryz.func235 [[none]] 25 fun hr Γ hΓ=>?_
 rw[cZ]at h
 obtain⟨h1,h⟩|⟨h1,h⟩:=aE h
 ·cases h;exact(aK.b h1).ret hΓ
 ·obtain⟨h2,h⟩|⟨h2,h⟩:=aE h
  ·obtain⟨y3,h4,h⟩:=aB h
   obtain⟨h5,h⟩:=aU h
   cases h;exact((((aK.b h1).b h2).g (ihR h4)).w (of_decide_eq_true h5)).rts hΓ (D.str (([45])++(y3))) (by first|rfl| (simp only[mA]<;>rfl))
  ·refine(((aK.b h1).b h2).a [.cn [0,3] []]).lp hΓ (DL hΓ (fun h=>?_) fuel (aA) ([]) h)
   cases h
theorem vR:∀(m_:Nat) {aA:Int} {r:Bytes},cZ m_ aA=some r→Good Tryz.prog 235 [D.int .i64 (aA)] (D.str (r))
 |0,_,_,h=>by cases h
 |m_+1,_,_,h=>CN (fun h=>vR m_ h) h
def nF(aA:Int):Option Bytes:=cZ fuel aA
theorem sR{aA:Int}{r:Bytes}(h:nF aA=some r):Good Tryz.prog 235 [D.int .i64 (aA)] (D.str (r)):=vR fuel h
def e7(aA:Bytes)(k1:Int→Option (Int×Bool)):Nat→Int→Int→Option (Int×Bool)
 |0,_,_=>none
 |n1+1,UH,UI=>(bif decide ((UI:Int)<(((aA).length:Int)))then((oI (aA) (UI)).bind fun b25=>(bif decide ((b25.toNat:Int)<(48))then(some ((0,false)))else(bif decide ((b25.toNat:Int)>(57))then(some ((0,false)))else(e7 aA k1 n1 (IntKind.i64.wrap ((IntKind.i64.wrap ((10)*(UH)))+(IntKind.i64.wrap (IntKind.u8.wrap ((b25.toNat)-(48)))))) (IntKind.i64.wrap ((UI)+(1)))))))else(k1 (UH)))
def mI(aA:Bytes):Option (Int×Bool):=((gV (((aA).length:Int)) (1) (4)).bind fun y1=>(bif !(y1)then(some ((0,false)))else(e7 aA (fun(a4X:Int)=>((nF (a4X)).bind fun GK=>(bif !((GK:Bytes)==(aA))then(some ((0,false)))else(some ((a4X,true)))))) fuel (0) (0))))
def MQ(aA:Bytes)(UH:Int)(UI:Int):St:=⟨[(0,D.str (aA)),(4,D.int .i64 (UH)),(5,D.int .i64 (UI))],[]⟩
theorem JQ(hΓ:Γ.nt=39){aA:Bytes}{r:Int×Bool}{k1:Int→Option (Int×Bool)}(bE:∀(a4X:Int),k1 a4X=some r→Ax Γ N Tryz.f260 (.q [[none],[none]] (D.iJ [D.int .i64 (r.1),D.bool (r.2)])) [1,1,1,1] ⟨[(0,D.str (aA)),(4,D.int .i64 (a4X))],[]⟩):∀(n1:Nat) (UH:Int) (UI:Int),e7 aA k1 n1 UH UI=some r→Ar Γ N Tryz.f260 (.q [[none],[none]] (D.iJ [D.int .i64 (r.1),D.bool (r.2)])) [1,1,1,0,1,0] n1 (MQ aA UH UI):=by
 intro n
 induction n with
 |zero=>intro UH UI h;simp[e7]at h
 |succ n1 ih1=>
  intro UH UI h
  rw[e7]at h
  refine aJ fun N1 aY aV=>?_
  obtain⟨h24,h⟩|⟨h24,h⟩:=aE h
  ·obtain⟨b25,h26,h⟩:=aB h
   have mG:=((aK.b h24).c h26)
   obtain⟨h27,h⟩|⟨h27,h⟩:=aE h
   ·cases h;exact((mG.r 5 h27).T 1).ret hΓ
   ·have l8:=(((mG.r 3 h27).c h26).r 2 h27)
    obtain⟨h28,h⟩|⟨h28,h⟩:=aE h
    ·cases h;exact(l8.b h28).ret hΓ
    ·exact(((l8.b h28).c h26).a [.cn [0,4,5] []]).cf hΓ aV (ih1 (IntKind.i64.wrap ((IntKind.i64.wrap ((10)*(UH)))+(IntKind.i64.wrap (IntKind.u8.wrap ((b25.toNat)-(48)))))) (IntKind.i64.wrap ((UI)+(1))) h)
  ·exact((aK.b h24).a [.hl 0 [0,4] []]).ex hΓ aY (bE (UH) h)
theorem tT{aA:Bytes}{r:Int×Bool}(h:mI aA=some r):Good Tryz.prog 260 [D.str (aA)] (D.iJ [D.int .i64 (r.1),D.bool (r.2)]):=by
 refine gd Tryz.func260 [[none],[none]] 39 fun hr Γ hΓ=>?_
 rw[mI]at h
 obtain⟨y1,h2,h⟩:=aB h
 obtain⟨h3,h⟩|⟨h3,h⟩:=aE h
 ·cases h;exact((aK.g (cM h2)).b h3).ret hΓ
 ·refine(((aK.g (cM h2)).b h3).a [.cn [0,4,5] []]).lp hΓ (JQ hΓ (fun a4X h=>?_) fuel (0) (0) h)
  obtain⟨GK,h30,h⟩:=aB h
  obtain⟨h31,h⟩|⟨h31,h⟩:=aE h
  ·cases h;exact((aK.g (sR h30)).b h31).ret hΓ
  ·cases h;exact((aK.g (sR h30)).b h31).ret hΓ
def fJ(aA:Bytes)(aM:Bytes):Option Int:=((mI (aA)).bind fun y1=>((mI (aM)).bind fun y3=>(bif y1.2 then(bif y3.2 then(bif decide ((y1.1:Int)<(y3.1))then(some (-1))else(bif !(y3.2)then(some (-1))else(bif decide ((y1.1:Int)>(y3.1))then(some (1))else(bif !(y1.2)then(some (1))else(some (0))))))else(bif !(y3.2)then(some (-1))else(some (0))))else(bif y3.2 then(bif !(y1.2)then(some (1))else((qZ (aA) (aM)).bind fun y14=>(some (y14))))else((qZ (aA) (aM)).bind fun y16=>(some (y16)))))))
theorem uU{aA:Bytes}{aM:Bytes}{r:Int}(h:fJ aA aM=some r):Good Tryz.prog 209 [D.str (aA),D.str (aM)] (D.int .i64 (r)):=by
 refine gd Tryz.func209 [[none]] 54 fun hr Γ hΓ=>?_
 rw[fJ]at h
 obtain⟨y1,h2,h⟩:=aB h
 obtain⟨y3,h4,h⟩:=aB h
 have jO:=((aK.g (tT h2)).g (tT h4))
 obtain⟨h5,h⟩|⟨h5,h⟩:=aE h
 ·have bO:=(jO.r 2 h5)
  obtain⟨h6,h⟩|⟨h6,h⟩:=aE h
  ·have mG:=(bO.r 4 h6)
   obtain⟨h7,h⟩|⟨h7,h⟩:=aE h
   ·cases h;exact(mG.r 2 h7).ret hΓ
   ·have l8:=((mG.b h7).r 3 h5)
    obtain⟨h8,h⟩|⟨h8,h⟩:=aE h
    ·cases h;exact(l8.b h8).ret hΓ
    ·have uV:=(((l8.b h8).r 2 h5).r 4 h6)
     obtain⟨h9,h⟩|⟨h9,h⟩:=aE h
     ·have h:=aC h;subst h;exact(uV.r 2 h9).ret hΓ
     ·have xU:=((uV.b h9).r 3 h6)
      obtain⟨h10,h⟩|⟨h10,h⟩:=aE h
      ·have h:=aC h;subst h;exact(xU.b h10).ret hΓ
      ·have h:=aC h;subst h;exact((xU.b h10).b h5).ret hΓ
  ·have BQ:=(((bO.r 4 h6).F 1).r 3 h5)
   obtain⟨h11,h⟩|⟨h11,h⟩:=aE h
   ·cases h;exact(BQ.b h11).ret hΓ
   ·have h:=aC h;subst h;exact(((((((BQ.b h11).r 2 h5).r 4 h6).F 1).r 3 h6).F 1).b h5).ret hΓ
 ·have L9:=((((((jO.r 2 h5).F 5).r 3 h5).F 1).r 2 h5).F 5)
  obtain⟨h12,h⟩|⟨h12,h⟩:=aE h
  ·have S8:=(L9.r 3 h12)
   obtain⟨h13,h⟩|⟨h13,h⟩:=aE h
   ·have h:=aC h;subst h;exact(S8.b h13).ret hΓ
   ·obtain⟨y14,h15,h⟩:=aB h
    have h:=aC h;subst h;exact(((S8.b h13).b h5).g (wH h15)).ret hΓ
  ·obtain⟨y16,h17,h⟩:=aB h
   have h:=aC h;subst h;exact((((L9.r 3 h12).F 1).b h5).g (wH h17)).ret hΓ
def eW(aA:aD)(aM:aD)(k1:Option Int):List Bytes→Nat→Option Int
 | [],i1=>(k1)
 |aS::aX,i1=>(bif decide (((i1:Int):Int)<((((aM.args).map tx).length:Int)))then((oI (aM.args) ((i1:Int))).bind fun x37=>((fJ (aS) (x37)).bind fun ZC=>(bif (ZC:Int) != (0)then(some (ZC))else(eW aA aM k1 aX (i1+1)))))else(k1))
def jB(aA:aD)(aM:aD):Option Int:=(bif !((aA.rel:Bytes)==(aM.rel))then((qZ (aA.rel) (aM.rel)).bind fun y2=>(some (y2)))else(eW aA aM (bif decide (((((aA.args).map tx).length:Int):Int)<((((aM.args).map tx).length:Int)))then(some (-1))else(bif decide (((((aA.args).map tx).length:Int):Int)>((((aM.args).map tx).length:Int)))then(some (1))else(some (0)))) (aA.args) 0))
def DM(aA:aD)(aM:aD)(bB:Int):St:=⟨[(2,D.ptr 0 0),(3,D.ptr 1 0),(5,D.int .i64 (bB))],[Ob.box (aD.c aA),Ob.box (aD.c aM)]⟩
theorem CO(hΓ:Γ.nt=61){aA:aD}{aM:aD}{r:Int}{k1:Option Int}(bE:k1=some r→Ax Γ N Tryz.f139 (.q [[none]] (D.int .i64 (r))) [1,1,1] ⟨[(2,D.ptr 0 0),(3,D.ptr 1 0)],[Ob.box (aD.c aA),Ob.box (aD.c aM)]⟩)(hm1:(aA.args).length≤maxLen):∀(rest:List Bytes) (i1:Nat),(aA.args).drop i1=rest→eW aA aM k1 rest i1=some r→Ar Γ N Tryz.f139 (.q [[none]] (D.int .i64 (r))) [1,1,0,1,0] (rest.length+1) (DM aA aM ((i1:Int))):=by
 intro rest
 induction rest with
 |nil=>
  intro i1 aO h
  rw[eW]at h
  refine aJ fun N1 aY aV=>?_
  exact((((((((aK.ge tx aO).ge tx aO).ge tx aO).ge tx aO).ge tx aO).ge tx aO).F 1).a [.hl 0 [2,3] [0,1]]).ex hΓ aY (bE h)
 |cons aS aX ih1=>
  intro i1 aO h
  rw[eW]at h
  refine aJ fun N1 aY aV=>?_
  have mG:=((((((aK.lt tx aO).lt tx aO).lt tx aO).lt tx aO).lt tx aO).lt tx aO)
  obtain⟨h36,h⟩|⟨h36,h⟩:=aE h
  ·obtain⟨x37,h38,h⟩:=aB h
   obtain⟨ZC,h40,h⟩:=aB h
   have l8:=(((((mG.b h36).a [.n 10]).l (aQ tx 1 (dc aO) rfl)).l (bP tx 1 h38 rfl)).g (uU h40))
   obtain⟨h41,h⟩|⟨h41,h⟩:=aE h
   ·have h:=aC h;subst h;exact(l8.b h41).ret hΓ
   ·exact((l8.b h41).a [.cn [2,3,5] [0,1]]).ct hΓ aV (iS aO hm1) (ih1 (i1+1) (dn aO) h)
  ·exact((mG.b h36).a [.hl 0 [2,3] [0,1]]).ex hΓ aY (bE h)
theorem BR{aA:aD}{aM:aD}{r:Int}(h:jB aA aM=some r):Good Tryz.prog 139 [D.agg (aD.c aA),D.agg (aD.c aM)] (D.int .i64 (r)):=by
 refine gd Tryz.func139 [[none]] 61 fun hr Γ hΓ=>?_
 rw[jB]at h
 obtain⟨h1,h⟩|⟨h1,h⟩:=aE h
 ·obtain⟨y2,h3,h⟩:=aB h
  have h:=aC h;subst h;exact((aK.b h1).g (wH h3)).ret hΓ
 ·refine((aK.b h1).a [.cn [2,3,5] [0,1]]).lp hΓ (CO hΓ (fun h=>?_) (by have:=(bR.sl (bR.agg (hr _ (List.mem_of_getElem? (i:=0) rfl)) (.sl ((aA.args).map tx)) (by simp))).1;simpa using this) (aA.args) 0 rfl h)
  obtain⟨h42,h⟩|⟨h42,h⟩:=aE h
  ·cases h;exact(aK.b h42).ret hΓ
  ·obtain⟨h43,h⟩|⟨h43,h⟩:=aE h
   ·have h:=aC h;subst h;exact((aK.b h42).b h43).ret hΓ
   ·have h:=aC h;subst h;exact((aK.b h42).b h43).ret hΓ
def gE(aA:List aD)(k1:Option Bool):List aD→Nat→Option Bool
 | [],i1=>(k1)
 |aS::aX,i1=>((p0 (aS)).bind fun L8=>(bif !(L8)then(some (false))else(bif decide (((i1:Int):Int)>(0))then((oI (aA) (IntKind.i64.wrap (((i1:Int))-(1)))).bind fun x49=>((jB (x49) (aS)).bind fun y51=>(bif decide ((y51:Int)≥(0))then(some (false))else(gE aA k1 aX (i1+1)))))else(gE aA k1 aX (i1+1)))))
def rM(aA:List aD):Option Bool:=(gE aA (some (decide (((((aA).map aD.c).length:Int):Int)≤(24)))) (aA) 0)
def MR(aA:List aD)(bB:Int):St:=⟨[(0,D.sl ((aA).map aD.c)),(3,D.int .i64 (bB))],[]⟩
theorem JR(hΓ:Γ.nt=36){aA:List aD}{r:Bool}{k1:Option Bool}(bE:k1=some r→Ax Γ N Tryz.f80 (.q [[none]] (D.bool (r))) [1,1] ⟨[(0,D.sl ((aA).map aD.c))],[]⟩)(hm1:(aA).length≤maxLen):∀(rest:List aD) (i1:Nat),(aA).drop i1=rest→gE aA k1 rest i1=some r→Ar Γ N Tryz.f80 (.q [[none]] (D.bool (r))) [1,0,1,0] (rest.length+1) (MR aA ((i1:Int))):=by
 intro rest
 induction rest with
 |nil=>
  intro i1 aO h
  rw[gE]at h
  refine aJ fun N1 aY aV=>?_
  exact((aK.ge aD.c aO).a [.hl 0 [0] []]).ex hΓ aY (bE h)
 |cons aS aX ih1=>
  intro i1 aO h
  rw[gE]at h
  refine aJ fun N1 aY aV=>?_
  obtain⟨L8,h46,h⟩:=aB h
  have l8:=((((aK.lt aD.c aO).a [.n 19]).l (aQ aD.c 2 (dc aO) rfl)).g (AN h46))
  obtain⟨h47,h⟩|⟨h47,h⟩:=aE h
  ·have h:=aC h;subst h;exact((((l8.r 3 h47).a [bF,bF,bF,bF,bF,bF,bF,bF,bF,bF,bF]).r 2 h47).T 1).ret hΓ
  ·have uV:=(l8.r 3 h47)
   obtain⟨h48,h⟩|⟨h48,h⟩:=aE h
   ·obtain⟨x49,h50,h⟩:=aB h
    obtain⟨y51,h52,h⟩:=aB h
    have xU:=((((((((((uV.r 4 h48).l (bP aD.c 2 h50 rfl)).r 4 h48).l (aQ aD.c 2 (dc aO) rfl)).r 2 h48).g (BR h52)).b h48).b h47).b h48).b h47)
    obtain⟨h53,h⟩|⟨h53,h⟩:=aE h
    ·have h:=aC h;subst h;exact(xU.b h53).ret hΓ
    ·exact((xU.b h53).a [.cn [0,3] []]).ct hΓ aV (iS aO hm1) (ih1 (i1+1) (dn aO) h)
   ·exact((((((uV.r 11 h48).b h47).b h48).b h47).F 1).a [.cn [0,3] []]).ct hΓ aV (iS aO hm1) (ih1 (i1+1) (dn aO) h)
theorem GL{aA:List aD}{r:Bool}(h:rM aA=some r):Good Tryz.prog 80 [D.sl ((aA).map aD.c)] (D.bool (r)):=by
 refine gd Tryz.func80 [[none]] 36 fun hr Γ hΓ=>?_
 rw[rM]at h
 refine(aK.a [.cn [0,3] []]).lp hΓ (JR hΓ (fun h=>?_) (by have:=(bR.sl (hr _ (List.mem_of_getElem? (i:=0) rfl))).1;simpa using this) (aA) 0 rfl h)
 cases h;exact aK.ret hΓ
def fX(aA:List Bytes)(aM:List Bytes)(k1:Option Bool):List Bytes→Nat→Option Bool
 | [],i1=>(k1)
 |aS::aX,i1=>((oI (aM) ((i1:Int))).bind fun x22=>(bif !((aS:Bytes)==(x22))then(some (false))else(fX aA aM k1 aX (i1+1))))
def kJ(aA:List Bytes)(aM:List Bytes):Option Bool:=(bif ((((aA).map tx).length:Int):Int) != ((((aM).map tx).length:Int))then(some (false))else(fX aA aM (some (true)) (aA) 0))
def EL(aA:List Bytes)(aM:List Bytes)(bB:Int):St:=⟨[(0,D.sl ((aA).map tx)),(1,D.sl ((aM).map tx)),(5,D.int .i64 (bB))],[]⟩
theorem DN(hΓ:Γ.nt=26){aA:List Bytes}{aM:List Bytes}{r:Bool}{k1:Option Bool}(bE:k1=some r→Ax Γ N Tryz.f224 (.q [[none]] (D.bool (r))) [1,1,1] ⟨[],[]⟩)(hm1:(aA).length≤maxLen):∀(rest:List Bytes) (i1:Nat),(aA).drop i1=rest→fX aA aM k1 rest i1=some r→Ar Γ N Tryz.f224 (.q [[none]] (D.bool (r))) [1,1,0,1,0] (rest.length+1) (EL aA aM ((i1:Int))):=by
 intro rest
 induction rest with
 |nil=>
  intro i1 aO h
  rw[fX]at h
  refine aJ fun N1 aY aV=>?_
  exact((aK.ge tx aO).a [.hl 0 [] []]).ex hΓ aY (bE h)
 |cons aS aX ih1=>
  intro i1 aO h
  rw[fX]at h
  refine aJ fun N1 aY aV=>?_
  obtain⟨x22,h23,h⟩:=aB h
  have bO:=((((aK.lt tx aO).a [.n 8]).l (aQ tx 1 (dc aO) rfl)).l (bP tx 1 h23 rfl))
  obtain⟨h24,h⟩|⟨h24,h⟩:=aE h
  ·have h:=aC h;subst h;exact(bO.b h24).ret hΓ
  ·exact((bO.b h24).a [.cn [0,1,5] []]).ct hΓ aV (iS aO hm1) (ih1 (i1+1) (dn aO) h)
theorem vS{aA:List Bytes}{aM:List Bytes}{r:Bool}(h:kJ aA aM=some r):Good Tryz.prog 224 [D.sl ((aA).map tx),D.sl ((aM).map tx)] (D.bool (r)):=by
 refine gd Tryz.func224 [[none]] 26 fun hr Γ hΓ=>?_
 rw[kJ]at h
 obtain⟨h1,h⟩|⟨h1,h⟩:=aE h
 ·have h:=aC h;subst h;exact(aK.b h1).ret hΓ
 ·refine((aK.b h1).a [.cn [0,1,5] []]).lp hΓ (DN hΓ (fun h=>?_) (by have:=(bR.sl (hr _ (List.mem_of_getElem? (i:=0) rfl))).1;simpa using this) (aA) 0 rfl h)
  have h:=aC h;subst h;exact aK.ret hΓ
def sK(aA:aD)(aM:aD):Option Bool:=(bif (aA.rel:Bytes)==(aM.rel)then((kJ (aA.args) (aM.args)).bind fun y2=>(some (y2)))else(some (false)))
theorem MS{aA:aD}{aM:aD}{r:Bool}(h:sK aA aM=some r):Good Tryz.prog 150 [D.agg (aD.c aA),D.agg (aD.c aM)] (D.bool (r)):=by
 refine gd Tryz.func150 [[none]] 17 fun hr Γ hΓ=>?_
 rw[sK]at h
 obtain⟨h1,h⟩|⟨h1,h⟩:=aE h
 ·obtain⟨y2,h3,h⟩:=aB h
  have h:=aC h;subst h;exact(((aK.r 5 h1).g (vS h3)).b h1).ret hΓ
 ·have h:=aC h;subst h;exact(aK.r 6 h1).ret hΓ
def dU(aA:Bytes):Option Bool:=(bif decide ((((aA).length:Int):Int)>(1))then((oI (aA) (0)).bind fun b2=>(bif (b2.toNat:Int)==(63)then((SK (aA).length (some (D.int .i64 (1))) (none)).bind fun p=>(fun l5 u6=>((cE (((aA).take u6).drop l5)).bind fun y8=>(some (y8)))) p.1 p.2)else(some (false))))else(some (false)))
theorem cU{aA:Bytes}{r:Bool}(h:dU aA=some r):Good Tryz.prog 234 [D.str (aA)] (D.bool (r)):=by
 refine gd Tryz.func234 [[none]] 16 fun hr Γ hΓ=>?_
 rw[dU]at h
 obtain⟨h1,h⟩|⟨h1,h⟩:=aE h
 ·obtain⟨b2,h3,h⟩:=aB h
  have jO:=(((aK.r 2 h1).c h3).r 2 h1)
  obtain⟨h4,h⟩|⟨h4,h⟩:=aE h
  ·obtain⟨⟨l5,u6⟩,h7,h⟩:=aB h
   obtain⟨y8,h9,h⟩:=aB h
   have h:=aC h;subst h;exact((((((jO.r 2 h4).w h7).a [.cut l5 u6]).b h4).g (bS h9)).b h4).ret hΓ
  ·have h:=aC h;subst h;exact(jO.r 4 h4).ret hΓ
 ·have h:=aC h;subst h;exact((aK.r 4 h1).F 4).ret hΓ
def bQ(aA:List Bytes)(aM:Bytes)(k1:Bool→List Bytes→Option (List Bytes)):List Bytes→Nat→Bool→List Bytes→Option (List Bytes)
 | [],i1,GM,aP=>(k1 (GM) (aP))
 |aS::aX,i1,GM,aP=>(bif !(GM)then(bif !(Op.bytesLess (aS) (aM))then(bif !((aS:Bytes)==(aM))then(bif room (((aP).map tx).length+([[D.str (aM)]]).length) 16 then(bif room ((((aP).map tx)++([[D.str (aM)]])).length+([[D.str (aS)]]).length) 16 then(bQ aA aM k1 aX (i1+1) (true) (((aP)++([aM]))++([aS])))else none)else none)else(bif room (((aP).map tx).length+([[D.str (aS)]]).length) 16 then(bQ aA aM k1 aX (i1+1) (true) ((aP)++([aS])))else none))else(bif room (((aP).map tx).length+([[D.str (aS)]]).length) 16 then(bQ aA aM k1 aX (i1+1) (GM) ((aP)++([aS])))else none))else(bif room (((aP).map tx).length+([[D.str (aS)]]).length) 16 then(bQ aA aM k1 aX (i1+1) (GM) ((aP)++([aS])))else none))
def iQ(aA:List Bytes)(aM:Bytes):Option (List Bytes):=(bQ aA aM (fun(a6v:Bool) (aT:List Bytes)=>(bif !(a6v)then(bif room (((aT).map tx).length+([[D.str (aM)]]).length) 16 then(some ((aT)++([aM])))else none)else(some (aT)))) (aA) 0 (false) (([]:List Bytes)))
def rN(aA:List Bytes)(aM:Bytes)(GM:Bool)(W1:List (List D))(bB:Int):St:=⟨[(0,D.sl ((aA).map tx)),(1,D.str (aM)),(5,D.acc 0),(6,D.bool (GM)),(7,D.int .i64 (bB))],[Ob.row .uq 9 1 (W1)]⟩
theorem R4(hΓ:Γ.nt=49){aA:List Bytes}{aM:Bytes}{r:List Bytes}{k1:Bool→List Bytes→Option (List Bytes)}(bE:∀(a6v:Bool) (aT:List Bytes),k1 a6v aT=some r→Ax Γ N Tryz.f275 (.q [[some (9,1)]] (D.fr 9 1 ((r).map tx))) [1,1,1,1] ⟨[(1,D.str (aM)),(5,D.acc 0),(6,D.bool (a6v))],[Ob.row .uq 9 1 ((aT).map tx)]⟩)(hm1:(aA).length≤maxLen):∀(rest:List Bytes) (i1:Nat) (GM:Bool) (aP:List Bytes),(aA).drop i1=rest→bQ aA aM k1 rest i1 GM aP=some r→Ar Γ N Tryz.f275 (.q [[some (9,1)]] (D.fr 9 1 ((r).map tx))) [1,1,1,0,1,0] (rest.length+1) (rN aA aM GM ((aP).map tx) ((i1:Int))):=by
 intro rest
 induction rest with
 |nil=>
  intro i1 GM aP aO h
  rw[bQ]at h
  refine aJ fun N1 aY aV=>?_
  exact((aK.ge tx aO).a [.hl 0 [1,5,6] [0]]).ex hΓ aY (bE (GM) (aP) h)
 |cons aS aX ih1=>
  intro i1 GM aP aO h
  rw[bQ]at h
  refine aJ fun N1 aY aV=>?_
  obtain⟨h58,h⟩|⟨h58,h⟩:=aE h
  ·have mG:=((((aK.lt tx aO).r 3 h58).l (aQ tx 1 (dc aO) rfl)).r 4 h58)
   obtain⟨h59,h⟩|⟨h59,h⟩:=aE h
   ·have l8:=((mG.b h59).l (aQ tx 1 (dc aO) rfl))
    obtain⟨h60,h⟩|⟨h60,h⟩:=aE h
    ·obtain⟨h61,h⟩:=aU h
     obtain⟨h62,h⟩:=aU h
     exact(((((l8.b h60).w (aZ h61)).l (aQ tx 1 (dc aO) rfl)).w (aZ h62)).a [.cn [0,1,5,6,7] [4]]).cs hΓ aV (rN aA aM true ((((aP).map tx)++([[D.str (aM)]]))++([[D.str (aS)]])) (IntKind.i64.wrap (((i1:Int))+(1)))) (by first| (simp only[iS aO hm1,mA]<;>rfl)| (simp only[iS aO hm1,mA,aD.c,aH.c,aF.c,Action.c,aI.c,aL.c,bH.c,aN.c,Node.c,aG.c,bI.c]<;>rfl)) (ih1 (i1+1) (true) (((aP)++([aM]))++([aS])) (dn aO) h)
    ·obtain⟨h63,h⟩:=aU h
     exact((((l8.b h60).l (aQ tx 1 (dc aO) rfl)).w (aZ h63)).a [.cn [0,1,5,6,7] [2]]).cs hΓ aV (rN aA aM true (((aP).map tx)++([[D.str (aS)]])) (IntKind.i64.wrap (((i1:Int))+(1)))) (by first| (simp only[iS aO hm1,mA]<;>rfl)| (simp only[iS aO hm1,mA,aD.c,aH.c,aF.c,Action.c,aI.c,aL.c,bH.c,aN.c,Node.c,aG.c,bI.c]<;>rfl)) (ih1 (i1+1) (true) ((aP)++([aS])) (dn aO) h)
   ·obtain⟨h64,h⟩:=aU h
    exact((((mG.b h59).l (aQ tx 1 (dc aO) rfl)).w (aZ h64)).a [.cn [0,1,5,6,7] [2]]).cs hΓ aV (rN aA aM GM (((aP).map tx)++([[D.str (aS)]])) (IntKind.i64.wrap (((i1:Int))+(1)))) (by first| (simp only[iS aO hm1,mA]<;>rfl)| (simp only[iS aO hm1,mA,aD.c,aH.c,aF.c,Action.c,aI.c,aL.c,bH.c,aN.c,Node.c,aG.c,bI.c]<;>rfl)) (ih1 (i1+1) (GM) ((aP)++([aS])) (dn aO) h)
  ·obtain⟨h65,h⟩:=aU h
   exact((((((aK.lt tx aO).r 7 h58).F 1).l (aQ tx 1 (dc aO) rfl)).w (aZ h65)).a [.cn [0,1,5,6,7] [2]]).cs hΓ aV (rN aA aM GM (((aP).map tx)++([[D.str (aS)]])) (IntKind.i64.wrap (((i1:Int))+(1)))) (by first| (simp only[iS aO hm1,mA]<;>rfl)| (simp only[iS aO hm1,mA,aD.c,aH.c,aF.c,Action.c,aI.c,aL.c,bH.c,aN.c,Node.c,aG.c,bI.c]<;>rfl)) (ih1 (i1+1) (GM) ((aP)++([aS])) (dn aO) h)
theorem iR{aA:List Bytes}{aM:Bytes}{r:List Bytes}(h:iQ aA aM=some r):Good Tryz.prog 275 [D.sl ((aA).map tx),D.str (aM)] (D.fr 9 1 ((r).map tx)):=by
 refine gd Tryz.func275 [[some (9,1)]] 49 fun hr Γ hΓ=>?_
 rw[iQ]at h
 refine(aK.a [.cn [0,1,5,6,7] [0]]).lp hΓ (R4 hΓ (fun a6v aT h=>?_) (by have:=(bR.sl (hr _ (List.mem_of_getElem? (i:=0) rfl))).1;simpa using this) (aA) 0 (false) (([]:List Bytes)) rfl h)
 obtain⟨h66,h⟩|⟨h66,h⟩:=aE h
 ·obtain⟨h67,h⟩:=aU h
  cases h;exact((aK.b h66).w (aZ h67)).rts hΓ (D.fr 9 1 (((aT).map tx)++([[D.str (aM)]]))) (by first|rfl| (simp only[mA]<;>rfl))
 ·have h:=aC h;subst h;exact(aK.b h66).ret hΓ
def gW(aA:aD)(k1:List Bytes→Option (List Bytes)):List Bytes→Nat→List Bytes→Option (List Bytes)
 | [],i1,aW=>(k1 (aW))
 |aS::aX,i1,aW=>((dU (aS)).bind fun y37=>(bif y37 then((iQ (aW) (aS)).bind fun y40=>(gW aA k1 aX (i1+1) (y40)))else(gW aA k1 aX (i1+1) (aW))))
def l7(aA:aD):Option (List Bytes):=(gW aA (fun(aT:List Bytes)=>(some (aT))) (aA.args) 0 (([]:List Bytes)))
def R5(aA:aD)(W0:List (List D))(bB:Int):St:=⟨[(1,D.ptr 0 0),(3,D.acc 1),(4,D.int .i64 (bB))],[Ob.box (aD.c aA),Ob.row .uq 9 1 (W0)]⟩
theorem P0(hΓ:Γ.nt=27){aA:aD}{r:List Bytes}{k1:List Bytes→Option (List Bytes)}(bE:∀(aT:List Bytes),k1 aT=some r→Ax Γ N Tryz.f254 (.q [[some (9,1)]] (D.fr 9 1 ((r).map tx))) [1,1,1] ⟨[(3,D.acc 0)],[Ob.row .uq 9 1 ((aT).map tx)]⟩)(hm1:(aA.args).length≤maxLen):∀(rest:List Bytes) (i1:Nat) (aW:List Bytes),(aA.args).drop i1=rest→gW aA k1 rest i1 aW=some r→Ar Γ N Tryz.f254 (.q [[some (9,1)]] (D.fr 9 1 ((r).map tx))) [1,1,0,1,0] (rest.length+1) (R5 aA ((aW).map tx) ((i1:Int))):=by
 intro rest
 induction rest with
 |nil=>
  intro i1 aW aO h
  rw[gW]at h
  refine aJ fun N1 aY aV=>?_
  exact((aK.ge tx aO).a [.hl 0 [3] [1]]).ex hΓ aY (bE (aW) h)
 |cons aS aX ih1=>
  intro i1 aW aO h
  rw[gW]at h
  refine aJ fun N1 aY aV=>?_
  obtain⟨y37,h38,h⟩:=aB h
  have bO:=(((aK.lt tx aO).l (aQ tx 1 (dc aO) rfl)).g (cU h38))
  obtain⟨h39,h⟩|⟨h39,h⟩:=aE h
  ·obtain⟨y40,h41,h⟩:=aB h
   exact((((bO.b h39).l (aQ tx 1 (dc aO) rfl)).g (iR h41)).a [.cn [1,3,4] [0,2]]).ct hΓ aV (iS aO hm1) (ih1 (i1+1) (y40) (dn aO) h)
  ·exact((bO.b h39).a [.cn [1,3,4] [0,1]]).ct hΓ aV (iS aO hm1) (ih1 (i1+1) (aW) (dn aO) h)
theorem nS{aA:aD}{r:List Bytes}(h:l7 aA=some r):Good Tryz.prog 254 [D.agg (aD.c aA)] (D.fr 9 1 ((r).map tx)):=by
 refine gd Tryz.func254 [[some (9,1)]] 27 fun hr Γ hΓ=>?_
 rw[l7]at h
 refine(aK.a [.cn [1,3,4] [0,1]]).lp hΓ (P0 hΓ (fun aT h=>?_) (by have:=(bR.sl (bR.agg (hr _ (List.mem_of_getElem? (i:=0) rfl)) (.sl ((aA.args).map tx)) (by simp))).1;simpa using this) (aA.args) 0 (([]:List Bytes)) rfl h)
 have h:=aC h;subst h;exact aK.ret hΓ
def fK(aA:aI)(aM:Int)(i1:Nat)(P3:List Bytes)(k2:List Bytes→Option (List Bytes)):List Bytes→Nat→List Bytes→Option (List Bytes)
 | [],i2,gC=>(k2 (gC))
 |o8::wO,i2,gC=>((iQ (gC) (o8)).bind fun aBv=>(fK aA aM i1 P3 k2 wO (i2+1) (aBv)))
def cK(aA:aI)(aM:Int)(k1:List Bytes→Option (List Bytes)):List aF→Nat→List Bytes→Option (List Bytes)
 | [],i1,aW=>(k1 (aW))
 |aS::aX,i1,aW=>(bif decide (((i1:Int):Int)<(aM))then(bif (aS.kind:Int)==(1)then((l7 (aS.pat)).bind fun P3=>(bif decide ((P3).length≤maxLen)then(fK aA aM i1 P3 (fun(wI:List Bytes)=>(cK aA aM k1 aX (i1+1) (wI))) (P3) 0 (aW))else none))else(cK aA aM k1 aX (i1+1) (aW)))else(k1 (aW)))
def kK(aA:aI)(aM:Int):Option (List Bytes):=(cK aA aM (fun(aT:List Bytes)=>(some (aT))) (aA.conds) 0 (([]:List Bytes)))
def JS(aA:aI)(aM:Int)(W0:List (List D))(bB:Int):St:=⟨[(1,D.int .i64 (aM)),(2,D.ptr 0 0),(5,D.acc 1),(6,D.int .i64 (bB))],[Ob.box (aI.c aA),Ob.row .uq 9 1 (W0)]⟩
def JT(aA:aI)(aM:Int)(i1:Nat)(P3:List Bytes)(W0:List (List D))(bB:Int):St:=⟨[(1,D.int .i64 (aM)),(2,D.ptr 0 0),(5,D.acc 1),(6,D.int .i64 ((i1:Int))),(7,D.acc 2),(8,D.int .i64 (bB))],[Ob.box (aI.c aA),Ob.row .uq 9 1 (W0),Ob.row .uq 9 1 ((P3).map tx)]⟩
theorem GN(hΓ:Γ.nt=49){aA:aI}{aM:Int}{i1:Nat}{P3:List Bytes}{r:List Bytes}{k2:List Bytes→Option (List Bytes)}(IK:∀(wI:List Bytes),k2 wI=some r→Ax Γ N Tryz.f247 (.q [[some (9,1)]] (D.fr 9 1 ((r).map tx))) [1,1,0,1,0,0,1,1] ⟨[(1,D.int .i64 (aM)),(2,D.ptr 0 0),(5,D.acc 1),(6,D.int .i64 ((i1:Int)))],[Ob.box (aI.c aA),Ob.row .uq 9 1 ((wI).map tx)]⟩)(hm2:(P3).length≤maxLen):∀(rest:List Bytes) (i2:Nat) (gC:List Bytes),(P3).drop i2=rest→fK aA aM i1 P3 k2 rest i2 gC=some r→Ar Γ N Tryz.f247 (.q [[some (9,1)]] (D.fr 9 1 ((r).map tx))) [1,1,0,1,0,0,1,0,0,1,0,1,1,0] (rest.length+1) (JT aA aM i1 P3 ((gC).map tx) ((i2:Int))):=by
 intro rest
 induction rest with
 |nil=>
  intro i2 gC hd2 h
  rw[fK]at h
  refine aJ fun N2 yR wG=>?_
  exact((aK.ge tx hd2).a [.hl 3 [1,2,5,6] [0,1]]).ex hΓ yR (IK (gC) h)
 |cons o8 wO ih2=>
  intro i2 gC hd2 h
  rw[fK]at h
  refine aJ fun N2 yR wG=>?_
  obtain⟨aBv,h184,h⟩:=aB h
  exact(((((aK.lt tx hd2).i (nY tx 1 (dc hd2))).o 1 1 .uq (cA tx (dc hd2))).g (iR h184)).a [.cn [1,2,5,6,7,8] [0,3,2]]).ct hΓ wG (iS hd2 hm2) (ih2 (i2+1) (aBv) (dn hd2) h)
theorem GO(hΓ:Γ.nt=49){aA:aI}{aM:Int}{r:List Bytes}{k1:List Bytes→Option (List Bytes)}(bE:∀(aT:List Bytes),k1 aT=some r→Ax Γ N Tryz.f247 (.q [[some (9,1)]] (D.fr 9 1 ((r).map tx))) [1,1,1] ⟨[(5,D.acc 0)],[Ob.row .uq 9 1 ((aT).map tx)]⟩)(hm1:(aA.conds).length≤maxLen):∀(rest:List aF) (i1:Nat) (aW:List Bytes),(aA.conds).drop i1=rest→cK aA aM k1 rest i1 aW=some r→Ar Γ N Tryz.f247 (.q [[some (9,1)]] (D.fr 9 1 ((r).map tx))) [1,1,0,1,0] (rest.length+1) (JS aA aM ((aW).map tx) ((i1:Int))):=by
 intro rest
 induction rest with
 |nil=>
  intro i1 aW aO h
  rw[cK]at h
  refine aJ fun N1 aY aV=>?_
  exact((((((aK.ge aF.c aO).ge aF.c aO).ge aF.c aO).ge aF.c aO).F 1).a [.hl 0 [5] [1]]).ex hΓ aY (bE (aW) h)
 |cons aS aX ih1=>
  intro i1 aW aO h
  rw[cK]at h
  refine aJ fun N1 aY aV=>?_
  have mG:=((((aK.lt aF.c aO).lt aF.c aO).lt aF.c aO).lt aF.c aO)
  obtain⟨h157,h⟩|⟨h157,h⟩:=aE h
  ·have l8:=((mG.b h157).l (aQ aF.c 5 (dc aO) rfl))
   obtain⟨h158,h⟩|⟨h158,h⟩:=aE h
   ·obtain⟨P3,h160,h⟩:=aB h
    obtain⟨h185,h⟩:=aU h
    refine((((l8.b h158).l (aQ aF.c 5 (dc aO) rfl)).g (nS h160)).a [.cn [1,2,5,6,7,8] [0,1,2]]).lp hΓ (GN hΓ (fun wI h=>?_) (of_decide_eq_true h185) (P3) 0 (aW) rfl h)
    exact(aK.a [.cn [1,2,5,6] [0,1]]).ct hΓ aV (iS aO hm1) (ih1 (i1+1) (wI) (dn aO) h)
   ·exact((l8.b h158).a [.cn [1,2,5,6] [0,1]]).ct hΓ aV (iS aO hm1) (ih1 (i1+1) (aW) (dn aO) h)
  ·exact((mG.b h157).a [.hl 0 [5] [1]]).ex hΓ aY (bE (aW) h)
theorem sS{aA:aI}{aM:Int}{r:List Bytes}(h:kK aA aM=some r):Good Tryz.prog 247 [D.agg (aI.c aA),D.int .i64 (aM)] (D.fr 9 1 ((r).map tx)):=by
 refine gd Tryz.func247 [[some (9,1)]] 49 fun hr Γ hΓ=>?_
 rw[kK]at h
 refine(aK.a [.cn [1,2,5,6] [0,1]]).lp hΓ (GO hΓ (fun aT h=>?_) (by have:=(bR.sl (bR.agg (hr _ (List.mem_of_getElem? (i:=0) rfl)) (.sl ((aA.conds).map aF.c)) (by simp))).1;simpa using this) (aA.conds) 0 (([]:List Bytes)) rfl h)
 have h:=aC h;subst h;exact aK.ret hΓ
def eP(aA:Bytes):Option Bool:=((cE (aA)).bind fun y1=>(bif y1 then(some (true))else((dU (aA)).bind fun y4=>(some (y4)))))
theorem gF{aA:Bytes}{r:Bool}(h:eP aA=some r):Good Tryz.prog 269 [D.str (aA)] (D.bool (r)):=by
 refine gd Tryz.func269 [[none]] 9 fun hr Γ hΓ=>?_
 rw[eP]at h
 obtain⟨y1,h2,h⟩:=aB h
 obtain⟨h3,h⟩|⟨h3,h⟩:=aE h
 ·have h:=aC h;subst h;exact((aK.g (bS h2)).r 3 h3).ret hΓ
 ·obtain⟨y4,h5,h⟩:=aB h
  have h:=aC h;subst h;exact((((aK.g (bS h2)).r 2 h3).g (cU h5)).b h3).ret hΓ
def jC(aA:aD)(k1:Option Bool):List Bytes→Nat→Option Bool
 | [],i1=>(k1)
 |aS::aX,i1=>((eP (aS)).bind fun y21=>(bif !(y21)then(some (false))else(jC aA k1 aX (i1+1))))
def eX(aA:aD):Option Bool:=(jC aA ((oZ (aA.rel)).bind fun VQ=>(bif VQ then(some (decide (((((aA.args).map tx).length:Int):Int)≤(3))))else(some (false)))) (aA.args) 0)
def JU(aA:aD)(bB:Int):St:=⟨[(1,D.ptr 0 0),(3,D.int .i64 (bB))],[Ob.box (aD.c aA)]⟩
theorem GP(hΓ:Γ.nt=27){aA:aD}{r:Bool}{k1:Option Bool}(bE:k1=some r→Ax Γ N Tryz.f225 (.q [[none]] (D.bool (r))) [1,1] ⟨[(1,D.ptr 0 0)],[Ob.box (aD.c aA)]⟩)(hm1:(aA.args).length≤maxLen):∀(rest:List Bytes) (i1:Nat),(aA.args).drop i1=rest→jC aA k1 rest i1=some r→Ar Γ N Tryz.f225 (.q [[none]] (D.bool (r))) [1,0,1,0] (rest.length+1) (JU aA ((i1:Int))):=by
 intro rest
 induction rest with
 |nil=>
  intro i1 aO h
  rw[jC]at h
  refine aJ fun N1 aY aV=>?_
  exact((aK.ge tx aO).a [.hl 0 [1] [0]]).ex hΓ aY (bE h)
 |cons aS aX ih1=>
  intro i1 aO h
  rw[jC]at h
  refine aJ fun N1 aY aV=>?_
  obtain⟨y21,h22,h⟩:=aB h
  have bO:=(((aK.lt tx aO).l (aQ tx 1 (dc aO) rfl)).g (gF h22))
  obtain⟨h23,h⟩|⟨h23,h⟩:=aE h
  ·have h:=aC h;subst h;exact(bO.b h23).ret hΓ
  ·exact((bO.b h23).a [.cn [1,3] [0]]).ct hΓ aV (iS aO hm1) (ih1 (i1+1) (dn aO) h)
theorem fY{aA:aD}{r:Bool}(h:eX aA=some r):Good Tryz.prog 225 [D.agg (aD.c aA)] (D.bool (r)):=by
 refine gd Tryz.func225 [[none]] 27 fun hr Γ hΓ=>?_
 rw[eX]at h
 refine(aK.a [.cn [1,3] [0]]).lp hΓ (GP hΓ (fun h=>?_) (by have:=(bR.sl (bR.agg (hr _ (List.mem_of_getElem? (i:=0) rfl)) (.sl ((aA.args).map tx)) (by simp))).1;simpa using this) (aA.args) 0 rfl h)
 obtain⟨VQ,h25,h⟩:=aB h
 obtain⟨h26,h⟩|⟨h26,h⟩:=aE h
 ·cases h;exact((aK.g (kI h25)).r 5 h26).ret hΓ
 ·have h:=aC h;subst h;exact((aK.g (kI h25)).r 5 h26).ret hΓ
def p6(aA:aF):Option Bool:=(bif (aA.kind:Int)==(1)then((eX (aA.pat)).bind fun y2=>(bif y2 then(bif (aA.left:Bytes)==([])then(some ((aA.right:Bytes)==([])))else(some (false)))else(some (false))))else(bif (aA.kind:Int)==(2)then((eX (aA.pat)).bind fun y7=>(bif y7 then(bif (aA.left:Bytes)==([])then(some ((aA.right:Bytes)==([])))else(some (false)))else(some (false))))else(bif (aA.kind:Int)==(3)then(bif (aA.pat.rel:Bytes)==([])then(bif ((((aA.pat.args).map tx).length:Int):Int)==(0)then((eP (aA.left)).bind fun y14=>(bif y14 then((eP (aA.right)).bind fun y17=>(some (y17)))else(some (false))))else(some (false)))else(some (false)))else(bif (aA.kind:Int)==(4)then(bif (aA.pat.rel:Bytes)==([])then(bif ((((aA.pat.args).map tx).length:Int):Int)==(0)then((eP (aA.left)).bind fun iI=>(bif iI then((eP (aA.right)).bind fun y25=>(some (y25)))else(some (false))))else(some (false)))else(some (false)))else(bif (aA.kind:Int)==(5)then(bif (aA.pat.rel:Bytes)==([])then(bif ((((aA.pat.args).map tx).length:Int):Int)==(0)then((eP (aA.left)).bind fun y30=>(bif y30 then((eP (aA.right)).bind fun P4=>(some (P4)))else(some (false))))else(some (false)))else(some (false)))else(some (false)))))))
theorem nT{aA:aF}{r:Bool}(h:p6 aA=some r):Good Tryz.prog 248 [D.agg (aF.c aA)] (D.bool (r)):=by
 refine gd Tryz.func248 [[none]] 46 fun hr Γ hΓ=>?_
 rw[p6]at h
 obtain⟨h1,h⟩|⟨h1,h⟩:=aE h
 ·obtain⟨y2,h3,h⟩:=aB h
  have jO:=((aK.r 2 h1).g (fY h3))
  obtain⟨h4,h⟩|⟨h4,h⟩:=aE h
  ·have bO:=(jO.r 4 h4)
   obtain⟨h5,h⟩|⟨h5,h⟩:=aE h
   ·cases h;exact(bO.r 4 h5).ret hΓ
   ·have h:=aC h;subst h;exact(bO.r 4 h5).ret hΓ
  ·have h:=aC h;subst h;exact((jO.r 4 h4).F 4).ret hΓ
 ·obtain⟨h6,h⟩|⟨h6,h⟩:=aE h
  ·obtain⟨y7,h8,h⟩:=aB h
   have mG:=(((aK.b h1).b h6).g (fY h8))
   obtain⟨h9,h⟩|⟨h9,h⟩:=aE h
   ·have l8:=(mG.r 4 h9)
    obtain⟨h10,h⟩|⟨h10,h⟩:=aE h
    ·cases h;exact(l8.r 4 h10).ret hΓ
    ·have h:=aC h;subst h;exact(l8.r 4 h10).ret hΓ
   ·have h:=aC h;subst h;exact((mG.r 4 h9).F 4).ret hΓ
  ·have uV:=((aK.b h1).b h6)
   obtain⟨h11,h⟩|⟨h11,h⟩:=aE h
   ·have xU:=(uV.r 2 h11)
    obtain⟨h12,h⟩|⟨h12,h⟩:=aE h
    ·have BQ:=(xU.r 6 h12)
     obtain⟨h13,h⟩|⟨h13,h⟩:=aE h
     ·obtain⟨y14,h15,h⟩:=aB h
      have L9:=(((BQ.r 3 h13).g (gF h15)).b h13)
      obtain⟨h16,h⟩|⟨h16,h⟩:=aE h
      ·obtain⟨y17,h18,h⟩:=aB h
       have h:=aC h;subst h;exact(((L9.r 3 h16).g (gF h18)).b h16).ret hΓ
      ·have h:=aC h;subst h;exact(L9.r 4 h16).ret hΓ
     ·have h:=aC h;subst h;exact((BQ.r 4 h13).F 4).ret hΓ
    ·have h:=aC h;subst h;exact((xU.r 6 h12).F 8).ret hΓ
   ·obtain⟨h19,h⟩|⟨h19,h⟩:=aE h
    ·have S8:=((uV.b h11).r 2 h19)
     obtain⟨h20,h⟩|⟨h20,h⟩:=aE h
     ·have CP:=(S8.r 6 h20)
      obtain⟨h21,h⟩|⟨h21,h⟩:=aE h
      ·obtain⟨iI,h23,h⟩:=aB h
       have P5:=(((CP.r 3 h21).g (gF h23)).b h21)
       obtain⟨h24,h⟩|⟨h24,h⟩:=aE h
       ·obtain⟨y25,h26,h⟩:=aB h
        have h:=aC h;subst h;exact(((P5.r 3 h24).g (gF h26)).b h24).ret hΓ
       ·have h:=aC h;subst h;exact(P5.r 4 h24).ret hΓ
      ·have h:=aC h;subst h;exact((CP.r 4 h21).F 4).ret hΓ
     ·have h:=aC h;subst h;exact((S8.r 6 h20).F 8).ret hΓ
    ·have EM:=((uV.b h11).b h19)
     obtain⟨h27,h⟩|⟨h27,h⟩:=aE h
     ·obtain⟨h28,h⟩|⟨h28,h⟩:=aE h
      ·have P6:=((EM.b h27).r 6 h28)
       obtain⟨h29,h⟩|⟨h29,h⟩:=aE h
       ·obtain⟨y30,h31,h⟩:=aB h
        have UJ:=(((P6.r 3 h29).g (gF h31)).b h29)
        obtain⟨h32,h⟩|⟨h32,h⟩:=aE h
        ·obtain⟨P4,h34,h⟩:=aB h
         have h:=aC h;subst h;exact(((UJ.r 3 h32).g (gF h34)).b h32).ret hΓ
        ·have h:=aC h;subst h;exact(UJ.r 4 h32).ret hΓ
       ·have h:=aC h;subst h;exact((P6.r 4 h29).F 4).ret hΓ
      ·have h:=aC h;subst h;exact(((EM.b h27).r 6 h28).F 8).ret hΓ
     ·have h:=aC h;subst h;exact(EM.b h27).ret hΓ
def jP(aA:aF):Option (List Bytes):=((l7 (aA.pat)).bind fun y1=>((dU (aA.left)).bind fun y3=>(bif y3 then((iQ (y1) (aA.left)).bind fun y6=>((dU (aA.right)).bind fun y8=>(bif y8 then((iQ (y6) (aA.right)).bind fun y11=>(some (y11)))else(some (y6)))))else((dU (aA.right)).bind fun sZ=>(bif sZ then((iQ (y1) (aA.right)).bind fun y16=>(some (y16)))else(some (y1)))))))
theorem oK{aA:aF}{r:List Bytes}(h:jP aA=some r):Good Tryz.prog 249 [D.agg (aF.c aA)] (D.fr 9 1 ((r).map tx)):=by
 refine gd Tryz.func249 [[some (9,1)]] 22 fun hr Γ hΓ=>?_
 rw[jP]at h
 obtain⟨y1,h2,h⟩:=aB h
 obtain⟨y3,h4,h⟩:=aB h
 have jO:=((aK.g (nS h2)).g (cU h4))
 obtain⟨h5,h⟩|⟨h5,h⟩:=aE h
 ·obtain⟨y6,h7,h⟩:=aB h
  obtain⟨y8,h9,h⟩:=aB h
  have bO:=(((jO.b h5).g (iR h7)).g (cU h9))
  obtain⟨h10,h⟩|⟨h10,h⟩:=aE h
  ·obtain⟨y11,h12,h⟩:=aB h
   have h:=aC h;subst h;exact((bO.b h10).g (iR h12)).ret hΓ
  ·have h:=aC h;subst h;exact(bO.b h10).ret hΓ
 ·obtain⟨sZ,h14,h⟩:=aB h
  have mG:=((jO.b h5).g (cU h14))
  obtain⟨h15,h⟩|⟨h15,h⟩:=aE h
  ·obtain⟨y16,h17,h⟩:=aB h
   have h:=aC h;subst h;exact((mG.b h15).g (iR h17)).ret hΓ
  ·have h:=aC h;subst h;exact(mG.b h15).ret hΓ
def fL(aA:List Bytes)(aM:Bytes)(k1:Option Bool):List Bytes→Nat→Option Bool
 | [],i1=>(k1)
 |aS::aX,i1=>(bif (aS:Bytes)==(aM)then(some (true))else(fL aA aM k1 aX (i1+1)))
def dM(aA:List Bytes)(aM:Bytes):Option Bool:=(fL aA aM (some (false)) (aA) 0)
def JV(aA:List Bytes)(aM:Bytes)(bB:Int):St:=⟨[(0,D.sl ((aA).map tx)),(1,D.str (aM)),(5,D.int .i64 (bB))],[]⟩
theorem GQ(hΓ:Γ.nt=18){aA:List Bytes}{aM:Bytes}{r:Bool}{k1:Option Bool}(bE:k1=some r→Ax Γ N Tryz.f250 (.q [[none]] (D.bool (r))) [1,1] ⟨[],[]⟩)(hm1:(aA).length≤maxLen):∀(rest:List Bytes) (i1:Nat),(aA).drop i1=rest→fL aA aM k1 rest i1=some r→Ar Γ N Tryz.f250 (.q [[none]] (D.bool (r))) [1,0,1,0] (rest.length+1) (JV aA aM ((i1:Int))):=by
 intro rest
 induction rest with
 |nil=>
  intro i1 aO h
  rw[fL]at h
  refine aJ fun N1 aY aV=>?_
  exact((aK.ge tx aO).a [.hl 0 [] []]).ex hΓ aY (bE h)
 |cons aS aX ih1=>
  intro i1 aO h
  rw[fL]at h
  refine aJ fun N1 aY aV=>?_
  have bO:=((aK.lt tx aO).l (aQ tx 1 (dc aO) rfl))
  obtain⟨h13,h⟩|⟨h13,h⟩:=aE h
  ·have h:=aC h;subst h;exact(bO.b h13).ret hΓ
  ·exact((bO.b h13).a [.cn [0,1,5] []]).ct hΓ aV (iS aO hm1) (ih1 (i1+1) (dn aO) h)
theorem jV{aA:List Bytes}{aM:Bytes}{r:Bool}(h:dM aA aM=some r):Good Tryz.prog 250 [D.sl ((aA).map tx),D.str (aM)] (D.bool (r)):=by
 refine gd Tryz.func250 [[none]] 18 fun hr Γ hΓ=>?_
 rw[dM]at h
 refine(aK.a [.cn [0,1,5] []]).lp hΓ (GQ hΓ (fun h=>?_) (by have:=(bR.sl (hr _ (List.mem_of_getElem? (i:=0) rfl))).1;simpa using this) (aA) 0 rfl h)
 have h:=aC h;subst h;exact aK.ret hΓ
def p7(aA:aF):Option Bool:=((p6 (aA)).bind fun y1=>(bif y1 then(some (decide ((aA.kind:Int)≥(3))))else(some (false))))
theorem r9{aA:aF}{r:Bool}(h:p7 aA=some r):Good Tryz.prog 251 [D.agg (aF.c aA)] (D.bool (r)):=by
 refine gd Tryz.func251 [[none]] 10 fun hr Γ hΓ=>?_
 rw[p7]at h
 obtain⟨y1,h2,h⟩:=aB h
 obtain⟨h3,h⟩|⟨h3,h⟩:=aE h
 ·cases h;exact((aK.g (nT h2)).r 4 h3).ret hΓ
 ·have h:=aC h;subst h;exact((aK.g (nT h2)).r 4 h3).ret hΓ
def cJ(aA:aI)(aM:Int)(bA:Bytes)(k1:Option Bool):List aF→Nat→Option Bool
 | [],i1=>(k1)
 |aS::aX,i1=>(bif ((i1:Int):Int) != (aM)then((jP (aS)).bind fun FH=>((dM (FH) (bA)).bind fun y36=>(bif y36 then(some (true))else(cJ aA aM bA k1 aX (i1+1)))))else(cJ aA aM bA k1 aX (i1+1)))
def dR(aA:aI)(bA:Bytes)(k2:Option Bool):List Action→Nat→Option Bool
 | [],i2=>(k2)
 |o8::wO,i2=>((l7 (o8.pat)).bind fun y67=>((dM (y67) (bA)).bind fun y69=>(bif y69 then(some (true))else(dR aA bA k2 wO (i2+1)))))
def kL(aA:aI)(aM:Int)(bA:Bytes):Option Bool:=(cJ aA aM bA (dR aA bA (some (false)) (aA.bC) 0) (aA.conds) 0)
def EN(aA:aI)(aM:Int)(bA:Bytes)(bB:Int):St:=⟨[(1,D.int .i64 (aM)),(2,D.str (bA)),(3,D.ptr 0 0),(7,D.int .i64 (bB))],[Ob.box (aI.c aA)]⟩
theorem DO(hΓ:Γ.nt=45){aA:aI}{aM:Int}{bA:Bytes}{r:Bool}{k1:Option Bool}(bE:k1=some r→Ax Γ N Tryz.f252 (.q [[none]] (D.bool (r))) [1,1] ⟨[(2,D.str (bA)),(3,D.ptr 0 0)],[Ob.box (aI.c aA)]⟩)(hm1:(aA.conds).length≤maxLen):∀(rest:List aF) (i1:Nat),(aA.conds).drop i1=rest→cJ aA aM bA k1 rest i1=some r→Ar Γ N Tryz.f252 (.q [[none]] (D.bool (r))) [1,0,1,0] (rest.length+1) (EN aA aM bA ((i1:Int))):=by
 intro rest
 induction rest with
 |nil=>
  intro i1 aO h
  rw[cJ]at h
  refine aJ fun N1 aY aV=>?_
  exact((aK.ge aF.c aO).a [.hl 0 [2,3] [0]]).ex hΓ aY (bE h)
 |cons aS aX ih1=>
  intro i1 aO h
  rw[cJ]at h
  refine aJ fun N1 aY aV=>?_
  obtain⟨h33,h⟩|⟨h33,h⟩:=aE h
  ·obtain⟨FH,h35,h⟩:=aB h
   obtain⟨y36,h37,h⟩:=aB h
   have mG:=((((((((aK.lt aF.c aO).r 4 h33).l (aQ aF.c 5 (dc aO) rfl)).r 2 h33).g (oK h35)).r 2 h33).g (jV h37)).b h33)
   obtain⟨h38,h⟩|⟨h38,h⟩:=aE h
   ·have h:=aC h;subst h;exact(mG.b h38).ret hΓ
   ·exact((mG.b h38).a [.cn [1,2,3,7] [0]]).ct hΓ aV (iS aO hm1) (ih1 (i1+1) (dn aO) h)
  ·exact((((aK.lt aF.c aO).r 9 h33).F 1).a [.cn [1,2,3,7] [0]]).ct hΓ aV (iS aO hm1) (ih1 (i1+1) (dn aO) h)
def EO(aA:aI)(bA:Bytes)(bB:Int):St:=⟨[(2,D.str (bA)),(3,D.ptr 0 0),(8,D.int .i64 (bB))],[Ob.box (aI.c aA)]⟩
theorem DP(hΓ:Γ.nt=45){aA:aI}{bA:Bytes}{r:Bool}{k2:Option Bool}(IK:k2=some r→Ax Γ N Tryz.f252 (.q [[none]] (D.bool (r))) [1,1,1] ⟨[],[]⟩)(hm2:(aA.bC).length≤maxLen):∀(rest:List Action) (i2:Nat),(aA.bC).drop i2=rest→dR aA bA k2 rest i2=some r→Ar Γ N Tryz.f252 (.q [[none]] (D.bool (r))) [1,1,0,1,0] (rest.length+1) (EO aA bA ((i2:Int))):=by
 intro rest
 induction rest with
 |nil=>
  intro i2 hd2 h
  rw[dR]at h
  refine aJ fun N2 yR wG=>?_
  exact((aK.ge Action.c hd2).a [.hl 0 [] []]).ex hΓ yR (IK h)
 |cons o8 wO ih2=>
  intro i2 hd2 h
  rw[dR]at h
  refine aJ fun N2 yR wG=>?_
  obtain⟨y67,h68,h⟩:=aB h
  obtain⟨y69,h70,h⟩:=aB h
  have l8:=((((aK.lt Action.c hd2).l (aQ Action.c 3 (dc hd2) rfl)).g (nS h68)).g (jV h70))
  obtain⟨h71,h⟩|⟨h71,h⟩:=aE h
  ·have h:=aC h;subst h;exact(l8.b h71).ret hΓ
  ·exact((l8.b h71).a [.cn [2,3,8] [0]]).ct hΓ wG (iS hd2 hm2) (ih2 (i2+1) (dn hd2) h)
theorem vT{aA:aI}{aM:Int}{bA:Bytes}{r:Bool}(h:kL aA aM bA=some r):Good Tryz.prog 252 [D.agg (aI.c aA),D.int .i64 (aM),D.str (bA)] (D.bool (r)):=by
 refine gd Tryz.func252 [[none]] 45 fun hr Γ hΓ=>?_
 rw[kL]at h
 refine(aK.a [.cn [1,2,3,7] [0]]).lp hΓ (DO hΓ (fun h=>?_) (by have:=(bR.sl (bR.agg (hr _ (List.mem_of_getElem? (i:=0) rfl)) (.sl ((aA.conds).map aF.c)) (by simp))).1;simpa using this) (aA.conds) 0 rfl h)
 refine(aK.a [.cn [2,3,8] [0]]).lp hΓ (DP hΓ (fun h=>?_) (by have:=(bR.sl (bR.agg (hr _ (List.mem_of_getElem? (i:=0) rfl)) (.sl ((aA.bC).map Action.c)) (by simp))).1;simpa using this) (aA.bC) 0 rfl h)
 have h:=aC h;subst h;exact aK.ret hΓ
def rO(aA:Action):Option Bool:=(bif (aA.kind:Int)==(1)then((eX (aA.pat)).bind fun y2=>(some (y2)))else(bif (aA.kind:Int)==(2)then((eX (aA.pat)).bind fun y5=>(some (y5)))else(bif (aA.kind:Int)==(3)then(bif (aA.pat.rel:Bytes)==([])then(some (((((aA.pat.args).map tx).length:Int):Int)==(0)))else(some (false)))else(some (false)))))
theorem GR{aA:Action}{r:Bool}(h:rO aA=some r):Good Tryz.prog 253 [D.agg (Action.c aA)] (D.bool (r)):=by
 refine gd Tryz.func253 [[none]] 24 fun hr Γ hΓ=>?_
 rw[rO]at h
 obtain⟨h1,h⟩|⟨h1,h⟩:=aE h
 ·obtain⟨y2,h3,h⟩:=aB h
  have h:=aC h;subst h;exact((aK.r 2 h1).g (fY h3)).ret hΓ
 ·obtain⟨h4,h⟩|⟨h4,h⟩:=aE h
  ·obtain⟨y5,h6,h⟩:=aB h
   have h:=aC h;subst h;exact(((aK.b h1).b h4).g (fY h6)).ret hΓ
  ·have jO:=((aK.b h1).b h4)
   obtain⟨h7,h⟩|⟨h7,h⟩:=aE h
   ·obtain⟨h8,h⟩|⟨h8,h⟩:=aE h
    ·cases h;exact((jO.b h7).r 6 h8).ret hΓ
    ·have h:=aC h;subst h;exact((jO.b h7).r 6 h8).ret hΓ
   ·have h:=aC h;subst h;exact(jO.b h7).ret hΓ
def gG(aA:aI)(i1:Nat)(P7:List Bytes)(k2:List Bytes→Option (List Bytes)):List Bytes→Nat→List Bytes→Option (List Bytes)
 | [],i2,gC=>(k2 (gC))
 |o8::wO,i2,gC=>((iQ (gC) (o8)).bind fun aBw=>(gG aA i1 P7 k2 wO (i2+1) (aBw)))
def e8(aA:aI)(k1:List Bytes→Option (List Bytes)):List aF→Nat→List Bytes→Option (List Bytes)
 | [],i1,aW=>(k1 (aW))
 |aS::aX,i1,aW=>((jP (aS)).bind fun P7=>(bif decide ((P7).length≤maxLen)then(gG aA i1 P7 (fun(wI:List Bytes)=>(e8 aA k1 aX (i1+1) (wI))) (P7) 0 (aW))else none))
def gH(aA:aI)(i3:Nat)(P8:List Bytes)(k4:List Bytes→Option (List Bytes)):List Bytes→Nat→List Bytes→Option (List Bytes)
 | [],i4,YG=>(k4 (YG))
 |x4_::xs4,i4,YG=>((iQ (YG) (x4_)).bind fun aBx=>(gH aA i3 P8 k4 xs4 (i4+1) (aBx)))
def dA(aA:aI)(k3:List Bytes→Option (List Bytes)):List Action→Nat→List Bytes→Option (List Bytes)
 | [],i3,yS=>(k3 (yS))
 |x3_::YH,i3,yS=>((l7 (x3_.pat)).bind fun P8=>(bif decide ((P8).length≤maxLen)then(gH aA i3 P8 (fun(a4Y:List Bytes)=>(dA aA k3 YH (i3+1) (a4Y))) (P8) 0 (yS))else none))
def rP(aA:aI):Option (List Bytes):=(e8 aA (fun(AP:List Bytes)=>(dA aA (fun(a6x:List Bytes)=>(some (a6x))) (aA.bC) 0 (AP))) (aA.conds) 0 (([]:List Bytes)))
def MT(aA:aI)(W0:List (List D))(bB:Int):St:=⟨[(1,D.ptr 0 0),(3,D.acc 1),(4,D.int .i64 (bB))],[Ob.box (aI.c aA),Ob.row .uq 9 1 (W0)]⟩
def MU(aA:aI)(i1:Nat)(P7:List Bytes)(W0:List (List D))(bB:Int):St:=⟨[(1,D.ptr 0 0),(3,D.acc 1),(4,D.int .i64 ((i1:Int))),(5,D.acc 2),(6,D.int .i64 (bB))],[Ob.box (aI.c aA),Ob.row .uq 9 1 (W0),Ob.row .uq 9 1 ((P7).map tx)]⟩
theorem JW(hΓ:Γ.nt=63){aA:aI}{i1:Nat}{P7:List Bytes}{r:List Bytes}{k2:List Bytes→Option (List Bytes)}(IK:∀(wI:List Bytes),k2 wI=some r→Ax Γ N Tryz.f255 (.q [[some (9,1)]] (D.fr 9 1 ((r).map tx))) [1,1,0,1,0,0,1,1] ⟨[(1,D.ptr 0 0),(3,D.acc 1),(4,D.int .i64 ((i1:Int)))],[Ob.box (aI.c aA),Ob.row .uq 9 1 ((wI).map tx)]⟩)(hm2:(P7).length≤maxLen):∀(rest:List Bytes) (i2:Nat) (gC:List Bytes),(P7).drop i2=rest→gG aA i1 P7 k2 rest i2 gC=some r→Ar Γ N Tryz.f255 (.q [[some (9,1)]] (D.fr 9 1 ((r).map tx))) [1,1,0,1,0,0,1,0,0,1,1,0] (rest.length+1) (MU aA i1 P7 ((gC).map tx) ((i2:Int))):=by
 intro rest
 induction rest with
 |nil=>
  intro i2 gC hd2 h
  rw[gG]at h
  refine aJ fun N2 yR wG=>?_
  exact((aK.ge tx hd2).a [.hl 3 [1,3,4] [0,1]]).ex hΓ yR (IK (gC) h)
 |cons o8 wO ih2=>
  intro i2 gC hd2 h
  rw[gG]at h
  refine aJ fun N2 yR wG=>?_
  obtain⟨aBw,h172,h⟩:=aB h
  exact(((((aK.lt tx hd2).i (nY tx 1 (dc hd2))).o 1 1 .uq (cA tx (dc hd2))).g (iR h172)).a [.cn [1,3,4,5,6] [0,3,2]]).ct hΓ wG (iS hd2 hm2) (ih2 (i2+1) (aBw) (dn hd2) h)
theorem JX(hΓ:Γ.nt=63){aA:aI}{r:List Bytes}{k1:List Bytes→Option (List Bytes)}(bE:∀(AP:List Bytes),k1 AP=some r→Ax Γ N Tryz.f255 (.q [[some (9,1)]] (D.fr 9 1 ((r).map tx))) [1,1,1] ⟨[(1,D.ptr 0 0),(3,D.acc 1)],[Ob.box (aI.c aA),Ob.row .uq 9 1 ((AP).map tx)]⟩)(hm1:(aA.conds).length≤maxLen):∀(rest:List aF) (i1:Nat) (aW:List Bytes),(aA.conds).drop i1=rest→e8 aA k1 rest i1 aW=some r→Ar Γ N Tryz.f255 (.q [[some (9,1)]] (D.fr 9 1 ((r).map tx))) [1,1,0,1,0] (rest.length+1) (MT aA ((aW).map tx) ((i1:Int))):=by
 intro rest
 induction rest with
 |nil=>
  intro i1 aW aO h
  rw[e8]at h
  refine aJ fun N1 aY aV=>?_
  exact((aK.ge aF.c aO).a [.hl 0 [1,3] [0,1]]).ex hΓ aY (bE (aW) h)
 |cons aS aX ih1=>
  intro i1 aW aO h
  rw[e8]at h
  refine aJ fun N1 aY aV=>?_
  obtain⟨P7,h148,h⟩:=aB h
  obtain⟨h173,h⟩:=aU h
  refine((((aK.lt aF.c aO).l (aQ aF.c 5 (dc aO) rfl)).g (oK h148)).a [.cn [1,3,4,5,6] [0,1,2]]).lp hΓ (JW hΓ (fun wI h=>?_) (of_decide_eq_true h173) (P7) 0 (aW) rfl h)
  exact(aK.a [.cn [1,3,4] [0,1]]).ct hΓ aV (iS aO hm1) (ih1 (i1+1) (wI) (dn aO) h)
def MV(aA:aI)(W0:List (List D))(bB:Int):St:=⟨[(1,D.ptr 0 0),(3,D.acc 1),(7,D.int .i64 (bB))],[Ob.box (aI.c aA),Ob.row .uq 9 1 (W0)]⟩
def MW(aA:aI)(i3:Nat)(P8:List Bytes)(W0:List (List D))(bB:Int):St:=⟨[(1,D.ptr 0 0),(3,D.acc 1),(7,D.int .i64 ((i3:Int))),(8,D.acc 2),(9,D.int .i64 (bB))],[Ob.box (aI.c aA),Ob.row .uq 9 1 (W0),Ob.row .uq 9 1 ((P8).map tx)]⟩
theorem JY(hΓ:Γ.nt=63){aA:aI}{i3:Nat}{P8:List Bytes}{r:List Bytes}{k4:List Bytes→Option (List Bytes)}(hE4:∀(a4Y:List Bytes),k4 a4Y=some r→Ax Γ N Tryz.f255 (.q [[some (9,1)]] (D.fr 9 1 ((r).map tx))) [1,1,1,0,1,0,0,1,1] ⟨[(1,D.ptr 0 0),(3,D.acc 1),(7,D.int .i64 ((i3:Int)))],[Ob.box (aI.c aA),Ob.row .uq 9 1 ((a4Y).map tx)]⟩)(hm4:(P8).length≤maxLen):∀(rest:List Bytes) (i4:Nat) (YG:List Bytes),(P8).drop i4=rest→gH aA i3 P8 k4 rest i4 YG=some r→Ar Γ N Tryz.f255 (.q [[some (9,1)]] (D.fr 9 1 ((r).map tx))) [1,1,1,0,1,0,0,1,0,0,1,1,0] (rest.length+1) (MW aA i3 P8 ((YG).map tx) ((i4:Int))):=by
 intro rest
 induction rest with
 |nil=>
  intro i4 YG hd4 h
  rw[gH]at h
  refine aJ fun N4 hN4 hS4=>?_
  exact((aK.ge tx hd4).a [.hl 3 [1,3,7] [0,1]]).ex hΓ hN4 (hE4 (YG) h)
 |cons x4_ xs4 ih4=>
  intro i4 YG hd4 h
  rw[gH]at h
  refine aJ fun N4 hN4 hS4=>?_
  obtain⟨aBx,h345,h⟩:=aB h
  exact(((((aK.lt tx hd4).i (nY tx 1 (dc hd4))).o 1 1 .uq (cA tx (dc hd4))).g (iR h345)).a [.cn [1,3,7,8,9] [0,3,2]]).ct hΓ hS4 (iS hd4 hm4) (ih4 (i4+1) (aBx) (dn hd4) h)
theorem JZ(hΓ:Γ.nt=63){aA:aI}{r:List Bytes}{k3:List Bytes→Option (List Bytes)}(hE3:∀(a6x:List Bytes),k3 a6x=some r→Ax Γ N Tryz.f255 (.q [[some (9,1)]] (D.fr 9 1 ((r).map tx))) [1,1,1,1] ⟨[(3,D.acc 0)],[Ob.row .uq 9 1 ((a6x).map tx)]⟩)(hm3:(aA.bC).length≤maxLen):∀(rest:List Action) (i3:Nat) (yS:List Bytes),(aA.bC).drop i3=rest→dA aA k3 rest i3 yS=some r→Ar Γ N Tryz.f255 (.q [[some (9,1)]] (D.fr 9 1 ((r).map tx))) [1,1,1,0,1,0] (rest.length+1) (MV aA ((yS).map tx) ((i3:Int))):=by
 intro rest
 induction rest with
 |nil=>
  intro i3 yS zU h
  rw[dA]at h
  refine aJ fun N3 hN3 YI=>?_
  exact((aK.ge Action.c zU).a [.hl 0 [3] [1]]).ex hΓ hN3 (hE3 (yS) h)
 |cons x3_ YH ih3=>
  intro i3 yS zU h
  rw[dA]at h
  refine aJ fun N3 hN3 YI=>?_
  obtain⟨P8,h321,h⟩:=aB h
  obtain⟨h346,h⟩:=aU h
  refine((((aK.lt Action.c zU).l (aQ Action.c 3 (dc zU) rfl)).g (nS h321)).a [.cn [1,3,7,8,9] [0,1,2]]).lp hΓ (JY hΓ (fun a4Y h=>?_) (of_decide_eq_true h346) (P8) 0 (yS) rfl h)
  exact(aK.a [.cn [1,3,7] [0,1]]).ct hΓ YI (iS zU hm3) (ih3 (i3+1) (a4Y) (dn zU) h)
theorem GS{aA:aI}{r:List Bytes}(h:rP aA=some r):Good Tryz.prog 255 [D.agg (aI.c aA)] (D.fr 9 1 ((r).map tx)):=by
 refine gd Tryz.func255 [[some (9,1)]] 63 fun hr Γ hΓ=>?_
 rw[rP]at h
 refine(aK.a [.cn [1,3,4] [0,1]]).lp hΓ (JX hΓ (fun AP h=>?_) (by have:=(bR.sl (bR.agg (hr _ (List.mem_of_getElem? (i:=0) rfl)) (.sl ((aA.conds).map aF.c)) (by simp))).1;simpa using this) (aA.conds) 0 (([]:List Bytes)) rfl h)
 refine(aK.a [.cn [1,3,7] [0,1]]).lp hΓ (JZ hΓ (fun a6x h=>?_) (by have:=(bR.sl (bR.agg (hr _ (List.mem_of_getElem? (i:=0) rfl)) (.sl ((aA.bC).map Action.c)) (by simp))).1;simpa using this) (aA.bC) 0 (AP) rfl h)
 have h:=aC h;subst h;exact aK.ret hΓ
def cN(aA:aI)(sZ:List Bytes)(i1:Nat)(aS:aF)(P9:List Bytes)(EP:List Bytes)(k2:Option Bool):List Bytes→Nat→Option Bool
 | [],i2=>(k2)
 |o8::wO,i2=>((dM (P9) (o8)).bind fun aBy=>((p7 (aS)).bind fun aE5=>(bif aE5 then(bif !(aBy)then(some (false))else(bif (aS.kind:Int)==(2)then(cN aA sZ i1 aS P9 EP k2 wO (i2+1))else(cN aA sZ i1 aS P9 EP k2 wO (i2+1))))else(bif (aS.kind:Int)==(2)then(bif !(aBy)then((kL (aA) ((i1:Int)) (o8)).bind fun aE6=>(bif aE6 then(some (false))else(cN aA sZ i1 aS P9 EP k2 wO (i2+1))))else(cN aA sZ i1 aS P9 EP k2 wO (i2+1)))else(cN aA sZ i1 aS P9 EP k2 wO (i2+1))))))
def cO(aA:aI)(sZ:List Bytes)(i1:Nat)(aS:aF)(PA:List Bytes)(EQ:List Bytes)(k3:Option Bool):List Bytes→Nat→Option Bool
 | [],i3=>(k3)
 |x3_::YH,i3=>((dM (PA) (x3_)).bind fun aBz=>((p7 (aS)).bind fun aE7=>(bif aE7 then(bif !(aBz)then(some (false))else(bif (aS.kind:Int)==(2)then(cO aA sZ i1 aS PA EQ k3 YH (i3+1))else(cO aA sZ i1 aS PA EQ k3 YH (i3+1))))else(bif (aS.kind:Int)==(2)then(bif !(aBz)then((kL (aA) ((i1:Int)) (x3_)).bind fun aE8=>(bif aE8 then(some (false))else(cO aA sZ i1 aS PA EQ k3 YH (i3+1))))else(cO aA sZ i1 aS PA EQ k3 YH (i3+1)))else(cO aA sZ i1 aS PA EQ k3 YH (i3+1))))))
def gX(aA:aI)(sZ:List Bytes)(k1:Option Bool):List aF→Nat→Option Bool
 | [],i1=>(k1)
 |aS::aX,i1=>((p6 (aS)).bind fun aE9=>(bif !(aE9)then(some (false))else(bif ((i1:Int):Int)==(0)then(bif (aS.kind:Int) != (1)then(some (false))else((kK (aA) ((i1:Int))).bind fun P9=>((jP (aS)).bind fun EP=>(bif decide ((EP).length≤maxLen)then(cN aA sZ i1 aS P9 EP (gX aA sZ k1 aX (i1+1)) (EP) 0)else none))))else((kK (aA) ((i1:Int))).bind fun PA=>((jP (aS)).bind fun EQ=>(bif decide ((EQ).length≤maxLen)then(cO aA sZ i1 aS PA EQ (gX aA sZ k1 aX (i1+1)) (EQ) 0)else none))))))
def kM(aA:aI)(sZ:List Bytes)(i4:Nat)(PC:List Bytes)(k5:Option Bool):List Bytes→Nat→Option Bool
 | [],i5=>(k5)
 |x5_::xs5,i5=>((dM (sZ) (x5_)).bind fun aEA=>(bif !(aEA)then(some (false))else(kM aA sZ i4 PC k5 xs5 (i5+1))))
def kN(aA:aI)(sZ:List Bytes)(k4:Option Bool):List Action→Nat→Option Bool
 | [],i4=>(k4)
 |x4_::xs4,i4=>((rO (x4_)).bind fun aEB=>(bif !(aEB)then(some (false))else((l7 (x4_.pat)).bind fun PC=>(bif decide ((PC).length≤maxLen)then(kM aA sZ i4 PC (kN aA sZ k4 xs4 (i4+1)) (PC) 0)else none))))
def uW(aA:aI):Option Bool:=((oZ (aA.name)).bind fun y1=>(bif !(y1)then(some (false))else((gV (aA.prio) (0) (9)).bind fun y4=>(bif !(y4)then(some (false))else((gV ((((aA.conds).map aF.c).length:Int)) (1) (4)).bind fun y7=>(bif !(y7)then(some (false))else((gV ((((aA.bC).map Action.c).length:Int)) (1) (2)).bind fun QZ=>(bif !(QZ)then(some (false))else((kK (aA) ((((aA.conds).map aF.c).length:Int))).bind fun sZ=>(gX aA sZ (kN aA sZ ((rP (aA)).bind fun aEC=>(some (decide (((((aEC).map tx).length:Int):Int)≤(6))))) (aA.bC) 0) (aA.conds) 0))))))))))
def R6(aA:aI)(sZ:List Bytes)(bB:Int):St:=⟨[(1,D.ptr 0 0),(3,D.acc 1),(4,D.int .i64 (bB))],[Ob.box (aI.c aA),Ob.row .uq 9 1 ((sZ).map tx)]⟩
def R7(aA:aI)(sZ:List Bytes)(i1:Nat)(aS:aF)(P9:List Bytes)(EP:List Bytes)(bB:Int):St:=⟨[(1,D.ptr 0 0),(3,D.acc 1),(4,D.int .i64 ((i1:Int))),(5,D.ptr 2 0),(6,D.acc 3),(7,D.acc 4),(8,D.int .i64 (bB))],[Ob.box (aI.c aA),Ob.row .uq 9 1 ((sZ).map tx),Ob.box [D.int .i64 (aS.kind),D.str (aS.pat.rel),D.sl ((aS.pat.args).map tx),D.str (aS.left),D.str (aS.right)],Ob.row .uq 9 1 ((P9).map tx),Ob.row .uq 9 1 ((EP).map tx)]⟩
theorem PD(hΓ:Γ.nt=145){aA:aI}{sZ:List Bytes}{i1:Nat}{aS:aF}{P9:List Bytes}{EP:List Bytes}{r:Bool}{k2:Option Bool}(IK:k2=some r→Ax Γ N Tryz.f196 (.q [[none]] (D.bool (r))) [1,1,1,0,1,0,0,1,1] ⟨[(1,D.ptr 0 0),(3,D.acc 1),(4,D.int .i64 ((i1:Int)))],[Ob.box (aI.c aA),Ob.row .uq 9 1 ((sZ).map tx)]⟩)(hm2:(EP).length≤maxLen):∀(rest:List Bytes) (i2:Nat),(EP).drop i2=rest→cN aA sZ i1 aS P9 EP k2 rest i2=some r→Ar Γ N Tryz.f196 (.q [[none]] (D.bool (r))) [1,1,1,0,1,0,0,1,0,0,1,1,1,1,1,0] (rest.length+1) (R7 aA sZ i1 aS P9 EP ((i2:Int))):=by
 intro rest
 induction rest with
 |nil=>
  intro i2 hd2 h
  rw[cN]at h
  refine aJ fun N2 yR wG=>?_
  exact((aK.ge tx hd2).a [.hl 3 [1,3,4] [0,1]]).ex hΓ yR (IK h)
 |cons o8 wO ih2=>
  intro i2 hd2 h
  rw[cN]at h
  refine aJ fun N2 yR wG=>?_
  obtain⟨aBy,h711,h⟩:=aB h
  obtain⟨aE5,h713,h⟩:=aB h
  have aAD:=((((((aK.lt tx hd2).i (nY tx 1 (dc hd2))).o 1 1 .uq (cA tx (dc hd2))).g (jV h711)).a [.n 21]).g (r9 h713))
  obtain⟨h714,h⟩|⟨h714,h⟩:=aE h
  ·have aAE:=(aAD.r 3 h714)
   obtain⟨h715,h⟩|⟨h715,h⟩:=aE h
   ·have h:=aC h;subst h;exact((((((aAE.r 4 h715).a [bF,bF]).r 2 h715).a [bF,bF,bF,bF,bF,bF,bF]).r 2 h715).T 1).ret hΓ
   ·have aAF:=(aAE.r 4 h715)
    obtain⟨h716,h⟩|⟨h716,h⟩:=aE h
    ·exact((((((aAF.r 2 h716).b h715).b h716).r 11 h715).F 1).a [.cn [1,3,4,5,6,7,8] [0,1,2,3,4]]).ct hΓ wG (iS hd2 hm2) (ih2 (i2+1) (dn hd2) h)
    ·exact((((((((((aAF.r 2 h716).b h715).b h716).b h715).F 7).b h715).F 1).b h715).F 1).a [.cn [1,3,4,5,6,7,8] [0,1,2,3,4]]).ct hΓ wG (iS hd2 hm2) (ih2 (i2+1) (dn hd2) h)
  ·have aAG:=((aAD.r 3 h714).F 4)
   obtain⟨h717,h⟩|⟨h717,h⟩:=aE h
   ·have aAH:=((((aAG.r 2 h717).F 1).b h717).F 1)
    obtain⟨h718,h⟩|⟨h718,h⟩:=aE h
    ·obtain⟨aE6,h720,h⟩:=aB h
     have aAI:=(((((((((aAH.r 5 h718).i (nY tx 1 (dc hd2))).b h718).o 1 1 .uq (cA tx (dc hd2))).b h718).g (vT h720)).F 1).b h718).F 1)
     obtain⟨h721,h⟩|⟨h721,h⟩:=aE h
     ·have h:=aC h;subst h;exact(aAI.b h721).ret hΓ
     ·exact((aAI.b h721).a [.cn [1,3,4,5,6,7,8] [0,1,2,3,4]]).ct hΓ wG (iS hd2 hm2) (ih2 (i2+1) (dn hd2) h)
    ·exact(((((aAH.r 7 h718).F 1).b h718).F 2).a [.cn [1,3,4,5,6,7,8] [0,1,2,3,4]]).ct hΓ wG (iS hd2 hm2) (ih2 (i2+1) (dn hd2) h)
   ·exact(((((aAG.r 2 h717).F 1).b h717).F 12).a [.cn [1,3,4,5,6,7,8] [0,1,2,3,4]]).ct hΓ wG (iS hd2 hm2) (ih2 (i2+1) (dn hd2) h)
def R8(aA:aI)(sZ:List Bytes)(i1:Nat)(aS:aF)(PA:List Bytes)(EQ:List Bytes)(bB:Int):St:=⟨[(1,D.ptr 0 0),(3,D.acc 1),(4,D.int .i64 ((i1:Int))),(5,D.ptr 2 0),(6,D.acc 3),(7,D.acc 4),(8,D.int .i64 (bB))],[Ob.box (aI.c aA),Ob.row .uq 9 1 ((sZ).map tx),Ob.box [D.int .i64 (aS.kind),D.str (aS.pat.rel),D.sl ((aS.pat.args).map tx),D.str (aS.left),D.str (aS.right)],Ob.row .uq 9 1 ((PA).map tx),Ob.row .uq 9 1 ((EQ).map tx)]⟩
theorem PE(hΓ:Γ.nt=145){aA:aI}{sZ:List Bytes}{i1:Nat}{aS:aF}{PA:List Bytes}{EQ:List Bytes}{r:Bool}{k3:Option Bool}(hE3:k3=some r→Ax Γ N Tryz.f196 (.q [[none]] (D.bool (r))) [1,1,1,0,1,0,0,1,1] ⟨[(1,D.ptr 0 0),(3,D.acc 1),(4,D.int .i64 ((i1:Int)))],[Ob.box (aI.c aA),Ob.row .uq 9 1 ((sZ).map tx)]⟩)(hm3:(EQ).length≤maxLen):∀(rest:List Bytes) (i3:Nat),(EQ).drop i3=rest→cO aA sZ i1 aS PA EQ k3 rest i3=some r→Ar Γ N Tryz.f196 (.q [[none]] (D.bool (r))) [1,1,1,0,1,0,0,1,0,0,1,1,1,1,1,0] (rest.length+1) (R8 aA sZ i1 aS PA EQ ((i3:Int))):=by
 intro rest
 induction rest with
 |nil=>
  intro i3 zU h
  rw[cO]at h
  refine aJ fun N3 hN3 YI=>?_
  exact((aK.ge tx zU).a [.hl 3 [1,3,4] [0,1]]).ex hΓ hN3 (hE3 h)
 |cons x3_ YH ih3=>
  intro i3 zU h
  rw[cO]at h
  refine aJ fun N3 hN3 YI=>?_
  obtain⟨aBz,h786,h⟩:=aB h
  obtain⟨aE7,h788,h⟩:=aB h
  have aAJ:=((((((aK.lt tx zU).i (nY tx 1 (dc zU))).o 1 1 .uq (cA tx (dc zU))).g (jV h786)).a [.n 21]).g (r9 h788))
  obtain⟨h789,h⟩|⟨h789,h⟩:=aE h
  ·have aAK:=(aAJ.r 3 h789)
   obtain⟨h790,h⟩|⟨h790,h⟩:=aE h
   ·have h:=aC h;subst h;exact((((((aAK.r 4 h790).a [bF,bF]).r 2 h790).a [bF,bF,bF,bF,bF,bF,bF]).r 2 h790).T 1).ret hΓ
   ·have aAL:=(aAK.r 4 h790)
    obtain⟨h791,h⟩|⟨h791,h⟩:=aE h
    ·exact((((((aAL.r 2 h791).b h790).b h791).r 11 h790).F 1).a [.cn [1,3,4,5,6,7,8] [0,1,2,3,4]]).ct hΓ YI (iS zU hm3) (ih3 (i3+1) (dn zU) h)
    ·exact((((((((((aAL.r 2 h791).b h790).b h791).b h790).F 7).b h790).F 1).b h790).F 1).a [.cn [1,3,4,5,6,7,8] [0,1,2,3,4]]).ct hΓ YI (iS zU hm3) (ih3 (i3+1) (dn zU) h)
  ·have aAM:=((aAJ.r 3 h789).F 4)
   obtain⟨h792,h⟩|⟨h792,h⟩:=aE h
   ·have aAN:=((((aAM.r 2 h792).F 1).b h792).F 1)
    obtain⟨h793,h⟩|⟨h793,h⟩:=aE h
    ·obtain⟨aE8,h795,h⟩:=aB h
     have aAO:=(((((((((aAN.r 5 h793).i (nY tx 1 (dc zU))).b h793).o 1 1 .uq (cA tx (dc zU))).b h793).g (vT h795)).F 1).b h793).F 1)
     obtain⟨h796,h⟩|⟨h796,h⟩:=aE h
     ·have h:=aC h;subst h;exact(aAO.b h796).ret hΓ
     ·exact((aAO.b h796).a [.cn [1,3,4,5,6,7,8] [0,1,2,3,4]]).ct hΓ YI (iS zU hm3) (ih3 (i3+1) (dn zU) h)
    ·exact(((((aAN.r 7 h793).F 1).b h793).F 2).a [.cn [1,3,4,5,6,7,8] [0,1,2,3,4]]).ct hΓ YI (iS zU hm3) (ih3 (i3+1) (dn zU) h)
   ·exact(((((aAM.r 2 h792).F 1).b h792).F 12).a [.cn [1,3,4,5,6,7,8] [0,1,2,3,4]]).ct hΓ YI (iS zU hm3) (ih3 (i3+1) (dn zU) h)
theorem PF(hΓ:Γ.nt=145){aA:aI}{sZ:List Bytes}{r:Bool}{k1:Option Bool}(bE:k1=some r→Ax Γ N Tryz.f196 (.q [[none]] (D.bool (r))) [1,1,1,1] ⟨[(1,D.ptr 0 0),(3,D.acc 1)],[Ob.box (aI.c aA),Ob.row .uq 9 1 ((sZ).map tx)]⟩)(hm1:(aA.conds).length≤maxLen):∀(rest:List aF) (i1:Nat),(aA.conds).drop i1=rest→gX aA sZ k1 rest i1=some r→Ar Γ N Tryz.f196 (.q [[none]] (D.bool (r))) [1,1,1,0,1,0] (rest.length+1) (R6 aA sZ ((i1:Int))):=by
 intro rest
 induction rest with
 |nil=>
  intro i1 aO h
  rw[gX]at h
  refine aJ fun N1 aY aV=>?_
  exact((aK.ge aF.c aO).a [.hl 0 [1,3] [0,1]]).ex hΓ aY (bE h)
 |cons aS aX ih1=>
  intro i1 aO h
  rw[gX]at h
  refine aJ fun N1 aY aV=>?_
  obtain⟨aE9,h644,h⟩:=aB h
  have aAP:=(((aK.lt aF.c aO).l (aQ aF.c 5 (dc aO) rfl)).g (nT h644))
  obtain⟨h645,h⟩|⟨h645,h⟩:=aE h
  ·have h:=aC h;subst h;exact((((aAP.r 3 h645).a [bF,bF,bF]).r 2 h645).T 1).ret hΓ
  ·have aAQ:=(aAP.r 3 h645)
   obtain⟨h646,h⟩|⟨h646,h⟩:=aE h
   ·have aAR:=((((aAQ.r 3 h646).b h645).b h646).b h645)
    obtain⟨h647,h⟩|⟨h647,h⟩:=aE h
    ·have h:=aC h;subst h;exact(aAR.b h647).ret hΓ
    ·obtain⟨P9,h649,h⟩:=aB h
     obtain⟨EP,h651,h⟩:=aB h
     obtain⟨h722,h⟩:=aU h
     refine((((aAR.b h647).g (sS h649)).g (oK h651)).a [.cn [1,3,4,5,6,7,8] [0,1,2,3,4]]).lp hΓ (PD hΓ (fun h=>?_) (of_decide_eq_true h722) (EP) 0 rfl h)
     exact(aK.a [.cn [1,3,4] [0,1]]).ct hΓ aV (iS aO hm1) (ih1 (i1+1) (dn aO) h)
   ·obtain⟨PA,h724,h⟩:=aB h
    obtain⟨EQ,h726,h⟩:=aB h
    obtain⟨h797,h⟩:=aU h
    refine((((((((aAQ.r 3 h646).b h645).b h646).b h645).F 1).g (sS h724)).g (oK h726)).a [.cn [1,3,4,5,6,7,8] [0,1,2,3,4]]).lp hΓ (PE hΓ (fun h=>?_) (of_decide_eq_true h797) (EQ) 0 rfl h)
    exact(aK.a [.cn [1,3,4] [0,1]]).ct hΓ aV (iS aO hm1) (ih1 (i1+1) (dn aO) h)
def R9(aA:aI)(sZ:List Bytes)(bB:Int):St:=⟨[(1,D.ptr 0 0),(3,D.acc 1),(10,D.int .i64 (bB))],[Ob.box (aI.c aA),Ob.row .uq 9 1 ((sZ).map tx)]⟩
def RA(aA:aI)(sZ:List Bytes)(i4:Nat)(PC:List Bytes)(bB:Int):St:=⟨[(1,D.ptr 0 0),(3,D.acc 1),(10,D.int .i64 ((i4:Int))),(11,D.acc 2),(12,D.int .i64 (bB))],[Ob.box (aI.c aA),Ob.row .uq 9 1 ((sZ).map tx),Ob.row .uq 9 1 ((PC).map tx)]⟩
theorem PG(hΓ:Γ.nt=145){aA:aI}{sZ:List Bytes}{i4:Nat}{PC:List Bytes}{r:Bool}{k5:Option Bool}(hE5:k5=some r→Ax Γ N Tryz.f196 (.q [[none]] (D.bool (r))) [1,1,1,1,0,1,0,0,1,1] ⟨[(1,D.ptr 0 0),(3,D.acc 1),(10,D.int .i64 ((i4:Int)))],[Ob.box (aI.c aA),Ob.row .uq 9 1 ((sZ).map tx)]⟩)(hm5:(PC).length≤maxLen):∀(rest:List Bytes) (i5:Nat),(PC).drop i5=rest→kM aA sZ i4 PC k5 rest i5=some r→Ar Γ N Tryz.f196 (.q [[none]] (D.bool (r))) [1,1,1,1,0,1,0,0,1,0,0,1,1,1,0] (rest.length+1) (RA aA sZ i4 PC ((i5:Int))):=by
 intro rest
 induction rest with
 |nil=>
  intro i5 hd5 h
  rw[kM]at h
  refine aJ fun N5 hN5 hS5=>?_
  exact((aK.ge tx hd5).a [.hl 3 [1,3,10] [0,1]]).ex hΓ hN5 (hE5 h)
 |cons x5_ xs5 ih5=>
  intro i5 hd5 h
  rw[kM]at h
  refine aJ fun N5 hN5 hS5=>?_
  obtain⟨aEA,h953,h⟩:=aB h
  have aAS:=((((aK.lt tx hd5).i (nY tx 1 (dc hd5))).o 1 1 .uq (cA tx (dc hd5))).g (jV h953))
  obtain⟨h954,h⟩|⟨h954,h⟩:=aE h
  ·have h:=aC h;subst h;exact(aAS.b h954).ret hΓ
  ·exact((aAS.b h954).a [.cn [1,3,10,11,12] [0,1,2]]).ct hΓ hS5 (iS hd5 hm5) (ih5 (i5+1) (dn hd5) h)
theorem PI(hΓ:Γ.nt=145){aA:aI}{sZ:List Bytes}{r:Bool}{k4:Option Bool}(hE4:k4=some r→Ax Γ N Tryz.f196 (.q [[none]] (D.bool (r))) [1,1,1,1,1] ⟨[(1,D.ptr 0 0)],[Ob.box (aI.c aA)]⟩)(hm4:(aA.bC).length≤maxLen):∀(rest:List Action) (i4:Nat),(aA.bC).drop i4=rest→kN aA sZ k4 rest i4=some r→Ar Γ N Tryz.f196 (.q [[none]] (D.bool (r))) [1,1,1,1,0,1,0] (rest.length+1) (R9 aA sZ ((i4:Int))):=by
 intro rest
 induction rest with
 |nil=>
  intro i4 hd4 h
  rw[kN]at h
  refine aJ fun N4 hN4 hS4=>?_
  exact((aK.ge Action.c hd4).a [.hl 0 [1] [0]]).ex hΓ hN4 (hE4 h)
 |cons x4_ xs4 ih4=>
  intro i4 hd4 h
  rw[kN]at h
  refine aJ fun N4 hN4 hS4=>?_
  obtain⟨aEB,h927,h⟩:=aB h
  have aAT:=(((aK.lt Action.c hd4).l (aQ Action.c 3 (dc hd4) rfl)).g (GR h927))
  obtain⟨h928,h⟩|⟨h928,h⟩:=aE h
  ·have h:=aC h;subst h;exact(aAT.b h928).ret hΓ
  ·obtain⟨PC,h930,h⟩:=aB h
   obtain⟨h955,h⟩:=aU h
   refine((((aAT.b h928).l (aQ Action.c 3 (dc hd4) rfl)).g (nS h930)).a [.cn [1,3,10,11,12] [0,1,2]]).lp hΓ (PG hΓ (fun h=>?_) (of_decide_eq_true h955) (PC) 0 rfl h)
   exact(aK.a [.cn [1,3,10] [0,1]]).ct hΓ hS4 (iS hd4 hm4) (ih4 (i4+1) (dn hd4) h)
theorem MX{aA:aI}{r:Bool}(h:uW aA=some r):Good Tryz.prog 196 [D.agg (aI.c aA)] (D.bool (r)):=by
 refine gd Tryz.func196 [[none]] 145 fun hr Γ hΓ=>?_
 rw[uW]at h
 obtain⟨y1,h2,h⟩:=aB h
 obtain⟨h3,h⟩|⟨h3,h⟩:=aE h
 ·have h:=aC h;subst h;exact(((aK.g (kI h2)).r 5 h3).T 13).ret hΓ
 ·obtain⟨y4,h5,h⟩:=aB h
  have aAU:=((((aK.g (kI h2)).r 3 h3).g (cM h5)).r 2 h3)
  obtain⟨h6,h⟩|⟨h6,h⟩:=aE h
  ·have h:=aC h;subst h;exact((aAU.r 6 h6).T 7).ret hΓ
  ·obtain⟨y7,h8,h⟩:=aB h
   have aAV:=(((aAU.r 4 h6).g (cM h8)).r 2 h6)
   obtain⟨h9,h⟩|⟨h9,h⟩:=aE h
   ·have h:=aC h;subst h;exact((aAV.r 6 h9).T 1).ret hΓ
   ·obtain⟨QZ,h11,h⟩:=aB h
    have aAW:=(((aAV.r 4 h9).g (cM h11)).r 2 h9)
    obtain⟨h12,h⟩|⟨h12,h⟩:=aE h
    ·have h:=aC h;subst h;exact(aAW.b h12).ret hΓ
    ·obtain⟨sZ,h14,h⟩:=aB h
     refine(((aAW.b h12).g (sS h14)).a [.cn [1,3,4] [0,1]]).lp hΓ (PF hΓ (fun h=>?_) (by have:=(bR.sl (bR.agg (hr _ (List.mem_of_getElem? (i:=0) rfl)) (.sl ((aA.conds).map aF.c)) (by simp))).1;simpa using this) (aA.conds) 0 rfl h)
     refine(aK.a [.cn [1,3,10] [0,1]]).lp hΓ (PI hΓ (fun h=>?_) (by have:=(bR.sl (bR.agg (hr _ (List.mem_of_getElem? (i:=0) rfl)) (.sl ((aA.bC).map Action.c)) (by simp))).1;simpa using this) (aA.bC) 0 rfl h)
     obtain⟨aEC,h957,h⟩:=aB h
     cases h;exact(aK.g (GS h957)).ret hΓ
def gI(aA:List aI)(aM:Bytes)(k1:Option Int):List aI→Nat→Option Int
 | [],i1=>(k1)
 |aS::aX,i1=>(bif (aS.name:Bytes)==(aM)then(some ((i1:Int)))else(gI aA aM k1 aX (i1+1)))
def rQ(aA:List aI)(aM:Bytes):Option Int:=(gI aA aM (some (-1)) (aA) 0)
def MY(aA:List aI)(aM:Bytes)(bB:Int):St:=⟨[(0,D.sl ((aA).map aI.c)),(1,D.str (aM)),(5,D.int .i64 (bB))],[]⟩
theorem K1(hΓ:Γ.nt=20){aA:List aI}{aM:Bytes}{r:Int}{k1:Option Int}(bE:k1=some r→Ax Γ N Tryz.f197 (.q [[none]] (D.int .i64 (r))) [1,1] ⟨[],[]⟩)(hm1:(aA).length≤maxLen):∀(rest:List aI) (i1:Nat),(aA).drop i1=rest→gI aA aM k1 rest i1=some r→Ar Γ N Tryz.f197 (.q [[none]] (D.int .i64 (r))) [1,0,1,0] (rest.length+1) (MY aA aM ((i1:Int))):=by
 intro rest
 induction rest with
 |nil=>
  intro i1 aO h
  rw[gI]at h
  refine aJ fun N1 aY aV=>?_
  exact((aK.ge aI.c aO).a [.hl 0 [] []]).ex hΓ aY (bE h)
 |cons aS aX ih1=>
  intro i1 aO h
  rw[gI]at h
  refine aJ fun N1 aY aV=>?_
  have bO:=((aK.lt aI.c aO).l (aQ aI.c 4 (dc aO) rfl))
  obtain⟨h13,h⟩|⟨h13,h⟩:=aE h
  ·cases h;exact(bO.b h13).ret hΓ
  ·exact((bO.b h13).a [.cn [0,1,5] []]).ct hΓ aV (iS aO hm1) (ih1 (i1+1) (dn aO) h)
theorem GU{aA:List aI}{aM:Bytes}{r:Int}(h:rQ aA aM=some r):Good Tryz.prog 197 [D.sl ((aA).map aI.c),D.str (aM)] (D.int .i64 (r)):=by
 refine gd Tryz.func197 [[none]] 20 fun hr Γ hΓ=>?_
 rw[rQ]at h
 refine(aK.a [.cn [0,1,5] []]).lp hΓ (K1 hΓ (fun h=>?_) (by have:=(bR.sl (hr _ (List.mem_of_getElem? (i:=0) rfl))).1;simpa using this) (aA) 0 rfl h)
 cases h;exact aK.ret hΓ
def gJ(aA:List aI)(k1:Option Bool):List aI→Nat→Option Bool
 | [],i1=>(k1)
 |aS::aX,i1=>((uW (aS)).bind fun P4=>(bif !(P4)then(some (false))else((rQ (aA) (aS.name)).bind fun y36=>(bif (y36:Int) != ((i1:Int))then(some (false))else(gJ aA k1 aX (i1+1))))))
def rR(aA:List aI):Option Bool:=(gJ aA (some (decide (((((aA).map aI.c).length:Int):Int)≤(6)))) (aA) 0)
def MZ(aA:List aI)(bB:Int):St:=⟨[(0,D.sl ((aA).map aI.c)),(3,D.int .i64 (bB))],[]⟩
theorem K3(hΓ:Γ.nt=30){aA:List aI}{r:Bool}{k1:Option Bool}(bE:k1=some r→Ax Γ N Tryz.f131 (.q [[none]] (D.bool (r))) [1,1] ⟨[(0,D.sl ((aA).map aI.c))],[]⟩)(hm1:(aA).length≤maxLen):∀(rest:List aI) (i1:Nat),(aA).drop i1=rest→gJ aA k1 rest i1=some r→Ar Γ N Tryz.f131 (.q [[none]] (D.bool (r))) [1,0,1,0] (rest.length+1) (MZ aA ((i1:Int))):=by
 intro rest
 induction rest with
 |nil=>
  intro i1 aO h
  rw[gJ]at h
  refine aJ fun N1 aY aV=>?_
  exact((aK.ge aI.c aO).a [.hl 0 [0] []]).ex hΓ aY (bE h)
 |cons aS aX ih1=>
  intro i1 aO h
  rw[gJ]at h
  refine aJ fun N1 aY aV=>?_
  obtain⟨P4,h34,h⟩:=aB h
  have mG:=(((aK.lt aI.c aO).l (aQ aI.c 4 (dc aO) rfl)).g (MX h34))
  obtain⟨h35,h⟩|⟨h35,h⟩:=aE h
  ·have h:=aC h;subst h;exact((mG.r 10 h35).T 1).ret hΓ
  ·obtain⟨y36,h37,h⟩:=aB h
   have l8:=(((((mG.r 4 h35).l (aQ aI.c 4 (dc aO) rfl)).r 3 h35).g (GU h37)).r 3 h35)
   obtain⟨h38,h⟩|⟨h38,h⟩:=aE h
   ·have h:=aC h;subst h;exact(l8.b h38).ret hΓ
   ·exact((l8.b h38).a [.cn [0,3] []]).ct hΓ aV (iS aO hm1) (ih1 (i1+1) (dn aO) h)
theorem xV{aA:List aI}{r:Bool}(h:rR aA=some r):Good Tryz.prog 131 [D.sl ((aA).map aI.c)] (D.bool (r)):=by
 refine gd Tryz.func131 [[none]] 30 fun hr Γ hΓ=>?_
 rw[rR]at h
 refine(aK.a [.cn [0,3] []]).lp hΓ (K3 hΓ (fun h=>?_) (by have:=(bR.sl (hr _ (List.mem_of_getElem? (i:=0) rfl))).1;simpa using this) (aA) 0 rfl h)
 cases h;exact aK.ret hΓ
def kO(aA:List aH)(aM:Bytes)(k1:Option (List aH)):List aH→Nat→Option (List aH)
 | [],i1=>(k1)
 |aS::aX,i1=>(bif (aS.var:Bytes)==(aM)then(some (aA))else(kO aA aM k1 aX (i1+1)))
def mZ(aA:List aH)(aM:Bytes):Option (List aH):=((dU (aM)).bind fun y1=>(bif !(y1)then(some (aA))else(kO aA aM ((nF (IntKind.i64.wrap (((((aA).map aH.c).length:Int))+(1)))).bind fun y18=>(bif decide (([63]:Bytes).length+(y18:Bytes).length≤maxLen)then(bif room (((aA).map aH.c).length+([[D.str (aM),D.str (([63])++(y18))]]).length) 32 then(some ((aA)++([(⟨aM,([63])++(y18)⟩:aH)])))else none)else none)) (aA) 0)))
def RB(aA:List aH)(aM:Bytes)(bB:Int):St:=⟨[(0,D.acc 0),(1,D.str (aM)),(5,D.int .i64 (bB))],[Ob.row .uq 152 2 ((aA).map aH.c)]⟩
theorem PJ(hΓ:Γ.nt=34){aA:List aH}{aM:Bytes}{r:List aH}{k1:Option (List aH)}(bE:k1=some r→Ax Γ N Tryz.f162 (.q [[some (152,2)]] (D.fr 152 2 ((r).map aH.c))) [1,1,1] ⟨[(0,D.acc 0),(1,D.str (aM))],[Ob.row .uq 152 2 ((aA).map aH.c)]⟩)(hm1:(aA).length≤maxLen):∀(rest:List aH) (i1:Nat),(aA).drop i1=rest→kO aA aM k1 rest i1=some r→Ar Γ N Tryz.f162 (.q [[some (152,2)]] (D.fr 152 2 ((r).map aH.c))) [1,1,0,1,0] (rest.length+1) (RB aA aM ((i1:Int))):=by
 intro rest
 induction rest with
 |nil=>
  intro i1 aO h
  rw[kO]at h
  refine aJ fun N1 aY aV=>?_
  exact((aK.ge aH.c aO).a [.hl 0 [0,1] [0]]).ex hΓ aY (bE h)
 |cons aS aX ih1=>
  intro i1 aO h
  rw[kO]at h
  refine aJ fun N1 aY aV=>?_
  have jO:=(((aK.lt aH.c aO).i (nY aH.c 2 (dc aO))).o 2 1 .uq (cA aH.c (dc aO)))
  obtain⟨h17,h⟩|⟨h17,h⟩:=aE h
  ·have h:=aC h;subst h;exact(jO.b h17).ret hΓ
  ·exact((jO.b h17).a [.cn [0,1,5] [0]]).ct hΓ aV (iS aO hm1) (ih1 (i1+1) (dn aO) h)
theorem rA{aA:List aH}{aM:Bytes}{r:List aH}(h:mZ aA aM=some r):L4 Tryz.prog 162 [D.acc 0,D.str (aM)] 152 2 ((aA).map aH.c) ((r).map aH.c):=by
 refine L4.of (c:=FZ Tryz.f162) Tryz.func162 rfl (by decide) (by simp[Tryz.f162]) (CJ (c:=aH.c) (fun _=>rfl) r) ?_
 intro BN Γ hΓ
 have hΓ:Γ.nt=34:=hΓ
 rw[mZ]at h
 refine(show AW Tryz.prog Γ (FZ Tryz.f162) (KQ Tryz.prog Γ (fun _ _=>False) ((Kd.q [[some (152,2)]] (D.fr 152 2 ((r).map aH.c))).qq Tryz.prog Tryz.f162) []) _ from ?_)
 obtain⟨y1,h2,h⟩:=aB h
 obtain⟨h3,h⟩|⟨h3,h⟩:=aE h
 ·have h:=aC h;subst h;exact((aK.g (cU h2)).b h3).ret hΓ
 ·refine(((aK.g (cU h2)).b h3).a [.cn [0,1,5] [0]]).lp hΓ (PJ hΓ (fun h=>?_) (by simpa using BN) (aA) 0 rfl h)
  obtain⟨y18,h19,h⟩:=aB h
  obtain⟨h20,h⟩:=aU h
  obtain⟨h21,h⟩:=aU h
  cases h;exact(((aK.g (sR h19)).w (of_decide_eq_true h20)).w (aZ h21)).rts hΓ (D.fr 152 2 (((aA).map aH.c)++([[D.str (aM),D.str (([63])++(y18))]]))) (by first|rfl| (simp only[mA]<;>rfl))
def e9(aA:aI)(i1:Nat)(aS:aF)(k2:List aH→Option (List aH)):List Bytes→Nat→List aH→Option (List aH)
 | [],i2,gC=>(k2 (gC))
 |o8::wO,i2,gC=>((mZ (gC) (o8)).bind fun BS=>(e9 aA i1 aS k2 wO (i2+1) (BS)))
def eA(aA:aI)(k1:List aH→Option (List aH)):List aF→Nat→List aH→Option (List aH)
 | [],i1,aW=>(k1 (aW))
 |aS::aX,i1,aW=>(bif decide ((aS.pat.args).length≤maxLen)then(e9 aA i1 aS (fun(wI:List aH)=>((mZ (wI) (aS.left)).bind fun xD=>((mZ (xD) (aS.right)).bind fun a6z=>(eA aA k1 aX (i1+1) (a6z))))) (aS.pat.args) 0 (aW))else none)
def oL(aA:aI):Option (List aH):=(eA aA (fun(aT:List aH)=>(some (aT))) (aA.conds) 0 (([]:List aH)))
def GV(aA:aI)(W0:List (List D))(bB:Int):St:=⟨[(1,D.ptr 0 0),(3,D.acc 1),(4,D.int .i64 (bB))],[Ob.box (aI.c aA),Ob.row .uq 152 2 (W0)]⟩
def GW(aA:aI)(i1:Nat)(W0:List (List D))(bB:Int):St:=⟨[(1,D.ptr 0 0),(3,D.acc 1),(4,D.int .i64 ((i1:Int))),(5,D.int .i64 (bB))],[Ob.box (aI.c aA),Ob.row .uq 152 2 (W0)]⟩
theorem ER(hΓ:Γ.nt=55){aA:aI}{i1:Nat}{aS:aF}{r:List aH}{k2:List aH→Option (List aH)}(IK:∀(wI:List aH),k2 wI=some r→Ax Γ N Tryz.f92 (.q [[some (152,2)]] (D.fr 152 2 ((r).map aH.c))) [1,1,0,1,0,0,1,0,0,1] ⟨[(1,D.ptr 0 0),(3,D.acc 1),(4,D.int .i64 ((i1:Int)))],[Ob.box (aI.c aA),Ob.row .uq 152 2 ((wI).map aH.c)]⟩)(hx1:(aA.conds)[i1]?=some aS)(hm2:(aS.pat.args).length≤maxLen):∀(rest:List Bytes) (i2:Nat) (gC:List aH),(aS.pat.args).drop i2=rest→e9 aA i1 aS k2 rest i2 gC=some r→Ar Γ N Tryz.f92 (.q [[some (152,2)]] (D.fr 152 2 ((r).map aH.c))) [1,1,0,1,0,0,1,0,0,0,1,0] (rest.length+1) (GW aA i1 ((gC).map aH.c) ((i2:Int))):=by
 intro rest
 induction rest with
 |nil=>
  intro i2 gC hd2 h
  rw[e9]at h
  refine aJ fun N2 yR wG=>?_
  exact(((aK.l (aQ aF.c 5 hx1 rfl)).ge tx hd2).a [.hl 5 [1,3,4] [0,1]]).ex hΓ yR (IK (gC) h)
 |cons o8 wO ih2=>
  intro i2 gC hd2 h
  rw[e9]at h
  refine aJ fun N2 yR wG=>?_
  obtain⟨BS,h207,h⟩:=aB h
  exact(((((((aK.l (aQ aF.c 5 hx1 rfl)).lt tx hd2).l (aQ aF.c 5 hx1 rfl)).l (aQ tx 1 (dc hd2) rfl)).w (show((gC).map aH.c).flatten.all D.flat=true from by simpa only[List.map_append,List.map_cons,List.map_nil]using CJ (c:=aH.c) (fun _=>rfl) (gC))).w (show L4 Tryz.prog 162 [D.acc 0,D.str (o8)] 152 2 ((gC).map aH.c) ((BS).map aH.c)from by simpa only[List.map_append,List.map_cons,List.map_nil]using rA h207)).a [.ov 1 ((BS).map aH.c),.cn [1,3,4,5] [0,2]]).ct hΓ wG (iS hd2 hm2) (ih2 (i2+1) (BS) (dn hd2) h)
theorem ES(hΓ:Γ.nt=55){aA:aI}{r:List aH}{k1:List aH→Option (List aH)}(bE:∀(aT:List aH),k1 aT=some r→Ax Γ N Tryz.f92 (.q [[some (152,2)]] (D.fr 152 2 ((r).map aH.c))) [1,1,1] ⟨[(3,D.acc 0)],[Ob.row .uq 152 2 ((aT).map aH.c)]⟩)(hm1:(aA.conds).length≤maxLen):∀(rest:List aF) (i1:Nat) (aW:List aH),(aA.conds).drop i1=rest→eA aA k1 rest i1 aW=some r→Ar Γ N Tryz.f92 (.q [[some (152,2)]] (D.fr 152 2 ((r).map aH.c))) [1,1,0,1,0] (rest.length+1) (GV aA ((aW).map aH.c) ((i1:Int))):=by
 intro rest
 induction rest with
 |nil=>
  intro i1 aW aO h
  rw[eA]at h
  refine aJ fun N1 aY aV=>?_
  exact((aK.ge aF.c aO).a [.hl 0 [3] [1]]).ex hΓ aY (bE (aW) h)
 |cons aS aX ih1=>
  intro i1 aW aO h
  rw[eA]at h
  refine aJ fun N1 aY aV=>?_
  obtain⟨h212,h⟩:=aU h
  refine((aK.lt aF.c aO).a [.cn [1,3,4,5] [0,1]]).lp hΓ (ER hΓ (fun wI h=>?_) ((drop_cons aO).1) (of_decide_eq_true h212) (aS.pat.args) 0 (aW) rfl h)
  obtain⟨xD,h209,h⟩:=aB h
  obtain⟨a6z,h211,h⟩:=aB h
  exact((((((((aK.l (aQ aF.c 5 (dc aO) rfl)).w (show((wI).map aH.c).flatten.all D.flat=true from by simpa only[List.map_append,List.map_cons,List.map_nil]using CJ (c:=aH.c) (fun _=>rfl) (wI))).w (show L4 Tryz.prog 162 [D.acc 0,D.str (aS.left)] 152 2 ((wI).map aH.c) ((xD).map aH.c)from by simpa only[List.map_append,List.map_cons,List.map_nil]using rA h209)).a [.ov 1 ((xD).map aH.c)]).l (aQ aF.c 5 (dc aO) rfl)).w (show((xD).map aH.c).flatten.all D.flat=true from by simpa only[List.map_append,List.map_cons,List.map_nil]using CJ (c:=aH.c) (fun _=>rfl) (xD))).w (show L4 Tryz.prog 162 [D.acc 0,D.str (aS.right)] 152 2 ((xD).map aH.c) ((a6z).map aH.c)from by simpa only[List.map_append,List.map_cons,List.map_nil]using rA h211)).a [.ov 2 ((a6z).map aH.c),.cn [1,3,4] [0,3]]).ct hΓ aV (iS aO hm1) (ih1 (i1+1) (a6z) (dn aO) h)
theorem DQ{aA:aI}{r:List aH}(h:oL aA=some r):Good Tryz.prog 92 [D.agg (aI.c aA)] (D.fr 152 2 ((r).map aH.c)):=by
 refine gd Tryz.func92 [[some (152,2)]] 55 fun hr Γ hΓ=>?_
 rw[oL]at h
 refine(aK.a [.cn [1,3,4] [0,1]]).lp hΓ (ES hΓ (fun aT h=>?_) (by have:=(bR.sl (bR.agg (hr _ (List.mem_of_getElem? (i:=0) rfl)) (.sl ((aA.conds).map aF.c)) (by simp))).1;simpa using this) (aA.conds) 0 (([]:List aH)) rfl h)
 have h:=aC h;subst h;exact aK.ret hΓ
def gY(aA:aI)(y1:List aH)(k1:List aF→Option (List aF)):List aF→Nat→List aF→Option (List aF)
 | [],i1,aW=>(k1 (aW))
 |aS::aX,i1,aW=>((fV (aS) (y1)).bind fun GK=>(bif room (((aW).map aF.c).length+([[D.int .i64 (GK.kind),D.str (GK.pat.rel),D.sl ((GK.pat.args).map tx),D.str (GK.left),D.str (GK.right)]]).length) 80 then(gY aA y1 k1 aX (i1+1) ((aW)++([GK])))else none))
def oM(aA:aI):Option (List aF):=((oL (aA)).bind fun y1=>(gY aA y1 (fun(aT:List aF)=>(some (aT))) (aA.conds) 0 (([]:List aF))))
def xW(aA:aI)(y1:List aH)(W0:List (List D))(bB:Int):St:=⟨[(1,D.ptr 0 0),(3,D.acc 1),(4,D.acc 2),(5,D.int .i64 (bB))],[Ob.box (aI.c aA),Ob.row .uq 115 5 (W0),Ob.row .uq 152 2 ((y1).map aH.c)]⟩
theorem ET(hΓ:Γ.nt=27){aA:aI}{y1:List aH}{r:List aF}{k1:List aF→Option (List aF)}(bE:∀(aT:List aF),k1 aT=some r→Ax Γ N Tryz.f132 (.q [[some (115,5)]] (D.fr 115 5 ((r).map aF.c))) [1,1,1,1] ⟨[(3,D.acc 0)],[Ob.row .uq 115 5 ((aT).map aF.c)]⟩)(hm1:(aA.conds).length≤maxLen):∀(rest:List aF) (i1:Nat) (aW:List aF),(aA.conds).drop i1=rest→gY aA y1 k1 rest i1 aW=some r→Ar Γ N Tryz.f132 (.q [[some (115,5)]] (D.fr 115 5 ((r).map aF.c))) [1,1,1,0,1,0] (rest.length+1) (xW aA y1 ((aW).map aF.c) ((i1:Int))):=by
 intro rest
 induction rest with
 |nil=>
  intro i1 aW aO h
  rw[gY]at h
  refine aJ fun N1 aY aV=>?_
  exact((aK.ge aF.c aO).a [.hl 0 [3] [1]]).ex hΓ aY (bE (aW) h)
 |cons aS aX ih1=>
  intro i1 aW aO h
  rw[gY]at h
  refine aJ fun N1 aY aV=>?_
  obtain⟨GK,h30,h⟩:=aB h
  obtain⟨h31,h⟩:=aU h
  exact(((((aK.lt aF.c aO).l (aQ aF.c 5 (dc aO) rfl)).g (eU h30)).w (aZ h31)).a [.cn [1,3,4,5] [0,5,2]]).cs hΓ aV (xW aA y1 (((aW).map aF.c)++([[D.int .i64 (GK.kind),D.str (GK.pat.rel),D.sl ((GK.pat.args).map tx),D.str (GK.left),D.str (GK.right)]])) (IntKind.i64.wrap (((i1:Int))+(1)))) (by first| (simp only[iS aO hm1,mA]<;>rfl)| (simp only[iS aO hm1,mA,aD.c,aH.c,aF.c,Action.c,aI.c,aL.c,bH.c,aN.c,Node.c,aG.c,bI.c]<;>rfl)) (ih1 (i1+1) ((aW)++([GK])) (dn aO) h)
theorem DR{aA:aI}{r:List aF}(h:oM aA=some r):Good Tryz.prog 132 [D.agg (aI.c aA)] (D.fr 115 5 ((r).map aF.c)):=by
 refine gd Tryz.func132 [[some (115,5)]] 27 fun hr Γ hΓ=>?_
 rw[oM]at h
 obtain⟨y1,h2,h⟩:=aB h
 refine((aK.g (DQ h2)).a [.cn [1,3,4,5] [0,1,2]]).lp hΓ (ET hΓ (fun aT h=>?_) (by have:=(bR.sl (bR.agg (hr _ (List.mem_of_getElem? (i:=0) rfl)) (.sl ((aA.conds).map aF.c)) (by simp))).1;simpa using this) (aA.conds) 0 (([]:List aF)) rfl h)
 have h:=aC h;subst h;exact aK.ret hΓ
def eC(aA:aD)(aM:aD):Option Bool:=(bif (aA.rel:Bytes)==(aM.rel)then((kJ (aA.args) (aM.args)).bind fun y2=>(some (y2)))else(some (false)))
theorem qA{aA:aD}{aM:aD}{r:Bool}(h:eC aA aM=some r):Good Tryz.prog 148 [D.agg (aD.c aA),D.agg (aD.c aM)] (D.bool (r)):=by
 refine gd Tryz.func148 [[none]] 17 fun hr Γ hΓ=>?_
 rw[eC]at h
 obtain⟨h1,h⟩|⟨h1,h⟩:=aE h
 ·obtain⟨y2,h3,h⟩:=aB h
  have h:=aC h;subst h;exact(((aK.r 5 h1).g (vS h3)).b h1).ret hΓ
 ·have h:=aC h;subst h;exact(aK.r 6 h1).ret hΓ
def mJ(aA:aF)(aM:aF):Option Bool:=(bif (aA.kind:Int)==(aM.kind)then((eC (aA.pat) (aM.pat)).bind fun y2=>(bif y2 then(bif (aA.left:Bytes)==(aM.left)then(some ((aA.right:Bytes)==(aM.right)))else(some (false)))else(some (false))))else(some (false)))
theorem xX{aA:aF}{aM:aF}{r:Bool}(h:mJ aA aM=some r):Good Tryz.prog 149 [D.agg (aF.c aA),D.agg (aF.c aM)] (D.bool (r)):=by
 refine gd Tryz.func149 [[none]] 31 fun hr Γ hΓ=>?_
 rw[mJ]at h
 obtain⟨h1,h⟩|⟨h1,h⟩:=aE h
 ·obtain⟨y2,h3,h⟩:=aB h
  have jO:=(((aK.r 5 h1).g (qA h3)).b h1)
  obtain⟨h4,h⟩|⟨h4,h⟩:=aE h
  ·have bO:=(jO.r 6 h4)
   obtain⟨h5,h⟩|⟨h5,h⟩:=aE h
   ·cases h;exact(bO.r 6 h5).ret hΓ
   ·have h:=aC h;subst h;exact(bO.r 6 h5).ret hΓ
  ·have h:=aC h;subst h;exact((jO.r 6 h4).F 6).ret hΓ
 ·have h:=aC h;subst h;exact((aK.r 6 h1).F 12).ret hΓ
def iT(aA:aD)(k1:List aH→Option aD):List Bytes→Nat→List aH→Option aD
 | [],i1,iU=>(k1 (iU))
 |aS::aX,i1,iU=>((mZ (iU) (aS)).bind fun iI=>(iT aA k1 aX (i1+1) (iI)))
def qB(aA:aD):Option aD:=(iT aA (fun(vZ:List aH)=>((fV ((⟨0,aA,[],[]⟩:aF)) (vZ)).bind fun VQ=>(some (VQ.pat)))) (aA.args) 0 (([]:List aH)))
def PK(aA:aD)(W0:List (List D))(bB:Int):St:=⟨[(1,D.ptr 0 0),(2,D.ptr 1 0),(3,D.acc 2),(4,D.int .i64 (bB))],[Ob.box (aD.c aA),Ob.box [D.str ([]),D.nil],Ob.row .uq 152 2 (W0)]⟩
theorem N0(hΓ:Γ.nt=25){aA:aD}{r:aD}{k1:List aH→Option aD}(bE:∀(vZ:List aH),k1 vZ=some r→Ax Γ N Tryz.f199 (.q [[none,some (9,1)]] (D.agg [D.str (r.rel),D.fr 9 1 ((r.args).map tx)])) [1,1,1] ⟨[(1,D.ptr 0 0),(2,D.ptr 1 0),(3,D.acc 2)],[Ob.box (aD.c aA),Ob.box [D.str ([]),D.nil],Ob.row .uq 152 2 ((vZ).map aH.c)]⟩)(hm1:(aA.args).length≤maxLen):∀(rest:List Bytes) (i1:Nat) (iU:List aH),(aA.args).drop i1=rest→iT aA k1 rest i1 iU=some r→Ar Γ N Tryz.f199 (.q [[none,some (9,1)]] (D.agg [D.str (r.rel),D.fr 9 1 ((r.args).map tx)])) [1,1,0,1,0] (rest.length+1) (PK aA ((iU).map aH.c) ((i1:Int))):=by
 intro rest
 induction rest with
 |nil=>
  intro i1 iU aO h
  rw[iT]at h
  refine aJ fun N1 aY aV=>?_
  exact((aK.ge tx aO).a [.hl 0 [1,2,3] [0,1,2]]).ex hΓ aY (bE (iU) h)
 |cons aS aX ih1=>
  intro i1 iU aO h
  rw[iT]at h
  refine aJ fun N1 aY aV=>?_
  obtain⟨iI,h23,h⟩:=aB h
  exact(((((aK.lt tx aO).l (aQ tx 1 (dc aO) rfl)).w (show((iU).map aH.c).flatten.all D.flat=true from by simpa only[List.map_append,List.map_cons,List.map_nil]using CJ (c:=aH.c) (fun _=>rfl) (iU))).w (show L4 Tryz.prog 162 [D.acc 0,D.str (aS)] 152 2 ((iU).map aH.c) ((iI).map aH.c)from by simpa only[List.map_append,List.map_cons,List.map_nil]using rA h23)).a [.ov 2 ((iI).map aH.c),.cn [1,2,3,4] [0,1,3]]).ct hΓ aV (iS aO hm1) (ih1 (i1+1) (iI) (dn aO) h)
theorem zE{aA:aD}{r:aD}(h:qB aA=some r):Good Tryz.prog 199 [D.agg (aD.c aA)] (D.agg [D.str (r.rel),D.fr 9 1 ((r.args).map tx)]):=by
 refine gd Tryz.func199 [[none,some (9,1)]] 25 fun hr Γ hΓ=>?_
 rw[qB]at h
 refine(aK.a [.cn [1,2,3,4] [0,1,2]]).lp hΓ (N0 hΓ (fun vZ h=>?_) (by have:=(bR.sl (bR.agg (hr _ (List.mem_of_getElem? (i:=0) rfl)) (.sl ((aA.args).map tx)) (by simp))).1;simpa using this) (aA.args) 0 (([]:List aH)) rfl h)
 obtain⟨VQ,h25,h⟩:=aB h
 cases h;exact((aK.a [.d (D.agg [D.int .i64 (VQ.kind),D.str (VQ.pat.rel),D.fr 9 1 ((VQ.pat.args).map tx),D.str (VQ.left),D.str (VQ.right)])]).w (show Good Tryz.prog 177 [D.agg [D.int .i64 (0),D.str (aA.rel),D.sl ((aA.args).map tx),D.str ([]),D.str ([])],D.sl ((vZ).map aH.c)] (D.agg [D.int .i64 (VQ.kind),D.str (VQ.pat.rel),D.fr 9 1 ((VQ.pat.args).map tx),D.str (VQ.left),D.str (VQ.right)])from by first| (simpa only[List.map_append,List.map_cons,List.map_nil,List.map_drop,List.map_take]using eU h25)|exact eU h25| (have t:=eU h25;simp only[List.map_append,List.map_drop,List.map_take,aF.c]at t;exact t))).ret hΓ
def b8(x:aG):List D:=[D.fr 105 4 ((x.rules).map aI.c),D.fr 3 1 ((x.ends).map iL),D.fr 111 3 ((x.aR).map aN.c),D.fr 118 8 ((x.nodes).map Node.c),D.fr 53 2 ((x.facts).map aD.c),D.int .i64 (x.bJ)]
def iV(aA:aG)(aM:aD)(k1:Option (aG×Int)):List aN→Nat→Option (aG×Int)
 | [],i1=>(k1)
 |aS::aX,i1=>((eC (aS.shape) (aM)).bind fun iI=>(bif iI then(some ((aA,(i1:Int))))else(iV aA aM k1 aX (i1+1))))
def qC(aA:aG)(aM:aD):Option (aG×Int):=(bif decide ((aA.aR).length≤maxLen)then(iV aA aM (bif room (((aA.aR).map aN.c).length+([[D.str (aM.rel),D.sl ((aM.args).map tx),D.sl ([])]]).length) 64 then(some (((⟨aA.rules,aA.ends,(aA.aR)++([(⟨aM,[]⟩:aN)]),aA.nodes,aA.facts,aA.bJ⟩:aG),IntKind.i64.wrap ((((((aA.aR).map aN.c)++([[D.str (aM.rel),D.sl ((aM.args).map tx),D.sl ([])]])).length:Int))-(1)))))else none) (aA.aR) 0)else none)
def PL(xE:Value)(aA:aG)(aM:aD)(bB:Int):St:=⟨[(0,D.ptr 0 0),(3,D.ptr 1 0),(5,D.int .i64 (bB))],[Ob.SI [D.acc 2,D.acc 3,D.acc 4,D.acc 5,D.acc 6,D.int .i64 (aA.bJ)] xE,Ob.box [D.str (aM.rel),D.acc 7],Ob.row .uq 105 4 ((aA.rules).map aI.c),Ob.row .uq 3 1 ((aA.ends).map iL),Ob.row .uq 111 3 ((aA.aR).map aN.c),Ob.row .uq 118 8 ((aA.nodes).map Node.c),Ob.row .uq 53 2 ((aA.facts).map aD.c),Ob.row .uq 9 1 ((aM.args).map tx)]⟩
theorem N6(hΓ:Γ.nt=43){xE:Value}{aA:aG}{aM:aD}{r:aG×Int}{k1:Option (aG×Int)}(bE:k1=some r→Ax Γ N Tryz.f198 (.p [[some (105,4),some (3,1),some (111,3),some (118,8),some (53,2),none],[none]] xE (b8 r.1) (D.int .i64 (r.2))) [1,1] ⟨[(0,D.ptr 0 0),(3,D.ptr 1 0)],[Ob.SI [D.acc 2,D.acc 3,D.acc 4,D.acc 5,D.acc 6,D.int .i64 (aA.bJ)] xE,Ob.box [D.str (aM.rel),D.acc 7],Ob.row .uq 105 4 ((aA.rules).map aI.c),Ob.row .uq 3 1 ((aA.ends).map iL),Ob.row .uq 111 3 ((aA.aR).map aN.c),Ob.row .uq 118 8 ((aA.nodes).map Node.c),Ob.row .uq 53 2 ((aA.facts).map aD.c),Ob.row .uq 9 1 ((aM.args).map tx)]⟩)(hm1:(aA.aR).length≤maxLen):∀(rest:List aN) (i1:Nat),(aA.aR).drop i1=rest→iV aA aM k1 rest i1=some r→Ar Γ N Tryz.f198 (.p [[some (105,4),some (3,1),some (111,3),some (118,8),some (53,2),none],[none]] xE (b8 r.1) (D.int .i64 (r.2))) [1,0,1,0] (rest.length+1) (PL xE aA aM ((i1:Int))):=by
 intro rest
 induction rest with
 |nil=>
  intro i1 aO h
  rw[iV]at h
  refine aJ fun N1 aY aV=>?_
  exact((aK.ge aN.c aO).a [.hl 0 [0,3] [0,1,2,3,4,5,6,7]]).ex hΓ aY (bE h)
 |cons aS aX ih1=>
  intro i1 aO h
  rw[iV]at h
  refine aJ fun N1 aY aV=>?_
  obtain⟨iI,h23,h⟩:=aB h
  have bO:=(((((aK.lt aN.c aO).a [.n 9]).i (nY aN.c 3 (dc aO))).o 3 2 .uq (cA aN.c (dc aO))).g (qA h23))
  obtain⟨h24,h⟩|⟨h24,h⟩:=aE h
  ·cases h;exact(bO.b h24).ret hΓ
  ·exact((bO.b h24).a [.cn [0,3,5] [0,1,2,3,4,5,6,7]]).ct hΓ aV (iS aO hm1) (ih1 (i1+1) (dn aO) h)
theorem zF{aA:aG}{aM:aD}{r:aG×Int}(h:qC aA aM=some r):AD Tryz.prog 198 (b8 aA) (b8 r.1) [D.agg [D.str (aM.rel),D.fr 9 1 ((aM.args).map tx)]] (D.int .i64 (r.2)):=by
 refine gdP Tryz.func198 [[some (105,4),some (3,1),some (111,3),some (118,8),some (53,2),none],[none]] 43 [D.acc 1,D.acc 2,D.acc 3,D.acc 4,D.acc 5,D.int .i64 (aA.bJ)] [D.agg [D.str (aM.rel),D.acc 6]] [Ob.row .uq 105 4 ((aA.rules).map aI.c),Ob.row .uq 3 1 ((aA.ends).map iL),Ob.row .uq 111 3 ((aA.aR).map aN.c),Ob.row .uq 118 8 ((aA.nodes).map Node.c),Ob.row .uq 53 2 ((aA.facts).map aD.c),Ob.row .uq 9 1 ((aM.args).map tx)] fun hr xE Γ hΓ=>?_
 rw[qC]at h
 obtain⟨h27,h⟩:=aU h
 refine(aK.a [.cn [0,3,5] [0,7,1,2,3,4,5,6]]).lp hΓ (N6 hΓ (fun h=>?_) (of_decide_eq_true h27) (aA.aR) 0 rfl h)
 obtain⟨h26,h⟩:=aU h
 cases h;exact((aK.w (aZ h26)).a [.n2 [0,1,2,3,4,5,6,7,8,9,10,11] [0,1,2,3,4,5,6,7,8,9,10,11] 7 9 [0,1,2,3,4] [4,7,8]]).rts hΓ (D.iJ [D.int .i64 (IntKind.i64.wrap ((((((aA.aR).map aN.c)++([[D.str (aM.rel),D.sl ((aM.args).map tx),D.sl ([])]])).length:Int))-(1))),D.agg [D.fr 105 4 ((aA.rules).map aI.c),D.fr 3 1 ((aA.ends).map iL),D.fr 111 3 (((aA.aR).map aN.c)++([[D.str (aM.rel),D.sl ((aM.args).map tx),D.sl ([])]])),D.fr 118 8 ((aA.nodes).map Node.c),D.fr 53 2 ((aA.facts).map aD.c),D.int .i64 (aA.bJ)],D.val xE]) (by first|rfl| (simp only[mA]<;>rfl)| (simp only[b8,mA]<;>rfl))
def cV(aA:aG)(aM:Int)(bA:aF)(k1:Option (aG×Int)):Nat→Int→Option (aG×Int)
 |0,_=>none
 |n1+1,PM=>(bif decide ((PM:Int)<((((aA.nodes).map Node.c).length:Int)))then((oI (aA.nodes) (PM)).bind fun x16=>(bif (x16.parent:Int)==(aM)then((mJ (x16.cond) (bA)).bind fun y19=>(bif y19 then(some ((aA,PM)))else(cV aA aM bA k1 n1 (IntKind.i64.wrap ((PM)+(1))))))else(cV aA aM bA k1 n1 (IntKind.i64.wrap ((PM)+(1))))))else(k1))
def tU(aA:aG)(aM:Int)(bA:aF):Option (aG×Int):=(cV aA aM bA ((mY (bA)).bind fun iI=>(bif (bA.kind:Int)==(1)then((qB (bA.pat)).bind fun y25=>((qC (aA) (y25)).bind fun o9=>(bif room (((o9.1.nodes).map Node.c).length+([[D.int .i64 (aM),D.int .i64 (iI.kind),D.str (iI.pat.rel),D.sl ((iI.pat.args).map tx),D.str (iI.left),D.str (iI.right),D.int .i64 (o9.2),D.sl ([])]]).length) 120 then(some (((⟨o9.1.rules,o9.1.ends,o9.1.aR,(o9.1.nodes)++([(⟨aM,iI,o9.2,[]⟩:Node)]),o9.1.facts,o9.1.bJ⟩:aG),IntKind.i64.wrap ((((((o9.1.nodes).map Node.c)++([[D.int .i64 (aM),D.int .i64 (iI.kind),D.str (iI.pat.rel),D.sl ((iI.pat.args).map tx),D.str (iI.left),D.str (iI.right),D.int .i64 (o9.2),D.sl ([])]])).length:Int))-(1)))))else none)))else(bif (bA.kind:Int)==(2)then((qB (bA.pat)).bind fun CK=>((qC (aA) (CK)).bind fun FH=>(bif room (((FH.1.nodes).map Node.c).length+([[D.int .i64 (aM),D.int .i64 (iI.kind),D.str (iI.pat.rel),D.sl ((iI.pat.args).map tx),D.str (iI.left),D.str (iI.right),D.int .i64 (FH.2),D.sl ([])]]).length) 120 then(some (((⟨FH.1.rules,FH.1.ends,FH.1.aR,(FH.1.nodes)++([(⟨aM,iI,FH.2,[]⟩:Node)]),FH.1.facts,FH.1.bJ⟩:aG),IntKind.i64.wrap ((((((FH.1.nodes).map Node.c)++([[D.int .i64 (aM),D.int .i64 (iI.kind),D.str (iI.pat.rel),D.sl ((iI.pat.args).map tx),D.str (iI.left),D.str (iI.right),D.int .i64 (FH.2),D.sl ([])]])).length:Int))-(1)))))else none)))else(bif room (((aA.nodes).map Node.c).length+([[D.int .i64 (aM),D.int .i64 (iI.kind),D.str (iI.pat.rel),D.sl ((iI.pat.args).map tx),D.str (iI.left),D.str (iI.right),D.int .i64 (-1),D.sl ([])]]).length) 120 then(some (((⟨aA.rules,aA.ends,aA.aR,(aA.nodes)++([(⟨aM,iI, -1,[]⟩:Node)]),aA.facts,aA.bJ⟩:aG),IntKind.i64.wrap ((((((aA.nodes).map Node.c)++([[D.int .i64 (aM),D.int .i64 (iI.kind),D.str (iI.pat.rel),D.sl ((iI.pat.args).map tx),D.str (iI.left),D.str (iI.right),D.int .i64 (-1),D.sl ([])]])).length:Int))-(1)))))else none)))) fuel (1))
def PN(xE:Value)(aA:aG)(aM:Int)(bA:aF)(PM:Int):St:=⟨[(0,D.ptr 0 0),(1,D.int .i64 (aM)),(5,D.ptr 1 0),(7,D.int .i64 (PM))],[Ob.SI [D.acc 2,D.acc 3,D.acc 4,D.acc 5,D.acc 6,D.int .i64 (aA.bJ)] xE,Ob.box (aF.c bA),Ob.row .uq 105 4 ((aA.rules).map aI.c),Ob.row .uq 3 1 ((aA.ends).map iL),Ob.row .uq 111 3 ((aA.aR).map aN.c),Ob.row .uq 118 8 ((aA.nodes).map Node.c),Ob.row .uq 53 2 ((aA.facts).map aD.c)]⟩
theorem N7(hΓ:Γ.nt=75){xE:Value}{aA:aG}{aM:Int}{bA:aF}{r:aG×Int}{k1:Option (aG×Int)}(bE:k1=some r→Ax Γ N Tryz.f133 (.p [[some (105,4),some (3,1),some (111,3),some (118,8),some (53,2),none],[none]] xE (b8 r.1) (D.int .i64 (r.2))) [1,1] ⟨[(0,D.ptr 0 0),(1,D.int .i64 (aM)),(5,D.ptr 1 0)],[Ob.SI [D.acc 2,D.acc 3,D.acc 4,D.acc 5,D.acc 6,D.int .i64 (aA.bJ)] xE,Ob.box (aF.c bA),Ob.row .uq 105 4 ((aA.rules).map aI.c),Ob.row .uq 3 1 ((aA.ends).map iL),Ob.row .uq 111 3 ((aA.aR).map aN.c),Ob.row .uq 118 8 ((aA.nodes).map Node.c),Ob.row .uq 53 2 ((aA.facts).map aD.c)]⟩):∀(n1:Nat) (PM:Int),cV aA aM bA k1 n1 PM=some r→Ar Γ N Tryz.f133 (.p [[some (105,4),some (3,1),some (111,3),some (118,8),some (53,2),none],[none]] xE (b8 r.1) (D.int .i64 (r.2))) [1,0,1,0] n1 (PN xE aA aM bA PM):=by
 intro n
 induction n with
 |zero=>intro PM h;simp[cV]at h
 |succ n1 ih1=>
  intro PM h
  rw[cV]at h
  refine aJ fun N1 aY aV=>?_
  obtain⟨h15,h⟩|⟨h15,h⟩:=aE h
  ·obtain⟨x16,h17,h⟩:=aB h
   have mG:=((((aK.b h15).a [.n 20]).i (Y7 Node.c 8 h17)).o 8 1 .uq (cA Node.c (TC h17)))
   obtain⟨h18,h⟩|⟨h18,h⟩:=aE h
   ·obtain⟨y19,h20,h⟩:=aB h
    have l8:=(((((((mG.r 6 h18).i (Y7 Node.c 8 h17)).r 2 h18).o 8 6 .uq (cA Node.c (TC h17))).r 2 h18).g (xX h20)).b h18)
    obtain⟨h21,h⟩|⟨h21,h⟩:=aE h
    ·cases h;exact(l8.b h21).ret hΓ
    ·exact((l8.b h21).a [.cn [0,1,5,7] [0,1,2,3,4,5,6]]).cf hΓ aV (ih1 (IntKind.i64.wrap ((PM)+(1))) h)
   ·exact(((mG.r 11 h18).F 1).a [.cn [0,1,5,7] [0,1,2,3,4,5,6]]).cf hΓ aV (ih1 (IntKind.i64.wrap ((PM)+(1))) h)
  ·exact((aK.b h15).a [.hl 0 [0,1,5] [0,1,2,3,4,5,6]]).ex hΓ aY (bE h)
theorem K4{aA:aG}{aM:Int}{bA:aF}{r:aG×Int}(h:tU aA aM bA=some r):AD Tryz.prog 133 (b8 aA) (b8 r.1) [D.int .i64 (aM),D.agg (aF.c bA)] (D.int .i64 (r.2)):=by
 refine gdP Tryz.func133 [[some (105,4),some (3,1),some (111,3),some (118,8),some (53,2),none],[none]] 75 [D.acc 1,D.acc 2,D.acc 3,D.acc 4,D.acc 5,D.int .i64 (aA.bJ)] [D.int .i64 (aM),D.agg [D.int .i64 (bA.kind),D.str (bA.pat.rel),D.sl ((bA.pat.args).map tx),D.str (bA.left),D.str (bA.right)]] [Ob.row .uq 105 4 ((aA.rules).map aI.c),Ob.row .uq 3 1 ((aA.ends).map iL),Ob.row .uq 111 3 ((aA.aR).map aN.c),Ob.row .uq 118 8 ((aA.nodes).map Node.c),Ob.row .uq 53 2 ((aA.facts).map aD.c)] fun hr xE Γ hΓ=>?_
 rw[tU]at h
 refine(aK.a [.cn [0,1,5,7] [0,6,1,2,3,4,5]]).lp hΓ (N7 hΓ (fun h=>?_) fuel (1) h)
 obtain⟨iI,h23,h⟩:=aB h
 obtain⟨h24,h⟩|⟨h24,h⟩:=aE h
 ·obtain⟨y25,h26,h⟩:=aB h
  obtain⟨o9,h28,h⟩:=aB h
  obtain⟨h30,h⟩:=aU h
  cases h;exact(((((((aK.g (qY h23)).r 4 h24).T 1).g (zE h26)).hp [[some (105,4),some (3,1),some (111,3),some (118,8),some (53,2),none],[none,some (9,1)]] (zF h28)).w (aZ h30)).a [.n2 [0,1,2,3,4,5,6,7,8,9,10] [0,1,2,3,4,5,6,7,8,9,10] 6 8 [0,1,2,3,4] [7,13,15]]).rts hΓ (D.iJ [D.int .i64 (IntKind.i64.wrap ((((((o9.1.nodes).map Node.c)++([[D.int .i64 (aM),D.int .i64 (iI.kind),D.str (iI.pat.rel),D.sl ((iI.pat.args).map tx),D.str (iI.left),D.str (iI.right),D.int .i64 (o9.2),D.sl ([])]])).length:Int))-(1))),D.agg [D.fr 105 4 ((o9.1.rules).map aI.c),D.fr 3 1 ((o9.1.ends).map iL),D.fr 111 3 ((o9.1.aR).map aN.c),D.fr 118 8 (((o9.1.nodes).map Node.c)++([[D.int .i64 (aM),D.int .i64 (iI.kind),D.str (iI.pat.rel),D.sl ((iI.pat.args).map tx),D.str (iI.left),D.str (iI.right),D.int .i64 (o9.2),D.sl ([])]])),D.fr 53 2 ((o9.1.facts).map aD.c),D.int .i64 (o9.1.bJ)],D.val xE]) (by first|rfl| (simp only[mA]<;>rfl)| (simp only[b8,mA]<;>rfl))
 ·have uV:=((aK.g (qY h23)).r 4 h24)
  obtain⟨h31,h⟩|⟨h31,h⟩:=aE h
  ·obtain⟨CK,h33,h⟩:=aB h
   obtain⟨FH,h35,h⟩:=aB h
   obtain⟨h37,h⟩:=aU h
   cases h;exact(((((uV.b h31).g (zE h33)).hp [[some (105,4),some (3,1),some (111,3),some (118,8),some (53,2),none],[none,some (9,1)]] (zF h35)).w (aZ h37)).a [.n2 [0,1,2,3,4,5,6,7,8,9,10] [0,1,2,3,4,5,6,7,8,9,10] 6 8 [0,1,2,3,4] [7,13,15]]).rts hΓ (D.iJ [D.int .i64 (IntKind.i64.wrap ((((((FH.1.nodes).map Node.c)++([[D.int .i64 (aM),D.int .i64 (iI.kind),D.str (iI.pat.rel),D.sl ((iI.pat.args).map tx),D.str (iI.left),D.str (iI.right),D.int .i64 (FH.2),D.sl ([])]])).length:Int))-(1))),D.agg [D.fr 105 4 ((FH.1.rules).map aI.c),D.fr 3 1 ((FH.1.ends).map iL),D.fr 111 3 ((FH.1.aR).map aN.c),D.fr 118 8 (((FH.1.nodes).map Node.c)++([[D.int .i64 (aM),D.int .i64 (iI.kind),D.str (iI.pat.rel),D.sl ((iI.pat.args).map tx),D.str (iI.left),D.str (iI.right),D.int .i64 (FH.2),D.sl ([])]])),D.fr 53 2 ((FH.1.facts).map aD.c),D.int .i64 (FH.1.bJ)],D.val xE]) (by first|rfl| (simp only[mA]<;>rfl)| (simp only[b8,mA]<;>rfl))
  ·obtain⟨h39,h⟩:=aU h
   cases h;exact(((uV.b h31).w (aZ h39)).a [.n2 [0,1,2,3,4,5,6,7,8,9,10] [0,1,2,3,4,5,6,7,8,9,10] 6 8 [0,1,2,3,4] [5,7,9]]).rts hΓ (D.iJ [D.int .i64 (IntKind.i64.wrap ((((((aA.nodes).map Node.c)++([[D.int .i64 (aM),D.int .i64 (iI.kind),D.str (iI.pat.rel),D.sl ((iI.pat.args).map tx),D.str (iI.left),D.str (iI.right),D.int .i64 (-1),D.sl ([])]])).length:Int))-(1))),D.agg [D.fr 105 4 ((aA.rules).map aI.c),D.fr 3 1 ((aA.ends).map iL),D.fr 111 3 ((aA.aR).map aN.c),D.fr 118 8 (((aA.nodes).map Node.c)++([[D.int .i64 (aM),D.int .i64 (iI.kind),D.str (iI.pat.rel),D.sl ((iI.pat.args).map tx),D.str (iI.left),D.str (iI.right),D.int .i64 (-1),D.sl ([])]])),D.fr 53 2 ((aA.facts).map aD.c),D.int .i64 (aA.bJ)],D.val xE]) (by first|rfl| (simp only[mA]<;>rfl)| (simp only[b8,mA]<;>rfl))
def dB(aA:List aI)(i1:Nat)(PO:List aF)(k2:Int→Int→List aI→List Int→List aN→List Node→List aD→Option (aG×Bool)):List aF→Nat→Int→Int→List aI→List Int→List aN→List Node→List aD→Option (aG×Bool)
 | [],i2,yT,mK,BT,mO,BU,BV,BW=>(k2 (yT) (mK) (BT) (mO) (BU) (BV) (BW))
 |o8::wO,i2,yT,mK,BT,mO,BU,BV,BW=>((tU ((⟨BT,mO,BU,BV,BW,mK⟩:aG)) (yT) (o8)).bind fun DS=>(dB aA i1 PO k2 wO (i2+1) (DS.2) (DS.1.bJ) (DS.1.rules) (DS.1.ends) (DS.1.aR) (DS.1.nodes) (DS.1.facts)))
def dD(aA:List aI)(k1:Int→List aI→List Int→List aN→List Node→List aD→Option (aG×Bool)):List aI→Nat→Int→List aI→List Int→List aN→List Node→List aD→Option (aG×Bool)
 | [],i1,mL,iU,dL,BX,BY,BZ=>(k1 (mL) (iU) (dL) (BX) (BY) (BZ))
 |aS::aX,i1,mL,iU,dL,BX,BY,BZ=>((oM (aS)).bind fun PO=>(bif decide ((PO).length≤maxLen)then(dB aA i1 PO (fun(GX:Int) (vM:Int) (N8:List aI) (AK:List Int) (N9:List aN) (NA:List Node) (NB:List aD)=>(bif room (((AK).map iL).length+([[D.int .i64 (GX)]]).length) 8 then(dD aA k1 aX (i1+1) (vM) (N8) ((AK)++([GX])) (N9) (NA) (NB))else none)) (PO) 0 (0) (mL) (iU) (dL) (BX) (BY) (BZ))else none))
def mP(aA:List aI):Option (aG×Bool):=((rR (aA)).bind fun y1=>(bif !(y1)then(some (((⟨[],[],[],[],[],0⟩:aG),false)))else((rL (aA)).bind fun y4=>(dD aA (fun(AQ:Int) (vZ:List aI) (lF:List Int) (UK:List aN) (UL:List Node) (UM:List aD)=>(some (((⟨vZ,lF,UK,UL,UM,AQ⟩:aG),true)))) (aA) 0 (0) (y4) (([]:List Int)) (([]:List aN)) ([(⟨-1,(⟨0,(⟨[],[]⟩:aD),[],[]⟩:aF), -1,[(⟨[],[]⟩:aL)]⟩:Node)]) (([]:List aD))))))
def rB(aA:List aI)(mL:Int)(W1:List (List D))(W2:List (List D))(W3:List (List D))(W4:List (List D))(W5:List (List D))(bB:Int):St:=⟨[(0,D.sl ((aA).map aI.c)),(2,D.ptr 0 0),(4,D.ptr 1 0),(5,D.int .i64 (bB))],[Ob.box [D.nil,D.nil,D.nil,D.nil,D.nil,D.int .i64 (0)],Ob.box [D.acc 2,D.acc 3,D.acc 4,D.acc 5,D.acc 6,D.int .i64 (mL)],Ob.row .uq 105 4 (W1),Ob.row .uq 3 1 (W2),Ob.row .uq 111 3 (W3),Ob.row .uq 118 8 (W4),Ob.row .uq 53 2 (W5)]⟩
def DT(aA:List aI)(i1:Nat)(PO:List aF)(yT:Int)(mK:Int)(W2:List (List D))(W3:List (List D))(W4:List (List D))(W5:List (List D))(W6:List (List D))(bB:Int):St:=⟨[(0,D.sl ((aA).map aI.c)),(2,D.ptr 0 0),(4,D.ptr 1 0),(5,D.int .i64 ((i1:Int))),(6,D.int .i64 (yT)),(7,D.acc 2),(8,D.int .i64 (bB))],[Ob.box [D.nil,D.nil,D.nil,D.nil,D.nil,D.int .i64 (0)],Ob.box [D.acc 3,D.acc 4,D.acc 5,D.acc 6,D.acc 7,D.int .i64 (mK)],Ob.row .uq 115 5 ((PO).map aF.c),Ob.row .uq 105 4 (W2),Ob.row .uq 3 1 (W3),Ob.row .uq 111 3 (W4),Ob.row .uq 118 8 (W5),Ob.row .uq 53 2 (W6)]⟩
theorem CQ(hΓ:Γ.nt=50){aA:List aI}{i1:Nat}{PO:List aF}{r:aG×Bool}{k2:Int→Int→List aI→List Int→List aN→List Node→List aD→Option (aG×Bool)}(IK:∀(GX:Int) (vM:Int) (N8:List aI) (AK:List Int) (N9:List aN) (NA:List Node) (NB:List aD),k2 GX vM N8 AK N9 NA NB=some r→Ax Γ N Tryz.f77 (.q [[some (105,4),some (3,1),some (111,3),some (118,8),some (53,2),none],[none]] (D.iJ [D.agg [D.fr 105 4 ((r.1.rules).map aI.c),D.fr 3 1 ((r.1.ends).map iL),D.fr 111 3 ((r.1.aR).map aN.c),D.fr 118 8 ((r.1.nodes).map Node.c),D.fr 53 2 ((r.1.facts).map aD.c),D.int .i64 (r.1.bJ)],D.bool (r.2)])) [1,1,1,0,1,0,0,1,0,0,1,1,1] ⟨[(0,D.sl ((aA).map aI.c)),(2,D.ptr 0 0),(4,D.ptr 1 0),(5,D.int .i64 ((i1:Int))),(6,D.int .i64 (GX))],[Ob.box [D.nil,D.nil,D.nil,D.nil,D.nil,D.int .i64 (0)],Ob.box [D.acc 2,D.acc 3,D.acc 4,D.acc 5,D.acc 6,D.int .i64 (vM)],Ob.row .uq 105 4 ((N8).map aI.c),Ob.row .uq 3 1 ((AK).map iL),Ob.row .uq 111 3 ((N9).map aN.c),Ob.row .uq 118 8 ((NA).map Node.c),Ob.row .uq 53 2 ((NB).map aD.c)]⟩)(hm2:(PO).length≤maxLen):∀(rest:List aF) (i2:Nat) (yT:Int) (mK:Int) (BT:List aI) (mO:List Int) (BU:List aN) (BV:List Node) (BW:List aD),(PO).drop i2=rest→dB aA i1 PO k2 rest i2 yT mK BT mO BU BV BW=some r→Ar Γ N Tryz.f77 (.q [[some (105,4),some (3,1),some (111,3),some (118,8),some (53,2),none],[none]] (D.iJ [D.agg [D.fr 105 4 ((r.1.rules).map aI.c),D.fr 3 1 ((r.1.ends).map iL),D.fr 111 3 ((r.1.aR).map aN.c),D.fr 118 8 ((r.1.nodes).map Node.c),D.fr 53 2 ((r.1.facts).map aD.c),D.int .i64 (r.1.bJ)],D.bool (r.2)])) [1,1,1,0,1,0,0,1,0,0,1,1,0,1,0] (rest.length+1) (DT aA i1 PO yT mK ((BT).map aI.c) ((mO).map iL) ((BU).map aN.c) ((BV).map Node.c) ((BW).map aD.c) ((i2:Int))):=by
 intro rest
 induction rest with
 |nil=>
  intro i2 yT mK BT mO BU BV BW hd2 h
  rw[dB]at h
  refine aJ fun N2 yR wG=>?_
  exact((aK.ge aF.c hd2).a [.hl 5 [0,2,4,5,6] [0,1,3,4,5,6,7]]).ex hΓ yR (IK (yT) (mK) (BT) (mO) (BU) (BV) (BW) h)
 |cons o8 wO ih2=>
  intro i2 yT mK BT mO BU BV BW hd2 h
  rw[dB]at h
  refine aJ fun N2 yR wG=>?_
  obtain⟨DS,h212,h⟩:=aB h
  exact((((((aK.lt aF.c hd2).i (nY aF.c 5 (dc hd2))).o 5 5 .uq (cA aF.c (dc hd2))).a [.gp [[some (105,4),some (3,1),some (111,3),some (118,8),some (53,2),none],[none],[none,none,none,none,none]] (b8 DS.1) (D.int .i64 (DS.2))]).w (show AD Tryz.prog 133 (b8 ((⟨BT,mO,BU,BV,BW,mK⟩:aG))) (b8 DS.1) [D.int .i64 (yT),D.agg (aF.c (o8))] (D.int .i64 (DS.2))from by simpa only[List.map_append,List.map_cons,List.map_nil,List.map_drop,List.map_take]using K4 h212)).a [.cn [0,2,4,5,6,7,8] [0,1,2,8,9,10,11,12]]).ct hΓ wG (iS hd2 hm2) (ih2 (i2+1) (DS.2) (DS.1.bJ) (DS.1.rules) (DS.1.ends) (DS.1.aR) (DS.1.nodes) (DS.1.facts) (dn hd2) h)
theorem CR(hΓ:Γ.nt=50){aA:List aI}{r:aG×Bool}{k1:Int→List aI→List Int→List aN→List Node→List aD→Option (aG×Bool)}(bE:∀(AQ:Int) (vZ:List aI) (lF:List Int) (UK:List aN) (UL:List Node) (UM:List aD),k1 AQ vZ lF UK UL UM=some r→Ax Γ N Tryz.f77 (.q [[some (105,4),some (3,1),some (111,3),some (118,8),some (53,2),none],[none]] (D.iJ [D.agg [D.fr 105 4 ((r.1.rules).map aI.c),D.fr 3 1 ((r.1.ends).map iL),D.fr 111 3 ((r.1.aR).map aN.c),D.fr 118 8 ((r.1.nodes).map Node.c),D.fr 53 2 ((r.1.facts).map aD.c),D.int .i64 (r.1.bJ)],D.bool (r.2)])) [1,1,1,1] ⟨[(2,D.ptr 0 0),(4,D.ptr 1 0)],[Ob.box [D.nil,D.nil,D.nil,D.nil,D.nil,D.int .i64 (0)],Ob.box [D.acc 2,D.acc 3,D.acc 4,D.acc 5,D.acc 6,D.int .i64 (AQ)],Ob.row .uq 105 4 ((vZ).map aI.c),Ob.row .uq 3 1 ((lF).map iL),Ob.row .uq 111 3 ((UK).map aN.c),Ob.row .uq 118 8 ((UL).map Node.c),Ob.row .uq 53 2 ((UM).map aD.c)]⟩)(hm1:(aA).length≤maxLen):∀(rest:List aI) (i1:Nat) (mL:Int) (iU:List aI) (dL:List Int) (BX:List aN) (BY:List Node) (BZ:List aD),(aA).drop i1=rest→dD aA k1 rest i1 mL iU dL BX BY BZ=some r→Ar Γ N Tryz.f77 (.q [[some (105,4),some (3,1),some (111,3),some (118,8),some (53,2),none],[none]] (D.iJ [D.agg [D.fr 105 4 ((r.1.rules).map aI.c),D.fr 3 1 ((r.1.ends).map iL),D.fr 111 3 ((r.1.aR).map aN.c),D.fr 118 8 ((r.1.nodes).map Node.c),D.fr 53 2 ((r.1.facts).map aD.c),D.int .i64 (r.1.bJ)],D.bool (r.2)])) [1,1,1,0,1,0] (rest.length+1) (rB aA mL ((iU).map aI.c) ((dL).map iL) ((BX).map aN.c) ((BY).map Node.c) ((BZ).map aD.c) ((i1:Int))):=by
 intro rest
 induction rest with
 |nil=>
  intro i1 mL iU dL BX BY BZ aO h
  rw[dD]at h
  refine aJ fun N1 aY aV=>?_
  exact((aK.ge aI.c aO).a [.hl 0 [2,4] [0,1,2,3,4,5,6]]).ex hΓ aY (bE (mL) (iU) (dL) (BX) (BY) (BZ) h)
 |cons aS aX ih1=>
  intro i1 mL iU dL BX BY BZ aO h
  rw[dD]at h
  refine aJ fun N1 aY aV=>?_
  obtain⟨PO,h183,h⟩:=aB h
  obtain⟨h214,h⟩:=aU h
  refine((((aK.lt aI.c aO).l (aQ aI.c 4 (dc aO) rfl)).g (DR h183)).a [.cn [0,2,4,5,6,7,8] [0,1,7,2,3,4,5,6]]).lp hΓ (CQ hΓ (fun GX vM N8 AK N9 NA NB h=>?_) (of_decide_eq_true h214) (PO) 0 (0) (mL) (iU) (dL) (BX) (BY) (BZ) rfl h)
  obtain⟨h213,h⟩:=aU h
  exact((aK.w (aZ h213)).a [.cn [0,2,4,5] [0,1,2,8,4,5,6]]).cs hΓ aV (rB aA vM ((N8).map aI.c) (((AK).map iL)++([[D.int .i64 (GX)]])) ((N9).map aN.c) ((NA).map Node.c) ((NB).map aD.c) (IntKind.i64.wrap (((i1:Int))+(1)))) (by first| (simp only[iS aO hm1,mA]<;>rfl)| (simp only[iS aO hm1,mA,aD.c,aH.c,aF.c,Action.c,aI.c,aL.c,bH.c,aN.c,Node.c,aG.c,bI.c]<;>rfl)) (ih1 (i1+1) (vM) (N8) ((AK)++([GX])) (N9) (NA) (NB) (dn aO) h)
theorem uX{aA:List aI}{r:aG×Bool}(h:mP aA=some r):Good Tryz.prog 77 [D.sl ((aA).map aI.c)] (D.iJ [D.agg [D.fr 105 4 ((r.1.rules).map aI.c),D.fr 3 1 ((r.1.ends).map iL),D.fr 111 3 ((r.1.aR).map aN.c),D.fr 118 8 ((r.1.nodes).map Node.c),D.fr 53 2 ((r.1.facts).map aD.c),D.int .i64 (r.1.bJ)],D.bool (r.2)]):=by
 refine gd Tryz.func77 [[some (105,4),some (3,1),some (111,3),some (118,8),some (53,2),none],[none]] 50 fun hr Γ hΓ=>?_
 rw[mP]at h
 obtain⟨y1,h2,h⟩:=aB h
 obtain⟨h3,h⟩|⟨h3,h⟩:=aE h
 ·cases h;exact((aK.g (xV h2)).b h3).ret hΓ
 ·obtain⟨y4,h5,h⟩:=aB h
  refine((((aK.g (xV h2)).b h3).g (GI h5)).a [.pb 4 1 3 1,.pb 4 2 111 3,.pb 4 4 53 2,.cn [0,2,4,5] [0,4,1,5,6,3,7]]).lps hΓ (rB aA 0 ((y4).map aI.c) (([]:List (List D))) (([]:List (List D))) ([[D.int .i64 (-1),D.int .i64 (0),D.str ([]),D.sl ([]),D.str ([]),D.str ([]),D.int .i64 (-1),D.sl ([[D.sl ([]),D.sl ([])]])]]) (([]:List (List D))) 0) (by first| (simp only[mA]<;>rfl)| (simp only[mA,aD.c,aH.c,aF.c,Action.c,aI.c,aL.c,bH.c,aN.c,Node.c,aG.c,bI.c]<;>rfl)) (CR hΓ (fun AQ vZ lF UK UL UM h=>?_) (by have:=(bR.sl (hr _ (List.mem_of_getElem? (i:=0) rfl))).1;simpa using this) (aA) 0 (0) (y4) (([]:List Int)) (([]:List aN)) ([(⟨-1,(⟨0,(⟨[],[]⟩:aD),[],[]⟩:aF), -1,[(⟨[],[]⟩:aL)]⟩:Node)]) (([]:List aD)) rfl h)
  cases h;exact aK.ret hΓ
def gZ(aA:aG)(aM:aG)(k1:Option Bool):List aN→Nat→Option Bool
 | [],i1=>(k1)
 |aS::aX,i1=>((oI (aM.aR) ((i1:Int))).bind fun x32=>((eC (aS.shape) (x32.shape)).bind fun FH=>(bif !(FH)then(some (false))else(gZ aA aM k1 aX (i1+1)))))
def eD(aA:aG)(aM:aG)(k2:Option Bool):List Node→Nat→Option Bool
 | [],i2=>(k2)
 |o8::wO,i2=>((oI (aM.nodes) ((i2:Int))).bind fun x73=>(bif (o8.parent:Int) != (x73.parent)then(some (false))else(bif (o8.iO:Int) != (x73.iO)then(some (false))else((mJ (o8.cond) (x73.cond)).bind fun y77=>(bif !(y77)then(some (false))else(eD aA aM k2 wO (i2+1)))))))
def eE(aA:aG)(aM:aG)(k3:Option Bool):List Int→Nat→Option Bool
 | [],i3=>(k3)
 |x3_::YH,i3=>((oI (aM.ends) ((i3:Int))).bind fun x100=>(bif (x3_:Int) != (x100)then(some (false))else(eE aA aM k3 YH (i3+1))))
def oN(aA:aG)(aM:aG):Option Bool:=(bif ((((aA.aR).map aN.c).length:Int):Int) != ((((aM.aR).map aN.c).length:Int))then(some (false))else(bif ((((aA.nodes).map Node.c).length:Int):Int) != ((((aM.nodes).map Node.c).length:Int))then(some (false))else(bif ((((aA.ends).map iL).length:Int):Int) != ((((aM.ends).map iL).length:Int))then(some (false))else(gZ aA aM (eD aA aM (eE aA aM (some (true)) (aA.ends) 0) (aA.nodes) 0) (aA.aR) 0))))
def GY(aA:aG)(aM:aG)(bB:Int):St:=⟨[(2,D.ptr 0 0),(3,D.ptr 1 0),(5,D.int .i64 (bB))],[Ob.box (aG.c aA),Ob.box (aG.c aM)]⟩
theorem EU(hΓ:Γ.nt=123){aA:aG}{aM:aG}{r:Bool}{k1:Option Bool}(bE:k1=some r→Ax Γ N Tryz.f85 (.q [[none]] (D.bool (r))) [1,1,1] ⟨[(2,D.ptr 0 0),(3,D.ptr 1 0)],[Ob.box (aG.c aA),Ob.box (aG.c aM)]⟩)(hm1:(aA.aR).length≤maxLen):∀(rest:List aN) (i1:Nat),(aA.aR).drop i1=rest→gZ aA aM k1 rest i1=some r→Ar Γ N Tryz.f85 (.q [[none]] (D.bool (r))) [1,1,0,1,0] (rest.length+1) (GY aA aM ((i1:Int))):=by
 intro rest
 induction rest with
 |nil=>
  intro i1 aO h
  rw[gZ]at h
  refine aJ fun N1 aY aV=>?_
  exact((aK.ge aN.c aO).a [.hl 0 [2,3] [0,1]]).ex hΓ aY (bE h)
 |cons aS aX ih1=>
  intro i1 aO h
  rw[gZ]at h
  refine aJ fun N1 aY aV=>?_
  obtain⟨x32,h33,h⟩:=aB h
  obtain⟨FH,h35,h⟩:=aB h
  have xU:=(((((aK.lt aN.c aO).a [.n 12]).l (aQ aN.c 3 (dc aO) rfl)).l (bP aN.c 3 h33 rfl)).g (qA h35))
  obtain⟨h36,h⟩|⟨h36,h⟩:=aE h
  ·have h:=aC h;subst h;exact(xU.b h36).ret hΓ
  ·exact((xU.b h36).a [.cn [2,3,5] [0,1]]).ct hΓ aV (iS aO hm1) (ih1 (i1+1) (dn aO) h)
def GZ(aA:aG)(aM:aG)(bB:Int):St:=⟨[(2,D.ptr 0 0),(3,D.ptr 1 0),(6,D.int .i64 (bB))],[Ob.box (aG.c aA),Ob.box (aG.c aM)]⟩
theorem EV(hΓ:Γ.nt=123){aA:aG}{aM:aG}{r:Bool}{k2:Option Bool}(IK:k2=some r→Ax Γ N Tryz.f85 (.q [[none]] (D.bool (r))) [1,1,1,1] ⟨[(2,D.ptr 0 0),(3,D.ptr 1 0)],[Ob.box (aG.c aA),Ob.box (aG.c aM)]⟩)(hm2:(aA.nodes).length≤maxLen):∀(rest:List Node) (i2:Nat),(aA.nodes).drop i2=rest→eD aA aM k2 rest i2=some r→Ar Γ N Tryz.f85 (.q [[none]] (D.bool (r))) [1,1,1,0,1,0] (rest.length+1) (GZ aA aM ((i2:Int))):=by
 intro rest
 induction rest with
 |nil=>
  intro i2 hd2 h
  rw[eD]at h
  refine aJ fun N2 yR wG=>?_
  exact((aK.ge Node.c hd2).a [.hl 0 [2,3] [0,1]]).ex hΓ yR (IK h)
 |cons o8 wO ih2=>
  intro i2 hd2 h
  rw[eD]at h
  refine aJ fun N2 yR wG=>?_
  obtain⟨x73,h74,h⟩:=aB h
  have BQ:=((((aK.lt Node.c hd2).a [.n 41]).l (aQ Node.c 8 (dc hd2) rfl)).l (bP Node.c 8 h74 rfl))
  obtain⟨h75,h⟩|⟨h75,h⟩:=aE h
  ·have h:=aC h;subst h;exact((BQ.r 14 h75).T 16).ret hΓ
  ·have L9:=(((((BQ.r 4 h75).l (aQ Node.c 8 (dc hd2) rfl)).r 6 h75).l (bP Node.c 8 h74 rfl)).r 4 h75)
   obtain⟨h76,h⟩|⟨h76,h⟩:=aE h
   ·have h:=aC h;subst h;exact((L9.r 15 h76).T 1).ret hΓ
   ·obtain⟨y77,h78,h⟩:=aB h
    have S8:=(((((((L9.r 4 h76).l (aQ Node.c 8 (dc hd2) rfl)).r 6 h76).l (bP Node.c 8 h74 rfl)).r 3 h76).g (xX h78)).r 2 h76)
    obtain⟨h79,h⟩|⟨h79,h⟩:=aE h
    ·have h:=aC h;subst h;exact(S8.b h79).ret hΓ
    ·exact((S8.b h79).a [.cn [2,3,6] [0,1]]).ct hΓ wG (iS hd2 hm2) (ih2 (i2+1) (dn hd2) h)
def H6(aA:aG)(aM:aG)(bB:Int):St:=⟨[(2,D.ptr 0 0),(3,D.ptr 1 0),(7,D.int .i64 (bB))],[Ob.box (aG.c aA),Ob.box (aG.c aM)]⟩
theorem EW(hΓ:Γ.nt=123){aA:aG}{aM:aG}{r:Bool}{k3:Option Bool}(hE3:k3=some r→Ax Γ N Tryz.f85 (.q [[none]] (D.bool (r))) [1,1,1,1,1] ⟨[],[]⟩)(hm3:(aA.ends).length≤maxLen):∀(rest:List Int) (i3:Nat),(aA.ends).drop i3=rest→eE aA aM k3 rest i3=some r→Ar Γ N Tryz.f85 (.q [[none]] (D.bool (r))) [1,1,1,1,0,1,0] (rest.length+1) (H6 aA aM ((i3:Int))):=by
 intro rest
 induction rest with
 |nil=>
  intro i3 zU h
  rw[eE]at h
  refine aJ fun N3 hN3 YI=>?_
  exact((aK.ge iL zU).a [.hl 0 [] []]).ex hΓ hN3 (hE3 h)
 |cons x3_ YH ih3=>
  intro i3 zU h
  rw[eE]at h
  refine aJ fun N3 hN3 YI=>?_
  obtain⟨x100,h101,h⟩:=aB h
  have CP:=((((aK.lt iL zU).a [.n 10]).l (aQ iL 1 (dc zU) rfl)).l (bP iL 1 h101 rfl))
  obtain⟨h102,h⟩|⟨h102,h⟩:=aE h
  ·have h:=aC h;subst h;exact(CP.b h102).ret hΓ
  ·exact((CP.b h102).a [.cn [2,3,7] [0,1]]).ct hΓ YI (iS zU hm3) (ih3 (i3+1) (dn zU) h)
theorem DU{aA:aG}{aM:aG}{r:Bool}(h:oN aA aM=some r):Good Tryz.prog 85 [D.agg (aG.c aA),D.agg (aG.c aM)] (D.bool (r)):=by
 refine gd Tryz.func85 [[none]] 123 fun hr Γ hΓ=>?_
 rw[oN]at h
 obtain⟨h1,h⟩|⟨h1,h⟩:=aE h
 ·have h:=aC h;subst h;exact((aK.r 8 h1).T 9).ret hΓ
 ·have P5:=(aK.r 8 h1)
  obtain⟨h2,h⟩|⟨h2,h⟩:=aE h
  ·have h:=aC h;subst h;exact((P5.r 8 h2).T 1).ret hΓ
  ·have EM:=(P5.r 8 h2)
   obtain⟨h3,h⟩|⟨h3,h⟩:=aE h
   ·have h:=aC h;subst h;exact(EM.b h3).ret hΓ
   ·refine((EM.b h3).a [.cn [2,3,5] [0,1]]).lp hΓ (EU hΓ (fun h=>?_) (by have:=(bR.sl (bR.agg (hr _ (List.mem_of_getElem? (i:=0) rfl)) (.sl ((aA.aR).map aN.c)) (by simp))).1;simpa using this) (aA.aR) 0 rfl h)
    refine(aK.a [.cn [2,3,6] [0,1]]).lp hΓ (EV hΓ (fun h=>?_) (by have:=(bR.sl (bR.agg (hr _ (List.mem_of_getElem? (i:=0) rfl)) (.sl ((aA.nodes).map Node.c)) (by simp))).1;simpa using this) (aA.nodes) 0 rfl h)
    refine(aK.a [.cn [2,3,7] [0,1]]).lp hΓ (EW hΓ (fun h=>?_) (by have:=(bR.sl (bR.agg (hr _ (List.mem_of_getElem? (i:=0) rfl)) (.sl ((aA.ends).map iL)) (by simp))).1;simpa using this) (aA.ends) 0 rfl h)
    have h:=aC h;subst h;exact aK.ret hΓ
def fM(aA:List aH)(k1:Option Bool):List aH→Nat→Option Bool
 | [],i1=>(k1)
 |aS::aX,i1=>((dU (aS.var)).bind fun RC=>(bif !(RC)then(some (false))else((cE (aS.value)).bind fun y52=>(bif !(y52)then(some (false))else(bif decide (((i1:Int):Int)>(0))then((oI (aA) (IntKind.i64.wrap (((i1:Int))-(1)))).bind fun x56=>(bif !(Op.bytesLess (x56.var) (aS.var))then(some (false))else(fM aA k1 aX (i1+1))))else(fM aA k1 aX (i1+1)))))))
def hG(aA:List aH):Option Bool:=(fM aA (some (decide (((((aA).map aH.c).length:Int):Int)≤(6)))) (aA) 0)
def K5(aA:List aH)(bB:Int):St:=⟨[(0,D.sl ((aA).map aH.c)),(3,D.int .i64 (bB))],[]⟩
theorem H7(hΓ:Γ.nt=47){aA:List aH}{r:Bool}{k1:Option Bool}(bE:k1=some r→Ax Γ N Tryz.f226 (.q [[none]] (D.bool (r))) [1,1] ⟨[(0,D.sl ((aA).map aH.c))],[]⟩)(hm1:(aA).length≤maxLen):∀(rest:List aH) (i1:Nat),(aA).drop i1=rest→fM aA k1 rest i1=some r→Ar Γ N Tryz.f226 (.q [[none]] (D.bool (r))) [1,0,1,0] (rest.length+1) (K5 aA ((i1:Int))):=by
 intro rest
 induction rest with
 |nil=>
  intro i1 aO h
  rw[fM]at h
  refine aJ fun N1 aY aV=>?_
  exact((aK.ge aH.c aO).a [.hl 0 [0] []]).ex hΓ aY (bE h)
 |cons aS aX ih1=>
  intro i1 aO h
  rw[fM]at h
  refine aJ fun N1 aY aV=>?_
  obtain⟨RC,h50,h⟩:=aB h
  have uV:=((((aK.lt aH.c aO).a [.n 31]).l (aQ aH.c 2 (dc aO) rfl)).g (cU h50))
  obtain⟨h51,h⟩|⟨h51,h⟩:=aE h
  ·have h:=aC h;subst h;exact((((uV.r 8 h51).T 3).a [bF,bF,bF,bF,bF,bF,bF,bF,bF,bF,bF,bF]).T 3).ret hΓ
  ·obtain⟨y52,h53,h⟩:=aB h
   have xU:=(((((uV.r 3 h51).l (aQ aH.c 2 (dc aO) rfl)).r 3 h51).g (bS h53)).r 2 h51)
   obtain⟨h54,h⟩|⟨h54,h⟩:=aE h
   ·have h:=aC h;subst h;exact((((xU.r 3 h54).a [bF,bF,bF,bF,bF,bF,bF,bF,bF,bF,bF,bF]).r 2 h54).T 1).ret hΓ
   ·have BQ:=(xU.r 3 h54)
    obtain⟨h55,h⟩|⟨h55,h⟩:=aE h
    ·obtain⟨x56,h57,h⟩:=aB h
     have L9:=((((((((BQ.r 4 h55).l (bP aH.c 2 h57 rfl)).r 5 h55).l (aQ aH.c 2 (dc aO) rfl)).r 3 h55).b h54).b h55).b h54)
     obtain⟨h58,h⟩|⟨h58,h⟩:=aE h
     ·have h:=aC h;subst h;exact(L9.b h58).ret hΓ
     ·exact((L9.b h58).a [.cn [0,3] []]).ct hΓ aV (iS aO hm1) (ih1 (i1+1) (dn aO) h)
    ·exact((((((BQ.r 12 h55).b h54).b h55).b h54).F 1).a [.cn [0,3] []]).ct hΓ aV (iS aO hm1) (ih1 (i1+1) (dn aO) h)
theorem jW{aA:List aH}{r:Bool}(h:hG aA=some r):Good Tryz.prog 226 [D.sl ((aA).map aH.c)] (D.bool (r)):=by
 refine gd Tryz.func226 [[none]] 47 fun hr Γ hΓ=>?_
 rw[hG]at h
 refine(aK.a [.cn [0,3] []]).lp hΓ (H7 hΓ (fun h=>?_) (by have:=(bR.sl (hr _ (List.mem_of_getElem? (i:=0) rfl))).1;simpa using this) (aA) 0 rfl h)
 cases h;exact aK.ret hΓ
def dV(aA:List aH)(aM:Bytes)(k1:Option (Bytes×Bool)):List aH→Nat→Option (Bytes×Bool)
 | [],i1=>(k1)
 |aS::aX,i1=>(bif (aS.var:Bytes)==(aM)then((dU (aM)).bind fun GK=>(bif GK then(some ((aS.value,true)))else(dV aA aM k1 aX (i1+1))))else(dV aA aM k1 aX (i1+1)))
def nU(aA:List aH)(aM:Bytes):Option (Bytes×Bool):=((cE (aM)).bind fun y1=>(bif y1 then(some ((aM,true)))else(dV aA aM (some (([],false))) (aA) 0)))
def PR(aA:List aH)(aM:Bytes)(bB:Int):St:=⟨[(0,D.sl ((aA).map aH.c)),(1,D.str (aM)),(6,D.int .i64 (bB))],[]⟩
theorem NC(hΓ:Γ.nt=32){aA:List aH}{aM:Bytes}{r:Bytes×Bool}{k1:Option (Bytes×Bool)}(bE:k1=some r→Ax Γ N Tryz.f163 (.q [[none],[none]] (D.iJ [D.str (r.1),D.bool (r.2)])) [1,1,1] ⟨[],[]⟩)(hm1:(aA).length≤maxLen):∀(rest:List aH) (i1:Nat),(aA).drop i1=rest→dV aA aM k1 rest i1=some r→Ar Γ N Tryz.f163 (.q [[none],[none]] (D.iJ [D.str (r.1),D.bool (r.2)])) [1,1,0,1,0] (rest.length+1) (PR aA aM ((i1:Int))):=by
 intro rest
 induction rest with
 |nil=>
  intro i1 aO h
  rw[dV]at h
  refine aJ fun N1 aY aV=>?_
  exact((aK.ge aH.c aO).a [.hl 0 [] []]).ex hΓ aY (bE h)
 |cons aS aX ih1=>
  intro i1 aO h
  rw[dV]at h
  refine aJ fun N1 aY aV=>?_
  have mG:=((aK.lt aH.c aO).l (aQ aH.c 2 (dc aO) rfl))
  obtain⟨h28,h⟩|⟨h28,h⟩:=aE h
  ·obtain⟨GK,h30,h⟩:=aB h
   have l8:=(((mG.r 2 h28).g (cU h30)).b h28)
   obtain⟨h31,h⟩|⟨h31,h⟩:=aE h
   ·cases h;exact((l8.b h31).l (aQ aH.c 2 (dc aO) rfl)).ret hΓ
   ·exact((l8.b h31).a [.cn [0,1,6] []]).ct hΓ aV (iS aO hm1) (ih1 (i1+1) (dn aO) h)
  ·exact(((mG.r 3 h28).F 1).a [.cn [0,1,6] []]).ct hΓ aV (iS aO hm1) (ih1 (i1+1) (dn aO) h)
theorem uH{aA:List aH}{aM:Bytes}{r:Bytes×Bool}(h:nU aA aM=some r):Good Tryz.prog 163 [D.sl ((aA).map aH.c),D.str (aM)] (D.iJ [D.str (r.1),D.bool (r.2)]):=by
 refine gd Tryz.func163 [[none],[none]] 32 fun hr Γ hΓ=>?_
 rw[nU]at h
 obtain⟨y1,h2,h⟩:=aB h
 obtain⟨h3,h⟩|⟨h3,h⟩:=aE h
 ·cases h;exact((aK.g (bS h2)).b h3).ret hΓ
 ·refine(((aK.g (bS h2)).b h3).a [.cn [0,1,6] []]).lp hΓ (NC hΓ (fun h=>?_) (by have:=(bR.sl (hr _ (List.mem_of_getElem? (i:=0) rfl))).1;simpa using this) (aA) 0 rfl h)
  cases h;exact aK.ret hΓ
def jQ(aA:List aH)(aM:Bytes)(bA:Bytes)(k1:Bool→List aH→Option (List aH)):List aH→Nat→Bool→List aH→Option (List aH)
 | [],i1,H8,aP=>(k1 (H8) (aP))
 |aS::aX,i1,H8,aP=>(bif !(H8)then(bif !(Op.bytesLess (aS.var) (aM)||(aS.var:Bytes)==(aM))then(bif room (((aP).map aH.c).length+([[D.str (aM),D.str (bA)]]).length) 32 then(bif room ((((aP).map aH.c)++([[D.str (aM),D.str (bA)]])).length+([[D.str (aS.var),D.str (aS.value)]]).length) 32 then(jQ aA aM bA k1 aX (i1+1) (true) (((aP)++([(⟨aM,bA⟩:aH)]))++([aS])))else none)else none)else(bif room (((aP).map aH.c).length+([[D.str (aS.var),D.str (aS.value)]]).length) 32 then(jQ aA aM bA k1 aX (i1+1) (H8) ((aP)++([aS])))else none))else(bif room (((aP).map aH.c).length+([[D.str (aS.var),D.str (aS.value)]]).length) 32 then(jQ aA aM bA k1 aX (i1+1) (H8) ((aP)++([aS])))else none))
def wJ(aA:List aH)(aM:Bytes)(bA:Bytes):Option (List aH):=(jQ aA aM bA (fun(a71:Bool) (aT:List aH)=>(bif !(a71)then(bif room (((aT).map aH.c).length+([[D.str (aM),D.str (bA)]]).length) 32 then(some ((aT)++([(⟨aM,bA⟩:aH)])))else none)else(some (aT)))) (aA) 0 (false) (([]:List aH)))
def vE(aA:List aH)(aM:Bytes)(bA:Bytes)(H8:Bool)(W1:List (List D))(bB:Int):St:=⟨[(0,D.sl ((aA).map aH.c)),(1,D.str (aM)),(2,D.str (bA)),(7,D.acc 0),(8,D.bool (H8)),(9,D.int .i64 (bB))],[Ob.row .uq 152 2 (W1)]⟩
theorem RD(hΓ:Γ.nt=50){aA:List aH}{aM:Bytes}{bA:Bytes}{r:List aH}{k1:Bool→List aH→Option (List aH)}(bE:∀(a71:Bool) (aT:List aH),k1 a71 aT=some r→Ax Γ N Tryz.f164 (.q [[some (152,2)]] (D.fr 152 2 ((r).map aH.c))) [1,1,1,1] ⟨[(1,D.str (aM)),(2,D.str (bA)),(7,D.acc 0),(8,D.bool (a71))],[Ob.row .uq 152 2 ((aT).map aH.c)]⟩)(hm1:(aA).length≤maxLen):∀(rest:List aH) (i1:Nat) (H8:Bool) (aP:List aH),(aA).drop i1=rest→jQ aA aM bA k1 rest i1 H8 aP=some r→Ar Γ N Tryz.f164 (.q [[some (152,2)]] (D.fr 152 2 ((r).map aH.c))) [1,1,1,0,1,0] (rest.length+1) (vE aA aM bA H8 ((aP).map aH.c) ((i1:Int))):=by
 intro rest
 induction rest with
 |nil=>
  intro i1 H8 aP aO h
  rw[jQ]at h
  refine aJ fun N1 aY aV=>?_
  exact((aK.ge aH.c aO).a [.hl 0 [1,2,7,8] [0]]).ex hΓ aY (bE (H8) (aP) h)
 |cons aS aX ih1=>
  intro i1 H8 aP aO h
  rw[jQ]at h
  refine aJ fun N1 aY aV=>?_
  obtain⟨h48,h⟩|⟨h48,h⟩:=aE h
  ·have bO:=((((aK.lt aH.c aO).r 3 h48).l (aQ aH.c 2 (dc aO) rfl)).r 5 h48)
   obtain⟨h49,h⟩|⟨h49,h⟩:=aE h
   ·obtain⟨h50,h⟩:=aU h
    obtain⟨h51,h⟩:=aU h
    exact(((((bO.b h49).w (aZ h50)).l (aQ aH.c 2 (dc aO) rfl)).w (aZ h51)).a [.cn [0,1,2,7,8,9] [4]]).cs hΓ aV (vE aA aM bA true ((((aP).map aH.c)++([[D.str (aM),D.str (bA)]]))++([[D.str (aS.var),D.str (aS.value)]])) (IntKind.i64.wrap (((i1:Int))+(1)))) (by first| (simp only[iS aO hm1,mA]<;>rfl)| (simp only[iS aO hm1,mA,aD.c,aH.c,aF.c,Action.c,aI.c,aL.c,bH.c,aN.c,Node.c,aG.c,bI.c]<;>rfl)) (ih1 (i1+1) (true) (((aP)++([(⟨aM,bA⟩:aH)]))++([aS])) (dn aO) h)
   ·obtain⟨h52,h⟩:=aU h
    exact((((bO.b h49).l (aQ aH.c 2 (dc aO) rfl)).w (aZ h52)).a [.cn [0,1,2,7,8,9] [2]]).cs hΓ aV (vE aA aM bA H8 (((aP).map aH.c)++([[D.str (aS.var),D.str (aS.value)]])) (IntKind.i64.wrap (((i1:Int))+(1)))) (by first| (simp only[iS aO hm1,mA]<;>rfl)| (simp only[iS aO hm1,mA,aD.c,aH.c,aF.c,Action.c,aI.c,aL.c,bH.c,aN.c,Node.c,aG.c,bI.c]<;>rfl)) (ih1 (i1+1) (H8) ((aP)++([aS])) (dn aO) h)
  ·obtain⟨h53,h⟩:=aU h
   exact((((((aK.lt aH.c aO).r 8 h48).F 1).l (aQ aH.c 2 (dc aO) rfl)).w (aZ h53)).a [.cn [0,1,2,7,8,9] [2]]).cs hΓ aV (vE aA aM bA H8 (((aP).map aH.c)++([[D.str (aS.var),D.str (aS.value)]])) (IntKind.i64.wrap (((i1:Int))+(1)))) (by first| (simp only[iS aO hm1,mA]<;>rfl)| (simp only[iS aO hm1,mA,aD.c,aH.c,aF.c,Action.c,aI.c,aL.c,bH.c,aN.c,Node.c,aG.c,bI.c]<;>rfl)) (ih1 (i1+1) (H8) ((aP)++([aS])) (dn aO) h)
theorem PS{aA:List aH}{aM:Bytes}{bA:Bytes}{r:List aH}(h:wJ aA aM bA=some r):Good Tryz.prog 164 [D.sl ((aA).map aH.c),D.str (aM),D.str (bA)] (D.fr 152 2 ((r).map aH.c)):=by
 refine gd Tryz.func164 [[some (152,2)]] 50 fun hr Γ hΓ=>?_
 rw[wJ]at h
 refine(aK.a [.cn [0,1,2,7,8,9] [0]]).lp hΓ (RD hΓ (fun a71 aT h=>?_) (by have:=(bR.sl (hr _ (List.mem_of_getElem? (i:=0) rfl))).1;simpa using this) (aA) 0 (false) (([]:List aH)) rfl h)
 obtain⟨h54,h⟩|⟨h54,h⟩:=aE h
 ·obtain⟨h55,h⟩:=aU h
  cases h;exact((aK.b h54).w (aZ h55)).rts hΓ (D.fr 152 2 (((aT).map aH.c)++([[D.str (aM),D.str (bA)]]))) (by first|rfl| (simp only[mA]<;>rfl)| (simp only[b8,mA]<;>rfl))
 ·have h:=aC h;subst h;exact(aK.b h54).ret hΓ
def sL(aA:List aH)(aM:Bytes)(bA:Bytes):Option ((List aH)×Bool):=((hG (aA)).bind fun y1=>(bif !(y1)then(some ((([]:List aH),false)))else((dU (aM)).bind fun y4=>(bif !(y4)then(some ((([]:List aH),false)))else((cE (bA)).bind fun y7=>(bif !(y7)then(some ((([]:List aH),false)))else((nU (aA) (aM)).bind fun QZ=>(bif QZ.2 then(bif (QZ.1:Bytes)==(bA)then((oY (aA)).bind fun y14=>(some ((y14,true))))else(some ((([]:List aH),false))))else(bif ((((aA).map aH.c).length:Int):Int)==(6)then(some ((([]:List aH),false)))else((wJ (aA) (aM) (bA)).bind fun y17=>(some ((y17,true)))))))))))))
theorem ND{aA:List aH}{aM:Bytes}{bA:Bytes}{r:(List aH)×Bool}(h:sL aA aM bA=some r):Good Tryz.prog 228 [D.sl ((aA).map aH.c),D.str (aM),D.str (bA)] (D.iJ [D.fr 152 2 ((r.1).map aH.c),D.bool (r.2)]):=by
 refine gd Tryz.func228 [[some (152,2)],[none]] 49 fun hr Γ hΓ=>?_
 rw[sL]at h
 obtain⟨y1,h2,h⟩:=aB h
 obtain⟨h3,h⟩|⟨h3,h⟩:=aE h
 ·cases h;exact(((aK.g (jW h2)).r 4 h3).T 5).ret hΓ
 ·obtain⟨y4,h5,h⟩:=aB h
  have jO:=((((aK.g (jW h2)).r 2 h3).g (cU h5)).r 2 h3)
  obtain⟨h6,h⟩|⟨h6,h⟩:=aE h
  ·cases h;exact((jO.r 4 h6).T 1).ret hΓ
  ·obtain⟨y7,h8,h⟩:=aB h
   have bO:=(((jO.r 2 h6).g (bS h8)).r 2 h6)
   obtain⟨h9,h⟩|⟨h9,h⟩:=aE h
   ·cases h;exact(bO.b h9).ret hΓ
   ·obtain⟨QZ,h11,h⟩:=aB h
    have mG:=((bO.b h9).g (uH h11))
    obtain⟨h12,h⟩|⟨h12,h⟩:=aE h
    ·have l8:=(mG.r 4 h12)
     obtain⟨h13,h⟩|⟨h13,h⟩:=aE h
     ·obtain⟨y14,h15,h⟩:=aB h
      cases h;exact((l8.b h13).g (vL h15)).ret hΓ
     ·cases h;exact(((l8.b h13).r 4 h12).T 1).ret hΓ
    ·have uV:=(((mG.r 4 h12).F 1).r 4 h12)
     obtain⟨h16,h⟩|⟨h16,h⟩:=aE h
     ·cases h;exact(uV.b h16).ret hΓ
     ·obtain⟨y17,h18,h⟩:=aB h
      cases h;exact((uV.b h16).g (PS h18)).ret hΓ
def fN(aA:aD)(aM:aD)(k1:List aH→Option ((List aH)×Bool)):List Bytes→Nat→List aH→Option ((List aH)×Bool)
 | [],i1,iU=>(k1 (iU))
 |aS::aX,i1,iU=>((cE (aS)).bind fun y80=>(bif y80 then((oI (aM.args) ((i1:Int))).bind fun x83=>(bif !((aS:Bytes)==(x83))then(some ((([]:List aH),false)))else(fN aA aM k1 aX (i1+1) (iU))))else((oI (aM.args) ((i1:Int))).bind fun x86=>((sL (iU) (aS) (x86)).bind fun y88=>(bif !(y88.2)then(some ((([]:List aH),false)))else(fN aA aM k1 aX (i1+1) (y88.1)))))))
def hO(aA:aD)(aM:aD)(bA:List aH):Option ((List aH)×Bool):=((eX (aA)).bind fun y1=>(bif !(y1)then(some ((([]:List aH),false)))else((p0 (aM)).bind fun y4=>(bif !(y4)then(some ((([]:List aH),false)))else((hG (bA)).bind fun y7=>(bif !(y7)then(some ((([]:List aH),false)))else(bif !((aA.rel:Bytes)==(aM.rel))then(some ((([]:List aH),false)))else(bif ((((aA.args).map tx).length:Int):Int) != ((((aM.args).map tx).length:Int))then(some ((([]:List aH),false)))else((oY (bA)).bind fun y12=>(fN aA aM (fun(aT:List aH)=>(some ((aT,true)))) (aA.args) 0 (y12)))))))))))
def K6(aA:aD)(aM:aD)(W0:List (List D))(bB:Int):St:=⟨[(3,D.ptr 0 0),(4,D.ptr 1 0),(8,D.acc 2),(9,D.int .i64 (bB))],[Ob.box (aD.c aA),Ob.box (aD.c aM),Ob.row .uq 152 2 (W0)]⟩
theorem H9(hΓ:Γ.nt=89){aA:aD}{aM:aD}{r:(List aH)×Bool}{k1:List aH→Option ((List aH)×Bool)}(bE:∀(aT:List aH),k1 aT=some r→Ax Γ N Tryz.f151 (.q [[some (152,2)],[none]] (D.iJ [D.fr 152 2 ((r.1).map aH.c),D.bool (r.2)])) [1,1,1,1] ⟨[(8,D.acc 0)],[Ob.row .uq 152 2 ((aT).map aH.c)]⟩)(hm1:(aA.args).length≤maxLen):∀(rest:List Bytes) (i1:Nat) (iU:List aH),(aA.args).drop i1=rest→fN aA aM k1 rest i1 iU=some r→Ar Γ N Tryz.f151 (.q [[some (152,2)],[none]] (D.iJ [D.fr 152 2 ((r.1).map aH.c),D.bool (r.2)])) [1,1,1,0,1,0] (rest.length+1) (K6 aA aM ((iU).map aH.c) ((i1:Int))):=by
 intro rest
 induction rest with
 |nil=>
  intro i1 iU aO h
  rw[fN]at h
  refine aJ fun N1 aY aV=>?_
  exact((aK.ge tx aO).a [.hl 0 [8] [2]]).ex hΓ aY (bE (iU) h)
 |cons aS aX ih1=>
  intro i1 iU aO h
  rw[fN]at h
  refine aJ fun N1 aY aV=>?_
  obtain⟨y80,h81,h⟩:=aB h
  have l8:=(((aK.lt tx aO).l (aQ tx 1 (dc aO) rfl)).g (bS h81))
  obtain⟨h82,h⟩|⟨h82,h⟩:=aE h
  ·obtain⟨x83,h84,h⟩:=aB h
   have uV:=((((l8.b h82).a [.n 10]).l (aQ tx 1 (dc aO) rfl)).l (bP tx 1 h84 rfl))
   obtain⟨h85,h⟩|⟨h85,h⟩:=aE h
   ·cases h;exact(uV.b h85).ret hΓ
   ·exact((uV.b h85).a [.cn [3,4,8,9] [0,1,2]]).ct hΓ aV (iS aO hm1) (ih1 (i1+1) (iU) (dn aO) h)
  ·obtain⟨x86,h87,h⟩:=aB h
   obtain⟨y88,h89,h⟩:=aB h
   have xU:=(((((l8.b h82).a [.n 16]).l (aQ tx 1 (dc aO) rfl)).l (bP tx 1 h87 rfl)).g (ND h89))
   obtain⟨h90,h⟩|⟨h90,h⟩:=aE h
   ·cases h;exact(xU.b h90).ret hΓ
   ·exact((xU.b h90).a [.cn [3,4,8,9] [0,1,3]]).ct hΓ aV (iS aO hm1) (ih1 (i1+1) (y88.1) (dn aO) h)
theorem wU{aA:aD}{aM:aD}{bA:List aH}{r:(List aH)×Bool}(h:hO aA aM bA=some r):Good Tryz.prog 151 [D.agg (aD.c aA),D.agg (aD.c aM),D.sl ((bA).map aH.c)] (D.iJ [D.fr 152 2 ((r.1).map aH.c),D.bool (r.2)]):=by
 refine gd Tryz.func151 [[some (152,2)],[none]] 89 fun hr Γ hΓ=>?_
 rw[hO]at h
 obtain⟨y1,h2,h⟩:=aB h
 obtain⟨h3,h⟩|⟨h3,h⟩:=aE h
 ·cases h;exact(((aK.g (fY h2)).r 4 h3).T 19).ret hΓ
 ·obtain⟨y4,h5,h⟩:=aB h
  have BQ:=((((aK.g (fY h2)).r 2 h3).g (AN h5)).r 2 h3)
  obtain⟨h6,h⟩|⟨h6,h⟩:=aE h
  ·cases h;exact((BQ.r 4 h6).T 15).ret hΓ
  ·obtain⟨y7,h8,h⟩:=aB h
   have L9:=(((BQ.r 2 h6).g (jW h8)).r 2 h6)
   obtain⟨h9,h⟩|⟨h9,h⟩:=aE h
   ·cases h;exact((L9.r 6 h9).T 9).ret hΓ
   ·have S8:=(L9.r 6 h9)
    obtain⟨h10,h⟩|⟨h10,h⟩:=aE h
    ·cases h;exact((S8.r 8 h10).T 1).ret hΓ
    ·have CP:=(S8.r 8 h10)
     obtain⟨h11,h⟩|⟨h11,h⟩:=aE h
     ·cases h;exact(CP.b h11).ret hΓ
     ·obtain⟨y12,h13,h⟩:=aB h
      refine(((CP.b h11).g (vL h13)).a [.cn [3,4,8,9] [0,1,2]]).lp hΓ (H9 hΓ (fun aT h=>?_) (by have:=(bR.sl (bR.agg (hr _ (List.mem_of_getElem? (i:=0) rfl)) (.sl ((aA.args).map tx)) (by simp))).1;simpa using this) (aA.args) 0 (y12) rfl h)
      cases h;exact aK.ret hΓ
def cP(aA:aD)(aM:List aH)(bA:List aD)(k1:List aD→Option (List aD)):List aD→Nat→List aD→Option (List aD)
 | [],i1,aW=>(k1 (aW))
 |aS::aX,i1,aW=>((hO (aA) (aS) (aM)).bind fun y42=>(bif y42.2 then((iM (aS)).bind fun L8=>(bif room (((aW).map aD.c).length+([[D.str (L8.rel),D.sl ((L8.args).map tx)]]).length) 40 then(cP aA aM bA k1 aX (i1+1) ((aW)++([L8])))else none))else(cP aA aM bA k1 aX (i1+1) (aW))))
def eF(aA:aD)(aM:List aH)(bA:List aD):Option (List aD):=(cP aA aM bA (fun(aT:List aD)=>(some (aT))) (bA) 0 (([]:List aD)))
def vU(aA:aD)(aM:List aH)(bA:List aD)(W0:List (List D))(bB:Int):St:=⟨[(1,D.sl ((aM).map aH.c)),(2,D.sl ((bA).map aD.c)),(3,D.ptr 0 0),(7,D.acc 1),(8,D.int .i64 (bB))],[Ob.box (aD.c aA),Ob.row .uq 53 2 (W0)]⟩
theorem C0(hΓ:Γ.nt=38){aA:aD}{aM:List aH}{bA:List aD}{r:List aD}{k1:List aD→Option (List aD)}(bE:∀(aT:List aD),k1 aT=some r→Ax Γ N Tryz.f87 (.q [[some (53,2)]] (D.fr 53 2 ((r).map aD.c))) [1,1,1] ⟨[(7,D.acc 0)],[Ob.row .uq 53 2 ((aT).map aD.c)]⟩)(hm1:(bA).length≤maxLen):∀(rest:List aD) (i1:Nat) (aW:List aD),(bA).drop i1=rest→cP aA aM bA k1 rest i1 aW=some r→Ar Γ N Tryz.f87 (.q [[some (53,2)]] (D.fr 53 2 ((r).map aD.c))) [1,1,0,1,0] (rest.length+1) (vU aA aM bA ((aW).map aD.c) ((i1:Int))):=by
 intro rest
 induction rest with
 |nil=>
  intro i1 aW aO h
  rw[cP]at h
  refine aJ fun N1 aY aV=>?_
  exact((aK.ge aD.c aO).a [.hl 0 [7] [1]]).ex hΓ aY (bE (aW) h)
 |cons aS aX ih1=>
  intro i1 aW aO h
  rw[cP]at h
  refine aJ fun N1 aY aV=>?_
  obtain⟨y42,h43,h⟩:=aB h
  have bO:=((((aK.lt aD.c aO).a [.n 11]).l (aQ aD.c 2 (dc aO) rfl)).g (wU h43))
  obtain⟨h44,h⟩|⟨h44,h⟩:=aE h
  ·obtain⟨L8,h46,h⟩:=aB h
   obtain⟨h47,h⟩:=aU h
   exact(((((bO.b h44).l (aQ aD.c 2 (dc aO) rfl)).g (vK h46)).w (aZ h47)).a [.cn [1,2,3,7,8] [0,5]]).cs hΓ aV (vU aA aM bA (((aW).map aD.c)++([[D.str (L8.rel),D.sl ((L8.args).map tx)]])) (IntKind.i64.wrap (((i1:Int))+(1)))) (by first| (simp only[iS aO hm1,mA]<;>rfl)| (simp only[iS aO hm1,mA,aD.c,aH.c,aF.c,Action.c,aI.c,aL.c,bH.c,aN.c,Node.c,aG.c,bI.c]<;>rfl)) (ih1 (i1+1) ((aW)++([L8])) (dn aO) h)
  ·exact((bO.b h44).a [.cn [1,2,3,7,8] [0,1]]).ct hΓ aV (iS aO hm1) (ih1 (i1+1) (aW) (dn aO) h)
theorem jT{aA:aD}{aM:List aH}{bA:List aD}{r:List aD}(h:eF aA aM bA=some r):Good Tryz.prog 87 [D.agg (aD.c aA),D.sl ((aM).map aH.c),D.sl ((bA).map aD.c)] (D.fr 53 2 ((r).map aD.c)):=by
 refine gd Tryz.func87 [[some (53,2)]] 38 fun hr Γ hΓ=>?_
 rw[eF]at h
 refine(aK.a [.cn [1,2,3,7,8] [0,1]]).lp hΓ (C0 hΓ (fun aT h=>?_) (by have:=(bR.sl (hr _ (List.mem_of_getElem? (i:=2) rfl))).1;simpa using this) (bA) 0 (([]:List aD)) rfl h)
 have h:=aC h;subst h;exact aK.ret hΓ
def jD(aA:List aD)(aM:List aD)(k1:Option Bool):List aD→Nat→Option Bool
 | [],i1=>(k1)
 |aS::aX,i1=>((oI (aM) ((i1:Int))).bind fun x30=>((sK (aS) (x30)).bind fun CK=>(bif !(CK)then(some (false))else(jD aA aM k1 aX (i1+1)))))
def kP(aA:List aD)(aM:List aD):Option Bool:=(bif ((((aA).map aD.c).length:Int):Int) != ((((aM).map aD.c).length:Int))then(some (false))else(jD aA aM (some (true)) (aA) 0))
def K7(aA:List aD)(aM:List aD)(bB:Int):St:=⟨[(0,D.sl ((aA).map aD.c)),(1,D.sl ((aM).map aD.c)),(5,D.int .i64 (bB))],[]⟩
theorem HA(hΓ:Γ.nt=27){aA:List aD}{aM:List aD}{r:Bool}{k1:Option Bool}(bE:k1=some r→Ax Γ N Tryz.f86 (.q [[none]] (D.bool (r))) [1,1,1] ⟨[],[]⟩)(hm1:(aA).length≤maxLen):∀(rest:List aD) (i1:Nat),(aA).drop i1=rest→jD aA aM k1 rest i1=some r→Ar Γ N Tryz.f86 (.q [[none]] (D.bool (r))) [1,1,0,1,0] (rest.length+1) (K7 aA aM ((i1:Int))):=by
 intro rest
 induction rest with
 |nil=>
  intro i1 aO h
  rw[jD]at h
  refine aJ fun N1 aY aV=>?_
  exact((aK.ge aD.c aO).a [.hl 0 [] []]).ex hΓ aY (bE h)
 |cons aS aX ih1=>
  intro i1 aO h
  rw[jD]at h
  refine aJ fun N1 aY aV=>?_
  obtain⟨x30,h31,h⟩:=aB h
  obtain⟨CK,h33,h⟩:=aB h
  have bO:=(((((aK.lt aD.c aO).a [.n 8]).l (aQ aD.c 2 (dc aO) rfl)).l (bP aD.c 2 h31 rfl)).g (MS h33))
  obtain⟨h34,h⟩|⟨h34,h⟩:=aE h
  ·have h:=aC h;subst h;exact(bO.b h34).ret hΓ
  ·exact((bO.b h34).a [.cn [0,1,5] []]).ct hΓ aV (iS aO hm1) (ih1 (i1+1) (dn aO) h)
theorem wV{aA:List aD}{aM:List aD}{r:Bool}(h:kP aA aM=some r):Good Tryz.prog 86 [D.sl ((aA).map aD.c),D.sl ((aM).map aD.c)] (D.bool (r)):=by
 refine gd Tryz.func86 [[none]] 27 fun hr Γ hΓ=>?_
 rw[kP]at h
 obtain⟨h1,h⟩|⟨h1,h⟩:=aE h
 ·have h:=aC h;subst h;exact(aK.b h1).ret hΓ
 ·refine((aK.b h1).a [.cn [0,1,5] []]).lp hΓ (HA hΓ (fun h=>?_) (by have:=(bR.sl (hr _ (List.mem_of_getElem? (i:=0) rfl))).1;simpa using this) (aA) 0 rfl h)
  have h:=aC h;subst h;exact aK.ret hΓ
end Go.Cx
