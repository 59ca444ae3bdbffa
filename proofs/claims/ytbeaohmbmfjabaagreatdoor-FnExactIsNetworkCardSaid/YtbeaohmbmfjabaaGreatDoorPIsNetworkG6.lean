/- What functions of the program compute, and the walks that show it. No condition. -/
import Derived.Test.YtbeaohmbmfjabaaGreatDoorPIsNetworkG5
import Derived.Test.YtbeaohmbmfjabaaGreatDoorPIsNetworkG4
import Derived.Sort.Walk0
namespace Go.Cx
open Go.RowKit Go.Proofs
set_option linter.unusedVariables false
set_option linter.unusedSimpArgs false
set_option maxRecDepth 100000
variable{Γ:uK}{N:Nat→St→Prop}
def eY(aA:aG)(k1:List aF→Option (List aF)):Nat→Int→List aF→Option (List aF)
 |0,_,_=>none
 |n1+1,b9,aW=>((gV (b9) (1) (IntKind.i64.wrap (((((aA.nodes).map Node.c).length:Int))-(1)))).bind fun y28=>(bif y28 then((oI (aA.nodes) (b9)).bind fun x31=>((mY (x31.cond)).bind fun P4=>(bif room (([[D.int .i64 (P4.kind),D.str (P4.pat.rel),D.sl ((P4.pat.args).map tx),D.str (P4.left),D.str (P4.right)]]).length+((aW).map aF.c).length) 80 then(bif decide ((x31.parent:Int)≥(b9))then(k1 (([P4])++(aW)))else(eY aA k1 n1 (x31.parent) (([P4])++(aW))))else none)))else(k1 (aW))))
def uY(aA:aG)(aM:Int):Option (List aF):=(eY aA (fun(aT:List aF)=>(some (aT))) fuel (aM) (([]:List aF)))
def CS(aA:aG)(b9:Int)(W1:List (List D)):St:=⟨[(1,D.int .i64 (b9)),(2,D.ptr 0 0),(5,D.acc 1)],[Ob.box (aG.c aA),Ob.row .uq 115 5 (W1)]⟩
theorem PT(hΓ:Γ.nt=35){aA:aG}{r:List aF}{k1:List aF→Option (List aF)}(bE:∀(aT:List aF),k1 aT=some r→Ax Γ N Tryz.f90 (.q [[some (115,5)]] (D.fr 115 5 ((r).map aF.c))) [1,1,1] ⟨[(5,D.acc 0)],[Ob.row .uq 115 5 ((aT).map aF.c)]⟩):∀(n1:Nat) (b9:Int) (aW:List aF),eY aA k1 n1 b9 aW=some r→Ar Γ N Tryz.f90 (.q [[some (115,5)]] (D.fr 115 5 ((r).map aF.c))) [1,1,0,0] n1 (CS aA b9 ((aW).map aF.c)):=by
 intro n
 induction n with
 |zero=>intro b9 aW h;simp[eY]at h
 |succ n1 ih1=>
  intro b9 aW h
  rw[eY]at h
  refine aJ fun N1 aY aV=>?_
  obtain⟨y28,h29,h⟩:=aB h
  obtain⟨h30,h⟩|⟨h30,h⟩:=aE h
  ·obtain⟨x31,h32,h⟩:=aB h
   obtain⟨P4,h34,h⟩:=aB h
   obtain⟨h35,h⟩:=aU h
   have bO:=((((((aK.g (cM h29)).b h30).l (bP Node.c 8 h32 rfl)).g (qY h34)).w (aZ h35)).l (bP Node.c 8 h32 rfl))
   obtain⟨h36,h⟩|⟨h36,h⟩:=aE h
   ·exact((bO.b h36).a [.hl 0 [5] [4]]).exs hΓ aY ⟨[(5,D.acc 0)],[Ob.row .uq 115 5 (([[D.int .i64 (P4.kind),D.str (P4.pat.rel),D.sl ((P4.pat.args).map tx),D.str (P4.left),D.str (P4.right)]])++((aW).map aF.c))]⟩ (by first| (simp only[mA]<;>rfl)| (simp only[mA,aD.c,aH.c,aF.c,Action.c,aI.c,aL.c,bH.c,aN.c,Node.c,aG.c,bI.c]<;>rfl)) (bE (([P4])++(aW)) h)
   ·exact((bO.b h36).a [.cn [1,2,5] [0,4]]).cs hΓ aV (CS aA (x31.parent) (([[D.int .i64 (P4.kind),D.str (P4.pat.rel),D.sl ((P4.pat.args).map tx),D.str (P4.left),D.str (P4.right)]])++((aW).map aF.c))) (by first| (simp only[mA]<;>rfl)| (simp only[mA,aD.c,aH.c,aF.c,Action.c,aI.c,aL.c,bH.c,aN.c,Node.c,aG.c,bI.c]<;>rfl)) (ih1 (x31.parent) (([P4])++(aW)) h)
  ·exact(((aK.g (cM h29)).b h30).a [.hl 0 [5] [1]]).ex hΓ aY (bE (aW) h)
theorem NE{aA:aG}{aM:Int}{r:List aF}(h:uY aA aM=some r):Good Tryz.prog 90 [D.agg (aG.c aA),D.int .i64 (aM)] (D.fr 115 5 ((r).map aF.c)):=by
 refine gd Tryz.func90 [[some (115,5)]] 35 fun hr Γ hΓ=>?_
 rw[uY]at h
 refine(aK.a [.cn [1,2,5] [0,1]]).lp hΓ (PT hΓ (fun aT h=>?_) fuel (aM) (([]:List aF)) h)
 have h:=aC h;subst h;exact aK.ret hΓ
def rS(aA:Bytes):Option Bool:=((mI (aA)).bind fun y1=>(some (y1.2)))
theorem xY{aA:Bytes}{r:Bool}(h:rS aA=some r):Good Tryz.prog 281 [D.str (aA)] (D.bool (r)):=by
 refine gd Tryz.func281 [[none]] 11 fun hr Γ hΓ=>?_
 rw[rS]at h
 obtain⟨y1,h2,h⟩:=aB h
 cases h;exact(aK.g (tT h2)).ret hΓ
def qD(aA:aF)(aM:List aH):Option Bool:=((p7 (aA)).bind fun y1=>(bif !(y1)then(some (false))else((hG (aM)).bind fun y4=>(bif !(y4)then(some (false))else((nU (aM) (aA.left)).bind fun y7=>((nU (aM) (aA.right)).bind fun y9=>(bif !(y7.2)then(some (false))else(bif !(y9.2)then(some (false))else(bif (aA.kind:Int)==(3)then(some ((y7.1:Bytes)==(y9.1)))else(bif (aA.kind:Int)==(4)then(some (!((y7.1:Bytes)==(y9.1))))else((rS (y7.1)).bind fun y15=>(bif y15 then((rS (y9.1)).bind fun y18=>(bif y18 then((fJ (y7.1) (y9.1)).bind fun y21=>(some (decide ((y21:Int)<(0)))))else(some (false))))else(some (false))))))))))))))
theorem EX{aA:aF}{aM:List aH}{r:Bool}(h:qD aA aM=some r):Good Tryz.prog 270 [D.agg (aF.c aA),D.sl ((aM).map aH.c)] (D.bool (r)):=by
 refine gd Tryz.func270 [[none]] 61 fun hr Γ hΓ=>?_
 rw[qD]at h
 obtain⟨y1,h2,h⟩:=aB h
 obtain⟨h3,h⟩|⟨h3,h⟩:=aE h
 ·have h:=aC h;subst h;exact(((aK.g (r9 h2)).r 4 h3).T 1).ret hΓ
 ·obtain⟨y4,h5,h⟩:=aB h
  have jO:=((((aK.g (r9 h2)).r 2 h3).g (jW h5)).r 2 h3)
  obtain⟨h6,h⟩|⟨h6,h⟩:=aE h
  ·have h:=aC h;subst h;exact(jO.b h6).ret hΓ
  ·obtain⟨y7,h8,h⟩:=aB h
   obtain⟨y9,h10,h⟩:=aB h
   have bO:=(((jO.b h6).g (uH h8)).g (uH h10))
   obtain⟨h11,h⟩|⟨h11,h⟩:=aE h
   ·have h:=aC h;subst h;exact((bO.r 3 h11).T 1).ret hΓ
   ·have mG:=(bO.r 3 h11)
    obtain⟨h12,h⟩|⟨h12,h⟩:=aE h
    ·have h:=aC h;subst h;exact(mG.b h12).ret hΓ
    ·obtain⟨h13,h⟩|⟨h13,h⟩:=aE h
     ·cases h;exact((mG.b h12).b h13).ret hΓ
     ·have l8:=((mG.b h12).b h13)
      obtain⟨h14,h⟩|⟨h14,h⟩:=aE h
      ·cases h;exact(l8.b h14).ret hΓ
      ·obtain⟨y15,h16,h⟩:=aB h
       have uV:=((l8.b h14).g (xY h16))
       obtain⟨h17,h⟩|⟨h17,h⟩:=aE h
       ·obtain⟨y18,h19,h⟩:=aB h
        have xU:=(((uV.r 2 h17).g (xY h19)).b h17)
        obtain⟨h20,h⟩|⟨h20,h⟩:=aE h
        ·obtain⟨y21,h22,h⟩:=aB h
         cases h;exact(((xU.r 3 h20).g (uU h22)).r 2 h20).ret hΓ
        ·have h:=aC h;subst h;exact(xU.r 5 h20).ret hΓ
       ·have h:=aC h;subst h;exact((uV.r 3 h17).F 5).ret hΓ
def qE(aA:aF)(aM:List aH)(bA:List aD):Option Bool:=((p6 (aA)).bind fun y1=>(bif !(y1)then(some (false))else((hG (aM)).bind fun y4=>(bif !(y4)then(some (false))else(bif (aA.kind:Int)==(1)then((eF (aA.pat) (aM) (bA)).bind fun y8=>(some (decide (((((y8).map aD.c).length:Int):Int)>(0)))))else(bif (aA.kind:Int)==(2)then((eF (aA.pat) (aM) (bA)).bind fun y11=>(some (((((y11).map aD.c).length:Int):Int)==(0))))else((qD (aA) (aM)).bind fun sZ=>(some (sZ)))))))))
theorem EY{aA:aF}{aM:List aH}{bA:List aD}{r:Bool}(h:qE aA aM bA=some r):Good Tryz.prog 229 [D.agg (aF.c aA),D.sl ((aM).map aH.c),D.sl ((bA).map aD.c)] (D.bool (r)):=by
 refine gd Tryz.func229 [[none]] 38 fun hr Γ hΓ=>?_
 rw[qE]at h
 obtain⟨y1,h2,h⟩:=aB h
 obtain⟨h3,h⟩|⟨h3,h⟩:=aE h
 ·have h:=aC h;subst h;exact(((aK.g (nT h2)).r 4 h3).T 1).ret hΓ
 ·obtain⟨y4,h5,h⟩:=aB h
  have jO:=((((aK.g (nT h2)).r 2 h3).g (jW h5)).r 2 h3)
  obtain⟨h6,h⟩|⟨h6,h⟩:=aE h
  ·have h:=aC h;subst h;exact(jO.b h6).ret hΓ
  ·obtain⟨h7,h⟩|⟨h7,h⟩:=aE h
   ·obtain⟨y8,h9,h⟩:=aB h
    cases h;exact(((jO.b h6).b h7).g (jT h9)).ret hΓ
   ·have bO:=((jO.b h6).b h7)
    obtain⟨h10,h⟩|⟨h10,h⟩:=aE h
    ·obtain⟨y11,h12,h⟩:=aB h
     cases h;exact((bO.b h10).g (jT h12)).ret hΓ
    ·obtain⟨sZ,h14,h⟩:=aB h
     have h:=aC h;subst h;exact((bO.b h10).g (EX h14)).ret hΓ
def kQ(aA:List aL)(aM:aF)(bA:List aD)(i1:Nat)(aS:aL)(k2:List aL→Option (List aL)):List aD→Nat→List aL→Option (List aL)
 | [],i2,gC=>(k2 (gC))
 |o8::wO,i2,gC=>((hO (aM.pat) (o8) (aS.bind)).bind fun a4a=>(bif a4a.2 then((mH (aS.facts)).bind fun a4b=>((iM (o8)).bind fun YJ=>(bif room (((a4b).map aD.c).length+([[D.str (YJ.rel),D.sl ((YJ.args).map tx)]]).length) 40 then(bif room (((gC).map aL.c).length+([[D.sl (((a4b).map aD.c)++([[D.str (YJ.rel),D.sl ((YJ.args).map tx)]])),D.sl ((a4a.1).map aH.c)]]).length) 48 then(kQ aA aM bA i1 aS k2 wO (i2+1) ((gC)++([(⟨(a4b)++([YJ]),a4a.1⟩:aL)])))else none)else none)))else(kQ aA aM bA i1 aS k2 wO (i2+1) (gC))))
def dN(aA:List aL)(aM:aF)(bA:List aD)(k1:List aL→Option (List aL)):List aL→Nat→List aL→Option (List aL)
 | [],i1,aW=>(k1 (aW))
 |aS::aX,i1,aW=>(bif (aM.kind:Int) != (1)then((qE (aM) (aS.bind) (bA)).bind fun aEE=>(bif aEE then((uT (aS)).bind fun a2I=>(bif room (((aW).map aL.c).length+([[D.sl ((a2I.facts).map aD.c),D.sl ((a2I.bind).map aH.c)]]).length) 48 then(dN aA aM bA k1 aX (i1+1) ((aW)++([a2I])))else none))else(dN aA aM bA k1 aX (i1+1) (aW))))else(bif decide ((bA).length≤maxLen)then(kQ aA aM bA i1 aS (fun(wI:List aL)=>(dN aA aM bA k1 aX (i1+1) (wI))) (bA) 0 (aW))else none))
def uZ(aA:List aL)(aM:aF)(bA:List aD):Option (List aL):=(dN aA aM bA (fun(aT:List aL)=>(some (aT))) (aA) 0 (([]:List aL)))
def CT(aA:List aL)(aM:aF)(bA:List aD)(W0:List (List D))(bB:Int):St:=⟨[(0,D.sl ((aA).map aL.c)),(2,D.sl ((bA).map aD.c)),(4,D.ptr 0 0),(7,D.acc 1),(8,D.int .i64 (bB))],[Ob.box (aF.c aM),Ob.row .uq 124 2 (W0)]⟩
def CU(aA:List aL)(aM:aF)(bA:List aD)(i1:Nat)(W0:List (List D))(bB:Int):St:=⟨[(0,D.sl ((aA).map aL.c)),(2,D.sl ((bA).map aD.c)),(4,D.ptr 0 0),(7,D.acc 1),(8,D.int .i64 ((i1:Int))),(9,D.int .i64 (bB))],[Ob.box (aF.c aM),Ob.row .uq 124 2 (W0)]⟩
theorem PU(hΓ:Γ.nt=79){aA:List aL}{aM:aF}{bA:List aD}{i1:Nat}{aS:aL}{r:List aL}{k2:List aL→Option (List aL)}(IK:∀(wI:List aL),k2 wI=some r→Ax Γ N Tryz.f154 (.q [[some (124,2)]] (D.fr 124 2 ((r).map aL.c))) [1,1,0,1,0,0,1,1] ⟨[(0,D.sl ((aA).map aL.c)),(2,D.sl ((bA).map aD.c)),(4,D.ptr 0 0),(7,D.acc 1),(8,D.int .i64 ((i1:Int)))],[Ob.box (aF.c aM),Ob.row .uq 124 2 ((wI).map aL.c)]⟩)(hx1:(aA)[i1]?=some aS)(hm2:(bA).length≤maxLen):∀(rest:List aD) (i2:Nat) (gC:List aL),(bA).drop i2=rest→kQ aA aM bA i1 aS k2 rest i2 gC=some r→Ar Γ N Tryz.f154 (.q [[some (124,2)]] (D.fr 124 2 ((r).map aL.c))) [1,1,0,1,0,0,1,0,0,1,1,0] (rest.length+1) (CU aA aM bA i1 ((gC).map aL.c) ((i2:Int))):=by
 intro rest
 induction rest with
 |nil=>
  intro i2 gC hd2 h
  rw[kQ]at h
  refine aJ fun N2 yR wG=>?_
  exact((aK.ge aD.c hd2).a [.hl 3 [0,2,4,7,8] [0,1]]).ex hΓ yR (IK (gC) h)
 |cons o8 wO ih2=>
  intro i2 gC hd2 h
  rw[kQ]at h
  refine aJ fun N2 yR wG=>?_
  obtain⟨a4a,h652,h⟩:=aB h
  have P6:=(((((aK.lt aD.c hd2).a [.n 16]).l (aQ aD.c 2 (dc hd2) rfl)).l (aQ aL.c 2 hx1 rfl)).g (wU h652))
  obtain⟨h653,h⟩|⟨h653,h⟩:=aE h
  ·obtain⟨a4b,h660,h⟩:=aB h
   obtain⟨YJ,h662,h⟩:=aB h
   obtain⟨h663,h⟩:=aU h
   obtain⟨h664,h⟩:=aU h
   exact(((((((((P6.b h653).a [.n2 [0,1,2,3,4,5,6,7,8,9,10,11,14,12,13,15,16,17,18] [0,1,2,3,4,5,6,7,8,9,10,11,13,14,12,15,16,17,18] 13 17 [0,12] [2,3,4,5,6]]).l (aQ aL.c 2 hx1 rfl)).g (xT h660)).l (aQ aD.c 2 (dc hd2) rfl)).g (vK h662)).w (aZ h663)).w (aZ h664)).a [.cn [0,2,4,7,8,9] [0,8]]).cs hΓ wG (CU aA aM bA i1 (((gC).map aL.c)++([[D.sl (((a4b).map aD.c)++([[D.str (YJ.rel),D.sl ((YJ.args).map tx)]])),D.sl ((a4a.1).map aH.c)]])) (IntKind.i64.wrap (((i2:Int))+(1)))) (by first| (simp only[iS hd2 hm2,mA]<;>rfl)| (simp only[iS hd2 hm2,mA,aD.c,aH.c,aF.c,Action.c,aI.c,aL.c,bH.c,aN.c,Node.c,aG.c,bI.c]<;>rfl)) (ih2 (i2+1) ((gC)++([(⟨(a4b)++([YJ]),a4a.1⟩:aL)])) (dn hd2) h)
  ·exact((P6.b h653).a [.cn [0,2,4,7,8,9] [0,1]]).ct hΓ wG (iS hd2 hm2) (ih2 (i2+1) (gC) (dn hd2) h)
theorem PV(hΓ:Γ.nt=79){aA:List aL}{aM:aF}{bA:List aD}{r:List aL}{k1:List aL→Option (List aL)}(bE:∀(aT:List aL),k1 aT=some r→Ax Γ N Tryz.f154 (.q [[some (124,2)]] (D.fr 124 2 ((r).map aL.c))) [1,1,1] ⟨[(7,D.acc 0)],[Ob.row .uq 124 2 ((aT).map aL.c)]⟩)(hm1:(aA).length≤maxLen):∀(rest:List aL) (i1:Nat) (aW:List aL),(aA).drop i1=rest→dN aA aM bA k1 rest i1 aW=some r→Ar Γ N Tryz.f154 (.q [[some (124,2)]] (D.fr 124 2 ((r).map aL.c))) [1,1,0,1,0] (rest.length+1) (CT aA aM bA ((aW).map aL.c) ((i1:Int))):=by
 intro rest
 induction rest with
 |nil=>
  intro i1 aW aO h
  rw[dN]at h
  refine aJ fun N1 aY aV=>?_
  exact((aK.ge aL.c aO).a [.hl 0 [7] [1]]).ex hΓ aY (bE (aW) h)
 |cons aS aX ih1=>
  intro i1 aW aO h
  rw[dN]at h
  refine aJ fun N1 aY aV=>?_
  obtain⟨h563,h⟩|⟨h563,h⟩:=aE h
  ·obtain⟨aEE,h565,h⟩:=aB h
   have UJ:=(((((aK.lt aL.c aO).b h563).a [.n 7]).l (aQ aL.c 2 (dc aO) rfl)).g (EY h565))
   obtain⟨h566,h⟩|⟨h566,h⟩:=aE h
   ·obtain⟨a2I,h568,h⟩:=aB h
    obtain⟨h569,h⟩:=aU h
    exact(((((UJ.b h566).l (aQ aL.c 2 (dc aO) rfl)).g (MP h568)).w (aZ h569)).a [.cn [0,2,4,7,8] [0,5]]).cs hΓ aV (CT aA aM bA (((aW).map aL.c)++([[D.sl ((a2I.facts).map aD.c),D.sl ((a2I.bind).map aH.c)]])) (IntKind.i64.wrap (((i1:Int))+(1)))) (by first| (simp only[iS aO hm1,mA]<;>rfl)| (simp only[iS aO hm1,mA,aD.c,aH.c,aF.c,Action.c,aI.c,aL.c,bH.c,aN.c,Node.c,aG.c,bI.c]<;>rfl)) (ih1 (i1+1) ((aW)++([a2I])) (dn aO) h)
   ·exact((UJ.b h566).a [.cn [0,2,4,7,8] [0,1]]).ct hΓ aV (iS aO hm1) (ih1 (i1+1) (aW) (dn aO) h)
  ·obtain⟨h665,h⟩:=aU h
   refine(((aK.lt aL.c aO).b h563).a [.cn [0,2,4,7,8,9] [0,1]]).lp hΓ (PU hΓ (fun wI h=>?_) ((drop_cons aO).1) (of_decide_eq_true h665) (bA) 0 (aW) rfl h)
   exact(aK.a [.cn [0,2,4,7,8] [0,1]]).ct hΓ aV (iS aO hm1) (ih1 (i1+1) (wI) (dn aO) h)
theorem NF{aA:List aL}{aM:aF}{bA:List aD}{r:List aL}(h:uZ aA aM bA=some r):Good Tryz.prog 154 [D.sl ((aA).map aL.c),D.agg (aF.c aM),D.sl ((bA).map aD.c)] (D.fr 124 2 ((r).map aL.c)):=by
 refine gd Tryz.func154 [[some (124,2)]] 79 fun hr Γ hΓ=>?_
 rw[uZ]at h
 refine(aK.a [.cn [0,2,4,7,8] [0,1]]).lp hΓ (PV hΓ (fun aT h=>?_) (by have:=(bR.sl (hr _ (List.mem_of_getElem? (i:=0) rfl))).1;simpa using this) (aA) 0 (([]:List aL)) rfl h)
 have h:=aC h;subst h;exact aK.ret hΓ
def gK(aA:List aF)(aM:List aD)(k1:List aL→Option (List aL)):List aF→Nat→List aL→Option (List aL)
 | [],i1,aP=>(k1 (aP))
 |aS::aX,i1,aP=>((uZ (aP) (aS) (aM)).bind fun iI=>(gK aA aM k1 aX (i1+1) (iI)))
def rT(aA:List aF)(aM:List aD):Option (List aL):=(gK aA aM (fun(aT:List aL)=>(some (aT))) (aA) 0 ([(⟨[],[]⟩:aL)]))
def AR(aA:List aF)(aM:List aD)(W0:List (List D))(bB:Int):St:=⟨[(0,D.sl ((aA).map aF.c)),(1,D.sl ((aM).map aD.c)),(5,D.acc 0),(6,D.int .i64 (bB))],[Ob.row .uq 124 2 (W0)]⟩
theorem K8(hΓ:Γ.nt=23){aA:List aF}{aM:List aD}{r:List aL}{k1:List aL→Option (List aL)}(bE:∀(aT:List aL),k1 aT=some r→Ax Γ N Tryz.f89 (.q [[some (124,2)]] (D.fr 124 2 ((r).map aL.c))) [1,1,1] ⟨[(5,D.acc 0)],[Ob.row .uq 124 2 ((aT).map aL.c)]⟩)(hm1:(aA).length≤maxLen):∀(rest:List aF) (i1:Nat) (aP:List aL),(aA).drop i1=rest→gK aA aM k1 rest i1 aP=some r→Ar Γ N Tryz.f89 (.q [[some (124,2)]] (D.fr 124 2 ((r).map aL.c))) [1,1,0,1,0] (rest.length+1) (AR aA aM ((aP).map aL.c) ((i1:Int))):=by
 intro rest
 induction rest with
 |nil=>
  intro i1 aP aO h
  rw[gK]at h
  refine aJ fun N1 aY aV=>?_
  exact((aK.ge aF.c aO).a [.hl 0 [5] [0]]).ex hΓ aY (bE (aP) h)
 |cons aS aX ih1=>
  intro i1 aP aO h
  rw[gK]at h
  refine aJ fun N1 aY aV=>?_
  obtain⟨iI,h23,h⟩:=aB h
  exact((((aK.lt aF.c aO).l (aQ aF.c 5 (dc aO) rfl)).g (NF h23)).a [.cn [0,1,5,6] [1]]).ct hΓ aV (iS aO hm1) (ih1 (i1+1) (iI) (dn aO) h)
theorem HB{aA:List aF}{aM:List aD}{r:List aL}(h:rT aA aM=some r):Good Tryz.prog 89 [D.sl ((aA).map aF.c),D.sl ((aM).map aD.c)] (D.fr 124 2 ((r).map aL.c)):=by
 refine gd Tryz.func89 [[some (124,2)]] 23 fun hr Γ hΓ=>?_
 rw[rT]at h
 refine(aK.a [.cn [0,1,5,6] [0]]).lps hΓ (AR aA aM ([[D.sl ([]),D.sl ([])]]) 0) (by first| (simp only[mA]<;>rfl)| (simp only[mA,aD.c,aH.c,aF.c,Action.c,aI.c,aL.c,bH.c,aN.c,Node.c,aG.c,bI.c]<;>rfl)) (K8 hΓ (fun aT h=>?_) (by have:=(bR.sl (hr _ (List.mem_of_getElem? (i:=0) rfl))).1;simpa using this) (aA) 0 ([(⟨[],[]⟩:aL)]) rfl h)
 have h:=aC h;subst h;exact aK.ret hΓ
def cQ(aA:List aH)(aM:List aH)(k1:Option Bool):List aH→Nat→Option Bool
 | [],i1=>(k1)
 |aS::aX,i1=>((oI (aM) ((i1:Int))).bind fun x22=>(bif !((aS.var:Bytes)==(x22.var)&&(aS.value:Bytes)==(x22.value))then(some (false))else(cQ aA aM k1 aX (i1+1))))
def hY(aA:List aH)(aM:List aH):Option Bool:=(bif ((((aA).map aH.c).length:Int):Int) != ((((aM).map aH.c).length:Int))then(some (false))else(cQ aA aM (some (true)) (aA) 0))
def CV(aA:List aH)(aM:List aH)(bB:Int):St:=⟨[(0,D.sl ((aA).map aH.c)),(1,D.sl ((aM).map aH.c)),(5,D.int .i64 (bB))],[]⟩
theorem C1(hΓ:Γ.nt=26){aA:List aH}{aM:List aH}{r:Bool}{k1:Option Bool}(bE:k1=some r→Ax Γ N Tryz.f153 (.q [[none]] (D.bool (r))) [1,1,1] ⟨[],[]⟩)(hm1:(aA).length≤maxLen):∀(rest:List aH) (i1:Nat),(aA).drop i1=rest→cQ aA aM k1 rest i1=some r→Ar Γ N Tryz.f153 (.q [[none]] (D.bool (r))) [1,1,0,1,0] (rest.length+1) (CV aA aM ((i1:Int))):=by
 intro rest
 induction rest with
 |nil=>
  intro i1 aO h
  rw[cQ]at h
  refine aJ fun N1 aY aV=>?_
  exact((aK.ge aH.c aO).a [.hl 0 [] []]).ex hΓ aY (bE h)
 |cons aS aX ih1=>
  intro i1 aO h
  rw[cQ]at h
  refine aJ fun N1 aY aV=>?_
  obtain⟨x22,h23,h⟩:=aB h
  have bO:=((((aK.lt aH.c aO).a [.n 8]).l (aQ aH.c 2 (dc aO) rfl)).l (bP aH.c 2 h23 rfl))
  obtain⟨h24,h⟩|⟨h24,h⟩:=aE h
  ·have h:=aC h;subst h;exact(bO.b h24).ret hΓ
  ·exact((bO.b h24).a [.cn [0,1,5] []]).ct hΓ aV (iS aO hm1) (ih1 (i1+1) (dn aO) h)
theorem BC{aA:List aH}{aM:List aH}{r:Bool}(h:hY aA aM=some r):Good Tryz.prog 153 [D.sl ((aA).map aH.c),D.sl ((aM).map aH.c)] (D.bool (r)):=by
 refine gd Tryz.func153 [[none]] 26 fun hr Γ hΓ=>?_
 rw[hY]at h
 obtain⟨h1,h⟩|⟨h1,h⟩:=aE h
 ·have h:=aC h;subst h;exact(aK.b h1).ret hΓ
 ·refine((aK.b h1).a [.cn [0,1,5] []]).lp hΓ (C1 hΓ (fun h=>?_) (by have:=(bR.sl (hr _ (List.mem_of_getElem? (i:=0) rfl))).1;simpa using this) (aA) 0 rfl h)
  have h:=aC h;subst h;exact aK.ret hΓ
def dF(aA:List aL)(aM:List aL)(k1:Option Bool):List aL→Nat→Option Bool
 | [],i1=>(k1)
 |aS::aX,i1=>((oI (aM) ((i1:Int))).bind fun x42=>((kP (aS.facts) (x42.facts)).bind fun y44=>(bif !(y44)then(some (false))else((hY (aS.bind) (x42.bind)).bind fun y47=>(bif !(y47)then(some (false))else(dF aA aM k1 aX (i1+1)))))))
def mQ(aA:List aL)(aM:List aL):Option Bool:=(bif ((((aA).map aL.c).length:Int):Int) != ((((aM).map aL.c).length:Int))then(some (false))else(dF aA aM (some (true)) (aA) 0))
def DV(aA:List aL)(aM:List aL)(bB:Int):St:=⟨[(0,D.sl ((aA).map aL.c)),(1,D.sl ((aM).map aL.c)),(5,D.int .i64 (bB))],[]⟩
theorem CW(hΓ:Γ.nt=43){aA:List aL}{aM:List aL}{r:Bool}{k1:Option Bool}(bE:k1=some r→Ax Γ N Tryz.f88 (.q [[none]] (D.bool (r))) [1,1,1] ⟨[],[]⟩)(hm1:(aA).length≤maxLen):∀(rest:List aL) (i1:Nat),(aA).drop i1=rest→dF aA aM k1 rest i1=some r→Ar Γ N Tryz.f88 (.q [[none]] (D.bool (r))) [1,1,0,1,0] (rest.length+1) (DV aA aM ((i1:Int))):=by
 intro rest
 induction rest with
 |nil=>
  intro i1 aO h
  rw[dF]at h
  refine aJ fun N1 aY aV=>?_
  exact((aK.ge aL.c aO).a [.hl 0 [] []]).ex hΓ aY (bE h)
 |cons aS aX ih1=>
  intro i1 aO h
  rw[dF]at h
  refine aJ fun N1 aY aV=>?_
  obtain⟨x42,h43,h⟩:=aB h
  obtain⟨y44,h45,h⟩:=aB h
  have mG:=(((((aK.lt aL.c aO).a [.n 23]).l (aQ aL.c 2 (dc aO) rfl)).l (bP aL.c 2 h43 rfl)).g (wV h45))
  obtain⟨h46,h⟩|⟨h46,h⟩:=aE h
  ·have h:=aC h;subst h;exact((mG.r 13 h46).T 1).ret hΓ
  ·obtain⟨y47,h48,h⟩:=aB h
   have l8:=(((((((mG.r 3 h46).l (aQ aL.c 2 (dc aO) rfl)).r 5 h46).l (bP aL.c 2 h43 rfl)).r 3 h46).g (BC h48)).r 2 h46)
   obtain⟨h49,h⟩|⟨h49,h⟩:=aE h
   ·have h:=aC h;subst h;exact(l8.b h49).ret hΓ
   ·exact((l8.b h49).a [.cn [0,1,5] []]).ct hΓ aV (iS aO hm1) (ih1 (i1+1) (dn aO) h)
theorem C2{aA:List aL}{aM:List aL}{r:Bool}(h:mQ aA aM=some r):Good Tryz.prog 88 [D.sl ((aA).map aL.c),D.sl ((aM).map aL.c)] (D.bool (r)):=by
 refine gd Tryz.func88 [[none]] 43 fun hr Γ hΓ=>?_
 rw[mQ]at h
 obtain⟨h1,h⟩|⟨h1,h⟩:=aE h
 ·have h:=aC h;subst h;exact(aK.b h1).ret hΓ
 ·refine((aK.b h1).a [.cn [0,1,5] []]).lp hΓ (CW hΓ (fun h=>?_) (by have:=(bR.sl (hr _ (List.mem_of_getElem? (i:=0) rfl))).1;simpa using this) (aA) 0 rfl h)
  have h:=aC h;subst h;exact aK.ret hΓ
def fO(aA:aG)(k1:Option Bool):List aN→Nat→Option Bool
 | [],i1=>(k1)
 |aS::aX,i1=>((eF (aS.shape) ([]) (aA.facts)).bind fun ZC=>((kP (aS.facts) (ZC)).bind fun tK=>(bif !(tK)then(some (false))else(fO aA k1 aX (i1+1)))))
def fP(aA:aG)(k2:Option Bool):List Node→Nat→Option Bool
 | [],i2=>(k2)
 |o8::wO,i2=>((uY (aA) ((i2:Int))).bind fun a2J=>((rT (a2J) (aA.facts)).bind fun aEG=>((mQ (o8.tokens) (aEG)).bind fun aEH=>(bif !(aEH)then(some (false))else(fP aA k2 wO (i2+1))))))
def nG(aA:aG):Option Bool:=((mP (aA.rules)).bind fun y1=>(bif !(y1.2)then(some (false))else((rM (aA.facts)).bind fun y4=>(bif !(y4)then(some (false))else((oN (aA) (y1.1)).bind fun y7=>(bif !(y7)then(some (false))else(bif decide ((aA.bJ:Int)<(0))then(some (false))else(fO aA (fP aA (some (true)) (aA.nodes) 0) (aA.aR) 0))))))))
def K9(aA:aG)(bB:Int):St:=⟨[(1,D.ptr 0 0),(5,D.int .i64 (bB))],[Ob.box (aG.c aA)]⟩
theorem HC(hΓ:Γ.nt=77){aA:aG}{r:Bool}{k1:Option Bool}(bE:k1=some r→Ax Γ N Tryz.f38 (.q [[none]] (D.bool (r))) [1,1,1,1] ⟨[(1,D.ptr 0 0)],[Ob.box (aG.c aA)]⟩)(hm1:(aA.aR).length≤maxLen):∀(rest:List aN) (i1:Nat),(aA.aR).drop i1=rest→fO aA k1 rest i1=some r→Ar Γ N Tryz.f38 (.q [[none]] (D.bool (r))) [1,1,1,0,1,0] (rest.length+1) (K9 aA ((i1:Int))):=by
 intro rest
 induction rest with
 |nil=>
  intro i1 aO h
  rw[fO]at h
  refine aJ fun N1 aY aV=>?_
  exact((aK.ge aN.c aO).a [.hl 0 [1] [0]]).ex hΓ aY (bE h)
 |cons aS aX ih1=>
  intro i1 aO h
  rw[fO]at h
  refine aJ fun N1 aY aV=>?_
  obtain⟨ZC,h40,h⟩:=aB h
  obtain⟨tK,h42,h⟩:=aB h
  have mG:=(((((((aK.lt aN.c aO).a [.n 15]).l (aQ aN.c 3 (dc aO) rfl)).l (aQ aN.c 3 (dc aO) rfl)).a [.d (D.fr 53 2 ((ZC).map aD.c))]).w (show Good Tryz.prog 87 [D.agg (aD.c (aS.shape)),D.sl ([]),D.sl ((aA.facts).map aD.c)] (D.fr 53 2 ((ZC).map aD.c))from by first| (simpa only[List.map_append,List.map_cons,List.map_nil,List.map_drop,List.map_take]using jT h40)|exact jT h40)).g (wV h42))
  obtain⟨h43,h⟩|⟨h43,h⟩:=aE h
  ·have h:=aC h;subst h;exact(mG.b h43).ret hΓ
  ·exact((mG.b h43).a [.cn [1,5] [0]]).ct hΓ aV (iS aO hm1) (ih1 (i1+1) (dn aO) h)
def KA(aA:aG)(bB:Int):St:=⟨[(1,D.ptr 0 0),(6,D.int .i64 (bB))],[Ob.box (aG.c aA)]⟩
theorem HD(hΓ:Γ.nt=77){aA:aG}{r:Bool}{k2:Option Bool}(IK:k2=some r→Ax Γ N Tryz.f38 (.q [[none]] (D.bool (r))) [1,1,1,1,1] ⟨[],[]⟩)(hm2:(aA.nodes).length≤maxLen):∀(rest:List Node) (i2:Nat),(aA.nodes).drop i2=rest→fP aA k2 rest i2=some r→Ar Γ N Tryz.f38 (.q [[none]] (D.bool (r))) [1,1,1,1,0,1,0] (rest.length+1) (KA aA ((i2:Int))):=by
 intro rest
 induction rest with
 |nil=>
  intro i2 hd2 h
  rw[fP]at h
  refine aJ fun N2 yR wG=>?_
  exact((aK.ge Node.c hd2).a [.hl 0 [] []]).ex hΓ yR (IK h)
 |cons o8 wO ih2=>
  intro i2 hd2 h
  rw[fP]at h
  refine aJ fun N2 yR wG=>?_
  obtain⟨a2J,h105,h⟩:=aB h
  obtain⟨aEG,h107,h⟩:=aB h
  obtain⟨aEH,h109,h⟩:=aB h
  have l8:=((((((aK.lt Node.c hd2).a [.n2 [0,1,2,3,4,5,6,7,8,9,10,11,12,13] [0,1,2,3,4,5,6,7,8,9,10,11,12,13] 11 12 [0,1,2,3,4,5] []]).l (aQ Node.c 8 (dc hd2) rfl)).g (NE h105)).g (HB h107)).g (C2 h109))
  obtain⟨h110,h⟩|⟨h110,h⟩:=aE h
  ·have h:=aC h;subst h;exact(l8.b h110).ret hΓ
  ·exact((l8.b h110).a [.cn [1,6] [0]]).ct hΓ wG (iS hd2 hm2) (ih2 (i2+1) (dn hd2) h)
theorem EZ{aA:aG}{r:Bool}(h:nG aA=some r):Good Tryz.prog 38 [D.agg (aG.c aA)] (D.bool (r)):=by
 refine gd Tryz.func38 [[none]] 77 fun hr Γ hΓ=>?_
 rw[nG]at h
 obtain⟨y1,h2,h⟩:=aB h
 obtain⟨h3,h⟩|⟨h3,h⟩:=aE h
 ·have h:=aC h;subst h;exact(((aK.g (uX h2)).r 5 h3).T 10).ret hΓ
 ·obtain⟨y4,h5,h⟩:=aB h
  have uV:=((((aK.g (uX h2)).r 3 h3).g (GL h5)).r 2 h3)
  obtain⟨h6,h⟩|⟨h6,h⟩:=aE h
  ·have h:=aC h;subst h;exact((uV.r 5 h6).T 5).ret hΓ
  ·obtain⟨y7,h8,h⟩:=aB h
   have xU:=(((uV.r 3 h6).g (DU h8)).r 2 h6)
   obtain⟨h9,h⟩|⟨h9,h⟩:=aE h
   ·have h:=aC h;subst h;exact((xU.r 4 h9).T 1).ret hΓ
   ·have BQ:=(xU.r 4 h9)
    obtain⟨h10,h⟩|⟨h10,h⟩:=aE h
    ·have h:=aC h;subst h;exact(BQ.b h10).ret hΓ
    ·refine((BQ.b h10).a [.cn [1,5] [0]]).lp hΓ (HC hΓ (fun h=>?_) (by have:=(bR.sl (bR.agg (hr _ (List.mem_of_getElem? (i:=0) rfl)) (.sl ((aA.aR).map aN.c)) (by simp))).1;simpa using this) (aA.aR) 0 rfl h)
     refine(aK.a [.cn [1,6] [0]]).lp hΓ (HD hΓ (fun h=>?_) (by have:=(bR.sl (bR.agg (hr _ (List.mem_of_getElem? (i:=0) rfl)) (.sl ((aA.nodes).map Node.c)) (by simp))).1;simpa using this) (aA.nodes) 0 rfl h)
     have h:=aC h;subst h;exact aK.ret hΓ
def kR(aA:List Bytes):Option (List Bytes):=(bif room ((([]:List (List D))).length+((aA).map tx).length) 16 then(some ((([]:List Bytes))++(aA)))else none)
theorem sU{aA:List Bytes}{r:List Bytes}(h:kR aA=some r):Good Tryz.prog 184 [D.sl ((aA).map tx)] (D.fr 9 1 ((r).map tx)):=by
 refine gd Tryz.func184 [[some (9,1)]] 5 fun hr Γ hΓ=>?_
 rw[kR]at h
 obtain⟨h1,h⟩:=aU h
 cases h;exact(((aK.w (aZ h1)).w (show(∀r∈((aA).map tx),r.length=1)∧(true=true→D.pN ((aA).map tx)=true)from⟨by first|simp| (intro r hr;obtain⟨x,_,rfl⟩:=List.mem_map.1 (List.mem_of_mem_take (List.mem_of_mem_drop hr));rfl),by simp[D.pN,D.flat]⟩)).a [.VP 2,.fl true]).rts hΓ (D.fr 9 1 ((([]:List (List D)))++((aA).map tx))) (by first|rfl| (simp only[mA]<;>rfl)| (simp only[b8,mA]<;>rfl))
def dG(aA:aD):Option aD:=((kR (aA.args)).bind fun y1=>(some ((⟨aA.rel,y1⟩:aD))))
theorem vV{aA:aD}{r:aD}(h:dG aA=some r):Good Tryz.prog 112 [D.agg (aD.c aA)] (D.agg [D.str (r.rel),D.fr 9 1 ((r.args).map tx)]):=by
 refine gd Tryz.func112 [[none,some (9,1)]] 9 fun hr Γ hΓ=>?_
 rw[dG]at h
 obtain⟨y1,h2,h⟩:=aB h
 cases h;exact((aK.a [.n 5]).g (sU h2)).ret hΓ
def eR(aA:aF):Option aF:=((dG (aA.pat)).bind fun y1=>(some ((⟨aA.kind,y1,aA.left,aA.right⟩:aF))))
theorem lC{aA:aF}{r:aF}(h:eR aA=some r):Good Tryz.prog 113 [D.agg (aF.c aA)] (D.agg [D.int .i64 (r.kind),D.str (r.pat.rel),D.fr 9 1 ((r.pat.args).map tx),D.str (r.left),D.str (r.right)]):=by
 refine gd Tryz.func113 [[none,none,some (9,1),none,none]] 8 fun hr Γ hΓ=>?_
 rw[eR]at h
 obtain⟨y1,h2,h⟩:=aB h
 cases h;exact(aK.g (vV h2)).ret hΓ
def jE(aA:List aF)(k1:List aF→Option (List aF)):List aF→Nat→List aF→Option (List aF)
 | [],i1,aP=>(k1 (aP))
 |aS::aX,i1,aP=>((eR (aS)).bind fun o9=>(bif room (((aP).map aF.c).length+([[D.int .i64 (o9.kind),D.str (o9.pat.rel),D.sl ((o9.pat.args).map tx),D.str (o9.left),D.str (o9.right)]]).length) 80 then(jE aA k1 aX (i1+1) ((aP)++([o9])))else none))
def qF(aA:List aF):Option (List aF):=(jE aA (fun(aT:List aF)=>(some (aT))) (aA) 0 (([]:List aF)))
def zG(aA:List aF)(W0:List (List D))(bB:Int):St:=⟨[(3,D.acc 0),(6,D.sl ((aA).map aF.c)),(7,D.int .i64 ((((aA).map aF.c).length:Int))),(8,D.int .i64 (bB))],[Ob.row .uq 115 5 (W0)]⟩
theorem HE(hΓ:Γ.nt=19){aA:List aF}{r:List aF}{k1:List aF→Option (List aF)}(bE:∀(aT:List aF),k1 aT=some r→Ax Γ N Tryz.f244 (.q [[some (115,5)]] (D.fr 115 5 ((r).map aF.c))) [1,1,1] ⟨[(3,D.acc 0)],[Ob.row .uq 115 5 ((aT).map aF.c)]⟩)(hm1:(aA).length≤maxLen):∀(rest:List aF) (i1:Nat) (aP:List aF),(aA).drop i1=rest→jE aA k1 rest i1 aP=some r→Ar Γ N Tryz.f244 (.q [[some (115,5)]] (D.fr 115 5 ((r).map aF.c))) [1,1,0,1,0] (rest.length+1) (zG aA ((aP).map aF.c) ((i1:Int))):=by
 intro rest
 induction rest with
 |nil=>
  intro i1 aP aO h
  rw[jE]at h
  refine aJ fun N1 aY aV=>?_
  exact((aK.ge aF.c aO).a [.hl 0 [3] [0]]).ex hΓ aY (bE (aP) h)
 |cons aS aX ih1=>
  intro i1 aP aO h
  rw[jE]at h
  refine aJ fun N1 aY aV=>?_
  obtain⟨o9,h28,h⟩:=aB h
  obtain⟨h29,h⟩:=aU h
  exact(((((aK.lt aF.c aO).l (aQ aF.c 5 (dc aO) rfl)).g (lC h28)).w (aZ h29)).a [.cn [3,6,7,8] [4]]).cs hΓ aV (zG aA (((aP).map aF.c)++([[D.int .i64 (o9.kind),D.str (o9.pat.rel),D.sl ((o9.pat.args).map tx),D.str (o9.left),D.str (o9.right)]])) (IntKind.i64.wrap (((i1:Int))+(1)))) (by first| (simp only[iS aO hm1,mA]<;>rfl)| (simp only[iS aO hm1,mA,aD.c,aH.c,aF.c,Action.c,aI.c,aL.c,bH.c,aN.c,Node.c,aG.c,bI.c]<;>rfl)) (ih1 (i1+1) ((aP)++([o9])) (dn aO) h)
theorem F0{aA:List aF}{r:List aF}(h:qF aA=some r):Good Tryz.prog 244 [D.sl ((aA).map aF.c)] (D.fr 115 5 ((r).map aF.c)):=by
 refine gd Tryz.func244 [[some (115,5)]] 19 fun hr Γ hΓ=>?_
 rw[qF]at h
 refine(aK.a [.VP 3,.cn [3,6,7,8] [0]]).lp hΓ (HE hΓ (fun aT h=>?_) (by have:=(bR.sl (hr _ (List.mem_of_getElem? (i:=0) rfl))).1;simpa using this) (aA) 0 (([]:List aF)) rfl h)
 have h:=aC h;subst h;exact aK.ret hΓ
def gL(aA:aI)(y1:List aF)(k1:List Action→Option aI):List Action→Nat→List Action→Option aI
 | [],i1,dL=>(k1 (dL))
 |aS::aX,i1,dL=>((dG (aS.pat)).bind fun tK=>(bif room (((dL).map Action.c).length+([[D.int .i64 (aS.kind),D.str (tK.rel),D.sl ((tK.args).map tx)]]).length) 48 then(gL aA y1 k1 aX (i1+1) ((dL)++([(⟨aS.kind,tK⟩:Action)])))else none))
def oA(aA:aI):Option aI:=((qF (aA.conds)).bind fun y1=>(gL aA y1 (fun(lF:List Action)=>(some ((⟨aA.name,aA.prio,y1,lF⟩:aI)))) (aA.bC) 0 (([]:List Action))))
def AS(aA:aI)(y1:List aF)(W0:List (List D))(bB:Int):St:=⟨[(2,D.ptr 0 0),(3,D.ptr 1 0),(15,D.sl ((aA.bC).map Action.c)),(16,D.int .i64 ((((aA.bC).map Action.c).length:Int))),(17,D.int .i64 (bB))],[Ob.box [D.str ([]),D.int .i64 (0),D.nil,D.nil],Ob.box [D.str (aA.name),D.int .i64 (aA.prio),D.acc 2,D.acc 3],Ob.row .uq 115 5 ((y1).map aF.c),Ob.row .uq 199 3 (W0)]⟩
theorem KB(hΓ:Γ.nt=34){aA:aI}{y1:List aF}{r:aI}{k1:List Action→Option aI}(bE:∀(lF:List Action),k1 lF=some r→Ax Γ N Tryz.f182 (.q [[none,none,some (115,5),some (199,3)]] (D.agg [D.str (r.name),D.int .i64 (r.prio),D.fr 115 5 ((r.conds).map aF.c),D.fr 199 3 ((r.bC).map Action.c)])) [1,1,1] ⟨[(2,D.ptr 0 0),(3,D.ptr 1 0)],[Ob.box [D.str ([]),D.int .i64 (0),D.nil,D.nil],Ob.box [D.str (aA.name),D.int .i64 (aA.prio),D.acc 2,D.acc 3],Ob.row .uq 115 5 ((y1).map aF.c),Ob.row .uq 199 3 ((lF).map Action.c)]⟩)(hm1:(aA.bC).length≤maxLen):∀(rest:List Action) (i1:Nat) (dL:List Action),(aA.bC).drop i1=rest→gL aA y1 k1 rest i1 dL=some r→Ar Γ N Tryz.f182 (.q [[none,none,some (115,5),some (199,3)]] (D.agg [D.str (r.name),D.int .i64 (r.prio),D.fr 115 5 ((r.conds).map aF.c),D.fr 199 3 ((r.bC).map Action.c)])) [1,1,0,1,0] (rest.length+1) (AS aA y1 ((dL).map Action.c) ((i1:Int))):=by
 intro rest
 induction rest with
 |nil=>
  intro i1 dL aO h
  rw[gL]at h
  refine aJ fun N1 aY aV=>?_
  exact((aK.ge Action.c aO).a [.hl 0 [2,3] [0,1,2,3]]).ex hΓ aY (bE (dL) h)
 |cons aS aX ih1=>
  intro i1 dL aO h
  rw[gL]at h
  refine aJ fun N1 aY aV=>?_
  obtain⟨tK,h42,h⟩:=aB h
  obtain⟨h43,h⟩:=aU h
  exact((((((aK.lt Action.c aO).l (aQ Action.c 3 (dc aO) rfl)).a [.n2 [0,1,2,3,4,5,6,7,8,9,10,11] [0,1,2,3,4,5,6,7,8,9,10,11] 8 9 [0,1] [5]]).g (vV h42)).w (aZ h43)).a [.cn [2,3,15,16,17] [0,1,2,7]]).cs hΓ aV (AS aA y1 (((dL).map Action.c)++([[D.int .i64 (aS.kind),D.str (tK.rel),D.sl ((tK.args).map tx)]])) (IntKind.i64.wrap (((i1:Int))+(1)))) (by first| (simp only[iS aO hm1,mA]<;>rfl)| (simp only[iS aO hm1,mA,aD.c,aH.c,aF.c,Action.c,aI.c,aL.c,bH.c,aN.c,Node.c,aG.c,bI.c]<;>rfl)) (ih1 (i1+1) ((dL)++([(⟨aS.kind,tK⟩:Action)])) (dn aO) h)
theorem HF{aA:aI}{r:aI}(h:oA aA=some r):Good Tryz.prog 182 [D.agg (aI.c aA)] (D.agg [D.str (r.name),D.int .i64 (r.prio),D.fr 115 5 ((r.conds).map aF.c),D.fr 199 3 ((r.bC).map Action.c)]):=by
 refine gd Tryz.func182 [[none,none,some (115,5),some (199,3)]] 34 fun hr Γ hΓ=>?_
 rw[oA]at h
 obtain⟨y1,h2,h⟩:=aB h
 refine(((aK.a [.n 9]).g (F0 h2)).a [.pb 3 3 199 3,.cn [2,3,15,16,17] [1,3,2,4]]).lp hΓ (KB hΓ (fun lF h=>?_) (by have:=(bR.sl (bR.agg (hr _ (List.mem_of_getElem? (i:=0) rfl)) (.sl ((aA.bC).map Action.c)) (by simp))).1;simpa using this) (aA.bC) 0 (([]:List Action)) rfl h)
 cases h;exact aK.ret hΓ
def jF(aA:List aI)(k1:List aI→Option (List aI)):List aI→Nat→List aI→Option (List aI)
 | [],i1,aP=>(k1 (aP))
 |aS::aX,i1,aP=>((oA (aS)).bind fun o9=>(bif room (((aP).map aI.c).length+([[D.str (o9.name),D.int .i64 (o9.prio),D.sl ((o9.conds).map aF.c),D.sl ((o9.bC).map Action.c)]]).length) 72 then(jF aA k1 aX (i1+1) ((aP)++([o9])))else none))
def qG(aA:List aI):Option (List aI):=(jF aA (fun(aT:List aI)=>(some (aT))) (aA) 0 (([]:List aI)))
def zH(aA:List aI)(W0:List (List D))(bB:Int):St:=⟨[(3,D.acc 0),(6,D.sl ((aA).map aI.c)),(7,D.int .i64 ((((aA).map aI.c).length:Int))),(8,D.int .i64 (bB))],[Ob.row .uq 105 4 (W0)]⟩
theorem HG(hΓ:Γ.nt=19){aA:List aI}{r:List aI}{k1:List aI→Option (List aI)}(bE:∀(aT:List aI),k1 aT=some r→Ax Γ N Tryz.f109 (.q [[some (105,4)]] (D.fr 105 4 ((r).map aI.c))) [1,1,1] ⟨[(3,D.acc 0)],[Ob.row .uq 105 4 ((aT).map aI.c)]⟩)(hm1:(aA).length≤maxLen):∀(rest:List aI) (i1:Nat) (aP:List aI),(aA).drop i1=rest→jF aA k1 rest i1 aP=some r→Ar Γ N Tryz.f109 (.q [[some (105,4)]] (D.fr 105 4 ((r).map aI.c))) [1,1,0,1,0] (rest.length+1) (zH aA ((aP).map aI.c) ((i1:Int))):=by
 intro rest
 induction rest with
 |nil=>
  intro i1 aP aO h
  rw[jF]at h
  refine aJ fun N1 aY aV=>?_
  exact((aK.ge aI.c aO).a [.hl 0 [3] [0]]).ex hΓ aY (bE (aP) h)
 |cons aS aX ih1=>
  intro i1 aP aO h
  rw[jF]at h
  refine aJ fun N1 aY aV=>?_
  obtain⟨o9,h28,h⟩:=aB h
  obtain⟨h29,h⟩:=aU h
  exact(((((aK.lt aI.c aO).l (aQ aI.c 4 (dc aO) rfl)).g (HF h28)).w (aZ h29)).a [.cn [3,6,7,8] [5]]).cs hΓ aV (zH aA (((aP).map aI.c)++([[D.str (o9.name),D.int .i64 (o9.prio),D.sl ((o9.conds).map aF.c),D.sl ((o9.bC).map Action.c)]])) (IntKind.i64.wrap (((i1:Int))+(1)))) (by first| (simp only[iS aO hm1,mA]<;>rfl)| (simp only[iS aO hm1,mA,aD.c,aH.c,aF.c,Action.c,aI.c,aL.c,bH.c,aN.c,Node.c,aG.c,bI.c]<;>rfl)) (ih1 (i1+1) ((aP)++([o9])) (dn aO) h)
theorem F1{aA:List aI}{r:List aI}(h:qG aA=some r):Good Tryz.prog 109 [D.sl ((aA).map aI.c)] (D.fr 105 4 ((r).map aI.c)):=by
 refine gd Tryz.func109 [[some (105,4)]] 19 fun hr Γ hΓ=>?_
 rw[qG]at h
 refine(aK.a [.VP 3,.cn [3,6,7,8] [0]]).lp hΓ (HG hΓ (fun aT h=>?_) (by have:=(bR.sl (hr _ (List.mem_of_getElem? (i:=0) rfl))).1;simpa using this) (aA) 0 (([]:List aI)) rfl h)
 have h:=aC h;subst h;exact aK.ret hΓ
def eS(aA:aD):Option aD:=((kR (aA.args)).bind fun y1=>(some ((⟨aA.rel,y1⟩:aD))))
theorem tV{aA:aD}{r:aD}(h:eS aA=some r):Good Tryz.prog 183 [D.agg (aD.c aA)] (D.agg [D.str (r.rel),D.fr 9 1 ((r.args).map tx)]):=by
 refine gd Tryz.func183 [[none,some (9,1)]] 9 fun hr Γ hΓ=>?_
 rw[eS]at h
 obtain⟨y1,h2,h⟩:=aB h
 cases h;exact((aK.a [.n 5]).g (sU h2)).ret hΓ
def jG(aA:List aD)(k1:List aD→Option (List aD)):List aD→Nat→List aD→Option (List aD)
 | [],i1,aP=>(k1 (aP))
 |aS::aX,i1,aP=>((eS (aS)).bind fun o9=>(bif room (((aP).map aD.c).length+([[D.str (o9.rel),D.sl ((o9.args).map tx)]]).length) 40 then(jG aA k1 aX (i1+1) ((aP)++([o9])))else none))
def kT(aA:List aD):Option (List aD):=(jG aA (fun(aT:List aD)=>(some (aT))) (aA) 0 (([]:List aD)))
def zI(aA:List aD)(W0:List (List D))(bB:Int):St:=⟨[(3,D.acc 0),(6,D.sl ((aA).map aD.c)),(7,D.int .i64 ((((aA).map aD.c).length:Int))),(8,D.int .i64 (bB))],[Ob.row .uq 53 2 (W0)]⟩
theorem HH(hΓ:Γ.nt=19){aA:List aD}{r:List aD}{k1:List aD→Option (List aD)}(bE:∀(aT:List aD),k1 aT=some r→Ax Γ N Tryz.f111 (.q [[some (53,2)]] (D.fr 53 2 ((r).map aD.c))) [1,1,1] ⟨[(3,D.acc 0)],[Ob.row .uq 53 2 ((aT).map aD.c)]⟩)(hm1:(aA).length≤maxLen):∀(rest:List aD) (i1:Nat) (aP:List aD),(aA).drop i1=rest→jG aA k1 rest i1 aP=some r→Ar Γ N Tryz.f111 (.q [[some (53,2)]] (D.fr 53 2 ((r).map aD.c))) [1,1,0,1,0] (rest.length+1) (zI aA ((aP).map aD.c) ((i1:Int))):=by
 intro rest
 induction rest with
 |nil=>
  intro i1 aP aO h
  rw[jG]at h
  refine aJ fun N1 aY aV=>?_
  exact((aK.ge aD.c aO).a [.hl 0 [3] [0]]).ex hΓ aY (bE (aP) h)
 |cons aS aX ih1=>
  intro i1 aP aO h
  rw[jG]at h
  refine aJ fun N1 aY aV=>?_
  obtain⟨o9,h28,h⟩:=aB h
  obtain⟨h29,h⟩:=aU h
  exact(((((aK.lt aD.c aO).l (aQ aD.c 2 (dc aO) rfl)).g (tV h28)).w (aZ h29)).a [.cn [3,6,7,8] [4]]).cs hΓ aV (zI aA (((aP).map aD.c)++([[D.str (o9.rel),D.sl ((o9.args).map tx)]])) (IntKind.i64.wrap (((i1:Int))+(1)))) (by first| (simp only[iS aO hm1,mA]<;>rfl)| (simp only[iS aO hm1,mA,aD.c,aH.c,aF.c,Action.c,aI.c,aL.c,bH.c,aN.c,Node.c,aG.c,bI.c]<;>rfl)) (ih1 (i1+1) ((aP)++([o9])) (dn aO) h)
theorem wW{aA:List aD}{r:List aD}(h:kT aA=some r):Good Tryz.prog 111 [D.sl ((aA).map aD.c)] (D.fr 53 2 ((r).map aD.c)):=by
 refine gd Tryz.func111 [[some (53,2)]] 19 fun hr Γ hΓ=>?_
 rw[kT]at h
 refine(aK.a [.VP 3,.cn [3,6,7,8] [0]]).lp hΓ (HH hΓ (fun aT h=>?_) (by have:=(bR.sl (hr _ (List.mem_of_getElem? (i:=0) rfl))).1;simpa using this) (aA) 0 (([]:List aD)) rfl h)
 have h:=aC h;subst h;exact aK.ret hΓ
def nH(aA:List aH):Option (List aH):=(bif room ((([]:List (List D))).length+((aA).map aH.c).length) 32 then(some ((([]:List aH))++(aA)))else none)
theorem wX{aA:List aH}{r:List aH}(h:nH aA=some r):Good Tryz.prog 185 [D.sl ((aA).map aH.c)] (D.fr 152 2 ((r).map aH.c)):=by
 refine gd Tryz.func185 [[some (152,2)]] 5 fun hr Γ hΓ=>?_
 rw[nH]at h
 obtain⟨h1,h⟩:=aU h
 cases h;exact(((aK.w (aZ h1)).w (show(∀r∈((aA).map aH.c),r.length=2)∧(true=true→D.pN ((aA).map aH.c)=true)from⟨by first|simp| (intro r hr;obtain⟨x,_,rfl⟩:=List.mem_map.1 (List.mem_of_mem_take (List.mem_of_mem_drop hr));rfl),by simp[D.pN,D.flat]⟩)).a [.VP 2,.fl true]).rts hΓ (D.fr 152 2 ((([]:List (List D)))++((aA).map aH.c))) (by first|rfl| (simp only[mA]<;>rfl)| (simp only[b8,mA]<;>rfl))
def cR(aA:Bytes)(k1:Option Bool):Nat→Int→Option Bool
 |0,_=>none
 |n1+1,pF=>(bif decide ((pF:Int)<(((aA).length:Int)))then((oI (aA) (pF)).bind fun b31=>(bif decide ((b31.toNat:Int)<(97))then(bif decide ((b31.toNat:Int)<(48))then(some (false))else(bif decide ((b31.toNat:Int)>(57))then(some (false))else(cR aA k1 n1 (IntKind.i64.wrap ((pF)+(1))))))else(bif decide ((b31.toNat:Int)>(122))then(bif decide ((b31.toNat:Int)<(48))then(some (false))else(bif decide ((b31.toNat:Int)>(57))then(some (false))else(cR aA k1 n1 (IntKind.i64.wrap ((pF)+(1))))))else(cR aA k1 n1 (IntKind.i64.wrap ((pF)+(1)))))))else(k1))
def cF(aA:Bytes):Option Bool:=(bif decide ((((aA).length:Int):Int)<(1))then(some (false))else(bif decide ((((aA).length:Int):Int)>(8))then(some (false))else(cR aA (some (true)) fuel (0))))
def RE(aA:Bytes)(pF:Int):St:=⟨[(0,D.str (aA)),(3,D.int .i64 (pF))],[]⟩
theorem PW(hΓ:Γ.nt=40){aA:Bytes}{r:Bool}{k1:Option Bool}(bE:k1=some r→Ax Γ N Tryz.f191 (.q [[none]] (D.bool (r))) [1,1,1] ⟨[],[]⟩):∀(n1:Nat) (pF:Int),cR aA k1 n1 pF=some r→Ar Γ N Tryz.f191 (.q [[none]] (D.bool (r))) [1,1,0,1,0] n1 (RE aA pF):=by
 intro n
 induction n with
 |zero=>intro pF h;simp[cR]at h
 |succ n1 ih1=>
  intro pF h
  rw[cR]at h
  refine aJ fun N1 aY aV=>?_
  obtain⟨h30,h⟩|⟨h30,h⟩:=aE h
  ·obtain⟨b31,h32,h⟩:=aB h
   have BQ:=((aK.b h30).c h32)
   obtain⟨h33,h⟩|⟨h33,h⟩:=aE h
   ·have L9:=((((BQ.r 5 h33).T 3).c h32).T 2)
    obtain⟨h34,h⟩|⟨h34,h⟩:=aE h
    ·have h:=aC h;subst h;exact((((L9.r 4 h34).T 1).b h34).T 2).ret hΓ
    ·have S8:=((((((L9.r 3 h34).c h32).b h34).T 1).b h34).T 1)
     obtain⟨h35,h⟩|⟨h35,h⟩:=aE h
     ·have h:=aC h;subst h;exact(S8.b h35).ret hΓ
     ·exact((S8.b h35).a [.cn [0,3] []]).cf hΓ aV (ih1 (IntKind.i64.wrap ((pF)+(1))) h)
   ·have CP:=(((BQ.r 3 h33).c h32).r 2 h33)
    obtain⟨h36,h⟩|⟨h36,h⟩:=aE h
    ·have P5:=(((CP.r 3 h36).c h32).r 2 h36)
     obtain⟨h37,h⟩|⟨h37,h⟩:=aE h
     ·have h:=aC h;subst h;exact(((((P5.r 4 h37).b h36).b h37).b h36).T 1).ret hΓ
     ·have EM:=((((((P5.r 3 h37).c h32).b h37).b h36).b h37).b h36)
      obtain⟨h38,h⟩|⟨h38,h⟩:=aE h
      ·have h:=aC h;subst h;exact(EM.b h38).ret hΓ
      ·exact((EM.b h38).a [.cn [0,3] []]).cf hΓ aV (ih1 (IntKind.i64.wrap ((pF)+(1))) h)
    ·exact(((CP.r 7 h36).F 1).a [bF,bF,bF,bF,.cn [0,3] []]).cf hΓ aV (ih1 (IntKind.i64.wrap ((pF)+(1))) h)
  ·exact((aK.b h30).a [.hl 0 [] []]).ex hΓ aY (bE h)
theorem bU{aA:Bytes}{r:Bool}(h:cF aA=some r):Good Tryz.prog 191 [D.str (aA)] (D.bool (r)):=by
 refine gd Tryz.func191 [[none]] 40 fun hr Γ hΓ=>?_
 rw[cF]at h
 obtain⟨h1,h⟩|⟨h1,h⟩:=aE h
 ·have h:=aC h;subst h;exact((aK.r 4 h1).T 1).ret hΓ
 ·have P6:=(aK.r 4 h1)
  obtain⟨h2,h⟩|⟨h2,h⟩:=aE h
  ·have h:=aC h;subst h;exact(P6.b h2).ret hΓ
  ·refine((P6.b h2).a [.cn [0,3] []]).lp hΓ (PW hΓ (fun h=>?_) fuel (0) h)
   have h:=aC h;subst h;exact aK.ret hΓ
def p8(aA:Bytes):Option Bool:=((cF (aA)).bind fun y1=>(bif y1 then((oI (aA) (0)).bind fun b4=>(some (decide ((b4.toNat:Int)≥(97)))))else(some (false))))
theorem kU{aA:Bytes}{r:Bool}(h:p8 aA=some r):Good Tryz.prog 211 [D.str (aA)] (D.bool (r)):=by
 refine gd Tryz.func211 [[none]] 10 fun hr Γ hΓ=>?_
 rw[p8]at h
 obtain⟨y1,h2,h⟩:=aB h
 obtain⟨h3,h⟩|⟨h3,h⟩:=aE h
 ·obtain⟨b4,h5,h⟩:=aB h
  cases h;exact((((aK.g (bU h2)).r 2 h3).c h5).r 2 h3).ret hΓ
 ·have h:=aC h;subst h;exact((aK.g (bU h2)).r 4 h3).ret hΓ
def iW(aA:Bytes):Option Bool:=(bif decide ((((aA).length:Int):Int)>(1))then((oI (aA) (0)).bind fun b2=>(bif (b2.toNat:Int)==(63)then((SK (aA).length (some (D.int .i64 (1))) (none)).bind fun p=>(fun l5 u6=>((cF (((aA).take u6).drop l5)).bind fun y8=>(some (y8)))) p.1 p.2)else(some (false))))else(some (false)))
theorem lY{aA:Bytes}{r:Bool}(h:iW aA=some r):Good Tryz.prog 192 [D.str (aA)] (D.bool (r)):=by
 refine gd Tryz.func192 [[none]] 16 fun hr Γ hΓ=>?_
 rw[iW]at h
 obtain⟨h1,h⟩|⟨h1,h⟩:=aE h
 ·obtain⟨b2,h3,h⟩:=aB h
  have jO:=(((aK.r 2 h1).c h3).r 2 h1)
  obtain⟨h4,h⟩|⟨h4,h⟩:=aE h
  ·obtain⟨⟨l5,u6⟩,h7,h⟩:=aB h
   obtain⟨y8,h9,h⟩:=aB h
   have h:=aC h;subst h;exact((((((jO.r 2 h4).w h7).a [.cut l5 u6]).b h4).g (bU h9)).b h4).ret hΓ
  ·have h:=aC h;subst h;exact(jO.r 4 h4).ret hΓ
 ·have h:=aC h;subst h;exact((aK.r 4 h1).F 4).ret hΓ
def eT(aA:Bytes):Option Bool:=((cF (aA)).bind fun y1=>(bif y1 then(some (true))else((iW (aA)).bind fun y4=>(some (y4)))))
theorem gM{aA:Bytes}{r:Bool}(h:eT aA=some r):Good Tryz.prog 262 [D.str (aA)] (D.bool (r)):=by
 refine gd Tryz.func262 [[none]] 9 fun hr Γ hΓ=>?_
 rw[eT]at h
 obtain⟨y1,h2,h⟩:=aB h
 obtain⟨h3,h⟩|⟨h3,h⟩:=aE h
 ·have h:=aC h;subst h;exact((aK.g (bU h2)).r 3 h3).ret hΓ
 ·obtain⟨y4,h5,h⟩:=aB h
  have h:=aC h;subst h;exact((((aK.g (bU h2)).r 2 h3).g (lY h5)).b h3).ret hΓ
def jH(aA:aD)(k1:Option Bool):List Bytes→Nat→Option Bool
 | [],i1=>(k1)
 |aS::aX,i1=>((eT (aS)).bind fun y25=>(bif !(y25)then(some (false))else(jH aA k1 aX (i1+1))))
def eZ(aA:aD):Option Bool:=((p8 (aA.rel)).bind fun y1=>(bif !(y1)then(some (false))else(bif decide (((((aA.args).map tx).length:Int):Int)>(3))then(some (false))else(jH aA (some (true)) (aA.args) 0))))
def KC(aA:aD)(bB:Int):St:=⟨[(16,D.sl ((aA.args).map tx)),(17,D.int .i64 ((((aA.args).map tx).length:Int))),(18,D.int .i64 (bB))],[]⟩
theorem HI(hΓ:Γ.nt=26){aA:aD}{r:Bool}{k1:Option Bool}(bE:k1=some r→Ax Γ N Tryz.f261 (.q [[none]] (D.bool (r))) [1,1,1] ⟨[],[]⟩)(hm1:(aA.args).length≤maxLen):∀(rest:List Bytes) (i1:Nat),(aA.args).drop i1=rest→jH aA k1 rest i1=some r→Ar Γ N Tryz.f261 (.q [[none]] (D.bool (r))) [1,1,0,1,0] (rest.length+1) (KC aA ((i1:Int))):=by
 intro rest
 induction rest with
 |nil=>
  intro i1 aO h
  rw[jH]at h
  refine aJ fun N1 aY aV=>?_
  exact((aK.ge tx aO).a [.hl 0 [] []]).ex hΓ aY (bE h)
 |cons aS aX ih1=>
  intro i1 aO h
  rw[jH]at h
  refine aJ fun N1 aY aV=>?_
  obtain⟨y25,h26,h⟩:=aB h
  have bO:=(((aK.lt tx aO).l (aQ tx 1 (dc aO) rfl)).g (gM h26))
  obtain⟨h27,h⟩|⟨h27,h⟩:=aE h
  ·have h:=aC h;subst h;exact(bO.b h27).ret hΓ
  ·exact((bO.b h27).a [.cn [16,17,18] []]).ct hΓ aV (iS aO hm1) (ih1 (i1+1) (dn aO) h)
theorem fZ{aA:aD}{r:Bool}(h:eZ aA=some r):Good Tryz.prog 261 [D.agg (aD.c aA)] (D.bool (r)):=by
 refine gd Tryz.func261 [[none]] 26 fun hr Γ hΓ=>?_
 rw[eZ]at h
 obtain⟨y1,h2,h⟩:=aB h
 obtain⟨h3,h⟩|⟨h3,h⟩:=aE h
 ·have h:=aC h;subst h;exact(((aK.g (kU h2)).r 5 h3).T 1).ret hΓ
 ·have mG:=((aK.g (kU h2)).r 5 h3)
  obtain⟨h4,h⟩|⟨h4,h⟩:=aE h
  ·have h:=aC h;subst h;exact(mG.b h4).ret hΓ
  ·refine((mG.b h4).a [.cn [16,17,18] []]).lp hΓ (HI hΓ (fun h=>?_) (by have:=(bR.sl (bR.agg (hr _ (List.mem_of_getElem? (i:=0) rfl)) (.sl ((aA.args).map tx)) (by simp))).1;simpa using this) (aA.args) 0 rfl h)
   have h:=aC h;subst h;exact aK.ret hΓ
def eG(aA:aD):Option Bool:=(bif (aA.rel:Bytes)==([])then(some (((((aA.args).map tx).length:Int):Int)==(0)))else(some (false)))
theorem lZ{aA:aD}{r:Bool}(h:eG aA=some r):Good Tryz.prog 263 [D.agg (aD.c aA)] (D.bool (r)):=by
 refine gd Tryz.func263 [[none]] 12 fun hr Γ hΓ=>?_
 rw[eG]at h
 obtain⟨h1,h⟩|⟨h1,h⟩:=aE h
 ·cases h;exact(aK.r 5 h1).ret hΓ
 ·have h:=aC h;subst h;exact(aK.r 5 h1).ret hΓ
def p9(aA:aF):Option Bool:=(bif (aA.kind:Int)==(1)then((eZ (aA.pat)).bind fun y2=>(bif y2 then(bif (aA.left:Bytes)==([])then(some ((aA.right:Bytes)==([])))else(some (false)))else(some (false))))else(bif (aA.kind:Int)==(2)then((eZ (aA.pat)).bind fun y7=>(bif y7 then(bif (aA.left:Bytes)==([])then(some ((aA.right:Bytes)==([])))else(some (false)))else(some (false))))else(bif (aA.kind:Int)==(3)then((eT (aA.left)).bind fun y12=>(bif y12 then((eT (aA.right)).bind fun y15=>(bif y15 then((eG (aA.pat)).bind fun y18=>(some (y18)))else(some (false))))else(some (false))))else(bif (aA.kind:Int)==(4)then((eT (aA.left)).bind fun y21=>(bif y21 then((eT (aA.right)).bind fun VQ=>(bif VQ then((eG (aA.pat)).bind fun o9=>(some (o9)))else(some (false))))else(some (false))))else(bif (aA.kind:Int)==(5)then((eT (aA.left)).bind fun y30=>(bif y30 then((eT (aA.right)).bind fun P4=>(bif P4 then((eG (aA.pat)).bind fun y36=>(some (y36)))else(some (false))))else(some (false))))else(some (false)))))))
theorem nV{aA:aF}{r:Bool}(h:p9 aA=some r):Good Tryz.prog 212 [D.agg (aF.c aA)] (D.bool (r)):=by
 refine gd Tryz.func212 [[none]] 38 fun hr Γ hΓ=>?_
 rw[p9]at h
 obtain⟨h1,h⟩|⟨h1,h⟩:=aE h
 ·obtain⟨y2,h3,h⟩:=aB h
  have jO:=((aK.r 2 h1).g (fZ h3))
  obtain⟨h4,h⟩|⟨h4,h⟩:=aE h
  ·have bO:=(jO.r 4 h4)
   obtain⟨h5,h⟩|⟨h5,h⟩:=aE h
   ·cases h;exact(bO.r 4 h5).ret hΓ
   ·have h:=aC h;subst h;exact(bO.r 4 h5).ret hΓ
  ·have h:=aC h;subst h;exact((jO.r 4 h4).F 4).ret hΓ
 ·obtain⟨h6,h⟩|⟨h6,h⟩:=aE h
  ·obtain⟨y7,h8,h⟩:=aB h
   have mG:=(((aK.b h1).b h6).g (fZ h8))
   obtain⟨h9,h⟩|⟨h9,h⟩:=aE h
   ·have l8:=(mG.r 4 h9)
    obtain⟨h10,h⟩|⟨h10,h⟩:=aE h
    ·cases h;exact(l8.r 4 h10).ret hΓ
    ·have h:=aC h;subst h;exact(l8.r 4 h10).ret hΓ
   ·have h:=aC h;subst h;exact((mG.r 4 h9).F 4).ret hΓ
  ·have uV:=((aK.b h1).b h6)
   obtain⟨h11,h⟩|⟨h11,h⟩:=aE h
   ·obtain⟨y12,h13,h⟩:=aB h
    have xU:=((uV.r 2 h11).g (gM h13))
    obtain⟨h14,h⟩|⟨h14,h⟩:=aE h
    ·obtain⟨y15,h16,h⟩:=aB h
     have BQ:=(((xU.r 3 h14).g (gM h16)).b h14)
     obtain⟨h17,h⟩|⟨h17,h⟩:=aE h
     ·obtain⟨y18,h19,h⟩:=aB h
      have h:=aC h;subst h;exact(((BQ.r 3 h17).g (lZ h19)).b h17).ret hΓ
     ·have h:=aC h;subst h;exact(BQ.r 4 h17).ret hΓ
    ·have h:=aC h;subst h;exact((xU.r 4 h14).F 4).ret hΓ
   ·obtain⟨h20,h⟩|⟨h20,h⟩:=aE h
    ·obtain⟨y21,h22,h⟩:=aB h
     have L9:=(((uV.b h11).r 2 h20).g (gM h22))
     obtain⟨h23,h⟩|⟨h23,h⟩:=aE h
     ·obtain⟨VQ,h25,h⟩:=aB h
      have S8:=(((L9.r 3 h23).g (gM h25)).b h23)
      obtain⟨h26,h⟩|⟨h26,h⟩:=aE h
      ·obtain⟨o9,h28,h⟩:=aB h
       have h:=aC h;subst h;exact(((S8.r 3 h26).g (lZ h28)).b h26).ret hΓ
      ·have h:=aC h;subst h;exact(S8.r 4 h26).ret hΓ
     ·have h:=aC h;subst h;exact((L9.r 4 h23).F 4).ret hΓ
    ·have CP:=((uV.b h11).b h20)
     obtain⟨h29,h⟩|⟨h29,h⟩:=aE h
     ·obtain⟨y30,h31,h⟩:=aB h
      have P5:=((CP.b h29).g (gM h31))
      obtain⟨h32,h⟩|⟨h32,h⟩:=aE h
      ·obtain⟨P4,h34,h⟩:=aB h
       have EM:=(((P5.r 3 h32).g (gM h34)).b h32)
       obtain⟨h35,h⟩|⟨h35,h⟩:=aE h
       ·obtain⟨y36,h37,h⟩:=aB h
        have h:=aC h;subst h;exact(((EM.r 3 h35).g (lZ h37)).b h35).ret hΓ
       ·have h:=aC h;subst h;exact(EM.r 4 h35).ret hΓ
      ·have h:=aC h;subst h;exact((P5.r 4 h32).F 4).ret hΓ
     ·have h:=aC h;subst h;exact(CP.b h29).ret hΓ
def cL(aA:List Bytes)(k1:List Bytes→Option (List Bytes)):List Bytes→Nat→List Bytes→Option (List Bytes)
 | [],i1,aP=>(k1 (aP))
 |aS::aX,i1,aP=>((iW (aS)).bind fun CK=>(bif CK then(bif room (((aP).map tx).length+([[D.str (aS)]]).length) 16 then(cL aA k1 aX (i1+1) ((aP)++([aS])))else none)else(cL aA k1 aX (i1+1) (aP))))
def kV(aA:List Bytes):Option (List Bytes):=(cL aA (fun(aT:List Bytes)=>(some (aT))) (aA) 0 (([]:List Bytes)))
def zJ(aA:List Bytes)(W0:List (List D))(bB:Int):St:=⟨[(3,D.acc 0),(6,D.sl ((aA).map tx)),(7,D.int .i64 ((((aA).map tx).length:Int))),(8,D.int .i64 (bB))],[Ob.row .uq 9 1 (W0)]⟩
theorem HJ(hΓ:Γ.nt=20){aA:List Bytes}{r:List Bytes}{k1:List Bytes→Option (List Bytes)}(bE:∀(aT:List Bytes),k1 aT=some r→Ax Γ N Tryz.f216 (.q [[some (9,1)]] (D.fr 9 1 ((r).map tx))) [1,1,1] ⟨[(3,D.acc 0)],[Ob.row .uq 9 1 ((aT).map tx)]⟩)(hm1:(aA).length≤maxLen):∀(rest:List Bytes) (i1:Nat) (aP:List Bytes),(aA).drop i1=rest→cL aA k1 rest i1 aP=some r→Ar Γ N Tryz.f216 (.q [[some (9,1)]] (D.fr 9 1 ((r).map tx))) [1,1,0,1,0] (rest.length+1) (zJ aA ((aP).map tx) ((i1:Int))):=by
 intro rest
 induction rest with
 |nil=>
  intro i1 aP aO h
  rw[cL]at h
  refine aJ fun N1 aY aV=>?_
  exact((aK.ge tx aO).a [.hl 0 [3] [0]]).ex hΓ aY (bE (aP) h)
 |cons aS aX ih1=>
  intro i1 aP aO h
  rw[cL]at h
  refine aJ fun N1 aY aV=>?_
  obtain⟨CK,h33,h⟩:=aB h
  have bO:=(((aK.lt tx aO).l (aQ tx 1 (dc aO) rfl)).g (lY h33))
  obtain⟨h34,h⟩|⟨h34,h⟩:=aE h
  ·obtain⟨h35,h⟩:=aU h
   exact(((bO.b h34).w (aZ h35)).a [.cn [3,6,7,8] [2]]).cs hΓ aV (zJ aA (((aP).map tx)++([[D.str (aS)]])) (IntKind.i64.wrap (((i1:Int))+(1)))) (by first| (simp only[iS aO hm1,mA]<;>rfl)| (simp only[iS aO hm1,mA,aD.c,aH.c,aF.c,Action.c,aI.c,aL.c,bH.c,aN.c,Node.c,aG.c,bI.c]<;>rfl)) (ih1 (i1+1) ((aP)++([aS])) (dn aO) h)
  ·exact((bO.b h34).a [.cn [3,6,7,8] [0]]).ct hΓ aV (iS aO hm1) (ih1 (i1+1) (aP) (dn aO) h)
theorem sV{aA:List Bytes}{r:List Bytes}(h:kV aA=some r):Good Tryz.prog 216 [D.sl ((aA).map tx)] (D.fr 9 1 ((r).map tx)):=by
 refine gd Tryz.func216 [[some (9,1)]] 20 fun hr Γ hΓ=>?_
 rw[kV]at h
 refine(aK.a [.VP 3,.cn [3,6,7,8] [0]]).lp hΓ (HJ hΓ (fun aT h=>?_) (by have:=(bR.sl (hr _ (List.mem_of_getElem? (i:=0) rfl))).1;simpa using this) (aA) 0 (([]:List Bytes)) rfl h)
 have h:=aC h;subst h;exact aK.ret hΓ
def bK(aA:List Bytes)(k1:List Bytes→Option (List Bytes)):List Bytes→Nat→List Bytes→Option (List Bytes)
 | [],i1,aW=>(k1 (aW))
 |aS::aX,i1,aW=>(bif ((i1:Int):Int)==(0)then(bif room (((aW).map tx).length+([[D.str (aS)]]).length) 16 then(bK aA k1 aX (i1+1) ((aW)++([aS])))else none)else((oI (lX ((([]:List Bytes))++(aA))) (IntKind.i64.wrap (((i1:Int))-(1)))).bind fun x47=>(bif !((x47:Bytes)==(aS))then(bif room (((aW).map tx).length+([[D.str (aS)]]).length) 16 then(bK aA k1 aX (i1+1) ((aW)++([aS])))else none)else(bK aA k1 aX (i1+1) (aW)))))
def gN(aA:List Bytes):Option (List Bytes):=(bif room ((([]:List (List D))).length+((aA).map tx).length) 16 then(bif decide (((([]:List Bytes))++(aA)).length<4611686018427387904)then(bif decide ((lX ((([]:List Bytes))++(aA))).length≤maxLen)then(bK aA (fun(aT:List Bytes)=>(some (aT))) (lX ((([]:List Bytes))++(aA))) 0 (([]:List Bytes)))else none)else none)else none)
def sW(aA:List Bytes)(W0:List (List D))(bB:Int):St:=⟨[(3,D.acc 0),(4,D.acc 1),(11,D.acc 0),(12,D.int .i64 ((((lX ((([]:List Bytes))++(aA))).map tx).length:Int))),(13,D.int .i64 (bB))],[Ob.row .uq 9 1 ((lX ((([]:List Bytes))++(aA))).map tx),Ob.row .uq 9 1 (W0)]⟩
theorem DW(hΓ:Γ.nt=35){aA:List Bytes}{r:List Bytes}{k1:List Bytes→Option (List Bytes)}(bE:∀(aT:List Bytes),k1 aT=some r→Ax Γ N Tryz.f218 (.q [[some (9,1)]] (D.fr 9 1 ((r).map tx))) [1,1,1,1,1] ⟨[(4,D.acc 0)],[Ob.row .uq 9 1 ((aT).map tx)]⟩)(hm1:(lX ((([]:List Bytes))++(aA))).length≤maxLen):∀(rest:List Bytes) (i1:Nat) (aW:List Bytes),(lX ((([]:List Bytes))++(aA))).drop i1=rest→bK aA k1 rest i1 aW=some r→Ar Γ N Tryz.f218 (.q [[some (9,1)]] (D.fr 9 1 ((r).map tx))) [1,1,1,1,0,1,0] (rest.length+1) (sW aA ((aW).map tx) ((i1:Int))):=by
 intro rest
 induction rest with
 |nil=>
  intro i1 aW aO h
  rw[bK]at h
  refine aJ fun N1 aY aV=>?_
  exact((aK.ge tx aO).a [.hl 0 [4] [1]]).ex hΓ aY (bE (aW) h)
 |cons aS aX ih1=>
  intro i1 aW aO h
  rw[bK]at h
  refine aJ fun N1 aY aV=>?_
  have mG:=(((aK.lt tx aO).i (nY tx 1 (dc aO))).o 1 1 .uq (cA tx (dc aO)))
  obtain⟨h45,h⟩|⟨h45,h⟩:=aE h
  ·obtain⟨h46,h⟩:=aU h
   exact((((mG.r 8 h45).T 1).w (aZ h46)).a [.cn [3,4,11,12,13] [0,3]]).cs hΓ aV (sW aA (((aW).map tx)++([[D.str (aS)]])) (IntKind.i64.wrap (((i1:Int))+(1)))) (by first| (simp only[iS aO hm1,mA]<;>rfl)| (simp only[iS aO hm1,mA,aD.c,aH.c,aF.c,Action.c,aI.c,aL.c,bH.c,aN.c,Node.c,aG.c,bI.c]<;>rfl)) (ih1 (i1+1) ((aW)++([aS])) (dn aO) h)
  ·obtain⟨x47,h48,h⟩:=aB h
   have l8:=(((((mG.r 4 h45).i (Y7 tx 1 h48)).b h45).o 1 1 .uq (cA tx (TC h48))).r 3 h45)
   obtain⟨h49,h⟩|⟨h49,h⟩:=aE h
   ·obtain⟨h50,h⟩:=aU h
    exact(((l8.b h49).w (aZ h50)).a [.cn [3,4,11,12,13] [0,3]]).cs hΓ aV (sW aA (((aW).map tx)++([[D.str (aS)]])) (IntKind.i64.wrap (((i1:Int))+(1)))) (by first| (simp only[iS aO hm1,mA]<;>rfl)| (simp only[iS aO hm1,mA,aD.c,aH.c,aF.c,Action.c,aI.c,aL.c,bH.c,aN.c,Node.c,aG.c,bI.c]<;>rfl)) (ih1 (i1+1) ((aW)++([aS])) (dn aO) h)
   ·exact((l8.b h49).a [.cn [3,4,11,12,13] [0,1]]).ct hΓ aV (iS aO hm1) (ih1 (i1+1) (aW) (dn aO) h)
theorem qH{aA:List Bytes}{r:List Bytes}(h:gN aA=some r):Good Tryz.prog 218 [D.sl ((aA).map tx)] (D.fr 9 1 ((r).map tx)):=by
 refine gd Tryz.func218 [[some (9,1)]] 35 fun hr Γ hΓ=>?_
 rw[gN]at h
 obtain⟨h1,h⟩:=aU h
 obtain⟨h2,h⟩:=aU h
 obtain⟨h51,h⟩:=aU h
 refine(((((aK.w (aZ h1)).w (show(∀r∈((aA).map tx),r.length=1)∧(true=true→D.pN ((aA).map tx)=true)from⟨by first|simp| (intro r hr;obtain⟨x,_,rfl⟩:=List.mem_map.1 (List.mem_of_mem_take (List.mem_of_mem_drop hr));rfl),by simp[D.pN,D.flat]⟩)).w (show((([]:List (List D)))++((aA).map tx)).flatten.all D.flat=true from by simpa only[List.map_append,List.map_cons,List.map_nil]using a0W ((([]:List Bytes))++(aA)))).w (show a09 Tryz.prog 266 9 1 ((([]:List (List D)))++((aA).map tx)) ((lX ((([]:List Bytes))++(aA))).map tx)from by simpa only[List.map_append,List.map_cons,List.map_nil]using(JK (e:=9) (of_decide_eq_true h2)))).a [.fl true,.mu 0 ((lX ((([]:List Bytes))++(aA))).map tx),.VP 4,.cn [3,4,11,12,13] [0,1]]).lp hΓ (DW hΓ (fun aT h=>?_) (of_decide_eq_true h51) (lX ((([]:List Bytes))++(aA))) 0 (([]:List Bytes)) rfl h)
 have h:=aC h;subst h;exact aK.ret hΓ
def bW(aA:aI)(aM:Int)(k1:List Bytes→Option (List Bytes)):List aF→Nat→List Bytes→Option (List Bytes)
 | [],i1,aP=>(k1 (aP))
 |aS::aX,i1,aP=>(bif decide (((i1:Int):Int)<(aM))then(bif (aS.kind:Int)==(1)then((kV (aS.pat.args)).bind fun ZC=>(bif room (((aP).map tx).length+((ZC).map tx).length) 16 then(bW aA aM k1 aX (i1+1) ((aP)++(ZC)))else none))else(bW aA aM k1 aX (i1+1) (aP)))else(bW aA aM k1 aX (i1+1) (aP)))
def nI(aA:aI)(aM:Int):Option (List Bytes):=(bW aA aM (fun(aT:List Bytes)=>((gN (aT)).bind fun y42=>(some (y42)))) (aA.conds) 0 (([]:List Bytes)))
def zK(aA:aI)(aM:Int)(W0:List (List D))(bB:Int):St:=⟨[(1,D.int .i64 (aM)),(5,D.acc 0),(9,D.sl ((aA.conds).map aF.c)),(10,D.int .i64 ((((aA.conds).map aF.c).length:Int))),(11,D.int .i64 (bB))],[Ob.row .uq 9 1 (W0)]⟩
theorem HK(hΓ:Γ.nt=33){aA:aI}{aM:Int}{r:List Bytes}{k1:List Bytes→Option (List Bytes)}(bE:∀(aT:List Bytes),k1 aT=some r→Ax Γ N Tryz.f214 (.q [[some (9,1)]] (D.fr 9 1 ((r).map tx))) [1,1,1] ⟨[(5,D.acc 0)],[Ob.row .uq 9 1 ((aT).map tx)]⟩)(hm1:(aA.conds).length≤maxLen):∀(rest:List aF) (i1:Nat) (aP:List Bytes),(aA.conds).drop i1=rest→bW aA aM k1 rest i1 aP=some r→Ar Γ N Tryz.f214 (.q [[some (9,1)]] (D.fr 9 1 ((r).map tx))) [1,1,0,1,0] (rest.length+1) (zK aA aM ((aP).map tx) ((i1:Int))):=by
 intro rest
 induction rest with
 |nil=>
  intro i1 aP aO h
  rw[bW]at h
  refine aJ fun N1 aY aV=>?_
  exact((aK.ge aF.c aO).a [.hl 0 [5] [0]]).ex hΓ aY (bE (aP) h)
 |cons aS aX ih1=>
  intro i1 aP aO h
  rw[bW]at h
  refine aJ fun N1 aY aV=>?_
  have mG:=((aK.lt aF.c aO).l (aQ aF.c 5 (dc aO) rfl))
  obtain⟨h37,h⟩|⟨h37,h⟩:=aE h
  ·have l8:=(mG.r 4 h37)
   obtain⟨h38,h⟩|⟨h38,h⟩:=aE h
   ·obtain⟨ZC,h40,h⟩:=aB h
    obtain⟨h41,h⟩:=aU h
    exact((((l8.b h38).g (sV h40)).w (aZ h41)).a [.cn [1,5,9,10,11] [3]]).cs hΓ aV (zK aA aM (((aP).map tx)++((ZC).map tx)) (IntKind.i64.wrap (((i1:Int))+(1)))) (by first| (simp only[iS aO hm1,mA]<;>rfl)| (simp only[iS aO hm1,mA,aD.c,aH.c,aF.c,Action.c,aI.c,aL.c,bH.c,aN.c,Node.c,aG.c,bI.c]<;>rfl)) (ih1 (i1+1) ((aP)++(ZC)) (dn aO) h)
   ·exact((l8.b h38).a [.cn [1,5,9,10,11] [0]]).ct hΓ aV (iS aO hm1) (ih1 (i1+1) (aP) (dn aO) h)
  ·exact(((mG.r 4 h37).F 1).a [.cn [1,5,9,10,11] [0]]).ct hΓ aV (iS aO hm1) (ih1 (i1+1) (aP) (dn aO) h)
theorem wY{aA:aI}{aM:Int}{r:List Bytes}(h:nI aA aM=some r):Good Tryz.prog 214 [D.agg (aI.c aA),D.int .i64 (aM)] (D.fr 9 1 ((r).map tx)):=by
 refine gd Tryz.func214 [[some (9,1)]] 33 fun hr Γ hΓ=>?_
 rw[nI]at h
 refine(aK.a [.VP 5,.cn [1,5,9,10,11] [1]]).lp hΓ (HK hΓ (fun aT h=>?_) (by have:=(bR.sl (bR.agg (hr _ (List.mem_of_getElem? (i:=0) rfl)) (.sl ((aA.conds).map aF.c)) (by simp))).1;simpa using this) (aA.conds) 0 (([]:List Bytes)) rfl h)
 obtain⟨y42,h43,h⟩:=aB h
 have h:=aC h;subst h;exact(aK.g (qH h43)).ret hΓ
def qI(aA:aF):Option (List Bytes):=((kR (aA.pat.args)).bind fun y1=>(bif room (((y1).map tx).length+((([aA.left,aA.right]:List Bytes)).map tx).length) 16 then(some ((y1)++(([aA.left,aA.right]:List Bytes))))else none))
theorem zL{aA:aF}{r:List Bytes}(h:qI aA=some r):Good Tryz.prog 189 [D.agg (aF.c aA)] (D.fr 9 1 ((r).map tx)):=by
 refine gd Tryz.func189 [[some (9,1)]] 13 fun hr Γ hΓ=>?_
 rw[qI]at h
 obtain⟨y1,h2,h⟩:=aB h
 obtain⟨h3,h⟩:=aU h
 cases h;exact(((aK.a [.VP 2,.n 9]).g (sU h2)).w (aZ h3)).rts hΓ (D.fr 9 1 (((y1).map tx)++((([aA.left,aA.right]:List Bytes)).map tx))) (by first|rfl| (simp only[mA]<;>rfl)| (simp only[b8,mA]<;>rfl))
def mM(aA:aF):Option (List Bytes):=((qI (aA)).bind fun y1=>((kV (y1)).bind fun y3=>((gN (y3)).bind fun y5=>(some (y5)))))
theorem tW{aA:aF}{r:List Bytes}(h:mM aA=some r):Good Tryz.prog 264 [D.agg (aF.c aA)] (D.fr 9 1 ((r).map tx)):=by
 refine gd Tryz.func264 [[some (9,1)]] 7 fun hr Γ hΓ=>?_
 rw[mM]at h
 obtain⟨y1,h2,h⟩:=aB h
 obtain⟨y3,h4,h⟩:=aB h
 obtain⟨y5,h6,h⟩:=aB h
 have h:=aC h;subst h;exact(((aK.g (zL h2)).g (sV h4)).g (qH h6)).ret hΓ
def iX(aA:List Bytes)(aM:Bytes)(k1:Option Bool):List Bytes→Nat→Option Bool
 | [],i1=>(k1)
 |aS::aX,i1=>(bif (aS:Bytes)==(aM)then(some (true))else(iX aA aM k1 aX (i1+1)))
def iY(aA:List Bytes)(aM:Bytes):Option Bool:=(iX aA aM (some (false)) (aA) 0)
def PX(aA:List Bytes)(aM:Bytes)(bB:Int):St:=⟨[(1,D.str (aM)),(7,D.sl ((aA).map tx)),(8,D.int .i64 ((((aA).map tx).length:Int))),(9,D.int .i64 (bB))],[]⟩
theorem NG(hΓ:Γ.nt=17){aA:List Bytes}{aM:Bytes}{r:Bool}{k1:Option Bool}(bE:k1=some r→Ax Γ N Tryz.f217 (.q [[none]] (D.bool (r))) [1,1] ⟨[],[]⟩)(hm1:(aA).length≤maxLen):∀(rest:List Bytes) (i1:Nat),(aA).drop i1=rest→iX aA aM k1 rest i1=some r→Ar Γ N Tryz.f217 (.q [[none]] (D.bool (r))) [1,0,1,0] (rest.length+1) (PX aA aM ((i1:Int))):=by
 intro rest
 induction rest with
 |nil=>
  intro i1 aO h
  rw[iX]at h
  refine aJ fun N1 aY aV=>?_
  exact((aK.ge tx aO).a [.hl 0 [] []]).ex hΓ aY (bE h)
 |cons aS aX ih1=>
  intro i1 aO h
  rw[iX]at h
  refine aJ fun N1 aY aV=>?_
  have bO:=((aK.lt tx aO).l (aQ tx 1 (dc aO) rfl))
  obtain⟨h13,h⟩|⟨h13,h⟩:=aE h
  ·have h:=aC h;subst h;exact(bO.b h13).ret hΓ
  ·exact((bO.b h13).a [.cn [1,7,8,9] []]).ct hΓ aV (iS aO hm1) (ih1 (i1+1) (dn aO) h)
theorem pK{aA:List Bytes}{aM:Bytes}{r:Bool}(h:iY aA aM=some r):Good Tryz.prog 217 [D.sl ((aA).map tx),D.str (aM)] (D.bool (r)):=by
 refine gd Tryz.func217 [[none]] 17 fun hr Γ hΓ=>?_
 rw[iY]at h
 refine(aK.a [.cn [1,7,8,9] []]).lp hΓ (NG hΓ (fun h=>?_) (by have:=(bR.sl (hr _ (List.mem_of_getElem? (i:=0) rfl))).1;simpa using this) (aA) 0 rfl h)
 have h:=aC h;subst h;exact aK.ret hΓ
def bL(aA:aI)(aM:Int)(bA:Bytes)(k1:Option Bool):List aF→Nat→Option Bool
 | [],i1=>(k1)
 |aS::aX,i1=>(bif ((i1:Int):Int) != (aM)then((mM (aS)).bind fun FH=>((iY (FH) (bA)).bind fun y36=>(bif y36 then(some (true))else(bL aA aM bA k1 aX (i1+1)))))else(bL aA aM bA k1 aX (i1+1)))
def bX(aA:aI)(bA:Bytes)(k2:Option Bool):List Action→Nat→Option Bool
 | [],i2=>(k2)
 |o8::wO,i2=>((iY (o8.pat.args) (bA)).bind fun y59=>(bif y59 then(some (true))else(bX aA bA k2 wO (i2+1))))
def iZ(aA:aI)(aM:Int)(bA:Bytes):Option Bool:=(bL aA aM bA (bX aA bA (some (false)) (aA.bC) 0) (aA.conds) 0)
def BD(aA:aI)(aM:Int)(bA:Bytes)(bB:Int):St:=⟨[(1,D.int .i64 (aM)),(2,D.str (bA)),(3,D.ptr 0 0),(12,D.sl ((aA.conds).map aF.c)),(13,D.int .i64 ((((aA.conds).map aF.c).length:Int))),(14,D.int .i64 (bB))],[Ob.box (aI.c aA)]⟩
theorem AT(hΓ:Γ.nt=42){aA:aI}{aM:Int}{bA:Bytes}{r:Bool}{k1:Option Bool}(bE:k1=some r→Ax Γ N Tryz.f265 (.q [[none]] (D.bool (r))) [1,1] ⟨[(2,D.str (bA)),(3,D.ptr 0 0)],[Ob.box (aI.c aA)]⟩)(hm1:(aA.conds).length≤maxLen):∀(rest:List aF) (i1:Nat),(aA.conds).drop i1=rest→bL aA aM bA k1 rest i1=some r→Ar Γ N Tryz.f265 (.q [[none]] (D.bool (r))) [1,0,1,0] (rest.length+1) (BD aA aM bA ((i1:Int))):=by
 intro rest
 induction rest with
 |nil=>
  intro i1 aO h
  rw[bL]at h
  refine aJ fun N1 aY aV=>?_
  exact((aK.ge aF.c aO).a [.hl 0 [2,3] [0]]).ex hΓ aY (bE h)
 |cons aS aX ih1=>
  intro i1 aO h
  rw[bL]at h
  refine aJ fun N1 aY aV=>?_
  have l8:=((aK.lt aF.c aO).l (aQ aF.c 5 (dc aO) rfl))
  obtain⟨h33,h⟩|⟨h33,h⟩:=aE h
  ·obtain⟨FH,h35,h⟩:=aB h
   obtain⟨y36,h37,h⟩:=aB h
   have uV:=(((((l8.r 2 h33).g (tW h35)).r 2 h33).g (pK h37)).b h33)
   obtain⟨h38,h⟩|⟨h38,h⟩:=aE h
   ·have h:=aC h;subst h;exact(uV.b h38).ret hΓ
   ·exact((uV.b h38).a [.cn [1,2,3,12,13,14] [0]]).ct hΓ aV (iS aO hm1) (ih1 (i1+1) (dn aO) h)
  ·exact(((l8.r 5 h33).F 1).a [.cn [1,2,3,12,13,14] [0]]).ct hΓ aV (iS aO hm1) (ih1 (i1+1) (dn aO) h)
def BE(aA:aI)(bA:Bytes)(bB:Int):St:=⟨[(2,D.str (bA)),(30,D.sl ((aA.bC).map Action.c)),(31,D.int .i64 ((((aA.bC).map Action.c).length:Int))),(32,D.int .i64 (bB))],[]⟩
theorem AU(hΓ:Γ.nt=42){aA:aI}{bA:Bytes}{r:Bool}{k2:Option Bool}(IK:k2=some r→Ax Γ N Tryz.f265 (.q [[none]] (D.bool (r))) [1,1,1] ⟨[],[]⟩)(hm2:(aA.bC).length≤maxLen):∀(rest:List Action) (i2:Nat),(aA.bC).drop i2=rest→bX aA bA k2 rest i2=some r→Ar Γ N Tryz.f265 (.q [[none]] (D.bool (r))) [1,1,0,1,0] (rest.length+1) (BE aA bA ((i2:Int))):=by
 intro rest
 induction rest with
 |nil=>
  intro i2 hd2 h
  rw[bX]at h
  refine aJ fun N2 yR wG=>?_
  exact((aK.ge Action.c hd2).a [.hl 0 [] []]).ex hΓ yR (IK h)
 |cons o8 wO ih2=>
  intro i2 hd2 h
  rw[bX]at h
  refine aJ fun N2 yR wG=>?_
  obtain⟨y59,h60,h⟩:=aB h
  have xU:=(((aK.lt Action.c hd2).l (aQ Action.c 3 (dc hd2) rfl)).g (pK h60))
  obtain⟨h61,h⟩|⟨h61,h⟩:=aE h
  ·have h:=aC h;subst h;exact(xU.b h61).ret hΓ
  ·exact((xU.b h61).a [.cn [2,30,31,32] []]).ct hΓ wG (iS hd2 hm2) (ih2 (i2+1) (dn hd2) h)
theorem zV{aA:aI}{aM:Int}{bA:Bytes}{r:Bool}(h:iZ aA aM bA=some r):Good Tryz.prog 265 [D.agg (aI.c aA),D.int .i64 (aM),D.str (bA)] (D.bool (r)):=by
 refine gd Tryz.func265 [[none]] 42 fun hr Γ hΓ=>?_
 rw[iZ]at h
 refine(aK.a [.cn [1,2,3,12,13,14] [0]]).lp hΓ (AT hΓ (fun h=>?_) (by have:=(bR.sl (bR.agg (hr _ (List.mem_of_getElem? (i:=0) rfl)) (.sl ((aA.conds).map aF.c)) (by simp))).1;simpa using this) (aA.conds) 0 rfl h)
 refine(aK.a [.cn [2,30,31,32] []]).lp hΓ (AU hΓ (fun h=>?_) (by have:=(bR.sl (bR.agg (hr _ (List.mem_of_getElem? (i:=0) rfl)) (.sl ((aA.bC).map Action.c)) (by simp))).1;simpa using this) (aA.bC) 0 rfl h)
 have h:=aC h;subst h;exact aK.ret hΓ
def dH(aA:aI)(aM:Int)(x1:aF)(y3:List Bytes)(y5:List Bytes)(k1:Option Bool):List Bytes→Nat→Option Bool
 | [],i1=>(k1)
 |aS::aX,i1=>(bif (x1.kind:Int)==(1)then(dH aA aM x1 y3 y5 k1 aX (i1+1))else((iY (y3) (aS)).bind fun RC=>(bif RC then(dH aA aM x1 y3 y5 k1 aX (i1+1))else(bif (x1.kind:Int) != (2)then(some (false))else((iZ (aA) (aM) (aS)).bind fun y53=>(bif y53 then(some (false))else(dH aA aM x1 y3 y5 k1 aX (i1+1))))))))
def oB(aA:aI)(aM:Int):Option Bool:=((oI (aA.conds) (aM)).bind fun x1=>((nI (aA) (aM)).bind fun y3=>((mM (x1)).bind fun y5=>(bif decide ((y5).length≤maxLen)then(dH aA aM x1 y3 y5 (some (true)) (y5) 0)else none))))
def NH(aA:aI)(aM:Int)(x1:aF)(y3:List Bytes)(y5:List Bytes)(bB:Int):St:=⟨[(1,D.int .i64 (aM)),(2,D.ptr 0 0),(5,D.ptr 1 0),(6,D.acc 2),(18,D.acc 3),(19,D.int .i64 ((((y5).map tx).length:Int))),(20,D.int .i64 (bB))],[Ob.box (aI.c aA),Ob.box [D.int .i64 (x1.kind),D.str (x1.pat.rel),D.sl ((x1.pat.args).map tx),D.str (x1.left),D.str (x1.right)],Ob.row .uq 9 1 ((y3).map tx),Ob.row .uq 9 1 ((y5).map tx)]⟩
theorem KD(hΓ:Γ.nt=42){aA:aI}{aM:Int}{x1:aF}{y3:List Bytes}{y5:List Bytes}{r:Bool}{k1:Option Bool}(bE:k1=some r→Ax Γ N Tryz.f213 (.q [[none]] (D.bool (r))) [1,1,1,1] ⟨[],[]⟩)(hm1:(y5).length≤maxLen):∀(rest:List Bytes) (i1:Nat),(y5).drop i1=rest→dH aA aM x1 y3 y5 k1 rest i1=some r→Ar Γ N Tryz.f213 (.q [[none]] (D.bool (r))) [1,1,1,0,1,0] (rest.length+1) (NH aA aM x1 y3 y5 ((i1:Int))):=by
 intro rest
 induction rest with
 |nil=>
  intro i1 aO h
  rw[dH]at h
  refine aJ fun N1 aY aV=>?_
  exact((aK.ge tx aO).a [.hl 0 [] []]).ex hΓ aY (bE h)
 |cons aS aX ih1=>
  intro i1 aO h
  rw[dH]at h
  refine aJ fun N1 aY aV=>?_
  have l8:=(((aK.lt tx aO).i (nY tx 1 (dc aO))).o 1 1 .uq (cA tx (dc aO)))
  obtain⟨h48,h⟩|⟨h48,h⟩:=aE h
  ·exact(((l8.r 4 h48).T 1).a [.cn [1,2,5,6,18,19,20] [0,1,2,3]]).ct hΓ aV (iS aO hm1) (ih1 (i1+1) (dn aO) h)
  ·obtain⟨RC,h50,h⟩:=aB h
   have uV:=(((l8.r 3 h48).g (pK h50)).b h48)
   obtain⟨h51,h⟩|⟨h51,h⟩:=aE h
   ·exact((uV.b h51).a [.cn [1,2,5,6,18,19,20] [0,1,2,3]]).ct hΓ aV (iS aO hm1) (ih1 (i1+1) (dn aO) h)
   ·obtain⟨h52,h⟩|⟨h52,h⟩:=aE h
    ·have h:=aC h;subst h;exact(((uV.b h51).r 5 h52).T 1).ret hΓ
    ·obtain⟨y53,h54,h⟩:=aB h
     have xU:=((((uV.b h51).r 4 h52).g (zV h54)).b h52)
     obtain⟨h55,h⟩|⟨h55,h⟩:=aE h
     ·have h:=aC h;subst h;exact(xU.b h55).ret hΓ
     ·exact((xU.b h55).a [.cn [1,2,5,6,18,19,20] [0,1,2,3]]).ct hΓ aV (iS aO hm1) (ih1 (i1+1) (dn aO) h)
theorem xZ{aA:aI}{aM:Int}{r:Bool}(h:oB aA aM=some r):Good Tryz.prog 213 [D.agg (aI.c aA),D.int .i64 (aM)] (D.bool (r)):=by
 refine gd Tryz.func213 [[none]] 42 fun hr Γ hΓ=>?_
 rw[oB]at h
 obtain⟨x1,h2,h⟩:=aB h
 obtain⟨y3,h4,h⟩:=aB h
 obtain⟨y5,h6,h⟩:=aB h
 obtain⟨h56,h⟩:=aU h
 refine((((aK.l (bP aF.c 5 h2 rfl)).g (wY h4)).g (tW h6)).a [.cn [1,2,5,6,18,19,20] [0,1,2,3]]).lp hΓ (KD hΓ (fun h=>?_) (of_decide_eq_true h56) (y5) 0 rfl h)
 have h:=aC h;subst h;exact aK.ret hΓ
def rU(aA:Action):Option Bool:=(bif (aA.kind:Int)==(1)then((eZ (aA.pat)).bind fun y2=>(some (y2)))else(bif (aA.kind:Int)==(2)then((eZ (aA.pat)).bind fun y5=>(some (y5)))else(bif (aA.kind:Int)==(3)then((eG (aA.pat)).bind fun y8=>(some (y8)))else(some (false)))))
theorem HL{aA:Action}{r:Bool}(h:rU aA=some r):Good Tryz.prog 215 [D.agg (Action.c aA)] (D.bool (r)):=by
 refine gd Tryz.func215 [[none]] 16 fun hr Γ hΓ=>?_
 rw[rU]at h
 obtain⟨h1,h⟩|⟨h1,h⟩:=aE h
 ·obtain⟨y2,h3,h⟩:=aB h
  have h:=aC h;subst h;exact((aK.r 2 h1).g (fZ h3)).ret hΓ
 ·obtain⟨h4,h⟩|⟨h4,h⟩:=aE h
  ·obtain⟨y5,h6,h⟩:=aB h
   have h:=aC h;subst h;exact(((aK.b h1).b h4).g (fZ h6)).ret hΓ
  ·have jO:=((aK.b h1).b h4)
   obtain⟨h7,h⟩|⟨h7,h⟩:=aE h
   ·obtain⟨y8,h9,h⟩:=aB h
    have h:=aC h;subst h;exact((jO.b h7).g (lZ h9)).ret hΓ
   ·have h:=aC h;subst h;exact(jO.b h7).ret hΓ
def cX(aA:List aF)(k1:List Bytes→Option (List Bytes)):List aF→Nat→List Bytes→Option (List Bytes)
 | [],i1,aP=>(k1 (aP))
 |aS::aX,i1,aP=>((mM (aS)).bind fun o9=>(bif room (((aP).map tx).length+((o9).map tx).length) 16 then(cX aA k1 aX (i1+1) ((aP)++(o9)))else none))
def oO(aA:List aF):Option (List Bytes):=(cX aA (fun(aT:List Bytes)=>(some (aT))) (aA) 0 (([]:List Bytes)))
def yA(aA:List aF)(W0:List (List D))(bB:Int):St:=⟨[(3,D.acc 0),(6,D.sl ((aA).map aF.c)),(7,D.int .i64 ((((aA).map aF.c).length:Int))),(8,D.int .i64 (bB))],[Ob.row .uq 9 1 (W0)]⟩
theorem F2(hΓ:Γ.nt=18){aA:List aF}{r:List Bytes}{k1:List Bytes→Option (List Bytes)}(bE:∀(aT:List Bytes),k1 aT=some r→Ax Γ N Tryz.f219 (.q [[some (9,1)]] (D.fr 9 1 ((r).map tx))) [1,1,1] ⟨[(3,D.acc 0)],[Ob.row .uq 9 1 ((aT).map tx)]⟩)(hm1:(aA).length≤maxLen):∀(rest:List aF) (i1:Nat) (aP:List Bytes),(aA).drop i1=rest→cX aA k1 rest i1 aP=some r→Ar Γ N Tryz.f219 (.q [[some (9,1)]] (D.fr 9 1 ((r).map tx))) [1,1,0,1,0] (rest.length+1) (yA aA ((aP).map tx) ((i1:Int))):=by
 intro rest
 induction rest with
 |nil=>
  intro i1 aP aO h
  rw[cX]at h
  refine aJ fun N1 aY aV=>?_
  exact((aK.ge aF.c aO).a [.hl 0 [3] [0]]).ex hΓ aY (bE (aP) h)
 |cons aS aX ih1=>
  intro i1 aP aO h
  rw[cX]at h
  refine aJ fun N1 aY aV=>?_
  obtain⟨o9,h28,h⟩:=aB h
  obtain⟨h29,h⟩:=aU h
  exact(((((aK.lt aF.c aO).l (aQ aF.c 5 (dc aO) rfl)).g (tW h28)).w (aZ h29)).a [.cn [3,6,7,8] [3]]).cs hΓ aV (yA aA (((aP).map tx)++((o9).map tx)) (IntKind.i64.wrap (((i1:Int))+(1)))) (by first| (simp only[iS aO hm1,mA]<;>rfl)| (simp only[iS aO hm1,mA,aD.c,aH.c,aF.c,Action.c,aI.c,aL.c,bH.c,aN.c,Node.c,aG.c,bI.c]<;>rfl)) (ih1 (i1+1) ((aP)++(o9)) (dn aO) h)
theorem DX{aA:List aF}{r:List Bytes}(h:oO aA=some r):Good Tryz.prog 219 [D.sl ((aA).map aF.c)] (D.fr 9 1 ((r).map tx)):=by
 refine gd Tryz.func219 [[some (9,1)]] 18 fun hr Γ hΓ=>?_
 rw[oO]at h
 refine(aK.a [.VP 3,.cn [3,6,7,8] [0]]).lp hΓ (F2 hΓ (fun aT h=>?_) (by have:=(bR.sl (hr _ (List.mem_of_getElem? (i:=0) rfl))).1;simpa using this) (aA) 0 (([]:List Bytes)) rfl h)
 have h:=aC h;subst h;exact aK.ret hΓ
def fA(aA:aI)(k1:Option Bool):List aF→Nat→Option Bool
 | [],i1=>(k1)
 |aS::aX,i1=>((p9 (aS)).bind fun y62=>(bif !(y62)then(some (false))else(bif ((i1:Int):Int)==(0)then(bif (aS.kind:Int) != (1)then(some (false))else((oB (aA) ((i1:Int))).bind fun y67=>(bif !(y67)then(some (false))else(fA aA k1 aX (i1+1)))))else((oB (aA) ((i1:Int))).bind fun y70=>(bif !(y70)then(some (false))else(fA aA k1 aX (i1+1)))))))
def kW(aA:aI)(VF:List Bytes)(i2:Nat)(BS:List Bytes)(k3:Option Bool):List Bytes→Nat→Option Bool
 | [],i3=>(k3)
 |x3_::YH,i3=>((iY (VF) (x3_)).bind fun aEJ=>(bif !(aEJ)then(some (false))else(kW aA VF i2 BS k3 YH (i3+1))))
def kX(aA:aI)(VF:List Bytes)(k2:Option Bool):List Action→Nat→Option Bool
 | [],i2=>(k2)
 |o8::wO,i2=>((rU (o8)).bind fun aEK=>(bif !(aEK)then(some (false))else((kV (o8.pat.args)).bind fun BS=>(bif decide ((BS).length≤maxLen)then(kW aA VF i2 BS (kX aA VF k2 wO (i2+1)) (BS) 0)else none))))
def v8(aA:aI):Option Bool:=((p8 (aA.name)).bind fun y1=>(bif !(y1)then(some (false))else(bif decide ((aA.prio:Int)<(0))then(some (false))else(bif decide ((aA.prio:Int)>(9))then(some (false))else(bif decide (((((aA.conds).map aF.c).length:Int):Int)<(1))then(some (false))else(bif decide (((((aA.conds).map aF.c).length:Int):Int)>(4))then(some (false))else(bif decide (((((aA.bC).map Action.c).length:Int):Int)<(1))then(some (false))else(bif decide (((((aA.bC).map Action.c).length:Int):Int)>(2))then(some (false))else(fA aA ((nI (aA) ((((aA.conds).map aF.c).length:Int))).bind fun VF=>(kX aA VF ((oO (aA.conds)).bind fun aEL=>((gN (aEL)).bind fun aEM=>(some (decide (((((aEM).map tx).length:Int):Int)≤(6)))))) (aA.bC) 0)) (aA.conds) 0)))))))))
def RF(aA:aI)(bB:Int):St:=⟨[(1,D.ptr 0 0),(49,D.sl ((aA.conds).map aF.c)),(50,D.int .i64 ((((aA.conds).map aF.c).length:Int))),(51,D.int .i64 (bB))],[Ob.box (aI.c aA)]⟩
theorem PY(hΓ:Γ.nt=111){aA:aI}{r:Bool}{k1:Option Bool}(bE:k1=some r→Ax Γ N Tryz.f142 (.q [[none]] (D.bool (r))) [1,1,1] ⟨[(1,D.ptr 0 0)],[Ob.box (aI.c aA)]⟩)(hm1:(aA.conds).length≤maxLen):∀(rest:List aF) (i1:Nat),(aA.conds).drop i1=rest→fA aA k1 rest i1=some r→Ar Γ N Tryz.f142 (.q [[none]] (D.bool (r))) [1,1,0,1,0] (rest.length+1) (RF aA ((i1:Int))):=by
 intro rest
 induction rest with
 |nil=>
  intro i1 aO h
  rw[fA]at h
  refine aJ fun N1 aY aV=>?_
  exact((aK.ge aF.c aO).a [.hl 0 [1] [0]]).ex hΓ aY (bE h)
 |cons aS aX ih1=>
  intro i1 aO h
  rw[fA]at h
  refine aJ fun N1 aY aV=>?_
  obtain⟨y62,h63,h⟩:=aB h
  have EM:=(((aK.lt aF.c aO).l (aQ aF.c 5 (dc aO) rfl)).g (nV h63))
  obtain⟨h64,h⟩|⟨h64,h⟩:=aE h
  ·have h:=aC h;subst h;exact((((EM.r 3 h64).a [bF,bF,bF]).r 2 h64).T 6).ret hΓ
  ·have P6:=(EM.r 3 h64)
   obtain⟨h65,h⟩|⟨h65,h⟩:=aE h
   ·have UJ:=((((P6.r 3 h65).b h64).b h65).b h64)
    obtain⟨h66,h⟩|⟨h66,h⟩:=aE h
    ·have h:=aC h;subst h;exact((UJ.r 5 h66).T 1).ret hΓ
    ·obtain⟨y67,h68,h⟩:=aB h
     have a74:=(((UJ.r 3 h66).g (xZ h68)).r 2 h66)
     obtain⟨h69,h⟩|⟨h69,h⟩:=aE h
     ·have h:=aC h;subst h;exact(a74.b h69).ret hΓ
     ·exact((a74.b h69).a [.cn [1,49,50,51] [0]]).ct hΓ aV (iS aO hm1) (ih1 (i1+1) (dn aO) h)
   ·obtain⟨y70,h71,h⟩:=aB h
    have a77:=(((((((P6.r 3 h65).b h64).b h65).b h64).F 3).g (xZ h71)).F 2)
    obtain⟨h72,h⟩|⟨h72,h⟩:=aE h
    ·have h:=aC h;subst h;exact(a77.b h72).ret hΓ
    ·exact((a77.b h72).a [.cn [1,49,50,51] [0]]).ct hΓ aV (iS aO hm1) (ih1 (i1+1) (dn aO) h)
def RG(aA:aI)(VF:List Bytes)(bB:Int):St:=⟨[(1,D.ptr 0 0),(5,D.acc 1),(81,D.sl ((aA.bC).map Action.c)),(82,D.int .i64 ((((aA.bC).map Action.c).length:Int))),(83,D.int .i64 (bB))],[Ob.box (aI.c aA),Ob.row .uq 9 1 ((VF).map tx)]⟩
def RH(aA:aI)(VF:List Bytes)(i2:Nat)(BS:List Bytes)(bB:Int):St:=⟨[(1,D.ptr 0 0),(5,D.acc 1),(81,D.sl ((aA.bC).map Action.c)),(82,D.int .i64 ((((aA.bC).map Action.c).length:Int))),(83,D.int .i64 ((i2:Int))),(93,D.acc 2),(94,D.int .i64 ((((BS).map tx).length:Int))),(95,D.int .i64 (bB))],[Ob.box (aI.c aA),Ob.row .uq 9 1 ((VF).map tx),Ob.row .uq 9 1 ((BS).map tx)]⟩
theorem PZ(hΓ:Γ.nt=111){aA:aI}{VF:List Bytes}{i2:Nat}{BS:List Bytes}{r:Bool}{k3:Option Bool}(hE3:k3=some r→Ax Γ N Tryz.f142 (.q [[none]] (D.bool (r))) [1,1,1,1,0,1,0,0,1,1,1] ⟨[(1,D.ptr 0 0),(5,D.acc 1),(81,D.sl ((aA.bC).map Action.c)),(82,D.int .i64 ((((aA.bC).map Action.c).length:Int))),(83,D.int .i64 ((i2:Int)))],[Ob.box (aI.c aA),Ob.row .uq 9 1 ((VF).map tx)]⟩)(hm3:(BS).length≤maxLen):∀(rest:List Bytes) (i3:Nat),(BS).drop i3=rest→kW aA VF i2 BS k3 rest i3=some r→Ar Γ N Tryz.f142 (.q [[none]] (D.bool (r))) [1,1,1,1,0,1,0,0,1,1,0,0,1,1,1,0] (rest.length+1) (RH aA VF i2 BS ((i3:Int))):=by
 intro rest
 induction rest with
 |nil=>
  intro i3 zU h
  rw[kW]at h
  refine aJ fun N3 hN3 YI=>?_
  exact((aK.ge tx zU).a [.hl 3 [1,5,81,82,83] [0,1]]).ex hΓ hN3 (hE3 h)
 |cons x3_ YH ih3=>
  intro i3 zU h
  rw[kW]at h
  refine aJ fun N3 hN3 YI=>?_
  obtain⟨aEJ,h230,h⟩:=aB h
  have aEN:=((((aK.lt tx zU).i (nY tx 1 (dc zU))).o 1 1 .uq (cA tx (dc zU))).g (pK h230))
  obtain⟨h231,h⟩|⟨h231,h⟩:=aE h
  ·have h:=aC h;subst h;exact(aEN.b h231).ret hΓ
  ·exact((aEN.b h231).a [.cn [1,5,81,82,83,93,94,95] [0,1,2]]).ct hΓ YI (iS zU hm3) (ih3 (i3+1) (dn zU) h)
theorem Q0(hΓ:Γ.nt=111){aA:aI}{VF:List Bytes}{r:Bool}{k2:Option Bool}(IK:k2=some r→Ax Γ N Tryz.f142 (.q [[none]] (D.bool (r))) [1,1,1,1,1] ⟨[(1,D.ptr 0 0)],[Ob.box (aI.c aA)]⟩)(hm2:(aA.bC).length≤maxLen):∀(rest:List Action) (i2:Nat),(aA.bC).drop i2=rest→kX aA VF k2 rest i2=some r→Ar Γ N Tryz.f142 (.q [[none]] (D.bool (r))) [1,1,1,1,0,1,0] (rest.length+1) (RG aA VF ((i2:Int))):=by
 intro rest
 induction rest with
 |nil=>
  intro i2 hd2 h
  rw[kX]at h
  refine aJ fun N2 yR wG=>?_
  exact((aK.ge Action.c hd2).a [.hl 0 [1] [0]]).ex hΓ yR (IK h)
 |cons o8 wO ih2=>
  intro i2 hd2 h
  rw[kX]at h
  refine aJ fun N2 yR wG=>?_
  obtain⟨aEK,h204,h⟩:=aB h
  have aEO:=(((aK.lt Action.c hd2).l (aQ Action.c 3 (dc hd2) rfl)).g (HL h204))
  obtain⟨h205,h⟩|⟨h205,h⟩:=aE h
  ·have h:=aC h;subst h;exact(aEO.b h205).ret hΓ
  ·obtain⟨BS,h207,h⟩:=aB h
   obtain⟨h232,h⟩:=aU h
   refine(((aEO.b h205).g (sV h207)).a [.cn [1,5,81,82,83,93,94,95] [0,1,3]]).lp hΓ (PZ hΓ (fun h=>?_) (of_decide_eq_true h232) (BS) 0 rfl h)
   exact(aK.a [.cn [1,5,81,82,83] [0,1]]).ct hΓ wG (iS hd2 hm2) (ih2 (i2+1) (dn hd2) h)
theorem NI{aA:aI}{r:Bool}(h:v8 aA=some r):Good Tryz.prog 142 [D.agg (aI.c aA)] (D.bool (r)):=by
 refine gd Tryz.func142 [[none]] 111 fun hr Γ hΓ=>?_
 rw[v8]at h
 obtain⟨y1,h2,h⟩:=aB h
 obtain⟨h3,h⟩|⟨h3,h⟩:=aE h
 ·have h:=aC h;subst h;exact(((aK.g (kU h2)).r 4 h3).T 25).ret hΓ
 ·have aEP:=((aK.g (kU h2)).r 4 h3)
  obtain⟨h4,h⟩|⟨h4,h⟩:=aE h
  ·have h:=aC h;subst h;exact((aEP.r 4 h4).T 21).ret hΓ
  ·have aEQ:=(aEP.r 4 h4)
   obtain⟨h5,h⟩|⟨h5,h⟩:=aE h
   ·have h:=aC h;subst h;exact((aEQ.r 5 h5).T 16).ret hΓ
   ·have aER:=(aEQ.r 5 h5)
    obtain⟨h6,h⟩|⟨h6,h⟩:=aE h
    ·have h:=aC h;subst h;exact((aER.r 5 h6).T 11).ret hΓ
    ·have aES:=(aER.r 5 h6)
     obtain⟨h7,h⟩|⟨h7,h⟩:=aE h
     ·have h:=aC h;subst h;exact((aES.r 5 h7).T 6).ret hΓ
     ·have aET:=(aES.r 5 h7)
      obtain⟨h8,h⟩|⟨h8,h⟩:=aE h
      ·have h:=aC h;subst h;exact((aET.r 5 h8).T 1).ret hΓ
      ·have aEU:=(aET.r 5 h8)
       obtain⟨h9,h⟩|⟨h9,h⟩:=aE h
       ·have h:=aC h;subst h;exact(aEU.b h9).ret hΓ
       ·refine((aEU.b h9).a [.cn [1,49,50,51] [0]]).lp hΓ (PY hΓ (fun h=>?_) (by have:=(bR.sl (bR.agg (hr _ (List.mem_of_getElem? (i:=0) rfl)) (.sl ((aA.conds).map aF.c)) (by simp))).1;simpa using this) (aA.conds) 0 rfl h)
        obtain⟨VF,h74,h⟩:=aB h
        refine((aK.g (wY h74)).a [.cn [1,5,81,82,83] [0,1]]).lp hΓ (Q0 hΓ (fun h=>?_) (by have:=(bR.sl (bR.agg (hr _ (List.mem_of_getElem? (i:=0) rfl)) (.sl ((aA.bC).map Action.c)) (by simp))).1;simpa using this) (aA.bC) 0 rfl h)
        obtain⟨aEL,h234,h⟩:=aB h
        obtain⟨aEM,h236,h⟩:=aB h
        cases h;exact((aK.g (DX h234)).g (qH h236)).ret hΓ
def gO(aA:List aI)(aM:Bytes)(k1:Option Int):List aI→Nat→Option Int
 | [],i1=>(k1)
 |aS::aX,i1=>(bif (aS.name:Bytes)==(aM)then(some ((i1:Int)))else(gO aA aM k1 aX (i1+1)))
def rV(aA:List aI)(aM:Bytes):Option Int:=(gO aA aM (some (-1)) (aA) 0)
def NJ(aA:List aI)(aM:Bytes)(bB:Int):St:=⟨[(1,D.str (aM)),(7,D.sl ((aA).map aI.c)),(8,D.int .i64 ((((aA).map aI.c).length:Int))),(9,D.int .i64 (bB))],[]⟩
theorem KE(hΓ:Γ.nt=20){aA:List aI}{aM:Bytes}{r:Int}{k1:Option Int}(bE:k1=some r→Ax Γ N Tryz.f143 (.q [[none]] (D.int .i64 (r))) [1,1] ⟨[],[]⟩)(hm1:(aA).length≤maxLen):∀(rest:List aI) (i1:Nat),(aA).drop i1=rest→gO aA aM k1 rest i1=some r→Ar Γ N Tryz.f143 (.q [[none]] (D.int .i64 (r))) [1,0,1,0] (rest.length+1) (NJ aA aM ((i1:Int))):=by
 intro rest
 induction rest with
 |nil=>
  intro i1 aO h
  rw[gO]at h
  refine aJ fun N1 aY aV=>?_
  exact((aK.ge aI.c aO).a [.hl 0 [] []]).ex hΓ aY (bE h)
 |cons aS aX ih1=>
  intro i1 aO h
  rw[gO]at h
  refine aJ fun N1 aY aV=>?_
  have bO:=((aK.lt aI.c aO).l (aQ aI.c 4 (dc aO) rfl))
  obtain⟨h13,h⟩|⟨h13,h⟩:=aE h
  ·cases h;exact(bO.b h13).ret hΓ
  ·exact((bO.b h13).a [.cn [1,7,8,9] []]).ct hΓ aV (iS aO hm1) (ih1 (i1+1) (dn aO) h)
theorem HM{aA:List aI}{aM:Bytes}{r:Int}(h:rV aA aM=some r):Good Tryz.prog 143 [D.sl ((aA).map aI.c),D.str (aM)] (D.int .i64 (r)):=by
 refine gd Tryz.func143 [[none]] 20 fun hr Γ hΓ=>?_
 rw[rV]at h
 refine(aK.a [.cn [1,7,8,9] []]).lp hΓ (KE hΓ (fun h=>?_) (by have:=(bR.sl (hr _ (List.mem_of_getElem? (i:=0) rfl))).1;simpa using this) (aA) 0 rfl h)
 cases h;exact aK.ret hΓ
def gP(aA:List aI)(k1:Option Bool):List aI→Nat→Option Bool
 | [],i1=>(k1)
 |aS::aX,i1=>((v8 (aS)).bind fun FH=>(bif !(FH)then(some (false))else((rV (aA) (aS.name)).bind fun y37=>(bif (y37:Int) != ((i1:Int))then(some (false))else(gP aA k1 aX (i1+1))))))
def rW(aA:List aI):Option Bool:=(bif decide (((((aA).map aI.c).length:Int):Int)>(6))then(some (false))else(gP aA (some (true)) (aA) 0))
def NK(aA:List aI)(bB:Int):St:=⟨[(0,D.sl ((aA).map aI.c)),(8,D.sl ((aA).map aI.c)),(9,D.int .i64 ((((aA).map aI.c).length:Int))),(10,D.int .i64 (bB))],[]⟩
theorem KF(hΓ:Γ.nt=27){aA:List aI}{r:Bool}{k1:Option Bool}(bE:k1=some r→Ax Γ N Tryz.f82 (.q [[none]] (D.bool (r))) [1,1,1] ⟨[],[]⟩)(hm1:(aA).length≤maxLen):∀(rest:List aI) (i1:Nat),(aA).drop i1=rest→gP aA k1 rest i1=some r→Ar Γ N Tryz.f82 (.q [[none]] (D.bool (r))) [1,1,0,1,0] (rest.length+1) (NK aA ((i1:Int))):=by
 intro rest
 induction rest with
 |nil=>
  intro i1 aO h
  rw[gP]at h
  refine aJ fun N1 aY aV=>?_
  exact((aK.ge aI.c aO).a [.hl 0 [] []]).ex hΓ aY (bE h)
 |cons aS aX ih1=>
  intro i1 aO h
  rw[gP]at h
  refine aJ fun N1 aY aV=>?_
  obtain⟨FH,h35,h⟩:=aB h
  have mG:=(((aK.lt aI.c aO).l (aQ aI.c 4 (dc aO) rfl)).g (NI h35))
  obtain⟨h36,h⟩|⟨h36,h⟩:=aE h
  ·have h:=aC h;subst h;exact((mG.r 7 h36).T 1).ret hΓ
  ·obtain⟨y37,h38,h⟩:=aB h
   have l8:=(((mG.r 4 h36).g (HM h38)).r 3 h36)
   obtain⟨h39,h⟩|⟨h39,h⟩:=aE h
   ·have h:=aC h;subst h;exact(l8.b h39).ret hΓ
   ·exact((l8.b h39).a [.cn [0,8,9,10] []]).ct hΓ aV (iS aO hm1) (ih1 (i1+1) (dn aO) h)
theorem HN{aA:List aI}{r:Bool}(h:rW aA=some r):Good Tryz.prog 82 [D.sl ((aA).map aI.c)] (D.bool (r)):=by
 refine gd Tryz.func82 [[none]] 27 fun hr Γ hΓ=>?_
 rw[rW]at h
 obtain⟨h1,h⟩|⟨h1,h⟩:=aE h
 ·have h:=aC h;subst h;exact(aK.b h1).ret hΓ
 ·refine((aK.b h1).a [.cn [0,8,9,10] []]).lp hΓ (KF hΓ (fun h=>?_) (by have:=(bR.sl (hr _ (List.mem_of_getElem? (i:=0) rfl))).1;simpa using this) (aA) 0 rfl h)
  have h:=aC h;subst h;exact aK.ret hΓ
def nJ(aA:aD)(k1:Option Bool):List Bytes→Nat→Option Bool
 | [],i1=>(k1)
 |aS::aX,i1=>((cF (aS)).bind fun y25=>(bif !(y25)then(some (false))else(nJ aA k1 aX (i1+1))))
def pE(aA:aD):Option Bool:=((p8 (aA.rel)).bind fun y1=>(bif !(y1)then(some (false))else(bif decide (((((aA.args).map tx).length:Int):Int)>(3))then(some (false))else(nJ aA (some (true)) (aA.args) 0))))
def RI(aA:aD)(bB:Int):St:=⟨[(16,D.sl ((aA.args).map tx)),(17,D.int .i64 ((((aA.args).map tx).length:Int))),(18,D.int .i64 (bB))],[]⟩
theorem Q3(hΓ:Γ.nt=26){aA:aD}{r:Bool}{k1:Option Bool}(bE:k1=some r→Ax Γ N Tryz.f144 (.q [[none]] (D.bool (r))) [1,1,1] ⟨[],[]⟩)(hm1:(aA.args).length≤maxLen):∀(rest:List Bytes) (i1:Nat),(aA.args).drop i1=rest→nJ aA k1 rest i1=some r→Ar Γ N Tryz.f144 (.q [[none]] (D.bool (r))) [1,1,0,1,0] (rest.length+1) (RI aA ((i1:Int))):=by
 intro rest
 induction rest with
 |nil=>
  intro i1 aO h
  rw[nJ]at h
  refine aJ fun N1 aY aV=>?_
  exact((aK.ge tx aO).a [.hl 0 [] []]).ex hΓ aY (bE h)
 |cons aS aX ih1=>
  intro i1 aO h
  rw[nJ]at h
  refine aJ fun N1 aY aV=>?_
  obtain⟨y25,h26,h⟩:=aB h
  have bO:=(((aK.lt tx aO).l (aQ tx 1 (dc aO) rfl)).g (bU h26))
  obtain⟨h27,h⟩|⟨h27,h⟩:=aE h
  ·have h:=aC h;subst h;exact(bO.b h27).ret hΓ
  ·exact((bO.b h27).a [.cn [16,17,18] []]).ct hΓ aV (iS aO hm1) (ih1 (i1+1) (dn aO) h)
theorem AV{aA:aD}{r:Bool}(h:pE aA=some r):Good Tryz.prog 144 [D.agg (aD.c aA)] (D.bool (r)):=by
 refine gd Tryz.func144 [[none]] 26 fun hr Γ hΓ=>?_
 rw[pE]at h
 obtain⟨y1,h2,h⟩:=aB h
 obtain⟨h3,h⟩|⟨h3,h⟩:=aE h
 ·have h:=aC h;subst h;exact(((aK.g (kU h2)).r 5 h3).T 1).ret hΓ
 ·have mG:=((aK.g (kU h2)).r 5 h3)
  obtain⟨h4,h⟩|⟨h4,h⟩:=aE h
  ·have h:=aC h;subst h;exact(mG.b h4).ret hΓ
  ·refine((mG.b h4).a [.cn [16,17,18] []]).lp hΓ (Q3 hΓ (fun h=>?_) (by have:=(bR.sl (bR.agg (hr _ (List.mem_of_getElem? (i:=0) rfl)) (.sl ((aA.args).map tx)) (by simp))).1;simpa using this) (aA.args) 0 rfl h)
   have h:=aC h;subst h;exact aK.ret hΓ
def iA(aA:Int):Option Bytes:=((AI (aA)).bind fun y1=>(some (y1)))
theorem wZ{aA:Int}{r:Bytes}(h:iA aA=some r):Good Tryz.prog 246 [D.int .i64 (aA)] (D.str (r)):=by
 refine gd Tryz.func246 [[none]] 5 fun hr Γ hΓ=>?_
 rw[iA]at h
 obtain⟨y1,h2,h⟩:=aB h
 have h:=aC h;subst h;exact(aK.g (JL h2)).ret hΓ
def jR(aA:Bytes):Option (Int×Bool):=(bif decide ((((aA).length:Int):Int)<(1))then(some ((0,false)))else(bif decide ((((aA).length:Int):Int)>(4))then(some ((0,false)))else((AJ (aA)).bind fun y3=>(bif y3.2 then(some ((0,false)))else(bif decide ((y3.1:Int)<(0))then(some ((0,false)))else(bif decide ((y3.1:Int)>(9999))then(some ((0,false)))else((iA (y3.1)).bind fun y8=>(bif !((y8:Bytes)==(aA))then(some ((0,false)))else(some ((y3.1,true)))))))))))
theorem oP{aA:Bytes}{r:Int×Bool}(h:jR aA=some r):Good Tryz.prog 268 [D.str (aA)] (D.iJ [D.int .i64 (r.1),D.bool (r.2)]):=by
 refine gd Tryz.func268 [[none],[none]] 36 fun hr Γ hΓ=>?_
 rw[jR]at h
 obtain⟨h1,h⟩|⟨h1,h⟩:=aE h
 ·cases h;exact((aK.r 4 h1).T 1).ret hΓ
 ·have jO:=(aK.r 4 h1)
  obtain⟨h2,h⟩|⟨h2,h⟩:=aE h
  ·cases h;exact(jO.b h2).ret hΓ
  ·obtain⟨y3,h4,h⟩:=aB h
   have bO:=((jO.b h2).g (JM h4))
   obtain⟨h5,h⟩|⟨h5,h⟩:=aE h
   ·cases h;exact((bO.r 3 h5).T 9).ret hΓ
   ·have mG:=(bO.r 3 h5)
    obtain⟨h6,h⟩|⟨h6,h⟩:=aE h
    ·cases h;exact((mG.r 3 h6).T 6).ret hΓ
    ·have l8:=(mG.r 3 h6)
     obtain⟨h7,h⟩|⟨h7,h⟩:=aE h
     ·cases h;exact((l8.r 5 h7).T 1).ret hΓ
     ·obtain⟨y8,h9,h⟩:=aB h
      have uV:=(((l8.r 2 h7).g (wZ h9)).r 3 h7)
      obtain⟨h10,h⟩|⟨h10,h⟩:=aE h
      ·cases h;exact(uV.b h10).ret hΓ
      ·cases h;exact(uV.b h10).ret hΓ
def kY(aA:Int)(aM:Int):Option Int:=(bif decide ((aA:Int)<(aM))then(some (-1))else(bif decide ((aA:Int)>(aM))then(some (1))else(some (0))))
theorem vW{aA:Int}{aM:Int}{r:Int}(h:kY aA aM=some r):Good Tryz.prog 222 [D.int .i64 (aA),D.int .i64 (aM)] (D.int .i64 (r)):=by
 refine gd Tryz.func222 [[none]] 13 fun hr Γ hΓ=>?_
 rw[kY]at h
 obtain⟨h1,h⟩|⟨h1,h⟩:=aE h
 ·cases h;exact(aK.b h1).ret hΓ
 ·obtain⟨h2,h⟩|⟨h2,h⟩:=aE h
  ·have h:=aC h;subst h;exact((aK.b h1).b h2).ret hΓ
  ·have h:=aC h;subst h;exact((aK.b h1).b h2).ret hΓ
def jI(aA:Bytes)(aM:Bytes):Option Int:=((jR (aA)).bind fun y1=>((jR (aM)).bind fun y3=>(bif y1.2 then(bif y3.2 then((kY (y1.1) (y3.1)).bind fun y7=>(some (y7)))else(some (-1)))else(bif y3.2 then(some (1))else((oJ (aA) (aM)).bind fun QZ=>(some (QZ)))))))
theorem C3{aA:Bytes}{aM:Bytes}{r:Int}(h:jI aA aM=some r):Good Tryz.prog 221 [D.str (aA),D.str (aM)] (D.int .i64 (r)):=by
 refine gd Tryz.func221 [[none]] 34 fun hr Γ hΓ=>?_
 rw[jI]at h
 obtain⟨y1,h2,h⟩:=aB h
 obtain⟨y3,h4,h⟩:=aB h
 have jO:=((aK.g (oP h2)).g (oP h4))
 obtain⟨h5,h⟩|⟨h5,h⟩:=aE h
 ·have bO:=(jO.r 2 h5)
  obtain⟨h6,h⟩|⟨h6,h⟩:=aE h
  ·obtain⟨y7,h8,h⟩:=aB h
   have h:=aC h;subst h;exact((bO.b h6).g (vW h8)).ret hΓ
  ·cases h;exact((bO.b h6).b h5).ret hΓ
 ·have mG:=(((jO.r 2 h5).F 1).b h5)
  obtain⟨h9,h⟩|⟨h9,h⟩:=aE h
  ·have h:=aC h;subst h;exact(mG.b h9).ret hΓ
  ·obtain⟨QZ,h11,h⟩:=aB h
   have h:=aC h;subst h;exact((mG.b h9).g (qX h11)).ret hΓ
def fB(aA:aD)(aM:aD)(k1:Option Int):List Bytes→Nat→Option Int
 | [],i1=>(k1)
 |aS::aX,i1=>(bif decide (((i1:Int):Int)<((((aM.args).map tx).length:Int)))then((oI (aM.args) ((i1:Int))).bind fun x37=>((jI (aS) (x37)).bind fun ZC=>(bif (ZC:Int) != (0)then(some (ZC))else(fB aA aM k1 aX (i1+1)))))else(k1))
def jJ(aA:aD)(aM:aD):Option Int:=((oJ (aA.rel) (aM.rel)).bind fun y1=>(bif (y1:Int) != (0)then(some (y1))else(fB aA aM ((kY ((((aA.args).map tx).length:Int)) ((((aM.args).map tx).length:Int))).bind fun y42=>(some (y42))) (aA.args) 0)))
def DY(aA:aD)(aM:aD)(bB:Int):St:=⟨[(2,D.ptr 0 0),(3,D.ptr 1 0),(6,D.int .i64 (bB))],[Ob.box (aD.c aA),Ob.box (aD.c aM)]⟩
theorem CX(hΓ:Γ.nt=51){aA:aD}{aM:aD}{r:Int}{k1:Option Int}(bE:k1=some r→Ax Γ N Tryz.f145 (.q [[none]] (D.int .i64 (r))) [1,1,1] ⟨[(2,D.ptr 0 0),(3,D.ptr 1 0)],[Ob.box (aD.c aA),Ob.box (aD.c aM)]⟩)(hm1:(aA.args).length≤maxLen):∀(rest:List Bytes) (i1:Nat),(aA.args).drop i1=rest→fB aA aM k1 rest i1=some r→Ar Γ N Tryz.f145 (.q [[none]] (D.int .i64 (r))) [1,1,0,1,0] (rest.length+1) (DY aA aM ((i1:Int))):=by
 intro rest
 induction rest with
 |nil=>
  intro i1 aO h
  rw[fB]at h
  refine aJ fun N1 aY aV=>?_
  exact((((((((aK.ge tx aO).ge tx aO).ge tx aO).ge tx aO).ge tx aO).ge tx aO).F 1).a [.hl 0 [2,3] [0,1]]).ex hΓ aY (bE h)
 |cons aS aX ih1=>
  intro i1 aO h
  rw[fB]at h
  refine aJ fun N1 aY aV=>?_
  have mG:=((((((aK.lt tx aO).lt tx aO).lt tx aO).lt tx aO).lt tx aO).lt tx aO)
  obtain⟨h36,h⟩|⟨h36,h⟩:=aE h
  ·obtain⟨x37,h38,h⟩:=aB h
   obtain⟨ZC,h40,h⟩:=aB h
   have l8:=(((((mG.b h36).a [.n 10]).l (aQ tx 1 (dc aO) rfl)).l (bP tx 1 h38 rfl)).g (C3 h40))
   obtain⟨h41,h⟩|⟨h41,h⟩:=aE h
   ·have h:=aC h;subst h;exact(l8.b h41).ret hΓ
   ·exact((l8.b h41).a [.cn [2,3,6] [0,1]]).ct hΓ aV (iS aO hm1) (ih1 (i1+1) (dn aO) h)
  ·exact((mG.b h36).a [.hl 0 [2,3] [0,1]]).ex hΓ aY (bE h)
theorem C4{aA:aD}{aM:aD}{r:Int}(h:jJ aA aM=some r):Good Tryz.prog 145 [D.agg (aD.c aA),D.agg (aD.c aM)] (D.int .i64 (r)):=by
 refine gd Tryz.func145 [[none]] 51 fun hr Γ hΓ=>?_
 rw[jJ]at h
 obtain⟨y1,h2,h⟩:=aB h
 obtain⟨h3,h⟩|⟨h3,h⟩:=aE h
 ·have h:=aC h;subst h;exact((aK.g (qX h2)).b h3).ret hΓ
 ·refine(((aK.g (qX h2)).b h3).a [.cn [2,3,6] [0,1]]).lp hΓ (CX hΓ (fun h=>?_) (by have:=(bR.sl (bR.agg (hr _ (List.mem_of_getElem? (i:=0) rfl)) (.sl ((aA.args).map tx)) (by simp))).1;simpa using this) (aA.args) 0 rfl h)
  obtain⟨y42,h43,h⟩:=aB h
  have h:=aC h;subst h;exact(aK.g (vW h43)).ret hΓ
def eH(aA:List aD)(k1:Option Bool):List aD→Nat→Option Bool
 | [],i1=>(k1)
 |aS::aX,i1=>((pE (aS)).bind fun y46=>(bif !(y46)then(some (false))else(bif decide (((i1:Int):Int)>(0))then((oI (aA) (IntKind.i64.wrap (((i1:Int))-(1)))).bind fun x50=>((jJ (x50) (aS)).bind fun y52=>(bif decide ((y52:Int)≥(0))then(some (false))else(eH aA k1 aX (i1+1)))))else(eH aA k1 aX (i1+1)))))
def rX(aA:List aD):Option Bool:=(bif decide (((((aA).map aD.c).length:Int):Int)>(24))then(some (false))else(eH aA (some (true)) (aA) 0))
def NL(aA:List aD)(bB:Int):St:=⟨[(0,D.sl ((aA).map aD.c)),(8,D.sl ((aA).map aD.c)),(9,D.int .i64 ((((aA).map aD.c).length:Int))),(10,D.int .i64 (bB))],[]⟩
theorem KG(hΓ:Γ.nt=33){aA:List aD}{r:Bool}{k1:Option Bool}(bE:k1=some r→Ax Γ N Tryz.f83 (.q [[none]] (D.bool (r))) [1,1,1] ⟨[],[]⟩)(hm1:(aA).length≤maxLen):∀(rest:List aD) (i1:Nat),(aA).drop i1=rest→eH aA k1 rest i1=some r→Ar Γ N Tryz.f83 (.q [[none]] (D.bool (r))) [1,1,0,1,0] (rest.length+1) (NL aA ((i1:Int))):=by
 intro rest
 induction rest with
 |nil=>
  intro i1 aO h
  rw[eH]at h
  refine aJ fun N1 aY aV=>?_
  exact((aK.ge aD.c aO).a [.hl 0 [] []]).ex hΓ aY (bE h)
 |cons aS aX ih1=>
  intro i1 aO h
  rw[eH]at h
  refine aJ fun N1 aY aV=>?_
  obtain⟨y46,h47,h⟩:=aB h
  have l8:=((((aK.lt aD.c aO).l (aQ aD.c 2 (dc aO) rfl)).a [.n 13]).g (AV h47))
  obtain⟨h48,h⟩|⟨h48,h⟩:=aE h
  ·have h:=aC h;subst h;exact((((l8.r 3 h48).a [bF,bF,bF,bF,bF,bF,bF,bF]).r 2 h48).T 1).ret hΓ
  ·have uV:=(l8.r 3 h48)
   obtain⟨h49,h⟩|⟨h49,h⟩:=aE h
   ·obtain⟨x50,h51,h⟩:=aB h
    obtain⟨y52,h53,h⟩:=aB h
    have xU:=((((((((uV.r 4 h49).l (bP aD.c 2 h51 rfl)).r 3 h49).g (C4 h53)).b h49).b h48).b h49).b h48)
    obtain⟨h54,h⟩|⟨h54,h⟩:=aE h
    ·have h:=aC h;subst h;exact(xU.b h54).ret hΓ
    ·exact((xU.b h54).a [.cn [0,8,9,10] []]).ct hΓ aV (iS aO hm1) (ih1 (i1+1) (dn aO) h)
   ·exact((((((uV.r 8 h49).b h48).b h49).b h48).F 1).a [.cn [0,8,9,10] []]).ct hΓ aV (iS aO hm1) (ih1 (i1+1) (dn aO) h)
theorem HO{aA:List aD}{r:Bool}(h:rX aA=some r):Good Tryz.prog 83 [D.sl ((aA).map aD.c)] (D.bool (r)):=by
 refine gd Tryz.func83 [[none]] 33 fun hr Γ hΓ=>?_
 rw[rX]at h
 obtain⟨h1,h⟩|⟨h1,h⟩:=aE h
 ·have h:=aC h;subst h;exact(aK.b h1).ret hΓ
 ·refine((aK.b h1).a [.cn [0,8,9,10] []]).lp hΓ (KG hΓ (fun h=>?_) (by have:=(bR.sl (hr _ (List.mem_of_getElem? (i:=0) rfl))).1;simpa using this) (aA) 0 rfl h)
  have h:=aC h;subst h;exact aK.ret hΓ
def cC(aA:List Bytes)(k1:List aH→Option (List aH)):List Bytes→Nat→List aH→List (Bytes×Bool)→Option (List aH)
 | [],i1,aP,C5=>(k1 (aP))
 |aS::aX,i1,aP,C5=>((iW (aS)).bind fun y52=>(bif y52 then(bif !(OG false (aS) (C5))then((iA (IntKind.i64.wrap (((((aP).map aH.c).length:Int))+(1)))).bind fun y56=>(bif decide (([63]:Bytes).length+(y56:Bytes).length≤maxLen)then(bif room (((aP).map aH.c).length+([[D.str (aS),D.str (([63])++(y56))]]).length) 32 then(cC aA k1 aX (i1+1) ((aP)++([(⟨aS,([63])++(y56)⟩:aH)])) (UE (aS) (true) (C5)))else none)else none))else(cC aA k1 aX (i1+1) (aP) (C5)))else(cC aA k1 aX (i1+1) (aP) (C5))))
def mB(aA:List Bytes):Option (List aH):=(cC aA (fun(aT:List aH)=>(some (aT))) (aA) 0 (([]:List aH)) (([]:List (Bytes×Bool))))
def yB(aA:List Bytes)(W0:List (List D))(W1:List (D×D))(bB:Int):St:=⟨[(3,D.acc 0),(4,D.acc 1),(8,D.sl ((aA).map tx)),(9,D.int .i64 ((((aA).map tx).length:Int))),(10,D.int .i64 (bB))],[Ob.row .uq 152 2 (W0),Ob.mp (W1)]⟩
theorem F3(hΓ:Γ.nt=36){aA:List Bytes}{r:List aH}{k1:List aH→Option (List aH)}(bE:∀(aT:List aH),k1 aT=some r→Ax Γ N Tryz.f190 (.q [[some (152,2)]] (D.fr 152 2 ((r).map aH.c))) [1,1,1,1] ⟨[(3,D.acc 0)],[Ob.row .uq 152 2 ((aT).map aH.c)]⟩)(hm1:(aA).length≤maxLen):∀(rest:List Bytes) (i1:Nat) (aP:List aH) (C5:List (Bytes×Bool)),(aA).drop i1=rest→cC aA k1 rest i1 aP C5=some r→Ar Γ N Tryz.f190 (.q [[some (152,2)]] (D.fr 152 2 ((r).map aH.c))) [1,1,1,0,1,0] (rest.length+1) (yB aA ((aP).map aH.c) ((C5).map (kS eB)) ((i1:Int))):=by
 intro rest
 induction rest with
 |nil=>
  intro i1 aP C5 aO h
  rw[cC]at h
  refine aJ fun N1 aY aV=>?_
  exact((aK.ge tx aO).a [.hl 0 [3] [0]]).ex hΓ aY (bE (aP) h)
 |cons aS aX ih1=>
  intro i1 aP C5 aO h
  rw[cC]at h
  refine aJ fun N1 aY aV=>?_
  obtain⟨y52,h53,h⟩:=aB h
  have mG:=(((aK.lt tx aO).l (aQ tx 1 (dc aO) rfl)).g (lY h53))
  obtain⟨h54,h⟩|⟨h54,h⟩:=aE h
  ·have l8:=((((mG.r 3 h54).w (show plk Tryz.prog 232 ((C5).map (kS eB)) (D.str (aS)) false=some (D.bool (OG false (aS) (C5)))from aDv (e:=eB) (z:=false) (by kernel_rfl))).a [.d (D.bool (OG false (aS) (C5)))]).r 2 h54)
   obtain⟨h55,h⟩|⟨h55,h⟩:=aE h
   ·obtain⟨y56,h57,h⟩:=aB h
    obtain⟨h58,h⟩:=aU h
    obtain⟨h59,h⟩:=aU h
    exact(((((((l8.b h55).w (show O1 (D.str (aS)) (D.bool (true)) ((C5).map (kS eB))=some ((UE (aS) (true) (C5)).map (kS eB))from a6l (e:=eB) (m:=C5))).a [.kv ((UE (aS) (true) (C5)).map (kS eB))]).g (wZ h57)).w (of_decide_eq_true h58)).w (aZ h59)).a [.cn [3,4,8,9,10] [3,1]]).cs hΓ aV (yB aA (((aP).map aH.c)++([[D.str (aS),D.str (([63])++(y56))]])) ((UE (aS) (true) (C5)).map (kS eB)) (IntKind.i64.wrap (((i1:Int))+(1)))) (by first| (simp only[iS aO hm1,mA]<;>rfl)| (simp only[iS aO hm1,mA,aD.c,aH.c,aF.c,Action.c,aI.c,aL.c,bH.c,aN.c,Node.c,aG.c,bI.c]<;>rfl)) (ih1 (i1+1) ((aP)++([(⟨aS,([63])++(y56)⟩:aH)])) (UE (aS) (true) (C5)) (dn aO) h)
   ·exact((l8.b h55).a [.cn [3,4,8,9,10] [0,1]]).ct hΓ aV (iS aO hm1) (ih1 (i1+1) (aP) (C5) (dn aO) h)
  ·exact(((mG.r 5 h54).F 1).a [.cn [3,4,8,9,10] [0,1]]).ct hΓ aV (iS aO hm1) (ih1 (i1+1) (aP) (C5) (dn aO) h)
theorem wK{aA:List Bytes}{r:List aH}(h:mB aA=some r):Good Tryz.prog 190 [D.sl ((aA).map tx)] (D.fr 152 2 ((r).map aH.c)):=by
 refine gd Tryz.func190 [[some (152,2)]] 36 fun hr Γ hΓ=>?_
 rw[mB]at h
 refine(aK.a [.VP 3,.cn [3,4,8,9,10] [0,1]]).lp hΓ (F3 hΓ (fun aT h=>?_) (by have:=(bR.sl (hr _ (List.mem_of_getElem? (i:=0) rfl))).1;simpa using this) (aA) 0 (([]:List aH)) (([]:List (Bytes×Bool))) rfl h)
 have h:=aC h;subst h;exact aK.ret hΓ
def cY(aA:aI)(k1:List Bytes→Option (List aH)):List aF→Nat→List Bytes→Option (List aH)
 | [],i1,aP=>(k1 (aP))
 |aS::aX,i1,aP=>((qI (aS)).bind fun o9=>(bif room (((aP).map tx).length+((o9).map tx).length) 16 then(cY aA k1 aX (i1+1) ((aP)++(o9)))else none))
def oQ(aA:aI):Option (List aH):=(cY aA (fun(aT:List Bytes)=>((mB (aT)).bind fun y30=>(some (y30)))) (aA.conds) 0 (([]:List Bytes)))
def yC(aA:aI)(W0:List (List D))(bB:Int):St:=⟨[(3,D.acc 0),(7,D.sl ((aA.conds).map aF.c)),(8,D.int .i64 ((((aA.conds).map aF.c).length:Int))),(9,D.int .i64 (bB))],[Ob.row .uq 9 1 (W0)]⟩
theorem F4(hΓ:Γ.nt=20){aA:aI}{r:List aH}{k1:List Bytes→Option (List aH)}(bE:∀(aT:List Bytes),k1 aT=some r→Ax Γ N Tryz.f125 (.q [[some (152,2)]] (D.fr 152 2 ((r).map aH.c))) [1,1,1] ⟨[(3,D.acc 0)],[Ob.row .uq 9 1 ((aT).map tx)]⟩)(hm1:(aA.conds).length≤maxLen):∀(rest:List aF) (i1:Nat) (aP:List Bytes),(aA.conds).drop i1=rest→cY aA k1 rest i1 aP=some r→Ar Γ N Tryz.f125 (.q [[some (152,2)]] (D.fr 152 2 ((r).map aH.c))) [1,1,0,1,0] (rest.length+1) (yC aA ((aP).map tx) ((i1:Int))):=by
 intro rest
 induction rest with
 |nil=>
  intro i1 aP aO h
  rw[cY]at h
  refine aJ fun N1 aY aV=>?_
  exact((aK.ge aF.c aO).a [.hl 0 [3] [0]]).ex hΓ aY (bE (aP) h)
 |cons aS aX ih1=>
  intro i1 aP aO h
  rw[cY]at h
  refine aJ fun N1 aY aV=>?_
  obtain⟨o9,h28,h⟩:=aB h
  obtain⟨h29,h⟩:=aU h
  exact(((((aK.lt aF.c aO).l (aQ aF.c 5 (dc aO) rfl)).g (zL h28)).w (aZ h29)).a [.cn [3,7,8,9] [3]]).cs hΓ aV (yC aA (((aP).map tx)++((o9).map tx)) (IntKind.i64.wrap (((i1:Int))+(1)))) (by first| (simp only[iS aO hm1,mA]<;>rfl)| (simp only[iS aO hm1,mA,aD.c,aH.c,aF.c,Action.c,aI.c,aL.c,bH.c,aN.c,Node.c,aG.c,bI.c]<;>rfl)) (ih1 (i1+1) ((aP)++(o9)) (dn aO) h)
theorem DZ{aA:aI}{r:List aH}(h:oQ aA=some r):Good Tryz.prog 125 [D.agg (aI.c aA)] (D.fr 152 2 ((r).map aH.c)):=by
 refine gd Tryz.func125 [[some (152,2)]] 20 fun hr Γ hΓ=>?_
 rw[oQ]at h
 refine(aK.a [.VP 3,.cn [3,7,8,9] [1]]).lp hΓ (F4 hΓ (fun aT h=>?_) (by have:=(bR.sl (bR.agg (hr _ (List.mem_of_getElem? (i:=0) rfl)) (.sl ((aA.conds).map aF.c)) (by simp))).1;simpa using this) (aA.conds) 0 (([]:List Bytes)) rfl h)
 obtain⟨y30,h31,h⟩:=aB h
 have h:=aC h;subst h;exact(aK.g (wK h31)).ret hΓ
def dS(aA:Bytes)(aM:List aH)(k1:Option Bytes):List aH→Nat→Option Bytes
 | [],i1=>(k1)
 |aS::aX,i1=>(bif (aS.var:Bytes)==(aA)then(some (aS.value))else(dS aA aM k1 aX (i1+1)))
def eL(aA:Bytes)(aM:List aH):Option Bytes:=(dS aA aM (some (aA)) (aM) 0)
def F5(aA:Bytes)(aM:List aH)(bB:Int):St:=⟨[(0,D.str (aA)),(7,D.sl ((aM).map aH.c)),(8,D.int .i64 ((((aM).map aH.c).length:Int))),(9,D.int .i64 (bB))],[]⟩
theorem E0(hΓ:Γ.nt=21){aA:Bytes}{aM:List aH}{r:Bytes}{k1:Option Bytes}(bE:k1=some r→Ax Γ N Tryz.f276 (.q [[none]] (D.str (r))) [1,1] ⟨[(0,D.str (aA))],[]⟩)(hm1:(aM).length≤maxLen):∀(rest:List aH) (i1:Nat),(aM).drop i1=rest→dS aA aM k1 rest i1=some r→Ar Γ N Tryz.f276 (.q [[none]] (D.str (r))) [1,0,1,0] (rest.length+1) (F5 aA aM ((i1:Int))):=by
 intro rest
 induction rest with
 |nil=>
  intro i1 aO h
  rw[dS]at h
  refine aJ fun N1 aY aV=>?_
  exact((aK.ge aH.c aO).a [.hl 0 [0] []]).ex hΓ aY (bE h)
 |cons aS aX ih1=>
  intro i1 aO h
  rw[dS]at h
  refine aJ fun N1 aY aV=>?_
  have bO:=((aK.lt aH.c aO).l (aQ aH.c 2 (dc aO) rfl))
  obtain⟨h13,h⟩|⟨h13,h⟩:=aE h
  ·cases h;exact(bO.b h13).ret hΓ
  ·exact((bO.b h13).a [.cn [0,7,8,9] []]).ct hΓ aV (iS aO hm1) (ih1 (i1+1) (dn aO) h)
theorem qJ{aA:Bytes}{aM:List aH}{r:Bytes}(h:eL aA aM=some r):Good Tryz.prog 276 [D.str (aA),D.sl ((aM).map aH.c)] (D.str (r)):=by
 refine gd Tryz.func276 [[none]] 21 fun hr Γ hΓ=>?_
 rw[eL]at h
 refine(aK.a [.cn [0,7,8,9] []]).lp hΓ (E0 hΓ (fun h=>?_) (by have:=(bR.sl (hr _ (List.mem_of_getElem? (i:=1) rfl))).1;simpa using this) (aM) 0 rfl h)
 have h:=aC h;subst h;exact aK.ret hΓ
def iB(aA:aF)(aM:List aH)(y1:Bytes)(y3:Bytes)(k1:List Bytes→Option aF):List Bytes→Nat→List Bytes→Option aF
 | [],i1,iU=>(k1 (iU))
 |aS::aX,i1,iU=>((eL (aS) (aM)).bind fun y31=>(bif room (((iU).map tx).length+([[D.str (y31)]]).length) 16 then(iB aA aM y1 y3 k1 aX (i1+1) ((iU)++([y31])))else none))
def j0(aA:aF)(aM:List aH):Option aF:=((eL (aA.left) (aM)).bind fun y1=>((eL (aA.right) (aM)).bind fun y3=>(iB aA aM y1 y3 (fun(vZ:List Bytes)=>(some ((⟨aA.kind,(⟨aA.pat.rel,vZ⟩:aD),y1,y3⟩:aF)))) (aA.pat.args) 0 (([]:List Bytes)))))
def yD(aA:aF)(aM:List aH)(y1:Bytes)(y3:Bytes)(W0:List (List D))(bB:Int):St:=⟨[(1,D.sl ((aM).map aH.c)),(4,D.ptr 0 0),(5,D.ptr 1 0),(26,D.sl ((aA.pat.args).map tx)),(27,D.int .i64 ((((aA.pat.args).map tx).length:Int))),(28,D.int .i64 (bB))],[Ob.box [D.int .i64 (0),D.str ([]),D.nil,D.str ([]),D.str ([])],Ob.box [D.int .i64 (aA.kind),D.str (aA.pat.rel),D.acc 2,D.str (y1),D.str (y3)],Ob.row .uq 9 1 (W0)]⟩
theorem F6(hΓ:Γ.nt=44){aA:aF}{aM:List aH}{y1:Bytes}{y3:Bytes}{r:aF}{k1:List Bytes→Option aF}(bE:∀(vZ:List Bytes),k1 vZ=some r→Ax Γ N Tryz.f256 (.q [[none,none,some (9,1),none,none]] (D.agg [D.int .i64 (r.kind),D.str (r.pat.rel),D.fr 9 1 ((r.pat.args).map tx),D.str (r.left),D.str (r.right)])) [1,1,1,1] ⟨[(4,D.ptr 0 0),(5,D.ptr 1 0)],[Ob.box [D.int .i64 (0),D.str ([]),D.nil,D.str ([]),D.str ([])],Ob.box [D.int .i64 (aA.kind),D.str (aA.pat.rel),D.acc 2,D.str (y1),D.str (y3)],Ob.row .uq 9 1 ((vZ).map tx)]⟩)(hm1:(aA.pat.args).length≤maxLen):∀(rest:List Bytes) (i1:Nat) (iU:List Bytes),(aA.pat.args).drop i1=rest→iB aA aM y1 y3 k1 rest i1 iU=some r→Ar Γ N Tryz.f256 (.q [[none,none,some (9,1),none,none]] (D.agg [D.int .i64 (r.kind),D.str (r.pat.rel),D.fr 9 1 ((r.pat.args).map tx),D.str (r.left),D.str (r.right)])) [1,1,1,0,1,0] (rest.length+1) (yD aA aM y1 y3 ((iU).map tx) ((i1:Int))):=by
 intro rest
 induction rest with
 |nil=>
  intro i1 iU aO h
  rw[iB]at h
  refine aJ fun N1 aY aV=>?_
  exact((aK.ge tx aO).a [.hl 0 [4,5] [0,1,2]]).ex hΓ aY (bE (iU) h)
 |cons aS aX ih1=>
  intro i1 iU aO h
  rw[iB]at h
  refine aJ fun N1 aY aV=>?_
  obtain⟨y31,h32,h⟩:=aB h
  obtain⟨h33,h⟩:=aU h
  exact((((((aK.lt tx aO).l (aQ tx 1 (dc aO) rfl)).a [.n 7]).g (qJ h32)).w (aZ h33)).a [.cn [1,4,5,26,27,28] [0,1,4]]).cs hΓ aV (yD aA aM y1 y3 (((iU).map tx)++([[D.str (y31)]])) (IntKind.i64.wrap (((i1:Int))+(1)))) (by first| (simp only[iS aO hm1,mA]<;>rfl)| (simp only[iS aO hm1,mA,aD.c,aH.c,aF.c,Action.c,aI.c,aL.c,bH.c,aN.c,Node.c,aG.c,bI.c]<;>rfl)) (ih1 (i1+1) ((iU)++([y31])) (dn aO) h)
theorem mV{aA:aF}{aM:List aH}{r:aF}(h:j0 aA aM=some r):Good Tryz.prog 256 [D.agg (aF.c aA),D.sl ((aM).map aH.c)] (D.agg [D.int .i64 (r.kind),D.str (r.pat.rel),D.fr 9 1 ((r.pat.args).map tx),D.str (r.left),D.str (r.right)]):=by
 refine gd Tryz.func256 [[none,none,some (9,1),none,none]] 44 fun hr Γ hΓ=>?_
 rw[j0]at h
 obtain⟨y1,h2,h⟩:=aB h
 obtain⟨y3,h4,h⟩:=aB h
 refine((((aK.a [.n 12]).g (qJ h2)).g (qJ h4)).a [.pb 2 2 9 1,.cn [1,4,5,26,27,28] [1,2,3]]).lp hΓ (F6 hΓ (fun vZ h=>?_) (by have:=(bR.sl (bR.agg (hr _ (List.mem_of_getElem? (i:=0) rfl)) (.sl ((aA.pat.args).map tx)) (by simp))).1;simpa using this) (aA.pat.args) 0 (([]:List Bytes)) rfl h)
 cases h;exact aK.ret hΓ
def iC(aA:aI)(y1:List aH)(k1:List aF→Option (List aF)):List aF→Nat→List aF→Option (List aF)
 | [],i1,aW=>(k1 (aW))
 |aS::aX,i1,aW=>((j0 (aS) (y1)).bind fun GK=>(bif room (((aW).map aF.c).length+([[D.int .i64 (GK.kind),D.str (GK.pat.rel),D.sl ((GK.pat.args).map tx),D.str (GK.left),D.str (GK.right)]]).length) 80 then(iC aA y1 k1 aX (i1+1) ((aW)++([GK])))else none))
def oR(aA:aI):Option (List aF):=((oQ (aA)).bind fun y1=>(iC aA y1 (fun(aT:List aF)=>(some (aT))) (aA.conds) 0 (([]:List aF))))
def yE(aA:aI)(y1:List aH)(W0:List (List D))(bB:Int):St:=⟨[(3,D.acc 0),(4,D.acc 1),(10,D.sl ((aA.conds).map aF.c)),(11,D.int .i64 ((((aA.conds).map aF.c).length:Int))),(12,D.int .i64 (bB))],[Ob.row .uq 152 2 ((y1).map aH.c),Ob.row .uq 115 5 (W0)]⟩
theorem F7(hΓ:Γ.nt=24){aA:aI}{y1:List aH}{r:List aF}{k1:List aF→Option (List aF)}(bE:∀(aT:List aF),k1 aT=some r→Ax Γ N Tryz.f200 (.q [[some (115,5)]] (D.fr 115 5 ((r).map aF.c))) [1,1,1,1] ⟨[(4,D.acc 0)],[Ob.row .uq 115 5 ((aT).map aF.c)]⟩)(hm1:(aA.conds).length≤maxLen):∀(rest:List aF) (i1:Nat) (aW:List aF),(aA.conds).drop i1=rest→iC aA y1 k1 rest i1 aW=some r→Ar Γ N Tryz.f200 (.q [[some (115,5)]] (D.fr 115 5 ((r).map aF.c))) [1,1,1,0,1,0] (rest.length+1) (yE aA y1 ((aW).map aF.c) ((i1:Int))):=by
 intro rest
 induction rest with
 |nil=>
  intro i1 aW aO h
  rw[iC]at h
  refine aJ fun N1 aY aV=>?_
  exact((aK.ge aF.c aO).a [.hl 0 [4] [1]]).ex hΓ aY (bE (aW) h)
 |cons aS aX ih1=>
  intro i1 aW aO h
  rw[iC]at h
  refine aJ fun N1 aY aV=>?_
  obtain⟨GK,h30,h⟩:=aB h
  obtain⟨h31,h⟩:=aU h
  exact(((((aK.lt aF.c aO).l (aQ aF.c 5 (dc aO) rfl)).g (mV h30)).w (aZ h31)).a [.cn [3,4,10,11,12] [0,5]]).cs hΓ aV (yE aA y1 (((aW).map aF.c)++([[D.int .i64 (GK.kind),D.str (GK.pat.rel),D.sl ((GK.pat.args).map tx),D.str (GK.left),D.str (GK.right)]])) (IntKind.i64.wrap (((i1:Int))+(1)))) (by first| (simp only[iS aO hm1,mA]<;>rfl)| (simp only[iS aO hm1,mA,aD.c,aH.c,aF.c,Action.c,aI.c,aL.c,bH.c,aN.c,Node.c,aG.c,bI.c]<;>rfl)) (ih1 (i1+1) ((aW)++([GK])) (dn aO) h)
theorem E1{aA:aI}{r:List aF}(h:oR aA=some r):Good Tryz.prog 200 [D.agg (aI.c aA)] (D.fr 115 5 ((r).map aF.c)):=by
 refine gd Tryz.func200 [[some (115,5)]] 24 fun hr Γ hΓ=>?_
 rw[oR]at h
 obtain⟨y1,h2,h⟩:=aB h
 refine((aK.g (DZ h2)).a [.VP 4,.cn [3,4,10,11,12] [1,2]]).lp hΓ (F7 hΓ (fun aT h=>?_) (by have:=(bR.sl (bR.agg (hr _ (List.mem_of_getElem? (i:=0) rfl)) (.sl ((aA.conds).map aF.c)) (by simp))).1;simpa using this) (aA.conds) 0 (([]:List aF)) rfl h)
 have h:=aC h;subst h;exact aK.ret hΓ
def jK(aA:List Bytes)(aM:List Bytes)(k1:Option Bool):List Bytes→Nat→Option Bool
 | [],i1=>(k1)
 |aS::aX,i1=>((oI (aM) ((i1:Int))).bind fun x22=>(bif !((aS:Bytes)==(x22))then(some (false))else(jK aA aM k1 aX (i1+1))))
def nK(aA:List Bytes)(aM:List Bytes):Option Bool:=(bif ((((aA).map tx).length:Int):Int) != ((((aM).map tx).length:Int))then(some (false))else(jK aA aM (some (true)) (aA) 0))
def KH(aA:List Bytes)(aM:List Bytes)(bB:Int):St:=⟨[(0,D.sl ((aA).map tx)),(1,D.sl ((aM).map tx)),(12,D.int .i64 ((((aA).map tx).length:Int))),(13,D.int .i64 (bB))],[]⟩
theorem HP(hΓ:Γ.nt=26){aA:List Bytes}{aM:List Bytes}{r:Bool}{k1:Option Bool}(bE:k1=some r→Ax Γ N Tryz.f232 (.q [[none]] (D.bool (r))) [1,1,1] ⟨[],[]⟩)(hm1:(aA).length≤maxLen):∀(rest:List Bytes) (i1:Nat),(aA).drop i1=rest→jK aA aM k1 rest i1=some r→Ar Γ N Tryz.f232 (.q [[none]] (D.bool (r))) [1,1,0,1,0] (rest.length+1) (KH aA aM ((i1:Int))):=by
 intro rest
 induction rest with
 |nil=>
  intro i1 aO h
  rw[jK]at h
  refine aJ fun N1 aY aV=>?_
  exact((aK.ge tx aO).a [.hl 0 [] []]).ex hΓ aY (bE h)
 |cons aS aX ih1=>
  intro i1 aO h
  rw[jK]at h
  refine aJ fun N1 aY aV=>?_
  obtain⟨x22,h23,h⟩:=aB h
  have bO:=((((aK.lt tx aO).a [.n 8]).l (aQ tx 1 (dc aO) rfl)).l (bP tx 1 h23 rfl))
  obtain⟨h24,h⟩|⟨h24,h⟩:=aE h
  ·have h:=aC h;subst h;exact(bO.b h24).ret hΓ
  ·exact((bO.b h24).a [.cn [0,1,12,13] []]).ct hΓ aV (iS aO hm1) (ih1 (i1+1) (dn aO) h)
theorem x6{aA:List Bytes}{aM:List Bytes}{r:Bool}(h:nK aA aM=some r):Good Tryz.prog 232 [D.sl ((aA).map tx),D.sl ((aM).map tx)] (D.bool (r)):=by
 refine gd Tryz.func232 [[none]] 26 fun hr Γ hΓ=>?_
 rw[nK]at h
 obtain⟨h1,h⟩|⟨h1,h⟩:=aE h
 ·have h:=aC h;subst h;exact(aK.b h1).ret hΓ
 ·refine((aK.b h1).a [.cn [0,1,12,13] []]).lp hΓ (HP hΓ (fun h=>?_) (by have:=(bR.sl (hr _ (List.mem_of_getElem? (i:=0) rfl))).1;simpa using this) (aA) 0 rfl h)
  have h:=aC h;subst h;exact aK.ret hΓ
def cG(aA:aD)(aM:aD):Option Bool:=(bif (aA.rel:Bytes)==(aM.rel)then((nK (aA.args) (aM.args)).bind fun y2=>(some (y2)))else(some (false)))
theorem mC{aA:aD}{aM:aD}{r:Bool}(h:cG aA aM=some r):Good Tryz.prog 159 [D.agg (aD.c aA),D.agg (aD.c aM)] (D.bool (r)):=by
 refine gd Tryz.func159 [[none]] 17 fun hr Γ hΓ=>?_
 rw[cG]at h
 obtain⟨h1,h⟩|⟨h1,h⟩:=aE h
 ·obtain⟨y2,h3,h⟩:=aB h
  have h:=aC h;subst h;exact(((aK.r 5 h1).g (x6 h3)).b h1).ret hΓ
 ·have h:=aC h;subst h;exact(aK.r 6 h1).ret hΓ
def gD(aA:aF)(aM:aF):Option Bool:=(bif (aA.kind:Int)==(aM.kind)then(bif (aA.left:Bytes)==(aM.left)then(bif (aA.right:Bytes)==(aM.right)then((cG (aA.pat) (aM.pat)).bind fun y4=>(some (y4)))else(some (false)))else(some (false)))else(some (false)))
theorem tX{aA:aF}{aM:aF}{r:Bool}(h:gD aA aM=some r):Good Tryz.prog 160 [D.agg (aF.c aA),D.agg (aF.c aM)] (D.bool (r)):=by
 refine gd Tryz.func160 [[none]] 31 fun hr Γ hΓ=>?_
 rw[gD]at h
 obtain⟨h1,h⟩|⟨h1,h⟩:=aE h
 ·have jO:=(aK.r 6 h1)
  obtain⟨h2,h⟩|⟨h2,h⟩:=aE h
  ·have bO:=(jO.r 6 h2)
   obtain⟨h3,h⟩|⟨h3,h⟩:=aE h
   ·obtain⟨y4,h5,h⟩:=aB h
    have h:=aC h;subst h;exact(((bO.r 5 h3).g (mC h5)).b h3).ret hΓ
   ·have h:=aC h;subst h;exact(bO.r 6 h3).ret hΓ
  ·have h:=aC h;subst h;exact((jO.r 6 h2).F 6).ret hΓ
 ·have h:=aC h;subst h;exact((aK.r 6 h1).F 12).ret hΓ
def qK(aA:aD):Option aD:=((mB (aA.args)).bind fun y1=>((j0 ((⟨0,aA,[],[]⟩:aF)) (y1)).bind fun y3=>(some (y3.pat))))
theorem zM{aA:aD}{r:aD}(h:qK aA=some r):Good Tryz.prog 258 [D.agg (aD.c aA)] (D.agg [D.str (r.rel),D.fr 9 1 ((r.args).map tx)]):=by
 refine gd Tryz.func258 [[none,some (9,1)]] 10 fun hr Γ hΓ=>?_
 rw[qK]at h
 obtain⟨y1,h2,h⟩:=aB h
 obtain⟨y3,h4,h⟩:=aB h
 cases h;exact((((aK.a [.n 5]).g (wK h2)).a [.d (D.agg [D.int .i64 (y3.kind),D.str (y3.pat.rel),D.fr 9 1 ((y3.pat.args).map tx),D.str (y3.left),D.str (y3.right)])]).w (show Good Tryz.prog 256 [D.agg [D.int .i64 (0),D.str (aA.rel),D.sl ((aA.args).map tx),D.str ([]),D.str ([])],D.sl ((y1).map aH.c)] (D.agg [D.int .i64 (y3.kind),D.str (y3.pat.rel),D.fr 9 1 ((y3.pat.args).map tx),D.str (y3.left),D.str (y3.right)])from by first| (simpa only[List.map_append,List.map_cons,List.map_nil,List.map_drop,List.map_take]using mV h4)|exact mV h4| (have t:=mV h4;simp only[List.map_append,List.map_drop,List.map_take,aF.c]at t;exact t))).ret hΓ
def bV(aA:aG)(aM:aD)(k1:Option (aG×Int)):List aN→Nat→Option (aG×Int)
 | [],i1=>(k1)
 |aS::aX,i1=>((cG (aS.shape) (aM)).bind fun iI=>(bif iI then(some ((aA,(i1:Int))))else(bV aA aM k1 aX (i1+1))))
def dW(aA:aG)(aM:aD):Option (aG×Int):=(bif decide ((aA.aR).length≤maxLen)then(bV aA aM (bif room (((aA.aR).map aN.c).length+([[D.str (aM.rel),D.sl ((aM.args).map tx),D.sl ([])]]).length) 64 then(some (((⟨aA.rules,aA.ends,(aA.aR)++([(⟨aM,[]⟩:aN)]),aA.nodes,aA.facts,aA.bJ⟩:aG),IntKind.i64.wrap ((((((aA.aR).map aN.c)++([[D.str (aM.rel),D.sl ((aM.args).map tx),D.sl ([])]])).length:Int))-(1)))))else none) (aA.aR) 0)else none)
def AX(xE:Value)(aA:aG)(aM:aD)(bB:Int):St:=⟨[(0,D.ptr 0 0),(3,D.ptr 1 0),(10,D.acc 2),(11,D.int .i64 ((((aA.aR).map aN.c).length:Int))),(12,D.int .i64 (bB))],[Ob.SI [D.acc 3,D.acc 4,D.acc 2,D.acc 5,D.acc 6,D.int .i64 (aA.bJ)] xE,Ob.box [D.str (aM.rel),D.acc 7],Ob.row .uq 111 3 ((aA.aR).map aN.c),Ob.row .uq 105 4 ((aA.rules).map aI.c),Ob.row .uq 3 1 ((aA.ends).map iL),Ob.row .uq 118 8 ((aA.nodes).map Node.c),Ob.row .uq 53 2 ((aA.facts).map aD.c),Ob.row .uq 9 1 ((aM.args).map tx)]⟩
theorem zW(hΓ:Γ.nt=40){xE:Value}{aA:aG}{aM:aD}{r:aG×Int}{k1:Option (aG×Int)}(bE:k1=some r→Ax Γ N Tryz.f257 (.p [[some (105,4),some (3,1),some (111,3),some (118,8),some (53,2),none],[none]] xE (b8 r.1) (D.int .i64 (r.2))) [1,1] ⟨[(0,D.ptr 0 0),(3,D.ptr 1 0)],[Ob.SI [D.acc 2,D.acc 3,D.acc 4,D.acc 5,D.acc 6,D.int .i64 (aA.bJ)] xE,Ob.box [D.str (aM.rel),D.acc 7],Ob.row .uq 105 4 ((aA.rules).map aI.c),Ob.row .uq 3 1 ((aA.ends).map iL),Ob.row .uq 111 3 ((aA.aR).map aN.c),Ob.row .uq 118 8 ((aA.nodes).map Node.c),Ob.row .uq 53 2 ((aA.facts).map aD.c),Ob.row .uq 9 1 ((aM.args).map tx)]⟩)(hm1:(aA.aR).length≤maxLen):∀(rest:List aN) (i1:Nat),(aA.aR).drop i1=rest→bV aA aM k1 rest i1=some r→Ar Γ N Tryz.f257 (.p [[some (105,4),some (3,1),some (111,3),some (118,8),some (53,2),none],[none]] xE (b8 r.1) (D.int .i64 (r.2))) [1,0,1,0] (rest.length+1) (AX xE aA aM ((i1:Int))):=by
 intro rest
 induction rest with
 |nil=>
  intro i1 aO h
  rw[bV]at h
  refine aJ fun N1 aY aV=>?_
  exact((aK.ge aN.c aO).a [.hl 0 [0,3] [0,1,3,4,2,5,6,7]]).ex hΓ aY (bE h)
 |cons aS aX ih1=>
  intro i1 aO h
  rw[bV]at h
  refine aJ fun N1 aY aV=>?_
  obtain⟨iI,h23,h⟩:=aB h
  have bO:=((((aK.lt aN.c aO).i (nY aN.c 3 (dc aO))).o 3 3 .uq (cA aN.c (dc aO))).g (mC h23))
  obtain⟨h24,h⟩|⟨h24,h⟩:=aE h
  ·cases h;exact(bO.b h24).ret hΓ
  ·exact((bO.b h24).a [.cn [0,3,10,11,12] [0,1,2,3,4,5,6,7]]).ct hΓ aV (iS aO hm1) (ih1 (i1+1) (dn aO) h)
theorem rY{aA:aG}{aM:aD}{r:aG×Int}(h:dW aA aM=some r):AD Tryz.prog 257 (b8 aA) (b8 r.1) [D.agg [D.str (aM.rel),D.fr 9 1 ((aM.args).map tx)]] (D.int .i64 (r.2)):=by
 refine gdP Tryz.func257 [[some (105,4),some (3,1),some (111,3),some (118,8),some (53,2),none],[none]] 40 [D.acc 1,D.acc 2,D.acc 3,D.acc 4,D.acc 5,D.int .i64 (aA.bJ)] [D.agg [D.str (aM.rel),D.acc 6]] [Ob.row .uq 105 4 ((aA.rules).map aI.c),Ob.row .uq 3 1 ((aA.ends).map iL),Ob.row .uq 111 3 ((aA.aR).map aN.c),Ob.row .uq 118 8 ((aA.nodes).map Node.c),Ob.row .uq 53 2 ((aA.facts).map aD.c),Ob.row .uq 9 1 ((aM.args).map tx)] fun hr xE Γ hΓ=>?_
 rw[dW]at h
 obtain⟨h27,h⟩:=aU h
 refine(aK.a [.cn [0,3,10,11,12] [0,7,3,1,2,4,5,6]]).lp hΓ (zW hΓ (fun h=>?_) (of_decide_eq_true h27) (aA.aR) 0 rfl h)
 obtain⟨h26,h⟩:=aU h
 cases h;exact((aK.w (aZ h26)).a [.n2 [0,1,2,3,4,5,6,7,8,9,10,11] [0,1,2,3,4,5,6,7,8,9,10,11] 7 9 [0,1,2,3,4] [4,7,8]]).rts hΓ (D.iJ [D.int .i64 (IntKind.i64.wrap ((((((aA.aR).map aN.c)++([[D.str (aM.rel),D.sl ((aM.args).map tx),D.sl ([])]])).length:Int))-(1))),D.agg [D.fr 105 4 ((aA.rules).map aI.c),D.fr 3 1 ((aA.ends).map iL),D.fr 111 3 (((aA.aR).map aN.c)++([[D.str (aM.rel),D.sl ((aM.args).map tx),D.sl ([])]])),D.fr 118 8 ((aA.nodes).map Node.c),D.fr 53 2 ((aA.facts).map aD.c),D.int .i64 (aA.bJ)],D.val xE]) (by first|rfl| (simp only[mA]<;>rfl)| (simp only[b8,mA]<;>rfl))
def bD(aA:aG)(aM:Int)(bA:aF)(k1:Option (aG×Int)):List Node→Nat→Option (aG×Int)
 | [],i1=>(k1)
 |aS::aX,i1=>(bif decide (((i1:Int):Int)>(0))then(bif (aS.parent:Int)==(aM)then((gD (aS.cond) (bA)).bind fun CK=>(bif CK then(some ((aA,(i1:Int))))else(bD aA aM bA k1 aX (i1+1))))else(bD aA aM bA k1 aX (i1+1)))else(bD aA aM bA k1 aX (i1+1)))
def iD(aA:aG)(aM:Int)(bA:aF):Option (aG×Int):=(bif decide ((aA.nodes).length≤maxLen)then(bD aA aM bA (bif (bA.kind:Int)==(1)then((qK (bA.pat)).bind fun y36=>((dW (aA) (y36)).bind fun VR=>((eR (bA)).bind fun VG=>(bif room (((VR.1.nodes).map Node.c).length+([[D.int .i64 (aM),D.int .i64 (VG.kind),D.str (VG.pat.rel),D.sl ((VG.pat.args).map tx),D.str (VG.left),D.str (VG.right),D.int .i64 (VR.2),D.sl ([])]]).length) 120 then(some (((⟨VR.1.rules,VR.1.ends,VR.1.aR,(VR.1.nodes)++([(⟨aM,VG,VR.2,[]⟩:Node)]),VR.1.facts,VR.1.bJ⟩:aG),IntKind.i64.wrap ((((((VR.1.nodes).map Node.c)++([[D.int .i64 (aM),D.int .i64 (VG.kind),D.str (VG.pat.rel),D.sl ((VG.pat.args).map tx),D.str (VG.left),D.str (VG.right),D.int .i64 (VR.2),D.sl ([])]])).length:Int))-(1)))))else none))))else(bif (bA.kind:Int)==(2)then((qK (bA.pat)).bind fun y47=>((dW (aA) (y47)).bind fun RC=>((eR (bA)).bind fun SU=>(bif room (((RC.1.nodes).map Node.c).length+([[D.int .i64 (aM),D.int .i64 (SU.kind),D.str (SU.pat.rel),D.sl ((SU.pat.args).map tx),D.str (SU.left),D.str (SU.right),D.int .i64 (RC.2),D.sl ([])]]).length) 120 then(some (((⟨RC.1.rules,RC.1.ends,RC.1.aR,(RC.1.nodes)++([(⟨aM,SU,RC.2,[]⟩:Node)]),RC.1.facts,RC.1.bJ⟩:aG),IntKind.i64.wrap ((((((RC.1.nodes).map Node.c)++([[D.int .i64 (aM),D.int .i64 (SU.kind),D.str (SU.pat.rel),D.sl ((SU.pat.args).map tx),D.str (SU.left),D.str (SU.right),D.int .i64 (RC.2),D.sl ([])]])).length:Int))-(1)))))else none))))else((eR (bA)).bind fun VH=>(bif room (((aA.nodes).map Node.c).length+([[D.int .i64 (aM),D.int .i64 (VH.kind),D.str (VH.pat.rel),D.sl ((VH.pat.args).map tx),D.str (VH.left),D.str (VH.right),D.int .i64 (-1),D.sl ([])]]).length) 120 then(some (((⟨aA.rules,aA.ends,aA.aR,(aA.nodes)++([(⟨aM,VH, -1,[]⟩:Node)]),aA.facts,aA.bJ⟩:aG),IntKind.i64.wrap ((((((aA.nodes).map Node.c)++([[D.int .i64 (aM),D.int .i64 (VH.kind),D.str (VH.pat.rel),D.sl ((VH.pat.args).map tx),D.str (VH.left),D.str (VH.right),D.int .i64 (-1),D.sl ([])]])).length:Int))-(1)))))else none)))) (aA.nodes) 0)else none)
def AY(xE:Value)(aA:aG)(aM:Int)(bA:aF)(bB:Int):St:=⟨[(0,D.ptr 0 0),(1,D.int .i64 (aM)),(5,D.ptr 1 0),(13,D.acc 2),(14,D.int .i64 ((((aA.nodes).map Node.c).length:Int))),(15,D.int .i64 (bB))],[Ob.SI [D.acc 3,D.acc 4,D.acc 5,D.acc 2,D.acc 6,D.int .i64 (aA.bJ)] xE,Ob.box (aF.c bA),Ob.row .uq 118 8 ((aA.nodes).map Node.c),Ob.row .uq 105 4 ((aA.rules).map aI.c),Ob.row .uq 3 1 ((aA.ends).map iL),Ob.row .uq 111 3 ((aA.aR).map aN.c),Ob.row .uq 53 2 ((aA.facts).map aD.c)]⟩
theorem zX(hΓ:Γ.nt=69){xE:Value}{aA:aG}{aM:Int}{bA:aF}{r:aG×Int}{k1:Option (aG×Int)}(bE:k1=some r→Ax Γ N Tryz.f201 (.p [[some (105,4),some (3,1),some (111,3),some (118,8),some (53,2),none],[none]] xE (b8 r.1) (D.int .i64 (r.2))) [1,1] ⟨[(0,D.ptr 0 0),(1,D.int .i64 (aM)),(5,D.ptr 1 0)],[Ob.SI [D.acc 2,D.acc 3,D.acc 4,D.acc 5,D.acc 6,D.int .i64 (aA.bJ)] xE,Ob.box (aF.c bA),Ob.row .uq 105 4 ((aA.rules).map aI.c),Ob.row .uq 3 1 ((aA.ends).map iL),Ob.row .uq 111 3 ((aA.aR).map aN.c),Ob.row .uq 118 8 ((aA.nodes).map Node.c),Ob.row .uq 53 2 ((aA.facts).map aD.c)]⟩)(hm1:(aA.nodes).length≤maxLen):∀(rest:List Node) (i1:Nat),(aA.nodes).drop i1=rest→bD aA aM bA k1 rest i1=some r→Ar Γ N Tryz.f201 (.p [[some (105,4),some (3,1),some (111,3),some (118,8),some (53,2),none],[none]] xE (b8 r.1) (D.int .i64 (r.2))) [1,0,1,0] (rest.length+1) (AY xE aA aM bA ((i1:Int))):=by
 intro rest
 induction rest with
 |nil=>
  intro i1 aO h
  rw[bD]at h
  refine aJ fun N1 aY aV=>?_
  exact((aK.ge Node.c aO).a [.hl 0 [0,1,5] [0,1,3,4,5,2,6]]).ex hΓ aY (bE h)
 |cons aS aX ih1=>
  intro i1 aO h
  rw[bD]at h
  refine aJ fun N1 aY aV=>?_
  have l8:=(((aK.lt Node.c aO).i (nY Node.c 8 (dc aO))).o 8 8 .uq (cA Node.c (dc aO)))
  obtain⟨h30,h⟩|⟨h30,h⟩:=aE h
  ·have uV:=(l8.r 5 h30)
   obtain⟨h31,h⟩|⟨h31,h⟩:=aE h
   ·obtain⟨CK,h33,h⟩:=aB h
    have xU:=(((uV.r 4 h31).g (tX h33)).b h31)
    obtain⟨h34,h⟩|⟨h34,h⟩:=aE h
    ·cases h;exact(xU.b h34).ret hΓ
    ·exact((xU.b h34).a [.cn [0,1,5,13,14,15] [0,1,2,3,4,5,6]]).ct hΓ aV (iS aO hm1) (ih1 (i1+1) (dn aO) h)
   ·exact(((uV.r 5 h31).F 1).a [.cn [0,1,5,13,14,15] [0,1,2,3,4,5,6]]).ct hΓ aV (iS aO hm1) (ih1 (i1+1) (dn aO) h)
  ·exact(((l8.r 5 h30).F 6).a [.cn [0,1,5,13,14,15] [0,1,2,3,4,5,6]]).ct hΓ aV (iS aO hm1) (ih1 (i1+1) (dn aO) h)
theorem yU{aA:aG}{aM:Int}{bA:aF}{r:aG×Int}(h:iD aA aM bA=some r):AD Tryz.prog 201 (b8 aA) (b8 r.1) [D.int .i64 (aM),D.agg (aF.c bA)] (D.int .i64 (r.2)):=by
 refine gdP Tryz.func201 [[some (105,4),some (3,1),some (111,3),some (118,8),some (53,2),none],[none]] 69 [D.acc 1,D.acc 2,D.acc 3,D.acc 4,D.acc 5,D.int .i64 (aA.bJ)] [D.int .i64 (aM),D.agg [D.int .i64 (bA.kind),D.str (bA.pat.rel),D.sl ((bA.pat.args).map tx),D.str (bA.left),D.str (bA.right)]] [Ob.row .uq 105 4 ((aA.rules).map aI.c),Ob.row .uq 3 1 ((aA.ends).map iL),Ob.row .uq 111 3 ((aA.aR).map aN.c),Ob.row .uq 118 8 ((aA.nodes).map Node.c),Ob.row .uq 53 2 ((aA.facts).map aD.c)] fun hr xE Γ hΓ=>?_
 rw[iD]at h
 obtain⟨h63,h⟩:=aU h
 refine(aK.a [.cn [0,1,5,13,14,15] [0,6,4,1,2,3,5]]).lp hΓ (zX hΓ (fun h=>?_) (of_decide_eq_true h63) (aA.nodes) 0 rfl h)
 obtain⟨h35,h⟩|⟨h35,h⟩:=aE h
 ·obtain⟨y36,h37,h⟩:=aB h
  obtain⟨VR,h39,h⟩:=aB h
  obtain⟨VG,h44,h⟩:=aB h
  obtain⟨h45,h⟩:=aU h
  cases h;exact(((((((aK.r 4 h35).T 1).g (zM h37)).hp [[some (105,4),some (3,1),some (111,3),some (118,8),some (53,2),none],[none,some (9,1)]] (rY h39)).a [.n2 [0,1,2,3,4,5,6,7,8,9,10,11,12,13,14] [0,1,2,3,4,5,6,7,8,9,10,11,12,13,14] 10 12 [0,1,2,3,4] [11,13,14]]).g (lC h44)).w (aZ h45)).rts hΓ (D.iJ [D.int .i64 (IntKind.i64.wrap ((((((VR.1.nodes).map Node.c)++([[D.int .i64 (aM),D.int .i64 (VG.kind),D.str (VG.pat.rel),D.sl ((VG.pat.args).map tx),D.str (VG.left),D.str (VG.right),D.int .i64 (VR.2),D.sl ([])]])).length:Int))-(1))),D.agg [D.fr 105 4 ((VR.1.rules).map aI.c),D.fr 3 1 ((VR.1.ends).map iL),D.fr 111 3 ((VR.1.aR).map aN.c),D.fr 118 8 (((VR.1.nodes).map Node.c)++([[D.int .i64 (aM),D.int .i64 (VG.kind),D.str (VG.pat.rel),D.sl ((VG.pat.args).map tx),D.str (VG.left),D.str (VG.right),D.int .i64 (VR.2),D.sl ([])]])),D.fr 53 2 ((VR.1.facts).map aD.c),D.int .i64 (VR.1.bJ)],D.val xE]) (by first|rfl| (simp only[mA]<;>rfl)| (simp only[b8,mA]<;>rfl))
 ·have BQ:=(aK.r 4 h35)
  obtain⟨h46,h⟩|⟨h46,h⟩:=aE h
  ·obtain⟨y47,h48,h⟩:=aB h
   obtain⟨RC,h50,h⟩:=aB h
   obtain⟨SU,h55,h⟩:=aB h
   obtain⟨h56,h⟩:=aU h
   cases h;exact((((((BQ.b h46).g (zM h48)).hp [[some (105,4),some (3,1),some (111,3),some (118,8),some (53,2),none],[none,some (9,1)]] (rY h50)).a [.n2 [0,1,2,3,4,5,6,7,8,9,10,11,12,13,14] [0,1,2,3,4,5,6,7,8,9,10,11,12,13,14] 10 12 [0,1,2,3,4] [11,13,14]]).g (lC h55)).w (aZ h56)).rts hΓ (D.iJ [D.int .i64 (IntKind.i64.wrap ((((((RC.1.nodes).map Node.c)++([[D.int .i64 (aM),D.int .i64 (SU.kind),D.str (SU.pat.rel),D.sl ((SU.pat.args).map tx),D.str (SU.left),D.str (SU.right),D.int .i64 (RC.2),D.sl ([])]])).length:Int))-(1))),D.agg [D.fr 105 4 ((RC.1.rules).map aI.c),D.fr 3 1 ((RC.1.ends).map iL),D.fr 111 3 ((RC.1.aR).map aN.c),D.fr 118 8 (((RC.1.nodes).map Node.c)++([[D.int .i64 (aM),D.int .i64 (SU.kind),D.str (SU.pat.rel),D.sl ((SU.pat.args).map tx),D.str (SU.left),D.str (SU.right),D.int .i64 (RC.2),D.sl ([])]])),D.fr 53 2 ((RC.1.facts).map aD.c),D.int .i64 (RC.1.bJ)],D.val xE]) (by first|rfl| (simp only[mA]<;>rfl)| (simp only[b8,mA]<;>rfl))
  ·obtain⟨VH,h61,h⟩:=aB h
   obtain⟨h62,h⟩:=aU h
   cases h;exact((((BQ.b h46).a [.n2 [0,1,2,3,4,5,6,7,8,9,10,11,12,13,14] [0,1,2,3,4,5,6,7,8,9,10,11,12,13,14] 10 12 [0,1,2,3,4] [5,7,8]]).g (lC h61)).w (aZ h62)).rts hΓ (D.iJ [D.int .i64 (IntKind.i64.wrap ((((((aA.nodes).map Node.c)++([[D.int .i64 (aM),D.int .i64 (VH.kind),D.str (VH.pat.rel),D.sl ((VH.pat.args).map tx),D.str (VH.left),D.str (VH.right),D.int .i64 (-1),D.sl ([])]])).length:Int))-(1))),D.agg [D.fr 105 4 ((aA.rules).map aI.c),D.fr 3 1 ((aA.ends).map iL),D.fr 111 3 ((aA.aR).map aN.c),D.fr 118 8 (((aA.nodes).map Node.c)++([[D.int .i64 (aM),D.int .i64 (VH.kind),D.str (VH.pat.rel),D.sl ((VH.pat.args).map tx),D.str (VH.left),D.str (VH.right),D.int .i64 (-1),D.sl ([])]])),D.fr 53 2 ((aA.facts).map aD.c),D.int .i64 (aA.bJ)],D.val xE]) (by first|rfl| (simp only[mA]<;>rfl)| (simp only[b8,mA]<;>rfl))
def fQ(aA:List aI)(i1:Nat)(NM:List aF)(k2:Int→Int→List aI→List Int→List aN→List Node→List aD→Option aG):List aF→Nat→Int→Int→List aI→List Int→List aN→List Node→List aD→Option aG
 | [],i2,yT,mK,BT,mO,BU,BV,BW=>(k2 (yT) (mK) (BT) (mO) (BU) (BV) (BW))
 |o8::wO,i2,yT,mK,BT,mO,BU,BV,BW=>((iD ((⟨BT,mO,BU,BV,BW,mK⟩:aG)) (yT) (o8)).bind fun xD=>(fQ aA i1 NM k2 wO (i2+1) (xD.2) (xD.1.bJ) (xD.1.rules) (xD.1.ends) (xD.1.aR) (xD.1.nodes) (xD.1.facts)))
def fR(aA:List aI)(k1:Int→List aI→List Int→List aN→List Node→List aD→Option aG):List aI→Nat→Int→List aI→List Int→List aN→List Node→List aD→Option aG
 | [],i1,mL,iU,dL,BX,BY,BZ=>(k1 (mL) (iU) (dL) (BX) (BY) (BZ))
 |aS::aX,i1,mL,iU,dL,BX,BY,BZ=>((oR (aS)).bind fun NM=>(bif decide ((NM).length≤maxLen)then(fQ aA i1 NM (fun(GX:Int) (vM:Int) (N8:List aI) (AK:List Int) (N9:List aN) (NA:List Node) (NB:List aD)=>(bif room (((AK).map iL).length+([[D.int .i64 (GX)]]).length) 8 then(fR aA k1 aX (i1+1) (vM) (N8) ((AK)++([GX])) (N9) (NA) (NB))else none)) (NM) 0 (0) (mL) (iU) (dL) (BX) (BY) (BZ))else none))
def qL(aA:List aI):Option aG:=((qG (aA)).bind fun y1=>(fR aA (fun(AQ:Int) (vZ:List aI) (lF:List Int) (UK:List aN) (UL:List Node) (UM:List aD)=>(some ((⟨vZ,lF,UK,UL,UM,AQ⟩:aG)))) (aA) 0 (0) (y1) (([]:List Int)) (([]:List aN)) ([(⟨-1,(⟨0,(⟨[],[]⟩:aD),[],[]⟩:aF), -1,[]⟩:Node)]) (([]:List aD))))
def uI(aA:List aI)(mL:Int)(W1:List (List D))(W2:List (List D))(W3:List (List D))(W4:List (List D))(W5:List (List D))(bB:Int):St:=⟨[(2,D.ptr 0 0),(3,D.ptr 1 0),(14,D.sl ((aA).map aI.c)),(15,D.int .i64 ((((aA).map aI.c).length:Int))),(16,D.int .i64 (bB))],[Ob.box [D.nil,D.nil,D.nil,D.nil,D.nil,D.int .i64 (0)],Ob.box [D.acc 2,D.acc 3,D.acc 4,D.acc 5,D.acc 6,D.int .i64 (mL)],Ob.row .uq 105 4 (W1),Ob.row .uq 3 1 (W2),Ob.row .uq 111 3 (W3),Ob.row .uq 118 8 (W4),Ob.row .uq 53 2 (W5)]⟩
def KI(aA:List aI)(i1:Nat)(NM:List aF)(yT:Int)(mK:Int)(W2:List (List D))(W3:List (List D))(W4:List (List D))(W5:List (List D))(W6:List (List D))(bB:Int):St:=⟨[(2,D.ptr 0 0),(3,D.ptr 1 0),(6,D.int .i64 (yT)),(14,D.sl ((aA).map aI.c)),(15,D.int .i64 ((((aA).map aI.c).length:Int))),(16,D.int .i64 ((i1:Int))),(21,D.acc 2),(22,D.int .i64 ((((NM).map aF.c).length:Int))),(23,D.int .i64 (bB))],[Ob.box [D.nil,D.nil,D.nil,D.nil,D.nil,D.int .i64 (0)],Ob.box [D.acc 3,D.acc 4,D.acc 5,D.acc 6,D.acc 7,D.int .i64 (mK)],Ob.row .uq 115 5 ((NM).map aF.c),Ob.row .uq 105 4 (W2),Ob.row .uq 3 1 (W3),Ob.row .uq 111 3 (W4),Ob.row .uq 118 8 (W5),Ob.row .uq 53 2 (W6)]⟩
theorem HQ(hΓ:Γ.nt=39){aA:List aI}{i1:Nat}{NM:List aF}{r:aG}{k2:Int→Int→List aI→List Int→List aN→List Node→List aD→Option aG}(IK:∀(GX:Int) (vM:Int) (N8:List aI) (AK:List Int) (N9:List aN) (NA:List Node) (NB:List aD),k2 GX vM N8 AK N9 NA NB=some r→Ax Γ N Tryz.f134 (.q [[some (105,4),some (3,1),some (111,3),some (118,8),some (53,2),none]] (D.agg [D.fr 105 4 ((r.rules).map aI.c),D.fr 3 1 ((r.ends).map iL),D.fr 111 3 ((r.aR).map aN.c),D.fr 118 8 ((r.nodes).map Node.c),D.fr 53 2 ((r.facts).map aD.c),D.int .i64 (r.bJ)])) [1,1,0,1,0,0,1,1,0,0,1,1,1] ⟨[(2,D.ptr 0 0),(3,D.ptr 1 0),(6,D.int .i64 (GX)),(14,D.sl ((aA).map aI.c)),(15,D.int .i64 ((((aA).map aI.c).length:Int))),(16,D.int .i64 ((i1:Int)))],[Ob.box [D.nil,D.nil,D.nil,D.nil,D.nil,D.int .i64 (0)],Ob.box [D.acc 2,D.acc 3,D.acc 4,D.acc 5,D.acc 6,D.int .i64 (vM)],Ob.row .uq 105 4 ((N8).map aI.c),Ob.row .uq 3 1 ((AK).map iL),Ob.row .uq 111 3 ((N9).map aN.c),Ob.row .uq 118 8 ((NA).map Node.c),Ob.row .uq 53 2 ((NB).map aD.c)]⟩)(hm2:(NM).length≤maxLen):∀(rest:List aF) (i2:Nat) (yT:Int) (mK:Int) (BT:List aI) (mO:List Int) (BU:List aN) (BV:List Node) (BW:List aD),(NM).drop i2=rest→fQ aA i1 NM k2 rest i2 yT mK BT mO BU BV BW=some r→Ar Γ N Tryz.f134 (.q [[some (105,4),some (3,1),some (111,3),some (118,8),some (53,2),none]] (D.agg [D.fr 105 4 ((r.rules).map aI.c),D.fr 3 1 ((r.ends).map iL),D.fr 111 3 ((r.aR).map aN.c),D.fr 118 8 ((r.nodes).map Node.c),D.fr 53 2 ((r.facts).map aD.c),D.int .i64 (r.bJ)])) [1,1,0,1,0,0,1,1,0,0,1,1,0,1,0] (rest.length+1) (KI aA i1 NM yT mK ((BT).map aI.c) ((mO).map iL) ((BU).map aN.c) ((BV).map Node.c) ((BW).map aD.c) ((i2:Int))):=by
 intro rest
 induction rest with
 |nil=>
  intro i2 yT mK BT mO BU BV BW hd2 h
  rw[fQ]at h
  refine aJ fun N2 yR wG=>?_
  exact((aK.ge aF.c hd2).a [.hl 5 [2,3,6,14,15,16] [0,1,3,4,5,6,7]]).ex hΓ yR (IK (yT) (mK) (BT) (mO) (BU) (BV) (BW) h)
 |cons o8 wO ih2=>
  intro i2 yT mK BT mO BU BV BW hd2 h
  rw[fQ]at h
  refine aJ fun N2 yR wG=>?_
  obtain⟨xD,h209,h⟩:=aB h
  exact((((((aK.lt aF.c hd2).i (nY aF.c 5 (dc hd2))).o 5 5 .uq (cA aF.c (dc hd2))).a [.gp [[some (105,4),some (3,1),some (111,3),some (118,8),some (53,2),none],[none],[none,none,none,none,none]] (b8 xD.1) (D.int .i64 (xD.2))]).w (show AD Tryz.prog 201 (b8 ((⟨BT,mO,BU,BV,BW,mK⟩:aG))) (b8 xD.1) [D.int .i64 (yT),D.agg (aF.c (o8))] (D.int .i64 (xD.2))from by simpa only[List.map_append,List.map_cons,List.map_nil,List.map_drop,List.map_take]using yU h209)).a [.cn [2,3,6,14,15,16,21,22,23] [0,1,2,9,10,11,12,13]]).ct hΓ wG (iS hd2 hm2) (ih2 (i2+1) (xD.2) (xD.1.bJ) (xD.1.rules) (xD.1.ends) (xD.1.aR) (xD.1.nodes) (xD.1.facts) (dn hd2) h)
theorem HR(hΓ:Γ.nt=39){aA:List aI}{r:aG}{k1:Int→List aI→List Int→List aN→List Node→List aD→Option aG}(bE:∀(AQ:Int) (vZ:List aI) (lF:List Int) (UK:List aN) (UL:List Node) (UM:List aD),k1 AQ vZ lF UK UL UM=some r→Ax Γ N Tryz.f134 (.q [[some (105,4),some (3,1),some (111,3),some (118,8),some (53,2),none]] (D.agg [D.fr 105 4 ((r.rules).map aI.c),D.fr 3 1 ((r.ends).map iL),D.fr 111 3 ((r.aR).map aN.c),D.fr 118 8 ((r.nodes).map Node.c),D.fr 53 2 ((r.facts).map aD.c),D.int .i64 (r.bJ)])) [1,1,1] ⟨[(2,D.ptr 0 0),(3,D.ptr 1 0)],[Ob.box [D.nil,D.nil,D.nil,D.nil,D.nil,D.int .i64 (0)],Ob.box [D.acc 2,D.acc 3,D.acc 4,D.acc 5,D.acc 6,D.int .i64 (AQ)],Ob.row .uq 105 4 ((vZ).map aI.c),Ob.row .uq 3 1 ((lF).map iL),Ob.row .uq 111 3 ((UK).map aN.c),Ob.row .uq 118 8 ((UL).map Node.c),Ob.row .uq 53 2 ((UM).map aD.c)]⟩)(hm1:(aA).length≤maxLen):∀(rest:List aI) (i1:Nat) (mL:Int) (iU:List aI) (dL:List Int) (BX:List aN) (BY:List Node) (BZ:List aD),(aA).drop i1=rest→fR aA k1 rest i1 mL iU dL BX BY BZ=some r→Ar Γ N Tryz.f134 (.q [[some (105,4),some (3,1),some (111,3),some (118,8),some (53,2),none]] (D.agg [D.fr 105 4 ((r.rules).map aI.c),D.fr 3 1 ((r.ends).map iL),D.fr 111 3 ((r.aR).map aN.c),D.fr 118 8 ((r.nodes).map Node.c),D.fr 53 2 ((r.facts).map aD.c),D.int .i64 (r.bJ)])) [1,1,0,1,0] (rest.length+1) (uI aA mL ((iU).map aI.c) ((dL).map iL) ((BX).map aN.c) ((BY).map Node.c) ((BZ).map aD.c) ((i1:Int))):=by
 intro rest
 induction rest with
 |nil=>
  intro i1 mL iU dL BX BY BZ aO h
  rw[fR]at h
  refine aJ fun N1 aY aV=>?_
  exact((aK.ge aI.c aO).a [.hl 0 [2,3] [0,1,2,3,4,5,6]]).ex hΓ aY (bE (mL) (iU) (dL) (BX) (BY) (BZ) h)
 |cons aS aX ih1=>
  intro i1 mL iU dL BX BY BZ aO h
  rw[fR]at h
  refine aJ fun N1 aY aV=>?_
  obtain⟨NM,h180,h⟩:=aB h
  obtain⟨h211,h⟩:=aU h
  refine((((aK.lt aI.c aO).l (aQ aI.c 4 (dc aO) rfl)).g (E1 h180)).a [.cn [2,3,6,14,15,16,21,22,23] [0,1,8,2,3,4,5,6]]).lp hΓ (HQ hΓ (fun GX vM N8 AK N9 NA NB h=>?_) (of_decide_eq_true h211) (NM) 0 (0) (mL) (iU) (dL) (BX) (BY) (BZ) rfl h)
  obtain⟨h210,h⟩:=aU h
  exact((aK.w (aZ h210)).a [.cn [2,3,14,15,16] [0,1,2,8,4,5,6]]).cs hΓ aV (uI aA vM ((N8).map aI.c) (((AK).map iL)++([[D.int .i64 (GX)]])) ((N9).map aN.c) ((NA).map Node.c) ((NB).map aD.c) (IntKind.i64.wrap (((i1:Int))+(1)))) (by first| (simp only[iS aO hm1,mA]<;>rfl)| (simp only[iS aO hm1,mA,aD.c,aH.c,aF.c,Action.c,aI.c,aL.c,bH.c,aN.c,Node.c,aG.c,bI.c]<;>rfl)) (ih1 (i1+1) (vM) (N8) ((AK)++([GX])) (N9) (NA) (NB) (dn aO) h)
theorem F8{aA:List aI}{r:aG}(h:qL aA=some r):Good Tryz.prog 134 [D.sl ((aA).map aI.c)] (D.agg [D.fr 105 4 ((r.rules).map aI.c),D.fr 3 1 ((r.ends).map iL),D.fr 111 3 ((r.aR).map aN.c),D.fr 118 8 ((r.nodes).map Node.c),D.fr 53 2 ((r.facts).map aD.c),D.int .i64 (r.bJ)]):=by
 refine gd Tryz.func134 [[some (105,4),some (3,1),some (111,3),some (118,8),some (53,2),none]] 39 fun hr Γ hΓ=>?_
 rw[qL]at h
 obtain⟨y1,h2,h⟩:=aB h
 refine((aK.g (F1 h2)).a [.pb 3 1 3 1,.pb 3 2 111 3,.pb 3 4 53 2,.cn [2,3,14,15,16] [0,3,1,4,5,2,6]]).lps hΓ (uI aA 0 ((y1).map aI.c) (([]:List (List D))) (([]:List (List D))) ([[D.int .i64 (-1),D.int .i64 (0),D.str ([]),D.sl ([]),D.str ([]),D.str ([]),D.int .i64 (-1),D.sl ([])]]) (([]:List (List D))) 0) (by first| (simp only[mA]<;>rfl)| (simp only[mA,aD.c,aH.c,aF.c,Action.c,aI.c,aL.c,bH.c,aN.c,Node.c,aG.c,bI.c]<;>rfl)) (HR hΓ (fun AQ vZ lF UK UL UM h=>?_) (by have:=(bR.sl (hr _ (List.mem_of_getElem? (i:=0) rfl))).1;simpa using this) (aA) 0 (0) (y1) (([]:List Int)) (([]:List aN)) ([(⟨-1,(⟨0,(⟨[],[]⟩:aD),[],[]⟩:aF), -1,[]⟩:Node)]) (([]:List aD)) rfl h)
 cases h;exact aK.ret hΓ
def dP(aA:List aH)(k1:Option Bool):List aH→Nat→Option Bool
 | [],i1=>(k1)
 |aS::aX,i1=>((iW (aS.var)).bind fun y50=>(bif !(y50)then(some (false))else((cF (aS.value)).bind fun y53=>(bif !(y53)then(some (false))else(bif decide (((i1:Int):Int)>(0))then((oI (aA) (IntKind.i64.wrap (((i1:Int))-(1)))).bind fun x57=>(bif !(Op.bytesLess (x57.var) (aS.var))then(some (false))else(dP aA k1 aX (i1+1))))else(dP aA k1 aX (i1+1)))))))
def iE(aA:List aH):Option Bool:=(bif decide (((((aA).map aH.c).length:Int):Int)>(6))then(some (false))else(dP aA (some (true)) (aA) 0))
def KJ(aA:List aH)(bB:Int):St:=⟨[(0,D.sl ((aA).map aH.c)),(8,D.sl ((aA).map aH.c)),(9,D.int .i64 ((((aA).map aH.c).length:Int))),(10,D.int .i64 (bB))],[]⟩
theorem HS(hΓ:Γ.nt=41){aA:List aH}{r:Bool}{k1:Option Bool}(bE:k1=some r→Ax Γ N Tryz.f193 (.q [[none]] (D.bool (r))) [1,1,1] ⟨[],[]⟩)(hm1:(aA).length≤maxLen):∀(rest:List aH) (i1:Nat),(aA).drop i1=rest→dP aA k1 rest i1=some r→Ar Γ N Tryz.f193 (.q [[none]] (D.bool (r))) [1,1,0,1,0] (rest.length+1) (KJ aA ((i1:Int))):=by
 intro rest
 induction rest with
 |nil=>
  intro i1 aO h
  rw[dP]at h
  refine aJ fun N1 aY aV=>?_
  exact((aK.ge aH.c aO).a [.hl 0 [] []]).ex hΓ aY (bE h)
 |cons aS aX ih1=>
  intro i1 aO h
  rw[dP]at h
  refine aJ fun N1 aY aV=>?_
  obtain⟨y50,h51,h⟩:=aB h
  have uV:=((((aK.lt aH.c aO).l (aQ aH.c 2 (dc aO) rfl)).a [.n 22]).g (lY h51))
  obtain⟨h52,h⟩|⟨h52,h⟩:=aE h
  ·have h:=aC h;subst h;exact((((uV.r 5 h52).T 3).a [bF,bF,bF,bF,bF,bF,bF,bF,bF]).T 3).ret hΓ
  ·obtain⟨y53,h54,h⟩:=aB h
   have xU:=(((uV.r 3 h52).g (bU h54)).r 2 h52)
   obtain⟨h55,h⟩|⟨h55,h⟩:=aE h
   ·have h:=aC h;subst h;exact((((xU.r 3 h55).a [bF,bF,bF,bF,bF,bF,bF,bF,bF]).r 2 h55).T 1).ret hΓ
   ·have BQ:=(xU.r 3 h55)
    obtain⟨h56,h⟩|⟨h56,h⟩:=aE h
    ·obtain⟨x57,h58,h⟩:=aB h
     have L9:=((((((BQ.r 4 h56).l (bP aH.c 2 h58 rfl)).r 5 h56).b h55).b h56).b h55)
     obtain⟨h59,h⟩|⟨h59,h⟩:=aE h
     ·have h:=aC h;subst h;exact(L9.b h59).ret hΓ
     ·exact((L9.b h59).a [.cn [0,8,9,10] []]).ct hΓ aV (iS aO hm1) (ih1 (i1+1) (dn aO) h)
    ·exact((((((BQ.r 9 h56).b h55).b h56).b h55).F 1).a [.cn [0,8,9,10] []]).ct hΓ aV (iS aO hm1) (ih1 (i1+1) (dn aO) h)
theorem jX{aA:List aH}{r:Bool}(h:iE aA=some r):Good Tryz.prog 193 [D.sl ((aA).map aH.c)] (D.bool (r)):=by
 refine gd Tryz.func193 [[none]] 41 fun hr Γ hΓ=>?_
 rw[iE]at h
 obtain⟨h1,h⟩|⟨h1,h⟩:=aE h
 ·have h:=aC h;subst h;exact(aK.b h1).ret hΓ
 ·refine((aK.b h1).a [.cn [0,8,9,10] []]).lp hΓ (HS hΓ (fun h=>?_) (by have:=(bR.sl (hr _ (List.mem_of_getElem? (i:=0) rfl))).1;simpa using this) (aA) 0 rfl h)
  have h:=aC h;subst h;exact aK.ret hΓ
def j3(aA:List aH)(aM:Bytes)(k1:Option (Bytes×Bool)):List aH→Nat→Option (Bytes×Bool)
 | [],i1=>(k1)
 |aS::aX,i1=>(bif (aS.var:Bytes)==(aM)then(some ((aS.value,true)))else(j3 aA aM k1 aX (i1+1)))
def nW(aA:List aH)(aM:Bytes):Option (Bytes×Bool):=((cF (aM)).bind fun y1=>(bif y1 then(some ((aM,true)))else((iW (aM)).bind fun y4=>(bif !(y4)then(some (([],false)))else(j3 aA aM (some (([],false))) (aA) 0)))))
def Q4(aA:List aH)(aM:Bytes)(bB:Int):St:=⟨[(1,D.str (aM)),(14,D.sl ((aA).map aH.c)),(15,D.int .i64 ((((aA).map aH.c).length:Int))),(16,D.int .i64 (bB))],[]⟩
theorem NN(hΓ:Γ.nt=27){aA:List aH}{aM:Bytes}{r:Bytes×Bool}{k1:Option (Bytes×Bool)}(bE:k1=some r→Ax Γ N Tryz.f126 (.q [[none],[none]] (D.iJ [D.str (r.1),D.bool (r.2)])) [1,1,1,1] ⟨[],[]⟩)(hm1:(aA).length≤maxLen):∀(rest:List aH) (i1:Nat),(aA).drop i1=rest→j3 aA aM k1 rest i1=some r→Ar Γ N Tryz.f126 (.q [[none],[none]] (D.iJ [D.str (r.1),D.bool (r.2)])) [1,1,1,0,1,0] (rest.length+1) (Q4 aA aM ((i1:Int))):=by
 intro rest
 induction rest with
 |nil=>
  intro i1 aO h
  rw[j3]at h
  refine aJ fun N1 aY aV=>?_
  exact((aK.ge aH.c aO).a [.hl 0 [] []]).ex hΓ aY (bE h)
 |cons aS aX ih1=>
  intro i1 aO h
  rw[j3]at h
  refine aJ fun N1 aY aV=>?_
  have bO:=((aK.lt aH.c aO).l (aQ aH.c 2 (dc aO) rfl))
  obtain⟨h19,h⟩|⟨h19,h⟩:=aE h
  ·cases h;exact(bO.b h19).ret hΓ
  ·exact((bO.b h19).a [.cn [1,14,15,16] []]).ct hΓ aV (iS aO hm1) (ih1 (i1+1) (dn aO) h)
theorem uJ{aA:List aH}{aM:Bytes}{r:Bytes×Bool}(h:nW aA aM=some r):Good Tryz.prog 126 [D.sl ((aA).map aH.c),D.str (aM)] (D.iJ [D.str (r.1),D.bool (r.2)]):=by
 refine gd Tryz.func126 [[none],[none]] 27 fun hr Γ hΓ=>?_
 rw[nW]at h
 obtain⟨y1,h2,h⟩:=aB h
 obtain⟨h3,h⟩|⟨h3,h⟩:=aE h
 ·cases h;exact((aK.g (bU h2)).b h3).ret hΓ
 ·obtain⟨y4,h5,h⟩:=aB h
  have mG:=(((aK.g (bU h2)).b h3).g (lY h5))
  obtain⟨h6,h⟩|⟨h6,h⟩:=aE h
  ·cases h;exact(mG.b h6).ret hΓ
  ·refine((mG.b h6).a [.cn [1,14,15,16] []]).lp hΓ (NN hΓ (fun h=>?_) (by have:=(bR.sl (hr _ (List.mem_of_getElem? (i:=0) rfl))).1;simpa using this) (aA) 0 rfl h)
   cases h;exact aK.ret hΓ
end Go.Cx
namespace Go.Cx
open Go.RowKit Go.Proofs
set_option linter.unusedVariables false
set_option linter.unusedSimpArgs false
set_option maxRecDepth 100000
variable{Γ:uK}{N:Nat→St→Prop}
def iF(aA:List aH)(aM:Bytes)(bA:Bytes)(k1:Bool→List aH→Option ((List aH)×Bool)):List aH→Nat→Bool→List aH→Option ((List aH)×Bool)
 | [],i1,yF,aP=>(k1 (yF) (aP))
 |aS::aX,i1,yF,aP=>(bif !(yF)then(bif !(Op.bytesLess (aS.var) (aM)||(aS.var:Bytes)==(aM))then(bif room (((aP).map aH.c).length+([[D.str (aM),D.str (bA)]]).length) 32 then(bif room ((((aP).map aH.c)++([[D.str (aM),D.str (bA)]])).length+([[D.str (aS.var),D.str (aS.value)]]).length) 32 then(iF aA aM bA k1 aX (i1+1) (true) (((aP)++([(⟨aM,bA⟩:aH)]))++([aS])))else none)else none)else(bif room (((aP).map aH.c).length+([[D.str (aS.var),D.str (aS.value)]]).length) 32 then(iF aA aM bA k1 aX (i1+1) (yF) ((aP)++([aS])))else none))else(bif room (((aP).map aH.c).length+([[D.str (aS.var),D.str (aS.value)]]).length) 32 then(iF aA aM bA k1 aX (i1+1) (yF) ((aP)++([aS])))else none))
def sM(aA:List aH)(aM:Bytes)(bA:Bytes):Option ((List aH)×Bool):=((iE (aA)).bind fun y1=>(bif !(y1)then(some (([],false)))else((iW (aM)).bind fun y4=>(bif !(y4)then(some (([],false)))else((cF (bA)).bind fun y7=>(bif !(y7)then(some (([],false)))else((nW (aA) (aM)).bind fun QZ=>(bif QZ.2 then(bif !((QZ.1:Bytes)==(bA))then(some (([],false)))else((nH (aA)).bind fun y14=>(some ((y14,true)))))else(bif decide (((((aA).map aH.c).length:Int):Int)≥(6))then(some (([],false)))else(iF aA aM bA (fun(a0d:Bool) (aT:List aH)=>(bif !(a0d)then(bif room (((aT).map aH.c).length+([[D.str (aM),D.str (bA)]]).length) 32 then(some (((aT)++([(⟨aM,bA⟩:aH)]),true)))else none)else(some ((aT,true))))) (aA) 0 (false) (([]:List aH))))))))))))
def u9(aA:List aH)(aM:Bytes)(bA:Bytes)(yF:Bool)(W1:List (List D))(bB:Int):St:=⟨[(1,D.str (aM)),(2,D.str (bA)),(10,D.acc 0),(11,D.bool (yF)),(42,D.sl ((aA).map aH.c)),(43,D.int .i64 ((((aA).map aH.c).length:Int))),(44,D.int .i64 (bB))],[Ob.row .uq 152 2 (W1)]⟩
theorem Q5(hΓ:Γ.nt=76){aA:List aH}{aM:Bytes}{bA:Bytes}{r:(List aH)×Bool}{k1:Bool→List aH→Option ((List aH)×Bool)}(bE:∀(a0d:Bool) (aT:List aH),k1 a0d aT=some r→Ax Γ N Tryz.f127 (.q [[some (152,2)],[none]] (D.iJ [D.fr 152 2 ((r.1).map aH.c),D.bool (r.2)])) [1,1,1,1,1,1,1] ⟨[(1,D.str (aM)),(2,D.str (bA)),(10,D.acc 0),(11,D.bool (a0d))],[Ob.row .uq 152 2 ((aT).map aH.c)]⟩)(hm1:(aA).length≤maxLen):∀(rest:List aH) (i1:Nat) (yF:Bool) (aP:List aH),(aA).drop i1=rest→iF aA aM bA k1 rest i1 yF aP=some r→Ar Γ N Tryz.f127 (.q [[some (152,2)],[none]] (D.iJ [D.fr 152 2 ((r.1).map aH.c),D.bool (r.2)])) [1,1,1,1,1,1,0,1,0] (rest.length+1) (u9 aA aM bA yF ((aP).map aH.c) ((i1:Int))):=by
 intro rest
 induction rest with
 |nil=>
  intro i1 yF aP aO h
  rw[iF]at h
  refine aJ fun N1 aY aV=>?_
  exact((aK.ge aH.c aO).a [.hl 0 [1,2,10,11] [0]]).ex hΓ aY (bE (yF) (aP) h)
 |cons aS aX ih1=>
  intro i1 yF aP aO h
  rw[iF]at h
  refine aJ fun N1 aY aV=>?_
  have mG:=((aK.lt aH.c aO).l (aQ aH.c 2 (dc aO) rfl))
  obtain⟨h58,h⟩|⟨h58,h⟩:=aE h
  ·have l8:=(mG.r 5 h58)
   obtain⟨h59,h⟩|⟨h59,h⟩:=aE h
   ·obtain⟨h60,h⟩:=aU h
    obtain⟨h61,h⟩:=aU h
    exact((((l8.b h59).w (aZ h60)).w (aZ h61)).a [.cn [1,2,10,11,42,43,44] [5]]).cs hΓ aV (u9 aA aM bA true ((((aP).map aH.c)++([[D.str (aM),D.str (bA)]]))++([[D.str (aS.var),D.str (aS.value)]])) (IntKind.i64.wrap (((i1:Int))+(1)))) (by first| (simp only[iS aO hm1,mA]<;>rfl)| (simp only[iS aO hm1,mA,aD.c,aH.c,aF.c,Action.c,aI.c,aL.c,bH.c,aN.c,Node.c,aG.c,bI.c]<;>rfl)) (ih1 (i1+1) (true) (((aP)++([(⟨aM,bA⟩:aH)]))++([aS])) (dn aO) h)
   ·obtain⟨h62,h⟩:=aU h
    exact(((l8.b h59).w (aZ h62)).a [.cn [1,2,10,11,42,43,44] [3]]).cs hΓ aV (u9 aA aM bA yF (((aP).map aH.c)++([[D.str (aS.var),D.str (aS.value)]])) (IntKind.i64.wrap (((i1:Int))+(1)))) (by first| (simp only[iS aO hm1,mA]<;>rfl)| (simp only[iS aO hm1,mA,aD.c,aH.c,aF.c,Action.c,aI.c,aL.c,bH.c,aN.c,Node.c,aG.c,bI.c]<;>rfl)) (ih1 (i1+1) (yF) ((aP)++([aS])) (dn aO) h)
  ·obtain⟨h63,h⟩:=aU h
   exact((((mG.r 5 h58).F 1).w (aZ h63)).a [.cn [1,2,10,11,42,43,44] [3]]).cs hΓ aV (u9 aA aM bA yF (((aP).map aH.c)++([[D.str (aS.var),D.str (aS.value)]])) (IntKind.i64.wrap (((i1:Int))+(1)))) (by first| (simp only[iS aO hm1,mA]<;>rfl)| (simp only[iS aO hm1,mA,aD.c,aH.c,aF.c,Action.c,aI.c,aL.c,bH.c,aN.c,Node.c,aG.c,bI.c]<;>rfl)) (ih1 (i1+1) (yF) ((aP)++([aS])) (dn aO) h)
theorem NO{aA:List aH}{aM:Bytes}{bA:Bytes}{r:(List aH)×Bool}(h:sM aA aM bA=some r):Good Tryz.prog 127 [D.sl ((aA).map aH.c),D.str (aM),D.str (bA)] (D.iJ [D.fr 152 2 ((r.1).map aH.c),D.bool (r.2)]):=by
 refine gd Tryz.func127 [[some (152,2)],[none]] 76 fun hr Γ hΓ=>?_
 rw[sM]at h
 obtain⟨y1,h2,h⟩:=aB h
 obtain⟨h3,h⟩|⟨h3,h⟩:=aE h
 ·cases h;exact(((aK.g (jX h2)).r 4 h3).T 5).ret hΓ
 ·obtain⟨y4,h5,h⟩:=aB h
  have uV:=((((aK.g (jX h2)).r 2 h3).g (lY h5)).r 2 h3)
  obtain⟨h6,h⟩|⟨h6,h⟩:=aE h
  ·cases h;exact((uV.r 4 h6).T 1).ret hΓ
  ·obtain⟨y7,h8,h⟩:=aB h
   have xU:=(((uV.r 2 h6).g (bU h8)).r 2 h6)
   obtain⟨h9,h⟩|⟨h9,h⟩:=aE h
   ·cases h;exact(xU.b h9).ret hΓ
   ·obtain⟨QZ,h11,h⟩:=aB h
    have BQ:=((xU.b h9).g (uJ h11))
    obtain⟨h12,h⟩|⟨h12,h⟩:=aE h
    ·obtain⟨h13,h⟩|⟨h13,h⟩:=aE h
     ·cases h;exact((BQ.b h12).b h13).ret hΓ
     ·obtain⟨y14,h15,h⟩:=aB h
      cases h;exact(((BQ.b h12).b h13).g (wX h15)).ret hΓ
    ·obtain⟨h16,h⟩|⟨h16,h⟩:=aE h
     ·cases h;exact((BQ.b h12).b h16).ret hΓ
     ·refine(((BQ.b h12).b h16).a [.VP 10,.cn [1,2,10,11,42,43,44] [0]]).lp hΓ (Q5 hΓ (fun a0d aT h=>?_) (by have:=(bR.sl (hr _ (List.mem_of_getElem? (i:=0) rfl))).1;simpa using this) (aA) 0 (false) (([]:List aH)) rfl h)
      obtain⟨h64,h⟩|⟨h64,h⟩:=aE h
      ·obtain⟨h65,h⟩:=aU h
       cases h;exact((aK.b h64).w (aZ h65)).rts hΓ (D.iJ [D.fr 152 2 (((aT).map aH.c)++([[D.str (aM),D.str (bA)]])),D.bool (true)]) (by first|rfl| (simp only[mA]<;>rfl)| (simp only[b8,mA]<;>rfl))
      ·cases h;exact(aK.b h64).ret hΓ
def fS(aA:aD)(aM:aD)(k1:List aH→Option ((List aH)×Bool)):List Bytes→Nat→List aH→Option ((List aH)×Bool)
 | [],i1,aW=>(k1 (aW))
 |aS::aX,i1,aW=>((cF (aS)).bind fun y80=>(bif y80 then((oI (aM.args) ((i1:Int))).bind fun x83=>(bif !((aS:Bytes)==(x83))then(some (([],false)))else(fS aA aM k1 aX (i1+1) (aW))))else((oI (aM.args) ((i1:Int))).bind fun x86=>((sM (aW) (aS) (x86)).bind fun y88=>(bif !(y88.2)then(some (([],false)))else(fS aA aM k1 aX (i1+1) (y88.1)))))))
def iG(aA:aD)(aM:aD)(bA:List aH):Option ((List aH)×Bool):=((eZ (aA)).bind fun y1=>(bif !(y1)then(some (([],false)))else((pE (aM)).bind fun y4=>(bif !(y4)then(some (([],false)))else((iE (bA)).bind fun y7=>(bif !(y7)then(some (([],false)))else(bif !((aA.rel:Bytes)==(aM.rel))then(some (([],false)))else(bif ((((aA.args).map tx).length:Int):Int) != ((((aM.args).map tx).length:Int))then(some (([],false)))else((nH (bA)).bind fun y12=>(fS aA aM (fun(aT:List aH)=>(some ((aT,true)))) (aA.args) 0 (y12)))))))))))
def KK(aA:aD)(aM:aD)(W0:List (List D))(bB:Int):St:=⟨[(4,D.ptr 0 0),(8,D.acc 1),(45,D.sl ((aA.args).map tx)),(46,D.int .i64 ((((aA.args).map tx).length:Int))),(47,D.int .i64 (bB))],[Ob.box (aD.c aM),Ob.row .uq 152 2 (W0)]⟩
theorem HT(hΓ:Γ.nt=77){aA:aD}{aM:aD}{r:(List aH)×Bool}{k1:List aH→Option ((List aH)×Bool)}(bE:∀(aT:List aH),k1 aT=some r→Ax Γ N Tryz.f239 (.q [[some (152,2)],[none]] (D.iJ [D.fr 152 2 ((r.1).map aH.c),D.bool (r.2)])) [1,1,1,1] ⟨[(8,D.acc 0)],[Ob.row .uq 152 2 ((aT).map aH.c)]⟩)(hm1:(aA.args).length≤maxLen):∀(rest:List Bytes) (i1:Nat) (aW:List aH),(aA.args).drop i1=rest→fS aA aM k1 rest i1 aW=some r→Ar Γ N Tryz.f239 (.q [[some (152,2)],[none]] (D.iJ [D.fr 152 2 ((r.1).map aH.c),D.bool (r.2)])) [1,1,1,0,1,0] (rest.length+1) (KK aA aM ((aW).map aH.c) ((i1:Int))):=by
 intro rest
 induction rest with
 |nil=>
  intro i1 aW aO h
  rw[fS]at h
  refine aJ fun N1 aY aV=>?_
  exact((aK.ge tx aO).a [.hl 0 [8] [1]]).ex hΓ aY (bE (aW) h)
 |cons aS aX ih1=>
  intro i1 aW aO h
  rw[fS]at h
  refine aJ fun N1 aY aV=>?_
  obtain⟨y80,h81,h⟩:=aB h
  have l8:=(((aK.lt tx aO).l (aQ tx 1 (dc aO) rfl)).g (bU h81))
  obtain⟨h82,h⟩|⟨h82,h⟩:=aE h
  ·obtain⟨x83,h84,h⟩:=aB h
   have uV:=((l8.b h82).l (bP tx 1 h84 rfl))
   obtain⟨h85,h⟩|⟨h85,h⟩:=aE h
   ·cases h;exact(uV.b h85).ret hΓ
   ·exact((uV.b h85).a [.cn [4,8,45,46,47] [0,1]]).ct hΓ aV (iS aO hm1) (ih1 (i1+1) (aW) (dn aO) h)
  ·obtain⟨x86,h87,h⟩:=aB h
   obtain⟨y88,h89,h⟩:=aB h
   have xU:=(((l8.b h82).l (bP tx 1 h87 rfl)).g (NO h89))
   obtain⟨h90,h⟩|⟨h90,h⟩:=aE h
   ·cases h;exact(xU.b h90).ret hΓ
   ·exact((xU.b h90).a [.cn [4,8,45,46,47] [0,2]]).ct hΓ aV (iS aO hm1) (ih1 (i1+1) (y88.1) (dn aO) h)
theorem x7{aA:aD}{aM:aD}{bA:List aH}{r:(List aH)×Bool}(h:iG aA aM bA=some r):Good Tryz.prog 239 [D.agg (aD.c aA),D.agg (aD.c aM),D.sl ((bA).map aH.c)] (D.iJ [D.fr 152 2 ((r.1).map aH.c),D.bool (r.2)]):=by
 refine gd Tryz.func239 [[some (152,2)],[none]] 77 fun hr Γ hΓ=>?_
 rw[iG]at h
 obtain⟨y1,h2,h⟩:=aB h
 obtain⟨h3,h⟩|⟨h3,h⟩:=aE h
 ·cases h;exact(((aK.g (fZ h2)).r 4 h3).T 19).ret hΓ
 ·obtain⟨y4,h5,h⟩:=aB h
  have BQ:=((((aK.g (fZ h2)).r 2 h3).g (AV h5)).r 2 h3)
  obtain⟨h6,h⟩|⟨h6,h⟩:=aE h
  ·cases h;exact((BQ.r 4 h6).T 15).ret hΓ
  ·obtain⟨y7,h8,h⟩:=aB h
   have L9:=(((BQ.r 2 h6).g (jX h8)).r 2 h6)
   obtain⟨h9,h⟩|⟨h9,h⟩:=aE h
   ·cases h;exact((L9.r 6 h9).T 9).ret hΓ
   ·have S8:=(L9.r 6 h9)
    obtain⟨h10,h⟩|⟨h10,h⟩:=aE h
    ·cases h;exact((S8.r 8 h10).T 1).ret hΓ
    ·have CP:=(S8.r 8 h10)
     obtain⟨h11,h⟩|⟨h11,h⟩:=aE h
     ·cases h;exact(CP.b h11).ret hΓ
     ·obtain⟨y12,h13,h⟩:=aB h
      refine(((CP.b h11).g (wX h13)).a [.cn [4,8,45,46,47] [1,2]]).lp hΓ (HT hΓ (fun aT h=>?_) (by have:=(bR.sl (bR.agg (hr _ (List.mem_of_getElem? (i:=0) rfl)) (.sl ((aA.args).map tx)) (by simp))).1;simpa using this) (aA.args) 0 (y12) rfl h)
      cases h;exact aK.ret hΓ
def cS(aA:aD)(aM:List aH)(bA:List aD)(k1:List aD→Option (List aD)):List aD→Nat→List aD→Option (List aD)
 | [],i1,aW=>(k1 (aW))
 |aS::aX,i1,aW=>((iG (aA) (aS) (aM)).bind fun y42=>(bif y42.2 then((eS (aS)).bind fun L8=>(bif room (((aW).map aD.c).length+([[D.str (L8.rel),D.sl ((L8.args).map tx)]]).length) 40 then(cS aA aM bA k1 aX (i1+1) ((aW)++([L8])))else none))else(cS aA aM bA k1 aX (i1+1) (aW))))
def eM(aA:aD)(aM:List aH)(bA:List aD):Option (List aD):=(cS aA aM bA (fun(aT:List aD)=>(some (aT))) (bA) 0 (([]:List aD)))
def vX(aA:aD)(aM:List aH)(bA:List aD)(W0:List (List D))(bB:Int):St:=⟨[(1,D.sl ((aM).map aH.c)),(3,D.ptr 0 0),(7,D.acc 1),(12,D.sl ((bA).map aD.c)),(13,D.int .i64 ((((bA).map aD.c).length:Int))),(14,D.int .i64 (bB))],[Ob.box (aD.c aA),Ob.row .uq 53 2 (W0)]⟩
theorem C6(hΓ:Γ.nt=33){aA:aD}{aM:List aH}{bA:List aD}{r:List aD}{k1:List aD→Option (List aD)}(bE:∀(aT:List aD),k1 aT=some r→Ax Γ N Tryz.f202 (.q [[some (53,2)]] (D.fr 53 2 ((r).map aD.c))) [1,1,1] ⟨[(7,D.acc 0)],[Ob.row .uq 53 2 ((aT).map aD.c)]⟩)(hm1:(bA).length≤maxLen):∀(rest:List aD) (i1:Nat) (aW:List aD),(bA).drop i1=rest→cS aA aM bA k1 rest i1 aW=some r→Ar Γ N Tryz.f202 (.q [[some (53,2)]] (D.fr 53 2 ((r).map aD.c))) [1,1,0,1,0] (rest.length+1) (vX aA aM bA ((aW).map aD.c) ((i1:Int))):=by
 intro rest
 induction rest with
 |nil=>
  intro i1 aW aO h
  rw[cS]at h
  refine aJ fun N1 aY aV=>?_
  exact((aK.ge aD.c aO).a [.hl 0 [7] [1]]).ex hΓ aY (bE (aW) h)
 |cons aS aX ih1=>
  intro i1 aW aO h
  rw[cS]at h
  refine aJ fun N1 aY aV=>?_
  obtain⟨y42,h43,h⟩:=aB h
  have bO:=(((aK.lt aD.c aO).l (aQ aD.c 2 (dc aO) rfl)).g (x7 h43))
  obtain⟨h44,h⟩|⟨h44,h⟩:=aE h
  ·obtain⟨L8,h46,h⟩:=aB h
   obtain⟨h47,h⟩:=aU h
   exact((((bO.b h44).g (tV h46)).w (aZ h47)).a [.cn [1,3,7,12,13,14] [0,6]]).cs hΓ aV (vX aA aM bA (((aW).map aD.c)++([[D.str (L8.rel),D.sl ((L8.args).map tx)]])) (IntKind.i64.wrap (((i1:Int))+(1)))) (by first| (simp only[iS aO hm1,mA]<;>rfl)| (simp only[iS aO hm1,mA,aD.c,aH.c,aF.c,Action.c,aI.c,aL.c,bH.c,aN.c,Node.c,aG.c,bI.c]<;>rfl)) (ih1 (i1+1) ((aW)++([L8])) (dn aO) h)
  ·exact((bO.b h44).a [.cn [1,3,7,12,13,14] [0,1]]).ct hΓ aV (iS aO hm1) (ih1 (i1+1) (aW) (dn aO) h)
theorem jU{aA:aD}{aM:List aH}{bA:List aD}{r:List aD}(h:eM aA aM bA=some r):Good Tryz.prog 202 [D.agg (aD.c aA),D.sl ((aM).map aH.c),D.sl ((bA).map aD.c)] (D.fr 53 2 ((r).map aD.c)):=by
 refine gd Tryz.func202 [[some (53,2)]] 33 fun hr Γ hΓ=>?_
 rw[eM]at h
 refine(aK.a [.VP 7,.cn [1,3,7,12,13,14] [0,1]]).lp hΓ (C6 hΓ (fun aT h=>?_) (by have:=(bR.sl (hr _ (List.mem_of_getElem? (i:=2) rfl))).1;simpa using this) (bA) 0 (([]:List aD)) rfl h)
 have h:=aC h;subst h;exact aK.ret hΓ
def kZ(aA:aG)(k1:List Int→Option (List aF)):Nat→Int→List Int→Option (List aF)
 |0,_,_=>none
 |n1+1,b9,aW=>(bif room (((aW).map iL).length+([[D.int .i64 (b9)]]).length) 8 then((oI (aA.nodes) (b9)).bind fun x19=>(bif decide ((x19.parent:Int)<(1))then(k1 ((aW)++([b9])))else(bif decide ((x19.parent:Int)≥(b9))then(k1 ((aW)++([b9])))else(kZ aA k1 n1 (x19.parent) ((aW)++([b9]))))))else none)
def iH(aA:aG)(AP:List Int)(k2:List aF→Option (List aF)):Nat→Int→List aF→Option (List aF)
 |0,_,_=>none
 |n2+1,SV,UN=>(bif decide ((SV:Int)≥(0))then((oI (AP) (SV)).bind fun x72=>((oI (aA.nodes) (x72)).bind fun x74=>((eR (x74.cond)).bind fun y76=>(bif room (((UN).map aF.c).length+([[D.int .i64 (y76.kind),D.str (y76.pat.rel),D.sl ((y76.pat.args).map tx),D.str (y76.left),D.str (y76.right)]]).length) 80 then(iH aA AP k2 n2 (IntKind.i64.wrap ((SV)-(1))) ((UN)++([y76])))else none))))else(k2 (UN)))
def vA(aA:aG)(aM:Int):Option (List aF):=(bif decide ((aM:Int)<(1))then(some ([]))else(bif decide ((aM:Int)≥((((aA.nodes).map Node.c).length:Int)))then(some ([]))else(kZ aA (fun(AP:List Int)=>(iH aA AP (fun(SW:List aF)=>(some (SW))) fuel (IntKind.i64.wrap (((((AP).map iL).length:Int))-(1))) (([]:List aF)))) fuel (aM) (([]:List Int)))))
def CY(aA:aG)(b9:Int)(W1:List (List D)):St:=⟨[(1,D.int .i64 (b9)),(2,D.ptr 0 0),(5,D.acc 1)],[Ob.box (aG.c aA),Ob.row .uq 3 1 (W1)]⟩
theorem Q6(hΓ:Γ.nt=57){aA:aG}{r:List aF}{k1:List Int→Option (List aF)}(bE:∀(AP:List Int),k1 AP=some r→Ax Γ N Tryz.f204 (.q [[some (115,5)]] (D.fr 115 5 ((r).map aF.c))) [1,1,1,1] ⟨[(2,D.ptr 0 0),(5,D.acc 1)],[Ob.box (aG.c aA),Ob.row .uq 3 1 ((AP).map iL)]⟩):∀(n1:Nat) (b9:Int) (aW:List Int),kZ aA k1 n1 b9 aW=some r→Ar Γ N Tryz.f204 (.q [[some (115,5)]] (D.fr 115 5 ((r).map aF.c))) [1,1,1,0,0] n1 (CY aA b9 ((aW).map iL)):=by
 intro n
 induction n with
 |zero=>intro b9 aW h;simp[kZ]at h
 |succ n1 ih1=>
  intro b9 aW h
  rw[kZ]at h
  refine aJ fun N1 aY aV=>?_
  obtain⟨h18,h⟩:=aU h
  obtain⟨x19,h20,h⟩:=aB h
  have mG:=((aK.w (aZ h18)).l (bP Node.c 8 h20 rfl))
  obtain⟨h21,h⟩|⟨h21,h⟩:=aE h
  ·exact(((mG.r 4 h21).T 1).a [.hl 0 [2,5] [0,3]]).exs hΓ aY ⟨[(2,D.ptr 0 0),(5,D.acc 1)],[Ob.box (aG.c aA),Ob.row .uq 3 1 (((aW).map iL)++([[D.int .i64 (b9)]]))]⟩ (by first| (simp only[mA]<;>rfl)| (simp only[mA,aD.c,aH.c,aF.c,Action.c,aI.c,aL.c,bH.c,aN.c,Node.c,aG.c,bI.c]<;>rfl)) (bE ((aW)++([b9])) h)
  ·have l8:=(mG.r 4 h21)
   obtain⟨h22,h⟩|⟨h22,h⟩:=aE h
   ·exact((l8.b h22).a [.hl 0 [2,5] [0,3]]).exs hΓ aY ⟨[(2,D.ptr 0 0),(5,D.acc 1)],[Ob.box (aG.c aA),Ob.row .uq 3 1 (((aW).map iL)++([[D.int .i64 (b9)]]))]⟩ (by first| (simp only[mA]<;>rfl)| (simp only[mA,aD.c,aH.c,aF.c,Action.c,aI.c,aL.c,bH.c,aN.c,Node.c,aG.c,bI.c]<;>rfl)) (bE ((aW)++([b9])) h)
   ·exact((l8.b h22).a [.cn [1,2,5] [0,3]]).cs hΓ aV (CY aA (x19.parent) (((aW).map iL)++([[D.int .i64 (b9)]]))) (by first| (simp only[mA]<;>rfl)| (simp only[mA,aD.c,aH.c,aF.c,Action.c,aI.c,aL.c,bH.c,aN.c,Node.c,aG.c,bI.c]<;>rfl)) (ih1 (x19.parent) ((aW)++([b9])) h)
def CZ(aA:aG)(AP:List Int)(SV:Int)(W1:List (List D)):St:=⟨[(2,D.ptr 0 0),(5,D.acc 1),(7,D.acc 2),(8,D.int .i64 (SV))],[Ob.box (aG.c aA),Ob.row .uq 3 1 ((AP).map iL),Ob.row .uq 115 5 (W1)]⟩
theorem Q7(hΓ:Γ.nt=57){aA:aG}{AP:List Int}{r:List aF}{k2:List aF→Option (List aF)}(IK:∀(SW:List aF),k2 SW=some r→Ax Γ N Tryz.f204 (.q [[some (115,5)]] (D.fr 115 5 ((r).map aF.c))) [1,1,1,1,1,1] ⟨[(7,D.acc 0)],[Ob.row .uq 115 5 ((SW).map aF.c)]⟩):∀(n2:Nat) (SV:Int) (UN:List aF),iH aA AP k2 n2 SV UN=some r→Ar Γ N Tryz.f204 (.q [[some (115,5)]] (D.fr 115 5 ((r).map aF.c))) [1,1,1,1,1,0,1,0] n2 (CZ aA AP SV ((UN).map aF.c)):=by
 intro n
 induction n with
 |zero=>intro SV UN h;simp[iH]at h
 |succ n2 ih2=>
  intro SV UN h
  rw[iH]at h
  refine aJ fun N2 yR wG=>?_
  obtain⟨h65,h⟩|⟨h65,h⟩:=aE h
  ·obtain⟨x72,h73,h⟩:=aB h
   obtain⟨x74,h75,h⟩:=aB h
   obtain⟨y76,h77,h⟩:=aB h
   obtain⟨h78,h⟩:=aU h
   exact((((((((aK.b h65).a [.n2 [0,1,2,3,4,5,6,7,8,9,10,11,12,13] [0,1,2,3,4,5,6,7,8,9,10,11,12,13] 11 12 [0] [3]]).i (Y7 iL 1 h73)).o 1 1 .uq (cA iL (TC h73))).l (bP Node.c 8 h75 rfl)).g (lC h77)).w (aZ h78)).a [.cn [2,5,7,8] [0,1,5]]).cs hΓ wG (CZ aA AP (IntKind.i64.wrap ((SV)-(1))) (((UN).map aF.c)++([[D.int .i64 (y76.kind),D.str (y76.pat.rel),D.sl ((y76.pat.args).map tx),D.str (y76.left),D.str (y76.right)]]))) (by first| (simp only[mA]<;>rfl)| (simp only[mA,aD.c,aH.c,aF.c,Action.c,aI.c,aL.c,bH.c,aN.c,Node.c,aG.c,bI.c]<;>rfl)) (ih2 (IntKind.i64.wrap ((SV)-(1))) ((UN)++([y76])) h)
  ·exact((aK.b h65).a [.hl 0 [7] [2]]).ex hΓ yR (IK (UN) h)
theorem vN{aA:aG}{aM:Int}{r:List aF}(h:vA aA aM=some r):Good Tryz.prog 204 [D.agg (aG.c aA),D.int .i64 (aM)] (D.fr 115 5 ((r).map aF.c)):=by
 refine gd Tryz.func204 [[some (115,5)]] 57 fun hr Γ hΓ=>?_
 rw[vA]at h
 obtain⟨h1,h⟩|⟨h1,h⟩:=aE h
 ·cases h;exact((aK.r 6 h1).T 1).ret hΓ
 ·have uV:=(aK.r 6 h1)
  obtain⟨h2,h⟩|⟨h2,h⟩:=aE h
  ·cases h;exact(uV.b h2).ret hΓ
  ·refine((uV.b h2).a [.VP 5,.cn [1,2,5] [0,1]]).lp hΓ (Q6 hΓ (fun AP h=>?_) fuel (aM) (([]:List Int)) h)
   refine(aK.a [.VP 7,.cn [2,5,7,8] [0,1,2]]).lp hΓ (Q7 hΓ (fun SW h=>?_) fuel (IntKind.i64.wrap (((((AP).map iL).length:Int))-(1))) (([]:List aF)) h)
   have h:=aC h;subst h;exact aK.ret hΓ
def vB(aA:aF):Option Bool:=((p9 (aA)).bind fun y1=>(bif y1 then(some (decide ((aA.kind:Int)≥(3))))else(some (false))))
theorem AZ{aA:aF}{r:Bool}(h:vB aA=some r):Good Tryz.prog 286 [D.agg (aF.c aA)] (D.bool (r)):=by
 refine gd Tryz.func286 [[none]] 10 fun hr Γ hΓ=>?_
 rw[vB]at h
 obtain⟨y1,h2,h⟩:=aB h
 obtain⟨h3,h⟩|⟨h3,h⟩:=aE h
 ·cases h;exact((aK.g (nV h2)).r 4 h3).ret hΓ
 ·have h:=aC h;subst h;exact((aK.g (nV h2)).r 4 h3).ret hΓ
def qM(aA:aF)(aM:List aH):Option Bool:=((vB (aA)).bind fun y1=>(bif !(y1)then(some (false))else((iE (aM)).bind fun y4=>(bif !(y4)then(some (false))else((nW (aM) (aA.left)).bind fun y7=>((nW (aM) (aA.right)).bind fun y9=>(bif !(y7.2)then(some (false))else(bif !(y9.2)then(some (false))else(bif (aA.kind:Int)==(3)then(some ((y7.1:Bytes)==(y9.1)))else(bif (aA.kind:Int)==(4)then(some (!((y7.1:Bytes)==(y9.1))))else((jR (y7.1)).bind fun y15=>((jR (y9.1)).bind fun y17=>(bif y15.2 then(bif y17.2 then(some (decide ((y15.1:Int)<(y17.1))))else(some (false)))else(some (false)))))))))))))))
theorem F9{aA:aF}{aM:List aH}{r:Bool}(h:qM aA aM=some r):Good Tryz.prog 277 [D.agg (aF.c aA),D.sl ((aM).map aH.c)] (D.bool (r)):=by
 refine gd Tryz.func277 [[none]] 70 fun hr Γ hΓ=>?_
 rw[qM]at h
 obtain⟨y1,h2,h⟩:=aB h
 obtain⟨h3,h⟩|⟨h3,h⟩:=aE h
 ·have h:=aC h;subst h;exact(((aK.g (AZ h2)).r 4 h3).T 1).ret hΓ
 ·obtain⟨y4,h5,h⟩:=aB h
  have jO:=((((aK.g (AZ h2)).r 2 h3).g (jX h5)).r 2 h3)
  obtain⟨h6,h⟩|⟨h6,h⟩:=aE h
  ·have h:=aC h;subst h;exact(jO.b h6).ret hΓ
  ·obtain⟨y7,h8,h⟩:=aB h
   obtain⟨y9,h10,h⟩:=aB h
   have bO:=(((jO.b h6).g (uJ h8)).g (uJ h10))
   obtain⟨h11,h⟩|⟨h11,h⟩:=aE h
   ·have h:=aC h;subst h;exact((bO.r 3 h11).T 1).ret hΓ
   ·have mG:=(bO.r 3 h11)
    obtain⟨h12,h⟩|⟨h12,h⟩:=aE h
    ·have h:=aC h;subst h;exact(mG.b h12).ret hΓ
    ·obtain⟨h13,h⟩|⟨h13,h⟩:=aE h
     ·cases h;exact((mG.b h12).b h13).ret hΓ
     ·have l8:=((mG.b h12).b h13)
      obtain⟨h14,h⟩|⟨h14,h⟩:=aE h
      ·cases h;exact(l8.b h14).ret hΓ
      ·obtain⟨y15,h16,h⟩:=aB h
       obtain⟨y17,h18,h⟩:=aB h
       have uV:=(((l8.b h14).g (oP h16)).g (oP h18))
       obtain⟨h19,h⟩|⟨h19,h⟩:=aE h
       ·have xU:=(uV.r 2 h19)
        obtain⟨h20,h⟩|⟨h20,h⟩:=aE h
        ·cases h;exact(xU.r 4 h20).ret hΓ
        ·have h:=aC h;subst h;exact(xU.r 4 h20).ret hΓ
       ·have h:=aC h;subst h;exact((uV.r 2 h19).F 4).ret hΓ
def qN(aA:aF)(aM:List aH)(bA:List aD):Option Bool:=((p9 (aA)).bind fun y1=>(bif !(y1)then(some (false))else((iE (aM)).bind fun y4=>(bif !(y4)then(some (false))else(bif (aA.kind:Int)==(1)then((eM (aA.pat) (aM) (bA)).bind fun y8=>(some (decide (((((y8).map aD.c).length:Int):Int)>(0)))))else(bif (aA.kind:Int)==(2)then((eM (aA.pat) (aM) (bA)).bind fun y11=>(some (((((y11).map aD.c).length:Int):Int)==(0))))else((qM (aA) (aM)).bind fun sZ=>(some (sZ)))))))))
theorem FA{aA:aF}{aM:List aH}{bA:List aD}{r:Bool}(h:qN aA aM bA=some r):Good Tryz.prog 259 [D.agg (aF.c aA),D.sl ((aM).map aH.c),D.sl ((bA).map aD.c)] (D.bool (r)):=by
 refine gd Tryz.func259 [[none]] 38 fun hr Γ hΓ=>?_
 rw[qN]at h
 obtain⟨y1,h2,h⟩:=aB h
 obtain⟨h3,h⟩|⟨h3,h⟩:=aE h
 ·have h:=aC h;subst h;exact(((aK.g (nV h2)).r 4 h3).T 1).ret hΓ
 ·obtain⟨y4,h5,h⟩:=aB h
  have jO:=((((aK.g (nV h2)).r 2 h3).g (jX h5)).r 2 h3)
  obtain⟨h6,h⟩|⟨h6,h⟩:=aE h
  ·have h:=aC h;subst h;exact(jO.b h6).ret hΓ
  ·obtain⟨h7,h⟩|⟨h7,h⟩:=aE h
   ·obtain⟨y8,h9,h⟩:=aB h
    cases h;exact(((jO.b h6).b h7).g (jU h9)).ret hΓ
   ·have bO:=((jO.b h6).b h7)
    obtain⟨h10,h⟩|⟨h10,h⟩:=aE h
    ·obtain⟨y11,h12,h⟩:=aB h
     cases h;exact((bO.b h10).g (jU h12)).ret hΓ
    ·obtain⟨sZ,h14,h⟩:=aB h
     have h:=aC h;subst h;exact((bO.b h10).g (F9 h14)).ret hΓ
def gQ(aA:List aF)(aM:List aD)(i2:Nat)(aP:List aL)(o8:aL)(i1:Nat)(aS:aF)(k3:List aL→Option (List aL)):List aD→Nat→List aL→Option (List aL)
 | [],i3,yS=>(k3 (yS))
 |x3_::YH,i3,yS=>((iG (aS.pat) (x3_) (o8.bind)).bind fun WS=>(bif WS.2 then((kT (o8.facts)).bind fun WT=>((eS (x3_)).bind fun Q8=>(bif room (((WT).map aD.c).length+([[D.str (Q8.rel),D.sl ((Q8.args).map tx)]]).length) 40 then(bif room (((yS).map aL.c).length+([[D.sl (((WT).map aD.c)++([[D.str (Q8.rel),D.sl ((Q8.args).map tx)]])),D.sl ((WS.1).map aH.c)]]).length) 48 then(gQ aA aM i2 aP o8 i1 aS k3 YH (i3+1) ((yS)++([(⟨(WT)++([Q8]),WS.1⟩:aL)])))else none)else none)))else(gQ aA aM i2 aP o8 i1 aS k3 YH (i3+1) (yS))))
def cH(aA:List aF)(aM:List aD)(aP:List aL)(i1:Nat)(aS:aF)(k2:List aL→Option (List aL)):List aL→Nat→List aL→Option (List aL)
 | [],i2,gC=>(k2 (gC))
 |o8::wO,i2,gC=>(bif (aS.kind:Int) != (1)then((qN (aS) (o8.bind) (aM)).bind fun aAZ=>(bif aAZ then(bif room (((gC).map aL.c).length+([[D.sl ((o8.facts).map aD.c),D.sl ((o8.bind).map aH.c)]]).length) 48 then(cH aA aM aP i1 aS k2 wO (i2+1) ((gC)++([o8])))else none)else(cH aA aM aP i1 aS k2 wO (i2+1) (gC))))else(bif decide ((aM).length≤maxLen)then(gQ aA aM i2 aP o8 i1 aS (fun(a4d:List aL)=>(cH aA aM aP i1 aS k2 wO (i2+1) (a4d))) (aM) 0 (gC))else none))
def gR(aA:List aF)(aM:List aD)(k1:List aL→Option (List aL)):List aF→Nat→List aL→Option (List aL)
 | [],i1,aP=>(k1 (aP))
 |aS::aX,i1,aP=>(bif decide ((aP).length≤maxLen)then(cH aA aM aP i1 aS (fun(SW:List aL)=>(gR aA aM k1 aX (i1+1) (SW))) (aP) 0 (([]:List aL)))else none)
def rZ(aA:List aF)(aM:List aD):Option (List aL):=(gR aA aM (fun(aT:List aL)=>(some (aT))) (aA) 0 ([(⟨[],[]⟩:aL)]))
def B0(aA:List aF)(aM:List aD)(W0:List (List D))(bB:Int):St:=⟨[(1,D.sl ((aM).map aD.c)),(5,D.acc 0),(17,D.sl ((aA).map aF.c)),(18,D.int .i64 ((((aA).map aF.c).length:Int))),(19,D.int .i64 (bB))],[Ob.row .uq 124 2 (W0)]⟩
def B1(aA:List aF)(aM:List aD)(aP:List aL)(i1:Nat)(aS:aF)(W0:List (List D))(aGf:Nat)(bB:Int):St:=⟨[(1,D.sl ((aM).map aD.c)),(7,D.ptr 0 0),(8,D.acc 1),(17,D.sl ((aA).map aF.c)),(18,D.int .i64 ((((aA).map aF.c).length:Int))),(19,D.int .i64 ((i1:Int))),(23,D.acc 2),(24,D.int .i64 ((((aP).map aL.c).length:Int))),(25,D.int .i64 (bB))],[Ob.box [D.int .i64 (aS.kind),D.str (aS.pat.rel),D.sl ((aS.pat.args).map tx),D.str (aS.left),D.str (aS.right)],Ob.row .uq 124 2 (W0),Ob.row (.mv (aGf)) 124 2 ((aP).map aL.c)]⟩
def B2(aA:List aF)(aM:List aD)(i2:Nat)(aP:List aL)(o8:aL)(i1:Nat)(aS:aF)(W0:List (List D))(bB:Int):St:=⟨[(1,D.sl ((aM).map aD.c)),(7,D.ptr 0 0),(8,D.acc 1),(10,D.ptr 2 0),(17,D.sl ((aA).map aF.c)),(18,D.int .i64 ((((aA).map aF.c).length:Int))),(19,D.int .i64 ((i1:Int))),(23,D.acc 3),(24,D.int .i64 ((((aP).map aL.c).length:Int))),(25,D.int .i64 ((i2:Int))),(41,D.sl ((aM).map aD.c)),(42,D.int .i64 ((((aM).map aD.c).length:Int))),(43,D.int .i64 (bB))],[Ob.box [D.int .i64 (aS.kind),D.str (aS.pat.rel),D.sl ((aS.pat.args).map tx),D.str (aS.left),D.str (aS.right)],Ob.row .uq 124 2 (W0),Ob.box [D.acc 4,D.acc 5],Ob.row (.mv (i2+1)) 124 2 ((aP).map aL.c),Ob.tk ((o8.facts).map aD.c),Ob.tk ((o8.bind).map aH.c)]⟩
theorem KL(hΓ:Γ.nt=74){aA:List aF}{aM:List aD}{i2:Nat}{aP:List aL}{o8:aL}{i1:Nat}{aS:aF}{r:List aL}{k3:List aL→Option (List aL)}(hE3:∀(a4d:List aL),k3 a4d=some r→Ax Γ N Tryz.f203 (.q [[some (124,2)]] (D.fr 124 2 ((r).map aL.c))) [1,1,0,1,0,0,1,1,0,0,1,1,0,1,0,0,1,1,1] ⟨[(1,D.sl ((aM).map aD.c)),(7,D.ptr 0 0),(8,D.acc 1),(17,D.sl ((aA).map aF.c)),(18,D.int .i64 ((((aA).map aF.c).length:Int))),(19,D.int .i64 ((i1:Int))),(23,D.acc 2),(24,D.int .i64 ((((aP).map aL.c).length:Int))),(25,D.int .i64 ((i2:Int)))],[Ob.box [D.int .i64 (aS.kind),D.str (aS.pat.rel),D.sl ((aS.pat.args).map tx),D.str (aS.left),D.str (aS.right)],Ob.row .uq 124 2 ((a4d).map aL.c),Ob.row (.mv (i2+1)) 124 2 ((aP).map aL.c)]⟩)(hm3:(aM).length≤maxLen):∀(rest:List aD) (i3:Nat) (yS:List aL),(aM).drop i3=rest→gQ aA aM i2 aP o8 i1 aS k3 rest i3 yS=some r→Ar Γ N Tryz.f203 (.q [[some (124,2)]] (D.fr 124 2 ((r).map aL.c))) [1,1,0,1,0,0,1,1,0,0,1,1,0,1,0,0,1,1,0,0,1,1,1,0] (rest.length+1) (B2 aA aM i2 aP o8 i1 aS ((yS).map aL.c) ((i3:Int))):=by
 intro rest
 induction rest with
 |nil=>
  intro i3 yS zU h
  rw[gQ]at h
  refine aJ fun N3 hN3 YI=>?_
  exact((aK.ge aD.c zU).a [.hl 8 [1,7,8,17,18,19,23,24,25] [0,1,3]]).ex hΓ hN3 (hE3 (yS) h)
 |cons x3_ YH ih3=>
  intro i3 yS zU h
  rw[gQ]at h
  refine aJ fun N3 hN3 YI=>?_
  obtain⟨WS,h3513,h⟩:=aB h
  have aEV:=(((aK.lt aD.c zU).l (aQ aD.c 2 (dc zU) rfl)).g (x7 h3513))
  obtain⟨h3514,h⟩|⟨h3514,h⟩:=aE h
  ·obtain⟨WT,h3521,h⟩:=aB h
   obtain⟨Q8,h3523,h⟩:=aB h
   obtain⟨h3524,h⟩:=aU h
   obtain⟨h3525,h⟩:=aU h
   exact(((((((aEV.b h3514).a [.n2 [0,1,2,3,4,5,8,6,7,9,10,11,12] [0,1,2,3,4,5,7,8,6,9,10,11,12] 7 11 [0,6] [7,8,9,10,11]]).g (wW h3521)).g (tV h3523)).w (aZ h3524)).w (aZ h3525)).a [.cn [1,7,8,10,17,18,19,23,24,25,41,42,43] [0,13,2,3,4,5]]).cs hΓ YI (B2 aA aM i2 aP o8 i1 aS (((yS).map aL.c)++([[D.sl (((WT).map aD.c)++([[D.str (Q8.rel),D.sl ((Q8.args).map tx)]])),D.sl ((WS.1).map aH.c)]])) (IntKind.i64.wrap (((i3:Int))+(1)))) (by first| (simp only[iS zU hm3,mA]<;>rfl)| (simp only[iS zU hm3,mA,aD.c,aH.c,aF.c,Action.c,aI.c,aL.c,bH.c,aN.c,Node.c,aG.c,bI.c]<;>rfl)) (ih3 (i3+1) ((yS)++([(⟨(WT)++([Q8]),WS.1⟩:aL)])) (dn zU) h)
  ·exact((aEV.b h3514).a [.cn [1,7,8,10,17,18,19,23,24,25,41,42,43] [0,1,2,3,4,5]]).ct hΓ YI (iS zU hm3) (ih3 (i3+1) (yS) (dn zU) h)
theorem KM(hΓ:Γ.nt=74){aA:List aF}{aM:List aD}{aP:List aL}{i1:Nat}{aS:aF}{r:List aL}{k2:List aL→Option (List aL)}(IK:∀(SW:List aL),k2 SW=some r→Ax Γ N Tryz.f203 (.q [[some (124,2)]] (D.fr 124 2 ((r).map aL.c))) [1,1,0,1,0,0,1,1,0,0,1,1,1] ⟨[(1,D.sl ((aM).map aD.c)),(8,D.acc 0),(17,D.sl ((aA).map aF.c)),(18,D.int .i64 ((((aA).map aF.c).length:Int))),(19,D.int .i64 ((i1:Int)))],[Ob.row .uq 124 2 ((SW).map aL.c)]⟩)(hm2:(aP).length≤maxLen):∀(rest:List aL) (i2:Nat) (gC:List aL),(aP).drop i2=rest→cH aA aM aP i1 aS k2 rest i2 gC=some r→Ar Γ N Tryz.f203 (.q [[some (124,2)]] (D.fr 124 2 ((r).map aL.c))) [1,1,0,1,0,0,1,1,0,0,1,1,0,1,0] (rest.length+1) (B1 aA aM aP i1 aS ((gC).map aL.c) i2 ((i2:Int))):=by
 intro rest
 induction rest with
 |nil=>
  intro i2 gC hd2 h
  rw[cH]at h
  refine aJ fun N2 yR wG=>?_
  exact((aK.ge aL.c hd2).a [.hl 5 [1,8,17,18,19] [1]]).ex hΓ yR (IK (gC) h)
 |cons o8 wO ih2=>
  intro i2 gC hd2 h
  rw[cH]at h
  refine aJ fun N2 yR wG=>?_
  have aEW:=((((aK.lt aL.c hd2).i (nY aL.c 2 (dc hd2))).w (show i2=i2∧((aP).map aL.c)[i2]?=some [D.sl ((o8.facts).map aD.c),D.sl ((o8.bind).map aH.c)]∧Y2 [D.sl ((o8.facts).map aD.c),D.sl ((o8.bind).map aH.c)]=true from⟨rfl,cA aL.c (dc hd2),rfl⟩)).a [.tk [D.sl ((o8.facts).map aD.c),D.sl ((o8.bind).map aH.c)]])
  obtain⟨h3426,h⟩|⟨h3426,h⟩:=aE h
  ·obtain⟨aAZ,h3428,h⟩:=aB h
   have aEX:=((aEW.b h3426).g (FA h3428))
   obtain⟨h3429,h⟩|⟨h3429,h⟩:=aE h
   ·obtain⟨h3430,h⟩:=aU h
    exact(((aEX.b h3429).w (aZ h3430)).a [.cn [1,7,8,17,18,19,23,24,25] [0,7,2]]).cs hΓ wG (B1 aA aM aP i1 aS (((gC).map aL.c)++([[D.sl ((o8.facts).map aD.c),D.sl ((o8.bind).map aH.c)]])) (i2+1) (IntKind.i64.wrap (((i2:Int))+(1)))) (by first| (simp only[iS hd2 hm2,mA]<;>rfl)| (simp only[iS hd2 hm2,mA,aD.c,aH.c,aF.c,Action.c,aI.c,aL.c,bH.c,aN.c,Node.c,aG.c,bI.c]<;>rfl)) (ih2 (i2+1) ((gC)++([o8])) (dn hd2) h)
   ·exact((aEX.b h3429).a [.cn [1,7,8,17,18,19,23,24,25] [0,1,2]]).ct hΓ wG (iS hd2 hm2) (ih2 (i2+1) (gC) (dn hd2) h)
  ·obtain⟨h3526,h⟩:=aU h
   refine((aEW.b h3426).a [.cn [1,7,8,10,17,18,19,23,24,25,41,42,43] [0,1,5,2,3,4]]).lp hΓ (KL hΓ (fun a4d h=>?_) (of_decide_eq_true h3526) (aM) 0 (gC) rfl h)
   exact(aK.a [.cn [1,7,8,17,18,19,23,24,25] [0,1,2]]).ct hΓ wG (iS hd2 hm2) (ih2 (i2+1) (a4d) (dn hd2) h)
theorem KN(hΓ:Γ.nt=74){aA:List aF}{aM:List aD}{r:List aL}{k1:List aL→Option (List aL)}(bE:∀(aT:List aL),k1 aT=some r→Ax Γ N Tryz.f203 (.q [[some (124,2)]] (D.fr 124 2 ((r).map aL.c))) [1,1,1] ⟨[(5,D.acc 0)],[Ob.row .uq 124 2 ((aT).map aL.c)]⟩)(hm1:(aA).length≤maxLen):∀(rest:List aF) (i1:Nat) (aP:List aL),(aA).drop i1=rest→gR aA aM k1 rest i1 aP=some r→Ar Γ N Tryz.f203 (.q [[some (124,2)]] (D.fr 124 2 ((r).map aL.c))) [1,1,0,1,0] (rest.length+1) (B0 aA aM ((aP).map aL.c) ((i1:Int))):=by
 intro rest
 induction rest with
 |nil=>
  intro i1 aP aO h
  rw[gR]at h
  refine aJ fun N1 aY aV=>?_
  exact((aK.ge aF.c aO).a [.hl 0 [5] [0]]).ex hΓ aY (bE (aP) h)
 |cons aS aX ih1=>
  intro i1 aP aO h
  rw[gR]at h
  refine aJ fun N1 aY aV=>?_
  obtain⟨h3527,h⟩:=aU h
  refine(((aK.lt aF.c aO).l (aQ aF.c 5 (dc aO) rfl)).a [.VP 8,.mz 0,.cn [1,7,8,17,18,19,23,24,25] [1,2,0]]).lp hΓ (KM hΓ (fun SW h=>?_) (of_decide_eq_true h3527) (aP) 0 (([]:List aL)) rfl h)
  exact(aK.a [.cn [1,5,17,18,19] [0]]).ct hΓ aV (iS aO hm1) (ih1 (i1+1) (SW) (dn aO) h)
theorem HU{aA:List aF}{aM:List aD}{r:List aL}(h:rZ aA aM=some r):Good Tryz.prog 203 [D.sl ((aA).map aF.c),D.sl ((aM).map aD.c)] (D.fr 124 2 ((r).map aL.c)):=by
 refine gd Tryz.func203 [[some (124,2)]] 74 fun hr Γ hΓ=>?_
 rw[rZ]at h
 refine(aK.a [.cn [1,5,17,18,19] [0]]).lps hΓ (B0 aA aM ([[D.sl ([]),D.sl ([])]]) 0) (by first| (simp only[mA]<;>rfl)| (simp only[mA,aD.c,aH.c,aF.c,Action.c,aI.c,aL.c,bH.c,aN.c,Node.c,aG.c,bI.c]<;>rfl)) (KN hΓ (fun aT h=>?_) (by have:=(bR.sl (hr _ (List.mem_of_getElem? (i:=0) rfl))).1;simpa using this) (aA) 0 ([(⟨[],[]⟩:aL)]) rfl h)
 have h:=aC h;subst h;exact aK.ret hΓ
def bY(aA:aG)(aM:List aD)(y1:List aD)(k1:List aN→Option (aG×Unit)):List aN→Nat→List aN→Option (aG×Unit)
 | [],i1,dL=>(k1 (dL))
 |aS::aX,i1,dL=>(bif decide (i1<((dL).map aN.c).length)then(((dL)[i1]?).bind fun x35=>((eM (x35.shape) ([]) (aM)).bind fun y37=>(bif decide (i1<((dL).map aN.c).length)then(bY aA aM y1 k1 aX (i1+1) ((dL).set i1 (⟨x35.shape,y37⟩:aN)))else none)))else none)
def bM(aA:aG)(aM:List aD)(y1:List aD)(lF:List aN)(k2:Option (aG×Unit)):List Node→Nat→List Node→Option (aG×Unit)
 | [],i2,mO=>(some (((⟨aA.rules,aA.ends,lF,mO,y1,aA.bJ⟩:aG),())))
 |o8::wO,i2,mO=>((vA ((⟨aA.rules,aA.ends,lF,mO,y1,aA.bJ⟩:aG)) ((i2:Int))).bind fun a9F=>((rZ (a9F) (aM)).bind fun a2J=>(bif decide (i2<((mO).map Node.c).length)then(((mO)[i2]?).bind fun x107=>(bM aA aM y1 lF k2 wO (i2+1) ((mO).set i2 (⟨x107.parent,x107.cond,x107.iO,a2J⟩:Node))))else none)))
def j4(aA:aG)(aM:List aD):Option (aG×Unit):=((kT (aM)).bind fun y1=>(bif decide ((aA.aR).length≤maxLen)then(bY aA aM y1 (fun(lF:List aN)=>(bif decide ((aA.nodes).length≤maxLen)then(bM aA aM y1 lF none (aA.nodes) 0 (aA.nodes))else none)) (aA.aR) 0 (aA.aR))else none))
def uC(xE:Value)(aA:aG)(aM:List aD)(y1:List aD)(W0:List (List D))(bB:Int):St:=⟨[(0,D.ptr 0 0),(1,D.sl ((aM).map aD.c)),(15,D.int .i64 ((((aA.aR).map aN.c).length:Int))),(16,D.int .i64 (bB))],[Ob.SI [D.acc 1,D.acc 2,D.acc 3,D.acc 4,D.acc 5,D.int .i64 (aA.bJ)] xE,Ob.row .uq 105 4 ((aA.rules).map aI.c),Ob.row .uq 3 1 ((aA.ends).map iL),Ob.row .uq 111 3 (W0),Ob.row .uq 118 8 ((aA.nodes).map Node.c),Ob.row .uq 53 2 ((y1).map aD.c)]⟩
theorem B3(hΓ:Γ.nt=60){xE:Value}{aA:aG}{aM:List aD}{y1:List aD}{r:aG×Unit}{k1:List aN→Option (aG×Unit)}(bE:∀(lF:List aN),k1 lF=some r→Ax Γ N Tryz.f135 (.p [[some (105,4),some (3,1),some (111,3),some (118,8),some (53,2),none]] xE (b8 r.1) (D.iJ [])) [1,1] ⟨[(0,D.ptr 0 0),(1,D.sl ((aM).map aD.c))],[Ob.SI [D.acc 1,D.acc 2,D.acc 3,D.acc 4,D.acc 5,D.int .i64 (aA.bJ)] xE,Ob.row .uq 105 4 ((aA.rules).map aI.c),Ob.row .uq 3 1 ((aA.ends).map iL),Ob.row .uq 111 3 ((lF).map aN.c),Ob.row .uq 118 8 ((aA.nodes).map Node.c),Ob.row .uq 53 2 ((y1).map aD.c)]⟩)(hm1:(aA.aR).length≤maxLen):∀(rest:List aN) (i1:Nat) (dL:List aN),(aA.aR).drop i1=rest→bY aA aM y1 k1 rest i1 dL=some r→Ar Γ N Tryz.f135 (.p [[some (105,4),some (3,1),some (111,3),some (118,8),some (53,2),none]] xE (b8 r.1) (D.iJ [])) [1,0,1,0] (rest.length+1) (uC xE aA aM y1 ((dL).map aN.c) ((i1:Int))):=by
 intro rest
 induction rest with
 |nil=>
  intro i1 dL aO h
  rw[bY]at h
  refine aJ fun N1 aY aV=>?_
  exact((aK.ge aN.c aO).a [.hl 0 [0,1] [0,1,2,3,4,5]]).ex hΓ aY (bE (dL) h)
 |cons aS aX ih1=>
  intro i1 dL aO h
  rw[bY]at h
  refine aJ fun N1 aY aV=>?_
  obtain⟨h34,h⟩:=aU h
  obtain⟨x35,h36,h⟩:=aB h
  obtain⟨y37,h38,h⟩:=aB h
  obtain⟨h39,h⟩:=aU h
  exact(((((((((aK.lt aN.c aO).a [.n 15]).i (xB 3 h34)).o 3 2 .uq (cA aN.c h36)).a [.d (D.fr 53 2 ((y37).map aD.c))]).w (show Good Tryz.prog 202 [D.agg (aD.c (x35.shape)),D.sl ([]),D.sl ((aM).map aD.c)] (D.fr 53 2 ((y37).map aD.c))from by first| (simpa only[List.map_append,List.map_cons,List.map_nil,List.map_drop,List.map_take]using jU h38)|exact jU h38)).i (xB 3 h39)).w (show((dL).map aN.c)[i1]?=some [D.str (x35.shape.rel),D.sl ((x35.shape.args).map tx),D.sl ((x35.facts).map aD.c)]from cA aN.c h36)).a [.row [D.str (x35.shape.rel),D.sl ((x35.shape.args).map tx),D.sl ((x35.facts).map aD.c)],.cn [0,1,15,16] [0,1,2,3,4,5]]).cs hΓ aV (uC xE aA aM y1 (((dL).map aN.c).set i1 [D.str (x35.shape.rel),D.sl ((x35.shape.args).map tx),D.sl ((y37).map aD.c)]) (IntKind.i64.wrap (((i1:Int))+(1)))) (by first| (simp only[iS aO hm1,mA]<;>rfl)| (simp only[iS aO hm1,mA,aD.c,aH.c,aF.c,Action.c,aI.c,aL.c,bH.c,aN.c,Node.c,aG.c,bI.c]<;>rfl)) (ih1 (i1+1) ((dL).set i1 (⟨x35.shape,y37⟩:aN)) (dn aO) h)
def uD(xE:Value)(aA:aG)(aM:List aD)(y1:List aD)(lF:List aN)(W0:List (List D))(bB:Int):St:=⟨[(0,D.ptr 0 0),(1,D.sl ((aM).map aD.c)),(41,D.int .i64 ((((aA.nodes).map Node.c).length:Int))),(42,D.int .i64 (bB))],[Ob.SI [D.acc 1,D.acc 2,D.acc 3,D.acc 4,D.acc 5,D.int .i64 (aA.bJ)] xE,Ob.row .uq 105 4 ((aA.rules).map aI.c),Ob.row .uq 3 1 ((aA.ends).map iL),Ob.row .uq 111 3 ((lF).map aN.c),Ob.row .uq 118 8 (W0),Ob.row .uq 53 2 ((y1).map aD.c)]⟩
theorem B4(hΓ:Γ.nt=60){xE:Value}{aA:aG}{aM:List aD}{y1:List aD}{lF:List aN}{r:aG×Unit}{k2:Option (aG×Unit)}(IK:k2=some r→Ax Γ N Tryz.f135 (.p [[some (105,4),some (3,1),some (111,3),some (118,8),some (53,2),none]] xE (b8 r.1) (D.iJ [])) [1,1,1,0,0] ⟨[],[]⟩)(hm2:(aA.nodes).length≤maxLen):∀(rest:List Node) (i2:Nat) (mO:List Node),(aA.nodes).drop i2=rest→bM aA aM y1 lF k2 rest i2 mO=some r→Ar Γ N Tryz.f135 (.p [[some (105,4),some (3,1),some (111,3),some (118,8),some (53,2),none]] xE (b8 r.1) (D.iJ [])) [1,1,1,0] (rest.length+1) (uD xE aA aM y1 lF ((mO).map Node.c) ((i2:Int))):=by
 intro rest
 induction rest with
 |nil=>
  intro i2 mO hd2 h
  rw[bM]at h
  refine aJ fun N2 yR wG=>?_
  cases h;exact(aK.ge Node.c hd2).ret hΓ
 |cons o8 wO ih2=>
  intro i2 mO hd2 h
  rw[bM]at h
  refine aJ fun N2 yR wG=>?_
  obtain⟨a9F,h103,h⟩:=aB h
  obtain⟨a2J,h105,h⟩:=aB h
  obtain⟨h106,h⟩:=aU h
  obtain⟨x107,h108,h⟩:=aB h
  exact(((((((aK.lt Node.c hd2).a [.n2 [0,1,2,3,4,5,6,7,8,9,10,11,12,13,14] [0,1,2,3,4,5,6,7,8,9,10,11,12,13,14] 11 12 [0,1,2,3,4] [],.d (D.fr 115 5 ((a9F).map aF.c))]).w (show Good Tryz.prog 204 [D.agg [D.sl ((aA.rules).map aI.c),D.sl ((aA.ends).map iL),D.sl ((lF).map aN.c),D.sl ((mO).map Node.c),D.sl ((y1).map aD.c),D.int .i64 (aA.bJ)],D.int .i64 ((i2:Int))] (D.fr 115 5 ((a9F).map aF.c))from by first| (simpa only[List.map_append,List.map_cons,List.map_nil,List.map_drop,List.map_take]using vN h103)|exact vN h103| (have t:=vN h103;simp only[List.map_append,List.map_drop,List.map_take,aG.c]at t;exact t))).g (HU h105)).i (xB 8 h106)).w (show((mO).map Node.c)[i2]?=some [D.int .i64 (x107.parent),D.int .i64 (x107.cond.kind),D.str (x107.cond.pat.rel),D.sl ((x107.cond.pat.args).map tx),D.str (x107.cond.left),D.str (x107.cond.right),D.int .i64 (x107.iO),D.sl ((x107.tokens).map aL.c)]from cA Node.c h108)).a [.row [D.int .i64 (x107.parent),D.int .i64 (x107.cond.kind),D.str (x107.cond.pat.rel),D.sl ((x107.cond.pat.args).map tx),D.str (x107.cond.left),D.str (x107.cond.right),D.int .i64 (x107.iO),D.sl ((x107.tokens).map aL.c)],.cn [0,1,41,42] [0,1,2,3,4,5]]).cs hΓ wG (uD xE aA aM y1 lF (((mO).map Node.c).set i2 [D.int .i64 (x107.parent),D.int .i64 (x107.cond.kind),D.str (x107.cond.pat.rel),D.sl ((x107.cond.pat.args).map tx),D.str (x107.cond.left),D.str (x107.cond.right),D.int .i64 (x107.iO),D.sl ((a2J).map aL.c)]) (IntKind.i64.wrap (((i2:Int))+(1)))) (by first| (simp only[iS hd2 hm2,mA]<;>rfl)| (simp only[iS hd2 hm2,mA,aD.c,aH.c,aF.c,Action.c,aI.c,aL.c,bH.c,aN.c,Node.c,aG.c,bI.c]<;>rfl)) (ih2 (i2+1) ((mO).set i2 (⟨x107.parent,x107.cond,x107.iO,a2J⟩:Node)) (dn hd2) h)
theorem zY{aA:aG}{aM:List aD}{r:aG×Unit}(h:j4 aA aM=some r):AD Tryz.prog 135 (b8 aA) (b8 r.1) [D.sl ((aM).map aD.c)] (D.iJ []):=by
 refine gdP Tryz.func135 [[some (105,4),some (3,1),some (111,3),some (118,8),some (53,2),none]] 60 [D.acc 1,D.acc 2,D.acc 3,D.acc 4,D.acc 5,D.int .i64 (aA.bJ)] [D.sl ((aM).map aD.c)] [Ob.row .uq 105 4 ((aA.rules).map aI.c),Ob.row .uq 3 1 ((aA.ends).map iL),Ob.row .uq 111 3 ((aA.aR).map aN.c),Ob.row .uq 118 8 ((aA.nodes).map Node.c),Ob.row .uq 53 2 ((aA.facts).map aD.c)] fun hr xE Γ hΓ=>?_
 rw[j4]at h
 obtain⟨y1,h2,h⟩:=aB h
 obtain⟨h110,h⟩:=aU h
 refine((aK.g (wW h2)).a [.cn [0,1,15,16] [0,1,2,3,4,6]]).lp hΓ (B3 hΓ (fun lF h=>?_) (of_decide_eq_true h110) (aA.aR) 0 (aA.aR) rfl h)
 obtain⟨h109,h⟩:=aU h
 refine(aK.a [.cn [0,1,41,42] [0,1,2,3,4,5]]).lp hΓ (B4 hΓ (fun h=>?_) (of_decide_eq_true h109) (aA.nodes) 0 (aA.nodes) rfl h)
 cases h
def wL(aA:List aI)(aM:List aD)(bA:Int):Option aG:=((qL (aA)).bind fun y1=>((j4 (y1) (aM)).bind fun y3=>(some ((⟨y3.1.rules,y3.1.ends,y3.1.aR,y3.1.nodes,y3.1.facts,bA⟩:aG)))))
theorem Q9{aA:List aI}{aM:List aD}{bA:Int}{r:aG}(h:wL aA aM bA=some r):Good Tryz.prog 78 [D.sl ((aA).map aI.c),D.sl ((aM).map aD.c),D.int .i64 (bA)] (D.agg [D.fr 105 4 ((r.rules).map aI.c),D.fr 3 1 ((r.ends).map iL),D.fr 111 3 ((r.aR).map aN.c),D.fr 118 8 ((r.nodes).map Node.c),D.fr 53 2 ((r.facts).map aD.c),D.int .i64 (r.bJ)]):=by
 refine gd Tryz.func78 [[some (105,4),some (3,1),some (111,3),some (118,8),some (53,2),none]] 15 fun hr Γ hΓ=>?_
 rw[wL]at h
 obtain⟨y1,h2,h⟩:=aB h
 obtain⟨y3,h4,h⟩:=aB h
 cases h;exact((aK.g (F8 h2)).hp [[some (105,4),some (3,1),some (111,3),some (118,8),some (53,2),none],[none]] (zY h4)).ret hΓ
def gS(aA:aI)(aM:aI)(k1:Option Bool):List aF→Nat→Option Bool
 | [],i1=>(k1)
 |aS::aX,i1=>((oI (aM.conds) ((i1:Int))).bind fun x33=>((gD (aS) (x33)).bind fun y35=>(bif !(y35)then(some (false))else(gS aA aM k1 aX (i1+1)))))
def eN(aA:aI)(aM:aI)(k2:Option Bool):List Action→Nat→Option Bool
 | [],i2=>(k2)
 |o8::wO,i2=>((oI (aM.bC) ((i2:Int))).bind fun x70=>(bif (o8.kind:Int) != (x70.kind)then(some (false))else((cG (o8.pat) (x70.pat)).bind fun VF=>(bif !(VF)then(some (false))else(eN aA aM k2 wO (i2+1))))))
def oC(aA:aI)(aM:aI):Option Bool:=(bif !((aA.name:Bytes)==(aM.name))then(some (false))else(bif (aA.prio:Int) != (aM.prio)then(some (false))else(bif ((((aA.conds).map aF.c).length:Int):Int) != ((((aM.conds).map aF.c).length:Int))then(some (false))else(bif ((((aA.bC).map Action.c).length:Int):Int) != ((((aM.bC).map Action.c).length:Int))then(some (false))else(gS aA aM (eN aA aM (some (true)) (aA.bC) 0) (aA.conds) 0)))))
def NP(aA:aI)(aM:aI)(bB:Int):St:=⟨[(2,D.ptr 0 0),(3,D.ptr 1 0),(39,D.int .i64 ((((aA.conds).map aF.c).length:Int))),(40,D.int .i64 (bB))],[Ob.box (aI.c aA),Ob.box (aI.c aM)]⟩
theorem KO(hΓ:Γ.nt=92){aA:aI}{aM:aI}{r:Bool}{k1:Option Bool}(bE:k1=some r→Ax Γ N Tryz.f230 (.q [[none]] (D.bool (r))) [1,1,1] ⟨[(2,D.ptr 0 0),(3,D.ptr 1 0)],[Ob.box (aI.c aA),Ob.box (aI.c aM)]⟩)(hm1:(aA.conds).length≤maxLen):∀(rest:List aF) (i1:Nat),(aA.conds).drop i1=rest→gS aA aM k1 rest i1=some r→Ar Γ N Tryz.f230 (.q [[none]] (D.bool (r))) [1,1,0,1,0] (rest.length+1) (NP aA aM ((i1:Int))):=by
 intro rest
 induction rest with
 |nil=>
  intro i1 aO h
  rw[gS]at h
  refine aJ fun N1 aY aV=>?_
  exact((aK.ge aF.c aO).a [.hl 0 [2,3] [0,1]]).ex hΓ aY (bE h)
 |cons aS aX ih1=>
  intro i1 aO h
  rw[gS]at h
  refine aJ fun N1 aY aV=>?_
  obtain⟨x33,h34,h⟩:=aB h
  obtain⟨y35,h36,h⟩:=aB h
  have l8:=(((((aK.lt aF.c aO).a [.n 10]).l (aQ aF.c 5 (dc aO) rfl)).l (bP aF.c 5 h34 rfl)).g (tX h36))
  obtain⟨h37,h⟩|⟨h37,h⟩:=aE h
  ·have h:=aC h;subst h;exact(l8.b h37).ret hΓ
  ·exact((l8.b h37).a [.cn [2,3,39,40] [0,1]]).ct hΓ aV (iS aO hm1) (ih1 (i1+1) (dn aO) h)
def NQ(aA:aI)(aM:aI)(bB:Int):St:=⟨[(2,D.ptr 0 0),(3,D.ptr 1 0),(58,D.int .i64 ((((aA.bC).map Action.c).length:Int))),(59,D.int .i64 (bB))],[Ob.box (aI.c aA),Ob.box (aI.c aM)]⟩
theorem KP(hΓ:Γ.nt=92){aA:aI}{aM:aI}{r:Bool}{k2:Option Bool}(IK:k2=some r→Ax Γ N Tryz.f230 (.q [[none]] (D.bool (r))) [1,1,1,1] ⟨[],[]⟩)(hm2:(aA.bC).length≤maxLen):∀(rest:List Action) (i2:Nat),(aA.bC).drop i2=rest→eN aA aM k2 rest i2=some r→Ar Γ N Tryz.f230 (.q [[none]] (D.bool (r))) [1,1,1,0,1,0] (rest.length+1) (NQ aA aM ((i2:Int))):=by
 intro rest
 induction rest with
 |nil=>
  intro i2 hd2 h
  rw[eN]at h
  refine aJ fun N2 yR wG=>?_
  exact((aK.ge Action.c hd2).a [.hl 0 [] []]).ex hΓ yR (IK h)
 |cons o8 wO ih2=>
  intro i2 hd2 h
  rw[eN]at h
  refine aJ fun N2 yR wG=>?_
  obtain⟨x70,h71,h⟩:=aB h
  have uV:=((((aK.lt Action.c hd2).a [.n 26]).l (aQ Action.c 3 (dc hd2) rfl)).l (bP Action.c 3 h71 rfl))
  obtain⟨h72,h⟩|⟨h72,h⟩:=aE h
  ·have h:=aC h;subst h;exact((uV.r 15 h72).T 1).ret hΓ
  ·obtain⟨VF,h74,h⟩:=aB h
   have xU:=(((((((uV.r 4 h72).l (aQ Action.c 3 (dc hd2) rfl)).r 6 h72).l (bP Action.c 3 h71 rfl)).r 3 h72).g (mC h74)).r 2 h72)
   obtain⟨h75,h⟩|⟨h75,h⟩:=aE h
   ·have h:=aC h;subst h;exact(xU.b h75).ret hΓ
   ·exact((xU.b h75).a [.cn [2,3,58,59] [0,1]]).ct hΓ wG (iS hd2 hm2) (ih2 (i2+1) (dn hd2) h)
theorem HV{aA:aI}{aM:aI}{r:Bool}(h:oC aA aM=some r):Good Tryz.prog 230 [D.agg (aI.c aA),D.agg (aI.c aM)] (D.bool (r)):=by
 refine gd Tryz.func230 [[none]] 92 fun hr Γ hΓ=>?_
 rw[oC]at h
 obtain⟨h1,h⟩|⟨h1,h⟩:=aE h
 ·have h:=aC h;subst h;exact((aK.r 6 h1).T 17).ret hΓ
 ·have BQ:=(aK.r 6 h1)
  obtain⟨h2,h⟩|⟨h2,h⟩:=aE h
  ·have h:=aC h;subst h;exact((BQ.r 8 h2).T 9).ret hΓ
  ·have L9:=(BQ.r 8 h2)
   obtain⟨h3,h⟩|⟨h3,h⟩:=aE h
   ·have h:=aC h;subst h;exact((L9.r 8 h3).T 1).ret hΓ
   ·have S8:=(L9.r 8 h3)
    obtain⟨h4,h⟩|⟨h4,h⟩:=aE h
    ·have h:=aC h;subst h;exact(S8.b h4).ret hΓ
    ·refine((S8.b h4).a [.cn [2,3,39,40] [0,1]]).lp hΓ (KO hΓ (fun h=>?_) (by have:=(bR.sl (bR.agg (hr _ (List.mem_of_getElem? (i:=0) rfl)) (.sl ((aA.conds).map aF.c)) (by simp))).1;simpa using this) (aA.conds) 0 rfl h)
     refine(aK.a [.cn [2,3,58,59] [0,1]]).lp hΓ (KP hΓ (fun h=>?_) (by have:=(bR.sl (bR.agg (hr _ (List.mem_of_getElem? (i:=0) rfl)) (.sl ((aA.bC).map Action.c)) (by simp))).1;simpa using this) (aA.bC) 0 rfl h)
     have h:=aC h;subst h;exact aK.ret hΓ
def jL(aA:List aI)(aM:List aI)(k1:Option Bool):List aI→Nat→Option Bool
 | [],i1=>(k1)
 |aS::aX,i1=>((oI (aM) ((i1:Int))).bind fun x30=>((oC (aS) (x30)).bind fun CK=>(bif !(CK)then(some (false))else(jL aA aM k1 aX (i1+1)))))
def qO(aA:List aI)(aM:List aI):Option Bool:=(bif ((((aA).map aI.c).length:Int):Int) != ((((aM).map aI.c).length:Int))then(some (false))else(jL aA aM (some (true)) (aA) 0))
def KR(aA:List aI)(aM:List aI)(bB:Int):St:=⟨[(0,D.sl ((aA).map aI.c)),(1,D.sl ((aM).map aI.c)),(12,D.int .i64 ((((aA).map aI.c).length:Int))),(13,D.int .i64 (bB))],[]⟩
theorem HW(hΓ:Γ.nt=27){aA:List aI}{aM:List aI}{r:Bool}{k1:Option Bool}(bE:k1=some r→Ax Γ N Tryz.f156 (.q [[none]] (D.bool (r))) [1,1,1] ⟨[],[]⟩)(hm1:(aA).length≤maxLen):∀(rest:List aI) (i1:Nat),(aA).drop i1=rest→jL aA aM k1 rest i1=some r→Ar Γ N Tryz.f156 (.q [[none]] (D.bool (r))) [1,1,0,1,0] (rest.length+1) (KR aA aM ((i1:Int))):=by
 intro rest
 induction rest with
 |nil=>
  intro i1 aO h
  rw[jL]at h
  refine aJ fun N1 aY aV=>?_
  exact((aK.ge aI.c aO).a [.hl 0 [] []]).ex hΓ aY (bE h)
 |cons aS aX ih1=>
  intro i1 aO h
  rw[jL]at h
  refine aJ fun N1 aY aV=>?_
  obtain⟨x30,h31,h⟩:=aB h
  obtain⟨CK,h33,h⟩:=aB h
  have bO:=(((((aK.lt aI.c aO).a [.n 8]).l (aQ aI.c 4 (dc aO) rfl)).l (bP aI.c 4 h31 rfl)).g (HV h33))
  obtain⟨h34,h⟩|⟨h34,h⟩:=aE h
  ·have h:=aC h;subst h;exact(bO.b h34).ret hΓ
  ·exact((bO.b h34).a [.cn [0,1,12,13] []]).ct hΓ aV (iS aO hm1) (ih1 (i1+1) (dn aO) h)
theorem x8{aA:List aI}{aM:List aI}{r:Bool}(h:qO aA aM=some r):Good Tryz.prog 156 [D.sl ((aA).map aI.c),D.sl ((aM).map aI.c)] (D.bool (r)):=by
 refine gd Tryz.func156 [[none]] 27 fun hr Γ hΓ=>?_
 rw[qO]at h
 obtain⟨h1,h⟩|⟨h1,h⟩:=aE h
 ·have h:=aC h;subst h;exact(aK.b h1).ret hΓ
 ·refine((aK.b h1).a [.cn [0,1,12,13] []]).lp hΓ (HW hΓ (fun h=>?_) (by have:=(bR.sl (hr _ (List.mem_of_getElem? (i:=0) rfl))).1;simpa using this) (aA) 0 rfl h)
  have h:=aC h;subst h;exact aK.ret hΓ
def l6(aA:List Int)(aM:List Int)(k1:Option Bool):List Int→Nat→Option Bool
 | [],i1=>(k1)
 |aS::aX,i1=>((oI (aM) ((i1:Int))).bind fun x22=>(bif (aS:Int) != (x22)then(some (false))else(l6 aA aM k1 aX (i1+1))))
def s4(aA:List Int)(aM:List Int):Option Bool:=(bif ((((aA).map iL).length:Int):Int) != ((((aM).map iL).length:Int))then(some (false))else(l6 aA aM (some (true)) (aA) 0))
def NR(aA:List Int)(aM:List Int)(bB:Int):St:=⟨[(0,D.sl ((aA).map iL)),(1,D.sl ((aM).map iL)),(12,D.int .i64 ((((aA).map iL).length:Int))),(13,D.int .i64 (bB))],[]⟩
theorem KS(hΓ:Γ.nt=26){aA:List Int}{aM:List Int}{r:Bool}{k1:Option Bool}(bE:k1=some r→Ax Γ N Tryz.f157 (.q [[none]] (D.bool (r))) [1,1,1] ⟨[],[]⟩)(hm1:(aA).length≤maxLen):∀(rest:List Int) (i1:Nat),(aA).drop i1=rest→l6 aA aM k1 rest i1=some r→Ar Γ N Tryz.f157 (.q [[none]] (D.bool (r))) [1,1,0,1,0] (rest.length+1) (NR aA aM ((i1:Int))):=by
 intro rest
 induction rest with
 |nil=>
  intro i1 aO h
  rw[l6]at h
  refine aJ fun N1 aY aV=>?_
  exact((aK.ge iL aO).a [.hl 0 [] []]).ex hΓ aY (bE h)
 |cons aS aX ih1=>
  intro i1 aO h
  rw[l6]at h
  refine aJ fun N1 aY aV=>?_
  obtain⟨x22,h23,h⟩:=aB h
  have bO:=((((aK.lt iL aO).a [.n 8]).l (aQ iL 1 (dc aO) rfl)).l (bP iL 1 h23 rfl))
  obtain⟨h24,h⟩|⟨h24,h⟩:=aE h
  ·have h:=aC h;subst h;exact(bO.b h24).ret hΓ
  ·exact((bO.b h24).a [.cn [0,1,12,13] []]).ct hΓ aV (iS aO hm1) (ih1 (i1+1) (dn aO) h)
theorem HX{aA:List Int}{aM:List Int}{r:Bool}(h:s4 aA aM=some r):Good Tryz.prog 157 [D.sl ((aA).map iL),D.sl ((aM).map iL)] (D.bool (r)):=by
 refine gd Tryz.func157 [[none]] 26 fun hr Γ hΓ=>?_
 rw[s4]at h
 obtain⟨h1,h⟩|⟨h1,h⟩:=aE h
 ·have h:=aC h;subst h;exact(aK.b h1).ret hΓ
 ·refine((aK.b h1).a [.cn [0,1,12,13] []]).lp hΓ (KS hΓ (fun h=>?_) (by have:=(bR.sl (hr _ (List.mem_of_getElem? (i:=0) rfl))).1;simpa using this) (aA) 0 rfl h)
  have h:=aC h;subst h;exact aK.ret hΓ
def oD(aA:aD)(aM:aD):Option Bool:=(bif (aA.rel:Bytes)==(aM.rel)then((nK (aA.args) (aM.args)).bind fun y2=>(some (y2)))else(some (false)))
theorem HY{aA:aD}{aM:aD}{r:Bool}(h:oD aA aM=some r):Good Tryz.prog 231 [D.agg (aD.c aA),D.agg (aD.c aM)] (D.bool (r)):=by
 refine gd Tryz.func231 [[none]] 17 fun hr Γ hΓ=>?_
 rw[oD]at h
 obtain⟨h1,h⟩|⟨h1,h⟩:=aE h
 ·obtain⟨y2,h3,h⟩:=aB h
  have h:=aC h;subst h;exact(((aK.r 5 h1).g (x6 h3)).b h1).ret hΓ
 ·have h:=aC h;subst h;exact(aK.r 6 h1).ret hΓ
def jM(aA:List aD)(aM:List aD)(k1:Option Bool):List aD→Nat→Option Bool
 | [],i1=>(k1)
 |aS::aX,i1=>((oI (aM) ((i1:Int))).bind fun x30=>((oD (aS) (x30)).bind fun CK=>(bif !(CK)then(some (false))else(jM aA aM k1 aX (i1+1)))))
def fC(aA:List aD)(aM:List aD):Option Bool:=(bif ((((aA).map aD.c).length:Int):Int) != ((((aM).map aD.c).length:Int))then(some (false))else(jM aA aM (some (true)) (aA) 0))
def KT(aA:List aD)(aM:List aD)(bB:Int):St:=⟨[(0,D.sl ((aA).map aD.c)),(1,D.sl ((aM).map aD.c)),(12,D.int .i64 ((((aA).map aD.c).length:Int))),(13,D.int .i64 (bB))],[]⟩
theorem HZ(hΓ:Γ.nt=27){aA:List aD}{aM:List aD}{r:Bool}{k1:Option Bool}(bE:k1=some r→Ax Γ N Tryz.f158 (.q [[none]] (D.bool (r))) [1,1,1] ⟨[],[]⟩)(hm1:(aA).length≤maxLen):∀(rest:List aD) (i1:Nat),(aA).drop i1=rest→jM aA aM k1 rest i1=some r→Ar Γ N Tryz.f158 (.q [[none]] (D.bool (r))) [1,1,0,1,0] (rest.length+1) (KT aA aM ((i1:Int))):=by
 intro rest
 induction rest with
 |nil=>
  intro i1 aO h
  rw[jM]at h
  refine aJ fun N1 aY aV=>?_
  exact((aK.ge aD.c aO).a [.hl 0 [] []]).ex hΓ aY (bE h)
 |cons aS aX ih1=>
  intro i1 aO h
  rw[jM]at h
  refine aJ fun N1 aY aV=>?_
  obtain⟨x30,h31,h⟩:=aB h
  obtain⟨CK,h33,h⟩:=aB h
  have bO:=(((((aK.lt aD.c aO).a [.n 8]).l (aQ aD.c 2 (dc aO) rfl)).l (bP aD.c 2 h31 rfl)).g (HY h33))
  obtain⟨h34,h⟩|⟨h34,h⟩:=aE h
  ·have h:=aC h;subst h;exact(bO.b h34).ret hΓ
  ·exact((bO.b h34).a [.cn [0,1,12,13] []]).ct hΓ aV (iS aO hm1) (ih1 (i1+1) (dn aO) h)
theorem sX{aA:List aD}{aM:List aD}{r:Bool}(h:fC aA aM=some r):Good Tryz.prog 158 [D.sl ((aA).map aD.c),D.sl ((aM).map aD.c)] (D.bool (r)):=by
 refine gd Tryz.func158 [[none]] 27 fun hr Γ hΓ=>?_
 rw[fC]at h
 obtain⟨h1,h⟩|⟨h1,h⟩:=aE h
 ·have h:=aC h;subst h;exact(aK.b h1).ret hΓ
 ·refine((aK.b h1).a [.cn [0,1,12,13] []]).lp hΓ (HZ hΓ (fun h=>?_) (by have:=(bR.sl (hr _ (List.mem_of_getElem? (i:=0) rfl))).1;simpa using this) (aA) 0 rfl h)
  have h:=aC h;subst h;exact aK.ret hΓ
def fT(aA:List aH)(aM:List aH)(k1:Option Bool):List aH→Nat→Option Bool
 | [],i1=>(k1)
 |aS::aX,i1=>((oI (aM) ((i1:Int))).bind fun x22=>(bif !((aS.var:Bytes)==(x22.var)&&(aS.value:Bytes)==(x22.value))then(some (false))else(fT aA aM k1 aX (i1+1))))
def nL(aA:List aH)(aM:List aH):Option Bool:=(bif ((((aA).map aH.c).length:Int):Int) != ((((aM).map aH.c).length:Int))then(some (false))else(fT aA aM (some (true)) (aA) 0))
def KU(aA:List aH)(aM:List aH)(bB:Int):St:=⟨[(0,D.sl ((aA).map aH.c)),(1,D.sl ((aM).map aH.c)),(12,D.int .i64 ((((aA).map aH.c).length:Int))),(13,D.int .i64 (bB))],[]⟩
theorem I0(hΓ:Γ.nt=26){aA:List aH}{aM:List aH}{r:Bool}{k1:Option Bool}(bE:k1=some r→Ax Γ N Tryz.f233 (.q [[none]] (D.bool (r))) [1,1,1] ⟨[],[]⟩)(hm1:(aA).length≤maxLen):∀(rest:List aH) (i1:Nat),(aA).drop i1=rest→fT aA aM k1 rest i1=some r→Ar Γ N Tryz.f233 (.q [[none]] (D.bool (r))) [1,1,0,1,0] (rest.length+1) (KU aA aM ((i1:Int))):=by
 intro rest
 induction rest with
 |nil=>
  intro i1 aO h
  rw[fT]at h
  refine aJ fun N1 aY aV=>?_
  exact((aK.ge aH.c aO).a [.hl 0 [] []]).ex hΓ aY (bE h)
 |cons aS aX ih1=>
  intro i1 aO h
  rw[fT]at h
  refine aJ fun N1 aY aV=>?_
  obtain⟨x22,h23,h⟩:=aB h
  have bO:=((((aK.lt aH.c aO).a [.n 8]).l (aQ aH.c 2 (dc aO) rfl)).l (bP aH.c 2 h23 rfl))
  obtain⟨h24,h⟩|⟨h24,h⟩:=aE h
  ·have h:=aC h;subst h;exact(bO.b h24).ret hΓ
  ·exact((bO.b h24).a [.cn [0,1,12,13] []]).ct hΓ aV (iS aO hm1) (ih1 (i1+1) (dn aO) h)
theorem FB{aA:List aH}{aM:List aH}{r:Bool}(h:nL aA aM=some r):Good Tryz.prog 233 [D.sl ((aA).map aH.c),D.sl ((aM).map aH.c)] (D.bool (r)):=by
 refine gd Tryz.func233 [[none]] 26 fun hr Γ hΓ=>?_
 rw[nL]at h
 obtain⟨h1,h⟩|⟨h1,h⟩:=aE h
 ·have h:=aC h;subst h;exact(aK.b h1).ret hΓ
 ·refine((aK.b h1).a [.cn [0,1,12,13] []]).lp hΓ (I0 hΓ (fun h=>?_) (by have:=(bR.sl (hr _ (List.mem_of_getElem? (i:=0) rfl))).1;simpa using this) (aA) 0 rfl h)
  have h:=aC h;subst h;exact aK.ret hΓ
def eO(aA:List aL)(aM:List aL)(k1:Option Bool):List aL→Nat→Option Bool
 | [],i1=>(k1)
 |aS::aX,i1=>((oI (aM) ((i1:Int))).bind fun x42=>((fC (aS.facts) (x42.facts)).bind fun y44=>(bif !(y44)then(some (false))else((nL (aS.bind) (x42.bind)).bind fun y47=>(bif !(y47)then(some (false))else(eO aA aM k1 aX (i1+1)))))))
def mD(aA:List aL)(aM:List aL):Option Bool:=(bif ((((aA).map aL.c).length:Int):Int) != ((((aM).map aL.c).length:Int))then(some (false))else(eO aA aM (some (true)) (aA) 0))
def I1(aA:List aL)(aM:List aL)(bB:Int):St:=⟨[(0,D.sl ((aA).map aL.c)),(1,D.sl ((aM).map aL.c)),(12,D.int .i64 ((((aA).map aL.c).length:Int))),(13,D.int .i64 (bB))],[]⟩
theorem FC(hΓ:Γ.nt=43){aA:List aL}{aM:List aL}{r:Bool}{k1:Option Bool}(bE:k1=some r→Ax Γ N Tryz.f161 (.q [[none]] (D.bool (r))) [1,1,1] ⟨[],[]⟩)(hm1:(aA).length≤maxLen):∀(rest:List aL) (i1:Nat),(aA).drop i1=rest→eO aA aM k1 rest i1=some r→Ar Γ N Tryz.f161 (.q [[none]] (D.bool (r))) [1,1,0,1,0] (rest.length+1) (I1 aA aM ((i1:Int))):=by
 intro rest
 induction rest with
 |nil=>
  intro i1 aO h
  rw[eO]at h
  refine aJ fun N1 aY aV=>?_
  exact((aK.ge aL.c aO).a [.hl 0 [] []]).ex hΓ aY (bE h)
 |cons aS aX ih1=>
  intro i1 aO h
  rw[eO]at h
  refine aJ fun N1 aY aV=>?_
  obtain⟨x42,h43,h⟩:=aB h
  obtain⟨y44,h45,h⟩:=aB h
  have mG:=(((((aK.lt aL.c aO).a [.n 23]).l (aQ aL.c 2 (dc aO) rfl)).l (bP aL.c 2 h43 rfl)).g (sX h45))
  obtain⟨h46,h⟩|⟨h46,h⟩:=aE h
  ·have h:=aC h;subst h;exact((mG.r 13 h46).T 1).ret hΓ
  ·obtain⟨y47,h48,h⟩:=aB h
   have l8:=(((((((mG.r 3 h46).l (aQ aL.c 2 (dc aO) rfl)).r 5 h46).l (bP aL.c 2 h43 rfl)).r 3 h46).g (FB h48)).r 2 h46)
   obtain⟨h49,h⟩|⟨h49,h⟩:=aE h
   ·have h:=aC h;subst h;exact(l8.b h49).ret hΓ
   ·exact((l8.b h49).a [.cn [0,1,12,13] []]).ct hΓ aV (iS aO hm1) (ih1 (i1+1) (dn aO) h)
theorem E2{aA:List aL}{aM:List aL}{r:Bool}(h:mD aA aM=some r):Good Tryz.prog 161 [D.sl ((aA).map aL.c),D.sl ((aM).map aL.c)] (D.bool (r)):=by
 refine gd Tryz.func161 [[none]] 43 fun hr Γ hΓ=>?_
 rw[mD]at h
 obtain⟨h1,h⟩|⟨h1,h⟩:=aE h
 ·have h:=aC h;subst h;exact(aK.b h1).ret hΓ
 ·refine((aK.b h1).a [.cn [0,1,12,13] []]).lp hΓ (FC hΓ (fun h=>?_) (by have:=(bR.sl (hr _ (List.mem_of_getElem? (i:=0) rfl))).1;simpa using this) (aA) 0 rfl h)
  have h:=aC h;subst h;exact aK.ret hΓ
def dJ(aA:aG)(aM:aG)(k1:Option Bool):List aN→Nat→Option Bool
 | [],i1=>(k1)
 |aS::aX,i1=>((oI (aM.aR) ((i1:Int))).bind fun x52=>((cG (aS.shape) (x52.shape)).bind fun SU=>(bif !(SU)then(some (false))else((fC (aS.facts) (x52.facts)).bind fun y57=>(bif !(y57)then(some (false))else(dJ aA aM k1 aX (i1+1)))))))
def dK(aA:aG)(aM:aG)(k2:Option Bool):List Node→Nat→Option Bool
 | [],i2=>(k2)
 |o8::wO,i2=>((oI (aM.nodes) ((i2:Int))).bind fun x108=>(bif (o8.parent:Int) != (x108.parent)then(some (false))else(bif (o8.iO:Int) != (x108.iO)then(some (false))else((gD (o8.cond) (x108.cond)).bind fun aEY=>(bif !(aEY)then(some (false))else((mD (o8.tokens) (x108.tokens)).bind fun aEZ=>(bif !(aEZ)then(some (false))else(dK aA aM k2 wO (i2+1)))))))))
def mR(aA:aG)(aM:aG):Option Bool:=((qO (aA.rules) (aM.rules)).bind fun y1=>(bif !(y1)then(some (false))else((s4 (aA.ends) (aM.ends)).bind fun y4=>(bif !(y4)then(some (false))else((fC (aA.facts) (aM.facts)).bind fun y7=>(bif !(y7)then(some (false))else(bif ((((aA.aR).map aN.c).length:Int):Int) != ((((aM.aR).map aN.c).length:Int))then(some (false))else(bif ((((aA.nodes).map Node.c).length:Int):Int) != ((((aM.nodes).map Node.c).length:Int))then(some (false))else(dJ aA aM (dK aA aM (some (true)) (aA.nodes) 0) (aA.aR) 0)))))))))
def E3(aA:aG)(aM:aG)(bB:Int):St:=⟨[(2,D.ptr 0 0),(3,D.ptr 1 0),(51,D.int .i64 ((((aA.aR).map aN.c).length:Int))),(52,D.int .i64 (bB))],[Ob.box (aG.c aA),Ob.box (aG.c aM)]⟩
theorem D0(hΓ:Γ.nt=131){aA:aG}{aM:aG}{r:Bool}{k1:Option Bool}(bE:k1=some r→Ax Γ N Tryz.f91 (.q [[none]] (D.bool (r))) [1,1,1] ⟨[(2,D.ptr 0 0),(3,D.ptr 1 0)],[Ob.box (aG.c aA),Ob.box (aG.c aM)]⟩)(hm1:(aA.aR).length≤maxLen):∀(rest:List aN) (i1:Nat),(aA.aR).drop i1=rest→dJ aA aM k1 rest i1=some r→Ar Γ N Tryz.f91 (.q [[none]] (D.bool (r))) [1,1,0,1,0] (rest.length+1) (E3 aA aM ((i1:Int))):=by
 intro rest
 induction rest with
 |nil=>
  intro i1 aO h
  rw[dJ]at h
  refine aJ fun N1 aY aV=>?_
  exact((aK.ge aN.c aO).a [.hl 0 [2,3] [0,1]]).ex hΓ aY (bE h)
 |cons aS aX ih1=>
  intro i1 aO h
  rw[dJ]at h
  refine aJ fun N1 aY aV=>?_
  obtain⟨x52,h53,h⟩:=aB h
  obtain⟨SU,h55,h⟩:=aB h
  have BQ:=(((((aK.lt aN.c aO).a [.n 27]).l (aQ aN.c 3 (dc aO) rfl)).l (bP aN.c 3 h53 rfl)).g (mC h55))
  obtain⟨h56,h⟩|⟨h56,h⟩:=aE h
  ·have h:=aC h;subst h;exact((BQ.r 15 h56).T 1).ret hΓ
  ·obtain⟨y57,h58,h⟩:=aB h
   have L9:=(((((((BQ.r 4 h56).l (aQ aN.c 3 (dc aO) rfl)).r 6 h56).l (bP aN.c 3 h53 rfl)).r 3 h56).g (sX h58)).r 2 h56)
   obtain⟨h59,h⟩|⟨h59,h⟩:=aE h
   ·have h:=aC h;subst h;exact(L9.b h59).ret hΓ
   ·exact((L9.b h59).a [.cn [2,3,51,52] [0,1]]).ct hΓ aV (iS aO hm1) (ih1 (i1+1) (dn aO) h)
def E4(aA:aG)(aM:aG)(bB:Int):St:=⟨[(2,D.ptr 0 0),(3,D.ptr 1 0),(88,D.int .i64 ((((aA.nodes).map Node.c).length:Int))),(89,D.int .i64 (bB))],[Ob.box (aG.c aA),Ob.box (aG.c aM)]⟩
theorem D1(hΓ:Γ.nt=131){aA:aG}{aM:aG}{r:Bool}{k2:Option Bool}(IK:k2=some r→Ax Γ N Tryz.f91 (.q [[none]] (D.bool (r))) [1,1,1,1] ⟨[],[]⟩)(hm2:(aA.nodes).length≤maxLen):∀(rest:List Node) (i2:Nat),(aA.nodes).drop i2=rest→dK aA aM k2 rest i2=some r→Ar Γ N Tryz.f91 (.q [[none]] (D.bool (r))) [1,1,1,0,1,0] (rest.length+1) (E4 aA aM ((i2:Int))):=by
 intro rest
 induction rest with
 |nil=>
  intro i2 hd2 h
  rw[dK]at h
  refine aJ fun N2 yR wG=>?_
  exact((aK.ge Node.c hd2).a [.hl 0 [] []]).ex hΓ yR (IK h)
 |cons o8 wO ih2=>
  intro i2 hd2 h
  rw[dK]at h
  refine aJ fun N2 yR wG=>?_
  obtain⟨x108,h109,h⟩:=aB h
  have S8:=((((aK.lt Node.c hd2).a [.n 13]).l (aQ Node.c 8 (dc hd2) rfl)).l (bP Node.c 8 h109 rfl))
  obtain⟨h110,h⟩|⟨h110,h⟩:=aE h
  ·have h:=aC h;subst h;exact((S8.r 6 h110).T 15).ret hΓ
  ·have CP:=(S8.r 6 h110)
   obtain⟨h111,h⟩|⟨h111,h⟩:=aE h
   ·have h:=aC h;subst h;exact((CP.r 7 h111).T 8).ret hΓ
   ·obtain⟨aEY,h113,h⟩:=aB h
    have P5:=(((CP.r 5 h111).g (tX h113)).r 2 h111)
    obtain⟨h114,h⟩|⟨h114,h⟩:=aE h
    ·have h:=aC h;subst h;exact((P5.r 7 h114).T 1).ret hΓ
    ·obtain⟨aEZ,h116,h⟩:=aB h
     have EM:=(((P5.r 5 h114).g (E2 h116)).r 2 h114)
     obtain⟨h117,h⟩|⟨h117,h⟩:=aE h
     ·have h:=aC h;subst h;exact(EM.b h117).ret hΓ
     ·exact((EM.b h117).a [.cn [2,3,88,89] [0,1]]).ct hΓ wG (iS hd2 hm2) (ih2 (i2+1) (dn hd2) h)
theorem C7{aA:aG}{aM:aG}{r:Bool}(h:mR aA aM=some r):Good Tryz.prog 91 [D.agg (aG.c aA),D.agg (aG.c aM)] (D.bool (r)):=by
 refine gd Tryz.func91 [[none]] 131 fun hr Γ hΓ=>?_
 rw[mR]at h
 obtain⟨y1,h2,h⟩:=aB h
 obtain⟨h3,h⟩|⟨h3,h⟩:=aE h
 ·have h:=aC h;subst h;exact(((aK.g (x8 h2)).r 7 h3).T 24).ret hΓ
 ·obtain⟨y4,h5,h⟩:=aB h
  have P6:=((((aK.g (x8 h2)).r 5 h3).g (HX h5)).r 2 h3)
  obtain⟨h6,h⟩|⟨h6,h⟩:=aE h
  ·have h:=aC h;subst h;exact((P6.r 7 h6).T 17).ret hΓ
  ·obtain⟨y7,h8,h⟩:=aB h
   have UJ:=(((P6.r 5 h6).g (sX h8)).r 2 h6)
   obtain⟨h9,h⟩|⟨h9,h⟩:=aE h
   ·have h:=aC h;subst h;exact((UJ.r 8 h9).T 9).ret hΓ
   ·have a74:=(UJ.r 8 h9)
    obtain⟨h10,h⟩|⟨h10,h⟩:=aE h
    ·have h:=aC h;subst h;exact((a74.r 8 h10).T 1).ret hΓ
    ·have a77:=(a74.r 8 h10)
     obtain⟨h11,h⟩|⟨h11,h⟩:=aE h
     ·have h:=aC h;subst h;exact(a77.b h11).ret hΓ
     ·refine((a77.b h11).a [.cn [2,3,51,52] [0,1]]).lp hΓ (D0 hΓ (fun h=>?_) (by have:=(bR.sl (bR.agg (hr _ (List.mem_of_getElem? (i:=0) rfl)) (.sl ((aA.aR).map aN.c)) (by simp))).1;simpa using this) (aA.aR) 0 rfl h)
      refine(aK.a [.cn [2,3,88,89] [0,1]]).lp hΓ (D1 hΓ (fun h=>?_) (by have:=(bR.sl (bR.agg (hr _ (List.mem_of_getElem? (i:=0) rfl)) (.sl ((aA.nodes).map Node.c)) (by simp))).1;simpa using this) (aA.nodes) 0 rfl h)
      have h:=aC h;subst h;exact aK.ret hΓ
def nM(aA:aG):Option Bool:=((rW (aA.rules)).bind fun y1=>(bif y1 then((rX (aA.facts)).bind fun y4=>(bif y4 then(bif decide ((aA.bJ:Int)≥(0))then((wL (aA.rules) (aA.facts) (0)).bind fun y8=>((mR (aA) (y8)).bind fun QZ=>(some (QZ))))else(some (false)))else(some (false))))else(some (false))))
theorem FD{aA:aG}{r:Bool}(h:nM aA=some r):Good Tryz.prog 39 [D.agg (aG.c aA)] (D.bool (r)):=by
 refine gd Tryz.func39 [[none]] 25 fun hr Γ hΓ=>?_
 rw[nM]at h
 obtain⟨y1,h2,h⟩:=aB h
 have jO:=((aK.a [.n 20]).g (HN h2))
 obtain⟨h3,h⟩|⟨h3,h⟩:=aE h
 ·obtain⟨y4,h5,h⟩:=aB h
  have bO:=(((jO.r 3 h3).g (HO h5)).b h3)
  obtain⟨h6,h⟩|⟨h6,h⟩:=aE h
  ·have mG:=(bO.r 4 h6)
   obtain⟨h7,h⟩|⟨h7,h⟩:=aE h
   ·obtain⟨y8,h9,h⟩:=aB h
    obtain⟨QZ,h11,h⟩:=aB h
    have h:=aC h;subst h;exact(((((mG.r 6 h7).g (Q9 h9)).b h7).g (C7 h11)).b h7).ret hΓ
   ·have h:=aC h;subst h;exact(mG.r 8 h7).ret hΓ
  ·have h:=aC h;subst h;exact((bO.r 4 h6).F 8).ret hΓ
 ·have h:=aC h;subst h;exact((jO.r 4 h3).F 12).ret hΓ
end Go.Cx
namespace Go.Cx
open Go.RowKit Go.Proofs
set_option linter.unusedVariables false
set_option linter.unusedSimpArgs false
theorem zZ{α:Type}{a pre xs:List α}{x:α}(h:a=pre++x::xs):oI a (pre.length:Int)=some x:=by
 unfold oI
 have:a[pre.length]?=some x:=by rw[h];simp
 simp[this]
theorem UO{n b:Nat}(hn:n≤1099511627776)(hb:b≤128):room n b=true:=by
 unfold room maxLen
 have:n*b≤1099511627776*128:=Nat.mul_le_mul hn hb
 simp
 omega
theorem n7{α:Type}{w:List α}{c:α→List D}{y:List D}{b:Nat}(h:w.length<1099511627776)(hb:b≤128):room ((w.map c).length+([y]).length) b=true:=UO (by simp;omega) hb
theorem a78{α β:Type}{w:List α}{v:List β}{c:α→List D}{d:β→List D}{b:Nat}(h:w.length+v.length≤1099511627776)(hb:b≤128):room ((w.map c).length+(v.map d).length) b=true:=UO (by simp;omega) hb
theorem a0e{β:Type}{v:List β}{d:β→List D}{b:Nat}(h:v.length≤1099511627776)(hb:b≤128):room ((([]:List (List D))).length+(v.map d).length) b=true:=UO (by simp;omega) hb
theorem wM{α:Type}{l:List α}(h:l.length≤1099511627776):decide (l.length≤maxLen)=true:=by unfold maxLen;simp;omega
theorem SX{α β γ:Type}{c:β→List D}{b:Nat}{f:α→Option β}{g:α→β}{L:List α→Nat→List β→Option γ}{k:List β→Option γ}(hb:b≤128)(rD:∀i w,L [] i w=k w)
 (qU:∀x xs i w,L (x::xs) i w=(f x).bind fun y=>bif room ((w.map c).length+([c y]).length) b then L xs (i+1) (w++[y])else none):
 ∀(l:List α) (i:Nat) (w:List β),(∀x∈l,f x=some (g x))→w.length+l.length≤1099511627776→L l i w=k (w++l.map g):=by
 intro l
 induction l with
 |nil=>intro i w _ _;simp[rD]
 |cons x xs ih=>
  intro i w hf hl
  simp only[List.length_cons]at hl
  rw[qU,hf x (by simp),Option.bind_some,n7 (by omega) hb,cond_true,ih _ _ (fun y hy=>hf y (by simp[hy])) (by simp;omega)]
  simp
theorem a4e{α:Type}{f:α→Option Bool}{p:α→Bool}{L:List α→Nat→Option Bool}{k:Option Bool}(rD:∀i,L [] i=k)
 (qU:∀x xs i,L (x::xs) i=(f x).bind fun y=>bif !y then some false else L xs (i+1)):∀(l:List α) (i:Nat),(∀x∈l,f x=some (p x))→L l i=bif l.all p then k else some false:=by
 intro l
 induction l with
 |nil=>intro i _;simp[rD]
 |cons x xs ih=>
  intro i hf
  rw[qU,hf x (by simp),Option.bind_some,ih _ (fun y hy=>hf y (by simp[hy])),List.all_cons]
  cases p x<;>simp
theorem qP:∀(a:Bytes),Op.bytesLess a a=false
 | []=>rfl
 |x::a=>by simp[Op.bytesLess,qP a]
theorem B5:∀ {a b c:Bytes},Op.bytesLess a b=true→Op.bytesLess b c=true→Op.bytesLess a c=true
 | [],b,[],_,h2=>by cases b<;>simp[Op.bytesLess]at h2
 | [],b,_::_,_,_=>by simp[Op.bytesLess]
 |_::_,[],_,h1,_=>by simp[Op.bytesLess]at h1
 |_::_,_::_,[],_,h2=>by simp[Op.bytesLess]at h2
 |x::a,y::b,z::c,h1,h2=>by
  simp only[Op.bytesLess,Bool.or_eq_true,decide_eq_true_eq,Bool.and_eq_true,beq_iff_eq]at h1 h2⊢
  rcases h1 with h1|⟨rfl,h1⟩
  ·rcases h2 with h2|⟨rfl,h2⟩
   ·exact .inl (UInt8.lt_trans h1 h2)
   ·exact .inl h1
  ·rcases h2 with h2|⟨rfl,h2⟩
   ·exact .inl h2
   ·exact .inr ⟨rfl,B5 h1 h2⟩
theorem NS:∀ {a b:Bytes},Op.bytesLess a b=false→Op.bytesLess b a=false→a=b
 | [],[],_,_=>rfl
 | [],_::_,h,_=>by simp[Op.bytesLess]at h
 |_::_,[],_,h=>by simp[Op.bytesLess]at h
 |x::a,y::b,h1,h2=>by
  simp only[Op.bytesLess,Bool.or_eq_false_iff,decide_eq_false_iff_not,Bool.and_eq_false_iff,beq_eq_false_iff_ne,ne_eq]at h1 h2
  have e:x=y:=by
   have h3:=h1.1;have h4:=h2.1
   rw[UInt8.lt_iff_toNat_lt]at h3 h4
   exact UInt8.toNat_inj.1 (by omega)
  subst e
  rw[NS (h1.2.resolve_left (by simp)) (h2.2.resolve_left (by simp))]
theorem UP{a b:Bytes}(h:Op.bytesLess a b=true):Op.bytesLess b a=false:=by
 cases hb:Op.bytesLess b a with
 |false=>rfl
 |true=>have:=B5 h hb;rw[qP]at this;cases this
def SS(l:List Bytes):Prop:=l.Pairwise fun a b=>Op.bytesLess a b=true
theorem RJ:∀ {a b:List Bytes},SS a→SS b→(∀x,x∈a↔x∈b)→a=b
 | [],[],_,_,_=>rfl
 | [],y::b,_,_,h=>by have:=(h y).2 (by simp);cases this
 |x::a,[],_,_,h=>by have:=(h x).1 (by simp);cases this
 |x::a,y::b,h1,h2,h=>by
  obtain⟨p1,p2⟩:=List.pairwise_cons.1 h1
  obtain⟨q1,q2⟩:=List.pairwise_cons.1 h2
  have e:x=y:=by
   refine NS ?_ ?_
   ·cases hb:Op.bytesLess x y with
    |false=>rfl
    |true=>
     rcases List.mem_cons.1 ((h x).1 (by simp))with rfl|hx
     ·exact(qP x▸hb).symm
     ·have:=UP (q1 x hx);rw[hb]at this;exact this
   ·cases hb:Op.bytesLess y x with
    |false=>rfl
    |true=>
     rcases List.mem_cons.1 ((h y).2 (by simp))with rfl|hx
     ·exact(qP y▸hb).symm
     ·have:=UP (p1 y hx);rw[hb]at this;exact this
  subst e
  rw[RJ p2 q2 (fun z=>?_)]
  constructor
  ·intro hz
   rcases List.mem_cons.1 ((h z).1 (by simp[hz]))with rfl|VE
   ·have:=p1 z hz;rw[qP]at this;cases this
   ·exact VE
  ·intro hz
   rcases List.mem_cons.1 ((h z).2 (by simp[hz]))with rfl|VE
   ·have:=q1 z hz;rw[qP]at this;cases this
   ·exact VE
def yV:List Bytes→Bytes→List Bytes
 | [],s=>[s]
 |x::xs,s=>bif Op.bytesLess x s then x::yV xs s else bif x==s then x::xs else s::x::xs
theorem UQ:∀ {l:List Bytes} {s y:Bytes},y∈yV l s↔y=s∨y∈l
 | [],s,y=>by simp[yV]
 |x::xs,s,y=>by
  simp only[yV]
  cases Op.bytesLess x s with
  |true=>simp only[cond_true,List.mem_cons,UQ (l:=xs)];constructor<;>(rintro(h|h|h)<;>simp[h])
  |false=>
   simp only[cond_false]
   cases hx:x==s with
   |true=>
    simp only[beq_iff_eq]at hx
    subst hx
    simp
   |false=>simp
theorem a3G:∀ {l:List Bytes} {s:Bytes},SS l→SS (yV l s)
 | [],s,_=>by simp[yV,SS]
 |x::xs,s,h=>by
  obtain⟨p1,p2⟩:=List.pairwise_cons.1 h
  simp only[yV]
  cases hb:Op.bytesLess x s with
  |true=>
   simp only[cond_true]
   refine List.pairwise_cons.2 ⟨fun y hy=>?_,a3G p2⟩
   rcases UQ.1 hy with rfl|hy
   ·exact hb
   ·exact p1 y hy
  |false=>
   simp only[cond_false]
   cases hx:x==s with
   |true=>exact h
   |false=>
    have hs:Op.bytesLess s x=true:=by
     cases hc:Op.bytesLess s x with
     |true=>rfl
     |false=>have:=NS hb hc;subst this;simp at hx
    refine List.pairwise_cons.2 ⟨fun y hy=>?_,h⟩
    rcases List.mem_cons.1 hy with rfl|hy
    ·exact hs
    ·exact B5 hs (p1 y hy)
theorem B6:∀(l:List Bytes) (s:Bytes),(yV l s).length≤l.length+1
 | [],s=>by simp[yV]
 |x::xs,s=>by
  have:=B6 xs s
  simp only[yV]
  cases Op.bytesLess x s<;>simp only[cond_true,cond_false,List.length_cons]
  ·cases x==s<;>simp
  ·omega
def cD(l:List Bytes):List Bytes:=l.foldl yV []
theorem I2:∀(l a:List Bytes) (y:Bytes),y∈l.foldl yV a↔y∈a∨y∈l
 | [],a,y=>by simp
 |x::l,a,y=>by
  rw[List.foldl_cons,I2 l,UQ]
  simp only[List.mem_cons]
  constructor
  ·rintro((h|h)|h)<;>simp[h]
  ·rintro(h|h|h)<;>simp[h]
theorem LA:∀(l:List Bytes) {a:List Bytes},SS a→SS (l.foldl yV a)
 | [],a,h=>h
 |x::l,a,h=>LA l (a3G h)
theorem I3:∀(l a:List Bytes),(l.foldl yV a).length≤a.length+l.length
 | [],a=>by simp
 |x::l,a=>by
  have h1:=I3 l (yV a x)
  have h2:=B6 a x
  rw[List.foldl_cons,List.length_cons];omega
theorem uA{l:List Bytes}{y:Bytes}:y∈cD l↔y∈l:=by unfold cD;rw[I2];simp
theorem UR(l:List Bytes):SS (cD l):=LA l (by simp[SS])
theorem oF(l:List Bytes):(cD l).length≤l.length:=by have:=I3 l [];simpa[cD]using this
theorem I4{a b:List Bytes}(h:∀x,x∈a↔x∈b):cD a=cD b:=RJ (UR a) (UR b) (fun x=>by rw[uA,uA,h])
theorem a2K(a:List Bytes)(x:Bytes):yV (cD a) x=cD (a++[x]):=by simp[cD]
theorem a2L(a b:List Bytes):b.foldl yV (cD a)=cD (a++b):=by simp[cD]
theorem I5(a b:List Bytes):(cD b).foldl yV (cD a)=cD (a++b):=by
 rw[a2L]
 exact I4 (fun x=>by simp[uA])
theorem lD(l:List Bytes)(v:Bytes):(cD l).contains v=l.contains v:=by
 rw[Bool.eq_iff_iff]
 simp[uA]
def in1(x:UInt8):Bool:=decide ((x.toNat:Int)≥97)&&decide ((x.toNat:Int)≤122)
def in2(x:UInt8):Bool:=decide ((x.toNat:Int)≥48)&&decide ((x.toNat:Int)≤57)
def ab(x:UInt8):Bool:=in1 x||in2 x
def a4f(s:Bytes):Bool:=decide ((s.length:Int)≥1)&&decide ((s.length:Int)≤8)
def iK(s:Bytes):Bool:=s.all ab&&a4f s
def aAa:Bytes→Bool
 | []=>false
 |x::_=>decide ((x.toNat:Int)≥97)
def zN(s:Bytes):Bool:=iK s&&aAa s
def lE:Bytes→Bool
 | []=>false
 |x::t=>decide ((x.toNat:Int)=63)&&iK t
def tA(s:Bytes):Bool:=iK s||lE s
theorem RL{s:Bytes}(h:iK s=true):1≤s.length∧s.length≤8:=by
 simp only[iK,a4f,Bool.and_eq_true,decide_eq_true_eq]at h;omega
theorem a4g{s:Bytes}(h:zN s=true):1≤s.length∧s.length≤8:=by
 simp only[zN,Bool.and_eq_true]at h;exact RL h.1
theorem a79{s:Bytes}(h:lE s=true):1≤s.length∧s.length≤9:=by
 cases s with
 |nil=>cases h
 |cons x t=>simp only[lE,Bool.and_eq_true]at h;have:=RL h.2;simp;omega
theorem a4h{s:Bytes}(h:tA s=true):1≤s.length∧s.length≤9:=by
 simp only[tA,Bool.or_eq_true]at h
 rcases h with h|h
 ·have:=RL h;omega
 ·exact a79 h
theorem E5{s:Bytes}(h:lE s=true):iK s=false:=by
 cases s with
 |nil=>cases h
 |cons x t=>
  simp only[lE,Bool.and_eq_true,decide_eq_true_eq]at h
  simp only[iK,List.all_cons,ab,in1,in2]
  have:(x.toNat:Int)=63:=h.1
  simp[this]
theorem aAb(x:UInt8):IntKind.i64.wrap ((x.toNat:Nat):Int)=(x.toNat:Int):=dY (rC.i64.2 (by have:=x.toNat_lt;omega))
theorem a3H{n:Nat}(h:n≤1099511627776):IntKind.i64.wrap ((n:Int)+1)=((n+1:Nat):Int):=by rw[dY (rC.i64.2 (by omega))];omega
theorem aAc{n:Nat}(h:1≤n):SK n (some (D.int .i64 1)) none=some (1,n):=by
 unfold SK
 have:(0:Int)≤1∧(1:Int).toNat≤n:=⟨by decide,h⟩
 simp only[if_pos this]
 rfl
theorem QA(a b c:Int):gV a b c=some (decide (a≥b)&&decide (a≤c)):=by
 unfold gV
 cases decide (a≥b)<;>rfl
theorem aC4(a:Bytes)(k:Option Bool)(ha:a.length≤1048576):∀(rest pre:Bytes),a=pre++rest→∀n,rest.length<n→eV a k n (pre.length:Int)=bif rest.all ab then k else some false:=by
 intro rest
 induction rest with
 |nil=>
  intro pre h n hn
  obtain⟨m,rfl⟩:∃m,n=m+1:=⟨n-1,by simp at hn;omega⟩
  have e1:decide ((pre.length:Int)<(a.length:Int))=false:=by simp[h]
  rw[eV,e1];rfl
 |cons x xs ih=>
  intro pre h n hn
  obtain⟨m,rfl⟩:∃m,n=m+1:=⟨n-1,by simp at hn;omega⟩
  have hl:a.length=pre.length+(xs.length+1):=by rw[h];simp
  have e1:decide ((pre.length:Int)<(a.length:Int))=true:=by rw[hl];simp;omega
  have e4:IntKind.i64.wrap ((pre.length:Int)+1)=((pre++[x]).length:Int):=by rw[a3H (by omega)];simp
  have t:=ih (pre++[x]) (by simp[h]) m (by simp at hn;omega)
  rw[eV,e1,cond_true,zZ h,Option.bind_some,aAb,QA,QA,Option.bind_some,Option.bind_some,e4,t,List.all_cons]
  show(bif !in1 x then(bif !in2 x then _ else _)else _)=bif (in1 x||in2 x)&&xs.all ab then k else some false
  cases in1 x<;>cases in2 x<;>simp
theorem S9(a:Bytes)(ha:a.length≤1048576):cE a=some (iK a):=by
 unfold cE
 refine(aC4 a _ ha a [] rfl fuel (by unfold fuel;omega)).trans ?_
 rw[QA,Option.bind_some]
 show _=some (a.all ab&&a4f a)
 cases a.all ab<;>rfl
theorem aC5(a:Bytes)(k:Option Bool)(ha:a.length≤1048576):∀(rest pre:Bytes),a=pre++rest→∀n,rest.length<n→cR a k n (pre.length:Int)=bif rest.all ab then k else some false:=by
 intro rest
 induction rest with
 |nil=>
  intro pre h n hn
  obtain⟨m,rfl⟩:∃m,n=m+1:=⟨n-1,by simp at hn;omega⟩
  have e1:decide ((pre.length:Int)<(a.length:Int))=false:=by simp[h]
  rw[cR,e1];rfl
 |cons x xs ih=>
  intro pre h n hn
  obtain⟨m,rfl⟩:∃m,n=m+1:=⟨n-1,by simp at hn;omega⟩
  have hl:a.length=pre.length+(xs.length+1):=by rw[h];simp
  have e1:decide ((pre.length:Int)<(a.length:Int))=true:=by rw[hl];simp;omega
  have e4:IntKind.i64.wrap ((pre.length:Int)+1)=((pre++[x]).length:Int):=by rw[a3H (by omega)];simp
  have t:=ih (pre++[x]) (by simp[h]) m (by simp at hn;omega)
  rw[cR,e1,cond_true,zZ h,Option.bind_some,e4,t,List.all_cons]
  have c1:decide ((x.toNat:Int)≥97)= !decide ((x.toNat:Int)<97):=by rw[Bool.eq_iff_iff];simp
  have c2:decide ((x.toNat:Int)≤122)= !decide ((x.toNat:Int)>122):=by rw[Bool.eq_iff_iff];simp
  have c3:decide ((x.toNat:Int)≥48)= !decide ((x.toNat:Int)<48):=by rw[Bool.eq_iff_iff];simp
  have c4:decide ((x.toNat:Int)≤57)= !decide ((x.toNat:Int)>57):=by rw[Bool.eq_iff_iff];simp
  rw[ab,in1,in2,c1,c2,c3,c4]
  cases decide ((x.toNat:Int)<97)<;>cases decide ((x.toNat:Int)>122)<;>cases decide ((x.toNat:Int)<48)<;>cases decide ((x.toNat:Int)>57)<;>simp
theorem SA(a:Bytes)(ha:a.length≤1048576):cF a=some (iK a):=by
 unfold cF
 rw[show cR a (some true) fuel 0=_ from aC5 a _ ha a [] rfl fuel (by unfold fuel;omega)]
 have c1:decide ((a.length:Int)≥1)= !decide ((a.length:Int)<1):=by rw[Bool.eq_iff_iff];simp
 have c2:decide ((a.length:Int)≤8)= !decide ((a.length:Int)>8):=by rw[Bool.eq_iff_iff];simp
 rw[iK,a4f,c1,c2]
 cases decide ((a.length:Int)<1)<;>cases decide ((a.length:Int)>8)<;>cases a.all ab<;>rfl
theorem a7A(a:Bytes)(ha:a.length≤1048576):oZ a=some (zN a):=by
 unfold oZ
 rw[S9 a ha,Option.bind_some,zN]
 cases h:iK a with
 |false=>rfl
 |true=>
  cases a with
  |nil=>simp[iK,a4f]at h
  |cons x xs=>
   rw[show oI (x::xs) 0=some x from rfl]
   simp only[cond_true,Option.bind_some,aAb,QA,Bool.true_and,Option.some.injEq,aAa]
   simp only[iK,List.all_cons,ab,in1,in2,Bool.and_eq_true,Bool.or_eq_true,decide_eq_true_eq]at h
   rw[Bool.eq_iff_iff]
   simp only[Bool.and_eq_true,decide_eq_true_eq]
   omega
theorem a7B(a:Bytes)(ha:a.length≤1048576):p8 a=some (zN a):=by
 unfold p8
 rw[SA a ha,Option.bind_some,zN]
 cases h:iK a with
 |false=>rfl
 |true=>
  cases a with
  |nil=>simp[iK,a4f]at h
  |cons x xs=>rfl
theorem a0f(a:Bytes)(ha:a.length≤1048576):dU a=some (lE a):=by
 unfold dU
 cases a with
 |nil=>rfl
 |cons x t=>
  simp only[List.length_cons]at ha
  rw[show oI (x::t) 0=some x from rfl,Option.bind_some,aAc (by simp),Option.bind_some]
  have e:(((x::t).take ((x::t).length)).drop 1)=t:=by simp
  simp only[e,S9 t (by omega),Option.bind_some,lE,cB]
  cases t with
  |nil=>cases decide ((x.toNat:Int)=63)<;>rfl
  |cons y t=>
   have e2:decide ((((x::y::t).length:Int):Int)>1)=true:=by simp;omega
   rw[e2]
   cases decide ((x.toNat:Int)=63)<;>simp
theorem a4i(a:Bytes)(ha:a.length≤1048576):iW a=some (lE a):=by
 unfold iW
 cases a with
 |nil=>rfl
 |cons x t=>
  simp only[List.length_cons]at ha
  rw[show oI (x::t) 0=some x from rfl,Option.bind_some,aAc (by simp),Option.bind_some]
  have e:(((x::t).take ((x::t).length)).drop 1)=t:=by simp
  simp only[e,SA t (by omega),Option.bind_some,lE,cB]
  cases t with
  |nil=>cases decide ((x.toNat:Int)=63)<;>rfl
  |cons y t=>
   have e2:decide ((((x::y::t).length:Int):Int)>1)=true:=by simp;omega
   rw[e2]
   cases decide ((x.toNat:Int)=63)<;>simp
theorem a7C(a:Bytes)(ha:a.length≤1048576):eP a=some (tA a):=by
 unfold eP tA
 rw[S9 a ha,a0f a ha]
 cases iK a<;>simp
theorem a7D(a:Bytes)(ha:a.length≤1048576):eT a=some (tA a):=by
 unfold eT tA
 rw[SA a ha,a4i a ha]
 cases iK a<;>simp
theorem a7E(l:List Bytes)(h:l.length≤1099511627776):q9 l=some l:=by
 unfold q9;rw[a0e h (by decide)];rfl
theorem YK(l:List Bytes)(h:l.length≤1099511627776):kR l=some l:=by
 unfold kR;rw[a0e h (by decide)];rfl
theorem a7F(a b:List Bytes):kJ a b=some (decide (a=b)):=by
 unfold kJ
 exact WN (c:=tx) (f:=fun x y=>some (x==y)) (fun k=>fX a b k) (fun _ _=>rfl) (fun _ _ _ _=>rfl) (fun x y=>by rw[Option.some.injEq,Bool.eq_iff_iff];simp)
theorem a7G(a b:List Bytes):nK a b=some (decide (a=b)):=by
 unfold nK
 exact WN (c:=tx) (f:=fun x y=>some (x==y)) (fun k=>jK a b k) (fun _ _=>rfl) (fun _ _ _ _=>rfl) (fun x y=>by rw[Option.some.injEq,Bool.eq_iff_iff];simp)
theorem aC6(a b:List Int):s4 a b=some (decide (a=b)):=by
 unfold s4
 exact WN (c:=iL) (f:=fun x y=>some (x==y)) (fun k=>l6 a b k) (fun _ _=>rfl) (fun _ _ _ _=>rfl) (fun x y=>by rw[Option.some.injEq,Bool.eq_iff_iff];simp)
theorem a7H(l:List Bytes)(v:Bytes):dM l v=some (l.contains v):=by
 unfold dM
 have:∀(r:List Bytes) (i:Nat),fL l v (some false) r i=some (r.contains v):=by
  intro r
  induction r with
  |nil=>intro i;rfl
  |cons x r ih=>
   intro i
   rw[fL,ih,List.contains_cons]
   have:(x==v)=(v==x):=by rw[Bool.eq_iff_iff,beq_iff_eq,beq_iff_eq];exact eq_comm
   rw[this]
   cases v==x<;>rfl
 exact this l 0
theorem a9G(l:List Bytes)(v:Bytes):iY l v=some (l.contains v):=by
 unfold iY
 have:∀(r:List Bytes) (i:Nat),iX l v (some false) r i=some (r.contains v):=by
  intro r
  induction r with
  |nil=>intro i;rfl
  |cons x r ih=>
   intro i
   rw[iX,ih,List.contains_cons]
   have:(x==v)=(v==x):=by rw[Bool.eq_iff_iff,beq_iff_eq,beq_iff_eq];exact eq_comm
   rw[this]
   cases v==x<;>rfl
 exact this l 0
theorem aAd(a:List Bytes)(s:Bytes)(k:Bool→List Bytes→Option (List Bytes)):∀(l:List Bytes) (i:Nat) (w:List Bytes),w.length+l.length<1099511627776→
 bQ a s k l i true w=k true (w++l):=by
 intro l
 induction l with
 |nil=>intro i w _;simp[bQ]
 |cons x xs ih=>
  intro i w h
  simp only[List.length_cons]at h
  rw[bQ,Bool.not_true,cond_false,n7 (by omega) (by decide),cond_true,ih _ _ (by simp;omega)]
  simp
theorem aEa(a:List Bytes)(s:Bytes)(k:Bool→List Bytes→Option (List Bytes))(hk:∀w,w.length<1099511627776→k false w=some (w++[s]))(hk2:∀w,k true w=some w):∀(l:List Bytes) (i:Nat) (w:List Bytes),w.length+l.length+1<1099511627776→
 bQ a s k l i false w=some (w++yV l s):=by
 intro l
 induction l with
 |nil=>intro i w h;rw[bQ,hk w (by omega)];rfl
 |cons x xs ih=>
  intro i w h
  simp only[List.length_cons]at h
  rw[bQ,Bool.not_false,cond_true,yV]
  cases Op.bytesLess x s with
  |true=>
   simp only[Bool.not_true,cond_false,cond_true]
   rw[n7 (by omega) (by decide),cond_true,ih _ _ (by simp;omega)]
   simp
  |false=>
   simp only[Bool.not_false,cond_true,cond_false]
   cases x==s with
   |true=>
    simp only[Bool.not_true,cond_false,cond_true]
    rw[n7 (by omega) (by decide),cond_true,aAd _ _ _ _ _ _ (by simp;omega),hk2]
    simp
   |false=>
    simp only[Bool.not_false,cond_true,cond_false]
    rw[n7 (by omega) (by decide),cond_true]
    have e:room (((w.map tx)++[[D.str s]]).length+([[D.str x]]).length) 16=true:=UO (by simp;omega) (by decide)
    rw[e,cond_true,aAd _ _ _ _ _ _ (by simp;omega),hk2]
    simp
theorem a2M(l:List Bytes)(s:Bytes)(h:l.length+1<1099511627776):iQ l s=some (yV l s):=by
 unfold iQ
 rw[aEa l s _ (fun w hw=>by simp only[Bool.not_false,cond_true];rw[n7 hw (by decide)];rfl) (fun w=>by simp) l 0 [] (by simpa using h)]
 rfl
def dd:Option Bytes→List Bytes→List Bytes
 |_,[]=>[]
 |p,x::xs=>if p=some x then dd (some x) xs else x::dd (some x) xs
theorem a2N:∀ {l:List Bytes} {p:Option Bytes} {y:Bytes},y∈dd p l→y∈l
 | [],p,y,h=>by cases h
 |x::xs,p,y,h=>by
  simp only[dd]at h
  split at h
  ·exact List.mem_cons.2 (.inr (a2N h))
  ·rcases List.mem_cons.1 h with rfl|h
   ·simp
   ·exact List.mem_cons.2 (.inr (a2N h))
theorem a7I:∀ {l:List Bytes} {p:Option Bytes} {y:Bytes},y∈l→p=some y∨y∈dd p l
 |x::xs,p,y,h=>by
  simp only[dd]
  rcases List.mem_cons.1 h with rfl|h
  ·by_cases hp:p=some y
   ·exact .inl hp
   ·rw[if_neg hp];exact .inr (by simp)
  ·have:=a7I (p:=some x) h
   split
   ·rename_i hp
    rcases this with e|e
    ·exact .inl (hp.trans e)
    ·exact .inr e
   ·rcases this with e|e
    ·cases e;exact .inr (by simp)
    ·exact .inr (by simp[e])
theorem aAe:∀ {l:List Bytes} {p:Option Bytes},l.Pairwise (fun a b=>Op.bytesLess b a=false)→(∀q,p=some q→∀y∈l,Op.bytesLess y q=false)→SS (dd p l)∧∀q,p=some q→∀y∈dd p l,Op.bytesLess q y=true
 | [],p,_,_=>⟨by simp[dd,SS],by simp[dd]⟩
 |x::xs,p,h,hp=>by
  obtain⟨p1,p2⟩:=List.pairwise_cons.1 h
  obtain⟨i1,i2⟩:=aAe (l:=xs) (p:=some x) p2 (fun q hq y hy=>by cases hq;exact p1 y hy)
  simp only[dd]
  split
  ·rename_i he
   exact⟨i1,fun q hq y hy=>by rw[he]at hq;cases hq;exact i2 x rfl y hy⟩
  ·rename_i he
   refine⟨List.pairwise_cons.2 ⟨fun y hy=>i2 x rfl y hy,i1⟩,fun q hq y hy=>?_⟩
   have hqx:Op.bytesLess q x=true:=by
    cases hc:Op.bytesLess q x with
    |true=>rfl
    |false=>exact absurd (by rw[hq,NS hc (hp q hq x (by simp))]) he
   rcases List.mem_cons.1 hy with rfl|hy
   ·exact hqx
   ·exact B5 hqx (i2 x rfl y hy)
theorem a7J(l:List Bytes):lX l=l.mergeSort (fun x y=> !Op.bytesLess y x):=by
 unfold lX
 congr 1
 funext x y
 rw[Go.Proofs.bytesLess_eq]
 rw[Bool.eq_iff_iff]
 simp[List.not_lt]
theorem YL(l:List Bytes):(lX l).Pairwise (fun a b=>Op.bytesLess b a=false):=by
 rw[a7J]
 have:=List.pairwise_mergeSort (le:=fun x y=> !Op.bytesLess y x) (fun a b c h1 h2=>by
  simp only[Bool.not_eq_true']at h1 h2⊢
  cases hc:Op.bytesLess c a with
  |false=>rfl
  |true=>
   cases hb:Op.bytesLess b a with
   |true=>rw[h1]at hb;cases hb
   |false=>
    cases hb2:Op.bytesLess a b with
    |true=>have:=B5 hc hb2;rw[h2]at this;cases this
    |false=>have:=NS hb hb2;subst this;rw[h2]at hc;cases hc) (fun a b=>by
  cases hc:Op.bytesLess b a with
  |false=>simp
  |true=>simp[UP hc]) l
 exact this.imp (fun h=>by simpa using h)
theorem a9H(l:List Bytes):dd none (lX l)=cD l:=by
 refine RJ (aAe (YL l) (by simp)).1 (UR l) (fun x=>?_)
 rw[uA]
 have hm:x∈lX l↔x∈l:=(AH l).mem_iff
 constructor
 ·intro h;exact hm.1 (a2N h)
 ·intro h
  rcases a7I (p:=none) (hm.2 h)with h|h
  ·cases h
  ·exact h
theorem a7K(a:List Bytes)(k:List Bytes→Option (List Bytes))(ha:a.length≤1099511627775):∀(rest pre:List Bytes) (w:List Bytes),lX ([]++a)=pre++rest→w.length+rest.length≤1099511627775→
 bK a k rest pre.length w=k (w++dd pre.getLast? rest):=by
 have hlen:(lX ([]++a)).length=a.length:=(AH _).length_eq
 intro rest
 induction rest with
 |nil=>intro pre w _ _;simp[bK,dd]
 |cons x xs ih=>
  intro pre w h hw
  simp only[List.length_cons]at hw
  have hl:pre.length+(xs.length+1)=a.length:=by rw[←hlen,h];simp
  have t:=fun w'=>ih (pre++[x]) w' (by rw[h];simp)
  simp only[List.length_append,List.length_cons,List.length_nil,List.getLast?_concat]at t
  rw[bK]
  rcases List.eq_nil_or_concat pre with rfl|⟨p,z,hpz⟩
  ·have e0:(((([]:List Bytes).length:Int):Int)==0)=true:=rfl
   rw[e0,cond_true,n7 (by omega) (by decide),cond_true,t _ (by simp;omega)]
   simp[dd]
  ·rw[List.concat_eq_append]at hpz
   subst hpz
   have e0:(((((p++[z]).length:Int)):Int)==0)=false:=by simp;omega
   have e1:IntKind.i64.wrap ((((p++[z]).length:Int))-1)=(p.length:Int):=by
    rw[dY (rC.i64.2 (by simp at hl⊢;omega))];simp
   have e2:oI (lX ([]++a)) (p.length:Int)=some z:=zZ (xs:=x::xs) (by rw[h];simp)
   rw[e0,cond_false,e1,e2,Option.bind_some]
   simp only[dd,List.getLast?_concat]
   by_cases hz:z=x
   ·subst hz
    have e3:((z:Bytes)==z)=true:=by simp
    rw[e3,Bool.not_true,cond_false,t _ (by omega),if_pos rfl]
   ·have e3:((z:Bytes)==x)=false:=by simpa using hz
    rw[e3,Bool.not_false,cond_true,n7 (by omega) (by decide),cond_true,t _ (by simp;omega),if_neg (by simpa using hz)]
    simp
theorem YM(l:List Bytes)(h:l.length<1099511627775):gN l=some (cD l):=by
 have hlen:(lX ([]++l)).length=l.length:=(AH _).length_eq
 unfold gN
 have e1:decide ((([]:List Bytes)++l).length<4611686018427387904)=true:=by simp;omega
 rw[a0e (by omega) (by decide),cond_true,e1,cond_true,wM (by rw[hlen];omega),cond_true]
 have:=a7K l (fun q=>some q) (by omega) (lX ([]++l)) [] [] rfl (by rw[hlen];simp;omega)
 rw[show([]:List Bytes).length=0 from rfl]at this
 rw[this,←a9H]
 simp
end Go.Cx
