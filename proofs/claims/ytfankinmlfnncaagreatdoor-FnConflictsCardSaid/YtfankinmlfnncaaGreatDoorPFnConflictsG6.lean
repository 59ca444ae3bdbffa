/- What functions of the program compute, and the walks that show it. No condition. -/
import Derived.Test.YtfankinmlfnncaaGreatDoorPFnConflictsG5
import Derived.Test.YtfankinmlfnncaaGreatDoorPFnConflictsG3
import Derived.Sort.Walk0
import Derived.Lib.ItoaNum
import Derived.Lib.ItoaLen
import Derived.Lib.Atoi
set_option linter.unusedVariables false
set_option linter.unusedSimpArgs false
namespace Go.Cx
open Go.RowKit Go.Proofs Tryz
set_option maxRecDepth 100000
variable{Γ:tZ}{N:Nat->St->Prop}
def eZ(aC:aJ)(aZ:aE)(k1:Option (aJ×Int)):bX->Nat->Option (aJ×Int)
 | [],i1=>(k1)
 |bS::cZ,i1=>((fN bS.shape aZ).bind fun qM=>(bif qM then(some (aC,(i1:Int)))else(eZ aC aZ k1 cZ (i1+1))))
def iI(aC:aJ)(aZ:aE):Option (aJ×Int):=(bif decide (aC.bG.length<=maxLen)then(eZ aC aZ (bif room ((aC.bG.map af.c).length+([[D.str aZ.rel,D.sl (aZ.args.map tx),D.sl ([])]]).length) 64 then(some ((⟨aC.rules,aC.ends,aC.bG++([(⟨aZ,[]⟩:af)]),aC.nodes,aC.facts,aC.cg⟩:aJ),IntKind.i64.wrap ((((aC.bG.map af.c)++([[D.str aZ.rel,D.sl (aZ.args.map tx),D.sl ([])]])).length:Int)-1)))else none) aC.bG 0)else none)
def zI(hG:Value)(aC:aJ)(aZ:aE)(dP:Int):St:=⟨[(0,D.ptr 0 0),(3,D.ptr 1 0),(10,D.acc 2),(11,D.int .i64 ((aC.bG.map af.c).length:Int)),(12,D.int .i64 dP)],[Ob.zq [D.acc 3,D.acc 4,D.acc 2,D.acc 5,D.acc 6,D.int .i64 aC.cg] hG,Ob.box [D.str aZ.rel,D.acc 7],Ob.row .uq 83 3 (aC.bG.map af.c),Ob.row .uq 63 4 (aC.rules.map aI.c),Ob.row .uq 3 1 (aC.ends.map nA),Ob.row .uq 74 8 (aC.nodes.map Node.c),Ob.row .uq 43 2 (aC.facts.map aE.c),Ob.row .uq 9 1 (aZ.args.map tx)]⟩
theorem ye(hΓ:Γ.nt=40){hG:Value}{aC:aJ}{aZ:aE}{r:aJ×Int}{k1:Option (aJ×Int)}(dY:k1=some r->Ax Γ N f217 (.p [[some (63,4),some (3,1),some (83,3),some (74,8),some (43,2),none],[none]] hG (cD r.1) (D.int .i64 r.2)) [1,1] ⟨[(0,D.ptr 0 0),(3,D.ptr 1 0)],[Ob.zq [D.acc 2,D.acc 3,D.acc 4,D.acc 5,D.acc 6,D.int .i64 aC.cg] hG,Ob.box [D.str aZ.rel,D.acc 7],Ob.row .uq 63 4 (aC.rules.map aI.c),Ob.row .uq 3 1 (aC.ends.map nA),Ob.row .uq 83 3 (aC.bG.map af.c),Ob.row .uq 74 8 (aC.nodes.map Node.c),Ob.row .uq 43 2 (aC.facts.map aE.c),Ob.row .uq 9 1 (aZ.args.map tx)]⟩)(hm1:aC.bG.length<=maxLen):∀(rest:bX) (i1:Nat),aC.bG.drop i1=rest->eZ aC aZ k1 rest i1=some r->Ar Γ N f217 (.p [[some (63,4),some (3,1),some (83,3),some (74,8),some (43,2),none],[none]] hG (cD r.1) (D.int .i64 r.2)) [1,0,1,0] (rest.length+1) (zI hG aC aZ (i1:Int)):=by
 intro rest
 induction rest with
 |nil=>
  intro i1 b9 h;rw[eZ]at h;refine aV fun N1 cj cL=>?_
  exact((aX.ge af.c b9).a [.hl 0 [0,3] [0,1,3,4,2,5,6,7]]).ex hΓ cj (dY h)
 |cons bS cZ ih1=>
  intro i1 b9 h;rw[eZ]at h;refine aV fun N1 cj cL=>?_
  obtain⟨qM,h23,h⟩:=aB h;have gG:=((((aX.lt af.c b9).i (mK af.c 3 (dc b9))).o 3 3 .uq (cX af.c (dc b9))).g (ng h23))
  obtain⟨h24,h⟩|⟨h24,h⟩:=aO h
  ·cases h;exact(gG.b h24).ret hΓ
  ·exact((gG.b h24).a [.cn [0,3,10,11,12] [0,1,2,3,4,5,6,7]]).ct hΓ cL (iS b9 hm1) (ih1 (i1+1) (dn b9) h)
theorem sB{aC:aJ}{aZ:aE}{r:aJ×Int}(h:iI aC aZ=some r):gx prog 217 (cD aC) (cD r.1) [D.agg [D.str aZ.rel,D.fr 9 1 (aZ.args.map tx)]] (D.int .i64 r.2):=by
 refine Ii func217 [[some (63,4),some (3,1),some (83,3),some (74,8),some (43,2),none],[none]] 40 [D.acc 1,D.acc 2,D.acc 3,D.acc 4,D.acc 5,D.int .i64 aC.cg] [D.agg [D.str aZ.rel,D.acc 6]] [Ob.row .uq 63 4 (aC.rules.map aI.c),Ob.row .uq 3 1 (aC.ends.map nA),Ob.row .uq 83 3 (aC.bG.map af.c),Ob.row .uq 74 8 (aC.nodes.map Node.c),Ob.row .uq 43 2 (aC.facts.map aE.c),Ob.row .uq 9 1 (aZ.args.map tx)] fun hr hG Γ hΓ=>?_
 rw[iI]at h;obtain⟨h27,h⟩:=bU h;refine(aX.a [.cn [0,3,10,11,12] [0,7,3,1,2,4,5,6]]).lp hΓ (ye hΓ (fun h=>?_) (bY h27) aC.bG 0 rfl h);obtain⟨h26,h⟩:=bU h;cases h;exact((aX.w (bp h26)).a [.n2 [0,1,2,3,4,5,6,7,8,9,10,11] [0,1,2,3,4,5,6,7,8,9,10,11] 7 9 [0,1,2,3,4] [4,7,8]]).rts hΓ (D.gw [D.int .i64 (IntKind.i64.wrap ((((aC.bG.map af.c)++([[D.str aZ.rel,D.sl (aZ.args.map tx),D.sl ([])]])).length:Int)-1)),D.agg [D.fr 63 4 (aC.rules.map aI.c),D.fr 3 1 (aC.ends.map nA),D.fr 83 3 ((aC.bG.map af.c)++([[D.str aZ.rel,D.sl (aZ.args.map tx),D.sl ([])]])),D.fr 74 8 (aC.nodes.map Node.c),D.fr 43 2 (aC.facts.map aE.c),D.int .i64 aC.cg],D.val hG]) (by first|rfl| (simp only[mA]<;>rfl)| (simp only[cD,mA]<;>rfl))
def dG(aC:aJ)(aZ:Int)(ck:aN)(k1:Option (aJ×Int)):bR->Nat->Option (aJ×Int)
 | [],i1=>(k1)
 |bS::cZ,i1=>(bif decide (((i1:Int):Int)>0)then(bif (bS.parent:Int)==aZ then((jg bS.cond ck).bind fun F4=>(bif F4 then(some (aC,(i1:Int)))else(dG aC aZ ck k1 cZ (i1+1))))else(dG aC aZ ck k1 cZ (i1+1)))else(dG aC aZ ck k1 cZ (i1+1)))
def k8(aC:aJ)(aZ:Int)(ck:aN):Option (aJ×Int):=(bif decide (aC.nodes.length<=maxLen)then(dG aC aZ ck (bif (ck.kind:Int)==1 then((qz ck.pat).bind fun PK=>((iI aC PK).bind fun Kw=>((ij ck).bind fun Mo=>(bif room ((Kw.1.nodes.map Node.c).length+([[D.int .i64 aZ,D.int .i64 Mo.kind,D.str Mo.pat.rel,D.sl (Mo.pat.args.map tx),D.str Mo.left,D.str Mo.right,D.int .i64 Kw.2,D.sl ([])]]).length) 120 then(some ((⟨Kw.1.rules,Kw.1.ends,Kw.1.bG,Kw.1.nodes++([(⟨aZ,Mo,Kw.2,[]⟩:Node)]),Kw.1.facts,Kw.1.cg⟩:aJ),IntKind.i64.wrap ((((Kw.1.nodes.map Node.c)++([[D.int .i64 aZ,D.int .i64 Mo.kind,D.str Mo.pat.rel,D.sl (Mo.pat.args.map tx),D.str Mo.left,D.str Mo.right,D.int .i64 Kw.2,D.sl ([])]])).length:Int)-1)))else none))))else(bif (ck.kind:Int)==2 then((qz ck.pat).bind fun y47=>((iI aC y47).bind fun KC=>((ij ck).bind fun JJ=>(bif room ((KC.1.nodes.map Node.c).length+([[D.int .i64 aZ,D.int .i64 JJ.kind,D.str JJ.pat.rel,D.sl (JJ.pat.args.map tx),D.str JJ.left,D.str JJ.right,D.int .i64 KC.2,D.sl ([])]]).length) 120 then(some ((⟨KC.1.rules,KC.1.ends,KC.1.bG,KC.1.nodes++([(⟨aZ,JJ,KC.2,[]⟩:Node)]),KC.1.facts,KC.1.cg⟩:aJ),IntKind.i64.wrap ((((KC.1.nodes.map Node.c)++([[D.int .i64 aZ,D.int .i64 JJ.kind,D.str JJ.pat.rel,D.sl (JJ.pat.args.map tx),D.str JJ.left,D.str JJ.right,D.int .i64 KC.2,D.sl ([])]])).length:Int)-1)))else none))))else((ij ck).bind fun Mp=>(bif room ((aC.nodes.map Node.c).length+([[D.int .i64 aZ,D.int .i64 Mp.kind,D.str Mp.pat.rel,D.sl (Mp.pat.args.map tx),D.str Mp.left,D.str Mp.right,D.int .i64 (-1),D.sl ([])]]).length) 120 then(some ((⟨aC.rules,aC.ends,aC.bG,aC.nodes++([(⟨aZ,Mp, -1,[]⟩:Node)]),aC.facts,aC.cg⟩:aJ),IntKind.i64.wrap ((((aC.nodes.map Node.c)++([[D.int .i64 aZ,D.int .i64 Mp.kind,D.str Mp.pat.rel,D.sl (Mp.pat.args.map tx),D.str Mp.left,D.str Mp.right,D.int .i64 (-1),D.sl ([])]])).length:Int)-1)))else none)))) aC.nodes 0)else none)
def zJ(hG:Value)(aC:aJ)(aZ:Int)(ck:aN)(dP:Int):St:=⟨[(0,D.ptr 0 0),(1,D.int .i64 aZ),(5,D.ptr 1 0),(13,D.acc 2),(14,D.int .i64 ((aC.nodes.map Node.c).length:Int)),(15,D.int .i64 dP)],[Ob.zq [D.acc 3,D.acc 4,D.acc 5,D.acc 2,D.acc 6,D.int .i64 aC.cg] hG,Ob.box (aN.c ck),Ob.row .uq 74 8 (aC.nodes.map Node.c),Ob.row .uq 63 4 (aC.rules.map aI.c),Ob.row .uq 3 1 (aC.ends.map nA),Ob.row .uq 83 3 (aC.bG.map af.c),Ob.row .uq 43 2 (aC.facts.map aE.c)]⟩
theorem yf(hΓ:Γ.nt=69){hG:Value}{aC:aJ}{aZ:Int}{ck:aN}{r:aJ×Int}{k1:Option (aJ×Int)}(dY:k1=some r->Ax Γ N f177 (.p [[some (63,4),some (3,1),some (83,3),some (74,8),some (43,2),none],[none]] hG (cD r.1) (D.int .i64 r.2)) [1,1] ⟨[(0,D.ptr 0 0),(1,D.int .i64 aZ),(5,D.ptr 1 0)],[Ob.zq [D.acc 2,D.acc 3,D.acc 4,D.acc 5,D.acc 6,D.int .i64 aC.cg] hG,Ob.box (aN.c ck),Ob.row .uq 63 4 (aC.rules.map aI.c),Ob.row .uq 3 1 (aC.ends.map nA),Ob.row .uq 83 3 (aC.bG.map af.c),Ob.row .uq 74 8 (aC.nodes.map Node.c),Ob.row .uq 43 2 (aC.facts.map aE.c)]⟩)(hm1:aC.nodes.length<=maxLen):∀(rest:bR) (i1:Nat),aC.nodes.drop i1=rest->dG aC aZ ck k1 rest i1=some r->Ar Γ N f177 (.p [[some (63,4),some (3,1),some (83,3),some (74,8),some (43,2),none],[none]] hG (cD r.1) (D.int .i64 r.2)) [1,0,1,0] (rest.length+1) (zJ hG aC aZ ck (i1:Int)):=by
 intro rest
 induction rest with
 |nil=>
  intro i1 b9 h;rw[dG]at h;refine aV fun N1 cj cL=>?_
  exact((aX.ge Node.c b9).a [.hl 0 [0,1,5] [0,1,3,4,5,2,6]]).ex hΓ cj (dY h)
 |cons bS cZ ih1=>
  intro i1 b9 h;rw[dG]at h;refine aV fun N1 cj cL=>?_
  have kX:=(((aX.lt Node.c b9).i (mK Node.c 8 (dc b9))).o 8 8 .uq (cX Node.c (dc b9)))
  obtain⟨h30,h⟩|⟨h30,h⟩:=aO h
  ·have sQ:=(kX.r 5 h30)
   obtain⟨h31,h⟩|⟨h31,h⟩:=aO h
   ·obtain⟨F4,h33,h⟩:=aB h;have vQ:=(((sQ.r 4 h31).g (tO h33)).b h31)
    obtain⟨h34,h⟩|⟨h34,h⟩:=aO h
    ·cases h;exact(vQ.b h34).ret hΓ
    ·exact((vQ.b h34).a [.cn [0,1,5,13,14,15] [0,1,2,3,4,5,6]]).ct hΓ cL (iS b9 hm1) (ih1 (i1+1) (dn b9) h)
   ·exact(((sQ.r 5 h31).F 1).a [.cn [0,1,5,13,14,15] [0,1,2,3,4,5,6]]).ct hΓ cL (iS b9 hm1) (ih1 (i1+1) (dn b9) h)
  ·exact(((kX.r 5 h30).F 6).a [.cn [0,1,5,13,14,15] [0,1,2,3,4,5,6]]).ct hΓ cL (iS b9 hm1) (ih1 (i1+1) (dn b9) h)
theorem yC{aC:aJ}{aZ:Int}{ck:aN}{r:aJ×Int}(h:k8 aC aZ ck=some r):gx prog 177 (cD aC) (cD r.1) [D.int .i64 aZ,D.agg (aN.c ck)] (D.int .i64 r.2):=by
 refine Ii func177 [[some (63,4),some (3,1),some (83,3),some (74,8),some (43,2),none],[none]] 69 [D.acc 1,D.acc 2,D.acc 3,D.acc 4,D.acc 5,D.int .i64 aC.cg] [D.int .i64 aZ,D.agg [D.int .i64 ck.kind,D.str ck.pat.rel,D.sl (ck.pat.args.map tx),D.str ck.left,D.str ck.right]] [Ob.row .uq 63 4 (aC.rules.map aI.c),Ob.row .uq 3 1 (aC.ends.map nA),Ob.row .uq 83 3 (aC.bG.map af.c),Ob.row .uq 74 8 (aC.nodes.map Node.c),Ob.row .uq 43 2 (aC.facts.map aE.c)] fun hr hG Γ hΓ=>?_
 rw[k8]at h;obtain⟨h63,h⟩:=bU h;refine(aX.a [.cn [0,1,5,13,14,15] [0,6,4,1,2,3,5]]).lp hΓ (yf hΓ (fun h=>?_) (bY h63) aC.nodes 0 rfl h);obtain⟨h35,h⟩|⟨h35,h⟩:=aO h
 ·obtain⟨PK,h37,h⟩:=aB h;obtain⟨Kw,h39,h⟩:=aB h;obtain⟨Mo,h44,h⟩:=aB h;obtain⟨h45,h⟩:=bU h;cases h;exact(((((((aX.r 4 h35).T 1).g (yS h37)).hp [[some (63,4),some (3,1),some (83,3),some (74,8),some (43,2),none],[none,some (9,1)]] (sB h39)).a [.n2 [0,1,2,3,4,5,6,7,8,9,10,11,12,13,14] [0,1,2,3,4,5,6,7,8,9,10,11,12,13,14] 10 12 [0,1,2,3,4] [11,13,14]]).g (nM h44)).w (bp h45)).rts hΓ (D.gw [D.int .i64 (IntKind.i64.wrap ((((Kw.1.nodes.map Node.c)++([[D.int .i64 aZ,D.int .i64 Mo.kind,D.str Mo.pat.rel,D.sl (Mo.pat.args.map tx),D.str Mo.left,D.str Mo.right,D.int .i64 Kw.2,D.sl ([])]])).length:Int)-1)),D.agg [D.fr 63 4 (Kw.1.rules.map aI.c),D.fr 3 1 (Kw.1.ends.map nA),D.fr 83 3 (Kw.1.bG.map af.c),D.fr 74 8 ((Kw.1.nodes.map Node.c)++([[D.int .i64 aZ,D.int .i64 Mo.kind,D.str Mo.pat.rel,D.sl (Mo.pat.args.map tx),D.str Mo.left,D.str Mo.right,D.int .i64 Kw.2,D.sl ([])]])),D.fr 43 2 (Kw.1.facts.map aE.c),D.int .i64 Kw.1.cg],D.val hG]) (by first|rfl| (simp only[mA]<;>rfl)| (simp only[cD,mA]<;>rfl))
 ·have yo:=(aX.r 4 h35)
  obtain⟨h46,h⟩|⟨h46,h⟩:=aO h
  ·obtain⟨y47,h48,h⟩:=aB h;obtain⟨KC,h50,h⟩:=aB h;obtain⟨JJ,h55,h⟩:=aB h;obtain⟨h56,h⟩:=bU h;cases h;exact((((((yo.b h46).g (yS h48)).hp [[some (63,4),some (3,1),some (83,3),some (74,8),some (43,2),none],[none,some (9,1)]] (sB h50)).a [.n2 [0,1,2,3,4,5,6,7,8,9,10,11,12,13,14] [0,1,2,3,4,5,6,7,8,9,10,11,12,13,14] 10 12 [0,1,2,3,4] [11,13,14]]).g (nM h55)).w (bp h56)).rts hΓ (D.gw [D.int .i64 (IntKind.i64.wrap ((((KC.1.nodes.map Node.c)++([[D.int .i64 aZ,D.int .i64 JJ.kind,D.str JJ.pat.rel,D.sl (JJ.pat.args.map tx),D.str JJ.left,D.str JJ.right,D.int .i64 KC.2,D.sl ([])]])).length:Int)-1)),D.agg [D.fr 63 4 (KC.1.rules.map aI.c),D.fr 3 1 (KC.1.ends.map nA),D.fr 83 3 (KC.1.bG.map af.c),D.fr 74 8 ((KC.1.nodes.map Node.c)++([[D.int .i64 aZ,D.int .i64 JJ.kind,D.str JJ.pat.rel,D.sl (JJ.pat.args.map tx),D.str JJ.left,D.str JJ.right,D.int .i64 KC.2,D.sl ([])]])),D.fr 43 2 (KC.1.facts.map aE.c),D.int .i64 KC.1.cg],D.val hG]) (by first|rfl| (simp only[mA]<;>rfl)| (simp only[cD,mA]<;>rfl))
  ·obtain⟨Mp,h61,h⟩:=aB h;obtain⟨h62,h⟩:=bU h;cases h;exact((((yo.b h46).a [.n2 [0,1,2,3,4,5,6,7,8,9,10,11,12,13,14] [0,1,2,3,4,5,6,7,8,9,10,11,12,13,14] 10 12 [0,1,2,3,4] [5,7,8]]).g (nM h61)).w (bp h62)).rts hΓ (D.gw [D.int .i64 (IntKind.i64.wrap ((((aC.nodes.map Node.c)++([[D.int .i64 aZ,D.int .i64 Mp.kind,D.str Mp.pat.rel,D.sl (Mp.pat.args.map tx),D.str Mp.left,D.str Mp.right,D.int .i64 (-1),D.sl ([])]])).length:Int)-1)),D.agg [D.fr 63 4 (aC.rules.map aI.c),D.fr 3 1 (aC.ends.map nA),D.fr 83 3 (aC.bG.map af.c),D.fr 74 8 ((aC.nodes.map Node.c)++([[D.int .i64 aZ,D.int .i64 Mp.kind,D.str Mp.pat.rel,D.sl (Mp.pat.args.map tx),D.str Mp.left,D.str Mp.right,D.int .i64 (-1),D.sl ([])]])),D.fr 43 2 (aC.facts.map aE.c),D.int .i64 aC.cg],D.val hG]) (by first|rfl| (simp only[mA]<;>rfl)| (simp only[cD,mA]<;>rfl))
def jK(aC:aq)(i1:Nat)(He:ah)(k2:Int->Int->aq->bK->bX->bR->aP->Option aJ):ah->Nat->Int->Int->aq->bK->bX->bR->aP->Option aJ
 | [],i2,qK,o8,Ap,ji,Aq,nC,As=>(k2 qK o8 Ap ji Aq nC As)
 |nD::uO,i2,qK,o8,Ap,ji,Aq,nC,As=>((k8 (⟨Ap,ji,Aq,nC,As,o8⟩:aJ) qK nD).bind fun xE=>(jK aC i1 He k2 uO (i2+1) xE.2 xE.1.cg xE.1.rules xE.1.ends xE.1.bG xE.1.nodes xE.1.facts))
def jJ(aC:aq)(k1:Int->aq->bK->bX->bR->aP->Option aJ):aq->Nat->Int->aq->bK->bX->bR->aP->Option aJ
 | [],i1,o7,lQ,cw,Am,tX,Ao=>(k1 o7 lQ cw Am tX Ao)
 |bS::cZ,i1,o7,lQ,cw,Am,tX,Ao=>((pu bS).bind fun He=>(bif decide (He.length<=maxLen)then(jK aC i1 He (fun(F6:Int) (vD:Int) (HT:aq) (vC:bK) (HU:bX) (rQ:bR) (HV:aP)=>(bif room ((vC.map nA).length+([[D.int .i64 F6]]).length) 8 then(jJ aC k1 cZ (i1+1) vD HT (vC++([F6])) HU rQ HV)else none)) He 0 0 o7 lQ cw Am tX Ao)else none))
def rF(aC:aq):Option aJ:=((rB aC).bind fun y1=>(jJ aC (fun(zv:Int) (oL:aq) (ew:bK) (MQ:bX) (uc:bR) (MR:aP)=>(some (⟨oL,ew,MQ,uc,MR,zv⟩:aJ))) aC 0 0 y1 ([]:bK) ([]:bX) ([(⟨-1,(⟨0,(⟨[],[]⟩:aE),[],[]⟩:aN), -1,[]⟩:Node)]) ([]:aP)))
def uK(aC:aq)(o7:Int)(W1:List aL)(W2:List aL)(W3:List aL)(W4:List aL)(W5:List aL)(dP:Int):St:=⟨[(2,D.ptr 0 0),(3,D.ptr 1 0),(14,D.sl (aC.map aI.c)),(15,D.int .i64 ((aC.map aI.c).length:Int)),(16,D.int .i64 dP)],[Ob.box [D.nil,D.nil,D.nil,D.nil,D.nil,D.int .i64 0],Ob.box [D.acc 2,D.acc 3,D.acc 4,D.acc 5,D.acc 6,D.int .i64 o7],Ob.row .uq 63 4 W1,Ob.row .uq 3 1 W2,Ob.row .uq 83 3 W3,Ob.row .uq 74 8 W4,Ob.row .uq 43 2 W5]⟩
def Fe(aC:aq)(i1:Nat)(He:ah)(qK:Int)(o8:Int)(W2:List aL)(W3:List aL)(W4:List aL)(W5:List aL)(W6:List aL)(dP:Int):St:=⟨[(2,D.ptr 0 0),(3,D.ptr 1 0),(6,D.int .i64 qK),(14,D.sl (aC.map aI.c)),(15,D.int .i64 ((aC.map aI.c).length:Int)),(16,D.int .i64 (i1:Int)),(21,D.acc 2),(22,D.int .i64 ((He.map aN.c).length:Int)),(23,D.int .i64 dP)],[Ob.box [D.nil,D.nil,D.nil,D.nil,D.nil,D.int .i64 0],Ob.box [D.acc 3,D.acc 4,D.acc 5,D.acc 6,D.acc 7,D.int .i64 o8],Ob.row .uq 71 5 (He.map aN.c),Ob.row .uq 63 4 W2,Ob.row .uq 3 1 W3,Ob.row .uq 83 3 W4,Ob.row .uq 74 8 W5,Ob.row .uq 43 2 W6]⟩
theorem E9(hΓ:Γ.nt=39){aC:aq}{i1:Nat}{He:ah}{r:aJ}{k2:Int->Int->aq->bK->bX->bR->aP->Option aJ}(AR:∀(F6:Int) (vD:Int) (HT:aq) (vC:bK) (HU:bX) (rQ:bR) (HV:aP),k2 F6 vD HT vC HU rQ HV=some r->Ax Γ N f106 (.q [[some (63,4),some (3,1),some (83,3),some (74,8),some (43,2),none]] (D.agg [D.fr 63 4 (r.rules.map aI.c),D.fr 3 1 (r.ends.map nA),D.fr 83 3 (r.bG.map af.c),D.fr 74 8 (r.nodes.map Node.c),D.fr 43 2 (r.facts.map aE.c),D.int .i64 r.cg])) [1,1,0,1,0,0,1,1,0,0,1,1,1] ⟨[(2,D.ptr 0 0),(3,D.ptr 1 0),(6,D.int .i64 F6),(14,D.sl (aC.map aI.c)),(15,D.int .i64 ((aC.map aI.c).length:Int)),(16,D.int .i64 (i1:Int))],[Ob.box [D.nil,D.nil,D.nil,D.nil,D.nil,D.int .i64 0],Ob.box [D.acc 2,D.acc 3,D.acc 4,D.acc 5,D.acc 6,D.int .i64 vD],Ob.row .uq 63 4 (HT.map aI.c),Ob.row .uq 3 1 (vC.map nA),Ob.row .uq 83 3 (HU.map af.c),Ob.row .uq 74 8 (rQ.map Node.c),Ob.row .uq 43 2 (HV.map aE.c)]⟩)(hm2:He.length<=maxLen):∀(rest:ah) (i2:Nat) (qK:Int) (o8:Int) (Ap:aq) (ji:bK) (Aq:bX) (nC:bR) (As:aP),He.drop i2=rest->jK aC i1 He k2 rest i2 qK o8 Ap ji Aq nC As=some r->Ar Γ N f106 (.q [[some (63,4),some (3,1),some (83,3),some (74,8),some (43,2),none]] (D.agg [D.fr 63 4 (r.rules.map aI.c),D.fr 3 1 (r.ends.map nA),D.fr 83 3 (r.bG.map af.c),D.fr 74 8 (r.nodes.map Node.c),D.fr 43 2 (r.facts.map aE.c),D.int .i64 r.cg])) [1,1,0,1,0,0,1,1,0,0,1,1,0,1,0] (rest.length+1) (Fe aC i1 He qK o8 (Ap.map aI.c) (ji.map nA) (Aq.map af.c) (nC.map Node.c) (As.map aE.c) (i2:Int)):=by
 intro rest
 induction rest with
 |nil=>
  intro i2 qK o8 Ap ji Aq nC As hd2 h;rw[jK]at h;refine aV fun N2 uk tD=>?_
  exact((aX.ge aN.c hd2).a [.hl 5 [2,3,6,14,15,16] [0,1,3,4,5,6,7]]).ex hΓ uk (AR qK o8 Ap ji Aq nC As h)
 |cons nD uO ih2=>
  intro i2 qK o8 Ap ji Aq nC As hd2 h;rw[jK]at h;refine aV fun N2 uk tD=>?_
  obtain⟨xE,h209,h⟩:=aB h;exact((((((aX.lt aN.c hd2).i (mK aN.c 5 (dc hd2))).o 5 5 .uq (cX aN.c (dc hd2))).a [.gp [[some (63,4),some (3,1),some (83,3),some (74,8),some (43,2),none],[none],[none,none,none,none,none]] (cD xE.1) (D.int .i64 xE.2)]).w (show gx prog 177 (cD (⟨Ap,ji,Aq,nC,As,o8⟩:aJ)) (cD xE.1) [D.int .i64 qK,D.agg (aN.c nD)] (D.int .i64 xE.2)from by simpa only[bI,ay,bt,br,cB]using yC h209)).a [.cn [2,3,6,14,15,16,21,22,23] [0,1,2,9,10,11,12,13]]).ct hΓ tD (iS hd2 hm2) (ih2 (i2+1) xE.2 xE.1.cg xE.1.rules xE.1.ends xE.1.bG xE.1.nodes xE.1.facts (dn hd2) h)
theorem E8(hΓ:Γ.nt=39){aC:aq}{r:aJ}{k1:Int->aq->bK->bX->bR->aP->Option aJ}(dY:∀(zv:Int) (oL:aq) (ew:bK) (MQ:bX) (uc:bR) (MR:aP),k1 zv oL ew MQ uc MR=some r->Ax Γ N f106 (.q [[some (63,4),some (3,1),some (83,3),some (74,8),some (43,2),none]] (D.agg [D.fr 63 4 (r.rules.map aI.c),D.fr 3 1 (r.ends.map nA),D.fr 83 3 (r.bG.map af.c),D.fr 74 8 (r.nodes.map Node.c),D.fr 43 2 (r.facts.map aE.c),D.int .i64 r.cg])) [1,1,1] ⟨[(2,D.ptr 0 0),(3,D.ptr 1 0)],[Ob.box [D.nil,D.nil,D.nil,D.nil,D.nil,D.int .i64 0],Ob.box [D.acc 2,D.acc 3,D.acc 4,D.acc 5,D.acc 6,D.int .i64 zv],Ob.row .uq 63 4 (oL.map aI.c),Ob.row .uq 3 1 (ew.map nA),Ob.row .uq 83 3 (MQ.map af.c),Ob.row .uq 74 8 (uc.map Node.c),Ob.row .uq 43 2 (MR.map aE.c)]⟩)(hm1:aC.length<=maxLen):∀(rest:aq) (i1:Nat) (o7:Int) (lQ:aq) (cw:bK) (Am:bX) (tX:bR) (Ao:aP),aC.drop i1=rest->jJ aC k1 rest i1 o7 lQ cw Am tX Ao=some r->Ar Γ N f106 (.q [[some (63,4),some (3,1),some (83,3),some (74,8),some (43,2),none]] (D.agg [D.fr 63 4 (r.rules.map aI.c),D.fr 3 1 (r.ends.map nA),D.fr 83 3 (r.bG.map af.c),D.fr 74 8 (r.nodes.map Node.c),D.fr 43 2 (r.facts.map aE.c),D.int .i64 r.cg])) [1,1,0,1,0] (rest.length+1) (uK aC o7 (lQ.map aI.c) (cw.map nA) (Am.map af.c) (tX.map Node.c) (Ao.map aE.c) (i1:Int)):=by
 intro rest
 induction rest with
 |nil=>
  intro i1 o7 lQ cw Am tX Ao b9 h;rw[jJ]at h;refine aV fun N1 cj cL=>?_
  exact((aX.ge aI.c b9).a [.hl 0 [2,3] [0,1,2,3,4,5,6]]).ex hΓ cj (dY o7 lQ cw Am tX Ao h)
 |cons bS cZ ih1=>
  intro i1 o7 lQ cw Am tX Ao b9 h;rw[jJ]at h;refine aV fun N1 cj cL=>?_
  obtain⟨He,h180,h⟩:=aB h;obtain⟨h211,h⟩:=bU h;refine((((aX.lt aI.c b9).l (bJ aI.c 4 (dc b9) rfl)).g (C3 h180)).a [.cn [2,3,6,14,15,16,21,22,23] [0,1,8,2,3,4,5,6]]).lp hΓ (E9 hΓ (fun F6 vD HT vC HU rQ HV h=>?_) (bY h211) He 0 0 o7 lQ cw Am tX Ao rfl h);obtain⟨h210,h⟩:=bU h;exact((aX.w (bp h210)).a [.cn [2,3,14,15,16] [0,1,2,8,4,5,6]]).cs hΓ cL (uK aC vD (HT.map aI.c) ((vC.map nA)++([[D.int .i64 F6]])) (HU.map af.c) (rQ.map Node.c) (HV.map aE.c) (IntKind.i64.wrap ((i1:Int)+1))) (by first| (simp only[iS b9 hm1,mA]<;>rfl)| (simp only[iS b9 hm1,mA,aE.c,aQ.c,aN.c,Action.c,aI.c,aY.c,ax.c,af.c,Node.c,aJ.c,dX.c]<;>rfl)) (ih1 (i1+1) vD HT (vC++([F6])) HU rQ HV (dn b9) h)
theorem DG{aC:aq}{r:aJ}(h:rF aC=some r):Good prog 106 [D.sl (aC.map aI.c)] (D.agg [D.fr 63 4 (r.rules.map aI.c),D.fr 3 1 (r.ends.map nA),D.fr 83 3 (r.bG.map af.c),D.fr 74 8 (r.nodes.map Node.c),D.fr 43 2 (r.facts.map aE.c),D.int .i64 r.cg]):=by
 refine gd func106 [[some (63,4),some (3,1),some (83,3),some (74,8),some (43,2),none]] 39 fun hr Γ hΓ=>?_
 rw[rF]at h;obtain⟨y1,h2,h⟩:=aB h;refine((aX.g (DA h2)).a [.pb 3 1 3 1,.pb 3 2 83 3,.pb 3 4 43 2,.cn [2,3,14,15,16] [0,3,1,4,5,2,6]]).lps hΓ (uK aC 0 (y1.map aI.c) ([]:List aL) ([]:List aL) ([[D.int .i64 (-1),D.int .i64 0,D.str ([]),D.sl ([]),D.str ([]),D.str ([]),D.int .i64 (-1),D.sl ([])]]) ([]:List aL) 0) (by first| (simp only[mA]<;>rfl)| (simp only[mA,aE.c,aQ.c,aN.c,Action.c,aI.c,aY.c,ax.c,af.c,Node.c,aJ.c,dX.c]<;>rfl)) (E8 hΓ (fun zv oL ew MQ uc MR h=>?_) (by have:=(iE.sl (hr _ (aD (i:=0) rfl))).1;simpa using this) aC 0 0 y1 ([]:bK) ([]:bX) ([(⟨-1,(⟨0,(⟨[],[]⟩:aE),[],[]⟩:aN), -1,[]⟩:Node)]) ([]:aP) rfl h);cases h;exact aX.ret hΓ
def iq(aC:aE):Option aE:=((mX aC.args).bind fun y1=>(some (⟨aC.rel,y1⟩:aE)))
theorem tP{aC:aE}{r:aE}(h:iq aC=some r):Good prog 143 [D.agg (aE.c aC)] (D.agg [D.str r.rel,D.fr 9 1 (r.args.map tx)]):=by
 refine gd func143 [[none,some (9,1)]] 9 fun hr Γ hΓ=>?_
 rw[iq]at h;obtain⟨y1,h2,h⟩:=aB h;cases h;exact((aX.a [.n 5]).g (sv h2)).ret hΓ
def lX(aC:aP)(k1:aP->Option aP):aP->Nat->aP->Option aP
 | [],i1,bN=>(k1 bN)
 |bS::cZ,i1,bN=>((iq bS).bind fun o9=>(bif room ((bN.map aE.c).length+([[D.str o9.rel,D.sl (o9.args.map tx)]]).length) 40 then(lX aC k1 cZ (i1+1) (bN++([o9])))else none))
def kG(aC:aP):Option aP:=(lX aC (fun(cC:aP)=>(some cC)) aC 0 ([]:aP))
def yU(aC:aP)(W0:List aL)(dP:Int):St:=⟨[(3,D.acc 0),(6,D.sl (aC.map aE.c)),(7,D.int .i64 ((aC.map aE.c).length:Int)),(8,D.int .i64 dP)],[Ob.row .uq 43 2 W0]⟩
theorem Dy(hΓ:Γ.nt=19){aC:aP}{r:aP}{k1:aP->Option aP}(dY:∀(cC:aP),k1 cC=some r->Ax Γ N f82 (.q [[some (43,2)]] (D.fr 43 2 (r.map aE.c))) [1,1,1] ⟨[(3,D.acc 0)],[Ob.row .uq 43 2 (cC.map aE.c)]⟩)(hm1:aC.length<=maxLen):∀(rest:aP) (i1:Nat) (bN:aP),aC.drop i1=rest->lX aC k1 rest i1 bN=some r->Ar Γ N f82 (.q [[some (43,2)]] (D.fr 43 2 (r.map aE.c))) [1,1,0,1,0] (rest.length+1) (yU aC (bN.map aE.c) (i1:Int)):=by
 intro rest
 induction rest with
 |nil=>
  intro i1 bN b9 h;rw[lX]at h;refine aV fun N1 cj cL=>?_
  exact((aX.ge aE.c b9).a [.hl 0 [3] [0]]).ex hΓ cj (dY bN h)
 |cons bS cZ ih1=>
  intro i1 bN b9 h;rw[lX]at h;refine aV fun N1 cj cL=>?_
  obtain⟨o9,h28,h⟩:=aB h;obtain⟨h29,h⟩:=bU h;exact(((((aX.lt aE.c b9).l (bJ aE.c 2 (dc b9) rfl)).g (tP h28)).w (bp h29)).a [.cn [3,6,7,8] [4]]).cs hΓ cL (yU aC ((bN.map aE.c)++([[D.str o9.rel,D.sl (o9.args.map tx)]])) (IntKind.i64.wrap ((i1:Int)+1))) (by first| (simp only[iS b9 hm1,mA]<;>rfl)| (simp only[iS b9 hm1,mA,aE.c,aQ.c,aN.c,Action.c,aI.c,aY.c,ax.c,af.c,Node.c,aJ.c,dX.c]<;>rfl)) (ih1 (i1+1) (bN++([o9])) (dn b9) h)
theorem su{aC:aP}{r:aP}(h:kG aC=some r):Good prog 82 [D.sl (aC.map aE.c)] (D.fr 43 2 (r.map aE.c)):=by
 refine gd func82 [[some (43,2)]] 19 fun hr Γ hΓ=>?_
 rw[kG]at h;refine(aX.a [.KW 3,.cn [3,6,7,8] [0]]).lp hΓ (Dy hΓ (fun cC h=>?_) (by have:=(iE.sl (hr _ (aD (i:=0) rfl))).1;simpa using this) aC 0 ([]:aP) rfl h);have h:=aK h;subst h;exact aX.ret hΓ
def gy(aC:aM)(k1:Option Bool):aM->Nat->Option Bool
 | [],i1=>(k1)
 |bS::cZ,i1=>((l6 bS.var).bind fun y50=>(bif !(y50)then(some false)else((fM bS.value).bind fun y53=>(bif !(y53)then(some false)else(bif decide (((i1:Int):Int)>0)then((iw aC (IntKind.i64.wrap ((i1:Int)-1))).bind fun x57=>(bif !(Op.bytesLess x57.var bS.var)then(some false)else(gy aC k1 cZ (i1+1))))else(gy aC k1 cZ (i1+1)))))))
def kB(aC:aM):Option Bool:=(bif decide ((((aC.map aQ.c).length:Int):Int)>6)then(some false)else(gy aC (some true) aC 0))
def FQ(aC:aM)(dP:Int):St:=⟨[(0,D.sl (aC.map aQ.c)),(8,D.sl (aC.map aQ.c)),(9,D.int .i64 ((aC.map aQ.c).length:Int)),(10,D.int .i64 dP)],[]⟩
theorem Ds(hΓ:Γ.nt=41){aC:aM}{r:Bool}{k1:Option Bool}(dY:k1=some r->Ax Γ N f146 (.q [[none]] (D.bool r)) [1,1,1] ⟨[],[]⟩)(hm1:aC.length<=maxLen):∀(rest:aM) (i1:Nat),aC.drop i1=rest->gy aC k1 rest i1=some r->Ar Γ N f146 (.q [[none]] (D.bool r)) [1,1,0,1,0] (rest.length+1) (FQ aC (i1:Int)):=by
 intro rest
 induction rest with
 |nil=>
  intro i1 b9 h;rw[gy]at h;refine aV fun N1 cj cL=>?_
  exact((aX.ge aQ.c b9).a [.hl 0 [] []]).ex hΓ cj (dY h)
 |cons bS cZ ih1=>
  intro i1 b9 h;rw[gy]at h;refine aV fun N1 cj cL=>?_
  obtain⟨y50,h51,h⟩:=aB h;have sQ:=((((aX.lt aQ.c b9).l (bJ aQ.c 2 (dc b9) rfl)).a [.n 22]).g (nZ h51))
  obtain⟨h52,h⟩|⟨h52,h⟩:=aO h
  ·have h:=aK h;subst h;exact((((sQ.r 5 h52).T 3).a [bF,bF,bF,bF,bF,bF,bF,bF,bF]).T 3).ret hΓ
  ·obtain⟨y53,h54,h⟩:=aB h;have vQ:=(((sQ.r 3 h52).g (eb h54)).r 2 h52)
   obtain⟨h55,h⟩|⟨h55,h⟩:=aO h
   ·have h:=aK h;subst h;exact((((vQ.r 3 h55).a [bF,bF,bF,bF,bF,bF,bF,bF,bF]).r 2 h55).T 1).ret hΓ
   ·have yo:=(vQ.r 3 h55)
    obtain⟨h56,h⟩|⟨h56,h⟩:=aO h
    ·obtain⟨x57,h58,h⟩:=aB h;have Es:=((((((yo.r 4 h56).l (er aQ.c 2 h58 rfl)).r 5 h56).b h55).b h56).b h55)
     obtain⟨h59,h⟩|⟨h59,h⟩:=aO h
     ·have h:=aK h;subst h;exact(Es.b h59).ret hΓ
     ·exact((Es.b h59).a [.cn [0,8,9,10] []]).ct hΓ cL (iS b9 hm1) (ih1 (i1+1) (dn b9) h)
    ·exact((((((yo.r 9 h56).b h55).b h56).b h55).F 1).a [.cn [0,8,9,10] []]).ct hΓ cL (iS b9 hm1) (ih1 (i1+1) (dn b9) h)
theorem mN{aC:aM}{r:Bool}(h:kB aC=some r):Good prog 146 [D.sl (aC.map aQ.c)] (D.bool r):=by
 refine gd func146 [[none]] 41 fun hr Γ hΓ=>?_
 rw[kB]at h;obtain⟨h1,h⟩|⟨h1,h⟩:=aO h
 ·have h:=aK h;subst h;exact(aX.b h1).ret hΓ
 ·refine((aX.b h1).a [.cn [0,8,9,10] []]).lp hΓ (Ds hΓ (fun h=>?_) (by have:=(iE.sl (hr _ (aD (i:=0) rfl))).1;simpa using this) aC 0 rfl h);have h:=aK h;subst h;exact aX.ret hΓ
def oY(aC:aM):Option aM:=(bif room (([]:List aL).length+(aC.map aQ.c).length) 32 then(some (([]:aM)++aC))else none)
theorem wW{aC:aM}{r:aM}(h:oY aC=some r):Good prog 147 [D.sl (aC.map aQ.c)] (D.fr 113 2 (r.map aQ.c)):=by
 refine gd func147 [[some (113,2)]] 5 fun hr Γ hΓ=>?_
 rw[oY]at h;obtain⟨h1,h⟩:=bU h;cases h;exact(((aX.w (bp h1)).w (show(∀r∈(aC.map aQ.c),r.length=2)/\(true=true->D.lK (aC.map aQ.c)=true)from⟨by first|simp| (intro r hr;obtain⟨x,_,rfl⟩:=cA.1 (bz (gL hr));rfl),by simp[D.lK,D.flat]⟩)).a [.KW 2,.fl true]).rts hΓ (D.fr 113 2 (([]:List aL)++(aC.map aQ.c))) (by first|rfl| (simp only[mA]<;>rfl)| (simp only[cD,mA]<;>rfl))
def l8(aC:aM)(aZ:Bytes)(k1:Option (Bytes×Bool)):aM->Nat->Option (Bytes×Bool)
 | [],i1=>(k1)
 |bS::cZ,i1=>(bif (bS.var:Bytes)==aZ then(some (bS.value,true))else(l8 aC aZ k1 cZ (i1+1)))
def nL(aC:aM)(aZ:Bytes):Option (Bytes×Bool):=((fM aZ).bind fun y1=>(bif y1 then(some (aZ,true))else((l6 aZ).bind fun y4=>(bif !(y4)then(some ([],false))else(l8 aC aZ (some ([],false)) aC 0)))))
def I3(aC:aM)(aZ:Bytes)(dP:Int):St:=⟨[(1,D.str aZ),(14,D.sl (aC.map aQ.c)),(15,D.int .i64 ((aC.map aQ.c).length:Int)),(16,D.int .i64 dP)],[]⟩
theorem Gm(hΓ:Γ.nt=27){aC:aM}{aZ:Bytes}{r:Bytes×Bool}{k1:Option (Bytes×Bool)}(dY:k1=some r->Ax Γ N f83 (.q [[none],[none]] (D.gw [D.str r.1,D.bool r.2])) [1,1,1,1] ⟨[],[]⟩)(hm1:aC.length<=maxLen):∀(rest:aM) (i1:Nat),aC.drop i1=rest->l8 aC aZ k1 rest i1=some r->Ar Γ N f83 (.q [[none],[none]] (D.gw [D.str r.1,D.bool r.2])) [1,1,1,0,1,0] (rest.length+1) (I3 aC aZ (i1:Int)):=by
 intro rest
 induction rest with
 |nil=>
  intro i1 b9 h;rw[l8]at h;refine aV fun N1 cj cL=>?_
  exact((aX.ge aQ.c b9).a [.hl 0 [] []]).ex hΓ cj (dY h)
 |cons bS cZ ih1=>
  intro i1 b9 h;rw[l8]at h;refine aV fun N1 cj cL=>?_
  have gG:=((aX.lt aQ.c b9).l (bJ aQ.c 2 (dc b9) rfl))
  obtain⟨h19,h⟩|⟨h19,h⟩:=aO h
  ·cases h;exact(gG.b h19).ret hΓ
  ·exact((gG.b h19).a [.cn [1,14,15,16] []]).ct hΓ cL (iS b9 hm1) (ih1 (i1+1) (dn b9) h)
theorem qh{aC:aM}{aZ:Bytes}{r:Bytes×Bool}(h:nL aC aZ=some r):Good prog 83 [D.sl (aC.map aQ.c),D.str aZ] (D.gw [D.str r.1,D.bool r.2]):=by
 refine gd func83 [[none],[none]] 27 fun hr Γ hΓ=>?_
 rw[nL]at h;obtain⟨y1,h2,h⟩:=aB h;obtain⟨h3,h⟩|⟨h3,h⟩:=aO h
 ·cases h;exact((aX.g (eb h2)).b h3).ret hΓ
 ·obtain⟨y4,h5,h⟩:=aB h;have kY:=(((aX.g (eb h2)).b h3).g (nZ h5))
  obtain⟨h6,h⟩|⟨h6,h⟩:=aO h
  ·cases h;exact(kY.b h6).ret hΓ
  ·refine((kY.b h6).a [.cn [1,14,15,16] []]).lp hΓ (Gm hΓ (fun h=>?_) (by have:=(iE.sl (hr _ (aD (i:=0) rfl))).1;simpa using this) aC 0 rfl h);cases h;exact aX.ret hΓ
def k9(aC:aM)(aZ:Bytes)(ck:Bytes)(k1:Bool->aM->Option (aM×Bool)):aM->Nat->Bool->aM->Option (aM×Bool)
 | [],i1,xq,bN=>(k1 xq bN)
 |bS::cZ,i1,xq,bN=>(bif !(xq)then(bif !(Op.bytesLess bS.var aZ||(bS.var:Bytes)==aZ)then(bif room ((bN.map aQ.c).length+([[D.str aZ,D.str ck]]).length) 32 then(bif room (((bN.map aQ.c)++([[D.str aZ,D.str ck]])).length+([[D.str bS.var,D.str bS.value]]).length) 32 then(k9 aC aZ ck k1 cZ (i1+1) true ((bN++([(⟨aZ,ck⟩:aQ)]))++([bS])))else none)else none)else(bif room ((bN.map aQ.c).length+([[D.str bS.var,D.str bS.value]]).length) 32 then(k9 aC aZ ck k1 cZ (i1+1) xq (bN++([bS])))else none))else(bif room ((bN.map aQ.c).length+([[D.str bS.var,D.str bS.value]]).length) 32 then(k9 aC aZ ck k1 cZ (i1+1) xq (bN++([bS])))else none))
def qO(aC:aM)(aZ:Bytes)(ck:Bytes):Option (aM×Bool):=((kB aC).bind fun y1=>(bif !(y1)then(some ([],false))else((l6 aZ).bind fun y4=>(bif !(y4)then(some ([],false))else((fM ck).bind fun y7=>(bif !(y7)then(some ([],false))else((nL aC aZ).bind fun Dc=>(bif Dc.2 then(bif !((Dc.1:Bytes)==ck)then(some ([],false))else((oY aC).bind fun Au=>(some (Au,true))))else(bif decide ((((aC.map aQ.c).length:Int):Int)>=6)then(some ([],false))else(k9 aC aZ ck (fun(Qy:Bool) (cC:aM)=>(bif !(Qy)then(bif room ((cC.map aQ.c).length+([[D.str aZ,D.str ck]]).length) 32 then(some (cC++([(⟨aZ,ck⟩:aQ)]),true))else none)else(some (cC,true)))) aC 0 false ([]:aM)))))))))))
def tg(aC:aM)(aZ:Bytes)(ck:Bytes)(xq:Bool)(W1:List aL)(dP:Int):St:=⟨[(1,D.str aZ),(2,D.str ck),(10,D.acc 0),(11,D.bool xq),(42,D.sl (aC.map aQ.c)),(43,D.int .i64 ((aC.map aQ.c).length:Int)),(44,D.int .i64 dP)],[Ob.row .uq 113 2 W1]⟩
theorem Hv(hΓ:Γ.nt=76){aC:aM}{aZ:Bytes}{ck:Bytes}{r:aM×Bool}{k1:Bool->aM->Option (aM×Bool)}(dY:∀(Qy:Bool) (cC:aM),k1 Qy cC=some r->Ax Γ N f84 (.q [[some (113,2)],[none]] (D.gw [D.fr 113 2 (r.1.map aQ.c),D.bool r.2])) [1,1,1,1,1,1,1] ⟨[(1,D.str aZ),(2,D.str ck),(10,D.acc 0),(11,D.bool Qy)],[Ob.row .uq 113 2 (cC.map aQ.c)]⟩)(hm1:aC.length<=maxLen):∀(rest:aM) (i1:Nat) (xq:Bool) (bN:aM),aC.drop i1=rest->k9 aC aZ ck k1 rest i1 xq bN=some r->Ar Γ N f84 (.q [[some (113,2)],[none]] (D.gw [D.fr 113 2 (r.1.map aQ.c),D.bool r.2])) [1,1,1,1,1,1,0,1,0] (rest.length+1) (tg aC aZ ck xq (bN.map aQ.c) (i1:Int)):=by
 intro rest
 induction rest with
 |nil=>
  intro i1 xq bN b9 h;rw[k9]at h;refine aV fun N1 cj cL=>?_
  exact((aX.ge aQ.c b9).a [.hl 0 [1,2,10,11] [0]]).ex hΓ cj (dY xq bN h)
 |cons bS cZ ih1=>
  intro i1 xq bN b9 h;rw[k9]at h;refine aV fun N1 cj cL=>?_
  have kY:=((aX.lt aQ.c b9).l (bJ aQ.c 2 (dc b9) rfl))
  obtain⟨h58,h⟩|⟨h58,h⟩:=aO h
  ·have kX:=(kY.r 5 h58)
   obtain⟨h59,h⟩|⟨h59,h⟩:=aO h
   ·obtain⟨h60,h⟩:=bU h;obtain⟨h61,h⟩:=bU h;exact((((kX.b h59).w (bp h60)).w (bp h61)).a [.cn [1,2,10,11,42,43,44] [5]]).cs hΓ cL (tg aC aZ ck true (((bN.map aQ.c)++([[D.str aZ,D.str ck]]))++([[D.str bS.var,D.str bS.value]])) (IntKind.i64.wrap ((i1:Int)+1))) (by first| (simp only[iS b9 hm1,mA]<;>rfl)| (simp only[iS b9 hm1,mA,aE.c,aQ.c,aN.c,Action.c,aI.c,aY.c,ax.c,af.c,Node.c,aJ.c,dX.c]<;>rfl)) (ih1 (i1+1) true ((bN++([(⟨aZ,ck⟩:aQ)]))++([bS])) (dn b9) h)
   ·obtain⟨h62,h⟩:=bU h;exact(((kX.b h59).w (bp h62)).a [.cn [1,2,10,11,42,43,44] [3]]).cs hΓ cL (tg aC aZ ck xq ((bN.map aQ.c)++([[D.str bS.var,D.str bS.value]])) (IntKind.i64.wrap ((i1:Int)+1))) (by first| (simp only[iS b9 hm1,mA]<;>rfl)| (simp only[iS b9 hm1,mA,aE.c,aQ.c,aN.c,Action.c,aI.c,aY.c,ax.c,af.c,Node.c,aJ.c,dX.c]<;>rfl)) (ih1 (i1+1) xq (bN++([bS])) (dn b9) h)
  ·obtain⟨h63,h⟩:=bU h;exact((((kY.r 5 h58).F 1).w (bp h63)).a [.cn [1,2,10,11,42,43,44] [3]]).cs hΓ cL (tg aC aZ ck xq ((bN.map aQ.c)++([[D.str bS.var,D.str bS.value]])) (IntKind.i64.wrap ((i1:Int)+1))) (by first| (simp only[iS b9 hm1,mA]<;>rfl)| (simp only[iS b9 hm1,mA,aE.c,aQ.c,aN.c,Action.c,aI.c,aY.c,ax.c,af.c,Node.c,aJ.c,dX.c]<;>rfl)) (ih1 (i1+1) xq (bN++([bS])) (dn b9) h)
theorem zM{aC:aM}{aZ:Bytes}{ck:Bytes}{r:aM×Bool}(h:qO aC aZ ck=some r):Good prog 84 [D.sl (aC.map aQ.c),D.str aZ,D.str ck] (D.gw [D.fr 113 2 (r.1.map aQ.c),D.bool r.2]):=by
 refine gd func84 [[some (113,2)],[none]] 76 fun hr Γ hΓ=>?_
 rw[qO]at h;obtain⟨y1,h2,h⟩:=aB h;obtain⟨h3,h⟩|⟨h3,h⟩:=aO h
 ·cases h;exact(((aX.g (mN h2)).r 4 h3).T 5).ret hΓ
 ·obtain⟨y4,h5,h⟩:=aB h;have sQ:=((((aX.g (mN h2)).r 2 h3).g (nZ h5)).r 2 h3)
  obtain⟨h6,h⟩|⟨h6,h⟩:=aO h
  ·cases h;exact((sQ.r 4 h6).T 1).ret hΓ
  ·obtain⟨y7,h8,h⟩:=aB h;have vQ:=(((sQ.r 2 h6).g (eb h8)).r 2 h6)
   obtain⟨h9,h⟩|⟨h9,h⟩:=aO h
   ·cases h;exact(vQ.b h9).ret hΓ
   ·obtain⟨Dc,h11,h⟩:=aB h;have yo:=((vQ.b h9).g (qh h11))
    obtain⟨h12,h⟩|⟨h12,h⟩:=aO h
    ·obtain⟨h13,h⟩|⟨h13,h⟩:=aO h
     ·cases h;exact((yo.b h12).b h13).ret hΓ
     ·obtain⟨Au,h15,h⟩:=aB h;cases h;exact(((yo.b h12).b h13).g (wW h15)).ret hΓ
    ·obtain⟨h16,h⟩|⟨h16,h⟩:=aO h
     ·cases h;exact((yo.b h12).b h16).ret hΓ
     ·refine(((yo.b h12).b h16).a [.KW 10,.cn [1,2,10,11,42,43,44] [0]]).lp hΓ (Hv hΓ (fun Qy cC h=>?_) (by have:=(iE.sl (hr _ (aD (i:=0) rfl))).1;simpa using this) aC 0 false ([]:aM) rfl h);obtain⟨h64,h⟩|⟨h64,h⟩:=aO h
      ·obtain⟨h65,h⟩:=bU h;cases h;exact((aX.b h64).w (bp h65)).rts hΓ (D.gw [D.fr 113 2 ((cC.map aQ.c)++([[D.str aZ,D.str ck]])),D.bool true]) (by first|rfl| (simp only[mA]<;>rfl)| (simp only[cD,mA]<;>rfl))
      ·cases h;exact(aX.b h64).ret hΓ
def jG(aC:aE)(aZ:aE)(k1:aM->Option (aM×Bool)):aG->Nat->aM->Option (aM×Bool)
 | [],i1,bQ=>(k1 bQ)
 |bS::cZ,i1,bQ=>((fM bS).bind fun Yo=>(bif Yo then((iw aZ.args (i1:Int)).bind fun x83=>(bif !((bS:Bytes)==x83)then(some ([],false))else(jG aC aZ k1 cZ (i1+1) bQ)))else((iw aZ.args (i1:Int)).bind fun x86=>((qO bQ bS x86).bind fun y88=>(bif !(y88.2)then(some ([],false))else(jG aC aZ k1 cZ (i1+1) y88.1))))))
def kC(aC:aE)(aZ:aE)(ck:aM):Option (aM×Bool):=((j0 aC).bind fun y1=>(bif !(y1)then(some ([],false))else((qQ aZ).bind fun y4=>(bif !(y4)then(some ([],false))else((kB ck).bind fun y7=>(bif !(y7)then(some ([],false))else(bif !((aC.rel:Bytes)==aZ.rel)then(some ([],false))else(bif (((aC.args.map tx).length:Int):Int) != ((aZ.args.map tx).length:Int)then(some ([],false))else((oY ck).bind fun PJ=>(jG aC aZ (fun(cC:aM)=>(some (cC,true))) aC.args 0 PJ))))))))))
def FT(aC:aE)(aZ:aE)(W0:List aL)(dP:Int):St:=⟨[(4,D.ptr 0 0),(8,D.acc 1),(45,D.sl (aC.args.map tx)),(46,D.int .i64 ((aC.args.map tx).length:Int)),(47,D.int .i64 dP)],[Ob.box (aE.c aZ),Ob.row .uq 113 2 W0]⟩
theorem Du(hΓ:Γ.nt=77){aC:aE}{aZ:aE}{r:aM×Bool}{k1:aM->Option (aM×Bool)}(dY:∀(cC:aM),k1 cC=some r->Ax Γ N f186 (.q [[some (113,2)],[none]] (D.gw [D.fr 113 2 (r.1.map aQ.c),D.bool r.2])) [1,1,1,1] ⟨[(8,D.acc 0)],[Ob.row .uq 113 2 (cC.map aQ.c)]⟩)(hm1:aC.args.length<=maxLen):∀(rest:aG) (i1:Nat) (bQ:aM),aC.args.drop i1=rest->jG aC aZ k1 rest i1 bQ=some r->Ar Γ N f186 (.q [[some (113,2)],[none]] (D.gw [D.fr 113 2 (r.1.map aQ.c),D.bool r.2])) [1,1,1,0,1,0] (rest.length+1) (FT aC aZ (bQ.map aQ.c) (i1:Int)):=by
 intro rest
 induction rest with
 |nil=>
  intro i1 bQ b9 h;rw[jG]at h;refine aV fun N1 cj cL=>?_
  exact((aX.ge tx b9).a [.hl 0 [8] [1]]).ex hΓ cj (dY bQ h)
 |cons bS cZ ih1=>
  intro i1 bQ b9 h;rw[jG]at h;refine aV fun N1 cj cL=>?_
  obtain⟨Yo,h81,h⟩:=aB h;have kX:=(((aX.lt tx b9).l (bJ tx 1 (dc b9) rfl)).g (eb h81))
  obtain⟨h82,h⟩|⟨h82,h⟩:=aO h
  ·obtain⟨x83,h84,h⟩:=aB h;have sQ:=((kX.b h82).l (er tx 1 h84 rfl))
   obtain⟨h85,h⟩|⟨h85,h⟩:=aO h
   ·cases h;exact(sQ.b h85).ret hΓ
   ·exact((sQ.b h85).a [.cn [4,8,45,46,47] [0,1]]).ct hΓ cL (iS b9 hm1) (ih1 (i1+1) bQ (dn b9) h)
  ·obtain⟨x86,h87,h⟩:=aB h;obtain⟨y88,h89,h⟩:=aB h;have vQ:=(((kX.b h82).l (er tx 1 h87 rfl)).g (zM h89))
   obtain⟨h90,h⟩|⟨h90,h⟩:=aO h
   ·cases h;exact(vQ.b h90).ret hΓ
   ·exact((vQ.b h90).a [.cn [4,8,45,46,47] [0,2]]).ct hΓ cL (iS b9 hm1) (ih1 (i1+1) y88.1 (dn b9) h)
theorem wU{aC:aE}{aZ:aE}{ck:aM}{r:aM×Bool}(h:kC aC aZ ck=some r):Good prog 186 [D.agg (aE.c aC),D.agg (aE.c aZ),D.sl (ck.map aQ.c)] (D.gw [D.fr 113 2 (r.1.map aQ.c),D.bool r.2]):=by
 refine gd func186 [[some (113,2)],[none]] 77 fun hr Γ hΓ=>?_
 rw[kC]at h;obtain⟨y1,h2,h⟩:=aB h;obtain⟨h3,h⟩|⟨h3,h⟩:=aO h
 ·cases h;exact(((aX.g (ja h2)).r 4 h3).T 19).ret hΓ
 ·obtain⟨y4,h5,h⟩:=aB h;have yo:=((((aX.g (ja h2)).r 2 h3).g (zN h5)).r 2 h3)
  obtain⟨h6,h⟩|⟨h6,h⟩:=aO h
  ·cases h;exact((yo.r 4 h6).T 15).ret hΓ
  ·obtain⟨y7,h8,h⟩:=aB h;have Es:=(((yo.r 2 h6).g (mN h8)).r 2 h6)
   obtain⟨h9,h⟩|⟨h9,h⟩:=aO h
   ·cases h;exact((Es.r 6 h9).T 9).ret hΓ
   ·have KU:=(Es.r 6 h9)
    obtain⟨h10,h⟩|⟨h10,h⟩:=aO h
    ·cases h;exact((KU.r 8 h10).T 1).ret hΓ
    ·have Bf:=(KU.r 8 h10)
     obtain⟨h11,h⟩|⟨h11,h⟩:=aO h
     ·cases h;exact(Bf.b h11).ret hΓ
     ·obtain⟨PJ,h13,h⟩:=aB h;refine(((Bf.b h11).g (wW h13)).a [.cn [4,8,45,46,47] [1,2]]).lp hΓ (Du hΓ (fun cC h=>?_) (by have:=(iE.sl (iE.agg (hr _ (aD (i:=0) rfl)) (.sl (aC.args.map tx)) (by simp))).1;simpa using this) aC.args 0 PJ rfl h);cases h;exact aX.ret hΓ
def fm(aC:aE)(aZ:aM)(ck:aP)(k1:aP->Option aP):aP->Nat->aP->Option aP
 | [],i1,bQ=>(k1 bQ)
 |bS::cZ,i1,bQ=>((kC aC bS aZ).bind fun Uz=>(bif Uz.2 then((iq bS).bind fun F5=>(bif room ((bQ.map aE.c).length+([[D.str F5.rel,D.sl (F5.args.map tx)]]).length) 40 then(fm aC aZ ck k1 cZ (i1+1) (bQ++([F5])))else none))else(fm aC aZ ck k1 cZ (i1+1) bQ)))
def iK(aC:aE)(aZ:aM)(ck:aP):Option aP:=(fm aC aZ ck (fun(cC:aP)=>(some cC)) ck 0 ([]:aP))
def vI(aC:aE)(aZ:aM)(ck:aP)(W0:List aL)(dP:Int):St:=⟨[(1,D.sl (aZ.map aQ.c)),(3,D.ptr 0 0),(7,D.acc 1),(12,D.sl (ck.map aE.c)),(13,D.int .i64 ((ck.map aE.c).length:Int)),(14,D.int .i64 dP)],[Ob.box (aE.c aC),Ob.row .uq 43 2 W0]⟩
theorem Ac(hΓ:Γ.nt=33){aC:aE}{aZ:aM}{ck:aP}{r:aP}{k1:aP->Option aP}(dY:∀(cC:aP),k1 cC=some r->Ax Γ N f178 (.q [[some (43,2)]] (D.fr 43 2 (r.map aE.c))) [1,1,1] ⟨[(7,D.acc 0)],[Ob.row .uq 43 2 (cC.map aE.c)]⟩)(hm1:ck.length<=maxLen):∀(rest:aP) (i1:Nat) (bQ:aP),ck.drop i1=rest->fm aC aZ ck k1 rest i1 bQ=some r->Ar Γ N f178 (.q [[some (43,2)]] (D.fr 43 2 (r.map aE.c))) [1,1,0,1,0] (rest.length+1) (vI aC aZ ck (bQ.map aE.c) (i1:Int)):=by
 intro rest
 induction rest with
 |nil=>
  intro i1 bQ b9 h;rw[fm]at h;refine aV fun N1 cj cL=>?_
  exact((aX.ge aE.c b9).a [.hl 0 [7] [1]]).ex hΓ cj (dY bQ h)
 |cons bS cZ ih1=>
  intro i1 bQ b9 h;rw[fm]at h;refine aV fun N1 cj cL=>?_
  obtain⟨Uz,h43,h⟩:=aB h;have gG:=(((aX.lt aE.c b9).l (bJ aE.c 2 (dc b9) rfl)).g (wU h43))
  obtain⟨h44,h⟩|⟨h44,h⟩:=aO h
  ·obtain⟨F5,h46,h⟩:=aB h;obtain⟨h47,h⟩:=bU h;exact((((gG.b h44).g (tP h46)).w (bp h47)).a [.cn [1,3,7,12,13,14] [0,6]]).cs hΓ cL (vI aC aZ ck ((bQ.map aE.c)++([[D.str F5.rel,D.sl (F5.args.map tx)]])) (IntKind.i64.wrap ((i1:Int)+1))) (by first| (simp only[iS b9 hm1,mA]<;>rfl)| (simp only[iS b9 hm1,mA,aE.c,aQ.c,aN.c,Action.c,aI.c,aY.c,ax.c,af.c,Node.c,aJ.c,dX.c]<;>rfl)) (ih1 (i1+1) (bQ++([F5])) (dn b9) h)
  ·exact((gG.b h44).a [.cn [1,3,7,12,13,14] [0,1]]).ct hΓ cL (iS b9 hm1) (ih1 (i1+1) bQ (dn b9) h)
theorem mJ{aC:aE}{aZ:aM}{ck:aP}{r:aP}(h:iK aC aZ ck=some r):Good prog 178 [D.agg (aE.c aC),D.sl (aZ.map aQ.c),D.sl (ck.map aE.c)] (D.fr 43 2 (r.map aE.c)):=by
 refine gd func178 [[some (43,2)]] 33 fun hr Γ hΓ=>?_
 rw[iK]at h;refine(aX.a [.KW 7,.cn [1,3,7,12,13,14] [0,1]]).lp hΓ (Ac hΓ (fun cC h=>?_) (by have:=(iE.sl (hr _ (aD (i:=2) rfl))).1;simpa using this) ck 0 ([]:aP) rfl h);have h:=aK h;subst h;exact aX.ret hΓ
def mV(aC:aJ)(k1:bK->Option ah):Nat->Int->bK->Option ah
 |0,_,_=>none
 |n1+1,vY,bQ=>(bif room ((bQ.map nA).length+([[D.int .i64 vY]]).length) 8 then((iw aC.nodes vY).bind fun x19=>(bif decide ((x19.parent:Int)<1)then(k1 (bQ++([vY])))else(bif decide ((x19.parent:Int)>=vY)then(k1 (bQ++([vY])))else(mV aC k1 n1 x19.parent (bQ++([vY]))))))else none)
def kD(aC:aJ)(lN:bK)(k2:ah->Option ah):Nat->Int->ah->Option ah
 |0,_,_=>none
 |n2+1,Kv,Mf=>(bif decide ((Kv:Int)>=0)then((iw lN Kv).bind fun x72=>((iw aC.nodes x72).bind fun x74=>((ij x74.cond).bind fun V2=>(bif room ((Mf.map aN.c).length+([[D.int .i64 V2.kind,D.str V2.pat.rel,D.sl (V2.pat.args.map tx),D.str V2.left,D.str V2.right]]).length) 80 then(kD aC lN k2 n2 (IntKind.i64.wrap (Kv-1)) (Mf++([V2])))else none))))else(k2 Mf))
def uT(aC:aJ)(aZ:Int):Option ah:=(bif decide ((aZ:Int)<1)then(some ([]))else(bif decide ((aZ:Int)>=((aC.nodes.map Node.c).length:Int))then(some ([]))else(mV aC (fun(lN:bK)=>(kD aC lN (fun(Kt:ah)=>(some Kt)) fuel (IntKind.i64.wrap (((lN.map nA).length:Int)-1)) ([]:ah))) fuel aZ ([]:bK))))
def BA(aC:aJ)(vY:Int)(W1:List aL):St:=⟨[(1,D.int .i64 vY),(2,D.ptr 0 0),(5,D.acc 1)],[Ob.box (aJ.c aC),Ob.row .uq 3 1 W1]⟩
theorem I1(hΓ:Γ.nt=57){aC:aJ}{r:ah}{k1:bK->Option ah}(dY:∀(lN:bK),k1 lN=some r->Ax Γ N f179 (.q [[some (71,5)]] (D.fr 71 5 (r.map aN.c))) [1,1,1,1] ⟨[(2,D.ptr 0 0),(5,D.acc 1)],[Ob.box (aJ.c aC),Ob.row .uq 3 1 (lN.map nA)]⟩):∀(n1:Nat) (vY:Int) (bQ:bK),mV aC k1 n1 vY bQ=some r->Ar Γ N f179 (.q [[some (71,5)]] (D.fr 71 5 (r.map aN.c))) [1,1,1,0,0] n1 (BA aC vY (bQ.map nA)):=by
 intro n
 induction n with
 |zero=>intro vY bQ h;simp[mV]at h
 |succ n1 ih1=>
  intro vY bQ h;rw[mV]at h;refine aV fun N1 cj cL=>?_
  obtain⟨h18,h⟩:=bU h;obtain⟨x19,h20,h⟩:=aB h;have kY:=((aX.w (bp h18)).l (er Node.c 8 h20 rfl))
  obtain⟨h21,h⟩|⟨h21,h⟩:=aO h
  ·exact(((kY.r 4 h21).T 1).a [.hl 0 [2,5] [0,3]]).exs hΓ cj ⟨[(2,D.ptr 0 0),(5,D.acc 1)],[Ob.box (aJ.c aC),Ob.row .uq 3 1 ((bQ.map nA)++([[D.int .i64 vY]]))]⟩ (by first| (simp only[mA]<;>rfl)| (simp only[mA,aE.c,aQ.c,aN.c,Action.c,aI.c,aY.c,ax.c,af.c,Node.c,aJ.c,dX.c]<;>rfl)) (dY (bQ++([vY])) h)
  ·have kX:=(kY.r 4 h21)
   obtain⟨h22,h⟩|⟨h22,h⟩:=aO h
   ·exact((kX.b h22).a [.hl 0 [2,5] [0,3]]).exs hΓ cj ⟨[(2,D.ptr 0 0),(5,D.acc 1)],[Ob.box (aJ.c aC),Ob.row .uq 3 1 ((bQ.map nA)++([[D.int .i64 vY]]))]⟩ (by first| (simp only[mA]<;>rfl)| (simp only[mA,aE.c,aQ.c,aN.c,Action.c,aI.c,aY.c,ax.c,af.c,Node.c,aJ.c,dX.c]<;>rfl)) (dY (bQ++([vY])) h)
   ·exact((kX.b h22).a [.cn [1,2,5] [0,3]]).cs hΓ cL (BA aC x19.parent ((bQ.map nA)++([[D.int .i64 vY]]))) (by first| (simp only[mA]<;>rfl)| (simp only[mA,aE.c,aQ.c,aN.c,Action.c,aI.c,aY.c,ax.c,af.c,Node.c,aJ.c,dX.c]<;>rfl)) (ih1 x19.parent (bQ++([vY])) h)
def BB(aC:aJ)(lN:bK)(Kv:Int)(W1:List aL):St:=⟨[(2,D.ptr 0 0),(5,D.acc 1),(7,D.acc 2),(8,D.int .i64 Kv)],[Ob.box (aJ.c aC),Ob.row .uq 3 1 (lN.map nA),Ob.row .uq 71 5 W1]⟩
theorem I2(hΓ:Γ.nt=57){aC:aJ}{lN:bK}{r:ah}{k2:ah->Option ah}(AR:∀(Kt:ah),k2 Kt=some r->Ax Γ N f179 (.q [[some (71,5)]] (D.fr 71 5 (r.map aN.c))) [1,1,1,1,1,1] ⟨[(7,D.acc 0)],[Ob.row .uq 71 5 (Kt.map aN.c)]⟩):∀(n2:Nat) (Kv:Int) (Mf:ah),kD aC lN k2 n2 Kv Mf=some r->Ar Γ N f179 (.q [[some (71,5)]] (D.fr 71 5 (r.map aN.c))) [1,1,1,1,1,0,1,0] n2 (BB aC lN Kv (Mf.map aN.c)):=by
 intro n
 induction n with
 |zero=>intro Kv Mf h;simp[kD]at h
 |succ n2 ih2=>
  intro Kv Mf h;rw[kD]at h;refine aV fun N2 uk tD=>?_
  obtain⟨h65,h⟩|⟨h65,h⟩:=aO h
  ·obtain⟨x72,h73,h⟩:=aB h;obtain⟨x74,h75,h⟩:=aB h;obtain⟨V2,h77,h⟩:=aB h;obtain⟨h78,h⟩:=bU h;exact((((((((aX.b h65).a [.n2 [0,1,2,3,4,5,6,7,8,9,10,11,12,13] [0,1,2,3,4,5,6,7,8,9,10,11,12,13] 11 12 [0] [3]]).i (iD nA 1 h73)).o 1 1 .uq (cX nA (fC h73))).l (er Node.c 8 h75 rfl)).g (nM h77)).w (bp h78)).a [.cn [2,5,7,8] [0,1,5]]).cs hΓ tD (BB aC lN (IntKind.i64.wrap (Kv-1)) ((Mf.map aN.c)++([[D.int .i64 V2.kind,D.str V2.pat.rel,D.sl (V2.pat.args.map tx),D.str V2.left,D.str V2.right]]))) (by first| (simp only[mA]<;>rfl)| (simp only[mA,aE.c,aQ.c,aN.c,Action.c,aI.c,aY.c,ax.c,af.c,Node.c,aJ.c,dX.c]<;>rfl)) (ih2 (IntKind.i64.wrap (Kv-1)) (Mf++([V2])) h)
  ·exact((aX.b h65).a [.hl 0 [7] [2]]).ex hΓ uk (AR Mf h)
theorem uw{aC:aJ}{aZ:Int}{r:ah}(h:uT aC aZ=some r):Good prog 179 [D.agg (aJ.c aC),D.int .i64 aZ] (D.fr 71 5 (r.map aN.c)):=by
 refine gd func179 [[some (71,5)]] 57 fun hr Γ hΓ=>?_
 rw[uT]at h;obtain⟨h1,h⟩|⟨h1,h⟩:=aO h
 ·cases h;exact((aX.r 6 h1).T 1).ret hΓ
 ·have sQ:=(aX.r 6 h1)
  obtain⟨h2,h⟩|⟨h2,h⟩:=aO h
  ·cases h;exact(sQ.b h2).ret hΓ
  ·refine((sQ.b h2).a [.KW 5,.cn [1,2,5] [0,1]]).lp hΓ (I1 hΓ (fun lN h=>?_) fuel aZ ([]:bK) h);refine(aX.a [.KW 7,.cn [2,5,7,8] [0,1,2]]).lp hΓ (I2 hΓ (fun Kt h=>?_) fuel (IntKind.i64.wrap (((lN.map nA).length:Int)-1)) ([]:ah) h);have h:=aK h;subst h;exact aX.ret hΓ
def uS(aC:aN):Option Bool:=((qP aC).bind fun y1=>(bif y1 then(some (decide ((aC.kind:Int)>=3)))else(some false)))
theorem zO{aC:aN}{r:Bool}(h:uS aC=some r):Good prog 240 [D.agg (aN.c aC)] (D.bool r):=by
 refine gd func240 [[none]] 10 fun hr Γ hΓ=>?_
 rw[uS]at h;obtain⟨y1,h2,h⟩:=aB h;obtain⟨h3,h⟩|⟨h3,h⟩:=aO h
 ·cases h;exact((aX.g (ou h2)).r 4 h3).ret hΓ
 ·have h:=aK h;subst h;exact((aX.g (ou h2)).r 4 h3).ret hΓ
def qx(aC:aN)(aZ:aM):Option Bool:=((uS aC).bind fun y1=>(bif !(y1)then(some false)else((kB aZ).bind fun y4=>(bif !(y4)then(some false)else((nL aZ aC.left).bind fun y7=>((nL aZ aC.right).bind fun y9=>(bif !(y7.2)then(some false)else(bif !(y9.2)then(some false)else(bif (aC.kind:Int)==3 then(some ((y7.1:Bytes)==y9.1))else(bif (aC.kind:Int)==4 then(some (!((y7.1:Bytes)==y9.1)))else((lz y7.1).bind fun HZ=>((lz y9.1).bind fun y17=>(bif HZ.2 then(bif y17.2 then(some (decide ((HZ.1:Int)<y17.1)))else(some false))else(some false))))))))))))))
theorem D1{aC:aN}{aZ:aM}{r:Bool}(h:qx aC aZ=some r):Good prog 230 [D.agg (aN.c aC),D.sl (aZ.map aQ.c)] (D.bool r):=by
 refine gd func230 [[none]] 70 fun hr Γ hΓ=>?_
 rw[qx]at h;obtain⟨y1,h2,h⟩:=aB h;obtain⟨h3,h⟩|⟨h3,h⟩:=aO h
 ·have h:=aK h;subst h;exact(((aX.g (zO h2)).r 4 h3).T 1).ret hΓ
 ·obtain⟨y4,h5,h⟩:=aB h;have nB:=((((aX.g (zO h2)).r 2 h3).g (mN h5)).r 2 h3)
  obtain⟨h6,h⟩|⟨h6,h⟩:=aO h
  ·have h:=aK h;subst h;exact(nB.b h6).ret hΓ
  ·obtain⟨y7,h8,h⟩:=aB h;obtain⟨y9,h10,h⟩:=aB h;have gG:=(((nB.b h6).g (qh h8)).g (qh h10))
   obtain⟨h11,h⟩|⟨h11,h⟩:=aO h
   ·have h:=aK h;subst h;exact((gG.r 3 h11).T 1).ret hΓ
   ·have kY:=(gG.r 3 h11)
    obtain⟨h12,h⟩|⟨h12,h⟩:=aO h
    ·have h:=aK h;subst h;exact(kY.b h12).ret hΓ
    ·obtain⟨h13,h⟩|⟨h13,h⟩:=aO h
     ·cases h;exact((kY.b h12).b h13).ret hΓ
     ·have kX:=((kY.b h12).b h13)
      obtain⟨h14,h⟩|⟨h14,h⟩:=aO h
      ·cases h;exact(kX.b h14).ret hΓ
      ·obtain⟨HZ,h16,h⟩:=aB h;obtain⟨y17,h18,h⟩:=aB h;have sQ:=(((kX.b h14).g (pq h16)).g (pq h18))
       obtain⟨h19,h⟩|⟨h19,h⟩:=aO h
       ·have vQ:=(sQ.r 2 h19)
        obtain⟨h20,h⟩|⟨h20,h⟩:=aO h
        ·cases h;exact(vQ.r 4 h20).ret hΓ
        ·have h:=aK h;subst h;exact(vQ.r 4 h20).ret hΓ
       ·have h:=aK h;subst h;exact((sQ.r 2 h19).F 4).ret hΓ
def qw(aC:aN)(aZ:aM)(ck:aP):Option Bool:=((qP aC).bind fun y1=>(bif !(y1)then(some false)else((kB aZ).bind fun y4=>(bif !(y4)then(some false)else(bif (aC.kind:Int)==1 then((iK aC.pat aZ ck).bind fun y8=>(some (decide ((((y8.map aE.c).length:Int):Int)>0))))else(bif (aC.kind:Int)==2 then((iK aC.pat aZ ck).bind fun Cc=>(some ((((Cc.map aE.c).length:Int):Int)==0)))else((qx aC aZ).bind fun uP=>(some uP))))))))
theorem D0{aC:aN}{aZ:aM}{ck:aP}{r:Bool}(h:qw aC aZ ck=some r):Good prog 215 [D.agg (aN.c aC),D.sl (aZ.map aQ.c),D.sl (ck.map aE.c)] (D.bool r):=by
 refine gd func215 [[none]] 38 fun hr Γ hΓ=>?_
 rw[qw]at h;obtain⟨y1,h2,h⟩:=aB h;obtain⟨h3,h⟩|⟨h3,h⟩:=aO h
 ·have h:=aK h;subst h;exact(((aX.g (ou h2)).r 4 h3).T 1).ret hΓ
 ·obtain⟨y4,h5,h⟩:=aB h;have nB:=((((aX.g (ou h2)).r 2 h3).g (mN h5)).r 2 h3)
  obtain⟨h6,h⟩|⟨h6,h⟩:=aO h
  ·have h:=aK h;subst h;exact(nB.b h6).ret hΓ
  ·obtain⟨h7,h⟩|⟨h7,h⟩:=aO h
   ·obtain⟨y8,h9,h⟩:=aB h;cases h;exact(((nB.b h6).b h7).g (mJ h9)).ret hΓ
   ·have gG:=((nB.b h6).b h7)
    obtain⟨h10,h⟩|⟨h10,h⟩:=aO h
    ·obtain⟨Cc,h12,h⟩:=aB h;cases h;exact((gG.b h10).g (mJ h12)).ret hΓ
    ·obtain⟨uP,h14,h⟩:=aB h;have h:=aK h;subst h;exact((gG.b h10).g (D1 h14)).ret hΓ
def js(aC:ah)(aZ:aP)(i2:Nat)(bN:bB)(nD:aY)(i1:Nat)(bS:aN)(k3:bB->Option bB):aP->Nat->bB->Option bB
 | [],i3,yL=>(k3 yL)
 |Nt::Mi,i3,yL=>((kC bS.pat Nt nD.bind).bind fun Nu=>(bif Nu.2 then((kG nD.facts).bind fun Nv=>((iq Nt).bind fun JI=>(bif room ((Nv.map aE.c).length+([[D.str JI.rel,D.sl (JI.args.map tx)]]).length) 40 then(bif room ((yL.map aY.c).length+([[D.sl ((Nv.map aE.c)++([[D.str JI.rel,D.sl (JI.args.map tx)]])),D.sl (Nu.1.map aQ.c)]]).length) 48 then(js aC aZ i2 bN nD i1 bS k3 Mi (i3+1) (yL++([(⟨Nv++([JI]),Nu.1⟩:aY)])))else none)else none)))else(js aC aZ i2 bN nD i1 bS k3 Mi (i3+1) yL)))
def fO(aC:ah)(aZ:aP)(bN:bB)(i1:Nat)(bS:aN)(k2:bB->Option bB):bB->Nat->bB->Option bB
 | [],i2,eE=>(k2 eE)
 |nD::uO,i2,eE=>(bif (bS.kind:Int) != 1 then((qw bS nD.bind aZ).bind fun a1t=>(bif a1t then(bif room ((eE.map aY.c).length+([[D.sl (nD.facts.map aE.c),D.sl (nD.bind.map aQ.c)]]).length) 48 then(fO aC aZ bN i1 bS k2 uO (i2+1) (eE++([nD])))else none)else(fO aC aZ bN i1 bS k2 uO (i2+1) eE)))else(bif decide (aZ.length<=maxLen)then(js aC aZ i2 bN nD i1 bS (fun(Ug:bB)=>(fO aC aZ bN i1 bS k2 uO (i2+1) Ug)) aZ 0 eE)else none))
def jr(aC:ah)(aZ:aP)(k1:bB->Option bB):ah->Nat->bB->Option bB
 | [],i1,bN=>(k1 bN)
 |bS::cZ,i1,bN=>(bif decide (bN.length<=maxLen)then(fO aC aZ bN i1 bS (fun(Kt:bB)=>(jr aC aZ k1 cZ (i1+1) Kt)) bN 0 ([]:bB))else none)
def pO(aC:ah)(aZ:aP):Option bB:=(jr aC aZ (fun(cC:bB)=>(some cC)) aC 0 ([(⟨[],[]⟩:aY)]))
def zS(aC:ah)(aZ:aP)(W0:List aL)(dP:Int):St:=⟨[(1,D.sl (aZ.map aE.c)),(5,D.acc 0),(17,D.sl (aC.map aN.c)),(18,D.int .i64 ((aC.map aN.c).length:Int)),(19,D.int .i64 dP)],[Ob.row .uq 77 2 W0]⟩
def zT(aC:ah)(aZ:aP)(bN:bB)(i1:Nat)(bS:aN)(W0:List aL)(a38:Nat)(dP:Int):St:=⟨[(1,D.sl (aZ.map aE.c)),(7,D.ptr 0 0),(8,D.acc 1),(17,D.sl (aC.map aN.c)),(18,D.int .i64 ((aC.map aN.c).length:Int)),(19,D.int .i64 (i1:Int)),(23,D.acc 2),(24,D.int .i64 ((bN.map aY.c).length:Int)),(25,D.int .i64 dP)],[Ob.box [D.int .i64 bS.kind,D.str bS.pat.rel,D.sl (bS.pat.args.map tx),D.str bS.left,D.str bS.right],Ob.row .uq 77 2 W0,Ob.row (.mv a38) 77 2 (bN.map aY.c)]⟩
def zU(aC:ah)(aZ:aP)(i2:Nat)(bN:bB)(nD:aY)(i1:Nat)(bS:aN)(W0:List aL)(dP:Int):St:=⟨[(1,D.sl (aZ.map aE.c)),(7,D.ptr 0 0),(8,D.acc 1),(10,D.ptr 2 0),(17,D.sl (aC.map aN.c)),(18,D.int .i64 ((aC.map aN.c).length:Int)),(19,D.int .i64 (i1:Int)),(23,D.acc 3),(24,D.int .i64 ((bN.map aY.c).length:Int)),(25,D.int .i64 (i2:Int)),(41,D.sl (aZ.map aE.c)),(42,D.int .i64 ((aZ.map aE.c).length:Int)),(43,D.int .i64 dP)],[Ob.box [D.int .i64 bS.kind,D.str bS.pat.rel,D.sl (bS.pat.args.map tx),D.str bS.left,D.str bS.right],Ob.row .uq 77 2 W0,Ob.box [D.acc 4,D.acc 5],Ob.row (.mv (i2+1)) 77 2 (bN.map aY.c),Ob.tk (nD.facts.map aE.c),Ob.tk (nD.bind.map aQ.c)]⟩
theorem Fh(hΓ:Γ.nt=74){aC:ah}{aZ:aP}{i2:Nat}{bN:bB}{nD:aY}{i1:Nat}{bS:aN}{r:bB}{k3:bB->Option bB}(Vw:∀(Ug:bB),k3 Ug=some r->Ax Γ N f175 (.q [[some (77,2)]] (D.fr 77 2 (r.map aY.c))) [1,1,0,1,0,0,1,1,0,0,1,1,0,1,0,0,1,1,1] ⟨[(1,D.sl (aZ.map aE.c)),(7,D.ptr 0 0),(8,D.acc 1),(17,D.sl (aC.map aN.c)),(18,D.int .i64 ((aC.map aN.c).length:Int)),(19,D.int .i64 (i1:Int)),(23,D.acc 2),(24,D.int .i64 ((bN.map aY.c).length:Int)),(25,D.int .i64 (i2:Int))],[Ob.box [D.int .i64 bS.kind,D.str bS.pat.rel,D.sl (bS.pat.args.map tx),D.str bS.left,D.str bS.right],Ob.row .uq 77 2 (Ug.map aY.c),Ob.row (.mv (i2+1)) 77 2 (bN.map aY.c)]⟩)(PF:aZ.length<=maxLen):∀(rest:aP) (i3:Nat) (yL:bB),aZ.drop i3=rest->js aC aZ i2 bN nD i1 bS k3 rest i3 yL=some r->Ar Γ N f175 (.q [[some (77,2)]] (D.fr 77 2 (r.map aY.c))) [1,1,0,1,0,0,1,1,0,0,1,1,0,1,0,0,1,1,0,0,1,1,1,0] (rest.length+1) (zU aC aZ i2 bN nD i1 bS (yL.map aY.c) (i3:Int)):=by
 intro rest
 induction rest with
 |nil=>
  intro i3 yL wD h;rw[js]at h;refine aV fun N3 Q3 Lm=>?_
  exact((aX.ge aE.c wD).a [.hl 8 [1,7,8,17,18,19,23,24,25] [0,1,3]]).ex hΓ Q3 (Vw yL h)
 |cons Nt Mi ih3=>
  intro i3 yL wD h;rw[js]at h;refine aV fun N3 Q3 Lm=>?_
  obtain⟨Nu,h3513,h⟩:=aB h;have a5z:=(((aX.lt aE.c wD).l (bJ aE.c 2 (dc wD) rfl)).g (wU h3513))
  obtain⟨h3514,h⟩|⟨h3514,h⟩:=aO h
  ·obtain⟨Nv,h3521,h⟩:=aB h;obtain⟨JI,h3523,h⟩:=aB h;obtain⟨h3524,h⟩:=bU h;obtain⟨h3525,h⟩:=bU h;exact(((((((a5z.b h3514).a [.n2 [0,1,2,3,4,5,8,6,7,9,10,11,12] [0,1,2,3,4,5,7,8,6,9,10,11,12] 7 11 [0,6] [7,8,9,10,11]]).g (su h3521)).g (tP h3523)).w (bp h3524)).w (bp h3525)).a [.cn [1,7,8,10,17,18,19,23,24,25,41,42,43] [0,13,2,3,4,5]]).cs hΓ Lm (zU aC aZ i2 bN nD i1 bS ((yL.map aY.c)++([[D.sl ((Nv.map aE.c)++([[D.str JI.rel,D.sl (JI.args.map tx)]])),D.sl (Nu.1.map aQ.c)]])) (IntKind.i64.wrap ((i3:Int)+1))) (by first| (simp only[iS wD PF,mA]<;>rfl)| (simp only[iS wD PF,mA,aE.c,aQ.c,aN.c,Action.c,aI.c,aY.c,ax.c,af.c,Node.c,aJ.c,dX.c]<;>rfl)) (ih3 (i3+1) (yL++([(⟨Nv++([JI]),Nu.1⟩:aY)])) (dn wD) h)
  ·exact((a5z.b h3514).a [.cn [1,7,8,10,17,18,19,23,24,25,41,42,43] [0,1,2,3,4,5]]).ct hΓ Lm (iS wD PF) (ih3 (i3+1) yL (dn wD) h)
theorem Fg(hΓ:Γ.nt=74){aC:ah}{aZ:aP}{bN:bB}{i1:Nat}{bS:aN}{r:bB}{k2:bB->Option bB}(AR:∀(Kt:bB),k2 Kt=some r->Ax Γ N f175 (.q [[some (77,2)]] (D.fr 77 2 (r.map aY.c))) [1,1,0,1,0,0,1,1,0,0,1,1,1] ⟨[(1,D.sl (aZ.map aE.c)),(8,D.acc 0),(17,D.sl (aC.map aN.c)),(18,D.int .i64 ((aC.map aN.c).length:Int)),(19,D.int .i64 (i1:Int))],[Ob.row .uq 77 2 (Kt.map aY.c)]⟩)(hm2:bN.length<=maxLen):∀(rest:bB) (i2:Nat) (eE:bB),bN.drop i2=rest->fO aC aZ bN i1 bS k2 rest i2 eE=some r->Ar Γ N f175 (.q [[some (77,2)]] (D.fr 77 2 (r.map aY.c))) [1,1,0,1,0,0,1,1,0,0,1,1,0,1,0] (rest.length+1) (zT aC aZ bN i1 bS (eE.map aY.c) i2 (i2:Int)):=by
 intro rest
 induction rest with
 |nil=>
  intro i2 eE hd2 h;rw[fO]at h;refine aV fun N2 uk tD=>?_
  exact((aX.ge aY.c hd2).a [.hl 5 [1,8,17,18,19] [1]]).ex hΓ uk (AR eE h)
 |cons nD uO ih2=>
  intro i2 eE hd2 h;rw[fO]at h;refine aV fun N2 uk tD=>?_
  have a60:=((((aX.lt aY.c hd2).i (mK aY.c 2 (dc hd2))).w (show i2=i2/\(bN.map aY.c)[i2]?=some [D.sl (nD.facts.map aE.c),D.sl (nD.bind.map aQ.c)]/\Mb [D.sl (nD.facts.map aE.c),D.sl (nD.bind.map aQ.c)]=true from⟨rfl,cX aY.c (dc hd2),rfl⟩)).a [.tk [D.sl (nD.facts.map aE.c),D.sl (nD.bind.map aQ.c)]])
  obtain⟨h3426,h⟩|⟨h3426,h⟩:=aO h
  ·obtain⟨a1t,h3428,h⟩:=aB h;have a61:=((a60.b h3426).g (D0 h3428))
   obtain⟨h3429,h⟩|⟨h3429,h⟩:=aO h
   ·obtain⟨h3430,h⟩:=bU h;exact(((a61.b h3429).w (bp h3430)).a [.cn [1,7,8,17,18,19,23,24,25] [0,7,2]]).cs hΓ tD (zT aC aZ bN i1 bS ((eE.map aY.c)++([[D.sl (nD.facts.map aE.c),D.sl (nD.bind.map aQ.c)]])) (i2+1) (IntKind.i64.wrap ((i2:Int)+1))) (by first| (simp only[iS hd2 hm2,mA]<;>rfl)| (simp only[iS hd2 hm2,mA,aE.c,aQ.c,aN.c,Action.c,aI.c,aY.c,ax.c,af.c,Node.c,aJ.c,dX.c]<;>rfl)) (ih2 (i2+1) (eE++([nD])) (dn hd2) h)
   ·exact((a61.b h3429).a [.cn [1,7,8,17,18,19,23,24,25] [0,1,2]]).ct hΓ tD (iS hd2 hm2) (ih2 (i2+1) eE (dn hd2) h)
  ·obtain⟨h3526,h⟩:=bU h;refine((a60.b h3426).a [.cn [1,7,8,10,17,18,19,23,24,25,41,42,43] [0,1,5,2,3,4]]).lp hΓ (Fh hΓ (fun Ug h=>?_) (bY h3526) aZ 0 eE rfl h);exact(aX.a [.cn [1,7,8,17,18,19,23,24,25] [0,1,2]]).ct hΓ tD (iS hd2 hm2) (ih2 (i2+1) Ug (dn hd2) h)
theorem Ff(hΓ:Γ.nt=74){aC:ah}{aZ:aP}{r:bB}{k1:bB->Option bB}(dY:∀(cC:bB),k1 cC=some r->Ax Γ N f175 (.q [[some (77,2)]] (D.fr 77 2 (r.map aY.c))) [1,1,1] ⟨[(5,D.acc 0)],[Ob.row .uq 77 2 (cC.map aY.c)]⟩)(hm1:aC.length<=maxLen):∀(rest:ah) (i1:Nat) (bN:bB),aC.drop i1=rest->jr aC aZ k1 rest i1 bN=some r->Ar Γ N f175 (.q [[some (77,2)]] (D.fr 77 2 (r.map aY.c))) [1,1,0,1,0] (rest.length+1) (zS aC aZ (bN.map aY.c) (i1:Int)):=by
 intro rest
 induction rest with
 |nil=>
  intro i1 bN b9 h;rw[jr]at h;refine aV fun N1 cj cL=>?_
  exact((aX.ge aN.c b9).a [.hl 0 [5] [0]]).ex hΓ cj (dY bN h)
 |cons bS cZ ih1=>
  intro i1 bN b9 h;rw[jr]at h;refine aV fun N1 cj cL=>?_
  obtain⟨h3527,h⟩:=bU h;refine(((aX.lt aN.c b9).l (bJ aN.c 5 (dc b9) rfl)).a [.KW 8,.mz 0,.cn [1,7,8,17,18,19,23,24,25] [1,2,0]]).lp hΓ (Fg hΓ (fun Kt h=>?_) (bY h3527) bN 0 ([]:bB) rfl h);exact(aX.a [.cn [1,5,17,18,19] [0]]).ct hΓ cL (iS b9 hm1) (ih1 (i1+1) Kt (dn b9) h)
theorem xV{aC:ah}{aZ:aP}{r:bB}(h:pO aC aZ=some r):Good prog 175 [D.sl (aC.map aN.c),D.sl (aZ.map aE.c)] (D.fr 77 2 (r.map aY.c)):=by
 refine gd func175 [[some (77,2)]] 74 fun hr Γ hΓ=>?_
 rw[pO]at h;refine(aX.a [.cn [1,5,17,18,19] [0]]).lps hΓ (zS aC aZ ([[D.sl ([]),D.sl ([])]]) 0) (by first| (simp only[mA]<;>rfl)| (simp only[mA,aE.c,aQ.c,aN.c,Action.c,aI.c,aY.c,ax.c,af.c,Node.c,aJ.c,dX.c]<;>rfl)) (Ff hΓ (fun cC h=>?_) (by have:=(iE.sl (hr _ (aD (i:=0) rfl))).1;simpa using this) aC 0 ([(⟨[],[]⟩:aY)]) rfl h);have h:=aK h;subst h;exact aX.ret hΓ
def fD(aC:aJ)(aZ:aP)(y1:aP)(k1:bX->Option (aJ×Unit)):bX->Nat->bX->Option (aJ×Unit)
 | [],i1,cw=>(k1 cw)
 |bS::cZ,i1,cw=>(bif decide (i1<(cw.map af.c).length)then(((cw)[i1]?).bind fun x35=>((iK x35.shape ([]) aZ).bind fun LG=>(bif decide (i1<(cw.map af.c).length)then(fD aC aZ y1 k1 cZ (i1+1) (cw.set i1 (⟨x35.shape,LG⟩:af)))else none)))else none)
def eA(aC:aJ)(aZ:aP)(y1:aP)(ew:bX)(k2:Option (aJ×Unit)):bR->Nat->bR->Option (aJ×Unit)
 | [],i2,ji=>(some ((⟨aC.rules,aC.ends,ew,ji,y1,aC.cg⟩:aJ),()))
 |nD::uO,i2,ji=>((uT (⟨aC.rules,aC.ends,ew,ji,y1,aC.cg⟩:aJ) (i2:Int)).bind fun a0a=>((pO a0a aZ).bind fun SV=>(bif decide (i2<(ji.map Node.c).length)then(((ji)[i2]?).bind fun x107=>(eA aC aZ y1 ew k2 uO (i2+1) (ji.set i2 (⟨x107.parent,x107.cond,x107.eS,SV⟩:Node))))else none)))
def kz(aC:aJ)(aZ:aP):Option (aJ×Unit):=((kG aZ).bind fun y1=>(bif decide (aC.bG.length<=maxLen)then(fD aC aZ y1 (fun(ew:bX)=>(bif decide (aC.nodes.length<=maxLen)then(eA aC aZ y1 ew none aC.nodes 0 aC.nodes)else none)) aC.bG 0 aC.bG)else none))
def uE(hG:Value)(aC:aJ)(aZ:aP)(y1:aP)(W0:List aL)(dP:Int):St:=⟨[(0,D.ptr 0 0),(1,D.sl (aZ.map aE.c)),(15,D.int .i64 ((aC.bG.map af.c).length:Int)),(16,D.int .i64 dP)],[Ob.zq [D.acc 1,D.acc 2,D.acc 3,D.acc 4,D.acc 5,D.int .i64 aC.cg] hG,Ob.row .uq 63 4 (aC.rules.map aI.c),Ob.row .uq 3 1 (aC.ends.map nA),Ob.row .uq 83 3 W0,Ob.row .uq 74 8 (aC.nodes.map Node.c),Ob.row .uq 43 2 (y1.map aE.c)]⟩
theorem zK(hΓ:Γ.nt=60){hG:Value}{aC:aJ}{aZ:aP}{y1:aP}{r:aJ×Unit}{k1:bX->Option (aJ×Unit)}(dY:∀(ew:bX),k1 ew=some r->Ax Γ N f107 (.p [[some (63,4),some (3,1),some (83,3),some (74,8),some (43,2),none]] hG (cD r.1) (D.gw [])) [1,1] ⟨[(0,D.ptr 0 0),(1,D.sl (aZ.map aE.c))],[Ob.zq [D.acc 1,D.acc 2,D.acc 3,D.acc 4,D.acc 5,D.int .i64 aC.cg] hG,Ob.row .uq 63 4 (aC.rules.map aI.c),Ob.row .uq 3 1 (aC.ends.map nA),Ob.row .uq 83 3 (ew.map af.c),Ob.row .uq 74 8 (aC.nodes.map Node.c),Ob.row .uq 43 2 (y1.map aE.c)]⟩)(hm1:aC.bG.length<=maxLen):∀(rest:bX) (i1:Nat) (cw:bX),aC.bG.drop i1=rest->fD aC aZ y1 k1 rest i1 cw=some r->Ar Γ N f107 (.p [[some (63,4),some (3,1),some (83,3),some (74,8),some (43,2),none]] hG (cD r.1) (D.gw [])) [1,0,1,0] (rest.length+1) (uE hG aC aZ y1 (cw.map af.c) (i1:Int)):=by
 intro rest
 induction rest with
 |nil=>
  intro i1 cw b9 h;rw[fD]at h;refine aV fun N1 cj cL=>?_
  exact((aX.ge af.c b9).a [.hl 0 [0,1] [0,1,2,3,4,5]]).ex hΓ cj (dY cw h)
 |cons bS cZ ih1=>
  intro i1 cw b9 h;rw[fD]at h;refine aV fun N1 cj cL=>?_
  obtain⟨h34,h⟩:=bU h;obtain⟨x35,h36,h⟩:=aB h;obtain⟨LG,h38,h⟩:=aB h;obtain⟨h39,h⟩:=bU h;exact(((((((((aX.lt af.c b9).a [.n 15]).i (S3 3 h34)).o 3 2 .uq (cX af.c h36)).a [.d (D.fr 43 2 (LG.map aE.c))]).w (show Good prog 178 [D.agg (aE.c x35.shape),D.sl ([]),D.sl (aZ.map aE.c)] (D.fr 43 2 (LG.map aE.c))from by first| (simpa only[bI,ay,bt,br,cB]using mJ h38)|exact mJ h38)).i (S3 3 h39)).w (show(cw.map af.c)[i1]?=some [D.str x35.shape.rel,D.sl (x35.shape.args.map tx),D.sl (x35.facts.map aE.c)]from cX af.c h36)).a [.row [D.str x35.shape.rel,D.sl (x35.shape.args.map tx),D.sl (x35.facts.map aE.c)],.cn [0,1,15,16] [0,1,2,3,4,5]]).cs hΓ cL (uE hG aC aZ y1 ((cw.map af.c).set i1 [D.str x35.shape.rel,D.sl (x35.shape.args.map tx),D.sl (LG.map aE.c)]) (IntKind.i64.wrap ((i1:Int)+1))) (by first| (simp only[iS b9 hm1,mA]<;>rfl)| (simp only[iS b9 hm1,mA,aE.c,aQ.c,aN.c,Action.c,aI.c,aY.c,ax.c,af.c,Node.c,aJ.c,dX.c]<;>rfl)) (ih1 (i1+1) (cw.set i1 (⟨x35.shape,LG⟩:af)) (dn b9) h)
def uF(hG:Value)(aC:aJ)(aZ:aP)(y1:aP)(ew:bX)(W0:List aL)(dP:Int):St:=⟨[(0,D.ptr 0 0),(1,D.sl (aZ.map aE.c)),(41,D.int .i64 ((aC.nodes.map Node.c).length:Int)),(42,D.int .i64 dP)],[Ob.zq [D.acc 1,D.acc 2,D.acc 3,D.acc 4,D.acc 5,D.int .i64 aC.cg] hG,Ob.row .uq 63 4 (aC.rules.map aI.c),Ob.row .uq 3 1 (aC.ends.map nA),Ob.row .uq 83 3 (ew.map af.c),Ob.row .uq 74 8 W0,Ob.row .uq 43 2 (y1.map aE.c)]⟩
theorem zL(hΓ:Γ.nt=60){hG:Value}{aC:aJ}{aZ:aP}{y1:aP}{ew:bX}{r:aJ×Unit}{k2:Option (aJ×Unit)}(AR:k2=some r->Ax Γ N f107 (.p [[some (63,4),some (3,1),some (83,3),some (74,8),some (43,2),none]] hG (cD r.1) (D.gw [])) [1,1,1,0,0] ⟨[],[]⟩)(hm2:aC.nodes.length<=maxLen):∀(rest:bR) (i2:Nat) (ji:bR),aC.nodes.drop i2=rest->eA aC aZ y1 ew k2 rest i2 ji=some r->Ar Γ N f107 (.p [[some (63,4),some (3,1),some (83,3),some (74,8),some (43,2),none]] hG (cD r.1) (D.gw [])) [1,1,1,0] (rest.length+1) (uF hG aC aZ y1 ew (ji.map Node.c) (i2:Int)):=by
 intro rest
 induction rest with
 |nil=>
  intro i2 ji hd2 h;rw[eA]at h;refine aV fun N2 uk tD=>?_
  cases h;exact(aX.ge Node.c hd2).ret hΓ
 |cons nD uO ih2=>
  intro i2 ji hd2 h;rw[eA]at h;refine aV fun N2 uk tD=>?_
  obtain⟨a0a,h103,h⟩:=aB h;obtain⟨SV,h105,h⟩:=aB h;obtain⟨h106,h⟩:=bU h;obtain⟨x107,h108,h⟩:=aB h;exact(((((((aX.lt Node.c hd2).a [.n2 [0,1,2,3,4,5,6,7,8,9,10,11,12,13,14] [0,1,2,3,4,5,6,7,8,9,10,11,12,13,14] 11 12 [0,1,2,3,4] [],.d (D.fr 71 5 (a0a.map aN.c))]).w (show Good prog 179 [D.agg [D.sl (aC.rules.map aI.c),D.sl (aC.ends.map nA),D.sl (ew.map af.c),D.sl (ji.map Node.c),D.sl (y1.map aE.c),D.int .i64 aC.cg],D.int .i64 (i2:Int)] (D.fr 71 5 (a0a.map aN.c))from by first| (simpa only[bI,ay,bt,br,cB]using uw h103)|exact uw h103| (have t:=uw h103;simp only[bI,br,cB,aJ.c]at t;exact t))).g (xV h105)).i (S3 8 h106)).w (show(ji.map Node.c)[i2]?=some [D.int .i64 x107.parent,D.int .i64 x107.cond.kind,D.str x107.cond.pat.rel,D.sl (x107.cond.pat.args.map tx),D.str x107.cond.left,D.str x107.cond.right,D.int .i64 x107.eS,D.sl (x107.tokens.map aY.c)]from cX Node.c h108)).a [.row [D.int .i64 x107.parent,D.int .i64 x107.cond.kind,D.str x107.cond.pat.rel,D.sl (x107.cond.pat.args.map tx),D.str x107.cond.left,D.str x107.cond.right,D.int .i64 x107.eS,D.sl (x107.tokens.map aY.c)],.cn [0,1,41,42] [0,1,2,3,4,5]]).cs hΓ tD (uF hG aC aZ y1 ew ((ji.map Node.c).set i2 [D.int .i64 x107.parent,D.int .i64 x107.cond.kind,D.str x107.cond.pat.rel,D.sl (x107.cond.pat.args.map tx),D.str x107.cond.left,D.str x107.cond.right,D.int .i64 x107.eS,D.sl (SV.map aY.c)]) (IntKind.i64.wrap ((i2:Int)+1))) (by first| (simp only[iS hd2 hm2,mA]<;>rfl)| (simp only[iS hd2 hm2,mA,aE.c,aQ.c,aN.c,Action.c,aI.c,aY.c,ax.c,af.c,Node.c,aJ.c,dX.c]<;>rfl)) (ih2 (i2+1) (ji.set i2 (⟨x107.parent,x107.cond,x107.eS,SV⟩:Node)) (dn hd2) h)
theorem yg{aC:aJ}{aZ:aP}{r:aJ×Unit}(h:kz aC aZ=some r):gx prog 107 (cD aC) (cD r.1) [D.sl (aZ.map aE.c)] (D.gw []):=by
 refine Ii func107 [[some (63,4),some (3,1),some (83,3),some (74,8),some (43,2),none]] 60 [D.acc 1,D.acc 2,D.acc 3,D.acc 4,D.acc 5,D.int .i64 aC.cg] [D.sl (aZ.map aE.c)] [Ob.row .uq 63 4 (aC.rules.map aI.c),Ob.row .uq 3 1 (aC.ends.map nA),Ob.row .uq 83 3 (aC.bG.map af.c),Ob.row .uq 74 8 (aC.nodes.map Node.c),Ob.row .uq 43 2 (aC.facts.map aE.c)] fun hr hG Γ hΓ=>?_
 rw[kz]at h;obtain⟨y1,h2,h⟩:=aB h;obtain⟨h110,h⟩:=bU h;refine((aX.g (su h2)).a [.cn [0,1,15,16] [0,1,2,3,4,6]]).lp hΓ (zK hΓ (fun ew h=>?_) (bY h110) aC.bG 0 aC.bG rfl h);obtain⟨h109,h⟩:=bU h;refine(aX.a [.cn [0,1,41,42] [0,1,2,3,4,5]]).lp hΓ (zL hΓ (fun h=>?_) (bY h109) aC.nodes 0 aC.nodes rfl h);cases h
def vq(aC:aq)(aZ:aP)(ck:Int):Option aJ:=((rF aC).bind fun y1=>((kz y1 aZ).bind fun y3=>(some (⟨y3.1.rules,y3.1.ends,y3.1.bG,y3.1.nodes,y3.1.facts,ck⟩:aJ))))
theorem I4{aC:aq}{aZ:aP}{ck:Int}{r:aJ}(h:vq aC aZ ck=some r):Good prog 53 [D.sl (aC.map aI.c),D.sl (aZ.map aE.c),D.int .i64 ck] (D.agg [D.fr 63 4 (r.rules.map aI.c),D.fr 3 1 (r.ends.map nA),D.fr 83 3 (r.bG.map af.c),D.fr 74 8 (r.nodes.map Node.c),D.fr 43 2 (r.facts.map aE.c),D.int .i64 r.cg]):=by
 refine gd func53 [[some (63,4),some (3,1),some (83,3),some (74,8),some (43,2),none]] 15 fun hr Γ hΓ=>?_
 rw[vq]at h;obtain⟨y1,h2,h⟩:=aB h;obtain⟨y3,h4,h⟩:=aB h;cases h;exact((aX.g (DG h2)).hp [[some (63,4),some (3,1),some (83,3),some (74,8),some (43,2),none],[none]] (yg h4)).ret hΓ
def jm(aC:aI)(aZ:aI)(k1:Option Bool):ah->Nat->Option Bool
 | [],i1=>(k1)
 |bS::cZ,i1=>((iw aZ.conds (i1:Int)).bind fun x33=>((jg bS x33).bind fun GI=>(bif !(GI)then(some false)else(jm aC aZ k1 cZ (i1+1)))))
def iL(aC:aI)(aZ:aI)(k2:Option Bool):dw->Nat->Option Bool
 | [],i2=>(k2)
 |nD::uO,i2=>((iw aZ.cM (i2:Int)).bind fun x70=>(bif (nD.kind:Int) != x70.kind then(some false)else((fN nD.pat x70.pat).bind fun GJ=>(bif !(GJ)then(some false)else(iL aC aZ k2 uO (i2+1))))))
def pK(aC:aI)(aZ:aI):Option Bool:=(bif !((aC.name:Bytes)==aZ.name)then(some false)else(bif (aC.prio:Int) != aZ.prio then(some false)else(bif (((aC.conds.map aN.c).length:Int):Int) != ((aZ.conds.map aN.c).length:Int)then(some false)else(bif (((aC.cM.map Action.c).length:Int):Int) != ((aZ.cM.map Action.c).length:Int)then(some false)else(jm aC aZ (iL aC aZ (some true) aC.cM 0) aC.conds 0)))))
def Gk(aC:aI)(aZ:aI)(dP:Int):St:=⟨[(2,D.ptr 0 0),(3,D.ptr 1 0),(39,D.int .i64 ((aC.conds.map aN.c).length:Int)),(40,D.int .i64 dP)],[Ob.box (aI.c aC),Ob.box (aI.c aZ)]⟩
theorem FV(hΓ:Γ.nt=92){aC:aI}{aZ:aI}{r:Bool}{k1:Option Bool}(dY:k1=some r->Ax Γ N f108 (.q [[none]] (D.bool r)) [1,1,1] ⟨[(2,D.ptr 0 0),(3,D.ptr 1 0)],[Ob.box (aI.c aC),Ob.box (aI.c aZ)]⟩)(hm1:aC.conds.length<=maxLen):∀(rest:ah) (i1:Nat),aC.conds.drop i1=rest->jm aC aZ k1 rest i1=some r->Ar Γ N f108 (.q [[none]] (D.bool r)) [1,1,0,1,0] (rest.length+1) (Gk aC aZ (i1:Int)):=by
 intro rest
 induction rest with
 |nil=>
  intro i1 b9 h;rw[jm]at h;refine aV fun N1 cj cL=>?_
  exact((aX.ge aN.c b9).a [.hl 0 [2,3] [0,1]]).ex hΓ cj (dY h)
 |cons bS cZ ih1=>
  intro i1 b9 h;rw[jm]at h;refine aV fun N1 cj cL=>?_
  obtain⟨x33,h34,h⟩:=aB h;obtain⟨GI,h36,h⟩:=aB h;have kX:=(((((aX.lt aN.c b9).a [.n 10]).l (bJ aN.c 5 (dc b9) rfl)).l (er aN.c 5 h34 rfl)).g (tO h36))
  obtain⟨h37,h⟩|⟨h37,h⟩:=aO h
  ·have h:=aK h;subst h;exact(kX.b h37).ret hΓ
  ·exact((kX.b h37).a [.cn [2,3,39,40] [0,1]]).ct hΓ cL (iS b9 hm1) (ih1 (i1+1) (dn b9) h)
def Gl(aC:aI)(aZ:aI)(dP:Int):St:=⟨[(2,D.ptr 0 0),(3,D.ptr 1 0),(58,D.int .i64 ((aC.cM.map Action.c).length:Int)),(59,D.int .i64 dP)],[Ob.box (aI.c aC),Ob.box (aI.c aZ)]⟩
theorem FW(hΓ:Γ.nt=92){aC:aI}{aZ:aI}{r:Bool}{k2:Option Bool}(AR:k2=some r->Ax Γ N f108 (.q [[none]] (D.bool r)) [1,1,1,1] ⟨[],[]⟩)(hm2:aC.cM.length<=maxLen):∀(rest:dw) (i2:Nat),aC.cM.drop i2=rest->iL aC aZ k2 rest i2=some r->Ar Γ N f108 (.q [[none]] (D.bool r)) [1,1,1,0,1,0] (rest.length+1) (Gl aC aZ (i2:Int)):=by
 intro rest
 induction rest with
 |nil=>
  intro i2 hd2 h;rw[iL]at h;refine aV fun N2 uk tD=>?_
  exact((aX.ge Action.c hd2).a [.hl 0 [] []]).ex hΓ uk (AR h)
 |cons nD uO ih2=>
  intro i2 hd2 h;rw[iL]at h;refine aV fun N2 uk tD=>?_
  obtain⟨x70,h71,h⟩:=aB h;have sQ:=((((aX.lt Action.c hd2).a [.n 26]).l (bJ Action.c 3 (dc hd2) rfl)).l (er Action.c 3 h71 rfl))
  obtain⟨h72,h⟩|⟨h72,h⟩:=aO h
  ·have h:=aK h;subst h;exact((sQ.r 15 h72).T 1).ret hΓ
  ·obtain⟨GJ,h74,h⟩:=aB h;have vQ:=(((((((sQ.r 4 h72).l (bJ Action.c 3 (dc hd2) rfl)).r 6 h72).l (er Action.c 3 h71 rfl)).r 3 h72).g (ng h74)).r 2 h72)
   obtain⟨h75,h⟩|⟨h75,h⟩:=aO h
   ·have h:=aK h;subst h;exact(vQ.b h75).ret hΓ
   ·exact((vQ.b h75).a [.cn [2,3,58,59] [0,1]]).ct hΓ tD (iS hd2 hm2) (ih2 (i2+1) (dn hd2) h)
theorem Dw{aC:aI}{aZ:aI}{r:Bool}(h:pK aC aZ=some r):Good prog 108 [D.agg (aI.c aC),D.agg (aI.c aZ)] (D.bool r):=by
 refine gd func108 [[none]] 92 fun hr Γ hΓ=>?_
 rw[pK]at h;obtain⟨h1,h⟩|⟨h1,h⟩:=aO h
 ·have h:=aK h;subst h;exact((aX.r 6 h1).T 17).ret hΓ
 ·have yo:=(aX.r 6 h1)
  obtain⟨h2,h⟩|⟨h2,h⟩:=aO h
  ·have h:=aK h;subst h;exact((yo.r 8 h2).T 9).ret hΓ
  ·have Es:=(yo.r 8 h2)
   obtain⟨h3,h⟩|⟨h3,h⟩:=aO h
   ·have h:=aK h;subst h;exact((Es.r 8 h3).T 1).ret hΓ
   ·have KU:=(Es.r 8 h3)
    obtain⟨h4,h⟩|⟨h4,h⟩:=aO h
    ·have h:=aK h;subst h;exact(KU.b h4).ret hΓ
    ·refine((KU.b h4).a [.cn [2,3,39,40] [0,1]]).lp hΓ (FV hΓ (fun h=>?_) (by have:=(iE.sl (iE.agg (hr _ (aD (i:=0) rfl)) (.sl (aC.conds.map aN.c)) (by simp))).1;simpa using this) aC.conds 0 rfl h);refine(aX.a [.cn [2,3,58,59] [0,1]]).lp hΓ (FW hΓ (fun h=>?_) (by have:=(iE.sl (iE.agg (hr _ (aD (i:=0) rfl)) (.sl (aC.cM.map Action.c)) (by simp))).1;simpa using this) aC.cM 0 rfl h);have h:=aK h;subst h;exact aX.ret hΓ
def lZ(aC:aq)(aZ:aq)(k1:Option Bool):aq->Nat->Option Bool
 | [],i1=>(k1)
 |bS::cZ,i1=>((iw aZ (i1:Int)).bind fun x30=>((pK bS x30).bind fun F4=>(bif !(F4)then(some false)else(lZ aC aZ k1 cZ (i1+1)))))
def rE(aC:aq)(aZ:aq):Option Bool:=(bif (((aC.map aI.c).length:Int):Int) != ((aZ.map aI.c).length:Int)then(some false)else(lZ aC aZ (some true) aC 0))
def Fb(aC:aq)(aZ:aq)(dP:Int):St:=⟨[(0,D.sl (aC.map aI.c)),(1,D.sl (aZ.map aI.c)),(12,D.int .i64 ((aC.map aI.c).length:Int)),(13,D.int .i64 dP)],[]⟩
theorem E5(hΓ:Γ.nt=27){aC:aq}{aZ:aq}{r:Bool}{k1:Option Bool}(dY:k1=some r->Ax Γ N f54 (.q [[none]] (D.bool r)) [1,1,1] ⟨[],[]⟩)(hm1:aC.length<=maxLen):∀(rest:aq) (i1:Nat),aC.drop i1=rest->lZ aC aZ k1 rest i1=some r->Ar Γ N f54 (.q [[none]] (D.bool r)) [1,1,0,1,0] (rest.length+1) (Fb aC aZ (i1:Int)):=by
 intro rest
 induction rest with
 |nil=>
  intro i1 b9 h;rw[lZ]at h;refine aV fun N1 cj cL=>?_
  exact((aX.ge aI.c b9).a [.hl 0 [] []]).ex hΓ cj (dY h)
 |cons bS cZ ih1=>
  intro i1 b9 h;rw[lZ]at h;refine aV fun N1 cj cL=>?_
  obtain⟨x30,h31,h⟩:=aB h;obtain⟨F4,h33,h⟩:=aB h;have gG:=(((((aX.lt aI.c b9).a [.n 8]).l (bJ aI.c 4 (dc b9) rfl)).l (er aI.c 4 h31 rfl)).g (Dw h33))
  obtain⟨h34,h⟩|⟨h34,h⟩:=aO h
  ·have h:=aK h;subst h;exact(gG.b h34).ret hΓ
  ·exact((gG.b h34).a [.cn [0,1,12,13] []]).ct hΓ cL (iS b9 hm1) (ih1 (i1+1) (dn b9) h)
theorem wX{aC:aq}{aZ:aq}{r:Bool}(h:rE aC aZ=some r):Good prog 54 [D.sl (aC.map aI.c),D.sl (aZ.map aI.c)] (D.bool r):=by
 refine gd func54 [[none]] 27 fun hr Γ hΓ=>?_
 rw[rE]at h;obtain⟨h1,h⟩|⟨h1,h⟩:=aO h
 ·have h:=aK h;subst h;exact(aX.b h1).ret hΓ
 ·refine((aX.b h1).a [.cn [0,1,12,13] []]).lp hΓ (E5 hΓ (fun h=>?_) (by have:=(iE.sl (hr _ (aD (i:=0) rfl))).1;simpa using this) aC 0 rfl h);have h:=aK h;subst h;exact aX.ret hΓ
def mY(aC:bK)(aZ:bK)(k1:Option Bool):bK->Nat->Option Bool
 | [],i1=>(k1)
 |bS::cZ,i1=>((iw aZ (i1:Int)).bind fun x22=>(bif (bS:Int) != x22 then(some false)else(mY aC aZ k1 cZ (i1+1))))
def sE(aC:bK)(aZ:bK):Option Bool:=(bif (((aC.map nA).length:Int):Int) != ((aZ.map nA).length:Int)then(some false)else(mY aC aZ (some true) aC 0))
def Gq(aC:bK)(aZ:bK)(dP:Int):St:=⟨[(0,D.sl (aC.map nA)),(1,D.sl (aZ.map nA)),(12,D.int .i64 ((aC.map nA).length:Int)),(13,D.int .i64 dP)],[]⟩
theorem FZ(hΓ:Γ.nt=26){aC:bK}{aZ:bK}{r:Bool}{k1:Option Bool}(dY:k1=some r->Ax Γ N f55 (.q [[none]] (D.bool r)) [1,1,1] ⟨[],[]⟩)(hm1:aC.length<=maxLen):∀(rest:bK) (i1:Nat),aC.drop i1=rest->mY aC aZ k1 rest i1=some r->Ar Γ N f55 (.q [[none]] (D.bool r)) [1,1,0,1,0] (rest.length+1) (Gq aC aZ (i1:Int)):=by
 intro rest
 induction rest with
 |nil=>
  intro i1 b9 h;rw[mY]at h;refine aV fun N1 cj cL=>?_
  exact((aX.ge nA b9).a [.hl 0 [] []]).ex hΓ cj (dY h)
 |cons bS cZ ih1=>
  intro i1 b9 h;rw[mY]at h;refine aV fun N1 cj cL=>?_
  obtain⟨x22,h23,h⟩:=aB h;have gG:=((((aX.lt nA b9).a [.n 8]).l (bJ nA 1 (dc b9) rfl)).l (er nA 1 h23 rfl))
  obtain⟨h24,h⟩|⟨h24,h⟩:=aO h
  ·have h:=aK h;subst h;exact(gG.b h24).ret hΓ
  ·exact((gG.b h24).a [.cn [0,1,12,13] []]).ct hΓ cL (iS b9 hm1) (ih1 (i1+1) (dn b9) h)
theorem E3{aC:bK}{aZ:bK}{r:Bool}(h:sE aC aZ=some r):Good prog 55 [D.sl (aC.map nA),D.sl (aZ.map nA)] (D.bool r):=by
 refine gd func55 [[none]] 26 fun hr Γ hΓ=>?_
 rw[sE]at h;obtain⟨h1,h⟩|⟨h1,h⟩:=aO h
 ·have h:=aK h;subst h;exact(aX.b h1).ret hΓ
 ·refine((aX.b h1).a [.cn [0,1,12,13] []]).lp hΓ (FZ hΓ (fun h=>?_) (by have:=(iE.sl (hr _ (aD (i:=0) rfl))).1;simpa using this) aC 0 rfl h);have h:=aK h;subst h;exact aX.ret hΓ
def pN(aC:aE)(aZ:aE):Option Bool:=(bif (aC.rel:Bytes)==aZ.rel then((oa aC.args aZ.args).bind fun y2=>(some y2))else(some false))
theorem E2{aC:aE}{aZ:aE}{r:Bool}(h:pN aC aZ=some r):Good prog 109 [D.agg (aE.c aC),D.agg (aE.c aZ)] (D.bool r):=by
 refine gd func109 [[none]] 17 fun hr Γ hΓ=>?_
 rw[pN]at h;obtain⟨h1,h⟩|⟨h1,h⟩:=aO h
 ·obtain⟨y2,h3,h⟩:=aB h;have h:=aK h;subst h;exact(((aX.r 5 h1).g (wY h3)).b h1).ret hΓ
 ·have h:=aK h;subst h;exact(aX.r 6 h1).ret hΓ
def lV(aC:aP)(aZ:aP)(k1:Option Bool):aP->Nat->Option Bool
 | [],i1=>(k1)
 |bS::cZ,i1=>((iw aZ (i1:Int)).bind fun x30=>((pN bS x30).bind fun F4=>(bif !(F4)then(some false)else(lV aC aZ k1 cZ (i1+1)))))
def j5(aC:aP)(aZ:aP):Option Bool:=(bif (((aC.map aE.c).length:Int):Int) != ((aZ.map aE.c).length:Int)then(some false)else(lV aC aZ (some true) aC 0))
def FU(aC:aP)(aZ:aP)(dP:Int):St:=⟨[(0,D.sl (aC.map aE.c)),(1,D.sl (aZ.map aE.c)),(12,D.int .i64 ((aC.map aE.c).length:Int)),(13,D.int .i64 dP)],[]⟩
theorem Dv(hΓ:Γ.nt=27){aC:aP}{aZ:aP}{r:Bool}{k1:Option Bool}(dY:k1=some r->Ax Γ N f56 (.q [[none]] (D.bool r)) [1,1,1] ⟨[],[]⟩)(hm1:aC.length<=maxLen):∀(rest:aP) (i1:Nat),aC.drop i1=rest->lV aC aZ k1 rest i1=some r->Ar Γ N f56 (.q [[none]] (D.bool r)) [1,1,0,1,0] (rest.length+1) (FU aC aZ (i1:Int)):=by
 intro rest
 induction rest with
 |nil=>
  intro i1 b9 h;rw[lV]at h;refine aV fun N1 cj cL=>?_
  exact((aX.ge aE.c b9).a [.hl 0 [] []]).ex hΓ cj (dY h)
 |cons bS cZ ih1=>
  intro i1 b9 h;rw[lV]at h;refine aV fun N1 cj cL=>?_
  obtain⟨x30,h31,h⟩:=aB h;obtain⟨F4,h33,h⟩:=aB h;have gG:=(((((aX.lt aE.c b9).a [.n 8]).l (bJ aE.c 2 (dc b9) rfl)).l (er aE.c 2 h31 rfl)).g (E2 h33))
  obtain⟨h34,h⟩|⟨h34,h⟩:=aO h
  ·have h:=aK h;subst h;exact(gG.b h34).ret hΓ
  ·exact((gG.b h34).a [.cn [0,1,12,13] []]).ct hΓ cL (iS b9 hm1) (ih1 (i1+1) (dn b9) h)
theorem sn{aC:aP}{aZ:aP}{r:Bool}(h:j5 aC aZ=some r):Good prog 56 [D.sl (aC.map aE.c),D.sl (aZ.map aE.c)] (D.bool r):=by
 refine gd func56 [[none]] 27 fun hr Γ hΓ=>?_
 rw[j5]at h;obtain⟨h1,h⟩|⟨h1,h⟩:=aO h
 ·have h:=aK h;subst h;exact(aX.b h1).ret hΓ
 ·refine((aX.b h1).a [.cn [0,1,12,13] []]).lp hΓ (Dv hΓ (fun h=>?_) (by have:=(iE.sl (hr _ (aD (i:=0) rfl))).1;simpa using this) aC 0 rfl h);have h:=aK h;subst h;exact aX.ret hΓ
def jI(aC:aM)(aZ:aM)(k1:Option Bool):aM->Nat->Option Bool
 | [],i1=>(k1)
 |bS::cZ,i1=>((iw aZ (i1:Int)).bind fun x22=>(bif !((bS.var:Bytes)==x22.var&&(bS.value:Bytes)==x22.value)then(some false)else(jI aC aZ k1 cZ (i1+1))))
def oZ(aC:aM)(aZ:aM):Option Bool:=(bif (((aC.map aQ.c).length:Int):Int) != ((aZ.map aQ.c).length:Int)then(some false)else(jI aC aZ (some true) aC 0))
def Fa(aC:aM)(aZ:aM)(dP:Int):St:=⟨[(0,D.sl (aC.map aQ.c)),(1,D.sl (aZ.map aQ.c)),(12,D.int .i64 ((aC.map aQ.c).length:Int)),(13,D.int .i64 dP)],[]⟩
theorem E4(hΓ:Γ.nt=26){aC:aM}{aZ:aM}{r:Bool}{k1:Option Bool}(dY:k1=some r->Ax Γ N f111 (.q [[none]] (D.bool r)) [1,1,1] ⟨[],[]⟩)(hm1:aC.length<=maxLen):∀(rest:aM) (i1:Nat),aC.drop i1=rest->jI aC aZ k1 rest i1=some r->Ar Γ N f111 (.q [[none]] (D.bool r)) [1,1,0,1,0] (rest.length+1) (Fa aC aZ (i1:Int)):=by
 intro rest
 induction rest with
 |nil=>
  intro i1 b9 h;rw[jI]at h;refine aV fun N1 cj cL=>?_
  exact((aX.ge aQ.c b9).a [.hl 0 [] []]).ex hΓ cj (dY h)
 |cons bS cZ ih1=>
  intro i1 b9 h;rw[jI]at h;refine aV fun N1 cj cL=>?_
  obtain⟨x22,h23,h⟩:=aB h;have gG:=((((aX.lt aQ.c b9).a [.n 8]).l (bJ aQ.c 2 (dc b9) rfl)).l (er aQ.c 2 h23 rfl))
  obtain⟨h24,h⟩|⟨h24,h⟩:=aO h
  ·have h:=aK h;subst h;exact(gG.b h24).ret hΓ
  ·exact((gG.b h24).a [.cn [0,1,12,13] []]).ct hΓ cL (iS b9 hm1) (ih1 (i1+1) (dn b9) h)
theorem DE{aC:aM}{aZ:aM}{r:Bool}(h:oZ aC aZ=some r):Good prog 111 [D.sl (aC.map aQ.c),D.sl (aZ.map aQ.c)] (D.bool r):=by
 refine gd func111 [[none]] 26 fun hr Γ hΓ=>?_
 rw[oZ]at h;obtain⟨h1,h⟩|⟨h1,h⟩:=aO h
 ·have h:=aK h;subst h;exact(aX.b h1).ret hΓ
 ·refine((aX.b h1).a [.cn [0,1,12,13] []]).lp hΓ (E4 hΓ (fun h=>?_) (by have:=(iE.sl (hr _ (aD (i:=0) rfl))).1;simpa using this) aC 0 rfl h);have h:=aK h;subst h;exact aX.ret hΓ
def iN(aC:bB)(aZ:bB)(k1:Option Bool):bB->Nat->Option Bool
 | [],i1=>(k1)
 |bS::cZ,i1=>((iw aZ (i1:Int)).bind fun x42=>((j5 bS.facts x42.facts).bind fun y44=>(bif !(y44)then(some false)else((oZ bS.bind x42.bind).bind fun y47=>(bif !(y47)then(some false)else(iN aC aZ k1 cZ (i1+1)))))))
def ni(aC:bB)(aZ:bB):Option Bool:=(bif (((aC.map aY.c).length:Int):Int) != ((aZ.map aY.c).length:Int)then(some false)else(iN aC aZ (some true) aC 0))
def E7(aC:bB)(aZ:bB)(dP:Int):St:=⟨[(0,D.sl (aC.map aY.c)),(1,D.sl (aZ.map aY.c)),(12,D.int .i64 ((aC.map aY.c).length:Int)),(13,D.int .i64 dP)],[]⟩
theorem DF(hΓ:Γ.nt=43){aC:bB}{aZ:bB}{r:Bool}{k1:Option Bool}(dY:k1=some r->Ax Γ N f59 (.q [[none]] (D.bool r)) [1,1,1] ⟨[],[]⟩)(hm1:aC.length<=maxLen):∀(rest:bB) (i1:Nat),aC.drop i1=rest->iN aC aZ k1 rest i1=some r->Ar Γ N f59 (.q [[none]] (D.bool r)) [1,1,0,1,0] (rest.length+1) (E7 aC aZ (i1:Int)):=by
 intro rest
 induction rest with
 |nil=>
  intro i1 b9 h;rw[iN]at h;refine aV fun N1 cj cL=>?_
  exact((aX.ge aY.c b9).a [.hl 0 [] []]).ex hΓ cj (dY h)
 |cons bS cZ ih1=>
  intro i1 b9 h;rw[iN]at h;refine aV fun N1 cj cL=>?_
  obtain⟨x42,h43,h⟩:=aB h;obtain⟨y44,h45,h⟩:=aB h;have kY:=(((((aX.lt aY.c b9).a [.n 23]).l (bJ aY.c 2 (dc b9) rfl)).l (er aY.c 2 h43 rfl)).g (sn h45))
  obtain⟨h46,h⟩|⟨h46,h⟩:=aO h
  ·have h:=aK h;subst h;exact((kY.r 13 h46).T 1).ret hΓ
  ·obtain⟨y47,h48,h⟩:=aB h;have kX:=(((((((kY.r 3 h46).l (bJ aY.c 2 (dc b9) rfl)).r 5 h46).l (er aY.c 2 h43 rfl)).r 3 h46).g (DE h48)).r 2 h46)
   obtain⟨h49,h⟩|⟨h49,h⟩:=aO h
   ·have h:=aK h;subst h;exact(kX.b h49).ret hΓ
   ·exact((kX.b h49).a [.cn [0,1,12,13] []]).ct hΓ cL (iS b9 hm1) (ih1 (i1+1) (dn b9) h)
theorem CD{aC:bB}{aZ:bB}{r:Bool}(h:ni aC aZ=some r):Good prog 59 [D.sl (aC.map aY.c),D.sl (aZ.map aY.c)] (D.bool r):=by
 refine gd func59 [[none]] 43 fun hr Γ hΓ=>?_
 rw[ni]at h;obtain⟨h1,h⟩|⟨h1,h⟩:=aO h
 ·have h:=aK h;subst h;exact(aX.b h1).ret hΓ
 ·refine((aX.b h1).a [.cn [0,1,12,13] []]).lp hΓ (DF hΓ (fun h=>?_) (by have:=(iE.sl (hr _ (aD (i:=0) rfl))).1;simpa using this) aC 0 rfl h);have h:=aK h;subst h;exact aX.ret hΓ
def gS(aC:aJ)(aZ:aJ)(k1:Option Bool):bX->Nat->Option Bool
 | [],i1=>(k1)
 |bS::cZ,i1=>((iw aZ.bG (i1:Int)).bind fun x52=>((fN bS.shape x52.shape).bind fun JJ=>(bif !(JJ)then(some false)else((j5 bS.facts x52.facts).bind fun y57=>(bif !(y57)then(some false)else(gS aC aZ k1 cZ (i1+1)))))))
def gT(aC:aJ)(aZ:aJ)(k2:Option Bool):bR->Nat->Option Bool
 | [],i2=>(k2)
 |nD::uO,i2=>((iw aZ.nodes (i2:Int)).bind fun x108=>(bif (nD.parent:Int) != x108.parent then(some false)else(bif (nD.eS:Int) != x108.eS then(some false)else((jg nD.cond x108.cond).bind fun SW=>(bif !(SW)then(some false)else((ni nD.tokens x108.tokens).bind fun Uy=>(bif !(Uy)then(some false)else(gT aC aZ k2 uO (i2+1)))))))))
def oC(aC:aJ)(aZ:aJ):Option Bool:=((rE aC.rules aZ.rules).bind fun y1=>(bif !(y1)then(some false)else((sE aC.ends aZ.ends).bind fun y4=>(bif !(y4)then(some false)else((j5 aC.facts aZ.facts).bind fun y7=>(bif !(y7)then(some false)else(bif (((aC.bG.map af.c).length:Int):Int) != ((aZ.bG.map af.c).length:Int)then(some false)else(bif (((aC.nodes.map Node.c).length:Int):Int) != ((aZ.nodes.map Node.c).length:Int)then(some false)else(gS aC aZ (gT aC aZ (some true) aC.nodes 0) aC.bG 0)))))))))
def C4(aC:aJ)(aZ:aJ)(dP:Int):St:=⟨[(2,D.ptr 0 0),(3,D.ptr 1 0),(51,D.int .i64 ((aC.bG.map af.c).length:Int)),(52,D.int .i64 dP)],[Ob.box (aJ.c aC),Ob.box (aJ.c aZ)]⟩
theorem BC(hΓ:Γ.nt=131){aC:aJ}{aZ:aJ}{r:Bool}{k1:Option Bool}(dY:k1=some r->Ax Γ N f16 (.q [[none]] (D.bool r)) [1,1,1] ⟨[(2,D.ptr 0 0),(3,D.ptr 1 0)],[Ob.box (aJ.c aC),Ob.box (aJ.c aZ)]⟩)(hm1:aC.bG.length<=maxLen):∀(rest:bX) (i1:Nat),aC.bG.drop i1=rest->gS aC aZ k1 rest i1=some r->Ar Γ N f16 (.q [[none]] (D.bool r)) [1,1,0,1,0] (rest.length+1) (C4 aC aZ (i1:Int)):=by
 intro rest
 induction rest with
 |nil=>
  intro i1 b9 h;rw[gS]at h;refine aV fun N1 cj cL=>?_
  exact((aX.ge af.c b9).a [.hl 0 [2,3] [0,1]]).ex hΓ cj (dY h)
 |cons bS cZ ih1=>
  intro i1 b9 h;rw[gS]at h;refine aV fun N1 cj cL=>?_
  obtain⟨x52,h53,h⟩:=aB h;obtain⟨JJ,h55,h⟩:=aB h;have yo:=(((((aX.lt af.c b9).a [.n 27]).l (bJ af.c 3 (dc b9) rfl)).l (er af.c 3 h53 rfl)).g (ng h55))
  obtain⟨h56,h⟩|⟨h56,h⟩:=aO h
  ·have h:=aK h;subst h;exact((yo.r 15 h56).T 1).ret hΓ
  ·obtain⟨y57,h58,h⟩:=aB h;have Es:=(((((((yo.r 4 h56).l (bJ af.c 3 (dc b9) rfl)).r 6 h56).l (er af.c 3 h53 rfl)).r 3 h56).g (sn h58)).r 2 h56)
   obtain⟨h59,h⟩|⟨h59,h⟩:=aO h
   ·have h:=aK h;subst h;exact(Es.b h59).ret hΓ
   ·exact((Es.b h59).a [.cn [2,3,51,52] [0,1]]).ct hΓ cL (iS b9 hm1) (ih1 (i1+1) (dn b9) h)
def C5(aC:aJ)(aZ:aJ)(dP:Int):St:=⟨[(2,D.ptr 0 0),(3,D.ptr 1 0),(88,D.int .i64 ((aC.nodes.map Node.c).length:Int)),(89,D.int .i64 dP)],[Ob.box (aJ.c aC),Ob.box (aJ.c aZ)]⟩
theorem BD(hΓ:Γ.nt=131){aC:aJ}{aZ:aJ}{r:Bool}{k2:Option Bool}(AR:k2=some r->Ax Γ N f16 (.q [[none]] (D.bool r)) [1,1,1,1] ⟨[],[]⟩)(hm2:aC.nodes.length<=maxLen):∀(rest:bR) (i2:Nat),aC.nodes.drop i2=rest->gT aC aZ k2 rest i2=some r->Ar Γ N f16 (.q [[none]] (D.bool r)) [1,1,1,0,1,0] (rest.length+1) (C5 aC aZ (i2:Int)):=by
 intro rest
 induction rest with
 |nil=>
  intro i2 hd2 h;rw[gT]at h;refine aV fun N2 uk tD=>?_
  exact((aX.ge Node.c hd2).a [.hl 0 [] []]).ex hΓ uk (AR h)
 |cons nD uO ih2=>
  intro i2 hd2 h;rw[gT]at h;refine aV fun N2 uk tD=>?_
  obtain⟨x108,h109,h⟩:=aB h;have KU:=((((aX.lt Node.c hd2).a [.n 13]).l (bJ Node.c 8 (dc hd2) rfl)).l (er Node.c 8 h109 rfl))
  obtain⟨h110,h⟩|⟨h110,h⟩:=aO h
  ·have h:=aK h;subst h;exact((KU.r 6 h110).T 15).ret hΓ
  ·have Bf:=(KU.r 6 h110)
   obtain⟨h111,h⟩|⟨h111,h⟩:=aO h
   ·have h:=aK h;subst h;exact((Bf.r 7 h111).T 8).ret hΓ
   ·obtain⟨SW,h113,h⟩:=aB h;have Iy:=(((Bf.r 5 h111).g (tO h113)).r 2 h111)
    obtain⟨h114,h⟩|⟨h114,h⟩:=aO h
    ·have h:=aK h;subst h;exact((Iy.r 7 h114).T 1).ret hΓ
    ·obtain⟨Uy,h116,h⟩:=aB h;have Da:=(((Iy.r 5 h114).g (CD h116)).r 2 h114)
     obtain⟨h117,h⟩|⟨h117,h⟩:=aO h
     ·have h:=aK h;subst h;exact(Da.b h117).ret hΓ
     ·exact((Da.b h117).a [.cn [2,3,88,89] [0,1]]).ct hΓ tD (iS hd2 hm2) (ih2 (i2+1) (dn hd2) h)
theorem Ad{aC:aJ}{aZ:aJ}{r:Bool}(h:oC aC aZ=some r):Good prog 16 [D.agg (aJ.c aC),D.agg (aJ.c aZ)] (D.bool r):=by
 refine gd func16 [[none]] 131 fun hr Γ hΓ=>?_
 rw[oC]at h;obtain⟨y1,h2,h⟩:=aB h;obtain⟨h3,h⟩|⟨h3,h⟩:=aO h
 ·have h:=aK h;subst h;exact(((aX.g (wX h2)).r 7 h3).T 24).ret hΓ
 ·obtain⟨y4,h5,h⟩:=aB h;have Iz:=((((aX.g (wX h2)).r 5 h3).g (E3 h5)).r 2 h3)
  obtain⟨h6,h⟩|⟨h6,h⟩:=aO h
  ·have h:=aK h;subst h;exact((Iz.r 7 h6).T 17).ret hΓ
  ·obtain⟨y7,h8,h⟩:=aB h;have MK:=(((Iz.r 5 h6).g (sn h8)).r 2 h6)
   obtain⟨h9,h⟩|⟨h9,h⟩:=aO h
   ·have h:=aK h;subst h;exact((MK.r 8 h9).T 9).ret hΓ
   ·have XL:=(MK.r 8 h9)
    obtain⟨h10,h⟩|⟨h10,h⟩:=aO h
    ·have h:=aK h;subst h;exact((XL.r 8 h10).T 1).ret hΓ
    ·have XM:=(XL.r 8 h10)
     obtain⟨h11,h⟩|⟨h11,h⟩:=aO h
     ·have h:=aK h;subst h;exact(XM.b h11).ret hΓ
     ·refine((XM.b h11).a [.cn [2,3,51,52] [0,1]]).lp hΓ (BC hΓ (fun h=>?_) (by have:=(iE.sl (iE.agg (hr _ (aD (i:=0) rfl)) (.sl (aC.bG.map af.c)) (by simp))).1;simpa using this) aC.bG 0 rfl h);refine(aX.a [.cn [2,3,88,89] [0,1]]).lp hΓ (BD hΓ (fun h=>?_) (by have:=(iE.sl (iE.agg (hr _ (aD (i:=0) rfl)) (.sl (aC.nodes.map Node.c)) (by simp))).1;simpa using this) aC.nodes 0 rfl h);have h:=aK h;subst h;exact aX.ret hΓ
def qy(aC:aJ):Option Bool:=((pJ aC.rules).bind fun y1=>(bif y1 then((pH aC.facts).bind fun y4=>(bif y4 then(bif decide ((aC.cg:Int)>=0)then((vq aC.rules aC.facts 0).bind fun y8=>((oC aC y8).bind fun Dc=>(some Dc)))else(some false))else(some false)))else(some false)))
theorem wT{aC:aJ}{r:Bool}(h:qy aC=some r):Good prog 17 [D.agg (aJ.c aC)] (D.bool r):=by
 refine gd func17 [[none]] 25 fun hr Γ hΓ=>?_
 rw[qy]at h;obtain⟨y1,h2,h⟩:=aB h;have nB:=((aX.a [.n 20]).g (tM h2))
 obtain⟨h3,h⟩|⟨h3,h⟩:=aO h
 ·obtain⟨y4,h5,h⟩:=aB h;have gG:=(((nB.r 3 h3).g (xN h5)).b h3)
  obtain⟨h6,h⟩|⟨h6,h⟩:=aO h
  ·have kY:=(gG.r 4 h6)
   obtain⟨h7,h⟩|⟨h7,h⟩:=aO h
   ·obtain⟨y8,h9,h⟩:=aB h;obtain⟨Dc,h11,h⟩:=aB h;have h:=aK h;subst h;exact(((((kY.r 6 h7).g (I4 h9)).b h7).g (Ad h11)).b h7).ret hΓ
   ·have h:=aK h;subst h;exact(kY.r 8 h7).ret hΓ
  ·have h:=aK h;subst h;exact((gG.r 4 h6).F 8).ret hΓ
 ·have h:=aK h;subst h;exact((nB.r 4 h3).F 12).ret hΓ
def fU(aC:aJ)(eE:bV)(i2:Nat)(nD:aY)(i1:Nat)(bS:aI)(rT:aM)(x1486:Node)(A6:aP)(k3:aM->Option bV):aM->Nat->aM->Option bV
 | [],i3,Mg=>(k3 Mg)
 |Nt::Mi,i3,Mg=>((nL nD.bind Nt.value).bind fun YR=>(bif YR.2 then((qO Mg Nt.var YR.1).bind fun YS=>(fU aC eE i2 nD i1 bS rT x1486 A6 k3 Mi (i3+1) YS.1))else(fU aC eE i2 nD i1 bS rT x1486 A6 k3 Mi (i3+1) Mg)))
def fT(aC:aJ)(i1:Nat)(bS:aI)(rT:aM)(x1486:Node)(k2:bV->Option bV):bB->Nat->bV->Option bV
 | [],i2,eE=>(k2 eE)
 |nD::uO,i2,eE=>((kG nD.facts).bind fun A6=>(bif decide (rT.length<=maxLen)then(fU aC eE i2 nD i1 bS rT x1486 A6 (fun(Qd:aM)=>(bif room ((eE.map ax.c).length+([[D.str bS.name,D.sl (A6.map aE.c),D.sl (Qd.map aQ.c)]]).length) 64 then(fT aC i1 bS rT x1486 k2 uO (i2+1) (eE++([(⟨bS.name,A6,Qd⟩:ax)])))else none)) rT 0 ([]:aM))else none))
def fS(aC:aJ)(k1:bV->Option bV):aq->Nat->bV->Option bV
 | [],i1,bQ=>(k1 bQ)
 |bS::cZ,i1,bQ=>((nc bS).bind fun rT=>((iw aC.ends (i1:Int)).bind fun x1484=>((iw aC.nodes x1484).bind fun x1486=>(bif decide (x1486.tokens.length<=maxLen)then(fT aC i1 bS rT x1486 (fun(qd:bV)=>(fS aC k1 cZ (i1+1) qd)) x1486.tokens 0 bQ)else none))))
def rY(aC:aJ):Option bV:=(fS aC (fun(cC:bV)=>(some cC)) aC.rules 0 ([]:bV))
def D7(aC:aJ)(W0:List aL)(dP:Int):St:=⟨[(1,D.ptr 0 0),(3,D.acc 1),(15,D.sl (aC.rules.map aI.c)),(16,D.int .i64 ((aC.rules.map aI.c).length:Int)),(17,D.int .i64 dP)],[Ob.box (aJ.c aC),Ob.row .uq 57 3 W0]⟩
def wV(aC:aJ)(i1:Nat)(bS:aI)(rT:aM)(x1486:Node)(W0:List aL)(dP:Int):St:=⟨[(1,D.ptr 0 0),(3,D.acc 1),(5,D.ptr 2 0),(6,D.acc 3),(15,D.sl (aC.rules.map aI.c)),(16,D.int .i64 ((aC.rules.map aI.c).length:Int)),(17,D.int .i64 (i1:Int)),(33,D.sl (x1486.tokens.map aY.c)),(34,D.int .i64 ((x1486.tokens.map aY.c).length:Int)),(35,D.int .i64 dP)],[Ob.box (aJ.c aC),Ob.row .uq 57 3 W0,Ob.box [D.str bS.name,D.int .i64 bS.prio,D.sl (bS.conds.map aN.c),D.sl (bS.cM.map Action.c)],Ob.row .uq 113 2 (rT.map aQ.c)]⟩
def D8(aC:aJ)(eE:bV)(i2:Nat)(nD:aY)(i1:Nat)(bS:aI)(rT:aM)(x1486:Node)(A6:aP)(W0:List aL)(dP:Int):St:=⟨[(1,D.ptr 0 0),(3,D.acc 1),(5,D.ptr 2 0),(6,D.acc 3),(8,D.ptr 4 0),(9,D.ptr 5 0),(15,D.sl (aC.rules.map aI.c)),(16,D.int .i64 ((aC.rules.map aI.c).length:Int)),(17,D.int .i64 (i1:Int)),(33,D.sl (x1486.tokens.map aY.c)),(34,D.int .i64 ((x1486.tokens.map aY.c).length:Int)),(35,D.int .i64 (i2:Int)),(45,D.acc 3),(46,D.int .i64 ((rT.map aQ.c).length:Int)),(47,D.int .i64 dP)],[Ob.box (aJ.c aC),Ob.row .uq 57 3 (eE.map ax.c),Ob.box [D.str bS.name,D.int .i64 bS.prio,D.sl (bS.conds.map aN.c),D.sl (bS.cM.map Action.c)],Ob.row .uq 113 2 (rT.map aQ.c),Ob.box [D.sl (nD.facts.map aE.c),D.sl (nD.bind.map aQ.c)],Ob.box [D.str bS.name,D.acc 6,D.acc 7],Ob.row .uq 43 2 (A6.map aE.c),Ob.row .uq 113 2 W0]⟩
theorem CB(hΓ:Γ.nt=78){aC:aJ}{eE:bV}{i2:Nat}{nD:aY}{i1:Nat}{bS:aI}{rT:aM}{x1486:Node}{A6:aP}{r:bV}{k3:aM->Option bV}(Vw:∀(Qd:aM),k3 Qd=some r->Ax Γ N f36 (.q [[some (57,3)]] (D.fr 57 3 (r.map ax.c))) [1,1,0,1,0,0,1,1,0,0,1,1,1,0,0,1,1,0,0,1,1,1] ⟨[(1,D.ptr 0 0),(3,D.acc 1),(5,D.ptr 2 0),(6,D.acc 3),(9,D.ptr 4 0),(15,D.sl (aC.rules.map aI.c)),(16,D.int .i64 ((aC.rules.map aI.c).length:Int)),(17,D.int .i64 (i1:Int)),(33,D.sl (x1486.tokens.map aY.c)),(34,D.int .i64 ((x1486.tokens.map aY.c).length:Int)),(35,D.int .i64 (i2:Int))],[Ob.box (aJ.c aC),Ob.row .uq 57 3 (eE.map ax.c),Ob.box [D.str bS.name,D.int .i64 bS.prio,D.sl (bS.conds.map aN.c),D.sl (bS.cM.map Action.c)],Ob.row .uq 113 2 (rT.map aQ.c),Ob.box [D.str bS.name,D.acc 5,D.acc 6],Ob.row .uq 43 2 (A6.map aE.c),Ob.row .uq 113 2 (Qd.map aQ.c)]⟩)(PF:rT.length<=maxLen):∀(rest:aM) (i3:Nat) (Mg:aM),rT.drop i3=rest->fU aC eE i2 nD i1 bS rT x1486 A6 k3 rest i3 Mg=some r->Ar Γ N f36 (.q [[some (57,3)]] (D.fr 57 3 (r.map ax.c))) [1,1,0,1,0,0,1,1,0,0,1,1,1,0,0,1,1,0,0,1,1,0,1,0] (rest.length+1) (D8 aC eE i2 nD i1 bS rT x1486 A6 (Mg.map aQ.c) (i3:Int)):=by
 intro rest
 induction rest with
 |nil=>
  intro i3 Mg wD h;rw[fU]at h;refine aV fun N3 Q3 Lm=>?_
  exact((aX.ge aQ.c wD).a [.hl 9 [1,3,5,6,9,15,16,17,33,34,35] [0,1,2,3,5,6,7]]).ex hΓ Q3 (Vw Mg h)
 |cons Nt Mi ih3=>
  intro i3 Mg wD h;rw[fU]at h;refine aV fun N3 Q3 Lm=>?_
  obtain⟨YR,h1769,h⟩:=aB h;have a5y:=((((aX.lt aQ.c wD).i (mK aQ.c 2 (dc wD))).o 2 2 .uq (cX aQ.c (dc wD))).g (qh h1769))
  obtain⟨h1770,h⟩|⟨h1770,h⟩:=aO h
  ·obtain⟨YS,h1772,h⟩:=aB h;exact(((a5y.b h1770).g (zM h1772)).a [.cn [1,3,5,6,8,9,15,16,17,33,34,35,45,46,47] [0,1,2,3,4,5,6,9]]).ct hΓ Lm (iS wD PF) (ih3 (i3+1) YS.1 (dn wD) h)
  ·exact((a5y.b h1770).a [.cn [1,3,5,6,8,9,15,16,17,33,34,35,45,46,47] [0,1,2,3,4,5,6,7]]).ct hΓ Lm (iS wD PF) (ih3 (i3+1) Mg (dn wD) h)
theorem CA(hΓ:Γ.nt=78){aC:aJ}{i1:Nat}{bS:aI}{rT:aM}{x1486:Node}{r:bV}{k2:bV->Option bV}(AR:∀(qd:bV),k2 qd=some r->Ax Γ N f36 (.q [[some (57,3)]] (D.fr 57 3 (r.map ax.c))) [1,1,0,1,0,0,1,1,1] ⟨[(1,D.ptr 0 0),(3,D.acc 1),(15,D.sl (aC.rules.map aI.c)),(16,D.int .i64 ((aC.rules.map aI.c).length:Int)),(17,D.int .i64 (i1:Int))],[Ob.box (aJ.c aC),Ob.row .uq 57 3 (qd.map ax.c)]⟩)(hm2:x1486.tokens.length<=maxLen):∀(rest:bB) (i2:Nat) (eE:bV),x1486.tokens.drop i2=rest->fT aC i1 bS rT x1486 k2 rest i2 eE=some r->Ar Γ N f36 (.q [[some (57,3)]] (D.fr 57 3 (r.map ax.c))) [1,1,0,1,0,0,1,1,0,0,1,1,1,0] (rest.length+1) (wV aC i1 bS rT x1486 (eE.map ax.c) (i2:Int)):=by
 intro rest
 induction rest with
 |nil=>
  intro i2 eE hd2 h;rw[fT]at h;refine aV fun N2 uk tD=>?_
  exact((aX.ge aY.c hd2).a [.hl 3 [1,3,15,16,17] [0,1]]).ex hΓ uk (AR eE h)
 |cons nD uO ih2=>
  intro i2 eE hd2 h;rw[fT]at h;refine aV fun N2 uk tD=>?_
  obtain⟨A6,h1730,h⟩:=aB h;obtain⟨h1774,h⟩:=bU h;refine(((((aX.lt aY.c hd2).l (bJ aY.c 2 (dc hd2) rfl)).a [.n 7]).g (su h1730)).a [.pb 6 2 113 2,.cn [1,3,5,6,8,9,15,16,17,33,34,35,45,46,47] [0,1,2,3,4,6,5,7]]).lp hΓ (CB hΓ (fun Qd h=>?_) (bY h1774) rT 0 ([]:aM) rfl h);obtain⟨h1773,h⟩:=bU h;exact((aX.w (bp h1773)).a [.cn [1,3,5,6,15,16,17,33,34,35] [0,8,2,3]]).cs hΓ tD (wV aC i1 bS rT x1486 ((eE.map ax.c)++([[D.str bS.name,D.sl (A6.map aE.c),D.sl (Qd.map aQ.c)]])) (IntKind.i64.wrap ((i2:Int)+1))) (by first| (simp only[iS hd2 hm2,mA]<;>rfl)| (simp only[iS hd2 hm2,mA,aE.c,aQ.c,aN.c,Action.c,aI.c,aY.c,ax.c,af.c,Node.c,aJ.c,dX.c]<;>rfl)) (ih2 (i2+1) (eE++([(⟨bS.name,A6,Qd⟩:ax)])) (dn hd2) h)
theorem C9(hΓ:Γ.nt=78){aC:aJ}{r:bV}{k1:bV->Option bV}(dY:∀(cC:bV),k1 cC=some r->Ax Γ N f36 (.q [[some (57,3)]] (D.fr 57 3 (r.map ax.c))) [1,1,1] ⟨[(3,D.acc 0)],[Ob.row .uq 57 3 (cC.map ax.c)]⟩)(hm1:aC.rules.length<=maxLen):∀(rest:aq) (i1:Nat) (bQ:bV),aC.rules.drop i1=rest->fS aC k1 rest i1 bQ=some r->Ar Γ N f36 (.q [[some (57,3)]] (D.fr 57 3 (r.map ax.c))) [1,1,0,1,0] (rest.length+1) (D7 aC (bQ.map ax.c) (i1:Int)):=by
 intro rest
 induction rest with
 |nil=>
  intro i1 bQ b9 h;rw[fS]at h;refine aV fun N1 cj cL=>?_
  exact((aX.ge aI.c b9).a [.hl 0 [3] [1]]).ex hΓ cj (dY bQ h)
 |cons bS cZ ih1=>
  intro i1 bQ b9 h;rw[fS]at h;refine aV fun N1 cj cL=>?_
  obtain⟨rT,h1483,h⟩:=aB h;obtain⟨x1484,h1485,h⟩:=aB h;obtain⟨x1486,h1487,h⟩:=aB h;obtain⟨h1775,h⟩:=bU h;refine(((((((aX.lt aI.c b9).l (bJ aI.c 4 (dc b9) rfl)).g (vp h1483)).a [.n 12]).l (er nA 1 h1485 rfl)).l (er Node.c 8 h1487 rfl)).a [.cn [1,3,5,6,15,16,17,33,34,35] [0,1,2,3]]).lp hΓ (CA hΓ (fun qd h=>?_) (bY h1775) x1486.tokens 0 bQ rfl h);exact(aX.a [.cn [1,3,15,16,17] [0,1]]).ct hΓ cL (iS b9 hm1) (ih1 (i1+1) qd (dn b9) h)
theorem BE{aC:aJ}{r:bV}(h:rY aC=some r):Good prog 36 [D.agg (aJ.c aC)] (D.fr 57 3 (r.map ax.c)):=by
 refine gd func36 [[some (57,3)]] 78 fun hr Γ hΓ=>?_
 rw[rY]at h;refine(aX.a [.KW 3,.cn [1,3,15,16,17] [0,1]]).lp hΓ (C9 hΓ (fun cC h=>?_) (by have:=(iE.sl (iE.agg (hr _ (aD (i:=0) rfl)) (.sl (aC.rules.map aI.c)) (by simp))).1;simpa using this) aC.rules 0 ([]:bV) rfl h);have h:=aK h;subst h;exact aX.ret hΓ
def ot(aC:aJ):Option bV:=((qy aC).bind fun y1=>(bif !(y1)then(some ([]))else((rY aC).bind fun y4=>(some y4))))
theorem B9{aC:aJ}{r:bV}(h:ot aC=some r):Good prog 9 [D.agg (aJ.c aC)] (D.fr 57 3 (r.map ax.c)):=by
 refine gd func9 [[some (57,3)]] 8 fun hr Γ hΓ=>?_
 rw[ot]at h;obtain⟨y1,h2,h⟩:=aB h;obtain⟨h3,h⟩|⟨h3,h⟩:=aO h
 ·cases h;exact((aX.g (wT h2)).b h3).ret hΓ
 ·obtain⟨y4,h5,h⟩:=aB h;have h:=aK h;subst h;exact(((aX.g (wT h2)).b h3).g (BE h5)).ret hΓ
def jt(aC:aP)(k1:Option Bool):aP->Nat->Option Bool
 | [],i1=>(k1)
 |bS::cZ,i1=>((qU bS).bind fun F5=>(bif !(F5)then(some false)else(bif decide (((i1:Int):Int)>0)then((iw aC (IntKind.i64.wrap ((i1:Int)-1))).bind fun x49=>((gz x49 bS).bind fun y51=>(bif decide ((y51:Int)>=0)then(some false)else(jt aC k1 cZ (i1+1)))))else(jt aC k1 cZ (i1+1)))))
def pP(aC:aP):Option Bool:=(jt aC (some (decide ((((aC.map aE.c).length:Int):Int)<=24))) aC 0)
def Gs(aC:aP)(dP:Int):St:=⟨[(0,D.sl (aC.map aE.c)),(3,D.int .i64 dP)],[]⟩
theorem Fk(hΓ:Γ.nt=36){aC:aP}{r:Bool}{k1:Option Bool}(dY:k1=some r->Ax Γ N f41 (.q [[none]] (D.bool r)) [1,1] ⟨[(0,D.sl (aC.map aE.c))],[]⟩)(hm1:aC.length<=maxLen):∀(rest:aP) (i1:Nat),aC.drop i1=rest->jt aC k1 rest i1=some r->Ar Γ N f41 (.q [[none]] (D.bool r)) [1,0,1,0] (rest.length+1) (Gs aC (i1:Int)):=by
 intro rest
 induction rest with
 |nil=>
  intro i1 b9 h;rw[jt]at h;refine aV fun N1 cj cL=>?_
  exact((aX.ge aE.c b9).a [.hl 0 [0] []]).ex hΓ cj (dY h)
 |cons bS cZ ih1=>
  intro i1 b9 h;rw[jt]at h;refine aV fun N1 cj cL=>?_
  obtain⟨F5,h46,h⟩:=aB h;have kX:=((((aX.lt aE.c b9).a [.n 19]).l (bJ aE.c 2 (dc b9) rfl)).g (zV h46))
  obtain⟨h47,h⟩|⟨h47,h⟩:=aO h
  ·have h:=aK h;subst h;exact((((kX.r 3 h47).a [bF,bF,bF,bF,bF,bF,bF,bF,bF,bF,bF]).r 2 h47).T 1).ret hΓ
  ·have sQ:=(kX.r 3 h47)
   obtain⟨h48,h⟩|⟨h48,h⟩:=aO h
   ·obtain⟨x49,h50,h⟩:=aB h;obtain⟨y51,h52,h⟩:=aB h;have vQ:=((((((((((sQ.r 4 h48).l (er aE.c 2 h50 rfl)).r 4 h48).l (bJ aE.c 2 (dc b9) rfl)).r 2 h48).g (qS h52)).b h48).b h47).b h48).b h47)
    obtain⟨h53,h⟩|⟨h53,h⟩:=aO h
    ·have h:=aK h;subst h;exact(vQ.b h53).ret hΓ
    ·exact((vQ.b h53).a [.cn [0,3] []]).ct hΓ cL (iS b9 hm1) (ih1 (i1+1) (dn b9) h)
   ·exact((((((sQ.r 11 h48).b h47).b h48).b h47).F 1).a [.cn [0,3] []]).ct hΓ cL (iS b9 hm1) (ih1 (i1+1) (dn b9) h)
theorem EB{aC:aP}{r:Bool}(h:pP aC=some r):Good prog 41 [D.sl (aC.map aE.c)] (D.bool r):=by
 refine gd func41 [[none]] 36 fun hr Γ hΓ=>?_
 rw[pP]at h;refine(aX.a [.cn [0,3] []]).lp hΓ (Fk hΓ (fun h=>?_) (by have:=(iE.sl (hr _ (aD (i:=0) rfl))).1;simpa using this) aC 0 rfl h);cases h;exact aX.ret hΓ
def kW(aC:aJ)(aZ:aJ)(k1:Option Bool):bX->Nat->Option Bool
 | [],i1=>(k1)
 |bS::cZ,i1=>((iw aZ.bG (i1:Int)).bind fun x32=>((iV bS.shape x32.shape).bind fun Dg=>(bif !(Dg)then(some false)else(kW aC aZ k1 cZ (i1+1)))))
def iZ(aC:aJ)(aZ:aJ)(k2:Option Bool):bR->Nat->Option Bool
 | [],i2=>(k2)
 |nD::uO,i2=>((iw aZ.nodes (i2:Int)).bind fun x73=>(bif (nD.parent:Int) != x73.parent then(some false)else(bif (nD.eS:Int) != x73.eS then(some false)else((o4 nD.cond x73.cond).bind fun y77=>(bif !(y77)then(some false)else(iZ aC aZ k2 uO (i2+1)))))))
def ia(aC:aJ)(aZ:aJ)(k3:Option Bool):bK->Nat->Option Bool
 | [],i3=>(k3)
 |Nt::Mi,i3=>((iw aZ.ends (i3:Int)).bind fun x100=>(bif (Nt:Int) != x100 then(some false)else(ia aC aZ k3 Mi (i3+1))))
def qG(aC:aJ)(aZ:aJ):Option Bool:=(bif (((aC.bG.map af.c).length:Int):Int) != ((aZ.bG.map af.c).length:Int)then(some false)else(bif (((aC.nodes.map Node.c).length:Int):Int) != ((aZ.nodes.map Node.c).length:Int)then(some false)else(bif (((aC.ends.map nA).length:Int):Int) != ((aZ.ends.map nA).length:Int)then(some false)else(kW aC aZ (iZ aC aZ (ia aC aZ (some true) aC.ends 0) aC.nodes 0) aC.bG 0))))
def EV(aC:aJ)(aZ:aJ)(dP:Int):St:=⟨[(2,D.ptr 0 0),(3,D.ptr 1 0),(5,D.int .i64 dP)],[Ob.box (aJ.c aC),Ob.box (aJ.c aZ)]⟩
theorem DV(hΓ:Γ.nt=123){aC:aJ}{aZ:aJ}{r:Bool}{k1:Option Bool}(dY:k1=some r->Ax Γ N f42 (.q [[none]] (D.bool r)) [1,1,1] ⟨[(2,D.ptr 0 0),(3,D.ptr 1 0)],[Ob.box (aJ.c aC),Ob.box (aJ.c aZ)]⟩)(hm1:aC.bG.length<=maxLen):∀(rest:bX) (i1:Nat),aC.bG.drop i1=rest->kW aC aZ k1 rest i1=some r->Ar Γ N f42 (.q [[none]] (D.bool r)) [1,1,0,1,0] (rest.length+1) (EV aC aZ (i1:Int)):=by
 intro rest
 induction rest with
 |nil=>
  intro i1 b9 h;rw[kW]at h;refine aV fun N1 cj cL=>?_
  exact((aX.ge af.c b9).a [.hl 0 [2,3] [0,1]]).ex hΓ cj (dY h)
 |cons bS cZ ih1=>
  intro i1 b9 h;rw[kW]at h;refine aV fun N1 cj cL=>?_
  obtain⟨x32,h33,h⟩:=aB h;obtain⟨Dg,h35,h⟩:=aB h;have vQ:=(((((aX.lt af.c b9).a [.n 12]).l (bJ af.c 3 (dc b9) rfl)).l (er af.c 3 h33 rfl)).g (rK h35))
  obtain⟨h36,h⟩|⟨h36,h⟩:=aO h
  ·have h:=aK h;subst h;exact(vQ.b h36).ret hΓ
  ·exact((vQ.b h36).a [.cn [2,3,5] [0,1]]).ct hΓ cL (iS b9 hm1) (ih1 (i1+1) (dn b9) h)
def EW(aC:aJ)(aZ:aJ)(dP:Int):St:=⟨[(2,D.ptr 0 0),(3,D.ptr 1 0),(6,D.int .i64 dP)],[Ob.box (aJ.c aC),Ob.box (aJ.c aZ)]⟩
theorem DW(hΓ:Γ.nt=123){aC:aJ}{aZ:aJ}{r:Bool}{k2:Option Bool}(AR:k2=some r->Ax Γ N f42 (.q [[none]] (D.bool r)) [1,1,1,1] ⟨[(2,D.ptr 0 0),(3,D.ptr 1 0)],[Ob.box (aJ.c aC),Ob.box (aJ.c aZ)]⟩)(hm2:aC.nodes.length<=maxLen):∀(rest:bR) (i2:Nat),aC.nodes.drop i2=rest->iZ aC aZ k2 rest i2=some r->Ar Γ N f42 (.q [[none]] (D.bool r)) [1,1,1,0,1,0] (rest.length+1) (EW aC aZ (i2:Int)):=by
 intro rest
 induction rest with
 |nil=>
  intro i2 hd2 h;rw[iZ]at h;refine aV fun N2 uk tD=>?_
  exact((aX.ge Node.c hd2).a [.hl 0 [2,3] [0,1]]).ex hΓ uk (AR h)
 |cons nD uO ih2=>
  intro i2 hd2 h;rw[iZ]at h;refine aV fun N2 uk tD=>?_
  obtain⟨x73,h74,h⟩:=aB h;have yo:=((((aX.lt Node.c hd2).a [.n 41]).l (bJ Node.c 8 (dc hd2) rfl)).l (er Node.c 8 h74 rfl))
  obtain⟨h75,h⟩|⟨h75,h⟩:=aO h
  ·have h:=aK h;subst h;exact((yo.r 14 h75).T 16).ret hΓ
  ·have Es:=(((((yo.r 4 h75).l (bJ Node.c 8 (dc hd2) rfl)).r 6 h75).l (er Node.c 8 h74 rfl)).r 4 h75)
   obtain⟨h76,h⟩|⟨h76,h⟩:=aO h
   ·have h:=aK h;subst h;exact((Es.r 15 h76).T 1).ret hΓ
   ·obtain⟨y77,h78,h⟩:=aB h;have KU:=(((((((Es.r 4 h76).l (bJ Node.c 8 (dc hd2) rfl)).r 6 h76).l (er Node.c 8 h74 rfl)).r 3 h76).g (xa h78)).r 2 h76)
    obtain⟨h79,h⟩|⟨h79,h⟩:=aO h
    ·have h:=aK h;subst h;exact(KU.b h79).ret hΓ
    ·exact((KU.b h79).a [.cn [2,3,6] [0,1]]).ct hΓ tD (iS hd2 hm2) (ih2 (i2+1) (dn hd2) h)
def EX(aC:aJ)(aZ:aJ)(dP:Int):St:=⟨[(2,D.ptr 0 0),(3,D.ptr 1 0),(7,D.int .i64 dP)],[Ob.box (aJ.c aC),Ob.box (aJ.c aZ)]⟩
theorem DX(hΓ:Γ.nt=123){aC:aJ}{aZ:aJ}{r:Bool}{k3:Option Bool}(Vw:k3=some r->Ax Γ N f42 (.q [[none]] (D.bool r)) [1,1,1,1,1] ⟨[],[]⟩)(PF:aC.ends.length<=maxLen):∀(rest:bK) (i3:Nat),aC.ends.drop i3=rest->ia aC aZ k3 rest i3=some r->Ar Γ N f42 (.q [[none]] (D.bool r)) [1,1,1,1,0,1,0] (rest.length+1) (EX aC aZ (i3:Int)):=by
 intro rest
 induction rest with
 |nil=>
  intro i3 wD h;rw[ia]at h;refine aV fun N3 Q3 Lm=>?_
  exact((aX.ge nA wD).a [.hl 0 [] []]).ex hΓ Q3 (Vw h)
 |cons Nt Mi ih3=>
  intro i3 wD h;rw[ia]at h;refine aV fun N3 Q3 Lm=>?_
  obtain⟨x100,h101,h⟩:=aB h;have Bf:=((((aX.lt nA wD).a [.n 10]).l (bJ nA 1 (dc wD) rfl)).l (er nA 1 h101 rfl))
  obtain⟨h102,h⟩|⟨h102,h⟩:=aO h
  ·have h:=aK h;subst h;exact(Bf.b h102).ret hΓ
  ·exact((Bf.b h102).a [.cn [2,3,7] [0,1]]).ct hΓ Lm (iS wD PF) (ih3 (i3+1) (dn wD) h)
theorem CO{aC:aJ}{aZ:aJ}{r:Bool}(h:qG aC aZ=some r):Good prog 42 [D.agg (aJ.c aC),D.agg (aJ.c aZ)] (D.bool r):=by
 refine gd func42 [[none]] 123 fun hr Γ hΓ=>?_
 rw[qG]at h;obtain⟨h1,h⟩|⟨h1,h⟩:=aO h
 ·have h:=aK h;subst h;exact((aX.r 8 h1).T 9).ret hΓ
 ·have Iy:=(aX.r 8 h1)
  obtain⟨h2,h⟩|⟨h2,h⟩:=aO h
  ·have h:=aK h;subst h;exact((Iy.r 8 h2).T 1).ret hΓ
  ·have Da:=(Iy.r 8 h2)
   obtain⟨h3,h⟩|⟨h3,h⟩:=aO h
   ·have h:=aK h;subst h;exact(Da.b h3).ret hΓ
   ·refine((Da.b h3).a [.cn [2,3,5] [0,1]]).lp hΓ (DV hΓ (fun h=>?_) (by have:=(iE.sl (iE.agg (hr _ (aD (i:=0) rfl)) (.sl (aC.bG.map af.c)) (by simp))).1;simpa using this) aC.bG 0 rfl h);refine(aX.a [.cn [2,3,6] [0,1]]).lp hΓ (DW hΓ (fun h=>?_) (by have:=(iE.sl (iE.agg (hr _ (aD (i:=0) rfl)) (.sl (aC.nodes.map Node.c)) (by simp))).1;simpa using this) aC.nodes 0 rfl h);refine(aX.a [.cn [2,3,7] [0,1]]).lp hΓ (DX hΓ (fun h=>?_) (by have:=(iE.sl (iE.agg (hr _ (aD (i:=0) rfl)) (.sl (aC.ends.map nA)) (by simp))).1;simpa using this) aC.ends 0 rfl h);have h:=aK h;subst h;exact aX.ret hΓ
def sW(aC:aE)(aZ:aE):Option Bool:=(bif (aC.rel:Bytes)==aZ.rel then((mj aC.args aZ.args).bind fun y2=>(some y2))else(some false))
theorem HA{aC:aE}{aZ:aE}{r:Bool}(h:sW aC aZ=some r):Good prog 95 [D.agg (aE.c aC),D.agg (aE.c aZ)] (D.bool r):=by
 refine gd func95 [[none]] 17 fun hr Γ hΓ=>?_
 rw[sW]at h;obtain⟨h1,h⟩|⟨h1,h⟩:=aO h
 ·obtain⟨y2,h3,h⟩:=aB h;have h:=aK h;subst h;exact(((aX.r 5 h1).g (vN h3)).b h1).ret hΓ
 ·have h:=aK h;subst h;exact(aX.r 6 h1).ret hΓ
def lm(aC:aP)(aZ:aP)(k1:Option Bool):aP->Nat->Option Bool
 | [],i1=>(k1)
 |bS::cZ,i1=>((iw aZ (i1:Int)).bind fun x30=>((sW bS x30).bind fun F4=>(bif !(F4)then(some false)else(lm aC aZ k1 cZ (i1+1)))))
def kO(aC:aP)(aZ:aP):Option Bool:=(bif (((aC.map aE.c).length:Int):Int) != ((aZ.map aE.c).length:Int)then(some false)else(lm aC aZ (some true) aC 0))
def G3(aC:aP)(aZ:aP)(dP:Int):St:=⟨[(0,D.sl (aC.map aE.c)),(1,D.sl (aZ.map aE.c)),(5,D.int .i64 dP)],[]⟩
theorem EP(hΓ:Γ.nt=27){aC:aP}{aZ:aP}{r:Bool}{k1:Option Bool}(dY:k1=some r->Ax Γ N f43 (.q [[none]] (D.bool r)) [1,1,1] ⟨[],[]⟩)(hm1:aC.length<=maxLen):∀(rest:aP) (i1:Nat),aC.drop i1=rest->lm aC aZ k1 rest i1=some r->Ar Γ N f43 (.q [[none]] (D.bool r)) [1,1,0,1,0] (rest.length+1) (G3 aC aZ (i1:Int)):=by
 intro rest
 induction rest with
 |nil=>
  intro i1 b9 h;rw[lm]at h;refine aV fun N1 cj cL=>?_
  exact((aX.ge aE.c b9).a [.hl 0 [] []]).ex hΓ cj (dY h)
 |cons bS cZ ih1=>
  intro i1 b9 h;rw[lm]at h;refine aV fun N1 cj cL=>?_
  obtain⟨x30,h31,h⟩:=aB h;obtain⟨F4,h33,h⟩:=aB h;have gG:=(((((aX.lt aE.c b9).a [.n 8]).l (bJ aE.c 2 (dc b9) rfl)).l (er aE.c 2 h31 rfl)).g (HA h33))
  obtain⟨h34,h⟩|⟨h34,h⟩:=aO h
  ·have h:=aK h;subst h;exact(gG.b h34).ret hΓ
  ·exact((gG.b h34).a [.cn [0,1,5] []]).ct hΓ cL (iS b9 hm1) (ih1 (i1+1) (dn b9) h)
theorem sx{aC:aP}{aZ:aP}{r:Bool}(h:kO aC aZ=some r):Good prog 43 [D.sl (aC.map aE.c),D.sl (aZ.map aE.c)] (D.bool r):=by
 refine gd func43 [[none]] 27 fun hr Γ hΓ=>?_
 rw[kO]at h;obtain⟨h1,h⟩|⟨h1,h⟩:=aO h
 ·have h:=aK h;subst h;exact(aX.b h1).ret hΓ
 ·refine((aX.b h1).a [.cn [0,1,5] []]).lp hΓ (EP hΓ (fun h=>?_) (by have:=(iE.sl (hr _ (aD (i:=0) rfl))).1;simpa using this) aC 0 rfl h);have h:=aK h;subst h;exact aX.ret hΓ
def gB(aC:aM)(aZ:aM)(k1:Option Bool):aM->Nat->Option Bool
 | [],i1=>(k1)
 |bS::cZ,i1=>((iw aZ (i1:Int)).bind fun x22=>(bif !((bS.var:Bytes)==x22.var&&(bS.value:Bytes)==x22.value)then(some false)else(gB aC aZ k1 cZ (i1+1))))
def iY(aC:aM)(aZ:aM):Option Bool:=(bif (((aC.map aQ.c).length:Int):Int) != ((aZ.map aQ.c).length:Int)then(some false)else(gB aC aZ (some true) aC 0))
def BS(aC:aM)(aZ:aM)(dP:Int):St:=⟨[(0,D.sl (aC.map aQ.c)),(1,D.sl (aZ.map aQ.c)),(5,D.int .i64 dP)],[]⟩
theorem Ag(hΓ:Γ.nt=26){aC:aM}{aZ:aM}{r:Bool}{k1:Option Bool}(dY:k1=some r->Ax Γ N f97 (.q [[none]] (D.bool r)) [1,1,1] ⟨[],[]⟩)(hm1:aC.length<=maxLen):∀(rest:aM) (i1:Nat),aC.drop i1=rest->gB aC aZ k1 rest i1=some r->Ar Γ N f97 (.q [[none]] (D.bool r)) [1,1,0,1,0] (rest.length+1) (BS aC aZ (i1:Int)):=by
 intro rest
 induction rest with
 |nil=>
  intro i1 b9 h;rw[gB]at h;refine aV fun N1 cj cL=>?_
  exact((aX.ge aQ.c b9).a [.hl 0 [] []]).ex hΓ cj (dY h)
 |cons bS cZ ih1=>
  intro i1 b9 h;rw[gB]at h;refine aV fun N1 cj cL=>?_
  obtain⟨x22,h23,h⟩:=aB h;have gG:=((((aX.lt aQ.c b9).a [.n 8]).l (bJ aQ.c 2 (dc b9) rfl)).l (er aQ.c 2 h23 rfl))
  obtain⟨h24,h⟩|⟨h24,h⟩:=aO h
  ·have h:=aK h;subst h;exact(gG.b h24).ret hΓ
  ·exact((gG.b h24).a [.cn [0,1,5] []]).ct hΓ cL (iS b9 hm1) (ih1 (i1+1) (dn b9) h)
theorem uG{aC:aM}{aZ:aM}{r:Bool}(h:iY aC aZ=some r):Good prog 97 [D.sl (aC.map aQ.c),D.sl (aZ.map aQ.c)] (D.bool r):=by
 refine gd func97 [[none]] 26 fun hr Γ hΓ=>?_
 rw[iY]at h;obtain⟨h1,h⟩|⟨h1,h⟩:=aO h
 ·have h:=aK h;subst h;exact(aX.b h1).ret hΓ
 ·refine((aX.b h1).a [.cn [0,1,5] []]).lp hΓ (Ag hΓ (fun h=>?_) (by have:=(iE.sl (hr _ (aD (i:=0) rfl))).1;simpa using this) aC 0 rfl h);have h:=aK h;subst h;exact aX.ret hΓ
def gi(aC:bB)(aZ:bB)(k1:Option Bool):bB->Nat->Option Bool
 | [],i1=>(k1)
 |bS::cZ,i1=>((iw aZ (i1:Int)).bind fun x42=>((kO bS.facts x42.facts).bind fun y44=>(bif !(y44)then(some false)else((iY bS.bind x42.bind).bind fun y47=>(bif !(y47)then(some false)else(gi aC aZ k1 cZ (i1+1)))))))
def oD(aC:bB)(aZ:bB):Option Bool:=(bif (((aC.map aY.c).length:Int):Int) != ((aZ.map aY.c).length:Int)then(some false)else(gi aC aZ (some true) aC 0))
def CP(aC:bB)(aZ:bB)(dP:Int):St:=⟨[(0,D.sl (aC.map aY.c)),(1,D.sl (aZ.map aY.c)),(5,D.int .i64 dP)],[]⟩
theorem BV(hΓ:Γ.nt=43){aC:bB}{aZ:bB}{r:Bool}{k1:Option Bool}(dY:k1=some r->Ax Γ N f45 (.q [[none]] (D.bool r)) [1,1,1] ⟨[],[]⟩)(hm1:aC.length<=maxLen):∀(rest:bB) (i1:Nat),aC.drop i1=rest->gi aC aZ k1 rest i1=some r->Ar Γ N f45 (.q [[none]] (D.bool r)) [1,1,0,1,0] (rest.length+1) (CP aC aZ (i1:Int)):=by
 intro rest
 induction rest with
 |nil=>
  intro i1 b9 h;rw[gi]at h;refine aV fun N1 cj cL=>?_
  exact((aX.ge aY.c b9).a [.hl 0 [] []]).ex hΓ cj (dY h)
 |cons bS cZ ih1=>
  intro i1 b9 h;rw[gi]at h;refine aV fun N1 cj cL=>?_
  obtain⟨x42,h43,h⟩:=aB h;obtain⟨y44,h45,h⟩:=aB h;have kY:=(((((aX.lt aY.c b9).a [.n 23]).l (bJ aY.c 2 (dc b9) rfl)).l (er aY.c 2 h43 rfl)).g (sx h45))
  obtain⟨h46,h⟩|⟨h46,h⟩:=aO h
  ·have h:=aK h;subst h;exact((kY.r 13 h46).T 1).ret hΓ
  ·obtain⟨y47,h48,h⟩:=aB h;have kX:=(((((((kY.r 3 h46).l (bJ aY.c 2 (dc b9) rfl)).r 5 h46).l (er aY.c 2 h43 rfl)).r 3 h46).g (uG h48)).r 2 h46)
   obtain⟨h49,h⟩|⟨h49,h⟩:=aO h
   ·have h:=aK h;subst h;exact(kX.b h49).ret hΓ
   ·exact((kX.b h49).a [.cn [0,1,5] []]).ct hΓ cL (iS b9 hm1) (ih1 (i1+1) (dn b9) h)
theorem Ah{aC:bB}{aZ:bB}{r:Bool}(h:oD aC aZ=some r):Good prog 45 [D.sl (aC.map aY.c),D.sl (aZ.map aY.c)] (D.bool r):=by
 refine gd func45 [[none]] 43 fun hr Γ hΓ=>?_
 rw[oD]at h;obtain⟨h1,h⟩|⟨h1,h⟩:=aO h
 ·have h:=aK h;subst h;exact(aX.b h1).ret hΓ
 ·refine((aX.b h1).a [.cn [0,1,5] []]).lp hΓ (BV hΓ (fun h=>?_) (by have:=(iE.sl (hr _ (aD (i:=0) rfl))).1;simpa using this) aC 0 rfl h);have h:=aK h;subst h;exact aX.ret hΓ
def jP(aC:aJ)(k1:Option Bool):bX->Nat->Option Bool
 | [],i1=>(k1)
 |bS::cZ,i1=>((gP bS.shape ([]) aC.facts).bind fun FJ=>((kO bS.facts FJ).bind fun Yn=>(bif !(Yn)then(some false)else(jP aC k1 cZ (i1+1)))))
def jQ(aC:aJ)(k2:Option Bool):bR->Nat->Option Bool
 | [],i2=>(k2)
 |nD::uO,i2=>((sV aC (i2:Int)).bind fun SV=>((mF SV aC.facts).bind fun a6j=>((oD nD.tokens a6j).bind fun HY=>(bif !(HY)then(some false)else(jQ aC k2 uO (i2+1))))))
def me(aC:aJ):Option Bool:=((jN aC.rules).bind fun y1=>(bif !(y1.2)then(some false)else((pP aC.facts).bind fun y4=>(bif !(y4)then(some false)else((qG aC y1.1).bind fun y7=>(bif !(y7)then(some false)else(bif decide ((aC.cg:Int)<0)then(some false)else(jP aC (jQ aC (some true) aC.nodes 0) aC.bG 0))))))))
def Ft(aC:aJ)(dP:Int):St:=⟨[(1,D.ptr 0 0),(5,D.int .i64 dP)],[Ob.box (aJ.c aC)]⟩
theorem EH(hΓ:Γ.nt=77){aC:aJ}{r:Bool}{k1:Option Bool}(dY:k1=some r->Ax Γ N f11 (.q [[none]] (D.bool r)) [1,1,1,1] ⟨[(1,D.ptr 0 0)],[Ob.box (aJ.c aC)]⟩)(hm1:aC.bG.length<=maxLen):∀(rest:bX) (i1:Nat),aC.bG.drop i1=rest->jP aC k1 rest i1=some r->Ar Γ N f11 (.q [[none]] (D.bool r)) [1,1,1,0,1,0] (rest.length+1) (Ft aC (i1:Int)):=by
 intro rest
 induction rest with
 |nil=>
  intro i1 b9 h;rw[jP]at h;refine aV fun N1 cj cL=>?_
  exact((aX.ge af.c b9).a [.hl 0 [1] [0]]).ex hΓ cj (dY h)
 |cons bS cZ ih1=>
  intro i1 b9 h;rw[jP]at h;refine aV fun N1 cj cL=>?_
  obtain⟨FJ,h40,h⟩:=aB h;obtain⟨Yn,h42,h⟩:=aB h;have kY:=(((((((aX.lt af.c b9).a [.n 15]).l (bJ af.c 3 (dc b9) rfl)).l (bJ af.c 3 (dc b9) rfl)).a [.d (D.fr 43 2 (FJ.map aE.c))]).w (show Good prog 44 [D.agg (aE.c bS.shape),D.sl ([]),D.sl (aC.facts.map aE.c)] (D.fr 43 2 (FJ.map aE.c))from by first| (simpa only[bI,ay,bt,br,cB]using gQ h40)|exact gQ h40)).g (sx h42))
  obtain⟨h43,h⟩|⟨h43,h⟩:=aO h
  ·have h:=aK h;subst h;exact(kY.b h43).ret hΓ
  ·exact((kY.b h43).a [.cn [1,5] [0]]).ct hΓ cL (iS b9 hm1) (ih1 (i1+1) (dn b9) h)
def Fu(aC:aJ)(dP:Int):St:=⟨[(1,D.ptr 0 0),(6,D.int .i64 dP)],[Ob.box (aJ.c aC)]⟩
theorem EI(hΓ:Γ.nt=77){aC:aJ}{r:Bool}{k2:Option Bool}(AR:k2=some r->Ax Γ N f11 (.q [[none]] (D.bool r)) [1,1,1,1,1] ⟨[],[]⟩)(hm2:aC.nodes.length<=maxLen):∀(rest:bR) (i2:Nat),aC.nodes.drop i2=rest->jQ aC k2 rest i2=some r->Ar Γ N f11 (.q [[none]] (D.bool r)) [1,1,1,1,0,1,0] (rest.length+1) (Fu aC (i2:Int)):=by
 intro rest
 induction rest with
 |nil=>
  intro i2 hd2 h;rw[jQ]at h;refine aV fun N2 uk tD=>?_
  exact((aX.ge Node.c hd2).a [.hl 0 [] []]).ex hΓ uk (AR h)
 |cons nD uO ih2=>
  intro i2 hd2 h;rw[jQ]at h;refine aV fun N2 uk tD=>?_
  obtain⟨SV,h105,h⟩:=aB h;obtain⟨a6j,h107,h⟩:=aB h;obtain⟨HY,h109,h⟩:=aB h;have kX:=((((((aX.lt Node.c hd2).a [.n2 [0,1,2,3,4,5,6,7,8,9,10,11,12,13] [0,1,2,3,4,5,6,7,8,9,10,11,12,13] 11 12 [0,1,2,3,4,5] []]).l (bJ Node.c 8 (dc hd2) rfl)).g (rq h105)).g (xb h107)).g (Ah h109))
  obtain⟨h110,h⟩|⟨h110,h⟩:=aO h
  ·have h:=aK h;subst h;exact(kX.b h110).ret hΓ
  ·exact((kX.b h110).a [.cn [1,6] [0]]).ct hΓ tD (iS hd2 hm2) (ih2 (i2+1) (dn hd2) h)
theorem we{aC:aJ}{r:Bool}(h:me aC=some r):Good prog 11 [D.agg (aJ.c aC)] (D.bool r):=by
 refine gd func11 [[none]] 77 fun hr Γ hΓ=>?_
 rw[me]at h;obtain⟨y1,h2,h⟩:=aB h;obtain⟨h3,h⟩|⟨h3,h⟩:=aO h
 ·have h:=aK h;subst h;exact(((aX.g (qT h2)).r 5 h3).T 10).ret hΓ
 ·obtain⟨y4,h5,h⟩:=aB h;have sQ:=((((aX.g (qT h2)).r 3 h3).g (EB h5)).r 2 h3)
  obtain⟨h6,h⟩|⟨h6,h⟩:=aO h
  ·have h:=aK h;subst h;exact((sQ.r 5 h6).T 5).ret hΓ
  ·obtain⟨y7,h8,h⟩:=aB h;have vQ:=(((sQ.r 3 h6).g (CO h8)).r 2 h6)
   obtain⟨h9,h⟩|⟨h9,h⟩:=aO h
   ·have h:=aK h;subst h;exact((vQ.r 4 h9).T 1).ret hΓ
   ·have yo:=(vQ.r 4 h9)
    obtain⟨h10,h⟩|⟨h10,h⟩:=aO h
    ·have h:=aK h;subst h;exact(yo.b h10).ret hΓ
    ·refine((yo.b h10).a [.cn [1,5] [0]]).lp hΓ (EH hΓ (fun h=>?_) (by have:=(iE.sl (iE.agg (hr _ (aD (i:=0) rfl)) (.sl (aC.bG.map af.c)) (by simp))).1;simpa using this) aC.bG 0 rfl h);refine(aX.a [.cn [1,6] [0]]).lp hΓ (EI hΓ (fun h=>?_) (by have:=(iE.sl (iE.agg (hr _ (aD (i:=0) rfl)) (.sl (aC.nodes.map Node.c)) (by simp))).1;simpa using this) aC.nodes 0 rfl h);have h:=aK h;subst h;exact aX.ret hΓ
def kU(aC:aM)(aZ:aM)(k1:aM->Option aM):aM->Nat->aM->Option aM
 | [],i1,bN=>(k1 bN)
 |bS::cZ,i1,bN=>((nN aC bS.value).bind fun LG=>(bif LG.2 then((tj bN bS.var LG.1).bind fun YU=>(kU aC aZ k1 cZ (i1+1) YU))else(kU aC aZ k1 cZ (i1+1) bN)))
def uZ(aC:aM)(aZ:aM):Option aM:=(kU aC aZ (fun(cC:aM)=>(some cC)) aZ 0 ([]:aM))
def Jo(aC:aM)(aZ:aM)(W0:List aL)(dP:Int):St:=⟨[(0,D.sl (aC.map aQ.c)),(1,D.sl (aZ.map aQ.c)),(5,D.acc 0),(6,D.int .i64 dP)],[Ob.row .uq 113 2 W0]⟩
theorem IY(hΓ:Γ.nt=36){aC:aM}{aZ:aM}{r:aM}{k1:aM->Option aM}(dY:∀(cC:aM),k1 cC=some r->Ax Γ N f39 (.q [[some (113,2)]] (D.fr 113 2 (r.map aQ.c))) [1,1,1] ⟨[(5,D.acc 0)],[Ob.row .uq 113 2 (cC.map aQ.c)]⟩)(hm1:aZ.length<=maxLen):∀(rest:aM) (i1:Nat) (bN:aM),aZ.drop i1=rest->kU aC aZ k1 rest i1 bN=some r->Ar Γ N f39 (.q [[some (113,2)]] (D.fr 113 2 (r.map aQ.c))) [1,1,0,1,0] (rest.length+1) (Jo aC aZ (bN.map aQ.c) (i1:Int)):=by
 intro rest
 induction rest with
 |nil=>
  intro i1 bN b9 h;rw[kU]at h;refine aV fun N1 cj cL=>?_
  exact((aX.ge aQ.c b9).a [.hl 0 [5] [0]]).ex hΓ cj (dY bN h)
 |cons bS cZ ih1=>
  intro i1 bN b9 h;rw[kU]at h;refine aV fun N1 cj cL=>?_
  obtain⟨LG,h38,h⟩:=aB h;have gG:=(((aX.lt aQ.c b9).l (bJ aQ.c 2 (dc b9) rfl)).g (qj h38))
  obtain⟨h39,h⟩|⟨h39,h⟩:=aO h
  ·obtain⟨YU,h41,h⟩:=aB h;exact((((gG.b h39).l (bJ aQ.c 2 (dc b9) rfl)).g (AM h41)).a [.cn [0,1,5,6] [1]]).ct hΓ cL (iS b9 hm1) (ih1 (i1+1) YU (dn b9) h)
  ·exact((gG.b h39).a [.cn [0,1,5,6] [0]]).ct hΓ cL (iS b9 hm1) (ih1 (i1+1) bN (dn b9) h)
theorem HJ{aC:aM}{aZ:aM}{r:aM}(h:uZ aC aZ=some r):Good prog 39 [D.sl (aC.map aQ.c),D.sl (aZ.map aQ.c)] (D.fr 113 2 (r.map aQ.c)):=by
 refine gd func39 [[some (113,2)]] 36 fun hr Γ hΓ=>?_
 rw[uZ]at h;refine(aX.a [.cn [0,1,5,6] [0]]).lp hΓ (IY hΓ (fun cC h=>?_) (by have:=(iE.sl (hr _ (aD (i:=1) rfl))).1;simpa using this) aZ 0 ([]:aM) rfl h);have h:=aK h;subst h;exact aX.ret hΓ
def fV(aC:aJ)(i1:Nat)(bS:aI)(Mk:aM)(x496:Node)(k2:bV->Option bV):bB->Nat->bV->Option bV
 | [],i2,eE=>(k2 eE)
 |nD::uO,i2,eE=>((jh nD.facts).bind fun Qx=>((uZ nD.bind Mk).bind fun YV=>(bif room ((eE.map ax.c).length+([[D.str bS.name,D.sl (Qx.map aE.c),D.sl (YV.map aQ.c)]]).length) 64 then(fV aC i1 bS Mk x496 k2 uO (i2+1) (eE++([(⟨bS.name,Qx,YV⟩:ax)])))else none)))
def eg(aC:aJ)(k1:bV->Option bV):aq->Nat->bV->Option bV
 | [],i1,bQ=>(k1 bQ)
 |bS::cZ,i1,bQ=>((me aC).bind fun a6r=>(bif a6r then((nk bS).bind fun Mk=>((iw aC.ends (i1:Int)).bind fun x494=>((iw aC.nodes x494).bind fun x496=>(bif decide (x496.tokens.length<=maxLen)then(fV aC i1 bS Mk x496 (fun(qd:bV)=>(eg aC k1 cZ (i1+1) qd)) x496.tokens 0 bQ)else none))))else(k1 bQ)))
def oy(aC:aJ):Option bV:=(eg aC (fun(cC:bV)=>(some cC)) aC.rules 0 ([]:bV))
def DH(aC:aJ)(W0:List aL)(dP:Int):St:=⟨[(1,D.ptr 0 0),(3,D.acc 1),(4,D.int .i64 dP)],[Ob.box (aJ.c aC),Ob.row .uq 57 3 W0]⟩
def wZ(aC:aJ)(i1:Nat)(Mk:aM)(x496:Node)(W0:List aL)(dP:Int):St:=⟨[(1,D.ptr 0 0),(3,D.acc 1),(4,D.int .i64 (i1:Int)),(5,D.acc 2),(6,D.sl (x496.tokens.map aY.c)),(7,D.int .i64 dP)],[Ob.box (aJ.c aC),Ob.row .uq 57 3 W0,Ob.row .uq 113 2 (Mk.map aQ.c)]⟩
theorem CH(hΓ:Γ.nt=66){aC:aJ}{i1:Nat}{bS:aI}{Mk:aM}{x496:Node}{r:bV}{k2:bV->Option bV}(AR:∀(qd:bV),k2 qd=some r->Ax Γ N f10 (.q [[some (57,3)]] (D.fr 57 3 (r.map ax.c))) [1,1,0,1,0,0,1,1] ⟨[(1,D.ptr 0 0),(3,D.acc 1),(4,D.int .i64 (i1:Int))],[Ob.box (aJ.c aC),Ob.row .uq 57 3 (qd.map ax.c)]⟩)(hx1:(aC.rules)[i1]?=some bS)(hm2:x496.tokens.length<=maxLen):∀(rest:bB) (i2:Nat) (eE:bV),x496.tokens.drop i2=rest->fV aC i1 bS Mk x496 k2 rest i2 eE=some r->Ar Γ N f10 (.q [[some (57,3)]] (D.fr 57 3 (r.map ax.c))) [1,1,0,1,0,0,1,0,0,1,1,1,0] (rest.length+1) (wZ aC i1 Mk x496 (eE.map ax.c) (i2:Int)):=by
 intro rest
 induction rest with
 |nil=>
  intro i2 eE hd2 h;rw[fV]at h;refine aV fun N2 uk tD=>?_
  exact((aX.ge aY.c hd2).a [.hl 3 [1,3,4] [0,1]]).ex hΓ uk (AR eE h)
 |cons nD uO ih2=>
  intro i2 eE hd2 h;rw[fV]at h;refine aV fun N2 uk tD=>?_
  obtain⟨Qx,h565,h⟩:=aB h;obtain⟨YV,h567,h⟩:=aB h;obtain⟨h568,h⟩:=bU h;exact(((((((((aX.lt aY.c hd2).a [.n2 [0,1,2,3,4,5,6,7,8,9,10,11,12,13,14,15,16,17,18,19,20,21,22,23] [0,1,2,3,4,5,6,7,8,9,10,11,12,13,14,15,16,17,18,19,20,21,22,23] 21 22 [0] [3,4]]).l (bJ aI.c 4 hx1 rfl)).l (bJ aY.c 2 (dc hd2) rfl)).g (qD h565)).l (bJ aY.c 2 (dc hd2) rfl)).g (HJ h567)).w (bp h568)).a [.cn [1,3,4,5,6,7] [0,6,2]]).cs hΓ tD (wZ aC i1 Mk x496 ((eE.map ax.c)++([[D.str bS.name,D.sl (Qx.map aE.c),D.sl (YV.map aQ.c)]])) (IntKind.i64.wrap ((i2:Int)+1))) (by first| (simp only[iS hd2 hm2,mA]<;>rfl)| (simp only[iS hd2 hm2,mA,aE.c,aQ.c,aN.c,Action.c,aI.c,aY.c,ax.c,af.c,Node.c,aJ.c,dX.c]<;>rfl)) (ih2 (i2+1) (eE++([(⟨bS.name,Qx,YV⟩:ax)])) (dn hd2) h)
theorem CG(hΓ:Γ.nt=66){aC:aJ}{r:bV}{k1:bV->Option bV}(dY:∀(cC:bV),k1 cC=some r->Ax Γ N f10 (.q [[some (57,3)]] (D.fr 57 3 (r.map ax.c))) [1,1,1] ⟨[(3,D.acc 0)],[Ob.row .uq 57 3 (cC.map ax.c)]⟩)(hm1:aC.rules.length<=maxLen):∀(rest:aq) (i1:Nat) (bQ:bV),aC.rules.drop i1=rest->eg aC k1 rest i1 bQ=some r->Ar Γ N f10 (.q [[some (57,3)]] (D.fr 57 3 (r.map ax.c))) [1,1,0,1,0] (rest.length+1) (DH aC (bQ.map ax.c) (i1:Int)):=by
 intro rest
 induction rest with
 |nil=>
  intro i1 bQ b9 h;rw[eg]at h;refine aV fun N1 cj cL=>?_
  exact(((((aX.ge aI.c b9).ge aI.c b9).ge aI.c b9).F 1).a [.hl 0 [3] [1]]).ex hΓ cj (dY bQ h)
 |cons bS cZ ih1=>
  intro i1 bQ b9 h;rw[eg]at h;refine aV fun N1 cj cL=>?_
  obtain⟨a6r,h490,h⟩:=aB h;have gG:=((((aX.lt aI.c b9).lt aI.c b9).g (we h490)).lt aI.c b9)
  obtain⟨h491,h⟩|⟨h491,h⟩:=aO h
  ·obtain⟨Mk,h493,h⟩:=aB h;obtain⟨x494,h495,h⟩:=aB h;obtain⟨x496,h497,h⟩:=aB h;obtain⟨h569,h⟩:=bU h;refine(((((((gG.b h491).l (bJ aI.c 4 (dc b9) rfl)).g (vu h493)).a [.n 7]).l (er nA 1 h495 rfl)).l (er Node.c 8 h497 rfl)).a [.cn [1,3,4,5,6,7] [0,1,2]]).lp hΓ (CH hΓ (fun qd h=>?_) ((drop_cons b9).1) (bY h569) x496.tokens 0 bQ rfl h);exact(aX.a [.cn [1,3,4] [0,1]]).ct hΓ cL (iS b9 hm1) (ih1 (i1+1) qd (dn b9) h)
  ·exact((gG.b h491).a [.hl 0 [3] [1]]).ex hΓ cj (dY bQ h)
theorem BH{aC:aJ}{r:bV}(h:oy aC=some r):Good prog 10 [D.agg (aJ.c aC)] (D.fr 57 3 (r.map ax.c)):=by
 refine gd func10 [[some (57,3)]] 66 fun hr Γ hΓ=>?_
 rw[oy]at h;refine(aX.a [.cn [1,3,4] [0,1]]).lp hΓ (CG hΓ (fun cC h=>?_) (by have:=(iE.sl (iE.agg (hr _ (aD (i:=0) rfl)) (.sl (aC.rules.map aI.c)) (by simp))).1;simpa using this) aC.rules 0 ([]:bV) rfl h);have h:=aK h;subst h;exact aX.ret hΓ
def jH(aC:aI)(y1:bB)(k1:bV->Option bV):bB->Nat->bV->Option bV
 | [],i1,bQ=>(k1 bQ)
 |bS::cZ,i1,bQ=>(bif room ((bQ.map ax.c).length+([[D.str aC.name,D.sl (bS.facts.map aE.c),D.sl (bS.bind.map aQ.c)]]).length) 64 then(jH aC y1 k1 cZ (i1+1) (bQ++([(⟨aC.name,bS.facts,bS.bind⟩:ax)])))else none)
def rC(aC:aI)(aZ:aP):Option bV:=((pO aC.conds aZ).bind fun y1=>(bif decide (y1.length<=maxLen)then(jH aC y1 (fun(cC:bV)=>(some cC)) y1 0 ([]:bV))else none))
def yW(aC:aI)(y1:bB)(W0:List aL)(a38:Nat)(dP:Int):St:=⟨[(2,D.ptr 0 0),(5,D.acc 1),(11,D.acc 2),(12,D.int .i64 ((y1.map aY.c).length:Int)),(13,D.int .i64 dP)],[Ob.box (aI.c aC),Ob.row .uq 57 3 W0,Ob.row (.mv a38) 77 2 (y1.map aY.c)]⟩
theorem E1(hΓ:Γ.nt=29){aC:aI}{y1:bB}{r:bV}{k1:bV->Option bV}(dY:∀(cC:bV),k1 cC=some r->Ax Γ N f105 (.q [[some (57,3)]] (D.fr 57 3 (r.map ax.c))) [1,1,1] ⟨[(5,D.acc 0)],[Ob.row .uq 57 3 (cC.map ax.c)]⟩)(hm1:y1.length<=maxLen):∀(rest:bB) (i1:Nat) (bQ:bV),y1.drop i1=rest->jH aC y1 k1 rest i1 bQ=some r->Ar Γ N f105 (.q [[some (57,3)]] (D.fr 57 3 (r.map ax.c))) [1,1,0,1,0] (rest.length+1) (yW aC y1 (bQ.map ax.c) i1 (i1:Int)):=by
 intro rest
 induction rest with
 |nil=>
  intro i1 bQ b9 h;rw[jH]at h;refine aV fun N1 cj cL=>?_
  exact((aX.ge aY.c b9).a [.hl 0 [5] [1]]).ex hΓ cj (dY bQ h)
 |cons bS cZ ih1=>
  intro i1 bQ b9 h;rw[jH]at h;refine aV fun N1 cj cL=>?_
  obtain⟨h20,h⟩:=bU h;exact(((((aX.lt aY.c b9).i (mK aY.c 2 (dc b9))).w (show i1=i1/\(y1.map aY.c)[i1]?=some [D.sl (bS.facts.map aE.c),D.sl (bS.bind.map aQ.c)]/\Mb [D.sl (bS.facts.map aE.c),D.sl (bS.bind.map aQ.c)]=true from⟨rfl,cX aY.c (dc b9),rfl⟩)).w (bp h20)).a [.tk [D.sl (bS.facts.map aE.c),D.sl (bS.bind.map aQ.c)],.cn [2,5,11,12,13] [0,7,2]]).cs hΓ cL (yW aC y1 ((bQ.map ax.c)++([[D.str aC.name,D.sl (bS.facts.map aE.c),D.sl (bS.bind.map aQ.c)]])) (i1+1) (IntKind.i64.wrap ((i1:Int)+1))) (by first| (simp only[iS b9 hm1,mA]<;>rfl)| (simp only[iS b9 hm1,mA,aE.c,aQ.c,aN.c,Action.c,aI.c,aY.c,ax.c,af.c,Node.c,aJ.c,dX.c]<;>rfl)) (ih1 (i1+1) (bQ++([(⟨aC.name,bS.facts,bS.bind⟩:ax)])) (dn b9) h)
theorem DB{aC:aI}{aZ:aP}{r:bV}(h:rC aC aZ=some r):Good prog 105 [D.agg (aI.c aC),D.sl (aZ.map aE.c)] (D.fr 57 3 (r.map ax.c)):=by
 refine gd func105 [[some (57,3)]] 29 fun hr Γ hΓ=>?_
 rw[rC]at h;obtain⟨y1,h2,h⟩:=aB h;obtain⟨h21,h⟩:=bU h;refine(((aX.a [.KW 5]).g (xV h2)).a [.mz 2,.cn [2,5,11,12,13] [0,1,2]]).lp hΓ (E1 hΓ (fun cC h=>?_) (bY h21) y1 0 ([]:bV) rfl h);have h:=aK h;subst h;exact aX.ret hΓ
def gN(aC:aq)(aZ:aP)(k1:bV->Option bV):aq->Nat->bV->Option bV
 | [],i1,bN=>(k1 bN)
 |bS::cZ,i1,bN=>((rC bS aZ).bind fun o9=>(bif room ((bN.map ax.c).length+(o9.map ax.c).length) 64 then(gN aC aZ k1 cZ (i1+1) (bN++o9))else none))
def tB(aC:aq)(aZ:aP):Option bV:=(gN aC aZ (fun(cC:bV)=>(some cC)) aC 0 ([]:bV))
def xR(aC:aq)(aZ:aP)(W0:List aL)(dP:Int):St:=⟨[(1,D.sl (aZ.map aE.c)),(5,D.acc 0),(8,D.sl (aC.map aI.c)),(9,D.int .i64 ((aC.map aI.c).length:Int)),(10,D.int .i64 dP)],[Ob.row .uq 57 3 W0]⟩
theorem D5(hΓ:Γ.nt=21){aC:aq}{aZ:aP}{r:bV}{k1:bV->Option bV}(dY:∀(cC:bV),k1 cC=some r->Ax Γ N f51 (.q [[some (57,3)]] (D.fr 57 3 (r.map ax.c))) [1,1,1] ⟨[(5,D.acc 0)],[Ob.row .uq 57 3 (cC.map ax.c)]⟩)(hm1:aC.length<=maxLen):∀(rest:aq) (i1:Nat) (bN:bV),aC.drop i1=rest->gN aC aZ k1 rest i1 bN=some r->Ar Γ N f51 (.q [[some (57,3)]] (D.fr 57 3 (r.map ax.c))) [1,1,0,1,0] (rest.length+1) (xR aC aZ (bN.map ax.c) (i1:Int)):=by
 intro rest
 induction rest with
 |nil=>
  intro i1 bN b9 h;rw[gN]at h;refine aV fun N1 cj cL=>?_
  exact((aX.ge aI.c b9).a [.hl 0 [5] [0]]).ex hΓ cj (dY bN h)
 |cons bS cZ ih1=>
  intro i1 bN b9 h;rw[gN]at h;refine aV fun N1 cj cL=>?_
  obtain⟨o9,h28,h⟩:=aB h;obtain⟨h29,h⟩:=bU h;exact(((((aX.lt aI.c b9).l (bJ aI.c 4 (dc b9) rfl)).g (DB h28)).w (bp h29)).a [.cn [1,5,8,9,10] [3]]).cs hΓ cL (xR aC aZ ((bN.map ax.c)++(o9.map ax.c)) (IntKind.i64.wrap ((i1:Int)+1))) (by first| (simp only[iS b9 hm1,mA]<;>rfl)| (simp only[iS b9 hm1,mA,aE.c,aQ.c,aN.c,Action.c,aI.c,aY.c,ax.c,af.c,Node.c,aJ.c,dX.c]<;>rfl)) (ih1 (i1+1) (bN++o9) (dn b9) h)
theorem C7{aC:aq}{aZ:aP}{r:bV}(h:tB aC aZ=some r):Good prog 51 [D.sl (aC.map aI.c),D.sl (aZ.map aE.c)] (D.fr 57 3 (r.map ax.c)):=by
 refine gd func51 [[some (57,3)]] 21 fun hr Γ hΓ=>?_
 rw[tB]at h;refine(aX.a [.KW 5,.cn [1,5,8,9,10] [0]]).lp hΓ (D5 hΓ (fun cC h=>?_) (by have:=(iE.sl (hr _ (aD (i:=0) rfl))).1;simpa using this) aC 0 ([]:bV) rfl h);have h:=aK h;subst h;exact aX.ret hΓ
def pg(aC:aq)(aZ:aP):Option bV:=((pJ aC).bind fun y1=>(bif !(y1)then(some ([]))else((pH aZ).bind fun y4=>(bif !(y4)then(some ([]))else((tB aC aZ).bind fun y7=>(some y7))))))
theorem C1{aC:aq}{aZ:aP}{r:bV}(h:pg aC aZ=some r):Good prog 13 [D.sl (aC.map aI.c),D.sl (aZ.map aE.c)] (D.fr 57 3 (r.map ax.c)):=by
 refine gd func13 [[some (57,3)]] 16 fun hr Γ hΓ=>?_
 rw[pg]at h;obtain⟨y1,h2,h⟩:=aB h;obtain⟨h3,h⟩|⟨h3,h⟩:=aO h
 ·cases h;exact(((aX.g (tM h2)).r 4 h3).T 1).ret hΓ
 ·obtain⟨y4,h5,h⟩:=aB h;have nB:=((((aX.g (tM h2)).r 2 h3).g (xN h5)).r 2 h3)
  obtain⟨h6,h⟩|⟨h6,h⟩:=aO h
  ·cases h;exact(nB.b h6).ret hΓ
  ·obtain⟨y7,h8,h⟩:=aB h;have h:=aK h;subst h;exact((nB.b h6).g (C7 h8)).ret hΓ
def rJ(aC:ax)(aZ:ax):Option Bool:=(bif (aC.rule:Bytes)==aZ.rule then((kO aC.facts aZ.facts).bind fun y2=>(bif y2 then((iY aC.bind aZ.bind).bind fun y5=>(some y5))else(some false)))else(some false))
theorem DR{aC:ax}{aZ:ax}{r:Bool}(h:rJ aC aZ=some r):Good prog 48 [D.agg (ax.c aC),D.agg (ax.c aZ)] (D.bool r):=by
 refine gd func48 [[none]] 24 fun hr Γ hΓ=>?_
 rw[rJ]at h;obtain⟨h1,h⟩|⟨h1,h⟩:=aO h
 ·obtain⟨y2,h3,h⟩:=aB h;have nB:=(((aX.r 5 h1).g (sx h3)).b h1)
  obtain⟨h4,h⟩|⟨h4,h⟩:=aO h
  ·obtain⟨y5,h6,h⟩:=aB h;have h:=aK h;subst h;exact(((nB.r 5 h4).g (uG h6)).b h4).ret hΓ
  ·have h:=aK h;subst h;exact(nB.r 6 h4).ret hΓ
 ·have h:=aK h;subst h;exact((aX.r 6 h1).F 6).ret hΓ
end Go.Cx
namespace Go.Cx
open Go.RowKit Go.Proofs Tryz
set_option maxRecDepth 100000
variable{Γ:tZ}{N:Nat->St->Prop}
def yD(aC:aI)(aZ:Int)(ck:aP):Option bB:=((kn aC).bind fun y1=>(bif !(y1)then(some ([]:bB))else((pP ck).bind fun y4=>(bif !(y4)then(some ([]:bB))else((jW aZ 0 ((aC.conds.map aN.c).length:Int)).bind fun y7=>(bif !(y7)then(some ([]:bB))else((yJ (aC.conds.map aN.c).length none (some (D.int .i64 aZ))).bind fun p=>(fun l10 u11=>((mF ((aC.conds.take u11).drop l10) ck).bind fun uP=>(some uP))) p.1 p.2)))))))
def uL(aC:aI)(y1:bB)(k1:bV->Option bV):bB->Nat->bV->Option bV
 | [],i1,bQ=>(k1 bQ)
 |bS::cZ,i1,bQ=>(bif room ((bQ.map ax.c).length+([[D.str aC.name,D.sl (bS.facts.map aE.c),D.sl (bS.bind.map aQ.c)]]).length) 64 then(uL aC y1 k1 cZ (i1+1) (bQ++([(⟨aC.name,bS.facts,bS.bind⟩:ax)])))else none)
def wo(aC:aI)(aZ:aP):Option bV:=((yD aC ((aC.conds.map aN.c).length:Int) aZ).bind fun y1=>(bif decide (y1.length<=maxLen)then(uL aC y1 (fun(cC:bV)=>(some cC)) y1 0 ([]:bV))else none))
def kH(aC:aq)(aZ:aP)(k1:bV->Option bV):aq->Nat->bV->Option bV
 | [],i1,bN=>(k1 bN)
 |bS::cZ,i1,bN=>((pQ aC).bind fun Uz=>(bif Uz then((wo bS aZ).bind fun F5=>(bif room ((bN.map ax.c).length+(F5.map ax.c).length) 64 then(kH aC aZ k1 cZ (i1+1) (bN++F5))else none))else(k1 bN)))
def AJ(aC:aq)(aZ:aP):Option bV:=(kH aC aZ (fun(cC:bV)=>(some cC)) aC 0 ([]:bV))
end Go.Cx
namespace Go.Cx
open Go.RowKit Go.Proofs Tryz
theorem vm{α:Type}{a pre xs:List α}{x:α}(h:a=pre++x::xs):iw a (pre.length:Int)=some x:=by
 unfold iw;have:a[pre.length]?=some x:=by rw[h];simp
 simp[this]
theorem Ka{n b:Nat}(hn:n<=1099511627776)(hb:b<=128):room n b=true:=by
 unfold room maxLen;have:n*b<=1099511627776*128:=Nat.mul_le_mul hn hb;simp;omega
theorem gF{α:Type}{w:List α}{c:α->aL}{y:aL}{b:Nat}(h:w.length<1099511627776)(hb:b<=128):room ((w.map c).length+([y]).length) b=true:=Ka (by simp;omega) hb
theorem Qi{α β:Type}{w:List α}{v:List β}{c:α->aL}{d:β->aL}{b:Nat}(h:w.length+v.length<=1099511627776)(hb:b<=128):room ((w.map c).length+(v.map d).length) b=true:=Ka (by simp;omega) hb
theorem Qh{β:Type}{v:List β}{d:β->aL}{b:Nat}(h:v.length<=1099511627776)(hb:b<=128):room (([]:List aL).length+(v.map d).length) b=true:=Ka (by simp;omega) hb
theorem sO{α:Type}{l:List α}(h:l.length<=1099511627776):decide (l.length<=maxLen)=true:=by unfold maxLen;simp;omega
theorem It{α β γ:Type}{c:β->aL}{b:Nat}{f:α->Option β}{g:α->β}{L:List α->Nat->List β->Option γ}{k:List β->Option γ}(hb:b<=128)(tu:∀i w,L [] i w=k w)
 (uH:∀x xs i w,L (x::xs) i w=(f x).bind fun y=>bif room ((w.map c).length+([c y]).length) b then L xs (i+1) (w++[y])else none):
 ∀(l:List α) (i:Nat) (w:List β),(∀x∈l,f x=some (g x))->w.length+l.length<=1099511627776->L l i w=k (w++l.map g):=by
 intro l
 induction l with
 |nil=>intro i w _ _;simp[tu]
 |cons x xs ih=>
  intro i w hf hl;simp only[aT]at hl;rw[uH,hf x (by simp),aA,gF (by omega) hb,aH,ih _ _ (fun y hy=>hf y (by simp[hy])) (by simp;omega)];simp
theorem Tz{α:Type}{f:α->Option Bool}{p:α->Bool}{L:List α->Nat->Option Bool}{k:Option Bool}(tu:∀i,L [] i=k)
 (uH:∀x xs i,L (x::xs) i=(f x).bind fun y=>bif !y then some false else L xs (i+1)):∀(l:List α) (i:Nat),(∀x∈l,f x=some (p x))->L l i=bif l.all p then k else some false:=by
 intro l
 induction l with
 |nil=>intro i _;simp[tu]
 |cons x xs ih=>
  intro i hf;rw[uH,hf x (by simp),aA,ih _ (fun y hy=>hf y (by simp[hy])),dD];cases p x<;>simp
theorem pG:∀(a:Bytes),Op.bytesLess a a=false
 | []=>rfl
 |x::a=>by simp[Op.bytesLess,pG a]
theorem xM:∀ {a b c:Bytes},Op.bytesLess a b=true->Op.bytesLess b c=true->Op.bytesLess a c=true
 | [],b,[],_,h2=>by cases b<;>simp[Op.bytesLess]at h2
 | [],b,_::_,_,_=>by simp[Op.bytesLess]
 |_::_,[],_,h1,_=>by simp[Op.bytesLess]at h1
 |_::_,_::_,[],_,h2=>by simp[Op.bytesLess]at h2
 |x::a,y::b,z::c,h1,h2=>by
  simp only[Op.bytesLess,nu,bA,aR,cV]at h1 h2⊢;rcases h1 with h1|⟨rfl,h1⟩
  ·rcases h2 with h2|⟨rfl,h2⟩
   ·exact .inl (UInt8.lt_trans h1 h2)
   ·exact .inl h1
  ·rcases h2 with h2|⟨rfl,h2⟩
   ·exact .inl h2
   ·exact .inr ⟨rfl,xM h1 h2⟩
theorem Dm:∀ {a b:Bytes},Op.bytesLess a b=false->Op.bytesLess b a=false->a=b
 | [],[],_,_=>rfl
 | [],_::_,h,_=>by simp[Op.bytesLess]at h
 |_::_,[],_,h=>by simp[Op.bytesLess]at h
 |x::a,y::b,h1,h2=>by
  simp only[Op.bytesLess,Bool.or_eq_false_iff,qp,Ct,cu,ne_eq]at h1 h2;have e:x=y:=by
   have h3:=h1.1;have h4:=h2.1;rw[Cz]at h3 h4;exact UInt8.toNat_inj.1 (by omega)
  subst e;rw[Dm (h1.2.resolve_left (by simp)) (h2.2.resolve_left (by simp))]
theorem Hs{a b:Bytes}(h:Op.bytesLess a b=true):Op.bytesLess b a=false:=by
 cases hb:Op.bytesLess b a with
 |false=>rfl
 |true=>have:=xM h hb;rw[pG]at this;cases this
def SS(l:aG):Prop:=l.Pairwise fun a b=>Op.bytesLess a b=true
theorem JP:∀ {a b:aG},SS a->SS b->(∀x,x∈a↔x∈b)->a=b
 | [],[],_,_,_=>rfl
 | [],y::b,_,_,h=>by have:=(h y).2 (by simp);cases this
 |x::a,[],_,_,h=>by have:=(h x).1 (by simp);cases this
 |x::a,y::b,h1,h2,h=>by
  obtain⟨p1,p2⟩:=mQ.1 h1;obtain⟨q1,q2⟩:=mQ.1 h2;have e:x=y:=by
   refine Dm ?_ ?_
   ·cases hb:Op.bytesLess x y with
    |false=>rfl
    |true=>
     rcases bE.1 ((h x).1 (by simp))with rfl|hx
     ·exact(pG x▸hb).symm
     ·have:=Hs (q1 x hx);rw[hb]at this;exact this
   ·cases hb:Op.bytesLess y x with
    |false=>rfl
    |true=>
     rcases bE.1 ((h y).2 (by simp))with rfl|hx
     ·exact(pG y▸hb).symm
     ·have:=Hs (p1 y hx);rw[hb]at this;exact this
  subst e;rw[JP p2 q2 (fun z=>?_)];constructor
  ·intro hz;rcases bE.1 ((h z).1 (by simp[hz]))with rfl|Mm
   ·have:=p1 z hz;rw[pG]at this;cases this
   ·exact Mm
  ·intro hz;rcases bE.1 ((h z).2 (by simp[hz]))with rfl|Mm
   ·have:=q1 z hz;rw[pG]at this;cases this
   ·exact Mm
def yK:aG->Bytes->aG
 | [],s=>[s]
 |x::xs,s=>bif Op.bytesLess x s then x::yK xs s else bif x==s then x::xs else s::x::xs
theorem MD:∀ {l:aG} {s y:Bytes},y∈yK l s↔y=s\/y∈l
 | [],s,y=>by simp[yK]
 |x::xs,s,y=>by
  simp only[yK];cases Op.bytesLess x s with
  |true=>simp only[aH,bE,MD (l:=xs)];constructor<;>(rintro(h|h|h)<;>simp[h])
  |false=>
   simp only[aS];cases hx:x==s with
   |true=>
    simp only[cV]at hx;subst hx;simp
   |false=>simp
theorem Tg:∀ {l:aG} {s:Bytes},SS l->SS (yK l s)
 | [],s,_=>by simp[yK,SS]
 |x::xs,s,h=>by
  obtain⟨p1,p2⟩:=mQ.1 h;simp only[yK];cases hb:Op.bytesLess x s with
  |true=>
   simp only[aH];refine mQ.2 ⟨fun y hy=>?_,Tg p2⟩;rcases MD.1 hy with rfl|hy
   ·exact hb
   ·exact p1 y hy
  |false=>
   simp only[aS];cases hx:x==s with
   |true=>exact h
   |false=>
    have hs:Op.bytesLess s x=true:=by
     cases hc:Op.bytesLess s x with
     |true=>rfl
     |false=>have:=Dm hb hc;subst this;simp at hx
    refine mQ.2 ⟨fun y hy=>?_,h⟩;rcases bE.1 hy with rfl|hy
    ·exact hs
    ·exact xM hs (p1 y hy)
theorem zm:∀(l:aG) (s:Bytes),(yK l s).length<=l.length+1
 | [],s=>by simp[yK]
 |x::xs,s=>by
  have:=zm xs s;simp only[yK];cases Op.bytesLess x s<;>simp only[aH,aS,aT]
  ·cases x==s<;>simp
  ·omega
def eV(l:aG):aG:=l.foldl yK []
theorem Ec:∀(l a:aG) (y:Bytes),y∈l.foldl yK a↔y∈a\/y∈l
 | [],a,y=>by simp
 |x::l,a,y=>by
  rw[cT,Ec l,MD];simp only[bE];constructor
  ·rintro((h|h)|h)<;>simp[h]
  ·rintro(h|h|h)<;>simp[h]
theorem GR:∀(l:aG) {a:aG},SS a->SS (l.foldl yK a)
 | [],a,h=>h
 |x::l,a,h=>GR l (Tg h)
theorem Eb:∀(l a:aG),(l.foldl yK a).length<=a.length+l.length
 | [],a=>by simp
 |x::l,a=>by
  have h1:=Eb l (yK a x);have h2:=zm a x;rw[cT,aT];omega
theorem om{l:aG}{y:Bytes}:y∈eV l↔y∈l:=by unfold eV;rw[Ec];simp
theorem MW(l:aG):SS (eV l):=GR l (by simp[SS])
theorem pS(l:aG):(eV l).length<=l.length:=by have:=Eb l [];simpa[eV]using this
theorem Ex{a b:aG}(h:∀x,x∈a↔x∈b):eV a=eV b:=JP (MW a) (MW b) (fun x=>by rw[om,om,h])
theorem SP(a:aG)(x:Bytes):yK (eV a) x=eV (a++[x]):=by simp[eV]
theorem SO(a b:aG):b.foldl yK (eV a)=eV (a++b):=by simp[eV]
theorem Ey(a b:aG):(eV b).foldl yK (eV a)=eV (a++b):=by
 rw[SO];exact Ex (fun x=>by simp[om])
theorem nK(l:aG)(v:Bytes):(eV l).contains v=l.contains v:=by
 rw[bn];simp[om]
def in1(x:UInt8):Bool:=decide ((x.toNat:Int)>=97)&&decide ((x.toNat:Int)<=122)
def in2(x:UInt8):Bool:=decide ((x.toNat:Int)>=48)&&decide ((x.toNat:Int)<=57)
def ab(x:UInt8):Bool:=in1 x||in2 x
def UO(s:Bytes):Bool:=decide ((s.length:Int)>=1)&&decide ((s.length:Int)<=8)
def fL(s:Bytes):Bool:=s.all ab&&UO s
def a0r:Bytes->Bool
 | []=>false
 |x::_=>decide ((x.toNat:Int)>=97)
def wE(s:Bytes):Bool:=fL s&&a0r s
def fK:Bytes->Bool
 | []=>false
 |x::t=>decide ((x.toNat:Int)=63)&&fL t
def nr(s:Bytes):Bool:=fL s||fK s
theorem yu{s:Bytes}(h:fL s=true):1<=s.length/\s.length<=8:=by
 simp only[fL,UO,aR,bA]at h;omega
theorem NZ{s:Bytes}(h:wE s=true):1<=s.length/\s.length<=8:=by
 simp only[wE,aR]at h;exact yu h.1
theorem F1{s:Bytes}(h:fK s=true):1<=s.length/\s.length<=9:=by
 cases s with
 |nil=>cases h
 |cons x t=>simp only[fK,aR]at h;have:=yu h.2;simp;omega
theorem Up{s:Bytes}(h:nr s=true):1<=s.length/\s.length<=9:=by
 simp only[nr,nu]at h;rcases h with h|h
 ·have:=yu h;omega
 ·exact F1 h
theorem oN{s:Bytes}(h:fK s=true):fL s=false:=by
 cases s with
 |nil=>cases h
 |cons x t=>
  simp only[fK,aR,bA]at h;simp only[fL,dD,ab,in1,in2];have:(x.toNat:Int)=63:=h.1;simp[this]
theorem a1r(x:UInt8):IntKind.i64.wrap ((x.toNat:Nat):Int)=(x.toNat:Int):=di (pF.i64.2 (by have:=x.toNat_lt;omega))
theorem Nq{n:Nat}(h:n<=1099511627776):IntKind.i64.wrap ((n:Int)+1)=((n+1:Nat):Int):=by rw[di (pF.i64.2 (by omega))];omega
theorem TX{n:Nat}(h:1<=n):yJ n (some (D.int .i64 1)) none=some (1,n):=by
 unfold yJ;have:(0:Int)<=1/\(1:Int).toNat<=n:=⟨by decide,h⟩
 simp only[bL this];rfl
theorem GW(a b c:Int):jW a b c=some (decide (a>=b)&&decide (a<=c)):=by
 unfold jW;cases decide (a>=b)<;>rfl
theorem a3T(a:Bytes)(k:Option Bool)(ha:a.length<=1048576):∀(rest pre:Bytes),a=pre++rest->∀n,rest.length<n->j9 a k n (pre.length:Int)=bif rest.all ab then k else some false:=by
 intro rest
 induction rest with
 |nil=>
  intro pre h n hn;obtain⟨m,rfl⟩:∃m,n=m+1:=⟨n-1,by simp at hn;omega⟩
  have e1:decide ((pre.length:Int)<(a.length:Int))=false:=by simp[h]
  rw[j9,e1];rfl
 |cons x xs ih=>
  intro pre h n hn;obtain⟨m,rfl⟩:∃m,n=m+1:=⟨n-1,by simp at hn;omega⟩
  have hl:a.length=pre.length+(xs.length+1):=by rw[h];simp
  have e1:decide ((pre.length:Int)<(a.length:Int))=true:=by rw[hl];simp;omega
  have e4:IntKind.i64.wrap ((pre.length:Int)+1)=((pre++[x]).length:Int):=by rw[Nq (by omega)];simp
  have t:=ih (pre++[x]) (by simp[h]) m (by simp at hn;omega);rw[j9,e1,aH,vm h,aA,a1r,GW,GW,aA,aA,e4,t,dD];show(bif !in1 x then(bif !in2 x then _ else _)else _)=bif (in1 x||in2 x)&&xs.all ab then k else some false
  cases in1 x<;>cases in2 x<;>simp
theorem Kc(a:Bytes)(ha:a.length<=1048576):fP a=some (fL a):=by
 unfold fP;refine(a3T a _ ha a [] rfl fuel (by unfold fuel;omega)).trans ?_;rw[GW,aA];show _=some (a.all ab&&UO a);cases a.all ab<;>rfl
theorem a2m(a:Bytes)(k:Option Bool)(ha:a.length<=1048576):∀(rest pre:Bytes),a=pre++rest->∀n,rest.length<n->fk a k n (pre.length:Int)=bif rest.all ab then k else some false:=by
 intro rest
 induction rest with
 |nil=>
  intro pre h n hn;obtain⟨m,rfl⟩:∃m,n=m+1:=⟨n-1,by simp at hn;omega⟩
  have e1:decide ((pre.length:Int)<(a.length:Int))=false:=by simp[h]
  rw[fk,e1];rfl
 |cons x xs ih=>
  intro pre h n hn;obtain⟨m,rfl⟩:∃m,n=m+1:=⟨n-1,by simp at hn;omega⟩
  have hl:a.length=pre.length+(xs.length+1):=by rw[h];simp
  have e1:decide ((pre.length:Int)<(a.length:Int))=true:=by rw[hl];simp;omega
  have e4:IntKind.i64.wrap ((pre.length:Int)+1)=((pre++[x]).length:Int):=by rw[Nq (by omega)];simp
  have t:=ih (pre++[x]) (by simp[h]) m (by simp at hn;omega);rw[fk,e1,aH,vm h,aA,e4,t,dD];have c1:decide ((x.toNat:Int)>=97)= !decide ((x.toNat:Int)<97):=by rw[bn];simp
  have c2:decide ((x.toNat:Int)<=122)= !decide ((x.toNat:Int)>122):=by rw[bn];simp
  have c3:decide ((x.toNat:Int)>=48)= !decide ((x.toNat:Int)<48):=by rw[bn];simp
  have c4:decide ((x.toNat:Int)<=57)= !decide ((x.toNat:Int)>57):=by rw[bn];simp
  rw[ab,in1,in2,c1,c2,c3,c4];cases decide ((x.toNat:Int)<97)<;>cases decide ((x.toNat:Int)>122)<;>cases decide ((x.toNat:Int)<48)<;>cases decide ((x.toNat:Int)>57)<;>simp
theorem KP(a:Bytes)(ha:a.length<=1048576):fM a=some (fL a):=by
 unfold fM;rw[show fk a (some true) fuel 0=_ from a2m a _ ha a [] rfl fuel (by unfold fuel;omega)];have c1:decide ((a.length:Int)>=1)= !decide ((a.length:Int)<1):=by rw[bn];simp
 have c2:decide ((a.length:Int)<=8)= !decide ((a.length:Int)>8):=by rw[bn];simp
 rw[fL,UO,c1,c2];cases decide ((a.length:Int)<1)<;>cases decide ((a.length:Int)>8)<;>cases a.all ab<;>rfl
theorem Xo(a:Bytes)(ha:a.length<=1048576):qV a=some (wE a):=by
 unfold qV;rw[Kc a ha,aA,wE];cases h:fL a with
 |false=>rfl
 |true=>
  cases a with
  |nil=>simp[fL,UO]at h
  |cons x xs=>
   rw[show iw (x::xs) 0=some x from rfl];simp only[aH,aA,a1r,GW,eH,aj,a0r];simp only[fL,dD,ab,in1,in2,aR,nu,bA]at h;rw[bn];simp only[aR,bA];omega
theorem Wn(a:Bytes)(ha:a.length<=1048576):qR a=some (wE a):=by
 unfold qR;rw[KP a ha,aA,wE];cases h:fL a with
 |false=>rfl
 |true=>
  cases a with
  |nil=>simp[fL,UO]at h
  |cons x xs=>rfl
theorem Ox(a:Bytes)(ha:a.length<=1048576):gZ a=some (fK a):=by
 unfold gZ;cases a with
 |nil=>rfl
 |cons x t=>
  simp only[aT]at ha;rw[show iw (x::t) 0=some x from rfl,aA,TX (by simp),aA];have e:(((x::t).take ((x::t).length)).drop 1)=t:=by simp
  simp only[e,Kc t (by omega),aA,fK,jf];cases t with
  |nil=>cases decide ((x.toNat:Int)=63)<;>rfl
  |cons y t=>
   have e2:decide ((((x::y::t).length:Int):Int)>1)=true:=by simp;omega
   rw[e2];cases decide ((x.toNat:Int)=63)<;>simp
theorem UI(a:Bytes)(ha:a.length<=1048576):l6 a=some (fK a):=by
 unfold l6;cases a with
 |nil=>rfl
 |cons x t=>
  simp only[aT]at ha;rw[show iw (x::t) 0=some x from rfl,aA,TX (by simp),aA];have e:(((x::t).take ((x::t).length)).drop 1)=t:=by simp
  simp only[e,KP t (by omega),aA,fK,jf];cases t with
  |nil=>cases decide ((x.toNat:Int)=63)<;>rfl
  |cons y t=>
   have e2:decide ((((x::y::t).length:Int):Int)>1)=true:=by simp;omega
   rw[e2];cases decide ((x.toNat:Int)=63)<;>simp
theorem Y1(a:Bytes)(ha:a.length<=1048576):ir a=some (nr a):=by
 unfold ir nr;rw[Kc a ha,Ox a ha];cases fL a<;>simp
theorem Ws(a:Bytes)(ha:a.length<=1048576):ig a=some (nr a):=by
 unfold ig nr;rw[KP a ha,UI a ha];cases fL a<;>simp
theorem Y3(l:aG)(h:l.length<=1099511627776):rM l=some l:=by
 unfold rM;rw[Qh h (by decide)];rfl
theorem OT(l:aG)(h:l.length<=1099511627776):mX l=some l:=by
 unfold mX;rw[Qh h (by decide)];rfl
theorem Y0(a b:aG):mj a b=some (decide (a=b)):=by
 unfold mj;exact Yc (c:=tx) (f:=fun x y=>some (x==y)) (fun k=>jd a b k) (fun _ _=>rfl) (fun _ _ _ _=>rfl) (fun x y=>by rw[aj,bn];simp)
theorem Wp(a b:aG):oa a b=some (decide (a=b)):=by
 unfold oa;exact Yc (c:=tx) (f:=fun x y=>some (x==y)) (fun k=>ld a b k) (fun _ _=>rfl) (fun _ _ _ _=>rfl) (fun x y=>by rw[aj,bn];simp)
theorem a2y(a b:bK):sE a b=some (decide (a=b)):=by
 unfold sE;exact Yc (c:=nA) (f:=fun x y=>some (x==y)) (fun k=>mY a b k) (fun _ _=>rfl) (fun _ _ _ _=>rfl) (fun x y=>by rw[aj,bn];simp)
theorem Ul(l:aG)(v:Bytes):fw l v=some (l.contains v):=by
 unfold fw;have:∀(r:aG) (i:Nat),jT l v (some false) r i=some (r.contains v):=by
  intro r
  induction r with
  |nil=>intro i;rfl
  |cons x r ih=>
   intro i;rw[jT,ih,List.contains_cons];have:(x==v)=(v==x):=by rw[bn,cV,cV];exact eq_comm
   rw[this];cases v==x<;>rfl
 exact this l 0
theorem Za(l:aG)(v:Bytes):l9 l v=some (l.contains v):=by
 unfold l9;have:∀(r:aG) (i:Nat),lB l v (some false) r i=some (r.contains v):=by
  intro r
  induction r with
  |nil=>intro i;rfl
  |cons x r ih=>
   intro i;rw[lB,ih,List.contains_cons];have:(x==v)=(v==x):=by rw[bn,cV,cV];exact eq_comm
   rw[this];cases v==x<;>rfl
 exact this l 0
theorem a1l(a:aG)(s:Bytes)(k:Bool->aG->Option aG):∀(l:aG) (i:Nat) (w:aG),w.length+l.length<1099511627776->
 eT a s k l i true w=k true (w++l):=by
 intro l
 induction l with
 |nil=>intro i w _;simp[eT]
 |cons x xs ih=>
  intro i w h;simp only[aT]at h;rw[eT,bh,aS,gF (by omega) (by decide),aH,ih _ _ (by simp;omega)];simp
theorem a6P(a:aG)(s:Bytes)(k:Bool->aG->Option aG)(hk:∀w,w.length<1099511627776->k false w=some (w++[s]))(hk2:∀w,k true w=some w):∀(l:aG) (i:Nat) (w:aG),w.length+l.length+1<1099511627776->
 eT a s k l i false w=some (w++yK l s):=by
 intro l
 induction l with
 |nil=>intro i w h;rw[eT,hk w (by omega)];rfl
 |cons x xs ih=>
  intro i w h;simp only[aT]at h;rw[eT,cy,aH,yK];cases Op.bytesLess x s with
  |true=>
   simp only[bh,aS,aH];rw[gF (by omega) (by decide),aH,ih _ _ (by simp;omega)];simp
  |false=>
   simp only[cy,aH,aS];cases x==s with
   |true=>
    simp only[bh,aS,aH];rw[gF (by omega) (by decide),aH,a1l _ _ _ _ _ _ (by simp;omega),hk2];simp
   |false=>
    simp only[cy,aH,aS];rw[gF (by omega) (by decide),aH];have e:room (((w.map tx)++[[D.str s]]).length+([[D.str x]]).length) 16=true:=Ka (by simp;omega) (by decide);rw[e,aH,a1l _ _ _ _ _ _ (by simp;omega),hk2];simp
theorem SH(l:aG)(s:Bytes)(h:l.length+1<1099511627776):lG l s=some (yK l s):=by
 unfold lG;rw[a6P l s _ (fun w hw=>by simp only[cy,aH];rw[gF hw (by decide)];rfl) (fun w=>by simp) l 0 [] (by simpa using h)];rfl
def dd:Option Bytes->aG->aG
 |_,[]=>[]
 |p,x::xs=>if p=some x then dd (some x) xs else x::dd (some x) xs
theorem RJ:∀ {l:aG} {p:Option Bytes} {y:Bytes},y∈dd p l->y∈l
 | [],p,y,h=>by cases h
 |x::xs,p,y,h=>by
  simp only[dd]at h;split at h
  ·exact bE.2 (.inr (RJ h))
  ·rcases bE.1 h with rfl|h
   ·simp
   ·exact bE.2 (.inr (RJ h))
theorem XC:∀ {l:aG} {p:Option Bytes} {y:Bytes},y∈l->p=some y\/y∈dd p l
 |x::xs,p,y,h=>by
  simp only[dd];rcases bE.1 h with rfl|h
  ·by_cases hp:p=some y
   ·exact .inl hp
   ·rw[b8 hp];exact .inr (by simp)
  ·have:=XC (p:=some x) h;split
   ·rename_i hp;rcases this with e|e
    ·exact .inl (hp.trans e)
    ·exact .inr e
   ·rcases this with e|e
    ·cases e;exact .inr (by simp)
    ·exact .inr (by simp[e])
theorem a0l:∀ {l:aG} {p:Option Bytes},l.Pairwise (fun a b=>Op.bytesLess b a=false)->(∀q,p=some q->∀y∈l,Op.bytesLess y q=false)->SS (dd p l)/\∀q,p=some q->∀y∈dd p l,Op.bytesLess q y=true
 | [],p,_,_=>⟨by simp[dd,SS],by simp[dd]⟩
 |x::xs,p,h,hp=>by
  obtain⟨p1,p2⟩:=mQ.1 h;obtain⟨i1,i2⟩:=a0l (l:=xs) (p:=some x) p2 (fun q hq y hy=>by cases hq;exact p1 y hy);simp only[dd];split
  ·rename_i he;exact⟨i1,fun q hq y hy=>by rw[he]at hq;cases hq;exact i2 x rfl y hy⟩
  ·rename_i he;refine⟨mQ.2 ⟨fun y hy=>i2 x rfl y hy,i1⟩,fun q hq y hy=>?_⟩;have hqx:Op.bytesLess q x=true:=by
    cases hc:Op.bytesLess q x with
    |true=>rfl
    |false=>exact absurd (by rw[hq,Dm hc (hp q hq x (by simp))]) he
   rcases bE.1 hy with rfl|hy
   ·exact hqx
   ·exact xM hqx (i2 x rfl y hy)
theorem Y7(l:aG):nq l=l.mergeSort (fun x y=> !Op.bytesLess y x):=by
 unfold nq
 congr 1
 funext x y
 rw[Go.Proofs.bytesLess_eq];rw[bn];simp[List.not_lt]
theorem P3(l:aG):(nq l).Pairwise (fun a b=>Op.bytesLess b a=false):=by
 rw[Y7];have:=List.pairwise_mergeSort (le:=fun x y=> !Op.bytesLess y x) (fun a b c h1 h2=>by
  simp only[pT]at h1 h2⊢;cases hc:Op.bytesLess c a with
  |false=>rfl
  |true=>
   cases hb:Op.bytesLess b a with
   |true=>rw[h1]at hb;cases hb
   |false=>
    cases L4:Op.bytesLess a b with
    |true=>have:=xM hc L4;rw[h2]at this;cases this
    |false=>have:=Dm hb L4;subst this;rw[h2]at hc;cases hc) (fun a b=>by
  cases hc:Op.bytesLess b a with
  |false=>simp
  |true=>simp[Hs hc]) l
 exact this.imp (fun h=>by simpa using h)
theorem ZK(l:aG):dd none (nq l)=eV l:=by
 refine JP (a0l (P3 l) (by simp)).1 (MW l) (fun x=>?_);rw[om];have hm:x∈nq l↔x∈l:=(zy l).mem_iff;constructor
 ·intro h;exact hm.1 (RJ h)
 ·intro h;rcases XC (p:=none) (hm.2 h)with h|h
  ·cases h
  ·exact h
theorem Wq(a:aG)(k:aG->Option aG)(ha:a.length<=1099511627775):∀(rest pre:aG) (w:aG),nq ([]++a)=pre++rest->w.length+rest.length<=1099511627775->
 dl a k rest pre.length w=k (w++dd pre.getLast? rest):=by
 have hlen:(nq ([]++a)).length=a.length:=(zy _).length_eq;intro rest
 induction rest with
 |nil=>intro pre w _ _;simp[dl,dd]
 |cons x xs ih=>
  intro pre w h hw;simp only[aT]at hw;have hl:pre.length+(xs.length+1)=a.length:=by rw[<-hlen,h];simp
  have t:=fun w'=>ih (pre++[x]) w' (by rw[h];simp)
  simp only[ar,aT,bW,nH]at t;rw[dl];rcases wP pre with rfl|⟨p,z,Ye⟩
  ·have e0:(((([]:aG).length:Int):Int)==0)=true:=rfl;rw[e0,aH,gF (by omega) (by decide),aH,t _ (by simp;omega)];simp[dd]
  ·rw[wO]at Ye;subst Ye;have e0:((((p++[z]).length:Int):Int)==0)=false:=by simp;omega
   have e1:IntKind.i64.wrap (((p++[z]).length:Int)-1)=(p.length:Int):=by
    rw[di (pF.i64.2 (by simp at hl⊢;omega))];simp
   have e2:iw (nq ([]++a)) (p.length:Int)=some z:=vm (xs:=x::xs) (by rw[h];simp);rw[e0,aS,e1,e2,aA];simp only[dd,nH];by_cases hz:z=x
   ·subst hz;have e3:((z:Bytes)==z)=true:=by simp
    rw[e3,bh,aS,t _ (by omega),bL rfl]
   ·have e3:((z:Bytes)==x)=false:=by simpa using hz
    rw[e3,cy,aH,gF (by omega) (by decide),aH,t _ (by simp;omega),b8 (by simpa using hz)];simp
theorem OS(l:aG)(h:l.length<1099511627775):jo l=some (eV l):=by
 have hlen:(nq ([]++l)).length=l.length:=(zy _).length_eq;unfold jo;have e1:decide ((([]:aG)++l).length<4611686018427387904)=true:=by simp;omega
 rw[Qh (by omega) (by decide),aH,e1,aH,sO (by rw[hlen];omega),aH];have:=Wq l (fun q=>some q) (by omega) (nq ([]++l)) [] [] rfl (by rw[hlen];simp;omega);rw[show([]:aG).length=0 from rfl]at this;rw[this,<-ZK];simp
end Go.Cx
namespace Go.Cx
open Go.RowKit Go.Proofs Tryz
theorem aE.Oo{p:aE}{n:Nat}(h:p.wt<=n):p.rel.length<=n:=by unfold aE.wt tw at h;omega
theorem aE.fB{p:aE}{n:Nat}(h:p.wt<=n):p.args.length<=n:=by unfold aE.wt at h;have:=tE tw p.args;omega
theorem aE.sj{p:aE}{n:Nat}(h:p.wt<=n){x:Bytes}(hx:x∈p.args):x.length<=n:=by unfold aE.wt at h;have:=qL (w:=tw) hx;have e:tw x=x.length:=rfl;omega
theorem aN.gE{c:aN}{n:Nat}(h:c.wt<=n):c.pat.wt<=n:=by simp only[aN.wt,aE.wt]at h⊢;omega
theorem aN.AS{c:aN}{n:Nat}(h:c.wt<=n):c.left.length<=n:=by simp only[aN.wt,tw]at h;omega
theorem aN.xm{c:aN}{n:Nat}(h:c.wt<=n):c.right.length<=n:=by simp only[aN.wt,tw]at h;omega
theorem Action.gE{c:Action}{n:Nat}(h:c.wt<=n):c.pat.wt<=n:=by simp only[Action.wt,aE.wt]at h⊢;omega
theorem aI.TS{r:aI}{n:Nat}(h:r.wt<=n):r.name.length<=n:=by simp only[aI.wt,tw]at h;omega
theorem aI.sA{r:aI}{n:Nat}(h:r.wt<=n):qm aN.wt r.conds<=n:=by simp only[aI.wt]at h;omega
theorem aI.Hp{r:aI}{n:Nat}(h:r.wt<=n):qm Action.wt r.cM<=n:=by simp only[aI.wt]at h;omega
theorem aI.pE{r:aI}{n:Nat}(h:r.wt<=n){c:aN}(hc:c∈r.conds):c.wt<=n:=by have:=aI.sA h;have:=qL (w:=aN.wt) hc;omega
theorem aI.O5{r:aI}{n:Nat}(h:r.wt<=n){c:Action}(hc:c∈r.cM):c.wt<=n:=by have:=aI.Hp h;have:=qL (w:=Action.wt) hc;omega
theorem zx(f:aE)(h:f.args.length<=1099511627776):eO f=some f:=by
 unfold eO;rw[Y3 _ h];rfl
theorem Rs(f:aE)(h:f.args.length<=1099511627776):iq f=some f:=by
 unfold iq;rw[OT _ h];rfl
theorem a3k(a b:aE):sW a b=some (decide (a=b)):=by
 obtain⟨a0,a1⟩:=a;obtain⟨b0,b1⟩:=b;unfold sW;simp only[Y0,aA,jf];by_cases h0:a0=b0<;>by_cases h1:a1=b1<;>simp[h0,h1]
theorem a2x(a b:aE):pN a b=some (decide (a=b)):=by
 obtain⟨a0,a1⟩:=a;obtain⟨b0,b1⟩:=b;unfold pN;simp only[Wp,aA,jf];by_cases h0:a0=b0<;>by_cases h1:a1=b1<;>simp[h0,h1]
theorem SI(a b:aE):iV a b=some (decide (a=b)):=by
 obtain⟨a0,a1⟩:=a;obtain⟨b0,b1⟩:=b;unfold iV;simp only[Y0,aA,jf];by_cases h0:a0=b0<;>by_cases h1:a1=b1<;>simp[h0,h1]
theorem Lx(a b:aE):fN a b=some (decide (a=b)):=by
 obtain⟨a0,a1⟩:=a;obtain⟨b0,b1⟩:=b;unfold fN;simp only[Wp,aA,jf];by_cases h0:a0=b0<;>by_cases h1:a1=b1<;>simp[h0,h1]
theorem L9(a b:aP):kO a b=some (decide (a=b)):=by
 unfold kO;exact Yc (c:=aE.c) (f:=sW) (fun k=>lm a b k) (fun _ _=>rfl) (fun _ _ _ _=>rfl) a3k
theorem L5(a b:aP):j5 a b=some (decide (a=b)):=by
 unfold j5;exact Yc (c:=aE.c) (f:=pN) (fun k=>lV a b k) (fun _ _=>rfl) (fun _ _ _ _=>rfl) a2x
def xh(p:aE):Bool:=p.args.all nr&&(wE p.rel&&decide ((p.args.length:Int)<=3))
def rO(f:aE):Bool:=f.args.all fL&&(wE f.rel&&decide ((f.args.length:Int)<=3))
theorem a1e(f:aE)(h:f.wt<=1048576):qU f=some (rO f):=by
 unfold qU;rw[Tz (f:=fP) (L:=oc f _) (fun _=>rfl) (fun _ _ _=>rfl) f.args 0 (fun x hx=>Kc x (aE.sj h hx)),Xo _ (aE.Oo h),aA,au,rO];cases f.args.all fL<;>cases wE f.rel<;>rfl
theorem a13(f:aE)(h:f.wt<=1048576):qQ f=some (rO f):=by
 unfold qQ;rw[Tz (f:=fM) (L:=oX f _) (fun _=>rfl) (fun _ _ _=>rfl) f.args 0 (fun x hx=>KP x (aE.sj h hx)),Wn _ (aE.Oo h),aA,au,rO];have c:decide ((f.args.length:Int)<=3)= !decide ((f.args.length:Int)>3):=by rw[bn];simp
 rw[c];cases f.args.all fL<;>cases wE f.rel<;>cases decide ((f.args.length:Int)>3)<;>rfl
theorem a3f(f:aE)(h:f.wt<=1048576):gq f=some (xh f):=by
 unfold gq;rw[Tz (f:=ir) (L:=lf f _) (fun _=>rfl) (fun _ _ _=>rfl) f.args 0 (fun x hx=>Y1 x (aE.sj h hx)),Xo _ (aE.Oo h),aA,au,xh];cases f.args.all nr<;>cases wE f.rel<;>rfl
theorem a2u(f:aE)(h:f.wt<=1048576):j0 f=some (xh f):=by
 unfold j0;rw[Tz (f:=ig) (L:=lU f _) (fun _=>rfl) (fun _ _ _=>rfl) f.args 0 (fun x hx=>Ws x (aE.sj h hx)),Wn _ (aE.Oo h),aA,au,xh];have c:decide ((f.args.length:Int)<=3)= !decide ((f.args.length:Int)>3):=by rw[bn];simp
 rw[c];cases f.args.all nr<;>cases wE f.rel<;>cases decide ((f.args.length:Int)>3)<;>rfl
def jE(l:aG):aG:=l.filter fK
theorem vS(l:aG):(jE l).length<=l.length:=Cu _ _
theorem No(a b:aG):jE (a++b)=jE a++jE b:=List.filter_append _ _
theorem J9(p:aE)(h:p.wt<=1048576):nF p=some (eV (jE p.args)):=by
 unfold nF;have:∀(r:aG) (i:Nat) (w:aG),(∀x∈r,x.length<=1048576)->w.length+r.length<=2097152->kP p (fun q=>some q) r i w=some ((jE r).foldl yK w):=by
  intro r
  induction r with
  |nil=>intro i w _ _;rfl
  |cons x r ih=>
   intro i w hr hw;simp only[aT]at hw;have hl:=zm w x;rw[kP,Ox x (hr x (by simp)),aA,SH w x (by omega),aA,ih _ _ (fun y hy=>hr y (by simp[hy])) (by omega),ih _ _ (fun y hy=>hr y (by simp[hy])) (by omega)];cases hv:fK x<;>simp[jE,hv]
 exact this p.args 0 [] (fun x hx=>aE.sj h hx) (by have:=aE.fB h;simp;omega)
theorem Wu(l:aG)(hl:l.length<=2097152)(h:∀x∈l,x.length<=1048576):mZ l=some (jE l):=by
 unfold mZ;have:∀(r:aG) (i:Nat) (w:aG),(∀x∈r,x.length<=1048576)->w.length+r.length<=2097152->fY l (fun q=>some q) r i w=some (w++jE r):=by
  intro r
  induction r with
  |nil=>intro i w _ _;simp[fY,jE]
  |cons x r ih=>
   intro i w hr hw;simp only[aT]at hw;rw[fY,UI x (hr x (by simp)),aA,gF (by omega) (by decide),ih _ _ (fun y hy=>hr y (by simp[hy])) (by simp;omega),ih _ _ (fun y hy=>hr y (by simp[hy])) (by omega)];cases hv:fK x<;>simp[jE,hv]
 exact this l 0 [] h (by simpa using hl)
def pZ(c:aN):aG:=jE (c.pat.args++[c.left,c.right])
theorem wm{c:aN}{n:Nat}(h:c.wt<=n):(pZ c).length<=n+2:=by
 have h1:=vS (c.pat.args++[c.left,c.right]);have h2:=aE.fB (aN.gE h);simp only[ar,aT,bW]at h1;unfold pZ;omega
theorem SE(c:aN)(h:c.wt<=1048576):mB c=some (eV (pZ c)):=by
 unfold mB;have h1:=aE.fB (aN.gE h);have h2:=pS (jE c.pat.args);have h3:=vS c.pat.args;have h4:=zm (eV (jE c.pat.args)) c.left;rw[J9 _ (aN.gE h),aA,Ox _ (aN.AS h),aA,Ox _ (aN.xm h)];simp only[aA];rw[SH _ _ (by omega),SH _ _ (by omega),aA,SH _ _ (by omega)];simp only[aA,pZ,No,SP];cases hl:fK c.left<;>cases hr:fK c.right<;>simp[jE,hl,hr]
theorem Wt(c:aN)(h:c.wt<=1048576):rG c=some (c.pat.args++[c.left,c.right]):=by
 unfold rG;have h1:=aE.fB (aN.gE h);rw[OT _ (by omega),aA];rw[Ka (by simp;omega) (by decide)];rfl
theorem Rq(c:aN)(h:c.wt<=1048576):ny c=some (eV (pZ c)):=by
 unfold ny;have h1:=aE.fB (aN.gE h);have h5:=wm h;rw[Wt c h,aA,Wu _ (by simp;omega) (fun x hx=>by
  simp only[aU,bE,List.not_mem_nil,or_false]at hx;rcases hx with hx|rfl|rfl
  ·exact aE.sj (aN.gE h) hx
  ·exact aN.AS h
  ·exact aN.xm h),aA]
 rw[show jE (c.pat.args++[c.left,c.right])=pZ c from rfl,OS _ (by omega)];rfl
def Bo(p:aE):Bool:=p.rel==[]&&decide ((p.args.length:Int)=0)
def nJ(c:aN):Bool:=bif decide (c.kind=1)||decide (c.kind=2)then xh c.pat&&(c.left==[]&&c.right==[])else bif decide (c.kind=3)||decide (c.kind=4)||decide (c.kind=5)then Bo c.pat&&(nr c.left&&nr c.right)else false
def Gc(c:aN):Bool:=nJ c&&decide (c.kind>=3)
theorem Gf{c:aN}(h:nJ c=true):1<=c.kind/\c.kind<=5:=by
 unfold nJ at h;by_cases h1:c.kind=1
 ·omega
 by_cases h2:c.kind=2
 ·omega
 by_cases h3:c.kind=3
 ·omega
 by_cases h4:c.kind=4
 ·omega
 by_cases h5:c.kind=5
 ·omega
 simp[h1,h2,h3,h4,h5]at h
theorem Xd(c:aN)(h:c.wt<=1048576):oO c=some (nJ c):=by
 unfold oO nJ Bo;simp only[a3f _ (aN.gE h),Y1 _ (aN.AS h),Y1 _ (aN.xm h),aA,au,jf];by_cases h1:c.kind=1
 ·simp only[h1];cases xh c.pat<;>cases decide (c.left=[])<;>simp
 by_cases h2:c.kind=2
 ·simp only[h2];cases xh c.pat<;>cases decide (c.left=[])<;>simp
 by_cases h3:c.kind=3
 ·simp only[h3];cases decide (c.pat.rel=[])<;>cases decide ((c.pat.args.length:Int)=0)<;>cases nr c.left<;>simp
 by_cases h4:c.kind=4
 ·simp only[h4];cases decide (c.pat.rel=[])<;>cases decide ((c.pat.args.length:Int)=0)<;>cases nr c.left<;>simp
 by_cases h5:c.kind=5
 ·simp only[h5];cases decide (c.pat.rel=[])<;>cases decide ((c.pat.args.length:Int)=0)<;>cases nr c.left<;>simp
 simp[h1,h2,h3,h4,h5]
theorem a15(p:aE):iO p=some (Bo p):=by
 unfold iO Bo;simp only[au,jf];cases decide (p.rel=[])<;>rfl
theorem Wj(c:aN)(h:c.wt<=1048576):qP c=some (nJ c):=by
 unfold qP nJ;simp only[a2u _ (aN.gE h),Ws _ (aN.AS h),Ws _ (aN.xm h),a15,aA,jf];by_cases h1:c.kind=1
 ·simp only[h1];cases xh c.pat<;>cases decide (c.left=[])<;>simp
 by_cases h2:c.kind=2
 ·simp only[h2];cases xh c.pat<;>cases decide (c.left=[])<;>simp
 by_cases h3:c.kind=3
 ·simp only[h3];cases Bo c.pat<;>cases nr c.left<;>cases nr c.right<;>simp
 by_cases h4:c.kind=4
 ·simp only[h4];cases Bo c.pat<;>cases nr c.left<;>cases nr c.right<;>simp
 by_cases h5:c.kind=5
 ·simp only[h5];cases Bo c.pat<;>cases nr c.left<;>cases nr c.right<;>simp
 simp[h1,h2,h3,h4,h5]
theorem Y2(c:aN)(h:c.wt<=1048576):qW c=some (Gc c):=by
 unfold qW Gc;rw[Xd c h];cases nJ c<;>rfl
theorem a5g(c:aN)(h:c.wt<=1048576):uS c=some (Gc c):=by
 unfold uS Gc;rw[Wj c h];cases nJ c<;>rfl
theorem Xz(a b:aN):o4 a b=some (decide (a=b)):=by
 obtain⟨a0,a1,a2,a3⟩:=a;obtain⟨b0,b1,b2,b3⟩:=b;unfold o4;simp only[SI,aA,jf];by_cases h0:a0=b0<;>by_cases h1:a1=b1<;>by_cases h2:a2=b2<;>by_cases h3:a3=b3<;>simp[h0,h1,h2,h3]
theorem OR(a b:aN):jg a b=some (decide (a=b)):=by
 obtain⟨a0,a1,a2,a3⟩:=a;obtain⟨b0,b1,b2,b3⟩:=b;unfold jg;simp only[Lx,aA,jf];by_cases h0:a0=b0<;>by_cases h1:a1=b1<;>by_cases h2:a2=b2<;>by_cases h3:a3=b3<;>simp[h0,h1,h2,h3]
def LM(a:Action):Bool:=bif decide (a.kind=1)||decide (a.kind=2)then xh a.pat else bif decide (a.kind=3)then Bo a.pat else false
theorem a8y(a:Action)(h:a.wt<=1048576):sG a=some (LM a):=by
 unfold sG LM Bo;simp only[a3f _ (Action.gE h),aA,au,jf];by_cases h1:a.kind=1
 ·simp[h1]
 by_cases h2:a.kind=2
 ·simp[h2]
 by_cases h3:a.kind=3
 ·simp only[h3];cases decide (a.pat.rel=[])<;>simp
 simp[h1,h2,h3]
theorem a8g(a:Action)(h:a.wt<=1048576):sD a=some (LM a):=by
 unfold sD LM;simp only[a2u _ (Action.gE h),a15,aA,jf];by_cases h1:a.kind=1
 ·simp[h1]
 by_cases h2:a.kind=2
 ·simp[h2]
 by_cases h3:a.kind=3
 ·simp[h3]
 simp[h1,h2,h3]
end Go.Cx
namespace Go.Cx
open Go.RowKit Go.Proofs Tryz
theorem Zx:∀(k v:Nat),v<10^k->1<=k->Lib.nDigits v<=k:=by
 intro k
 induction k with
 |zero=>intro v _ h;omega
 |succ k ih=>
  intro v hv _;by_cases h10:v<10
  ·rw[Lib.nDigits_small h10];omega
  ·rw[Lib.nDigits_big h10];have h3:v/10<10^k:=by rw[vf]at hv;omega
   have hk1:1<=k:=by
    cases k with
    |zero=>simp at hv;omega
    |succ k=>omega
   have:=ih (v/10) h3 hk1;omega
theorem S0{u:Nat}(h:u<=9223372036854775808):Lib.nDigits u<=19:=Zx 19 u (by omega) (by omega)
theorem a7U(u:Nat):UInt8.ofNat (IntKind.u8.wrap (IntKind.i64.wrap (48+((u:Int)%10)))).toNat=UInt8.ofNat (48+u%10):=by
 rw[di (k:=.i64) (pF.i64.2 (by omega)),di (pF.u8.2 (by omega))]
 congr 1
theorem a1f(k:Option Bytes):∀(n u:Nat) (acc:Bytes),Lib.nDigits u<=n->acc.length+Lib.nDigits u<=1000->iB k n (u:Int) acc=some (Lib.decDigits u++acc):=by
 intro n
 induction n with
 |zero=>intro u acc h _;have:=Lib.nDigits_pos u;omega
 |succ n ih=>
  intro u acc hn hl;have hp:=Lib.nDigits_pos u;have e0:(decide (0<=(u:Int))&&decide (0<(10:Int)))=true:=by simp
  have e1:decide (([UInt8.ofNat (48+u%10)]:Bytes).length+(acc:Bytes).length<=maxLen)=true:=by unfold maxLen;simp;omega
  rw[iB];simp only[a7U,e0,e1,aH];by_cases h10:u<10
  ·have e2:(((u:Int)/10:Int)==0)=true:=by rw[cV];omega
   rw[e2,aH,Lib.decDigits,dif_pos h10,Nat.mod_eq_of_lt h10]
  ·have e2:(((u:Int)/10:Int)==0)=false:=by rw[cu];omega
   have e3:((u:Int)/10)=((u/10:Nat):Int):=by omega
   have hd:=Lib.nDigits_big h10;rw[e2,aS,e3,ih (u/10) _ (by omega) (by simp;omega)]
   conv=>rhs;rw[Lib.decDigits,dif_neg h10]
   simp
theorem a6G(m u:Nat)(h:u<=9223372036854775807):gY (m+1) (u:Int)=some (Lib.decDigits u):=by
 rw[gY];have e1:((u:Int)==(-9223372036854775808))=false:=by rw[cu];omega
 have e2:decide ((u:Int)<0)=false:=by simp
 have:=S0 (u:=u) (by omega);rw[e1,aS,e2,aS,a1f _ _ _ _ (by unfold fuel;omega) (by simp;omega)];simp
theorem Ww:Lib.itoa (-9223372036854775808)=[45,57,50,50,51,51,55,50,48,51,54,56,53,52,55,55,53,56,48,56]:=by
 unfold Lib.itoa;simp[Lib.decDigits]
theorem a0E(n:Int)(h:pF .i64 n):j8 n=some (Lib.itoa n):=by
 have h:=pF.i64.1 h;unfold j8;rw[show fuel=4194303+1 from rfl,gY];by_cases hm:n= -9223372036854775808
 ·subst hm;rw[Ww];rfl
 have e1:((n:Int)==(-9223372036854775808))=false:=by rw[cu];exact hm
 rw[e1,aS];by_cases hn:n<0
 ·have e2:decide (n<0)=true:=by simpa using hn
  have e3:IntKind.i64.wrap (0-n)=((n.natAbs:Nat):Int):=by rw[di (pF.i64.2 (by omega))];omega
  have hd:=S0 (u:=n.natAbs) (by omega);rw[e2,aH,e3,show(4194303:Nat)=4194302+1 from rfl,a6G _ _ (by omega),aA];have e4:decide (([45]:Bytes).length+(Lib.decDigits n.natAbs:Bytes).length<=maxLen)=true:=by unfold maxLen;rw[Lib.decDigits_length];simp;omega
  rw[e4,aH];unfold Lib.itoa;rw[bL hn];rfl
 ·have e2:decide (n<0)=false:=by simpa using hn
  have e3:n=((n.toNat:Nat):Int):=by omega
  have:=S0 (u:=n.toNat) (by omega);rw[e2,aS]
  conv=>lhs;rw[e3]
  rw[a1f _ _ _ _ (by unfold fuel;omega) (by simp;omega)];unfold Lib.itoa;rw[b8 hn];simp
theorem a2s(n:Int):kA n=some (Lib.itoa n):=by
 unfold kA zh;rfl
theorem M1(n:Int)(h:pF .i64 n):(Lib.itoa n).length<=21:=by
 have:=pF.i64.1 h;exact Lib.itoa_length_le n this.1 this.2
def Cq(to:aM)(s:Bytes):Bytes:=match to with
 | []=>s
 |p::r=>bif p.var==s then p.value else Cq r s
def MS(to:aM)(x:aN):aN:=⟨x.kind,⟨x.pat.rel,x.pat.args.map (Cq to)⟩,Cq to x.left,Cq to x.right⟩
theorem sRn(to:aM)(s:Bytes):kT s to=some (Cq to s):=by
 unfold kT;have:∀(r:aM) (i:Nat),jU s to (some s) r i=some (Cq r s):=by
  intro r
  induction r with
  |nil=>intro i;rfl
  |cons x r ih=>
   intro i;rw[jU,ih,Cq];cases x.var==s<;>rfl
 exact this to 0
theorem iRn(to:aM)(s:Bytes):iM s to=some (Cq to s):=by
 unfold iM;have:∀(r:aM) (i:Nat),iA s to (some s) r i=some (Cq r s):=by
  intro r
  induction r with
  |nil=>intro i;rfl
  |cons x r ih=>
   intro i;rw[iA,ih,Cq];cases x.var==s<;>rfl
 exact this to 0
theorem a3i(x:aN)(to:aM)(h:x.pat.args.length<=1099511627770):jV x to=some (MS to x):=by
 unfold jV;rw[sRn,aA,sRn,aA];rw[It (c:=tx) (b:=16) (f:=fun a=>kT a to) (g:=Cq to) (L:=kN x to (Cq to x.left) (Cq to x.right) _) (k:=_) (by decide) (fun _ _=>rfl) (fun _ _ _ _=>rfl) _ _ _ (fun a _=>sRn to a) (by simp;omega)];rfl
theorem a5c(x:aN)(to:aM)(h:x.pat.args.length<=1099511627770):l7 x to=some (MS to x):=by
 unfold l7;rw[iRn,aA,iRn,aA];rw[It (c:=tx) (b:=16) (f:=fun a=>iM a to) (g:=Cq to) (L:=kF x to (Cq to x.left) (Cq to x.right) _) (k:=_) (by decide) (fun _ _=>rfl) (fun _ _ _ _=>rfl) _ _ _ (fun a _=>iRn to a) (by simp;omega)];rfl
def Ed(l:aM)(t:Bytes):Bool:=l.any fun p=>p.var==t
def lM(l:aM)(t:Bytes):aM:=bif fK t&& !Ed l t then l++[⟨t,[63]++Lib.itoa ((l.length:Int)+1)⟩]else l
theorem Bd(l:aM)(t:Bytes):(lM l t).length<=l.length+1:=by
 unfold lM;cases fK t&& !Ed l t<;>simp
theorem yF:∀(ts:aG) (l:aM),(ts.foldl lM l).length<=l.length+ts.length
 | [],l=>by simp
 |t::ts,l=>by
  have h1:=yF ts (lM l t);have h2:=Bd l t;rw[cT,aT];omega
theorem Ov(l:aM)(t:Bytes)(hl:l.length<=1099511627770)(ht:t.length<=1048576):oS l t=some (lM l t):=by
 unfold oS;rw[Ox t ht,aA,lM];cases hv:fK t with
 |false=>rfl
 |true=>
  rw[bh,aS,eH];have key:∀(k:Option aM) (r:aM) (i:Nat),n9 l t k r i=bif Ed r t then some l else k:=by
   intro k r
   induction r with
   |nil=>intro i;rfl
   |cons x r ih=>
    intro i;rw[n9,ih];simp only[Ed,AU];cases x.var==t<;>simp
  rw[key];cases Ed l t with
  |true=>rfl
  |false=>
   have e1:IntKind.i64.wrap (((l.map aQ.c).length:Int)+1)=(l.length:Int)+1:=by rw[di (pF.i64.2 (by simp;omega))];simp
   have hr:pF .i64 ((l.length:Int)+1):=pF.i64.2 (by omega);have hi:=M1 _ hr;have e2:decide (([63]:Bytes).length+(Lib.itoa ((l.length:Int)+1):Bytes).length<=maxLen)=true:=by unfold maxLen;simp;omega
   simp only[aS,cy,aH];rw[e1,a0E _ hr,aA,e2,aH,gF (by omega) (by decide)];rfl
theorem QK(x y:Bytes):∀(m:List (Bytes×Bool)),Is false y (M9 x true m)=(y==x||Is false y m)
 | []=>by simp only[M9,Is];cases y==x<;>rfl
 |p::m=>by
  simp only[M9];cases h:x==p.1 with
  |true=>
   have h':x=p.1:=by simpa using h
   subst h';simp only[aH,Is];cases y==p.1<;>simp
  |false=>
   simp only[aS,Is,QK x y m];cases hy:y==p.1 with
   |true=>
    have h1:y=p.1:=by simpa using hy
    have h2:(y==x)=false:=by
     rw[cu]at h⊢;intro e;exact h (e.symm.trans h1)
    simp[h2]
   |false=>simp
theorem UC(l:aM)(x y v:Bytes):Ed (l++[⟨x,v⟩]) y=(y==x||Ed l y):=by
 have:(x==y)=(y==x):=by rw[bn,cV,cV];exact eq_comm
 simp only[Ed,List.any_append,AU,Hh,sS,this];cases y==x<;>simp
theorem TM(ts:aG)(hl:ts.length<=1099511627700)(h:∀x∈ts,x.length<=1048576):nh ts=some (ts.foldl lM []):=by
 unfold nh;have key:∀(r:aG) (i:Nat) (w:aM) (m:List (Bytes×Bool)),(∀x∈r,x.length<=1048576)->w.length+r.length<=1099511627700->(∀y,Is false y m=Ed w y)->
  fI ts (fun q=>some q) r i w m=some (r.foldl lM w):=by
  intro r
  induction r with
  |nil=>intro i w m _ _ _;rfl
  |cons x r ih=>
   intro i w m hx hw hm;simp only[aT]at hw;have hr:pF .i64 ((w.length:Int)+1):=pF.i64.2 (by omega);have hi:=M1 _ hr;have e1:IntKind.i64.wrap (((w.map aQ.c).length:Int)+1)=(w.length:Int)+1:=by rw[di (pF.i64.2 (by simp;omega))];simp
   have e2:decide (([63]:Bytes).length+(Lib.itoa ((w.length:Int)+1):Bytes).length<=maxLen)=true:=by unfold maxLen;simp;omega
   rw[fI,UI x (hx x (by simp)),aA,cT,lM,hm x];cases hv:fK x with
   |false=>simp only[aS,Bool.false_and];exact ih _ _ _ (fun y hy=>hx y (by simp[hy])) (by omega) hm
   |true=>
    cases hh:Ed w x with
    |true=>simp only[aH,bh,aS,eH];exact ih _ _ _ (fun y hy=>hx y (by simp[hy])) (by omega) hm
    |false=>
     simp only[aH,cy,eH];rw[e1,a2s,aA,e2,aH,gF (by omega) (by decide),aH];exact ih _ _ _ (fun y hy=>hx y (by simp[hy])) (by simp;omega) (fun y=>by rw[QK,UC,hm])
 exact key ts 0 [] [] h (by simpa using hl) (fun y=>rfl)
def HW(p:aE):aE:=(MS (p.args.foldl lM []) ⟨0,p,[],[]⟩).pat
theorem a3o(p:aE)(h:p.wt<=1048576):rL p=some (HW p):=by
 have hl:=aE.fB h;unfold rL;have key:∀(k:aM->Option aE) (r:aG) (i:Nat) (w:aM),(∀x∈r,x.length<=1048576)->w.length+r.length<=1099511627700->lE p k r i w=k (r.foldl lM w):=by
  intro k r
  induction r with
  |nil=>intro i w _ _;rfl
  |cons x r ih=>
   intro i w hx hw;simp only[aT]at hw;have:=Bd w x;rw[lE,Ov w x (by omega) (hx x (by simp)),aA,ih _ _ (fun y hy=>hx y (by simp[hy])) (by omega)];rfl
 rw[key _ _ _ _ (fun x hx=>aE.sj h hx) (by simp;omega),a3i _ _ (by simp;omega)];rfl
theorem a30(p:aE)(h:p.wt<=1048576):qz p=some (HW p):=by
 have hl:=aE.fB h;unfold qz;rw[TM _ (by omega) (fun x hx=>aE.sj h hx),aA,a5c _ _ (by simp;omega)];rfl
def vE(l:ah):aG:=l.flatMap fun c=>c.pat.args++[c.left,c.right]
theorem SL(l:ah):(vE l).length<=3*qm aN.wt l:=by
 unfold vE
 induction l with
 |nil=>simp
 |cons x l ih=>
  rw[cm,ar,nU];have:=aE.fB (aN.gE (c:=x) (bO _));simp only[ar,aT,bW];omega
def gD(r:aI):aM:=(vE r.conds).foldl lM []
def fR(r:aI):ah:=r.conds.map (MS (gD r))
theorem Xq(a:aI)(i:Nat)(c:aN)(k:aM->Option aM):∀(r:aG) (j:Nat) (w:aM),(∀x∈r,x.length<=1048576)->w.length+r.length<=1099511627700->iT a i c k r j w=k (r.foldl lM w):=by
 intro r
 induction r with
 |nil=>intro i w _ _;rfl
 |cons x r ih=>
  intro i w hx hw;simp only[aT]at hw;have:=Bd w x;rw[iT,Ov w x (by omega) (hx x (by simp)),aA,ih _ _ (fun y hy=>hx y (by simp[hy])) (by omega)];rfl
theorem Xp(r:aI)(h:r.wt<=1048576):nk r=some (gD r):=by
 unfold nk;have key:∀(l:ah) (i:Nat) (w:aM),(∀c∈l,c.wt<=1048576)->w.length+3*qm aN.wt l<=1099511627700->iR r (fun q=>some q) l i w=some ((vE l).foldl lM w):=by
  intro l
  induction l with
  |nil=>intro i w _ _;rfl
  |cons c l ih=>
   intro i w hc hw;rw[nU]at hw;have Q5:=hc c (by simp);have ha:=aE.fB (aN.gE (c:=c) (bO _));have h1:=yF c.pat.args w;have h2:=Bd (c.pat.args.foldl lM w) c.left;have h3:=Bd (lM (c.pat.args.foldl lM w) c.left) c.right;rw[iR,sO (by omega),aH,Xq _ _ _ _ _ _ _ (fun x hx=>aE.sj (aN.gE Q5) hx) (by omega),Ov _ _ (by omega) (aN.AS Q5),aA,Ov _ _ (by omega) (aN.xm Q5),aA,
    ih _ _ (fun y hy=>hc y (by simp[hy])) (by omega)]
   simp[vE]
 have:=aI.sA h;exact key r.conds 0 [] (fun c hc=>aI.pE h hc) (by simp;omega)
theorem Wo(r:aI)(h:r.wt<=1048576):nc r=some (gD r):=by
 unfold nc;have hw:=aI.sA h;have key:∀(k:aG->Option aM) (l:ah) (i:Nat) (w:aG),(∀c∈l,c.wt<=1048576)->w.length+3*qm aN.wt l<=1099511627700->gM r k l i w=k (w++vE l):=by
  intro k l
  induction l with
  |nil=>intro i w _ _;simp[gM,vE]
  |cons c l ih=>
   intro i w hc hw;rw[nU]at hw;have Q5:=hc c (by simp);have ha:=aE.fB (aN.gE (c:=c) (bO _));rw[gM,Wt c Q5,aA,Qi (by simp;omega) (by decide),aH,ih _ _ (fun y hy=>hc y (by simp[hy])) (by simp;omega)];simp[vE]
 have hl:=SL r.conds;rw[key _ _ _ _ (fun c hc=>aI.pE h hc) (by simp;omega),dM,TM _ (by omega) ?_]
 ·rfl
 ·intro x hx;unfold vE at hx;obtain⟨c,hc,hx⟩:=bg.1 hx;have Q5:=aI.pE h hc;rcases aU.1 hx with hx|hx
  ·exact aE.sj (aN.gE Q5) hx
  ·simp only[bE,List.not_mem_nil,or_false]at hx;rcases hx with rfl|rfl
   ·exact aN.AS Q5
   ·exact aN.xm Q5
theorem a3V(r:aI)(h:r.wt<=1048576):qB r=some (fR r):=by
 unfold qB;have hw:=aI.sA h;have hl:=tE aN.wt r.conds;rw[Xp r h,aA];rw[It (c:=aN.c) (b:=80) (f:=fun a=>jV a (gD r)) (g:=MS (gD r)) (L:=kM r (gD r) _) (k:=_) (by decide) (fun _ _=>rfl) (fun _ _ _ _=>rfl) _ _ _ (fun c hc=>a3i c _ (by have:=aE.fB (aN.gE (aI.pE h hc));omega)) (by simp;omega)];simp[fR]
theorem a2o(r:aI)(h:r.wt<=1048576):pu r=some (fR r):=by
 unfold pu;have hw:=aI.sA h;have hl:=tE aN.wt r.conds;rw[Wo r h,aA];rw[It (c:=aN.c) (b:=80) (f:=fun a=>l7 a (gD r)) (g:=MS (gD r)) (L:=kE r (gD r) _) (k:=_) (by decide) (fun _ _=>rfl) (fun _ _ _ _=>rfl) _ _ _ (fun c hc=>a5c c _ (by have:=aE.fB (aN.gE (aI.pE h hc));omega)) (by simp;omega)];simp[fR]
end Go.Cx
namespace Go.Cx
open Go.RowKit Go.Proofs Tryz
def NOk(n:aJ):Prop:=n.nodes.length<=1048576/\∀x∈n.nodes,x.cond.wt<=1048576
theorem a06(s:Bytes):Cq [] s=s:=rfl
theorem XT(x:aN):MS [] x=x:=by
 have:x.pat.args.map (Cq [])=x.pat.args:=by
  rw[show(Cq [])=id from funext a06];simp
 unfold MS;rw[this];rfl
def dU(i:Nat):Int:=(i:Int)
def NA(ns:bR):Nat->Nat->aW
 |0,_=>[]
 |k+1,v=>v::(match ns[v]? with
  |some x=>if 1<=x.parent/\x.parent<(v:Int)then NA ns k x.parent.toNat else []
  |none=>[])
def AZ(ns:bR)(i:Nat):Option aN:=(ns[i]?).map Node.cond
def GX(ns:bR)(k v:Nat):ah:=(NA ns k v).reverse.filterMap (AZ ns)
def gK(ns:bR)(v:Int):ah:=if 1<=v/\v<(ns.length:Int)then GX ns v.toNat v.toNat else []
theorem Qt{ns:bR}{k v:Nat}{x:Node}(hx:ns[v]?=some x):NA ns (k+1) v=v::(if 1<=x.parent/\x.parent<(v:Int)then NA ns k x.parent.toNat else []):=by simp only[NA,hx]
theorem YJ(ns:bR):∀(k v:Nat),v<ns.length->∀i∈NA ns k v,i<ns.length
 |0,v,_,i,hi=>by cases hi
 |k+1,v,hv,i,hi=>by
  rw[NA]at hi;rcases bE.1 hi with rfl|hi
  ·exact hv
  ·split at hi
   ·split at hi
    ·rename_i x hx hp;exact YJ ns k _ (by omega) i hi
    ·cases hi
   ·cases hi
theorem Tm(ns:bR):∀(k v:Nat),(NA ns k v).length<=k
 |0,v=>by simp[NA]
 |k+1,v=>by
  rw[NA,aT];split
  ·split
   ·have:=Tm ns k (by assumption:Node).parent.toNat;omega
   ·simp
  ·simp
theorem MO{ns:bR}{k v:Nat}{x:Node}(hx:ns[v]?=some x):GX ns (k+1) v=(if 1<=x.parent/\x.parent<(v:Int)then GX ns k x.parent.toNat else [])++[x.cond]:=by
 have hc:AZ ns v=some x.cond:=by unfold AZ;rw[hx];rfl
 unfold GX;rw[Qt hx];by_cases hp:1<=x.parent/\x.parent<(v:Int)
 ·rw[bL hp,bL hp];simp[hc]
 ·rw[b8 hp,b8 hp];simp[hc]
theorem SF(x:aN)(h:x.pat.args.length<=1099511627770):oR x=some x:=by
 unfold oR;rw[a3i x [] h,aA,XT]
theorem Rr(x:aN)(h:x.pat.args.length<=1099511627770):ij x=some x:=by
 unfold ij gV;rw[OT x.pat.args (by omega)];rfl
theorem a3g(n:aJ)(h:NOk n)(K:ah->Option ah):∀(k v fu:Nat) (w:ah),v<=k->1<=v->v<n.nodes.length->k<fu->w.length+k<=4194304->jA n K fu (v:Int) w=K (GX n.nodes k v++w):=by
 have hl:=h.1;intro k
 induction k with
 |zero=>intro v fu w h1 h2;omega
 |succ k ih=>
  intro v fu w h1 h2 h3 h4 h5;obtain⟨fu,rfl⟩:∃m,fu=m+1:=⟨fu-1,by omega⟩
  have hx:n.nodes[v]?=some n.nodes[v]:=aa h3;have hw:=h.2 _ (iy h3);generalize hxe:n.nodes[v]=x at*;have e1:IntKind.i64.wrap (((n.nodes.map Node.c).length:Int)-1)=(n.nodes.length:Int)-1:=by rw[au];exact di (pF.i64.2 (by omega))
  have e2:(decide ((v:Int)>=1)&&decide ((v:Int)<=(n.nodes.length:Int)-1))=true:=by simp;omega
  have e3:iw n.nodes (v:Int)=some x:=by unfold iw;rw[bD (by omega),aH];exact hx
  have e4:=SF x.cond (by have:=aE.fB (aN.gE hw);omega);rw[jA,e1,GW,aA,e2,aH,e3,aA,e4,aA,Ka (by simp;omega) (by decide),aH,MO hx];by_cases h6:x.parent>=(v:Int)
  ·rw[bD h6,aH,b8 (by omega)];rfl
  ·rw[bM h6,aS];by_cases h7:1<=x.parent
   ·rw[bL ⟨h7,by omega⟩];obtain⟨m,hm⟩:=nW (by omega:0<=x.parent);rw[hm];rw[ih m fu ([x.cond]++w) (by omega) (by omega) (by omega) (by omega) (by simp;omega)];simp
   ·rw[b8 (by omega)];obtain⟨fu,rfl⟩:∃m,fu=m+1:=⟨fu-1,by omega⟩
    have e5:(decide (x.parent>=1)&&decide (x.parent<=(n.nodes.length:Int)-1))=false:=by
     rw[bM (by omega)];rfl
    rw[jA,e1,GW,aA,e5,aS];rfl
theorem Xs(n:aJ)(v:Int)(h:NOk n):sV n v=some (gK n.nodes v):=by
 have hl:=h.1;unfold sV gK;by_cases hv:1<=v/\v<(n.nodes.length:Int)
 ·rw[bL hv];obtain⟨m,rfl⟩:=nW (by omega:0<=v);rw[a3g n h _ m m fuel [] (bO _) (by omega) (by omega) (by unfold fuel;omega) (by simp;omega)];simp
 ·rw[b8 hv];have e1:IntKind.i64.wrap (((n.nodes.map Node.c).length:Int)-1)=(n.nodes.length:Int)-1:=by rw[au];exact di (pF.i64.2 (by omega))
  have e2:(decide (v>=1)&&decide (v<=(n.nodes.length:Int)-1))=false:=by
   by_cases h1:1<=v
   ·have h2:¬v<=(n.nodes.length:Int)-1:=by omega
    rw[bM h2,vZ]
   ·rw[bM h1];rfl
  rw[show fuel=4194303+1 from rfl,jA,e1,GW,aA,e2,aS]
theorem Zb(n:aJ)(h:NOk n)(K:bK->Option ah):∀(k v fu:Nat) (w:bK),v<=k->1<=v->v<n.nodes.length->k<fu->w.length+k<=4194304->mV n K fu (v:Int) w=K (w++(NA n.nodes k v).map dU):=by
 have hl:=h.1;intro k
 induction k with
 |zero=>intro v fu w h1 h2;omega
 |succ k ih=>
  intro v fu w h1 h2 h3 h4 h5;obtain⟨fu,rfl⟩:∃m,fu=m+1:=⟨fu-1,by omega⟩
  have hx:n.nodes[v]?=some n.nodes[v]:=aa h3;generalize hxe:n.nodes[v]=x at*;have e3:iw n.nodes (v:Int)=some x:=by unfold iw;rw[bD (by omega),aH];exact hx
  rw[mV,gF (by omega) (by decide),aH,e3,aA,Qt hx];by_cases h7:x.parent<1
  ·rw[bD h7,aH,b8 (by omega)];rfl
  ·rw[bM h7,aS];by_cases h6:x.parent>=(v:Int)
   ·rw[bD h6,aH,b8 (by omega)];rfl
   ·rw[bM h6,aS,bL ⟨by omega,by omega⟩];obtain⟨m,hm⟩:=nW (by omega:0<=x.parent);rw[hm,ih m fu (w++[(v:Int)]) (by omega) (by omega) (by omega) (by omega) (by simp;omega)];simp[dU]
theorem Zc(n:aJ)(h:NOk n)(us:aW)(s8:∀i∈us,i<n.nodes.length)(hul:us.length<=1048576)(K:ah->Option ah):∀(j fu:Nat) (w:ah),j<=us.length->j<fu->w.length+j<=4194304->kD n (us.map dU) K fu ((j:Int)-1) w=K (w++((us.take j).reverse.filterMap (AZ n.nodes))):=by
 intro j
 induction j with
 |zero=>
  intro fu w _ hf _;obtain⟨fu,rfl⟩:∃m,fu=m+1:=⟨fu-1,by omega⟩
  rw[kD,bM (by omega),aS];simp
 |succ j ih=>
  intro fu w hj hf hw;obtain⟨fu,rfl⟩:∃m,fu=m+1:=⟨fu-1,by omega⟩
  have hlt:j<us.length:=by omega
  have h3:=s8 us[j] (iy hlt);have hx:n.nodes[us[j]]?=some n.nodes[us[j]]:=aa h3;have hww:=h.2 _ (iy h3);generalize hxe:n.nodes[us[j]]=x at*;have e0:((j+1:Nat):Int)-1=(j:Int):=by omega
  have e1:iw (us.map dU) (j:Int)=some ((us[j]:Nat):Int):=by
   unfold iw;rw[bD (by omega),aH];show(us.map dU)[(j:Int).toNat]?=_;rw[pU,bu,aa hlt];rfl
  have e3:iw n.nodes ((us[j]:Nat):Int)=some x:=by unfold iw;rw[bD (by omega),aH];exact hx
  have e4:=Rr x.cond (by have:=aE.fB (aN.gE hww);omega);have e5:IntKind.i64.wrap ((j:Int)-1)=(j:Int)-1:=di (pF.i64.2 (by omega));rw[e0,kD,bD (by omega),aH,e1,aA,e3,aA,e4,aA,gF (by omega) (by decide),aH,e5,ih fu _ (by omega) (by omega) (by simp;omega)];have hc:AZ n.nodes us[j]=some x.cond:=by unfold AZ;rw[hx];rfl
  have ht:us.take (j+1)=us.take j++[us[j]]:=by rw[List.take_add_one,aa hlt];rfl
  rw[ht,List.reverse_append,List.filterMap_append];simp[hc]
theorem a2v(n:aJ)(v:Int)(h:NOk n):uT n v=some (gK n.nodes v):=by
 have hl:=h.1;unfold uT gK;rw[au];by_cases h1:v<1
 ·rw[bD h1,aH,b8 (by omega)]
 ·rw[bM h1,aS];by_cases h2:v>=(n.nodes.length:Int)
  ·rw[bD h2,aH,b8 (by omega)]
  ·rw[bM h2,aS,bL ⟨by omega,by omega⟩];obtain⟨m,rfl⟩:=nW (by omega:0<=v);rw[Zb n h _ m m fuel [] (bO _) (by omega) (by omega) (by unfold fuel;omega) (by simp;omega)];have hul:=Tm n.nodes m m;have e5:IntKind.i64.wrap ((((([]:bK)++(NA n.nodes m m).map dU).map nA).length:Int)-1)=(((NA n.nodes m m).length:Nat):Int)-1:=by
    rw[dM,au,au];exact di (pF.i64.2 (by omega))
   rw[e5,dM,Zc n h (NA n.nodes m m) (YJ n.nodes m m (by omega)) (by omega) _ (NA n.nodes m m).length fuel [] (bO _) (by unfold fuel;omega) (by simp;omega),wj];rfl
end Go.Cx
namespace Go.Cx
open Go.RowKit Go.Proofs Tryz
def Zz(k:Nat):Bytes:=[63]++Lib.itoa ((k:Int)+1)
theorem decDigits_one{u:Nat}(h:u<10):Lib.decDigits u=[UInt8.ofNat (48+u)]:=by
 rw[Lib.decDigits,dif_pos h]
theorem L7:∀i,i<6->Zz i=[63,UInt8.ofNat (49+i)]
 |0,_|1,_|2,_|3,_|4,_|5,_=>by
  unfold Zz Lib.itoa;rw[b8 (by decide),decDigits_one (by decide)];decide
 |n+6,h=>by omega
theorem a00:∀i,i<6->∀j,j<6->Zz i=Zz j->i=j:=by
 intro i hi j hj e;rw[L7 i hi,L7 j hj]at e
 revert i j
 decide
theorem TU:∀i,i<6->fK (Zz i)=true:=by
 intro i hi;rw[L7 i hi]
 revert i
 decide
def VZ(N:aM):Prop:=∀(i:Nat) p,N[i]?=some p->p.value=Zz i/\fK p.var=true
theorem Q4(N:aM)(t:Bytes):Ed N t=true↔∃p∈N,p.var=t:=by simp[Ed]
theorem UW(N:aM)(t:Bytes){p:aQ}(h:p∈N):p∈lM N t:=by
 unfold lM;cases fK t&& !Ed N t<;>simp[h]
theorem Pz:∀(ts:aG) (N:aM) {p:aQ},p∈N->p∈ts.foldl lM N
 | [],_,_,h=>h
 |t::ts,N,p,h=>Pz ts (lM N t) (UW N t h)
theorem YP{N:aM}(h:VZ N)(t:Bytes):VZ (lM N t):=by
 unfold lM;cases hv:fK t&& !Ed N t with
 |false=>exact h
 |true=>
  simp only[aR]at hv;intro i p hp;rw[aH]at hp;rcases eF i N.length with hlt|hge
  ·rw[av hlt]at hp;exact h i p hp
  ·rw[az hge]at hp;cases hi:i-N.length with
   |zero=>
    rw[hi]at hp;simp at hp;subst hp;have:i=N.length:=by omega
    subst this;exact⟨rfl,hv.1⟩
   |succ m=>rw[hi]at hp;simp at hp
theorem JE:∀(ts:aG) {N:aM},VZ N->VZ (ts.foldl lM N)
 | [],_,h=>h
 |t::ts,_,h=>JE ts (YP h t)
def Qz(N:aM):Prop:=(N.map aQ.var).Nodup
theorem UY{N:aM}(h:Qz N)(t:Bytes):Qz (lM N t):=by
 unfold lM;cases hv:fK t&& !Ed N t with
 |false=>exact h
 |true=>
  simp only[aR,pT]at hv;rw[aH];unfold Qz;rw[bI,bH];refine⟨h,by simp,?_⟩;intro a ha b hb e;simp at hb;subst hb;subst e;obtain⟨p,hp,he⟩:=cA.1 ha;have:=(Q4 N a).2 ⟨p,hp,he⟩;rw[hv.2]at this;cases this
theorem Be:∀(ts:aG) {N:aM},Qz N->Qz (ts.foldl lM N)
 | [],_,h=>h
 |t::ts,_,h=>Be ts (UY h t)
theorem Px:∀(ts:aG) (N:aM) {t:Bytes},t∈ts->fK t=true->∃p∈ts.foldl lM N,p.var=t
 |x::ts,N,t,h,hv=>by
  rcases bE.1 h with rfl|h
  ·have:∃p∈lM N t,p.var=t:=by
    unfold lM;cases hh:Ed N t with
    |true=>rw[hv];exact(Q4 N t).1 hh
    |false=>rw[hv];exact⟨⟨t,[63]++Lib.itoa ((N.length:Int)+1)⟩,by simp,rfl⟩
   obtain⟨p,hp,he⟩:=this;exact⟨p,Pz ts _ hp,he⟩
  ·exact Px ts _ h hv
theorem L8:∀ {N:aM} {p:aQ},Qz N->p∈N->Cq N p.var=p.value
 |q::N,p,hn,hp=>by
  unfold Qz at hn;rw[ay,dN]at hn;rcases bE.1 hp with rfl|hp
  ·simp[Cq]
  ·have hne:(q.var==p.var)=false:=by
    rw[cu];intro e;exact hn.1 (by rw[e];exact cA.2 ⟨p,hp,rfl⟩)
   rw[Cq,hne,aS];exact L8 (show Qz N from hn.2) hp
theorem K6:∀ {N:aM} {t:Bytes},(∀p∈N,p.var≠t)->Cq N t=t
 | [],t,_=>rfl
 |q::N,t,h=>by
  have hne:(q.var==t)=false:=by rw[cu];exact h q (by simp)
  rw[Cq,hne,aS];exact K6 fun p hp=>h p (by simp[hp])
theorem VZ.nil:VZ []:=fun i p h=>by simp at h
theorem Qz.nil:Qz []:=by simp[Qz]
theorem Py(ts:aG):(ts.foldl lM []).length<=ts.length:=by simpa using yF ts []
theorem PC{N:aM}(h:VZ N){p:aQ}(hp:p∈N):∃i,i<N.length/\N[i]?=some p/\p.value=Zz i/\fK p.var=true:=by
 obtain⟨i,hi⟩:=eL hp;exact⟨i,(aF.1 hi).1,hi,h i p hi⟩
theorem QU{ts:aG}{t:Bytes}(ht:fK t=false):Cq (ts.foldl lM []) t=t:=
 K6 fun p hp e=>by
  obtain⟨i,_,_,_,hv⟩:=PC (JE ts VZ.nil) hp;rw[e,ht]at hv;cases hv
theorem TT:∀i,i<6->(Zz i).length<=16:=by
 intro i hi;rw[L7 i hi];simp
theorem a3O{ts:aG}(hl:ts.length<=5){t:Bytes}(ht:t.length<=16):(Cq (ts.foldl lM []) t).length<=16:=by
 by_cases h:∃p∈ts.foldl lM [],p.var=t
 ·obtain⟨p,hp,he⟩:=h;rw[<-he,L8 (Be ts Qz.nil) hp];obtain⟨i,hi,_,hpv,_⟩:=PC (JE ts VZ.nil) hp;have:=Py ts;rw[hpv];exact TT i (by omega)
 ·rw[K6 (fun p hp e=>h ⟨p,hp,e⟩)];exact ht
end Go.Cx
namespace Go.Cx
open Go.RowKit Go.Proofs Tryz
def Kj(c:aN):aG:=bif decide (c.kind=1)then jE c.pat.args else []
theorem Vh{c:aN}:(Kj c).length<=c.wt:=by
 unfold Kj;have h2:=vS c.pat.args;have h3:=aE.fB (aN.gE (bO c.wt));cases decide (c.kind=1)<;>simp;omega
def zG(r:aI)(n:Int):aG:=(r.conds.take n.toNat).flatMap Kj
theorem Nh{α:Type}(x:α)(xs:List α)(n:Int)(i:Nat):(x::xs).take (n-(i:Int)).toNat=if(i:Int)<n then x::xs.take (n-((i+1:Nat):Int)).toNat else []:=by
 by_cases h:(i:Int)<n
 ·rw[bL h];obtain⟨m,hm⟩:∃m,(n-(i:Int)).toNat=m+1:=⟨(n-(i:Int)).toNat -1,by omega⟩
  have:(n-((i+1:Nat):Int)).toNat=m:=by omega
  rw[hm,this];rfl
 ·rw[b8 h,show(n-(i:Int)).toNat=0 from by omega];rfl
theorem EY{α β:Type}{f:α->List β}{w:α->Nat}(l:List α)(h:∀x∈l,(f x).length<=w x+2):(l.flatMap f).length<=3*qm w l:=by
 induction l with
 |nil=>simp[qm]
 |cons x l ih=>
  rw[cm,ar,nU];have h1:=h x (by simp);have h2:=ih (fun y hy=>h y (by simp[hy]));omega
theorem Vi{r:aI}{n:Nat}(h:r.wt<=n)(m:Int):(zG r m).length<=3*n:=by
 unfold zG;have h1:=EY (w:=aN.wt) (f:=Kj) (r.conds.take m.toNat) (fun c _=>by have:= @Vh c;omega);have h2:qm aN.wt (r.conds.take m.toNat)<=qm aN.wt r.conds:=by
  conv=>rhs;rw[<-cJ m.toNat r.conds]
  rw[Mh];omega
 have h3:=aI.sA h;omega
theorem Xc(a:aI)(n:Int)(i:Nat)(y:aG)(k:aG->Option aG):∀(l:aG) (j:Nat) (w:aG),w.length+l.length<=1099511627770->jL a n i y k l j w=k (l.foldl yK w):=by
 intro l
 induction l with
 |nil=>intro j w _;rfl
 |cons x l ih=>
  intro j w hw;simp only[aT]at hw;have:=zm w x;rw[jL,SH w x (by omega),aA,ih _ _ (by omega)];rfl
theorem a09(a:aI)(n:Int)(k:aG->Option aG):∀(l:ah) (i:Nat) (acc:aG),(∀c∈l,c.wt<=1048576)->acc.length+qm aN.wt l<=2097152->
 fZ a n k l i (eV acc)=k (eV (acc++(l.take (n-(i:Int)).toNat).flatMap Kj)):=by
 intro l
 induction l with
 |nil=>intro i acc _ _;simp[fZ]
 |cons c l ih=>
  intro i acc hc hb;rw[nU]at hb;have We:=hc c (by simp);have hv:=vS c.pat.args;have ha:=aE.fB (aN.gE (bO c.wt));have hu:=pS (jE c.pat.args);have Yf:=pS acc;rw[fZ,Nh];by_cases hi:(i:Int)<n
  ·have e1:decide (((i:Int):Int)<n)=true:=by simp[hi]
   rw[e1,aH,bL hi];by_cases hk:c.kind=1
   ·have e2:((c.kind:Int)==1)=true:=by simp[hk]
    rw[e2,aH,J9 _ (aN.gE We),aA,sO (by omega),aH,Xc _ _ _ _ _ _ _ _ (by omega),Ey,ih _ _ (fun x hx=>hc x (by simp[hx])) (by simp;omega)];simp[Kj,hk]
   ·have e2:((c.kind:Int)==1)=false:=by simp[hk]
    rw[e2,aS,ih _ _ (fun x hx=>hc x (by simp[hx])) (by omega)];simp[Kj,hk]
  ·have e1:decide (((i:Int):Int)<n)=false:=by simp[hi]
   rw[e1,aS,b8 hi];simp
theorem SD(r:aI)(n:Int)(h:r.wt<=1048576):kI r n=some (eV (zG r n)):=by
 unfold kI;have:=a09 r n (fun q=>some q) r.conds 0 [] (fun c hc=>aI.pE h hc) (by have:=aI.sA h;simp;omega);rw[show eV []=[]from rfl]at this;rw[this];simp[zG]
theorem ZZ(a:aI)(n:Int)(k:aG->Option aG):∀(l:ah) (i:Nat) (w:aG),(∀c∈l,c.wt<=1048576)->w.length+qm aN.wt l<=2097152->
 fA a n k l i w=k (w++(l.take (n-(i:Int)).toNat).flatMap Kj):=by
 intro l
 induction l with
 |nil=>intro i w _ _;simp[fA]
 |cons c l ih=>
  intro i w hc hb;rw[nU]at hb;have We:=hc c (by simp);have hv:=vS c.pat.args;have ha:=aE.fB (aN.gE (bO c.wt));rw[fA,Nh];by_cases hi:(i:Int)<n
  ·have e1:decide (((i:Int):Int)<n)=true:=by simp[hi]
   rw[e1,aH,bL hi];by_cases hk:c.kind=1
   ·have e2:((c.kind:Int)==1)=true:=by simp[hk]
    rw[e2,aH,Wu _ (by omega) (fun x hx=>aE.sj (aN.gE We) hx),aA,Qi (by omega) (by decide),aH,ih _ _ (fun x hx=>hc x (by simp[hx])) (by simp;omega)];simp[Kj,hk]
   ·have e2:((c.kind:Int)==1)=false:=by simp[hk]
    rw[e2,aS,ih _ _ (fun x hx=>hc x (by simp[hx])) (by omega)];simp[Kj,hk]
  ·have e1:decide (((i:Int):Int)<n)=false:=by simp[hi]
   rw[e1,aS,b8 hi,ih _ _ (fun x hx=>hc x (by simp[hx])) (by omega),show(n-((i+1:Nat):Int)).toNat=0 from by omega];simp
theorem Wi(r:aI)(n:Int)(h:r.wt<=1048576):oW r n=some (eV (zG r n)):=by
 unfold oW;have hl:=Vi h n;rw[ZZ r n _ r.conds 0 [] (fun c hc=>aI.pE h hc) (by have:=aI.sA h;simp;omega)];have e:([]:aG)++(r.conds.take (n-((0:Nat):Int)).toNat).flatMap Kj=zG r n:=by simp[zG]
 rw[e,OS _ (by omega)];rfl
def yB(l:ah):aG:=l.flatMap pZ
def Z1(l:dw):aG:=l.flatMap fun a=>jE a.pat.args
def a3R(r:aI):aG:=yB r.conds++Z1 r.cM
theorem Vl(l:ah):(yB l).length<=3*qm aN.wt l:=EY l (fun c _=>wm (bO _))
theorem Xv(a:aI)(i:Nat)(y:aG)(k:aG->Option aG):∀(l:aG) (j:Nat) (w:aG),w.length+l.length<=1099511627770->jx a i y k l j w=k (l.foldl yK w):=by
 intro l
 induction l with
 |nil=>intro j w _;rfl
 |cons x l ih=>
  intro j w hw;simp only[aT]at hw;have:=zm w x;rw[jx,SH w x (by omega),aA,ih _ _ (by omega)];rfl
theorem Xx(a:aI)(i:Nat)(y:aG)(k:aG->Option aG):∀(l:aG) (j:Nat) (w:aG),w.length+l.length<=1099511627770->jy a i y k l j w=k (l.foldl yK w):=by
 intro l
 induction l with
 |nil=>intro j w _;rfl
 |cons x l ih=>
  intro j w hw;simp only[aT]at hw;have:=zm w x;rw[jy,SH w x (by omega),aA,ih _ _ (by omega)];rfl
theorem Xu(a:aI)(k:aG->Option aG):∀(l:ah) (i:Nat) (acc:aG),(∀c∈l,c.wt<=1048576)->acc.length+3*qm aN.wt l<=16777216->
 iU a k l i (eV acc)=k (eV (acc++yB l)):=by
 intro l
 induction l with
 |nil=>intro i acc _ _;simp[iU,yB]
 |cons c l ih=>
  intro i acc hc hb;rw[nU]at hb;have We:=hc c (by simp);have h1:=wm (bO c.wt);have hu:=pS (pZ c);have Yf:=pS acc;rw[iU,SE c We,aA,sO (by omega),aH,Xv _ _ _ _ _ _ _ (by omega),Ey,ih _ _ (fun x hx=>hc x (by simp[hx])) (by simp;omega)];simp[yB]
theorem Xw(a:aI)(k:aG->Option aG):∀(l:dw) (i:Nat) (acc:aG),(∀c∈l,c.wt<=1048576)->acc.length+3*qm Action.wt l<=16777216->
 ga a k l i (eV acc)=k (eV (acc++Z1 l)):=by
 intro l
 induction l with
 |nil=>intro i acc _ _;simp[ga,Z1]
 |cons c l ih=>
  intro i acc hc hb;rw[nU]at hb;have We:=hc c (by simp);have h1:=vS c.pat.args;have h2:=aE.fB (Action.gE (bO c.wt));have hu:=pS (jE c.pat.args);have Yf:=pS acc;rw[ga,J9 _ (Action.gE We),aA,sO (by omega),aH,Xx _ _ _ _ _ _ _ (by omega),Ey,ih _ _ (fun x hx=>hc x (by simp[hx])) (by simp;omega)];simp[Z1]
theorem a3j(r:aI)(h:r.wt<=1048576):sI r=some (eV (a3R r)):=by
 unfold sI;have h3:=aI.sA h;have h4:=aI.Hp h;have hl:=Vl r.conds;have:=Xu r (fun q=>ga r (fun q=>some q) r.cM 0 q) r.conds 0 [] (fun c hc=>aI.pE h hc) (by simp;omega);rw[show eV []=[]from rfl]at this;rw[this];simp only[dM];rw[Xw r _ r.cM 0 _ (fun c hc=>aI.O5 h hc) (by omega)];rfl
theorem a5R(l:ah)(hc:∀c∈l,c.wt<=1048576)(hb:qm aN.wt l<=1048576):py l=some (l.flatMap fun c=>eV (pZ c)):=by
 unfold py;have:∀(r:ah) (i:Nat) (w:aG),(∀c∈r,c.wt<=1048576)->w.length+3*qm aN.wt r<=16777216->gO l (fun q=>some q) r i w=some (w++r.flatMap fun c=>eV (pZ c)):=by
  intro r
  induction r with
  |nil=>intro i w _ _;simp[gO]
  |cons c r ih=>
   intro i w hc hb;rw[nU]at hb;have h1:=wm (bO c.wt);have hu:=pS (pZ c);rw[gO,Rq c (hc c (by simp)),aA,Qi (by omega) (by decide),aH,ih _ _ (fun x hx=>hc x (by simp[hx])) (by simp;omega)];simp
 exact this l 0 [] hc (by simp;omega)
theorem Vk(l:ah):(l.flatMap fun c=>eV (pZ c)).length<=3*qm aN.wt l:=EY l (fun c _=>by
 have h1:=wm (bO c.wt);have hu:=pS (pZ c);omega)
theorem a7S(l:ah)(b:aG):eV ((l.flatMap fun c=>eV (pZ c))++b)=eV (yB l++b):=Ex (fun x=>by simp[yB,om])
def U6(v:Bytes)(k:Int):ah->Nat->Bool
 | [],_=>false
 |c::cs,i=>(decide (((i:Nat):Int)≠k)&&(pZ c).contains v)||U6 v k cs (i+1)
def Pq(r:aI)(k:Int)(v:Bytes):Bool:=U6 v k r.conds 0||r.cM.any fun a=>(jE a.pat.args).contains v
theorem Mt{l:aG}{v:Bytes}(h:fK v=true):l.contains v=(jE l).contains v:=by
 rw[bn];simp[jE,h]
theorem a6E(r:aI)(k:Int)(v:Bytes)(h:r.wt<=1048576):n7 r k v=some (Pq r k v):=by
 unfold n7 Pq;have k2:∀(l:dw) (i:Nat),(∀c∈l,c.wt<=1048576)->iC r v (some false) l i=some (l.any fun a=>(jE a.pat.args).contains v):=by
  intro l
  induction l with
  |nil=>intro i _;rfl
  |cons a l ih=>
   intro i hc;rw[iC,J9 _ (Action.gE (hc a (by simp))),aA,Ul,aA,nK,ih _ (fun x hx=>hc x (by simp[hx])),AU];cases(jE a.pat.args).contains v<;>rfl
 have k1:∀(l:ah) (i:Nat),(∀c∈l,c.wt<=1048576)->fW r k v (some (r.cM.any fun a=>(jE a.pat.args).contains v)) l i=some (U6 v k l i||r.cM.any fun a=>(jE a.pat.args).contains v):=by
  intro l
  induction l with
  |nil=>intro i _;rfl
  |cons c l ih=>
   intro i hc;rw[fW,SE _ (hc c (by simp)),aA,Ul,aA,nK,ih _ (fun x hx=>hc x (by simp[hx]))];simp only[U6,bne,jf];by_cases hi:((i:Nat):Int)=k
   ·simp[hi]
   ·cases(pZ c).contains v<;>simp[hi]
 rw[k2 _ _ (fun c hc=>aI.O5 h hc),k1 _ _ (fun c hc=>aI.pE h hc)]
theorem a8j(r:aI)(k:Int)(v:Bytes)(hv:fK v=true)(h:r.wt<=1048576):lC r k v=some (Pq r k v):=by
 unfold lC Pq;have k2:∀(l:dw) (i:Nat),fE r v (some false) l i=some (l.any fun a=>(jE a.pat.args).contains v):=by
  intro l
  induction l with
  |nil=>intro i;rfl
  |cons a l ih=>
   intro i;rw[fE,Za,aA,Mt hv,ih,AU];cases(jE a.pat.args).contains v<;>rfl
 have k1:∀(l:ah) (i:Nat),(∀c∈l,c.wt<=1048576)->eC r k v (some (r.cM.any fun a=>(jE a.pat.args).contains v)) l i=some (U6 v k l i||r.cM.any fun a=>(jE a.pat.args).contains v):=by
  intro l
  induction l with
  |nil=>intro i _;rfl
  |cons c l ih=>
   intro i hc;rw[eC,Rq _ (hc c (by simp)),aA,Za,aA,nK,ih _ (fun x hx=>hc x (by simp[hx]))];simp only[U6,bne,jf];by_cases hi:((i:Nat):Int)=k
   ·simp[hi]
   ·cases(pZ c).contains v<;>simp[hi]
 rw[k2,k1 _ _ (fun c hc=>aI.pE h hc)]
def Kp(r:aI)(i:Nat)(c:aN)(v:Bytes):Bool:=decide (c.kind=1)||(zG r i).contains v||(decide (c.kind=2)&& !Pq r i v)
def rX(r:aI):ah->Nat->Bool
 | [],_=>true
 |c::cs,i=>(nJ c&&(!decide (i=0)||decide (c.kind=1))&&(eV (pZ c)).all (Kp r i c))&&rX r cs (i+1)
def LN(r:aI):Bool:=r.cM.all fun a=>LM a&&(jE a.pat.args).all fun v=>(zG r r.conds.length).contains v
def eU(r:aI):Bool:=wE r.name&&(decide (0<=r.prio)&&decide (r.prio<=9))&&(decide (1<=(r.conds.length:Int))&&decide ((r.conds.length:Int)<=4))&&(decide (1<=(r.cM.length:Int))&&decide ((r.cM.length:Int)<=2))&&
 (rX r r.conds 0&&(LN r&&decide (((eV (yB r.conds)).length:Int)<=6)))
theorem NF(l:aG)(p:Bytes->Bool):(eV l).all p=l.all p:=by
 rw[bn];simp[ai,om]
theorem Z7(r:aI)(n:Int){v:Bytes}(h:v∈zG r n):v∈yB r.conds:=by
 unfold zG at h;obtain⟨c,hc,hv⟩:=bg.1 h;refine bg.2 ⟨c,bz hc,?_⟩;unfold Kj at hv;cases hk:decide (c.kind=1)with
 |false=>rw[hk]at hv;cases hv
 |true=>
  rw[hk]at hv;simp only[aH]at hv;unfold pZ;rw[No];exact aU.2 (.inl hv)
theorem R7{r:aI}(h:LN r=true):eV (a3R r)=eV (yB r.conds):=by
 refine Ex (fun x=>?_);unfold a3R;simp only[aU];constructor
 ·rintro(hx|hx)
  ·exact hx
  ·obtain⟨a,ha,hv⟩:=bg.1 hx;unfold LN at h;have:=ai.1 h a ha;simp only[aR,ai]at this;have:=this.2 x hv;exact Z7 r _ (by simpa using this)
 ·exact .inl
theorem a0K(r:aI)(y:aG)(i:Nat)(c:aN)(l:aG)(k:Option Bool)(hc:c.wt<=1048576)(hr:r.wt<=1048576)(hcb:nJ c=true):∀(rest:aG) (j:Nat),fo r y i c (eV (zG r i)) l k rest j=bif rest.all (Kp r i c)then k else some false:=by
 have hk:=Gf hcb;intro rest
 induction rest with
 |nil=>intro j;rfl
 |cons v rest ih=>
  intro j;rw[fo,Ul,aA,nK,Y2 c hc,aA,a6E r _ v hr,aA,ih,dD];unfold Gc Kp;rw[hcb];by_cases h1:c.kind=1
  ·simp[h1]
  by_cases h2:c.kind=2
  ·cases(zG r i).contains v<;>cases Pq r i v<;>simp[h2]
  have h3:c.kind>=3:=by omega
  cases(zG r i).contains v<;>simp[h1,h2,h3]
theorem a0L(r:aI)(y:aG)(i:Nat)(c:aN)(l:aG)(k:Option Bool)(hc:c.wt<=1048576)(hr:r.wt<=1048576)(hcb:nJ c=true):∀(rest:aG) (j:Nat),fp r y i c (eV (zG r i)) l k rest j=bif rest.all (Kp r i c)then k else some false:=by
 have hk:=Gf hcb;intro rest
 induction rest with
 |nil=>intro j;rfl
 |cons v rest ih=>
  intro j;rw[fp,Ul,aA,nK,Y2 c hc,aA,a6E r _ v hr,aA,ih,dD];unfold Gc Kp;rw[hcb];by_cases h1:c.kind=1
  ·simp[h1]
  by_cases h2:c.kind=2
  ·cases(zG r i).contains v<;>cases Pq r i v<;>simp[h2]
  have h3:c.kind>=3:=by omega
  cases(zG r i).contains v<;>simp[h1,h2,h3]
theorem a0J(r:aI)(y:aG)(k:Option Bool)(hr:r.wt<=1048576):∀(rest:ah) (i:Nat),(∀c∈rest,c.wt<=1048576)->kK r y k rest i=bif rX r rest i then k else some false:=by
 intro rest
 induction rest with
 |nil=>intro i _;rfl
 |cons c rest ih=>
  intro i h;have hc:=h c (by simp);have hl:=wm hc;have hu:=pS (pZ c);rw[kK,Xd c hc,aA,rX];cases hcb:nJ c with
  |false=>rfl
  |true=>
   rw[SD r _ hr,SE c hc,ih _ (fun x hx=>h x (by simp[hx]))];simp only[aA,sO (show(eV (pZ c)).length<=1099511627776 by omega),aH];rw[a0K r y i c _ _ hc hr hcb,a0L r y i c _ _ hc hr hcb];simp only[bne,jf];have e0:decide (((i:Int):Int)=0)=decide (i=0):=by rw[bn];simp
   rw[e0];cases decide (i=0)<;>cases decide (c.kind=1)<;>cases(eV (pZ c)).all (Kp r i c)<;>simp
theorem a0N(r:aI)(y:aG)(i:Nat)(l:aG)(k:Option Bool):∀(rest:aG) (j:Nat),mi r y i l k rest j=bif rest.all (fun v=>y.contains v)then k else some false:=
 fun rest j=>Tz (f:=fun v=>fw y v) (L:=mi r y i l k) (fun _=>rfl) (fun _ _ _=>rfl) rest j (fun v _=>Ul y v)
theorem a0M(r:aI)(b:aG)(k:Option Bool):∀(rest:dw) (i:Nat),(∀a∈rest,a.wt<=1048576)->mh r (eV b) k rest i=bif rest.all (fun a=>LM a&&(jE a.pat.args).all fun v=>b.contains v)then k else some false:=by
 intro rest
 induction rest with
 |nil=>intro i _;rfl
 |cons a rest ih=>
  intro i h;have ha:=h a (by simp);have h1:=vS a.pat.args;have h2:=aE.fB (Action.gE ha);have hu:=pS (jE a.pat.args);rw[mh,a8y a ha,aA,J9 _ (Action.gE ha),aA,sO (by omega),ih _ (fun x hx=>h x (by simp[hx])),a0N,dD,NF];have e:((jE a.pat.args).all fun v=>(eV b).contains v)=(jE a.pat.args).all fun v=>b.contains v:=by
   congr 1;funext v;exact nK b v
  rw[e];cases LM a<;>cases(jE a.pat.args).all (fun v=>b.contains v)<;>simp
theorem Xt(r:aI)(h:r.wt<=1048576):kn r=some (eU r):=by
 unfold kn;simp only[Xo _ (aI.TS h),aA,GW,au];rw[SD r _ h];simp only[aA];rw[a0J r _ _ h _ _ (fun c hc=>aI.pE h hc),a0M r _ _ _ _ (fun a ha=>aI.O5 h ha),a3j r h];simp only[aA,au];have hab:(r.cM.all fun a=>LM a&&(jE a.pat.args).all fun v=>(zG r r.conds.length).contains v)=LN r:=rfl;rw[hab];unfold eU;have g1:decide (r.prio>=0)=decide (0<=r.prio):=rfl;have g2:decide ((r.conds.length:Int)>=1)=decide (1<=(r.conds.length:Int)):=rfl;have g3:decide ((r.cM.length:Int)>=1)=decide (1<=(r.cM.length:Int)):=rfl;rw[g1,g2,g3];cases ha:LN r with
 |false=>cases wE r.name<;>cases(decide (0<=r.prio)&&decide (r.prio<=9))<;>cases(decide (1<=(r.conds.length:Int))&&decide ((r.conds.length:Int)<=4))<;>cases(decide (1<=(r.cM.length:Int))&&decide ((r.cM.length:Int)<=2))<;>cases rX r r.conds 0<;>rfl
 |true=>
  rw[R7 ha];cases wE r.name<;>cases(decide (0<=r.prio)&&decide (r.prio<=9))<;>cases(decide (1<=(r.conds.length:Int))&&decide ((r.conds.length:Int)<=4))<;>cases(decide (1<=(r.cM.length:Int))&&decide ((r.cM.length:Int)<=2))<;>cases rX r r.conds 0<;>simp
theorem a2r(r:aI)(i:Nat)(c:aN)(l:aG)(k:Option Bool)(hr:r.wt<=1048576)(hcb:nJ c=true):∀(rest:aG) (j:Nat),(∀v∈rest,fK v=true)->gU r (i:Int) c (eV (zG r i)) l k rest j=bif rest.all (Kp r i c)then k else some false:=by
 have hk:=Gf hcb;intro rest
 induction rest with
 |nil=>intro j _;rfl
 |cons v rest ih=>
  intro j hv;rw[gU,Za,aA,nK,a8j r _ v (hv v (by simp)) hr,aA,ih _ (fun x hx=>hv x (by simp[hx])),dD];unfold Kp;simp only[bne,jf];by_cases h1:c.kind=1
  ·simp[h1]
  by_cases h2:c.kind=2
  ·cases(zG r i).contains v<;>cases Pq r i v<;>simp[h2]
  cases(zG r i).contains v<;>simp[h1,h2]
theorem a5X(r:aI)(i:Nat)(c:aN)(hr:r.wt<=1048576)(hi:r.conds[i]?=some c)(hcb:nJ c=true):pL r (i:Int)=some ((eV (pZ c)).all (Kp r i c)):=by
 unfold pL;have hc:=aI.pE hr (aD hi);have hl:=wm hc;have hu:=pS (pZ c);have e:iw r.conds (i:Int)=some c:=by unfold iw;simp[hi]
 rw[e,aA,Wi r _ hr,aA,Rq c hc,aA,sO (by omega),aH,a2r r i c _ _ hr hcb _ _ (fun v hv=>by
  rw[om]at hv;unfold pZ jE at hv;exact(gj.1 hv).2)]
 cases(eV (pZ c)).all (Kp r i c)<;>rfl
theorem Zd(r:aI)(k:Option Bool)(hr:r.wt<=1048576):∀(rest pre:ah),r.conds=pre++rest->j4 r k rest pre.length=bif rX r rest pre.length then k else some false:=by
 intro rest
 induction rest with
 |nil=>intro pre _;rfl
 |cons c rest ih=>
  intro pre h;have hm:c∈r.conds:=by rw[h];simp
  have hc:=aI.pE hr hm;have hi:r.conds[pre.length]?=some c:=by rw[h];simp
  have t:=ih (pre++[c]) (by rw[h];simp);simp only[ar,aT,bW]at t;rw[j4,Wj c hc,aA,rX];cases hcb:nJ c with
  |false=>rfl
  |true=>
   rw[a5X r _ c hr hi hcb,aA,t];simp only[bne,jf];have e0:decide ((((pre.length:Nat):Int):Int)=0)=decide (pre.length=0):=by rw[bn];simp
   rw[e0];cases decide (pre.length=0)<;>cases decide (c.kind=1)<;>cases(eV (pZ c)).all (Kp r pre.length c)<;>simp
theorem Zf(r:aI)(y:aG)(i:Nat)(l:aG)(k:Option Bool):∀(rest:aG) (j:Nat),mU r y i l k rest j=bif rest.all (fun v=>y.contains v)then k else some false:=
 fun rest j=>Tz (f:=fun v=>l9 y v) (L:=mU r y i l k) (fun _=>rfl) (fun _ _ _=>rfl) rest j (fun v _=>Za y v)
theorem Ze(r:aI)(b:aG)(k:Option Bool):∀(rest:dw) (i:Nat),(∀a∈rest,a.wt<=1048576)->mT r (eV b) k rest i=bif rest.all (fun a=>LM a&&(jE a.pat.args).all fun v=>b.contains v)then k else some false:=by
 intro rest
 induction rest with
 |nil=>intro i _;rfl
 |cons a rest ih=>
  intro i h;have ha:=h a (by simp);have h1:=vS a.pat.args;have h2:=aE.fB (Action.gE ha);rw[mT,a8g a ha,aA,Wu _ (by omega) (fun x hx=>aE.sj (Action.gE ha) hx),aA,sO (by omega),ih _ (fun x hx=>h x (by simp[hx])),Zf,dD];have e:((jE a.pat.args).all fun v=>(eV b).contains v)=(jE a.pat.args).all fun v=>b.contains v:=by
   congr 1;funext v;exact nK b v
  rw[e];cases LM a<;>cases(jE a.pat.args).all (fun v=>b.contains v)<;>simp
theorem a5d(r:aI)(h:r.wt<=1048576):uR r=some (eU r):=by
 unfold uR;have hcu:=Vk r.conds;have hcl:=aI.sA h;rw[show j4 r _ r.conds 0=_ from Zd r _ h r.conds [] rfl,Wi r _ h,aA,Ze r _ _ _ _ (fun a ha=>aI.O5 h ha),a5R _ (fun c hc=>aI.pE h hc) hcl,aA,OS _ (by omega),Wn _ (aI.TS h)];have e:=a7S r.conds [];simp only[dA]at e;rw[e];simp only[aA,au,bW];have hab:(r.cM.all fun a=>LM a&&(jE a.pat.args).all fun v=>(zG r r.conds.length).contains v)=LN r:=rfl;rw[hab];unfold eU;have g1:decide (0<=r.prio)= !decide (r.prio<0):=by rw[bn];simp
 have g2:decide (r.prio<=9)= !decide (r.prio>9):=by rw[bn];simp
 have g3:decide (1<=(r.conds.length:Int))= !decide ((r.conds.length:Int)<1):=by rw[bn];simp
 have g4:decide ((r.conds.length:Int)<=4)= !decide ((r.conds.length:Int)>4):=by rw[bn];simp
 have g5:decide (1<=(r.cM.length:Int))= !decide ((r.cM.length:Int)<1):=by rw[bn];simp
 have g6:decide ((r.cM.length:Int)<=2)= !decide ((r.cM.length:Int)>2):=by rw[bn];simp
 rw[g1,g2,g3,g4,g5,g6];cases wE r.name
 ·rfl
 cases decide (r.prio<0)
 case true=>rfl
 cases decide (r.prio>9)
 case true=>rfl
 cases decide ((r.conds.length:Int)<1)
 case true=>rfl
 cases decide ((r.conds.length:Int)>4)
 case true=>rfl
 cases decide ((r.cM.length:Int)<1)
 case true=>rfl
 cases decide ((r.cM.length:Int)>2)
 case true=>rfl
 cases rX r r.conds 0
 ·rfl
 cases LN r
 ·rfl
 simp
def BX(name:Bytes):aq->Nat->Int
 | [],_=> -1
 |r::rs,i=>bif r.name==name then(i:Int)else BX name rs (i+1)
def Ki(all:aq):aq->Nat->Bool
 | [],_=>true
 |r::rs,i=>(eU r&&decide (BX r.name all 0=(i:Int)))&&Ki all rs (i+1)
def rP(l:aq):Bool:=Ki l l 0&&decide ((l.length:Int)<=6)
theorem a6F(l:aq)(n:Bytes):sF l n=some (BX n l 0):=by
 unfold sF;have:∀(r:aq) (i:Nat),jv l n (some (-1)) r i=some (BX n r i):=by
  intro r
  induction r with
  |nil=>intro i;rfl
  |cons x r ih=>intro i;rw[jv,ih,BX];cases x.name==n<;>rfl
 exact this l 0
theorem a5V(l:aq)(n:Bytes):sC l n=some (BX n l 0):=by
 unfold sC;have:∀(r:aq) (i:Nat),jk l n (some (-1)) r i=some (BX n r i):=by
  intro r
  induction r with
  |nil=>intro i;rfl
  |cons x r ih=>intro i;rw[jk,ih,BX];cases x.name==n<;>rfl
 exact this l 0
theorem a3S(l:aq)(h:qm aI.wt l<=1048576):pQ l=some (rP l):=by
 unfold pQ;have:∀(r:aq) (i:Nat) (k:Option Bool),(∀x∈r,x.wt<=1048576)->ju l k r i=bif Ki l r i then k else some false:=by
  intro r
  induction r with
  |nil=>intro i k _;rfl
  |cons x r ih=>
   intro i k hx;rw[ju,Xt x (hx x (by simp)),aA,a6F,aA,ih _ _ (fun y hy=>hx y (by simp[hy])),Ki];simp only[bne,jf];cases eU x<;>cases decide (BX x.name l 0=(i:Int))<;>simp
 rw[this _ _ _ (fun x hx=>by have:=qL (w:=aI.wt) hx;omega),au,rP];cases Ki l l 0<;>rfl
theorem a5O(l:aq)(h:qm aI.wt l<=1048576):pJ l=some (rP l):=by
 unfold pJ;have:∀(r:aq) (i:Nat) (k:Option Bool),(∀x∈r,x.wt<=1048576)->jj l k r i=bif Ki l r i then k else some false:=by
  intro r
  induction r with
  |nil=>intro i k _;rfl
  |cons x r ih=>
   intro i k hx;rw[jj,a5d x (hx x (by simp)),aA,a5V,aA,ih _ _ (fun y hy=>hx y (by simp[hy])),Ki];simp only[bne,jf];cases eU x<;>cases decide (BX x.name l 0=(i:Int))<;>simp
 rw[this _ _ _ (fun x hx=>by have:=qL (w:=aI.wt) hx;omega),au,rP];have g:decide ((l.length:Int)<=6)= !decide ((l.length:Int)>6):=by rw[bn];simp
 rw[g];cases Ki l l 0<;>cases decide ((l.length:Int)>6)<;>rfl
end Go.Cx
namespace Go.Cx
open Go.RowKit Go.Proofs Tryz
theorem MN{α β:Type}[DecidableEq β]{f:α->α->Option Bool}{g:α->β}{a b:List α}{k:Option Bool}{L:List α->Nat->Option Bool}(hl:a.length=b.length)(tu:∀i,L [] i=k)
 (uH:∀x xs i,L (x::xs) i=(iw b (i:Int)).bind fun y=>(f x y).bind fun r=>bif !r then some false else L xs (i+1)) (hf:∀x y,f x y=some (decide (g x=g y))):
 L a 0=bif decide (a.map g=b.map g)then k else some false:=by
 have key:∀(ra rb pa pb:List α),a=pa++ra->b=pb++rb->pa.length=pb.length->L ra pa.length=bif decide (ra.map g=rb.map g)then k else some false:=by
  intro ra
  induction ra with
  |nil=>
   intro rb pa pb h1 h2 h3;rw[tu];have:rb=[]:=by
    have:=congrArg List.length h1;have:=congrArg List.length h2;simp at*;apply cO;omega
   subst this;simp
  |cons x xs ih=>
   intro rb pa pb h1 h2 h3;cases rb with
   |nil=>
    exfalso;have:=congrArg List.length h1;have:=congrArg List.length h2;simp at*;omega
   |cons y ys=>
    have e1:iw b (pa.length:Int)=some y:=by rw[h3];exact vm h2
    rw[uH,e1,aA,hf,aA];have:=ih ys (pa++[x]) (pb++[y]) (by rw[h1];simp) (by rw[h2];simp) (by simp[h3]);simp only[ar,aT,bW]at this;rw[this];by_cases hxy:g x=g y
    ·simp[hxy]
    ·simp[hxy]
 exact key a b [] [] rfl rfl rfl
theorem MB{α β:Type}{g:α->β}{a b:List α}(h:a.length≠b.length):a.map g≠b.map g:=fun e=>h (by have:=congrArg List.length e;simpa using this)
theorem FB{α:Type}{c:α->aL}(a b:List α):((((a.map c).length:Int):Int) != ((b.map c).length:Int))= !decide (a.length=b.length):=by
 rw[bn];simp;omega
theorem map_id'{α:Type}(l:List α):l.map (fun x=>x)=l:=by simp
theorem a2z(a b:aI):pK a b=some (decide (a=b)):=by
 have k2:∀(k:Option Bool),a.cM.length=b.cM.length->iL a b k a.cM 0=bif decide (a.cM=b.cM)then k else some false:=fun k hl=>by
  have:=MN (g:=fun x:Action=>x) (f:=fun x y:Action=>bif x.kind != y.kind then some false else fN x.pat y.pat) (k:=k) (L:=iL a b k) hl (fun _=>rfl) (fun x xs i=>by
   rw[iL];congr 1;funext y;cases(x.kind != y.kind)<;>rfl) (fun x y=>by
   obtain⟨x0,x1⟩:=x;obtain⟨y0,y1⟩:=y;simp only[Lx,bne,jf];by_cases h0:x0=y0<;>by_cases h1:x1=y1<;>simp[h0,h1])
  rw[map_id',map_id']at this;exact this
 have k1:∀(k:Option Bool),a.conds.length=b.conds.length->jm a b k a.conds 0=bif decide (a.conds=b.conds)then k else some false:=fun k hl=>by
  have:=MN (g:=fun x:aN=>x) (f:=jg) (k:=k) (L:=jm a b k) hl (fun _=>rfl) (fun _ _ _=>rfl) OR;rw[map_id',map_id']at this;exact this
 unfold pK;rw[FB,FB];obtain⟨a0,a1,a2,a3⟩:=a;obtain⟨b0,b1,b2,b3⟩:=b;simp only at k1 k2⊢;simp only[bne,jf,Bool.not_not];by_cases h0:a0=b0;rotate_left
 ·simp[h0]
 by_cases h1:a1=b1;rotate_left
 ·simp[h1]
 by_cases h2:a2.length=b2.length;rotate_left
 ·have:a2≠b2:=fun e=>h2 (by rw[e])
  simp[h2,this]
 by_cases h3:a3.length=b3.length;rotate_left
 ·have:a3≠b3:=fun e=>h3 (by rw[e])
  simp[h3,this]
 rw[k1 _ h2,k2 _ h3];by_cases h4:a2=b2<;>by_cases h5:a3=b3<;>simp[h0,h1,h2,h3,h4,h5]
theorem Zg(a b:aq):rE a b=some (decide (a=b)):=by
 unfold rE;exact Yc (c:=aI.c) (f:=pK) (fun k=>lZ a b k) (fun _ _=>rfl) (fun _ _ _ _=>rfl) a2z
theorem QZ(x y:aQ):((x.var:Bytes)==y.var&&(x.value:Bytes)==y.value)=decide (x=y):=by
 obtain⟨x0,x1⟩:=x;obtain⟨y0,y1⟩:=y;simp only[jf];by_cases h0:x0=y0<;>by_cases h1:x1=y1<;>simp[h0,h1]
theorem Xy(a b:aM):iY a b=some (decide (a=b)):=by
 unfold iY;exact Yc (c:=aQ.c) (f:=fun x y=>some (decide (x=y))) (fun k=>gB a b k) (fun _ _=>rfl) (fun k x xs i=>by rw[gB];congr 1;funext y;rw[QZ];rfl) (fun _ _=>rfl)
theorem a2w(a b:aM):oZ a b=some (decide (a=b)):=by
 unfold oZ;exact Yc (c:=aQ.c) (f:=fun x y=>some (decide (x=y))) (fun k=>jI a b k) (fun _ _=>rfl) (fun k x xs i=>by rw[jI];congr 1;funext y;rw[QZ];rfl) (fun _ _=>rfl)
theorem a0O(a b:bB):oD a b=some (decide (a=b)):=by
 unfold oD;exact Yc (c:=aY.c) (f:=fun x y=>(kO x.facts y.facts).bind fun r=>bif !r then some false else iY x.bind y.bind) (fun k=>gi a b k) (fun _ _=>rfl) (fun k x xs i=>by
  rw[gi];congr 1;funext y;rw[L9,aA,aA];cases decide (x.facts=y.facts)<;>rfl) (fun x y=>by
  obtain⟨x0,x1⟩:=x;obtain⟨y0,y1⟩:=y;simp only[L9,Xy,aA];by_cases h0:x0=y0<;>by_cases h1:x1=y1<;>simp[h0,h1])
theorem Zh(a b:bB):ni a b=some (decide (a=b)):=by
 unfold ni;exact Yc (c:=aY.c) (f:=fun x y=>(j5 x.facts y.facts).bind fun r=>bif !r then some false else oZ x.bind y.bind) (fun k=>iN a b k) (fun _ _=>rfl) (fun k x xs i=>by
  rw[iN];congr 1;funext y;rw[L5,aA,aA];cases decide (x.facts=y.facts)<;>rfl) (fun x y=>by
  obtain⟨x0,x1⟩:=x;obtain⟨y0,y1⟩:=y;simp only[L5,a2w,aA];by_cases h0:x0=y0<;>by_cases h1:x1=y1<;>simp[h0,h1])
def Ll(a b:aJ):Bool:=decide (a.bG.map af.shape=b.bG.map af.shape)&&(decide (a.nodes.map (fun x=>(x.parent,x.eS,x.cond))=b.nodes.map (fun x=>(x.parent,x.eS,x.cond)))&&decide (a.ends=b.ends))
def MC(a b:aJ):Bool:=decide (a.rules=b.rules)&&(decide (a.ends=b.ends)&&(decide (a.facts=b.facts)&&(decide (a.bG=b.bG)&&decide (a.nodes=b.nodes))))
theorem a6H(a b:aJ):qG a b=some (Ll a b):=by
 unfold qG Ll;rw[FB,FB,FB];by_cases h1:a.bG.length=b.bG.length;rotate_left
 ·simp[h1,MB h1]
 by_cases h2:a.nodes.length=b.nodes.length;rotate_left
 ·simp[h2,MB h2]
 by_cases h3:a.ends.length=b.ends.length;rotate_left
 ·have:a.ends≠b.ends:=fun e=>h3 (by rw[e])
  simp[h3,this]
 have k1:=fun k=>MN (g:=af.shape) (f:=fun x y:af=>iV x.shape y.shape) (k:=k) (L:=kW a b k) h1 (fun _=>rfl) (fun _ _ _=>rfl) (fun x y=>SI _ _)
 have k2:=fun k=>MN (g:=fun x:Node=>(x.parent,x.eS,x.cond)) (f:=fun x y:Node=>bif x.parent != y.parent then some false else bif x.eS != y.eS then some false else o4 x.cond y.cond) (k:=k) (L:=iZ a b k) h2 (fun _=>rfl) (fun x xs i=>by
  rw[iZ];congr 1;funext y;cases(x.parent != y.parent)<;>cases(x.eS != y.eS)<;>rfl) (fun x y=>by
  simp only[Xz,bne,jf];by_cases q0:x.parent=y.parent<;>by_cases q1:x.eS=y.eS<;>by_cases q2:x.cond=y.cond<;>simp[q0,q1,q2])
 have k3:=fun k=>MN (g:=fun x:Int=>x) (f:=fun x y:Int=>some (decide (x=y))) (k:=k) (L:=ia a b k) h3 (fun _=>rfl) (fun x xs i=>by
  rw[ia];congr 1) (fun x y=>rfl)
 rw[k1,k2,k3,map_id',map_id'];simp only[h1,h2,h3,Dj,bh,aS];cases decide (a.bG.map af.shape=b.bG.map af.shape)<;>cases decide (a.nodes.map (fun x=>(x.parent,x.eS,x.cond))=b.nodes.map (fun x=>(x.parent,x.eS,x.cond)))<;>cases decide (a.ends=b.ends)<;>rfl
theorem a8k(a b:aJ):oC a b=some (MC a b):=by
 unfold oC;simp only[Zg,a2y,L5,aA,FB];by_cases h1:a.bG.length=b.bG.length;rotate_left
 ·have:a.bG≠b.bG:=fun e=>h1 (by rw[e])
  simp only[h1,MC,this,decide_false,cy,aH,Bool.false_and];cases decide (a.rules=b.rules)<;>cases decide (a.ends=b.ends)<;>cases decide (a.facts=b.facts)<;>rfl
 by_cases h2:a.nodes.length=b.nodes.length;rotate_left
 ·have:a.nodes≠b.nodes:=fun e=>h2 (by rw[e])
  simp only[h1,h2,MC,this,Dj,decide_false,cy,bh,aH,aS,vZ];cases decide (a.rules=b.rules)<;>cases decide (a.ends=b.ends)<;>cases decide (a.facts=b.facts)<;>rfl
 have k1:=fun k=>MN (g:=fun x:af=>x) (f:=fun x y:af=>(fN x.shape y.shape).bind fun r=>bif !r then some false else j5 x.facts y.facts) (k:=k) (L:=gS a b k) h1 (fun _=>rfl) (fun x xs i=>by
  rw[gS];congr 1;funext y;rw[Lx,aA,aA];cases decide (x.shape=y.shape)<;>rfl) (fun x y=>by
  obtain⟨x0,x1⟩:=x;obtain⟨y0,y1⟩:=y;simp only[Lx,L5,aA];by_cases q0:x0=y0<;>by_cases q1:x1=y1<;>simp[q0,q1])
 have k2:=fun k=>MN (g:=fun x:Node=>x) (f:=fun x y:Node=>bif x.parent != y.parent then some false else bif x.eS != y.eS then some false else(jg x.cond y.cond).bind fun r=>bif !r then some false else ni x.tokens y.tokens) (k:=k) (L:=gT a b k) h2 (fun _=>rfl) (fun x xs i=>by
  rw[gT];congr 1;funext y;rw[OR,aA,aA];cases(x.parent != y.parent)<;>cases(x.eS != y.eS)<;>cases decide (x.cond=y.cond)<;>rfl) (fun x y=>by
  obtain⟨x0,x1,x2,x3⟩:=x;obtain⟨y0,y1,y2,y3⟩:=y;simp only[OR,Zh,aA,bne,jf];by_cases q0:x0=y0<;>by_cases q1:x1=y1<;>by_cases q2:x2=y2<;>by_cases q3:x3=y3<;>simp[q0,q1,q2,q3])
 rw[k1,k2,map_id',map_id',map_id',map_id',MC];simp only[h1,h2,Dj,bh,aS];cases decide (a.rules=b.rules)<;>cases decide (a.ends=b.ends)<;>cases decide (a.facts=b.facts)<;>cases decide (a.bG=b.bG)<;>cases decide (a.nodes=b.nodes)<;>rfl
end Go.Cx
namespace Go.Cx
open Go.RowKit Go.Proofs Tryz
def wL(s:Bytes):Option Nat:=if 1<=s.length/\s.length<=4 then(match Lib.decFrom 0 s with|some n=>if Lib.decDigits n=s then some n else none|none=>none)else none
def pI(s:Bytes):Int×Bool:=match wL s with|some n=>((n:Int),true)|none=>(0,false)
theorem Vn:∀(u:Nat),∀b∈Lib.decDigits u,48<=b.toNat/\b.toNat<=57:=by
 intro u
 induction u using Nat.strongRecOn with
 |_ u ih=>
  have hb:∀v:Nat,v<10->48<=(UInt8.ofNat (48+v)).toNat/\(UInt8.ofNat (48+v)).toNat<=57:=by
   intro v hv;have:(UInt8.ofNat (48+v)).toNat=48+v:=by simp;omega
   omega
  intro b hm;rw[Lib.decDigits]at hm;split at hm
  ·rename_i h10;simp only[cI]at hm;subst hm;exact hb u h10
  ·rename_i h10;rcases aU.1 hm with hm|hm
   ·exact ih (u/10) (by omega) b hm
   ·simp only[cI]at hm;subst hm;exact hb (u%10) (by omega)
theorem a0G(a:Bytes)(k:Int->Option (Int×Bool))(ha:a.length<=4):∀(rest pre:Bytes) (acc:Nat),a=pre++rest->acc<10^pre.length->∀n,rest.length<n->
 iQ a k n (acc:Int) (pre.length:Int)=(match Lib.decFrom acc rest with|some m=>k (m:Int)|none=>some (0,false)):=by
 intro rest
 induction rest with
 |nil=>
  intro pre acc h _ n hn;obtain⟨m,rfl⟩:∃m,n=m+1:=⟨n-1,by simp at hn;omega⟩
  have e1:decide ((pre.length:Int)<(a.length:Int))=false:=by simp[h]
  rw[iQ,e1];rfl
 |cons x xs ih=>
  intro pre acc h hacc n hn;obtain⟨m,rfl⟩:∃m,n=m+1:=⟨n-1,by simp at hn;omega⟩
  have hl:a.length=pre.length+(xs.length+1):=by rw[h];simp
  have e1:decide ((pre.length:Int)<(a.length:Int))=true:=by rw[hl];simp;omega
  have e4:IntKind.i64.wrap ((pre.length:Int)+1)=((pre++[x]).length:Int):=by rw[Nq (by omega)];simp
  have h10:acc<10000:=cq hacc (tI (by omega) (show pre.length<=4 by omega));have hx:=x.toNat_lt;rw[iQ,e1,aH,vm h,aA,e4];by_cases c1:(x.toNat:Int)<48
  ·have:Lib.digitVal x=none:=by unfold Lib.digitVal;rw[b8 (by omega)]
   simp only[Lib.decFrom,this];rw[bD c1,aH]
  ·by_cases c2:(x.toNat:Int)>57
   ·have:Lib.digitVal x=none:=by unfold Lib.digitVal;rw[b8 (by omega)]
    simp only[Lib.decFrom,this];rw[bM c1,aS,bD c2,aH]
   ·have hd:Lib.digitVal x=some (x.toNat-48):=by unfold Lib.digitVal;rw[bL (by omega)]
    have e5:IntKind.i64.wrap ((IntKind.i64.wrap (10*(acc:Int)))+(IntKind.i64.wrap (IntKind.u8.wrap ((x.toNat:Int)-48))))=((acc*10+(x.toNat-48):Nat):Int):=by
     rw[di (k:=.u8) (pF.u8.2 (by omega)),di (n:=(10:Int)*(acc:Int)) (pF.i64.2 (by omega)),di (n:=(x.toNat:Int)-48) (pF.i64.2 (by omega)),di (pF.i64.2 (by omega))];omega
    simp only[Lib.decFrom,hd];rw[bM c1,aS,bM c2,aS,e5];refine ih (pre++[x]) _ (by simp[h]) ?_ m (by simp at hn;omega);rw[ar,dS,vf];omega
theorem Ow(s:Bytes):mC s=some (pI s):=by
 unfold mC;rw[GW,aA];by_cases hl:1<=s.length/\s.length<=4
 ·have e1:(decide ((s.length:Int)>=1)&&decide ((s.length:Int)<=4))=true:=by simp;omega
  have t:=a0G s (fun z=>((j8 z).bind fun F3=>(bif !((F3:Bytes)==s)then(some (0,false))else(some (z,true))))) hl.2 s [] 0 rfl (by simp) fuel (by unfold fuel;omega);rw[e1,bh,aS];refine t.trans ?_;unfold pI wL;rw[bL hl];cases hd:Lib.decFrom 0 s with
  |none=>rfl
  |some m=>
   have hm:=Lib.decFrom_lt s 0 m hd;have h10:m<10000:=by
    have:=tI (n:=10) (by omega) hl.2;omega
   simp only;rw[a0E _ (pF.i64.2 (by omega)),aA];have e2:Lib.itoa (m:Int)=Lib.decDigits m:=by unfold Lib.itoa;rw[b8 (by omega)];simp
   rw[e2];by_cases he:Lib.decDigits m=s
   ·rw[bL he,he];simp
   ·rw[b8 he];have:(Lib.decDigits m==s)=false:=by simpa using he
    rw[this];rfl
 ·have e1:(decide ((s.length:Int)>=1)&&decide ((s.length:Int)<=4))=false:=by
   rw[Ct,qp,qp];omega
  rw[e1];unfold pI wL;rw[b8 hl];rfl
theorem OQ(s:Bytes):lz s=some (pI s):=by
 unfold lz pI wL;by_cases hl:1<=s.length/\s.length<=4
 ·have e1:decide ((s.length:Int)<1)=false:=by simp;omega
  have e2:decide ((s.length:Int)>4)=false:=by simp;omega
  rw[bL hl,e1,aS,e2,aS];unfold zg OU;rw[bL (by omega)];cases s with
  |nil=>simp at hl
  |cons b t=>
   have fin:∀(m:Nat),Lib.decFrom 0 (b::t)=some m->(bif decide ((m:Int)<0)then some ((0:Int),false)else bif decide ((m:Int)>9999)then some (0,false)else(kA (m:Int)).bind fun y8=>bif !((y8:Bytes)==(b::t))then some (0,false)else some ((m:Int),true))=
    some (match(if Lib.decDigits m=b::t then some m else none)with|some n=>((n:Int),true)|none=>(0,false)):=by
    intro m hd;have hm:=Lib.decFrom_lt (b::t) 0 m hd;have h10:m<10000:=by
     have:=tI (n:=10) (by omega) hl.2;omega
    have e3:decide ((m:Int)<0)=false:=by simp
    have e4:decide ((m:Int)>9999)=false:=by simp;omega
    have e5:Lib.itoa (m:Int)=Lib.decDigits m:=by unfold Lib.itoa;rw[b8 (by omega)];simp
    rw[e3,aS,e4,aS,a2s,aA,e5];by_cases he:Lib.decDigits m=b::t
    ·rw[bL he,he];simp
    ·rw[b8 he];have:(Lib.decDigits m==(b::t))=false:=by simpa using he
     rw[this];rfl
   have sign:∀(n:Int),b.toNat<48->(bif decide (n<0)then some ((0:Int),false)else bif decide (n>9999)then some (0,false)else(kA n).bind fun y8=>bif !((y8:Bytes)==(b::t))then some (0,false)else some (n,true))=some (0,false):=by
    intro n hb;by_cases hn:n<0
    ·rw[bD hn];rfl
    rw[bM hn,aS,a2s,aA];cases decide (n>9999)with
    |true=>rfl
    |false=>
     have e5:Lib.itoa n=Lib.decDigits n.toNat:=by unfold Lib.itoa;rw[b8 hn]
     have:(Lib.itoa n==(b::t))=false:=by
      rw[e5,cu];intro h;have:=Vn n.toNat b (by rw[h];simp);omega
     rw[this];rfl
   simp only[Lib.atoi];by_cases hb:b=45
   ·subst hb;have hd:Lib.decFrom 0 ((45:UInt8)::t)=none:=by simp[Lib.decFrom,Lib.digitVal]
    rw[bL (by decide),hd];cases Lib.decNat t with
    |none=>rfl
    |some m=>exact sign _ (by decide)
   ·rw[b8 (by simpa using hb)];by_cases L4:b=43
    ·subst L4;have hd:Lib.decFrom 0 ((43:UInt8)::t)=none:=by simp[Lib.decFrom,Lib.digitVal]
     rw[bL (by decide),hd];cases Lib.decNat t with
     |none=>rfl
     |some m=>exact sign (m:Int) (by decide)
    ·rw[b8 (by simpa using L4)];have hdn:Lib.decNat (b::t)=Lib.decFrom 0 (b::t):=by simp[Lib.decNat]
     rw[hdn];cases hd:Lib.decFrom 0 (b::t)with
     |none=>rfl
     |some m=>exact fin m hd
 ·rw[b8 hl];by_cases h1:(s.length:Int)<1
  ·rw[bD h1];rfl
  ·have h2:(s.length:Int)>4:=by omega
   rw[bM h1,aS,bD h2];rfl
def vT(a b:Bytes):Int:=if Op.bytesLess a b=true then-1 else if a=b then 0 else 1
def FM(x y:Int):Int:=if x<y then-1 else if x>y then 1 else 0
def A9(a b:Bytes):Int:=match wL a,wL b with
 |some x,some y=>FM x y
 |some _,none=> -1
 |none,some _=>1
 |none,none=>vT a b
def tS{α:Type}(g:α->α->Int):List α->List α->Option Int
 |x::xs,y::ys=>if g x y≠0 then some (g x y)else tS g xs ys
 |_,_=>none
def cmpL{α:Type}(g:α->α->Int)(a b:List α):Int:=match tS g a b with|some z=>z|none=>FM a.length b.length
def qf(a b:aE):Int:=if a.rel≠b.rel then vT a.rel b.rel else cmpL A9 a.args b.args
theorem OB{a b:Bytes}(h:a≠b):vT a b≠0:=by
 unfold vT;split
 ·omega
 ·first|omega| (rw[b8 h];omega)
theorem NO(a:Bytes):vT a a=0:=by
 unfold vT;rw[pG];simp
theorem Ss:∀(a b:Bytes),Lib.compareBytes a b=vT a b
 | [],[]=>by simp[Lib.compareBytes,vT,Op.bytesLess]
 | [],_::_=>by simp[Lib.compareBytes,vT,Op.bytesLess]
 |_::_,[]=>by simp[Lib.compareBytes,vT,Op.bytesLess]
 |a::xs,b::ys=>by
  have ih:=Ss xs ys;simp only[Lib.compareBytes,vT,Op.bytesLess];by_cases h1:a<b
  ·simp[h1]
  ·by_cases h2:b<a
   ·have hne:a≠b:=fun e=>by subst e;exact h1 h2
    simp[h1,h2,hne]
   ·have e:a=b:=by
     rw[Cz]at h1 h2;exact UInt8.toNat_inj.1 (by omega)
    subst e;rw[b8 h1,b8 h1,ih];simp[vT,h1]
theorem Sw{α:Type}{f:α->α->Option Int}{g:α->α->Int}{c:α->aL}{L:List α->Nat->Option Int}{k:Option Int}{b:List α}(tu:∀i,L [] i=k)
 (uH:∀x xs i,L (x::xs) i=bif decide (((i:Int):Int)<((b.map c).length:Int))then((iw b (i:Int)).bind fun y=>((f x y).bind fun z=>(bif (z:Int) != 0 then(some z)else(L xs (i+1)))))else k):
 ∀(l pre rest:List α),b=pre++rest->(∀x∈l,∀y∈rest,f x y=some (g x y))->L l pre.length=(match tS g l rest with|some z=>some z|none=>k):=by
 intro l
 induction l with
 |nil=>intro pre rest h _;rw[tu];cases rest<;>rfl
 |cons x xs ih=>
  intro pre rest h hf;rw[uH];cases rest with
  |nil=>
   have e1:decide ((pre.length:Int)<((b.map c).length:Int))=false:=by simp[h]
   rw[e1];rfl
  |cons y ys=>
   have e1:decide ((pre.length:Int)<((b.map c).length:Int))=true:=by simp[h];omega
   rw[e1,aH,vm h,aA,hf x (by simp) y (by simp),aA];simp only[tS];have t:=ih (pre++[y]) ys (by simp[h]) (fun x' hx y' hy=>hf x' (by simp[hx]) y' (by simp[hy]));rw[ar,dS]at t;by_cases hz:g x y=0
   ·have e2:(g x y != 0)=false:=by simp[hz]
    rw[e2,aS,t,b8 (by simp[hz])]
   ·have e2:(g x y != 0)=true:=by simp[hz]
    rw[e2,aH,bL hz]
theorem OA(x y:Int):(bif decide (x<y)then some (-1:Int)else bif decide (x>y)then some 1 else some 0)=some (FM x y):=by
 unfold FM;by_cases h1:x<y
 ·simp[h1]
 ·by_cases h2:x>y
  ·simp[h1,h2]
  ·simp[h1,h2]
theorem a1d(a b:Bytes):rz a b=some (vT a b):=by
 unfold rz vT;cases h:Op.bytesLess a b with
 |true=>rfl
 |false=>
  by_cases e:a=b
  ·simp[e]
  ·have e':(a==b)=false:=by simpa using e
   simp[e,e']
theorem a1c(a b:Bytes):jM a b=some (A9 a b):=by
 unfold jM A9;rw[Ow,Ow,aA,aA,a1d];unfold pI;cases wL a with
 |none=>cases wL b<;>rfl
 |some x=>
  cases wL b with
  |none=>rfl
  |some y=>
   simp only[aH,bh,aS];exact OA _ _
theorem a11(x y:Int):mW x y=some (FM x y):=by
 unfold mW;exact OA x y
theorem a10(a b:Bytes):qH a b=some (vT a b):=by
 unfold qH;show some (Lib.compareBytes a b)=_;rw[Ss]
theorem a5P(a b:Bytes):lS a b=some (A9 a b):=by
 unfold lS A9;rw[OQ,OQ,aA,aA,a10];unfold pI;cases wL a with
 |none=>cases wL b<;>rfl
 |some x=>
  cases wL b with
  |none=>rfl
  |some y=>
   simp only[aH,a11,aA]
theorem Te(a b:aE):gz a b=some (qf a b):=by
 unfold gz qf;by_cases h:a.rel=b.rel
 ·have e:(a.rel==b.rel)=true:=by simpa using h
  rw[e,bh,aS,b8 (by simpa using h)];have t:=fun k=>Sw (f:=jM) (g:=A9) (c:=tx) (L:=j6 a b k) (b:=b.args) (k:=k) (fun _=>rfl) (fun _ _ _=>rfl) a.args [] b.args rfl (fun x _ y _=>a1c x y)
  refine(t _).trans ?_;unfold cmpL;cases tS A9 a.args b.args with
  |some z=>rfl
  |none=>simp only[au];exact OA _ _
 ·have e:(a.rel==b.rel)=false:=by simpa using h
  rw[e,cy,aH,bL h,a1d];rfl
theorem a5Q(a b:aE):lT a b=some (qf a b):=by
 unfold lT qf;rw[a10,aA];by_cases h:a.rel=b.rel
 ·have e:(vT a.rel b.rel != 0)=false:=by rw[h,NO];rfl
  rw[e,aS,b8 (by simpa using h)];have t:=fun k=>Sw (f:=lS) (g:=A9) (c:=tx) (L:=iz a b k) (b:=b.args) (k:=k) (fun _=>rfl) (fun _ _ _=>rfl) a.args [] b.args rfl (fun x _ y _=>a5P x y)
  refine(t _).trans ?_;unfold cmpL;cases tS A9 a.args b.args with
  |some z=>rfl
  |none=>simp only[au,a11,aA]
 ·have e:(vT a.rel b.rel != 0)=true:=by simpa using OB h
  rw[e,aH,bL h]
def chainB:Option aE->aP->Bool
 |_,[]=>true
 |p,x::xs=>rO x&&(match p with|some q=>decide (qf q x<0)|none=>true)&&chainB (some x) xs
def mM(l:aP):Bool:=chainB none l&&decide (l.length<=24)
theorem NH{isF:aE->Option Bool}{cmp:aE->aE->Option Int}{a:aP}{L:aP->Nat->Option Bool}{k:Option Bool}(ha:a.length<=1099511627770)(hc:∀x y,cmp x y=some (qf x y))(tu:∀i,L [] i=k)
 (uH:∀x xs i,L (x::xs) i=((isF x).bind fun y=>(bif !(y)then(some false)else(bif decide (((i:Int):Int)>0)then((iw a (IntKind.i64.wrap ((i:Int)-1))).bind fun q=>((cmp q x).bind fun z=>(bif decide ((z:Int)>=0)then(some false)else(L xs (i+1)))))else(L xs (i+1)))))):
 ∀(l pre:aP),a=pre++l->(∀x∈l,isF x=some (rO x))->L l pre.length=bif chainB pre.getLast? l then k else some false:=by
 intro l
 induction l with
 |nil=>intro pre _ _;rw[tu];rfl
 |cons x xs ih=>
  intro pre h hf;have hl:a.length=pre.length+(xs.length+1):=by rw[h];simp
  have t:=ih (pre++[x]) (by simp[h]) (fun y hy=>hf y (by simp[hy]));rw[ar,dS,nH]at t;rw[uH,hf x (by simp),aA,t];simp only[chainB];cases rO x with
  |false=>rfl
  |true=>
   rw[bh,aS,eH];rcases wP pre with rfl|⟨p,z,Ye⟩
   ·simp
   ·rw[wO]at Ye;subst Ye;have e0:decide (((p++[z]).length:Int)>0)=true:=by simp<;>omega
    have e1:IntKind.i64.wrap (((p++[z]).length:Int)-1)=(p.length:Int):=by
     rw[di (pF.i64.2 (by simp at hl⊢;omega))];simp
    have e2:iw a (p.length:Int)=some z:=vm (xs:=x::xs) (by rw[h];simp);rw[e0,aH,e1,e2,aA,hc,aA,nH];by_cases hz:qf z x<0
    ·have e3:decide (qf z x>=0)=false:=by simp;omega
     rw[e3,aS];show _=bif (decide (qf z x<0)&&chainB (some x) xs)then k else some false
     rw[bD hz,eH]
    ·have e3:decide (qf z x>=0)=true:=by simp;omega
     rw[e3,aH];show _=bif (decide (qf z x<0)&&chainB (some x) xs)then k else some false
     rw[bM hz];rfl
theorem a1Z(l:aP)(h:qm aE.wt l<=1048576):pP l=some (mM l):=by
 unfold pP mM;have hl:=tE aE.wt l;have t:=NH (isF:=qU) (cmp:=gz) (a:=l) (L:=jt l (some (decide ((((l.map aE.c).length:Int):Int)<=24)))) (k:=_) (by omega) Te (fun _=>rfl) (fun _ _ _=>rfl) l [] rfl (fun x hx=>a1e x (by have:=qL (w:=aE.wt) hx;omega));refine t.trans ?_;have e:decide (((l.map aE.c).length:Int)<=24)=decide (l.length<=24):=by rw[au];congr 1;rw[wk];omega
 rw[e];show(bif chainB none l then _ else _)=_;cases chainB none l<;>rfl
theorem a0x(l:aP)(h:qm aE.wt l<=1048576):pH l=some (mM l):=by
 unfold pH mM;have hl:=tE aE.wt l;have t:=NH (isF:=qQ) (cmp:=lT) (a:=l) (L:=iJ l (some true)) (k:=_) (by omega) a5Q (fun _=>rfl) (fun _ _ _=>rfl) l [] rfl (fun x hx=>a13 x (by have:=qL (w:=aE.wt) hx;omega));rw[show iJ l (some true) l 0=_ from t];by_cases h24:l.length<=24
 ·have e:decide (((l.map aE.c).length:Int)>24)=false:=by rw[au];simp;omega
  rw[e,aS,bD h24,xG];show(bif chainB none l then _ else _)=_;cases chainB none l<;>rfl
 ·have e:decide (((l.map aE.c).length:Int)>24)=true:=by rw[au];simp;omega
  rw[e,aH,bM h24,vZ]
end Go.Cx
