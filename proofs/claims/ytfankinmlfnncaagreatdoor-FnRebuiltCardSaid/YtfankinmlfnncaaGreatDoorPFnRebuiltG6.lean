/- What functions of the program compute, and the walks that show it. No condition. -/
import Derived.Test.YtfankinmlfnncaaGreatDoorPFnRebuiltG5
import Derived.Test.YtfankinmlfnncaaGreatDoorPFnRebuiltG3
import Derived.Sort.Walk0
import Derived.Lib.ItoaNum
import Derived.Lib.ItoaLen
set_option linter.unusedVariables false
set_option linter.unusedSimpArgs false
namespace Go.Cx
open Go.RowKit Go.Proofs Tryz
set_option maxRecDepth 100000
variable{Γ:uB}{N:Nat->St->Prop}
def eb(aC:aH)(aa:aD)(k1:Option (aH×Int)):bK->Nat->Option (aH×Int)
 | [],i1=>(k1)
 |bU::cQ,i1=>((fQ bU.shape aa).bind fun pW=>(bif pW then(some (aC,(i1:Int)))else(eb aC aa k1 cQ (i1+1))))
def iN(aC:aH)(aa:aD):Option (aH×Int):=(bif decide (aC.au.length<=maxLen)then(eb aC aa (bif room ((aC.au.map aZ.c).length+([[D.str aa.rel,D.sl (aa.args.map tx),D.sl ([])]]).length) 64 then(some ((⟨aC.rules,aC.ends,aC.au++([(⟨aa,[]⟩:aZ)]),aC.nodes,aC.facts,aC.bp⟩:aH),IntKind.i64.wrap ((((aC.au.map aZ.c)++([[D.str aa.rel,D.sl (aa.args.map tx),D.sl ([])]])).length:Int)-1)))else none) aC.au 0)else none)
def zW(iC:Value)(aC:aH)(aa:aD)(dL:Int):St:=⟨[(0,D.ptr 0 0),(3,D.ptr 1 0),(10,D.acc 2),(11,D.int .i64 ((aC.au.map aZ.c).length:Int)),(12,D.int .i64 dL)],[Ob.AA [D.acc 3,D.acc 4,D.acc 2,D.acc 5,D.acc 6,D.int .i64 aC.bp] iC,Ob.box [D.str aa.rel,D.acc 7],Ob.row .uq 83 3 (aC.au.map aZ.c),Ob.row .uq 63 4 (aC.rules.map aK.c),Ob.row .uq 3 1 (aC.ends.map iM),Ob.row .uq 74 8 (aC.nodes.map Node.c),Ob.row .uq 43 2 (aC.facts.map aD.c),Ob.row .uq 9 1 (aa.args.map tx)]⟩
theorem yw(hΓ:Γ.nt=40){iC:Value}{aC:aH}{aa:aD}{r:aH×Int}{k1:Option (aH×Int)}(di:k1=some r->Ax Γ N f217 (.p [[some (63,4),some (3,1),some (83,3),some (74,8),some (43,2),none],[none]] iC (bw r.1) (D.int .i64 r.2)) [1,1] ⟨[(0,D.ptr 0 0),(3,D.ptr 1 0)],[Ob.AA [D.acc 2,D.acc 3,D.acc 4,D.acc 5,D.acc 6,D.int .i64 aC.bp] iC,Ob.box [D.str aa.rel,D.acc 7],Ob.row .uq 63 4 (aC.rules.map aK.c),Ob.row .uq 3 1 (aC.ends.map iM),Ob.row .uq 83 3 (aC.au.map aZ.c),Ob.row .uq 74 8 (aC.nodes.map Node.c),Ob.row .uq 43 2 (aC.facts.map aD.c),Ob.row .uq 9 1 (aa.args.map tx)]⟩)(hm1:aC.au.length<=maxLen):∀(rest:bK) (i1:Nat),aC.au.drop i1=rest->eb aC aa k1 rest i1=some r->Ar Γ N f217 (.p [[some (63,4),some (3,1),some (83,3),some (74,8),some (43,2),none],[none]] iC (bw r.1) (D.int .i64 r.2)) [1,0,1,0] (rest.length+1) (zW iC aC aa (i1:Int)):=by
 intro rest
 induction rest with
 |nil=>
  intro i1 az h;rw[eb]at h;refine aQ fun N1 cY cI=>?_
  exact((aY.ge aZ.c az).a [.hl 0 [0,3] [0,1,3,4,2,5,6,7]]).ex hΓ cY (di h)
 |cons bU cQ ih1=>
  intro i1 az h;rw[eb]at h;refine aQ fun N1 cY cI=>?_
  obtain⟨pW,h23,h⟩:=aB h;have fk:=((((aY.lt aZ.c az).i (nU aZ.c 3 (dc az))).o 3 3 .uq (cR aZ.c (dc az))).g (o5 h23))
  obtain⟨h24,h⟩|⟨h24,h⟩:=aM h
  ·cases h;exact(fk.b h24).ret hΓ
  ·exact((fk.b h24).a [.cn [0,3,10,11,12] [0,1,2,3,4,5,6,7]]).ct hΓ cI (iS az hm1) (ih1 (i1+1) (dn az) h)
theorem sE{aC:aH}{aa:aD}{r:aH×Int}(h:iN aC aa=some r):hY prog 217 (bw aC) (bw r.1) [D.agg [D.str aa.rel,D.fr 9 1 (aa.args.map tx)]] (D.int .i64 r.2):=by
 refine Iz func217 [[some (63,4),some (3,1),some (83,3),some (74,8),some (43,2),none],[none]] 40 [D.acc 1,D.acc 2,D.acc 3,D.acc 4,D.acc 5,D.int .i64 aC.bp] [D.agg [D.str aa.rel,D.acc 6]] [Ob.row .uq 63 4 (aC.rules.map aK.c),Ob.row .uq 3 1 (aC.ends.map iM),Ob.row .uq 83 3 (aC.au.map aZ.c),Ob.row .uq 74 8 (aC.nodes.map Node.c),Ob.row .uq 43 2 (aC.facts.map aD.c),Ob.row .uq 9 1 (aa.args.map tx)] fun hr iC Γ hΓ=>?_
 rw[iN]at h;obtain⟨h27,h⟩:=bR h;refine(aY.a [.cn [0,3,10,11,12] [0,7,3,1,2,4,5,6]]).lp hΓ (yw hΓ (fun h=>?_) (bn h27) aC.au 0 rfl h);obtain⟨h26,h⟩:=bR h;cases h;exact((aY.w (bf h26)).a [.n2 [0,1,2,3,4,5,6,7,8,9,10,11] [0,1,2,3,4,5,6,7,8,9,10,11] 7 9 [0,1,2,3,4] [4,7,8]]).rts hΓ (D.gL [D.int .i64 (IntKind.i64.wrap ((((aC.au.map aZ.c)++([[D.str aa.rel,D.sl (aa.args.map tx),D.sl ([])]])).length:Int)-1)),D.agg [D.fr 63 4 (aC.rules.map aK.c),D.fr 3 1 (aC.ends.map iM),D.fr 83 3 ((aC.au.map aZ.c)++([[D.str aa.rel,D.sl (aa.args.map tx),D.sl ([])]])),D.fr 74 8 (aC.nodes.map Node.c),D.fr 43 2 (aC.facts.map aD.c),D.int .i64 aC.bp],D.val iC]) (by first|rfl| (simp only[mA]<;>rfl)| (simp only[bw,mA]<;>rfl))
def dD(aC:aH)(aa:Int)(cS:aO)(k1:Option (aH×Int)):bE->Nat->Option (aH×Int)
 | [],i1=>(k1)
 |bU::cQ,i1=>(bif decide (((i1:Int):Int)>0)then(bif (bU.parent:Int)==aa then((jx bU.cond cS).bind fun Gq=>(bif Gq then(some (aC,(i1:Int)))else(dD aC aa cS k1 cQ (i1+1))))else(dD aC aa cS k1 cQ (i1+1)))else(dD aC aa cS k1 cQ (i1+1)))
def kQ(aC:aH)(aa:Int)(cS:aO):Option (aH×Int):=(bif decide (aC.nodes.length<=maxLen)then(dD aC aa cS (bif (cS.kind:Int)==1 then((rE cS.pat).bind fun Ms=>((iN aC Ms).bind fun LN=>((fH cS).bind fun Mt=>(bif room ((LN.1.nodes.map Node.c).length+([[D.int .i64 aa,D.int .i64 Mt.kind,D.str Mt.pat.rel,D.sl (Mt.pat.args.map tx),D.str Mt.left,D.str Mt.right,D.int .i64 LN.2,D.sl ([])]]).length) 120 then(some ((⟨LN.1.rules,LN.1.ends,LN.1.au,LN.1.nodes++([(⟨aa,Mt,LN.2,[]⟩:Node)]),LN.1.facts,LN.1.bp⟩:aH),IntKind.i64.wrap ((((LN.1.nodes.map Node.c)++([[D.int .i64 aa,D.int .i64 Mt.kind,D.str Mt.pat.rel,D.sl (Mt.pat.args.map tx),D.str Mt.left,D.str Mt.right,D.int .i64 LN.2,D.sl ([])]])).length:Int)-1)))else none))))else(bif (cS.kind:Int)==2 then((rE cS.pat).bind fun y47=>((iN aC y47).bind fun KX=>((fH cS).bind fun Jh=>(bif room ((KX.1.nodes.map Node.c).length+([[D.int .i64 aa,D.int .i64 Jh.kind,D.str Jh.pat.rel,D.sl (Jh.pat.args.map tx),D.str Jh.left,D.str Jh.right,D.int .i64 KX.2,D.sl ([])]]).length) 120 then(some ((⟨KX.1.rules,KX.1.ends,KX.1.au,KX.1.nodes++([(⟨aa,Jh,KX.2,[]⟩:Node)]),KX.1.facts,KX.1.bp⟩:aH),IntKind.i64.wrap ((((KX.1.nodes.map Node.c)++([[D.int .i64 aa,D.int .i64 Jh.kind,D.str Jh.pat.rel,D.sl (Jh.pat.args.map tx),D.str Jh.left,D.str Jh.right,D.int .i64 KX.2,D.sl ([])]])).length:Int)-1)))else none))))else((fH cS).bind fun Mu=>(bif room ((aC.nodes.map Node.c).length+([[D.int .i64 aa,D.int .i64 Mu.kind,D.str Mu.pat.rel,D.sl (Mu.pat.args.map tx),D.str Mu.left,D.str Mu.right,D.int .i64 (-1),D.sl ([])]]).length) 120 then(some ((⟨aC.rules,aC.ends,aC.au,aC.nodes++([(⟨aa,Mu, -1,[]⟩:Node)]),aC.facts,aC.bp⟩:aH),IntKind.i64.wrap ((((aC.nodes.map Node.c)++([[D.int .i64 aa,D.int .i64 Mu.kind,D.str Mu.pat.rel,D.sl (Mu.pat.args.map tx),D.str Mu.left,D.str Mu.right,D.int .i64 (-1),D.sl ([])]])).length:Int)-1)))else none)))) aC.nodes 0)else none)
def zX(iC:Value)(aC:aH)(aa:Int)(cS:aO)(dL:Int):St:=⟨[(0,D.ptr 0 0),(1,D.int .i64 aa),(5,D.ptr 1 0),(13,D.acc 2),(14,D.int .i64 ((aC.nodes.map Node.c).length:Int)),(15,D.int .i64 dL)],[Ob.AA [D.acc 3,D.acc 4,D.acc 5,D.acc 2,D.acc 6,D.int .i64 aC.bp] iC,Ob.box (aO.c cS),Ob.row .uq 74 8 (aC.nodes.map Node.c),Ob.row .uq 63 4 (aC.rules.map aK.c),Ob.row .uq 3 1 (aC.ends.map iM),Ob.row .uq 83 3 (aC.au.map aZ.c),Ob.row .uq 43 2 (aC.facts.map aD.c)]⟩
theorem yy(hΓ:Γ.nt=69){iC:Value}{aC:aH}{aa:Int}{cS:aO}{r:aH×Int}{k1:Option (aH×Int)}(di:k1=some r->Ax Γ N f177 (.p [[some (63,4),some (3,1),some (83,3),some (74,8),some (43,2),none],[none]] iC (bw r.1) (D.int .i64 r.2)) [1,1] ⟨[(0,D.ptr 0 0),(1,D.int .i64 aa),(5,D.ptr 1 0)],[Ob.AA [D.acc 2,D.acc 3,D.acc 4,D.acc 5,D.acc 6,D.int .i64 aC.bp] iC,Ob.box (aO.c cS),Ob.row .uq 63 4 (aC.rules.map aK.c),Ob.row .uq 3 1 (aC.ends.map iM),Ob.row .uq 83 3 (aC.au.map aZ.c),Ob.row .uq 74 8 (aC.nodes.map Node.c),Ob.row .uq 43 2 (aC.facts.map aD.c)]⟩)(hm1:aC.nodes.length<=maxLen):∀(rest:bE) (i1:Nat),aC.nodes.drop i1=rest->dD aC aa cS k1 rest i1=some r->Ar Γ N f177 (.p [[some (63,4),some (3,1),some (83,3),some (74,8),some (43,2),none],[none]] iC (bw r.1) (D.int .i64 r.2)) [1,0,1,0] (rest.length+1) (zX iC aC aa cS (i1:Int)):=by
 intro rest
 induction rest with
 |nil=>
  intro i1 az h;rw[dD]at h;refine aQ fun N1 cY cI=>?_
  exact((aY.ge Node.c az).a [.hl 0 [0,1,5] [0,1,3,4,5,2,6]]).ex hΓ cY (di h)
 |cons bU cQ ih1=>
  intro i1 az h;rw[dD]at h;refine aQ fun N1 cY cI=>?_
  have jj:=(((aY.lt Node.c az).i (nU Node.c 8 (dc az))).o 8 8 .uq (cR Node.c (dc az)))
  obtain⟨h30,h⟩|⟨h30,h⟩:=aM h
  ·have sX:=(jj.r 5 h30)
   obtain⟨h31,h⟩|⟨h31,h⟩:=aM h
   ·obtain⟨Gq,h33,h⟩:=aB h;have vg:=(((sX.r 4 h31).g (td h33)).b h31)
    obtain⟨h34,h⟩|⟨h34,h⟩:=aM h
    ·cases h;exact(vg.b h34).ret hΓ
    ·exact((vg.b h34).a [.cn [0,1,5,13,14,15] [0,1,2,3,4,5,6]]).ct hΓ cI (iS az hm1) (ih1 (i1+1) (dn az) h)
   ·exact(((sX.r 5 h31).F 1).a [.cn [0,1,5,13,14,15] [0,1,2,3,4,5,6]]).ct hΓ cI (iS az hm1) (ih1 (i1+1) (dn az) h)
  ·exact(((jj.r 5 h30).F 6).a [.cn [0,1,5,13,14,15] [0,1,2,3,4,5,6]]).ct hΓ cI (iS az hm1) (ih1 (i1+1) (dn az) h)
theorem yM{aC:aH}{aa:Int}{cS:aO}{r:aH×Int}(h:kQ aC aa cS=some r):hY prog 177 (bw aC) (bw r.1) [D.int .i64 aa,D.agg (aO.c cS)] (D.int .i64 r.2):=by
 refine Iz func177 [[some (63,4),some (3,1),some (83,3),some (74,8),some (43,2),none],[none]] 69 [D.acc 1,D.acc 2,D.acc 3,D.acc 4,D.acc 5,D.int .i64 aC.bp] [D.int .i64 aa,D.agg [D.int .i64 cS.kind,D.str cS.pat.rel,D.sl (cS.pat.args.map tx),D.str cS.left,D.str cS.right]] [Ob.row .uq 63 4 (aC.rules.map aK.c),Ob.row .uq 3 1 (aC.ends.map iM),Ob.row .uq 83 3 (aC.au.map aZ.c),Ob.row .uq 74 8 (aC.nodes.map Node.c),Ob.row .uq 43 2 (aC.facts.map aD.c)] fun hr iC Γ hΓ=>?_
 rw[kQ]at h;obtain⟨h63,h⟩:=bR h;refine(aY.a [.cn [0,1,5,13,14,15] [0,6,4,1,2,3,5]]).lp hΓ (yy hΓ (fun h=>?_) (bn h63) aC.nodes 0 rfl h);obtain⟨h35,h⟩|⟨h35,h⟩:=aM h
 ·obtain⟨Ms,h37,h⟩:=aB h;obtain⟨LN,h39,h⟩:=aB h;obtain⟨Mt,h44,h⟩:=aB h;obtain⟨h45,h⟩:=bR h;cases h;exact(((((((aY.r 4 h35).T 1).g (ye h37)).hp [[some (63,4),some (3,1),some (83,3),some (74,8),some (43,2),none],[none,some (9,1)]] (sE h39)).a [.n2 [0,1,2,3,4,5,6,7,8,9,10,11,12,13,14] [0,1,2,3,4,5,6,7,8,9,10,11,12,13,14] 10 12 [0,1,2,3,4] [11,13,14]]).g (kY h44)).w (bf h45)).rts hΓ (D.gL [D.int .i64 (IntKind.i64.wrap ((((LN.1.nodes.map Node.c)++([[D.int .i64 aa,D.int .i64 Mt.kind,D.str Mt.pat.rel,D.sl (Mt.pat.args.map tx),D.str Mt.left,D.str Mt.right,D.int .i64 LN.2,D.sl ([])]])).length:Int)-1)),D.agg [D.fr 63 4 (LN.1.rules.map aK.c),D.fr 3 1 (LN.1.ends.map iM),D.fr 83 3 (LN.1.au.map aZ.c),D.fr 74 8 ((LN.1.nodes.map Node.c)++([[D.int .i64 aa,D.int .i64 Mt.kind,D.str Mt.pat.rel,D.sl (Mt.pat.args.map tx),D.str Mt.left,D.str Mt.right,D.int .i64 LN.2,D.sl ([])]])),D.fr 43 2 (LN.1.facts.map aD.c),D.int .i64 LN.1.bp],D.val iC]) (by first|rfl| (simp only[mA]<;>rfl)| (simp only[bw,mA]<;>rfl))
 ·have zB:=(aY.r 4 h35)
  obtain⟨h46,h⟩|⟨h46,h⟩:=aM h
  ·obtain⟨y47,h48,h⟩:=aB h;obtain⟨KX,h50,h⟩:=aB h;obtain⟨Jh,h55,h⟩:=aB h;obtain⟨h56,h⟩:=bR h;cases h;exact((((((zB.b h46).g (ye h48)).hp [[some (63,4),some (3,1),some (83,3),some (74,8),some (43,2),none],[none,some (9,1)]] (sE h50)).a [.n2 [0,1,2,3,4,5,6,7,8,9,10,11,12,13,14] [0,1,2,3,4,5,6,7,8,9,10,11,12,13,14] 10 12 [0,1,2,3,4] [11,13,14]]).g (kY h55)).w (bf h56)).rts hΓ (D.gL [D.int .i64 (IntKind.i64.wrap ((((KX.1.nodes.map Node.c)++([[D.int .i64 aa,D.int .i64 Jh.kind,D.str Jh.pat.rel,D.sl (Jh.pat.args.map tx),D.str Jh.left,D.str Jh.right,D.int .i64 KX.2,D.sl ([])]])).length:Int)-1)),D.agg [D.fr 63 4 (KX.1.rules.map aK.c),D.fr 3 1 (KX.1.ends.map iM),D.fr 83 3 (KX.1.au.map aZ.c),D.fr 74 8 ((KX.1.nodes.map Node.c)++([[D.int .i64 aa,D.int .i64 Jh.kind,D.str Jh.pat.rel,D.sl (Jh.pat.args.map tx),D.str Jh.left,D.str Jh.right,D.int .i64 KX.2,D.sl ([])]])),D.fr 43 2 (KX.1.facts.map aD.c),D.int .i64 KX.1.bp],D.val iC]) (by first|rfl| (simp only[mA]<;>rfl)| (simp only[bw,mA]<;>rfl))
  ·obtain⟨Mu,h61,h⟩:=aB h;obtain⟨h62,h⟩:=bR h;cases h;exact((((zB.b h46).a [.n2 [0,1,2,3,4,5,6,7,8,9,10,11,12,13,14] [0,1,2,3,4,5,6,7,8,9,10,11,12,13,14] 10 12 [0,1,2,3,4] [5,7,8]]).g (kY h61)).w (bf h62)).rts hΓ (D.gL [D.int .i64 (IntKind.i64.wrap ((((aC.nodes.map Node.c)++([[D.int .i64 aa,D.int .i64 Mu.kind,D.str Mu.pat.rel,D.sl (Mu.pat.args.map tx),D.str Mu.left,D.str Mu.right,D.int .i64 (-1),D.sl ([])]])).length:Int)-1)),D.agg [D.fr 63 4 (aC.rules.map aK.c),D.fr 3 1 (aC.ends.map iM),D.fr 83 3 (aC.au.map aZ.c),D.fr 74 8 ((aC.nodes.map Node.c)++([[D.int .i64 aa,D.int .i64 Mu.kind,D.str Mu.pat.rel,D.sl (Mu.pat.args.map tx),D.str Mu.left,D.str Mu.right,D.int .i64 (-1),D.sl ([])]])),D.fr 43 2 (aC.facts.map aD.c),D.int .i64 aC.bp],D.val iC]) (by first|rfl| (simp only[mA]<;>rfl)| (simp only[bw,mA]<;>rfl))
def jT(aC:aj)(i1:Nat)(Hx:ai)(k2:Int->Int->aj->bC->bK->bE->aJ->Option aH):ai->Nat->Int->Int->aj->bC->bK->bE->aJ->Option aH
 | [],i2,qV,oO,B4,jz,uP,lC,B5=>(k2 qV oO B4 jz uP lC B5)
 |lq::tR,i2,qV,oO,B4,jz,uP,lC,B5=>((kQ (⟨B4,jz,uP,lC,B5,oO⟩:aH) qV lq).bind fun xO=>(jT aC i1 Hx k2 tR (i2+1) xO.2 xO.1.bp xO.1.rules xO.1.ends xO.1.au xO.1.nodes xO.1.facts))
def jS(aC:aj)(k1:Int->aj->bC->bK->bE->aJ->Option aH):aj->Nat->Int->aj->bC->bK->bE->aJ->Option aH
 | [],i1,gM,iO,cg,uN,jk,uO=>(k1 gM iO cg uN jk uO)
 |bU::cQ,i1,gM,iO,cg,uN,jk,uO=>((qG bU).bind fun Hx=>(bif decide (Hx.length<=maxLen)then(jT aC i1 Hx (fun(FG:Int) (vQ:Int) (Hs:aj) (vP:bC) (Ht:bK) (pJ:bE) (Hu:aJ)=>(bif room ((vP.map iM).length+([[D.int .i64 FG]]).length) 8 then(jS aC k1 cQ (i1+1) vQ Hs (vP++([FG])) Ht pJ Hu)else none)) Hx 0 0 gM iO cg uN jk uO)else none))
def rL(aC:aj):Option aH:=((p6 aC).bind fun y1=>(jS aC (fun(pS:Int) (nQ:aj) (eM:bC) (F3:bK) (lg:bE) (F4:aJ)=>(some (⟨nQ,eM,F3,lg,F4,pS⟩:aH))) aC 0 0 y1 ([]:bC) ([]:bK) ([(⟨-1,(⟨0,(⟨[],[]⟩:aD),[],[]⟩:aO), -1,[]⟩:Node)]) ([]:aJ)))
def uZ(aC:aj)(gM:Int)(W1:List aL)(W2:List aL)(W3:List aL)(W4:List aL)(W5:List aL)(dL:Int):St:=⟨[(2,D.ptr 0 0),(3,D.ptr 1 0),(14,D.sl (aC.map aK.c)),(15,D.int .i64 ((aC.map aK.c).length:Int)),(16,D.int .i64 dL)],[Ob.box [D.nil,D.nil,D.nil,D.nil,D.nil,D.int .i64 0],Ob.box [D.acc 2,D.acc 3,D.acc 4,D.acc 5,D.acc 6,D.int .i64 gM],Ob.row .uq 63 4 W1,Ob.row .uq 3 1 W2,Ob.row .uq 83 3 W3,Ob.row .uq 74 8 W4,Ob.row .uq 43 2 W5]⟩
def Fv(aC:aj)(i1:Nat)(Hx:ai)(qV:Int)(oO:Int)(W2:List aL)(W3:List aL)(W4:List aL)(W5:List aL)(W6:List aL)(dL:Int):St:=⟨[(2,D.ptr 0 0),(3,D.ptr 1 0),(6,D.int .i64 qV),(14,D.sl (aC.map aK.c)),(15,D.int .i64 ((aC.map aK.c).length:Int)),(16,D.int .i64 (i1:Int)),(21,D.acc 2),(22,D.int .i64 ((Hx.map aO.c).length:Int)),(23,D.int .i64 dL)],[Ob.box [D.nil,D.nil,D.nil,D.nil,D.nil,D.int .i64 0],Ob.box [D.acc 3,D.acc 4,D.acc 5,D.acc 6,D.acc 7,D.int .i64 oO],Ob.row .uq 71 5 (Hx.map aO.c),Ob.row .uq 63 4 W2,Ob.row .uq 3 1 W3,Ob.row .uq 83 3 W4,Ob.row .uq 74 8 W5,Ob.row .uq 43 2 W6]⟩
theorem EH(hΓ:Γ.nt=39){aC:aj}{i1:Nat}{Hx:ai}{r:aH}{k2:Int->Int->aj->bC->bK->bE->aJ->Option aH}(AJ:∀(FG:Int) (vQ:Int) (Hs:aj) (vP:bC) (Ht:bK) (pJ:bE) (Hu:aJ),k2 FG vQ Hs vP Ht pJ Hu=some r->Ax Γ N f106 (.q [[some (63,4),some (3,1),some (83,3),some (74,8),some (43,2),none]] (D.agg [D.fr 63 4 (r.rules.map aK.c),D.fr 3 1 (r.ends.map iM),D.fr 83 3 (r.au.map aZ.c),D.fr 74 8 (r.nodes.map Node.c),D.fr 43 2 (r.facts.map aD.c),D.int .i64 r.bp])) [1,1,0,1,0,0,1,1,0,0,1,1,1] ⟨[(2,D.ptr 0 0),(3,D.ptr 1 0),(6,D.int .i64 FG),(14,D.sl (aC.map aK.c)),(15,D.int .i64 ((aC.map aK.c).length:Int)),(16,D.int .i64 (i1:Int))],[Ob.box [D.nil,D.nil,D.nil,D.nil,D.nil,D.int .i64 0],Ob.box [D.acc 2,D.acc 3,D.acc 4,D.acc 5,D.acc 6,D.int .i64 vQ],Ob.row .uq 63 4 (Hs.map aK.c),Ob.row .uq 3 1 (vP.map iM),Ob.row .uq 83 3 (Ht.map aZ.c),Ob.row .uq 74 8 (pJ.map Node.c),Ob.row .uq 43 2 (Hu.map aD.c)]⟩)(hm2:Hx.length<=maxLen):∀(rest:ai) (i2:Nat) (qV:Int) (oO:Int) (B4:aj) (jz:bC) (uP:bK) (lC:bE) (B5:aJ),Hx.drop i2=rest->jT aC i1 Hx k2 rest i2 qV oO B4 jz uP lC B5=some r->Ar Γ N f106 (.q [[some (63,4),some (3,1),some (83,3),some (74,8),some (43,2),none]] (D.agg [D.fr 63 4 (r.rules.map aK.c),D.fr 3 1 (r.ends.map iM),D.fr 83 3 (r.au.map aZ.c),D.fr 74 8 (r.nodes.map Node.c),D.fr 43 2 (r.facts.map aD.c),D.int .i64 r.bp])) [1,1,0,1,0,0,1,1,0,0,1,1,0,1,0] (rest.length+1) (Fv aC i1 Hx qV oO (B4.map aK.c) (jz.map iM) (uP.map aZ.c) (lC.map Node.c) (B5.map aD.c) (i2:Int)):=by
 intro rest
 induction rest with
 |nil=>
  intro i2 qV oO B4 jz uP lC B5 hd2 h;rw[jT]at h;refine aQ fun N2 ue sB=>?_
  exact((aY.ge aO.c hd2).a [.hl 5 [2,3,6,14,15,16] [0,1,3,4,5,6,7]]).ex hΓ ue (AJ qV oO B4 jz uP lC B5 h)
 |cons lq tR ih2=>
  intro i2 qV oO B4 jz uP lC B5 hd2 h;rw[jT]at h;refine aQ fun N2 ue sB=>?_
  obtain⟨xO,h209,h⟩:=aB h;exact((((((aY.lt aO.c hd2).i (nU aO.c 5 (dc hd2))).o 5 5 .uq (cR aO.c (dc hd2))).a [.gp [[some (63,4),some (3,1),some (83,3),some (74,8),some (43,2),none],[none],[none,none,none,none,none]] (bw xO.1) (D.int .i64 xO.2)]).w (show hY prog 177 (bw (⟨B4,jz,uP,lC,B5,oO⟩:aH)) (bw xO.1) [D.int .i64 qV,D.agg (aO.c lq)] (D.int .i64 xO.2)from by simpa only[bA,bB,bZ,bX,bg]using yM h209)).a [.cn [2,3,6,14,15,16,21,22,23] [0,1,2,9,10,11,12,13]]).ct hΓ sB (iS hd2 hm2) (ih2 (i2+1) xO.2 xO.1.bp xO.1.rules xO.1.ends xO.1.au xO.1.nodes xO.1.facts (dn hd2) h)
theorem EG(hΓ:Γ.nt=39){aC:aj}{r:aH}{k1:Int->aj->bC->bK->bE->aJ->Option aH}(di:∀(pS:Int) (nQ:aj) (eM:bC) (F3:bK) (lg:bE) (F4:aJ),k1 pS nQ eM F3 lg F4=some r->Ax Γ N f106 (.q [[some (63,4),some (3,1),some (83,3),some (74,8),some (43,2),none]] (D.agg [D.fr 63 4 (r.rules.map aK.c),D.fr 3 1 (r.ends.map iM),D.fr 83 3 (r.au.map aZ.c),D.fr 74 8 (r.nodes.map Node.c),D.fr 43 2 (r.facts.map aD.c),D.int .i64 r.bp])) [1,1,1] ⟨[(2,D.ptr 0 0),(3,D.ptr 1 0)],[Ob.box [D.nil,D.nil,D.nil,D.nil,D.nil,D.int .i64 0],Ob.box [D.acc 2,D.acc 3,D.acc 4,D.acc 5,D.acc 6,D.int .i64 pS],Ob.row .uq 63 4 (nQ.map aK.c),Ob.row .uq 3 1 (eM.map iM),Ob.row .uq 83 3 (F3.map aZ.c),Ob.row .uq 74 8 (lg.map Node.c),Ob.row .uq 43 2 (F4.map aD.c)]⟩)(hm1:aC.length<=maxLen):∀(rest:aj) (i1:Nat) (gM:Int) (iO:aj) (cg:bC) (uN:bK) (jk:bE) (uO:aJ),aC.drop i1=rest->jS aC k1 rest i1 gM iO cg uN jk uO=some r->Ar Γ N f106 (.q [[some (63,4),some (3,1),some (83,3),some (74,8),some (43,2),none]] (D.agg [D.fr 63 4 (r.rules.map aK.c),D.fr 3 1 (r.ends.map iM),D.fr 83 3 (r.au.map aZ.c),D.fr 74 8 (r.nodes.map Node.c),D.fr 43 2 (r.facts.map aD.c),D.int .i64 r.bp])) [1,1,0,1,0] (rest.length+1) (uZ aC gM (iO.map aK.c) (cg.map iM) (uN.map aZ.c) (jk.map Node.c) (uO.map aD.c) (i1:Int)):=by
 intro rest
 induction rest with
 |nil=>
  intro i1 gM iO cg uN jk uO az h;rw[jS]at h;refine aQ fun N1 cY cI=>?_
  exact((aY.ge aK.c az).a [.hl 0 [2,3] [0,1,2,3,4,5,6]]).ex hΓ cY (di gM iO cg uN jk uO h)
 |cons bU cQ ih1=>
  intro i1 gM iO cg uN jk uO az h;rw[jS]at h;refine aQ fun N1 cY cI=>?_
  obtain⟨Hx,h180,h⟩:=aB h;obtain⟨h211,h⟩:=bR h;refine((((aY.lt aK.c az).l (bJ aK.c 4 (dc az) rfl)).g (C8 h180)).a [.cn [2,3,6,14,15,16,21,22,23] [0,1,8,2,3,4,5,6]]).lp hΓ (EH hΓ (fun FG vQ Hs vP Ht pJ Hu h=>?_) (bn h211) Hx 0 0 gM iO cg uN jk uO rfl h);obtain⟨h210,h⟩:=bR h;exact((aY.w (bf h210)).a [.cn [2,3,14,15,16] [0,1,2,8,4,5,6]]).cs hΓ cI (uZ aC vQ (Hs.map aK.c) ((vP.map iM)++([[D.int .i64 FG]])) (Ht.map aZ.c) (pJ.map Node.c) (Hu.map aD.c) (IntKind.i64.wrap ((i1:Int)+1))) (by first| (simp only[iS az hm1,mA]<;>rfl)| (simp only[iS az hm1,mA,aD.c,aX.c,aO.c,Action.c,aK.c,aU.c,dW.c,aZ.c,Node.c,aH.c,dh.c]<;>rfl)) (ih1 (i1+1) vQ Hs (vP++([FG])) Ht pJ Hu (dn az) h)
theorem DJ{aC:aj}{r:aH}(h:rL aC=some r):Good prog 106 [D.sl (aC.map aK.c)] (D.agg [D.fr 63 4 (r.rules.map aK.c),D.fr 3 1 (r.ends.map iM),D.fr 83 3 (r.au.map aZ.c),D.fr 74 8 (r.nodes.map Node.c),D.fr 43 2 (r.facts.map aD.c),D.int .i64 r.bp]):=by
 refine gd func106 [[some (63,4),some (3,1),some (83,3),some (74,8),some (43,2),none]] 39 fun hr Γ hΓ=>?_
 rw[rL]at h;obtain⟨y1,h2,h⟩:=aB h;refine((aY.g (wq h2)).a [.pb 3 1 3 1,.pb 3 2 83 3,.pb 3 4 43 2,.cn [2,3,14,15,16] [0,3,1,4,5,2,6]]).lps hΓ (uZ aC 0 (y1.map aK.c) ([]:List aL) ([]:List aL) ([[D.int .i64 (-1),D.int .i64 0,D.str ([]),D.sl ([]),D.str ([]),D.str ([]),D.int .i64 (-1),D.sl ([])]]) ([]:List aL) 0) (by first| (simp only[mA]<;>rfl)| (simp only[mA,aD.c,aX.c,aO.c,Action.c,aK.c,aU.c,dW.c,aZ.c,Node.c,aH.c,dh.c]<;>rfl)) (EG hΓ (fun pS nQ eM F3 lg F4 h=>?_) (by have:=(gq.sl (hr _ (aE (i:=0) rfl))).1;simpa using this) aC 0 0 y1 ([]:bC) ([]:bK) ([(⟨-1,(⟨0,(⟨[],[]⟩:aD),[],[]⟩:aO), -1,[]⟩:Node)]) ([]:aJ) rfl h);cases h;exact aY.ret hΓ
def eD(aC:aD):Option aD:=((n9 aC.args).bind fun y1=>(some (⟨aC.rel,y1⟩:aD)))
theorem gP{aC:aD}{r:aD}(h:eD aC=some r):Good prog 143 [D.agg (aD.c aC)] (D.agg [D.str r.rel,D.fr 9 1 (r.args.map tx)]):=by
 refine gd func143 [[none,some (9,1)]] 9 fun hr Γ hΓ=>?_
 rw[eD]at h;obtain⟨y1,h2,h⟩:=aB h;cases h;exact((aY.a [.n 5]).g (tE h2)).ret hΓ
def mG(aC:aJ)(k1:aJ->Option aJ):aJ->Nat->aJ->Option aJ
 | [],i1,bP=>(k1 bP)
 |bU::cQ,i1,bP=>((eD bU).bind fun oX=>(bif room ((bP.map aD.c).length+([[D.str oX.rel,D.sl (oX.args.map tx)]]).length) 40 then(mG aC k1 cQ (i1+1) (bP++([oX])))else none))
def cq(aC:aJ):Option aJ:=(mG aC (fun(cH:aJ)=>(some cH)) aC 0 ([]:aJ))
def yg(aC:aJ)(W0:List aL)(dL:Int):St:=⟨[(3,D.acc 0),(6,D.sl (aC.map aD.c)),(7,D.int .i64 ((aC.map aD.c).length:Int)),(8,D.int .i64 dL)],[Ob.row .uq 43 2 W0]⟩
theorem E6(hΓ:Γ.nt=19){aC:aJ}{r:aJ}{k1:aJ->Option aJ}(di:∀(cH:aJ),k1 cH=some r->Ax Γ N f82 (.q [[some (43,2)]] (D.fr 43 2 (r.map aD.c))) [1,1,1] ⟨[(3,D.acc 0)],[Ob.row .uq 43 2 (cH.map aD.c)]⟩)(hm1:aC.length<=maxLen):∀(rest:aJ) (i1:Nat) (bP:aJ),aC.drop i1=rest->mG aC k1 rest i1 bP=some r->Ar Γ N f82 (.q [[some (43,2)]] (D.fr 43 2 (r.map aD.c))) [1,1,0,1,0] (rest.length+1) (yg aC (bP.map aD.c) (i1:Int)):=by
 intro rest
 induction rest with
 |nil=>
  intro i1 bP az h;rw[mG]at h;refine aQ fun N1 cY cI=>?_
  exact((aY.ge aD.c az).a [.hl 0 [3] [0]]).ex hΓ cY (di bP h)
 |cons bU cQ ih1=>
  intro i1 bP az h;rw[mG]at h;refine aQ fun N1 cY cI=>?_
  obtain⟨oX,h28,h⟩:=aB h;obtain⟨h29,h⟩:=bR h;exact(((((aY.lt aD.c az).l (bJ aD.c 2 (dc az) rfl)).g (gP h28)).w (bf h29)).a [.cn [3,6,7,8] [4]]).cs hΓ cI (yg aC ((bP.map aD.c)++([[D.str oX.rel,D.sl (oX.args.map tx)]])) (IntKind.i64.wrap ((i1:Int)+1))) (by first| (simp only[iS az hm1,mA]<;>rfl)| (simp only[iS az hm1,mA,aD.c,aX.c,aO.c,Action.c,aK.c,aU.c,dW.c,aZ.c,Node.c,aH.c,dh.c]<;>rfl)) (ih1 (i1+1) (bP++([oX])) (dn az) h)
theorem ew{aC:aJ}{r:aJ}(h:cq aC=some r):Good prog 82 [D.sl (aC.map aD.c)] (D.fr 43 2 (r.map aD.c)):=by
 refine gd func82 [[some (43,2)]] 19 fun hr Γ hΓ=>?_
 rw[cq]at h;refine(aY.a [.Kq 3,.cn [3,6,7,8] [0]]).lp hΓ (E6 hΓ (fun cH h=>?_) (by have:=(gq.sl (hr _ (aE (i:=0) rfl))).1;simpa using this) aC 0 ([]:aJ) rfl h);have h:=aN h;subst h;exact aY.ret hΓ
def iA(aC:aT)(k1:Option Bool):aT->Nat->Option Bool
 | [],i1=>(k1)
 |bU::cQ,i1=>((lK bU.var).bind fun y50=>(bif !(y50)then(some false)else((fP bU.value).bind fun y53=>(bif !(y53)then(some false)else(bif decide (((i1:Int):Int)>0)then((iP aC (IntKind.i64.wrap ((i1:Int)-1))).bind fun x57=>(bif !(Op.bytesLess x57.var bU.var)then(some false)else(iA aC k1 cQ (i1+1))))else(iA aC k1 cQ (i1+1)))))))
def kU(aC:aT):Option Bool:=(bif decide ((((aC.map aX.c).length:Int):Int)>6)then(some false)else(iA aC (some true) aC 0))
def Fc(aC:aT)(dL:Int):St:=⟨[(0,D.sl (aC.map aX.c)),(8,D.sl (aC.map aX.c)),(9,D.int .i64 ((aC.map aX.c).length:Int)),(10,D.int .i64 dL)],[]⟩
theorem Dz(hΓ:Γ.nt=41){aC:aT}{r:Bool}{k1:Option Bool}(di:k1=some r->Ax Γ N f146 (.q [[none]] (D.bool r)) [1,1,1] ⟨[],[]⟩)(hm1:aC.length<=maxLen):∀(rest:aT) (i1:Nat),aC.drop i1=rest->iA aC k1 rest i1=some r->Ar Γ N f146 (.q [[none]] (D.bool r)) [1,1,0,1,0] (rest.length+1) (Fc aC (i1:Int)):=by
 intro rest
 induction rest with
 |nil=>
  intro i1 az h;rw[iA]at h;refine aQ fun N1 cY cI=>?_
  exact((aY.ge aX.c az).a [.hl 0 [] []]).ex hΓ cY (di h)
 |cons bU cQ ih1=>
  intro i1 az h;rw[iA]at h;refine aQ fun N1 cY cI=>?_
  obtain⟨y50,h51,h⟩:=aB h;have sX:=((((aY.lt aX.c az).l (bJ aX.c 2 (dc az) rfl)).a [.n 22]).g (o4 h51))
  obtain⟨h52,h⟩|⟨h52,h⟩:=aM h
  ·have h:=aN h;subst h;exact((((sX.r 5 h52).T 3).a [bF,bF,bF,bF,bF,bF,bF,bF,bF]).T 3).ret hΓ
  ·obtain⟨y53,h54,h⟩:=aB h;have vg:=(((sX.r 3 h52).g (ed h54)).r 2 h52)
   obtain⟨h55,h⟩|⟨h55,h⟩:=aM h
   ·have h:=aN h;subst h;exact((((vg.r 3 h55).a [bF,bF,bF,bF,bF,bF,bF,bF,bF]).r 2 h55).T 1).ret hΓ
   ·have zB:=(vg.r 3 h55)
    obtain⟨h56,h⟩|⟨h56,h⟩:=aM h
    ·obtain⟨x57,h58,h⟩:=aB h;have Ez:=((((((zB.r 4 h56).l (fO aX.c 2 h58 rfl)).r 5 h56).b h55).b h56).b h55)
     obtain⟨h59,h⟩|⟨h59,h⟩:=aM h
     ·have h:=aN h;subst h;exact(Ez.b h59).ret hΓ
     ·exact((Ez.b h59).a [.cn [0,8,9,10] []]).ct hΓ cI (iS az hm1) (ih1 (i1+1) (dn az) h)
    ·exact((((((zB.r 9 h56).b h55).b h56).b h55).F 1).a [.cn [0,8,9,10] []]).ct hΓ cI (iS az hm1) (ih1 (i1+1) (dn az) h)
theorem mY{aC:aT}{r:Bool}(h:kU aC=some r):Good prog 146 [D.sl (aC.map aX.c)] (D.bool r):=by
 refine gd func146 [[none]] 41 fun hr Γ hΓ=>?_
 rw[kU]at h;obtain⟨h1,h⟩|⟨h1,h⟩:=aM h
 ·have h:=aN h;subst h;exact(aY.b h1).ret hΓ
 ·refine((aY.b h1).a [.cn [0,8,9,10] []]).lp hΓ (Dz hΓ (fun h=>?_) (by have:=(gq.sl (hr _ (aE (i:=0) rfl))).1;simpa using this) aC 0 rfl h);have h:=aN h;subst h;exact aY.ret hΓ
def jF(aC:aT):Option aT:=(bif room (([]:List aL).length+(aC.map aX.c).length) 32 then(some (([]:aT)++aC))else none)
theorem tD{aC:aT}{r:aT}(h:jF aC=some r):Good prog 147 [D.sl (aC.map aX.c)] (D.fr 113 2 (r.map aX.c)):=by
 refine gd func147 [[some (113,2)]] 5 fun hr Γ hΓ=>?_
 rw[jF]at h;obtain⟨h1,h⟩:=bR h;cases h;exact(((aY.w (bf h1)).w (show(∀r∈(aC.map aX.c),r.length=2)/\(true=true->D.jv (aC.map aX.c)=true)from⟨by first|simp| (intro r hr;obtain⟨x,_,rfl⟩:=cE.1 (bu (fJ hr));rfl),by simp[D.jv,D.flat]⟩)).a [.Kq 2,.fl true]).rts hΓ (D.fr 113 2 (([]:List aL)++(aC.map aX.c))) (by first|rfl| (simp only[mA]<;>rfl)| (simp only[bw,mA]<;>rfl))
def lN(aC:aT)(aa:Bytes)(k1:Option (Bytes×Bool)):aT->Nat->Option (Bytes×Bool)
 | [],i1=>(k1)
 |bU::cQ,i1=>(bif (bU.var:Bytes)==aa then(some (bU.value,true))else(lN aC aa k1 cQ (i1+1)))
def pN(aC:aT)(aa:Bytes):Option (Bytes×Bool):=((fP aa).bind fun y1=>(bif y1 then(some (aa,true))else((lK aa).bind fun y4=>(bif !(y4)then(some ([],false))else(lN aC aa (some ([],false)) aC 0)))))
def IK(aC:aT)(aa:Bytes)(dL:Int):St:=⟨[(1,D.str aa),(14,D.sl (aC.map aX.c)),(15,D.int .i64 ((aC.map aX.c).length:Int)),(16,D.int .i64 dL)],[]⟩
theorem H8(hΓ:Γ.nt=27){aC:aT}{aa:Bytes}{r:Bytes×Bool}{k1:Option (Bytes×Bool)}(di:k1=some r->Ax Γ N f83 (.q [[none],[none]] (D.gL [D.str r.1,D.bool r.2])) [1,1,1,1] ⟨[],[]⟩)(hm1:aC.length<=maxLen):∀(rest:aT) (i1:Nat),aC.drop i1=rest->lN aC aa k1 rest i1=some r->Ar Γ N f83 (.q [[none],[none]] (D.gL [D.str r.1,D.bool r.2])) [1,1,1,0,1,0] (rest.length+1) (IK aC aa (i1:Int)):=by
 intro rest
 induction rest with
 |nil=>
  intro i1 az h;rw[lN]at h;refine aQ fun N1 cY cI=>?_
  exact((aY.ge aX.c az).a [.hl 0 [] []]).ex hΓ cY (di h)
 |cons bU cQ ih1=>
  intro i1 az h;rw[lN]at h;refine aQ fun N1 cY cI=>?_
  have fk:=((aY.lt aX.c az).l (bJ aX.c 2 (dc az) rfl))
  obtain⟨h19,h⟩|⟨h19,h⟩:=aM h
  ·cases h;exact(fk.b h19).ret hΓ
  ·exact((fk.b h19).a [.cn [1,14,15,16] []]).ct hΓ cI (iS az hm1) (ih1 (i1+1) (dn az) h)
theorem uY{aC:aT}{aa:Bytes}{r:Bytes×Bool}(h:pN aC aa=some r):Good prog 83 [D.sl (aC.map aX.c),D.str aa] (D.gL [D.str r.1,D.bool r.2]):=by
 refine gd func83 [[none],[none]] 27 fun hr Γ hΓ=>?_
 rw[pN]at h;obtain⟨y1,h2,h⟩:=aB h;obtain⟨h3,h⟩|⟨h3,h⟩:=aM h
 ·cases h;exact((aY.g (ed h2)).b h3).ret hΓ
 ·obtain⟨y4,h5,h⟩:=aB h;have je:=(((aY.g (ed h2)).b h3).g (o4 h5))
  obtain⟨h6,h⟩|⟨h6,h⟩:=aM h
  ·cases h;exact(je.b h6).ret hΓ
  ·refine((je.b h6).a [.cn [1,14,15,16] []]).lp hΓ (H8 hΓ (fun h=>?_) (by have:=(gq.sl (hr _ (aE (i:=0) rfl))).1;simpa using this) aC 0 rfl h);cases h;exact aY.ret hΓ
def kR(aC:aT)(aa:Bytes)(cS:Bytes)(k1:Bool->aT->Option (aT×Bool)):aT->Nat->Bool->aT->Option (aT×Bool)
 | [],i1,yF,bP=>(k1 yF bP)
 |bU::cQ,i1,yF,bP=>(bif !(yF)then(bif !(Op.bytesLess bU.var aa||(bU.var:Bytes)==aa)then(bif room ((bP.map aX.c).length+([[D.str aa,D.str cS]]).length) 32 then(bif room (((bP.map aX.c)++([[D.str aa,D.str cS]])).length+([[D.str bU.var,D.str bU.value]]).length) 32 then(kR aC aa cS k1 cQ (i1+1) true ((bP++([(⟨aa,cS⟩:aX)]))++([bU])))else none)else none)else(bif room ((bP.map aX.c).length+([[D.str bU.var,D.str bU.value]]).length) 32 then(kR aC aa cS k1 cQ (i1+1) yF (bP++([bU])))else none))else(bif room ((bP.map aX.c).length+([[D.str bU.var,D.str bU.value]]).length) 32 then(kR aC aa cS k1 cQ (i1+1) yF (bP++([bU])))else none))
def sZ(aC:aT)(aa:Bytes)(cS:Bytes):Option (aT×Bool):=((kU aC).bind fun y1=>(bif !(y1)then(some ([],false))else((lK aa).bind fun y4=>(bif !(y4)then(some ([],false))else((fP cS).bind fun y7=>(bif !(y7)then(some ([],false))else((pN aC aa).bind fun Dh=>(bif Dh.2 then(bif !((Dh.1:Bytes)==cS)then(some ([],false))else((jF aC).bind fun AK=>(some (AK,true))))else(bif decide ((((aC.map aX.c).length:Int):Int)>=6)then(some ([],false))else(kR aC aa cS (fun(RD:Bool) (cH:aT)=>(bif !(RD)then(bif room ((cH.map aX.c).length+([[D.str aa,D.str cS]]).length) 32 then(some (cH++([(⟨aa,cS⟩:aX)]),true))else none)else(some (cH,true)))) aC 0 false ([]:aT)))))))))))
def uD(aC:aT)(aa:Bytes)(cS:Bytes)(yF:Bool)(W1:List aL)(dL:Int):St:=⟨[(1,D.str aa),(2,D.str cS),(10,D.acc 0),(11,D.bool yF),(42,D.sl (aC.map aX.c)),(43,D.int .i64 ((aC.map aX.c).length:Int)),(44,D.int .i64 dL)],[Ob.row .uq 113 2 W1]⟩
theorem IB(hΓ:Γ.nt=76){aC:aT}{aa:Bytes}{cS:Bytes}{r:aT×Bool}{k1:Bool->aT->Option (aT×Bool)}(di:∀(RD:Bool) (cH:aT),k1 RD cH=some r->Ax Γ N f84 (.q [[some (113,2)],[none]] (D.gL [D.fr 113 2 (r.1.map aX.c),D.bool r.2])) [1,1,1,1,1,1,1] ⟨[(1,D.str aa),(2,D.str cS),(10,D.acc 0),(11,D.bool RD)],[Ob.row .uq 113 2 (cH.map aX.c)]⟩)(hm1:aC.length<=maxLen):∀(rest:aT) (i1:Nat) (yF:Bool) (bP:aT),aC.drop i1=rest->kR aC aa cS k1 rest i1 yF bP=some r->Ar Γ N f84 (.q [[some (113,2)],[none]] (D.gL [D.fr 113 2 (r.1.map aX.c),D.bool r.2])) [1,1,1,1,1,1,0,1,0] (rest.length+1) (uD aC aa cS yF (bP.map aX.c) (i1:Int)):=by
 intro rest
 induction rest with
 |nil=>
  intro i1 yF bP az h;rw[kR]at h;refine aQ fun N1 cY cI=>?_
  exact((aY.ge aX.c az).a [.hl 0 [1,2,10,11] [0]]).ex hΓ cY (di yF bP h)
 |cons bU cQ ih1=>
  intro i1 yF bP az h;rw[kR]at h;refine aQ fun N1 cY cI=>?_
  have je:=((aY.lt aX.c az).l (bJ aX.c 2 (dc az) rfl))
  obtain⟨h58,h⟩|⟨h58,h⟩:=aM h
  ·have jj:=(je.r 5 h58)
   obtain⟨h59,h⟩|⟨h59,h⟩:=aM h
   ·obtain⟨h60,h⟩:=bR h;obtain⟨h61,h⟩:=bR h;exact((((jj.b h59).w (bf h60)).w (bf h61)).a [.cn [1,2,10,11,42,43,44] [5]]).cs hΓ cI (uD aC aa cS true (((bP.map aX.c)++([[D.str aa,D.str cS]]))++([[D.str bU.var,D.str bU.value]])) (IntKind.i64.wrap ((i1:Int)+1))) (by first| (simp only[iS az hm1,mA]<;>rfl)| (simp only[iS az hm1,mA,aD.c,aX.c,aO.c,Action.c,aK.c,aU.c,dW.c,aZ.c,Node.c,aH.c,dh.c]<;>rfl)) (ih1 (i1+1) true ((bP++([(⟨aa,cS⟩:aX)]))++([bU])) (dn az) h)
   ·obtain⟨h62,h⟩:=bR h;exact(((jj.b h59).w (bf h62)).a [.cn [1,2,10,11,42,43,44] [3]]).cs hΓ cI (uD aC aa cS yF ((bP.map aX.c)++([[D.str bU.var,D.str bU.value]])) (IntKind.i64.wrap ((i1:Int)+1))) (by first| (simp only[iS az hm1,mA]<;>rfl)| (simp only[iS az hm1,mA,aD.c,aX.c,aO.c,Action.c,aK.c,aU.c,dW.c,aZ.c,Node.c,aH.c,dh.c]<;>rfl)) (ih1 (i1+1) yF (bP++([bU])) (dn az) h)
  ·obtain⟨h63,h⟩:=bR h;exact((((je.r 5 h58).F 1).w (bf h63)).a [.cn [1,2,10,11,42,43,44] [3]]).cs hΓ cI (uD aC aa cS yF ((bP.map aX.c)++([[D.str bU.var,D.str bU.value]])) (IntKind.i64.wrap ((i1:Int)+1))) (by first| (simp only[iS az hm1,mA]<;>rfl)| (simp only[iS az hm1,mA,aD.c,aX.c,aO.c,Action.c,aK.c,aU.c,dW.c,aZ.c,Node.c,aH.c,dh.c]<;>rfl)) (ih1 (i1+1) yF (bP++([bU])) (dn az) h)
theorem Gw{aC:aT}{aa:Bytes}{cS:Bytes}{r:aT×Bool}(h:sZ aC aa cS=some r):Good prog 84 [D.sl (aC.map aX.c),D.str aa,D.str cS] (D.gL [D.fr 113 2 (r.1.map aX.c),D.bool r.2]):=by
 refine gd func84 [[some (113,2)],[none]] 76 fun hr Γ hΓ=>?_
 rw[sZ]at h;obtain⟨y1,h2,h⟩:=aB h;obtain⟨h3,h⟩|⟨h3,h⟩:=aM h
 ·cases h;exact(((aY.g (mY h2)).r 4 h3).T 5).ret hΓ
 ·obtain⟨y4,h5,h⟩:=aB h;have sX:=((((aY.g (mY h2)).r 2 h3).g (o4 h5)).r 2 h3)
  obtain⟨h6,h⟩|⟨h6,h⟩:=aM h
  ·cases h;exact((sX.r 4 h6).T 1).ret hΓ
  ·obtain⟨y7,h8,h⟩:=aB h;have vg:=(((sX.r 2 h6).g (ed h8)).r 2 h6)
   obtain⟨h9,h⟩|⟨h9,h⟩:=aM h
   ·cases h;exact(vg.b h9).ret hΓ
   ·obtain⟨Dh,h11,h⟩:=aB h;have zB:=((vg.b h9).g (uY h11))
    obtain⟨h12,h⟩|⟨h12,h⟩:=aM h
    ·obtain⟨h13,h⟩|⟨h13,h⟩:=aM h
     ·cases h;exact((zB.b h12).b h13).ret hΓ
     ·obtain⟨AK,h15,h⟩:=aB h;cases h;exact(((zB.b h12).b h13).g (tD h15)).ret hΓ
    ·obtain⟨h16,h⟩|⟨h16,h⟩:=aM h
     ·cases h;exact((zB.b h12).b h16).ret hΓ
     ·refine(((zB.b h12).b h16).a [.Kq 10,.cn [1,2,10,11,42,43,44] [0]]).lp hΓ (IB hΓ (fun RD cH h=>?_) (by have:=(gq.sl (hr _ (aE (i:=0) rfl))).1;simpa using this) aC 0 false ([]:aT) rfl h);obtain⟨h64,h⟩|⟨h64,h⟩:=aM h
      ·obtain⟨h65,h⟩:=bR h;cases h;exact((aY.b h64).w (bf h65)).rts hΓ (D.gL [D.fr 113 2 ((cH.map aX.c)++([[D.str aa,D.str cS]])),D.bool true]) (by first|rfl| (simp only[mA]<;>rfl)| (simp only[bw,mA]<;>rfl))
      ·cases h;exact(aY.b h64).ret hΓ
def jQ(aC:aD)(aa:aD)(k1:aT->Option (aT×Bool)):aG->Nat->aT->Option (aT×Bool)
 | [],i1,bV=>(k1 bV)
 |bU::cQ,i1,bV=>((fP bU).bind fun ZD=>(bif ZD then((iP aa.args (i1:Int)).bind fun x83=>(bif !((bU:Bytes)==x83)then(some ([],false))else(jQ aC aa k1 cQ (i1+1) bV)))else((iP aa.args (i1:Int)).bind fun x86=>((sZ bV bU x86).bind fun y88=>(bif !(y88.2)then(some ([],false))else(jQ aC aa k1 cQ (i1+1) y88.1))))))
def jD(aC:aD)(aa:aD)(cS:aT):Option (aT×Bool):=((jB aC).bind fun y1=>(bif !(y1)then(some ([],false))else((ol aa).bind fun y4=>(bif !(y4)then(some ([],false))else((kU cS).bind fun y7=>(bif !(y7)then(some ([],false))else(bif !((aC.rel:Bytes)==aa.rel)then(some ([],false))else(bif (((aC.args.map tx).length:Int):Int) != ((aa.args.map tx).length:Int)then(some ([],false))else((jF cS).bind fun Pj=>(jQ aC aa (fun(cH:aT)=>(some (cH,true))) aC.args 0 Pj))))))))))
def Ff(aC:aD)(aa:aD)(W0:List aL)(dL:Int):St:=⟨[(4,D.ptr 0 0),(8,D.acc 1),(45,D.sl (aC.args.map tx)),(46,D.int .i64 ((aC.args.map tx).length:Int)),(47,D.int .i64 dL)],[Ob.box (aD.c aa),Ob.row .uq 113 2 W0]⟩
theorem E1(hΓ:Γ.nt=77){aC:aD}{aa:aD}{r:aT×Bool}{k1:aT->Option (aT×Bool)}(di:∀(cH:aT),k1 cH=some r->Ax Γ N f186 (.q [[some (113,2)],[none]] (D.gL [D.fr 113 2 (r.1.map aX.c),D.bool r.2])) [1,1,1,1] ⟨[(8,D.acc 0)],[Ob.row .uq 113 2 (cH.map aX.c)]⟩)(hm1:aC.args.length<=maxLen):∀(rest:aG) (i1:Nat) (bV:aT),aC.args.drop i1=rest->jQ aC aa k1 rest i1 bV=some r->Ar Γ N f186 (.q [[some (113,2)],[none]] (D.gL [D.fr 113 2 (r.1.map aX.c),D.bool r.2])) [1,1,1,0,1,0] (rest.length+1) (Ff aC aa (bV.map aX.c) (i1:Int)):=by
 intro rest
 induction rest with
 |nil=>
  intro i1 bV az h;rw[jQ]at h;refine aQ fun N1 cY cI=>?_
  exact((aY.ge tx az).a [.hl 0 [8] [1]]).ex hΓ cY (di bV h)
 |cons bU cQ ih1=>
  intro i1 bV az h;rw[jQ]at h;refine aQ fun N1 cY cI=>?_
  obtain⟨ZD,h81,h⟩:=aB h;have jj:=(((aY.lt tx az).l (bJ tx 1 (dc az) rfl)).g (ed h81))
  obtain⟨h82,h⟩|⟨h82,h⟩:=aM h
  ·obtain⟨x83,h84,h⟩:=aB h;have sX:=((jj.b h82).l (fO tx 1 h84 rfl))
   obtain⟨h85,h⟩|⟨h85,h⟩:=aM h
   ·cases h;exact(sX.b h85).ret hΓ
   ·exact((sX.b h85).a [.cn [4,8,45,46,47] [0,1]]).ct hΓ cI (iS az hm1) (ih1 (i1+1) bV (dn az) h)
  ·obtain⟨x86,h87,h⟩:=aB h;obtain⟨y88,h89,h⟩:=aB h;have vg:=(((jj.b h82).l (fO tx 1 h87 rfl)).g (Gw h89))
   obtain⟨h90,h⟩|⟨h90,h⟩:=aM h
   ·cases h;exact(vg.b h90).ret hΓ
   ·exact((vg.b h90).a [.cn [4,8,45,46,47] [0,2]]).ct hΓ cI (iS az hm1) (ih1 (i1+1) y88.1 (dn az) h)
theorem pU{aC:aD}{aa:aD}{cS:aT}{r:aT×Bool}(h:jD aC aa cS=some r):Good prog 186 [D.agg (aD.c aC),D.agg (aD.c aa),D.sl (cS.map aX.c)] (D.gL [D.fr 113 2 (r.1.map aX.c),D.bool r.2]):=by
 refine gd func186 [[some (113,2)],[none]] 77 fun hr Γ hΓ=>?_
 rw[jD]at h;obtain⟨y1,h2,h⟩:=aB h;obtain⟨h3,h⟩|⟨h3,h⟩:=aM h
 ·cases h;exact(((aY.g (jo h2)).r 4 h3).T 19).ret hΓ
 ·obtain⟨y4,h5,h⟩:=aB h;have zB:=((((aY.g (jo h2)).r 2 h3).g (vH h5)).r 2 h3)
  obtain⟨h6,h⟩|⟨h6,h⟩:=aM h
  ·cases h;exact((zB.r 4 h6).T 15).ret hΓ
  ·obtain⟨y7,h8,h⟩:=aB h;have Ez:=(((zB.r 2 h6).g (mY h8)).r 2 h6)
   obtain⟨h9,h⟩|⟨h9,h⟩:=aM h
   ·cases h;exact((Ez.r 6 h9).T 9).ret hΓ
   ·have Kn:=(Ez.r 6 h9)
    obtain⟨h10,h⟩|⟨h10,h⟩:=aM h
    ·cases h;exact((Kn.r 8 h10).T 1).ret hΓ
    ·have Bk:=(Kn.r 8 h10)
     obtain⟨h11,h⟩|⟨h11,h⟩:=aM h
     ·cases h;exact(Bk.b h11).ret hΓ
     ·obtain⟨Pj,h13,h⟩:=aB h;refine(((Bk.b h11).g (tD h13)).a [.cn [4,8,45,46,47] [1,2]]).lp hΓ (E1 hΓ (fun cH h=>?_) (by have:=(gq.sl (gq.agg (hr _ (aE (i:=0) rfl)) (.sl (aC.args.map tx)) (by simp))).1;simpa using this) aC.args 0 Pj rfl h);cases h;exact aY.ret hΓ
def fy(aC:aD)(aa:aT)(cS:aJ)(k1:aJ->Option aJ):aJ->Nat->aJ->Option aJ
 | [],i1,bV=>(k1 bV)
 |bU::cQ,i1,bV=>((jD aC bU aa).bind fun Yu=>(bif Yu.2 then((eD bU).bind fun Gr=>(bif room ((bV.map aD.c).length+([[D.str Gr.rel,D.sl (Gr.args.map tx)]]).length) 40 then(fy aC aa cS k1 cQ (i1+1) (bV++([Gr])))else none))else(fy aC aa cS k1 cQ (i1+1) bV)))
def iR(aC:aD)(aa:aT)(cS:aJ):Option aJ:=(fy aC aa cS (fun(cH:aJ)=>(some cH)) cS 0 ([]:aJ))
def vX(aC:aD)(aa:aT)(cS:aJ)(W0:List aL)(dL:Int):St:=⟨[(1,D.sl (aa.map aX.c)),(3,D.ptr 0 0),(7,D.acc 1),(12,D.sl (cS.map aD.c)),(13,D.int .i64 ((cS.map aD.c).length:Int)),(14,D.int .i64 dL)],[Ob.box (aD.c aC),Ob.row .uq 43 2 W0]⟩
theorem Ap(hΓ:Γ.nt=33){aC:aD}{aa:aT}{cS:aJ}{r:aJ}{k1:aJ->Option aJ}(di:∀(cH:aJ),k1 cH=some r->Ax Γ N f178 (.q [[some (43,2)]] (D.fr 43 2 (r.map aD.c))) [1,1,1] ⟨[(7,D.acc 0)],[Ob.row .uq 43 2 (cH.map aD.c)]⟩)(hm1:cS.length<=maxLen):∀(rest:aJ) (i1:Nat) (bV:aJ),cS.drop i1=rest->fy aC aa cS k1 rest i1 bV=some r->Ar Γ N f178 (.q [[some (43,2)]] (D.fr 43 2 (r.map aD.c))) [1,1,0,1,0] (rest.length+1) (vX aC aa cS (bV.map aD.c) (i1:Int)):=by
 intro rest
 induction rest with
 |nil=>
  intro i1 bV az h;rw[fy]at h;refine aQ fun N1 cY cI=>?_
  exact((aY.ge aD.c az).a [.hl 0 [7] [1]]).ex hΓ cY (di bV h)
 |cons bU cQ ih1=>
  intro i1 bV az h;rw[fy]at h;refine aQ fun N1 cY cI=>?_
  obtain⟨Yu,h43,h⟩:=aB h;have fk:=(((aY.lt aD.c az).l (bJ aD.c 2 (dc az) rfl)).g (pU h43))
  obtain⟨h44,h⟩|⟨h44,h⟩:=aM h
  ·obtain⟨Gr,h46,h⟩:=aB h;obtain⟨h47,h⟩:=bR h;exact((((fk.b h44).g (gP h46)).w (bf h47)).a [.cn [1,3,7,12,13,14] [0,6]]).cs hΓ cI (vX aC aa cS ((bV.map aD.c)++([[D.str Gr.rel,D.sl (Gr.args.map tx)]])) (IntKind.i64.wrap ((i1:Int)+1))) (by first| (simp only[iS az hm1,mA]<;>rfl)| (simp only[iS az hm1,mA,aD.c,aX.c,aO.c,Action.c,aK.c,aU.c,dW.c,aZ.c,Node.c,aH.c,dh.c]<;>rfl)) (ih1 (i1+1) (bV++([Gr])) (dn az) h)
  ·exact((fk.b h44).a [.cn [1,3,7,12,13,14] [0,1]]).ct hΓ cI (iS az hm1) (ih1 (i1+1) bV (dn az) h)
theorem mW{aC:aD}{aa:aT}{cS:aJ}{r:aJ}(h:iR aC aa cS=some r):Good prog 178 [D.agg (aD.c aC),D.sl (aa.map aX.c),D.sl (cS.map aD.c)] (D.fr 43 2 (r.map aD.c)):=by
 refine gd func178 [[some (43,2)]] 33 fun hr Γ hΓ=>?_
 rw[iR]at h;refine(aY.a [.Kq 7,.cn [1,3,7,12,13,14] [0,1]]).lp hΓ (Ap hΓ (fun cH h=>?_) (by have:=(gq.sl (hr _ (aE (i:=2) rfl))).1;simpa using this) cS 0 ([]:aJ) rfl h);have h:=aN h;subst h;exact aY.ret hΓ
def n8(aC:aH)(k1:bC->Option ai):Nat->Int->bC->Option ai
 |0,_,_=>none
 |n1+1,vr,bV=>(bif room ((bV.map iM).length+([[D.int .i64 vr]]).length) 8 then((iP aC.nodes vr).bind fun x19=>(bif decide ((x19.parent:Int)<1)then(k1 (bV++([vr])))else(bif decide ((x19.parent:Int)>=vr)then(k1 (bV++([vr])))else(n8 aC k1 n1 x19.parent (bV++([vr]))))))else none)
def kV(aC:aH)(jM:bC)(k2:ai->Option ai):Nat->Int->ai->Option ai
 |0,_,_=>none
 |n2+1,LL,Mm=>(bif decide ((LL:Int)>=0)then((iP jM LL).bind fun x72=>((iP aC.nodes x72).bind fun x74=>((fH x74.cond).bind fun VI=>(bif room ((Mm.map aO.c).length+([[D.int .i64 VI.kind,D.str VI.pat.rel,D.sl (VI.pat.args.map tx),D.str VI.left,D.str VI.right]]).length) 80 then(kV aC jM k2 n2 (IntKind.i64.wrap (LL-1)) (Mm++([VI])))else none))))else(k2 Mm))
def ul(aC:aH)(aa:Int):Option ai:=(bif decide ((aa:Int)<1)then(some ([]))else(bif decide ((aa:Int)>=((aC.nodes.map Node.c).length:Int))then(some ([]))else(n8 aC (fun(jM:bC)=>(kV aC jM (fun(LI:ai)=>(some LI)) fuel (IntKind.i64.wrap (((jM.map iM).length:Int)-1)) ([]:ai))) fuel aa ([]:bC))))
def BJ(aC:aH)(vr:Int)(W1:List aL):St:=⟨[(1,D.int .i64 vr),(2,D.ptr 0 0),(5,D.acc 1)],[Ob.box (aH.c aC),Ob.row .uq 3 1 W1]⟩
theorem II(hΓ:Γ.nt=57){aC:aH}{r:ai}{k1:bC->Option ai}(di:∀(jM:bC),k1 jM=some r->Ax Γ N f179 (.q [[some (71,5)]] (D.fr 71 5 (r.map aO.c))) [1,1,1,1] ⟨[(2,D.ptr 0 0),(5,D.acc 1)],[Ob.box (aH.c aC),Ob.row .uq 3 1 (jM.map iM)]⟩):∀(n1:Nat) (vr:Int) (bV:bC),n8 aC k1 n1 vr bV=some r->Ar Γ N f179 (.q [[some (71,5)]] (D.fr 71 5 (r.map aO.c))) [1,1,1,0,0] n1 (BJ aC vr (bV.map iM)):=by
 intro n
 induction n with
 |zero=>intro vr bV h;simp[n8]at h
 |succ n1 ih1=>
  intro vr bV h;rw[n8]at h;refine aQ fun N1 cY cI=>?_
  obtain⟨h18,h⟩:=bR h;obtain⟨x19,h20,h⟩:=aB h;have je:=((aY.w (bf h18)).l (fO Node.c 8 h20 rfl))
  obtain⟨h21,h⟩|⟨h21,h⟩:=aM h
  ·exact(((je.r 4 h21).T 1).a [.hl 0 [2,5] [0,3]]).exs hΓ cY ⟨[(2,D.ptr 0 0),(5,D.acc 1)],[Ob.box (aH.c aC),Ob.row .uq 3 1 ((bV.map iM)++([[D.int .i64 vr]]))]⟩ (by first| (simp only[mA]<;>rfl)| (simp only[mA,aD.c,aX.c,aO.c,Action.c,aK.c,aU.c,dW.c,aZ.c,Node.c,aH.c,dh.c]<;>rfl)) (di (bV++([vr])) h)
  ·have jj:=(je.r 4 h21)
   obtain⟨h22,h⟩|⟨h22,h⟩:=aM h
   ·exact((jj.b h22).a [.hl 0 [2,5] [0,3]]).exs hΓ cY ⟨[(2,D.ptr 0 0),(5,D.acc 1)],[Ob.box (aH.c aC),Ob.row .uq 3 1 ((bV.map iM)++([[D.int .i64 vr]]))]⟩ (by first| (simp only[mA]<;>rfl)| (simp only[mA,aD.c,aX.c,aO.c,Action.c,aK.c,aU.c,dW.c,aZ.c,Node.c,aH.c,dh.c]<;>rfl)) (di (bV++([vr])) h)
   ·exact((jj.b h22).a [.cn [1,2,5] [0,3]]).cs hΓ cI (BJ aC x19.parent ((bV.map iM)++([[D.int .i64 vr]]))) (by first| (simp only[mA]<;>rfl)| (simp only[mA,aD.c,aX.c,aO.c,Action.c,aK.c,aU.c,dW.c,aZ.c,Node.c,aH.c,dh.c]<;>rfl)) (ih1 x19.parent (bV++([vr])) h)
def BK(aC:aH)(jM:bC)(LL:Int)(W1:List aL):St:=⟨[(2,D.ptr 0 0),(5,D.acc 1),(7,D.acc 2),(8,D.int .i64 LL)],[Ob.box (aH.c aC),Ob.row .uq 3 1 (jM.map iM),Ob.row .uq 71 5 W1]⟩
theorem IJ(hΓ:Γ.nt=57){aC:aH}{jM:bC}{r:ai}{k2:ai->Option ai}(AJ:∀(LI:ai),k2 LI=some r->Ax Γ N f179 (.q [[some (71,5)]] (D.fr 71 5 (r.map aO.c))) [1,1,1,1,1,1] ⟨[(7,D.acc 0)],[Ob.row .uq 71 5 (LI.map aO.c)]⟩):∀(n2:Nat) (LL:Int) (Mm:ai),kV aC jM k2 n2 LL Mm=some r->Ar Γ N f179 (.q [[some (71,5)]] (D.fr 71 5 (r.map aO.c))) [1,1,1,1,1,0,1,0] n2 (BK aC jM LL (Mm.map aO.c)):=by
 intro n
 induction n with
 |zero=>intro LL Mm h;simp[kV]at h
 |succ n2 ih2=>
  intro LL Mm h;rw[kV]at h;refine aQ fun N2 ue sB=>?_
  obtain⟨h65,h⟩|⟨h65,h⟩:=aM h
  ·obtain⟨x72,h73,h⟩:=aB h;obtain⟨x74,h75,h⟩:=aB h;obtain⟨VI,h77,h⟩:=aB h;obtain⟨h78,h⟩:=bR h;exact((((((((aY.b h65).a [.n2 [0,1,2,3,4,5,6,7,8,9,10,11,12,13] [0,1,2,3,4,5,6,7,8,9,10,11,12,13] 11 12 [0] [3]]).i (gl iM 1 h73)).o 1 1 .uq (cR iM (eW h73))).l (fO Node.c 8 h75 rfl)).g (kY h77)).w (bf h78)).a [.cn [2,5,7,8] [0,1,5]]).cs hΓ sB (BK aC jM (IntKind.i64.wrap (LL-1)) ((Mm.map aO.c)++([[D.int .i64 VI.kind,D.str VI.pat.rel,D.sl (VI.pat.args.map tx),D.str VI.left,D.str VI.right]]))) (by first| (simp only[mA]<;>rfl)| (simp only[mA,aD.c,aX.c,aO.c,Action.c,aK.c,aU.c,dW.c,aZ.c,Node.c,aH.c,dh.c]<;>rfl)) (ih2 (IntKind.i64.wrap (LL-1)) (Mm++([VI])) h)
  ·exact((aY.b h65).a [.hl 0 [7] [2]]).ex hΓ ue (AJ Mm h)
theorem vI{aC:aH}{aa:Int}{r:ai}(h:ul aC aa=some r):Good prog 179 [D.agg (aH.c aC),D.int .i64 aa] (D.fr 71 5 (r.map aO.c)):=by
 refine gd func179 [[some (71,5)]] 57 fun hr Γ hΓ=>?_
 rw[ul]at h;obtain⟨h1,h⟩|⟨h1,h⟩:=aM h
 ·cases h;exact((aY.r 6 h1).T 1).ret hΓ
 ·have sX:=(aY.r 6 h1)
  obtain⟨h2,h⟩|⟨h2,h⟩:=aM h
  ·cases h;exact(sX.b h2).ret hΓ
  ·refine((sX.b h2).a [.Kq 5,.cn [1,2,5] [0,1]]).lp hΓ (II hΓ (fun jM h=>?_) fuel aa ([]:bC) h);refine(aY.a [.Kq 7,.cn [2,5,7,8] [0,1,2]]).lp hΓ (IJ hΓ (fun LI h=>?_) fuel (IntKind.i64.wrap (((jM.map iM).length:Int)-1)) ([]:ai) h);have h:=aN h;subst h;exact aY.ret hΓ
def uk(aC:aO):Option Bool:=((qZ aC).bind fun y1=>(bif y1 then(some (decide ((aC.kind:Int)>=3)))else(some false)))
theorem za{aC:aO}{r:Bool}(h:uk aC=some r):Good prog 240 [D.agg (aO.c aC)] (D.bool r):=by
 refine gd func240 [[none]] 10 fun hr Γ hΓ=>?_
 rw[uk]at h;obtain⟨y1,h2,h⟩:=aB h;obtain⟨h3,h⟩|⟨h3,h⟩:=aM h
 ·cases h;exact((aY.g (pM h2)).r 4 h3).ret hΓ
 ·have h:=aN h;subst h;exact((aY.g (pM h2)).r 4 h3).ret hΓ
def rD(aC:aO)(aa:aT):Option Bool:=((uk aC).bind fun y1=>(bif !(y1)then(some false)else((kU aa).bind fun y4=>(bif !(y4)then(some false)else((pN aa aC.left).bind fun y7=>((pN aa aC.right).bind fun y9=>(bif !(y7.2)then(some false)else(bif !(y9.2)then(some false)else(bif (aC.kind:Int)==3 then(some ((y7.1:Bytes)==y9.1))else(bif (aC.kind:Int)==4 then(some (!((y7.1:Bytes)==y9.1)))else((mO y7.1).bind fun Hw=>((mO y9.1).bind fun Sl=>(bif Hw.2 then(bif Sl.2 then(some (decide ((Hw.1:Int)<Sl.1)))else(some false))else(some false))))))))))))))
theorem D6{aC:aO}{aa:aT}{r:Bool}(h:rD aC aa=some r):Good prog 230 [D.agg (aO.c aC),D.sl (aa.map aX.c)] (D.bool r):=by
 refine gd func230 [[none]] 70 fun hr Γ hΓ=>?_
 rw[rD]at h;obtain⟨y1,h2,h⟩:=aB h;obtain⟨h3,h⟩|⟨h3,h⟩:=aM h
 ·have h:=aN h;subst h;exact(((aY.g (za h2)).r 4 h3).T 1).ret hΓ
 ·obtain⟨y4,h5,h⟩:=aB h;have nP:=((((aY.g (za h2)).r 2 h3).g (mY h5)).r 2 h3)
  obtain⟨h6,h⟩|⟨h6,h⟩:=aM h
  ·have h:=aN h;subst h;exact(nP.b h6).ret hΓ
  ·obtain⟨y7,h8,h⟩:=aB h;obtain⟨y9,h10,h⟩:=aB h;have fk:=(((nP.b h6).g (uY h8)).g (uY h10))
   obtain⟨h11,h⟩|⟨h11,h⟩:=aM h
   ·have h:=aN h;subst h;exact((fk.r 3 h11).T 1).ret hΓ
   ·have je:=(fk.r 3 h11)
    obtain⟨h12,h⟩|⟨h12,h⟩:=aM h
    ·have h:=aN h;subst h;exact(je.b h12).ret hΓ
    ·obtain⟨h13,h⟩|⟨h13,h⟩:=aM h
     ·cases h;exact((je.b h12).b h13).ret hΓ
     ·have jj:=((je.b h12).b h13)
      obtain⟨h14,h⟩|⟨h14,h⟩:=aM h
      ·cases h;exact(jj.b h14).ret hΓ
      ·obtain⟨Hw,h16,h⟩:=aB h;obtain⟨Sl,h18,h⟩:=aB h;have sX:=(((jj.b h14).g (qF h16)).g (qF h18))
       obtain⟨h19,h⟩|⟨h19,h⟩:=aM h
       ·have vg:=(sX.r 2 h19)
        obtain⟨h20,h⟩|⟨h20,h⟩:=aM h
        ·cases h;exact(vg.r 4 h20).ret hΓ
        ·have h:=aN h;subst h;exact(vg.r 4 h20).ret hΓ
       ·have h:=aN h;subst h;exact((sX.r 2 h19).F 4).ret hΓ
def rC(aC:aO)(aa:aT)(cS:aJ):Option Bool:=((qZ aC).bind fun y1=>(bif !(y1)then(some false)else((kU aa).bind fun y4=>(bif !(y4)then(some false)else(bif (aC.kind:Int)==1 then((iR aC.pat aa cS).bind fun y8=>(some (decide ((((y8.map aD.c).length:Int):Int)>0))))else(bif (aC.kind:Int)==2 then((iR aC.pat aa cS).bind fun B9=>(some ((((B9.map aD.c).length:Int):Int)==0)))else((rD aC aa).bind fun vD=>(some vD))))))))
theorem D5{aC:aO}{aa:aT}{cS:aJ}{r:Bool}(h:rC aC aa cS=some r):Good prog 215 [D.agg (aO.c aC),D.sl (aa.map aX.c),D.sl (cS.map aD.c)] (D.bool r):=by
 refine gd func215 [[none]] 38 fun hr Γ hΓ=>?_
 rw[rC]at h;obtain⟨y1,h2,h⟩:=aB h;obtain⟨h3,h⟩|⟨h3,h⟩:=aM h
 ·have h:=aN h;subst h;exact(((aY.g (pM h2)).r 4 h3).T 1).ret hΓ
 ·obtain⟨y4,h5,h⟩:=aB h;have nP:=((((aY.g (pM h2)).r 2 h3).g (mY h5)).r 2 h3)
  obtain⟨h6,h⟩|⟨h6,h⟩:=aM h
  ·have h:=aN h;subst h;exact(nP.b h6).ret hΓ
  ·obtain⟨h7,h⟩|⟨h7,h⟩:=aM h
   ·obtain⟨y8,h9,h⟩:=aB h;cases h;exact(((nP.b h6).b h7).g (mW h9)).ret hΓ
   ·have fk:=((nP.b h6).b h7)
    obtain⟨h10,h⟩|⟨h10,h⟩:=aM h
    ·obtain⟨B9,h12,h⟩:=aB h;cases h;exact((fk.b h10).g (mW h12)).ret hΓ
    ·obtain⟨vD,h14,h⟩:=aB h;have h:=aN h;subst h;exact((fk.b h10).g (D6 h14)).ret hΓ
def kG(aC:ai)(aa:aJ)(i2:Nat)(bP:ay)(lq:aU)(i1:Nat)(bU:aO)(k3:ay->Option ay):aJ->Nat->ay->Option ay
 | [],i3,yV=>(k3 yV)
 |RG::Pc,i3,yV=>((jD bU.pat RG lq.bind).bind fun O8=>(bif O8.2 then((cq lq.facts).bind fun O9=>((eD RG).bind fun Jg=>(bif room ((O9.map aD.c).length+([[D.str Jg.rel,D.sl (Jg.args.map tx)]]).length) 40 then(bif room ((yV.map aU.c).length+([[D.sl ((O9.map aD.c)++([[D.str Jg.rel,D.sl (Jg.args.map tx)]])),D.sl (O8.1.map aX.c)]]).length) 48 then(kG aC aa i2 bP lq i1 bU k3 Pc (i3+1) (yV++([(⟨O9++([Jg]),O8.1⟩:aU)])))else none)else none)))else(kG aC aa i2 bP lq i1 bU k3 Pc (i3+1) yV)))
def fR(aC:ai)(aa:aJ)(bP:ay)(i1:Nat)(bU:aO)(k2:ay->Option ay):ay->Nat->ay->Option ay
 | [],i2,jy=>(k2 jy)
 |lq::tR,i2,jy=>(bif (bU.kind:Int) != 1 then((rC bU lq.bind aa).bind fun a2A=>(bif a2A then(bif room ((jy.map aU.c).length+([[D.sl (lq.facts.map aD.c),D.sl (lq.bind.map aX.c)]]).length) 48 then(fR aC aa bP i1 bU k2 tR (i2+1) (jy++([lq])))else none)else(fR aC aa bP i1 bU k2 tR (i2+1) jy)))else(bif decide (aa.length<=maxLen)then(kG aC aa i2 bP lq i1 bU (fun(Us:ay)=>(fR aC aa bP i1 bU k2 tR (i2+1) Us)) aa 0 jy)else none))
def kF(aC:ai)(aa:aJ)(k1:ay->Option ay):ai->Nat->ay->Option ay
 | [],i1,bP=>(k1 bP)
 |bU::cQ,i1,bP=>(bif decide (bP.length<=maxLen)then(fR aC aa bP i1 bU (fun(LI:ay)=>(kF aC aa k1 cQ (i1+1) LI)) bP 0 ([]:ay))else none)
def sM(aC:ai)(aa:aJ):Option ay:=(kF aC aa (fun(cH:ay)=>(some cH)) aC 0 ([(⟨[],[]⟩:aU)]))
def zh(aC:ai)(aa:aJ)(W0:List aL)(dL:Int):St:=⟨[(1,D.sl (aa.map aD.c)),(5,D.acc 0),(17,D.sl (aC.map aO.c)),(18,D.int .i64 ((aC.map aO.c).length:Int)),(19,D.int .i64 dL)],[Ob.row .uq 77 2 W0]⟩
def zi(aC:ai)(aa:aJ)(bP:ay)(i1:Nat)(bU:aO)(W0:List aL)(a9K:Nat)(dL:Int):St:=⟨[(1,D.sl (aa.map aD.c)),(7,D.ptr 0 0),(8,D.acc 1),(17,D.sl (aC.map aO.c)),(18,D.int .i64 ((aC.map aO.c).length:Int)),(19,D.int .i64 (i1:Int)),(23,D.acc 2),(24,D.int .i64 ((bP.map aU.c).length:Int)),(25,D.int .i64 dL)],[Ob.box [D.int .i64 bU.kind,D.str bU.pat.rel,D.sl (bU.pat.args.map tx),D.str bU.left,D.str bU.right],Ob.row .uq 77 2 W0,Ob.row (.mv a9K) 77 2 (bP.map aU.c)]⟩
def zj(aC:ai)(aa:aJ)(i2:Nat)(bP:ay)(lq:aU)(i1:Nat)(bU:aO)(W0:List aL)(dL:Int):St:=⟨[(1,D.sl (aa.map aD.c)),(7,D.ptr 0 0),(8,D.acc 1),(10,D.ptr 2 0),(17,D.sl (aC.map aO.c)),(18,D.int .i64 ((aC.map aO.c).length:Int)),(19,D.int .i64 (i1:Int)),(23,D.acc 3),(24,D.int .i64 ((bP.map aU.c).length:Int)),(25,D.int .i64 (i2:Int)),(41,D.sl (aa.map aD.c)),(42,D.int .i64 ((aa.map aD.c).length:Int)),(43,D.int .i64 dL)],[Ob.box [D.int .i64 bU.kind,D.str bU.pat.rel,D.sl (bU.pat.args.map tx),D.str bU.left,D.str bU.right],Ob.row .uq 77 2 W0,Ob.box [D.acc 4,D.acc 5],Ob.row (.mv (i2+1)) 77 2 (bP.map aU.c),Ob.tk (lq.facts.map aD.c),Ob.tk (lq.bind.map aX.c)]⟩
theorem Fy(hΓ:Γ.nt=74){aC:ai}{aa:aJ}{i2:Nat}{bP:ay}{lq:aU}{i1:Nat}{bU:aO}{r:ay}{k3:ay->Option ay}(Zm:∀(Us:ay),k3 Us=some r->Ax Γ N f175 (.q [[some (77,2)]] (D.fr 77 2 (r.map aU.c))) [1,1,0,1,0,0,1,1,0,0,1,1,0,1,0,0,1,1,1] ⟨[(1,D.sl (aa.map aD.c)),(7,D.ptr 0 0),(8,D.acc 1),(17,D.sl (aC.map aO.c)),(18,D.int .i64 ((aC.map aO.c).length:Int)),(19,D.int .i64 (i1:Int)),(23,D.acc 2),(24,D.int .i64 ((bP.map aU.c).length:Int)),(25,D.int .i64 (i2:Int))],[Ob.box [D.int .i64 bU.kind,D.str bU.pat.rel,D.sl (bU.pat.args.map tx),D.str bU.left,D.str bU.right],Ob.row .uq 77 2 (Us.map aU.c),Ob.row (.mv (i2+1)) 77 2 (bP.map aU.c)]⟩)(Rm:aa.length<=maxLen):∀(rest:aJ) (i3:Nat) (yV:ay),aa.drop i3=rest->kG aC aa i2 bP lq i1 bU k3 rest i3 yV=some r->Ar Γ N f175 (.q [[some (77,2)]] (D.fr 77 2 (r.map aU.c))) [1,1,0,1,0,0,1,1,0,0,1,1,0,1,0,0,1,1,0,0,1,1,1,0] (rest.length+1) (zj aC aa i2 bP lq i1 bU (yV.map aU.c) (i3:Int)):=by
 intro rest
 induction rest with
 |nil=>
  intro i3 yV z8 h;rw[kG]at h;refine aQ fun N3 TN OW=>?_
  exact((aY.ge aD.c z8).a [.hl 8 [1,7,8,17,18,19,23,24,25] [0,1,3]]).ex hΓ TN (Zm yV h)
 |cons RG Pc ih3=>
  intro i3 yV z8 h;rw[kG]at h;refine aQ fun N3 TN OW=>?_
  obtain⟨O8,h3513,h⟩:=aB h;have a6I:=(((aY.lt aD.c z8).l (bJ aD.c 2 (dc z8) rfl)).g (pU h3513))
  obtain⟨h3514,h⟩|⟨h3514,h⟩:=aM h
  ·obtain⟨O9,h3521,h⟩:=aB h;obtain⟨Jg,h3523,h⟩:=aB h;obtain⟨h3524,h⟩:=bR h;obtain⟨h3525,h⟩:=bR h;exact(((((((a6I.b h3514).a [.n2 [0,1,2,3,4,5,8,6,7,9,10,11,12] [0,1,2,3,4,5,7,8,6,9,10,11,12] 7 11 [0,6] [7,8,9,10,11]]).g (ew h3521)).g (gP h3523)).w (bf h3524)).w (bf h3525)).a [.cn [1,7,8,10,17,18,19,23,24,25,41,42,43] [0,13,2,3,4,5]]).cs hΓ OW (zj aC aa i2 bP lq i1 bU ((yV.map aU.c)++([[D.sl ((O9.map aD.c)++([[D.str Jg.rel,D.sl (Jg.args.map tx)]])),D.sl (O8.1.map aX.c)]])) (IntKind.i64.wrap ((i3:Int)+1))) (by first| (simp only[iS z8 Rm,mA]<;>rfl)| (simp only[iS z8 Rm,mA,aD.c,aX.c,aO.c,Action.c,aK.c,aU.c,dW.c,aZ.c,Node.c,aH.c,dh.c]<;>rfl)) (ih3 (i3+1) (yV++([(⟨O9++([Jg]),O8.1⟩:aU)])) (dn z8) h)
  ·exact((a6I.b h3514).a [.cn [1,7,8,10,17,18,19,23,24,25,41,42,43] [0,1,2,3,4,5]]).ct hΓ OW (iS z8 Rm) (ih3 (i3+1) yV (dn z8) h)
theorem Fx(hΓ:Γ.nt=74){aC:ai}{aa:aJ}{bP:ay}{i1:Nat}{bU:aO}{r:ay}{k2:ay->Option ay}(AJ:∀(LI:ay),k2 LI=some r->Ax Γ N f175 (.q [[some (77,2)]] (D.fr 77 2 (r.map aU.c))) [1,1,0,1,0,0,1,1,0,0,1,1,1] ⟨[(1,D.sl (aa.map aD.c)),(8,D.acc 0),(17,D.sl (aC.map aO.c)),(18,D.int .i64 ((aC.map aO.c).length:Int)),(19,D.int .i64 (i1:Int))],[Ob.row .uq 77 2 (LI.map aU.c)]⟩)(hm2:bP.length<=maxLen):∀(rest:ay) (i2:Nat) (jy:ay),bP.drop i2=rest->fR aC aa bP i1 bU k2 rest i2 jy=some r->Ar Γ N f175 (.q [[some (77,2)]] (D.fr 77 2 (r.map aU.c))) [1,1,0,1,0,0,1,1,0,0,1,1,0,1,0] (rest.length+1) (zi aC aa bP i1 bU (jy.map aU.c) i2 (i2:Int)):=by
 intro rest
 induction rest with
 |nil=>
  intro i2 jy hd2 h;rw[fR]at h;refine aQ fun N2 ue sB=>?_
  exact((aY.ge aU.c hd2).a [.hl 5 [1,8,17,18,19] [1]]).ex hΓ ue (AJ jy h)
 |cons lq tR ih2=>
  intro i2 jy hd2 h;rw[fR]at h;refine aQ fun N2 ue sB=>?_
  have a6J:=((((aY.lt aU.c hd2).i (nU aU.c 2 (dc hd2))).w (show i2=i2/\(bP.map aU.c)[i2]?=some [D.sl (lq.facts.map aD.c),D.sl (lq.bind.map aX.c)]/\PX [D.sl (lq.facts.map aD.c),D.sl (lq.bind.map aX.c)]=true from⟨rfl,cR aU.c (dc hd2),rfl⟩)).a [.tk [D.sl (lq.facts.map aD.c),D.sl (lq.bind.map aX.c)]])
  obtain⟨h3426,h⟩|⟨h3426,h⟩:=aM h
  ·obtain⟨a2A,h3428,h⟩:=aB h;have a6K:=((a6J.b h3426).g (D5 h3428))
   obtain⟨h3429,h⟩|⟨h3429,h⟩:=aM h
   ·obtain⟨h3430,h⟩:=bR h;exact(((a6K.b h3429).w (bf h3430)).a [.cn [1,7,8,17,18,19,23,24,25] [0,7,2]]).cs hΓ sB (zi aC aa bP i1 bU ((jy.map aU.c)++([[D.sl (lq.facts.map aD.c),D.sl (lq.bind.map aX.c)]])) (i2+1) (IntKind.i64.wrap ((i2:Int)+1))) (by first| (simp only[iS hd2 hm2,mA]<;>rfl)| (simp only[iS hd2 hm2,mA,aD.c,aX.c,aO.c,Action.c,aK.c,aU.c,dW.c,aZ.c,Node.c,aH.c,dh.c]<;>rfl)) (ih2 (i2+1) (jy++([lq])) (dn hd2) h)
   ·exact((a6K.b h3429).a [.cn [1,7,8,17,18,19,23,24,25] [0,1,2]]).ct hΓ sB (iS hd2 hm2) (ih2 (i2+1) jy (dn hd2) h)
  ·obtain⟨h3526,h⟩:=bR h;refine((a6J.b h3426).a [.cn [1,7,8,10,17,18,19,23,24,25,41,42,43] [0,1,5,2,3,4]]).lp hΓ (Fy hΓ (fun Us h=>?_) (bn h3526) aa 0 jy rfl h);exact(aY.a [.cn [1,7,8,17,18,19,23,24,25] [0,1,2]]).ct hΓ sB (iS hd2 hm2) (ih2 (i2+1) Us (dn hd2) h)
theorem Fw(hΓ:Γ.nt=74){aC:ai}{aa:aJ}{r:ay}{k1:ay->Option ay}(di:∀(cH:ay),k1 cH=some r->Ax Γ N f175 (.q [[some (77,2)]] (D.fr 77 2 (r.map aU.c))) [1,1,1] ⟨[(5,D.acc 0)],[Ob.row .uq 77 2 (cH.map aU.c)]⟩)(hm1:aC.length<=maxLen):∀(rest:ai) (i1:Nat) (bP:ay),aC.drop i1=rest->kF aC aa k1 rest i1 bP=some r->Ar Γ N f175 (.q [[some (77,2)]] (D.fr 77 2 (r.map aU.c))) [1,1,0,1,0] (rest.length+1) (zh aC aa (bP.map aU.c) (i1:Int)):=by
 intro rest
 induction rest with
 |nil=>
  intro i1 bP az h;rw[kF]at h;refine aQ fun N1 cY cI=>?_
  exact((aY.ge aO.c az).a [.hl 0 [5] [0]]).ex hΓ cY (di bP h)
 |cons bU cQ ih1=>
  intro i1 bP az h;rw[kF]at h;refine aQ fun N1 cY cI=>?_
  obtain⟨h3527,h⟩:=bR h;refine(((aY.lt aO.c az).l (bJ aO.c 5 (dc az) rfl)).a [.Kq 8,.mz 0,.cn [1,7,8,17,18,19,23,24,25] [1,2,0]]).lp hΓ (Fx hΓ (fun LI h=>?_) (bn h3527) bP 0 ([]:ay) rfl h);exact(aY.a [.cn [1,5,17,18,19] [0]]).ct hΓ cI (iS az hm1) (ih1 (i1+1) LI (dn az) h)
theorem EI{aC:ai}{aa:aJ}{r:ay}(h:sM aC aa=some r):Good prog 175 [D.sl (aC.map aO.c),D.sl (aa.map aD.c)] (D.fr 77 2 (r.map aU.c)):=by
 refine gd func175 [[some (77,2)]] 74 fun hr Γ hΓ=>?_
 rw[sM]at h;refine(aY.a [.cn [1,5,17,18,19] [0]]).lps hΓ (zh aC aa ([[D.sl ([]),D.sl ([])]]) 0) (by first| (simp only[mA]<;>rfl)| (simp only[mA,aD.c,aX.c,aO.c,Action.c,aK.c,aU.c,dW.c,aZ.c,Node.c,aH.c,dh.c]<;>rfl)) (Fw hΓ (fun cH h=>?_) (by have:=(gq.sl (hr _ (aE (i:=0) rfl))).1;simpa using this) aC 0 ([(⟨[],[]⟩:aU)]) rfl h);have h:=aN h;subst h;exact aY.ret hΓ
def fC(aC:aH)(aa:aJ)(y1:aJ)(k1:bK->Option (aH×Unit)):bK->Nat->bK->Option (aH×Unit)
 | [],i1,cg=>(k1 cg)
 |bU::cQ,i1,cg=>(bif decide (i1<(cg.map aZ.c).length)then(((cg)[i1]?).bind fun x35=>((iR x35.shape ([]) aa).bind fun OA=>(bif decide (i1<(cg.map aZ.c).length)then(fC aC aa y1 k1 cQ (i1+1) (cg.set i1 (⟨x35.shape,OA⟩:aZ)))else none)))else none)
def eG(aC:aH)(aa:aJ)(y1:aJ)(eM:bK)(k2:Option (aH×Unit)):bE->Nat->bE->Option (aH×Unit)
 | [],i2,jz=>(some ((⟨aC.rules,aC.ends,eM,jz,y1,aC.bp⟩:aH),()))
 |lq::tR,i2,jz=>((ul (⟨aC.rules,aC.ends,eM,jz,y1,aC.bp⟩:aH) (i2:Int)).bind fun LM=>((sM LM aa).bind fun Sg=>(bif decide (i2<(jz.map Node.c).length)then(((jz)[i2]?).bind fun x107=>(eG aC aa y1 eM k2 tR (i2+1) (jz.set i2 (⟨x107.parent,x107.cond,x107.cj,Sg⟩:Node))))else none)))
def j9(aC:aH)(aa:aJ):Option (aH×Unit):=((cq aa).bind fun y1=>(bif decide (aC.au.length<=maxLen)then(fC aC aa y1 (fun(eM:bK)=>(bif decide (aC.nodes.length<=maxLen)then(eG aC aa y1 eM none aC.nodes 0 aC.nodes)else none)) aC.au 0 aC.au)else none))
def uT(iC:Value)(aC:aH)(aa:aJ)(y1:aJ)(W0:List aL)(dL:Int):St:=⟨[(0,D.ptr 0 0),(1,D.sl (aa.map aD.c)),(15,D.int .i64 ((aC.au.map aZ.c).length:Int)),(16,D.int .i64 dL)],[Ob.AA [D.acc 1,D.acc 2,D.acc 3,D.acc 4,D.acc 5,D.int .i64 aC.bp] iC,Ob.row .uq 63 4 (aC.rules.map aK.c),Ob.row .uq 3 1 (aC.ends.map iM),Ob.row .uq 83 3 W0,Ob.row .uq 74 8 (aC.nodes.map Node.c),Ob.row .uq 43 2 (y1.map aD.c)]⟩
theorem zY(hΓ:Γ.nt=60){iC:Value}{aC:aH}{aa:aJ}{y1:aJ}{r:aH×Unit}{k1:bK->Option (aH×Unit)}(di:∀(eM:bK),k1 eM=some r->Ax Γ N f107 (.p [[some (63,4),some (3,1),some (83,3),some (74,8),some (43,2),none]] iC (bw r.1) (D.gL [])) [1,1] ⟨[(0,D.ptr 0 0),(1,D.sl (aa.map aD.c))],[Ob.AA [D.acc 1,D.acc 2,D.acc 3,D.acc 4,D.acc 5,D.int .i64 aC.bp] iC,Ob.row .uq 63 4 (aC.rules.map aK.c),Ob.row .uq 3 1 (aC.ends.map iM),Ob.row .uq 83 3 (eM.map aZ.c),Ob.row .uq 74 8 (aC.nodes.map Node.c),Ob.row .uq 43 2 (y1.map aD.c)]⟩)(hm1:aC.au.length<=maxLen):∀(rest:bK) (i1:Nat) (cg:bK),aC.au.drop i1=rest->fC aC aa y1 k1 rest i1 cg=some r->Ar Γ N f107 (.p [[some (63,4),some (3,1),some (83,3),some (74,8),some (43,2),none]] iC (bw r.1) (D.gL [])) [1,0,1,0] (rest.length+1) (uT iC aC aa y1 (cg.map aZ.c) (i1:Int)):=by
 intro rest
 induction rest with
 |nil=>
  intro i1 cg az h;rw[fC]at h;refine aQ fun N1 cY cI=>?_
  exact((aY.ge aZ.c az).a [.hl 0 [0,1] [0,1,2,3,4,5]]).ex hΓ cY (di cg h)
 |cons bU cQ ih1=>
  intro i1 cg az h;rw[fC]at h;refine aQ fun N1 cY cI=>?_
  obtain⟨h34,h⟩:=bR h;obtain⟨x35,h36,h⟩:=aB h;obtain⟨OA,h38,h⟩:=aB h;obtain⟨h39,h⟩:=bR h;exact(((((((((aY.lt aZ.c az).a [.n 15]).i (SF 3 h34)).o 3 2 .uq (cR aZ.c h36)).a [.d (D.fr 43 2 (OA.map aD.c))]).w (show Good prog 178 [D.agg (aD.c x35.shape),D.sl ([]),D.sl (aa.map aD.c)] (D.fr 43 2 (OA.map aD.c))from by first| (simpa only[bA,bB,bZ,bX,bg]using mW h38)|exact mW h38)).i (SF 3 h39)).w (show(cg.map aZ.c)[i1]?=some [D.str x35.shape.rel,D.sl (x35.shape.args.map tx),D.sl (x35.facts.map aD.c)]from cR aZ.c h36)).a [.row [D.str x35.shape.rel,D.sl (x35.shape.args.map tx),D.sl (x35.facts.map aD.c)],.cn [0,1,15,16] [0,1,2,3,4,5]]).cs hΓ cI (uT iC aC aa y1 ((cg.map aZ.c).set i1 [D.str x35.shape.rel,D.sl (x35.shape.args.map tx),D.sl (OA.map aD.c)]) (IntKind.i64.wrap ((i1:Int)+1))) (by first| (simp only[iS az hm1,mA]<;>rfl)| (simp only[iS az hm1,mA,aD.c,aX.c,aO.c,Action.c,aK.c,aU.c,dW.c,aZ.c,Node.c,aH.c,dh.c]<;>rfl)) (ih1 (i1+1) (cg.set i1 (⟨x35.shape,OA⟩:aZ)) (dn az) h)
def uU(iC:Value)(aC:aH)(aa:aJ)(y1:aJ)(eM:bK)(W0:List aL)(dL:Int):St:=⟨[(0,D.ptr 0 0),(1,D.sl (aa.map aD.c)),(41,D.int .i64 ((aC.nodes.map Node.c).length:Int)),(42,D.int .i64 dL)],[Ob.AA [D.acc 1,D.acc 2,D.acc 3,D.acc 4,D.acc 5,D.int .i64 aC.bp] iC,Ob.row .uq 63 4 (aC.rules.map aK.c),Ob.row .uq 3 1 (aC.ends.map iM),Ob.row .uq 83 3 (eM.map aZ.c),Ob.row .uq 74 8 W0,Ob.row .uq 43 2 (y1.map aD.c)]⟩
theorem zZ(hΓ:Γ.nt=60){iC:Value}{aC:aH}{aa:aJ}{y1:aJ}{eM:bK}{r:aH×Unit}{k2:Option (aH×Unit)}(AJ:k2=some r->Ax Γ N f107 (.p [[some (63,4),some (3,1),some (83,3),some (74,8),some (43,2),none]] iC (bw r.1) (D.gL [])) [1,1,1,0,0] ⟨[],[]⟩)(hm2:aC.nodes.length<=maxLen):∀(rest:bE) (i2:Nat) (jz:bE),aC.nodes.drop i2=rest->eG aC aa y1 eM k2 rest i2 jz=some r->Ar Γ N f107 (.p [[some (63,4),some (3,1),some (83,3),some (74,8),some (43,2),none]] iC (bw r.1) (D.gL [])) [1,1,1,0] (rest.length+1) (uU iC aC aa y1 eM (jz.map Node.c) (i2:Int)):=by
 intro rest
 induction rest with
 |nil=>
  intro i2 jz hd2 h;rw[eG]at h;refine aQ fun N2 ue sB=>?_
  cases h;exact(aY.ge Node.c hd2).ret hΓ
 |cons lq tR ih2=>
  intro i2 jz hd2 h;rw[eG]at h;refine aQ fun N2 ue sB=>?_
  obtain⟨LM,h103,h⟩:=aB h;obtain⟨Sg,h105,h⟩:=aB h;obtain⟨h106,h⟩:=bR h;obtain⟨x107,h108,h⟩:=aB h;exact(((((((aY.lt Node.c hd2).a [.n2 [0,1,2,3,4,5,6,7,8,9,10,11,12,13,14] [0,1,2,3,4,5,6,7,8,9,10,11,12,13,14] 11 12 [0,1,2,3,4] [],.d (D.fr 71 5 (LM.map aO.c))]).w (show Good prog 179 [D.agg [D.sl (aC.rules.map aK.c),D.sl (aC.ends.map iM),D.sl (eM.map aZ.c),D.sl (jz.map Node.c),D.sl (y1.map aD.c),D.int .i64 aC.bp],D.int .i64 (i2:Int)] (D.fr 71 5 (LM.map aO.c))from by first| (simpa only[bA,bB,bZ,bX,bg]using vI h103)|exact vI h103| (have t:=vI h103;simp only[bA,bX,bg,aH.c]at t;exact t))).g (EI h105)).i (SF 8 h106)).w (show(jz.map Node.c)[i2]?=some [D.int .i64 x107.parent,D.int .i64 x107.cond.kind,D.str x107.cond.pat.rel,D.sl (x107.cond.pat.args.map tx),D.str x107.cond.left,D.str x107.cond.right,D.int .i64 x107.cj,D.sl (x107.tokens.map aU.c)]from cR Node.c h108)).a [.row [D.int .i64 x107.parent,D.int .i64 x107.cond.kind,D.str x107.cond.pat.rel,D.sl (x107.cond.pat.args.map tx),D.str x107.cond.left,D.str x107.cond.right,D.int .i64 x107.cj,D.sl (x107.tokens.map aU.c)],.cn [0,1,41,42] [0,1,2,3,4,5]]).cs hΓ sB (uU iC aC aa y1 eM ((jz.map Node.c).set i2 [D.int .i64 x107.parent,D.int .i64 x107.cond.kind,D.str x107.cond.pat.rel,D.sl (x107.cond.pat.args.map tx),D.str x107.cond.left,D.str x107.cond.right,D.int .i64 x107.cj,D.sl (Sg.map aU.c)]) (IntKind.i64.wrap ((i2:Int)+1))) (by first| (simp only[iS hd2 hm2,mA]<;>rfl)| (simp only[iS hd2 hm2,mA,aD.c,aX.c,aO.c,Action.c,aK.c,aU.c,dW.c,aZ.c,Node.c,aH.c,dh.c]<;>rfl)) (ih2 (i2+1) (jz.set i2 (⟨x107.parent,x107.cond,x107.cj,Sg⟩:Node)) (dn hd2) h)
theorem tI{aC:aH}{aa:aJ}{r:aH×Unit}(h:j9 aC aa=some r):hY prog 107 (bw aC) (bw r.1) [D.sl (aa.map aD.c)] (D.gL []):=by
 refine Iz func107 [[some (63,4),some (3,1),some (83,3),some (74,8),some (43,2),none]] 60 [D.acc 1,D.acc 2,D.acc 3,D.acc 4,D.acc 5,D.int .i64 aC.bp] [D.sl (aa.map aD.c)] [Ob.row .uq 63 4 (aC.rules.map aK.c),Ob.row .uq 3 1 (aC.ends.map iM),Ob.row .uq 83 3 (aC.au.map aZ.c),Ob.row .uq 74 8 (aC.nodes.map Node.c),Ob.row .uq 43 2 (aC.facts.map aD.c)] fun hr iC Γ hΓ=>?_
 rw[j9]at h;obtain⟨y1,h2,h⟩:=aB h;obtain⟨h110,h⟩:=bR h;refine((aY.g (ew h2)).a [.cn [0,1,15,16] [0,1,2,3,4,6]]).lp hΓ (zY hΓ (fun eM h=>?_) (bn h110) aC.au 0 aC.au rfl h);obtain⟨h109,h⟩:=bR h;refine(aY.a [.cn [0,1,41,42] [0,1,2,3,4,5]]).lp hΓ (zZ hΓ (fun h=>?_) (bn h109) aC.nodes 0 aC.nodes rfl h);cases h
def qI(aC:aj)(aa:aJ)(cS:Int):Option aH:=((rL aC).bind fun y1=>((j9 y1 aa).bind fun y3=>(some (⟨y3.1.rules,y3.1.ends,y3.1.au,y3.1.nodes,y3.1.facts,cS⟩:aH))))
theorem qJ{aC:aj}{aa:aJ}{cS:Int}{r:aH}(h:qI aC aa cS=some r):Good prog 53 [D.sl (aC.map aK.c),D.sl (aa.map aD.c),D.int .i64 cS] (D.agg [D.fr 63 4 (r.rules.map aK.c),D.fr 3 1 (r.ends.map iM),D.fr 83 3 (r.au.map aZ.c),D.fr 74 8 (r.nodes.map Node.c),D.fr 43 2 (r.facts.map aD.c),D.int .i64 r.bp]):=by
 refine gd func53 [[some (63,4),some (3,1),some (83,3),some (74,8),some (43,2),none]] 15 fun hr Γ hΓ=>?_
 rw[qI]at h;obtain⟨y1,h2,h⟩:=aB h;obtain⟨y3,h4,h⟩:=aB h;cases h;exact((aY.g (DJ h2)).hp [[some (63,4),some (3,1),some (83,3),some (74,8),some (43,2),none],[none]] (tI h4)).ret hΓ
def kB(aC:aK)(aa:aK)(k1:Option Bool):ai->Nat->Option Bool
 | [],i1=>(k1)
 |bU::cQ,i1=>((iP aa.conds (i1:Int)).bind fun x33=>((jx bU x33).bind fun vm=>(bif !(vm)then(some false)else(kB aC aa k1 cQ (i1+1)))))
def iT(aC:aK)(aa:aK)(k2:Option Bool):eF->Nat->Option Bool
 | [],i2=>(k2)
 |lq::tR,i2=>((iP aa.cK (i2:Int)).bind fun x70=>(bif (lq.kind:Int) != x70.kind then(some false)else((fQ lq.pat x70.pat).bind fun Dk=>(bif !(Dk)then(some false)else(iT aC aa k2 tR (i2+1))))))
def pY(aC:aK)(aa:aK):Option Bool:=(bif !((aC.name:Bytes)==aa.name)then(some false)else(bif (aC.prio:Int) != aa.prio then(some false)else(bif (((aC.conds.map aO.c).length:Int):Int) != ((aa.conds.map aO.c).length:Int)then(some false)else(bif (((aC.cK.map Action.c).length:Int):Int) != ((aa.cK.map Action.c).length:Int)then(some false)else(kB aC aa (iT aC aa (some true) aC.cK 0) aC.conds 0)))))
def H6(aC:aK)(aa:aK)(dL:Int):St:=⟨[(2,D.ptr 0 0),(3,D.ptr 1 0),(39,D.int .i64 ((aC.conds.map aO.c).length:Int)),(40,D.int .i64 dL)],[Ob.box (aK.c aC),Ob.box (aK.c aa)]⟩
theorem Fh(hΓ:Γ.nt=92){aC:aK}{aa:aK}{r:Bool}{k1:Option Bool}(di:k1=some r->Ax Γ N f108 (.q [[none]] (D.bool r)) [1,1,1] ⟨[(2,D.ptr 0 0),(3,D.ptr 1 0)],[Ob.box (aK.c aC),Ob.box (aK.c aa)]⟩)(hm1:aC.conds.length<=maxLen):∀(rest:ai) (i1:Nat),aC.conds.drop i1=rest->kB aC aa k1 rest i1=some r->Ar Γ N f108 (.q [[none]] (D.bool r)) [1,1,0,1,0] (rest.length+1) (H6 aC aa (i1:Int)):=by
 intro rest
 induction rest with
 |nil=>
  intro i1 az h;rw[kB]at h;refine aQ fun N1 cY cI=>?_
  exact((aY.ge aO.c az).a [.hl 0 [2,3] [0,1]]).ex hΓ cY (di h)
 |cons bU cQ ih1=>
  intro i1 az h;rw[kB]at h;refine aQ fun N1 cY cI=>?_
  obtain⟨x33,h34,h⟩:=aB h;obtain⟨vm,h36,h⟩:=aB h;have jj:=(((((aY.lt aO.c az).a [.n 10]).l (bJ aO.c 5 (dc az) rfl)).l (fO aO.c 5 h34 rfl)).g (td h36))
  obtain⟨h37,h⟩|⟨h37,h⟩:=aM h
  ·have h:=aN h;subst h;exact(jj.b h37).ret hΓ
  ·exact((jj.b h37).a [.cn [2,3,39,40] [0,1]]).ct hΓ cI (iS az hm1) (ih1 (i1+1) (dn az) h)
def H7(aC:aK)(aa:aK)(dL:Int):St:=⟨[(2,D.ptr 0 0),(3,D.ptr 1 0),(58,D.int .i64 ((aC.cK.map Action.c).length:Int)),(59,D.int .i64 dL)],[Ob.box (aK.c aC),Ob.box (aK.c aa)]⟩
theorem Fi(hΓ:Γ.nt=92){aC:aK}{aa:aK}{r:Bool}{k2:Option Bool}(AJ:k2=some r->Ax Γ N f108 (.q [[none]] (D.bool r)) [1,1,1,1] ⟨[],[]⟩)(hm2:aC.cK.length<=maxLen):∀(rest:eF) (i2:Nat),aC.cK.drop i2=rest->iT aC aa k2 rest i2=some r->Ar Γ N f108 (.q [[none]] (D.bool r)) [1,1,1,0,1,0] (rest.length+1) (H7 aC aa (i2:Int)):=by
 intro rest
 induction rest with
 |nil=>
  intro i2 hd2 h;rw[iT]at h;refine aQ fun N2 ue sB=>?_
  exact((aY.ge Action.c hd2).a [.hl 0 [] []]).ex hΓ ue (AJ h)
 |cons lq tR ih2=>
  intro i2 hd2 h;rw[iT]at h;refine aQ fun N2 ue sB=>?_
  obtain⟨x70,h71,h⟩:=aB h;have sX:=((((aY.lt Action.c hd2).a [.n 26]).l (bJ Action.c 3 (dc hd2) rfl)).l (fO Action.c 3 h71 rfl))
  obtain⟨h72,h⟩|⟨h72,h⟩:=aM h
  ·have h:=aN h;subst h;exact((sX.r 15 h72).T 1).ret hΓ
  ·obtain⟨Dk,h74,h⟩:=aB h;have vg:=(((((((sX.r 4 h72).l (bJ Action.c 3 (dc hd2) rfl)).r 6 h72).l (fO Action.c 3 h71 rfl)).r 3 h72).g (o5 h74)).r 2 h72)
   obtain⟨h75,h⟩|⟨h75,h⟩:=aM h
   ·have h:=aN h;subst h;exact(vg.b h75).ret hΓ
   ·exact((vg.b h75).a [.cn [2,3,58,59] [0,1]]).ct hΓ sB (iS hd2 hm2) (ih2 (i2+1) (dn hd2) h)
theorem E3{aC:aK}{aa:aK}{r:Bool}(h:pY aC aa=some r):Good prog 108 [D.agg (aK.c aC),D.agg (aK.c aa)] (D.bool r):=by
 refine gd func108 [[none]] 92 fun hr Γ hΓ=>?_
 rw[pY]at h;obtain⟨h1,h⟩|⟨h1,h⟩:=aM h
 ·have h:=aN h;subst h;exact((aY.r 6 h1).T 17).ret hΓ
 ·have zB:=(aY.r 6 h1)
  obtain⟨h2,h⟩|⟨h2,h⟩:=aM h
  ·have h:=aN h;subst h;exact((zB.r 8 h2).T 9).ret hΓ
  ·have Ez:=(zB.r 8 h2)
   obtain⟨h3,h⟩|⟨h3,h⟩:=aM h
   ·have h:=aN h;subst h;exact((Ez.r 8 h3).T 1).ret hΓ
   ·have Kn:=(Ez.r 8 h3)
    obtain⟨h4,h⟩|⟨h4,h⟩:=aM h
    ·have h:=aN h;subst h;exact(Kn.b h4).ret hΓ
    ·refine((Kn.b h4).a [.cn [2,3,39,40] [0,1]]).lp hΓ (Fh hΓ (fun h=>?_) (by have:=(gq.sl (gq.agg (hr _ (aE (i:=0) rfl)) (.sl (aC.conds.map aO.c)) (by simp))).1;simpa using this) aC.conds 0 rfl h);refine(aY.a [.cn [2,3,58,59] [0,1]]).lp hΓ (Fi hΓ (fun h=>?_) (by have:=(gq.sl (gq.agg (hr _ (aE (i:=0) rfl)) (.sl (aC.cK.map Action.c)) (by simp))).1;simpa using this) aC.cK 0 rfl h);have h:=aN h;subst h;exact aY.ret hΓ
def mI(aC:aj)(aa:aj)(k1:Option Bool):aj->Nat->Option Bool
 | [],i1=>(k1)
 |bU::cQ,i1=>((iP aa (i1:Int)).bind fun x30=>((pY bU x30).bind fun Gq=>(bif !(Gq)then(some false)else(mI aC aa k1 cQ (i1+1)))))
def rK(aC:aj)(aa:aj):Option Bool:=(bif (((aC.map aK.c).length:Int):Int) != ((aa.map aK.c).length:Int)then(some false)else(mI aC aa (some true) aC 0))
def Ft(aC:aj)(aa:aj)(dL:Int):St:=⟨[(0,D.sl (aC.map aK.c)),(1,D.sl (aa.map aK.c)),(12,D.int .i64 ((aC.map aK.c).length:Int)),(13,D.int .i64 dL)],[]⟩
theorem ED(hΓ:Γ.nt=27){aC:aj}{aa:aj}{r:Bool}{k1:Option Bool}(di:k1=some r->Ax Γ N f54 (.q [[none]] (D.bool r)) [1,1,1] ⟨[],[]⟩)(hm1:aC.length<=maxLen):∀(rest:aj) (i1:Nat),aC.drop i1=rest->mI aC aa k1 rest i1=some r->Ar Γ N f54 (.q [[none]] (D.bool r)) [1,1,0,1,0] (rest.length+1) (Ft aC aa (i1:Int)):=by
 intro rest
 induction rest with
 |nil=>
  intro i1 az h;rw[mI]at h;refine aQ fun N1 cY cI=>?_
  exact((aY.ge aK.c az).a [.hl 0 [] []]).ex hΓ cY (di h)
 |cons bU cQ ih1=>
  intro i1 az h;rw[mI]at h;refine aQ fun N1 cY cI=>?_
  obtain⟨x30,h31,h⟩:=aB h;obtain⟨Gq,h33,h⟩:=aB h;have fk:=(((((aY.lt aK.c az).a [.n 8]).l (bJ aK.c 4 (dc az) rfl)).l (fO aK.c 4 h31 rfl)).g (E3 h33))
  obtain⟨h34,h⟩|⟨h34,h⟩:=aM h
  ·have h:=aN h;subst h;exact(fk.b h34).ret hΓ
  ·exact((fk.b h34).a [.cn [0,1,12,13] []]).ct hΓ cI (iS az hm1) (ih1 (i1+1) (dn az) h)
theorem wu{aC:aj}{aa:aj}{r:Bool}(h:rK aC aa=some r):Good prog 54 [D.sl (aC.map aK.c),D.sl (aa.map aK.c)] (D.bool r):=by
 refine gd func54 [[none]] 27 fun hr Γ hΓ=>?_
 rw[rK]at h;obtain⟨h1,h⟩|⟨h1,h⟩:=aM h
 ·have h:=aN h;subst h;exact(aY.b h1).ret hΓ
 ·refine((aY.b h1).a [.cn [0,1,12,13] []]).lp hΓ (ED hΓ (fun h=>?_) (by have:=(gq.sl (hr _ (aE (i:=0) rfl))).1;simpa using this) aC 0 rfl h);have h:=aN h;subst h;exact aY.ret hΓ
def nA(aC:bC)(aa:bC)(k1:Option Bool):bC->Nat->Option Bool
 | [],i1=>(k1)
 |bU::cQ,i1=>((iP aa (i1:Int)).bind fun x22=>(bif (bU:Int) != x22 then(some false)else(nA aC aa k1 cQ (i1+1))))
def sL(aC:bC)(aa:bC):Option Bool:=(bif (((aC.map iM).length:Int):Int) != ((aa.map iM).length:Int)then(some false)else(nA aC aa (some true) aC 0))
def HF(aC:bC)(aa:bC)(dL:Int):St:=⟨[(0,D.sl (aC.map iM)),(1,D.sl (aa.map iM)),(12,D.int .i64 ((aC.map iM).length:Int)),(13,D.int .i64 dL)],[]⟩
theorem Fp(hΓ:Γ.nt=26){aC:bC}{aa:bC}{r:Bool}{k1:Option Bool}(di:k1=some r->Ax Γ N f55 (.q [[none]] (D.bool r)) [1,1,1] ⟨[],[]⟩)(hm1:aC.length<=maxLen):∀(rest:bC) (i1:Nat),aC.drop i1=rest->nA aC aa k1 rest i1=some r->Ar Γ N f55 (.q [[none]] (D.bool r)) [1,1,0,1,0] (rest.length+1) (HF aC aa (i1:Int)):=by
 intro rest
 induction rest with
 |nil=>
  intro i1 az h;rw[nA]at h;refine aQ fun N1 cY cI=>?_
  exact((aY.ge iM az).a [.hl 0 [] []]).ex hΓ cY (di h)
 |cons bU cQ ih1=>
  intro i1 az h;rw[nA]at h;refine aQ fun N1 cY cI=>?_
  obtain⟨x22,h23,h⟩:=aB h;have fk:=((((aY.lt iM az).a [.n 8]).l (bJ iM 1 (dc az) rfl)).l (fO iM 1 h23 rfl))
  obtain⟨h24,h⟩|⟨h24,h⟩:=aM h
  ·have h:=aN h;subst h;exact(fk.b h24).ret hΓ
  ·exact((fk.b h24).a [.cn [0,1,12,13] []]).ct hΓ cI (iS az hm1) (ih1 (i1+1) (dn az) h)
theorem EB{aC:bC}{aa:bC}{r:Bool}(h:sL aC aa=some r):Good prog 55 [D.sl (aC.map iM),D.sl (aa.map iM)] (D.bool r):=by
 refine gd func55 [[none]] 26 fun hr Γ hΓ=>?_
 rw[sL]at h;obtain⟨h1,h⟩|⟨h1,h⟩:=aM h
 ·have h:=aN h;subst h;exact(aY.b h1).ret hΓ
 ·refine((aY.b h1).a [.cn [0,1,12,13] []]).lp hΓ (Fp hΓ (fun h=>?_) (by have:=(gq.sl (hr _ (aE (i:=0) rfl))).1;simpa using this) aC 0 rfl h);have h:=aN h;subst h;exact aY.ret hΓ
def oJ(aC:aD)(aa:aD):Option Bool:=(bif (aC.rel:Bytes)==aa.rel then((p9 aC.args aa.args).bind fun y2=>(some y2))else(some false))
theorem xh{aC:aD}{aa:aD}{r:Bool}(h:oJ aC aa=some r):Good prog 109 [D.agg (aD.c aC),D.agg (aD.c aa)] (D.bool r):=by
 refine gd func109 [[none]] 17 fun hr Γ hΓ=>?_
 rw[oJ]at h;obtain⟨h1,h⟩|⟨h1,h⟩:=aM h
 ·obtain⟨y2,h3,h⟩:=aB h;have h:=aN h;subst h;exact(((aY.r 5 h1).g (wv h3)).b h1).ret hΓ
 ·have h:=aN h;subst h;exact(aY.r 6 h1).ret hΓ
def mD(aC:aJ)(aa:aJ)(k1:Option Bool):aJ->Nat->Option Bool
 | [],i1=>(k1)
 |bU::cQ,i1=>((iP aa (i1:Int)).bind fun x30=>((oJ bU x30).bind fun Gq=>(bif !(Gq)then(some false)else(mD aC aa k1 cQ (i1+1)))))
def jE(aC:aJ)(aa:aJ):Option Bool:=(bif (((aC.map aD.c).length:Int):Int) != ((aa.map aD.c).length:Int)then(some false)else(mD aC aa (some true) aC 0))
def Fg(aC:aJ)(aa:aJ)(dL:Int):St:=⟨[(0,D.sl (aC.map aD.c)),(1,D.sl (aa.map aD.c)),(12,D.int .i64 ((aC.map aD.c).length:Int)),(13,D.int .i64 dL)],[]⟩
theorem E2(hΓ:Γ.nt=27){aC:aJ}{aa:aJ}{r:Bool}{k1:Option Bool}(di:k1=some r->Ax Γ N f56 (.q [[none]] (D.bool r)) [1,1,1] ⟨[],[]⟩)(hm1:aC.length<=maxLen):∀(rest:aJ) (i1:Nat),aC.drop i1=rest->mD aC aa k1 rest i1=some r->Ar Γ N f56 (.q [[none]] (D.bool r)) [1,1,0,1,0] (rest.length+1) (Fg aC aa (i1:Int)):=by
 intro rest
 induction rest with
 |nil=>
  intro i1 az h;rw[mD]at h;refine aQ fun N1 cY cI=>?_
  exact((aY.ge aD.c az).a [.hl 0 [] []]).ex hΓ cY (di h)
 |cons bU cQ ih1=>
  intro i1 az h;rw[mD]at h;refine aQ fun N1 cY cI=>?_
  obtain⟨x30,h31,h⟩:=aB h;obtain⟨Gq,h33,h⟩:=aB h;have fk:=(((((aY.lt aD.c az).a [.n 8]).l (bJ aD.c 2 (dc az) rfl)).l (fO aD.c 2 h31 rfl)).g (xh h33))
  obtain⟨h34,h⟩|⟨h34,h⟩:=aM h
  ·have h:=aN h;subst h;exact(fk.b h34).ret hΓ
  ·exact((fk.b h34).a [.cn [0,1,12,13] []]).ct hΓ cI (iS az hm1) (ih1 (i1+1) (dn az) h)
theorem tB{aC:aJ}{aa:aJ}{r:Bool}(h:jE aC aa=some r):Good prog 56 [D.sl (aC.map aD.c),D.sl (aa.map aD.c)] (D.bool r):=by
 refine gd func56 [[none]] 27 fun hr Γ hΓ=>?_
 rw[jE]at h;obtain⟨h1,h⟩|⟨h1,h⟩:=aM h
 ·have h:=aN h;subst h;exact(aY.b h1).ret hΓ
 ·refine((aY.b h1).a [.cn [0,1,12,13] []]).lp hΓ (E2 hΓ (fun h=>?_) (by have:=(gq.sl (hr _ (aE (i:=0) rfl))).1;simpa using this) aC 0 rfl h);have h:=aN h;subst h;exact aY.ret hΓ
def jR(aC:aT)(aa:aT)(k1:Option Bool):aT->Nat->Option Bool
 | [],i1=>(k1)
 |bU::cQ,i1=>((iP aa (i1:Int)).bind fun x22=>(bif !((bU.var:Bytes)==x22.var&&(bU.value:Bytes)==x22.value)then(some false)else(jR aC aa k1 cQ (i1+1))))
def p8(aC:aT)(aa:aT):Option Bool:=(bif (((aC.map aX.c).length:Int):Int) != ((aa.map aX.c).length:Int)then(some false)else(jR aC aa (some true) aC 0))
def Fq(aC:aT)(aa:aT)(dL:Int):St:=⟨[(0,D.sl (aC.map aX.c)),(1,D.sl (aa.map aX.c)),(12,D.int .i64 ((aC.map aX.c).length:Int)),(13,D.int .i64 dL)],[]⟩
theorem EC(hΓ:Γ.nt=26){aC:aT}{aa:aT}{r:Bool}{k1:Option Bool}(di:k1=some r->Ax Γ N f111 (.q [[none]] (D.bool r)) [1,1,1] ⟨[],[]⟩)(hm1:aC.length<=maxLen):∀(rest:aT) (i1:Nat),aC.drop i1=rest->jR aC aa k1 rest i1=some r->Ar Γ N f111 (.q [[none]] (D.bool r)) [1,1,0,1,0] (rest.length+1) (Fq aC aa (i1:Int)):=by
 intro rest
 induction rest with
 |nil=>
  intro i1 az h;rw[jR]at h;refine aQ fun N1 cY cI=>?_
  exact((aY.ge aX.c az).a [.hl 0 [] []]).ex hΓ cY (di h)
 |cons bU cQ ih1=>
  intro i1 az h;rw[jR]at h;refine aQ fun N1 cY cI=>?_
  obtain⟨x22,h23,h⟩:=aB h;have fk:=((((aY.lt aX.c az).a [.n 8]).l (bJ aX.c 2 (dc az) rfl)).l (fO aX.c 2 h23 rfl))
  obtain⟨h24,h⟩|⟨h24,h⟩:=aM h
  ·have h:=aN h;subst h;exact(fk.b h24).ret hΓ
  ·exact((fk.b h24).a [.cn [0,1,12,13] []]).ct hΓ cI (iS az hm1) (ih1 (i1+1) (dn az) h)
theorem DH{aC:aT}{aa:aT}{r:Bool}(h:p8 aC aa=some r):Good prog 111 [D.sl (aC.map aX.c),D.sl (aa.map aX.c)] (D.bool r):=by
 refine gd func111 [[none]] 26 fun hr Γ hΓ=>?_
 rw[p8]at h;obtain⟨h1,h⟩|⟨h1,h⟩:=aM h
 ·have h:=aN h;subst h;exact(aY.b h1).ret hΓ
 ·refine((aY.b h1).a [.cn [0,1,12,13] []]).lp hΓ (EC hΓ (fun h=>?_) (by have:=(gq.sl (hr _ (aE (i:=0) rfl))).1;simpa using this) aC 0 rfl h);have h:=aN h;subst h;exact aY.ret hΓ
def iY(aC:ay)(aa:ay)(k1:Option Bool):ay->Nat->Option Bool
 | [],i1=>(k1)
 |bU::cQ,i1=>((iP aa (i1:Int)).bind fun x42=>((jE bU.facts x42.facts).bind fun y44=>(bif !(y44)then(some false)else((p8 bU.bind x42.bind).bind fun y47=>(bif !(y47)then(some false)else(iY aC aa k1 cQ (i1+1)))))))
def o9(aC:ay)(aa:ay):Option Bool:=(bif (((aC.map aU.c).length:Int):Int) != ((aa.map aU.c).length:Int)then(some false)else(iY aC aa (some true) aC 0))
def EF(aC:ay)(aa:ay)(dL:Int):St:=⟨[(0,D.sl (aC.map aU.c)),(1,D.sl (aa.map aU.c)),(12,D.int .i64 ((aC.map aU.c).length:Int)),(13,D.int .i64 dL)],[]⟩
theorem DI(hΓ:Γ.nt=43){aC:ay}{aa:ay}{r:Bool}{k1:Option Bool}(di:k1=some r->Ax Γ N f59 (.q [[none]] (D.bool r)) [1,1,1] ⟨[],[]⟩)(hm1:aC.length<=maxLen):∀(rest:ay) (i1:Nat),aC.drop i1=rest->iY aC aa k1 rest i1=some r->Ar Γ N f59 (.q [[none]] (D.bool r)) [1,1,0,1,0] (rest.length+1) (EF aC aa (i1:Int)):=by
 intro rest
 induction rest with
 |nil=>
  intro i1 az h;rw[iY]at h;refine aQ fun N1 cY cI=>?_
  exact((aY.ge aU.c az).a [.hl 0 [] []]).ex hΓ cY (di h)
 |cons bU cQ ih1=>
  intro i1 az h;rw[iY]at h;refine aQ fun N1 cY cI=>?_
  obtain⟨x42,h43,h⟩:=aB h;obtain⟨y44,h45,h⟩:=aB h;have je:=(((((aY.lt aU.c az).a [.n 23]).l (bJ aU.c 2 (dc az) rfl)).l (fO aU.c 2 h43 rfl)).g (tB h45))
  obtain⟨h46,h⟩|⟨h46,h⟩:=aM h
  ·have h:=aN h;subst h;exact((je.r 13 h46).T 1).ret hΓ
  ·obtain⟨y47,h48,h⟩:=aB h;have jj:=(((((((je.r 3 h46).l (bJ aU.c 2 (dc az) rfl)).r 5 h46).l (fO aU.c 2 h43 rfl)).r 3 h46).g (DH h48)).r 2 h46)
   obtain⟨h49,h⟩|⟨h49,h⟩:=aM h
   ·have h:=aN h;subst h;exact(jj.b h49).ret hΓ
   ·exact((jj.b h49).a [.cn [0,1,12,13] []]).ct hΓ cI (iS az hm1) (ih1 (i1+1) (dn az) h)
theorem CJ{aC:ay}{aa:ay}{r:Bool}(h:o9 aC aa=some r):Good prog 59 [D.sl (aC.map aU.c),D.sl (aa.map aU.c)] (D.bool r):=by
 refine gd func59 [[none]] 43 fun hr Γ hΓ=>?_
 rw[o9]at h;obtain⟨h1,h⟩|⟨h1,h⟩:=aM h
 ·have h:=aN h;subst h;exact(aY.b h1).ret hΓ
 ·refine((aY.b h1).a [.cn [0,1,12,13] []]).lp hΓ (DI hΓ (fun h=>?_) (by have:=(gq.sl (hr _ (aE (i:=0) rfl))).1;simpa using this) aC 0 rfl h);have h:=aN h;subst h;exact aY.ret hΓ
def gU(aC:aH)(aa:aH)(k1:Option Bool):bK->Nat->Option Bool
 | [],i1=>(k1)
 |bU::cQ,i1=>((iP aa.au (i1:Int)).bind fun x52=>((fQ bU.shape x52.shape).bind fun Jh=>(bif !(Jh)then(some false)else((jE bU.facts x52.facts).bind fun y57=>(bif !(y57)then(some false)else(gU aC aa k1 cQ (i1+1)))))))
def gV(aC:aH)(aa:aH)(k2:Option Bool):bE->Nat->Option Bool
 | [],i2=>(k2)
 |lq::tR,i2=>((iP aa.nodes (i2:Int)).bind fun x108=>(bif (lq.parent:Int) != x108.parent then(some false)else(bif (lq.cj:Int) != x108.cj then(some false)else((jx lq.cond x108.cond).bind fun Si=>(bif !(Si)then(some false)else((o9 lq.tokens x108.tokens).bind fun VD=>(bif !(VD)then(some false)else(gV aC aa k2 tR (i2+1)))))))))
def mE(aC:aH)(aa:aH):Option Bool:=((rK aC.rules aa.rules).bind fun y1=>(bif !(y1)then(some false)else((sL aC.ends aa.ends).bind fun y4=>(bif !(y4)then(some false)else((jE aC.facts aa.facts).bind fun y7=>(bif !(y7)then(some false)else(bif (((aC.au.map aZ.c).length:Int):Int) != ((aa.au.map aZ.c).length:Int)then(some false)else(bif (((aC.nodes.map Node.c).length:Int):Int) != ((aa.nodes.map Node.c).length:Int)then(some false)else(gU aC aa (gV aC aa (some true) aC.nodes 0) aC.au 0)))))))))
def CA(aC:aH)(aa:aH)(dL:Int):St:=⟨[(2,D.ptr 0 0),(3,D.ptr 1 0),(51,D.int .i64 ((aC.au.map aZ.c).length:Int)),(52,D.int .i64 dL)],[Ob.box (aH.c aC),Ob.box (aH.c aa)]⟩
theorem BL(hΓ:Γ.nt=131){aC:aH}{aa:aH}{r:Bool}{k1:Option Bool}(di:k1=some r->Ax Γ N f16 (.q [[none]] (D.bool r)) [1,1,1] ⟨[(2,D.ptr 0 0),(3,D.ptr 1 0)],[Ob.box (aH.c aC),Ob.box (aH.c aa)]⟩)(hm1:aC.au.length<=maxLen):∀(rest:bK) (i1:Nat),aC.au.drop i1=rest->gU aC aa k1 rest i1=some r->Ar Γ N f16 (.q [[none]] (D.bool r)) [1,1,0,1,0] (rest.length+1) (CA aC aa (i1:Int)):=by
 intro rest
 induction rest with
 |nil=>
  intro i1 az h;rw[gU]at h;refine aQ fun N1 cY cI=>?_
  exact((aY.ge aZ.c az).a [.hl 0 [2,3] [0,1]]).ex hΓ cY (di h)
 |cons bU cQ ih1=>
  intro i1 az h;rw[gU]at h;refine aQ fun N1 cY cI=>?_
  obtain⟨x52,h53,h⟩:=aB h;obtain⟨Jh,h55,h⟩:=aB h;have zB:=(((((aY.lt aZ.c az).a [.n 27]).l (bJ aZ.c 3 (dc az) rfl)).l (fO aZ.c 3 h53 rfl)).g (o5 h55))
  obtain⟨h56,h⟩|⟨h56,h⟩:=aM h
  ·have h:=aN h;subst h;exact((zB.r 15 h56).T 1).ret hΓ
  ·obtain⟨y57,h58,h⟩:=aB h;have Ez:=(((((((zB.r 4 h56).l (bJ aZ.c 3 (dc az) rfl)).r 6 h56).l (fO aZ.c 3 h53 rfl)).r 3 h56).g (tB h58)).r 2 h56)
   obtain⟨h59,h⟩|⟨h59,h⟩:=aM h
   ·have h:=aN h;subst h;exact(Ez.b h59).ret hΓ
   ·exact((Ez.b h59).a [.cn [2,3,51,52] [0,1]]).ct hΓ cI (iS az hm1) (ih1 (i1+1) (dn az) h)
def CB(aC:aH)(aa:aH)(dL:Int):St:=⟨[(2,D.ptr 0 0),(3,D.ptr 1 0),(88,D.int .i64 ((aC.nodes.map Node.c).length:Int)),(89,D.int .i64 dL)],[Ob.box (aH.c aC),Ob.box (aH.c aa)]⟩
theorem BM(hΓ:Γ.nt=131){aC:aH}{aa:aH}{r:Bool}{k2:Option Bool}(AJ:k2=some r->Ax Γ N f16 (.q [[none]] (D.bool r)) [1,1,1,1] ⟨[],[]⟩)(hm2:aC.nodes.length<=maxLen):∀(rest:bE) (i2:Nat),aC.nodes.drop i2=rest->gV aC aa k2 rest i2=some r->Ar Γ N f16 (.q [[none]] (D.bool r)) [1,1,1,0,1,0] (rest.length+1) (CB aC aa (i2:Int)):=by
 intro rest
 induction rest with
 |nil=>
  intro i2 hd2 h;rw[gV]at h;refine aQ fun N2 ue sB=>?_
  exact((aY.ge Node.c hd2).a [.hl 0 [] []]).ex hΓ ue (AJ h)
 |cons lq tR ih2=>
  intro i2 hd2 h;rw[gV]at h;refine aQ fun N2 ue sB=>?_
  obtain⟨x108,h109,h⟩:=aB h;have Kn:=((((aY.lt Node.c hd2).a [.n 13]).l (bJ Node.c 8 (dc hd2) rfl)).l (fO Node.c 8 h109 rfl))
  obtain⟨h110,h⟩|⟨h110,h⟩:=aM h
  ·have h:=aN h;subst h;exact((Kn.r 6 h110).T 15).ret hΓ
  ·have Bk:=(Kn.r 6 h110)
   obtain⟨h111,h⟩|⟨h111,h⟩:=aM h
   ·have h:=aN h;subst h;exact((Bk.r 7 h111).T 8).ret hΓ
   ·obtain⟨Si,h113,h⟩:=aB h;have JK:=(((Bk.r 5 h111).g (td h113)).r 2 h111)
    obtain⟨h114,h⟩|⟨h114,h⟩:=aM h
    ·have h:=aN h;subst h;exact((JK.r 7 h114).T 1).ret hΓ
    ·obtain⟨VD,h116,h⟩:=aB h;have De:=(((JK.r 5 h114).g (CJ h116)).r 2 h114)
     obtain⟨h117,h⟩|⟨h117,h⟩:=aM h
     ·have h:=aN h;subst h;exact(De.b h117).ret hΓ
     ·exact((De.b h117).a [.cn [2,3,88,89] [0,1]]).ct hΓ sB (iS hd2 hm2) (ih2 (i2+1) (dn hd2) h)
theorem um{aC:aH}{aa:aH}{r:Bool}(h:mE aC aa=some r):Good prog 16 [D.agg (aH.c aC),D.agg (aH.c aa)] (D.bool r):=by
 refine gd func16 [[none]] 131 fun hr Γ hΓ=>?_
 rw[mE]at h;obtain⟨y1,h2,h⟩:=aB h;obtain⟨h3,h⟩|⟨h3,h⟩:=aM h
 ·have h:=aN h;subst h;exact(((aY.g (wu h2)).r 7 h3).T 24).ret hΓ
 ·obtain⟨y4,h5,h⟩:=aB h;have JL:=((((aY.g (wu h2)).r 5 h3).g (EB h5)).r 2 h3)
  obtain⟨h6,h⟩|⟨h6,h⟩:=aM h
  ·have h:=aN h;subst h;exact((JL.r 7 h6).T 17).ret hΓ
  ·obtain⟨y7,h8,h⟩:=aB h;have JM:=(((JL.r 5 h6).g (tB h8)).r 2 h6)
   obtain⟨h9,h⟩|⟨h9,h⟩:=aM h
   ·have h:=aN h;subst h;exact((JM.r 8 h9).T 9).ret hΓ
   ·have Qo:=(JM.r 8 h9)
    obtain⟨h10,h⟩|⟨h10,h⟩:=aM h
    ·have h:=aN h;subst h;exact((Qo.r 8 h10).T 1).ret hΓ
    ·have Qp:=(Qo.r 8 h10)
     obtain⟨h11,h⟩|⟨h11,h⟩:=aM h
     ·have h:=aN h;subst h;exact(Qp.b h11).ret hΓ
     ·refine((Qp.b h11).a [.cn [2,3,51,52] [0,1]]).lp hΓ (BL hΓ (fun h=>?_) (by have:=(gq.sl (gq.agg (hr _ (aE (i:=0) rfl)) (.sl (aC.au.map aZ.c)) (by simp))).1;simpa using this) aC.au 0 rfl h);refine(aY.a [.cn [2,3,88,89] [0,1]]).lp hΓ (BM hΓ (fun h=>?_) (by have:=(gq.sl (gq.agg (hr _ (aE (i:=0) rfl)) (.sl (aC.nodes.map Node.c)) (by simp))).1;simpa using this) aC.nodes 0 rfl h);have h:=aN h;subst h;exact aY.ret hΓ
def mr(aC:aH):Option Bool:=((pX aC.rules).bind fun y1=>(bif y1 then((oH aC.facts).bind fun y4=>(bif y4 then(bif decide ((aC.bp:Int)>=0)then((qI aC.rules aC.facts 0).bind fun y8=>((mE aC y8).bind fun Dh=>(some Dh)))else(some false))else(some false)))else(some false)))
theorem mZ{aC:aH}{r:Bool}(h:mr aC=some r):Good prog 17 [D.agg (aH.c aC)] (D.bool r):=by
 refine gd func17 [[none]] 25 fun hr Γ hΓ=>?_
 rw[mr]at h;obtain⟨y1,h2,h⟩:=aB h;have nP:=((aY.a [.n 20]).g (tY h2))
 obtain⟨h3,h⟩|⟨h3,h⟩:=aM h
 ·obtain⟨y4,h5,h⟩:=aB h;have fk:=(((nP.r 3 h3).g (qE h5)).b h3)
  obtain⟨h6,h⟩|⟨h6,h⟩:=aM h
  ·have je:=(fk.r 4 h6)
   obtain⟨h7,h⟩|⟨h7,h⟩:=aM h
   ·obtain⟨y8,h9,h⟩:=aB h;obtain⟨Dh,h11,h⟩:=aB h;have h:=aN h;subst h;exact(((((je.r 6 h7).g (qJ h9)).b h7).g (um h11)).b h7).ret hΓ
   ·have h:=aN h;subst h;exact(je.r 8 h7).ret hΓ
  ·have h:=aN h;subst h;exact((fk.r 4 h6).F 8).ret hΓ
 ·have h:=aN h;subst h;exact((nP.r 4 h3).F 12).ret hΓ
def kH(aC:aJ)(k1:Option Bool):aJ->Nat->Option Bool
 | [],i1=>(k1)
 |bU::cQ,i1=>((qg bU).bind fun Gr=>(bif !(Gr)then(some false)else(bif decide (((i1:Int):Int)>0)then((iP aC (IntKind.i64.wrap ((i1:Int)-1))).bind fun x49=>((iB x49 bU).bind fun y51=>(bif decide ((y51:Int)>=0)then(some false)else(kH aC k1 cQ (i1+1)))))else(kH aC k1 cQ (i1+1)))))
def sN(aC:aJ):Option Bool:=(kH aC (some (decide ((((aC.map aD.c).length:Int):Int)<=24))) aC 0)
def HG(aC:aJ)(dL:Int):St:=⟨[(0,D.sl (aC.map aD.c)),(3,D.int .i64 dL)],[]⟩
theorem G0(hΓ:Γ.nt=36){aC:aJ}{r:Bool}{k1:Option Bool}(di:k1=some r->Ax Γ N f41 (.q [[none]] (D.bool r)) [1,1] ⟨[(0,D.sl (aC.map aD.c))],[]⟩)(hm1:aC.length<=maxLen):∀(rest:aJ) (i1:Nat),aC.drop i1=rest->kH aC k1 rest i1=some r->Ar Γ N f41 (.q [[none]] (D.bool r)) [1,0,1,0] (rest.length+1) (HG aC (i1:Int)):=by
 intro rest
 induction rest with
 |nil=>
  intro i1 az h;rw[kH]at h;refine aQ fun N1 cY cI=>?_
  exact((aY.ge aD.c az).a [.hl 0 [0] []]).ex hΓ cY (di h)
 |cons bU cQ ih1=>
  intro i1 az h;rw[kH]at h;refine aQ fun N1 cY cI=>?_
  obtain⟨Gr,h46,h⟩:=aB h;have jj:=((((aY.lt aD.c az).a [.n 19]).l (bJ aD.c 2 (dc az) rfl)).g (zk h46))
  obtain⟨h47,h⟩|⟨h47,h⟩:=aM h
  ·have h:=aN h;subst h;exact((((jj.r 3 h47).a [bF,bF,bF,bF,bF,bF,bF,bF,bF,bF,bF]).r 2 h47).T 1).ret hΓ
  ·have sX:=(jj.r 3 h47)
   obtain⟨h48,h⟩|⟨h48,h⟩:=aM h
   ·obtain⟨x49,h50,h⟩:=aB h;obtain⟨y51,h52,h⟩:=aB h;have vg:=((((((((((sX.r 4 h48).l (fO aD.c 2 h50 rfl)).r 4 h48).l (bJ aD.c 2 (dc az) rfl)).r 2 h48).g (qe h52)).b h48).b h47).b h48).b h47)
    obtain⟨h53,h⟩|⟨h53,h⟩:=aM h
    ·have h:=aN h;subst h;exact(vg.b h53).ret hΓ
    ·exact((vg.b h53).a [.cn [0,3] []]).ct hΓ cI (iS az hm1) (ih1 (i1+1) (dn az) h)
   ·exact((((((sX.r 11 h48).b h47).b h48).b h47).F 1).a [.cn [0,3] []]).ct hΓ cI (iS az hm1) (ih1 (i1+1) (dn az) h)
theorem EK{aC:aJ}{r:Bool}(h:sN aC=some r):Good prog 41 [D.sl (aC.map aD.c)] (D.bool r):=by
 refine gd func41 [[none]] 36 fun hr Γ hΓ=>?_
 rw[sN]at h;refine(aY.a [.cn [0,3] []]).lp hΓ (G0 hΓ (fun h=>?_) (by have:=(gq.sl (hr _ (aE (i:=0) rfl))).1;simpa using this) aC 0 rfl h);cases h;exact aY.ret hΓ
def l7(aC:aH)(aa:aH)(k1:Option Bool):bK->Nat->Option Bool
 | [],i1=>(k1)
 |bU::cQ,i1=>((iP aa.au (i1:Int)).bind fun x32=>((ir bU.shape x32.shape).bind fun Dm=>(bif !(Dm)then(some false)else(l7 aC aa k1 cQ (i1+1)))))
def iw(aC:aH)(aa:aH)(k2:Option Bool):bE->Nat->Option Bool
 | [],i2=>(k2)
 |lq::tR,i2=>((iP aa.nodes (i2:Int)).bind fun x73=>(bif (lq.parent:Int) != x73.parent then(some false)else(bif (lq.cj:Int) != x73.cj then(some false)else((oK lq.cond x73.cond).bind fun y77=>(bif !(y77)then(some false)else(iw aC aa k2 tR (i2+1)))))))
def iy(aC:aH)(aa:aH)(k3:Option Bool):bC->Nat->Option Bool
 | [],i3=>(k3)
 |RG::Pc,i3=>((iP aa.ends (i3:Int)).bind fun x100=>(bif (RG:Int) != x100 then(some false)else(iy aC aa k3 Pc (i3+1))))
def qS(aC:aH)(aa:aH):Option Bool:=(bif (((aC.au.map aZ.c).length:Int):Int) != ((aa.au.map aZ.c).length:Int)then(some false)else(bif (((aC.nodes.map Node.c).length:Int):Int) != ((aa.nodes.map Node.c).length:Int)then(some false)else(bif (((aC.ends.map iM).length:Int):Int) != ((aa.ends.map iM).length:Int)then(some false)else(l7 aC aa (iw aC aa (iy aC aa (some true) aC.ends 0) aC.nodes 0) aC.au 0))))
def Ee(aC:aH)(aa:aH)(dL:Int):St:=⟨[(2,D.ptr 0 0),(3,D.ptr 1 0),(5,D.int .i64 dL)],[Ob.box (aH.c aC),Ob.box (aH.c aa)]⟩
theorem DY(hΓ:Γ.nt=123){aC:aH}{aa:aH}{r:Bool}{k1:Option Bool}(di:k1=some r->Ax Γ N f42 (.q [[none]] (D.bool r)) [1,1,1] ⟨[(2,D.ptr 0 0),(3,D.ptr 1 0)],[Ob.box (aH.c aC),Ob.box (aH.c aa)]⟩)(hm1:aC.au.length<=maxLen):∀(rest:bK) (i1:Nat),aC.au.drop i1=rest->l7 aC aa k1 rest i1=some r->Ar Γ N f42 (.q [[none]] (D.bool r)) [1,1,0,1,0] (rest.length+1) (Ee aC aa (i1:Int)):=by
 intro rest
 induction rest with
 |nil=>
  intro i1 az h;rw[l7]at h;refine aQ fun N1 cY cI=>?_
  exact((aY.ge aZ.c az).a [.hl 0 [2,3] [0,1]]).ex hΓ cY (di h)
 |cons bU cQ ih1=>
  intro i1 az h;rw[l7]at h;refine aQ fun N1 cY cI=>?_
  obtain⟨x32,h33,h⟩:=aB h;obtain⟨Dm,h35,h⟩:=aB h;have vg:=(((((aY.lt aZ.c az).a [.n 12]).l (bJ aZ.c 3 (dc az) rfl)).l (fO aZ.c 3 h33 rfl)).g (rQ h35))
  obtain⟨h36,h⟩|⟨h36,h⟩:=aM h
  ·have h:=aN h;subst h;exact(vg.b h36).ret hΓ
  ·exact((vg.b h36).a [.cn [2,3,5] [0,1]]).ct hΓ cI (iS az hm1) (ih1 (i1+1) (dn az) h)
def Ef(aC:aH)(aa:aH)(dL:Int):St:=⟨[(2,D.ptr 0 0),(3,D.ptr 1 0),(6,D.int .i64 dL)],[Ob.box (aH.c aC),Ob.box (aH.c aa)]⟩
theorem DZ(hΓ:Γ.nt=123){aC:aH}{aa:aH}{r:Bool}{k2:Option Bool}(AJ:k2=some r->Ax Γ N f42 (.q [[none]] (D.bool r)) [1,1,1,1] ⟨[(2,D.ptr 0 0),(3,D.ptr 1 0)],[Ob.box (aH.c aC),Ob.box (aH.c aa)]⟩)(hm2:aC.nodes.length<=maxLen):∀(rest:bE) (i2:Nat),aC.nodes.drop i2=rest->iw aC aa k2 rest i2=some r->Ar Γ N f42 (.q [[none]] (D.bool r)) [1,1,1,0,1,0] (rest.length+1) (Ef aC aa (i2:Int)):=by
 intro rest
 induction rest with
 |nil=>
  intro i2 hd2 h;rw[iw]at h;refine aQ fun N2 ue sB=>?_
  exact((aY.ge Node.c hd2).a [.hl 0 [2,3] [0,1]]).ex hΓ ue (AJ h)
 |cons lq tR ih2=>
  intro i2 hd2 h;rw[iw]at h;refine aQ fun N2 ue sB=>?_
  obtain⟨x73,h74,h⟩:=aB h;have zB:=((((aY.lt Node.c hd2).a [.n 41]).l (bJ Node.c 8 (dc hd2) rfl)).l (fO Node.c 8 h74 rfl))
  obtain⟨h75,h⟩|⟨h75,h⟩:=aM h
  ·have h:=aN h;subst h;exact((zB.r 14 h75).T 16).ret hΓ
  ·have Ez:=(((((zB.r 4 h75).l (bJ Node.c 8 (dc hd2) rfl)).r 6 h75).l (fO Node.c 8 h74 rfl)).r 4 h75)
   obtain⟨h76,h⟩|⟨h76,h⟩:=aM h
   ·have h:=aN h;subst h;exact((Ez.r 15 h76).T 1).ret hΓ
   ·obtain⟨y77,h78,h⟩:=aB h;have Kn:=(((((((Ez.r 4 h76).l (bJ Node.c 8 (dc hd2) rfl)).r 6 h76).l (fO Node.c 8 h74 rfl)).r 3 h76).g (xp h78)).r 2 h76)
    obtain⟨h79,h⟩|⟨h79,h⟩:=aM h
    ·have h:=aN h;subst h;exact(Kn.b h79).ret hΓ
    ·exact((Kn.b h79).a [.cn [2,3,6] [0,1]]).ct hΓ sB (iS hd2 hm2) (ih2 (i2+1) (dn hd2) h)
def Eg(aC:aH)(aa:aH)(dL:Int):St:=⟨[(2,D.ptr 0 0),(3,D.ptr 1 0),(7,D.int .i64 dL)],[Ob.box (aH.c aC),Ob.box (aH.c aa)]⟩
theorem Da(hΓ:Γ.nt=123){aC:aH}{aa:aH}{r:Bool}{k3:Option Bool}(Zm:k3=some r->Ax Γ N f42 (.q [[none]] (D.bool r)) [1,1,1,1,1] ⟨[],[]⟩)(Rm:aC.ends.length<=maxLen):∀(rest:bC) (i3:Nat),aC.ends.drop i3=rest->iy aC aa k3 rest i3=some r->Ar Γ N f42 (.q [[none]] (D.bool r)) [1,1,1,1,0,1,0] (rest.length+1) (Eg aC aa (i3:Int)):=by
 intro rest
 induction rest with
 |nil=>
  intro i3 z8 h;rw[iy]at h;refine aQ fun N3 TN OW=>?_
  exact((aY.ge iM z8).a [.hl 0 [] []]).ex hΓ TN (Zm h)
 |cons RG Pc ih3=>
  intro i3 z8 h;rw[iy]at h;refine aQ fun N3 TN OW=>?_
  obtain⟨x100,h101,h⟩:=aB h;have Bk:=((((aY.lt iM z8).a [.n 10]).l (bJ iM 1 (dc z8) rfl)).l (fO iM 1 h101 rfl))
  obtain⟨h102,h⟩|⟨h102,h⟩:=aM h
  ·have h:=aN h;subst h;exact(Bk.b h102).ret hΓ
  ·exact((Bk.b h102).a [.cn [2,3,7] [0,1]]).ct hΓ OW (iS z8 Rm) (ih3 (i3+1) (dn z8) h)
theorem CT{aC:aH}{aa:aH}{r:Bool}(h:qS aC aa=some r):Good prog 42 [D.agg (aH.c aC),D.agg (aH.c aa)] (D.bool r):=by
 refine gd func42 [[none]] 123 fun hr Γ hΓ=>?_
 rw[qS]at h;obtain⟨h1,h⟩|⟨h1,h⟩:=aM h
 ·have h:=aN h;subst h;exact((aY.r 8 h1).T 9).ret hΓ
 ·have JK:=(aY.r 8 h1)
  obtain⟨h2,h⟩|⟨h2,h⟩:=aM h
  ·have h:=aN h;subst h;exact((JK.r 8 h2).T 1).ret hΓ
  ·have De:=(JK.r 8 h2)
   obtain⟨h3,h⟩|⟨h3,h⟩:=aM h
   ·have h:=aN h;subst h;exact(De.b h3).ret hΓ
   ·refine((De.b h3).a [.cn [2,3,5] [0,1]]).lp hΓ (DY hΓ (fun h=>?_) (by have:=(gq.sl (gq.agg (hr _ (aE (i:=0) rfl)) (.sl (aC.au.map aZ.c)) (by simp))).1;simpa using this) aC.au 0 rfl h);refine(aY.a [.cn [2,3,6] [0,1]]).lp hΓ (DZ hΓ (fun h=>?_) (by have:=(gq.sl (gq.agg (hr _ (aE (i:=0) rfl)) (.sl (aC.nodes.map Node.c)) (by simp))).1;simpa using this) aC.nodes 0 rfl h);refine(aY.a [.cn [2,3,7] [0,1]]).lp hΓ (Da hΓ (fun h=>?_) (by have:=(gq.sl (gq.agg (hr _ (aE (i:=0) rfl)) (.sl (aC.ends.map iM)) (by simp))).1;simpa using this) aC.ends 0 rfl h);have h:=aN h;subst h;exact aY.ret hΓ
def sn(aC:aD)(aa:aD):Option Bool:=(bif (aC.rel:Bytes)==aa.rel then((nG aC.args aa.args).bind fun y2=>(some y2))else(some false))
theorem HS{aC:aD}{aa:aD}{r:Bool}(h:sn aC aa=some r):Good prog 95 [D.agg (aD.c aC),D.agg (aD.c aa)] (D.bool r):=by
 refine gd func95 [[none]] 17 fun hr Γ hΓ=>?_
 rw[sn]at h;obtain⟨h1,h⟩|⟨h1,h⟩:=aM h
 ·obtain⟨y2,h3,h⟩:=aB h;have h:=aN h;subst h;exact(((aY.r 5 h1).g (vc h3)).b h1).ret hΓ
 ·have h:=aN h;subst h;exact(aY.r 6 h1).ret hΓ
def mM(aC:aJ)(aa:aJ)(k1:Option Bool):aJ->Nat->Option Bool
 | [],i1=>(k1)
 |bU::cQ,i1=>((iP aa (i1:Int)).bind fun x30=>((sn bU x30).bind fun Gq=>(bif !(Gq)then(some false)else(mM aC aa k1 cQ (i1+1)))))
def nF(aC:aJ)(aa:aJ):Option Bool:=(bif (((aC.map aD.c).length:Int):Int) != ((aa.map aD.c).length:Int)then(some false)else(mM aC aa (some true) aC 0))
def GH(aC:aJ)(aa:aJ)(dL:Int):St:=⟨[(0,D.sl (aC.map aD.c)),(1,D.sl (aa.map aD.c)),(5,D.int .i64 dL)],[]⟩
theorem EY(hΓ:Γ.nt=27){aC:aJ}{aa:aJ}{r:Bool}{k1:Option Bool}(di:k1=some r->Ax Γ N f43 (.q [[none]] (D.bool r)) [1,1,1] ⟨[],[]⟩)(hm1:aC.length<=maxLen):∀(rest:aJ) (i1:Nat),aC.drop i1=rest->mM aC aa k1 rest i1=some r->Ar Γ N f43 (.q [[none]] (D.bool r)) [1,1,0,1,0] (rest.length+1) (GH aC aa (i1:Int)):=by
 intro rest
 induction rest with
 |nil=>
  intro i1 az h;rw[mM]at h;refine aQ fun N1 cY cI=>?_
  exact((aY.ge aD.c az).a [.hl 0 [] []]).ex hΓ cY (di h)
 |cons bU cQ ih1=>
  intro i1 az h;rw[mM]at h;refine aQ fun N1 cY cI=>?_
  obtain⟨x30,h31,h⟩:=aB h;obtain⟨Gq,h33,h⟩:=aB h;have fk:=(((((aY.lt aD.c az).a [.n 8]).l (bJ aD.c 2 (dc az) rfl)).l (fO aD.c 2 h31 rfl)).g (HS h33))
  obtain⟨h34,h⟩|⟨h34,h⟩:=aM h
  ·have h:=aN h;subst h;exact(fk.b h34).ret hΓ
  ·exact((fk.b h34).a [.cn [0,1,5] []]).ct hΓ cI (iS az hm1) (ih1 (i1+1) (dn az) h)
theorem x6{aC:aJ}{aa:aJ}{r:Bool}(h:nF aC aa=some r):Good prog 43 [D.sl (aC.map aD.c),D.sl (aa.map aD.c)] (D.bool r):=by
 refine gd func43 [[none]] 27 fun hr Γ hΓ=>?_
 rw[nF]at h;obtain⟨h1,h⟩|⟨h1,h⟩:=aM h
 ·have h:=aN h;subst h;exact(aY.b h1).ret hΓ
 ·refine((aY.b h1).a [.cn [0,1,5] []]).lp hΓ (EY hΓ (fun h=>?_) (by have:=(gq.sl (hr _ (aE (i:=0) rfl))).1;simpa using this) aC 0 rfl h);have h:=aN h;subst h;exact aY.ret hΓ
def gG(aC:aT)(aa:aT)(k1:Option Bool):aT->Nat->Option Bool
 | [],i1=>(k1)
 |bU::cQ,i1=>((iP aa (i1:Int)).bind fun x22=>(bif !((bU.var:Bytes)==x22.var&&(bU.value:Bytes)==x22.value)then(some false)else(gG aC aa k1 cQ (i1+1))))
def kz(aC:aT)(aa:aT):Option Bool:=(bif (((aC.map aX.c).length:Int):Int) != ((aa.map aX.c).length:Int)then(some false)else(gG aC aa (some true) aC 0))
def BY(aC:aT)(aa:aT)(dL:Int):St:=⟨[(0,D.sl (aC.map aX.c)),(1,D.sl (aa.map aX.c)),(5,D.int .i64 dL)],[]⟩
theorem Av(hΓ:Γ.nt=26){aC:aT}{aa:aT}{r:Bool}{k1:Option Bool}(di:k1=some r->Ax Γ N f97 (.q [[none]] (D.bool r)) [1,1,1] ⟨[],[]⟩)(hm1:aC.length<=maxLen):∀(rest:aT) (i1:Nat),aC.drop i1=rest->gG aC aa k1 rest i1=some r->Ar Γ N f97 (.q [[none]] (D.bool r)) [1,1,0,1,0] (rest.length+1) (BY aC aa (i1:Int)):=by
 intro rest
 induction rest with
 |nil=>
  intro i1 az h;rw[gG]at h;refine aQ fun N1 cY cI=>?_
  exact((aY.ge aX.c az).a [.hl 0 [] []]).ex hΓ cY (di h)
 |cons bU cQ ih1=>
  intro i1 az h;rw[gG]at h;refine aQ fun N1 cY cI=>?_
  obtain⟨x22,h23,h⟩:=aB h;have fk:=((((aY.lt aX.c az).a [.n 8]).l (bJ aX.c 2 (dc az) rfl)).l (fO aX.c 2 h23 rfl))
  obtain⟨h24,h⟩|⟨h24,h⟩:=aM h
  ·have h:=aN h;subst h;exact(fk.b h24).ret hΓ
  ·exact((fk.b h24).a [.cn [0,1,5] []]).ct hΓ cI (iS az hm1) (ih1 (i1+1) (dn az) h)
theorem AS{aC:aT}{aa:aT}{r:Bool}(h:kz aC aa=some r):Good prog 97 [D.sl (aC.map aX.c),D.sl (aa.map aX.c)] (D.bool r):=by
 refine gd func97 [[none]] 26 fun hr Γ hΓ=>?_
 rw[kz]at h;obtain⟨h1,h⟩|⟨h1,h⟩:=aM h
 ·have h:=aN h;subst h;exact(aY.b h1).ret hΓ
 ·refine((aY.b h1).a [.cn [0,1,5] []]).lp hΓ (Av hΓ (fun h=>?_) (by have:=(gq.sl (hr _ (aE (i:=0) rfl))).1;simpa using this) aC 0 rfl h);have h:=aN h;subst h;exact aY.ret hΓ
def gj(aC:ay)(aa:ay)(k1:Option Bool):ay->Nat->Option Bool
 | [],i1=>(k1)
 |bU::cQ,i1=>((iP aa (i1:Int)).bind fun x42=>((nF bU.facts x42.facts).bind fun y44=>(bif !(y44)then(some false)else((kz bU.bind x42.bind).bind fun y47=>(bif !(y47)then(some false)else(gj aC aa k1 cQ (i1+1)))))))
def oU(aC:ay)(aa:ay):Option Bool:=(bif (((aC.map aU.c).length:Int):Int) != ((aa.map aU.c).length:Int)then(some false)else(gj aC aa (some true) aC 0))
def CU(aC:ay)(aa:ay)(dL:Int):St:=⟨[(0,D.sl (aC.map aU.c)),(1,D.sl (aa.map aU.c)),(5,D.int .i64 dL)],[]⟩
theorem Bb(hΓ:Γ.nt=43){aC:ay}{aa:ay}{r:Bool}{k1:Option Bool}(di:k1=some r->Ax Γ N f45 (.q [[none]] (D.bool r)) [1,1,1] ⟨[],[]⟩)(hm1:aC.length<=maxLen):∀(rest:ay) (i1:Nat),aC.drop i1=rest->gj aC aa k1 rest i1=some r->Ar Γ N f45 (.q [[none]] (D.bool r)) [1,1,0,1,0] (rest.length+1) (CU aC aa (i1:Int)):=by
 intro rest
 induction rest with
 |nil=>
  intro i1 az h;rw[gj]at h;refine aQ fun N1 cY cI=>?_
  exact((aY.ge aU.c az).a [.hl 0 [] []]).ex hΓ cY (di h)
 |cons bU cQ ih1=>
  intro i1 az h;rw[gj]at h;refine aQ fun N1 cY cI=>?_
  obtain⟨x42,h43,h⟩:=aB h;obtain⟨y44,h45,h⟩:=aB h;have je:=(((((aY.lt aU.c az).a [.n 23]).l (bJ aU.c 2 (dc az) rfl)).l (fO aU.c 2 h43 rfl)).g (x6 h45))
  obtain⟨h46,h⟩|⟨h46,h⟩:=aM h
  ·have h:=aN h;subst h;exact((je.r 13 h46).T 1).ret hΓ
  ·obtain⟨y47,h48,h⟩:=aB h;have jj:=(((((((je.r 3 h46).l (bJ aU.c 2 (dc az) rfl)).r 5 h46).l (fO aU.c 2 h43 rfl)).r 3 h46).g (AS h48)).r 2 h46)
   obtain⟨h49,h⟩|⟨h49,h⟩:=aM h
   ·have h:=aN h;subst h;exact(jj.b h49).ret hΓ
   ·exact((jj.b h49).a [.cn [0,1,5] []]).ct hΓ cI (iS az hm1) (ih1 (i1+1) (dn az) h)
theorem Aw{aC:ay}{aa:ay}{r:Bool}(h:oU aC aa=some r):Good prog 45 [D.sl (aC.map aU.c),D.sl (aa.map aU.c)] (D.bool r):=by
 refine gd func45 [[none]] 43 fun hr Γ hΓ=>?_
 rw[oU]at h;obtain⟨h1,h⟩|⟨h1,h⟩:=aM h
 ·have h:=aN h;subst h;exact(aY.b h1).ret hΓ
 ·refine((aY.b h1).a [.cn [0,1,5] []]).lp hΓ (Bb hΓ (fun h=>?_) (by have:=(gq.sl (hr _ (aE (i:=0) rfl))).1;simpa using this) aC 0 rfl h);have h:=aN h;subst h;exact aY.ret hΓ
def jY(aC:aH)(k1:Option Bool):bK->Nat->Option Bool
 | [],i1=>(k1)
 |bU::cQ,i1=>((gQ bU.shape ([]) aC.facts).bind fun Ch=>((nF bU.facts Ch).bind fun ZC=>(bif !(ZC)then(some false)else(jY aC k1 cQ (i1+1)))))
def jZ(aC:aH)(k2:Option Bool):bE->Nat->Option Bool
 | [],i2=>(k2)
 |lq::tR,i2=>((sj aC (i2:Int)).bind fun Sg=>((oM Sg aC.facts).bind fun a74=>((oU lq.tokens a74).bind fun Hv=>(bif !(Hv)then(some false)else(jZ aC k2 tR (i2+1))))))
def rP(aC:aH):Option Bool:=((jW aC.rules).bind fun y1=>(bif !(y1.2)then(some false)else((sN aC.facts).bind fun y4=>(bif !(y4)then(some false)else((qS aC y1.1).bind fun y7=>(bif !(y7)then(some false)else(bif decide ((aC.bp:Int)<0)then(some false)else(jY aC (jZ aC (some true) aC.nodes 0) aC.au 0))))))))
def G6(aC:aH)(dL:Int):St:=⟨[(1,D.ptr 0 0),(5,D.int .i64 dL)],[Ob.box (aH.c aC)]⟩
theorem EQ(hΓ:Γ.nt=77){aC:aH}{r:Bool}{k1:Option Bool}(di:k1=some r->Ax Γ N f11 (.q [[none]] (D.bool r)) [1,1,1,1] ⟨[(1,D.ptr 0 0)],[Ob.box (aH.c aC)]⟩)(hm1:aC.au.length<=maxLen):∀(rest:bK) (i1:Nat),aC.au.drop i1=rest->jY aC k1 rest i1=some r->Ar Γ N f11 (.q [[none]] (D.bool r)) [1,1,1,0,1,0] (rest.length+1) (G6 aC (i1:Int)):=by
 intro rest
 induction rest with
 |nil=>
  intro i1 az h;rw[jY]at h;refine aQ fun N1 cY cI=>?_
  exact((aY.ge aZ.c az).a [.hl 0 [1] [0]]).ex hΓ cY (di h)
 |cons bU cQ ih1=>
  intro i1 az h;rw[jY]at h;refine aQ fun N1 cY cI=>?_
  obtain⟨Ch,h40,h⟩:=aB h;obtain⟨ZC,h42,h⟩:=aB h;have je:=(((((((aY.lt aZ.c az).a [.n 15]).l (bJ aZ.c 3 (dc az) rfl)).l (bJ aZ.c 3 (dc az) rfl)).a [.d (D.fr 43 2 (Ch.map aD.c))]).w (show Good prog 44 [D.agg (aD.c bU.shape),D.sl ([]),D.sl (aC.facts.map aD.c)] (D.fr 43 2 (Ch.map aD.c))from by first| (simpa only[bA,bB,bZ,bX,bg]using gS h40)|exact gS h40)).g (x6 h42))
  obtain⟨h43,h⟩|⟨h43,h⟩:=aM h
  ·have h:=aN h;subst h;exact(je.b h43).ret hΓ
  ·exact((je.b h43).a [.cn [1,5] [0]]).ct hΓ cI (iS az hm1) (ih1 (i1+1) (dn az) h)
def G7(aC:aH)(dL:Int):St:=⟨[(1,D.ptr 0 0),(6,D.int .i64 dL)],[Ob.box (aH.c aC)]⟩
theorem ER(hΓ:Γ.nt=77){aC:aH}{r:Bool}{k2:Option Bool}(AJ:k2=some r->Ax Γ N f11 (.q [[none]] (D.bool r)) [1,1,1,1,1] ⟨[],[]⟩)(hm2:aC.nodes.length<=maxLen):∀(rest:bE) (i2:Nat),aC.nodes.drop i2=rest->jZ aC k2 rest i2=some r->Ar Γ N f11 (.q [[none]] (D.bool r)) [1,1,1,1,0,1,0] (rest.length+1) (G7 aC (i2:Int)):=by
 intro rest
 induction rest with
 |nil=>
  intro i2 hd2 h;rw[jZ]at h;refine aQ fun N2 ue sB=>?_
  exact((aY.ge Node.c hd2).a [.hl 0 [] []]).ex hΓ ue (AJ h)
 |cons lq tR ih2=>
  intro i2 hd2 h;rw[jZ]at h;refine aQ fun N2 ue sB=>?_
  obtain⟨Sg,h105,h⟩:=aB h;obtain⟨a74,h107,h⟩:=aB h;obtain⟨Hv,h109,h⟩:=aB h;have jj:=((((((aY.lt Node.c hd2).a [.n2 [0,1,2,3,4,5,6,7,8,9,10,11,12,13] [0,1,2,3,4,5,6,7,8,9,10,11,12,13] 11 12 [0,1,2,3,4,5] []]).l (bJ Node.c 8 (dc hd2) rfl)).g (ru h105)).g (xq h107)).g (Aw h109))
  obtain⟨h110,h⟩|⟨h110,h⟩:=aM h
  ·have h:=aN h;subst h;exact(jj.b h110).ret hΓ
  ·exact((jj.b h110).a [.cn [1,6] [0]]).ct hΓ sB (iS hd2 hm2) (ih2 (i2+1) (dn hd2) h)
theorem DO{aC:aH}{r:Bool}(h:rP aC=some r):Good prog 11 [D.agg (aH.c aC)] (D.bool r):=by
 refine gd func11 [[none]] 77 fun hr Γ hΓ=>?_
 rw[rP]at h;obtain⟨y1,h2,h⟩:=aB h;obtain⟨h3,h⟩|⟨h3,h⟩:=aM h
 ·have h:=aN h;subst h;exact(((aY.g (qf h2)).r 5 h3).T 10).ret hΓ
 ·obtain⟨y4,h5,h⟩:=aB h;have sX:=((((aY.g (qf h2)).r 3 h3).g (EK h5)).r 2 h3)
  obtain⟨h6,h⟩|⟨h6,h⟩:=aM h
  ·have h:=aN h;subst h;exact((sX.r 5 h6).T 5).ret hΓ
  ·obtain⟨y7,h8,h⟩:=aB h;have vg:=(((sX.r 3 h6).g (CT h8)).r 2 h6)
   obtain⟨h9,h⟩|⟨h9,h⟩:=aM h
   ·have h:=aN h;subst h;exact((vg.r 4 h9).T 1).ret hΓ
   ·have zB:=(vg.r 4 h9)
    obtain⟨h10,h⟩|⟨h10,h⟩:=aM h
    ·have h:=aN h;subst h;exact(zB.b h10).ret hΓ
    ·refine((zB.b h10).a [.cn [1,5] [0]]).lp hΓ (EQ hΓ (fun h=>?_) (by have:=(gq.sl (gq.agg (hr _ (aE (i:=0) rfl)) (.sl (aC.au.map aZ.c)) (by simp))).1;simpa using this) aC.au 0 rfl h);refine(aY.a [.cn [1,6] [0]]).lp hΓ (ER hΓ (fun h=>?_) (by have:=(gq.sl (gq.agg (hr _ (aE (i:=0) rfl)) (.sl (aC.nodes.map Node.c)) (by simp))).1;simpa using this) aC.nodes 0 rfl h);have h:=aN h;subst h;exact aY.ret hΓ
def gR(aC:bC):Option aH:=((wI aC).bind fun y1=>((wP y1).bind fun y3=>(some y3.2)))
theorem xE{aC:bC}{r:aH}(h:gR aC=some r):Good prog 14 [D.sl (aC.map yx)] (D.agg [D.sl (r.rules.map aK.c),D.fr 3 1 (r.ends.map iM),D.fr 83 3 (r.au.map aZ.c),D.fr 74 8 (r.nodes.map Node.c),D.fr 43 2 (r.facts.map aD.c),D.int .i64 r.bp]):=by
 refine gd func14 [[none,some (3,1),some (83,3),some (74,8),some (43,2),none]] 6 fun hr Γ hΓ=>?_
 rw[gR]at h;obtain⟨y1,h2,h⟩:=aB h;obtain⟨y3,h4,h⟩:=aB h;cases h;exact((aY.hn (Ia h2)).hp [[none,none,none]] (Ir h4)).ret hΓ
def sJ(aC:bC):Option bC:=(bif room (([]:List aL).length+(aC.map iM).length) 8 then(some (([]:bC)++aC))else none)
theorem E7{aC:bC}{r:bC}(h:sJ aC=some r):Good prog 115 [D.sl (aC.map iM)] (D.fr 3 1 (r.map iM)):=by
 refine gd func115 [[some (3,1)]] 5 fun hr Γ hΓ=>?_
 rw[sJ]at h;obtain⟨h1,h⟩:=bR h;cases h;exact(((aY.w (bf h1)).w (show(∀r∈(aC.map iM),r.length=1)/\(true=true->D.jv (aC.map iM)=true)from⟨by first|simp| (intro r hr;obtain⟨x,_,rfl⟩:=cE.1 (bu (fJ hr));rfl),by simp[D.jv,D.flat]⟩)).a [.Kq 2,.fl true]).rts hΓ (D.fr 3 1 (([]:List aL)++(aC.map iM))) (by first|rfl| (simp only[mA]<;>rfl)| (simp only[bw,mA]<;>rfl))
def iW(aC:ay)(k1:ay->Option ay):ay->Nat->ay->Option ay
 | [],i1,bP=>(k1 bP)
 |bU::cQ,i1,bP=>((cq bU.facts).bind fun y61=>((jF bU.bind).bind fun y63=>(bif room ((bP.map aU.c).length+([[D.sl (y61.map aD.c),D.sl (y63.map aX.c)]]).length) 48 then(iW aC k1 cQ (i1+1) (bP++([(⟨y61,y63⟩:aU)])))else none)))
def lP(aC:ay):Option ay:=(iW aC (fun(cH:ay)=>(some cH)) aC 0 ([]:ay))
def xf(aC:ay)(W0:List aL)(dL:Int):St:=⟨[(3,D.acc 0),(6,D.sl (aC.map aU.c)),(7,D.int .i64 ((aC.map aU.c).length:Int)),(8,D.int .i64 dL)],[Ob.row .uq 77 2 W0]⟩
theorem DE(hΓ:Γ.nt=24){aC:ay}{r:ay}{k1:ay->Option ay}(di:∀(cH:ay),k1 cH=some r->Ax Γ N f118 (.q [[some (77,2)]] (D.fr 77 2 (r.map aU.c))) [1,1,1] ⟨[(3,D.acc 0)],[Ob.row .uq 77 2 (cH.map aU.c)]⟩)(hm1:aC.length<=maxLen):∀(rest:ay) (i1:Nat) (bP:ay),aC.drop i1=rest->iW aC k1 rest i1 bP=some r->Ar Γ N f118 (.q [[some (77,2)]] (D.fr 77 2 (r.map aU.c))) [1,1,0,1,0] (rest.length+1) (xf aC (bP.map aU.c) (i1:Int)):=by
 intro rest
 induction rest with
 |nil=>
  intro i1 bP az h;rw[iW]at h;refine aQ fun N1 cY cI=>?_
  exact((aY.ge aU.c az).a [.hl 0 [3] [0]]).ex hΓ cY (di bP h)
 |cons bU cQ ih1=>
  intro i1 bP az h;rw[iW]at h;refine aQ fun N1 cY cI=>?_
  obtain⟨y61,h62,h⟩:=aB h;obtain⟨y63,h64,h⟩:=aB h;obtain⟨h65,h⟩:=bR h;exact(((((((aY.lt aU.c az).l (bJ aU.c 2 (dc az) rfl)).a [.n2 [0,1,2,3,4,5,6,7,8,9,10] [0,1,2,3,4,5,6,7,8,9,10] 8 9 [0] [2,3]]).g (ew h62)).g (tD h64)).w (bf h65)).a [.cn [3,6,7,8] [5]]).cs hΓ cI (xf aC ((bP.map aU.c)++([[D.sl (y61.map aD.c),D.sl (y63.map aX.c)]])) (IntKind.i64.wrap ((i1:Int)+1))) (by first| (simp only[iS az hm1,mA]<;>rfl)| (simp only[iS az hm1,mA,aD.c,aX.c,aO.c,Action.c,aK.c,aU.c,dW.c,aZ.c,Node.c,aH.c,dh.c]<;>rfl)) (ih1 (i1+1) (bP++([(⟨y61,y63⟩:aU)])) (dn az) h)
theorem CG{aC:ay}{r:ay}(h:lP aC=some r):Good prog 118 [D.sl (aC.map aU.c)] (D.fr 77 2 (r.map aU.c)):=by
 refine gd func118 [[some (77,2)]] 24 fun hr Γ hΓ=>?_
 rw[lP]at h;refine(aY.a [.Kq 3,.cn [3,6,7,8] [0]]).lp hΓ (DE hΓ (fun cH h=>?_) (by have:=(gq.sl (hr _ (aE (i:=0) rfl))).1;simpa using this) aC 0 ([]:ay) rfl h);have h:=aN h;subst h;exact aY.ret hΓ
def iE(aC:aH)(y1:aj)(y3:bC)(y5:aJ)(k1:bK->Option aH):bK->Nat->bK->Option aH
 | [],i1,jk=>(k1 jk)
 |bU::cQ,i1,jk=>((eE bU.shape).bind fun VH=>((cq bU.facts).bind fun y69=>(bif room ((jk.map aZ.c).length+([[D.str VH.rel,D.sl (VH.args.map tx),D.sl (y69.map aD.c)]]).length) 64 then(iE aC y1 y3 y5 k1 cQ (i1+1) (jk++([(⟨VH,y69⟩:aZ)])))else none)))
def iF(aC:aH)(y1:aj)(y3:bC)(y5:aJ)(lg:bK)(k2:bE->Option aH):bE->Nat->bE->Option aH
 | [],i2,uP=>(k2 uP)
 |lq::tR,i2,uP=>((fH lq.cond).bind fun GV=>((lP lq.tokens).bind fun Ys=>(bif room ((uP.map Node.c).length+([[D.int .i64 lq.parent,D.int .i64 GV.kind,D.str GV.pat.rel,D.sl (GV.pat.args.map tx),D.str GV.left,D.str GV.right,D.int .i64 lq.cj,D.sl (Ys.map aU.c)]]).length) 120 then(iF aC y1 y3 y5 lg k2 tR (i2+1) (uP++([(⟨lq.parent,GV,lq.cj,Ys⟩:Node)])))else none)))
def iV(aC:aH):Option aH:=((p6 aC.rules).bind fun y1=>((sJ aC.ends).bind fun y3=>((cq aC.facts).bind fun y5=>(iE aC y1 y3 y5 (fun(lg:bK)=>(iF aC y1 y3 y5 lg (fun(pJ:bE)=>(some (⟨y1,y3,lg,pJ,y5,aC.bp⟩:aH))) aC.nodes 0 ([]:bE))) aC.au 0 ([]:bK)))))
def wm(aC:aH)(y1:aj)(y3:bC)(y5:aJ)(W0:List aL)(dL:Int):St:=⟨[(1,D.ptr 0 0),(2,D.ptr 1 0),(3,D.ptr 2 0),(21,D.sl (aC.au.map aZ.c)),(22,D.int .i64 ((aC.au.map aZ.c).length:Int)),(23,D.int .i64 dL)],[Ob.box (aH.c aC),Ob.box [D.nil,D.nil,D.nil,D.nil,D.nil,D.int .i64 0],Ob.box [D.acc 3,D.acc 4,D.acc 5,D.nil,D.acc 6,D.int .i64 aC.bp],Ob.row .uq 63 4 (y1.map aK.c),Ob.row .uq 3 1 (y3.map iM),Ob.row .uq 83 3 W0,Ob.row .uq 43 2 (y5.map aD.c)]⟩
theorem CE(hΓ:Γ.nt=65){aC:aH}{y1:aj}{y3:bC}{y5:aJ}{r:aH}{k1:bK->Option aH}(di:∀(lg:bK),k1 lg=some r->Ax Γ N f61 (.q [[some (63,4),some (3,1),some (83,3),some (74,8),some (43,2),none]] (D.agg [D.fr 63 4 (r.rules.map aK.c),D.fr 3 1 (r.ends.map iM),D.fr 83 3 (r.au.map aZ.c),D.fr 74 8 (r.nodes.map Node.c),D.fr 43 2 (r.facts.map aD.c),D.int .i64 r.bp])) [1,1,1] ⟨[(1,D.ptr 0 0),(2,D.ptr 1 0),(3,D.ptr 2 0)],[Ob.box (aH.c aC),Ob.box [D.nil,D.nil,D.nil,D.nil,D.nil,D.int .i64 0],Ob.box [D.acc 3,D.acc 4,D.acc 5,D.nil,D.acc 6,D.int .i64 aC.bp],Ob.row .uq 63 4 (y1.map aK.c),Ob.row .uq 3 1 (y3.map iM),Ob.row .uq 83 3 (lg.map aZ.c),Ob.row .uq 43 2 (y5.map aD.c)]⟩)(hm1:aC.au.length<=maxLen):∀(rest:bK) (i1:Nat) (jk:bK),aC.au.drop i1=rest->iE aC y1 y3 y5 k1 rest i1 jk=some r->Ar Γ N f61 (.q [[some (63,4),some (3,1),some (83,3),some (74,8),some (43,2),none]] (D.agg [D.fr 63 4 (r.rules.map aK.c),D.fr 3 1 (r.ends.map iM),D.fr 83 3 (r.au.map aZ.c),D.fr 74 8 (r.nodes.map Node.c),D.fr 43 2 (r.facts.map aD.c),D.int .i64 r.bp])) [1,1,0,1,0] (rest.length+1) (wm aC y1 y3 y5 (jk.map aZ.c) (i1:Int)):=by
 intro rest
 induction rest with
 |nil=>
  intro i1 jk az h;rw[iE]at h;refine aQ fun N1 cY cI=>?_
  exact((aY.ge aZ.c az).a [.hl 0 [1,2,3] [0,1,2,3,4,5,6]]).ex hΓ cY (di jk h)
 |cons bU cQ ih1=>
  intro i1 jk az h;rw[iE]at h;refine aQ fun N1 cY cI=>?_
  obtain⟨VH,h68,h⟩:=aB h;obtain⟨y69,h70,h⟩:=aB h;obtain⟨h71,h⟩:=bR h;exact(((((((aY.lt aZ.c az).l (bJ aZ.c 3 (dc az) rfl)).a [.n2 [0,1,2,3,4,5,6,7,8,9,10,11,12] [0,1,2,3,4,5,6,7,8,9,10,11,12] 9 10 [0,1] [8,9]]).g (rI h68)).g (ew h70)).w (bf h71)).a [.cn [1,2,3,21,22,23] [0,1,2,3,4,11,6]]).cs hΓ cI (wm aC y1 y3 y5 ((jk.map aZ.c)++([[D.str VH.rel,D.sl (VH.args.map tx),D.sl (y69.map aD.c)]])) (IntKind.i64.wrap ((i1:Int)+1))) (by first| (simp only[iS az hm1,mA]<;>rfl)| (simp only[iS az hm1,mA,aD.c,aX.c,aO.c,Action.c,aK.c,aU.c,dW.c,aZ.c,Node.c,aH.c,dh.c]<;>rfl)) (ih1 (i1+1) (jk++([(⟨VH,y69⟩:aZ)])) (dn az) h)
def wo(aC:aH)(y1:aj)(y3:bC)(y5:aJ)(lg:bK)(W0:List aL)(dL:Int):St:=⟨[(2,D.ptr 0 0),(3,D.ptr 1 0),(41,D.sl (aC.nodes.map Node.c)),(42,D.int .i64 ((aC.nodes.map Node.c).length:Int)),(43,D.int .i64 dL)],[Ob.box [D.nil,D.nil,D.nil,D.nil,D.nil,D.int .i64 0],Ob.box [D.acc 2,D.acc 3,D.acc 4,D.acc 5,D.acc 6,D.int .i64 aC.bp],Ob.row .uq 63 4 (y1.map aK.c),Ob.row .uq 3 1 (y3.map iM),Ob.row .uq 83 3 (lg.map aZ.c),Ob.row .uq 74 8 W0,Ob.row .uq 43 2 (y5.map aD.c)]⟩
theorem CF(hΓ:Γ.nt=65){aC:aH}{y1:aj}{y3:bC}{y5:aJ}{lg:bK}{r:aH}{k2:bE->Option aH}(AJ:∀(pJ:bE),k2 pJ=some r->Ax Γ N f61 (.q [[some (63,4),some (3,1),some (83,3),some (74,8),some (43,2),none]] (D.agg [D.fr 63 4 (r.rules.map aK.c),D.fr 3 1 (r.ends.map iM),D.fr 83 3 (r.au.map aZ.c),D.fr 74 8 (r.nodes.map Node.c),D.fr 43 2 (r.facts.map aD.c),D.int .i64 r.bp])) [1,1,1,1] ⟨[(2,D.ptr 0 0),(3,D.ptr 1 0)],[Ob.box [D.nil,D.nil,D.nil,D.nil,D.nil,D.int .i64 0],Ob.box [D.acc 2,D.acc 3,D.acc 4,D.acc 5,D.acc 6,D.int .i64 aC.bp],Ob.row .uq 63 4 (y1.map aK.c),Ob.row .uq 3 1 (y3.map iM),Ob.row .uq 83 3 (lg.map aZ.c),Ob.row .uq 74 8 (pJ.map Node.c),Ob.row .uq 43 2 (y5.map aD.c)]⟩)(hm2:aC.nodes.length<=maxLen):∀(rest:bE) (i2:Nat) (uP:bE),aC.nodes.drop i2=rest->iF aC y1 y3 y5 lg k2 rest i2 uP=some r->Ar Γ N f61 (.q [[some (63,4),some (3,1),some (83,3),some (74,8),some (43,2),none]] (D.agg [D.fr 63 4 (r.rules.map aK.c),D.fr 3 1 (r.ends.map iM),D.fr 83 3 (r.au.map aZ.c),D.fr 74 8 (r.nodes.map Node.c),D.fr 43 2 (r.facts.map aD.c),D.int .i64 r.bp])) [1,1,1,0,1,0] (rest.length+1) (wo aC y1 y3 y5 lg (uP.map Node.c) (i2:Int)):=by
 intro rest
 induction rest with
 |nil=>
  intro i2 uP hd2 h;rw[iF]at h;refine aQ fun N2 ue sB=>?_
  exact((aY.ge Node.c hd2).a [.hl 0 [2,3] [0,1,2,3,4,5,6]]).ex hΓ ue (AJ uP h)
 |cons lq tR ih2=>
  intro i2 uP hd2 h;rw[iF]at h;refine aQ fun N2 ue sB=>?_
  obtain⟨GV,h133,h⟩:=aB h;obtain⟨Ys,h135,h⟩:=aB h;obtain⟨h136,h⟩:=bR h;exact(((((((aY.lt Node.c hd2).l (bJ Node.c 8 (dc hd2) rfl)).a [.n2 [0,1,2,3,4,5,6,7,8,9,10,11,12,13,14,15,16] [0,1,2,3,4,5,6,7,8,9,10,11,12,13,14,15,16] 13 14 [0,1] [8,9]]).g (kY h133)).g (CG h135)).w (bf h136)).a [.cn [2,3,41,42,43] [0,1,2,3,4,11,6]]).cs hΓ sB (wo aC y1 y3 y5 lg ((uP.map Node.c)++([[D.int .i64 lq.parent,D.int .i64 GV.kind,D.str GV.pat.rel,D.sl (GV.pat.args.map tx),D.str GV.left,D.str GV.right,D.int .i64 lq.cj,D.sl (Ys.map aU.c)]])) (IntKind.i64.wrap ((i2:Int)+1))) (by first| (simp only[iS hd2 hm2,mA]<;>rfl)| (simp only[iS hd2 hm2,mA,aD.c,aX.c,aO.c,Action.c,aK.c,aU.c,dW.c,aZ.c,Node.c,aH.c,dh.c]<;>rfl)) (ih2 (i2+1) (uP++([(⟨lq.parent,GV,lq.cj,Ys⟩:Node)])) (dn hd2) h)
theorem o7{aC:aH}{r:aH}(h:iV aC=some r):Good prog 61 [D.agg (aH.c aC)] (D.agg [D.fr 63 4 (r.rules.map aK.c),D.fr 3 1 (r.ends.map iM),D.fr 83 3 (r.au.map aZ.c),D.fr 74 8 (r.nodes.map Node.c),D.fr 43 2 (r.facts.map aD.c),D.int .i64 r.bp]):=by
 refine gd func61 [[some (63,4),some (3,1),some (83,3),some (74,8),some (43,2),none]] 65 fun hr Γ hΓ=>?_
 rw[iV]at h;obtain⟨y1,h2,h⟩:=aB h;obtain⟨y3,h4,h⟩:=aB h;obtain⟨y5,h6,h⟩:=aB h;refine(((((aY.a [.n 13]).g (wq h2)).g (E7 h4)).g (ew h6)).a [.pb 5 2 83 3,.cn [1,2,3,21,22,23] [0,1,5,2,3,6,4]]).lp hΓ (CE hΓ (fun lg h=>?_) (by have:=(gq.sl (gq.agg (hr _ (aE (i:=0) rfl)) (.sl (aC.au.map aZ.c)) (by simp))).1;simpa using this) aC.au 0 ([]:bK) rfl h);refine(aY.a [.pb 2 3 74 8,.cn [2,3,41,42,43] [1,2,3,4,5,7,6]]).lp hΓ (CF hΓ (fun pJ h=>?_) (by have:=(gq.sl (gq.agg (hr _ (aE (i:=0) rfl)) (.sl (aC.nodes.map Node.c)) (by simp))).1;simpa using this) aC.nodes 0 ([]:bE) rfl h);cases h;exact aY.ret hΓ
def k7(aC:aJ)(aa:aD)(k1:Option Int):aJ->Nat->Option Int
 | [],i1=>(k1)
 |bU::cQ,i1=>((oJ bU aa).bind fun NL=>(bif NL then(some (i1:Int))else(k7 aC aa k1 cQ (i1+1))))
def sF(aC:aJ)(aa:aD):Option Int:=(k7 aC aa (some (-1)) aC 0)
def Gx(aC:aJ)(aa:aD)(dL:Int):St:=⟨[(3,D.ptr 0 0),(7,D.sl (aC.map aD.c)),(8,D.int .i64 ((aC.map aD.c).length:Int)),(9,D.int .i64 dL)],[Ob.box (aD.c aa)]⟩
theorem Fa(hΓ:Γ.nt=19){aC:aJ}{aa:aD}{r:Int}{k1:Option Int}(di:k1=some r->Ax Γ N f74 (.q [[none]] (D.int .i64 r)) [1,1] ⟨[],[]⟩)(hm1:aC.length<=maxLen):∀(rest:aJ) (i1:Nat),aC.drop i1=rest->k7 aC aa k1 rest i1=some r->Ar Γ N f74 (.q [[none]] (D.int .i64 r)) [1,0,1,0] (rest.length+1) (Gx aC aa (i1:Int)):=by
 intro rest
 induction rest with
 |nil=>
  intro i1 az h;rw[k7]at h;refine aQ fun N1 cY cI=>?_
  exact((aY.ge aD.c az).a [.hl 0 [] []]).ex hΓ cY (di h)
 |cons bU cQ ih1=>
  intro i1 az h;rw[k7]at h;refine aQ fun N1 cY cI=>?_
  obtain⟨NL,h22,h⟩:=aB h;have fk:=(((aY.lt aD.c az).l (bJ aD.c 2 (dc az) rfl)).g (xh h22))
  obtain⟨h23,h⟩|⟨h23,h⟩:=aM h
  ·cases h;exact(fk.b h23).ret hΓ
  ·exact((fk.b h23).a [.cn [3,7,8,9] [0]]).ct hΓ cI (iS az hm1) (ih1 (i1+1) (dn az) h)
theorem Dw{aC:aJ}{aa:aD}{r:Int}(h:sF aC aa=some r):Good prog 74 [D.sl (aC.map aD.c),D.agg (aD.c aa)] (D.int .i64 r):=by
 refine gd func74 [[none]] 19 fun hr Γ hΓ=>?_
 rw[sF]at h;refine(aY.a [.cn [3,7,8,9] [0]]).lp hΓ (Fa hΓ (fun h=>?_) (by have:=(gq.sl (hr _ (aE (i:=0) rfl))).1;simpa using this) aC 0 rfl h);cases h;exact aY.ret hΓ
def dV(aC:aJ)(aa:aD)(k1:Bool->aJ->Option aJ):aJ->Nat->Bool->aJ->Option aJ
 | [],i1,dR,bV=>(k1 dR bV)
 |bU::cQ,i1,dR,bV=>(bif !(dR)then((fc bU aa).bind fun y93=>(bif decide ((y93:Int)>0)then((eD aa).bind fun VV=>(bif room ((bV.map aD.c).length+([[D.str VV.rel,D.sl (VV.args.map tx)]]).length) 40 then((eD bU).bind fun y99=>(bif room (((bV.map aD.c)++([[D.str VV.rel,D.sl (VV.args.map tx)]])).length+([[D.str y99.rel,D.sl (y99.args.map tx)]]).length) 40 then(dV aC aa k1 cQ (i1+1) true ((bV++([VV]))++([y99])))else none))else none))else((eD bU).bind fun LM=>(bif room ((bV.map aD.c).length+([[D.str LM.rel,D.sl (LM.args.map tx)]]).length) 40 then(dV aC aa k1 cQ (i1+1) dR (bV++([LM])))else none))))else((eD bU).bind fun zG=>(bif room ((bV.map aD.c).length+([[D.str zG.rel,D.sl (zG.args.map tx)]]).length) 40 then(dV aC aa k1 cQ (i1+1) dR (bV++([zG])))else none)))
def th(aC:aJ)(aa:aD):Option aJ:=(dV aC aa (fun(yX:Bool) (jM:aJ)=>(bif !(yX)then((eD aa).bind fun VC=>(bif room ((jM.map aD.c).length+([[D.str VC.rel,D.sl (VC.args.map tx)]]).length) 40 then(some (jM++([VC])))else none))else(some jM))) aC 0 false ([]:aJ))
def tJ(aC:aJ)(aa:aD)(dR:Bool)(W1:List aL)(dL:Int):St:=⟨[(3,D.ptr 0 0),(5,D.acc 1),(6,D.bool dR),(9,D.sl (aC.map aD.c)),(10,D.int .i64 ((aC.map aD.c).length:Int)),(11,D.int .i64 dL)],[Ob.box (aD.c aa),Ob.row .uq 43 2 W1]⟩
theorem HE(hΓ:Γ.nt=42){aC:aJ}{aa:aD}{r:aJ}{k1:Bool->aJ->Option aJ}(di:∀(yX:Bool) (jM:aJ),k1 yX jM=some r->Ax Γ N f184 (.q [[some (43,2)]] (D.fr 43 2 (r.map aD.c))) [1,1,1,1] ⟨[(3,D.ptr 0 0),(5,D.acc 1),(6,D.bool yX)],[Ob.box (aD.c aa),Ob.row .uq 43 2 (jM.map aD.c)]⟩)(hm1:aC.length<=maxLen):∀(rest:aJ) (i1:Nat) (dR:Bool) (bV:aJ),aC.drop i1=rest->dV aC aa k1 rest i1 dR bV=some r->Ar Γ N f184 (.q [[some (43,2)]] (D.fr 43 2 (r.map aD.c))) [1,1,1,0,1,0] (rest.length+1) (tJ aC aa dR (bV.map aD.c) (i1:Int)):=by
 intro rest
 induction rest with
 |nil=>
  intro i1 dR bV az h;rw[dV]at h;refine aQ fun N1 cY cI=>?_
  exact((aY.ge aD.c az).a [.hl 0 [3,5,6] [0,1]]).ex hΓ cY (di dR bV h)
 |cons bU cQ ih1=>
  intro i1 dR bV az h;rw[dV]at h;refine aQ fun N1 cY cI=>?_
  have je:=((aY.lt aD.c az).l (bJ aD.c 2 (dc az) rfl))
  obtain⟨h92,h⟩|⟨h92,h⟩:=aM h
  ·obtain⟨y93,h94,h⟩:=aB h;have jj:=(((je.r 3 h92).g (qY h94)).r 2 h92)
   obtain⟨h95,h⟩|⟨h95,h⟩:=aM h
   ·obtain⟨VV,h97,h⟩:=aB h;obtain⟨h98,h⟩:=bR h;obtain⟨y99,h100,h⟩:=aB h;obtain⟨h101,h⟩:=bR h;exact((((((jj.b h95).g (gP h97)).w (bf h98)).g (gP h100)).w (bf h101)).a [.cn [3,5,6,9,10,11] [0,8]]).cs hΓ cI (tJ aC aa true (((bV.map aD.c)++([[D.str VV.rel,D.sl (VV.args.map tx)]]))++([[D.str y99.rel,D.sl (y99.args.map tx)]])) (IntKind.i64.wrap ((i1:Int)+1))) (by first| (simp only[iS az hm1,mA]<;>rfl)| (simp only[iS az hm1,mA,aD.c,aX.c,aO.c,Action.c,aK.c,aU.c,dW.c,aZ.c,Node.c,aH.c,dh.c]<;>rfl)) (ih1 (i1+1) true ((bV++([VV]))++([y99])) (dn az) h)
   ·obtain⟨LM,h103,h⟩:=aB h;obtain⟨h104,h⟩:=bR h;exact((((jj.b h95).g (gP h103)).w (bf h104)).a [.cn [3,5,6,9,10,11] [0,5]]).cs hΓ cI (tJ aC aa dR ((bV.map aD.c)++([[D.str LM.rel,D.sl (LM.args.map tx)]])) (IntKind.i64.wrap ((i1:Int)+1))) (by first| (simp only[iS az hm1,mA]<;>rfl)| (simp only[iS az hm1,mA,aD.c,aX.c,aO.c,Action.c,aK.c,aU.c,dW.c,aZ.c,Node.c,aH.c,dh.c]<;>rfl)) (ih1 (i1+1) dR (bV++([LM])) (dn az) h)
  ·obtain⟨zG,h106,h⟩:=aB h;obtain⟨h107,h⟩:=bR h;exact(((((je.r 5 h92).F 1).g (gP h106)).w (bf h107)).a [.cn [3,5,6,9,10,11] [0,5]]).cs hΓ cI (tJ aC aa dR ((bV.map aD.c)++([[D.str zG.rel,D.sl (zG.args.map tx)]])) (IntKind.i64.wrap ((i1:Int)+1))) (by first| (simp only[iS az hm1,mA]<;>rfl)| (simp only[iS az hm1,mA,aD.c,aX.c,aO.c,Action.c,aK.c,aU.c,dW.c,aZ.c,Node.c,aH.c,dh.c]<;>rfl)) (ih1 (i1+1) dR (bV++([zG])) (dn az) h)
theorem Fo{aC:aJ}{aa:aD}{r:aJ}(h:th aC aa=some r):Good prog 184 [D.sl (aC.map aD.c),D.agg (aD.c aa)] (D.fr 43 2 (r.map aD.c)):=by
 refine gd func184 [[some (43,2)]] 42 fun hr Γ hΓ=>?_
 rw[th]at h;refine(aY.a [.Kq 5,.cn [3,5,6,9,10,11] [0,1]]).lp hΓ (HE hΓ (fun yX jM h=>?_) (by have:=(gq.sl (hr _ (aE (i:=0) rfl))).1;simpa using this) aC 0 false ([]:aJ) rfl h);obtain⟨h108,h⟩|⟨h108,h⟩:=aM h
 ·obtain⟨VC,h110,h⟩:=aB h;obtain⟨h111,h⟩:=bR h;cases h;exact(((aY.b h108).g (gP h110)).w (bf h111)).rts hΓ (D.fr 43 2 ((jM.map aD.c)++([[D.str VC.rel,D.sl (VC.args.map tx)]]))) (by first|rfl| (simp only[mA]<;>rfl)| (simp only[bw,mA]<;>rfl))
 ·have h:=aN h;subst h;exact(aY.b h108).ret hΓ
def tX(aC:aJ)(aa:aD):Option (aJ×Bool):=((oH aC).bind fun y1=>(bif !(y1)then((cq aC).bind fun y4=>(some (y4,false)))else((ol aa).bind fun y6=>(bif !(y6)then((cq aC).bind fun y9=>(some (y9,false)))else((sF aC aa).bind fun B9=>(bif decide ((B9:Int)>=0)then((cq aC).bind fun AK=>(some (AK,false)))else(bif decide ((((aC.map aD.c).length:Int):Int)>=24)then((cq aC).bind fun Sl=>(some (Sl,false)))else((th aC aa).bind fun Aj=>(some (Aj,true))))))))))
theorem yc{aC:aJ}{aa:aD}{r:aJ×Bool}(h:tX aC aa=some r):Good prog 119 [D.sl (aC.map aD.c),D.agg (aD.c aa)] (D.gL [D.fr 43 2 (r.1.map aD.c),D.bool r.2]):=by
 refine gd func119 [[some (43,2)],[none]] 30 fun hr Γ hΓ=>?_
 rw[tX]at h;obtain⟨y1,h2,h⟩:=aB h;obtain⟨h3,h⟩|⟨h3,h⟩:=aM h
 ·obtain⟨y4,h5,h⟩:=aB h;cases h;exact((((aY.g (qE h2)).r 4 h3).T 10).g (ew h5)).ret hΓ
 ·obtain⟨y6,h7,h⟩:=aB h;have nP:=((((aY.g (qE h2)).r 2 h3).g (vH h7)).r 2 h3)
  obtain⟨h8,h⟩|⟨h8,h⟩:=aM h
  ·obtain⟨y9,h10,h⟩:=aB h;cases h;exact(((nP.r 5 h8).T 5).g (ew h10)).ret hΓ
  ·obtain⟨B9,h12,h⟩:=aB h;have fk:=(((nP.r 3 h8).g (Dw h12)).r 2 h8)
   obtain⟨h13,h⟩|⟨h13,h⟩:=aM h
   ·obtain⟨AK,h15,h⟩:=aB h;cases h;exact(((fk.r 4 h13).T 1).g (ew h15)).ret hΓ
   ·have je:=(fk.r 4 h13)
    obtain⟨h16,h⟩|⟨h16,h⟩:=aM h
    ·obtain⟨Sl,h18,h⟩:=aB h;cases h;exact((je.b h16).g (ew h18)).ret hΓ
    ·obtain⟨Aj,h20,h⟩:=aB h;cases h;exact((je.b h16).g (Fo h20)).ret hΓ
def eg(aC:aJ)(aa:aJ)(k1:Option Int):aJ->Nat->Option Int
 | [],i1=>(k1)
 |bU::cQ,i1=>(bif decide (((i1:Int):Int)<((aa.map aD.c).length:Int))then((iP aa (i1:Int)).bind fun x34=>((fc bU x34).bind fun Ms=>(bif (Ms:Int) != 0 then(some Ms)else(eg aC aa k1 cQ (i1+1)))))else(k1))
def o6(aC:aJ)(aa:aJ):Option Int:=(eg aC aa ((iU ((aC.map aD.c).length:Int) ((aa.map aD.c).length:Int)).bind fun Ch=>(some Ch)) aC 0)
def zc(aC:aJ)(aa:aJ)(dL:Int):St:=⟨[(0,D.sl (aC.map aD.c)),(1,D.sl (aa.map aD.c)),(5,D.int .i64 dL)],[]⟩
theorem yz(hΓ:Γ.nt=36){aC:aJ}{aa:aJ}{r:Int}{k1:Option Int}(di:k1=some r->Ax Γ N f232 (.q [[none]] (D.int .i64 r)) [1,1] ⟨[(0,D.sl (aC.map aD.c)),(1,D.sl (aa.map aD.c))],[]⟩)(hm1:aC.length<=maxLen):∀(rest:aJ) (i1:Nat),aC.drop i1=rest->eg aC aa k1 rest i1=some r->Ar Γ N f232 (.q [[none]] (D.int .i64 r)) [1,0,1,0] (rest.length+1) (zc aC aa (i1:Int)):=by
 intro rest
 induction rest with
 |nil=>
  intro i1 az h;rw[eg]at h;refine aQ fun N1 cY cI=>?_
  exact(((((((aY.ge aD.c az).ge aD.c az).ge aD.c az).ge aD.c az).ge aD.c az).F 1).a [.hl 0 [0,1] []]).ex hΓ cY (di h)
 |cons bU cQ ih1=>
  intro i1 az h;rw[eg]at h;refine aQ fun N1 cY cI=>?_
  have je:=(((((aY.lt aD.c az).lt aD.c az).lt aD.c az).lt aD.c az).lt aD.c az)
  obtain⟨h33,h⟩|⟨h33,h⟩:=aM h
  ·obtain⟨x34,h35,h⟩:=aB h;obtain⟨Ms,h37,h⟩:=aB h;have jj:=(((((je.b h33).a [.n 8]).l (bJ aD.c 2 (dc az) rfl)).l (fO aD.c 2 h35 rfl)).g (qY h37))
   obtain⟨h38,h⟩|⟨h38,h⟩:=aM h
   ·have h:=aN h;subst h;exact(jj.b h38).ret hΓ
   ·exact((jj.b h38).a [.cn [0,1,5] []]).ct hΓ cI (iS az hm1) (ih1 (i1+1) (dn az) h)
  ·exact((je.b h33).a [.hl 0 [0,1] []]).ex hΓ cY (di h)
theorem yN{aC:aJ}{aa:aJ}{r:Int}(h:o6 aC aa=some r):Good prog 232 [D.sl (aC.map aD.c),D.sl (aa.map aD.c)] (D.int .i64 r):=by
 refine gd func232 [[none]] 36 fun hr Γ hΓ=>?_
 rw[o6]at h;refine(aY.a [.cn [0,1,5] []]).lp hΓ (yz hΓ (fun h=>?_) (by have:=(gq.sl (hr _ (aE (i:=0) rfl))).1;simpa using this) aC 0 rfl h);obtain⟨Ch,h40,h⟩:=aB h;have h:=aN h;subst h;exact(aY.g (rG h40)).ret hΓ
def nY(aC:aU)(aa:aU):Option Int:=((o6 aC.facts aa.facts).bind fun y1=>(some y1))
theorem AN{aC:aU}{aa:aU}{r:Int}(h:nY aC aa=some r):Good prog 220 [D.agg (aU.c aC),D.agg (aU.c aa)] (D.int .i64 r):=by
 refine gd func220 [[none]] 10 fun hr Γ hΓ=>?_
 rw[nY]at h;obtain⟨y1,h2,h⟩:=aB h;have h:=aN h;subst h;exact(aY.g (yN h2)).ret hΓ
def kE(aC:ay)(aa:aU)(k1:Option Bool):ay->Nat->Option Bool
 | [],i1=>(k1)
 |bU::cQ,i1=>((nY bU aa).bind fun NL=>(bif (NL:Int)==0 then(some true)else(kE aC aa k1 cQ (i1+1))))
def sK(aC:ay)(aa:aU):Option Bool:=(kE aC aa (some false) aC 0)
def HD(aC:ay)(aa:aU)(dL:Int):St:=⟨[(3,D.ptr 0 0),(7,D.sl (aC.map aU.c)),(8,D.int .i64 ((aC.map aU.c).length:Int)),(9,D.int .i64 dL)],[Ob.box (aU.c aa)]⟩
theorem Fm(hΓ:Γ.nt=18){aC:ay}{aa:aU}{r:Bool}{k1:Option Bool}(di:k1=some r->Ax Γ N f185 (.q [[none]] (D.bool r)) [1,1] ⟨[],[]⟩)(hm1:aC.length<=maxLen):∀(rest:ay) (i1:Nat),aC.drop i1=rest->kE aC aa k1 rest i1=some r->Ar Γ N f185 (.q [[none]] (D.bool r)) [1,0,1,0] (rest.length+1) (HD aC aa (i1:Int)):=by
 intro rest
 induction rest with
 |nil=>
  intro i1 az h;rw[kE]at h;refine aQ fun N1 cY cI=>?_
  exact((aY.ge aU.c az).a [.hl 0 [] []]).ex hΓ cY (di h)
 |cons bU cQ ih1=>
  intro i1 az h;rw[kE]at h;refine aQ fun N1 cY cI=>?_
  obtain⟨NL,h22,h⟩:=aB h;have fk:=(((aY.lt aU.c az).l (bJ aU.c 2 (dc az) rfl)).g (AN h22))
  obtain⟨h23,h⟩|⟨h23,h⟩:=aM h
  ·have h:=aN h;subst h;exact(fk.b h23).ret hΓ
  ·exact((fk.b h23).a [.cn [3,7,8,9] [0]]).ct hΓ cI (iS az hm1) (ih1 (i1+1) (dn az) h)
theorem EA{aC:ay}{aa:aU}{r:Bool}(h:sK aC aa=some r):Good prog 185 [D.sl (aC.map aU.c),D.agg (aU.c aa)] (D.bool r):=by
 refine gd func185 [[none]] 18 fun hr Γ hΓ=>?_
 rw[sK]at h;refine(aY.a [.cn [3,7,8,9] [0]]).lp hΓ (Fm hΓ (fun h=>?_) (by have:=(gq.sl (hr _ (aE (i:=0) rfl))).1;simpa using this) aC 0 rfl h);have h:=aN h;subst h;exact aY.ret hΓ
def jg(aC:aH)(cS:aD)(y3:aH×Unit)(mT:Int)(i1:Nat)(bU:Node)(x313:Node)(k2:Int->Int->Option aH):ay->Nat->Int->Int->Option aH
 | [],i2,Ah,Ai=>(k2 Ah Ai)
 |lq::tR,i2,Ah,Ai=>((iP aC.nodes bU.parent).bind fun x359=>((sK x359.tokens lq).bind fun a7D=>(bif a7D then(jg aC cS y3 mT i1 bU x313 k2 tR (i2+1) (IntKind.i64.wrap (Ah+1)) Ai)else(jg aC cS y3 mT i1 bU x313 k2 tR (i2+1) Ah (IntKind.i64.wrap (Ai+1))))))
def fL(aC:aH)(cS:aD)(y3:aH×Unit)(k1:Int->Option aH):bE->Nat->Int->Option aH
 | [],i1,mT=>(k1 mT)
 |bU::cQ,i1,mT=>(bif ((i1:Int):Int)==0 then(fL aC cS y3 k1 cQ (i1+1) mT)else((iP y3.1.nodes bU.parent).bind fun x313=>(bif decide (x313.tokens.length<=maxLen)then(jg aC cS y3 mT i1 bU x313 (fun(OB:Int) (Gs:Int)=>(bif decide ((bU.cj:Int)<0)then(fL aC cS y3 k1 cQ (i1+1) (IntKind.i64.wrap (mT+Gs)))else((iP y3.1.au bU.cj).bind fun x365=>((jD x365.shape cS ([])).bind fun VE=>(bif VE.2 then(fL aC cS y3 k1 cQ (i1+1) (IntKind.i64.wrap ((IntKind.i64.wrap (mT+(IntKind.i64.wrap (Gs*((x365.facts.map aD.c).length:Int)))))+OB)))else(fL aC cS y3 k1 cQ (i1+1) (IntKind.i64.wrap (mT+(IntKind.i64.wrap (Gs*((x365.facts.map aD.c).length:Int))))))))))) x313.tokens 0 0 0)else none)))
def tg(aC:aH)(aa:aJ)(cS:aD):Option aH:=((iV aC).bind fun y1=>((j9 y1 aa).bind fun y3=>(bif decide (y3.1.nodes.length<=maxLen)then(fL aC cS y3 (fun(pS:Int)=>(some (⟨y3.1.rules,y3.1.ends,y3.1.au,y3.1.nodes,y3.1.facts,pS⟩:aH))) y3.1.nodes 0 y3.1.bp)else none)))
def IL(aC:aH)(cS:aD)(y3:aH×Unit)(mT:Int)(dL:Int):St:=⟨[(3,D.ptr 0 0),(5,D.ptr 1 0),(6,D.ptr 2 0),(7,D.ptr 3 0),(22,D.acc 4),(23,D.int .i64 ((y3.1.nodes.map Node.c).length:Int)),(24,D.int .i64 dL)],[Ob.box (aH.c aC),Ob.box (aD.c cS),Ob.box [D.nil,D.nil,D.nil,D.nil,D.nil,D.int .i64 0],Ob.box [D.acc 5,D.acc 6,D.acc 7,D.acc 4,D.acc 8,D.int .i64 mT],Ob.row .uq 74 8 (y3.1.nodes.map Node.c),Ob.row .uq 63 4 (y3.1.rules.map aK.c),Ob.row .uq 3 1 (y3.1.ends.map iM),Ob.row .uq 83 3 (y3.1.au.map aZ.c),Ob.row .uq 43 2 (y3.1.facts.map aD.c)]⟩
def IM(aC:aH)(cS:aD)(y3:aH×Unit)(mT:Int)(i1:Nat)(bU:Node)(x313:Node)(Ah:Int)(Ai:Int)(dL:Int):St:=⟨[(3,D.ptr 0 0),(5,D.ptr 1 0),(6,D.ptr 2 0),(7,D.ptr 3 0),(9,D.ptr 4 0),(10,D.int .i64 Ah),(11,D.int .i64 Ai),(22,D.acc 5),(23,D.int .i64 ((y3.1.nodes.map Node.c).length:Int)),(24,D.int .i64 (i1:Int)),(37,D.sl (x313.tokens.map aU.c)),(38,D.int .i64 ((x313.tokens.map aU.c).length:Int)),(39,D.int .i64 dL)],[Ob.box (aH.c aC),Ob.box (aD.c cS),Ob.box [D.nil,D.nil,D.nil,D.nil,D.nil,D.int .i64 0],Ob.box [D.acc 6,D.acc 7,D.acc 8,D.acc 5,D.acc 9,D.int .i64 mT],Ob.box [D.int .i64 bU.parent,D.int .i64 bU.cond.kind,D.str bU.cond.pat.rel,D.sl (bU.cond.pat.args.map tx),D.str bU.cond.left,D.str bU.cond.right,D.int .i64 bU.cj,D.sl (bU.tokens.map aU.c)],Ob.row .uq 74 8 (y3.1.nodes.map Node.c),Ob.row .uq 63 4 (y3.1.rules.map aK.c),Ob.row .uq 3 1 (y3.1.ends.map iM),Ob.row .uq 83 3 (y3.1.au.map aZ.c),Ob.row .uq 43 2 (y3.1.facts.map aD.c)]⟩
theorem HA(hΓ:Γ.nt=95){aC:aH}{cS:aD}{y3:aH×Unit}{mT:Int}{i1:Nat}{bU:Node}{x313:Node}{r:aH}{k2:Int->Int->Option aH}(AJ:∀(OB:Int) (Gs:Int),k2 OB Gs=some r->Ax Γ N f120 (.q [[some (63,4),some (3,1),some (83,3),some (74,8),some (43,2),none]] (D.agg [D.fr 63 4 (r.rules.map aK.c),D.fr 3 1 (r.ends.map iM),D.fr 83 3 (r.au.map aZ.c),D.fr 74 8 (r.nodes.map Node.c),D.fr 43 2 (r.facts.map aD.c),D.int .i64 r.bp])) [1,1,1,0,1,0,0,1,1,0,0,1,1,1,1] ⟨[(3,D.ptr 0 0),(5,D.ptr 1 0),(6,D.ptr 2 0),(7,D.ptr 3 0),(9,D.ptr 4 0),(10,D.int .i64 OB),(11,D.int .i64 Gs),(22,D.acc 5),(23,D.int .i64 ((y3.1.nodes.map Node.c).length:Int)),(24,D.int .i64 (i1:Int))],[Ob.box (aH.c aC),Ob.box (aD.c cS),Ob.box [D.nil,D.nil,D.nil,D.nil,D.nil,D.int .i64 0],Ob.box [D.acc 6,D.acc 7,D.acc 8,D.acc 5,D.acc 9,D.int .i64 mT],Ob.box [D.int .i64 bU.parent,D.int .i64 bU.cond.kind,D.str bU.cond.pat.rel,D.sl (bU.cond.pat.args.map tx),D.str bU.cond.left,D.str bU.cond.right,D.int .i64 bU.cj,D.sl (bU.tokens.map aU.c)],Ob.row .uq 74 8 (y3.1.nodes.map Node.c),Ob.row .uq 63 4 (y3.1.rules.map aK.c),Ob.row .uq 3 1 (y3.1.ends.map iM),Ob.row .uq 83 3 (y3.1.au.map aZ.c),Ob.row .uq 43 2 (y3.1.facts.map aD.c)]⟩)(hm2:x313.tokens.length<=maxLen):∀(rest:ay) (i2:Nat) (Ah:Int) (Ai:Int),x313.tokens.drop i2=rest->jg aC cS y3 mT i1 bU x313 k2 rest i2 Ah Ai=some r->Ar Γ N f120 (.q [[some (63,4),some (3,1),some (83,3),some (74,8),some (43,2),none]] (D.agg [D.fr 63 4 (r.rules.map aK.c),D.fr 3 1 (r.ends.map iM),D.fr 83 3 (r.au.map aZ.c),D.fr 74 8 (r.nodes.map Node.c),D.fr 43 2 (r.facts.map aD.c),D.int .i64 r.bp])) [1,1,1,0,1,0,0,1,1,0,0,1,1,1,0,1,0] (rest.length+1) (IM aC cS y3 mT i1 bU x313 Ah Ai (i2:Int)):=by
 intro rest
 induction rest with
 |nil=>
  intro i2 Ah Ai hd2 h;rw[jg]at h;refine aQ fun N2 ue sB=>?_
  exact((aY.ge aU.c hd2).a [.hl 5 [3,5,6,7,9,10,11,22,23,24] [0,1,2,3,4,5,6,7,8,9]]).ex hΓ ue (AJ Ah Ai h)
 |cons lq tR ih2=>
  intro i2 Ah Ai hd2 h;rw[jg]at h;refine aQ fun N2 ue sB=>?_
  obtain⟨x359,h360,h⟩:=aB h;obtain⟨a7D,h362,h⟩:=aB h;have JM:=(((((aY.lt aU.c hd2).l (bJ aU.c 2 (dc hd2) rfl)).a [.n 8]).l (fO Node.c 8 h360 rfl)).g (EA h362))
  obtain⟨h363,h⟩|⟨h363,h⟩:=aM h
  ·exact((JM.b h363).a [.cn [3,5,6,7,9,10,11,22,23,24,37,38,39] [0,1,2,3,4,5,6,7,8,9]]).ct hΓ sB (iS hd2 hm2) (ih2 (i2+1) (IntKind.i64.wrap (Ah+1)) Ai (dn hd2) h)
  ·exact((JM.b h363).a [.cn [3,5,6,7,9,10,11,22,23,24,37,38,39] [0,1,2,3,4,5,6,7,8,9]]).ct hΓ sB (iS hd2 hm2) (ih2 (i2+1) Ah (IntKind.i64.wrap (Ai+1)) (dn hd2) h)
theorem H9(hΓ:Γ.nt=95){aC:aH}{cS:aD}{y3:aH×Unit}{r:aH}{k1:Int->Option aH}(di:∀(pS:Int),k1 pS=some r->Ax Γ N f120 (.q [[some (63,4),some (3,1),some (83,3),some (74,8),some (43,2),none]] (D.agg [D.fr 63 4 (r.rules.map aK.c),D.fr 3 1 (r.ends.map iM),D.fr 83 3 (r.au.map aZ.c),D.fr 74 8 (r.nodes.map Node.c),D.fr 43 2 (r.facts.map aD.c),D.int .i64 r.bp])) [1,1,1,1] ⟨[(6,D.ptr 0 0),(7,D.ptr 1 0)],[Ob.box [D.nil,D.nil,D.nil,D.nil,D.nil,D.int .i64 0],Ob.box [D.acc 2,D.acc 3,D.acc 4,D.acc 5,D.acc 6,D.int .i64 pS],Ob.row .uq 63 4 (y3.1.rules.map aK.c),Ob.row .uq 3 1 (y3.1.ends.map iM),Ob.row .uq 83 3 (y3.1.au.map aZ.c),Ob.row .uq 74 8 (y3.1.nodes.map Node.c),Ob.row .uq 43 2 (y3.1.facts.map aD.c)]⟩)(hm1:y3.1.nodes.length<=maxLen):∀(rest:bE) (i1:Nat) (mT:Int),y3.1.nodes.drop i1=rest->fL aC cS y3 k1 rest i1 mT=some r->Ar Γ N f120 (.q [[some (63,4),some (3,1),some (83,3),some (74,8),some (43,2),none]] (D.agg [D.fr 63 4 (r.rules.map aK.c),D.fr 3 1 (r.ends.map iM),D.fr 83 3 (r.au.map aZ.c),D.fr 74 8 (r.nodes.map Node.c),D.fr 43 2 (r.facts.map aD.c),D.int .i64 r.bp])) [1,1,1,0,1,0] (rest.length+1) (IL aC cS y3 mT (i1:Int)):=by
 intro rest
 induction rest with
 |nil=>
  intro i1 mT az h;rw[fL]at h;refine aQ fun N1 cY cI=>?_
  exact((aY.ge Node.c az).a [.hl 0 [6,7] [2,3,5,6,7,4,8]]).ex hΓ cY (di mT h)
 |cons bU cQ ih1=>
  intro i1 mT az h;rw[fL]at h;refine aQ fun N1 cY cI=>?_
  have Qo:=(((aY.lt Node.c az).i (nU Node.c 8 (dc az))).o 8 8 .uq (cR Node.c (dc az)))
  obtain⟨h312,h⟩|⟨h312,h⟩:=aM h
  ·exact((Qo.b h312).a [.cn [3,5,6,7,22,23,24] [0,1,2,3,4,5,6,7,8]]).ct hΓ cI (iS az hm1) (ih1 (i1+1) mT (dn az) h)
  ·obtain⟨x313,h314,h⟩:=aB h;obtain⟨h370,h⟩:=bR h;refine((((Qo.b h312).i (gl Node.c 8 h314)).o 8 8 .uq (cR Node.c (eW h314))).a [.cn [3,5,6,7,9,10,11,22,23,24,37,38,39] [0,1,2,3,9,4,5,6,7,8]]).lp hΓ (HA hΓ (fun OB Gs h=>?_) (bn h370) x313.tokens 0 0 0 rfl h);obtain⟨h364,h⟩|⟨h364,h⟩:=aM h
   ·exact((aY.b h364).a [.cn [3,5,6,7,22,23,24] [0,1,2,3,5,6,7,8,9]]).ct hΓ cI (iS az hm1) (ih1 (i1+1) (IntKind.i64.wrap (mT+Gs)) (dn az) h)
   ·obtain⟨x365,h366,h⟩:=aB h;obtain⟨VE,h368,h⟩:=aB h;have Qp:=(((((aY.b h364).i (gl aZ.c 3 h366)).o 3 3 .uq (cR aZ.c (eW h366))).a [.d (D.gL [D.fr 113 2 (VE.1.map aX.c),D.bool VE.2])]).w (show Good prog 186 [D.agg (aD.c x365.shape),D.agg (aD.c cS),D.sl ([])] (D.gL [D.fr 113 2 (VE.1.map aX.c),D.bool VE.2])from by first| (simpa only[bA,bB,bZ,bX,bg]using pU h368)|exact pU h368))
    obtain⟨h369,h⟩|⟨h369,h⟩:=aM h
    ·exact((Qp.b h369).a [.cn [3,5,6,7,22,23,24] [0,1,2,3,5,6,7,8,9]]).ct hΓ cI (iS az hm1) (ih1 (i1+1) (IntKind.i64.wrap ((IntKind.i64.wrap (mT+(IntKind.i64.wrap (Gs*((x365.facts.map aD.c).length:Int)))))+OB)) (dn az) h)
    ·exact((Qp.b h369).a [.cn [3,5,6,7,22,23,24] [0,1,2,3,5,6,7,8,9]]).ct hΓ cI (iS az hm1) (ih1 (i1+1) (IntKind.i64.wrap (mT+(IntKind.i64.wrap (Gs*((x365.facts.map aD.c).length:Int))))) (dn az) h)
theorem Fj{aC:aH}{aa:aJ}{cS:aD}{r:aH}(h:tg aC aa cS=some r):Good prog 120 [D.agg (aH.c aC),D.sl (aa.map aD.c),D.agg (aD.c cS)] (D.agg [D.fr 63 4 (r.rules.map aK.c),D.fr 3 1 (r.ends.map iM),D.fr 83 3 (r.au.map aZ.c),D.fr 74 8 (r.nodes.map Node.c),D.fr 43 2 (r.facts.map aD.c),D.int .i64 r.bp]):=by
 refine gd func120 [[some (63,4),some (3,1),some (83,3),some (74,8),some (43,2),none]] 95 fun hr Γ hΓ=>?_
 rw[tg]at h;obtain⟨y1,h2,h⟩:=aB h;obtain⟨y3,h4,h⟩:=aB h;obtain⟨h371,h⟩:=bR h;refine(((aY.g (o7 h2)).hp [[some (63,4),some (3,1),some (83,3),some (74,8),some (43,2),none],[none]] (tI h4)).a [.cn [3,5,6,7,22,23,24] [0,1,2,8,12,9,10,11,13]]).lp hΓ (H9 hΓ (fun pS h=>?_) (bn h371) y3.1.nodes 0 y3.1.bp rfl h);cases h;exact aY.ret hΓ
def CH(aC:aH)(aa:aD):Option (aH×Bool):=((tX aC.facts aa).bind fun y1=>(bif !(y1.2)then((iV aC).bind fun y4=>(some (y4,false)))else((tg aC y1.1 aa).bind fun y6=>(some (y6,true)))))
theorem L8{aC:aH}{aa:aD}{r:aH×Bool}(h:CH aC aa=some r):Good prog 62 [D.agg (aH.c aC),D.agg (aD.c aa)] (D.gL [D.agg [D.fr 63 4 (r.1.rules.map aK.c),D.fr 3 1 (r.1.ends.map iM),D.fr 83 3 (r.1.au.map aZ.c),D.fr 74 8 (r.1.nodes.map Node.c),D.fr 43 2 (r.1.facts.map aD.c),D.int .i64 r.1.bp],D.bool r.2]):=by
 refine gd func62 [[some (63,4),some (3,1),some (83,3),some (74,8),some (43,2),none],[none]] 23 fun hr Γ hΓ=>?_
 rw[CH]at h;obtain⟨y1,h2,h⟩:=aB h;obtain⟨h3,h⟩|⟨h3,h⟩:=aM h
 ·obtain⟨y4,h5,h⟩:=aB h;cases h;exact(((aY.g (yc h2)).b h3).g (o7 h5)).ret hΓ
 ·obtain⟨y6,h7,h⟩:=aB h;cases h;exact(((aY.g (yc h2)).b h3).g (Fj h7)).ret hΓ
def oS(aC:aH)(aa:aD):Option (aH×Bool):=((mr aC).bind fun y1=>(bif !(y1)then((iV aC).bind fun y4=>(some (y4,false)))else((CH aC aa).bind fun y6=>(some (y6.1,y6.2)))))
theorem qd{aC:aH}{aa:aD}{r:aH×Bool}(h:oS aC aa=some r):Good prog 21 [D.agg (aH.c aC),D.agg (aD.c aa)] (D.gL [D.agg [D.fr 63 4 (r.1.rules.map aK.c),D.fr 3 1 (r.1.ends.map iM),D.fr 83 3 (r.1.au.map aZ.c),D.fr 74 8 (r.1.nodes.map Node.c),D.fr 43 2 (r.1.facts.map aD.c),D.int .i64 r.1.bp],D.bool r.2]):=by
 refine gd func21 [[some (63,4),some (3,1),some (83,3),some (74,8),some (43,2),none],[none]] 16 fun hr Γ hΓ=>?_
 rw[oS]at h;obtain⟨y1,h2,h⟩:=aB h;obtain⟨h3,h⟩|⟨h3,h⟩:=aM h
 ·obtain⟨y4,h5,h⟩:=aB h;cases h;exact(((aY.g (mZ h2)).b h3).g (o7 h5)).ret hΓ
 ·obtain⟨y6,h7,h⟩:=aB h;cases h;exact(((aY.g (mZ h2)).b h3).g (L8 h7)).ret hΓ
end Go.Cx
namespace Go.Cx
open Go.RowKit Go.Proofs Tryz
set_option maxRecDepth 100000
variable{Γ:uB}{N:Nat->St->Prop}
def fV(aa:aJ)(k1:Int->Int->aj->bC->bK->bE->aJ->Option (aH×Int)):aJ->Nat->Int->Int->aj->bC->bK->bE->aJ->Option (aH×Int)
 | [],i1,oh,gM,iO,cg,uN,jk,uO=>(k1 oh gM iO cg uN jk uO)
 |bU::cQ,i1,oh,gM,iO,cg,uN,jk,uO=>((oS (⟨iO,cg,uN,jk,uO,gM⟩:aH) bU).bind fun vm=>(bif vm.2 then(fV aa k1 cQ (i1+1) (IntKind.i64.wrap (oh+1)) vm.1.bp vm.1.rules vm.1.ends vm.1.au vm.1.nodes vm.1.facts)else(fV aa k1 cQ (i1+1) oh gM iO cg uN jk uO)))
def mo(aC:aH)(aa:aJ):Option (aH×Int):=((iV aC).bind fun y1=>(fV aa (fun(Yv:Int) (pS:Int) (nQ:aj) (eM:bC) (F3:bK) (lg:bE) (F4:aJ)=>(some ((⟨nQ,eM,F3,lg,F4,pS⟩:aH),Yv))) aa 0 0 y1.bp y1.rules y1.ends y1.au y1.nodes y1.facts))
def D4(aa:aJ)(oh:Int)(gM:Int)(W2:List aL)(W3:List aL)(W4:List aL)(W5:List aL)(W6:List aL)(dL:Int):St:=⟨[(4,D.ptr 0 0),(6,D.ptr 1 0),(7,D.int .i64 oh),(14,D.sl (aa.map aD.c)),(15,D.int .i64 ((aa.map aD.c).length:Int)),(16,D.int .i64 dL)],[Ob.box [D.nil,D.nil,D.nil,D.nil,D.nil,D.int .i64 0],Ob.box [D.acc 2,D.acc 3,D.acc 4,D.acc 5,D.acc 6,D.int .i64 gM],Ob.row .uq 63 4 W2,Ob.row .uq 3 1 W3,Ob.row .uq 83 3 W4,Ob.row .uq 74 8 W5,Ob.row .uq 43 2 W6]⟩
theorem C5(hΓ:Γ.nt=33){aa:aJ}{r:aH×Int}{k1:Int->Int->aj->bC->bK->bE->aJ->Option (aH×Int)}(di:∀(Yv:Int) (pS:Int) (nQ:aj) (eM:bC) (F3:bK) (lg:bE) (F4:aJ),k1 Yv pS nQ eM F3 lg F4=some r->Ax Γ N f52 (.q [[some (63,4),some (3,1),some (83,3),some (74,8),some (43,2),none],[none]] (D.gL [D.agg [D.fr 63 4 (r.1.rules.map aK.c),D.fr 3 1 (r.1.ends.map iM),D.fr 83 3 (r.1.au.map aZ.c),D.fr 74 8 (r.1.nodes.map Node.c),D.fr 43 2 (r.1.facts.map aD.c),D.int .i64 r.1.bp],D.int .i64 r.2])) [1,1,1,1] ⟨[(4,D.ptr 0 0),(6,D.ptr 1 0),(7,D.int .i64 Yv)],[Ob.box [D.nil,D.nil,D.nil,D.nil,D.nil,D.int .i64 0],Ob.box [D.acc 2,D.acc 3,D.acc 4,D.acc 5,D.acc 6,D.int .i64 pS],Ob.row .uq 63 4 (nQ.map aK.c),Ob.row .uq 3 1 (eM.map iM),Ob.row .uq 83 3 (F3.map aZ.c),Ob.row .uq 74 8 (lg.map Node.c),Ob.row .uq 43 2 (F4.map aD.c)]⟩)(hm1:aa.length<=maxLen):∀(rest:aJ) (i1:Nat) (oh:Int) (gM:Int) (iO:aj) (cg:bC) (uN:bK) (jk:bE) (uO:aJ),aa.drop i1=rest->fV aa k1 rest i1 oh gM iO cg uN jk uO=some r->Ar Γ N f52 (.q [[some (63,4),some (3,1),some (83,3),some (74,8),some (43,2),none],[none]] (D.gL [D.agg [D.fr 63 4 (r.1.rules.map aK.c),D.fr 3 1 (r.1.ends.map iM),D.fr 83 3 (r.1.au.map aZ.c),D.fr 74 8 (r.1.nodes.map Node.c),D.fr 43 2 (r.1.facts.map aD.c),D.int .i64 r.1.bp],D.int .i64 r.2])) [1,1,1,0,1,0] (rest.length+1) (D4 aa oh gM (iO.map aK.c) (cg.map iM) (uN.map aZ.c) (jk.map Node.c) (uO.map aD.c) (i1:Int)):=by
 intro rest
 induction rest with
 |nil=>
  intro i1 oh gM iO cg uN jk uO az h;rw[fV]at h;refine aQ fun N1 cY cI=>?_
  exact((aY.ge aD.c az).a [.hl 0 [4,6,7] [0,1,2,3,4,5,6]]).ex hΓ cY (di oh gM iO cg uN jk uO h)
 |cons bU cQ ih1=>
  intro i1 oh gM iO cg uN jk uO az h;rw[fV]at h;refine aQ fun N1 cY cI=>?_
  obtain⟨vm,h36,h⟩:=aB h;have fk:=((((aY.lt aD.c az).l (bJ aD.c 2 (dc az) rfl)).a [.d (D.gL [D.agg [D.fr 63 4 (vm.1.rules.map aK.c),D.fr 3 1 (vm.1.ends.map iM),D.fr 83 3 (vm.1.au.map aZ.c),D.fr 74 8 (vm.1.nodes.map Node.c),D.fr 43 2 (vm.1.facts.map aD.c),D.int .i64 vm.1.bp],D.bool vm.2])]).w (show Good prog 21 [D.agg [D.sl (iO.map aK.c),D.sl (cg.map iM),D.sl (uN.map aZ.c),D.sl (jk.map Node.c),D.sl (uO.map aD.c),D.int .i64 gM],D.agg (aD.c bU)] (D.gL [D.agg [D.fr 63 4 (vm.1.rules.map aK.c),D.fr 3 1 (vm.1.ends.map iM),D.fr 83 3 (vm.1.au.map aZ.c),D.fr 74 8 (vm.1.nodes.map Node.c),D.fr 43 2 (vm.1.facts.map aD.c),D.int .i64 vm.1.bp],D.bool vm.2])from by first| (simpa only[bA,bB,bZ,bX,bg]using qd h36)|exact qd h36| (have t:=qd h36;simp only[bA,bX,bg,aH.c]at t;exact t)))
  obtain⟨h37,h⟩|⟨h37,h⟩:=aM h
  ·exact((fk.b h37).a [.cn [4,6,7,14,15,16] [0,1,8,9,10,11,12]]).ct hΓ cI (iS az hm1) (ih1 (i1+1) (IntKind.i64.wrap (oh+1)) vm.1.bp vm.1.rules vm.1.ends vm.1.au vm.1.nodes vm.1.facts (dn az) h)
  ·exact((fk.b h37).a [.cn [4,6,7,14,15,16] [0,1,2,3,4,5,6]]).ct hΓ cI (iS az hm1) (ih1 (i1+1) oh gM iO cg uN jk uO (dn az) h)
theorem vW{aC:aH}{aa:aJ}{r:aH×Int}(h:mo aC aa=some r):Good prog 52 [D.agg (aH.c aC),D.sl (aa.map aD.c)] (D.gL [D.agg [D.fr 63 4 (r.1.rules.map aK.c),D.fr 3 1 (r.1.ends.map iM),D.fr 83 3 (r.1.au.map aZ.c),D.fr 74 8 (r.1.nodes.map Node.c),D.fr 43 2 (r.1.facts.map aD.c),D.int .i64 r.1.bp],D.int .i64 r.2]):=by
 refine gd func52 [[some (63,4),some (3,1),some (83,3),some (74,8),some (43,2),none],[none]] 33 fun hr Γ hΓ=>?_
 rw[mo]at h;obtain⟨y1,h2,h⟩:=aB h;refine((aY.g (o7 h2)).a [.cn [4,6,7,14,15,16] [1,7,2,3,4,5,6]]).lp hΓ (C5 hΓ (fun Yv pS nQ eM F3 lg F4 h=>?_) (by have:=(gq.sl (hr _ (aE (i:=1) rfl))).1;simpa using this) aa 0 0 y1.bp y1.rules y1.ends y1.au y1.nodes y1.facts rfl h);cases h;exact aY.ret hΓ
def mc(aC:aH):Option aH:=((mr aC).bind fun y1=>(bif !(y1)then(some (⟨[],[],[],[],[],0⟩:aH))else((qI aC.rules ([]) 0).bind fun y4=>((mo y4 aC.facts).bind fun y6=>(some y6.1)))))
theorem zb{aC:aH}{r:aH}(h:mc aC=some r):Good prog 15 [D.agg (aH.c aC)] (D.agg [D.fr 63 4 (r.rules.map aK.c),D.fr 3 1 (r.ends.map iM),D.fr 83 3 (r.au.map aZ.c),D.fr 74 8 (r.nodes.map Node.c),D.fr 43 2 (r.facts.map aD.c),D.int .i64 r.bp]):=by
 refine gd func15 [[some (63,4),some (3,1),some (83,3),some (74,8),some (43,2),none]] 19 fun hr Γ hΓ=>?_
 rw[mc]at h;obtain⟨y1,h2,h⟩:=aB h;obtain⟨h3,h⟩|⟨h3,h⟩:=aM h
 ·cases h;exact((aY.g (mZ h2)).b h3).ret hΓ
 ·obtain⟨y4,h5,h⟩:=aB h;obtain⟨y6,h7,h⟩:=aB h;cases h;exact(((((aY.g (mZ h2)).b h3).a [.n 11,.ds (D.agg [D.fr 63 4 (y4.rules.map aK.c),D.fr 3 1 (y4.ends.map iM),D.fr 83 3 (y4.au.map aZ.c),D.fr 74 8 (y4.nodes.map Node.c),D.fr 43 2 (y4.facts.map aD.c),D.int .i64 y4.bp])]).w (show Good prog 53 [D.sl (aC.rules.map aK.c),D.sl ([]),D.int .i64 0] (D.agg [D.fr 63 4 (y4.rules.map aK.c),D.fr 3 1 (y4.ends.map iM),D.fr 83 3 (y4.au.map aZ.c),D.fr 74 8 (y4.nodes.map Node.c),D.fr 43 2 (y4.facts.map aD.c),D.int .i64 y4.bp])from by first| (simpa only[bA,bB,bZ,bX,bg]using qJ h5)|exact qJ h5)).g (vW h7)).ret hΓ
def sI(aC:aj)(aa:aJ):Option Int:=((pX aC).bind fun y1=>(bif !(y1)then(some (-1))else((oH aa).bind fun y4=>(bif !(y4)then(some (-1))else((qI aC ([]) 0).bind fun y7=>((mo y7 aa).bind fun y9=>(some y9.1.bp)))))))
theorem E4{aC:aj}{aa:aJ}{r:Int}(h:sI aC aa=some r):Good prog 18 [D.sl (aC.map aK.c),D.sl (aa.map aD.c)] (D.int .i64 r):=by
 refine gd func18 [[none]] 24 fun hr Γ hΓ=>?_
 rw[sI]at h;obtain⟨y1,h2,h⟩:=aB h;obtain⟨h3,h⟩|⟨h3,h⟩:=aM h
 ·cases h;exact(((aY.g (tY h2)).r 4 h3).T 1).ret hΓ
 ·obtain⟨y4,h5,h⟩:=aB h;have nP:=((((aY.g (tY h2)).r 2 h3).g (qE h5)).r 2 h3)
  obtain⟨h6,h⟩|⟨h6,h⟩:=aM h
  ·cases h;exact(nP.b h6).ret hΓ
  ·obtain⟨y7,h8,h⟩:=aB h;obtain⟨y9,h10,h⟩:=aB h;cases h;exact((((nP.b h6).a [.d (D.agg [D.fr 63 4 (y7.rules.map aK.c),D.fr 3 1 (y7.ends.map iM),D.fr 83 3 (y7.au.map aZ.c),D.fr 74 8 (y7.nodes.map Node.c),D.fr 43 2 (y7.facts.map aD.c),D.int .i64 y7.bp])]).w (show Good prog 53 [D.sl (aC.map aK.c),D.sl ([]),D.int .i64 0] (D.agg [D.fr 63 4 (y7.rules.map aK.c),D.fr 3 1 (y7.ends.map iM),D.fr 83 3 (y7.au.map aZ.c),D.fr 74 8 (y7.nodes.map Node.c),D.fr 43 2 (y7.facts.map aD.c),D.int .i64 y7.bp])from by first| (simpa only[bA,bB,bZ,bX,bg]using qJ h8)|exact qJ h8)).g (vW h10)).ret hΓ
def eo(aC:aH)(k1:Int->Option Int):bK->Nat->Int->Option Int
 | [],i1,j6=>(k1 j6)
 |bU::cQ,i1,j6=>(eo aC k1 cQ (i1+1) (IntKind.i64.wrap (j6+((bU.facts.map aD.c).length:Int))))
def er(aC:aH)(k2:Int->Option Int):bE->Nat->Int->Option Int
 | [],i2,LK=>(k2 LK)
 |lq::tR,i2,LK=>(er aC k2 tR (i2+1) (IntKind.i64.wrap (LK+((lq.tokens.map aU.c).length:Int))))
def kA(aC:aH):Option Int:=(eo aC (fun(LO:Int)=>(er aC (fun(Yx:Int)=>(some Yx)) aC.nodes 0 LO)) aC.au 0 0)
def D7(aC:aH)(j6:Int)(dL:Int):St:=⟨[(1,D.ptr 0 0),(3,D.int .i64 j6),(9,D.sl (aC.au.map aZ.c)),(10,D.int .i64 ((aC.au.map aZ.c).length:Int)),(11,D.int .i64 dL)],[Ob.box (aH.c aC)]⟩
theorem C6(hΓ:Γ.nt=35){aC:aH}{r:Int}{k1:Int->Option Int}(di:∀(LO:Int),k1 LO=some r->Ax Γ N f19 (.q [[none]] (D.int .i64 r)) [1,1,1] ⟨[(1,D.ptr 0 0),(3,D.int .i64 LO)],[Ob.box (aH.c aC)]⟩)(hm1:aC.au.length<=maxLen):∀(rest:bK) (i1:Nat) (j6:Int),aC.au.drop i1=rest->eo aC k1 rest i1 j6=some r->Ar Γ N f19 (.q [[none]] (D.int .i64 r)) [1,1,0,1,0] (rest.length+1) (D7 aC j6 (i1:Int)):=by
 intro rest
 induction rest with
 |nil=>
  intro i1 j6 az h;rw[eo]at h;refine aQ fun N1 cY cI=>?_
  exact((aY.ge aZ.c az).a [.hl 0 [1,3] [0]]).ex hΓ cY (di j6 h)
 |cons bU cQ ih1=>
  intro i1 j6 az h;rw[eo]at h;refine aQ fun N1 cY cI=>?_
  exact(((aY.lt aZ.c az).l (bJ aZ.c 3 (dc az) rfl)).a [.cn [1,3,9,10,11] [0]]).ct hΓ cI (iS az hm1) (ih1 (i1+1) (IntKind.i64.wrap (j6+((bU.facts.map aD.c).length:Int))) (dn az) h)
def D8(aC:aH)(LK:Int)(dL:Int):St:=⟨[(3,D.int .i64 LK),(22,D.sl (aC.nodes.map Node.c)),(23,D.int .i64 ((aC.nodes.map Node.c).length:Int)),(24,D.int .i64 dL)],[]⟩
theorem C7(hΓ:Γ.nt=35){aC:aH}{r:Int}{k2:Int->Option Int}(AJ:∀(Yx:Int),k2 Yx=some r->Ax Γ N f19 (.q [[none]] (D.int .i64 r)) [1,1,1,1] ⟨[(3,D.int .i64 Yx)],[]⟩)(hm2:aC.nodes.length<=maxLen):∀(rest:bE) (i2:Nat) (LK:Int),aC.nodes.drop i2=rest->er aC k2 rest i2 LK=some r->Ar Γ N f19 (.q [[none]] (D.int .i64 r)) [1,1,1,0,1,0] (rest.length+1) (D8 aC LK (i2:Int)):=by
 intro rest
 induction rest with
 |nil=>
  intro i2 LK hd2 h;rw[er]at h;refine aQ fun N2 ue sB=>?_
  exact((aY.ge Node.c hd2).a [.hl 0 [3] []]).ex hΓ ue (AJ LK h)
 |cons lq tR ih2=>
  intro i2 LK hd2 h;rw[er]at h;refine aQ fun N2 ue sB=>?_
  exact(((aY.lt Node.c hd2).l (bJ Node.c 8 (dc hd2) rfl)).a [.cn [3,22,23,24] []]).ct hΓ sB (iS hd2 hm2) (ih2 (i2+1) (IntKind.i64.wrap (LK+((lq.tokens.map aU.c).length:Int))) (dn hd2) h)
theorem vY{aC:aH}{r:Int}(h:kA aC=some r):Good prog 19 [D.agg (aH.c aC)] (D.int .i64 r):=by
 refine gd func19 [[none]] 35 fun hr Γ hΓ=>?_
 rw[kA]at h;refine(aY.a [.cn [1,3,9,10,11] [0]]).lp hΓ (C6 hΓ (fun LO h=>?_) (by have:=(gq.sl (gq.agg (hr _ (aE (i:=0) rfl)) (.sl (aC.au.map aZ.c)) (by simp))).1;simpa using this) aC.au 0 0 rfl h);refine(aY.a [.cn [3,22,23,24] []]).lp hΓ (C7 hΓ (fun Yx h=>?_) (by have:=(gq.sl (gq.agg (hr _ (aE (i:=0) rfl)) (.sl (aC.nodes.map Node.c)) (by simp))).1;simpa using this) aC.nodes 0 LO rfl h);have h:=aN h;subst h;exact aY.ret hΓ
def As(aC:bC):Option bC:=(bif room (([]:List aL).length+(aC.map iM).length) 8 then(some (([]:bC)++aC))else none)
def s7(aC:ay)(k1:ay->Option ay):ay->Nat->ay->Option ay
 | [],i1,bP=>(k1 bP)
 |bU::cQ,i1,bP=>((qm bU).bind fun oX=>(bif room ((bP.map aU.c).length+([[D.sl (oX.facts.map aD.c),D.sl (oX.bind.map aX.c)]]).length) 48 then(s7 aC k1 cQ (i1+1) (bP++([oX])))else none))
def oT(aC:ay):Option ay:=(s7 aC (fun(cH:ay)=>(some cH)) aC 0 ([]:ay))
def uG(aC:aH)(y1:aj)(y3:bC)(y5:aJ)(k1:bK->Option aH):bK->Nat->bK->Option aH
 | [],i1,jk=>(k1 jk)
 |bU::cQ,i1,jk=>((eS bU.shape).bind fun Dk=>((fo bU.facts).bind fun y75=>(bif room ((jk.map aZ.c).length+([[D.str Dk.rel,D.sl (Dk.args.map tx),D.sl (y75.map aD.c)]]).length) 64 then(uG aC y1 y3 y5 k1 cQ (i1+1) (jk++([(⟨Dk,y75⟩:aZ)])))else none)))
def uH(aC:aH)(y1:aj)(y3:bC)(y5:aJ)(lg:bK)(k2:bE->Option aH):bE->Nat->bE->Option aH
 | [],i2,lC=>(k2 lC)
 |lq::tR,i2,lC=>((ju lq.cond).bind fun Jc=>((oT lq.tokens).bind fun a78=>(bif room ((lC.map Node.c).length+([[D.int .i64 lq.parent,D.int .i64 Jc.kind,D.str Jc.pat.rel,D.sl (Jc.pat.args.map tx),D.str Jc.left,D.str Jc.right,D.int .i64 lq.cj,D.sl (a78.map aU.c)]]).length) 120 then(uH aC y1 y3 y5 lg k2 tR (i2+1) (lC++([(⟨lq.parent,Jc,lq.cj,a78⟩:Node)])))else none)))
def Gd(aC:aH):Option aH:=((pu aC.rules).bind fun y1=>((As aC.ends).bind fun y3=>((fo aC.facts).bind fun y5=>(uG aC y1 y3 y5 (fun(lg:bK)=>(uH aC y1 y3 y5 lg (fun(pJ:bE)=>(some (⟨y1,y3,lg,pJ,y5,aC.bp⟩:aH))) aC.nodes 0 ([]:bE))) aC.au 0 ([]:bK)))))
end Go.Cx
namespace Go.Cx
open Go.RowKit Go.Proofs Tryz
theorem wD{α:Type}{a pre xs:List α}{x:α}(h:a=pre++x::xs):iP a (pre.length:Int)=some x:=by
 unfold iP;have:a[pre.length]?=some x:=by rw[h];simp
 simp[this]
theorem Gk{n b:Nat}(hn:n<=1099511627776)(hb:b<=128):room n b=true:=by
 unfold room maxLen;have:n*b<=1099511627776*128:=Nat.mul_le_mul hn hb;simp;omega
theorem fZ{α:Type}{w:List α}{c:α->aL}{y:aL}{b:Nat}(h:w.length<1099511627776)(hb:b<=128):room ((w.map c).length+([y]).length) b=true:=Gk (by simp;omega) hb
theorem Xu{α β:Type}{w:List α}{v:List β}{c:α->aL}{d:β->aL}{b:Nat}(h:w.length+v.length<=1099511627776)(hb:b<=128):room ((w.map c).length+(v.map d).length) b=true:=Gk (by simp;omega) hb
theorem Qx{β:Type}{v:List β}{d:β->aL}{b:Nat}(h:v.length<=1099511627776)(hb:b<=128):room (([]:List aL).length+(v.map d).length) b=true:=Gk (by simp;omega) hb
theorem uV{α:Type}{l:List α}(h:l.length<=1099511627776):decide (l.length<=maxLen)=true:=by unfold maxLen;simp;omega
theorem Dd{α β γ:Type}{c:β->aL}{b:Nat}{f:α->Option β}{g:α->β}{L:List α->Nat->List β->Option γ}{k:List β->Option γ}(hb:b<=128)(uI:∀i w,L [] i w=k w)
 (tu:∀x xs i w,L (x::xs) i w=(f x).bind fun y=>bif room ((w.map c).length+([c y]).length) b then L xs (i+1) (w++[y])else none):
 ∀(l:List α) (i:Nat) (w:List β),(∀x∈l,f x=some (g x))->w.length+l.length<=1099511627776->L l i w=k (w++l.map g):=by
 intro l
 induction l with
 |nil=>intro i w _ _;simp[uI]
 |cons x xs ih=>
  intro i w hf hl;simp only[aP]at hl;rw[tu,hf x (by simp),aA,fZ (by omega) hb,aI,ih _ _ (fun y hy=>hf y (by simp[hy])) (by simp;omega)];simp
theorem UB{α:Type}{f:α->Option Bool}{p:α->Bool}{L:List α->Nat->Option Bool}{k:Option Bool}(uI:∀i,L [] i=k)
 (tu:∀x xs i,L (x::xs) i=(f x).bind fun y=>bif !y then some false else L xs (i+1)):∀(l:List α) (i:Nat),(∀x∈l,f x=some (p x))->L l i=bif l.all p then k else some false:=by
 intro l
 induction l with
 |nil=>intro i _;simp[uI]
 |cons x xs ih=>
  intro i hf;rw[tu,hf x (by simp),aA,ih _ (fun y hy=>hf y (by simp[hy])),dA];cases p x<;>simp
theorem vU:∀(a:Bytes),Op.bytesLess a a=false
 | []=>rfl
 |x::a=>by simp[Op.bytesLess,vU a]
theorem BE:∀ {a b c:Bytes},Op.bytesLess a b=true->Op.bytesLess b c=true->Op.bytesLess a c=true
 | [],b,[],_,h2=>by cases b<;>simp[Op.bytesLess]at h2
 | [],b,_::_,_,_=>by simp[Op.bytesLess]
 |_::_,[],_,h1,_=>by simp[Op.bytesLess]at h1
 |_::_,_::_,[],_,h2=>by simp[Op.bytesLess]at h2
 |x::a,y::b,z::c,h1,h2=>by
  simp only[Op.bytesLess,oD,bI,aV,cc]at h1 h2⊢;rcases h1 with h1|⟨rfl,h1⟩
  ·rcases h2 with h2|⟨rfl,h2⟩
   ·exact .inl (UInt8.lt_trans h1 h2)
   ·exact .inl h1
  ·rcases h2 with h2|⟨rfl,h2⟩
   ·exact .inl h2
   ·exact .inr ⟨rfl,BE h1 h2⟩
theorem Jr:∀ {a b:Bytes},Op.bytesLess a b=false->Op.bytesLess b a=false->a=b
 | [],[],_,_=>rfl
 | [],_::_,h,_=>by simp[Op.bytesLess]at h
 |_::_,[],_,h=>by simp[Op.bytesLess]at h
 |x::a,y::b,h1,h2=>by
  simp only[Op.bytesLess,Bool.or_eq_false_iff,qy,Cy,dK,ne_eq]at h1 h2;have e:x=y:=by
   have h3:=h1.1;have h4:=h2.1;rw[D2]at h3 h4;exact UInt8.toNat_inj.1 (by omega)
  subst e;rw[Jr (h1.2.resolve_left (by simp)) (h2.2.resolve_left (by simp))]
theorem I9{a b:Bytes}(h:Op.bytesLess a b=true):Op.bytesLess b a=false:=by
 cases hb:Op.bytesLess b a with
 |false=>rfl
 |true=>have:=BE h hb;rw[vU]at this;cases this
def SS(l:aG):Prop:=l.Pairwise fun a b=>Op.bytesLess a b=true
theorem Jo:∀ {a b:aG},SS a->SS b->(∀x,x∈a↔x∈b)->a=b
 | [],[],_,_,_=>rfl
 | [],y::b,_,_,h=>by have:=(h y).2 (by simp);cases this
 |x::a,[],_,_,h=>by have:=(h x).1 (by simp);cases this
 |x::a,y::b,h1,h2,h=>by
  obtain⟨p1,p2⟩:=mj.1 h1;obtain⟨q1,q2⟩:=mj.1 h2;have e:x=y:=by
   refine Jr ?_ ?_
   ·cases hb:Op.bytesLess x y with
    |false=>rfl
    |true=>
     rcases bL.1 ((h x).1 (by simp))with rfl|hx
     ·exact(vU x▸hb).symm
     ·have:=I9 (q1 x hx);rw[hb]at this;exact this
   ·cases hb:Op.bytesLess y x with
    |false=>rfl
    |true=>
     rcases bL.1 ((h y).2 (by simp))with rfl|hx
     ·exact(vU y▸hb).symm
     ·have:=I9 (p1 y hx);rw[hb]at this;exact this
  subst e;rw[Jo p2 q2 (fun z=>?_)];constructor
  ·intro hz;rcases bL.1 ((h z).1 (by simp[hz]))with rfl|Mq
   ·have:=p1 z hz;rw[vU]at this;cases this
   ·exact Mq
  ·intro hz;rcases bL.1 ((h z).2 (by simp[hz]))with rfl|Mq
   ·have:=q1 z hz;rw[vU]at this;cases this
   ·exact Mq
def yT:aG->Bytes->aG
 | [],s=>[s]
 |x::xs,s=>bif Op.bytesLess x s then x::yT xs s else bif x==s then x::xs else s::x::xs
theorem MR:∀ {l:aG} {s y:Bytes},y∈yT l s↔y=s\/y∈l
 | [],s,y=>by simp[yT]
 |x::xs,s,y=>by
  simp only[yT];cases Op.bytesLess x s with
  |true=>simp only[aI,bL,MR (l:=xs)];constructor<;>(rintro(h|h|h)<;>simp[h])
  |false=>
   simp only[aS];cases hx:x==s with
   |true=>
    simp only[cc]at hx;subst hx;simp
   |false=>simp
theorem Tq:∀ {l:aG} {s:Bytes},SS l->SS (yT l s)
 | [],s,_=>by simp[yT,SS]
 |x::xs,s,h=>by
  obtain⟨p1,p2⟩:=mj.1 h;simp only[yT];cases hb:Op.bytesLess x s with
  |true=>
   simp only[aI];refine mj.2 ⟨fun y hy=>?_,Tq p2⟩;rcases MR.1 hy with rfl|hy
   ·exact hb
   ·exact p1 y hy
  |false=>
   simp only[aS];cases hx:x==s with
   |true=>exact h
   |false=>
    have hs:Op.bytesLess s x=true:=by
     cases hc:Op.bytesLess s x with
     |true=>rfl
     |false=>have:=Jr hb hc;subst this;simp at hx
    refine mj.2 ⟨fun y hy=>?_,h⟩;rcases bL.1 hy with rfl|hy
    ·exact hs
    ·exact BE hs (p1 y hy)
theorem A9:∀(l:aG) (s:Bytes),(yT l s).length<=l.length+1
 | [],s=>by simp[yT]
 |x::xs,s=>by
  have:=A9 xs s;simp only[yT];cases Op.bytesLess x s<;>simp only[aI,aS,aP]
  ·cases x==s<;>simp
  ·omega
def fE(l:aG):aG:=l.foldl yT []
theorem El:∀(l a:aG) (y:Bytes),y∈l.foldl yT a↔y∈a\/y∈l
 | [],a,y=>by simp
 |x::l,a,y=>by
  rw[dM,El l,MR];simp only[bL];constructor
  ·rintro((h|h)|h)<;>simp[h]
  ·rintro(h|h|h)<;>simp[h]
theorem Ge:∀(l:aG) {a:aG},SS a->SS (l.foldl yT a)
 | [],a,h=>h
 |x::l,a,h=>Ge l (Tq h)
theorem Ek:∀(l a:aG),(l.foldl yT a).length<=a.length+l.length
 | [],a=>by simp
 |x::l,a=>by
  have h1:=Ek l (yT a x);have h2:=A9 a x;rw[dM,aP];omega
theorem uJ{l:aG}{y:Bytes}:y∈fE l↔y∈l:=by unfold fE;rw[El];simp
theorem Mf(l:aG):SS (fE l):=Ge l (by simp[SS])
theorem py(l:aG):(fE l).length<=l.length:=by have:=Ek l [];simpa[fE]using this
theorem FA{a b:aG}(h:∀x,x∈a↔x∈b):fE a=fE b:=Jo (Mf a) (Mf b) (fun x=>by rw[uJ,uJ,h])
theorem Sc(a:aG)(x:Bytes):yT (fE a) x=fE (a++[x]):=by simp[fE]
theorem Sb(a b:aG):b.foldl yT (fE a)=fE (a++b):=by simp[fE]
theorem FB(a b:aG):(fE b).foldl yT (fE a)=fE (a++b):=by
 rw[Sb];exact FA (fun x=>by simp[uJ])
theorem nX(l:aG)(v:Bytes):(fE l).contains v=l.contains v:=by
 rw[br];simp[uJ]
def in1(x:UInt8):Bool:=decide ((x.toNat:Int)>=97)&&decide ((x.toNat:Int)<=122)
def in2(x:UInt8):Bool:=decide ((x.toNat:Int)>=48)&&decide ((x.toNat:Int)<=57)
def ab(x:UInt8):Bool:=in1 x||in2 x
def Ud(s:Bytes):Bool:=decide ((s.length:Int)>=1)&&decide ((s.length:Int)<=8)
def mN(s:Bytes):Bool:=s.all ab&&Ud s
def a1B:Bytes->Bool
 | []=>false
 |x::_=>decide ((x.toNat:Int)>=97)
def wQ(s:Bytes):Bool:=mN s&&a1B s
def nu:Bytes->Bool
 | []=>false
 |x::t=>decide ((x.toNat:Int)=63)&&mN t
def tM(s:Bytes):Bool:=mN s||nu s
theorem FJ{s:Bytes}(h:mN s=true):1<=s.length/\s.length<=8:=by
 simp only[mN,Ud,aV,bI]at h;omega
theorem Np{s:Bytes}(h:wQ s=true):1<=s.length/\s.length<=8:=by
 simp only[wQ,aV]at h;exact FJ h.1
theorem Ym{s:Bytes}(h:nu s=true):1<=s.length/\s.length<=9:=by
 cases s with
 |nil=>cases h
 |cons x t=>simp only[nu,aV]at h;have:=FJ h.2;simp;omega
theorem V3{s:Bytes}(h:tM s=true):1<=s.length/\s.length<=9:=by
 simp only[tM,oD]at h;rcases h with h|h
 ·have:=FJ h;omega
 ·exact Ym h
theorem Ja{s:Bytes}(h:nu s=true):mN s=false:=by
 cases s with
 |nil=>cases h
 |cons x t=>
  simp only[nu,aV,bI]at h;simp only[mN,dA,ab,in1,in2];have:(x.toNat:Int)=63:=h.1;simp[this]
theorem a27(x:UInt8):IntKind.i64.wrap ((x.toNat:Nat):Int)=(x.toNat:Int):=dS (pL.i64.2 (by have:=x.toNat_lt;omega))
theorem Jb{n:Nat}(h:n<=1099511627776):IntKind.i64.wrap ((n:Int)+1)=((n+1:Nat):Int):=by rw[dS (pL.i64.2 (by omega))];omega
theorem Ti{n:Nat}(h:1<=n):AU n (some (D.int .i64 1)) none=some (1,n):=by
 unfold AU;have:(0:Int)<=1/\(1:Int).toNat<=n:=⟨by decide,h⟩
 simp only[bN this];rfl
theorem J5(a b c:Int):kq a b c=some (decide (a>=b)&&decide (a<=c)):=by
 unfold kq;cases decide (a>=b)<;>rfl
theorem a3k(a:Bytes)(k:Option Bool)(ha:a.length<=1048576):∀(rest pre:Bytes),a=pre++rest->∀n,rest.length<n->jI a k n (pre.length:Int)=bif rest.all ab then k else some false:=by
 intro rest
 induction rest with
 |nil=>
  intro pre h n hn;obtain⟨m,rfl⟩:∃m,n=m+1:=⟨n-1,by simp at hn;omega⟩
  have e1:decide ((pre.length:Int)<(a.length:Int))=false:=by simp[h]
  rw[jI,e1];rfl
 |cons x xs ih=>
  intro pre h n hn;obtain⟨m,rfl⟩:∃m,n=m+1:=⟨n-1,by simp at hn;omega⟩
  have hl:a.length=pre.length+(xs.length+1):=by rw[h];simp
  have e1:decide ((pre.length:Int)<(a.length:Int))=true:=by rw[hl];simp;omega
  have e4:IntKind.i64.wrap ((pre.length:Int)+1)=((pre++[x]).length:Int):=by rw[Jb (by omega)];simp
  have t:=ih (pre++[x]) (by simp[h]) m (by simp at hn;omega);rw[jI,e1,aI,wD h,aA,a27,J5,J5,aA,aA,e4,t,dA];show(bif !in1 x then(bif !in2 x then _ else _)else _)=bif (in1 x||in2 x)&&xs.all ab then k else some false
  cases in1 x<;>cases in2 x<;>simp
theorem Kw(a:Bytes)(ha:a.length<=1048576):fS a=some (mN a):=by
 unfold fS;refine(a3k a _ ha a [] rfl fuel (by unfold fuel;omega)).trans ?_;rw[J5,aA];show _=some (a.all ab&&Ud a);cases a.all ab<;>rfl
theorem a38(a:Bytes)(k:Option Bool)(ha:a.length<=1048576):∀(rest pre:Bytes),a=pre++rest->∀n,rest.length<n->fw a k n (pre.length:Int)=bif rest.all ab then k else some false:=by
 intro rest
 induction rest with
 |nil=>
  intro pre h n hn;obtain⟨m,rfl⟩:∃m,n=m+1:=⟨n-1,by simp at hn;omega⟩
  have e1:decide ((pre.length:Int)<(a.length:Int))=false:=by simp[h]
  rw[fw,e1];rfl
 |cons x xs ih=>
  intro pre h n hn;obtain⟨m,rfl⟩:∃m,n=m+1:=⟨n-1,by simp at hn;omega⟩
  have hl:a.length=pre.length+(xs.length+1):=by rw[h];simp
  have e1:decide ((pre.length:Int)<(a.length:Int))=true:=by rw[hl];simp;omega
  have e4:IntKind.i64.wrap ((pre.length:Int)+1)=((pre++[x]).length:Int):=by rw[Jb (by omega)];simp
  have t:=ih (pre++[x]) (by simp[h]) m (by simp at hn;omega);rw[fw,e1,aI,wD h,aA,e4,t,dA];have c1:decide ((x.toNat:Int)>=97)= !decide ((x.toNat:Int)<97):=by rw[br];simp
  have c2:decide ((x.toNat:Int)<=122)= !decide ((x.toNat:Int)>122):=by rw[br];simp
  have c3:decide ((x.toNat:Int)>=48)= !decide ((x.toNat:Int)<48):=by rw[br];simp
  have c4:decide ((x.toNat:Int)<=57)= !decide ((x.toNat:Int)>57):=by rw[br];simp
  rw[ab,in1,in2,c1,c2,c3,c4];cases decide ((x.toNat:Int)<97)<;>cases decide ((x.toNat:Int)>122)<;>cases decide ((x.toNat:Int)<48)<;>cases decide ((x.toNat:Int)>57)<;>simp
theorem Kj(a:Bytes)(ha:a.length<=1048576):fP a=some (mN a):=by
 unfold fP;rw[show fw a (some true) fuel 0=_ from a38 a _ ha a [] rfl fuel (by unfold fuel;omega)];have c1:decide ((a.length:Int)>=1)= !decide ((a.length:Int)<1):=by rw[br];simp
 have c2:decide ((a.length:Int)<=8)= !decide ((a.length:Int)>8):=by rw[br];simp
 rw[mN,Ud,c1,c2];cases decide ((a.length:Int)<1)<;>cases decide ((a.length:Int)>8)<;>cases a.all ab<;>rfl
theorem Y9(a:Bytes)(ha:a.length<=1048576):qh a=some (wQ a):=by
 unfold qh;rw[Kw a ha,aA,wQ];cases h:mN a with
 |false=>rfl
 |true=>
  cases a with
  |nil=>simp[mN,Ud]at h
  |cons x xs=>
   rw[show iP (x::xs) 0=some x from rfl];simp only[aI,aA,a27,J5,gx,ah,a1B];simp only[mN,dA,ab,in1,in2,aV,oD,bI]at h;rw[br];simp only[aV,bI];omega
theorem X9(a:Bytes)(ha:a.length<=1048576):qc a=some (wQ a):=by
 unfold qc;rw[Kj a ha,aA,wQ];cases h:mN a with
 |false=>rfl
 |true=>
  cases a with
  |nil=>simp[mN,Ud]at h
  |cons x xs=>rfl
theorem PS(a:Bytes)(ha:a.length<=1048576):ga a=some (nu a):=by
 unfold ga;cases a with
 |nil=>rfl
 |cons x t=>
  simp only[aP]at ha;rw[show iP (x::t) 0=some x from rfl,aA,Ti (by simp),aA];have e:(((x::t).take ((x::t).length)).drop 1)=t:=by simp
  simp only[e,Kw t (by omega),aA,nu,jw];cases t with
  |nil=>cases decide ((x.toNat:Int)=63)<;>rfl
  |cons y t=>
   have e2:decide ((((x::y::t).length:Int):Int)>1)=true:=by simp;omega
   rw[e2];cases decide ((x.toNat:Int)=63)<;>simp
theorem UX(a:Bytes)(ha:a.length<=1048576):lK a=some (nu a):=by
 unfold lK;cases a with
 |nil=>rfl
 |cons x t=>
  simp only[aP]at ha;rw[show iP (x::t) 0=some x from rfl,aA,Ti (by simp),aA];have e:(((x::t).take ((x::t).length)).drop 1)=t:=by simp
  simp only[e,Kj t (by omega),aA,nu,jw];cases t with
  |nil=>cases decide ((x.toNat:Int)=63)<;>rfl
  |cons y t=>
   have e2:decide ((((x::y::t).length:Int):Int)>1)=true:=by simp;omega
   rw[e2];cases decide ((x.toNat:Int)=63)<;>simp
theorem YJ(a:Bytes)(ha:a.length<=1048576):j4 a=some (tM a):=by
 unfold j4 tM;rw[Kw a ha,PS a ha];cases mN a<;>simp
theorem XD(a:Bytes)(ha:a.length<=1048576):j0 a=some (tM a):=by
 unfold j0 tM;rw[Kj a ha,UX a ha];cases mN a<;>simp
theorem YL(l:aG)(h:l.length<=1099511627776):rS l=some l:=by
 unfold rS;rw[Qx h (by decide)];rfl
theorem Ou(l:aG)(h:l.length<=1099511627776):n9 l=some l:=by
 unfold n9;rw[Qx h (by decide)];rfl
theorem YI(a b:aG):nG a b=some (decide (a=b)):=by
 unfold nG;exact Z2 (c:=tx) (f:=fun x y=>some (x==y)) (fun k=>js a b k) (fun _ _=>rfl) (fun _ _ _ _=>rfl) (fun x y=>by rw[ah,br];simp)
theorem XB(a b:aG):p9 a b=some (decide (a=b)):=by
 unfold p9;exact Z2 (c:=tx) (f:=fun x y=>some (x==y)) (fun k=>mJ a b k) (fun _ _=>rfl) (fun _ _ _ _=>rfl) (fun x y=>by rw[ah,br];simp)
theorem a3K(a b:bC):sL a b=some (decide (a=b)):=by
 unfold sL;exact Z2 (c:=iM) (f:=fun x y=>some (x==y)) (fun k=>nA a b k) (fun _ _=>rfl) (fun _ _ _ _=>rfl) (fun x y=>by rw[ah,br];simp)
theorem Uz(l:aG)(v:Bytes):gD l v=some (l.contains v):=by
 unfold gD;have:∀(r:aG) (i:Nat),jc l v (some false) r i=some (r.contains v):=by
  intro r
  induction r with
  |nil=>intro i;rfl
  |cons x r ih=>
   intro i;rw[jc,ih,List.contains_cons];have:(x==v)=(v==x):=by rw[br,cc,cc];exact eq_comm
   rw[this];cases v==x<;>rfl
 exact this l 0
theorem Zx(l:aG)(v:Bytes):lQ l v=some (l.contains v):=by
 unfold lQ;have:∀(r:aG) (i:Nat),lR l v (some false) r i=some (r.contains v):=by
  intro r
  induction r with
  |nil=>intro i;rfl
  |cons x r ih=>
   intro i;rw[lR,ih,List.contains_cons];have:(x==v)=(v==x):=by rw[br,cc,cc];exact eq_comm
   rw[this];cases v==x<;>rfl
 exact this l 0
theorem a1x(a:aG)(s:Bytes)(k:Bool->aG->Option aG):∀(l:aG) (i:Nat) (w:aG),w.length+l.length<1099511627776->
 eX a s k l i true w=k true (w++l):=by
 intro l
 induction l with
 |nil=>intro i w _;simp[eX]
 |cons x xs ih=>
  intro i w h;simp only[aP]at h;rw[eX,bW,aS,fZ (by omega) (by decide),aI,ih _ _ (by simp;omega)];simp
theorem a6h(a:aG)(s:Bytes)(k:Bool->aG->Option aG)(hk:∀w,w.length<1099511627776->k false w=some (w++[s]))(hk2:∀w,k true w=some w):∀(l:aG) (i:Nat) (w:aG),w.length+l.length+1<1099511627776->
 eX a s k l i false w=some (w++yT l s):=by
 intro l
 induction l with
 |nil=>intro i w h;rw[eX,hk w (by omega)];rfl
 |cons x xs ih=>
  intro i w h;simp only[aP]at h;rw[eX,cT,aI,yT];cases Op.bytesLess x s with
  |true=>
   simp only[bW,aS,aI];rw[fZ (by omega) (by decide),aI,ih _ _ (by simp;omega)];simp
  |false=>
   simp only[cT,aI,aS];cases x==s with
   |true=>
    simp only[bW,aS,aI];rw[fZ (by omega) (by decide),aI,a1x _ _ _ _ _ _ (by simp;omega),hk2];simp
   |false=>
    simp only[cT,aI,aS];rw[fZ (by omega) (by decide),aI];have e:room (((w.map tx)++[[D.str s]]).length+([[D.str x]]).length) 16=true:=Gk (by simp;omega) (by decide);rw[e,aI,a1x _ _ _ _ _ _ (by simp;omega),hk2];simp
theorem SU(l:aG)(s:Bytes)(h:l.length+1<1099511627776):lV l s=some (yT l s):=by
 unfold lV;rw[a6h l s _ (fun w hw=>by simp only[cT,aI];rw[fZ hw (by decide)];rfl) (fun w=>by simp) l 0 [] (by simpa using h)];rfl
def dd:Option Bytes->aG->aG
 |_,[]=>[]
 |p,x::xs=>if p=some x then dd (some x) xs else x::dd (some x) xs
theorem RX:∀ {l:aG} {p:Option Bytes} {y:Bytes},y∈dd p l->y∈l
 | [],p,y,h=>by cases h
 |x::xs,p,y,h=>by
  simp only[dd]at h;split at h
  ·exact bL.2 (.inr (RX h))
  ·rcases bL.1 h with rfl|h
   ·simp
   ·exact bL.2 (.inr (RX h))
theorem XV:∀ {l:aG} {p:Option Bytes} {y:Bytes},y∈l->p=some y\/y∈dd p l
 |x::xs,p,y,h=>by
  simp only[dd];rcases bL.1 h with rfl|h
  ·by_cases hp:p=some y
   ·exact .inl hp
   ·rw[b9 hp];exact .inr (by simp)
  ·have:=XV (p:=some x) h;split
   ·rename_i hp;rcases this with e|e
    ·exact .inl (hp.trans e)
    ·exact .inr e
   ·rcases this with e|e
    ·cases e;exact .inr (by simp)
    ·exact .inr (by simp[e])
theorem a15:∀ {l:aG} {p:Option Bytes},l.Pairwise (fun a b=>Op.bytesLess b a=false)->(∀q,p=some q->∀y∈l,Op.bytesLess y q=false)->SS (dd p l)/\∀q,p=some q->∀y∈dd p l,Op.bytesLess q y=true
 | [],p,_,_=>⟨by simp[dd,SS],by simp[dd]⟩
 |x::xs,p,h,hp=>by
  obtain⟨p1,p2⟩:=mj.1 h;obtain⟨i1,i2⟩:=a15 (l:=xs) (p:=some x) p2 (fun q hq y hy=>by cases hq;exact p1 y hy);simp only[dd];split
  ·rename_i he;exact⟨i1,fun q hq y hy=>by rw[he]at hq;cases hq;exact i2 x rfl y hy⟩
  ·rename_i he;refine⟨mj.2 ⟨fun y hy=>i2 x rfl y hy,i1⟩,fun q hq y hy=>?_⟩;have hqx:Op.bytesLess q x=true:=by
    cases hc:Op.bytesLess q x with
    |true=>rfl
    |false=>exact absurd (by rw[hq,Jr hc (hp q hq x (by simp))]) he
   rcases bL.1 hy with rfl|hy
   ·exact hqx
   ·exact BE hqx (i2 x rfl y hy)
theorem YT(l:aG):oC l=l.mergeSort (fun x y=> !Op.bytesLess y x):=by
 unfold oC
 congr 1
 funext x y
 rw[Go.Proofs.bytesLess_eq];rw[br];simp[List.not_lt]
theorem PW(l:aG):(oC l).Pairwise (fun a b=>Op.bytesLess b a=false):=by
 rw[YT];have:=List.pairwise_mergeSort (le:=fun x y=> !Op.bytesLess y x) (fun a b c h1 h2=>by
  simp only[pz]at h1 h2⊢;cases hc:Op.bytesLess c a with
  |false=>rfl
  |true=>
   cases hb:Op.bytesLess b a with
   |true=>rw[h1]at hb;cases hb
   |false=>
    cases Pf:Op.bytesLess a b with
    |true=>have:=BE hc Pf;rw[h2]at this;cases this
    |false=>have:=Jr hb Pf;subst this;rw[h2]at hc;cases hc) (fun a b=>by
  cases hc:Op.bytesLess b a with
  |false=>simp
  |true=>simp[I9 hc]) l
 exact this.imp (fun h=>by simpa using h)
theorem Zg(l:aG):dd none (oC l)=fE l:=by
 refine Jo (a15 (PW l) (by simp)).1 (Mf l) (fun x=>?_);rw[uJ];have hm:x∈oC l↔x∈l:=(AF l).mem_iff;constructor
 ·intro h;exact hm.1 (RX h)
 ·intro h;rcases XV (p:=none) (hm.2 h)with h|h
  ·cases h
  ·exact h
theorem XC(a:aG)(k:aG->Option aG)(ha:a.length<=1099511627775):∀(rest pre:aG) (w:aG),oC ([]++a)=pre++rest->w.length+rest.length<=1099511627775->
 eC a k rest pre.length w=k (w++dd pre.getLast? rest):=by
 have hlen:(oC ([]++a)).length=a.length:=(AF _).length_eq;intro rest
 induction rest with
 |nil=>intro pre w _ _;simp[eC,dd]
 |cons x xs ih=>
  intro pre w h hw;simp only[aP]at hw;have hl:pre.length+(xs.length+1)=a.length:=by rw[<-hlen,h];simp
  have t:=fun w'=>ih (pre++[x]) w' (by rw[h];simp)
  simp only[av,aP,bS,nV]at t;rw[eC];rcases wh pre with rfl|⟨p,z,Z4⟩
  ·have e0:(((([]:aG).length:Int):Int)==0)=true:=rfl;rw[e0,aI,fZ (by omega) (by decide),aI,t _ (by simp;omega)];simp[dd]
  ·rw[wg]at Z4;subst Z4;have e0:((((p++[z]).length:Int):Int)==0)=false:=by simp;omega
   have e1:IntKind.i64.wrap (((p++[z]).length:Int)-1)=(p.length:Int):=by
    rw[dS (pL.i64.2 (by simp at hl⊢;omega))];simp
   have e2:iP (oC ([]++a)) (p.length:Int)=some z:=wD (xs:=x::xs) (by rw[h];simp);rw[e0,aS,e1,e2,aA];simp only[dd,nV];by_cases hz:z=x
   ·subst hz;have e3:((z:Bytes)==z)=true:=by simp
    rw[e3,bW,aS,t _ (by omega),bN rfl]
   ·have e3:((z:Bytes)==x)=false:=by simpa using hz
    rw[e3,cT,aI,fZ (by omega) (by decide),aI,t _ (by simp;omega),b9 (by simpa using hz)];simp
theorem Ot(l:aG)(h:l.length<1099511627775):kC l=some (fE l):=by
 have hlen:(oC ([]++l)).length=l.length:=(AF _).length_eq;unfold kC;have e1:decide ((([]:aG)++l).length<4611686018427387904)=true:=by simp;omega
 rw[Qx (by omega) (by decide),aI,e1,aI,uV (by rw[hlen];omega),aI];have:=XC l (fun q=>some q) (by omega) (oC ([]++l)) [] [] rfl (by rw[hlen];simp;omega);rw[show([]:aG).length=0 from rfl]at this;rw[this,<-Zg];simp
end Go.Cx
namespace Go.Cx
open Go.RowKit Go.Proofs Tryz
theorem aD.PG{p:aD}{n:Nat}(h:p.wt<=n):p.rel.length<=n:=by unfold aD.wt tw at h;omega
theorem aD.dY{p:aD}{n:Nat}(h:p.wt<=n):p.args.length<=n:=by unfold aD.wt at h;have:=tN tw p.args;omega
theorem aD.tA{p:aD}{n:Nat}(h:p.wt<=n){x:Bytes}(hx:x∈p.args):x.length<=n:=by unfold aD.wt at h;have:=tO (w:=tw) hx;have e:tw x=x.length:=rfl;omega
theorem aO.fU{c:aO}{n:Nat}(h:c.wt<=n):c.pat.wt<=n:=by simp only[aO.wt,aD.wt]at h⊢;omega
theorem aO.Ag{c:aO}{n:Nat}(h:c.wt<=n):c.left.length<=n:=by simp only[aO.wt,tw]at h;omega
theorem aO.yD{c:aO}{n:Nat}(h:c.wt<=n):c.right.length<=n:=by simp only[aO.wt,tw]at h;omega
theorem Action.fU{c:Action}{n:Nat}(h:c.wt<=n):c.pat.wt<=n:=by simp only[Action.wt,aD.wt]at h⊢;omega
theorem aK.Tf{r:aK}{n:Nat}(h:r.wt<=n):r.name.length<=n:=by simp only[aK.wt,tw]at h;omega
theorem aK.sD{r:aK}{n:Nat}(h:r.wt<=n):sw aO.wt r.conds<=n:=by simp only[aK.wt]at h;omega
theorem aK.I6{r:aK}{n:Nat}(h:r.wt<=n):sw Action.wt r.cK<=n:=by simp only[aK.wt]at h;omega
theorem aK.qp{r:aK}{n:Nat}(h:r.wt<=n){c:aO}(hc:c∈r.conds):c.wt<=n:=by have:=aK.sD h;have:=tO (w:=aO.wt) hc;omega
theorem aK.OL{r:aK}{n:Nat}(h:r.wt<=n){c:Action}(hc:c∈r.cK):c.wt<=n:=by have:=aK.I6 h;have:=tO (w:=Action.wt) hc;omega
theorem AE(f:aD)(h:f.args.length<=1099511627776):eR f=some f:=by
 unfold eR;rw[YL _ h];rfl
theorem KL(f:aD)(h:f.args.length<=1099511627776):eD f=some f:=by
 unfold eD;rw[Ou _ h];rfl
theorem a43(a b:aD):sn a b=some (decide (a=b)):=by
 obtain⟨a0,a1⟩:=a;obtain⟨b0,b1⟩:=b;unfold sn;simp only[YI,aA,jw];by_cases h0:a0=b0<;>by_cases h1:a1=b1<;>simp[h0,h1]
theorem XA(a b:aD):oJ a b=some (decide (a=b)):=by
 obtain⟨a0,a1⟩:=a;obtain⟨b0,b1⟩:=b;unfold oJ;simp only[XB,aA,jw];by_cases h0:a0=b0<;>by_cases h1:a1=b1<;>simp[h0,h1]
theorem SV(a b:aD):ir a b=some (decide (a=b)):=by
 obtain⟨a0,a1⟩:=a;obtain⟨b0,b1⟩:=b;unfold ir;simp only[YI,aA,jw];by_cases h0:a0=b0<;>by_cases h1:a1=b1<;>simp[h0,h1]
theorem MD(a b:aD):fQ a b=some (decide (a=b)):=by
 obtain⟨a0,a1⟩:=a;obtain⟨b0,b1⟩:=b;unfold fQ;simp only[XB,aA,jw];by_cases h0:a0=b0<;>by_cases h1:a1=b1<;>simp[h0,h1]
theorem PR(a b:aJ):nF a b=some (decide (a=b)):=by
 unfold nF;exact Z2 (c:=aD.c) (f:=sn) (fun k=>mM a b k) (fun _ _=>rfl) (fun _ _ _ _=>rfl) a43
theorem LS(a b:aJ):jE a b=some (decide (a=b)):=by
 unfold jE;exact Z2 (c:=aD.c) (f:=oJ) (fun k=>mD a b k) (fun _ _=>rfl) (fun _ _ _ _=>rfl) XA
def Df(p:aD):Bool:=p.args.all tM&&(wQ p.rel&&decide ((p.args.length:Int)<=3))
def rX(f:aD):Bool:=f.args.all mN&&(wQ f.rel&&decide ((f.args.length:Int)<=3))
theorem a1q(f:aD)(h:f.wt<=1048576):qg f=some (rX f):=by
 unfold qg;rw[UB (f:=fS) (L:=pE f _) (fun _=>rfl) (fun _ _ _=>rfl) f.args 0 (fun x hx=>Kw x (aD.tA h hx)),Y9 _ (aD.PG h),aA,ax,rX];cases f.args.all mN<;>cases wQ f.rel<;>rfl
theorem X8(f:aD)(h:f.wt<=1048576):ol f=some (rX f):=by
 unfold ol;rw[UB (f:=fP) (L:=oz f _) (fun _=>rfl) (fun _ _ _=>rfl) f.args 0 (fun x hx=>Kj x (aD.tA h hx)),X9 _ (aD.PG h),aA,ax,rX];have c:decide ((f.args.length:Int)<=3)= !decide ((f.args.length:Int)>3):=by rw[br];simp
 rw[c];cases f.args.all mN<;>cases wQ f.rel<;>cases decide ((f.args.length:Int)>3)<;>rfl
theorem a3w(f:aD)(h:f.wt<=1048576):gy f=some (Df f):=by
 unfold gy;rw[UB (f:=j4) (L:=mK f _) (fun _=>rfl) (fun _ _ _=>rfl) f.args 0 (fun x hx=>YJ x (aD.tA h hx)),Y9 _ (aD.PG h),aA,ax,Df];cases f.args.all tM<;>cases wQ f.rel<;>rfl
theorem a3H(f:aD)(h:f.wt<=1048576):jB f=some (Df f):=by
 unfold jB;rw[UB (f:=j0) (L:=mC f _) (fun _=>rfl) (fun _ _ _=>rfl) f.args 0 (fun x hx=>XD x (aD.tA h hx)),X9 _ (aD.PG h),aA,ax,Df];have c:decide ((f.args.length:Int)<=3)= !decide ((f.args.length:Int)>3):=by rw[br];simp
 rw[c];cases f.args.all tM<;>cases wQ f.rel<;>cases decide ((f.args.length:Int)>3)<;>rfl
def jO(l:aG):aG:=l.filter nu
theorem vl(l:aG):(jO l).length<=l.length:=sx _ _
theorem O3(a b:aG):jO (a++b)=jO a++jO b:=List.filter_append _ _
theorem JV(p:aD)(h:p.wt<=1048576):nS p=some (fE (jO p.args)):=by
 unfold nS;have:∀(r:aG) (i:Nat) (w:aG),(∀x∈r,x.length<=1048576)->w.length+r.length<=2097152->kp p (fun q=>some q) r i w=some ((jO r).foldl yT w):=by
  intro r
  induction r with
  |nil=>intro i w _ _;rfl
  |cons x r ih=>
   intro i w hr hw;simp only[aP]at hw;have hl:=A9 w x;rw[kp,PS x (hr x (by simp)),aA,SU w x (by omega),aA,ih _ _ (fun y hy=>hr y (by simp[hy])) (by omega),ih _ _ (fun y hy=>hr y (by simp[hy])) (by omega)];cases hv:nu x<;>simp[jO,hv]
 exact this p.args 0 [] (fun x hx=>aD.tA h hx) (by have:=aD.dY h;simp;omega)
theorem XF(l:aG)(hl:l.length<=2097152)(h:∀x∈l,x.length<=1048576):nB l=some (jO l):=by
 unfold nB;have:∀(r:aG) (i:Nat) (w:aG),(∀x∈r,x.length<=1048576)->w.length+r.length<=2097152->fe l (fun q=>some q) r i w=some (w++jO r):=by
  intro r
  induction r with
  |nil=>intro i w _ _;simp[fe,jO]
  |cons x r ih=>
   intro i w hr hw;simp only[aP]at hw;rw[fe,UX x (hr x (by simp)),aA,fZ (by omega) (by decide),ih _ _ (fun y hy=>hr y (by simp[hy])) (by simp;omega),ih _ _ (fun y hy=>hr y (by simp[hy])) (by omega)];cases hv:nu x<;>simp[jO,hv]
 exact this l 0 [] h (by simpa using hl)
def qD(c:aO):aG:=jO (c.pat.args++[c.left,c.right])
theorem xD{c:aO}{n:Nat}(h:c.wt<=n):(qD c).length<=n+2:=by
 have h1:=vl (c.pat.args++[c.left,c.right]);have h2:=aD.dY (aO.fU h);simp only[av,aP,bS]at h1;unfold qD;omega
theorem SQ(c:aO)(h:c.wt<=1048576):mP c=some (fE (qD c)):=by
 unfold mP;have h1:=aD.dY (aO.fU h);have h2:=py (jO c.pat.args);have h3:=vl c.pat.args;have h4:=A9 (fE (jO c.pat.args)) c.left;rw[JV _ (aO.fU h),aA,PS _ (aO.Ag h),aA,PS _ (aO.yD h)];simp only[aA];rw[SU _ _ (by omega),SU _ _ (by omega),aA,SU _ _ (by omega)];simp only[aA,qD,O3,Sc];cases hl:nu c.left<;>cases hr:nu c.right<;>simp[jO,hl,hr]
theorem XE(c:aO)(h:c.wt<=1048576):rM c=some (c.pat.args++[c.left,c.right]):=by
 unfold rM;have h1:=aD.dY (aO.fU h);rw[Ou _ (by omega),aA];rw[Gk (by simp;omega) (by decide)];rfl
theorem S2(c:aO)(h:c.wt<=1048576):oI c=some (fE (qD c)):=by
 unfold oI;have h1:=aD.dY (aO.fU h);have h5:=xD h;rw[XE c h,aA,XF _ (by simp;omega) (fun x hx=>by
  simp only[aR,bL,List.not_mem_nil,or_false]at hx;rcases hx with hx|rfl|rfl
  ·exact aD.tA (aO.fU h) hx
  ·exact aO.Ag h
  ·exact aO.yD h),aA]
 rw[show jO (c.pat.args++[c.left,c.right])=qD c from rfl,Ot _ (by omega)];rfl
def FH(p:aD):Bool:=p.rel==[]&&decide ((p.args.length:Int)=0)
def rB(c:aO):Bool:=bif decide (c.kind=1)||decide (c.kind=2)then Df c.pat&&(c.left==[]&&c.right==[])else bif decide (c.kind=3)||decide (c.kind=4)||decide (c.kind=5)then FH c.pat&&(tM c.left&&tM c.right)else false
def JY(c:aO):Bool:=rB c&&decide (c.kind>=3)
theorem Gt{c:aO}(h:rB c=true):1<=c.kind/\c.kind<=5:=by
 unfold rB at h;by_cases h1:c.kind=1
 ·omega
 by_cases h2:c.kind=2
 ·omega
 by_cases h3:c.kind=3
 ·omega
 by_cases h4:c.kind=4
 ·omega
 by_cases h5:c.kind=5
 ·omega
 simp[h1,h2,h3,h4,h5]at h
theorem Xx(c:aO)(h:c.wt<=1048576):om c=some (rB c):=by
 unfold om rB FH;simp only[a3w _ (aO.fU h),YJ _ (aO.Ag h),YJ _ (aO.yD h),aA,ax,jw];by_cases h1:c.kind=1
 ·simp only[h1];cases Df c.pat<;>cases decide (c.left=[])<;>simp
 by_cases h2:c.kind=2
 ·simp only[h2];cases Df c.pat<;>cases decide (c.left=[])<;>simp
 by_cases h3:c.kind=3
 ·simp only[h3];cases decide (c.pat.rel=[])<;>cases decide ((c.pat.args.length:Int)=0)<;>cases tM c.left<;>simp
 by_cases h4:c.kind=4
 ·simp only[h4];cases decide (c.pat.rel=[])<;>cases decide ((c.pat.args.length:Int)=0)<;>cases tM c.left<;>simp
 by_cases h5:c.kind=5
 ·simp only[h5];cases decide (c.pat.rel=[])<;>cases decide ((c.pat.args.length:Int)=0)<;>cases tM c.left<;>simp
 simp[h1,h2,h3,h4,h5]
theorem a1K(p:aD):iZ p=some (FH p):=by
 unfold iZ FH;simp only[ax,jw];cases decide (p.rel=[])<;>rfl
theorem X5(c:aO)(h:c.wt<=1048576):qZ c=some (rB c):=by
 unfold qZ rB;simp only[a3H _ (aO.fU h),XD _ (aO.Ag h),XD _ (aO.yD h),a1K,aA,jw];by_cases h1:c.kind=1
 ·simp only[h1];cases Df c.pat<;>cases decide (c.left=[])<;>simp
 by_cases h2:c.kind=2
 ·simp only[h2];cases Df c.pat<;>cases decide (c.left=[])<;>simp
 by_cases h3:c.kind=3
 ·simp only[h3];cases FH c.pat<;>cases tM c.left<;>cases tM c.right<;>simp
 by_cases h4:c.kind=4
 ·simp only[h4];cases FH c.pat<;>cases tM c.left<;>cases tM c.right<;>simp
 by_cases h5:c.kind=5
 ·simp only[h5];cases FH c.pat<;>cases tM c.left<;>cases tM c.right<;>simp
 simp[h1,h2,h3,h4,h5]
theorem YK(c:aO)(h:c.wt<=1048576):qi c=some (JY c):=by
 unfold qi JY;rw[Xx c h];cases rB c<;>rfl
theorem a5y(c:aO)(h:c.wt<=1048576):uk c=some (JY c):=by
 unfold uk JY;rw[X5 c h];cases rB c<;>rfl
theorem YH(a b:aO):oK a b=some (decide (a=b)):=by
 obtain⟨a0,a1,a2,a3⟩:=a;obtain⟨b0,b1,b2,b3⟩:=b;unfold oK;simp only[SV,aA,jw];by_cases h0:a0=b0<;>by_cases h1:a1=b1<;>by_cases h2:a2=b2<;>by_cases h3:a3=b3<;>simp[h0,h1,h2,h3]
theorem Oq(a b:aO):jx a b=some (decide (a=b)):=by
 obtain⟨a0,a1,a2,a3⟩:=a;obtain⟨b0,b1,b2,b3⟩:=b;unfold jx;simp only[MD,aA,jw];by_cases h0:a0=b0<;>by_cases h1:a1=b1<;>by_cases h2:a2=b2<;>by_cases h3:a3=b3<;>simp[h0,h1,h2,h3]
def Lh(a:Action):Bool:=bif decide (a.kind=1)||decide (a.kind=2)then Df a.pat else bif decide (a.kind=3)then FH a.pat else false
theorem a9T(a:Action)(h:a.wt<=1048576):sQ a=some (Lh a):=by
 unfold sQ Lh FH;simp only[a3w _ (Action.fU h),aA,ax,jw];by_cases h1:a.kind=1
 ·simp[h1]
 by_cases h2:a.kind=2
 ·simp[h2]
 by_cases h3:a.kind=3
 ·simp only[h3];cases decide (a.pat.rel=[])<;>simp
 simp[h1,h2,h3]
theorem a97(a:Action)(h:a.wt<=1048576):sH a=some (Lh a):=by
 unfold sH Lh;simp only[a3H _ (Action.fU h),a1K,aA,jw];by_cases h1:a.kind=1
 ·simp[h1]
 by_cases h2:a.kind=2
 ·simp[h2]
 by_cases h3:a.kind=3
 ·simp[h3]
 simp[h1,h2,h3]
end Go.Cx
namespace Go.Cx
open Go.RowKit Go.Proofs Tryz
theorem a0K:∀(k v:Nat),v<10^k->1<=k->Lib.nDigits v<=k:=by
 intro k
 induction k with
 |zero=>intro v _ h;omega
 |succ k ih=>
  intro v hv _;by_cases h10:v<10
  ·rw[Lib.nDigits_small h10];omega
  ·rw[Lib.nDigits_big h10];have h3:v/10<10^k:=by rw[w8]at hv;omega
   have hk1:1<=k:=by
    cases k with
    |zero=>simp at hv;omega
    |succ k=>omega
   have:=ih (v/10) h3 hk1;omega
theorem SC{u:Nat}(h:u<=9223372036854775808):Lib.nDigits u<=19:=a0K 19 u (by omega) (by omega)
theorem a7q(u:Nat):UInt8.ofNat (IntKind.u8.wrap (IntKind.i64.wrap (48+((u:Int)%10)))).toNat=UInt8.ofNat (48+u%10):=by
 rw[dS (k:=.i64) (pL.i64.2 (by omega)),dS (pL.u8.2 (by omega))]
 congr 1
theorem a1r(k:Option Bytes):∀(n u:Nat) (acc:Bytes),Lib.nDigits u<=n->acc.length+Lib.nDigits u<=1000->iH k n (u:Int) acc=some (Lib.decDigits u++acc):=by
 intro n
 induction n with
 |zero=>intro u acc h _;have:=Lib.nDigits_pos u;omega
 |succ n ih=>
  intro u acc hn hl;have hp:=Lib.nDigits_pos u;have e0:(decide (0<=(u:Int))&&decide (0<(10:Int)))=true:=by simp
  have e1:decide (([UInt8.ofNat (48+u%10)]:Bytes).length+(acc:Bytes).length<=maxLen)=true:=by unfold maxLen;simp;omega
  rw[iH];simp only[a7q,e0,e1,aI];by_cases h10:u<10
  ·have e2:(((u:Int)/10:Int)==0)=true:=by rw[cc];omega
   rw[e2,aI,Lib.decDigits,dif_pos h10,Nat.mod_eq_of_lt h10]
  ·have e2:(((u:Int)/10:Int)==0)=false:=by rw[dK];omega
   have e3:((u:Int)/10)=((u/10:Nat):Int):=by omega
   have hd:=Lib.nDigits_big h10;rw[e2,aS,e3,ih (u/10) _ (by omega) (by simp;omega)]
   conv=>rhs;rw[Lib.decDigits,dif_neg h10]
   simp
theorem a6X(m u:Nat)(h:u<=9223372036854775807):gZ (m+1) (u:Int)=some (Lib.decDigits u):=by
 rw[gZ];have e1:((u:Int)==(-9223372036854775808))=false:=by rw[dK];omega
 have e2:decide ((u:Int)<0)=false:=by simp
 have:=SC (u:=u) (by omega);rw[e1,aS,e2,aS,a1r _ _ _ _ (by unfold fuel;omega) (by simp;omega)];simp
theorem XH:Lib.itoa (-9223372036854775808)=[45,57,50,50,51,51,55,50,48,51,54,56,53,52,55,55,53,56,48,56]:=by
 unfold Lib.itoa;simp[Lib.decDigits]
theorem a0a(n:Int)(h:pL .i64 n):jH n=some (Lib.itoa n):=by
 have h:=pL.i64.1 h;unfold jH;rw[show fuel=4194303+1 from rfl,gZ];by_cases hm:n= -9223372036854775808
 ·subst hm;rw[XH];rfl
 have e1:((n:Int)==(-9223372036854775808))=false:=by rw[dK];exact hm
 rw[e1,aS];by_cases hn:n<0
 ·have e2:decide (n<0)=true:=by simpa using hn
  have e3:IntKind.i64.wrap (0-n)=((n.natAbs:Nat):Int):=by rw[dS (pL.i64.2 (by omega))];omega
  have hd:=SC (u:=n.natAbs) (by omega);rw[e2,aI,e3,show(4194303:Nat)=4194302+1 from rfl,a6X _ _ (by omega),aA];have e4:decide (([45]:Bytes).length+(Lib.decDigits n.natAbs:Bytes).length<=maxLen)=true:=by unfold maxLen;rw[Lib.decDigits_length];simp;omega
  rw[e4,aI];unfold Lib.itoa;rw[bN hn];rfl
 ·have e2:decide (n<0)=false:=by simpa using hn
  have e3:n=((n.toNat:Nat):Int):=by omega
  have:=SC (u:=n.toNat) (by omega);rw[e2,aS]
  conv=>lhs;rw[e3]
  rw[a1r _ _ _ _ (by unfold fuel;omega) (by simp;omega)];unfold Lib.itoa;rw[b9 hn];simp
theorem a3E(n:Int):kT n=some (Lib.itoa n):=by
 unfold kT zz;rfl
theorem MF(n:Int)(h:pL .i64 n):(Lib.itoa n).length<=21:=by
 have:=pL.i64.1 h;exact Lib.itoa_length_le n this.1 this.2
def FN(to:aT)(s:Bytes):Bytes:=match to with
 | []=>s
 |p::r=>bif p.var==s then p.value else FN r s
def Mc(to:aT)(x:aO):aO:=⟨x.kind,⟨x.pat.rel,x.pat.args.map (FN to)⟩,FN to x.left,FN to x.right⟩
theorem sRn(to:aT)(s:Bytes):kx s to=some (FN to s):=by
 unfold kx;have:∀(r:aT) (i:Nat),jd s to (some s) r i=some (FN r s):=by
  intro r
  induction r with
  |nil=>intro i;rfl
  |cons x r ih=>
   intro i;rw[jd,ih,FN];cases x.var==s<;>rfl
 exact this to 0
theorem iRn(to:aT)(s:Bytes):iX s to=some (FN to s):=by
 unfold iX;have:∀(r:aT) (i:Nat),iG s to (some s) r i=some (FN r s):=by
  intro r
  induction r with
  |nil=>intro i;rfl
  |cons x r ih=>
   intro i;rw[iG,ih,FN];cases x.var==s<;>rfl
 exact this to 0
theorem a3z(x:aO)(to:aT)(h:x.pat.args.length<=1099511627770):jh x to=some (Mc to x):=by
 unfold jh;rw[sRn,aA,sRn,aA];rw[Dd (c:=tx) (b:=16) (f:=fun a=>kx a to) (g:=FN to) (L:=ko x to (FN to x.left) (FN to x.right) _) (k:=_) (by decide) (fun _ _=>rfl) (fun _ _ _ _=>rfl) _ _ _ (fun a _=>sRn to a) (by simp;omega)];rfl
theorem a5u(x:aO)(to:aT)(h:x.pat.args.length<=1099511627770):lM x to=some (Mc to x):=by
 unfold lM;rw[iRn,aA,iRn,aA];rw[Dd (c:=tx) (b:=16) (f:=fun a=>iX a to) (g:=FN to) (L:=kX x to (FN to x.left) (FN to x.right) _) (k:=_) (by decide) (fun _ _=>rfl) (fun _ _ _ _=>rfl) _ _ _ (fun a _=>iRn to a) (by simp;omega)];rfl
def Em(l:aT)(t:Bytes):Bool:=l.any fun p=>p.var==t
def lf(l:aT)(t:Bytes):aT:=bif nu t&& !Em l t then l++[⟨t,[63]++Lib.itoa ((l.length:Int)+1)⟩]else l
theorem Bj(l:aT)(t:Bytes):(lf l t).length<=l.length+1:=by
 unfold lf;cases nu t&& !Em l t<;>simp
theorem yP:∀(ts:aG) (l:aT),(ts.foldl lf l).length<=l.length+ts.length
 | [],l=>by simp
 |t::ts,l=>by
  have h1:=yP ts (lf l t);have h2:=Bj l t;rw[dM,aP];omega
theorem PN(l:aT)(t:Bytes)(hl:l.length<=1099511627770)(ht:t.length<=1048576):ot l t=some (lf l t):=by
 unfold ot;rw[PS t ht,aA,lf];cases hv:nu t with
 |false=>rfl
 |true=>
  rw[bW,aS,gx];have key:∀(k:Option aT) (r:aT) (i:Nat),nO l t k r i=bif Em r t then some l else k:=by
   intro k r
   induction r with
   |nil=>intro i;rfl
   |cons x r ih=>
    intro i;rw[nO,ih];simp only[Em,xR];cases x.var==t<;>simp
  rw[key];cases Em l t with
  |true=>rfl
  |false=>
   have e1:IntKind.i64.wrap (((l.map aX.c).length:Int)+1)=(l.length:Int)+1:=by rw[dS (pL.i64.2 (by simp;omega))];simp
   have hr:pL .i64 ((l.length:Int)+1):=pL.i64.2 (by omega);have hi:=MF _ hr;have e2:decide (([63]:Bytes).length+(Lib.itoa ((l.length:Int)+1):Bytes).length<=maxLen)=true:=by unfold maxLen;simp;omega
   simp only[aS,cT,aI];rw[e1,a0a _ hr,aA,e2,aI,fZ (by omega) (by decide)];rfl
theorem Qf(x y:Bytes):∀(m:List (Bytes×Bool)),JB false y (MO x true m)=(y==x||JB false y m)
 | []=>by simp only[MO,JB];cases y==x<;>rfl
 |p::m=>by
  simp only[MO];cases h:x==p.1 with
  |true=>
   have h':x=p.1:=by simpa using h
   subst h';simp only[aI,JB];cases y==p.1<;>simp
  |false=>
   simp only[aS,JB,Qf x y m];cases hy:y==p.1 with
   |true=>
    have h1:y=p.1:=by simpa using hy
    have h2:(y==x)=false:=by
     rw[dK]at h⊢;intro e;exact h (e.symm.trans h1)
    simp[h2]
   |false=>simp
theorem UO(l:aT)(x y v:Bytes):Em (l++[⟨x,v⟩]) y=(y==x||Em l y):=by
 have:(x==y)=(y==x):=by rw[br,cc,cc];exact eq_comm
 simp only[Em,List.any_append,xR,I0,ug,this];cases y==x<;>simp
theorem TY(ts:aG)(hl:ts.length<=1099511627700)(h:∀x∈ts,x.length<=1048576):o8 ts=some (ts.foldl lf []):=by
 unfold o8;have key:∀(r:aG) (i:Nat) (w:aT) (m:List (Bytes×Bool)),(∀x∈r,x.length<=1048576)->w.length+r.length<=1099511627700->(∀y,JB false y m=Em w y)->
  fM ts (fun q=>some q) r i w m=some (r.foldl lf w):=by
  intro r
  induction r with
  |nil=>intro i w m _ _ _;rfl
  |cons x r ih=>
   intro i w m hx hw hm;simp only[aP]at hw;have hr:pL .i64 ((w.length:Int)+1):=pL.i64.2 (by omega);have hi:=MF _ hr;have e1:IntKind.i64.wrap (((w.map aX.c).length:Int)+1)=(w.length:Int)+1:=by rw[dS (pL.i64.2 (by simp;omega))];simp
   have e2:decide (([63]:Bytes).length+(Lib.itoa ((w.length:Int)+1):Bytes).length<=maxLen)=true:=by unfold maxLen;simp;omega
   rw[fM,UX x (hx x (by simp)),aA,dM,lf,hm x];cases hv:nu x with
   |false=>simp only[aS,Bool.false_and];exact ih _ _ _ (fun y hy=>hx y (by simp[hy])) (by omega) hm
   |true=>
    cases hh:Em w x with
    |true=>simp only[aI,bW,aS,gx];exact ih _ _ _ (fun y hy=>hx y (by simp[hy])) (by omega) hm
    |false=>
     simp only[aI,cT,gx];rw[e1,a3E,aA,e2,aI,fZ (by omega) (by decide),aI];exact ih _ _ _ (fun y hy=>hx y (by simp[hy])) (by simp;omega) (fun y=>by rw[Qf,UO,hm])
 exact key ts 0 [] [] h (by simpa using hl) (fun y=>rfl)
def B2(p:aD):aD:=(Mc (p.args.foldl lf []) ⟨0,p,[],[]⟩).pat
theorem a47(p:aD)(h:p.wt<=1048576):rR p=some (B2 p):=by
 have hl:=aD.dY h;unfold rR;have key:∀(k:aT->Option aD) (r:aG) (i:Nat) (w:aT),(∀x∈r,x.length<=1048576)->w.length+r.length<=1099511627700->lT p k r i w=k (r.foldl lf w):=by
  intro k r
  induction r with
  |nil=>intro i w _ _;rfl
  |cons x r ih=>
   intro i w hx hw;simp only[aP]at hw;have:=Bj w x;rw[lT,PN w x (by omega) (hx x (by simp)),aA,ih _ _ (fun y hy=>hx y (by simp[hy])) (by omega)];rfl
 rw[key _ _ _ _ (fun x hx=>aD.tA h hx) (by simp;omega),a3z _ _ (by simp;omega)];rfl
theorem a3M(p:aD)(h:p.wt<=1048576):rE p=some (B2 p):=by
 have hl:=aD.dY h;unfold rE;rw[TY _ (by omega) (fun x hx=>aD.tA h hx),aA,a5u _ _ (by simp;omega)];rfl
def yU(l:ai):aG:=l.flatMap fun c=>c.pat.args++[c.left,c.right]
theorem SY(l:ai):(yU l).length<=3*sw aO.wt l:=by
 unfold yU
 induction l with
 |nil=>simp
 |cons x l ih=>
  rw[fI,av,nq];have:=aD.dY (aO.fU (c:=x) (bO _));simp only[av,aP,bS];omega
def pR(r:aK):aT:=(yU r.conds).foldl lf []
def gm(r:aK):ai:=r.conds.map (Mc (pR r))
theorem YA(a:aK)(i:Nat)(c:aO)(k:aT->Option aT):∀(r:aG) (j:Nat) (w:aT),(∀x∈r,x.length<=1048576)->w.length+r.length<=1099511627700->ij a i c k r j w=k (r.foldl lf w):=by
 intro r
 induction r with
 |nil=>intro i w _ _;rfl
 |cons x r ih=>
  intro i w hx hw;simp only[aP]at hw;have:=Bj w x;rw[ij,PN w x (by omega) (hx x (by simp)),aA,ih _ _ (fun y hy=>hx y (by simp[hy])) (by omega)];rfl
theorem a3u(r:aK)(h:r.wt<=1048576):qO r=some (pR r):=by
 unfold qO;have key:∀(l:ai) (i:Nat) (w:aT),(∀c∈l,c.wt<=1048576)->w.length+3*sw aO.wt l<=1099511627700->ig r (fun q=>some q) l i w=some ((yU l).foldl lf w):=by
  intro l
  induction l with
  |nil=>intro i w _ _;rfl
  |cons c l ih=>
   intro i w hc hw;rw[nq]at hw;have QO:=hc c (by simp);have ha:=aD.dY (aO.fU (c:=c) (bO _));have h1:=yP c.pat.args w;have h2:=Bj (c.pat.args.foldl lf w) c.left;have h3:=Bj (lf (c.pat.args.foldl lf w) c.left) c.right;rw[ig,uV (by omega),aI,YA _ _ _ _ _ _ _ (fun x hx=>aD.tA (aO.fU QO) hx) (by omega),PN _ _ (by omega) (aO.Ag QO),aA,PN _ _ (by omega) (aO.yD QO),aA,
    ih _ _ (fun y hy=>hc y (by simp[hy])) (by omega)]
   simp[yU]
 have:=aK.sD h;exact key r.conds 0 [] (fun c hc=>aK.qp h hc) (by simp;omega)
theorem a3G(r:aK)(h:r.wt<=1048576):qH r=some (pR r):=by
 unfold qH;have hw:=aK.sD h;have key:∀(k:aG->Option aT) (l:ai) (i:Nat) (w:aG),(∀c∈l,c.wt<=1048576)->w.length+3*sw aO.wt l<=1099511627700->gN r k l i w=k (w++yU l):=by
  intro k l
  induction l with
  |nil=>intro i w _ _;simp[gN,yU]
  |cons c l ih=>
   intro i w hc hw;rw[nq]at hw;have QO:=hc c (by simp);have ha:=aD.dY (aO.fU (c:=c) (bO _));rw[gN,XE c QO,aA,Xu (by simp;omega) (by decide),aI,ih _ _ (fun y hy=>hc y (by simp[hy])) (by simp;omega)];simp[yU]
 have hl:=SY r.conds;rw[key _ _ _ _ (fun c hc=>aK.qp h hc) (by simp;omega),ck,TY _ (by omega) ?_]
 ·rfl
 ·intro x hx;unfold yU at hx;obtain⟨c,hc,hx⟩:=cA.1 hx;have QO:=aK.qp h hc;rcases aR.1 hx with hx|hx
  ·exact aD.tA (aO.fU QO) hx
  ·simp only[bL,List.not_mem_nil,or_false]at hx;rcases hx with rfl|rfl
   ·exact aO.Ag QO
   ·exact aO.yD QO
theorem a3m(r:aK)(h:r.wt<=1048576):qN r=some (gm r):=by
 unfold qN;have hw:=aK.sD h;have hl:=tN aO.wt r.conds;rw[a3u r h,aA];rw[Dd (c:=aO.c) (b:=80) (f:=fun a=>jh a (pR r)) (g:=Mc (pR r)) (L:=kn r (pR r) _) (k:=_) (by decide) (fun _ _=>rfl) (fun _ _ _ _=>rfl) _ _ _ (fun c hc=>a3z c _ (by have:=aD.dY (aO.fU (aK.qp h hc));omega)) (by simp;omega)];simp[gm]
theorem a39(r:aK)(h:r.wt<=1048576):qG r=some (gm r):=by
 unfold qG;have hw:=aK.sD h;have hl:=tN aO.wt r.conds;rw[a3G r h,aA];rw[Dd (c:=aO.c) (b:=80) (f:=fun a=>lM a (pR r)) (g:=Mc (pR r)) (L:=kW r (pR r) _) (k:=_) (by decide) (fun _ _=>rfl) (fun _ _ _ _=>rfl) _ _ _ (fun c hc=>a5u c _ (by have:=aD.dY (aO.fU (aK.qp h hc));omega)) (by simp;omega)];simp[gm]
end Go.Cx
namespace Go.Cx
open Go.RowKit Go.Proofs Tryz
def NOk(n:aH):Prop:=n.nodes.length<=1048576/\∀x∈n.nodes,x.cond.wt<=1048576
theorem a0R(s:Bytes):FN [] s=s:=rfl
theorem Xn(x:aO):Mc [] x=x:=by
 have:x.pat.args.map (FN [])=x.pat.args:=by
  rw[show(FN [])=id from funext a0R];simp
 unfold Mc;rw[this];rfl
def dZ(i:Nat):Int:=(i:Int)
def NJ(ns:bE):Nat->Nat->aW
 |0,_=>[]
 |k+1,v=>v::(match ns[v]? with
  |some x=>if 1<=x.parent/\x.parent<(v:Int)then NJ ns k x.parent.toNat else []
  |none=>[])
def Am(ns:bE)(i:Nat):Option aO:=(ns[i]?).map Node.cond
def Gh(ns:bE)(k v:Nat):ai:=(NJ ns k v).reverse.filterMap (Am ns)
def fY(ns:bE)(v:Int):ai:=if 1<=v/\v<(ns.length:Int)then Gh ns v.toNat v.toNat else []
theorem R8{ns:bE}{k v:Nat}{x:Node}(hx:ns[v]?=some x):NJ ns (k+1) v=v::(if 1<=x.parent/\x.parent<(v:Int)then NJ ns k x.parent.toNat else []):=by simp only[NJ,hx]
theorem Yj(ns:bE):∀(k v:Nat),v<ns.length->∀i∈NJ ns k v,i<ns.length
 |0,v,_,i,hi=>by cases hi
 |k+1,v,hv,i,hi=>by
  rw[NJ]at hi;rcases bL.1 hi with rfl|hi
  ·exact hv
  ·split at hi
   ·split at hi
    ·rename_i x hx hp;exact Yj ns k _ (by omega) i hi
    ·cases hi
   ·cases hi
theorem Tx(ns:bE):∀(k v:Nat),(NJ ns k v).length<=k
 |0,v=>by simp[NJ]
 |k+1,v=>by
  rw[NJ,aP];split
  ·split
   ·have:=Tx ns k (by assumption:Node).parent.toNat;omega
   ·simp
  ·simp
theorem Ma{ns:bE}{k v:Nat}{x:Node}(hx:ns[v]?=some x):Gh ns (k+1) v=(if 1<=x.parent/\x.parent<(v:Int)then Gh ns k x.parent.toNat else [])++[x.cond]:=by
 have hc:Am ns v=some x.cond:=by unfold Am;rw[hx];rfl
 unfold Gh;rw[R8 hx];by_cases hp:1<=x.parent/\x.parent<(v:Int)
 ·rw[bN hp,bN hp];simp[hc]
 ·rw[b9 hp,b9 hp];simp[hc]
theorem PL(x:aO)(h:x.pat.args.length<=1099511627770):ju x=some x:=by
 unfold ju;rw[a3z x [] h,aA,Xn]
theorem Ol(x:aO)(h:x.pat.args.length<=1099511627770):fH x=some x:=by
 unfold fH eE;rw[Ou x.pat.args (by omega)];rfl
theorem a3x(n:aH)(h:NOk n)(K:ai->Option ai):∀(k v fu:Nat) (w:ai),v<=k->1<=v->v<n.nodes.length->k<fu->w.length+k<=4194304->jJ n K fu (v:Int) w=K (Gh n.nodes k v++w):=by
 have hl:=h.1;intro k
 induction k with
 |zero=>intro v fu w h1 h2;omega
 |succ k ih=>
  intro v fu w h1 h2 h3 h4 h5;obtain⟨fu,rfl⟩:∃m,fu=m+1:=⟨fu-1,by omega⟩
  have hx:n.nodes[v]?=some n.nodes[v]:=af h3;have hw:=h.2 _ (j8 h3);generalize hxe:n.nodes[v]=x at*;have e1:IntKind.i64.wrap (((n.nodes.map Node.c).length:Int)-1)=(n.nodes.length:Int)-1:=by rw[ax];exact dS (pL.i64.2 (by omega))
  have e2:(decide ((v:Int)>=1)&&decide ((v:Int)<=(n.nodes.length:Int)-1))=true:=by simp;omega
  have e3:iP n.nodes (v:Int)=some x:=by unfold iP;rw[bG (by omega),aI];exact hx
  have e4:=PL x.cond (by have:=aD.dY (aO.fU hw);omega);rw[jJ,e1,J5,aA,e2,aI,e3,aA,e4,aA,Gk (by simp;omega) (by decide),aI,Ma hx];by_cases h6:x.parent>=(v:Int)
  ·rw[bG h6,aI,b9 (by omega)];rfl
  ·rw[bM h6,aS];by_cases h7:1<=x.parent
   ·rw[bN ⟨h7,by omega⟩];obtain⟨m,hm⟩:=nv (by omega:0<=x.parent);rw[hm];rw[ih m fu ([x.cond]++w) (by omega) (by omega) (by omega) (by omega) (by simp;omega)];simp
   ·rw[b9 (by omega)];obtain⟨fu,rfl⟩:∃m,fu=m+1:=⟨fu-1,by omega⟩
    have e5:(decide (x.parent>=1)&&decide (x.parent<=(n.nodes.length:Int)-1))=false:=by
     rw[bM (by omega)];rfl
    rw[jJ,e1,J5,aA,e5,aS];rfl
theorem YC(n:aH)(v:Int)(h:NOk n):sj n v=some (fY n.nodes v):=by
 have hl:=h.1;unfold sj fY;by_cases hv:1<=v/\v<(n.nodes.length:Int)
 ·rw[bN hv];obtain⟨m,rfl⟩:=nv (by omega:0<=v);rw[a3x n h _ m m fuel [] (bO _) (by omega) (by omega) (by unfold fuel;omega) (by simp;omega)];simp
 ·rw[b9 hv];have e1:IntKind.i64.wrap (((n.nodes.map Node.c).length:Int)-1)=(n.nodes.length:Int)-1:=by rw[ax];exact dS (pL.i64.2 (by omega))
  have e2:(decide (v>=1)&&decide (v<=(n.nodes.length:Int)-1))=false:=by
   by_cases h1:1<=v
   ·have h2:¬v<=(n.nodes.length:Int)-1:=by omega
    rw[bM h2,vu]
   ·rw[bM h1];rfl
  rw[show fuel=4194303+1 from rfl,jJ,e1,J5,aA,e2,aS]
theorem Zy(n:aH)(h:NOk n)(K:bC->Option ai):∀(k v fu:Nat) (w:bC),v<=k->1<=v->v<n.nodes.length->k<fu->w.length+k<=4194304->n8 n K fu (v:Int) w=K (w++(NJ n.nodes k v).map dZ):=by
 have hl:=h.1;intro k
 induction k with
 |zero=>intro v fu w h1 h2;omega
 |succ k ih=>
  intro v fu w h1 h2 h3 h4 h5;obtain⟨fu,rfl⟩:∃m,fu=m+1:=⟨fu-1,by omega⟩
  have hx:n.nodes[v]?=some n.nodes[v]:=af h3;generalize hxe:n.nodes[v]=x at*;have e3:iP n.nodes (v:Int)=some x:=by unfold iP;rw[bG (by omega),aI];exact hx
  rw[n8,fZ (by omega) (by decide),aI,e3,aA,R8 hx];by_cases h7:x.parent<1
  ·rw[bG h7,aI,b9 (by omega)];rfl
  ·rw[bM h7,aS];by_cases h6:x.parent>=(v:Int)
   ·rw[bG h6,aI,b9 (by omega)];rfl
   ·rw[bM h6,aS,bN ⟨by omega,by omega⟩];obtain⟨m,hm⟩:=nv (by omega:0<=x.parent);rw[hm,ih m fu (w++[(v:Int)]) (by omega) (by omega) (by omega) (by omega) (by simp;omega)];simp[dZ]
theorem Zz(n:aH)(h:NOk n)(us:aW)(sA:∀i∈us,i<n.nodes.length)(hul:us.length<=1048576)(K:ai->Option ai):∀(j fu:Nat) (w:ai),j<=us.length->j<fu->w.length+j<=4194304->kV n (us.map dZ) K fu ((j:Int)-1) w=K (w++((us.take j).reverse.filterMap (Am n.nodes))):=by
 intro j
 induction j with
 |zero=>
  intro fu w _ hf _;obtain⟨fu,rfl⟩:∃m,fu=m+1:=⟨fu-1,by omega⟩
  rw[kV,bM (by omega),aS];simp
 |succ j ih=>
  intro fu w hj hf hw;obtain⟨fu,rfl⟩:∃m,fu=m+1:=⟨fu-1,by omega⟩
  have hlt:j<us.length:=by omega
  have h3:=sA us[j] (j8 hlt);have hx:n.nodes[us[j]]?=some n.nodes[us[j]]:=af h3;have hww:=h.2 _ (j8 h3);generalize hxe:n.nodes[us[j]]=x at*;have e0:((j+1:Nat):Int)-1=(j:Int):=by omega
  have e1:iP (us.map dZ) (j:Int)=some ((us[j]:Nat):Int):=by
   unfold iP;rw[bG (by omega),aI];show(us.map dZ)[(j:Int).toNat]?=_;rw[qA,bt,af hlt];rfl
  have e3:iP n.nodes ((us[j]:Nat):Int)=some x:=by unfold iP;rw[bG (by omega),aI];exact hx
  have e4:=Ol x.cond (by have:=aD.dY (aO.fU hww);omega);have e5:IntKind.i64.wrap ((j:Int)-1)=(j:Int)-1:=dS (pL.i64.2 (by omega));rw[e0,kV,bG (by omega),aI,e1,aA,e3,aA,e4,aA,fZ (by omega) (by decide),aI,e5,ih fu _ (by omega) (by omega) (by simp;omega)];have hc:Am n.nodes us[j]=some x.cond:=by unfold Am;rw[hx];rfl
  have ht:us.take (j+1)=us.take j++[us[j]]:=by rw[List.take_add_one,af hlt];rfl
  rw[ht,List.reverse_append,List.filterMap_append];simp[hc]
theorem a3I(n:aH)(v:Int)(h:NOk n):ul n v=some (fY n.nodes v):=by
 have hl:=h.1;unfold ul fY;rw[ax];by_cases h1:v<1
 ·rw[bG h1,aI,b9 (by omega)]
 ·rw[bM h1,aS];by_cases h2:v>=(n.nodes.length:Int)
  ·rw[bG h2,aI,b9 (by omega)]
  ·rw[bM h2,aS,bN ⟨by omega,by omega⟩];obtain⟨m,rfl⟩:=nv (by omega:0<=v);rw[Zy n h _ m m fuel [] (bO _) (by omega) (by omega) (by unfold fuel;omega) (by simp;omega)];have hul:=Tx n.nodes m m;have e5:IntKind.i64.wrap ((((([]:bC)++(NJ n.nodes m m).map dZ).map iM).length:Int)-1)=(((NJ n.nodes m m).length:Nat):Int)-1:=by
    rw[ck,ax,ax];exact dS (pL.i64.2 (by omega))
   rw[e5,ck,Zz n h (NJ n.nodes m m) (Yj n.nodes m m (by omega)) (by omega) _ (NJ n.nodes m m).length fuel [] (bO _) (by unfold fuel;omega) (by simp;omega),List.take_length];rfl
end Go.Cx
namespace Go.Cx
open Go.RowKit Go.Proofs Tryz
def nmB(k:Nat):Bytes:=[63]++Lib.itoa ((k:Int)+1)
theorem decDigits_one{u:Nat}(h:u<10):Lib.decDigits u=[UInt8.ofNat (48+u)]:=by
 rw[Lib.decDigits,dif_pos h]
theorem a0L:∀i,i<6->nmB i=[63,UInt8.ofNat (49+i)]
 |0,_|1,_|2,_|3,_|4,_|5,_=>by
  unfold nmB Lib.itoa;rw[b9 (by decide),decDigits_one (by decide)];decide
 |n+6,h=>by omega
def Yz(N:aT):Prop:=∀(i:Nat) p,N[i]?=some p->p.value=nmB i/\nu p.var=true
theorem QN(N:aT)(t:Bytes):Em N t=true↔∃p∈N,p.var=t:=by simp[Em]
theorem Ui(N:aT)(t:Bytes){p:aX}(h:p∈N):p∈lf N t:=by
 unfold lf;cases nu t&& !Em N t<;>simp[h]
theorem QL:∀(ts:aG) (N:aT) {p:aX},p∈N->p∈ts.foldl lf N
 | [],_,_,h=>h
 |t::ts,N,p,h=>QL ts (lf N t) (Ui N t h)
theorem Yq{N:aT}(h:Yz N)(t:Bytes):Yz (lf N t):=by
 unfold lf;cases hv:nu t&& !Em N t with
 |false=>exact h
 |true=>
  simp only[aV]at hv;intro i p hp;rw[aI]at hp;rcases eL i N.length with hlt|hge
  ·rw[ar hlt]at hp;exact h i p hp
  ·rw[b8 hge]at hp;cases hi:i-N.length with
   |zero=>
    rw[hi]at hp;simp at hp;subst hp;have:i=N.length:=by omega
    subst this;exact⟨rfl,hv.1⟩
   |succ m=>rw[hi]at hp;simp at hp
theorem LY:∀(ts:aG) {N:aT},Yz N->Yz (ts.foldl lf N)
 | [],_,h=>h
 |t::ts,_,h=>LY ts (Yq h t)
def Sq(N:aT):Prop:=(N.map aX.var).Nodup
theorem Uk{N:aT}(h:Sq N)(t:Bytes):Sq (lf N t):=by
 unfold lf;cases hv:nu t&& !Em N t with
 |false=>exact h
 |true=>
  simp only[aV,pz]at hv;rw[aI];unfold Sq;rw[bA,bH];refine⟨h,by simp,?_⟩;intro a ha b hb e;simp at hb;subst hb;subst e;obtain⟨p,hp,he⟩:=cE.1 ha;have:=(QN N a).2 ⟨p,hp,he⟩;rw[hv.2]at this;cases this
theorem JF:∀(ts:aG) {N:aT},Sq N->Sq (ts.foldl lf N)
 | [],_,h=>h
 |t::ts,_,h=>JF ts (Uk h t)
theorem QJ:∀(ts:aG) (N:aT) {t:Bytes},t∈ts->nu t=true->∃p∈ts.foldl lf N,p.var=t
 |x::ts,N,t,h,hv=>by
  rcases bL.1 h with rfl|h
  ·have:∃p∈lf N t,p.var=t:=by
    unfold lf;cases hh:Em N t with
    |true=>rw[hv];exact(QN N t).1 hh
    |false=>rw[hv];exact⟨⟨t,[63]++Lib.itoa ((N.length:Int)+1)⟩,by simp,rfl⟩
   obtain⟨p,hp,he⟩:=this;exact⟨p,QL ts _ hp,he⟩
  ·exact QJ ts _ h hv
theorem PI:∀ {N:aT} {p:aX},Sq N->p∈N->FN N p.var=p.value
 |q::N,p,hn,hp=>by
  unfold Sq at hn;rw[bB,eV]at hn;rcases bL.1 hp with rfl|hp
  ·simp[FN]
  ·have hne:(q.var==p.var)=false:=by
    rw[dK];intro e;exact hn.1 (by rw[e];exact cE.2 ⟨p,hp,rfl⟩)
   rw[FN,hne,aS];exact PI (show Sq N from hn.2) hp
theorem KT:∀ {N:aT} {t:Bytes},(∀p∈N,p.var≠t)->FN N t=t
 | [],t,_=>rfl
 |q::N,t,h=>by
  have hne:(q.var==t)=false:=by rw[dK];exact h q (by simp)
  rw[FN,hne,aS];exact KT fun p hp=>h p (by simp[hp])
theorem Yz.nil:Yz []:=fun i p h=>by simp at h
theorem Sq.nil:Sq []:=by simp[Sq]
theorem QK(ts:aG):(ts.foldl lf []).length<=ts.length:=by simpa using yP ts []
theorem Sf{N:aT}(h:Yz N){p:aX}(hp:p∈N):∃i,i<N.length/\N[i]?=some p/\p.value=nmB i/\nu p.var=true:=by
 obtain⟨i,hi⟩:=dN hp;exact⟨i,(aF.1 hi).1,hi,h i p hi⟩
theorem Xe{ts:aG}{t:Bytes}(ht:nu t=false):FN (ts.foldl lf []) t=t:=
 KT fun p hp e=>by
  obtain⟨i,_,_,_,hv⟩:=Sf (LY ts Yz.nil) hp;rw[e,ht]at hv;cases hv
theorem Tg:∀i,i<6->(nmB i).length<=16:=by
 intro i hi;rw[a0L i hi];simp
theorem a3g{ts:aG}(hl:ts.length<=5){t:Bytes}(ht:t.length<=16):(FN (ts.foldl lf []) t).length<=16:=by
 by_cases h:∃p∈ts.foldl lf [],p.var=t
 ·obtain⟨p,hp,he⟩:=h;rw[<-he,PI (JF ts Sq.nil) hp];obtain⟨i,hi,_,hpv,_⟩:=Sf (LY ts Yz.nil) hp;have:=QK ts;rw[hpv];exact Tg i (by omega)
 ·rw[KT (fun p hp e=>h ⟨p,hp,e⟩)];exact ht
end Go.Cx
namespace Go.Cx
open Go.RowKit Go.Proofs Tryz
def L6(c:aO):aG:=bif decide (c.kind=1)then jO c.pat.args else []
theorem Vx{c:aO}:(L6 c).length<=c.wt:=by
 unfold L6;have h2:=vl c.pat.args;have h3:=aD.dY (aO.fU (bO c.wt));cases decide (c.kind=1)<;>simp;omega
def zU(r:aK)(n:Int):aG:=(r.conds.take n.toNat).flatMap L6
theorem Nx{α:Type}(x:α)(xs:List α)(n:Int)(i:Nat):(x::xs).take (n-(i:Int)).toNat=if(i:Int)<n then x::xs.take (n-((i+1:Nat):Int)).toNat else []:=by
 by_cases h:(i:Int)<n
 ·rw[bN h];obtain⟨m,hm⟩:∃m,(n-(i:Int)).toNat=m+1:=⟨(n-(i:Int)).toNat -1,by omega⟩
  have:(n-((i+1:Nat):Int)).toNat=m:=by omega
  rw[hm,this];rfl
 ·rw[b9 h,show(n-(i:Int)).toNat=0 from by omega];rfl
theorem Eh{α β:Type}{f:α->List β}{w:α->Nat}(l:List α)(h:∀x∈l,(f x).length<=w x+2):(l.flatMap f).length<=3*sw w l:=by
 induction l with
 |nil=>simp[sw]
 |cons x l ih=>
  rw[fI,av,nq];have h1:=h x (by simp);have h2:=ih (fun y hy=>h y (by simp[hy]));omega
theorem Vy{r:aK}{n:Nat}(h:r.wt<=n)(m:Int):(zU r m).length<=3*n:=by
 unfold zU;have h1:=Eh (w:=aO.wt) (f:=L6) (r.conds.take m.toNat) (fun c _=>by have:= @Vx c;omega);have h2:sw aO.wt (r.conds.take m.toNat)<=sw aO.wt r.conds:=by
  conv=>rhs;rw[<-cF m.toNat r.conds]
  rw[Mn];omega
 have h3:=aK.sD h;omega
theorem Xw(a:aK)(n:Int)(i:Nat)(y:aG)(k:aG->Option aG):∀(l:aG) (j:Nat) (w:aG),w.length+l.length<=1099511627770->jU a n i y k l j w=k (l.foldl yT w):=by
 intro l
 induction l with
 |nil=>intro j w _;rfl
 |cons x l ih=>
  intro j w hw;simp only[aP]at hw;have:=A9 w x;rw[jU,SU w x (by omega),aA,ih _ _ (by omega)];rfl
theorem a0U(a:aK)(n:Int)(k:aG->Option aG):∀(l:ai) (i:Nat) (acc:aG),(∀c∈l,c.wt<=1048576)->acc.length+sw aO.wt l<=2097152->
 ff a n k l i (fE acc)=k (fE (acc++(l.take (n-(i:Int)).toNat).flatMap L6)):=by
 intro l
 induction l with
 |nil=>intro i acc _ _;simp[ff]
 |cons c l ih=>
  intro i acc hc hb;rw[nq]at hb;have Wv:=hc c (by simp);have hv:=vl c.pat.args;have ha:=aD.dY (aO.fU (bO c.wt));have hu:=py (jO c.pat.args);have Z5:=py acc;rw[ff,Nx];by_cases hi:(i:Int)<n
  ·have e1:decide (((i:Int):Int)<n)=true:=by simp[hi]
   rw[e1,aI,bN hi];by_cases hk:c.kind=1
   ·have e2:((c.kind:Int)==1)=true:=by simp[hk]
    rw[e2,aI,JV _ (aO.fU Wv),aA,uV (by omega),aI,Xw _ _ _ _ _ _ _ _ (by omega),FB,ih _ _ (fun x hx=>hc x (by simp[hx])) (by simp;omega)];simp[L6,hk]
   ·have e2:((c.kind:Int)==1)=false:=by simp[hk]
    rw[e2,aS,ih _ _ (fun x hx=>hc x (by simp[hx])) (by omega)];simp[L6,hk]
  ·have e1:decide (((i:Int):Int)<n)=false:=by simp[hi]
   rw[e1,aS,b9 hi];simp
theorem SP(r:aK)(n:Int)(h:r.wt<=1048576):kZ r n=some (fE (zU r n)):=by
 unfold kZ;have:=a0U r n (fun q=>some q) r.conds 0 [] (fun c hc=>aK.qp h hc) (by have:=aK.sD h;simp;omega);rw[show fE []=[]from rfl]at this;rw[this];simp[zU]
theorem Zv(a:aK)(n:Int)(k:aG->Option aG):∀(l:ai) (i:Nat) (w:aG),(∀c∈l,c.wt<=1048576)->w.length+sw aO.wt l<=2097152->
 fB a n k l i w=k (w++(l.take (n-(i:Int)).toNat).flatMap L6):=by
 intro l
 induction l with
 |nil=>intro i w _ _;simp[fB]
 |cons c l ih=>
  intro i w hc hb;rw[nq]at hb;have Wv:=hc c (by simp);have hv:=vl c.pat.args;have ha:=aD.dY (aO.fU (bO c.wt));rw[fB,Nx];by_cases hi:(i:Int)<n
  ·have e1:decide (((i:Int):Int)<n)=true:=by simp[hi]
   rw[e1,aI,bN hi];by_cases hk:c.kind=1
   ·have e2:((c.kind:Int)==1)=true:=by simp[hk]
    rw[e2,aI,XF _ (by omega) (fun x hx=>aD.tA (aO.fU Wv) hx),aA,Xu (by omega) (by decide),aI,ih _ _ (fun x hx=>hc x (by simp[hx])) (by simp;omega)];simp[L6,hk]
   ·have e2:((c.kind:Int)==1)=false:=by simp[hk]
    rw[e2,aS,ih _ _ (fun x hx=>hc x (by simp[hx])) (by omega)];simp[L6,hk]
  ·have e1:decide (((i:Int):Int)<n)=false:=by simp[hi]
   rw[e1,aS,b9 hi,ih _ _ (fun x hx=>hc x (by simp[hx])) (by omega),show(n-((i+1:Nat):Int)).toNat=0 from by omega];simp
theorem Wz(r:aK)(n:Int)(h:r.wt<=1048576):oy r n=some (fE (zU r n)):=by
 unfold oy;have hl:=Vy h n;rw[Zv r n _ r.conds 0 [] (fun c hc=>aK.qp h hc) (by have:=aK.sD h;simp;omega)];have e:([]:aG)++(r.conds.take (n-((0:Nat):Int)).toNat).flatMap L6=zU r n:=by simp[zU]
 rw[e,Ot _ (by omega)];rfl
def D3(l:ai):aG:=l.flatMap qD
def ZQ(l:eF):aG:=l.flatMap fun a=>jO a.pat.args
def a3j(r:aK):aG:=D3 r.conds++ZQ r.cK
theorem W8(l:ai):(D3 l).length<=3*sw aO.wt l:=Eh l (fun c _=>xD (bO _))
theorem YE(a:aK)(i:Nat)(y:aG)(k:aG->Option aG):∀(l:aG) (j:Nat) (w:aG),w.length+l.length<=1099511627770->kL a i y k l j w=k (l.foldl yT w):=by
 intro l
 induction l with
 |nil=>intro j w _;rfl
 |cons x l ih=>
  intro j w hw;simp only[aP]at hw;have:=A9 w x;rw[kL,SU w x (by omega),aA,ih _ _ (by omega)];rfl
theorem YG(a:aK)(i:Nat)(y:aG)(k:aG->Option aG):∀(l:aG) (j:Nat) (w:aG),w.length+l.length<=1099511627770->kM a i y k l j w=k (l.foldl yT w):=by
 intro l
 induction l with
 |nil=>intro j w _;rfl
 |cons x l ih=>
  intro j w hw;simp only[aP]at hw;have:=A9 w x;rw[kM,SU w x (by omega),aA,ih _ _ (by omega)];rfl
theorem YD(a:aK)(k:aG->Option aG):∀(l:ai) (i:Nat) (acc:aG),(∀c∈l,c.wt<=1048576)->acc.length+3*sw aO.wt l<=16777216->
 iq a k l i (fE acc)=k (fE (acc++D3 l)):=by
 intro l
 induction l with
 |nil=>intro i acc _ _;simp[iq,D3]
 |cons c l ih=>
  intro i acc hc hb;rw[nq]at hb;have Wv:=hc c (by simp);have h1:=xD (bO c.wt);have hu:=py (qD c);have Z5:=py acc;rw[iq,SQ c Wv,aA,uV (by omega),aI,YE _ _ _ _ _ _ _ (by omega),FB,ih _ _ (fun x hx=>hc x (by simp[hx])) (by simp;omega)];simp[D3]
theorem YF(a:aK)(k:aG->Option aG):∀(l:eF) (i:Nat) (acc:aG),(∀c∈l,c.wt<=1048576)->acc.length+3*sw Action.wt l<=16777216->
 gb a k l i (fE acc)=k (fE (acc++ZQ l)):=by
 intro l
 induction l with
 |nil=>intro i acc _ _;simp[gb,ZQ]
 |cons c l ih=>
  intro i acc hc hb;rw[nq]at hb;have Wv:=hc c (by simp);have h1:=vl c.pat.args;have h2:=aD.dY (Action.fU (bO c.wt));have hu:=py (jO c.pat.args);have Z5:=py acc;rw[gb,JV _ (Action.fU Wv),aA,uV (by omega),aI,YG _ _ _ _ _ _ _ (by omega),FB,ih _ _ (fun x hx=>hc x (by simp[hx])) (by simp;omega)];simp[ZQ]
theorem a41(r:aK)(h:r.wt<=1048576):sS r=some (fE (a3j r)):=by
 unfold sS;have h3:=aK.sD h;have h4:=aK.I6 h;have hl:=W8 r.conds;have:=YD r (fun q=>gb r (fun q=>some q) r.cK 0 q) r.conds 0 [] (fun c hc=>aK.qp h hc) (by simp;omega);rw[show fE []=[]from rfl]at this;rw[this];simp only[ck];rw[YF r _ r.cK 0 _ (fun c hc=>aK.OL h hc) (by omega)];rfl
theorem a5i(l:ai)(hc:∀c∈l,c.wt<=1048576)(hb:sw aO.wt l<=1048576):qK l=some (l.flatMap fun c=>fE (qD c)):=by
 unfold qK;have:∀(r:ai) (i:Nat) (w:aG),(∀c∈r,c.wt<=1048576)->w.length+3*sw aO.wt r<=16777216->gO l (fun q=>some q) r i w=some (w++r.flatMap fun c=>fE (qD c)):=by
  intro r
  induction r with
  |nil=>intro i w _ _;simp[gO]
  |cons c r ih=>
   intro i w hc hb;rw[nq]at hb;have h1:=xD (bO c.wt);have hu:=py (qD c);rw[gO,S2 c (hc c (by simp)),aA,Xu (by omega) (by decide),aI,ih _ _ (fun x hx=>hc x (by simp[hx])) (by simp;omega)];simp
 exact this l 0 [] hc (by simp;omega)
theorem W7(l:ai):(l.flatMap fun c=>fE (qD c)).length<=3*sw aO.wt l:=Eh l (fun c _=>by
 have h1:=xD (bO c.wt);have hu:=py (qD c);omega)
theorem a7o(l:ai)(b:aG):fE ((l.flatMap fun c=>fE (qD c))++b)=fE (D3 l++b):=FA (fun x=>by simp[D3,uJ])
def UH(v:Bytes)(k:Int):ai->Nat->Bool
 | [],_=>false
 |c::cs,i=>(decide (((i:Nat):Int)≠k)&&(qD c).contains v)||UH v k cs (i+1)
def QC(r:aK)(k:Int)(v:Bytes):Bool:=UH v k r.conds 0||r.cK.any fun a=>(jO a.pat.args).contains v
theorem Mz{l:aG}{v:Bytes}(h:nu v=true):l.contains v=(jO l).contains v:=by
 rw[br];simp[jO,h]
theorem a6V(r:aK)(k:Int)(v:Bytes)(h:r.wt<=1048576):nM r k v=some (QC r k v):=by
 unfold nM QC;have k2:∀(l:eF) (i:Nat),(∀c∈l,c.wt<=1048576)->iI r v (some false) l i=some (l.any fun a=>(jO a.pat.args).contains v):=by
  intro l
  induction l with
  |nil=>intro i _;rfl
  |cons a l ih=>
   intro i hc;rw[iI,JV _ (Action.fU (hc a (by simp))),aA,Uz,aA,nX,ih _ (fun x hx=>hc x (by simp[hx])),xR];cases(jO a.pat.args).contains v<;>rfl
 have k1:∀(l:ai) (i:Nat),(∀c∈l,c.wt<=1048576)->fW r k v (some (r.cK.any fun a=>(jO a.pat.args).contains v)) l i=some (UH v k l i||r.cK.any fun a=>(jO a.pat.args).contains v):=by
  intro l
  induction l with
  |nil=>intro i _;rfl
  |cons c l ih=>
   intro i hc;rw[fW,SQ _ (hc c (by simp)),aA,Uz,aA,nX,ih _ (fun x hx=>hc x (by simp[hx]))];simp only[UH,bne,jw];by_cases hi:((i:Nat):Int)=k
   ·simp[hi]
   ·cases(qD c).contains v<;>simp[hi]
 rw[k2 _ _ (fun c hc=>aK.OL h hc),k1 _ _ (fun c hc=>aK.qp h hc)]
theorem a9B(r:aK)(k:Int)(v:Bytes)(hv:nu v=true)(h:r.wt<=1048576):lS r k v=some (QC r k v):=by
 unfold lS QC;have k2:∀(l:eF) (i:Nat),fD r v (some false) l i=some (l.any fun a=>(jO a.pat.args).contains v):=by
  intro l
  induction l with
  |nil=>intro i;rfl
  |cons a l ih=>
   intro i;rw[fD,Zx,aA,Mz hv,ih,xR];cases(jO a.pat.args).contains v<;>rfl
 have k1:∀(l:ai) (i:Nat),(∀c∈l,c.wt<=1048576)->eH r k v (some (r.cK.any fun a=>(jO a.pat.args).contains v)) l i=some (UH v k l i||r.cK.any fun a=>(jO a.pat.args).contains v):=by
  intro l
  induction l with
  |nil=>intro i _;rfl
  |cons c l ih=>
   intro i hc;rw[eH,S2 _ (hc c (by simp)),aA,Zx,aA,nX,ih _ (fun x hx=>hc x (by simp[hx]))];simp only[UH,bne,jw];by_cases hi:((i:Nat):Int)=k
   ·simp[hi]
   ·cases(qD c).contains v<;>simp[hi]
 rw[k2,k1 _ _ (fun c hc=>aK.qp h hc)]
def LD(r:aK)(i:Nat)(c:aO)(v:Bytes):Bool:=decide (c.kind=1)||(zU r i).contains v||(decide (c.kind=2)&& !QC r i v)
def rj(r:aK):ai->Nat->Bool
 | [],_=>true
 |c::cs,i=>(rB c&&(!decide (i=0)||decide (c.kind=1))&&(fE (qD c)).all (LD r i c))&&rj r cs (i+1)
def Li(r:aK):Bool:=r.cK.all fun a=>Lh a&&(jO a.pat.args).all fun v=>(zU r r.conds.length).contains v
def j7(r:aK):Bool:=wQ r.name&&(decide (0<=r.prio)&&decide (r.prio<=9))&&(decide (1<=(r.conds.length:Int))&&decide ((r.conds.length:Int)<=4))&&(decide (1<=(r.cK.length:Int))&&decide ((r.cK.length:Int)<=2))&&
 (rj r r.conds 0&&(Li r&&decide (((fE (D3 r.conds)).length:Int)<=6)))
theorem NP(l:aG)(p:Bytes->Bool):(fE l).all p=l.all p:=by
 rw[br];simp[aq,uJ]
theorem ZU(r:aK)(n:Int){v:Bytes}(h:v∈zU r n):v∈D3 r.conds:=by
 unfold zU at h;obtain⟨c,hc,hv⟩:=cA.1 h;refine cA.2 ⟨c,bu hc,?_⟩;unfold L6 at hv;cases hk:decide (c.kind=1)with
 |false=>rw[hk]at hv;cases hv
 |true=>
  rw[hk]at hv;simp only[aI]at hv;unfold qD;rw[O3];exact aR.2 (.inl hv)
theorem RM{r:aK}(h:Li r=true):fE (a3j r)=fE (D3 r.conds):=by
 refine FA (fun x=>?_);unfold a3j;simp only[aR];constructor
 ·rintro(hx|hx)
  ·exact hx
  ·obtain⟨a,ha,hv⟩:=cA.1 hx;unfold Li at h;have:=aq.1 h a ha;simp only[aV,aq]at this;have:=this.2 x hv;exact ZU r _ (by simpa using this)
 ·exact .inl
theorem a0g(r:aK)(y:aG)(i:Nat)(c:aO)(l:aG)(k:Option Bool)(hc:c.wt<=1048576)(hr:r.wt<=1048576)(hcb:rB c=true):∀(rest:aG) (j:Nat),gA r y i c (fE (zU r i)) l k rest j=bif rest.all (LD r i c)then k else some false:=by
 have hk:=Gt hcb;intro rest
 induction rest with
 |nil=>intro j;rfl
 |cons v rest ih=>
  intro j;rw[gA,Uz,aA,nX,YK c hc,aA,a6V r _ v hr,aA,ih,dA];unfold JY LD;rw[hcb];by_cases h1:c.kind=1
  ·simp[h1]
  by_cases h2:c.kind=2
  ·cases(zU r i).contains v<;>cases QC r i v<;>simp[h2]
  have h3:c.kind>=3:=by omega
  cases(zU r i).contains v<;>simp[h1,h2,h3]
theorem a0h(r:aK)(y:aG)(i:Nat)(c:aO)(l:aG)(k:Option Bool)(hc:c.wt<=1048576)(hr:r.wt<=1048576)(hcb:rB c=true):∀(rest:aG) (j:Nat),gB r y i c (fE (zU r i)) l k rest j=bif rest.all (LD r i c)then k else some false:=by
 have hk:=Gt hcb;intro rest
 induction rest with
 |nil=>intro j;rfl
 |cons v rest ih=>
  intro j;rw[gB,Uz,aA,nX,YK c hc,aA,a6V r _ v hr,aA,ih,dA];unfold JY LD;rw[hcb];by_cases h1:c.kind=1
  ·simp[h1]
  by_cases h2:c.kind=2
  ·cases(zU r i).contains v<;>cases QC r i v<;>simp[h2]
  have h3:c.kind>=3:=by omega
  cases(zU r i).contains v<;>simp[h1,h2,h3]
theorem a0f(r:aK)(y:aG)(k:Option Bool)(hr:r.wt<=1048576):∀(rest:ai) (i:Nat),(∀c∈rest,c.wt<=1048576)->kf r y k rest i=bif rj r rest i then k else some false:=by
 intro rest
 induction rest with
 |nil=>intro i _;rfl
 |cons c rest ih=>
  intro i h;have hc:=h c (by simp);have hl:=xD hc;have hu:=py (qD c);rw[kf,Xx c hc,aA,rj];cases hcb:rB c with
  |false=>rfl
  |true=>
   rw[SP r _ hr,SQ c hc,ih _ (fun x hx=>h x (by simp[hx]))];simp only[aA,uV (show(fE (qD c)).length<=1099511627776 by omega),aI];rw[a0g r y i c _ _ hc hr hcb,a0h r y i c _ _ hc hr hcb];simp only[bne,jw];have e0:decide (((i:Int):Int)=0)=decide (i=0):=by rw[br];simp
   rw[e0];cases decide (i=0)<;>cases decide (c.kind=1)<;>cases(fE (qD c)).all (LD r i c)<;>simp
theorem a0j(r:aK)(y:aG)(i:Nat)(l:aG)(k:Option Bool):∀(rest:aG) (j:Nat),nE r y i l k rest j=bif rest.all (fun v=>y.contains v)then k else some false:=
 fun rest j=>UB (f:=fun v=>gD y v) (L:=nE r y i l k) (fun _=>rfl) (fun _ _ _=>rfl) rest j (fun v _=>Uz y v)
theorem a0i(r:aK)(b:aG)(k:Option Bool):∀(rest:eF) (i:Nat),(∀a∈rest,a.wt<=1048576)->nD r (fE b) k rest i=bif rest.all (fun a=>Lh a&&(jO a.pat.args).all fun v=>b.contains v)then k else some false:=by
 intro rest
 induction rest with
 |nil=>intro i _;rfl
 |cons a rest ih=>
  intro i h;have ha:=h a (by simp);have h1:=vl a.pat.args;have h2:=aD.dY (Action.fU ha);have hu:=py (jO a.pat.args);rw[nD,a9T a ha,aA,JV _ (Action.fU ha),aA,uV (by omega),ih _ (fun x hx=>h x (by simp[hx])),a0j,dA,NP];have e:((jO a.pat.args).all fun v=>(fE b).contains v)=(jO a.pat.args).all fun v=>b.contains v:=by
   congr 1;funext v;exact nX b v
  rw[e];cases Lh a<;>cases(jO a.pat.args).all (fun v=>b.contains v)<;>simp
theorem a1y(r:aK)(h:r.wt<=1048576):nR r=some (j7 r):=by
 unfold nR;simp only[Y9 _ (aK.Tf h),aA,J5,ax];rw[SP r _ h];simp only[aA];rw[a0f r _ _ h _ _ (fun c hc=>aK.qp h hc),a0i r _ _ _ _ (fun a ha=>aK.OL h ha),a41 r h];simp only[aA,ax];have hab:(r.cK.all fun a=>Lh a&&(jO a.pat.args).all fun v=>(zU r r.conds.length).contains v)=Li r:=rfl;rw[hab];unfold j7;have g1:decide (r.prio>=0)=decide (0<=r.prio):=rfl;have g2:decide ((r.conds.length:Int)>=1)=decide (1<=(r.conds.length:Int)):=rfl;have g3:decide ((r.cK.length:Int)>=1)=decide (1<=(r.cK.length:Int)):=rfl;rw[g1,g2,g3];cases ha:Li r with
 |false=>cases wQ r.name<;>cases(decide (0<=r.prio)&&decide (r.prio<=9))<;>cases(decide (1<=(r.conds.length:Int))&&decide ((r.conds.length:Int)<=4))<;>cases(decide (1<=(r.cK.length:Int))&&decide ((r.cK.length:Int)<=2))<;>cases rj r r.conds 0<;>rfl
 |true=>
  rw[RM ha];cases wQ r.name<;>cases(decide (0<=r.prio)&&decide (r.prio<=9))<;>cases(decide (1<=(r.conds.length:Int))&&decide ((r.conds.length:Int)<=4))<;>cases(decide (1<=(r.cK.length:Int))&&decide ((r.cK.length:Int)<=2))<;>cases rj r r.conds 0<;>simp
theorem a3D(r:aK)(i:Nat)(c:aO)(l:aG)(k:Option Bool)(hr:r.wt<=1048576)(hcb:rB c=true):∀(rest:aG) (j:Nat),(∀v∈rest,nu v=true)->gW r (i:Int) c (fE (zU r i)) l k rest j=bif rest.all (LD r i c)then k else some false:=by
 have hk:=Gt hcb;intro rest
 induction rest with
 |nil=>intro j _;rfl
 |cons v rest ih=>
  intro j hv;rw[gW,Zx,aA,nX,a9B r _ v (hv v (by simp)) hr,aA,ih _ (fun x hx=>hv x (by simp[hx])),dA];unfold LD;simp only[bne,jw];by_cases h1:c.kind=1
  ·simp[h1]
  by_cases h2:c.kind=2
  ·cases(zU r i).contains v<;>cases QC r i v<;>simp[h2]
  cases(zU r i).contains v<;>simp[h1,h2]
theorem a5l(r:aK)(i:Nat)(c:aO)(hr:r.wt<=1048576)(hi:r.conds[i]?=some c)(hcb:rB c=true):pZ r (i:Int)=some ((fE (qD c)).all (LD r i c)):=by
 unfold pZ;have hc:=aK.qp hr (aE hi);have hl:=xD hc;have hu:=py (qD c);have e:iP r.conds (i:Int)=some c:=by unfold iP;simp[hi]
 rw[e,aA,Wz r _ hr,aA,S2 c hc,aA,uV (by omega),aI,a3D r i c _ _ hr hcb _ _ (fun v hv=>by
  rw[uJ]at hv;unfold qD jO at hv;exact(gr.1 hv).2)]
 cases(fE (qD c)).all (LD r i c)<;>rfl
theorem a00(r:aK)(k:Option Bool)(hr:r.wt<=1048576):∀(rest pre:ai),r.conds=pre++rest->jC r k rest pre.length=bif rj r rest pre.length then k else some false:=by
 intro rest
 induction rest with
 |nil=>intro pre _;rfl
 |cons c rest ih=>
  intro pre h;have hm:c∈r.conds:=by rw[h];simp
  have hc:=aK.qp hr hm;have hi:r.conds[pre.length]?=some c:=by rw[h];simp
  have t:=ih (pre++[c]) (by rw[h];simp);simp only[av,aP,bS]at t;rw[jC,X5 c hc,aA,rj];cases hcb:rB c with
  |false=>rfl
  |true=>
   rw[a5l r _ c hr hi hcb,aA,t];simp only[bne,jw];have e0:decide ((((pre.length:Nat):Int):Int)=0)=decide (pre.length=0):=by rw[br];simp
   rw[e0];cases decide (pre.length=0)<;>cases decide (c.kind=1)<;>cases(fE (qD c)).all (LD r pre.length c)<;>simp
theorem a02(r:aK)(y:aG)(i:Nat)(l:aG)(k:Option Bool):∀(rest:aG) (j:Nat),n7 r y i l k rest j=bif rest.all (fun v=>y.contains v)then k else some false:=
 fun rest j=>UB (f:=fun v=>lQ y v) (L:=n7 r y i l k) (fun _=>rfl) (fun _ _ _=>rfl) rest j (fun v _=>Zx y v)
theorem a01(r:aK)(b:aG)(k:Option Bool):∀(rest:eF) (i:Nat),(∀a∈rest,a.wt<=1048576)->mw r (fE b) k rest i=bif rest.all (fun a=>Lh a&&(jO a.pat.args).all fun v=>b.contains v)then k else some false:=by
 intro rest
 induction rest with
 |nil=>intro i _;rfl
 |cons a rest ih=>
  intro i h;have ha:=h a (by simp);have h1:=vl a.pat.args;have h2:=aD.dY (Action.fU ha);rw[mw,a97 a ha,aA,XF _ (by omega) (fun x hx=>aD.tA (Action.fU ha) hx),aA,uV (by omega),ih _ (fun x hx=>h x (by simp[hx])),a02,dA];have e:((jO a.pat.args).all fun v=>(fE b).contains v)=(jO a.pat.args).all fun v=>b.contains v:=by
   congr 1;funext v;exact nX b v
  rw[e];cases Lh a<;>cases(jO a.pat.args).all (fun v=>b.contains v)<;>simp
theorem a5v(r:aK)(h:r.wt<=1048576):uj r=some (j7 r):=by
 unfold uj;have hcu:=W7 r.conds;have hcl:=aK.sD h;rw[show jC r _ r.conds 0=_ from a00 r _ h r.conds [] rfl,Wz r _ h,aA,a01 r _ _ _ _ (fun a ha=>aK.OL h ha),a5i _ (fun c hc=>aK.qp h hc) hcl,aA,Ot _ (by omega),X9 _ (aK.Tf h)];have e:=a7o r.conds [];simp only[cz]at e;rw[e];simp only[aA,ax,bS];have hab:(r.cK.all fun a=>Lh a&&(jO a.pat.args).all fun v=>(zU r r.conds.length).contains v)=Li r:=rfl;rw[hab];unfold j7;have g1:decide (0<=r.prio)= !decide (r.prio<0):=by rw[br];simp
 have g2:decide (r.prio<=9)= !decide (r.prio>9):=by rw[br];simp
 have g3:decide (1<=(r.conds.length:Int))= !decide ((r.conds.length:Int)<1):=by rw[br];simp
 have g4:decide ((r.conds.length:Int)<=4)= !decide ((r.conds.length:Int)>4):=by rw[br];simp
 have g5:decide (1<=(r.cK.length:Int))= !decide ((r.cK.length:Int)<1):=by rw[br];simp
 have g6:decide ((r.cK.length:Int)<=2)= !decide ((r.cK.length:Int)>2):=by rw[br];simp
 rw[g1,g2,g3,g4,g5,g6];cases wQ r.name
 ·rfl
 cases decide (r.prio<0)
 case true=>rfl
 cases decide (r.prio>9)
 case true=>rfl
 cases decide ((r.conds.length:Int)<1)
 case true=>rfl
 cases decide ((r.conds.length:Int)>4)
 case true=>rfl
 cases decide ((r.cK.length:Int)<1)
 case true=>rfl
 cases decide ((r.cK.length:Int)>2)
 case true=>rfl
 cases rj r r.conds 0
 ·rfl
 cases Li r
 ·rfl
 simp
def Bd(name:Bytes):aj->Nat->Int
 | [],_=> -1
 |r::rs,i=>bif r.name==name then(i:Int)else Bd name rs (i+1)
def L5(all:aj):aj->Nat->Bool
 | [],_=>true
 |r::rs,i=>(j7 r&&decide (Bd r.name all 0=(i:Int)))&&L5 all rs (i+1)
def r9(l:aj):Bool:=L5 l l 0&&decide ((l.length:Int)<=6)
theorem a6W(l:aj)(n:Bytes):sP l n=some (Bd n l 0):=by
 unfold sP;have:∀(r:aj) (i:Nat),kJ l n (some (-1)) r i=some (Bd n r i):=by
  intro r
  induction r with
  |nil=>intro i;rfl
  |cons x r ih=>intro i;rw[kJ,ih,Bd];cases x.name==n<;>rfl
 exact this l 0
theorem a5j(l:aj)(n:Bytes):sG l n=some (Bd n l 0):=by
 unfold sG;have:∀(r:aj) (i:Nat),k8 l n (some (-1)) r i=some (Bd n r i):=by
  intro r
  induction r with
  |nil=>intro i;rfl
  |cons x r ih=>intro i;rw[k8,ih,Bd];cases x.name==n<;>rfl
 exact this l 0
theorem a9V(l:aj)(h:sw aK.wt l<=1048576):sO l=some (r9 l):=by
 unfold sO;have:∀(r:aj) (i:Nat) (k:Option Bool),(∀x∈r,x.wt<=1048576)->kI l k r i=bif L5 l r i then k else some false:=by
  intro r
  induction r with
  |nil=>intro i k _;rfl
  |cons x r ih=>
   intro i k hx;rw[kI,a1y x (hx x (by simp)),aA,a6W,aA,ih _ _ (fun y hy=>hx y (by simp[hy])),L5];simp only[bne,jw];cases j7 x<;>cases decide (Bd x.name l 0=(i:Int))<;>simp
 rw[this _ _ _ (fun x hx=>by have:=tO (w:=aK.wt) hx;omega),ax,r9];cases L5 l l 0<;>rfl
theorem a5f(l:aj)(h:sw aK.wt l<=1048576):pX l=some (r9 l):=by
 unfold pX;have:∀(r:aj) (i:Nat) (k:Option Bool),(∀x∈r,x.wt<=1048576)->k6 l k r i=bif L5 l r i then k else some false:=by
  intro r
  induction r with
  |nil=>intro i k _;rfl
  |cons x r ih=>
   intro i k hx;rw[k6,a5v x (hx x (by simp)),aA,a5j,aA,ih _ _ (fun y hy=>hx y (by simp[hy])),L5];simp only[bne,jw];cases j7 x<;>cases decide (Bd x.name l 0=(i:Int))<;>simp
 rw[this _ _ _ (fun x hx=>by have:=tO (w:=aK.wt) hx;omega),ax,r9];have g:decide ((l.length:Int)<=6)= !decide ((l.length:Int)>6):=by rw[br];simp
 rw[g];cases L5 l l 0<;>cases decide ((l.length:Int)>6)<;>rfl
end Go.Cx
namespace Go.Cx
open Go.RowKit Go.Proofs Tryz
theorem MZ{α β:Type}[DecidableEq β]{f:α->α->Option Bool}{g:α->β}{a b:List α}{k:Option Bool}{L:List α->Nat->Option Bool}(hl:a.length=b.length)(uI:∀i,L [] i=k)
 (tu:∀x xs i,L (x::xs) i=(iP b (i:Int)).bind fun y=>(f x y).bind fun r=>bif !r then some false else L xs (i+1)) (hf:∀x y,f x y=some (decide (g x=g y))):
 L a 0=bif decide (a.map g=b.map g)then k else some false:=by
 have key:∀(ra rb pa pb:List α),a=pa++ra->b=pb++rb->pa.length=pb.length->L ra pa.length=bif decide (ra.map g=rb.map g)then k else some false:=by
  intro ra
  induction ra with
  |nil=>
   intro rb pa pb h1 h2 h3;rw[uI];have:rb=[]:=by
    have:=congrArg List.length h1;have:=congrArg List.length h2;simp at*;apply cL;omega
   subst this;simp
  |cons x xs ih=>
   intro rb pa pb h1 h2 h3;cases rb with
   |nil=>
    exfalso;have:=congrArg List.length h1;have:=congrArg List.length h2;simp at*;omega
   |cons y ys=>
    have e1:iP b (pa.length:Int)=some y:=by rw[h3];exact wD h2
    rw[tu,e1,aA,hf,aA];have:=ih ys (pa++[x]) (pb++[y]) (by rw[h1];simp) (by rw[h2];simp) (by simp[h3]);simp only[av,aP,bS]at this;rw[this];by_cases hxy:g x=g y
    ·simp[hxy]
    ·simp[hxy]
 exact key a b [] [] rfl rfl rfl
theorem MQ{α β:Type}{g:α->β}{a b:List α}(h:a.length≠b.length):a.map g≠b.map g:=fun e=>h (by have:=congrArg List.length e;simpa using this)
theorem FL{α:Type}{c:α->aL}(a b:List α):((((a.map c).length:Int):Int) != ((b.map c).length:Int))= !decide (a.length=b.length):=by
 rw[br];simp;omega
theorem map_id'{α:Type}(l:List α):l.map (fun x=>x)=l:=by simp
theorem a3L(a b:aK):pY a b=some (decide (a=b)):=by
 have k2:∀(k:Option Bool),a.cK.length=b.cK.length->iT a b k a.cK 0=bif decide (a.cK=b.cK)then k else some false:=fun k hl=>by
  have:=MZ (g:=fun x:Action=>x) (f:=fun x y:Action=>bif x.kind != y.kind then some false else fQ x.pat y.pat) (k:=k) (L:=iT a b k) hl (fun _=>rfl) (fun x xs i=>by
   rw[iT];congr 1;funext y;cases(x.kind != y.kind)<;>rfl) (fun x y=>by
   obtain⟨x0,x1⟩:=x;obtain⟨y0,y1⟩:=y;simp only[MD,bne,jw];by_cases h0:x0=y0<;>by_cases h1:x1=y1<;>simp[h0,h1])
  rw[map_id',map_id']at this;exact this
 have k1:∀(k:Option Bool),a.conds.length=b.conds.length->kB a b k a.conds 0=bif decide (a.conds=b.conds)then k else some false:=fun k hl=>by
  have:=MZ (g:=fun x:aO=>x) (f:=jx) (k:=k) (L:=kB a b k) hl (fun _=>rfl) (fun _ _ _=>rfl) Oq;rw[map_id',map_id']at this;exact this
 unfold pY;rw[FL,FL];obtain⟨a0,a1,a2,a3⟩:=a;obtain⟨b0,b1,b2,b3⟩:=b;simp only at k1 k2⊢;simp only[bne,jw,Bool.not_not];by_cases h0:a0=b0;rotate_left
 ·simp[h0]
 by_cases h1:a1=b1;rotate_left
 ·simp[h1]
 by_cases h2:a2.length=b2.length;rotate_left
 ·have:a2≠b2:=fun e=>h2 (by rw[e])
  simp[h2,this]
 by_cases h3:a3.length=b3.length;rotate_left
 ·have:a3≠b3:=fun e=>h3 (by rw[e])
  simp[h3,this]
 rw[k1 _ h2,k2 _ h3];by_cases h4:a2=b2<;>by_cases h5:a3=b3<;>simp[h0,h1,h2,h3,h4,h5]
theorem a03(a b:aj):rK a b=some (decide (a=b)):=by
 unfold rK;exact Z2 (c:=aK.c) (f:=pY) (fun k=>mI a b k) (fun _ _=>rfl) (fun _ _ _ _=>rfl) a3L
theorem Qs(x y:aX):((x.var:Bytes)==y.var&&(x.value:Bytes)==y.value)=decide (x=y):=by
 obtain⟨x0,x1⟩:=x;obtain⟨y0,y1⟩:=y;simp only[jw];by_cases h0:x0=y0<;>by_cases h1:x1=y1<;>simp[h0,h1]
theorem a42(a b:aT):kz a b=some (decide (a=b)):=by
 unfold kz;exact Z2 (c:=aX.c) (f:=fun x y=>some (decide (x=y))) (fun k=>gG a b k) (fun _ _=>rfl) (fun k x xs i=>by rw[gG];congr 1;funext y;rw[Qs];rfl) (fun _ _=>rfl)
theorem a3J(a b:aT):p8 a b=some (decide (a=b)):=by
 unfold p8;exact Z2 (c:=aX.c) (f:=fun x y=>some (decide (x=y))) (fun k=>jR a b k) (fun _ _=>rfl) (fun k x xs i=>by rw[jR];congr 1;funext y;rw[Qs];rfl) (fun _ _=>rfl)
theorem a0k(a b:ay):oU a b=some (decide (a=b)):=by
 unfold oU;exact Z2 (c:=aU.c) (f:=fun x y=>(nF x.facts y.facts).bind fun r=>bif !r then some false else kz x.bind y.bind) (fun k=>gj a b k) (fun _ _=>rfl) (fun k x xs i=>by
  rw[gj];congr 1;funext y;rw[PR,aA,aA];cases decide (x.facts=y.facts)<;>rfl) (fun x y=>by
  obtain⟨x0,x1⟩:=x;obtain⟨y0,y1⟩:=y;simp only[PR,a42,aA];by_cases h0:x0=y0<;>by_cases h1:x1=y1<;>simp[h0,h1])
theorem a04(a b:ay):o9 a b=some (decide (a=b)):=by
 unfold o9;exact Z2 (c:=aU.c) (f:=fun x y=>(jE x.facts y.facts).bind fun r=>bif !r then some false else p8 x.bind y.bind) (fun k=>iY a b k) (fun _ _=>rfl) (fun k x xs i=>by
  rw[iY];congr 1;funext y;rw[LS,aA,aA];cases decide (x.facts=y.facts)<;>rfl) (fun x y=>by
  obtain⟨x0,x1⟩:=x;obtain⟨y0,y1⟩:=y;simp only[LS,a3J,aA];by_cases h0:x0=y0<;>by_cases h1:x1=y1<;>simp[h0,h1])
def M4(a b:aH):Bool:=decide (a.au.map aZ.shape=b.au.map aZ.shape)&&(decide (a.nodes.map (fun x=>(x.parent,x.cj,x.cond))=b.nodes.map (fun x=>(x.parent,x.cj,x.cond)))&&decide (a.ends=b.ends))
def JC(a b:aH):Bool:=decide (a.rules=b.rules)&&(decide (a.ends=b.ends)&&(decide (a.facts=b.facts)&&(decide (a.au=b.au)&&decide (a.nodes=b.nodes))))
theorem a6Y(a b:aH):qS a b=some (M4 a b):=by
 unfold qS M4;rw[FL,FL,FL];by_cases h1:a.au.length=b.au.length;rotate_left
 ·simp[h1,MQ h1]
 by_cases h2:a.nodes.length=b.nodes.length;rotate_left
 ·simp[h2,MQ h2]
 by_cases h3:a.ends.length=b.ends.length;rotate_left
 ·have:a.ends≠b.ends:=fun e=>h3 (by rw[e])
  simp[h3,this]
 have k1:=fun k=>MZ (g:=aZ.shape) (f:=fun x y:aZ=>ir x.shape y.shape) (k:=k) (L:=l7 a b k) h1 (fun _=>rfl) (fun _ _ _=>rfl) (fun x y=>SV _ _)
 have k2:=fun k=>MZ (g:=fun x:Node=>(x.parent,x.cj,x.cond)) (f:=fun x y:Node=>bif x.parent != y.parent then some false else bif x.cj != y.cj then some false else oK x.cond y.cond) (k:=k) (L:=iw a b k) h2 (fun _=>rfl) (fun x xs i=>by
  rw[iw];congr 1;funext y;cases(x.parent != y.parent)<;>cases(x.cj != y.cj)<;>rfl) (fun x y=>by
  simp only[YH,bne,jw];by_cases q0:x.parent=y.parent<;>by_cases q1:x.cj=y.cj<;>by_cases q2:x.cond=y.cond<;>simp[q0,q1,q2])
 have k3:=fun k=>MZ (g:=fun x:Int=>x) (f:=fun x y:Int=>some (decide (x=y))) (k:=k) (L:=iy a b k) h3 (fun _=>rfl) (fun x xs i=>by
  rw[iy];congr 1) (fun x y=>rfl)
 rw[k1,k2,k3,map_id',map_id'];simp only[h1,h2,h3,Dr,bW,aS];cases decide (a.au.map aZ.shape=b.au.map aZ.shape)<;>cases decide (a.nodes.map (fun x=>(x.parent,x.cj,x.cond))=b.nodes.map (fun x=>(x.parent,x.cj,x.cond)))<;>cases decide (a.ends=b.ends)<;>rfl
theorem a5s(a b:aH):mE a b=some (JC a b):=by
 unfold mE;simp only[a03,a3K,LS,aA,FL];by_cases h1:a.au.length=b.au.length;rotate_left
 ·have:a.au≠b.au:=fun e=>h1 (by rw[e])
  simp only[h1,JC,this,decide_false,cT,aI,Bool.false_and];cases decide (a.rules=b.rules)<;>cases decide (a.ends=b.ends)<;>cases decide (a.facts=b.facts)<;>rfl
 by_cases h2:a.nodes.length=b.nodes.length;rotate_left
 ·have:a.nodes≠b.nodes:=fun e=>h2 (by rw[e])
  simp only[h1,h2,JC,this,Dr,decide_false,cT,bW,aI,aS,vu];cases decide (a.rules=b.rules)<;>cases decide (a.ends=b.ends)<;>cases decide (a.facts=b.facts)<;>rfl
 have k1:=fun k=>MZ (g:=fun x:aZ=>x) (f:=fun x y:aZ=>(fQ x.shape y.shape).bind fun r=>bif !r then some false else jE x.facts y.facts) (k:=k) (L:=gU a b k) h1 (fun _=>rfl) (fun x xs i=>by
  rw[gU];congr 1;funext y;rw[MD,aA,aA];cases decide (x.shape=y.shape)<;>rfl) (fun x y=>by
  obtain⟨x0,x1⟩:=x;obtain⟨y0,y1⟩:=y;simp only[MD,LS,aA];by_cases q0:x0=y0<;>by_cases q1:x1=y1<;>simp[q0,q1])
 have k2:=fun k=>MZ (g:=fun x:Node=>x) (f:=fun x y:Node=>bif x.parent != y.parent then some false else bif x.cj != y.cj then some false else(jx x.cond y.cond).bind fun r=>bif !r then some false else o9 x.tokens y.tokens) (k:=k) (L:=gV a b k) h2 (fun _=>rfl) (fun x xs i=>by
  rw[gV];congr 1;funext y;rw[Oq,aA,aA];cases(x.parent != y.parent)<;>cases(x.cj != y.cj)<;>cases decide (x.cond=y.cond)<;>rfl) (fun x y=>by
  obtain⟨x0,x1,x2,x3⟩:=x;obtain⟨y0,y1,y2,y3⟩:=y;simp only[Oq,a04,aA,bne,jw];by_cases q0:x0=y0<;>by_cases q1:x1=y1<;>by_cases q2:x2=y2<;>by_cases q3:x3=y3<;>simp[q0,q1,q2,q3])
 rw[k1,k2,map_id',map_id',map_id',map_id',JC];simp only[h1,h2,Dr,bW,aS];cases decide (a.rules=b.rules)<;>cases decide (a.ends=b.ends)<;>cases decide (a.facts=b.facts)<;>cases decide (a.au=b.au)<;>cases decide (a.nodes=b.nodes)<;>rfl
end Go.Cx
