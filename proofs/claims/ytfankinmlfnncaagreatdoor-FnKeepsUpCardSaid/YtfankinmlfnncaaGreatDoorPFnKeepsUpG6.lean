/- What functions of the program compute, and the walks that show it. No condition. -/
import Derived.Test.YtfankinmlfnncaaGreatDoorPFnKeepsUpG5
import Derived.Test.YtfankinmlfnncaaGreatDoorPFnKeepsUpG3
import Derived.Sort.Walk0
set_option linter.unusedVariables false
set_option linter.unusedSimpArgs false
namespace Go.Cx
open Go.RowKit Go.Proofs Tryz
set_option maxRecDepth 100000
variable{Γ:vn}{N:Nat->St->Prop}
def fI(aD:aG)(aY:aC)(k1:Option (aG×Int)):bK->Nat->Option (aG×Int)
 | [],i1=>(k1)
 |bS::cT,i1=>((gD bS.shape aY).bind fun qp=>(bif qp then(some (aD,(i1:Int)))else(fI aD aY k1 cT (i1+1))))
def iv(aD:aG)(aY:aC):Option (aG×Int):=(bif decide (aD.az.length<=maxLen)then(fI aD aY (bif room ((aD.az.map aX.c).length+([[D.str aY.rel,D.sl (aY.args.map tx),D.sl ([])]]).length) 64 then(some ((⟨aD.rules,aD.ends,aD.az++([(⟨aY,[]⟩:aX)]),aD.nodes,aD.facts,aD.br⟩:aG),IntKind.i64.wrap ((((aD.az.map aX.c)++([[D.str aY.rel,D.sl (aY.args.map tx),D.sl ([])]])).length:Int)-1)))else none) aD.az 0)else none)
def BI(iU:Value)(aD:aG)(aY:aC)(dG:Int):St:=⟨[(0,D.ptr 0 0),(3,D.ptr 1 0),(10,D.acc 2),(11,D.int .i64 ((aD.az.map aX.c).length:Int)),(12,D.int .i64 dG)],[Ob.Bq [D.acc 3,D.acc 4,D.acc 2,D.acc 5,D.acc 6,D.int .i64 aD.br] iU,Ob.box [D.str aY.rel,D.acc 7],Ob.row .uq 83 3 (aD.az.map aX.c),Ob.row .uq 63 4 (aD.rules.map aK.c),Ob.row .uq 3 1 (aD.ends.map gm),Ob.row .uq 74 8 (aD.nodes.map Node.c),Ob.row .uq 43 2 (aD.facts.map aC.c),Ob.row .uq 9 1 (aY.args.map tx)]⟩
theorem Ai(hΓ:Γ.nt=40){iU:Value}{aD:aG}{aY:aC}{r:aG×Int}{k1:Option (aG×Int)}(dX:k1=some r->Ax Γ N f217 (.p [[some (63,4),some (3,1),some (83,3),some (74,8),some (43,2),none],[none]] iU (cB r.1) (D.int .i64 r.2)) [1,1] ⟨[(0,D.ptr 0 0),(3,D.ptr 1 0)],[Ob.Bq [D.acc 2,D.acc 3,D.acc 4,D.acc 5,D.acc 6,D.int .i64 aD.br] iU,Ob.box [D.str aY.rel,D.acc 7],Ob.row .uq 63 4 (aD.rules.map aK.c),Ob.row .uq 3 1 (aD.ends.map gm),Ob.row .uq 83 3 (aD.az.map aX.c),Ob.row .uq 74 8 (aD.nodes.map Node.c),Ob.row .uq 43 2 (aD.facts.map aC.c),Ob.row .uq 9 1 (aY.args.map tx)]⟩)(hm1:aD.az.length<=maxLen):∀(rest:bK) (i1:Nat),aD.az.drop i1=rest->fI aD aY k1 rest i1=some r->Ar Γ N f217 (.p [[some (63,4),some (3,1),some (83,3),some (74,8),some (43,2),none],[none]] iU (cB r.1) (D.int .i64 r.2)) [1,0,1,0] (rest.length+1) (BI iU aD aY (i1:Int)):=by
 intro rest
 induction rest with
 |nil=>
  intro i1 b8 h;rw[fI]at h;refine aU fun N1 cW cK=>?_
  exact((aW.ge aX.c b8).a [.hl 0 [0,3] [0,1,3,4,2,5,6,7]]).ex hΓ cW (dX h)
 |cons bS cT ih1=>
  intro i1 b8 h;rw[fI]at h;refine aU fun N1 cW cK=>?_
  obtain⟨qp,h23,h⟩:=aB h;have fE:=((((aW.lt aX.c b8).i (mL aX.c 3 (dc b8))).o 3 3 .uq (cH aX.c (dc b8))).g (pK h23))
  obtain⟨h24,h⟩|⟨h24,h⟩:=aL h
  ·cases h;exact(fE.b h24).ret hΓ
  ·exact((fE.b h24).a [.cn [0,3,10,11,12] [0,1,2,3,4,5,6,7]]).ct hΓ cK (iS b8 hm1) (ih1 (i1+1) (dn b8) h)
theorem uI{aD:aG}{aY:aC}{r:aG×Int}(h:iv aD aY=some r):iL prog 217 (cB aD) (cB r.1) [D.agg [D.str aY.rel,D.fr 9 1 (aY.args.map tx)]] (D.int .i64 r.2):=by
 refine Jt func217 [[some (63,4),some (3,1),some (83,3),some (74,8),some (43,2),none],[none]] 40 [D.acc 1,D.acc 2,D.acc 3,D.acc 4,D.acc 5,D.int .i64 aD.br] [D.agg [D.str aY.rel,D.acc 6]] [Ob.row .uq 63 4 (aD.rules.map aK.c),Ob.row .uq 3 1 (aD.ends.map gm),Ob.row .uq 83 3 (aD.az.map aX.c),Ob.row .uq 74 8 (aD.nodes.map Node.c),Ob.row .uq 43 2 (aD.facts.map aC.c),Ob.row .uq 9 1 (aY.args.map tx)] fun hr iU Γ hΓ=>?_
 rw[iv]at h;obtain⟨h27,h⟩:=bQ h;refine(aW.a [.cn [0,3,10,11,12] [0,7,3,1,2,4,5,6]]).lp hΓ (Ai hΓ (fun h=>?_) (bV h27) aD.az 0 rfl h);obtain⟨h26,h⟩:=bQ h;cases h;exact((aW.w (bX h26)).a [.n2 [0,1,2,3,4,5,6,7,8,9,10,11] [0,1,2,3,4,5,6,7,8,9,10,11] 7 9 [0,1,2,3,4] [4,7,8]]).rts hΓ (D.ff [D.int .i64 (IntKind.i64.wrap ((((aD.az.map aX.c)++([[D.str aY.rel,D.sl (aY.args.map tx),D.sl ([])]])).length:Int)-1)),D.agg [D.fr 63 4 (aD.rules.map aK.c),D.fr 3 1 (aD.ends.map gm),D.fr 83 3 ((aD.az.map aX.c)++([[D.str aY.rel,D.sl (aY.args.map tx),D.sl ([])]])),D.fr 74 8 (aD.nodes.map Node.c),D.fr 43 2 (aD.facts.map aC.c),D.int .i64 aD.br],D.val iU]) (by first|rfl| (simp only[mA]<;>rfl)| (simp only[cB,mA]<;>rfl))
def dS(aD:aG)(aY:Int)(cX:aP)(k1:Option (aG×Int)):bI->Nat->Option (aG×Int)
 | [],i1=>(k1)
 |bS::cT,i1=>(bif decide (((i1:Int):Int)>0)then(bif (bS.parent:Int)==aY then((kf bS.cond cX).bind fun HF=>(bif HF then(some (aD,(i1:Int)))else(dS aD aY cX k1 cT (i1+1))))else(dS aD aY cX k1 cT (i1+1)))else(dS aD aY cX k1 cT (i1+1)))
def lR(aD:aG)(aY:Int)(cX:aP):Option (aG×Int):=(bif decide (aD.nodes.length<=maxLen)then(dS aD aY cX (bif (cX.kind:Int)==1 then((sw cX.pat).bind fun NH=>((iv aD NH).bind fun Na=>((fc cX).bind fun Iv=>(bif room ((Na.1.nodes.map Node.c).length+([[D.int .i64 aY,D.int .i64 Iv.kind,D.str Iv.pat.rel,D.sl (Iv.pat.args.map tx),D.str Iv.left,D.str Iv.right,D.int .i64 Na.2,D.sl ([])]]).length) 120 then(some ((⟨Na.1.rules,Na.1.ends,Na.1.az,Na.1.nodes++([(⟨aY,Iv,Na.2,[]⟩:Node)]),Na.1.facts,Na.1.br⟩:aG),IntKind.i64.wrap ((((Na.1.nodes.map Node.c)++([[D.int .i64 aY,D.int .i64 Iv.kind,D.str Iv.pat.rel,D.sl (Iv.pat.args.map tx),D.str Iv.left,D.str Iv.right,D.int .i64 Na.2,D.sl ([])]])).length:Int)-1)))else none))))else(bif (cX.kind:Int)==2 then((sw cX.pat).bind fun Xt=>((iv aD Xt).bind fun Mj=>((fc cX).bind fun Lh=>(bif room ((Mj.1.nodes.map Node.c).length+([[D.int .i64 aY,D.int .i64 Lh.kind,D.str Lh.pat.rel,D.sl (Lh.pat.args.map tx),D.str Lh.left,D.str Lh.right,D.int .i64 Mj.2,D.sl ([])]]).length) 120 then(some ((⟨Mj.1.rules,Mj.1.ends,Mj.1.az,Mj.1.nodes++([(⟨aY,Lh,Mj.2,[]⟩:Node)]),Mj.1.facts,Mj.1.br⟩:aG),IntKind.i64.wrap ((((Mj.1.nodes.map Node.c)++([[D.int .i64 aY,D.int .i64 Lh.kind,D.str Lh.pat.rel,D.sl (Lh.pat.args.map tx),D.str Lh.left,D.str Lh.right,D.int .i64 Mj.2,D.sl ([])]])).length:Int)-1)))else none))))else((fc cX).bind fun Ln=>(bif room ((aD.nodes.map Node.c).length+([[D.int .i64 aY,D.int .i64 Ln.kind,D.str Ln.pat.rel,D.sl (Ln.pat.args.map tx),D.str Ln.left,D.str Ln.right,D.int .i64 (-1),D.sl ([])]]).length) 120 then(some ((⟨aD.rules,aD.ends,aD.az,aD.nodes++([(⟨aY,Ln, -1,[]⟩:Node)]),aD.facts,aD.br⟩:aG),IntKind.i64.wrap ((((aD.nodes.map Node.c)++([[D.int .i64 aY,D.int .i64 Ln.kind,D.str Ln.pat.rel,D.sl (Ln.pat.args.map tx),D.str Ln.left,D.str Ln.right,D.int .i64 (-1),D.sl ([])]])).length:Int)-1)))else none)))) aD.nodes 0)else none)
def BJ(iU:Value)(aD:aG)(aY:Int)(cX:aP)(dG:Int):St:=⟨[(0,D.ptr 0 0),(1,D.int .i64 aY),(5,D.ptr 1 0),(13,D.acc 2),(14,D.int .i64 ((aD.nodes.map Node.c).length:Int)),(15,D.int .i64 dG)],[Ob.Bq [D.acc 3,D.acc 4,D.acc 5,D.acc 2,D.acc 6,D.int .i64 aD.br] iU,Ob.box (aP.c cX),Ob.row .uq 74 8 (aD.nodes.map Node.c),Ob.row .uq 63 4 (aD.rules.map aK.c),Ob.row .uq 3 1 (aD.ends.map gm),Ob.row .uq 83 3 (aD.az.map aX.c),Ob.row .uq 43 2 (aD.facts.map aC.c)]⟩
theorem Aj(hΓ:Γ.nt=69){iU:Value}{aD:aG}{aY:Int}{cX:aP}{r:aG×Int}{k1:Option (aG×Int)}(dX:k1=some r->Ax Γ N f177 (.p [[some (63,4),some (3,1),some (83,3),some (74,8),some (43,2),none],[none]] iU (cB r.1) (D.int .i64 r.2)) [1,1] ⟨[(0,D.ptr 0 0),(1,D.int .i64 aY),(5,D.ptr 1 0)],[Ob.Bq [D.acc 2,D.acc 3,D.acc 4,D.acc 5,D.acc 6,D.int .i64 aD.br] iU,Ob.box (aP.c cX),Ob.row .uq 63 4 (aD.rules.map aK.c),Ob.row .uq 3 1 (aD.ends.map gm),Ob.row .uq 83 3 (aD.az.map aX.c),Ob.row .uq 74 8 (aD.nodes.map Node.c),Ob.row .uq 43 2 (aD.facts.map aC.c)]⟩)(hm1:aD.nodes.length<=maxLen):∀(rest:bI) (i1:Nat),aD.nodes.drop i1=rest->dS aD aY cX k1 rest i1=some r->Ar Γ N f177 (.p [[some (63,4),some (3,1),some (83,3),some (74,8),some (43,2),none],[none]] iU (cB r.1) (D.int .i64 r.2)) [1,0,1,0] (rest.length+1) (BJ iU aD aY cX (i1:Int)):=by
 intro rest
 induction rest with
 |nil=>
  intro i1 b8 h;rw[dS]at h;refine aU fun N1 cW cK=>?_
  exact((aW.ge Node.c b8).a [.hl 0 [0,1,5] [0,1,3,4,5,2,6]]).ex hΓ cW (dX h)
 |cons bS cT ih1=>
  intro i1 b8 h;rw[dS]at h;refine aU fun N1 cW cK=>?_
  have jO:=(((aW.lt Node.c b8).i (mL Node.c 8 (dc b8))).o 8 8 .uq (cH Node.c (dc b8)))
  obtain⟨h30,h⟩|⟨h30,h⟩:=aL h
  ·have tS:=(jO.r 5 h30)
   obtain⟨h31,h⟩|⟨h31,h⟩:=aL h
   ·obtain⟨HF,h33,h⟩:=aB h;have wK:=(((tS.r 4 h31).g (vW h33)).b h31)
    obtain⟨h34,h⟩|⟨h34,h⟩:=aL h
    ·cases h;exact(wK.b h34).ret hΓ
    ·exact((wK.b h34).a [.cn [0,1,5,13,14,15] [0,1,2,3,4,5,6]]).ct hΓ cK (iS b8 hm1) (ih1 (i1+1) (dn b8) h)
   ·exact(((tS.r 5 h31).F 1).a [.cn [0,1,5,13,14,15] [0,1,2,3,4,5,6]]).ct hΓ cK (iS b8 hm1) (ih1 (i1+1) (dn b8) h)
  ·exact(((jO.r 5 h30).F 6).a [.cn [0,1,5,13,14,15] [0,1,2,3,4,5,6]]).ct hΓ cK (iS b8 hm1) (ih1 (i1+1) (dn b8) h)
theorem A9{aD:aG}{aY:Int}{cX:aP}{r:aG×Int}(h:lR aD aY cX=some r):iL prog 177 (cB aD) (cB r.1) [D.int .i64 aY,D.agg (aP.c cX)] (D.int .i64 r.2):=by
 refine Jt func177 [[some (63,4),some (3,1),some (83,3),some (74,8),some (43,2),none],[none]] 69 [D.acc 1,D.acc 2,D.acc 3,D.acc 4,D.acc 5,D.int .i64 aD.br] [D.int .i64 aY,D.agg [D.int .i64 cX.kind,D.str cX.pat.rel,D.sl (cX.pat.args.map tx),D.str cX.left,D.str cX.right]] [Ob.row .uq 63 4 (aD.rules.map aK.c),Ob.row .uq 3 1 (aD.ends.map gm),Ob.row .uq 83 3 (aD.az.map aX.c),Ob.row .uq 74 8 (aD.nodes.map Node.c),Ob.row .uq 43 2 (aD.facts.map aC.c)] fun hr iU Γ hΓ=>?_
 rw[lR]at h;obtain⟨h63,h⟩:=bQ h;refine(aW.a [.cn [0,1,5,13,14,15] [0,6,4,1,2,3,5]]).lp hΓ (Aj hΓ (fun h=>?_) (bV h63) aD.nodes 0 rfl h);obtain⟨h35,h⟩|⟨h35,h⟩:=aL h
 ·obtain⟨NH,h37,h⟩:=aB h;obtain⟨Na,h39,h⟩:=aB h;obtain⟨Iv,h44,h⟩:=aB h;obtain⟨h45,h⟩:=bQ h;cases h;exact(((((((aW.r 4 h35).T 1).g (AR h37)).hp [[some (63,4),some (3,1),some (83,3),some (74,8),some (43,2),none],[none,some (9,1)]] (uI h39)).a [.n2 [0,1,2,3,4,5,6,7,8,9,10,11,12,13,14] [0,1,2,3,4,5,6,7,8,9,10,11,12,13,14] 10 12 [0,1,2,3,4] [11,13,14]]).g (lY h44)).w (bX h45)).rts hΓ (D.ff [D.int .i64 (IntKind.i64.wrap ((((Na.1.nodes.map Node.c)++([[D.int .i64 aY,D.int .i64 Iv.kind,D.str Iv.pat.rel,D.sl (Iv.pat.args.map tx),D.str Iv.left,D.str Iv.right,D.int .i64 Na.2,D.sl ([])]])).length:Int)-1)),D.agg [D.fr 63 4 (Na.1.rules.map aK.c),D.fr 3 1 (Na.1.ends.map gm),D.fr 83 3 (Na.1.az.map aX.c),D.fr 74 8 ((Na.1.nodes.map Node.c)++([[D.int .i64 aY,D.int .i64 Iv.kind,D.str Iv.pat.rel,D.sl (Iv.pat.args.map tx),D.str Iv.left,D.str Iv.right,D.int .i64 Na.2,D.sl ([])]])),D.fr 43 2 (Na.1.facts.map aC.c),D.int .i64 Na.1.br],D.val iU]) (by first|rfl| (simp only[mA]<;>rfl)| (simp only[cB,mA]<;>rfl))
 ·have z7:=(aW.r 4 h35)
  obtain⟨h46,h⟩|⟨h46,h⟩:=aL h
  ·obtain⟨Xt,h48,h⟩:=aB h;obtain⟨Mj,h50,h⟩:=aB h;obtain⟨Lh,h55,h⟩:=aB h;obtain⟨h56,h⟩:=bQ h;cases h;exact((((((z7.b h46).g (AR h48)).hp [[some (63,4),some (3,1),some (83,3),some (74,8),some (43,2),none],[none,some (9,1)]] (uI h50)).a [.n2 [0,1,2,3,4,5,6,7,8,9,10,11,12,13,14] [0,1,2,3,4,5,6,7,8,9,10,11,12,13,14] 10 12 [0,1,2,3,4] [11,13,14]]).g (lY h55)).w (bX h56)).rts hΓ (D.ff [D.int .i64 (IntKind.i64.wrap ((((Mj.1.nodes.map Node.c)++([[D.int .i64 aY,D.int .i64 Lh.kind,D.str Lh.pat.rel,D.sl (Lh.pat.args.map tx),D.str Lh.left,D.str Lh.right,D.int .i64 Mj.2,D.sl ([])]])).length:Int)-1)),D.agg [D.fr 63 4 (Mj.1.rules.map aK.c),D.fr 3 1 (Mj.1.ends.map gm),D.fr 83 3 (Mj.1.az.map aX.c),D.fr 74 8 ((Mj.1.nodes.map Node.c)++([[D.int .i64 aY,D.int .i64 Lh.kind,D.str Lh.pat.rel,D.sl (Lh.pat.args.map tx),D.str Lh.left,D.str Lh.right,D.int .i64 Mj.2,D.sl ([])]])),D.fr 43 2 (Mj.1.facts.map aC.c),D.int .i64 Mj.1.br],D.val iU]) (by first|rfl| (simp only[mA]<;>rfl)| (simp only[cB,mA]<;>rfl))
  ·obtain⟨Ln,h61,h⟩:=aB h;obtain⟨h62,h⟩:=bQ h;cases h;exact((((z7.b h46).a [.n2 [0,1,2,3,4,5,6,7,8,9,10,11,12,13,14] [0,1,2,3,4,5,6,7,8,9,10,11,12,13,14] 10 12 [0,1,2,3,4] [5,7,8]]).g (lY h61)).w (bX h62)).rts hΓ (D.ff [D.int .i64 (IntKind.i64.wrap ((((aD.nodes.map Node.c)++([[D.int .i64 aY,D.int .i64 Ln.kind,D.str Ln.pat.rel,D.sl (Ln.pat.args.map tx),D.str Ln.left,D.str Ln.right,D.int .i64 (-1),D.sl ([])]])).length:Int)-1)),D.agg [D.fr 63 4 (aD.rules.map aK.c),D.fr 3 1 (aD.ends.map gm),D.fr 83 3 (aD.az.map aX.c),D.fr 74 8 ((aD.nodes.map Node.c)++([[D.int .i64 aY,D.int .i64 Ln.kind,D.str Ln.pat.rel,D.sl (Ln.pat.args.map tx),D.str Ln.left,D.str Ln.right,D.int .i64 (-1),D.sl ([])]])),D.fr 43 2 (aD.facts.map aC.c),D.int .i64 aD.br],D.val iU]) (by first|rfl| (simp only[mA]<;>rfl)| (simp only[cB,mA]<;>rfl))
def jy(aD:aq)(i1:Nat)(Js:ar)(k2:Int->Int->aq->bH->bK->bI->aI->Option aG):ar->Nat->Int->Int->aq->bH->bK->bI->aI->Option aG
 | [],i2,nB,pq,Cj,kq,wC,jr,sU=>(k2 nB pq Cj kq wC jr sU)
 |js::ua,i2,nB,pq,Cj,kq,wC,jr,sU=>((lR (⟨Cj,kq,wC,jr,sU,pq⟩:aG) nB js).bind fun zG=>(jy aD i1 Js k2 ua (i2+1) zG.2 zG.1.br zG.1.rules zG.1.ends zG.1.az zG.1.nodes zG.1.facts))
def jx(aD:aq)(k1:Int->aq->bH->bK->bI->aI->Option aG):aq->Nat->Int->aq->bH->bK->bI->aI->Option aG
 | [],i1,pg,nD,dK,wV,mP,Ci=>(k1 pg nD dK wV mP Ci)
 |bS::cT,i1,pg,nD,dK,wV,mP,Ci=>((rQ bS).bind fun Js=>(bif decide (Js.length<=maxLen)then(jy aD i1 Js (fun(Av:Int) (pY:Int) (Jk:aq) (xQ:bH) (Jl:bK) (mJ:bI) (Jm:aI)=>(bif room ((xQ.map gm).length+([[D.int .i64 Av]]).length) 8 then(jx aD k1 cT (i1+1) pY Jk (xQ++([Av])) Jl mJ Jm)else none)) Js 0 0 pg nD dK wV mP Ci)else none))
def tF(aD:aq):Option aG:=((qT aD).bind fun y1=>(jx aD (fun(vg:Int) (qF:aq) (dl:bH) (P0:bK) (kp:bI) (vf:aI)=>(some (⟨qF,dl,P0,kp,vf,vg⟩:aG))) aD 0 0 y1 ([]:bH) ([]:bK) ([(⟨-1,(⟨0,(⟨[],[]⟩:aC),[],[]⟩:aP), -1,[]⟩:Node)]) ([]:aI)))
def wN(aD:aq)(pg:Int)(W1:List aQ)(W2:List aQ)(W3:List aQ)(W4:List aQ)(W5:List aQ)(dG:Int):St:=⟨[(2,D.ptr 0 0),(3,D.ptr 1 0),(14,D.sl (aD.map aK.c)),(15,D.int .i64 ((aD.map aK.c).length:Int)),(16,D.int .i64 dG)],[Ob.box [D.nil,D.nil,D.nil,D.nil,D.nil,D.int .i64 0],Ob.box [D.acc 2,D.acc 3,D.acc 4,D.acc 5,D.acc 6,D.int .i64 pg],Ob.row .uq 63 4 W1,Ob.row .uq 3 1 W2,Ob.row .uq 83 3 W3,Ob.row .uq 74 8 W4,Ob.row .uq 43 2 W5]⟩
def Hv(aD:aq)(i1:Nat)(Js:ar)(nB:Int)(pq:Int)(W2:List aQ)(W3:List aQ)(W4:List aQ)(W5:List aQ)(W6:List aQ)(dG:Int):St:=⟨[(2,D.ptr 0 0),(3,D.ptr 1 0),(6,D.int .i64 nB),(14,D.sl (aD.map aK.c)),(15,D.int .i64 ((aD.map aK.c).length:Int)),(16,D.int .i64 (i1:Int)),(21,D.acc 2),(22,D.int .i64 ((Js.map aP.c).length:Int)),(23,D.int .i64 dG)],[Ob.box [D.nil,D.nil,D.nil,D.nil,D.nil,D.int .i64 0],Ob.box [D.acc 3,D.acc 4,D.acc 5,D.acc 6,D.acc 7,D.int .i64 pq],Ob.row .uq 71 5 (Js.map aP.c),Ob.row .uq 63 4 W2,Ob.row .uq 3 1 W3,Ob.row .uq 83 3 W4,Ob.row .uq 74 8 W5,Ob.row .uq 43 2 W6]⟩
theorem GC(hΓ:Γ.nt=39){aD:aq}{i1:Nat}{Js:ar}{r:aG}{k2:Int->Int->aq->bH->bK->bI->aI->Option aG}(zx:∀(Av:Int) (pY:Int) (Jk:aq) (xQ:bH) (Jl:bK) (mJ:bI) (Jm:aI),k2 Av pY Jk xQ Jl mJ Jm=some r->Ax Γ N f106 (.q [[some (63,4),some (3,1),some (83,3),some (74,8),some (43,2),none]] (D.agg [D.fr 63 4 (r.rules.map aK.c),D.fr 3 1 (r.ends.map gm),D.fr 83 3 (r.az.map aX.c),D.fr 74 8 (r.nodes.map Node.c),D.fr 43 2 (r.facts.map aC.c),D.int .i64 r.br])) [1,1,0,1,0,0,1,1,0,0,1,1,1] ⟨[(2,D.ptr 0 0),(3,D.ptr 1 0),(6,D.int .i64 Av),(14,D.sl (aD.map aK.c)),(15,D.int .i64 ((aD.map aK.c).length:Int)),(16,D.int .i64 (i1:Int))],[Ob.box [D.nil,D.nil,D.nil,D.nil,D.nil,D.int .i64 0],Ob.box [D.acc 2,D.acc 3,D.acc 4,D.acc 5,D.acc 6,D.int .i64 pY],Ob.row .uq 63 4 (Jk.map aK.c),Ob.row .uq 3 1 (xQ.map gm),Ob.row .uq 83 3 (Jl.map aX.c),Ob.row .uq 74 8 (mJ.map Node.c),Ob.row .uq 43 2 (Jm.map aC.c)]⟩)(hm2:Js.length<=maxLen):∀(rest:ar) (i2:Nat) (nB:Int) (pq:Int) (Cj:aq) (kq:bH) (wC:bK) (jr:bI) (sU:aI),Js.drop i2=rest->jy aD i1 Js k2 rest i2 nB pq Cj kq wC jr sU=some r->Ar Γ N f106 (.q [[some (63,4),some (3,1),some (83,3),some (74,8),some (43,2),none]] (D.agg [D.fr 63 4 (r.rules.map aK.c),D.fr 3 1 (r.ends.map gm),D.fr 83 3 (r.az.map aX.c),D.fr 74 8 (r.nodes.map Node.c),D.fr 43 2 (r.facts.map aC.c),D.int .i64 r.br])) [1,1,0,1,0,0,1,1,0,0,1,1,0,1,0] (rest.length+1) (Hv aD i1 Js nB pq (Cj.map aK.c) (kq.map gm) (wC.map aX.c) (jr.map Node.c) (sU.map aC.c) (i2:Int)):=by
 intro rest
 induction rest with
 |nil=>
  intro i2 nB pq Cj kq wC jr sU hd2 h;rw[jy]at h;refine aU fun N2 vC s6=>?_
  exact((aW.ge aP.c hd2).a [.hl 5 [2,3,6,14,15,16] [0,1,3,4,5,6,7]]).ex hΓ vC (zx nB pq Cj kq wC jr sU h)
 |cons js ua ih2=>
  intro i2 nB pq Cj kq wC jr sU hd2 h;rw[jy]at h;refine aU fun N2 vC s6=>?_
  obtain⟨zG,h209,h⟩:=aB h;exact((((((aW.lt aP.c hd2).i (mL aP.c 5 (dc hd2))).o 5 5 .uq (cH aP.c (dc hd2))).a [.gp [[some (63,4),some (3,1),some (83,3),some (74,8),some (43,2),none],[none],[none,none,none,none,none]] (cB zG.1) (D.int .i64 zG.2)]).w (show iL prog 177 (cB (⟨Cj,kq,wC,jr,sU,pq⟩:aG)) (cB zG.1) [D.int .i64 nB,D.agg (aP.c js)] (D.int .i64 zG.2)from by simpa only[bD,au,bg,bZ,bh]using A9 h209)).a [.cn [2,3,6,14,15,16,21,22,23] [0,1,2,9,10,11,12,13]]).ct hΓ s6 (iS hd2 hm2) (ih2 (i2+1) zG.2 zG.1.br zG.1.rules zG.1.ends zG.1.az zG.1.nodes zG.1.facts (dn hd2) h)
theorem GB(hΓ:Γ.nt=39){aD:aq}{r:aG}{k1:Int->aq->bH->bK->bI->aI->Option aG}(dX:∀(vg:Int) (qF:aq) (dl:bH) (P0:bK) (kp:bI) (vf:aI),k1 vg qF dl P0 kp vf=some r->Ax Γ N f106 (.q [[some (63,4),some (3,1),some (83,3),some (74,8),some (43,2),none]] (D.agg [D.fr 63 4 (r.rules.map aK.c),D.fr 3 1 (r.ends.map gm),D.fr 83 3 (r.az.map aX.c),D.fr 74 8 (r.nodes.map Node.c),D.fr 43 2 (r.facts.map aC.c),D.int .i64 r.br])) [1,1,1] ⟨[(2,D.ptr 0 0),(3,D.ptr 1 0)],[Ob.box [D.nil,D.nil,D.nil,D.nil,D.nil,D.int .i64 0],Ob.box [D.acc 2,D.acc 3,D.acc 4,D.acc 5,D.acc 6,D.int .i64 vg],Ob.row .uq 63 4 (qF.map aK.c),Ob.row .uq 3 1 (dl.map gm),Ob.row .uq 83 3 (P0.map aX.c),Ob.row .uq 74 8 (kp.map Node.c),Ob.row .uq 43 2 (vf.map aC.c)]⟩)(hm1:aD.length<=maxLen):∀(rest:aq) (i1:Nat) (pg:Int) (nD:aq) (dK:bH) (wV:bK) (mP:bI) (Ci:aI),aD.drop i1=rest->jx aD k1 rest i1 pg nD dK wV mP Ci=some r->Ar Γ N f106 (.q [[some (63,4),some (3,1),some (83,3),some (74,8),some (43,2),none]] (D.agg [D.fr 63 4 (r.rules.map aK.c),D.fr 3 1 (r.ends.map gm),D.fr 83 3 (r.az.map aX.c),D.fr 74 8 (r.nodes.map Node.c),D.fr 43 2 (r.facts.map aC.c),D.int .i64 r.br])) [1,1,0,1,0] (rest.length+1) (wN aD pg (nD.map aK.c) (dK.map gm) (wV.map aX.c) (mP.map Node.c) (Ci.map aC.c) (i1:Int)):=by
 intro rest
 induction rest with
 |nil=>
  intro i1 pg nD dK wV mP Ci b8 h;rw[jx]at h;refine aU fun N1 cW cK=>?_
  exact((aW.ge aK.c b8).a [.hl 0 [2,3] [0,1,2,3,4,5,6]]).ex hΓ cW (dX pg nD dK wV mP Ci h)
 |cons bS cT ih1=>
  intro i1 pg nD dK wV mP Ci b8 h;rw[jx]at h;refine aU fun N1 cW cK=>?_
  obtain⟨Js,h180,h⟩:=aB h;obtain⟨h211,h⟩:=bQ h;refine((((aW.lt aK.c b8).l (bG aK.c 4 (dc b8) rfl)).g (Dz h180)).a [.cn [2,3,6,14,15,16,21,22,23] [0,1,8,2,3,4,5,6]]).lp hΓ (GC hΓ (fun Av pY Jk xQ Jl mJ Jm h=>?_) (bV h211) Js 0 0 pg nD dK wV mP Ci rfl h);obtain⟨h210,h⟩:=bQ h;exact((aW.w (bX h210)).a [.cn [2,3,14,15,16] [0,1,2,8,4,5,6]]).cs hΓ cK (wN aD pY (Jk.map aK.c) ((xQ.map gm)++([[D.int .i64 Av]])) (Jl.map aX.c) (mJ.map Node.c) (Jm.map aC.c) (IntKind.i64.wrap ((i1:Int)+1))) (by first| (simp only[iS b8 hm1,mA]<;>rfl)| (simp only[iS b8 hm1,mA,aC.c,aV.c,aP.c,Action.c,aK.c,aO.c,bM.c,aX.c,Node.c,aG.c,dL.c]<;>rfl)) (ih1 (i1+1) pY Jk (xQ++([Av])) Jl mJ Jm (dn b8) h)
theorem F8{aD:aq}{r:aG}(h:tF aD=some r):Good prog 106 [D.sl (aD.map aK.c)] (D.agg [D.fr 63 4 (r.rules.map aK.c),D.fr 3 1 (r.ends.map gm),D.fr 83 3 (r.az.map aX.c),D.fr 74 8 (r.nodes.map Node.c),D.fr 43 2 (r.facts.map aC.c),D.int .i64 r.br]):=by
 refine gd func106 [[some (63,4),some (3,1),some (83,3),some (74,8),some (43,2),none]] 39 fun hr Γ hΓ=>?_
 rw[tF]at h;obtain⟨y1,h2,h⟩:=aB h;refine((aW.g (yj h2)).a [.pb 3 1 3 1,.pb 3 2 83 3,.pb 3 4 43 2,.cn [2,3,14,15,16] [0,3,1,4,5,2,6]]).lps hΓ (wN aD 0 (y1.map aK.c) ([]:List aQ) ([]:List aQ) ([[D.int .i64 (-1),D.int .i64 0,D.str ([]),D.sl ([]),D.str ([]),D.str ([]),D.int .i64 (-1),D.sl ([])]]) ([]:List aQ) 0) (by first| (simp only[mA]<;>rfl)| (simp only[mA,aC.c,aV.c,aP.c,Action.c,aK.c,aO.c,bM.c,aX.c,Node.c,aG.c,dL.c]<;>rfl)) (GB hΓ (fun vg qF dl P0 kp vf h=>?_) (by have:=(gb.sl (hr _ (aE (i:=0) rfl))).1;simpa using this) aD 0 0 y1 ([]:bH) ([]:bK) ([(⟨-1,(⟨0,(⟨[],[]⟩:aC),[],[]⟩:aP), -1,[]⟩:Node)]) ([]:aI) rfl h);cases h;exact aW.ret hΓ
def eR(aD:aC):Option aC:=((o9 aD.args).bind fun y1=>(some (⟨aD.rel,y1⟩:aC)))
theorem gw{aD:aC}{r:aC}(h:eR aD=some r):Good prog 143 [D.agg (aC.c aD)] (D.agg [D.str r.rel,D.fr 9 1 (r.args.map tx)]):=by
 refine gd func143 [[none,some (9,1)]] 9 fun hr Γ hΓ=>?_
 rw[eR]at h;obtain⟨y1,h2,h⟩:=aB h;cases h;exact((aW.a [.n 5]).g (v7 h2)).ret hΓ
def nK(aD:aI)(k1:aI->Option aI):aI->Nat->aI->Option aI
 | [],i1,bP=>(k1 bP)
 |bS::cT,i1,bP=>((eR bS).bind fun oa=>(bif room ((bP.map aC.c).length+([[D.str oa.rel,D.sl (oa.args.map tx)]]).length) 40 then(nK aD k1 cT (i1+1) (bP++([oa])))else none))
def cV(aD:aI):Option aI:=(nK aD (fun(cC:aI)=>(some cC)) aD 0 ([]:aI))
def AU(aD:aI)(W0:List aQ)(dG:Int):St:=⟨[(3,D.acc 0),(6,D.sl (aD.map aC.c)),(7,D.int .i64 ((aD.map aC.c).length:Int)),(8,D.int .i64 dG)],[Ob.row .uq 43 2 W0]⟩
theorem G1(hΓ:Γ.nt=19){aD:aI}{r:aI}{k1:aI->Option aI}(dX:∀(cC:aI),k1 cC=some r->Ax Γ N f82 (.q [[some (43,2)]] (D.fr 43 2 (r.map aC.c))) [1,1,1] ⟨[(3,D.acc 0)],[Ob.row .uq 43 2 (cC.map aC.c)]⟩)(hm1:aD.length<=maxLen):∀(rest:aI) (i1:Nat) (bP:aI),aD.drop i1=rest->nK aD k1 rest i1 bP=some r->Ar Γ N f82 (.q [[some (43,2)]] (D.fr 43 2 (r.map aC.c))) [1,1,0,1,0] (rest.length+1) (AU aD (bP.map aC.c) (i1:Int)):=by
 intro rest
 induction rest with
 |nil=>
  intro i1 bP b8 h;rw[nK]at h;refine aU fun N1 cW cK=>?_
  exact((aW.ge aC.c b8).a [.hl 0 [3] [0]]).ex hΓ cW (dX bP h)
 |cons bS cT ih1=>
  intro i1 bP b8 h;rw[nK]at h;refine aU fun N1 cW cK=>?_
  obtain⟨oa,h28,h⟩:=aB h;obtain⟨h29,h⟩:=bQ h;exact(((((aW.lt aC.c b8).l (bG aC.c 2 (dc b8) rfl)).g (gw h28)).w (bX h29)).a [.cn [3,6,7,8] [4]]).cs hΓ cK (AU aD ((bP.map aC.c)++([[D.str oa.rel,D.sl (oa.args.map tx)]])) (IntKind.i64.wrap ((i1:Int)+1))) (by first| (simp only[iS b8 hm1,mA]<;>rfl)| (simp only[iS b8 hm1,mA,aC.c,aV.c,aP.c,Action.c,aK.c,aO.c,bM.c,aX.c,Node.c,aG.c,dL.c]<;>rfl)) (ih1 (i1+1) (bP++([oa])) (dn b8) h)
theorem cg{aD:aI}{r:aI}(h:cV aD=some r):Good prog 82 [D.sl (aD.map aC.c)] (D.fr 43 2 (r.map aC.c)):=by
 refine gd func82 [[some (43,2)]] 19 fun hr Γ hΓ=>?_
 rw[cV]at h;refine(aW.a [.LP 3,.cn [3,6,7,8] [0]]).lp hΓ (G1 hΓ (fun cC h=>?_) (by have:=(gb.sl (hr _ (aE (i:=0) rfl))).1;simpa using this) aD 0 ([]:aI) rfl h);have h:=aN h;subst h;exact aW.ret hΓ
def iV(aD:aT)(k1:Option Bool):aT->Nat->Option Bool
 | [],i1=>(k1)
 |bS::cT,i1=>((mZ bS.var).bind fun y50=>(bif !(y50)then(some false)else((gC bS.value).bind fun y53=>(bif !(y53)then(some false)else(bif decide (((i1:Int):Int)>0)then((fy aD (IntKind.i64.wrap ((i1:Int)-1))).bind fun x57=>(bif !(Op.bytesLess x57.var bS.var)then(some false)else(iV aD k1 cT (i1+1))))else(iV aD k1 cT (i1+1)))))))
def lU(aD:aT):Option Bool:=(bif decide ((((aD.map aV.c).length:Int):Int)>6)then(some false)else(iV aD (some true) aD 0))
def He(aD:aT)(dG:Int):St:=⟨[(0,D.sl (aD.map aV.c)),(8,D.sl (aD.map aV.c)),(9,D.int .i64 ((aD.map aV.c).length:Int)),(10,D.int .i64 dG)],[]⟩
theorem Fv(hΓ:Γ.nt=41){aD:aT}{r:Bool}{k1:Option Bool}(dX:k1=some r->Ax Γ N f146 (.q [[none]] (D.bool r)) [1,1,1] ⟨[],[]⟩)(hm1:aD.length<=maxLen):∀(rest:aT) (i1:Nat),aD.drop i1=rest->iV aD k1 rest i1=some r->Ar Γ N f146 (.q [[none]] (D.bool r)) [1,1,0,1,0] (rest.length+1) (He aD (i1:Int)):=by
 intro rest
 induction rest with
 |nil=>
  intro i1 b8 h;rw[iV]at h;refine aU fun N1 cW cK=>?_
  exact((aW.ge aV.c b8).a [.hl 0 [] []]).ex hΓ cW (dX h)
 |cons bS cT ih1=>
  intro i1 b8 h;rw[iV]at h;refine aU fun N1 cW cK=>?_
  obtain⟨y50,h51,h⟩:=aB h;have tS:=((((aW.lt aV.c b8).l (bG aV.c 2 (dc b8) rfl)).a [.n 22]).g (pH h51))
  obtain⟨h52,h⟩|⟨h52,h⟩:=aL h
  ·have h:=aN h;subst h;exact((((tS.r 5 h52).T 3).a [bF,bF,bF,bF,bF,bF,bF,bF,bF]).T 3).ret hΓ
  ·obtain⟨y53,h54,h⟩:=aB h;have wK:=(((tS.r 3 h52).g (fJ h54)).r 2 h52)
   obtain⟨h55,h⟩|⟨h55,h⟩:=aL h
   ·have h:=aN h;subst h;exact((((wK.r 3 h55).a [bF,bF,bF,bF,bF,bF,bF,bF,bF]).r 2 h55).T 1).ret hΓ
   ·have z7:=(wK.r 3 h55)
    obtain⟨h56,h⟩|⟨h56,h⟩:=aL h
    ·obtain⟨x57,h58,h⟩:=aB h;have DY:=((((((z7.r 4 h56).l (fB aV.c 2 h58 rfl)).r 5 h56).b h55).b h56).b h55)
     obtain⟨h59,h⟩|⟨h59,h⟩:=aL h
     ·have h:=aN h;subst h;exact(DY.b h59).ret hΓ
     ·exact((DY.b h59).a [.cn [0,8,9,10] []]).ct hΓ cK (iS b8 hm1) (ih1 (i1+1) (dn b8) h)
    ·exact((((((z7.r 9 h56).b h55).b h56).b h55).F 1).a [.cn [0,8,9,10] []]).ct hΓ cK (iS b8 hm1) (ih1 (i1+1) (dn b8) h)
theorem nw{aD:aT}{r:Bool}(h:lU aD=some r):Good prog 146 [D.sl (aD.map aV.c)] (D.bool r):=by
 refine gd func146 [[none]] 41 fun hr Γ hΓ=>?_
 rw[lU]at h;obtain⟨h1,h⟩|⟨h1,h⟩:=aL h
 ·have h:=aN h;subst h;exact(aW.b h1).ret hΓ
 ·refine((aW.b h1).a [.cn [0,8,9,10] []]).lp hΓ (Fv hΓ (fun h=>?_) (by have:=(gb.sl (hr _ (aE (i:=0) rfl))).1;simpa using this) aD 0 rfl h);have h:=aN h;subst h;exact aW.ret hΓ
def jd(aD:aT):Option aT:=(bif room (([]:List aQ).length+(aD.map aV.c).length) 32 then(some (([]:aT)++aD))else none)
theorem uz{aD:aT}{r:aT}(h:jd aD=some r):Good prog 147 [D.sl (aD.map aV.c)] (D.fr 113 2 (r.map aV.c)):=by
 refine gd func147 [[some (113,2)]] 5 fun hr Γ hΓ=>?_
 rw[jd]at h;obtain⟨h1,h⟩:=bQ h;cases h;exact(((aW.w (bX h1)).w (show(∀r∈(aD.map aV.c),r.length=2)/\(true=true->D.iN (aD.map aV.c)=true)from⟨by first|simp| (intro r hr;obtain⟨x,_,rfl⟩:=bt.1 (bn (eE hr));rfl),by simp[D.iN,D.flat]⟩)).a [.LP 2,.fl true]).rts hΓ (D.fr 113 2 (([]:List aQ)++(aD.map aV.c))) (by first|rfl| (simp only[mA]<;>rfl)| (simp only[cB,mA]<;>rfl))
def me(aD:aT)(aY:Bytes)(k1:Option (Bytes×Bool)):aT->Nat->Option (Bytes×Bool)
 | [],i1=>(k1)
 |bS::cT,i1=>(bif (bS.var:Bytes)==aY then(some (bS.value,true))else(me aD aY k1 cT (i1+1)))
def oo(aD:aT)(aY:Bytes):Option (Bytes×Bool):=((gC aY).bind fun y1=>(bif y1 then(some (aY,true))else((mZ aY).bind fun y4=>(bif !(y4)then(some ([],false))else(me aD aY (some ([],false)) aD 0)))))
def KH(aD:aT)(aY:Bytes)(dG:Int):St:=⟨[(1,D.str aY),(14,D.sl (aD.map aV.c)),(15,D.int .i64 ((aD.map aV.c).length:Int)),(16,D.int .i64 dG)],[]⟩
theorem J6(hΓ:Γ.nt=27){aD:aT}{aY:Bytes}{r:Bytes×Bool}{k1:Option (Bytes×Bool)}(dX:k1=some r->Ax Γ N f83 (.q [[none],[none]] (D.ff [D.str r.1,D.bool r.2])) [1,1,1,1] ⟨[],[]⟩)(hm1:aD.length<=maxLen):∀(rest:aT) (i1:Nat),aD.drop i1=rest->me aD aY k1 rest i1=some r->Ar Γ N f83 (.q [[none],[none]] (D.ff [D.str r.1,D.bool r.2])) [1,1,1,0,1,0] (rest.length+1) (KH aD aY (i1:Int)):=by
 intro rest
 induction rest with
 |nil=>
  intro i1 b8 h;rw[me]at h;refine aU fun N1 cW cK=>?_
  exact((aW.ge aV.c b8).a [.hl 0 [] []]).ex hΓ cW (dX h)
 |cons bS cT ih1=>
  intro i1 b8 h;rw[me]at h;refine aU fun N1 cW cK=>?_
  have fE:=((aW.lt aV.c b8).l (bG aV.c 2 (dc b8) rfl))
  obtain⟨h19,h⟩|⟨h19,h⟩:=aL h
  ·cases h;exact(fE.b h19).ret hΓ
  ·exact((fE.b h19).a [.cn [1,14,15,16] []]).ct hΓ cK (iS b8 hm1) (ih1 (i1+1) (dn b8) h)
theorem sW{aD:aT}{aY:Bytes}{r:Bytes×Bool}(h:oo aD aY=some r):Good prog 83 [D.sl (aD.map aV.c),D.str aY] (D.ff [D.str r.1,D.bool r.2]):=by
 refine gd func83 [[none],[none]] 27 fun hr Γ hΓ=>?_
 rw[oo]at h;obtain⟨y1,h2,h⟩:=aB h;obtain⟨h3,h⟩|⟨h3,h⟩:=aL h
 ·cases h;exact((aW.g (fJ h2)).b h3).ret hΓ
 ·obtain⟨y4,h5,h⟩:=aB h;have ij:=(((aW.g (fJ h2)).b h3).g (pH h5))
  obtain⟨h6,h⟩|⟨h6,h⟩:=aL h
  ·cases h;exact(ij.b h6).ret hΓ
  ·refine((ij.b h6).a [.cn [1,14,15,16] []]).lp hΓ (J6 hΓ (fun h=>?_) (by have:=(gb.sl (hr _ (aE (i:=0) rfl))).1;simpa using this) aD 0 rfl h);cases h;exact aW.ret hΓ
def lS(aD:aT)(aY:Bytes)(cX:Bytes)(k1:Bool->aT->Option (aT×Bool)):aT->Nat->Bool->aT->Option (aT×Bool)
 | [],i1,zv,bP=>(k1 zv bP)
 |bS::cT,i1,zv,bP=>(bif !(zv)then(bif !(Op.bytesLess bS.var aY||(bS.var:Bytes)==aY)then(bif room ((bP.map aV.c).length+([[D.str aY,D.str cX]]).length) 32 then(bif room (((bP.map aV.c)++([[D.str aY,D.str cX]])).length+([[D.str bS.var,D.str bS.value]]).length) 32 then(lS aD aY cX k1 cT (i1+1) true ((bP++([(⟨aY,cX⟩:aV)]))++([bS])))else none)else none)else(bif room ((bP.map aV.c).length+([[D.str bS.var,D.str bS.value]]).length) 32 then(lS aD aY cX k1 cT (i1+1) zv (bP++([bS])))else none))else(bif room ((bP.map aV.c).length+([[D.str bS.var,D.str bS.value]]).length) 32 then(lS aD aY cX k1 cT (i1+1) zv (bP++([bS])))else none))
def sE(aD:aT)(aY:Bytes)(cX:Bytes):Option (aT×Bool):=((lU aD).bind fun y1=>(bif !(y1)then(some ([],false))else((mZ aY).bind fun y4=>(bif !(y4)then(some ([],false))else((gC cX).bind fun y7=>(bif !(y7)then(some ([],false))else((oo aD aY).bind fun FY=>(bif FY.2 then(bif !((FY.1:Bytes)==cX)then(some ([],false))else((jd aD).bind fun yW=>(some (yW,true))))else(bif decide ((((aD.map aV.c).length:Int):Int)>=6)then(some ([],false))else(lS aD aY cX (fun(Tm:Bool) (cC:aT)=>(bif !(Tm)then(bif room ((cC.map aV.c).length+([[D.str aY,D.str cX]]).length) 32 then(some (cC++([(⟨aY,cX⟩:aV)]),true))else none)else(some (cC,true)))) aD 0 false ([]:aT)))))))))))
def vp(aD:aT)(aY:Bytes)(cX:Bytes)(zv:Bool)(W1:List aQ)(dG:Int):St:=⟨[(1,D.str aY),(2,D.str cX),(10,D.acc 0),(11,D.bool zv),(42,D.sl (aD.map aV.c)),(43,D.int .i64 ((aD.map aV.c).length:Int)),(44,D.int .i64 dG)],[Ob.row .uq 113 2 W1]⟩
theorem K8(hΓ:Γ.nt=76){aD:aT}{aY:Bytes}{cX:Bytes}{r:aT×Bool}{k1:Bool->aT->Option (aT×Bool)}(dX:∀(Tm:Bool) (cC:aT),k1 Tm cC=some r->Ax Γ N f84 (.q [[some (113,2)],[none]] (D.ff [D.fr 113 2 (r.1.map aV.c),D.bool r.2])) [1,1,1,1,1,1,1] ⟨[(1,D.str aY),(2,D.str cX),(10,D.acc 0),(11,D.bool Tm)],[Ob.row .uq 113 2 (cC.map aV.c)]⟩)(hm1:aD.length<=maxLen):∀(rest:aT) (i1:Nat) (zv:Bool) (bP:aT),aD.drop i1=rest->lS aD aY cX k1 rest i1 zv bP=some r->Ar Γ N f84 (.q [[some (113,2)],[none]] (D.ff [D.fr 113 2 (r.1.map aV.c),D.bool r.2])) [1,1,1,1,1,1,0,1,0] (rest.length+1) (vp aD aY cX zv (bP.map aV.c) (i1:Int)):=by
 intro rest
 induction rest with
 |nil=>
  intro i1 zv bP b8 h;rw[lS]at h;refine aU fun N1 cW cK=>?_
  exact((aW.ge aV.c b8).a [.hl 0 [1,2,10,11] [0]]).ex hΓ cW (dX zv bP h)
 |cons bS cT ih1=>
  intro i1 zv bP b8 h;rw[lS]at h;refine aU fun N1 cW cK=>?_
  have ij:=((aW.lt aV.c b8).l (bG aV.c 2 (dc b8) rfl))
  obtain⟨h58,h⟩|⟨h58,h⟩:=aL h
  ·have jO:=(ij.r 5 h58)
   obtain⟨h59,h⟩|⟨h59,h⟩:=aL h
   ·obtain⟨h60,h⟩:=bQ h;obtain⟨h61,h⟩:=bQ h;exact((((jO.b h59).w (bX h60)).w (bX h61)).a [.cn [1,2,10,11,42,43,44] [5]]).cs hΓ cK (vp aD aY cX true (((bP.map aV.c)++([[D.str aY,D.str cX]]))++([[D.str bS.var,D.str bS.value]])) (IntKind.i64.wrap ((i1:Int)+1))) (by first| (simp only[iS b8 hm1,mA]<;>rfl)| (simp only[iS b8 hm1,mA,aC.c,aV.c,aP.c,Action.c,aK.c,aO.c,bM.c,aX.c,Node.c,aG.c,dL.c]<;>rfl)) (ih1 (i1+1) true ((bP++([(⟨aY,cX⟩:aV)]))++([bS])) (dn b8) h)
   ·obtain⟨h62,h⟩:=bQ h;exact(((jO.b h59).w (bX h62)).a [.cn [1,2,10,11,42,43,44] [3]]).cs hΓ cK (vp aD aY cX zv ((bP.map aV.c)++([[D.str bS.var,D.str bS.value]])) (IntKind.i64.wrap ((i1:Int)+1))) (by first| (simp only[iS b8 hm1,mA]<;>rfl)| (simp only[iS b8 hm1,mA,aC.c,aV.c,aP.c,Action.c,aK.c,aO.c,bM.c,aX.c,Node.c,aG.c,dL.c]<;>rfl)) (ih1 (i1+1) zv (bP++([bS])) (dn b8) h)
  ·obtain⟨h63,h⟩:=bQ h;exact((((ij.r 5 h58).F 1).w (bX h63)).a [.cn [1,2,10,11,42,43,44] [3]]).cs hΓ cK (vp aD aY cX zv ((bP.map aV.c)++([[D.str bS.var,D.str bS.value]])) (IntKind.i64.wrap ((i1:Int)+1))) (by first| (simp only[iS b8 hm1,mA]<;>rfl)| (simp only[iS b8 hm1,mA,aC.c,aV.c,aP.c,Action.c,aK.c,aO.c,bM.c,aX.c,Node.c,aG.c,dL.c]<;>rfl)) (ih1 (i1+1) zv (bP++([bS])) (dn b8) h)
theorem BM{aD:aT}{aY:Bytes}{cX:Bytes}{r:aT×Bool}(h:sE aD aY cX=some r):Good prog 84 [D.sl (aD.map aV.c),D.str aY,D.str cX] (D.ff [D.fr 113 2 (r.1.map aV.c),D.bool r.2]):=by
 refine gd func84 [[some (113,2)],[none]] 76 fun hr Γ hΓ=>?_
 rw[sE]at h;obtain⟨y1,h2,h⟩:=aB h;obtain⟨h3,h⟩|⟨h3,h⟩:=aL h
 ·cases h;exact(((aW.g (nw h2)).r 4 h3).T 5).ret hΓ
 ·obtain⟨y4,h5,h⟩:=aB h;have tS:=((((aW.g (nw h2)).r 2 h3).g (pH h5)).r 2 h3)
  obtain⟨h6,h⟩|⟨h6,h⟩:=aL h
  ·cases h;exact((tS.r 4 h6).T 1).ret hΓ
  ·obtain⟨y7,h8,h⟩:=aB h;have wK:=(((tS.r 2 h6).g (fJ h8)).r 2 h6)
   obtain⟨h9,h⟩|⟨h9,h⟩:=aL h
   ·cases h;exact(wK.b h9).ret hΓ
   ·obtain⟨FY,h11,h⟩:=aB h;have z7:=((wK.b h9).g (sW h11))
    obtain⟨h12,h⟩|⟨h12,h⟩:=aL h
    ·obtain⟨h13,h⟩|⟨h13,h⟩:=aL h
     ·cases h;exact((z7.b h12).b h13).ret hΓ
     ·obtain⟨yW,h15,h⟩:=aB h;cases h;exact(((z7.b h12).b h13).g (uz h15)).ret hΓ
    ·obtain⟨h16,h⟩|⟨h16,h⟩:=aL h
     ·cases h;exact((z7.b h12).b h16).ret hΓ
     ·refine(((z7.b h12).b h16).a [.LP 10,.cn [1,2,10,11,42,43,44] [0]]).lp hΓ (K8 hΓ (fun Tm cC h=>?_) (by have:=(gb.sl (hr _ (aE (i:=0) rfl))).1;simpa using this) aD 0 false ([]:aT) rfl h);obtain⟨h64,h⟩|⟨h64,h⟩:=aL h
      ·obtain⟨h65,h⟩:=bQ h;cases h;exact((aW.b h64).w (bX h65)).rts hΓ (D.ff [D.fr 113 2 ((cC.map aV.c)++([[D.str aY,D.str cX]])),D.bool true]) (by first|rfl| (simp only[mA]<;>rfl)| (simp only[cB,mA]<;>rfl))
      ·cases h;exact(aW.b h64).ret hΓ
def ju(aD:aC)(aY:aC)(k1:aT->Option (aT×Bool)):aH->Nat->aT->Option (aT×Bool)
 | [],i1,bR=>(k1 bR)
 |bS::cT,i1,bR=>((gC bS).bind fun y80=>(bif y80 then((fy aY.args (i1:Int)).bind fun x83=>(bif !((bS:Bytes)==x83)then(some ([],false))else(ju aD aY k1 cT (i1+1) bR)))else((fy aY.args (i1:Int)).bind fun x86=>((sE bR bS x86).bind fun y88=>(bif !(y88.2)then(some ([],false))else(ju aD aY k1 cT (i1+1) y88.1))))))
def jb(aD:aC)(aY:aC)(cX:aT):Option (aT×Bool):=((jZ aD).bind fun y1=>(bif !(y1)then(some ([],false))else((qH aY).bind fun y4=>(bif !(y4)then(some ([],false))else((lU cX).bind fun y7=>(bif !(y7)then(some ([],false))else(bif !((aD.rel:Bytes)==aY.rel)then(some ([],false))else(bif (((aD.args.map tx).length:Int):Int) != ((aY.args.map tx).length:Int)then(some ([],false))else((jd cX).bind fun Pj=>(ju aD aY (fun(cC:aT)=>(some (cC,true))) aD.args 0 Pj))))))))))
def Hg(aD:aC)(aY:aC)(W0:List aQ)(dG:Int):St:=⟨[(4,D.ptr 0 0),(8,D.acc 1),(45,D.sl (aD.args.map tx)),(46,D.int .i64 ((aD.args.map tx).length:Int)),(47,D.int .i64 dG)],[Ob.box (aC.c aY),Ob.row .uq 113 2 W0]⟩
theorem Fx(hΓ:Γ.nt=77){aD:aC}{aY:aC}{r:aT×Bool}{k1:aT->Option (aT×Bool)}(dX:∀(cC:aT),k1 cC=some r->Ax Γ N f186 (.q [[some (113,2)],[none]] (D.ff [D.fr 113 2 (r.1.map aV.c),D.bool r.2])) [1,1,1,1] ⟨[(8,D.acc 0)],[Ob.row .uq 113 2 (cC.map aV.c)]⟩)(hm1:aD.args.length<=maxLen):∀(rest:aH) (i1:Nat) (bR:aT),aD.args.drop i1=rest->ju aD aY k1 rest i1 bR=some r->Ar Γ N f186 (.q [[some (113,2)],[none]] (D.ff [D.fr 113 2 (r.1.map aV.c),D.bool r.2])) [1,1,1,0,1,0] (rest.length+1) (Hg aD aY (bR.map aV.c) (i1:Int)):=by
 intro rest
 induction rest with
 |nil=>
  intro i1 bR b8 h;rw[ju]at h;refine aU fun N1 cW cK=>?_
  exact((aW.ge tx b8).a [.hl 0 [8] [1]]).ex hΓ cW (dX bR h)
 |cons bS cT ih1=>
  intro i1 bR b8 h;rw[ju]at h;refine aU fun N1 cW cK=>?_
  obtain⟨y80,h81,h⟩:=aB h;have jO:=(((aW.lt tx b8).l (bG tx 1 (dc b8) rfl)).g (fJ h81))
  obtain⟨h82,h⟩|⟨h82,h⟩:=aL h
  ·obtain⟨x83,h84,h⟩:=aB h;have tS:=((jO.b h82).l (fB tx 1 h84 rfl))
   obtain⟨h85,h⟩|⟨h85,h⟩:=aL h
   ·cases h;exact(tS.b h85).ret hΓ
   ·exact((tS.b h85).a [.cn [4,8,45,46,47] [0,1]]).ct hΓ cK (iS b8 hm1) (ih1 (i1+1) bR (dn b8) h)
  ·obtain⟨x86,h87,h⟩:=aB h;obtain⟨y88,h89,h⟩:=aB h;have wK:=(((jO.b h82).l (fB tx 1 h87 rfl)).g (BM h89))
   obtain⟨h90,h⟩|⟨h90,h⟩:=aL h
   ·cases h;exact(wK.b h90).ret hΓ
   ·exact((wK.b h90).a [.cn [4,8,45,46,47] [0,2]]).ct hΓ cK (iS b8 hm1) (ih1 (i1+1) y88.1 (dn b8) h)
theorem ql{aD:aC}{aY:aC}{cX:aT}{r:aT×Bool}(h:jb aD aY cX=some r):Good prog 186 [D.agg (aC.c aD),D.agg (aC.c aY),D.sl (cX.map aV.c)] (D.ff [D.fr 113 2 (r.1.map aV.c),D.bool r.2]):=by
 refine gd func186 [[some (113,2)],[none]] 77 fun hr Γ hΓ=>?_
 rw[jb]at h;obtain⟨y1,h2,h⟩:=aB h;obtain⟨h3,h⟩|⟨h3,h⟩:=aL h
 ·cases h;exact(((aW.g (kP h2)).r 4 h3).T 19).ret hΓ
 ·obtain⟨y4,h5,h⟩:=aB h;have z7:=((((aW.g (kP h2)).r 2 h3).g (xG h5)).r 2 h3)
  obtain⟨h6,h⟩|⟨h6,h⟩:=aL h
  ·cases h;exact((z7.r 4 h6).T 15).ret hΓ
  ·obtain⟨y7,h8,h⟩:=aB h;have DY:=(((z7.r 2 h6).g (nw h8)).r 2 h6)
   obtain⟨h9,h⟩|⟨h9,h⟩:=aL h
   ·cases h;exact((DY.r 6 h9).T 9).ret hΓ
   ·have LL:=(DY.r 6 h9)
    obtain⟨h10,h⟩|⟨h10,h⟩:=aL h
    ·cases h;exact((LL.r 8 h10).T 1).ret hΓ
    ·have Bp:=(LL.r 8 h10)
     obtain⟨h11,h⟩|⟨h11,h⟩:=aL h
     ·cases h;exact(Bp.b h11).ret hΓ
     ·obtain⟨Pj,h13,h⟩:=aB h;refine(((Bp.b h11).g (uz h13)).a [.cn [4,8,45,46,47] [1,2]]).lp hΓ (Fx hΓ (fun cC h=>?_) (by have:=(gb.sl (gb.agg (hr _ (aE (i:=0) rfl)) (.sl (aD.args.map tx)) (by simp))).1;simpa using this) aD.args 0 Pj rfl h);cases h;exact aW.ret hΓ
def gU(aD:aC)(aY:aT)(cX:aI)(k1:aI->Option aI):aI->Nat->aI->Option aI
 | [],i1,bR=>(k1 bR)
 |bS::cT,i1,bR=>((jb aD bS aY).bind fun Qc=>(bif Qc.2 then((eR bS).bind fun B4=>(bif room ((bR.map aC.c).length+([[D.str B4.rel,D.sl (B4.args.map tx)]]).length) 40 then(gU aD aY cX k1 cT (i1+1) (bR++([B4])))else none))else(gU aD aY cX k1 cT (i1+1) bR)))
def j6(aD:aC)(aY:aT)(cX:aI):Option aI:=(gU aD aY cX (fun(cC:aI)=>(some cC)) cX 0 ([]:aI))
def xV(aD:aC)(aY:aT)(cX:aI)(W0:List aQ)(dG:Int):St:=⟨[(1,D.sl (aY.map aV.c)),(3,D.ptr 0 0),(7,D.acc 1),(12,D.sl (cX.map aC.c)),(13,D.int .i64 ((cX.map aC.c).length:Int)),(14,D.int .i64 dG)],[Ob.box (aC.c aD),Ob.row .uq 43 2 W0]⟩
theorem CU(hΓ:Γ.nt=33){aD:aC}{aY:aT}{cX:aI}{r:aI}{k1:aI->Option aI}(dX:∀(cC:aI),k1 cC=some r->Ax Γ N f178 (.q [[some (43,2)]] (D.fr 43 2 (r.map aC.c))) [1,1,1] ⟨[(7,D.acc 0)],[Ob.row .uq 43 2 (cC.map aC.c)]⟩)(hm1:cX.length<=maxLen):∀(rest:aI) (i1:Nat) (bR:aI),cX.drop i1=rest->gU aD aY cX k1 rest i1 bR=some r->Ar Γ N f178 (.q [[some (43,2)]] (D.fr 43 2 (r.map aC.c))) [1,1,0,1,0] (rest.length+1) (xV aD aY cX (bR.map aC.c) (i1:Int)):=by
 intro rest
 induction rest with
 |nil=>
  intro i1 bR b8 h;rw[gU]at h;refine aU fun N1 cW cK=>?_
  exact((aW.ge aC.c b8).a [.hl 0 [7] [1]]).ex hΓ cW (dX bR h)
 |cons bS cT ih1=>
  intro i1 bR b8 h;rw[gU]at h;refine aU fun N1 cW cK=>?_
  obtain⟨Qc,h43,h⟩:=aB h;have fE:=(((aW.lt aC.c b8).l (bG aC.c 2 (dc b8) rfl)).g (ql h43))
  obtain⟨h44,h⟩|⟨h44,h⟩:=aL h
  ·obtain⟨B4,h46,h⟩:=aB h;obtain⟨h47,h⟩:=bQ h;exact((((fE.b h44).g (gw h46)).w (bX h47)).a [.cn [1,3,7,12,13,14] [0,6]]).cs hΓ cK (xV aD aY cX ((bR.map aC.c)++([[D.str B4.rel,D.sl (B4.args.map tx)]])) (IntKind.i64.wrap ((i1:Int)+1))) (by first| (simp only[iS b8 hm1,mA]<;>rfl)| (simp only[iS b8 hm1,mA,aC.c,aV.c,aP.c,Action.c,aK.c,aO.c,bM.c,aX.c,Node.c,aG.c,dL.c]<;>rfl)) (ih1 (i1+1) (bR++([B4])) (dn b8) h)
  ·exact((fE.b h44).a [.cn [1,3,7,12,13,14] [0,1]]).ct hΓ cK (iS b8 hm1) (ih1 (i1+1) bR (dn b8) h)
theorem nq{aD:aC}{aY:aT}{cX:aI}{r:aI}(h:j6 aD aY cX=some r):Good prog 178 [D.agg (aC.c aD),D.sl (aY.map aV.c),D.sl (cX.map aC.c)] (D.fr 43 2 (r.map aC.c)):=by
 refine gd func178 [[some (43,2)]] 33 fun hr Γ hΓ=>?_
 rw[j6]at h;refine(aW.a [.LP 7,.cn [1,3,7,12,13,14] [0,1]]).lp hΓ (CU hΓ (fun cC h=>?_) (by have:=(gb.sl (hr _ (aE (i:=2) rfl))).1;simpa using this) cX 0 ([]:aI) rfl h);have h:=aN h;subst h;exact aW.ret hΓ
def o8(aD:aG)(k1:bH->Option ar):Nat->Int->bH->Option ar
 |0,_,_=>none
 |n1+1,xj,bR=>(bif room ((bR.map gm).length+([[D.int .i64 xj]]).length) 8 then((fy aD.nodes xj).bind fun x19=>(bif decide ((x19.parent:Int)<1)then(k1 (bR++([xj])))else(bif decide ((x19.parent:Int)>=xj)then(k1 (bR++([xj])))else(o8 aD k1 n1 x19.parent (bR++([xj]))))))else none)
def lV(aD:aG)(jo:bH)(k2:ar->Option ar):Nat->Int->ar->Option ar
 |0,_,_=>none
 |n2+1,NY,PI=>(bif decide ((NY:Int)>=0)then((fy jo NY).bind fun x72=>((fy aD.nodes x72).bind fun x74=>((fc x74.cond).bind fun Xw=>(bif room ((PI.map aP.c).length+([[D.int .i64 Xw.kind,D.str Xw.pat.rel,D.sl (Xw.pat.args.map tx),D.str Xw.left,D.str Xw.right]]).length) 80 then(lV aD jo k2 n2 (IntKind.i64.wrap (NY-1)) (PI++([Xw])))else none))))else(k2 PI))
def wh(aD:aG)(aY:Int):Option ar:=(bif decide ((aY:Int)<1)then(some ([]))else(bif decide ((aY:Int)>=((aD.nodes.map Node.c).length:Int))then(some ([]))else(o8 aD (fun(jo:bH)=>(lV aD jo (fun(NW:ar)=>(some NW)) fuel (IntKind.i64.wrap (((jo.map gm).length:Int)-1)) ([]:ar))) fuel aY ([]:bH))))
def D2(aD:aG)(xj:Int)(W1:List aQ):St:=⟨[(1,D.int .i64 xj),(2,D.ptr 0 0),(5,D.acc 1)],[Ob.box (aG.c aD),Ob.row .uq 3 1 W1]⟩
theorem KF(hΓ:Γ.nt=57){aD:aG}{r:ar}{k1:bH->Option ar}(dX:∀(jo:bH),k1 jo=some r->Ax Γ N f179 (.q [[some (71,5)]] (D.fr 71 5 (r.map aP.c))) [1,1,1,1] ⟨[(2,D.ptr 0 0),(5,D.acc 1)],[Ob.box (aG.c aD),Ob.row .uq 3 1 (jo.map gm)]⟩):∀(n1:Nat) (xj:Int) (bR:bH),o8 aD k1 n1 xj bR=some r->Ar Γ N f179 (.q [[some (71,5)]] (D.fr 71 5 (r.map aP.c))) [1,1,1,0,0] n1 (D2 aD xj (bR.map gm)):=by
 intro n
 induction n with
 |zero=>intro xj bR h;simp[o8]at h
 |succ n1 ih1=>
  intro xj bR h;rw[o8]at h;refine aU fun N1 cW cK=>?_
  obtain⟨h18,h⟩:=bQ h;obtain⟨x19,h20,h⟩:=aB h;have ij:=((aW.w (bX h18)).l (fB Node.c 8 h20 rfl))
  obtain⟨h21,h⟩|⟨h21,h⟩:=aL h
  ·exact(((ij.r 4 h21).T 1).a [.hl 0 [2,5] [0,3]]).exs hΓ cW ⟨[(2,D.ptr 0 0),(5,D.acc 1)],[Ob.box (aG.c aD),Ob.row .uq 3 1 ((bR.map gm)++([[D.int .i64 xj]]))]⟩ (by first| (simp only[mA]<;>rfl)| (simp only[mA,aC.c,aV.c,aP.c,Action.c,aK.c,aO.c,bM.c,aX.c,Node.c,aG.c,dL.c]<;>rfl)) (dX (bR++([xj])) h)
  ·have jO:=(ij.r 4 h21)
   obtain⟨h22,h⟩|⟨h22,h⟩:=aL h
   ·exact((jO.b h22).a [.hl 0 [2,5] [0,3]]).exs hΓ cW ⟨[(2,D.ptr 0 0),(5,D.acc 1)],[Ob.box (aG.c aD),Ob.row .uq 3 1 ((bR.map gm)++([[D.int .i64 xj]]))]⟩ (by first| (simp only[mA]<;>rfl)| (simp only[mA,aC.c,aV.c,aP.c,Action.c,aK.c,aO.c,bM.c,aX.c,Node.c,aG.c,dL.c]<;>rfl)) (dX (bR++([xj])) h)
   ·exact((jO.b h22).a [.cn [1,2,5] [0,3]]).cs hΓ cK (D2 aD x19.parent ((bR.map gm)++([[D.int .i64 xj]]))) (by first| (simp only[mA]<;>rfl)| (simp only[mA,aC.c,aV.c,aP.c,Action.c,aK.c,aO.c,bM.c,aX.c,Node.c,aG.c,dL.c]<;>rfl)) (ih1 x19.parent (bR++([xj])) h)
def D3(aD:aG)(jo:bH)(NY:Int)(W1:List aQ):St:=⟨[(2,D.ptr 0 0),(5,D.acc 1),(7,D.acc 2),(8,D.int .i64 NY)],[Ob.box (aG.c aD),Ob.row .uq 3 1 (jo.map gm),Ob.row .uq 71 5 W1]⟩
theorem KG(hΓ:Γ.nt=57){aD:aG}{jo:bH}{r:ar}{k2:ar->Option ar}(zx:∀(NW:ar),k2 NW=some r->Ax Γ N f179 (.q [[some (71,5)]] (D.fr 71 5 (r.map aP.c))) [1,1,1,1,1,1] ⟨[(7,D.acc 0)],[Ob.row .uq 71 5 (NW.map aP.c)]⟩):∀(n2:Nat) (NY:Int) (PI:ar),lV aD jo k2 n2 NY PI=some r->Ar Γ N f179 (.q [[some (71,5)]] (D.fr 71 5 (r.map aP.c))) [1,1,1,1,1,0,1,0] n2 (D3 aD jo NY (PI.map aP.c)):=by
 intro n
 induction n with
 |zero=>intro NY PI h;simp[lV]at h
 |succ n2 ih2=>
  intro NY PI h;rw[lV]at h;refine aU fun N2 vC s6=>?_
  obtain⟨h65,h⟩|⟨h65,h⟩:=aL h
  ·obtain⟨x72,h73,h⟩:=aB h;obtain⟨x74,h75,h⟩:=aB h;obtain⟨Xw,h77,h⟩:=aB h;obtain⟨h78,h⟩:=bQ h;exact((((((((aW.b h65).a [.n2 [0,1,2,3,4,5,6,7,8,9,10,11,12,13] [0,1,2,3,4,5,6,7,8,9,10,11,12,13] 11 12 [0] [3]]).i (ed gm 1 h73)).o 1 1 .uq (cH gm (dN h73))).l (fB Node.c 8 h75 rfl)).g (lY h77)).w (bX h78)).a [.cn [2,5,7,8] [0,1,5]]).cs hΓ s6 (D3 aD jo (IntKind.i64.wrap (NY-1)) ((PI.map aP.c)++([[D.int .i64 Xw.kind,D.str Xw.pat.rel,D.sl (Xw.pat.args.map tx),D.str Xw.left,D.str Xw.right]]))) (by first| (simp only[mA]<;>rfl)| (simp only[mA,aC.c,aV.c,aP.c,Action.c,aK.c,aO.c,bM.c,aX.c,Node.c,aG.c,dL.c]<;>rfl)) (ih2 (IntKind.i64.wrap (NY-1)) (PI++([Xw])) h)
  ·exact((aW.b h65).a [.hl 0 [7] [2]]).ex hΓ vC (zx PI h)
theorem xH{aD:aG}{aY:Int}{r:ar}(h:wh aD aY=some r):Good prog 179 [D.agg (aG.c aD),D.int .i64 aY] (D.fr 71 5 (r.map aP.c)):=by
 refine gd func179 [[some (71,5)]] 57 fun hr Γ hΓ=>?_
 rw[wh]at h;obtain⟨h1,h⟩|⟨h1,h⟩:=aL h
 ·cases h;exact((aW.r 6 h1).T 1).ret hΓ
 ·have tS:=(aW.r 6 h1)
  obtain⟨h2,h⟩|⟨h2,h⟩:=aL h
  ·cases h;exact(tS.b h2).ret hΓ
  ·refine((tS.b h2).a [.LP 5,.cn [1,2,5] [0,1]]).lp hΓ (KF hΓ (fun jo h=>?_) fuel aY ([]:bH) h);refine(aW.a [.LP 7,.cn [2,5,7,8] [0,1,2]]).lp hΓ (KG hΓ (fun NW h=>?_) fuel (IntKind.i64.wrap (((jo.map gm).length:Int)-1)) ([]:ar) h);have h:=aN h;subst h;exact aW.ret hΓ
def wg(aD:aP):Option Bool:=((sF aD).bind fun y1=>(bif y1 then(some (decide ((aD.kind:Int)>=3)))else(some false)))
theorem BN{aD:aP}{r:Bool}(h:wg aD=some r):Good prog 240 [D.agg (aP.c aD)] (D.bool r):=by
 refine gd func240 [[none]] 10 fun hr Γ hΓ=>?_
 rw[wg]at h;obtain⟨y1,h2,h⟩:=aB h;obtain⟨h3,h⟩|⟨h3,h⟩:=aL h
 ·cases h;exact((aW.g (qc h2)).r 4 h3).ret hΓ
 ·have h:=aN h;subst h;exact((aW.g (qc h2)).r 4 h3).ret hΓ
def sv(aD:aP)(aY:aT):Option Bool:=((wg aD).bind fun y1=>(bif !(y1)then(some false)else((lU aY).bind fun y4=>(bif !(y4)then(some false)else((oo aY aD.left).bind fun y7=>((oo aY aD.right).bind fun y9=>(bif !(y7.2)then(some false)else(bif !(y9.2)then(some false)else(bif (aD.kind:Int)==3 then(some ((y7.1:Bytes)==y9.1))else(bif (aD.kind:Int)==4 then(some (!((y7.1:Bytes)==y9.1)))else((nT y7.1).bind fun Jr=>((nT y9.1).bind fun VA=>(bif Jr.2 then(bif VA.2 then(some (decide ((Jr.1:Int)<VA.1)))else(some false))else(some false))))))))))))))
theorem Ev{aD:aP}{aY:aT}{r:Bool}(h:sv aD aY=some r):Good prog 230 [D.agg (aP.c aD),D.sl (aY.map aV.c)] (D.bool r):=by
 refine gd func230 [[none]] 70 fun hr Γ hΓ=>?_
 rw[sv]at h;obtain⟨y1,h2,h⟩:=aB h;obtain⟨h3,h⟩|⟨h3,h⟩:=aL h
 ·have h:=aN h;subst h;exact(((aW.g (BN h2)).r 4 h3).T 1).ret hΓ
 ·obtain⟨y4,h5,h⟩:=aB h;have kX:=((((aW.g (BN h2)).r 2 h3).g (nw h5)).r 2 h3)
  obtain⟨h6,h⟩|⟨h6,h⟩:=aL h
  ·have h:=aN h;subst h;exact(kX.b h6).ret hΓ
  ·obtain⟨y7,h8,h⟩:=aB h;obtain⟨y9,h10,h⟩:=aB h;have fE:=(((kX.b h6).g (sW h8)).g (sW h10))
   obtain⟨h11,h⟩|⟨h11,h⟩:=aL h
   ·have h:=aN h;subst h;exact((fE.r 3 h11).T 1).ret hΓ
   ·have ij:=(fE.r 3 h11)
    obtain⟨h12,h⟩|⟨h12,h⟩:=aL h
    ·have h:=aN h;subst h;exact(ij.b h12).ret hΓ
    ·obtain⟨h13,h⟩|⟨h13,h⟩:=aL h
     ·cases h;exact((ij.b h12).b h13).ret hΓ
     ·have jO:=((ij.b h12).b h13)
      obtain⟨h14,h⟩|⟨h14,h⟩:=aL h
      ·cases h;exact(jO.b h14).ret hΓ
      ·obtain⟨Jr,h16,h⟩:=aB h;obtain⟨VA,h18,h⟩:=aB h;have tS:=(((jO.b h14).g (rP h16)).g (rP h18))
       obtain⟨h19,h⟩|⟨h19,h⟩:=aL h
       ·have wK:=(tS.r 2 h19)
        obtain⟨h20,h⟩|⟨h20,h⟩:=aL h
        ·cases h;exact(wK.r 4 h20).ret hΓ
        ·have h:=aN h;subst h;exact(wK.r 4 h20).ret hΓ
       ·have h:=aN h;subst h;exact((tS.r 2 h19).F 4).ret hΓ
def su(aD:aP)(aY:aT)(cX:aI):Option Bool:=((sF aD).bind fun y1=>(bif !(y1)then(some false)else((lU aY).bind fun y4=>(bif !(y4)then(some false)else(bif (aD.kind:Int)==1 then((j6 aD.pat aY cX).bind fun y8=>(some (decide ((((y8.map aC.c).length:Int):Int)>0))))else(bif (aD.kind:Int)==2 then((j6 aD.pat aY cX).bind fun B3=>(some ((((B3.map aC.c).length:Int):Int)==0)))else((sv aD aY).bind fun wD=>(some wD))))))))
theorem Eu{aD:aP}{aY:aT}{cX:aI}{r:Bool}(h:su aD aY cX=some r):Good prog 215 [D.agg (aP.c aD),D.sl (aY.map aV.c),D.sl (cX.map aC.c)] (D.bool r):=by
 refine gd func215 [[none]] 38 fun hr Γ hΓ=>?_
 rw[su]at h;obtain⟨y1,h2,h⟩:=aB h;obtain⟨h3,h⟩|⟨h3,h⟩:=aL h
 ·have h:=aN h;subst h;exact(((aW.g (qc h2)).r 4 h3).T 1).ret hΓ
 ·obtain⟨y4,h5,h⟩:=aB h;have kX:=((((aW.g (qc h2)).r 2 h3).g (nw h5)).r 2 h3)
  obtain⟨h6,h⟩|⟨h6,h⟩:=aL h
  ·have h:=aN h;subst h;exact(kX.b h6).ret hΓ
  ·obtain⟨h7,h⟩|⟨h7,h⟩:=aL h
   ·obtain⟨y8,h9,h⟩:=aB h;cases h;exact(((kX.b h6).b h7).g (nq h9)).ret hΓ
   ·have fE:=((kX.b h6).b h7)
    obtain⟨h10,h⟩|⟨h10,h⟩:=aL h
    ·obtain⟨B3,h12,h⟩:=aB h;cases h;exact((fE.b h10).g (nq h12)).ret hΓ
    ·obtain⟨wD,h14,h⟩:=aB h;have h:=aN h;subst h;exact((fE.b h10).g (Ev h14)).ret hΓ
def lD(aD:ar)(aY:aI)(i2:Nat)(bP:ai)(js:aO)(i1:Nat)(bS:aP)(k3:ai->Option ai):aI->Nat->ai->Option ai
 | [],i3,AK=>(k3 AK)
 |QZ::PL,i3,AK=>((jb bS.pat QZ js.bind).bind fun Qa=>(bif Qa.2 then((cV js.facts).bind fun Qb=>((eR QZ).bind fun Lg=>(bif room ((Qb.map aC.c).length+([[D.str Lg.rel,D.sl (Lg.args.map tx)]]).length) 40 then(bif room ((AK.map aO.c).length+([[D.sl ((Qb.map aC.c)++([[D.str Lg.rel,D.sl (Lg.args.map tx)]])),D.sl (Qa.1.map aV.c)]]).length) 48 then(lD aD aY i2 bP js i1 bS k3 PL (i3+1) (AK++([(⟨Qb++([Lg]),Qa.1⟩:aO)])))else none)else none)))else(lD aD aY i2 bP js i1 bS k3 PL (i3+1) AK)))
def gE(aD:ar)(aY:aI)(bP:ai)(i1:Nat)(bS:aP)(k2:ai->Option ai):ai->Nat->ai->Option ai
 | [],i2,gH=>(k2 gH)
 |js::ua,i2,gH=>(bif (bS.kind:Int) != 1 then((su bS js.bind aY).bind fun a55=>(bif a55 then(bif room ((gH.map aO.c).length+([[D.sl (js.facts.map aC.c),D.sl (js.bind.map aV.c)]]).length) 48 then(gE aD aY bP i1 bS k2 ua (i2+1) (gH++([js])))else none)else(gE aD aY bP i1 bS k2 ua (i2+1) gH)))else(bif decide (aY.length<=maxLen)then(lD aD aY i2 bP js i1 bS (fun(XW:ai)=>(gE aD aY bP i1 bS k2 ua (i2+1) XW)) aY 0 gH)else none))
def lC(aD:ar)(aY:aI)(k1:ai->Option ai):ar->Nat->ai->Option ai
 | [],i1,bP=>(k1 bP)
 |bS::cT,i1,bP=>(bif decide (bP.length<=maxLen)then(gE aD aY bP i1 bS (fun(NW:ai)=>(lC aD aY k1 cT (i1+1) NW)) bP 0 ([]:ai))else none)
def uP(aD:ar)(aY:aI):Option ai:=(lC aD aY (fun(cC:ai)=>(some cC)) aD 0 ([(⟨[],[]⟩:aO)]))
def BS(aD:ar)(aY:aI)(W0:List aQ)(dG:Int):St:=⟨[(1,D.sl (aY.map aC.c)),(5,D.acc 0),(17,D.sl (aD.map aP.c)),(18,D.int .i64 ((aD.map aP.c).length:Int)),(19,D.int .i64 dG)],[Ob.row .uq 77 2 W0]⟩
def BT(aD:ar)(aY:aI)(bP:ai)(i1:Nat)(bS:aP)(W0:List aQ)(aC3:Nat)(dG:Int):St:=⟨[(1,D.sl (aY.map aC.c)),(7,D.ptr 0 0),(8,D.acc 1),(17,D.sl (aD.map aP.c)),(18,D.int .i64 ((aD.map aP.c).length:Int)),(19,D.int .i64 (i1:Int)),(23,D.acc 2),(24,D.int .i64 ((bP.map aO.c).length:Int)),(25,D.int .i64 dG)],[Ob.box [D.int .i64 bS.kind,D.str bS.pat.rel,D.sl (bS.pat.args.map tx),D.str bS.left,D.str bS.right],Ob.row .uq 77 2 W0,Ob.row (.mv aC3) 77 2 (bP.map aO.c)]⟩
def BU(aD:ar)(aY:aI)(i2:Nat)(bP:ai)(js:aO)(i1:Nat)(bS:aP)(W0:List aQ)(dG:Int):St:=⟨[(1,D.sl (aY.map aC.c)),(7,D.ptr 0 0),(8,D.acc 1),(10,D.ptr 2 0),(17,D.sl (aD.map aP.c)),(18,D.int .i64 ((aD.map aP.c).length:Int)),(19,D.int .i64 (i1:Int)),(23,D.acc 3),(24,D.int .i64 ((bP.map aO.c).length:Int)),(25,D.int .i64 (i2:Int)),(41,D.sl (aY.map aC.c)),(42,D.int .i64 ((aY.map aC.c).length:Int)),(43,D.int .i64 dG)],[Ob.box [D.int .i64 bS.kind,D.str bS.pat.rel,D.sl (bS.pat.args.map tx),D.str bS.left,D.str bS.right],Ob.row .uq 77 2 W0,Ob.box [D.acc 4,D.acc 5],Ob.row (.mv (i2+1)) 77 2 (bP.map aO.c),Ob.tk (js.facts.map aC.c),Ob.tk (js.bind.map aV.c)]⟩
theorem Hy(hΓ:Γ.nt=74){aD:ar}{aY:aI}{i2:Nat}{bP:ai}{js:aO}{i1:Nat}{bS:aP}{r:ai}{k3:ai->Option ai}(Ym:∀(XW:ai),k3 XW=some r->Ax Γ N f175 (.q [[some (77,2)]] (D.fr 77 2 (r.map aO.c))) [1,1,0,1,0,0,1,1,0,0,1,1,0,1,0,0,1,1,1] ⟨[(1,D.sl (aY.map aC.c)),(7,D.ptr 0 0),(8,D.acc 1),(17,D.sl (aD.map aP.c)),(18,D.int .i64 ((aD.map aP.c).length:Int)),(19,D.int .i64 (i1:Int)),(23,D.acc 2),(24,D.int .i64 ((bP.map aO.c).length:Int)),(25,D.int .i64 (i2:Int))],[Ob.box [D.int .i64 bS.kind,D.str bS.pat.rel,D.sl (bS.pat.args.map tx),D.str bS.left,D.str bS.right],Ob.row .uq 77 2 (XW.map aO.c),Ob.row (.mv (i2+1)) 77 2 (bP.map aO.c)]⟩)(Ry:aY.length<=maxLen):∀(rest:aI) (i3:Nat) (AK:ai),aY.drop i3=rest->lD aD aY i2 bP js i1 bS k3 rest i3 AK=some r->Ar Γ N f175 (.q [[some (77,2)]] (D.fr 77 2 (r.map aO.c))) [1,1,0,1,0,0,1,1,0,0,1,1,0,1,0,0,1,1,0,0,1,1,1,0] (rest.length+1) (BU aD aY i2 bP js i1 bS (AK.map aO.c) (i3:Int)):=by
 intro rest
 induction rest with
 |nil=>
  intro i3 AK yO h;rw[lD]at h;refine aU fun N3 Se ON=>?_
  exact((aW.ge aC.c yO).a [.hl 8 [1,7,8,17,18,19,23,24,25] [0,1,3]]).ex hΓ Se (Ym AK h)
 |cons QZ PL ih3=>
  intro i3 AK yO h;rw[lD]at h;refine aU fun N3 Se ON=>?_
  obtain⟨Qa,h3513,h⟩:=aB h;have a8y:=(((aW.lt aC.c yO).l (bG aC.c 2 (dc yO) rfl)).g (ql h3513))
  obtain⟨h3514,h⟩|⟨h3514,h⟩:=aL h
  ·obtain⟨Qb,h3521,h⟩:=aB h;obtain⟨Lg,h3523,h⟩:=aB h;obtain⟨h3524,h⟩:=bQ h;obtain⟨h3525,h⟩:=bQ h;exact(((((((a8y.b h3514).a [.n2 [0,1,2,3,4,5,8,6,7,9,10,11,12] [0,1,2,3,4,5,7,8,6,9,10,11,12] 7 11 [0,6] [7,8,9,10,11]]).g (cg h3521)).g (gw h3523)).w (bX h3524)).w (bX h3525)).a [.cn [1,7,8,10,17,18,19,23,24,25,41,42,43] [0,13,2,3,4,5]]).cs hΓ ON (BU aD aY i2 bP js i1 bS ((AK.map aO.c)++([[D.sl ((Qb.map aC.c)++([[D.str Lg.rel,D.sl (Lg.args.map tx)]])),D.sl (Qa.1.map aV.c)]])) (IntKind.i64.wrap ((i3:Int)+1))) (by first| (simp only[iS yO Ry,mA]<;>rfl)| (simp only[iS yO Ry,mA,aC.c,aV.c,aP.c,Action.c,aK.c,aO.c,bM.c,aX.c,Node.c,aG.c,dL.c]<;>rfl)) (ih3 (i3+1) (AK++([(⟨Qb++([Lg]),Qa.1⟩:aO)])) (dn yO) h)
  ·exact((a8y.b h3514).a [.cn [1,7,8,10,17,18,19,23,24,25,41,42,43] [0,1,2,3,4,5]]).ct hΓ ON (iS yO Ry) (ih3 (i3+1) AK (dn yO) h)
theorem Hx(hΓ:Γ.nt=74){aD:ar}{aY:aI}{bP:ai}{i1:Nat}{bS:aP}{r:ai}{k2:ai->Option ai}(zx:∀(NW:ai),k2 NW=some r->Ax Γ N f175 (.q [[some (77,2)]] (D.fr 77 2 (r.map aO.c))) [1,1,0,1,0,0,1,1,0,0,1,1,1] ⟨[(1,D.sl (aY.map aC.c)),(8,D.acc 0),(17,D.sl (aD.map aP.c)),(18,D.int .i64 ((aD.map aP.c).length:Int)),(19,D.int .i64 (i1:Int))],[Ob.row .uq 77 2 (NW.map aO.c)]⟩)(hm2:bP.length<=maxLen):∀(rest:ai) (i2:Nat) (gH:ai),bP.drop i2=rest->gE aD aY bP i1 bS k2 rest i2 gH=some r->Ar Γ N f175 (.q [[some (77,2)]] (D.fr 77 2 (r.map aO.c))) [1,1,0,1,0,0,1,1,0,0,1,1,0,1,0] (rest.length+1) (BT aD aY bP i1 bS (gH.map aO.c) i2 (i2:Int)):=by
 intro rest
 induction rest with
 |nil=>
  intro i2 gH hd2 h;rw[gE]at h;refine aU fun N2 vC s6=>?_
  exact((aW.ge aO.c hd2).a [.hl 5 [1,8,17,18,19] [1]]).ex hΓ vC (zx gH h)
 |cons js ua ih2=>
  intro i2 gH hd2 h;rw[gE]at h;refine aU fun N2 vC s6=>?_
  have a8z:=((((aW.lt aO.c hd2).i (mL aO.c 2 (dc hd2))).w (show i2=i2/\(bP.map aO.c)[i2]?=some [D.sl (js.facts.map aC.c),D.sl (js.bind.map aV.c)]/\Ro [D.sl (js.facts.map aC.c),D.sl (js.bind.map aV.c)]=true from⟨rfl,cH aO.c (dc hd2),rfl⟩)).a [.tk [D.sl (js.facts.map aC.c),D.sl (js.bind.map aV.c)]])
  obtain⟨h3426,h⟩|⟨h3426,h⟩:=aL h
  ·obtain⟨a55,h3428,h⟩:=aB h;have a90:=((a8z.b h3426).g (Eu h3428))
   obtain⟨h3429,h⟩|⟨h3429,h⟩:=aL h
   ·obtain⟨h3430,h⟩:=bQ h;exact(((a90.b h3429).w (bX h3430)).a [.cn [1,7,8,17,18,19,23,24,25] [0,7,2]]).cs hΓ s6 (BT aD aY bP i1 bS ((gH.map aO.c)++([[D.sl (js.facts.map aC.c),D.sl (js.bind.map aV.c)]])) (i2+1) (IntKind.i64.wrap ((i2:Int)+1))) (by first| (simp only[iS hd2 hm2,mA]<;>rfl)| (simp only[iS hd2 hm2,mA,aC.c,aV.c,aP.c,Action.c,aK.c,aO.c,bM.c,aX.c,Node.c,aG.c,dL.c]<;>rfl)) (ih2 (i2+1) (gH++([js])) (dn hd2) h)
   ·exact((a90.b h3429).a [.cn [1,7,8,17,18,19,23,24,25] [0,1,2]]).ct hΓ s6 (iS hd2 hm2) (ih2 (i2+1) gH (dn hd2) h)
  ·obtain⟨h3526,h⟩:=bQ h;refine((a8z.b h3426).a [.cn [1,7,8,10,17,18,19,23,24,25,41,42,43] [0,1,5,2,3,4]]).lp hΓ (Hy hΓ (fun XW h=>?_) (bV h3526) aY 0 gH rfl h);exact(aW.a [.cn [1,7,8,17,18,19,23,24,25] [0,1,2]]).ct hΓ s6 (iS hd2 hm2) (ih2 (i2+1) XW (dn hd2) h)
theorem Hw(hΓ:Γ.nt=74){aD:ar}{aY:aI}{r:ai}{k1:ai->Option ai}(dX:∀(cC:ai),k1 cC=some r->Ax Γ N f175 (.q [[some (77,2)]] (D.fr 77 2 (r.map aO.c))) [1,1,1] ⟨[(5,D.acc 0)],[Ob.row .uq 77 2 (cC.map aO.c)]⟩)(hm1:aD.length<=maxLen):∀(rest:ar) (i1:Nat) (bP:ai),aD.drop i1=rest->lC aD aY k1 rest i1 bP=some r->Ar Γ N f175 (.q [[some (77,2)]] (D.fr 77 2 (r.map aO.c))) [1,1,0,1,0] (rest.length+1) (BS aD aY (bP.map aO.c) (i1:Int)):=by
 intro rest
 induction rest with
 |nil=>
  intro i1 bP b8 h;rw[lC]at h;refine aU fun N1 cW cK=>?_
  exact((aW.ge aP.c b8).a [.hl 0 [5] [0]]).ex hΓ cW (dX bP h)
 |cons bS cT ih1=>
  intro i1 bP b8 h;rw[lC]at h;refine aU fun N1 cW cK=>?_
  obtain⟨h3527,h⟩:=bQ h;refine(((aW.lt aP.c b8).l (bG aP.c 5 (dc b8) rfl)).a [.LP 8,.mz 0,.cn [1,7,8,17,18,19,23,24,25] [1,2,0]]).lp hΓ (Hx hΓ (fun NW h=>?_) (bV h3527) bP 0 ([]:ai) rfl h);exact(aW.a [.cn [1,5,17,18,19] [0]]).ct hΓ cK (iS b8 hm1) (ih1 (i1+1) NW (dn b8) h)
theorem GD{aD:ar}{aY:aI}{r:ai}(h:uP aD aY=some r):Good prog 175 [D.sl (aD.map aP.c),D.sl (aY.map aC.c)] (D.fr 77 2 (r.map aO.c)):=by
 refine gd func175 [[some (77,2)]] 74 fun hr Γ hΓ=>?_
 rw[uP]at h;refine(aW.a [.cn [1,5,17,18,19] [0]]).lps hΓ (BS aD aY ([[D.sl ([]),D.sl ([])]]) 0) (by first| (simp only[mA]<;>rfl)| (simp only[mA,aC.c,aV.c,aP.c,Action.c,aK.c,aO.c,bM.c,aX.c,Node.c,aG.c,dL.c]<;>rfl)) (Hw hΓ (fun cC h=>?_) (by have:=(gb.sl (hr _ (aE (i:=0) rfl))).1;simpa using this) aD 0 ([(⟨[],[]⟩:aO)]) rfl h);have h:=aN h;subst h;exact aW.ret hΓ
def fU(aD:aG)(aY:aI)(y1:aI)(k1:bK->Option (aG×Unit)):bK->Nat->bK->Option (aG×Unit)
 | [],i1,dK=>(k1 dK)
 |bS::cT,i1,dK=>(bif decide (i1<(dK.map aX.c).length)then(((dK)[i1]?).bind fun x35=>((j6 x35.shape ([]) aY).bind fun PN=>(bif decide (i1<(dK.map aX.c).length)then(fU aD aY y1 k1 cT (i1+1) (dK.set i1 (⟨x35.shape,PN⟩:aX)))else none)))else none)
def eX(aD:aG)(aY:aI)(y1:aI)(dl:bK)(k2:Option (aG×Unit)):bI->Nat->bI->Option (aG×Unit)
 | [],i2,kq=>(some ((⟨aD.rules,aD.ends,dl,kq,y1,aD.br⟩:aG),()))
 |js::ua,i2,kq=>((wh (⟨aD.rules,aD.ends,dl,kq,y1,aD.br⟩:aG) (i2:Int)).bind fun NZ=>((uP NZ aY).bind fun V6=>(bif decide (i2<(kq.map Node.c).length)then(((kq)[i2]?).bind fun x107=>(eX aD aY y1 dl k2 ua (i2+1) (kq.set i2 (⟨x107.parent,x107.cond,x107.cM,V6⟩:Node))))else none)))
def jX(aD:aG)(aY:aI):Option (aG×Unit):=((cV aY).bind fun y1=>(bif decide (aD.az.length<=maxLen)then(fU aD aY y1 (fun(dl:bK)=>(bif decide (aD.nodes.length<=maxLen)then(eX aD aY y1 dl none aD.nodes 0 aD.nodes)else none)) aD.az 0 aD.az)else none))
def wG(iU:Value)(aD:aG)(aY:aI)(y1:aI)(W0:List aQ)(dG:Int):St:=⟨[(0,D.ptr 0 0),(1,D.sl (aY.map aC.c)),(15,D.int .i64 ((aD.az.map aX.c).length:Int)),(16,D.int .i64 dG)],[Ob.Bq [D.acc 1,D.acc 2,D.acc 3,D.acc 4,D.acc 5,D.int .i64 aD.br] iU,Ob.row .uq 63 4 (aD.rules.map aK.c),Ob.row .uq 3 1 (aD.ends.map gm),Ob.row .uq 83 3 W0,Ob.row .uq 74 8 (aD.nodes.map Node.c),Ob.row .uq 43 2 (y1.map aC.c)]⟩
theorem BK(hΓ:Γ.nt=60){iU:Value}{aD:aG}{aY:aI}{y1:aI}{r:aG×Unit}{k1:bK->Option (aG×Unit)}(dX:∀(dl:bK),k1 dl=some r->Ax Γ N f107 (.p [[some (63,4),some (3,1),some (83,3),some (74,8),some (43,2),none]] iU (cB r.1) (D.ff [])) [1,1] ⟨[(0,D.ptr 0 0),(1,D.sl (aY.map aC.c))],[Ob.Bq [D.acc 1,D.acc 2,D.acc 3,D.acc 4,D.acc 5,D.int .i64 aD.br] iU,Ob.row .uq 63 4 (aD.rules.map aK.c),Ob.row .uq 3 1 (aD.ends.map gm),Ob.row .uq 83 3 (dl.map aX.c),Ob.row .uq 74 8 (aD.nodes.map Node.c),Ob.row .uq 43 2 (y1.map aC.c)]⟩)(hm1:aD.az.length<=maxLen):∀(rest:bK) (i1:Nat) (dK:bK),aD.az.drop i1=rest->fU aD aY y1 k1 rest i1 dK=some r->Ar Γ N f107 (.p [[some (63,4),some (3,1),some (83,3),some (74,8),some (43,2),none]] iU (cB r.1) (D.ff [])) [1,0,1,0] (rest.length+1) (wG iU aD aY y1 (dK.map aX.c) (i1:Int)):=by
 intro rest
 induction rest with
 |nil=>
  intro i1 dK b8 h;rw[fU]at h;refine aU fun N1 cW cK=>?_
  exact((aW.ge aX.c b8).a [.hl 0 [0,1] [0,1,2,3,4,5]]).ex hΓ cW (dX dK h)
 |cons bS cT ih1=>
  intro i1 dK b8 h;rw[fU]at h;refine aU fun N1 cW cK=>?_
  obtain⟨h34,h⟩:=bQ h;obtain⟨x35,h36,h⟩:=aB h;obtain⟨PN,h38,h⟩:=aB h;obtain⟨h39,h⟩:=bQ h;exact(((((((((aW.lt aX.c b8).a [.n 15]).i (Ud 3 h34)).o 3 2 .uq (cH aX.c h36)).a [.d (D.fr 43 2 (PN.map aC.c))]).w (show Good prog 178 [D.agg (aC.c x35.shape),D.sl ([]),D.sl (aY.map aC.c)] (D.fr 43 2 (PN.map aC.c))from by first| (simpa only[bD,au,bg,bZ,bh]using nq h38)|exact nq h38)).i (Ud 3 h39)).w (show(dK.map aX.c)[i1]?=some [D.str x35.shape.rel,D.sl (x35.shape.args.map tx),D.sl (x35.facts.map aC.c)]from cH aX.c h36)).a [.row [D.str x35.shape.rel,D.sl (x35.shape.args.map tx),D.sl (x35.facts.map aC.c)],.cn [0,1,15,16] [0,1,2,3,4,5]]).cs hΓ cK (wG iU aD aY y1 ((dK.map aX.c).set i1 [D.str x35.shape.rel,D.sl (x35.shape.args.map tx),D.sl (PN.map aC.c)]) (IntKind.i64.wrap ((i1:Int)+1))) (by first| (simp only[iS b8 hm1,mA]<;>rfl)| (simp only[iS b8 hm1,mA,aC.c,aV.c,aP.c,Action.c,aK.c,aO.c,bM.c,aX.c,Node.c,aG.c,dL.c]<;>rfl)) (ih1 (i1+1) (dK.set i1 (⟨x35.shape,PN⟩:aX)) (dn b8) h)
def wH(iU:Value)(aD:aG)(aY:aI)(y1:aI)(dl:bK)(W0:List aQ)(dG:Int):St:=⟨[(0,D.ptr 0 0),(1,D.sl (aY.map aC.c)),(41,D.int .i64 ((aD.nodes.map Node.c).length:Int)),(42,D.int .i64 dG)],[Ob.Bq [D.acc 1,D.acc 2,D.acc 3,D.acc 4,D.acc 5,D.int .i64 aD.br] iU,Ob.row .uq 63 4 (aD.rules.map aK.c),Ob.row .uq 3 1 (aD.ends.map gm),Ob.row .uq 83 3 (dl.map aX.c),Ob.row .uq 74 8 W0,Ob.row .uq 43 2 (y1.map aC.c)]⟩
theorem BL(hΓ:Γ.nt=60){iU:Value}{aD:aG}{aY:aI}{y1:aI}{dl:bK}{r:aG×Unit}{k2:Option (aG×Unit)}(zx:k2=some r->Ax Γ N f107 (.p [[some (63,4),some (3,1),some (83,3),some (74,8),some (43,2),none]] iU (cB r.1) (D.ff [])) [1,1,1,0,0] ⟨[],[]⟩)(hm2:aD.nodes.length<=maxLen):∀(rest:bI) (i2:Nat) (kq:bI),aD.nodes.drop i2=rest->eX aD aY y1 dl k2 rest i2 kq=some r->Ar Γ N f107 (.p [[some (63,4),some (3,1),some (83,3),some (74,8),some (43,2),none]] iU (cB r.1) (D.ff [])) [1,1,1,0] (rest.length+1) (wH iU aD aY y1 dl (kq.map Node.c) (i2:Int)):=by
 intro rest
 induction rest with
 |nil=>
  intro i2 kq hd2 h;rw[eX]at h;refine aU fun N2 vC s6=>?_
  cases h;exact(aW.ge Node.c hd2).ret hΓ
 |cons js ua ih2=>
  intro i2 kq hd2 h;rw[eX]at h;refine aU fun N2 vC s6=>?_
  obtain⟨NZ,h103,h⟩:=aB h;obtain⟨V6,h105,h⟩:=aB h;obtain⟨h106,h⟩:=bQ h;obtain⟨x107,h108,h⟩:=aB h;exact(((((((aW.lt Node.c hd2).a [.n2 [0,1,2,3,4,5,6,7,8,9,10,11,12,13,14] [0,1,2,3,4,5,6,7,8,9,10,11,12,13,14] 11 12 [0,1,2,3,4] [],.d (D.fr 71 5 (NZ.map aP.c))]).w (show Good prog 179 [D.agg [D.sl (aD.rules.map aK.c),D.sl (aD.ends.map gm),D.sl (dl.map aX.c),D.sl (kq.map Node.c),D.sl (y1.map aC.c),D.int .i64 aD.br],D.int .i64 (i2:Int)] (D.fr 71 5 (NZ.map aP.c))from by first| (simpa only[bD,au,bg,bZ,bh]using xH h103)|exact xH h103| (have t:=xH h103;simp only[bD,bZ,bh,aG.c]at t;exact t))).g (GD h105)).i (Ud 8 h106)).w (show(kq.map Node.c)[i2]?=some [D.int .i64 x107.parent,D.int .i64 x107.cond.kind,D.str x107.cond.pat.rel,D.sl (x107.cond.pat.args.map tx),D.str x107.cond.left,D.str x107.cond.right,D.int .i64 x107.cM,D.sl (x107.tokens.map aO.c)]from cH Node.c h108)).a [.row [D.int .i64 x107.parent,D.int .i64 x107.cond.kind,D.str x107.cond.pat.rel,D.sl (x107.cond.pat.args.map tx),D.str x107.cond.left,D.str x107.cond.right,D.int .i64 x107.cM,D.sl (x107.tokens.map aO.c)],.cn [0,1,41,42] [0,1,2,3,4,5]]).cs hΓ s6 (wH iU aD aY y1 dl ((kq.map Node.c).set i2 [D.int .i64 x107.parent,D.int .i64 x107.cond.kind,D.str x107.cond.pat.rel,D.sl (x107.cond.pat.args.map tx),D.str x107.cond.left,D.str x107.cond.right,D.int .i64 x107.cM,D.sl (V6.map aO.c)]) (IntKind.i64.wrap ((i2:Int)+1))) (by first| (simp only[iS hd2 hm2,mA]<;>rfl)| (simp only[iS hd2 hm2,mA,aC.c,aV.c,aP.c,Action.c,aK.c,aO.c,bM.c,aX.c,Node.c,aG.c,dL.c]<;>rfl)) (ih2 (i2+1) (kq.set i2 (⟨x107.parent,x107.cond,x107.cM,V6⟩:Node)) (dn hd2) h)
theorem vI{aD:aG}{aY:aI}{r:aG×Unit}(h:jX aD aY=some r):iL prog 107 (cB aD) (cB r.1) [D.sl (aY.map aC.c)] (D.ff []):=by
 refine Jt func107 [[some (63,4),some (3,1),some (83,3),some (74,8),some (43,2),none]] 60 [D.acc 1,D.acc 2,D.acc 3,D.acc 4,D.acc 5,D.int .i64 aD.br] [D.sl (aY.map aC.c)] [Ob.row .uq 63 4 (aD.rules.map aK.c),Ob.row .uq 3 1 (aD.ends.map gm),Ob.row .uq 83 3 (aD.az.map aX.c),Ob.row .uq 74 8 (aD.nodes.map Node.c),Ob.row .uq 43 2 (aD.facts.map aC.c)] fun hr iU Γ hΓ=>?_
 rw[jX]at h;obtain⟨y1,h2,h⟩:=aB h;obtain⟨h110,h⟩:=bQ h;refine((aW.g (cg h2)).a [.cn [0,1,15,16] [0,1,2,3,4,6]]).lp hΓ (BK hΓ (fun dl h=>?_) (bV h110) aD.az 0 aD.az rfl h);obtain⟨h109,h⟩:=bQ h;refine(aW.a [.cn [0,1,41,42] [0,1,2,3,4,5]]).lp hΓ (BL hΓ (fun h=>?_) (bV h109) aD.nodes 0 aD.nodes rfl h);cases h
def yC(aD:aq)(aY:aI)(cX:Int):Option aG:=((tF aD).bind fun y1=>((jX y1 aY).bind fun y3=>(some (⟨y3.1.rules,y3.1.ends,y3.1.az,y3.1.nodes,y3.1.facts,cX⟩:aG))))
theorem KI{aD:aq}{aY:aI}{cX:Int}{r:aG}(h:yC aD aY cX=some r):Good prog 53 [D.sl (aD.map aK.c),D.sl (aY.map aC.c),D.int .i64 cX] (D.agg [D.fr 63 4 (r.rules.map aK.c),D.fr 3 1 (r.ends.map gm),D.fr 83 3 (r.az.map aX.c),D.fr 74 8 (r.nodes.map Node.c),D.fr 43 2 (r.facts.map aC.c),D.int .i64 r.br]):=by
 refine gd func53 [[some (63,4),some (3,1),some (83,3),some (74,8),some (43,2),none]] 15 fun hr Γ hΓ=>?_
 rw[yC]at h;obtain⟨y1,h2,h⟩:=aB h;obtain⟨y3,h4,h⟩:=aB h;cases h;exact((aW.g (F8 h2)).hp [[some (63,4),some (3,1),some (83,3),some (74,8),some (43,2),none],[none]] (vI h4)).ret hΓ
def l7(aD:aK)(aY:aK)(k1:Option Bool):ar->Nat->Option Bool
 | [],i1=>(k1)
 |bS::cT,i1=>((fy aY.conds (i1:Int)).bind fun x33=>((kf bS x33).bind fun Cr=>(bif !(Cr)then(some false)else(l7 aD aY k1 cT (i1+1)))))
def j7(aD:aK)(aY:aK)(k2:Option Bool):eW->Nat->Option Bool
 | [],i2=>(k2)
 |js::ua,i2=>((fy aY.cY (i2:Int)).bind fun x70=>(bif (js.kind:Int) != x70.kind then(some false)else((gD js.pat x70.pat).bind fun Bz=>(bif !(Bz)then(some false)else(j7 aD aY k2 ua (i2+1))))))
def r9(aD:aK)(aY:aK):Option Bool:=(bif !((aD.name:Bytes)==aY.name)then(some false)else(bif (aD.prio:Int) != aY.prio then(some false)else(bif (((aD.conds.map aP.c).length:Int):Int) != ((aY.conds.map aP.c).length:Int)then(some false)else(bif (((aD.cY.map Action.c).length:Int):Int) != ((aY.cY.map Action.c).length:Int)then(some false)else(l7 aD aY (j7 aD aY (some true) aD.cY 0) aD.conds 0)))))
def J4(aD:aK)(aY:aK)(dG:Int):St:=⟨[(2,D.ptr 0 0),(3,D.ptr 1 0),(39,D.int .i64 ((aD.conds.map aP.c).length:Int)),(40,D.int .i64 dG)],[Ob.box (aK.c aD),Ob.box (aK.c aY)]⟩
theorem Hi(hΓ:Γ.nt=92){aD:aK}{aY:aK}{r:Bool}{k1:Option Bool}(dX:k1=some r->Ax Γ N f108 (.q [[none]] (D.bool r)) [1,1,1] ⟨[(2,D.ptr 0 0),(3,D.ptr 1 0)],[Ob.box (aK.c aD),Ob.box (aK.c aY)]⟩)(hm1:aD.conds.length<=maxLen):∀(rest:ar) (i1:Nat),aD.conds.drop i1=rest->l7 aD aY k1 rest i1=some r->Ar Γ N f108 (.q [[none]] (D.bool r)) [1,1,0,1,0] (rest.length+1) (J4 aD aY (i1:Int)):=by
 intro rest
 induction rest with
 |nil=>
  intro i1 b8 h;rw[l7]at h;refine aU fun N1 cW cK=>?_
  exact((aW.ge aP.c b8).a [.hl 0 [2,3] [0,1]]).ex hΓ cW (dX h)
 |cons bS cT ih1=>
  intro i1 b8 h;rw[l7]at h;refine aU fun N1 cW cK=>?_
  obtain⟨x33,h34,h⟩:=aB h;obtain⟨Cr,h36,h⟩:=aB h;have jO:=(((((aW.lt aP.c b8).a [.n 10]).l (bG aP.c 5 (dc b8) rfl)).l (fB aP.c 5 h34 rfl)).g (vW h36))
  obtain⟨h37,h⟩|⟨h37,h⟩:=aL h
  ·have h:=aN h;subst h;exact(jO.b h37).ret hΓ
  ·exact((jO.b h37).a [.cn [2,3,39,40] [0,1]]).ct hΓ cK (iS b8 hm1) (ih1 (i1+1) (dn b8) h)
def J5(aD:aK)(aY:aK)(dG:Int):St:=⟨[(2,D.ptr 0 0),(3,D.ptr 1 0),(58,D.int .i64 ((aD.cY.map Action.c).length:Int)),(59,D.int .i64 dG)],[Ob.box (aK.c aD),Ob.box (aK.c aY)]⟩
theorem Hj(hΓ:Γ.nt=92){aD:aK}{aY:aK}{r:Bool}{k2:Option Bool}(zx:k2=some r->Ax Γ N f108 (.q [[none]] (D.bool r)) [1,1,1,1] ⟨[],[]⟩)(hm2:aD.cY.length<=maxLen):∀(rest:eW) (i2:Nat),aD.cY.drop i2=rest->j7 aD aY k2 rest i2=some r->Ar Γ N f108 (.q [[none]] (D.bool r)) [1,1,1,0,1,0] (rest.length+1) (J5 aD aY (i2:Int)):=by
 intro rest
 induction rest with
 |nil=>
  intro i2 hd2 h;rw[j7]at h;refine aU fun N2 vC s6=>?_
  exact((aW.ge Action.c hd2).a [.hl 0 [] []]).ex hΓ vC (zx h)
 |cons js ua ih2=>
  intro i2 hd2 h;rw[j7]at h;refine aU fun N2 vC s6=>?_
  obtain⟨x70,h71,h⟩:=aB h;have tS:=((((aW.lt Action.c hd2).a [.n 26]).l (bG Action.c 3 (dc hd2) rfl)).l (fB Action.c 3 h71 rfl))
  obtain⟨h72,h⟩|⟨h72,h⟩:=aL h
  ·have h:=aN h;subst h;exact((tS.r 15 h72).T 1).ret hΓ
  ·obtain⟨Bz,h74,h⟩:=aB h;have wK:=(((((((tS.r 4 h72).l (bG Action.c 3 (dc hd2) rfl)).r 6 h72).l (fB Action.c 3 h71 rfl)).r 3 h72).g (pK h74)).r 2 h72)
   obtain⟨h75,h⟩|⟨h75,h⟩:=aL h
   ·have h:=aN h;subst h;exact(wK.b h75).ret hΓ
   ·exact((wK.b h75).a [.cn [2,3,58,59] [0,1]]).ct hΓ s6 (iS hd2 hm2) (ih2 (i2+1) (dn hd2) h)
theorem Fz{aD:aK}{aY:aK}{r:Bool}(h:r9 aD aY=some r):Good prog 108 [D.agg (aK.c aD),D.agg (aK.c aY)] (D.bool r):=by
 refine gd func108 [[none]] 92 fun hr Γ hΓ=>?_
 rw[r9]at h;obtain⟨h1,h⟩|⟨h1,h⟩:=aL h
 ·have h:=aN h;subst h;exact((aW.r 6 h1).T 17).ret hΓ
 ·have z7:=(aW.r 6 h1)
  obtain⟨h2,h⟩|⟨h2,h⟩:=aL h
  ·have h:=aN h;subst h;exact((z7.r 8 h2).T 9).ret hΓ
  ·have DY:=(z7.r 8 h2)
   obtain⟨h3,h⟩|⟨h3,h⟩:=aL h
   ·have h:=aN h;subst h;exact((DY.r 8 h3).T 1).ret hΓ
   ·have LL:=(DY.r 8 h3)
    obtain⟨h4,h⟩|⟨h4,h⟩:=aL h
    ·have h:=aN h;subst h;exact(LL.b h4).ret hΓ
    ·refine((LL.b h4).a [.cn [2,3,39,40] [0,1]]).lp hΓ (Hi hΓ (fun h=>?_) (by have:=(gb.sl (gb.agg (hr _ (aE (i:=0) rfl)) (.sl (aD.conds.map aP.c)) (by simp))).1;simpa using this) aD.conds 0 rfl h);refine(aW.a [.cn [2,3,58,59] [0,1]]).lp hΓ (Hj hΓ (fun h=>?_) (by have:=(gb.sl (gb.agg (hr _ (aE (i:=0) rfl)) (.sl (aD.cY.map Action.c)) (by simp))).1;simpa using this) aD.cY 0 rfl h);have h:=aN h;subst h;exact aW.ret hΓ
def nM(aD:aq)(aY:aq)(k1:Option Bool):aq->Nat->Option Bool
 | [],i1=>(k1)
 |bS::cT,i1=>((fy aY (i1:Int)).bind fun x30=>((r9 bS x30).bind fun HF=>(bif !(HF)then(some false)else(nM aD aY k1 cT (i1+1)))))
def tE(aD:aq)(aY:aq):Option Bool:=(bif (((aD.map aK.c).length:Int):Int) != ((aY.map aK.c).length:Int)then(some false)else(nM aD aY (some true) aD 0))
def Ht(aD:aq)(aY:aq)(dG:Int):St:=⟨[(0,D.sl (aD.map aK.c)),(1,D.sl (aY.map aK.c)),(12,D.int .i64 ((aD.map aK.c).length:Int)),(13,D.int .i64 dG)],[]⟩
theorem G8(hΓ:Γ.nt=27){aD:aq}{aY:aq}{r:Bool}{k1:Option Bool}(dX:k1=some r->Ax Γ N f54 (.q [[none]] (D.bool r)) [1,1,1] ⟨[],[]⟩)(hm1:aD.length<=maxLen):∀(rest:aq) (i1:Nat),aD.drop i1=rest->nM aD aY k1 rest i1=some r->Ar Γ N f54 (.q [[none]] (D.bool r)) [1,1,0,1,0] (rest.length+1) (Ht aD aY (i1:Int)):=by
 intro rest
 induction rest with
 |nil=>
  intro i1 b8 h;rw[nM]at h;refine aU fun N1 cW cK=>?_
  exact((aW.ge aK.c b8).a [.hl 0 [] []]).ex hΓ cW (dX h)
 |cons bS cT ih1=>
  intro i1 b8 h;rw[nM]at h;refine aU fun N1 cW cK=>?_
  obtain⟨x30,h31,h⟩:=aB h;obtain⟨HF,h33,h⟩:=aB h;have fE:=(((((aW.lt aK.c b8).a [.n 8]).l (bG aK.c 4 (dc b8) rfl)).l (fB aK.c 4 h31 rfl)).g (Fz h33))
  obtain⟨h34,h⟩|⟨h34,h⟩:=aL h
  ·have h:=aN h;subst h;exact(fE.b h34).ret hΓ
  ·exact((fE.b h34).a [.cn [0,1,12,13] []]).ct hΓ cK (iS b8 hm1) (ih1 (i1+1) (dn b8) h)
theorem yl{aD:aq}{aY:aq}{r:Bool}(h:tE aD aY=some r):Good prog 54 [D.sl (aD.map aK.c),D.sl (aY.map aK.c)] (D.bool r):=by
 refine gd func54 [[none]] 27 fun hr Γ hΓ=>?_
 rw[tE]at h;obtain⟨h1,h⟩|⟨h1,h⟩:=aL h
 ·have h:=aN h;subst h;exact(aW.b h1).ret hΓ
 ·refine((aW.b h1).a [.cn [0,1,12,13] []]).lp hΓ (G8 hΓ (fun h=>?_) (by have:=(gb.sl (hr _ (aE (i:=0) rfl))).1;simpa using this) aD 0 rfl h);have h:=aN h;subst h;exact aW.ret hΓ
def oA(aD:bH)(aY:bH)(k1:Option Bool):bH->Nat->Option Bool
 | [],i1=>(k1)
 |bS::cT,i1=>((fy aY (i1:Int)).bind fun x22=>(bif (bS:Int) != x22 then(some false)else(oA aD aY k1 cT (i1+1))))
def uO(aD:bH)(aY:bH):Option Bool:=(bif (((aD.map gm).length:Int):Int) != ((aY.map gm).length:Int)then(some false)else(oA aD aY (some true) aD 0))
def JD(aD:bH)(aY:bH)(dG:Int):St:=⟨[(0,D.sl (aD.map gm)),(1,D.sl (aY.map gm)),(12,D.int .i64 ((aD.map gm).length:Int)),(13,D.int .i64 dG)],[]⟩
theorem Hr(hΓ:Γ.nt=26){aD:bH}{aY:bH}{r:Bool}{k1:Option Bool}(dX:k1=some r->Ax Γ N f55 (.q [[none]] (D.bool r)) [1,1,1] ⟨[],[]⟩)(hm1:aD.length<=maxLen):∀(rest:bH) (i1:Nat),aD.drop i1=rest->oA aD aY k1 rest i1=some r->Ar Γ N f55 (.q [[none]] (D.bool r)) [1,1,0,1,0] (rest.length+1) (JD aD aY (i1:Int)):=by
 intro rest
 induction rest with
 |nil=>
  intro i1 b8 h;rw[oA]at h;refine aU fun N1 cW cK=>?_
  exact((aW.ge gm b8).a [.hl 0 [] []]).ex hΓ cW (dX h)
 |cons bS cT ih1=>
  intro i1 b8 h;rw[oA]at h;refine aU fun N1 cW cK=>?_
  obtain⟨x22,h23,h⟩:=aB h;have fE:=((((aW.lt gm b8).a [.n 8]).l (bG gm 1 (dc b8) rfl)).l (fB gm 1 h23 rfl))
  obtain⟨h24,h⟩|⟨h24,h⟩:=aL h
  ·have h:=aN h;subst h;exact(fE.b h24).ret hΓ
  ·exact((fE.b h24).a [.cn [0,1,12,13] []]).ct hΓ cK (iS b8 hm1) (ih1 (i1+1) (dn b8) h)
theorem G6{aD:bH}{aY:bH}{r:Bool}(h:uO aD aY=some r):Good prog 55 [D.sl (aD.map gm),D.sl (aY.map gm)] (D.bool r):=by
 refine gd func55 [[none]] 26 fun hr Γ hΓ=>?_
 rw[uO]at h;obtain⟨h1,h⟩|⟨h1,h⟩:=aL h
 ·have h:=aN h;subst h;exact(aW.b h1).ret hΓ
 ·refine((aW.b h1).a [.cn [0,1,12,13] []]).lp hΓ (Hr hΓ (fun h=>?_) (by have:=(gb.sl (hr _ (aE (i:=0) rfl))).1;simpa using this) aD 0 rfl h);have h:=aN h;subst h;exact aW.ret hΓ
def pV(aD:aC)(aY:aC):Option Bool:=(bif (aD.rel:Bytes)==aY.rel then((qV aD.args aY.args).bind fun y2=>(some y2))else(some false))
theorem zZ{aD:aC}{aY:aC}{r:Bool}(h:pV aD aY=some r):Good prog 109 [D.agg (aC.c aD),D.agg (aC.c aY)] (D.bool r):=by
 refine gd func109 [[none]] 17 fun hr Γ hΓ=>?_
 rw[pV]at h;obtain⟨h1,h⟩|⟨h1,h⟩:=aL h
 ·obtain⟨y2,h3,h⟩:=aB h;have h:=aN h;subst h;exact(((aW.r 5 h1).g (ym h3)).b h1).ret hΓ
 ·have h:=aN h;subst h;exact(aW.r 6 h1).ret hΓ
def nI(aD:aI)(aY:aI)(k1:Option Bool):aI->Nat->Option Bool
 | [],i1=>(k1)
 |bS::cT,i1=>((fy aY (i1:Int)).bind fun x30=>((pV bS x30).bind fun HF=>(bif !(HF)then(some false)else(nI aD aY k1 cT (i1+1)))))
def jc(aD:aI)(aY:aI):Option Bool:=(bif (((aD.map aC.c).length:Int):Int) != ((aY.map aC.c).length:Int)then(some false)else(nI aD aY (some true) aD 0))
def Hh(aD:aI)(aY:aI)(dG:Int):St:=⟨[(0,D.sl (aD.map aC.c)),(1,D.sl (aY.map aC.c)),(12,D.int .i64 ((aD.map aC.c).length:Int)),(13,D.int .i64 dG)],[]⟩
theorem Fy(hΓ:Γ.nt=27){aD:aI}{aY:aI}{r:Bool}{k1:Option Bool}(dX:k1=some r->Ax Γ N f56 (.q [[none]] (D.bool r)) [1,1,1] ⟨[],[]⟩)(hm1:aD.length<=maxLen):∀(rest:aI) (i1:Nat),aD.drop i1=rest->nI aD aY k1 rest i1=some r->Ar Γ N f56 (.q [[none]] (D.bool r)) [1,1,0,1,0] (rest.length+1) (Hh aD aY (i1:Int)):=by
 intro rest
 induction rest with
 |nil=>
  intro i1 b8 h;rw[nI]at h;refine aU fun N1 cW cK=>?_
  exact((aW.ge aC.c b8).a [.hl 0 [] []]).ex hΓ cW (dX h)
 |cons bS cT ih1=>
  intro i1 b8 h;rw[nI]at h;refine aU fun N1 cW cK=>?_
  obtain⟨x30,h31,h⟩:=aB h;obtain⟨HF,h33,h⟩:=aB h;have fE:=(((((aW.lt aC.c b8).a [.n 8]).l (bG aC.c 2 (dc b8) rfl)).l (fB aC.c 2 h31 rfl)).g (zZ h33))
  obtain⟨h34,h⟩|⟨h34,h⟩:=aL h
  ·have h:=aN h;subst h;exact(fE.b h34).ret hΓ
  ·exact((fE.b h34).a [.cn [0,1,12,13] []]).ct hΓ cK (iS b8 hm1) (ih1 (i1+1) (dn b8) h)
theorem ux{aD:aI}{aY:aI}{r:Bool}(h:jc aD aY=some r):Good prog 56 [D.sl (aD.map aC.c),D.sl (aY.map aC.c)] (D.bool r):=by
 refine gd func56 [[none]] 27 fun hr Γ hΓ=>?_
 rw[jc]at h;obtain⟨h1,h⟩|⟨h1,h⟩:=aL h
 ·have h:=aN h;subst h;exact(aW.b h1).ret hΓ
 ·refine((aW.b h1).a [.cn [0,1,12,13] []]).lp hΓ (Fy hΓ (fun h=>?_) (by have:=(gb.sl (hr _ (aE (i:=0) rfl))).1;simpa using this) aD 0 rfl h);have h:=aN h;subst h;exact aW.ret hΓ
def jw(aD:aT)(aY:aT)(k1:Option Bool):aT->Nat->Option Bool
 | [],i1=>(k1)
 |bS::cT,i1=>((fy aY (i1:Int)).bind fun x22=>(bif !((bS.var:Bytes)==x22.var&&(bS.value:Bytes)==x22.value)then(some false)else(jw aD aY k1 cT (i1+1))))
def qU(aD:aT)(aY:aT):Option Bool:=(bif (((aD.map aV.c).length:Int):Int) != ((aY.map aV.c).length:Int)then(some false)else(jw aD aY (some true) aD 0))
def Hs(aD:aT)(aY:aT)(dG:Int):St:=⟨[(0,D.sl (aD.map aV.c)),(1,D.sl (aY.map aV.c)),(12,D.int .i64 ((aD.map aV.c).length:Int)),(13,D.int .i64 dG)],[]⟩
theorem G7(hΓ:Γ.nt=26){aD:aT}{aY:aT}{r:Bool}{k1:Option Bool}(dX:k1=some r->Ax Γ N f111 (.q [[none]] (D.bool r)) [1,1,1] ⟨[],[]⟩)(hm1:aD.length<=maxLen):∀(rest:aT) (i1:Nat),aD.drop i1=rest->jw aD aY k1 rest i1=some r->Ar Γ N f111 (.q [[none]] (D.bool r)) [1,1,0,1,0] (rest.length+1) (Hs aD aY (i1:Int)):=by
 intro rest
 induction rest with
 |nil=>
  intro i1 b8 h;rw[jw]at h;refine aU fun N1 cW cK=>?_
  exact((aW.ge aV.c b8).a [.hl 0 [] []]).ex hΓ cW (dX h)
 |cons bS cT ih1=>
  intro i1 b8 h;rw[jw]at h;refine aU fun N1 cW cK=>?_
  obtain⟨x22,h23,h⟩:=aB h;have fE:=((((aW.lt aV.c b8).a [.n 8]).l (bG aV.c 2 (dc b8) rfl)).l (fB aV.c 2 h23 rfl))
  obtain⟨h24,h⟩|⟨h24,h⟩:=aL h
  ·have h:=aN h;subst h;exact(fE.b h24).ret hΓ
  ·exact((fE.b h24).a [.cn [0,1,12,13] []]).ct hΓ cK (iS b8 hm1) (ih1 (i1+1) (dn b8) h)
theorem F6{aD:aT}{aY:aT}{r:Bool}(h:qU aD aY=some r):Good prog 111 [D.sl (aD.map aV.c),D.sl (aY.map aV.c)] (D.bool r):=by
 refine gd func111 [[none]] 26 fun hr Γ hΓ=>?_
 rw[qU]at h;obtain⟨h1,h⟩|⟨h1,h⟩:=aL h
 ·have h:=aN h;subst h;exact(aW.b h1).ret hΓ
 ·refine((aW.b h1).a [.cn [0,1,12,13] []]).lp hΓ (G7 hΓ (fun h=>?_) (by have:=(gb.sl (hr _ (aE (i:=0) rfl))).1;simpa using this) aD 0 rfl h);have h:=aN h;subst h;exact aW.ret hΓ
def jB(aD:ai)(aY:ai)(k1:Option Bool):ai->Nat->Option Bool
 | [],i1=>(k1)
 |bS::cT,i1=>((fy aY (i1:Int)).bind fun x42=>((jc bS.facts x42.facts).bind fun Y6=>(bif !(Y6)then(some false)else((qU bS.bind x42.bind).bind fun Xt=>(bif !(Xt)then(some false)else(jB aD aY k1 cT (i1+1)))))))
def pN(aD:ai)(aY:ai):Option Bool:=(bif (((aD.map aO.c).length:Int):Int) != ((aY.map aO.c).length:Int)then(some false)else(jB aD aY (some true) aD 0))
def GA(aD:ai)(aY:ai)(dG:Int):St:=⟨[(0,D.sl (aD.map aO.c)),(1,D.sl (aY.map aO.c)),(12,D.int .i64 ((aD.map aO.c).length:Int)),(13,D.int .i64 dG)],[]⟩
theorem F7(hΓ:Γ.nt=43){aD:ai}{aY:ai}{r:Bool}{k1:Option Bool}(dX:k1=some r->Ax Γ N f59 (.q [[none]] (D.bool r)) [1,1,1] ⟨[],[]⟩)(hm1:aD.length<=maxLen):∀(rest:ai) (i1:Nat),aD.drop i1=rest->jB aD aY k1 rest i1=some r->Ar Γ N f59 (.q [[none]] (D.bool r)) [1,1,0,1,0] (rest.length+1) (GA aD aY (i1:Int)):=by
 intro rest
 induction rest with
 |nil=>
  intro i1 b8 h;rw[jB]at h;refine aU fun N1 cW cK=>?_
  exact((aW.ge aO.c b8).a [.hl 0 [] []]).ex hΓ cW (dX h)
 |cons bS cT ih1=>
  intro i1 b8 h;rw[jB]at h;refine aU fun N1 cW cK=>?_
  obtain⟨x42,h43,h⟩:=aB h;obtain⟨Y6,h45,h⟩:=aB h;have ij:=(((((aW.lt aO.c b8).a [.n 23]).l (bG aO.c 2 (dc b8) rfl)).l (fB aO.c 2 h43 rfl)).g (ux h45))
  obtain⟨h46,h⟩|⟨h46,h⟩:=aL h
  ·have h:=aN h;subst h;exact((ij.r 13 h46).T 1).ret hΓ
  ·obtain⟨Xt,h48,h⟩:=aB h;have jO:=(((((((ij.r 3 h46).l (bG aO.c 2 (dc b8) rfl)).r 5 h46).l (fB aO.c 2 h43 rfl)).r 3 h46).g (F6 h48)).r 2 h46)
   obtain⟨h49,h⟩|⟨h49,h⟩:=aL h
   ·have h:=aN h;subst h;exact(jO.b h49).ret hΓ
   ·exact((jO.b h49).a [.cn [0,1,12,13] []]).ct hΓ cK (iS b8 hm1) (ih1 (i1+1) (dn b8) h)
theorem EC{aD:ai}{aY:ai}{r:Bool}(h:pN aD aY=some r):Good prog 59 [D.sl (aD.map aO.c),D.sl (aY.map aO.c)] (D.bool r):=by
 refine gd func59 [[none]] 43 fun hr Γ hΓ=>?_
 rw[pN]at h;obtain⟨h1,h⟩|⟨h1,h⟩:=aL h
 ·have h:=aN h;subst h;exact(aW.b h1).ret hΓ
 ·refine((aW.b h1).a [.cn [0,1,12,13] []]).lp hΓ (F7 hΓ (fun h=>?_) (by have:=(gb.sl (hr _ (aE (i:=0) rfl))).1;simpa using this) aD 0 rfl h);have h:=aN h;subst h;exact aW.ret hΓ
def gz(aD:aG)(aY:aG)(k1:Option Bool):bK->Nat->Option Bool
 | [],i1=>(k1)
 |bS::cT,i1=>((fy aY.az (i1:Int)).bind fun x52=>((gD bS.shape x52.shape).bind fun Lh=>(bif !(Lh)then(some false)else((jc bS.facts x52.facts).bind fun y57=>(bif !(y57)then(some false)else(gz aD aY k1 cT (i1+1)))))))
def hG(aD:aG)(aY:aG)(k2:Option Bool):bI->Nat->Option Bool
 | [],i2=>(k2)
 |js::ua,i2=>((fy aY.nodes (i2:Int)).bind fun x108=>(bif (js.parent:Int) != x108.parent then(some false)else(bif (js.cM:Int) != x108.cM then(some false)else((kf js.cond x108.cond).bind fun Ck=>(bif !(Ck)then(some false)else((pN js.tokens x108.tokens).bind fun Mh=>(bif !(Mh)then(some false)else(hG aD aY k2 ua (i2+1)))))))))
def iW(aD:aG)(aY:aG):Option Bool:=((tE aD.rules aY.rules).bind fun y1=>(bif !(y1)then(some false)else((uO aD.ends aY.ends).bind fun y4=>(bif !(y4)then(some false)else((jc aD.facts aY.facts).bind fun y7=>(bif !(y7)then(some false)else(bif (((aD.az.map aX.c).length:Int):Int) != ((aY.az.map aX.c).length:Int)then(some false)else(bif (((aD.nodes.map Node.c).length:Int):Int) != ((aY.nodes.map Node.c).length:Int)then(some false)else(gz aD aY (hG aD aY (some true) aD.nodes 0) aD.az 0)))))))))
def E0(aD:aG)(aY:aG)(dG:Int):St:=⟨[(2,D.ptr 0 0),(3,D.ptr 1 0),(51,D.int .i64 ((aD.az.map aX.c).length:Int)),(52,D.int .i64 dG)],[Ob.box (aG.c aD),Ob.box (aG.c aY)]⟩
theorem D4(hΓ:Γ.nt=131){aD:aG}{aY:aG}{r:Bool}{k1:Option Bool}(dX:k1=some r->Ax Γ N f16 (.q [[none]] (D.bool r)) [1,1,1] ⟨[(2,D.ptr 0 0),(3,D.ptr 1 0)],[Ob.box (aG.c aD),Ob.box (aG.c aY)]⟩)(hm1:aD.az.length<=maxLen):∀(rest:bK) (i1:Nat),aD.az.drop i1=rest->gz aD aY k1 rest i1=some r->Ar Γ N f16 (.q [[none]] (D.bool r)) [1,1,0,1,0] (rest.length+1) (E0 aD aY (i1:Int)):=by
 intro rest
 induction rest with
 |nil=>
  intro i1 b8 h;rw[gz]at h;refine aU fun N1 cW cK=>?_
  exact((aW.ge aX.c b8).a [.hl 0 [2,3] [0,1]]).ex hΓ cW (dX h)
 |cons bS cT ih1=>
  intro i1 b8 h;rw[gz]at h;refine aU fun N1 cW cK=>?_
  obtain⟨x52,h53,h⟩:=aB h;obtain⟨Lh,h55,h⟩:=aB h;have z7:=(((((aW.lt aX.c b8).a [.n 27]).l (bG aX.c 3 (dc b8) rfl)).l (fB aX.c 3 h53 rfl)).g (pK h55))
  obtain⟨h56,h⟩|⟨h56,h⟩:=aL h
  ·have h:=aN h;subst h;exact((z7.r 15 h56).T 1).ret hΓ
  ·obtain⟨y57,h58,h⟩:=aB h;have DY:=(((((((z7.r 4 h56).l (bG aX.c 3 (dc b8) rfl)).r 6 h56).l (fB aX.c 3 h53 rfl)).r 3 h56).g (ux h58)).r 2 h56)
   obtain⟨h59,h⟩|⟨h59,h⟩:=aL h
   ·have h:=aN h;subst h;exact(DY.b h59).ret hΓ
   ·exact((DY.b h59).a [.cn [2,3,51,52] [0,1]]).ct hΓ cK (iS b8 hm1) (ih1 (i1+1) (dn b8) h)
def E1(aD:aG)(aY:aG)(dG:Int):St:=⟨[(2,D.ptr 0 0),(3,D.ptr 1 0),(88,D.int .i64 ((aD.nodes.map Node.c).length:Int)),(89,D.int .i64 dG)],[Ob.box (aG.c aD),Ob.box (aG.c aY)]⟩
theorem D5(hΓ:Γ.nt=131){aD:aG}{aY:aG}{r:Bool}{k2:Option Bool}(zx:k2=some r->Ax Γ N f16 (.q [[none]] (D.bool r)) [1,1,1,1] ⟨[],[]⟩)(hm2:aD.nodes.length<=maxLen):∀(rest:bI) (i2:Nat),aD.nodes.drop i2=rest->hG aD aY k2 rest i2=some r->Ar Γ N f16 (.q [[none]] (D.bool r)) [1,1,1,0,1,0] (rest.length+1) (E1 aD aY (i2:Int)):=by
 intro rest
 induction rest with
 |nil=>
  intro i2 hd2 h;rw[hG]at h;refine aU fun N2 vC s6=>?_
  exact((aW.ge Node.c hd2).a [.hl 0 [] []]).ex hΓ vC (zx h)
 |cons js ua ih2=>
  intro i2 hd2 h;rw[hG]at h;refine aU fun N2 vC s6=>?_
  obtain⟨x108,h109,h⟩:=aB h;have LL:=((((aW.lt Node.c hd2).a [.n 13]).l (bG Node.c 8 (dc hd2) rfl)).l (fB Node.c 8 h109 rfl))
  obtain⟨h110,h⟩|⟨h110,h⟩:=aL h
  ·have h:=aN h;subst h;exact((LL.r 6 h110).T 15).ret hΓ
  ·have Bp:=(LL.r 6 h110)
   obtain⟨h111,h⟩|⟨h111,h⟩:=aL h
   ·have h:=aN h;subst h;exact((Bp.r 7 h111).T 8).ret hΓ
   ·obtain⟨Ck,h113,h⟩:=aB h;have Gz:=(((Bp.r 5 h111).g (vW h113)).r 2 h111)
    obtain⟨h114,h⟩|⟨h114,h⟩:=aL h
    ·have h:=aN h;subst h;exact((Gz.r 7 h114).T 1).ret hΓ
    ·obtain⟨Mh,h116,h⟩:=aB h;have Ao:=(((Gz.r 5 h114).g (EC h116)).r 2 h114)
     obtain⟨h117,h⟩|⟨h117,h⟩:=aL h
     ·have h:=aN h;subst h;exact(Ao.b h117).ret hΓ
     ·exact((Ao.b h117).a [.cn [2,3,88,89] [0,1]]).ct hΓ s6 (iS hd2 hm2) (ih2 (i2+1) (dn hd2) h)
theorem oV{aD:aG}{aY:aG}{r:Bool}(h:iW aD aY=some r):Good prog 16 [D.agg (aG.c aD),D.agg (aG.c aY)] (D.bool r):=by
 refine gd func16 [[none]] 131 fun hr Γ hΓ=>?_
 rw[iW]at h;obtain⟨y1,h2,h⟩:=aB h;obtain⟨h3,h⟩|⟨h3,h⟩:=aL h
 ·have h:=aN h;subst h;exact(((aW.g (yl h2)).r 7 h3).T 24).ret hΓ
 ·obtain⟨y4,h5,h⟩:=aB h;have H6:=((((aW.g (yl h2)).r 5 h3).g (G6 h5)).r 2 h3)
  obtain⟨h6,h⟩|⟨h6,h⟩:=aL h
  ·have h:=aN h;subst h;exact((H6.r 7 h6).T 17).ret hΓ
  ·obtain⟨y7,h8,h⟩:=aB h;have LK:=(((H6.r 5 h6).g (ux h8)).r 2 h6)
   obtain⟨h9,h⟩|⟨h9,h⟩:=aL h
   ·have h:=aN h;subst h;exact((LK.r 8 h9).T 9).ret hΓ
   ·have TD:=(LK.r 8 h9)
    obtain⟨h10,h⟩|⟨h10,h⟩:=aL h
    ·have h:=aN h;subst h;exact((TD.r 8 h10).T 1).ret hΓ
    ·have TE:=(TD.r 8 h10)
     obtain⟨h11,h⟩|⟨h11,h⟩:=aL h
     ·have h:=aN h;subst h;exact(TE.b h11).ret hΓ
     ·refine((TE.b h11).a [.cn [2,3,51,52] [0,1]]).lp hΓ (D4 hΓ (fun h=>?_) (by have:=(gb.sl (gb.agg (hr _ (aE (i:=0) rfl)) (.sl (aD.az.map aX.c)) (by simp))).1;simpa using this) aD.az 0 rfl h);refine(aW.a [.cn [2,3,88,89] [0,1]]).lp hΓ (D5 hΓ (fun h=>?_) (by have:=(gb.sl (gb.agg (hr _ (aE (i:=0) rfl)) (.sl (aD.nodes.map Node.c)) (by simp))).1;simpa using this) aD.nodes 0 rfl h);have h:=aN h;subst h;exact aW.ret hΓ
def gT(aD:aG):Option Bool:=((uJ aD.rules).bind fun y1=>(bif y1 then((pT aD.facts).bind fun y4=>(bif y4 then(bif decide ((aD.br:Int)>=0)then((yC aD.rules aD.facts 0).bind fun y8=>((iW aD y8).bind fun FY=>(some FY)))else(some false))else(some false)))else(some false)))
theorem fO{aD:aG}{r:Bool}(h:gT aD=some r):Good prog 17 [D.agg (aG.c aD)] (D.bool r):=by
 refine gd func17 [[none]] 25 fun hr Γ hΓ=>?_
 rw[gT]at h;obtain⟨y1,h2,h⟩:=aB h;have kX:=((aW.a [.n 20]).g (Fp h2))
 obtain⟨h3,h⟩|⟨h3,h⟩:=aL h
 ·obtain⟨y4,h5,h⟩:=aB h;have fE:=(((kX.r 3 h3).g (rO h5)).b h3)
  obtain⟨h6,h⟩|⟨h6,h⟩:=aL h
  ·have ij:=(fE.r 4 h6)
   obtain⟨h7,h⟩|⟨h7,h⟩:=aL h
   ·obtain⟨y8,h9,h⟩:=aB h;obtain⟨FY,h11,h⟩:=aB h;have h:=aN h;subst h;exact(((((ij.r 6 h7).g (KI h9)).b h7).g (oV h11)).b h7).ret hΓ
   ·have h:=aN h;subst h;exact(ij.r 8 h7).ret hΓ
  ·have h:=aN h;subst h;exact((fE.r 4 h6).F 8).ret hΓ
 ·have h:=aN h;subst h;exact((kX.r 4 h3).F 12).ret hΓ
def gL(aD:aG)(gH:cR)(i2:Nat)(js:aO)(i1:Nat)(bS:aK)(tZ:aT)(x1486:Node)(Bx:aI)(k3:aT->Option cR):aT->Nat->aT->Option cR
 | [],i3,PJ=>(k3 PJ)
 |QZ::PL,i3,PJ=>((oo js.bind QZ.value).bind fun a1K=>(bif a1K.2 then((sE PJ QZ.var a1K.1).bind fun a1L=>(gL aD gH i2 js i1 bS tZ x1486 Bx k3 PL (i3+1) a1L.1))else(gL aD gH i2 js i1 bS tZ x1486 Bx k3 PL (i3+1) PJ)))
def gK(aD:aG)(i1:Nat)(bS:aK)(tZ:aT)(x1486:Node)(k2:cR->Option cR):ai->Nat->cR->Option cR
 | [],i2,gH=>(k2 gH)
 |js::ua,i2,gH=>((cV js.facts).bind fun Bx=>(bif decide (tZ.length<=maxLen)then(gL aD gH i2 js i1 bS tZ x1486 Bx (fun(TN:aT)=>(bif room ((gH.map bM.c).length+([[D.str bS.name,D.sl (Bx.map aC.c),D.sl (TN.map aV.c)]]).length) 64 then(gK aD i1 bS tZ x1486 k2 ua (i2+1) (gH++([(⟨bS.name,Bx,TN⟩:bM)])))else none)) tZ 0 ([]:aT))else none))
def gJ(aD:aG)(k1:cR->Option cR):aq->Nat->cR->Option cR
 | [],i1,bR=>(k1 bR)
 |bS::cT,i1,bR=>((pJ bS).bind fun tZ=>((fy aD.ends (i1:Int)).bind fun x1484=>((fy aD.nodes x1484).bind fun x1486=>(bif decide (x1486.tokens.length<=maxLen)then(gK aD i1 bS tZ x1486 (fun(vN:cR)=>(gJ aD k1 cT (i1+1) vN)) x1486.tokens 0 bR)else none))))
def tj(aD:aG):Option cR:=(gJ aD (fun(cC:cR)=>(some cC)) aD.rules 0 ([]:cR))
def F0(aD:aG)(W0:List aQ)(dG:Int):St:=⟨[(1,D.ptr 0 0),(3,D.acc 1),(15,D.sl (aD.rules.map aK.c)),(16,D.int .i64 ((aD.rules.map aK.c).length:Int)),(17,D.int .i64 dG)],[Ob.box (aG.c aD),Ob.row .uq 57 3 W0]⟩
def yf(aD:aG)(i1:Nat)(bS:aK)(tZ:aT)(x1486:Node)(W0:List aQ)(dG:Int):St:=⟨[(1,D.ptr 0 0),(3,D.acc 1),(5,D.ptr 2 0),(6,D.acc 3),(15,D.sl (aD.rules.map aK.c)),(16,D.int .i64 ((aD.rules.map aK.c).length:Int)),(17,D.int .i64 (i1:Int)),(33,D.sl (x1486.tokens.map aO.c)),(34,D.int .i64 ((x1486.tokens.map aO.c).length:Int)),(35,D.int .i64 dG)],[Ob.box (aG.c aD),Ob.row .uq 57 3 W0,Ob.box [D.str bS.name,D.int .i64 bS.prio,D.sl (bS.conds.map aP.c),D.sl (bS.cY.map Action.c)],Ob.row .uq 113 2 (tZ.map aV.c)]⟩
def F1(aD:aG)(gH:cR)(i2:Nat)(js:aO)(i1:Nat)(bS:aK)(tZ:aT)(x1486:Node)(Bx:aI)(W0:List aQ)(dG:Int):St:=⟨[(1,D.ptr 0 0),(3,D.acc 1),(5,D.ptr 2 0),(6,D.acc 3),(8,D.ptr 4 0),(9,D.ptr 5 0),(15,D.sl (aD.rules.map aK.c)),(16,D.int .i64 ((aD.rules.map aK.c).length:Int)),(17,D.int .i64 (i1:Int)),(33,D.sl (x1486.tokens.map aO.c)),(34,D.int .i64 ((x1486.tokens.map aO.c).length:Int)),(35,D.int .i64 (i2:Int)),(45,D.acc 3),(46,D.int .i64 ((tZ.map aV.c).length:Int)),(47,D.int .i64 dG)],[Ob.box (aG.c aD),Ob.row .uq 57 3 (gH.map bM.c),Ob.box [D.str bS.name,D.int .i64 bS.prio,D.sl (bS.conds.map aP.c),D.sl (bS.cY.map Action.c)],Ob.row .uq 113 2 (tZ.map aV.c),Ob.box [D.sl (js.facts.map aC.c),D.sl (js.bind.map aV.c)],Ob.box [D.str bS.name,D.acc 6,D.acc 7],Ob.row .uq 43 2 (Bx.map aC.c),Ob.row .uq 113 2 W0]⟩
theorem E6(hΓ:Γ.nt=78){aD:aG}{gH:cR}{i2:Nat}{js:aO}{i1:Nat}{bS:aK}{tZ:aT}{x1486:Node}{Bx:aI}{r:cR}{k3:aT->Option cR}(Ym:∀(TN:aT),k3 TN=some r->Ax Γ N f36 (.q [[some (57,3)]] (D.fr 57 3 (r.map bM.c))) [1,1,0,1,0,0,1,1,0,0,1,1,1,0,0,1,1,0,0,1,1,1] ⟨[(1,D.ptr 0 0),(3,D.acc 1),(5,D.ptr 2 0),(6,D.acc 3),(9,D.ptr 4 0),(15,D.sl (aD.rules.map aK.c)),(16,D.int .i64 ((aD.rules.map aK.c).length:Int)),(17,D.int .i64 (i1:Int)),(33,D.sl (x1486.tokens.map aO.c)),(34,D.int .i64 ((x1486.tokens.map aO.c).length:Int)),(35,D.int .i64 (i2:Int))],[Ob.box (aG.c aD),Ob.row .uq 57 3 (gH.map bM.c),Ob.box [D.str bS.name,D.int .i64 bS.prio,D.sl (bS.conds.map aP.c),D.sl (bS.cY.map Action.c)],Ob.row .uq 113 2 (tZ.map aV.c),Ob.box [D.str bS.name,D.acc 5,D.acc 6],Ob.row .uq 43 2 (Bx.map aC.c),Ob.row .uq 113 2 (TN.map aV.c)]⟩)(Ry:tZ.length<=maxLen):∀(rest:aT) (i3:Nat) (PJ:aT),tZ.drop i3=rest->gL aD gH i2 js i1 bS tZ x1486 Bx k3 rest i3 PJ=some r->Ar Γ N f36 (.q [[some (57,3)]] (D.fr 57 3 (r.map bM.c))) [1,1,0,1,0,0,1,1,0,0,1,1,1,0,0,1,1,0,0,1,1,0,1,0] (rest.length+1) (F1 aD gH i2 js i1 bS tZ x1486 Bx (PJ.map aV.c) (i3:Int)):=by
 intro rest
 induction rest with
 |nil=>
  intro i3 PJ yO h;rw[gL]at h;refine aU fun N3 Se ON=>?_
  exact((aW.ge aV.c yO).a [.hl 9 [1,3,5,6,9,15,16,17,33,34,35] [0,1,2,3,5,6,7]]).ex hΓ Se (Ym PJ h)
 |cons QZ PL ih3=>
  intro i3 PJ yO h;rw[gL]at h;refine aU fun N3 Se ON=>?_
  obtain⟨a1K,h1769,h⟩:=aB h;have a8x:=((((aW.lt aV.c yO).i (mL aV.c 2 (dc yO))).o 2 2 .uq (cH aV.c (dc yO))).g (sW h1769))
  obtain⟨h1770,h⟩|⟨h1770,h⟩:=aL h
  ·obtain⟨a1L,h1772,h⟩:=aB h;exact(((a8x.b h1770).g (BM h1772)).a [.cn [1,3,5,6,8,9,15,16,17,33,34,35,45,46,47] [0,1,2,3,4,5,6,9]]).ct hΓ ON (iS yO Ry) (ih3 (i3+1) a1L.1 (dn yO) h)
  ·exact((a8x.b h1770).a [.cn [1,3,5,6,8,9,15,16,17,33,34,35,45,46,47] [0,1,2,3,4,5,6,7]]).ct hΓ ON (iS yO Ry) (ih3 (i3+1) PJ (dn yO) h)
theorem E5(hΓ:Γ.nt=78){aD:aG}{i1:Nat}{bS:aK}{tZ:aT}{x1486:Node}{r:cR}{k2:cR->Option cR}(zx:∀(vN:cR),k2 vN=some r->Ax Γ N f36 (.q [[some (57,3)]] (D.fr 57 3 (r.map bM.c))) [1,1,0,1,0,0,1,1,1] ⟨[(1,D.ptr 0 0),(3,D.acc 1),(15,D.sl (aD.rules.map aK.c)),(16,D.int .i64 ((aD.rules.map aK.c).length:Int)),(17,D.int .i64 (i1:Int))],[Ob.box (aG.c aD),Ob.row .uq 57 3 (vN.map bM.c)]⟩)(hm2:x1486.tokens.length<=maxLen):∀(rest:ai) (i2:Nat) (gH:cR),x1486.tokens.drop i2=rest->gK aD i1 bS tZ x1486 k2 rest i2 gH=some r->Ar Γ N f36 (.q [[some (57,3)]] (D.fr 57 3 (r.map bM.c))) [1,1,0,1,0,0,1,1,0,0,1,1,1,0] (rest.length+1) (yf aD i1 bS tZ x1486 (gH.map bM.c) (i2:Int)):=by
 intro rest
 induction rest with
 |nil=>
  intro i2 gH hd2 h;rw[gK]at h;refine aU fun N2 vC s6=>?_
  exact((aW.ge aO.c hd2).a [.hl 3 [1,3,15,16,17] [0,1]]).ex hΓ vC (zx gH h)
 |cons js ua ih2=>
  intro i2 gH hd2 h;rw[gK]at h;refine aU fun N2 vC s6=>?_
  obtain⟨Bx,h1730,h⟩:=aB h;obtain⟨h1774,h⟩:=bQ h;refine(((((aW.lt aO.c hd2).l (bG aO.c 2 (dc hd2) rfl)).a [.n 7]).g (cg h1730)).a [.pb 6 2 113 2,.cn [1,3,5,6,8,9,15,16,17,33,34,35,45,46,47] [0,1,2,3,4,6,5,7]]).lp hΓ (E6 hΓ (fun TN h=>?_) (bV h1774) tZ 0 ([]:aT) rfl h);obtain⟨h1773,h⟩:=bQ h;exact((aW.w (bX h1773)).a [.cn [1,3,5,6,15,16,17,33,34,35] [0,8,2,3]]).cs hΓ s6 (yf aD i1 bS tZ x1486 ((gH.map bM.c)++([[D.str bS.name,D.sl (Bx.map aC.c),D.sl (TN.map aV.c)]])) (IntKind.i64.wrap ((i2:Int)+1))) (by first| (simp only[iS hd2 hm2,mA]<;>rfl)| (simp only[iS hd2 hm2,mA,aC.c,aV.c,aP.c,Action.c,aK.c,aO.c,bM.c,aX.c,Node.c,aG.c,dL.c]<;>rfl)) (ih2 (i2+1) (gH++([(⟨bS.name,Bx,TN⟩:bM)])) (dn hd2) h)
theorem E4(hΓ:Γ.nt=78){aD:aG}{r:cR}{k1:cR->Option cR}(dX:∀(cC:cR),k1 cC=some r->Ax Γ N f36 (.q [[some (57,3)]] (D.fr 57 3 (r.map bM.c))) [1,1,1] ⟨[(3,D.acc 0)],[Ob.row .uq 57 3 (cC.map bM.c)]⟩)(hm1:aD.rules.length<=maxLen):∀(rest:aq) (i1:Nat) (bR:cR),aD.rules.drop i1=rest->gJ aD k1 rest i1 bR=some r->Ar Γ N f36 (.q [[some (57,3)]] (D.fr 57 3 (r.map bM.c))) [1,1,0,1,0] (rest.length+1) (F0 aD (bR.map bM.c) (i1:Int)):=by
 intro rest
 induction rest with
 |nil=>
  intro i1 bR b8 h;rw[gJ]at h;refine aU fun N1 cW cK=>?_
  exact((aW.ge aK.c b8).a [.hl 0 [3] [1]]).ex hΓ cW (dX bR h)
 |cons bS cT ih1=>
  intro i1 bR b8 h;rw[gJ]at h;refine aU fun N1 cW cK=>?_
  obtain⟨tZ,h1483,h⟩:=aB h;obtain⟨x1484,h1485,h⟩:=aB h;obtain⟨x1486,h1487,h⟩:=aB h;obtain⟨h1775,h⟩:=bQ h;refine(((((((aW.lt aK.c b8).l (bG aK.c 4 (dc b8) rfl)).g (yA h1483)).a [.n 12]).l (fB gm 1 h1485 rfl)).l (fB Node.c 8 h1487 rfl)).a [.cn [1,3,5,6,15,16,17,33,34,35] [0,1,2,3]]).lp hΓ (E5 hΓ (fun vN h=>?_) (bV h1775) x1486.tokens 0 bR rfl h);exact(aW.a [.cn [1,3,15,16,17] [0,1]]).ct hΓ cK (iS b8 hm1) (ih1 (i1+1) vN (dn b8) h)
theorem D6{aD:aG}{r:cR}(h:tj aD=some r):Good prog 36 [D.agg (aG.c aD)] (D.fr 57 3 (r.map bM.c)):=by
 refine gd func36 [[some (57,3)]] 78 fun hr Γ hΓ=>?_
 rw[tj]at h;refine(aW.a [.LP 3,.cn [1,3,15,16,17] [0,1]]).lp hΓ (E4 hΓ (fun cC h=>?_) (by have:=(gb.sl (gb.agg (hr _ (aE (i:=0) rfl)) (.sl (aD.rules.map aK.c)) (by simp))).1;simpa using this) aD.rules 0 ([]:cR) rfl h);have h:=aN h;subst h;exact aW.ret hΓ
def j5(aD:aG):Option cR:=((gT aD).bind fun y1=>(bif !(y1)then(some ([]))else((tj aD).bind fun y4=>(some y4))))
theorem sr{aD:aG}{r:cR}(h:j5 aD=some r):Good prog 9 [D.agg (aG.c aD)] (D.fr 57 3 (r.map bM.c)):=by
 refine gd func9 [[some (57,3)]] 8 fun hr Γ hΓ=>?_
 rw[j5]at h;obtain⟨y1,h2,h⟩:=aB h;obtain⟨h3,h⟩|⟨h3,h⟩:=aL h
 ·cases h;exact((aW.g (fO h2)).b h3).ret hΓ
 ·obtain⟨y4,h5,h⟩:=aB h;have h:=aN h;subst h;exact(((aW.g (fO h2)).b h3).g (D6 h5)).ret hΓ
def lE(aD:aI)(k1:Option Bool):aI->Nat->Option Bool
 | [],i1=>(k1)
 |bS::cT,i1=>((qJ bS).bind fun B4=>(bif !(B4)then(some false)else(bif decide (((i1:Int):Int)>0)then((fy aD (IntKind.i64.wrap ((i1:Int)-1))).bind fun x49=>((fS x49 bS).bind fun y51=>(bif decide ((y51:Int)>=0)then(some false)else(lE aD k1 cT (i1+1)))))else(lE aD k1 cT (i1+1)))))
def nU(aD:aI):Option Bool:=(lE aD (some (decide ((((aD.map aC.c).length:Int):Int)<=24))) aD 0)
def JF(aD:aI)(dG:Int):St:=⟨[(0,D.sl (aD.map aC.c)),(3,D.int .i64 dG)],[]⟩
theorem I0(hΓ:Γ.nt=36){aD:aI}{r:Bool}{k1:Option Bool}(dX:k1=some r->Ax Γ N f41 (.q [[none]] (D.bool r)) [1,1] ⟨[(0,D.sl (aD.map aC.c))],[]⟩)(hm1:aD.length<=maxLen):∀(rest:aI) (i1:Nat),aD.drop i1=rest->lE aD k1 rest i1=some r->Ar Γ N f41 (.q [[none]] (D.bool r)) [1,0,1,0] (rest.length+1) (JF aD (i1:Int)):=by
 intro rest
 induction rest with
 |nil=>
  intro i1 b8 h;rw[lE]at h;refine aU fun N1 cW cK=>?_
  exact((aW.ge aC.c b8).a [.hl 0 [0] []]).ex hΓ cW (dX h)
 |cons bS cT ih1=>
  intro i1 b8 h;rw[lE]at h;refine aU fun N1 cW cK=>?_
  obtain⟨B4,h46,h⟩:=aB h;have jO:=((((aW.lt aC.c b8).a [.n 19]).l (bG aC.c 2 (dc b8) rfl)).g (xI h46))
  obtain⟨h47,h⟩|⟨h47,h⟩:=aL h
  ·have h:=aN h;subst h;exact((((jO.r 3 h47).a [bF,bF,bF,bF,bF,bF,bF,bF,bF,bF,bF]).r 2 h47).T 1).ret hΓ
  ·have tS:=(jO.r 3 h47)
   obtain⟨h48,h⟩|⟨h48,h⟩:=aL h
   ·obtain⟨x49,h50,h⟩:=aB h;obtain⟨y51,h52,h⟩:=aB h;have wK:=((((((((((tS.r 4 h48).l (fB aC.c 2 h50 rfl)).r 4 h48).l (bG aC.c 2 (dc b8) rfl)).r 2 h48).g (oW h52)).b h48).b h47).b h48).b h47)
    obtain⟨h53,h⟩|⟨h53,h⟩:=aL h
    ·have h:=aN h;subst h;exact(wK.b h53).ret hΓ
    ·exact((wK.b h53).a [.cn [0,3] []]).ct hΓ cK (iS b8 hm1) (ih1 (i1+1) (dn b8) h)
   ·exact((((((tS.r 11 h48).b h47).b h48).b h47).F 1).a [.cn [0,3] []]).ct hΓ cK (iS b8 hm1) (ih1 (i1+1) (dn b8) h)
theorem ld{aD:aI}{r:Bool}(h:nU aD=some r):Good prog 41 [D.sl (aD.map aC.c)] (D.bool r):=by
 refine gd func41 [[none]] 36 fun hr Γ hΓ=>?_
 rw[nU]at h;refine(aW.a [.cn [0,3] []]).lp hΓ (I0 hΓ (fun h=>?_) (by have:=(gb.sl (hr _ (aE (i:=0) rfl))).1;simpa using this) aD 0 rfl h);cases h;exact aW.ret hΓ
def mH(aD:aG)(aY:aG)(k1:Option Bool):bK->Nat->Option Bool
 | [],i1=>(k1)
 |bS::cT,i1=>((fy aY.az (i1:Int)).bind fun x32=>((jI bS.shape x32.shape).bind fun Fc=>(bif !(Fc)then(some false)else(mH aD aY k1 cT (i1+1)))))
def jL(aD:aG)(aY:aG)(k2:Option Bool):bI->Nat->Option Bool
 | [],i2=>(k2)
 |js::ua,i2=>((fy aY.nodes (i2:Int)).bind fun x73=>(bif (js.parent:Int) != x73.parent then(some false)else(bif (js.cM:Int) != x73.cM then(some false)else((pW js.cond x73.cond).bind fun y77=>(bif !(y77)then(some false)else(jL aD aY k2 ua (i2+1)))))))
def jM(aD:aG)(aY:aG)(k3:Option Bool):bH->Nat->Option Bool
 | [],i3=>(k3)
 |QZ::PL,i3=>((fy aY.ends (i3:Int)).bind fun x100=>(bif (QZ:Int) != x100 then(some false)else(jM aD aY k3 PL (i3+1))))
def ru(aD:aG)(aY:aG):Option Bool:=(bif (((aD.az.map aX.c).length:Int):Int) != ((aY.az.map aX.c).length:Int)then(some false)else(bif (((aD.nodes.map Node.c).length:Int):Int) != ((aY.nodes.map Node.c).length:Int)then(some false)else(bif (((aD.ends.map gm).length:Int):Int) != ((aY.ends.map gm).length:Int)then(some false)else(mH aD aY (jL aD aY (jM aD aY (some true) aD.ends 0) aD.nodes 0) aD.az 0))))
def Gc(aD:aG)(aY:aG)(dG:Int):St:=⟨[(2,D.ptr 0 0),(3,D.ptr 1 0),(5,D.int .i64 dG)],[Ob.box (aG.c aD),Ob.box (aG.c aY)]⟩
theorem FR(hΓ:Γ.nt=123){aD:aG}{aY:aG}{r:Bool}{k1:Option Bool}(dX:k1=some r->Ax Γ N f42 (.q [[none]] (D.bool r)) [1,1,1] ⟨[(2,D.ptr 0 0),(3,D.ptr 1 0)],[Ob.box (aG.c aD),Ob.box (aG.c aY)]⟩)(hm1:aD.az.length<=maxLen):∀(rest:bK) (i1:Nat),aD.az.drop i1=rest->mH aD aY k1 rest i1=some r->Ar Γ N f42 (.q [[none]] (D.bool r)) [1,1,0,1,0] (rest.length+1) (Gc aD aY (i1:Int)):=by
 intro rest
 induction rest with
 |nil=>
  intro i1 b8 h;rw[mH]at h;refine aU fun N1 cW cK=>?_
  exact((aW.ge aX.c b8).a [.hl 0 [2,3] [0,1]]).ex hΓ cW (dX h)
 |cons bS cT ih1=>
  intro i1 b8 h;rw[mH]at h;refine aU fun N1 cW cK=>?_
  obtain⟨x32,h33,h⟩:=aB h;obtain⟨Fc,h35,h⟩:=aB h;have wK:=(((((aW.lt aX.c b8).a [.n 12]).l (bG aX.c 3 (dc b8) rfl)).l (fB aX.c 3 h33 rfl)).g (tN h35))
  obtain⟨h36,h⟩|⟨h36,h⟩:=aL h
  ·have h:=aN h;subst h;exact(wK.b h36).ret hΓ
  ·exact((wK.b h36).a [.cn [2,3,5] [0,1]]).ct hΓ cK (iS b8 hm1) (ih1 (i1+1) (dn b8) h)
def Gd(aD:aG)(aY:aG)(dG:Int):St:=⟨[(2,D.ptr 0 0),(3,D.ptr 1 0),(6,D.int .i64 dG)],[Ob.box (aG.c aD),Ob.box (aG.c aY)]⟩
theorem FT(hΓ:Γ.nt=123){aD:aG}{aY:aG}{r:Bool}{k2:Option Bool}(zx:k2=some r->Ax Γ N f42 (.q [[none]] (D.bool r)) [1,1,1,1] ⟨[(2,D.ptr 0 0),(3,D.ptr 1 0)],[Ob.box (aG.c aD),Ob.box (aG.c aY)]⟩)(hm2:aD.nodes.length<=maxLen):∀(rest:bI) (i2:Nat),aD.nodes.drop i2=rest->jL aD aY k2 rest i2=some r->Ar Γ N f42 (.q [[none]] (D.bool r)) [1,1,1,0,1,0] (rest.length+1) (Gd aD aY (i2:Int)):=by
 intro rest
 induction rest with
 |nil=>
  intro i2 hd2 h;rw[jL]at h;refine aU fun N2 vC s6=>?_
  exact((aW.ge Node.c hd2).a [.hl 0 [2,3] [0,1]]).ex hΓ vC (zx h)
 |cons js ua ih2=>
  intro i2 hd2 h;rw[jL]at h;refine aU fun N2 vC s6=>?_
  obtain⟨x73,h74,h⟩:=aB h;have z7:=((((aW.lt Node.c hd2).a [.n 41]).l (bG Node.c 8 (dc hd2) rfl)).l (fB Node.c 8 h74 rfl))
  obtain⟨h75,h⟩|⟨h75,h⟩:=aL h
  ·have h:=aN h;subst h;exact((z7.r 14 h75).T 16).ret hΓ
  ·have DY:=(((((z7.r 4 h75).l (bG Node.c 8 (dc hd2) rfl)).r 6 h75).l (fB Node.c 8 h74 rfl)).r 4 h75)
   obtain⟨h76,h⟩|⟨h76,h⟩:=aL h
   ·have h:=aN h;subst h;exact((DY.r 15 h76).T 1).ret hΓ
   ·obtain⟨y77,h78,h⟩:=aB h;have LL:=(((((((DY.r 4 h76).l (bG Node.c 8 (dc hd2) rfl)).r 6 h76).l (fB Node.c 8 h74 rfl)).r 3 h76).g (zg h78)).r 2 h76)
    obtain⟨h79,h⟩|⟨h79,h⟩:=aL h
    ·have h:=aN h;subst h;exact(LL.b h79).ret hΓ
    ·exact((LL.b h79).a [.cn [2,3,6] [0,1]]).ct hΓ s6 (iS hd2 hm2) (ih2 (i2+1) (dn hd2) h)
def Ge(aD:aG)(aY:aG)(dG:Int):St:=⟨[(2,D.ptr 0 0),(3,D.ptr 1 0),(7,D.int .i64 dG)],[Ob.box (aG.c aD),Ob.box (aG.c aY)]⟩
theorem FU(hΓ:Γ.nt=123){aD:aG}{aY:aG}{r:Bool}{k3:Option Bool}(Ym:k3=some r->Ax Γ N f42 (.q [[none]] (D.bool r)) [1,1,1,1,1] ⟨[],[]⟩)(Ry:aD.ends.length<=maxLen):∀(rest:bH) (i3:Nat),aD.ends.drop i3=rest->jM aD aY k3 rest i3=some r->Ar Γ N f42 (.q [[none]] (D.bool r)) [1,1,1,1,0,1,0] (rest.length+1) (Ge aD aY (i3:Int)):=by
 intro rest
 induction rest with
 |nil=>
  intro i3 yO h;rw[jM]at h;refine aU fun N3 Se ON=>?_
  exact((aW.ge gm yO).a [.hl 0 [] []]).ex hΓ Se (Ym h)
 |cons QZ PL ih3=>
  intro i3 yO h;rw[jM]at h;refine aU fun N3 Se ON=>?_
  obtain⟨x100,h101,h⟩:=aB h;have Bp:=((((aW.lt gm yO).a [.n 10]).l (bG gm 1 (dc yO) rfl)).l (fB gm 1 h101 rfl))
  obtain⟨h102,h⟩|⟨h102,h⟩:=aL h
  ·have h:=aN h;subst h;exact(Bp.b h102).ret hΓ
  ·exact((Bp.b h102).a [.cn [2,3,7] [0,1]]).ct hΓ ON (iS yO Ry) (ih3 (i3+1) (dn yO) h)
theorem EM{aD:aG}{aY:aG}{r:Bool}(h:ru aD aY=some r):Good prog 42 [D.agg (aG.c aD),D.agg (aG.c aY)] (D.bool r):=by
 refine gd func42 [[none]] 123 fun hr Γ hΓ=>?_
 rw[ru]at h;obtain⟨h1,h⟩|⟨h1,h⟩:=aL h
 ·have h:=aN h;subst h;exact((aW.r 8 h1).T 9).ret hΓ
 ·have Gz:=(aW.r 8 h1)
  obtain⟨h2,h⟩|⟨h2,h⟩:=aL h
  ·have h:=aN h;subst h;exact((Gz.r 8 h2).T 1).ret hΓ
  ·have Ao:=(Gz.r 8 h2)
   obtain⟨h3,h⟩|⟨h3,h⟩:=aL h
   ·have h:=aN h;subst h;exact(Ao.b h3).ret hΓ
   ·refine((Ao.b h3).a [.cn [2,3,5] [0,1]]).lp hΓ (FR hΓ (fun h=>?_) (by have:=(gb.sl (gb.agg (hr _ (aE (i:=0) rfl)) (.sl (aD.az.map aX.c)) (by simp))).1;simpa using this) aD.az 0 rfl h);refine(aW.a [.cn [2,3,6] [0,1]]).lp hΓ (FT hΓ (fun h=>?_) (by have:=(gb.sl (gb.agg (hr _ (aE (i:=0) rfl)) (.sl (aD.nodes.map Node.c)) (by simp))).1;simpa using this) aD.nodes 0 rfl h);refine(aW.a [.cn [2,3,7] [0,1]]).lp hΓ (FU hΓ (fun h=>?_) (by have:=(gb.sl (gb.agg (hr _ (aE (i:=0) rfl)) (.sl (aD.ends.map gm)) (by simp))).1;simpa using this) aD.ends 0 rfl h);have h:=aN h;subst h;exact aW.ret hΓ
def qL(aD:aC)(aY:aC):Option Bool:=(bif (aD.rel:Bytes)==aY.rel then((oG aD.args aY.args).bind fun y2=>(some y2))else(some false))
theorem xK{aD:aC}{aY:aC}{r:Bool}(h:qL aD aY=some r):Good prog 95 [D.agg (aC.c aD),D.agg (aC.c aY)] (D.bool r):=by
 refine gd func95 [[none]] 17 fun hr Γ hΓ=>?_
 rw[qL]at h;obtain⟨h1,h⟩|⟨h1,h⟩:=aL h
 ·obtain⟨y2,h3,h⟩:=aB h;have h:=aN h;subst h;exact(((aW.r 5 h1).g (xY h3)).b h1).ret hΓ
 ·have h:=aN h;subst h;exact(aW.r 6 h1).ret hΓ
def nR(aD:aI)(aY:aI)(k1:Option Bool):aI->Nat->Option Bool
 | [],i1=>(k1)
 |bS::cT,i1=>((fy aY (i1:Int)).bind fun x30=>((qL bS x30).bind fun HF=>(bif !(HF)then(some false)else(nR aD aY k1 cT (i1+1)))))
def mB(aD:aI)(aY:aI):Option Bool:=(bif (((aD.map aC.c).length:Int):Int) != ((aY.map aC.c).length:Int)then(some false)else(nR aD aY (some true) aD 0))
def II(aD:aI)(aY:aI)(dG:Int):St:=⟨[(0,D.sl (aD.map aC.c)),(1,D.sl (aY.map aC.c)),(5,D.int .i64 dG)],[]⟩
theorem GV(hΓ:Γ.nt=27){aD:aI}{aY:aI}{r:Bool}{k1:Option Bool}(dX:k1=some r->Ax Γ N f43 (.q [[none]] (D.bool r)) [1,1,1] ⟨[],[]⟩)(hm1:aD.length<=maxLen):∀(rest:aI) (i1:Nat),aD.drop i1=rest->nR aD aY k1 rest i1=some r->Ar Γ N f43 (.q [[none]] (D.bool r)) [1,1,0,1,0] (rest.length+1) (II aD aY (i1:Int)):=by
 intro rest
 induction rest with
 |nil=>
  intro i1 b8 h;rw[nR]at h;refine aU fun N1 cW cK=>?_
  exact((aW.ge aC.c b8).a [.hl 0 [] []]).ex hΓ cW (dX h)
 |cons bS cT ih1=>
  intro i1 b8 h;rw[nR]at h;refine aU fun N1 cW cK=>?_
  obtain⟨x30,h31,h⟩:=aB h;obtain⟨HF,h33,h⟩:=aB h;have fE:=(((((aW.lt aC.c b8).a [.n 8]).l (bG aC.c 2 (dc b8) rfl)).l (fB aC.c 2 h31 rfl)).g (xK h33))
  obtain⟨h34,h⟩|⟨h34,h⟩:=aL h
  ·have h:=aN h;subst h;exact(fE.b h34).ret hΓ
  ·exact((fE.b h34).a [.cn [0,1,5] []]).ct hΓ cK (iS b8 hm1) (ih1 (i1+1) (dn b8) h)
theorem vA{aD:aI}{aY:aI}{r:Bool}(h:mB aD aY=some r):Good prog 43 [D.sl (aD.map aC.c),D.sl (aY.map aC.c)] (D.bool r):=by
 refine gd func43 [[none]] 27 fun hr Γ hΓ=>?_
 rw[mB]at h;obtain⟨h1,h⟩|⟨h1,h⟩:=aL h
 ·have h:=aN h;subst h;exact(aW.b h1).ret hΓ
 ·refine((aW.b h1).a [.cn [0,1,5] []]).lp hΓ (GV hΓ (fun h=>?_) (by have:=(gb.sl (hr _ (aE (i:=0) rfl))).1;simpa using this) aD 0 rfl h);have h:=aN h;subst h;exact aW.ret hΓ
def ga(aD:aT)(aY:aT)(k1:Option Bool):aT->Nat->Option Bool
 | [],i1=>(k1)
 |bS::cT,i1=>((fy aY (i1:Int)).bind fun x22=>(bif !((bS.var:Bytes)==x22.var&&(bS.value:Bytes)==x22.value)then(some false)else(ga aD aY k1 cT (i1+1))))
def jK(aD:aT)(aY:aT):Option Bool:=(bif (((aD.map aV.c).length:Int):Int) != ((aY.map aV.c).length:Int)then(some false)else(ga aD aY (some true) aD 0))
def DJ(aD:aT)(aY:aT)(dG:Int):St:=⟨[(0,D.sl (aD.map aV.c)),(1,D.sl (aY.map aV.c)),(5,D.int .i64 dG)],[]⟩
theorem Ca(hΓ:Γ.nt=26){aD:aT}{aY:aT}{r:Bool}{k1:Option Bool}(dX:k1=some r->Ax Γ N f97 (.q [[none]] (D.bool r)) [1,1,1] ⟨[],[]⟩)(hm1:aD.length<=maxLen):∀(rest:aT) (i1:Nat),aD.drop i1=rest->ga aD aY k1 rest i1=some r->Ar Γ N f97 (.q [[none]] (D.bool r)) [1,1,0,1,0] (rest.length+1) (DJ aD aY (i1:Int)):=by
 intro rest
 induction rest with
 |nil=>
  intro i1 b8 h;rw[ga]at h;refine aU fun N1 cW cK=>?_
  exact((aW.ge aV.c b8).a [.hl 0 [] []]).ex hΓ cW (dX h)
 |cons bS cT ih1=>
  intro i1 b8 h;rw[ga]at h;refine aU fun N1 cW cK=>?_
  obtain⟨x22,h23,h⟩:=aB h;have fE:=((((aW.lt aV.c b8).a [.n 8]).l (bG aV.c 2 (dc b8) rfl)).l (fB aV.c 2 h23 rfl))
  obtain⟨h24,h⟩|⟨h24,h⟩:=aL h
  ·have h:=aN h;subst h;exact(fE.b h24).ret hΓ
  ·exact((fE.b h24).a [.cn [0,1,5] []]).ct hΓ cK (iS b8 hm1) (ih1 (i1+1) (dn b8) h)
theorem wJ{aD:aT}{aY:aT}{r:Bool}(h:jK aD aY=some r):Good prog 97 [D.sl (aD.map aV.c),D.sl (aY.map aV.c)] (D.bool r):=by
 refine gd func97 [[none]] 26 fun hr Γ hΓ=>?_
 rw[jK]at h;obtain⟨h1,h⟩|⟨h1,h⟩:=aL h
 ·have h:=aN h;subst h;exact(aW.b h1).ret hΓ
 ·refine((aW.b h1).a [.cn [0,1,5] []]).lp hΓ (Ca hΓ (fun h=>?_) (by have:=(gb.sl (hr _ (aE (i:=0) rfl))).1;simpa using this) aD 0 rfl h);have h:=aN h;subst h;exact aW.ret hΓ
def iI(aD:ai)(aY:ai)(k1:Option Bool):ai->Nat->Option Bool
 | [],i1=>(k1)
 |bS::cT,i1=>((fy aY (i1:Int)).bind fun x42=>((mB bS.facts x42.facts).bind fun Y6=>(bif !(Y6)then(some false)else((jK bS.bind x42.bind).bind fun Xt=>(bif !(Xt)then(some false)else(iI aD aY k1 cT (i1+1)))))))
def py(aD:ai)(aY:ai):Option Bool:=(bif (((aD.map aO.c).length:Int):Int) != ((aY.map aO.c).length:Int)then(some false)else(iI aD aY (some true) aD 0))
def EN(aD:ai)(aY:ai)(dG:Int):St:=⟨[(0,D.sl (aD.map aO.c)),(1,D.sl (aY.map aO.c)),(5,D.int .i64 dG)],[]⟩
theorem DP(hΓ:Γ.nt=43){aD:ai}{aY:ai}{r:Bool}{k1:Option Bool}(dX:k1=some r->Ax Γ N f45 (.q [[none]] (D.bool r)) [1,1,1] ⟨[],[]⟩)(hm1:aD.length<=maxLen):∀(rest:ai) (i1:Nat),aD.drop i1=rest->iI aD aY k1 rest i1=some r->Ar Γ N f45 (.q [[none]] (D.bool r)) [1,1,0,1,0] (rest.length+1) (EN aD aY (i1:Int)):=by
 intro rest
 induction rest with
 |nil=>
  intro i1 b8 h;rw[iI]at h;refine aU fun N1 cW cK=>?_
  exact((aW.ge aO.c b8).a [.hl 0 [] []]).ex hΓ cW (dX h)
 |cons bS cT ih1=>
  intro i1 b8 h;rw[iI]at h;refine aU fun N1 cW cK=>?_
  obtain⟨x42,h43,h⟩:=aB h;obtain⟨Y6,h45,h⟩:=aB h;have ij:=(((((aW.lt aO.c b8).a [.n 23]).l (bG aO.c 2 (dc b8) rfl)).l (fB aO.c 2 h43 rfl)).g (vA h45))
  obtain⟨h46,h⟩|⟨h46,h⟩:=aL h
  ·have h:=aN h;subst h;exact((ij.r 13 h46).T 1).ret hΓ
  ·obtain⟨Xt,h48,h⟩:=aB h;have jO:=(((((((ij.r 3 h46).l (bG aO.c 2 (dc b8) rfl)).r 5 h46).l (fB aO.c 2 h43 rfl)).r 3 h46).g (wJ h48)).r 2 h46)
   obtain⟨h49,h⟩|⟨h49,h⟩:=aL h
   ·have h:=aN h;subst h;exact(jO.b h49).ret hΓ
   ·exact((jO.b h49).a [.cn [0,1,5] []]).ct hΓ cK (iS b8 hm1) (ih1 (i1+1) (dn b8) h)
theorem Cc{aD:ai}{aY:ai}{r:Bool}(h:py aD aY=some r):Good prog 45 [D.sl (aD.map aO.c),D.sl (aY.map aO.c)] (D.bool r):=by
 refine gd func45 [[none]] 43 fun hr Γ hΓ=>?_
 rw[py]at h;obtain⟨h1,h⟩|⟨h1,h⟩:=aL h
 ·have h:=aN h;subst h;exact(aW.b h1).ret hΓ
 ·refine((aW.b h1).a [.cn [0,1,5] []]).lp hΓ (DP hΓ (fun h=>?_) (by have:=(gb.sl (hr _ (aE (i:=0) rfl))).1;simpa using this) aD 0 rfl h);have h:=aN h;subst h;exact aW.ret hΓ
def k9(aD:aG)(k1:Option Bool):bK->Nat->Option Bool
 | [],i1=>(k1)
 |bS::cT,i1=>((fw bS.shape ([]) aD.facts).bind fun EZ=>((mB bS.facts EZ).bind fun y41=>(bif !(y41)then(some false)else(k9 aD k1 cT (i1+1)))))
def kA(aD:aG)(k2:Option Bool):bI->Nat->Option Bool
 | [],i2=>(k2)
 |js::ua,i2=>((ug aD (i2:Int)).bind fun V6=>((nZ V6 aD.facts).bind fun a9o=>((py js.tokens a9o).bind fun Jq=>(bif !(Jq)then(some false)else(kA aD k2 ua (i2+1))))))
def tK(aD:aG):Option Bool:=((k7 aD.rules).bind fun y1=>(bif !(y1.2)then(some false)else((nU aD.facts).bind fun y4=>(bif !(y4)then(some false)else((ru aD y1.1).bind fun y7=>(bif !(y7)then(some false)else(bif decide ((aD.br:Int)<0)then(some false)else(k9 aD (kA aD (some true) aD.nodes 0) aD.az 0))))))))
def I7(aD:aG)(dG:Int):St:=⟨[(1,D.ptr 0 0),(5,D.int .i64 dG)],[Ob.box (aG.c aD)]⟩
theorem GL(hΓ:Γ.nt=77){aD:aG}{r:Bool}{k1:Option Bool}(dX:k1=some r->Ax Γ N f11 (.q [[none]] (D.bool r)) [1,1,1,1] ⟨[(1,D.ptr 0 0)],[Ob.box (aG.c aD)]⟩)(hm1:aD.az.length<=maxLen):∀(rest:bK) (i1:Nat),aD.az.drop i1=rest->k9 aD k1 rest i1=some r->Ar Γ N f11 (.q [[none]] (D.bool r)) [1,1,1,0,1,0] (rest.length+1) (I7 aD (i1:Int)):=by
 intro rest
 induction rest with
 |nil=>
  intro i1 b8 h;rw[k9]at h;refine aU fun N1 cW cK=>?_
  exact((aW.ge aX.c b8).a [.hl 0 [1] [0]]).ex hΓ cW (dX h)
 |cons bS cT ih1=>
  intro i1 b8 h;rw[k9]at h;refine aU fun N1 cW cK=>?_
  obtain⟨EZ,h40,h⟩:=aB h;obtain⟨y41,h42,h⟩:=aB h;have ij:=(((((((aW.lt aX.c b8).a [.n 15]).l (bG aX.c 3 (dc b8) rfl)).l (bG aX.c 3 (dc b8) rfl)).a [.d (D.fr 43 2 (EZ.map aC.c))]).w (show Good prog 44 [D.agg (aC.c bS.shape),D.sl ([]),D.sl (aD.facts.map aC.c)] (D.fr 43 2 (EZ.map aC.c))from by first| (simpa only[bD,au,bg,bZ,bh]using eZ h40)|exact eZ h40)).g (vA h42))
  obtain⟨h43,h⟩|⟨h43,h⟩:=aL h
  ·have h:=aN h;subst h;exact(ij.b h43).ret hΓ
  ·exact((ij.b h43).a [.cn [1,5] [0]]).ct hΓ cK (iS b8 hm1) (ih1 (i1+1) (dn b8) h)
def I8(aD:aG)(dG:Int):St:=⟨[(1,D.ptr 0 0),(6,D.int .i64 dG)],[Ob.box (aG.c aD)]⟩
theorem GM(hΓ:Γ.nt=77){aD:aG}{r:Bool}{k2:Option Bool}(zx:k2=some r->Ax Γ N f11 (.q [[none]] (D.bool r)) [1,1,1,1,1] ⟨[],[]⟩)(hm2:aD.nodes.length<=maxLen):∀(rest:bI) (i2:Nat),aD.nodes.drop i2=rest->kA aD k2 rest i2=some r->Ar Γ N f11 (.q [[none]] (D.bool r)) [1,1,1,1,0,1,0] (rest.length+1) (I8 aD (i2:Int)):=by
 intro rest
 induction rest with
 |nil=>
  intro i2 hd2 h;rw[kA]at h;refine aU fun N2 vC s6=>?_
  exact((aW.ge Node.c hd2).a [.hl 0 [] []]).ex hΓ vC (zx h)
 |cons js ua ih2=>
  intro i2 hd2 h;rw[kA]at h;refine aU fun N2 vC s6=>?_
  obtain⟨V6,h105,h⟩:=aB h;obtain⟨a9o,h107,h⟩:=aB h;obtain⟨Jq,h109,h⟩:=aB h;have jO:=((((((aW.lt Node.c hd2).a [.n2 [0,1,2,3,4,5,6,7,8,9,10,11,12,13] [0,1,2,3,4,5,6,7,8,9,10,11,12,13] 11 12 [0,1,2,3,4,5] []]).l (bG Node.c 8 (dc hd2) rfl)).g (tv h105)).g (rq h107)).g (Cc h109))
  obtain⟨h110,h⟩|⟨h110,h⟩:=aL h
  ·have h:=aN h;subst h;exact(jO.b h110).ret hΓ
  ·exact((jO.b h110).a [.cn [1,6] [0]]).ct hΓ s6 (iS hd2 hm2) (ih2 (i2+1) (dn hd2) h)
theorem FE{aD:aG}{r:Bool}(h:tK aD=some r):Good prog 11 [D.agg (aG.c aD)] (D.bool r):=by
 refine gd func11 [[none]] 77 fun hr Γ hΓ=>?_
 rw[tK]at h;obtain⟨y1,h2,h⟩:=aB h;obtain⟨h3,h⟩|⟨h3,h⟩:=aL h
 ·have h:=aN h;subst h;exact(((aW.g (sI h2)).r 5 h3).T 10).ret hΓ
 ·obtain⟨y4,h5,h⟩:=aB h;have tS:=((((aW.g (sI h2)).r 3 h3).g (ld h5)).r 2 h3)
  obtain⟨h6,h⟩|⟨h6,h⟩:=aL h
  ·have h:=aN h;subst h;exact((tS.r 5 h6).T 5).ret hΓ
  ·obtain⟨y7,h8,h⟩:=aB h;have wK:=(((tS.r 3 h6).g (EM h8)).r 2 h6)
   obtain⟨h9,h⟩|⟨h9,h⟩:=aL h
   ·have h:=aN h;subst h;exact((wK.r 4 h9).T 1).ret hΓ
   ·have z7:=(wK.r 4 h9)
    obtain⟨h10,h⟩|⟨h10,h⟩:=aL h
    ·have h:=aN h;subst h;exact(z7.b h10).ret hΓ
    ·refine((z7.b h10).a [.cn [1,5] [0]]).lp hΓ (GL hΓ (fun h=>?_) (by have:=(gb.sl (gb.agg (hr _ (aE (i:=0) rfl)) (.sl (aD.az.map aX.c)) (by simp))).1;simpa using this) aD.az 0 rfl h);refine(aW.a [.cn [1,6] [0]]).lp hΓ (GM hΓ (fun h=>?_) (by have:=(gb.sl (gb.agg (hr _ (aE (i:=0) rfl)) (.sl (aD.nodes.map Node.c)) (by simp))).1;simpa using this) aD.nodes 0 rfl h);have h:=aN h;subst h;exact aW.ret hΓ
def tM(aD:bM)(aY:bM):Option Bool:=(bif (aD.rule:Bytes)==aY.rule then((mB aD.facts aY.facts).bind fun y2=>(bif y2 then((jK aD.bind aY.bind).bind fun y5=>(some y5))else(some false)))else(some false))
theorem FM{aD:bM}{aY:bM}{r:Bool}(h:tM aD aY=some r):Good prog 48 [D.agg (bM.c aD),D.agg (bM.c aY)] (D.bool r):=by
 refine gd func48 [[none]] 24 fun hr Γ hΓ=>?_
 rw[tM]at h;obtain⟨h1,h⟩|⟨h1,h⟩:=aL h
 ·obtain⟨y2,h3,h⟩:=aB h;have kX:=(((aW.r 5 h1).g (vA h3)).b h1)
  obtain⟨h4,h⟩|⟨h4,h⟩:=aL h
  ·obtain⟨y5,h6,h⟩:=aB h;have h:=aN h;subst h;exact(((kX.r 5 h4).g (wJ h6)).b h4).ret hΓ
  ·have h:=aN h;subst h;exact(kX.r 6 h4).ret hΓ
 ·have h:=aN h;subst h;exact((aW.r 6 h1).F 6).ret hΓ
def uM(aD:bH):Option bH:=(bif room (([]:List aQ).length+(aD.map gm).length) 8 then(some (([]:bH)++aD))else none)
theorem G2{aD:bH}{r:bH}(h:uM aD=some r):Good prog 115 [D.sl (aD.map gm)] (D.fr 3 1 (r.map gm)):=by
 refine gd func115 [[some (3,1)]] 5 fun hr Γ hΓ=>?_
 rw[uM]at h;obtain⟨h1,h⟩:=bQ h;cases h;exact(((aW.w (bX h1)).w (show(∀r∈(aD.map gm),r.length=1)/\(true=true->D.iN (aD.map gm)=true)from⟨by first|simp| (intro r hr;obtain⟨x,_,rfl⟩:=bt.1 (bn (eE hr));rfl),by simp[D.iN,D.flat]⟩)).a [.LP 2,.fl true]).rts hΓ (D.fr 3 1 (([]:List aQ)++(aD.map gm))) (by first|rfl| (simp only[mA]<;>rfl)| (simp only[cB,mA]<;>rfl))
def j9(aD:ai)(k1:ai->Option ai):ai->Nat->ai->Option ai
 | [],i1,bP=>(k1 bP)
 |bS::cT,i1,bP=>((cV bS.facts).bind fun y61=>((jd bS.bind).bind fun y63=>(bif room ((bP.map aO.c).length+([[D.sl (y61.map aC.c),D.sl (y63.map aV.c)]]).length) 48 then(j9 aD k1 cT (i1+1) (bP++([(⟨y61,y63⟩:aO)])))else none)))
def mh(aD:ai):Option ai:=(j9 aD (fun(cC:ai)=>(some cC)) aD 0 ([]:ai))
def zX(aD:ai)(W0:List aQ)(dG:Int):St:=⟨[(3,D.acc 0),(6,D.sl (aD.map aO.c)),(7,D.int .i64 ((aD.map aO.c).length:Int)),(8,D.int .i64 dG)],[Ob.row .uq 77 2 W0]⟩
theorem F3(hΓ:Γ.nt=24){aD:ai}{r:ai}{k1:ai->Option ai}(dX:∀(cC:ai),k1 cC=some r->Ax Γ N f118 (.q [[some (77,2)]] (D.fr 77 2 (r.map aO.c))) [1,1,1] ⟨[(3,D.acc 0)],[Ob.row .uq 77 2 (cC.map aO.c)]⟩)(hm1:aD.length<=maxLen):∀(rest:ai) (i1:Nat) (bP:ai),aD.drop i1=rest->j9 aD k1 rest i1 bP=some r->Ar Γ N f118 (.q [[some (77,2)]] (D.fr 77 2 (r.map aO.c))) [1,1,0,1,0] (rest.length+1) (zX aD (bP.map aO.c) (i1:Int)):=by
 intro rest
 induction rest with
 |nil=>
  intro i1 bP b8 h;rw[j9]at h;refine aU fun N1 cW cK=>?_
  exact((aW.ge aO.c b8).a [.hl 0 [3] [0]]).ex hΓ cW (dX bP h)
 |cons bS cT ih1=>
  intro i1 bP b8 h;rw[j9]at h;refine aU fun N1 cW cK=>?_
  obtain⟨y61,h62,h⟩:=aB h;obtain⟨y63,h64,h⟩:=aB h;obtain⟨h65,h⟩:=bQ h;exact(((((((aW.lt aO.c b8).l (bG aO.c 2 (dc b8) rfl)).a [.n2 [0,1,2,3,4,5,6,7,8,9,10] [0,1,2,3,4,5,6,7,8,9,10] 8 9 [0] [2,3]]).g (cg h62)).g (uz h64)).w (bX h65)).a [.cn [3,6,7,8] [5]]).cs hΓ cK (zX aD ((bP.map aO.c)++([[D.sl (y61.map aC.c),D.sl (y63.map aV.c)]])) (IntKind.i64.wrap ((i1:Int)+1))) (by first| (simp only[iS b8 hm1,mA]<;>rfl)| (simp only[iS b8 hm1,mA,aC.c,aV.c,aP.c,Action.c,aK.c,aO.c,bM.c,aX.c,Node.c,aG.c,dL.c]<;>rfl)) (ih1 (i1+1) (bP++([(⟨y61,y63⟩:aO)])) (dn b8) h)
theorem E9{aD:ai}{r:ai}(h:mh aD=some r):Good prog 118 [D.sl (aD.map aO.c)] (D.fr 77 2 (r.map aO.c)):=by
 refine gd func118 [[some (77,2)]] 24 fun hr Γ hΓ=>?_
 rw[mh]at h;refine(aW.a [.LP 3,.cn [3,6,7,8] [0]]).lp hΓ (F3 hΓ (fun cC h=>?_) (by have:=(gb.sl (hr _ (aE (i:=0) rfl))).1;simpa using this) aD 0 ([]:ai) rfl h);have h:=aN h;subst h;exact aW.ret hΓ
def iX(aD:aG)(y1:aq)(y3:bH)(y5:aI)(k1:bK->Option aG):bK->Nat->bK->Option aG
 | [],i1,mP=>(k1 mP)
 |bS::cT,i1,mP=>((eS bS.shape).bind fun Tl=>((cV bS.facts).bind fun y69=>(bif room ((mP.map aX.c).length+([[D.str Tl.rel,D.sl (Tl.args.map tx),D.sl (y69.map aC.c)]]).length) 64 then(iX aD y1 y3 y5 k1 cT (i1+1) (mP++([(⟨Tl,y69⟩:aX)])))else none)))
def iY(aD:aG)(y1:aq)(y3:bH)(y5:aI)(kp:bK)(k2:bI->Option aG):bI->Nat->bI->Option aG
 | [],i2,wC=>(k2 wC)
 |js::ua,i2,wC=>((fc js.cond).bind fun IZ=>((mh js.tokens).bind fun a1I=>(bif room ((wC.map Node.c).length+([[D.int .i64 js.parent,D.int .i64 IZ.kind,D.str IZ.pat.rel,D.sl (IZ.pat.args.map tx),D.str IZ.left,D.str IZ.right,D.int .i64 js.cM,D.sl (a1I.map aO.c)]]).length) 120 then(iY aD y1 y3 y5 kp k2 ua (i2+1) (wC++([(⟨js.parent,IZ,js.cM,a1I⟩:Node)])))else none)))
def iB(aD:aG):Option aG:=((qT aD.rules).bind fun y1=>((uM aD.ends).bind fun y3=>((cV aD.facts).bind fun y5=>(iX aD y1 y3 y5 (fun(kp:bK)=>(iY aD y1 y3 y5 kp (fun(mJ:bI)=>(some (⟨y1,y3,kp,mJ,y5,aD.br⟩:aG))) aD.nodes 0 ([]:bI))) aD.az 0 ([]:bK)))))
def yg(aD:aG)(y1:aq)(y3:bH)(y5:aI)(W0:List aQ)(dG:Int):St:=⟨[(1,D.ptr 0 0),(2,D.ptr 1 0),(3,D.ptr 2 0),(21,D.sl (aD.az.map aX.c)),(22,D.int .i64 ((aD.az.map aX.c).length:Int)),(23,D.int .i64 dG)],[Ob.box (aG.c aD),Ob.box [D.nil,D.nil,D.nil,D.nil,D.nil,D.int .i64 0],Ob.box [D.acc 3,D.acc 4,D.acc 5,D.nil,D.acc 6,D.int .i64 aD.br],Ob.row .uq 63 4 (y1.map aK.c),Ob.row .uq 3 1 (y3.map gm),Ob.row .uq 83 3 W0,Ob.row .uq 43 2 (y5.map aC.c)]⟩
theorem E7(hΓ:Γ.nt=65){aD:aG}{y1:aq}{y3:bH}{y5:aI}{r:aG}{k1:bK->Option aG}(dX:∀(kp:bK),k1 kp=some r->Ax Γ N f61 (.q [[some (63,4),some (3,1),some (83,3),some (74,8),some (43,2),none]] (D.agg [D.fr 63 4 (r.rules.map aK.c),D.fr 3 1 (r.ends.map gm),D.fr 83 3 (r.az.map aX.c),D.fr 74 8 (r.nodes.map Node.c),D.fr 43 2 (r.facts.map aC.c),D.int .i64 r.br])) [1,1,1] ⟨[(1,D.ptr 0 0),(2,D.ptr 1 0),(3,D.ptr 2 0)],[Ob.box (aG.c aD),Ob.box [D.nil,D.nil,D.nil,D.nil,D.nil,D.int .i64 0],Ob.box [D.acc 3,D.acc 4,D.acc 5,D.nil,D.acc 6,D.int .i64 aD.br],Ob.row .uq 63 4 (y1.map aK.c),Ob.row .uq 3 1 (y3.map gm),Ob.row .uq 83 3 (kp.map aX.c),Ob.row .uq 43 2 (y5.map aC.c)]⟩)(hm1:aD.az.length<=maxLen):∀(rest:bK) (i1:Nat) (mP:bK),aD.az.drop i1=rest->iX aD y1 y3 y5 k1 rest i1 mP=some r->Ar Γ N f61 (.q [[some (63,4),some (3,1),some (83,3),some (74,8),some (43,2),none]] (D.agg [D.fr 63 4 (r.rules.map aK.c),D.fr 3 1 (r.ends.map gm),D.fr 83 3 (r.az.map aX.c),D.fr 74 8 (r.nodes.map Node.c),D.fr 43 2 (r.facts.map aC.c),D.int .i64 r.br])) [1,1,0,1,0] (rest.length+1) (yg aD y1 y3 y5 (mP.map aX.c) (i1:Int)):=by
 intro rest
 induction rest with
 |nil=>
  intro i1 mP b8 h;rw[iX]at h;refine aU fun N1 cW cK=>?_
  exact((aW.ge aX.c b8).a [.hl 0 [1,2,3] [0,1,2,3,4,5,6]]).ex hΓ cW (dX mP h)
 |cons bS cT ih1=>
  intro i1 mP b8 h;rw[iX]at h;refine aU fun N1 cW cK=>?_
  obtain⟨Tl,h68,h⟩:=aB h;obtain⟨y69,h70,h⟩:=aB h;obtain⟨h71,h⟩:=bQ h;exact(((((((aW.lt aX.c b8).l (bG aX.c 3 (dc b8) rfl)).a [.n2 [0,1,2,3,4,5,6,7,8,9,10,11,12] [0,1,2,3,4,5,6,7,8,9,10,11,12] 9 10 [0,1] [8,9]]).g (tC h68)).g (cg h70)).w (bX h71)).a [.cn [1,2,3,21,22,23] [0,1,2,3,4,11,6]]).cs hΓ cK (yg aD y1 y3 y5 ((mP.map aX.c)++([[D.str Tl.rel,D.sl (Tl.args.map tx),D.sl (y69.map aC.c)]])) (IntKind.i64.wrap ((i1:Int)+1))) (by first| (simp only[iS b8 hm1,mA]<;>rfl)| (simp only[iS b8 hm1,mA,aC.c,aV.c,aP.c,Action.c,aK.c,aO.c,bM.c,aX.c,Node.c,aG.c,dL.c]<;>rfl)) (ih1 (i1+1) (mP++([(⟨Tl,y69⟩:aX)])) (dn b8) h)
def yh(aD:aG)(y1:aq)(y3:bH)(y5:aI)(kp:bK)(W0:List aQ)(dG:Int):St:=⟨[(2,D.ptr 0 0),(3,D.ptr 1 0),(41,D.sl (aD.nodes.map Node.c)),(42,D.int .i64 ((aD.nodes.map Node.c).length:Int)),(43,D.int .i64 dG)],[Ob.box [D.nil,D.nil,D.nil,D.nil,D.nil,D.int .i64 0],Ob.box [D.acc 2,D.acc 3,D.acc 4,D.acc 5,D.acc 6,D.int .i64 aD.br],Ob.row .uq 63 4 (y1.map aK.c),Ob.row .uq 3 1 (y3.map gm),Ob.row .uq 83 3 (kp.map aX.c),Ob.row .uq 74 8 W0,Ob.row .uq 43 2 (y5.map aC.c)]⟩
theorem E8(hΓ:Γ.nt=65){aD:aG}{y1:aq}{y3:bH}{y5:aI}{kp:bK}{r:aG}{k2:bI->Option aG}(zx:∀(mJ:bI),k2 mJ=some r->Ax Γ N f61 (.q [[some (63,4),some (3,1),some (83,3),some (74,8),some (43,2),none]] (D.agg [D.fr 63 4 (r.rules.map aK.c),D.fr 3 1 (r.ends.map gm),D.fr 83 3 (r.az.map aX.c),D.fr 74 8 (r.nodes.map Node.c),D.fr 43 2 (r.facts.map aC.c),D.int .i64 r.br])) [1,1,1,1] ⟨[(2,D.ptr 0 0),(3,D.ptr 1 0)],[Ob.box [D.nil,D.nil,D.nil,D.nil,D.nil,D.int .i64 0],Ob.box [D.acc 2,D.acc 3,D.acc 4,D.acc 5,D.acc 6,D.int .i64 aD.br],Ob.row .uq 63 4 (y1.map aK.c),Ob.row .uq 3 1 (y3.map gm),Ob.row .uq 83 3 (kp.map aX.c),Ob.row .uq 74 8 (mJ.map Node.c),Ob.row .uq 43 2 (y5.map aC.c)]⟩)(hm2:aD.nodes.length<=maxLen):∀(rest:bI) (i2:Nat) (wC:bI),aD.nodes.drop i2=rest->iY aD y1 y3 y5 kp k2 rest i2 wC=some r->Ar Γ N f61 (.q [[some (63,4),some (3,1),some (83,3),some (74,8),some (43,2),none]] (D.agg [D.fr 63 4 (r.rules.map aK.c),D.fr 3 1 (r.ends.map gm),D.fr 83 3 (r.az.map aX.c),D.fr 74 8 (r.nodes.map Node.c),D.fr 43 2 (r.facts.map aC.c),D.int .i64 r.br])) [1,1,1,0,1,0] (rest.length+1) (yh aD y1 y3 y5 kp (wC.map Node.c) (i2:Int)):=by
 intro rest
 induction rest with
 |nil=>
  intro i2 wC hd2 h;rw[iY]at h;refine aU fun N2 vC s6=>?_
  exact((aW.ge Node.c hd2).a [.hl 0 [2,3] [0,1,2,3,4,5,6]]).ex hΓ vC (zx wC h)
 |cons js ua ih2=>
  intro i2 wC hd2 h;rw[iY]at h;refine aU fun N2 vC s6=>?_
  obtain⟨IZ,h133,h⟩:=aB h;obtain⟨a1I,h135,h⟩:=aB h;obtain⟨h136,h⟩:=bQ h;exact(((((((aW.lt Node.c hd2).l (bG Node.c 8 (dc hd2) rfl)).a [.n2 [0,1,2,3,4,5,6,7,8,9,10,11,12,13,14,15,16] [0,1,2,3,4,5,6,7,8,9,10,11,12,13,14,15,16] 13 14 [0,1] [8,9]]).g (lY h133)).g (E9 h135)).w (bX h136)).a [.cn [2,3,41,42,43] [0,1,2,3,4,11,6]]).cs hΓ s6 (yh aD y1 y3 y5 kp ((wC.map Node.c)++([[D.int .i64 js.parent,D.int .i64 IZ.kind,D.str IZ.pat.rel,D.sl (IZ.pat.args.map tx),D.str IZ.left,D.str IZ.right,D.int .i64 js.cM,D.sl (a1I.map aO.c)]])) (IntKind.i64.wrap ((i2:Int)+1))) (by first| (simp only[iS hd2 hm2,mA]<;>rfl)| (simp only[iS hd2 hm2,mA,aC.c,aV.c,aP.c,Action.c,aK.c,aO.c,bM.c,aX.c,Node.c,aG.c,dL.c]<;>rfl)) (ih2 (i2+1) (wC++([(⟨js.parent,IZ,js.cM,a1I⟩:Node)])) (dn hd2) h)
theorem lZ{aD:aG}{r:aG}(h:iB aD=some r):Good prog 61 [D.agg (aG.c aD)] (D.agg [D.fr 63 4 (r.rules.map aK.c),D.fr 3 1 (r.ends.map gm),D.fr 83 3 (r.az.map aX.c),D.fr 74 8 (r.nodes.map Node.c),D.fr 43 2 (r.facts.map aC.c),D.int .i64 r.br]):=by
 refine gd func61 [[some (63,4),some (3,1),some (83,3),some (74,8),some (43,2),none]] 65 fun hr Γ hΓ=>?_
 rw[iB]at h;obtain⟨y1,h2,h⟩:=aB h;obtain⟨y3,h4,h⟩:=aB h;obtain⟨y5,h6,h⟩:=aB h;refine(((((aW.a [.n 13]).g (yj h2)).g (G2 h4)).g (cg h6)).a [.pb 5 2 83 3,.cn [1,2,3,21,22,23] [0,1,5,2,3,6,4]]).lp hΓ (E7 hΓ (fun kp h=>?_) (by have:=(gb.sl (gb.agg (hr _ (aE (i:=0) rfl)) (.sl (aD.az.map aX.c)) (by simp))).1;simpa using this) aD.az 0 ([]:bK) rfl h);refine(aW.a [.pb 2 3 74 8,.cn [2,3,41,42,43] [1,2,3,4,5,7,6]]).lp hΓ (E8 hΓ (fun mJ h=>?_) (by have:=(gb.sl (gb.agg (hr _ (aE (i:=0) rfl)) (.sl (aD.nodes.map Node.c)) (by simp))).1;simpa using this) aD.nodes 0 ([]:bI) rfl h);cases h;exact aW.ret hΓ
def kx(aD:aI)(aY:aC)(k1:Option Int):aI->Nat->Option Int
 | [],i1=>(k1)
 |bS::cT,i1=>((pV bS aY).bind fun Mi=>(bif Mi then(some (i1:Int))else(kx aD aY k1 cT (i1+1))))
def qz(aD:aI)(aY:aC):Option Int:=(kx aD aY (some (-1)) aD 0)
def J1(aD:aI)(aY:aC)(dG:Int):St:=⟨[(3,D.ptr 0 0),(7,D.sl (aD.map aC.c)),(8,D.int .i64 ((aD.map aC.c).length:Int)),(9,D.int .i64 dG)],[Ob.box (aC.c aY)]⟩
theorem HY(hΓ:Γ.nt=19){aD:aI}{aY:aC}{r:Int}{k1:Option Int}(dX:k1=some r->Ax Γ N f74 (.q [[none]] (D.int .i64 r)) [1,1] ⟨[],[]⟩)(hm1:aD.length<=maxLen):∀(rest:aI) (i1:Nat),aD.drop i1=rest->kx aD aY k1 rest i1=some r->Ar Γ N f74 (.q [[none]] (D.int .i64 r)) [1,0,1,0] (rest.length+1) (J1 aD aY (i1:Int)):=by
 intro rest
 induction rest with
 |nil=>
  intro i1 b8 h;rw[kx]at h;refine aU fun N1 cW cK=>?_
  exact((aW.ge aC.c b8).a [.hl 0 [] []]).ex hΓ cW (dX h)
 |cons bS cT ih1=>
  intro i1 b8 h;rw[kx]at h;refine aU fun N1 cW cK=>?_
  obtain⟨Mi,h22,h⟩:=aB h;have fE:=(((aW.lt aC.c b8).l (bG aC.c 2 (dc b8) rfl)).g (zZ h22))
  obtain⟨h23,h⟩|⟨h23,h⟩:=aL h
  ·cases h;exact(fE.b h23).ret hΓ
  ·exact((fE.b h23).a [.cn [3,7,8,9] [0]]).ct hΓ cK (iS b8 hm1) (ih1 (i1+1) (dn b8) h)
theorem zR{aD:aI}{aY:aC}{r:Int}(h:qz aD aY=some r):Good prog 74 [D.sl (aD.map aC.c),D.agg (aC.c aY)] (D.int .i64 r):=by
 refine gd func74 [[none]] 19 fun hr Γ hΓ=>?_
 rw[qz]at h;refine(aW.a [.cn [3,7,8,9] [0]]).lp hΓ (HY hΓ (fun h=>?_) (by have:=(gb.sl (hr _ (aE (i:=0) rfl))).1;simpa using this) aD 0 rfl h);cases h;exact aW.ret hΓ
def eA(aD:aI)(aY:aC)(k1:Bool->aI->Option aI):aI->Nat->Bool->aI->Option aI
 | [],i1,dH,bR=>(k1 dH bR)
 |bS::cT,i1,dH,bR=>(bif !(dH)then((gN bS aY).bind fun y93=>(bif decide ((y93:Int)>0)then((eR aY).bind fun Y7=>(bif room ((bR.map aC.c).length+([[D.str Y7.rel,D.sl (Y7.args.map tx)]]).length) 40 then((eR bS).bind fun y99=>(bif room (((bR.map aC.c)++([[D.str Y7.rel,D.sl (Y7.args.map tx)]])).length+([[D.str y99.rel,D.sl (y99.args.map tx)]]).length) 40 then(eA aD aY k1 cT (i1+1) true ((bR++([Y7]))++([y99])))else none))else none))else((eR bS).bind fun NZ=>(bif room ((bR.map aC.c).length+([[D.str NZ.rel,D.sl (NZ.args.map tx)]]).length) 40 then(eA aD aY k1 cT (i1+1) dH (bR++([NZ])))else none))))else((eR bS).bind fun Au=>(bif room ((bR.map aC.c).length+([[D.str Au.rel,D.sl (Au.args.map tx)]]).length) 40 then(eA aD aY k1 cT (i1+1) dH (bR++([Au])))else none)))
def vX(aD:aI)(aY:aC):Option aI:=(eA aD aY (fun(vi:Bool) (jo:aI)=>(bif !(vi)then((eR aY).bind fun Xr=>(bif room ((jo.map aC.c).length+([[D.str Xr.rel,D.sl (Xr.args.map tx)]]).length) 40 then(some (jo++([Xr])))else none))else(some jo))) aD 0 false ([]:aI))
def vJ(aD:aI)(aY:aC)(dH:Bool)(W1:List aQ)(dG:Int):St:=⟨[(3,D.ptr 0 0),(5,D.acc 1),(6,D.bool dH),(9,D.sl (aD.map aC.c)),(10,D.int .i64 ((aD.map aC.c).length:Int)),(11,D.int .i64 dG)],[Ob.box (aC.c aY),Ob.row .uq 43 2 W1]⟩
theorem JC(hΓ:Γ.nt=42){aD:aI}{aY:aC}{r:aI}{k1:Bool->aI->Option aI}(dX:∀(vi:Bool) (jo:aI),k1 vi jo=some r->Ax Γ N f184 (.q [[some (43,2)]] (D.fr 43 2 (r.map aC.c))) [1,1,1,1] ⟨[(3,D.ptr 0 0),(5,D.acc 1),(6,D.bool vi)],[Ob.box (aC.c aY),Ob.row .uq 43 2 (jo.map aC.c)]⟩)(hm1:aD.length<=maxLen):∀(rest:aI) (i1:Nat) (dH:Bool) (bR:aI),aD.drop i1=rest->eA aD aY k1 rest i1 dH bR=some r->Ar Γ N f184 (.q [[some (43,2)]] (D.fr 43 2 (r.map aC.c))) [1,1,1,0,1,0] (rest.length+1) (vJ aD aY dH (bR.map aC.c) (i1:Int)):=by
 intro rest
 induction rest with
 |nil=>
  intro i1 dH bR b8 h;rw[eA]at h;refine aU fun N1 cW cK=>?_
  exact((aW.ge aC.c b8).a [.hl 0 [3,5,6] [0,1]]).ex hΓ cW (dX dH bR h)
 |cons bS cT ih1=>
  intro i1 dH bR b8 h;rw[eA]at h;refine aU fun N1 cW cK=>?_
  have ij:=((aW.lt aC.c b8).l (bG aC.c 2 (dc b8) rfl))
  obtain⟨h92,h⟩|⟨h92,h⟩:=aL h
  ·obtain⟨y93,h94,h⟩:=aB h;have jO:=(((ij.r 3 h92).g (sD h94)).r 2 h92)
   obtain⟨h95,h⟩|⟨h95,h⟩:=aL h
   ·obtain⟨Y7,h97,h⟩:=aB h;obtain⟨h98,h⟩:=bQ h;obtain⟨y99,h100,h⟩:=aB h;obtain⟨h101,h⟩:=bQ h;exact((((((jO.b h95).g (gw h97)).w (bX h98)).g (gw h100)).w (bX h101)).a [.cn [3,5,6,9,10,11] [0,8]]).cs hΓ cK (vJ aD aY true (((bR.map aC.c)++([[D.str Y7.rel,D.sl (Y7.args.map tx)]]))++([[D.str y99.rel,D.sl (y99.args.map tx)]])) (IntKind.i64.wrap ((i1:Int)+1))) (by first| (simp only[iS b8 hm1,mA]<;>rfl)| (simp only[iS b8 hm1,mA,aC.c,aV.c,aP.c,Action.c,aK.c,aO.c,bM.c,aX.c,Node.c,aG.c,dL.c]<;>rfl)) (ih1 (i1+1) true ((bR++([Y7]))++([y99])) (dn b8) h)
   ·obtain⟨NZ,h103,h⟩:=aB h;obtain⟨h104,h⟩:=bQ h;exact((((jO.b h95).g (gw h103)).w (bX h104)).a [.cn [3,5,6,9,10,11] [0,5]]).cs hΓ cK (vJ aD aY dH ((bR.map aC.c)++([[D.str NZ.rel,D.sl (NZ.args.map tx)]])) (IntKind.i64.wrap ((i1:Int)+1))) (by first| (simp only[iS b8 hm1,mA]<;>rfl)| (simp only[iS b8 hm1,mA,aC.c,aV.c,aP.c,Action.c,aK.c,aO.c,bM.c,aX.c,Node.c,aG.c,dL.c]<;>rfl)) (ih1 (i1+1) dH (bR++([NZ])) (dn b8) h)
  ·obtain⟨Au,h106,h⟩:=aB h;obtain⟨h107,h⟩:=bQ h;exact(((((ij.r 5 h92).F 1).g (gw h106)).w (bX h107)).a [.cn [3,5,6,9,10,11] [0,5]]).cs hΓ cK (vJ aD aY dH ((bR.map aC.c)++([[D.str Au.rel,D.sl (Au.args.map tx)]])) (IntKind.i64.wrap ((i1:Int)+1))) (by first| (simp only[iS b8 hm1,mA]<;>rfl)| (simp only[iS b8 hm1,mA,aC.c,aV.c,aP.c,Action.c,aK.c,aO.c,bM.c,aX.c,Node.c,aG.c,dL.c]<;>rfl)) (ih1 (i1+1) dH (bR++([Au])) (dn b8) h)
theorem Hq{aD:aI}{aY:aC}{r:aI}(h:vX aD aY=some r):Good prog 184 [D.sl (aD.map aC.c),D.agg (aC.c aY)] (D.fr 43 2 (r.map aC.c)):=by
 refine gd func184 [[some (43,2)]] 42 fun hr Γ hΓ=>?_
 rw[vX]at h;refine(aW.a [.LP 5,.cn [3,5,6,9,10,11] [0,1]]).lp hΓ (JC hΓ (fun vi jo h=>?_) (by have:=(gb.sl (hr _ (aE (i:=0) rfl))).1;simpa using this) aD 0 false ([]:aI) rfl h);obtain⟨h108,h⟩|⟨h108,h⟩:=aL h
 ·obtain⟨Xr,h110,h⟩:=aB h;obtain⟨h111,h⟩:=bQ h;cases h;exact(((aW.b h108).g (gw h110)).w (bX h111)).rts hΓ (D.fr 43 2 ((jo.map aC.c)++([[D.str Xr.rel,D.sl (Xr.args.map tx)]]))) (by first|rfl| (simp only[mA]<;>rfl)| (simp only[cB,mA]<;>rfl))
 ·have h:=aN h;subst h;exact(aW.b h108).ret hΓ
def vU(aD:aI)(aY:aC):Option (aI×Bool):=((pT aD).bind fun y1=>(bif !(y1)then((cV aD).bind fun y4=>(some (y4,false)))else((qH aY).bind fun y6=>(bif !(y6)then((cV aD).bind fun y9=>(some (y9,false)))else((qz aD aY).bind fun B3=>(bif decide ((B3:Int)>=0)then((cV aD).bind fun yW=>(some (yW,false)))else(bif decide ((((aD.map aC.c).length:Int):Int)>=24)then((cV aD).bind fun VA=>(some (VA,false)))else((vX aD aY).bind fun yX=>(some (yX,true))))))))))
theorem AP{aD:aI}{aY:aC}{r:aI×Bool}(h:vU aD aY=some r):Good prog 119 [D.sl (aD.map aC.c),D.agg (aC.c aY)] (D.ff [D.fr 43 2 (r.1.map aC.c),D.bool r.2]):=by
 refine gd func119 [[some (43,2)],[none]] 30 fun hr Γ hΓ=>?_
 rw[vU]at h;obtain⟨y1,h2,h⟩:=aB h;obtain⟨h3,h⟩|⟨h3,h⟩:=aL h
 ·obtain⟨y4,h5,h⟩:=aB h;cases h;exact((((aW.g (rO h2)).r 4 h3).T 10).g (cg h5)).ret hΓ
 ·obtain⟨y6,h7,h⟩:=aB h;have kX:=((((aW.g (rO h2)).r 2 h3).g (xG h7)).r 2 h3)
  obtain⟨h8,h⟩|⟨h8,h⟩:=aL h
  ·obtain⟨y9,h10,h⟩:=aB h;cases h;exact(((kX.r 5 h8).T 5).g (cg h10)).ret hΓ
  ·obtain⟨B3,h12,h⟩:=aB h;have fE:=(((kX.r 3 h8).g (zR h12)).r 2 h8)
   obtain⟨h13,h⟩|⟨h13,h⟩:=aL h
   ·obtain⟨yW,h15,h⟩:=aB h;cases h;exact(((fE.r 4 h13).T 1).g (cg h15)).ret hΓ
   ·have ij:=(fE.r 4 h13)
    obtain⟨h16,h⟩|⟨h16,h⟩:=aL h
    ·obtain⟨VA,h18,h⟩:=aB h;cases h;exact((ij.b h16).g (cg h18)).ret hΓ
    ·obtain⟨yX,h20,h⟩:=aB h;cases h;exact((ij.b h16).g (Hq h20)).ret hΓ
def fK(aD:aI)(aY:aI)(k1:Option Int):aI->Nat->Option Int
 | [],i1=>(k1)
 |bS::cT,i1=>(bif decide (((i1:Int):Int)<((aY.map aC.c).length:Int))then((fy aY (i1:Int)).bind fun x34=>((gN bS x34).bind fun NH=>(bif (NH:Int) != 0 then(some NH)else(fK aD aY k1 cT (i1+1)))))else(k1))
def pL(aD:aI)(aY:aI):Option Int:=(fK aD aY ((j8 ((aD.map aC.c).length:Int) ((aY.map aC.c).length:Int)).bind fun EZ=>(some EZ)) aD 0)
def BO(aD:aI)(aY:aI)(dG:Int):St:=⟨[(0,D.sl (aD.map aC.c)),(1,D.sl (aY.map aC.c)),(5,D.int .i64 dG)],[]⟩
theorem Ak(hΓ:Γ.nt=36){aD:aI}{aY:aI}{r:Int}{k1:Option Int}(dX:k1=some r->Ax Γ N f232 (.q [[none]] (D.int .i64 r)) [1,1] ⟨[(0,D.sl (aD.map aC.c)),(1,D.sl (aY.map aC.c))],[]⟩)(hm1:aD.length<=maxLen):∀(rest:aI) (i1:Nat),aD.drop i1=rest->fK aD aY k1 rest i1=some r->Ar Γ N f232 (.q [[none]] (D.int .i64 r)) [1,0,1,0] (rest.length+1) (BO aD aY (i1:Int)):=by
 intro rest
 induction rest with
 |nil=>
  intro i1 b8 h;rw[fK]at h;refine aU fun N1 cW cK=>?_
  exact(((((((aW.ge aC.c b8).ge aC.c b8).ge aC.c b8).ge aC.c b8).ge aC.c b8).F 1).a [.hl 0 [0,1] []]).ex hΓ cW (dX h)
 |cons bS cT ih1=>
  intro i1 b8 h;rw[fK]at h;refine aU fun N1 cW cK=>?_
  have ij:=(((((aW.lt aC.c b8).lt aC.c b8).lt aC.c b8).lt aC.c b8).lt aC.c b8)
  obtain⟨h33,h⟩|⟨h33,h⟩:=aL h
  ·obtain⟨x34,h35,h⟩:=aB h;obtain⟨NH,h37,h⟩:=aB h;have jO:=(((((ij.b h33).a [.n 8]).l (bG aC.c 2 (dc b8) rfl)).l (fB aC.c 2 h35 rfl)).g (sD h37))
   obtain⟨h38,h⟩|⟨h38,h⟩:=aL h
   ·have h:=aN h;subst h;exact(jO.b h38).ret hΓ
   ·exact((jO.b h38).a [.cn [0,1,5] []]).ct hΓ cK (iS b8 hm1) (ih1 (i1+1) (dn b8) h)
  ·exact((ij.b h33).a [.hl 0 [0,1] []]).ex hΓ cW (dX h)
theorem AA{aD:aI}{aY:aI}{r:Int}(h:pL aD aY=some r):Good prog 232 [D.sl (aD.map aC.c),D.sl (aY.map aC.c)] (D.int .i64 r):=by
 refine gd func232 [[none]] 36 fun hr Γ hΓ=>?_
 rw[pL]at h;refine(aW.a [.cn [0,1,5] []]).lp hΓ (Ak hΓ (fun h=>?_) (by have:=(gb.sl (hr _ (aE (i:=0) rfl))).1;simpa using this) aD 0 rfl h);obtain⟨EZ,h40,h⟩:=aB h;have h:=aN h;subst h;exact(aW.g (tA h40)).ret hΓ
def om(aD:aO)(aY:aO):Option Int:=((pL aD.facts aY.facts).bind fun y1=>(some y1))
theorem C2{aD:aO}{aY:aO}{r:Int}(h:om aD aY=some r):Good prog 220 [D.agg (aO.c aD),D.agg (aO.c aY)] (D.int .i64 r):=by
 refine gd func220 [[none]] 10 fun hr Γ hΓ=>?_
 rw[om]at h;obtain⟨y1,h2,h⟩:=aB h;have h:=aN h;subst h;exact(aW.g (AA h2)).ret hΓ
def lB(aD:ai)(aY:aO)(k1:Option Bool):ai->Nat->Option Bool
 | [],i1=>(k1)
 |bS::cT,i1=>((om bS aY).bind fun Mi=>(bif (Mi:Int)==0 then(some true)else(lB aD aY k1 cT (i1+1))))
def uN(aD:ai)(aY:aO):Option Bool:=(lB aD aY (some false) aD 0)
def JB(aD:ai)(aY:aO)(dG:Int):St:=⟨[(3,D.ptr 0 0),(7,D.sl (aD.map aO.c)),(8,D.int .i64 ((aD.map aO.c).length:Int)),(9,D.int .i64 dG)],[Ob.box (aO.c aY)]⟩
theorem Hp(hΓ:Γ.nt=18){aD:ai}{aY:aO}{r:Bool}{k1:Option Bool}(dX:k1=some r->Ax Γ N f185 (.q [[none]] (D.bool r)) [1,1] ⟨[],[]⟩)(hm1:aD.length<=maxLen):∀(rest:ai) (i1:Nat),aD.drop i1=rest->lB aD aY k1 rest i1=some r->Ar Γ N f185 (.q [[none]] (D.bool r)) [1,0,1,0] (rest.length+1) (JB aD aY (i1:Int)):=by
 intro rest
 induction rest with
 |nil=>
  intro i1 b8 h;rw[lB]at h;refine aU fun N1 cW cK=>?_
  exact((aW.ge aO.c b8).a [.hl 0 [] []]).ex hΓ cW (dX h)
 |cons bS cT ih1=>
  intro i1 b8 h;rw[lB]at h;refine aU fun N1 cW cK=>?_
  obtain⟨Mi,h22,h⟩:=aB h;have fE:=(((aW.lt aO.c b8).l (bG aO.c 2 (dc b8) rfl)).g (C2 h22))
  obtain⟨h23,h⟩|⟨h23,h⟩:=aL h
  ·have h:=aN h;subst h;exact(fE.b h23).ret hΓ
  ·exact((fE.b h23).a [.cn [3,7,8,9] [0]]).ct hΓ cK (iS b8 hm1) (ih1 (i1+1) (dn b8) h)
theorem G5{aD:ai}{aY:aO}{r:Bool}(h:uN aD aY=some r):Good prog 185 [D.sl (aD.map aO.c),D.agg (aO.c aY)] (D.bool r):=by
 refine gd func185 [[none]] 18 fun hr Γ hΓ=>?_
 rw[uN]at h;refine(aW.a [.cn [3,7,8,9] [0]]).lp hΓ (Hp hΓ (fun h=>?_) (by have:=(gb.sl (hr _ (aE (i:=0) rfl))).1;simpa using this) aD 0 rfl h);have h:=aN h;subst h;exact aW.ret hΓ
def kJ(aD:aG)(cX:aC)(y3:aG×Unit)(nh:Int)(i1:Nat)(bS:Node)(x313:Node)(k2:Int->Int->Option aG):ai->Nat->Int->Int->Option aG
 | [],i2,CN,CO=>(k2 CN CO)
 |js::ua,i2,CN,CO=>((fy aD.nodes bS.parent).bind fun x359=>((uN x359.tokens js).bind fun a9v=>(bif a9v then(kJ aD cX y3 nh i1 bS x313 k2 ua (i2+1) (IntKind.i64.wrap (CN+1)) CO)else(kJ aD cX y3 nh i1 bS x313 k2 ua (i2+1) CN (IntKind.i64.wrap (CO+1))))))
def fm(aD:aG)(cX:aC)(y3:aG×Unit)(k1:Int->Option aG):bI->Nat->Int->Option aG
 | [],i1,nh=>(k1 nh)
 |bS::cT,i1,nh=>(bif ((i1:Int):Int)==0 then(fm aD cX y3 k1 cT (i1+1) nh)else((fy y3.1.nodes bS.parent).bind fun x313=>(bif decide (x313.tokens.length<=maxLen)then(kJ aD cX y3 nh i1 bS x313 (fun(Qd:Int) (Iw:Int)=>(bif decide ((bS.cM:Int)<0)then(fm aD cX y3 k1 cT (i1+1) (IntKind.i64.wrap (nh+Iw)))else((fy y3.1.az bS.cM).bind fun x365=>((jb x365.shape cX ([])).bind fun Xs=>(bif Xs.2 then(fm aD cX y3 k1 cT (i1+1) (IntKind.i64.wrap ((IntKind.i64.wrap (nh+(IntKind.i64.wrap (Iw*((x365.facts.map aC.c).length:Int)))))+Qd)))else(fm aD cX y3 k1 cT (i1+1) (IntKind.i64.wrap (nh+(IntKind.i64.wrap (Iw*((x365.facts.map aC.c).length:Int))))))))))) x313.tokens 0 0 0)else none)))
def sy(aD:aG)(aY:aI)(cX:aC):Option aG:=((iB aD).bind fun y1=>((jX y1 aY).bind fun y3=>(bif decide (y3.1.nodes.length<=maxLen)then(fm aD cX y3 (fun(vg:Int)=>(some (⟨y3.1.rules,y3.1.ends,y3.1.az,y3.1.nodes,y3.1.facts,vg⟩:aG))) y3.1.nodes 0 y3.1.br)else none)))
def KJ(aD:aG)(cX:aC)(y3:aG×Unit)(nh:Int)(dG:Int):St:=⟨[(3,D.ptr 0 0),(5,D.ptr 1 0),(6,D.ptr 2 0),(7,D.ptr 3 0),(22,D.acc 4),(23,D.int .i64 ((y3.1.nodes.map Node.c).length:Int)),(24,D.int .i64 dG)],[Ob.box (aG.c aD),Ob.box (aC.c cX),Ob.box [D.nil,D.nil,D.nil,D.nil,D.nil,D.int .i64 0],Ob.box [D.acc 5,D.acc 6,D.acc 7,D.acc 4,D.acc 8,D.int .i64 nh],Ob.row .uq 74 8 (y3.1.nodes.map Node.c),Ob.row .uq 63 4 (y3.1.rules.map aK.c),Ob.row .uq 3 1 (y3.1.ends.map gm),Ob.row .uq 83 3 (y3.1.az.map aX.c),Ob.row .uq 43 2 (y3.1.facts.map aC.c)]⟩
def KK(aD:aG)(cX:aC)(y3:aG×Unit)(nh:Int)(i1:Nat)(bS:Node)(x313:Node)(CN:Int)(CO:Int)(dG:Int):St:=⟨[(3,D.ptr 0 0),(5,D.ptr 1 0),(6,D.ptr 2 0),(7,D.ptr 3 0),(9,D.ptr 4 0),(10,D.int .i64 CN),(11,D.int .i64 CO),(22,D.acc 5),(23,D.int .i64 ((y3.1.nodes.map Node.c).length:Int)),(24,D.int .i64 (i1:Int)),(37,D.sl (x313.tokens.map aO.c)),(38,D.int .i64 ((x313.tokens.map aO.c).length:Int)),(39,D.int .i64 dG)],[Ob.box (aG.c aD),Ob.box (aC.c cX),Ob.box [D.nil,D.nil,D.nil,D.nil,D.nil,D.int .i64 0],Ob.box [D.acc 6,D.acc 7,D.acc 8,D.acc 5,D.acc 9,D.int .i64 nh],Ob.box [D.int .i64 bS.parent,D.int .i64 bS.cond.kind,D.str bS.cond.pat.rel,D.sl (bS.cond.pat.args.map tx),D.str bS.cond.left,D.str bS.cond.right,D.int .i64 bS.cM,D.sl (bS.tokens.map aO.c)],Ob.row .uq 74 8 (y3.1.nodes.map Node.c),Ob.row .uq 63 4 (y3.1.rules.map aK.c),Ob.row .uq 3 1 (y3.1.ends.map gm),Ob.row .uq 83 3 (y3.1.az.map aX.c),Ob.row .uq 43 2 (y3.1.facts.map aC.c)]⟩
theorem J8(hΓ:Γ.nt=95){aD:aG}{cX:aC}{y3:aG×Unit}{nh:Int}{i1:Nat}{bS:Node}{x313:Node}{r:aG}{k2:Int->Int->Option aG}(zx:∀(Qd:Int) (Iw:Int),k2 Qd Iw=some r->Ax Γ N f120 (.q [[some (63,4),some (3,1),some (83,3),some (74,8),some (43,2),none]] (D.agg [D.fr 63 4 (r.rules.map aK.c),D.fr 3 1 (r.ends.map gm),D.fr 83 3 (r.az.map aX.c),D.fr 74 8 (r.nodes.map Node.c),D.fr 43 2 (r.facts.map aC.c),D.int .i64 r.br])) [1,1,1,0,1,0,0,1,1,0,0,1,1,1,1] ⟨[(3,D.ptr 0 0),(5,D.ptr 1 0),(6,D.ptr 2 0),(7,D.ptr 3 0),(9,D.ptr 4 0),(10,D.int .i64 Qd),(11,D.int .i64 Iw),(22,D.acc 5),(23,D.int .i64 ((y3.1.nodes.map Node.c).length:Int)),(24,D.int .i64 (i1:Int))],[Ob.box (aG.c aD),Ob.box (aC.c cX),Ob.box [D.nil,D.nil,D.nil,D.nil,D.nil,D.int .i64 0],Ob.box [D.acc 6,D.acc 7,D.acc 8,D.acc 5,D.acc 9,D.int .i64 nh],Ob.box [D.int .i64 bS.parent,D.int .i64 bS.cond.kind,D.str bS.cond.pat.rel,D.sl (bS.cond.pat.args.map tx),D.str bS.cond.left,D.str bS.cond.right,D.int .i64 bS.cM,D.sl (bS.tokens.map aO.c)],Ob.row .uq 74 8 (y3.1.nodes.map Node.c),Ob.row .uq 63 4 (y3.1.rules.map aK.c),Ob.row .uq 3 1 (y3.1.ends.map gm),Ob.row .uq 83 3 (y3.1.az.map aX.c),Ob.row .uq 43 2 (y3.1.facts.map aC.c)]⟩)(hm2:x313.tokens.length<=maxLen):∀(rest:ai) (i2:Nat) (CN:Int) (CO:Int),x313.tokens.drop i2=rest->kJ aD cX y3 nh i1 bS x313 k2 rest i2 CN CO=some r->Ar Γ N f120 (.q [[some (63,4),some (3,1),some (83,3),some (74,8),some (43,2),none]] (D.agg [D.fr 63 4 (r.rules.map aK.c),D.fr 3 1 (r.ends.map gm),D.fr 83 3 (r.az.map aX.c),D.fr 74 8 (r.nodes.map Node.c),D.fr 43 2 (r.facts.map aC.c),D.int .i64 r.br])) [1,1,1,0,1,0,0,1,1,0,0,1,1,1,0,1,0] (rest.length+1) (KK aD cX y3 nh i1 bS x313 CN CO (i2:Int)):=by
 intro rest
 induction rest with
 |nil=>
  intro i2 CN CO hd2 h;rw[kJ]at h;refine aU fun N2 vC s6=>?_
  exact((aW.ge aO.c hd2).a [.hl 5 [3,5,6,7,9,10,11,22,23,24] [0,1,2,3,4,5,6,7,8,9]]).ex hΓ vC (zx CN CO h)
 |cons js ua ih2=>
  intro i2 CN CO hd2 h;rw[kJ]at h;refine aU fun N2 vC s6=>?_
  obtain⟨x359,h360,h⟩:=aB h;obtain⟨a9v,h362,h⟩:=aB h;have LK:=(((((aW.lt aO.c hd2).l (bG aO.c 2 (dc hd2) rfl)).a [.n 8]).l (fB Node.c 8 h360 rfl)).g (G5 h362))
  obtain⟨h363,h⟩|⟨h363,h⟩:=aL h
  ·exact((LK.b h363).a [.cn [3,5,6,7,9,10,11,22,23,24,37,38,39] [0,1,2,3,4,5,6,7,8,9]]).ct hΓ s6 (iS hd2 hm2) (ih2 (i2+1) (IntKind.i64.wrap (CN+1)) CO (dn hd2) h)
  ·exact((LK.b h363).a [.cn [3,5,6,7,9,10,11,22,23,24,37,38,39] [0,1,2,3,4,5,6,7,8,9]]).ct hΓ s6 (iS hd2 hm2) (ih2 (i2+1) CN (IntKind.i64.wrap (CO+1)) (dn hd2) h)
theorem J7(hΓ:Γ.nt=95){aD:aG}{cX:aC}{y3:aG×Unit}{r:aG}{k1:Int->Option aG}(dX:∀(vg:Int),k1 vg=some r->Ax Γ N f120 (.q [[some (63,4),some (3,1),some (83,3),some (74,8),some (43,2),none]] (D.agg [D.fr 63 4 (r.rules.map aK.c),D.fr 3 1 (r.ends.map gm),D.fr 83 3 (r.az.map aX.c),D.fr 74 8 (r.nodes.map Node.c),D.fr 43 2 (r.facts.map aC.c),D.int .i64 r.br])) [1,1,1,1] ⟨[(6,D.ptr 0 0),(7,D.ptr 1 0)],[Ob.box [D.nil,D.nil,D.nil,D.nil,D.nil,D.int .i64 0],Ob.box [D.acc 2,D.acc 3,D.acc 4,D.acc 5,D.acc 6,D.int .i64 vg],Ob.row .uq 63 4 (y3.1.rules.map aK.c),Ob.row .uq 3 1 (y3.1.ends.map gm),Ob.row .uq 83 3 (y3.1.az.map aX.c),Ob.row .uq 74 8 (y3.1.nodes.map Node.c),Ob.row .uq 43 2 (y3.1.facts.map aC.c)]⟩)(hm1:y3.1.nodes.length<=maxLen):∀(rest:bI) (i1:Nat) (nh:Int),y3.1.nodes.drop i1=rest->fm aD cX y3 k1 rest i1 nh=some r->Ar Γ N f120 (.q [[some (63,4),some (3,1),some (83,3),some (74,8),some (43,2),none]] (D.agg [D.fr 63 4 (r.rules.map aK.c),D.fr 3 1 (r.ends.map gm),D.fr 83 3 (r.az.map aX.c),D.fr 74 8 (r.nodes.map Node.c),D.fr 43 2 (r.facts.map aC.c),D.int .i64 r.br])) [1,1,1,0,1,0] (rest.length+1) (KJ aD cX y3 nh (i1:Int)):=by
 intro rest
 induction rest with
 |nil=>
  intro i1 nh b8 h;rw[fm]at h;refine aU fun N1 cW cK=>?_
  exact((aW.ge Node.c b8).a [.hl 0 [6,7] [2,3,5,6,7,4,8]]).ex hΓ cW (dX nh h)
 |cons bS cT ih1=>
  intro i1 nh b8 h;rw[fm]at h;refine aU fun N1 cW cK=>?_
  have TD:=(((aW.lt Node.c b8).i (mL Node.c 8 (dc b8))).o 8 8 .uq (cH Node.c (dc b8)))
  obtain⟨h312,h⟩|⟨h312,h⟩:=aL h
  ·exact((TD.b h312).a [.cn [3,5,6,7,22,23,24] [0,1,2,3,4,5,6,7,8]]).ct hΓ cK (iS b8 hm1) (ih1 (i1+1) nh (dn b8) h)
  ·obtain⟨x313,h314,h⟩:=aB h;obtain⟨h370,h⟩:=bQ h;refine((((TD.b h312).i (ed Node.c 8 h314)).o 8 8 .uq (cH Node.c (dN h314))).a [.cn [3,5,6,7,9,10,11,22,23,24,37,38,39] [0,1,2,3,9,4,5,6,7,8]]).lp hΓ (J8 hΓ (fun Qd Iw h=>?_) (bV h370) x313.tokens 0 0 0 rfl h);obtain⟨h364,h⟩|⟨h364,h⟩:=aL h
   ·exact((aW.b h364).a [.cn [3,5,6,7,22,23,24] [0,1,2,3,5,6,7,8,9]]).ct hΓ cK (iS b8 hm1) (ih1 (i1+1) (IntKind.i64.wrap (nh+Iw)) (dn b8) h)
   ·obtain⟨x365,h366,h⟩:=aB h;obtain⟨Xs,h368,h⟩:=aB h;have TE:=(((((aW.b h364).i (ed aX.c 3 h366)).o 3 3 .uq (cH aX.c (dN h366))).a [.d (D.ff [D.fr 113 2 (Xs.1.map aV.c),D.bool Xs.2])]).w (show Good prog 186 [D.agg (aC.c x365.shape),D.agg (aC.c cX),D.sl ([])] (D.ff [D.fr 113 2 (Xs.1.map aV.c),D.bool Xs.2])from by first| (simpa only[bD,au,bg,bZ,bh]using ql h368)|exact ql h368))
    obtain⟨h369,h⟩|⟨h369,h⟩:=aL h
    ·exact((TE.b h369).a [.cn [3,5,6,7,22,23,24] [0,1,2,3,5,6,7,8,9]]).ct hΓ cK (iS b8 hm1) (ih1 (i1+1) (IntKind.i64.wrap ((IntKind.i64.wrap (nh+(IntKind.i64.wrap (Iw*((x365.facts.map aC.c).length:Int)))))+Qd)) (dn b8) h)
    ·exact((TE.b h369).a [.cn [3,5,6,7,22,23,24] [0,1,2,3,5,6,7,8,9]]).ct hΓ cK (iS b8 hm1) (ih1 (i1+1) (IntKind.i64.wrap (nh+(IntKind.i64.wrap (Iw*((x365.facts.map aC.c).length:Int))))) (dn b8) h)
theorem AS{aD:aG}{aY:aI}{cX:aC}{r:aG}(h:sy aD aY cX=some r):Good prog 120 [D.agg (aG.c aD),D.sl (aY.map aC.c),D.agg (aC.c cX)] (D.agg [D.fr 63 4 (r.rules.map aK.c),D.fr 3 1 (r.ends.map gm),D.fr 83 3 (r.az.map aX.c),D.fr 74 8 (r.nodes.map Node.c),D.fr 43 2 (r.facts.map aC.c),D.int .i64 r.br]):=by
 refine gd func120 [[some (63,4),some (3,1),some (83,3),some (74,8),some (43,2),none]] 95 fun hr Γ hΓ=>?_
 rw[sy]at h;obtain⟨y1,h2,h⟩:=aB h;obtain⟨y3,h4,h⟩:=aB h;obtain⟨h371,h⟩:=bQ h;refine(((aW.g (lZ h2)).hp [[some (63,4),some (3,1),some (83,3),some (74,8),some (43,2),none],[none]] (vI h4)).a [.cn [3,5,6,7,22,23,24] [0,1,2,8,12,9,10,11,13]]).lp hΓ (J7 hΓ (fun vg h=>?_) (bV h371) y3.1.nodes 0 y3.1.br rfl h);cases h;exact aW.ret hΓ
def EA(aD:aG)(aY:aC):Option (aG×Bool):=((vU aD.facts aY).bind fun y1=>(bif !(y1.2)then((iB aD).bind fun y4=>(some (y4,false)))else((sy aD y1.1 aY).bind fun y6=>(some (y6,true)))))
theorem NM{aD:aG}{aY:aC}{r:aG×Bool}(h:EA aD aY=some r):Good prog 62 [D.agg (aG.c aD),D.agg (aC.c aY)] (D.ff [D.agg [D.fr 63 4 (r.1.rules.map aK.c),D.fr 3 1 (r.1.ends.map gm),D.fr 83 3 (r.1.az.map aX.c),D.fr 74 8 (r.1.nodes.map Node.c),D.fr 43 2 (r.1.facts.map aC.c),D.int .i64 r.1.br],D.bool r.2]):=by
 refine gd func62 [[some (63,4),some (3,1),some (83,3),some (74,8),some (43,2),none],[none]] 23 fun hr Γ hΓ=>?_
 rw[EA]at h;obtain⟨y1,h2,h⟩:=aB h;obtain⟨h3,h⟩|⟨h3,h⟩:=aL h
 ·obtain⟨y4,h5,h⟩:=aB h;cases h;exact(((aW.g (AP h2)).b h3).g (lZ h5)).ret hΓ
 ·obtain⟨y6,h7,h⟩:=aB h;cases h;exact(((aW.g (AP h2)).b h3).g (AS h7)).ret hΓ
def jv(aD:aG)(aY:aC):Option (aG×Bool):=((gT aD).bind fun y1=>(bif !(y1)then((iB aD).bind fun y4=>(some (y4,false)))else((EA aD aY).bind fun y6=>(some (y6.1,y6.2)))))
theorem sH{aD:aG}{aY:aC}{r:aG×Bool}(h:jv aD aY=some r):Good prog 21 [D.agg (aG.c aD),D.agg (aC.c aY)] (D.ff [D.agg [D.fr 63 4 (r.1.rules.map aK.c),D.fr 3 1 (r.1.ends.map gm),D.fr 83 3 (r.1.az.map aX.c),D.fr 74 8 (r.1.nodes.map Node.c),D.fr 43 2 (r.1.facts.map aC.c),D.int .i64 r.1.br],D.bool r.2]):=by
 refine gd func21 [[some (63,4),some (3,1),some (83,3),some (74,8),some (43,2),none],[none]] 16 fun hr Γ hΓ=>?_
 rw[jv]at h;obtain⟨y1,h2,h⟩:=aB h;obtain⟨h3,h⟩|⟨h3,h⟩:=aL h
 ·obtain⟨y4,h5,h⟩:=aB h;cases h;exact(((aW.g (fO h2)).b h3).g (lZ h5)).ret hΓ
 ·obtain⟨y6,h7,h⟩:=aB h;cases h;exact(((aW.g (fO h2)).b h3).g (NM h7)).ret hΓ
variable{Γ:vn}{N:Nat->St->Prop}
def wo(aD:cQ):Option (cQ×(aG×aC)):=((uj aD).bind fun y1=>((eP y1.1 10).bind fun y3=>(bif y3.2 then((yM y3.1).bind fun y6=>(bif decide ((((y6.2.facts.map aC.c).length:Int):Int)>0)then((eP y6.1 2).bind fun y9=>(bif y9.2 then((cP y9.1 ((y6.2.facts.map aC.c).length:Int)).bind fun Pm=>((fy y6.2.facts Pm.2).bind fun x20=>((dQ x20).bind fun qp=>(some (Pm.1,(y6.2,qp))))))else((eP y9.1 8).bind fun Di=>(bif Di.2 then((kj Di.1).bind fun Cq=>(some (Cq.1,(y6.2,Cq.2))))else((ew Di.1).bind fun tV=>(some (tV.1,(y6.2,tV.2))))))))else((eP y6.1 8).bind fun Cr=>(bif Cr.2 then((kj Cr.1).bind fun Wb=>(some (Wb.1,(y6.2,Wb.2))))else((ew Cr.1).bind fun Y6=>(some (Y6.1,(y6.2,Y6.2))))))))else(bif decide ((((y1.2.facts.map aC.c).length:Int):Int)>0)then((eP y3.1 2).bind fun Xt=>(bif Xt.2 then((cP Xt.1 ((y1.2.facts.map aC.c).length:Int)).bind fun y56=>((fy y1.2.facts y56.2).bind fun x58=>((dQ x58).bind fun Ln=>(some (y56.1,(y1.2,Ln))))))else((eP Xt.1 8).bind fun y62=>(bif y62.2 then((kj y62.1).bind fun Tl=>(some (Tl.1,(y1.2,Tl.2))))else((ew y62.1).bind fun y71=>(some (y71.1,(y1.2,y71.2))))))))else((eP y3.1 8).bind fun Bz=>(bif Bz.2 then((kj Bz.1).bind fun y78=>(some (y78.1,(y1.2,y78.2))))else((ew Bz.1).bind fun y82=>(some (y82.1,(y1.2,y82.2))))))))))
theorem Jb{aD:cQ}{r:cQ×(aG×aC)}(h:wo aD=some r):iL prog 60 (cQ.c aD) (cQ.c r.1) [] (D.ff [D.agg [D.sl (r.2.1.rules.map aK.c),D.fr 3 1 (r.2.1.ends.map gm),D.fr 83 3 (r.2.1.az.map aX.c),D.fr 74 8 (r.2.1.nodes.map Node.c),D.fr 43 2 (r.2.1.facts.map aC.c),D.int .i64 r.2.1.br],D.agg [D.str r.2.2.rel,D.fr 9 1 (r.2.2.args.map tx)]]):=by
 refine Jt func60 [[none,none,none],[none,some (3,1),some (83,3),some (74,8),some (43,2),none],[none,some (9,1)]] 38 [D.sl (aD.b.map yx),D.int .i64 aD.i,D.int .i64 aD.h] [] [] fun hr iU Γ hΓ=>?_
 rw[wo]at h;obtain⟨y1,h2,h⟩:=aB h;obtain⟨y3,h4,h⟩:=aB h;have kX:=((aW.hp [[none,none,none]] (Be h2)).hp [[none,none,none],[none]] (eU h4))
 obtain⟨h5,h⟩|⟨h5,h⟩:=aL h
 ·obtain⟨y6,h7,h⟩:=aB h;have fE:=((kX.b h5).hp [[none,none,none]] (Kn h7))
  obtain⟨h8,h⟩|⟨h8,h⟩:=aL h
  ·obtain⟨y9,h10,h⟩:=aB h;have ij:=(((fE.r 2 h8).hp [[none,none,none],[none]] (eU h10)).b h8)
   obtain⟨h11,h⟩|⟨h11,h⟩:=aL h
   ·obtain⟨Pm,h19,h⟩:=aB h;obtain⟨x20,h21,h⟩:=aB h;obtain⟨qp,h23,h⟩:=aB h;cases h;exact((((((ij.b h11).a [.n2 [0,1,2,3,4,5,6,7,8,9,10,11,12] [0,1,2,3,4,5,6,7,8,9,10,11,12] 7 11 [0,1,2] [0]]).hp [[none,none,none],[none]] (cD h19)).i (ed aC.c 2 h21)).o 2 2 .uq (cH aC.c (dN h21))).g (eV h23)).ret hΓ
   ·obtain⟨Di,h25,h⟩:=aB h;have jO:=((ij.b h11).hp [[none,none,none],[none]] (eU h25))
    obtain⟨h26,h⟩|⟨h26,h⟩:=aL h
    ·obtain⟨Cq,h30,h⟩:=aB h;cases h;exact(((jO.b h26).a [.n2 [0,1,2,3,4] [0,1,2,3,4] 2 3 [0] [0]]).hp [[none,none,none]] (rY h30)).ret hΓ
    ·obtain⟨tV,h34,h⟩:=aB h;cases h;exact(((jO.b h26).a [.n2 [0,1,2,3,4] [0,1,2,3,4] 2 3 [0] [0]]).hp [[none,none,none]] (oJ h34)).ret hΓ
  ·obtain⟨Cr,h36,h⟩:=aB h;have tS:=(((fE.r 3 h8).F 1).hp [[none,none,none],[none]] (eU h36))
   obtain⟨h37,h⟩|⟨h37,h⟩:=aL h
   ·obtain⟨Wb,h41,h⟩:=aB h;cases h;exact(((tS.b h37).a [.n2 [0,1,2,3,4] [0,1,2,3,4] 2 3 [0] [0]]).hp [[none,none,none]] (rY h41)).ret hΓ
   ·obtain⟨Y6,h45,h⟩:=aB h;cases h;exact(((tS.b h37).a [.n2 [0,1,2,3,4] [0,1,2,3,4] 2 3 [0] [0]]).hp [[none,none,none]] (oJ h45)).ret hΓ
 ·obtain⟨h46,h⟩|⟨h46,h⟩:=aL h
  ·obtain⟨Xt,h48,h⟩:=aB h;have wK:=((((kX.b h5).r 2 h46).hp [[none,none,none],[none]] (eU h48)).b h46)
   obtain⟨h49,h⟩|⟨h49,h⟩:=aL h
   ·obtain⟨y56,h57,h⟩:=aB h;obtain⟨x58,h59,h⟩:=aB h;obtain⟨Ln,h61,h⟩:=aB h;cases h;exact(((((((wK.b h49).a [.n2 [0,1,2,3,4,5,6,7,8,9,10,11,12] [0,1,2,3,4,5,6,7,8,9,10,11,12] 7 11 [0,1,2] [0]]).hp [[none,none,none],[none]] (cD h57)).i (ed aC.c 2 h59)).o 2 2 .uq (cH aC.c (dN h59))).g (eV h61)).a [.sk 3]).ret hΓ
   ·obtain⟨y62,h63,h⟩:=aB h;have z7:=((wK.b h49).hp [[none,none,none],[none]] (eU h63))
    obtain⟨h64,h⟩|⟨h64,h⟩:=aL h
    ·obtain⟨Tl,h68,h⟩:=aB h;cases h;exact((((z7.b h64).a [.n2 [0,1,2,3,4] [0,1,2,3,4] 2 3 [0] [0]]).hp [[none,none,none]] (rY h68)).a [.sk 3]).ret hΓ
    ·obtain⟨y71,h72,h⟩:=aB h;cases h;exact((((z7.b h64).a [.n2 [0,1,2,3,4] [0,1,2,3,4] 2 3 [0] [0]]).hp [[none,none,none]] (oJ h72)).a [.sk 3]).ret hΓ
  ·obtain⟨Bz,h74,h⟩:=aB h;have DY:=((((kX.b h5).r 3 h46).F 1).hp [[none,none,none],[none]] (eU h74))
   obtain⟨h75,h⟩|⟨h75,h⟩:=aL h
   ·obtain⟨y78,h79,h⟩:=aB h;cases h;exact((((DY.b h75).a [.n2 [0,1,2,3,4] [0,1,2,3,4] 2 3 [0] [0]]).hp [[none,none,none]] (rY h79)).a [.sk 3]).ret hΓ
   ·obtain⟨y82,h83,h⟩:=aB h;cases h;exact((((DY.b h75).a [.n2 [0,1,2,3,4] [0,1,2,3,4] 2 3 [0] [0]]).hp [[none,none,none]] (oJ h83)).a [.sk 3]).ret hΓ
def lg(aD:bH):Option (aG×aC):=((yG aD).bind fun y1=>((wo y1).bind fun y3=>(some (y3.2.1,y3.2.2))))
theorem AB{aD:bH}{r:aG×aC}(h:lg aD=some r):Good prog 20 [D.sl (aD.map yx)] (D.ff [D.agg [D.sl (r.1.rules.map aK.c),D.fr 3 1 (r.1.ends.map gm),D.fr 83 3 (r.1.az.map aX.c),D.fr 74 8 (r.1.nodes.map Node.c),D.fr 43 2 (r.1.facts.map aC.c),D.int .i64 r.1.br],D.agg [D.str r.2.rel,D.fr 9 1 (r.2.args.map tx)]]):=by
 refine gd func20 [[none,some (3,1),some (83,3),some (74,8),some (43,2),none],[none,some (9,1)]] 9 fun hr Γ hΓ=>?_
 rw[lg]at h;obtain⟨y1,h2,h⟩:=aB h;obtain⟨y3,h4,h⟩:=aB h;cases h;exact((aW.hn (KZ h2)).hp [[none,none,none]] (Jb h4)).ret hΓ
def lG(aD:aI)(aY:aC)(k1:Option Int):aI->Nat->Option Int
 | [],i1=>(k1)
 |bS::cT,i1=>((qL bS aY).bind fun Mi=>(bif Mi then(some (i1:Int))else(lG aD aY k1 cT (i1+1))))
def rD(aD:aI)(aY:aC):Option Int:=(lG aD aY (some (-1)) aD 0)
def JI(aD:aI)(aY:aC)(dG:Int):St:=⟨[(0,D.sl (aD.map aC.c)),(3,D.ptr 0 0),(5,D.int .i64 dG)],[Ob.box (aC.c aY)]⟩
theorem I4(hΓ:Γ.nt=19){aD:aI}{aY:aC}{r:Int}{k1:Option Int}(dX:k1=some r->Ax Γ N f66 (.q [[none]] (D.int .i64 r)) [1,1] ⟨[],[]⟩)(hm1:aD.length<=maxLen):∀(rest:aI) (i1:Nat),aD.drop i1=rest->lG aD aY k1 rest i1=some r->Ar Γ N f66 (.q [[none]] (D.int .i64 r)) [1,0,1,0] (rest.length+1) (JI aD aY (i1:Int)):=by
 intro rest
 induction rest with
 |nil=>
  intro i1 b8 h;rw[lG]at h;refine aU fun N1 cW cK=>?_
  exact((aW.ge aC.c b8).a [.hl 0 [] []]).ex hΓ cW (dX h)
 |cons bS cT ih1=>
  intro i1 b8 h;rw[lG]at h;refine aU fun N1 cW cK=>?_
  obtain⟨Mi,h22,h⟩:=aB h;have fE:=((((aW.lt aC.c b8).a [.n 5]).l (bG aC.c 2 (dc b8) rfl)).g (xK h22))
  obtain⟨h23,h⟩|⟨h23,h⟩:=aL h
  ·cases h;exact(fE.b h23).ret hΓ
  ·exact((fE.b h23).a [.cn [0,3,5] [0]]).ct hΓ cK (iS b8 hm1) (ih1 (i1+1) (dn b8) h)
theorem zb{aD:aI}{aY:aC}{r:Int}(h:rD aD aY=some r):Good prog 66 [D.sl (aD.map aC.c),D.agg (aC.c aY)] (D.int .i64 r):=by
 refine gd func66 [[none]] 19 fun hr Γ hΓ=>?_
 rw[rD]at h;refine(aW.a [.cn [0,3,5] [0]]).lp hΓ (I4 hΓ (fun h=>?_) (by have:=(gb.sl (hr _ (aE (i:=0) rfl))).1;simpa using this) aD 0 rfl h);cases h;exact aW.ret hΓ
def tH(aD:aI)(aY:aC):Option (aI×Bool):=((nU aD).bind fun y1=>(bif !(y1)then((dF aD).bind fun y4=>(some (y4,false)))else((qJ aY).bind fun y6=>(bif !(y6)then((dF aD).bind fun y9=>(some (y9,false)))else((rD aD aY).bind fun B3=>(bif decide ((B3:Int)>=0)then((dF aD).bind fun yW=>(some (yW,false)))else(bif (((aD.map aC.c).length:Int):Int)==24 then((dF aD).bind fun VA=>(some (VA,false)))else((kn aD aY).bind fun yX=>(some (yX,true))))))))))
theorem AZ{aD:aI}{aY:aC}{r:aI×Bool}(h:tH aD aY=some r):Good prog 23 [D.sl (aD.map aC.c),D.agg (aC.c aY)] (D.ff [D.fr 43 2 (r.1.map aC.c),D.bool r.2]):=by
 refine gd func23 [[some (43,2)],[none]] 30 fun hr Γ hΓ=>?_
 rw[tH]at h;obtain⟨y1,h2,h⟩:=aB h;obtain⟨h3,h⟩|⟨h3,h⟩:=aL h
 ·obtain⟨y4,h5,h⟩:=aB h;cases h;exact((((aW.g (ld h2)).r 4 h3).T 10).g (dh h5)).ret hΓ
 ·obtain⟨y6,h7,h⟩:=aB h;have kX:=((((aW.g (ld h2)).r 2 h3).g (xI h7)).r 2 h3)
  obtain⟨h8,h⟩|⟨h8,h⟩:=aL h
  ·obtain⟨y9,h10,h⟩:=aB h;cases h;exact(((kX.r 5 h8).T 5).g (dh h10)).ret hΓ
  ·obtain⟨B3,h12,h⟩:=aB h;have fE:=(((kX.r 3 h8).g (zb h12)).r 2 h8)
   obtain⟨h13,h⟩|⟨h13,h⟩:=aL h
   ·obtain⟨yW,h15,h⟩:=aB h;cases h;exact(((fE.r 4 h13).T 1).g (dh h15)).ret hΓ
   ·have ij:=(fE.r 4 h13)
    obtain⟨h16,h⟩|⟨h16,h⟩:=aL h
    ·obtain⟨VA,h18,h⟩:=aB h;cases h;exact((ij.b h16).g (dh h18)).ret hΓ
    ·obtain⟨yX,h20,h⟩:=aB h;cases h;exact((ij.b h16).g (rZ h20)).ret hΓ
def wj(aD:bH):Option bH:=(bif room (([]:List aQ).length+(aD.map gm).length) 8 then(some (([]:bH)++aD))else none)
theorem JR{aD:bH}{r:bH}(h:wj aD=some r):Good prog 121 [D.sl (aD.map gm)] (D.fr 3 1 (r.map gm)):=by
 refine gd func121 [[some (3,1)]] 6 fun hr Γ hΓ=>?_
 rw[wj]at h;obtain⟨h1,h⟩:=bQ h;cases h;exact(((aW.w (bX h1)).w (show(∀r∈(aD.map gm),r.length=1)/\(true=true->D.iN (aD.map gm)=true)from⟨by first|simp| (intro r hr;obtain⟨x,_,rfl⟩:=bt.1 (bn (eE hr));rfl),by simp[D.iN,D.flat]⟩)).a [.LP 2,.fl true]).rts hΓ (D.fr 3 1 (([]:List aQ)++(aD.map gm))) (by first|rfl| (simp only[mA]<;>rfl)| (simp only[cB,mA]<;>rfl))
def jk(aD:ai)(k1:ai->Option ai):ai->Nat->ai->Option ai
 | [],i1,bP=>(k1 bP)
 |bS::cT,i1,bP=>((sN bS).bind fun oa=>(bif room ((bP.map aO.c).length+([[D.sl (oa.facts.map aC.c),D.sl (oa.bind.map aV.c)]]).length) 48 then(jk aD k1 cT (i1+1) (bP++([oa])))else none))
def kF(aD:ai):Option ai:=(jk aD (fun(cC:ai)=>(some cC)) aD 0 ([]:ai))
def yN(aD:ai)(W0:List aQ)(dG:Int):St:=⟨[(0,D.sl (aD.map aO.c)),(3,D.acc 0),(4,D.int .i64 dG)],[Ob.row .uq 77 2 W0]⟩
theorem DK(hΓ:Γ.nt=21){aD:ai}{r:ai}{k1:ai->Option ai}(dX:∀(cC:ai),k1 cC=some r->Ax Γ N f123 (.q [[some (77,2)]] (D.fr 77 2 (r.map aO.c))) [1,1,1] ⟨[(3,D.acc 0)],[Ob.row .uq 77 2 (cC.map aO.c)]⟩)(hm1:aD.length<=maxLen):∀(rest:ai) (i1:Nat) (bP:ai),aD.drop i1=rest->jk aD k1 rest i1 bP=some r->Ar Γ N f123 (.q [[some (77,2)]] (D.fr 77 2 (r.map aO.c))) [1,1,0,1,0] (rest.length+1) (yN aD (bP.map aO.c) (i1:Int)):=by
 intro rest
 induction rest with
 |nil=>
  intro i1 bP b8 h;rw[jk]at h;refine aU fun N1 cW cK=>?_
  exact((aW.ge aO.c b8).a [.hl 0 [3] [0]]).ex hΓ cW (dX bP h)
 |cons bS cT ih1=>
  intro i1 bP b8 h;rw[jk]at h;refine aU fun N1 cW cK=>?_
  obtain⟨oa,h28,h⟩:=aB h;obtain⟨h29,h⟩:=bQ h;exact(((((aW.lt aO.c b8).l (bG aO.c 2 (dc b8) rfl)).g (Bc h28)).w (bX h29)).a [.cn [0,3,4] [4]]).cs hΓ cK (yN aD ((bP.map aO.c)++([[D.sl (oa.facts.map aC.c),D.sl (oa.bind.map aV.c)]])) (IntKind.i64.wrap ((i1:Int)+1))) (by first| (simp only[iS b8 hm1,mA]<;>rfl)| (simp only[iS b8 hm1,mA,aC.c,aV.c,aP.c,Action.c,aK.c,aO.c,bM.c,aX.c,Node.c,aG.c,dL.c]<;>rfl)) (ih1 (i1+1) (bP++([oa])) (dn b8) h)
theorem Cb{aD:ai}{r:ai}(h:kF aD=some r):Good prog 123 [D.sl (aD.map aO.c)] (D.fr 77 2 (r.map aO.c)):=by
 refine gd func123 [[some (77,2)]] 21 fun hr Γ hΓ=>?_
 rw[kF]at h;refine(aW.a [.cn [0,3,4] [0]]).lp hΓ (DK hΓ (fun cC h=>?_) (by have:=(gb.sl (hr _ (aE (i:=0) rfl))).1;simpa using this) aD 0 ([]:ai) rfl h);have h:=aN h;subst h;exact aW.ret hΓ
def oP(aD:aG)(y1:aq)(y3:bH)(y5:aI)(k1:bK->Option aG):bK->Nat->bK->Option aG
 | [],i1,mP=>(k1 mP)
 |bS::cT,i1,mP=>((ez bS.shape).bind fun Bz=>((dF bS.facts).bind fun y75=>(bif room ((mP.map aX.c).length+([[D.str Bz.rel,D.sl (Bz.args.map tx),D.sl (y75.map aC.c)]]).length) 64 then(oP aD y1 y3 y5 k1 cT (i1+1) (mP++([(⟨Bz,y75⟩:aX)])))else none)))
def oQ(aD:aG)(y1:aq)(y3:bH)(y5:aI)(kp:bK)(k2:bI->Option aG):bI->Nat->bI->Option aG
 | [],i2,jr=>(k2 jr)
 |js::ua,i2,jr=>((kW js.cond).bind fun Cl=>((kF js.tokens).bind fun a1J=>(bif room ((jr.map Node.c).length+([[D.int .i64 js.parent,D.int .i64 Cl.kind,D.str Cl.pat.rel,D.sl (Cl.pat.args.map tx),D.str Cl.left,D.str Cl.right,D.int .i64 js.cM,D.sl (a1J.map aO.c)]]).length) 120 then(oQ aD y1 y3 y5 kp k2 ua (i2+1) (jr++([(⟨js.parent,Cl,js.cM,a1J⟩:Node)])))else none)))
def sP(aD:aG):Option aG:=((rF aD.rules).bind fun y1=>((wj aD.ends).bind fun y3=>((dF aD.facts).bind fun y5=>(oP aD y1 y3 y5 (fun(kp:bK)=>(oQ aD y1 y3 y5 kp (fun(mJ:bI)=>(some (⟨y1,y3,kp,mJ,y5,aD.br⟩:aG))) aD.nodes 0 ([]:bI))) aD.az 0 ([]:bK)))))
def DL(aD:aG)(y1:aq)(y3:bH)(y5:aI)(W0:List aQ)(dG:Int):St:=⟨[(1,D.ptr 0 0),(2,D.ptr 1 0),(3,D.ptr 2 0),(4,D.int .i64 dG)],[Ob.box (aG.c aD),Ob.box [D.nil,D.nil,D.nil,D.nil,D.nil,D.int .i64 0],Ob.box [D.acc 3,D.acc 4,D.acc 5,D.nil,D.acc 6,D.int .i64 aD.br],Ob.row .uq 63 4 (y1.map aK.c),Ob.row .uq 3 1 (y3.map gm),Ob.row .uq 83 3 W0,Ob.row .uq 43 2 (y5.map aC.c)]⟩
theorem Kp(hΓ:Γ.nt=75){aD:aG}{y1:aq}{y3:bH}{y5:aI}{r:aG}{k1:bK->Option aG}(dX:∀(kp:bK),k1 kp=some r->Ax Γ N f63 (.q [[some (63,4),some (3,1),some (83,3),some (74,8),some (43,2),none]] (D.agg [D.fr 63 4 (r.rules.map aK.c),D.fr 3 1 (r.ends.map gm),D.fr 83 3 (r.az.map aX.c),D.fr 74 8 (r.nodes.map Node.c),D.fr 43 2 (r.facts.map aC.c),D.int .i64 r.br])) [1,1,1] ⟨[(1,D.ptr 0 0),(2,D.ptr 1 0),(3,D.ptr 2 0)],[Ob.box (aG.c aD),Ob.box [D.nil,D.nil,D.nil,D.nil,D.nil,D.int .i64 0],Ob.box [D.acc 3,D.acc 4,D.acc 5,D.nil,D.acc 6,D.int .i64 aD.br],Ob.row .uq 63 4 (y1.map aK.c),Ob.row .uq 3 1 (y3.map gm),Ob.row .uq 83 3 (kp.map aX.c),Ob.row .uq 43 2 (y5.map aC.c)]⟩)(hm1:aD.az.length<=maxLen):∀(rest:bK) (i1:Nat) (mP:bK),aD.az.drop i1=rest->oP aD y1 y3 y5 k1 rest i1 mP=some r->Ar Γ N f63 (.q [[some (63,4),some (3,1),some (83,3),some (74,8),some (43,2),none]] (D.agg [D.fr 63 4 (r.rules.map aK.c),D.fr 3 1 (r.ends.map gm),D.fr 83 3 (r.az.map aX.c),D.fr 74 8 (r.nodes.map Node.c),D.fr 43 2 (r.facts.map aC.c),D.int .i64 r.br])) [1,1,0,1,0] (rest.length+1) (DL aD y1 y3 y5 (mP.map aX.c) (i1:Int)):=by
 intro rest
 induction rest with
 |nil=>
  intro i1 mP b8 h;rw[oP]at h;refine aU fun N1 cW cK=>?_
  exact((aW.ge aX.c b8).a [.hl 0 [1,2,3] [0,1,2,3,4,5,6]]).ex hΓ cW (dX mP h)
 |cons bS cT ih1=>
  intro i1 mP b8 h;rw[oP]at h;refine aU fun N1 cW cK=>?_
  obtain⟨Bz,h74,h⟩:=aB h;obtain⟨y75,h76,h⟩:=aB h;obtain⟨h77,h⟩:=bQ h;exact((((((((aW.lt aX.c b8).a [.n2 [0,1,2,3,4,5,6,7,8,9,10,11,12,13,14,15,16,17,18,19,20] [0,1,2,3,4,5,6,7,8,9,10,11,12,13,14,15,16,17,18,19,20] 17 18 [0,1] [7,8]]).l (bG aX.c 3 (dc b8) rfl)).g (wI h74)).l (bG aX.c 3 (dc b8) rfl)).g (dh h76)).w (bX h77)).a [.cn [1,2,3,4] [0,1,2,3,4,10,6]]).cs hΓ cK (DL aD y1 y3 y5 ((mP.map aX.c)++([[D.str Bz.rel,D.sl (Bz.args.map tx),D.sl (y75.map aC.c)]])) (IntKind.i64.wrap ((i1:Int)+1))) (by first| (simp only[iS b8 hm1,mA]<;>rfl)| (simp only[iS b8 hm1,mA,aC.c,aV.c,aP.c,Action.c,aK.c,aO.c,bM.c,aX.c,Node.c,aG.c,dL.c]<;>rfl)) (ih1 (i1+1) (mP++([(⟨Bz,y75⟩:aX)])) (dn b8) h)
def DM(aD:aG)(y1:aq)(y3:bH)(y5:aI)(kp:bK)(W0:List aQ)(dG:Int):St:=⟨[(1,D.ptr 0 0),(2,D.ptr 1 0),(3,D.ptr 2 0),(5,D.int .i64 dG)],[Ob.box (aG.c aD),Ob.box [D.nil,D.nil,D.nil,D.nil,D.nil,D.int .i64 0],Ob.box [D.acc 3,D.acc 4,D.acc 5,D.acc 6,D.acc 7,D.int .i64 aD.br],Ob.row .uq 63 4 (y1.map aK.c),Ob.row .uq 3 1 (y3.map gm),Ob.row .uq 83 3 (kp.map aX.c),Ob.row .uq 74 8 W0,Ob.row .uq 43 2 (y5.map aC.c)]⟩
theorem Kq(hΓ:Γ.nt=75){aD:aG}{y1:aq}{y3:bH}{y5:aI}{kp:bK}{r:aG}{k2:bI->Option aG}(zx:∀(mJ:bI),k2 mJ=some r->Ax Γ N f63 (.q [[some (63,4),some (3,1),some (83,3),some (74,8),some (43,2),none]] (D.agg [D.fr 63 4 (r.rules.map aK.c),D.fr 3 1 (r.ends.map gm),D.fr 83 3 (r.az.map aX.c),D.fr 74 8 (r.nodes.map Node.c),D.fr 43 2 (r.facts.map aC.c),D.int .i64 r.br])) [1,1,1,1] ⟨[(2,D.ptr 0 0),(3,D.ptr 1 0)],[Ob.box [D.nil,D.nil,D.nil,D.nil,D.nil,D.int .i64 0],Ob.box [D.acc 2,D.acc 3,D.acc 4,D.acc 5,D.acc 6,D.int .i64 aD.br],Ob.row .uq 63 4 (y1.map aK.c),Ob.row .uq 3 1 (y3.map gm),Ob.row .uq 83 3 (kp.map aX.c),Ob.row .uq 74 8 (mJ.map Node.c),Ob.row .uq 43 2 (y5.map aC.c)]⟩)(hm2:aD.nodes.length<=maxLen):∀(rest:bI) (i2:Nat) (jr:bI),aD.nodes.drop i2=rest->oQ aD y1 y3 y5 kp k2 rest i2 jr=some r->Ar Γ N f63 (.q [[some (63,4),some (3,1),some (83,3),some (74,8),some (43,2),none]] (D.agg [D.fr 63 4 (r.rules.map aK.c),D.fr 3 1 (r.ends.map gm),D.fr 83 3 (r.az.map aX.c),D.fr 74 8 (r.nodes.map Node.c),D.fr 43 2 (r.facts.map aC.c),D.int .i64 r.br])) [1,1,1,0,1,0] (rest.length+1) (DM aD y1 y3 y5 kp (jr.map Node.c) (i2:Int)):=by
 intro rest
 induction rest with
 |nil=>
  intro i2 jr hd2 h;rw[oQ]at h;refine aU fun N2 vC s6=>?_
  exact((aW.ge Node.c hd2).a [.hl 0 [2,3] [1,2,3,4,5,6,7]]).ex hΓ vC (zx jr h)
 |cons js ua ih2=>
  intro i2 jr hd2 h;rw[oQ]at h;refine aU fun N2 vC s6=>?_
  obtain⟨Cl,h139,h⟩:=aB h;obtain⟨a1J,h141,h⟩:=aB h;obtain⟨h142,h⟩:=bQ h;exact(((((((aW.lt Node.c hd2).l (bG Node.c 8 (dc hd2) rfl)).a [.n2 [0,1,2,3,4,5,6,7,8,9,10,11,12,13,14,15,16] [0,1,2,3,4,5,6,7,8,9,10,11,12,13,14,15,16] 13 14 [0,1] [9,10]]).g (qg h139)).g (Cb h141)).w (bX h142)).a [.cn [1,2,3,5] [0,1,2,3,4,5,12,7]]).cs hΓ s6 (DM aD y1 y3 y5 kp ((jr.map Node.c)++([[D.int .i64 js.parent,D.int .i64 Cl.kind,D.str Cl.pat.rel,D.sl (Cl.pat.args.map tx),D.str Cl.left,D.str Cl.right,D.int .i64 js.cM,D.sl (a1J.map aO.c)]])) (IntKind.i64.wrap ((i2:Int)+1))) (by first| (simp only[iS hd2 hm2,mA]<;>rfl)| (simp only[iS hd2 hm2,mA,aC.c,aV.c,aP.c,Action.c,aK.c,aO.c,bM.c,aX.c,Node.c,aG.c,dL.c]<;>rfl)) (ih2 (i2+1) (jr++([(⟨js.parent,Cl,js.cM,a1J⟩:Node)])) (dn hd2) h)
theorem xO{aD:aG}{r:aG}(h:sP aD=some r):Good prog 63 [D.agg (aG.c aD)] (D.agg [D.fr 63 4 (r.rules.map aK.c),D.fr 3 1 (r.ends.map gm),D.fr 83 3 (r.az.map aX.c),D.fr 74 8 (r.nodes.map Node.c),D.fr 43 2 (r.facts.map aC.c),D.int .i64 r.br]):=by
 refine gd func63 [[some (63,4),some (3,1),some (83,3),some (74,8),some (43,2),none]] 75 fun hr Γ hΓ=>?_
 rw[sP]at h;obtain⟨y1,h2,h⟩:=aB h;obtain⟨y3,h4,h⟩:=aB h;obtain⟨y5,h6,h⟩:=aB h;refine(((((aW.a [.n 13]).g (zh h2)).g (JR h4)).g (dh h6)).a [.pb 5 2 83 3,.cn [1,2,3,4] [0,1,5,2,3,6,4]]).lp hΓ (Kp hΓ (fun kp h=>?_) (by have:=(gb.sl (gb.agg (hr _ (aE (i:=0) rfl)) (.sl (aD.az.map aX.c)) (by simp))).1;simpa using this) aD.az 0 ([]:bK) rfl h);refine(aW.a [.pb 2 3 74 8,.cn [1,2,3,5] [0,1,2,3,4,5,7,6]]).lp hΓ (Kq hΓ (fun mJ h=>?_) (by have:=(gb.sl (gb.agg (hr _ (aE (i:=0) rfl)) (.sl (aD.nodes.map Node.c)) (by simp))).1;simpa using this) aD.nodes 0 ([]:bI) rfl h);cases h;exact aW.ret hΓ
def iw(aD:aO)(aY:aO)(k1:Option Int):aI->Nat->Option Int
 | [],i1=>(k1)
 |bS::cT,i1=>(bif decide (((i1:Int):Int)<((aY.facts.map aC.c).length:Int))then((fy aY.facts (i1:Int)).bind fun x34=>((fS bS x34).bind fun NH=>(bif (NH:Int) != 0 then(some NH)else(iw aD aY k1 cT (i1+1)))))else(k1))
def oq(aD:aO)(aY:aO):Option Int:=(iw aD aY (bif decide ((((aD.facts.map aC.c).length:Int):Int)<((aY.facts.map aC.c).length:Int))then(some (-1))else(bif decide ((((aD.facts.map aC.c).length:Int):Int)>((aY.facts.map aC.c).length:Int))then(some 1)else(some 0))) aD.facts 0)
def D8(aD:aO)(aY:aO)(dG:Int):St:=⟨[(2,D.ptr 0 0),(3,D.ptr 1 0),(5,D.int .i64 dG)],[Ob.box (aO.c aD),Ob.box (aO.c aY)]⟩
theorem CW(hΓ:Γ.nt=51){aD:aO}{aY:aO}{r:Int}{k1:Option Int}(dX:k1=some r->Ax Γ N f187 (.q [[none]] (D.int .i64 r)) [1,1] ⟨[(2,D.ptr 0 0),(3,D.ptr 1 0)],[Ob.box (aO.c aD),Ob.box (aO.c aY)]⟩)(hm1:aD.facts.length<=maxLen):∀(rest:aI) (i1:Nat),aD.facts.drop i1=rest->iw aD aY k1 rest i1=some r->Ar Γ N f187 (.q [[none]] (D.int .i64 r)) [1,0,1,0] (rest.length+1) (D8 aD aY (i1:Int)):=by
 intro rest
 induction rest with
 |nil=>
  intro i1 b8 h;rw[iw]at h;refine aU fun N1 cW cK=>?_
  exact((((((((aW.ge aC.c b8).ge aC.c b8).ge aC.c b8).ge aC.c b8).ge aC.c b8).ge aC.c b8).F 1).a [.hl 0 [2,3] [0,1]]).ex hΓ cW (dX h)
 |cons bS cT ih1=>
  intro i1 b8 h;rw[iw]at h;refine aU fun N1 cW cK=>?_
  have ij:=((((((aW.lt aC.c b8).lt aC.c b8).lt aC.c b8).lt aC.c b8).lt aC.c b8).lt aC.c b8)
  obtain⟨h33,h⟩|⟨h33,h⟩:=aL h
  ·obtain⟨x34,h35,h⟩:=aB h;obtain⟨NH,h37,h⟩:=aB h;have jO:=(((((ij.b h33).a [.n 10]).l (bG aC.c 2 (dc b8) rfl)).l (fB aC.c 2 h35 rfl)).g (oW h37))
   obtain⟨h38,h⟩|⟨h38,h⟩:=aL h
   ·have h:=aN h;subst h;exact(jO.b h38).ret hΓ
   ·exact((jO.b h38).a [.cn [2,3,5] [0,1]]).ct hΓ cK (iS b8 hm1) (ih1 (i1+1) (dn b8) h)
  ·exact((ij.b h33).a [.hl 0 [2,3] [0,1]]).ex hΓ cW (dX h)
theorem C5{aD:aO}{aY:aO}{r:Int}(h:oq aD aY=some r):Good prog 187 [D.agg (aO.c aD),D.agg (aO.c aY)] (D.int .i64 r):=by
 refine gd func187 [[none]] 51 fun hr Γ hΓ=>?_
 rw[oq]at h;refine(aW.a [.cn [2,3,5] [0,1]]).lp hΓ (CW hΓ (fun h=>?_) (by have:=(gb.sl (gb.agg (hr _ (aE (i:=0) rfl)) (.sl (aD.facts.map aC.c)) (by simp))).1;simpa using this) aD.facts 0 rfl h);obtain⟨h39,h⟩|⟨h39,h⟩:=aL h
 ·cases h;exact(aW.b h39).ret hΓ
 ·obtain⟨h40,h⟩|⟨h40,h⟩:=aL h
  ·have h:=aN h;subst h;exact((aW.b h39).b h40).ret hΓ
  ·have h:=aN h;subst h;exact((aW.b h39).b h40).ret hΓ
def mI(aD:ai)(aY:ai)(i1:Nat)(bS:aO)(k2:Int->Option (Int×Int)):ai->Nat->Int->Option (Int×Int)
 | [],i2,nB=>(k2 nB)
 |js::ua,i2,nB=>((oq bS js).bind fun a9q=>(bif (a9q:Int)==0 then(mI aD aY i1 bS k2 ua (i2+1) (IntKind.i64.wrap (nB+1)))else(mI aD aY i1 bS k2 ua (i2+1) nB)))
def oS(aD:ai)(aY:ai)(k1:Int->Option (Int×Int)):ai->Nat->Int->Option (Int×Int)
 | [],i1,dH=>(k1 dH)
 |bS::cT,i1,dH=>(bif decide (aY.length<=maxLen)then(mI aD aY i1 bS (fun(Av:Int)=>(oS aD aY k1 cT (i1+1) Av)) aY 0 dH)else none)
def wq(aD:ai)(aY:ai):Option (Int×Int):=(oS aD aY (fun(vi:Int)=>(some (vi,IntKind.i64.wrap (((aD.map aO.c).length:Int)-vi)))) aD 0 0)
def MH(aD:ai)(aY:ai)(dH:Int)(dG:Int):St:=⟨[(0,D.sl (aD.map aO.c)),(1,D.sl (aY.map aO.c)),(6,D.int .i64 dH),(7,D.int .i64 dG)],[]⟩
def MI(aD:ai)(aY:ai)(i1:Nat)(nB:Int)(dG:Int):St:=⟨[(0,D.sl (aD.map aO.c)),(1,D.sl (aY.map aO.c)),(6,D.int .i64 nB),(7,D.int .i64 (i1:Int)),(8,D.int .i64 dG)],[]⟩
theorem Kv(hΓ:Γ.nt=38){aD:ai}{aY:ai}{i1:Nat}{bS:aO}{r:Int×Int}{k2:Int->Option (Int×Int)}(zx:∀(Av:Int),k2 Av=some r->Ax Γ N f124 (.q [[none],[none]] (D.ff [D.int .i64 r.1,D.int .i64 r.2])) [1,1,0,1,0,0,1,1] ⟨[(0,D.sl (aD.map aO.c)),(1,D.sl (aY.map aO.c)),(6,D.int .i64 Av),(7,D.int .i64 (i1:Int))],[]⟩)(hx1:(aD)[i1]?=some bS)(hm2:aY.length<=maxLen):∀(rest:ai) (i2:Nat) (nB:Int),aY.drop i2=rest->mI aD aY i1 bS k2 rest i2 nB=some r->Ar Γ N f124 (.q [[none],[none]] (D.ff [D.int .i64 r.1,D.int .i64 r.2])) [1,1,0,1,0,0,1,0,0,1,0] (rest.length+1) (MI aD aY i1 nB (i2:Int)):=by
 intro rest
 induction rest with
 |nil=>
  intro i2 nB hd2 h;rw[mI]at h;refine aU fun N2 vC s6=>?_
  exact((aW.ge aO.c hd2).a [.hl 3 [0,1,6,7] []]).ex hΓ vC (zx nB h)
 |cons js ua ih2=>
  intro i2 nB hd2 h;rw[mI]at h;refine aU fun N2 vC s6=>?_
  obtain⟨a9q,h177,h⟩:=aB h;have Ao:=(((((aW.lt aO.c hd2).a [.n 8]).l (bG aO.c 2 hx1 rfl)).l (bG aO.c 2 (dc hd2) rfl)).g (C5 h177))
  obtain⟨h178,h⟩|⟨h178,h⟩:=aL h
  ·exact((Ao.b h178).a [.cn [0,1,6,7,8] []]).ct hΓ s6 (iS hd2 hm2) (ih2 (i2+1) (IntKind.i64.wrap (nB+1)) (dn hd2) h)
  ·exact((Ao.b h178).a [.cn [0,1,6,7,8] []]).ct hΓ s6 (iS hd2 hm2) (ih2 (i2+1) nB (dn hd2) h)
theorem Ku(hΓ:Γ.nt=38){aD:ai}{aY:ai}{r:Int×Int}{k1:Int->Option (Int×Int)}(dX:∀(vi:Int),k1 vi=some r->Ax Γ N f124 (.q [[none],[none]] (D.ff [D.int .i64 r.1,D.int .i64 r.2])) [1,1,1] ⟨[(0,D.sl (aD.map aO.c)),(6,D.int .i64 vi)],[]⟩)(hm1:aD.length<=maxLen):∀(rest:ai) (i1:Nat) (dH:Int),aD.drop i1=rest->oS aD aY k1 rest i1 dH=some r->Ar Γ N f124 (.q [[none],[none]] (D.ff [D.int .i64 r.1,D.int .i64 r.2])) [1,1,0,1,0] (rest.length+1) (MH aD aY dH (i1:Int)):=by
 intro rest
 induction rest with
 |nil=>
  intro i1 dH b8 h;rw[oS]at h;refine aU fun N1 cW cK=>?_
  exact((aW.ge aO.c b8).a [.hl 0 [0,6] []]).ex hΓ cW (dX dH h)
 |cons bS cT ih1=>
  intro i1 dH b8 h;rw[oS]at h;refine aU fun N1 cW cK=>?_
  obtain⟨h179,h⟩:=bQ h;refine((aW.lt aO.c b8).a [.cn [0,1,6,7,8] []]).lp hΓ (Kv hΓ (fun Av h=>?_) ((drop_cons b8).1) (bV h179) aY 0 dH rfl h);exact(aW.a [.cn [0,1,6,7] []]).ct hΓ cK (iS b8 hm1) (ih1 (i1+1) Av (dn b8) h)
theorem Jc{aD:ai}{aY:ai}{r:Int×Int}(h:wq aD aY=some r):Good prog 124 [D.sl (aD.map aO.c),D.sl (aY.map aO.c)] (D.ff [D.int .i64 r.1,D.int .i64 r.2]):=by
 refine gd func124 [[none],[none]] 38 fun hr Γ hΓ=>?_
 rw[wq]at h;refine(aW.a [.cn [0,1,6,7] []]).lp hΓ (Ku hΓ (fun vi h=>?_) (by have:=(gb.sl (hr _ (aE (i:=0) rfl))).1;simpa using this) aD 0 0 rfl h);cases h;exact aW.ret hΓ
def jN(aD:aG)(aY:aI)(cX:aC)(y1:aG)(y3:aI)(k1:List Bool->bK->Option aG):Nat->Int->List Bool->bK->Option aG
 |0,_,_,_=>none
 |n1+1,IX,wV,Mg=>(bif decide ((IX:Int)<((Mg.map aX.c).length:Int))then((fy Mg IX).bind fun x41=>((jh x41.shape cX ([])).bind fun Iv=>(bif room ((wV.map bx).length+([[D.bool Iv.2]]).length) 1 then((fw x41.shape ([]) aY).bind fun y46=>(jN aD aY cX y1 y3 k1 n1 (IntKind.i64.wrap (IX+1)) (wV++([Iv.2])) (Mg.set IX.toNat (⟨x41.shape,y46⟩:aX))))else none)))else(k1 wV Mg))
def fM(aD:aG)(y1:aG)(y3:aI)(dl:List Bool)(vf:bK)(k2:Int->bI->Option aG):Nat->Int->Int->bI->Option aG
 |0,_,_,_=>none
 |n2+1,sB,vF,sU=>(bif decide ((sB:Int)<((sU.map Node.c).length:Int))then((fy sU sB).bind fun x106=>((fy sU x106.parent).bind fun x108=>((fy aD.nodes x106.parent).bind fun x110=>((wq x108.tokens x110.tokens).bind fun Ck=>(bif decide ((x106.cM:Int)<0)then((sO x108.tokens x106.cond ([])).bind fun Mh=>(fM aD y1 y3 dl vf k2 n2 (IntKind.i64.wrap (sB+1)) (IntKind.i64.wrap (vF+Ck.2)) (sU.set sB.toNat (⟨x106.parent,x106.cond,x106.cM,Mh⟩:Node))))else((fy vf x106.cM).bind fun x117=>((sO x108.tokens x106.cond x117.facts).bind fun V7=>((fy dl x106.cM).bind fun x121=>(bif x121 then(fM aD y1 y3 dl vf k2 n2 (IntKind.i64.wrap (sB+1)) (IntKind.i64.wrap ((IntKind.i64.wrap (vF+(IntKind.i64.wrap (Ck.2*((x117.facts.map aC.c).length:Int)))))+Ck.1)) (sU.set sB.toNat (⟨x106.parent,x106.cond,x106.cM,V7⟩:Node)))else(fM aD y1 y3 dl vf k2 n2 (IntKind.i64.wrap (sB+1)) (IntKind.i64.wrap (vF+(IntKind.i64.wrap (Ck.2*((x117.facts.map aC.c).length:Int))))) (sU.set sB.toNat (⟨x106.parent,x106.cond,x106.cM,V7⟩:Node))))))))))))else(k2 vF sU))
def uY(aD:aG)(aY:aI)(cX:aC):Option aG:=((sP aD).bind fun y1=>((dF aY).bind fun y3=>(jN aD aY cX y1 y3 (fun(dl:List Bool) (vf:bK)=>(fM aD y1 y3 dl vf (fun(pY:Int) (mJ:bI)=>(some (⟨y1.rules,y1.ends,vf,mJ,y3,pY⟩:aG))) fuel 1 y1.br y1.nodes)) fuel 0 ([]:List Bool) y1.az)))
def Bf(aD:aG)(aY:aI)(cX:aC)(y1:aG)(y3:aI)(IX:Int)(W1:List aQ)(W2:List aQ):St:=⟨[(1,D.sl (aY.map aC.c)),(3,D.ptr 0 0),(5,D.ptr 1 0),(6,D.ptr 2 0),(7,D.ptr 3 0),(8,D.acc 4),(9,D.int .i64 IX)],[Ob.box (aG.c aD),Ob.box (aC.c cX),Ob.box [D.nil,D.nil,D.nil,D.nil,D.nil,D.int .i64 0],Ob.box [D.acc 5,D.acc 6,D.acc 7,D.acc 8,D.acc 9,D.int .i64 y1.br],Ob.row .uq 4 1 W1,Ob.row .uq 63 4 (y1.rules.map aK.c),Ob.row .uq 3 1 (y1.ends.map gm),Ob.row .uq 83 3 W2,Ob.row .uq 74 8 (y1.nodes.map Node.c),Ob.row .uq 43 2 (y3.map aC.c)]⟩
theorem IS(hΓ:Γ.nt=143){aD:aG}{aY:aI}{cX:aC}{y1:aG}{y3:aI}{r:aG}{k1:List Bool->bK->Option aG}(dX:∀(dl:List Bool) (vf:bK),k1 dl vf=some r->Ax Γ N f64 (.q [[some (63,4),some (3,1),some (83,3),some (74,8),some (43,2),none]] (D.agg [D.fr 63 4 (r.rules.map aK.c),D.fr 3 1 (r.ends.map gm),D.fr 83 3 (r.az.map aX.c),D.fr 74 8 (r.nodes.map Node.c),D.fr 43 2 (r.facts.map aC.c),D.int .i64 r.br])) [1,1,1,1,1] ⟨[(3,D.ptr 0 0),(6,D.ptr 1 0),(7,D.ptr 2 0),(8,D.acc 3)],[Ob.box (aG.c aD),Ob.box [D.nil,D.nil,D.nil,D.nil,D.nil,D.int .i64 0],Ob.box [D.acc 4,D.acc 5,D.acc 6,D.acc 7,D.acc 8,D.int .i64 y1.br],Ob.row .uq 4 1 (dl.map bx),Ob.row .uq 63 4 (y1.rules.map aK.c),Ob.row .uq 3 1 (y1.ends.map gm),Ob.row .uq 83 3 (vf.map aX.c),Ob.row .uq 74 8 (y1.nodes.map Node.c),Ob.row .uq 43 2 (y3.map aC.c)]⟩):∀(n1:Nat) (IX:Int) (wV:List Bool) (Mg:bK),jN aD aY cX y1 y3 k1 n1 IX wV Mg=some r->Ar Γ N f64 (.q [[some (63,4),some (3,1),some (83,3),some (74,8),some (43,2),none]] (D.agg [D.fr 63 4 (r.rules.map aK.c),D.fr 3 1 (r.ends.map gm),D.fr 83 3 (r.az.map aX.c),D.fr 74 8 (r.nodes.map Node.c),D.fr 43 2 (r.facts.map aC.c),D.int .i64 r.br])) [1,1,1,1,0,1,0] n1 (Bf aD aY cX y1 y3 IX (wV.map bx) (Mg.map aX.c)):=by
 intro n
 induction n with
 |zero=>intro IX wV Mg h;simp[jN]at h
 |succ n1 ih1=>
  intro IX wV Mg h;rw[jN]at h;refine aU fun N1 cW cK=>?_
  obtain⟨h40,h⟩|⟨h40,h⟩:=aL h
  ·obtain⟨x41,h42,h⟩:=aB h;obtain⟨Iv,h44,h⟩:=aB h;obtain⟨h45,h⟩:=bQ h;obtain⟨y46,h47,h⟩:=aB h;exact(((((((((((((((aW.b h40).a [.n 12]).i (ed aX.c 3 h42)).o 3 2 .uq (cH aX.c (dN h42))).a [.d (D.ff [D.fr 113 2 (Iv.1.map aV.c),D.bool Iv.2])]).w (show Good prog 96 [D.agg (aC.c x41.shape),D.agg (aC.c cX),D.sl ([])] (D.ff [D.fr 113 2 (Iv.1.map aV.c),D.bool Iv.2])from by first| (simpa only[bD,au,bg,bZ,bh]using qm h44)|exact qm h44)).w (bX h45)).a [.n 11]).i (ed aX.c 3 h42)).o 3 2 .uq (cH aX.c (dN h42))).a [.d (D.fr 43 2 (y46.map aC.c))]).w (show Good prog 44 [D.agg (aC.c x41.shape),D.sl ([]),D.sl (aY.map aC.c)] (D.fr 43 2 (y46.map aC.c))from by first| (simpa only[bD,au,bg,bZ,bh]using eZ h47)|exact eZ h47)).i (ed aX.c 3 h42)).w (show(Mg.map aX.c)[IX.toNat]?=some [D.str x41.shape.rel,D.sl (x41.shape.args.map tx),D.sl (x41.facts.map aC.c)]from cH aX.c (dN h42))).a [.row [D.str x41.shape.rel,D.sl (x41.shape.args.map tx),D.sl (x41.facts.map aC.c)],.cn [1,3,5,6,7,8,9] [0,1,2,3,12,5,6,7,8,9]]).cs hΓ cK (Bf aD aY cX y1 y3 (IntKind.i64.wrap (IX+1)) ((wV.map bx)++([[D.bool Iv.2]])) ((Mg.map aX.c).set IX.toNat [D.str x41.shape.rel,D.sl (x41.shape.args.map tx),D.sl (y46.map aC.c)])) (by first| (simp only[mA]<;>rfl)| (simp only[mA,aC.c,aV.c,aP.c,Action.c,aK.c,aO.c,bM.c,aX.c,Node.c,aG.c,dL.c]<;>rfl)) (ih1 (IntKind.i64.wrap (IX+1)) (wV++([Iv.2])) (Mg.set IX.toNat (⟨x41.shape,y46⟩:aX)) h)
  ·exact((aW.b h40).a [.hl 0 [3,6,7,8] [0,2,3,4,5,6,7,8,9]]).ex hΓ cW (dX wV Mg h)
def uC(aD:aG)(y1:aG)(y3:aI)(dl:List Bool)(vf:bK)(sB:Int)(vF:Int)(W2:List aQ):St:=⟨[(3,D.ptr 0 0),(6,D.ptr 1 0),(7,D.ptr 2 0),(8,D.acc 3),(12,D.int .i64 sB)],[Ob.box (aG.c aD),Ob.box [D.nil,D.nil,D.nil,D.nil,D.nil,D.int .i64 0],Ob.box [D.acc 4,D.acc 5,D.acc 6,D.acc 7,D.acc 8,D.int .i64 vF],Ob.row .uq 4 1 (dl.map bx),Ob.row .uq 63 4 (y1.rules.map aK.c),Ob.row .uq 3 1 (y1.ends.map gm),Ob.row .uq 83 3 (vf.map aX.c),Ob.row .uq 74 8 W2,Ob.row .uq 43 2 (y3.map aC.c)]⟩
theorem IT(hΓ:Γ.nt=143){aD:aG}{y1:aG}{y3:aI}{dl:List Bool}{vf:bK}{r:aG}{k2:Int->bI->Option aG}(zx:∀(pY:Int) (mJ:bI),k2 pY mJ=some r->Ax Γ N f64 (.q [[some (63,4),some (3,1),some (83,3),some (74,8),some (43,2),none]] (D.agg [D.fr 63 4 (r.rules.map aK.c),D.fr 3 1 (r.ends.map gm),D.fr 83 3 (r.az.map aX.c),D.fr 74 8 (r.nodes.map Node.c),D.fr 43 2 (r.facts.map aC.c),D.int .i64 r.br])) [1,1,1,1,1,1] ⟨[(6,D.ptr 0 0),(7,D.ptr 1 0)],[Ob.box [D.nil,D.nil,D.nil,D.nil,D.nil,D.int .i64 0],Ob.box [D.acc 2,D.acc 3,D.acc 4,D.acc 5,D.acc 6,D.int .i64 pY],Ob.row .uq 63 4 (y1.rules.map aK.c),Ob.row .uq 3 1 (y1.ends.map gm),Ob.row .uq 83 3 (vf.map aX.c),Ob.row .uq 74 8 (mJ.map Node.c),Ob.row .uq 43 2 (y3.map aC.c)]⟩):∀(n2:Nat) (sB:Int) (vF:Int) (sU:bI),fM aD y1 y3 dl vf k2 n2 sB vF sU=some r->Ar Γ N f64 (.q [[some (63,4),some (3,1),some (83,3),some (74,8),some (43,2),none]] (D.agg [D.fr 63 4 (r.rules.map aK.c),D.fr 3 1 (r.ends.map gm),D.fr 83 3 (r.az.map aX.c),D.fr 74 8 (r.nodes.map Node.c),D.fr 43 2 (r.facts.map aC.c),D.int .i64 r.br])) [1,1,1,1,1,0,1,0] n2 (uC aD y1 y3 dl vf sB vF (sU.map Node.c)):=by
 intro n
 induction n with
 |zero=>intro sB vF sU h;simp[fM]at h
 |succ n2 ih2=>
  intro sB vF sU h;rw[fM]at h;refine aU fun N2 vC s6=>?_
  obtain⟨h105,h⟩|⟨h105,h⟩:=aL h
  ·obtain⟨x106,h107,h⟩:=aB h;obtain⟨x108,h109,h⟩:=aB h;obtain⟨x110,h111,h⟩:=aB h;obtain⟨Ck,h113,h⟩:=aB h;have ij:=(((((((aW.b h105).i (ed Node.c 8 h107)).o 8 8 .uq (cH Node.c (dN h107))).i (ed Node.c 8 h109)).o 8 8 .uq (cH Node.c (dN h109))).l (fB Node.c 8 h111 rfl)).g (Jc h113))
   obtain⟨h114,h⟩|⟨h114,h⟩:=aL h
   ·obtain⟨Mh,h116,h⟩:=aB h;exact((((((ij.b h114).a [.n 7,.d (D.fr 77 2 (Mh.map aO.c))]).w (show Good prog 98 [D.sl (x108.tokens.map aO.c),D.agg (aP.c x106.cond),D.sl ([])] (D.fr 77 2 (Mh.map aO.c))from by first| (simpa only[bD,au,bg,bZ,bh]using uA h116)|exact uA h116)).i (ed Node.c 8 h107)).w (show(sU.map Node.c)[sB.toNat]?=some [D.int .i64 x106.parent,D.int .i64 x106.cond.kind,D.str x106.cond.pat.rel,D.sl (x106.cond.pat.args.map tx),D.str x106.cond.left,D.str x106.cond.right,D.int .i64 x106.cM,D.sl (x106.tokens.map aO.c)]from cH Node.c (dN h107))).a [.row [D.int .i64 x106.parent,D.int .i64 x106.cond.kind,D.str x106.cond.pat.rel,D.sl (x106.cond.pat.args.map tx),D.str x106.cond.left,D.str x106.cond.right,D.int .i64 x106.cM,D.sl (x106.tokens.map aO.c)],.cn [3,6,7,8,12] [0,1,2,3,4,5,6,7,8]]).cs hΓ s6 (uC aD y1 y3 dl vf (IntKind.i64.wrap (sB+1)) (IntKind.i64.wrap (vF+Ck.2)) ((sU.map Node.c).set sB.toNat [D.int .i64 x106.parent,D.int .i64 x106.cond.kind,D.str x106.cond.pat.rel,D.sl (x106.cond.pat.args.map tx),D.str x106.cond.left,D.str x106.cond.right,D.int .i64 x106.cM,D.sl (Mh.map aO.c)])) (by first| (simp only[mA]<;>rfl)| (simp only[mA,aC.c,aV.c,aP.c,Action.c,aK.c,aO.c,bM.c,aX.c,Node.c,aG.c,dL.c]<;>rfl)) (ih2 (IntKind.i64.wrap (sB+1)) (IntKind.i64.wrap (vF+Ck.2)) (sU.set sB.toNat (⟨x106.parent,x106.cond,x106.cM,Mh⟩:Node)) h)
   ·obtain⟨x117,h118,h⟩:=aB h;obtain⟨V7,h120,h⟩:=aB h;obtain⟨x121,h122,h⟩:=aB h;have jO:=((((((((((ij.b h114).i (ed aX.c 3 h118)).o 3 3 .uq (cH aX.c (dN h118))).a [.n 8]).g (uA h120)).i (ed Node.c 8 h107)).w (show(sU.map Node.c)[sB.toNat]?=some [D.int .i64 x106.parent,D.int .i64 x106.cond.kind,D.str x106.cond.pat.rel,D.sl (x106.cond.pat.args.map tx),D.str x106.cond.left,D.str x106.cond.right,D.int .i64 x106.cM,D.sl (x106.tokens.map aO.c)]from cH Node.c (dN h107))).a [.row [D.int .i64 x106.parent,D.int .i64 x106.cond.kind,D.str x106.cond.pat.rel,D.sl (x106.cond.pat.args.map tx),D.str x106.cond.left,D.str x106.cond.right,D.int .i64 x106.cM,D.sl (x106.tokens.map aO.c)]]).i (ed bx 1 h122)).o 1 1 .uq (cH bx (dN h122)))
    obtain⟨h123,h⟩|⟨h123,h⟩:=aL h
    ·exact((jO.b h123).a [.cn [3,6,7,8,12] [0,1,2,3,4,5,6,7,8]]).cs hΓ s6 (uC aD y1 y3 dl vf (IntKind.i64.wrap (sB+1)) (IntKind.i64.wrap ((IntKind.i64.wrap (vF+(IntKind.i64.wrap (Ck.2*((x117.facts.map aC.c).length:Int)))))+Ck.1)) ((sU.map Node.c).set sB.toNat [D.int .i64 x106.parent,D.int .i64 x106.cond.kind,D.str x106.cond.pat.rel,D.sl (x106.cond.pat.args.map tx),D.str x106.cond.left,D.str x106.cond.right,D.int .i64 x106.cM,D.sl (V7.map aO.c)])) (by first| (simp only[mA]<;>rfl)| (simp only[mA,aC.c,aV.c,aP.c,Action.c,aK.c,aO.c,bM.c,aX.c,Node.c,aG.c,dL.c]<;>rfl)) (ih2 (IntKind.i64.wrap (sB+1)) (IntKind.i64.wrap ((IntKind.i64.wrap (vF+(IntKind.i64.wrap (Ck.2*((x117.facts.map aC.c).length:Int)))))+Ck.1)) (sU.set sB.toNat (⟨x106.parent,x106.cond,x106.cM,V7⟩:Node)) h)
    ·exact((jO.b h123).a [.cn [3,6,7,8,12] [0,1,2,3,4,5,6,7,8]]).cs hΓ s6 (uC aD y1 y3 dl vf (IntKind.i64.wrap (sB+1)) (IntKind.i64.wrap (vF+(IntKind.i64.wrap (Ck.2*((x117.facts.map aC.c).length:Int))))) ((sU.map Node.c).set sB.toNat [D.int .i64 x106.parent,D.int .i64 x106.cond.kind,D.str x106.cond.pat.rel,D.sl (x106.cond.pat.args.map tx),D.str x106.cond.left,D.str x106.cond.right,D.int .i64 x106.cM,D.sl (V7.map aO.c)])) (by first| (simp only[mA]<;>rfl)| (simp only[mA,aC.c,aV.c,aP.c,Action.c,aK.c,aO.c,bM.c,aX.c,Node.c,aG.c,dL.c]<;>rfl)) (ih2 (IntKind.i64.wrap (sB+1)) (IntKind.i64.wrap (vF+(IntKind.i64.wrap (Ck.2*((x117.facts.map aC.c).length:Int))))) (sU.set sB.toNat (⟨x106.parent,x106.cond,x106.cM,V7⟩:Node)) h)
  ·exact((aW.b h105).a [.hl 0 [6,7] [1,2,4,5,6,7,8]]).ex hΓ vC (zx vF sU h)
theorem Gf{aD:aG}{aY:aI}{cX:aC}{r:aG}(h:uY aD aY cX=some r):Good prog 64 [D.agg (aG.c aD),D.sl (aY.map aC.c),D.agg (aC.c cX)] (D.agg [D.fr 63 4 (r.rules.map aK.c),D.fr 3 1 (r.ends.map gm),D.fr 83 3 (r.az.map aX.c),D.fr 74 8 (r.nodes.map Node.c),D.fr 43 2 (r.facts.map aC.c),D.int .i64 r.br]):=by
 refine gd func64 [[some (63,4),some (3,1),some (83,3),some (74,8),some (43,2),none]] 143 fun hr Γ hΓ=>?_
 rw[uY]at h;obtain⟨y1,h2,h⟩:=aB h;obtain⟨y3,h4,h⟩:=aB h;refine(((aW.g (xO h2)).g (dh h4)).a [.cn [1,3,5,6,7,8,9] [0,1,2,8,10,3,4,5,6,9]]).lp hΓ (IS hΓ (fun dl vf h=>?_) fuel 0 ([]:List Bool) y1.az h);refine(aW.a [.cn [3,6,7,8,12] [0,1,2,3,4,5,6,7,8]]).lp hΓ (IT hΓ (fun pY mJ h=>?_) fuel 1 y1.br y1.nodes h);cases h;exact aW.ret hΓ
def pu(aD:aG)(aY:aC):Option (aG×Bool):=((tH aD.facts aY).bind fun y1=>((tK aD).bind fun y3=>(bif !(y3)then((sP aD).bind fun y6=>(some (y6,false)))else(bif !(y1.2)then((sP aD).bind fun y9=>(some (y9,false)))else((uY aD y1.1 aY).bind fun B3=>(some (B3,true)))))))
theorem CY{aD:aG}{aY:aC}{r:aG×Bool}(h:pu aD aY=some r):Good prog 22 [D.agg (aG.c aD),D.agg (aC.c aY)] (D.ff [D.agg [D.fr 63 4 (r.1.rules.map aK.c),D.fr 3 1 (r.1.ends.map gm),D.fr 83 3 (r.1.az.map aX.c),D.fr 74 8 (r.1.nodes.map Node.c),D.fr 43 2 (r.1.facts.map aC.c),D.int .i64 r.1.br],D.bool r.2]):=by
 refine gd func22 [[some (63,4),some (3,1),some (83,3),some (74,8),some (43,2),none],[none]] 28 fun hr Γ hΓ=>?_
 rw[pu]at h;obtain⟨y1,h2,h⟩:=aB h;obtain⟨y3,h4,h⟩:=aB h;have kX:=((aW.g (AZ h2)).g (FE h4))
 obtain⟨h5,h⟩|⟨h5,h⟩:=aL h
 ·obtain⟨y6,h7,h⟩:=aB h;cases h;exact(((kX.r 3 h5).T 1).g (xO h7)).ret hΓ
 ·have fE:=(kX.r 3 h5)
  obtain⟨h8,h⟩|⟨h8,h⟩:=aL h
  ·obtain⟨y9,h10,h⟩:=aB h;cases h;exact((fE.b h8).g (xO h10)).ret hΓ
  ·obtain⟨B3,h12,h⟩:=aB h;cases h;exact((fE.b h8).g (Gf h12)).ret hΓ
def rR(aD:aI)(aY:aC):Option (aI×Bool):=((qz aD aY).bind fun y1=>((pT aD).bind fun y3=>(bif !(y3)then((cV aD).bind fun y6=>(some (y6,false)))else(bif decide ((y1:Int)<0)then((cV aD).bind fun y9=>(some (y9,false)))else((wT (aD.map aC.c).length none (some (D.int .i64 y1))).bind fun p=>(fun l11 u12=>((cV ((aD.take u12).drop l11)).bind fun yW=>((wT (aD.map aC.c).length (some (D.int .i64 (IntKind.i64.wrap (y1+1)))) none).bind fun p=>(fun l16 u17=>((cV ((aD.take u17).drop l16)).bind fun yX=>(bif room ((yW.map aC.c).length+(yX.map aC.c).length) 40 then(some (yW++yX,true))else none))) p.1 p.2))) p.1 p.2)))))
theorem yB{aD:aI}{aY:aC}{r:aI×Bool}(h:rR aD aY=some r):Good prog 127 [D.sl (aD.map aC.c),D.agg (aC.c aY)] (D.ff [D.fr 43 2 (r.1.map aC.c),D.bool r.2]):=by
 refine gd func127 [[some (43,2)],[none]] 29 fun hr Γ hΓ=>?_
 rw[rR]at h;obtain⟨y1,h2,h⟩:=aB h;obtain⟨y3,h4,h⟩:=aB h;have kX:=(((aW.a [.LP 4]).g (zR h2)).g (rO h4))
 obtain⟨h5,h⟩|⟨h5,h⟩:=aL h
 ·obtain⟨y6,h7,h⟩:=aB h;cases h;exact(((kX.r 3 h5).T 1).g (cg h7)).ret hΓ
 ·have fE:=(kX.r 3 h5)
  obtain⟨h8,h⟩|⟨h8,h⟩:=aL h
  ·obtain⟨y9,h10,h⟩:=aB h;cases h;exact((fE.b h8).g (cg h10)).ret hΓ
  ·obtain⟨⟨l11,u12⟩,h13,h⟩:=aB h;obtain⟨yW,h15,h⟩:=aB h;obtain⟨⟨l16,u17⟩,h18,h⟩:=aB h;obtain⟨yX,h20,h⟩:=aB h;obtain⟨h21,h⟩:=bQ h;cases h;exact((((((((fE.b h8).w (show wT (aD.map aC.c).length none (some (D.int .i64 y1))=some (l11,u12)/\((aD.map aC.c).all fun r=>r.length==2)=true from⟨h13,by simp[aj]⟩)).a [.n 8,.cut l11 u12,.d (D.fr 43 2 (yW.map aC.c))]).w (show Good prog 82 [D.sl (((aD.map aC.c).take u12).drop l11)] (D.fr 43 2 (yW.map aC.c))from by first| (simpa only[bD,au,bg,bZ,bh]using cg h15)|exact cg h15)).w (show wT (aD.map aC.c).length (some (D.int .i64 (IntKind.i64.wrap (y1+1)))) none=some (l16,u17)/\((aD.map aC.c).all fun r=>r.length==2)=true from⟨h18,by simp[aj]⟩)).a [.cut l16 u17,.d (D.fr 43 2 (yX.map aC.c))]).w (show Good prog 82 [D.sl (((aD.map aC.c).take u17).drop l16)] (D.fr 43 2 (yX.map aC.c))from by first| (simpa only[bD,au,bg,bZ,bh]using cg h20)|exact cg h20)).w (bX h21)).rts hΓ (D.ff [D.fr 43 2 ((yW.map aC.c)++(yX.map aC.c)),D.bool true]) (by first|rfl| (simp only[mA]<;>rfl)| (simp only[cB,mA]<;>rfl))
def CC(aD:aG)(aY:aC):Option (aG×Bool):=((rR aD.facts aY).bind fun y1=>(bif !(y1.2)then((iB aD).bind fun y4=>(some (y4,false)))else((sy aD y1.1 aY).bind fun y6=>(some (y6,true)))))
theorem Lz{aD:aG}{aY:aC}{r:aG×Bool}(h:CC aD aY=some r):Good prog 68 [D.agg (aG.c aD),D.agg (aC.c aY)] (D.ff [D.agg [D.fr 63 4 (r.1.rules.map aK.c),D.fr 3 1 (r.1.ends.map gm),D.fr 83 3 (r.1.az.map aX.c),D.fr 74 8 (r.1.nodes.map Node.c),D.fr 43 2 (r.1.facts.map aC.c),D.int .i64 r.1.br],D.bool r.2]):=by
 refine gd func68 [[some (63,4),some (3,1),some (83,3),some (74,8),some (43,2),none],[none]] 23 fun hr Γ hΓ=>?_
 rw[CC]at h;obtain⟨y1,h2,h⟩:=aB h;obtain⟨h3,h⟩|⟨h3,h⟩:=aL h
 ·obtain⟨y4,h5,h⟩:=aB h;cases h;exact(((aW.g (yB h2)).b h3).g (lZ h5)).ret hΓ
 ·obtain⟨y6,h7,h⟩:=aB h;cases h;exact(((aW.g (yB h2)).b h3).g (AS h7)).ret hΓ
def hY(aD:aG)(aY:aC):Option (aG×Bool):=((gT aD).bind fun y1=>(bif !(y1)then((iB aD).bind fun y4=>(some (y4,false)))else((CC aD aY).bind fun y6=>(some (y6.1,y6.2)))))
theorem qB{aD:aG}{aY:aC}{r:aG×Bool}(h:hY aD aY=some r):Good prog 24 [D.agg (aG.c aD),D.agg (aC.c aY)] (D.ff [D.agg [D.fr 63 4 (r.1.rules.map aK.c),D.fr 3 1 (r.1.ends.map gm),D.fr 83 3 (r.1.az.map aX.c),D.fr 74 8 (r.1.nodes.map Node.c),D.fr 43 2 (r.1.facts.map aC.c),D.int .i64 r.1.br],D.bool r.2]):=by
 refine gd func24 [[some (63,4),some (3,1),some (83,3),some (74,8),some (43,2),none],[none]] 16 fun hr Γ hΓ=>?_
 rw[hY]at h;obtain⟨y1,h2,h⟩:=aB h;obtain⟨h3,h⟩|⟨h3,h⟩:=aL h
 ·obtain⟨y4,h5,h⟩:=aB h;cases h;exact(((aW.g (fO h2)).b h3).g (lZ h5)).ret hΓ
 ·obtain⟨y6,h7,h⟩:=aB h;cases h;exact(((aW.g (fO h2)).b h3).g (Lz h7)).ret hΓ
def uU(aD:aK)(aY:Int)(cX:aI):Option ai:=((mS aD).bind fun y1=>(bif !(y1)then(some ([]:ai))else((nU cX).bind fun y4=>(bif !(y4)then(some ([]:ai))else((kL aY 0 ((aD.conds.map aP.c).length:Int)).bind fun y7=>(bif !(y7)then(some ([]:ai))else((wT (aD.conds.map aP.c).length none (some (D.int .i64 aY))).bind fun p=>(fun l10 u11=>((nZ ((aD.conds.take u11).drop l10) cX).bind fun wD=>(some wD))) p.1 p.2)))))))
theorem GW{aD:aK}{aY:Int}{cX:aI}{r:ai}(h:uU aD aY cX=some r):Good prog 129 [D.agg (aK.c aD),D.int .i64 aY,D.sl (cX.map aC.c)] (D.fr 77 2 (r.map aO.c)):=by
 refine gd func129 [[some (77,2)]] 30 fun hr Γ hΓ=>?_
 rw[uU]at h;obtain⟨y1,h2,h⟩:=aB h;obtain⟨h3,h⟩|⟨h3,h⟩:=aL h
 ·cases h;exact(((aW.g (eT h2)).r 4 h3).T 8).ret hΓ
 ·obtain⟨y4,h5,h⟩:=aB h;have kX:=((((aW.g (eT h2)).r 2 h3).g (ld h5)).r 2 h3)
  obtain⟨h6,h⟩|⟨h6,h⟩:=aL h
  ·cases h;exact((kX.r 7 h6).T 1).ret hΓ
  ·obtain⟨y7,h8,h⟩:=aB h;have fE:=(((kX.r 5 h6).g (fe h8)).r 2 h6)
   obtain⟨h9,h⟩|⟨h9,h⟩:=aL h
   ·cases h;exact(fE.b h9).ret hΓ
   ·obtain⟨⟨l10,u11⟩,h12,h⟩:=aB h;obtain⟨wD,h14,h⟩:=aB h;have h:=aN h;subst h;exact((((fE.b h9).w (show wT (aD.conds.map aP.c).length none (some (D.int .i64 aY))=some (l10,u11)/\((aD.conds.map aP.c).all fun r=>r.length==5)=true from⟨h12,by simp[aj]⟩)).a [.cut l10 u11,.d (D.fr 77 2 (wD.map aO.c))]).w (show Good prog 46 [D.sl (((aD.conds.map aP.c).take u11).drop l10),D.sl (cX.map aC.c)] (D.fr 77 2 (wD.map aO.c))from by first| (simpa only[bD,au,bg,bZ,bh]using rq h14)|exact rq h14)).ret hΓ
def nP(aD:aK)(y1:ai)(k1:cR->Option cR):ai->Nat->cR->Option cR
 | [],i1,bR=>(k1 bR)
 |bS::cT,i1,bR=>(bif room ((bR.map bM.c).length+([[D.str aD.name,D.sl (bS.facts.map aC.c),D.sl (bS.bind.map aV.c)]]).length) 64 then(nP aD y1 k1 cT (i1+1) (bR++([(⟨aD.name,bS.facts,bS.bind⟩:bM)])))else none)
def tL(aD:aK)(aY:aI):Option cR:=((uU aD ((aD.conds.map aP.c).length:Int) aY).bind fun y1=>(bif decide (y1.length<=maxLen)then(nP aD y1 (fun(cC:cR)=>(some cC)) y1 0 ([]:cR))else none))
def Aa(aD:aK)(y1:ai)(W0:List aQ)(dG:Int):St:=⟨[(2,D.ptr 0 0),(5,D.acc 1),(6,D.acc 2),(7,D.int .i64 dG)],[Ob.box (aK.c aD),Ob.row .sh 57 3 W0,Ob.row .uq 77 2 (y1.map aO.c)]⟩
theorem GP(hΓ:Γ.nt=38){aD:aK}{y1:ai}{r:cR}{k1:cR->Option cR}(dX:∀(cC:cR),k1 cC=some r->Ax Γ N f70 (.q [[none]] (D.sl (r.map bM.c))) [1,1,1,1] ⟨[(5,D.acc 0)],[Ob.row .sh 57 3 (cC.map bM.c)]⟩)(hm1:y1.length<=maxLen):∀(rest:ai) (i1:Nat) (bR:cR),y1.drop i1=rest->nP aD y1 k1 rest i1 bR=some r->Ar Γ N f70 (.q [[none]] (D.sl (r.map bM.c))) [1,1,1,0,1,0] (rest.length+1) (Aa aD y1 (bR.map bM.c) (i1:Int)):=by
 intro rest
 induction rest with
 |nil=>
  intro i1 bR b8 h;rw[nP]at h;refine aU fun N1 cW cK=>?_
  exact((aW.ge aO.c b8).a [.hl 0 [5] [1]]).ex hΓ cW (dX bR h)
 |cons bS cT ih1=>
  intro i1 bR b8 h;rw[nP]at h;refine aU fun N1 cW cK=>?_
  obtain⟨h21,h⟩:=bQ h;exact((((((((aW.lt aO.c b8).a [.n 15]).i (mL aO.c 2 (dc b8))).o 2 1 .uq (cH aO.c (dc b8))).i (mL aO.c 2 (dc b8))).o 2 2 .uq (cH aO.c (dc b8))).w (bX h21)).a [.cn [2,5,6,7] [0,4,2]]).cs hΓ cK (Aa aD y1 ((bR.map bM.c)++([[D.str aD.name,D.sl (bS.facts.map aC.c),D.sl (bS.bind.map aV.c)]])) (IntKind.i64.wrap ((i1:Int)+1))) (by first| (simp only[iS b8 hm1,mA]<;>rfl)| (simp only[iS b8 hm1,mA,aC.c,aV.c,aP.c,Action.c,aK.c,aO.c,bM.c,aX.c,Node.c,aG.c,dL.c]<;>rfl)) (ih1 (i1+1) (bR++([(⟨aD.name,bS.facts,bS.bind⟩:bM)])) (dn b8) h)
theorem FF{aD:aK}{aY:aI}{r:cR}(h:tL aD aY=some r):Good prog 70 [D.agg (aK.c aD),D.sl (aY.map aC.c)] (D.sl (r.map bM.c)):=by
 refine gd func70 [[none]] 38 fun hr Γ hΓ=>?_
 rw[tL]at h;obtain⟨y1,h2,h⟩:=aB h;obtain⟨h22,h⟩:=bQ h;refine((aW.g (GW h2)).a [.sk 1,.cn [2,5,6,7] [0,1,2]]).lp hΓ (GP hΓ (fun cC h=>?_) (bV h22) y1 0 ([]:cR) rfl h);have h:=aN h;subst h;exact aW.ret hΓ
def fp(aD:aq)(aY:aI)(k1:cR->Option cR):aq->Nat->cR->Option cR
 | [],i1,bP=>(k1 bP)
 |bS::cT,i1,bP=>((rC aD).bind fun Qc=>(bif Qc then((tL bS aY).bind fun B4=>(bif room ((bP.map bM.c).length+(B4.map bM.c).length) 64 then(fp aD aY k1 cT (i1+1) (bP++B4))else none))else(k1 bP)))
def mq(aD:aq)(aY:aI):Option cR:=(fp aD aY (fun(cC:cR)=>(some cC)) aD 0 ([]:cR))
def za(aD:aq)(aY:aI)(W0:List aQ)(dG:Int):St:=⟨[(0,D.sl (aD.map aK.c)),(1,D.sl (aY.map aC.c)),(5,D.acc 0),(6,D.int .i64 dG)],[Ob.row .sh 57 3 W0]⟩
theorem FA(hΓ:Γ.nt=27){aD:aq}{aY:aI}{r:cR}{k1:cR->Option cR}(dX:∀(cC:cR),k1 cC=some r->Ax Γ N f25 (.q [[none]] (D.sl (r.map bM.c))) [1,1,1] ⟨[(5,D.acc 0)],[Ob.row .sh 57 3 (cC.map bM.c)]⟩)(hm1:aD.length<=maxLen):∀(rest:aq) (i1:Nat) (bP:cR),aD.drop i1=rest->fp aD aY k1 rest i1 bP=some r->Ar Γ N f25 (.q [[none]] (D.sl (r.map bM.c))) [1,1,0,1,0] (rest.length+1) (za aD aY (bP.map bM.c) (i1:Int)):=by
 intro rest
 induction rest with
 |nil=>
  intro i1 bP b8 h;rw[fp]at h;refine aU fun N1 cW cK=>?_
  exact(((((aW.ge aK.c b8).ge aK.c b8).ge aK.c b8).F 1).a [.hl 0 [5] [0]]).ex hΓ cW (dX bP h)
 |cons bS cT ih1=>
  intro i1 bP b8 h;rw[fp]at h;refine aU fun N1 cW cK=>?_
  obtain⟨Qc,h43,h⟩:=aB h;have fE:=((((aW.lt aK.c b8).lt aK.c b8).g (vY h43)).lt aK.c b8)
  obtain⟨h44,h⟩|⟨h44,h⟩:=aL h
  ·obtain⟨B4,h46,h⟩:=aB h;obtain⟨h47,h⟩:=bQ h;exact((((((fE.b h44).l (bG aK.c 4 (dc b8) rfl)).g (FF h46)).w (bX h47)).w (show(∀r∈(B4.map bM.c),r.length=3)/\(false=true->D.iN (B4.map bM.c)=true)from⟨by first|simp| (intro r hr;obtain⟨x,_,rfl⟩:=bt.1 (bn (eE hr));rfl),by simp[D.iN,D.flat]⟩)).a [.fl false,.cn [0,1,5,6] [1]]).cs hΓ cK (za aD aY ((bP.map bM.c)++(B4.map bM.c)) (IntKind.i64.wrap ((i1:Int)+1))) (by first| (simp only[iS b8 hm1,mA]<;>rfl)| (simp only[iS b8 hm1,mA,aC.c,aV.c,aP.c,Action.c,aK.c,aO.c,bM.c,aX.c,Node.c,aG.c,dL.c]<;>rfl)) (ih1 (i1+1) (bP++B4) (dn b8) h)
  ·exact((fE.b h44).a [.hl 0 [5] [0]]).ex hΓ cW (dX bP h)
theorem tq{aD:aq}{aY:aI}{r:cR}(h:mq aD aY=some r):Good prog 25 [D.sl (aD.map aK.c),D.sl (aY.map aC.c)] (D.sl (r.map bM.c)):=by
 refine gd func25 [[none]] 27 fun hr Γ hΓ=>?_
 rw[mq]at h;refine(aW.a [.sk 0,.cn [0,1,5,6] [0]]).lp hΓ (FA hΓ (fun cC h=>?_) (by have:=(gb.sl (hr _ (aE (i:=0) rfl))).1;simpa using this) aD 0 ([]:cR) rfl h);have h:=aN h;subst h;exact aW.ret hΓ
def gQ(aD:aI)(aY:aC)(k1:aI->Option aI):aI->Nat->aI->Option aI
 | [],i1,bR=>(k1 bR)
 |bS::cT,i1,bR=>((qL bS aY).bind fun Qc=>(bif !(Qc)then((dQ bS).bind fun B4=>(bif room ((bR.map aC.c).length+([[D.str B4.rel,D.sl (B4.args.map tx)]]).length) 40 then(gQ aD aY k1 cT (i1+1) (bR++([B4])))else none))else(gQ aD aY k1 cT (i1+1) bR)))
def vr(aD:aI)(aY:aC):Option aI:=(gQ aD aY (fun(cC:aI)=>(some cC)) aD 0 ([]:aI))
def Ae(aD:aI)(aY:aC)(W0:List aQ)(dG:Int):St:=⟨[(0,D.sl (aD.map aC.c)),(3,D.ptr 0 0),(5,D.acc 1),(6,D.int .i64 dG)],[Ob.box (aC.c aY),Ob.row .uq 43 2 W0]⟩
theorem GY(hΓ:Γ.nt=30){aD:aI}{aY:aC}{r:aI}{k1:aI->Option aI}(dX:∀(cC:aI),k1 cC=some r->Ax Γ N f71 (.q [[some (43,2)]] (D.fr 43 2 (r.map aC.c))) [1,1,1] ⟨[(5,D.acc 0)],[Ob.row .uq 43 2 (cC.map aC.c)]⟩)(hm1:aD.length<=maxLen):∀(rest:aI) (i1:Nat) (bR:aI),aD.drop i1=rest->gQ aD aY k1 rest i1 bR=some r->Ar Γ N f71 (.q [[some (43,2)]] (D.fr 43 2 (r.map aC.c))) [1,1,0,1,0] (rest.length+1) (Ae aD aY (bR.map aC.c) (i1:Int)):=by
 intro rest
 induction rest with
 |nil=>
  intro i1 bR b8 h;rw[gQ]at h;refine aU fun N1 cW cK=>?_
  exact((aW.ge aC.c b8).a [.hl 0 [5] [1]]).ex hΓ cW (dX bR h)
 |cons bS cT ih1=>
  intro i1 bR b8 h;rw[gQ]at h;refine aU fun N1 cW cK=>?_
  obtain⟨Qc,h43,h⟩:=aB h;have fE:=((((aW.lt aC.c b8).a [.n 5]).l (bG aC.c 2 (dc b8) rfl)).g (xK h43))
  obtain⟨h44,h⟩|⟨h44,h⟩:=aL h
  ·obtain⟨B4,h46,h⟩:=aB h;obtain⟨h47,h⟩:=bQ h;exact(((((fE.b h44).l (bG aC.c 2 (dc b8) rfl)).g (eV h46)).w (bX h47)).a [.cn [0,3,5,6] [0,4]]).cs hΓ cK (Ae aD aY ((bR.map aC.c)++([[D.str B4.rel,D.sl (B4.args.map tx)]])) (IntKind.i64.wrap ((i1:Int)+1))) (by first| (simp only[iS b8 hm1,mA]<;>rfl)| (simp only[iS b8 hm1,mA,aC.c,aV.c,aP.c,Action.c,aK.c,aO.c,bM.c,aX.c,Node.c,aG.c,dL.c]<;>rfl)) (ih1 (i1+1) (bR++([B4])) (dn b8) h)
  ·exact((fE.b h44).a [.cn [0,3,5,6] [0,1]]).ct hΓ cK (iS b8 hm1) (ih1 (i1+1) bR (dn b8) h)
theorem FO{aD:aI}{aY:aC}{r:aI}(h:vr aD aY=some r):Good prog 71 [D.sl (aD.map aC.c),D.agg (aC.c aY)] (D.fr 43 2 (r.map aC.c)):=by
 refine gd func71 [[some (43,2)]] 30 fun hr Γ hΓ=>?_
 rw[vr]at h;refine(aW.a [.cn [0,3,5,6] [0,1]]).lp hΓ (GY hΓ (fun cC h=>?_) (by have:=(gb.sl (hr _ (aE (i:=0) rfl))).1;simpa using this) aD 0 ([]:aI) rfl h);have h:=aN h;subst h;exact aW.ret hΓ
def pP(aD:aI)(aY:aC):Option (aI×Bool):=((nU aD).bind fun y1=>(bif !(y1)then((dF aD).bind fun y4=>(some (y4,false)))else((rD aD aY).bind fun y6=>(bif decide ((y6:Int)<0)then((dF aD).bind fun y9=>(some (y9,false)))else((vr aD aY).bind fun B3=>(some (B3,true)))))))
theorem yE{aD:aI}{aY:aC}{r:aI×Bool}(h:pP aD aY=some r):Good prog 26 [D.sl (aD.map aC.c),D.agg (aC.c aY)] (D.ff [D.fr 43 2 (r.1.map aC.c),D.bool r.2]):=by
 refine gd func26 [[some (43,2)],[none]] 20 fun hr Γ hΓ=>?_
 rw[pP]at h;obtain⟨y1,h2,h⟩:=aB h;obtain⟨h3,h⟩|⟨h3,h⟩:=aL h
 ·obtain⟨y4,h5,h⟩:=aB h;cases h;exact((((aW.g (ld h2)).r 5 h3).T 1).g (dh h5)).ret hΓ
 ·obtain⟨y6,h7,h⟩:=aB h;have kX:=((((aW.g (ld h2)).r 3 h3).g (zb h7)).r 2 h3)
  obtain⟨h8,h⟩|⟨h8,h⟩:=aL h
  ·obtain⟨y9,h10,h⟩:=aB h;cases h;exact((kX.b h8).g (dh h10)).ret hΓ
  ·obtain⟨B3,h12,h⟩:=aB h;cases h;exact((kX.b h8).g (FO h12)).ret hΓ
theorem x7{α:Type}{a pre xs:List α}{x:α}(h:a=pre++x::xs):fy a (pre.length:Int)=some x:=by
 unfold fy;have:a[pre.length]?=some x:=by rw[h];simp
 simp[this]
theorem Ek{n b:Nat}(hn:n<=1099511627776)(hb:b<=128):room n b=true:=by
 unfold room maxLen;have:n*b<=1099511627776*128:=Ff hn hb;simp;omega
theorem gB{α:Type}{w:List α}{c:α->aQ}{y:aQ}{b:Nat}(h:w.length<1099511627776)(hb:b<=128):room ((w.map c).length+([y]).length) b=true:=Ek (by simp;omega) hb
theorem WG{α β:Type}{w:List α}{v:List β}{c:α->aQ}{d:β->aQ}{b:Nat}(h:w.length+v.length<=1099511627776)(hb:b<=128):room ((w.map c).length+(v.map d).length) b=true:=Ek (by simp;omega) hb
theorem TR{β:Type}{v:List β}{d:β->aQ}{b:Nat}(h:v.length<=1099511627776)(hb:b<=128):room (([]:List aQ).length+(v.map d).length) b=true:=Ek (by simp;omega) hb
theorem tY{α:Type}{l:List α}(h:l.length<=1099511627776):decide (l.length<=maxLen)=true:=by unfold maxLen;simp;omega
theorem ES{α β γ:Type}{c:β->aQ}{b:Nat}{f:α->Option β}{g:α->β}{L:List α->Nat->List β->Option γ}{k:List β->Option γ}(hb:b<=128)(vz:∀i w,L [] i w=k w)
 (vc:∀x xs i w,L (x::xs) i w=(f x).bind fun y=>bif room ((w.map c).length+([c y]).length) b then L xs (i+1) (w++[y])else none):
 ∀(l:List α) (i:Nat) (w:List β),(∀x∈l,f x=some (g x))->w.length+l.length<=1099511627776->L l i w=k (w++l.map g):=by
 intro l
 induction l with
 |nil=>intro i w _ _;simp[vz]
 |cons x xs ih=>
  intro i w hf hl;simp only[aS]at hl;rw[vc,hf x (by simp),aA,gB (by omega) hb,aF,ih _ _ (fun y hy=>hf y (by simp[hy])) (by simp;omega)];simp
theorem Wl{α:Type}{f:α->Option Bool}{p:α->Bool}{L:List α->Nat->Option Bool}{k:Option Bool}(vz:∀i,L [] i=k)
 (vc:∀x xs i,L (x::xs) i=(f x).bind fun y=>bif !y then some false else L xs (i+1)):∀(l:List α) (i:Nat),(∀x∈l,f x=some (p x))->L l i=bif l.all p then k else some false:=by
 intro l
 induction l with
 |nil=>intro i _;simp[vz]
 |cons x xs ih=>
  intro i hf;rw[vc,hf x (by simp),aA,ih _ (fun y hy=>hf y (by simp[hy])),dP];cases p x<;>simp
theorem qy:∀(a:Bytes),Op.bytesLess a a=false
 | []=>rfl
 |x::a=>by simp[Op.bytesLess,qy a]
theorem zQ:∀ {a b c:Bytes},Op.bytesLess a b=true->Op.bytesLess b c=true->Op.bytesLess a c=true
 | [],b,[],_,h2=>by cases b<;>simp[Op.bytesLess]at h2
 | [],b,_::_,_,_=>by simp[Op.bytesLess]
 |_::_,[],_,h1,_=>by simp[Op.bytesLess]at h1
 |_::_,_::_,[],_,h2=>by simp[Op.bytesLess]at h2
 |x::a,y::b,z::c,h1,h2=>by
  simp only[Op.bytesLess,pR,bC,aR,cZ]at h1 h2⊢;rcases h1 with h1|⟨rfl,h1⟩
  ·rcases h2 with h2|⟨rfl,h2⟩
   ·exact .inl (UInt8.lt_trans h1 h2)
   ·exact .inl h1
  ·rcases h2 with h2|⟨rfl,h2⟩
   ·exact .inl h2
   ·exact .inr ⟨rfl,zQ h1 h2⟩
theorem Fl:∀ {a b:Bytes},Op.bytesLess a b=false->Op.bytesLess b a=false->a=b
 | [],[],_,_=>rfl
 | [],_::_,h,_=>by simp[Op.bytesLess]at h
 |_::_,[],_,h=>by simp[Op.bytesLess]at h
 |x::a,y::b,h1,h2=>by
  simp only[Op.bytesLess,Bool.or_eq_false_iff,pG,Eo,cw,ne_eq]at h1 h2;have e:x=y:=by
   have h3:=h1.1;have h4:=h2.1;rw[Et]at h3 h4;exact UInt8.toNat_inj.1 (by omega)
  subst e;rw[Fl (h1.2.resolve_left (by simp)) (h2.2.resolve_left (by simp))]
theorem K5{a b:Bytes}(h:Op.bytesLess a b=true):Op.bytesLess b a=false:=by
 cases hb:Op.bytesLess b a with
 |false=>rfl
 |true=>have:=zQ h hb;rw[qy]at this;cases this
def SS(l:aH):Prop:=l.Pairwise fun a b=>Op.bytesLess a b=true
theorem Lr:∀ {a b:aH},SS a->SS b->(∀x,x∈a↔x∈b)->a=b
 | [],[],_,_,_=>rfl
 | [],y::b,_,_,h=>by have:=(h y).2 (by simp);cases this
 |x::a,[],_,_,h=>by have:=(h x).1 (by simp);cases this
 |x::a,y::b,h1,h2,h=>by
  obtain⟨p1,p2⟩:=kr.1 h1;obtain⟨q1,q2⟩:=kr.1 h2;have e:x=y:=by
   refine Fl ?_ ?_
   ·cases hb:Op.bytesLess x y with
    |false=>rfl
    |true=>
     rcases bJ.1 ((h x).1 (by simp))with rfl|hx
     ·exact(qy x▸hb).symm
     ·have:=K5 (q1 x hx);rw[hb]at this;exact this
   ·cases hb:Op.bytesLess y x with
    |false=>rfl
    |true=>
     rcases bJ.1 ((h y).2 (by simp))with rfl|hx
     ·exact(qy y▸hb).symm
     ·have:=K5 (p1 y hx);rw[hb]at this;exact this
  subst e;rw[Lr p2 q2 (fun z=>?_)];constructor
  ·intro hz;rcases bJ.1 ((h z).1 (by simp[hz]))with rfl|Pd
   ·have:=p1 z hz;rw[qy]at this;cases this
   ·exact Pd
  ·intro hz;rcases bJ.1 ((h z).2 (by simp[hz]))with rfl|Pd
   ·have:=q1 z hz;rw[qy]at this;cases this
   ·exact Pd
def AJ:aH->Bytes->aH
 | [],s=>[s]
 |x::xs,s=>bif Op.bytesLess x s then x::AJ xs s else bif x==s then x::xs else s::x::xs
theorem On:∀ {l:aH} {s y:Bytes},y∈AJ l s↔y=s\/y∈l
 | [],s,y=>by simp[AJ]
 |x::xs,s,y=>by
  simp only[AJ];cases Op.bytesLess x s with
  |true=>simp only[aF,bJ,On (l:=xs)];constructor<;>(rintro(h|h|h)<;>simp[h])
  |false=>
   simp only[aM];cases hx:x==s with
   |true=>
    simp only[cZ]at hx;subst hx;simp
   |false=>simp
theorem WN:∀ {l:aH} {s:Bytes},SS l->SS (AJ l s)
 | [],s,_=>by simp[AJ,SS]
 |x::xs,s,h=>by
  obtain⟨p1,p2⟩:=kr.1 h;simp only[AJ];cases hb:Op.bytesLess x s with
  |true=>
   simp only[aF];refine kr.2 ⟨fun y hy=>?_,WN p2⟩;rcases On.1 hy with rfl|hy
   ·exact hb
   ·exact p1 y hy
  |false=>
   simp only[aM];cases hx:x==s with
   |true=>exact h
   |false=>
    have hs:Op.bytesLess s x=true:=by
     cases hc:Op.bytesLess s x with
     |true=>rfl
     |false=>have:=Fl hb hc;subst this;simp at hx
    refine kr.2 ⟨fun y hy=>?_,h⟩;rcases bJ.1 hy with rfl|hy
    ·exact hs
    ·exact zQ hs (p1 y hy)
theorem Bm:∀(l:aH) (s:Bytes),(AJ l s).length<=l.length+1
 | [],s=>by simp[AJ]
 |x::xs,s=>by
  have:=Bm xs s;simp only[AJ];cases Op.bytesLess x s<;>simp only[aF,aM,aS]
  ·cases x==s<;>simp
  ·omega
def fD(l:aH):aH:=l.foldl AJ []
theorem Gk:∀(l a:aH) (y:Bytes),y∈l.foldl AJ a↔y∈a\/y∈l
 | [],a,y=>by simp
 |x::l,a,y=>by
  rw[cu,Gk l,On];simp only[bJ];constructor
  ·rintro((h|h)|h)<;>simp[h]
  ·rintro(h|h|h)<;>simp[h]
theorem Ii:∀(l:aH) {a:aH},SS a->SS (l.foldl AJ a)
 | [],a,h=>h
 |x::l,a,h=>Ii l (WN h)
theorem Gj:∀(l a:aH),(l.foldl AJ a).length<=a.length+l.length
 | [],a=>by simp
 |x::l,a=>by
  have h1:=Gj l (AJ a x);have h2:=Bm a x;rw[cu,aS];omega
theorem qZ{l:aH}{y:Bytes}:y∈fD l↔y∈l:=by unfold fD;rw[Gk];simp
theorem P7(l:aH):SS (fD l):=Ii l (by simp[SS])
theorem rG(l:aH):(fD l).length<=l.length:=by have:=Gj l [];simpa[fD]using this
theorem HA{a b:aH}(h:∀x,x∈a↔x∈b):fD a=fD b:=Lr (P7 a) (P7 b) (fun x=>by rw[qZ,qZ,h])
theorem V2(a:aH)(x:Bytes):AJ (fD a) x=fD (a++[x]):=by simp[fD]
theorem V1(a b:aH):b.foldl AJ (fD a)=fD (a++b):=by simp[fD]
theorem HB(a b:aH):(fD b).foldl AJ (fD a)=fD (a++b):=by
 rw[V1];exact HA (fun x=>by simp[qZ])
theorem ol(l:aH)(v:Bytes):(fD l).contains v=l.contains v:=by
 rw[bw];simp[qZ]
def in1(x:UInt8):Bool:=decide ((x.toNat:Int)>=97)&&decide ((x.toNat:Int)<=122)
def in2(x:UInt8):Bool:=decide ((x.toNat:Int)>=48)&&decide ((x.toNat:Int)<=57)
def ab(x:UInt8):Bool:=in1 x||in2 x
def XC(s:Bytes):Bool:=decide ((s.length:Int)>=1)&&decide ((s.length:Int)<=8)
def fH(s:Bytes):Bool:=s.all ab&&XC s
def a3y:Bytes->Bool
 | []=>false
 |x::_=>decide ((x.toNat:Int)>=97)
def yP(s:Bytes):Bool:=fH s&&a3y s
def fQ:Bytes->Bool
 | []=>false
 |x::t=>decide ((x.toNat:Int)=63)&&fH t
def mK(s:Bytes):Bool:=fH s||fQ s
theorem Ay{s:Bytes}(h:fH s=true):1<=s.length/\s.length<=8:=by
 simp only[fH,XC,aR,bC]at h;omega
theorem QF{s:Bytes}(h:yP s=true):1<=s.length/\s.length<=8:=by
 simp only[yP,aR]at h;exact Ay h.1
theorem La{s:Bytes}(h:fQ s=true):1<=s.length/\s.length<=9:=by
 cases s with
 |nil=>cases h
 |cons x t=>simp only[fQ,aR]at h;have:=Ay h.2;simp;omega
theorem Xg{s:Bytes}(h:mK s=true):1<=s.length/\s.length<=9:=by
 simp only[mK,pR]at h;rcases h with h|h
 ·have:=Ay h;omega
 ·exact La h
theorem nC{s:Bytes}(h:fQ s=true):fH s=false:=by
 cases s with
 |nil=>cases h
 |cons x t=>
  simp only[fQ,aR,bC]at h;simp only[fH,dP,ab,in1,in2];have:(x.toNat:Int)=63:=h.1;simp[this]
theorem a52(x:UInt8):IntKind.i64.wrap ((x.toNat:Nat):Int)=(x.toNat:Int):=dY (qQ.i64.2 (by have:=x.toNat_lt;omega))
theorem En{n:Nat}(h:n<=1099511627776):IntKind.i64.wrap ((n:Int)+1)=((n+1:Nat):Int):=by rw[dY (qQ.i64.2 (by omega))];omega
theorem WA{n:Nat}(h:1<=n):wT n (some (D.int .i64 1)) none=some (1,n):=by
 unfold wT;have:(0:Int)<=1/\(1:Int).toNat<=n:=⟨by decide,h⟩
 simp only[bL this];rfl
theorem Il(a b c:Int):kL a b c=some (decide (a>=b)&&decide (a<=c)):=by
 unfold kL;cases decide (a>=b)<;>rfl
theorem a6W(a:Bytes)(k:Option Bool)(ha:a.length<=1048576):∀(rest pre:Bytes),a=pre++rest->∀n,rest.length<n->jg a k n (pre.length:Int)=bif rest.all ab then k else some false:=by
 intro rest
 induction rest with
 |nil=>
  intro pre h n hn;obtain⟨m,rfl⟩:∃m,n=m+1:=⟨n-1,by simp at hn;omega⟩
  have e1:decide ((pre.length:Int)<(a.length:Int))=false:=by simp[h]
  rw[jg,e1];rfl
 |cons x xs ih=>
  intro pre h n hn;obtain⟨m,rfl⟩:∃m,n=m+1:=⟨n-1,by simp at hn;omega⟩
  have hl:a.length=pre.length+(xs.length+1):=by rw[h];simp
  have e1:decide ((pre.length:Int)<(a.length:Int))=true:=by rw[hl];simp;omega
  have e4:IntKind.i64.wrap ((pre.length:Int)+1)=((pre++[x]).length:Int):=by rw[En (by omega)];simp
  have t:=ih (pre++[x]) (by simp[h]) m (by simp at hn;omega);rw[jg,e1,aF,x7 h,aA,a52,Il,Il,aA,aA,e4,t,dP];show(bif !in1 x then(bif !in2 x then _ else _)else _)=bif (in1 x||in2 x)&&xs.all ab then k else some false
  cases in1 x<;>cases in2 x<;>simp
theorem ND(a:Bytes)(ha:a.length<=1048576):gF a=some (fH a):=by
 unfold gF;refine(a6W a _ ha a [] rfl fuel (by unfold fuel;omega)).trans ?_;rw[Il,aA];show _=some (a.all ab&&XC a);cases a.all ab<;>rfl
theorem a5u(a:Bytes)(k:Option Bool)(ha:a.length<=1048576):∀(rest pre:Bytes),a=pre++rest->∀n,rest.length<n->gS a k n (pre.length:Int)=bif rest.all ab then k else some false:=by
 intro rest
 induction rest with
 |nil=>
  intro pre h n hn;obtain⟨m,rfl⟩:∃m,n=m+1:=⟨n-1,by simp at hn;omega⟩
  have e1:decide ((pre.length:Int)<(a.length:Int))=false:=by simp[h]
  rw[gS,e1];rfl
 |cons x xs ih=>
  intro pre h n hn;obtain⟨m,rfl⟩:∃m,n=m+1:=⟨n-1,by simp at hn;omega⟩
  have hl:a.length=pre.length+(xs.length+1):=by rw[h];simp
  have e1:decide ((pre.length:Int)<(a.length:Int))=true:=by rw[hl];simp;omega
  have e4:IntKind.i64.wrap ((pre.length:Int)+1)=((pre++[x]).length:Int):=by rw[En (by omega)];simp
  have t:=ih (pre++[x]) (by simp[h]) m (by simp at hn;omega);rw[gS,e1,aF,x7 h,aA,e4,t,dP];have c1:decide ((x.toNat:Int)>=97)= !decide ((x.toNat:Int)<97):=by rw[bw];simp
  have c2:decide ((x.toNat:Int)<=122)= !decide ((x.toNat:Int)>122):=by rw[bw];simp
  have c3:decide ((x.toNat:Int)>=48)= !decide ((x.toNat:Int)<48):=by rw[bw];simp
  have c4:decide ((x.toNat:Int)<=57)= !decide ((x.toNat:Int)>57):=by rw[bw];simp
  rw[ab,in1,in2,c1,c2,c3,c4];cases decide ((x.toNat:Int)<97)<;>cases decide ((x.toNat:Int)>122)<;>cases decide ((x.toNat:Int)<48)<;>cases decide ((x.toNat:Int)>57)<;>simp
theorem Mx(a:Bytes)(ha:a.length<=1048576):gC a=some (fH a):=by
 unfold gC;rw[show gS a (some true) fuel 0=_ from a5u a _ ha a [] rfl fuel (by unfold fuel;omega)];have c1:decide ((a.length:Int)>=1)= !decide ((a.length:Int)<1):=by rw[bw];simp
 have c2:decide ((a.length:Int)<=8)= !decide ((a.length:Int)>8):=by rw[bw];simp
 rw[fH,XC,c1,c2];cases decide ((a.length:Int)<1)<;>cases decide ((a.length:Int)>8)<;>cases a.all ab<;>rfl
theorem a0a(a:Bytes)(ha:a.length<=1048576):sJ a=some (yP a):=by
 unfold sJ;rw[ND a ha,aA,yP];cases h:fH a with
 |false=>rfl
 |true=>
  cases a with
  |nil=>simp[fH,XC]at h
  |cons x xs=>
   rw[show fy (x::xs) 0=some x from rfl];simp only[aF,aA,a52,Il,eM,ay,a3y];simp only[fH,dP,ab,in1,in2,aR,pR,bC]at h;rw[bw];simp only[aR,bC];omega
theorem ZV(a:Bytes)(ha:a.length<=1048576):sG a=some (yP a):=by
 unfold sG;rw[Mx a ha,aA,yP];cases h:fH a with
 |false=>rfl
 |true=>
  cases a with
  |nil=>simp[fH,XC]at h
  |cons x xs=>rfl
theorem Rj(a:Bytes)(ha:a.length<=1048576):iF a=some (fQ a):=by
 unfold iF;cases a with
 |nil=>rfl
 |cons x t=>
  simp only[aS]at ha;rw[show fy (x::t) 0=some x from rfl,aA,WA (by simp),aA];have e:(((x::t).take ((x::t).length)).drop 1)=t:=by simp
  simp only[e,ND t (by omega),aA,fQ,ke];cases t with
  |nil=>cases decide ((x.toNat:Int)=63)<;>rfl
  |cons y t=>
   have e2:decide ((((x::y::t).length:Int):Int)>1)=true:=by simp;omega
   rw[e2];cases decide ((x.toNat:Int)=63)<;>simp
theorem X7(a:Bytes)(ha:a.length<=1048576):mZ a=some (fQ a):=by
 unfold mZ;cases a with
 |nil=>rfl
 |cons x t=>
  simp only[aS]at ha;rw[show fy (x::t) 0=some x from rfl,aA,WA (by simp),aA];have e:(((x::t).take ((x::t).length)).drop 1)=t:=by simp
  simp only[e,Mx t (by omega),aA,fQ,ke];cases t with
  |nil=>cases decide ((x.toNat:Int)=63)<;>rfl
  |cons y t=>
   have e2:decide ((((x::y::t).length:Int):Int)>1)=true:=by simp;omega
   rw[e2];cases decide ((x.toNat:Int)=63)<;>simp
theorem a0m(a:Bytes)(ha:a.length<=1048576):jS a=some (mK a):=by
 unfold jS mK;rw[ND a ha,Rj a ha];cases fH a<;>simp
theorem Za(a:Bytes)(ha:a.length<=1048576):jR a=some (mK a):=by
 unfold jR mK;rw[Mx a ha,X7 a ha];cases fH a<;>simp
theorem a0o(l:aH)(h:l.length<=1099511627776):tP l=some l:=by
 unfold tP;rw[TR h (by decide)];rfl
theorem RI(l:aH)(h:l.length<=1099511627776):o9 l=some l:=by
 unfold o9;rw[TR h (by decide)];rfl
theorem a0l(a b:aH):oG a b=some (decide (a=b)):=by
 unfold oG;exact eqL (c:=tx) (f:=fun x y=>some (x==y)) (fun k=>kT a b k) (fun _ _=>rfl) (fun _ _ _ _=>rfl) (fun x y=>by rw[ay,bw];simp)
theorem ZY(a b:aH):qV a b=some (decide (a=b)):=by
 unfold qV;exact eqL (c:=tx) (f:=fun x y=>some (x==y)) (fun k=>nN a b k) (fun _ _=>rfl) (fun _ _ _ _=>rfl) (fun x y=>by rw[ay,bw];simp)
theorem a65(a b:bH):uO a b=some (decide (a=b)):=by
 unfold uO;exact eqL (c:=gm) (f:=fun x y=>some (x==y)) (fun k=>oA a b k) (fun _ _=>rfl) (fun _ _ _ _=>rfl) (fun x y=>by rw[ay,bw];simp)
theorem Xa(l:aH)(v:Bytes):gY l v=some (l.contains v):=by
 unfold gY;have:∀(r:aH) (i:Nat),kD l v (some false) r i=some (r.contains v):=by
  intro r
  induction r with
  |nil=>intro i;rfl
  |cons x r ih=>
   intro i;rw[kD,ih,List.contains_cons];have:(x==v)=(v==x):=by rw[bw,cZ,cZ];exact eq_comm
   rw[this];cases v==x<;>rfl
 exact this l 0
theorem a2d(l:aH)(v:Bytes):mi l v=some (l.contains v):=by
 unfold mi;have:∀(r:aH) (i:Nat),mj l v (some false) r i=some (r.contains v):=by
  intro r
  induction r with
  |nil=>intro i;rfl
  |cons x r ih=>
   intro i;rw[mj,ih,List.contains_cons];have:(x==v)=(v==x):=by rw[bw,cZ,cZ];exact eq_comm
   rw[this];cases v==x<;>rfl
 exact this l 0
theorem a4y(a:aH)(s:Bytes)(k:Bool->aH->Option aH):∀(l:aH) (i:Nat) (w:aH),w.length+l.length<1099511627776->
 fC a s k l i true w=k true (w++l):=by
 intro l
 induction l with
 |nil=>intro i w _;simp[fC]
 |cons x xs ih=>
  intro i w h;simp only[aS]at h;rw[fC,bN,aM,gB (by omega) (by decide),aF,ih _ _ (by simp;omega)];simp
theorem a9N(a:aH)(s:Bytes)(k:Bool->aH->Option aH)(hk:∀w,w.length<1099511627776->k false w=some (w++[s]))(hk2:∀w,k true w=some w):∀(l:aH) (i:Nat) (w:aH),w.length+l.length+1<1099511627776->
 fC a s k l i false w=some (w++AJ l s):=by
 intro l
 induction l with
 |nil=>intro i w h;rw[fC,hk w (by omega)];rfl
 |cons x xs ih=>
  intro i w h;simp only[aS]at h;rw[fC,bz,aF,AJ];cases Op.bytesLess x s with
  |true=>
   simp only[bN,aM,aF];rw[gB (by omega) (by decide),aF,ih _ _ (by simp;omega)];simp
  |false=>
   simp only[bz,aF,aM];cases x==s with
   |true=>
    simp only[bN,aM,aF];rw[gB (by omega) (by decide),aF,a4y _ _ _ _ _ _ (by simp;omega),hk2];simp
   |false=>
    simp only[bz,aF,aM];rw[gB (by omega) (by decide),aF];have e:room (((w.map tx)++[[D.str s]]).length+([[D.str x]]).length) 16=true:=Ek (by simp;omega) (by decide);rw[e,aF,a4y _ _ _ _ _ _ (by simp;omega),hk2];simp
theorem Ur(l:aH)(s:Bytes)(h:l.length+1<1099511627776):n7 l s=some (AJ l s):=by
 unfold n7;rw[a9N l s _ (fun w hw=>by simp only[bz,aF];rw[gB hw (by decide)];rfl) (fun w=>by simp) l 0 [] (by simpa using h)];rfl
def dd:Option Bytes->aH->aH
 |_,[]=>[]
 |p,x::xs=>if p=some x then dd (some x) xs else x::dd (some x) xs
theorem U2:∀ {l:aH} {p:Option Bytes} {y:Bytes},y∈dd p l->y∈l
 | [],p,y,h=>by cases h
 |x::xs,p,y,h=>by
  simp only[dd]at h;split at h
  ·exact bJ.2 (.inr (U2 h))
  ·rcases bJ.1 h with rfl|h
   ·simp
   ·exact bJ.2 (.inr (U2 h))
theorem Zw:∀ {l:aH} {p:Option Bytes} {y:Bytes},y∈l->p=some y\/y∈dd p l
 |x::xs,p,y,h=>by
  simp only[dd];rcases bJ.1 h with rfl|h
  ·by_cases hp:p=some y
   ·exact .inl hp
   ·rw[b9 hp];exact .inr (by simp)
  ·have:=Zw (p:=some x) h;split
   ·rename_i hp;rcases this with e|e
    ·exact .inl (hp.trans e)
    ·exact .inr e
   ·rcases this with e|e
    ·cases e;exact .inr (by simp)
    ·exact .inr (by simp[e])
theorem a3t:∀ {l:aH} {p:Option Bytes},l.Pairwise (fun a b=>Op.bytesLess b a=false)->(∀q,p=some q->∀y∈l,Op.bytesLess y q=false)->SS (dd p l)/\∀q,p=some q->∀y∈dd p l,Op.bytesLess q y=true
 | [],p,_,_=>⟨by simp[dd,SS],by simp[dd]⟩
 |x::xs,p,h,hp=>by
  obtain⟨p1,p2⟩:=kr.1 h;obtain⟨i1,i2⟩:=a3t (l:=xs) (p:=some x) p2 (fun q hq y hy=>by cases hq;exact p1 y hy);simp only[dd];split
  ·rename_i he;exact⟨i1,fun q hq y hy=>by rw[he]at hq;cases hq;exact i2 x rfl y hy⟩
  ·rename_i he;refine⟨kr.2 ⟨fun y hy=>i2 x rfl y hy,i1⟩,fun q hq y hy=>?_⟩;have hqx:Op.bytesLess q x=true:=by
    cases hc:Op.bytesLess q x with
    |true=>rfl
    |false=>exact absurd (by rw[hq,Fl hc (hp q hq x (by simp))]) he
   rcases bJ.1 hy with rfl|hy
   ·exact hqx
   ·exact zQ hqx (i2 x rfl y hy)
theorem a0s(l:aH):pQ l=l.mergeSort (fun x y=> !Op.bytesLess y x):=by
 unfold pQ
 congr 1
 funext x y
 rw[Go.Proofs.bytesLess_eq];rw[bw];simp[List.not_lt]
theorem Rn(l:aH):(pQ l).Pairwise (fun a b=>Op.bytesLess b a=false):=by
 rw[a0s];have:=List.pairwise_mergeSort (le:=fun x y=> !Op.bytesLess y x) (fun a b c h1 h2=>by
  simp only[p9]at h1 h2⊢;cases hc:Op.bytesLess c a with
  |false=>rfl
  |true=>
   cases hb:Op.bytesLess b a with
   |true=>rw[h1]at hb;cases hb
   |false=>
    cases Qz:Op.bytesLess a b with
    |true=>have:=zQ hc Qz;rw[h2]at this;cases this
    |false=>have:=Fl hb Qz;subst this;rw[h2]at hc;cases hc) (fun a b=>by
  cases hc:Op.bytesLess b a with
  |false=>simp
  |true=>simp[K5 hc]) l
 exact this.imp (fun h=>by simpa using h)
theorem a2J(l:aH):dd none (pQ l)=fD l:=by
 refine Lr (a3t (Rn l) (by simp)).1 (P7 l) (fun x=>?_);rw[qZ];have hm:x∈pQ l↔x∈l:=(Bt l).mem_iff;constructor
 ·intro h;exact hm.1 (U2 h)
 ·intro h;rcases Zw (p:=none) (hm.2 h)with h|h
  ·cases h
  ·exact h
theorem ZZ(a:aH)(k:aH->Option aH)(ha:a.length<=1099511627775):∀(rest pre:aH) (w:aH),pQ ([]++a)=pre++rest->w.length+rest.length<=1099511627775->
 eO a k rest pre.length w=k (w++dd pre.getLast? rest):=by
 have hlen:(pQ ([]++a)).length=a.length:=(Bt _).length_eq;intro rest
 induction rest with
 |nil=>intro pre w _ _;simp[eO,dd]
 |cons x xs ih=>
  intro pre w h hw;simp only[aS]at hw;have hl:pre.length+(xs.length+1)=a.length:=by rw[<-hlen,h];simp
  have t:=fun w'=>ih (pre++[x]) w' (by rw[h];simp)
  simp only[ax,aS,bf,oc]at t;rw[eO];rcases ya pre with rfl|⟨p,z,hpz⟩
  ·have e0:(((([]:aH).length:Int):Int)==0)=true:=rfl;rw[e0,aF,gB (by omega) (by decide),aF,t _ (by simp;omega)];simp[dd]
  ·rw[yZ]at hpz;subst hpz;have e0:((((p++[z]).length:Int):Int)==0)=false:=by simp;omega
   have e1:IntKind.i64.wrap (((p++[z]).length:Int)-1)=(p.length:Int):=by
    rw[dY (qQ.i64.2 (by simp at hl⊢;omega))];simp
   have e2:fy (pQ ([]++a)) (p.length:Int)=some z:=x7 (xs:=x::xs) (by rw[h];simp);rw[e0,aM,e1,e2,aA];simp only[dd,oc];by_cases hz:z=x
   ·subst hz;have e3:((z:Bytes)==z)=true:=by simp
    rw[e3,bN,aM,t _ (by omega),bL rfl]
   ·have e3:((z:Bytes)==x)=false:=by simpa using hz
    rw[e3,bz,aF,gB (by omega) (by decide),aF,t _ (by simp;omega),b9 (by simpa using hz)];simp
theorem RH(l:aH)(h:l.length<1099511627775):l8 l=some (fD l):=by
 have hlen:(pQ ([]++l)).length=l.length:=(Bt _).length_eq;unfold l8;have e1:decide ((([]:aH)++l).length<4611686018427387904)=true:=by simp;omega
 rw[TR (by omega) (by decide),aF,e1,aF,tY (by rw[hlen];omega),aF];have:=ZZ l (fun q=>some q) (by omega) (pQ ([]++l)) [] [] rfl (by rw[hlen];simp;omega);rw[show([]:aH).length=0 from rfl]at this;rw[this,<-a2J];simp
theorem aC.Ra{p:aC}{n:Nat}(h:p.wt<=n):p.rel.length<=n:=by unfold aC.wt tw at h;omega
theorem aC.dM{p:aC}{n:Nat}(h:p.wt<=n):p.args.length<=n:=by unfold aC.wt at h;have:=qo tw p.args;omega
theorem aC.uw{p:aC}{n:Nat}(h:p.wt<=n){x:Bytes}(hx:x∈p.args):x.length<=n:=by unfold aC.wt at h;have:=oZ (w:=tw) hx;have e:tw x=x.length:=rfl;omega
theorem aP.gG{c:aP}{n:Nat}(h:c.wt<=n):c.pat.wt<=n:=by simp only[aP.wt,aC.wt]at h⊢;omega
theorem aP.CL{c:aP}{n:Nat}(h:c.wt<=n):c.left.length<=n:=by simp only[aP.wt,tw]at h;omega
theorem aP.zn{c:aP}{n:Nat}(h:c.wt<=n):c.right.length<=n:=by simp only[aP.wt,tw]at h;omega
theorem Action.gG{c:Action}{n:Nat}(h:c.wt<=n):c.pat.wt<=n:=by simp only[Action.wt,aC.wt]at h⊢;omega
theorem aK.Vy{r:aK}{n:Nat}(h:r.wt<=n):r.name.length<=n:=by simp only[aK.wt,tw]at h;omega
theorem aK.uH{r:aK}{n:Nat}(h:r.wt<=n):qw aP.wt r.conds<=n:=by simp only[aK.wt]at h;omega
theorem aK.K1{r:aK}{n:Nat}(h:r.wt<=n):qw Action.wt r.cY<=n:=by simp only[aK.wt]at h;omega
theorem aK.rN{r:aK}{n:Nat}(h:r.wt<=n){c:aP}(hc:c∈r.conds):c.wt<=n:=by have:=aK.uH h;have:=oZ (w:=aP.wt) hc;omega
theorem aK.Qo{r:aK}{n:Nat}(h:r.wt<=n){c:Action}(hc:c∈r.cY):c.wt<=n:=by have:=aK.K1 h;have:=oZ (w:=Action.wt) hc;omega
theorem zC(f:aC)(h:f.args.length<=1099511627776):dQ f=some f:=by
 unfold dQ;rw[a0o _ h];rfl
theorem MN(f:aC)(h:f.args.length<=1099511627776):eR f=some f:=by
 unfold eR;rw[RI _ h];rfl
theorem Us(a b:aC):qL a b=some (decide (a=b)):=by
 obtain⟨a0,a1⟩:=a;obtain⟨b0,b1⟩:=b;unfold qL;simp only[a0l,aA,ke];by_cases h0:a0=b0<;>by_cases h1:a1=b1<;>simp[h0,h1]
theorem ZX(a b:aC):pV a b=some (decide (a=b)):=by
 obtain⟨a0,a1⟩:=a;obtain⟨b0,b1⟩:=b;unfold pV;simp only[ZY,aA,ke];by_cases h0:a0=b0<;>by_cases h1:a1=b1<;>simp[h0,h1]
theorem Ut(a b:aC):jI a b=some (decide (a=b)):=by
 obtain⟨a0,a1⟩:=a;obtain⟨b0,b1⟩:=b;unfold jI;simp only[a0l,aA,ke];by_cases h0:a0=b0<;>by_cases h1:a1=b1<;>simp[h0,h1]
theorem OY(a b:aC):gD a b=some (decide (a=b)):=by
 obtain⟨a0,a1⟩:=a;obtain⟨b0,b1⟩:=b;unfold gD;simp only[ZY,aA,ke];by_cases h0:a0=b0<;>by_cases h1:a1=b1<;>simp[h0,h1]
theorem Nq(a b:aI):mB a b=some (decide (a=b)):=by
 unfold mB;exact eqL (c:=aC.c) (f:=qL) (fun k=>nR a b k) (fun _ _=>rfl) (fun _ _ _ _=>rfl) Us
theorem Nl(a b:aI):jc a b=some (decide (a=b)):=by
 unfold jc;exact eqL (c:=aC.c) (f:=pV) (fun k=>nI a b k) (fun _ _=>rfl) (fun _ _ _ _=>rfl) ZX
def vM(p:aC):Bool:=p.args.all mK&&(yP p.rel&&decide ((p.args.length:Int)<=3))
def oT(f:aC):Bool:=f.args.all fH&&(yP f.rel&&decide ((f.args.length:Int)<=3))
theorem a0V(f:aC)(h:f.wt<=1048576):qJ f=some (oT f):=by
 unfold qJ;rw[Wl (f:=gF) (L:=qW f _) (fun _=>rfl) (fun _ _ _=>rfl) f.args 0 (fun x hx=>ND x (aC.uw h hx)),a0a _ (aC.Ra h),aA,ah,oT];cases f.args.all fH<;>cases yP f.rel<;>rfl
theorem ZT(f:aC)(h:f.wt<=1048576):qH f=some (oT f):=by
 unfold qH;rw[Wl (f:=gC) (L:=qS f _) (fun _=>rfl) (fun _ _ _=>rfl) f.args 0 (fun x hx=>Mx x (aC.uw h hx)),ZV _ (aC.Ra h),aA,ah,oT];have c:decide ((f.args.length:Int)<=3)= !decide ((f.args.length:Int)>3):=by rw[bw];simp
 rw[c];cases f.args.all fH<;>cases yP f.rel<;>cases decide ((f.args.length:Int)>3)<;>rfl
theorem a6i(f:aC)(h:f.wt<=1048576):iQ f=some (vM f):=by
 unfold iQ;rw[Wl (f:=jS) (L:=nO f _) (fun _=>rfl) (fun _ _ _=>rfl) f.args 0 (fun x hx=>a0m x (aC.uw h hx)),a0a _ (aC.Ra h),aA,ah,vM];cases f.args.all mK<;>cases yP f.rel<;>rfl
theorem a62(f:aC)(h:f.wt<=1048576):jZ f=some (vM f):=by
 unfold jZ;rw[Wl (f:=jR) (L:=nH f _) (fun _=>rfl) (fun _ _ _=>rfl) f.args 0 (fun x hx=>Za x (aC.uw h hx)),ZV _ (aC.Ra h),aA,ah,vM];have c:decide ((f.args.length:Int)<=3)= !decide ((f.args.length:Int)>3):=by rw[bw];simp
 rw[c];cases f.args.all mK<;>cases yP f.rel<;>cases decide ((f.args.length:Int)>3)<;>rfl
def jq(l:aH):aH:=l.filter fQ
theorem xf(l:aH):(jq l).length<=l.length:=nu _ _
theorem QV(a b:aH):jq (a++b)=jq a++jq b:=B8 _ _
theorem LV(p:aC)(h:p.wt<=1048576):oX p=some (fD (jq p.args)):=by
 unfold oX;have:∀(r:aH) (i:Nat) (w:aH),(∀x∈r,x.length<=1048576)->w.length+r.length<=2097152->mC p (fun q=>some q) r i w=some ((jq r).foldl AJ w):=by
  intro r
  induction r with
  |nil=>intro i w _ _;rfl
  |cons x r ih=>
   intro i w hr hw;simp only[aS]at hw;have hl:=Bm w x;rw[mC,Rj x (hr x (by simp)),aA,Ur w x (by omega),aA,ih _ _ (fun y hy=>hr y (by simp[hy])) (by omega),ih _ _ (fun y hy=>hr y (by simp[hy])) (by omega)];cases hv:fQ x<;>simp[jq,hv]
 exact this p.args 0 [] (fun x hx=>aC.uw h hx) (by have:=aC.dM h;simp;omega)
theorem Zc(l:aH)(hl:l.length<=2097152)(h:∀x∈l,x.length<=1048576):oB l=some (jq l):=by
 unfold oB;have:∀(r:aH) (i:Nat) (w:aH),(∀x∈r,x.length<=1048576)->w.length+r.length<=2097152->gO l (fun q=>some q) r i w=some (w++jq r):=by
  intro r
  induction r with
  |nil=>intro i w _ _;simp[gO,jq]
  |cons x r ih=>
   intro i w hr hw;simp only[aS]at hw;rw[gO,X7 x (hr x (by simp)),aA,gB (by omega) (by decide),ih _ _ (fun y hy=>hr y (by simp[hy])) (by simp;omega),ih _ _ (fun y hy=>hr y (by simp[hy])) (by omega)];cases hv:fQ x<;>simp[jq,hv]
 exact this l 0 [] h (by simpa using hl)
def rM(c:aP):aH:=jq (c.pat.args++[c.left,c.right])
theorem yu{c:aP}{n:Nat}(h:c.wt<=n):(rM c).length<=n+2:=by
 have h1:=xf (c.pat.args++[c.left,c.right]);have h2:=aC.dM (aP.gG h);simp only[ax,aS,bf]at h1;unfold rM;omega
theorem Un(c:aP)(h:c.wt<=1048576):nV c=some (fD (rM c)):=by
 unfold nV;have h1:=aC.dM (aP.gG h);have h2:=rG (jq c.pat.args);have h3:=xf c.pat.args;have h4:=Bm (fD (jq c.pat.args)) c.left;rw[LV _ (aP.gG h),aA,Rj _ (aP.CL h),aA,Rj _ (aP.zn h)];simp only[aA];rw[Ur _ _ (by omega),Ur _ _ (by omega),aA,Ur _ _ (by omega)];simp only[aA,rM,QV,V2];cases hl:fQ c.left<;>cases hr:fQ c.right<;>simp[jq,hl,hr]
theorem Zb(c:aP)(h:c.wt<=1048576):tG c=some (c.pat.args++[c.left,c.right]):=by
 unfold tG;have h1:=aC.dM (aP.gG h);rw[RI _ (by omega),aA];rw[Ek (by simp;omega) (by decide)];rfl
theorem UT(c:aP)(h:c.wt<=1048576):pU c=some (fD (rM c)):=by
 unfold pU;have h1:=aC.dM (aP.gG h);have h5:=yu h;rw[Zb c h,aA,Zc _ (by simp;omega) (fun x hx=>by
  simp only[aZ,bJ,List.not_mem_nil,or_false]at hx;rcases hx with hx|rfl|rfl
  ·exact aC.uw (aP.gG h) hx
  ·exact aP.CL h
  ·exact aP.zn h),aA]
 rw[show jq (c.pat.args++[c.left,c.right])=rM c from rfl,RH _ (by omega)];rfl
def Dj(p:aC):Bool:=p.rel==[]&&decide ((p.args.length:Int)=0)
def oh(c:aP):Bool:=bif decide (c.kind=1)||decide (c.kind=2)then vM c.pat&&(c.left==[]&&c.right==[])else bif decide (c.kind=3)||decide (c.kind=4)||decide (c.kind=5)then Dj c.pat&&(mK c.left&&mK c.right)else false
def Iu(c:aP):Bool:=oh c&&decide (c.kind>=3)
theorem Iy{c:aP}(h:oh c=true):1<=c.kind/\c.kind<=5:=by
 unfold oh at h;by_cases h1:c.kind=1
 ·omega
 by_cases h2:c.kind=2
 ·omega
 by_cases h3:c.kind=3
 ·omega
 by_cases h4:c.kind=4
 ·omega
 by_cases h5:c.kind=5
 ·omega
 simp[h1,h2,h3,h4,h5]at h
theorem a0M(c:aP)(h:c.wt<=1048576):qI c=some (oh c):=by
 unfold qI oh Dj;simp only[a6i _ (aP.gG h),a0m _ (aP.CL h),a0m _ (aP.zn h),aA,ah,ke];by_cases h1:c.kind=1
 ·simp only[h1];cases vM c.pat<;>cases decide (c.left=[])<;>simp
 by_cases h2:c.kind=2
 ·simp only[h2];cases vM c.pat<;>cases decide (c.left=[])<;>simp
 by_cases h3:c.kind=3
 ·simp only[h3];cases decide (c.pat.rel=[])<;>cases decide ((c.pat.args.length:Int)=0)<;>cases mK c.left<;>simp
 by_cases h4:c.kind=4
 ·simp only[h4];cases decide (c.pat.rel=[])<;>cases decide ((c.pat.args.length:Int)=0)<;>cases mK c.left<;>simp
 by_cases h5:c.kind=5
 ·simp only[h5];cases decide (c.pat.rel=[])<;>cases decide ((c.pat.args.length:Int)=0)<;>cases mK c.left<;>simp
 simp[h1,h2,h3,h4,h5]
theorem a4F(p:aC):jC p=some (Dj p):=by
 unfold jC Dj;simp only[ah,ke];cases decide (p.rel=[])<;>rfl
theorem ZQ(c:aP)(h:c.wt<=1048576):sF c=some (oh c):=by
 unfold sF oh;simp only[a62 _ (aP.gG h),Za _ (aP.CL h),Za _ (aP.zn h),a4F,aA,ke];by_cases h1:c.kind=1
 ·simp only[h1];cases vM c.pat<;>cases decide (c.left=[])<;>simp
 by_cases h2:c.kind=2
 ·simp only[h2];cases vM c.pat<;>cases decide (c.left=[])<;>simp
 by_cases h3:c.kind=3
 ·simp only[h3];cases Dj c.pat<;>cases mK c.left<;>cases mK c.right<;>simp
 by_cases h4:c.kind=4
 ·simp only[h4];cases Dj c.pat<;>cases mK c.left<;>cases mK c.right<;>simp
 by_cases h5:c.kind=5
 ·simp only[h5];cases Dj c.pat<;>cases mK c.left<;>cases mK c.right<;>simp
 simp[h1,h2,h3,h4,h5]
theorem a0n(c:aP)(h:c.wt<=1048576):sK c=some (Iu c):=by
 unfold sK Iu;rw[a0M c h];cases oh c<;>rfl
theorem a8b(c:aP)(h:c.wt<=1048576):wg c=some (Iu c):=by
 unfold wg Iu;rw[ZQ c h];cases oh c<;>rfl
theorem a0k(a b:aP):pW a b=some (decide (a=b)):=by
 obtain⟨a0,a1,a2,a3⟩:=a;obtain⟨b0,b1,b2,b3⟩:=b;unfold pW;simp only[Ut,aA,ke];by_cases h0:a0=b0<;>by_cases h1:a1=b1<;>by_cases h2:a2=b2<;>by_cases h3:a3=b3<;>simp[h0,h1,h2,h3]
theorem RG(a b:aP):kf a b=some (decide (a=b)):=by
 obtain⟨a0,a1,a2,a3⟩:=a;obtain⟨b0,b1,b2,b3⟩:=b;unfold kf;simp only[OY,aA,ke];by_cases h0:a0=b0<;>by_cases h1:a1=b1<;>by_cases h2:a2=b2<;>by_cases h3:a3=b3<;>simp[h0,h1,h2,h3]
def Nz(a:Action):Bool:=bif decide (a.kind=1)||decide (a.kind=2)then vM a.pat else bif decide (a.kind=3)then Dj a.pat else false
theorem aCB(a:Action)(h:a.wt<=1048576):uR a=some (Nz a):=by
 unfold uR Nz Dj;simp only[a6i _ (Action.gG h),aA,ah,ke];by_cases h1:a.kind=1
 ·simp[h1]
 by_cases h2:a.kind=2
 ·simp[h2]
 by_cases h3:a.kind=3
 ·simp only[h3];cases decide (a.pat.rel=[])<;>simp
 simp[h1,h2,h3]
theorem aBs(a:Action)(h:a.wt<=1048576):uL a=some (Nz a):=by
 unfold uL Nz;simp only[a62 _ (Action.gG h),a4F,aA,ke];by_cases h1:a.kind=1
 ·simp[h1]
 by_cases h2:a.kind=2
 ·simp[h2]
 by_cases h3:a.kind=3
 ·simp[h3]
 simp[h1,h2,h3]
end Go.Cx
