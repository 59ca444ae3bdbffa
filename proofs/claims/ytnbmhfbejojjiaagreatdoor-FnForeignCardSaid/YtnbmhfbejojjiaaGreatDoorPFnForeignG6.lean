/- What functions of the program compute, and the walks that show it. No condition. -/
import Derived.Test.YtnbmhfbejojjiaaGreatDoorPFnForeignG5
import Derived.Test.YtnbmhfbejojjiaaGreatDoorPFnForeignG3
import Derived.Sort.Walk0
import Derived.Lib.ItoaNum
import Derived.Lib.ItoaLen
import Derived.Lib.Atoi
set_option linter.unusedVariables false
set_option linter.unusedSimpArgs false
namespace Go.Cx
open Go.RowKit Go.Proofs Tryz
set_option maxRecDepth 100000
variable{Γ:ul}{N:Nat->St->Prop}
def jT(aB:aI)(cT:aD)(y3:aI×Unit)(mJ:Int)(i1:Nat)(bU:Node)(x313:Node)(k2:Int->Int->Option aI):ar->Nat->Int->Int->Option aI
 | [],i2,Af,Ag=>(k2 Af Ag)
 |jg::tR,i2,Af,Ag=>((hO aB.nodes bU.parent).bind fun x359=>((sI x359.tokens jg).bind fun a7A=>(bif a7A then(jT aB cT y3 mJ i1 bU x313 k2 tR (i2+1) (IntKind.i64.wrap (Af+1)) Ag)else(jT aB cT y3 mJ i1 bU x313 k2 tR (i2+1) Af (IntKind.i64.wrap (Ag+1))))))
def fL(aB:aI)(cT:aD)(y3:aI×Unit)(k1:Int->Option aI):bL->Nat->Int->Option aI
 | [],i1,mJ=>(k1 mJ)
 |bU::cO,i1,mJ=>(bif ((i1:Int):Int)==0 then(fL aB cT y3 k1 cO (i1+1) mJ)else((hO y3.1.nodes bU.parent).bind fun x313=>(bif decide (x313.tokens.length<=maxLen)then(jT aB cT y3 mJ i1 bU x313 (fun(OC:Int) (Gc:Int)=>(bif decide ((bU.dL:Int)<0)then(fL aB cT y3 k1 cO (i1+1) (IntKind.i64.wrap (mJ+Gc)))else((hO y3.1.bE bU.dL).bind fun x365=>((j6 x365.shape cT ([])).bind fun VF=>(bif VF.2 then(fL aB cT y3 k1 cO (i1+1) (IntKind.i64.wrap ((IntKind.i64.wrap (mJ+(IntKind.i64.wrap (Gc*((x365.facts.map aD.c).length:Int)))))+OC)))else(fL aB cT y3 k1 cO (i1+1) (IntKind.i64.wrap (mJ+(IntKind.i64.wrap (Gc*((x365.facts.map aD.c).length:Int))))))))))) x313.tokens 0 0 0)else none)))
def qx(aB:aI)(aY:aJ)(cT:aD):Option aI:=((gZ aB).bind fun y1=>((iz y1 aY).bind fun y3=>(bif decide (y3.1.nodes.length<=maxLen)then(fL aB cT y3 (fun(uA:Int)=>(some (⟨y3.1.rules,y3.1.ends,y3.1.bE,y3.1.nodes,y3.1.facts,uA⟩:aI))) y3.1.nodes 0 y3.1.cG)else none)))
def IG(aB:aI)(cT:aD)(y3:aI×Unit)(mJ:Int)(dQ:Int):St:=⟨[(3,D.ptr 0 0),(5,D.ptr 1 0),(6,D.ptr 2 0),(7,D.ptr 3 0),(22,D.acc 4),(23,D.int .i64 ((y3.1.nodes.map Node.c).length:Int)),(24,D.int .i64 dQ)],[Ob.box (aI.c aB),Ob.box (aD.c cT),Ob.box [D.nil,D.nil,D.nil,D.nil,D.nil,D.int .i64 0],Ob.box [D.acc 5,D.acc 6,D.acc 7,D.acc 4,D.acc 8,D.int .i64 mJ],Ob.row .uq 50 8 (y3.1.nodes.map Node.c),Ob.row .uq 80 4 (y3.1.rules.map aK.c),Ob.row .uq 3 1 (y3.1.ends.map jf),Ob.row .uq 93 3 (y3.1.bE.map aZ.c),Ob.row .uq 37 2 (y3.1.facts.map aD.c)]⟩
def II(aB:aI)(cT:aD)(y3:aI×Unit)(mJ:Int)(i1:Nat)(bU:Node)(x313:Node)(Af:Int)(Ag:Int)(dQ:Int):St:=⟨[(3,D.ptr 0 0),(5,D.ptr 1 0),(6,D.ptr 2 0),(7,D.ptr 3 0),(9,D.ptr 4 0),(10,D.int .i64 Af),(11,D.int .i64 Ag),(22,D.acc 5),(23,D.int .i64 ((y3.1.nodes.map Node.c).length:Int)),(24,D.int .i64 (i1:Int)),(37,D.sl (x313.tokens.map aT.c)),(38,D.int .i64 ((x313.tokens.map aT.c).length:Int)),(39,D.int .i64 dQ)],[Ob.box (aI.c aB),Ob.box (aD.c cT),Ob.box [D.nil,D.nil,D.nil,D.nil,D.nil,D.int .i64 0],Ob.box [D.acc 6,D.acc 7,D.acc 8,D.acc 5,D.acc 9,D.int .i64 mJ],Ob.box [D.int .i64 bU.parent,D.int .i64 bU.cond.kind,D.str bU.cond.pat.rel,D.sl (bU.cond.pat.args.map tx),D.str bU.cond.left,D.str bU.cond.right,D.int .i64 bU.dL,D.sl (bU.tokens.map aT.c)],Ob.row .uq 50 8 (y3.1.nodes.map Node.c),Ob.row .uq 80 4 (y3.1.rules.map aK.c),Ob.row .uq 3 1 (y3.1.ends.map jf),Ob.row .uq 93 3 (y3.1.bE.map aZ.c),Ob.row .uq 37 2 (y3.1.facts.map aD.c)]⟩
theorem Gr(hΓ:Γ.nt=95){aB:aI}{cT:aD}{y3:aI×Unit}{mJ:Int}{i1:Nat}{bU:Node}{x313:Node}{r:aI}{k2:Int->Int->Option aI}(B7:∀(OC:Int) (Gc:Int),k2 OC Gc=some r->Ax Γ N f119 (.q [[some (80,4),some (3,1),some (93,3),some (50,8),some (37,2),none]] (D.agg [D.fr 80 4 (r.rules.map aK.c),D.fr 3 1 (r.ends.map jf),D.fr 93 3 (r.bE.map aZ.c),D.fr 50 8 (r.nodes.map Node.c),D.fr 37 2 (r.facts.map aD.c),D.int .i64 r.cG])) [1,1,1,0,1,0,0,1,1,0,0,1,1,1,1] ⟨[(3,D.ptr 0 0),(5,D.ptr 1 0),(6,D.ptr 2 0),(7,D.ptr 3 0),(9,D.ptr 4 0),(10,D.int .i64 OC),(11,D.int .i64 Gc),(22,D.acc 5),(23,D.int .i64 ((y3.1.nodes.map Node.c).length:Int)),(24,D.int .i64 (i1:Int))],[Ob.box (aI.c aB),Ob.box (aD.c cT),Ob.box [D.nil,D.nil,D.nil,D.nil,D.nil,D.int .i64 0],Ob.box [D.acc 6,D.acc 7,D.acc 8,D.acc 5,D.acc 9,D.int .i64 mJ],Ob.box [D.int .i64 bU.parent,D.int .i64 bU.cond.kind,D.str bU.cond.pat.rel,D.sl (bU.cond.pat.args.map tx),D.str bU.cond.left,D.str bU.cond.right,D.int .i64 bU.dL,D.sl (bU.tokens.map aT.c)],Ob.row .uq 50 8 (y3.1.nodes.map Node.c),Ob.row .uq 80 4 (y3.1.rules.map aK.c),Ob.row .uq 3 1 (y3.1.ends.map jf),Ob.row .uq 93 3 (y3.1.bE.map aZ.c),Ob.row .uq 37 2 (y3.1.facts.map aD.c)]⟩)(hm2:x313.tokens.length<=maxLen):∀(rest:ar) (i2:Nat) (Af:Int) (Ag:Int),x313.tokens.drop i2=rest->jT aB cT y3 mJ i1 bU x313 k2 rest i2 Af Ag=some r->Ar Γ N f119 (.q [[some (80,4),some (3,1),some (93,3),some (50,8),some (37,2),none]] (D.agg [D.fr 80 4 (r.rules.map aK.c),D.fr 3 1 (r.ends.map jf),D.fr 93 3 (r.bE.map aZ.c),D.fr 50 8 (r.nodes.map Node.c),D.fr 37 2 (r.facts.map aD.c),D.int .i64 r.cG])) [1,1,1,0,1,0,0,1,1,0,0,1,1,1,0,1,0] (rest.length+1) (II aB cT y3 mJ i1 bU x313 Af Ag (i2:Int)):=by
 intro rest
 induction rest with
 |nil=>
  intro i2 Af Ag hd2 h;rw[jT]at h;refine aU fun N2 vv tQ=>?_
  exact((aW.ge aT.c hd2).a [.hl 5 [3,5,6,7,9,10,11,22,23,24] [0,1,2,3,4,5,6,7,8,9]]).ex hΓ vv (B7 Af Ag h)
 |cons jg tR ih2=>
  intro i2 Af Ag hd2 h;rw[jT]at h;refine aU fun N2 vv tQ=>?_
  obtain⟨x359,h360,h⟩:=aC h;obtain⟨a7A,h362,h⟩:=aC h;have J8:=(((((aW.lt aT.c hd2).l (bO aT.c 2 (dc hd2) rfl)).a [.n 8]).l (gq Node.c 8 h360 rfl)).g (E1 h362))
  obtain⟨h363,h⟩|⟨h363,h⟩:=aO h
  ·exact((J8.b h363).a [.cn [3,5,6,7,9,10,11,22,23,24,37,38,39] [0,1,2,3,4,5,6,7,8,9]]).ct hΓ tQ (iS hd2 hm2) (ih2 (i2+1) (IntKind.i64.wrap (Af+1)) Ag (dn hd2) h)
  ·exact((J8.b h363).a [.cn [3,5,6,7,9,10,11,22,23,24,37,38,39] [0,1,2,3,4,5,6,7,8,9]]).ct hΓ tQ (iS hd2 hm2) (ih2 (i2+1) Af (IntKind.i64.wrap (Ag+1)) (dn hd2) h)
theorem Gq(hΓ:Γ.nt=95){aB:aI}{cT:aD}{y3:aI×Unit}{r:aI}{k1:Int->Option aI}(eF:∀(uA:Int),k1 uA=some r->Ax Γ N f119 (.q [[some (80,4),some (3,1),some (93,3),some (50,8),some (37,2),none]] (D.agg [D.fr 80 4 (r.rules.map aK.c),D.fr 3 1 (r.ends.map jf),D.fr 93 3 (r.bE.map aZ.c),D.fr 50 8 (r.nodes.map Node.c),D.fr 37 2 (r.facts.map aD.c),D.int .i64 r.cG])) [1,1,1,1] ⟨[(6,D.ptr 0 0),(7,D.ptr 1 0)],[Ob.box [D.nil,D.nil,D.nil,D.nil,D.nil,D.int .i64 0],Ob.box [D.acc 2,D.acc 3,D.acc 4,D.acc 5,D.acc 6,D.int .i64 uA],Ob.row .uq 80 4 (y3.1.rules.map aK.c),Ob.row .uq 3 1 (y3.1.ends.map jf),Ob.row .uq 93 3 (y3.1.bE.map aZ.c),Ob.row .uq 50 8 (y3.1.nodes.map Node.c),Ob.row .uq 37 2 (y3.1.facts.map aD.c)]⟩)(hm1:y3.1.nodes.length<=maxLen):∀(rest:bL) (i1:Nat) (mJ:Int),y3.1.nodes.drop i1=rest->fL aB cT y3 k1 rest i1 mJ=some r->Ar Γ N f119 (.q [[some (80,4),some (3,1),some (93,3),some (50,8),some (37,2),none]] (D.agg [D.fr 80 4 (r.rules.map aK.c),D.fr 3 1 (r.ends.map jf),D.fr 93 3 (r.bE.map aZ.c),D.fr 50 8 (r.nodes.map Node.c),D.fr 37 2 (r.facts.map aD.c),D.int .i64 r.cG])) [1,1,1,0,1,0] (rest.length+1) (IG aB cT y3 mJ (i1:Int)):=by
 intro rest
 induction rest with
 |nil=>
  intro i1 mJ b8 h;rw[fL]at h;refine aU fun N1 cc cL=>?_
  exact((aW.ge Node.c b8).a [.hl 0 [6,7] [2,3,5,6,7,4,8]]).ex hΓ cc (eF mJ h)
 |cons bU cO ih1=>
  intro i1 mJ b8 h;rw[fL]at h;refine aU fun N1 cc cL=>?_
  have Qq:=(((aW.lt Node.c b8).i (mO Node.c 8 (dc b8))).o 8 8 .uq (cV Node.c (dc b8)))
  obtain⟨h312,h⟩|⟨h312,h⟩:=aO h
  ·exact((Qq.b h312).a [.cn [3,5,6,7,22,23,24] [0,1,2,3,4,5,6,7,8]]).ct hΓ cL (iS b8 hm1) (ih1 (i1+1) mJ (dn b8) h)
  ·obtain⟨x313,h314,h⟩:=aC h;obtain⟨h370,h⟩:=bX h;refine((((Qq.b h312).i (iG Node.c 8 h314)).o 8 8 .uq (cV Node.c (fG h314))).a [.cn [3,5,6,7,9,10,11,22,23,24,37,38,39] [0,1,2,3,9,4,5,6,7,8]]).lp hΓ (Gr hΓ (fun OC Gc h=>?_) (bY h370) x313.tokens 0 0 0 rfl h);obtain⟨h364,h⟩|⟨h364,h⟩:=aO h
   ·exact((aW.b h364).a [.cn [3,5,6,7,22,23,24] [0,1,2,3,5,6,7,8,9]]).ct hΓ cL (iS b8 hm1) (ih1 (i1+1) (IntKind.i64.wrap (mJ+Gc)) (dn b8) h)
   ·obtain⟨x365,h366,h⟩:=aC h;obtain⟨VF,h368,h⟩:=aC h;have Qr:=(((((aW.b h364).i (iG aZ.c 3 h366)).o 3 3 .uq (cV aZ.c (fG h366))).a [.d (D.iE [D.fr 137 2 (VF.1.map aR.c),D.bool VF.2])]).w (show Good prog 184 [D.agg (aD.c x365.shape),D.agg (aD.c cT),D.sl ([])] (D.iE [D.fr 137 2 (VF.1.map aR.c),D.bool VF.2])from by first| (simpa only[bG,av,bZ,bh,bn]using pG h368)|exact pG h368))
    obtain⟨h369,h⟩|⟨h369,h⟩:=aO h
    ·exact((Qr.b h369).a [.cn [3,5,6,7,22,23,24] [0,1,2,3,5,6,7,8,9]]).ct hΓ cL (iS b8 hm1) (ih1 (i1+1) (IntKind.i64.wrap ((IntKind.i64.wrap (mJ+(IntKind.i64.wrap (Gc*((x365.facts.map aD.c).length:Int)))))+OC)) (dn b8) h)
    ·exact((Qr.b h369).a [.cn [3,5,6,7,22,23,24] [0,1,2,3,5,6,7,8,9]]).ct hΓ cL (iS b8 hm1) (ih1 (i1+1) (IntKind.i64.wrap (mJ+(IntKind.i64.wrap (Gc*((x365.facts.map aD.c).length:Int))))) (dn b8) h)
theorem yc{aB:aI}{aY:aJ}{cT:aD}{r:aI}(h:qx aB aY cT=some r):Good prog 119 [D.agg (aI.c aB),D.sl (aY.map aD.c),D.agg (aD.c cT)] (D.agg [D.fr 80 4 (r.rules.map aK.c),D.fr 3 1 (r.ends.map jf),D.fr 93 3 (r.bE.map aZ.c),D.fr 50 8 (r.nodes.map Node.c),D.fr 37 2 (r.facts.map aD.c),D.int .i64 r.cG]):=by
 refine gd func119 [[some (80,4),some (3,1),some (93,3),some (50,8),some (37,2),none]] 95 fun hr Γ hΓ=>?_
 rw[qx]at h;obtain⟨y1,h2,h⟩:=aC h;obtain⟨y3,h4,h⟩:=aC h;obtain⟨h371,h⟩:=bX h;refine(((aW.g (kJ h2)).hp [[some (80,4),some (3,1),some (93,3),some (50,8),some (37,2),none],[none]] (tL h4)).a [.cn [3,5,6,7,22,23,24] [0,1,2,8,12,9,10,11,13]]).lp hΓ (Gq hΓ (fun uA h=>?_) (bY h371) y3.1.nodes 0 y3.1.cG rfl h);cases h;exact aW.ret hΓ
def CI(aB:aI)(aY:aD):Option (aI×Bool):=((tY aB.facts aY).bind fun y1=>(bif !(y1.2)then((gZ aB).bind fun y4=>(some (y4,false)))else((qx aB y1.1 aY).bind fun y6=>(some (y6,true)))))
theorem Kx{aB:aI}{aY:aD}{r:aI×Bool}(h:CI aB aY=some r):Good prog 64 [D.agg (aI.c aB),D.agg (aD.c aY)] (D.iE [D.agg [D.fr 80 4 (r.1.rules.map aK.c),D.fr 3 1 (r.1.ends.map jf),D.fr 93 3 (r.1.bE.map aZ.c),D.fr 50 8 (r.1.nodes.map Node.c),D.fr 37 2 (r.1.facts.map aD.c),D.int .i64 r.1.cG],D.bool r.2]):=by
 refine gd func64 [[some (80,4),some (3,1),some (93,3),some (50,8),some (37,2),none],[none]] 23 fun hr Γ hΓ=>?_
 rw[CI]at h;obtain⟨y1,h2,h⟩:=aC h;obtain⟨h3,h⟩|⟨h3,h⟩:=aO h
 ·obtain⟨y4,h5,h⟩:=aC h;cases h;exact(((aW.g (yZ h2)).b h3).g (kJ h5)).ret hΓ
 ·obtain⟨y6,h7,h⟩:=aC h;cases h;exact(((aW.g (yZ h2)).b h3).g (yc h7)).ret hΓ
def lV(aB:aI)(aY:aD):Option (aI×Bool):=((mV aB).bind fun y1=>(bif !(y1)then((gZ aB).bind fun y4=>(some (y4,false)))else((CI aB aY).bind fun y6=>(some (y6.1,y6.2)))))
theorem qS{aB:aI}{aY:aD}{r:aI×Bool}(h:lV aB aY=some r):Good prog 21 [D.agg (aI.c aB),D.agg (aD.c aY)] (D.iE [D.agg [D.fr 80 4 (r.1.rules.map aK.c),D.fr 3 1 (r.1.ends.map jf),D.fr 93 3 (r.1.bE.map aZ.c),D.fr 50 8 (r.1.nodes.map Node.c),D.fr 37 2 (r.1.facts.map aD.c),D.int .i64 r.1.cG],D.bool r.2]):=by
 refine gd func21 [[some (80,4),some (3,1),some (93,3),some (50,8),some (37,2),none],[none]] 16 fun hr Γ hΓ=>?_
 rw[lV]at h;obtain⟨y1,h2,h⟩:=aC h;obtain⟨h3,h⟩|⟨h3,h⟩:=aO h
 ·obtain⟨y4,h5,h⟩:=aC h;cases h;exact(((aW.g (jX h2)).b h3).g (kJ h5)).ret hΓ
 ·obtain⟨y6,h7,h⟩:=aC h;cases h;exact(((aW.g (jX h2)).b h3).g (Kx h7)).ret hΓ
def jx(aB:ai)(aY:Bytes)(k1:Option Int):ai->Nat->Option Int
 | [],i1=>(k1)
 |bU::cO,i1=>(bif (bU.name:Bytes)==aY then(some (i1:Int))else(jx aB aY k1 cO (i1+1)))
def sM(aB:ai)(aY:Bytes):Option Int:=(jx aB aY (some (-1)) aB 0)
def H6(aB:ai)(aY:Bytes)(dQ:Int):St:=⟨[(0,D.sl (aB.map aK.c)),(1,D.str aY),(5,D.int .i64 dQ)],[]⟩
theorem Fo(hΓ:Γ.nt=20){aB:ai}{aY:Bytes}{r:Int}{k1:Option Int}(eF:k1=some r->Ax Γ N f41 (.q [[none]] (D.int .i64 r)) [1,1] ⟨[],[]⟩)(hm1:aB.length<=maxLen):∀(rest:ai) (i1:Nat),aB.drop i1=rest->jx aB aY k1 rest i1=some r->Ar Γ N f41 (.q [[none]] (D.int .i64 r)) [1,0,1,0] (rest.length+1) (H6 aB aY (i1:Int)):=by
 intro rest
 induction rest with
 |nil=>
  intro i1 b8 h;rw[jx]at h;refine aU fun N1 cc cL=>?_
  exact((aW.ge aK.c b8).a [.hl 0 [] []]).ex hΓ cc (eF h)
 |cons bU cO ih1=>
  intro i1 b8 h;rw[jx]at h;refine aU fun N1 cc cL=>?_
  have gr:=((aW.lt aK.c b8).l (bO aK.c 4 (dc b8) rfl))
  obtain⟨h13,h⟩|⟨h13,h⟩:=aO h
  ·cases h;exact(gr.b h13).ret hΓ
  ·exact((gr.b h13).a [.cn [0,1,5] []]).ct hΓ cL (iS b8 hm1) (ih1 (i1+1) (dn b8) h)
theorem ED{aB:ai}{aY:Bytes}{r:Int}(h:sM aB aY=some r):Good prog 41 [D.sl (aB.map aK.c),D.str aY] (D.int .i64 r):=by
 refine gd func41 [[none]] 20 fun hr Γ hΓ=>?_
 rw[sM]at h;refine(aW.a [.cn [0,1,5] []]).lp hΓ (Fo hΓ (fun h=>?_) (by have:=(ij.sl (hr _ (aE (i:=0) rfl))).1;simpa using this) aB 0 rfl h);cases h;exact aW.ret hΓ
def jw(aB:ai)(k1:Option Bool):ai->Nat->Option Bool
 | [],i1=>(k1)
 |bU::cO,i1=>((nA bU).bind fun ua=>(bif !(ua)then(some false)else((sM aB bU.name).bind fun Pf=>(bif (Pf:Int) != (i1:Int)then(some false)else(jw aB k1 cO (i1+1))))))
def sL(aB:ai):Option Bool:=(jw aB (some (decide ((((aB.map aK.c).length:Int):Int)<=6))) aB 0)
def Gy(aB:ai)(dQ:Int):St:=⟨[(0,D.sl (aB.map aK.c)),(3,D.int .i64 dQ)],[]⟩
theorem Fk(hΓ:Γ.nt=30){aB:ai}{r:Bool}{k1:Option Bool}(eF:k1=some r->Ax Γ N f87 (.q [[none]] (D.bool r)) [1,1] ⟨[(0,D.sl (aB.map aK.c))],[]⟩)(hm1:aB.length<=maxLen):∀(rest:ai) (i1:Nat),aB.drop i1=rest->jw aB k1 rest i1=some r->Ar Γ N f87 (.q [[none]] (D.bool r)) [1,0,1,0] (rest.length+1) (Gy aB (i1:Int)):=by
 intro rest
 induction rest with
 |nil=>
  intro i1 b8 h;rw[jw]at h;refine aU fun N1 cc cL=>?_
  exact((aW.ge aK.c b8).a [.hl 0 [0] []]).ex hΓ cc (eF h)
 |cons bU cO ih1=>
  intro i1 b8 h;rw[jw]at h;refine aU fun N1 cc cL=>?_
  obtain⟨ua,h34,h⟩:=aC h;have kp:=(((aW.lt aK.c b8).l (bO aK.c 4 (dc b8) rfl)).g (fX h34))
  obtain⟨h35,h⟩|⟨h35,h⟩:=aO h
  ·have h:=aN h;subst h;exact((kp.r 10 h35).T 1).ret hΓ
  ·obtain⟨Pf,h37,h⟩:=aC h;have ko:=(((((kp.r 4 h35).l (bO aK.c 4 (dc b8) rfl)).r 3 h35).g (ED h37)).r 3 h35)
   obtain⟨h38,h⟩|⟨h38,h⟩:=aO h
   ·have h:=aN h;subst h;exact(ko.b h38).ret hΓ
   ·exact((ko.b h38).a [.cn [0,3] []]).ct hΓ cL (iS b8 hm1) (ih1 (i1+1) (dn b8) h)
theorem xd{aB:ai}{r:Bool}(h:sL aB=some r):Good prog 87 [D.sl (aB.map aK.c)] (D.bool r):=by
 refine gd func87 [[none]] 30 fun hr Γ hΓ=>?_
 rw[sL]at h;refine(aW.a [.cn [0,3] []]).lp hΓ (Fk hΓ (fun h=>?_) (by have:=(ij.sl (hr _ (aE (i:=0) rfl))).1;simpa using this) aB 0 rfl h);cases h;exact aW.ret hΓ
def jR(aB:Bytes)(aY:aM)(k1:Option Bytes):aM->Nat->Option Bytes
 | [],i1=>(k1)
 |bU::cO,i1=>(bif (bU.var:Bytes)==aB then(some bU.value)else(jR aB aY k1 cO (i1+1)))
def kW(aB:Bytes)(aY:aM):Option Bytes:=(jR aB aY (some aB) aY 0)
def G3(aB:Bytes)(aY:aM)(dQ:Int):St:=⟨[(0,D.str aB),(1,D.sl (aY.map aR.c)),(5,D.int .i64 dQ)],[]⟩
theorem EP(hΓ:Γ.nt=25){aB:Bytes}{aY:aM}{r:Bytes}{k1:Option Bytes}(eF:k1=some r->Ax Γ N f233 (.q [[none]] (D.str r)) [1,1] ⟨[(0,D.str aB)],[]⟩)(hm1:aY.length<=maxLen):∀(rest:aM) (i1:Nat),aY.drop i1=rest->jR aB aY k1 rest i1=some r->Ar Γ N f233 (.q [[none]] (D.str r)) [1,0,1,0] (rest.length+1) (G3 aB aY (i1:Int)):=by
 intro rest
 induction rest with
 |nil=>
  intro i1 b8 h;rw[jR]at h;refine aU fun N1 cc cL=>?_
  exact((aW.ge aR.c b8).a [.hl 0 [0] []]).ex hΓ cc (eF h)
 |cons bU cO ih1=>
  intro i1 b8 h;rw[jR]at h;refine aU fun N1 cc cL=>?_
  have gr:=((aW.lt aR.c b8).l (bO aR.c 2 (dc b8) rfl))
  obtain⟨h13,h⟩|⟨h13,h⟩:=aO h
  ·cases h;exact((gr.b h13).l (bO aR.c 2 (dc b8) rfl)).ret hΓ
  ·exact((gr.b h13).a [.cn [0,1,5] []]).ct hΓ cL (iS b8 hm1) (ih1 (i1+1) (dn b8) h)
theorem tH{aB:Bytes}{aY:aM}{r:Bytes}(h:kW aB aY=some r):Good prog 233 [D.str aB,D.sl (aY.map aR.c)] (D.str r):=by
 refine gd func233 [[none]] 25 fun hr Γ hΓ=>?_
 rw[kW]at h;refine(aW.a [.cn [0,1,5] []]).lp hΓ (EP hΓ (fun h=>?_) (by have:=(ij.sl (hr _ (aE (i:=1) rfl))).1;simpa using this) aY 0 rfl h);have h:=aN h;subst h;exact aW.ret hΓ
def kQ(aB:aL)(aY:aM)(y1:Bytes)(y3:Bytes)(k1:aG->Option aL):aG->Nat->aG->Option aL
 | [],i1,cz=>(k1 cz)
 |bU::cO,i1,cz=>((kW bU aY).bind fun Hp=>(bif room ((cz.map tx).length+([[D.str Hp]]).length) 16 then(kQ aB aY y1 y3 k1 cO (i1+1) (cz++([Hp])))else none))
def jU(aB:aL)(aY:aM):Option aL:=((kW aB.left aY).bind fun y1=>((kW aB.right aY).bind fun y3=>(kQ aB aY y1 y3 (fun(oN:aG)=>(some (⟨aB.kind,(⟨aB.pat.rel,oN⟩:aD),y1,y3⟩:aL))) aB.pat.args 0 ([]:aG))))
def xg(aB:aL)(aY:aM)(y1:Bytes)(y3:Bytes)(W0:List aP)(dQ:Int):St:=⟨[(1,D.sl (aY.map aR.c)),(2,D.ptr 0 0),(4,D.ptr 1 0),(5,D.ptr 2 0),(6,D.int .i64 dQ)],[Ob.box (aL.c aB),Ob.box [D.int .i64 0,D.str ([]),D.nil,D.str ([]),D.str ([])],Ob.box [D.int .i64 aB.kind,D.str aB.pat.rel,D.acc 3,D.str y1,D.str y3],Ob.row .uq 9 1 W0]⟩
theorem DM(hΓ:Γ.nt=46){aB:aL}{aY:aM}{y1:Bytes}{y3:Bytes}{r:aL}{k1:aG->Option aL}(eF:∀(oN:aG),k1 oN=some r->Ax Γ N f196 (.q [[none,none,some (9,1),none,none]] (D.agg [D.int .i64 r.kind,D.str r.pat.rel,D.fr 9 1 (r.pat.args.map tx),D.str r.left,D.str r.right])) [1,1,1] ⟨[(4,D.ptr 0 0),(5,D.ptr 1 0)],[Ob.box [D.int .i64 0,D.str ([]),D.nil,D.str ([]),D.str ([])],Ob.box [D.int .i64 aB.kind,D.str aB.pat.rel,D.acc 2,D.str y1,D.str y3],Ob.row .uq 9 1 (oN.map tx)]⟩)(hm1:aB.pat.args.length<=maxLen):∀(rest:aG) (i1:Nat) (cz:aG),aB.pat.args.drop i1=rest->kQ aB aY y1 y3 k1 rest i1 cz=some r->Ar Γ N f196 (.q [[none,none,some (9,1),none,none]] (D.agg [D.int .i64 r.kind,D.str r.pat.rel,D.fr 9 1 (r.pat.args.map tx),D.str r.left,D.str r.right])) [1,1,0,1,0] (rest.length+1) (xg aB aY y1 y3 (cz.map tx) (i1:Int)):=by
 intro rest
 induction rest with
 |nil=>
  intro i1 cz b8 h;rw[kQ]at h;refine aU fun N1 cc cL=>?_
  exact((aW.ge tx b8).a [.hl 0 [4,5] [1,2,3]]).ex hΓ cc (eF cz h)
 |cons bU cO ih1=>
  intro i1 cz b8 h;rw[kQ]at h;refine aU fun N1 cc cL=>?_
  obtain⟨Hp,h32,h⟩:=aC h;obtain⟨h33,h⟩:=bX h;exact((((((aW.lt tx b8).a [.n 12]).l (bO tx 1 (dc b8) rfl)).g (tH h32)).w (bq h33)).a [.cn [1,2,4,5,6] [0,1,2,5]]).cs hΓ cL (xg aB aY y1 y3 ((cz.map tx)++([[D.str Hp]])) (IntKind.i64.wrap ((i1:Int)+1))) (by first| (simp only[iS b8 hm1,mA]<;>rfl)| (simp only[iS b8 hm1,mA,aD.c,aR.c,aL.c,Action.c,aK.c,aT.c,bS.c,aZ.c,Node.c,aI.c,dU.c]<;>rfl)) (ih1 (i1+1) (cz++([Hp])) (dn b8) h)
theorem jD{aB:aL}{aY:aM}{r:aL}(h:jU aB aY=some r):Good prog 196 [D.agg (aL.c aB),D.sl (aY.map aR.c)] (D.agg [D.int .i64 r.kind,D.str r.pat.rel,D.fr 9 1 (r.pat.args.map tx),D.str r.left,D.str r.right]):=by
 refine gd func196 [[none,none,some (9,1),none,none]] 46 fun hr Γ hΓ=>?_
 rw[jU]at h;obtain⟨y1,h2,h⟩:=aC h;obtain⟨y3,h4,h⟩:=aC h;refine((((aW.a [.n 16]).g (tH h2)).g (tH h4)).a [.pb 2 2 9 1,.cn [1,2,4,5,6] [0,1,2,3]]).lp hΓ (DM hΓ (fun oN h=>?_) (by have:=(ij.sl (ij.agg (hr _ (aE (i:=0) rfl)) (.sl (aB.pat.args.map tx)) (by simp))).1;simpa using this) aB.pat.args 0 ([]:aG) rfl h);cases h;exact aW.ret hΓ
def je(aB:aL):Option aL:=((jU aB ([])).bind fun y1=>(some y1))
theorem s6{aB:aL}{r:aL}(h:je aB=some r):Good prog 140 [D.agg (aL.c aB)] (D.agg [D.int .i64 r.kind,D.str r.pat.rel,D.fr 9 1 (r.pat.args.map tx),D.str r.left,D.str r.right]):=by
 refine gd func140 [[none,none,some (9,1),none,none]] 5 fun hr Γ hΓ=>?_
 rw[je]at h;obtain⟨y1,h2,h⟩:=aC h;have h:=aN h;subst h;exact((aW.a [.d (D.agg [D.int .i64 y1.kind,D.str y1.pat.rel,D.fr 9 1 (y1.pat.args.map tx),D.str y1.left,D.str y1.right])]).w (show Good prog 196 [D.agg (aL.c aB),D.sl ([])] (D.agg [D.int .i64 y1.kind,D.str y1.pat.rel,D.fr 9 1 (y1.pat.args.map tx),D.str y1.left,D.str y1.right])from by first| (simpa only[bG,av,bZ,bh,bn]using jD h2)|exact jD h2)).ret hΓ
def eV(aB:aD):Option aD:=((rI aB.args).bind fun y1=>(some (⟨aB.rel,y1⟩:aD)))
theorem AK{aB:aD}{r:aD}(h:eV aB=some r):Good prog 144 [D.agg (aD.c aB)] (D.agg [D.str r.rel,D.fr 9 1 (r.args.map tx)]):=by
 refine gd func144 [[none,some (9,1)]] 9 fun hr Γ hΓ=>?_
 rw[eV]at h;obtain⟨y1,h2,h⟩:=aC h;cases h;exact((aW.a [.n 5]).g (yl h2)).ret hΓ
def oo(aB:aK)(k1:ah->Option aK):ah->Nat->ah->Option aK
 | [],i1,cz=>(k1 cz)
 |bU::cO,i1,cz=>((je bU).bind fun F3=>(bif room ((cz.map aL.c).length+([[D.int .i64 F3.kind,D.str F3.pat.rel,D.sl (F3.pat.args.map tx),D.str F3.left,D.str F3.right]]).length) 80 then(oo aB k1 cO (i1+1) (cz++([F3])))else none))
def mw(aB:aK)(fA:ah)(k2:eG->Option aK):eG->Nat->eG->Option aK
 | [],i2,jj=>(k2 jj)
 |jg::tR,i2,jj=>((eV jg.pat).bind fun y92=>(bif room ((jj.map Action.c).length+([[D.int .i64 jg.kind,D.str y92.rel,D.sl (y92.args.map tx)]]).length) 48 then(mw aB fA k2 tR (i2+1) (jj++([(⟨jg.kind,y92⟩:Action)])))else none))
def sr(aB:aK):Option aK:=(oo aB (fun(fA:ah)=>(mw aB fA (fun(vU:eG)=>(some (⟨aB.name,aB.prio,fA,vU⟩:aK))) aB.cg 0 ([]:eG))) aB.conds 0 ([]:ah))
def BZ(aB:aK)(W0:List aP)(dQ:Int):St:=⟨[(1,D.ptr 0 0),(2,D.ptr 1 0),(3,D.ptr 2 0),(4,D.int .i64 dQ)],[Ob.box (aK.c aB),Ob.box [D.str ([]),D.int .i64 0,D.nil,D.nil],Ob.box [D.str aB.name,D.int .i64 aB.prio,D.acc 3,D.nil],Ob.row .uq 47 5 W0]⟩
theorem Ie(hΓ:Γ.nt=56){aB:aK}{r:aK}{k1:ah->Option aK}(eF:∀(fA:ah),k1 fA=some r->Ax Γ N f195 (.q [[none,none,some (47,5),some (167,3)]] (D.agg [D.str r.name,D.int .i64 r.prio,D.fr 47 5 (r.conds.map aL.c),D.fr 167 3 (r.cg.map Action.c)])) [1,1,1] ⟨[(1,D.ptr 0 0),(2,D.ptr 1 0),(3,D.ptr 2 0)],[Ob.box (aK.c aB),Ob.box [D.str ([]),D.int .i64 0,D.nil,D.nil],Ob.box [D.str aB.name,D.int .i64 aB.prio,D.acc 3,D.nil],Ob.row .uq 47 5 (fA.map aL.c)]⟩)(hm1:aB.conds.length<=maxLen):∀(rest:ah) (i1:Nat) (cz:ah),aB.conds.drop i1=rest->oo aB k1 rest i1 cz=some r->Ar Γ N f195 (.q [[none,none,some (47,5),some (167,3)]] (D.agg [D.str r.name,D.int .i64 r.prio,D.fr 47 5 (r.conds.map aL.c),D.fr 167 3 (r.cg.map Action.c)])) [1,1,0,1,0] (rest.length+1) (BZ aB (cz.map aL.c) (i1:Int)):=by
 intro rest
 induction rest with
 |nil=>
  intro i1 cz b8 h;rw[oo]at h;refine aU fun N1 cc cL=>?_
  exact((aW.ge aL.c b8).a [.hl 0 [1,2,3] [0,1,2,3]]).ex hΓ cc (eF cz h)
 |cons bU cO ih1=>
  intro i1 cz b8 h;rw[oo]at h;refine aU fun N1 cc cL=>?_
  obtain⟨F3,h46,h⟩:=aC h;obtain⟨h47,h⟩:=bX h;exact((((((aW.lt aL.c b8).a [.n2 [0,1,2,3,4,5,6,7,8,9,10,11] [0,1,2,3,4,5,6,7,8,9,10,11] 8 9 [0,1] [4]]).l (bO aL.c 5 (dc b8) rfl)).g (s6 h46)).w (bq h47)).a [.cn [1,2,3,4] [0,1,2,6]]).cs hΓ cL (BZ aB ((cz.map aL.c)++([[D.int .i64 F3.kind,D.str F3.pat.rel,D.sl (F3.pat.args.map tx),D.str F3.left,D.str F3.right]])) (IntKind.i64.wrap ((i1:Int)+1))) (by first| (simp only[iS b8 hm1,mA]<;>rfl)| (simp only[iS b8 hm1,mA,aD.c,aR.c,aL.c,Action.c,aK.c,aT.c,bS.c,aZ.c,Node.c,aI.c,dU.c]<;>rfl)) (ih1 (i1+1) (cz++([F3])) (dn b8) h)
def Ba(aB:aK)(fA:ah)(W0:List aP)(dQ:Int):St:=⟨[(1,D.ptr 0 0),(2,D.ptr 1 0),(3,D.ptr 2 0),(5,D.int .i64 dQ)],[Ob.box (aK.c aB),Ob.box [D.str ([]),D.int .i64 0,D.nil,D.nil],Ob.box [D.str aB.name,D.int .i64 aB.prio,D.acc 3,D.acc 4],Ob.row .uq 47 5 (fA.map aL.c),Ob.row .uq 167 3 W0]⟩
theorem Ig(hΓ:Γ.nt=56){aB:aK}{fA:ah}{r:aK}{k2:eG->Option aK}(B7:∀(vU:eG),k2 vU=some r->Ax Γ N f195 (.q [[none,none,some (47,5),some (167,3)]] (D.agg [D.str r.name,D.int .i64 r.prio,D.fr 47 5 (r.conds.map aL.c),D.fr 167 3 (r.cg.map Action.c)])) [1,1,1,1] ⟨[(2,D.ptr 0 0),(3,D.ptr 1 0)],[Ob.box [D.str ([]),D.int .i64 0,D.nil,D.nil],Ob.box [D.str aB.name,D.int .i64 aB.prio,D.acc 2,D.acc 3],Ob.row .uq 47 5 (fA.map aL.c),Ob.row .uq 167 3 (vU.map Action.c)]⟩)(hm2:aB.cg.length<=maxLen):∀(rest:eG) (i2:Nat) (jj:eG),aB.cg.drop i2=rest->mw aB fA k2 rest i2 jj=some r->Ar Γ N f195 (.q [[none,none,some (47,5),some (167,3)]] (D.agg [D.str r.name,D.int .i64 r.prio,D.fr 47 5 (r.conds.map aL.c),D.fr 167 3 (r.cg.map Action.c)])) [1,1,1,0,1,0] (rest.length+1) (Ba aB fA (jj.map Action.c) (i2:Int)):=by
 intro rest
 induction rest with
 |nil=>
  intro i2 jj hd2 h;rw[mw]at h;refine aU fun N2 vv tQ=>?_
  exact((aW.ge Action.c hd2).a [.hl 0 [2,3] [1,2,3,4]]).ex hΓ vv (B7 jj h)
 |cons jg tR ih2=>
  intro i2 jj hd2 h;rw[mw]at h;refine aU fun N2 vv tQ=>?_
  obtain⟨y92,h93,h⟩:=aC h;obtain⟨h94,h⟩:=bX h;exact(((((((aW.lt Action.c hd2).a [.n2 [0,1,2,3,4,5,6,7,8,9,10,11,12,13,14,15,16,17,18,19] [0,1,2,3,4,5,6,7,8,9,10,11,12,13,14,15,16,17,18,19] 16 17 [0,1] [5]]).l (bO Action.c 3 (dc hd2) rfl)).l (bO Action.c 3 (dc hd2) rfl)).g (AK h93)).w (bq h94)).a [.cn [1,2,3,5] [0,1,2,3,7]]).cs hΓ tQ (Ba aB fA ((jj.map Action.c)++([[D.int .i64 jg.kind,D.str y92.rel,D.sl (y92.args.map tx)]])) (IntKind.i64.wrap ((i2:Int)+1))) (by first| (simp only[iS hd2 hm2,mA]<;>rfl)| (simp only[iS hd2 hm2,mA,aD.c,aR.c,aL.c,Action.c,aK.c,aT.c,bS.c,aZ.c,Node.c,aI.c,dU.c]<;>rfl)) (ih2 (i2+1) (jj++([(⟨jg.kind,y92⟩:Action)])) (dn hd2) h)
theorem HK{aB:aK}{r:aK}(h:sr aB=some r):Good prog 195 [D.agg (aK.c aB)] (D.agg [D.str r.name,D.int .i64 r.prio,D.fr 47 5 (r.conds.map aL.c),D.fr 167 3 (r.cg.map Action.c)]):=by
 refine gd func195 [[none,none,some (47,5),some (167,3)]] 56 fun hr Γ hΓ=>?_
 rw[sr]at h;refine(aW.a [.pb 2 2 47 5,.cn [1,2,3,4] [0,1,2,3]]).lp hΓ (Ie hΓ (fun fA h=>?_) (by have:=(ij.sl (ij.agg (hr _ (aE (i:=0) rfl)) (.sl (aB.conds.map aL.c)) (by simp))).1;simpa using this) aB.conds 0 ([]:ah) rfl h);refine(aW.a [.pb 2 3 167 3,.cn [1,2,3,5] [0,1,2,3,4]]).lp hΓ (Ig hΓ (fun vU h=>?_) (by have:=(ij.sl (ij.agg (hr _ (aE (i:=0) rfl)) (.sl (aB.cg.map Action.c)) (by simp))).1;simpa using this) aB.cg 0 ([]:eG) rfl h);cases h;exact aW.ret hΓ
def mr(aB:ai)(k1:ai->Option ai):ai->Nat->ai->Option ai
 | [],i1,bP=>(k1 bP)
 |bU::cO,i1,bP=>((sr bU).bind fun oH=>(bif room ((bP.map aK.c).length+([[D.str oH.name,D.int .i64 oH.prio,D.sl (oH.conds.map aL.c),D.sl (oH.cg.map Action.c)]]).length) 72 then(mr aB k1 cO (i1+1) (bP++([oH])))else none))
def pU(aB:ai):Option ai:=(mr aB (fun(cB:ai)=>(some cB)) aB 0 ([]:ai))
def zm(aB:ai)(W0:List aP)(dQ:Int):St:=⟨[(0,D.sl (aB.map aK.c)),(3,D.acc 0),(4,D.int .i64 dQ)],[Ob.row .uq 80 4 W0]⟩
theorem G4(hΓ:Γ.nt=21){aB:ai}{r:ai}{k1:ai->Option ai}(eF:∀(cB:ai),k1 cB=some r->Ax Γ N f132 (.q [[some (80,4)]] (D.fr 80 4 (r.map aK.c))) [1,1,1] ⟨[(3,D.acc 0)],[Ob.row .uq 80 4 (cB.map aK.c)]⟩)(hm1:aB.length<=maxLen):∀(rest:ai) (i1:Nat) (bP:ai),aB.drop i1=rest->mr aB k1 rest i1 bP=some r->Ar Γ N f132 (.q [[some (80,4)]] (D.fr 80 4 (r.map aK.c))) [1,1,0,1,0] (rest.length+1) (zm aB (bP.map aK.c) (i1:Int)):=by
 intro rest
 induction rest with
 |nil=>
  intro i1 bP b8 h;rw[mr]at h;refine aU fun N1 cc cL=>?_
  exact((aW.ge aK.c b8).a [.hl 0 [3] [0]]).ex hΓ cc (eF bP h)
 |cons bU cO ih1=>
  intro i1 bP b8 h;rw[mr]at h;refine aU fun N1 cc cL=>?_
  obtain⟨oH,h28,h⟩:=aC h;obtain⟨h29,h⟩:=bX h;exact(((((aW.lt aK.c b8).l (bO aK.c 4 (dc b8) rfl)).g (HK h28)).w (bq h29)).a [.cn [0,3,4] [4]]).cs hΓ cL (zm aB ((bP.map aK.c)++([[D.str oH.name,D.int .i64 oH.prio,D.sl (oH.conds.map aL.c),D.sl (oH.cg.map Action.c)]])) (IntKind.i64.wrap ((i1:Int)+1))) (by first| (simp only[iS b8 hm1,mA]<;>rfl)| (simp only[iS b8 hm1,mA,aD.c,aR.c,aL.c,Action.c,aK.c,aT.c,bS.c,aZ.c,Node.c,aI.c,dU.c]<;>rfl)) (ih1 (i1+1) (bP++([oH])) (dn b8) h)
theorem ER{aB:ai}{r:ai}(h:pU aB=some r):Good prog 132 [D.sl (aB.map aK.c)] (D.fr 80 4 (r.map aK.c)):=by
 refine gd func132 [[some (80,4)]] 21 fun hr Γ hΓ=>?_
 rw[pU]at h;refine(aW.a [.cn [0,3,4] [0]]).lp hΓ (G4 hΓ (fun cB h=>?_) (by have:=(ij.sl (hr _ (aE (i:=0) rfl))).1;simpa using this) aB 0 ([]:ai) rfl h);have h:=aN h;subst h;exact aW.ret hΓ
def n9(aB:aM)(aY:Bytes)(k1:Option aM):aM->Nat->Option aM
 | [],i1=>(k1)
 |bU::cO,i1=>(bif (bU.var:Bytes)==aY then(some aB)else(n9 aB aY k1 cO (i1+1)))
def oW(aB:aM)(aY:Bytes):Option aM:=((gi aY).bind fun y1=>(bif !(y1)then(some aB)else(n9 aB aY ((mh (IntKind.i64.wrap (((aB.map aR.c).length:Int)+1))).bind fun U7=>(bif decide (([63]:Bytes).length+(U7:Bytes).length<=maxLen)then(bif room ((aB.map aR.c).length+([[D.str aY,D.str (([63])++U7)]]).length) 32 then(some (aB++([(⟨aY,([63])++U7⟩:aR)])))else none)else none)) aB 0)))
def Jw(aB:aM)(aY:Bytes)(dQ:Int):St:=⟨[(0,D.acc 0),(1,D.str aY),(5,D.int .i64 dQ)],[Ob.row .uq 137 2 (aB.map aR.c)]⟩
theorem Ip(hΓ:Γ.nt=34){aB:aM}{aY:Bytes}{r:aM}{k1:Option aM}(eF:k1=some r->Ax Γ N f128 (.q [[some (137,2)]] (D.fr 137 2 (r.map aR.c))) [1,1,1] ⟨[(0,D.acc 0),(1,D.str aY)],[Ob.row .uq 137 2 (aB.map aR.c)]⟩)(hm1:aB.length<=maxLen):∀(rest:aM) (i1:Nat),aB.drop i1=rest->n9 aB aY k1 rest i1=some r->Ar Γ N f128 (.q [[some (137,2)]] (D.fr 137 2 (r.map aR.c))) [1,1,0,1,0] (rest.length+1) (Jw aB aY (i1:Int)):=by
 intro rest
 induction rest with
 |nil=>
  intro i1 b8 h;rw[n9]at h;refine aU fun N1 cc cL=>?_
  exact((aW.ge aR.c b8).a [.hl 0 [0,1] [0]]).ex hΓ cc (eF h)
 |cons bU cO ih1=>
  intro i1 b8 h;rw[n9]at h;refine aU fun N1 cc cL=>?_
  have pW:=(((aW.lt aR.c b8).i (mO aR.c 2 (dc b8))).o 2 1 .uq (cV aR.c (dc b8)))
  obtain⟨h17,h⟩|⟨h17,h⟩:=aO h
  ·have h:=aN h;subst h;exact(pW.b h17).ret hΓ
  ·exact((pW.b h17).a [.cn [0,1,5] [0]]).ct hΓ cL (iS b8 hm1) (ih1 (i1+1) (dn b8) h)
theorem s8{aB:aM}{aY:Bytes}{r:aM}(h:oW aB aY=some r):GJ prog 128 [D.acc 0,D.str aY] 137 2 (aB.map aR.c) (r.map aR.c):=by
 refine GJ.of (c:=yI f128) func128 rfl (by decide) (by simp[f128]) (Bi (c:=aR.c) (fun _=>rfl) r) ?_;intro CX Γ hΓ;have hΓ:Γ.nt=34:=hΓ;rw[oW]at h;refine(show AW prog Γ (yI f128) (KQ prog Γ (fun _ _=>False) ((Kd.q [[some (137,2)]] (D.fr 137 2 (r.map aR.c))).qq prog f128) []) _ from ?_);obtain⟨y1,h2,h⟩:=aC h;obtain⟨h3,h⟩|⟨h3,h⟩:=aO h
 ·have h:=aN h;subst h;exact((aW.g (fN h2)).b h3).ret hΓ
 ·refine(((aW.g (fN h2)).b h3).a [.cn [0,1,5] [0]]).lp hΓ (Ip hΓ (fun h=>?_) (by simpa using CX) aB 0 rfl h);obtain⟨U7,h19,h⟩:=aC h;obtain⟨h20,h⟩:=bX h;obtain⟨h21,h⟩:=bX h;cases h;exact(((aW.g (pH h19)).w (bY h20)).w (bq h21)).rts hΓ (D.fr 137 2 ((aB.map aR.c)++([[D.str aY,D.str (([63])++U7)]]))) (by first|rfl| (simp only[mA]<;>rfl)| (simp only[cS,mA]<;>rfl))
def iW(aB:aK)(i1:Nat)(bU:aL)(k2:aM->Option aM):aG->Nat->aM->Option aM
 | [],i2,fF=>(k2 fF)
 |jg::tR,i2,fF=>((oW fF jg).bind fun B6=>(iW aB i1 bU k2 tR (i2+1) B6))
def iV(aB:aK)(k1:aM->Option aM):ah->Nat->aM->Option aM
 | [],i1,bV=>(k1 bV)
 |bU::cO,i1,bV=>(bif decide (bU.pat.args.length<=maxLen)then(iW aB i1 bU (fun(sW:aM)=>((oW sW bU.left).bind fun xK=>((oW xK bU.right).bind fun Ys=>(iV aB k1 cO (i1+1) Ys)))) bU.pat.args 0 bV)else none)
def nh(aB:aK):Option aM:=(iV aB (fun(cB:aM)=>(some cB)) aB.conds 0 ([]:aM))
def EJ(aB:aK)(W0:List aP)(dQ:Int):St:=⟨[(1,D.ptr 0 0),(3,D.acc 1),(4,D.int .i64 dQ)],[Ob.box (aK.c aB),Ob.row .uq 137 2 W0]⟩
def EK(aB:aK)(i1:Nat)(W0:List aP)(dQ:Int):St:=⟨[(1,D.ptr 0 0),(3,D.acc 1),(4,D.int .i64 (i1:Int)),(5,D.int .i64 dQ)],[Ob.box (aK.c aB),Ob.row .uq 137 2 W0]⟩
theorem DL(hΓ:Γ.nt=55){aB:aK}{i1:Nat}{bU:aL}{r:aM}{k2:aM->Option aM}(B7:∀(sW:aM),k2 sW=some r->Ax Γ N f69 (.q [[some (137,2)]] (D.fr 137 2 (r.map aR.c))) [1,1,0,1,0,0,1,0,0,1] ⟨[(1,D.ptr 0 0),(3,D.acc 1),(4,D.int .i64 (i1:Int))],[Ob.box (aK.c aB),Ob.row .uq 137 2 (sW.map aR.c)]⟩)(hx1:(aB.conds)[i1]?=some bU)(hm2:bU.pat.args.length<=maxLen):∀(rest:aG) (i2:Nat) (fF:aM),bU.pat.args.drop i2=rest->iW aB i1 bU k2 rest i2 fF=some r->Ar Γ N f69 (.q [[some (137,2)]] (D.fr 137 2 (r.map aR.c))) [1,1,0,1,0,0,1,0,0,0,1,0] (rest.length+1) (EK aB i1 (fF.map aR.c) (i2:Int)):=by
 intro rest
 induction rest with
 |nil=>
  intro i2 fF hd2 h;rw[iW]at h;refine aU fun N2 vv tQ=>?_
  exact(((aW.l (bO aL.c 5 hx1 rfl)).ge tx hd2).a [.hl 5 [1,3,4] [0,1]]).ex hΓ vv (B7 fF h)
 |cons jg tR ih2=>
  intro i2 fF hd2 h;rw[iW]at h;refine aU fun N2 vv tQ=>?_
  obtain⟨B6,h207,h⟩:=aC h;exact(((((((aW.l (bO aL.c 5 hx1 rfl)).lt tx hd2).l (bO aL.c 5 hx1 rfl)).l (bO tx 1 (dc hd2) rfl)).w (show(fF.map aR.c).flatten.all D.flat=true from by simpa only[bG,av,bZ]using Bi (c:=aR.c) (fun _=>rfl) fF)).w (show GJ prog 128 [D.acc 0,D.str jg] 137 2 (fF.map aR.c) (B6.map aR.c)from by simpa only[bG,av,bZ]using s8 h207)).a [.ov 1 (B6.map aR.c),.cn [1,3,4,5] [0,2]]).ct hΓ tQ (iS hd2 hm2) (ih2 (i2+1) B6 (dn hd2) h)
theorem DK(hΓ:Γ.nt=55){aB:aK}{r:aM}{k1:aM->Option aM}(eF:∀(cB:aM),k1 cB=some r->Ax Γ N f69 (.q [[some (137,2)]] (D.fr 137 2 (r.map aR.c))) [1,1,1] ⟨[(3,D.acc 0)],[Ob.row .uq 137 2 (cB.map aR.c)]⟩)(hm1:aB.conds.length<=maxLen):∀(rest:ah) (i1:Nat) (bV:aM),aB.conds.drop i1=rest->iV aB k1 rest i1 bV=some r->Ar Γ N f69 (.q [[some (137,2)]] (D.fr 137 2 (r.map aR.c))) [1,1,0,1,0] (rest.length+1) (EJ aB (bV.map aR.c) (i1:Int)):=by
 intro rest
 induction rest with
 |nil=>
  intro i1 bV b8 h;rw[iV]at h;refine aU fun N1 cc cL=>?_
  exact((aW.ge aL.c b8).a [.hl 0 [3] [1]]).ex hΓ cc (eF bV h)
 |cons bU cO ih1=>
  intro i1 bV b8 h;rw[iV]at h;refine aU fun N1 cc cL=>?_
  obtain⟨h212,h⟩:=bX h;refine((aW.lt aL.c b8).a [.cn [1,3,4,5] [0,1]]).lp hΓ (DL hΓ (fun sW h=>?_) ((drop_cons b8).1) (bY h212) bU.pat.args 0 bV rfl h);obtain⟨xK,h209,h⟩:=aC h;obtain⟨Ys,h211,h⟩:=aC h;exact((((((((aW.l (bO aL.c 5 (dc b8) rfl)).w (show(sW.map aR.c).flatten.all D.flat=true from by simpa only[bG,av,bZ]using Bi (c:=aR.c) (fun _=>rfl) sW)).w (show GJ prog 128 [D.acc 0,D.str bU.left] 137 2 (sW.map aR.c) (xK.map aR.c)from by simpa only[bG,av,bZ]using s8 h209)).a [.ov 1 (xK.map aR.c)]).l (bO aL.c 5 (dc b8) rfl)).w (show(xK.map aR.c).flatten.all D.flat=true from by simpa only[bG,av,bZ]using Bi (c:=aR.c) (fun _=>rfl) xK)).w (show GJ prog 128 [D.acc 0,D.str bU.right] 137 2 (xK.map aR.c) (Ys.map aR.c)from by simpa only[bG,av,bZ]using s8 h211)).a [.ov 2 (Ys.map aR.c),.cn [1,3,4] [0,3]]).ct hΓ cL (iS b8 hm1) (ih1 (i1+1) Ys (dn b8) h)
theorem CQ{aB:aK}{r:aM}(h:nh aB=some r):Good prog 69 [D.agg (aK.c aB)] (D.fr 137 2 (r.map aR.c)):=by
 refine gd func69 [[some (137,2)]] 55 fun hr Γ hΓ=>?_
 rw[nh]at h;refine(aW.a [.cn [1,3,4] [0,1]]).lp hΓ (DK hΓ (fun cB h=>?_) (by have:=(ij.sl (ij.agg (hr _ (aE (i:=0) rfl)) (.sl (aB.conds.map aL.c)) (by simp))).1;simpa using this) aB.conds 0 ([]:aM) rfl h);have h:=aN h;subst h;exact aW.ret hΓ
def kP(aB:aK)(y1:aM)(k1:ah->Option ah):ah->Nat->ah->Option ah
 | [],i1,bV=>(k1 bV)
 |bU::cO,i1,bV=>((jU bU y1).bind fun F1=>(bif room ((bV.map aL.c).length+([[D.int .i64 F1.kind,D.str F1.pat.rel,D.sl (F1.pat.args.map tx),D.str F1.left,D.str F1.right]]).length) 80 then(kP aB y1 k1 cO (i1+1) (bV++([F1])))else none))
def qD(aB:aK):Option ah:=((nh aB).bind fun y1=>(kP aB y1 (fun(cB:ah)=>(some cB)) aB.conds 0 ([]:ah)))
def xf(aB:aK)(y1:aM)(W0:List aP)(dQ:Int):St:=⟨[(1,D.ptr 0 0),(3,D.acc 1),(4,D.acc 2),(5,D.int .i64 dQ)],[Ob.box (aK.c aB),Ob.row .uq 47 5 W0,Ob.row .uq 137 2 (y1.map aR.c)]⟩
theorem DJ(hΓ:Γ.nt=27){aB:aK}{y1:aM}{r:ah}{k1:ah->Option ah}(eF:∀(cB:ah),k1 cB=some r->Ax Γ N f133 (.q [[some (47,5)]] (D.fr 47 5 (r.map aL.c))) [1,1,1,1] ⟨[(3,D.acc 0)],[Ob.row .uq 47 5 (cB.map aL.c)]⟩)(hm1:aB.conds.length<=maxLen):∀(rest:ah) (i1:Nat) (bV:ah),aB.conds.drop i1=rest->kP aB y1 k1 rest i1 bV=some r->Ar Γ N f133 (.q [[some (47,5)]] (D.fr 47 5 (r.map aL.c))) [1,1,1,0,1,0] (rest.length+1) (xf aB y1 (bV.map aL.c) (i1:Int)):=by
 intro rest
 induction rest with
 |nil=>
  intro i1 bV b8 h;rw[kP]at h;refine aU fun N1 cc cL=>?_
  exact((aW.ge aL.c b8).a [.hl 0 [3] [1]]).ex hΓ cc (eF bV h)
 |cons bU cO ih1=>
  intro i1 bV b8 h;rw[kP]at h;refine aU fun N1 cc cL=>?_
  obtain⟨F1,h30,h⟩:=aC h;obtain⟨h31,h⟩:=bX h;exact(((((aW.lt aL.c b8).l (bO aL.c 5 (dc b8) rfl)).g (jD h30)).w (bq h31)).a [.cn [1,3,4,5] [0,5,2]]).cs hΓ cL (xf aB y1 ((bV.map aL.c)++([[D.int .i64 F1.kind,D.str F1.pat.rel,D.sl (F1.pat.args.map tx),D.str F1.left,D.str F1.right]])) (IntKind.i64.wrap ((i1:Int)+1))) (by first| (simp only[iS b8 hm1,mA]<;>rfl)| (simp only[iS b8 hm1,mA,aD.c,aR.c,aL.c,Action.c,aK.c,aT.c,bS.c,aZ.c,Node.c,aI.c,dU.c]<;>rfl)) (ih1 (i1+1) (bV++([F1])) (dn b8) h)
theorem CP{aB:aK}{r:ah}(h:qD aB=some r):Good prog 133 [D.agg (aK.c aB)] (D.fr 47 5 (r.map aL.c)):=by
 refine gd func133 [[some (47,5)]] 27 fun hr Γ hΓ=>?_
 rw[qD]at h;obtain⟨y1,h2,h⟩:=aC h;refine((aW.g (CQ h2)).a [.cn [1,3,4,5] [0,1,2]]).lp hΓ (DJ hΓ (fun cB h=>?_) (by have:=(ij.sl (ij.agg (hr _ (aE (i:=0) rfl)) (.sl (aB.conds.map aL.c)) (by simp))).1;simpa using this) aB.conds 0 ([]:ah) rfl h);have h:=aN h;subst h;exact aW.ret hΓ
def jc(aB:aG)(aY:aG)(k1:Option Bool):aG->Nat->Option Bool
 | [],i1=>(k1)
 |bU::cO,i1=>((hO aY (i1:Int)).bind fun x22=>(bif !((bU:Bytes)==x22)then(some false)else(jc aB aY k1 cO (i1+1))))
def mo(aB:aG)(aY:aG):Option Bool:=(bif (((aB.map tx).length:Int):Int) != ((aY.map tx).length:Int)then(some false)else(jc aB aY (some true) aB 0))
def DP(aB:aG)(aY:aG)(dQ:Int):St:=⟨[(0,D.sl (aB.map tx)),(1,D.sl (aY.map tx)),(5,D.int .i64 dQ)],[]⟩
theorem CR(hΓ:Γ.nt=26){aB:aG}{aY:aG}{r:Bool}{k1:Option Bool}(eF:k1=some r->Ax Γ N f113 (.q [[none]] (D.bool r)) [1,1,1] ⟨[],[]⟩)(hm1:aB.length<=maxLen):∀(rest:aG) (i1:Nat),aB.drop i1=rest->jc aB aY k1 rest i1=some r->Ar Γ N f113 (.q [[none]] (D.bool r)) [1,1,0,1,0] (rest.length+1) (DP aB aY (i1:Int)):=by
 intro rest
 induction rest with
 |nil=>
  intro i1 b8 h;rw[jc]at h;refine aU fun N1 cc cL=>?_
  exact((aW.ge tx b8).a [.hl 0 [] []]).ex hΓ cc (eF h)
 |cons bU cO ih1=>
  intro i1 b8 h;rw[jc]at h;refine aU fun N1 cc cL=>?_
  obtain⟨x22,h23,h⟩:=aC h;have gr:=((((aW.lt tx b8).a [.n 8]).l (bO tx 1 (dc b8) rfl)).l (gq tx 1 h23 rfl))
  obtain⟨h24,h⟩|⟨h24,h⟩:=aO h
  ·have h:=aN h;subst h;exact(gr.b h24).ret hΓ
  ·exact((gr.b h24).a [.cn [0,1,5] []]).ct hΓ cL (iS b8 hm1) (ih1 (i1+1) (dn b8) h)
theorem vi{aB:aG}{aY:aG}{r:Bool}(h:mo aB aY=some r):Good prog 113 [D.sl (aB.map tx),D.sl (aY.map tx)] (D.bool r):=by
 refine gd func113 [[none]] 26 fun hr Γ hΓ=>?_
 rw[mo]at h;obtain⟨h1,h⟩|⟨h1,h⟩:=aO h
 ·have h:=aN h;subst h;exact(aW.b h1).ret hΓ
 ·refine((aW.b h1).a [.cn [0,1,5] []]).lp hΓ (CR hΓ (fun h=>?_) (by have:=(ij.sl (hr _ (aE (i:=0) rfl))).1;simpa using this) aB 0 rfl h);have h:=aN h;subst h;exact aW.ret hΓ
def iY(aB:aD)(aY:aD):Option Bool:=(bif (aB.rel:Bytes)==aY.rel then((mo aB.args aY.args).bind fun y2=>(some y2))else(some false))
theorem vh{aB:aD}{aY:aD}{r:Bool}(h:iY aB aY=some r):Good prog 60 [D.agg (aD.c aB),D.agg (aD.c aY)] (D.bool r):=by
 refine gd func60 [[none]] 17 fun hr Γ hΓ=>?_
 rw[iY]at h;obtain⟨h1,h⟩|⟨h1,h⟩:=aO h
 ·obtain⟨y2,h3,h⟩:=aC h;have h:=aN h;subst h;exact(((aW.r 5 h1).g (vi h3)).b h1).ret hΓ
 ·have h:=aN h;subst h;exact(aW.r 6 h1).ret hΓ
def nw(aB:aL)(aY:aL):Option Bool:=(bif (aB.kind:Int)==aY.kind then((iY aB.pat aY.pat).bind fun y2=>(bif y2 then(bif (aB.left:Bytes)==aY.left then(some ((aB.right:Bytes)==aY.right))else(some false))else(some false)))else(some false))
theorem EM{aB:aL}{aY:aL}{r:Bool}(h:nw aB aY=some r):Good prog 18 [D.agg (aL.c aB),D.agg (aL.c aY)] (D.bool r):=by
 refine gd func18 [[none]] 31 fun hr Γ hΓ=>?_
 rw[nw]at h;obtain⟨h1,h⟩|⟨h1,h⟩:=aO h
 ·obtain⟨y2,h3,h⟩:=aC h;have pW:=(((aW.r 5 h1).g (vh h3)).b h1)
  obtain⟨h4,h⟩|⟨h4,h⟩:=aO h
  ·have gr:=(pW.r 6 h4)
   obtain⟨h5,h⟩|⟨h5,h⟩:=aO h
   ·cases h;exact(gr.r 6 h5).ret hΓ
   ·have h:=aN h;subst h;exact(gr.r 6 h5).ret hΓ
  ·have h:=aN h;subst h;exact((pW.r 6 h4).F 6).ret hΓ
 ·have h:=aN h;subst h;exact((aW.r 6 h1).F 12).ret hΓ
def lH(aB:aD)(k1:aM->Option aD):aG->Nat->aM->Option aD
 | [],i1,lQ=>(k1 lQ)
 |bU::cO,i1,lQ=>((oW lQ bU).bind fun rL=>(lH aB k1 cO (i1+1) rL))
def rH(aB:aD):Option aD:=(lH aB (fun(oN:aM)=>((jU (⟨0,aB,[],[]⟩:aL) oN).bind fun NP=>(some NP.pat))) aB.args 0 ([]:aM))
def IU(aB:aD)(W0:List aP)(dQ:Int):St:=⟨[(1,D.ptr 0 0),(2,D.ptr 1 0),(3,D.acc 2),(4,D.int .i64 dQ)],[Ob.box (aD.c aB),Ob.box [D.str ([]),D.nil],Ob.row .uq 137 2 W0]⟩
theorem HD(hΓ:Γ.nt=25){aB:aD}{r:aD}{k1:aM->Option aD}(eF:∀(oN:aM),k1 oN=some r->Ax Γ N f198 (.q [[none,some (9,1)]] (D.agg [D.str r.rel,D.fr 9 1 (r.args.map tx)])) [1,1,1] ⟨[(1,D.ptr 0 0),(2,D.ptr 1 0),(3,D.acc 2)],[Ob.box (aD.c aB),Ob.box [D.str ([]),D.nil],Ob.row .uq 137 2 (oN.map aR.c)]⟩)(hm1:aB.args.length<=maxLen):∀(rest:aG) (i1:Nat) (lQ:aM),aB.args.drop i1=rest->lH aB k1 rest i1 lQ=some r->Ar Γ N f198 (.q [[none,some (9,1)]] (D.agg [D.str r.rel,D.fr 9 1 (r.args.map tx)])) [1,1,0,1,0] (rest.length+1) (IU aB (lQ.map aR.c) (i1:Int)):=by
 intro rest
 induction rest with
 |nil=>
  intro i1 lQ b8 h;rw[lH]at h;refine aU fun N1 cc cL=>?_
  exact((aW.ge tx b8).a [.hl 0 [1,2,3] [0,1,2]]).ex hΓ cc (eF lQ h)
 |cons bU cO ih1=>
  intro i1 lQ b8 h;rw[lH]at h;refine aU fun N1 cc cL=>?_
  obtain⟨rL,h23,h⟩:=aC h;exact(((((aW.lt tx b8).l (bO tx 1 (dc b8) rfl)).w (show(lQ.map aR.c).flatten.all D.flat=true from by simpa only[bG,av,bZ]using Bi (c:=aR.c) (fun _=>rfl) lQ)).w (show GJ prog 128 [D.acc 0,D.str bU] 137 2 (lQ.map aR.c) (rL.map aR.c)from by simpa only[bG,av,bZ]using s8 h23)).a [.ov 2 (rL.map aR.c),.cn [1,2,3,4] [0,1,3]]).ct hΓ cL (iS b8 hm1) (ih1 (i1+1) rL (dn b8) h)
theorem yj{aB:aD}{r:aD}(h:rH aB=some r):Good prog 198 [D.agg (aD.c aB)] (D.agg [D.str r.rel,D.fr 9 1 (r.args.map tx)]):=by
 refine gd func198 [[none,some (9,1)]] 25 fun hr Γ hΓ=>?_
 rw[rH]at h;refine(aW.a [.cn [1,2,3,4] [0,1,2]]).lp hΓ (HD hΓ (fun oN h=>?_) (by have:=(ij.sl (ij.agg (hr _ (aE (i:=0) rfl)) (.sl (aB.args.map tx)) (by simp))).1;simpa using this) aB.args 0 ([]:aM) rfl h);obtain⟨NP,h25,h⟩:=aC h;cases h;exact((aW.a [.d (D.agg [D.int .i64 NP.kind,D.str NP.pat.rel,D.fr 9 1 (NP.pat.args.map tx),D.str NP.left,D.str NP.right])]).w (show Good prog 196 [D.agg [D.int .i64 0,D.str aB.rel,D.sl (aB.args.map tx),D.str ([]),D.str ([])],D.sl (oN.map aR.c)] (D.agg [D.int .i64 NP.kind,D.str NP.pat.rel,D.fr 9 1 (NP.pat.args.map tx),D.str NP.left,D.str NP.right])from by first| (simpa only[bG,av,bZ,bh,bn]using jD h25)|exact jD h25| (have t:=jD h25;simp only[bG,bh,bn,aL.c]at t;exact t))).ret hΓ
def lM(aB:aI)(aY:aD)(k1:Option (aI×Int)):bN->Nat->Option (aI×Int)
 | [],i1=>(k1)
 |bU::cO,i1=>((iY bU.shape aY).bind fun rL=>(bif rL then(some (aB,(i1:Int)))else(lM aB aY k1 cO (i1+1))))
def rJ(aB:aI)(aY:aD):Option (aI×Int):=(bif decide (aB.bE.length<=maxLen)then(lM aB aY (bif room ((aB.bE.map aZ.c).length+([[D.str aY.rel,D.sl (aY.args.map tx),D.sl ([])]]).length) 64 then(some ((⟨aB.rules,aB.ends,aB.bE++([(⟨aY,[]⟩:aZ)]),aB.nodes,aB.facts,aB.cG⟩:aI),IntKind.i64.wrap ((((aB.bE.map aZ.c)++([[D.str aY.rel,D.sl (aY.args.map tx),D.sl ([])]])).length:Int)-1)))else none) aB.bE 0)else none)
def Ik(kn:Value)(aB:aI)(aY:aD)(dQ:Int):St:=⟨[(0,D.ptr 0 0),(3,D.ptr 1 0),(5,D.int .i64 dQ)],[Ob.DU [D.acc 2,D.acc 3,D.acc 4,D.acc 5,D.acc 6,D.int .i64 aB.cG] kn,Ob.box [D.str aY.rel,D.acc 7],Ob.row .uq 80 4 (aB.rules.map aK.c),Ob.row .uq 3 1 (aB.ends.map jf),Ob.row .uq 93 3 (aB.bE.map aZ.c),Ob.row .uq 50 8 (aB.nodes.map Node.c),Ob.row .uq 37 2 (aB.facts.map aD.c),Ob.row .uq 9 1 (aY.args.map tx)]⟩
theorem HQ(hΓ:Γ.nt=43){kn:Value}{aB:aI}{aY:aD}{r:aI×Int}{k1:Option (aI×Int)}(eF:k1=some r->Ax Γ N f197 (.p [[some (80,4),some (3,1),some (93,3),some (50,8),some (37,2),none],[none]] kn (cS r.1) (D.int .i64 r.2)) [1,1] ⟨[(0,D.ptr 0 0),(3,D.ptr 1 0)],[Ob.DU [D.acc 2,D.acc 3,D.acc 4,D.acc 5,D.acc 6,D.int .i64 aB.cG] kn,Ob.box [D.str aY.rel,D.acc 7],Ob.row .uq 80 4 (aB.rules.map aK.c),Ob.row .uq 3 1 (aB.ends.map jf),Ob.row .uq 93 3 (aB.bE.map aZ.c),Ob.row .uq 50 8 (aB.nodes.map Node.c),Ob.row .uq 37 2 (aB.facts.map aD.c),Ob.row .uq 9 1 (aY.args.map tx)]⟩)(hm1:aB.bE.length<=maxLen):∀(rest:bN) (i1:Nat),aB.bE.drop i1=rest->lM aB aY k1 rest i1=some r->Ar Γ N f197 (.p [[some (80,4),some (3,1),some (93,3),some (50,8),some (37,2),none],[none]] kn (cS r.1) (D.int .i64 r.2)) [1,0,1,0] (rest.length+1) (Ik kn aB aY (i1:Int)):=by
 intro rest
 induction rest with
 |nil=>
  intro i1 b8 h;rw[lM]at h;refine aU fun N1 cc cL=>?_
  exact((aW.ge aZ.c b8).a [.hl 0 [0,3] [0,1,2,3,4,5,6,7]]).ex hΓ cc (eF h)
 |cons bU cO ih1=>
  intro i1 b8 h;rw[lM]at h;refine aU fun N1 cc cL=>?_
  obtain⟨rL,h23,h⟩:=aC h;have gr:=(((((aW.lt aZ.c b8).a [.n 9]).i (mO aZ.c 3 (dc b8))).o 3 2 .uq (cV aZ.c (dc b8))).g (vh h23))
  obtain⟨h24,h⟩|⟨h24,h⟩:=aO h
  ·cases h;exact(gr.b h24).ret hΓ
  ·exact((gr.b h24).a [.cn [0,3,5] [0,1,2,3,4,5,6,7]]).ct hΓ cL (iS b8 hm1) (ih1 (i1+1) (dn b8) h)
theorem yo{aB:aI}{aY:aD}{r:aI×Int}(h:rJ aB aY=some r):kA prog 197 (cS aB) (cS r.1) [D.agg [D.str aY.rel,D.fr 9 1 (aY.args.map tx)]] (D.int .i64 r.2):=by
 refine Lx func197 [[some (80,4),some (3,1),some (93,3),some (50,8),some (37,2),none],[none]] 43 [D.acc 1,D.acc 2,D.acc 3,D.acc 4,D.acc 5,D.int .i64 aB.cG] [D.agg [D.str aY.rel,D.acc 6]] [Ob.row .uq 80 4 (aB.rules.map aK.c),Ob.row .uq 3 1 (aB.ends.map jf),Ob.row .uq 93 3 (aB.bE.map aZ.c),Ob.row .uq 50 8 (aB.nodes.map Node.c),Ob.row .uq 37 2 (aB.facts.map aD.c),Ob.row .uq 9 1 (aY.args.map tx)] fun hr kn Γ hΓ=>?_
 rw[rJ]at h;obtain⟨h27,h⟩:=bX h;refine(aW.a [.cn [0,3,5] [0,7,1,2,3,4,5,6]]).lp hΓ (HQ hΓ (fun h=>?_) (bY h27) aB.bE 0 rfl h);obtain⟨h26,h⟩:=bX h;cases h;exact((aW.w (bq h26)).a [.n2 [0,1,2,3,4,5,6,7,8,9,10,11] [0,1,2,3,4,5,6,7,8,9,10,11] 7 9 [0,1,2,3,4] [4,7,8]]).rts hΓ (D.iE [D.int .i64 (IntKind.i64.wrap ((((aB.bE.map aZ.c)++([[D.str aY.rel,D.sl (aY.args.map tx),D.sl ([])]])).length:Int)-1)),D.agg [D.fr 80 4 (aB.rules.map aK.c),D.fr 3 1 (aB.ends.map jf),D.fr 93 3 ((aB.bE.map aZ.c)++([[D.str aY.rel,D.sl (aY.args.map tx),D.sl ([])]])),D.fr 50 8 (aB.nodes.map Node.c),D.fr 37 2 (aB.facts.map aD.c),D.int .i64 aB.cG],D.val kn]) (by first|rfl| (simp only[mA]<;>rfl)| (simp only[cS,mA]<;>rfl))
def gQ(aB:aI)(aY:Int)(cT:aL)(k1:Option (aI×Int)):Nat->Int->Option (aI×Int)
 |0,_=>none
 |n1+1,uS=>(bif decide ((uS:Int)<((aB.nodes.map Node.c).length:Int))then((hO aB.nodes uS).bind fun x16=>(bif (x16.parent:Int)==aY then((nw x16.cond cT).bind fun KL=>(bif KL then(some (aB,uS))else(gQ aB aY cT k1 n1 (IntKind.i64.wrap (uS+1)))))else(gQ aB aY cT k1 n1 (IntKind.i64.wrap (uS+1)))))else(k1))
def tj(aB:aI)(aY:Int)(cT:aL):Option (aI×Int):=(gQ aB aY cT ((je cT).bind fun rL=>(bif (cT.kind:Int)==1 then((rH cT.pat).bind fun vI=>((rJ aB vI).bind fun oH=>(bif room ((oH.1.nodes.map Node.c).length+([[D.int .i64 aY,D.int .i64 rL.kind,D.str rL.pat.rel,D.sl (rL.pat.args.map tx),D.str rL.left,D.str rL.right,D.int .i64 oH.2,D.sl ([])]]).length) 120 then(some ((⟨oH.1.rules,oH.1.ends,oH.1.bE,oH.1.nodes++([(⟨aY,rL,oH.2,[]⟩:Node)]),oH.1.facts,oH.1.cG⟩:aI),IntKind.i64.wrap ((((oH.1.nodes.map Node.c)++([[D.int .i64 aY,D.int .i64 rL.kind,D.str rL.pat.rel,D.sl (rL.pat.args.map tx),D.str rL.left,D.str rL.right,D.int .i64 oH.2,D.sl ([])]])).length:Int)-1)))else none)))else(bif (cT.kind:Int)==2 then((rH cT.pat).bind fun O9=>((rJ aB O9).bind fun F2=>(bif room ((F2.1.nodes.map Node.c).length+([[D.int .i64 aY,D.int .i64 rL.kind,D.str rL.pat.rel,D.sl (rL.pat.args.map tx),D.str rL.left,D.str rL.right,D.int .i64 F2.2,D.sl ([])]]).length) 120 then(some ((⟨F2.1.rules,F2.1.ends,F2.1.bE,F2.1.nodes++([(⟨aY,rL,F2.2,[]⟩:Node)]),F2.1.facts,F2.1.cG⟩:aI),IntKind.i64.wrap ((((F2.1.nodes.map Node.c)++([[D.int .i64 aY,D.int .i64 rL.kind,D.str rL.pat.rel,D.sl (rL.pat.args.map tx),D.str rL.left,D.str rL.right,D.int .i64 F2.2,D.sl ([])]])).length:Int)-1)))else none)))else(bif room ((aB.nodes.map Node.c).length+([[D.int .i64 aY,D.int .i64 rL.kind,D.str rL.pat.rel,D.sl (rL.pat.args.map tx),D.str rL.left,D.str rL.right,D.int .i64 (-1),D.sl ([])]]).length) 120 then(some ((⟨aB.rules,aB.ends,aB.bE,aB.nodes++([(⟨aY,rL, -1,[]⟩:Node)]),aB.facts,aB.cG⟩:aI),IntKind.i64.wrap ((((aB.nodes.map Node.c)++([[D.int .i64 aY,D.int .i64 rL.kind,D.str rL.pat.rel,D.sl (rL.pat.args.map tx),D.str rL.left,D.str rL.right,D.int .i64 (-1),D.sl ([])]])).length:Int)-1)))else none)))) fuel 1)
def Il(kn:Value)(aB:aI)(aY:Int)(cT:aL)(uS:Int):St:=⟨[(0,D.ptr 0 0),(1,D.int .i64 aY),(5,D.ptr 1 0),(7,D.int .i64 uS)],[Ob.DU [D.acc 2,D.acc 3,D.acc 4,D.acc 5,D.acc 6,D.int .i64 aB.cG] kn,Ob.box (aL.c cT),Ob.row .uq 80 4 (aB.rules.map aK.c),Ob.row .uq 3 1 (aB.ends.map jf),Ob.row .uq 93 3 (aB.bE.map aZ.c),Ob.row .uq 50 8 (aB.nodes.map Node.c),Ob.row .uq 37 2 (aB.facts.map aD.c)]⟩
theorem HR(hΓ:Γ.nt=75){kn:Value}{aB:aI}{aY:Int}{cT:aL}{r:aI×Int}{k1:Option (aI×Int)}(eF:k1=some r->Ax Γ N f134 (.p [[some (80,4),some (3,1),some (93,3),some (50,8),some (37,2),none],[none]] kn (cS r.1) (D.int .i64 r.2)) [1,1] ⟨[(0,D.ptr 0 0),(1,D.int .i64 aY),(5,D.ptr 1 0)],[Ob.DU [D.acc 2,D.acc 3,D.acc 4,D.acc 5,D.acc 6,D.int .i64 aB.cG] kn,Ob.box (aL.c cT),Ob.row .uq 80 4 (aB.rules.map aK.c),Ob.row .uq 3 1 (aB.ends.map jf),Ob.row .uq 93 3 (aB.bE.map aZ.c),Ob.row .uq 50 8 (aB.nodes.map Node.c),Ob.row .uq 37 2 (aB.facts.map aD.c)]⟩):∀(n1:Nat) (uS:Int),gQ aB aY cT k1 n1 uS=some r->Ar Γ N f134 (.p [[some (80,4),some (3,1),some (93,3),some (50,8),some (37,2),none],[none]] kn (cS r.1) (D.int .i64 r.2)) [1,0,1,0] n1 (Il kn aB aY cT uS):=by
 intro n
 induction n with
 |zero=>intro uS h;simp[gQ]at h
 |succ n1 ih1=>
  intro uS h;rw[gQ]at h;refine aU fun N1 cc cL=>?_
  obtain⟨h15,h⟩|⟨h15,h⟩:=aO h
  ·obtain⟨x16,h17,h⟩:=aC h;have kp:=((((aW.b h15).a [.n 20]).i (iG Node.c 8 h17)).o 8 1 .uq (cV Node.c (fG h17)))
   obtain⟨h18,h⟩|⟨h18,h⟩:=aO h
   ·obtain⟨KL,h20,h⟩:=aC h;have ko:=(((((((kp.r 6 h18).i (iG Node.c 8 h17)).r 2 h18).o 8 6 .uq (cV Node.c (fG h17))).r 2 h18).g (EM h20)).b h18)
    obtain⟨h21,h⟩|⟨h21,h⟩:=aO h
    ·cases h;exact(ko.b h21).ret hΓ
    ·exact((ko.b h21).a [.cn [0,1,5,7] [0,1,2,3,4,5,6]]).cf hΓ cL (ih1 (IntKind.i64.wrap (uS+1)) h)
   ·exact(((kp.r 11 h18).F 1).a [.cn [0,1,5,7] [0,1,2,3,4,5,6]]).cf hΓ cL (ih1 (IntKind.i64.wrap (uS+1)) h)
  ·exact((aW.b h15).a [.hl 0 [0,1,5] [0,1,2,3,4,5,6]]).ex hΓ cc (eF h)
theorem G8{aB:aI}{aY:Int}{cT:aL}{r:aI×Int}(h:tj aB aY cT=some r):kA prog 134 (cS aB) (cS r.1) [D.int .i64 aY,D.agg (aL.c cT)] (D.int .i64 r.2):=by
 refine Lx func134 [[some (80,4),some (3,1),some (93,3),some (50,8),some (37,2),none],[none]] 75 [D.acc 1,D.acc 2,D.acc 3,D.acc 4,D.acc 5,D.int .i64 aB.cG] [D.int .i64 aY,D.agg [D.int .i64 cT.kind,D.str cT.pat.rel,D.sl (cT.pat.args.map tx),D.str cT.left,D.str cT.right]] [Ob.row .uq 80 4 (aB.rules.map aK.c),Ob.row .uq 3 1 (aB.ends.map jf),Ob.row .uq 93 3 (aB.bE.map aZ.c),Ob.row .uq 50 8 (aB.nodes.map Node.c),Ob.row .uq 37 2 (aB.facts.map aD.c)] fun hr kn Γ hΓ=>?_
 rw[tj]at h;refine(aW.a [.cn [0,1,5,7] [0,6,1,2,3,4,5]]).lp hΓ (HR hΓ (fun h=>?_) fuel 1 h);obtain⟨rL,h23,h⟩:=aC h;obtain⟨h24,h⟩|⟨h24,h⟩:=aO h
 ·obtain⟨vI,h26,h⟩:=aC h;obtain⟨oH,h28,h⟩:=aC h;obtain⟨h30,h⟩:=bX h;cases h;exact(((((((aW.g (s6 h23)).r 4 h24).T 1).g (yj h26)).hp [[some (80,4),some (3,1),some (93,3),some (50,8),some (37,2),none],[none,some (9,1)]] (yo h28)).w (bq h30)).a [.n2 [0,1,2,3,4,5,6,7,8,9,10] [0,1,2,3,4,5,6,7,8,9,10] 6 8 [0,1,2,3,4] [7,13,15]]).rts hΓ (D.iE [D.int .i64 (IntKind.i64.wrap ((((oH.1.nodes.map Node.c)++([[D.int .i64 aY,D.int .i64 rL.kind,D.str rL.pat.rel,D.sl (rL.pat.args.map tx),D.str rL.left,D.str rL.right,D.int .i64 oH.2,D.sl ([])]])).length:Int)-1)),D.agg [D.fr 80 4 (oH.1.rules.map aK.c),D.fr 3 1 (oH.1.ends.map jf),D.fr 93 3 (oH.1.bE.map aZ.c),D.fr 50 8 ((oH.1.nodes.map Node.c)++([[D.int .i64 aY,D.int .i64 rL.kind,D.str rL.pat.rel,D.sl (rL.pat.args.map tx),D.str rL.left,D.str rL.right,D.int .i64 oH.2,D.sl ([])]])),D.fr 37 2 (oH.1.facts.map aD.c),D.int .i64 oH.1.cG],D.val kn]) (by first|rfl| (simp only[mA]<;>rfl)| (simp only[cS,mA]<;>rfl))
 ·have tN:=((aW.g (s6 h23)).r 4 h24)
  obtain⟨h31,h⟩|⟨h31,h⟩:=aO h
  ·obtain⟨O9,h33,h⟩:=aC h;obtain⟨F2,h35,h⟩:=aC h;obtain⟨h37,h⟩:=bX h;cases h;exact(((((tN.b h31).g (yj h33)).hp [[some (80,4),some (3,1),some (93,3),some (50,8),some (37,2),none],[none,some (9,1)]] (yo h35)).w (bq h37)).a [.n2 [0,1,2,3,4,5,6,7,8,9,10] [0,1,2,3,4,5,6,7,8,9,10] 6 8 [0,1,2,3,4] [7,13,15]]).rts hΓ (D.iE [D.int .i64 (IntKind.i64.wrap ((((F2.1.nodes.map Node.c)++([[D.int .i64 aY,D.int .i64 rL.kind,D.str rL.pat.rel,D.sl (rL.pat.args.map tx),D.str rL.left,D.str rL.right,D.int .i64 F2.2,D.sl ([])]])).length:Int)-1)),D.agg [D.fr 80 4 (F2.1.rules.map aK.c),D.fr 3 1 (F2.1.ends.map jf),D.fr 93 3 (F2.1.bE.map aZ.c),D.fr 50 8 ((F2.1.nodes.map Node.c)++([[D.int .i64 aY,D.int .i64 rL.kind,D.str rL.pat.rel,D.sl (rL.pat.args.map tx),D.str rL.left,D.str rL.right,D.int .i64 F2.2,D.sl ([])]])),D.fr 37 2 (F2.1.facts.map aD.c),D.int .i64 F2.1.cG],D.val kn]) (by first|rfl| (simp only[mA]<;>rfl)| (simp only[cS,mA]<;>rfl))
  ·obtain⟨h39,h⟩:=bX h;cases h;exact(((tN.b h31).w (bq h39)).a [.n2 [0,1,2,3,4,5,6,7,8,9,10] [0,1,2,3,4,5,6,7,8,9,10] 6 8 [0,1,2,3,4] [5,7,9]]).rts hΓ (D.iE [D.int .i64 (IntKind.i64.wrap ((((aB.nodes.map Node.c)++([[D.int .i64 aY,D.int .i64 rL.kind,D.str rL.pat.rel,D.sl (rL.pat.args.map tx),D.str rL.left,D.str rL.right,D.int .i64 (-1),D.sl ([])]])).length:Int)-1)),D.agg [D.fr 80 4 (aB.rules.map aK.c),D.fr 3 1 (aB.ends.map jf),D.fr 93 3 (aB.bE.map aZ.c),D.fr 50 8 ((aB.nodes.map Node.c)++([[D.int .i64 aY,D.int .i64 rL.kind,D.str rL.pat.rel,D.sl (rL.pat.args.map tx),D.str rL.left,D.str rL.right,D.int .i64 (-1),D.sl ([])]])),D.fr 37 2 (aB.facts.map aD.c),D.int .i64 aB.cG],D.val kn]) (by first|rfl| (simp only[mA]<;>rfl)| (simp only[cS,mA]<;>rfl))
def gb(aB:ai)(i1:Nat)(JO:ah)(k2:Int->Int->ai->bJ->bN->bL->aJ->Option (aI×Bool)):ah->Nat->Int->Int->ai->bJ->bN->bL->aJ->Option (aI×Bool)
 | [],i2,qJ,o7,B4,jj,uT,kq,B5=>(k2 qJ o7 B4 jj uT kq B5)
 |jg::tR,i2,qJ,o7,B4,jj,uT,kq,B5=>((tj (⟨B4,jj,uT,kq,B5,o7⟩:aI) qJ jg).bind fun Cf=>(gb aB i1 JO k2 tR (i2+1) Cf.2 Cf.1.cG Cf.1.rules Cf.1.ends Cf.1.bE Cf.1.nodes Cf.1.facts))
def ga(aB:ai)(k1:Int->ai->bJ->bN->bL->aJ->Option (aI×Bool)):ai->Nat->Int->ai->bJ->bN->bL->aJ->Option (aI×Bool)
 | [],i1,o6,lQ,cz,B2,nQ,B3=>(k1 o6 lQ cz B2 nQ B3)
 |bU::cO,i1,o6,lQ,cz,B2,nQ,B3=>((qD bU).bind fun JO=>(bif decide (JO.length<=maxLen)then(gb aB i1 JO (fun(F4:Int) (vV:Int) (Hg:ai) (vU:bJ) (Hh:bN) (ot:bL) (Hi:aJ)=>(bif room ((vU.map jf).length+([[D.int .i64 F4]]).length) 8 then(ga aB k1 cO (i1+1) vV Hg (vU++([F4])) Hh ot Hi)else none)) JO 0 0 o6 lQ cz B2 nQ B3)else none))
def jM(aB:ai):Option (aI×Bool):=((sL aB).bind fun y1=>(bif !(y1)then(some ((⟨[],[],[],[],[],0⟩:aI),false))else((pU aB).bind fun y4=>(ga aB (fun(uA:Int) (oN:ai) (fA:bJ) (Ma:bN) (nP:bL) (Mb:aJ)=>(some ((⟨oN,fA,Ma,nP,Mb,uA⟩:aI),true))) aB 0 0 y4 ([]:bJ) ([]:bN) ([(⟨-1,(⟨0,(⟨[],[]⟩:aD),[],[]⟩:aL), -1,[(⟨[],[]⟩:aT)]⟩:Node)]) ([]:aJ)))))
def rj(aB:ai)(o6:Int)(W1:List aP)(W2:List aP)(W3:List aP)(W4:List aP)(W5:List aP)(dQ:Int):St:=⟨[(0,D.sl (aB.map aK.c)),(2,D.ptr 0 0),(4,D.ptr 1 0),(5,D.int .i64 dQ)],[Ob.box [D.nil,D.nil,D.nil,D.nil,D.nil,D.int .i64 0],Ob.box [D.acc 2,D.acc 3,D.acc 4,D.acc 5,D.acc 6,D.int .i64 o6],Ob.row .uq 80 4 W1,Ob.row .uq 3 1 W2,Ob.row .uq 93 3 W3,Ob.row .uq 50 8 W4,Ob.row .uq 37 2 W5]⟩
def CN(aB:ai)(i1:Nat)(JO:ah)(qJ:Int)(o7:Int)(W2:List aP)(W3:List aP)(W4:List aP)(W5:List aP)(W6:List aP)(dQ:Int):St:=⟨[(0,D.sl (aB.map aK.c)),(2,D.ptr 0 0),(4,D.ptr 1 0),(5,D.int .i64 (i1:Int)),(6,D.int .i64 qJ),(7,D.acc 2),(8,D.int .i64 dQ)],[Ob.box [D.nil,D.nil,D.nil,D.nil,D.nil,D.int .i64 0],Ob.box [D.acc 3,D.acc 4,D.acc 5,D.acc 6,D.acc 7,D.int .i64 o7],Ob.row .uq 47 5 (JO.map aL.c),Ob.row .uq 80 4 W2,Ob.row .uq 3 1 W3,Ob.row .uq 93 3 W4,Ob.row .uq 50 8 W5,Ob.row .uq 37 2 W6]⟩
theorem BT(hΓ:Γ.nt=50){aB:ai}{i1:Nat}{JO:ah}{r:aI×Bool}{k2:Int->Int->ai->bJ->bN->bL->aJ->Option (aI×Bool)}(B7:∀(F4:Int) (vV:Int) (Hg:ai) (vU:bJ) (Hh:bN) (ot:bL) (Hi:aJ),k2 F4 vV Hg vU Hh ot Hi=some r->Ax Γ N f72 (.q [[some (80,4),some (3,1),some (93,3),some (50,8),some (37,2),none],[none]] (D.iE [D.agg [D.fr 80 4 (r.1.rules.map aK.c),D.fr 3 1 (r.1.ends.map jf),D.fr 93 3 (r.1.bE.map aZ.c),D.fr 50 8 (r.1.nodes.map Node.c),D.fr 37 2 (r.1.facts.map aD.c),D.int .i64 r.1.cG],D.bool r.2])) [1,1,1,0,1,0,0,1,0,0,1,1,1] ⟨[(0,D.sl (aB.map aK.c)),(2,D.ptr 0 0),(4,D.ptr 1 0),(5,D.int .i64 (i1:Int)),(6,D.int .i64 F4)],[Ob.box [D.nil,D.nil,D.nil,D.nil,D.nil,D.int .i64 0],Ob.box [D.acc 2,D.acc 3,D.acc 4,D.acc 5,D.acc 6,D.int .i64 vV],Ob.row .uq 80 4 (Hg.map aK.c),Ob.row .uq 3 1 (vU.map jf),Ob.row .uq 93 3 (Hh.map aZ.c),Ob.row .uq 50 8 (ot.map Node.c),Ob.row .uq 37 2 (Hi.map aD.c)]⟩)(hm2:JO.length<=maxLen):∀(rest:ah) (i2:Nat) (qJ:Int) (o7:Int) (B4:ai) (jj:bJ) (uT:bN) (kq:bL) (B5:aJ),JO.drop i2=rest->gb aB i1 JO k2 rest i2 qJ o7 B4 jj uT kq B5=some r->Ar Γ N f72 (.q [[some (80,4),some (3,1),some (93,3),some (50,8),some (37,2),none],[none]] (D.iE [D.agg [D.fr 80 4 (r.1.rules.map aK.c),D.fr 3 1 (r.1.ends.map jf),D.fr 93 3 (r.1.bE.map aZ.c),D.fr 50 8 (r.1.nodes.map Node.c),D.fr 37 2 (r.1.facts.map aD.c),D.int .i64 r.1.cG],D.bool r.2])) [1,1,1,0,1,0,0,1,0,0,1,1,0,1,0] (rest.length+1) (CN aB i1 JO qJ o7 (B4.map aK.c) (jj.map jf) (uT.map aZ.c) (kq.map Node.c) (B5.map aD.c) (i2:Int)):=by
 intro rest
 induction rest with
 |nil=>
  intro i2 qJ o7 B4 jj uT kq B5 hd2 h;rw[gb]at h;refine aU fun N2 vv tQ=>?_
  exact((aW.ge aL.c hd2).a [.hl 5 [0,2,4,5,6] [0,1,3,4,5,6,7]]).ex hΓ vv (B7 qJ o7 B4 jj uT kq B5 h)
 |cons jg tR ih2=>
  intro i2 qJ o7 B4 jj uT kq B5 hd2 h;rw[gb]at h;refine aU fun N2 vv tQ=>?_
  obtain⟨Cf,h212,h⟩:=aC h;exact((((((aW.lt aL.c hd2).i (mO aL.c 5 (dc hd2))).o 5 5 .uq (cV aL.c (dc hd2))).a [.gp [[some (80,4),some (3,1),some (93,3),some (50,8),some (37,2),none],[none],[none,none,none,none,none]] (cS Cf.1) (D.int .i64 Cf.2)]).w (show kA prog 134 (cS (⟨B4,jj,uT,kq,B5,o7⟩:aI)) (cS Cf.1) [D.int .i64 qJ,D.agg (aL.c jg)] (D.int .i64 Cf.2)from by simpa only[bG,av,bZ,bh,bn]using G8 h212)).a [.cn [0,2,4,5,6,7,8] [0,1,2,8,9,10,11,12]]).ct hΓ tQ (iS hd2 hm2) (ih2 (i2+1) Cf.2 Cf.1.cG Cf.1.rules Cf.1.ends Cf.1.bE Cf.1.nodes Cf.1.facts (dn hd2) h)
theorem BS(hΓ:Γ.nt=50){aB:ai}{r:aI×Bool}{k1:Int->ai->bJ->bN->bL->aJ->Option (aI×Bool)}(eF:∀(uA:Int) (oN:ai) (fA:bJ) (Ma:bN) (nP:bL) (Mb:aJ),k1 uA oN fA Ma nP Mb=some r->Ax Γ N f72 (.q [[some (80,4),some (3,1),some (93,3),some (50,8),some (37,2),none],[none]] (D.iE [D.agg [D.fr 80 4 (r.1.rules.map aK.c),D.fr 3 1 (r.1.ends.map jf),D.fr 93 3 (r.1.bE.map aZ.c),D.fr 50 8 (r.1.nodes.map Node.c),D.fr 37 2 (r.1.facts.map aD.c),D.int .i64 r.1.cG],D.bool r.2])) [1,1,1,1] ⟨[(2,D.ptr 0 0),(4,D.ptr 1 0)],[Ob.box [D.nil,D.nil,D.nil,D.nil,D.nil,D.int .i64 0],Ob.box [D.acc 2,D.acc 3,D.acc 4,D.acc 5,D.acc 6,D.int .i64 uA],Ob.row .uq 80 4 (oN.map aK.c),Ob.row .uq 3 1 (fA.map jf),Ob.row .uq 93 3 (Ma.map aZ.c),Ob.row .uq 50 8 (nP.map Node.c),Ob.row .uq 37 2 (Mb.map aD.c)]⟩)(hm1:aB.length<=maxLen):∀(rest:ai) (i1:Nat) (o6:Int) (lQ:ai) (cz:bJ) (B2:bN) (nQ:bL) (B3:aJ),aB.drop i1=rest->ga aB k1 rest i1 o6 lQ cz B2 nQ B3=some r->Ar Γ N f72 (.q [[some (80,4),some (3,1),some (93,3),some (50,8),some (37,2),none],[none]] (D.iE [D.agg [D.fr 80 4 (r.1.rules.map aK.c),D.fr 3 1 (r.1.ends.map jf),D.fr 93 3 (r.1.bE.map aZ.c),D.fr 50 8 (r.1.nodes.map Node.c),D.fr 37 2 (r.1.facts.map aD.c),D.int .i64 r.1.cG],D.bool r.2])) [1,1,1,0,1,0] (rest.length+1) (rj aB o6 (lQ.map aK.c) (cz.map jf) (B2.map aZ.c) (nQ.map Node.c) (B3.map aD.c) (i1:Int)):=by
 intro rest
 induction rest with
 |nil=>
  intro i1 o6 lQ cz B2 nQ B3 b8 h;rw[ga]at h;refine aU fun N1 cc cL=>?_
  exact((aW.ge aK.c b8).a [.hl 0 [2,4] [0,1,2,3,4,5,6]]).ex hΓ cc (eF o6 lQ cz B2 nQ B3 h)
 |cons bU cO ih1=>
  intro i1 o6 lQ cz B2 nQ B3 b8 h;rw[ga]at h;refine aU fun N1 cc cL=>?_
  obtain⟨JO,h183,h⟩:=aC h;obtain⟨h214,h⟩:=bX h;refine((((aW.lt aK.c b8).l (bO aK.c 4 (dc b8) rfl)).g (CP h183)).a [.cn [0,2,4,5,6,7,8] [0,1,7,2,3,4,5,6]]).lp hΓ (BT hΓ (fun F4 vV Hg vU Hh ot Hi h=>?_) (bY h214) JO 0 0 o6 lQ cz B2 nQ B3 rfl h);obtain⟨h213,h⟩:=bX h;exact((aW.w (bq h213)).a [.cn [0,2,4,5] [0,1,2,8,4,5,6]]).cs hΓ cL (rj aB vV (Hg.map aK.c) ((vU.map jf)++([[D.int .i64 F4]])) (Hh.map aZ.c) (ot.map Node.c) (Hi.map aD.c) (IntKind.i64.wrap ((i1:Int)+1))) (by first| (simp only[iS b8 hm1,mA]<;>rfl)| (simp only[iS b8 hm1,mA,aD.c,aR.c,aL.c,Action.c,aK.c,aT.c,bS.c,aZ.c,Node.c,aI.c,dU.c]<;>rfl)) (ih1 (i1+1) vV Hg (vU++([F4])) Hh ot Hi (dn b8) h)
theorem Am{aB:ai}{r:aI×Bool}(h:jM aB=some r):Good prog 72 [D.sl (aB.map aK.c)] (D.iE [D.agg [D.fr 80 4 (r.1.rules.map aK.c),D.fr 3 1 (r.1.ends.map jf),D.fr 93 3 (r.1.bE.map aZ.c),D.fr 50 8 (r.1.nodes.map Node.c),D.fr 37 2 (r.1.facts.map aD.c),D.int .i64 r.1.cG],D.bool r.2]):=by
 refine gd func72 [[some (80,4),some (3,1),some (93,3),some (50,8),some (37,2),none],[none]] 50 fun hr Γ hΓ=>?_
 rw[jM]at h;obtain⟨y1,h2,h⟩:=aC h;obtain⟨h3,h⟩|⟨h3,h⟩:=aO h
 ·cases h;exact((aW.g (xd h2)).b h3).ret hΓ
 ·obtain⟨y4,h5,h⟩:=aC h;refine((((aW.g (xd h2)).b h3).g (ER h5)).a [.pb 4 1 3 1,.pb 4 2 93 3,.pb 4 4 37 2,.cn [0,2,4,5] [0,4,1,5,6,3,7]]).lps hΓ (rj aB 0 (y4.map aK.c) ([]:List aP) ([]:List aP) ([[D.int .i64 (-1),D.int .i64 0,D.str ([]),D.sl ([]),D.str ([]),D.str ([]),D.int .i64 (-1),D.sl ([[D.sl ([]),D.sl ([])]])]]) ([]:List aP) 0) (by first| (simp only[mA]<;>rfl)| (simp only[mA,aD.c,aR.c,aL.c,Action.c,aK.c,aT.c,bS.c,aZ.c,Node.c,aI.c,dU.c]<;>rfl)) (BS hΓ (fun uA oN fA Ma nP Mb h=>?_) (by have:=(ij.sl (hr _ (aE (i:=0) rfl))).1;simpa using this) aB 0 0 y4 ([]:bJ) ([]:bN) ([(⟨-1,(⟨0,(⟨[],[]⟩:aD),[],[]⟩:aL), -1,[(⟨[],[]⟩:aT)]⟩:Node)]) ([]:aJ) rfl h);cases h;exact aW.ret hΓ
def mq(aB:aJ)(k1:aJ->Option aJ):aJ->Nat->aJ->Option aJ
 | [],i1,bP=>(k1 bP)
 |bU::cO,i1,bP=>((eU bU).bind fun oH=>(bif room ((bP.map aD.c).length+([[D.str oH.rel,D.sl (oH.args.map tx)]]).length) 40 then(mq aB k1 cO (i1+1) (bP++([oH])))else none))
def eE(aB:aJ):Option aJ:=(mq aB (fun(cB:aJ)=>(some cB)) aB 0 ([]:aJ))
def zk(aB:aJ)(W0:List aP)(dQ:Int):St:=⟨[(0,D.sl (aB.map aD.c)),(3,D.acc 0),(4,D.int .i64 dQ)],[Ob.row .uq 37 2 W0]⟩
theorem G2(hΓ:Γ.nt=21){aB:aJ}{r:aJ}{k1:aJ->Option aJ}(eF:∀(cB:aJ),k1 cB=some r->Ax Γ N f70 (.q [[some (37,2)]] (D.fr 37 2 (r.map aD.c))) [1,1,1] ⟨[(3,D.acc 0)],[Ob.row .uq 37 2 (cB.map aD.c)]⟩)(hm1:aB.length<=maxLen):∀(rest:aJ) (i1:Nat) (bP:aJ),aB.drop i1=rest->mq aB k1 rest i1 bP=some r->Ar Γ N f70 (.q [[some (37,2)]] (D.fr 37 2 (r.map aD.c))) [1,1,0,1,0] (rest.length+1) (zk aB (bP.map aD.c) (i1:Int)):=by
 intro rest
 induction rest with
 |nil=>
  intro i1 bP b8 h;rw[mq]at h;refine aU fun N1 cc cL=>?_
  exact((aW.ge aD.c b8).a [.hl 0 [3] [0]]).ex hΓ cc (eF bP h)
 |cons bU cO ih1=>
  intro i1 bP b8 h;rw[mq]at h;refine aU fun N1 cc cL=>?_
  obtain⟨oH,h28,h⟩:=aC h;obtain⟨h29,h⟩:=bX h;exact(((((aW.lt aD.c b8).l (bO aD.c 2 (dc b8) rfl)).g (gl h28)).w (bq h29)).a [.cn [0,3,4] [3]]).cs hΓ cL (zk aB ((bP.map aD.c)++([[D.str oH.rel,D.sl (oH.args.map tx)]])) (IntKind.i64.wrap ((i1:Int)+1))) (by first| (simp only[iS b8 hm1,mA]<;>rfl)| (simp only[iS b8 hm1,mA,aD.c,aR.c,aL.c,Action.c,aK.c,aT.c,bS.c,aZ.c,Node.c,aI.c,dU.c]<;>rfl)) (ih1 (i1+1) (bP++([oH])) (dn b8) h)
theorem th{aB:aJ}{r:aJ}(h:eE aB=some r):Good prog 70 [D.sl (aB.map aD.c)] (D.fr 37 2 (r.map aD.c)):=by
 refine gd func70 [[some (37,2)]] 21 fun hr Γ hΓ=>?_
 rw[eE]at h;refine(aW.a [.cn [0,3,4] [0]]).lp hΓ (G2 hΓ (fun cB h=>?_) (by have:=(ij.sl (hr _ (aE (i:=0) rfl))).1;simpa using this) aB 0 ([]:aJ) rfl h);have h:=aN h;subst h;exact aW.ret hΓ
def om(aB:aD)(k1:Option Bool):aG->Nat->Option Bool
 | [],i1=>(k1)
 |bU::cO,i1=>((fW bU).bind fun Kr=>(bif !(Kr)then(some false)else(om aB k1 cO (i1+1))))
def qT(aB:aD):Option Bool:=(om aB ((qU aB.rel).bind fun NP=>(bif NP then(some (decide ((((aB.args.map tx).length:Int):Int)<=3)))else(some false))) aB.args 0)
def Ji(aB:aD)(dQ:Int):St:=⟨[(1,D.ptr 0 0),(3,D.int .i64 dQ)],[Ob.box (aD.c aB)]⟩
theorem IM(hΓ:Γ.nt=27){aB:aD}{r:Bool}{k1:Option Bool}(eF:k1=some r->Ax Γ N f84 (.q [[none]] (D.bool r)) [1,1] ⟨[(1,D.ptr 0 0)],[Ob.box (aD.c aB)]⟩)(hm1:aB.args.length<=maxLen):∀(rest:aG) (i1:Nat),aB.args.drop i1=rest->om aB k1 rest i1=some r->Ar Γ N f84 (.q [[none]] (D.bool r)) [1,0,1,0] (rest.length+1) (Ji aB (i1:Int)):=by
 intro rest
 induction rest with
 |nil=>
  intro i1 b8 h;rw[om]at h;refine aU fun N1 cc cL=>?_
  exact((aW.ge tx b8).a [.hl 0 [1] [0]]).ex hΓ cc (eF h)
 |cons bU cO ih1=>
  intro i1 b8 h;rw[om]at h;refine aU fun N1 cc cL=>?_
  obtain⟨Kr,h22,h⟩:=aC h;have gr:=(((aW.lt tx b8).l (bO tx 1 (dc b8) rfl)).g (er h22))
  obtain⟨h23,h⟩|⟨h23,h⟩:=aO h
  ·have h:=aN h;subst h;exact(gr.b h23).ret hΓ
  ·exact((gr.b h23).a [.cn [1,3] [0]]).ct hΓ cL (iS b8 hm1) (ih1 (i1+1) (dn b8) h)
theorem H7{aB:aD}{r:Bool}(h:qT aB=some r):Good prog 84 [D.agg (aD.c aB)] (D.bool r):=by
 refine gd func84 [[none]] 27 fun hr Γ hΓ=>?_
 rw[qT]at h;refine(aW.a [.cn [1,3] [0]]).lp hΓ (IM hΓ (fun h=>?_) (by have:=(ij.sl (ij.agg (hr _ (aE (i:=0) rfl)) (.sl (aB.args.map tx)) (by simp))).1;simpa using this) aB.args 0 rfl h);obtain⟨NP,h25,h⟩:=aC h;obtain⟨h26,h⟩|⟨h26,h⟩:=aO h
 ·cases h;exact((aW.g (mi h25)).r 5 h26).ret hΓ
 ·have h:=aN h;subst h;exact((aW.g (mi h25)).r 5 h26).ret hΓ
def jN(aB:aM)(k1:Option Bool):aM->Nat->Option Bool
 | [],i1=>(k1)
 |bU::cO,i1=>((gi bU.var).bind fun KM=>(bif !(KM)then(some false)else((fW bU.value).bind fun y52=>(bif !(y52)then(some false)else(bif decide (((i1:Int):Int)>0)then((hO aB (IntKind.i64.wrap ((i1:Int)-1))).bind fun x56=>(bif !(Op.bytesLess x56.var bU.var)then(some false)else(jN aB k1 cO (i1+1))))else(jN aB k1 cO (i1+1)))))))
def kL(aB:aM):Option Bool:=(jN aB (some (decide ((((aB.map aR.c).length:Int):Int)<=6))) aB 0)
def Fp(aB:aM)(dQ:Int):St:=⟨[(0,D.sl (aB.map aR.c)),(3,D.int .i64 dQ)],[]⟩
theorem EF(hΓ:Γ.nt=47){aB:aM}{r:Bool}{k1:Option Bool}(eF:k1=some r->Ax Γ N f202 (.q [[none]] (D.bool r)) [1,1] ⟨[(0,D.sl (aB.map aR.c))],[]⟩)(hm1:aB.length<=maxLen):∀(rest:aM) (i1:Nat),aB.drop i1=rest->jN aB k1 rest i1=some r->Ar Γ N f202 (.q [[none]] (D.bool r)) [1,0,1,0] (rest.length+1) (Fp aB (i1:Int)):=by
 intro rest
 induction rest with
 |nil=>
  intro i1 b8 h;rw[jN]at h;refine aU fun N1 cc cL=>?_
  exact((aW.ge aR.c b8).a [.hl 0 [0] []]).ex hΓ cc (eF h)
 |cons bU cO ih1=>
  intro i1 b8 h;rw[jN]at h;refine aU fun N1 cc cL=>?_
  obtain⟨KM,h50,h⟩:=aC h;have tN:=((((aW.lt aR.c b8).a [.n 31]).l (bO aR.c 2 (dc b8) rfl)).g (fN h50))
  obtain⟨h51,h⟩|⟨h51,h⟩:=aO h
  ·have h:=aN h;subst h;exact((((tN.r 8 h51).T 3).a [bF,bF,bF,bF,bF,bF,bF,bF,bF,bF,bF,bF]).T 3).ret hΓ
  ·obtain⟨y52,h53,h⟩:=aC h;have xp:=(((((tN.r 3 h51).l (bO aR.c 2 (dc b8) rfl)).r 3 h51).g (er h53)).r 2 h51)
   obtain⟨h54,h⟩|⟨h54,h⟩:=aO h
   ·have h:=aN h;subst h;exact((((xp.r 3 h54).a [bF,bF,bF,bF,bF,bF,bF,bF,bF,bF,bF,bF]).r 2 h54).T 1).ret hΓ
   ·have B0:=(xp.r 3 h54)
    obtain⟨h55,h⟩|⟨h55,h⟩:=aO h
    ·obtain⟨x56,h57,h⟩:=aC h;have GU:=((((((((B0.r 4 h55).l (gq aR.c 2 h57 rfl)).r 5 h55).l (bO aR.c 2 (dc b8) rfl)).r 3 h55).b h54).b h55).b h54)
     obtain⟨h58,h⟩|⟨h58,h⟩:=aO h
     ·have h:=aN h;subst h;exact(GU.b h58).ret hΓ
     ·exact((GU.b h58).a [.cn [0,3] []]).ct hΓ cL (iS b8 hm1) (ih1 (i1+1) (dn b8) h)
    ·exact((((((B0.r 12 h55).b h54).b h55).b h54).F 1).a [.cn [0,3] []]).ct hΓ cL (iS b8 hm1) (ih1 (i1+1) (dn b8) h)
theorem mR{aB:aM}{r:Bool}(h:kL aB=some r):Good prog 202 [D.sl (aB.map aR.c)] (D.bool r):=by
 refine gd func202 [[none]] 47 fun hr Γ hΓ=>?_
 rw[kL]at h;refine(aW.a [.cn [0,3] []]).lp hΓ (EF hΓ (fun h=>?_) (by have:=(ij.sl (hr _ (aE (i:=0) rfl))).1;simpa using this) aB 0 rfl h);cases h;exact aW.ret hΓ
def qX(aB:aM):Option aM:=(bif room (([]:List aP).length+(aB.map aR.c).length) 32 then(some (([]:aM)++aB))else none)
theorem vP{aB:aM}{r:aM}(h:qX aB=some r):Good prog 203 [D.sl (aB.map aR.c)] (D.fr 137 2 (r.map aR.c)):=by
 refine gd func203 [[some (137,2)]] 6 fun hr Γ hΓ=>?_
 rw[qX]at h;obtain⟨h1,h⟩:=bX h;cases h;exact(((aW.w (bq h1)).w (show(∀r∈(aB.map aR.c),r.length=2)/\(true=true->D.p9 (aB.map aR.c)=true)from⟨by first|simp| (intro r hr;obtain⟨x,_,rfl⟩:=bu.1 (cI (iJ hr));rfl),by simp[D.p9,D.flat]⟩)).a [.JV 2,.fl true]).rts hΓ (D.fr 137 2 (([]:List aP)++(aB.map aR.c))) (by first|rfl| (simp only[mA]<;>rfl)| (simp only[cS,mA]<;>rfl))
def iF(aB:aM)(aY:Bytes)(k1:Option (Bytes×Bool)):aM->Nat->Option (Bytes×Bool)
 | [],i1=>(k1)
 |bU::cO,i1=>(bif (bU.var:Bytes)==aY then((gi aY).bind fun F1=>(bif F1 then(some (bU.value,true))else(iF aB aY k1 cO (i1+1))))else(iF aB aY k1 cO (i1+1)))
def nJ(aB:aM)(aY:Bytes):Option (Bytes×Bool):=((fW aY).bind fun y1=>(bif y1 then(some (aY,true))else(iF aB aY (some ([],false)) aB 0)))
def IV(aB:aM)(aY:Bytes)(dQ:Int):St:=⟨[(0,D.sl (aB.map aR.c)),(1,D.str aY),(6,D.int .i64 dQ)],[]⟩
theorem HE(hΓ:Γ.nt=32){aB:aM}{aY:Bytes}{r:Bytes×Bool}{k1:Option (Bytes×Bool)}(eF:k1=some r->Ax Γ N f130 (.q [[none],[none]] (D.iE [D.str r.1,D.bool r.2])) [1,1,1] ⟨[],[]⟩)(hm1:aB.length<=maxLen):∀(rest:aM) (i1:Nat),aB.drop i1=rest->iF aB aY k1 rest i1=some r->Ar Γ N f130 (.q [[none],[none]] (D.iE [D.str r.1,D.bool r.2])) [1,1,0,1,0] (rest.length+1) (IV aB aY (i1:Int)):=by
 intro rest
 induction rest with
 |nil=>
  intro i1 b8 h;rw[iF]at h;refine aU fun N1 cc cL=>?_
  exact((aW.ge aR.c b8).a [.hl 0 [] []]).ex hΓ cc (eF h)
 |cons bU cO ih1=>
  intro i1 b8 h;rw[iF]at h;refine aU fun N1 cc cL=>?_
  have kp:=((aW.lt aR.c b8).l (bO aR.c 2 (dc b8) rfl))
  obtain⟨h28,h⟩|⟨h28,h⟩:=aO h
  ·obtain⟨F1,h30,h⟩:=aC h;have ko:=(((kp.r 2 h28).g (fN h30)).b h28)
   obtain⟨h31,h⟩|⟨h31,h⟩:=aO h
   ·cases h;exact((ko.b h31).l (bO aR.c 2 (dc b8) rfl)).ret hΓ
   ·exact((ko.b h31).a [.cn [0,1,6] []]).ct hΓ cL (iS b8 hm1) (ih1 (i1+1) (dn b8) h)
  ·exact(((kp.r 3 h28).F 1).a [.cn [0,1,6] []]).ct hΓ cL (iS b8 hm1) (ih1 (i1+1) (dn b8) h)
theorem uf{aB:aM}{aY:Bytes}{r:Bytes×Bool}(h:nJ aB aY=some r):Good prog 130 [D.sl (aB.map aR.c),D.str aY] (D.iE [D.str r.1,D.bool r.2]):=by
 refine gd func130 [[none],[none]] 32 fun hr Γ hΓ=>?_
 rw[nJ]at h;obtain⟨y1,h2,h⟩:=aC h;obtain⟨h3,h⟩|⟨h3,h⟩:=aO h
 ·cases h;exact((aW.g (er h2)).b h3).ret hΓ
 ·refine(((aW.g (er h2)).b h3).a [.cn [0,1,6] []]).lp hΓ (HE hΓ (fun h=>?_) (by have:=(ij.sl (hr _ (aE (i:=0) rfl))).1;simpa using this) aB 0 rfl h);cases h;exact aW.ret hΓ
def mG(aB:aM)(aY:Bytes)(cT:Bytes)(k1:Bool->aM->Option aM):aM->Nat->Bool->aM->Option aM
 | [],i1,Ey,bP=>(k1 Ey bP)
 |bU::cO,i1,Ey,bP=>(bif !(Ey)then(bif !(Op.bytesLess bU.var aY||(bU.var:Bytes)==aY)then(bif room ((bP.map aR.c).length+([[D.str aY,D.str cT]]).length) 32 then(bif room (((bP.map aR.c)++([[D.str aY,D.str cT]])).length+([[D.str bU.var,D.str bU.value]]).length) 32 then(mG aB aY cT k1 cO (i1+1) true ((bP++([(⟨aY,cT⟩:aR)]))++([bU])))else none)else none)else(bif room ((bP.map aR.c).length+([[D.str bU.var,D.str bU.value]]).length) 32 then(mG aB aY cT k1 cO (i1+1) Ey (bP++([bU])))else none))else(bif room ((bP.map aR.c).length+([[D.str bU.var,D.str bU.value]]).length) 32 then(mG aB aY cT k1 cO (i1+1) Ey (bP++([bU])))else none))
def uJ(aB:aM)(aY:Bytes)(cT:Bytes):Option aM:=(mG aB aY cT (fun(Yv:Bool) (cB:aM)=>(bif !(Yv)then(bif room ((cB.map aR.c).length+([[D.str aY,D.str cT]]).length) 32 then(some (cB++([(⟨aY,cT⟩:aR)])))else none)else(some cB))) aB 0 false ([]:aM))
def vF(aB:aM)(aY:Bytes)(cT:Bytes)(Ey:Bool)(W1:List aP)(dQ:Int):St:=⟨[(0,D.sl (aB.map aR.c)),(1,D.str aY),(2,D.str cT),(7,D.acc 0),(8,D.bool Ey),(9,D.int .i64 dQ)],[Ob.row .uq 137 2 W1]⟩
theorem Ju(hΓ:Γ.nt=50){aB:aM}{aY:Bytes}{cT:Bytes}{r:aM}{k1:Bool->aM->Option aM}(eF:∀(Yv:Bool) (cB:aM),k1 Yv cB=some r->Ax Γ N f131 (.q [[some (137,2)]] (D.fr 137 2 (r.map aR.c))) [1,1,1,1] ⟨[(1,D.str aY),(2,D.str cT),(7,D.acc 0),(8,D.bool Yv)],[Ob.row .uq 137 2 (cB.map aR.c)]⟩)(hm1:aB.length<=maxLen):∀(rest:aM) (i1:Nat) (Ey:Bool) (bP:aM),aB.drop i1=rest->mG aB aY cT k1 rest i1 Ey bP=some r->Ar Γ N f131 (.q [[some (137,2)]] (D.fr 137 2 (r.map aR.c))) [1,1,1,0,1,0] (rest.length+1) (vF aB aY cT Ey (bP.map aR.c) (i1:Int)):=by
 intro rest
 induction rest with
 |nil=>
  intro i1 Ey bP b8 h;rw[mG]at h;refine aU fun N1 cc cL=>?_
  exact((aW.ge aR.c b8).a [.hl 0 [1,2,7,8] [0]]).ex hΓ cc (eF Ey bP h)
 |cons bU cO ih1=>
  intro i1 Ey bP b8 h;rw[mG]at h;refine aU fun N1 cc cL=>?_
  obtain⟨h48,h⟩|⟨h48,h⟩:=aO h
  ·have gr:=((((aW.lt aR.c b8).r 3 h48).l (bO aR.c 2 (dc b8) rfl)).r 5 h48)
   obtain⟨h49,h⟩|⟨h49,h⟩:=aO h
   ·obtain⟨h50,h⟩:=bX h;obtain⟨h51,h⟩:=bX h;exact(((((gr.b h49).w (bq h50)).l (bO aR.c 2 (dc b8) rfl)).w (bq h51)).a [.cn [0,1,2,7,8,9] [4]]).cs hΓ cL (vF aB aY cT true (((bP.map aR.c)++([[D.str aY,D.str cT]]))++([[D.str bU.var,D.str bU.value]])) (IntKind.i64.wrap ((i1:Int)+1))) (by first| (simp only[iS b8 hm1,mA]<;>rfl)| (simp only[iS b8 hm1,mA,aD.c,aR.c,aL.c,Action.c,aK.c,aT.c,bS.c,aZ.c,Node.c,aI.c,dU.c]<;>rfl)) (ih1 (i1+1) true ((bP++([(⟨aY,cT⟩:aR)]))++([bU])) (dn b8) h)
   ·obtain⟨h52,h⟩:=bX h;exact((((gr.b h49).l (bO aR.c 2 (dc b8) rfl)).w (bq h52)).a [.cn [0,1,2,7,8,9] [2]]).cs hΓ cL (vF aB aY cT Ey ((bP.map aR.c)++([[D.str bU.var,D.str bU.value]])) (IntKind.i64.wrap ((i1:Int)+1))) (by first| (simp only[iS b8 hm1,mA]<;>rfl)| (simp only[iS b8 hm1,mA,aD.c,aR.c,aL.c,Action.c,aK.c,aT.c,bS.c,aZ.c,Node.c,aI.c,dU.c]<;>rfl)) (ih1 (i1+1) Ey (bP++([bU])) (dn b8) h)
  ·obtain⟨h53,h⟩:=bX h;exact((((((aW.lt aR.c b8).r 8 h48).F 1).l (bO aR.c 2 (dc b8) rfl)).w (bq h53)).a [.cn [0,1,2,7,8,9] [2]]).cs hΓ cL (vF aB aY cT Ey ((bP.map aR.c)++([[D.str bU.var,D.str bU.value]])) (IntKind.i64.wrap ((i1:Int)+1))) (by first| (simp only[iS b8 hm1,mA]<;>rfl)| (simp only[iS b8 hm1,mA,aD.c,aR.c,aL.c,Action.c,aK.c,aT.c,bS.c,aZ.c,Node.c,aI.c,dU.c]<;>rfl)) (ih1 (i1+1) Ey (bP++([bU])) (dn b8) h)
theorem Ic{aB:aM}{aY:Bytes}{cT:Bytes}{r:aM}(h:uJ aB aY cT=some r):Good prog 131 [D.sl (aB.map aR.c),D.str aY,D.str cT] (D.fr 137 2 (r.map aR.c)):=by
 refine gd func131 [[some (137,2)]] 50 fun hr Γ hΓ=>?_
 rw[uJ]at h;refine(aW.a [.cn [0,1,2,7,8,9] [0]]).lp hΓ (Ju hΓ (fun Yv cB h=>?_) (by have:=(ij.sl (hr _ (aE (i:=0) rfl))).1;simpa using this) aB 0 false ([]:aM) rfl h);obtain⟨h54,h⟩|⟨h54,h⟩:=aO h
 ·obtain⟨h55,h⟩:=bX h;cases h;exact((aW.b h54).w (bq h55)).rts hΓ (D.fr 137 2 ((cB.map aR.c)++([[D.str aY,D.str cT]]))) (by first|rfl| (simp only[mA]<;>rfl)| (simp only[cS,mA]<;>rfl))
 ·have h:=aN h;subst h;exact(aW.b h54).ret hΓ
def sZ(aB:aM)(aY:Bytes)(cT:Bytes):Option (aM×Bool):=((kL aB).bind fun y1=>(bif !(y1)then(some (([]:aM),false))else((gi aY).bind fun y4=>(bif !(y4)then(some (([]:aM),false))else((fW cT).bind fun y7=>(bif !(y7)then(some (([]:aM),false))else((nJ aB aY).bind fun GG=>(bif GG.2 then(bif (GG.1:Bytes)==cT then((qX aB).bind fun JM=>(some (JM,true)))else(some (([]:aM),false)))else(bif (((aB.map aR.c).length:Int):Int)==6 then(some (([]:aM),false))else((uJ aB aY cT).bind fun Hl=>(some (Hl,true))))))))))))
theorem Gz{aB:aM}{aY:Bytes}{cT:Bytes}{r:aM×Bool}(h:sZ aB aY cT=some r):Good prog 204 [D.sl (aB.map aR.c),D.str aY,D.str cT] (D.iE [D.fr 137 2 (r.1.map aR.c),D.bool r.2]):=by
 refine gd func204 [[some (137,2)],[none]] 49 fun hr Γ hΓ=>?_
 rw[sZ]at h;obtain⟨y1,h2,h⟩:=aC h;obtain⟨h3,h⟩|⟨h3,h⟩:=aO h
 ·cases h;exact(((aW.g (mR h2)).r 4 h3).T 5).ret hΓ
 ·obtain⟨y4,h5,h⟩:=aC h;have pW:=((((aW.g (mR h2)).r 2 h3).g (fN h5)).r 2 h3)
  obtain⟨h6,h⟩|⟨h6,h⟩:=aO h
  ·cases h;exact((pW.r 4 h6).T 1).ret hΓ
  ·obtain⟨y7,h8,h⟩:=aC h;have gr:=(((pW.r 2 h6).g (er h8)).r 2 h6)
   obtain⟨h9,h⟩|⟨h9,h⟩:=aO h
   ·cases h;exact(gr.b h9).ret hΓ
   ·obtain⟨GG,h11,h⟩:=aC h;have kp:=((gr.b h9).g (uf h11))
    obtain⟨h12,h⟩|⟨h12,h⟩:=aO h
    ·have ko:=(kp.r 4 h12)
     obtain⟨h13,h⟩|⟨h13,h⟩:=aO h
     ·obtain⟨JM,h15,h⟩:=aC h;cases h;exact((ko.b h13).g (vP h15)).ret hΓ
     ·cases h;exact(((ko.b h13).r 4 h12).T 1).ret hΓ
    ·have tN:=(((kp.r 4 h12).F 1).r 4 h12)
     obtain⟨h16,h⟩|⟨h16,h⟩:=aO h
     ·cases h;exact(tN.b h16).ret hΓ
     ·obtain⟨Hl,h18,h⟩:=aC h;cases h;exact((tN.b h16).g (Ic h18)).ret hΓ
def jO(aB:aD)(aY:aD)(k1:aM->Option (aM×Bool)):aG->Nat->aM->Option (aM×Bool)
 | [],i1,lQ=>(k1 lQ)
 |bU::cO,i1,lQ=>((fW bU).bind fun ZB=>(bif ZB then((hO aY.args (i1:Int)).bind fun x83=>(bif !((bU:Bytes)==x83)then(some (([]:aM),false))else(jO aB aY k1 cO (i1+1) lQ)))else((hO aY.args (i1:Int)).bind fun x86=>((sZ lQ bU x86).bind fun y88=>(bif !(y88.2)then(some (([]:aM),false))else(jO aB aY k1 cO (i1+1) y88.1))))))
def kN(aB:aD)(aY:aD)(cT:aM):Option (aM×Bool):=((gw aB).bind fun y1=>(bif !(y1)then(some (([]:aM),false))else((qT aY).bind fun y4=>(bif !(y4)then(some (([]:aM),false))else((kL cT).bind fun y7=>(bif !(y7)then(some (([]:aM),false))else(bif !((aB.rel:Bytes)==aY.rel)then(some (([]:aM),false))else(bif (((aB.args.map tx).length:Int):Int) != ((aY.args.map tx).length:Int)then(some (([]:aM),false))else((qX cT).bind fun Pe=>(jO aB aY (fun(cB:aM)=>(some (cB,true))) aB.args 0 Pe))))))))))
def Ft(aB:aD)(aY:aD)(W0:List aP)(dQ:Int):St:=⟨[(3,D.ptr 0 0),(4,D.ptr 1 0),(8,D.acc 2),(9,D.int .i64 dQ)],[Ob.box (aD.c aB),Ob.box (aD.c aY),Ob.row .uq 137 2 W0]⟩
theorem EH(hΓ:Γ.nt=89){aB:aD}{aY:aD}{r:aM×Bool}{k1:aM->Option (aM×Bool)}(eF:∀(cB:aM),k1 cB=some r->Ax Γ N f137 (.q [[some (137,2)],[none]] (D.iE [D.fr 137 2 (r.1.map aR.c),D.bool r.2])) [1,1,1,1] ⟨[(8,D.acc 0)],[Ob.row .uq 137 2 (cB.map aR.c)]⟩)(hm1:aB.args.length<=maxLen):∀(rest:aG) (i1:Nat) (lQ:aM),aB.args.drop i1=rest->jO aB aY k1 rest i1 lQ=some r->Ar Γ N f137 (.q [[some (137,2)],[none]] (D.iE [D.fr 137 2 (r.1.map aR.c),D.bool r.2])) [1,1,1,0,1,0] (rest.length+1) (Ft aB aY (lQ.map aR.c) (i1:Int)):=by
 intro rest
 induction rest with
 |nil=>
  intro i1 lQ b8 h;rw[jO]at h;refine aU fun N1 cc cL=>?_
  exact((aW.ge tx b8).a [.hl 0 [8] [2]]).ex hΓ cc (eF lQ h)
 |cons bU cO ih1=>
  intro i1 lQ b8 h;rw[jO]at h;refine aU fun N1 cc cL=>?_
  obtain⟨ZB,h81,h⟩:=aC h;have ko:=(((aW.lt tx b8).l (bO tx 1 (dc b8) rfl)).g (er h81))
  obtain⟨h82,h⟩|⟨h82,h⟩:=aO h
  ·obtain⟨x83,h84,h⟩:=aC h;have tN:=((((ko.b h82).a [.n 10]).l (bO tx 1 (dc b8) rfl)).l (gq tx 1 h84 rfl))
   obtain⟨h85,h⟩|⟨h85,h⟩:=aO h
   ·cases h;exact(tN.b h85).ret hΓ
   ·exact((tN.b h85).a [.cn [3,4,8,9] [0,1,2]]).ct hΓ cL (iS b8 hm1) (ih1 (i1+1) lQ (dn b8) h)
  ·obtain⟨x86,h87,h⟩:=aC h;obtain⟨y88,h89,h⟩:=aC h;have xp:=(((((ko.b h82).a [.n 16]).l (bO tx 1 (dc b8) rfl)).l (gq tx 1 h87 rfl)).g (Gz h89))
   obtain⟨h90,h⟩|⟨h90,h⟩:=aO h
   ·cases h;exact(xp.b h90).ret hΓ
   ·exact((xp.b h90).a [.cn [3,4,8,9] [0,1,3]]).ct hΓ cL (iS b8 hm1) (ih1 (i1+1) y88.1 (dn b8) h)
theorem wo{aB:aD}{aY:aD}{cT:aM}{r:aM×Bool}(h:kN aB aY cT=some r):Good prog 137 [D.agg (aD.c aB),D.agg (aD.c aY),D.sl (cT.map aR.c)] (D.iE [D.fr 137 2 (r.1.map aR.c),D.bool r.2]):=by
 refine gd func137 [[some (137,2)],[none]] 89 fun hr Γ hΓ=>?_
 rw[kN]at h;obtain⟨y1,h2,h⟩:=aC h;obtain⟨h3,h⟩|⟨h3,h⟩:=aO h
 ·cases h;exact(((aW.g (ez h2)).r 4 h3).T 19).ret hΓ
 ·obtain⟨y4,h5,h⟩:=aC h;have B0:=((((aW.g (ez h2)).r 2 h3).g (H7 h5)).r 2 h3)
  obtain⟨h6,h⟩|⟨h6,h⟩:=aO h
  ·cases h;exact((B0.r 4 h6).T 15).ret hΓ
  ·obtain⟨y7,h8,h⟩:=aC h;have GU:=(((B0.r 2 h6).g (mR h8)).r 2 h6)
   obtain⟨h9,h⟩|⟨h9,h⟩:=aO h
   ·cases h;exact((GU.r 6 h9).T 9).ret hΓ
   ·have MV:=(GU.r 6 h9)
    obtain⟨h10,h⟩|⟨h10,h⟩:=aO h
    ·cases h;exact((MV.r 8 h10).T 1).ret hΓ
    ·have Em:=(MV.r 8 h10)
     obtain⟨h11,h⟩|⟨h11,h⟩:=aO h
     ·cases h;exact(Em.b h11).ret hΓ
     ·obtain⟨Pe,h13,h⟩:=aC h;refine(((Em.b h11).g (vP h13)).a [.cn [3,4,8,9] [0,1,2]]).lp hΓ (EH hΓ (fun cB h=>?_) (by have:=(ij.sl (ij.agg (hr _ (aE (i:=0) rfl)) (.sl (aB.args.map tx)) (by simp))).1;simpa using this) aB.args 0 Pe rfl h);cases h;exact aW.ret hΓ
def gH(aB:aD)(aY:aM)(cT:aJ)(k1:aJ->Option aJ):aJ->Nat->aJ->Option aJ
 | [],i1,bV=>(k1 bV)
 |bU::cO,i1,bV=>((kN aB bU aY).bind fun VG=>(bif VG.2 then((eU bU).bind fun F3=>(bif room ((bV.map aD.c).length+([[D.str F3.rel,D.sl (F3.args.map tx)]]).length) 40 then(gH aB aY cT k1 cO (i1+1) (bV++([F3])))else none))else(gH aB aY cT k1 cO (i1+1) bV)))
def gU(aB:aD)(aY:aM)(cT:aJ):Option aJ:=(gH aB aY cT (fun(cB:aJ)=>(some cB)) cT 0 ([]:aJ))
def vg(aB:aD)(aY:aM)(cT:aJ)(W0:List aP)(dQ:Int):St:=⟨[(1,D.sl (aY.map aR.c)),(2,D.sl (cT.map aD.c)),(3,D.ptr 0 0),(7,D.acc 1),(8,D.int .i64 dQ)],[Ob.box (aD.c aB),Ob.row .uq 37 2 W0]⟩
theorem Ao(hΓ:Γ.nt=38){aB:aD}{aY:aM}{cT:aJ}{r:aJ}{k1:aJ->Option aJ}(eF:∀(cB:aJ),k1 cB=some r->Ax Γ N f76 (.q [[some (37,2)]] (D.fr 37 2 (r.map aD.c))) [1,1,1] ⟨[(7,D.acc 0)],[Ob.row .uq 37 2 (cB.map aD.c)]⟩)(hm1:cT.length<=maxLen):∀(rest:aJ) (i1:Nat) (bV:aJ),cT.drop i1=rest->gH aB aY cT k1 rest i1 bV=some r->Ar Γ N f76 (.q [[some (37,2)]] (D.fr 37 2 (r.map aD.c))) [1,1,0,1,0] (rest.length+1) (vg aB aY cT (bV.map aD.c) (i1:Int)):=by
 intro rest
 induction rest with
 |nil=>
  intro i1 bV b8 h;rw[gH]at h;refine aU fun N1 cc cL=>?_
  exact((aW.ge aD.c b8).a [.hl 0 [7] [1]]).ex hΓ cc (eF bV h)
 |cons bU cO ih1=>
  intro i1 bV b8 h;rw[gH]at h;refine aU fun N1 cc cL=>?_
  obtain⟨VG,h43,h⟩:=aC h;have gr:=((((aW.lt aD.c b8).a [.n 11]).l (bO aD.c 2 (dc b8) rfl)).g (wo h43))
  obtain⟨h44,h⟩|⟨h44,h⟩:=aO h
  ·obtain⟨F3,h46,h⟩:=aC h;obtain⟨h47,h⟩:=bX h;exact(((((gr.b h44).l (bO aD.c 2 (dc b8) rfl)).g (gl h46)).w (bq h47)).a [.cn [1,2,3,7,8] [0,5]]).cs hΓ cL (vg aB aY cT ((bV.map aD.c)++([[D.str F3.rel,D.sl (F3.args.map tx)]])) (IntKind.i64.wrap ((i1:Int)+1))) (by first| (simp only[iS b8 hm1,mA]<;>rfl)| (simp only[iS b8 hm1,mA,aD.c,aR.c,aL.c,Action.c,aK.c,aT.c,bS.c,aZ.c,Node.c,aI.c,dU.c]<;>rfl)) (ih1 (i1+1) (bV++([F3])) (dn b8) h)
  ·exact((gr.b h44).a [.cn [1,2,3,7,8] [0,1]]).ct hΓ cL (iS b8 hm1) (ih1 (i1+1) bV (dn b8) h)
theorem mN{aB:aD}{aY:aM}{cT:aJ}{r:aJ}(h:gU aB aY cT=some r):Good prog 76 [D.agg (aD.c aB),D.sl (aY.map aR.c),D.sl (cT.map aD.c)] (D.fr 37 2 (r.map aD.c)):=by
 refine gd func76 [[some (37,2)]] 38 fun hr Γ hΓ=>?_
 rw[gU]at h;refine(aW.a [.cn [1,2,3,7,8] [0,1]]).lp hΓ (Ao hΓ (fun cB h=>?_) (by have:=(ij.sl (hr _ (aE (i:=2) rfl))).1;simpa using this) cT 0 ([]:aJ) rfl h);have h:=aN h;subst h;exact aW.ret hΓ
def jC(aB:aI)(k1:ah->Option ah):Nat->Int->ah->Option ah
 |0,_,_=>none
 |n1+1,w5,bV=>((kU w5 1 (IntKind.i64.wrap (((aB.nodes.map Node.c).length:Int)-1))).bind fun AE=>(bif AE then((hO aB.nodes w5).bind fun x31=>((je x31.cond).bind fun ua=>(bif room (([[D.int .i64 ua.kind,D.str ua.pat.rel,D.sl (ua.pat.args.map tx),D.str ua.left,D.str ua.right]]).length+(bV.map aL.c).length) 80 then(bif decide ((x31.parent:Int)>=w5)then(k1 (([ua])++bV))else(jC aB k1 n1 x31.parent (([ua])++bV)))else none)))else(k1 bV)))
def si(aB:aI)(aY:Int):Option ah:=(jC aB (fun(cB:ah)=>(some cB)) fuel aY ([]:ah))
def BV(aB:aI)(w5:Int)(W1:List aP):St:=⟨[(1,D.int .i64 w5),(2,D.ptr 0 0),(5,D.acc 1)],[Ob.box (aI.c aB),Ob.row .uq 47 5 W1]⟩
theorem IT(hΓ:Γ.nt=35){aB:aI}{r:ah}{k1:ah->Option ah}(eF:∀(cB:ah),k1 cB=some r->Ax Γ N f79 (.q [[some (47,5)]] (D.fr 47 5 (r.map aL.c))) [1,1,1] ⟨[(5,D.acc 0)],[Ob.row .uq 47 5 (cB.map aL.c)]⟩):∀(n1:Nat) (w5:Int) (bV:ah),jC aB k1 n1 w5 bV=some r->Ar Γ N f79 (.q [[some (47,5)]] (D.fr 47 5 (r.map aL.c))) [1,1,0,0] n1 (BV aB w5 (bV.map aL.c)):=by
 intro n
 induction n with
 |zero=>intro w5 bV h;simp[jC]at h
 |succ n1 ih1=>
  intro w5 bV h;rw[jC]at h;refine aU fun N1 cc cL=>?_
  obtain⟨AE,h29,h⟩:=aC h;obtain⟨h30,h⟩|⟨h30,h⟩:=aO h
  ·obtain⟨x31,h32,h⟩:=aC h;obtain⟨ua,h34,h⟩:=aC h;obtain⟨h35,h⟩:=bX h;have gr:=((((((aW.g (gJ h29)).b h30).l (gq Node.c 8 h32 rfl)).g (s6 h34)).w (bq h35)).l (gq Node.c 8 h32 rfl))
   obtain⟨h36,h⟩|⟨h36,h⟩:=aO h
   ·exact((gr.b h36).a [.hl 0 [5] [4]]).exs hΓ cc ⟨[(5,D.acc 0)],[Ob.row .uq 47 5 (([[D.int .i64 ua.kind,D.str ua.pat.rel,D.sl (ua.pat.args.map tx),D.str ua.left,D.str ua.right]])++(bV.map aL.c))]⟩ (by first| (simp only[mA]<;>rfl)| (simp only[mA,aD.c,aR.c,aL.c,Action.c,aK.c,aT.c,bS.c,aZ.c,Node.c,aI.c,dU.c]<;>rfl)) (eF (([ua])++bV) h)
   ·exact((gr.b h36).a [.cn [1,2,5] [0,4]]).cs hΓ cL (BV aB x31.parent (([[D.int .i64 ua.kind,D.str ua.pat.rel,D.sl (ua.pat.args.map tx),D.str ua.left,D.str ua.right]])++(bV.map aL.c))) (by first| (simp only[mA]<;>rfl)| (simp only[mA,aD.c,aR.c,aL.c,Action.c,aK.c,aT.c,bS.c,aZ.c,Node.c,aI.c,dU.c]<;>rfl)) (ih1 x31.parent (([ua])++bV) h)
  ·exact(((aW.g (gJ h29)).b h30).a [.hl 0 [5] [1]]).ex hΓ cc (eF bV h)
theorem vN{aB:aI}{aY:Int}{r:ah}(h:si aB aY=some r):Good prog 79 [D.agg (aI.c aB),D.int .i64 aY] (D.fr 47 5 (r.map aL.c)):=by
 refine gd func79 [[some (47,5)]] 35 fun hr Γ hΓ=>?_
 rw[si]at h;refine(aW.a [.cn [1,2,5] [0,1]]).lp hΓ (IT hΓ (fun cB h=>?_) fuel aY ([]:ah) h);have h:=aN h;subst h;exact aW.ret hΓ
def sO(aB:Bytes):Option Bool:=((mE aB).bind fun y1=>(some y1.2))
theorem xe{aB:Bytes}{r:Bool}(h:sO aB=some r):Good prog 254 [D.str aB] (D.bool r):=by
 refine gd func254 [[none]] 11 fun hr Γ hΓ=>?_
 rw[sO]at h;obtain⟨y1,h2,h⟩:=aC h;cases h;exact(aW.g (qC h2)).ret hΓ
def rF(aB:aL)(aY:aM):Option Bool:=((qV aB).bind fun y1=>(bif !(y1)then(some false)else((kL aY).bind fun y4=>(bif !(y4)then(some false)else((nJ aY aB.left).bind fun y7=>((nJ aY aB.right).bind fun y9=>(bif !(y7.2)then(some false)else(bif !(y9.2)then(some false)else(bif (aB.kind:Int)==3 then(some ((y7.1:Bytes)==y9.1))else(bif (aB.kind:Int)==4 then(some (!((y7.1:Bytes)==y9.1)))else((sO y7.1).bind fun y15=>(bif y15 then((sO y9.1).bind fun U7=>(bif U7 then((jL y7.1 y9.1).bind fun Kr=>(some (decide ((Kr:Int)<0))))else(some false)))else(some false)))))))))))))
theorem DG{aB:aL}{aY:aM}{r:Bool}(h:rF aB aY=some r):Good prog 236 [D.agg (aL.c aB),D.sl (aY.map aR.c)] (D.bool r):=by
 refine gd func236 [[none]] 61 fun hr Γ hΓ=>?_
 rw[rF]at h;obtain⟨y1,h2,h⟩:=aC h;obtain⟨h3,h⟩|⟨h3,h⟩:=aO h
 ·have h:=aN h;subst h;exact(((aW.g (rq h2)).r 4 h3).T 1).ret hΓ
 ·obtain⟨y4,h5,h⟩:=aC h;have pW:=((((aW.g (rq h2)).r 2 h3).g (mR h5)).r 2 h3)
  obtain⟨h6,h⟩|⟨h6,h⟩:=aO h
  ·have h:=aN h;subst h;exact(pW.b h6).ret hΓ
  ·obtain⟨y7,h8,h⟩:=aC h;obtain⟨y9,h10,h⟩:=aC h;have gr:=(((pW.b h6).g (uf h8)).g (uf h10))
   obtain⟨h11,h⟩|⟨h11,h⟩:=aO h
   ·have h:=aN h;subst h;exact((gr.r 3 h11).T 1).ret hΓ
   ·have kp:=(gr.r 3 h11)
    obtain⟨h12,h⟩|⟨h12,h⟩:=aO h
    ·have h:=aN h;subst h;exact(kp.b h12).ret hΓ
    ·obtain⟨h13,h⟩|⟨h13,h⟩:=aO h
     ·cases h;exact((kp.b h12).b h13).ret hΓ
     ·have ko:=((kp.b h12).b h13)
      obtain⟨h14,h⟩|⟨h14,h⟩:=aO h
      ·cases h;exact(ko.b h14).ret hΓ
      ·obtain⟨y15,h16,h⟩:=aC h;have tN:=((ko.b h14).g (xe h16))
       obtain⟨h17,h⟩|⟨h17,h⟩:=aO h
       ·obtain⟨U7,h19,h⟩:=aC h;have xp:=(((tN.r 2 h17).g (xe h19)).b h17)
        obtain⟨h20,h⟩|⟨h20,h⟩:=aO h
        ·obtain⟨Kr,h22,h⟩:=aC h;cases h;exact(((xp.r 3 h20).g (ux h22)).r 2 h20).ret hΓ
        ·have h:=aN h;subst h;exact(xp.r 5 h20).ret hΓ
       ·have h:=aN h;subst h;exact((tN.r 3 h17).F 5).ret hΓ
def rE(aB:aL)(aY:aM)(cT:aJ):Option Bool:=((oR aB).bind fun y1=>(bif !(y1)then(some false)else((kL aY).bind fun y4=>(bif !(y4)then(some false)else(bif (aB.kind:Int)==1 then((gU aB.pat aY cT).bind fun y8=>(some (decide ((((y8.map aD.c).length:Int):Int)>0))))else(bif (aB.kind:Int)==2 then((gU aB.pat aY cT).bind fun Mp=>(some ((((Mp.map aD.c).length:Int):Int)==0)))else((rF aB aY).bind fun vH=>(some vH))))))))
theorem DF{aB:aL}{aY:aM}{cT:aJ}{r:Bool}(h:rE aB aY cT=some r):Good prog 205 [D.agg (aL.c aB),D.sl (aY.map aR.c),D.sl (cT.map aD.c)] (D.bool r):=by
 refine gd func205 [[none]] 38 fun hr Γ hΓ=>?_
 rw[rE]at h;obtain⟨y1,h2,h⟩:=aC h;obtain⟨h3,h⟩|⟨h3,h⟩:=aO h
 ·have h:=aN h;subst h;exact(((aW.g (iT h2)).r 4 h3).T 1).ret hΓ
 ·obtain⟨y4,h5,h⟩:=aC h;have pW:=((((aW.g (iT h2)).r 2 h3).g (mR h5)).r 2 h3)
  obtain⟨h6,h⟩|⟨h6,h⟩:=aO h
  ·have h:=aN h;subst h;exact(pW.b h6).ret hΓ
  ·obtain⟨h7,h⟩|⟨h7,h⟩:=aO h
   ·obtain⟨y8,h9,h⟩:=aC h;cases h;exact(((pW.b h6).b h7).g (mN h9)).ret hΓ
   ·have gr:=((pW.b h6).b h7)
    obtain⟨h10,h⟩|⟨h10,h⟩:=aO h
    ·obtain⟨Mp,h12,h⟩:=aC h;cases h;exact((gr.b h10).g (mN h12)).ret hΓ
    ·obtain⟨vH,h14,h⟩:=aC h;have h:=aN h;subst h;exact((gr.b h10).g (DG h14)).ret hΓ
def qY(aB:aT):Option aT:=((eE aB.facts).bind fun y1=>((qX aB.bind).bind fun y3=>(some (⟨y1,y3⟩:aT))))
theorem HO{aB:aT}{r:aT}(h:qY aB=some r):Good prog 206 [D.agg (aT.c aB)] (D.agg [D.fr 37 2 (r.facts.map aD.c),D.fr 137 2 (r.bind.map aR.c)]):=by
 refine gd func206 [[some (37,2),some (137,2)]] 10 fun hr Γ hΓ=>?_
 rw[qY]at h;obtain⟨y1,h2,h⟩:=aC h;obtain⟨y3,h4,h⟩:=aC h;cases h;exact(((aW.a [.n 5]).g (th h2)).g (vP h4)).ret hΓ
def n8(aB:ar)(aY:aL)(cT:aJ)(i1:Nat)(bU:aT)(k2:ar->Option ar):aJ->Nat->ar->Option ar
 | [],i2,fF=>(k2 fF)
 |jg::tR,i2,fF=>((kN aY.pat jg bU.bind).bind fun VH=>(bif VH.2 then((eE bU.facts).bind fun VI=>((eU jg).bind fun Pb=>(bif room ((VI.map aD.c).length+([[D.str Pb.rel,D.sl (Pb.args.map tx)]]).length) 40 then(bif room ((fF.map aT.c).length+([[D.sl ((VI.map aD.c)++([[D.str Pb.rel,D.sl (Pb.args.map tx)]])),D.sl (VH.1.map aR.c)]]).length) 48 then(n8 aB aY cT i1 bU k2 tR (i2+1) (fF++([(⟨VI++([Pb]),VH.1⟩:aT)])))else none)else none)))else(n8 aB aY cT i1 bU k2 tR (i2+1) fF)))
def gy(aB:ar)(aY:aL)(cT:aJ)(k1:ar->Option ar):ar->Nat->ar->Option ar
 | [],i1,bV=>(k1 bV)
 |bU::cO,i1,bV=>(bif (aY.kind:Int) != 1 then((rE aY bU.bind cT).bind fun Yt=>(bif Yt then((qY bU).bind fun Sx=>(bif room ((bV.map aT.c).length+([[D.sl (Sx.facts.map aD.c),D.sl (Sx.bind.map aR.c)]]).length) 48 then(gy aB aY cT k1 cO (i1+1) (bV++([Sx])))else none))else(gy aB aY cT k1 cO (i1+1) bV)))else(bif decide (cT.length<=maxLen)then(n8 aB aY cT i1 bU (fun(sW:ar)=>(gy aB aY cT k1 cO (i1+1) sW)) cT 0 bV)else none))
def uz(aB:ar)(aY:aL)(cT:aJ):Option ar:=(gy aB aY cT (fun(cB:ar)=>(some cB)) aB 0 ([]:ar))
def Bb(aB:ar)(aY:aL)(cT:aJ)(W0:List aP)(dQ:Int):St:=⟨[(0,D.sl (aB.map aT.c)),(2,D.sl (cT.map aD.c)),(4,D.ptr 0 0),(7,D.acc 1),(8,D.int .i64 dQ)],[Ob.box (aL.c aY),Ob.row .uq 55 2 W0]⟩
def Bc(aB:ar)(aY:aL)(cT:aJ)(i1:Nat)(W0:List aP)(dQ:Int):St:=⟨[(0,D.sl (aB.map aT.c)),(2,D.sl (cT.map aD.c)),(4,D.ptr 0 0),(7,D.acc 1),(8,D.int .i64 (i1:Int)),(9,D.int .i64 dQ)],[Ob.box (aL.c aY),Ob.row .uq 55 2 W0]⟩
theorem Ij(hΓ:Γ.nt=79){aB:ar}{aY:aL}{cT:aJ}{i1:Nat}{bU:aT}{r:ar}{k2:ar->Option ar}(B7:∀(sW:ar),k2 sW=some r->Ax Γ N f138 (.q [[some (55,2)]] (D.fr 55 2 (r.map aT.c))) [1,1,0,1,0,0,1,1] ⟨[(0,D.sl (aB.map aT.c)),(2,D.sl (cT.map aD.c)),(4,D.ptr 0 0),(7,D.acc 1),(8,D.int .i64 (i1:Int))],[Ob.box (aL.c aY),Ob.row .uq 55 2 (sW.map aT.c)]⟩)(hx1:(aB)[i1]?=some bU)(hm2:cT.length<=maxLen):∀(rest:aJ) (i2:Nat) (fF:ar),cT.drop i2=rest->n8 aB aY cT i1 bU k2 rest i2 fF=some r->Ar Γ N f138 (.q [[some (55,2)]] (D.fr 55 2 (r.map aT.c))) [1,1,0,1,0,0,1,0,0,1,1,0] (rest.length+1) (Bc aB aY cT i1 (fF.map aT.c) (i2:Int)):=by
 intro rest
 induction rest with
 |nil=>
  intro i2 fF hd2 h;rw[n8]at h;refine aU fun N2 vv tQ=>?_
  exact((aW.ge aD.c hd2).a [.hl 3 [0,2,4,7,8] [0,1]]).ex hΓ vv (B7 fF h)
 |cons jg tR ih2=>
  intro i2 fF hd2 h;rw[n8]at h;refine aU fun N2 vv tQ=>?_
  obtain⟨VH,h652,h⟩:=aC h;have J7:=(((((aW.lt aD.c hd2).a [.n 16]).l (bO aD.c 2 (dc hd2) rfl)).l (bO aT.c 2 hx1 rfl)).g (wo h652))
  obtain⟨h653,h⟩|⟨h653,h⟩:=aO h
  ·obtain⟨VI,h660,h⟩:=aC h;obtain⟨Pb,h662,h⟩:=aC h;obtain⟨h663,h⟩:=bX h;obtain⟨h664,h⟩:=bX h;exact(((((((((J7.b h653).a [.n2 [0,1,2,3,4,5,6,7,8,9,10,11,14,12,13,15,16,17,18] [0,1,2,3,4,5,6,7,8,9,10,11,13,14,12,15,16,17,18] 13 17 [0,12] [2,3,4,5,6]]).l (bO aT.c 2 hx1 rfl)).g (th h660)).l (bO aD.c 2 (dc hd2) rfl)).g (gl h662)).w (bq h663)).w (bq h664)).a [.cn [0,2,4,7,8,9] [0,8]]).cs hΓ tQ (Bc aB aY cT i1 ((fF.map aT.c)++([[D.sl ((VI.map aD.c)++([[D.str Pb.rel,D.sl (Pb.args.map tx)]])),D.sl (VH.1.map aR.c)]])) (IntKind.i64.wrap ((i2:Int)+1))) (by first| (simp only[iS hd2 hm2,mA]<;>rfl)| (simp only[iS hd2 hm2,mA,aD.c,aR.c,aL.c,Action.c,aK.c,aT.c,bS.c,aZ.c,Node.c,aI.c,dU.c]<;>rfl)) (ih2 (i2+1) (fF++([(⟨VI++([Pb]),VH.1⟩:aT)])) (dn hd2) h)
  ·exact((J7.b h653).a [.cn [0,2,4,7,8,9] [0,1]]).ct hΓ tQ (iS hd2 hm2) (ih2 (i2+1) fF (dn hd2) h)
theorem Ii(hΓ:Γ.nt=79){aB:ar}{aY:aL}{cT:aJ}{r:ar}{k1:ar->Option ar}(eF:∀(cB:ar),k1 cB=some r->Ax Γ N f138 (.q [[some (55,2)]] (D.fr 55 2 (r.map aT.c))) [1,1,1] ⟨[(7,D.acc 0)],[Ob.row .uq 55 2 (cB.map aT.c)]⟩)(hm1:aB.length<=maxLen):∀(rest:ar) (i1:Nat) (bV:ar),aB.drop i1=rest->gy aB aY cT k1 rest i1 bV=some r->Ar Γ N f138 (.q [[some (55,2)]] (D.fr 55 2 (r.map aT.c))) [1,1,0,1,0] (rest.length+1) (Bb aB aY cT (bV.map aT.c) (i1:Int)):=by
 intro rest
 induction rest with
 |nil=>
  intro i1 bV b8 h;rw[gy]at h;refine aU fun N1 cc cL=>?_
  exact((aW.ge aT.c b8).a [.hl 0 [7] [1]]).ex hΓ cc (eF bV h)
 |cons bU cO ih1=>
  intro i1 bV b8 h;rw[gy]at h;refine aU fun N1 cc cL=>?_
  obtain⟨h563,h⟩|⟨h563,h⟩:=aO h
  ·obtain⟨Yt,h565,h⟩:=aC h;have J8:=(((((aW.lt aT.c b8).b h563).a [.n 7]).l (bO aT.c 2 (dc b8) rfl)).g (DF h565))
   obtain⟨h566,h⟩|⟨h566,h⟩:=aO h
   ·obtain⟨Sx,h568,h⟩:=aC h;obtain⟨h569,h⟩:=bX h;exact(((((J8.b h566).l (bO aT.c 2 (dc b8) rfl)).g (HO h568)).w (bq h569)).a [.cn [0,2,4,7,8] [0,5]]).cs hΓ cL (Bb aB aY cT ((bV.map aT.c)++([[D.sl (Sx.facts.map aD.c),D.sl (Sx.bind.map aR.c)]])) (IntKind.i64.wrap ((i1:Int)+1))) (by first| (simp only[iS b8 hm1,mA]<;>rfl)| (simp only[iS b8 hm1,mA,aD.c,aR.c,aL.c,Action.c,aK.c,aT.c,bS.c,aZ.c,Node.c,aI.c,dU.c]<;>rfl)) (ih1 (i1+1) (bV++([Sx])) (dn b8) h)
   ·exact((J8.b h566).a [.cn [0,2,4,7,8] [0,1]]).ct hΓ cL (iS b8 hm1) (ih1 (i1+1) bV (dn b8) h)
  ·obtain⟨h665,h⟩:=bX h;refine(((aW.lt aT.c b8).b h563).a [.cn [0,2,4,7,8,9] [0,1]]).lp hΓ (Ij hΓ (fun sW h=>?_) ((drop_cons b8).1) (bY h665) cT 0 bV rfl h);exact(aW.a [.cn [0,2,4,7,8] [0,1]]).ct hΓ cL (iS b8 hm1) (ih1 (i1+1) sW (dn b8) h)
theorem HP{aB:ar}{aY:aL}{cT:aJ}{r:ar}(h:uz aB aY cT=some r):Good prog 138 [D.sl (aB.map aT.c),D.agg (aL.c aY),D.sl (cT.map aD.c)] (D.fr 55 2 (r.map aT.c)):=by
 refine gd func138 [[some (55,2)]] 79 fun hr Γ hΓ=>?_
 rw[uz]at h;refine(aW.a [.cn [0,2,4,7,8] [0,1]]).lp hΓ (Ii hΓ (fun cB h=>?_) (by have:=(ij.sl (hr _ (aE (i:=0) rfl))).1;simpa using this) aB 0 ([]:ar) rfl h);have h:=aN h;subst h;exact aW.ret hΓ
def k7(aB:ah)(aY:aJ)(k1:ar->Option ar):ah->Nat->ar->Option ar
 | [],i1,bP=>(k1 bP)
 |bU::cO,i1,bP=>((uz bP bU aY).bind fun rL=>(k7 aB aY k1 cO (i1+1) rL))
def o5(aB:ah)(aY:aJ):Option ar:=(k7 aB aY (fun(cB:ar)=>(some cB)) aB 0 ([(⟨[],[]⟩:aT)]))
def zq(aB:ah)(aY:aJ)(W0:List aP)(dQ:Int):St:=⟨[(0,D.sl (aB.map aL.c)),(1,D.sl (aY.map aD.c)),(5,D.acc 0),(6,D.int .i64 dQ)],[Ob.row .uq 55 2 W0]⟩
theorem G7(hΓ:Γ.nt=23){aB:ah}{aY:aJ}{r:ar}{k1:ar->Option ar}(eF:∀(cB:ar),k1 cB=some r->Ax Γ N f78 (.q [[some (55,2)]] (D.fr 55 2 (r.map aT.c))) [1,1,1] ⟨[(5,D.acc 0)],[Ob.row .uq 55 2 (cB.map aT.c)]⟩)(hm1:aB.length<=maxLen):∀(rest:ah) (i1:Nat) (bP:ar),aB.drop i1=rest->k7 aB aY k1 rest i1 bP=some r->Ar Γ N f78 (.q [[some (55,2)]] (D.fr 55 2 (r.map aT.c))) [1,1,0,1,0] (rest.length+1) (zq aB aY (bP.map aT.c) (i1:Int)):=by
 intro rest
 induction rest with
 |nil=>
  intro i1 bP b8 h;rw[k7]at h;refine aU fun N1 cc cL=>?_
  exact((aW.ge aL.c b8).a [.hl 0 [5] [0]]).ex hΓ cc (eF bP h)
 |cons bU cO ih1=>
  intro i1 bP b8 h;rw[k7]at h;refine aU fun N1 cc cL=>?_
  obtain⟨rL,h23,h⟩:=aC h;exact((((aW.lt aL.c b8).l (bO aL.c 5 (dc b8) rfl)).g (HP h23)).a [.cn [0,1,5,6] [1]]).ct hΓ cL (iS b8 hm1) (ih1 (i1+1) rL (dn b8) h)
theorem ET{aB:ah}{aY:aJ}{r:ar}(h:o5 aB aY=some r):Good prog 78 [D.sl (aB.map aL.c),D.sl (aY.map aD.c)] (D.fr 55 2 (r.map aT.c)):=by
 refine gd func78 [[some (55,2)]] 23 fun hr Γ hΓ=>?_
 rw[o5]at h;refine(aW.a [.cn [0,1,5,6] [0]]).lps hΓ (zq aB aY ([[D.sl ([]),D.sl ([])]]) 0) (by first| (simp only[mA]<;>rfl)| (simp only[mA,aD.c,aR.c,aL.c,Action.c,aK.c,aT.c,bS.c,aZ.c,Node.c,aI.c,dU.c]<;>rfl)) (G7 hΓ (fun cB h=>?_) (by have:=(ij.sl (hr _ (aE (i:=0) rfl))).1;simpa using this) aB 0 ([(⟨[],[]⟩:aT)]) rfl h);have h:=aN h;subst h;exact aW.ret hΓ
def kX(aB:aI)(aY:aJ)(y1:aJ)(k1:bN->Option aI):Nat->Int->bN->Option aI
 |0,_,_=>none
 |n1+1,wT,nQ=>(bif decide ((wT:Int)<((nQ.map aZ.c).length:Int))then((hO nQ wT).bind fun x26=>((gU x26.shape ([]) aY).bind fun AE=>(kX aB aY y1 k1 n1 (IntKind.i64.wrap (wT+1)) (nQ.set wT.toNat (⟨x26.shape,AE⟩:aZ)))))else(k1 nQ))
def jE(aB:aI)(aY:aJ)(y1:aJ)(nP:bN)(k2:bL->Option aI):Nat->Int->bL->Option aI
 |0,_,_=>none
 |n2+1,qJ,kq=>(bif decide ((qJ:Int)<((kq.map Node.c).length:Int))then((si (⟨aB.rules,aB.ends,nP,kq,y1,aB.cG⟩:aI) qJ).bind fun ZB=>((o5 ZB aY).bind fun y82=>((hO kq qJ).bind fun x84=>(jE aB aY y1 nP k2 n2 (IntKind.i64.wrap (qJ+1)) (kq.set qJ.toNat (⟨x84.parent,x84.cond,x84.dL,y82⟩:Node))))))else(k2 kq))
def su(aB:aI)(aY:aJ):Option aI:=((eE aY).bind fun y1=>(kX aB aY y1 (fun(nP:bN)=>(jE aB aY y1 nP (fun(ot:bL)=>(some (⟨aB.rules,aB.ends,nP,ot,y1,aB.cG⟩:aI))) fuel 0 aB.nodes)) fuel 0 aB.bE))
def Be(aB:aI)(aY:aJ)(y1:aJ)(wT:Int)(W1:List aP):St:=⟨[(1,D.acc 0),(2,D.ptr 1 0),(4,D.ptr 2 0),(5,D.int .i64 wT)],[Ob.row .uq 37 2 (aY.map aD.c),Ob.box [D.acc 3,D.acc 4,D.acc 5,D.acc 6,D.acc 7,D.int .i64 aB.cG],Ob.box [D.nil,D.nil,D.nil,D.nil,D.nil,D.int .i64 0],Ob.row .uq 80 4 (aB.rules.map aK.c),Ob.row .uq 3 1 (aB.ends.map jf),Ob.row .uq 93 3 W1,Ob.row .uq 50 8 (aB.nodes.map Node.c),Ob.row .uq 37 2 (y1.map aD.c)]⟩
theorem Im(hΓ:Γ.nt=48){aB:aI}{aY:aJ}{y1:aJ}{r:aI}{k1:bN->Option aI}(eF:∀(nP:bN),k1 nP=some r->Ax Γ N f112 (.q [[some (80,4),some (3,1),some (93,3),some (50,8),some (37,2),none]] (D.agg [D.fr 80 4 (r.rules.map aK.c),D.fr 3 1 (r.ends.map jf),D.fr 93 3 (r.bE.map aZ.c),D.fr 50 8 (r.nodes.map Node.c),D.fr 37 2 (r.facts.map aD.c),D.int .i64 r.cG])) [1,1,1] ⟨[(1,D.acc 0),(2,D.ptr 1 0),(4,D.ptr 2 0)],[Ob.row .uq 37 2 (aY.map aD.c),Ob.box [D.acc 3,D.acc 4,D.acc 5,D.acc 6,D.acc 7,D.int .i64 aB.cG],Ob.box [D.nil,D.nil,D.nil,D.nil,D.nil,D.int .i64 0],Ob.row .uq 80 4 (aB.rules.map aK.c),Ob.row .uq 3 1 (aB.ends.map jf),Ob.row .uq 93 3 (nP.map aZ.c),Ob.row .uq 50 8 (aB.nodes.map Node.c),Ob.row .uq 37 2 (y1.map aD.c)]⟩):∀(n1:Nat) (wT:Int) (nQ:bN),kX aB aY y1 k1 n1 wT nQ=some r->Ar Γ N f112 (.q [[some (80,4),some (3,1),some (93,3),some (50,8),some (37,2),none]] (D.agg [D.fr 80 4 (r.rules.map aK.c),D.fr 3 1 (r.ends.map jf),D.fr 93 3 (r.bE.map aZ.c),D.fr 50 8 (r.nodes.map Node.c),D.fr 37 2 (r.facts.map aD.c),D.int .i64 r.cG])) [1,1,0,1,0] n1 (Be aB aY y1 wT (nQ.map aZ.c)):=by
 intro n
 induction n with
 |zero=>intro wT nQ h;simp[kX]at h
 |succ n1 ih1=>
  intro wT nQ h;rw[kX]at h;refine aU fun N1 cc cL=>?_
  obtain⟨h25,h⟩|⟨h25,h⟩:=aO h
  ·obtain⟨x26,h27,h⟩:=aC h;obtain⟨AE,h29,h⟩:=aC h;exact(((((((((aW.b h25).a [.n 11]).i (iG aZ.c 3 h27)).o 3 2 .uq (cV aZ.c (fG h27))).a [.d (D.fr 37 2 (AE.map aD.c))]).w (show Good prog 76 [D.agg (aD.c x26.shape),D.sl ([]),D.sl (aY.map aD.c)] (D.fr 37 2 (AE.map aD.c))from by first| (simpa only[bG,av,bZ,bh,bn]using mN h29)|exact mN h29)).i (iG aZ.c 3 h27)).w (show(nQ.map aZ.c)[wT.toNat]?=some [D.str x26.shape.rel,D.sl (x26.shape.args.map tx),D.sl (x26.facts.map aD.c)]from cV aZ.c (fG h27))).a [.row [D.str x26.shape.rel,D.sl (x26.shape.args.map tx),D.sl (x26.facts.map aD.c)],.cn [1,2,4,5] [0,1,2,3,4,5,6,7]]).cs hΓ cL (Be aB aY y1 (IntKind.i64.wrap (wT+1)) ((nQ.map aZ.c).set wT.toNat [D.str x26.shape.rel,D.sl (x26.shape.args.map tx),D.sl (AE.map aD.c)])) (by first| (simp only[mA]<;>rfl)| (simp only[mA,aD.c,aR.c,aL.c,Action.c,aK.c,aT.c,bS.c,aZ.c,Node.c,aI.c,dU.c]<;>rfl)) (ih1 (IntKind.i64.wrap (wT+1)) (nQ.set wT.toNat (⟨x26.shape,AE⟩:aZ)) h)
  ·exact((aW.b h25).a [.hl 0 [1,2,4] [0,1,2,3,4,5,6,7]]).ex hΓ cc (eF nQ h)
def Bf(aB:aI)(aY:aJ)(y1:aJ)(nP:bN)(qJ:Int)(W1:List aP):St:=⟨[(1,D.acc 0),(2,D.ptr 1 0),(4,D.ptr 2 0),(6,D.int .i64 qJ)],[Ob.row .uq 37 2 (aY.map aD.c),Ob.box [D.acc 3,D.acc 4,D.acc 5,D.acc 6,D.acc 7,D.int .i64 aB.cG],Ob.box [D.nil,D.nil,D.nil,D.nil,D.nil,D.int .i64 0],Ob.row .uq 80 4 (aB.rules.map aK.c),Ob.row .uq 3 1 (aB.ends.map jf),Ob.row .uq 93 3 (nP.map aZ.c),Ob.row .uq 50 8 W1,Ob.row .uq 37 2 (y1.map aD.c)]⟩
theorem Io(hΓ:Γ.nt=48){aB:aI}{aY:aJ}{y1:aJ}{nP:bN}{r:aI}{k2:bL->Option aI}(B7:∀(ot:bL),k2 ot=some r->Ax Γ N f112 (.q [[some (80,4),some (3,1),some (93,3),some (50,8),some (37,2),none]] (D.agg [D.fr 80 4 (r.rules.map aK.c),D.fr 3 1 (r.ends.map jf),D.fr 93 3 (r.bE.map aZ.c),D.fr 50 8 (r.nodes.map Node.c),D.fr 37 2 (r.facts.map aD.c),D.int .i64 r.cG])) [1,1,1,1] ⟨[(2,D.ptr 0 0),(4,D.ptr 1 0)],[Ob.box [D.acc 2,D.acc 3,D.acc 4,D.acc 5,D.acc 6,D.int .i64 aB.cG],Ob.box [D.nil,D.nil,D.nil,D.nil,D.nil,D.int .i64 0],Ob.row .uq 80 4 (aB.rules.map aK.c),Ob.row .uq 3 1 (aB.ends.map jf),Ob.row .uq 93 3 (nP.map aZ.c),Ob.row .uq 50 8 (ot.map Node.c),Ob.row .uq 37 2 (y1.map aD.c)]⟩):∀(n2:Nat) (qJ:Int) (kq:bL),jE aB aY y1 nP k2 n2 qJ kq=some r->Ar Γ N f112 (.q [[some (80,4),some (3,1),some (93,3),some (50,8),some (37,2),none]] (D.agg [D.fr 80 4 (r.rules.map aK.c),D.fr 3 1 (r.ends.map jf),D.fr 93 3 (r.bE.map aZ.c),D.fr 50 8 (r.nodes.map Node.c),D.fr 37 2 (r.facts.map aD.c),D.int .i64 r.cG])) [1,1,1,0,1,0] n2 (Bf aB aY y1 nP qJ (kq.map Node.c)):=by
 intro n
 induction n with
 |zero=>intro qJ kq h;simp[jE]at h
 |succ n2 ih2=>
  intro qJ kq h;rw[jE]at h;refine aU fun N2 vv tQ=>?_
  obtain⟨h75,h⟩|⟨h75,h⟩:=aO h
  ·obtain⟨ZB,h81,h⟩:=aC h;obtain⟨y82,h83,h⟩:=aC h;obtain⟨x84,h85,h⟩:=aC h;exact(((((((aW.b h75).a [.n2 [0,1,2,3,4,5,6,7,8,9,10] [0,1,2,3,4,5,6,7,8,9,10] 7 8 [0,1,2] [],.d (D.fr 47 5 (ZB.map aL.c))]).w (show Good prog 79 [D.agg [D.sl (aB.rules.map aK.c),D.sl (aB.ends.map jf),D.sl (nP.map aZ.c),D.sl (kq.map Node.c),D.sl (y1.map aD.c),D.int .i64 aB.cG],D.int .i64 qJ] (D.fr 47 5 (ZB.map aL.c))from by first| (simpa only[bG,av,bZ,bh,bn]using vN h81)|exact vN h81| (have t:=vN h81;simp only[bG,bh,bn,aI.c]at t;exact t))).g (ET h83)).i (iG Node.c 8 h85)).w (show(kq.map Node.c)[qJ.toNat]?=some [D.int .i64 x84.parent,D.int .i64 x84.cond.kind,D.str x84.cond.pat.rel,D.sl (x84.cond.pat.args.map tx),D.str x84.cond.left,D.str x84.cond.right,D.int .i64 x84.dL,D.sl (x84.tokens.map aT.c)]from cV Node.c (fG h85))).a [.row [D.int .i64 x84.parent,D.int .i64 x84.cond.kind,D.str x84.cond.pat.rel,D.sl (x84.cond.pat.args.map tx),D.str x84.cond.left,D.str x84.cond.right,D.int .i64 x84.dL,D.sl (x84.tokens.map aT.c)],.cn [1,2,4,6] [0,1,2,3,4,5,6,7]]).cs hΓ tQ (Bf aB aY y1 nP (IntKind.i64.wrap (qJ+1)) ((kq.map Node.c).set qJ.toNat [D.int .i64 x84.parent,D.int .i64 x84.cond.kind,D.str x84.cond.pat.rel,D.sl (x84.cond.pat.args.map tx),D.str x84.cond.left,D.str x84.cond.right,D.int .i64 x84.dL,D.sl (y82.map aT.c)])) (by first| (simp only[mA]<;>rfl)| (simp only[mA,aD.c,aR.c,aL.c,Action.c,aK.c,aT.c,bS.c,aZ.c,Node.c,aI.c,dU.c]<;>rfl)) (ih2 (IntKind.i64.wrap (qJ+1)) (kq.set qJ.toNat (⟨x84.parent,x84.cond,x84.dL,y82⟩:Node)) h)
  ·exact((aW.b h75).a [.hl 0 [2,4] [1,2,3,4,5,6,7]]).ex hΓ vv (B7 kq h)
theorem HT{aB:aI}{aY:aJ}{r:aI}(h:su aB aY=some r):Hx prog 112 [D.agg [D.fr 80 4 (aB.rules.map aK.c),D.fr 3 1 (aB.ends.map jf),D.fr 93 3 (aB.bE.map aZ.c),D.fr 50 8 (aB.nodes.map Node.c),D.fr 37 2 (aB.facts.map aD.c),D.int .i64 aB.cG],D.fr 37 2 (aY.map aD.c)] (D.agg [D.fr 80 4 (r.rules.map aK.c),D.fr 3 1 (r.ends.map jf),D.fr 93 3 (r.bE.map aZ.c),D.fr 50 8 (r.nodes.map Node.c),D.fr 37 2 (r.facts.map aD.c),D.int .i64 r.cG]):=by
 refine gdF func112 [[some (80,4),some (3,1),some (93,3),some (50,8),some (37,2),none]] 48 [D.agg [D.acc 0,D.acc 1,D.acc 2,D.acc 3,D.acc 4,D.int .i64 aB.cG],D.acc 5] [Ob.row .uq 80 4 (aB.rules.map aK.c),Ob.row .uq 3 1 (aB.ends.map jf),Ob.row .uq 93 3 (aB.bE.map aZ.c),Ob.row .uq 50 8 (aB.nodes.map Node.c),Ob.row .uq 37 2 (aB.facts.map aD.c),Ob.row .uq 37 2 (aY.map aD.c)] fun hr Γ hΓ=>?_
 rw[su]at h;obtain⟨y1,h2,h⟩:=aC h;refine((aW.g (th h2)).a [.cn [1,2,4,5] [5,6,7,0,1,2,3,8]]).lp hΓ (Im hΓ (fun nP h=>?_) fuel 0 aB.bE h);refine(aW.a [.cn [1,2,4,6] [0,1,2,3,4,5,6,7]]).lp hΓ (Io hΓ (fun ot h=>?_) fuel 0 aB.nodes h);cases h;exact aW.ret hΓ
def v7(aB:cj):Option (cj×aI):=((wN aB 4).bind fun y1=>((jM y1.2).bind fun y3=>((wM y1.1 8).bind fun y7=>((su y3.1 y7.2).bind fun y9=>((di y7.1 50).bind fun Mp=>(some (Mp.1,(⟨y9.rules,y9.ends,y9.bE,y9.nodes,y9.facts,Mp.2⟩:aI))))))))
theorem HS{aB:cj}{r:cj×aI}(h:v7 aB=some r):kA prog 58 (cj.c aB) (cj.c r.1) [] (D.agg [D.fr 80 4 (r.2.rules.map aK.c),D.fr 3 1 (r.2.ends.map jf),D.fr 93 3 (r.2.bE.map aZ.c),D.fr 50 8 (r.2.nodes.map Node.c),D.fr 37 2 (r.2.facts.map aD.c),D.int .i64 r.2.cG]):=by
 refine Lx func58 [[none,none,none],[some (80,4),some (3,1),some (93,3),some (50,8),some (37,2),none]] 19 [D.sl (aB.b.map yx),D.int .i64 aB.i,D.int .i64 aB.h] [] [] fun hr kn Γ hΓ=>?_
 rw[v7]at h;obtain⟨y1,h2,h⟩:=aC h;obtain⟨y3,h4,h⟩:=aC h;obtain⟨y7,h8,h⟩:=aC h;obtain⟨y9,h10,h⟩:=aC h;obtain⟨Mp,h12,h⟩:=aC h;cases h;exact((((((aW.hp [[none,none,none],[none]] (Ih h2)).g (Am h4)).a [.n2 [0,1,2,3,4] [0,1,2,3,4] 2 3 [0] [0]]).hp [[none,none,none],[none]] (Ia h8)).hf [[some (80,4),some (3,1),some (93,3),some (50,8),some (37,2),none],[some (37,2)]] (HT h10)).hp [[none,none,none],[none]] (dV h12)).ret hΓ
def lG(aB:bJ):Option aI:=((wL aB).bind fun y1=>((v7 y1).bind fun y3=>(some y3.2)))
theorem yz{aB:bJ}{r:aI}(h:lG aB=some r):Good prog 16 [D.sl (aB.map yx)] (D.agg [D.fr 80 4 (r.rules.map aK.c),D.fr 3 1 (r.ends.map jf),D.fr 93 3 (r.bE.map aZ.c),D.fr 50 8 (r.nodes.map Node.c),D.fr 37 2 (r.facts.map aD.c),D.int .i64 r.cG]):=by
 refine gd func16 [[some (80,4),some (3,1),some (93,3),some (50,8),some (37,2),none]] 6 fun hr Γ hΓ=>?_
 rw[lG]at h;obtain⟨y1,h2,h⟩:=aC h;obtain⟨y3,h4,h⟩:=aC h;cases h;exact((aW.hn (IX h2)).hp [[none,none,none]] (HS h4)).ret hΓ
def ff(aB:aI)(fF:cX)(i2:Nat)(jg:aT)(i1:Nat)(bU:aK)(rQ:aM)(x1486:Node)(AD:aJ)(k3:aM->Option cX):aM->Nat->aM->Option cX
 | [],i3,Mo=>(k3 Mo)
 |PZ::My,i3,Mo=>((nI jg.bind PZ.value).bind fun Yq=>(bif Yq.2 then((qP Mo PZ.var Yq.1).bind fun Yr=>(ff aB fF i2 jg i1 bU rQ x1486 AD k3 My (i3+1) Yr.1))else(ff aB fF i2 jg i1 bU rQ x1486 AD k3 My (i3+1) Mo)))
def fe(aB:aI)(i1:Nat)(bU:aK)(rQ:aM)(x1486:Node)(k2:cX->Option cX):ar->Nat->cX->Option cX
 | [],i2,fF=>(k2 fF)
 |jg::tR,i2,fF=>((cK jg.facts).bind fun AD=>(bif decide (rQ.length<=maxLen)then(ff aB fF i2 jg i1 bU rQ x1486 AD (fun(Qx:aM)=>(bif room ((fF.map bS.c).length+([[D.str bU.name,D.sl (AD.map aD.c),D.sl (Qx.map aR.c)]]).length) 64 then(fe aB i1 bU rQ x1486 k2 tR (i2+1) (fF++([(⟨bU.name,AD,Qx⟩:bS)])))else none)) rQ 0 ([]:aM))else none))
def fc(aB:aI)(k1:cX->Option cX):ai->Nat->cX->Option cX
 | [],i1,bV=>(k1 bV)
 |bU::cO,i1,bV=>((nW bU).bind fun rQ=>((hO aB.ends (i1:Int)).bind fun x1484=>((hO aB.nodes x1484).bind fun x1486=>(bif decide (x1486.tokens.length<=maxLen)then(fe aB i1 bU rQ x1486 (fun(sW:cX)=>(fc aB k1 cO (i1+1) sW)) x1486.tokens 0 bV)else none))))
def rY(aB:aI):Option cX:=(fc aB (fun(cB:cX)=>(some cB)) aB.rules 0 ([]:cX))
def D4(aB:aI)(W0:List aP)(dQ:Int):St:=⟨[(1,D.ptr 0 0),(3,D.acc 1),(15,D.sl (aB.rules.map aK.c)),(16,D.int .i64 ((aB.rules.map aK.c).length:Int)),(17,D.int .i64 dQ)],[Ob.box (aI.c aB),Ob.row .uq 75 3 W0]⟩
def wg(aB:aI)(i1:Nat)(bU:aK)(rQ:aM)(x1486:Node)(W0:List aP)(dQ:Int):St:=⟨[(1,D.ptr 0 0),(3,D.acc 1),(5,D.ptr 2 0),(6,D.acc 3),(15,D.sl (aB.rules.map aK.c)),(16,D.int .i64 ((aB.rules.map aK.c).length:Int)),(17,D.int .i64 (i1:Int)),(33,D.sl (x1486.tokens.map aT.c)),(34,D.int .i64 ((x1486.tokens.map aT.c).length:Int)),(35,D.int .i64 dQ)],[Ob.box (aI.c aB),Ob.row .uq 75 3 W0,Ob.box [D.str bU.name,D.int .i64 bU.prio,D.sl (bU.conds.map aL.c),D.sl (bU.cg.map Action.c)],Ob.row .uq 137 2 (rQ.map aR.c)]⟩
def D5(aB:aI)(fF:cX)(i2:Nat)(jg:aT)(i1:Nat)(bU:aK)(rQ:aM)(x1486:Node)(AD:aJ)(W0:List aP)(dQ:Int):St:=⟨[(1,D.ptr 0 0),(3,D.acc 1),(5,D.ptr 2 0),(6,D.acc 3),(8,D.ptr 4 0),(9,D.ptr 5 0),(15,D.sl (aB.rules.map aK.c)),(16,D.int .i64 ((aB.rules.map aK.c).length:Int)),(17,D.int .i64 (i1:Int)),(33,D.sl (x1486.tokens.map aT.c)),(34,D.int .i64 ((x1486.tokens.map aT.c).length:Int)),(35,D.int .i64 (i2:Int)),(45,D.acc 3),(46,D.int .i64 ((rQ.map aR.c).length:Int)),(47,D.int .i64 dQ)],[Ob.box (aI.c aB),Ob.row .uq 75 3 (fF.map bS.c),Ob.box [D.str bU.name,D.int .i64 bU.prio,D.sl (bU.conds.map aL.c),D.sl (bU.cg.map Action.c)],Ob.row .uq 137 2 (rQ.map aR.c),Ob.box [D.sl (jg.facts.map aD.c),D.sl (jg.bind.map aR.c)],Ob.box [D.str bU.name,D.acc 6,D.acc 7],Ob.row .uq 37 2 (AD.map aD.c),Ob.row .uq 137 2 W0]⟩
theorem CE(hΓ:Γ.nt=78){aB:aI}{fF:cX}{i2:Nat}{jg:aT}{i1:Nat}{bU:aK}{rQ:aM}{x1486:Node}{AD:aJ}{r:cX}{k3:aM->Option cX}(Zm:∀(Qx:aM),k3 Qx=some r->Ax Γ N f66 (.q [[some (75,3)]] (D.fr 75 3 (r.map bS.c))) [1,1,0,1,0,0,1,1,0,0,1,1,1,0,0,1,1,0,0,1,1,1] ⟨[(1,D.ptr 0 0),(3,D.acc 1),(5,D.ptr 2 0),(6,D.acc 3),(9,D.ptr 4 0),(15,D.sl (aB.rules.map aK.c)),(16,D.int .i64 ((aB.rules.map aK.c).length:Int)),(17,D.int .i64 (i1:Int)),(33,D.sl (x1486.tokens.map aT.c)),(34,D.int .i64 ((x1486.tokens.map aT.c).length:Int)),(35,D.int .i64 (i2:Int))],[Ob.box (aI.c aB),Ob.row .uq 75 3 (fF.map bS.c),Ob.box [D.str bU.name,D.int .i64 bU.prio,D.sl (bU.conds.map aL.c),D.sl (bU.cg.map Action.c)],Ob.row .uq 137 2 (rQ.map aR.c),Ob.box [D.str bU.name,D.acc 5,D.acc 6],Ob.row .uq 37 2 (AD.map aD.c),Ob.row .uq 137 2 (Qx.map aR.c)]⟩)(RV:rQ.length<=maxLen):∀(rest:aM) (i3:Nat) (Mo:aM),rQ.drop i3=rest->ff aB fF i2 jg i1 bU rQ x1486 AD k3 rest i3 Mo=some r->Ar Γ N f66 (.q [[some (75,3)]] (D.fr 75 3 (r.map bS.c))) [1,1,0,1,0,0,1,1,0,0,1,1,1,0,0,1,1,0,0,1,1,0,1,0] (rest.length+1) (D5 aB fF i2 jg i1 bU rQ x1486 AD (Mo.map aR.c) (i3:Int)):=by
 intro rest
 induction rest with
 |nil=>
  intro i3 Mo yB h;rw[ff]at h;refine aU fun N3 TX Nn=>?_
  exact((aW.ge aR.c yB).a [.hl 9 [1,3,5,6,9,15,16,17,33,34,35] [0,1,2,3,5,6,7]]).ex hΓ TX (Zm Mo h)
 |cons PZ My ih3=>
  intro i3 Mo yB h;rw[ff]at h;refine aU fun N3 TX Nn=>?_
  obtain⟨Yq,h1769,h⟩:=aC h;have a6N:=((((aW.lt aR.c yB).i (mO aR.c 2 (dc yB))).o 2 2 .uq (cV aR.c (dc yB))).g (qf h1769))
  obtain⟨h1770,h⟩|⟨h1770,h⟩:=aO h
  ·obtain⟨Yr,h1772,h⟩:=aC h;exact(((a6N.b h1770).g (zZ h1772)).a [.cn [1,3,5,6,8,9,15,16,17,33,34,35,45,46,47] [0,1,2,3,4,5,6,9]]).ct hΓ Nn (iS yB RV) (ih3 (i3+1) Yr.1 (dn yB) h)
  ·exact((a6N.b h1770).a [.cn [1,3,5,6,8,9,15,16,17,33,34,35,45,46,47] [0,1,2,3,4,5,6,7]]).ct hΓ Nn (iS yB RV) (ih3 (i3+1) Mo (dn yB) h)
theorem CD(hΓ:Γ.nt=78){aB:aI}{i1:Nat}{bU:aK}{rQ:aM}{x1486:Node}{r:cX}{k2:cX->Option cX}(B7:∀(sW:cX),k2 sW=some r->Ax Γ N f66 (.q [[some (75,3)]] (D.fr 75 3 (r.map bS.c))) [1,1,0,1,0,0,1,1,1] ⟨[(1,D.ptr 0 0),(3,D.acc 1),(15,D.sl (aB.rules.map aK.c)),(16,D.int .i64 ((aB.rules.map aK.c).length:Int)),(17,D.int .i64 (i1:Int))],[Ob.box (aI.c aB),Ob.row .uq 75 3 (sW.map bS.c)]⟩)(hm2:x1486.tokens.length<=maxLen):∀(rest:ar) (i2:Nat) (fF:cX),x1486.tokens.drop i2=rest->fe aB i1 bU rQ x1486 k2 rest i2 fF=some r->Ar Γ N f66 (.q [[some (75,3)]] (D.fr 75 3 (r.map bS.c))) [1,1,0,1,0,0,1,1,0,0,1,1,1,0] (rest.length+1) (wg aB i1 bU rQ x1486 (fF.map bS.c) (i2:Int)):=by
 intro rest
 induction rest with
 |nil=>
  intro i2 fF hd2 h;rw[fe]at h;refine aU fun N2 vv tQ=>?_
  exact((aW.ge aT.c hd2).a [.hl 3 [1,3,15,16,17] [0,1]]).ex hΓ vv (B7 fF h)
 |cons jg tR ih2=>
  intro i2 fF hd2 h;rw[fe]at h;refine aU fun N2 vv tQ=>?_
  obtain⟨AD,h1730,h⟩:=aC h;obtain⟨h1774,h⟩:=bX h;refine(((((aW.lt aT.c hd2).l (bO aT.c 2 (dc hd2) rfl)).a [.n 7]).g (cN h1730)).a [.pb 6 2 137 2,.cn [1,3,5,6,8,9,15,16,17,33,34,35,45,46,47] [0,1,2,3,4,6,5,7]]).lp hΓ (CE hΓ (fun Qx h=>?_) (bY h1774) rQ 0 ([]:aM) rfl h);obtain⟨h1773,h⟩:=bX h;exact((aW.w (bq h1773)).a [.cn [1,3,5,6,15,16,17,33,34,35] [0,8,2,3]]).cs hΓ tQ (wg aB i1 bU rQ x1486 ((fF.map bS.c)++([[D.str bU.name,D.sl (AD.map aD.c),D.sl (Qx.map aR.c)]])) (IntKind.i64.wrap ((i2:Int)+1))) (by first| (simp only[iS hd2 hm2,mA]<;>rfl)| (simp only[iS hd2 hm2,mA,aD.c,aR.c,aL.c,Action.c,aK.c,aT.c,bS.c,aZ.c,Node.c,aI.c,dU.c]<;>rfl)) (ih2 (i2+1) (fF++([(⟨bU.name,AD,Qx⟩:bS)])) (dn hd2) h)
theorem CC(hΓ:Γ.nt=78){aB:aI}{r:cX}{k1:cX->Option cX}(eF:∀(cB:cX),k1 cB=some r->Ax Γ N f66 (.q [[some (75,3)]] (D.fr 75 3 (r.map bS.c))) [1,1,1] ⟨[(3,D.acc 0)],[Ob.row .uq 75 3 (cB.map bS.c)]⟩)(hm1:aB.rules.length<=maxLen):∀(rest:ai) (i1:Nat) (bV:cX),aB.rules.drop i1=rest->fc aB k1 rest i1 bV=some r->Ar Γ N f66 (.q [[some (75,3)]] (D.fr 75 3 (r.map bS.c))) [1,1,0,1,0] (rest.length+1) (D4 aB (bV.map bS.c) (i1:Int)):=by
 intro rest
 induction rest with
 |nil=>
  intro i1 bV b8 h;rw[fc]at h;refine aU fun N1 cc cL=>?_
  exact((aW.ge aK.c b8).a [.hl 0 [3] [1]]).ex hΓ cc (eF bV h)
 |cons bU cO ih1=>
  intro i1 bV b8 h;rw[fc]at h;refine aU fun N1 cc cL=>?_
  obtain⟨rQ,h1483,h⟩:=aC h;obtain⟨x1484,h1485,h⟩:=aC h;obtain⟨x1486,h1487,h⟩:=aC h;obtain⟨h1775,h⟩:=bX h;refine(((((((aW.lt aK.c b8).l (bO aK.c 4 (dc b8) rfl)).g (wG h1483)).a [.n 12]).l (gq jf 1 h1485 rfl)).l (gq Node.c 8 h1487 rfl)).a [.cn [1,3,5,6,15,16,17,33,34,35] [0,1,2,3]]).lp hΓ (CD hΓ (fun sW h=>?_) (bY h1775) x1486.tokens 0 bV rfl h);exact(aW.a [.cn [1,3,15,16,17] [0,1]]).ct hΓ cL (iS b8 hm1) (ih1 (i1+1) sW (dn b8) h)
theorem BQ{aB:aI}{r:cX}(h:rY aB=some r):Good prog 66 [D.agg (aI.c aB)] (D.fr 75 3 (r.map bS.c)):=by
 refine gd func66 [[some (75,3)]] 78 fun hr Γ hΓ=>?_
 rw[rY]at h;refine(aW.a [.JV 3,.cn [1,3,15,16,17] [0,1]]).lp hΓ (CC hΓ (fun cB h=>?_) (by have:=(ij.sl (ij.agg (hr _ (aE (i:=0) rfl)) (.sl (aB.rules.map aK.c)) (by simp))).1;simpa using this) aB.rules 0 ([]:cX) rfl h);have h:=aN h;subst h;exact aW.ret hΓ
def mT(aB:aI):Option cX:=((mV aB).bind fun y1=>(bif !(y1)then(some ([]))else((rY aB).bind fun y4=>(some y4))))
theorem vc{aB:aI}{r:cX}(h:mT aB=some r):Good prog 23 [D.agg (aI.c aB)] (D.fr 75 3 (r.map bS.c)):=by
 refine gd func23 [[some (75,3)]] 8 fun hr Γ hΓ=>?_
 rw[mT]at h;obtain⟨y1,h2,h⟩:=aC h;obtain⟨h3,h⟩|⟨h3,h⟩:=aO h
 ·cases h;exact((aW.g (jX h2)).b h3).ret hΓ
 ·obtain⟨y4,h5,h⟩:=aC h;have h:=aN h;subst h;exact(((aW.g (jX h2)).b h3).g (BQ h5)).ret hΓ
def oT(aB:aD)(aY:aD):Option Bool:=(bif (aB.rel:Bytes)==aY.rel then((mo aB.args aY.args).bind fun y2=>(some y2))else(some false))
theorem HG{aB:aD}{aY:aD}{r:Bool}(h:oT aB aY=some r):Good prog 136 [D.agg (aD.c aB),D.agg (aD.c aY)] (D.bool r):=by
 refine gd func136 [[none]] 17 fun hr Γ hΓ=>?_
 rw[oT]at h;obtain⟨h1,h⟩|⟨h1,h⟩:=aO h
 ·obtain⟨y2,h3,h⟩:=aC h;have h:=aN h;subst h;exact(((aW.r 5 h1).g (vi h3)).b h1).ret hΓ
 ·have h:=aN h;subst h;exact(aW.r 6 h1).ret hΓ
def lz(aB:aJ)(aY:aJ)(k1:Option Bool):aJ->Nat->Option Bool
 | [],i1=>(k1)
 |bU::cO,i1=>((hO aY (i1:Int)).bind fun x30=>((oT bU x30).bind fun O9=>(bif !(O9)then(some false)else(lz aB aY k1 cO (i1+1)))))
def kR(aB:aJ)(aY:aJ):Option Bool:=(bif (((aB.map aD.c).length:Int):Int) != ((aY.map aD.c).length:Int)then(some false)else(lz aB aY (some true) aB 0))
def G0(aB:aJ)(aY:aJ)(dQ:Int):St:=⟨[(0,D.sl (aB.map aD.c)),(1,D.sl (aY.map aD.c)),(5,D.int .i64 dQ)],[]⟩
theorem EN(hΓ:Γ.nt=27){aB:aJ}{aY:aJ}{r:Bool}{k1:Option Bool}(eF:k1=some r->Ax Γ N f75 (.q [[none]] (D.bool r)) [1,1,1] ⟨[],[]⟩)(hm1:aB.length<=maxLen):∀(rest:aJ) (i1:Nat),aB.drop i1=rest->lz aB aY k1 rest i1=some r->Ar Γ N f75 (.q [[none]] (D.bool r)) [1,1,0,1,0] (rest.length+1) (G0 aB aY (i1:Int)):=by
 intro rest
 induction rest with
 |nil=>
  intro i1 b8 h;rw[lz]at h;refine aU fun N1 cc cL=>?_
  exact((aW.ge aD.c b8).a [.hl 0 [] []]).ex hΓ cc (eF h)
 |cons bU cO ih1=>
  intro i1 b8 h;rw[lz]at h;refine aU fun N1 cc cL=>?_
  obtain⟨x30,h31,h⟩:=aC h;obtain⟨O9,h33,h⟩:=aC h;have gr:=(((((aW.lt aD.c b8).a [.n 8]).l (bO aD.c 2 (dc b8) rfl)).l (gq aD.c 2 h31 rfl)).g (HG h33))
  obtain⟨h34,h⟩|⟨h34,h⟩:=aO h
  ·have h:=aN h;subst h;exact(gr.b h34).ret hΓ
  ·exact((gr.b h34).a [.cn [0,1,5] []]).ct hΓ cL (iS b8 hm1) (ih1 (i1+1) (dn b8) h)
theorem DN{aB:aJ}{aY:aJ}{r:Bool}(h:kR aB aY=some r):Good prog 75 [D.sl (aB.map aD.c),D.sl (aY.map aD.c)] (D.bool r):=by
 refine gd func75 [[none]] 27 fun hr Γ hΓ=>?_
 rw[kR]at h;obtain⟨h1,h⟩|⟨h1,h⟩:=aO h
 ·have h:=aN h;subst h;exact(aW.b h1).ret hΓ
 ·refine((aW.b h1).a [.cn [0,1,5] []]).lp hΓ (EN hΓ (fun h=>?_) (by have:=(ij.sl (hr _ (aE (i:=0) rfl))).1;simpa using this) aB 0 rfl h);have h:=aN h;subst h;exact aW.ret hΓ
def gL(aB:aM)(aY:aM)(k1:Option Bool):aM->Nat->Option Bool
 | [],i1=>(k1)
 |bU::cO,i1=>((hO aY (i1:Int)).bind fun x22=>(bif !((bU.var:Bytes)==x22.var&&(bU.value:Bytes)==x22.value)then(some false)else(gL aB aY k1 cO (i1+1))))
def ia(aB:aM)(aY:aM):Option Bool:=(bif (((aB.map aR.c).length:Int):Int) != ((aY.map aR.c).length:Int)then(some false)else(gL aB aY (some true) aB 0))
def Bd(aB:aM)(aY:aM)(dQ:Int):St:=⟨[(0,D.sl (aB.map aR.c)),(1,D.sl (aY.map aR.c)),(5,D.int .i64 dQ)],[]⟩
theorem As(hΓ:Γ.nt=26){aB:aM}{aY:aM}{r:Bool}{k1:Option Bool}(eF:k1=some r->Ax Γ N f120 (.q [[none]] (D.bool r)) [1,1,1] ⟨[],[]⟩)(hm1:aB.length<=maxLen):∀(rest:aM) (i1:Nat),aB.drop i1=rest->gL aB aY k1 rest i1=some r->Ar Γ N f120 (.q [[none]] (D.bool r)) [1,1,0,1,0] (rest.length+1) (Bd aB aY (i1:Int)):=by
 intro rest
 induction rest with
 |nil=>
  intro i1 b8 h;rw[gL]at h;refine aU fun N1 cc cL=>?_
  exact((aW.ge aR.c b8).a [.hl 0 [] []]).ex hΓ cc (eF h)
 |cons bU cO ih1=>
  intro i1 b8 h;rw[gL]at h;refine aU fun N1 cc cL=>?_
  obtain⟨x22,h23,h⟩:=aC h;have gr:=((((aW.lt aR.c b8).a [.n 8]).l (bO aR.c 2 (dc b8) rfl)).l (gq aR.c 2 h23 rfl))
  obtain⟨h24,h⟩|⟨h24,h⟩:=aO h
  ·have h:=aN h;subst h;exact(gr.b h24).ret hΓ
  ·exact((gr.b h24).a [.cn [0,1,5] []]).ct hΓ cL (iS b8 hm1) (ih1 (i1+1) (dn b8) h)
theorem AL{aB:aM}{aY:aM}{r:Bool}(h:ia aB aY=some r):Good prog 120 [D.sl (aB.map aR.c),D.sl (aY.map aR.c)] (D.bool r):=by
 refine gd func120 [[none]] 26 fun hr Γ hΓ=>?_
 rw[ia]at h;obtain⟨h1,h⟩|⟨h1,h⟩:=aO h
 ·have h:=aN h;subst h;exact(aW.b h1).ret hΓ
 ·refine((aW.b h1).a [.cn [0,1,5] []]).lp hΓ (As hΓ (fun h=>?_) (by have:=(ij.sl (hr _ (aE (i:=0) rfl))).1;simpa using this) aB 0 rfl h);have h:=aN h;subst h;exact aW.ret hΓ
def rG(aB:bS)(aY:bS):Option Bool:=(bif (aB.rule:Bytes)==aY.rule then((kR aB.facts aY.facts).bind fun y2=>(bif y2 then((ia aB.bind aY.bind).bind fun y5=>(some y5))else(some false)))else(some false))
theorem DO{aB:bS}{aY:bS}{r:Bool}(h:rG aB aY=some r):Good prog 65 [D.agg (bS.c aB),D.agg (bS.c aY)] (D.bool r):=by
 refine gd func65 [[none]] 24 fun hr Γ hΓ=>?_
 rw[rG]at h;obtain⟨h1,h⟩|⟨h1,h⟩:=aO h
 ·obtain⟨y2,h3,h⟩:=aC h;have pW:=(((aW.r 5 h1).g (DN h3)).b h1)
  obtain⟨h4,h⟩|⟨h4,h⟩:=aO h
  ·obtain⟨y5,h6,h⟩:=aC h;have h:=aN h;subst h;exact(((pW.r 5 h4).g (AL h6)).b h4).ret hΓ
  ·have h:=aN h;subst h;exact(pW.r 6 h4).ret hΓ
 ·have h:=aN h;subst h;exact((aW.r 6 h1).F 6).ret hΓ
def q9(aB:aJ)(aY:aD):Option (aJ×Bool):=((pP aB aY).bind fun y1=>((nr aB).bind fun y3=>(bif !(y3)then((cK aB).bind fun y6=>(some (y6,false)))else(bif decide ((y1:Int)<0)then((cK aB).bind fun y9=>(some (y9,false)))else((xE (aB.map aD.c).length none (some (D.int .i64 y1))).bind fun p=>(fun l11 u12=>((cK ((aB.take u12).drop l11)).bind fun JM=>((xE (aB.map aD.c).length (some (D.int .i64 (IntKind.i64.wrap (y1+1)))) none).bind fun p=>(fun l16 u17=>((cK ((aB.take u17).drop l16)).bind fun KL=>(bif room ((JM.map aD.c).length+(KL.map aD.c).length) 40 then(some (JM++KL,true))else none))) p.1 p.2))) p.1 p.2)))))
theorem wH{aB:aJ}{aY:aD}{r:aJ×Bool}(h:q9 aB aY=some r):Good prog 124 [D.sl (aB.map aD.c),D.agg (aD.c aY)] (D.iE [D.fr 37 2 (r.1.map aD.c),D.bool r.2]):=by
 refine gd func124 [[some (37,2)],[none]] 29 fun hr Γ hΓ=>?_
 rw[q9]at h;obtain⟨y1,h2,h⟩:=aC h;obtain⟨y3,h4,h⟩:=aC h;have pW:=(((aW.a [.JV 4]).g (xT h2)).g (py h4))
 obtain⟨h5,h⟩|⟨h5,h⟩:=aO h
 ·obtain⟨y6,h7,h⟩:=aC h;cases h;exact(((pW.r 3 h5).T 1).g (cN h7)).ret hΓ
 ·have gr:=(pW.r 3 h5)
  obtain⟨h8,h⟩|⟨h8,h⟩:=aO h
  ·obtain⟨y9,h10,h⟩:=aC h;cases h;exact((gr.b h8).g (cN h10)).ret hΓ
  ·obtain⟨⟨l11,u12⟩,h13,h⟩:=aC h;obtain⟨JM,h15,h⟩:=aC h;obtain⟨⟨l16,u17⟩,h18,h⟩:=aC h;obtain⟨KL,h20,h⟩:=aC h;obtain⟨h21,h⟩:=bX h;cases h;exact((((((((gr.b h8).w (show xE (aB.map aD.c).length none (some (D.int .i64 y1))=some (l11,u12)/\((aB.map aD.c).all fun r=>r.length==2)=true from⟨h13,by simp[aj]⟩)).a [.n 8,.cut l11 u12,.d (D.fr 37 2 (JM.map aD.c))]).w (show Good prog 103 [D.sl (((aB.map aD.c).take u12).drop l11)] (D.fr 37 2 (JM.map aD.c))from by first| (simpa only[bG,av,bZ,bh,bn]using cN h15)|exact cN h15)).w (show xE (aB.map aD.c).length (some (D.int .i64 (IntKind.i64.wrap (y1+1)))) none=some (l16,u17)/\((aB.map aD.c).all fun r=>r.length==2)=true from⟨h18,by simp[aj]⟩)).a [.cut l16 u17,.d (D.fr 37 2 (KL.map aD.c))]).w (show Good prog 103 [D.sl (((aB.map aD.c).take u17).drop l16)] (D.fr 37 2 (KL.map aD.c))from by first| (simpa only[bG,av,bZ,bh,bn]using cN h20)|exact cN h20)).w (bq h21)).rts hΓ (D.iE [D.fr 37 2 ((JM.map aD.c)++(KL.map aD.c)),D.bool true]) (by first|rfl| (simp only[mA]<;>rfl)| (simp only[cS,mA]<;>rfl))
def AT(aB:aI)(aY:aD):Option (aI×Bool):=((q9 aB.facts aY).bind fun y1=>(bif !(y1.2)then((gZ aB).bind fun y4=>(some (y4,false)))else((qx aB y1.1 aY).bind fun y6=>(some (y6,true)))))
theorem Jg{aB:aI}{aY:aD}{r:aI×Bool}(h:AT aB aY=some r):Good prog 67 [D.agg (aI.c aB),D.agg (aD.c aY)] (D.iE [D.agg [D.fr 80 4 (r.1.rules.map aK.c),D.fr 3 1 (r.1.ends.map jf),D.fr 93 3 (r.1.bE.map aZ.c),D.fr 50 8 (r.1.nodes.map Node.c),D.fr 37 2 (r.1.facts.map aD.c),D.int .i64 r.1.cG],D.bool r.2]):=by
 refine gd func67 [[some (80,4),some (3,1),some (93,3),some (50,8),some (37,2),none],[none]] 23 fun hr Γ hΓ=>?_
 rw[AT]at h;obtain⟨y1,h2,h⟩:=aC h;obtain⟨h3,h⟩|⟨h3,h⟩:=aO h
 ·obtain⟨y4,h5,h⟩:=aC h;cases h;exact(((aW.g (wH h2)).b h3).g (kJ h5)).ret hΓ
 ·obtain⟨y6,h7,h⟩:=aC h;cases h;exact(((aW.g (wH h2)).b h3).g (yc h7)).ret hΓ
def j8(aB:aI)(aY:aD):Option (aI×Bool):=((mV aB).bind fun y1=>(bif !(y1)then((gZ aB).bind fun y4=>(some (y4,false)))else((AT aB aY).bind fun y6=>(some (y6.1,y6.2)))))
theorem oJ{aB:aI}{aY:aD}{r:aI×Bool}(h:j8 aB aY=some r):Good prog 24 [D.agg (aI.c aB),D.agg (aD.c aY)] (D.iE [D.agg [D.fr 80 4 (r.1.rules.map aK.c),D.fr 3 1 (r.1.ends.map jf),D.fr 93 3 (r.1.bE.map aZ.c),D.fr 50 8 (r.1.nodes.map Node.c),D.fr 37 2 (r.1.facts.map aD.c),D.int .i64 r.1.cG],D.bool r.2]):=by
 refine gd func24 [[some (80,4),some (3,1),some (93,3),some (50,8),some (37,2),none],[none]] 16 fun hr Γ hΓ=>?_
 rw[j8]at h;obtain⟨y1,h2,h⟩:=aC h;obtain⟨h3,h⟩|⟨h3,h⟩:=aO h
 ·obtain⟨y4,h5,h⟩:=aC h;cases h;exact(((aW.g (jX h2)).b h3).g (kJ h5)).ret hΓ
 ·obtain⟨y6,h7,h⟩:=aC h;cases h;exact(((aW.g (jX h2)).b h3).g (Jg h7)).ret hΓ
def rZ(aB:aJ)(k1:Option Bool):aJ->Nat->Option Bool
 | [],i1=>(k1)
 |bU::cO,i1=>((qT bU).bind fun F3=>(bif !(F3)then(some false)else(bif decide (((i1:Int):Int)>0)then((hO aB (IntKind.i64.wrap ((i1:Int)-1))).bind fun x49=>((hG x49 bU).bind fun y51=>(bif decide ((y51:Int)>=0)then(some false)else(rZ aB k1 cO (i1+1)))))else(rZ aB k1 cO (i1+1)))))
def vE(aB:aJ):Option Bool:=(rZ aB (some (decide ((((aB.map aD.c).length:Int):Int)<=24))) aB 0)
def tq(aB:aI)(aY:aI)(k1:Option Bool):bN->Nat->Option Bool
 | [],i1=>(k1)
 |bU::cO,i1=>((hO aY.bE (i1:Int)).bind fun x32=>((iY bU.shape x32.shape).bind fun F2=>(bif !(F2)then(some false)else(tq aB aY k1 cO (i1+1)))))
def qG(aB:aI)(aY:aI)(k2:Option Bool):bL->Nat->Option Bool
 | [],i2=>(k2)
 |jg::tR,i2=>((hO aY.nodes (i2:Int)).bind fun x73=>(bif (jg.parent:Int) != x73.parent then(some false)else(bif (jg.dL:Int) != x73.dL then(some false)else((nw jg.cond x73.cond).bind fun y77=>(bif !(y77)then(some false)else(qG aB aY k2 tR (i2+1)))))))
def qH(aB:aI)(aY:aI)(k3:Option Bool):bJ->Nat->Option Bool
 | [],i3=>(k3)
 |PZ::My,i3=>((hO aY.ends (i3:Int)).bind fun x100=>(bif (PZ:Int) != x100 then(some false)else(qH aB aY k3 My (i3+1))))
def wO(aB:aI)(aY:aI):Option Bool:=(bif (((aB.bE.map aZ.c).length:Int):Int) != ((aY.bE.map aZ.c).length:Int)then(some false)else(bif (((aB.nodes.map Node.c).length:Int):Int) != ((aY.nodes.map Node.c).length:Int)then(some false)else(bif (((aB.ends.map jf).length:Int):Int) != ((aY.ends.map jf).length:Int)then(some false)else(tq aB aY (qG aB aY (qH aB aY (some true) aB.ends 0) aB.nodes 0) aB.bE 0))))
def oK(aB:ar)(aY:ar)(k1:Option Bool):ar->Nat->Option Bool
 | [],i1=>(k1)
 |bU::cO,i1=>((hO aY (i1:Int)).bind fun x42=>((kR bU.facts x42.facts).bind fun y44=>(bif !(y44)then(some false)else((ia bU.bind x42.bind).bind fun y47=>(bif !(y47)then(some false)else(oK aB aY k1 cO (i1+1)))))))
def uj(aB:ar)(aY:ar):Option Bool:=(bif (((aB.map aT.c).length:Int):Int) != ((aY.map aT.c).length:Int)then(some false)else(oK aB aY (some true) aB 0))
def qh(aB:aI)(k1:Option Bool):bN->Nat->Option Bool
 | [],i1=>(k1)
 |bU::cO,i1=>((gU bU.shape ([]) aB.facts).bind fun Da=>((kR bU.facts Da).bind fun y41=>(bif !(y41)then(some false)else(qh aB k1 cO (i1+1)))))
def qi(aB:aI)(k2:Option Bool):bL->Nat->Option Bool
 | [],i2=>(k2)
 |jg::tR,i2=>((si aB (i2:Int)).bind fun VB=>((o5 VB aB.facts).bind fun a9g=>((uj jg.tokens a9g).bind fun Hj=>(bif !(Hj)then(some false)else(qi aB k2 tR (i2+1))))))
def uH(aB:aI):Option Bool:=((jM aB.rules).bind fun y1=>(bif !(y1.2)then(some false)else((vE aB.facts).bind fun y4=>(bif !(y4)then(some false)else((wO aB y1.1).bind fun y7=>(bif !(y7)then(some false)else(bif decide ((aB.cG:Int)<0)then(some false)else(qh aB (qi aB (some true) aB.nodes 0) aB.bE 0))))))))
def rK(aB:aM)(aY:aM)(k1:aM->Option aM):aM->Nat->aM->Option aM
 | [],i1,bP=>(k1 bP)
 |bU::cO,i1,bP=>((nJ aB bU.value).bind fun Mq=>(bif Mq.2 then((uJ bP bU.var Mq.1).bind fun y40=>(rK aB aY k1 cO (i1+1) y40))else(rK aB aY k1 cO (i1+1) bP)))
def Au(aB:aM)(aY:aM):Option aM:=(rK aB aY (fun(cB:aM)=>(some cB)) aY 0 ([]:aM))
end Go.Cx
namespace Go.Cx
open Go.RowKit Go.Proofs Tryz
set_option maxRecDepth 100000
variable{Γ:ul}{N:Nat->St->Prop}
def mQ(aB:aI)(i1:Nat)(bU:aK)(a15:aM)(x496:Node)(k2:cX->Option cX):ar->Nat->cX->Option cX
 | [],i2,fF=>(k2 fF)
 |jg::tR,i2,fF=>((eE jg.facts).bind fun Yt=>((Au jg.bind a15).bind fun a7E=>(bif room ((fF.map bS.c).length+([[D.str bU.name,D.sl (Yt.map aD.c),D.sl (a7E.map aR.c)]]).length) 64 then(mQ aB i1 bU a15 x496 k2 tR (i2+1) (fF++([(⟨bU.name,Yt,a7E⟩:bS)])))else none)))
def ja(aB:aI)(k1:cX->Option cX):ai->Nat->cX->Option cX
 | [],i1,bV=>(k1 bV)
 |bU::cO,i1,bV=>((uH aB).bind fun a9i=>(bif a9i then((nh bU).bind fun a15=>((hO aB.ends (i1:Int)).bind fun x494=>((hO aB.nodes x494).bind fun x496=>(bif decide (x496.tokens.length<=maxLen)then(mQ aB i1 bU a15 x496 (fun(sW:cX)=>(ja aB k1 cO (i1+1) sW)) x496.tokens 0 bV)else none))))else(k1 bV)))
def zj(aB:aI):Option cX:=(ja aB (fun(cB:cX)=>(some cB)) aB.rules 0 ([]:cX))
def rp(aB:aJ)(aY:aD)(k1:Option Int):aJ->Nat->Option Int
 | [],i1=>(k1)
 |bU::cO,i1=>((oT bU aY).bind fun Kr=>(bif Kr then(some (i1:Int))else(rp aB aY k1 cO (i1+1))))
def yM(aB:aJ)(aY:aD):Option Int:=(rp aB aY (some (-1)) aB 0)
def Ap(aB:bJ):Option bJ:=(bif room (([]:List aP).length+(aB.map jf).length) 8 then(some (([]:bJ)++aB))else none)
def s7(aB:ar)(k1:ar->Option ar):ar->Nat->ar->Option ar
 | [],i1,bP=>(k1 bP)
 |bU::cO,i1,bP=>((qY bU).bind fun oH=>(bif room ((bP.map aT.c).length+([[D.sl (oH.facts.map aD.c),D.sl (oH.bind.map aR.c)]]).length) 48 then(s7 aB k1 cO (i1+1) (bP++([oH])))else none))
def oA(aB:ar):Option ar:=(s7 aB (fun(cB:ar)=>(some cB)) aB 0 ([]:ar))
def uK(aB:aI)(y1:ai)(y3:bJ)(y5:aJ)(k1:bN->Option aI):bN->Nat->bN->Option aI
 | [],i1,nQ=>(k1 nQ)
 |bU::cO,i1,nQ=>((eV bU.shape).bind fun DY=>((eE bU.facts).bind fun y75=>(bif room ((nQ.map aZ.c).length+([[D.str DY.rel,D.sl (DY.args.map tx),D.sl (y75.map aD.c)]]).length) 64 then(uK aB y1 y3 y5 k1 cO (i1+1) (nQ++([(⟨DY,y75⟩:aZ)])))else none)))
def uL(aB:aI)(y1:ai)(y3:bJ)(y5:aJ)(nP:bN)(k2:bL->Option aI):bL->Nat->bL->Option aI
 | [],i2,kq=>(k2 kq)
 |jg::tR,i2,kq=>((je jg.cond).bind fun JL=>((oA jg.tokens).bind fun a73=>(bif room ((kq.map Node.c).length+([[D.int .i64 jg.parent,D.int .i64 JL.kind,D.str JL.pat.rel,D.sl (JL.pat.args.map tx),D.str JL.left,D.str JL.right,D.int .i64 jg.dL,D.sl (a73.map aT.c)]]).length) 120 then(uL aB y1 y3 y5 nP k2 tR (i2+1) (kq++([(⟨jg.parent,JL,jg.dL,a73⟩:Node)])))else none)))
def GO(aB:aI):Option aI:=((pU aB.rules).bind fun y1=>((Ap aB.ends).bind fun y3=>((eE aB.facts).bind fun y5=>(uK aB y1 y3 y5 (fun(nP:bN)=>(uL aB y1 y3 y5 nP (fun(ot:bL)=>(some (⟨y1,y3,nP,ot,y5,aB.cG⟩:aI))) aB.nodes 0 ([]:bL))) aB.bE 0 ([]:bN)))))
def mB(aB:aJ)(aY:aD)(k1:aJ->Option aJ):aJ->Nat->aJ->Option aJ
 | [],i1,bV=>(k1 bV)
 |bU::cO,i1,bV=>((oT bU aY).bind fun VG=>(bif !(VG)then((eU bU).bind fun F3=>(bif room ((bV.map aD.c).length+([[D.str F3.rel,D.sl (F3.args.map tx)]]).length) 40 then(mB aB aY k1 cO (i1+1) (bV++([F3])))else none))else(mB aB aY k1 cO (i1+1) bV)))
def BX(aB:aJ)(aY:aD):Option aJ:=(mB aB aY (fun(cB:aJ)=>(some cB)) aB 0 ([]:aJ))
def AU(aB:aJ)(aY:aD):Option (aJ×Bool):=((vE aB).bind fun y1=>(bif !(y1)then((eE aB).bind fun y4=>(some (y4,false)))else((yM aB aY).bind fun y6=>(bif decide ((y6:Int)<0)then((eE aB).bind fun y9=>(some (y9,false)))else((BX aB aY).bind fun Mp=>(some (Mp,true)))))))
end Go.Cx
namespace Go.Cx
open Go.RowKit Go.Proofs Tryz
theorem wE{α:Type}{a pre xs:List α}{x:α}(h:a=pre++x::xs):hO a (pre.length:Int)=some x:=by
 unfold hO;have:a[pre.length]?=some x:=by rw[h];simp
 simp[this]
theorem Es{n b:Nat}(hn:n<=1099511627776)(hb:b<=128):room n b=true:=by
 unfold room maxLen;have:n*b<=1099511627776*128:=Nat.mul_le_mul hn hb;simp;omega
theorem ic{α:Type}{w:List α}{c:α->aP}{y:aP}{b:Nat}(h:w.length<1099511627776)(hb:b<=128):room ((w.map c).length+([y]).length) b=true:=Es (by simp;omega) hb
theorem Xx{α β:Type}{w:List α}{v:List β}{c:α->aP}{d:β->aP}{b:Nat}(h:w.length+v.length<=1099511627776)(hb:b<=128):room ((w.map c).length+(v.map d).length) b=true:=Es (by simp;omega) hb
theorem R4{β:Type}{v:List β}{d:β->aP}{b:Nat}(h:v.length<=1099511627776)(hb:b<=128):room (([]:List aP).length+(v.map d).length) b=true:=Es (by simp;omega) hb
theorem sU{α:Type}{l:List α}(h:l.length<=1099511627776):decide (l.length<=maxLen)=true:=by unfold maxLen;simp;omega
theorem DT{α β γ:Type}{c:β->aP}{b:Nat}{f:α->Option β}{g:α->β}{L:List α->Nat->List β->Option γ}{k:List β->Option γ}(hb:b<=128)(uO:∀i w,L [] i w=k w)
 (tv:∀x xs i w,L (x::xs) i w=(f x).bind fun y=>bif room ((w.map c).length+([c y]).length) b then L xs (i+1) (w++[y])else none):
 ∀(l:List α) (i:Nat) (w:List β),(∀x∈l,f x=some (g x))->w.length+l.length<=1099511627776->L l i w=k (w++l.map g):=by
 intro l
 induction l with
 |nil=>intro i w _ _;simp[uO]
 |cons x xs ih=>
  intro i w hf hl;simp only[aV]at hl;rw[tv,hf x (by simp),aA,ic (by omega) hb,aH,ih _ _ (fun y hy=>hf y (by simp[hy])) (by simp;omega)];simp
theorem UG{α:Type}{f:α->Option Bool}{p:α->Bool}{L:List α->Nat->Option Bool}{k:Option Bool}(uO:∀i,L [] i=k)
 (tv:∀x xs i,L (x::xs) i=(f x).bind fun y=>bif !y then some false else L xs (i+1)):∀(l:List α) (i:Nat),(∀x∈l,f x=some (p x))->L l i=bif l.all p then k else some false:=by
 intro l
 induction l with
 |nil=>intro i _;simp[uO]
 |cons x xs ih=>
  intro i hf;rw[tv,hf x (by simp),aA,ih _ (fun y hy=>hf y (by simp[hy])),dW];cases p x<;>simp
theorem pO:∀(a:Bytes),Op.bytesLess a a=false
 | []=>rfl
 |x::a=>by simp[Op.bytesLess,pO a]
theorem xS:∀ {a b c:Bytes},Op.bytesLess a b=true->Op.bytesLess b c=true->Op.bytesLess a c=true
 | [],b,[],_,h2=>by cases b<;>simp[Op.bytesLess]at h2
 | [],b,_::_,_,_=>by simp[Op.bytesLess]
 |_::_,[],_,h1,_=>by simp[Op.bytesLess]at h1
 |_::_,_::_,[],_,h2=>by simp[Op.bytesLess]at h2
 |x::a,y::b,z::c,h1,h2=>by
  simp only[Op.bytesLess,nk,bD,aS,cq]at h1 h2⊢;rcases h1 with h1|⟨rfl,h1⟩
  ·rcases h2 with h2|⟨rfl,h2⟩
   ·exact .inl (UInt8.lt_trans h1 h2)
   ·exact .inl h1
  ·rcases h2 with h2|⟨rfl,h2⟩
   ·exact .inl h2
   ·exact .inr ⟨rfl,xS h1 h2⟩
theorem Dj:∀ {a b:Bytes},Op.bytesLess a b=false->Op.bytesLess b a=false->a=b
 | [],[],_,_=>rfl
 | [],_::_,h,_=>by simp[Op.bytesLess]at h
 |_::_,[],_,h=>by simp[Op.bytesLess]at h
 |x::a,y::b,h1,h2=>by
  simp only[Op.bytesLess,Bool.or_eq_false_iff,nU,Cs,cy,ne_eq]at h1 h2;have e:x=y:=by
   have h3:=h1.1;have h4:=h2.1;rw[Cw]at h3 h4;exact UInt8.toNat_inj.1 (by omega)
  subst e;rw[Dj (h1.2.resolve_left (by simp)) (h2.2.resolve_left (by simp))]
theorem I3{a b:Bytes}(h:Op.bytesLess a b=true):Op.bytesLess b a=false:=by
 cases hb:Op.bytesLess b a with
 |false=>rfl
 |true=>have:=xS h hb;rw[pO]at this;cases this
def SS(l:aG):Prop:=l.Pairwise fun a b=>Op.bytesLess a b=true
theorem JY:∀ {a b:aG},SS a->SS b->(∀x,x∈a↔x∈b)->a=b
 | [],[],_,_,_=>rfl
 | [],y::b,_,_,h=>by have:=(h y).2 (by simp);cases this
 |x::a,[],_,_,h=>by have:=(h x).1 (by simp);cases this
 |x::a,y::b,h1,h2,h=>by
  obtain⟨p1,p2⟩:=mS.1 h1;obtain⟨q1,q2⟩:=mS.1 h2;have e:x=y:=by
   refine Dj ?_ ?_
   ·cases hb:Op.bytesLess x y with
    |false=>rfl
    |true=>
     rcases bB.1 ((h x).1 (by simp))with rfl|hx
     ·exact(pO x▸hb).symm
     ·have:=I3 (q1 x hx);rw[hb]at this;exact this
   ·cases hb:Op.bytesLess y x with
    |false=>rfl
    |true=>
     rcases bB.1 ((h y).2 (by simp))with rfl|hx
     ·exact(pO y▸hb).symm
     ·have:=I3 (p1 y hx);rw[hb]at this;exact this
  subst e;rw[JY p2 q2 (fun z=>?_)];constructor
  ·intro hz;rcases bB.1 ((h z).1 (by simp[hz]))with rfl|Mw
   ·have:=p1 z hz;rw[pO]at this;cases this
   ·exact Mw
  ·intro hz;rcases bB.1 ((h z).2 (by simp[hz]))with rfl|Mw
   ·have:=q1 z hz;rw[pO]at this;cases this
   ·exact Mw
def yQ:aG->Bytes->aG
 | [],s=>[s]
 |x::xs,s=>bif Op.bytesLess x s then x::yQ xs s else bif x==s then x::xs else s::x::xs
theorem MO:∀ {l:aG} {s y:Bytes},y∈yQ l s↔y=s\/y∈l
 | [],s,y=>by simp[yQ]
 |x::xs,s,y=>by
  simp only[yQ];cases Op.bytesLess x s with
  |true=>simp only[aH,bB,MO (l:=xs)];constructor<;>(rintro(h|h|h)<;>simp[h])
  |false=>
   simp only[aQ];cases hx:x==s with
   |true=>
    simp only[cq]at hx;subst hx;simp
   |false=>simp
theorem Tv:∀ {l:aG} {s:Bytes},SS l->SS (yQ l s)
 | [],s,_=>by simp[yQ,SS]
 |x::xs,s,h=>by
  obtain⟨p1,p2⟩:=mS.1 h;simp only[yQ];cases hb:Op.bytesLess x s with
  |true=>
   simp only[aH];refine mS.2 ⟨fun y hy=>?_,Tv p2⟩;rcases MO.1 hy with rfl|hy
   ·exact hb
   ·exact p1 y hy
  |false=>
   simp only[aQ];cases hx:x==s with
   |true=>exact h
   |false=>
    have hs:Op.bytesLess s x=true:=by
     cases hc:Op.bytesLess s x with
     |true=>rfl
     |false=>have:=Dj hb hc;subst this;simp at hx
    refine mS.2 ⟨fun y hy=>?_,h⟩;rcases bB.1 hy with rfl|hy
    ·exact hs
    ·exact xS hs (p1 y hy)
theorem A5:∀(l:aG) (s:Bytes),(yQ l s).length<=l.length+1
 | [],s=>by simp[yQ]
 |x::xs,s=>by
  have:=A5 xs s;simp only[yQ];cases Op.bytesLess x s<;>simp only[aH,aQ,aV]
  ·cases x==s<;>simp
  ·omega
def eY(l:aG):aG:=l.foldl yQ []
theorem EZ:∀(l a:aG) (y:Bytes),y∈l.foldl yQ a↔y∈a\/y∈l
 | [],a,y=>by simp
 |x::l,a,y=>by
  rw[cJ,EZ l,MO];simp only[bB];constructor
  ·rintro((h|h)|h)<;>simp[h]
  ·rintro(h|h|h)<;>simp[h]
theorem GQ:∀(l:aG) {a:aG},SS a->SS (l.foldl yQ a)
 | [],a,h=>h
 |x::l,a,h=>GQ l (Tv h)
theorem EY:∀(l a:aG),(l.foldl yQ a).length<=a.length+l.length
 | [],a=>by simp
 |x::l,a=>by
  have h1:=EY l (yQ a x);have h2:=A5 a x;rw[cJ,aV];omega
theorem oq{l:aG}{y:Bytes}:y∈eY l↔y∈l:=by unfold eY;rw[EZ];simp
theorem Mf(l:aG):SS (eY l):=GQ l (by simp[SS])
theorem pV(l:aG):(eY l).length<=l.length:=by have:=EY l [];simpa[eY]using this
theorem Ev{a b:aG}(h:∀x,x∈a↔x∈b):eY a=eY b:=JY (Mf a) (Mf b) (fun x=>by rw[oq,oq,h])
theorem Sp(a:aG)(x:Bytes):yQ (eY a) x=eY (a++[x]):=by simp[eY]
theorem Sn(a b:aG):b.foldl yQ (eY a)=eY (a++b):=by simp[eY]
theorem Ew(a b:aG):(eY b).foldl yQ (eY a)=eY (a++b):=by
 rw[Sn];exact Ev (fun x=>by simp[oq])
theorem nG(l:aG)(v:Bytes):(eY l).contains v=l.contains v:=by
 rw[bp];simp[oq]
def in1(x:UInt8):Bool:=decide ((x.toNat:Int)>=97)&&decide ((x.toNat:Int)<=122)
def in2(x:UInt8):Bool:=decide ((x.toNat:Int)>=48)&&decide ((x.toNat:Int)<=57)
def ab(x:UInt8):Bool:=in1 x||in2 x
def Ud(s:Bytes):Bool:=decide ((s.length:Int)>=1)&&decide ((s.length:Int)<=8)
def fR(s:Bytes):Bool:=s.all ab&&Ud s
def a1K:Bytes->Bool
 | []=>false
 |x::_=>decide ((x.toNat:Int)>=97)
def wQ(s:Bytes):Bool:=fR s&&a1K s
def fQ:Bytes->Bool
 | []=>false
 |x::t=>decide ((x.toNat:Int)=63)&&fR t
def nj(s:Bytes):Bool:=fR s||fQ s
theorem zD{s:Bytes}(h:fR s=true):1<=s.length/\s.length<=8:=by
 simp only[fR,Ud,aS,bD]at h;omega
theorem Nu{s:Bytes}(h:wQ s=true):1<=s.length/\s.length<=8:=by
 simp only[wQ,aS]at h;exact zD h.1
theorem Ez{s:Bytes}(h:fQ s=true):1<=s.length/\s.length<=9:=by
 cases s with
 |nil=>cases h
 |cons x t=>simp only[fQ,aS]at h;have:=zD h.2;simp;omega
theorem V3{s:Bytes}(h:nj s=true):1<=s.length/\s.length<=9:=by
 simp only[nj,nk]at h;rcases h with h|h
 ·have:=zD h;omega
 ·exact Ez h
theorem oP{s:Bytes}(h:fQ s=true):fR s=false:=by
 cases s with
 |nil=>cases h
 |cons x t=>
  simp only[fQ,aS,bD]at h;simp only[fR,dW,ab,in1,in2];have:(x.toNat:Int)=63:=h.1;simp[this]
theorem a2L(x:UInt8):IntKind.i64.wrap ((x.toNat:Nat):Int)=(x.toNat:Int):=eM (pN.i64.2 (by have:=x.toNat_lt;omega))
theorem JK{n:Nat}(h:n<=1099511627776):IntKind.i64.wrap ((n:Int)+1)=((n+1:Nat):Int):=by rw[eM (pN.i64.2 (by omega))];omega
theorem a1t{n:Nat}(h:1<=n):xE n (some (D.int .i64 1)) none=some (1,n):=by
 unfold xE;have:(0:Int)<=1/\(1:Int).toNat<=n:=⟨by decide,h⟩
 simp only[bK this];rfl
theorem Iw(a b c:Int):kU a b c=some (decide (a>=b)&&decide (a<=c)):=by
 unfold kU;cases decide (a>=b)<;>rfl
theorem a3r(a:Bytes)(k:Option Bool)(ha:a.length<=1048576):∀(rest pre:Bytes),a=pre++rest->∀n,rest.length<n->jB a k n (pre.length:Int)=bif rest.all ab then k else some false:=by
 intro rest
 induction rest with
 |nil=>
  intro pre h n hn;obtain⟨m,rfl⟩:∃m,n=m+1:=⟨n-1,by simp at hn;omega⟩
  have e1:decide ((pre.length:Int)<(a.length:Int))=false:=by simp[h]
  rw[jB,e1];rfl
 |cons x xs ih=>
  intro pre h n hn;obtain⟨m,rfl⟩:∃m,n=m+1:=⟨n-1,by simp at hn;omega⟩
  have hl:a.length=pre.length+(xs.length+1):=by rw[h];simp
  have e1:decide ((pre.length:Int)<(a.length:Int))=true:=by rw[hl];simp;omega
  have e4:IntKind.i64.wrap ((pre.length:Int)+1)=((pre++[x]).length:Int):=by rw[JK (by omega)];simp
  have t:=ih (pre++[x]) (by simp[h]) m (by simp at hn;omega);rw[jB,e1,aH,wE h,aA,a2L,Iw,Iw,aA,aA,e4,t,dW];show(bif !in1 x then(bif !in2 x then _ else _)else _)=bif (in1 x||in2 x)&&xs.all ab then k else some false
  cases in1 x<;>cases in2 x<;>simp
theorem Kn(a:Bytes)(ha:a.length<=1048576):fW a=some (fR a):=by
 unfold fW;refine(a3r a _ ha a [] rfl fuel (by unfold fuel;omega)).trans ?_;rw[Iw,aA];show _=some (a.all ab&&Ud a);cases a.all ab<;>rfl
theorem a3E(a:Bytes)(k:Option Bool)(ha:a.length<=1048576):∀(rest pre:Bytes),a=pre++rest->∀n,rest.length<n->gD a k n (pre.length:Int)=bif rest.all ab then k else some false:=by
 intro rest
 induction rest with
 |nil=>
  intro pre h n hn;obtain⟨m,rfl⟩:∃m,n=m+1:=⟨n-1,by simp at hn;omega⟩
  have e1:decide ((pre.length:Int)<(a.length:Int))=false:=by simp[h]
  rw[gD,e1];rfl
 |cons x xs ih=>
  intro pre h n hn;obtain⟨m,rfl⟩:∃m,n=m+1:=⟨n-1,by simp at hn;omega⟩
  have hl:a.length=pre.length+(xs.length+1):=by rw[h];simp
  have e1:decide ((pre.length:Int)<(a.length:Int))=true:=by rw[hl];simp;omega
  have e4:IntKind.i64.wrap ((pre.length:Int)+1)=((pre++[x]).length:Int):=by rw[JK (by omega)];simp
  have t:=ih (pre++[x]) (by simp[h]) m (by simp at hn;omega);rw[gD,e1,aH,wE h,aA,e4,t,dW];have c1:decide ((x.toNat:Int)>=97)= !decide ((x.toNat:Int)<97):=by rw[bp];simp
  have c2:decide ((x.toNat:Int)<=122)= !decide ((x.toNat:Int)>122):=by rw[bp];simp
  have c3:decide ((x.toNat:Int)>=48)= !decide ((x.toNat:Int)<48):=by rw[bp];simp
  have c4:decide ((x.toNat:Int)<=57)= !decide ((x.toNat:Int)>57):=by rw[bp];simp
  rw[ab,in1,in2,c1,c2,c3,c4];cases decide ((x.toNat:Int)<97)<;>cases decide ((x.toNat:Int)>122)<;>cases decide ((x.toNat:Int)<48)<;>cases decide ((x.toNat:Int)>57)<;>simp
theorem Ke(a:Bytes)(ha:a.length<=1048576):fT a=some (fR a):=by
 unfold fT;rw[show gD a (some true) fuel 0=_ from a3E a _ ha a [] rfl fuel (by unfold fuel;omega)];have c1:decide ((a.length:Int)>=1)= !decide ((a.length:Int)<1):=by rw[bp];simp
 have c2:decide ((a.length:Int)<=8)= !decide ((a.length:Int)>8):=by rw[bp];simp
 rw[fR,Ud,c1,c2];cases decide ((a.length:Int)<1)<;>cases decide ((a.length:Int)>8)<;>cases a.all ab<;>rfl
theorem YB(a:Bytes)(ha:a.length<=1048576):qU a=some (wQ a):=by
 unfold qU;rw[Kn a ha,aA,wQ];cases h:fR a with
 |false=>rfl
 |true=>
  cases a with
  |nil=>simp[fR,Ud]at h
  |cons x xs=>
   rw[show hO (x::xs) 0=some x from rfl];simp only[aH,aA,a2L,Iw,fC,aq,a1K];simp only[fR,dW,ab,in1,in2,aS,nk,bD]at h;rw[bp];simp only[aS,bD];omega
theorem XA(a:Bytes)(ha:a.length<=1048576):qR a=some (wQ a):=by
 unfold qR;rw[Ke a ha,aA,wQ];cases h:fR a with
 |false=>rfl
 |true=>
  cases a with
  |nil=>simp[fR,Ud]at h
  |cons x xs=>rfl
theorem PJ(a:Bytes)(ha:a.length<=1048576):gi a=some (fQ a):=by
 unfold gi;cases a with
 |nil=>rfl
 |cons x t=>
  simp only[aV]at ha;rw[show hO (x::t) 0=some x from rfl,aA,a1t (by simp),aA];have e:(((x::t).take ((x::t).length)).drop 1)=t:=by simp
  simp only[e,Kn t (by omega),aA,fQ,jh];cases t with
  |nil=>cases decide ((x.toNat:Int)=63)<;>rfl
  |cons y t=>
   have e2:decide ((((x::y::t).length:Int):Int)>1)=true:=by simp;omega
   rw[e2];cases decide ((x.toNat:Int)=63)<;>simp
theorem UX(a:Bytes)(ha:a.length<=1048576):l7 a=some (fQ a):=by
 unfold l7;cases a with
 |nil=>rfl
 |cons x t=>
  simp only[aV]at ha;rw[show hO (x::t) 0=some x from rfl,aA,a1t (by simp),aA];have e:(((x::t).take ((x::t).length)).drop 1)=t:=by simp
  simp only[e,Ke t (by omega),aA,fQ,jh];cases t with
  |nil=>cases decide ((x.toNat:Int)=63)<;>rfl
  |cons y t=>
   have e2:decide ((((x::y::t).length:Int):Int)>1)=true:=by simp;omega
   rw[e2];cases decide ((x.toNat:Int)=63)<;>simp
theorem YN(a:Bytes)(ha:a.length<=1048576):ir a=some (nj a):=by
 unfold ir nj;rw[Kn a ha,PJ a ha];cases fR a<;>simp
theorem XF(a:Bytes)(ha:a.length<=1048576):iq a=some (nj a):=by
 unfold iq nj;rw[Ke a ha,UX a ha];cases fR a<;>simp
theorem YP(l:aG)(h:l.length<=1099511627776):rI l=some l:=by
 unfold rI;rw[R4 h (by decide)];rfl
theorem On(l:aG)(h:l.length<=1099511627776):mZ l=some l:=by
 unfold mZ;rw[R4 h (by decide)];rfl
theorem YM(a b:aG):mo a b=some (decide (a=b)):=by
 unfold mo;exact Yx (c:=tx) (f:=fun x y=>some (x==y)) (fun k=>jc a b k) (fun _ _=>rfl) (fun _ _ _ _=>rfl) (fun x y=>by rw[aq,bp];simp)
theorem XD(a b:aG):ol a b=some (decide (a=b)):=by
 unfold ol;exact Yx (c:=tx) (f:=fun x y=>some (x==y)) (fun k=>lg a b k) (fun _ _=>rfl) (fun _ _ _ _=>rfl) (fun x y=>by rw[aq,bp];simp)
theorem a3O(a b:bJ):sJ a b=some (decide (a=b)):=by
 unfold sJ;exact Yx (c:=jf) (f:=fun x y=>some (x==y)) (fun k=>mc a b k) (fun _ _=>rfl) (fun _ _ _ _=>rfl) (fun x y=>by rw[aq,bp];simp)
theorem V0(l:aG)(v:Bytes):gI l v=some (l.contains v):=by
 unfold gI;have:∀(r:aG) (i:Nat),jQ l v (some false) r i=some (r.contains v):=by
  intro r
  induction r with
  |nil=>intro i;rfl
  |cons x r ih=>
   intro i;rw[jQ,ih,List.contains_cons];have:(x==v)=(v==x):=by rw[bp,cq,cq];exact eq_comm
   rw[this];cases v==x<;>rfl
 exact this l 0
theorem a02(l:aG)(v:Bytes):lC l v=some (l.contains v):=by
 unfold lC;have:∀(r:aG) (i:Nat),lD l v (some false) r i=some (r.contains v):=by
  intro r
  induction r with
  |nil=>intro i;rfl
  |cons x r ih=>
   intro i;rw[lD,ih,List.contains_cons];have:(x==v)=(v==x):=by rw[bp,cq,cq];exact eq_comm
   rw[this];cases v==x<;>rfl
 exact this l 0
theorem a2E(a:aG)(s:Bytes)(k:Bool->aG->Option aG):∀(l:aG) (i:Nat) (w:aG),w.length+l.length<1099511627776->
 eX a s k l i true w=k true (w++l):=by
 intro l
 induction l with
 |nil=>intro i w _;simp[eX]
 |cons x xs ih=>
  intro i w h;simp only[aV]at h;rw[eX,bQ,aQ,ic (by omega) (by decide),aH,ih _ _ (by simp;omega)];simp
theorem a6k(a:aG)(s:Bytes)(k:Bool->aG->Option aG)(hk:∀w,w.length<1099511627776->k false w=some (w++[s]))(hk2:∀w,k true w=some w):∀(l:aG) (i:Nat) (w:aG),w.length+l.length+1<1099511627776->
 eX a s k l i false w=some (w++yQ l s):=by
 intro l
 induction l with
 |nil=>intro i w h;rw[eX,hk w (by omega)];rfl
 |cons x xs ih=>
  intro i w h;simp only[aV]at h;rw[eX,bz,aH,yQ];cases Op.bytesLess x s with
  |true=>
   simp only[bQ,aQ,aH];rw[ic (by omega) (by decide),aH,ih _ _ (by simp;omega)];simp
  |false=>
   simp only[bz,aH,aQ];cases x==s with
   |true=>
    simp only[bQ,aQ,aH];rw[ic (by omega) (by decide),aH,a2E _ _ _ _ _ _ (by simp;omega),hk2];simp
   |false=>
    simp only[bz,aH,aQ];rw[ic (by omega) (by decide),aH];have e:room (((w.map tx)++[[D.str s]]).length+([[D.str x]]).length) 16=true:=Es (by simp;omega) (by decide);rw[e,aH,a2E _ _ _ _ _ _ (by simp;omega),hk2];simp
theorem Sd(l:aG)(s:Bytes)(h:l.length+1<1099511627776):lJ l s=some (yQ l s):=by
 unfold lJ;rw[a6k l s _ (fun w hw=>by simp only[bz,aH];rw[ic hw (by decide)];rfl) (fun w=>by simp) l 0 [] (by simpa using h)];rfl
def dd:Option Bytes->aG->aG
 |_,[]=>[]
 |p,x::xs=>if p=some x then dd (some x) xs else x::dd (some x) xs
theorem Rk:∀ {l:aG} {p:Option Bytes} {y:Bytes},y∈dd p l->y∈l
 | [],p,y,h=>by cases h
 |x::xs,p,y,h=>by
  simp only[dd]at h;split at h
  ·exact bB.2 (.inr (Rk h))
  ·rcases bB.1 h with rfl|h
   ·simp
   ·exact bB.2 (.inr (Rk h))
theorem XZ:∀ {l:aG} {p:Option Bytes} {y:Bytes},y∈l->p=some y\/y∈dd p l
 |x::xs,p,y,h=>by
  simp only[dd];rcases bB.1 h with rfl|h
  ·by_cases hp:p=some y
   ·exact .inl hp
   ·rw[az hp];exact .inr (by simp)
  ·have:=XZ (p:=some x) h;split
   ·rename_i hp;rcases this with e|e
    ·exact .inl (hp.trans e)
    ·exact .inr e
   ·rcases this with e|e
    ·cases e;exact .inr (by simp)
    ·exact .inr (by simp[e])
theorem a1F:∀ {l:aG} {p:Option Bytes},l.Pairwise (fun a b=>Op.bytesLess b a=false)->(∀q,p=some q->∀y∈l,Op.bytesLess y q=false)->SS (dd p l)/\∀q,p=some q->∀y∈dd p l,Op.bytesLess q y=true
 | [],p,_,_=>⟨by simp[dd,SS],by simp[dd]⟩
 |x::xs,p,h,hp=>by
  obtain⟨p1,p2⟩:=mS.1 h;obtain⟨i1,i2⟩:=a1F (l:=xs) (p:=some x) p2 (fun q hq y hy=>by cases hq;exact p1 y hy);simp only[dd];split
  ·rename_i he;exact⟨i1,fun q hq y hy=>by rw[he]at hq;cases hq;exact i2 x rfl y hy⟩
  ·rename_i he;refine⟨mS.2 ⟨fun y hy=>i2 x rfl y hy,i1⟩,fun q hq y hy=>?_⟩;have hqx:Op.bytesLess q x=true:=by
    cases hc:Op.bytesLess q x with
    |true=>rfl
    |false=>exact absurd (by rw[hq,Dj hc (hp q hq x (by simp))]) he
   rcases bB.1 hy with rfl|hy
   ·exact hqx
   ·exact xS hqx (i2 x rfl y hy)
theorem YT(l:aG):ni l=l.mergeSort (fun x y=> !Op.bytesLess y x):=by
 unfold ni
 congr 1
 funext x y
 rw[Go.Proofs.bytesLess_eq];rw[bp];simp[List.not_lt]
theorem PN(l:aG):(ni l).Pairwise (fun a b=>Op.bytesLess b a=false):=by
 rw[YT];have:=List.pairwise_mergeSort (le:=fun x y=> !Op.bytesLess y x) (fun a b c h1 h2=>by
  simp only[nR]at h1 h2⊢;cases hc:Op.bytesLess c a with
  |false=>rfl
  |true=>
   cases hb:Op.bytesLess b a with
   |true=>rw[h1]at hb;cases hb
   |false=>
    cases Mv:Op.bytesLess a b with
    |true=>have:=xS hc Mv;rw[h2]at this;cases this
    |false=>have:=Dj hb Mv;subst this;rw[h2]at hc;cases hc) (fun a b=>by
  cases hc:Op.bytesLess b a with
  |false=>simp
  |true=>simp[I3 hc]) l
 exact this.imp (fun h=>by simpa using h)
theorem Zg(l:aG):dd none (ni l)=eY l:=by
 refine JY (a1F (PN l) (by simp)).1 (Mf l) (fun x=>?_);rw[oq];have hm:x∈ni l↔x∈l:=(A9 l).mem_iff;constructor
 ·intro h;exact hm.1 (Rk h)
 ·intro h;rcases XZ (p:=none) (hm.2 h)with h|h
  ·cases h
  ·exact h
theorem XE(a:aG)(k:aG->Option aG)(ha:a.length<=1099511627775):∀(rest pre:aG) (w:aG),ni ([]++a)=pre++rest->w.length+rest.length<=1099511627775->
 eA a k rest pre.length w=k (w++dd pre.getLast? rest):=by
 have hlen:(ni ([]++a)).length=a.length:=(A9 _).length_eq;intro rest
 induction rest with
 |nil=>intro pre w _ _;simp[eA,dd]
 |cons x xs ih=>
  intro pre w h hw;simp only[aV]at hw;have hl:pre.length+(xs.length+1)=a.length:=by rw[<-hlen,h];simp
  have t:=fun w'=>ih (pre++[x]) w' (by rw[h];simp)
  simp only[bC,aV,br,nD]at t;rw[eA];rcases wW pre with rfl|⟨p,z,Z2⟩
  ·have e0:(((([]:aG).length:Int):Int)==0)=true:=rfl;rw[e0,aH,ic (by omega) (by decide),aH,t _ (by simp;omega)];simp[dd]
  ·rw[wV]at Z2;subst Z2;have e0:((((p++[z]).length:Int):Int)==0)=false:=by simp;omega
   have e1:IntKind.i64.wrap (((p++[z]).length:Int)-1)=(p.length:Int):=by
    rw[eM (pN.i64.2 (by simp at hl⊢;omega))];simp
   have e2:hO (ni ([]++a)) (p.length:Int)=some z:=wE (xs:=x::xs) (by rw[h];simp);rw[e0,aQ,e1,e2,aA];simp only[dd,nD];by_cases hz:z=x
   ·subst hz;have e3:((z:Bytes)==z)=true:=by simp
    rw[e3,bQ,aQ,t _ (by omega),bK rfl]
   ·have e3:((z:Bytes)==x)=false:=by simpa using hz
    rw[e3,bz,aH,ic (by omega) (by decide),aH,t _ (by simp;omega),az (by simpa using hz)];simp
theorem Om(l:aG)(h:l.length<1099511627775):jr l=some (eY l):=by
 have hlen:(ni ([]++l)).length=l.length:=(A9 _).length_eq;unfold jr;have e1:decide ((([]:aG)++l).length<4611686018427387904)=true:=by simp;omega
 rw[R4 (by omega) (by decide),aH,e1,aH,sU (by rw[hlen];omega),aH];have:=XE l (fun q=>some q) (by omega) (ni ([]++l)) [] [] rfl (by rw[hlen];simp;omega);rw[show([]:aG).length=0 from rfl]at this;rw[this,<-Zg];simp
end Go.Cx
namespace Go.Cx
open Go.RowKit Go.Proofs Tryz
theorem aD.PC{p:aD}{n:Nat}(h:p.wt<=n):p.rel.length<=n:=by unfold aD.wt tw at h;omega
theorem aD.dK{p:aD}{n:Nat}(h:p.wt<=n):p.args.length<=n:=by unfold aD.wt at h;have:=qk tw p.args;omega
theorem aD.tB{p:aD}{n:Nat}(h:p.wt<=n){x:Bytes}(hx:x∈p.args):x.length<=n:=by unfold aD.wt at h;have:=qK (w:=tw) hx;have e:tw x=x.length:=rfl;omega
theorem aL.fY{c:aL}{n:Nat}(h:c.wt<=n):c.pat.wt<=n:=by simp only[aL.wt,aD.wt]at h⊢;omega
theorem aL.Ad{c:aL}{n:Nat}(h:c.wt<=n):c.left.length<=n:=by simp only[aL.wt,tw]at h;omega
theorem aL.xw{c:aL}{n:Nat}(h:c.wt<=n):c.right.length<=n:=by simp only[aL.wt,tw]at h;omega
theorem Action.fY{c:Action}{n:Nat}(h:c.wt<=n):c.pat.wt<=n:=by simp only[Action.wt,aD.wt]at h⊢;omega
theorem aK.Tl{r:aK}{n:Nat}(h:r.wt<=n):r.name.length<=n:=by simp only[aK.wt,tw]at h;omega
theorem aK.sC{r:aK}{n:Nat}(h:r.wt<=n):rP aL.wt r.conds<=n:=by simp only[aK.wt]at h;omega
theorem aK.Hz{r:aK}{n:Nat}(h:r.wt<=n):rP Action.wt r.cg<=n:=by simp only[aK.wt]at h;omega
theorem aK.qe{r:aK}{n:Nat}(h:r.wt<=n){c:aL}(hc:c∈r.conds):c.wt<=n:=by have:=aK.sC h;have:=qK (w:=aL.wt) hc;omega
theorem aK.OL{r:aK}{n:Nat}(h:r.wt<=n){c:Action}(hc:c∈r.cg):c.wt<=n:=by have:=aK.Hz h;have:=qK (w:=Action.wt) hc;omega
theorem Cb(f:aD)(h:f.args.length<=1099511627776):eU f=some f:=by
 unfold eU;rw[YP _ h];rfl
theorem K5(f:aD)(h:f.args.length<=1099511627776):eC f=some f:=by
 unfold eC;rw[On _ h];rfl
theorem Se(a b:aD):oT a b=some (decide (a=b)):=by
 obtain⟨a0,a1⟩:=a;obtain⟨b0,b1⟩:=b;unfold oT;simp only[YM,aA,jh];by_cases h0:a0=b0<;>by_cases h1:a1=b1<;>simp[h0,h1]
theorem XC(a b:aD):nv a b=some (decide (a=b)):=by
 obtain⟨a0,a1⟩:=a;obtain⟨b0,b1⟩:=b;unfold nv;simp only[XD,aA,jh];by_cases h0:a0=b0<;>by_cases h1:a1=b1<;>simp[h0,h1]
theorem Sf(a b:aD):iY a b=some (decide (a=b)):=by
 obtain⟨a0,a1⟩:=a;obtain⟨b0,b1⟩:=b;unfold iY;simp only[YM,aA,jh];by_cases h0:a0=b0<;>by_cases h1:a1=b1<;>simp[h0,h1]
theorem MA(a b:aD):fU a b=some (decide (a=b)):=by
 obtain⟨a0,a1⟩:=a;obtain⟨b0,b1⟩:=b;unfold fU;simp only[XD,aA,jh];by_cases h0:a0=b0<;>by_cases h1:a1=b1<;>simp[h0,h1]
theorem LN(a b:aJ):kR a b=some (decide (a=b)):=by
 unfold kR;exact Yx (c:=aD.c) (f:=oT) (fun k=>lz a b k) (fun _ _=>rfl) (fun _ _ _ _=>rfl) Se
theorem LI(a b:aJ):j7 a b=some (decide (a=b)):=by
 unfold j7;exact Yx (c:=aD.c) (f:=nv) (fun k=>lW a b k) (fun _ _=>rfl) (fun _ _ _ _=>rfl) XC
def xq(p:aD):Bool:=p.args.all nj&&(wQ p.rel&&decide ((p.args.length:Int)<=3))
def oB(f:aD):Bool:=f.args.all fR&&(wQ f.rel&&decide ((f.args.length:Int)<=3))
theorem a26(f:aD)(h:f.wt<=1048576):qT f=some (oB f):=by
 unfold qT;rw[UG (f:=fW) (L:=om f _) (fun _=>rfl) (fun _ _ _=>rfl) f.args 0 (fun x hx=>Kn x (aD.tB h hx)),YB _ (aD.PC h),aA,ax,oB];cases f.args.all fR<;>cases wQ f.rel<;>rfl
theorem X8(f:aD)(h:f.wt<=1048576):oQ f=some (oB f):=by
 unfold oQ;rw[UG (f:=fT) (L:=oc f _) (fun _=>rfl) (fun _ _ _=>rfl) f.args 0 (fun x hx=>Ke x (aD.tB h hx)),XA _ (aD.PC h),aA,ax,oB];have c:decide ((f.args.length:Int)<=3)= !decide ((f.args.length:Int)>3):=by rw[bp];simp
 rw[c];cases f.args.all fR<;>cases wQ f.rel<;>cases decide ((f.args.length:Int)>3)<;>rfl
theorem a45(f:aD)(h:f.wt<=1048576):gw f=some (xq f):=by
 unfold gw;rw[UG (f:=ir) (L:=lm f _) (fun _=>rfl) (fun _ _ _=>rfl) f.args 0 (fun x hx=>YN x (aD.tB h hx)),YB _ (aD.PC h),aA,ax,xq];cases f.args.all nj<;>cases wQ f.rel<;>rfl
theorem a3L(f:aD)(h:f.wt<=1048576):j4 f=some (xq f):=by
 unfold j4;rw[UG (f:=iq) (L:=lU f _) (fun _=>rfl) (fun _ _ _=>rfl) f.args 0 (fun x hx=>XF x (aD.tB h hx)),XA _ (aD.PC h),aA,ax,xq];have c:decide ((f.args.length:Int)<=3)= !decide ((f.args.length:Int)>3):=by rw[bp];simp
 rw[c];cases f.args.all nj<;>cases wQ f.rel<;>cases decide ((f.args.length:Int)>3)<;>rfl
def jF(l:aG):aG:=l.filter fQ
theorem vr(l:aG):(jF l).length<=l.length:=sy _ _
theorem O5(a b:aG):jF (a++b)=jF a++jF b:=zK _ _
theorem JG(p:aD)(h:p.wt<=1048576):nB p=some (eY (jF p.args)):=by
 unfold nB;have:∀(r:aG) (i:Nat) (w:aG),(∀x∈r,x.length<=1048576)->w.length+r.length<=2097152->kT p (fun q=>some q) r i w=some ((jF r).foldl yQ w):=by
  intro r
  induction r with
  |nil=>intro i w _ _;rfl
  |cons x r ih=>
   intro i w hr hw;simp only[aV]at hw;have hl:=A5 w x;rw[kT,PJ x (hr x (by simp)),aA,Sd w x (by omega),aA,ih _ _ (fun y hy=>hr y (by simp[hy])) (by omega),ih _ _ (fun y hy=>hr y (by simp[hy])) (by omega)];cases hv:fQ x<;>simp[jF,hv]
 exact this p.args 0 [] (fun x hx=>aD.tB h hx) (by have:=aD.dK h;simp;omega)
theorem XH(l:aG)(hl:l.length<=2097152)(h:∀x∈l,x.length<=1048576):me l=some (jF l):=by
 unfold me;have:∀(r:aG) (i:Nat) (w:aG),(∀x∈r,x.length<=1048576)->w.length+r.length<=2097152->fq l (fun q=>some q) r i w=some (w++jF r):=by
  intro r
  induction r with
  |nil=>intro i w _ _;simp[fq,jF]
  |cons x r ih=>
   intro i w hr hw;simp only[aV]at hw;rw[fq,UX x (hr x (by simp)),aA,ic (by omega) (by decide),ih _ _ (fun y hy=>hr y (by simp[hy])) (by simp;omega),ih _ _ (fun y hy=>hr y (by simp[hy])) (by omega)];cases hv:fQ x<;>simp[jF,hv]
 exact this l 0 [] h (by simpa using hl)
def pu(c:aL):aG:=jF (c.pat.args++[c.left,c.right])
theorem x7{c:aL}{n:Nat}(h:c.wt<=n):(pu c).length<=n+2:=by
 have h1:=vr (c.pat.args++[c.left,c.right]);have h2:=aD.dK (aL.fY h);simp only[bC,aV,br]at h1;unfold pu;omega
theorem Sa(c:aL)(h:c.wt<=1048576):mD c=some (eY (pu c)):=by
 unfold mD;have h1:=aD.dK (aL.fY h);have h2:=pV (jF c.pat.args);have h3:=vr c.pat.args;have h4:=A5 (eY (jF c.pat.args)) c.left;rw[JG _ (aL.fY h),aA,PJ _ (aL.Ad h),aA,PJ _ (aL.xw h)];simp only[aA];rw[Sd _ _ (by omega),Sd _ _ (by omega),aA,Sd _ _ (by omega)];simp only[aA,pu,O5,Sp];cases hl:fQ c.left<;>cases hr:fQ c.right<;>simp[jF,hl,hr]
theorem XG(c:aL)(h:c.wt<=1048576):rD c=some (c.pat.args++[c.left,c.right]):=by
 unfold rD;have h1:=aD.dK (aL.fY h);rw[On _ (by omega),aA];rw[Es (by simp;omega) (by decide)];rfl
theorem S8(c:aL)(h:c.wt<=1048576):nu c=some (eY (pu c)):=by
 unfold nu;have h1:=aD.dK (aL.fY h);have h5:=x7 h;rw[XG c h,aA,XH _ (by simp;omega) (fun x hx=>by
  simp only[af,bB,List.not_mem_nil,or_false]at hx;rcases hx with hx|rfl|rfl
  ·exact aD.tB (aL.fY h) hx
  ·exact aL.Ad h
  ·exact aL.xw h),aA]
 rw[show jF (c.pat.args++[c.left,c.right])=pu c from rfl,Om _ (by omega)];rfl
def Bu(p:aD):Bool:=p.rel==[]&&decide ((p.args.length:Int)=0)
def nF(c:aL):Bool:=bif decide (c.kind=1)||decide (c.kind=2)then xq c.pat&&(c.left==[]&&c.right==[])else bif decide (c.kind=3)||decide (c.kind=4)||decide (c.kind=5)then Bu c.pat&&(nj c.left&&nj c.right)else false
def Gb(c:aL):Bool:=nF c&&decide (c.kind>=3)
theorem Gg{c:aL}(h:nF c=true):1<=c.kind/\c.kind<=5:=by
 unfold nF at h;by_cases h1:c.kind=1
 ·omega
 by_cases h2:c.kind=2
 ·omega
 by_cases h3:c.kind=3
 ·omega
 by_cases h4:c.kind=4
 ·omega
 by_cases h5:c.kind=5
 ·omega
 simp[h1,h2,h3,h4,h5]at h
theorem Y3(c:aL)(h:c.wt<=1048576):oR c=some (nF c):=by
 unfold oR nF Bu;simp only[a45 _ (aL.fY h),YN _ (aL.Ad h),YN _ (aL.xw h),aA,ax,jh];by_cases h1:c.kind=1
 ·simp only[h1];cases xq c.pat<;>cases decide (c.left=[])<;>simp
 by_cases h2:c.kind=2
 ·simp only[h2];cases xq c.pat<;>cases decide (c.left=[])<;>simp
 by_cases h3:c.kind=3
 ·simp only[h3];cases decide (c.pat.rel=[])<;>cases decide ((c.pat.args.length:Int)=0)<;>cases nj c.left<;>simp
 by_cases h4:c.kind=4
 ·simp only[h4];cases decide (c.pat.rel=[])<;>cases decide ((c.pat.args.length:Int)=0)<;>cases nj c.left<;>simp
 by_cases h5:c.kind=5
 ·simp only[h5];cases decide (c.pat.rel=[])<;>cases decide ((c.pat.args.length:Int)=0)<;>cases nj c.left<;>simp
 simp[h1,h2,h3,h4,h5]
theorem a1V(p:aD):iR p=some (Bu p):=by
 unfold iR Bu;simp only[ax,jh];cases decide (p.rel=[])<;>rfl
theorem X5(c:aL)(h:c.wt<=1048576):qQ c=some (nF c):=by
 unfold qQ nF;simp only[a3L _ (aL.fY h),XF _ (aL.Ad h),XF _ (aL.xw h),a1V,aA,jh];by_cases h1:c.kind=1
 ·simp only[h1];cases xq c.pat<;>cases decide (c.left=[])<;>simp
 by_cases h2:c.kind=2
 ·simp only[h2];cases xq c.pat<;>cases decide (c.left=[])<;>simp
 by_cases h3:c.kind=3
 ·simp only[h3];cases Bu c.pat<;>cases nj c.left<;>cases nj c.right<;>simp
 by_cases h4:c.kind=4
 ·simp only[h4];cases Bu c.pat<;>cases nj c.left<;>cases nj c.right<;>simp
 by_cases h5:c.kind=5
 ·simp only[h5];cases Bu c.pat<;>cases nj c.left<;>cases nj c.right<;>simp
 simp[h1,h2,h3,h4,h5]
theorem YO(c:aL)(h:c.wt<=1048576):qV c=some (Gb c):=by
 unfold qV Gb;rw[Y3 c h];cases nF c<;>rfl
theorem a63(c:aL)(h:c.wt<=1048576):uo c=some (Gb c):=by
 unfold uo Gb;rw[X5 c h];cases nF c<;>rfl
theorem YL(a b:aL):nw a b=some (decide (a=b)):=by
 obtain⟨a0,a1,a2,a3⟩:=a;obtain⟨b0,b1,b2,b3⟩:=b;unfold nw;simp only[Sf,aA,jh];by_cases h0:a0=b0<;>by_cases h1:a1=b1<;>by_cases h2:a2=b2<;>by_cases h3:a3=b3<;>simp[h0,h1,h2,h3]
theorem Ol(a b:aL):ji a b=some (decide (a=b)):=by
 obtain⟨a0,a1,a2,a3⟩:=a;obtain⟨b0,b1,b2,b3⟩:=b;unfold ji;simp only[MA,aA,jh];by_cases h0:a0=b0<;>by_cases h1:a1=b1<;>by_cases h2:a2=b2<;>by_cases h3:a3=b3<;>simp[h0,h1,h2,h3]
def LY(a:Action):Bool:=bif decide (a.kind=1)||decide (a.kind=2)then xq a.pat else bif decide (a.kind=3)then Bu a.pat else false
theorem a9U(a:Action)(h:a.wt<=1048576):sN a=some (LY a):=by
 unfold sN LY Bu;simp only[a45 _ (Action.fY h),aA,ax,jh];by_cases h1:a.kind=1
 ·simp[h1]
 by_cases h2:a.kind=2
 ·simp[h2]
 by_cases h3:a.kind=3
 ·simp only[h3];cases decide (a.pat.rel=[])<;>simp
 simp[h1,h2,h3]
theorem a9C(a:Action)(h:a.wt<=1048576):sG a=some (LY a):=by
 unfold sG LY;simp only[a3L _ (Action.fY h),a1V,aA,jh];by_cases h1:a.kind=1
 ·simp[h1]
 by_cases h2:a.kind=2
 ·simp[h2]
 by_cases h3:a.kind=3
 ·simp[h3]
 simp[h1,h2,h3]
end Go.Cx
namespace Go.Cx
open Go.RowKit Go.Proofs Tryz
theorem a0O:∀(k v:Nat),v<10^k->1<=k->Lib.nDigits v<=k:=by
 intro k
 induction k with
 |zero=>intro v _ h;omega
 |succ k ih=>
  intro v hv _;by_cases h10:v<10
  ·rw[Lib.nDigits_small h10];omega
  ·rw[Lib.nDigits_big h10];have h3:v/10<10^k:=by rw[wA]at hv;omega
   have hk1:1<=k:=by
    cases k with
    |zero=>simp at hv;omega
    |succ k=>omega
   have:=ih (v/10) h3 hk1;omega
theorem SK{u:Nat}(h:u<=9223372036854775808):Lib.nDigits u<=19:=a0O 19 u (by omega) (by omega)
theorem a7u(u:Nat):UInt8.ofNat (IntKind.u8.wrap (IntKind.i64.wrap (48+((u:Int)%10)))).toNat=UInt8.ofNat (48+u%10):=by
 rw[eM (k:=.i64) (pN.i64.2 (by omega)),eM (pN.u8.2 (by omega))]
 congr 1
theorem a27(k:Option Bytes):∀(n u:Nat) (acc:Bytes),Lib.nDigits u<=n->acc.length+Lib.nDigits u<=1000->iC k n (u:Int) acc=some (Lib.decDigits u++acc):=by
 intro n
 induction n with
 |zero=>intro u acc h _;have:=Lib.nDigits_pos u;omega
 |succ n ih=>
  intro u acc hn hl;have hp:=Lib.nDigits_pos u;have e0:(decide (0<=(u:Int))&&decide (0<(10:Int)))=true:=by simp
  have e1:decide (([UInt8.ofNat (48+u%10)]:Bytes).length+(acc:Bytes).length<=maxLen)=true:=by unfold maxLen;simp;omega
  rw[iC];simp only[a7u,e0,e1,aH];by_cases h10:u<10
  ·have e2:(((u:Int)/10:Int)==0)=true:=by rw[cq];omega
   rw[e2,aH,Lib.decDigits,dif_pos h10,Nat.mod_eq_of_lt h10]
  ·have e2:(((u:Int)/10:Int)==0)=false:=by rw[cy];omega
   have e3:((u:Int)/10)=((u/10:Nat):Int):=by omega
   have hd:=Lib.nDigits_big h10;rw[e2,aQ,e3,ih (u/10) _ (by omega) (by simp;omega)]
   conv=>rhs;rw[Lib.decDigits,dif_neg h10]
   simp
theorem a6a(m u:Nat)(h:u<=9223372036854775807):gh (m+1) (u:Int)=some (Lib.decDigits u):=by
 rw[gh];have e1:((u:Int)==(-9223372036854775808))=false:=by rw[cy];omega
 have e2:decide ((u:Int)<0)=false:=by simp
 have:=SK (u:=u) (by omega);rw[e1,aQ,e2,aQ,a27 _ _ _ _ (by unfold fuel;omega) (by simp;omega)];simp
theorem XJ:Lib.itoa (-9223372036854775808)=[45,57,50,50,51,51,55,50,48,51,54,56,53,52,55,55,53,56,48,56]:=by
 unfold Lib.itoa;simp[Lib.decDigits]
theorem a42(n:Int)(h:pN .i64 n):mh n=some (Lib.itoa n):=by
 have h:=pN.i64.1 h;unfold mh;rw[show fuel=4194303+1 from rfl,gh];by_cases hm:n= -9223372036854775808
 ·subst hm;rw[XJ];rfl
 have e1:((n:Int)==(-9223372036854775808))=false:=by rw[cy];exact hm
 rw[e1,aQ];by_cases hn:n<0
 ·have e2:decide (n<0)=true:=by simpa using hn
  have e3:IntKind.i64.wrap (0-n)=((n.natAbs:Nat):Int):=by rw[eM (pN.i64.2 (by omega))];omega
  have hd:=SK (u:=n.natAbs) (by omega);rw[e2,aH,e3,show(4194303:Nat)=4194302+1 from rfl,a6a _ _ (by omega),aA];have e4:decide (([45]:Bytes).length+(Lib.decDigits n.natAbs:Bytes).length<=maxLen)=true:=by unfold maxLen;rw[Lib.decDigits_length];simp;omega
  rw[e4,aH];unfold Lib.itoa;rw[bK hn];rfl
 ·have e2:decide (n<0)=false:=by simpa using hn
  have e3:n=((n.toNat:Nat):Int):=by omega
  have:=SK (u:=n.toNat) (by omega);rw[e2,aQ]
  conv=>lhs;rw[e3]
  rw[a27 _ _ _ _ (by unfold fuel;omega) (by simp;omega)];unfold Lib.itoa;rw[az hn];simp
theorem a3J(n:Int):kD n=some (Lib.itoa n):=by
 unfold kD zv;rfl
theorem MD(n:Int)(h:pN .i64 n):(Lib.itoa n).length<=21:=by
 have:=pN.i64.1 h;exact Lib.itoa_length_le n this.1 this.2
def Cq(to:aM)(s:Bytes):Bytes:=match to with
 | []=>s
 |p::r=>bif p.var==s then p.value else Cq r s
def Mc(to:aM)(x:aL):aL:=⟨x.kind,⟨x.pat.rel,x.pat.args.map (Cq to)⟩,Cq to x.left,Cq to x.right⟩
theorem sRn(to:aM)(s:Bytes):kW s to=some (Cq to s):=by
 unfold kW;have:∀(r:aM) (i:Nat),jR s to (some s) r i=some (Cq r s):=by
  intro r
  induction r with
  |nil=>intro i;rfl
  |cons x r ih=>
   intro i;rw[jR,ih,Cq];cases x.var==s<;>rfl
 exact this to 0
theorem iRn(to:aM)(s:Bytes):iP s to=some (Cq to s):=by
 unfold iP;have:∀(r:aM) (i:Nat),iB s to (some s) r i=some (Cq r s):=by
  intro r
  induction r with
  |nil=>intro i;rfl
  |cons x r ih=>
   intro i;rw[iB,ih,Cq];cases x.var==s<;>rfl
 exact this to 0
theorem a48(x:aL)(to:aM)(h:x.pat.args.length<=1099511627770):jU x to=some (Mc to x):=by
 unfold jU;rw[sRn,aA,sRn,aA];rw[DT (c:=tx) (b:=16) (f:=fun a=>kW a to) (g:=Cq to) (L:=kQ x to (Cq to x.left) (Cq to x.right) _) (k:=_) (by decide) (fun _ _=>rfl) (fun _ _ _ _=>rfl) _ _ _ (fun a _=>sRn to a) (by simp;omega)];rfl
theorem a5y(x:aL)(to:aM)(h:x.pat.args.length<=1099511627770):l8 x to=some (Mc to x):=by
 unfold l8;rw[iRn,aA,iRn,aA];rw[DT (c:=tx) (b:=16) (f:=fun a=>iP a to) (g:=Cq to) (L:=kH x to (Cq to x.left) (Cq to x.right) _) (k:=_) (by decide) (fun _ _=>rfl) (fun _ _ _ _=>rfl) _ _ _ (fun a _=>iRn to a) (by simp;omega)];rfl
def Ea(l:aM)(t:Bytes):Bool:=l.any fun p=>p.var==t
def lN(l:aM)(t:Bytes):aM:=bif fQ t&& !Ea l t then l++[⟨t,[63]++Lib.itoa ((l.length:Int)+1)⟩]else l
theorem Bl(l:aM)(t:Bytes):(lN l t).length<=l.length+1:=by
 unfold lN;cases fQ t&& !Ea l t<;>simp
theorem yO:∀(ts:aG) (l:aM),(ts.foldl lN l).length<=l.length+ts.length
 | [],l=>by simp
 |t::ts,l=>by
  have h1:=yO ts (lN l t);have h2:=Bl l t;rw[cJ,aV];omega
theorem PG(l:aM)(t:Bytes)(hl:l.length<=1099511627770)(ht:t.length<=1048576):oW l t=some (lN l t):=by
 unfold oW;rw[PJ t ht,aA,lN];cases hv:fQ t with
 |false=>rfl
 |true=>
  rw[bQ,aQ,fC];have key:∀(k:Option aM) (r:aM) (i:Nat),n9 l t k r i=bif Ea r t then some l else k:=by
   intro k r
   induction r with
   |nil=>intro i;rfl
   |cons x r ih=>
    intro i;rw[n9,ih];simp only[Ea,xN];cases x.var==t<;>simp
  rw[key];cases Ea l t with
  |true=>rfl
  |false=>
   have e1:IntKind.i64.wrap (((l.map aR.c).length:Int)+1)=(l.length:Int)+1:=by rw[eM (pN.i64.2 (by simp;omega))];simp
   have hr:pN .i64 ((l.length:Int)+1):=pN.i64.2 (by omega);have hi:=MD _ hr;have e2:decide (([63]:Bytes).length+(Lib.itoa ((l.length:Int)+1):Bytes).length<=maxLen)=true:=by unfold maxLen;simp;omega
   simp only[aQ,bz,aH];rw[e1,a42 _ hr,aA,e2,aH,ic (by omega) (by decide)];rfl
theorem Qg(x y:Bytes):∀(m:List (Bytes×Bool)),J2 false y (ML x true m)=(y==x||J2 false y m)
 | []=>by simp only[ML,J2];cases y==x<;>rfl
 |p::m=>by
  simp only[ML];cases h:x==p.1 with
  |true=>
   have h':x=p.1:=by simpa using h
   subst h';simp only[aH,J2];cases y==p.1<;>simp
  |false=>
   simp only[aQ,J2,Qg x y m];cases hy:y==p.1 with
   |true=>
    have h1:y=p.1:=by simpa using hy
    have h2:(y==x)=false:=by
     rw[cy]at h⊢;intro e;exact h (e.symm.trans h1)
    simp[h2]
   |false=>simp
theorem UQ(l:aM)(x y v:Bytes):Ea (l++[⟨x,v⟩]) y=(y==x||Ea l y):=by
 have:(x==y)=(y==x):=by rw[bp,cq,cq];exact eq_comm
 simp only[Ea,List.any_append,xN,Hu,sY,this];cases y==x<;>simp
theorem Tg(ts:aG)(hl:ts.length<=1099511627700)(h:∀x∈ts,x.length<=1048576):nZ ts=some (ts.foldl lN []):=by
 unfold nZ;have key:∀(r:aG) (i:Nat) (w:aM) (m:List (Bytes×Bool)),(∀x∈r,x.length<=1048576)->w.length+r.length<=1099511627700->(∀y,J2 false y m=Ea w y)->
  fM ts (fun q=>some q) r i w m=some (r.foldl lN w):=by
  intro r
  induction r with
  |nil=>intro i w m _ _ _;rfl
  |cons x r ih=>
   intro i w m hx hw hm;simp only[aV]at hw;have hr:pN .i64 ((w.length:Int)+1):=pN.i64.2 (by omega);have hi:=MD _ hr;have e1:IntKind.i64.wrap (((w.map aR.c).length:Int)+1)=(w.length:Int)+1:=by rw[eM (pN.i64.2 (by simp;omega))];simp
   have e2:decide (([63]:Bytes).length+(Lib.itoa ((w.length:Int)+1):Bytes).length<=maxLen)=true:=by unfold maxLen;simp;omega
   rw[fM,UX x (hx x (by simp)),aA,cJ,lN,hm x];cases hv:fQ x with
   |false=>simp only[aQ,Bool.false_and];exact ih _ _ _ (fun y hy=>hx y (by simp[hy])) (by omega) hm
   |true=>
    cases hh:Ea w x with
    |true=>simp only[aH,bQ,aQ,fC];exact ih _ _ _ (fun y hy=>hx y (by simp[hy])) (by omega) hm
    |false=>
     simp only[aH,bz,fC];rw[e1,a3J,aA,e2,aH,ic (by omega) (by decide),aH];exact ih _ _ _ (fun y hy=>hx y (by simp[hy])) (by simp;omega) (fun y=>by rw[Qg,UQ,hm])
 exact key ts 0 [] [] h (by simpa using hl) (fun y=>rfl)
def vW(p:aD):aD:=(Mc (p.args.foldl lN []) ⟨0,p,[],[]⟩).pat
theorem a4E(p:aD)(h:p.wt<=1048576):rH p=some (vW p):=by
 have hl:=aD.dK h;unfold rH;have key:∀(k:aM->Option aD) (r:aG) (i:Nat) (w:aM),(∀x∈r,x.length<=1048576)->w.length+r.length<=1099511627700->lH p k r i w=k (r.foldl lN w):=by
  intro k r
  induction r with
  |nil=>intro i w _ _;rfl
  |cons x r ih=>
   intro i w hx hw;simp only[aV]at hw;have:=Bl w x;rw[lH,PG w x (by omega) (hx x (by simp)),aA,ih _ _ (fun y hy=>hx y (by simp[hy])) (by omega)];rfl
 rw[key _ _ _ _ (fun x hx=>aD.tB h hx) (by simp;omega),a48 _ _ (by simp;omega)];rfl
theorem a3Q(p:aD)(h:p.wt<=1048576):qv p=some (vW p):=by
 have hl:=aD.dK h;unfold qv;rw[Tg _ (by omega) (fun x hx=>aD.tB h hx),aA,a5y _ _ (by simp;omega)];rfl
def vX(l:ah):aG:=l.flatMap fun c=>c.pat.args++[c.left,c.right]
theorem Sk(l:ah):(vX l).length<=3*rP aL.wt l:=by
 unfold vX
 induction l with
 |nil=>simp
 |cons x l ih=>
  rw[cH,bC,oG];have:=aD.dK (aL.fY (c:=x) (bR _));simp only[bC,aV,br];omega
def gN(r:aK):aM:=(vX r.conds).foldl lN []
def eP(r:aK):ah:=r.conds.map (Mc (gN r))
theorem YD(a:aK)(i:Nat)(c:aL)(k:aM->Option aM):∀(r:aG) (j:Nat) (w:aM),(∀x∈r,x.length<=1048576)->w.length+r.length<=1099511627700->iW a i c k r j w=k (r.foldl lN w):=by
 intro r
 induction r with
 |nil=>intro i w _ _;rfl
 |cons x r ih=>
  intro i w hx hw;simp only[aV]at hw;have:=Bl w x;rw[iW,PG w x (by omega) (hx x (by simp)),aA,ih _ _ (fun y hy=>hx y (by simp[hy])) (by omega)];rfl
theorem YC(r:aK)(h:r.wt<=1048576):nh r=some (gN r):=by
 unfold nh;have key:∀(l:ah) (i:Nat) (w:aM),(∀c∈l,c.wt<=1048576)->w.length+3*rP aL.wt l<=1099511627700->iV r (fun q=>some q) l i w=some ((vX l).foldl lN w):=by
  intro l
  induction l with
  |nil=>intro i w _ _;rfl
  |cons c l ih=>
   intro i w hc hw;rw[oG]at hw;have QR:=hc c (by simp);have ha:=aD.dK (aL.fY (c:=c) (bR _));have h1:=yO c.pat.args w;have h2:=Bl (c.pat.args.foldl lN w) c.left;have h3:=Bl (lN (c.pat.args.foldl lN w) c.left) c.right;rw[iV,sU (by omega),aH,YD _ _ _ _ _ _ _ (fun x hx=>aD.tB (aL.fY QR) hx) (by omega),PG _ _ (by omega) (aL.Ad QR),aA,PG _ _ (by omega) (aL.xw QR),aA,
    ih _ _ (fun y hy=>hc y (by simp[hy])) (by omega)]
   simp[vX]
 have:=aK.sC h;exact key r.conds 0 [] (fun c hc=>aK.qe h hc) (by simp;omega)
theorem XB(r:aK)(h:r.wt<=1048576):nW r=some (gN r):=by
 unfold nW;have hw:=aK.sC h;have key:∀(k:aG->Option aM) (l:ah) (i:Nat) (w:aG),(∀c∈l,c.wt<=1048576)->w.length+3*rP aL.wt l<=1099511627700->gR r k l i w=k (w++vX l):=by
  intro k l
  induction l with
  |nil=>intro i w _ _;simp[gR,vX]
  |cons c l ih=>
   intro i w hc hw;rw[oG]at hw;have QR:=hc c (by simp);have ha:=aD.dK (aL.fY (c:=c) (bR _));rw[gR,XG c QR,aA,Xx (by simp;omega) (by decide),aH,ih _ _ (fun y hy=>hc y (by simp[hy])) (by simp;omega)];simp[vX]
 have hl:=Sk r.conds;rw[key _ _ _ _ (fun c hc=>aK.qe h hc) (by simp;omega),cw,Tg _ (by omega) ?_]
 ·rfl
 ·intro x hx;unfold vX at hx;obtain⟨c,hc,hx⟩:=bg.1 hx;have QR:=aK.qe h hc;rcases af.1 hx with hx|hx
  ·exact aD.tB (aL.fY QR) hx
  ·simp only[bB,List.not_mem_nil,or_false]at hx;rcases hx with rfl|rfl
   ·exact aL.Ad QR
   ·exact aL.xw QR
theorem a3t(r:aK)(h:r.wt<=1048576):qD r=some (eP r):=by
 unfold qD;have hw:=aK.sC h;have hl:=qk aL.wt r.conds;rw[YC r h,aA];rw[DT (c:=aL.c) (b:=80) (f:=fun a=>jU a (gN r)) (g:=Mc (gN r)) (L:=kP r (gN r) _) (k:=_) (by decide) (fun _ _=>rfl) (fun _ _ _ _=>rfl) _ _ _ (fun c hc=>a48 c _ (by have:=aD.dK (aL.fY (aK.qe h hc));omega)) (by simp;omega)];simp[eP]
theorem a3G(r:aK)(h:r.wt<=1048576):q8 r=some (eP r):=by
 unfold q8;have hw:=aK.sC h;have hl:=qk aL.wt r.conds;rw[XB r h,aA];rw[DT (c:=aL.c) (b:=80) (f:=fun a=>l8 a (gN r)) (g:=Mc (gN r)) (L:=kG r (gN r) _) (k:=_) (by decide) (fun _ _=>rfl) (fun _ _ _ _=>rfl) _ _ _ (fun c hc=>a5y c _ (by have:=aD.dK (aL.fY (aK.qe h hc));omega)) (by simp;omega)];simp[eP]
end Go.Cx
namespace Go.Cx
open Go.RowKit Go.Proofs Tryz
def NOk(n:aI):Prop:=n.nodes.length<=1048576/\∀x∈n.nodes,x.cond.wt<=1048576
theorem a0Z(s:Bytes):Cq [] s=s:=rfl
theorem Xq(x:aL):Mc [] x=x:=by
 have:x.pat.args.map (Cq [])=x.pat.args:=by
  rw[show(Cq [])=id from funext a0Z];simp
 unfold Mc;rw[this];rfl
def dG(i:Nat):Int:=(i:Int)
def NN(ns:bL):Nat->Nat->aX
 |0,_=>[]
 |k+1,v=>v::(match ns[v]? with
  |some x=>if 1<=x.parent/\x.parent<(v:Int)then NN ns k x.parent.toNat else []
  |none=>[])
def Aj(ns:bL)(i:Nat):Option aL:=(ns[i]?).map Node.cond
def GV(ns:bL)(k v:Nat):ah:=(NN ns k v).reverse.filterMap (Aj ns)
def fO(ns:bL)(v:Int):ah:=if 1<=v/\v<(ns.length:Int)then GV ns v.toNat v.toNat else []
theorem RJ{ns:bL}{k v:Nat}{x:Node}(hx:ns[v]?=some x):NN ns (k+1) v=v::(if 1<=x.parent/\x.parent<(v:Int)then NN ns k x.parent.toNat else []):=by simp only[NN,hx]
theorem Yh(ns:bL):∀(k v:Nat),v<ns.length->∀i∈NN ns k v,i<ns.length
 |0,v,_,i,hi=>by cases hi
 |k+1,v,hv,i,hi=>by
  rw[NN]at hi;rcases bB.1 hi with rfl|hi
  ·exact hv
  ·split at hi
   ·split at hi
    ·rename_i x hx hp;exact Yh ns k _ (by omega) i hi
    ·cases hi
   ·cases hi
theorem U2(ns:bL):∀(k v:Nat),(NN ns k v).length<=k
 |0,v=>by simp[NN]
 |k+1,v=>by
  rw[NN,aV];split
  ·split
   ·have:=U2 ns k (by assumption:Node).parent.toNat;omega
   ·simp
  ·simp
theorem MY{ns:bL}{k v:Nat}{x:Node}(hx:ns[v]?=some x):GV ns (k+1) v=(if 1<=x.parent/\x.parent<(v:Int)then GV ns k x.parent.toNat else [])++[x.cond]:=by
 have hc:Aj ns v=some x.cond:=by unfold Aj;rw[hx];rfl
 unfold GV;rw[RJ hx];by_cases hp:1<=x.parent/\x.parent<(v:Int)
 ·rw[bK hp,bK hp];simp[hc]
 ·rw[az hp,az hp];simp[hc]
theorem PF(x:aL)(h:x.pat.args.length<=1099511627770):je x=some x:=by
 unfold je;rw[a48 x [] h,aA,Xq]
theorem Oi(x:aL)(h:x.pat.args.length<=1099511627770):fK x=some x:=by
 unfold fK eD;rw[On x.pat.args (by omega)];rfl
theorem a47(n:aI)(h:NOk n)(K:ah->Option ah):∀(k v fu:Nat) (w:ah),v<=k->1<=v->v<n.nodes.length->k<fu->w.length+k<=4194304->jC n K fu (v:Int) w=K (GV n.nodes k v++w):=by
 have hl:=h.1;intro k
 induction k with
 |zero=>intro v fu w h1 h2;omega
 |succ k ih=>
  intro v fu w h1 h2 h3 h4 h5;obtain⟨fu,rfl⟩:∃m,fu=m+1:=⟨fu-1,by omega⟩
  have hx:n.nodes[v]?=some n.nodes[v]:=aa h3;have hw:=h.2 _ (oY h3);generalize hxe:n.nodes[v]=x at*;have e1:IntKind.i64.wrap (((n.nodes.map Node.c).length:Int)-1)=(n.nodes.length:Int)-1:=by rw[ax];exact eM (pN.i64.2 (by omega))
  have e2:(decide ((v:Int)>=1)&&decide ((v:Int)<=(n.nodes.length:Int)-1))=true:=by simp;omega
  have e3:hO n.nodes (v:Int)=some x:=by unfold hO;rw[ay (by omega),aH];exact hx
  have e4:=PF x.cond (by have:=aD.dK (aL.fY hw);omega);rw[jC,e1,Iw,aA,e2,aH,e3,aA,e4,aA,Es (by simp;omega) (by decide),aH,MY hx];by_cases h6:x.parent>=(v:Int)
  ·rw[ay h6,aH,az (by omega)];rfl
  ·rw[bH h6,aQ];by_cases h7:1<=x.parent
   ·rw[bK ⟨h7,by omega⟩];obtain⟨m,hm⟩:=nS (by omega:0<=x.parent);rw[hm];rw[ih m fu ([x.cond]++w) (by omega) (by omega) (by omega) (by omega) (by simp;omega)];simp
   ·rw[az (by omega)];obtain⟨fu,rfl⟩:∃m,fu=m+1:=⟨fu-1,by omega⟩
    have e5:(decide (x.parent>=1)&&decide (x.parent<=(n.nodes.length:Int)-1))=false:=by
     rw[bH (by omega)];rfl
    rw[jC,e1,Iw,aA,e5,aQ];rfl
theorem YF(n:aI)(v:Int)(h:NOk n):si n v=some (fO n.nodes v):=by
 have hl:=h.1;unfold si fO;by_cases hv:1<=v/\v<(n.nodes.length:Int)
 ·rw[bK hv];obtain⟨m,rfl⟩:=nS (by omega:0<=v);rw[a47 n h _ m m fuel [] (bR _) (by omega) (by omega) (by unfold fuel;omega) (by simp;omega)];simp
 ·rw[az hv];have e1:IntKind.i64.wrap (((n.nodes.map Node.c).length:Int)-1)=(n.nodes.length:Int)-1:=by rw[ax];exact eM (pN.i64.2 (by omega))
  have e2:(decide (v>=1)&&decide (v<=(n.nodes.length:Int)-1))=false:=by
   by_cases h1:1<=v
   ·have h2:¬v<=(n.nodes.length:Int)-1:=by omega
    rw[bH h2,w8]
   ·rw[bH h1];rfl
  rw[show fuel=4194303+1 from rfl,jC,e1,Iw,aA,e2,aQ]
theorem a03(n:aI)(h:NOk n)(K:bJ->Option ah):∀(k v fu:Nat) (w:bJ),v<=k->1<=v->v<n.nodes.length->k<fu->w.length+k<=4194304->mY n K fu (v:Int) w=K (w++(NN n.nodes k v).map dG):=by
 have hl:=h.1;intro k
 induction k with
 |zero=>intro v fu w h1 h2;omega
 |succ k ih=>
  intro v fu w h1 h2 h3 h4 h5;obtain⟨fu,rfl⟩:∃m,fu=m+1:=⟨fu-1,by omega⟩
  have hx:n.nodes[v]?=some n.nodes[v]:=aa h3;generalize hxe:n.nodes[v]=x at*;have e3:hO n.nodes (v:Int)=some x:=by unfold hO;rw[ay (by omega),aH];exact hx
  rw[mY,ic (by omega) (by decide),aH,e3,aA,RJ hx];by_cases h7:x.parent<1
  ·rw[ay h7,aH,az (by omega)];rfl
  ·rw[bH h7,aQ];by_cases h6:x.parent>=(v:Int)
   ·rw[ay h6,aH,az (by omega)];rfl
   ·rw[bH h6,aQ,bK ⟨by omega,by omega⟩];obtain⟨m,hm⟩:=nS (by omega:0<=x.parent);rw[hm,ih m fu (w++[(v:Int)]) (by omega) (by omega) (by omega) (by omega) (by simp;omega)];simp[dG]
theorem a04(n:aI)(h:NOk n)(us:aX)(tI:∀i∈us,i<n.nodes.length)(hul:us.length<=1048576)(K:ah->Option ah):∀(j fu:Nat) (w:ah),j<=us.length->j<fu->w.length+j<=4194304->kF n (us.map dG) K fu ((j:Int)-1) w=K (w++((us.take j).reverse.filterMap (Aj n.nodes))):=by
 intro j
 induction j with
 |zero=>
  intro fu w _ hf _;obtain⟨fu,rfl⟩:∃m,fu=m+1:=⟨fu-1,by omega⟩
  rw[kF,bH (by omega),aQ];simp
 |succ j ih=>
  intro fu w hj hf hw;obtain⟨fu,rfl⟩:∃m,fu=m+1:=⟨fu-1,by omega⟩
  have hlt:j<us.length:=by omega
  have h3:=tI us[j] (oY hlt);have hx:n.nodes[us[j]]?=some n.nodes[us[j]]:=aa h3;have hww:=h.2 _ (oY h3);generalize hxe:n.nodes[us[j]]=x at*;have e0:((j+1:Nat):Int)-1=(j:Int):=by omega
  have e1:hO (us.map dG) (j:Int)=some ((us[j]:Nat):Int):=by
   unfold hO;rw[ay (by omega),aH];show(us.map dG)[(j:Int).toNat]?=_;rw[pX,bt,aa hlt];rfl
  have e3:hO n.nodes ((us[j]:Nat):Int)=some x:=by unfold hO;rw[ay (by omega),aH];exact hx
  have e4:=Oi x.cond (by have:=aD.dK (aL.fY hww);omega);have e5:IntKind.i64.wrap ((j:Int)-1)=(j:Int)-1:=eM (pN.i64.2 (by omega));rw[e0,kF,ay (by omega),aH,e1,aA,e3,aA,e4,aA,ic (by omega) (by decide),aH,e5,ih fu _ (by omega) (by omega) (by simp;omega)];have hc:Aj n.nodes us[j]=some x.cond:=by unfold Aj;rw[hx];rfl
  have ht:us.take (j+1)=us.take j++[us[j]]:=by rw[List.take_add_one,aa hlt];rfl
  rw[ht,List.reverse_append,List.filterMap_append];simp[hc]
theorem a3M(n:aI)(v:Int)(h:NOk n):ur n v=some (fO n.nodes v):=by
 have hl:=h.1;unfold ur fO;rw[ax];by_cases h1:v<1
 ·rw[ay h1,aH,az (by omega)]
 ·rw[bH h1,aQ];by_cases h2:v>=(n.nodes.length:Int)
  ·rw[ay h2,aH,az (by omega)]
  ·rw[bH h2,aQ,bK ⟨by omega,by omega⟩];obtain⟨m,rfl⟩:=nS (by omega:0<=v);rw[a03 n h _ m m fuel [] (bR _) (by omega) (by omega) (by unfold fuel;omega) (by simp;omega)];have hul:=U2 n.nodes m m;have e5:IntKind.i64.wrap ((((([]:bJ)++(NN n.nodes m m).map dG).map jf).length:Int)-1)=(((NN n.nodes m m).length:Nat):Int)-1:=by
    rw[cw,ax,ax];exact eM (pN.i64.2 (by omega))
   rw[e5,cw,a04 n h (NN n.nodes m m) (Yh n.nodes m m (by omega)) (by omega) _ (NN n.nodes m m).length fuel [] (bR _) (by unfold fuel;omega) (by simp;omega),wz];rfl
end Go.Cx
namespace Go.Cx
open Go.RowKit Go.Proofs Tryz
def nmB(k:Nat):Bytes:=[63]++Lib.itoa ((k:Int)+1)
theorem decDigits_one{u:Nat}(h:u<10):Lib.decDigits u=[UInt8.ofNat (48+u)]:=by
 rw[Lib.decDigits,dif_pos h]
theorem LL:∀i,i<6->nmB i=[63,UInt8.ofNat (49+i)]
 |0,_|1,_|2,_|3,_|4,_|5,_=>by
  unfold nmB Lib.itoa;rw[az (by decide),decDigits_one (by decide)];decide
 |n+6,h=>by omega
theorem a0R:∀i,i<6->∀j,j<6->nmB i=nmB j->i=j:=by
 intro i hi j hj e;rw[LL i hi,LL j hj]at e
 revert i j
 decide
theorem Tn:∀i,i<6->fQ (nmB i)=true:=by
 intro i hi;rw[LL i hi]
 revert i
 decide
def Vn(N:aM):Prop:=∀(i:Nat) p,N[i]?=some p->p.value=nmB i/\fQ p.var=true
theorem QO(N:aM)(t:Bytes):Ea N t=true↔∃p∈N,p.var=t:=by simp[Ea]
theorem Uk(N:aM)(t:Bytes){p:aR}(h:p∈N):p∈lN N t:=by
 unfold lN;cases fQ t&& !Ea N t<;>simp[h]
theorem QM:∀(ts:aG) (N:aM) {p:aR},p∈N->p∈ts.foldl lN N
 | [],_,_,h=>h
 |t::ts,N,p,h=>QM ts (lN N t) (Uk N t h)
theorem Yn{N:aM}(h:Vn N)(t:Bytes):Vn (lN N t):=by
 unfold lN;cases hv:fQ t&& !Ea N t with
 |false=>exact h
 |true=>
  simp only[aS]at hv;intro i p hp;rw[aH]at hp;rcases eO i N.length with hlt|hge
  ·rw[au hlt]at hp;exact h i p hp
  ·rw[bA hge]at hp;cases hi:i-N.length with
   |zero=>
    rw[hi]at hp;simp at hp;subst hp;have:i=N.length:=by omega
    subst this;exact⟨rfl,hv.1⟩
   |succ m=>rw[hi]at hp;simp at hp
theorem JJ:∀(ts:aG) {N:aM},Vn N->Vn (ts.foldl lN N)
 | [],_,h=>h
 |t::ts,_,h=>JJ ts (Yn h t)
def RS(N:aM):Prop:=(N.map aR.var).Nodup
theorem Um{N:aM}(h:RS N)(t:Bytes):RS (lN N t):=by
 unfold lN;cases hv:fQ t&& !Ea N t with
 |false=>exact h
 |true=>
  simp only[aS,nR]at hv;rw[aH];unfold RS;rw[bG,bM];refine⟨h,by simp,?_⟩;intro a ha b hb e;simp at hb;subst hb;subst e;obtain⟨p,hp,he⟩:=bu.1 ha;have:=(QO N a).2 ⟨p,hp,he⟩;rw[hv.2]at this;cases this
theorem Bm:∀(ts:aG) {N:aM},RS N->RS (ts.foldl lN N)
 | [],_,h=>h
 |t::ts,_,h=>Bm ts (Um h t)
theorem QK:∀(ts:aG) (N:aM) {t:Bytes},t∈ts->fQ t=true->∃p∈ts.foldl lN N,p.var=t
 |x::ts,N,t,h,hv=>by
  rcases bB.1 h with rfl|h
  ·have:∃p∈lN N t,p.var=t:=by
    unfold lN;cases hh:Ea N t with
    |true=>rw[hv];exact(QO N t).1 hh
    |false=>rw[hv];exact⟨⟨t,[63]++Lib.itoa ((N.length:Int)+1)⟩,by simp,rfl⟩
   obtain⟨p,hp,he⟩:=this;exact⟨p,QM ts _ hp,he⟩
  ·exact QK ts _ h hv
theorem LM:∀ {N:aM} {p:aR},RS N->p∈N->Cq N p.var=p.value
 |q::N,p,hn,hp=>by
  unfold RS at hn;rw[av,dB]at hn;rcases bB.1 hp with rfl|hp
  ·simp[Cq]
  ·have hne:(q.var==p.var)=false:=by
    rw[cy];intro e;exact hn.1 (by rw[e];exact bu.2 ⟨p,hp,rfl⟩)
   rw[Cq,hne,aQ];exact LM (show RS N from hn.2) hp
theorem KF:∀ {N:aM} {t:Bytes},(∀p∈N,p.var≠t)->Cq N t=t
 | [],t,_=>rfl
 |q::N,t,h=>by
  have hne:(q.var==t)=false:=by rw[cy];exact h q (by simp)
  rw[Cq,hne,aQ];exact KF fun p hp=>h p (by simp[hp])
theorem Vn.nil:Vn []:=fun i p h=>by simp at h
theorem RS.nil:RS []:=by simp[RS]
theorem QL(ts:aG):(ts.foldl lN []).length<=ts.length:=by simpa using yO ts []
theorem PY{N:aM}(h:Vn N){p:aR}(hp:p∈N):∃i,i<N.length/\N[i]?=some p/\p.value=nmB i/\fQ p.var=true:=by
 obtain⟨i,hi⟩:=dZ hp;exact⟨i,(aF.1 hi).1,hi,h i p hi⟩
theorem Qn{ts:aG}{t:Bytes}(ht:fQ t=false):Cq (ts.foldl lN []) t=t:=
 KF fun p hp e=>by
  obtain⟨i,_,_,_,hv⟩:=PY (JJ ts Vn.nil) hp;rw[e,ht]at hv;cases hv
theorem Tm:∀i,i<6->(nmB i).length<=16:=by
 intro i hi;rw[LL i hi];simp
theorem a3n{ts:aG}(hl:ts.length<=5){t:Bytes}(ht:t.length<=16):(Cq (ts.foldl lN []) t).length<=16:=by
 by_cases h:∃p∈ts.foldl lN [],p.var=t
 ·obtain⟨p,hp,he⟩:=h;rw[<-he,LM (Bm ts RS.nil) hp];obtain⟨i,hi,_,hpv,_⟩:=PY (JJ ts Vn.nil) hp;have:=QL ts;rw[hpv];exact Tm i (by omega)
 ·rw[KF (fun p hp e=>h ⟨p,hp,e⟩)];exact ht
end Go.Cx
namespace Go.Cx
open Go.RowKit Go.Proofs Tryz
def Kv(c:aL):aG:=bif decide (c.kind=1)then jF c.pat.args else []
theorem Vy{c:aL}:(Kv c).length<=c.wt:=by
 unfold Kv;have h2:=vr c.pat.args;have h3:=aD.dK (aL.fY (bR c.wt));cases decide (c.kind=1)<;>simp;omega
def zT(r:aK)(n:Int):aG:=(r.conds.take n.toNat).flatMap Kv
theorem O2{α:Type}(x:α)(xs:List α)(n:Int)(i:Nat):(x::xs).take (n-(i:Int)).toNat=if(i:Int)<n then x::xs.take (n-((i+1:Nat):Int)).toNat else []:=by
 by_cases h:(i:Int)<n
 ·rw[bK h];obtain⟨m,hm⟩:∃m,(n-(i:Int)).toNat=m+1:=⟨(n-(i:Int)).toNat -1,by omega⟩
  have:(n-((i+1:Nat):Int)).toNat=m:=by omega
  rw[hm,this];rfl
 ·rw[az h,show(n-(i:Int)).toNat=0 from by omega];rfl
theorem EV{α β:Type}{f:α->List β}{w:α->Nat}(l:List α)(h:∀x∈l,(f x).length<=w x+2):(l.flatMap f).length<=3*rP w l:=by
 induction l with
 |nil=>simp[rP]
 |cons x l ih=>
  rw[cH,bC,oG];have h1:=h x (by simp);have h2:=ih (fun y hy=>h y (by simp[hy]));omega
theorem Vz{r:aK}{n:Nat}(h:r.wt<=n)(m:Int):(zT r m).length<=3*n:=by
 unfold zT;have h1:=EV (w:=aL.wt) (f:=Kv) (r.conds.take m.toNat) (fun c _=>by have:= @Vy c;omega);have h2:rP aL.wt (r.conds.take m.toNat)<=rP aL.wt r.conds:=by
  conv=>rhs;rw[<-cD m.toNat r.conds]
  rw[Ss];omega
 have h3:=aK.sC h;omega
theorem Y1(a:aK)(n:Int)(i:Nat)(y:aG)(k:aG->Option aG):∀(l:aG) (j:Nat) (w:aG),w.length+l.length<=1099511627770->jK a n i y k l j w=k (l.foldl yQ w):=by
 intro l
 induction l with
 |nil=>intro j w _;rfl
 |cons x l ih=>
  intro j w hw;simp only[aV]at hw;have:=A5 w x;rw[jK,Sd w x (by omega),aA,ih _ _ (by omega)];rfl
theorem a0c(a:aK)(n:Int)(k:aG->Option aG):∀(l:ah) (i:Nat) (acc:aG),(∀c∈l,c.wt<=1048576)->acc.length+rP aL.wt l<=2097152->
 fw a n k l i (eY acc)=k (eY (acc++(l.take (n-(i:Int)).toNat).flatMap Kv)):=by
 intro l
 induction l with
 |nil=>intro i acc _ _;simp[fw]
 |cons c l ih=>
  intro i acc hc hb;rw[oG]at hb;have Wu:=hc c (by simp);have hv:=vr c.pat.args;have ha:=aD.dK (aL.fY (bR c.wt));have hu:=pV (jF c.pat.args);have Z3:=pV acc;rw[fw,O2];by_cases hi:(i:Int)<n
  ·have e1:decide (((i:Int):Int)<n)=true:=by simp[hi]
   rw[e1,aH,bK hi];by_cases hk:c.kind=1
   ·have e2:((c.kind:Int)==1)=true:=by simp[hk]
    rw[e2,aH,JG _ (aL.fY Wu),aA,sU (by omega),aH,Y1 _ _ _ _ _ _ _ _ (by omega),Ew,ih _ _ (fun x hx=>hc x (by simp[hx])) (by simp;omega)];simp[Kv,hk]
   ·have e2:((c.kind:Int)==1)=false:=by simp[hk]
    rw[e2,aQ,ih _ _ (fun x hx=>hc x (by simp[hx])) (by omega)];simp[Kv,hk]
  ·have e1:decide (((i:Int):Int)<n)=false:=by simp[hi]
   rw[e1,aQ,az hi];simp
theorem SZ(r:aK)(n:Int)(h:r.wt<=1048576):kK r n=some (eY (zT r n)):=by
 unfold kK;have:=a0c r n (fun q=>some q) r.conds 0 [] (fun c hc=>aK.qe h hc) (by have:=aK.sC h;simp;omega);rw[show eY []=[]from rfl]at this;rw[this];simp[zT]
theorem a00(a:aK)(n:Int)(k:aG->Option aG):∀(l:ah) (i:Nat) (w:aG),(∀c∈l,c.wt<=1048576)->w.length+rP aL.wt l<=2097152->
 fD a n k l i w=k (w++(l.take (n-(i:Int)).toNat).flatMap Kv):=by
 intro l
 induction l with
 |nil=>intro i w _ _;simp[fD]
 |cons c l ih=>
  intro i w hc hb;rw[oG]at hb;have Wu:=hc c (by simp);have hv:=vr c.pat.args;have ha:=aD.dK (aL.fY (bR c.wt));rw[fD,O2];by_cases hi:(i:Int)<n
  ·have e1:decide (((i:Int):Int)<n)=true:=by simp[hi]
   rw[e1,aH,bK hi];by_cases hk:c.kind=1
   ·have e2:((c.kind:Int)==1)=true:=by simp[hk]
    rw[e2,aH,XH _ (by omega) (fun x hx=>aD.tB (aL.fY Wu) hx),aA,Xx (by omega) (by decide),aH,ih _ _ (fun x hx=>hc x (by simp[hx])) (by simp;omega)];simp[Kv,hk]
   ·have e2:((c.kind:Int)==1)=false:=by simp[hk]
    rw[e2,aQ,ih _ _ (fun x hx=>hc x (by simp[hx])) (by omega)];simp[Kv,hk]
  ·have e1:decide (((i:Int):Int)<n)=false:=by simp[hi]
   rw[e1,aQ,az hi,ih _ _ (fun x hx=>hc x (by simp[hx])) (by omega),show(n-((i+1:Nat):Int)).toNat=0 from by omega];simp
theorem X0(r:aK)(n:Int)(h:r.wt<=1048576):oa r n=some (eY (zT r n)):=by
 unfold oa;have hl:=Vz h n;rw[a00 r n _ r.conds 0 [] (fun c hc=>aK.qe h hc) (by have:=aK.sC h;simp;omega)];have e:([]:aG)++(r.conds.take (n-((0:Nat):Int)).toNat).flatMap Kv=zT r n:=by simp[zT]
 rw[e,Om _ (by omega)];rfl
def yJ(l:ah):aG:=l.flatMap pu
def ZM(l:eG):aG:=l.flatMap fun a=>jF a.pat.args
def a3q(r:aK):aG:=yJ r.conds++ZM r.cg
theorem WA(l:ah):(yJ l).length<=3*rP aL.wt l:=EV l (fun c _=>x7 (bR _))
theorem YH(a:aK)(i:Nat)(y:aG)(k:aG->Option aG):∀(l:aG) (j:Nat) (w:aG),w.length+l.length<=1099511627770->jz a i y k l j w=k (l.foldl yQ w):=by
 intro l
 induction l with
 |nil=>intro j w _;rfl
 |cons x l ih=>
  intro j w hw;simp only[aV]at hw;have:=A5 w x;rw[jz,Sd w x (by omega),aA,ih _ _ (by omega)];rfl
theorem YJ(a:aK)(i:Nat)(y:aG)(k:aG->Option aG):∀(l:aG) (j:Nat) (w:aG),w.length+l.length<=1099511627770->k6 a i y k l j w=k (l.foldl yQ w):=by
 intro l
 induction l with
 |nil=>intro j w _;rfl
 |cons x l ih=>
  intro j w hw;simp only[aV]at hw;have:=A5 w x;rw[k6,Sd w x (by omega),aA,ih _ _ (by omega)];rfl
theorem YG(a:aK)(k:aG->Option aG):∀(l:ah) (i:Nat) (acc:aG),(∀c∈l,c.wt<=1048576)->acc.length+3*rP aL.wt l<=16777216->
 iX a k l i (eY acc)=k (eY (acc++yJ l)):=by
 intro l
 induction l with
 |nil=>intro i acc _ _;simp[iX,yJ]
 |cons c l ih=>
  intro i acc hc hb;rw[oG]at hb;have Wu:=hc c (by simp);have h1:=x7 (bR c.wt);have hu:=pV (pu c);have Z3:=pV acc;rw[iX,Sa c Wu,aA,sU (by omega),aH,YH _ _ _ _ _ _ _ (by omega),Ew,ih _ _ (fun x hx=>hc x (by simp[hx])) (by simp;omega)];simp[yJ]
theorem YI(a:aK)(k:aG->Option aG):∀(l:eG) (i:Nat) (acc:aG),(∀c∈l,c.wt<=1048576)->acc.length+3*rP Action.wt l<=16777216->
 gj a k l i (eY acc)=k (eY (acc++ZM l)):=by
 intro l
 induction l with
 |nil=>intro i acc _ _;simp[gj,ZM]
 |cons c l ih=>
  intro i acc hc hb;rw[oG]at hb;have Wu:=hc c (by simp);have h1:=vr c.pat.args;have h2:=aD.dK (Action.fY (bR c.wt));have hu:=pV (jF c.pat.args);have Z3:=pV acc;rw[gj,JG _ (Action.fY Wu),aA,sU (by omega),aH,YJ _ _ _ _ _ _ _ (by omega),Ew,ih _ _ (fun x hx=>hc x (by simp[hx])) (by simp;omega)];simp[ZM]
theorem a4A(r:aK)(h:r.wt<=1048576):sP r=some (eY (a3q r)):=by
 unfold sP;have h3:=aK.sC h;have h4:=aK.Hz h;have hl:=WA r.conds;have:=YG r (fun q=>gj r (fun q=>some q) r.cg 0 q) r.conds 0 [] (fun c hc=>aK.qe h hc) (by simp;omega);rw[show eY []=[]from rfl]at this;rw[this];simp only[cw];rw[YI r _ r.cg 0 _ (fun c hc=>aK.OL h hc) (by omega)];rfl
theorem a5k(l:ah)(hc:∀c∈l,c.wt<=1048576)(hb:rP aL.wt l<=1048576):qA l=some (l.flatMap fun c=>eY (pu c)):=by
 unfold qA;have:∀(r:ah) (i:Nat) (w:aG),(∀c∈r,c.wt<=1048576)->w.length+3*rP aL.wt r<=16777216->gS l (fun q=>some q) r i w=some (w++r.flatMap fun c=>eY (pu c)):=by
  intro r
  induction r with
  |nil=>intro i w _ _;simp[gS]
  |cons c r ih=>
   intro i w hc hb;rw[oG]at hb;have h1:=x7 (bR c.wt);have hu:=pV (pu c);rw[gS,S8 c (hc c (by simp)),aA,Xx (by omega) (by decide),aH,ih _ _ (fun x hx=>hc x (by simp[hx])) (by simp;omega)];simp
 exact this l 0 [] hc (by simp;omega)
theorem W9(l:ah):(l.flatMap fun c=>eY (pu c)).length<=3*rP aL.wt l:=EV l (fun c _=>by
 have h1:=x7 (bR c.wt);have hu:=pV (pu c);omega)
theorem a7r(l:ah)(b:aG):eY ((l.flatMap fun c=>eY (pu c))++b)=eY (yJ l++b):=Ev (fun x=>by simp[yJ,oq])
def UL(v:Bytes)(k:Int):ah->Nat->Bool
 | [],_=>false
 |c::cs,i=>(decide (((i:Nat):Int)≠k)&&(pu c).contains v)||UL v k cs (i+1)
def QD(r:aK)(k:Int)(v:Bytes):Bool:=UL v k r.conds 0||r.cg.any fun a=>(jF a.pat.args).contains v
theorem NB{l:aG}{v:Bytes}(h:fQ v=true):l.contains v=(jF l).contains v:=by
 rw[bp];simp[jF,h]
theorem a6Y(r:aK)(k:Int)(v:Bytes)(h:r.wt<=1048576):n7 r k v=some (QD r k v):=by
 unfold n7 QD;have k2:∀(l:eG) (i:Nat),(∀c∈l,c.wt<=1048576)->iD r v (some false) l i=some (l.any fun a=>(jF a.pat.args).contains v):=by
  intro l
  induction l with
  |nil=>intro i _;rfl
  |cons a l ih=>
   intro i hc;rw[iD,JG _ (Action.fY (hc a (by simp))),aA,V0,aA,nG,ih _ (fun x hx=>hc x (by simp[hx])),xN];cases(jF a.pat.args).contains v<;>rfl
 have k1:∀(l:ah) (i:Nat),(∀c∈l,c.wt<=1048576)->fk r k v (some (r.cg.any fun a=>(jF a.pat.args).contains v)) l i=some (UL v k l i||r.cg.any fun a=>(jF a.pat.args).contains v):=by
  intro l
  induction l with
  |nil=>intro i _;rfl
  |cons c l ih=>
   intro i hc;rw[fk,Sa _ (hc c (by simp)),aA,V0,aA,nG,ih _ (fun x hx=>hc x (by simp[hx]))];simp only[UL,bne,jh];by_cases hi:((i:Nat):Int)=k
   ·simp[hi]
   ·cases(pu c).contains v<;>simp[hi]
 rw[k2 _ _ (fun c hc=>aK.OL h hc),k1 _ _ (fun c hc=>aK.qe h hc)]
theorem a9G(r:aK)(k:Int)(v:Bytes)(hv:fQ v=true)(h:r.wt<=1048576):lE r k v=some (QD r k v):=by
 unfold lE QD;have k2:∀(l:eG) (i:Nat),fI r v (some false) l i=some (l.any fun a=>(jF a.pat.args).contains v):=by
  intro l
  induction l with
  |nil=>intro i;rfl
  |cons a l ih=>
   intro i;rw[fI,a02,aA,NB hv,ih,xN];cases(jF a.pat.args).contains v<;>rfl
 have k1:∀(l:ah) (i:Nat),(∀c∈l,c.wt<=1048576)->eL r k v (some (r.cg.any fun a=>(jF a.pat.args).contains v)) l i=some (UL v k l i||r.cg.any fun a=>(jF a.pat.args).contains v):=by
  intro l
  induction l with
  |nil=>intro i _;rfl
  |cons c l ih=>
   intro i hc;rw[eL,S8 _ (hc c (by simp)),aA,a02,aA,nG,ih _ (fun x hx=>hc x (by simp[hx]))];simp only[UL,bne,jh];by_cases hi:((i:Nat):Int)=k
   ·simp[hi]
   ·cases(pu c).contains v<;>simp[hi]
 rw[k2,k1 _ _ (fun c hc=>aK.qe h hc)]
def L4(r:aK)(i:Nat)(c:aL)(v:Bytes):Bool:=decide (c.kind=1)||(zT r i).contains v||(decide (c.kind=2)&& !QD r i v)
def rX(r:aK):ah->Nat->Bool
 | [],_=>true
 |c::cs,i=>(nF c&&(!decide (i=0)||decide (c.kind=1))&&(eY (pu c)).all (L4 r i c))&&rX r cs (i+1)
def LZ(r:aK):Bool:=r.cg.all fun a=>LY a&&(jF a.pat.args).all fun v=>(zT r r.conds.length).contains v
def fP(r:aK):Bool:=wQ r.name&&(decide (0<=r.prio)&&decide (r.prio<=9))&&(decide (1<=(r.conds.length:Int))&&decide ((r.conds.length:Int)<=4))&&(decide (1<=(r.cg.length:Int))&&decide ((r.cg.length:Int)<=2))&&
 (rX r r.conds 0&&(LZ r&&decide (((eY (yJ r.conds)).length:Int)<=6)))
theorem NV(l:aG)(p:Bytes->Bool):(eY l).all p=l.all p:=by
 rw[bp];simp[aj,oq]
theorem ZT(r:aK)(n:Int){v:Bytes}(h:v∈zT r n):v∈yJ r.conds:=by
 unfold zT at h;obtain⟨c,hc,hv⟩:=bg.1 h;refine bg.2 ⟨c,cI hc,?_⟩;unfold Kv at hv;cases hk:decide (c.kind=1)with
 |false=>rw[hk]at hv;cases hv
 |true=>
  rw[hk]at hv;simp only[aH]at hv;unfold pu;rw[O5];exact af.2 (.inl hv)
theorem Rb{r:aK}(h:LZ r=true):eY (a3q r)=eY (yJ r.conds):=by
 refine Ev (fun x=>?_);unfold a3q;simp only[af];constructor
 ·rintro(hx|hx)
  ·exact hx
  ·obtain⟨a,ha,hv⟩:=bg.1 hx;unfold LZ at h;have:=aj.1 h a ha;simp only[aS,aj]at this;have:=this.2 x hv;exact ZT r _ (by simpa using this)
 ·exact .inl
theorem a0m(r:aK)(y:aG)(i:Nat)(c:aL)(l:aG)(k:Option Bool)(hc:c.wt<=1048576)(hr:r.wt<=1048576)(hcb:nF c=true):∀(rest:aG) (j:Nat),gF r y i c (eY (zT r i)) l k rest j=bif rest.all (L4 r i c)then k else some false:=by
 have hk:=Gg hcb;intro rest
 induction rest with
 |nil=>intro j;rfl
 |cons v rest ih=>
  intro j;rw[gF,V0,aA,nG,YO c hc,aA,a6Y r _ v hr,aA,ih,dW];unfold Gb L4;rw[hcb];by_cases h1:c.kind=1
  ·simp[h1]
  by_cases h2:c.kind=2
  ·cases(zT r i).contains v<;>cases QD r i v<;>simp[h2]
  have h3:c.kind>=3:=by omega
  cases(zT r i).contains v<;>simp[h1,h2,h3]
theorem a0n(r:aK)(y:aG)(i:Nat)(c:aL)(l:aG)(k:Option Bool)(hc:c.wt<=1048576)(hr:r.wt<=1048576)(hcb:nF c=true):∀(rest:aG) (j:Nat),gG r y i c (eY (zT r i)) l k rest j=bif rest.all (L4 r i c)then k else some false:=by
 have hk:=Gg hcb;intro rest
 induction rest with
 |nil=>intro j;rfl
 |cons v rest ih=>
  intro j;rw[gG,V0,aA,nG,YO c hc,aA,a6Y r _ v hr,aA,ih,dW];unfold Gb L4;rw[hcb];by_cases h1:c.kind=1
  ·simp[h1]
  by_cases h2:c.kind=2
  ·cases(zT r i).contains v<;>cases QD r i v<;>simp[h2]
  have h3:c.kind>=3:=by omega
  cases(zT r i).contains v<;>simp[h1,h2,h3]
theorem a0l(r:aK)(y:aG)(k:Option Bool)(hr:r.wt<=1048576):∀(rest:ah) (i:Nat),(∀c∈rest,c.wt<=1048576)->kM r y k rest i=bif rX r rest i then k else some false:=by
 intro rest
 induction rest with
 |nil=>intro i _;rfl
 |cons c rest ih=>
  intro i h;have hc:=h c (by simp);have hl:=x7 hc;have hu:=pV (pu c);rw[kM,Y3 c hc,aA,rX];cases hcb:nF c with
  |false=>rfl
  |true=>
   rw[SZ r _ hr,Sa c hc,ih _ (fun x hx=>h x (by simp[hx]))];simp only[aA,sU (show(eY (pu c)).length<=1099511627776 by omega),aH];rw[a0m r y i c _ _ hc hr hcb,a0n r y i c _ _ hc hr hcb];simp only[bne,jh];have e0:decide (((i:Int):Int)=0)=decide (i=0):=by rw[bp];simp
   rw[e0];cases decide (i=0)<;>cases decide (c.kind=1)<;>cases(eY (pu c)).all (L4 r i c)<;>simp
theorem a0p(r:aK)(y:aG)(i:Nat)(l:aG)(k:Option Bool):∀(rest:aG) (j:Nat),mm r y i l k rest j=bif rest.all (fun v=>y.contains v)then k else some false:=
 fun rest j=>UG (f:=fun v=>gI y v) (L:=mm r y i l k) (fun _=>rfl) (fun _ _ _=>rfl) rest j (fun v _=>V0 y v)
theorem a0o(r:aK)(b:aG)(k:Option Bool):∀(rest:eG) (i:Nat),(∀a∈rest,a.wt<=1048576)->mj r (eY b) k rest i=bif rest.all (fun a=>LY a&&(jF a.pat.args).all fun v=>b.contains v)then k else some false:=by
 intro rest
 induction rest with
 |nil=>intro i _;rfl
 |cons a rest ih=>
  intro i h;have ha:=h a (by simp);have h1:=vr a.pat.args;have h2:=aD.dK (Action.fY ha);have hu:=pV (jF a.pat.args);rw[mj,a9U a ha,aA,JG _ (Action.fY ha),aA,sU (by omega),ih _ (fun x hx=>h x (by simp[hx])),a0p,dW,NV];have e:((jF a.pat.args).all fun v=>(eY b).contains v)=(jF a.pat.args).all fun v=>b.contains v:=by
   congr 1;funext v;exact nG b v
  rw[e];cases LY a<;>cases(jF a.pat.args).all (fun v=>b.contains v)<;>simp
theorem a2F(r:aK)(h:r.wt<=1048576):nA r=some (fP r):=by
 unfold nA;simp only[YB _ (aK.Tl h),aA,Iw,ax];rw[SZ r _ h];simp only[aA];rw[a0l r _ _ h _ _ (fun c hc=>aK.qe h hc),a0o r _ _ _ _ (fun a ha=>aK.OL h ha),a4A r h];simp only[aA,ax];have hab:(r.cg.all fun a=>LY a&&(jF a.pat.args).all fun v=>(zT r r.conds.length).contains v)=LZ r:=rfl;rw[hab];unfold fP;have g1:decide (r.prio>=0)=decide (0<=r.prio):=rfl;have g2:decide ((r.conds.length:Int)>=1)=decide (1<=(r.conds.length:Int)):=rfl;have g3:decide ((r.cg.length:Int)>=1)=decide (1<=(r.cg.length:Int)):=rfl;rw[g1,g2,g3];cases ha:LZ r with
 |false=>cases wQ r.name<;>cases(decide (0<=r.prio)&&decide (r.prio<=9))<;>cases(decide (1<=(r.conds.length:Int))&&decide ((r.conds.length:Int)<=4))<;>cases(decide (1<=(r.cg.length:Int))&&decide ((r.cg.length:Int)<=2))<;>cases rX r r.conds 0<;>rfl
 |true=>
  rw[Rb ha];cases wQ r.name<;>cases(decide (0<=r.prio)&&decide (r.prio<=9))<;>cases(decide (1<=(r.conds.length:Int))&&decide ((r.conds.length:Int)<=4))<;>cases(decide (1<=(r.cg.length:Int))&&decide ((r.cg.length:Int)<=2))<;>cases rX r r.conds 0<;>simp
theorem a3I(r:aK)(i:Nat)(c:aL)(l:aG)(k:Option Bool)(hr:r.wt<=1048576)(hcb:nF c=true):∀(rest:aG) (j:Nat),(∀v∈rest,fQ v=true)->gY r (i:Int) c (eY (zT r i)) l k rest j=bif rest.all (L4 r i c)then k else some false:=by
 have hk:=Gg hcb;intro rest
 induction rest with
 |nil=>intro j _;rfl
 |cons v rest ih=>
  intro j hv;rw[gY,a02,aA,nG,a9G r _ v (hv v (by simp)) hr,aA,ih _ (fun x hx=>hv x (by simp[hx])),dW];unfold L4;simp only[bne,jh];by_cases h1:c.kind=1
  ·simp[h1]
  by_cases h2:c.kind=2
  ·cases(zT r i).contains v<;>cases QD r i v<;>simp[h2]
  cases(zT r i).contains v<;>simp[h1,h2]
theorem a5o(r:aK)(i:Nat)(c:aL)(hr:r.wt<=1048576)(hi:r.conds[i]?=some c)(hcb:nF c=true):pR r (i:Int)=some ((eY (pu c)).all (L4 r i c)):=by
 unfold pR;have hc:=aK.qe hr (aE hi);have hl:=x7 hc;have hu:=pV (pu c);have e:hO r.conds (i:Int)=some c:=by unfold hO;simp[hi]
 rw[e,aA,X0 r _ hr,aA,S8 c hc,aA,sU (by omega),aH,a3I r i c _ _ hr hcb _ _ (fun v hv=>by
  rw[oq]at hv;unfold pu jF at hv;exact(gA.1 hv).2)]
 cases(eY (pu c)).all (L4 r i c)<;>rfl
theorem a05(r:aK)(k:Option Bool)(hr:r.wt<=1048576):∀(rest pre:ah),r.conds=pre++rest->j5 r k rest pre.length=bif rX r rest pre.length then k else some false:=by
 intro rest
 induction rest with
 |nil=>intro pre _;rfl
 |cons c rest ih=>
  intro pre h;have hm:c∈r.conds:=by rw[h];simp
  have hc:=aK.qe hr hm;have hi:r.conds[pre.length]?=some c:=by rw[h];simp
  have t:=ih (pre++[c]) (by rw[h];simp);simp only[bC,aV,br]at t;rw[j5,X5 c hc,aA,rX];cases hcb:nF c with
  |false=>rfl
  |true=>
   rw[a5o r _ c hr hi hcb,aA,t];simp only[bne,jh];have e0:decide ((((pre.length:Nat):Int):Int)=0)=decide (pre.length=0):=by rw[bp];simp
   rw[e0];cases decide (pre.length=0)<;>cases decide (c.kind=1)<;>cases(eY (pu c)).all (L4 r pre.length c)<;>simp
theorem a07(r:aK)(y:aG)(i:Nat)(l:aG)(k:Option Bool):∀(rest:aG) (j:Nat),mX r y i l k rest j=bif rest.all (fun v=>y.contains v)then k else some false:=
 fun rest j=>UG (f:=fun v=>lC y v) (L:=mX r y i l k) (fun _=>rfl) (fun _ _ _=>rfl) rest j (fun v _=>a02 y v)
theorem a06(r:aK)(b:aG)(k:Option Bool):∀(rest:eG) (i:Nat),(∀a∈rest,a.wt<=1048576)->mW r (eY b) k rest i=bif rest.all (fun a=>LY a&&(jF a.pat.args).all fun v=>b.contains v)then k else some false:=by
 intro rest
 induction rest with
 |nil=>intro i _;rfl
 |cons a rest ih=>
  intro i h;have ha:=h a (by simp);have h1:=vr a.pat.args;have h2:=aD.dK (Action.fY ha);rw[mW,a9C a ha,aA,XH _ (by omega) (fun x hx=>aD.tB (Action.fY ha) hx),aA,sU (by omega),ih _ (fun x hx=>h x (by simp[hx])),a07,dW];have e:((jF a.pat.args).all fun v=>(eY b).contains v)=(jF a.pat.args).all fun v=>b.contains v:=by
   congr 1;funext v;exact nG b v
  rw[e];cases LY a<;>cases(jF a.pat.args).all (fun v=>b.contains v)<;>simp
theorem a5z(r:aK)(h:r.wt<=1048576):um r=some (fP r):=by
 unfold um;have hcu:=W9 r.conds;have hcl:=aK.sC h;rw[show j5 r _ r.conds 0=_ from a05 r _ h r.conds [] rfl,X0 r _ h,aA,a06 r _ _ _ _ (fun a ha=>aK.OL h ha),a5k _ (fun c hc=>aK.qe h hc) hcl,aA,Om _ (by omega),XA _ (aK.Tl h)];have e:=a7r r.conds [];simp only[dA]at e;rw[e];simp only[aA,ax,br];have hab:(r.cg.all fun a=>LY a&&(jF a.pat.args).all fun v=>(zT r r.conds.length).contains v)=LZ r:=rfl;rw[hab];unfold fP;have g1:decide (0<=r.prio)= !decide (r.prio<0):=by rw[bp];simp
 have g2:decide (r.prio<=9)= !decide (r.prio>9):=by rw[bp];simp
 have g3:decide (1<=(r.conds.length:Int))= !decide ((r.conds.length:Int)<1):=by rw[bp];simp
 have g4:decide ((r.conds.length:Int)<=4)= !decide ((r.conds.length:Int)>4):=by rw[bp];simp
 have g5:decide (1<=(r.cg.length:Int))= !decide ((r.cg.length:Int)<1):=by rw[bp];simp
 have g6:decide ((r.cg.length:Int)<=2)= !decide ((r.cg.length:Int)>2):=by rw[bp];simp
 rw[g1,g2,g3,g4,g5,g6];cases wQ r.name
 ·rfl
 cases decide (r.prio<0)
 case true=>rfl
 cases decide (r.prio>9)
 case true=>rfl
 cases decide ((r.conds.length:Int)<1)
 case true=>rfl
 cases decide ((r.conds.length:Int)>4)
 case true=>rfl
 cases decide ((r.cg.length:Int)<1)
 case true=>rfl
 cases decide ((r.cg.length:Int)>2)
 case true=>rfl
 cases rX r r.conds 0
 ·rfl
 cases LZ r
 ·rfl
 simp
def Bh(name:Bytes):ai->Nat->Int
 | [],_=> -1
 |r::rs,i=>bif r.name==name then(i:Int)else Bh name rs (i+1)
def Ku(all:ai):ai->Nat->Bool
 | [],_=>true
 |r::rs,i=>(fP r&&decide (Bh r.name all 0=(i:Int)))&&Ku all rs (i+1)
def qp(l:ai):Bool:=Ku l l 0&&decide ((l.length:Int)<=6)
theorem a6Z(l:ai)(n:Bytes):sM l n=some (Bh n l 0):=by
 unfold sM;have:∀(r:ai) (i:Nat),jx l n (some (-1)) r i=some (Bh n r i):=by
  intro r
  induction r with
  |nil=>intro i;rfl
  |cons x r ih=>intro i;rw[jx,ih,Bh];cases x.name==n<;>rfl
 exact this l 0
theorem a5m(l:ai)(n:Bytes):sF l n=some (Bh n l 0):=by
 unfold sF;have:∀(r:ai) (i:Nat),jm l n (some (-1)) r i=some (Bh n r i):=by
  intro r
  induction r with
  |nil=>intro i;rfl
  |cons x r ih=>intro i;rw[jm,ih,Bh];cases x.name==n<;>rfl
 exact this l 0
theorem a9W(l:ai)(h:rP aK.wt l<=1048576):sL l=some (qp l):=by
 unfold sL;have:∀(r:ai) (i:Nat) (k:Option Bool),(∀x∈r,x.wt<=1048576)->jw l k r i=bif Ku l r i then k else some false:=by
  intro r
  induction r with
  |nil=>intro i k _;rfl
  |cons x r ih=>
   intro i k hx;rw[jw,a2F x (hx x (by simp)),aA,a6Z,aA,ih _ _ (fun y hy=>hx y (by simp[hy])),Ku];simp only[bne,jh];cases fP x<;>cases decide (Bh x.name l 0=(i:Int))<;>simp
 rw[this _ _ _ (fun x hx=>by have:=qK (w:=aK.wt) hx;omega),ax,qp];cases Ku l l 0<;>rfl
theorem a9E(l:ai)(h:rP aK.wt l<=1048576):sE l=some (qp l):=by
 unfold sE;have:∀(r:ai) (i:Nat) (k:Option Bool),(∀x∈r,x.wt<=1048576)->jk l k r i=bif Ku l r i then k else some false:=by
  intro r
  induction r with
  |nil=>intro i k _;rfl
  |cons x r ih=>
   intro i k hx;rw[jk,a5z x (hx x (by simp)),aA,a5m,aA,ih _ _ (fun y hy=>hx y (by simp[hy])),Ku];simp only[bne,jh];cases fP x<;>cases decide (Bh x.name l 0=(i:Int))<;>simp
 rw[this _ _ _ (fun x hx=>by have:=qK (w:=aK.wt) hx;omega),ax,qp];have g:decide ((l.length:Int)<=6)= !decide ((l.length:Int)>6):=by rw[bp];simp
 rw[g];cases Ku l l 0<;>cases decide ((l.length:Int)>6)<;>rfl
end Go.Cx
namespace Go.Cx
open Go.RowKit Go.Proofs Tryz
theorem MX{α β:Type}[DecidableEq β]{f:α->α->Option Bool}{g:α->β}{a b:List α}{k:Option Bool}{L:List α->Nat->Option Bool}(hl:a.length=b.length)(uO:∀i,L [] i=k)
 (tv:∀x xs i,L (x::xs) i=(hO b (i:Int)).bind fun y=>(f x y).bind fun r=>bif !r then some false else L xs (i+1)) (hf:∀x y,f x y=some (decide (g x=g y))):
 L a 0=bif decide (a.map g=b.map g)then k else some false:=by
 have key:∀(ra rb pa pb:List α),a=pa++ra->b=pb++rb->pa.length=pb.length->L ra pa.length=bif decide (ra.map g=rb.map g)then k else some false:=by
  intro ra
  induction ra with
  |nil=>
   intro rb pa pb h1 h2 h3;rw[uO];have:rb=[]:=by
    have:=congrArg List.length h1;have:=congrArg List.length h2;simp at*;apply cZ;omega
   subst this;simp
  |cons x xs ih=>
   intro rb pa pb h1 h2 h3;cases rb with
   |nil=>
    exfalso;have:=congrArg List.length h1;have:=congrArg List.length h2;simp at*;omega
   |cons y ys=>
    have e1:hO b (pa.length:Int)=some y:=by rw[h3];exact wE h2
    rw[tv,e1,aA,hf,aA];have:=ih ys (pa++[x]) (pb++[y]) (by rw[h1];simp) (by rw[h2];simp) (by simp[h3]);simp only[bC,aV,br]at this;rw[this];by_cases hxy:g x=g y
    ·simp[hxy]
    ·simp[hxy]
 exact key a b [] [] rfl rfl rfl
theorem MN{α β:Type}{g:α->β}{a b:List α}(h:a.length≠b.length):a.map g≠b.map g:=fun e=>h (by have:=congrArg List.length e;simpa using this)
theorem FA{α:Type}{c:α->aP}(a b:List α):((((a.map c).length:Int):Int) != ((b.map c).length:Int))= !decide (a.length=b.length):=by
 rw[bp];simp;omega
theorem map_id'{α:Type}(l:List α):l.map (fun x=>x)=l:=by simp
theorem a3P(a b:aK):pQ a b=some (decide (a=b)):=by
 have k2:∀(k:Option Bool),a.cg.length=b.cg.length->iM a b k a.cg 0=bif decide (a.cg=b.cg)then k else some false:=fun k hl=>by
  have:=MX (g:=fun x:Action=>x) (f:=fun x y:Action=>bif x.kind != y.kind then some false else fU x.pat y.pat) (k:=k) (L:=iM a b k) hl (fun _=>rfl) (fun x xs i=>by
   rw[iM];congr 1;funext y;cases(x.kind != y.kind)<;>rfl) (fun x y=>by
   obtain⟨x0,x1⟩:=x;obtain⟨y0,y1⟩:=y;simp only[MA,bne,jh];by_cases h0:x0=y0<;>by_cases h1:x1=y1<;>simp[h0,h1])
  rw[map_id',map_id']at this;exact this
 have k1:∀(k:Option Bool),a.conds.length=b.conds.length->jq a b k a.conds 0=bif decide (a.conds=b.conds)then k else some false:=fun k hl=>by
  have:=MX (g:=fun x:aL=>x) (f:=ji) (k:=k) (L:=jq a b k) hl (fun _=>rfl) (fun _ _ _=>rfl) Ol;rw[map_id',map_id']at this;exact this
 unfold pQ;rw[FA,FA];obtain⟨a0,a1,a2,a3⟩:=a;obtain⟨b0,b1,b2,b3⟩:=b;simp only at k1 k2⊢;simp only[bne,jh,Bool.not_not];by_cases h0:a0=b0;rotate_left
 ·simp[h0]
 by_cases h1:a1=b1;rotate_left
 ·simp[h1]
 by_cases h2:a2.length=b2.length;rotate_left
 ·have:a2≠b2:=fun e=>h2 (by rw[e])
  simp[h2,this]
 by_cases h3:a3.length=b3.length;rotate_left
 ·have:a3≠b3:=fun e=>h3 (by rw[e])
  simp[h3,this]
 rw[k1 _ h2,k2 _ h3];by_cases h4:a2=b2<;>by_cases h5:a3=b3<;>simp[h0,h1,h2,h3,h4,h5]
theorem a08(a b:ai):rB a b=some (decide (a=b)):=by
 unfold rB;exact Yx (c:=aK.c) (f:=pQ) (fun k=>lf a b k) (fun _ _=>rfl) (fun _ _ _ _=>rfl) a3P
theorem Qt(x y:aR):((x.var:Bytes)==y.var&&(x.value:Bytes)==y.value)=decide (x=y):=by
 obtain⟨x0,x1⟩:=x;obtain⟨y0,y1⟩:=y;simp only[jh];by_cases h0:x0=y0<;>by_cases h1:x1=y1<;>simp[h0,h1]
theorem YK(a b:aM):ia a b=some (decide (a=b)):=by
 unfold ia;exact Yx (c:=aR.c) (f:=fun x y=>some (decide (x=y))) (fun k=>gL a b k) (fun _ _=>rfl) (fun k x xs i=>by rw[gL];congr 1;funext y;rw[Qt];rfl) (fun _ _=>rfl)
theorem a3N(a b:aM):oh a b=some (decide (a=b)):=by
 unfold oh;exact Yx (c:=aR.c) (f:=fun x y=>some (decide (x=y))) (fun k=>jH a b k) (fun _ _=>rfl) (fun k x xs i=>by rw[jH];congr 1;funext y;rw[Qt];rfl) (fun _ _=>rfl)
theorem a0q(a b:ar):uj a b=some (decide (a=b)):=by
 unfold uj;exact Yx (c:=aT.c) (f:=fun x y=>(kR x.facts y.facts).bind fun r=>bif !r then some false else ia x.bind y.bind) (fun k=>oK a b k) (fun _ _=>rfl) (fun k x xs i=>by
  rw[oK];congr 1;funext y;rw[LN,aA,aA];cases decide (x.facts=y.facts)<;>rfl) (fun x y=>by
  obtain⟨x0,x1⟩:=x;obtain⟨y0,y1⟩:=y;simp only[LN,YK,aA];by_cases h0:x0=y0<;>by_cases h1:x1=y1<;>simp[h0,h1])
theorem a09(a b:ar):nc a b=some (decide (a=b)):=by
 unfold nc;exact Yx (c:=aT.c) (f:=fun x y=>(j7 x.facts y.facts).bind fun r=>bif !r then some false else oh x.bind y.bind) (fun k=>iQ a b k) (fun _ _=>rfl) (fun k x xs i=>by
  rw[iQ];congr 1;funext y;rw[LI,aA,aA];cases decide (x.facts=y.facts)<;>rfl) (fun x y=>by
  obtain⟨x0,x1⟩:=x;obtain⟨y0,y1⟩:=y;simp only[LI,a3N,aA];by_cases h0:x0=y0<;>by_cases h1:x1=y1<;>simp[h0,h1])
def Lw(a b:aI):Bool:=decide (a.bE.map aZ.shape=b.bE.map aZ.shape)&&(decide (a.nodes.map (fun x=>(x.parent,x.dL,x.cond))=b.nodes.map (fun x=>(x.parent,x.dL,x.cond)))&&decide (a.ends=b.ends))
def J3(a b:aI):Bool:=decide (a.rules=b.rules)&&(decide (a.ends=b.ends)&&(decide (a.facts=b.facts)&&(decide (a.bE=b.bE)&&decide (a.nodes=b.nodes))))
theorem a6b(a b:aI):wO a b=some (Lw a b):=by
 unfold wO Lw;rw[FA,FA,FA];by_cases h1:a.bE.length=b.bE.length;rotate_left
 ·simp[h1,MN h1]
 by_cases h2:a.nodes.length=b.nodes.length;rotate_left
 ·simp[h2,MN h2]
 by_cases h3:a.ends.length=b.ends.length;rotate_left
 ·have:a.ends≠b.ends:=fun e=>h3 (by rw[e])
  simp[h3,this]
 have k1:=fun k=>MX (g:=aZ.shape) (f:=fun x y:aZ=>iY x.shape y.shape) (k:=k) (L:=tq a b k) h1 (fun _=>rfl) (fun _ _ _=>rfl) (fun x y=>Sf _ _)
 have k2:=fun k=>MX (g:=fun x:Node=>(x.parent,x.dL,x.cond)) (f:=fun x y:Node=>bif x.parent != y.parent then some false else bif x.dL != y.dL then some false else nw x.cond y.cond) (k:=k) (L:=qG a b k) h2 (fun _=>rfl) (fun x xs i=>by
  rw[qG];congr 1;funext y;cases(x.parent != y.parent)<;>cases(x.dL != y.dL)<;>rfl) (fun x y=>by
  simp only[YL,bne,jh];by_cases q0:x.parent=y.parent<;>by_cases q1:x.dL=y.dL<;>by_cases q2:x.cond=y.cond<;>simp[q0,q1,q2])
 have k3:=fun k=>MX (g:=fun x:Int=>x) (f:=fun x y:Int=>some (decide (x=y))) (k:=k) (L:=qH a b k) h3 (fun _=>rfl) (fun x xs i=>by
  rw[qH];congr 1) (fun x y=>rfl)
 rw[k1,k2,k3,map_id',map_id'];simp only[h1,h2,h3,De,bQ,aQ];cases decide (a.bE.map aZ.shape=b.bE.map aZ.shape)<;>cases decide (a.nodes.map (fun x=>(x.parent,x.dL,x.cond))=b.nodes.map (fun x=>(x.parent,x.dL,x.cond)))<;>cases decide (a.ends=b.ends)<;>rfl
theorem a5v(a b:aI):lX a b=some (J3 a b):=by
 unfold lX;simp only[a08,a3O,LI,aA,FA];by_cases h1:a.bE.length=b.bE.length;rotate_left
 ·have:a.bE≠b.bE:=fun e=>h1 (by rw[e])
  simp only[h1,J3,this,decide_false,bz,aH,Bool.false_and];cases decide (a.rules=b.rules)<;>cases decide (a.ends=b.ends)<;>cases decide (a.facts=b.facts)<;>rfl
 by_cases h2:a.nodes.length=b.nodes.length;rotate_left
 ·have:a.nodes≠b.nodes:=fun e=>h2 (by rw[e])
  simp only[h1,h2,J3,this,De,decide_false,bz,bQ,aH,aQ,w8];cases decide (a.rules=b.rules)<;>cases decide (a.ends=b.ends)<;>cases decide (a.facts=b.facts)<;>rfl
 have k1:=fun k=>MX (g:=fun x:aZ=>x) (f:=fun x y:aZ=>(fU x.shape y.shape).bind fun r=>bif !r then some false else j7 x.facts y.facts) (k:=k) (L:=gW a b k) h1 (fun _=>rfl) (fun x xs i=>by
  rw[gW];congr 1;funext y;rw[MA,aA,aA];cases decide (x.shape=y.shape)<;>rfl) (fun x y=>by
  obtain⟨x0,x1⟩:=x;obtain⟨y0,y1⟩:=y;simp only[MA,LI,aA];by_cases q0:x0=y0<;>by_cases q1:x1=y1<;>simp[q0,q1])
 have k2:=fun k=>MX (g:=fun x:Node=>x) (f:=fun x y:Node=>bif x.parent != y.parent then some false else bif x.dL != y.dL then some false else(ji x.cond y.cond).bind fun r=>bif !r then some false else nc x.tokens y.tokens) (k:=k) (L:=gX a b k) h2 (fun _=>rfl) (fun x xs i=>by
  rw[gX];congr 1;funext y;rw[Ol,aA,aA];cases(x.parent != y.parent)<;>cases(x.dL != y.dL)<;>cases decide (x.cond=y.cond)<;>rfl) (fun x y=>by
  obtain⟨x0,x1,x2,x3⟩:=x;obtain⟨y0,y1,y2,y3⟩:=y;simp only[Ol,a09,aA,bne,jh];by_cases q0:x0=y0<;>by_cases q1:x1=y1<;>by_cases q2:x2=y2<;>by_cases q3:x3=y3<;>simp[q0,q1,q2,q3])
 rw[k1,k2,map_id',map_id',map_id',map_id',J3];simp only[h1,h2,De,bQ,aQ];cases decide (a.rules=b.rules)<;>cases decide (a.ends=b.ends)<;>cases decide (a.facts=b.facts)<;>cases decide (a.bE=b.bE)<;>cases decide (a.nodes=b.nodes)<;>rfl
end Go.Cx
namespace Go.Cx
open Go.RowKit Go.Proofs Tryz
def xo(s:Bytes):Option Nat:=if 1<=s.length/\s.length<=4 then(match Lib.decFrom 0 s with|some n=>if Lib.decDigits n=s then some n else none|none=>none)else none
def pI(s:Bytes):Int×Bool:=match xo s with|some n=>((n:Int),true)|none=>(0,false)
theorem WG:∀(u:Nat),∀b∈Lib.decDigits u,48<=b.toNat/\b.toNat<=57:=by
 intro u
 induction u using Nat.strongRecOn with
 |_ u ih=>
  have hb:∀v:Nat,v<10->48<=(UInt8.ofNat (48+v)).toNat/\(UInt8.ofNat (48+v)).toNat<=57:=by
   intro v hv;have:(UInt8.ofNat (48+v)).toNat=48+v:=by simp;omega
   omega
  intro b hm;rw[Lib.decDigits]at hm;split at hm
  ·rename_i h10;simp only[cA]at hm;subst hm;exact hb u h10
  ·rename_i h10;rcases af.1 hm with hm|hm
   ·exact ih (u/10) (by omega) b hm
   ·simp only[cA]at hm;subst hm;exact hb (u%10) (by omega)
theorem a0i(a:Bytes)(k:Int->Option (Int×Bool))(ha:a.length<=4):∀(rest pre:Bytes) (acc:Nat),a=pre++rest->acc<10^pre.length->∀n,rest.length<n->
 iU a k n (acc:Int) (pre.length:Int)=(match Lib.decFrom acc rest with|some m=>k (m:Int)|none=>some (0,false)):=by
 intro rest
 induction rest with
 |nil=>
  intro pre acc h _ n hn;obtain⟨m,rfl⟩:∃m,n=m+1:=⟨n-1,by simp at hn;omega⟩
  have e1:decide ((pre.length:Int)<(a.length:Int))=false:=by simp[h]
  rw[iU,e1];rfl
 |cons x xs ih=>
  intro pre acc h hacc n hn;obtain⟨m,rfl⟩:∃m,n=m+1:=⟨n-1,by simp at hn;omega⟩
  have hl:a.length=pre.length+(xs.length+1):=by rw[h];simp
  have e1:decide ((pre.length:Int)<(a.length:Int))=true:=by rw[hl];simp;omega
  have e4:IntKind.i64.wrap ((pre.length:Int)+1)=((pre++[x]).length:Int):=by rw[JK (by omega)];simp
  have h10:acc<10000:=dS hacc (tT (by omega) (show pre.length<=4 by omega));have hx:=x.toNat_lt;rw[iU,e1,aH,wE h,aA,e4];by_cases c1:(x.toNat:Int)<48
  ·have:Lib.digitVal x=none:=by unfold Lib.digitVal;rw[az (by omega)]
   simp only[Lib.decFrom,this];rw[ay c1,aH]
  ·by_cases c2:(x.toNat:Int)>57
   ·have:Lib.digitVal x=none:=by unfold Lib.digitVal;rw[az (by omega)]
    simp only[Lib.decFrom,this];rw[bH c1,aQ,ay c2,aH]
   ·have hd:Lib.digitVal x=some (x.toNat-48):=by unfold Lib.digitVal;rw[bK (by omega)]
    have e5:IntKind.i64.wrap ((IntKind.i64.wrap (10*(acc:Int)))+(IntKind.i64.wrap (IntKind.u8.wrap ((x.toNat:Int)-48))))=((acc*10+(x.toNat-48):Nat):Int):=by
     rw[eM (k:=.u8) (pN.u8.2 (by omega)),eM (n:=(10:Int)*(acc:Int)) (pN.i64.2 (by omega)),eM (n:=(x.toNat:Int)-48) (pN.i64.2 (by omega)),eM (pN.i64.2 (by omega))];omega
    simp only[Lib.decFrom,hd];rw[bH c1,aQ,bH c2,aQ,e5];refine ih (pre++[x]) _ (by simp[h]) ?_ m (by simp at hn;omega);rw[bC,ey,wA];omega
theorem PI(s:Bytes):mE s=some (pI s):=by
 unfold mE;rw[Iw,aA];by_cases hl:1<=s.length/\s.length<=4
 ·have e1:(decide ((s.length:Int)>=1)&&decide ((s.length:Int)<=4))=true:=by simp;omega
  have t:=a0i s (fun z=>((mh z).bind fun F1=>(bif !((F1:Bytes)==s)then(some (0,false))else(some (z,true))))) hl.2 s [] 0 rfl (by simp) fuel (by unfold fuel;omega);rw[e1,bQ,aQ];refine t.trans ?_;unfold pI xo;rw[bK hl];cases hd:Lib.decFrom 0 s with
  |none=>rfl
  |some m=>
   have hm:=Lib.decFrom_lt s 0 m hd;have h10:m<10000:=by
    have:=tT (n:=10) (by omega) hl.2;omega
   simp only;rw[a42 _ (pN.i64.2 (by omega)),aA];have e2:Lib.itoa (m:Int)=Lib.decDigits m:=by unfold Lib.itoa;rw[az (by omega)];simp
   rw[e2];by_cases he:Lib.decDigits m=s
   ·rw[bK he,he];simp
   ·rw[az he];have:(Lib.decDigits m==s)=false:=by simpa using he
    rw[this];rfl
 ·have e1:(decide ((s.length:Int)>=1)&&decide ((s.length:Int)<=4))=false:=by
   rw[Cs,nU,nU];omega
  rw[e1];unfold pI xo;rw[az hl];rfl
theorem Oj(s:Bytes):mC s=some (pI s):=by
 unfold mC pI xo;by_cases hl:1<=s.length/\s.length<=4
 ·have e1:decide ((s.length:Int)<1)=false:=by simp;omega
  have e2:decide ((s.length:Int)>4)=false:=by simp;omega
  rw[bK hl,e1,aQ,e2,aQ];unfold zu Oo;rw[bK (by omega)];cases s with
  |nil=>simp at hl
  |cons b t=>
   have fin:∀(m:Nat),Lib.decFrom 0 (b::t)=some m->(bif decide ((m:Int)<0)then some ((0:Int),false)else bif decide ((m:Int)>9999)then some (0,false)else(kD (m:Int)).bind fun y8=>bif !((y8:Bytes)==(b::t))then some (0,false)else some ((m:Int),true))=
    some (match(if Lib.decDigits m=b::t then some m else none)with|some n=>((n:Int),true)|none=>(0,false)):=by
    intro m hd;have hm:=Lib.decFrom_lt (b::t) 0 m hd;have h10:m<10000:=by
     have:=tT (n:=10) (by omega) hl.2;omega
    have e3:decide ((m:Int)<0)=false:=by simp
    have e4:decide ((m:Int)>9999)=false:=by simp;omega
    have e5:Lib.itoa (m:Int)=Lib.decDigits m:=by unfold Lib.itoa;rw[az (by omega)];simp
    rw[e3,aQ,e4,aQ,a3J,aA,e5];by_cases he:Lib.decDigits m=b::t
    ·rw[bK he,he];simp
    ·rw[az he];have:(Lib.decDigits m==(b::t))=false:=by simpa using he
     rw[this];rfl
   have sign:∀(n:Int),b.toNat<48->(bif decide (n<0)then some ((0:Int),false)else bif decide (n>9999)then some (0,false)else(kD n).bind fun y8=>bif !((y8:Bytes)==(b::t))then some (0,false)else some (n,true))=some (0,false):=by
    intro n hb;by_cases hn:n<0
    ·rw[ay hn];rfl
    rw[bH hn,aQ,a3J,aA];cases decide (n>9999)with
    |true=>rfl
    |false=>
     have e5:Lib.itoa n=Lib.decDigits n.toNat:=by unfold Lib.itoa;rw[az hn]
     have:(Lib.itoa n==(b::t))=false:=by
      rw[e5,cy];intro h;have:=WG n.toNat b (by rw[h];simp);omega
     rw[this];rfl
   simp only[Lib.atoi];by_cases hb:b=45
   ·subst hb;have hd:Lib.decFrom 0 ((45:UInt8)::t)=none:=by simp[Lib.decFrom,Lib.digitVal]
    rw[bK (by decide),hd];cases Lib.decNat t with
    |none=>rfl
    |some m=>exact sign _ (by decide)
   ·rw[az (by simpa using hb)];by_cases Mv:b=43
    ·subst Mv;have hd:Lib.decFrom 0 ((43:UInt8)::t)=none:=by simp[Lib.decFrom,Lib.digitVal]
     rw[bK (by decide),hd];cases Lib.decNat t with
     |none=>rfl
     |some m=>exact sign (m:Int) (by decide)
    ·rw[az (by simpa using Mv)];have hdn:Lib.decNat (b::t)=Lib.decFrom 0 (b::t):=by simp[Lib.decNat]
     rw[hdn];cases hd:Lib.decFrom 0 (b::t)with
     |none=>rfl
     |some m=>exact fin m hd
 ·rw[az hl];by_cases h1:(s.length:Int)<1
  ·rw[ay h1];rfl
  ·have h2:(s.length:Int)>4:=by omega
   rw[bH h1,aQ,ay h2];rfl
def vu(a b:Bytes):Int:=if Op.bytesLess a b=true then-1 else if a=b then 0 else 1
def Gf(x y:Int):Int:=if x<y then-1 else if x>y then 1 else 0
def BI(a b:Bytes):Int:=match xo a,xo b with
 |some x,some y=>Gf x y
 |some _,none=> -1
 |none,some _=>1
 |none,none=>vu a b
def tr{α:Type}(g:α->α->Int):List α->List α->Option Int
 |x::xs,y::ys=>if g x y≠0 then some (g x y)else tr g xs ys
 |_,_=>none
def cmpL{α:Type}(g:α->α->Int)(a b:List α):Int:=match tr g a b with|some z=>z|none=>Gf a.length b.length
def qN(a b:aD):Int:=if a.rel≠b.rel then vu a.rel b.rel else cmpL BI a.args b.args
theorem TM{a b:Bytes}(h:a≠b):vu a b≠0:=by
 unfold vu;split
 ·omega
 ·first|omega| (rw[az h];omega)
theorem Ng(a:Bytes):vu a a=0:=by
 unfold vu;rw[pO];simp
theorem TH:∀(a b:Bytes),Lib.compareBytes a b=vu a b
 | [],[]=>by simp[Lib.compareBytes,vu,Op.bytesLess]
 | [],_::_=>by simp[Lib.compareBytes,vu,Op.bytesLess]
 |_::_,[]=>by simp[Lib.compareBytes,vu,Op.bytesLess]
 |a::xs,b::ys=>by
  have ih:=TH xs ys;simp only[Lib.compareBytes,vu,Op.bytesLess];by_cases h1:a<b
  ·simp[h1]
  ·by_cases h2:b<a
   ·have hne:a≠b:=fun e=>by subst e;exact h1 h2
    simp[h1,h2,hne]
   ·have e:a=b:=by
     rw[Cw]at h1 h2;exact UInt8.toNat_inj.1 (by omega)
    subst e;rw[az h1,az h1,ih];simp[vu,h1]
theorem OS{α:Type}{f:α->α->Option Int}{g:α->α->Int}{c:α->aP}{L:List α->Nat->Option Int}{k:Option Int}{b:List α}(uO:∀i,L [] i=k)
 (tv:∀x xs i,L (x::xs) i=bif decide (((i:Int):Int)<((b.map c).length:Int))then((hO b (i:Int)).bind fun y=>((f x y).bind fun z=>(bif (z:Int) != 0 then(some z)else(L xs (i+1)))))else k):
 ∀(l pre rest:List α),b=pre++rest->(∀x∈l,∀y∈rest,f x y=some (g x y))->L l pre.length=(match tr g l rest with|some z=>some z|none=>k):=by
 intro l
 induction l with
 |nil=>intro pre rest h _;rw[uO];cases rest<;>rfl
 |cons x xs ih=>
  intro pre rest h hf;rw[tv];cases rest with
  |nil=>
   have e1:decide ((pre.length:Int)<((b.map c).length:Int))=false:=by simp[h]
   rw[e1];rfl
  |cons y ys=>
   have e1:decide ((pre.length:Int)<((b.map c).length:Int))=true:=by simp[h];omega
   rw[e1,aH,wE h,aA,hf x (by simp) y (by simp),aA];simp only[tr];have t:=ih (pre++[y]) ys (by simp[h]) (fun x' hx y' hy=>hf x' (by simp[hx]) y' (by simp[hy]));rw[bC,ey]at t;by_cases hz:g x y=0
   ·have e2:(g x y != 0)=false:=by simp[hz]
    rw[e2,aQ,t,az (by simp[hz])]
   ·have e2:(g x y != 0)=true:=by simp[hz]
    rw[e2,aH,bK hz]
theorem OT(x y:Int):(bif decide (x<y)then some (-1:Int)else bif decide (x>y)then some 1 else some 0)=some (Gf x y):=by
 unfold Gf;by_cases h1:x<y
 ·simp[h1]
 ·by_cases h2:x>y
  ·simp[h1,h2]
  ·simp[h1,h2]
theorem a23(a b:Bytes):rz a b=some (vu a b):=by
 unfold rz vu;cases h:Op.bytesLess a b with
 |true=>rfl
 |false=>
  by_cases e:a=b
  ·simp[e]
  ·have e':(a==b)=false:=by simpa using e
   simp[e,e']
theorem a22(a b:Bytes):jL a b=some (BI a b):=by
 unfold jL BI;rw[PI,PI,aA,aA,a23];unfold pI;cases xo a with
 |none=>cases xo b<;>rfl
 |some x=>
  cases xo b with
  |none=>rfl
  |some y=>
   simp only[aH,bQ,aQ];exact OT _ _
theorem X4(x y:Int):iN x y=some (Gf x y):=by
 unfold iN;exact OT x y
theorem a1S(a b:Bytes):qI a b=some (vu a b):=by
 unfold qI;show some (Lib.compareBytes a b)=_;rw[TH]
theorem a5i(a b:Bytes):lT a b=some (BI a b):=by
 unfold lT BI;rw[Oj,Oj,aA,aA,a1S];unfold pI;cases xo a with
 |none=>cases xo b<;>rfl
 |some x=>
  cases xo b with
  |none=>rfl
  |some y=>
   simp only[aH,X4,aA]
theorem Y2(a b:aD):hG a b=some (qN a b):=by
 unfold hG qN;by_cases h:a.rel=b.rel
 ·have e:(a.rel==b.rel)=true:=by simpa using h
  rw[e,bQ,aQ,az (by simpa using h)];have t:=fun k=>OS (f:=jL) (g:=BI) (c:=tx) (L:=jA a b k) (b:=b.args) (k:=k) (fun _=>rfl) (fun _ _ _=>rfl) a.args [] b.args rfl (fun x _ y _=>a22 x y)
  refine(t _).trans ?_;unfold cmpL;cases tr BI a.args b.args with
  |some z=>rfl
  |none=>simp only[ax];exact OT _ _
 ·have e:(a.rel==b.rel)=false:=by simpa using h
  rw[e,bz,aH,bK h,a23];rfl
theorem X3(a b:aD):fp a b=some (qN a b):=by
 unfold fp qN;rw[a1S,aA];by_cases h:a.rel=b.rel
 ·have e:(vu a.rel b.rel != 0)=false:=by rw[h,Ng];rfl
  rw[e,aQ,az (by simpa using h)];have t:=fun k=>OS (f:=lT) (g:=BI) (c:=tx) (L:=j0 a b k) (b:=b.args) (k:=k) (fun _=>rfl) (fun _ _ _=>rfl) a.args [] b.args rfl (fun x _ y _=>a5i x y)
  refine(t _).trans ?_;unfold cmpL;cases tr BI a.args b.args with
  |some z=>rfl
  |none=>simp only[ax,X4,aA]
 ·have e:(vu a.rel b.rel != 0)=true:=by simpa using TM h
  rw[e,aH,bK h]
theorem a5j(a b:aT):nH a b=some (cmpL qN a.facts b.facts):=by
 unfold nH nY;have t:=OS (f:=fp) (g:=qN) (c:=aD.c) (L:=ei a.facts b.facts ((iN ((a.facts.map aD.c).length:Int) ((b.facts.map aD.c).length:Int)).bind fun Da=>(some Da))) (b:=b.facts) (k:=_) (fun _=>rfl) (fun _ _ _=>rfl) a.facts [] b.facts rfl (fun x _ y _=>X3 x y);rw[show ei a.facts b.facts _ a.facts 0=_ from t];unfold cmpL;cases tr qN a.facts b.facts with
 |some z=>rfl
 |none=>simp only[ax,X4,aA]
def chainB:Option aD->aJ->Bool
 |_,[]=>true
 |p,x::xs=>oB x&&(match p with|some q=>decide (qN q x<0)|none=>true)&&chainB (some x) xs
def fZ(l:aJ):Bool:=chainB none l&&decide (l.length<=24)
theorem NW{isF:aD->Option Bool}{cmp:aD->aD->Option Int}{a:aJ}{L:aJ->Nat->Option Bool}{k:Option Bool}(ha:a.length<=1099511627770)(hc:∀x y,cmp x y=some (qN x y))(uO:∀i,L [] i=k)
 (tv:∀x xs i,L (x::xs) i=((isF x).bind fun y=>(bif !(y)then(some false)else(bif decide (((i:Int):Int)>0)then((hO a (IntKind.i64.wrap ((i:Int)-1))).bind fun q=>((cmp q x).bind fun z=>(bif decide ((z:Int)>=0)then(some false)else(L xs (i+1)))))else(L xs (i+1)))))):
 ∀(l pre:aJ),a=pre++l->(∀x∈l,isF x=some (oB x))->L l pre.length=bif chainB pre.getLast? l then k else some false:=by
 intro l
 induction l with
 |nil=>intro pre _ _;rw[uO];rfl
 |cons x xs ih=>
  intro pre h hf;have hl:a.length=pre.length+(xs.length+1):=by rw[h];simp
  have t:=ih (pre++[x]) (by simp[h]) (fun y hy=>hf y (by simp[hy]));rw[bC,ey,nD]at t;rw[tv,hf x (by simp),aA,t];simp only[chainB];cases oB x with
  |false=>rfl
  |true=>
   rw[bQ,aQ,fC];rcases wW pre with rfl|⟨p,z,Z2⟩
   ·simp
   ·rw[wV]at Z2;subst Z2;have e0:decide (((p++[z]).length:Int)>0)=true:=by simp<;>omega
    have e1:IntKind.i64.wrap (((p++[z]).length:Int)-1)=(p.length:Int):=by
     rw[eM (pN.i64.2 (by simp at hl⊢;omega))];simp
    have e2:hO a (p.length:Int)=some z:=wE (xs:=x::xs) (by rw[h];simp);rw[e0,aH,e1,e2,aA,hc,aA,nD];by_cases hz:qN z x<0
    ·have e3:decide (qN z x>=0)=false:=by simp;omega
     rw[e3,aQ];show _=bif (decide (qN z x<0)&&chainB (some x) xs)then k else some false
     rw[ay hz,fC]
    ·have e3:decide (qN z x>=0)=true:=by simp;omega
     rw[e3,aH];show _=bif (decide (qN z x<0)&&chainB (some x) xs)then k else some false
     rw[bH hz];rfl
theorem a1x(l:aJ)(h:rP aD.wt l<=1048576):vE l=some (fZ l):=by
 unfold vE fZ;have hl:=qk aD.wt l;have t:=NW (isF:=qT) (cmp:=hG) (a:=l) (L:=rZ l (some (decide ((((l.map aD.c).length:Int):Int)<=24)))) (k:=_) (by omega) Y2 (fun _=>rfl) (fun _ _ _=>rfl) l [] rfl (fun x hx=>a26 x (by have:=qK (w:=aD.wt) hx;omega));refine t.trans ?_;have e:decide (((l.map aD.c).length:Int)<=24)=decide (l.length<=24):=by rw[ax];congr 1;rw[tU];omega
 rw[e];show(bif chainB none l then _ else _)=_;cases chainB none l<;>rfl
theorem Wy(l:aJ)(h:rP aD.wt l<=1048576):nr l=some (fZ l):=by
 unfold nr fZ;have hl:=qk aD.wt l;have t:=NW (isF:=oQ) (cmp:=fp) (a:=l) (L:=iK l (some true)) (k:=_) (by omega) X3 (fun _=>rfl) (fun _ _ _=>rfl) l [] rfl (fun x hx=>X8 x (by have:=qK (w:=aD.wt) hx;omega));rw[show iK l (some true) l 0=_ from t];by_cases h24:l.length<=24
 ·have e:decide (((l.map aD.c).length:Int)>24)=false:=by rw[ax];simp;omega
  rw[e,aQ,ay h24,xM];show(bif chainB none l then _ else _)=_;cases chainB none l<;>rfl
 ·have e:decide (((l.map aD.c).length:Int)>24)=true:=by rw[ax];simp;omega
  rw[e,aH,bH h24,w8]
end Go.Cx
