/- What functions of the program compute, and the walks that show it. No condition. -/
import Derived.Test.YtnbmhfbejojjiaaGreatDoorPFnNodesG4
set_option linter.unusedVariables false
set_option linter.unusedSimpArgs false
namespace Go.Cx
open Go.RowKit Go.Proofs Tryz
set_option maxRecDepth 100000
variable{Γ:sO}{N:Nat->St->Prop}
def iC(aC:aJ)(k1:Option Bool):af->Nat->Option Bool
 | [],i1=>(k1)
 |bh::cV,i1=>((nA bh).bind fun y62=>(bif !(y62)then(some false)else(bif ((i1:Int):Int)==0 then(bif (bh.kind:Int) != 1 then(some false)else((nq aC (i1:Int)).bind fun y67=>(bif !(y67)then(some false)else(iC aC k1 cV (i1+1)))))else((nq aC (i1:Int)).bind fun y70=>(bif !(y70)then(some false)else(iC aC k1 cV (i1+1)))))))
def lH(aC:aJ)(Dx:aF)(i2:Nat)(yw:aF)(k3:Option Bool):aF->Nat->Option Bool
 | [],i3=>(k3)
 |Nv::LF,i3=>((k8 Dx Nv).bind fun a39=>(bif !(a39)then(some false)else(lH aC Dx i2 yw k3 LF (i3+1))))
def lG(aC:aJ)(Dx:aF)(k2:Option Bool):dN->Nat->Option Bool
 | [],i2=>(k2)
 |jM::uO,i2=>((qL jM).bind fun a38=>(bif !(a38)then(some false)else((lN jM.pat.args).bind fun yw=>(bif decide (yw.length<=maxLen)then(lH aC Dx i2 yw (lG aC Dx k2 uO (i2+1)) yw 0)else none))))
def sQ(aC:aJ):Option Bool:=((oS aC.name).bind fun y1=>(bif !(y1)then(some false)else(bif decide ((aC.prio:Int)<0)then(some false)else(bif decide ((aC.prio:Int)>9)then(some false)else(bif decide ((((aC.conds.map aH.c).length:Int):Int)<1)then(some false)else(bif decide ((((aC.conds.map aH.c).length:Int):Int)>4)then(some false)else(bif decide ((((aC.cO.map Action.c).length:Int):Int)<1)then(some false)else(bif decide ((((aC.cO.map Action.c).length:Int):Int)>2)then(some false)else(iC aC ((nI aC ((aC.conds.map aH.c).length:Int)).bind fun Dx=>(lG aC Dx ((oF aC.conds).bind fun a3A=>((jC a3A).bind fun a3B=>(some (decide ((((a3B.map tx).length:Int):Int)<=6))))) aC.cO 0)) aC.conds 0)))))))))
def H8(aC:aJ)(dQ:Int):St:=⟨[(1,D.ptr 0 0),(49,D.sl (aC.conds.map aH.c)),(50,D.int .i64 ((aC.conds.map aH.c).length:Int)),(51,D.int .i64 dQ)],[Ob.box (aJ.c aC)]⟩
theorem FW(hΓ:Γ.nt=111){aC:aJ}{r:Bool}{k1:Option Bool}(eR:k1=some r->Ax Γ N f97 (.q [[none]] (D.bool r)) [1,1,1] ⟨[(1,D.ptr 0 0)],[Ob.box (aJ.c aC)]⟩)(hm1:aC.conds.length<=maxLen):∀(rest:af) (i1:Nat),aC.conds.drop i1=rest->iC aC k1 rest i1=some r->Ar Γ N f97 (.q [[none]] (D.bool r)) [1,1,0,1,0] (rest.length+1) (H8 aC (i1:Int)):=by
 intro rest
 induction rest with
 |nil=>
  intro i1 bA h;rw[iC]at h;refine aR fun N1 cW cL=>?_
  exact((aU.ge aH.c bA).a [.hl 0 [1] [0]]).ex hΓ cW (eR h)
 |cons bh cV ih1=>
  intro i1 bA h;rw[iC]at h;refine aR fun N1 cW cL=>?_
  obtain⟨y62,h63,h⟩:=aB h;have F3:=(((aU.lt aH.c bA).l (bI aH.c 5 (dc bA) rfl)).g (j9 h63))
  obtain⟨h64,h⟩|⟨h64,h⟩:=aM h
  ·have h:=aK h;subst h;exact((((F3.r 3 h64).a [bF,bF,bF]).r 2 h64).T 6).ret hΓ
  ·have GX:=(F3.r 3 h64)
   obtain⟨h65,h⟩|⟨h65,h⟩:=aM h
   ·have Jd:=((((GX.r 3 h65).b h64).b h65).b h64)
    obtain⟨h66,h⟩|⟨h66,h⟩:=aM h
    ·have h:=aK h;subst h;exact((Jd.r 5 h66).T 1).ret hΓ
    ·obtain⟨y67,h68,h⟩:=aB h;have U6:=(((Jd.r 3 h66).g (vH h68)).r 2 h66)
     obtain⟨h69,h⟩|⟨h69,h⟩:=aM h
     ·have h:=aK h;subst h;exact(U6.b h69).ret hΓ
     ·exact((U6.b h69).a [.cn [1,49,50,51] [0]]).ct hΓ cL (iS bA hm1) (ih1 (i1+1) (dn bA) h)
   ·obtain⟨y70,h71,h⟩:=aB h;have U7:=(((((((GX.r 3 h65).b h64).b h65).b h64).F 3).g (vH h71)).F 2)
    obtain⟨h72,h⟩|⟨h72,h⟩:=aM h
    ·have h:=aK h;subst h;exact(U7.b h72).ret hΓ
    ·exact((U7.b h72).a [.cn [1,49,50,51] [0]]).ct hΓ cL (iS bA hm1) (ih1 (i1+1) (dn bA) h)
def H9(aC:aJ)(Dx:aF)(dQ:Int):St:=⟨[(1,D.ptr 0 0),(5,D.acc 1),(81,D.sl (aC.cO.map Action.c)),(82,D.int .i64 ((aC.cO.map Action.c).length:Int)),(83,D.int .i64 dQ)],[Ob.box (aJ.c aC),Ob.row .uq 9 1 (Dx.map tx)]⟩
def HA(aC:aJ)(Dx:aF)(i2:Nat)(yw:aF)(dQ:Int):St:=⟨[(1,D.ptr 0 0),(5,D.acc 1),(81,D.sl (aC.cO.map Action.c)),(82,D.int .i64 ((aC.cO.map Action.c).length:Int)),(83,D.int .i64 (i2:Int)),(93,D.acc 2),(94,D.int .i64 ((yw.map tx).length:Int)),(95,D.int .i64 dQ)],[Ob.box (aJ.c aC),Ob.row .uq 9 1 (Dx.map tx),Ob.row .uq 9 1 (yw.map tx)]⟩
theorem FY(hΓ:Γ.nt=111){aC:aJ}{Dx:aF}{i2:Nat}{yw:aF}{r:Bool}{k3:Option Bool}(W8:k3=some r->Ax Γ N f97 (.q [[none]] (D.bool r)) [1,1,1,1,0,1,0,0,1,1,1] ⟨[(1,D.ptr 0 0),(5,D.acc 1),(81,D.sl (aC.cO.map Action.c)),(82,D.int .i64 ((aC.cO.map Action.c).length:Int)),(83,D.int .i64 (i2:Int))],[Ob.box (aJ.c aC),Ob.row .uq 9 1 (Dx.map tx)]⟩)(O8:yw.length<=maxLen):∀(rest:aF) (i3:Nat),yw.drop i3=rest->lH aC Dx i2 yw k3 rest i3=some r->Ar Γ N f97 (.q [[none]] (D.bool r)) [1,1,1,1,0,1,0,0,1,1,0,0,1,1,1,0] (rest.length+1) (HA aC Dx i2 yw (i3:Int)):=by
 intro rest
 induction rest with
 |nil=>
  intro i3 vo h;rw[lH]at h;refine aR fun N3 QB Kn=>?_
  exact((aU.ge tx vo).a [.hl 3 [1,5,81,82,83] [0,1]]).ex hΓ QB (W8 h)
 |cons Nv LF ih3=>
  intro i3 vo h;rw[lH]at h;refine aR fun N3 QB Kn=>?_
  obtain⟨a39,h230,h⟩:=aB h;have a2M:=((((aU.lt tx vo).i (mS tx 1 (dc vo))).o 1 1 .uq (cH tx (dc vo))).g (oh h230))
  obtain⟨h231,h⟩|⟨h231,h⟩:=aM h
  ·have h:=aK h;subst h;exact(a2M.b h231).ret hΓ
  ·exact((a2M.b h231).a [.cn [1,5,81,82,83,93,94,95] [0,1,2]]).ct hΓ Kn (iS vo O8) (ih3 (i3+1) (dn vo) h)
theorem FX(hΓ:Γ.nt=111){aC:aJ}{Dx:aF}{r:Bool}{k2:Option Bool}(Ak:k2=some r->Ax Γ N f97 (.q [[none]] (D.bool r)) [1,1,1,1,1] ⟨[(1,D.ptr 0 0)],[Ob.box (aJ.c aC)]⟩)(hm2:aC.cO.length<=maxLen):∀(rest:dN) (i2:Nat),aC.cO.drop i2=rest->lG aC Dx k2 rest i2=some r->Ar Γ N f97 (.q [[none]] (D.bool r)) [1,1,1,1,0,1,0] (rest.length+1) (H9 aC Dx (i2:Int)):=by
 intro rest
 induction rest with
 |nil=>
  intro i2 hd2 h;rw[lG]at h;refine aR fun N2 um sL=>?_
  exact((aU.ge Action.c hd2).a [.hl 0 [1] [0]]).ex hΓ um (Ak h)
 |cons jM uO ih2=>
  intro i2 hd2 h;rw[lG]at h;refine aR fun N2 um sL=>?_
  obtain⟨a38,h204,h⟩:=aB h;have a2N:=(((aU.lt Action.c hd2).l (bI Action.c 3 (dc hd2) rfl)).g (Bh h204))
  obtain⟨h205,h⟩|⟨h205,h⟩:=aM h
  ·have h:=aK h;subst h;exact(a2N.b h205).ret hΓ
  ·obtain⟨yw,h207,h⟩:=aB h;obtain⟨h232,h⟩:=bQ h;refine(((a2N.b h205).g (qw h207)).a [.cn [1,5,81,82,83,93,94,95] [0,1,3]]).lp hΓ (FY hΓ (fun h=>?_) (ay h232) yw 0 rfl h);exact(aU.a [.cn [1,5,81,82,83] [0,1]]).ct hΓ sL (iS hd2 hm2) (ih2 (i2+1) (dn hd2) h)
theorem EJ{aC:aJ}{r:Bool}(h:sQ aC=some r):Good prog 97 [D.agg (aJ.c aC)] (D.bool r):=by
 refine gd func97 [[none]] 111 fun hr Γ hΓ=>?_
 rw[sQ]at h;obtain⟨y1,h2,h⟩:=aB h;obtain⟨h3,h⟩|⟨h3,h⟩:=aM h
 ·have h:=aK h;subst h;exact(((aU.g (lF h2)).r 4 h3).T 25).ret hΓ
 ·have a2O:=((aU.g (lF h2)).r 4 h3)
  obtain⟨h4,h⟩|⟨h4,h⟩:=aM h
  ·have h:=aK h;subst h;exact((a2O.r 4 h4).T 21).ret hΓ
  ·have a2P:=(a2O.r 4 h4)
   obtain⟨h5,h⟩|⟨h5,h⟩:=aM h
   ·have h:=aK h;subst h;exact((a2P.r 5 h5).T 16).ret hΓ
   ·have a2Q:=(a2P.r 5 h5)
    obtain⟨h6,h⟩|⟨h6,h⟩:=aM h
    ·have h:=aK h;subst h;exact((a2Q.r 5 h6).T 11).ret hΓ
    ·have a2R:=(a2Q.r 5 h6)
     obtain⟨h7,h⟩|⟨h7,h⟩:=aM h
     ·have h:=aK h;subst h;exact((a2R.r 5 h7).T 6).ret hΓ
     ·have a2S:=(a2R.r 5 h7)
      obtain⟨h8,h⟩|⟨h8,h⟩:=aM h
      ·have h:=aK h;subst h;exact((a2S.r 5 h8).T 1).ret hΓ
      ·have a2T:=(a2S.r 5 h8)
       obtain⟨h9,h⟩|⟨h9,h⟩:=aM h
       ·have h:=aK h;subst h;exact(a2T.b h9).ret hΓ
       ·refine((a2T.b h9).a [.cn [1,49,50,51] [0]]).lp hΓ (FW hΓ (fun h=>?_) (by have:=(j0.sl (j0.agg (hr _ (aD (i:=0) rfl)) (.sl (aC.conds.map aH.c)) (by simp))).1;simpa using this) aC.conds 0 rfl h);obtain⟨Dx,h74,h⟩:=aB h;refine((aU.g (uX h74)).a [.cn [1,5,81,82,83] [0,1]]).lp hΓ (FX hΓ (fun h=>?_) (by have:=(j0.sl (j0.agg (hr _ (aD (i:=0) rfl)) (.sl (aC.cO.map Action.c)) (by simp))).1;simpa using this) aC.cO 0 rfl h);obtain⟨a3A,h234,h⟩:=aB h;obtain⟨a3B,h236,h⟩:=aB h;cases h;exact((aU.g (AE h234)).g (p6 h236)).ret hΓ
def j8(aC:au)(aa:Bytes)(k1:Option Int):au->Nat->Option Int
 | [],i1=>(k1)
 |bh::cV,i1=>(bif (bh.name:Bytes)==aa then(some (i1:Int))else(j8 aC aa k1 cV (i1+1)))
def qK(aC:au)(aa:Bytes):Option Int:=(j8 aC aa (some (-1)) aC 0)
def EI(aC:au)(aa:Bytes)(dQ:Int):St:=⟨[(1,D.str aa),(7,D.sl (aC.map aJ.c)),(8,D.int .i64 ((aC.map aJ.c).length:Int)),(9,D.int .i64 dQ)],[]⟩
theorem DA(hΓ:Γ.nt=20){aC:au}{aa:Bytes}{r:Int}{k1:Option Int}(eR:k1=some r->Ax Γ N f98 (.q [[none]] (D.int .i64 r)) [1,1] ⟨[],[]⟩)(hm1:aC.length<=maxLen):∀(rest:au) (i1:Nat),aC.drop i1=rest->j8 aC aa k1 rest i1=some r->Ar Γ N f98 (.q [[none]] (D.int .i64 r)) [1,0,1,0] (rest.length+1) (EI aC aa (i1:Int)):=by
 intro rest
 induction rest with
 |nil=>
  intro i1 bA h;rw[j8]at h;refine aR fun N1 cW cL=>?_
  exact((aU.ge aJ.c bA).a [.hl 0 [] []]).ex hΓ cW (eR h)
 |cons bh cV ih1=>
  intro i1 bA h;rw[j8]at h;refine aR fun N1 cW cL=>?_
  have ig:=((aU.lt aJ.c bA).l (bI aJ.c 4 (dc bA) rfl))
  obtain⟨h13,h⟩|⟨h13,h⟩:=aM h
  ·cases h;exact(ig.b h13).ret hΓ
  ·exact((ig.b h13).a [.cn [1,7,8,9] []]).ct hΓ cL (iS bA hm1) (ih1 (i1+1) (dn bA) h)
theorem Bg{aC:au}{aa:Bytes}{r:Int}(h:qK aC aa=some r):Good prog 98 [D.sl (aC.map aJ.c),D.str aa] (D.int .i64 r):=by
 refine gd func98 [[none]] 20 fun hr Γ hΓ=>?_
 rw[qK]at h;refine(aU.a [.cn [1,7,8,9] []]).lp hΓ (DA hΓ (fun h=>?_) (by have:=(j0.sl (hr _ (aD (i:=0) rfl))).1;simpa using this) aC 0 rfl h);cases h;exact aU.ret hΓ
def j7(aC:au)(k1:Option Bool):au->Nat->Option Bool
 | [],i1=>(k1)
 |bh::cV,i1=>((sQ bh).bind fun Dw=>(bif !(Dw)then(some false)else((qK aC bh.name).bind fun LJ=>(bif (LJ:Int) != (i1:Int)then(some false)else(j7 aC k1 cV (i1+1))))))
def qJ(aC:au):Option Bool:=(bif decide ((((aC.map aJ.c).length:Int):Int)>6)then(some false)else(j7 aC (some true) aC 0))
def EG(aC:au)(dQ:Int):St:=⟨[(0,D.sl (aC.map aJ.c)),(8,D.sl (aC.map aJ.c)),(9,D.int .i64 ((aC.map aJ.c).length:Int)),(10,D.int .i64 dQ)],[]⟩
theorem D9(hΓ:Γ.nt=27){aC:au}{r:Bool}{k1:Option Bool}(eR:k1=some r->Ax Γ N f48 (.q [[none]] (D.bool r)) [1,1,1] ⟨[],[]⟩)(hm1:aC.length<=maxLen):∀(rest:au) (i1:Nat),aC.drop i1=rest->j7 aC k1 rest i1=some r->Ar Γ N f48 (.q [[none]] (D.bool r)) [1,1,0,1,0] (rest.length+1) (EG aC (i1:Int)):=by
 intro rest
 induction rest with
 |nil=>
  intro i1 bA h;rw[j7]at h;refine aR fun N1 cW cL=>?_
  exact((aU.ge aJ.c bA).a [.hl 0 [] []]).ex hΓ cW (eR h)
 |cons bh cV ih1=>
  intro i1 bA h;rw[j7]at h;refine aR fun N1 cW cL=>?_
  obtain⟨Dw,h35,h⟩:=aB h;have lC:=(((aU.lt aJ.c bA).l (bI aJ.c 4 (dc bA) rfl)).g (EJ h35))
  obtain⟨h36,h⟩|⟨h36,h⟩:=aM h
  ·have h:=aK h;subst h;exact((lC.r 7 h36).T 1).ret hΓ
  ·obtain⟨LJ,h38,h⟩:=aB h;have kw:=(((lC.r 4 h36).g (Bg h38)).r 3 h36)
   obtain⟨h39,h⟩|⟨h39,h⟩:=aM h
   ·have h:=aK h;subst h;exact(kw.b h39).ret hΓ
   ·exact((kw.b h39).a [.cn [0,8,9,10] []]).ct hΓ cL (iS bA hm1) (ih1 (i1+1) (dn bA) h)
theorem Be{aC:au}{r:Bool}(h:qJ aC=some r):Good prog 48 [D.sl (aC.map aJ.c)] (D.bool r):=by
 refine gd func48 [[none]] 27 fun hr Γ hΓ=>?_
 rw[qJ]at h;obtain⟨h1,h⟩|⟨h1,h⟩:=aM h
 ·have h:=aK h;subst h;exact(aU.b h1).ret hΓ
 ·refine((aU.b h1).a [.cn [0,8,9,10] []]).lp hΓ (D9 hΓ (fun h=>?_) (by have:=(j0.sl (hr _ (aD (i:=0) rfl))).1;simpa using this) aC 0 rfl h);have h:=aK h;subst h;exact aU.ret hΓ
def fq(aC:aG):Option aG:=((lK aC.args).bind fun y1=>(some (⟨aC.rel,y1⟩:aG)))
theorem tT{aC:aG}{r:aG}(h:fq aC=some r):Good prog 104 [D.agg (aG.c aC)] (D.agg [D.str r.rel,D.fr 9 1 (r.args.map tx)]):=by
 refine gd func104 [[none,some (9,1)]] 9 fun hr Γ hΓ=>?_
 rw[fq]at h;obtain⟨y1,h2,h⟩:=aB h;cases h;exact((aU.a [.n 5]).g (qv h2)).ret hΓ
def gy(aC:aH):Option aH:=((fq aC.pat).bind fun y1=>(some (⟨aC.kind,y1,aC.left,aC.right⟩:aH)))
theorem mB{aC:aH}{r:aH}(h:gy aC=some r):Good prog 59 [D.agg (aH.c aC)] (D.agg [D.int .i64 r.kind,D.str r.pat.rel,D.fr 9 1 (r.pat.args.map tx),D.str r.left,D.str r.right]):=by
 refine gd func59 [[none,none,some (9,1),none,none]] 8 fun hr Γ hΓ=>?_
 rw[gy]at h;obtain⟨y1,h2,h⟩:=aB h;cases h;exact(aU.g (tT h2)).ret hΓ
def kR(aC:af)(k1:af->Option af):af->Nat->af->Option af
 | [],i1,bO=>(k1 bO)
 |bh::cV,i1,bO=>((gy bh).bind fun nR=>(bif room ((bO.map aH.c).length+([[D.int .i64 nR.kind,D.str nR.pat.rel,D.sl (nR.pat.args.map tx),D.str nR.left,D.str nR.right]]).length) 80 then(kR aC k1 cV (i1+1) (bO++([nR])))else none))
def p8(aC:af):Option af:=(kR aC (fun(cA:af)=>(some cA)) aC 0 ([]:af))
def wC(aC:af)(W0:List aL)(dQ:Int):St:=⟨[(3,D.acc 0),(6,D.sl (aC.map aH.c)),(7,D.int .i64 ((aC.map aH.c).length:Int)),(8,D.int .i64 dQ)],[Ob.row .uq 47 5 W0]⟩
theorem Bo(hΓ:Γ.nt=19){aC:af}{r:af}{k1:af->Option af}(eR:∀(cA:af),k1 cA=some r->Ax Γ N f228 (.q [[some (47,5)]] (D.fr 47 5 (r.map aH.c))) [1,1,1] ⟨[(3,D.acc 0)],[Ob.row .uq 47 5 (cA.map aH.c)]⟩)(hm1:aC.length<=maxLen):∀(rest:af) (i1:Nat) (bO:af),aC.drop i1=rest->kR aC k1 rest i1 bO=some r->Ar Γ N f228 (.q [[some (47,5)]] (D.fr 47 5 (r.map aH.c))) [1,1,0,1,0] (rest.length+1) (wC aC (bO.map aH.c) (i1:Int)):=by
 intro rest
 induction rest with
 |nil=>
  intro i1 bO bA h;rw[kR]at h;refine aR fun N1 cW cL=>?_
  exact((aU.ge aH.c bA).a [.hl 0 [3] [0]]).ex hΓ cW (eR bO h)
 |cons bh cV ih1=>
  intro i1 bO bA h;rw[kR]at h;refine aR fun N1 cW cL=>?_
  obtain⟨nR,h28,h⟩:=aB h;obtain⟨h29,h⟩:=bQ h;exact(((((aU.lt aH.c bA).l (bI aH.c 5 (dc bA) rfl)).g (mB h28)).w (br h29)).a [.cn [3,6,7,8] [4]]).cs hΓ cL (wC aC ((bO.map aH.c)++([[D.int .i64 nR.kind,D.str nR.pat.rel,D.sl (nR.pat.args.map tx),D.str nR.left,D.str nR.right]])) (IntKind.i64.wrap ((i1:Int)+1))) (by first| (simp only[iS bA hm1,mA]<;>rfl)| (simp only[iS bA hm1,mA,aG.c,aQ.c,aH.c,Action.c,aJ.c,aX.c,dU.c,ai.c,Node.c,aN.c,dW.c]<;>rfl)) (ih1 (i1+1) (bO++([nR])) (dn bA) h)
theorem B6{aC:af}{r:af}(h:p8 aC=some r):Good prog 228 [D.sl (aC.map aH.c)] (D.fr 47 5 (r.map aH.c)):=by
 refine gd func228 [[some (47,5)]] 19 fun hr Γ hΓ=>?_
 rw[p8]at h;refine(aU.a [.Jk 3,.cn [3,6,7,8] [0]]).lp hΓ (Bo hΓ (fun cA h=>?_) (by have:=(j0.sl (hr _ (aD (i:=0) rfl))).1;simpa using this) aC 0 ([]:af) rfl h);have h:=aK h;subst h;exact aU.ret hΓ
def jD(aC:aJ)(y1:af)(k1:dN->Option aJ):dN->Nat->dN->Option aJ
 | [],i1,cX=>(k1 cX)
 |bh::cV,i1,cX=>((fq bh.pat).bind fun y41=>(bif room ((cX.map Action.c).length+([[D.int .i64 bh.kind,D.str y41.rel,D.sl (y41.args.map tx)]]).length) 48 then(jD aC y1 k1 cV (i1+1) (cX++([(⟨bh.kind,y41⟩:Action)])))else none))
def nr(aC:aJ):Option aJ:=((p8 aC.conds).bind fun y1=>(jD aC y1 (fun(eS:dN)=>(some (⟨aC.name,aC.prio,y1,eS⟩:aJ))) aC.cO 0 ([]:dN)))
def xM(aC:aJ)(y1:af)(W0:List aL)(dQ:Int):St:=⟨[(2,D.ptr 0 0),(3,D.ptr 1 0),(15,D.sl (aC.cO.map Action.c)),(16,D.int .i64 ((aC.cO.map Action.c).length:Int)),(17,D.int .i64 dQ)],[Ob.box [D.str ([]),D.int .i64 0,D.nil,D.nil],Ob.box [D.str aC.name,D.int .i64 aC.prio,D.acc 2,D.acc 3],Ob.row .uq 47 5 (y1.map aH.c),Ob.row .uq 167 3 W0]⟩
theorem DI(hΓ:Γ.nt=34){aC:aJ}{y1:af}{r:aJ}{k1:dN->Option aJ}(eR:∀(eS:dN),k1 eS=some r->Ax Γ N f170 (.q [[none,none,some (47,5),some (167,3)]] (D.agg [D.str r.name,D.int .i64 r.prio,D.fr 47 5 (r.conds.map aH.c),D.fr 167 3 (r.cO.map Action.c)])) [1,1,1] ⟨[(2,D.ptr 0 0),(3,D.ptr 1 0)],[Ob.box [D.str ([]),D.int .i64 0,D.nil,D.nil],Ob.box [D.str aC.name,D.int .i64 aC.prio,D.acc 2,D.acc 3],Ob.row .uq 47 5 (y1.map aH.c),Ob.row .uq 167 3 (eS.map Action.c)]⟩)(hm1:aC.cO.length<=maxLen):∀(rest:dN) (i1:Nat) (cX:dN),aC.cO.drop i1=rest->jD aC y1 k1 rest i1 cX=some r->Ar Γ N f170 (.q [[none,none,some (47,5),some (167,3)]] (D.agg [D.str r.name,D.int .i64 r.prio,D.fr 47 5 (r.conds.map aH.c),D.fr 167 3 (r.cO.map Action.c)])) [1,1,0,1,0] (rest.length+1) (xM aC y1 (cX.map Action.c) (i1:Int)):=by
 intro rest
 induction rest with
 |nil=>
  intro i1 cX bA h;rw[jD]at h;refine aR fun N1 cW cL=>?_
  exact((aU.ge Action.c bA).a [.hl 0 [2,3] [0,1,2,3]]).ex hΓ cW (eR cX h)
 |cons bh cV ih1=>
  intro i1 cX bA h;rw[jD]at h;refine aR fun N1 cW cL=>?_
  obtain⟨y41,h42,h⟩:=aB h;obtain⟨h43,h⟩:=bQ h;exact((((((aU.lt Action.c bA).l (bI Action.c 3 (dc bA) rfl)).a [.n2 [0,1,2,3,4,5,6,7,8,9,10,11] [0,1,2,3,4,5,6,7,8,9,10,11] 8 9 [0,1] [5]]).g (tT h42)).w (br h43)).a [.cn [2,3,15,16,17] [0,1,2,7]]).cs hΓ cL (xM aC y1 ((cX.map Action.c)++([[D.int .i64 bh.kind,D.str y41.rel,D.sl (y41.args.map tx)]])) (IntKind.i64.wrap ((i1:Int)+1))) (by first| (simp only[iS bA hm1,mA]<;>rfl)| (simp only[iS bA hm1,mA,aG.c,aQ.c,aH.c,Action.c,aJ.c,aX.c,dU.c,ai.c,Node.c,aN.c,dW.c]<;>rfl)) (ih1 (i1+1) (cX++([(⟨bh.kind,y41⟩:Action)])) (dn bA) h)
theorem Bq{aC:aJ}{r:aJ}(h:nr aC=some r):Good prog 170 [D.agg (aJ.c aC)] (D.agg [D.str r.name,D.int .i64 r.prio,D.fr 47 5 (r.conds.map aH.c),D.fr 167 3 (r.cO.map Action.c)]):=by
 refine gd func170 [[none,none,some (47,5),some (167,3)]] 34 fun hr Γ hΓ=>?_
 rw[nr]at h;obtain⟨y1,h2,h⟩:=aB h;refine(((aU.a [.n 9]).g (B6 h2)).a [.pb 3 3 167 3,.cn [2,3,15,16,17] [1,3,2,4]]).lp hΓ (DI hΓ (fun eS h=>?_) (by have:=(j0.sl (j0.agg (hr _ (aD (i:=0) rfl)) (.sl (aC.cO.map Action.c)) (by simp))).1;simpa using this) aC.cO 0 ([]:dN) rfl h);cases h;exact aU.ret hΓ
def kU(aC:au)(k1:au->Option au):au->Nat->au->Option au
 | [],i1,bO=>(k1 bO)
 |bh::cV,i1,bO=>((nr bh).bind fun nR=>(bif room ((bO.map aJ.c).length+([[D.str nR.name,D.int .i64 nR.prio,D.sl (nR.conds.map aH.c),D.sl (nR.cO.map Action.c)]]).length) 72 then(kU aC k1 cV (i1+1) (bO++([nR])))else none))
def p9(aC:au):Option au:=(kU aC (fun(cA:au)=>(some cA)) aC 0 ([]:au))
def wE(aC:au)(W0:List aL)(dQ:Int):St:=⟨[(3,D.acc 0),(6,D.sl (aC.map aJ.c)),(7,D.int .i64 ((aC.map aJ.c).length:Int)),(8,D.int .i64 dQ)],[Ob.row .uq 80 4 W0]⟩
theorem Br(hΓ:Γ.nt=19){aC:au}{r:au}{k1:au->Option au}(eR:∀(cA:au),k1 cA=some r->Ax Γ N f101 (.q [[some (80,4)]] (D.fr 80 4 (r.map aJ.c))) [1,1,1] ⟨[(3,D.acc 0)],[Ob.row .uq 80 4 (cA.map aJ.c)]⟩)(hm1:aC.length<=maxLen):∀(rest:au) (i1:Nat) (bO:au),aC.drop i1=rest->kU aC k1 rest i1 bO=some r->Ar Γ N f101 (.q [[some (80,4)]] (D.fr 80 4 (r.map aJ.c))) [1,1,0,1,0] (rest.length+1) (wE aC (bO.map aJ.c) (i1:Int)):=by
 intro rest
 induction rest with
 |nil=>
  intro i1 bO bA h;rw[kU]at h;refine aR fun N1 cW cL=>?_
  exact((aU.ge aJ.c bA).a [.hl 0 [3] [0]]).ex hΓ cW (eR bO h)
 |cons bh cV ih1=>
  intro i1 bO bA h;rw[kU]at h;refine aR fun N1 cW cL=>?_
  obtain⟨nR,h28,h⟩:=aB h;obtain⟨h29,h⟩:=bQ h;exact(((((aU.lt aJ.c bA).l (bI aJ.c 4 (dc bA) rfl)).g (Bq h28)).w (br h29)).a [.cn [3,6,7,8] [5]]).cs hΓ cL (wE aC ((bO.map aJ.c)++([[D.str nR.name,D.int .i64 nR.prio,D.sl (nR.conds.map aH.c),D.sl (nR.cO.map Action.c)]])) (IntKind.i64.wrap ((i1:Int)+1))) (by first| (simp only[iS bA hm1,mA]<;>rfl)| (simp only[iS bA hm1,mA,aG.c,aQ.c,aH.c,Action.c,aJ.c,aX.c,dU.c,ai.c,Node.c,aN.c,dW.c]<;>rfl)) (ih1 (i1+1) (bO++([nR])) (dn bA) h)
theorem B7{aC:au}{r:au}(h:p9 aC=some r):Good prog 101 [D.sl (aC.map aJ.c)] (D.fr 80 4 (r.map aJ.c)):=by
 refine gd func101 [[some (80,4)]] 19 fun hr Γ hΓ=>?_
 rw[p9]at h;refine(aU.a [.Jk 3,.cn [3,6,7,8] [0]]).lp hΓ (Br hΓ (fun cA h=>?_) (by have:=(j0.sl (hr _ (aD (i:=0) rfl))).1;simpa using this) aC 0 ([]:au) rfl h);have h:=aK h;subst h;exact aU.ret hΓ
def fO(aC:Int):Option Bytes:=((xZ aC).bind fun y1=>(some y1))
theorem l8{aC:Int}{r:Bytes}(h:fO aC=some r):Good prog 61 [D.int .i64 aC] (D.str r):=by
 refine gd func61 [[none]] 5 fun hr Γ hΓ=>?_
 rw[fO]at h;obtain⟨y1,h2,h⟩:=aB h;have h:=aK h;subst h;exact(aU.g (Dq h2)).ret hΓ
def er(aC:aF)(k1:aP->Option aP):aF->Nat->aP->List (Bytes×Bool)->Option aP
 | [],i1,bO,yj=>(k1 bO)
 |bh::cV,i1,bO,yj=>((jy bh).bind fun Ye=>(bif Ye then(bif !(GQ false bh yj)then((fO (IntKind.i64.wrap (((bO.map aQ.c).length:Int)+1))).bind fun y56=>(bif decide (([63]:Bytes).length+(y56:Bytes).length<=maxLen)then(bif room ((bO.map aQ.c).length+([[D.str bh,D.str (([63])++y56)]]).length) 32 then(er aC k1 cV (i1+1) (bO++([(⟨bh,([63])++y56⟩:aQ)])) (JV bh true yj))else none)else none))else(er aC k1 cV (i1+1) bO yj))else(er aC k1 cV (i1+1) bO yj)))
def mN(aC:aF):Option aP:=(er aC (fun(cA:aP)=>(some cA)) aC 0 ([]:aP) ([]:List (Bytes×Bool)))
def vJ(aC:aF)(W0:List aL)(W1:List (D×D))(dQ:Int):St:=⟨[(3,D.acc 0),(4,D.acc 1),(8,D.sl (aC.map tx)),(9,D.int .i64 ((aC.map tx).length:Int)),(10,D.int .i64 dQ)],[Ob.row .uq 137 2 W0,Ob.mp W1]⟩
theorem B8(hΓ:Γ.nt=36){aC:aF}{r:aP}{k1:aP->Option aP}(eR:∀(cA:aP),k1 cA=some r->Ax Γ N f186 (.q [[some (137,2)]] (D.fr 137 2 (r.map aQ.c))) [1,1,1,1] ⟨[(3,D.acc 0)],[Ob.row .uq 137 2 (cA.map aQ.c)]⟩)(hm1:aC.length<=maxLen):∀(rest:aF) (i1:Nat) (bO:aP) (yj:List (Bytes×Bool)),aC.drop i1=rest->er aC k1 rest i1 bO yj=some r->Ar Γ N f186 (.q [[some (137,2)]] (D.fr 137 2 (r.map aQ.c))) [1,1,1,0,1,0] (rest.length+1) (vJ aC (bO.map aQ.c) (yj.map (kS eB)) (i1:Int)):=by
 intro rest
 induction rest with
 |nil=>
  intro i1 bO yj bA h;rw[er]at h;refine aR fun N1 cW cL=>?_
  exact((aU.ge tx bA).a [.hl 0 [3] [0]]).ex hΓ cW (eR bO h)
 |cons bh cV ih1=>
  intro i1 bO yj bA h;rw[er]at h;refine aR fun N1 cW cL=>?_
  obtain⟨Ye,h53,h⟩:=aB h;have lC:=(((aU.lt tx bA).l (bI tx 1 (dc bA) rfl)).g (mK h53))
  obtain⟨h54,h⟩|⟨h54,h⟩:=aM h
  ·have kw:=((((lC.r 3 h54).w (show plk prog 201 (yj.map (kS eB)) (D.str bh) false=some (D.bool (GQ false bh yj))from a2H (e:=eB) (z:=false) (by kernel_rfl))).a [.d (D.bool (GQ false bh yj))]).r 2 h54)
   obtain⟨h55,h⟩|⟨h55,h⟩:=aM h
   ·obtain⟨y56,h57,h⟩:=aB h;obtain⟨h58,h⟩:=bQ h;obtain⟨h59,h⟩:=bQ h;exact(((((((kw.b h55).w (show GO (D.str bh) (D.bool true) (yj.map (kS eB))=some ((JV bh true yj).map (kS eB))from UE (e:=eB) (m:=yj))).a [.kv ((JV bh true yj).map (kS eB))]).g (l8 h57)).w (ay h58)).w (br h59)).a [.cn [3,4,8,9,10] [3,1]]).cs hΓ cL (vJ aC ((bO.map aQ.c)++([[D.str bh,D.str (([63])++y56)]])) ((JV bh true yj).map (kS eB)) (IntKind.i64.wrap ((i1:Int)+1))) (by first| (simp only[iS bA hm1,mA]<;>rfl)| (simp only[iS bA hm1,mA,aG.c,aQ.c,aH.c,Action.c,aJ.c,aX.c,dU.c,ai.c,Node.c,aN.c,dW.c]<;>rfl)) (ih1 (i1+1) (bO++([(⟨bh,([63])++y56⟩:aQ)])) (JV bh true yj) (dn bA) h)
   ·exact((kw.b h55).a [.cn [3,4,8,9,10] [0,1]]).ct hΓ cL (iS bA hm1) (ih1 (i1+1) bO yj (dn bA) h)
  ·exact(((lC.r 5 h54).F 1).a [.cn [3,4,8,9,10] [0,1]]).ct hΓ cL (iS bA hm1) (ih1 (i1+1) bO yj (dn bA) h)
theorem uC{aC:aF}{r:aP}(h:mN aC=some r):Good prog 186 [D.sl (aC.map tx)] (D.fr 137 2 (r.map aQ.c)):=by
 refine gd func186 [[some (137,2)]] 36 fun hr Γ hΓ=>?_
 rw[mN]at h;refine(aU.a [.Jk 3,.cn [3,4,8,9,10] [0,1]]).lp hΓ (B8 hΓ (fun cA h=>?_) (by have:=(j0.sl (hr _ (aD (i:=0) rfl))).1;simpa using this) aC 0 ([]:aP) ([]:List (Bytes×Bool)) rfl h);have h:=aK h;subst h;exact aU.ret hΓ
def ff(aC:aJ)(k1:aF->Option aP):af->Nat->aF->Option aP
 | [],i1,bO=>(k1 bO)
 |bh::cV,i1,bO=>((pH bh).bind fun nR=>(bif room ((bO.map tx).length+(nR.map tx).length) 16 then(ff aC k1 cV (i1+1) (bO++nR))else none))
def oD(aC:aJ):Option aP:=(ff aC (fun(cA:aF)=>((mN cA).bind fun vz=>(some vz))) aC.conds 0 ([]:aF))
def vF(aC:aJ)(W0:List aL)(dQ:Int):St:=⟨[(3,D.acc 0),(7,D.sl (aC.conds.map aH.c)),(8,D.int .i64 ((aC.conds.map aH.c).length:Int)),(9,D.int .i64 dQ)],[Ob.row .uq 9 1 W0]⟩
theorem B3(hΓ:Γ.nt=20){aC:aJ}{r:aP}{k1:aF->Option aP}(eR:∀(cA:aF),k1 cA=some r->Ax Γ N f121 (.q [[some (137,2)]] (D.fr 137 2 (r.map aQ.c))) [1,1,1] ⟨[(3,D.acc 0)],[Ob.row .uq 9 1 (cA.map tx)]⟩)(hm1:aC.conds.length<=maxLen):∀(rest:af) (i1:Nat) (bO:aF),aC.conds.drop i1=rest->ff aC k1 rest i1 bO=some r->Ar Γ N f121 (.q [[some (137,2)]] (D.fr 137 2 (r.map aQ.c))) [1,1,0,1,0] (rest.length+1) (vF aC (bO.map tx) (i1:Int)):=by
 intro rest
 induction rest with
 |nil=>
  intro i1 bO bA h;rw[ff]at h;refine aR fun N1 cW cL=>?_
  exact((aU.ge aH.c bA).a [.hl 0 [3] [0]]).ex hΓ cW (eR bO h)
 |cons bh cV ih1=>
  intro i1 bO bA h;rw[ff]at h;refine aR fun N1 cW cL=>?_
  obtain⟨nR,h28,h⟩:=aB h;obtain⟨h29,h⟩:=bQ h;exact(((((aU.lt aH.c bA).l (bI aH.c 5 (dc bA) rfl)).g (wF h28)).w (br h29)).a [.cn [3,7,8,9] [3]]).cs hΓ cL (vF aC ((bO.map tx)++(nR.map tx)) (IntKind.i64.wrap ((i1:Int)+1))) (by first| (simp only[iS bA hm1,mA]<;>rfl)| (simp only[iS bA hm1,mA,aG.c,aQ.c,aH.c,Action.c,aJ.c,aX.c,dU.c,ai.c,Node.c,aN.c,dW.c]<;>rfl)) (ih1 (i1+1) (bO++nR) (dn bA) h)
theorem A9{aC:aJ}{r:aP}(h:oD aC=some r):Good prog 121 [D.agg (aJ.c aC)] (D.fr 137 2 (r.map aQ.c)):=by
 refine gd func121 [[some (137,2)]] 20 fun hr Γ hΓ=>?_
 rw[oD]at h;refine(aU.a [.Jk 3,.cn [3,7,8,9] [1]]).lp hΓ (B3 hΓ (fun cA h=>?_) (by have:=(j0.sl (j0.agg (hr _ (aD (i:=0) rfl)) (.sl (aC.conds.map aH.c)) (by simp))).1;simpa using this) aC.conds 0 ([]:aF) rfl h);obtain⟨vz,h31,h⟩:=aB h;have h:=aK h;subst h;exact(aU.g (uC h31)).ret hΓ
def gN(aC:Bytes)(aa:aP)(k1:Option Bytes):aP->Nat->Option Bytes
 | [],i1=>(k1)
 |bh::cV,i1=>(bif (bh.var:Bytes)==aC then(some bh.value)else(gN aC aa k1 cV (i1+1)))
def gZ(aC:Bytes)(aa:aP):Option Bytes:=(gN aC aa (some aC) aa 0)
def B9(aC:Bytes)(aa:aP)(dQ:Int):St:=⟨[(0,D.str aC),(7,D.sl (aa.map aQ.c)),(8,D.int .i64 ((aa.map aQ.c).length:Int)),(9,D.int .i64 dQ)],[]⟩
theorem AF(hΓ:Γ.nt=21){aC:Bytes}{aa:aP}{r:Bytes}{k1:Option Bytes}(eR:k1=some r->Ax Γ N f243 (.q [[none]] (D.str r)) [1,1] ⟨[(0,D.str aC)],[]⟩)(hm1:aa.length<=maxLen):∀(rest:aP) (i1:Nat),aa.drop i1=rest->gN aC aa k1 rest i1=some r->Ar Γ N f243 (.q [[none]] (D.str r)) [1,0,1,0] (rest.length+1) (B9 aC aa (i1:Int)):=by
 intro rest
 induction rest with
 |nil=>
  intro i1 bA h;rw[gN]at h;refine aR fun N1 cW cL=>?_
  exact((aU.ge aQ.c bA).a [.hl 0 [0] []]).ex hΓ cW (eR h)
 |cons bh cV ih1=>
  intro i1 bA h;rw[gN]at h;refine aR fun N1 cW cL=>?_
  have ig:=((aU.lt aQ.c bA).l (bI aQ.c 2 (dc bA) rfl))
  obtain⟨h13,h⟩|⟨h13,h⟩:=aM h
  ·cases h;exact(ig.b h13).ret hΓ
  ·exact((ig.b h13).a [.cn [0,7,8,9] []]).ct hΓ cL (iS bA hm1) (ih1 (i1+1) (dn bA) h)
theorem pE{aC:Bytes}{aa:aP}{r:Bytes}(h:gZ aC aa=some r):Good prog 243 [D.str aC,D.sl (aa.map aQ.c)] (D.str r):=by
 refine gd func243 [[none]] 21 fun hr Γ hΓ=>?_
 rw[gZ]at h;refine(aU.a [.cn [0,7,8,9] []]).lp hΓ (AF hΓ (fun h=>?_) (by have:=(j0.sl (hr _ (aD (i:=1) rfl))).1;simpa using this) aa 0 rfl h);have h:=aK h;subst h;exact aU.ret hΓ
def jX(aC:aH)(aa:aP)(y1:Bytes)(y3:Bytes)(k1:aF->Option aH):aF->Nat->aF->Option aH
 | [],i1,kL=>(k1 kL)
 |bh::cV,i1,kL=>((gZ bh aa).bind fun FF=>(bif room ((kL.map tx).length+([[D.str FF]]).length) 16 then(jX aC aa y1 y3 k1 cV (i1+1) (kL++([FF])))else none))
def jz(aC:aH)(aa:aP):Option aH:=((gZ aC.left aa).bind fun y1=>((gZ aC.right aa).bind fun y3=>(jX aC aa y1 y3 (fun(n7:aF)=>(some (⟨aC.kind,(⟨aC.pat.rel,n7⟩:aG),y1,y3⟩:aH))) aC.pat.args 0 ([]:aF))))
def vG(aC:aH)(aa:aP)(y1:Bytes)(y3:Bytes)(W0:List aL)(dQ:Int):St:=⟨[(1,D.sl (aa.map aQ.c)),(4,D.ptr 0 0),(5,D.ptr 1 0),(26,D.sl (aC.pat.args.map tx)),(27,D.int .i64 ((aC.pat.args.map tx).length:Int)),(28,D.int .i64 dQ)],[Ob.box [D.int .i64 0,D.str ([]),D.nil,D.str ([]),D.str ([])],Ob.box [D.int .i64 aC.kind,D.str aC.pat.rel,D.acc 2,D.str y1,D.str y3],Ob.row .uq 9 1 W0]⟩
theorem B4(hΓ:Γ.nt=44){aC:aH}{aa:aP}{y1:Bytes}{y3:Bytes}{r:aH}{k1:aF->Option aH}(eR:∀(n7:aF),k1 n7=some r->Ax Γ N f224 (.q [[none,none,some (9,1),none,none]] (D.agg [D.int .i64 r.kind,D.str r.pat.rel,D.fr 9 1 (r.pat.args.map tx),D.str r.left,D.str r.right])) [1,1,1,1] ⟨[(4,D.ptr 0 0),(5,D.ptr 1 0)],[Ob.box [D.int .i64 0,D.str ([]),D.nil,D.str ([]),D.str ([])],Ob.box [D.int .i64 aC.kind,D.str aC.pat.rel,D.acc 2,D.str y1,D.str y3],Ob.row .uq 9 1 (n7.map tx)]⟩)(hm1:aC.pat.args.length<=maxLen):∀(rest:aF) (i1:Nat) (kL:aF),aC.pat.args.drop i1=rest->jX aC aa y1 y3 k1 rest i1 kL=some r->Ar Γ N f224 (.q [[none,none,some (9,1),none,none]] (D.agg [D.int .i64 r.kind,D.str r.pat.rel,D.fr 9 1 (r.pat.args.map tx),D.str r.left,D.str r.right])) [1,1,1,0,1,0] (rest.length+1) (vG aC aa y1 y3 (kL.map tx) (i1:Int)):=by
 intro rest
 induction rest with
 |nil=>
  intro i1 kL bA h;rw[jX]at h;refine aR fun N1 cW cL=>?_
  exact((aU.ge tx bA).a [.hl 0 [4,5] [0,1,2]]).ex hΓ cW (eR kL h)
 |cons bh cV ih1=>
  intro i1 kL bA h;rw[jX]at h;refine aR fun N1 cW cL=>?_
  obtain⟨FF,h32,h⟩:=aB h;obtain⟨h33,h⟩:=bQ h;exact((((((aU.lt tx bA).l (bI tx 1 (dc bA) rfl)).a [.n 7]).g (pE h32)).w (br h33)).a [.cn [1,4,5,26,27,28] [0,1,4]]).cs hΓ cL (vG aC aa y1 y3 ((kL.map tx)++([[D.str FF]])) (IntKind.i64.wrap ((i1:Int)+1))) (by first| (simp only[iS bA hm1,mA]<;>rfl)| (simp only[iS bA hm1,mA,aG.c,aQ.c,aH.c,Action.c,aJ.c,aX.c,dU.c,ai.c,Node.c,aN.c,dW.c]<;>rfl)) (ih1 (i1+1) (kL++([FF])) (dn bA) h)
theorem mq{aC:aH}{aa:aP}{r:aH}(h:jz aC aa=some r):Good prog 224 [D.agg (aH.c aC),D.sl (aa.map aQ.c)] (D.agg [D.int .i64 r.kind,D.str r.pat.rel,D.fr 9 1 (r.pat.args.map tx),D.str r.left,D.str r.right]):=by
 refine gd func224 [[none,none,some (9,1),none,none]] 44 fun hr Γ hΓ=>?_
 rw[jz]at h;obtain⟨y1,h2,h⟩:=aB h;obtain⟨y3,h4,h⟩:=aB h;refine((((aU.a [.n 12]).g (pE h2)).g (pE h4)).a [.pb 2 2 9 1,.cn [1,4,5,26,27,28] [1,2,3]]).lp hΓ (B4 hΓ (fun n7 h=>?_) (by have:=(j0.sl (j0.agg (hr _ (aD (i:=0) rfl)) (.sl (aC.pat.args.map tx)) (by simp))).1;simpa using this) aC.pat.args 0 ([]:aF) rfl h);cases h;exact aU.ret hΓ
def jW(aC:aJ)(y1:aP)(k1:af->Option af):af->Nat->af->Option af
 | [],i1,bZ=>(k1 bZ)
 |bh::cV,i1,bZ=>((jz bh y1).bind fun Cn=>(bif room ((bZ.map aH.c).length+([[D.int .i64 Cn.kind,D.str Cn.pat.rel,D.sl (Cn.pat.args.map tx),D.str Cn.left,D.str Cn.right]]).length) 80 then(jW aC y1 k1 cV (i1+1) (bZ++([Cn])))else none))
def oC(aC:aJ):Option af:=((oD aC).bind fun y1=>(jW aC y1 (fun(cA:af)=>(some cA)) aC.conds 0 ([]:af)))
def vE(aC:aJ)(y1:aP)(W0:List aL)(dQ:Int):St:=⟨[(3,D.acc 0),(4,D.acc 1),(10,D.sl (aC.conds.map aH.c)),(11,D.int .i64 ((aC.conds.map aH.c).length:Int)),(12,D.int .i64 dQ)],[Ob.row .uq 137 2 (y1.map aQ.c),Ob.row .uq 47 5 W0]⟩
theorem B2(hΓ:Γ.nt=24){aC:aJ}{y1:aP}{r:af}{k1:af->Option af}(eR:∀(cA:af),k1 cA=some r->Ax Γ N f166 (.q [[some (47,5)]] (D.fr 47 5 (r.map aH.c))) [1,1,1,1] ⟨[(4,D.acc 0)],[Ob.row .uq 47 5 (cA.map aH.c)]⟩)(hm1:aC.conds.length<=maxLen):∀(rest:af) (i1:Nat) (bZ:af),aC.conds.drop i1=rest->jW aC y1 k1 rest i1 bZ=some r->Ar Γ N f166 (.q [[some (47,5)]] (D.fr 47 5 (r.map aH.c))) [1,1,1,0,1,0] (rest.length+1) (vE aC y1 (bZ.map aH.c) (i1:Int)):=by
 intro rest
 induction rest with
 |nil=>
  intro i1 bZ bA h;rw[jW]at h;refine aR fun N1 cW cL=>?_
  exact((aU.ge aH.c bA).a [.hl 0 [4] [1]]).ex hΓ cW (eR bZ h)
 |cons bh cV ih1=>
  intro i1 bZ bA h;rw[jW]at h;refine aR fun N1 cW cL=>?_
  obtain⟨Cn,h30,h⟩:=aB h;obtain⟨h31,h⟩:=bQ h;exact(((((aU.lt aH.c bA).l (bI aH.c 5 (dc bA) rfl)).g (mq h30)).w (br h31)).a [.cn [3,4,10,11,12] [0,5]]).cs hΓ cL (vE aC y1 ((bZ.map aH.c)++([[D.int .i64 Cn.kind,D.str Cn.pat.rel,D.sl (Cn.pat.args.map tx),D.str Cn.left,D.str Cn.right]])) (IntKind.i64.wrap ((i1:Int)+1))) (by first| (simp only[iS bA hm1,mA]<;>rfl)| (simp only[iS bA hm1,mA,aG.c,aQ.c,aH.c,Action.c,aJ.c,aX.c,dU.c,ai.c,Node.c,aN.c,dW.c]<;>rfl)) (ih1 (i1+1) (bZ++([Cn])) (dn bA) h)
theorem A8{aC:aJ}{r:af}(h:oC aC=some r):Good prog 166 [D.agg (aJ.c aC)] (D.fr 47 5 (r.map aH.c)):=by
 refine gd func166 [[some (47,5)]] 24 fun hr Γ hΓ=>?_
 rw[oC]at h;obtain⟨y1,h2,h⟩:=aB h;refine((aU.g (A9 h2)).a [.Jk 4,.cn [3,4,10,11,12] [1,2]]).lp hΓ (B2 hΓ (fun cA h=>?_) (by have:=(j0.sl (j0.agg (hr _ (aD (i:=0) rfl)) (.sl (aC.conds.map aH.c)) (by simp))).1;simpa using this) aC.conds 0 ([]:af) rfl h);have h:=aK h;subst h;exact aU.ret hΓ
def kW(aC:aF)(aa:aF)(k1:Option Bool):aF->Nat->Option Bool
 | [],i1=>(k1)
 |bh::cV,i1=>((iM aa (i1:Int)).bind fun x22=>(bif !((bh:Bytes)==x22)then(some false)else(kW aC aa k1 cV (i1+1))))
def nM(aC:aF)(aa:aF):Option Bool:=(bif (((aC.map tx).length:Int):Int) != ((aa.map tx).length:Int)then(some false)else(kW aC aa (some true) aC 0))
def DM(aC:aF)(aa:aF)(dQ:Int):St:=⟨[(0,D.sl (aC.map tx)),(1,D.sl (aa.map tx)),(12,D.int .i64 ((aC.map tx).length:Int)),(13,D.int .i64 dQ)],[]⟩
theorem Bw(hΓ:Γ.nt=26){aC:aF}{aa:aF}{r:Bool}{k1:Option Bool}(eR:k1=some r->Ax Γ N f108 (.q [[none]] (D.bool r)) [1,1,1] ⟨[],[]⟩)(hm1:aC.length<=maxLen):∀(rest:aF) (i1:Nat),aC.drop i1=rest->kW aC aa k1 rest i1=some r->Ar Γ N f108 (.q [[none]] (D.bool r)) [1,1,0,1,0] (rest.length+1) (DM aC aa (i1:Int)):=by
 intro rest
 induction rest with
 |nil=>
  intro i1 bA h;rw[kW]at h;refine aR fun N1 cW cL=>?_
  exact((aU.ge tx bA).a [.hl 0 [] []]).ex hΓ cW (eR h)
 |cons bh cV ih1=>
  intro i1 bA h;rw[kW]at h;refine aR fun N1 cW cL=>?_
  obtain⟨x22,h23,h⟩:=aB h;have ig:=((((aU.lt tx bA).a [.n 8]).l (bI tx 1 (dc bA) rfl)).l (iN tx 1 h23 rfl))
  obtain⟨h24,h⟩|⟨h24,h⟩:=aM h
  ·have h:=aK h;subst h;exact(ig.b h24).ret hΓ
  ·exact((ig.b h24).a [.cn [0,1,12,13] []]).ct hΓ cL (iS bA hm1) (ih1 (i1+1) (dn bA) h)
theorem ud{aC:aF}{aa:aF}{r:Bool}(h:nM aC aa=some r):Good prog 108 [D.sl (aC.map tx),D.sl (aa.map tx)] (D.bool r):=by
 refine gd func108 [[none]] 26 fun hr Γ hΓ=>?_
 rw[nM]at h;obtain⟨h1,h⟩|⟨h1,h⟩:=aM h
 ·have h:=aK h;subst h;exact(aU.b h1).ret hΓ
 ·refine((aU.b h1).a [.cn [0,1,12,13] []]).lp hΓ (Bw hΓ (fun h=>?_) (by have:=(j0.sl (hr _ (aD (i:=0) rfl))).1;simpa using this) aC 0 rfl h);have h:=aK h;subst h;exact aU.ret hΓ
def fA(aC:aG)(aa:aG):Option Bool:=(bif (aC.rel:Bytes)==aa.rel then((nM aC.args aa.args).bind fun y2=>(some y2))else(some false))
theorem mL{aC:aG}{aa:aG}{r:Bool}(h:fA aC aa=some r):Good prog 54 [D.agg (aG.c aC),D.agg (aG.c aa)] (D.bool r):=by
 refine gd func54 [[none]] 17 fun hr Γ hΓ=>?_
 rw[fA]at h;obtain⟨h1,h⟩|⟨h1,h⟩:=aM h
 ·obtain⟨y2,h3,h⟩:=aB h;have h:=aK h;subst h;exact(((aU.r 5 h1).g (ud h3)).b h1).ret hΓ
 ·have h:=aK h;subst h;exact(aU.r 6 h1).ret hΓ
def j4(aC:aH)(aa:aH):Option Bool:=(bif (aC.kind:Int)==aa.kind then(bif (aC.left:Bytes)==aa.left then(bif (aC.right:Bytes)==aa.right then((fA aC.pat aa.pat).bind fun y4=>(some y4))else(some false))else(some false))else(some false))
theorem rM{aC:aH}{aa:aH}{r:Bool}(h:j4 aC aa=some r):Good prog 55 [D.agg (aH.c aC),D.agg (aH.c aa)] (D.bool r):=by
 refine gd func55 [[none]] 31 fun hr Γ hΓ=>?_
 rw[j4]at h;obtain⟨h1,h⟩|⟨h1,h⟩:=aM h
 ·have oa:=(aU.r 6 h1)
  obtain⟨h2,h⟩|⟨h2,h⟩:=aM h
  ·have ig:=(oa.r 6 h2)
   obtain⟨h3,h⟩|⟨h3,h⟩:=aM h
   ·obtain⟨y4,h5,h⟩:=aB h;have h:=aK h;subst h;exact(((ig.r 5 h3).g (mL h5)).b h3).ret hΓ
   ·have h:=aK h;subst h;exact(ig.r 6 h3).ret hΓ
  ·have h:=aK h;subst h;exact((oa.r 6 h2).F 6).ret hΓ
 ·have h:=aK h;subst h;exact((aU.r 6 h1).F 12).ret hΓ
def p0(aC:aG):Option aG:=((mN aC.args).bind fun y1=>((jz (⟨0,aC,[],[]⟩:aH) y1).bind fun y3=>(some y3.pat)))
theorem wB{aC:aG}{r:aG}(h:p0 aC=some r):Good prog 226 [D.agg (aG.c aC)] (D.agg [D.str r.rel,D.fr 9 1 (r.args.map tx)]):=by
 refine gd func226 [[none,some (9,1)]] 10 fun hr Γ hΓ=>?_
 rw[p0]at h;obtain⟨y1,h2,h⟩:=aB h;obtain⟨y3,h4,h⟩:=aB h;cases h;exact((((aU.a [.n 5]).g (uC h2)).a [.d (D.agg [D.int .i64 y3.kind,D.str y3.pat.rel,D.fr 9 1 (y3.pat.args.map tx),D.str y3.left,D.str y3.right])]).w (show Good prog 224 [D.agg [D.int .i64 0,D.str aC.rel,D.sl (aC.args.map tx),D.str ([]),D.str ([])],D.sl (y1.map aQ.c)] (D.agg [D.int .i64 y3.kind,D.str y3.pat.rel,D.fr 9 1 (y3.pat.args.map tx),D.str y3.left,D.str y3.right])from by first| (simpa only[b8,bC,bf,bX,bY]using mq h4)|exact mq h4| (have t:=mq h4;simp only[b8,bX,bY,aH.c]at t;exact t))).ret hΓ
def cC(x:aN):aL:=[D.fr 80 4 (x.rules.map aJ.c),D.fr 3 1 (x.ends.map mR),D.fr 93 3 (x.bM.map ai.c),D.fr 50 8 (x.nodes.map Node.c),D.fr 37 2 (x.facts.map aG.c),D.int .i64 x.cS]
def eL(aC:aN)(aa:aG)(k1:Option (aN×Int)):bS->Nat->Option (aN×Int)
 | [],i1=>(k1)
 |bh::cV,i1=>((fA bh.shape aa).bind fun pP=>(bif pP then(some (aC,(i1:Int)))else(eL aC aa k1 cV (i1+1))))
def gT(aC:aN)(aa:aG):Option (aN×Int):=(bif decide (aC.bM.length<=maxLen)then(eL aC aa (bif room ((aC.bM.map ai.c).length+([[D.str aa.rel,D.sl (aa.args.map tx),D.sl ([])]]).length) 64 then(some ((⟨aC.rules,aC.ends,aC.bM++([(⟨aa,[]⟩:ai)]),aC.nodes,aC.facts,aC.cS⟩:aN),IntKind.i64.wrap ((((aC.bM.map ai.c)++([[D.str aa.rel,D.sl (aa.args.map tx),D.sl ([])]])).length:Int)-1)))else none) aC.bM 0)else none)
def xF(jr:Value)(aC:aN)(aa:aG)(dQ:Int):St:=⟨[(0,D.ptr 0 0),(3,D.ptr 1 0),(10,D.acc 2),(11,D.int .i64 ((aC.bM.map ai.c).length:Int)),(12,D.int .i64 dQ)],[Ob.BQ [D.acc 3,D.acc 4,D.acc 2,D.acc 5,D.acc 6,D.int .i64 aC.cS] jr,Ob.box [D.str aa.rel,D.acc 7],Ob.row .uq 93 3 (aC.bM.map ai.c),Ob.row .uq 80 4 (aC.rules.map aJ.c),Ob.row .uq 3 1 (aC.ends.map mR),Ob.row .uq 50 8 (aC.nodes.map Node.c),Ob.row .uq 37 2 (aC.facts.map aG.c),Ob.row .uq 9 1 (aa.args.map tx)]⟩
theorem wN(hΓ:Γ.nt=40){jr:Value}{aC:aN}{aa:aG}{r:aN×Int}{k1:Option (aN×Int)}(eR:k1=some r->Ax Γ N f225 (.p [[some (80,4),some (3,1),some (93,3),some (50,8),some (37,2),none],[none]] jr (cC r.1) (D.int .i64 r.2)) [1,1] ⟨[(0,D.ptr 0 0),(3,D.ptr 1 0)],[Ob.BQ [D.acc 2,D.acc 3,D.acc 4,D.acc 5,D.acc 6,D.int .i64 aC.cS] jr,Ob.box [D.str aa.rel,D.acc 7],Ob.row .uq 80 4 (aC.rules.map aJ.c),Ob.row .uq 3 1 (aC.ends.map mR),Ob.row .uq 93 3 (aC.bM.map ai.c),Ob.row .uq 50 8 (aC.nodes.map Node.c),Ob.row .uq 37 2 (aC.facts.map aG.c),Ob.row .uq 9 1 (aa.args.map tx)]⟩)(hm1:aC.bM.length<=maxLen):∀(rest:bS) (i1:Nat),aC.bM.drop i1=rest->eL aC aa k1 rest i1=some r->Ar Γ N f225 (.p [[some (80,4),some (3,1),some (93,3),some (50,8),some (37,2),none],[none]] jr (cC r.1) (D.int .i64 r.2)) [1,0,1,0] (rest.length+1) (xF jr aC aa (i1:Int)):=by
 intro rest
 induction rest with
 |nil=>
  intro i1 bA h;rw[eL]at h;refine aR fun N1 cW cL=>?_
  exact((aU.ge ai.c bA).a [.hl 0 [0,3] [0,1,3,4,2,5,6,7]]).ex hΓ cW (eR h)
 |cons bh cV ih1=>
  intro i1 bA h;rw[eL]at h;refine aR fun N1 cW cL=>?_
  obtain⟨pP,h23,h⟩:=aB h;have ig:=((((aU.lt ai.c bA).i (mS ai.c 3 (dc bA))).o 3 3 .uq (cH ai.c (dc bA))).g (mL h23))
  obtain⟨h24,h⟩|⟨h24,h⟩:=aM h
  ·cases h;exact(ig.b h24).ret hΓ
  ·exact((ig.b h24).a [.cn [0,3,10,11,12] [0,1,2,3,4,5,6,7]]).ct hΓ cL (iS bA hm1) (ih1 (i1+1) (dn bA) h)
theorem qH{aC:aN}{aa:aG}{r:aN×Int}(h:gT aC aa=some r):jP prog 225 (cC aC) (cC r.1) [D.agg [D.str aa.rel,D.fr 9 1 (aa.args.map tx)]] (D.int .i64 r.2):=by
 refine J9 func225 [[some (80,4),some (3,1),some (93,3),some (50,8),some (37,2),none],[none]] 40 [D.acc 1,D.acc 2,D.acc 3,D.acc 4,D.acc 5,D.int .i64 aC.cS] [D.agg [D.str aa.rel,D.acc 6]] [Ob.row .uq 80 4 (aC.rules.map aJ.c),Ob.row .uq 3 1 (aC.ends.map mR),Ob.row .uq 93 3 (aC.bM.map ai.c),Ob.row .uq 50 8 (aC.nodes.map Node.c),Ob.row .uq 37 2 (aC.facts.map aG.c),Ob.row .uq 9 1 (aa.args.map tx)] fun hr jr Γ hΓ=>?_
 rw[gT]at h;obtain⟨h27,h⟩:=bQ h;refine(aU.a [.cn [0,3,10,11,12] [0,7,3,1,2,4,5,6]]).lp hΓ (wN hΓ (fun h=>?_) (ay h27) aC.bM 0 rfl h);obtain⟨h26,h⟩:=bQ h;cases h;exact((aU.w (br h26)).a [.n2 [0,1,2,3,4,5,6,7,8,9,10,11] [0,1,2,3,4,5,6,7,8,9,10,11] 7 9 [0,1,2,3,4] [4,7,8]]).rts hΓ (D.iK [D.int .i64 (IntKind.i64.wrap ((((aC.bM.map ai.c)++([[D.str aa.rel,D.sl (aa.args.map tx),D.sl ([])]])).length:Int)-1)),D.agg [D.fr 80 4 (aC.rules.map aJ.c),D.fr 3 1 (aC.ends.map mR),D.fr 93 3 ((aC.bM.map ai.c)++([[D.str aa.rel,D.sl (aa.args.map tx),D.sl ([])]])),D.fr 50 8 (aC.nodes.map Node.c),D.fr 37 2 (aC.facts.map aG.c),D.int .i64 aC.cS],D.val jr]) (by first|rfl| (simp only[mA]<;>rfl)| (simp only[cC,mA]<;>rfl))
def cc(aC:aN)(aa:Int)(cN:aH)(k1:Option (aN×Int)):bR->Nat->Option (aN×Int)
 | [],i1=>(k1)
 |bh::cV,i1=>(bif decide (((i1:Int):Int)>0)then(bif (bh.parent:Int)==aa then((j4 bh.cond cN).bind fun Qp=>(bif Qp then(some (aC,(i1:Int)))else(cc aC aa cN k1 cV (i1+1))))else(cc aC aa cN k1 cV (i1+1)))else(cc aC aa cN k1 cV (i1+1)))
def jQ(aC:aN)(aa:Int)(cN:aH):Option (aN×Int):=(bif decide (aC.nodes.length<=maxLen)then(cc aC aa cN (bif (cN.kind:Int)==1 then((p0 cN.pat).bind fun MX=>((gT aC MX).bind fun KT=>((gy cN).bind fun K5=>(bif room ((KT.1.nodes.map Node.c).length+([[D.int .i64 aa,D.int .i64 K5.kind,D.str K5.pat.rel,D.sl (K5.pat.args.map tx),D.str K5.left,D.str K5.right,D.int .i64 KT.2,D.sl ([])]]).length) 120 then(some ((⟨KT.1.rules,KT.1.ends,KT.1.bM,KT.1.nodes++([(⟨aa,K5,KT.2,[]⟩:Node)]),KT.1.facts,KT.1.cS⟩:aN),IntKind.i64.wrap ((((KT.1.nodes.map Node.c)++([[D.int .i64 aa,D.int .i64 K5.kind,D.str K5.pat.rel,D.sl (K5.pat.args.map tx),D.str K5.left,D.str K5.right,D.int .i64 KT.2,D.sl ([])]])).length:Int)-1)))else none))))else(bif (cN.kind:Int)==2 then((p0 cN.pat).bind fun y47=>((gT aC y47).bind fun Hl=>((gy cN).bind fun Gn=>(bif room ((Hl.1.nodes.map Node.c).length+([[D.int .i64 aa,D.int .i64 Gn.kind,D.str Gn.pat.rel,D.sl (Gn.pat.args.map tx),D.str Gn.left,D.str Gn.right,D.int .i64 Hl.2,D.sl ([])]]).length) 120 then(some ((⟨Hl.1.rules,Hl.1.ends,Hl.1.bM,Hl.1.nodes++([(⟨aa,Gn,Hl.2,[]⟩:Node)]),Hl.1.facts,Hl.1.cS⟩:aN),IntKind.i64.wrap ((((Hl.1.nodes.map Node.c)++([[D.int .i64 aa,D.int .i64 Gn.kind,D.str Gn.pat.rel,D.sl (Gn.pat.args.map tx),D.str Gn.left,D.str Gn.right,D.int .i64 Hl.2,D.sl ([])]])).length:Int)-1)))else none))))else((gy cN).bind fun K6=>(bif room ((aC.nodes.map Node.c).length+([[D.int .i64 aa,D.int .i64 K6.kind,D.str K6.pat.rel,D.sl (K6.pat.args.map tx),D.str K6.left,D.str K6.right,D.int .i64 (-1),D.sl ([])]]).length) 120 then(some ((⟨aC.rules,aC.ends,aC.bM,aC.nodes++([(⟨aa,K6, -1,[]⟩:Node)]),aC.facts,aC.cS⟩:aN),IntKind.i64.wrap ((((aC.nodes.map Node.c)++([[D.int .i64 aa,D.int .i64 K6.kind,D.str K6.pat.rel,D.sl (K6.pat.args.map tx),D.str K6.left,D.str K6.right,D.int .i64 (-1),D.sl ([])]])).length:Int)-1)))else none)))) aC.nodes 0)else none)
def xG(jr:Value)(aC:aN)(aa:Int)(cN:aH)(dQ:Int):St:=⟨[(0,D.ptr 0 0),(1,D.int .i64 aa),(5,D.ptr 1 0),(13,D.acc 2),(14,D.int .i64 ((aC.nodes.map Node.c).length:Int)),(15,D.int .i64 dQ)],[Ob.BQ [D.acc 3,D.acc 4,D.acc 5,D.acc 2,D.acc 6,D.int .i64 aC.cS] jr,Ob.box (aH.c cN),Ob.row .uq 50 8 (aC.nodes.map Node.c),Ob.row .uq 80 4 (aC.rules.map aJ.c),Ob.row .uq 3 1 (aC.ends.map mR),Ob.row .uq 93 3 (aC.bM.map ai.c),Ob.row .uq 37 2 (aC.facts.map aG.c)]⟩
theorem wO(hΓ:Γ.nt=69){jr:Value}{aC:aN}{aa:Int}{cN:aH}{r:aN×Int}{k1:Option (aN×Int)}(eR:k1=some r->Ax Γ N f167 (.p [[some (80,4),some (3,1),some (93,3),some (50,8),some (37,2),none],[none]] jr (cC r.1) (D.int .i64 r.2)) [1,1] ⟨[(0,D.ptr 0 0),(1,D.int .i64 aa),(5,D.ptr 1 0)],[Ob.BQ [D.acc 2,D.acc 3,D.acc 4,D.acc 5,D.acc 6,D.int .i64 aC.cS] jr,Ob.box (aH.c cN),Ob.row .uq 80 4 (aC.rules.map aJ.c),Ob.row .uq 3 1 (aC.ends.map mR),Ob.row .uq 93 3 (aC.bM.map ai.c),Ob.row .uq 50 8 (aC.nodes.map Node.c),Ob.row .uq 37 2 (aC.facts.map aG.c)]⟩)(hm1:aC.nodes.length<=maxLen):∀(rest:bR) (i1:Nat),aC.nodes.drop i1=rest->cc aC aa cN k1 rest i1=some r->Ar Γ N f167 (.p [[some (80,4),some (3,1),some (93,3),some (50,8),some (37,2),none],[none]] jr (cC r.1) (D.int .i64 r.2)) [1,0,1,0] (rest.length+1) (xG jr aC aa cN (i1:Int)):=by
 intro rest
 induction rest with
 |nil=>
  intro i1 bA h;rw[cc]at h;refine aR fun N1 cW cL=>?_
  exact((aU.ge Node.c bA).a [.hl 0 [0,1,5] [0,1,3,4,5,2,6]]).ex hΓ cW (eR h)
 |cons bh cV ih1=>
  intro i1 bA h;rw[cc]at h;refine aR fun N1 cW cL=>?_
  have kw:=(((aU.lt Node.c bA).i (mS Node.c 8 (dc bA))).o 8 8 .uq (cH Node.c (dc bA)))
  obtain⟨h30,h⟩|⟨h30,h⟩:=aM h
  ·have rR:=(kw.r 5 h30)
   obtain⟨h31,h⟩|⟨h31,h⟩:=aM h
   ·obtain⟨Qp,h33,h⟩:=aB h;have vT:=(((rR.r 4 h31).g (rM h33)).b h31)
    obtain⟨h34,h⟩|⟨h34,h⟩:=aM h
    ·cases h;exact(vT.b h34).ret hΓ
    ·exact((vT.b h34).a [.cn [0,1,5,13,14,15] [0,1,2,3,4,5,6]]).ct hΓ cL (iS bA hm1) (ih1 (i1+1) (dn bA) h)
   ·exact(((rR.r 5 h31).F 1).a [.cn [0,1,5,13,14,15] [0,1,2,3,4,5,6]]).ct hΓ cL (iS bA hm1) (ih1 (i1+1) (dn bA) h)
  ·exact(((kw.r 5 h30).F 6).a [.cn [0,1,5,13,14,15] [0,1,2,3,4,5,6]]).ct hΓ cL (iS bA hm1) (ih1 (i1+1) (dn bA) h)
theorem vi{aC:aN}{aa:Int}{cN:aH}{r:aN×Int}(h:jQ aC aa cN=some r):jP prog 167 (cC aC) (cC r.1) [D.int .i64 aa,D.agg (aH.c cN)] (D.int .i64 r.2):=by
 refine J9 func167 [[some (80,4),some (3,1),some (93,3),some (50,8),some (37,2),none],[none]] 69 [D.acc 1,D.acc 2,D.acc 3,D.acc 4,D.acc 5,D.int .i64 aC.cS] [D.int .i64 aa,D.agg [D.int .i64 cN.kind,D.str cN.pat.rel,D.sl (cN.pat.args.map tx),D.str cN.left,D.str cN.right]] [Ob.row .uq 80 4 (aC.rules.map aJ.c),Ob.row .uq 3 1 (aC.ends.map mR),Ob.row .uq 93 3 (aC.bM.map ai.c),Ob.row .uq 50 8 (aC.nodes.map Node.c),Ob.row .uq 37 2 (aC.facts.map aG.c)] fun hr jr Γ hΓ=>?_
 rw[jQ]at h;obtain⟨h63,h⟩:=bQ h;refine(aU.a [.cn [0,1,5,13,14,15] [0,6,4,1,2,3,5]]).lp hΓ (wO hΓ (fun h=>?_) (ay h63) aC.nodes 0 rfl h);obtain⟨h35,h⟩|⟨h35,h⟩:=aM h
 ·obtain⟨MX,h37,h⟩:=aB h;obtain⟨KT,h39,h⟩:=aB h;obtain⟨K5,h44,h⟩:=aB h;obtain⟨h45,h⟩:=bQ h;cases h;exact(((((((aU.r 4 h35).T 1).g (wB h37)).hp [[some (80,4),some (3,1),some (93,3),some (50,8),some (37,2),none],[none,some (9,1)]] (qH h39)).a [.n2 [0,1,2,3,4,5,6,7,8,9,10,11,12,13,14] [0,1,2,3,4,5,6,7,8,9,10,11,12,13,14] 10 12 [0,1,2,3,4] [11,13,14]]).g (mB h44)).w (br h45)).rts hΓ (D.iK [D.int .i64 (IntKind.i64.wrap ((((KT.1.nodes.map Node.c)++([[D.int .i64 aa,D.int .i64 K5.kind,D.str K5.pat.rel,D.sl (K5.pat.args.map tx),D.str K5.left,D.str K5.right,D.int .i64 KT.2,D.sl ([])]])).length:Int)-1)),D.agg [D.fr 80 4 (KT.1.rules.map aJ.c),D.fr 3 1 (KT.1.ends.map mR),D.fr 93 3 (KT.1.bM.map ai.c),D.fr 50 8 ((KT.1.nodes.map Node.c)++([[D.int .i64 aa,D.int .i64 K5.kind,D.str K5.pat.rel,D.sl (K5.pat.args.map tx),D.str K5.left,D.str K5.right,D.int .i64 KT.2,D.sl ([])]])),D.fr 37 2 (KT.1.facts.map aG.c),D.int .i64 KT.1.cS],D.val jr]) (by first|rfl| (simp only[mA]<;>rfl)| (simp only[cC,mA]<;>rfl))
 ·have yl:=(aU.r 4 h35)
  obtain⟨h46,h⟩|⟨h46,h⟩:=aM h
  ·obtain⟨y47,h48,h⟩:=aB h;obtain⟨Hl,h50,h⟩:=aB h;obtain⟨Gn,h55,h⟩:=aB h;obtain⟨h56,h⟩:=bQ h;cases h;exact((((((yl.b h46).g (wB h48)).hp [[some (80,4),some (3,1),some (93,3),some (50,8),some (37,2),none],[none,some (9,1)]] (qH h50)).a [.n2 [0,1,2,3,4,5,6,7,8,9,10,11,12,13,14] [0,1,2,3,4,5,6,7,8,9,10,11,12,13,14] 10 12 [0,1,2,3,4] [11,13,14]]).g (mB h55)).w (br h56)).rts hΓ (D.iK [D.int .i64 (IntKind.i64.wrap ((((Hl.1.nodes.map Node.c)++([[D.int .i64 aa,D.int .i64 Gn.kind,D.str Gn.pat.rel,D.sl (Gn.pat.args.map tx),D.str Gn.left,D.str Gn.right,D.int .i64 Hl.2,D.sl ([])]])).length:Int)-1)),D.agg [D.fr 80 4 (Hl.1.rules.map aJ.c),D.fr 3 1 (Hl.1.ends.map mR),D.fr 93 3 (Hl.1.bM.map ai.c),D.fr 50 8 ((Hl.1.nodes.map Node.c)++([[D.int .i64 aa,D.int .i64 Gn.kind,D.str Gn.pat.rel,D.sl (Gn.pat.args.map tx),D.str Gn.left,D.str Gn.right,D.int .i64 Hl.2,D.sl ([])]])),D.fr 37 2 (Hl.1.facts.map aG.c),D.int .i64 Hl.1.cS],D.val jr]) (by first|rfl| (simp only[mA]<;>rfl)| (simp only[cC,mA]<;>rfl))
  ·obtain⟨K6,h61,h⟩:=aB h;obtain⟨h62,h⟩:=bQ h;cases h;exact((((yl.b h46).a [.n2 [0,1,2,3,4,5,6,7,8,9,10,11,12,13,14] [0,1,2,3,4,5,6,7,8,9,10,11,12,13,14] 10 12 [0,1,2,3,4] [5,7,8]]).g (mB h61)).w (br h62)).rts hΓ (D.iK [D.int .i64 (IntKind.i64.wrap ((((aC.nodes.map Node.c)++([[D.int .i64 aa,D.int .i64 K6.kind,D.str K6.pat.rel,D.sl (K6.pat.args.map tx),D.str K6.left,D.str K6.right,D.int .i64 (-1),D.sl ([])]])).length:Int)-1)),D.agg [D.fr 80 4 (aC.rules.map aJ.c),D.fr 3 1 (aC.ends.map mR),D.fr 93 3 (aC.bM.map ai.c),D.fr 50 8 ((aC.nodes.map Node.c)++([[D.int .i64 aa,D.int .i64 K6.kind,D.str K6.pat.rel,D.sl (K6.pat.args.map tx),D.str K6.left,D.str K6.right,D.int .i64 (-1),D.sl ([])]])),D.fr 37 2 (aC.facts.map aG.c),D.int .i64 aC.cS],D.val jr]) (by first|rfl| (simp only[mA]<;>rfl)| (simp only[cC,mA]<;>rfl))
def iR(aC:au)(i1:Nat)(FA:af)(k2:Int->Int->au->bJ->bS->bR->aO->Option aN):af->Nat->Int->Int->au->bJ->bS->bR->aO->Option aN
 | [],i2,oP,mZ,yq,j6,yt,ld,yu=>(k2 oP mZ yq j6 yt ld yu)
 |jM::uO,i2,oP,mZ,yq,j6,yt,ld,yu=>((jQ (⟨yq,j6,yt,ld,yu,mZ⟩:aN) oP jM).bind fun uy=>(iR aC i1 FA k2 uO (i2+1) uy.2 uy.1.cS uy.1.rules uy.1.ends uy.1.bM uy.1.nodes uy.1.facts))
def iQ(aC:au)(k1:Int->au->bJ->bS->bR->aO->Option aN):au->Nat->Int->au->bJ->bS->bR->aO->Option aN
 | [],i1,mY,kL,cX,yo,rU,yp=>(k1 mY kL cX yo rU yp)
 |bh::cV,i1,mY,kL,cX,yo,rU,yp=>((oC bh).bind fun FA=>(bif decide (FA.length<=maxLen)then(iR aC i1 FA (fun(Cq:Int) (tN:Int) (F5:au) (tM:bJ) (F6:bS) (pR:bR) (F7:aO)=>(bif room ((tM.map mR).length+([[D.int .i64 Cq]]).length) 8 then(iQ aC k1 cV (i1+1) tN F5 (tM++([Cq])) F6 pR F7)else none)) FA 0 0 mY kL cX yo rU yp)else none))
def pG(aC:au):Option aN:=((p9 aC).bind fun y1=>(iQ aC (fun(xm:Int) (n7:au) (eS:bJ) (Jl:bS) (si:bR) (Jm:aO)=>(some (⟨n7,eS,Jl,si,Jm,xm⟩:aN))) aC 0 0 y1 ([]:bJ) ([]:bS) ([(⟨-1,(⟨0,(⟨[],[]⟩:aG),[],[]⟩:aH), -1,[]⟩:Node)]) ([]:aO)))
def sH(aC:au)(mY:Int)(W1:List aL)(W2:List aL)(W3:List aL)(W4:List aL)(W5:List aL)(dQ:Int):St:=⟨[(2,D.ptr 0 0),(3,D.ptr 1 0),(14,D.sl (aC.map aJ.c)),(15,D.int .i64 ((aC.map aJ.c).length:Int)),(16,D.int .i64 dQ)],[Ob.box [D.nil,D.nil,D.nil,D.nil,D.nil,D.int .i64 0],Ob.box [D.acc 2,D.acc 3,D.acc 4,D.acc 5,D.acc 6,D.int .i64 mY],Ob.row .uq 80 4 W1,Ob.row .uq 3 1 W2,Ob.row .uq 93 3 W3,Ob.row .uq 50 8 W4,Ob.row .uq 37 2 W5]⟩
def DN(aC:au)(i1:Nat)(FA:af)(oP:Int)(mZ:Int)(W2:List aL)(W3:List aL)(W4:List aL)(W5:List aL)(W6:List aL)(dQ:Int):St:=⟨[(2,D.ptr 0 0),(3,D.ptr 1 0),(6,D.int .i64 oP),(14,D.sl (aC.map aJ.c)),(15,D.int .i64 ((aC.map aJ.c).length:Int)),(16,D.int .i64 (i1:Int)),(21,D.acc 2),(22,D.int .i64 ((FA.map aH.c).length:Int)),(23,D.int .i64 dQ)],[Ob.box [D.nil,D.nil,D.nil,D.nil,D.nil,D.int .i64 0],Ob.box [D.acc 3,D.acc 4,D.acc 5,D.acc 6,D.acc 7,D.int .i64 mZ],Ob.row .uq 47 5 (FA.map aH.c),Ob.row .uq 80 4 W2,Ob.row .uq 3 1 W3,Ob.row .uq 93 3 W4,Ob.row .uq 50 8 W5,Ob.row .uq 37 2 W6]⟩
theorem Bz(hΓ:Γ.nt=39){aC:au}{i1:Nat}{FA:af}{r:aN}{k2:Int->Int->au->bJ->bS->bR->aO->Option aN}(Ak:∀(Cq:Int) (tN:Int) (F5:au) (tM:bJ) (F6:bS) (pR:bR) (F7:aO),k2 Cq tN F5 tM F6 pR F7=some r->Ax Γ N f99 (.q [[some (80,4),some (3,1),some (93,3),some (50,8),some (37,2),none]] (D.agg [D.fr 80 4 (r.rules.map aJ.c),D.fr 3 1 (r.ends.map mR),D.fr 93 3 (r.bM.map ai.c),D.fr 50 8 (r.nodes.map Node.c),D.fr 37 2 (r.facts.map aG.c),D.int .i64 r.cS])) [1,1,0,1,0,0,1,1,0,0,1,1,1] ⟨[(2,D.ptr 0 0),(3,D.ptr 1 0),(6,D.int .i64 Cq),(14,D.sl (aC.map aJ.c)),(15,D.int .i64 ((aC.map aJ.c).length:Int)),(16,D.int .i64 (i1:Int))],[Ob.box [D.nil,D.nil,D.nil,D.nil,D.nil,D.int .i64 0],Ob.box [D.acc 2,D.acc 3,D.acc 4,D.acc 5,D.acc 6,D.int .i64 tN],Ob.row .uq 80 4 (F5.map aJ.c),Ob.row .uq 3 1 (tM.map mR),Ob.row .uq 93 3 (F6.map ai.c),Ob.row .uq 50 8 (pR.map Node.c),Ob.row .uq 37 2 (F7.map aG.c)]⟩)(hm2:FA.length<=maxLen):∀(rest:af) (i2:Nat) (oP:Int) (mZ:Int) (yq:au) (j6:bJ) (yt:bS) (ld:bR) (yu:aO),FA.drop i2=rest->iR aC i1 FA k2 rest i2 oP mZ yq j6 yt ld yu=some r->Ar Γ N f99 (.q [[some (80,4),some (3,1),some (93,3),some (50,8),some (37,2),none]] (D.agg [D.fr 80 4 (r.rules.map aJ.c),D.fr 3 1 (r.ends.map mR),D.fr 93 3 (r.bM.map ai.c),D.fr 50 8 (r.nodes.map Node.c),D.fr 37 2 (r.facts.map aG.c),D.int .i64 r.cS])) [1,1,0,1,0,0,1,1,0,0,1,1,0,1,0] (rest.length+1) (DN aC i1 FA oP mZ (yq.map aJ.c) (j6.map mR) (yt.map ai.c) (ld.map Node.c) (yu.map aG.c) (i2:Int)):=by
 intro rest
 induction rest with
 |nil=>
  intro i2 oP mZ yq j6 yt ld yu hd2 h;rw[iR]at h;refine aR fun N2 um sL=>?_
  exact((aU.ge aH.c hd2).a [.hl 5 [2,3,6,14,15,16] [0,1,3,4,5,6,7]]).ex hΓ um (Ak oP mZ yq j6 yt ld yu h)
 |cons jM uO ih2=>
  intro i2 oP mZ yq j6 yt ld yu hd2 h;rw[iR]at h;refine aR fun N2 um sL=>?_
  obtain⟨uy,h209,h⟩:=aB h;exact((((((aU.lt aH.c hd2).i (mS aH.c 5 (dc hd2))).o 5 5 .uq (cH aH.c (dc hd2))).a [.gp [[some (80,4),some (3,1),some (93,3),some (50,8),some (37,2),none],[none],[none,none,none,none,none]] (cC uy.1) (D.int .i64 uy.2)]).w (show jP prog 167 (cC (⟨yq,j6,yt,ld,yu,mZ⟩:aN)) (cC uy.1) [D.int .i64 oP,D.agg (aH.c jM)] (D.int .i64 uy.2)from by simpa only[b8,bC,bf,bX,bY]using vi h209)).a [.cn [2,3,6,14,15,16,21,22,23] [0,1,2,9,10,11,12,13]]).ct hΓ sL (iS hd2 hm2) (ih2 (i2+1) uy.2 uy.1.cS uy.1.rules uy.1.ends uy.1.bM uy.1.nodes uy.1.facts (dn hd2) h)
theorem By(hΓ:Γ.nt=39){aC:au}{r:aN}{k1:Int->au->bJ->bS->bR->aO->Option aN}(eR:∀(xm:Int) (n7:au) (eS:bJ) (Jl:bS) (si:bR) (Jm:aO),k1 xm n7 eS Jl si Jm=some r->Ax Γ N f99 (.q [[some (80,4),some (3,1),some (93,3),some (50,8),some (37,2),none]] (D.agg [D.fr 80 4 (r.rules.map aJ.c),D.fr 3 1 (r.ends.map mR),D.fr 93 3 (r.bM.map ai.c),D.fr 50 8 (r.nodes.map Node.c),D.fr 37 2 (r.facts.map aG.c),D.int .i64 r.cS])) [1,1,1] ⟨[(2,D.ptr 0 0),(3,D.ptr 1 0)],[Ob.box [D.nil,D.nil,D.nil,D.nil,D.nil,D.int .i64 0],Ob.box [D.acc 2,D.acc 3,D.acc 4,D.acc 5,D.acc 6,D.int .i64 xm],Ob.row .uq 80 4 (n7.map aJ.c),Ob.row .uq 3 1 (eS.map mR),Ob.row .uq 93 3 (Jl.map ai.c),Ob.row .uq 50 8 (si.map Node.c),Ob.row .uq 37 2 (Jm.map aG.c)]⟩)(hm1:aC.length<=maxLen):∀(rest:au) (i1:Nat) (mY:Int) (kL:au) (cX:bJ) (yo:bS) (rU:bR) (yp:aO),aC.drop i1=rest->iQ aC k1 rest i1 mY kL cX yo rU yp=some r->Ar Γ N f99 (.q [[some (80,4),some (3,1),some (93,3),some (50,8),some (37,2),none]] (D.agg [D.fr 80 4 (r.rules.map aJ.c),D.fr 3 1 (r.ends.map mR),D.fr 93 3 (r.bM.map ai.c),D.fr 50 8 (r.nodes.map Node.c),D.fr 37 2 (r.facts.map aG.c),D.int .i64 r.cS])) [1,1,0,1,0] (rest.length+1) (sH aC mY (kL.map aJ.c) (cX.map mR) (yo.map ai.c) (rU.map Node.c) (yp.map aG.c) (i1:Int)):=by
 intro rest
 induction rest with
 |nil=>
  intro i1 mY kL cX yo rU yp bA h;rw[iQ]at h;refine aR fun N1 cW cL=>?_
  exact((aU.ge aJ.c bA).a [.hl 0 [2,3] [0,1,2,3,4,5,6]]).ex hΓ cW (eR mY kL cX yo rU yp h)
 |cons bh cV ih1=>
  intro i1 mY kL cX yo rU yp bA h;rw[iQ]at h;refine aR fun N1 cW cL=>?_
  obtain⟨FA,h180,h⟩:=aB h;obtain⟨h211,h⟩:=bQ h;refine((((aU.lt aJ.c bA).l (bI aJ.c 4 (dc bA) rfl)).g (A8 h180)).a [.cn [2,3,6,14,15,16,21,22,23] [0,1,8,2,3,4,5,6]]).lp hΓ (Bz hΓ (fun Cq tN F5 tM F6 pR F7 h=>?_) (ay h211) FA 0 0 mY kL cX yo rU yp rfl h);obtain⟨h210,h⟩:=bQ h;exact((aU.w (br h210)).a [.cn [2,3,14,15,16] [0,1,2,8,4,5,6]]).cs hΓ cL (sH aC tN (F5.map aJ.c) ((tM.map mR)++([[D.int .i64 Cq]])) (F6.map ai.c) (pR.map Node.c) (F7.map aG.c) (IntKind.i64.wrap ((i1:Int)+1))) (by first| (simp only[iS bA hm1,mA]<;>rfl)| (simp only[iS bA hm1,mA,aG.c,aQ.c,aH.c,Action.c,aJ.c,aX.c,dU.c,ai.c,Node.c,aN.c,dW.c]<;>rfl)) (ih1 (i1+1) tN F5 (tM++([Cq])) F6 pR F7 (dn bA) h)
theorem BC{aC:au}{r:aN}(h:pG aC=some r):Good prog 99 [D.sl (aC.map aJ.c)] (D.agg [D.fr 80 4 (r.rules.map aJ.c),D.fr 3 1 (r.ends.map mR),D.fr 93 3 (r.bM.map ai.c),D.fr 50 8 (r.nodes.map Node.c),D.fr 37 2 (r.facts.map aG.c),D.int .i64 r.cS]):=by
 refine gd func99 [[some (80,4),some (3,1),some (93,3),some (50,8),some (37,2),none]] 39 fun hr Γ hΓ=>?_
 rw[pG]at h;obtain⟨y1,h2,h⟩:=aB h;refine((aU.g (B7 h2)).a [.pb 3 1 3 1,.pb 3 2 93 3,.pb 3 4 37 2,.cn [2,3,14,15,16] [0,3,1,4,5,2,6]]).lps hΓ (sH aC 0 (y1.map aJ.c) ([]:List aL) ([]:List aL) ([[D.int .i64 (-1),D.int .i64 0,D.str ([]),D.sl ([]),D.str ([]),D.str ([]),D.int .i64 (-1),D.sl ([])]]) ([]:List aL) 0) (by first| (simp only[mA]<;>rfl)| (simp only[mA,aG.c,aQ.c,aH.c,Action.c,aJ.c,aX.c,dU.c,ai.c,Node.c,aN.c,dW.c]<;>rfl)) (By hΓ (fun xm n7 eS Jl si Jm h=>?_) (by have:=(j0.sl (hr _ (aD (i:=0) rfl))).1;simpa using this) aC 0 0 y1 ([]:bJ) ([]:bS) ([(⟨-1,(⟨0,(⟨[],[]⟩:aG),[],[]⟩:aH), -1,[]⟩:Node)]) ([]:aO) rfl h);cases h;exact aU.ret hΓ
def gz(aC:aG):Option aG:=((lK aC.args).bind fun y1=>(some (⟨aC.rel,y1⟩:aG)))
theorem rN{aC:aG}{r:aG}(h:gz aC=some r):Good prog 171 [D.agg (aG.c aC)] (D.agg [D.str r.rel,D.fr 9 1 (r.args.map tx)]):=by
 refine gd func171 [[none,some (9,1)]] 9 fun hr Γ hΓ=>?_
 rw[gz]at h;obtain⟨y1,h2,h⟩:=aB h;cases h;exact((aU.a [.n 5]).g (qv h2)).ret hΓ
def kT(aC:aO)(k1:aO->Option aO):aO->Nat->aO->Option aO
 | [],i1,bO=>(k1 bO)
 |bh::cV,i1,bO=>((gz bh).bind fun nR=>(bif room ((bO.map aG.c).length+([[D.str nR.rel,D.sl (nR.args.map tx)]]).length) 40 then(kT aC k1 cV (i1+1) (bO++([nR])))else none))
def lJ(aC:aO):Option aO:=(kT aC (fun(cA:aO)=>(some cA)) aC 0 ([]:aO))
def wD(aC:aO)(W0:List aL)(dQ:Int):St:=⟨[(3,D.acc 0),(6,D.sl (aC.map aG.c)),(7,D.int .i64 ((aC.map aG.c).length:Int)),(8,D.int .i64 dQ)],[Ob.row .uq 37 2 W0]⟩
theorem Bp(hΓ:Γ.nt=19){aC:aO}{r:aO}{k1:aO->Option aO}(eR:∀(cA:aO),k1 cA=some r->Ax Γ N f103 (.q [[some (37,2)]] (D.fr 37 2 (r.map aG.c))) [1,1,1] ⟨[(3,D.acc 0)],[Ob.row .uq 37 2 (cA.map aG.c)]⟩)(hm1:aC.length<=maxLen):∀(rest:aO) (i1:Nat) (bO:aO),aC.drop i1=rest->kT aC k1 rest i1 bO=some r->Ar Γ N f103 (.q [[some (37,2)]] (D.fr 37 2 (r.map aG.c))) [1,1,0,1,0] (rest.length+1) (wD aC (bO.map aG.c) (i1:Int)):=by
 intro rest
 induction rest with
 |nil=>
  intro i1 bO bA h;rw[kT]at h;refine aR fun N1 cW cL=>?_
  exact((aU.ge aG.c bA).a [.hl 0 [3] [0]]).ex hΓ cW (eR bO h)
 |cons bh cV ih1=>
  intro i1 bO bA h;rw[kT]at h;refine aR fun N1 cW cL=>?_
  obtain⟨nR,h28,h⟩:=aB h;obtain⟨h29,h⟩:=bQ h;exact(((((aU.lt aG.c bA).l (bI aG.c 2 (dc bA) rfl)).g (rN h28)).w (br h29)).a [.cn [3,6,7,8] [4]]).cs hΓ cL (wD aC ((bO.map aG.c)++([[D.str nR.rel,D.sl (nR.args.map tx)]])) (IntKind.i64.wrap ((i1:Int)+1))) (by first| (simp only[iS bA hm1,mA]<;>rfl)| (simp only[iS bA hm1,mA,aG.c,aQ.c,aH.c,Action.c,aJ.c,aX.c,dU.c,ai.c,Node.c,aN.c,dW.c]<;>rfl)) (ih1 (i1+1) (bO++([nR])) (dn bA) h)
theorem uZ{aC:aO}{r:aO}(h:lJ aC=some r):Good prog 103 [D.sl (aC.map aG.c)] (D.fr 37 2 (r.map aG.c)):=by
 refine gd func103 [[some (37,2)]] 19 fun hr Γ hΓ=>?_
 rw[lJ]at h;refine(aU.a [.Jk 3,.cn [3,6,7,8] [0]]).lp hΓ (Bp hΓ (fun cA h=>?_) (by have:=(j0.sl (hr _ (aD (i:=0) rfl))).1;simpa using this) aC 0 ([]:aO) rfl h);have h:=aK h;subst h;exact aU.ret hΓ
def nJ(aC:aG)(k1:Option Bool):aF->Nat->Option Bool
 | [],i1=>(k1)
 |bh::cV,i1=>((ez bh).bind fun tA=>(bif !(tA)then(some false)else(nJ aC k1 cV (i1+1))))
def oR(aC:aG):Option Bool:=((oS aC.rel).bind fun y1=>(bif !(y1)then(some false)else(bif decide ((((aC.args.map tx).length:Int):Int)>3)then(some false)else(nJ aC (some true) aC.args 0))))
def H7(aC:aG)(dQ:Int):St:=⟨[(16,D.sl (aC.args.map tx)),(17,D.int .i64 ((aC.args.map tx).length:Int)),(18,D.int .i64 dQ)],[]⟩
theorem FV(hΓ:Γ.nt=26){aC:aG}{r:Bool}{k1:Option Bool}(eR:k1=some r->Ax Γ N f110 (.q [[none]] (D.bool r)) [1,1,1] ⟨[],[]⟩)(hm1:aC.args.length<=maxLen):∀(rest:aF) (i1:Nat),aC.args.drop i1=rest->nJ aC k1 rest i1=some r->Ar Γ N f110 (.q [[none]] (D.bool r)) [1,1,0,1,0] (rest.length+1) (H7 aC (i1:Int)):=by
 intro rest
 induction rest with
 |nil=>
  intro i1 bA h;rw[nJ]at h;refine aR fun N1 cW cL=>?_
  exact((aU.ge tx bA).a [.hl 0 [] []]).ex hΓ cW (eR h)
 |cons bh cV ih1=>
  intro i1 bA h;rw[nJ]at h;refine aR fun N1 cW cL=>?_
  obtain⟨tA,h26,h⟩:=aB h;have ig:=(((aU.lt tx bA).l (bI tx 1 (dc bA) rfl)).g (eM h26))
  obtain⟨h27,h⟩|⟨h27,h⟩:=aM h
  ·have h:=aK h;subst h;exact(ig.b h27).ret hΓ
  ·exact((ig.b h27).a [.cn [16,17,18] []]).ct hΓ cL (iS bA hm1) (ih1 (i1+1) (dn bA) h)
theorem xJ{aC:aG}{r:Bool}(h:oR aC=some r):Good prog 110 [D.agg (aG.c aC)] (D.bool r):=by
 refine gd func110 [[none]] 26 fun hr Γ hΓ=>?_
 rw[oR]at h;obtain⟨y1,h2,h⟩:=aB h;obtain⟨h3,h⟩|⟨h3,h⟩:=aM h
 ·have h:=aK h;subst h;exact(((aU.g (lF h2)).r 5 h3).T 1).ret hΓ
 ·have lC:=((aU.g (lF h2)).r 5 h3)
  obtain⟨h4,h⟩|⟨h4,h⟩:=aM h
  ·have h:=aK h;subst h;exact(lC.b h4).ret hΓ
  ·refine((lC.b h4).a [.cn [16,17,18] []]).lp hΓ (FV hΓ (fun h=>?_) (by have:=(j0.sl (j0.agg (hr _ (aD (i:=0) rfl)) (.sl (aC.args.map tx)) (by simp))).1;simpa using this) aC.args 0 rfl h);have h:=aK h;subst h;exact aU.ret hΓ
def gL(aC:aP)(k1:Option Bool):aP->Nat->Option Bool
 | [],i1=>(k1)
 |bh::cV,i1=>((jy bh.var).bind fun y50=>(bif !(y50)then(some false)else((ez bh.value).bind fun y53=>(bif !(y53)then(some false)else(bif decide (((i1:Int):Int)>0)then((iM aC (IntKind.i64.wrap ((i1:Int)-1))).bind fun x57=>(bif !(Op.bytesLess x57.var bh.var)then(some false)else(gL aC k1 cV (i1+1))))else(gL aC k1 cV (i1+1)))))))
def jT(aC:aP):Option Bool:=(bif decide ((((aC.map aQ.c).length:Int):Int)>6)then(some false)else(gL aC (some true) aC 0))
def DB(aC:aP)(dQ:Int):St:=⟨[(0,D.sl (aC.map aQ.c)),(8,D.sl (aC.map aQ.c)),(9,D.int .i64 ((aC.map aQ.c).length:Int)),(10,D.int .i64 dQ)],[]⟩
theorem Bi(hΓ:Γ.nt=41){aC:aP}{r:Bool}{k1:Option Bool}(eR:k1=some r->Ax Γ N f188 (.q [[none]] (D.bool r)) [1,1,1] ⟨[],[]⟩)(hm1:aC.length<=maxLen):∀(rest:aP) (i1:Nat),aC.drop i1=rest->gL aC k1 rest i1=some r->Ar Γ N f188 (.q [[none]] (D.bool r)) [1,1,0,1,0] (rest.length+1) (DB aC (i1:Int)):=by
 intro rest
 induction rest with
 |nil=>
  intro i1 bA h;rw[gL]at h;refine aR fun N1 cW cL=>?_
  exact((aU.ge aQ.c bA).a [.hl 0 [] []]).ex hΓ cW (eR h)
 |cons bh cV ih1=>
  intro i1 bA h;rw[gL]at h;refine aR fun N1 cW cL=>?_
  obtain⟨y50,h51,h⟩:=aB h;have rR:=((((aU.lt aQ.c bA).l (bI aQ.c 2 (dc bA) rfl)).a [.n 22]).g (mK h51))
  obtain⟨h52,h⟩|⟨h52,h⟩:=aM h
  ·have h:=aK h;subst h;exact((((rR.r 5 h52).T 3).a [bF,bF,bF,bF,bF,bF,bF,bF,bF]).T 3).ret hΓ
  ·obtain⟨y53,h54,h⟩:=aB h;have vT:=(((rR.r 3 h52).g (eM h54)).r 2 h52)
   obtain⟨h55,h⟩|⟨h55,h⟩:=aM h
   ·have h:=aK h;subst h;exact((((vT.r 3 h55).a [bF,bF,bF,bF,bF,bF,bF,bF,bF]).r 2 h55).T 1).ret hΓ
   ·have yl:=(vT.r 3 h55)
    obtain⟨h56,h⟩|⟨h56,h⟩:=aM h
    ·obtain⟨x57,h58,h⟩:=aB h;have E6:=((((((yl.r 4 h56).l (iN aQ.c 2 h58 rfl)).r 5 h56).b h55).b h56).b h55)
     obtain⟨h59,h⟩|⟨h59,h⟩:=aM h
     ·have h:=aK h;subst h;exact(E6.b h59).ret hΓ
     ·exact((E6.b h59).a [.cn [0,8,9,10] []]).ct hΓ cL (iS bA hm1) (ih1 (i1+1) (dn bA) h)
    ·exact((((((yl.r 9 h56).b h55).b h56).b h55).F 1).a [.cn [0,8,9,10] []]).ct hΓ cL (iS bA hm1) (ih1 (i1+1) (dn bA) h)
theorem l9{aC:aP}{r:Bool}(h:jT aC=some r):Good prog 188 [D.sl (aC.map aQ.c)] (D.bool r):=by
 refine gd func188 [[none]] 41 fun hr Γ hΓ=>?_
 rw[jT]at h;obtain⟨h1,h⟩|⟨h1,h⟩:=aM h
 ·have h:=aK h;subst h;exact(aU.b h1).ret hΓ
 ·refine((aU.b h1).a [.cn [0,8,9,10] []]).lp hΓ (Bi hΓ (fun h=>?_) (by have:=(j0.sl (hr _ (aD (i:=0) rfl))).1;simpa using this) aC 0 rfl h);have h:=aK h;subst h;exact aU.ret hΓ
def nK(aC:aP):Option aP:=(bif room (([]:List aL).length+(aC.map aQ.c).length) 32 then(some (([]:aP)++aC))else none)
theorem ua{aC:aP}{r:aP}(h:nK aC=some r):Good prog 173 [D.sl (aC.map aQ.c)] (D.fr 137 2 (r.map aQ.c)):=by
 refine gd func173 [[some (137,2)]] 5 fun hr Γ hΓ=>?_
 rw[nK]at h;obtain⟨h1,h⟩:=bQ h;cases h;exact(((aU.w (br h1)).w (show(∀r∈(aC.map aQ.c),r.length=2)/\(true=true->D.pO (aC.map aQ.c)=true)from⟨by first|simp| (intro r hr;obtain⟨x,_,rfl⟩:=cJ.1 (cD (jO hr));rfl),by simp[D.pO,D.flat]⟩)).a [.Jk 2,.fl true]).rts hΓ (D.fr 137 2 (([]:List aL)++(aC.map aQ.c))) (by first|rfl| (simp only[mA]<;>rfl)| (simp only[cC,mA]<;>rfl))
def k7(aC:aP)(aa:Bytes)(k1:Option (Bytes×Bool)):aP->Nat->Option (Bytes×Bool)
 | [],i1=>(k1)
 |bh::cV,i1=>(bif (bh.var:Bytes)==aa then(some (bh.value,true))else(k7 aC aa k1 cV (i1+1)))
def nT(aC:aP)(aa:Bytes):Option (Bytes×Bool):=((ez aa).bind fun y1=>(bif y1 then(some (aa,true))else((jy aa).bind fun y4=>(bif !(y4)then(some ([],false))else(k7 aC aa (some ([],false)) aC 0)))))
def Fb(aC:aP)(aa:Bytes)(dQ:Int):St:=⟨[(1,D.str aa),(14,D.sl (aC.map aQ.c)),(15,D.int .i64 ((aC.map aQ.c).length:Int)),(16,D.int .i64 dQ)],[]⟩
theorem EM(hΓ:Γ.nt=27){aC:aP}{aa:Bytes}{r:Bytes×Bool}{k1:Option (Bytes×Bool)}(eR:k1=some r->Ax Γ N f122 (.q [[none],[none]] (D.iK [D.str r.1,D.bool r.2])) [1,1,1,1] ⟨[],[]⟩)(hm1:aC.length<=maxLen):∀(rest:aP) (i1:Nat),aC.drop i1=rest->k7 aC aa k1 rest i1=some r->Ar Γ N f122 (.q [[none],[none]] (D.iK [D.str r.1,D.bool r.2])) [1,1,1,0,1,0] (rest.length+1) (Fb aC aa (i1:Int)):=by
 intro rest
 induction rest with
 |nil=>
  intro i1 bA h;rw[k7]at h;refine aR fun N1 cW cL=>?_
  exact((aU.ge aQ.c bA).a [.hl 0 [] []]).ex hΓ cW (eR h)
 |cons bh cV ih1=>
  intro i1 bA h;rw[k7]at h;refine aR fun N1 cW cL=>?_
  have ig:=((aU.lt aQ.c bA).l (bI aQ.c 2 (dc bA) rfl))
  obtain⟨h19,h⟩|⟨h19,h⟩:=aM h
  ·cases h;exact(ig.b h19).ret hΓ
  ·exact((ig.b h19).a [.cn [1,14,15,16] []]).ct hΓ cL (iS bA hm1) (ih1 (i1+1) (dn bA) h)
theorem sG{aC:aP}{aa:Bytes}{r:Bytes×Bool}(h:nT aC aa=some r):Good prog 122 [D.sl (aC.map aQ.c),D.str aa] (D.iK [D.str r.1,D.bool r.2]):=by
 refine gd func122 [[none],[none]] 27 fun hr Γ hΓ=>?_
 rw[nT]at h;obtain⟨y1,h2,h⟩:=aB h;obtain⟨h3,h⟩|⟨h3,h⟩:=aM h
 ·cases h;exact((aU.g (eM h2)).b h3).ret hΓ
 ·obtain⟨y4,h5,h⟩:=aB h;have lC:=(((aU.g (eM h2)).b h3).g (mK h5))
  obtain⟨h6,h⟩|⟨h6,h⟩:=aM h
  ·cases h;exact(lC.b h6).ret hΓ
  ·refine((lC.b h6).a [.cn [1,14,15,16] []]).lp hΓ (EM hΓ (fun h=>?_) (by have:=(j0.sl (hr _ (aD (i:=0) rfl))).1;simpa using this) aC 0 rfl h);cases h;exact aU.ret hΓ
def jR(aC:aP)(aa:Bytes)(cN:Bytes)(k1:Bool->aP->Option (aP×Bool)):aP->Nat->Bool->aP->Option (aP×Bool)
 | [],i1,vY,bO=>(k1 vY bO)
 |bh::cV,i1,vY,bO=>(bif !(vY)then(bif !(Op.bytesLess bh.var aa||(bh.var:Bytes)==aa)then(bif room ((bO.map aQ.c).length+([[D.str aa,D.str cN]]).length) 32 then(bif room (((bO.map aQ.c)++([[D.str aa,D.str cN]])).length+([[D.str bh.var,D.str bh.value]]).length) 32 then(jR aC aa cN k1 cV (i1+1) true ((bO++([(⟨aa,cN⟩:aQ)]))++([bh])))else none)else none)else(bif room ((bO.map aQ.c).length+([[D.str bh.var,D.str bh.value]]).length) 32 then(jR aC aa cN k1 cV (i1+1) vY (bO++([bh])))else none))else(bif room ((bO.map aQ.c).length+([[D.str bh.var,D.str bh.value]]).length) 32 then(jR aC aa cN k1 cV (i1+1) vY (bO++([bh])))else none))
def qf(aC:aP)(aa:Bytes)(cN:Bytes):Option (aP×Bool):=((jT aC).bind fun y1=>(bif !(y1)then(some ([],false))else((jy aa).bind fun y4=>(bif !(y4)then(some ([],false))else((ez cN).bind fun y7=>(bif !(y7)then(some ([],false))else((nT aC aa).bind fun FE=>(bif FE.2 then(bif !((FE.1:Bytes)==cN)then(some ([],false))else((nK aC).bind fun Im=>(some (Im,true))))else(bif decide ((((aC.map aQ.c).length:Int):Int)>=6)then(some ([],false))else(jR aC aa cN (fun(O1:Bool) (cA:aP)=>(bif !(O1)then(bif room ((cA.map aQ.c).length+([[D.str aa,D.str cN]]).length) 32 then(some (cA++([(⟨aa,cN⟩:aQ)]),true))else none)else(some (cA,true)))) aC 0 false ([]:aP)))))))))))
def rY(aC:aP)(aa:Bytes)(cN:Bytes)(vY:Bool)(W1:List aL)(dQ:Int):St:=⟨[(1,D.str aa),(2,D.str cN),(10,D.acc 0),(11,D.bool vY),(42,D.sl (aC.map aQ.c)),(43,D.int .i64 ((aC.map aQ.c).length:Int)),(44,D.int .i64 dQ)],[Ob.row .uq 137 2 W1]⟩
theorem FT(hΓ:Γ.nt=76){aC:aP}{aa:Bytes}{cN:Bytes}{r:aP×Bool}{k1:Bool->aP->Option (aP×Bool)}(eR:∀(O1:Bool) (cA:aP),k1 O1 cA=some r->Ax Γ N f123 (.q [[some (137,2)],[none]] (D.iK [D.fr 137 2 (r.1.map aQ.c),D.bool r.2])) [1,1,1,1,1,1,1] ⟨[(1,D.str aa),(2,D.str cN),(10,D.acc 0),(11,D.bool O1)],[Ob.row .uq 137 2 (cA.map aQ.c)]⟩)(hm1:aC.length<=maxLen):∀(rest:aP) (i1:Nat) (vY:Bool) (bO:aP),aC.drop i1=rest->jR aC aa cN k1 rest i1 vY bO=some r->Ar Γ N f123 (.q [[some (137,2)],[none]] (D.iK [D.fr 137 2 (r.1.map aQ.c),D.bool r.2])) [1,1,1,1,1,1,0,1,0] (rest.length+1) (rY aC aa cN vY (bO.map aQ.c) (i1:Int)):=by
 intro rest
 induction rest with
 |nil=>
  intro i1 vY bO bA h;rw[jR]at h;refine aR fun N1 cW cL=>?_
  exact((aU.ge aQ.c bA).a [.hl 0 [1,2,10,11] [0]]).ex hΓ cW (eR vY bO h)
 |cons bh cV ih1=>
  intro i1 vY bO bA h;rw[jR]at h;refine aR fun N1 cW cL=>?_
  have lC:=((aU.lt aQ.c bA).l (bI aQ.c 2 (dc bA) rfl))
  obtain⟨h58,h⟩|⟨h58,h⟩:=aM h
  ·have kw:=(lC.r 5 h58)
   obtain⟨h59,h⟩|⟨h59,h⟩:=aM h
   ·obtain⟨h60,h⟩:=bQ h;obtain⟨h61,h⟩:=bQ h;exact((((kw.b h59).w (br h60)).w (br h61)).a [.cn [1,2,10,11,42,43,44] [5]]).cs hΓ cL (rY aC aa cN true (((bO.map aQ.c)++([[D.str aa,D.str cN]]))++([[D.str bh.var,D.str bh.value]])) (IntKind.i64.wrap ((i1:Int)+1))) (by first| (simp only[iS bA hm1,mA]<;>rfl)| (simp only[iS bA hm1,mA,aG.c,aQ.c,aH.c,Action.c,aJ.c,aX.c,dU.c,ai.c,Node.c,aN.c,dW.c]<;>rfl)) (ih1 (i1+1) true ((bO++([(⟨aa,cN⟩:aQ)]))++([bh])) (dn bA) h)
   ·obtain⟨h62,h⟩:=bQ h;exact(((kw.b h59).w (br h62)).a [.cn [1,2,10,11,42,43,44] [3]]).cs hΓ cL (rY aC aa cN vY ((bO.map aQ.c)++([[D.str bh.var,D.str bh.value]])) (IntKind.i64.wrap ((i1:Int)+1))) (by first| (simp only[iS bA hm1,mA]<;>rfl)| (simp only[iS bA hm1,mA,aG.c,aQ.c,aH.c,Action.c,aJ.c,aX.c,dU.c,ai.c,Node.c,aN.c,dW.c]<;>rfl)) (ih1 (i1+1) vY (bO++([bh])) (dn bA) h)
  ·obtain⟨h63,h⟩:=bQ h;exact((((lC.r 5 h58).F 1).w (br h63)).a [.cn [1,2,10,11,42,43,44] [3]]).cs hΓ cL (rY aC aa cN vY ((bO.map aQ.c)++([[D.str bh.var,D.str bh.value]])) (IntKind.i64.wrap ((i1:Int)+1))) (by first| (simp only[iS bA hm1,mA]<;>rfl)| (simp only[iS bA hm1,mA,aG.c,aQ.c,aH.c,Action.c,aJ.c,aX.c,dU.c,ai.c,Node.c,aN.c,dW.c]<;>rfl)) (ih1 (i1+1) vY (bO++([bh])) (dn bA) h)
theorem EH{aC:aP}{aa:Bytes}{cN:Bytes}{r:aP×Bool}(h:qf aC aa cN=some r):Good prog 123 [D.sl (aC.map aQ.c),D.str aa,D.str cN] (D.iK [D.fr 137 2 (r.1.map aQ.c),D.bool r.2]):=by
 refine gd func123 [[some (137,2)],[none]] 76 fun hr Γ hΓ=>?_
 rw[qf]at h;obtain⟨y1,h2,h⟩:=aB h;obtain⟨h3,h⟩|⟨h3,h⟩:=aM h
 ·cases h;exact(((aU.g (l9 h2)).r 4 h3).T 5).ret hΓ
 ·obtain⟨y4,h5,h⟩:=aB h;have rR:=((((aU.g (l9 h2)).r 2 h3).g (mK h5)).r 2 h3)
  obtain⟨h6,h⟩|⟨h6,h⟩:=aM h
  ·cases h;exact((rR.r 4 h6).T 1).ret hΓ
  ·obtain⟨y7,h8,h⟩:=aB h;have vT:=(((rR.r 2 h6).g (eM h8)).r 2 h6)
   obtain⟨h9,h⟩|⟨h9,h⟩:=aM h
   ·cases h;exact(vT.b h9).ret hΓ
   ·obtain⟨FE,h11,h⟩:=aB h;have yl:=((vT.b h9).g (sG h11))
    obtain⟨h12,h⟩|⟨h12,h⟩:=aM h
    ·obtain⟨h13,h⟩|⟨h13,h⟩:=aM h
     ·cases h;exact((yl.b h12).b h13).ret hΓ
     ·obtain⟨Im,h15,h⟩:=aB h;cases h;exact(((yl.b h12).b h13).g (ua h15)).ret hΓ
    ·obtain⟨h16,h⟩|⟨h16,h⟩:=aM h
     ·cases h;exact((yl.b h12).b h16).ret hΓ
     ·refine(((yl.b h12).b h16).a [.Jk 10,.cn [1,2,10,11,42,43,44] [0]]).lp hΓ (FT hΓ (fun O1 cA h=>?_) (by have:=(j0.sl (hr _ (aD (i:=0) rfl))).1;simpa using this) aC 0 false ([]:aP) rfl h);obtain⟨h64,h⟩|⟨h64,h⟩:=aM h
      ·obtain⟨h65,h⟩:=bQ h;cases h;exact((aU.b h64).w (br h65)).rts hΓ (D.iK [D.fr 137 2 ((cA.map aQ.c)++([[D.str aa,D.str cN]])),D.bool true]) (by first|rfl| (simp only[mA]<;>rfl)| (simp only[cC,mA]<;>rfl))
      ·cases h;exact(aU.b h64).ret hΓ
def iO(aC:aG)(aa:aG)(k1:aP->Option (aP×Bool)):aF->Nat->aP->Option (aP×Bool)
 | [],i1,bZ=>(k1 bZ)
 |bh::cV,i1,bZ=>((ez bh).bind fun VU=>(bif VU then((iM aa.args (i1:Int)).bind fun x83=>(bif !((bh:Bytes)==x83)then(some ([],false))else(iO aC aa k1 cV (i1+1) bZ)))else((iM aa.args (i1:Int)).bind fun x86=>((qf bZ bh x86).bind fun XR=>(bif !(XR.2)then(some ([],false))else(iO aC aa k1 cV (i1+1) XR.1))))))
def jU(aC:aG)(aa:aG)(cN:aP):Option (aP×Bool):=((gH aC).bind fun y1=>(bif !(y1)then(some ([],false))else((oR aa).bind fun y4=>(bif !(y4)then(some ([],false))else((jT cN).bind fun y7=>(bif !(y7)then(some ([],false))else(bif !((aC.rel:Bytes)==aa.rel)then(some ([],false))else(bif (((aC.args.map tx).length:Int):Int) != ((aa.args.map tx).length:Int)then(some ([],false))else((nK cN).bind fun Qo=>(iO aC aa (fun(cA:aP)=>(some (cA,true))) aC.args 0 Qo))))))))))
def DD(aC:aG)(aa:aG)(W0:List aL)(dQ:Int):St:=⟨[(4,D.ptr 0 0),(8,D.acc 1),(45,D.sl (aC.args.map tx)),(46,D.int .i64 ((aC.args.map tx).length:Int)),(47,D.int .i64 dQ)],[Ob.box (aG.c aa),Ob.row .uq 137 2 W0]⟩
theorem Bk(hΓ:Γ.nt=77){aC:aG}{aa:aG}{r:aP×Bool}{k1:aP->Option (aP×Bool)}(eR:∀(cA:aP),k1 cA=some r->Ax Γ N f184 (.q [[some (137,2)],[none]] (D.iK [D.fr 137 2 (r.1.map aQ.c),D.bool r.2])) [1,1,1,1] ⟨[(8,D.acc 0)],[Ob.row .uq 137 2 (cA.map aQ.c)]⟩)(hm1:aC.args.length<=maxLen):∀(rest:aF) (i1:Nat) (bZ:aP),aC.args.drop i1=rest->iO aC aa k1 rest i1 bZ=some r->Ar Γ N f184 (.q [[some (137,2)],[none]] (D.iK [D.fr 137 2 (r.1.map aQ.c),D.bool r.2])) [1,1,1,0,1,0] (rest.length+1) (DD aC aa (bZ.map aQ.c) (i1:Int)):=by
 intro rest
 induction rest with
 |nil=>
  intro i1 bZ bA h;rw[iO]at h;refine aR fun N1 cW cL=>?_
  exact((aU.ge tx bA).a [.hl 0 [8] [1]]).ex hΓ cW (eR bZ h)
 |cons bh cV ih1=>
  intro i1 bZ bA h;rw[iO]at h;refine aR fun N1 cW cL=>?_
  obtain⟨VU,h81,h⟩:=aB h;have kw:=(((aU.lt tx bA).l (bI tx 1 (dc bA) rfl)).g (eM h81))
  obtain⟨h82,h⟩|⟨h82,h⟩:=aM h
  ·obtain⟨x83,h84,h⟩:=aB h;have rR:=((kw.b h82).l (iN tx 1 h84 rfl))
   obtain⟨h85,h⟩|⟨h85,h⟩:=aM h
   ·cases h;exact(rR.b h85).ret hΓ
   ·exact((rR.b h85).a [.cn [4,8,45,46,47] [0,1]]).ct hΓ cL (iS bA hm1) (ih1 (i1+1) bZ (dn bA) h)
  ·obtain⟨x86,h87,h⟩:=aB h;obtain⟨XR,h89,h⟩:=aB h;have vT:=(((kw.b h82).l (iN tx 1 h87 rfl)).g (EH h89))
   obtain⟨h90,h⟩|⟨h90,h⟩:=aM h
   ·cases h;exact(vT.b h90).ret hΓ
   ·exact((vT.b h90).a [.cn [4,8,45,46,47] [0,2]]).ct hΓ cL (iS bA hm1) (ih1 (i1+1) XR.1 (dn bA) h)
theorem uY{aC:aG}{aa:aG}{cN:aP}{r:aP×Bool}(h:jU aC aa cN=some r):Good prog 184 [D.agg (aG.c aC),D.agg (aG.c aa),D.sl (cN.map aQ.c)] (D.iK [D.fr 137 2 (r.1.map aQ.c),D.bool r.2]):=by
 refine gd func184 [[some (137,2)],[none]] 77 fun hr Γ hΓ=>?_
 rw[jU]at h;obtain⟨y1,h2,h⟩:=aB h;obtain⟨h3,h⟩|⟨h3,h⟩:=aM h
 ·cases h;exact(((aU.g (fF h2)).r 4 h3).T 19).ret hΓ
 ·obtain⟨y4,h5,h⟩:=aB h;have yl:=((((aU.g (fF h2)).r 2 h3).g (xJ h5)).r 2 h3)
  obtain⟨h6,h⟩|⟨h6,h⟩:=aM h
  ·cases h;exact((yl.r 4 h6).T 15).ret hΓ
  ·obtain⟨y7,h8,h⟩:=aB h;have E6:=(((yl.r 2 h6).g (l9 h8)).r 2 h6)
   obtain⟨h9,h⟩|⟨h9,h⟩:=aM h
   ·cases h;exact((E6.r 6 h9).T 9).ret hΓ
   ·have Je:=(E6.r 6 h9)
    obtain⟨h10,h⟩|⟨h10,h⟩:=aM h
    ·cases h;exact((Je.r 8 h10).T 1).ret hΓ
    ·have Ca:=(Je.r 8 h10)
     obtain⟨h11,h⟩|⟨h11,h⟩:=aM h
     ·cases h;exact(Ca.b h11).ret hΓ
     ·obtain⟨Qo,h13,h⟩:=aB h;refine(((Ca.b h11).g (ua h13)).a [.cn [4,8,45,46,47] [1,2]]).lp hΓ (Bk hΓ (fun cA h=>?_) (by have:=(j0.sl (j0.agg (hr _ (aD (i:=0) rfl)) (.sl (aC.args.map tx)) (by simp))).1;simpa using this) aC.args 0 Qo rfl h);cases h;exact aU.ret hΓ
def fQ(aC:aG)(aa:aP)(cN:aO)(k1:aO->Option aO):aO->Nat->aO->Option aO
 | [],i1,bZ=>(k1 bZ)
 |bh::cV,i1,bZ=>((jU aC bh aa).bind fun VC=>(bif VC.2 then((gz bh).bind fun FB=>(bif room ((bZ.map aG.c).length+([[D.str FB.rel,D.sl (FB.args.map tx)]]).length) 40 then(fQ aC aa cN k1 cV (i1+1) (bZ++([FB])))else none))else(fQ aC aa cN k1 cV (i1+1) bZ)))
def gW(aC:aG)(aa:aP)(cN:aO):Option aO:=(fQ aC aa cN (fun(cA:aO)=>(some cA)) cN 0 ([]:aO))
def tS(aC:aG)(aa:aP)(cN:aO)(W0:List aL)(dQ:Int):St:=⟨[(1,D.sl (aa.map aQ.c)),(3,D.ptr 0 0),(7,D.acc 1),(12,D.sl (cN.map aG.c)),(13,D.int .i64 ((cN.map aG.c).length:Int)),(14,D.int .i64 dQ)],[Ob.box (aG.c aC),Ob.row .uq 37 2 W0]⟩
theorem yb(hΓ:Γ.nt=33){aC:aG}{aa:aP}{cN:aO}{r:aO}{k1:aO->Option aO}(eR:∀(cA:aO),k1 cA=some r->Ax Γ N f168 (.q [[some (37,2)]] (D.fr 37 2 (r.map aG.c))) [1,1,1] ⟨[(7,D.acc 0)],[Ob.row .uq 37 2 (cA.map aG.c)]⟩)(hm1:cN.length<=maxLen):∀(rest:aO) (i1:Nat) (bZ:aO),cN.drop i1=rest->fQ aC aa cN k1 rest i1 bZ=some r->Ar Γ N f168 (.q [[some (37,2)]] (D.fr 37 2 (r.map aG.c))) [1,1,0,1,0] (rest.length+1) (tS aC aa cN (bZ.map aG.c) (i1:Int)):=by
 intro rest
 induction rest with
 |nil=>
  intro i1 bZ bA h;rw[fQ]at h;refine aR fun N1 cW cL=>?_
  exact((aU.ge aG.c bA).a [.hl 0 [7] [1]]).ex hΓ cW (eR bZ h)
 |cons bh cV ih1=>
  intro i1 bZ bA h;rw[fQ]at h;refine aR fun N1 cW cL=>?_
  obtain⟨VC,h43,h⟩:=aB h;have ig:=(((aU.lt aG.c bA).l (bI aG.c 2 (dc bA) rfl)).g (uY h43))
  obtain⟨h44,h⟩|⟨h44,h⟩:=aM h
  ·obtain⟨FB,h46,h⟩:=aB h;obtain⟨h47,h⟩:=bQ h;exact((((ig.b h44).g (rN h46)).w (br h47)).a [.cn [1,3,7,12,13,14] [0,6]]).cs hΓ cL (tS aC aa cN ((bZ.map aG.c)++([[D.str FB.rel,D.sl (FB.args.map tx)]])) (IntKind.i64.wrap ((i1:Int)+1))) (by first| (simp only[iS bA hm1,mA]<;>rfl)| (simp only[iS bA hm1,mA,aG.c,aQ.c,aH.c,Action.c,aJ.c,aX.c,dU.c,ai.c,Node.c,aN.c,dW.c]<;>rfl)) (ih1 (i1+1) (bZ++([FB])) (dn bA) h)
  ·exact((ig.b h44).a [.cn [1,3,7,12,13,14] [0,1]]).ct hΓ cL (iS bA hm1) (ih1 (i1+1) bZ (dn bA) h)
theorem l6{aC:aG}{aa:aP}{cN:aO}{r:aO}(h:gW aC aa cN=some r):Good prog 168 [D.agg (aG.c aC),D.sl (aa.map aQ.c),D.sl (cN.map aG.c)] (D.fr 37 2 (r.map aG.c)):=by
 refine gd func168 [[some (37,2)]] 33 fun hr Γ hΓ=>?_
 rw[gW]at h;refine(aU.a [.Jk 7,.cn [1,3,7,12,13,14] [0,1]]).lp hΓ (yb hΓ (fun cA h=>?_) (by have:=(j0.sl (hr _ (aD (i:=2) rfl))).1;simpa using this) cN 0 ([]:aO) rfl h);have h:=aK h;subst h;exact aU.ret hΓ
def lI(aC:aN)(k1:bJ->Option af):Nat->Int->bJ->Option af
 |0,_,_=>none
 |n1+1,th,bZ=>(bif room ((bZ.map mR).length+([[D.int .i64 th]]).length) 8 then((iM aC.nodes th).bind fun x19=>(bif decide ((x19.parent:Int)<1)then(k1 (bZ++([th])))else(bif decide ((x19.parent:Int)>=th)then(k1 (bZ++([th])))else(lI aC k1 n1 x19.parent (bZ++([th]))))))else none)
def jV(aC:aN)(oO:bJ)(k2:af->Option af):Nat->Int->af->Option af
 |0,_,_=>none
 |n2+1,IT,Jx=>(bif decide ((IT:Int)>=0)then((iM oO IT).bind fun x72=>((iM aC.nodes x72).bind fun x74=>((gy x74.cond).bind fun S4=>(bif room ((Jx.map aH.c).length+([[D.int .i64 S4.kind,D.str S4.pat.rel,D.sl (S4.pat.args.map tx),D.str S4.left,D.str S4.right]]).length) 80 then(jV aC oO k2 n2 (IntKind.i64.wrap (IT-1)) (Jx++([S4])))else none))))else(k2 Jx))
def qg(aC:aN)(aa:Int):Option af:=(bif decide ((aa:Int)<1)then(some ([]))else(bif decide ((aa:Int)>=((aC.nodes.map Node.c).length:Int))then(some ([]))else(lI aC (fun(oO:bJ)=>(jV aC oO (fun(IR:af)=>(some IR)) fuel (IntKind.i64.wrap (((oO.map mR).length:Int)-1)) ([]:af))) fuel aa ([]:bJ))))
def zG(aC:aN)(th:Int)(W1:List aL):St:=⟨[(1,D.int .i64 th),(2,D.ptr 0 0),(5,D.acc 1)],[Ob.box (aN.c aC),Ob.row .uq 3 1 W1]⟩
theorem FZ(hΓ:Γ.nt=57){aC:aN}{r:af}{k1:bJ->Option af}(eR:∀(oO:bJ),k1 oO=some r->Ax Γ N f17 (.q [[some (47,5)]] (D.fr 47 5 (r.map aH.c))) [1,1,1,1] ⟨[(2,D.ptr 0 0),(5,D.acc 1)],[Ob.box (aN.c aC),Ob.row .uq 3 1 (oO.map mR)]⟩):∀(n1:Nat) (th:Int) (bZ:bJ),lI aC k1 n1 th bZ=some r->Ar Γ N f17 (.q [[some (47,5)]] (D.fr 47 5 (r.map aH.c))) [1,1,1,0,0] n1 (zG aC th (bZ.map mR)):=by
 intro n
 induction n with
 |zero=>intro th bZ h;simp[lI]at h
 |succ n1 ih1=>
  intro th bZ h;rw[lI]at h;refine aR fun N1 cW cL=>?_
  obtain⟨h18,h⟩:=bQ h;obtain⟨x19,h20,h⟩:=aB h;have lC:=((aU.w (br h18)).l (iN Node.c 8 h20 rfl))
  obtain⟨h21,h⟩|⟨h21,h⟩:=aM h
  ·exact(((lC.r 4 h21).T 1).a [.hl 0 [2,5] [0,3]]).exs hΓ cW ⟨[(2,D.ptr 0 0),(5,D.acc 1)],[Ob.box (aN.c aC),Ob.row .uq 3 1 ((bZ.map mR)++([[D.int .i64 th]]))]⟩ (by first| (simp only[mA]<;>rfl)| (simp only[mA,aG.c,aQ.c,aH.c,Action.c,aJ.c,aX.c,dU.c,ai.c,Node.c,aN.c,dW.c]<;>rfl)) (eR (bZ++([th])) h)
  ·have kw:=(lC.r 4 h21)
   obtain⟨h22,h⟩|⟨h22,h⟩:=aM h
   ·exact((kw.b h22).a [.hl 0 [2,5] [0,3]]).exs hΓ cW ⟨[(2,D.ptr 0 0),(5,D.acc 1)],[Ob.box (aN.c aC),Ob.row .uq 3 1 ((bZ.map mR)++([[D.int .i64 th]]))]⟩ (by first| (simp only[mA]<;>rfl)| (simp only[mA,aG.c,aQ.c,aH.c,Action.c,aJ.c,aX.c,dU.c,ai.c,Node.c,aN.c,dW.c]<;>rfl)) (eR (bZ++([th])) h)
   ·exact((kw.b h22).a [.cn [1,2,5] [0,3]]).cs hΓ cL (zG aC x19.parent ((bZ.map mR)++([[D.int .i64 th]]))) (by first| (simp only[mA]<;>rfl)| (simp only[mA,aG.c,aQ.c,aH.c,Action.c,aJ.c,aX.c,dU.c,ai.c,Node.c,aN.c,dW.c]<;>rfl)) (ih1 x19.parent (bZ++([th])) h)
def zH(aC:aN)(oO:bJ)(IT:Int)(W1:List aL):St:=⟨[(2,D.ptr 0 0),(5,D.acc 1),(7,D.acc 2),(8,D.int .i64 IT)],[Ob.box (aN.c aC),Ob.row .uq 3 1 (oO.map mR),Ob.row .uq 47 5 W1]⟩
theorem Fa(hΓ:Γ.nt=57){aC:aN}{oO:bJ}{r:af}{k2:af->Option af}(Ak:∀(IR:af),k2 IR=some r->Ax Γ N f17 (.q [[some (47,5)]] (D.fr 47 5 (r.map aH.c))) [1,1,1,1,1,1] ⟨[(7,D.acc 0)],[Ob.row .uq 47 5 (IR.map aH.c)]⟩):∀(n2:Nat) (IT:Int) (Jx:af),jV aC oO k2 n2 IT Jx=some r->Ar Γ N f17 (.q [[some (47,5)]] (D.fr 47 5 (r.map aH.c))) [1,1,1,1,1,0,1,0] n2 (zH aC oO IT (Jx.map aH.c)):=by
 intro n
 induction n with
 |zero=>intro IT Jx h;simp[jV]at h
 |succ n2 ih2=>
  intro IT Jx h;rw[jV]at h;refine aR fun N2 um sL=>?_
  obtain⟨h65,h⟩|⟨h65,h⟩:=aM h
  ·obtain⟨x72,h73,h⟩:=aB h;obtain⟨x74,h75,h⟩:=aB h;obtain⟨S4,h77,h⟩:=aB h;obtain⟨h78,h⟩:=bQ h;exact((((((((aU.b h65).a [.n2 [0,1,2,3,4,5,6,7,8,9,10,11,12,13] [0,1,2,3,4,5,6,7,8,9,10,11,12,13] 11 12 [0] [3]]).i (fc mR 1 h73)).o 1 1 .uq (cH mR (dR h73))).l (iN Node.c 8 h75 rfl)).g (mB h77)).w (br h78)).a [.cn [2,5,7,8] [0,1,5]]).cs hΓ sL (zH aC oO (IntKind.i64.wrap (IT-1)) ((Jx.map aH.c)++([[D.int .i64 S4.kind,D.str S4.pat.rel,D.sl (S4.pat.args.map tx),D.str S4.left,D.str S4.right]]))) (by first| (simp only[mA]<;>rfl)| (simp only[mA,aG.c,aQ.c,aH.c,Action.c,aJ.c,aX.c,dU.c,ai.c,Node.c,aN.c,dW.c]<;>rfl)) (ih2 (IntKind.i64.wrap (IT-1)) (Jx++([S4])) h)
  ·exact((aU.b h65).a [.hl 0 [7] [2]]).ex hΓ um (Ak Jx h)
theorem pY{aC:aN}{aa:Int}{r:af}(h:qg aC aa=some r):Good prog 17 [D.agg (aN.c aC),D.int .i64 aa] (D.fr 47 5 (r.map aH.c)):=by
 refine gd func17 [[some (47,5)]] 57 fun hr Γ hΓ=>?_
 rw[qg]at h;obtain⟨h1,h⟩|⟨h1,h⟩:=aM h
 ·cases h;exact((aU.r 6 h1).T 1).ret hΓ
 ·have rR:=(aU.r 6 h1)
  obtain⟨h2,h⟩|⟨h2,h⟩:=aM h
  ·cases h;exact(rR.b h2).ret hΓ
  ·refine((rR.b h2).a [.Jk 5,.cn [1,2,5] [0,1]]).lp hΓ (FZ hΓ (fun oO h=>?_) fuel aa ([]:bJ) h);refine(aU.a [.Jk 7,.cn [2,5,7,8] [0,1,2]]).lp hΓ (Fa hΓ (fun IR h=>?_) fuel (IntKind.i64.wrap (((oO.map mR).length:Int)-1)) ([]:af) h);have h:=aK h;subst h;exact aU.ret hΓ
def sR(aC:aH):Option Bool:=((nA aC).bind fun y1=>(bif y1 then(some (decide ((aC.kind:Int)>=3)))else(some false)))
theorem xK{aC:aH}{r:Bool}(h:sR aC=some r):Good prog 259 [D.agg (aH.c aC)] (D.bool r):=by
 refine gd func259 [[none]] 10 fun hr Γ hΓ=>?_
 rw[sR]at h;obtain⟨y1,h2,h⟩:=aB h;obtain⟨h3,h⟩|⟨h3,h⟩:=aM h
 ·cases h;exact((aU.g (j9 h2)).r 4 h3).ret hΓ
 ·have h:=aK h;subst h;exact((aU.g (j9 h2)).r 4 h3).ret hΓ
def kf(aC:Bytes):Option (Int×Bool):=(bif decide (((aC.length:Int):Int)<1)then(some (0,false))else(bif decide (((aC.length:Int):Int)>4)then(some (0,false))else((xY aC).bind fun y3=>(bif y3.2 then(some (0,false))else(bif decide ((y3.1:Int)<0)then(some (0,false))else(bif decide ((y3.1:Int)>9999)then(some (0,false))else((fO y3.1).bind fun y8=>(bif !((y8:Bytes)==aC)then(some (0,false))else(some (y3.1,true))))))))))
theorem oB{aC:Bytes}{r:Int×Bool}(h:kf aC=some r):Good prog 230 [D.str aC] (D.iK [D.int .i64 r.1,D.bool r.2]):=by
 refine gd func230 [[none],[none]] 36 fun hr Γ hΓ=>?_
 rw[kf]at h;obtain⟨h1,h⟩|⟨h1,h⟩:=aM h
 ·cases h;exact((aU.r 4 h1).T 1).ret hΓ
 ·have oa:=(aU.r 4 h1)
  obtain⟨h2,h⟩|⟨h2,h⟩:=aM h
  ·cases h;exact(oa.b h2).ret hΓ
  ·obtain⟨y3,h4,h⟩:=aB h;have ig:=((oa.b h2).g (Dp h4))
   obtain⟨h5,h⟩|⟨h5,h⟩:=aM h
   ·cases h;exact((ig.r 3 h5).T 9).ret hΓ
   ·have lC:=(ig.r 3 h5)
    obtain⟨h6,h⟩|⟨h6,h⟩:=aM h
    ·cases h;exact((lC.r 3 h6).T 6).ret hΓ
    ·have kw:=(lC.r 3 h6)
     obtain⟨h7,h⟩|⟨h7,h⟩:=aM h
     ·cases h;exact((kw.r 5 h7).T 1).ret hΓ
     ·obtain⟨y8,h9,h⟩:=aB h;have rR:=(((kw.r 2 h7).g (l8 h9)).r 3 h7)
      obtain⟨h10,h⟩|⟨h10,h⟩:=aM h
      ·cases h;exact(rR.b h10).ret hΓ
      ·cases h;exact(rR.b h10).ret hΓ
def oy(aC:aH)(aa:aP):Option Bool:=((sR aC).bind fun y1=>(bif !(y1)then(some false)else((jT aa).bind fun y4=>(bif !(y4)then(some false)else((nT aa aC.left).bind fun y7=>((nT aa aC.right).bind fun y9=>(bif !(y7.2)then(some false)else(bif !(y9.2)then(some false)else(bif (aC.kind:Int)==3 then(some ((y7.1:Bytes)==y9.1))else(bif (aC.kind:Int)==4 then(some (!((y7.1:Bytes)==y9.1)))else((kf y7.1).bind fun XP=>((kf y9.1).bind fun XQ=>(bif XP.2 then(bif XQ.2 then(some (decide ((XP.1:Int)<XQ.1)))else(some false))else(some false))))))))))))))
theorem B0{aC:aH}{aa:aP}{r:Bool}(h:oy aC aa=some r):Good prog 244 [D.agg (aH.c aC),D.sl (aa.map aQ.c)] (D.bool r):=by
 refine gd func244 [[none]] 70 fun hr Γ hΓ=>?_
 rw[oy]at h;obtain⟨y1,h2,h⟩:=aB h;obtain⟨h3,h⟩|⟨h3,h⟩:=aM h
 ·have h:=aK h;subst h;exact(((aU.g (xK h2)).r 4 h3).T 1).ret hΓ
 ·obtain⟨y4,h5,h⟩:=aB h;have oa:=((((aU.g (xK h2)).r 2 h3).g (l9 h5)).r 2 h3)
  obtain⟨h6,h⟩|⟨h6,h⟩:=aM h
  ·have h:=aK h;subst h;exact(oa.b h6).ret hΓ
  ·obtain⟨y7,h8,h⟩:=aB h;obtain⟨y9,h10,h⟩:=aB h;have ig:=(((oa.b h6).g (sG h8)).g (sG h10))
   obtain⟨h11,h⟩|⟨h11,h⟩:=aM h
   ·have h:=aK h;subst h;exact((ig.r 3 h11).T 1).ret hΓ
   ·have lC:=(ig.r 3 h11)
    obtain⟨h12,h⟩|⟨h12,h⟩:=aM h
    ·have h:=aK h;subst h;exact(lC.b h12).ret hΓ
    ·obtain⟨h13,h⟩|⟨h13,h⟩:=aM h
     ·cases h;exact((lC.b h12).b h13).ret hΓ
     ·have kw:=((lC.b h12).b h13)
      obtain⟨h14,h⟩|⟨h14,h⟩:=aM h
      ·cases h;exact(kw.b h14).ret hΓ
      ·obtain⟨XP,h16,h⟩:=aB h;obtain⟨XQ,h18,h⟩:=aB h;have rR:=(((kw.b h14).g (oB h16)).g (oB h18))
       obtain⟨h19,h⟩|⟨h19,h⟩:=aM h
       ·have vT:=(rR.r 2 h19)
        obtain⟨h20,h⟩|⟨h20,h⟩:=aM h
        ·cases h;exact(vT.r 4 h20).ret hΓ
        ·have h:=aK h;subst h;exact(vT.r 4 h20).ret hΓ
       ·have h:=aK h;subst h;exact((rR.r 2 h19).F 4).ret hΓ
def ou(aC:aH)(aa:aP)(cN:aO):Option Bool:=((nA aC).bind fun y1=>(bif !(y1)then(some false)else((jT aa).bind fun y4=>(bif !(y4)then(some false)else(bif (aC.kind:Int)==1 then((gW aC.pat aa cN).bind fun y8=>(some (decide ((((y8.map aG.c).length:Int):Int)>0))))else(bif (aC.kind:Int)==2 then((gW aC.pat aa cN).bind fun Gs=>(some ((((Gs.map aG.c).length:Int):Int)==0)))else((oy aC aa).bind fun sy=>(some sy))))))))
theorem Az{aC:aH}{aa:aP}{cN:aO}{r:Bool}(h:ou aC aa cN=some r):Good prog 227 [D.agg (aH.c aC),D.sl (aa.map aQ.c),D.sl (cN.map aG.c)] (D.bool r):=by
 refine gd func227 [[none]] 38 fun hr Γ hΓ=>?_
 rw[ou]at h;obtain⟨y1,h2,h⟩:=aB h;obtain⟨h3,h⟩|⟨h3,h⟩:=aM h
 ·have h:=aK h;subst h;exact(((aU.g (j9 h2)).r 4 h3).T 1).ret hΓ
 ·obtain⟨y4,h5,h⟩:=aB h;have oa:=((((aU.g (j9 h2)).r 2 h3).g (l9 h5)).r 2 h3)
  obtain⟨h6,h⟩|⟨h6,h⟩:=aM h
  ·have h:=aK h;subst h;exact(oa.b h6).ret hΓ
  ·obtain⟨h7,h⟩|⟨h7,h⟩:=aM h
   ·obtain⟨y8,h9,h⟩:=aB h;cases h;exact(((oa.b h6).b h7).g (l6 h9)).ret hΓ
   ·have ig:=((oa.b h6).b h7)
    obtain⟨h10,h⟩|⟨h10,h⟩:=aM h
    ·obtain⟨Gs,h12,h⟩:=aB h;cases h;exact((ig.b h10).g (l6 h12)).ret hΓ
    ·obtain⟨sy,h14,h⟩:=aB h;have h:=aK h;subst h;exact((ig.b h10).g (B0 h14)).ret hΓ
def jF(aC:af)(aa:aO)(i2:Nat)(bO:bE)(jM:aX)(i1:Nat)(bh:aH)(k3:bE->Option bE):aO->Nat->bE->Option bE
 | [],i3,vv=>(k3 vv)
 |Nv::LF,i3,vv=>((jU bh.pat Nv jM.bind).bind fun LH=>(bif LH.2 then((lJ jM.facts).bind fun LI=>((gz Nv).bind fun Gm=>(bif room ((LI.map aG.c).length+([[D.str Gm.rel,D.sl (Gm.args.map tx)]]).length) 40 then(bif room ((vv.map aX.c).length+([[D.sl ((LI.map aG.c)++([[D.str Gm.rel,D.sl (Gm.args.map tx)]])),D.sl (LH.1.map aQ.c)]]).length) 48 then(jF aC aa i2 bO jM i1 bh k3 LF (i3+1) (vv++([(⟨LI++([Gm]),LH.1⟩:aX)])))else none)else none)))else(jF aC aa i2 bO jM i1 bh k3 LF (i3+1) vv)))
def fB(aC:af)(aa:aO)(bO:bE)(i1:Nat)(bh:aH)(k2:bE->Option bE):bE->Nat->bE->Option bE
 | [],i2,j5=>(k2 j5)
 |jM::uO,i2,j5=>(bif (bh.kind:Int) != 1 then((ou bh jM.bind aa).bind fun Yd=>(bif Yd then(bif room ((j5.map aX.c).length+([[D.sl (jM.facts.map aG.c),D.sl (jM.bind.map aQ.c)]]).length) 48 then(fB aC aa bO i1 bh k2 uO (i2+1) (j5++([jM])))else none)else(fB aC aa bO i1 bh k2 uO (i2+1) j5)))else(bif decide (aa.length<=maxLen)then(jF aC aa i2 bO jM i1 bh (fun(Ri:bE)=>(fB aC aa bO i1 bh k2 uO (i2+1) Ri)) aa 0 j5)else none))
def jE(aC:af)(aa:aO)(k1:bE->Option bE):af->Nat->bE->Option bE
 | [],i1,bO=>(k1 bO)
 |bh::cV,i1,bO=>(bif decide (bO.length<=maxLen)then(fB aC aa bO i1 bh (fun(IR:bE)=>(jE aC aa k1 cV (i1+1) IR)) bO 0 ([]:bE))else none)
def qO(aC:af)(aa:aO):Option bE:=(jE aC aa (fun(cA:bE)=>(some cA)) aC 0 ([(⟨[],[]⟩:aX)]))
def xP(aC:af)(aa:aO)(W0:List aL)(dQ:Int):St:=⟨[(1,D.sl (aa.map aG.c)),(5,D.acc 0),(17,D.sl (aC.map aH.c)),(18,D.int .i64 ((aC.map aH.c).length:Int)),(19,D.int .i64 dQ)],[Ob.row .uq 55 2 W0]⟩
def xQ(aC:af)(aa:aO)(bO:bE)(i1:Nat)(bh:aH)(W0:List aL)(a5L:Nat)(dQ:Int):St:=⟨[(1,D.sl (aa.map aG.c)),(7,D.ptr 0 0),(8,D.acc 1),(17,D.sl (aC.map aH.c)),(18,D.int .i64 ((aC.map aH.c).length:Int)),(19,D.int .i64 (i1:Int)),(23,D.acc 2),(24,D.int .i64 ((bO.map aX.c).length:Int)),(25,D.int .i64 dQ)],[Ob.box [D.int .i64 bh.kind,D.str bh.pat.rel,D.sl (bh.pat.args.map tx),D.str bh.left,D.str bh.right],Ob.row .uq 55 2 W0,Ob.row (.mv a5L) 55 2 (bO.map aX.c)]⟩
def xR(aC:af)(aa:aO)(i2:Nat)(bO:bE)(jM:aX)(i1:Nat)(bh:aH)(W0:List aL)(dQ:Int):St:=⟨[(1,D.sl (aa.map aG.c)),(7,D.ptr 0 0),(8,D.acc 1),(10,D.ptr 2 0),(17,D.sl (aC.map aH.c)),(18,D.int .i64 ((aC.map aH.c).length:Int)),(19,D.int .i64 (i1:Int)),(23,D.acc 3),(24,D.int .i64 ((bO.map aX.c).length:Int)),(25,D.int .i64 (i2:Int)),(41,D.sl (aa.map aG.c)),(42,D.int .i64 ((aa.map aG.c).length:Int)),(43,D.int .i64 dQ)],[Ob.box [D.int .i64 bh.kind,D.str bh.pat.rel,D.sl (bh.pat.args.map tx),D.str bh.left,D.str bh.right],Ob.row .uq 55 2 W0,Ob.box [D.acc 4,D.acc 5],Ob.row (.mv (i2+1)) 55 2 (bO.map aX.c),Ob.tk (jM.facts.map aG.c),Ob.tk (jM.bind.map aQ.c)]⟩
theorem DQ(hΓ:Γ.nt=74){aC:af}{aa:aO}{i2:Nat}{bO:bE}{jM:aX}{i1:Nat}{bh:aH}{r:bE}{k3:bE->Option bE}(W8:∀(Ri:bE),k3 Ri=some r->Ax Γ N f169 (.q [[some (55,2)]] (D.fr 55 2 (r.map aX.c))) [1,1,0,1,0,0,1,1,0,0,1,1,0,1,0,0,1,1,1] ⟨[(1,D.sl (aa.map aG.c)),(7,D.ptr 0 0),(8,D.acc 1),(17,D.sl (aC.map aH.c)),(18,D.int .i64 ((aC.map aH.c).length:Int)),(19,D.int .i64 (i1:Int)),(23,D.acc 2),(24,D.int .i64 ((bO.map aX.c).length:Int)),(25,D.int .i64 (i2:Int))],[Ob.box [D.int .i64 bh.kind,D.str bh.pat.rel,D.sl (bh.pat.args.map tx),D.str bh.left,D.str bh.right],Ob.row .uq 55 2 (Ri.map aX.c),Ob.row (.mv (i2+1)) 55 2 (bO.map aX.c)]⟩)(O8:aa.length<=maxLen):∀(rest:aO) (i3:Nat) (vv:bE),aa.drop i3=rest->jF aC aa i2 bO jM i1 bh k3 rest i3 vv=some r->Ar Γ N f169 (.q [[some (55,2)]] (D.fr 55 2 (r.map aX.c))) [1,1,0,1,0,0,1,1,0,0,1,1,0,1,0,0,1,1,0,0,1,1,1,0] (rest.length+1) (xR aC aa i2 bO jM i1 bh (vv.map aX.c) (i3:Int)):=by
 intro rest
 induction rest with
 |nil=>
  intro i3 vv vo h;rw[jF]at h;refine aR fun N3 QB Kn=>?_
  exact((aU.ge aG.c vo).a [.hl 8 [1,7,8,17,18,19,23,24,25] [0,1,3]]).ex hΓ QB (W8 vv h)
 |cons Nv LF ih3=>
  intro i3 vv vo h;rw[jF]at h;refine aR fun N3 QB Kn=>?_
  obtain⟨LH,h3513,h⟩:=aB h;have a2U:=(((aU.lt aG.c vo).l (bI aG.c 2 (dc vo) rfl)).g (uY h3513))
  obtain⟨h3514,h⟩|⟨h3514,h⟩:=aM h
  ·obtain⟨LI,h3521,h⟩:=aB h;obtain⟨Gm,h3523,h⟩:=aB h;obtain⟨h3524,h⟩:=bQ h;obtain⟨h3525,h⟩:=bQ h;exact(((((((a2U.b h3514).a [.n2 [0,1,2,3,4,5,8,6,7,9,10,11,12] [0,1,2,3,4,5,7,8,6,9,10,11,12] 7 11 [0,6] [7,8,9,10,11]]).g (uZ h3521)).g (rN h3523)).w (br h3524)).w (br h3525)).a [.cn [1,7,8,10,17,18,19,23,24,25,41,42,43] [0,13,2,3,4,5]]).cs hΓ Kn (xR aC aa i2 bO jM i1 bh ((vv.map aX.c)++([[D.sl ((LI.map aG.c)++([[D.str Gm.rel,D.sl (Gm.args.map tx)]])),D.sl (LH.1.map aQ.c)]])) (IntKind.i64.wrap ((i3:Int)+1))) (by first| (simp only[iS vo O8,mA]<;>rfl)| (simp only[iS vo O8,mA,aG.c,aQ.c,aH.c,Action.c,aJ.c,aX.c,dU.c,ai.c,Node.c,aN.c,dW.c]<;>rfl)) (ih3 (i3+1) (vv++([(⟨LI++([Gm]),LH.1⟩:aX)])) (dn vo) h)
  ·exact((a2U.b h3514).a [.cn [1,7,8,10,17,18,19,23,24,25,41,42,43] [0,1,2,3,4,5]]).ct hΓ Kn (iS vo O8) (ih3 (i3+1) vv (dn vo) h)
theorem DP(hΓ:Γ.nt=74){aC:af}{aa:aO}{bO:bE}{i1:Nat}{bh:aH}{r:bE}{k2:bE->Option bE}(Ak:∀(IR:bE),k2 IR=some r->Ax Γ N f169 (.q [[some (55,2)]] (D.fr 55 2 (r.map aX.c))) [1,1,0,1,0,0,1,1,0,0,1,1,1] ⟨[(1,D.sl (aa.map aG.c)),(8,D.acc 0),(17,D.sl (aC.map aH.c)),(18,D.int .i64 ((aC.map aH.c).length:Int)),(19,D.int .i64 (i1:Int))],[Ob.row .uq 55 2 (IR.map aX.c)]⟩)(hm2:bO.length<=maxLen):∀(rest:bE) (i2:Nat) (j5:bE),bO.drop i2=rest->fB aC aa bO i1 bh k2 rest i2 j5=some r->Ar Γ N f169 (.q [[some (55,2)]] (D.fr 55 2 (r.map aX.c))) [1,1,0,1,0,0,1,1,0,0,1,1,0,1,0] (rest.length+1) (xQ aC aa bO i1 bh (j5.map aX.c) i2 (i2:Int)):=by
 intro rest
 induction rest with
 |nil=>
  intro i2 j5 hd2 h;rw[fB]at h;refine aR fun N2 um sL=>?_
  exact((aU.ge aX.c hd2).a [.hl 5 [1,8,17,18,19] [1]]).ex hΓ um (Ak j5 h)
 |cons jM uO ih2=>
  intro i2 j5 hd2 h;rw[fB]at h;refine aR fun N2 um sL=>?_
  have a2V:=((((aU.lt aX.c hd2).i (mS aX.c 2 (dc hd2))).w (show i2=i2/\(bO.map aX.c)[i2]?=some [D.sl (jM.facts.map aG.c),D.sl (jM.bind.map aQ.c)]/\MO [D.sl (jM.facts.map aG.c),D.sl (jM.bind.map aQ.c)]=true from⟨rfl,cH aX.c (dc hd2),rfl⟩)).a [.tk [D.sl (jM.facts.map aG.c),D.sl (jM.bind.map aQ.c)]])
  obtain⟨h3426,h⟩|⟨h3426,h⟩:=aM h
  ·obtain⟨Yd,h3428,h⟩:=aB h;have a2W:=((a2V.b h3426).g (Az h3428))
   obtain⟨h3429,h⟩|⟨h3429,h⟩:=aM h
   ·obtain⟨h3430,h⟩:=bQ h;exact(((a2W.b h3429).w (br h3430)).a [.cn [1,7,8,17,18,19,23,24,25] [0,7,2]]).cs hΓ sL (xQ aC aa bO i1 bh ((j5.map aX.c)++([[D.sl (jM.facts.map aG.c),D.sl (jM.bind.map aQ.c)]])) (i2+1) (IntKind.i64.wrap ((i2:Int)+1))) (by first| (simp only[iS hd2 hm2,mA]<;>rfl)| (simp only[iS hd2 hm2,mA,aG.c,aQ.c,aH.c,Action.c,aJ.c,aX.c,dU.c,ai.c,Node.c,aN.c,dW.c]<;>rfl)) (ih2 (i2+1) (j5++([jM])) (dn hd2) h)
   ·exact((a2W.b h3429).a [.cn [1,7,8,17,18,19,23,24,25] [0,1,2]]).ct hΓ sL (iS hd2 hm2) (ih2 (i2+1) j5 (dn hd2) h)
  ·obtain⟨h3526,h⟩:=bQ h;refine((a2V.b h3426).a [.cn [1,7,8,10,17,18,19,23,24,25,41,42,43] [0,1,5,2,3,4]]).lp hΓ (DQ hΓ (fun Ri h=>?_) (ay h3526) aa 0 j5 rfl h);exact(aU.a [.cn [1,7,8,17,18,19,23,24,25] [0,1,2]]).ct hΓ sL (iS hd2 hm2) (ih2 (i2+1) Ri (dn hd2) h)
theorem DO(hΓ:Γ.nt=74){aC:af}{aa:aO}{r:bE}{k1:bE->Option bE}(eR:∀(cA:bE),k1 cA=some r->Ax Γ N f169 (.q [[some (55,2)]] (D.fr 55 2 (r.map aX.c))) [1,1,1] ⟨[(5,D.acc 0)],[Ob.row .uq 55 2 (cA.map aX.c)]⟩)(hm1:aC.length<=maxLen):∀(rest:af) (i1:Nat) (bO:bE),aC.drop i1=rest->jE aC aa k1 rest i1 bO=some r->Ar Γ N f169 (.q [[some (55,2)]] (D.fr 55 2 (r.map aX.c))) [1,1,0,1,0] (rest.length+1) (xP aC aa (bO.map aX.c) (i1:Int)):=by
 intro rest
 induction rest with
 |nil=>
  intro i1 bO bA h;rw[jE]at h;refine aR fun N1 cW cL=>?_
  exact((aU.ge aH.c bA).a [.hl 0 [5] [0]]).ex hΓ cW (eR bO h)
 |cons bh cV ih1=>
  intro i1 bO bA h;rw[jE]at h;refine aR fun N1 cW cL=>?_
  obtain⟨h3527,h⟩:=bQ h;refine(((aU.lt aH.c bA).l (bI aH.c 5 (dc bA) rfl)).a [.Jk 8,.mz 0,.cn [1,7,8,17,18,19,23,24,25] [1,2,0]]).lp hΓ (DP hΓ (fun IR h=>?_) (ay h3527) bO 0 ([]:bE) rfl h);exact(aU.a [.cn [1,5,17,18,19] [0]]).ct hΓ cL (iS bA hm1) (ih1 (i1+1) IR (dn bA) h)
theorem C0{aC:af}{aa:aO}{r:bE}(h:qO aC aa=some r):Good prog 169 [D.sl (aC.map aH.c),D.sl (aa.map aG.c)] (D.fr 55 2 (r.map aX.c)):=by
 refine gd func169 [[some (55,2)]] 74 fun hr Γ hΓ=>?_
 rw[qO]at h;refine(aU.a [.cn [1,5,17,18,19] [0]]).lps hΓ (xP aC aa ([[D.sl ([]),D.sl ([])]]) 0) (by first| (simp only[mA]<;>rfl)| (simp only[mA,aG.c,aQ.c,aH.c,Action.c,aJ.c,aX.c,dU.c,ai.c,Node.c,aN.c,dW.c]<;>rfl)) (DO hΓ (fun cA h=>?_) (by have:=(j0.sl (hr _ (aD (i:=0) rfl))).1;simpa using this) aC 0 ([(⟨[],[]⟩:aX)]) rfl h);have h:=aK h;subst h;exact aU.ret hΓ
def eX(aC:aN)(aa:aO)(y1:aO)(k1:bS->Option (aN×Unit)):bS->Nat->bS->Option (aN×Unit)
 | [],i1,cX=>(k1 cX)
 |bh::cV,i1,cX=>(bif decide (i1<(cX.map ai.c).length)then(((cX)[i1]?).bind fun x35=>((gW x35.shape ([]) aa).bind fun LJ=>(bif decide (i1<(cX.map ai.c).length)then(eX aC aa y1 k1 cV (i1+1) (cX.set i1 (⟨x35.shape,LJ⟩:ai)))else none)))else none)
def dO(aC:aN)(aa:aO)(y1:aO)(eS:bS)(k2:Option (aN×Unit)):bR->Nat->bR->Option (aN×Unit)
 | [],i2,j6=>(some ((⟨aC.rules,aC.ends,eS,j6,y1,aC.cS⟩:aN),()))
 |jM::uO,i2,j6=>((qg (⟨aC.rules,aC.ends,eS,j6,y1,aC.cS⟩:aN) (i2:Int)).bind fun XM=>((qO XM aa).bind fun XN=>(bif decide (i2<(j6.map Node.c).length)then(((j6)[i2]?).bind fun x107=>(dO aC aa y1 eS k2 uO (i2+1) (j6.set i2 (⟨x107.parent,x107.cond,x107.ot,XN⟩:Node))))else none)))
def jx(aC:aN)(aa:aO):Option (aN×Unit):=((lJ aa).bind fun y1=>(bif decide (aC.bM.length<=maxLen)then(eX aC aa y1 (fun(eS:bS)=>(bif decide (aC.nodes.length<=maxLen)then(dO aC aa y1 eS none aC.nodes 0 aC.nodes)else none)) aC.bM 0 aC.bM)else none))
def s9(jr:Value)(aC:aN)(aa:aO)(y1:aO)(W0:List aL)(dQ:Int):St:=⟨[(0,D.ptr 0 0),(1,D.sl (aa.map aG.c)),(15,D.int .i64 ((aC.bM.map ai.c).length:Int)),(16,D.int .i64 dQ)],[Ob.BQ [D.acc 1,D.acc 2,D.acc 3,D.acc 4,D.acc 5,D.int .i64 aC.cS] jr,Ob.row .uq 80 4 (aC.rules.map aJ.c),Ob.row .uq 3 1 (aC.ends.map mR),Ob.row .uq 93 3 W0,Ob.row .uq 50 8 (aC.nodes.map Node.c),Ob.row .uq 37 2 (y1.map aG.c)]⟩
theorem xH(hΓ:Γ.nt=60){jr:Value}{aC:aN}{aa:aO}{y1:aO}{r:aN×Unit}{k1:bS->Option (aN×Unit)}(eR:∀(eS:bS),k1 eS=some r->Ax Γ N f100 (.p [[some (80,4),some (3,1),some (93,3),some (50,8),some (37,2),none]] jr (cC r.1) (D.iK [])) [1,1] ⟨[(0,D.ptr 0 0),(1,D.sl (aa.map aG.c))],[Ob.BQ [D.acc 1,D.acc 2,D.acc 3,D.acc 4,D.acc 5,D.int .i64 aC.cS] jr,Ob.row .uq 80 4 (aC.rules.map aJ.c),Ob.row .uq 3 1 (aC.ends.map mR),Ob.row .uq 93 3 (eS.map ai.c),Ob.row .uq 50 8 (aC.nodes.map Node.c),Ob.row .uq 37 2 (y1.map aG.c)]⟩)(hm1:aC.bM.length<=maxLen):∀(rest:bS) (i1:Nat) (cX:bS),aC.bM.drop i1=rest->eX aC aa y1 k1 rest i1 cX=some r->Ar Γ N f100 (.p [[some (80,4),some (3,1),some (93,3),some (50,8),some (37,2),none]] jr (cC r.1) (D.iK [])) [1,0,1,0] (rest.length+1) (s9 jr aC aa y1 (cX.map ai.c) (i1:Int)):=by
 intro rest
 induction rest with
 |nil=>
  intro i1 cX bA h;rw[eX]at h;refine aR fun N1 cW cL=>?_
  exact((aU.ge ai.c bA).a [.hl 0 [0,1] [0,1,2,3,4,5]]).ex hΓ cW (eR cX h)
 |cons bh cV ih1=>
  intro i1 cX bA h;rw[eX]at h;refine aR fun N1 cW cL=>?_
  obtain⟨h34,h⟩:=bQ h;obtain⟨x35,h36,h⟩:=aB h;obtain⟨LJ,h38,h⟩:=aB h;obtain⟨h39,h⟩:=bQ h;exact(((((((((aU.lt ai.c bA).a [.n 15]).i (P0 3 h34)).o 3 2 .uq (cH ai.c h36)).a [.d (D.fr 37 2 (LJ.map aG.c))]).w (show Good prog 168 [D.agg (aG.c x35.shape),D.sl ([]),D.sl (aa.map aG.c)] (D.fr 37 2 (LJ.map aG.c))from by first| (simpa only[b8,bC,bf,bX,bY]using l6 h38)|exact l6 h38)).i (P0 3 h39)).w (show(cX.map ai.c)[i1]?=some [D.str x35.shape.rel,D.sl (x35.shape.args.map tx),D.sl (x35.facts.map aG.c)]from cH ai.c h36)).a [.row [D.str x35.shape.rel,D.sl (x35.shape.args.map tx),D.sl (x35.facts.map aG.c)],.cn [0,1,15,16] [0,1,2,3,4,5]]).cs hΓ cL (s9 jr aC aa y1 ((cX.map ai.c).set i1 [D.str x35.shape.rel,D.sl (x35.shape.args.map tx),D.sl (LJ.map aG.c)]) (IntKind.i64.wrap ((i1:Int)+1))) (by first| (simp only[iS bA hm1,mA]<;>rfl)| (simp only[iS bA hm1,mA,aG.c,aQ.c,aH.c,Action.c,aJ.c,aX.c,dU.c,ai.c,Node.c,aN.c,dW.c]<;>rfl)) (ih1 (i1+1) (cX.set i1 (⟨x35.shape,LJ⟩:ai)) (dn bA) h)
def sA(jr:Value)(aC:aN)(aa:aO)(y1:aO)(eS:bS)(W0:List aL)(dQ:Int):St:=⟨[(0,D.ptr 0 0),(1,D.sl (aa.map aG.c)),(41,D.int .i64 ((aC.nodes.map Node.c).length:Int)),(42,D.int .i64 dQ)],[Ob.BQ [D.acc 1,D.acc 2,D.acc 3,D.acc 4,D.acc 5,D.int .i64 aC.cS] jr,Ob.row .uq 80 4 (aC.rules.map aJ.c),Ob.row .uq 3 1 (aC.ends.map mR),Ob.row .uq 93 3 (eS.map ai.c),Ob.row .uq 50 8 W0,Ob.row .uq 37 2 (y1.map aG.c)]⟩
theorem xI(hΓ:Γ.nt=60){jr:Value}{aC:aN}{aa:aO}{y1:aO}{eS:bS}{r:aN×Unit}{k2:Option (aN×Unit)}(Ak:k2=some r->Ax Γ N f100 (.p [[some (80,4),some (3,1),some (93,3),some (50,8),some (37,2),none]] jr (cC r.1) (D.iK [])) [1,1,1,0,0] ⟨[],[]⟩)(hm2:aC.nodes.length<=maxLen):∀(rest:bR) (i2:Nat) (j6:bR),aC.nodes.drop i2=rest->dO aC aa y1 eS k2 rest i2 j6=some r->Ar Γ N f100 (.p [[some (80,4),some (3,1),some (93,3),some (50,8),some (37,2),none]] jr (cC r.1) (D.iK [])) [1,1,1,0] (rest.length+1) (sA jr aC aa y1 eS (j6.map Node.c) (i2:Int)):=by
 intro rest
 induction rest with
 |nil=>
  intro i2 j6 hd2 h;rw[dO]at h;refine aR fun N2 um sL=>?_
  cases h;exact(aU.ge Node.c hd2).ret hΓ
 |cons jM uO ih2=>
  intro i2 j6 hd2 h;rw[dO]at h;refine aR fun N2 um sL=>?_
  obtain⟨XM,h103,h⟩:=aB h;obtain⟨XN,h105,h⟩:=aB h;obtain⟨h106,h⟩:=bQ h;obtain⟨x107,h108,h⟩:=aB h;exact(((((((aU.lt Node.c hd2).a [.n2 [0,1,2,3,4,5,6,7,8,9,10,11,12,13,14] [0,1,2,3,4,5,6,7,8,9,10,11,12,13,14] 11 12 [0,1,2,3,4] [],.d (D.fr 47 5 (XM.map aH.c))]).w (show Good prog 17 [D.agg [D.sl (aC.rules.map aJ.c),D.sl (aC.ends.map mR),D.sl (eS.map ai.c),D.sl (j6.map Node.c),D.sl (y1.map aG.c),D.int .i64 aC.cS],D.int .i64 (i2:Int)] (D.fr 47 5 (XM.map aH.c))from by first| (simpa only[b8,bC,bf,bX,bY]using pY h103)|exact pY h103| (have t:=pY h103;simp only[b8,bX,bY,aN.c]at t;exact t))).g (C0 h105)).i (P0 8 h106)).w (show(j6.map Node.c)[i2]?=some [D.int .i64 x107.parent,D.int .i64 x107.cond.kind,D.str x107.cond.pat.rel,D.sl (x107.cond.pat.args.map tx),D.str x107.cond.left,D.str x107.cond.right,D.int .i64 x107.ot,D.sl (x107.tokens.map aX.c)]from cH Node.c h108)).a [.row [D.int .i64 x107.parent,D.int .i64 x107.cond.kind,D.str x107.cond.pat.rel,D.sl (x107.cond.pat.args.map tx),D.str x107.cond.left,D.str x107.cond.right,D.int .i64 x107.ot,D.sl (x107.tokens.map aX.c)],.cn [0,1,41,42] [0,1,2,3,4,5]]).cs hΓ sL (sA jr aC aa y1 eS ((j6.map Node.c).set i2 [D.int .i64 x107.parent,D.int .i64 x107.cond.kind,D.str x107.cond.pat.rel,D.sl (x107.cond.pat.args.map tx),D.str x107.cond.left,D.str x107.cond.right,D.int .i64 x107.ot,D.sl (XN.map aX.c)]) (IntKind.i64.wrap ((i2:Int)+1))) (by first| (simp only[iS hd2 hm2,mA]<;>rfl)| (simp only[iS hd2 hm2,mA,aG.c,aQ.c,aH.c,Action.c,aJ.c,aX.c,dU.c,ai.c,Node.c,aN.c,dW.c]<;>rfl)) (ih2 (i2+1) (j6.set i2 (⟨x107.parent,x107.cond,x107.ot,XN⟩:Node)) (dn hd2) h)
theorem wP{aC:aN}{aa:aO}{r:aN×Unit}(h:jx aC aa=some r):jP prog 100 (cC aC) (cC r.1) [D.sl (aa.map aG.c)] (D.iK []):=by
 refine J9 func100 [[some (80,4),some (3,1),some (93,3),some (50,8),some (37,2),none]] 60 [D.acc 1,D.acc 2,D.acc 3,D.acc 4,D.acc 5,D.int .i64 aC.cS] [D.sl (aa.map aG.c)] [Ob.row .uq 80 4 (aC.rules.map aJ.c),Ob.row .uq 3 1 (aC.ends.map mR),Ob.row .uq 93 3 (aC.bM.map ai.c),Ob.row .uq 50 8 (aC.nodes.map Node.c),Ob.row .uq 37 2 (aC.facts.map aG.c)] fun hr jr Γ hΓ=>?_
 rw[jx]at h;obtain⟨y1,h2,h⟩:=aB h;obtain⟨h110,h⟩:=bQ h;refine((aU.g (uZ h2)).a [.cn [0,1,15,16] [0,1,2,3,4,6]]).lp hΓ (xH hΓ (fun eS h=>?_) (ay h110) aC.bM 0 aC.bM rfl h);obtain⟨h109,h⟩:=bQ h;refine(aU.a [.cn [0,1,41,42] [0,1,2,3,4,5]]).lp hΓ (xI hΓ (fun h=>?_) (ay h109) aC.nodes 0 aC.nodes rfl h);cases h
def uB(aC:au)(aa:aO)(cN:Int):Option aN:=((pG aC).bind fun y1=>((jx y1 aa).bind fun y3=>(some (⟨y3.1.rules,y3.1.ends,y3.1.bM,y3.1.nodes,y3.1.facts,cN⟩:aN))))
theorem Fc{aC:au}{aa:aO}{cN:Int}{r:aN}(h:uB aC aa cN=some r):Good prog 49 [D.sl (aC.map aJ.c),D.sl (aa.map aG.c),D.int .i64 cN] (D.agg [D.fr 80 4 (r.rules.map aJ.c),D.fr 3 1 (r.ends.map mR),D.fr 93 3 (r.bM.map ai.c),D.fr 50 8 (r.nodes.map Node.c),D.fr 37 2 (r.facts.map aG.c),D.int .i64 r.cS]):=by
 refine gd func49 [[some (80,4),some (3,1),some (93,3),some (50,8),some (37,2),none]] 15 fun hr Γ hΓ=>?_
 rw[uB]at h;obtain⟨y1,h2,h⟩:=aB h;obtain⟨y3,h4,h⟩:=aB h;cases h;exact((aU.g (BC h2)).hp [[some (80,4),some (3,1),some (93,3),some (50,8),some (37,2),none],[none]] (wP h4)).ret hΓ
def gY(aC:Int)(aa:Int):Option Int:=(bif decide ((aC:Int)<aa)then(some (-1))else(bif decide ((aC:Int)>aa)then(some 1)else(some 0)))
theorem p7{aC:Int}{aa:Int}{r:Int}(h:gY aC aa=some r):Good prog 117 [D.int .i64 aC,D.int .i64 aa] (D.int .i64 r):=by
 refine gd func117 [[none]] 13 fun hr Γ hΓ=>?_
 rw[gY]at h;obtain⟨h1,h⟩|⟨h1,h⟩:=aM h
 ·cases h;exact(aU.b h1).ret hΓ
 ·obtain⟨h2,h⟩|⟨h2,h⟩:=aM h
  ·have h:=aK h;subst h;exact((aU.b h1).b h2).ret hΓ
  ·have h:=aK h;subst h;exact((aU.b h1).b h2).ret hΓ
def kO(aC:Bytes)(aa:Bytes):Option Int:=((kf aC).bind fun y1=>((kf aa).bind fun y3=>(bif y1.2 then(bif y3.2 then((gY y1.1 y3.1).bind fun y7=>(some y7))else(some (-1)))else(bif y3.2 then(some 1)else((oN aC aa).bind fun FE=>(some FE))))))
theorem ya{aC:Bytes}{aa:Bytes}{r:Int}(h:kO aC aa=some r):Good prog 176 [D.str aC,D.str aa] (D.int .i64 r):=by
 refine gd func176 [[none]] 34 fun hr Γ hΓ=>?_
 rw[kO]at h;obtain⟨y1,h2,h⟩:=aB h;obtain⟨y3,h4,h⟩:=aB h;have oa:=((aU.g (oB h2)).g (oB h4))
 obtain⟨h5,h⟩|⟨h5,h⟩:=aM h
 ·have ig:=(oa.r 2 h5)
  obtain⟨h6,h⟩|⟨h6,h⟩:=aM h
  ·obtain⟨y7,h8,h⟩:=aB h;have h:=aK h;subst h;exact((ig.b h6).g (p7 h8)).ret hΓ
  ·cases h;exact((ig.b h6).b h5).ret hΓ
 ·have lC:=(((oa.r 2 h5).F 1).b h5)
  obtain⟨h9,h⟩|⟨h9,h⟩:=aM h
  ·have h:=aK h;subst h;exact(lC.b h9).ret hΓ
  ·obtain⟨FE,h11,h⟩:=aB h;have h:=aK h;subst h;exact((lC.b h9).g (qB h11)).ret hΓ
def iB(aC:aG)(aa:aG)(k1:Option Int):aF->Nat->Option Int
 | [],i1=>(k1)
 |bh::cV,i1=>(bif decide (((i1:Int):Int)<((aa.args.map tx).length:Int))then((iM aa.args (i1:Int)).bind fun x37=>((kO bh x37).bind fun D5=>(bif (D5:Int) != 0 then(some D5)else(iB aC aa k1 cV (i1+1)))))else(k1))
def gK(aC:aG)(aa:aG):Option Int:=((oN aC.rel aa.rel).bind fun y1=>(bif (y1:Int) != 0 then(some y1)else(iB aC aa ((gY ((aC.args.map tx).length:Int) ((aa.args.map tx).length:Int)).bind fun VC=>(some VC)) aC.args 0)))
def A6(aC:aG)(aa:aG)(dQ:Int):St:=⟨[(2,D.ptr 0 0),(3,D.ptr 1 0),(6,D.int .i64 dQ)],[Ob.box (aG.c aC),Ob.box (aG.c aa)]⟩
theorem zF(hΓ:Γ.nt=51){aC:aG}{aa:aG}{r:Int}{k1:Option Int}(eR:k1=some r->Ax Γ N f111 (.q [[none]] (D.int .i64 r)) [1,1,1] ⟨[(2,D.ptr 0 0),(3,D.ptr 1 0)],[Ob.box (aG.c aC),Ob.box (aG.c aa)]⟩)(hm1:aC.args.length<=maxLen):∀(rest:aF) (i1:Nat),aC.args.drop i1=rest->iB aC aa k1 rest i1=some r->Ar Γ N f111 (.q [[none]] (D.int .i64 r)) [1,1,0,1,0] (rest.length+1) (A6 aC aa (i1:Int)):=by
 intro rest
 induction rest with
 |nil=>
  intro i1 bA h;rw[iB]at h;refine aR fun N1 cW cL=>?_
  exact((((((((aU.ge tx bA).ge tx bA).ge tx bA).ge tx bA).ge tx bA).ge tx bA).F 1).a [.hl 0 [2,3] [0,1]]).ex hΓ cW (eR h)
 |cons bh cV ih1=>
  intro i1 bA h;rw[iB]at h;refine aR fun N1 cW cL=>?_
  have lC:=((((((aU.lt tx bA).lt tx bA).lt tx bA).lt tx bA).lt tx bA).lt tx bA)
  obtain⟨h36,h⟩|⟨h36,h⟩:=aM h
  ·obtain⟨x37,h38,h⟩:=aB h;obtain⟨D5,h40,h⟩:=aB h;have kw:=(((((lC.b h36).a [.n 10]).l (bI tx 1 (dc bA) rfl)).l (iN tx 1 h38 rfl)).g (ya h40))
   obtain⟨h41,h⟩|⟨h41,h⟩:=aM h
   ·have h:=aK h;subst h;exact(kw.b h41).ret hΓ
   ·exact((kw.b h41).a [.cn [2,3,6] [0,1]]).ct hΓ cL (iS bA hm1) (ih1 (i1+1) (dn bA) h)
  ·exact((lC.b h36).a [.hl 0 [2,3] [0,1]]).ex hΓ cW (eR h)
theorem sP{aC:aG}{aa:aG}{r:Int}(h:gK aC aa=some r):Good prog 111 [D.agg (aG.c aC),D.agg (aG.c aa)] (D.int .i64 r):=by
 refine gd func111 [[none]] 51 fun hr Γ hΓ=>?_
 rw[gK]at h;obtain⟨y1,h2,h⟩:=aB h;obtain⟨h3,h⟩|⟨h3,h⟩:=aM h
 ·have h:=aK h;subst h;exact((aU.g (qB h2)).b h3).ret hΓ
 ·refine(((aU.g (qB h2)).b h3).a [.cn [2,3,6] [0,1]]).lp hΓ (zF hΓ (fun h=>?_) (by have:=(j0.sl (j0.agg (hr _ (aD (i:=0) rfl)) (.sl (aC.args.map tx)) (by simp))).1;simpa using this) aC.args 0 rfl h);obtain⟨VC,h43,h⟩:=aB h;have h:=aK h;subst h;exact(aU.g (p7 h43)).ret hΓ
def gV(aC:aO)(k1:Option Bool):aO->Nat->Option Bool
 | [],i1=>(k1)
 |bh::cV,i1=>((oR bh).bind fun y46=>(bif !(y46)then(some false)else(bif decide (((i1:Int):Int)>0)then((iM aC (IntKind.i64.wrap ((i1:Int)-1))).bind fun x50=>((gK x50 bh).bind fun Ye=>(bif decide ((Ye:Int)>=0)then(some false)else(gV aC k1 cV (i1+1)))))else(gV aC k1 cV (i1+1)))))
def qI(aC:aO):Option Bool:=(bif decide ((((aC.map aG.c).length:Int):Int)>24)then(some false)else(gV aC (some true) aC 0))
def EF(aC:aO)(dQ:Int):St:=⟨[(0,D.sl (aC.map aG.c)),(8,D.sl (aC.map aG.c)),(9,D.int .i64 ((aC.map aG.c).length:Int)),(10,D.int .i64 dQ)],[]⟩
theorem D8(hΓ:Γ.nt=33){aC:aO}{r:Bool}{k1:Option Bool}(eR:k1=some r->Ax Γ N f57 (.q [[none]] (D.bool r)) [1,1,1] ⟨[],[]⟩)(hm1:aC.length<=maxLen):∀(rest:aO) (i1:Nat),aC.drop i1=rest->gV aC k1 rest i1=some r->Ar Γ N f57 (.q [[none]] (D.bool r)) [1,1,0,1,0] (rest.length+1) (EF aC (i1:Int)):=by
 intro rest
 induction rest with
 |nil=>
  intro i1 bA h;rw[gV]at h;refine aR fun N1 cW cL=>?_
  exact((aU.ge aG.c bA).a [.hl 0 [] []]).ex hΓ cW (eR h)
 |cons bh cV ih1=>
  intro i1 bA h;rw[gV]at h;refine aR fun N1 cW cL=>?_
  obtain⟨y46,h47,h⟩:=aB h;have kw:=((((aU.lt aG.c bA).l (bI aG.c 2 (dc bA) rfl)).a [.n 13]).g (xJ h47))
  obtain⟨h48,h⟩|⟨h48,h⟩:=aM h
  ·have h:=aK h;subst h;exact((((kw.r 3 h48).a [bF,bF,bF,bF,bF,bF,bF,bF]).r 2 h48).T 1).ret hΓ
  ·have rR:=(kw.r 3 h48)
   obtain⟨h49,h⟩|⟨h49,h⟩:=aM h
   ·obtain⟨x50,h51,h⟩:=aB h;obtain⟨Ye,h53,h⟩:=aB h;have vT:=((((((((rR.r 4 h49).l (iN aG.c 2 h51 rfl)).r 3 h49).g (sP h53)).b h49).b h48).b h49).b h48)
    obtain⟨h54,h⟩|⟨h54,h⟩:=aM h
    ·have h:=aK h;subst h;exact(vT.b h54).ret hΓ
    ·exact((vT.b h54).a [.cn [0,8,9,10] []]).ct hΓ cL (iS bA hm1) (ih1 (i1+1) (dn bA) h)
   ·exact((((((rR.r 8 h49).b h48).b h49).b h48).F 1).a [.cn [0,8,9,10] []]).ct hΓ cL (iS bA hm1) (ih1 (i1+1) (dn bA) h)
theorem Bd{aC:aO}{r:Bool}(h:qI aC=some r):Good prog 57 [D.sl (aC.map aG.c)] (D.bool r):=by
 refine gd func57 [[none]] 33 fun hr Γ hΓ=>?_
 rw[qI]at h;obtain⟨h1,h⟩|⟨h1,h⟩:=aM h
 ·have h:=aK h;subst h;exact(aU.b h1).ret hΓ
 ·refine((aU.b h1).a [.cn [0,8,9,10] []]).lp hΓ (D8 hΓ (fun h=>?_) (by have:=(j0.sl (hr _ (aD (i:=0) rfl))).1;simpa using this) aC 0 rfl h);have h:=aK h;subst h;exact aU.ret hΓ
def jB(aC:aJ)(aa:aJ)(k1:Option Bool):af->Nat->Option Bool
 | [],i1=>(k1)
 |bh::cV,i1=>((iM aa.conds (i1:Int)).bind fun x33=>((j4 bh x33).bind fun O0=>(bif !(O0)then(some false)else(jB aC aa k1 cV (i1+1)))))
def gX(aC:aJ)(aa:aJ)(k2:Option Bool):dN->Nat->Option Bool
 | [],i2=>(k2)
 |jM::uO,i2=>((iM aa.cO (i2:Int)).bind fun x70=>(bif (jM.kind:Int) != x70.kind then(some false)else((fA jM.pat x70.pat).bind fun Dx=>(bif !(Dx)then(some false)else(gX aC aa k2 uO (i2+1))))))
def nk(aC:aJ)(aa:aJ):Option Bool:=(bif !((aC.name:Bytes)==aa.name)then(some false)else(bif (aC.prio:Int) != aa.prio then(some false)else(bif (((aC.conds.map aH.c).length:Int):Int) != ((aa.conds.map aH.c).length:Int)then(some false)else(bif (((aC.cO.map Action.c).length:Int):Int) != ((aa.cO.map Action.c).length:Int)then(some false)else(jB aC aa (gX aC aa (some true) aC.cO 0) aC.conds 0)))))
def EK(aC:aJ)(aa:aJ)(dQ:Int):St:=⟨[(2,D.ptr 0 0),(3,D.ptr 1 0),(39,D.int .i64 ((aC.conds.map aH.c).length:Int)),(40,D.int .i64 dQ)],[Ob.box (aJ.c aC),Ob.box (aJ.c aa)]⟩
theorem DF(hΓ:Γ.nt=92){aC:aJ}{aa:aJ}{r:Bool}{k1:Option Bool}(eR:k1=some r->Ax Γ N f106 (.q [[none]] (D.bool r)) [1,1,1] ⟨[(2,D.ptr 0 0),(3,D.ptr 1 0)],[Ob.box (aJ.c aC),Ob.box (aJ.c aa)]⟩)(hm1:aC.conds.length<=maxLen):∀(rest:af) (i1:Nat),aC.conds.drop i1=rest->jB aC aa k1 rest i1=some r->Ar Γ N f106 (.q [[none]] (D.bool r)) [1,1,0,1,0] (rest.length+1) (EK aC aa (i1:Int)):=by
 intro rest
 induction rest with
 |nil=>
  intro i1 bA h;rw[jB]at h;refine aR fun N1 cW cL=>?_
  exact((aU.ge aH.c bA).a [.hl 0 [2,3] [0,1]]).ex hΓ cW (eR h)
 |cons bh cV ih1=>
  intro i1 bA h;rw[jB]at h;refine aR fun N1 cW cL=>?_
  obtain⟨x33,h34,h⟩:=aB h;obtain⟨O0,h36,h⟩:=aB h;have kw:=(((((aU.lt aH.c bA).a [.n 10]).l (bI aH.c 5 (dc bA) rfl)).l (iN aH.c 5 h34 rfl)).g (rM h36))
  obtain⟨h37,h⟩|⟨h37,h⟩:=aM h
  ·have h:=aK h;subst h;exact(kw.b h37).ret hΓ
  ·exact((kw.b h37).a [.cn [2,3,39,40] [0,1]]).ct hΓ cL (iS bA hm1) (ih1 (i1+1) (dn bA) h)
def EL(aC:aJ)(aa:aJ)(dQ:Int):St:=⟨[(2,D.ptr 0 0),(3,D.ptr 1 0),(58,D.int .i64 ((aC.cO.map Action.c).length:Int)),(59,D.int .i64 dQ)],[Ob.box (aJ.c aC),Ob.box (aJ.c aa)]⟩
theorem DG(hΓ:Γ.nt=92){aC:aJ}{aa:aJ}{r:Bool}{k2:Option Bool}(Ak:k2=some r->Ax Γ N f106 (.q [[none]] (D.bool r)) [1,1,1,1] ⟨[],[]⟩)(hm2:aC.cO.length<=maxLen):∀(rest:dN) (i2:Nat),aC.cO.drop i2=rest->gX aC aa k2 rest i2=some r->Ar Γ N f106 (.q [[none]] (D.bool r)) [1,1,1,0,1,0] (rest.length+1) (EL aC aa (i2:Int)):=by
 intro rest
 induction rest with
 |nil=>
  intro i2 hd2 h;rw[gX]at h;refine aR fun N2 um sL=>?_
  exact((aU.ge Action.c hd2).a [.hl 0 [] []]).ex hΓ um (Ak h)
 |cons jM uO ih2=>
  intro i2 hd2 h;rw[gX]at h;refine aR fun N2 um sL=>?_
  obtain⟨x70,h71,h⟩:=aB h;have rR:=((((aU.lt Action.c hd2).a [.n 26]).l (bI Action.c 3 (dc hd2) rfl)).l (iN Action.c 3 h71 rfl))
  obtain⟨h72,h⟩|⟨h72,h⟩:=aM h
  ·have h:=aK h;subst h;exact((rR.r 15 h72).T 1).ret hΓ
  ·obtain⟨Dx,h74,h⟩:=aB h;have vT:=(((((((rR.r 4 h72).l (bI Action.c 3 (dc hd2) rfl)).r 6 h72).l (iN Action.c 3 h71 rfl)).r 3 h72).g (mL h74)).r 2 h72)
   obtain⟨h75,h⟩|⟨h75,h⟩:=aM h
   ·have h:=aK h;subst h;exact(vT.b h75).ret hΓ
   ·exact((vT.b h75).a [.cn [2,3,58,59] [0,1]]).ct hΓ sL (iS hd2 hm2) (ih2 (i2+1) (dn hd2) h)
theorem Bn{aC:aJ}{aa:aJ}{r:Bool}(h:nk aC aa=some r):Good prog 106 [D.agg (aJ.c aC),D.agg (aJ.c aa)] (D.bool r):=by
 refine gd func106 [[none]] 92 fun hr Γ hΓ=>?_
 rw[nk]at h;obtain⟨h1,h⟩|⟨h1,h⟩:=aM h
 ·have h:=aK h;subst h;exact((aU.r 6 h1).T 17).ret hΓ
 ·have yl:=(aU.r 6 h1)
  obtain⟨h2,h⟩|⟨h2,h⟩:=aM h
  ·have h:=aK h;subst h;exact((yl.r 8 h2).T 9).ret hΓ
  ·have E6:=(yl.r 8 h2)
   obtain⟨h3,h⟩|⟨h3,h⟩:=aM h
   ·have h:=aK h;subst h;exact((E6.r 8 h3).T 1).ret hΓ
   ·have Je:=(E6.r 8 h3)
    obtain⟨h4,h⟩|⟨h4,h⟩:=aM h
    ·have h:=aK h;subst h;exact(Je.b h4).ret hΓ
    ·refine((Je.b h4).a [.cn [2,3,39,40] [0,1]]).lp hΓ (DF hΓ (fun h=>?_) (by have:=(j0.sl (j0.agg (hr _ (aD (i:=0) rfl)) (.sl (aC.conds.map aH.c)) (by simp))).1;simpa using this) aC.conds 0 rfl h);refine(aU.a [.cn [2,3,58,59] [0,1]]).lp hΓ (DG hΓ (fun h=>?_) (by have:=(j0.sl (j0.agg (hr _ (aD (i:=0) rfl)) (.sl (aC.cO.map Action.c)) (by simp))).1;simpa using this) aC.cO 0 rfl h);have h:=aK h;subst h;exact aU.ret hΓ
def kV(aC:au)(aa:au)(k1:Option Bool):au->Nat->Option Bool
 | [],i1=>(k1)
 |bh::cV,i1=>((iM aa (i1:Int)).bind fun x30=>((nk bh x30).bind fun Qp=>(bif !(Qp)then(some false)else(kV aC aa k1 cV (i1+1)))))
def pF(aC:au)(aa:au):Option Bool:=(bif (((aC.map aJ.c).length:Int):Int) != ((aa.map aJ.c).length:Int)then(some false)else(kV aC aa (some true) aC 0))
def DL(aC:au)(aa:au)(dQ:Int):St:=⟨[(0,D.sl (aC.map aJ.c)),(1,D.sl (aa.map aJ.c)),(12,D.int .i64 ((aC.map aJ.c).length:Int)),(13,D.int .i64 dQ)],[]⟩
theorem Bv(hΓ:Γ.nt=27){aC:au}{aa:au}{r:Bool}{k1:Option Bool}(eR:k1=some r->Ax Γ N f51 (.q [[none]] (D.bool r)) [1,1,1] ⟨[],[]⟩)(hm1:aC.length<=maxLen):∀(rest:au) (i1:Nat),aC.drop i1=rest->kV aC aa k1 rest i1=some r->Ar Γ N f51 (.q [[none]] (D.bool r)) [1,1,0,1,0] (rest.length+1) (DL aC aa (i1:Int)):=by
 intro rest
 induction rest with
 |nil=>
  intro i1 bA h;rw[kV]at h;refine aR fun N1 cW cL=>?_
  exact((aU.ge aJ.c bA).a [.hl 0 [] []]).ex hΓ cW (eR h)
 |cons bh cV ih1=>
  intro i1 bA h;rw[kV]at h;refine aR fun N1 cW cL=>?_
  obtain⟨x30,h31,h⟩:=aB h;obtain⟨Qp,h33,h⟩:=aB h;have ig:=(((((aU.lt aJ.c bA).a [.n 8]).l (bI aJ.c 4 (dc bA) rfl)).l (iN aJ.c 4 h31 rfl)).g (Bn h33))
  obtain⟨h34,h⟩|⟨h34,h⟩:=aM h
  ·have h:=aK h;subst h;exact(ig.b h34).ret hΓ
  ·exact((ig.b h34).a [.cn [0,1,12,13] []]).ct hΓ cL (iS bA hm1) (ih1 (i1+1) (dn bA) h)
theorem uc{aC:au}{aa:au}{r:Bool}(h:pF aC aa=some r):Good prog 51 [D.sl (aC.map aJ.c),D.sl (aa.map aJ.c)] (D.bool r):=by
 refine gd func51 [[none]] 27 fun hr Γ hΓ=>?_
 rw[pF]at h;obtain⟨h1,h⟩|⟨h1,h⟩:=aM h
 ·have h:=aK h;subst h;exact(aU.b h1).ret hΓ
 ·refine((aU.b h1).a [.cn [0,1,12,13] []]).lp hΓ (Bv hΓ (fun h=>?_) (by have:=(j0.sl (hr _ (aD (i:=0) rfl))).1;simpa using this) aC 0 rfl h);have h:=aK h;subst h;exact aU.ret hΓ
def lM(aC:bJ)(aa:bJ)(k1:Option Bool):bJ->Nat->Option Bool
 | [],i1=>(k1)
 |bh::cV,i1=>((iM aa (i1:Int)).bind fun x22=>(bif (bh:Int) != x22 then(some false)else(lM aC aa k1 cV (i1+1))))
def qN(aC:bJ)(aa:bJ):Option Bool:=(bif (((aC.map mR).length:Int):Int) != ((aa.map mR).length:Int)then(some false)else(lM aC aa (some true) aC 0))
def EP(aC:bJ)(aa:bJ)(dQ:Int):St:=⟨[(0,D.sl (aC.map mR)),(1,D.sl (aa.map mR)),(12,D.int .i64 ((aC.map mR).length:Int)),(13,D.int .i64 dQ)],[]⟩
theorem DJ(hΓ:Γ.nt=26){aC:bJ}{aa:bJ}{r:Bool}{k1:Option Bool}(eR:k1=some r->Ax Γ N f52 (.q [[none]] (D.bool r)) [1,1,1] ⟨[],[]⟩)(hm1:aC.length<=maxLen):∀(rest:bJ) (i1:Nat),aC.drop i1=rest->lM aC aa k1 rest i1=some r->Ar Γ N f52 (.q [[none]] (D.bool r)) [1,1,0,1,0] (rest.length+1) (EP aC aa (i1:Int)):=by
 intro rest
 induction rest with
 |nil=>
  intro i1 bA h;rw[lM]at h;refine aR fun N1 cW cL=>?_
  exact((aU.ge mR bA).a [.hl 0 [] []]).ex hΓ cW (eR h)
 |cons bh cV ih1=>
  intro i1 bA h;rw[lM]at h;refine aR fun N1 cW cL=>?_
  obtain⟨x22,h23,h⟩:=aB h;have ig:=((((aU.lt mR bA).a [.n 8]).l (bI mR 1 (dc bA) rfl)).l (iN mR 1 h23 rfl))
  obtain⟨h24,h⟩|⟨h24,h⟩:=aM h
  ·have h:=aK h;subst h;exact(ig.b h24).ret hΓ
  ·exact((ig.b h24).a [.cn [0,1,12,13] []]).ct hΓ cL (iS bA hm1) (ih1 (i1+1) (dn bA) h)
theorem Bt{aC:bJ}{aa:bJ}{r:Bool}(h:qN aC aa=some r):Good prog 52 [D.sl (aC.map mR),D.sl (aa.map mR)] (D.bool r):=by
 refine gd func52 [[none]] 26 fun hr Γ hΓ=>?_
 rw[qN]at h;obtain⟨h1,h⟩|⟨h1,h⟩:=aM h
 ·have h:=aK h;subst h;exact(aU.b h1).ret hΓ
 ·refine((aU.b h1).a [.cn [0,1,12,13] []]).lp hΓ (DJ hΓ (fun h=>?_) (by have:=(j0.sl (hr _ (aD (i:=0) rfl))).1;simpa using this) aC 0 rfl h);have h:=aK h;subst h;exact aU.ret hΓ
def nu(aC:aG)(aa:aG):Option Bool:=(bif (aC.rel:Bytes)==aa.rel then((nM aC.args aa.args).bind fun y2=>(some y2))else(some false))
theorem Bs{aC:aG}{aa:aG}{r:Bool}(h:nu aC aa=some r):Good prog 107 [D.agg (aG.c aC),D.agg (aG.c aa)] (D.bool r):=by
 refine gd func107 [[none]] 17 fun hr Γ hΓ=>?_
 rw[nu]at h;obtain⟨h1,h⟩|⟨h1,h⟩:=aM h
 ·obtain⟨y2,h3,h⟩:=aB h;have h:=aK h;subst h;exact(((aU.r 5 h1).g (ud h3)).b h1).ret hΓ
 ·have h:=aK h;subst h;exact(aU.r 6 h1).ret hΓ
def kQ(aC:aO)(aa:aO)(k1:Option Bool):aO->Nat->Option Bool
 | [],i1=>(k1)
 |bh::cV,i1=>((iM aa (i1:Int)).bind fun x30=>((nu bh x30).bind fun Qp=>(bif !(Qp)then(some false)else(kQ aC aa k1 cV (i1+1)))))
def iD(aC:aO)(aa:aO):Option Bool:=(bif (((aC.map aG.c).length:Int):Int) != ((aa.map aG.c).length:Int)then(some false)else(kQ aC aa (some true) aC 0))
def DE(aC:aO)(aa:aO)(dQ:Int):St:=⟨[(0,D.sl (aC.map aG.c)),(1,D.sl (aa.map aG.c)),(12,D.int .i64 ((aC.map aG.c).length:Int)),(13,D.int .i64 dQ)],[]⟩
theorem Bm(hΓ:Γ.nt=27){aC:aO}{aa:aO}{r:Bool}{k1:Option Bool}(eR:k1=some r->Ax Γ N f53 (.q [[none]] (D.bool r)) [1,1,1] ⟨[],[]⟩)(hm1:aC.length<=maxLen):∀(rest:aO) (i1:Nat),aC.drop i1=rest->kQ aC aa k1 rest i1=some r->Ar Γ N f53 (.q [[none]] (D.bool r)) [1,1,0,1,0] (rest.length+1) (DE aC aa (i1:Int)):=by
 intro rest
 induction rest with
 |nil=>
  intro i1 bA h;rw[kQ]at h;refine aR fun N1 cW cL=>?_
  exact((aU.ge aG.c bA).a [.hl 0 [] []]).ex hΓ cW (eR h)
 |cons bh cV ih1=>
  intro i1 bA h;rw[kQ]at h;refine aR fun N1 cW cL=>?_
  obtain⟨x30,h31,h⟩:=aB h;obtain⟨Qp,h33,h⟩:=aB h;have ig:=(((((aU.lt aG.c bA).a [.n 8]).l (bI aG.c 2 (dc bA) rfl)).l (iN aG.c 2 h31 rfl)).g (Bs h33))
  obtain⟨h34,h⟩|⟨h34,h⟩:=aM h
  ·have h:=aK h;subst h;exact(ig.b h34).ret hΓ
  ·exact((ig.b h34).a [.cn [0,1,12,13] []]).ct hΓ cL (iS bA hm1) (ih1 (i1+1) (dn bA) h)
theorem qt{aC:aO}{aa:aO}{r:Bool}(h:iD aC aa=some r):Good prog 53 [D.sl (aC.map aG.c),D.sl (aa.map aG.c)] (D.bool r):=by
 refine gd func53 [[none]] 27 fun hr Γ hΓ=>?_
 rw[iD]at h;obtain⟨h1,h⟩|⟨h1,h⟩:=aM h
 ·have h:=aK h;subst h;exact(aU.b h1).ret hΓ
 ·refine((aU.b h1).a [.cn [0,1,12,13] []]).lp hΓ (Bm hΓ (fun h=>?_) (by have:=(j0.sl (hr _ (aD (i:=0) rfl))).1;simpa using this) aC 0 rfl h);have h:=aK h;subst h;exact aU.ret hΓ
def iP(aC:aP)(aa:aP)(k1:Option Bool):aP->Nat->Option Bool
 | [],i1=>(k1)
 |bh::cV,i1=>((iM aa (i1:Int)).bind fun x22=>(bif !((bh.var:Bytes)==x22.var&&(bh.value:Bytes)==x22.value)then(some false)else(iP aC aa k1 cV (i1+1))))
def nL(aC:aP)(aa:aP):Option Bool:=(bif (((aC.map aQ.c).length:Int):Int) != ((aa.map aQ.c).length:Int)then(some false)else(iP aC aa (some true) aC 0))
def DK(aC:aP)(aa:aP)(dQ:Int):St:=⟨[(0,D.sl (aC.map aQ.c)),(1,D.sl (aa.map aQ.c)),(12,D.int .i64 ((aC.map aQ.c).length:Int)),(13,D.int .i64 dQ)],[]⟩
theorem Bu(hΓ:Γ.nt=26){aC:aP}{aa:aP}{r:Bool}{k1:Option Bool}(eR:k1=some r->Ax Γ N f109 (.q [[none]] (D.bool r)) [1,1,1] ⟨[],[]⟩)(hm1:aC.length<=maxLen):∀(rest:aP) (i1:Nat),aC.drop i1=rest->iP aC aa k1 rest i1=some r->Ar Γ N f109 (.q [[none]] (D.bool r)) [1,1,0,1,0] (rest.length+1) (DK aC aa (i1:Int)):=by
 intro rest
 induction rest with
 |nil=>
  intro i1 bA h;rw[iP]at h;refine aR fun N1 cW cL=>?_
  exact((aU.ge aQ.c bA).a [.hl 0 [] []]).ex hΓ cW (eR h)
 |cons bh cV ih1=>
  intro i1 bA h;rw[iP]at h;refine aR fun N1 cW cL=>?_
  obtain⟨x22,h23,h⟩:=aB h;have ig:=((((aU.lt aQ.c bA).a [.n 8]).l (bI aQ.c 2 (dc bA) rfl)).l (iN aQ.c 2 h23 rfl))
  obtain⟨h24,h⟩|⟨h24,h⟩:=aM h
  ·have h:=aK h;subst h;exact(ig.b h24).ret hΓ
  ·exact((ig.b h24).a [.cn [0,1,12,13] []]).ct hΓ cL (iS bA hm1) (ih1 (i1+1) (dn bA) h)
theorem BA{aC:aP}{aa:aP}{r:Bool}(h:nL aC aa=some r):Good prog 109 [D.sl (aC.map aQ.c),D.sl (aa.map aQ.c)] (D.bool r):=by
 refine gd func109 [[none]] 26 fun hr Γ hΓ=>?_
 rw[nL]at h;obtain⟨h1,h⟩|⟨h1,h⟩:=aM h
 ·have h:=aK h;subst h;exact(aU.b h1).ret hΓ
 ·refine((aU.b h1).a [.cn [0,1,12,13] []]).lp hΓ (Bu hΓ (fun h=>?_) (by have:=(j0.sl (hr _ (aD (i:=0) rfl))).1;simpa using this) aC 0 rfl h);have h:=aK h;subst h;exact aU.ret hΓ
def ga(aC:bE)(aa:bE)(k1:Option Bool):bE->Nat->Option Bool
 | [],i1=>(k1)
 |bh::cV,i1=>((iM aa (i1:Int)).bind fun x42=>((iD bh.facts x42.facts).bind fun y44=>(bif !(y44)then(some false)else((nL bh.bind x42.bind).bind fun y47=>(bif !(y47)then(some false)else(ga aC aa k1 cV (i1+1)))))))
def mO(aC:bE)(aa:bE):Option Bool:=(bif (((aC.map aX.c).length:Int):Int) != ((aa.map aX.c).length:Int)then(some false)else(ga aC aa (some true) aC 0))
def Bx(aC:bE)(aa:bE)(dQ:Int):St:=⟨[(0,D.sl (aC.map aX.c)),(1,D.sl (aa.map aX.c)),(12,D.int .i64 ((aC.map aX.c).length:Int)),(13,D.int .i64 dQ)],[]⟩
theorem BB(hΓ:Γ.nt=43){aC:bE}{aa:bE}{r:Bool}{k1:Option Bool}(eR:k1=some r->Ax Γ N f56 (.q [[none]] (D.bool r)) [1,1,1] ⟨[],[]⟩)(hm1:aC.length<=maxLen):∀(rest:bE) (i1:Nat),aC.drop i1=rest->ga aC aa k1 rest i1=some r->Ar Γ N f56 (.q [[none]] (D.bool r)) [1,1,0,1,0] (rest.length+1) (Bx aC aa (i1:Int)):=by
 intro rest
 induction rest with
 |nil=>
  intro i1 bA h;rw[ga]at h;refine aR fun N1 cW cL=>?_
  exact((aU.ge aX.c bA).a [.hl 0 [] []]).ex hΓ cW (eR h)
 |cons bh cV ih1=>
  intro i1 bA h;rw[ga]at h;refine aR fun N1 cW cL=>?_
  obtain⟨x42,h43,h⟩:=aB h;obtain⟨y44,h45,h⟩:=aB h;have lC:=(((((aU.lt aX.c bA).a [.n 23]).l (bI aX.c 2 (dc bA) rfl)).l (iN aX.c 2 h43 rfl)).g (qt h45))
  obtain⟨h46,h⟩|⟨h46,h⟩:=aM h
  ·have h:=aK h;subst h;exact((lC.r 13 h46).T 1).ret hΓ
  ·obtain⟨y47,h48,h⟩:=aB h;have kw:=(((((((lC.r 3 h46).l (bI aX.c 2 (dc bA) rfl)).r 5 h46).l (iN aX.c 2 h43 rfl)).r 3 h46).g (BA h48)).r 2 h46)
   obtain⟨h49,h⟩|⟨h49,h⟩:=aM h
   ·have h:=aK h;subst h;exact(kw.b h49).ret hΓ
   ·exact((kw.b h49).a [.cn [0,1,12,13] []]).ct hΓ cL (iS bA hm1) (ih1 (i1+1) (dn bA) h)
theorem AG{aC:bE}{aa:bE}{r:Bool}(h:mO aC aa=some r):Good prog 56 [D.sl (aC.map aX.c),D.sl (aa.map aX.c)] (D.bool r):=by
 refine gd func56 [[none]] 43 fun hr Γ hΓ=>?_
 rw[mO]at h;obtain⟨h1,h⟩|⟨h1,h⟩:=aM h
 ·have h:=aK h;subst h;exact(aU.b h1).ret hΓ
 ·refine((aU.b h1).a [.cn [0,1,12,13] []]).lp hΓ (BB hΓ (fun h=>?_) (by have:=(j0.sl (hr _ (aD (i:=0) rfl))).1;simpa using this) aC 0 rfl h);have h:=aK h;subst h;exact aU.ret hΓ
def fm(aC:aN)(aa:aN)(k1:Option Bool):bS->Nat->Option Bool
 | [],i1=>(k1)
 |bh::cV,i1=>((iM aa.bM (i1:Int)).bind fun x52=>((fA bh.shape x52.shape).bind fun Gn=>(bif !(Gn)then(some false)else((iD bh.facts x52.facts).bind fun y57=>(bif !(y57)then(some false)else(fm aC aa k1 cV (i1+1)))))))
def fo(aC:aN)(aa:aN)(k2:Option Bool):bR->Nat->Option Bool
 | [],i2=>(k2)
 |jM::uO,i2=>((iM aa.nodes (i2:Int)).bind fun x108=>(bif (jM.parent:Int) != x108.parent then(some false)else(bif (jM.ot:Int) != x108.ot then(some false)else((j4 jM.cond x108.cond).bind fun PX=>(bif !(PX)then(some false)else((mO jM.tokens x108.tokens).bind fun Rz=>(bif !(Rz)then(some false)else(fo aC aa k2 uO (i2+1)))))))))
def mh(aC:aN)(aa:aN):Option Bool:=((pF aC.rules aa.rules).bind fun y1=>(bif !(y1)then(some false)else((qN aC.ends aa.ends).bind fun y4=>(bif !(y4)then(some false)else((iD aC.facts aa.facts).bind fun y7=>(bif !(y7)then(some false)else(bif (((aC.bM.map ai.c).length:Int):Int) != ((aa.bM.map ai.c).length:Int)then(some false)else(bif (((aC.nodes.map Node.c).length:Int):Int) != ((aa.nodes.map Node.c).length:Int)then(some false)else(fm aC aa (fo aC aa (some true) aC.nodes 0) aC.bM 0)))))))))
def AA(aC:aN)(aa:aN)(dQ:Int):St:=⟨[(2,D.ptr 0 0),(3,D.ptr 1 0),(51,D.int .i64 ((aC.bM.map ai.c).length:Int)),(52,D.int .i64 dQ)],[Ob.box (aN.c aC),Ob.box (aN.c aa)]⟩
theorem zI(hΓ:Γ.nt=131){aC:aN}{aa:aN}{r:Bool}{k1:Option Bool}(eR:k1=some r->Ax Γ N f14 (.q [[none]] (D.bool r)) [1,1,1] ⟨[(2,D.ptr 0 0),(3,D.ptr 1 0)],[Ob.box (aN.c aC),Ob.box (aN.c aa)]⟩)(hm1:aC.bM.length<=maxLen):∀(rest:bS) (i1:Nat),aC.bM.drop i1=rest->fm aC aa k1 rest i1=some r->Ar Γ N f14 (.q [[none]] (D.bool r)) [1,1,0,1,0] (rest.length+1) (AA aC aa (i1:Int)):=by
 intro rest
 induction rest with
 |nil=>
  intro i1 bA h;rw[fm]at h;refine aR fun N1 cW cL=>?_
  exact((aU.ge ai.c bA).a [.hl 0 [2,3] [0,1]]).ex hΓ cW (eR h)
 |cons bh cV ih1=>
  intro i1 bA h;rw[fm]at h;refine aR fun N1 cW cL=>?_
  obtain⟨x52,h53,h⟩:=aB h;obtain⟨Gn,h55,h⟩:=aB h;have yl:=(((((aU.lt ai.c bA).a [.n 27]).l (bI ai.c 3 (dc bA) rfl)).l (iN ai.c 3 h53 rfl)).g (mL h55))
  obtain⟨h56,h⟩|⟨h56,h⟩:=aM h
  ·have h:=aK h;subst h;exact((yl.r 15 h56).T 1).ret hΓ
  ·obtain⟨y57,h58,h⟩:=aB h;have E6:=(((((((yl.r 4 h56).l (bI ai.c 3 (dc bA) rfl)).r 6 h56).l (iN ai.c 3 h53 rfl)).r 3 h56).g (qt h58)).r 2 h56)
   obtain⟨h59,h⟩|⟨h59,h⟩:=aM h
   ·have h:=aK h;subst h;exact(E6.b h59).ret hΓ
   ·exact((E6.b h59).a [.cn [2,3,51,52] [0,1]]).ct hΓ cL (iS bA hm1) (ih1 (i1+1) (dn bA) h)
def AB(aC:aN)(aa:aN)(dQ:Int):St:=⟨[(2,D.ptr 0 0),(3,D.ptr 1 0),(88,D.int .i64 ((aC.nodes.map Node.c).length:Int)),(89,D.int .i64 dQ)],[Ob.box (aN.c aC),Ob.box (aN.c aa)]⟩
theorem zJ(hΓ:Γ.nt=131){aC:aN}{aa:aN}{r:Bool}{k2:Option Bool}(Ak:k2=some r->Ax Γ N f14 (.q [[none]] (D.bool r)) [1,1,1,1] ⟨[],[]⟩)(hm2:aC.nodes.length<=maxLen):∀(rest:bR) (i2:Nat),aC.nodes.drop i2=rest->fo aC aa k2 rest i2=some r->Ar Γ N f14 (.q [[none]] (D.bool r)) [1,1,1,0,1,0] (rest.length+1) (AB aC aa (i2:Int)):=by
 intro rest
 induction rest with
 |nil=>
  intro i2 hd2 h;rw[fo]at h;refine aR fun N2 um sL=>?_
  exact((aU.ge Node.c hd2).a [.hl 0 [] []]).ex hΓ um (Ak h)
 |cons jM uO ih2=>
  intro i2 hd2 h;rw[fo]at h;refine aR fun N2 um sL=>?_
  obtain⟨x108,h109,h⟩:=aB h;have Je:=((((aU.lt Node.c hd2).a [.n 13]).l (bI Node.c 8 (dc hd2) rfl)).l (iN Node.c 8 h109 rfl))
  obtain⟨h110,h⟩|⟨h110,h⟩:=aM h
  ·have h:=aK h;subst h;exact((Je.r 6 h110).T 15).ret hΓ
  ·have Ca:=(Je.r 6 h110)
   obtain⟨h111,h⟩|⟨h111,h⟩:=aM h
   ·have h:=aK h;subst h;exact((Ca.r 7 h111).T 8).ret hΓ
   ·obtain⟨PX,h113,h⟩:=aB h;have Jc:=(((Ca.r 5 h111).g (rM h113)).r 2 h111)
    obtain⟨h114,h⟩|⟨h114,h⟩:=aM h
    ·have h:=aK h;subst h;exact((Jc.r 7 h114).T 1).ret hΓ
    ·obtain⟨Rz,h116,h⟩:=aB h;have F3:=(((Jc.r 5 h114).g (AG h116)).r 2 h114)
     obtain⟨h117,h⟩|⟨h117,h⟩:=aM h
     ·have h:=aK h;subst h;exact(F3.b h117).ret hΓ
     ·exact((F3.b h117).a [.cn [2,3,88,89] [0,1]]).ct hΓ sL (iS hd2 hm2) (ih2 (i2+1) (dn hd2) h)
theorem yc{aC:aN}{aa:aN}{r:Bool}(h:mh aC aa=some r):Good prog 14 [D.agg (aN.c aC),D.agg (aN.c aa)] (D.bool r):=by
 refine gd func14 [[none]] 131 fun hr Γ hΓ=>?_
 rw[mh]at h;obtain⟨y1,h2,h⟩:=aB h;obtain⟨h3,h⟩|⟨h3,h⟩:=aM h
 ·have h:=aK h;subst h;exact(((aU.g (uc h2)).r 7 h3).T 24).ret hΓ
 ·obtain⟨y4,h5,h⟩:=aB h;have GX:=((((aU.g (uc h2)).r 5 h3).g (Bt h5)).r 2 h3)
  obtain⟨h6,h⟩|⟨h6,h⟩:=aM h
  ·have h:=aK h;subst h;exact((GX.r 7 h6).T 17).ret hΓ
  ·obtain⟨y7,h8,h⟩:=aB h;have Jd:=(((GX.r 5 h6).g (qt h8)).r 2 h6)
   obtain⟨h9,h⟩|⟨h9,h⟩:=aM h
   ·have h:=aK h;subst h;exact((Jd.r 8 h9).T 9).ret hΓ
   ·have U6:=(Jd.r 8 h9)
    obtain⟨h10,h⟩|⟨h10,h⟩:=aM h
    ·have h:=aK h;subst h;exact((U6.r 8 h10).T 1).ret hΓ
    ·have U7:=(U6.r 8 h10)
     obtain⟨h11,h⟩|⟨h11,h⟩:=aM h
     ·have h:=aK h;subst h;exact(U7.b h11).ret hΓ
     ·refine((U7.b h11).a [.cn [2,3,51,52] [0,1]]).lp hΓ (zI hΓ (fun h=>?_) (by have:=(j0.sl (j0.agg (hr _ (aD (i:=0) rfl)) (.sl (aC.bM.map ai.c)) (by simp))).1;simpa using this) aC.bM 0 rfl h);refine(aU.a [.cn [2,3,88,89] [0,1]]).lp hΓ (zJ hΓ (fun h=>?_) (by have:=(j0.sl (j0.agg (hr _ (aD (i:=0) rfl)) (.sl (aC.nodes.map Node.c)) (by simp))).1;simpa using this) aC.nodes 0 rfl h);have h:=aK h;subst h;exact aU.ret hΓ
def oz(aC:aN):Option Bool:=((qJ aC.rules).bind fun y1=>(bif y1 then((qI aC.facts).bind fun y4=>(bif y4 then(bif decide ((aC.cS:Int)>=0)then((uB aC.rules aC.facts 0).bind fun y8=>((mh aC y8).bind fun FE=>(some FE)))else(some false))else(some false)))else(some false)))
theorem B1{aC:aN}{r:Bool}(h:oz aC=some r):Good prog 15 [D.agg (aN.c aC)] (D.bool r):=by
 refine gd func15 [[none]] 25 fun hr Γ hΓ=>?_
 rw[oz]at h;obtain⟨y1,h2,h⟩:=aB h;have oa:=((aU.a [.n 20]).g (Be h2))
 obtain⟨h3,h⟩|⟨h3,h⟩:=aM h
 ·obtain⟨y4,h5,h⟩:=aB h;have ig:=(((oa.r 3 h3).g (Bd h5)).b h3)
  obtain⟨h6,h⟩|⟨h6,h⟩:=aM h
  ·have lC:=(ig.r 4 h6)
   obtain⟨h7,h⟩|⟨h7,h⟩:=aM h
   ·obtain⟨y8,h9,h⟩:=aB h;obtain⟨FE,h11,h⟩:=aB h;have h:=aK h;subst h;exact(((((lC.r 6 h7).g (Fc h9)).b h7).g (yc h11)).b h7).ret hΓ
   ·have h:=aK h;subst h;exact(lC.r 8 h7).ret hΓ
  ·have h:=aK h;subst h;exact((ig.r 4 h6).F 8).ret hΓ
 ·have h:=aK h;subst h;exact((oa.r 4 h3).F 12).ret hΓ
def eN(aC:aO)(aa:aO)(k1:Option Int):aO->Nat->Option Int
 | [],i1=>(k1)
 |bh::cV,i1=>(bif decide (((i1:Int):Int)<((aa.map aG.c).length:Int))then((iM aa (i1:Int)).bind fun x34=>((gK bh x34).bind fun MX=>(bif (MX:Int) != 0 then(some MX)else(eN aC aa k1 cV (i1+1)))))else(k1))
def mM(aC:aO)(aa:aO):Option Int:=(eN aC aa ((gY ((aC.map aG.c).length:Int) ((aa.map aG.c).length:Int)).bind fun D5=>(some D5)) aC 0)
def xL(aC:aO)(aa:aO)(dQ:Int):St:=⟨[(0,D.sl (aC.map aG.c)),(1,D.sl (aa.map aG.c)),(5,D.int .i64 dQ)],[]⟩
theorem wQ(hΓ:Γ.nt=36){aC:aO}{aa:aO}{r:Int}{k1:Option Int}(eR:k1=some r->Ax Γ N f63 (.q [[none]] (D.int .i64 r)) [1,1] ⟨[(0,D.sl (aC.map aG.c)),(1,D.sl (aa.map aG.c))],[]⟩)(hm1:aC.length<=maxLen):∀(rest:aO) (i1:Nat),aC.drop i1=rest->eN aC aa k1 rest i1=some r->Ar Γ N f63 (.q [[none]] (D.int .i64 r)) [1,0,1,0] (rest.length+1) (xL aC aa (i1:Int)):=by
 intro rest
 induction rest with
 |nil=>
  intro i1 bA h;rw[eN]at h;refine aR fun N1 cW cL=>?_
  exact(((((((aU.ge aG.c bA).ge aG.c bA).ge aG.c bA).ge aG.c bA).ge aG.c bA).F 1).a [.hl 0 [0,1] []]).ex hΓ cW (eR h)
 |cons bh cV ih1=>
  intro i1 bA h;rw[eN]at h;refine aR fun N1 cW cL=>?_
  have lC:=(((((aU.lt aG.c bA).lt aG.c bA).lt aG.c bA).lt aG.c bA).lt aG.c bA)
  obtain⟨h33,h⟩|⟨h33,h⟩:=aM h
  ·obtain⟨x34,h35,h⟩:=aB h;obtain⟨MX,h37,h⟩:=aB h;have kw:=(((((lC.b h33).a [.n 8]).l (bI aG.c 2 (dc bA) rfl)).l (iN aG.c 2 h35 rfl)).g (sP h37))
   obtain⟨h38,h⟩|⟨h38,h⟩:=aM h
   ·have h:=aK h;subst h;exact(kw.b h38).ret hΓ
   ·exact((kw.b h38).a [.cn [0,1,5] []]).ct hΓ cL (iS bA hm1) (ih1 (i1+1) (dn bA) h)
  ·exact((lC.b h33).a [.hl 0 [0,1] []]).ex hΓ cW (eR h)
theorem vl{aC:aO}{aa:aO}{r:Int}(h:mM aC aa=some r):Good prog 63 [D.sl (aC.map aG.c),D.sl (aa.map aG.c)] (D.int .i64 r):=by
 refine gd func63 [[none]] 36 fun hr Γ hΓ=>?_
 rw[mM]at h;refine(aU.a [.cn [0,1,5] []]).lp hΓ (wQ hΓ (fun h=>?_) (by have:=(j0.sl (hr _ (aD (i:=0) rfl))).1;simpa using this) aC 0 rfl h);obtain⟨D5,h40,h⟩:=aB h;have h:=aK h;subst h;exact(aU.g (p7 h40)).ret hΓ
def fe(aC:aX)(aa:aX):Option Int:=((mM aC.facts aa.facts).bind fun y1=>(some y1))
theorem cw{aC:aX}{aa:aX}{r:Int}(h:fe aC aa=some r):Good prog 20 [D.agg (aX.c aC),D.agg (aX.c aa)] (D.int .i64 r):=by
 refine gd func20 [[none]] 10 fun hr Γ hΓ=>?_
 rw[fe]at h;obtain⟨y1,h2,h⟩:=aB h;have h:=aK h;subst h;exact(aU.g (vl h2)).ret hΓ
end Go.Cx
