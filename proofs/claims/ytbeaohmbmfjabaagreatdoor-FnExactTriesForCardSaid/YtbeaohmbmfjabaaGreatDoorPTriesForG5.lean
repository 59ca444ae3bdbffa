/- What functions of the program compute, and the walks that show it. No condition. -/
import Derived.Test.YtbeaohmbmfjabaaGreatDoorPTriesForG4
set_option linter.unusedVariables false
set_option linter.unusedSimpArgs false
namespace Go.Cx
open Go.RowKit Go.Proofs Tryz
set_option maxRecDepth 100000
variable{Γ:vJ}{N:Nat->St->Prop}
def iQ(aB:aG)(k1:ai->Option ai):Nat->Int->ai->Option ai
 |0,_,_=>none
 |n1+1,eT,bW=>((jv eT 1 (IntKind.i64.wrap (((aB.nodes.map Node.c).length:Int)-1))).bind fun y28=>(bif y28 then((lF aB.nodes eT).bind fun x31=>((jF x31.cond).bind fun JD=>(bif room (([[D.int .i64 JD.kind,D.str JD.pat.rel,D.sl (JD.pat.args.map tx),D.str JD.left,D.str JD.right]]).length+(bW.map aL.c).length) 80 then(bif decide ((x31.parent:Int)>=eT)then(k1 (([JD])++bW))else(iQ aB k1 n1 x31.parent (([JD])++bW)))else none)))else(k1 bW)))
def uh(aB:aG)(aU:Int):Option ai:=(iQ aB (fun(bf:ai)=>(some bf)) fuel aU ([]:ai))
def Aj(aB:aG)(eT:Int)(W1:List aQ):St:=⟨[(1,D.int .i64 eT),(2,D.ptr 0 0),(5,D.acc 1)],[Ob.box (aG.c aB),Ob.row .uq 115 5 W1]⟩
theorem IC(hΓ:Γ.nt=35){aB:aG}{r:ai}{k1:ai->Option ai}(cc:∀(bf:ai),k1 bf=some r->Ax Γ N f90 (.q [[some (115,5)]] (D.fr 115 5 (r.map aL.c))) [1,1,1] ⟨[(5,D.acc 0)],[Ob.row .uq 115 5 (bf.map aL.c)]⟩):∀(n1:Nat) (eT:Int) (bW:ai),iQ aB k1 n1 eT bW=some r->Ar Γ N f90 (.q [[some (115,5)]] (D.fr 115 5 (r.map aL.c))) [1,1,0,0] n1 (Aj aB eT (bW.map aL.c)):=by
 intro n
 induction n with
 |zero=>intro eT bW h;simp[iQ]at h
 |succ n1 ih1=>
  intro eT bW h;rw[iQ]at h;refine aP fun N1 cC br=>?_
  obtain⟨y28,h29,h⟩:=aE h;obtain⟨h30,h⟩|⟨h30,h⟩:=aM h
  ·obtain⟨x31,h32,h⟩:=aE h;obtain⟨JD,h34,h⟩:=aE h;obtain⟨h35,h⟩:=bQ h;have eH:=((((((aT.g (fV h29)).b h30).l (eA Node.c 8 h32 rfl)).g (oR h34)).w (bh h35)).l (eA Node.c 8 h32 rfl))
   obtain⟨h36,h⟩|⟨h36,h⟩:=aM h
   ·exact((eH.b h36).a [.hl 0 [5] [4]]).exs hΓ cC ⟨[(5,D.acc 0)],[Ob.row .uq 115 5 (([[D.int .i64 JD.kind,D.str JD.pat.rel,D.sl (JD.pat.args.map tx),D.str JD.left,D.str JD.right]])++(bW.map aL.c))]⟩ (by first| (simp only[mA]<;>rfl)| (simp only[mA,aC.c,aS.c,aL.c,Action.c,aK.c,aN.c,cX.c,aV.c,Node.c,aG.c,cg.c]<;>rfl)) (cc (([JD])++bW) h)
   ·exact((eH.b h36).a [.cn [1,2,5] [0,4]]).cs hΓ br (Aj aB x31.parent (([[D.int .i64 JD.kind,D.str JD.pat.rel,D.sl (JD.pat.args.map tx),D.str JD.left,D.str JD.right]])++(bW.map aL.c))) (by first| (simp only[mA]<;>rfl)| (simp only[mA,aC.c,aS.c,aL.c,Action.c,aK.c,aN.c,cX.c,aV.c,Node.c,aG.c,cg.c]<;>rfl)) (ih1 x31.parent (([JD])++bW) h)
  ·exact(((aT.g (fV h29)).b h30).a [.hl 0 [5] [1]]).ex hΓ cC (cc bW h)
theorem Gz{aB:aG}{aU:Int}{r:ai}(h:uh aB aU=some r):Good prog 90 [D.agg (aG.c aB),D.int .i64 aU] (D.fr 115 5 (r.map aL.c)):=by
 refine gd func90 [[some (115,5)]] 35 fun hr Γ hΓ=>?_
 rw[uh]at h;refine(aT.a [.cn [1,2,5] [0,1]]).lp hΓ (IC hΓ (fun bf h=>?_) fuel aU ([]:ai) h);have h:=aI h;subst h;exact aT.ret hΓ
def s4(aB:Bytes):Option Bool:=((nF aB).bind fun y1=>(some y1.2))
theorem xB{aB:Bytes}{r:Bool}(h:s4 aB=some r):Good prog 281 [D.str aB] (D.bool r):=by
 refine gd func281 [[none]] 11 fun hr Γ hΓ=>?_
 rw[s4]at h;obtain⟨y1,h2,h⟩:=aE h;cases h;exact(aT.g (tW h2)).ret hΓ
def qo(aB:aL)(aU:aR):Option Bool:=((qC aB).bind fun y1=>(bif !(y1)then(some false)else((jq aU).bind fun y4=>(bif !(y4)then(some false)else((oP aU aB.left).bind fun y7=>((oP aU aB.right).bind fun y9=>(bif !(y7.2)then(some false)else(bif !(y9.2)then(some false)else(bif (aB.kind:Int)==3 then(some ((y7.1:Bytes)==y9.1))else(bif (aB.kind:Int)==4 then(some (!((y7.1:Bytes)==y9.1)))else((s4 y7.1).bind fun TP=>(bif TP then((s4 y9.1).bind fun Xx=>(bif Xx then((ir y7.1 y9.1).bind fun NZ=>(some (decide ((NZ:Int)<0))))else(some false)))else(some false)))))))))))))
theorem CZ{aB:aL}{aU:aR}{r:Bool}(h:qo aB aU=some r):Good prog 270 [D.agg (aL.c aB),D.sl (aU.map aS.c)] (D.bool r):=by
 refine gd func270 [[none]] 61 fun hr Γ hΓ=>?_
 rw[qo]at h;obtain⟨y1,h2,h⟩:=aE h;obtain⟨h3,h⟩|⟨h3,h⟩:=aM h
 ·have h:=aI h;subst h;exact(((aT.g (rH h2)).r 4 h3).T 1).ret hΓ
 ·obtain⟨y4,h5,h⟩:=aE h;have mQ:=((((aT.g (rH h2)).r 2 h3).g (lH h5)).r 2 h3)
  obtain⟨h6,h⟩|⟨h6,h⟩:=aM h
  ·have h:=aI h;subst h;exact(mQ.b h6).ret hΓ
  ·obtain⟨y7,h8,h⟩:=aE h;obtain⟨y9,h10,h⟩:=aE h;have eH:=(((mQ.b h6).g (uV h8)).g (uV h10))
   obtain⟨h11,h⟩|⟨h11,h⟩:=aM h
   ·have h:=aI h;subst h;exact((eH.r 3 h11).T 1).ret hΓ
   ·have kx:=(eH.r 3 h11)
    obtain⟨h12,h⟩|⟨h12,h⟩:=aM h
    ·have h:=aI h;subst h;exact(kx.b h12).ret hΓ
    ·obtain⟨h13,h⟩|⟨h13,h⟩:=aM h
     ·cases h;exact((kx.b h12).b h13).ret hΓ
     ·have kM:=((kx.b h12).b h13)
      obtain⟨h14,h⟩|⟨h14,h⟩:=aM h
      ·cases h;exact(kM.b h14).ret hΓ
      ·obtain⟨TP,h16,h⟩:=aE h;have uK:=((kM.b h14).g (xB h16))
       obtain⟨h17,h⟩|⟨h17,h⟩:=aM h
       ·obtain⟨Xx,h19,h⟩:=aE h;have wO:=(((uK.r 2 h17).g (xB h19)).b h17)
        obtain⟨h20,h⟩|⟨h20,h⟩:=aM h
        ·obtain⟨NZ,h22,h⟩:=aE h;cases h;exact(((wO.r 3 h20).g (uf h22)).r 2 h20).ret hΓ
        ·have h:=aI h;subst h;exact(wO.r 5 h20).ret hΓ
       ·have h:=aI h;subst h;exact((uK.r 3 h17).F 5).ret hΓ
def qn(aB:aL)(aU:aR)(cL:aJ):Option Bool:=((qA aB).bind fun y1=>(bif !(y1)then(some false)else((jq aU).bind fun y4=>(bif !(y4)then(some false)else(bif (aB.kind:Int)==1 then((fm aB.pat aU cL).bind fun y8=>(some (decide ((((y8.map aC.c).length:Int):Int)>0))))else(bif (aB.kind:Int)==2 then((fm aB.pat aU cL).bind fun Mf=>(some ((((Mf.map aC.c).length:Int):Int)==0)))else((qo aB aU).bind fun uC=>(some uC))))))))
theorem CY{aB:aL}{aU:aR}{cL:aJ}{r:Bool}(h:qn aB aU cL=some r):Good prog 229 [D.agg (aL.c aB),D.sl (aU.map aS.c),D.sl (cL.map aC.c)] (D.bool r):=by
 refine gd func229 [[none]] 38 fun hr Γ hΓ=>?_
 rw[qn]at h;obtain⟨y1,h2,h⟩:=aE h;obtain⟨h3,h⟩|⟨h3,h⟩:=aM h
 ·have h:=aI h;subst h;exact(((aT.g (oO h2)).r 4 h3).T 1).ret hΓ
 ·obtain⟨y4,h5,h⟩:=aE h;have mQ:=((((aT.g (oO h2)).r 2 h3).g (lH h5)).r 2 h3)
  obtain⟨h6,h⟩|⟨h6,h⟩:=aM h
  ·have h:=aI h;subst h;exact(mQ.b h6).ret hΓ
  ·obtain⟨h7,h⟩|⟨h7,h⟩:=aM h
   ·obtain⟨y8,h9,h⟩:=aE h;cases h;exact(((mQ.b h6).b h7).g (fp h9)).ret hΓ
   ·have eH:=((mQ.b h6).b h7)
    obtain⟨h10,h⟩|⟨h10,h⟩:=aM h
    ·obtain⟨Mf,h12,h⟩:=aE h;cases h;exact((eH.b h10).g (fp h12)).ret hΓ
    ·obtain⟨uC,h14,h⟩:=aE h;have h:=aI h;subst h;exact((eH.b h10).g (CZ h14)).ret hΓ
def lg(aB:aj)(aU:aL)(cL:aJ)(i1:Nat)(bL:aN)(k2:aj->Option aj):aJ->Nat->aj->Option aj
 | [],i2,jH=>(k2 jH)
 |k8::tf,i2,jH=>((iP aU.pat k8 bL.bind).bind fun Uj=>(bif Uj.2 then((dB bL.facts).bind fun Uk=>((eS k8).bind fun Ou=>(bif room ((Uk.map aC.c).length+([[D.str Ou.rel,D.sl (Ou.args.map tx)]]).length) 40 then(bif room ((jH.map aN.c).length+([[D.sl ((Uk.map aC.c)++([[D.str Ou.rel,D.sl (Ou.args.map tx)]])),D.sl (Uj.1.map aS.c)]]).length) 48 then(lg aB aU cL i1 bL k2 tf (i2+1) (jH++([(⟨Uk++([Ou]),Uj.1⟩:aN)])))else none)else none)))else(lg aB aU cL i1 bL k2 tf (i2+1) jH)))
def gK(aB:aj)(aU:aL)(cL:aJ)(k1:aj->Option aj):aj->Nat->aj->Option aj
 | [],i1,bW=>(k1 bW)
 |bL::bz,i1,bW=>(bif (aU.kind:Int) != 1 then((qn aU bL.bind cL).bind fun a5h=>(bif a5h then((qG bL).bind fun SG=>(bif room ((bW.map aN.c).length+([[D.sl (SG.facts.map aC.c),D.sl (SG.bind.map aS.c)]]).length) 48 then(gK aB aU cL k1 bz (i1+1) (bW++([SG])))else none))else(gK aB aU cL k1 bz (i1+1) bW)))else(bif decide (cL.length<=maxLen)then(lg aB aU cL i1 bL (fun(vq:aj)=>(gK aB aU cL k1 bz (i1+1) vq)) cL 0 bW)else none))
def qH(aB:aj)(aU:aL)(cL:aJ):Option aj:=(gK aB aU cL (fun(bf:aj)=>(some bf)) aB 0 ([]:aj))
def Am(aB:aj)(aU:aL)(cL:aJ)(W0:List aQ)(cR:Int):St:=⟨[(0,D.sl (aB.map aN.c)),(2,D.sl (cL.map aC.c)),(4,D.ptr 0 0),(7,D.acc 1),(8,D.int .i64 cR)],[Ob.box (aL.c aU),Ob.row .uq 124 2 W0]⟩
def Ao(aB:aj)(aU:aL)(cL:aJ)(i1:Nat)(W0:List aQ)(cR:Int):St:=⟨[(0,D.sl (aB.map aN.c)),(2,D.sl (cL.map aC.c)),(4,D.ptr 0 0),(7,D.acc 1),(8,D.int .i64 (i1:Int)),(9,D.int .i64 cR)],[Ob.box (aL.c aU),Ob.row .uq 124 2 W0]⟩
theorem IM(hΓ:Γ.nt=79){aB:aj}{aU:aL}{cL:aJ}{i1:Nat}{bL:aN}{r:aj}{k2:aj->Option aj}(zf:∀(vq:aj),k2 vq=some r->Ax Γ N f154 (.q [[some (124,2)]] (D.fr 124 2 (r.map aN.c))) [1,1,0,1,0,0,1,1] ⟨[(0,D.sl (aB.map aN.c)),(2,D.sl (cL.map aC.c)),(4,D.ptr 0 0),(7,D.acc 1),(8,D.int .i64 (i1:Int))],[Ob.box (aL.c aU),Ob.row .uq 124 2 (vq.map aN.c)]⟩)(hx1:(aB)[i1]?=some bL)(hm2:cL.length<=maxLen):∀(rest:aJ) (i2:Nat) (jH:aj),cL.drop i2=rest->lg aB aU cL i1 bL k2 rest i2 jH=some r->Ar Γ N f154 (.q [[some (124,2)]] (D.fr 124 2 (r.map aN.c))) [1,1,0,1,0,0,1,0,0,1,1,0] (rest.length+1) (Ao aB aU cL i1 (jH.map aN.c) (i2:Int)):=by
 intro rest
 induction rest with
 |nil=>
  intro i2 jH hd2 h;rw[lg]at h;refine aP fun N2 ul sA=>?_
  exact((aT.ge aC.c hd2).a [.hl 3 [0,2,4,7,8] [0,1]]).ex hΓ ul (zf jH h)
 |cons k8 tf ih2=>
  intro i2 jH hd2 h;rw[lg]at h;refine aP fun N2 ul sA=>?_
  obtain⟨Uj,h652,h⟩:=aE h;have Iu:=(((((aT.lt aC.c hd2).a [.n 16]).l (az aC.c 2 (dc hd2) rfl)).l (az aN.c 2 hx1 rfl)).g (oh h652))
  obtain⟨h653,h⟩|⟨h653,h⟩:=aM h
  ·obtain⟨Uk,h660,h⟩:=aE h;obtain⟨Ou,h662,h⟩:=aE h;obtain⟨h663,h⟩:=bQ h;obtain⟨h664,h⟩:=bQ h;exact(((((((((Iu.b h653).a [.n2 [0,1,2,3,4,5,6,7,8,9,10,11,14,12,13,15,16,17,18] [0,1,2,3,4,5,6,7,8,9,10,11,13,14,12,15,16,17,18] 13 17 [0,12] [2,3,4,5,6]]).l (az aN.c 2 hx1 rfl)).g (ed h660)).l (az aC.c 2 (dc hd2) rfl)).g (gE h662)).w (bh h663)).w (bh h664)).a [.cn [0,2,4,7,8,9] [0,8]]).cs hΓ sA (Ao aB aU cL i1 ((jH.map aN.c)++([[D.sl ((Uk.map aC.c)++([[D.str Ou.rel,D.sl (Ou.args.map tx)]])),D.sl (Uj.1.map aS.c)]])) (IntKind.i64.wrap ((i2:Int)+1))) (by first| (simp only[iS hd2 hm2,mA]<;>rfl)| (simp only[iS hd2 hm2,mA,aC.c,aS.c,aL.c,Action.c,aK.c,aN.c,cX.c,aV.c,Node.c,aG.c,cg.c]<;>rfl)) (ih2 (i2+1) (jH++([(⟨Uk++([Ou]),Uj.1⟩:aN)])) (dn hd2) h)
  ·exact((Iu.b h653).a [.cn [0,2,4,7,8,9] [0,1]]).ct hΓ sA (iS hd2 hm2) (ih2 (i2+1) jH (dn hd2) h)
theorem IL(hΓ:Γ.nt=79){aB:aj}{aU:aL}{cL:aJ}{r:aj}{k1:aj->Option aj}(cc:∀(bf:aj),k1 bf=some r->Ax Γ N f154 (.q [[some (124,2)]] (D.fr 124 2 (r.map aN.c))) [1,1,1] ⟨[(7,D.acc 0)],[Ob.row .uq 124 2 (bf.map aN.c)]⟩)(hm1:aB.length<=maxLen):∀(rest:aj) (i1:Nat) (bW:aj),aB.drop i1=rest->gK aB aU cL k1 rest i1 bW=some r->Ar Γ N f154 (.q [[some (124,2)]] (D.fr 124 2 (r.map aN.c))) [1,1,0,1,0] (rest.length+1) (Am aB aU cL (bW.map aN.c) (i1:Int)):=by
 intro rest
 induction rest with
 |nil=>
  intro i1 bW aq h;rw[gK]at h;refine aP fun N1 cC br=>?_
  exact((aT.ge aN.c aq).a [.hl 0 [7] [1]]).ex hΓ cC (cc bW h)
 |cons bL bz ih1=>
  intro i1 bW aq h;rw[gK]at h;refine aP fun N1 cC br=>?_
  obtain⟨h563,h⟩|⟨h563,h⟩:=aM h
  ·obtain⟨a5h,h565,h⟩:=aE h;have Iv:=(((((aT.lt aN.c aq).b h563).a [.n 7]).l (az aN.c 2 (dc aq) rfl)).g (CY h565))
   obtain⟨h566,h⟩|⟨h566,h⟩:=aM h
   ·obtain⟨SG,h568,h⟩:=aE h;obtain⟨h569,h⟩:=bQ h;exact(((((Iv.b h566).l (az aN.c 2 (dc aq) rfl)).g (z7 h568)).w (bh h569)).a [.cn [0,2,4,7,8] [0,5]]).cs hΓ br (Am aB aU cL ((bW.map aN.c)++([[D.sl (SG.facts.map aC.c),D.sl (SG.bind.map aS.c)]])) (IntKind.i64.wrap ((i1:Int)+1))) (by first| (simp only[iS aq hm1,mA]<;>rfl)| (simp only[iS aq hm1,mA,aC.c,aS.c,aL.c,Action.c,aK.c,aN.c,cX.c,aV.c,Node.c,aG.c,cg.c]<;>rfl)) (ih1 (i1+1) (bW++([SG])) (dn aq) h)
   ·exact((Iv.b h566).a [.cn [0,2,4,7,8] [0,1]]).ct hΓ br (iS aq hm1) (ih1 (i1+1) bW (dn aq) h)
  ·obtain⟨h665,h⟩:=bQ h;refine(((aT.lt aN.c aq).b h563).a [.cn [0,2,4,7,8,9] [0,1]]).lp hΓ (IM hΓ (fun vq h=>?_) ((drop_cons aq).1) (bY h665) cL 0 bW rfl h);exact(aT.a [.cn [0,2,4,7,8] [0,1]]).ct hΓ br (iS aq hm1) (ih1 (i1+1) vq (dn aq) h)
theorem rJ{aB:aj}{aU:aL}{cL:aJ}{r:aj}(h:qH aB aU cL=some r):Good prog 154 [D.sl (aB.map aN.c),D.agg (aL.c aU),D.sl (cL.map aC.c)] (D.fr 124 2 (r.map aN.c)):=by
 refine gd func154 [[some (124,2)]] 79 fun hr Γ hΓ=>?_
 rw[qH]at h;refine(aT.a [.cn [0,2,4,7,8] [0,1]]).lp hΓ (IL hΓ (fun bf h=>?_) (by have:=(eN.sl (hr _ (aD (i:=0) rfl))).1;simpa using this) aB 0 ([]:aj) rfl h);have h:=aI h;subst h;exact aT.ret hΓ
def jb(aB:ai)(aU:aJ)(k1:aj->Option aj):ai->Nat->aj->Option aj
 | [],i1,bA=>(k1 bA)
 |bL::bz,i1,bA=>((qH bA bL aU).bind fun mP=>(jb aB aU k1 bz (i1+1) mP))
def s8(aB:ai)(aU:aJ):Option aj:=(jb aB aU (fun(bf:aj)=>(some bf)) aB 0 ([(⟨[],[]⟩:aN)]))
def z8(aB:ai)(aU:aJ)(W0:List aQ)(cR:Int):St:=⟨[(0,D.sl (aB.map aL.c)),(1,D.sl (aU.map aC.c)),(5,D.acc 0),(6,D.int .i64 cR)],[Ob.row .uq 124 2 W0]⟩
theorem Fb(hΓ:Γ.nt=23){aB:ai}{aU:aJ}{r:aj}{k1:aj->Option aj}(cc:∀(bf:aj),k1 bf=some r->Ax Γ N f89 (.q [[some (124,2)]] (D.fr 124 2 (r.map aN.c))) [1,1,1] ⟨[(5,D.acc 0)],[Ob.row .uq 124 2 (bf.map aN.c)]⟩)(hm1:aB.length<=maxLen):∀(rest:ai) (i1:Nat) (bA:aj),aB.drop i1=rest->jb aB aU k1 rest i1 bA=some r->Ar Γ N f89 (.q [[some (124,2)]] (D.fr 124 2 (r.map aN.c))) [1,1,0,1,0] (rest.length+1) (z8 aB aU (bA.map aN.c) (i1:Int)):=by
 intro rest
 induction rest with
 |nil=>
  intro i1 bA aq h;rw[jb]at h;refine aP fun N1 cC br=>?_
  exact((aT.ge aL.c aq).a [.hl 0 [5] [0]]).ex hΓ cC (cc bA h)
 |cons bL bz ih1=>
  intro i1 bA aq h;rw[jb]at h;refine aP fun N1 cC br=>?_
  obtain⟨mP,h23,h⟩:=aE h;exact((((aT.lt aL.c aq).l (az aL.c 5 (dc aq) rfl)).g (rJ h23)).a [.cn [0,1,5,6] [1]]).ct hΓ br (iS aq hm1) (ih1 (i1+1) mP (dn aq) h)
theorem Dt{aB:ai}{aU:aJ}{r:aj}(h:s8 aB aU=some r):Good prog 89 [D.sl (aB.map aL.c),D.sl (aU.map aC.c)] (D.fr 124 2 (r.map aN.c)):=by
 refine gd func89 [[some (124,2)]] 23 fun hr Γ hΓ=>?_
 rw[s8]at h;refine(aT.a [.cn [0,1,5,6] [0]]).Y8 hΓ (z8 aB aU ([[D.sl ([]),D.sl ([])]]) 0) (by first| (simp only[mA]<;>rfl)| (simp only[mA,aC.c,aS.c,aL.c,Action.c,aK.c,aN.c,cX.c,aV.c,Node.c,aG.c,cg.c]<;>rfl)) (Fb hΓ (fun bf h=>?_) (by have:=(eN.sl (hr _ (aD (i:=0) rfl))).1;simpa using this) aB 0 ([(⟨[],[]⟩:aN)]) rfl h);have h:=aI h;subst h;exact aT.ret hΓ
def fW(aB:aR)(aU:aR)(k1:Option Bool):aR->Nat->Option Bool
 | [],i1=>(k1)
 |bL::bz,i1=>((lF aU (i1:Int)).bind fun x22=>(bif !((bL.var:Bytes)==x22.var&&(bL.value:Bytes)==x22.value)then(some false)else(fW aB aU k1 bz (i1+1))))
def jx(aB:aR)(aU:aR):Option Bool:=(bif (((aB.map aS.c).length:Int):Int) != ((aU.map aS.c).length:Int)then(some false)else(fW aB aU (some true) aB 0))
def Ap(aB:aR)(aU:aR)(cR:Int):St:=⟨[(0,D.sl (aB.map aS.c)),(1,D.sl (aU.map aS.c)),(5,D.int .i64 cR)],[]⟩
theorem zz(hΓ:Γ.nt=26){aB:aR}{aU:aR}{r:Bool}{k1:Option Bool}(cc:k1=some r->Ax Γ N f153 (.q [[none]] (D.bool r)) [1,1,1] ⟨[],[]⟩)(hm1:aB.length<=maxLen):∀(rest:aR) (i1:Nat),aB.drop i1=rest->fW aB aU k1 rest i1=some r->Ar Γ N f153 (.q [[none]] (D.bool r)) [1,1,0,1,0] (rest.length+1) (Ap aB aU (i1:Int)):=by
 intro rest
 induction rest with
 |nil=>
  intro i1 aq h;rw[fW]at h;refine aP fun N1 cC br=>?_
  exact((aT.ge aS.c aq).a [.hl 0 [] []]).ex hΓ cC (cc h)
 |cons bL bz ih1=>
  intro i1 aq h;rw[fW]at h;refine aP fun N1 cC br=>?_
  obtain⟨x22,h23,h⟩:=aE h;have eH:=((((aT.lt aS.c aq).a [.n 8]).l (az aS.c 2 (dc aq) rfl)).l (eA aS.c 2 h23 rfl))
  obtain⟨h24,h⟩|⟨h24,h⟩:=aM h
  ·have h:=aI h;subst h;exact(eH.b h24).ret hΓ
  ·exact((eH.b h24).a [.cn [0,1,5] []]).ct hΓ br (iS aq hm1) (ih1 (i1+1) (dn aq) h)
theorem zV{aB:aR}{aU:aR}{r:Bool}(h:jx aB aU=some r):Good prog 153 [D.sl (aB.map aS.c),D.sl (aU.map aS.c)] (D.bool r):=by
 refine gd func153 [[none]] 26 fun hr Γ hΓ=>?_
 rw[jx]at h;obtain⟨h1,h⟩|⟨h1,h⟩:=aM h
 ·have h:=aI h;subst h;exact(aT.b h1).ret hΓ
 ·refine((aT.b h1).a [.cn [0,1,5] []]).lp hΓ (zz hΓ (fun h=>?_) (by have:=(eN.sl (hr _ (aD (i:=0) rfl))).1;simpa using this) aB 0 rfl h);have h:=aI h;subst h;exact aT.ret hΓ
def gF(aB:aj)(aU:aj)(k1:Option Bool):aj->Nat->Option Bool
 | [],i1=>(k1)
 |bL::bz,i1=>((lF aU (i1:Int)).bind fun x42=>((lW bL.facts x42.facts).bind fun y44=>(bif !(y44)then(some false)else((jx bL.bind x42.bind).bind fun y47=>(bif !(y47)then(some false)else(gF aB aU k1 bz (i1+1)))))))
def nP(aB:aj)(aU:aj):Option Bool:=(bif (((aB.map aN.c).length:Int):Int) != ((aU.map aN.c).length:Int)then(some false)else(gF aB aU (some true) aB 0))
def Bm(aB:aj)(aU:aj)(cR:Int):St:=⟨[(0,D.sl (aB.map aN.c)),(1,D.sl (aU.map aN.c)),(5,D.int .i64 cR)],[]⟩
theorem Av(hΓ:Γ.nt=43){aB:aj}{aU:aj}{r:Bool}{k1:Option Bool}(cc:k1=some r->Ax Γ N f88 (.q [[none]] (D.bool r)) [1,1,1] ⟨[],[]⟩)(hm1:aB.length<=maxLen):∀(rest:aj) (i1:Nat),aB.drop i1=rest->gF aB aU k1 rest i1=some r->Ar Γ N f88 (.q [[none]] (D.bool r)) [1,1,0,1,0] (rest.length+1) (Bm aB aU (i1:Int)):=by
 intro rest
 induction rest with
 |nil=>
  intro i1 aq h;rw[gF]at h;refine aP fun N1 cC br=>?_
  exact((aT.ge aN.c aq).a [.hl 0 [] []]).ex hΓ cC (cc h)
 |cons bL bz ih1=>
  intro i1 aq h;rw[gF]at h;refine aP fun N1 cC br=>?_
  obtain⟨x42,h43,h⟩:=aE h;obtain⟨y44,h45,h⟩:=aE h;have kx:=(((((aT.lt aN.c aq).a [.n 23]).l (az aN.c 2 (dc aq) rfl)).l (eA aN.c 2 h43 rfl)).g (wN h45))
  obtain⟨h46,h⟩|⟨h46,h⟩:=aM h
  ·have h:=aI h;subst h;exact((kx.r 13 h46).T 1).ret hΓ
  ·obtain⟨y47,h48,h⟩:=aE h;have kM:=(((((((kx.r 3 h46).l (az aN.c 2 (dc aq) rfl)).r 5 h46).l (eA aN.c 2 h43 rfl)).r 3 h46).g (zV h48)).r 2 h46)
   obtain⟨h49,h⟩|⟨h49,h⟩:=aM h
   ·have h:=aI h;subst h;exact(kM.b h49).ret hΓ
   ·exact((kM.b h49).a [.cn [0,1,5] []]).ct hΓ br (iS aq hm1) (ih1 (i1+1) (dn aq) h)
theorem A6{aB:aj}{aU:aj}{r:Bool}(h:nP aB aU=some r):Good prog 88 [D.sl (aB.map aN.c),D.sl (aU.map aN.c)] (D.bool r):=by
 refine gd func88 [[none]] 43 fun hr Γ hΓ=>?_
 rw[nP]at h;obtain⟨h1,h⟩|⟨h1,h⟩:=aM h
 ·have h:=aI h;subst h;exact(aT.b h1).ret hΓ
 ·refine((aT.b h1).a [.cn [0,1,5] []]).lp hΓ (Av hΓ (fun h=>?_) (by have:=(eN.sl (hr _ (aD (i:=0) rfl))).1;simpa using this) aB 0 rfl h);have h:=aI h;subst h;exact aT.ret hΓ
def iy(aB:aG)(k1:Option Bool):bD->Nat->Option Bool
 | [],i1=>(k1)
 |bL::bz,i1=>((fm bL.shape ([]) aB.facts).bind fun ML=>((lW bL.facts ML).bind fun B8=>(bif !(B8)then(some false)else(iy aB k1 bz (i1+1)))))
def iz(aB:aG)(k2:Option Bool):b9->Nat->Option Bool
 | [],i2=>(k2)
 |k8::tf,i2=>((uh aB (i2:Int)).bind fun S9=>((s8 S9 aB.facts).bind fun a5V=>((nP k8.tokens a5V).bind fun a5W=>(bif !(a5W)then(some false)else(iz aB k2 tf (i2+1))))))
def qp(aB:aG):Option Bool:=((iv aB.rules).bind fun y1=>(bif !(y1.2)then(some false)else((nE aB.facts).bind fun y4=>(bif !(y4)then(some false)else((pU aB y1.1).bind fun y7=>(bif !(y7)then(some false)else(bif decide ((aB.bn:Int)<0)then(some false)else(iy aB (iz aB (some true) aB.nodes 0) aB.av 0))))))))
def FM(aB:aG)(cR:Int):St:=⟨[(1,D.ptr 0 0),(5,D.int .i64 cR)],[Ob.box (aG.c aB)]⟩
theorem Dh(hΓ:Γ.nt=77){aB:aG}{r:Bool}{k1:Option Bool}(cc:k1=some r->Ax Γ N f38 (.q [[none]] (D.bool r)) [1,1,1,1] ⟨[(1,D.ptr 0 0)],[Ob.box (aG.c aB)]⟩)(hm1:aB.av.length<=maxLen):∀(rest:bD) (i1:Nat),aB.av.drop i1=rest->iy aB k1 rest i1=some r->Ar Γ N f38 (.q [[none]] (D.bool r)) [1,1,1,0,1,0] (rest.length+1) (FM aB (i1:Int)):=by
 intro rest
 induction rest with
 |nil=>
  intro i1 aq h;rw[iy]at h;refine aP fun N1 cC br=>?_
  exact((aT.ge aV.c aq).a [.hl 0 [1] [0]]).ex hΓ cC (cc h)
 |cons bL bz ih1=>
  intro i1 aq h;rw[iy]at h;refine aP fun N1 cC br=>?_
  obtain⟨ML,h40,h⟩:=aE h;obtain⟨B8,h42,h⟩:=aE h;have kx:=(((((((aT.lt aV.c aq).a [.n 15]).l (az aV.c 3 (dc aq) rfl)).l (az aV.c 3 (dc aq) rfl)).a [.d (D.fr 53 2 (ML.map aC.c))]).w (show Good prog 87 [D.agg (aC.c bL.shape),D.sl ([]),D.sl (aB.facts.map aC.c)] (D.fr 53 2 (ML.map aC.c))from by first| (simpa only[bV,bH,cD,dG,ck]using fp h40)|exact fp h40)).g (wN h42))
  obtain⟨h43,h⟩|⟨h43,h⟩:=aM h
  ·have h:=aI h;subst h;exact(kx.b h43).ret hΓ
  ·exact((kx.b h43).a [.cn [1,5] [0]]).ct hΓ br (iS aq hm1) (ih1 (i1+1) (dn aq) h)
def FN(aB:aG)(cR:Int):St:=⟨[(1,D.ptr 0 0),(6,D.int .i64 cR)],[Ob.box (aG.c aB)]⟩
theorem Di(hΓ:Γ.nt=77){aB:aG}{r:Bool}{k2:Option Bool}(zf:k2=some r->Ax Γ N f38 (.q [[none]] (D.bool r)) [1,1,1,1,1] ⟨[],[]⟩)(hm2:aB.nodes.length<=maxLen):∀(rest:b9) (i2:Nat),aB.nodes.drop i2=rest->iz aB k2 rest i2=some r->Ar Γ N f38 (.q [[none]] (D.bool r)) [1,1,1,1,0,1,0] (rest.length+1) (FN aB (i2:Int)):=by
 intro rest
 induction rest with
 |nil=>
  intro i2 hd2 h;rw[iz]at h;refine aP fun N2 ul sA=>?_
  exact((aT.ge Node.c hd2).a [.hl 0 [] []]).ex hΓ ul (zf h)
 |cons k8 tf ih2=>
  intro i2 hd2 h;rw[iz]at h;refine aP fun N2 ul sA=>?_
  obtain⟨S9,h105,h⟩:=aE h;obtain⟨a5V,h107,h⟩:=aE h;obtain⟨a5W,h109,h⟩:=aE h;have kM:=((((((aT.lt Node.c hd2).a [.n2 [0,1,2,3,4,5,6,7,8,9,10,11,12,13] [0,1,2,3,4,5,6,7,8,9,10,11,12,13] 11 12 [0,1,2,3,4,5] []]).l (az Node.c 8 (dc hd2) rfl)).g (Gz h105)).g (Dt h107)).g (A6 h109))
  obtain⟨h110,h⟩|⟨h110,h⟩:=aM h
  ·have h:=aI h;subst h;exact(kM.b h110).ret hΓ
  ·exact((kM.b h110).a [.cn [1,6] [0]]).ct hΓ sA (iS hd2 hm2) (ih2 (i2+1) (dn hd2) h)
theorem Ca{aB:aG}{r:Bool}(h:qp aB=some r):Good prog 38 [D.agg (aG.c aB)] (D.bool r):=by
 refine gd func38 [[none]] 77 fun hr Γ hΓ=>?_
 rw[qp]at h;obtain⟨y1,h2,h⟩:=aE h;obtain⟨h3,h⟩|⟨h3,h⟩:=aM h
 ·have h:=aI h;subst h;exact(((aT.g (mF h2)).r 5 h3).T 10).ret hΓ
 ·obtain⟨y4,h5,h⟩:=aE h;have uK:=((((aT.g (mF h2)).r 3 h3).g (pQ h5)).r 2 h3)
  obtain⟨h6,h⟩|⟨h6,h⟩:=aM h
  ·have h:=aI h;subst h;exact((uK.r 5 h6).T 5).ret hΓ
  ·obtain⟨y7,h8,h⟩:=aE h;have wO:=(((uK.r 3 h6).g (Bl h8)).r 2 h6)
   obtain⟨h9,h⟩|⟨h9,h⟩:=aM h
   ·have h:=aI h;subst h;exact((wO.r 4 h9).T 1).ret hΓ
   ·have AA:=(wO.r 4 h9)
    obtain⟨h10,h⟩|⟨h10,h⟩:=aM h
    ·have h:=aI h;subst h;exact(AA.b h10).ret hΓ
    ·refine((AA.b h10).a [.cn [1,5] [0]]).lp hΓ (Dh hΓ (fun h=>?_) (by have:=(eN.sl (eN.agg (hr _ (aD (i:=0) rfl)) (.sl (aB.av.map aV.c)) (by simp))).1;simpa using this) aB.av 0 rfl h);refine(aT.a [.cn [1,6] [0]]).lp hΓ (Di hΓ (fun h=>?_) (by have:=(eN.sl (eN.agg (hr _ (aD (i:=0) rfl)) (.sl (aB.nodes.map Node.c)) (by simp))).1;simpa using this) aB.nodes 0 rfl h);have h:=aI h;subst h;exact aT.ret hΓ
def gY(aB:aN)(aU:aN)(k1:Option Int):aJ->Nat->Option Int
 | [],i1=>(k1)
 |bL::bz,i1=>(bif decide (((i1:Int):Int)<((aU.facts.map aC.c).length:Int))then((lF aU.facts (i1:Int)).bind fun x34=>((eR bL x34).bind fun MO=>(bif (MO:Int) != 0 then(some MO)else(gY aB aU k1 bz (i1+1)))))else(k1))
def mM(aB:aN)(aU:aN):Option Int:=(gY aB aU (bif decide ((((aB.facts.map aC.c).length:Int):Int)<((aU.facts.map aC.c).length:Int))then(some (-1))else(bif decide ((((aB.facts.map aC.c).length:Int):Int)>((aU.facts.map aC.c).length:Int))then(some 1)else(some 0))) aB.facts 0)
def Ae(aB:aN)(aU:aN)(cR:Int):St:=⟨[(2,D.ptr 0 0),(3,D.ptr 1 0),(5,D.int .i64 cR)],[Ob.box (aN.c aB),Ob.box (aN.c aU)]⟩
theorem zx(hΓ:Γ.nt=51){aB:aN}{aU:aN}{r:Int}{k1:Option Int}(cc:k1=some r->Ax Γ N f236 (.q [[none]] (D.int .i64 r)) [1,1] ⟨[(2,D.ptr 0 0),(3,D.ptr 1 0)],[Ob.box (aN.c aB),Ob.box (aN.c aU)]⟩)(hm1:aB.facts.length<=maxLen):∀(rest:aJ) (i1:Nat),aB.facts.drop i1=rest->gY aB aU k1 rest i1=some r->Ar Γ N f236 (.q [[none]] (D.int .i64 r)) [1,0,1,0] (rest.length+1) (Ae aB aU (i1:Int)):=by
 intro rest
 induction rest with
 |nil=>
  intro i1 aq h;rw[gY]at h;refine aP fun N1 cC br=>?_
  exact((((((((aT.ge aC.c aq).ge aC.c aq).ge aC.c aq).ge aC.c aq).ge aC.c aq).ge aC.c aq).F 1).a [.hl 0 [2,3] [0,1]]).ex hΓ cC (cc h)
 |cons bL bz ih1=>
  intro i1 aq h;rw[gY]at h;refine aP fun N1 cC br=>?_
  have kx:=((((((aT.lt aC.c aq).lt aC.c aq).lt aC.c aq).lt aC.c aq).lt aC.c aq).lt aC.c aq)
  obtain⟨h33,h⟩|⟨h33,h⟩:=aM h
  ·obtain⟨x34,h35,h⟩:=aE h;obtain⟨MO,h37,h⟩:=aE h;have kM:=(((((kx.b h33).a [.n 10]).l (az aC.c 2 (dc aq) rfl)).l (eA aC.c 2 h35 rfl)).g (mE h37))
   obtain⟨h38,h⟩|⟨h38,h⟩:=aM h
   ·have h:=aI h;subst h;exact(kM.b h38).ret hΓ
   ·exact((kM.b h38).a [.cn [2,3,5] [0,1]]).ct hΓ br (iS aq hm1) (ih1 (i1+1) (dn aq) h)
  ·exact((kx.b h33).a [.hl 0 [2,3] [0,1]]).ex hΓ cC (cc h)
theorem zU{aB:aN}{aU:aN}{r:Int}(h:mM aB aU=some r):Good prog 236 [D.agg (aN.c aB),D.agg (aN.c aU)] (D.int .i64 r):=by
 refine gd func236 [[none]] 51 fun hr Γ hΓ=>?_
 rw[mM]at h;refine(aT.a [.cn [2,3,5] [0,1]]).lp hΓ (zx hΓ (fun h=>?_) (by have:=(eN.sl (eN.agg (hr _ (aD (i:=0) rfl)) (.sl (aB.facts.map aC.c)) (by simp))).1;simpa using this) aB.facts 0 rfl h);obtain⟨h39,h⟩|⟨h39,h⟩:=aM h
 ·cases h;exact(aT.b h39).ret hΓ
 ·obtain⟨h40,h⟩|⟨h40,h⟩:=aM h
  ·have h:=aI h;subst h;exact((aT.b h39).b h40).ret hΓ
  ·have h:=aI h;subst h;exact((aT.b h39).b h40).ret hΓ
def jz(aB:aj)(aU:aj)(i1:Nat)(bL:aN)(k2:Int->Option (Int×Int)):aj->Nat->Int->Option (Int×Int)
 | [],i2,qz=>(k2 qz)
 |k8::tf,i2,qz=>((mM bL k8).bind fun a5Z=>(bif (a5Z:Int)==0 then(jz aB aU i1 bL k2 tf (i2+1) (IntKind.i64.wrap (qz+1)))else(jz aB aU i1 bL k2 tf (i2+1) qz)))
def mB(aB:aj)(aU:aj)(k1:Int->Option (Int×Int)):aj->Nat->Int->Option (Int×Int)
 | [],i1,jB=>(k1 jB)
 |bL::bz,i1,jB=>(bif decide (aU.length<=maxLen)then(jz aB aU i1 bL (fun(yS:Int)=>(mB aB aU k1 bz (i1+1) yS)) aU 0 jB)else none)
def uk(aB:aj)(aU:aj):Option (Int×Int):=(mB aB aU (fun(wZ:Int)=>(some (wZ,IntKind.i64.wrap (((aB.map aN.c).length:Int)-wZ)))) aB 0 0)
def Jf(aB:aj)(aU:aj)(jB:Int)(cR:Int):St:=⟨[(0,D.sl (aB.map aN.c)),(1,D.sl (aU.map aN.c)),(6,D.int .i64 jB),(7,D.int .i64 cR)],[]⟩
def Jg(aB:aj)(aU:aj)(i1:Nat)(qz:Int)(cR:Int):St:=⟨[(0,D.sl (aB.map aN.c)),(1,D.sl (aU.map aN.c)),(6,D.int .i64 qz),(7,D.int .i64 (i1:Int)),(8,D.int .i64 cR)],[]⟩
theorem IU(hΓ:Γ.nt=38){aB:aj}{aU:aj}{i1:Nat}{bL:aN}{r:Int×Int}{k2:Int->Option (Int×Int)}(zf:∀(yS:Int),k2 yS=some r->Ax Γ N f167 (.q [[none],[none]] (D.hY [D.int .i64 r.1,D.int .i64 r.2])) [1,1,0,1,0,0,1,1] ⟨[(0,D.sl (aB.map aN.c)),(1,D.sl (aU.map aN.c)),(6,D.int .i64 yS),(7,D.int .i64 (i1:Int))],[]⟩)(hx1:(aB)[i1]?=some bL)(hm2:aU.length<=maxLen):∀(rest:aj) (i2:Nat) (qz:Int),aU.drop i2=rest->jz aB aU i1 bL k2 rest i2 qz=some r->Ar Γ N f167 (.q [[none],[none]] (D.hY [D.int .i64 r.1,D.int .i64 r.2])) [1,1,0,1,0,0,1,0,0,1,0] (rest.length+1) (Jg aB aU i1 qz (i2:Int)):=by
 intro rest
 induction rest with
 |nil=>
  intro i2 qz hd2 h;rw[jz]at h;refine aP fun N2 ul sA=>?_
  exact((aT.ge aN.c hd2).a [.hl 3 [0,1,6,7] []]).ex hΓ ul (zf qz h)
 |cons k8 tf ih2=>
  intro i2 qz hd2 h;rw[jz]at h;refine aP fun N2 ul sA=>?_
  obtain⟨a5Z,h177,h⟩:=aE h;have A9:=(((((aT.lt aN.c hd2).a [.n 8]).l (az aN.c 2 hx1 rfl)).l (az aN.c 2 (dc hd2) rfl)).g (zU h177))
  obtain⟨h178,h⟩|⟨h178,h⟩:=aM h
  ·exact((A9.b h178).a [.cn [0,1,6,7,8] []]).ct hΓ sA (iS hd2 hm2) (ih2 (i2+1) (IntKind.i64.wrap (qz+1)) (dn hd2) h)
  ·exact((A9.b h178).a [.cn [0,1,6,7,8] []]).ct hΓ sA (iS hd2 hm2) (ih2 (i2+1) qz (dn hd2) h)
theorem IT(hΓ:Γ.nt=38){aB:aj}{aU:aj}{r:Int×Int}{k1:Int->Option (Int×Int)}(cc:∀(wZ:Int),k1 wZ=some r->Ax Γ N f167 (.q [[none],[none]] (D.hY [D.int .i64 r.1,D.int .i64 r.2])) [1,1,1] ⟨[(0,D.sl (aB.map aN.c)),(6,D.int .i64 wZ)],[]⟩)(hm1:aB.length<=maxLen):∀(rest:aj) (i1:Nat) (jB:Int),aB.drop i1=rest->mB aB aU k1 rest i1 jB=some r->Ar Γ N f167 (.q [[none],[none]] (D.hY [D.int .i64 r.1,D.int .i64 r.2])) [1,1,0,1,0] (rest.length+1) (Jf aB aU jB (i1:Int)):=by
 intro rest
 induction rest with
 |nil=>
  intro i1 jB aq h;rw[mB]at h;refine aP fun N1 cC br=>?_
  exact((aT.ge aN.c aq).a [.hl 0 [0,6] []]).ex hΓ cC (cc jB h)
 |cons bL bz ih1=>
  intro i1 jB aq h;rw[mB]at h;refine aP fun N1 cC br=>?_
  obtain⟨h179,h⟩:=bQ h;refine((aT.lt aN.c aq).a [.cn [0,1,6,7,8] []]).lp hΓ (IU hΓ (fun yS h=>?_) ((drop_cons aq).1) (bY h179) aU 0 jB rfl h);exact(aT.a [.cn [0,1,6,7] []]).ct hΓ br (iS aq hm1) (ih1 (i1+1) yS (dn aq) h)
theorem HG{aB:aj}{aU:aj}{r:Int×Int}(h:uk aB aU=some r):Good prog 167 [D.sl (aB.map aN.c),D.sl (aU.map aN.c)] (D.hY [D.int .i64 r.1,D.int .i64 r.2]):=by
 refine gd func167 [[none],[none]] 38 fun hr Γ hΓ=>?_
 rw[uk]at h;refine(aT.a [.cn [0,1,6,7] []]).lp hΓ (IT hΓ (fun wZ h=>?_) (by have:=(eN.sl (hr _ (aD (i:=0) rfl))).1;simpa using this) aB 0 0 rfl h);cases h;exact aT.ret hΓ
def hO(aB:aG)(aU:aJ)(cL:aC)(y1:aG)(y3:aJ)(k1:List Bool->bD->Option aG):Nat->Int->List Bool->bD->Option aG
 |0,_,_,_=>none
 |n1+1,Fk,kP,Jw=>(bif decide ((Fk:Int)<((Jw.map aV.c).length:Int))then((lF Jw Fk).bind fun x41=>((iP x41.shape cL ([])).bind fun GA=>(bif room ((kP.map bx).length+([[D.bool GA.2]]).length) 1 then((fm x41.shape ([]) aU).bind fun Zl=>(hO aB aU cL y1 y3 k1 n1 (IntKind.i64.wrap (Fk+1)) (kP++([GA.2])) (Jw.set Fk.toNat (⟨x41.shape,Zl⟩:aV))))else none)))else(k1 kP Jw))
def eG(aB:aG)(y1:aG)(y3:aJ)(fC:List Bool)(oU:bD)(k2:Int->b9->Option aG):Nat->Int->Int->b9->Option aG
 |0,_,_,_=>none
 |n2+1,pZ,sy,qJ=>(bif decide ((pZ:Int)<((qJ.map Node.c).length:Int))then((lF qJ pZ).bind fun x106=>((lF qJ x106.parent).bind fun x108=>((lF aB.nodes x106.parent).bind fun x110=>((uk x108.tokens x110.tokens).bind fun Fm=>(bif decide ((x106.cQ:Int)<0)then((qH x108.tokens x106.cond ([])).bind fun Oo=>(eG aB y1 y3 fC oU k2 n2 (IntKind.i64.wrap (pZ+1)) (IntKind.i64.wrap (sy+Fm.2)) (qJ.set pZ.toNat (⟨x106.parent,x106.cond,x106.cQ,Oo⟩:Node))))else((lF oU x106.cQ).bind fun x117=>((qH x108.tokens x106.cond x117.facts).bind fun SB=>((lF fC x106.cQ).bind fun x121=>(bif x121 then(eG aB y1 y3 fC oU k2 n2 (IntKind.i64.wrap (pZ+1)) (IntKind.i64.wrap ((IntKind.i64.wrap (sy+(IntKind.i64.wrap (Fm.2*((x117.facts.map aC.c).length:Int)))))+Fm.1)) (qJ.set pZ.toNat (⟨x106.parent,x106.cond,x106.cQ,SB⟩:Node)))else(eG aB y1 y3 fC oU k2 n2 (IntKind.i64.wrap (pZ+1)) (IntKind.i64.wrap (sy+(IntKind.i64.wrap (Fm.2*((x117.facts.map aC.c).length:Int))))) (qJ.set pZ.toNat (⟨x106.parent,x106.cond,x106.cQ,SB⟩:Node))))))))))))else(k2 sy qJ))
def s9(aB:aG)(aU:aJ)(cL:aC):Option aG:=((ni aB).bind fun y1=>((dB aU).bind fun y3=>(hO aB aU cL y1 y3 (fun(fC:List Bool) (oU:bD)=>(eG aB y1 y3 fC oU (fun(nH:Int) (sw:b9)=>(some (⟨y1.rules,y1.ends,oU,sw,y3,nH⟩:aG))) fuel 1 y1.bn y1.nodes)) fuel 0 ([]:List Bool) y1.av)))
def zA(aB:aG)(aU:aJ)(cL:aC)(y1:aG)(y3:aJ)(Fk:Int)(W1:List aQ)(W2:List aQ):St:=⟨[(1,D.sl (aU.map aC.c)),(3,D.ptr 0 0),(5,D.ptr 1 0),(6,D.ptr 2 0),(7,D.ptr 3 0),(8,D.acc 4),(9,D.int .i64 Fk)],[Ob.box (aG.c aB),Ob.box (aC.c cL),Ob.box [D.nil,D.nil,D.nil,D.nil,D.nil,D.int .i64 0],Ob.box [D.acc 5,D.acc 6,D.acc 7,D.acc 8,D.acc 9,D.int .i64 y1.bn],Ob.row .uq 4 1 W1,Ob.row .uq 105 4 (y1.rules.map aK.c),Ob.row .uq 3 1 (y1.ends.map gS),Ob.row .uq 111 3 W2,Ob.row .uq 118 8 (y1.nodes.map Node.c),Ob.row .uq 53 2 (y3.map aC.c)]⟩
theorem Fe(hΓ:Γ.nt=143){aB:aG}{aU:aJ}{cL:aC}{y1:aG}{y3:aJ}{r:aG}{k1:List Bool->bD->Option aG}(cc:∀(fC:List Bool) (oU:bD),k1 fC oU=some r->Ax Γ N f96 (.q [[some (105,4),some (3,1),some (111,3),some (118,8),some (53,2),none]] (D.agg [D.fr 105 4 (r.rules.map aK.c),D.fr 3 1 (r.ends.map gS),D.fr 111 3 (r.av.map aV.c),D.fr 118 8 (r.nodes.map Node.c),D.fr 53 2 (r.facts.map aC.c),D.int .i64 r.bn])) [1,1,1,1,1] ⟨[(3,D.ptr 0 0),(6,D.ptr 1 0),(7,D.ptr 2 0),(8,D.acc 3)],[Ob.box (aG.c aB),Ob.box [D.nil,D.nil,D.nil,D.nil,D.nil,D.int .i64 0],Ob.box [D.acc 4,D.acc 5,D.acc 6,D.acc 7,D.acc 8,D.int .i64 y1.bn],Ob.row .uq 4 1 (fC.map bx),Ob.row .uq 105 4 (y1.rules.map aK.c),Ob.row .uq 3 1 (y1.ends.map gS),Ob.row .uq 111 3 (oU.map aV.c),Ob.row .uq 118 8 (y1.nodes.map Node.c),Ob.row .uq 53 2 (y3.map aC.c)]⟩):∀(n1:Nat) (Fk:Int) (kP:List Bool) (Jw:bD),hO aB aU cL y1 y3 k1 n1 Fk kP Jw=some r->Ar Γ N f96 (.q [[some (105,4),some (3,1),some (111,3),some (118,8),some (53,2),none]] (D.agg [D.fr 105 4 (r.rules.map aK.c),D.fr 3 1 (r.ends.map gS),D.fr 111 3 (r.av.map aV.c),D.fr 118 8 (r.nodes.map Node.c),D.fr 53 2 (r.facts.map aC.c),D.int .i64 r.bn])) [1,1,1,1,0,1,0] n1 (zA aB aU cL y1 y3 Fk (kP.map bx) (Jw.map aV.c)):=by
 intro n
 induction n with
 |zero=>intro Fk kP Jw h;simp[hO]at h
 |succ n1 ih1=>
  intro Fk kP Jw h;rw[hO]at h;refine aP fun N1 cC br=>?_
  obtain⟨h40,h⟩|⟨h40,h⟩:=aM h
  ·obtain⟨x41,h42,h⟩:=aE h;obtain⟨GA,h44,h⟩:=aE h;obtain⟨h45,h⟩:=bQ h;obtain⟨Zl,h47,h⟩:=aE h;exact(((((((((((((((aT.b h40).a [.n 12]).i (vF aV.c 3 h42)).o 3 2 .uq (dK aV.c (rE h42))).a [.d (D.hY [D.fr 152 2 (GA.1.map aS.c),D.bool GA.2])]).w (show Good prog 151 [D.agg (aC.c x41.shape),D.agg (aC.c cL),D.sl ([])] (D.hY [D.fr 152 2 (GA.1.map aS.c),D.bool GA.2])from by first| (simpa only[bV,bH,cD,dG,ck]using oh h44)|exact oh h44)).w (bh h45)).a [.n 11]).i (vF aV.c 3 h42)).o 3 2 .uq (dK aV.c (rE h42))).a [.d (D.fr 53 2 (Zl.map aC.c))]).w (show Good prog 87 [D.agg (aC.c x41.shape),D.sl ([]),D.sl (aU.map aC.c)] (D.fr 53 2 (Zl.map aC.c))from by first| (simpa only[bV,bH,cD,dG,ck]using fp h47)|exact fp h47)).i (vF aV.c 3 h42)).w (show(Jw.map aV.c)[Fk.toNat]?=some [D.str x41.shape.rel,D.sl (x41.shape.args.map tx),D.sl (x41.facts.map aC.c)]from dK aV.c (rE h42))).a [.row [D.str x41.shape.rel,D.sl (x41.shape.args.map tx),D.sl (x41.facts.map aC.c)],.cn [1,3,5,6,7,8,9] [0,1,2,3,12,5,6,7,8,9]]).cs hΓ br (zA aB aU cL y1 y3 (IntKind.i64.wrap (Fk+1)) ((kP.map bx)++([[D.bool GA.2]])) ((Jw.map aV.c).set Fk.toNat [D.str x41.shape.rel,D.sl (x41.shape.args.map tx),D.sl (Zl.map aC.c)])) (by first| (simp only[mA]<;>rfl)| (simp only[mA,aC.c,aS.c,aL.c,Action.c,aK.c,aN.c,cX.c,aV.c,Node.c,aG.c,cg.c]<;>rfl)) (ih1 (IntKind.i64.wrap (Fk+1)) (kP++([GA.2])) (Jw.set Fk.toNat (⟨x41.shape,Zl⟩:aV)) h)
  ·exact((aT.b h40).a [.hl 0 [3,6,7,8] [0,2,3,4,5,6,7,8,9]]).ex hΓ cC (cc kP Jw h)
def rM(aB:aG)(y1:aG)(y3:aJ)(fC:List Bool)(oU:bD)(pZ:Int)(sy:Int)(W2:List aQ):St:=⟨[(3,D.ptr 0 0),(6,D.ptr 1 0),(7,D.ptr 2 0),(8,D.acc 3),(12,D.int .i64 pZ)],[Ob.box (aG.c aB),Ob.box [D.nil,D.nil,D.nil,D.nil,D.nil,D.int .i64 0],Ob.box [D.acc 4,D.acc 5,D.acc 6,D.acc 7,D.acc 8,D.int .i64 sy],Ob.row .uq 4 1 (fC.map bx),Ob.row .uq 105 4 (y1.rules.map aK.c),Ob.row .uq 3 1 (y1.ends.map gS),Ob.row .uq 111 3 (oU.map aV.c),Ob.row .uq 118 8 W2,Ob.row .uq 53 2 (y3.map aC.c)]⟩
theorem Ff(hΓ:Γ.nt=143){aB:aG}{y1:aG}{y3:aJ}{fC:List Bool}{oU:bD}{r:aG}{k2:Int->b9->Option aG}(zf:∀(nH:Int) (sw:b9),k2 nH sw=some r->Ax Γ N f96 (.q [[some (105,4),some (3,1),some (111,3),some (118,8),some (53,2),none]] (D.agg [D.fr 105 4 (r.rules.map aK.c),D.fr 3 1 (r.ends.map gS),D.fr 111 3 (r.av.map aV.c),D.fr 118 8 (r.nodes.map Node.c),D.fr 53 2 (r.facts.map aC.c),D.int .i64 r.bn])) [1,1,1,1,1,1] ⟨[(6,D.ptr 0 0),(7,D.ptr 1 0)],[Ob.box [D.nil,D.nil,D.nil,D.nil,D.nil,D.int .i64 0],Ob.box [D.acc 2,D.acc 3,D.acc 4,D.acc 5,D.acc 6,D.int .i64 nH],Ob.row .uq 105 4 (y1.rules.map aK.c),Ob.row .uq 3 1 (y1.ends.map gS),Ob.row .uq 111 3 (oU.map aV.c),Ob.row .uq 118 8 (sw.map Node.c),Ob.row .uq 53 2 (y3.map aC.c)]⟩):∀(n2:Nat) (pZ:Int) (sy:Int) (qJ:b9),eG aB y1 y3 fC oU k2 n2 pZ sy qJ=some r->Ar Γ N f96 (.q [[some (105,4),some (3,1),some (111,3),some (118,8),some (53,2),none]] (D.agg [D.fr 105 4 (r.rules.map aK.c),D.fr 3 1 (r.ends.map gS),D.fr 111 3 (r.av.map aV.c),D.fr 118 8 (r.nodes.map Node.c),D.fr 53 2 (r.facts.map aC.c),D.int .i64 r.bn])) [1,1,1,1,1,0,1,0] n2 (rM aB y1 y3 fC oU pZ sy (qJ.map Node.c)):=by
 intro n
 induction n with
 |zero=>intro pZ sy qJ h;simp[eG]at h
 |succ n2 ih2=>
  intro pZ sy qJ h;rw[eG]at h;refine aP fun N2 ul sA=>?_
  obtain⟨h105,h⟩|⟨h105,h⟩:=aM h
  ·obtain⟨x106,h107,h⟩:=aE h;obtain⟨x108,h109,h⟩:=aE h;obtain⟨x110,h111,h⟩:=aE h;obtain⟨Fm,h113,h⟩:=aE h;have kx:=(((((((aT.b h105).i (vF Node.c 8 h107)).o 8 8 .uq (dK Node.c (rE h107))).i (vF Node.c 8 h109)).o 8 8 .uq (dK Node.c (rE h109))).l (eA Node.c 8 h111 rfl)).g (HG h113))
   obtain⟨h114,h⟩|⟨h114,h⟩:=aM h
   ·obtain⟨Oo,h116,h⟩:=aE h;exact((((((kx.b h114).a [.n 7,.d (D.fr 124 2 (Oo.map aN.c))]).w (show Good prog 154 [D.sl (x108.tokens.map aN.c),D.agg (aL.c x106.cond),D.sl ([])] (D.fr 124 2 (Oo.map aN.c))from by first| (simpa only[bV,bH,cD,dG,ck]using rJ h116)|exact rJ h116)).i (vF Node.c 8 h107)).w (show(qJ.map Node.c)[pZ.toNat]?=some [D.int .i64 x106.parent,D.int .i64 x106.cond.kind,D.str x106.cond.pat.rel,D.sl (x106.cond.pat.args.map tx),D.str x106.cond.left,D.str x106.cond.right,D.int .i64 x106.cQ,D.sl (x106.tokens.map aN.c)]from dK Node.c (rE h107))).a [.row [D.int .i64 x106.parent,D.int .i64 x106.cond.kind,D.str x106.cond.pat.rel,D.sl (x106.cond.pat.args.map tx),D.str x106.cond.left,D.str x106.cond.right,D.int .i64 x106.cQ,D.sl (x106.tokens.map aN.c)],.cn [3,6,7,8,12] [0,1,2,3,4,5,6,7,8]]).cs hΓ sA (rM aB y1 y3 fC oU (IntKind.i64.wrap (pZ+1)) (IntKind.i64.wrap (sy+Fm.2)) ((qJ.map Node.c).set pZ.toNat [D.int .i64 x106.parent,D.int .i64 x106.cond.kind,D.str x106.cond.pat.rel,D.sl (x106.cond.pat.args.map tx),D.str x106.cond.left,D.str x106.cond.right,D.int .i64 x106.cQ,D.sl (Oo.map aN.c)])) (by first| (simp only[mA]<;>rfl)| (simp only[mA,aC.c,aS.c,aL.c,Action.c,aK.c,aN.c,cX.c,aV.c,Node.c,aG.c,cg.c]<;>rfl)) (ih2 (IntKind.i64.wrap (pZ+1)) (IntKind.i64.wrap (sy+Fm.2)) (qJ.set pZ.toNat (⟨x106.parent,x106.cond,x106.cQ,Oo⟩:Node)) h)
   ·obtain⟨x117,h118,h⟩:=aE h;obtain⟨SB,h120,h⟩:=aE h;obtain⟨x121,h122,h⟩:=aE h;have kM:=((((((((((kx.b h114).i (vF aV.c 3 h118)).o 3 3 .uq (dK aV.c (rE h118))).a [.n 8]).g (rJ h120)).i (vF Node.c 8 h107)).w (show(qJ.map Node.c)[pZ.toNat]?=some [D.int .i64 x106.parent,D.int .i64 x106.cond.kind,D.str x106.cond.pat.rel,D.sl (x106.cond.pat.args.map tx),D.str x106.cond.left,D.str x106.cond.right,D.int .i64 x106.cQ,D.sl (x106.tokens.map aN.c)]from dK Node.c (rE h107))).a [.row [D.int .i64 x106.parent,D.int .i64 x106.cond.kind,D.str x106.cond.pat.rel,D.sl (x106.cond.pat.args.map tx),D.str x106.cond.left,D.str x106.cond.right,D.int .i64 x106.cQ,D.sl (x106.tokens.map aN.c)]]).i (vF bx 1 h122)).o 1 1 .uq (dK bx (rE h122)))
    obtain⟨h123,h⟩|⟨h123,h⟩:=aM h
    ·exact((kM.b h123).a [.cn [3,6,7,8,12] [0,1,2,3,4,5,6,7,8]]).cs hΓ sA (rM aB y1 y3 fC oU (IntKind.i64.wrap (pZ+1)) (IntKind.i64.wrap ((IntKind.i64.wrap (sy+(IntKind.i64.wrap (Fm.2*((x117.facts.map aC.c).length:Int)))))+Fm.1)) ((qJ.map Node.c).set pZ.toNat [D.int .i64 x106.parent,D.int .i64 x106.cond.kind,D.str x106.cond.pat.rel,D.sl (x106.cond.pat.args.map tx),D.str x106.cond.left,D.str x106.cond.right,D.int .i64 x106.cQ,D.sl (SB.map aN.c)])) (by first| (simp only[mA]<;>rfl)| (simp only[mA,aC.c,aS.c,aL.c,Action.c,aK.c,aN.c,cX.c,aV.c,Node.c,aG.c,cg.c]<;>rfl)) (ih2 (IntKind.i64.wrap (pZ+1)) (IntKind.i64.wrap ((IntKind.i64.wrap (sy+(IntKind.i64.wrap (Fm.2*((x117.facts.map aC.c).length:Int)))))+Fm.1)) (qJ.set pZ.toNat (⟨x106.parent,x106.cond,x106.cQ,SB⟩:Node)) h)
    ·exact((kM.b h123).a [.cn [3,6,7,8,12] [0,1,2,3,4,5,6,7,8]]).cs hΓ sA (rM aB y1 y3 fC oU (IntKind.i64.wrap (pZ+1)) (IntKind.i64.wrap (sy+(IntKind.i64.wrap (Fm.2*((x117.facts.map aC.c).length:Int))))) ((qJ.map Node.c).set pZ.toNat [D.int .i64 x106.parent,D.int .i64 x106.cond.kind,D.str x106.cond.pat.rel,D.sl (x106.cond.pat.args.map tx),D.str x106.cond.left,D.str x106.cond.right,D.int .i64 x106.cQ,D.sl (SB.map aN.c)])) (by first| (simp only[mA]<;>rfl)| (simp only[mA,aC.c,aS.c,aL.c,Action.c,aK.c,aN.c,cX.c,aV.c,Node.c,aG.c,cg.c]<;>rfl)) (ih2 (IntKind.i64.wrap (pZ+1)) (IntKind.i64.wrap (sy+(IntKind.i64.wrap (Fm.2*((x117.facts.map aC.c).length:Int))))) (qJ.set pZ.toNat (⟨x106.parent,x106.cond,x106.cQ,SB⟩:Node)) h)
  ·exact((aT.b h105).a [.hl 0 [6,7] [1,2,4,5,6,7,8]]).ex hΓ ul (zf sy qJ h)
theorem Dx{aB:aG}{aU:aJ}{cL:aC}{r:aG}(h:s9 aB aU cL=some r):Good prog 96 [D.agg (aG.c aB),D.sl (aU.map aC.c),D.agg (aC.c cL)] (D.agg [D.fr 105 4 (r.rules.map aK.c),D.fr 3 1 (r.ends.map gS),D.fr 111 3 (r.av.map aV.c),D.fr 118 8 (r.nodes.map Node.c),D.fr 53 2 (r.facts.map aC.c),D.int .i64 r.bn]):=by
 refine gd func96 [[some (105,4),some (3,1),some (111,3),some (118,8),some (53,2),none]] 143 fun hr Γ hΓ=>?_
 rw[s9]at h;obtain⟨y1,h2,h⟩:=aE h;obtain⟨y3,h4,h⟩:=aE h;refine(((aT.g (rK h2)).g (ed h4)).a [.cn [1,3,5,6,7,8,9] [0,1,2,8,10,3,4,5,6,9]]).lp hΓ (Fe hΓ (fun fC oU h=>?_) fuel 0 ([]:List Bool) y1.av h);refine(aT.a [.cn [3,6,7,8,12] [0,1,2,3,4,5,6,7,8]]).lp hΓ (Ff hΓ (fun nH sw h=>?_) fuel 1 y1.bn y1.nodes h);cases h;exact aT.ret hΓ
def nO(aB:aG)(aU:aC):Option (aG×Bool):=((tV aB.facts aU).bind fun y1=>((qp aB).bind fun y3=>(bif !(y3)then((ni aB).bind fun y6=>(some (y6,false)))else(bif !(y1.2)then((ni aB).bind fun y9=>(some (y9,false)))else((s9 aB y1.1 aU).bind fun Mf=>(some (Mf,true)))))))
theorem qD{aB:aG}{aU:aC}{r:aG×Bool}(h:nO aB aU=some r):Good prog 44 [D.agg (aG.c aB),D.agg (aC.c aU)] (D.hY [D.agg [D.fr 105 4 (r.1.rules.map aK.c),D.fr 3 1 (r.1.ends.map gS),D.fr 111 3 (r.1.av.map aV.c),D.fr 118 8 (r.1.nodes.map Node.c),D.fr 53 2 (r.1.facts.map aC.c),D.int .i64 r.1.bn],D.bool r.2]):=by
 refine gd func44 [[some (105,4),some (3,1),some (111,3),some (118,8),some (53,2),none],[none]] 28 fun hr Γ hΓ=>?_
 rw[nO]at h;obtain⟨y1,h2,h⟩:=aE h;obtain⟨y3,h4,h⟩:=aE h;have mQ:=((aT.g (FE h2)).g (Ca h4))
 obtain⟨h5,h⟩|⟨h5,h⟩:=aM h
 ·obtain⟨y6,h7,h⟩:=aE h;cases h;exact(((mQ.r 3 h5).T 1).g (rK h7)).ret hΓ
 ·have eH:=(mQ.r 3 h5)
  obtain⟨h8,h⟩|⟨h8,h⟩:=aM h
  ·obtain⟨y9,h10,h⟩:=aE h;cases h;exact((eH.b h8).g (rK h10)).ret hΓ
  ·obtain⟨Mf,h12,h⟩:=aE h;cases h;exact((eH.b h8).g (Dx h12)).ret hΓ
def fG(aU:aJ)(k1:Int->Int->ah->bR->bD->b9->aJ->Option (aG×Int)):aJ->Nat->Int->Int->ah->bR->bD->b9->aJ->Option (aG×Int)
 | [],i1,pY,cz,fD,dW,kP,gW,oY=>(k1 pY cz fD dW kP gW oY)
 |bL::bz,i1,pY,cz,fD,dW,kP,gW,oY=>((nO (⟨fD,dW,kP,gW,oY,cz⟩:aG) bL).bind fun vU=>(bif vU.2 then(fG aU k1 bz (i1+1) (IntKind.i64.wrap (pY+1)) vU.1.bn vU.1.rules vU.1.ends vU.1.av vU.1.nodes vU.1.facts)else(fG aU k1 bz (i1+1) pY cz fD dW kP gW oY)))
def oN(aB:aG)(aU:aJ):Option (aG×Int):=((ni aB).bind fun y1=>(fG aU (fun(MM:Int) (kN:Int) (qK:ah) (fC:bR) (zH:bD) (mC:b9) (oU:aJ)=>(some ((⟨qK,fC,zH,mC,oU,kN⟩:aG),MM))) aU 0 0 y1.bn y1.rules y1.ends y1.av y1.nodes y1.facts))
def CW(aU:aJ)(pY:Int)(cz:Int)(W2:List aQ)(W3:List aQ)(W4:List aQ)(W5:List aQ)(W6:List aQ)(cR:Int):St:=⟨[(1,D.sl (aU.map aC.c)),(4,D.ptr 0 0),(6,D.ptr 1 0),(7,D.int .i64 pY),(8,D.int .i64 cR)],[Ob.box [D.nil,D.nil,D.nil,D.nil,D.nil,D.int .i64 0],Ob.box [D.acc 2,D.acc 3,D.acc 4,D.acc 5,D.acc 6,D.int .i64 cz],Ob.row .uq 105 4 W2,Ob.row .uq 3 1 W3,Ob.row .uq 111 3 W4,Ob.row .uq 118 8 W5,Ob.row .uq 53 2 W6]⟩
theorem Be(hΓ:Γ.nt=34){aU:aJ}{r:aG×Int}{k1:Int->Int->ah->bR->bD->b9->aJ->Option (aG×Int)}(cc:∀(MM:Int) (kN:Int) (qK:ah) (fC:bR) (zH:bD) (mC:b9) (oU:aJ),k1 MM kN qK fC zH mC oU=some r->Ax Γ N f13 (.q [[some (105,4),some (3,1),some (111,3),some (118,8),some (53,2),none],[none]] (D.hY [D.agg [D.fr 105 4 (r.1.rules.map aK.c),D.fr 3 1 (r.1.ends.map gS),D.fr 111 3 (r.1.av.map aV.c),D.fr 118 8 (r.1.nodes.map Node.c),D.fr 53 2 (r.1.facts.map aC.c),D.int .i64 r.1.bn],D.int .i64 r.2])) [1,1,1,1] ⟨[(4,D.ptr 0 0),(6,D.ptr 1 0),(7,D.int .i64 MM)],[Ob.box [D.nil,D.nil,D.nil,D.nil,D.nil,D.int .i64 0],Ob.box [D.acc 2,D.acc 3,D.acc 4,D.acc 5,D.acc 6,D.int .i64 kN],Ob.row .uq 105 4 (qK.map aK.c),Ob.row .uq 3 1 (fC.map gS),Ob.row .uq 111 3 (zH.map aV.c),Ob.row .uq 118 8 (mC.map Node.c),Ob.row .uq 53 2 (oU.map aC.c)]⟩)(hm1:aU.length<=maxLen):∀(rest:aJ) (i1:Nat) (pY:Int) (cz:Int) (fD:ah) (dW:bR) (kP:bD) (gW:b9) (oY:aJ),aU.drop i1=rest->fG aU k1 rest i1 pY cz fD dW kP gW oY=some r->Ar Γ N f13 (.q [[some (105,4),some (3,1),some (111,3),some (118,8),some (53,2),none],[none]] (D.hY [D.agg [D.fr 105 4 (r.1.rules.map aK.c),D.fr 3 1 (r.1.ends.map gS),D.fr 111 3 (r.1.av.map aV.c),D.fr 118 8 (r.1.nodes.map Node.c),D.fr 53 2 (r.1.facts.map aC.c),D.int .i64 r.1.bn],D.int .i64 r.2])) [1,1,1,0,1,0] (rest.length+1) (CW aU pY cz (fD.map aK.c) (dW.map gS) (kP.map aV.c) (gW.map Node.c) (oY.map aC.c) (i1:Int)):=by
 intro rest
 induction rest with
 |nil=>
  intro i1 pY cz fD dW kP gW oY aq h;rw[fG]at h;refine aP fun N1 cC br=>?_
  exact((aT.ge aC.c aq).a [.hl 0 [4,6,7] [0,1,2,3,4,5,6]]).ex hΓ cC (cc pY cz fD dW kP gW oY h)
 |cons bL bz ih1=>
  intro i1 pY cz fD dW kP gW oY aq h;rw[fG]at h;refine aP fun N1 cC br=>?_
  obtain⟨vU,h36,h⟩:=aE h;have eH:=(((((aT.lt aC.c aq).a [.n 11]).l (az aC.c 2 (dc aq) rfl)).a [.d (D.hY [D.agg [D.fr 105 4 (vU.1.rules.map aK.c),D.fr 3 1 (vU.1.ends.map gS),D.fr 111 3 (vU.1.av.map aV.c),D.fr 118 8 (vU.1.nodes.map Node.c),D.fr 53 2 (vU.1.facts.map aC.c),D.int .i64 vU.1.bn],D.bool vU.2])]).w (show Good prog 44 [D.agg [D.sl (fD.map aK.c),D.sl (dW.map gS),D.sl (kP.map aV.c),D.sl (gW.map Node.c),D.sl (oY.map aC.c),D.int .i64 cz],D.agg (aC.c bL)] (D.hY [D.agg [D.fr 105 4 (vU.1.rules.map aK.c),D.fr 3 1 (vU.1.ends.map gS),D.fr 111 3 (vU.1.av.map aV.c),D.fr 118 8 (vU.1.nodes.map Node.c),D.fr 53 2 (vU.1.facts.map aC.c),D.int .i64 vU.1.bn],D.bool vU.2])from by first| (simpa only[bV,bH,cD,dG,ck]using qD h36)|exact qD h36| (have t:=qD h36;simp only[bV,dG,ck,aG.c]at t;exact t)))
  obtain⟨h37,h⟩|⟨h37,h⟩:=aM h
  ·exact((eH.b h37).a [.cn [1,4,6,7,8] [0,1,7,8,9,10,11]]).ct hΓ br (iS aq hm1) (ih1 (i1+1) (IntKind.i64.wrap (pY+1)) vU.1.bn vU.1.rules vU.1.ends vU.1.av vU.1.nodes vU.1.facts (dn aq) h)
  ·exact((eH.b h37).a [.cn [1,4,6,7,8] [0,1,2,3,4,5,6]]).ct hΓ br (iS aq hm1) (ih1 (i1+1) pY cz fD dW kP gW oY (dn aq) h)
theorem Ah{aB:aG}{aU:aJ}{r:aG×Int}(h:oN aB aU=some r):Good prog 13 [D.agg (aG.c aB),D.sl (aU.map aC.c)] (D.hY [D.agg [D.fr 105 4 (r.1.rules.map aK.c),D.fr 3 1 (r.1.ends.map gS),D.fr 111 3 (r.1.av.map aV.c),D.fr 118 8 (r.1.nodes.map Node.c),D.fr 53 2 (r.1.facts.map aC.c),D.int .i64 r.1.bn],D.int .i64 r.2]):=by
 refine gd func13 [[some (105,4),some (3,1),some (111,3),some (118,8),some (53,2),none],[none]] 34 fun hr Γ hΓ=>?_
 rw[oN]at h;obtain⟨y1,h2,h⟩:=aE h;refine((aT.g (rK h2)).a [.cn [1,4,6,7,8] [1,7,2,3,4,5,6]]).lp hΓ (Be hΓ (fun MM kN qK fC zH mC oU h=>?_) (by have:=(eN.sl (hr _ (aD (i:=1) rfl))).1;simpa using this) aU 0 0 y1.bn y1.rules y1.ends y1.av y1.nodes y1.facts rfl h);cases h;exact aT.ret hΓ
def lP(aB:aH):Option aH:=(bif room (([]:List aQ).length+(aB.map tx).length) 16 then(some (([]:aH)++aB))else none)
theorem sj{aB:aH}{r:aH}(h:lP aB=some r):Good prog 184 [D.sl (aB.map tx)] (D.fr 9 1 (r.map tx)):=by
 refine gd func184 [[some (9,1)]] 5 fun hr Γ hΓ=>?_
 rw[lP]at h;obtain⟨h1,h⟩:=bQ h;cases h;exact(((aT.w (bh h1)).w (show(∀r∈(aB.map tx),r.length=1)/\(true=true->D.mN (aB.map tx)=true)from⟨by first|simp| (intro r hr;obtain⟨x,_,rfl⟩:=cB.1 (bw (fc hr));rfl),by simp[D.mN,D.flat]⟩)).a [.Kc 2,.fl true]).rts hΓ (D.fr 9 1 (([]:List aQ)++(aB.map tx))) (by first|rfl| (simp only[mA]<;>rfl)| (simp only[cK,mA]<;>rfl))
def dR(aB:aC):Option aC:=((lP aB.args).bind fun y1=>(some (⟨aB.rel,y1⟩:aC)))
theorem qf{aB:aC}{r:aC}(h:dR aB=some r):Good prog 112 [D.agg (aC.c aB)] (D.agg [D.str r.rel,D.fr 9 1 (r.args.map tx)]):=by
 refine gd func112 [[none,some (9,1)]] 9 fun hr Γ hΓ=>?_
 rw[dR]at h;obtain⟨y1,h2,h⟩:=aE h;cases h;exact((aT.a [.n 5]).g (sj h2)).ret hΓ
def eY(aB:aL):Option aL:=((dR aB.pat).bind fun y1=>(some (⟨aB.kind,y1,aB.left,aB.right⟩:aL)))
theorem jo{aB:aL}{r:aL}(h:eY aB=some r):Good prog 113 [D.agg (aL.c aB)] (D.agg [D.int .i64 r.kind,D.str r.pat.rel,D.fr 9 1 (r.pat.args.map tx),D.str r.left,D.str r.right]):=by
 refine gd func113 [[none,none,some (9,1),none,none]] 8 fun hr Γ hΓ=>?_
 rw[eY]at h;obtain⟨y1,h2,h⟩:=aE h;cases h;exact(aT.g (qf h2)).ret hΓ
def kY(aB:ai)(k1:ai->Option ai):ai->Nat->ai->Option ai
 | [],i1,bA=>(k1 bA)
 |bL::bz,i1,bA=>((eY bL).bind fun nK=>(bif room ((bA.map aL.c).length+([[D.int .i64 nK.kind,D.str nK.pat.rel,D.sl (nK.pat.args.map tx),D.str nK.left,D.str nK.right]]).length) 80 then(kY aB k1 bz (i1+1) (bA++([nK])))else none))
def qe(aB:ai):Option ai:=(kY aB (fun(bf:ai)=>(some bf)) aB 0 ([]:ai))
def xm(aB:ai)(W0:List aQ)(cR:Int):St:=⟨[(3,D.acc 0),(6,D.sl (aB.map aL.c)),(7,D.int .i64 ((aB.map aL.c).length:Int)),(8,D.int .i64 cR)],[Ob.row .uq 115 5 W0]⟩
theorem DD(hΓ:Γ.nt=19){aB:ai}{r:ai}{k1:ai->Option ai}(cc:∀(bf:ai),k1 bf=some r->Ax Γ N f244 (.q [[some (115,5)]] (D.fr 115 5 (r.map aL.c))) [1,1,1] ⟨[(3,D.acc 0)],[Ob.row .uq 115 5 (bf.map aL.c)]⟩)(hm1:aB.length<=maxLen):∀(rest:ai) (i1:Nat) (bA:ai),aB.drop i1=rest->kY aB k1 rest i1 bA=some r->Ar Γ N f244 (.q [[some (115,5)]] (D.fr 115 5 (r.map aL.c))) [1,1,0,1,0] (rest.length+1) (xm aB (bA.map aL.c) (i1:Int)):=by
 intro rest
 induction rest with
 |nil=>
  intro i1 bA aq h;rw[kY]at h;refine aP fun N1 cC br=>?_
  exact((aT.ge aL.c aq).a [.hl 0 [3] [0]]).ex hΓ cC (cc bA h)
 |cons bL bz ih1=>
  intro i1 bA aq h;rw[kY]at h;refine aP fun N1 cC br=>?_
  obtain⟨nK,h28,h⟩:=aE h;obtain⟨h29,h⟩:=bQ h;exact(((((aT.lt aL.c aq).l (az aL.c 5 (dc aq) rfl)).g (jo h28)).w (bh h29)).a [.cn [3,6,7,8] [4]]).cs hΓ br (xm aB ((bA.map aL.c)++([[D.int .i64 nK.kind,D.str nK.pat.rel,D.sl (nK.pat.args.map tx),D.str nK.left,D.str nK.right]])) (IntKind.i64.wrap ((i1:Int)+1))) (by first| (simp only[iS aq hm1,mA]<;>rfl)| (simp only[iS aq hm1,mA,aC.c,aS.c,aL.c,Action.c,aK.c,aN.c,cX.c,aV.c,Node.c,aG.c,cg.c]<;>rfl)) (ih1 (i1+1) (bA++([nK])) (dn aq) h)
theorem CM{aB:ai}{r:ai}(h:qe aB=some r):Good prog 244 [D.sl (aB.map aL.c)] (D.fr 115 5 (r.map aL.c)):=by
 refine gd func244 [[some (115,5)]] 19 fun hr Γ hΓ=>?_
 rw[qe]at h;refine(aT.a [.Kc 3,.cn [3,6,7,8] [0]]).lp hΓ (DD hΓ (fun bf h=>?_) (by have:=(eN.sl (hr _ (aD (i:=0) rfl))).1;simpa using this) aB 0 ([]:ai) rfl h);have h:=aI h;subst h;exact aT.ret hΓ
def jQ(aB:aK)(y1:ai)(k1:cH->Option aK):cH->Nat->cH->Option aK
 | [],i1,dW=>(k1 dW)
 |bL::bz,i1,dW=>((dR bL.pat).bind fun B8=>(bif room ((dW.map Action.c).length+([[D.int .i64 bL.kind,D.str B8.rel,D.sl (B8.args.map tx)]]).length) 48 then(jQ aB y1 k1 bz (i1+1) (dW++([(⟨bL.kind,B8⟩:Action)])))else none))
def p6(aB:aK):Option aK:=((qe aB.conds).bind fun y1=>(jQ aB y1 (fun(fC:cH)=>(some (⟨aB.name,aB.prio,y1,fC⟩:aK))) aB.cU 0 ([]:cH)))
def yp(aB:aK)(y1:ai)(W0:List aQ)(cR:Int):St:=⟨[(2,D.ptr 0 0),(3,D.ptr 1 0),(15,D.sl (aB.cU.map Action.c)),(16,D.int .i64 ((aB.cU.map Action.c).length:Int)),(17,D.int .i64 cR)],[Ob.box [D.str ([]),D.int .i64 0,D.nil,D.nil],Ob.box [D.str aB.name,D.int .i64 aB.prio,D.acc 2,D.acc 3],Ob.row .uq 115 5 (y1.map aL.c),Ob.row .uq 199 3 W0]⟩
theorem Es(hΓ:Γ.nt=34){aB:aK}{y1:ai}{r:aK}{k1:cH->Option aK}(cc:∀(fC:cH),k1 fC=some r->Ax Γ N f182 (.q [[none,none,some (115,5),some (199,3)]] (D.agg [D.str r.name,D.int .i64 r.prio,D.fr 115 5 (r.conds.map aL.c),D.fr 199 3 (r.cU.map Action.c)])) [1,1,1] ⟨[(2,D.ptr 0 0),(3,D.ptr 1 0)],[Ob.box [D.str ([]),D.int .i64 0,D.nil,D.nil],Ob.box [D.str aB.name,D.int .i64 aB.prio,D.acc 2,D.acc 3],Ob.row .uq 115 5 (y1.map aL.c),Ob.row .uq 199 3 (fC.map Action.c)]⟩)(hm1:aB.cU.length<=maxLen):∀(rest:cH) (i1:Nat) (dW:cH),aB.cU.drop i1=rest->jQ aB y1 k1 rest i1 dW=some r->Ar Γ N f182 (.q [[none,none,some (115,5),some (199,3)]] (D.agg [D.str r.name,D.int .i64 r.prio,D.fr 115 5 (r.conds.map aL.c),D.fr 199 3 (r.cU.map Action.c)])) [1,1,0,1,0] (rest.length+1) (yp aB y1 (dW.map Action.c) (i1:Int)):=by
 intro rest
 induction rest with
 |nil=>
  intro i1 dW aq h;rw[jQ]at h;refine aP fun N1 cC br=>?_
  exact((aT.ge Action.c aq).a [.hl 0 [2,3] [0,1,2,3]]).ex hΓ cC (cc dW h)
 |cons bL bz ih1=>
  intro i1 dW aq h;rw[jQ]at h;refine aP fun N1 cC br=>?_
  obtain⟨B8,h42,h⟩:=aE h;obtain⟨h43,h⟩:=bQ h;exact((((((aT.lt Action.c aq).l (az Action.c 3 (dc aq) rfl)).a [.n2 [0,1,2,3,4,5,6,7,8,9,10,11] [0,1,2,3,4,5,6,7,8,9,10,11] 8 9 [0,1] [5]]).g (qf h42)).w (bh h43)).a [.cn [2,3,15,16,17] [0,1,2,7]]).cs hΓ br (yp aB y1 ((dW.map Action.c)++([[D.int .i64 bL.kind,D.str B8.rel,D.sl (B8.args.map tx)]])) (IntKind.i64.wrap ((i1:Int)+1))) (by first| (simp only[iS aq hm1,mA]<;>rfl)| (simp only[iS aq hm1,mA,aC.c,aS.c,aL.c,Action.c,aK.c,aN.c,cX.c,aV.c,Node.c,aG.c,cg.c]<;>rfl)) (ih1 (i1+1) (dW++([(⟨bL.kind,B8⟩:Action)])) (dn aq) h)
theorem DG{aB:aK}{r:aK}(h:p6 aB=some r):Good prog 182 [D.agg (aK.c aB)] (D.agg [D.str r.name,D.int .i64 r.prio,D.fr 115 5 (r.conds.map aL.c),D.fr 199 3 (r.cU.map Action.c)]):=by
 refine gd func182 [[none,none,some (115,5),some (199,3)]] 34 fun hr Γ hΓ=>?_
 rw[p6]at h;obtain⟨y1,h2,h⟩:=aE h;refine(((aT.a [.n 9]).g (CM h2)).a [.pb 3 3 199 3,.cn [2,3,15,16,17] [1,3,2,4]]).lp hΓ (Es hΓ (fun fC h=>?_) (by have:=(eN.sl (eN.agg (hr _ (aD (i:=0) rfl)) (.sl (aB.cU.map Action.c)) (by simp))).1;simpa using this) aB.cU 0 ([]:cH) rfl h);cases h;exact aT.ret hΓ
def ke(aB:ah)(k1:ah->Option ah):ah->Nat->ah->Option ah
 | [],i1,bA=>(k1 bA)
 |bL::bz,i1,bA=>((p6 bL).bind fun nK=>(bif room ((bA.map aK.c).length+([[D.str nK.name,D.int .i64 nK.prio,D.sl (nK.conds.map aL.c),D.sl (nK.cU.map Action.c)]]).length) 72 then(ke aB k1 bz (i1+1) (bA++([nK])))else none))
def ny(aB:ah):Option ah:=(ke aB (fun(bf:ah)=>(some bf)) aB 0 ([]:ah))
def xp(aB:ah)(W0:List aQ)(cR:Int):St:=⟨[(3,D.acc 0),(6,D.sl (aB.map aK.c)),(7,D.int .i64 ((aB.map aK.c).length:Int)),(8,D.int .i64 cR)],[Ob.row .uq 105 4 W0]⟩
theorem DH(hΓ:Γ.nt=19){aB:ah}{r:ah}{k1:ah->Option ah}(cc:∀(bf:ah),k1 bf=some r->Ax Γ N f109 (.q [[some (105,4)]] (D.fr 105 4 (r.map aK.c))) [1,1,1] ⟨[(3,D.acc 0)],[Ob.row .uq 105 4 (bf.map aK.c)]⟩)(hm1:aB.length<=maxLen):∀(rest:ah) (i1:Nat) (bA:ah),aB.drop i1=rest->ke aB k1 rest i1 bA=some r->Ar Γ N f109 (.q [[some (105,4)]] (D.fr 105 4 (r.map aK.c))) [1,1,0,1,0] (rest.length+1) (xp aB (bA.map aK.c) (i1:Int)):=by
 intro rest
 induction rest with
 |nil=>
  intro i1 bA aq h;rw[ke]at h;refine aP fun N1 cC br=>?_
  exact((aT.ge aK.c aq).a [.hl 0 [3] [0]]).ex hΓ cC (cc bA h)
 |cons bL bz ih1=>
  intro i1 bA aq h;rw[ke]at h;refine aP fun N1 cC br=>?_
  obtain⟨nK,h28,h⟩:=aE h;obtain⟨h29,h⟩:=bQ h;exact(((((aT.lt aK.c aq).l (az aK.c 4 (dc aq) rfl)).g (DG h28)).w (bh h29)).a [.cn [3,6,7,8] [5]]).cs hΓ br (xp aB ((bA.map aK.c)++([[D.str nK.name,D.int .i64 nK.prio,D.sl (nK.conds.map aL.c),D.sl (nK.cU.map Action.c)]])) (IntKind.i64.wrap ((i1:Int)+1))) (by first| (simp only[iS aq hm1,mA]<;>rfl)| (simp only[iS aq hm1,mA,aC.c,aS.c,aL.c,Action.c,aK.c,aN.c,cX.c,aV.c,Node.c,aG.c,cg.c]<;>rfl)) (ih1 (i1+1) (bA++([nK])) (dn aq) h)
theorem wF{aB:ah}{r:ah}(h:ny aB=some r):Good prog 109 [D.sl (aB.map aK.c)] (D.fr 105 4 (r.map aK.c)):=by
 refine gd func109 [[some (105,4)]] 19 fun hr Γ hΓ=>?_
 rw[ny]at h;refine(aT.a [.Kc 3,.cn [3,6,7,8] [0]]).lp hΓ (DH hΓ (fun bf h=>?_) (by have:=(eN.sl (hr _ (aD (i:=0) rfl))).1;simpa using this) aB 0 ([]:ah) rfl h);have h:=aI h;subst h;exact aT.ret hΓ
def rX(aB:bR):Option bR:=(bif room (([]:List aQ).length+(aB.map gS).length) 8 then(some (([]:bR)++aB))else none)
theorem DF{aB:bR}{r:bR}(h:rX aB=some r):Good prog 110 [D.sl (aB.map gS)] (D.fr 3 1 (r.map gS)):=by
 refine gd func110 [[some (3,1)]] 5 fun hr Γ hΓ=>?_
 rw[rX]at h;obtain⟨h1,h⟩:=bQ h;cases h;exact(((aT.w (bh h1)).w (show(∀r∈(aB.map gS),r.length=1)/\(true=true->D.mN (aB.map gS)=true)from⟨by first|simp| (intro r hr;obtain⟨x,_,rfl⟩:=cB.1 (bw (fc hr));rfl),by simp[D.mN,D.flat]⟩)).a [.Kc 2,.fl true]).rts hΓ (D.fr 3 1 (([]:List aQ)++(aB.map gS))) (by first|rfl| (simp only[mA]<;>rfl)| (simp only[cK,mA]<;>rfl))
def dQ(aB:aC):Option aC:=((lP aB.args).bind fun y1=>(some (⟨aB.rel,y1⟩:aC)))
theorem fk{aB:aC}{r:aC}(h:dQ aB=some r):Good prog 183 [D.agg (aC.c aB)] (D.agg [D.str r.rel,D.fr 9 1 (r.args.map tx)]):=by
 refine gd func183 [[none,some (9,1)]] 9 fun hr Γ hΓ=>?_
 rw[dQ]at h;obtain⟨y1,h2,h⟩:=aE h;cases h;exact((aT.a [.n 5]).g (sj h2)).ret hΓ
def kZ(aB:aJ)(k1:aJ->Option aJ):aJ->Nat->aJ->Option aJ
 | [],i1,bA=>(k1 bA)
 |bL::bz,i1,bA=>((dQ bL).bind fun nK=>(bif room ((bA.map aC.c).length+([[D.str nK.rel,D.sl (nK.args.map tx)]]).length) 40 then(kZ aB k1 bz (i1+1) (bA++([nK])))else none))
def cS(aB:aJ):Option aJ:=(kZ aB (fun(bf:aJ)=>(some bf)) aB 0 ([]:aJ))
def xo(aB:aJ)(W0:List aQ)(cR:Int):St:=⟨[(3,D.acc 0),(6,D.sl (aB.map aC.c)),(7,D.int .i64 ((aB.map aC.c).length:Int)),(8,D.int .i64 cR)],[Ob.row .uq 53 2 W0]⟩
theorem DE(hΓ:Γ.nt=19){aB:aJ}{r:aJ}{k1:aJ->Option aJ}(cc:∀(bf:aJ),k1 bf=some r->Ax Γ N f111 (.q [[some (53,2)]] (D.fr 53 2 (r.map aC.c))) [1,1,1] ⟨[(3,D.acc 0)],[Ob.row .uq 53 2 (bf.map aC.c)]⟩)(hm1:aB.length<=maxLen):∀(rest:aJ) (i1:Nat) (bA:aJ),aB.drop i1=rest->kZ aB k1 rest i1 bA=some r->Ar Γ N f111 (.q [[some (53,2)]] (D.fr 53 2 (r.map aC.c))) [1,1,0,1,0] (rest.length+1) (xo aB (bA.map aC.c) (i1:Int)):=by
 intro rest
 induction rest with
 |nil=>
  intro i1 bA aq h;rw[kZ]at h;refine aP fun N1 cC br=>?_
  exact((aT.ge aC.c aq).a [.hl 0 [3] [0]]).ex hΓ cC (cc bA h)
 |cons bL bz ih1=>
  intro i1 bA aq h;rw[kZ]at h;refine aP fun N1 cC br=>?_
  obtain⟨nK,h28,h⟩:=aE h;obtain⟨h29,h⟩:=bQ h;exact(((((aT.lt aC.c aq).l (az aC.c 2 (dc aq) rfl)).g (fk h28)).w (bh h29)).a [.cn [3,6,7,8] [4]]).cs hΓ br (xo aB ((bA.map aC.c)++([[D.str nK.rel,D.sl (nK.args.map tx)]])) (IntKind.i64.wrap ((i1:Int)+1))) (by first| (simp only[iS aq hm1,mA]<;>rfl)| (simp only[iS aq hm1,mA,aC.c,aS.c,aL.c,Action.c,aK.c,aN.c,cX.c,aV.c,Node.c,aG.c,cg.c]<;>rfl)) (ih1 (i1+1) (bA++([nK])) (dn aq) h)
theorem eM{aB:aJ}{r:aJ}(h:cS aB=some r):Good prog 111 [D.sl (aB.map aC.c)] (D.fr 53 2 (r.map aC.c)):=by
 refine gd func111 [[some (53,2)]] 19 fun hr Γ hΓ=>?_
 rw[cS]at h;refine(aT.a [.Kc 3,.cn [3,6,7,8] [0]]).lp hΓ (DE hΓ (fun bf h=>?_) (by have:=(eN.sl (hr _ (aD (i:=0) rfl))).1;simpa using this) aB 0 ([]:aJ) rfl h);have h:=aI h;subst h;exact aT.ret hΓ
def iL(aB:aR):Option aR:=(bif room (([]:List aQ).length+(aB.map aS.c).length) 32 then(some (([]:aR)++aB))else none)
theorem si{aB:aR}{r:aR}(h:iL aB=some r):Good prog 185 [D.sl (aB.map aS.c)] (D.fr 152 2 (r.map aS.c)):=by
 refine gd func185 [[some (152,2)]] 5 fun hr Γ hΓ=>?_
 rw[iL]at h;obtain⟨h1,h⟩:=bQ h;cases h;exact(((aT.w (bh h1)).w (show(∀r∈(aB.map aS.c),r.length=2)/\(true=true->D.mN (aB.map aS.c)=true)from⟨by first|simp| (intro r hr;obtain⟨x,_,rfl⟩:=cB.1 (bw (fc hr));rfl),by simp[D.mN,D.flat]⟩)).a [.Kc 2,.fl true]).rts hΓ (D.fr 152 2 (([]:List aQ)++(aB.map aS.c))) (by first|rfl| (simp only[mA]<;>rfl)| (simp only[cK,mA]<;>rfl))
def gj(aB:aj)(k1:aj->Option aj):aj->Nat->aj->Option aj
 | [],i1,bA=>(k1 bA)
 |bL::bz,i1,bA=>((cS bL.facts).bind fun y61=>((iL bL.bind).bind fun y63=>(bif room ((bA.map aN.c).length+([[D.sl (y61.map aC.c),D.sl (y63.map aS.c)]]).length) 48 then(gj aB k1 bz (i1+1) (bA++([(⟨y61,y63⟩:aN)])))else none)))
def kE(aB:aj):Option aj:=(gj aB (fun(bf:aj)=>(some bf)) aB 0 ([]:aj))
def x7(aB:aj)(W0:List aQ)(cR:Int):St:=⟨[(3,D.acc 0),(6,D.sl (aB.map aN.c)),(7,D.int .i64 ((aB.map aN.c).length:Int)),(8,D.int .i64 cR)],[Ob.row .uq 124 2 W0]⟩
theorem CN(hΓ:Γ.nt=24){aB:aj}{r:aj}{k1:aj->Option aj}(cc:∀(bf:aj),k1 bf=some r->Ax Γ N f114 (.q [[some (124,2)]] (D.fr 124 2 (r.map aN.c))) [1,1,1] ⟨[(3,D.acc 0)],[Ob.row .uq 124 2 (bf.map aN.c)]⟩)(hm1:aB.length<=maxLen):∀(rest:aj) (i1:Nat) (bA:aj),aB.drop i1=rest->gj aB k1 rest i1 bA=some r->Ar Γ N f114 (.q [[some (124,2)]] (D.fr 124 2 (r.map aN.c))) [1,1,0,1,0] (rest.length+1) (x7 aB (bA.map aN.c) (i1:Int)):=by
 intro rest
 induction rest with
 |nil=>
  intro i1 bA aq h;rw[gj]at h;refine aP fun N1 cC br=>?_
  exact((aT.ge aN.c aq).a [.hl 0 [3] [0]]).ex hΓ cC (cc bA h)
 |cons bL bz ih1=>
  intro i1 bA aq h;rw[gj]at h;refine aP fun N1 cC br=>?_
  obtain⟨y61,h62,h⟩:=aE h;obtain⟨y63,h64,h⟩:=aE h;obtain⟨h65,h⟩:=bQ h;exact(((((((aT.lt aN.c aq).l (az aN.c 2 (dc aq) rfl)).a [.n2 [0,1,2,3,4,5,6,7,8,9,10] [0,1,2,3,4,5,6,7,8,9,10] 8 9 [0] [2,3]]).g (eM h62)).g (si h64)).w (bh h65)).a [.cn [3,6,7,8] [5]]).cs hΓ br (x7 aB ((bA.map aN.c)++([[D.sl (y61.map aC.c),D.sl (y63.map aS.c)]])) (IntKind.i64.wrap ((i1:Int)+1))) (by first| (simp only[iS aq hm1,mA]<;>rfl)| (simp only[iS aq hm1,mA,aC.c,aS.c,aL.c,Action.c,aK.c,aN.c,cX.c,aV.c,Node.c,aG.c,cg.c]<;>rfl)) (ih1 (i1+1) (bA++([(⟨y61,y63⟩:aN)])) (dn aq) h)
theorem BY{aB:aj}{r:aj}(h:kE aB=some r):Good prog 114 [D.sl (aB.map aN.c)] (D.fr 124 2 (r.map aN.c)):=by
 refine gd func114 [[some (124,2)]] 24 fun hr Γ hΓ=>?_
 rw[kE]at h;refine(aT.a [.Kc 3,.cn [3,6,7,8] [0]]).lp hΓ (CN hΓ (fun bf h=>?_) (by have:=(eN.sl (hr _ (aD (i:=0) rfl))).1;simpa using this) aB 0 ([]:aj) rfl h);have h:=aI h;subst h;exact aT.ret hΓ
def gN(aB:aG)(y1:ah)(y3:bR)(y5:aJ)(k1:bD->Option aG):bD->Nat->bD->Option aG
 | [],i1,gW=>(k1 gW)
 |bL::bz,i1,gW=>((dR bL.shape).bind fun Ul=>((cS bL.facts).bind fun y69=>(bif room ((gW.map aV.c).length+([[D.str Ul.rel,D.sl (Ul.args.map tx),D.sl (y69.map aC.c)]]).length) 64 then(gN aB y1 y3 y5 k1 bz (i1+1) (gW++([(⟨Ul,y69⟩:aV)])))else none)))
def gO(aB:aG)(y1:ah)(y3:bR)(y5:aJ)(mC:bD)(k2:b9->Option aG):b9->Nat->b9->Option aG
 | [],i2,uA=>(k2 uA)
 |k8::tf,i2,uA=>((eY k8.cond).bind fun Fo=>((kE k8.tokens).bind fun Xv=>(bif room ((uA.map Node.c).length+([[D.int .i64 k8.parent,D.int .i64 Fo.kind,D.str Fo.pat.rel,D.sl (Fo.pat.args.map tx),D.str Fo.left,D.str Fo.right,D.int .i64 k8.cQ,D.sl (Xv.map aN.c)]]).length) 120 then(gO aB y1 y3 y5 mC k2 tf (i2+1) (uA++([(⟨k8.parent,Fo,k8.cQ,Xv⟩:Node)])))else none)))
def gi(aB:aG):Option aG:=((ny aB.rules).bind fun y1=>((rX aB.ends).bind fun y3=>((cS aB.facts).bind fun y5=>(gN aB y1 y3 y5 (fun(mC:bD)=>(gO aB y1 y3 y5 mC (fun(sw:b9)=>(some (⟨y1,y3,mC,sw,y5,aB.bn⟩:aG))) aB.nodes 0 ([]:b9))) aB.av 0 ([]:bD)))))
def wD(aB:aG)(y1:ah)(y3:bR)(y5:aJ)(W0:List aQ)(cR:Int):St:=⟨[(1,D.ptr 0 0),(2,D.ptr 1 0),(3,D.ptr 2 0),(21,D.sl (aB.av.map aV.c)),(22,D.int .i64 ((aB.av.map aV.c).length:Int)),(23,D.int .i64 cR)],[Ob.box (aG.c aB),Ob.box [D.nil,D.nil,D.nil,D.nil,D.nil,D.int .i64 0],Ob.box [D.acc 3,D.acc 4,D.acc 5,D.nil,D.acc 6,D.int .i64 aB.bn],Ob.row .uq 105 4 (y1.map aK.c),Ob.row .uq 3 1 (y3.map gS),Ob.row .uq 111 3 W0,Ob.row .uq 53 2 (y5.map aC.c)]⟩
theorem BW(hΓ:Γ.nt=65){aB:aG}{y1:ah}{y3:bR}{y5:aJ}{r:aG}{k1:bD->Option aG}(cc:∀(mC:bD),k1 mC=some r->Ax Γ N f53 (.q [[some (105,4),some (3,1),some (111,3),some (118,8),some (53,2),none]] (D.agg [D.fr 105 4 (r.rules.map aK.c),D.fr 3 1 (r.ends.map gS),D.fr 111 3 (r.av.map aV.c),D.fr 118 8 (r.nodes.map Node.c),D.fr 53 2 (r.facts.map aC.c),D.int .i64 r.bn])) [1,1,1] ⟨[(1,D.ptr 0 0),(2,D.ptr 1 0),(3,D.ptr 2 0)],[Ob.box (aG.c aB),Ob.box [D.nil,D.nil,D.nil,D.nil,D.nil,D.int .i64 0],Ob.box [D.acc 3,D.acc 4,D.acc 5,D.nil,D.acc 6,D.int .i64 aB.bn],Ob.row .uq 105 4 (y1.map aK.c),Ob.row .uq 3 1 (y3.map gS),Ob.row .uq 111 3 (mC.map aV.c),Ob.row .uq 53 2 (y5.map aC.c)]⟩)(hm1:aB.av.length<=maxLen):∀(rest:bD) (i1:Nat) (gW:bD),aB.av.drop i1=rest->gN aB y1 y3 y5 k1 rest i1 gW=some r->Ar Γ N f53 (.q [[some (105,4),some (3,1),some (111,3),some (118,8),some (53,2),none]] (D.agg [D.fr 105 4 (r.rules.map aK.c),D.fr 3 1 (r.ends.map gS),D.fr 111 3 (r.av.map aV.c),D.fr 118 8 (r.nodes.map Node.c),D.fr 53 2 (r.facts.map aC.c),D.int .i64 r.bn])) [1,1,0,1,0] (rest.length+1) (wD aB y1 y3 y5 (gW.map aV.c) (i1:Int)):=by
 intro rest
 induction rest with
 |nil=>
  intro i1 gW aq h;rw[gN]at h;refine aP fun N1 cC br=>?_
  exact((aT.ge aV.c aq).a [.hl 0 [1,2,3] [0,1,2,3,4,5,6]]).ex hΓ cC (cc gW h)
 |cons bL bz ih1=>
  intro i1 gW aq h;rw[gN]at h;refine aP fun N1 cC br=>?_
  obtain⟨Ul,h68,h⟩:=aE h;obtain⟨y69,h70,h⟩:=aE h;obtain⟨h71,h⟩:=bQ h;exact(((((((aT.lt aV.c aq).l (az aV.c 3 (dc aq) rfl)).a [.n2 [0,1,2,3,4,5,6,7,8,9,10,11,12] [0,1,2,3,4,5,6,7,8,9,10,11,12] 9 10 [0,1] [8,9]]).g (qf h68)).g (eM h70)).w (bh h71)).a [.cn [1,2,3,21,22,23] [0,1,2,3,4,11,6]]).cs hΓ br (wD aB y1 y3 y5 ((gW.map aV.c)++([[D.str Ul.rel,D.sl (Ul.args.map tx),D.sl (y69.map aC.c)]])) (IntKind.i64.wrap ((i1:Int)+1))) (by first| (simp only[iS aq hm1,mA]<;>rfl)| (simp only[iS aq hm1,mA,aC.c,aS.c,aL.c,Action.c,aK.c,aN.c,cX.c,aV.c,Node.c,aG.c,cg.c]<;>rfl)) (ih1 (i1+1) (gW++([(⟨Ul,y69⟩:aV)])) (dn aq) h)
def wE(aB:aG)(y1:ah)(y3:bR)(y5:aJ)(mC:bD)(W0:List aQ)(cR:Int):St:=⟨[(2,D.ptr 0 0),(3,D.ptr 1 0),(41,D.sl (aB.nodes.map Node.c)),(42,D.int .i64 ((aB.nodes.map Node.c).length:Int)),(43,D.int .i64 cR)],[Ob.box [D.nil,D.nil,D.nil,D.nil,D.nil,D.int .i64 0],Ob.box [D.acc 2,D.acc 3,D.acc 4,D.acc 5,D.acc 6,D.int .i64 aB.bn],Ob.row .uq 105 4 (y1.map aK.c),Ob.row .uq 3 1 (y3.map gS),Ob.row .uq 111 3 (mC.map aV.c),Ob.row .uq 118 8 W0,Ob.row .uq 53 2 (y5.map aC.c)]⟩
theorem BX(hΓ:Γ.nt=65){aB:aG}{y1:ah}{y3:bR}{y5:aJ}{mC:bD}{r:aG}{k2:b9->Option aG}(zf:∀(sw:b9),k2 sw=some r->Ax Γ N f53 (.q [[some (105,4),some (3,1),some (111,3),some (118,8),some (53,2),none]] (D.agg [D.fr 105 4 (r.rules.map aK.c),D.fr 3 1 (r.ends.map gS),D.fr 111 3 (r.av.map aV.c),D.fr 118 8 (r.nodes.map Node.c),D.fr 53 2 (r.facts.map aC.c),D.int .i64 r.bn])) [1,1,1,1] ⟨[(2,D.ptr 0 0),(3,D.ptr 1 0)],[Ob.box [D.nil,D.nil,D.nil,D.nil,D.nil,D.int .i64 0],Ob.box [D.acc 2,D.acc 3,D.acc 4,D.acc 5,D.acc 6,D.int .i64 aB.bn],Ob.row .uq 105 4 (y1.map aK.c),Ob.row .uq 3 1 (y3.map gS),Ob.row .uq 111 3 (mC.map aV.c),Ob.row .uq 118 8 (sw.map Node.c),Ob.row .uq 53 2 (y5.map aC.c)]⟩)(hm2:aB.nodes.length<=maxLen):∀(rest:b9) (i2:Nat) (uA:b9),aB.nodes.drop i2=rest->gO aB y1 y3 y5 mC k2 rest i2 uA=some r->Ar Γ N f53 (.q [[some (105,4),some (3,1),some (111,3),some (118,8),some (53,2),none]] (D.agg [D.fr 105 4 (r.rules.map aK.c),D.fr 3 1 (r.ends.map gS),D.fr 111 3 (r.av.map aV.c),D.fr 118 8 (r.nodes.map Node.c),D.fr 53 2 (r.facts.map aC.c),D.int .i64 r.bn])) [1,1,1,0,1,0] (rest.length+1) (wE aB y1 y3 y5 mC (uA.map Node.c) (i2:Int)):=by
 intro rest
 induction rest with
 |nil=>
  intro i2 uA hd2 h;rw[gO]at h;refine aP fun N2 ul sA=>?_
  exact((aT.ge Node.c hd2).a [.hl 0 [2,3] [0,1,2,3,4,5,6]]).ex hΓ ul (zf uA h)
 |cons k8 tf ih2=>
  intro i2 uA hd2 h;rw[gO]at h;refine aP fun N2 ul sA=>?_
  obtain⟨Fo,h133,h⟩:=aE h;obtain⟨Xv,h135,h⟩:=aE h;obtain⟨h136,h⟩:=bQ h;exact(((((((aT.lt Node.c hd2).l (az Node.c 8 (dc hd2) rfl)).a [.n2 [0,1,2,3,4,5,6,7,8,9,10,11,12,13,14,15,16] [0,1,2,3,4,5,6,7,8,9,10,11,12,13,14,15,16] 13 14 [0,1] [8,9]]).g (jo h133)).g (BY h135)).w (bh h136)).a [.cn [2,3,41,42,43] [0,1,2,3,4,11,6]]).cs hΓ sA (wE aB y1 y3 y5 mC ((uA.map Node.c)++([[D.int .i64 k8.parent,D.int .i64 Fo.kind,D.str Fo.pat.rel,D.sl (Fo.pat.args.map tx),D.str Fo.left,D.str Fo.right,D.int .i64 k8.cQ,D.sl (Xv.map aN.c)]])) (IntKind.i64.wrap ((i2:Int)+1))) (by first| (simp only[iS hd2 hm2,mA]<;>rfl)| (simp only[iS hd2 hm2,mA,aC.c,aS.c,aL.c,Action.c,aK.c,aN.c,cX.c,aV.c,Node.c,aG.c,cg.c]<;>rfl)) (ih2 (i2+1) (uA++([(⟨k8.parent,Fo,k8.cQ,Xv⟩:Node)])) (dn hd2) h)
theorem mY{aB:aG}{r:aG}(h:gi aB=some r):Good prog 53 [D.agg (aG.c aB)] (D.agg [D.fr 105 4 (r.rules.map aK.c),D.fr 3 1 (r.ends.map gS),D.fr 111 3 (r.av.map aV.c),D.fr 118 8 (r.nodes.map Node.c),D.fr 53 2 (r.facts.map aC.c),D.int .i64 r.bn]):=by
 refine gd func53 [[some (105,4),some (3,1),some (111,3),some (118,8),some (53,2),none]] 65 fun hr Γ hΓ=>?_
 rw[gi]at h;obtain⟨y1,h2,h⟩:=aE h;obtain⟨y3,h4,h⟩:=aE h;obtain⟨y5,h6,h⟩:=aE h;refine(((((aT.a [.n 13]).g (wF h2)).g (DF h4)).g (eM h6)).a [.pb 5 2 111 3,.cn [1,2,3,21,22,23] [0,1,5,2,3,6,4]]).lp hΓ (BW hΓ (fun mC h=>?_) (by have:=(eN.sl (eN.agg (hr _ (aD (i:=0) rfl)) (.sl (aB.av.map aV.c)) (by simp))).1;simpa using this) aB.av 0 ([]:bD) rfl h);refine(aT.a [.pb 2 3 118 8,.cn [2,3,41,42,43] [1,2,3,4,5,7,6]]).lp hΓ (BX hΓ (fun sw h=>?_) (by have:=(eN.sl (eN.agg (hr _ (aD (i:=0) rfl)) (.sl (aB.nodes.map Node.c)) (by simp))).1;simpa using this) aB.nodes 0 ([]:b9) rfl h);cases h;exact aT.ret hΓ
def fQ(aB:Bytes)(k1:Option Bool):Nat->Int->Option Bool
 |0,_=>none
 |n1+1,qL=>(bif decide ((qL:Int)<(aB.length:Int))then((lF aB qL).bind fun b31=>(bif decide ((b31.toNat:Int)<97)then(bif decide ((b31.toNat:Int)<48)then(some false)else(bif decide ((b31.toNat:Int)>57)then(some false)else(fQ aB k1 n1 (IntKind.i64.wrap (qL+1)))))else(bif decide ((b31.toNat:Int)>122)then(bif decide ((b31.toNat:Int)<48)then(some false)else(bif decide ((b31.toNat:Int)>57)then(some false)else(fQ aB k1 n1 (IntKind.i64.wrap (qL+1)))))else(fQ aB k1 n1 (IntKind.i64.wrap (qL+1))))))else(k1))
def ew(aB:Bytes):Option Bool:=(bif decide (((aB.length:Int):Int)<1)then(some false)else(bif decide (((aB.length:Int):Int)>8)then(some false)else(fQ aB (some true) fuel 0)))
def JO(aB:Bytes)(qL:Int):St:=⟨[(0,D.str aB),(3,D.int .i64 qL)],[]⟩
theorem Ho(hΓ:Γ.nt=40){aB:Bytes}{r:Bool}{k1:Option Bool}(cc:k1=some r->Ax Γ N f191 (.q [[none]] (D.bool r)) [1,1,1] ⟨[],[]⟩):∀(n1:Nat) (qL:Int),fQ aB k1 n1 qL=some r->Ar Γ N f191 (.q [[none]] (D.bool r)) [1,1,0,1,0] n1 (JO aB qL):=by
 intro n
 induction n with
 |zero=>intro qL h;simp[fQ]at h
 |succ n1 ih1=>
  intro qL h;rw[fQ]at h;refine aP fun N1 cC br=>?_
  obtain⟨h30,h⟩|⟨h30,h⟩:=aM h
  ·obtain⟨b31,h32,h⟩:=aE h;have AA:=((aT.b h30).c h32)
   obtain⟨h33,h⟩|⟨h33,h⟩:=aM h
   ·have G0:=((((AA.r 5 h33).T 3).c h32).T 2)
    obtain⟨h34,h⟩|⟨h34,h⟩:=aM h
    ·have h:=aI h;subst h;exact((((G0.r 4 h34).T 1).b h34).T 2).ret hΓ
    ·have KB:=((((((G0.r 3 h34).c h32).b h34).T 1).b h34).T 1)
     obtain⟨h35,h⟩|⟨h35,h⟩:=aM h
     ·have h:=aI h;subst h;exact(KB.b h35).ret hΓ
     ·exact((KB.b h35).a [.cn [0,3] []]).cf hΓ br (ih1 (IntKind.i64.wrap (qL+1)) h)
   ·have B2:=(((AA.r 3 h33).c h32).r 2 h33)
    obtain⟨h36,h⟩|⟨h36,h⟩:=aM h
    ·have It:=(((B2.r 3 h36).c h32).r 2 h36)
     obtain⟨h37,h⟩|⟨h37,h⟩:=aM h
     ·have h:=aI h;subst h;exact(((((It.r 4 h37).b h36).b h37).b h36).T 1).ret hΓ
     ·have A9:=((((((It.r 3 h37).c h32).b h37).b h36).b h37).b h36)
      obtain⟨h38,h⟩|⟨h38,h⟩:=aM h
      ·have h:=aI h;subst h;exact(A9.b h38).ret hΓ
      ·exact((A9.b h38).a [.cn [0,3] []]).cf hΓ br (ih1 (IntKind.i64.wrap (qL+1)) h)
    ·exact(((B2.r 7 h36).F 1).a [bF,bF,bF,bF,.cn [0,3] []]).cf hΓ br (ih1 (IntKind.i64.wrap (qL+1)) h)
  ·exact((aT.b h30).a [.hl 0 [] []]).ex hΓ cC (cc h)
theorem eD{aB:Bytes}{r:Bool}(h:ew aB=some r):Good prog 191 [D.str aB] (D.bool r):=by
 refine gd func191 [[none]] 40 fun hr Γ hΓ=>?_
 rw[ew]at h;obtain⟨h1,h⟩|⟨h1,h⟩:=aM h
 ·have h:=aI h;subst h;exact((aT.r 4 h1).T 1).ret hΓ
 ·have Iu:=(aT.r 4 h1)
  obtain⟨h2,h⟩|⟨h2,h⟩:=aM h
  ·have h:=aI h;subst h;exact(Iu.b h2).ret hΓ
  ·refine((Iu.b h2).a [.cn [0,3] []]).lp hΓ (Ho hΓ (fun h=>?_) fuel 0 h);have h:=aI h;subst h;exact aT.ret hΓ
def q8(aB:Bytes):Option Bool:=((ew aB).bind fun y1=>(bif y1 then((lF aB 0).bind fun b4=>(some (decide ((b4.toNat:Int)>=97))))else(some false)))
theorem lJ{aB:Bytes}{r:Bool}(h:q8 aB=some r):Good prog 211 [D.str aB] (D.bool r):=by
 refine gd func211 [[none]] 10 fun hr Γ hΓ=>?_
 rw[q8]at h;obtain⟨y1,h2,h⟩:=aE h;obtain⟨h3,h⟩|⟨h3,h⟩:=aM h
 ·obtain⟨b4,h5,h⟩:=aE h;cases h;exact((((aT.g (eD h2)).r 2 h3).c h5).r 2 h3).ret hΓ
 ·have h:=aI h;subst h;exact((aT.g (eD h2)).r 4 h3).ret hΓ
def kB(aB:Bytes):Option Bool:=(bif decide (((aB.length:Int):Int)>1)then((lF aB 0).bind fun b2=>(bif (b2.toNat:Int)==63 then((Kb aB.length (some (D.int .i64 1)) none).bind fun p=>(fun l5 u6=>((ew ((aB.take u6).drop l5)).bind fun y8=>(some y8))) p.1 p.2)else(some false)))else(some false))
theorem mV{aB:Bytes}{r:Bool}(h:kB aB=some r):Good prog 192 [D.str aB] (D.bool r):=by
 refine gd func192 [[none]] 16 fun hr Γ hΓ=>?_
 rw[kB]at h;obtain⟨h1,h⟩|⟨h1,h⟩:=aM h
 ·obtain⟨b2,h3,h⟩:=aE h;have mQ:=(((aT.r 2 h1).c h3).r 2 h1)
  obtain⟨h4,h⟩|⟨h4,h⟩:=aM h
  ·obtain⟨⟨l5,u6⟩,h7,h⟩:=aE h;obtain⟨y8,h9,h⟩:=aE h;have h:=aI h;subst h;exact((((((mQ.r 2 h4).w h7).a [.cut l5 u6]).b h4).g (eD h9)).b h4).ret hΓ
  ·have h:=aI h;subst h;exact(mQ.r 4 h4).ret hΓ
 ·have h:=aI h;subst h;exact((aT.r 4 h1).F 4).ret hΓ
def iB(aB:Bytes):Option Bool:=((ew aB).bind fun y1=>(bif y1 then(some true)else((kB aB).bind fun y4=>(some y4))))
theorem jN{aB:Bytes}{r:Bool}(h:iB aB=some r):Good prog 262 [D.str aB] (D.bool r):=by
 refine gd func262 [[none]] 9 fun hr Γ hΓ=>?_
 rw[iB]at h;obtain⟨y1,h2,h⟩:=aE h;obtain⟨h3,h⟩|⟨h3,h⟩:=aM h
 ·have h:=aI h;subst h;exact((aT.g (eD h2)).r 3 h3).ret hΓ
 ·obtain⟨y4,h5,h⟩:=aE h;have h:=aI h;subst h;exact((((aT.g (eD h2)).r 2 h3).g (mV h5)).b h3).ret hΓ
def kW(aB:aC)(k1:Option Bool):aH->Nat->Option Bool
 | [],i1=>(k1)
 |bL::bz,i1=>((iB bL).bind fun SE=>(bif !(SE)then(some false)else(kW aB k1 bz (i1+1))))
def iH(aB:aC):Option Bool:=((q8 aB.rel).bind fun y1=>(bif !(y1)then(some false)else(bif decide ((((aB.args.map tx).length:Int):Int)>3)then(some false)else(kW aB (some true) aB.args 0))))
def Ek(aB:aC)(cR:Int):St:=⟨[(16,D.sl (aB.args.map tx)),(17,D.int .i64 ((aB.args.map tx).length:Int)),(18,D.int .i64 cR)],[]⟩
theorem D8(hΓ:Γ.nt=26){aB:aC}{r:Bool}{k1:Option Bool}(cc:k1=some r->Ax Γ N f261 (.q [[none]] (D.bool r)) [1,1,1] ⟨[],[]⟩)(hm1:aB.args.length<=maxLen):∀(rest:aH) (i1:Nat),aB.args.drop i1=rest->kW aB k1 rest i1=some r->Ar Γ N f261 (.q [[none]] (D.bool r)) [1,1,0,1,0] (rest.length+1) (Ek aB (i1:Int)):=by
 intro rest
 induction rest with
 |nil=>
  intro i1 aq h;rw[kW]at h;refine aP fun N1 cC br=>?_
  exact((aT.ge tx aq).a [.hl 0 [] []]).ex hΓ cC (cc h)
 |cons bL bz ih1=>
  intro i1 aq h;rw[kW]at h;refine aP fun N1 cC br=>?_
  obtain⟨SE,h26,h⟩:=aE h;have eH:=(((aT.lt tx aq).l (az tx 1 (dc aq) rfl)).g (jN h26))
  obtain⟨h27,h⟩|⟨h27,h⟩:=aM h
  ·have h:=aI h;subst h;exact(eH.b h27).ret hΓ
  ·exact((eH.b h27).a [.cn [16,17,18] []]).ct hΓ br (iS aq hm1) (ih1 (i1+1) (dn aq) h)
theorem jC{aB:aC}{r:Bool}(h:iH aB=some r):Good prog 261 [D.agg (aC.c aB)] (D.bool r):=by
 refine gd func261 [[none]] 26 fun hr Γ hΓ=>?_
 rw[iH]at h;obtain⟨y1,h2,h⟩:=aE h;obtain⟨h3,h⟩|⟨h3,h⟩:=aM h
 ·have h:=aI h;subst h;exact(((aT.g (lJ h2)).r 5 h3).T 1).ret hΓ
 ·have kx:=((aT.g (lJ h2)).r 5 h3)
  obtain⟨h4,h⟩|⟨h4,h⟩:=aM h
  ·have h:=aI h;subst h;exact(kx.b h4).ret hΓ
  ·refine((kx.b h4).a [.cn [16,17,18] []]).lp hΓ (D8 hΓ (fun h=>?_) (by have:=(eN.sl (eN.agg (hr _ (aD (i:=0) rfl)) (.sl (aB.args.map tx)) (by simp))).1;simpa using this) aB.args 0 rfl h);have h:=aI h;subst h;exact aT.ret hΓ
def gq(aB:aC):Option Bool:=(bif (aB.rel:Bytes)==([])then(some ((((aB.args.map tx).length:Int):Int)==0))else(some false))
theorem me{aB:aC}{r:Bool}(h:gq aB=some r):Good prog 263 [D.agg (aC.c aB)] (D.bool r):=by
 refine gd func263 [[none]] 12 fun hr Γ hΓ=>?_
 rw[gq]at h;obtain⟨h1,h⟩|⟨h1,h⟩:=aM h
 ·cases h;exact(aT.r 5 h1).ret hΓ
 ·have h:=aI h;subst h;exact(aT.r 5 h1).ret hΓ
def pz(aB:aL):Option Bool:=(bif (aB.kind:Int)==1 then((iH aB.pat).bind fun y2=>(bif y2 then(bif (aB.left:Bytes)==([])then(some ((aB.right:Bytes)==([])))else(some false))else(some false)))else(bif (aB.kind:Int)==2 then((iH aB.pat).bind fun y7=>(bif y7 then(bif (aB.left:Bytes)==([])then(some ((aB.right:Bytes)==([])))else(some false))else(some false)))else(bif (aB.kind:Int)==3 then((iB aB.left).bind fun YC=>(bif YC then((iB aB.right).bind fun TP=>(bif TP then((gq aB.pat).bind fun Xx=>(some Xx))else(some false)))else(some false)))else(bif (aB.kind:Int)==4 then((iB aB.left).bind fun NZ=>(bif NZ then((iB aB.right).bind fun Mg=>(bif Mg then((gq aB.pat).bind fun nK=>(some nK))else(some false)))else(some false)))else(bif (aB.kind:Int)==5 then((iB aB.left).bind fun y30=>(bif y30 then((iB aB.right).bind fun JD=>(bif JD then((gq aB.pat).bind fun MO=>(some MO))else(some false)))else(some false)))else(some false))))))
theorem oJ{aB:aL}{r:Bool}(h:pz aB=some r):Good prog 212 [D.agg (aL.c aB)] (D.bool r):=by
 refine gd func212 [[none]] 38 fun hr Γ hΓ=>?_
 rw[pz]at h;obtain⟨h1,h⟩|⟨h1,h⟩:=aM h
 ·obtain⟨y2,h3,h⟩:=aE h;have mQ:=((aT.r 2 h1).g (jC h3))
  obtain⟨h4,h⟩|⟨h4,h⟩:=aM h
  ·have eH:=(mQ.r 4 h4)
   obtain⟨h5,h⟩|⟨h5,h⟩:=aM h
   ·cases h;exact(eH.r 4 h5).ret hΓ
   ·have h:=aI h;subst h;exact(eH.r 4 h5).ret hΓ
  ·have h:=aI h;subst h;exact((mQ.r 4 h4).F 4).ret hΓ
 ·obtain⟨h6,h⟩|⟨h6,h⟩:=aM h
  ·obtain⟨y7,h8,h⟩:=aE h;have kx:=(((aT.b h1).b h6).g (jC h8))
   obtain⟨h9,h⟩|⟨h9,h⟩:=aM h
   ·have kM:=(kx.r 4 h9)
    obtain⟨h10,h⟩|⟨h10,h⟩:=aM h
    ·cases h;exact(kM.r 4 h10).ret hΓ
    ·have h:=aI h;subst h;exact(kM.r 4 h10).ret hΓ
   ·have h:=aI h;subst h;exact((kx.r 4 h9).F 4).ret hΓ
  ·have uK:=((aT.b h1).b h6)
   obtain⟨h11,h⟩|⟨h11,h⟩:=aM h
   ·obtain⟨YC,h13,h⟩:=aE h;have wO:=((uK.r 2 h11).g (jN h13))
    obtain⟨h14,h⟩|⟨h14,h⟩:=aM h
    ·obtain⟨TP,h16,h⟩:=aE h;have AA:=(((wO.r 3 h14).g (jN h16)).b h14)
     obtain⟨h17,h⟩|⟨h17,h⟩:=aM h
     ·obtain⟨Xx,h19,h⟩:=aE h;have h:=aI h;subst h;exact(((AA.r 3 h17).g (me h19)).b h17).ret hΓ
     ·have h:=aI h;subst h;exact(AA.r 4 h17).ret hΓ
    ·have h:=aI h;subst h;exact((wO.r 4 h14).F 4).ret hΓ
   ·obtain⟨h20,h⟩|⟨h20,h⟩:=aM h
    ·obtain⟨NZ,h22,h⟩:=aE h;have G0:=(((uK.b h11).r 2 h20).g (jN h22))
     obtain⟨h23,h⟩|⟨h23,h⟩:=aM h
     ·obtain⟨Mg,h25,h⟩:=aE h;have KB:=(((G0.r 3 h23).g (jN h25)).b h23)
      obtain⟨h26,h⟩|⟨h26,h⟩:=aM h
      ·obtain⟨nK,h28,h⟩:=aE h;have h:=aI h;subst h;exact(((KB.r 3 h26).g (me h28)).b h26).ret hΓ
      ·have h:=aI h;subst h;exact(KB.r 4 h26).ret hΓ
     ·have h:=aI h;subst h;exact((G0.r 4 h23).F 4).ret hΓ
    ·have B2:=((uK.b h11).b h20)
     obtain⟨h29,h⟩|⟨h29,h⟩:=aM h
     ·obtain⟨y30,h31,h⟩:=aE h;have It:=((B2.b h29).g (jN h31))
      obtain⟨h32,h⟩|⟨h32,h⟩:=aM h
      ·obtain⟨JD,h34,h⟩:=aE h;have A9:=(((It.r 3 h32).g (jN h34)).b h32)
       obtain⟨h35,h⟩|⟨h35,h⟩:=aM h
       ·obtain⟨MO,h37,h⟩:=aE h;have h:=aI h;subst h;exact(((A9.r 3 h35).g (me h37)).b h35).ret hΓ
       ·have h:=aI h;subst h;exact(A9.r 4 h35).ret hΓ
      ·have h:=aI h;subst h;exact((It.r 4 h32).F 4).ret hΓ
     ·have h:=aI h;subst h;exact(B2.b h29).ret hΓ
def fK(aB:aH)(k1:aH->Option aH):aH->Nat->aH->Option aH
 | [],i1,bA=>(k1 bA)
 |bL::bz,i1,bA=>((kB bL).bind fun JB=>(bif JB then(bif room ((bA.map tx).length+([[D.str bL]]).length) 16 then(fK aB k1 bz (i1+1) (bA++([bL])))else none)else(fK aB k1 bz (i1+1) bA)))
def lR(aB:aH):Option aH:=(fK aB (fun(bf:aH)=>(some bf)) aB 0 ([]:aH))
def xu(aB:aH)(W0:List aQ)(cR:Int):St:=⟨[(3,D.acc 0),(6,D.sl (aB.map tx)),(7,D.int .i64 ((aB.map tx).length:Int)),(8,D.int .i64 cR)],[Ob.row .uq 9 1 W0]⟩
theorem DR(hΓ:Γ.nt=20){aB:aH}{r:aH}{k1:aH->Option aH}(cc:∀(bf:aH),k1 bf=some r->Ax Γ N f216 (.q [[some (9,1)]] (D.fr 9 1 (r.map tx))) [1,1,1] ⟨[(3,D.acc 0)],[Ob.row .uq 9 1 (bf.map tx)]⟩)(hm1:aB.length<=maxLen):∀(rest:aH) (i1:Nat) (bA:aH),aB.drop i1=rest->fK aB k1 rest i1 bA=some r->Ar Γ N f216 (.q [[some (9,1)]] (D.fr 9 1 (r.map tx))) [1,1,0,1,0] (rest.length+1) (xu aB (bA.map tx) (i1:Int)):=by
 intro rest
 induction rest with
 |nil=>
  intro i1 bA aq h;rw[fK]at h;refine aP fun N1 cC br=>?_
  exact((aT.ge tx aq).a [.hl 0 [3] [0]]).ex hΓ cC (cc bA h)
 |cons bL bz ih1=>
  intro i1 bA aq h;rw[fK]at h;refine aP fun N1 cC br=>?_
  obtain⟨JB,h33,h⟩:=aE h;have eH:=(((aT.lt tx aq).l (az tx 1 (dc aq) rfl)).g (mV h33))
  obtain⟨h34,h⟩|⟨h34,h⟩:=aM h
  ·obtain⟨h35,h⟩:=bQ h;exact(((eH.b h34).w (bh h35)).a [.cn [3,6,7,8] [2]]).cs hΓ br (xu aB ((bA.map tx)++([[D.str bL]])) (IntKind.i64.wrap ((i1:Int)+1))) (by first| (simp only[iS aq hm1,mA]<;>rfl)| (simp only[iS aq hm1,mA,aC.c,aS.c,aL.c,Action.c,aK.c,aN.c,cX.c,aV.c,Node.c,aG.c,cg.c]<;>rfl)) (ih1 (i1+1) (bA++([bL])) (dn aq) h)
  ·exact((eH.b h34).a [.cn [3,6,7,8] [0]]).ct hΓ br (iS aq hm1) (ih1 (i1+1) bA (dn aq) h)
theorem sn{aB:aH}{r:aH}(h:lR aB=some r):Good prog 216 [D.sl (aB.map tx)] (D.fr 9 1 (r.map tx)):=by
 refine gd func216 [[some (9,1)]] 20 fun hr Γ hΓ=>?_
 rw[lR]at h;refine(aT.a [.Kc 3,.cn [3,6,7,8] [0]]).lp hΓ (DR hΓ (fun bf h=>?_) (by have:=(eN.sl (hr _ (aD (i:=0) rfl))).1;simpa using this) aB 0 ([]:aH) rfl h);have h:=aI h;subst h;exact aT.ret hΓ
def dN(aB:aH)(k1:aH->Option aH):aH->Nat->aH->Option aH
 | [],i1,bW=>(k1 bW)
 |bL::bz,i1,bW=>(bif ((i1:Int):Int)==0 then(bif room ((bW.map tx).length+([[D.str bL]]).length) 16 then(dN aB k1 bz (i1+1) (bW++([bL])))else none)else((lF (n8 (([]:aH)++aB)) (IntKind.i64.wrap ((i1:Int)-1))).bind fun x47=>(bif !((x47:Bytes)==bL)then(bif room ((bW.map tx).length+([[D.str bL]]).length) 16 then(dN aB k1 bz (i1+1) (bW++([bL])))else none)else(dN aB k1 bz (i1+1) bW))))
def jP(aB:aH):Option aH:=(bif room (([]:List aQ).length+(aB.map tx).length) 16 then(bif decide ((([]:aH)++aB).length<4611686018427387904)then(bif decide ((n8 (([]:aH)++aB)).length<=maxLen)then(dN aB (fun(bf:aH)=>(some bf)) (n8 (([]:aH)++aB)) 0 ([]:aH))else none)else none)else none)
def sZ(aB:aH)(W0:List aQ)(cR:Int):St:=⟨[(3,D.acc 0),(4,D.acc 1),(11,D.acc 0),(12,D.int .i64 (((n8 (([]:aH)++aB)).map tx).length:Int)),(13,D.int .i64 cR)],[Ob.row .uq 9 1 ((n8 (([]:aH)++aB)).map tx),Ob.row .uq 9 1 W0]⟩
theorem BU(hΓ:Γ.nt=35){aB:aH}{r:aH}{k1:aH->Option aH}(cc:∀(bf:aH),k1 bf=some r->Ax Γ N f218 (.q [[some (9,1)]] (D.fr 9 1 (r.map tx))) [1,1,1,1,1] ⟨[(4,D.acc 0)],[Ob.row .uq 9 1 (bf.map tx)]⟩)(hm1:(n8 (([]:aH)++aB)).length<=maxLen):∀(rest:aH) (i1:Nat) (bW:aH),(n8 (([]:aH)++aB)).drop i1=rest->dN aB k1 rest i1 bW=some r->Ar Γ N f218 (.q [[some (9,1)]] (D.fr 9 1 (r.map tx))) [1,1,1,1,0,1,0] (rest.length+1) (sZ aB (bW.map tx) (i1:Int)):=by
 intro rest
 induction rest with
 |nil=>
  intro i1 bW aq h;rw[dN]at h;refine aP fun N1 cC br=>?_
  exact((aT.ge tx aq).a [.hl 0 [4] [1]]).ex hΓ cC (cc bW h)
 |cons bL bz ih1=>
  intro i1 bW aq h;rw[dN]at h;refine aP fun N1 cC br=>?_
  have kx:=(((aT.lt tx aq).i (nX tx 1 (dc aq))).o 1 1 .uq (dK tx (dc aq)))
  obtain⟨h45,h⟩|⟨h45,h⟩:=aM h
  ·obtain⟨h46,h⟩:=bQ h;exact((((kx.r 8 h45).T 1).w (bh h46)).a [.cn [3,4,11,12,13] [0,3]]).cs hΓ br (sZ aB ((bW.map tx)++([[D.str bL]])) (IntKind.i64.wrap ((i1:Int)+1))) (by first| (simp only[iS aq hm1,mA]<;>rfl)| (simp only[iS aq hm1,mA,aC.c,aS.c,aL.c,Action.c,aK.c,aN.c,cX.c,aV.c,Node.c,aG.c,cg.c]<;>rfl)) (ih1 (i1+1) (bW++([bL])) (dn aq) h)
  ·obtain⟨x47,h48,h⟩:=aE h;have kM:=(((((kx.r 4 h45).i (vF tx 1 h48)).b h45).o 1 1 .uq (dK tx (rE h48))).r 3 h45)
   obtain⟨h49,h⟩|⟨h49,h⟩:=aM h
   ·obtain⟨h50,h⟩:=bQ h;exact(((kM.b h49).w (bh h50)).a [.cn [3,4,11,12,13] [0,3]]).cs hΓ br (sZ aB ((bW.map tx)++([[D.str bL]])) (IntKind.i64.wrap ((i1:Int)+1))) (by first| (simp only[iS aq hm1,mA]<;>rfl)| (simp only[iS aq hm1,mA,aC.c,aS.c,aL.c,Action.c,aK.c,aN.c,cX.c,aV.c,Node.c,aG.c,cg.c]<;>rfl)) (ih1 (i1+1) (bW++([bL])) (dn aq) h)
   ·exact((kM.b h49).a [.cn [3,4,11,12,13] [0,1]]).ct hΓ br (iS aq hm1) (ih1 (i1+1) bW (dn aq) h)
theorem qc{aB:aH}{r:aH}(h:jP aB=some r):Good prog 218 [D.sl (aB.map tx)] (D.fr 9 1 (r.map tx)):=by
 refine gd func218 [[some (9,1)]] 35 fun hr Γ hΓ=>?_
 rw[jP]at h;obtain⟨h1,h⟩:=bQ h;obtain⟨h2,h⟩:=bQ h;obtain⟨h51,h⟩:=bQ h;refine(((((aT.w (bh h1)).w (show(∀r∈(aB.map tx),r.length=1)/\(true=true->D.mN (aB.map tx)=true)from⟨by first|simp| (intro r hr;obtain⟨x,_,rfl⟩:=cB.1 (bw (fc hr));rfl),by simp[D.mN,D.flat]⟩)).w (show(([]:List aQ)++(aB.map tx)).flatten.all D.flat=true from by simpa only[bV,bH,cD]using PY (([]:aH)++aB))).w (show Oz prog 266 9 1 (([]:List aQ)++(aB.map tx)) ((n8 (([]:aH)++aB)).map tx)from by simpa only[bV,bH,cD]using(FD (e:=9) (bY h2)))).a [.fl true,.mu 0 ((n8 (([]:aH)++aB)).map tx),.Kc 4,.cn [3,4,11,12,13] [0,1]]).lp hΓ (BU hΓ (fun bf h=>?_) (bY h51) (n8 (([]:aH)++aB)) 0 ([]:aH) rfl h);have h:=aI h;subst h;exact aT.ret hΓ
def eP(aB:aK)(aU:Int)(k1:aH->Option aH):ai->Nat->aH->Option aH
 | [],i1,bA=>(k1 bA)
 |bL::bz,i1,bA=>(bif decide (((i1:Int):Int)<aU)then(bif (bL.kind:Int)==1 then((lR bL.pat.args).bind fun ML=>(bif room ((bA.map tx).length+(ML.map tx).length) 16 then(eP aB aU k1 bz (i1+1) (bA++ML))else none))else(eP aB aU k1 bz (i1+1) bA))else(eP aB aU k1 bz (i1+1) bA))
def nv(aB:aK)(aU:Int):Option aH:=(eP aB aU (fun(bf:aH)=>((jP bf).bind fun Xz=>(some Xz))) aB.conds 0 ([]:aH))
def xj(aB:aK)(aU:Int)(W0:List aQ)(cR:Int):St:=⟨[(1,D.int .i64 aU),(5,D.acc 0),(9,D.sl (aB.conds.map aL.c)),(10,D.int .i64 ((aB.conds.map aL.c).length:Int)),(11,D.int .i64 cR)],[Ob.row .uq 9 1 W0]⟩
theorem D3(hΓ:Γ.nt=33){aB:aK}{aU:Int}{r:aH}{k1:aH->Option aH}(cc:∀(bf:aH),k1 bf=some r->Ax Γ N f214 (.q [[some (9,1)]] (D.fr 9 1 (r.map tx))) [1,1,1] ⟨[(5,D.acc 0)],[Ob.row .uq 9 1 (bf.map tx)]⟩)(hm1:aB.conds.length<=maxLen):∀(rest:ai) (i1:Nat) (bA:aH),aB.conds.drop i1=rest->eP aB aU k1 rest i1 bA=some r->Ar Γ N f214 (.q [[some (9,1)]] (D.fr 9 1 (r.map tx))) [1,1,0,1,0] (rest.length+1) (xj aB aU (bA.map tx) (i1:Int)):=by
 intro rest
 induction rest with
 |nil=>
  intro i1 bA aq h;rw[eP]at h;refine aP fun N1 cC br=>?_
  exact((aT.ge aL.c aq).a [.hl 0 [5] [0]]).ex hΓ cC (cc bA h)
 |cons bL bz ih1=>
  intro i1 bA aq h;rw[eP]at h;refine aP fun N1 cC br=>?_
  have kx:=((aT.lt aL.c aq).l (az aL.c 5 (dc aq) rfl))
  obtain⟨h37,h⟩|⟨h37,h⟩:=aM h
  ·have kM:=(kx.r 4 h37)
   obtain⟨h38,h⟩|⟨h38,h⟩:=aM h
   ·obtain⟨ML,h40,h⟩:=aE h;obtain⟨h41,h⟩:=bQ h;exact((((kM.b h38).g (sn h40)).w (bh h41)).a [.cn [1,5,9,10,11] [3]]).cs hΓ br (xj aB aU ((bA.map tx)++(ML.map tx)) (IntKind.i64.wrap ((i1:Int)+1))) (by first| (simp only[iS aq hm1,mA]<;>rfl)| (simp only[iS aq hm1,mA,aC.c,aS.c,aL.c,Action.c,aK.c,aN.c,cX.c,aV.c,Node.c,aG.c,cg.c]<;>rfl)) (ih1 (i1+1) (bA++ML) (dn aq) h)
   ·exact((kM.b h38).a [.cn [1,5,9,10,11] [0]]).ct hΓ br (iS aq hm1) (ih1 (i1+1) bA (dn aq) h)
  ·exact(((kx.r 4 h37).F 1).a [.cn [1,5,9,10,11] [0]]).ct hΓ br (iS aq hm1) (ih1 (i1+1) bA (dn aq) h)
theorem wA{aB:aK}{aU:Int}{r:aH}(h:nv aB aU=some r):Good prog 214 [D.agg (aK.c aB),D.int .i64 aU] (D.fr 9 1 (r.map tx)):=by
 refine gd func214 [[some (9,1)]] 33 fun hr Γ hΓ=>?_
 rw[nv]at h;refine(aT.a [.Kc 5,.cn [1,5,9,10,11] [1]]).lp hΓ (D3 hΓ (fun bf h=>?_) (by have:=(eN.sl (eN.agg (hr _ (aD (i:=0) rfl)) (.sl (aB.conds.map aL.c)) (by simp))).1;simpa using this) aB.conds 0 ([]:aH) rfl h);obtain⟨Xz,h43,h⟩:=aE h;have h:=aI h;subst h;exact(aT.g (qc h43)).ret hΓ
def qj(aB:aL):Option aH:=((lP aB.pat.args).bind fun y1=>(bif room ((y1.map tx).length+(([aB.left,aB.right]:aH).map tx).length) 16 then(some (y1++([aB.left,aB.right]:aH)))else none))
theorem xq{aB:aL}{r:aH}(h:qj aB=some r):Good prog 189 [D.agg (aL.c aB)] (D.fr 9 1 (r.map tx)):=by
 refine gd func189 [[some (9,1)]] 13 fun hr Γ hΓ=>?_
 rw[qj]at h;obtain⟨y1,h2,h⟩:=aE h;obtain⟨h3,h⟩:=bQ h;cases h;exact(((aT.a [.Kc 2,.n 9]).g (sj h2)).w (bh h3)).rts hΓ (D.fr 9 1 ((y1.map tx)++(([aB.left,aB.right]:aH).map tx))) (by first|rfl| (simp only[mA]<;>rfl)| (simp only[cK,mA]<;>rfl))
def nC(aB:aL):Option aH:=((qj aB).bind fun y1=>((lR y1).bind fun y3=>((jP y3).bind fun y5=>(some y5))))
theorem tK{aB:aL}{r:aH}(h:nC aB=some r):Good prog 264 [D.agg (aL.c aB)] (D.fr 9 1 (r.map tx)):=by
 refine gd func264 [[some (9,1)]] 7 fun hr Γ hΓ=>?_
 rw[nC]at h;obtain⟨y1,h2,h⟩:=aE h;obtain⟨y3,h4,h⟩:=aE h;obtain⟨y5,h6,h⟩:=aE h;have h:=aI h;subst h;exact(((aT.g (xq h2)).g (sn h4)).g (qc h6)).ret hΓ
def kG(aB:aH)(aU:Bytes)(k1:Option Bool):aH->Nat->Option Bool
 | [],i1=>(k1)
 |bL::bz,i1=>(bif (bL:Bytes)==aU then(some true)else(kG aB aU k1 bz (i1+1)))
def kF(aB:aH)(aU:Bytes):Option Bool:=(kG aB aU (some false) aB 0)
def Hy(aB:aH)(aU:Bytes)(cR:Int):St:=⟨[(1,D.str aU),(7,D.sl (aB.map tx)),(8,D.int .i64 ((aB.map tx).length:Int)),(9,D.int .i64 cR)],[]⟩
theorem GV(hΓ:Γ.nt=17){aB:aH}{aU:Bytes}{r:Bool}{k1:Option Bool}(cc:k1=some r->Ax Γ N f217 (.q [[none]] (D.bool r)) [1,1] ⟨[],[]⟩)(hm1:aB.length<=maxLen):∀(rest:aH) (i1:Nat),aB.drop i1=rest->kG aB aU k1 rest i1=some r->Ar Γ N f217 (.q [[none]] (D.bool r)) [1,0,1,0] (rest.length+1) (Hy aB aU (i1:Int)):=by
 intro rest
 induction rest with
 |nil=>
  intro i1 aq h;rw[kG]at h;refine aP fun N1 cC br=>?_
  exact((aT.ge tx aq).a [.hl 0 [] []]).ex hΓ cC (cc h)
 |cons bL bz ih1=>
  intro i1 aq h;rw[kG]at h;refine aP fun N1 cC br=>?_
  have eH:=((aT.lt tx aq).l (az tx 1 (dc aq) rfl))
  obtain⟨h13,h⟩|⟨h13,h⟩:=aM h
  ·have h:=aI h;subst h;exact(eH.b h13).ret hΓ
  ·exact((eH.b h13).a [.cn [1,7,8,9] []]).ct hΓ br (iS aq hm1) (ih1 (i1+1) (dn aq) h)
theorem qO{aB:aH}{aU:Bytes}{r:Bool}(h:kF aB aU=some r):Good prog 217 [D.sl (aB.map tx),D.str aU] (D.bool r):=by
 refine gd func217 [[none]] 17 fun hr Γ hΓ=>?_
 rw[kF]at h;refine(aT.a [.cn [1,7,8,9] []]).lp hΓ (GV hΓ (fun h=>?_) (by have:=(eN.sl (hr _ (aD (i:=0) rfl))).1;simpa using this) aB 0 rfl h);have h:=aI h;subst h;exact aT.ret hΓ
def dV(aB:aK)(aU:Int)(cL:Bytes)(k1:Option Bool):ai->Nat->Option Bool
 | [],i1=>(k1)
 |bL::bz,i1=>(bif ((i1:Int):Int) != aU then((nC bL).bind fun Cr=>((kF Cr cL).bind fun MO=>(bif MO then(some true)else(dV aB aU cL k1 bz (i1+1)))))else(dV aB aU cL k1 bz (i1+1)))
def eV(aB:aK)(cL:Bytes)(k2:Option Bool):cH->Nat->Option Bool
 | [],i2=>(k2)
 |k8::tf,i2=>((kF k8.pat.args cL).bind fun y59=>(bif y59 then(some true)else(eV aB cL k2 tf (i2+1))))
def kH(aB:aK)(aU:Int)(cL:Bytes):Option Bool:=(dV aB aU cL (eV aB cL (some false) aB.cU 0) aB.conds 0)
def zS(aB:aK)(aU:Int)(cL:Bytes)(cR:Int):St:=⟨[(1,D.int .i64 aU),(2,D.str cL),(3,D.ptr 0 0),(12,D.sl (aB.conds.map aL.c)),(13,D.int .i64 ((aB.conds.map aL.c).length:Int)),(14,D.int .i64 cR)],[Ob.box (aK.c aB)]⟩
theorem yq(hΓ:Γ.nt=42){aB:aK}{aU:Int}{cL:Bytes}{r:Bool}{k1:Option Bool}(cc:k1=some r->Ax Γ N f265 (.q [[none]] (D.bool r)) [1,1] ⟨[(2,D.str cL),(3,D.ptr 0 0)],[Ob.box (aK.c aB)]⟩)(hm1:aB.conds.length<=maxLen):∀(rest:ai) (i1:Nat),aB.conds.drop i1=rest->dV aB aU cL k1 rest i1=some r->Ar Γ N f265 (.q [[none]] (D.bool r)) [1,0,1,0] (rest.length+1) (zS aB aU cL (i1:Int)):=by
 intro rest
 induction rest with
 |nil=>
  intro i1 aq h;rw[dV]at h;refine aP fun N1 cC br=>?_
  exact((aT.ge aL.c aq).a [.hl 0 [2,3] [0]]).ex hΓ cC (cc h)
 |cons bL bz ih1=>
  intro i1 aq h;rw[dV]at h;refine aP fun N1 cC br=>?_
  have kM:=((aT.lt aL.c aq).l (az aL.c 5 (dc aq) rfl))
  obtain⟨h33,h⟩|⟨h33,h⟩:=aM h
  ·obtain⟨Cr,h35,h⟩:=aE h;obtain⟨MO,h37,h⟩:=aE h;have uK:=(((((kM.r 2 h33).g (tK h35)).r 2 h33).g (qO h37)).b h33)
   obtain⟨h38,h⟩|⟨h38,h⟩:=aM h
   ·have h:=aI h;subst h;exact(uK.b h38).ret hΓ
   ·exact((uK.b h38).a [.cn [1,2,3,12,13,14] [0]]).ct hΓ br (iS aq hm1) (ih1 (i1+1) (dn aq) h)
  ·exact(((kM.r 5 h33).F 1).a [.cn [1,2,3,12,13,14] [0]]).ct hΓ br (iS aq hm1) (ih1 (i1+1) (dn aq) h)
def zT(aB:aK)(cL:Bytes)(cR:Int):St:=⟨[(2,D.str cL),(30,D.sl (aB.cU.map Action.c)),(31,D.int .i64 ((aB.cU.map Action.c).length:Int)),(32,D.int .i64 cR)],[]⟩
theorem yt(hΓ:Γ.nt=42){aB:aK}{cL:Bytes}{r:Bool}{k2:Option Bool}(zf:k2=some r->Ax Γ N f265 (.q [[none]] (D.bool r)) [1,1,1] ⟨[],[]⟩)(hm2:aB.cU.length<=maxLen):∀(rest:cH) (i2:Nat),aB.cU.drop i2=rest->eV aB cL k2 rest i2=some r->Ar Γ N f265 (.q [[none]] (D.bool r)) [1,1,0,1,0] (rest.length+1) (zT aB cL (i2:Int)):=by
 intro rest
 induction rest with
 |nil=>
  intro i2 hd2 h;rw[eV]at h;refine aP fun N2 ul sA=>?_
  exact((aT.ge Action.c hd2).a [.hl 0 [] []]).ex hΓ ul (zf h)
 |cons k8 tf ih2=>
  intro i2 hd2 h;rw[eV]at h;refine aP fun N2 ul sA=>?_
  obtain⟨y59,h60,h⟩:=aE h;have wO:=(((aT.lt Action.c hd2).l (az Action.c 3 (dc hd2) rfl)).g (qO h60))
  obtain⟨h61,h⟩|⟨h61,h⟩:=aM h
  ·have h:=aI h;subst h;exact(wO.b h61).ret hΓ
  ·exact((wO.b h61).a [.cn [2,30,31,32] []]).ct hΓ sA (iS hd2 hm2) (ih2 (i2+1) (dn hd2) h)
theorem yI{aB:aK}{aU:Int}{cL:Bytes}{r:Bool}(h:kH aB aU cL=some r):Good prog 265 [D.agg (aK.c aB),D.int .i64 aU,D.str cL] (D.bool r):=by
 refine gd func265 [[none]] 42 fun hr Γ hΓ=>?_
 rw[kH]at h;refine(aT.a [.cn [1,2,3,12,13,14] [0]]).lp hΓ (yq hΓ (fun h=>?_) (by have:=(eN.sl (eN.agg (hr _ (aD (i:=0) rfl)) (.sl (aB.conds.map aL.c)) (by simp))).1;simpa using this) aB.conds 0 rfl h);refine(aT.a [.cn [2,30,31,32] []]).lp hΓ (yt hΓ (fun h=>?_) (by have:=(eN.sl (eN.agg (hr _ (aD (i:=0) rfl)) (.sl (aB.cU.map Action.c)) (by simp))).1;simpa using this) aB.cU 0 rfl h);have h:=aI h;subst h;exact aT.ret hΓ
def fy(aB:aK)(aU:Int)(x1:aL)(y3:aH)(y5:aH)(k1:Option Bool):aH->Nat->Option Bool
 | [],i1=>(k1)
 |bL::bz,i1=>(bif (x1.kind:Int)==1 then(fy aB aU x1 y3 y5 k1 bz (i1+1))else((kF y3 bL).bind fun Jy=>(bif Jy then(fy aB aU x1 y3 y5 k1 bz (i1+1))else(bif (x1.kind:Int) != 2 then(some false)else((kH aB aU bL).bind fun y53=>(bif y53 then(some false)else(fy aB aU x1 y3 y5 k1 bz (i1+1))))))))
def oz(aB:aK)(aU:Int):Option Bool:=((lF aB.conds aU).bind fun x1=>((nv aB aU).bind fun y3=>((nC x1).bind fun y5=>(bif decide (y5.length<=maxLen)then(fy aB aU x1 y3 y5 (some true) y5 0)else none))))
def GU(aB:aK)(aU:Int)(x1:aL)(y3:aH)(y5:aH)(cR:Int):St:=⟨[(1,D.int .i64 aU),(2,D.ptr 0 0),(5,D.ptr 1 0),(6,D.acc 2),(18,D.acc 3),(19,D.int .i64 ((y5.map tx).length:Int)),(20,D.int .i64 cR)],[Ob.box (aK.c aB),Ob.box [D.int .i64 x1.kind,D.str x1.pat.rel,D.sl (x1.pat.args.map tx),D.str x1.left,D.str x1.right],Ob.row .uq 9 1 (y3.map tx),Ob.row .uq 9 1 (y5.map tx)]⟩
theorem Er(hΓ:Γ.nt=42){aB:aK}{aU:Int}{x1:aL}{y3:aH}{y5:aH}{r:Bool}{k1:Option Bool}(cc:k1=some r->Ax Γ N f213 (.q [[none]] (D.bool r)) [1,1,1,1] ⟨[],[]⟩)(hm1:y5.length<=maxLen):∀(rest:aH) (i1:Nat),y5.drop i1=rest->fy aB aU x1 y3 y5 k1 rest i1=some r->Ar Γ N f213 (.q [[none]] (D.bool r)) [1,1,1,0,1,0] (rest.length+1) (GU aB aU x1 y3 y5 (i1:Int)):=by
 intro rest
 induction rest with
 |nil=>
  intro i1 aq h;rw[fy]at h;refine aP fun N1 cC br=>?_
  exact((aT.ge tx aq).a [.hl 0 [] []]).ex hΓ cC (cc h)
 |cons bL bz ih1=>
  intro i1 aq h;rw[fy]at h;refine aP fun N1 cC br=>?_
  have kM:=(((aT.lt tx aq).i (nX tx 1 (dc aq))).o 1 1 .uq (dK tx (dc aq)))
  obtain⟨h48,h⟩|⟨h48,h⟩:=aM h
  ·exact(((kM.r 4 h48).T 1).a [.cn [1,2,5,6,18,19,20] [0,1,2,3]]).ct hΓ br (iS aq hm1) (ih1 (i1+1) (dn aq) h)
  ·obtain⟨Jy,h50,h⟩:=aE h;have uK:=(((kM.r 3 h48).g (qO h50)).b h48)
   obtain⟨h51,h⟩|⟨h51,h⟩:=aM h
   ·exact((uK.b h51).a [.cn [1,2,5,6,18,19,20] [0,1,2,3]]).ct hΓ br (iS aq hm1) (ih1 (i1+1) (dn aq) h)
   ·obtain⟨h52,h⟩|⟨h52,h⟩:=aM h
    ·have h:=aI h;subst h;exact(((uK.b h51).r 5 h52).T 1).ret hΓ
    ·obtain⟨y53,h54,h⟩:=aE h;have wO:=((((uK.b h51).r 4 h52).g (yI h54)).b h52)
     obtain⟨h55,h⟩|⟨h55,h⟩:=aM h
     ·have h:=aI h;subst h;exact(wO.b h55).ret hΓ
     ·exact((wO.b h55).a [.cn [1,2,5,6,18,19,20] [0,1,2,3]]).ct hΓ br (iS aq hm1) (ih1 (i1+1) (dn aq) h)
theorem wz{aB:aK}{aU:Int}{r:Bool}(h:oz aB aU=some r):Good prog 213 [D.agg (aK.c aB),D.int .i64 aU] (D.bool r):=by
 refine gd func213 [[none]] 42 fun hr Γ hΓ=>?_
 rw[oz]at h;obtain⟨x1,h2,h⟩:=aE h;obtain⟨y3,h4,h⟩:=aE h;obtain⟨y5,h6,h⟩:=aE h;obtain⟨h56,h⟩:=bQ h;refine((((aT.l (eA aL.c 5 h2 rfl)).g (wA h4)).g (tK h6)).a [.cn [1,2,5,6,18,19,20] [0,1,2,3]]).lp hΓ (Er hΓ (fun h=>?_) (bY h56) y5 0 rfl h);have h:=aI h;subst h;exact aT.ret hΓ
def rW(aB:Action):Option Bool:=(bif (aB.kind:Int)==1 then((iH aB.pat).bind fun y2=>(some y2))else(bif (aB.kind:Int)==2 then((iH aB.pat).bind fun y5=>(some y5))else(bif (aB.kind:Int)==3 then((gq aB.pat).bind fun y8=>(some y8))else(some false))))
theorem D6{aB:Action}{r:Bool}(h:rW aB=some r):Good prog 215 [D.agg (Action.c aB)] (D.bool r):=by
 refine gd func215 [[none]] 16 fun hr Γ hΓ=>?_
 rw[rW]at h;obtain⟨h1,h⟩|⟨h1,h⟩:=aM h
 ·obtain⟨y2,h3,h⟩:=aE h;have h:=aI h;subst h;exact((aT.r 2 h1).g (jC h3)).ret hΓ
 ·obtain⟨h4,h⟩|⟨h4,h⟩:=aM h
  ·obtain⟨y5,h6,h⟩:=aE h;have h:=aI h;subst h;exact(((aT.b h1).b h4).g (jC h6)).ret hΓ
  ·have mQ:=((aT.b h1).b h4)
   obtain⟨h7,h⟩|⟨h7,h⟩:=aM h
   ·obtain⟨y8,h9,h⟩:=aE h;have h:=aI h;subst h;exact((mQ.b h7).g (me h9)).ret hΓ
   ·have h:=aI h;subst h;exact(mQ.b h7).ret hΓ
def ff(aB:ai)(k1:aH->Option aH):ai->Nat->aH->Option aH
 | [],i1,bA=>(k1 bA)
 |bL::bz,i1,bA=>((nC bL).bind fun nK=>(bif room ((bA.map tx).length+(nK.map tx).length) 16 then(ff aB k1 bz (i1+1) (bA++nK))else none))
def pP(aB:ai):Option aH:=(ff aB (fun(bf:aH)=>(some bf)) aB 0 ([]:aH))
def x6(aB:ai)(W0:List aQ)(cR:Int):St:=⟨[(3,D.acc 0),(6,D.sl (aB.map aL.c)),(7,D.int .i64 ((aB.map aL.c).length:Int)),(8,D.int .i64 cR)],[Ob.row .uq 9 1 W0]⟩
theorem CL(hΓ:Γ.nt=18){aB:ai}{r:aH}{k1:aH->Option aH}(cc:∀(bf:aH),k1 bf=some r->Ax Γ N f219 (.q [[some (9,1)]] (D.fr 9 1 (r.map tx))) [1,1,1] ⟨[(3,D.acc 0)],[Ob.row .uq 9 1 (bf.map tx)]⟩)(hm1:aB.length<=maxLen):∀(rest:ai) (i1:Nat) (bA:aH),aB.drop i1=rest->ff aB k1 rest i1 bA=some r->Ar Γ N f219 (.q [[some (9,1)]] (D.fr 9 1 (r.map tx))) [1,1,0,1,0] (rest.length+1) (x6 aB (bA.map tx) (i1:Int)):=by
 intro rest
 induction rest with
 |nil=>
  intro i1 bA aq h;rw[ff]at h;refine aP fun N1 cC br=>?_
  exact((aT.ge aL.c aq).a [.hl 0 [3] [0]]).ex hΓ cC (cc bA h)
 |cons bL bz ih1=>
  intro i1 bA aq h;rw[ff]at h;refine aP fun N1 cC br=>?_
  obtain⟨nK,h28,h⟩:=aE h;obtain⟨h29,h⟩:=bQ h;exact(((((aT.lt aL.c aq).l (az aL.c 5 (dc aq) rfl)).g (tK h28)).w (bh h29)).a [.cn [3,6,7,8] [3]]).cs hΓ br (x6 aB ((bA.map tx)++(nK.map tx)) (IntKind.i64.wrap ((i1:Int)+1))) (by first| (simp only[iS aq hm1,mA]<;>rfl)| (simp only[iS aq hm1,mA,aC.c,aS.c,aL.c,Action.c,aK.c,aN.c,cX.c,aV.c,Node.c,aG.c,cg.c]<;>rfl)) (ih1 (i1+1) (bA++nK) (dn aq) h)
theorem BV{aB:ai}{r:aH}(h:pP aB=some r):Good prog 219 [D.sl (aB.map aL.c)] (D.fr 9 1 (r.map tx)):=by
 refine gd func219 [[some (9,1)]] 18 fun hr Γ hΓ=>?_
 rw[pP]at h;refine(aT.a [.Kc 3,.cn [3,6,7,8] [0]]).lp hΓ (CL hΓ (fun bf h=>?_) (by have:=(eN.sl (hr _ (aD (i:=0) rfl))).1;simpa using this) aB 0 ([]:aH) rfl h);have h:=aI h;subst h;exact aT.ret hΓ
def iI(aB:aK)(k1:Option Bool):ai->Nat->Option Bool
 | [],i1=>(k1)
 |bL::bz,i1=>((pz bL).bind fun y62=>(bif !(y62)then(some false)else(bif ((i1:Int):Int)==0 then(bif (bL.kind:Int) != 1 then(some false)else((oz aB (i1:Int)).bind fun Ul=>(bif !(Ul)then(some false)else(iI aB k1 bz (i1+1)))))else((oz aB (i1:Int)).bind fun y70=>(bif !(y70)then(some false)else(iI aB k1 bz (i1+1)))))))
def lM(aB:aK)(HY:aH)(i2:Nat)(AF:aH)(k3:Option Bool):aH->Nat->Option Bool
 | [],i3=>(k3)
 |Qi::On,i3=>((kF HY Qi).bind fun a5b=>(bif !(a5b)then(some false)else(lM aB HY i2 AF k3 On (i3+1))))
def lK(aB:aK)(HY:aH)(k2:Option Bool):cH->Nat->Option Bool
 | [],i2=>(k2)
 |k8::tf,i2=>((rW k8).bind fun a5a=>(bif !(a5a)then(some false)else((lR k8.pat.args).bind fun AF=>(bif decide (AF.length<=maxLen)then(lM aB HY i2 AF (lK aB HY k2 tf (i2+1)) AF 0)else none))))
def uc(aB:aK):Option Bool:=((q8 aB.name).bind fun y1=>(bif !(y1)then(some false)else(bif decide ((aB.prio:Int)<0)then(some false)else(bif decide ((aB.prio:Int)>9)then(some false)else(bif decide ((((aB.conds.map aL.c).length:Int):Int)<1)then(some false)else(bif decide ((((aB.conds.map aL.c).length:Int):Int)>4)then(some false)else(bif decide ((((aB.cU.map Action.c).length:Int):Int)<1)then(some false)else(bif decide ((((aB.cU.map Action.c).length:Int):Int)>2)then(some false)else(iI aB ((nv aB ((aB.conds.map aL.c).length:Int)).bind fun HY=>(lK aB HY ((pP aB.conds).bind fun a5c=>((jP a5c).bind fun a5d=>(some (decide ((((a5d.map tx).length:Int):Int)<=6))))) aB.cU 0)) aB.conds 0)))))))))
def JQ(aB:aK)(cR:Int):St:=⟨[(1,D.ptr 0 0),(49,D.sl (aB.conds.map aL.c)),(50,D.int .i64 ((aB.conds.map aL.c).length:Int)),(51,D.int .i64 cR)],[Ob.box (aK.c aB)]⟩
theorem Hq(hΓ:Γ.nt=111){aB:aK}{r:Bool}{k1:Option Bool}(cc:k1=some r->Ax Γ N f142 (.q [[none]] (D.bool r)) [1,1,1] ⟨[(1,D.ptr 0 0)],[Ob.box (aK.c aB)]⟩)(hm1:aB.conds.length<=maxLen):∀(rest:ai) (i1:Nat),aB.conds.drop i1=rest->iI aB k1 rest i1=some r->Ar Γ N f142 (.q [[none]] (D.bool r)) [1,1,0,1,0] (rest.length+1) (JQ aB (i1:Int)):=by
 intro rest
 induction rest with
 |nil=>
  intro i1 aq h;rw[iI]at h;refine aP fun N1 cC br=>?_
  exact((aT.ge aL.c aq).a [.hl 0 [1] [0]]).ex hΓ cC (cc h)
 |cons bL bz ih1=>
  intro i1 aq h;rw[iI]at h;refine aP fun N1 cC br=>?_
  obtain⟨y62,h63,h⟩:=aE h;have A9:=(((aT.lt aL.c aq).l (az aL.c 5 (dc aq) rfl)).g (oJ h63))
  obtain⟨h64,h⟩|⟨h64,h⟩:=aM h
  ·have h:=aI h;subst h;exact((((A9.r 3 h64).a [bF,bF,bF]).r 2 h64).T 6).ret hΓ
  ·have Iu:=(A9.r 3 h64)
   obtain⟨h65,h⟩|⟨h65,h⟩:=aM h
   ·have Iv:=((((Iu.r 3 h65).b h64).b h65).b h64)
    obtain⟨h66,h⟩|⟨h66,h⟩:=aM h
    ·have h:=aI h;subst h;exact((Iv.r 5 h66).T 1).ret hΓ
    ·obtain⟨Ul,h68,h⟩:=aE h;have Q8:=(((Iv.r 3 h66).g (wz h68)).r 2 h66)
     obtain⟨h69,h⟩|⟨h69,h⟩:=aM h
     ·have h:=aI h;subst h;exact(Q8.b h69).ret hΓ
     ·exact((Q8.b h69).a [.cn [1,49,50,51] [0]]).ct hΓ br (iS aq hm1) (ih1 (i1+1) (dn aq) h)
   ·obtain⟨y70,h71,h⟩:=aE h;have Q9:=(((((((Iu.r 3 h65).b h64).b h65).b h64).F 3).g (wz h71)).F 2)
    obtain⟨h72,h⟩|⟨h72,h⟩:=aM h
    ·have h:=aI h;subst h;exact(Q9.b h72).ret hΓ
    ·exact((Q9.b h72).a [.cn [1,49,50,51] [0]]).ct hΓ br (iS aq hm1) (ih1 (i1+1) (dn aq) h)
def JR(aB:aK)(HY:aH)(cR:Int):St:=⟨[(1,D.ptr 0 0),(5,D.acc 1),(81,D.sl (aB.cU.map Action.c)),(82,D.int .i64 ((aB.cU.map Action.c).length:Int)),(83,D.int .i64 cR)],[Ob.box (aK.c aB),Ob.row .uq 9 1 (HY.map tx)]⟩
def JS(aB:aK)(HY:aH)(i2:Nat)(AF:aH)(cR:Int):St:=⟨[(1,D.ptr 0 0),(5,D.acc 1),(81,D.sl (aB.cU.map Action.c)),(82,D.int .i64 ((aB.cU.map Action.c).length:Int)),(83,D.int .i64 (i2:Int)),(93,D.acc 2),(94,D.int .i64 ((AF.map tx).length:Int)),(95,D.int .i64 cR)],[Ob.box (aK.c aB),Ob.row .uq 9 1 (HY.map tx),Ob.row .uq 9 1 (AF.map tx)]⟩
theorem Hs(hΓ:Γ.nt=111){aB:aK}{HY:aH}{i2:Nat}{AF:aH}{r:Bool}{k3:Option Bool}(Yd:k3=some r->Ax Γ N f142 (.q [[none]] (D.bool r)) [1,1,1,1,0,1,0,0,1,1,1] ⟨[(1,D.ptr 0 0),(5,D.acc 1),(81,D.sl (aB.cU.map Action.c)),(82,D.int .i64 ((aB.cU.map Action.c).length:Int)),(83,D.int .i64 (i2:Int))],[Ob.box (aK.c aB),Ob.row .uq 9 1 (HY.map tx)]⟩)(RE:AF.length<=maxLen):∀(rest:aH) (i3:Nat),AF.drop i3=rest->lM aB HY i2 AF k3 rest i3=some r->Ar Γ N f142 (.q [[none]] (D.bool r)) [1,1,1,1,0,1,0,0,1,1,0,0,1,1,1,0] (rest.length+1) (JS aB HY i2 AF (i3:Int)):=by
 intro rest
 induction rest with
 |nil=>
  intro i3 yL h;rw[lM]at h;refine aP fun N3 Sk Nv=>?_
  exact((aT.ge tx yL).a [.hl 3 [1,5,81,82,83] [0,1]]).ex hΓ Sk (Yd h)
 |cons Qi On ih3=>
  intro i3 yL h;rw[lM]at h;refine aP fun N3 Sk Nv=>?_
  obtain⟨a5b,h230,h⟩:=aE h;have a4h:=((((aT.lt tx yL).i (nX tx 1 (dc yL))).o 1 1 .uq (dK tx (dc yL))).g (qO h230))
  obtain⟨h231,h⟩|⟨h231,h⟩:=aM h
  ·have h:=aI h;subst h;exact(a4h.b h231).ret hΓ
  ·exact((a4h.b h231).a [.cn [1,5,81,82,83,93,94,95] [0,1,2]]).ct hΓ Nv (iS yL RE) (ih3 (i3+1) (dn yL) h)
theorem Hr(hΓ:Γ.nt=111){aB:aK}{HY:aH}{r:Bool}{k2:Option Bool}(zf:k2=some r->Ax Γ N f142 (.q [[none]] (D.bool r)) [1,1,1,1,1] ⟨[(1,D.ptr 0 0)],[Ob.box (aK.c aB)]⟩)(hm2:aB.cU.length<=maxLen):∀(rest:cH) (i2:Nat),aB.cU.drop i2=rest->lK aB HY k2 rest i2=some r->Ar Γ N f142 (.q [[none]] (D.bool r)) [1,1,1,1,0,1,0] (rest.length+1) (JR aB HY (i2:Int)):=by
 intro rest
 induction rest with
 |nil=>
  intro i2 hd2 h;rw[lK]at h;refine aP fun N2 ul sA=>?_
  exact((aT.ge Action.c hd2).a [.hl 0 [1] [0]]).ex hΓ ul (zf h)
 |cons k8 tf ih2=>
  intro i2 hd2 h;rw[lK]at h;refine aP fun N2 ul sA=>?_
  obtain⟨a5a,h204,h⟩:=aE h;have a4i:=(((aT.lt Action.c hd2).l (az Action.c 3 (dc hd2) rfl)).g (D6 h204))
  obtain⟨h205,h⟩|⟨h205,h⟩:=aM h
  ·have h:=aI h;subst h;exact(a4i.b h205).ret hΓ
  ·obtain⟨AF,h207,h⟩:=aE h;obtain⟨h232,h⟩:=bQ h;refine(((a4i.b h205).g (sn h207)).a [.cn [1,5,81,82,83,93,94,95] [0,1,3]]).lp hΓ (Hs hΓ (fun h=>?_) (bY h232) AF 0 rfl h);exact(aT.a [.cn [1,5,81,82,83] [0,1]]).ct hΓ sA (iS hd2 hm2) (ih2 (i2+1) (dn hd2) h)
theorem GN{aB:aK}{r:Bool}(h:uc aB=some r):Good prog 142 [D.agg (aK.c aB)] (D.bool r):=by
 refine gd func142 [[none]] 111 fun hr Γ hΓ=>?_
 rw[uc]at h;obtain⟨y1,h2,h⟩:=aE h;obtain⟨h3,h⟩|⟨h3,h⟩:=aM h
 ·have h:=aI h;subst h;exact(((aT.g (lJ h2)).r 4 h3).T 25).ret hΓ
 ·have a4j:=((aT.g (lJ h2)).r 4 h3)
  obtain⟨h4,h⟩|⟨h4,h⟩:=aM h
  ·have h:=aI h;subst h;exact((a4j.r 4 h4).T 21).ret hΓ
  ·have a4k:=(a4j.r 4 h4)
   obtain⟨h5,h⟩|⟨h5,h⟩:=aM h
   ·have h:=aI h;subst h;exact((a4k.r 5 h5).T 16).ret hΓ
   ·have a4l:=(a4k.r 5 h5)
    obtain⟨h6,h⟩|⟨h6,h⟩:=aM h
    ·have h:=aI h;subst h;exact((a4l.r 5 h6).T 11).ret hΓ
    ·have a4m:=(a4l.r 5 h6)
     obtain⟨h7,h⟩|⟨h7,h⟩:=aM h
     ·have h:=aI h;subst h;exact((a4m.r 5 h7).T 6).ret hΓ
     ·have a4n:=(a4m.r 5 h7)
      obtain⟨h8,h⟩|⟨h8,h⟩:=aM h
      ·have h:=aI h;subst h;exact((a4n.r 5 h8).T 1).ret hΓ
      ·have a4o:=(a4n.r 5 h8)
       obtain⟨h9,h⟩|⟨h9,h⟩:=aM h
       ·have h:=aI h;subst h;exact(a4o.b h9).ret hΓ
       ·refine((a4o.b h9).a [.cn [1,49,50,51] [0]]).lp hΓ (Hq hΓ (fun h=>?_) (by have:=(eN.sl (eN.agg (hr _ (aD (i:=0) rfl)) (.sl (aB.conds.map aL.c)) (by simp))).1;simpa using this) aB.conds 0 rfl h);obtain⟨HY,h74,h⟩:=aE h;refine((aT.g (wA h74)).a [.cn [1,5,81,82,83] [0,1]]).lp hΓ (Hr hΓ (fun h=>?_) (by have:=(eN.sl (eN.agg (hr _ (aD (i:=0) rfl)) (.sl (aB.cU.map Action.c)) (by simp))).1;simpa using this) aB.cU 0 rfl h);obtain⟨a5c,h234,h⟩:=aE h;obtain⟨a5d,h236,h⟩:=aE h;cases h;exact((aT.g (BV h234)).g (qc h236)).ret hΓ
def jM(aB:ah)(aU:Bytes)(k1:Option Int):ah->Nat->Option Int
 | [],i1=>(k1)
 |bL::bz,i1=>(bif (bL.name:Bytes)==aU then(some (i1:Int))else(jM aB aU k1 bz (i1+1)))
def rV(aB:ah)(aU:Bytes):Option Int:=(jM aB aU (some (-1)) aB 0)
def GM(aB:ah)(aU:Bytes)(cR:Int):St:=⟨[(1,D.str aU),(7,D.sl (aB.map aK.c)),(8,D.int .i64 ((aB.map aK.c).length:Int)),(9,D.int .i64 cR)],[]⟩
theorem Ei(hΓ:Γ.nt=20){aB:ah}{aU:Bytes}{r:Int}{k1:Option Int}(cc:k1=some r->Ax Γ N f143 (.q [[none]] (D.int .i64 r)) [1,1] ⟨[],[]⟩)(hm1:aB.length<=maxLen):∀(rest:ah) (i1:Nat),aB.drop i1=rest->jM aB aU k1 rest i1=some r->Ar Γ N f143 (.q [[none]] (D.int .i64 r)) [1,0,1,0] (rest.length+1) (GM aB aU (i1:Int)):=by
 intro rest
 induction rest with
 |nil=>
  intro i1 aq h;rw[jM]at h;refine aP fun N1 cC br=>?_
  exact((aT.ge aK.c aq).a [.hl 0 [] []]).ex hΓ cC (cc h)
 |cons bL bz ih1=>
  intro i1 aq h;rw[jM]at h;refine aP fun N1 cC br=>?_
  have eH:=((aT.lt aK.c aq).l (az aK.c 4 (dc aq) rfl))
  obtain⟨h13,h⟩|⟨h13,h⟩:=aM h
  ·cases h;exact(eH.b h13).ret hΓ
  ·exact((eH.b h13).a [.cn [1,7,8,9] []]).ct hΓ br (iS aq hm1) (ih1 (i1+1) (dn aq) h)
theorem D5{aB:ah}{aU:Bytes}{r:Int}(h:rV aB aU=some r):Good prog 143 [D.sl (aB.map aK.c),D.str aU] (D.int .i64 r):=by
 refine gd func143 [[none]] 20 fun hr Γ hΓ=>?_
 rw[rV]at h;refine(aT.a [.cn [1,7,8,9] []]).lp hΓ (Ei hΓ (fun h=>?_) (by have:=(eN.sl (hr _ (aD (i:=0) rfl))).1;simpa using this) aB 0 rfl h);cases h;exact aT.ret hΓ
def jK(aB:ah)(k1:Option Bool):ah->Nat->Option Bool
 | [],i1=>(k1)
 |bL::bz,i1=>((uc bL).bind fun Cr=>(bif !(Cr)then(some false)else((rV aB bL.name).bind fun SF=>(bif (SF:Int) != (i1:Int)then(some false)else(jK aB k1 bz (i1+1))))))
def ot(aB:ah):Option Bool:=(bif decide ((((aB.map aK.c).length:Int):Int)>6)then(some false)else(jK aB (some true) aB 0))
def GJ(aB:ah)(cR:Int):St:=⟨[(0,D.sl (aB.map aK.c)),(8,D.sl (aB.map aK.c)),(9,D.int .i64 ((aB.map aK.c).length:Int)),(10,D.int .i64 cR)],[]⟩
theorem Eg(hΓ:Γ.nt=27){aB:ah}{r:Bool}{k1:Option Bool}(cc:k1=some r->Ax Γ N f82 (.q [[none]] (D.bool r)) [1,1,1] ⟨[],[]⟩)(hm1:aB.length<=maxLen):∀(rest:ah) (i1:Nat),aB.drop i1=rest->jK aB k1 rest i1=some r->Ar Γ N f82 (.q [[none]] (D.bool r)) [1,1,0,1,0] (rest.length+1) (GJ aB (i1:Int)):=by
 intro rest
 induction rest with
 |nil=>
  intro i1 aq h;rw[jK]at h;refine aP fun N1 cC br=>?_
  exact((aT.ge aK.c aq).a [.hl 0 [] []]).ex hΓ cC (cc h)
 |cons bL bz ih1=>
  intro i1 aq h;rw[jK]at h;refine aP fun N1 cC br=>?_
  obtain⟨Cr,h35,h⟩:=aE h;have kx:=(((aT.lt aK.c aq).l (az aK.c 4 (dc aq) rfl)).g (GN h35))
  obtain⟨h36,h⟩|⟨h36,h⟩:=aM h
  ·have h:=aI h;subst h;exact((kx.r 7 h36).T 1).ret hΓ
  ·obtain⟨SF,h38,h⟩:=aE h;have kM:=(((kx.r 4 h36).g (D5 h38)).r 3 h36)
   obtain⟨h39,h⟩|⟨h39,h⟩:=aM h
   ·have h:=aI h;subst h;exact(kM.b h39).ret hΓ
   ·exact((kM.b h39).a [.cn [0,8,9,10] []]).ct hΓ br (iS aq hm1) (ih1 (i1+1) (dn aq) h)
theorem tJ{aB:ah}{r:Bool}(h:ot aB=some r):Good prog 82 [D.sl (aB.map aK.c)] (D.bool r):=by
 refine gd func82 [[none]] 27 fun hr Γ hΓ=>?_
 rw[ot]at h;obtain⟨h1,h⟩|⟨h1,h⟩:=aM h
 ·have h:=aI h;subst h;exact(aT.b h1).ret hΓ
 ·refine((aT.b h1).a [.cn [0,8,9,10] []]).lp hΓ (Eg hΓ (fun h=>?_) (by have:=(eN.sl (hr _ (aD (i:=0) rfl))).1;simpa using this) aB 0 rfl h);have h:=aI h;subst h;exact aT.ret hΓ
def nw(aB:aC)(k1:Option Bool):aH->Nat->Option Bool
 | [],i1=>(k1)
 |bL::bz,i1=>((ew bL).bind fun SE=>(bif !(SE)then(some false)else(nw aB k1 bz (i1+1))))
def ng(aB:aC):Option Bool:=((q8 aB.rel).bind fun y1=>(bif !(y1)then(some false)else(bif decide ((((aB.args.map tx).length:Int):Int)>3)then(some false)else(nw aB (some true) aB.args 0))))
def JP(aB:aC)(cR:Int):St:=⟨[(16,D.sl (aB.args.map tx)),(17,D.int .i64 ((aB.args.map tx).length:Int)),(18,D.int .i64 cR)],[]⟩
theorem Hp(hΓ:Γ.nt=26){aB:aC}{r:Bool}{k1:Option Bool}(cc:k1=some r->Ax Γ N f144 (.q [[none]] (D.bool r)) [1,1,1] ⟨[],[]⟩)(hm1:aB.args.length<=maxLen):∀(rest:aH) (i1:Nat),aB.args.drop i1=rest->nw aB k1 rest i1=some r->Ar Γ N f144 (.q [[none]] (D.bool r)) [1,1,0,1,0] (rest.length+1) (JP aB (i1:Int)):=by
 intro rest
 induction rest with
 |nil=>
  intro i1 aq h;rw[nw]at h;refine aP fun N1 cC br=>?_
  exact((aT.ge tx aq).a [.hl 0 [] []]).ex hΓ cC (cc h)
 |cons bL bz ih1=>
  intro i1 aq h;rw[nw]at h;refine aP fun N1 cC br=>?_
  obtain⟨SE,h26,h⟩:=aE h;have eH:=(((aT.lt tx aq).l (az tx 1 (dc aq) rfl)).g (eD h26))
  obtain⟨h27,h⟩|⟨h27,h⟩:=aM h
  ·have h:=aI h;subst h;exact(eH.b h27).ret hΓ
  ·exact((eH.b h27).a [.cn [16,17,18] []]).ct hΓ br (iS aq hm1) (ih1 (i1+1) (dn aq) h)
theorem vB{aB:aC}{r:Bool}(h:ng aB=some r):Good prog 144 [D.agg (aC.c aB)] (D.bool r):=by
 refine gd func144 [[none]] 26 fun hr Γ hΓ=>?_
 rw[ng]at h;obtain⟨y1,h2,h⟩:=aE h;obtain⟨h3,h⟩|⟨h3,h⟩:=aM h
 ·have h:=aI h;subst h;exact(((aT.g (lJ h2)).r 5 h3).T 1).ret hΓ
 ·have kx:=((aT.g (lJ h2)).r 5 h3)
  obtain⟨h4,h⟩|⟨h4,h⟩:=aM h
  ·have h:=aI h;subst h;exact(kx.b h4).ret hΓ
  ·refine((kx.b h4).a [.cn [16,17,18] []]).lp hΓ (Hp hΓ (fun h=>?_) (by have:=(eN.sl (eN.agg (hr _ (aD (i:=0) rfl)) (.sl (aB.args.map tx)) (by simp))).1;simpa using this) aB.args 0 rfl h);have h:=aI h;subst h;exact aT.ret hΓ
def ji(aB:Int):Option Bytes:=((zC aB).bind fun y1=>(some y1))
theorem wB{aB:Int}{r:Bytes}(h:ji aB=some r):Good prog 246 [D.int .i64 aB] (D.str r):=by
 refine gd func246 [[none]] 5 fun hr Γ hΓ=>?_
 rw[ji]at h;obtain⟨y1,h2,h⟩:=aE h;have h:=aI h;subst h;exact(aT.g (Fh h2)).ret hΓ
def l6(aB:Bytes):Option (Int×Bool):=(bif decide (((aB.length:Int):Int)<1)then(some (0,false))else(bif decide (((aB.length:Int):Int)>4)then(some (0,false))else((zB aB).bind fun y3=>(bif y3.2 then(some (0,false))else(bif decide ((y3.1:Int)<0)then(some (0,false))else(bif decide ((y3.1:Int)>9999)then(some (0,false))else((ji y3.1).bind fun y8=>(bif !((y8:Bytes)==aB)then(some (0,false))else(some (y3.1,true))))))))))
theorem pM{aB:Bytes}{r:Int×Bool}(h:l6 aB=some r):Good prog 268 [D.str aB] (D.hY [D.int .i64 r.1,D.bool r.2]):=by
 refine gd func268 [[none],[none]] 36 fun hr Γ hΓ=>?_
 rw[l6]at h;obtain⟨h1,h⟩|⟨h1,h⟩:=aM h
 ·cases h;exact((aT.r 4 h1).T 1).ret hΓ
 ·have mQ:=(aT.r 4 h1)
  obtain⟨h2,h⟩|⟨h2,h⟩:=aM h
  ·cases h;exact(mQ.b h2).ret hΓ
  ·obtain⟨y3,h4,h⟩:=aE h;have eH:=((mQ.b h2).g (Fg h4))
   obtain⟨h5,h⟩|⟨h5,h⟩:=aM h
   ·cases h;exact((eH.r 3 h5).T 9).ret hΓ
   ·have kx:=(eH.r 3 h5)
    obtain⟨h6,h⟩|⟨h6,h⟩:=aM h
    ·cases h;exact((kx.r 3 h6).T 6).ret hΓ
    ·have kM:=(kx.r 3 h6)
     obtain⟨h7,h⟩|⟨h7,h⟩:=aM h
     ·cases h;exact((kM.r 5 h7).T 1).ret hΓ
     ·obtain⟨y8,h9,h⟩:=aE h;have uK:=(((kM.r 2 h7).g (wB h9)).r 3 h7)
      obtain⟨h10,h⟩|⟨h10,h⟩:=aM h
      ·cases h;exact(uK.b h10).ret hΓ
      ·cases h;exact(uK.b h10).ret hΓ
def gh(aB:Int)(aU:Int):Option Int:=(bif decide ((aB:Int)<aU)then(some (-1))else(bif decide ((aB:Int)>aU)then(some 1)else(some 0)))
theorem qd{aB:Int}{aU:Int}{r:Int}(h:gh aB aU=some r):Good prog 222 [D.int .i64 aB,D.int .i64 aU] (D.int .i64 r):=by
 refine gd func222 [[none]] 13 fun hr Γ hΓ=>?_
 rw[gh]at h;obtain⟨h1,h⟩|⟨h1,h⟩:=aM h
 ·cases h;exact(aT.b h1).ret hΓ
 ·obtain⟨h2,h⟩|⟨h2,h⟩:=aM h
  ·have h:=aI h;subst h;exact((aT.b h1).b h2).ret hΓ
  ·have h:=aI h;subst h;exact((aT.b h1).b h2).ret hΓ
def kV(aB:Bytes)(aU:Bytes):Option Int:=((l6 aB).bind fun y1=>((l6 aU).bind fun y3=>(bif y1.2 then(bif y3.2 then((gh y1.1 y3.1).bind fun y7=>(some y7))else(some (-1)))else(bif y3.2 then(some 1)else((pV aB aU).bind fun Qj=>(some Qj))))))
theorem zu{aB:Bytes}{aU:Bytes}{r:Int}(h:kV aB aU=some r):Good prog 221 [D.str aB,D.str aU] (D.int .i64 r):=by
 refine gd func221 [[none]] 34 fun hr Γ hΓ=>?_
 rw[kV]at h;obtain⟨y1,h2,h⟩:=aE h;obtain⟨y3,h4,h⟩:=aE h;have mQ:=((aT.g (pM h2)).g (pM h4))
 obtain⟨h5,h⟩|⟨h5,h⟩:=aM h
 ·have eH:=(mQ.r 2 h5)
  obtain⟨h6,h⟩|⟨h6,h⟩:=aM h
  ·obtain⟨y7,h8,h⟩:=aE h;have h:=aI h;subst h;exact((eH.b h6).g (qd h8)).ret hΓ
  ·cases h;exact((eH.b h6).b h5).ret hΓ
 ·have kx:=(((mQ.r 2 h5).F 1).b h5)
  obtain⟨h9,h⟩|⟨h9,h⟩:=aM h
  ·have h:=aI h;subst h;exact(kx.b h9).ret hΓ
  ·obtain⟨Qj,h11,h⟩:=aE h;have h:=aI h;subst h;exact((kx.b h9).g (rN h11)).ret hΓ
def iG(aB:aC)(aU:aC)(k1:Option Int):aH->Nat->Option Int
 | [],i1=>(k1)
 |bL::bz,i1=>(bif decide (((i1:Int):Int)<((aU.args.map tx).length:Int))then((lF aU.args (i1:Int)).bind fun x37=>((kV bL x37).bind fun ML=>(bif (ML:Int) != 0 then(some ML)else(iG aB aU k1 bz (i1+1)))))else(k1))
def fJ(aB:aC)(aU:aC):Option Int:=((pV aB.rel aU.rel).bind fun y1=>(bif (y1:Int) != 0 then(some y1)else(iG aB aU ((gh ((aB.args.map tx).length:Int) ((aU.args.map tx).length:Int)).bind fun Xz=>(some Xz)) aB.args 0)))
def BO(aB:aC)(aU:aC)(cR:Int):St:=⟨[(2,D.ptr 0 0),(3,D.ptr 1 0),(6,D.int .i64 cR)],[Ob.box (aC.c aB),Ob.box (aC.c aU)]⟩
theorem AX(hΓ:Γ.nt=51){aB:aC}{aU:aC}{r:Int}{k1:Option Int}(cc:k1=some r->Ax Γ N f145 (.q [[none]] (D.int .i64 r)) [1,1,1] ⟨[(2,D.ptr 0 0),(3,D.ptr 1 0)],[Ob.box (aC.c aB),Ob.box (aC.c aU)]⟩)(hm1:aB.args.length<=maxLen):∀(rest:aH) (i1:Nat),aB.args.drop i1=rest->iG aB aU k1 rest i1=some r->Ar Γ N f145 (.q [[none]] (D.int .i64 r)) [1,1,0,1,0] (rest.length+1) (BO aB aU (i1:Int)):=by
 intro rest
 induction rest with
 |nil=>
  intro i1 aq h;rw[iG]at h;refine aP fun N1 cC br=>?_
  exact((((((((aT.ge tx aq).ge tx aq).ge tx aq).ge tx aq).ge tx aq).ge tx aq).F 1).a [.hl 0 [2,3] [0,1]]).ex hΓ cC (cc h)
 |cons bL bz ih1=>
  intro i1 aq h;rw[iG]at h;refine aP fun N1 cC br=>?_
  have kx:=((((((aT.lt tx aq).lt tx aq).lt tx aq).lt tx aq).lt tx aq).lt tx aq)
  obtain⟨h36,h⟩|⟨h36,h⟩:=aM h
  ·obtain⟨x37,h38,h⟩:=aE h;obtain⟨ML,h40,h⟩:=aE h;have kM:=(((((kx.b h36).a [.n 10]).l (az tx 1 (dc aq) rfl)).l (eA tx 1 h38 rfl)).g (zu h40))
   obtain⟨h41,h⟩|⟨h41,h⟩:=aM h
   ·have h:=aI h;subst h;exact(kM.b h41).ret hΓ
   ·exact((kM.b h41).a [.cn [2,3,6] [0,1]]).ct hΓ br (iS aq hm1) (ih1 (i1+1) (dn aq) h)
  ·exact((kx.b h36).a [.hl 0 [2,3] [0,1]]).ex hΓ cC (cc h)
theorem py{aB:aC}{aU:aC}{r:Int}(h:fJ aB aU=some r):Good prog 145 [D.agg (aC.c aB),D.agg (aC.c aU)] (D.int .i64 r):=by
 refine gd func145 [[none]] 51 fun hr Γ hΓ=>?_
 rw[fJ]at h;obtain⟨y1,h2,h⟩:=aE h;obtain⟨h3,h⟩|⟨h3,h⟩:=aM h
 ·have h:=aI h;subst h;exact((aT.g (rN h2)).b h3).ret hΓ
 ·refine(((aT.g (rN h2)).b h3).a [.cn [2,3,6] [0,1]]).lp hΓ (AX hΓ (fun h=>?_) (by have:=(eN.sl (eN.agg (hr _ (aD (i:=0) rfl)) (.sl (aB.args.map tx)) (by simp))).1;simpa using this) aB.args 0 rfl h);obtain⟨Xz,h43,h⟩:=aE h;have h:=aI h;subst h;exact(aT.g (qd h43)).ret hΓ
def ga(aB:aJ)(k1:Option Bool):aJ->Nat->Option Bool
 | [],i1=>(k1)
 |bL::bz,i1=>((ng bL).bind fun Zl=>(bif !(Zl)then(some false)else(bif decide (((i1:Int):Int)>0)then((lF aB (IntKind.i64.wrap ((i1:Int)-1))).bind fun x50=>((fJ x50 bL).bind fun y52=>(bif decide ((y52:Int)>=0)then(some false)else(ga aB k1 bz (i1+1)))))else(ga aB k1 bz (i1+1)))))
def nB(aB:aJ):Option Bool:=(bif decide ((((aB.map aC.c).length:Int):Int)>24)then(some false)else(ga aB (some true) aB 0))
def GI(aB:aJ)(cR:Int):St:=⟨[(0,D.sl (aB.map aC.c)),(8,D.sl (aB.map aC.c)),(9,D.int .i64 ((aB.map aC.c).length:Int)),(10,D.int .i64 cR)],[]⟩
theorem Ef(hΓ:Γ.nt=33){aB:aJ}{r:Bool}{k1:Option Bool}(cc:k1=some r->Ax Γ N f83 (.q [[none]] (D.bool r)) [1,1,1] ⟨[],[]⟩)(hm1:aB.length<=maxLen):∀(rest:aJ) (i1:Nat),aB.drop i1=rest->ga aB k1 rest i1=some r->Ar Γ N f83 (.q [[none]] (D.bool r)) [1,1,0,1,0] (rest.length+1) (GI aB (i1:Int)):=by
 intro rest
 induction rest with
 |nil=>
  intro i1 aq h;rw[ga]at h;refine aP fun N1 cC br=>?_
  exact((aT.ge aC.c aq).a [.hl 0 [] []]).ex hΓ cC (cc h)
 |cons bL bz ih1=>
  intro i1 aq h;rw[ga]at h;refine aP fun N1 cC br=>?_
  obtain⟨Zl,h47,h⟩:=aE h;have kM:=((((aT.lt aC.c aq).l (az aC.c 2 (dc aq) rfl)).a [.n 13]).g (vB h47))
  obtain⟨h48,h⟩|⟨h48,h⟩:=aM h
  ·have h:=aI h;subst h;exact((((kM.r 3 h48).a [bF,bF,bF,bF,bF,bF,bF,bF]).r 2 h48).T 1).ret hΓ
  ·have uK:=(kM.r 3 h48)
   obtain⟨h49,h⟩|⟨h49,h⟩:=aM h
   ·obtain⟨x50,h51,h⟩:=aE h;obtain⟨y52,h53,h⟩:=aE h;have wO:=((((((((uK.r 4 h49).l (eA aC.c 2 h51 rfl)).r 3 h49).g (py h53)).b h49).b h48).b h49).b h48)
    obtain⟨h54,h⟩|⟨h54,h⟩:=aM h
    ·have h:=aI h;subst h;exact(wO.b h54).ret hΓ
    ·exact((wO.b h54).a [.cn [0,8,9,10] []]).ct hΓ br (iS aq hm1) (ih1 (i1+1) (dn aq) h)
   ·exact((((((uK.r 8 h49).b h48).b h49).b h48).F 1).a [.cn [0,8,9,10] []]).ct hΓ br (iS aq hm1) (ih1 (i1+1) (dn aq) h)
theorem pL{aB:aJ}{r:Bool}(h:nB aB=some r):Good prog 83 [D.sl (aB.map aC.c)] (D.bool r):=by
 refine gd func83 [[none]] 33 fun hr Γ hΓ=>?_
 rw[nB]at h;obtain⟨h1,h⟩|⟨h1,h⟩:=aM h
 ·have h:=aI h;subst h;exact(aT.b h1).ret hΓ
 ·refine((aT.b h1).a [.cn [0,8,9,10] []]).lp hΓ (Ef hΓ (fun h=>?_) (by have:=(eN.sl (hr _ (aD (i:=0) rfl))).1;simpa using this) aB 0 rfl h);have h:=aI h;subst h;exact aT.ret hΓ
def eb(aB:aH)(k1:aR->Option aR):aH->Nat->aR->List (Bytes×Bool)->Option aR
 | [],i1,bA,A8=>(k1 bA)
 |bL::bz,i1,bA,A8=>((kB bL).bind fun y52=>(bif y52 then(bif !(Im false bL A8)then((ji (IntKind.i64.wrap (((bA.map aS.c).length:Int)+1))).bind fun y56=>(bif decide (([63]:Bytes).length+(y56:Bytes).length<=maxLen)then(bif room ((bA.map aS.c).length+([[D.str bL,D.str (([63])++y56)]]).length) 32 then(eb aB k1 bz (i1+1) (bA++([(⟨bL,([63])++y56⟩:aS)])) (Ls bL true A8))else none)else none))else(eb aB k1 bz (i1+1) bA A8))else(eb aB k1 bz (i1+1) bA A8)))
def mZ(aB:aH):Option aR:=(eb aB (fun(bf:aR)=>(some bf)) aB 0 ([]:aR) ([]:List (Bytes×Bool)))
def x8(aB:aH)(W0:List aQ)(W1:List (D×D))(cR:Int):St:=⟨[(3,D.acc 0),(4,D.acc 1),(8,D.sl (aB.map tx)),(9,D.int .i64 ((aB.map tx).length:Int)),(10,D.int .i64 cR)],[Ob.row .uq 152 2 W0,Ob.mp W1]⟩
theorem CO(hΓ:Γ.nt=36){aB:aH}{r:aR}{k1:aR->Option aR}(cc:∀(bf:aR),k1 bf=some r->Ax Γ N f190 (.q [[some (152,2)]] (D.fr 152 2 (r.map aS.c))) [1,1,1,1] ⟨[(3,D.acc 0)],[Ob.row .uq 152 2 (bf.map aS.c)]⟩)(hm1:aB.length<=maxLen):∀(rest:aH) (i1:Nat) (bA:aR) (A8:List (Bytes×Bool)),aB.drop i1=rest->eb aB k1 rest i1 bA A8=some r->Ar Γ N f190 (.q [[some (152,2)]] (D.fr 152 2 (r.map aS.c))) [1,1,1,0,1,0] (rest.length+1) (x8 aB (bA.map aS.c) (A8.map (kS eB)) (i1:Int)):=by
 intro rest
 induction rest with
 |nil=>
  intro i1 bA A8 aq h;rw[eb]at h;refine aP fun N1 cC br=>?_
  exact((aT.ge tx aq).a [.hl 0 [3] [0]]).ex hΓ cC (cc bA h)
 |cons bL bz ih1=>
  intro i1 bA A8 aq h;rw[eb]at h;refine aP fun N1 cC br=>?_
  obtain⟨y52,h53,h⟩:=aE h;have kx:=(((aT.lt tx aq).l (az tx 1 (dc aq) rfl)).g (mV h53))
  obtain⟨h54,h⟩|⟨h54,h⟩:=aM h
  ·have kM:=((((kx.r 3 h54).w (show plk prog 232 (A8.map (kS eB)) (D.str bL) false=some (D.bool (Im false bL A8))from a4c (e:=eB) (z:=false) (by kernel_rfl))).a [.d (D.bool (Im false bL A8))]).r 2 h54)
   obtain⟨h55,h⟩|⟨h55,h⟩:=aM h
   ·obtain⟨y56,h57,h⟩:=aE h;obtain⟨h58,h⟩:=bQ h;obtain⟨h59,h⟩:=bQ h;exact(((((((kM.b h55).w (show Ik (D.str bL) (D.bool true) (A8.map (kS eB))=some ((Ls bL true A8).map (kS eB))from Ww (e:=eB) (m:=A8))).a [.kv ((Ls bL true A8).map (kS eB))]).g (wB h57)).w (bY h58)).w (bh h59)).a [.cn [3,4,8,9,10] [3,1]]).cs hΓ br (x8 aB ((bA.map aS.c)++([[D.str bL,D.str (([63])++y56)]])) ((Ls bL true A8).map (kS eB)) (IntKind.i64.wrap ((i1:Int)+1))) (by first| (simp only[iS aq hm1,mA]<;>rfl)| (simp only[iS aq hm1,mA,aC.c,aS.c,aL.c,Action.c,aK.c,aN.c,cX.c,aV.c,Node.c,aG.c,cg.c]<;>rfl)) (ih1 (i1+1) (bA++([(⟨bL,([63])++y56⟩:aS)])) (Ls bL true A8) (dn aq) h)
   ·exact((kM.b h55).a [.cn [3,4,8,9,10] [0,1]]).ct hΓ br (iS aq hm1) (ih1 (i1+1) bA A8 (dn aq) h)
  ·exact(((kx.r 5 h54).F 1).a [.cn [3,4,8,9,10] [0,1]]).ct hΓ br (iS aq hm1) (ih1 (i1+1) bA A8 (dn aq) h)
theorem vf{aB:aH}{r:aR}(h:mZ aB=some r):Good prog 190 [D.sl (aB.map tx)] (D.fr 152 2 (r.map aS.c)):=by
 refine gd func190 [[some (152,2)]] 36 fun hr Γ hΓ=>?_
 rw[mZ]at h;refine(aT.a [.Kc 3,.cn [3,4,8,9,10] [0,1]]).lp hΓ (CO hΓ (fun bf h=>?_) (by have:=(eN.sl (hr _ (aD (i:=0) rfl))).1;simpa using this) aB 0 ([]:aR) ([]:List (Bytes×Bool)) rfl h);have h:=aI h;subst h;exact aT.ret hΓ
def fe(aB:aK)(k1:aH->Option aR):ai->Nat->aH->Option aR
 | [],i1,bA=>(k1 bA)
 |bL::bz,i1,bA=>((qj bL).bind fun nK=>(bif room ((bA.map tx).length+(nK.map tx).length) 16 then(fe aB k1 bz (i1+1) (bA++nK))else none))
def pO(aB:aK):Option aR:=(fe aB (fun(bf:aH)=>((mZ bf).bind fun y30=>(some y30))) aB.conds 0 ([]:aH))
def wu(aB:aK)(W0:List aQ)(cR:Int):St:=⟨[(3,D.acc 0),(7,D.sl (aB.conds.map aL.c)),(8,D.int .i64 ((aB.conds.map aL.c).length:Int)),(9,D.int .i64 cR)],[Ob.row .uq 9 1 W0]⟩
theorem CJ(hΓ:Γ.nt=20){aB:aK}{r:aR}{k1:aH->Option aR}(cc:∀(bf:aH),k1 bf=some r->Ax Γ N f125 (.q [[some (152,2)]] (D.fr 152 2 (r.map aS.c))) [1,1,1] ⟨[(3,D.acc 0)],[Ob.row .uq 9 1 (bf.map tx)]⟩)(hm1:aB.conds.length<=maxLen):∀(rest:ai) (i1:Nat) (bA:aH),aB.conds.drop i1=rest->fe aB k1 rest i1 bA=some r->Ar Γ N f125 (.q [[some (152,2)]] (D.fr 152 2 (r.map aS.c))) [1,1,0,1,0] (rest.length+1) (wu aB (bA.map tx) (i1:Int)):=by
 intro rest
 induction rest with
 |nil=>
  intro i1 bA aq h;rw[fe]at h;refine aP fun N1 cC br=>?_
  exact((aT.ge aL.c aq).a [.hl 0 [3] [0]]).ex hΓ cC (cc bA h)
 |cons bL bz ih1=>
  intro i1 bA aq h;rw[fe]at h;refine aP fun N1 cC br=>?_
  obtain⟨nK,h28,h⟩:=aE h;obtain⟨h29,h⟩:=bQ h;exact(((((aT.lt aL.c aq).l (az aL.c 5 (dc aq) rfl)).g (xq h28)).w (bh h29)).a [.cn [3,7,8,9] [3]]).cs hΓ br (wu aB ((bA.map tx)++(nK.map tx)) (IntKind.i64.wrap ((i1:Int)+1))) (by first| (simp only[iS aq hm1,mA]<;>rfl)| (simp only[iS aq hm1,mA,aC.c,aS.c,aL.c,Action.c,aK.c,aN.c,cX.c,aV.c,Node.c,aG.c,cg.c]<;>rfl)) (ih1 (i1+1) (bA++nK) (dn aq) h)
theorem BR{aB:aK}{r:aR}(h:pO aB=some r):Good prog 125 [D.agg (aK.c aB)] (D.fr 152 2 (r.map aS.c)):=by
 refine gd func125 [[some (152,2)]] 20 fun hr Γ hΓ=>?_
 rw[pO]at h;refine(aT.a [.Kc 3,.cn [3,7,8,9] [1]]).lp hΓ (CJ hΓ (fun bf h=>?_) (by have:=(eN.sl (eN.agg (hr _ (aD (i:=0) rfl)) (.sl (aB.conds.map aL.c)) (by simp))).1;simpa using this) aB.conds 0 ([]:aH) rfl h);obtain⟨y30,h31,h⟩:=aE h;have h:=aI h;subst h;exact(aT.g (vf h31)).ret hΓ
def gP(aB:Bytes)(aU:aR)(k1:Option Bytes):aR->Nat->Option Bytes
 | [],i1=>(k1)
 |bL::bz,i1=>(bif (bL.var:Bytes)==aB then(some bL.value)else(gP aB aU k1 bz (i1+1)))
def gl(aB:Bytes)(aU:aR):Option Bytes:=(gP aB aU (some aB) aU 0)
def CP(aB:Bytes)(aU:aR)(cR:Int):St:=⟨[(0,D.str aB),(7,D.sl (aU.map aS.c)),(8,D.int .i64 ((aU.map aS.c).length:Int)),(9,D.int .i64 cR)],[]⟩
theorem Ba(hΓ:Γ.nt=21){aB:Bytes}{aU:aR}{r:Bytes}{k1:Option Bytes}(cc:k1=some r->Ax Γ N f276 (.q [[none]] (D.str r)) [1,1] ⟨[(0,D.str aB)],[]⟩)(hm1:aU.length<=maxLen):∀(rest:aR) (i1:Nat),aU.drop i1=rest->gP aB aU k1 rest i1=some r->Ar Γ N f276 (.q [[none]] (D.str r)) [1,0,1,0] (rest.length+1) (CP aB aU (i1:Int)):=by
 intro rest
 induction rest with
 |nil=>
  intro i1 aq h;rw[gP]at h;refine aP fun N1 cC br=>?_
  exact((aT.ge aS.c aq).a [.hl 0 [0] []]).ex hΓ cC (cc h)
 |cons bL bz ih1=>
  intro i1 aq h;rw[gP]at h;refine aP fun N1 cC br=>?_
  have eH:=((aT.lt aS.c aq).l (az aS.c 2 (dc aq) rfl))
  obtain⟨h13,h⟩|⟨h13,h⟩:=aM h
  ·cases h;exact(eH.b h13).ret hΓ
  ·exact((eH.b h13).a [.cn [0,7,8,9] []]).ct hΓ br (iS aq hm1) (ih1 (i1+1) (dn aq) h)
theorem qg{aB:Bytes}{aU:aR}{r:Bytes}(h:gl aB aU=some r):Good prog 276 [D.str aB,D.sl (aU.map aS.c)] (D.str r):=by
 refine gd func276 [[none]] 21 fun hr Γ hΓ=>?_
 rw[gl]at h;refine(aT.a [.cn [0,7,8,9] []]).lp hΓ (Ba hΓ (fun h=>?_) (by have:=(eN.sl (hr _ (aD (i:=1) rfl))).1;simpa using this) aU 0 rfl h);have h:=aI h;subst h;exact aT.ret hΓ
def jm(aB:aL)(aU:aR)(y1:Bytes)(y3:Bytes)(k1:aH->Option aL):aH->Nat->aH->Option aL
 | [],i1,fD=>(k1 fD)
 |bL::bz,i1,fD=>((gl bL aU).bind fun TQ=>(bif room ((fD.map tx).length+([[D.str TQ]]).length) 16 then(jm aB aU y1 y3 k1 bz (i1+1) (fD++([TQ])))else none))
def kC(aB:aL)(aU:aR):Option aL:=((gl aB.left aU).bind fun y1=>((gl aB.right aU).bind fun y3=>(jm aB aU y1 y3 (fun(qK:aH)=>(some (⟨aB.kind,(⟨aB.pat.rel,qK⟩:aC),y1,y3⟩:aL))) aB.pat.args 0 ([]:aH))))
def wv(aB:aL)(aU:aR)(y1:Bytes)(y3:Bytes)(W0:List aQ)(cR:Int):St:=⟨[(1,D.sl (aU.map aS.c)),(4,D.ptr 0 0),(5,D.ptr 1 0),(26,D.sl (aB.pat.args.map tx)),(27,D.int .i64 ((aB.pat.args.map tx).length:Int)),(28,D.int .i64 cR)],[Ob.box [D.int .i64 0,D.str ([]),D.nil,D.str ([]),D.str ([])],Ob.box [D.int .i64 aB.kind,D.str aB.pat.rel,D.acc 2,D.str y1,D.str y3],Ob.row .uq 9 1 W0]⟩
theorem CK(hΓ:Γ.nt=44){aB:aL}{aU:aR}{y1:Bytes}{y3:Bytes}{r:aL}{k1:aH->Option aL}(cc:∀(qK:aH),k1 qK=some r->Ax Γ N f256 (.q [[none,none,some (9,1),none,none]] (D.agg [D.int .i64 r.kind,D.str r.pat.rel,D.fr 9 1 (r.pat.args.map tx),D.str r.left,D.str r.right])) [1,1,1,1] ⟨[(4,D.ptr 0 0),(5,D.ptr 1 0)],[Ob.box [D.int .i64 0,D.str ([]),D.nil,D.str ([]),D.str ([])],Ob.box [D.int .i64 aB.kind,D.str aB.pat.rel,D.acc 2,D.str y1,D.str y3],Ob.row .uq 9 1 (qK.map tx)]⟩)(hm1:aB.pat.args.length<=maxLen):∀(rest:aH) (i1:Nat) (fD:aH),aB.pat.args.drop i1=rest->jm aB aU y1 y3 k1 rest i1 fD=some r->Ar Γ N f256 (.q [[none,none,some (9,1),none,none]] (D.agg [D.int .i64 r.kind,D.str r.pat.rel,D.fr 9 1 (r.pat.args.map tx),D.str r.left,D.str r.right])) [1,1,1,0,1,0] (rest.length+1) (wv aB aU y1 y3 (fD.map tx) (i1:Int)):=by
 intro rest
 induction rest with
 |nil=>
  intro i1 fD aq h;rw[jm]at h;refine aP fun N1 cC br=>?_
  exact((aT.ge tx aq).a [.hl 0 [4,5] [0,1,2]]).ex hΓ cC (cc fD h)
 |cons bL bz ih1=>
  intro i1 fD aq h;rw[jm]at h;refine aP fun N1 cC br=>?_
  obtain⟨TQ,h32,h⟩:=aE h;obtain⟨h33,h⟩:=bQ h;exact((((((aT.lt tx aq).l (az tx 1 (dc aq) rfl)).a [.n 7]).g (qg h32)).w (bh h33)).a [.cn [1,4,5,26,27,28] [0,1,4]]).cs hΓ br (wv aB aU y1 y3 ((fD.map tx)++([[D.str TQ]])) (IntKind.i64.wrap ((i1:Int)+1))) (by first| (simp only[iS aq hm1,mA]<;>rfl)| (simp only[iS aq hm1,mA,aC.c,aS.c,aL.c,Action.c,aK.c,aN.c,cX.c,aV.c,Node.c,aG.c,cg.c]<;>rfl)) (ih1 (i1+1) (fD++([TQ])) (dn aq) h)
theorem nU{aB:aL}{aU:aR}{r:aL}(h:kC aB aU=some r):Good prog 256 [D.agg (aL.c aB),D.sl (aU.map aS.c)] (D.agg [D.int .i64 r.kind,D.str r.pat.rel,D.fr 9 1 (r.pat.args.map tx),D.str r.left,D.str r.right]):=by
 refine gd func256 [[none,none,some (9,1),none,none]] 44 fun hr Γ hΓ=>?_
 rw[kC]at h;obtain⟨y1,h2,h⟩:=aE h;obtain⟨y3,h4,h⟩:=aE h;refine((((aT.a [.n 12]).g (qg h2)).g (qg h4)).a [.pb 2 2 9 1,.cn [1,4,5,26,27,28] [1,2,3]]).lp hΓ (CK hΓ (fun qK h=>?_) (by have:=(eN.sl (eN.agg (hr _ (aD (i:=0) rfl)) (.sl (aB.pat.args.map tx)) (by simp))).1;simpa using this) aB.pat.args 0 ([]:aH) rfl h);cases h;exact aT.ret hΓ
def jl(aB:aK)(y1:aR)(k1:ai->Option ai):ai->Nat->ai->Option ai
 | [],i1,bW=>(k1 bW)
 |bL::bz,i1,bW=>((kC bL y1).bind fun EP=>(bif room ((bW.map aL.c).length+([[D.int .i64 EP.kind,D.str EP.pat.rel,D.sl (EP.pat.args.map tx),D.str EP.left,D.str EP.right]]).length) 80 then(jl aB y1 k1 bz (i1+1) (bW++([EP])))else none))
def pN(aB:aK):Option ai:=((pO aB).bind fun y1=>(jl aB y1 (fun(bf:ai)=>(some bf)) aB.conds 0 ([]:ai)))
def wq(aB:aK)(y1:aR)(W0:List aQ)(cR:Int):St:=⟨[(3,D.acc 0),(4,D.acc 1),(10,D.sl (aB.conds.map aL.c)),(11,D.int .i64 ((aB.conds.map aL.c).length:Int)),(12,D.int .i64 cR)],[Ob.row .uq 152 2 (y1.map aS.c),Ob.row .uq 115 5 W0]⟩
theorem CI(hΓ:Γ.nt=24){aB:aK}{y1:aR}{r:ai}{k1:ai->Option ai}(cc:∀(bf:ai),k1 bf=some r->Ax Γ N f200 (.q [[some (115,5)]] (D.fr 115 5 (r.map aL.c))) [1,1,1,1] ⟨[(4,D.acc 0)],[Ob.row .uq 115 5 (bf.map aL.c)]⟩)(hm1:aB.conds.length<=maxLen):∀(rest:ai) (i1:Nat) (bW:ai),aB.conds.drop i1=rest->jl aB y1 k1 rest i1 bW=some r->Ar Γ N f200 (.q [[some (115,5)]] (D.fr 115 5 (r.map aL.c))) [1,1,1,0,1,0] (rest.length+1) (wq aB y1 (bW.map aL.c) (i1:Int)):=by
 intro rest
 induction rest with
 |nil=>
  intro i1 bW aq h;rw[jl]at h;refine aP fun N1 cC br=>?_
  exact((aT.ge aL.c aq).a [.hl 0 [4] [1]]).ex hΓ cC (cc bW h)
 |cons bL bz ih1=>
  intro i1 bW aq h;rw[jl]at h;refine aP fun N1 cC br=>?_
  obtain⟨EP,h30,h⟩:=aE h;obtain⟨h31,h⟩:=bQ h;exact(((((aT.lt aL.c aq).l (az aL.c 5 (dc aq) rfl)).g (nU h30)).w (bh h31)).a [.cn [3,4,10,11,12] [0,5]]).cs hΓ br (wq aB y1 ((bW.map aL.c)++([[D.int .i64 EP.kind,D.str EP.pat.rel,D.sl (EP.pat.args.map tx),D.str EP.left,D.str EP.right]])) (IntKind.i64.wrap ((i1:Int)+1))) (by first| (simp only[iS aq hm1,mA]<;>rfl)| (simp only[iS aq hm1,mA,aC.c,aS.c,aL.c,Action.c,aK.c,aN.c,cX.c,aV.c,Node.c,aG.c,cg.c]<;>rfl)) (ih1 (i1+1) (bW++([EP])) (dn aq) h)
theorem BQ{aB:aK}{r:ai}(h:pN aB=some r):Good prog 200 [D.agg (aK.c aB)] (D.fr 115 5 (r.map aL.c)):=by
 refine gd func200 [[some (115,5)]] 24 fun hr Γ hΓ=>?_
 rw[pN]at h;obtain⟨y1,h2,h⟩:=aE h;refine((aT.g (BR h2)).a [.Kc 4,.cn [3,4,10,11,12] [1,2]]).lp hΓ (CI hΓ (fun bf h=>?_) (by have:=(eN.sl (eN.agg (hr _ (aD (i:=0) rfl)) (.sl (aB.conds.map aL.c)) (by simp))).1;simpa using this) aB.conds 0 ([]:ai) rfl h);have h:=aI h;subst h;exact aT.ret hΓ
def kj(aB:aH)(aU:aH)(k1:Option Bool):aH->Nat->Option Bool
 | [],i1=>(k1)
 |bL::bz,i1=>((lF aU (i1:Int)).bind fun x22=>(bif !((bL:Bytes)==x22)then(some false)else(kj aB aU k1 bz (i1+1))))
def o5(aB:aH)(aU:aH):Option Bool:=(bif (((aB.map tx).length:Int):Int) != ((aU.map tx).length:Int)then(some false)else(kj aB aU (some true) aB 0))
def Ey(aB:aH)(aU:aH)(cR:Int):St:=⟨[(0,D.sl (aB.map tx)),(1,D.sl (aU.map tx)),(12,D.int .i64 ((aB.map tx).length:Int)),(13,D.int .i64 cR)],[]⟩
theorem DM(hΓ:Γ.nt=26){aB:aH}{aU:aH}{r:Bool}{k1:Option Bool}(cc:k1=some r->Ax Γ N f232 (.q [[none]] (D.bool r)) [1,1,1] ⟨[],[]⟩)(hm1:aB.length<=maxLen):∀(rest:aH) (i1:Nat),aB.drop i1=rest->kj aB aU k1 rest i1=some r->Ar Γ N f232 (.q [[none]] (D.bool r)) [1,1,0,1,0] (rest.length+1) (Ey aB aU (i1:Int)):=by
 intro rest
 induction rest with
 |nil=>
  intro i1 aq h;rw[kj]at h;refine aP fun N1 cC br=>?_
  exact((aT.ge tx aq).a [.hl 0 [] []]).ex hΓ cC (cc h)
 |cons bL bz ih1=>
  intro i1 aq h;rw[kj]at h;refine aP fun N1 cC br=>?_
  obtain⟨x22,h23,h⟩:=aE h;have eH:=((((aT.lt tx aq).a [.n 8]).l (az tx 1 (dc aq) rfl)).l (eA tx 1 h23 rfl))
  obtain⟨h24,h⟩|⟨h24,h⟩:=aM h
  ·have h:=aI h;subst h;exact(eH.b h24).ret hΓ
  ·exact((eH.b h24).a [.cn [0,1,12,13] []]).ct hΓ br (iS aq hm1) (ih1 (i1+1) (dn aq) h)
theorem wH{aB:aH}{aU:aH}{r:Bool}(h:o5 aB aU=some r):Good prog 232 [D.sl (aB.map tx),D.sl (aU.map tx)] (D.bool r):=by
 refine gd func232 [[none]] 26 fun hr Γ hΓ=>?_
 rw[o5]at h;obtain⟨h1,h⟩|⟨h1,h⟩:=aM h
 ·have h:=aI h;subst h;exact(aT.b h1).ret hΓ
 ·refine((aT.b h1).a [.cn [0,1,12,13] []]).lp hΓ (DM hΓ (fun h=>?_) (by have:=(eN.sl (hr _ (aD (i:=0) rfl))).1;simpa using this) aB 0 rfl h);have h:=aI h;subst h;exact aT.ret hΓ
def ey(aB:aC)(aU:aC):Option Bool:=(bif (aB.rel:Bytes)==aU.rel then((o5 aB.args aU.args).bind fun y2=>(some y2))else(some false))
theorem mW{aB:aC}{aU:aC}{r:Bool}(h:ey aB aU=some r):Good prog 159 [D.agg (aC.c aB),D.agg (aC.c aU)] (D.bool r):=by
 refine gd func159 [[none]] 17 fun hr Γ hΓ=>?_
 rw[ey]at h;obtain⟨h1,h⟩|⟨h1,h⟩:=aM h
 ·obtain⟨y2,h3,h⟩:=aE h;have h:=aI h;subst h;exact(((aT.r 5 h1).g (wH h3)).b h1).ret hΓ
 ·have h:=aI h;subst h;exact(aT.r 6 h1).ret hΓ
def jG(aB:aL)(aU:aL):Option Bool:=(bif (aB.kind:Int)==aU.kind then(bif (aB.left:Bytes)==aU.left then(bif (aB.right:Bytes)==aU.right then((ey aB.pat aU.pat).bind fun y4=>(some y4))else(some false))else(some false))else(some false))
theorem tL{aB:aL}{aU:aL}{r:Bool}(h:jG aB aU=some r):Good prog 160 [D.agg (aL.c aB),D.agg (aL.c aU)] (D.bool r):=by
 refine gd func160 [[none]] 31 fun hr Γ hΓ=>?_
 rw[jG]at h;obtain⟨h1,h⟩|⟨h1,h⟩:=aM h
 ·have mQ:=(aT.r 6 h1)
  obtain⟨h2,h⟩|⟨h2,h⟩:=aM h
  ·have eH:=(mQ.r 6 h2)
   obtain⟨h3,h⟩|⟨h3,h⟩:=aM h
   ·obtain⟨y4,h5,h⟩:=aE h;have h:=aI h;subst h;exact(((eH.r 5 h3).g (mW h5)).b h3).ret hΓ
   ·have h:=aI h;subst h;exact(eH.r 6 h3).ret hΓ
  ·have h:=aI h;subst h;exact((mQ.r 6 h2).F 6).ret hΓ
 ·have h:=aI h;subst h;exact((aT.r 6 h1).F 12).ret hΓ
def qZ(aB:aC):Option aC:=((mZ aB.args).bind fun y1=>((kC (⟨0,aB,[],[]⟩:aL) y1).bind fun y3=>(some y3.pat)))
theorem xk{aB:aC}{r:aC}(h:qZ aB=some r):Good prog 258 [D.agg (aC.c aB)] (D.agg [D.str r.rel,D.fr 9 1 (r.args.map tx)]):=by
 refine gd func258 [[none,some (9,1)]] 10 fun hr Γ hΓ=>?_
 rw[qZ]at h;obtain⟨y1,h2,h⟩:=aE h;obtain⟨y3,h4,h⟩:=aE h;cases h;exact((((aT.a [.n 5]).g (vf h2)).a [.d (D.agg [D.int .i64 y3.kind,D.str y3.pat.rel,D.fr 9 1 (y3.pat.args.map tx),D.str y3.left,D.str y3.right])]).w (show Good prog 256 [D.agg [D.int .i64 0,D.str aB.rel,D.sl (aB.args.map tx),D.str ([]),D.str ([])],D.sl (y1.map aS.c)] (D.agg [D.int .i64 y3.kind,D.str y3.pat.rel,D.fr 9 1 (y3.pat.args.map tx),D.str y3.left,D.str y3.right])from by first| (simpa only[bV,bH,cD,dG,ck]using nU h4)|exact nU h4| (have t:=nU h4;simp only[bV,dG,ck,aL.c]at t;exact t))).ret hΓ
def eC(aB:aG)(aU:aC)(k1:Option (aG×Int)):bD->Nat->Option (aG×Int)
 | [],i1=>(k1)
 |bL::bz,i1=>((ey bL.shape aU).bind fun mP=>(bif mP then(some (aB,(i1:Int)))else(eC aB aU k1 bz (i1+1))))
def gX(aB:aG)(aU:aC):Option (aG×Int):=(bif decide (aB.av.length<=maxLen)then(eC aB aU (bif room ((aB.av.map aV.c).length+([[D.str aU.rel,D.sl (aU.args.map tx),D.sl ([])]]).length) 64 then(some ((⟨aB.rules,aB.ends,aB.av++([(⟨aU,[]⟩:aV)]),aB.nodes,aB.facts,aB.bn⟩:aG),IntKind.i64.wrap ((((aB.av.map aV.c)++([[D.str aU.rel,D.sl (aU.args.map tx),D.sl ([])]])).length:Int)-1)))else none) aB.av 0)else none)
def yg(wX:Value)(aB:aG)(aU:aC)(cR:Int):St:=⟨[(0,D.ptr 0 0),(3,D.ptr 1 0),(10,D.acc 2),(11,D.int .i64 ((aB.av.map aV.c).length:Int)),(12,D.int .i64 cR)],[Ob.Ka [D.acc 3,D.acc 4,D.acc 2,D.acc 5,D.acc 6,D.int .i64 aB.bn] wX,Ob.box [D.str aU.rel,D.acc 7],Ob.row .uq 111 3 (aB.av.map aV.c),Ob.row .uq 105 4 (aB.rules.map aK.c),Ob.row .uq 3 1 (aB.ends.map gS),Ob.row .uq 118 8 (aB.nodes.map Node.c),Ob.row .uq 53 2 (aB.facts.map aC.c),Ob.row .uq 9 1 (aU.args.map tx)]⟩
theorem yF(hΓ:Γ.nt=40){wX:Value}{aB:aG}{aU:aC}{r:aG×Int}{k1:Option (aG×Int)}(cc:k1=some r->Ax Γ N f257 (.p [[some (105,4),some (3,1),some (111,3),some (118,8),some (53,2),none],[none]] wX (cK r.1) (D.int .i64 r.2)) [1,1] ⟨[(0,D.ptr 0 0),(3,D.ptr 1 0)],[Ob.Ka [D.acc 2,D.acc 3,D.acc 4,D.acc 5,D.acc 6,D.int .i64 aB.bn] wX,Ob.box [D.str aU.rel,D.acc 7],Ob.row .uq 105 4 (aB.rules.map aK.c),Ob.row .uq 3 1 (aB.ends.map gS),Ob.row .uq 111 3 (aB.av.map aV.c),Ob.row .uq 118 8 (aB.nodes.map Node.c),Ob.row .uq 53 2 (aB.facts.map aC.c),Ob.row .uq 9 1 (aU.args.map tx)]⟩)(hm1:aB.av.length<=maxLen):∀(rest:bD) (i1:Nat),aB.av.drop i1=rest->eC aB aU k1 rest i1=some r->Ar Γ N f257 (.p [[some (105,4),some (3,1),some (111,3),some (118,8),some (53,2),none],[none]] wX (cK r.1) (D.int .i64 r.2)) [1,0,1,0] (rest.length+1) (yg wX aB aU (i1:Int)):=by
 intro rest
 induction rest with
 |nil=>
  intro i1 aq h;rw[eC]at h;refine aP fun N1 cC br=>?_
  exact((aT.ge aV.c aq).a [.hl 0 [0,3] [0,1,3,4,2,5,6,7]]).ex hΓ cC (cc h)
 |cons bL bz ih1=>
  intro i1 aq h;rw[eC]at h;refine aP fun N1 cC br=>?_
  obtain⟨mP,h23,h⟩:=aE h;have eH:=((((aT.lt aV.c aq).i (nX aV.c 3 (dc aq))).o 3 3 .uq (dK aV.c (dc aq))).g (mW h23))
  obtain⟨h24,h⟩|⟨h24,h⟩:=aM h
  ·cases h;exact(eH.b h24).ret hΓ
  ·exact((eH.b h24).a [.cn [0,3,10,11,12] [0,1,2,3,4,5,6,7]]).ct hΓ br (iS aq hm1) (ih1 (i1+1) (dn aq) h)
theorem rT{aB:aG}{aU:aC}{r:aG×Int}(h:gX aB aU=some r):yc prog 257 (cK aB) (cK r.1) [D.agg [D.str aU.rel,D.fr 9 1 (aU.args.map tx)]] (D.int .i64 r.2):=by
 refine gdP func257 [[some (105,4),some (3,1),some (111,3),some (118,8),some (53,2),none],[none]] 40 [D.acc 1,D.acc 2,D.acc 3,D.acc 4,D.acc 5,D.int .i64 aB.bn] [D.agg [D.str aU.rel,D.acc 6]] [Ob.row .uq 105 4 (aB.rules.map aK.c),Ob.row .uq 3 1 (aB.ends.map gS),Ob.row .uq 111 3 (aB.av.map aV.c),Ob.row .uq 118 8 (aB.nodes.map Node.c),Ob.row .uq 53 2 (aB.facts.map aC.c),Ob.row .uq 9 1 (aU.args.map tx)] fun hr wX Γ hΓ=>?_
 rw[gX]at h;obtain⟨h27,h⟩:=bQ h;refine(aT.a [.cn [0,3,10,11,12] [0,7,3,1,2,4,5,6]]).lp hΓ (yF hΓ (fun h=>?_) (bY h27) aB.av 0 rfl h);obtain⟨h26,h⟩:=bQ h;cases h;exact((aT.w (bh h26)).a [.n2 [0,1,2,3,4,5,6,7,8,9,10,11] [0,1,2,3,4,5,6,7,8,9,10,11] 7 9 [0,1,2,3,4] [4,7,8]]).rts hΓ (D.hY [D.int .i64 (IntKind.i64.wrap ((((aB.av.map aV.c)++([[D.str aU.rel,D.sl (aU.args.map tx),D.sl ([])]])).length:Int)-1)),D.agg [D.fr 105 4 (aB.rules.map aK.c),D.fr 3 1 (aB.ends.map gS),D.fr 111 3 ((aB.av.map aV.c)++([[D.str aU.rel,D.sl (aU.args.map tx),D.sl ([])]])),D.fr 118 8 (aB.nodes.map Node.c),D.fr 53 2 (aB.facts.map aC.c),D.int .i64 aB.bn],D.val wX]) (by first|rfl| (simp only[mA]<;>rfl)| (simp only[cK,mA]<;>rfl))
def cY(aB:aG)(aU:Int)(cL:aL)(k1:Option (aG×Int)):b9->Nat->Option (aG×Int)
 | [],i1=>(k1)
 |bL::bz,i1=>(bif decide (((i1:Int):Int)>0)then(bif (bL.parent:Int)==aU then((jG bL.cond cL).bind fun JB=>(bif JB then(some (aB,(i1:Int)))else(cY aB aU cL k1 bz (i1+1))))else(cY aB aU cL k1 bz (i1+1)))else(cY aB aU cL k1 bz (i1+1)))
def jg(aB:aG)(aU:Int)(cL:aL):Option (aG×Int):=(bif decide (aB.nodes.length<=maxLen)then(cY aB aU cL (bif (cL.kind:Int)==1 then((qZ cL.pat).bind fun MO=>((gX aB MO).bind fun Mh=>((eY cL).bind fun GA=>(bif room ((Mh.1.nodes.map Node.c).length+([[D.int .i64 aU,D.int .i64 GA.kind,D.str GA.pat.rel,D.sl (GA.pat.args.map tx),D.str GA.left,D.str GA.right,D.int .i64 Mh.2,D.sl ([])]]).length) 120 then(some ((⟨Mh.1.rules,Mh.1.ends,Mh.1.av,Mh.1.nodes++([(⟨aU,GA,Mh.2,[]⟩:Node)]),Mh.1.facts,Mh.1.bn⟩:aG),IntKind.i64.wrap ((((Mh.1.nodes.map Node.c)++([[D.int .i64 aU,D.int .i64 GA.kind,D.str GA.pat.rel,D.sl (GA.pat.args.map tx),D.str GA.left,D.str GA.right,D.int .i64 Mh.2,D.sl ([])]])).length:Int)-1)))else none))))else(bif (cL.kind:Int)==2 then((qZ cL.pat).bind fun y47=>((gX aB y47).bind fun Jy=>((eY cL).bind fun Ki=>(bif room ((Jy.1.nodes.map Node.c).length+([[D.int .i64 aU,D.int .i64 Ki.kind,D.str Ki.pat.rel,D.sl (Ki.pat.args.map tx),D.str Ki.left,D.str Ki.right,D.int .i64 Jy.2,D.sl ([])]]).length) 120 then(some ((⟨Jy.1.rules,Jy.1.ends,Jy.1.av,Jy.1.nodes++([(⟨aU,Ki,Jy.2,[]⟩:Node)]),Jy.1.facts,Jy.1.bn⟩:aG),IntKind.i64.wrap ((((Jy.1.nodes.map Node.c)++([[D.int .i64 aU,D.int .i64 Ki.kind,D.str Ki.pat.rel,D.sl (Ki.pat.args.map tx),D.str Ki.left,D.str Ki.right,D.int .i64 Jy.2,D.sl ([])]])).length:Int)-1)))else none))))else((eY cL).bind fun MP=>(bif room ((aB.nodes.map Node.c).length+([[D.int .i64 aU,D.int .i64 MP.kind,D.str MP.pat.rel,D.sl (MP.pat.args.map tx),D.str MP.left,D.str MP.right,D.int .i64 (-1),D.sl ([])]]).length) 120 then(some ((⟨aB.rules,aB.ends,aB.av,aB.nodes++([(⟨aU,MP, -1,[]⟩:Node)]),aB.facts,aB.bn⟩:aG),IntKind.i64.wrap ((((aB.nodes.map Node.c)++([[D.int .i64 aU,D.int .i64 MP.kind,D.str MP.pat.rel,D.sl (MP.pat.args.map tx),D.str MP.left,D.str MP.right,D.int .i64 (-1),D.sl ([])]])).length:Int)-1)))else none)))) aB.nodes 0)else none)
def yh(wX:Value)(aB:aG)(aU:Int)(cL:aL)(cR:Int):St:=⟨[(0,D.ptr 0 0),(1,D.int .i64 aU),(5,D.ptr 1 0),(13,D.acc 2),(14,D.int .i64 ((aB.nodes.map Node.c).length:Int)),(15,D.int .i64 cR)],[Ob.Ka [D.acc 3,D.acc 4,D.acc 5,D.acc 2,D.acc 6,D.int .i64 aB.bn] wX,Ob.box (aL.c cL),Ob.row .uq 118 8 (aB.nodes.map Node.c),Ob.row .uq 105 4 (aB.rules.map aK.c),Ob.row .uq 3 1 (aB.ends.map gS),Ob.row .uq 111 3 (aB.av.map aV.c),Ob.row .uq 53 2 (aB.facts.map aC.c)]⟩
theorem yG(hΓ:Γ.nt=69){wX:Value}{aB:aG}{aU:Int}{cL:aL}{r:aG×Int}{k1:Option (aG×Int)}(cc:k1=some r->Ax Γ N f201 (.p [[some (105,4),some (3,1),some (111,3),some (118,8),some (53,2),none],[none]] wX (cK r.1) (D.int .i64 r.2)) [1,1] ⟨[(0,D.ptr 0 0),(1,D.int .i64 aU),(5,D.ptr 1 0)],[Ob.Ka [D.acc 2,D.acc 3,D.acc 4,D.acc 5,D.acc 6,D.int .i64 aB.bn] wX,Ob.box (aL.c cL),Ob.row .uq 105 4 (aB.rules.map aK.c),Ob.row .uq 3 1 (aB.ends.map gS),Ob.row .uq 111 3 (aB.av.map aV.c),Ob.row .uq 118 8 (aB.nodes.map Node.c),Ob.row .uq 53 2 (aB.facts.map aC.c)]⟩)(hm1:aB.nodes.length<=maxLen):∀(rest:b9) (i1:Nat),aB.nodes.drop i1=rest->cY aB aU cL k1 rest i1=some r->Ar Γ N f201 (.p [[some (105,4),some (3,1),some (111,3),some (118,8),some (53,2),none],[none]] wX (cK r.1) (D.int .i64 r.2)) [1,0,1,0] (rest.length+1) (yh wX aB aU cL (i1:Int)):=by
 intro rest
 induction rest with
 |nil=>
  intro i1 aq h;rw[cY]at h;refine aP fun N1 cC br=>?_
  exact((aT.ge Node.c aq).a [.hl 0 [0,1,5] [0,1,3,4,5,2,6]]).ex hΓ cC (cc h)
 |cons bL bz ih1=>
  intro i1 aq h;rw[cY]at h;refine aP fun N1 cC br=>?_
  have kM:=(((aT.lt Node.c aq).i (nX Node.c 8 (dc aq))).o 8 8 .uq (dK Node.c (dc aq)))
  obtain⟨h30,h⟩|⟨h30,h⟩:=aM h
  ·have uK:=(kM.r 5 h30)
   obtain⟨h31,h⟩|⟨h31,h⟩:=aM h
   ·obtain⟨JB,h33,h⟩:=aE h;have wO:=(((uK.r 4 h31).g (tL h33)).b h31)
    obtain⟨h34,h⟩|⟨h34,h⟩:=aM h
    ·cases h;exact(wO.b h34).ret hΓ
    ·exact((wO.b h34).a [.cn [0,1,5,13,14,15] [0,1,2,3,4,5,6]]).ct hΓ br (iS aq hm1) (ih1 (i1+1) (dn aq) h)
   ·exact(((uK.r 5 h31).F 1).a [.cn [0,1,5,13,14,15] [0,1,2,3,4,5,6]]).ct hΓ br (iS aq hm1) (ih1 (i1+1) (dn aq) h)
  ·exact(((kM.r 5 h30).F 6).a [.cn [0,1,5,13,14,15] [0,1,2,3,4,5,6]]).ct hΓ br (iS aq hm1) (ih1 (i1+1) (dn aq) h)
theorem xW{aB:aG}{aU:Int}{cL:aL}{r:aG×Int}(h:jg aB aU cL=some r):yc prog 201 (cK aB) (cK r.1) [D.int .i64 aU,D.agg (aL.c cL)] (D.int .i64 r.2):=by
 refine gdP func201 [[some (105,4),some (3,1),some (111,3),some (118,8),some (53,2),none],[none]] 69 [D.acc 1,D.acc 2,D.acc 3,D.acc 4,D.acc 5,D.int .i64 aB.bn] [D.int .i64 aU,D.agg [D.int .i64 cL.kind,D.str cL.pat.rel,D.sl (cL.pat.args.map tx),D.str cL.left,D.str cL.right]] [Ob.row .uq 105 4 (aB.rules.map aK.c),Ob.row .uq 3 1 (aB.ends.map gS),Ob.row .uq 111 3 (aB.av.map aV.c),Ob.row .uq 118 8 (aB.nodes.map Node.c),Ob.row .uq 53 2 (aB.facts.map aC.c)] fun hr wX Γ hΓ=>?_
 rw[jg]at h;obtain⟨h63,h⟩:=bQ h;refine(aT.a [.cn [0,1,5,13,14,15] [0,6,4,1,2,3,5]]).lp hΓ (yG hΓ (fun h=>?_) (bY h63) aB.nodes 0 rfl h);obtain⟨h35,h⟩|⟨h35,h⟩:=aM h
 ·obtain⟨MO,h37,h⟩:=aE h;obtain⟨Mh,h39,h⟩:=aE h;obtain⟨GA,h44,h⟩:=aE h;obtain⟨h45,h⟩:=bQ h;cases h;exact(((((((aT.r 4 h35).T 1).g (xk h37)).hp [[some (105,4),some (3,1),some (111,3),some (118,8),some (53,2),none],[none,some (9,1)]] (rT h39)).a [.n2 [0,1,2,3,4,5,6,7,8,9,10,11,12,13,14] [0,1,2,3,4,5,6,7,8,9,10,11,12,13,14] 10 12 [0,1,2,3,4] [11,13,14]]).g (jo h44)).w (bh h45)).rts hΓ (D.hY [D.int .i64 (IntKind.i64.wrap ((((Mh.1.nodes.map Node.c)++([[D.int .i64 aU,D.int .i64 GA.kind,D.str GA.pat.rel,D.sl (GA.pat.args.map tx),D.str GA.left,D.str GA.right,D.int .i64 Mh.2,D.sl ([])]])).length:Int)-1)),D.agg [D.fr 105 4 (Mh.1.rules.map aK.c),D.fr 3 1 (Mh.1.ends.map gS),D.fr 111 3 (Mh.1.av.map aV.c),D.fr 118 8 ((Mh.1.nodes.map Node.c)++([[D.int .i64 aU,D.int .i64 GA.kind,D.str GA.pat.rel,D.sl (GA.pat.args.map tx),D.str GA.left,D.str GA.right,D.int .i64 Mh.2,D.sl ([])]])),D.fr 53 2 (Mh.1.facts.map aC.c),D.int .i64 Mh.1.bn],D.val wX]) (by first|rfl| (simp only[mA]<;>rfl)| (simp only[cK,mA]<;>rfl))
 ·have AA:=(aT.r 4 h35)
  obtain⟨h46,h⟩|⟨h46,h⟩:=aM h
  ·obtain⟨y47,h48,h⟩:=aE h;obtain⟨Jy,h50,h⟩:=aE h;obtain⟨Ki,h55,h⟩:=aE h;obtain⟨h56,h⟩:=bQ h;cases h;exact((((((AA.b h46).g (xk h48)).hp [[some (105,4),some (3,1),some (111,3),some (118,8),some (53,2),none],[none,some (9,1)]] (rT h50)).a [.n2 [0,1,2,3,4,5,6,7,8,9,10,11,12,13,14] [0,1,2,3,4,5,6,7,8,9,10,11,12,13,14] 10 12 [0,1,2,3,4] [11,13,14]]).g (jo h55)).w (bh h56)).rts hΓ (D.hY [D.int .i64 (IntKind.i64.wrap ((((Jy.1.nodes.map Node.c)++([[D.int .i64 aU,D.int .i64 Ki.kind,D.str Ki.pat.rel,D.sl (Ki.pat.args.map tx),D.str Ki.left,D.str Ki.right,D.int .i64 Jy.2,D.sl ([])]])).length:Int)-1)),D.agg [D.fr 105 4 (Jy.1.rules.map aK.c),D.fr 3 1 (Jy.1.ends.map gS),D.fr 111 3 (Jy.1.av.map aV.c),D.fr 118 8 ((Jy.1.nodes.map Node.c)++([[D.int .i64 aU,D.int .i64 Ki.kind,D.str Ki.pat.rel,D.sl (Ki.pat.args.map tx),D.str Ki.left,D.str Ki.right,D.int .i64 Jy.2,D.sl ([])]])),D.fr 53 2 (Jy.1.facts.map aC.c),D.int .i64 Jy.1.bn],D.val wX]) (by first|rfl| (simp only[mA]<;>rfl)| (simp only[cK,mA]<;>rfl))
  ·obtain⟨MP,h61,h⟩:=aE h;obtain⟨h62,h⟩:=bQ h;cases h;exact((((AA.b h46).a [.n2 [0,1,2,3,4,5,6,7,8,9,10,11,12,13,14] [0,1,2,3,4,5,6,7,8,9,10,11,12,13,14] 10 12 [0,1,2,3,4] [5,7,8]]).g (jo h61)).w (bh h62)).rts hΓ (D.hY [D.int .i64 (IntKind.i64.wrap ((((aB.nodes.map Node.c)++([[D.int .i64 aU,D.int .i64 MP.kind,D.str MP.pat.rel,D.sl (MP.pat.args.map tx),D.str MP.left,D.str MP.right,D.int .i64 (-1),D.sl ([])]])).length:Int)-1)),D.agg [D.fr 105 4 (aB.rules.map aK.c),D.fr 3 1 (aB.ends.map gS),D.fr 111 3 (aB.av.map aV.c),D.fr 118 8 ((aB.nodes.map Node.c)++([[D.int .i64 aU,D.int .i64 MP.kind,D.str MP.pat.rel,D.sl (MP.pat.args.map tx),D.str MP.left,D.str MP.right,D.int .i64 (-1),D.sl ([])]])),D.fr 53 2 (aB.facts.map aC.c),D.int .i64 aB.bn],D.val wX]) (by first|rfl| (simp only[mA]<;>rfl)| (simp only[cK,mA]<;>rfl))
def ic(aB:ah)(i1:Nat)(HV:ai)(k2:Int->Int->ah->bR->bD->b9->aJ->Option aG):ai->Nat->Int->Int->ah->bR->bD->b9->aJ->Option aG
 | [],i2,qz,nI,AD,nQ,uA,uB,qJ=>(k2 qz nI AD nQ uA uB qJ)
 |k8::tf,i2,qz,nI,AD,nQ,uA,uB,qJ=>((jg (⟨AD,nQ,uA,uB,qJ,nI⟩:aG) qz k8).bind fun wY=>(ic aB i1 HV k2 tf (i2+1) wY.2 wY.1.bn wY.1.rules wY.1.ends wY.1.av wY.1.nodes wY.1.facts))
def ia(aB:ah)(k1:Int->ah->bR->bD->b9->aJ->Option aG):ah->Nat->Int->ah->bR->bD->b9->aJ->Option aG
 | [],i1,cz,fD,dW,kP,gW,oY=>(k1 cz fD dW kP gW oY)
 |bL::bz,i1,cz,fD,dW,kP,gW,oY=>((pN bL).bind fun HV=>(bif decide (HV.length<=maxLen)then(ic aB i1 HV (fun(yS:Int) (nH:Int) (HP:ah) (zI:bR) (HQ:bD) (sw:b9) (HR:aJ)=>(bif room ((zI.map gS).length+([[D.int .i64 yS]]).length) 8 then(ia aB k1 bz (i1+1) nH HP (zI++([yS])) HQ sw HR)else none)) HV 0 0 cz fD dW kP gW oY)else none))
def qi(aB:ah):Option aG:=((ny aB).bind fun y1=>(ia aB (fun(kN:Int) (qK:ah) (fC:bR) (zH:bD) (mC:b9) (oU:aJ)=>(some (⟨qK,fC,zH,mC,oU,kN⟩:aG))) aB 0 0 y1 ([]:bR) ([]:bD) ([(⟨-1,(⟨0,(⟨[],[]⟩:aC),[],[]⟩:aL), -1,[]⟩:Node)]) ([]:aJ)))
def uQ(aB:ah)(cz:Int)(W1:List aQ)(W2:List aQ)(W3:List aQ)(W4:List aQ)(W5:List aQ)(cR:Int):St:=⟨[(2,D.ptr 0 0),(3,D.ptr 1 0),(14,D.sl (aB.map aK.c)),(15,D.int .i64 ((aB.map aK.c).length:Int)),(16,D.int .i64 cR)],[Ob.box [D.nil,D.nil,D.nil,D.nil,D.nil,D.int .i64 0],Ob.box [D.acc 2,D.acc 3,D.acc 4,D.acc 5,D.acc 6,D.int .i64 cz],Ob.row .uq 105 4 W1,Ob.row .uq 3 1 W2,Ob.row .uq 111 3 W3,Ob.row .uq 118 8 W4,Ob.row .uq 53 2 W5]⟩
def Ez(aB:ah)(i1:Nat)(HV:ai)(qz:Int)(nI:Int)(W2:List aQ)(W3:List aQ)(W4:List aQ)(W5:List aQ)(W6:List aQ)(cR:Int):St:=⟨[(2,D.ptr 0 0),(3,D.ptr 1 0),(6,D.int .i64 qz),(14,D.sl (aB.map aK.c)),(15,D.int .i64 ((aB.map aK.c).length:Int)),(16,D.int .i64 (i1:Int)),(21,D.acc 2),(22,D.int .i64 ((HV.map aL.c).length:Int)),(23,D.int .i64 cR)],[Ob.box [D.nil,D.nil,D.nil,D.nil,D.nil,D.int .i64 0],Ob.box [D.acc 3,D.acc 4,D.acc 5,D.acc 6,D.acc 7,D.int .i64 nI],Ob.row .uq 115 5 (HV.map aL.c),Ob.row .uq 105 4 W2,Ob.row .uq 3 1 W3,Ob.row .uq 111 3 W4,Ob.row .uq 118 8 W5,Ob.row .uq 53 2 W6]⟩
theorem DP(hΓ:Γ.nt=39){aB:ah}{i1:Nat}{HV:ai}{r:aG}{k2:Int->Int->ah->bR->bD->b9->aJ->Option aG}(zf:∀(yS:Int) (nH:Int) (HP:ah) (zI:bR) (HQ:bD) (sw:b9) (HR:aJ),k2 yS nH HP zI HQ sw HR=some r->Ax Γ N f134 (.q [[some (105,4),some (3,1),some (111,3),some (118,8),some (53,2),none]] (D.agg [D.fr 105 4 (r.rules.map aK.c),D.fr 3 1 (r.ends.map gS),D.fr 111 3 (r.av.map aV.c),D.fr 118 8 (r.nodes.map Node.c),D.fr 53 2 (r.facts.map aC.c),D.int .i64 r.bn])) [1,1,0,1,0,0,1,1,0,0,1,1,1] ⟨[(2,D.ptr 0 0),(3,D.ptr 1 0),(6,D.int .i64 yS),(14,D.sl (aB.map aK.c)),(15,D.int .i64 ((aB.map aK.c).length:Int)),(16,D.int .i64 (i1:Int))],[Ob.box [D.nil,D.nil,D.nil,D.nil,D.nil,D.int .i64 0],Ob.box [D.acc 2,D.acc 3,D.acc 4,D.acc 5,D.acc 6,D.int .i64 nH],Ob.row .uq 105 4 (HP.map aK.c),Ob.row .uq 3 1 (zI.map gS),Ob.row .uq 111 3 (HQ.map aV.c),Ob.row .uq 118 8 (sw.map Node.c),Ob.row .uq 53 2 (HR.map aC.c)]⟩)(hm2:HV.length<=maxLen):∀(rest:ai) (i2:Nat) (qz:Int) (nI:Int) (AD:ah) (nQ:bR) (uA:bD) (uB:b9) (qJ:aJ),HV.drop i2=rest->ic aB i1 HV k2 rest i2 qz nI AD nQ uA uB qJ=some r->Ar Γ N f134 (.q [[some (105,4),some (3,1),some (111,3),some (118,8),some (53,2),none]] (D.agg [D.fr 105 4 (r.rules.map aK.c),D.fr 3 1 (r.ends.map gS),D.fr 111 3 (r.av.map aV.c),D.fr 118 8 (r.nodes.map Node.c),D.fr 53 2 (r.facts.map aC.c),D.int .i64 r.bn])) [1,1,0,1,0,0,1,1,0,0,1,1,0,1,0] (rest.length+1) (Ez aB i1 HV qz nI (AD.map aK.c) (nQ.map gS) (uA.map aV.c) (uB.map Node.c) (qJ.map aC.c) (i2:Int)):=by
 intro rest
 induction rest with
 |nil=>
  intro i2 qz nI AD nQ uA uB qJ hd2 h;rw[ic]at h;refine aP fun N2 ul sA=>?_
  exact((aT.ge aL.c hd2).a [.hl 5 [2,3,6,14,15,16] [0,1,3,4,5,6,7]]).ex hΓ ul (zf qz nI AD nQ uA uB qJ h)
 |cons k8 tf ih2=>
  intro i2 qz nI AD nQ uA uB qJ hd2 h;rw[ic]at h;refine aP fun N2 ul sA=>?_
  obtain⟨wY,h209,h⟩:=aE h;exact((((((aT.lt aL.c hd2).i (nX aL.c 5 (dc hd2))).o 5 5 .uq (dK aL.c (dc hd2))).a [.gp [[some (105,4),some (3,1),some (111,3),some (118,8),some (53,2),none],[none],[none,none,none,none,none]] (cK wY.1) (D.int .i64 wY.2)]).w (show yc prog 201 (cK (⟨AD,nQ,uA,uB,qJ,nI⟩:aG)) (cK wY.1) [D.int .i64 qz,D.agg (aL.c k8)] (D.int .i64 wY.2)from by simpa only[bV,bH,cD,dG,ck]using xW h209)).a [.cn [2,3,6,14,15,16,21,22,23] [0,1,2,9,10,11,12,13]]).ct hΓ sA (iS hd2 hm2) (ih2 (i2+1) wY.2 wY.1.bn wY.1.rules wY.1.ends wY.1.av wY.1.nodes wY.1.facts (dn hd2) h)
theorem DO(hΓ:Γ.nt=39){aB:ah}{r:aG}{k1:Int->ah->bR->bD->b9->aJ->Option aG}(cc:∀(kN:Int) (qK:ah) (fC:bR) (zH:bD) (mC:b9) (oU:aJ),k1 kN qK fC zH mC oU=some r->Ax Γ N f134 (.q [[some (105,4),some (3,1),some (111,3),some (118,8),some (53,2),none]] (D.agg [D.fr 105 4 (r.rules.map aK.c),D.fr 3 1 (r.ends.map gS),D.fr 111 3 (r.av.map aV.c),D.fr 118 8 (r.nodes.map Node.c),D.fr 53 2 (r.facts.map aC.c),D.int .i64 r.bn])) [1,1,1] ⟨[(2,D.ptr 0 0),(3,D.ptr 1 0)],[Ob.box [D.nil,D.nil,D.nil,D.nil,D.nil,D.int .i64 0],Ob.box [D.acc 2,D.acc 3,D.acc 4,D.acc 5,D.acc 6,D.int .i64 kN],Ob.row .uq 105 4 (qK.map aK.c),Ob.row .uq 3 1 (fC.map gS),Ob.row .uq 111 3 (zH.map aV.c),Ob.row .uq 118 8 (mC.map Node.c),Ob.row .uq 53 2 (oU.map aC.c)]⟩)(hm1:aB.length<=maxLen):∀(rest:ah) (i1:Nat) (cz:Int) (fD:ah) (dW:bR) (kP:bD) (gW:b9) (oY:aJ),aB.drop i1=rest->ia aB k1 rest i1 cz fD dW kP gW oY=some r->Ar Γ N f134 (.q [[some (105,4),some (3,1),some (111,3),some (118,8),some (53,2),none]] (D.agg [D.fr 105 4 (r.rules.map aK.c),D.fr 3 1 (r.ends.map gS),D.fr 111 3 (r.av.map aV.c),D.fr 118 8 (r.nodes.map Node.c),D.fr 53 2 (r.facts.map aC.c),D.int .i64 r.bn])) [1,1,0,1,0] (rest.length+1) (uQ aB cz (fD.map aK.c) (dW.map gS) (kP.map aV.c) (gW.map Node.c) (oY.map aC.c) (i1:Int)):=by
 intro rest
 induction rest with
 |nil=>
  intro i1 cz fD dW kP gW oY aq h;rw[ia]at h;refine aP fun N1 cC br=>?_
  exact((aT.ge aK.c aq).a [.hl 0 [2,3] [0,1,2,3,4,5,6]]).ex hΓ cC (cc cz fD dW kP gW oY h)
 |cons bL bz ih1=>
  intro i1 cz fD dW kP gW oY aq h;rw[ia]at h;refine aP fun N1 cC br=>?_
  obtain⟨HV,h180,h⟩:=aE h;obtain⟨h211,h⟩:=bQ h;refine((((aT.lt aK.c aq).l (az aK.c 4 (dc aq) rfl)).g (BQ h180)).a [.cn [2,3,6,14,15,16,21,22,23] [0,1,8,2,3,4,5,6]]).lp hΓ (DP hΓ (fun yS nH HP zI HQ sw HR h=>?_) (bY h211) HV 0 0 cz fD dW kP gW oY rfl h);obtain⟨h210,h⟩:=bQ h;exact((aT.w (bh h210)).a [.cn [2,3,14,15,16] [0,1,2,8,4,5,6]]).cs hΓ br (uQ aB nH (HP.map aK.c) ((zI.map gS)++([[D.int .i64 yS]])) (HQ.map aV.c) (sw.map Node.c) (HR.map aC.c) (IntKind.i64.wrap ((i1:Int)+1))) (by first| (simp only[iS aq hm1,mA]<;>rfl)| (simp only[iS aq hm1,mA,aC.c,aS.c,aL.c,Action.c,aK.c,aN.c,cX.c,aV.c,Node.c,aG.c,cg.c]<;>rfl)) (ih1 (i1+1) nH HP (zI++([yS])) HQ sw HR (dn aq) h)
theorem CS{aB:ah}{r:aG}(h:qi aB=some r):Good prog 134 [D.sl (aB.map aK.c)] (D.agg [D.fr 105 4 (r.rules.map aK.c),D.fr 3 1 (r.ends.map gS),D.fr 111 3 (r.av.map aV.c),D.fr 118 8 (r.nodes.map Node.c),D.fr 53 2 (r.facts.map aC.c),D.int .i64 r.bn]):=by
 refine gd func134 [[some (105,4),some (3,1),some (111,3),some (118,8),some (53,2),none]] 39 fun hr Γ hΓ=>?_
 rw[qi]at h;obtain⟨y1,h2,h⟩:=aE h;refine((aT.g (wF h2)).a [.pb 3 1 3 1,.pb 3 2 111 3,.pb 3 4 53 2,.cn [2,3,14,15,16] [0,3,1,4,5,2,6]]).Y8 hΓ (uQ aB 0 (y1.map aK.c) ([]:List aQ) ([]:List aQ) ([[D.int .i64 (-1),D.int .i64 0,D.str ([]),D.sl ([]),D.str ([]),D.str ([]),D.int .i64 (-1),D.sl ([])]]) ([]:List aQ) 0) (by first| (simp only[mA]<;>rfl)| (simp only[mA,aC.c,aS.c,aL.c,Action.c,aK.c,aN.c,cX.c,aV.c,Node.c,aG.c,cg.c]<;>rfl)) (DO hΓ (fun kN qK fC zH mC oU h=>?_) (by have:=(eN.sl (hr _ (aD (i:=0) rfl))).1;simpa using this) aB 0 0 y1 ([]:bR) ([]:bD) ([(⟨-1,(⟨0,(⟨[],[]⟩:aC),[],[]⟩:aL), -1,[]⟩:Node)]) ([]:aJ) rfl h);cases h;exact aT.ret hΓ
def gL(aB:aR)(k1:Option Bool):aR->Nat->Option Bool
 | [],i1=>(k1)
 |bL::bz,i1=>((kB bL.var).bind fun y50=>(bif !(y50)then(some false)else((ew bL.value).bind fun y53=>(bif !(y53)then(some false)else(bif decide (((i1:Int):Int)>0)then((lF aB (IntKind.i64.wrap ((i1:Int)-1))).bind fun x57=>(bif !(Op.bytesLess x57.var bL.var)then(some false)else(gL aB k1 bz (i1+1))))else(gL aB k1 bz (i1+1)))))))
def jj(aB:aR):Option Bool:=(bif decide ((((aB.map aS.c).length:Int):Int)>6)then(some false)else(gL aB (some true) aB 0))
def Ej(aB:aR)(cR:Int):St:=⟨[(0,D.sl (aB.map aS.c)),(8,D.sl (aB.map aS.c)),(9,D.int .i64 ((aB.map aS.c).length:Int)),(10,D.int .i64 cR)],[]⟩
theorem D7(hΓ:Γ.nt=41){aB:aR}{r:Bool}{k1:Option Bool}(cc:k1=some r->Ax Γ N f193 (.q [[none]] (D.bool r)) [1,1,1] ⟨[],[]⟩)(hm1:aB.length<=maxLen):∀(rest:aR) (i1:Nat),aB.drop i1=rest->gL aB k1 rest i1=some r->Ar Γ N f193 (.q [[none]] (D.bool r)) [1,1,0,1,0] (rest.length+1) (Ej aB (i1:Int)):=by
 intro rest
 induction rest with
 |nil=>
  intro i1 aq h;rw[gL]at h;refine aP fun N1 cC br=>?_
  exact((aT.ge aS.c aq).a [.hl 0 [] []]).ex hΓ cC (cc h)
 |cons bL bz ih1=>
  intro i1 aq h;rw[gL]at h;refine aP fun N1 cC br=>?_
  obtain⟨y50,h51,h⟩:=aE h;have uK:=((((aT.lt aS.c aq).l (az aS.c 2 (dc aq) rfl)).a [.n 22]).g (mV h51))
  obtain⟨h52,h⟩|⟨h52,h⟩:=aM h
  ·have h:=aI h;subst h;exact((((uK.r 5 h52).T 3).a [bF,bF,bF,bF,bF,bF,bF,bF,bF]).T 3).ret hΓ
  ·obtain⟨y53,h54,h⟩:=aE h;have wO:=(((uK.r 3 h52).g (eD h54)).r 2 h52)
   obtain⟨h55,h⟩|⟨h55,h⟩:=aM h
   ·have h:=aI h;subst h;exact((((wO.r 3 h55).a [bF,bF,bF,bF,bF,bF,bF,bF,bF]).r 2 h55).T 1).ret hΓ
   ·have AA:=(wO.r 3 h55)
    obtain⟨h56,h⟩|⟨h56,h⟩:=aM h
    ·obtain⟨x57,h58,h⟩:=aE h;have G0:=((((((AA.r 4 h56).l (eA aS.c 2 h58 rfl)).r 5 h56).b h55).b h56).b h55)
     obtain⟨h59,h⟩|⟨h59,h⟩:=aM h
     ·have h:=aI h;subst h;exact(G0.b h59).ret hΓ
     ·exact((G0.b h59).a [.cn [0,8,9,10] []]).ct hΓ br (iS aq hm1) (ih1 (i1+1) (dn aq) h)
    ·exact((((((AA.r 9 h56).b h55).b h56).b h55).F 1).a [.cn [0,8,9,10] []]).ct hΓ br (iS aq hm1) (ih1 (i1+1) (dn aq) h)
theorem lG{aB:aR}{r:Bool}(h:jj aB=some r):Good prog 193 [D.sl (aB.map aS.c)] (D.bool r):=by
 refine gd func193 [[none]] 41 fun hr Γ hΓ=>?_
 rw[jj]at h;obtain⟨h1,h⟩|⟨h1,h⟩:=aM h
 ·have h:=aI h;subst h;exact(aT.b h1).ret hΓ
 ·refine((aT.b h1).a [.cn [0,8,9,10] []]).lp hΓ (D7 hΓ (fun h=>?_) (by have:=(eN.sl (hr _ (aD (i:=0) rfl))).1;simpa using this) aB 0 rfl h);have h:=aI h;subst h;exact aT.ret hΓ
def kD(aB:aR)(aU:Bytes)(k1:Option (Bytes×Bool)):aR->Nat->Option (Bytes×Bool)
 | [],i1=>(k1)
 |bL::bz,i1=>(bif (bL.var:Bytes)==aU then(some (bL.value,true))else(kD aB aU k1 bz (i1+1)))
def oK(aB:aR)(aU:Bytes):Option (Bytes×Bool):=((ew aU).bind fun y1=>(bif y1 then(some (aU,true))else((kB aU).bind fun y4=>(bif !(y4)then(some ([],false))else(kD aB aU (some ([],false)) aB 0)))))
def Hv(aB:aR)(aU:Bytes)(cR:Int):St:=⟨[(1,D.str aU),(14,D.sl (aB.map aS.c)),(15,D.int .i64 ((aB.map aS.c).length:Int)),(16,D.int .i64 cR)],[]⟩
theorem GQ(hΓ:Γ.nt=27){aB:aR}{aU:Bytes}{r:Bytes×Bool}{k1:Option (Bytes×Bool)}(cc:k1=some r->Ax Γ N f126 (.q [[none],[none]] (D.hY [D.str r.1,D.bool r.2])) [1,1,1,1] ⟨[],[]⟩)(hm1:aB.length<=maxLen):∀(rest:aR) (i1:Nat),aB.drop i1=rest->kD aB aU k1 rest i1=some r->Ar Γ N f126 (.q [[none],[none]] (D.hY [D.str r.1,D.bool r.2])) [1,1,1,0,1,0] (rest.length+1) (Hv aB aU (i1:Int)):=by
 intro rest
 induction rest with
 |nil=>
  intro i1 aq h;rw[kD]at h;refine aP fun N1 cC br=>?_
  exact((aT.ge aS.c aq).a [.hl 0 [] []]).ex hΓ cC (cc h)
 |cons bL bz ih1=>
  intro i1 aq h;rw[kD]at h;refine aP fun N1 cC br=>?_
  have eH:=((aT.lt aS.c aq).l (az aS.c 2 (dc aq) rfl))
  obtain⟨h19,h⟩|⟨h19,h⟩:=aM h
  ·cases h;exact(eH.b h19).ret hΓ
  ·exact((eH.b h19).a [.cn [1,14,15,16] []]).ct hΓ br (iS aq hm1) (ih1 (i1+1) (dn aq) h)
theorem uP{aB:aR}{aU:Bytes}{r:Bytes×Bool}(h:oK aB aU=some r):Good prog 126 [D.sl (aB.map aS.c),D.str aU] (D.hY [D.str r.1,D.bool r.2]):=by
 refine gd func126 [[none],[none]] 27 fun hr Γ hΓ=>?_
 rw[oK]at h;obtain⟨y1,h2,h⟩:=aE h;obtain⟨h3,h⟩|⟨h3,h⟩:=aM h
 ·cases h;exact((aT.g (eD h2)).b h3).ret hΓ
 ·obtain⟨y4,h5,h⟩:=aE h;have kx:=(((aT.g (eD h2)).b h3).g (mV h5))
  obtain⟨h6,h⟩|⟨h6,h⟩:=aM h
  ·cases h;exact(kx.b h6).ret hΓ
  ·refine((kx.b h6).a [.cn [1,14,15,16] []]).lp hΓ (GQ hΓ (fun h=>?_) (by have:=(eN.sl (hr _ (aD (i:=0) rfl))).1;simpa using this) aB 0 rfl h);cases h;exact aT.ret hΓ
end Go.Cx
