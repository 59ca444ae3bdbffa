/- What functions of the program compute, and the walks that show it. No condition. -/
import Derived.Test.YtcmgbmkjnekbkaaGreatDoorPEmptyNetworkG3
import Derived.Shelf.Strings.OnBuilder
import Derived.Test.YtcmgbmkjnekbkaaGreatDoorPEmptyNetworkG2
import Derived.Shelf.Sort.Plain
import Derived.Shelf.Slices.In.SortNone2
import Derived.Shelf.Strconv.Itoa3
import Derived.WalkSmall
import Derived.Shelf.Strconv.Atoi
import Derived.Shelf.Strconv.ErrVar
import Derived.Shelf.Small.Strs
import Derived.Lib.AtoiBound
set_option linter.unusedVariables false
set_option linter.unusedSimpArgs false
namespace Go.Cx
open Go.RowKit Go.Proofs Tryz
set_option maxRecDepth 100000
variable{Γ:pG}{N:Nat->St->Prop}
def eR(k1:Bytes->Option Bytes):Nat->Int->Bytes->Option Bytes
 |0,_,_=>none
 |n1+1,rA,kK=>(bif decide ((rA:Int)>0)then(bif decide (0<=(rA:Int))&&decide (0<(10:Int))then(bif decide (([UInt8.ofNat (IntKind.u8.wrap (IntKind.i64.wrap (48+((rA:Int)%10)))).toNat]:Bytes).length+(kK:Bytes).length<=maxLen)then(bif decide (0<=(rA:Int))&&decide (0<(10:Int))then(eR k1 n1 ((rA:Int)/10) (([UInt8.ofNat (IntKind.u8.wrap (IntKind.i64.wrap (48+((rA:Int)%10)))).toNat])++kK))else none)else none)else none)else(k1 kK))
def br(aC:Int):Option Bytes:=(bif decide ((aC:Int)<=0)then(some ([109,48]))else(eR (fun(Jl:Bytes)=>(bif decide (([109]:Bytes).length+(Jl:Bytes).length<=maxLen)then(some (([109])++Jl))else none)) fuel aC ([])))
def E2(rA:Int)(kK:Bytes):St:=⟨[(0,D.int .i64 rA),(3,D.str kK)],[]⟩
theorem Cu(hΓ:Γ.nt=20){r:Bytes}{k1:Bytes->Option Bytes}(dQ:∀(Jl:Bytes),k1 Jl=some r->Ax Γ N f38 (.q [[none]] (D.str r)) [1,1,1,1] ⟨[(3,D.str Jl)],[]⟩):∀(n1:Nat) (rA:Int) (kK:Bytes),eR k1 n1 rA kK=some r->Ar Γ N f38 (.q [[none]] (D.str r)) [1,1,1,0,0] n1 (E2 rA kK):=by
 intro n
 induction n with
 |zero=>intro rA kK h;simp[eR]at h
 |succ n1 ih1=>
  intro rA kK h;rw[eR]at h;refine aO fun N1 cN cI=>?_
  obtain⟨h10,h⟩|⟨h10,h⟩:=aN h
  ·obtain⟨h11,h⟩:=bu h;obtain⟨h12,h⟩:=bu h;obtain⟨h13,h⟩:=bu h;exact(((((aT.b h10).w (Gk .i64 h11)).w (bq h12)).w (Gk .i64 h13)).a [.cn [0,3] []]).cf hΓ cI (ih1 ((rA:Int)/10) (([UInt8.ofNat (IntKind.u8.wrap (IntKind.i64.wrap (48+((rA:Int)%10)))).toNat])++kK) h)
  ·exact((aT.b h10).a [.hl 0 [3] []]).ex hΓ cN (dQ kK h)
theorem bV{aC:Int}{r:Bytes}(h:br aC=some r):Good prog 38 [D.int .i64 aC] (D.str r):=by
 refine gd func38 [[none]] 20 fun hr Γ hΓ=>?_
 rw[br]at h;obtain⟨h1,h⟩|⟨h1,h⟩:=aN h
 ·cases h;exact(aT.b h1).ret hΓ
 ·refine((aT.b h1).a [.cn [0,3] []]).lp hΓ (Cu hΓ (fun Jl h=>?_) fuel aC ([]) h);obtain⟨h14,h⟩:=bu h;cases h;exact(aT.w (bq h14)).rts hΓ (D.str (([109])++Jl)) (by first|rfl| (simp only[mA]<;>rfl))
def eV(k1:aE->Int->Option (aE×Int)):aE->aE->Int->Option (aE×Int)
 | [],bS,ax=>(k1 bS ax)
 |bC::cE,bS,ax=>((br ax).bind fun y1=>(eV k1 cE (bS++[y1]) (IntKind.i64.wrap (ax+1))))
def fO(aC:aE)(aZ:Int):Option (aE×Int):=(eV (fun(bf:aE) (cL:Int)=>(some (bf,cL))) aC [] aZ)
theorem yy{Γ:pG}(hΓ:Γ.nt=20){N:Nat->St->Prop}{dU:Value}{r:aE×Int}{k1:aE->Int->Option (aE×Int)}(dQ:∀(bf:aE) (cL:Int),k1 bf cL=some r->AW prog Γ (lc f89 [1,1]) (KQ prog Γ N (qF prog f89 [dU] [(1,r.1.map tx)] (D.int .i64 r.2)) (uO f89 [1,1])) ⟨[(1,D.int .i64 cL)],[Ob.eE 1 (bf.map tx) (some dU)]⟩):∀(rest:aE) (bS:aE) (ax:Int),bS.length+rest.length<=maxLen->eV k1 rest bS ax=some r->Hh prog Γ (lc f89 [1,0,1,0,0]) (KQ prog Γ N (qF prog f89 [dU] [(1,r.1.map tx)] (D.int .i64 r.2)) (uO f89 [1,0,1,0])) (rest.length+1) ⟨[(0,D.acc 0),(1,D.int .i64 ax),(5,D.int .i64 (bS.length:Int))],[Ob.eE 1 (bS.map tx++rest.map tx) (some dU)]⟩:=by
 intro rest
 induction rest with
 |nil=>
  intro bS ax hm1 h;rw[eV]at h;refine aO fun N1 cN cI=>?_
  have t:=Hx (N:=N) (N':=N1) (K0:=(uO f89 [1,0,1,0])) (by kernel_rfl) cN (dQ bS ax h);refine er (n:=2000) 1 [bF,.hl 0 [1] [0]] (.at_ (lc f89 [1,1]) (uO f89 [1,1]) ⟨[(1,D.int .i64 ax)],[Ob.eE 1 (bS.map tx++([]:aE).map tx) (some dU)]⟩) hΓ wZ (by kernel_rfl) (ow (show(decide (((bS.length:Int):Int)<((bS.map tx++([]:aE).map tx).length:Int)))=false from(xO _)) yP) ?_;refine rE (s:=⟨[(1,D.int .i64 ax)],[Ob.eE 1 (bS.map tx++([]:aE).map tx) (some dU)]⟩) ?_ t;simp only[bP,cB]
 |cons bC cE ih1=>
  intro bS ax hm1 h;rw[eV]at h;refine aO fun N1 cN cI=>?_
  obtain⟨y1,h2,h⟩:=aF h;have t:=ih1 (bS++[y1]) (IntKind.i64.wrap (ax+1)) (by simp only[aM,aG,b8]at hm1⊢;omega) h;refine er (n:=2000) 1 [bT,.d (D.str y1),.ix (bS.length),.row [D.str bC],.cn [0,1,5] [0]] (.cont 0 ⟨[(0,D.acc 0),(1,D.int .i64 (IntKind.i64.wrap (ax+1))),(5,D.int .i64 (IntKind.i64.wrap ((bS.length:Int)+1)))],[Ob.eE 1 ((bS.map tx++([D.str bC]::cE.map tx)).set bS.length [D.str y1]) (some dU)]⟩) hΓ wZ (by kernel_rfl) (ow (show(decide (((bS.length:Int):Int)<((bS.map tx++([D.str bC]::cE.map tx)).length:Int)))=true from(xU _ _ _)) (ow (bV h2) (ow (show(bS.length:Int)=((bS.length:Nat):Int)/\bS.length<(bS.map tx++([D.str bC]::cE.map tx)).length from⟨rfl,by simp only[bQ,aM,ai,aG];omega⟩) (ow (show(bS.map tx++([D.str bC]::cE.map tx))[bS.length]?=some [D.str bC]from by(try simp only[cU]);exact cy _ _ _) yP)))) ?_;refine(congrFun cI _).mpr ?_;rw[tZ (by simp only[aG]at hm1;omega)];simp only[cU];simp only[bR,bI,bP,bN,cv,cC,aM,aG,b8]at t⊢;exact t
theorem ij{aC:aE}{aZ:Int}{r:aE×Int}(h:fO aC aZ=some r):oF prog 89 [D.acc 0,D.int .i64 aZ] [(1,aC.map tx)] [(1,r.1.map tx)] (D.int .i64 r.2):=by
 refine oF.of (c:=j4 f89) func89 rfl (by decide) (by simp[f89]) rfl rfl ?_;intro hr Γ hΓ vs hvs
 match vs,hvs with
 | [dU],_=>
 have hΓ:Γ.nt=20:=hΓ;rw[fO]at h;refine(show AW prog Γ (j4 f89) (KQ prog Γ (fun _ _=>False) (qF prog f89 [dU] [(1,r.1.map tx)] (D.int .i64 r.2)) []) _ from ?_);refine er (n:=2000) 1 [.cn [0,1,5] [0]] (.lp (lc f89 [1,0,1,0,0]) (uO f89 [1,0,1,0]) ⟨[(0,D.acc 0),(1,D.int .i64 aZ),(5,D.int .i64 0)],[Ob.eE 1 (aC.map tx) (some dU)]⟩) hΓ wZ (by kernel_rfl) yP (rE (by rfl) (sP (yy hΓ (fun bf cL h=>?_) aC [] aZ (by have:=hr _ (aB (i:=0) rfl);simpa using this) h)));have h:=aJ h;subst h;exact er (n:=2000) 1 [] (.ret (D.iE [D.int .i64 cL,D.agg [D.fr 0 1 (bf.map tx),D.val dU]])) hΓ wZ (by kernel_rfl) yP rfl
def fq(k1:aY->Int->Option (aY×Int)):aY->aY->Int->Option (aY×Int)
 | [],bS,ax=>(k1 bS ax)
 |bC::cE,bS,ax=>((br (IntKind.i64.wrap (ax+1))).bind fun y1=>((fO bC.pat.args (IntKind.i64.wrap ((IntKind.i64.wrap (ax+1))+1))).bind fun y3=>((br y3.2).bind fun y5=>((br (IntKind.i64.wrap (y3.2+1))).bind fun y7=>(fq k1 cE (bS++[(⟨ax,(⟨y1,y3.1⟩:aL),y5,y7⟩:aI)]) (IntKind.i64.wrap ((IntKind.i64.wrap (y3.2+1))+1)))))))
def o4(aC:aY)(aZ:Int):Option (aY×Int):=(fq (fun(bf:aY) (cL:Int)=>(some (bf,cL))) aC [] aZ)
theorem BL{Γ:pG}(hΓ:Γ.nt=53){N:Nat->St->Prop}{dU:Value}{r:aY×Int}{k1:aY->Int->Option (aY×Int)}(dQ:∀(bf:aY) (cL:Int),k1 bf cL=some r->AW prog Γ (lc f39 [1,1]) (KQ prog Γ N (qF prog f39 [dU] [(5,r.1.map aI.c)] (D.int .i64 r.2)) (uO f39 [1,1])) ⟨[(1,D.int .i64 cL)],[Ob.eE 5 (bf.map aI.c) (some dU)]⟩):∀(rest:aY) (bS:aY) (ax:Int),bS.length+rest.length<=maxLen->fq k1 rest bS ax=some r->Hh prog Γ (lc f39 [1,0,1,0,0]) (KQ prog Γ N (qF prog f39 [dU] [(5,r.1.map aI.c)] (D.int .i64 r.2)) (uO f39 [1,0,1,0])) (rest.length+1) ⟨[(0,D.acc 0),(1,D.int .i64 ax),(5,D.int .i64 (bS.length:Int))],[Ob.eE 5 (bS.map aI.c++rest.map aI.c) (some dU)]⟩:=by
 intro rest
 induction rest with
 |nil=>
  intro bS ax hm1 h;rw[fq]at h;refine aO fun N1 cN cI=>?_
  have t:=Hx (N:=N) (N':=N1) (K0:=(uO f39 [1,0,1,0])) (by kernel_rfl) cN (dQ bS ax h);refine er (n:=2000) 1 [bF,.hl 0 [1] [0]] (.at_ (lc f39 [1,1]) (uO f39 [1,1]) ⟨[(1,D.int .i64 ax)],[Ob.eE 5 (bS.map aI.c++([]:aY).map aI.c) (some dU)]⟩) hΓ wZ (by kernel_rfl) (ow (show(decide (((bS.length:Int):Int)<((bS.map aI.c++([]:aY).map aI.c).length:Int)))=false from(xO _)) yP) ?_;refine rE (s:=⟨[(1,D.int .i64 ax)],[Ob.eE 5 (bS.map aI.c++([]:aY).map aI.c) (some dU)]⟩) ?_ t;simp only[bP,cB]
 |cons bC cE ih1=>
  intro bS ax hm1 h;rw[fq]at h;refine aO fun N1 cN cI=>?_
  obtain⟨y1,h2,h⟩:=aF h;obtain⟨y3,h4,h⟩:=aF h;obtain⟨y5,h6,h⟩:=aF h;obtain⟨y7,h8,h⟩:=aF h;have t:=ih1 (bS++[(⟨ax,(⟨y1,y3.1⟩:aL),y5,y7⟩:aI)]) (IntKind.i64.wrap ((IntKind.i64.wrap (y3.2+1))+1)) (by simp only[aM,aG,b8]at hm1⊢;omega) h;let NL:aK:=[D.int .i64 ax,D.str y1,D.any,D.str bC.left,D.str bC.right]
  let Lp:aK:=[D.int .i64 ax,D.str y1,D.sl (y3.1.map tx),D.str y5,D.str bC.right]
  let NT:aK:=[D.int .i64 ax,D.str y1,D.sl (y3.1.map tx),D.str bC.left,D.str bC.right]
  let La:aK:=[D.int .i64 ax,D.str y1,D.sl (bC.pat.args.map tx),D.str bC.left,D.str bC.right]
  let NU:aK:=[D.int .i64 ax,D.str bC.pat.rel,D.sl (bC.pat.args.map tx),D.str bC.left,D.str bC.right]
  let Lc:aK:=[D.int .i64 bC.kind,D.str bC.pat.rel,D.sl (bC.pat.args.map tx),D.str bC.left,D.str bC.right]
  let Le:List aK:=((bS.map aI.c++(Lc::cE.map aI.c)).set bS.length NU)
  let Ls:List aK:=(((Le.set bS.length La).set bS.length NL).set bS.length NT)
  refine er (n:=2000) 1 [bT,.ix (bS.length),.row Lc,.d (D.str y1),.ix (bS.length),.row NU,.ix (bS.length),.row La,.gv [1] [(1,y3.1.map tx)] (D.int .i64 y3.2),.mg 0 bS.length 2 NL,.d (D.str y5),.ix (bS.length),.row NT,.d (D.str y7),.ix (bS.length),.row Lp,.cn [0,1,5] [0]] (.cont 0 ⟨[(0,D.acc 0),(1,D.int .i64 (IntKind.i64.wrap ((IntKind.i64.wrap (y3.2+1))+1))),(5,D.int .i64 (IntKind.i64.wrap ((bS.length:Int)+1)))],[Ob.eE 5 ((Ls.set bS.length Lp).set bS.length [D.int .i64 ax,D.str y1,D.sl (y3.1.map tx),D.str y5,D.str y7]) (some dU)]⟩) hΓ wZ (by kernel_rfl) (ow (show(decide (((bS.length:Int):Int)<((bS.map aI.c++(Lc::cE.map aI.c)).length:Int)))=true from(xU _ _ _)) (ow (show(bS.length:Int)=((bS.length:Nat):Int)/\bS.length<(bS.map aI.c++(Lc::cE.map aI.c)).length from⟨rfl,by simp only[Ls,Le,Lc,NU,La,NT,Lp,NL,bQ,aM,ai,aG];omega⟩) (ow (show(bS.map aI.c++(Lc::cE.map aI.c))[bS.length]?=some Lc from by(try simp only[Ls,Le,Lc,NU,La,NT,Lp,NL,cU]);exact cy _ _ _) (ow (bV h2) (ow (show(bS.length:Int)=((bS.length:Nat):Int)/\bS.length<Le.length from⟨rfl,by simp only[Ls,Le,Lc,NU,La,NT,Lp,NL,bQ,aM,ai,aG];omega⟩) (ow (show Le[bS.length]?=some NU from by(try simp only[Ls,Le,Lc,NU,La,NT,Lp,NL,cU]);exact cy _ _ _) (ow (show(bS.length:Int)=((bS.length:Nat):Int)/\bS.length<(Le.set bS.length La).length from⟨rfl,by simp only[Ls,Le,Lc,NU,La,NT,Lp,NL,bQ,aM,ai,aG];omega⟩) (ow (show(Le.set bS.length La)[bS.length]?=some La from by(try simp only[Ls,Le,Lc,NU,La,NT,Lp,NL,cU]);exact cy _ _ _) (ow (show∀q∈(bC.pat.args.map tx),q.length=1 from by simp) (ow (ij h4) (ow (show((Le.set bS.length La).set bS.length NL)[bS.length]?=some NL from by(try simp only[Ls,Le,Lc,NU,La,NT,Lp,NL,cU]);exact cy _ _ _) (ow (show(bS.length*5+2)=bS.length*5+2 from rfl) (ow (bV h6) (ow (show(bS.length:Int)=((bS.length:Nat):Int)/\bS.length<Ls.length from⟨rfl,by simp only[Ls,Le,Lc,NU,La,NT,Lp,NL,bQ,aM,ai,aG];omega⟩) (ow (show Ls[bS.length]?=some NT from by(try simp only[Ls,Le,Lc,NU,La,NT,Lp,NL,cU]);exact cy _ _ _) (ow (bV h8) (ow (show(bS.length:Int)=((bS.length:Nat):Int)/\bS.length<(Ls.set bS.length Lp).length from⟨rfl,by simp only[Ls,Le,Lc,NU,La,NT,Lp,NL,bQ,aM,ai,aG];omega⟩) (ow (show(Ls.set bS.length Lp)[bS.length]?=some Lp from by(try simp only[Ls,Le,Lc,NU,La,NT,Lp,NL,cU]);exact cy _ _ _) yP)))))))))))))))))) ?_;refine(congrFun cI _).mpr ?_;rw[tZ (by simp only[aG]at hm1;omega)];simp only[Ls,Le,Lc,NU,La,NT,Lp,NL,cU];simp only[bR,bI,bP,bN,cv,cC,aM,aG,b8]at t⊢;exact t
theorem AE{aC:aY}{aZ:Int}{r:aY×Int}(h:o4 aC aZ=some r):oF prog 39 [D.acc 0,D.int .i64 aZ] [(5,aC.map aI.c)] [(5,r.1.map aI.c)] (D.int .i64 r.2):=by
 refine oF.of (c:=j4 f39) func39 rfl (by decide) (by simp[f39]) rfl rfl ?_;intro hr Γ hΓ vs hvs
 match vs,hvs with
 | [dU],_=>
 have hΓ:Γ.nt=53:=hΓ;rw[o4]at h;refine(show AW prog Γ (j4 f39) (KQ prog Γ (fun _ _=>False) (qF prog f39 [dU] [(5,r.1.map aI.c)] (D.int .i64 r.2)) []) _ from ?_);refine er (n:=2000) 1 [.cn [0,1,5] [0]] (.lp (lc f39 [1,0,1,0,0]) (uO f39 [1,0,1,0]) ⟨[(0,D.acc 0),(1,D.int .i64 aZ),(5,D.int .i64 0)],[Ob.eE 5 (aC.map aI.c) (some dU)]⟩) hΓ wZ (by kernel_rfl) yP (rE (by rfl) (sP (BL hΓ (fun bf cL h=>?_) aC [] aZ (by have:=hr _ (aB (i:=0) rfl);simpa using this) h)));have h:=aJ h;subst h;exact er (n:=2000) 1 [] (.ret (D.iE [D.int .i64 cL,D.agg [D.fr 0 5 (bf.map aI.c),D.val dU]])) hΓ wZ (by kernel_rfl) yP rfl
def eU(k1:bh->Int->Option (bh×Int)):bh->bh->Int->Option (bh×Int)
 | [],bS,ax=>(k1 bS ax)
 |bC::cE,bS,ax=>((br (IntKind.i64.wrap (ax+1))).bind fun y1=>((fO bC.pat.args (IntKind.i64.wrap ((IntKind.i64.wrap (ax+1))+1))).bind fun y3=>(eU k1 cE (bS++[(⟨ax,(⟨y1,y3.1⟩:aL)⟩:Action)]) y3.2)))
def mD(aC:bh)(aZ:Int):Option (bh×Int):=(eU (fun(bf:bh) (cL:Int)=>(some (bf,cL))) aC [] aZ)
theorem yu{Γ:pG}(hΓ:Γ.nt=37){N:Nat->St->Prop}{dU:Value}{r:bh×Int}{k1:bh->Int->Option (bh×Int)}(dQ:∀(bf:bh) (cL:Int),k1 bf cL=some r->AW prog Γ (lc f40 [1,1]) (KQ prog Γ N (qF prog f40 [dU] [(3,r.1.map Action.c)] (D.int .i64 r.2)) (uO f40 [1,1])) ⟨[(1,D.int .i64 cL)],[Ob.eE 3 (bf.map Action.c) (some dU)]⟩):∀(rest:bh) (bS:bh) (ax:Int),bS.length+rest.length<=maxLen->eU k1 rest bS ax=some r->Hh prog Γ (lc f40 [1,0,1,0,0]) (KQ prog Γ N (qF prog f40 [dU] [(3,r.1.map Action.c)] (D.int .i64 r.2)) (uO f40 [1,0,1,0])) (rest.length+1) ⟨[(0,D.acc 0),(1,D.int .i64 ax),(5,D.int .i64 (bS.length:Int))],[Ob.eE 3 (bS.map Action.c++rest.map Action.c) (some dU)]⟩:=by
 intro rest
 induction rest with
 |nil=>
  intro bS ax hm1 h;rw[eU]at h;refine aO fun N1 cN cI=>?_
  have t:=Hx (N:=N) (N':=N1) (K0:=(uO f40 [1,0,1,0])) (by kernel_rfl) cN (dQ bS ax h);refine er (n:=2000) 1 [bF,.hl 0 [1] [0]] (.at_ (lc f40 [1,1]) (uO f40 [1,1]) ⟨[(1,D.int .i64 ax)],[Ob.eE 3 (bS.map Action.c++([]:bh).map Action.c) (some dU)]⟩) hΓ wZ (by kernel_rfl) (ow (show(decide (((bS.length:Int):Int)<((bS.map Action.c++([]:bh).map Action.c).length:Int)))=false from(xO _)) yP) ?_;refine rE (s:=⟨[(1,D.int .i64 ax)],[Ob.eE 3 (bS.map Action.c++([]:bh).map Action.c) (some dU)]⟩) ?_ t;simp only[bP,cB]
 |cons bC cE ih1=>
  intro bS ax hm1 h;rw[eU]at h;refine aO fun N1 cN cI=>?_
  obtain⟨y1,h2,h⟩:=aF h;obtain⟨y3,h4,h⟩:=aF h;have t:=ih1 (bS++[(⟨ax,(⟨y1,y3.1⟩:aL)⟩:Action)]) y3.2 (by simp only[aM,aG,b8]at hm1⊢;omega) h;let Rm:aK:=[D.int .i64 ax,D.str y1,D.sl (bC.pat.args.map tx)]
  let Pz:aK:=[D.int .i64 ax,D.str bC.pat.rel,D.sl (bC.pat.args.map tx)]
  let I3:aK:=[D.int .i64 bC.kind,D.str bC.pat.rel,D.sl (bC.pat.args.map tx)]
  let Eo:List aK:=(bS.map Action.c++(I3::cE.map Action.c))
  let HL:List aK:=((Eo.set bS.length Pz).set bS.length Rm)
  refine er (n:=2000) 1 [bT,.ix (bS.length),.row I3,.d (D.str y1),.ix (bS.length),.row Pz,.ix (bS.length),.row Rm,.gv [1] [(1,y3.1.map tx)] (D.int .i64 y3.2),.mg 0 bS.length 2 [D.int .i64 ax,D.str y1,D.any],.cn [0,1,5] [0]] (.cont 0 ⟨[(0,D.acc 0),(1,D.int .i64 y3.2),(5,D.int .i64 (IntKind.i64.wrap ((bS.length:Int)+1)))],[Ob.eE 3 ((HL.set bS.length [D.int .i64 ax,D.str y1,D.any]).set bS.length [D.int .i64 ax,D.str y1,D.sl (y3.1.map tx)]) (some dU)]⟩) hΓ wZ (by kernel_rfl) (ow (show(decide (((bS.length:Int):Int)<(Eo.length:Int)))=true from(xU _ _ _)) (ow (show(bS.length:Int)=((bS.length:Nat):Int)/\bS.length<Eo.length from⟨rfl,by simp only[HL,Eo,I3,Pz,Rm,bQ,aM,ai,aG];omega⟩) (ow (show Eo[bS.length]?=some I3 from by(try simp only[HL,Eo,I3,Pz,Rm,cU]);exact cy _ _ _) (ow (bV h2) (ow (show(bS.length:Int)=((bS.length:Nat):Int)/\bS.length<(Eo.set bS.length Pz).length from⟨rfl,by simp only[HL,Eo,I3,Pz,Rm,bQ,aM,ai,aG];omega⟩) (ow (show(Eo.set bS.length Pz)[bS.length]?=some Pz from by(try simp only[HL,Eo,I3,Pz,Rm,cU]);exact cy _ _ _) (ow (show(bS.length:Int)=((bS.length:Nat):Int)/\bS.length<HL.length from⟨rfl,by simp only[HL,Eo,I3,Pz,Rm,bQ,aM,ai,aG];omega⟩) (ow (show HL[bS.length]?=some Rm from by(try simp only[HL,Eo,I3,Pz,Rm,cU]);exact cy _ _ _) (ow (show∀q∈(bC.pat.args.map tx),q.length=1 from by simp) (ow (ij h4) (ow (show(HL.set bS.length [D.int .i64 ax,D.str y1,D.any])[bS.length]?=some [D.int .i64 ax,D.str y1,D.any]from by(try simp only[HL,Eo,I3,Pz,Rm,cU]);exact cy _ _ _) (ow (show(bS.length*3+2)=bS.length*3+2 from rfl) yP)))))))))))) ?_;refine(congrFun cI _).mpr ?_;rw[tZ (by simp only[aG]at hm1;omega)];simp only[HL,Eo,I3,Pz,Rm,cU];simp only[bR,bI,bP,bN,cv,cC,aM,aG,b8]at t⊢;exact t
theorem yA{aC:bh}{aZ:Int}{r:bh×Int}(h:mD aC aZ=some r):oF prog 40 [D.acc 0,D.int .i64 aZ] [(3,aC.map Action.c)] [(3,r.1.map Action.c)] (D.int .i64 r.2):=by
 refine oF.of (c:=j4 f40) func40 rfl (by decide) (by simp[f40]) rfl rfl ?_;intro hr Γ hΓ vs hvs
 match vs,hvs with
 | [dU],_=>
 have hΓ:Γ.nt=37:=hΓ;rw[mD]at h;refine(show AW prog Γ (j4 f40) (KQ prog Γ (fun _ _=>False) (qF prog f40 [dU] [(3,r.1.map Action.c)] (D.int .i64 r.2)) []) _ from ?_);refine er (n:=2000) 1 [.cn [0,1,5] [0]] (.lp (lc f40 [1,0,1,0,0]) (uO f40 [1,0,1,0]) ⟨[(0,D.acc 0),(1,D.int .i64 aZ),(5,D.int .i64 0)],[Ob.eE 3 (aC.map Action.c) (some dU)]⟩) hΓ wZ (by kernel_rfl) yP (rE (by rfl) (sP (yu hΓ (fun bf cL h=>?_) aC [] aZ (by have:=hr _ (aB (i:=0) rfl);simpa using this) h)));have h:=aJ h;subst h;exact er (n:=2000) 1 [] (.ret (D.iE [D.int .i64 cL,D.agg [D.fr 0 3 (bf.map Action.c),D.val dU]])) hΓ wZ (by kernel_rfl) yP rfl
def gB(k1:af->Int->Option (af×Int)):af->af->Int->Option (af×Int)
 | [],bS,ax=>(k1 bS ax)
 |bC::cE,bS,ax=>((br ax).bind fun y1=>((o4 bC.conds (IntKind.i64.wrap ((IntKind.i64.wrap (ax+1))+1))).bind fun y3=>((mD bC.cc y3.2).bind fun y5=>(gB k1 cE (bS++[(⟨y1,IntKind.i64.wrap (ax+1),y3.1,y5.1⟩:aH)]) y5.2))))
def lY(aC:af)(aZ:Int):Option (af×Int):=(gB (fun(bf:af) (cL:Int)=>(some (bf,cL))) aC [] aZ)
theorem BQ{Γ:pG}(hΓ:Γ.nt=42){N:Nat->St->Prop}{dU:Value}{r:af×Int}{k1:af->Int->Option (af×Int)}(dQ:∀(bf:af) (cL:Int),k1 bf cL=some r->AW prog Γ (lc f16 [1,1]) (KQ prog Γ N (qF prog f16 [dU] [(4,r.1.map aH.c)] (D.int .i64 r.2)) (uO f16 [1,1])) ⟨[(1,D.int .i64 cL)],[Ob.eE 4 (bf.map aH.c) (some dU)]⟩):∀(rest:af) (bS:af) (ax:Int),bS.length+rest.length<=maxLen->gB k1 rest bS ax=some r->Hh prog Γ (lc f16 [1,0,1,0,0]) (KQ prog Γ N (qF prog f16 [dU] [(4,r.1.map aH.c)] (D.int .i64 r.2)) (uO f16 [1,0,1,0])) (rest.length+1) ⟨[(0,D.acc 0),(1,D.int .i64 ax),(5,D.int .i64 (bS.length:Int))],[Ob.eE 4 (bS.map aH.c++rest.map aH.c) (some dU)]⟩:=by
 intro rest
 induction rest with
 |nil=>
  intro bS ax hm1 h;rw[gB]at h;refine aO fun N1 cN cI=>?_
  have t:=Hx (N:=N) (N':=N1) (K0:=(uO f16 [1,0,1,0])) (by kernel_rfl) cN (dQ bS ax h);refine er (n:=2000) 1 [bF,.hl 0 [1] [0]] (.at_ (lc f16 [1,1]) (uO f16 [1,1]) ⟨[(1,D.int .i64 ax)],[Ob.eE 4 (bS.map aH.c++([]:af).map aH.c) (some dU)]⟩) hΓ wZ (by kernel_rfl) (ow (show(decide (((bS.length:Int):Int)<((bS.map aH.c++([]:af).map aH.c).length:Int)))=false from(xO _)) yP) ?_;refine rE (s:=⟨[(1,D.int .i64 ax)],[Ob.eE 4 (bS.map aH.c++([]:af).map aH.c) (some dU)]⟩) ?_ t;simp only[bP,cB]
 |cons bC cE ih1=>
  intro bS ax hm1 h;rw[gB]at h;refine aO fun N1 cN cI=>?_
  obtain⟨y1,h2,h⟩:=aF h;obtain⟨y3,h4,h⟩:=aF h;obtain⟨y5,h6,h⟩:=aF h;have t:=ih1 (bS++[(⟨y1,IntKind.i64.wrap (ax+1),y3.1,y5.1⟩:aH)]) y5.2 (by simp only[aM,aG,b8]at hm1⊢;omega) h;let Db:aK:=[D.str y1,D.int .i64 (IntKind.i64.wrap (ax+1)),D.sl (y3.1.map aI.c),D.any]
  let Ep:aK:=[D.str y1,D.int .i64 (IntKind.i64.wrap (ax+1)),D.any,D.sl (bC.cc.map Action.c)]
  let Er:aK:=[D.str y1,D.int .i64 bC.prio,D.sl (bC.conds.map aI.c),D.sl (bC.cc.map Action.c)]
  let Ah:aK:=[D.str bC.name,D.int .i64 bC.prio,D.sl (bC.conds.map aI.c),D.sl (bC.cc.map Action.c)]
  let CO:List aK:=((bS.map aH.c++(Ah::cE.map aH.c)).set bS.length Er)
  let Ai:aK:=[D.str y1,D.int .i64 (IntKind.i64.wrap (ax+1)),D.sl (y3.1.map aI.c),D.sl (bC.cc.map Action.c)]
  let CP:aK:=[D.str y1,D.int .i64 (IntKind.i64.wrap (ax+1)),D.sl (bC.conds.map aI.c),D.sl (bC.cc.map Action.c)]
  let CQ:List aK:=((CO.set bS.length CP).set bS.length Ep)
  refine er (n:=2000) 1 [bT,.d (D.str y1),.ix (bS.length),.row Ah,.ix (bS.length),.row Er,.ix (bS.length),.row CP,.gv [1] [(5,y3.1.map aI.c)] (D.int .i64 y3.2),.mg 0 bS.length 2 Ep,.ix (bS.length),.row Ai,.gv [2] [(3,y5.1.map Action.c)] (D.int .i64 y5.2),.mg 0 bS.length 3 Db,.cn [0,1,5] [0]] (.cont 0 ⟨[(0,D.acc 0),(1,D.int .i64 y5.2),(5,D.int .i64 (IntKind.i64.wrap ((bS.length:Int)+1)))],[Ob.eE 4 (((CQ.set bS.length Ai).set bS.length Db).set bS.length [D.str y1,D.int .i64 (IntKind.i64.wrap (ax+1)),D.sl (y3.1.map aI.c),D.sl (y5.1.map Action.c)]) (some dU)]⟩) hΓ wZ (by kernel_rfl) (ow (show(decide (((bS.length:Int):Int)<((bS.map aH.c++(Ah::cE.map aH.c)).length:Int)))=true from(xU _ _ _)) (ow (bV h2) (ow (show(bS.length:Int)=((bS.length:Nat):Int)/\bS.length<(bS.map aH.c++(Ah::cE.map aH.c)).length from⟨rfl,by simp only[CQ,CP,Ai,CO,Ah,Er,Ep,Db,bQ,aM,ai,aG];omega⟩) (ow (show(bS.map aH.c++(Ah::cE.map aH.c))[bS.length]?=some Ah from by(try simp only[CQ,CP,Ai,CO,Ah,Er,Ep,Db,cU]);exact cy _ _ _) (ow (show(bS.length:Int)=((bS.length:Nat):Int)/\bS.length<CO.length from⟨rfl,by simp only[CQ,CP,Ai,CO,Ah,Er,Ep,Db,bQ,aM,ai,aG];omega⟩) (ow (show CO[bS.length]?=some Er from by(try simp only[CQ,CP,Ai,CO,Ah,Er,Ep,Db,cU]);exact cy _ _ _) (ow (show(bS.length:Int)=((bS.length:Nat):Int)/\bS.length<(CO.set bS.length CP).length from⟨rfl,by simp only[CQ,CP,Ai,CO,Ah,Er,Ep,Db,bQ,aM,ai,aG];omega⟩) (ow (show(CO.set bS.length CP)[bS.length]?=some CP from by(try simp only[CQ,CP,Ai,CO,Ah,Er,Ep,Db,cU]);exact cy _ _ _) (ow (show∀q∈(bC.conds.map aI.c),q.length=5 from by simp) (ow (AE h4) (ow (show CQ[bS.length]?=some Ep from by(try simp only[CQ,CP,Ai,CO,Ah,Er,Ep,Db,cU]);exact cy _ _ _) (ow (show(bS.length*4+2)=bS.length*4+2 from rfl) (ow (show(bS.length:Int)=((bS.length:Nat):Int)/\bS.length<(CQ.set bS.length Ai).length from⟨rfl,by simp only[CQ,CP,Ai,CO,Ah,Er,Ep,Db,bQ,aM,ai,aG];omega⟩) (ow (show(CQ.set bS.length Ai)[bS.length]?=some Ai from by(try simp only[CQ,CP,Ai,CO,Ah,Er,Ep,Db,cU]);exact cy _ _ _) (ow (show∀q∈(bC.cc.map Action.c),q.length=3 from by simp) (ow (yA h6) (ow (show((CQ.set bS.length Ai).set bS.length Db)[bS.length]?=some Db from by(try simp only[CQ,CP,Ai,CO,Ah,Er,Ep,Db,cU]);exact cy _ _ _) (ow (show(bS.length*4+3)=bS.length*4+3 from rfl) yP)))))))))))))))))) ?_;refine(congrFun cI _).mpr ?_;rw[tZ (by simp only[aG]at hm1;omega)];simp only[CQ,CP,Ai,CO,Ah,Er,Ep,Db,cU];simp only[bR,bI,bP,bN,cv,cC,aM,aG,b8]at t⊢;exact t
theorem tH{aC:af}{aZ:Int}{r:af×Int}(h:lY aC aZ=some r):oF prog 16 [D.acc 0,D.int .i64 aZ] [(4,aC.map aH.c)] [(4,r.1.map aH.c)] (D.int .i64 r.2):=by
 refine oF.of (c:=j4 f16) func16 rfl (by decide) (by simp[f16]) rfl rfl ?_;intro hr Γ hΓ vs hvs
 match vs,hvs with
 | [dU],_=>
 have hΓ:Γ.nt=42:=hΓ;rw[lY]at h;refine(show AW prog Γ (j4 f16) (KQ prog Γ (fun _ _=>False) (qF prog f16 [dU] [(4,r.1.map aH.c)] (D.int .i64 r.2)) []) _ from ?_);refine er (n:=2000) 1 [.cn [0,1,5] [0]] (.lp (lc f16 [1,0,1,0,0]) (uO f16 [1,0,1,0]) ⟨[(0,D.acc 0),(1,D.int .i64 aZ),(5,D.int .i64 0)],[Ob.eE 4 (aC.map aH.c) (some dU)]⟩) hΓ wZ (by kernel_rfl) yP (rE (by rfl) (sP (BQ hΓ (fun bf cL h=>?_) aC [] aZ (by have:=hr _ (aB (i:=0) rfl);simpa using this) h)));have h:=aJ h;subst h;exact er (n:=2000) 1 [] (.ret (D.iE [D.int .i64 cL,D.agg [D.fr 0 4 (bf.map aH.c),D.val dU]])) hΓ wZ (by kernel_rfl) yP rfl
def gP(k1:bZ->Int->Option (bZ×Int)):bZ->bZ->Int->Option (bZ×Int)
 | [],bS,ax=>(k1 bS ax)
 |bC::cE,bS,ax=>(gP k1 cE (bS++[ax]) (IntKind.i64.wrap (ax+1)))
def oo(aC:bZ)(aZ:Int):Option (bZ×Int):=(gP (fun(bf:bZ) (cL:Int)=>(some (bf,cL))) aC [] aZ)
theorem Ct{Γ:pG}(hΓ:Γ.nt=19){N:Nat->St->Prop}{dU:Value}{r:bZ×Int}{k1:bZ->Int->Option (bZ×Int)}(dQ:∀(bf:bZ) (cL:Int),k1 bf cL=some r->AW prog Γ (lc f41 [1,1]) (KQ prog Γ N (qF prog f41 [dU] [(1,r.1.map jd)] (D.int .i64 r.2)) (uO f41 [1,1])) ⟨[(1,D.int .i64 cL)],[Ob.eE 1 (bf.map jd) (some dU)]⟩):∀(rest:bZ) (bS:bZ) (ax:Int),bS.length+rest.length<=maxLen->gP k1 rest bS ax=some r->Hh prog Γ (lc f41 [1,0,1,0,0]) (KQ prog Γ N (qF prog f41 [dU] [(1,r.1.map jd)] (D.int .i64 r.2)) (uO f41 [1,0,1,0])) (rest.length+1) ⟨[(0,D.acc 0),(1,D.int .i64 ax),(5,D.int .i64 (bS.length:Int))],[Ob.eE 1 (bS.map jd++rest.map jd) (some dU)]⟩:=by
 intro rest
 induction rest with
 |nil=>
  intro bS ax hm1 h;rw[gP]at h;refine aO fun N1 cN cI=>?_
  have t:=Hx (N:=N) (N':=N1) (K0:=(uO f41 [1,0,1,0])) (by kernel_rfl) cN (dQ bS ax h);refine er (n:=2000) 1 [bF,.hl 0 [1] [0]] (.at_ (lc f41 [1,1]) (uO f41 [1,1]) ⟨[(1,D.int .i64 ax)],[Ob.eE 1 (bS.map jd++([]:bZ).map jd) (some dU)]⟩) hΓ wZ (by kernel_rfl) (ow (show(decide (((bS.length:Int):Int)<((bS.map jd++([]:bZ).map jd).length:Int)))=false from(xO _)) yP) ?_;refine rE (s:=⟨[(1,D.int .i64 ax)],[Ob.eE 1 (bS.map jd++([]:bZ).map jd) (some dU)]⟩) ?_ t;simp only[bP,cB]
 |cons bC cE ih1=>
  intro bS ax hm1 h;rw[gP]at h;refine aO fun N1 cN cI=>?_
  have t:=ih1 (bS++[ax]) (IntKind.i64.wrap (ax+1)) (by simp only[aM,aG,b8]at hm1⊢;omega) h;refine er (n:=2000) 1 [bT,.ix (bS.length),.row [D.int .i64 bC],.cn [0,1,5] [0]] (.cont 0 ⟨[(0,D.acc 0),(1,D.int .i64 (IntKind.i64.wrap (ax+1))),(5,D.int .i64 (IntKind.i64.wrap ((bS.length:Int)+1)))],[Ob.eE 1 ((bS.map jd++([D.int .i64 bC]::cE.map jd)).set bS.length [D.int .i64 ax]) (some dU)]⟩) hΓ wZ (by kernel_rfl) (ow (show(decide (((bS.length:Int):Int)<((bS.map jd++([D.int .i64 bC]::cE.map jd)).length:Int)))=true from(xU _ _ _)) (ow (show(bS.length:Int)=((bS.length:Nat):Int)/\bS.length<(bS.map jd++([D.int .i64 bC]::cE.map jd)).length from⟨rfl,by simp only[bQ,aM,ai,aG];omega⟩) (ow (show(bS.map jd++([D.int .i64 bC]::cE.map jd))[bS.length]?=some [D.int .i64 bC]from by(try simp only[cU]);exact cy _ _ _) yP))) ?_;refine(congrFun cI _).mpr ?_;rw[tZ (by simp only[aG]at hm1;omega)];simp only[cU];simp only[bR,bI,bP,bN,cv,cC,aM,aG,b8]at t⊢;exact t
theorem BN{aC:bZ}{aZ:Int}{r:bZ×Int}(h:oo aC aZ=some r):oF prog 41 [D.acc 0,D.int .i64 aZ] [(1,aC.map jd)] [(1,r.1.map jd)] (D.int .i64 r.2):=by
 refine oF.of (c:=j4 f41) func41 rfl (by decide) (by simp[f41]) rfl rfl ?_;intro hr Γ hΓ vs hvs
 match vs,hvs with
 | [dU],_=>
 have hΓ:Γ.nt=19:=hΓ;rw[oo]at h;refine(show AW prog Γ (j4 f41) (KQ prog Γ (fun _ _=>False) (qF prog f41 [dU] [(1,r.1.map jd)] (D.int .i64 r.2)) []) _ from ?_);refine er (n:=2000) 1 [.cn [0,1,5] [0]] (.lp (lc f41 [1,0,1,0,0]) (uO f41 [1,0,1,0]) ⟨[(0,D.acc 0),(1,D.int .i64 aZ),(5,D.int .i64 0)],[Ob.eE 1 (aC.map jd) (some dU)]⟩) hΓ wZ (by kernel_rfl) yP (rE (by rfl) (sP (Ct hΓ (fun bf cL h=>?_) aC [] aZ (by have:=hr _ (aB (i:=0) rfl);simpa using this) h)));have h:=aJ h;subst h;exact er (n:=2000) 1 [] (.ret (D.iE [D.int .i64 cL,D.agg [D.fr 0 1 (bf.map jd),D.val dU]])) hΓ wZ (by kernel_rfl) yP rfl
def fw(k1:ar->Int->Option (ar×Int)):ar->ar->Int->Option (ar×Int)
 | [],bS,ax=>(k1 bS ax)
 |bC::cE,bS,ax=>((br ax).bind fun y1=>((fO bC.args (IntKind.i64.wrap (ax+1))).bind fun y3=>(fw k1 cE (bS++[(⟨y1,y3.1⟩:aL)]) y3.2)))
def k8(aC:ar)(aZ:Int):Option (ar×Int):=(fw (fun(bf:ar) (cL:Int)=>(some (bf,cL))) aC [] aZ)
theorem BM{Γ:pG}(hΓ:Γ.nt=28){N:Nat->St->Prop}{dU:Value}{r:ar×Int}{k1:ar->Int->Option (ar×Int)}(dQ:∀(bf:ar) (cL:Int),k1 bf cL=some r->AW prog Γ (lc f44 [1,1]) (KQ prog Γ N (qF prog f44 [dU] [(2,r.1.map aL.c)] (D.int .i64 r.2)) (uO f44 [1,1])) ⟨[(1,D.int .i64 cL)],[Ob.eE 2 (bf.map aL.c) (some dU)]⟩):∀(rest:ar) (bS:ar) (ax:Int),bS.length+rest.length<=maxLen->fw k1 rest bS ax=some r->Hh prog Γ (lc f44 [1,0,1,0,0]) (KQ prog Γ N (qF prog f44 [dU] [(2,r.1.map aL.c)] (D.int .i64 r.2)) (uO f44 [1,0,1,0])) (rest.length+1) ⟨[(0,D.acc 0),(1,D.int .i64 ax),(5,D.int .i64 (bS.length:Int))],[Ob.eE 2 (bS.map aL.c++rest.map aL.c) (some dU)]⟩:=by
 intro rest
 induction rest with
 |nil=>
  intro bS ax hm1 h;rw[fw]at h;refine aO fun N1 cN cI=>?_
  have t:=Hx (N:=N) (N':=N1) (K0:=(uO f44 [1,0,1,0])) (by kernel_rfl) cN (dQ bS ax h);refine er (n:=2000) 1 [bF,.hl 0 [1] [0]] (.at_ (lc f44 [1,1]) (uO f44 [1,1]) ⟨[(1,D.int .i64 ax)],[Ob.eE 2 (bS.map aL.c++([]:ar).map aL.c) (some dU)]⟩) hΓ wZ (by kernel_rfl) (ow (show(decide (((bS.length:Int):Int)<((bS.map aL.c++([]:ar).map aL.c).length:Int)))=false from(xO _)) yP) ?_;refine rE (s:=⟨[(1,D.int .i64 ax)],[Ob.eE 2 (bS.map aL.c++([]:ar).map aL.c) (some dU)]⟩) ?_ t;simp only[bP,cB]
 |cons bC cE ih1=>
  intro bS ax hm1 h;rw[fw]at h;refine aO fun N1 cN cI=>?_
  obtain⟨y1,h2,h⟩:=aF h;obtain⟨y3,h4,h⟩:=aF h;have t:=ih1 (bS++[(⟨y1,y3.1⟩:aL)]) y3.2 (by simp only[aM,aG,b8]at hm1⊢;omega) h;let JS:List aK:=(bS.map aL.c++([D.str bC.rel,D.sl (bC.args.map tx)]::cE.map aL.c))
  let JT:List aK:=(JS.set bS.length [D.str y1,D.sl (bC.args.map tx)])
  refine er (n:=2000) 1 [bT,.d (D.str y1),.ix (bS.length),.row [D.str bC.rel,D.sl (bC.args.map tx)],.ix (bS.length),.row [D.str y1,D.sl (bC.args.map tx)],.gv [1] [(1,y3.1.map tx)] (D.int .i64 y3.2),.mg 0 bS.length 1 [D.str y1,D.any],.cn [0,1,5] [0]] (.cont 0 ⟨[(0,D.acc 0),(1,D.int .i64 y3.2),(5,D.int .i64 (IntKind.i64.wrap ((bS.length:Int)+1)))],[Ob.eE 2 ((JT.set bS.length [D.str y1,D.any]).set bS.length [D.str y1,D.sl (y3.1.map tx)]) (some dU)]⟩) hΓ wZ (by kernel_rfl) (ow (show(decide (((bS.length:Int):Int)<(JS.length:Int)))=true from(xU _ _ _)) (ow (bV h2) (ow (show(bS.length:Int)=((bS.length:Nat):Int)/\bS.length<JS.length from⟨rfl,by simp only[JT,JS,bQ,aM,ai,aG];omega⟩) (ow (show JS[bS.length]?=some [D.str bC.rel,D.sl (bC.args.map tx)]from by(try simp only[JT,JS,cU]);exact cy _ _ _) (ow (show(bS.length:Int)=((bS.length:Nat):Int)/\bS.length<JT.length from⟨rfl,by simp only[JT,JS,bQ,aM,ai,aG];omega⟩) (ow (show JT[bS.length]?=some [D.str y1,D.sl (bC.args.map tx)]from by(try simp only[JT,JS,cU]);exact cy _ _ _) (ow (show∀q∈(bC.args.map tx),q.length=1 from by simp) (ow (ij h4) (ow (show(JT.set bS.length [D.str y1,D.any])[bS.length]?=some [D.str y1,D.any]from by(try simp only[JT,JS,cU]);exact cy _ _ _) (ow (show(bS.length*2+1)=bS.length*2+1 from rfl) yP)))))))))) ?_;refine(congrFun cI _).mpr ?_;rw[tZ (by simp only[aG]at hm1;omega)];simp only[JT,JS,cU];simp only[bR,bI,bP,bN,cv,cC,aM,aG,b8]at t⊢;exact t
theorem py{aC:ar}{aZ:Int}{r:ar×Int}(h:k8 aC aZ=some r):oF prog 44 [D.acc 0,D.int .i64 aZ] [(2,aC.map aL.c)] [(2,r.1.map aL.c)] (D.int .i64 r.2):=by
 refine oF.of (c:=j4 f44) func44 rfl (by decide) (by simp[f44]) rfl rfl ?_;intro hr Γ hΓ vs hvs
 match vs,hvs with
 | [dU],_=>
 have hΓ:Γ.nt=28:=hΓ;rw[k8]at h;refine(show AW prog Γ (j4 f44) (KQ prog Γ (fun _ _=>False) (qF prog f44 [dU] [(2,r.1.map aL.c)] (D.int .i64 r.2)) []) _ from ?_);refine er (n:=2000) 1 [.cn [0,1,5] [0]] (.lp (lc f44 [1,0,1,0,0]) (uO f44 [1,0,1,0]) ⟨[(0,D.acc 0),(1,D.int .i64 aZ),(5,D.int .i64 0)],[Ob.eE 2 (aC.map aL.c) (some dU)]⟩) hΓ wZ (by kernel_rfl) yP (rE (by rfl) (sP (BM hΓ (fun bf cL h=>?_) aC [] aZ (by have:=hr _ (aB (i:=0) rfl);simpa using this) h)));have h:=aJ h;subst h;exact er (n:=2000) 1 [] (.ret (D.iE [D.int .i64 cL,D.agg [D.fr 0 2 (bf.map aL.c),D.val dU]])) hΓ wZ (by kernel_rfl) yP rfl
def fJ(k1:bE->Int->Option (bE×Int)):bE->bE->Int->Option (bE×Int)
 | [],bS,ax=>(k1 bS ax)
 |bC::cE,bS,ax=>((br ax).bind fun y1=>((fO bC.shape.args (IntKind.i64.wrap (ax+1))).bind fun y3=>((k8 bC.facts y3.2).bind fun y5=>(fJ k1 cE (bS++[(⟨(⟨y1,y3.1⟩:aL),y5.1⟩:aW)]) y5.2))))
def n7(aC:bE)(aZ:Int):Option (bE×Int):=(fJ (fun(bf:bE) (cL:Int)=>(some (bf,cL))) aC [] aZ)
theorem AD{Γ:pG}(hΓ:Γ.nt=37){N:Nat->St->Prop}{dU:Value}{r:bE×Int}{k1:bE->Int->Option (bE×Int)}(dQ:∀(bf:bE) (cL:Int),k1 bf cL=some r->AW prog Γ (lc f42 [1,1]) (KQ prog Γ N (qF prog f42 [dU] [(3,r.1.map aW.c)] (D.int .i64 r.2)) (uO f42 [1,1])) ⟨[(1,D.int .i64 cL)],[Ob.eE 3 (bf.map aW.c) (some dU)]⟩):∀(rest:bE) (bS:bE) (ax:Int),bS.length+rest.length<=maxLen->fJ k1 rest bS ax=some r->Hh prog Γ (lc f42 [1,0,1,0,0]) (KQ prog Γ N (qF prog f42 [dU] [(3,r.1.map aW.c)] (D.int .i64 r.2)) (uO f42 [1,0,1,0])) (rest.length+1) ⟨[(0,D.acc 0),(1,D.int .i64 ax),(5,D.int .i64 (bS.length:Int))],[Ob.eE 3 (bS.map aW.c++rest.map aW.c) (some dU)]⟩:=by
 intro rest
 induction rest with
 |nil=>
  intro bS ax hm1 h;rw[fJ]at h;refine aO fun N1 cN cI=>?_
  have t:=Hx (N:=N) (N':=N1) (K0:=(uO f42 [1,0,1,0])) (by kernel_rfl) cN (dQ bS ax h);refine er (n:=2000) 1 [bF,.hl 0 [1] [0]] (.at_ (lc f42 [1,1]) (uO f42 [1,1]) ⟨[(1,D.int .i64 ax)],[Ob.eE 3 (bS.map aW.c++([]:bE).map aW.c) (some dU)]⟩) hΓ wZ (by kernel_rfl) (ow (show(decide (((bS.length:Int):Int)<((bS.map aW.c++([]:bE).map aW.c).length:Int)))=false from(xO _)) yP) ?_;refine rE (s:=⟨[(1,D.int .i64 ax)],[Ob.eE 3 (bS.map aW.c++([]:bE).map aW.c) (some dU)]⟩) ?_ t;simp only[bP,cB]
 |cons bC cE ih1=>
  intro bS ax hm1 h;rw[fJ]at h;refine aO fun N1 cN cI=>?_
  obtain⟨y1,h2,h⟩:=aF h;obtain⟨y3,h4,h⟩:=aF h;obtain⟨y5,h6,h⟩:=aF h;have t:=ih1 (bS++[(⟨(⟨y1,y3.1⟩:aL),y5.1⟩:aW)]) y5.2 (by simp only[aM,aG,b8]at hm1⊢;omega) h;let HM:aK:=[D.str y1,D.any,D.sl (bC.facts.map aL.c)]
  let Dc:aK:=[D.str y1,D.sl (y3.1.map tx),D.sl (bC.facts.map aL.c)]
  let Es:aK:=[D.str y1,D.sl (bC.shape.args.map tx),D.sl (bC.facts.map aL.c)]
  let HN:aK:=[D.str bC.shape.rel,D.sl (bC.shape.args.map tx),D.sl (bC.facts.map aL.c)]
  let Dd:List aK:=(bS.map aW.c++(HN::cE.map aW.c))
  let Et:List aK:=((Dd.set bS.length Es).set bS.length HM)
  refine er (n:=2000) 1 [bT,.d (D.str y1),.ix (bS.length),.row HN,.ix (bS.length),.row Es,.gv [1] [(1,y3.1.map tx)] (D.int .i64 y3.2),.mg 0 bS.length 1 HM,.ix (bS.length),.row Dc,.gv [2] [(2,y5.1.map aL.c)] (D.int .i64 y5.2),.mg 0 bS.length 2 [D.str y1,D.sl (y3.1.map tx),D.any],.cn [0,1,5] [0]] (.cont 0 ⟨[(0,D.acc 0),(1,D.int .i64 y5.2),(5,D.int .i64 (IntKind.i64.wrap ((bS.length:Int)+1)))],[Ob.eE 3 (((Et.set bS.length Dc).set bS.length [D.str y1,D.sl (y3.1.map tx),D.any]).set bS.length [D.str y1,D.sl (y3.1.map tx),D.sl (y5.1.map aL.c)]) (some dU)]⟩) hΓ wZ (by kernel_rfl) (ow (show(decide (((bS.length:Int):Int)<(Dd.length:Int)))=true from(xU _ _ _)) (ow (bV h2) (ow (show(bS.length:Int)=((bS.length:Nat):Int)/\bS.length<Dd.length from⟨rfl,by simp only[Et,Dd,HN,Es,Dc,HM,bQ,aM,ai,aG];omega⟩) (ow (show Dd[bS.length]?=some HN from by(try simp only[Et,Dd,HN,Es,Dc,HM,cU]);exact cy _ _ _) (ow (show(bS.length:Int)=((bS.length:Nat):Int)/\bS.length<(Dd.set bS.length Es).length from⟨rfl,by simp only[Et,Dd,HN,Es,Dc,HM,bQ,aM,ai,aG];omega⟩) (ow (show(Dd.set bS.length Es)[bS.length]?=some Es from by(try simp only[Et,Dd,HN,Es,Dc,HM,cU]);exact cy _ _ _) (ow (show∀q∈(bC.shape.args.map tx),q.length=1 from by simp) (ow (ij h4) (ow (show Et[bS.length]?=some HM from by(try simp only[Et,Dd,HN,Es,Dc,HM,cU]);exact cy _ _ _) (ow (show(bS.length*3+1)=bS.length*3+1 from rfl) (ow (show(bS.length:Int)=((bS.length:Nat):Int)/\bS.length<(Et.set bS.length Dc).length from⟨rfl,by simp only[Et,Dd,HN,Es,Dc,HM,bQ,aM,ai,aG];omega⟩) (ow (show(Et.set bS.length Dc)[bS.length]?=some Dc from by(try simp only[Et,Dd,HN,Es,Dc,HM,cU]);exact cy _ _ _) (ow (show∀q∈(bC.facts.map aL.c),q.length=2 from by simp) (ow (py h6) (ow (show((Et.set bS.length Dc).set bS.length [D.str y1,D.sl (y3.1.map tx),D.any])[bS.length]?=some [D.str y1,D.sl (y3.1.map tx),D.any]from by(try simp only[Et,Dd,HN,Es,Dc,HM,cU]);exact cy _ _ _) (ow (show(bS.length*3+2)=bS.length*3+2 from rfl) yP)))))))))))))))) ?_;refine(congrFun cI _).mpr ?_;rw[tZ (by simp only[aG]at hm1;omega)];simp only[Et,Dd,HN,Es,Dc,HM,cU];simp only[bR,bI,bP,bN,cv,cC,aM,aG,b8]at t⊢;exact t
theorem yw{aC:bE}{aZ:Int}{r:bE×Int}(h:n7 aC aZ=some r):oF prog 42 [D.acc 0,D.int .i64 aZ] [(3,aC.map aW.c)] [(3,r.1.map aW.c)] (D.int .i64 r.2):=by
 refine oF.of (c:=j4 f42) func42 rfl (by decide) (by simp[f42]) rfl rfl ?_;intro hr Γ hΓ vs hvs
 match vs,hvs with
 | [dU],_=>
 have hΓ:Γ.nt=37:=hΓ;rw[n7]at h;refine(show AW prog Γ (j4 f42) (KQ prog Γ (fun _ _=>False) (qF prog f42 [dU] [(3,r.1.map aW.c)] (D.int .i64 r.2)) []) _ from ?_);refine er (n:=2000) 1 [.cn [0,1,5] [0]] (.lp (lc f42 [1,0,1,0,0]) (uO f42 [1,0,1,0]) ⟨[(0,D.acc 0),(1,D.int .i64 aZ),(5,D.int .i64 0)],[Ob.eE 3 (aC.map aW.c) (some dU)]⟩) hΓ wZ (by kernel_rfl) yP (rE (by rfl) (sP (AD hΓ (fun bf cL h=>?_) aC [] aZ (by have:=hr _ (aB (i:=0) rfl);simpa using this) h)));have h:=aJ h;subst h;exact er (n:=2000) 1 [] (.ret (D.iE [D.int .i64 cL,D.agg [D.fr 0 3 (bf.map aW.c),D.val dU]])) hΓ wZ (by kernel_rfl) yP rfl
def gA(k1:aQ->Int->Option (aQ×Int)):aQ->aQ->Int->Option (aQ×Int)
 | [],bS,ax=>(k1 bS ax)
 |bC::cE,bS,ax=>((br ax).bind fun y1=>((br (IntKind.i64.wrap (ax+1))).bind fun y3=>(gA k1 cE (bS++[(⟨y1,y3⟩:aS)]) (IntKind.i64.wrap ((IntKind.i64.wrap (ax+1))+1)))))
def o6(aC:aQ)(aZ:Int):Option (aQ×Int):=(gA (fun(bf:aQ) (cL:Int)=>(some (bf,cL))) aC [] aZ)
theorem BP{Γ:pG}(hΓ:Γ.nt=29){N:Nat->St->Prop}{dU:Value}{r:aQ×Int}{k1:aQ->Int->Option (aQ×Int)}(dQ:∀(bf:aQ) (cL:Int),k1 bf cL=some r->AW prog Γ (lc f140 [1,1]) (KQ prog Γ N (qF prog f140 [dU] [(2,r.1.map aS.c)] (D.int .i64 r.2)) (uO f140 [1,1])) ⟨[(1,D.int .i64 cL)],[Ob.eE 2 (bf.map aS.c) (some dU)]⟩):∀(rest:aQ) (bS:aQ) (ax:Int),bS.length+rest.length<=maxLen->gA k1 rest bS ax=some r->Hh prog Γ (lc f140 [1,0,1,0,0]) (KQ prog Γ N (qF prog f140 [dU] [(2,r.1.map aS.c)] (D.int .i64 r.2)) (uO f140 [1,0,1,0])) (rest.length+1) ⟨[(0,D.acc 0),(1,D.int .i64 ax),(5,D.int .i64 (bS.length:Int))],[Ob.eE 2 (bS.map aS.c++rest.map aS.c) (some dU)]⟩:=by
 intro rest
 induction rest with
 |nil=>
  intro bS ax hm1 h;rw[gA]at h;refine aO fun N1 cN cI=>?_
  have t:=Hx (N:=N) (N':=N1) (K0:=(uO f140 [1,0,1,0])) (by kernel_rfl) cN (dQ bS ax h);refine er (n:=2000) 1 [bF,.hl 0 [1] [0]] (.at_ (lc f140 [1,1]) (uO f140 [1,1]) ⟨[(1,D.int .i64 ax)],[Ob.eE 2 (bS.map aS.c++([]:aQ).map aS.c) (some dU)]⟩) hΓ wZ (by kernel_rfl) (ow (show(decide (((bS.length:Int):Int)<((bS.map aS.c++([]:aQ).map aS.c).length:Int)))=false from(xO _)) yP) ?_;refine rE (s:=⟨[(1,D.int .i64 ax)],[Ob.eE 2 (bS.map aS.c++([]:aQ).map aS.c) (some dU)]⟩) ?_ t;simp only[bP,cB]
 |cons bC cE ih1=>
  intro bS ax hm1 h;rw[gA]at h;refine aO fun N1 cN cI=>?_
  obtain⟨y1,h2,h⟩:=aF h;obtain⟨y3,h4,h⟩:=aF h;have t:=ih1 (bS++[(⟨y1,y3⟩:aS)]) (IntKind.i64.wrap ((IntKind.i64.wrap (ax+1))+1)) (by simp only[aM,aG,b8]at hm1⊢;omega) h;let KZ:List aK:=(bS.map aS.c++([D.str bC.var,D.str bC.value]::cE.map aS.c))
  let Lr:List aK:=(KZ.set bS.length [D.str y1,D.str bC.value])
  refine er (n:=2000) 1 [bT,.d (D.str y1),.ix (bS.length),.row [D.str bC.var,D.str bC.value],.d (D.str y3),.ix (bS.length),.row [D.str y1,D.str bC.value],.cn [0,1,5] [0]] (.cont 0 ⟨[(0,D.acc 0),(1,D.int .i64 (IntKind.i64.wrap ((IntKind.i64.wrap (ax+1))+1))),(5,D.int .i64 (IntKind.i64.wrap ((bS.length:Int)+1)))],[Ob.eE 2 (Lr.set bS.length [D.str y1,D.str y3]) (some dU)]⟩) hΓ wZ (by kernel_rfl) (ow (show(decide (((bS.length:Int):Int)<(KZ.length:Int)))=true from(xU _ _ _)) (ow (bV h2) (ow (show(bS.length:Int)=((bS.length:Nat):Int)/\bS.length<KZ.length from⟨rfl,by simp only[Lr,KZ,bQ,aM,ai,aG];omega⟩) (ow (show KZ[bS.length]?=some [D.str bC.var,D.str bC.value]from by(try simp only[Lr,KZ,cU]);exact cy _ _ _) (ow (bV h4) (ow (show(bS.length:Int)=((bS.length:Nat):Int)/\bS.length<Lr.length from⟨rfl,by simp only[Lr,KZ,bQ,aM,ai,aG];omega⟩) (ow (show Lr[bS.length]?=some [D.str y1,D.str bC.value]from by(try simp only[Lr,KZ,cU]);exact cy _ _ _) yP))))))) ?_;refine(congrFun cI _).mpr ?_;rw[tZ (by simp only[aG]at hm1;omega)];simp only[Lr,KZ,cU];simp only[bR,bI,bP,bN,cv,cC,aM,aG,b8]at t⊢;exact t
theorem AG{aC:aQ}{aZ:Int}{r:aQ×Int}(h:o6 aC aZ=some r):oF prog 140 [D.acc 0,D.int .i64 aZ] [(2,aC.map aS.c)] [(2,r.1.map aS.c)] (D.int .i64 r.2):=by
 refine oF.of (c:=j4 f140) func140 rfl (by decide) (by simp[f140]) rfl rfl ?_;intro hr Γ hΓ vs hvs
 match vs,hvs with
 | [dU],_=>
 have hΓ:Γ.nt=29:=hΓ;rw[o6]at h;refine(show AW prog Γ (j4 f140) (KQ prog Γ (fun _ _=>False) (qF prog f140 [dU] [(2,r.1.map aS.c)] (D.int .i64 r.2)) []) _ from ?_);refine er (n:=2000) 1 [.cn [0,1,5] [0]] (.lp (lc f140 [1,0,1,0,0]) (uO f140 [1,0,1,0]) ⟨[(0,D.acc 0),(1,D.int .i64 aZ),(5,D.int .i64 0)],[Ob.eE 2 (aC.map aS.c) (some dU)]⟩) hΓ wZ (by kernel_rfl) yP (rE (by rfl) (sP (BP hΓ (fun bf cL h=>?_) aC [] aZ (by have:=hr _ (aB (i:=0) rfl);simpa using this) h)));have h:=aJ h;subst h;exact er (n:=2000) 1 [] (.ret (D.iE [D.int .i64 cL,D.agg [D.fr 0 2 (bf.map aS.c),D.val dU]])) hΓ wZ (by kernel_rfl) yP rfl
def fK(k1:bX->Int->Option (bX×Int)):bX->bX->Int->Option (bX×Int)
 | [],bS,ax=>(k1 bS ax)
 |bC::cE,bS,ax=>((k8 bC.facts ax).bind fun y1=>((o6 bC.bind y1.2).bind fun y3=>(fK k1 cE (bS++[(⟨y1.1,y3.1⟩:aq)]) y3.2)))
def n8(aC:bX)(aZ:Int):Option (bX×Int):=(fK (fun(bf:bX) (cL:Int)=>(some (bf,cL))) aC [] aZ)
theorem AH{Γ:pG}(hΓ:Γ.nt=27){N:Nat->St->Prop}{dU:Value}{r:bX×Int}{k1:bX->Int->Option (bX×Int)}(dQ:∀(bf:bX) (cL:Int),k1 bf cL=some r->AW prog Γ (lc f90 [1,1]) (KQ prog Γ N (qF prog f90 [dU] [(2,r.1.map aq.c)] (D.int .i64 r.2)) (uO f90 [1,1])) ⟨[(1,D.int .i64 cL)],[Ob.eE 2 (bf.map aq.c) (some dU)]⟩):∀(rest:bX) (bS:bX) (ax:Int),bS.length+rest.length<=maxLen->fK k1 rest bS ax=some r->Hh prog Γ (lc f90 [1,0,1,0,0]) (KQ prog Γ N (qF prog f90 [dU] [(2,r.1.map aq.c)] (D.int .i64 r.2)) (uO f90 [1,0,1,0])) (rest.length+1) ⟨[(0,D.acc 0),(1,D.int .i64 ax),(5,D.int .i64 (bS.length:Int))],[Ob.eE 2 (bS.map aq.c++rest.map aq.c) (some dU)]⟩:=by
 intro rest
 induction rest with
 |nil=>
  intro bS ax hm1 h;rw[fK]at h;refine aO fun N1 cN cI=>?_
  have t:=Hx (N:=N) (N':=N1) (K0:=(uO f90 [1,0,1,0])) (by kernel_rfl) cN (dQ bS ax h);refine er (n:=2000) 1 [bF,.hl 0 [1] [0]] (.at_ (lc f90 [1,1]) (uO f90 [1,1]) ⟨[(1,D.int .i64 ax)],[Ob.eE 2 (bS.map aq.c++([]:bX).map aq.c) (some dU)]⟩) hΓ wZ (by kernel_rfl) (ow (show(decide (((bS.length:Int):Int)<((bS.map aq.c++([]:bX).map aq.c).length:Int)))=false from(xO _)) yP) ?_;refine rE (s:=⟨[(1,D.int .i64 ax)],[Ob.eE 2 (bS.map aq.c++([]:bX).map aq.c) (some dU)]⟩) ?_ t;simp only[bP,cB]
 |cons bC cE ih1=>
  intro bS ax hm1 h;rw[fK]at h;refine aO fun N1 cN cI=>?_
  obtain⟨y1,h2,h⟩:=aF h;obtain⟨y3,h4,h⟩:=aF h;have t:=ih1 (bS++[(⟨y1.1,y3.1⟩:aq)]) y3.2 (by simp only[aM,aG,b8]at hm1⊢;omega) h;let GK:aK:=[D.sl (y1.1.map aL.c),D.sl (bC.bind.map aS.c)]
  let JU:aK:=[D.sl (bC.facts.map aL.c),D.sl (bC.bind.map aS.c)]
  let I4:List aK:=(bS.map aq.c++(JU::cE.map aq.c))
  let HO:List aK:=(I4.set bS.length [D.any,D.sl (bC.bind.map aS.c)])
  refine er (n:=2000) 1 [bT,.ix (bS.length),.row JU,.gv [1] [(2,y1.1.map aL.c)] (D.int .i64 y1.2),.mg 0 bS.length 0 [D.any,D.sl (bC.bind.map aS.c)],.ix (bS.length),.row GK,.gv [2] [(2,y3.1.map aS.c)] (D.int .i64 y3.2),.mg 0 bS.length 1 [D.sl (y1.1.map aL.c),D.any],.cn [0,1,5] [0]] (.cont 0 ⟨[(0,D.acc 0),(1,D.int .i64 y3.2),(5,D.int .i64 (IntKind.i64.wrap ((bS.length:Int)+1)))],[Ob.eE 2 (((HO.set bS.length GK).set bS.length [D.sl (y1.1.map aL.c),D.any]).set bS.length [D.sl (y1.1.map aL.c),D.sl (y3.1.map aS.c)]) (some dU)]⟩) hΓ wZ (by kernel_rfl) (ow (show(decide (((bS.length:Int):Int)<(I4.length:Int)))=true from(xU _ _ _)) (ow (show(bS.length:Int)=((bS.length:Nat):Int)/\bS.length<I4.length from⟨rfl,by simp only[HO,I4,JU,GK,bQ,aM,ai,aG];omega⟩) (ow (show I4[bS.length]?=some JU from by(try simp only[HO,I4,JU,GK,cU]);exact cy _ _ _) (ow (show∀q∈(bC.facts.map aL.c),q.length=2 from by simp) (ow (py h2) (ow (show HO[bS.length]?=some [D.any,D.sl (bC.bind.map aS.c)]from by(try simp only[HO,I4,JU,GK,cU]);exact cy _ _ _) (ow (show(bS.length*2+0)=bS.length*2+0 from rfl) (ow (show(bS.length:Int)=((bS.length:Nat):Int)/\bS.length<(HO.set bS.length GK).length from⟨rfl,by simp only[HO,I4,JU,GK,bQ,aM,ai,aG];omega⟩) (ow (show(HO.set bS.length GK)[bS.length]?=some GK from by(try simp only[HO,I4,JU,GK,cU]);exact cy _ _ _) (ow (show∀q∈(bC.bind.map aS.c),q.length=2 from by simp) (ow (AG h4) (ow (show((HO.set bS.length GK).set bS.length [D.sl (y1.1.map aL.c),D.any])[bS.length]?=some [D.sl (y1.1.map aL.c),D.any]from by(try simp only[HO,I4,JU,GK,cU]);exact cy _ _ _) (ow (show(bS.length*2+1)=bS.length*2+1 from rfl) yP))))))))))))) ?_;refine(congrFun cI _).mpr ?_;rw[tZ (by simp only[aG]at hm1;omega)];simp only[HO,I4,JU,GK,cU];simp only[bR,bI,bP,bN,cv,cC,aM,aG,b8]at t⊢;exact t
theorem yz{aC:bX}{aZ:Int}{r:bX×Int}(h:n8 aC aZ=some r):oF prog 90 [D.acc 0,D.int .i64 aZ] [(2,aC.map aq.c)] [(2,r.1.map aq.c)] (D.int .i64 r.2):=by
 refine oF.of (c:=j4 f90) func90 rfl (by decide) (by simp[f90]) rfl rfl ?_;intro hr Γ hΓ vs hvs
 match vs,hvs with
 | [dU],_=>
 have hΓ:Γ.nt=27:=hΓ;rw[n8]at h;refine(show AW prog Γ (j4 f90) (KQ prog Γ (fun _ _=>False) (qF prog f90 [dU] [(2,r.1.map aq.c)] (D.int .i64 r.2)) []) _ from ?_);refine er (n:=2000) 1 [.cn [0,1,5] [0]] (.lp (lc f90 [1,0,1,0,0]) (uO f90 [1,0,1,0]) ⟨[(0,D.acc 0),(1,D.int .i64 aZ),(5,D.int .i64 0)],[Ob.eE 2 (aC.map aq.c) (some dU)]⟩) hΓ wZ (by kernel_rfl) yP (rE (by rfl) (sP (AH hΓ (fun bf cL h=>?_) aC [] aZ (by have:=hr _ (aB (i:=0) rfl);simpa using this) h)));have h:=aJ h;subst h;exact er (n:=2000) 1 [] (.ret (D.iE [D.int .i64 cL,D.agg [D.fr 0 2 (bf.map aq.c),D.val dU]])) hΓ wZ (by kernel_rfl) yP rfl
def fy(k1:bB->Int->Option (bB×Int)):bB->bB->Int->Option (bB×Int)
 | [],bS,ax=>(k1 bS ax)
 |bC::cE,bS,ax=>((br (IntKind.i64.wrap ((IntKind.i64.wrap (ax+1))+1))).bind fun y1=>((fO bC.cond.pat.args (IntKind.i64.wrap ((IntKind.i64.wrap ((IntKind.i64.wrap (ax+1))+1))+1))).bind fun y3=>((br y3.2).bind fun y5=>((br (IntKind.i64.wrap (y3.2+1))).bind fun y7=>((n8 bC.tokens (IntKind.i64.wrap ((IntKind.i64.wrap ((IntKind.i64.wrap (y3.2+1))+1))+1))).bind fun y9=>(fy k1 cE (bS++[(⟨ax,(⟨IntKind.i64.wrap (ax+1),(⟨y1,y3.1⟩:aL),y5,y7⟩:aI),IntKind.i64.wrap ((IntKind.i64.wrap (y3.2+1))+1),y9.1⟩:Node)]) y9.2))))))
def o5(aC:bB)(aZ:Int):Option (bB×Int):=(fy (fun(bf:bB) (cL:Int)=>(some (bf,cL))) aC [] aZ)
theorem BO{Γ:pG}(hΓ:Γ.nt=79){N:Nat->St->Prop}{dU:Value}{r:bB×Int}{k1:bB->Int->Option (bB×Int)}(dQ:∀(bf:bB) (cL:Int),k1 bf cL=some r->AW prog Γ (lc f43 [1,1]) (KQ prog Γ N (qF prog f43 [dU] [(8,r.1.map Node.c)] (D.int .i64 r.2)) (uO f43 [1,1])) ⟨[(1,D.int .i64 cL)],[Ob.eE 8 (bf.map Node.c) (some dU)]⟩):∀(rest:bB) (bS:bB) (ax:Int),bS.length+rest.length<=maxLen->fy k1 rest bS ax=some r->Hh prog Γ (lc f43 [1,0,1,0,0]) (KQ prog Γ N (qF prog f43 [dU] [(8,r.1.map Node.c)] (D.int .i64 r.2)) (uO f43 [1,0,1,0])) (rest.length+1) ⟨[(0,D.acc 0),(1,D.int .i64 ax),(5,D.int .i64 (bS.length:Int))],[Ob.eE 8 (bS.map Node.c++rest.map Node.c) (some dU)]⟩:=by
 intro rest
 induction rest with
 |nil=>
  intro bS ax hm1 h;rw[fy]at h;refine aO fun N1 cN cI=>?_
  have t:=Hx (N:=N) (N':=N1) (K0:=(uO f43 [1,0,1,0])) (by kernel_rfl) cN (dQ bS ax h);refine er (n:=2000) 1 [bF,.hl 0 [1] [0]] (.at_ (lc f43 [1,1]) (uO f43 [1,1]) ⟨[(1,D.int .i64 ax)],[Ob.eE 8 (bS.map Node.c++([]:bB).map Node.c) (some dU)]⟩) hΓ wZ (by kernel_rfl) (ow (show(decide (((bS.length:Int):Int)<((bS.map Node.c++([]:bB).map Node.c).length:Int)))=false from(xO _)) yP) ?_;refine rE (s:=⟨[(1,D.int .i64 ax)],[Ob.eE 8 (bS.map Node.c++([]:bB).map Node.c) (some dU)]⟩) ?_ t;simp only[bP,cB]
 |cons bC cE ih1=>
  intro bS ax hm1 h;rw[fy]at h;refine aO fun N1 cN cI=>?_
  obtain⟨y1,h2,h⟩:=aF h;obtain⟨y3,h4,h⟩:=aF h;obtain⟨y5,h6,h⟩:=aF h;obtain⟨y7,h8,h⟩:=aF h;obtain⟨y9,h10,h⟩:=aF h;have t:=ih1 (bS++[(⟨ax,(⟨IntKind.i64.wrap (ax+1),(⟨y1,y3.1⟩:aL),y5,y7⟩:aI),IntKind.i64.wrap ((IntKind.i64.wrap (y3.2+1))+1),y9.1⟩:Node)]) y9.2 (by simp only[aM,aG,b8]at hm1⊢;omega) h;let wh:aK:=[D.int .i64 ax,D.int .i64 (IntKind.i64.wrap (ax+1)),D.str y1,D.sl (y3.1.map tx),D.str y5,D.str y7,D.int .i64 bC.oU,D.sl (bC.tokens.map aq.c)]
  let vh:aK:=[D.int .i64 ax,D.int .i64 (IntKind.i64.wrap (ax+1)),D.str y1,D.any,D.str bC.cond.left,D.str bC.cond.right,D.int .i64 bC.oU,D.sl (bC.tokens.map aq.c)]
  let vF:aK:=[D.int .i64 ax,D.int .i64 (IntKind.i64.wrap (ax+1)),D.str y1,D.sl (y3.1.map tx),D.str y5,D.str bC.cond.right,D.int .i64 bC.oU,D.sl (bC.tokens.map aq.c)]
  let wi:aK:=[D.int .i64 ax,D.int .i64 (IntKind.i64.wrap (ax+1)),D.str y1,D.sl (y3.1.map tx),D.str bC.cond.left,D.str bC.cond.right,D.int .i64 bC.oU,D.sl (bC.tokens.map aq.c)]
  let vi:aK:=[D.int .i64 ax,D.int .i64 (IntKind.i64.wrap (ax+1)),D.str y1,D.sl (y3.1.map tx),D.str y5,D.str y7,D.int .i64 (IntKind.i64.wrap ((IntKind.i64.wrap (y3.2+1))+1)),D.any]
  let wj:aK:=[D.int .i64 ax,D.int .i64 bC.cond.kind,D.str bC.cond.pat.rel,D.sl (bC.cond.pat.args.map tx),D.str bC.cond.left,D.str bC.cond.right,D.int .i64 bC.oU,D.sl (bC.tokens.map aq.c)]
  let wk:aK:=[D.int .i64 ax,D.int .i64 (IntKind.i64.wrap (ax+1)),D.str y1,D.sl (bC.cond.pat.args.map tx),D.str bC.cond.left,D.str bC.cond.right,D.int .i64 bC.oU,D.sl (bC.tokens.map aq.c)]
  let uT:aK:=[D.int .i64 bC.parent,D.int .i64 bC.cond.kind,D.str bC.cond.pat.rel,D.sl (bC.cond.pat.args.map tx),D.str bC.cond.left,D.str bC.cond.right,D.int .i64 bC.oU,D.sl (bC.tokens.map aq.c)]
  let vG:List aK:=((bS.map Node.c++(uT::cE.map Node.c)).set bS.length wj)
  let uU:aK:=[D.int .i64 ax,D.int .i64 (IntKind.i64.wrap (ax+1)),D.str y1,D.sl (y3.1.map tx),D.str y5,D.str y7,D.int .i64 (IntKind.i64.wrap ((IntKind.i64.wrap (y3.2+1))+1)),D.sl (bC.tokens.map aq.c)]
  let vH:aK:=[D.int .i64 ax,D.int .i64 (IntKind.i64.wrap (ax+1)),D.str bC.cond.pat.rel,D.sl (bC.cond.pat.args.map tx),D.str bC.cond.left,D.str bC.cond.right,D.int .i64 bC.oU,D.sl (bC.tokens.map aq.c)]
  let vl:List aK:=((vG.set bS.length vH).set bS.length wk)
  let vI:List aK:=((vl.set bS.length vh).set bS.length wi)
  let uV:List aK:=((vI.set bS.length vF).set bS.length wh)
  refine er (n:=2000) 1 [bT,.ix (bS.length),.row uT,.ix (bS.length),.row wj,.d (D.str y1),.ix (bS.length),.row vH,.ix (bS.length),.row wk,.gv [1] [(1,y3.1.map tx)] (D.int .i64 y3.2),.mg 0 bS.length 3 vh,.d (D.str y5),.ix (bS.length),.row wi,.d (D.str y7),.ix (bS.length),.row vF,.ix (bS.length),.row wh,.ix (bS.length),.row uU,.gv [2] [(2,y9.1.map aq.c)] (D.int .i64 y9.2),.mg 0 bS.length 7 vi,.cn [0,1,5] [0]] (.cont 0 ⟨[(0,D.acc 0),(1,D.int .i64 y9.2),(5,D.int .i64 (IntKind.i64.wrap ((bS.length:Int)+1)))],[Ob.eE 8 (((uV.set bS.length uU).set bS.length vi).set bS.length [D.int .i64 ax,D.int .i64 (IntKind.i64.wrap (ax+1)),D.str y1,D.sl (y3.1.map tx),D.str y5,D.str y7,D.int .i64 (IntKind.i64.wrap ((IntKind.i64.wrap (y3.2+1))+1)),D.sl (y9.1.map aq.c)]) (some dU)]⟩) hΓ wZ (by kernel_rfl) (ow (show(decide (((bS.length:Int):Int)<((bS.map Node.c++(uT::cE.map Node.c)).length:Int)))=true from(xU _ _ _)) (ow (show(bS.length:Int)=((bS.length:Nat):Int)/\bS.length<(bS.map Node.c++(uT::cE.map Node.c)).length from⟨rfl,by simp only[uV,vI,vl,vH,uU,vG,uT,wk,wj,vi,wi,vF,vh,wh,bQ,aM,ai,aG];omega⟩) (ow (show(bS.map Node.c++(uT::cE.map Node.c))[bS.length]?=some uT from by(try simp only[uV,vI,vl,vH,uU,vG,uT,wk,wj,vi,wi,vF,vh,wh,cU]);exact cy _ _ _) (ow (show(bS.length:Int)=((bS.length:Nat):Int)/\bS.length<vG.length from⟨rfl,by simp only[uV,vI,vl,vH,uU,vG,uT,wk,wj,vi,wi,vF,vh,wh,bQ,aM,ai,aG];omega⟩) (ow (show vG[bS.length]?=some wj from by(try simp only[uV,vI,vl,vH,uU,vG,uT,wk,wj,vi,wi,vF,vh,wh,cU]);exact cy _ _ _) (ow (bV h2) (ow (show(bS.length:Int)=((bS.length:Nat):Int)/\bS.length<(vG.set bS.length vH).length from⟨rfl,by simp only[uV,vI,vl,vH,uU,vG,uT,wk,wj,vi,wi,vF,vh,wh,bQ,aM,ai,aG];omega⟩) (ow (show(vG.set bS.length vH)[bS.length]?=some vH from by(try simp only[uV,vI,vl,vH,uU,vG,uT,wk,wj,vi,wi,vF,vh,wh,cU]);exact cy _ _ _) (ow (show(bS.length:Int)=((bS.length:Nat):Int)/\bS.length<vl.length from⟨rfl,by simp only[uV,vI,vl,vH,uU,vG,uT,wk,wj,vi,wi,vF,vh,wh,bQ,aM,ai,aG];omega⟩) (ow (show vl[bS.length]?=some wk from by(try simp only[uV,vI,vl,vH,uU,vG,uT,wk,wj,vi,wi,vF,vh,wh,cU]);exact cy _ _ _) (ow (show∀q∈(bC.cond.pat.args.map tx),q.length=1 from by simp) (ow (ij h4) (ow (show(vl.set bS.length vh)[bS.length]?=some vh from by(try simp only[uV,vI,vl,vH,uU,vG,uT,wk,wj,vi,wi,vF,vh,wh,cU]);exact cy _ _ _) (ow (show(bS.length*8+3)=bS.length*8+3 from rfl) (ow (bV h6) (ow (show(bS.length:Int)=((bS.length:Nat):Int)/\bS.length<vI.length from⟨rfl,by simp only[uV,vI,vl,vH,uU,vG,uT,wk,wj,vi,wi,vF,vh,wh,bQ,aM,ai,aG];omega⟩) (ow (show vI[bS.length]?=some wi from by(try simp only[uV,vI,vl,vH,uU,vG,uT,wk,wj,vi,wi,vF,vh,wh,cU]);exact cy _ _ _) (ow (bV h8) (ow (show(bS.length:Int)=((bS.length:Nat):Int)/\bS.length<(vI.set bS.length vF).length from⟨rfl,by simp only[uV,vI,vl,vH,uU,vG,uT,wk,wj,vi,wi,vF,vh,wh,bQ,aM,ai,aG];omega⟩) (ow (show(vI.set bS.length vF)[bS.length]?=some vF from by(try simp only[uV,vI,vl,vH,uU,vG,uT,wk,wj,vi,wi,vF,vh,wh,cU]);exact cy _ _ _) (ow (show(bS.length:Int)=((bS.length:Nat):Int)/\bS.length<uV.length from⟨rfl,by simp only[uV,vI,vl,vH,uU,vG,uT,wk,wj,vi,wi,vF,vh,wh,bQ,aM,ai,aG];omega⟩) (ow (show uV[bS.length]?=some wh from by(try simp only[uV,vI,vl,vH,uU,vG,uT,wk,wj,vi,wi,vF,vh,wh,cU]);exact cy _ _ _) (ow (show(bS.length:Int)=((bS.length:Nat):Int)/\bS.length<(uV.set bS.length uU).length from⟨rfl,by simp only[uV,vI,vl,vH,uU,vG,uT,wk,wj,vi,wi,vF,vh,wh,bQ,aM,ai,aG];omega⟩) (ow (show(uV.set bS.length uU)[bS.length]?=some uU from by(try simp only[uV,vI,vl,vH,uU,vG,uT,wk,wj,vi,wi,vF,vh,wh,cU]);exact cy _ _ _) (ow (show∀q∈(bC.tokens.map aq.c),q.length=2 from by simp) (ow (yz h10) (ow (show((uV.set bS.length uU).set bS.length vi)[bS.length]?=some vi from by(try simp only[uV,vI,vl,vH,uU,vG,uT,wk,wj,vi,wi,vF,vh,wh,cU]);exact cy _ _ _) (ow (show(bS.length*8+7)=bS.length*8+7 from rfl) yP)))))))))))))))))))))))))))) ?_;refine(congrFun cI _).mpr ?_;rw[tZ (by simp only[aG]at hm1;omega)];simp only[uV,vI,vl,vH,uU,vG,uT,wk,wj,vi,wi,vF,vh,wh,cU];simp only[bR,bI,bP,bN,cv,cC,aM,aG,b8]at t⊢
  exact t
theorem AF{aC:bB}{aZ:Int}{r:bB×Int}(h:o5 aC aZ=some r):oF prog 43 [D.acc 0,D.int .i64 aZ] [(8,aC.map Node.c)] [(8,r.1.map Node.c)] (D.int .i64 r.2):=by
 refine oF.of (c:=j4 f43) func43 rfl (by decide) (by simp[f43]) rfl rfl ?_;intro hr Γ hΓ vs hvs
 match vs,hvs with
 | [dU],_=>
 have hΓ:Γ.nt=79:=hΓ;rw[o5]at h;refine(show AW prog Γ (j4 f43) (KQ prog Γ (fun _ _=>False) (qF prog f43 [dU] [(8,r.1.map Node.c)] (D.int .i64 r.2)) []) _ from ?_);refine er (n:=2000) 1 [.cn [0,1,5] [0]] (.lp (lc f43 [1,0,1,0,0]) (uO f43 [1,0,1,0]) ⟨[(0,D.acc 0),(1,D.int .i64 aZ),(5,D.int .i64 0)],[Ob.eE 8 (aC.map Node.c) (some dU)]⟩) hΓ wZ (by kernel_rfl) yP (rE (by rfl) (sP (BO hΓ (fun bf cL h=>?_) aC [] aZ (by have:=hr _ (aB (i:=0) rfl);simpa using this) h)));have h:=aJ h;subst h;exact er (n:=2000) 1 [] (.ret (D.iE [D.int .i64 cL,D.agg [D.fr 0 8 (bf.map Node.c),D.val dU]])) hΓ wZ (by kernel_rfl) yP rfl
def mE(aC:aR)(aZ:Int):Option (aR×Int):=((lY aC.rules aZ).bind fun y1=>((oo aC.ends y1.2).bind fun y3=>((n7 aC.bU y3.2).bind fun y5=>((o5 aC.nodes y5.2).bind fun y7=>((k8 aC.facts y7.2).bind fun y9=>(some ((⟨y1.1,y3.1,y5.1,y7.1,y9.1,aC.cu⟩:aR),y9.2)))))))
theorem yB{aC:aR}{aZ:Int}{r:aR×Int}(h:mE aC aZ=some r):oF prog 17 [D.agg [D.acc 0,D.acc 1,D.acc 2,D.acc 3,D.acc 4,D.int .i64 aC.cu],D.int .i64 aZ] [(4,aC.rules.map aH.c),(1,aC.ends.map jd),(3,aC.bU.map aW.c),(8,aC.nodes.map Node.c),(2,aC.facts.map aL.c)] [(4,r.1.rules.map aH.c),(1,r.1.ends.map jd),(3,r.1.bU.map aW.c),(8,r.1.nodes.map Node.c),(2,r.1.facts.map aL.c)] (D.int .i64 r.2):=by
 refine oF.of (c:=j4 f17) func17 rfl (by decide) (by simp[f17]) rfl rfl ?_;intro hr Γ hΓ vs hvs
 match vs,hvs with
 | [dU,v1_,v2_,v3_,v4_],_=>
 have hΓ:Γ.nt=26:=hΓ;rw[mE]at h;refine(show AW prog Γ (j4 f17) (KQ prog Γ (fun _ _=>False) (qF prog f17 [dU,v1_,v2_,v3_,v4_] [(4,r.1.rules.map aH.c),(1,r.1.ends.map jd),(3,r.1.bU.map aW.c),(8,r.1.nodes.map Node.c),(2,r.1.facts.map aL.c)] (D.int .i64 r.2)) []) _ from ?_);obtain⟨y1,h2,h⟩:=aF h;obtain⟨y3,h4,h⟩:=aF h;obtain⟨y5,h6,h⟩:=aF h;obtain⟨y7,h8,h⟩:=aF h;obtain⟨y9,h10,h⟩:=aF h;have h:=aJ h;subst h;exact er (n:=2000) 5 [.gv [0] [(4,y1.1.map aH.c)] (D.int .i64 y1.2),.gv [1] [(1,y3.1.map jd)] (D.int .i64 y3.2),.gv [2] [(3,y5.1.map aW.c)] (D.int .i64 y5.2),.gv [3] [(8,y7.1.map Node.c)] (D.int .i64 y7.2),.gv [4] [(2,y9.1.map aL.c)] (D.int .i64 y9.2)] (.ret (D.iE [D.int .i64 y9.2,D.agg [D.fr 0 4 (y1.1.map aH.c),D.val dU],D.agg [D.fr 0 1 (y3.1.map jd),D.val v1_],D.agg [D.fr 0 3 (y5.1.map aW.c),D.val v2_],D.agg [D.fr 0 8 (y7.1.map Node.c),D.val v3_],D.agg [D.fr 0 2 (y9.1.map aL.c),D.val v4_]])) hΓ wZ (by kernel_rfl) (ow (tH h2) (ow (BN h4) (ow (yw h6) (ow (AF h8) (ow (py h10) yP))))) rfl
end Go.Cx
namespace Go.Cx
open Go.RowKit Go.Proofs Tryz
set_option maxRecDepth 100000
variable{Γ:pG}{N:Nat->St->Prop}
def eT(aC:aE)(k1:Int->Option Int):aE->Nat->Int->Option Int
 | [],i1,ax=>(k1 ax)
 |bC::cE,i1,ax=>((br ax).bind fun RI=>(bif !((bC:Bytes)==RI)then(some (-1))else(eT aC k1 cE (i1+1) (IntKind.i64.wrap (ax+1)))))
def fN(aC:aE)(aZ:Int):Option Int:=(eT aC (fun(cL:Int)=>(some cL)) aC 0 aZ)
def AA(aC:aE)(ax:Int)(dM:Int):St:=⟨[(0,D.sl (aC.map tx)),(1,D.int .i64 ax),(5,D.int .i64 dM)],[]⟩
theorem yq(hΓ:Γ.nt=22){aC:aE}{r:Int}{k1:Int->Option Int}(dQ:∀(cL:Int),k1 cL=some r->Ax Γ N f93 (.q [[none]] (D.int .i64 r)) [1,1] ⟨[(1,D.int .i64 cL)],[]⟩)(hm1:aC.length<=maxLen):∀(rest:aE) (i1:Nat) (ax:Int),aC.drop i1=rest->eT aC k1 rest i1 ax=some r->Ar Γ N f93 (.q [[none]] (D.int .i64 r)) [1,0,1,0] (rest.length+1) (AA aC ax (i1:Int)):=by
 intro rest
 induction rest with
 |nil=>
  intro i1 ax b7 h;rw[eT]at h;refine aO fun N1 cN cI=>?_
  exact((aT.ge tx b7).a [.hl 0 [1] []]).ex hΓ cN (dQ ax h)
 |cons bC cE ih1=>
  intro i1 ax b7 h;rw[eT]at h;refine aO fun N1 cN cI=>?_
  obtain⟨RI,h22,h⟩:=aF h;have gJ:=((((aT.lt tx b7).a [.n 6]).l (bD tx 1 (dc b7) rfl)).g (bV h22))
  obtain⟨h23,h⟩|⟨h23,h⟩:=aN h
  ·cases h;exact(gJ.b h23).ret hΓ
  ·exact((gJ.b h23).a [.cn [0,1,5] []]).ct hΓ cI (iS b7 hm1) (ih1 (i1+1) (IntKind.i64.wrap (ax+1)) (dn b7) h)
theorem ig{aC:aE}{aZ:Int}{r:Int}(h:fN aC aZ=some r):Good prog 93 [D.sl (aC.map tx),D.int .i64 aZ] (D.int .i64 r):=by
 refine gd func93 [[none]] 22 fun hr Γ hΓ=>?_
 rw[fN]at h;refine(aT.a [.cn [0,1,5] []]).lp hΓ (yq hΓ (fun cL h=>?_) (by have:=(gm.sl (hr _ (aB (i:=0) rfl))).1;simpa using this) aC 0 aZ rfl h);have h:=aJ h;subst h;exact aT.ret hΓ
def ff(aC:aY)(k1:Int->Option Int):aY->Nat->Int->Option Int
 | [],i1,ax=>(k1 ax)
 |bC::cE,i1,ax=>(bif (bC.kind:Int) != ax then(some (-1))else((br (IntKind.i64.wrap (ax+1))).bind fun y62=>(bif !((bC.pat.rel:Bytes)==y62)then(some (-1))else((fN bC.pat.args (IntKind.i64.wrap ((IntKind.i64.wrap (ax+1))+1))).bind fun ZB=>(bif decide ((ZB:Int)<0)then(some (-1))else((br ZB).bind fun y68=>(bif !((bC.left:Bytes)==y68)then(some (-1))else((br (IntKind.i64.wrap (ZB+1))).bind fun y71=>(bif !((bC.right:Bytes)==y71)then(some (-1))else(ff aC k1 cE (i1+1) (IntKind.i64.wrap ((IntKind.i64.wrap (ZB+1))+1))))))))))))
def nv(aC:aY)(aZ:Int):Option Int:=(ff aC (fun(cL:Int)=>(some cL)) aC 0 aZ)
def Cm(aC:aY)(ax:Int)(dM:Int):St:=⟨[(0,D.sl (aC.map aI.c)),(1,D.int .i64 ax),(5,D.int .i64 dM)],[]⟩
theorem BE(hΓ:Γ.nt=63){aC:aY}{r:Int}{k1:Int->Option Int}(dQ:∀(cL:Int),k1 cL=some r->Ax Γ N f91 (.q [[none]] (D.int .i64 r)) [1,1] ⟨[(1,D.int .i64 cL)],[]⟩)(hm1:aC.length<=maxLen):∀(rest:aY) (i1:Nat) (ax:Int),aC.drop i1=rest->ff aC k1 rest i1 ax=some r->Ar Γ N f91 (.q [[none]] (D.int .i64 r)) [1,0,1,0] (rest.length+1) (Cm aC ax (i1:Int)):=by
 intro rest
 induction rest with
 |nil=>
  intro i1 ax b7 h;rw[ff]at h;refine aO fun N1 cN cI=>?_
  exact((aT.ge aI.c b7).a [.hl 0 [1] []]).ex hΓ cN (dQ ax h)
 |cons bC cE ih1=>
  intro i1 ax b7 h;rw[ff]at h;refine aO fun N1 cN cI=>?_
  have xh:=((aT.lt aI.c b7).l (bD aI.c 5 (dc b7) rfl))
  obtain⟨h61,h⟩|⟨h61,h⟩:=aN h
  ·cases h;exact(xh.b h61).ret hΓ
  ·obtain⟨y62,h63,h⟩:=aF h;have EY:=((((xh.b h61).a [.n 8]).l (bD aI.c 5 (dc b7) rfl)).g (bV h63))
   obtain⟨h64,h⟩|⟨h64,h⟩:=aN h
   ·cases h;exact(EY.b h64).ret hΓ
   ·obtain⟨ZB,h66,h⟩:=aF h;have Iz:=(((EY.b h64).l (bD aI.c 5 (dc b7) rfl)).g (ig h66))
    obtain⟨h67,h⟩|⟨h67,h⟩:=aN h
    ·cases h;exact(Iz.b h67).ret hΓ
    ·obtain⟨y68,h69,h⟩:=aF h;have Ji:=((((Iz.b h67).a [.n 7]).l (bD aI.c 5 (dc b7) rfl)).g (bV h69))
     obtain⟨h70,h⟩|⟨h70,h⟩:=aN h
     ·cases h;exact(Ji.b h70).ret hΓ
     ·obtain⟨y71,h72,h⟩:=aF h;have C0:=((((Ji.b h70).a [.n 7]).l (bD aI.c 5 (dc b7) rfl)).g (bV h72))
      obtain⟨h73,h⟩|⟨h73,h⟩:=aN h
      ·cases h;exact(C0.b h73).ret hΓ
      ·exact((C0.b h73).a [.cn [0,1,5] []]).ct hΓ cI (iS b7 hm1) (ih1 (i1+1) (IntKind.i64.wrap ((IntKind.i64.wrap (ZB+1))+1)) (dn b7) h)
theorem A7{aC:aY}{aZ:Int}{r:Int}(h:nv aC aZ=some r):Good prog 91 [D.sl (aC.map aI.c),D.int .i64 aZ] (D.int .i64 r):=by
 refine gd func91 [[none]] 63 fun hr Γ hΓ=>?_
 rw[nv]at h;refine(aT.a [.cn [0,1,5] []]).lp hΓ (BE hΓ (fun cL h=>?_) (by have:=(gm.sl (hr _ (aB (i:=0) rfl))).1;simpa using this) aC 0 aZ rfl h);have h:=aJ h;subst h;exact aT.ret hΓ
def eS(aC:bh)(k1:Int->Option Int):bh->Nat->Int->Option Int
 | [],i1,ax=>(k1 ax)
 |bC::cE,i1,ax=>(bif (bC.kind:Int) != ax then(some (-1))else((br (IntKind.i64.wrap (ax+1))).bind fun Hu=>(bif !((bC.pat.rel:Bytes)==Hu)then(some (-1))else((fN bC.pat.args (IntKind.i64.wrap ((IntKind.i64.wrap (ax+1))+1))).bind fun xk=>(bif decide ((xk:Int)<0)then(some (-1))else(eS aC k1 cE (i1+1) xk))))))
def mC(aC:bh)(aZ:Int):Option Int:=(eS aC (fun(cL:Int)=>(some cL)) aC 0 aZ)
def A5(aC:bh)(ax:Int)(dM:Int):St:=⟨[(0,D.sl (aC.map Action.c)),(1,D.int .i64 ax),(5,D.int .i64 dM)],[]⟩
theorem yo(hΓ:Γ.nt=43){aC:bh}{r:Int}{k1:Int->Option Int}(dQ:∀(cL:Int),k1 cL=some r->Ax Γ N f92 (.q [[none]] (D.int .i64 r)) [1,1] ⟨[(1,D.int .i64 cL)],[]⟩)(hm1:aC.length<=maxLen):∀(rest:bh) (i1:Nat) (ax:Int),aC.drop i1=rest->eS aC k1 rest i1 ax=some r->Ar Γ N f92 (.q [[none]] (D.int .i64 r)) [1,0,1,0] (rest.length+1) (A5 aC ax (i1:Int)):=by
 intro rest
 induction rest with
 |nil=>
  intro i1 ax b7 h;rw[eS]at h;refine aO fun N1 cN cI=>?_
  exact((aT.ge Action.c b7).a [.hl 0 [1] []]).ex hΓ cN (dQ ax h)
 |cons bC cE ih1=>
  intro i1 ax b7 h;rw[eS]at h;refine aO fun N1 cN cI=>?_
  have nS:=((aT.lt Action.c b7).l (bD Action.c 3 (dc b7) rfl))
  obtain⟨h37,h⟩|⟨h37,h⟩:=aN h
  ·cases h;exact(nS.b h37).ret hΓ
  ·obtain⟨Hu,h39,h⟩:=aF h;have vB:=((((nS.b h37).a [.n 8]).l (bD Action.c 3 (dc b7) rfl)).g (bV h39))
   obtain⟨h40,h⟩|⟨h40,h⟩:=aN h
   ·cases h;exact(vB.b h40).ret hΓ
   ·obtain⟨xk,h42,h⟩:=aF h;have xh:=(((vB.b h40).l (bD Action.c 3 (dc b7) rfl)).g (ig h42))
    obtain⟨h43,h⟩|⟨h43,h⟩:=aN h
    ·cases h;exact(xh.b h43).ret hΓ
    ·exact((xh.b h43).a [.cn [0,1,5] []]).ct hΓ cI (iS b7 hm1) (ih1 (i1+1) xk (dn b7) h)
theorem xz{aC:bh}{aZ:Int}{r:Int}(h:mC aC aZ=some r):Good prog 92 [D.sl (aC.map Action.c),D.int .i64 aZ] (D.int .i64 r):=by
 refine gd func92 [[none]] 43 fun hr Γ hΓ=>?_
 rw[mC]at h;refine(aT.a [.cn [0,1,5] []]).lp hΓ (yo hΓ (fun cL h=>?_) (by have:=(gm.sl (hr _ (aB (i:=0) rfl))).1;simpa using this) aC 0 aZ rfl h);have h:=aJ h;subst h;exact aT.ret hΓ
def fp(aC:af)(k1:Int->Option Int):af->Nat->Int->Option Int
 | [],i1,ax=>(k1 ax)
 |bC::cE,i1,ax=>((br ax).bind fun Gs=>(bif !((bC.name:Bytes)==Gs)then(some (-1))else(bif (bC.prio:Int) != (IntKind.i64.wrap (ax+1))then(some (-1))else((nv bC.conds (IntKind.i64.wrap ((IntKind.i64.wrap (ax+1))+1))).bind fun WG=>(bif decide ((WG:Int)<0)then(some (-1))else((mC bC.cc WG).bind fun UK=>(bif decide ((UK:Int)<0)then(some (-1))else(fp aC k1 cE (i1+1) UK))))))))
def ny(aC:af)(aZ:Int):Option Int:=(fp aC (fun(cL:Int)=>(some cL)) aC 0 aZ)
def Cs(aC:af)(ax:Int)(dM:Int):St:=⟨[(0,D.sl (aC.map aH.c)),(1,D.int .i64 ax),(5,D.int .i64 dM)],[]⟩
theorem BJ(hΓ:Γ.nt=50){aC:af}{r:Int}{k1:Int->Option Int}(dQ:∀(cL:Int),k1 cL=some r->Ax Γ N f45 (.q [[none]] (D.int .i64 r)) [1,1] ⟨[(1,D.int .i64 cL)],[]⟩)(hm1:aC.length<=maxLen):∀(rest:af) (i1:Nat) (ax:Int),aC.drop i1=rest->fp aC k1 rest i1 ax=some r->Ar Γ N f45 (.q [[none]] (D.int .i64 r)) [1,0,1,0] (rest.length+1) (Cs aC ax (i1:Int)):=by
 intro rest
 induction rest with
 |nil=>
  intro i1 ax b7 h;rw[fp]at h;refine aO fun N1 cN cI=>?_
  exact((aT.ge aH.c b7).a [.hl 0 [1] []]).ex hΓ cN (dQ ax h)
 |cons bC cE ih1=>
  intro i1 ax b7 h;rw[fp]at h;refine aO fun N1 cN cI=>?_
  obtain⟨Gs,h50,h⟩:=aF h;have vB:=((((aT.lt aH.c b7).a [.n 7]).l (bD aH.c 4 (dc b7) rfl)).g (bV h50))
  obtain⟨h51,h⟩|⟨h51,h⟩:=aN h
  ·cases h;exact(vB.b h51).ret hΓ
  ·have xh:=((vB.b h51).l (bD aH.c 4 (dc b7) rfl))
   obtain⟨h52,h⟩|⟨h52,h⟩:=aN h
   ·cases h;exact(xh.b h52).ret hΓ
   ·obtain⟨WG,h54,h⟩:=aF h;have EY:=(((xh.b h52).l (bD aH.c 4 (dc b7) rfl)).g (A7 h54))
    obtain⟨h55,h⟩|⟨h55,h⟩:=aN h
    ·cases h;exact(EY.b h55).ret hΓ
    ·obtain⟨UK,h57,h⟩:=aF h;have Iz:=(((EY.b h55).l (bD aH.c 4 (dc b7) rfl)).g (xz h57))
     obtain⟨h58,h⟩|⟨h58,h⟩:=aN h
     ·cases h;exact(Iz.b h58).ret hΓ
     ·exact((Iz.b h58).a [.cn [0,1,5] []]).ct hΓ cI (iS b7 hm1) (ih1 (i1+1) UK (dn b7) h)
theorem tG{aC:af}{aZ:Int}{r:Int}(h:ny aC aZ=some r):Good prog 45 [D.sl (aC.map aH.c),D.int .i64 aZ] (D.int .i64 r):=by
 refine gd func45 [[none]] 50 fun hr Γ hΓ=>?_
 rw[ny]at h;refine(aT.a [.cn [0,1,5] []]).lp hΓ (BJ hΓ (fun cL h=>?_) (by have:=(gm.sl (hr _ (aB (i:=0) rfl))).1;simpa using this) aC 0 aZ rfl h);have h:=aJ h;subst h;exact aT.ret hΓ
def gO(aC:bZ)(k1:Int->Option Int):bZ->Nat->Int->Option Int
 | [],i1,ax=>(k1 ax)
 |bC::cE,i1,ax=>(bif (bC:Int) != ax then(some (-1))else(gO aC k1 cE (i1+1) (IntKind.i64.wrap (ax+1))))
def om(aC:bZ)(aZ:Int):Option Int:=(gO aC (fun(cL:Int)=>(some cL)) aC 0 aZ)
def E1(aC:bZ)(ax:Int)(dM:Int):St:=⟨[(0,D.sl (aC.map jd)),(1,D.int .i64 ax),(5,D.int .i64 dM)],[]⟩
theorem Co(hΓ:Γ.nt=21){aC:bZ}{r:Int}{k1:Int->Option Int}(dQ:∀(cL:Int),k1 cL=some r->Ax Γ N f46 (.q [[none]] (D.int .i64 r)) [1,1] ⟨[(1,D.int .i64 cL)],[]⟩)(hm1:aC.length<=maxLen):∀(rest:bZ) (i1:Nat) (ax:Int),aC.drop i1=rest->gO aC k1 rest i1 ax=some r->Ar Γ N f46 (.q [[none]] (D.int .i64 r)) [1,0,1,0] (rest.length+1) (E1 aC ax (i1:Int)):=by
 intro rest
 induction rest with
 |nil=>
  intro i1 ax b7 h;rw[gO]at h;refine aO fun N1 cN cI=>?_
  exact((aT.ge jd b7).a [.hl 0 [1] []]).ex hΓ cN (dQ ax h)
 |cons bC cE ih1=>
  intro i1 ax b7 h;rw[gO]at h;refine aO fun N1 cN cI=>?_
  have gJ:=((aT.lt jd b7).l (bD jd 1 (dc b7) rfl))
  obtain⟨h13,h⟩|⟨h13,h⟩:=aN h
  ·cases h;exact(gJ.b h13).ret hΓ
  ·exact((gJ.b h13).a [.cn [0,1,5] []]).ct hΓ cI (iS b7 hm1) (ih1 (i1+1) (IntKind.i64.wrap (ax+1)) (dn b7) h)
theorem BG{aC:bZ}{aZ:Int}{r:Int}(h:om aC aZ=some r):Good prog 46 [D.sl (aC.map jd),D.int .i64 aZ] (D.int .i64 r):=by
 refine gd func46 [[none]] 21 fun hr Γ hΓ=>?_
 rw[om]at h;refine(aT.a [.cn [0,1,5] []]).lp hΓ (Co hΓ (fun cL h=>?_) (by have:=(gm.sl (hr _ (aB (i:=0) rfl))).1;simpa using this) aC 0 aZ rfl h);have h:=aJ h;subst h;exact aT.ret hΓ
def fk(aC:ar)(k1:Int->Option Int):ar->Nat->Int->Option Int
 | [],i1,ax=>(k1 ax)
 |bC::cE,i1,ax=>((br ax).bind fun JL=>(bif !((bC.rel:Bytes)==JL)then(some (-1))else((fN bC.args (IntKind.i64.wrap (ax+1))).bind fun Gr=>(bif decide ((Gr:Int)<0)then(some (-1))else(fk aC k1 cE (i1+1) Gr)))))
def k6(aC:ar)(aZ:Int):Option Int:=(fk aC (fun(cL:Int)=>(some cL)) aC 0 aZ)
def Cn(aC:ar)(ax:Int)(dM:Int):St:=⟨[(0,D.sl (aC.map aL.c)),(1,D.int .i64 ax),(5,D.int .i64 dM)],[]⟩
theorem BF(hΓ:Γ.nt=32){aC:ar}{r:Int}{k1:Int->Option Int}(dQ:∀(cL:Int),k1 cL=some r->Ax Γ N f49 (.q [[none]] (D.int .i64 r)) [1,1] ⟨[(1,D.int .i64 cL)],[]⟩)(hm1:aC.length<=maxLen):∀(rest:ar) (i1:Nat) (ax:Int),aC.drop i1=rest->fk aC k1 rest i1 ax=some r->Ar Γ N f49 (.q [[none]] (D.int .i64 r)) [1,0,1,0] (rest.length+1) (Cn aC ax (i1:Int)):=by
 intro rest
 induction rest with
 |nil=>
  intro i1 ax b7 h;rw[fk]at h;refine aO fun N1 cN cI=>?_
  exact((aT.ge aL.c b7).a [.hl 0 [1] []]).ex hΓ cN (dQ ax h)
 |cons bC cE ih1=>
  intro i1 ax b7 h;rw[fk]at h;refine aO fun N1 cN cI=>?_
  obtain⟨JL,h34,h⟩:=aF h;have oR:=((((aT.lt aL.c b7).a [.n 7]).l (bD aL.c 2 (dc b7) rfl)).g (bV h34))
  obtain⟨h35,h⟩|⟨h35,h⟩:=aN h
  ·cases h;exact(oR.b h35).ret hΓ
  ·obtain⟨Gr,h37,h⟩:=aF h;have nS:=(((oR.b h35).l (bD aL.c 2 (dc b7) rfl)).g (ig h37))
   obtain⟨h38,h⟩|⟨h38,h⟩:=aN h
   ·cases h;exact(nS.b h38).ret hΓ
   ·exact((nS.b h38).a [.cn [0,1,5] []]).ct hΓ cI (iS b7 hm1) (ih1 (i1+1) Gr (dn b7) h)
theorem pu{aC:ar}{aZ:Int}{r:Int}(h:k6 aC aZ=some r):Good prog 49 [D.sl (aC.map aL.c),D.int .i64 aZ] (D.int .i64 r):=by
 refine gd func49 [[none]] 32 fun hr Γ hΓ=>?_
 rw[k6]at h;refine(aT.a [.cn [0,1,5] []]).lp hΓ (BF hΓ (fun cL h=>?_) (by have:=(gm.sl (hr _ (aB (i:=0) rfl))).1;simpa using this) aC 0 aZ rfl h);have h:=aJ h;subst h;exact aT.ret hΓ
def fH(aC:bE)(k1:Int->Option Int):bE->Nat->Int->Option Int
 | [],i1,ax=>(k1 ax)
 |bC::cE,i1,ax=>((br ax).bind fun Hv=>(bif !((bC.shape.rel:Bytes)==Hv)then(some (-1))else((fN bC.shape.args (IntKind.i64.wrap (ax+1))).bind fun y48=>(bif decide ((y48:Int)<0)then(some (-1))else((k6 bC.facts y48).bind fun y51=>(bif decide ((y51:Int)<0)then(some (-1))else(fH aC k1 cE (i1+1) y51)))))))
def mr(aC:bE)(aZ:Int):Option Int:=(fH aC (fun(cL:Int)=>(some cL)) aC 0 aZ)
def BD(aC:bE)(ax:Int)(dM:Int):St:=⟨[(0,D.sl (aC.map aW.c)),(1,D.int .i64 ax),(5,D.int .i64 dM)],[]⟩
theorem A6(hΓ:Γ.nt=43){aC:bE}{r:Int}{k1:Int->Option Int}(dQ:∀(cL:Int),k1 cL=some r->Ax Γ N f47 (.q [[none]] (D.int .i64 r)) [1,1] ⟨[(1,D.int .i64 cL)],[]⟩)(hm1:aC.length<=maxLen):∀(rest:bE) (i1:Nat) (ax:Int),aC.drop i1=rest->fH aC k1 rest i1 ax=some r->Ar Γ N f47 (.q [[none]] (D.int .i64 r)) [1,0,1,0] (rest.length+1) (BD aC ax (i1:Int)):=by
 intro rest
 induction rest with
 |nil=>
  intro i1 ax b7 h;rw[fH]at h;refine aO fun N1 cN cI=>?_
  exact((aT.ge aW.c b7).a [.hl 0 [1] []]).ex hΓ cN (dQ ax h)
 |cons bC cE ih1=>
  intro i1 ax b7 h;rw[fH]at h;refine aO fun N1 cN cI=>?_
  obtain⟨Hv,h46,h⟩:=aF h;have nS:=((((aT.lt aW.c b7).a [.n 8]).l (bD aW.c 3 (dc b7) rfl)).g (bV h46))
  obtain⟨h47,h⟩|⟨h47,h⟩:=aN h
  ·cases h;exact(nS.b h47).ret hΓ
  ·obtain⟨y48,h49,h⟩:=aF h;have vB:=(((nS.b h47).l (bD aW.c 3 (dc b7) rfl)).g (ig h49))
   obtain⟨h50,h⟩|⟨h50,h⟩:=aN h
   ·cases h;exact(vB.b h50).ret hΓ
   ·obtain⟨y51,h52,h⟩:=aF h;have xh:=(((vB.b h50).l (bD aW.c 3 (dc b7) rfl)).g (pu h52))
    obtain⟨h53,h⟩|⟨h53,h⟩:=aN h
    ·cases h;exact(xh.b h53).ret hΓ
    ·exact((xh.b h53).a [.cn [0,1,5] []]).ct hΓ cI (iS b7 hm1) (ih1 (i1+1) y51 (dn b7) h)
theorem yp{aC:bE}{aZ:Int}{r:Int}(h:mr aC aZ=some r):Good prog 47 [D.sl (aC.map aW.c),D.int .i64 aZ] (D.int .i64 r):=by
 refine gd func47 [[none]] 43 fun hr Γ hΓ=>?_
 rw[mr]at h;refine(aT.a [.cn [0,1,5] []]).lp hΓ (A6 hΓ (fun cL h=>?_) (by have:=(gm.sl (hr _ (aB (i:=0) rfl))).1;simpa using this) aC 0 aZ rfl h);have h:=aJ h;subst h;exact aT.ret hΓ
def fo(aC:aQ)(k1:Int->Option Int):aQ->Nat->Int->Option Int
 | [],i1,ax=>(k1 ax)
 |bC::cE,i1,ax=>((br ax).bind fun JL=>(bif !((bC.var:Bytes)==JL)then(some (-1))else((br (IntKind.i64.wrap (ax+1))).bind fun Gr=>(bif !((bC.value:Bytes)==Gr)then(some (-1))else(fo aC k1 cE (i1+1) (IntKind.i64.wrap ((IntKind.i64.wrap (ax+1))+1)))))))
def nx(aC:aQ)(aZ:Int):Option Int:=(fo aC (fun(cL:Int)=>(some cL)) aC 0 aZ)
def Cr(aC:aQ)(ax:Int)(dM:Int):St:=⟨[(0,D.sl (aC.map aS.c)),(1,D.int .i64 ax),(5,D.int .i64 dM)],[]⟩
theorem BI(hΓ:Γ.nt=33){aC:aQ}{r:Int}{k1:Int->Option Int}(dQ:∀(cL:Int),k1 cL=some r->Ax Γ N f141 (.q [[none]] (D.int .i64 r)) [1,1] ⟨[(1,D.int .i64 cL)],[]⟩)(hm1:aC.length<=maxLen):∀(rest:aQ) (i1:Nat) (ax:Int),aC.drop i1=rest->fo aC k1 rest i1 ax=some r->Ar Γ N f141 (.q [[none]] (D.int .i64 r)) [1,0,1,0] (rest.length+1) (Cr aC ax (i1:Int)):=by
 intro rest
 induction rest with
 |nil=>
  intro i1 ax b7 h;rw[fo]at h;refine aO fun N1 cN cI=>?_
  exact((aT.ge aS.c b7).a [.hl 0 [1] []]).ex hΓ cN (dQ ax h)
 |cons bC cE ih1=>
  intro i1 ax b7 h;rw[fo]at h;refine aO fun N1 cN cI=>?_
  obtain⟨JL,h34,h⟩:=aF h;have oR:=((((aT.lt aS.c b7).a [.n 7]).l (bD aS.c 2 (dc b7) rfl)).g (bV h34))
  obtain⟨h35,h⟩|⟨h35,h⟩:=aN h
  ·cases h;exact(oR.b h35).ret hΓ
  ·obtain⟨Gr,h37,h⟩:=aF h;have nS:=((((oR.b h35).a [.n 7]).l (bD aS.c 2 (dc b7) rfl)).g (bV h37))
   obtain⟨h38,h⟩|⟨h38,h⟩:=aN h
   ·cases h;exact(nS.b h38).ret hΓ
   ·exact((nS.b h38).a [.cn [0,1,5] []]).ct hΓ cI (iS b7 hm1) (ih1 (i1+1) (IntKind.i64.wrap ((IntKind.i64.wrap (ax+1))+1)) (dn b7) h)
theorem A9{aC:aQ}{aZ:Int}{r:Int}(h:nx aC aZ=some r):Good prog 141 [D.sl (aC.map aS.c),D.int .i64 aZ] (D.int .i64 r):=by
 refine gd func141 [[none]] 33 fun hr Γ hΓ=>?_
 rw[nx]at h;refine(aT.a [.cn [0,1,5] []]).lp hΓ (BI hΓ (fun cL h=>?_) (by have:=(gm.sl (hr _ (aB (i:=0) rfl))).1;simpa using this) aC 0 aZ rfl h);have h:=aJ h;subst h;exact aT.ret hΓ
def fI(aC:bX)(k1:Int->Option Int):bX->Nat->Int->Option Int
 | [],i1,ax=>(k1 ax)
 |bC::cE,i1,ax=>((k6 bC.facts ax).bind fun JL=>(bif decide ((JL:Int)<0)then(some (-1))else((nx bC.bind JL).bind fun Gr=>(bif decide ((Gr:Int)<0)then(some (-1))else(fI aC k1 cE (i1+1) Gr)))))
def mw(aC:bX)(aZ:Int):Option Int:=(fI aC (fun(cL:Int)=>(some cL)) aC 0 aZ)
def BK(aC:bX)(ax:Int)(dM:Int):St:=⟨[(0,D.sl (aC.map aq.c)),(1,D.int .i64 ax),(5,D.int .i64 dM)],[]⟩
theorem AB(hΓ:Γ.nt=31){aC:bX}{r:Int}{k1:Int->Option Int}(dQ:∀(cL:Int),k1 cL=some r->Ax Γ N f94 (.q [[none]] (D.int .i64 r)) [1,1] ⟨[(1,D.int .i64 cL)],[]⟩)(hm1:aC.length<=maxLen):∀(rest:bX) (i1:Nat) (ax:Int),aC.drop i1=rest->fI aC k1 rest i1 ax=some r->Ar Γ N f94 (.q [[none]] (D.int .i64 r)) [1,0,1,0] (rest.length+1) (BK aC ax (i1:Int)):=by
 intro rest
 induction rest with
 |nil=>
  intro i1 ax b7 h;rw[fI]at h;refine aO fun N1 cN cI=>?_
  exact((aT.ge aq.c b7).a [.hl 0 [1] []]).ex hΓ cN (dQ ax h)
 |cons bC cE ih1=>
  intro i1 ax b7 h;rw[fI]at h;refine aO fun N1 cN cI=>?_
  obtain⟨JL,h34,h⟩:=aF h;have oR:=(((aT.lt aq.c b7).l (bD aq.c 2 (dc b7) rfl)).g (pu h34))
  obtain⟨h35,h⟩|⟨h35,h⟩:=aN h
  ·cases h;exact(oR.b h35).ret hΓ
  ·obtain⟨Gr,h37,h⟩:=aF h;have nS:=(((oR.b h35).l (bD aq.c 2 (dc b7) rfl)).g (A9 h37))
   obtain⟨h38,h⟩|⟨h38,h⟩:=aN h
   ·cases h;exact(nS.b h38).ret hΓ
   ·exact((nS.b h38).a [.cn [0,1,5] []]).ct hΓ cI (iS b7 hm1) (ih1 (i1+1) Gr (dn b7) h)
theorem yt{aC:bX}{aZ:Int}{r:Int}(h:mw aC aZ=some r):Good prog 94 [D.sl (aC.map aq.c),D.int .i64 aZ] (D.int .i64 r):=by
 refine gd func94 [[none]] 31 fun hr Γ hΓ=>?_
 rw[mw]at h;refine(aT.a [.cn [0,1,5] []]).lp hΓ (AB hΓ (fun cL h=>?_) (by have:=(gm.sl (hr _ (aB (i:=0) rfl))).1;simpa using this) aC 0 aZ rfl h);have h:=aJ h;subst h;exact aT.ret hΓ
def fm(aC:bB)(k1:Int->Option Int):bB->Nat->Int->Option Int
 | [],i1,ax=>(k1 ax)
 |bC::cE,i1,ax=>(bif (bC.parent:Int) != ax then(some (-1))else(bif (bC.cond.kind:Int) != (IntKind.i64.wrap (ax+1))then(some (-1))else((br (IntKind.i64.wrap ((IntKind.i64.wrap (ax+1))+1))).bind fun y83=>(bif !((bC.cond.pat.rel:Bytes)==y83)then(some (-1))else((fN bC.cond.pat.args (IntKind.i64.wrap ((IntKind.i64.wrap ((IntKind.i64.wrap (ax+1))+1))+1))).bind fun ZC=>(bif decide ((ZC:Int)<0)then(some (-1))else((br ZC).bind fun y89=>(bif !((bC.cond.left:Bytes)==y89)then(some (-1))else((br (IntKind.i64.wrap (ZC+1))).bind fun Ue=>(bif !((bC.cond.right:Bytes)==Ue)then(some (-1))else(bif (bC.oU:Int) != (IntKind.i64.wrap ((IntKind.i64.wrap (ZC+1))+1))then(some (-1))else((mw bC.tokens (IntKind.i64.wrap ((IntKind.i64.wrap ((IntKind.i64.wrap (ZC+1))+1))+1))).bind fun y96=>(bif decide ((y96:Int)<0)then(some (-1))else(fm aC k1 cE (i1+1) y96))))))))))))))
def nw(aC:bB)(aZ:Int):Option Int:=(fm aC (fun(cL:Int)=>(some cL)) aC 0 aZ)
def Cq(aC:bB)(ax:Int)(dM:Int):St:=⟨[(0,D.sl (aC.map Node.c)),(1,D.int .i64 ax),(5,D.int .i64 dM)],[]⟩
theorem BH(hΓ:Γ.nt=95){aC:bB}{r:Int}{k1:Int->Option Int}(dQ:∀(cL:Int),k1 cL=some r->Ax Γ N f48 (.q [[none]] (D.int .i64 r)) [1,1] ⟨[(1,D.int .i64 cL)],[]⟩)(hm1:aC.length<=maxLen):∀(rest:bB) (i1:Nat) (ax:Int),aC.drop i1=rest->fm aC k1 rest i1 ax=some r->Ar Γ N f48 (.q [[none]] (D.int .i64 r)) [1,0,1,0] (rest.length+1) (Cq aC ax (i1:Int)):=by
 intro rest
 induction rest with
 |nil=>
  intro i1 ax b7 h;rw[fm]at h;refine aO fun N1 cN cI=>?_
  exact((aT.ge Node.c b7).a [.hl 0 [1] []]).ex hΓ cN (dQ ax h)
 |cons bC cE ih1=>
  intro i1 ax b7 h;rw[fm]at h;refine aO fun N1 cN cI=>?_
  have Ji:=((aT.lt Node.c b7).l (bD Node.c 8 (dc b7) rfl))
  obtain⟨h81,h⟩|⟨h81,h⟩:=aN h
  ·cases h;exact(Ji.b h81).ret hΓ
  ·have C0:=((Ji.b h81).l (bD Node.c 8 (dc b7) rfl))
   obtain⟨h82,h⟩|⟨h82,h⟩:=aN h
   ·cases h;exact(C0.b h82).ret hΓ
   ·obtain⟨y83,h84,h⟩:=aF h;have Ix:=((((C0.b h82).a [.n 9]).l (bD Node.c 8 (dc b7) rfl)).g (bV h84))
    obtain⟨h85,h⟩|⟨h85,h⟩:=aN h
    ·cases h;exact(Ix.b h85).ret hΓ
    ·obtain⟨ZC,h87,h⟩:=aF h;have EX:=(((Ix.b h85).l (bD Node.c 8 (dc b7) rfl)).g (ig h87))
     obtain⟨h88,h⟩|⟨h88,h⟩:=aN h
     ·cases h;exact(EX.b h88).ret hΓ
     ·obtain⟨y89,h90,h⟩:=aF h;have Iy:=((((EX.b h88).a [.n 8]).l (bD Node.c 8 (dc b7) rfl)).g (bV h90))
      obtain⟨h91,h⟩|⟨h91,h⟩:=aN h
      ·cases h;exact(Iy.b h91).ret hΓ
      ·obtain⟨Ue,h93,h⟩:=aF h;have Ms:=((((Iy.b h91).a [.n 8]).l (bD Node.c 8 (dc b7) rfl)).g (bV h93))
       obtain⟨h94,h⟩|⟨h94,h⟩:=aN h
       ·cases h;exact(Ms.b h94).ret hΓ
       ·have TI:=((Ms.b h94).l (bD Node.c 8 (dc b7) rfl))
        obtain⟨h95,h⟩|⟨h95,h⟩:=aN h
        ·cases h;exact(TI.b h95).ret hΓ
        ·obtain⟨y96,h97,h⟩:=aF h;have TJ:=(((TI.b h95).l (bD Node.c 8 (dc b7) rfl)).g (yt h97))
         obtain⟨h98,h⟩|⟨h98,h⟩:=aN h
         ·cases h;exact(TJ.b h98).ret hΓ
         ·exact((TJ.b h98).a [.cn [0,1,5] []]).ct hΓ cI (iS b7 hm1) (ih1 (i1+1) y96 (dn b7) h)
theorem A8{aC:bB}{aZ:Int}{r:Int}(h:nw aC aZ=some r):Good prog 48 [D.sl (aC.map Node.c),D.int .i64 aZ] (D.int .i64 r):=by
 refine gd func48 [[none]] 95 fun hr Γ hΓ=>?_
 rw[nw]at h;refine(aT.a [.cn [0,1,5] []]).lp hΓ (BH hΓ (fun cL h=>?_) (by have:=(gm.sl (hr _ (aB (i:=0) rfl))).1;simpa using this) aC 0 aZ rfl h);have h:=aJ h;subst h;exact aT.ret hΓ
def k7(aC:aR)(aZ:Int):Option Int:=((ny aC.rules aZ).bind fun y1=>(bif decide ((y1:Int)<0)then(some (-1))else((om aC.ends y1).bind fun y4=>(bif decide ((y4:Int)<0)then(some (-1))else((mr aC.bU y4).bind fun y7=>(bif decide ((y7:Int)<0)then(some (-1))else((nw aC.nodes y7).bind fun C8=>(bif decide ((C8:Int)<0)then(some (-1))else((k6 aC.facts C8).bind fun qt=>(bif decide ((qt:Int)<0)then(some (-1))else(some qt)))))))))))
theorem gI{aC:aR}{aZ:Int}{r:Int}(h:k7 aC aZ=some r):Good prog 18 [D.agg (aR.c aC),D.int .i64 aZ] (D.int .i64 r):=by
 refine gd func18 [[none]] 36 fun hr Γ hΓ=>?_
 rw[k7]at h;obtain⟨y1,h2,h⟩:=aF h;obtain⟨h3,h⟩|⟨h3,h⟩:=aN h
 ·cases h;exact((aT.g (tG h2)).b h3).ret hΓ
 ·obtain⟨y4,h5,h⟩:=aF h;have nL:=(((aT.g (tG h2)).b h3).g (BG h5))
  obtain⟨h6,h⟩|⟨h6,h⟩:=aN h
  ·cases h;exact(nL.b h6).ret hΓ
  ·obtain⟨y7,h8,h⟩:=aF h;have gJ:=((nL.b h6).g (yp h8))
   obtain⟨h9,h⟩|⟨h9,h⟩:=aN h
   ·cases h;exact(gJ.b h9).ret hΓ
   ·obtain⟨C8,h11,h⟩:=aF h;have oR:=((gJ.b h9).g (A8 h11))
    obtain⟨h12,h⟩|⟨h12,h⟩:=aN h
    ·cases h;exact(oR.b h12).ret hΓ
    ·obtain⟨qt,h14,h⟩:=aF h;have nS:=((oR.b h12).g (pu h14))
     obtain⟨h15,h⟩|⟨h15,h⟩:=aN h
     ·cases h;exact(nS.b h15).ret hΓ
     ·have h:=aJ h;subst h;exact(nS.b h15).ret hΓ
end Go.Cx
namespace Go.Cx
open Go.RowKit Go.Proofs Tryz
theorem Ag.sub{a b:aK}(h:Ag a)(hs:∀d∈b,d∈a):Ag b:=fun d hd=>h d (hs d hd)
def gF{α:Type}(w:α->Nat)(l:List α):Nat:=(l.map w).sum
theorem pE{α:Type}(w:α->Nat)(x:α)(l:List α):gF w (x::l)=w x+gF w l:=by simp[gF]
theorem Bz{α:Type}(m w:α->Nat)(l:List α)(h:∀x,m x<=6+6*w x):gF m l<=6*qB w l:=by
 induction l with
 |nil=>simp[gF]
 |cons x l ih=>rw[pE,mL];have:=h x;omega
def JQ{α:Type}(n:Nat)(mark:Int->Option (α×Int))(held:α->Int->Option Int):Prop:=∀k:Int,1<=k->k+(n:Int)<=4611686018427387904->∃x,mark k=some (x,k+(n:Int))/\held x k=some (k+(n:Int))
theorem Ql(K:Bytes->Option Bytes):∀(n f:Nat) (k:Int) (v:Bytes),0<=k->k<10^n->n<f->∃s,eR K f k v=(if v.length+n<=1000 then K s else eR K f k v)/\s.length<=v.length+n:=by
 intro n
 induction n with
 |zero=>
  intro f k v h0 h1 hf;obtain⟨m,rfl⟩:∃m,f=m+1:=⟨f-1,by omega⟩
  have hk:k=0:=by simp at h1;omega
  subst hk;exact⟨v,by split<;>simp[eR],by omega⟩
 |succ n ih=>
  intro f k v h0 h1 hf;obtain⟨m,rfl⟩:∃m,f=m+1:=⟨f-1,by omega⟩
  by_cases hk:k>0
  ·have hd:k/10<10^n:=by
    have:(10:Int)^(n+1)=10^n*10:=Int.pow_succ 10 n;rw[this]at h1;exact zb (by omega) h1
   obtain⟨s,e1,e2⟩:=ih m (k/10) ([UInt8.ofNat (IntKind.u8.wrap (IntKind.i64.wrap (48+((k:Int)%10)))).toNat]++v) (by omega) hd (by omega);refine⟨s,?_,by simp at e2;omega⟩;split
   ·rename_i hv;rw[bM (by simp;omega)]at e1;have c1:decide (k>0)=true:=by simp[hk]
    have c2:(decide (0<=k)&&decide (0<(10:Int)))=true:=by simp[h0]
    have c3:decide (([UInt8.ofNat (IntKind.u8.wrap (IntKind.i64.wrap (48+((k:Int)%10)))).toNat]:Bytes).length+v.length<=maxLen)=true:=by unfold maxLen;simp;omega
    rw[eR,c1,aa,c2,aa,c3,aa,aa];exact e1
   ·rfl
  ·have hk0:k=0:=by omega
   subst hk0;exact⟨v,by split<;>simp[eR],by omega⟩
theorem j0(k:Int)(h0:1<=k)(h1:k<=4611686018427387904):∃s,br k=some s:=by
 unfold br;have c:decide ((k:Int)<=0)=false:=bL (by omega);rw[c,ay];obtain⟨s,e1,e2⟩:=Ql (fun(Jl:Bytes)=>(bif decide (([109]:Bytes).length+(Jl:Bytes).length<=maxLen)then(some (([109])++Jl))else none)) 20 fuel k [] (by omega) (by omega) (by decide);rw[bM (by simp)]at e1;have c2:decide (([109]:Bytes).length+s.length<=maxLen)=true:=by unfold maxLen;simp at e2⊢;omega
 rw[e1,c2];exact⟨_,rfl⟩
theorem LN(l:aE)(h:gm (.sl (l.map tx)))(v:Int)(h0:0<=v)(h1:v<=1048576):zh (o8 l v) v (qB tw l):=by
 unfold o8;exact szS h h0 h1 fun v' g0 g1=>szL (w:=tw) (f:=fun x v=>some (IntKind.i64.wrap (v-(x.length:Int)))) (gx l (fun z=>some z)) (fun _ _=>rfl) (fun _ _ _ _=>by simp only[gx,aA]) l (fun x hx v g0 g1=>⟨_,rfl,by rw[UH ((Ag.row h x hx (.str x) (by simp)).str) g0 g1];omega,fun q=>by rw[UH ((Ag.row h x hx (.str x) (by simp)).str) g0 g1]at q⊢;unfold tw;omega⟩) 0 v' g0 g1
theorem LS(l:aE)(h:qB tw l<=1048576):oA l=some l:=by
 unfold oA;rw[Pb (by rw[ai];exact cZ (oQ _ _) h) (by decide)];exact toL (c:=tx) (f:=(fun x=>some x)) (gy l (fun q=>some q)) (fun _ _=>rfl) (fun _ _ _ _=>by simp only[gy,aA]) (fun x hx=>rfl)
theorem Fa(a b:aE):lX a b=some (decide (a=b)):=by
 unfold lX;exact RL (c:=tx) (f:=(fun x y=>some (x==y))) (fun k=>jY a b k) (fun _ _=>rfl) (fun _ _ _ _=>rfl) (fun x y=>by rw[ah,bn];simp)
theorem sY(l:aE):JQ (gF (fun _=>1) l) (fO l) fN:=by
 have key:∀(rest dn:aE) (v:Int),1<=v->v+(gF (fun _=>1) rest:Int)<=4611686018427387904->∃rest':aE,(∀k,eV k rest dn v=k (dn++rest') (v+(gF (fun _=>1) rest:Int)))/\∀a k i,eT a k rest' i v=k (v+(gF (fun _=>1) rest:Int)):=by
  intro rest
  induction rest with
  |nil=>intro dn v _ _;exact⟨[],fun k=>by simp[eV,gF],fun a k i=>by simp[eT,gF]⟩
  |cons x xs ih=>
   intro dn v h0 h1;rw[pE]at h1⊢;obtain⟨s1,e1⟩:=j0 v (by omega) (by omega);obtain⟨rest',p1,p2⟩:=ih (dn++[s1]) (v+1) (by omega) (by omega);refine⟨s1::rest',fun k=>?_,fun a k i=>?_⟩
   ·rw[eV];simp(disch:=omega) only[sI,aA,e1];rw[p1];simp only[bN,cr]
    congr 1
    omega
   ·rw[eT];simp(disch:=omega) only[sI,aA,cw,c8,ay,fD,e1];rw[p2]
    congr 1
    omega
 intro k h0 h1;obtain⟨l',p1,p2⟩:=key l [] k h0 h1;exact⟨l',by unfold fO;rw[p1];rfl,by unfold fN;rw[p2]⟩
theorem QJ(a b:bZ):rK a b=some (decide (a=b)):=by
 unfold rK;exact RL (c:=jd) (f:=(fun x y=>some (x==y))) (fun k=>lW a b k) (fun _ _=>rfl) (fun _ _ _ _=>rfl) (fun x y=>by rw[ah,bn];simp)
theorem Qo(l:bZ):JQ (gF (fun _=>1) l) (oo l) om:=by
 have key:∀(rest dn:bZ) (v:Int),1<=v->v+(gF (fun _=>1) rest:Int)<=4611686018427387904->∃rest':bZ,(∀k,gP k rest dn v=k (dn++rest') (v+(gF (fun _=>1) rest:Int)))/\∀a k i,gO a k rest' i v=k (v+(gF (fun _=>1) rest:Int)):=by
  intro rest
  induction rest with
  |nil=>intro dn v _ _;exact⟨[],fun k=>by simp[gP,gF],fun a k i=>by simp[gO,gF]⟩
  |cons x xs ih=>
   intro dn v h0 h1;rw[pE]at h1⊢;obtain⟨rest',p1,p2⟩:=ih (dn++[v]) (v+1) (by omega) (by omega);refine⟨v::rest',fun k=>?_,fun a k i=>?_⟩
   ·rw[gP];simp(disch:=omega) only[sI,aA];rw[p1];simp only[bN,cr]
    congr 1
    omega
   ·rw[gO];simp(disch:=omega) only[sI,aA,cw,c8,ay,fD];rw[p2]
    congr 1
    omega
 intro k h0 h1;obtain⟨l',p1,p2⟩:=key l [] k h0 h1;exact⟨l',by unfold oo;rw[p1];rfl,by unfold om;rw[p2]⟩
def aL.wt(x:aL):Nat:=tw x.rel+qB tw x.args
def aL.j5(x:aL):Nat:=1+gF (fun _=>1) x.args
theorem aL.wL(x:aL):x.j5<=6+6*x.wt:=by
 unfold aL.j5 aL.wt;have h0:=Bz (fun _=>1) tw x.args (fun y=>by omega);omega
theorem QI(a b:aL):pJ a b=some (decide (a=b)):=by
 obtain⟨a0,a1⟩:=a;obtain⟨b0,b1⟩:=b;unfold pJ;simp only[Fa,aA,gK,bne];by_cases h0:a0=b0<;>by_cases h1:a1=b1<;>simp[h0,h1]
theorem EO(a b:ar):mB a b=some (decide (a=b)):=by
 unfold mB;exact RL (c:=aL.c) (f:=pJ) (fun k=>kj a b k) (fun _ _=>rfl) (fun _ _ _ _=>rfl) QI
theorem EW(l:ar):JQ (gF aL.j5 l) (k8 l) k6:=by
 have key:∀(rest dn:ar) (v:Int),1<=v->v+(gF aL.j5 rest:Int)<=4611686018427387904->∃rest':ar,(∀k,fw k rest dn v=k (dn++rest') (v+(gF aL.j5 rest:Int)))/\∀a k i,fk a k rest' i v=k (v+(gF aL.j5 rest:Int)):=by
  intro rest
  induction rest with
  |nil=>intro dn v _ _;exact⟨[],fun k=>by simp[fw,gF],fun a k i=>by simp[fk,gF]⟩
  |cons x xs ih=>
   intro dn v h0 h1;rw[pE]at h1⊢;simp only[aL.j5]at h1⊢;obtain⟨s1,e1⟩:=j0 v (by omega) (by omega);obtain⟨l2,e2,f2⟩:=sY x.args (v+1) (by omega) (by omega);obtain⟨rest',p1,p2⟩:=ih (dn++[(⟨s1,l2⟩:aL)]) (v+1+(gF (fun _=>1) x.args:Int)) (by omega) (by omega);refine⟨(⟨s1,l2⟩:aL)::rest',fun k=>?_,fun a k i=>?_⟩
   ·rw[fw];simp(disch:=omega) only[sI,aA,e1,e2];rw[p1];simp only[bN,cr]
    congr 1
    omega
   ·have g0:decide ((v+1+(gF (fun _=>1) x.args:Int):Int)<0)=false:=bL (by omega);rw[fk];simp(disch:=omega) only[sI,aA,cw,c8,ay,fD,e1,f2,g0];rw[p2]
    congr 1
    omega
 intro k h0 h1;obtain⟨l',p1,p2⟩:=key l [] k h0 h1;exact⟨l',by unfold k8;rw[p1];rfl,by unfold k6;rw[p2]⟩
theorem G2(x:aL)(h:Ag x.c)(v:Int)(h0:0<=v)(h1:v<=1048576):zh (lZ x v) v (aL.wt x):=by
 unfold lZ;refine zh.eq (n:=(tw x.rel+(qB tw x.args+0))) ?_ (by simp only[aL.wt];omega);refine zh.str (m:=(qB tw x.args+0)) ((h (.str x.rel) (by simp)).str) h0 h1 fun g1 e1=>?_
 rw[e1];have l1:v-(x.rel.length:Int)<=1048576:=by omega
 refine(LN x.args (h (.sl (x.args.map tx)) (by simp)) _ g1 l1).sub l1 g1 (m:=0) fun r2 g2 l2=>?_
 exact zh.fin
theorem G3(x:aL)(h:aL.wt x<=1048576):ld x=some x:=by
 unfold ld;simp only[LS x.args (by simp only[aL.wt]at h;omega),aA]
theorem zE(a b:aL):jy a b=some (decide (a=b)):=by
 obtain⟨a0,a1⟩:=a;obtain⟨b0,b1⟩:=b;unfold jy;simp only[Fa,aA,gK,bne];by_cases h0:a0=b0<;>by_cases h1:a1=b1<;>simp[h0,h1]
def aS.j5(x:aS):Nat:=2
theorem QL(a b:aS):pL a b=some (decide (a=b)):=by
 obtain⟨a0,a1⟩:=a;obtain⟨b0,b1⟩:=b;unfold pL;simp only[aA,gK,bne];by_cases h0:a0=b0<;>by_cases h1:a1=b1<;>simp[h0,h1]
theorem Nn(a b:aQ):qP a b=some (decide (a=b)):=by
 unfold qP;exact RL (c:=aS.c) (f:=pL) (fun k=>ko a b k) (fun _ _=>rfl) (fun _ _ _ _=>rfl) QL
theorem OK(l:aQ):JQ (gF aS.j5 l) (o6 l) nx:=by
 have key:∀(rest dn:aQ) (v:Int),1<=v->v+(gF aS.j5 rest:Int)<=4611686018427387904->∃rest':aQ,(∀k,gA k rest dn v=k (dn++rest') (v+(gF aS.j5 rest:Int)))/\∀a k i,fo a k rest' i v=k (v+(gF aS.j5 rest:Int)):=by
  intro rest
  induction rest with
  |nil=>intro dn v _ _;exact⟨[],fun k=>by simp[gA,gF],fun a k i=>by simp[fo,gF]⟩
  |cons x xs ih=>
   intro dn v h0 h1;rw[pE]at h1⊢;simp only[aS.j5]at h1⊢;obtain⟨s1,e1⟩:=j0 v (by omega) (by omega);obtain⟨s2,e2⟩:=j0 (v+1) (by omega) (by omega);obtain⟨rest',p1,p2⟩:=ih (dn++[(⟨s1,s2⟩:aS)]) (v+1+1) (by omega) (by omega);refine⟨(⟨s1,s2⟩:aS)::rest',fun k=>?_,fun a k i=>?_⟩
   ·rw[gA];simp(disch:=omega) only[sI,aA,e1,e2];rw[p1];simp only[bN,cr]
    congr 1
    omega
   ·rw[fo];simp(disch:=omega) only[sI,aA,cw,c8,ay,fD,e1,e2];rw[p2]
    congr 1
    omega
 intro k h0 h1;obtain⟨l',p1,p2⟩:=key l [] k h0 h1;exact⟨l',by unfold o6;rw[p1];rfl,by unfold nx;rw[p2]⟩
def aI.wt(x:aI):Nat:=tw x.pat.rel+qB tw x.pat.args+tw x.left+tw x.right
def aI.j5(x:aI):Nat:=4+gF (fun _=>1) x.pat.args
theorem aI.wL(x:aI):x.j5<=6+6*x.wt:=by
 unfold aI.j5 aI.wt;have h0:=Bz (fun _=>1) tw x.pat.args (fun y=>by omega);omega
theorem R6(x:aI)(h:Ag x.c)(v:Int)(h0:0<=v)(h1:v<=1048576):zh (pN x v) v (aI.wt x):=by
 unfold pN;refine zh.eq (n:=(aL.wt x.pat+(tw x.left+(tw x.right+0)))) ?_ (by simp only[aI.wt,aL.wt];omega);refine(G2 x.pat (Ag.sub h (by intro d hd;simp only[bG,tO,or_false]at hd⊢;rcases hd with rfl|rfl<;>simp)) _ h0 h1).sub h1 h0 (m:=(tw x.left+(tw x.right+0))) fun r1 g1 l1=>?_
 refine zh.str (m:=(tw x.right+0)) ((h (.str x.left) (by simp)).str) g1 l1 fun g2 e2=>?_
 rw[e2];have l2:r1-(x.left.length:Int)<=1048576:=by omega
 refine zh.str (m:=0) ((h (.str x.right) (by simp)).str) g2 l2 fun g3 e3=>?_
 rw[e3];have l3:r1-(x.left.length:Int)-(x.right.length:Int)<=1048576:=by omega
 exact zh.fin
theorem RA(x:aI)(h:aI.wt x<=1048576):pP x=some x:=by
 unfold pP;simp only[G3 x.pat (by simp only[aI.wt,aL.wt]at h⊢;omega),aA]
theorem Jw(a b:aI):nG a b=some (decide (a=b)):=by
 obtain⟨a0,a1,a2,a3⟩:=a;obtain⟨b0,b1,b2,b3⟩:=b;unfold nG;simp only[zE,aA,gK,bne];by_cases h0:a0=b0<;>by_cases h1:a1=b1<;>by_cases h2:a2=b2<;>by_cases h3:a3=b3<;>simp[h0,h1,h2,h3]
theorem Oc(l:aY)(h:gm (.sl (l.map aI.c)))(v:Int)(h0:0<=v)(h1:v<=1048576):zh (qQ l v) v (qB aI.wt l):=by
 unfold qQ;exact szS h h0 h1 fun v' g0 g1=>szL (w:=aI.wt) (f:=pN) (kq l (fun z=>some z)) (fun _ _=>rfl) (fun _ _ _ _=>rfl) l (fun x hx v g0 g1=>R6 x (Ag.row h x hx) v g0 g1) 0 v' g0 g1
theorem Oh(l:aY)(h:qB aI.wt l<=1048576):qS l=some l:=by
 unfold qS;rw[Pb (by rw[ai];exact cZ (oQ _ _) h) (by decide)];exact toL (c:=aI.c) (f:=pP) (kw l (fun q=>some q)) (fun _ _=>rfl) (fun _ _ _ _=>rfl) (fun x hx=>RA x (by have:=qE (w:=aI.wt) hx;omega))
theorem Nk(a b:aY):qN a b=some (decide (a=b)):=by
 unfold qN;exact RL (c:=aI.c) (f:=nG) (fun k=>kf a b k) (fun _ _=>rfl) (fun _ _ _ _=>rfl) Jw
theorem OI(l:aY):JQ (gF aI.j5 l) (o4 l) nv:=by
 have key:∀(rest dn:aY) (v:Int),1<=v->v+(gF aI.j5 rest:Int)<=4611686018427387904->∃rest':aY,(∀k,fq k rest dn v=k (dn++rest') (v+(gF aI.j5 rest:Int)))/\∀a k i,ff a k rest' i v=k (v+(gF aI.j5 rest:Int)):=by
  intro rest
  induction rest with
  |nil=>intro dn v _ _;exact⟨[],fun k=>by simp[fq,gF],fun a k i=>by simp[ff,gF]⟩
  |cons x xs ih=>
   intro dn v h0 h1;rw[pE]at h1⊢;simp only[aI.j5]at h1⊢;obtain⟨s2,e2⟩:=j0 (v+1) (by omega) (by omega);obtain⟨l3,e3,f3⟩:=sY x.pat.args (v+1+1) (by omega) (by omega);obtain⟨s4,e4⟩:=j0 (v+1+1+(gF (fun _=>1) x.pat.args:Int)) (by omega) (by omega);obtain⟨s5,e5⟩:=j0 (v+1+1+(gF (fun _=>1) x.pat.args:Int)+1) (by omega) (by omega);obtain⟨rest',p1,p2⟩:=ih (dn++[(⟨v,(⟨s2,l3⟩:aL),s4,s5⟩:aI)]) (v+1+1+(gF (fun _=>1) x.pat.args:Int)+1+1) (by omega) (by omega);refine⟨(⟨v,(⟨s2,l3⟩:aL),s4,s5⟩:aI)::rest',fun k=>?_,fun a k i=>?_⟩
   ·rw[fq];simp(disch:=omega) only[sI,aA,e2,e3,e4,e5];rw[p1];simp only[bN,cr]
    congr 1
    omega
   ·have g0:decide ((v+1+1+(gF (fun _=>1) x.pat.args:Int):Int)<0)=false:=bL (by omega);rw[ff];simp(disch:=omega) only[sI,aA,cw,c8,ay,fD,e2,f3,e4,e5,g0];rw[p2]
    congr 1
    omega
 intro k h0 h1;obtain⟨l',p1,p2⟩:=key l [] k h0 h1;exact⟨l',by unfold o4;rw[p1];rfl,by unfold nv;rw[p2]⟩
def Action.wt(x:Action):Nat:=tw x.pat.rel+qB tw x.pat.args
def Action.j5(x:Action):Nat:=2+gF (fun _=>1) x.pat.args
theorem Action.wL(x:Action):x.j5<=6+6*x.wt:=by
 unfold Action.j5 Action.wt;have h0:=Bz (fun _=>1) tw x.pat.args (fun y=>by omega);omega
theorem ND(x:Action)(h:Ag x.c)(v:Int)(h0:0<=v)(h1:v<=1048576):zh (mY x v) v (Action.wt x):=by
 unfold mY;refine zh.eq (n:=(aL.wt x.pat+0)) ?_ (by simp only[Action.wt,aL.wt];omega);refine(G2 x.pat (Ag.sub h (by intro d hd;simp only[bG,tO,or_false]at hd⊢;rcases hd with rfl|rfl<;>simp)) _ h0 h1).sub h1 h0 (m:=0) fun r1 g1 l1=>?_
 exact zh.fin
theorem NE(x:Action)(h:Action.wt x<=1048576):mZ x=some x:=by
 unfold mZ;simp only[G3 x.pat (by simp only[Action.wt,aL.wt]at h⊢;omega),aA]
theorem MD(a b:Action):mX a b=some (decide (a=b)):=by
 obtain⟨a0,a1⟩:=a;obtain⟨b0,b1⟩:=b;unfold mX;simp only[zE,aA,gK,bne];by_cases h0:a0=b0<;>by_cases h1:a1=b1<;>simp[h0,h1]
theorem LM(l:bh)(h:gm (.sl (l.map Action.c)))(v:Int)(h0:0<=v)(h1:v<=1048576):zh (o7 l v) v (qB Action.wt l):=by
 unfold o7;exact szS h h0 h1 fun v' g0 g1=>szL (w:=Action.wt) (f:=mY) (jZ l (fun z=>some z)) (fun _ _=>rfl) (fun _ _ _ _=>rfl) l (fun x hx v g0 g1=>ND x (Ag.row h x hx) v g0 g1) 0 v' g0 g1
theorem LQ(l:bh)(h:qB Action.wt l<=1048576):o9 l=some l:=by
 unfold o9;rw[Pb (by rw[ai];exact cZ (oQ _ _) h) (by decide)];exact toL (c:=Action.c) (f:=mZ) (ja l (fun q=>some q)) (fun _ _=>rfl) (fun _ _ _ _=>rfl) (fun x hx=>NE x (by have:=qE (w:=Action.wt) hx;omega))
theorem Kg(a b:bh):nk a b=some (decide (a=b)):=by
 unfold nk;exact RL (c:=Action.c) (f:=mX) (fun k=>jX a b k) (fun _ _=>rfl) (fun _ _ _ _=>rfl) MD
theorem L4(l:bh):JQ (gF Action.j5 l) (mD l) mC:=by
 have key:∀(rest dn:bh) (v:Int),1<=v->v+(gF Action.j5 rest:Int)<=4611686018427387904->∃rest':bh,(∀k,eU k rest dn v=k (dn++rest') (v+(gF Action.j5 rest:Int)))/\∀a k i,eS a k rest' i v=k (v+(gF Action.j5 rest:Int)):=by
  intro rest
  induction rest with
  |nil=>intro dn v _ _;exact⟨[],fun k=>by simp[eU,gF],fun a k i=>by simp[eS,gF]⟩
  |cons x xs ih=>
   intro dn v h0 h1;rw[pE]at h1⊢;simp only[Action.j5]at h1⊢;obtain⟨s2,e2⟩:=j0 (v+1) (by omega) (by omega);obtain⟨l3,e3,f3⟩:=sY x.pat.args (v+1+1) (by omega) (by omega);obtain⟨rest',p1,p2⟩:=ih (dn++[(⟨v,(⟨s2,l3⟩:aL)⟩:Action)]) (v+1+1+(gF (fun _=>1) x.pat.args:Int)) (by omega) (by omega);refine⟨(⟨v,(⟨s2,l3⟩:aL)⟩:Action)::rest',fun k=>?_,fun a k i=>?_⟩
   ·rw[eU];simp(disch:=omega) only[sI,aA,e2,e3];rw[p1];simp only[bN,cr]
    congr 1
    omega
   ·have g0:decide ((v+1+1+(gF (fun _=>1) x.pat.args:Int):Int)<0)=false:=bL (by omega);rw[eS];simp(disch:=omega) only[sI,aA,cw,c8,ay,fD,e2,f3,g0];rw[p2]
    congr 1
    omega
 intro k h0 h1;obtain⟨l',p1,p2⟩:=key l [] k h0 h1;exact⟨l',by unfold mD;rw[p1];rfl,by unfold mC;rw[p2]⟩
def aH.wt(x:aH):Nat:=tw x.name+qB aI.wt x.conds+qB Action.wt x.cc
def aH.j5(x:aH):Nat:=2+gF aI.j5 x.conds+gF Action.j5 x.cc
theorem aH.wL(x:aH):x.j5<=6+6*x.wt:=by
 unfold aH.j5 aH.wt;have h0:=Bz aI.j5 aI.wt x.conds (fun y=>aI.wL y);have h1:=Bz Action.j5 Action.wt x.cc (fun y=>Action.wL y);omega
theorem R7(x:aH)(h:Ag x.c)(v:Int)(h0:0<=v)(h1:v<=1048576):zh (pO x v) v (aH.wt x):=by
 unfold pO;refine zh.eq (n:=(tw x.name+(qB aI.wt x.conds+(qB Action.wt x.cc+0)))) ?_ (by simp only[aH.wt];omega);refine zh.str (m:=(qB aI.wt x.conds+(qB Action.wt x.cc+0))) ((h (.str x.name) (by simp)).str) h0 h1 fun g1 e1=>?_
 rw[e1];have l1:v-(x.name.length:Int)<=1048576:=by omega
 refine(Oc x.conds (h (.sl (x.conds.map aI.c)) (by simp)) _ g1 l1).sub l1 g1 (m:=(qB Action.wt x.cc+0)) fun r2 g2 l2=>?_
 refine(LM x.cc (h (.sl (x.cc.map Action.c)) (by simp)) _ g2 l2).sub l2 g2 (m:=0) fun r3 g3 l3=>?_
 exact zh.fin
theorem RB(x:aH)(h:aH.wt x<=1048576):pQ x=some x:=by
 unfold pQ;simp only[Oh x.conds (by simp only[aH.wt]at h;omega),LQ x.cc (by simp only[aH.wt]at h;omega),aA]
theorem QM(a b:aH):pM a b=some (decide (a=b)):=by
 obtain⟨a0,a1,a2,a3⟩:=a;obtain⟨b0,b1,b2,b3⟩:=b;unfold pM;simp only[Kg,Nk,aA,gK,bne];by_cases h0:a0=b0<;>by_cases h1:a1=b1<;>by_cases h2:a2=b2<;>by_cases h3:a3=b3<;>simp[h0,h1,h2,h3]
theorem Od(l:af)(h:gm (.sl (l.map aH.c)))(v:Int)(h0:0<=v)(h1:v<=1048576):zh (qR l v) v (qB aH.wt l):=by
 unfold qR;exact szS h h0 h1 fun v' g0 g1=>szL (w:=aH.wt) (f:=pO) (kr l (fun z=>some z)) (fun _ _=>rfl) (fun _ _ _ _=>rfl) l (fun x hx v g0 g1=>R7 x (Ag.row h x hx) v g0 g1) 0 v' g0 g1
theorem Oi(l:af)(h:qB aH.wt l<=1048576):kT l=some l:=by
 unfold kT;rw[Pb (by rw[ai];exact cZ (oQ _ _) h) (by decide)];exact toL (c:=aH.c) (f:=pQ) (kx l (fun q=>some q)) (fun _ _=>rfl) (fun _ _ _ _=>rfl) (fun x hx=>RB x (by have:=qE (w:=aH.wt) hx;omega))
theorem IM(a b:af):nr a b=some (decide (a=b)):=by
 unfold nr;exact RL (c:=aH.c) (f:=pM) (fun k=>kp a b k) (fun _ _=>rfl) (fun _ _ _ _=>rfl) QM
theorem Iu(l:af):JQ (gF aH.j5 l) (lY l) ny:=by
 have key:∀(rest dn:af) (v:Int),1<=v->v+(gF aH.j5 rest:Int)<=4611686018427387904->∃rest':af,(∀k,gB k rest dn v=k (dn++rest') (v+(gF aH.j5 rest:Int)))/\∀a k i,fp a k rest' i v=k (v+(gF aH.j5 rest:Int)):=by
  intro rest
  induction rest with
  |nil=>intro dn v _ _;exact⟨[],fun k=>by simp[gB,gF],fun a k i=>by simp[fp,gF]⟩
  |cons x xs ih=>
   intro dn v h0 h1;rw[pE]at h1⊢;simp only[aH.j5]at h1⊢;obtain⟨s1,e1⟩:=j0 v (by omega) (by omega);obtain⟨l3,e3,f3⟩:=OI x.conds (v+1+1) (by omega) (by omega);obtain⟨l4,e4,f4⟩:=L4 x.cc (v+1+1+(gF aI.j5 x.conds:Int)) (by omega) (by omega);obtain⟨rest',p1,p2⟩:=ih (dn++[(⟨s1,(v+1),l3,l4⟩:aH)]) (v+1+1+(gF aI.j5 x.conds:Int)+(gF Action.j5 x.cc:Int)) (by omega) (by omega);refine⟨(⟨s1,(v+1),l3,l4⟩:aH)::rest',fun k=>?_,fun a k i=>?_⟩
   ·rw[gB];simp(disch:=omega) only[sI,aA,e1,e3,e4];rw[p1];simp only[bN,cr]
    congr 1
    omega
   ·have g0:decide ((v+1+1+(gF aI.j5 x.conds:Int):Int)<0)=false:=bL (by omega);have g1:decide ((v+1+1+(gF aI.j5 x.conds:Int)+(gF Action.j5 x.cc:Int):Int)<0)=false:=bL (by omega);rw[fp];simp(disch:=omega) only[sI,aA,cw,c8,ay,fD,e1,f3,f4,g0,g1];rw[p2]
    congr 1
    omega
 intro k h0 h1;obtain⟨l',p1,p2⟩:=key l [] k h0 h1;exact⟨l',by unfold lY;rw[p1];rfl,by unfold ny;rw[p2]⟩
def aq.j5(x:aq):Nat:=0+gF aL.j5 x.facts+gF aS.j5 x.bind
theorem No(a b:aq):nu a b=some (decide (a=b)):=by
 obtain⟨a0,a1⟩:=a;obtain⟨b0,b1⟩:=b;unfold nu;simp only[EO,Nn,aA,gK,bne];by_cases h0:a0=b0<;>by_cases h1:a1=b1<;>simp[h0,h1]
theorem MF(a b:bX):ol a b=some (decide (a=b)):=by
 unfold ol;exact RL (c:=aq.c) (f:=nu) (fun k=>jz a b k) (fun _ _=>rfl) (fun _ _ _ _=>rfl) No
theorem Mk(l:bX):JQ (gF aq.j5 l) (n8 l) mw:=by
 have key:∀(rest dn:bX) (v:Int),1<=v->v+(gF aq.j5 rest:Int)<=4611686018427387904->∃rest':bX,(∀k,fK k rest dn v=k (dn++rest') (v+(gF aq.j5 rest:Int)))/\∀a k i,fI a k rest' i v=k (v+(gF aq.j5 rest:Int)):=by
  intro rest
  induction rest with
  |nil=>intro dn v _ _;exact⟨[],fun k=>by simp[fK,gF],fun a k i=>by simp[fI,gF]⟩
  |cons x xs ih=>
   intro dn v h0 h1;rw[pE]at h1⊢;simp only[aq.j5]at h1⊢;obtain⟨l1,e1,f1⟩:=EW x.facts v (by omega) (by omega);obtain⟨l2,e2,f2⟩:=OK x.bind (v+(gF aL.j5 x.facts:Int)) (by omega) (by omega);obtain⟨rest',p1,p2⟩:=ih (dn++[(⟨l1,l2⟩:aq)]) (v+(gF aL.j5 x.facts:Int)+(gF aS.j5 x.bind:Int)) (by omega) (by omega);refine⟨(⟨l1,l2⟩:aq)::rest',fun k=>?_,fun a k i=>?_⟩
   ·rw[fK];simp(disch:=omega) only[sI,aA,e1,e2];rw[p1];simp only[bN,cr]
    congr 1
    omega
   ·have g0:decide ((v+(gF aL.j5 x.facts:Int):Int)<0)=false:=bL (by omega);have g1:decide ((v+(gF aL.j5 x.facts:Int)+(gF aS.j5 x.bind:Int):Int)<0)=false:=bL (by omega);rw[fI];simp(disch:=omega) only[sI,aA,cw,c8,ay,fD,f1,f2,g0,g1];rw[p2]
    congr 1
    omega
 intro k h0 h1;obtain⟨l',p1,p2⟩:=key l [] k h0 h1;exact⟨l',by unfold n8;rw[p1];rfl,by unfold mw;rw[p2]⟩
def aW.j5(x:aW):Nat:=1+gF (fun _=>1) x.shape.args+gF aL.j5 x.facts
theorem Nj(a b:aW):nq a b=some (decide (a=b)):=by
 obtain⟨a0,a1⟩:=a;obtain⟨b0,b1⟩:=b;unfold nq;simp only[EO,zE,aA,gK,bne];by_cases h0:a0=b0<;>by_cases h1:a1=b1<;>simp[h0,h1]
theorem ME(a b:bE):oh a b=some (decide (a=b)):=by
 unfold oh;exact RL (c:=aW.c) (f:=nq) (fun k=>jw a b k) (fun _ _=>rfl) (fun _ _ _ _=>rfl) Nj
theorem Mj(l:bE):JQ (gF aW.j5 l) (n7 l) mr:=by
 have key:∀(rest dn:bE) (v:Int),1<=v->v+(gF aW.j5 rest:Int)<=4611686018427387904->∃rest':bE,(∀k,fJ k rest dn v=k (dn++rest') (v+(gF aW.j5 rest:Int)))/\∀a k i,fH a k rest' i v=k (v+(gF aW.j5 rest:Int)):=by
  intro rest
  induction rest with
  |nil=>intro dn v _ _;exact⟨[],fun k=>by simp[fJ,gF],fun a k i=>by simp[fH,gF]⟩
  |cons x xs ih=>
   intro dn v h0 h1;rw[pE]at h1⊢;simp only[aW.j5]at h1⊢;obtain⟨s1,e1⟩:=j0 v (by omega) (by omega);obtain⟨l2,e2,f2⟩:=sY x.shape.args (v+1) (by omega) (by omega);obtain⟨l3,e3,f3⟩:=EW x.facts (v+1+(gF (fun _=>1) x.shape.args:Int)) (by omega) (by omega);obtain⟨rest',p1,p2⟩:=ih (dn++[(⟨(⟨s1,l2⟩:aL),l3⟩:aW)]) (v+1+(gF (fun _=>1) x.shape.args:Int)+(gF aL.j5 x.facts:Int)) (by omega) (by omega);refine⟨(⟨(⟨s1,l2⟩:aL),l3⟩:aW)::rest',fun k=>?_,fun a k i=>?_⟩
   ·rw[fJ];simp(disch:=omega) only[sI,aA,e1,e2,e3];rw[p1];simp only[bN,cr]
    congr 1
    omega
   ·have g0:decide ((v+1+(gF (fun _=>1) x.shape.args:Int):Int)<0)=false:=bL (by omega);have g1:decide ((v+1+(gF (fun _=>1) x.shape.args:Int)+(gF aL.j5 x.facts:Int):Int)<0)=false:=bL (by omega);rw[fH];simp(disch:=omega) only[sI,aA,cw,c8,ay,fD,e1,f2,f3,g0,g1];rw[p2]
    congr 1
    omega
 intro k h0 h1;obtain⟨l',p1,p2⟩:=key l [] k h0 h1;exact⟨l',by unfold n7;rw[p1];rfl,by unfold mr;rw[p2]⟩
def Node.j5(x:Node):Nat:=6+gF (fun _=>1) x.cond.pat.args+gF aq.j5 x.tokens
theorem QK(a b:Node):pK a b=some (decide (a=b)):=by
 obtain⟨a0,a1,a2,a3⟩:=a;obtain⟨b0,b1,b2,b3⟩:=b;unfold pK;simp only[Jw,MF,aA,gK,bne];by_cases h0:a0=b0<;>by_cases h1:a1=b1<;>by_cases h2:a2=b2<;>by_cases h3:a3=b3<;>simp[h0,h1,h2,h3]
theorem Nl(a b:bB):qO a b=some (decide (a=b)):=by
 unfold qO;exact RL (c:=Node.c) (f:=pK) (fun k=>kn a b k) (fun _ _=>rfl) (fun _ _ _ _=>rfl) QK
theorem OJ(l:bB):JQ (gF Node.j5 l) (o5 l) nw:=by
 have key:∀(rest dn:bB) (v:Int),1<=v->v+(gF Node.j5 rest:Int)<=4611686018427387904->∃rest':bB,(∀k,fy k rest dn v=k (dn++rest') (v+(gF Node.j5 rest:Int)))/\∀a k i,fm a k rest' i v=k (v+(gF Node.j5 rest:Int)):=by
  intro rest
  induction rest with
  |nil=>intro dn v _ _;exact⟨[],fun k=>by simp[fy,gF],fun a k i=>by simp[fm,gF]⟩
  |cons x xs ih=>
   intro dn v h0 h1;rw[pE]at h1⊢;simp only[Node.j5]at h1⊢;obtain⟨s3,e3⟩:=j0 (v+1+1) (by omega) (by omega);obtain⟨l4,e4,f4⟩:=sY x.cond.pat.args (v+1+1+1) (by omega) (by omega);obtain⟨s5,e5⟩:=j0 (v+1+1+1+(gF (fun _=>1) x.cond.pat.args:Int)) (by omega) (by omega);obtain⟨s6,e6⟩:=j0 (v+1+1+1+(gF (fun _=>1) x.cond.pat.args:Int)+1) (by omega) (by omega);obtain⟨l8,e8,f8⟩:=Mk x.tokens (v+1+1+1+(gF (fun _=>1) x.cond.pat.args:Int)+1+1+1) (by omega) (by omega);obtain⟨rest',p1,p2⟩:=ih (dn++[(⟨v,(⟨(v+1),(⟨s3,l4⟩:aL),s5,s6⟩:aI),(v+1+1+1+(gF (fun _=>1) x.cond.pat.args:Int)+1+1),l8⟩:Node)]) (v+1+1+1+(gF (fun _=>1) x.cond.pat.args:Int)+1+1+1+(gF aq.j5 x.tokens:Int)) (by omega) (by omega);refine⟨(⟨v,(⟨(v+1),(⟨s3,l4⟩:aL),s5,s6⟩:aI),(v+1+1+1+(gF (fun _=>1) x.cond.pat.args:Int)+1+1),l8⟩:Node)::rest',fun k=>?_,fun a k i=>?_⟩
   ·rw[fy];simp(disch:=omega) only[sI,aA,e3,e4,e5,e6,e8];rw[p1];simp only[bN,cr]
    congr 1
    omega
   ·have g0:decide ((v+1+1+1+(gF (fun _=>1) x.cond.pat.args:Int):Int)<0)=false:=bL (by omega);have g1:decide ((v+1+1+1+(gF (fun _=>1) x.cond.pat.args:Int)+1+1+1+(gF aq.j5 x.tokens:Int):Int)<0)=false:=bL (by omega);rw[fm];simp(disch:=omega) only[sI,aA,cw,c8,ay,fD,e3,f4,e5,e6,f8,g0,g1];rw[p2]
    congr 1
    omega
 intro k h0 h1;obtain⟨l',p1,p2⟩:=key l [] k h0 h1;exact⟨l',by unfold o5;rw[p1];rfl,by unfold nw;rw[p2]⟩
theorem Kh(a b:aR):jx a b=some (decide (a=b)):=by
 obtain⟨a0,a1,a2,a3,a4,a5⟩:=a;obtain⟨b0,b1,b2,b3,b4,b5⟩:=b;unfold jx;simp only[ME,EO,QJ,Nl,IM,aA,gK,bne];by_cases h0:a0=b0<;>by_cases h1:a1=b1<;>by_cases h2:a2=b2<;>by_cases h3:a3=b3<;>by_cases h4:a4=b4<;>by_cases h5:a5=b5<;>simp[h0,h1,h2,h3,h4,h5]
def aR.L5(x:aR):Nat:=gF aH.j5 x.rules+gF (fun _=>1) x.ends+gF aW.j5 x.bU+gF Node.j5 x.nodes+gF aL.j5 x.facts
theorem Jh(x:aR)(k:Int)(h0:1<=k)(h1:k+(aR.L5 x:Int)<=4611686018427387904):∃y:aR,mE x k=some (y,k+(aR.L5 x:Int))/\k7 y k=some (k+(aR.L5 x:Int))/\(⟨y.rules,y.ends,y.bU,y.nodes,y.facts,x.cu⟩:aR)=y:=by
 unfold aR.L5 at h1⊢;obtain⟨l1,e1,f1⟩:=Iu x.rules k (by omega) (by omega);obtain⟨l2,e2,f2⟩:=Qo x.ends (k+(gF aH.j5 x.rules:Int)) (by omega) (by omega);obtain⟨l3,e3,f3⟩:=Mj x.bU (k+(gF aH.j5 x.rules:Int)+(gF (fun _=>1) x.ends:Int)) (by omega) (by omega);obtain⟨l4,e4,f4⟩:=OJ x.nodes (k+(gF aH.j5 x.rules:Int)+(gF (fun _=>1) x.ends:Int)+(gF aW.j5 x.bU:Int)) (by omega) (by omega);obtain⟨l5,e5,f5⟩:=EW x.facts (k+(gF aH.j5 x.rules:Int)+(gF (fun _=>1) x.ends:Int)+(gF aW.j5 x.bU:Int)+(gF Node.j5 x.nodes:Int)) (by omega) (by omega);refine⟨(⟨l1,l2,l3,l4,l5,x.cu⟩:aR),?_,?_,rfl⟩
 ·unfold mE;simp only[aA,e1,e2,e3,e4,e5]
  all_goals(congr 2<;>omega)
 ·unfold k7;have g0:decide ((k+(gF aH.j5 x.rules:Int):Int)<0)=false:=bL (by omega);have g1:decide ((k+(gF aH.j5 x.rules:Int)+(gF (fun _=>1) x.ends:Int):Int)<0)=false:=bL (by omega);have g2:decide ((k+(gF aH.j5 x.rules:Int)+(gF (fun _=>1) x.ends:Int)+(gF aW.j5 x.bU:Int):Int)<0)=false:=bL (by omega);have g3:decide ((k+(gF aH.j5 x.rules:Int)+(gF (fun _=>1) x.ends:Int)+(gF aW.j5 x.bU:Int)+(gF Node.j5 x.nodes:Int):Int)<0)=false:=bL (by omega);have g4:decide ((k+(gF aH.j5 x.rules:Int)+(gF (fun _=>1) x.ends:Int)+(gF aW.j5 x.bU:Int)+(gF Node.j5 x.nodes:Int)+(gF aL.j5 x.facts:Int):Int)<0)=false:=bL (by omega);simp only[aA,ay,f1,f2,f3,f4,f5,g0,g1,g2,g3,g4]
  all_goals(congr 1<;>omega)
end Go.Cx
namespace Go.Cx
open Go.RowKit Go.Proofs Go.Shelf Tryz
theorem Rd.sj{w:World}{v:Value}{s:Bytes}{bs:aP}(h:Rd w v (.str s) bs):∃y:ByteArray,v=.string y/\y.data.toList=s/\y.size<=maxLen/\bs=[]:=by
 cases h with
 |str y hy=>exact⟨y,rfl,rfl,hy,rfl⟩
theorem jR.strs{w:World}{xs:aE}:∀ {cs:bY} {bs:aP},jR w cs (xs.map D.str) bs->∃ys:List ByteArray,cs=ys.map Value.string/\ys.map (·.data.toList)=xs:=by
 induction xs with
 |nil=>intro cs bs h;cases h;exact⟨[],rfl,rfl⟩
 |cons x xs ih=>
  intro cs bs h;cases h with
  |cons v vs d ds b1 b2 h1 h2 h3=>
   obtain⟨y,e1,e2,_,_⟩:=h2.sj;obtain⟨ys,e3,e4⟩:=ih h3;exact⟨y::ys,by simp[e1,e3],by simp[e2,e4]⟩
theorem Ki(xs:aE):(xs.map tx).flatten=xs.map D.str:=by
 induction xs with
 |nil=>rfl
 |cons x xs ih=>simp[tx,ih]
theorem Calls.txt{P:Program}{f:FuncId}{args:Array Value}{w:World}{r:ByteArray}{Θ:Nat->Nat}(hr:r.size<=maxLen)
 (h:Calls P f args w fun e w'=>e=.returned (.string r)/\Below w.heap.size w w'):
 Calls P f args w (fun e w'=>∃v bs' ts us,e=.returned v/\Below w.heap.size w w'/\vf w' v (.str r.data.toList) bs' ts us/\(∀b∈bs',b<w.heap.size->Θ b=0)/\(∀b∈bs',b∉ts)/\us.Nodup/\
  (∀b∈us,w.heap.size<=b/\Wr w' b)/\∀b∈ts,b∈us):=
 h.mono fun e w' ⟨h1,h2⟩=>⟨_,[],[],[],h1,h2,.v (.cell (.pure (.str r hr))),by simp,by simp,by simp,by simp,by simp⟩
end Go.Cx
namespace Go.Cx
open Go.RowKit Go.Proofs Go.Shelf Go.Sort Tryz
theorem jR.W7{w:World}{xs:aE}:∀ {cs:bY} {bs:aP},jR w cs (xs.map D.str) bs->∀x∈xs,x.length<=maxLen:=by
 induction xs with
 |nil=>intro cs bs h x hx;cases hx
 |cons x xs ih=>
  intro cs bs h y hy;cases h with
  |cons v vs d ds b1 b2 h1 h2 h3=>
   obtain⟨s,_,e2,e3,_⟩:=h2.sj;rcases bG.1 hy with rfl|hy
   ·rw[<-e2];exact e3
   ·exact ih h3 y hy
theorem jR.PX{w:World}:∀ {xs:aE},(∀x∈xs,x.length<=maxLen)->jR w (xs.map encStr) (xs.map D.str) []
 | [],_=>.nil
 |x::xs,h=>by
  have h1:Rd w (.string ⟨x.toArray⟩) (.str x) []:=by
   have:=Rd.str (w:=w) ⟨x.toArray⟩ (by have:=h x (by simp);simpa[ByteArray.size]using this);simpa using this
  exact .cons _ _ _ _ [] [] rfl h1 (jR.PX fun y hy=>h y (by simp[hy]))
theorem MK(xs:aE):(xs.map tx).flatten.all D.flat=true:=by
 rw[Ki];simp[D.flat]
def kz(xs:aE):aE:=xs.mergeSort fun x y=>decide (x<=y)
theorem wT(xs:aE):(kz xs).Perm xs:=List.mergeSort_perm _ _
theorem Ij{P:Program}{ρ:Ren}(L:Lays.n192 P ρ){e:TypeId}{xs:aE}(hn:xs.length<4611686018427387904):Ll P (ρ.f 192) e 1 (xs.map tx) ((kz xs).map tx):=by
 refine⟨⟨_,L.f192,rfl,rfl⟩,?_⟩;intro w v cs hsz hrl hown hrd;rw[Ki]at hrd;have hle:=hrd.W7;obtain⟨ys,rfl,hys⟩:=hrd.strs;have hlen:(kz xs).length=xs.length:=(wT xs).length_eq;have HW:∀r∈(kz xs).map tx,r.length=1:=by
  intro r hr;obtain⟨x,_,rfl⟩:=cO.1 hr;rfl
 rcases hown.2 with⟨rfl,h0⟩|⟨g,cap,cur,rfl,hb,Km,hnc,hcm,hcs,MV⟩
 ·have hx:xs=[]:=by simpa using h0
  subst hx;refine(Any.sort_Strings_none L none 0 w).mono ?_;rintro e' w' ⟨rfl,rfl⟩;exact⟨rfl,rfl,rfl,rfl,bH _,fun _ _ _=>rfl,HW,[],⟨by simp[hlen],.inl ⟨rfl,by simp[hlen]⟩⟩,by simpa[kz]using jR.nil⟩
 ·rw[ai]at hnc MV⊢;rw[Nat.mul_one]at MV hcs;have hyl:ys.length=xs.length:=by rw[<-hys];simp
  have IW:∀j,j<xs.length->cur[j]?=some (encStr xs.toArray[j]!):=by
   intro j hj;have h1:(cur.toList.take xs.length)[j]?=cur[j]?:=by rw[xH hj];simp
   rw[<-h1,MV,bg];have hj':j<ys.length:=by omega
   rw[aV hj'];have:xs[j]?=some ys[j].data.toList:=by rw[<-hys,bg,aV hj'];rfl
   have hx:xs.toArray[j]! =ys[j].data.toList:=by
    rw[getElem!_pos _ _ (by simpa using hj)];rw[aV hj]at this;simpa using this
   rw[hx];simp[encStr]
  have hH:Holds encStr w g 0 xs.toArray:=by
   intro j hj;have hj:j<xs.length:=by simpa using hj
   refine⟨?_,?_⟩
   ·rw[<-IW j hj];simp[World.cell?,Km]
   ·simp[World.frozen?,Km]
  have hblk:g<w.heap.size:=(az.1 Km).1;refine(Any.sort_Strings L g 0 cap xs w hH hblk hn).mono ?_;rintro e' w' ⟨rfl,n,os,rfl⟩;have hheap:(grow (putRow encStr (Sort.ahead w n) g 0 (kz xs).toArray) os).heap=(w.heap.modify g (onCells (putCells encStr 0 (kz xs).toArray)))++os:=rfl;have IU:∀b,b<w.heap.size->b≠g->(grow (putRow encStr (Sort.ahead w n) g 0 (kz xs).toArray) os).heap[b]?=w.heap[b]?:=by
   intro b hb hne;rw[hheap,dV (by simpa using hb),sv,b9 (fun e=>hne e.symm)]
  have hrow:(grow (putRow encStr (Sort.ahead w n) g 0 (kz xs).toArray) os).heap[g]?=some (.cells (putCells encStr 0 (kz xs).toArray cur) e (0,0)):=by
   rw[hheap,dV (by simpa using hblk),sv,bM rfl,Km];rfl
  refine⟨rfl,rfl,rfl,rfl,by show w.heap.size<=(grow (putRow encStr (Sort.ahead w n) g 0 (kz xs).toArray) os).heap.size;rw[hheap];simp,fun b hb hne=>IU b hb fun e=>hne (by rw[e];rfl),HW,(kz xs).map encStr,⟨by simp,.inr ⟨g,cap,_,by simp[hlen],hb,hrow,by simpa[hlen]using hnc,hcm,by simp[putCells,hcs],?_⟩⟩,?_⟩
  ·apply mh;intro j;simp only[ai,Nat.mul_one];by_cases hj:j<(kz xs).length
   ·have hj2:j<cur.size:=by omega
    rw[xH hj,bg,aV hj];simp[putCells,hj2,hj]
   ·rw[cD (by simp;omega),cD (by simp;omega)]
  ·rw[Ki];exact jR.PX fun x hx=>hle x ((wT xs).mem_iff.1 hx)
end Go.Cx
namespace Go.Cx
open Go.RowKit Go.Proofs Go.Shelf Go.Lib Tryz
theorem Sw(n:Int)(h:qY .i64 n):(itoa n).length<=20:=by
 have h1: -9223372036854775808<=n:=h.1;have h2:n<=9223372036854775807:=h.2;have key:∀u:Nat,u<=9223372036854775808->nDigits u<=19:=by
  intro u hu;by_cases h0:u=0
  ·subst h0;rw[nDigits_small (by omega)];omega
  ·by_cases hk:nDigits u<=19
   ·exact hk
   ·exfalso;have YE:∀(k v:Nat),v<10^k->1<=k->nDigits v<=k:=by
     intro k
     induction k with
     |zero=>intro v _ h;omega
     |succ k ih=>
      intro v hv _;by_cases h10:v<10
      ·rw[nDigits_small h10];omega
      ·rw[nDigits_big h10];have h3:v/10<10^k:=by rw[yZ]at hv;omega
       have hk1:1<=k:=by
        cases k with
        |zero=>simp at hv;omega
        |succ k=>omega
       have:=ih (v/10) h3 hk1;omega
    have:=YE 19 u (by omega) (by omega);omega
 unfold itoa;split
 ·rw[aG,decDigits_length];have:=key n.natAbs (by omega);omega
 ·rw[decDigits_length];have:=key n.toNat (by omega);omega
theorem M3(w:World)(k:Nat)(os:Array Obj):Below w.heap.size w (Sort.grow (w.drewN k) os):=
 ⟨rfl,rfl,rfl,by show w.heap.size<=(w.heap++os).size;simp,fun b hb=>by show(w.heap++os)[b]?=_;rw[dV hb]⟩
theorem Md{P:Program}{ρ:Ren}(L:LaysM.n171 P ρ){g:Nat}(hg:P.globalNamed "internal/strconv.uint64pow10" =some g)(hx:(g,fun cs:bY=>cs=pow10Tab.map fun z=>Value.int .u64 z)∈uM){n:Int}:
 Good P (ρ.f 171) [.int .i64 n] (.str (itoa n)):=by
 refine⟨⟨_,L.f171,rfl,rfl⟩,?_⟩;intro w Θ args bs hv ha _ _ _;obtain _|⟨v1,_,_,_,b1,_,h1,ha⟩:=ha;cases ha;cases h1 with
 |int _ _ hr=>
  have h0: -9223372036854775808<=n:=hr.1;have h1:n<=9223372036854775807:=hr.2;have hl:=Sw n hr;have ht:TabIs P w "internal/strconv.uint64pow10" .u64 pow10Tab:=by
   obtain⟨cs,h2,h3⟩:=hv.var hx hg;have h4:cs=(pow10Tab.map fun z=>Value.int .u64 z).toArray:=by rw[<-h3]
   rw[h4]at h2;exact h2
  have:=Calls.txt (Θ:=Θ) (r:=⟨(itoa n).toArray⟩) (by show(itoa n).toArray.size<=maxLen;rw[x7];unfold maxLen;omega)
   ((Any.strconv_Itoa L n h0 h1 w ht).mono fun e w' ⟨k1,k,os,k2⟩=>⟨k1,by subst k2;exact M3 w k os⟩)
  simpa using this
end Go.Cx
namespace Go.Cx
open Go.RowKit Go.Proofs Go.Shelf Go.Lib Tryz
theorem M2(w:World)(t5:TypeId)(t:ByteArray):Below w.heap.size w (Lib.bytesWorld w t5 t):=Lib.bytesWorld_below _ _ _
def Ku(s:Bytes):Option (Int×Bool):=if s.length<=18 then(match Lib.atoi s with|some n=>some (n,false)|none=>some (0,true))else none
theorem Mc{P:Program}{ρ:Ren}(L:LaysC.n172 P ρ){g:Nat}(hg:P.globalNamed "strconv.ErrSyntax" =some g)(hx:(g,fun cs:bY=>∃tp p,cs=[Value.iface tp p])∈uM){s:Bytes}{r:Int×Bool}(h:Ku s=some r):
 Good P (ρ.f 172) [.str s] (.iE [.int .i64 r.1,.WZ r.2]):=by
 refine⟨⟨_,L.f172,rfl,rfl⟩,?_⟩;intro w Θ args bs hv ha _ _ _;obtain _|⟨v1,_,_,_,b1,_,h1,ha⟩:=ha;cases ha;obtain⟨y,rfl,rfl,_,_⟩:=h1.sj;unfold Ku at h;split at h
 ·rename_i hl;have hl':y.size<=18:=by simpa using hl
  split at h
  ·rename_i n hn;cases h;have hb:=Lib.atoi_bound hn hl;refine(Any.strconv_Atoi L.toM.ton172 y n hl' hn w).mono ?_;rintro e w' ⟨rfl,t,rfl⟩;exact⟨_,[],[],[],rfl,M2 _ _ _,.iE [.int .i64 n,.nilIface] [.int .i64 n,.WZ false] [] [] [] (.cons _ _ _ _ [] [] [] [] [] [] (.cell (.pure (.int _ _ (qY.i64.2 (by omega))))) (.cons _ _ _ _ [] [] [] [] [] [] (.cell (.pure .Qd)) .nil)),by simp,by simp,by simp,by simp,by simp⟩
  ·rename_i hn;cases h;obtain⟨cs,h2,tp,p,h3⟩:=hv.var hx hg;have h4:cs= #[.iface tp p]:=by rw[<-nT,h3]
   rw[h4]at h2;refine(Any.strconv_Atoi_err_var L y hl' hn tp p w h2).mono ?_;rintro e w' ⟨N,rfl,_,_,Nt⟩;exact⟨_,[],[],[],rfl,Nt,.iE [.int .i64 0,.iface _ _] [.int .i64 0,.WZ true] [] [] [] (.cons _ _ _ _ [] [] [] [] [] [] (.cell (.pure (.int _ _ (qY.zero _)))) (.cons _ _ _ _ [] [] [] [] [] [] (.cell (.pure (.Qe _ _))) .nil)),by simp,by simp,by simp,by simp,by simp⟩
 ·cases h
end Go.Cx
namespace Go.Cx
open Go.RowKit Go.Proofs Go.Shelf Tryz
def Me:Ren:=⟨fun|192=>155|190=>175|125=>190|258=>189|128=>206|129=>207|302=>197|303=>198|304=>199|305=>200|306=>201|307=>202|308=>203|309=>204|310=>205|333=>210|329=>211|330=>212|334=>213|335=>214|336=>215|344=>219|n=>n,fun|31=>67|0=>0|9=>9|3=>3|46=>165|51=>214|53=>216|4=>4|183=>207|182=>206|131=>167|5=>5|218=>221|222=>225|228=>229|229=>230|n=>n,fun|n=>n⟩
theorem VZ:Lays.n192 prog Me:= {
 mixed:=by kernel_rfl,
 f125:=func190.trans (congrArg some (by kernel_rfl)),
 f128:=func206.trans (congrArg some (by kernel_rfl)),
 f129:=func207.trans (congrArg some (by kernel_rfl)),
 f190:=func175.trans (congrArg some (by kernel_rfl)),
 f192:=func155.trans (congrArg some (by kernel_rfl)),
 f258:=func189.trans (congrArg some (by kernel_rfl)),
 f302:=func197.trans (congrArg some (by kernel_rfl)),
 f303:=func198.trans (congrArg some (by kernel_rfl)),
 f304:=func199.trans (congrArg some (by kernel_rfl)),
 f305:=func200.trans (congrArg some (by kernel_rfl)),
 f306:=func201.trans (congrArg some (by kernel_rfl)),
 f307:=func202.trans (congrArg some (by kernel_rfl)),
 f308:=func203.trans (congrArg some (by kernel_rfl)),
 f309:=func204.trans (congrArg some (by kernel_rfl)),
 f310:=func205.trans (congrArg some (by kernel_rfl)),
 f329:=func211.trans (congrArg some (by kernel_rfl)),
 f330:=func212.trans (congrArg some (by kernel_rfl)),
 f333:=func210.trans (congrArg some (by kernel_rfl)),
 f334:=func213.trans (congrArg some (by kernel_rfl)),
 f335:=func214.trans (congrArg some (by kernel_rfl)),
 f336:=func215.trans (congrArg some (by kernel_rfl)),
 f344:=func219.trans (congrArg some (by kernel_rfl)),
 t0:=underlying0,
 a0:=Tryz.isAgg0,
 z0:=Tryz.sizeOf0,
 v0:=Tryz.zeroValue0,
 t3:=underlying3,
 a3:=Tryz.isAgg3,
 z3:=Tryz.sizeOf3,
 v3:=Tryz.zeroValue3,
 t4:=underlying4,
 a4:=Tryz.isAgg4,
 z4:=Tryz.sizeOf4,
 v4:=Tryz.zeroValue4,
 t5:=underlying5,
 a5:=Tryz.isAgg5,
 z5:=Tryz.sizeOf5,
 v5:=Tryz.zeroValue5,
 t9:=underlying9,
 a9:=Tryz.isAgg9,
 z9:=Tryz.sizeOf9,
 v9:=Tryz.zeroValue9,
 t31:=underlying67,
 a31:=Tryz.isAgg67,
 z31:=Tryz.sizeOf67,
 v31:=Tryz.zeroValue67,
 t46:=underlying165,
 a46:=Tryz.isAgg165,
 z46:=Tryz.sizeOf165,
 v46:=Tryz.zeroValue165,
 t51:=underlying214,
 a51:=Tryz.isAgg214,
 z51:=Tryz.sizeOf214,
 v51:=Tryz.zeroValue214,
 t53:=underlying216,
 a53:=Tryz.isAgg216,
 z53:=Tryz.sizeOf216,
 v53:=Tryz.zeroValue216,
 t131:=underlying167,
 a131:=Tryz.isAgg167,
 z131:=Tryz.sizeOf167,
 v131:=Tryz.zeroValue167,
 t182:=underlying206,
 a182:=Tryz.isAgg206,
 z182:=Tryz.sizeOf206,
 v182:=Tryz.zeroValue206,
 t183:=underlying207,
 a183:=Tryz.isAgg207,
 z183:=Tryz.sizeOf207,
 v183:=Tryz.zeroValue207,
 t218:=underlying221,
 a218:=Tryz.isAgg221,
 z218:=Tryz.sizeOf221,
 v218:=Tryz.zeroValue221,
 t222:=underlying225,
 a222:=Tryz.isAgg225,
 z222:=Tryz.sizeOf225,
 v222:=Tryz.zeroValue225,
 t228:=underlying229,
 a228:=Tryz.isAgg229,
 z228:=Tryz.sizeOf229,
 v228:=Tryz.zeroValue229,
 t229:=underlying230,
 a229:=Tryz.isAgg230,
 z229:=Tryz.sizeOf230,
 v229:=Tryz.zeroValue230}
theorem D0{e:TypeId}{xs:aE}(hn:xs.length<4611686018427387904):Ll prog 155 e 1 (xs.map tx) ((kz xs).map tx):=Ij VZ hn
def HA:Ren:=⟨fun|171=>191|243=>208|246=>216|283=>220|284=>221|285=>222|286=>223|129=>207|317=>229|318=>230|319=>231|320=>232|337=>236|338=>237|n=>n,fun|3=>3|9=>9|2=>2|4=>4|171=>232|0=>0|53=>216|37=>22|5=>5|173=>234|212=>244|51=>214|20=>20|213=>245|46=>165|232=>258|233=>259|n=>n,fun|17=>0|18=>3|19=>4|n=>n⟩
theorem VX:Lays.n171 prog HA:= {
 mixed:=by kernel_rfl,
 f129:=func207.trans (congrArg some (by kernel_rfl)),
 f171:=func191.trans (congrArg some (by kernel_rfl)),
 f243:=func208.trans (congrArg some (by kernel_rfl)),
 f246:=func216.trans (congrArg some (by kernel_rfl)),
 f283:=func220.trans (congrArg some (by kernel_rfl)),
 f284:=func221.trans (congrArg some (by kernel_rfl)),
 f285:=func222.trans (congrArg some (by kernel_rfl)),
 f286:=func223.trans (congrArg some (by kernel_rfl)),
 f317:=func229.trans (congrArg some (by kernel_rfl)),
 f318:=func230.trans (congrArg some (by kernel_rfl)),
 f319:=func231.trans (congrArg some (by kernel_rfl)),
 f320:=func232.trans (congrArg some (by kernel_rfl)),
 f337:=func236.trans (congrArg some (by kernel_rfl)),
 f338:=func237.trans (congrArg some (by kernel_rfl)),
 t0:=underlying0,
 a0:=Tryz.isAgg0,
 z0:=Tryz.sizeOf0,
 v0:=Tryz.zeroValue0,
 t2:=underlying2,
 a2:=Tryz.isAgg2,
 z2:=Tryz.sizeOf2,
 v2:=Tryz.zeroValue2,
 t3:=underlying3,
 a3:=Tryz.isAgg3,
 z3:=Tryz.sizeOf3,
 v3:=Tryz.zeroValue3,
 t4:=underlying4,
 a4:=Tryz.isAgg4,
 z4:=Tryz.sizeOf4,
 v4:=Tryz.zeroValue4,
 t5:=underlying5,
 a5:=Tryz.isAgg5,
 z5:=Tryz.sizeOf5,
 v5:=Tryz.zeroValue5,
 t9:=underlying9,
 a9:=Tryz.isAgg9,
 z9:=Tryz.sizeOf9,
 v9:=Tryz.zeroValue9,
 t20:=underlying20,
 a20:=Tryz.isAgg20,
 z20:=Tryz.sizeOf20,
 v20:=Tryz.zeroValue20,
 t37:=underlying22,
 a37:=Tryz.isAgg22,
 z37:=Tryz.sizeOf22,
 v37:=Tryz.zeroValue22,
 t46:=underlying165,
 a46:=Tryz.isAgg165,
 z46:=Tryz.sizeOf165,
 v46:=Tryz.zeroValue165,
 t51:=underlying214,
 a51:=Tryz.isAgg214,
 z51:=Tryz.sizeOf214,
 v51:=Tryz.zeroValue214,
 t53:=underlying216,
 a53:=Tryz.isAgg216,
 z53:=Tryz.sizeOf216,
 v53:=Tryz.zeroValue216,
 t171:=underlying232,
 a171:=Tryz.isAgg232,
 z171:=Tryz.sizeOf232,
 v171:=Tryz.zeroValue232,
 t173:=underlying234,
 a173:=Tryz.isAgg234,
 z173:=Tryz.sizeOf234,
 v173:=Tryz.zeroValue234,
 t212:=underlying244,
 a212:=Tryz.isAgg244,
 z212:=Tryz.sizeOf244,
 v212:=Tryz.zeroValue244,
 t213:=underlying245,
 a213:=Tryz.isAgg245,
 z213:=Tryz.sizeOf245,
 t232:=underlying258,
 a232:=Tryz.isAgg258,
 z232:=Tryz.sizeOf258,
 v232:=Tryz.zeroValue258,
 t233:=underlying259,
 a233:=Tryz.isAgg259,
 z233:=Tryz.sizeOf259,
 v233:=Tryz.zeroValue259,
 g17:=by kernel_rfl,
 g18:=by kernel_rfl,
 g19:=by kernel_rfl}
theorem T4:LaysM.n171 prog HA:= {VX with
 i0:=by kernel_rfl,
 i2:=by kernel_rfl,
 i3:=by kernel_rfl,
 i4:=by kernel_rfl,
 i5:=by kernel_rfl,
 i9:=by kernel_rfl,
 i20:=by kernel_rfl,
 i37:=by kernel_rfl,
 i46:=by kernel_rfl,
 i51:=by kernel_rfl,
 i53:=by kernel_rfl,
 i171:=by kernel_rfl,
 i173:=by kernel_rfl,
 i212:=by kernel_rfl,
 i232:=by kernel_rfl,
 i233:=by kernel_rfl,
 m17:=by kernel_rfl,
 m18:=by kernel_rfl,
 m19:=by kernel_rfl}
def wG(aC:Int):Option Bytes:=(fun n:Int=>some (Lib.itoa n)) aC
theorem DG{aC:Int}{r:Bytes}(h:wG aC=some r):Good prog 191 [.int .i64 aC] (.str r):=by cases h;exact Md T4 (g:=0) (by kernel_rfl) (aB (i:=0) (by kernel_rfl))
def Bw:Ren:=⟨fun|172=>209|244=>217|245=>218|247=>224|279=>225|280=>226|281=>227|282=>228|287=>233|316=>234|171=>191|205=>235|321=>238|322=>239|243=>208|246=>216|283=>220|284=>221|285=>222|286=>223|129=>207|317=>229|318=>230|319=>231|320=>232|337=>236|338=>237|n=>n,fun|9=>9|3=>3|75=>218|76=>219|4=>4|5=>5|167=>236|37=>22|0=>0|85=>237|2=>2|168=>239|53=>216|175=>247|46=>165|210=>251|127=>254|145=>257|143=>255|21=>21|171=>232|173=>234|212=>244|51=>214|20=>20|213=>245|232=>258|233=>259|80=>260|n=>n,fun|15=>1|16=>2|17=>0|18=>3|19=>4|n=>n⟩
theorem VY:Lays.n172 prog Bw:= {
 mixed:=by kernel_rfl,
 f129:=func207.trans (congrArg some (by kernel_rfl)),
 f171:=func191.trans (congrArg some (by kernel_rfl)),
 f172:=func209.trans (congrArg some (by kernel_rfl)),
 f205:=func235.trans (congrArg some (by kernel_rfl)),
 f243:=func208.trans (congrArg some (by kernel_rfl)),
 f244:=func217.trans (congrArg some (by kernel_rfl)),
 f245:=func218.trans (congrArg some (by kernel_rfl)),
 f246:=func216.trans (congrArg some (by kernel_rfl)),
 f247:=func224.trans (congrArg some (by kernel_rfl)),
 f279:=func225.trans (congrArg some (by kernel_rfl)),
 f280:=func226.trans (congrArg some (by kernel_rfl)),
 f281:=func227.trans (congrArg some (by kernel_rfl)),
 f282:=func228.trans (congrArg some (by kernel_rfl)),
 f283:=func220.trans (congrArg some (by kernel_rfl)),
 f284:=func221.trans (congrArg some (by kernel_rfl)),
 f285:=func222.trans (congrArg some (by kernel_rfl)),
 f286:=func223.trans (congrArg some (by kernel_rfl)),
 f287:=func233.trans (congrArg some (by kernel_rfl)),
 f316:=func234.trans (congrArg some (by kernel_rfl)),
 f317:=func229.trans (congrArg some (by kernel_rfl)),
 f318:=func230.trans (congrArg some (by kernel_rfl)),
 f319:=func231.trans (congrArg some (by kernel_rfl)),
 f320:=func232.trans (congrArg some (by kernel_rfl)),
 f321:=func238.trans (congrArg some (by kernel_rfl)),
 f322:=func239.trans (congrArg some (by kernel_rfl)),
 f337:=func236.trans (congrArg some (by kernel_rfl)),
 f338:=func237.trans (congrArg some (by kernel_rfl)),
 t0:=underlying0,
 a0:=Tryz.isAgg0,
 z0:=Tryz.sizeOf0,
 v0:=Tryz.zeroValue0,
 t2:=underlying2,
 a2:=Tryz.isAgg2,
 z2:=Tryz.sizeOf2,
 v2:=Tryz.zeroValue2,
 t3:=underlying3,
 a3:=Tryz.isAgg3,
 z3:=Tryz.sizeOf3,
 v3:=Tryz.zeroValue3,
 t4:=underlying4,
 a4:=Tryz.isAgg4,
 z4:=Tryz.sizeOf4,
 v4:=Tryz.zeroValue4,
 t5:=underlying5,
 a5:=Tryz.isAgg5,
 z5:=Tryz.sizeOf5,
 v5:=Tryz.zeroValue5,
 t9:=underlying9,
 a9:=Tryz.isAgg9,
 z9:=Tryz.sizeOf9,
 v9:=Tryz.zeroValue9,
 t20:=underlying20,
 a20:=Tryz.isAgg20,
 z20:=Tryz.sizeOf20,
 v20:=Tryz.zeroValue20,
 t21:=underlying21,
 a21:=Tryz.isAgg21,
 z21:=Tryz.sizeOf21,
 v21:=Tryz.zeroValue21,
 t37:=underlying22,
 a37:=Tryz.isAgg22,
 z37:=Tryz.sizeOf22,
 v37:=Tryz.zeroValue22,
 t46:=underlying165,
 a46:=Tryz.isAgg165,
 z46:=Tryz.sizeOf165,
 v46:=Tryz.zeroValue165,
 t51:=underlying214,
 a51:=Tryz.isAgg214,
 z51:=Tryz.sizeOf214,
 v51:=Tryz.zeroValue214,
 t53:=underlying216,
 a53:=Tryz.isAgg216,
 z53:=Tryz.sizeOf216,
 v53:=Tryz.zeroValue216,
 t75:=underlying218,
 a75:=Tryz.isAgg218,
 z75:=Tryz.sizeOf218,
 v75:=Tryz.zeroValue218,
 t76:=underlying219,
 a76:=Tryz.isAgg219,
 z76:=Tryz.sizeOf219,
 v76:=Tryz.zeroValue219,
 t85:=underlying237,
 a85:=Tryz.isAgg237,
 z85:=Tryz.sizeOf237,
 v85:=Tryz.zeroValue237,
 t127:=underlying254,
 a127:=Tryz.isAgg254,
 z127:=Tryz.sizeOf254,
 v127:=Tryz.zeroValue254,
 t143:=underlying255,
 a143:=Tryz.isAgg255,
 z143:=Tryz.sizeOf255,
 v143:=Tryz.zeroValue255,
 t145:=underlying257,
 a145:=Tryz.isAgg257,
 z145:=Tryz.sizeOf257,
 v145:=Tryz.zeroValue257,
 t167:=underlying236,
 a167:=Tryz.isAgg236,
 z167:=Tryz.sizeOf236,
 v167:=Tryz.zeroValue236,
 t168:=underlying239,
 a168:=Tryz.isAgg239,
 z168:=Tryz.sizeOf239,
 v168:=Tryz.zeroValue239,
 t171:=underlying232,
 a171:=Tryz.isAgg232,
 z171:=Tryz.sizeOf232,
 v171:=Tryz.zeroValue232,
 t173:=underlying234,
 a173:=Tryz.isAgg234,
 z173:=Tryz.sizeOf234,
 v173:=Tryz.zeroValue234,
 t175:=underlying247,
 a175:=Tryz.isAgg247,
 z175:=Tryz.sizeOf247,
 v175:=Tryz.zeroValue247,
 t210:=underlying251,
 a210:=Tryz.isAgg251,
 z210:=Tryz.sizeOf251,
 v210:=Tryz.zeroValue251,
 t212:=underlying244,
 a212:=Tryz.isAgg244,
 z212:=Tryz.sizeOf244,
 v212:=Tryz.zeroValue244,
 t213:=underlying245,
 a213:=Tryz.isAgg245,
 z213:=Tryz.sizeOf245,
 t232:=underlying258,
 a232:=Tryz.isAgg258,
 z232:=Tryz.sizeOf258,
 v232:=Tryz.zeroValue258,
 t233:=underlying259,
 a233:=Tryz.isAgg259,
 z233:=Tryz.sizeOf259,
 v233:=Tryz.zeroValue259,
 g15:=by kernel_rfl,
 g16:=by kernel_rfl,
 g17:=by kernel_rfl,
 g18:=by kernel_rfl,
 g19:=by kernel_rfl}
theorem T5:LaysM.n172 prog Bw:= {VY with
 t80:=underlying260,
 a80:=Tryz.isAgg260,
 z80:=Tryz.sizeOf260,
 v80:=Tryz.zeroValue260,
 i0:=by kernel_rfl,
 i2:=by kernel_rfl,
 i3:=by kernel_rfl,
 i4:=by kernel_rfl,
 i5:=by kernel_rfl,
 i9:=by kernel_rfl,
 i20:=by kernel_rfl,
 i21:=by kernel_rfl,
 i37:=by kernel_rfl,
 i46:=by kernel_rfl,
 i51:=by kernel_rfl,
 i53:=by kernel_rfl,
 i75:=by kernel_rfl,
 i76:=by kernel_rfl,
 i80:=by kernel_rfl,
 i85:=by kernel_rfl,
 i127:=by kernel_rfl,
 i143:=by kernel_rfl,
 i145:=by kernel_rfl,
 i167:=by kernel_rfl,
 i168:=by kernel_rfl,
 i171:=by kernel_rfl,
 i173:=by kernel_rfl,
 i175:=by kernel_rfl,
 i210:=by kernel_rfl,
 i212:=by kernel_rfl,
 i232:=by kernel_rfl,
 i233:=by kernel_rfl,
 m15:=by kernel_rfl,
 m16:=by kernel_rfl,
 m17:=by kernel_rfl,
 m18:=by kernel_rfl,
 m19:=by kernel_rfl}
theorem T3:LaysC.n172 prog Bw:= {T5 with
 c0:=by kernel_rfl,
 c2:=by kernel_rfl,
 c3:=by kernel_rfl,
 c4:=by kernel_rfl,
 c5:=by kernel_rfl,
 c9:=by kernel_rfl,
 c20:=by kernel_rfl,
 c21:=by kernel_rfl,
 c37:=by kernel_rfl,
 c46:=by kernel_rfl,
 c51:=by kernel_rfl,
 c53:=by kernel_rfl,
 c75:=by kernel_rfl,
 c76:=by kernel_rfl,
 c80:=by kernel_rfl,
 c85:=by kernel_rfl,
 c127:=by kernel_rfl,
 c143:=by kernel_rfl,
 c145:=by kernel_rfl,
 c167:=by kernel_rfl,
 c168:=by kernel_rfl,
 c171:=by kernel_rfl,
 c173:=by kernel_rfl,
 c175:=by kernel_rfl,
 c210:=by kernel_rfl,
 c212:=by kernel_rfl,
 c213:=by kernel_rfl,
 c232:=by kernel_rfl,
 c233:=by kernel_rfl}
def wF(aC:Bytes):Option (Int×Bool):=Ku aC
theorem DF{aC:Bytes}{r:Int×Bool}(h:wF aC=some r):Good prog 209 [.str aC] (.iE [.int .i64 r.1,.WZ r.2]):=Mc T3 (g:=1) (by kernel_rfl) (aB (i:=1) (by kernel_rfl)) h
end Go.Cx
namespace Go.Cx
open Go.RowKit Go.Proofs Tryz
set_option maxRecDepth 100000
variable{Γ:pG}{N:Nat->St->Prop}
def pU(aC:tX):Option (tX×Int):=(bif decide ((aC.i:Int)<((aC.b.map yx).length:Int))then((sK aC.b aC.i).bind fun x2=>(some ((⟨aC.b,IntKind.i64.wrap (aC.i+1),IntKind.i64.wrap ((IntKind.i64.wrap (aC.h*6364136223846793005))+1442695040888963407)⟩:tX),M1 .i64 (IntKind.i64.wrap ((M1 .i64 (P4 .i64 (N8 .i64 (IntKind.i64.wrap ((IntKind.i64.wrap (aC.h*6364136223846793005))+1442695040888963407)) 35) (N8 .i64 (IntKind.i64.wrap ((IntKind.i64.wrap (aC.h*6364136223846793005))+1442695040888963407)) 45)) 255)+(IntKind.i64.wrap x2))) 255)))else(some ((⟨aC.b,aC.i,IntKind.i64.wrap ((IntKind.i64.wrap (aC.h*6364136223846793005))+1442695040888963407)⟩:tX),M1 .i64 (P4 .i64 (N8 .i64 (IntKind.i64.wrap ((IntKind.i64.wrap (aC.h*6364136223846793005))+1442695040888963407)) 35) (N8 .i64 (IntKind.i64.wrap ((IntKind.i64.wrap (aC.h*6364136223846793005))+1442695040888963407)) 45)) 255)))
theorem oO{aC:tX}{r:tX×Int}(h:pU aC=some r):qm prog 96 (tX.c aC) (tX.c r.1) [] (D.int .i64 r.2):=by
 refine S7 func96 [[none,none,none],[none]] 58 [D.sl (aC.b.map yx),D.int .i64 aC.i,D.int .i64 aC.h] [] [] fun hr dU Γ hΓ=>?_
 rw[pU]at h;obtain⟨h1,h⟩|⟨h1,h⟩:=aN h
 ·obtain⟨x2,h3,h⟩:=aF h;cases h;exact((((aT.a [.n 10,.n 9]).b h1).a [.n 12]).l (oL yx 1 h3 rfl)).ret hΓ
 ·cases h;exact((aT.a [.n 10,.n 9]).b h1).ret hΓ
def sX(aC:tX)(aZ:Int):Option (tX×Int):=(bif decide ((aZ:Int)<=0)then(some (aC,0))else(bif decide ((aZ:Int)<=256)then((pU aC).bind fun y3=>(bif decide (0<=(y3.2:Int))&&decide (0<(aZ:Int))then(some (y3.1,(y3.2:Int)%aZ))else none))else((pU aC).bind fun y6=>((pU y6.1).bind fun y8=>((pU y8.1).bind fun C8=>(bif decide (0<=(IntKind.i64.wrap ((IntKind.i64.wrap ((IntKind.i64.wrap (y6.2*65536))+(IntKind.i64.wrap (y8.2*256))))+C8.2):Int))&&decide (0<(aZ:Int))then(some (C8.1,(IntKind.i64.wrap ((IntKind.i64.wrap ((IntKind.i64.wrap (y6.2*65536))+(IntKind.i64.wrap (y8.2*256))))+C8.2):Int)%aZ))else none))))))
theorem v7{aC:tX}{aZ:Int}{r:tX×Int}(h:sX aC aZ=some r):qm prog 51 (tX.c aC) (tX.c r.1) [D.int .i64 aZ] (D.int .i64 r.2):=by
 refine S7 func51 [[none,none,none],[none]] 31 [D.sl (aC.b.map yx),D.int .i64 aC.i,D.int .i64 aC.h] [D.int .i64 aZ] [] fun hr dU Γ hΓ=>?_
 rw[sX]at h;obtain⟨h1,h⟩|⟨h1,h⟩:=aN h
 ·cases h;exact(aT.b h1).ret hΓ
 ·obtain⟨h2,h⟩|⟨h2,h⟩:=aN h
  ·obtain⟨y3,h4,h⟩:=aF h;obtain⟨h5,h⟩:=bu h;cases h;exact((((aT.b h1).b h2).hp [[none,none,none]] (oO h4)).w (Gk .i64 h5)).ret hΓ
  ·obtain⟨y6,h7,h⟩:=aF h;obtain⟨y8,h9,h⟩:=aF h;obtain⟨C8,h11,h⟩:=aF h;obtain⟨h12,h⟩:=bu h;cases h;exact((((((aT.b h1).b h2).hp [[none,none,none]] (oO h7)).hp [[none,none,none]] (oO h9)).hp [[none,none,none]] (oO h11)).w (Gk .i64 h12)).ret hΓ
def xM(aC:tX)(aZ:Int):Option (tX×Bool):=((sX aC aZ).bind fun y1=>(some (y1.1,(y1.2:Int)==0)))
theorem wD{aC:tX}{aZ:Int}{r:tX×Bool}(h:xM aC aZ=some r):qm prog 21 (tX.c aC) (tX.c r.1) [D.int .i64 aZ] (D.bool r.2):=by
 refine S7 func21 [[none,none,none],[none]] 9 [D.sl (aC.b.map yx),D.int .i64 aC.i,D.int .i64 aC.h] [D.int .i64 aZ] [] fun hr dU Γ hΓ=>?_
 rw[xM]at h;obtain⟨y1,h2,h⟩:=aF h;cases h;exact(aT.hp [[none,none,none],[none]] (v7 h2)).ret hΓ
def vN(aC:tX)(aZ:aE):Option (tX×Bytes):=((sX aC ((aZ.map tx).length:Int)).bind fun y1=>((sK aZ y1.2).bind fun x3=>(some (y1.1,x3))))
theorem xB{aC:tX}{aZ:aE}{r:tX×Bytes}(h:vN aC aZ=some r):qm prog 100 (tX.c aC) (tX.c r.1) [D.fr 9 1 (aZ.map tx)] (D.str r.2):=by
 refine S7 func100 [[none,none,none],[none]] 12 [D.sl (aC.b.map yx),D.int .i64 aC.i,D.int .i64 aC.h] [D.acc 1] [Ob.row .uq 9 1 (aZ.map tx)] fun hr dU Γ hΓ=>?_
 rw[vN]at h;obtain⟨y1,h2,h⟩:=aF h;obtain⟨x3,h4,h⟩:=aF h;cases h;exact(((aT.hp [[none,none,none],[none]] (v7 h2)).i (J1 tx 1 h4)).o 1 1 .uq (fX tx (Ex h4))).ret hΓ
def xL(aC:tX):Option (tX×Bytes):=((vN aC ([[97],[98],[99],[49],[50]]:aE)).bind fun y1=>(some (y1.1,y1.2)))
theorem EJ{aC:tX}{r:tX×Bytes}(h:xL aC=some r):qm prog 169 (tX.c aC) (tX.c r.1) [] (D.str r.2):=by
 refine S7 func169 [[none,none,none],[none]] 6 [D.sl (aC.b.map yx),D.int .i64 aC.i,D.int .i64 aC.h] [] [] fun hr dU Γ hΓ=>?_
 rw[xL]at h;obtain⟨y1,h2,h⟩:=aF h;cases h;exact(aT.hp [[none,none,none],[some (9,1)]] (xB h2)).ret hΓ
def xN(aC:tX):Option (tX×Bytes):=((xM aC 4).bind fun y1=>(bif y1.2 then((xL y1.1).bind fun y4=>(some (y4.1,y4.2)))else((vN y1.1 ([[63,120],[63,121],[63,122]]:aE)).bind fun y6=>(some (y6.1,y6.2)))))
theorem EK{aC:tX}{r:tX×Bytes}(h:xN aC=some r):qm prog 170 (tX.c aC) (tX.c r.1) [] (D.str r.2):=by
 refine S7 func170 [[none,none,none],[none]] 10 [D.sl (aC.b.map yx),D.int .i64 aC.i,D.int .i64 aC.h] [] [] fun hr dU Γ hΓ=>?_
 rw[xN]at h;obtain⟨y1,h2,h⟩:=aF h;obtain⟨h3,h⟩|⟨h3,h⟩:=aN h
 ·obtain⟨y4,h5,h⟩:=aF h;cases h;exact(((aT.hp [[none,none,none],[none]] (wD h2)).b h3).hp [[none,none,none]] (EJ h5)).ret hΓ
 ·obtain⟨y6,h7,h⟩:=aF h;cases h;exact(((aT.hp [[none,none,none],[none]] (wD h2)).b h3).hp [[none,none,none],[some (9,1)]] (xB h7)).ret hΓ
def qg(y1:tX×(Bytes×Int))(k1:bZ->Int->Int->aE->Option (tX×aL)):Nat->Int->bZ->Int->Int->aE->Option (tX×aL)
 |0,_,_,_,_,_=>none
 |n1+1,sn,zO,wV,wW,eL=>(bif decide ((sn:Int)<y1.2.2)then((xN (⟨zO,wV,wW⟩:tX)).bind fun Gq=>(bif room ((eL.map tx).length+([[D.str Gq.2]]).length) 16 then(qg y1 k1 n1 (IntKind.i64.wrap (sn+1)) Gq.1.b Gq.1.i Gq.1.h (eL++([Gq.2])))else none))else(k1 zO wV wW eL))
def yG(dU:Value)(y1:tX×(Bytes×Int))(sn:Int)(wV:Int)(wW:Int)(W1:List aK)(W4:List aK):St:=⟨[(0,D.ptr 0 0),(2,D.ptr 1 0),(4,D.int .i64 y1.2.2),(5,D.ptr 2 0),(6,D.int .i64 sn)],[Ob.Gj [D.sl W1,D.int .i64 wV,D.int .i64 wW] dU,Ob.box [D.str ([]),D.nil],Ob.box [D.str y1.2.1,D.acc 3],Ob.row .uq 9 1 W4]⟩
theorem P8(hΓ:Γ.nt=27){dU:Value}{y1:tX×(Bytes×Int)}{r:tX×aL}{k1:bZ->Int->Int->aE->Option (tX×aL)}(dQ:∀(TR:bZ) (TS:Int) (TT:Int) (kI:aE),k1 TR TS TT kI=some r->Ax Γ N f144 (.p [[none,none,none],[none,some (9,1)]] dU (tX.c r.1) (D.agg [D.str r.2.rel,D.fr 9 1 (r.2.args.map tx)])) [1,1,1,1] ⟨[(2,D.ptr 1 0),(5,D.ptr 2 0)],[Ob.Gj [D.sl (TR.map yx),D.int .i64 TS,D.int .i64 TT] dU,Ob.box [D.str ([]),D.nil],Ob.box [D.str y1.2.1,D.acc 3],Ob.row .uq 9 1 (kI.map tx)]⟩):∀(n1:Nat) (sn:Int) (zO:bZ) (wV:Int) (wW:Int) (eL:aE),qg y1 k1 n1 sn zO wV wW eL=some r->Ar Γ N f144 (.p [[none,none,none],[none,some (9,1)]] dU (tX.c r.1) (D.agg [D.str r.2.rel,D.fr 9 1 (r.2.args.map tx)])) [1,1,1,0,1,0] n1 (yG dU y1 sn wV wW (zO.map yx) (eL.map tx)):=by
 intro n
 induction n with
 |zero=>intro sn zO wV wW eL h;simp[qg]at h
 |succ n1 ih1=>
  intro sn zO wV wW eL h;rw[qg]at h;refine aO fun N1 cN cI=>?_
  obtain⟨h27,h⟩|⟨h27,h⟩:=aN h
  ·obtain⟨Gq,h31,h⟩:=aF h;obtain⟨h32,h⟩:=bu h;exact(((((aT.b h27).a [.n2 [0,1,2,3,4,5,6,7] [0,1,2,3,4,5,6,7] 3 5 [0,1] [0],.gp [[none,none,none]] (tX.c Gq.1) (D.str Gq.2)]).w (show qm prog 170 (tX.c (⟨zO,wV,wW⟩:tX)) (tX.c Gq.1) [] (D.str Gq.2)from by simpa only[bR,bI,bP,eM,dl]using EK h31)).w (cT h32)).a [.cn [0,2,4,5,6] [0,1,2,5]]).cs hΓ cI (yG dU y1 (IntKind.i64.wrap (sn+1)) Gq.1.i Gq.1.h (Gq.1.b.map yx) ((eL.map tx)++([[D.str Gq.2]]))) (by first| (simp only[mA]<;>rfl)| (simp only[mA,aL.c,aS.c,aI.c,Action.c,aH.c,aq.c,fW.c,aW.c,Node.c,aR.c,fc.c]<;>rfl)) (ih1 (IntKind.i64.wrap (sn+1)) Gq.1.b Gq.1.i Gq.1.h (eL++([Gq.2])) h)
  ·exact((aT.b h27).a [.hl 0 [2,5] [0,1,2,3]]).ex hΓ cN (dQ zO wV wW eL h)
def kU(aC:Int)(aZ:Int)(eZ:Int):Option Bool:=(bif decide ((aC:Int)>=aZ)then(some (decide ((aC:Int)<=eZ)))else(some false))
theorem kD{aC:Int}{aZ:Int}{eZ:Int}{r:Bool}(h:kU aC aZ eZ=some r):Good prog 64 [D.int .i64 aC,D.int .i64 aZ,D.int .i64 eZ] (D.bool r):=by
 refine gd func64 [[none]] 15 fun hr Γ hΓ=>?_
 rw[kU]at h;obtain⟨h1,h⟩|⟨h1,h⟩:=aN h
 ·cases h;exact(aT.r 4 h1).ret hΓ
 ·have h:=aJ h;subst h;exact(aT.r 4 h1).ret hΓ
def gi(aC:Bytes)(k1:Option Bool):Nat->Int->Option Bool
 |0,_=>none
 |n1+1,kK=>(bif decide ((kK:Int)<(aC.length:Int))then((sK aC kK).bind fun b29=>((kU (IntKind.i64.wrap b29.toNat) 97 122).bind fun Ps=>(bif !(Ps)then((kU (IntKind.i64.wrap b29.toNat) 48 57).bind fun DN=>(bif !(DN)then(some false)else(gi aC k1 n1 (IntKind.i64.wrap (kK+1)))))else(gi aC k1 n1 (IntKind.i64.wrap (kK+1))))))else(k1))
def nH(aC:Bytes):Option Bool:=(gi aC ((kU (aC.length:Int) 1 8).bind fun LY=>(some LY)) fuel 0)
def GV(aC:Bytes)(kK:Int):St:=⟨[(0,D.str aC),(3,D.int .i64 kK)],[]⟩
theorem FL(hΓ:Γ.nt=27){aC:Bytes}{r:Bool}{k1:Option Bool}(dQ:k1=some r->Ax Γ N f119 (.q [[none]] (D.bool r)) [1,1] ⟨[(0,D.str aC)],[]⟩):∀(n1:Nat) (kK:Int),gi aC k1 n1 kK=some r->Ar Γ N f119 (.q [[none]] (D.bool r)) [1,0,1,0] n1 (GV aC kK):=by
 intro n
 induction n with
 |zero=>intro kK h;simp[gi]at h
 |succ n1 ih1=>
  intro kK h;rw[gi]at h;refine aO fun N1 cN cI=>?_
  obtain⟨h28,h⟩|⟨h28,h⟩:=aN h
  ·obtain⟨b29,h30,h⟩:=aF h;obtain⟨Ps,h32,h⟩:=aF h;have oR:=(((aT.b h28).c h30).g (kD h32))
   obtain⟨h33,h⟩|⟨h33,h⟩:=aN h
   ·obtain⟨DN,h35,h⟩:=aF h;have nS:=(((((oR.r 3 h33).c h30).r 2 h33).g (kD h35)).r 2 h33)
    obtain⟨h36,h⟩|⟨h36,h⟩:=aN h
    ·have h:=aJ h;subst h;exact(nS.b h36).ret hΓ
    ·exact((nS.b h36).a [.cn [0,3] []]).cf hΓ cI (ih1 (IntKind.i64.wrap (kK+1)) h)
   ·exact(((oR.r 7 h33).F 1).a [.cn [0,3] []]).cf hΓ cI (ih1 (IntKind.i64.wrap (kK+1)) h)
  ·exact((aT.b h28).a [.hl 0 [0] []]).ex hΓ cN (dQ h)
theorem mF{aC:Bytes}{r:Bool}(h:nH aC=some r):Good prog 119 [D.str aC] (D.bool r):=by
 refine gd func119 [[none]] 27 fun hr Γ hΓ=>?_
 rw[nH]at h;refine(aT.a [.cn [0,3] []]).lp hΓ (FL hΓ (fun h=>?_) fuel 0 h);obtain⟨LY,h38,h⟩:=aF h;have h:=aJ h;subst h;exact(aT.g (kD h38)).ret hΓ
def kM(aC:Bytes):Option Bool:=(bif decide (((aC.length:Int):Int)>1)then((sK aC 0).bind fun b2=>(bif (b2.toNat:Int)==63 then((HY aC.length (some (D.int .i64 1)) none).bind fun p=>(fun l5 u6=>((nH ((aC.take u6).drop l5)).bind fun y8=>(some y8))) p.1 p.2)else(some false)))else(some false))
theorem jH{aC:Bytes}{r:Bool}(h:kM aC=some r):Good prog 123 [D.str aC] (D.bool r):=by
 refine gd func123 [[none]] 16 fun hr Γ hΓ=>?_
 rw[kM]at h;obtain⟨h1,h⟩|⟨h1,h⟩:=aN h
 ·obtain⟨b2,h3,h⟩:=aF h;have nL:=(((aT.r 2 h1).c h3).r 2 h1)
  obtain⟨h4,h⟩|⟨h4,h⟩:=aN h
  ·obtain⟨⟨l5,u6⟩,h7,h⟩:=aF h;obtain⟨y8,h9,h⟩:=aF h;have h:=aJ h;subst h;exact((((((nL.r 2 h4).w h7).a [.cut l5 u6]).b h4).g (mF h9)).b h4).ret hΓ
  ·have h:=aJ h;subst h;exact(nL.r 4 h4).ret hΓ
 ·have h:=aJ h;subst h;exact((aT.r 4 h1).F 4).ret hΓ
def dS(aC:aE)(aZ:Bytes)(k1:Bool->aE->Option aE):aE->Nat->Bool->aE->Option aE
 | [],i1,sn,bK=>(k1 sn bK)
 |bC::cE,i1,sn,bK=>(bif !(sn)then(bif !(Op.bytesLess bC aZ)then(bif !((bC:Bytes)==aZ)then(bif room ((bK.map tx).length+([[D.str aZ]]).length) 16 then(bif room (((bK.map tx)++([[D.str aZ]])).length+([[D.str bC]]).length) 16 then(dS aC aZ k1 cE (i1+1) true ((bK++([aZ]))++([bC])))else none)else none)else(bif room ((bK.map tx).length+([[D.str bC]]).length) 16 then(dS aC aZ k1 cE (i1+1) true (bK++([bC])))else none))else(bif room ((bK.map tx).length+([[D.str bC]]).length) 16 then(dS aC aZ k1 cE (i1+1) sn (bK++([bC])))else none))else(bif room ((bK.map tx).length+([[D.str bC]]).length) 16 then(dS aC aZ k1 cE (i1+1) sn (bK++([bC])))else none))
def jJ(aC:aE)(aZ:Bytes):Option aE:=(dS aC aZ (fun(UL:Bool) (bf:aE)=>(bif !(UL)then(bif room ((bf.map tx).length+([[D.str aZ]]).length) 16 then(some (bf++([aZ])))else none)else(some bf))) aC 0 false ([]:aE))
def p6(aC:aE)(aZ:Bytes)(sn:Bool)(W1:List aK)(dM:Int):St:=⟨[(0,D.sl (aC.map tx)),(1,D.str aZ),(5,D.acc 0),(6,D.bool sn),(7,D.int .i64 dM)],[Ob.row .uq 9 1 W1]⟩
theorem Gc(hΓ:Γ.nt=49){aC:aE}{aZ:Bytes}{r:aE}{k1:Bool->aE->Option aE}(dQ:∀(UL:Bool) (bf:aE),k1 UL bf=some r->Ax Γ N f120 (.q [[some (9,1)]] (D.fr 9 1 (r.map tx))) [1,1,1,1] ⟨[(1,D.str aZ),(5,D.acc 0),(6,D.bool UL)],[Ob.row .uq 9 1 (bf.map tx)]⟩)(hm1:aC.length<=maxLen):∀(rest:aE) (i1:Nat) (sn:Bool) (bK:aE),aC.drop i1=rest->dS aC aZ k1 rest i1 sn bK=some r->Ar Γ N f120 (.q [[some (9,1)]] (D.fr 9 1 (r.map tx))) [1,1,1,0,1,0] (rest.length+1) (p6 aC aZ sn (bK.map tx) (i1:Int)):=by
 intro rest
 induction rest with
 |nil=>
  intro i1 sn bK b7 h;rw[dS]at h;refine aO fun N1 cN cI=>?_
  exact((aT.ge tx b7).a [.hl 0 [1,5,6] [0]]).ex hΓ cN (dQ sn bK h)
 |cons bC cE ih1=>
  intro i1 sn bK b7 h;rw[dS]at h;refine aO fun N1 cN cI=>?_
  obtain⟨h58,h⟩|⟨h58,h⟩:=aN h
  ·have oR:=((((aT.lt tx b7).r 3 h58).l (bD tx 1 (dc b7) rfl)).r 4 h58)
   obtain⟨h59,h⟩|⟨h59,h⟩:=aN h
   ·have nS:=((oR.b h59).l (bD tx 1 (dc b7) rfl))
    obtain⟨h60,h⟩|⟨h60,h⟩:=aN h
    ·obtain⟨h61,h⟩:=bu h;obtain⟨h62,h⟩:=bu h;exact(((((nS.b h60).w (cT h61)).l (bD tx 1 (dc b7) rfl)).w (cT h62)).a [.cn [0,1,5,6,7] [4]]).cs hΓ cI (p6 aC aZ true (((bK.map tx)++([[D.str aZ]]))++([[D.str bC]])) (IntKind.i64.wrap ((i1:Int)+1))) (by first| (simp only[iS b7 hm1,mA]<;>rfl)| (simp only[iS b7 hm1,mA,aL.c,aS.c,aI.c,Action.c,aH.c,aq.c,fW.c,aW.c,Node.c,aR.c,fc.c]<;>rfl)) (ih1 (i1+1) true ((bK++([aZ]))++([bC])) (dn b7) h)
    ·obtain⟨h63,h⟩:=bu h;exact((((nS.b h60).l (bD tx 1 (dc b7) rfl)).w (cT h63)).a [.cn [0,1,5,6,7] [2]]).cs hΓ cI (p6 aC aZ true ((bK.map tx)++([[D.str bC]])) (IntKind.i64.wrap ((i1:Int)+1))) (by first| (simp only[iS b7 hm1,mA]<;>rfl)| (simp only[iS b7 hm1,mA,aL.c,aS.c,aI.c,Action.c,aH.c,aq.c,fW.c,aW.c,Node.c,aR.c,fc.c]<;>rfl)) (ih1 (i1+1) true (bK++([bC])) (dn b7) h)
   ·obtain⟨h64,h⟩:=bu h;exact((((oR.b h59).l (bD tx 1 (dc b7) rfl)).w (cT h64)).a [.cn [0,1,5,6,7] [2]]).cs hΓ cI (p6 aC aZ sn ((bK.map tx)++([[D.str bC]])) (IntKind.i64.wrap ((i1:Int)+1))) (by first| (simp only[iS b7 hm1,mA]<;>rfl)| (simp only[iS b7 hm1,mA,aL.c,aS.c,aI.c,Action.c,aH.c,aq.c,fW.c,aW.c,Node.c,aR.c,fc.c]<;>rfl)) (ih1 (i1+1) sn (bK++([bC])) (dn b7) h)
  ·obtain⟨h65,h⟩:=bu h;exact((((((aT.lt tx b7).r 7 h58).F 1).l (bD tx 1 (dc b7) rfl)).w (cT h65)).a [.cn [0,1,5,6,7] [2]]).cs hΓ cI (p6 aC aZ sn ((bK.map tx)++([[D.str bC]])) (IntKind.i64.wrap ((i1:Int)+1))) (by first| (simp only[iS b7 hm1,mA]<;>rfl)| (simp only[iS b7 hm1,mA,aL.c,aS.c,aI.c,Action.c,aH.c,aq.c,fW.c,aW.c,Node.c,aR.c,fc.c]<;>rfl)) (ih1 (i1+1) sn (bK++([bC])) (dn b7) h)
theorem jK{aC:aE}{aZ:Bytes}{r:aE}(h:jJ aC aZ=some r):Good prog 120 [D.sl (aC.map tx),D.str aZ] (D.fr 9 1 (r.map tx)):=by
 refine gd func120 [[some (9,1)]] 49 fun hr Γ hΓ=>?_
 rw[jJ]at h;refine(aT.a [.cn [0,1,5,6,7] [0]]).lp hΓ (Gc hΓ (fun UL bf h=>?_) (by have:=(gm.sl (hr _ (aB (i:=0) rfl))).1;simpa using this) aC 0 false ([]:aE) rfl h);obtain⟨h66,h⟩|⟨h66,h⟩:=aN h
 ·obtain⟨h67,h⟩:=bu h;cases h;exact((aT.b h66).w (cT h67)).rts hΓ (D.fr 9 1 ((bf.map tx)++([[D.str aZ]]))) (by first|rfl| (simp only[mA]<;>rfl))
 ·have h:=aJ h;subst h;exact(aT.b h66).ret hΓ
def iy(aC:aL)(k1:aE->Option aE):aE->Nat->aE->Option aE
 | [],i1,cQ=>(k1 cQ)
 |bC::cE,i1,cQ=>((kM bC).bind fun LY=>(bif LY then((jJ cQ bC).bind fun y40=>(iy aC k1 cE (i1+1) y40))else(iy aC k1 cE (i1+1) cQ)))
def kN(aC:aL):Option aE:=(iy aC (fun(bf:aE)=>(some bf)) aC.args 0 ([]:aE))
def Gb(aC:aL)(W0:List aK)(dM:Int):St:=⟨[(1,D.ptr 0 0),(3,D.acc 1),(4,D.int .i64 dM)],[Ob.box (aL.c aC),Ob.row .uq 9 1 W0]⟩
theorem FT(hΓ:Γ.nt=27){aC:aL}{r:aE}{k1:aE->Option aE}(dQ:∀(bf:aE),k1 bf=some r->Ax Γ N f72 (.q [[some (9,1)]] (D.fr 9 1 (r.map tx))) [1,1,1] ⟨[(3,D.acc 0)],[Ob.row .uq 9 1 (bf.map tx)]⟩)(hm1:aC.args.length<=maxLen):∀(rest:aE) (i1:Nat) (cQ:aE),aC.args.drop i1=rest->iy aC k1 rest i1 cQ=some r->Ar Γ N f72 (.q [[some (9,1)]] (D.fr 9 1 (r.map tx))) [1,1,0,1,0] (rest.length+1) (Gb aC (cQ.map tx) (i1:Int)):=by
 intro rest
 induction rest with
 |nil=>
  intro i1 cQ b7 h;rw[iy]at h;refine aO fun N1 cN cI=>?_
  exact((aT.ge tx b7).a [.hl 0 [3] [1]]).ex hΓ cN (dQ cQ h)
 |cons bC cE ih1=>
  intro i1 cQ b7 h;rw[iy]at h;refine aO fun N1 cN cI=>?_
  obtain⟨LY,h38,h⟩:=aF h;have gJ:=(((aT.lt tx b7).l (bD tx 1 (dc b7) rfl)).g (jH h38))
  obtain⟨h39,h⟩|⟨h39,h⟩:=aN h
  ·obtain⟨y40,h41,h⟩:=aF h;exact((((gJ.b h39).l (bD tx 1 (dc b7) rfl)).g (jK h41)).a [.cn [1,3,4] [0,2]]).ct hΓ cI (iS b7 hm1) (ih1 (i1+1) y40 (dn b7) h)
  ·exact((gJ.b h39).a [.cn [1,3,4] [0,1]]).ct hΓ cI (iS b7 hm1) (ih1 (i1+1) cQ (dn b7) h)
theorem mG{aC:aL}{r:aE}(h:kN aC=some r):Good prog 72 [D.agg (aL.c aC)] (D.fr 9 1 (r.map tx)):=by
 refine gd func72 [[some (9,1)]] 27 fun hr Γ hΓ=>?_
 rw[kN]at h;refine(aT.a [.cn [1,3,4] [0,1]]).lp hΓ (FT hΓ (fun bf h=>?_) (by have:=(gm.sl (gm.agg (hr _ (aB (i:=0) rfl)) (.sl (aC.args.map tx)) (by simp))).1;simpa using this) aC.args 0 ([]:aE) rfl h);have h:=aJ h;subst h;exact aT.ret hΓ
def gz(aC:aH)(aZ:Int)(i1:Nat)(G7:aE)(k2:aE->Option aE):aE->Nat->aE->Option aE
 | [],i2,lP=>(k2 lP)
 |qp::yT,i2,lP=>((jJ lP qp).bind fun Yt=>(gz aC aZ i1 G7 k2 yT (i2+1) Yt))
def ed(aC:aH)(aZ:Int)(k1:aE->Option aE):aY->Nat->aE->Option aE
 | [],i1,cQ=>(k1 cQ)
 |bC::cE,i1,cQ=>(bif decide (((i1:Int):Int)<aZ)then(bif (bC.kind:Int)==1 then((kN bC.pat).bind fun G7=>(bif decide (G7.length<=maxLen)then(gz aC aZ i1 G7 (fun(wz:aE)=>(ed aC aZ k1 cE (i1+1) wz)) G7 0 cQ)else none))else(ed aC aZ k1 cE (i1+1) cQ))else(k1 cQ))
def k9(aC:aH)(aZ:Int):Option aE:=(ed aC aZ (fun(bf:aE)=>(some bf)) aC.conds 0 ([]:aE))
def D2(aC:aH)(aZ:Int)(W0:List aK)(dM:Int):St:=⟨[(1,D.int .i64 aZ),(2,D.ptr 0 0),(5,D.acc 1),(6,D.int .i64 dM)],[Ob.box (aH.c aC),Ob.row .uq 9 1 W0]⟩
def D3(aC:aH)(aZ:Int)(i1:Nat)(G7:aE)(W0:List aK)(dM:Int):St:=⟨[(1,D.int .i64 aZ),(2,D.ptr 0 0),(5,D.acc 1),(6,D.int .i64 (i1:Int)),(7,D.acc 2),(8,D.int .i64 dM)],[Ob.box (aH.c aC),Ob.row .uq 9 1 W0,Ob.row .uq 9 1 (G7.map tx)]⟩
theorem BY(hΓ:Γ.nt=49){aC:aH}{aZ:Int}{i1:Nat}{G7:aE}{r:aE}{k2:aE->Option aE}(Ho:∀(wz:aE),k2 wz=some r->Ax Γ N f65 (.q [[some (9,1)]] (D.fr 9 1 (r.map tx))) [1,1,0,1,0,0,1,1] ⟨[(1,D.int .i64 aZ),(2,D.ptr 0 0),(5,D.acc 1),(6,D.int .i64 (i1:Int))],[Ob.box (aH.c aC),Ob.row .uq 9 1 (wz.map tx)]⟩)(hm2:G7.length<=maxLen):∀(rest:aE) (i2:Nat) (lP:aE),G7.drop i2=rest->gz aC aZ i1 G7 k2 rest i2 lP=some r->Ar Γ N f65 (.q [[some (9,1)]] (D.fr 9 1 (r.map tx))) [1,1,0,1,0,0,1,0,0,1,0,1,1,0] (rest.length+1) (D3 aC aZ i1 G7 (lP.map tx) (i2:Int)):=by
 intro rest
 induction rest with
 |nil=>
  intro i2 lP hd2 h;rw[gz]at h;refine aO fun N2 Ac xP=>?_
  exact((aT.ge tx hd2).a [.hl 3 [1,2,5,6] [0,1]]).ex hΓ Ac (Ho lP h)
 |cons qp yT ih2=>
  intro i2 lP hd2 h;rw[gz]at h;refine aO fun N2 Ac xP=>?_
  obtain⟨Yt,h184,h⟩:=aF h;exact(((((aT.lt tx hd2).i (mQ tx 1 (dc hd2))).o 1 1 .uq (fX tx (dc hd2))).g (jK h184)).a [.cn [1,2,5,6,7,8] [0,3,2]]).ct hΓ xP (iS hd2 hm2) (ih2 (i2+1) Yt (dn hd2) h)
theorem BX(hΓ:Γ.nt=49){aC:aH}{aZ:Int}{r:aE}{k1:aE->Option aE}(dQ:∀(bf:aE),k1 bf=some r->Ax Γ N f65 (.q [[some (9,1)]] (D.fr 9 1 (r.map tx))) [1,1,1] ⟨[(5,D.acc 0)],[Ob.row .uq 9 1 (bf.map tx)]⟩)(hm1:aC.conds.length<=maxLen):∀(rest:aY) (i1:Nat) (cQ:aE),aC.conds.drop i1=rest->ed aC aZ k1 rest i1 cQ=some r->Ar Γ N f65 (.q [[some (9,1)]] (D.fr 9 1 (r.map tx))) [1,1,0,1,0] (rest.length+1) (D2 aC aZ (cQ.map tx) (i1:Int)):=by
 intro rest
 induction rest with
 |nil=>
  intro i1 cQ b7 h;rw[ed]at h;refine aO fun N1 cN cI=>?_
  exact((((((aT.ge aI.c b7).ge aI.c b7).ge aI.c b7).ge aI.c b7).F 1).a [.hl 0 [5] [1]]).ex hΓ cN (dQ cQ h)
 |cons bC cE ih1=>
  intro i1 cQ b7 h;rw[ed]at h;refine aO fun N1 cN cI=>?_
  have oR:=((((aT.lt aI.c b7).lt aI.c b7).lt aI.c b7).lt aI.c b7)
  obtain⟨h157,h⟩|⟨h157,h⟩:=aN h
  ·have nS:=((oR.b h157).l (bD aI.c 5 (dc b7) rfl))
   obtain⟨h158,h⟩|⟨h158,h⟩:=aN h
   ·obtain⟨G7,h160,h⟩:=aF h;obtain⟨h185,h⟩:=bu h;refine((((nS.b h158).l (bD aI.c 5 (dc b7) rfl)).g (mG h160)).a [.cn [1,2,5,6,7,8] [0,1,2]]).lp hΓ (BY hΓ (fun wz h=>?_) (bq h185) G7 0 cQ rfl h);exact(aT.a [.cn [1,2,5,6] [0,1]]).ct hΓ cI (iS b7 hm1) (ih1 (i1+1) wz (dn b7) h)
   ·exact((nS.b h158).a [.cn [1,2,5,6] [0,1]]).ct hΓ cI (iS b7 hm1) (ih1 (i1+1) cQ (dn b7) h)
  ·exact((oR.b h157).a [.hl 0 [5] [1]]).ex hΓ cN (dQ cQ h)
theorem pz{aC:aH}{aZ:Int}{r:aE}(h:k9 aC aZ=some r):Good prog 65 [D.agg (aH.c aC),D.int .i64 aZ] (D.fr 9 1 (r.map tx)):=by
 refine gd func65 [[some (9,1)]] 49 fun hr Γ hΓ=>?_
 rw[k9]at h;refine(aT.a [.cn [1,2,5,6] [0,1]]).lp hΓ (BX hΓ (fun bf h=>?_) (by have:=(gm.sl (gm.agg (hr _ (aB (i:=0) rfl)) (.sl (aC.conds.map aI.c)) (by simp))).1;simpa using this) aC.conds 0 ([]:aE) rfl h);have h:=aJ h;subst h;exact aT.ret hΓ
def hO(aC:aE)(aZ:Bytes)(k1:Option Bool):aE->Nat->Option Bool
 | [],i1=>(k1)
 |bC::cE,i1=>(bif (bC:Bytes)==aZ then(some true)else(hO aC aZ k1 cE (i1+1)))
def fZ(aC:aE)(aZ:Bytes):Option Bool:=(hO aC aZ (some false) aC 0)
def DA(aC:aE)(aZ:Bytes)(dM:Int):St:=⟨[(0,D.sl (aC.map tx)),(1,D.str aZ),(5,D.int .i64 dM)],[]⟩
theorem Bg(hΓ:Γ.nt=18){aC:aE}{aZ:Bytes}{r:Bool}{k1:Option Bool}(dQ:k1=some r->Ax Γ N f68 (.q [[none]] (D.bool r)) [1,1] ⟨[],[]⟩)(hm1:aC.length<=maxLen):∀(rest:aE) (i1:Nat),aC.drop i1=rest->hO aC aZ k1 rest i1=some r->Ar Γ N f68 (.q [[none]] (D.bool r)) [1,0,1,0] (rest.length+1) (DA aC aZ (i1:Int)):=by
 intro rest
 induction rest with
 |nil=>
  intro i1 b7 h;rw[hO]at h;refine aO fun N1 cN cI=>?_
  exact((aT.ge tx b7).a [.hl 0 [] []]).ex hΓ cN (dQ h)
 |cons bC cE ih1=>
  intro i1 b7 h;rw[hO]at h;refine aO fun N1 cN cI=>?_
  have gJ:=((aT.lt tx b7).l (bD tx 1 (dc b7) rfl))
  obtain⟨h13,h⟩|⟨h13,h⟩:=aN h
  ·have h:=aJ h;subst h;exact(gJ.b h13).ret hΓ
  ·exact((gJ.b h13).a [.cn [0,1,5] []]).ct hΓ cI (iS b7 hm1) (ih1 (i1+1) (dn b7) h)
theorem ji{aC:aE}{aZ:Bytes}{r:Bool}(h:fZ aC aZ=some r):Good prog 68 [D.sl (aC.map tx),D.str aZ] (D.bool r):=by
 refine gd func68 [[none]] 18 fun hr Γ hΓ=>?_
 rw[fZ]at h;refine(aT.a [.cn [0,1,5] []]).lp hΓ (Bg hΓ (fun h=>?_) (by have:=(gm.sl (hr _ (aB (i:=0) rfl))).1;simpa using this) aC 0 rfl h);have h:=aJ h;subst h;exact aT.ret hΓ
def pS(aC:Bytes):Option Bool:=((nH aC).bind fun y1=>(bif y1 then((sK aC 0).bind fun b4=>((kU (IntKind.i64.wrap b4.toNat) 97 122).bind fun y6=>(some y6)))else(some false)))
theorem oN{aC:Bytes}{r:Bool}(h:pS aC=some r):Good prog 63 [D.str aC] (D.bool r):=by
 refine gd func63 [[none]] 11 fun hr Γ hΓ=>?_
 rw[pS]at h;obtain⟨y1,h2,h⟩:=aF h;obtain⟨h3,h⟩|⟨h3,h⟩:=aN h
 ·obtain⟨b4,h5,h⟩:=aF h;obtain⟨y6,h7,h⟩:=aF h;have h:=aJ h;subst h;exact((((((aT.g (mF h2)).r 2 h3).c h5).r 2 h3).g (kD h7)).b h3).ret hΓ
 ·have h:=aJ h;subst h;exact((aT.g (mF h2)).r 5 h3).ret hΓ
def gY(aC:Bytes):Option Bool:=((nH aC).bind fun y1=>(bif y1 then(some true)else((kM aC).bind fun y4=>(some y4))))
theorem iO{aC:Bytes}{r:Bool}(h:gY aC=some r):Good prog 122 [D.str aC] (D.bool r):=by
 refine gd func122 [[none]] 9 fun hr Γ hΓ=>?_
 rw[gY]at h;obtain⟨y1,h2,h⟩:=aF h;obtain⟨h3,h⟩|⟨h3,h⟩:=aN h
 ·have h:=aJ h;subst h;exact((aT.g (mF h2)).r 3 h3).ret hΓ
 ·obtain⟨y4,h5,h⟩:=aF h;have h:=aJ h;subst h;exact((((aT.g (mF h2)).r 2 h3).g (jH h5)).b h3).ret hΓ
def jb(aC:aL)(k1:Option Bool):aE->Nat->Option Bool
 | [],i1=>(k1)
 |bC::cE,i1=>((gY bC).bind fun RI=>(bif !(RI)then(some false)else(jb aC k1 cE (i1+1))))
def iq(aC:aL):Option Bool:=(jb aC ((pS aC.rel).bind fun JK=>(bif JK then(some (decide ((((aC.args.map tx).length:Int):Int)<=3)))else(some false))) aC.args 0)
def D5(aC:aL)(dM:Int):St:=⟨[(1,D.ptr 0 0),(3,D.int .i64 dM)],[Ob.box (aL.c aC)]⟩
theorem Bb(hΓ:Γ.nt=27){aC:aL}{r:Bool}{k1:Option Bool}(dQ:k1=some r->Ax Γ N f121 (.q [[none]] (D.bool r)) [1,1] ⟨[(1,D.ptr 0 0)],[Ob.box (aL.c aC)]⟩)(hm1:aC.args.length<=maxLen):∀(rest:aE) (i1:Nat),aC.args.drop i1=rest->jb aC k1 rest i1=some r->Ar Γ N f121 (.q [[none]] (D.bool r)) [1,0,1,0] (rest.length+1) (D5 aC (i1:Int)):=by
 intro rest
 induction rest with
 |nil=>
  intro i1 b7 h;rw[jb]at h;refine aO fun N1 cN cI=>?_
  exact((aT.ge tx b7).a [.hl 0 [1] [0]]).ex hΓ cN (dQ h)
 |cons bC cE ih1=>
  intro i1 b7 h;rw[jb]at h;refine aO fun N1 cN cI=>?_
  obtain⟨RI,h22,h⟩:=aF h;have gJ:=(((aT.lt tx b7).l (bD tx 1 (dc b7) rfl)).g (iO h22))
  obtain⟨h23,h⟩|⟨h23,h⟩:=aN h
  ·have h:=aJ h;subst h;exact(gJ.b h23).ret hΓ
  ·exact((gJ.b h23).a [.cn [1,3] [0]]).ct hΓ cI (iS b7 hm1) (ih1 (i1+1) (dn b7) h)
theorem mP{aC:aL}{r:Bool}(h:iq aC=some r):Good prog 121 [D.agg (aL.c aC)] (D.bool r):=by
 refine gd func121 [[none]] 27 fun hr Γ hΓ=>?_
 rw[iq]at h;refine(aT.a [.cn [1,3] [0]]).lp hΓ (Bb hΓ (fun h=>?_) (by have:=(gm.sl (gm.agg (hr _ (aB (i:=0) rfl)) (.sl (aC.args.map tx)) (by simp))).1;simpa using this) aC.args 0 rfl h);obtain⟨JK,h25,h⟩:=aF h;obtain⟨h26,h⟩|⟨h26,h⟩:=aN h
 ·cases h;exact((aT.g (oN h25)).r 5 h26).ret hΓ
 ·have h:=aJ h;subst h;exact((aT.g (oN h25)).r 5 h26).ret hΓ
def pR(aC:aI):Option Bool:=(bif (aC.kind:Int)==1 then((iq aC.pat).bind fun y2=>(bif y2 then(bif (aC.left:Bytes)==([])then(some ((aC.right:Bytes)==([])))else(some false))else(some false)))else(bif (aC.kind:Int)==2 then((iq aC.pat).bind fun y7=>(bif y7 then(bif (aC.left:Bytes)==([])then(some ((aC.right:Bytes)==([])))else(some false))else(some false)))else(bif (aC.kind:Int)==3 then(bif (aC.pat.rel:Bytes)==([])then(bif (((aC.pat.args.map tx).length:Int):Int)==0 then((gY aC.left).bind fun y14=>(bif y14 then((gY aC.right).bind fun ZA=>(some ZA))else(some false)))else(some false))else(some false))else(bif (aC.kind:Int)==4 then(bif (aC.pat.rel:Bytes)==([])then(bif (((aC.pat.args.map tx).length:Int):Int)==0 then((gY aC.left).bind fun mR=>(bif mR then((gY aC.right).bind fun UJ=>(some UJ))else(some false)))else(some false))else(some false))else(bif (aC.kind:Int)==5 then(bif (aC.pat.rel:Bytes)==([])then(bif (((aC.pat.args.map tx).length:Int):Int)==0 then((gY aC.left).bind fun Gq=>(bif Gq then((gY aC.right).bind fun JL=>(some JL))else(some false)))else(some false))else(some false))else(some false))))))
theorem rX{aC:aI}{r:Bool}(h:pR aC=some r):Good prog 66 [D.agg (aI.c aC)] (D.bool r):=by
 refine gd func66 [[none]] 46 fun hr Γ hΓ=>?_
 rw[pR]at h;obtain⟨h1,h⟩|⟨h1,h⟩:=aN h
 ·obtain⟨y2,h3,h⟩:=aF h;have nL:=((aT.r 2 h1).g (mP h3))
  obtain⟨h4,h⟩|⟨h4,h⟩:=aN h
  ·have gJ:=(nL.r 4 h4)
   obtain⟨h5,h⟩|⟨h5,h⟩:=aN h
   ·cases h;exact(gJ.r 4 h5).ret hΓ
   ·have h:=aJ h;subst h;exact(gJ.r 4 h5).ret hΓ
  ·have h:=aJ h;subst h;exact((nL.r 4 h4).F 4).ret hΓ
 ·obtain⟨h6,h⟩|⟨h6,h⟩:=aN h
  ·obtain⟨y7,h8,h⟩:=aF h;have oR:=(((aT.b h1).b h6).g (mP h8))
   obtain⟨h9,h⟩|⟨h9,h⟩:=aN h
   ·have nS:=(oR.r 4 h9)
    obtain⟨h10,h⟩|⟨h10,h⟩:=aN h
    ·cases h;exact(nS.r 4 h10).ret hΓ
    ·have h:=aJ h;subst h;exact(nS.r 4 h10).ret hΓ
   ·have h:=aJ h;subst h;exact((oR.r 4 h9).F 4).ret hΓ
  ·have vB:=((aT.b h1).b h6)
   obtain⟨h11,h⟩|⟨h11,h⟩:=aN h
   ·have xh:=(vB.r 2 h11)
    obtain⟨h12,h⟩|⟨h12,h⟩:=aN h
    ·have EY:=(xh.r 6 h12)
     obtain⟨h13,h⟩|⟨h13,h⟩:=aN h
     ·obtain⟨y14,h15,h⟩:=aF h;have Iz:=(((EY.r 3 h13).g (iO h15)).b h13)
      obtain⟨h16,h⟩|⟨h16,h⟩:=aN h
      ·obtain⟨ZA,h18,h⟩:=aF h;have h:=aJ h;subst h;exact(((Iz.r 3 h16).g (iO h18)).b h16).ret hΓ
      ·have h:=aJ h;subst h;exact(Iz.r 4 h16).ret hΓ
     ·have h:=aJ h;subst h;exact((EY.r 4 h13).F 4).ret hΓ
    ·have h:=aJ h;subst h;exact((xh.r 6 h12).F 8).ret hΓ
   ·obtain⟨h19,h⟩|⟨h19,h⟩:=aN h
    ·have Ji:=((vB.b h11).r 2 h19)
     obtain⟨h20,h⟩|⟨h20,h⟩:=aN h
     ·have C0:=(Ji.r 6 h20)
      obtain⟨h21,h⟩|⟨h21,h⟩:=aN h
      ·obtain⟨mR,h23,h⟩:=aF h;have Ix:=(((C0.r 3 h21).g (iO h23)).b h21)
       obtain⟨h24,h⟩|⟨h24,h⟩:=aN h
       ·obtain⟨UJ,h26,h⟩:=aF h;have h:=aJ h;subst h;exact(((Ix.r 3 h24).g (iO h26)).b h24).ret hΓ
       ·have h:=aJ h;subst h;exact(Ix.r 4 h24).ret hΓ
      ·have h:=aJ h;subst h;exact((C0.r 4 h21).F 4).ret hΓ
     ·have h:=aJ h;subst h;exact((Ji.r 6 h20).F 8).ret hΓ
    ·have EX:=((vB.b h11).b h19)
     obtain⟨h27,h⟩|⟨h27,h⟩:=aN h
     ·obtain⟨h28,h⟩|⟨h28,h⟩:=aN h
      ·have Iy:=((EX.b h27).r 6 h28)
       obtain⟨h29,h⟩|⟨h29,h⟩:=aN h
       ·obtain⟨Gq,h31,h⟩:=aF h;have Ms:=(((Iy.r 3 h29).g (iO h31)).b h29)
        obtain⟨h32,h⟩|⟨h32,h⟩:=aN h
        ·obtain⟨JL,h34,h⟩:=aF h;have h:=aJ h;subst h;exact(((Ms.r 3 h32).g (iO h34)).b h32).ret hΓ
        ·have h:=aJ h;subst h;exact(Ms.r 4 h32).ret hΓ
       ·have h:=aJ h;subst h;exact((Iy.r 4 h29).F 4).ret hΓ
      ·have h:=aJ h;subst h;exact(((EX.b h27).r 6 h28).F 8).ret hΓ
     ·have h:=aJ h;subst h;exact(EX.b h27).ret hΓ
def jc(aC:aI):Option aE:=((kN aC.pat).bind fun y1=>((kM aC.left).bind fun y3=>(bif y3 then((jJ y1 aC.left).bind fun y6=>((kM aC.right).bind fun y8=>(bif y8 then((jJ y6 aC.right).bind fun y11=>(some y11))else(some y6))))else((kM aC.right).bind fun qt=>(bif qt then((jJ y1 aC.right).bind fun Z9=>(some Z9))else(some y1))))))
theorem n9{aC:aI}{r:aE}(h:jc aC=some r):Good prog 67 [D.agg (aI.c aC)] (D.fr 9 1 (r.map tx)):=by
 refine gd func67 [[some (9,1)]] 22 fun hr Γ hΓ=>?_
 rw[jc]at h;obtain⟨y1,h2,h⟩:=aF h;obtain⟨y3,h4,h⟩:=aF h;have nL:=((aT.g (mG h2)).g (jH h4))
 obtain⟨h5,h⟩|⟨h5,h⟩:=aN h
 ·obtain⟨y6,h7,h⟩:=aF h;obtain⟨y8,h9,h⟩:=aF h;have gJ:=(((nL.b h5).g (jK h7)).g (jH h9))
  obtain⟨h10,h⟩|⟨h10,h⟩:=aN h
  ·obtain⟨y11,h12,h⟩:=aF h;have h:=aJ h;subst h;exact((gJ.b h10).g (jK h12)).ret hΓ
  ·have h:=aJ h;subst h;exact(gJ.b h10).ret hΓ
 ·obtain⟨qt,h14,h⟩:=aF h;have oR:=((nL.b h5).g (jH h14))
  obtain⟨h15,h⟩|⟨h15,h⟩:=aN h
  ·obtain⟨Z9,h17,h⟩:=aF h;have h:=aJ h;subst h;exact((oR.b h15).g (jK h17)).ret hΓ
  ·have h:=aJ h;subst h;exact(oR.b h15).ret hΓ
def pT(aC:aI):Option Bool:=((pR aC).bind fun y1=>(bif y1 then(some (decide ((aC.kind:Int)>=3)))else(some false)))
theorem wC{aC:aI}{r:Bool}(h:pT aC=some r):Good prog 69 [D.agg (aI.c aC)] (D.bool r):=by
 refine gd func69 [[none]] 10 fun hr Γ hΓ=>?_
 rw[pT]at h;obtain⟨y1,h2,h⟩:=aF h;obtain⟨h3,h⟩|⟨h3,h⟩:=aN h
 ·cases h;exact((aT.g (rX h2)).r 4 h3).ret hΓ
 ·have h:=aJ h;subst h;exact((aT.g (rX h2)).r 4 h3).ret hΓ
def eW(aC:aH)(aZ:Int)(eZ:Bytes)(k1:Option Bool):aY->Nat->Option Bool
 | [],i1=>(k1)
 |bC::cE,i1=>(bif ((i1:Int):Int) != aZ then((jc bC).bind fun DN=>((fZ DN eZ).bind fun Gr=>(bif Gr then(some true)else(eW aC aZ eZ k1 cE (i1+1)))))else(eW aC aZ eZ k1 cE (i1+1)))
def gE(aC:aH)(eZ:Bytes)(k2:Option Bool):bh->Nat->Option Bool
 | [],i2=>(k2)
 |qp::yT,i2=>((kN qp.pat).bind fun y67=>((fZ y67 eZ).bind fun y69=>(bif y69 then(some true)else(gE aC eZ k2 yT (i2+1)))))
def kG(aC:aH)(aZ:Int)(eZ:Bytes):Option Bool:=(eW aC aZ eZ (gE aC eZ (some false) aC.cc 0) aC.conds 0)
def AU(aC:aH)(aZ:Int)(eZ:Bytes)(dM:Int):St:=⟨[(1,D.int .i64 aZ),(2,D.str eZ),(3,D.ptr 0 0),(7,D.int .i64 dM)],[Ob.box (aH.c aC)]⟩
theorem zC(hΓ:Γ.nt=45){aC:aH}{aZ:Int}{eZ:Bytes}{r:Bool}{k1:Option Bool}(dQ:k1=some r->Ax Γ N f70 (.q [[none]] (D.bool r)) [1,1] ⟨[(2,D.str eZ),(3,D.ptr 0 0)],[Ob.box (aH.c aC)]⟩)(hm1:aC.conds.length<=maxLen):∀(rest:aY) (i1:Nat),aC.conds.drop i1=rest->eW aC aZ eZ k1 rest i1=some r->Ar Γ N f70 (.q [[none]] (D.bool r)) [1,0,1,0] (rest.length+1) (AU aC aZ eZ (i1:Int)):=by
 intro rest
 induction rest with
 |nil=>
  intro i1 b7 h;rw[eW]at h;refine aO fun N1 cN cI=>?_
  exact((aT.ge aI.c b7).a [.hl 0 [2,3] [0]]).ex hΓ cN (dQ h)
 |cons bC cE ih1=>
  intro i1 b7 h;rw[eW]at h;refine aO fun N1 cN cI=>?_
  obtain⟨h33,h⟩|⟨h33,h⟩:=aN h
  ·obtain⟨DN,h35,h⟩:=aF h;obtain⟨Gr,h37,h⟩:=aF h;have oR:=((((((((aT.lt aI.c b7).r 4 h33).l (bD aI.c 5 (dc b7) rfl)).r 2 h33).g (n9 h35)).r 2 h33).g (ji h37)).b h33)
   obtain⟨h38,h⟩|⟨h38,h⟩:=aN h
   ·have h:=aJ h;subst h;exact(oR.b h38).ret hΓ
   ·exact((oR.b h38).a [.cn [1,2,3,7] [0]]).ct hΓ cI (iS b7 hm1) (ih1 (i1+1) (dn b7) h)
  ·exact((((aT.lt aI.c b7).r 9 h33).F 1).a [.cn [1,2,3,7] [0]]).ct hΓ cI (iS b7 hm1) (ih1 (i1+1) (dn b7) h)
def AV(aC:aH)(eZ:Bytes)(dM:Int):St:=⟨[(2,D.str eZ),(3,D.ptr 0 0),(8,D.int .i64 dM)],[Ob.box (aH.c aC)]⟩
theorem zD(hΓ:Γ.nt=45){aC:aH}{eZ:Bytes}{r:Bool}{k2:Option Bool}(Ho:k2=some r->Ax Γ N f70 (.q [[none]] (D.bool r)) [1,1,1] ⟨[],[]⟩)(hm2:aC.cc.length<=maxLen):∀(rest:bh) (i2:Nat),aC.cc.drop i2=rest->gE aC eZ k2 rest i2=some r->Ar Γ N f70 (.q [[none]] (D.bool r)) [1,1,0,1,0] (rest.length+1) (AV aC eZ (i2:Int)):=by
 intro rest
 induction rest with
 |nil=>
  intro i2 hd2 h;rw[gE]at h;refine aO fun N2 Ac xP=>?_
  exact((aT.ge Action.c hd2).a [.hl 0 [] []]).ex hΓ Ac (Ho h)
 |cons qp yT ih2=>
  intro i2 hd2 h;rw[gE]at h;refine aO fun N2 Ac xP=>?_
  obtain⟨y67,h68,h⟩:=aF h;obtain⟨y69,h70,h⟩:=aF h;have nS:=((((aT.lt Action.c hd2).l (bD Action.c 3 (dc hd2) rfl)).g (mG h68)).g (ji h70))
  obtain⟨h71,h⟩|⟨h71,h⟩:=aN h
  ·have h:=aJ h;subst h;exact(nS.b h71).ret hΓ
  ·exact((nS.b h71).a [.cn [2,3,8] [0]]).ct hΓ xP (iS hd2 hm2) (ih2 (i2+1) (dn hd2) h)
theorem sD{aC:aH}{aZ:Int}{eZ:Bytes}{r:Bool}(h:kG aC aZ eZ=some r):Good prog 70 [D.agg (aH.c aC),D.int .i64 aZ,D.str eZ] (D.bool r):=by
 refine gd func70 [[none]] 45 fun hr Γ hΓ=>?_
 rw[kG]at h;refine(aT.a [.cn [1,2,3,7] [0]]).lp hΓ (zC hΓ (fun h=>?_) (by have:=(gm.sl (gm.agg (hr _ (aB (i:=0) rfl)) (.sl (aC.conds.map aI.c)) (by simp))).1;simpa using this) aC.conds 0 rfl h);refine(aT.a [.cn [2,3,8] [0]]).lp hΓ (zD hΓ (fun h=>?_) (by have:=(gm.sl (gm.agg (hr _ (aB (i:=0) rfl)) (.sl (aC.cc.map Action.c)) (by simp))).1;simpa using this) aC.cc 0 rfl h);have h:=aJ h;subst h;exact aT.ret hΓ
def ou(aC:Action):Option Bool:=(bif (aC.kind:Int)==1 then((iq aC.pat).bind fun y2=>(some y2))else(bif (aC.kind:Int)==2 then((iq aC.pat).bind fun y5=>(some y5))else(bif (aC.kind:Int)==3 then(bif (aC.pat.rel:Bytes)==([])then(some ((((aC.pat.args.map tx).length:Int):Int)==0))else(some false))else(some false))))
theorem Ba{aC:Action}{r:Bool}(h:ou aC=some r):Good prog 71 [D.agg (Action.c aC)] (D.bool r):=by
 refine gd func71 [[none]] 24 fun hr Γ hΓ=>?_
 rw[ou]at h;obtain⟨h1,h⟩|⟨h1,h⟩:=aN h
 ·obtain⟨y2,h3,h⟩:=aF h;have h:=aJ h;subst h;exact((aT.r 2 h1).g (mP h3)).ret hΓ
 ·obtain⟨h4,h⟩|⟨h4,h⟩:=aN h
  ·obtain⟨y5,h6,h⟩:=aF h;have h:=aJ h;subst h;exact(((aT.b h1).b h4).g (mP h6)).ret hΓ
  ·have nL:=((aT.b h1).b h4)
   obtain⟨h7,h⟩|⟨h7,h⟩:=aN h
   ·obtain⟨h8,h⟩|⟨h8,h⟩:=aN h
    ·cases h;exact((nL.b h7).r 6 h8).ret hΓ
    ·have h:=aJ h;subst h;exact((nL.b h7).r 6 h8).ret hΓ
   ·have h:=aJ h;subst h;exact(nL.b h7).ret hΓ
def iP(aC:aH)(i1:Nat)(G6:aE)(k2:aE->Option aE):aE->Nat->aE->Option aE
 | [],i2,lP=>(k2 lP)
 |qp::yT,i2,lP=>((jJ lP qp).bind fun Ys=>(iP aC i1 G6 k2 yT (i2+1) Ys))
def gS(aC:aH)(k1:aE->Option aE):aY->Nat->aE->Option aE
 | [],i1,cQ=>(k1 cQ)
 |bC::cE,i1,cQ=>((jc bC).bind fun G6=>(bif decide (G6.length<=maxLen)then(iP aC i1 G6 (fun(wz:aE)=>(gS aC k1 cE (i1+1) wz)) G6 0 cQ)else none))
def iQ(aC:aH)(i3:Nat)(G9:aE)(k4:aE->Option aE):aE->Nat->aE->Option aE
 | [],i4,LX=>(k4 LX)
 |Z7::xs4,i4,LX=>((jJ LX Z7).bind fun Yu=>(iQ aC i3 G9 k4 xs4 (i4+1) Yu))
def fS(aC:aH)(k3:aE->Option aE):bh->Nat->aE->Option aE
 | [],i3,ue=>(k3 ue)
 |RH::NP,i3,ue=>((kN RH.pat).bind fun G9=>(bif decide (G9.length<=maxLen)then(iQ aC i3 G9 (fun(Qz:aE)=>(fS aC k3 NP (i3+1) Qz)) G9 0 ue)else none))
def oy(aC:aH):Option aE:=(gS aC (fun(wO:aE)=>(fS aC (fun(TQ:aE)=>(some TQ)) aC.cc 0 wO)) aC.conds 0 ([]:aE))
def EE(aC:aH)(W0:List aK)(dM:Int):St:=⟨[(1,D.ptr 0 0),(3,D.acc 1),(4,D.int .i64 dM)],[Ob.box (aH.c aC),Ob.row .uq 9 1 W0]⟩
def EF(aC:aH)(i1:Nat)(G6:aE)(W0:List aK)(dM:Int):St:=⟨[(1,D.ptr 0 0),(3,D.acc 1),(4,D.int .i64 (i1:Int)),(5,D.acc 2),(6,D.int .i64 dM)],[Ob.box (aH.c aC),Ob.row .uq 9 1 W0,Ob.row .uq 9 1 (G6.map tx)]⟩
theorem D7(hΓ:Γ.nt=63){aC:aH}{i1:Nat}{G6:aE}{r:aE}{k2:aE->Option aE}(Ho:∀(wz:aE),k2 wz=some r->Ax Γ N f73 (.q [[some (9,1)]] (D.fr 9 1 (r.map tx))) [1,1,0,1,0,0,1,1] ⟨[(1,D.ptr 0 0),(3,D.acc 1),(4,D.int .i64 (i1:Int))],[Ob.box (aH.c aC),Ob.row .uq 9 1 (wz.map tx)]⟩)(hm2:G6.length<=maxLen):∀(rest:aE) (i2:Nat) (lP:aE),G6.drop i2=rest->iP aC i1 G6 k2 rest i2 lP=some r->Ar Γ N f73 (.q [[some (9,1)]] (D.fr 9 1 (r.map tx))) [1,1,0,1,0,0,1,0,0,1,1,0] (rest.length+1) (EF aC i1 G6 (lP.map tx) (i2:Int)):=by
 intro rest
 induction rest with
 |nil=>
  intro i2 lP hd2 h;rw[iP]at h;refine aO fun N2 Ac xP=>?_
  exact((aT.ge tx hd2).a [.hl 3 [1,3,4] [0,1]]).ex hΓ Ac (Ho lP h)
 |cons qp yT ih2=>
  intro i2 lP hd2 h;rw[iP]at h;refine aO fun N2 Ac xP=>?_
  obtain⟨Ys,h172,h⟩:=aF h;exact(((((aT.lt tx hd2).i (mQ tx 1 (dc hd2))).o 1 1 .uq (fX tx (dc hd2))).g (jK h172)).a [.cn [1,3,4,5,6] [0,3,2]]).ct hΓ xP (iS hd2 hm2) (ih2 (i2+1) Ys (dn hd2) h)
theorem D6(hΓ:Γ.nt=63){aC:aH}{r:aE}{k1:aE->Option aE}(dQ:∀(wO:aE),k1 wO=some r->Ax Γ N f73 (.q [[some (9,1)]] (D.fr 9 1 (r.map tx))) [1,1,1] ⟨[(1,D.ptr 0 0),(3,D.acc 1)],[Ob.box (aH.c aC),Ob.row .uq 9 1 (wO.map tx)]⟩)(hm1:aC.conds.length<=maxLen):∀(rest:aY) (i1:Nat) (cQ:aE),aC.conds.drop i1=rest->gS aC k1 rest i1 cQ=some r->Ar Γ N f73 (.q [[some (9,1)]] (D.fr 9 1 (r.map tx))) [1,1,0,1,0] (rest.length+1) (EE aC (cQ.map tx) (i1:Int)):=by
 intro rest
 induction rest with
 |nil=>
  intro i1 cQ b7 h;rw[gS]at h;refine aO fun N1 cN cI=>?_
  exact((aT.ge aI.c b7).a [.hl 0 [1,3] [0,1]]).ex hΓ cN (dQ cQ h)
 |cons bC cE ih1=>
  intro i1 cQ b7 h;rw[gS]at h;refine aO fun N1 cN cI=>?_
  obtain⟨G6,h148,h⟩:=aF h;obtain⟨h173,h⟩:=bu h;refine((((aT.lt aI.c b7).l (bD aI.c 5 (dc b7) rfl)).g (n9 h148)).a [.cn [1,3,4,5,6] [0,1,2]]).lp hΓ (D7 hΓ (fun wz h=>?_) (bq h173) G6 0 cQ rfl h);exact(aT.a [.cn [1,3,4] [0,1]]).ct hΓ cI (iS b7 hm1) (ih1 (i1+1) wz (dn b7) h)
def EG(aC:aH)(W0:List aK)(dM:Int):St:=⟨[(1,D.ptr 0 0),(3,D.acc 1),(7,D.int .i64 dM)],[Ob.box (aH.c aC),Ob.row .uq 9 1 W0]⟩
def EH(aC:aH)(i3:Nat)(G9:aE)(W0:List aK)(dM:Int):St:=⟨[(1,D.ptr 0 0),(3,D.acc 1),(7,D.int .i64 (i3:Int)),(8,D.acc 2),(9,D.int .i64 dM)],[Ob.box (aH.c aC),Ob.row .uq 9 1 W0,Ob.row .uq 9 1 (G9.map tx)]⟩
theorem D9(hΓ:Γ.nt=63){aC:aH}{i3:Nat}{G9:aE}{r:aE}{k4:aE->Option aE}(hE4:∀(Qz:aE),k4 Qz=some r->Ax Γ N f73 (.q [[some (9,1)]] (D.fr 9 1 (r.map tx))) [1,1,1,0,1,0,0,1,1] ⟨[(1,D.ptr 0 0),(3,D.acc 1),(7,D.int .i64 (i3:Int))],[Ob.box (aH.c aC),Ob.row .uq 9 1 (Qz.map tx)]⟩)(hm4:G9.length<=maxLen):∀(rest:aE) (i4:Nat) (LX:aE),G9.drop i4=rest->iQ aC i3 G9 k4 rest i4 LX=some r->Ar Γ N f73 (.q [[some (9,1)]] (D.fr 9 1 (r.map tx))) [1,1,1,0,1,0,0,1,0,0,1,1,0] (rest.length+1) (EH aC i3 G9 (LX.map tx) (i4:Int)):=by
 intro rest
 induction rest with
 |nil=>
  intro i4 LX Nu h;rw[iQ]at h;refine aO fun N4 ZO ZP=>?_
  exact((aT.ge tx Nu).a [.hl 3 [1,3,7] [0,1]]).ex hΓ ZO (hE4 LX h)
 |cons Z7 xs4 ih4=>
  intro i4 LX Nu h;rw[iQ]at h;refine aO fun N4 ZO ZP=>?_
  obtain⟨Yu,h345,h⟩:=aF h;exact(((((aT.lt tx Nu).i (mQ tx 1 (dc Nu))).o 1 1 .uq (fX tx (dc Nu))).g (jK h345)).a [.cn [1,3,7,8,9] [0,3,2]]).ct hΓ ZP (iS Nu hm4) (ih4 (i4+1) Yu (dn Nu) h)
theorem D8(hΓ:Γ.nt=63){aC:aH}{r:aE}{k3:aE->Option aE}(XS:∀(TQ:aE),k3 TQ=some r->Ax Γ N f73 (.q [[some (9,1)]] (D.fr 9 1 (r.map tx))) [1,1,1,1] ⟨[(3,D.acc 0)],[Ob.row .uq 9 1 (TQ.map tx)]⟩)(Qa:aC.cc.length<=maxLen):∀(rest:bh) (i3:Nat) (ue:aE),aC.cc.drop i3=rest->fS aC k3 rest i3 ue=some r->Ar Γ N f73 (.q [[some (9,1)]] (D.fr 9 1 (r.map tx))) [1,1,1,0,1,0] (rest.length+1) (EG aC (ue.map tx) (i3:Int)):=by
 intro rest
 induction rest with
 |nil=>
  intro i3 ue xg h;rw[fS]at h;refine aO fun N3 S9 NM=>?_
  exact((aT.ge Action.c xg).a [.hl 0 [3] [1]]).ex hΓ S9 (XS ue h)
 |cons RH NP ih3=>
  intro i3 ue xg h;rw[fS]at h;refine aO fun N3 S9 NM=>?_
  obtain⟨G9,h321,h⟩:=aF h;obtain⟨h346,h⟩:=bu h;refine((((aT.lt Action.c xg).l (bD Action.c 3 (dc xg) rfl)).g (mG h321)).a [.cn [1,3,7,8,9] [0,1,2]]).lp hΓ (D9 hΓ (fun Qz h=>?_) (bq h346) G9 0 ue rfl h);exact(aT.a [.cn [1,3,7] [0,1]]).ct hΓ NM (iS xg Qa) (ih3 (i3+1) Qz (dn xg) h)
theorem Be{aC:aH}{r:aE}(h:oy aC=some r):Good prog 73 [D.agg (aH.c aC)] (D.fr 9 1 (r.map tx)):=by
 refine gd func73 [[some (9,1)]] 63 fun hr Γ hΓ=>?_
 rw[oy]at h;refine(aT.a [.cn [1,3,4] [0,1]]).lp hΓ (D6 hΓ (fun wO h=>?_) (by have:=(gm.sl (gm.agg (hr _ (aB (i:=0) rfl)) (.sl (aC.conds.map aI.c)) (by simp))).1;simpa using this) aC.conds 0 ([]:aE) rfl h);refine(aT.a [.cn [1,3,7] [0,1]]).lp hΓ (D8 hΓ (fun TQ h=>?_) (by have:=(gm.sl (gm.agg (hr _ (aB (i:=0) rfl)) (.sl (aC.cc.map Action.c)) (by simp))).1;simpa using this) aC.cc 0 wO rfl h);have h:=aJ h;subst h;exact aT.ret hΓ
def ez(aC:aH)(qt:aE)(i1:Nat)(bC:aI)(GB:aE)(Aa:aE)(k2:Option Bool):aE->Nat->Option Bool
 | [],i2=>(k2)
 |qp::yT,i2=>((fZ GB qp).bind fun Yv=>((pT bC).bind fun a0w=>(bif a0w then(bif !(Yv)then(some false)else(bif (bC.kind:Int)==2 then(ez aC qt i1 bC GB Aa k2 yT (i2+1))else(ez aC qt i1 bC GB Aa k2 yT (i2+1))))else(bif (bC.kind:Int)==2 then(bif !(Yv)then((kG aC (i1:Int) qp).bind fun a0x=>(bif a0x then(some false)else(ez aC qt i1 bC GB Aa k2 yT (i2+1))))else(ez aC qt i1 bC GB Aa k2 yT (i2+1)))else(ez aC qt i1 bC GB Aa k2 yT (i2+1))))))
def fA(aC:aH)(qt:aE)(i1:Nat)(bC:aI)(GC:aE)(Ab:aE)(k3:Option Bool):aE->Nat->Option Bool
 | [],i3=>(k3)
 |RH::NP,i3=>((fZ GC RH).bind fun Yw=>((pT bC).bind fun a0y=>(bif a0y then(bif !(Yw)then(some false)else(bif (bC.kind:Int)==2 then(fA aC qt i1 bC GC Ab k3 NP (i3+1))else(fA aC qt i1 bC GC Ab k3 NP (i3+1))))else(bif (bC.kind:Int)==2 then(bif !(Yw)then((kG aC (i1:Int) RH).bind fun a0z=>(bif a0z then(some false)else(fA aC qt i1 bC GC Ab k3 NP (i3+1))))else(fA aC qt i1 bC GC Ab k3 NP (i3+1)))else(fA aC qt i1 bC GC Ab k3 NP (i3+1))))))
def ir(aC:aH)(qt:aE)(k1:Option Bool):aY->Nat->Option Bool
 | [],i1=>(k1)
 |bC::cE,i1=>((pR bC).bind fun a0u=>(bif !(a0u)then(some false)else(bif ((i1:Int):Int)==0 then(bif (bC.kind:Int) != 1 then(some false)else((k9 aC (i1:Int)).bind fun GB=>((jc bC).bind fun Aa=>(bif decide (Aa.length<=maxLen)then(ez aC qt i1 bC GB Aa (ir aC qt k1 cE (i1+1)) Aa 0)else none))))else((k9 aC (i1:Int)).bind fun GC=>((jc bC).bind fun Ab=>(bif decide (Ab.length<=maxLen)then(fA aC qt i1 bC GC Ab (ir aC qt k1 cE (i1+1)) Ab 0)else none))))))
def kB(aC:aH)(qt:aE)(i4:Nat)(GD:aE)(k5:Option Bool):aE->Nat->Option Bool
 | [],i5=>(k5)
 |x5_::xs5,i5=>((fZ qt x5_).bind fun a11=>(bif !(a11)then(some false)else(kB aC qt i4 GD k5 xs5 (i5+1))))
def kA(aC:aH)(qt:aE)(k4:Option Bool):bh->Nat->Option Bool
 | [],i4=>(k4)
 |Z7::xs4,i4=>((ou Z7).bind fun a10=>(bif !(a10)then(some false)else((kN Z7.pat).bind fun GD=>(bif decide (GD.length<=maxLen)then(kB aC qt i4 GD (kA aC qt k4 xs4 (i4+1)) GD 0)else none))))
def rL(aC:aH):Option Bool:=((pS aC.name).bind fun y1=>(bif !(y1)then(some false)else((kU aC.prio 0 9).bind fun y4=>(bif !(y4)then(some false)else((kU ((aC.conds.map aI.c).length:Int) 1 4).bind fun y7=>(bif !(y7)then(some false)else((kU ((aC.cc.map Action.c).length:Int) 1 2).bind fun C8=>(bif !(C8)then(some false)else((k9 aC ((aC.conds.map aI.c).length:Int)).bind fun qt=>(ir aC qt (kA aC qt ((oy aC).bind fun a13=>(some (decide ((((a13.map tx).length:Int):Int)<=6)))) aC.cc 0) aC.conds 0))))))))))
def GW(aC:aH)(qt:aE)(dM:Int):St:=⟨[(1,D.ptr 0 0),(3,D.acc 1),(4,D.int .i64 dM)],[Ob.box (aH.c aC),Ob.row .uq 9 1 (qt.map tx)]⟩
def GX(aC:aH)(qt:aE)(i1:Nat)(bC:aI)(GB:aE)(Aa:aE)(dM:Int):St:=⟨[(1,D.ptr 0 0),(3,D.acc 1),(4,D.int .i64 (i1:Int)),(5,D.ptr 2 0),(6,D.acc 3),(7,D.acc 4),(8,D.int .i64 dM)],[Ob.box (aH.c aC),Ob.row .uq 9 1 (qt.map tx),Ob.box [D.int .i64 bC.kind,D.str bC.pat.rel,D.sl (bC.pat.args.map tx),D.str bC.left,D.str bC.right],Ob.row .uq 9 1 (GB.map tx),Ob.row .uq 9 1 (Aa.map tx)]⟩
theorem FN(hΓ:Γ.nt=145){aC:aH}{qt:aE}{i1:Nat}{bC:aI}{GB:aE}{Aa:aE}{r:Bool}{k2:Option Bool}(Ho:k2=some r->Ax Γ N f25 (.q [[none]] (D.bool r)) [1,1,1,0,1,0,0,1,1] ⟨[(1,D.ptr 0 0),(3,D.acc 1),(4,D.int .i64 (i1:Int))],[Ob.box (aH.c aC),Ob.row .uq 9 1 (qt.map tx)]⟩)(hm2:Aa.length<=maxLen):∀(rest:aE) (i2:Nat),Aa.drop i2=rest->ez aC qt i1 bC GB Aa k2 rest i2=some r->Ar Γ N f25 (.q [[none]] (D.bool r)) [1,1,1,0,1,0,0,1,0,0,1,1,1,1,1,0] (rest.length+1) (GX aC qt i1 bC GB Aa (i2:Int)):=by
 intro rest
 induction rest with
 |nil=>
  intro i2 hd2 h;rw[ez]at h;refine aO fun N2 Ac xP=>?_
  exact((aT.ge tx hd2).a [.hl 3 [1,3,4] [0,1]]).ex hΓ Ac (Ho h)
 |cons qp yT ih2=>
  intro i2 hd2 h;rw[ez]at h;refine aO fun N2 Ac xP=>?_
  obtain⟨Yv,h711,h⟩:=aF h;obtain⟨a0w,h713,h⟩:=aF h;have Wf:=((((((aT.lt tx hd2).i (mQ tx 1 (dc hd2))).o 1 1 .uq (fX tx (dc hd2))).g (ji h711)).a [.n 21]).g (wC h713))
  obtain⟨h714,h⟩|⟨h714,h⟩:=aN h
  ·have Wg:=(Wf.r 3 h714)
   obtain⟨h715,h⟩|⟨h715,h⟩:=aN h
   ·have h:=aJ h;subst h;exact((((((Wg.r 4 h715).a [bF,bF]).r 2 h715).a [bF,bF,bF,bF,bF,bF,bF]).r 2 h715).T 1).ret hΓ
   ·have Wh:=(Wg.r 4 h715)
    obtain⟨h716,h⟩|⟨h716,h⟩:=aN h
    ·exact((((((Wh.r 2 h716).b h715).b h716).r 11 h715).F 1).a [.cn [1,3,4,5,6,7,8] [0,1,2,3,4]]).ct hΓ xP (iS hd2 hm2) (ih2 (i2+1) (dn hd2) h)
    ·exact((((((((((Wh.r 2 h716).b h715).b h716).b h715).F 7).b h715).F 1).b h715).F 1).a [.cn [1,3,4,5,6,7,8] [0,1,2,3,4]]).ct hΓ xP (iS hd2 hm2) (ih2 (i2+1) (dn hd2) h)
  ·have Wi:=((Wf.r 3 h714).F 4)
   obtain⟨h717,h⟩|⟨h717,h⟩:=aN h
   ·have Wj:=((((Wi.r 2 h717).F 1).b h717).F 1)
    obtain⟨h718,h⟩|⟨h718,h⟩:=aN h
    ·obtain⟨a0x,h720,h⟩:=aF h;have Wk:=(((((((((Wj.r 5 h718).i (mQ tx 1 (dc hd2))).b h718).o 1 1 .uq (fX tx (dc hd2))).b h718).g (sD h720)).F 1).b h718).F 1)
     obtain⟨h721,h⟩|⟨h721,h⟩:=aN h
     ·have h:=aJ h;subst h;exact(Wk.b h721).ret hΓ
     ·exact((Wk.b h721).a [.cn [1,3,4,5,6,7,8] [0,1,2,3,4]]).ct hΓ xP (iS hd2 hm2) (ih2 (i2+1) (dn hd2) h)
    ·exact(((((Wj.r 7 h718).F 1).b h718).F 2).a [.cn [1,3,4,5,6,7,8] [0,1,2,3,4]]).ct hΓ xP (iS hd2 hm2) (ih2 (i2+1) (dn hd2) h)
   ·exact(((((Wi.r 2 h717).F 1).b h717).F 12).a [.cn [1,3,4,5,6,7,8] [0,1,2,3,4]]).ct hΓ xP (iS hd2 hm2) (ih2 (i2+1) (dn hd2) h)
def GY(aC:aH)(qt:aE)(i1:Nat)(bC:aI)(GC:aE)(Ab:aE)(dM:Int):St:=⟨[(1,D.ptr 0 0),(3,D.acc 1),(4,D.int .i64 (i1:Int)),(5,D.ptr 2 0),(6,D.acc 3),(7,D.acc 4),(8,D.int .i64 dM)],[Ob.box (aH.c aC),Ob.row .uq 9 1 (qt.map tx),Ob.box [D.int .i64 bC.kind,D.str bC.pat.rel,D.sl (bC.pat.args.map tx),D.str bC.left,D.str bC.right],Ob.row .uq 9 1 (GC.map tx),Ob.row .uq 9 1 (Ab.map tx)]⟩
theorem FO(hΓ:Γ.nt=145){aC:aH}{qt:aE}{i1:Nat}{bC:aI}{GC:aE}{Ab:aE}{r:Bool}{k3:Option Bool}(XS:k3=some r->Ax Γ N f25 (.q [[none]] (D.bool r)) [1,1,1,0,1,0,0,1,1] ⟨[(1,D.ptr 0 0),(3,D.acc 1),(4,D.int .i64 (i1:Int))],[Ob.box (aH.c aC),Ob.row .uq 9 1 (qt.map tx)]⟩)(Qa:Ab.length<=maxLen):∀(rest:aE) (i3:Nat),Ab.drop i3=rest->fA aC qt i1 bC GC Ab k3 rest i3=some r->Ar Γ N f25 (.q [[none]] (D.bool r)) [1,1,1,0,1,0,0,1,0,0,1,1,1,1,1,0] (rest.length+1) (GY aC qt i1 bC GC Ab (i3:Int)):=by
 intro rest
 induction rest with
 |nil=>
  intro i3 xg h;rw[fA]at h;refine aO fun N3 S9 NM=>?_
  exact((aT.ge tx xg).a [.hl 3 [1,3,4] [0,1]]).ex hΓ S9 (XS h)
 |cons RH NP ih3=>
  intro i3 xg h;rw[fA]at h;refine aO fun N3 S9 NM=>?_
  obtain⟨Yw,h786,h⟩:=aF h;obtain⟨a0y,h788,h⟩:=aF h;have Wl:=((((((aT.lt tx xg).i (mQ tx 1 (dc xg))).o 1 1 .uq (fX tx (dc xg))).g (ji h786)).a [.n 21]).g (wC h788))
  obtain⟨h789,h⟩|⟨h789,h⟩:=aN h
  ·have Wm:=(Wl.r 3 h789)
   obtain⟨h790,h⟩|⟨h790,h⟩:=aN h
   ·have h:=aJ h;subst h;exact((((((Wm.r 4 h790).a [bF,bF]).r 2 h790).a [bF,bF,bF,bF,bF,bF,bF]).r 2 h790).T 1).ret hΓ
   ·have Wn:=(Wm.r 4 h790)
    obtain⟨h791,h⟩|⟨h791,h⟩:=aN h
    ·exact((((((Wn.r 2 h791).b h790).b h791).r 11 h790).F 1).a [.cn [1,3,4,5,6,7,8] [0,1,2,3,4]]).ct hΓ NM (iS xg Qa) (ih3 (i3+1) (dn xg) h)
    ·exact((((((((((Wn.r 2 h791).b h790).b h791).b h790).F 7).b h790).F 1).b h790).F 1).a [.cn [1,3,4,5,6,7,8] [0,1,2,3,4]]).ct hΓ NM (iS xg Qa) (ih3 (i3+1) (dn xg) h)
  ·have Wo:=((Wl.r 3 h789).F 4)
   obtain⟨h792,h⟩|⟨h792,h⟩:=aN h
   ·have Wp:=((((Wo.r 2 h792).F 1).b h792).F 1)
    obtain⟨h793,h⟩|⟨h793,h⟩:=aN h
    ·obtain⟨a0z,h795,h⟩:=aF h;have Wq:=(((((((((Wp.r 5 h793).i (mQ tx 1 (dc xg))).b h793).o 1 1 .uq (fX tx (dc xg))).b h793).g (sD h795)).F 1).b h793).F 1)
     obtain⟨h796,h⟩|⟨h796,h⟩:=aN h
     ·have h:=aJ h;subst h;exact(Wq.b h796).ret hΓ
     ·exact((Wq.b h796).a [.cn [1,3,4,5,6,7,8] [0,1,2,3,4]]).ct hΓ NM (iS xg Qa) (ih3 (i3+1) (dn xg) h)
    ·exact(((((Wp.r 7 h793).F 1).b h793).F 2).a [.cn [1,3,4,5,6,7,8] [0,1,2,3,4]]).ct hΓ NM (iS xg Qa) (ih3 (i3+1) (dn xg) h)
   ·exact(((((Wo.r 2 h792).F 1).b h792).F 12).a [.cn [1,3,4,5,6,7,8] [0,1,2,3,4]]).ct hΓ NM (iS xg Qa) (ih3 (i3+1) (dn xg) h)
theorem FM(hΓ:Γ.nt=145){aC:aH}{qt:aE}{r:Bool}{k1:Option Bool}(dQ:k1=some r->Ax Γ N f25 (.q [[none]] (D.bool r)) [1,1,1,1] ⟨[(1,D.ptr 0 0),(3,D.acc 1)],[Ob.box (aH.c aC),Ob.row .uq 9 1 (qt.map tx)]⟩)(hm1:aC.conds.length<=maxLen):∀(rest:aY) (i1:Nat),aC.conds.drop i1=rest->ir aC qt k1 rest i1=some r->Ar Γ N f25 (.q [[none]] (D.bool r)) [1,1,1,0,1,0] (rest.length+1) (GW aC qt (i1:Int)):=by
 intro rest
 induction rest with
 |nil=>
  intro i1 b7 h;rw[ir]at h;refine aO fun N1 cN cI=>?_
  exact((aT.ge aI.c b7).a [.hl 0 [1,3] [0,1]]).ex hΓ cN (dQ h)
 |cons bC cE ih1=>
  intro i1 b7 h;rw[ir]at h;refine aO fun N1 cN cI=>?_
  obtain⟨a0u,h644,h⟩:=aF h;have Ws:=(((aT.lt aI.c b7).l (bD aI.c 5 (dc b7) rfl)).g (rX h644))
  obtain⟨h645,h⟩|⟨h645,h⟩:=aN h
  ·have h:=aJ h;subst h;exact((((Ws.r 3 h645).a [bF,bF,bF]).r 2 h645).T 1).ret hΓ
  ·have Wt:=(Ws.r 3 h645)
   obtain⟨h646,h⟩|⟨h646,h⟩:=aN h
   ·have Wu:=((((Wt.r 3 h646).b h645).b h646).b h645)
    obtain⟨h647,h⟩|⟨h647,h⟩:=aN h
    ·have h:=aJ h;subst h;exact(Wu.b h647).ret hΓ
    ·obtain⟨GB,h649,h⟩:=aF h;obtain⟨Aa,h651,h⟩:=aF h;obtain⟨h722,h⟩:=bu h;refine((((Wu.b h647).g (pz h649)).g (n9 h651)).a [.cn [1,3,4,5,6,7,8] [0,1,2,3,4]]).lp hΓ (FN hΓ (fun h=>?_) (bq h722) Aa 0 rfl h);exact(aT.a [.cn [1,3,4] [0,1]]).ct hΓ cI (iS b7 hm1) (ih1 (i1+1) (dn b7) h)
   ·obtain⟨GC,h724,h⟩:=aF h;obtain⟨Ab,h726,h⟩:=aF h;obtain⟨h797,h⟩:=bu h;refine((((((((Wt.r 3 h646).b h645).b h646).b h645).F 1).g (pz h724)).g (n9 h726)).a [.cn [1,3,4,5,6,7,8] [0,1,2,3,4]]).lp hΓ (FO hΓ (fun h=>?_) (bq h797) Ab 0 rfl h);exact(aT.a [.cn [1,3,4] [0,1]]).ct hΓ cI (iS b7 hm1) (ih1 (i1+1) (dn b7) h)
def GZ(aC:aH)(qt:aE)(dM:Int):St:=⟨[(1,D.ptr 0 0),(3,D.acc 1),(10,D.int .i64 dM)],[Ob.box (aH.c aC),Ob.row .uq 9 1 (qt.map tx)]⟩
def Ga(aC:aH)(qt:aE)(i4:Nat)(GD:aE)(dM:Int):St:=⟨[(1,D.ptr 0 0),(3,D.acc 1),(10,D.int .i64 (i4:Int)),(11,D.acc 2),(12,D.int .i64 dM)],[Ob.box (aH.c aC),Ob.row .uq 9 1 (qt.map tx),Ob.row .uq 9 1 (GD.map tx)]⟩
theorem FQ(hΓ:Γ.nt=145){aC:aH}{qt:aE}{i4:Nat}{GD:aE}{r:Bool}{k5:Option Bool}(hE5:k5=some r->Ax Γ N f25 (.q [[none]] (D.bool r)) [1,1,1,1,0,1,0,0,1,1] ⟨[(1,D.ptr 0 0),(3,D.acc 1),(10,D.int .i64 (i4:Int))],[Ob.box (aH.c aC),Ob.row .uq 9 1 (qt.map tx)]⟩)(hm5:GD.length<=maxLen):∀(rest:aE) (i5:Nat),GD.drop i5=rest->kB aC qt i4 GD k5 rest i5=some r->Ar Γ N f25 (.q [[none]] (D.bool r)) [1,1,1,1,0,1,0,0,1,0,0,1,1,1,0] (rest.length+1) (Ga aC qt i4 GD (i5:Int)):=by
 intro rest
 induction rest with
 |nil=>
  intro i5 XZ h;rw[kB]at h;refine aO fun N5 hN5 hS5=>?_
  exact((aT.ge tx XZ).a [.hl 3 [1,3,10] [0,1]]).ex hΓ hN5 (hE5 h)
 |cons x5_ xs5 ih5=>
  intro i5 XZ h;rw[kB]at h;refine aO fun N5 hN5 hS5=>?_
  obtain⟨a11,h953,h⟩:=aF h;have Wv:=((((aT.lt tx XZ).i (mQ tx 1 (dc XZ))).o 1 1 .uq (fX tx (dc XZ))).g (ji h953))
  obtain⟨h954,h⟩|⟨h954,h⟩:=aN h
  ·have h:=aJ h;subst h;exact(Wv.b h954).ret hΓ
  ·exact((Wv.b h954).a [.cn [1,3,10,11,12] [0,1,2]]).ct hΓ hS5 (iS XZ hm5) (ih5 (i5+1) (dn XZ) h)
theorem FP(hΓ:Γ.nt=145){aC:aH}{qt:aE}{r:Bool}{k4:Option Bool}(hE4:k4=some r->Ax Γ N f25 (.q [[none]] (D.bool r)) [1,1,1,1,1] ⟨[(1,D.ptr 0 0)],[Ob.box (aH.c aC)]⟩)(hm4:aC.cc.length<=maxLen):∀(rest:bh) (i4:Nat),aC.cc.drop i4=rest->kA aC qt k4 rest i4=some r->Ar Γ N f25 (.q [[none]] (D.bool r)) [1,1,1,1,0,1,0] (rest.length+1) (GZ aC qt (i4:Int)):=by
 intro rest
 induction rest with
 |nil=>
  intro i4 Nu h;rw[kA]at h;refine aO fun N4 ZO ZP=>?_
  exact((aT.ge Action.c Nu).a [.hl 0 [1] [0]]).ex hΓ ZO (hE4 h)
 |cons Z7 xs4 ih4=>
  intro i4 Nu h;rw[kA]at h;refine aO fun N4 ZO ZP=>?_
  obtain⟨a10,h927,h⟩:=aF h;have Ww:=(((aT.lt Action.c Nu).l (bD Action.c 3 (dc Nu) rfl)).g (Ba h927))
  obtain⟨h928,h⟩|⟨h928,h⟩:=aN h
  ·have h:=aJ h;subst h;exact(Ww.b h928).ret hΓ
  ·obtain⟨GD,h930,h⟩:=aF h;obtain⟨h955,h⟩:=bu h;refine((((Ww.b h928).l (bD Action.c 3 (dc Nu) rfl)).g (mG h930)).a [.cn [1,3,10,11,12] [0,1,2]]).lp hΓ (FQ hΓ (fun h=>?_) (bq h955) GD 0 rfl h);exact(aT.a [.cn [1,3,10] [0,1]]).ct hΓ ZP (iS Nu hm4) (ih4 (i4+1) (dn Nu) h)
theorem ED{aC:aH}{r:Bool}(h:rL aC=some r):Good prog 25 [D.agg (aH.c aC)] (D.bool r):=by
 refine gd func25 [[none]] 145 fun hr Γ hΓ=>?_
 rw[rL]at h;obtain⟨y1,h2,h⟩:=aF h;obtain⟨h3,h⟩|⟨h3,h⟩:=aN h
 ·have h:=aJ h;subst h;exact(((aT.g (oN h2)).r 5 h3).T 13).ret hΓ
 ·obtain⟨y4,h5,h⟩:=aF h;have Wx:=((((aT.g (oN h2)).r 3 h3).g (kD h5)).r 2 h3)
  obtain⟨h6,h⟩|⟨h6,h⟩:=aN h
  ·have h:=aJ h;subst h;exact((Wx.r 6 h6).T 7).ret hΓ
  ·obtain⟨y7,h8,h⟩:=aF h;have Wy:=(((Wx.r 4 h6).g (kD h8)).r 2 h6)
   obtain⟨h9,h⟩|⟨h9,h⟩:=aN h
   ·have h:=aJ h;subst h;exact((Wy.r 6 h9).T 1).ret hΓ
   ·obtain⟨C8,h11,h⟩:=aF h;have Wz:=(((Wy.r 4 h9).g (kD h11)).r 2 h9)
    obtain⟨h12,h⟩|⟨h12,h⟩:=aN h
    ·have h:=aJ h;subst h;exact(Wz.b h12).ret hΓ
    ·obtain⟨qt,h14,h⟩:=aF h;refine(((Wz.b h12).g (pz h14)).a [.cn [1,3,4] [0,1]]).lp hΓ (FM hΓ (fun h=>?_) (by have:=(gm.sl (gm.agg (hr _ (aB (i:=0) rfl)) (.sl (aC.conds.map aI.c)) (by simp))).1;simpa using this) aC.conds 0 rfl h);refine(aT.a [.cn [1,3,10] [0,1]]).lp hΓ (FP hΓ (fun h=>?_) (by have:=(gm.sl (gm.agg (hr _ (aB (i:=0) rfl)) (.sl (aC.cc.map Action.c)) (by simp))).1;simpa using this) aC.cc 0 rfl h);obtain⟨a13,h957,h⟩:=aF h;cases h;exact(aT.g (Be h957)).ret hΓ
def gD(k1:Option Bytes):Nat->Int->Bytes->Option Bytes
 |0,_,_=>none
 |n1+1,rA,kK=>(bif decide (0<=(rA:Int))&&decide (0<(10:Int))then(bif decide (([UInt8.ofNat (IntKind.u8.wrap (IntKind.i64.wrap (48+((rA:Int)%10)))).toNat]:Bytes).length+(kK:Bytes).length<=maxLen)then(bif decide (0<=(rA:Int))&&decide (0<(10:Int))then(bif ((rA:Int)/10:Int)==0 then(some (([UInt8.ofNat (IntKind.u8.wrap (IntKind.i64.wrap (48+((rA:Int)%10)))).toNat])++kK))else(gD k1 n1 ((rA:Int)/10) (([UInt8.ofNat (IntKind.u8.wrap (IntKind.i64.wrap (48+((rA:Int)%10)))).toNat])++kK)))else none)else none)else none)
def fR:Nat->Int->Option Bytes
 |0,_=>none
 |m_+1,aC=>(bif (aC:Int)==(-9223372036854775808)then(some ([45,57,50,50,51,51,55,50,48,51,54,56,53,52,55,55,53,56,48,56]))else(bif decide ((aC:Int)<0)then((fR m_ (IntKind.i64.wrap (0-aC))).bind fun y3=>(bif decide (([45]:Bytes).length+(y3:Bytes).length<=maxLen)then(some (([45])++y3))else none))else(gD none fuel aC ([]))))
def AM(rA:Int)(kK:Bytes):St:=⟨[(0,D.int .i64 rA),(3,D.str kK)],[]⟩
theorem z7(hΓ:Γ.nt=25){r:Bytes}{k1:Option Bytes}(dQ:k1=some r->Ax Γ N f55 (.q [[none]] (D.str r)) [1,1,1,1,0,0] ⟨[],[]⟩):∀(n1:Nat) (rA:Int) (kK:Bytes),gD k1 n1 rA kK=some r->Ar Γ N f55 (.q [[none]] (D.str r)) [1,1,1,1,0] n1 (AM rA kK):=by
 intro n
 induction n with
 |zero=>intro rA kK h;simp[gD]at h
 |succ n1 ih1=>
  intro rA kK h;rw[gD]at h;refine aO fun N1 cN cI=>?_
  obtain⟨h14,h⟩:=bu h;obtain⟨h15,h⟩:=bu h;obtain⟨h16,h⟩:=bu h;have gJ:=(((aT.w (Gk .i64 h14)).w (bq h15)).w (Gk .i64 h16))
  obtain⟨h17,h⟩|⟨h17,h⟩:=aN h
  ·cases h;exact(gJ.b h17).rts hΓ (D.str (([UInt8.ofNat (IntKind.u8.wrap (IntKind.i64.wrap (48+((rA:Int)%10)))).toNat])++kK)) (by first|rfl| (simp only[mA]<;>rfl))
  ·exact((gJ.b h17).a [.cn [0,3] []]).cf hΓ cI (ih1 ((rA:Int)/10) (([UInt8.ofNat (IntKind.u8.wrap (IntKind.i64.wrap (48+((rA:Int)%10)))).toNat])++kK) h)
theorem yE{m_:Nat}(ihR:∀ {aC:Int} {r:Bytes},fR m_ aC=some r->Good prog 55 [D.int .i64 aC] (D.str r)){aC:Int}{r:Bytes}(h:fR (m_+1) aC=some r):Good prog 55 [D.int .i64 aC] (D.str r):=by
 refine gd func55 [[none]] 25 fun hr Γ hΓ=>?_
 rw[fR]at h;obtain⟨h1,h⟩|⟨h1,h⟩:=aN h
 ·cases h;exact(aT.b h1).ret hΓ
 ·obtain⟨h2,h⟩|⟨h2,h⟩:=aN h
  ·obtain⟨y3,h4,h⟩:=aF h;obtain⟨h5,h⟩:=bu h;cases h;exact((((aT.b h1).b h2).g (ihR h4)).w (bq h5)).rts hΓ (D.str (([45])++y3)) (by first|rfl| (simp only[mA]<;>rfl))
  ·refine(((aT.b h1).b h2).a [.cn [0,3] []]).lp hΓ (z7 hΓ (fun h=>?_) fuel aC ([]) h);cases h
theorem sB:∀(m_:Nat) {aC:Int} {r:Bytes},fR m_ aC=some r->Good prog 55 [D.int .i64 aC] (D.str r)
 |0,_,_,h=>by cases h
 |m_+1,_,_,h=>yE (fun h=>sB m_ h) h
def qf(aC:Int):Option Bytes:=fR fuel aC
theorem AN{aC:Int}{r:Bytes}(h:qf aC=some r):Good prog 55 [D.int .i64 aC] (D.str r):=sB fuel h
def hY(aC:Bytes)(aZ:aQ)(k1:Option Bytes):aQ->Nat->Option Bytes
 | [],i1=>(k1)
 |bC::cE,i1=>(bif (bC.var:Bytes)==aC then(some bC.value)else(hY aC aZ k1 cE (i1+1)))
def iz(aC:Bytes)(aZ:aQ):Option Bytes:=(hY aC aZ (some aC) aZ 0)
def DC(aC:Bytes)(aZ:aQ)(dM:Int):St:=⟨[(0,D.str aC),(1,D.sl (aZ.map aS.c)),(5,D.int .i64 dM)],[]⟩
theorem Bh(hΓ:Γ.nt=25){aC:Bytes}{aZ:aQ}{r:Bytes}{k1:Option Bytes}(dQ:k1=some r->Ax Γ N f127 (.q [[none]] (D.str r)) [1,1] ⟨[(0,D.str aC)],[]⟩)(hm1:aZ.length<=maxLen):∀(rest:aQ) (i1:Nat),aZ.drop i1=rest->hY aC aZ k1 rest i1=some r->Ar Γ N f127 (.q [[none]] (D.str r)) [1,0,1,0] (rest.length+1) (DC aC aZ (i1:Int)):=by
 intro rest
 induction rest with
 |nil=>
  intro i1 b7 h;rw[hY]at h;refine aO fun N1 cN cI=>?_
  exact((aT.ge aS.c b7).a [.hl 0 [0] []]).ex hΓ cN (dQ h)
 |cons bC cE ih1=>
  intro i1 b7 h;rw[hY]at h;refine aO fun N1 cN cI=>?_
  have gJ:=((aT.lt aS.c b7).l (bD aS.c 2 (dc b7) rfl))
  obtain⟨h13,h⟩|⟨h13,h⟩:=aN h
  ·cases h;exact((gJ.b h13).l (bD aS.c 2 (dc b7) rfl)).ret hΓ
  ·exact((gJ.b h13).a [.cn [0,1,5] []]).ct hΓ cI (iS b7 hm1) (ih1 (i1+1) (dn b7) h)
theorem q8{aC:Bytes}{aZ:aQ}{r:Bytes}(h:iz aC aZ=some r):Good prog 127 [D.str aC,D.sl (aZ.map aS.c)] (D.str r):=by
 refine gd func127 [[none]] 25 fun hr Γ hΓ=>?_
 rw[iz]at h;refine(aT.a [.cn [0,1,5] []]).lp hΓ (Bh hΓ (fun h=>?_) (by have:=(gm.sl (hr _ (aB (i:=1) rfl))).1;simpa using this) aZ 0 rfl h);have h:=aJ h;subst h;exact aT.ret hΓ
def iw(aC:aI)(aZ:aQ)(y1:Bytes)(y3:Bytes)(k1:aE->Option aI):aE->Nat->aE->Option aI
 | [],i1,eL=>(k1 eL)
 |bC::cE,i1,eL=>((iz bC aZ).bind fun Ps=>(bif room ((eL.map tx).length+([[D.str Ps]]).length) 16 then(iw aC aZ y1 y3 k1 cE (i1+1) (eL++([Ps])))else none))
def iA(aC:aI)(aZ:aQ):Option aI:=((iz aC.left aZ).bind fun y1=>((iz aC.right aZ).bind fun y3=>(iw aC aZ y1 y3 (fun(sJ:aE)=>(some (⟨aC.kind,(⟨aC.pat.rel,sJ⟩:aL),y1,y3⟩:aI))) aC.pat.args 0 ([]:aE))))
def uE(aC:aI)(aZ:aQ)(y1:Bytes)(y3:Bytes)(W0:List aK)(dM:Int):St:=⟨[(1,D.sl (aZ.map aS.c)),(2,D.ptr 0 0),(4,D.ptr 1 0),(5,D.ptr 2 0),(6,D.int .i64 dM)],[Ob.box (aI.c aC),Ob.box [D.int .i64 0,D.str ([]),D.nil,D.str ([]),D.str ([])],Ob.box [D.int .i64 aC.kind,D.str aC.pat.rel,D.acc 3,D.str y1,D.str y3],Ob.row .uq 9 1 W0]⟩
theorem AS(hΓ:Γ.nt=46){aC:aI}{aZ:aQ}{y1:Bytes}{y3:Bytes}{r:aI}{k1:aE->Option aI}(dQ:∀(sJ:aE),k1 sJ=some r->Ax Γ N f77 (.q [[none,none,some (9,1),none,none]] (D.agg [D.int .i64 r.kind,D.str r.pat.rel,D.fr 9 1 (r.pat.args.map tx),D.str r.left,D.str r.right])) [1,1,1] ⟨[(4,D.ptr 0 0),(5,D.ptr 1 0)],[Ob.box [D.int .i64 0,D.str ([]),D.nil,D.str ([]),D.str ([])],Ob.box [D.int .i64 aC.kind,D.str aC.pat.rel,D.acc 2,D.str y1,D.str y3],Ob.row .uq 9 1 (sJ.map tx)]⟩)(hm1:aC.pat.args.length<=maxLen):∀(rest:aE) (i1:Nat) (eL:aE),aC.pat.args.drop i1=rest->iw aC aZ y1 y3 k1 rest i1 eL=some r->Ar Γ N f77 (.q [[none,none,some (9,1),none,none]] (D.agg [D.int .i64 r.kind,D.str r.pat.rel,D.fr 9 1 (r.pat.args.map tx),D.str r.left,D.str r.right])) [1,1,0,1,0] (rest.length+1) (uE aC aZ y1 y3 (eL.map tx) (i1:Int)):=by
 intro rest
 induction rest with
 |nil=>
  intro i1 eL b7 h;rw[iw]at h;refine aO fun N1 cN cI=>?_
  exact((aT.ge tx b7).a [.hl 0 [4,5] [1,2,3]]).ex hΓ cN (dQ eL h)
 |cons bC cE ih1=>
  intro i1 eL b7 h;rw[iw]at h;refine aO fun N1 cN cI=>?_
  obtain⟨Ps,h32,h⟩:=aF h;obtain⟨h33,h⟩:=bu h;exact((((((aT.lt tx b7).a [.n 12]).l (bD tx 1 (dc b7) rfl)).g (q8 h32)).w (cT h33)).a [.cn [1,2,4,5,6] [0,1,2,5]]).cs hΓ cI (uE aC aZ y1 y3 ((eL.map tx)++([[D.str Ps]])) (IntKind.i64.wrap ((i1:Int)+1))) (by first| (simp only[iS b7 hm1,mA]<;>rfl)| (simp only[iS b7 hm1,mA,aL.c,aS.c,aI.c,Action.c,aH.c,aq.c,fW.c,aW.c,Node.c,aR.c,fc.c]<;>rfl)) (ih1 (i1+1) (eL++([Ps])) (dn b7) h)
theorem gj{aC:aI}{aZ:aQ}{r:aI}(h:iA aC aZ=some r):Good prog 77 [D.agg (aI.c aC),D.sl (aZ.map aS.c)] (D.agg [D.int .i64 r.kind,D.str r.pat.rel,D.fr 9 1 (r.pat.args.map tx),D.str r.left,D.str r.right]):=by
 refine gd func77 [[none,none,some (9,1),none,none]] 46 fun hr Γ hΓ=>?_
 rw[iA]at h;obtain⟨y1,h2,h⟩:=aF h;obtain⟨y3,h4,h⟩:=aF h;refine((((aT.a [.n 16]).g (q8 h2)).g (q8 h4)).a [.pb 2 2 9 1,.cn [1,2,4,5,6] [0,1,2,3]]).lp hΓ (AS hΓ (fun sJ h=>?_) (by have:=(gm.sl (gm.agg (hr _ (aB (i:=0) rfl)) (.sl (aC.pat.args.map tx)) (by simp))).1;simpa using this) aC.pat.args 0 ([]:aE) rfl h);cases h;exact aT.ret hΓ
def nI(aC:aI):Option aI:=((iA aC ([])).bind fun y1=>(some y1))
theorem rY{aC:aI}{r:aI}(h:nI aC=some r):Good prog 56 [D.agg (aI.c aC)] (D.agg [D.int .i64 r.kind,D.str r.pat.rel,D.fr 9 1 (r.pat.args.map tx),D.str r.left,D.str r.right]):=by
 refine gd func56 [[none,none,some (9,1),none,none]] 5 fun hr Γ hΓ=>?_
 rw[nI]at h;obtain⟨y1,h2,h⟩:=aF h;have h:=aJ h;subst h;exact((aT.a [.d (D.agg [D.int .i64 y1.kind,D.str y1.pat.rel,D.fr 9 1 (y1.pat.args.map tx),D.str y1.left,D.str y1.right])]).w (show Good prog 77 [D.agg (aI.c aC),D.sl ([])] (D.agg [D.int .i64 y1.kind,D.str y1.pat.rel,D.fr 9 1 (y1.pat.args.map tx),D.str y1.left,D.str y1.right])from by first| (simpa only[bR,bI,bP,eM,dl]using gj h2)|exact gj h2)).ret hΓ
def qT(aC:aE):Option aE:=(bif room (([]:List aK).length+(aC.map tx).length) 16 then(some (([]:aE)++aC))else none)
theorem DB{aC:aE}{r:aE}(h:qT aC=some r):Good prog 102 [D.sl (aC.map tx)] (D.fr 9 1 (r.map tx)):=by
 refine gd func102 [[some (9,1)]] 6 fun hr Γ hΓ=>?_
 rw[qT]at h;obtain⟨h1,h⟩:=bu h;cases h;exact(((aT.w (cT h1)).w (show(∀r∈(aC.map tx),r.length=1)/\(true=true->D.qV (aC.map tx)=true)from⟨by first|simp| (intro r hr;obtain⟨x,_,rfl⟩:=cO.1 (cM (kO hr));rfl),by simp[D.qV,D.flat]⟩)).a [.KE 2,.fl true]).rts hΓ (D.fr 9 1 (([]:List aK)++(aC.map tx))) (by first|rfl| (simp only[mA]<;>rfl))
def gT(aC:aL):Option aL:=((qT aC.args).bind fun y1=>(some (⟨aC.rel,y1⟩:aL)))
theorem wu{aC:aL}{r:aL}(h:gT aC=some r):Good prog 57 [D.agg (aL.c aC)] (D.agg [D.str r.rel,D.fr 9 1 (r.args.map tx)]):=by
 refine gd func57 [[none,some (9,1)]] 9 fun hr Γ hΓ=>?_
 rw[gT]at h;obtain⟨y1,h2,h⟩:=aF h;cases h;exact((aT.a [.n 5]).g (DB h2)).ret hΓ
def lf(aC:aH)(k1:aY->Option aH):aY->Nat->aY->Option aH
 | [],i1,eL=>(k1 eL)
 |bC::cE,i1,eL=>((nI bC).bind fun Hv=>(bif room ((eL.map aI.c).length+([[D.int .i64 Hv.kind,D.str Hv.pat.rel,D.sl (Hv.pat.args.map tx),D.str Hv.left,D.str Hv.right]]).length) 80 then(lf aC k1 cE (i1+1) (eL++([Hv])))else none))
def kF(aC:aH)(kI:aY)(k2:bh->Option aH):bh->Nat->bh->Option aH
 | [],i2,lH=>(k2 lH)
 |qp::yT,i2,lH=>((gT qp.pat).bind fun Ue=>(bif room ((lH.map Action.c).length+([[D.int .i64 qp.kind,D.str Ue.rel,D.sl (Ue.args.map tx)]]).length) 48 then(kF aC kI k2 yT (i2+1) (lH++([(⟨qp.kind,Ue⟩:Action)])))else none))
def pV(aC:aH):Option aH:=(lf aC (fun(kI:aY)=>(kF aC kI (fun(wP:bh)=>(some (⟨aC.name,aC.prio,kI,wP⟩:aH))) aC.cc 0 ([]:bh))) aC.conds 0 ([]:aY))
def yH(aC:aH)(W0:List aK)(dM:Int):St:=⟨[(1,D.ptr 0 0),(2,D.ptr 1 0),(3,D.ptr 2 0),(4,D.int .i64 dM)],[Ob.box (aH.c aC),Ob.box [D.str ([]),D.int .i64 0,D.nil,D.nil],Ob.box [D.str aC.name,D.int .i64 aC.prio,D.acc 3,D.nil],Ob.row .uq 71 5 W0]⟩
theorem FU(hΓ:Γ.nt=56){aC:aH}{r:aH}{k1:aY->Option aH}(dQ:∀(kI:aY),k1 kI=some r->Ax Γ N f22 (.q [[none,none,some (71,5),some (100,3)]] (D.agg [D.str r.name,D.int .i64 r.prio,D.fr 71 5 (r.conds.map aI.c),D.fr 100 3 (r.cc.map Action.c)])) [1,1,1] ⟨[(1,D.ptr 0 0),(2,D.ptr 1 0),(3,D.ptr 2 0)],[Ob.box (aH.c aC),Ob.box [D.str ([]),D.int .i64 0,D.nil,D.nil],Ob.box [D.str aC.name,D.int .i64 aC.prio,D.acc 3,D.nil],Ob.row .uq 71 5 (kI.map aI.c)]⟩)(hm1:aC.conds.length<=maxLen):∀(rest:aY) (i1:Nat) (eL:aY),aC.conds.drop i1=rest->lf aC k1 rest i1 eL=some r->Ar Γ N f22 (.q [[none,none,some (71,5),some (100,3)]] (D.agg [D.str r.name,D.int .i64 r.prio,D.fr 71 5 (r.conds.map aI.c),D.fr 100 3 (r.cc.map Action.c)])) [1,1,0,1,0] (rest.length+1) (yH aC (eL.map aI.c) (i1:Int)):=by
 intro rest
 induction rest with
 |nil=>
  intro i1 eL b7 h;rw[lf]at h;refine aO fun N1 cN cI=>?_
  exact((aT.ge aI.c b7).a [.hl 0 [1,2,3] [0,1,2,3]]).ex hΓ cN (dQ eL h)
 |cons bC cE ih1=>
  intro i1 eL b7 h;rw[lf]at h;refine aO fun N1 cN cI=>?_
  obtain⟨Hv,h46,h⟩:=aF h;obtain⟨h47,h⟩:=bu h;exact((((((aT.lt aI.c b7).a [.n2 [0,1,2,3,4,5,6,7,8,9,10,11] [0,1,2,3,4,5,6,7,8,9,10,11] 8 9 [0,1] [4]]).l (bD aI.c 5 (dc b7) rfl)).g (rY h46)).w (cT h47)).a [.cn [1,2,3,4] [0,1,2,6]]).cs hΓ cI (yH aC ((eL.map aI.c)++([[D.int .i64 Hv.kind,D.str Hv.pat.rel,D.sl (Hv.pat.args.map tx),D.str Hv.left,D.str Hv.right]])) (IntKind.i64.wrap ((i1:Int)+1))) (by first| (simp only[iS b7 hm1,mA]<;>rfl)| (simp only[iS b7 hm1,mA,aL.c,aS.c,aI.c,Action.c,aH.c,aq.c,fW.c,aW.c,Node.c,aR.c,fc.c]<;>rfl)) (ih1 (i1+1) (eL++([Hv])) (dn b7) h)
def yI(aC:aH)(kI:aY)(W0:List aK)(dM:Int):St:=⟨[(1,D.ptr 0 0),(2,D.ptr 1 0),(3,D.ptr 2 0),(5,D.int .i64 dM)],[Ob.box (aH.c aC),Ob.box [D.str ([]),D.int .i64 0,D.nil,D.nil],Ob.box [D.str aC.name,D.int .i64 aC.prio,D.acc 3,D.acc 4],Ob.row .uq 71 5 (kI.map aI.c),Ob.row .uq 100 3 W0]⟩
theorem FV(hΓ:Γ.nt=56){aC:aH}{kI:aY}{r:aH}{k2:bh->Option aH}(Ho:∀(wP:bh),k2 wP=some r->Ax Γ N f22 (.q [[none,none,some (71,5),some (100,3)]] (D.agg [D.str r.name,D.int .i64 r.prio,D.fr 71 5 (r.conds.map aI.c),D.fr 100 3 (r.cc.map Action.c)])) [1,1,1,1] ⟨[(2,D.ptr 0 0),(3,D.ptr 1 0)],[Ob.box [D.str ([]),D.int .i64 0,D.nil,D.nil],Ob.box [D.str aC.name,D.int .i64 aC.prio,D.acc 2,D.acc 3],Ob.row .uq 71 5 (kI.map aI.c),Ob.row .uq 100 3 (wP.map Action.c)]⟩)(hm2:aC.cc.length<=maxLen):∀(rest:bh) (i2:Nat) (lH:bh),aC.cc.drop i2=rest->kF aC kI k2 rest i2 lH=some r->Ar Γ N f22 (.q [[none,none,some (71,5),some (100,3)]] (D.agg [D.str r.name,D.int .i64 r.prio,D.fr 71 5 (r.conds.map aI.c),D.fr 100 3 (r.cc.map Action.c)])) [1,1,1,0,1,0] (rest.length+1) (yI aC kI (lH.map Action.c) (i2:Int)):=by
 intro rest
 induction rest with
 |nil=>
  intro i2 lH hd2 h;rw[kF]at h;refine aO fun N2 Ac xP=>?_
  exact((aT.ge Action.c hd2).a [.hl 0 [2,3] [1,2,3,4]]).ex hΓ Ac (Ho lH h)
 |cons qp yT ih2=>
  intro i2 lH hd2 h;rw[kF]at h;refine aO fun N2 Ac xP=>?_
  obtain⟨Ue,h93,h⟩:=aF h;obtain⟨h94,h⟩:=bu h;exact(((((((aT.lt Action.c hd2).a [.n2 [0,1,2,3,4,5,6,7,8,9,10,11,12,13,14,15,16,17,18,19] [0,1,2,3,4,5,6,7,8,9,10,11,12,13,14,15,16,17,18,19] 16 17 [0,1] [5]]).l (bD Action.c 3 (dc hd2) rfl)).l (bD Action.c 3 (dc hd2) rfl)).g (wu h93)).w (cT h94)).a [.cn [1,2,3,5] [0,1,2,3,7]]).cs hΓ xP (yI aC kI ((lH.map Action.c)++([[D.int .i64 qp.kind,D.str Ue.rel,D.sl (Ue.args.map tx)]])) (IntKind.i64.wrap ((i2:Int)+1))) (by first| (simp only[iS hd2 hm2,mA]<;>rfl)| (simp only[iS hd2 hm2,mA,aL.c,aS.c,aI.c,Action.c,aH.c,aq.c,fW.c,aW.c,Node.c,aR.c,fc.c]<;>rfl)) (ih2 (i2+1) (lH++([(⟨qp.kind,Ue⟩:Action)])) (dn hd2) h)
theorem EL{aC:aH}{r:aH}(h:pV aC=some r):Good prog 22 [D.agg (aH.c aC)] (D.agg [D.str r.name,D.int .i64 r.prio,D.fr 71 5 (r.conds.map aI.c),D.fr 100 3 (r.cc.map Action.c)]):=by
 refine gd func22 [[none,none,some (71,5),some (100,3)]] 56 fun hr Γ hΓ=>?_
 rw[pV]at h;refine(aT.a [.pb 2 2 71 5,.cn [1,2,3,4] [0,1,2,3]]).lp hΓ (FU hΓ (fun kI h=>?_) (by have:=(gm.sl (gm.agg (hr _ (aB (i:=0) rfl)) (.sl (aC.conds.map aI.c)) (by simp))).1;simpa using this) aC.conds 0 ([]:aY) rfl h);refine(aT.a [.pb 2 3 100 3,.cn [1,2,3,5] [0,1,2,3,4]]).lp hΓ (FV hΓ (fun wP h=>?_) (by have:=(gm.sl (gm.agg (hr _ (aB (i:=0) rfl)) (.sl (aC.cc.map Action.c)) (by simp))).1;simpa using this) aC.cc 0 ([]:bh) rfl h);cases h;exact aT.ret hΓ
def ew(aC:Bytes)(k1:Option Bool):Nat->Int->Option Bool
 |0,_=>none
 |n1+1,kK=>(bif decide ((kK:Int)<(aC.length:Int))then((sK aC kK).bind fun XN=>(bif decide ((XN.toNat:Int)<97)then(bif decide ((XN.toNat:Int)<48)then(some false)else(bif decide ((XN.toNat:Int)>57)then(some false)else(ew aC k1 n1 (IntKind.i64.wrap (kK+1)))))else(bif decide ((XN.toNat:Int)>122)then(bif decide ((XN.toNat:Int)<48)then(some false)else(bif decide ((XN.toNat:Int)>57)then(some false)else(ew aC k1 n1 (IntKind.i64.wrap (kK+1)))))else(ew aC k1 n1 (IntKind.i64.wrap (kK+1))))))else(k1))
def eO(aC:Bytes):Option Bool:=(bif decide (((aC.length:Int):Int)<1)then(some false)else(bif decide (((aC.length:Int):Int)>8)then(some false)else(ew aC (some true) fuel 0)))
def GO(aC:Bytes)(kK:Int):St:=⟨[(0,D.str aC),(3,D.int .i64 kK)],[]⟩
theorem F4(hΓ:Γ.nt=40){aC:Bytes}{r:Bool}{k1:Option Bool}(dQ:k1=some r->Ax Γ N f148 (.q [[none]] (D.bool r)) [1,1,1] ⟨[],[]⟩):∀(n1:Nat) (kK:Int),ew aC k1 n1 kK=some r->Ar Γ N f148 (.q [[none]] (D.bool r)) [1,1,0,1,0] n1 (GO aC kK):=by
 intro n
 induction n with
 |zero=>intro kK h;simp[ew]at h
 |succ n1 ih1=>
  intro kK h;rw[ew]at h;refine aO fun N1 cN cI=>?_
  obtain⟨h30,h⟩|⟨h30,h⟩:=aN h
  ·obtain⟨XN,h32,h⟩:=aF h;have EY:=((aT.b h30).c h32)
   obtain⟨h33,h⟩|⟨h33,h⟩:=aN h
   ·have Iz:=((((EY.r 5 h33).T 3).c h32).T 2)
    obtain⟨h34,h⟩|⟨h34,h⟩:=aN h
    ·have h:=aJ h;subst h;exact((((Iz.r 4 h34).T 1).b h34).T 2).ret hΓ
    ·have Ji:=((((((Iz.r 3 h34).c h32).b h34).T 1).b h34).T 1)
     obtain⟨h35,h⟩|⟨h35,h⟩:=aN h
     ·have h:=aJ h;subst h;exact(Ji.b h35).ret hΓ
     ·exact((Ji.b h35).a [.cn [0,3] []]).cf hΓ cI (ih1 (IntKind.i64.wrap (kK+1)) h)
   ·have C0:=(((EY.r 3 h33).c h32).r 2 h33)
    obtain⟨h36,h⟩|⟨h36,h⟩:=aN h
    ·have Ix:=(((C0.r 3 h36).c h32).r 2 h36)
     obtain⟨h37,h⟩|⟨h37,h⟩:=aN h
     ·have h:=aJ h;subst h;exact(((((Ix.r 4 h37).b h36).b h37).b h36).T 1).ret hΓ
     ·have EX:=((((((Ix.r 3 h37).c h32).b h37).b h36).b h37).b h36)
      obtain⟨h38,h⟩|⟨h38,h⟩:=aN h
      ·have h:=aJ h;subst h;exact(EX.b h38).ret hΓ
      ·exact((EX.b h38).a [.cn [0,3] []]).cf hΓ cI (ih1 (IntKind.i64.wrap (kK+1)) h)
    ·exact(((C0.r 7 h36).F 1).a [bF,bF,bF,bF,.cn [0,3] []]).cf hΓ cI (ih1 (IntKind.i64.wrap (kK+1)) h)
  ·exact((aT.b h30).a [.hl 0 [] []]).ex hΓ cN (dQ h)
theorem dZ{aC:Bytes}{r:Bool}(h:eO aC=some r):Good prog 148 [D.str aC] (D.bool r):=by
 refine gd func148 [[none]] 40 fun hr Γ hΓ=>?_
 rw[eO]at h;obtain⟨h1,h⟩|⟨h1,h⟩:=aN h
 ·have h:=aJ h;subst h;exact((aT.r 4 h1).T 1).ret hΓ
 ·have Iy:=(aT.r 4 h1)
  obtain⟨h2,h⟩|⟨h2,h⟩:=aN h
  ·have h:=aJ h;subst h;exact(Iy.b h2).ret hΓ
  ·refine((Iy.b h2).a [.cn [0,3] []]).lp hΓ (F4 hΓ (fun h=>?_) fuel 0 h);have h:=aJ h;subst h;exact aT.ret hΓ
def nF(aC:Bytes):Option Bool:=((eO aC).bind fun y1=>(bif y1 then((sK aC 0).bind fun b4=>(some (decide ((b4.toNat:Int)>=97))))else(some false)))
theorem jm{aC:Bytes}{r:Bool}(h:nF aC=some r):Good prog 103 [D.str aC] (D.bool r):=by
 refine gd func103 [[none]] 10 fun hr Γ hΓ=>?_
 rw[nF]at h;obtain⟨y1,h2,h⟩:=aF h;obtain⟨h3,h⟩|⟨h3,h⟩:=aN h
 ·obtain⟨b4,h5,h⟩:=aF h;cases h;exact((((aT.g (dZ h2)).r 2 h3).c h5).r 2 h3).ret hΓ
 ·have h:=aJ h;subst h;exact((aT.g (dZ h2)).r 4 h3).ret hΓ
def jA(aC:Bytes):Option Bool:=(bif decide (((aC.length:Int):Int)>1)then((sK aC 0).bind fun b2=>(bif (b2.toNat:Int)==63 then((HY aC.length (some (D.int .i64 1)) none).bind fun p=>(fun l5 u6=>((eO ((aC.take u6).drop l5)).bind fun y8=>(some y8))) p.1 p.2)else(some false)))else(some false))
theorem kY{aC:Bytes}{r:Bool}(h:jA aC=some r):Good prog 154 [D.str aC] (D.bool r):=by
 refine gd func154 [[none]] 16 fun hr Γ hΓ=>?_
 rw[jA]at h;obtain⟨h1,h⟩|⟨h1,h⟩:=aN h
 ·obtain⟨b2,h3,h⟩:=aF h;have nL:=(((aT.r 2 h1).c h3).r 2 h1)
  obtain⟨h4,h⟩|⟨h4,h⟩:=aN h
  ·obtain⟨⟨l5,u6⟩,h7,h⟩:=aF h;obtain⟨y8,h9,h⟩:=aF h;have h:=aJ h;subst h;exact((((((nL.r 2 h4).w h7).a [.cut l5 u6]).b h4).g (dZ h9)).b h4).ret hΓ
  ·have h:=aJ h;subst h;exact(nL.r 4 h4).ret hΓ
 ·have h:=aJ h;subst h;exact((aT.r 4 h1).F 4).ret hΓ
def gV(aC:Bytes):Option Bool:=((eO aC).bind fun y1=>(bif y1 then(some true)else((jA aC).bind fun y4=>(some y4))))
theorem iH{aC:Bytes}{r:Bool}(h:gV aC=some r):Good prog 150 [D.str aC] (D.bool r):=by
 refine gd func150 [[none]] 9 fun hr Γ hΓ=>?_
 rw[gV]at h;obtain⟨y1,h2,h⟩:=aF h;obtain⟨h3,h⟩|⟨h3,h⟩:=aN h
 ·have h:=aJ h;subst h;exact((aT.g (dZ h2)).r 3 h3).ret hΓ
 ·obtain⟨y4,h5,h⟩:=aF h;have h:=aJ h;subst h;exact((((aT.g (dZ h2)).r 2 h3).g (kY h5)).b h3).ret hΓ
def jS(aC:aL)(k1:Option Bool):aE->Nat->Option Bool
 | [],i1=>(k1)
 |bC::cE,i1=>((gV bC).bind fun UJ=>(bif !(UJ)then(some false)else(jS aC k1 cE (i1+1))))
def gb(aC:aL):Option Bool:=((nF aC.rel).bind fun y1=>(bif !(y1)then(some false)else(bif decide ((((aC.args.map tx).length:Int):Int)>3)then(some false)else(jS aC (some true) aC.args 0))))
def CU(aC:aL)(dM:Int):St:=⟨[(16,D.sl (aC.args.map tx)),(17,D.int .i64 ((aC.args.map tx).length:Int)),(18,D.int .i64 dM)],[]⟩
theorem Av(hΓ:Γ.nt=26){aC:aL}{r:Bool}{k1:Option Bool}(dQ:k1=some r->Ax Γ N f149 (.q [[none]] (D.bool r)) [1,1,1] ⟨[],[]⟩)(hm1:aC.args.length<=maxLen):∀(rest:aE) (i1:Nat),aC.args.drop i1=rest->jS aC k1 rest i1=some r->Ar Γ N f149 (.q [[none]] (D.bool r)) [1,1,0,1,0] (rest.length+1) (CU aC (i1:Int)):=by
 intro rest
 induction rest with
 |nil=>
  intro i1 b7 h;rw[jS]at h;refine aO fun N1 cN cI=>?_
  exact((aT.ge tx b7).a [.hl 0 [] []]).ex hΓ cN (dQ h)
 |cons bC cE ih1=>
  intro i1 b7 h;rw[jS]at h;refine aO fun N1 cN cI=>?_
  obtain⟨UJ,h26,h⟩:=aF h;have gJ:=(((aT.lt tx b7).l (bD tx 1 (dc b7) rfl)).g (iH h26))
  obtain⟨h27,h⟩|⟨h27,h⟩:=aN h
  ·have h:=aJ h;subst h;exact(gJ.b h27).ret hΓ
  ·exact((gJ.b h27).a [.cn [16,17,18] []]).ct hΓ cI (iS b7 hm1) (ih1 (i1+1) (dn b7) h)
theorem iC{aC:aL}{r:Bool}(h:gb aC=some r):Good prog 149 [D.agg (aL.c aC)] (D.bool r):=by
 refine gd func149 [[none]] 26 fun hr Γ hΓ=>?_
 rw[gb]at h;obtain⟨y1,h2,h⟩:=aF h;obtain⟨h3,h⟩|⟨h3,h⟩:=aN h
 ·have h:=aJ h;subst h;exact(((aT.g (jm h2)).r 5 h3).T 1).ret hΓ
 ·have oR:=((aT.g (jm h2)).r 5 h3)
  obtain⟨h4,h⟩|⟨h4,h⟩:=aN h
  ·have h:=aJ h;subst h;exact(oR.b h4).ret hΓ
  ·refine((oR.b h4).a [.cn [16,17,18] []]).lp hΓ (Av hΓ (fun h=>?_) (by have:=(gm.sl (gm.agg (hr _ (aB (i:=0) rfl)) (.sl (aC.args.map tx)) (by simp))).1;simpa using this) aC.args 0 rfl h);have h:=aJ h;subst h;exact aT.ret hΓ
def gN(aC:aL):Option Bool:=(bif (aC.rel:Bytes)==([])then(some ((((aC.args.map tx).length:Int):Int)==0))else(some false))
theorem ke{aC:aL}{r:Bool}(h:gN aC=some r):Good prog 151 [D.agg (aL.c aC)] (D.bool r):=by
 refine gd func151 [[none]] 12 fun hr Γ hΓ=>?_
 rw[gN]at h;obtain⟨h1,h⟩|⟨h1,h⟩:=aN h
 ·cases h;exact(aT.r 5 h1).ret hΓ
 ·have h:=aJ h;subst h;exact(aT.r 5 h1).ret hΓ
def nE(aC:aI):Option Bool:=(bif (aC.kind:Int)==1 then((gb aC.pat).bind fun y2=>(bif y2 then(bif (aC.left:Bytes)==([])then(some ((aC.right:Bytes)==([])))else(some false))else(some false)))else(bif (aC.kind:Int)==2 then((gb aC.pat).bind fun y7=>(bif y7 then(bif (aC.left:Bytes)==([])then(some ((aC.right:Bytes)==([])))else(some false))else(some false)))else(bif (aC.kind:Int)==3 then((gV aC.left).bind fun Uc=>(bif Uc then((gV aC.right).bind fun Z8=>(bif Z8 then((gN aC.pat).bind fun RR=>(some RR))else(some false)))else(some false)))else(bif (aC.kind:Int)==4 then((gV aC.left).bind fun RI=>(bif RI then((gV aC.right).bind fun JK=>(bif JK then((gN aC.pat).bind fun jj=>(some jj))else(some false)))else(some false)))else(bif (aC.kind:Int)==5 then((gV aC.left).bind fun Gq=>(bif Gq then((gV aC.right).bind fun JL=>(bif JL then((gN aC.pat).bind fun Gr=>(some Gr))else(some false)))else(some false)))else(some false))))))
theorem lq{aC:aI}{r:Bool}(h:nE aC=some r):Good prog 104 [D.agg (aI.c aC)] (D.bool r):=by
 refine gd func104 [[none]] 38 fun hr Γ hΓ=>?_
 rw[nE]at h;obtain⟨h1,h⟩|⟨h1,h⟩:=aN h
 ·obtain⟨y2,h3,h⟩:=aF h;have nL:=((aT.r 2 h1).g (iC h3))
  obtain⟨h4,h⟩|⟨h4,h⟩:=aN h
  ·have gJ:=(nL.r 4 h4)
   obtain⟨h5,h⟩|⟨h5,h⟩:=aN h
   ·cases h;exact(gJ.r 4 h5).ret hΓ
   ·have h:=aJ h;subst h;exact(gJ.r 4 h5).ret hΓ
  ·have h:=aJ h;subst h;exact((nL.r 4 h4).F 4).ret hΓ
 ·obtain⟨h6,h⟩|⟨h6,h⟩:=aN h
  ·obtain⟨y7,h8,h⟩:=aF h;have oR:=(((aT.b h1).b h6).g (iC h8))
   obtain⟨h9,h⟩|⟨h9,h⟩:=aN h
   ·have nS:=(oR.r 4 h9)
    obtain⟨h10,h⟩|⟨h10,h⟩:=aN h
    ·cases h;exact(nS.r 4 h10).ret hΓ
    ·have h:=aJ h;subst h;exact(nS.r 4 h10).ret hΓ
   ·have h:=aJ h;subst h;exact((oR.r 4 h9).F 4).ret hΓ
  ·have vB:=((aT.b h1).b h6)
   obtain⟨h11,h⟩|⟨h11,h⟩:=aN h
   ·obtain⟨Uc,h13,h⟩:=aF h;have xh:=((vB.r 2 h11).g (iH h13))
    obtain⟨h14,h⟩|⟨h14,h⟩:=aN h
    ·obtain⟨Z8,h16,h⟩:=aF h;have EY:=(((xh.r 3 h14).g (iH h16)).b h14)
     obtain⟨h17,h⟩|⟨h17,h⟩:=aN h
     ·obtain⟨RR,h19,h⟩:=aF h;have h:=aJ h;subst h;exact(((EY.r 3 h17).g (ke h19)).b h17).ret hΓ
     ·have h:=aJ h;subst h;exact(EY.r 4 h17).ret hΓ
    ·have h:=aJ h;subst h;exact((xh.r 4 h14).F 4).ret hΓ
   ·obtain⟨h20,h⟩|⟨h20,h⟩:=aN h
    ·obtain⟨RI,h22,h⟩:=aF h;have Iz:=(((vB.b h11).r 2 h20).g (iH h22))
     obtain⟨h23,h⟩|⟨h23,h⟩:=aN h
     ·obtain⟨JK,h25,h⟩:=aF h;have Ji:=(((Iz.r 3 h23).g (iH h25)).b h23)
      obtain⟨h26,h⟩|⟨h26,h⟩:=aN h
      ·obtain⟨jj,h28,h⟩:=aF h;have h:=aJ h;subst h;exact(((Ji.r 3 h26).g (ke h28)).b h26).ret hΓ
      ·have h:=aJ h;subst h;exact(Ji.r 4 h26).ret hΓ
     ·have h:=aJ h;subst h;exact((Iz.r 4 h23).F 4).ret hΓ
    ·have C0:=((vB.b h11).b h20)
     obtain⟨h29,h⟩|⟨h29,h⟩:=aN h
     ·obtain⟨Gq,h31,h⟩:=aF h;have Ix:=((C0.b h29).g (iH h31))
      obtain⟨h32,h⟩|⟨h32,h⟩:=aN h
      ·obtain⟨JL,h34,h⟩:=aF h;have EX:=(((Ix.r 3 h32).g (iH h34)).b h32)
       obtain⟨h35,h⟩|⟨h35,h⟩:=aN h
       ·obtain⟨Gr,h37,h⟩:=aF h;have h:=aJ h;subst h;exact(((EX.r 3 h35).g (ke h37)).b h35).ret hΓ
       ·have h:=aJ h;subst h;exact(EX.r 4 h35).ret hΓ
      ·have h:=aJ h;subst h;exact((Ix.r 4 h32).F 4).ret hΓ
     ·have h:=aJ h;subst h;exact(C0.b h29).ret hΓ
def eb(aC:aE)(k1:aE->Option aE):aE->Nat->aE->Option aE
 | [],i1,bK=>(k1 bK)
 |bC::cE,i1,bK=>((jA bC).bind fun Da=>(bif Da then(bif room ((bK.map tx).length+([[D.str bC]]).length) 16 then(eb aC k1 cE (i1+1) (bK++([bC])))else none)else(eb aC k1 cE (i1+1) bK)))
def jv(aC:aE):Option aE:=(eb aC (fun(bf:aE)=>(some bf)) aC 0 ([]:aE))
def ux(aC:aE)(W0:List aK)(dM:Int):St:=⟨[(3,D.acc 0),(6,D.sl (aC.map tx)),(7,D.int .i64 ((aC.map tx).length:Int)),(8,D.int .i64 dM)],[Ob.row .uq 9 1 W0]⟩
theorem B7(hΓ:Γ.nt=20){aC:aE}{r:aE}{k1:aE->Option aE}(dQ:∀(bf:aE),k1 bf=some r->Ax Γ N f108 (.q [[some (9,1)]] (D.fr 9 1 (r.map tx))) [1,1,1] ⟨[(3,D.acc 0)],[Ob.row .uq 9 1 (bf.map tx)]⟩)(hm1:aC.length<=maxLen):∀(rest:aE) (i1:Nat) (bK:aE),aC.drop i1=rest->eb aC k1 rest i1 bK=some r->Ar Γ N f108 (.q [[some (9,1)]] (D.fr 9 1 (r.map tx))) [1,1,0,1,0] (rest.length+1) (ux aC (bK.map tx) (i1:Int)):=by
 intro rest
 induction rest with
 |nil=>
  intro i1 bK b7 h;rw[eb]at h;refine aO fun N1 cN cI=>?_
  exact((aT.ge tx b7).a [.hl 0 [3] [0]]).ex hΓ cN (dQ bK h)
 |cons bC cE ih1=>
  intro i1 bK b7 h;rw[eb]at h;refine aO fun N1 cN cI=>?_
  obtain⟨Da,h33,h⟩:=aF h;have gJ:=(((aT.lt tx b7).l (bD tx 1 (dc b7) rfl)).g (kY h33))
  obtain⟨h34,h⟩|⟨h34,h⟩:=aN h
  ·obtain⟨h35,h⟩:=bu h;exact(((gJ.b h34).w (cT h35)).a [.cn [3,6,7,8] [2]]).cs hΓ cI (ux aC ((bK.map tx)++([[D.str bC]])) (IntKind.i64.wrap ((i1:Int)+1))) (by first| (simp only[iS b7 hm1,mA]<;>rfl)| (simp only[iS b7 hm1,mA,aL.c,aS.c,aI.c,Action.c,aH.c,aq.c,fW.c,aW.c,Node.c,aR.c,fc.c]<;>rfl)) (ih1 (i1+1) (bK++([bC])) (dn b7) h)
  ·exact((gJ.b h34).a [.cn [3,6,7,8] [0]]).ct hΓ cI (iS b7 hm1) (ih1 (i1+1) bK (dn b7) h)
theorem pg{aC:aE}{r:aE}(h:jv aC=some r):Good prog 108 [D.sl (aC.map tx)] (D.fr 9 1 (r.map tx)):=by
 refine gd func108 [[some (9,1)]] 20 fun hr Γ hΓ=>?_
 rw[jv]at h;refine(aT.a [.KE 3,.cn [3,6,7,8] [0]]).lp hΓ (B7 hΓ (fun bf h=>?_) (by have:=(gm.sl (hr _ (aB (i:=0) rfl))).1;simpa using this) aC 0 ([]:aE) rfl h);have h:=aJ h;subst h;exact aT.ret hΓ
def dF(aC:aE)(k1:aE->Option aE):aE->Nat->aE->Option aE
 | [],i1,cQ=>(k1 cQ)
 |bC::cE,i1,cQ=>(bif ((i1:Int):Int)==0 then(bif room ((cQ.map tx).length+([[D.str bC]]).length) 16 then(dF aC k1 cE (i1+1) (cQ++([bC])))else none)else((sK (kz (([]:aE)++aC)) (IntKind.i64.wrap ((i1:Int)-1))).bind fun x47=>(bif !((x47:Bytes)==bC)then(bif room ((cQ.map tx).length+([[D.str bC]]).length) 16 then(dF aC k1 cE (i1+1) (cQ++([bC])))else none)else(dF aC k1 cE (i1+1) cQ))))
def iI(aC:aE):Option aE:=(bif room (([]:List aK).length+(aC.map tx).length) 16 then(bif decide ((([]:aE)++aC).length<4611686018427387904)then(bif decide ((kz (([]:aE)++aC)).length<=maxLen)then(dF aC (fun(bf:aE)=>(some bf)) (kz (([]:aE)++aC)) 0 ([]:aE))else none)else none)else none)
def pY(aC:aE)(W0:List aK)(dM:Int):St:=⟨[(3,D.acc 0),(4,D.acc 1),(11,D.acc 0),(12,D.int .i64 (((kz (([]:aE)++aC)).map tx).length:Int)),(13,D.int .i64 dM)],[Ob.row .uq 9 1 ((kz (([]:aE)++aC)).map tx),Ob.row .uq 9 1 W0]⟩
theorem yj(hΓ:Γ.nt=35){aC:aE}{r:aE}{k1:aE->Option aE}(dQ:∀(bf:aE),k1 bf=some r->Ax Γ N f110 (.q [[some (9,1)]] (D.fr 9 1 (r.map tx))) [1,1,1,1,1] ⟨[(4,D.acc 0)],[Ob.row .uq 9 1 (bf.map tx)]⟩)(hm1:(kz (([]:aE)++aC)).length<=maxLen):∀(rest:aE) (i1:Nat) (cQ:aE),(kz (([]:aE)++aC)).drop i1=rest->dF aC k1 rest i1 cQ=some r->Ar Γ N f110 (.q [[some (9,1)]] (D.fr 9 1 (r.map tx))) [1,1,1,1,0,1,0] (rest.length+1) (pY aC (cQ.map tx) (i1:Int)):=by
 intro rest
 induction rest with
 |nil=>
  intro i1 cQ b7 h;rw[dF]at h;refine aO fun N1 cN cI=>?_
  exact((aT.ge tx b7).a [.hl 0 [4] [1]]).ex hΓ cN (dQ cQ h)
 |cons bC cE ih1=>
  intro i1 cQ b7 h;rw[dF]at h;refine aO fun N1 cN cI=>?_
  have oR:=(((aT.lt tx b7).i (mQ tx 1 (dc b7))).o 1 1 .uq (fX tx (dc b7)))
  obtain⟨h45,h⟩|⟨h45,h⟩:=aN h
  ·obtain⟨h46,h⟩:=bu h;exact((((oR.r 8 h45).T 1).w (cT h46)).a [.cn [3,4,11,12,13] [0,3]]).cs hΓ cI (pY aC ((cQ.map tx)++([[D.str bC]])) (IntKind.i64.wrap ((i1:Int)+1))) (by first| (simp only[iS b7 hm1,mA]<;>rfl)| (simp only[iS b7 hm1,mA,aL.c,aS.c,aI.c,Action.c,aH.c,aq.c,fW.c,aW.c,Node.c,aR.c,fc.c]<;>rfl)) (ih1 (i1+1) (cQ++([bC])) (dn b7) h)
  ·obtain⟨x47,h48,h⟩:=aF h;have nS:=(((((oR.r 4 h45).i (J1 tx 1 h48)).b h45).o 1 1 .uq (fX tx (Ex h48))).r 3 h45)
   obtain⟨h49,h⟩|⟨h49,h⟩:=aN h
   ·obtain⟨h50,h⟩:=bu h;exact(((nS.b h49).w (cT h50)).a [.cn [3,4,11,12,13] [0,3]]).cs hΓ cI (pY aC ((cQ.map tx)++([[D.str bC]])) (IntKind.i64.wrap ((i1:Int)+1))) (by first| (simp only[iS b7 hm1,mA]<;>rfl)| (simp only[iS b7 hm1,mA,aL.c,aS.c,aI.c,Action.c,aH.c,aq.c,fW.c,aW.c,Node.c,aR.c,fc.c]<;>rfl)) (ih1 (i1+1) (cQ++([bC])) (dn b7) h)
   ·exact((nS.b h49).a [.cn [3,4,11,12,13] [0,1]]).ct hΓ cI (iS b7 hm1) (ih1 (i1+1) cQ (dn b7) h)
theorem nY{aC:aE}{r:aE}(h:iI aC=some r):Good prog 110 [D.sl (aC.map tx)] (D.fr 9 1 (r.map tx)):=by
 refine gd func110 [[some (9,1)]] 35 fun hr Γ hΓ=>?_
 rw[iI]at h;obtain⟨h1,h⟩:=bu h;obtain⟨h2,h⟩:=bu h;obtain⟨h51,h⟩:=bu h;refine(((((aT.w (cT h1)).w (show(∀r∈(aC.map tx),r.length=1)/\(true=true->D.qV (aC.map tx)=true)from⟨by first|simp| (intro r hr;obtain⟨x,_,rfl⟩:=cO.1 (cM (kO hr));rfl),by simp[D.qV,D.flat]⟩)).w (show(([]:List aK)++(aC.map tx)).flatten.all D.flat=true from by simpa only[bR,bI,bP]using MK (([]:aE)++aC))).w (show Ll prog 155 9 1 (([]:List aK)++(aC.map tx)) ((kz (([]:aE)++aC)).map tx)from by simpa only[bR,bI,bP]using(D0 (e:=9) (bq h2)))).a [.fl true,.mu 0 ((kz (([]:aE)++aC)).map tx),.KE 4,.cn [3,4,11,12,13] [0,1]]).lp hΓ (yj hΓ (fun bf h=>?_) (bq h51) (kz (([]:aE)++aC)) 0 ([]:aE) rfl h);have h:=aJ h;subst h;exact aT.ret hΓ
def e7(aC:aH)(aZ:Int)(k1:aE->Option aE):aY->Nat->aE->Option aE
 | [],i1,bK=>(k1 bK)
 |bC::cE,i1,bK=>(bif decide (((i1:Int):Int)<aZ)then(bif (bC.kind:Int)==1 then((jv bC.pat.args).bind fun y39=>(bif room ((bK.map tx).length+(y39.map tx).length) 16 then(e7 aC aZ k1 cE (i1+1) (bK++y39))else none))else(e7 aC aZ k1 cE (i1+1) bK))else(e7 aC aZ k1 cE (i1+1) bK))
def lT(aC:aH)(aZ:Int):Option aE:=(e7 aC aZ (fun(bf:aE)=>((iI bf).bind fun y42=>(some y42))) aC.conds 0 ([]:aE))
def uk(aC:aH)(aZ:Int)(W0:List aK)(dM:Int):St:=⟨[(1,D.int .i64 aZ),(5,D.acc 0),(9,D.sl (aC.conds.map aI.c)),(10,D.int .i64 ((aC.conds.map aI.c).length:Int)),(11,D.int .i64 dM)],[Ob.row .uq 9 1 W0]⟩
theorem Ap(hΓ:Γ.nt=33){aC:aH}{aZ:Int}{r:aE}{k1:aE->Option aE}(dQ:∀(bf:aE),k1 bf=some r->Ax Γ N f106 (.q [[some (9,1)]] (D.fr 9 1 (r.map tx))) [1,1,1] ⟨[(5,D.acc 0)],[Ob.row .uq 9 1 (bf.map tx)]⟩)(hm1:aC.conds.length<=maxLen):∀(rest:aY) (i1:Nat) (bK:aE),aC.conds.drop i1=rest->e7 aC aZ k1 rest i1 bK=some r->Ar Γ N f106 (.q [[some (9,1)]] (D.fr 9 1 (r.map tx))) [1,1,0,1,0] (rest.length+1) (uk aC aZ (bK.map tx) (i1:Int)):=by
 intro rest
 induction rest with
 |nil=>
  intro i1 bK b7 h;rw[e7]at h;refine aO fun N1 cN cI=>?_
  exact((aT.ge aI.c b7).a [.hl 0 [5] [0]]).ex hΓ cN (dQ bK h)
 |cons bC cE ih1=>
  intro i1 bK b7 h;rw[e7]at h;refine aO fun N1 cN cI=>?_
  have oR:=((aT.lt aI.c b7).l (bD aI.c 5 (dc b7) rfl))
  obtain⟨h37,h⟩|⟨h37,h⟩:=aN h
  ·have nS:=(oR.r 4 h37)
   obtain⟨h38,h⟩|⟨h38,h⟩:=aN h
   ·obtain⟨y39,h40,h⟩:=aF h;obtain⟨h41,h⟩:=bu h;exact((((nS.b h38).g (pg h40)).w (cT h41)).a [.cn [1,5,9,10,11] [3]]).cs hΓ cI (uk aC aZ ((bK.map tx)++(y39.map tx)) (IntKind.i64.wrap ((i1:Int)+1))) (by first| (simp only[iS b7 hm1,mA]<;>rfl)| (simp only[iS b7 hm1,mA,aL.c,aS.c,aI.c,Action.c,aH.c,aq.c,fW.c,aW.c,Node.c,aR.c,fc.c]<;>rfl)) (ih1 (i1+1) (bK++y39) (dn b7) h)
   ·exact((nS.b h38).a [.cn [1,5,9,10,11] [0]]).ct hΓ cI (iS b7 hm1) (ih1 (i1+1) bK (dn b7) h)
  ·exact(((oR.r 4 h37).F 1).a [.cn [1,5,9,10,11] [0]]).ct hΓ cI (iS b7 hm1) (ih1 (i1+1) bK (dn b7) h)
theorem tA{aC:aH}{aZ:Int}{r:aE}(h:lT aC aZ=some r):Good prog 106 [D.agg (aH.c aC),D.int .i64 aZ] (D.fr 9 1 (r.map tx)):=by
 refine gd func106 [[some (9,1)]] 33 fun hr Γ hΓ=>?_
 rw[lT]at h;refine(aT.a [.KE 5,.cn [1,5,9,10,11] [1]]).lp hΓ (Ap hΓ (fun bf h=>?_) (by have:=(gm.sl (gm.agg (hr _ (aB (i:=0) rfl)) (.sl (aC.conds.map aI.c)) (by simp))).1;simpa using this) aC.conds 0 ([]:aE) rfl h);obtain⟨y42,h43,h⟩:=aF h;have h:=aJ h;subst h;exact(aT.g (nY h43)).ret hΓ
def ju(aC:aE):Option aE:=(bif room (([]:List aK).length+(aC.map tx).length) 16 then(some (([]:aE)++aC))else none)
theorem pZ{aC:aE}{r:aE}(h:ju aC=some r):Good prog 176 [D.sl (aC.map tx)] (D.fr 9 1 (r.map tx)):=by
 refine gd func176 [[some (9,1)]] 5 fun hr Γ hΓ=>?_
 rw[ju]at h;obtain⟨h1,h⟩:=bu h;cases h;exact(((aT.w (cT h1)).w (show(∀r∈(aC.map tx),r.length=1)/\(true=true->D.qV (aC.map tx)=true)from⟨by first|simp| (intro r hr;obtain⟨x,_,rfl⟩:=cO.1 (cM (kO hr));rfl),by simp[D.qV,D.flat]⟩)).a [.KE 2,.fl true]).rts hΓ (D.fr 9 1 (([]:List aK)++(aC.map tx))) (by first|rfl| (simp only[mA]<;>rfl))
def nj(aC:aI):Option aE:=((ju aC.pat.args).bind fun y1=>(bif room ((y1.map tx).length+(([aC.left,aC.right]:aE).map tx).length) 16 then(some (y1++([aC.left,aC.right]:aE)))else none))
theorem uw{aC:aI}{r:aE}(h:nj aC=some r):Good prog 158 [D.agg (aI.c aC)] (D.fr 9 1 (r.map tx)):=by
 refine gd func158 [[some (9,1)]] 13 fun hr Γ hΓ=>?_
 rw[nj]at h;obtain⟨y1,h2,h⟩:=aF h;obtain⟨h3,h⟩:=bu h;cases h;exact(((aT.a [.KE 2,.n 9]).g (pZ h2)).w (cT h3)).rts hΓ (D.fr 9 1 ((y1.map tx)++(([aC.left,aC.right]:aE).map tx))) (by first|rfl| (simp only[mA]<;>rfl))
def l7(aC:aI):Option aE:=((nj aC).bind fun y1=>((jv y1).bind fun y3=>((iI y3).bind fun y5=>(some y5))))
theorem qL{aC:aI}{r:aE}(h:l7 aC=some r):Good prog 152 [D.agg (aI.c aC)] (D.fr 9 1 (r.map tx)):=by
 refine gd func152 [[some (9,1)]] 7 fun hr Γ hΓ=>?_
 rw[l7]at h;obtain⟨y1,h2,h⟩:=aF h;obtain⟨y3,h4,h⟩:=aF h;obtain⟨y5,h6,h⟩:=aF h;have h:=aJ h;subst h;exact(((aT.g (uw h2)).g (pg h4)).g (nY h6)).ret hΓ
def jE(aC:aE)(aZ:Bytes)(k1:Option Bool):aE->Nat->Option Bool
 | [],i1=>(k1)
 |bC::cE,i1=>(bif (bC:Bytes)==aZ then(some true)else(jE aC aZ k1 cE (i1+1)))
def jD(aC:aE)(aZ:Bytes):Option Bool:=(jE aC aZ (some false) aC 0)
def FC(aC:aE)(aZ:Bytes)(dM:Int):St:=⟨[(1,D.str aZ),(7,D.sl (aC.map tx)),(8,D.int .i64 ((aC.map tx).length:Int)),(9,D.int .i64 dM)],[]⟩
theorem Dn(hΓ:Γ.nt=17){aC:aE}{aZ:Bytes}{r:Bool}{k1:Option Bool}(dQ:k1=some r->Ax Γ N f109 (.q [[none]] (D.bool r)) [1,1] ⟨[],[]⟩)(hm1:aC.length<=maxLen):∀(rest:aE) (i1:Nat),aC.drop i1=rest->jE aC aZ k1 rest i1=some r->Ar Γ N f109 (.q [[none]] (D.bool r)) [1,0,1,0] (rest.length+1) (FC aC aZ (i1:Int)):=by
 intro rest
 induction rest with
 |nil=>
  intro i1 b7 h;rw[jE]at h;refine aO fun N1 cN cI=>?_
  exact((aT.ge tx b7).a [.hl 0 [] []]).ex hΓ cN (dQ h)
 |cons bC cE ih1=>
  intro i1 b7 h;rw[jE]at h;refine aO fun N1 cN cI=>?_
  have gJ:=((aT.lt tx b7).l (bD tx 1 (dc b7) rfl))
  obtain⟨h13,h⟩|⟨h13,h⟩:=aN h
  ·have h:=aJ h;subst h;exact(gJ.b h13).ret hΓ
  ·exact((gJ.b h13).a [.cn [1,7,8,9] []]).ct hΓ cI (iS b7 hm1) (ih1 (i1+1) (dn b7) h)
theorem nO{aC:aE}{aZ:Bytes}{r:Bool}(h:jD aC aZ=some r):Good prog 109 [D.sl (aC.map tx),D.str aZ] (D.bool r):=by
 refine gd func109 [[none]] 17 fun hr Γ hΓ=>?_
 rw[jD]at h;refine(aT.a [.cn [1,7,8,9] []]).lp hΓ (Dn hΓ (fun h=>?_) (by have:=(gm.sl (hr _ (aB (i:=0) rfl))).1;simpa using this) aC 0 rfl h);have h:=aJ h;subst h;exact aT.ret hΓ
def dJ(aC:aH)(aZ:Int)(eZ:Bytes)(k1:Option Bool):aY->Nat->Option Bool
 | [],i1=>(k1)
 |bC::cE,i1=>(bif ((i1:Int):Int) != aZ then((l7 bC).bind fun DN=>((jD DN eZ).bind fun Gr=>(bif Gr then(some true)else(dJ aC aZ eZ k1 cE (i1+1)))))else(dJ aC aZ eZ k1 cE (i1+1)))
def eC(aC:aH)(eZ:Bytes)(k2:Option Bool):bh->Nat->Option Bool
 | [],i2=>(k2)
 |qp::yT,i2=>((jD qp.pat.args eZ).bind fun y59=>(bif y59 then(some true)else(eC aC eZ k2 yT (i2+1))))
def jF(aC:aH)(aZ:Int)(eZ:Bytes):Option Bool:=(dJ aC aZ eZ (eC aC eZ (some false) aC.cc 0) aC.conds 0)
def wo(aC:aH)(aZ:Int)(eZ:Bytes)(dM:Int):St:=⟨[(1,D.int .i64 aZ),(2,D.str eZ),(3,D.ptr 0 0),(12,D.sl (aC.conds.map aI.c)),(13,D.int .i64 ((aC.conds.map aI.c).length:Int)),(14,D.int .i64 dM)],[Ob.box (aH.c aC)]⟩
theorem vz(hΓ:Γ.nt=42){aC:aH}{aZ:Int}{eZ:Bytes}{r:Bool}{k1:Option Bool}(dQ:k1=some r->Ax Γ N f153 (.q [[none]] (D.bool r)) [1,1] ⟨[(2,D.str eZ),(3,D.ptr 0 0)],[Ob.box (aH.c aC)]⟩)(hm1:aC.conds.length<=maxLen):∀(rest:aY) (i1:Nat),aC.conds.drop i1=rest->dJ aC aZ eZ k1 rest i1=some r->Ar Γ N f153 (.q [[none]] (D.bool r)) [1,0,1,0] (rest.length+1) (wo aC aZ eZ (i1:Int)):=by
 intro rest
 induction rest with
 |nil=>
  intro i1 b7 h;rw[dJ]at h;refine aO fun N1 cN cI=>?_
  exact((aT.ge aI.c b7).a [.hl 0 [2,3] [0]]).ex hΓ cN (dQ h)
 |cons bC cE ih1=>
  intro i1 b7 h;rw[dJ]at h;refine aO fun N1 cN cI=>?_
  have nS:=((aT.lt aI.c b7).l (bD aI.c 5 (dc b7) rfl))
  obtain⟨h33,h⟩|⟨h33,h⟩:=aN h
  ·obtain⟨DN,h35,h⟩:=aF h;obtain⟨Gr,h37,h⟩:=aF h;have vB:=(((((nS.r 2 h33).g (qL h35)).r 2 h33).g (nO h37)).b h33)
   obtain⟨h38,h⟩|⟨h38,h⟩:=aN h
   ·have h:=aJ h;subst h;exact(vB.b h38).ret hΓ
   ·exact((vB.b h38).a [.cn [1,2,3,12,13,14] [0]]).ct hΓ cI (iS b7 hm1) (ih1 (i1+1) (dn b7) h)
  ·exact(((nS.r 5 h33).F 1).a [.cn [1,2,3,12,13,14] [0]]).ct hΓ cI (iS b7 hm1) (ih1 (i1+1) (dn b7) h)
def wq(aC:aH)(eZ:Bytes)(dM:Int):St:=⟨[(2,D.str eZ),(30,D.sl (aC.cc.map Action.c)),(31,D.int .i64 ((aC.cc.map Action.c).length:Int)),(32,D.int .i64 dM)],[]⟩
theorem w5(hΓ:Γ.nt=42){aC:aH}{eZ:Bytes}{r:Bool}{k2:Option Bool}(Ho:k2=some r->Ax Γ N f153 (.q [[none]] (D.bool r)) [1,1,1] ⟨[],[]⟩)(hm2:aC.cc.length<=maxLen):∀(rest:bh) (i2:Nat),aC.cc.drop i2=rest->eC aC eZ k2 rest i2=some r->Ar Γ N f153 (.q [[none]] (D.bool r)) [1,1,0,1,0] (rest.length+1) (wq aC eZ (i2:Int)):=by
 intro rest
 induction rest with
 |nil=>
  intro i2 hd2 h;rw[eC]at h;refine aO fun N2 Ac xP=>?_
  exact((aT.ge Action.c hd2).a [.hl 0 [] []]).ex hΓ Ac (Ho h)
 |cons qp yT ih2=>
  intro i2 hd2 h;rw[eC]at h;refine aO fun N2 Ac xP=>?_
  obtain⟨y59,h60,h⟩:=aF h;have xh:=(((aT.lt Action.c hd2).l (bD Action.c 3 (dc hd2) rfl)).g (nO h60))
  obtain⟨h61,h⟩|⟨h61,h⟩:=aN h
  ·have h:=aJ h;subst h;exact(xh.b h61).ret hΓ
  ·exact((xh.b h61).a [.cn [2,30,31,32] []]).ct hΓ xP (iS hd2 hm2) (ih2 (i2+1) (dn hd2) h)
theorem vM{aC:aH}{aZ:Int}{eZ:Bytes}{r:Bool}(h:jF aC aZ eZ=some r):Good prog 153 [D.agg (aH.c aC),D.int .i64 aZ,D.str eZ] (D.bool r):=by
 refine gd func153 [[none]] 42 fun hr Γ hΓ=>?_
 rw[jF]at h;refine(aT.a [.cn [1,2,3,12,13,14] [0]]).lp hΓ (vz hΓ (fun h=>?_) (by have:=(gm.sl (gm.agg (hr _ (aB (i:=0) rfl)) (.sl (aC.conds.map aI.c)) (by simp))).1;simpa using this) aC.conds 0 rfl h);refine(aT.a [.cn [2,30,31,32] []]).lp hΓ (w5 hΓ (fun h=>?_) (by have:=(gm.sl (gm.agg (hr _ (aB (i:=0) rfl)) (.sl (aC.cc.map Action.c)) (by simp))).1;simpa using this) aC.cc 0 rfl h);have h:=aJ h;subst h;exact aT.ret hΓ
end Go.Cx
