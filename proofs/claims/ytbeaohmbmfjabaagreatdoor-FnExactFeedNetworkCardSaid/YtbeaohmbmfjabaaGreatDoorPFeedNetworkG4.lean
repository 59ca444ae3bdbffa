/- What functions of the program compute, and the walks that show it. No condition. -/
import Derived.Test.YtbeaohmbmfjabaaGreatDoorPFeedNetworkG3
import Derived.Shelf.Strings.OnBuilder
import Derived.Test.YtbeaohmbmfjabaaGreatDoorPFeedNetworkG2
import Derived.Shelf.Sort.Plain
import Derived.Shelf.Slices.In.SortNone2
import Derived.Shelf.Strconv.Itoa3
import Derived.WalkSmall
import Derived.Shelf.Strconv.Atoi
import Derived.Shelf.Strconv.ErrVar
import Derived.Shelf.Small.Strs
import Derived.Lib.AtoiBound
set_option linter.unusedVariables false
set_option linter.unusedSimpArgs false
namespace Go.Cx
open Go.RowKit Go.Proofs Tryz
set_option maxRecDepth 100000
variable{Γ:vn}{N:Nat->St->Prop}
def fS(k1:Bytes->Option Bytes):Nat->Int->Bytes->Option Bytes
 |0,_,_=>none
 |n1+1,xK,nv=>(bif decide ((xK:Int)>0)then(bif decide (0<=(xK:Int))&&decide (0<(10:Int))then(bif decide (([UInt8.ofNat (IntKind.u8.wrap (IntKind.i64.wrap (48+((xK:Int)%10)))).toNat]:Bytes).length+(nv:Bytes).length<=maxLen)then(bif decide (0<=(xK:Int))&&decide (0<(10:Int))then(fS k1 n1 ((xK:Int)/10) (([UInt8.ofNat (IntKind.u8.wrap (IntKind.i64.wrap (48+((xK:Int)%10)))).toNat])++nv))else none)else none)else none)else(k1 nv))
def cC(aB:Int):Option Bytes:=(bif decide ((aB:Int)<=0)then(some ([109,48]))else(fS (fun(Ry:Bytes)=>(bif decide (([109]:Bytes).length+(Ry:Bytes).length<=maxLen)then(some (([109])++Ry))else none)) fuel aB ([])))
def LH(xK:Int)(nv:Bytes):St:=⟨[(0,D.int .i64 xK),(3,D.str nv)],[]⟩
theorem JM(hΓ:Γ.nt=20){r:Bytes}{k1:Bytes->Option Bytes}(cW:∀(Ry:Bytes),k1 Ry=some r->Ax Γ N f61 (.q [[none]] (D.str r)) [1,1,1,1] ⟨[(3,D.str Ry)],[]⟩):∀(n1:Nat) (xK:Int) (nv:Bytes),fS k1 n1 xK nv=some r->Ar Γ N f61 (.q [[none]] (D.str r)) [1,1,1,0,0] n1 (LH xK nv):=by
 intro n
 induction n with
 |zero=>intro xK nv h;simp[fS]at h
 |succ n1 ih1=>
  intro xK nv h;rw[fS]at h;refine aN fun N1 bw bg=>?_
  obtain⟨h10,h⟩|⟨h10,h⟩:=aL h
  ·obtain⟨h11,h⟩:=bV h;obtain⟨h12,h⟩:=bV h;obtain⟨h13,h⟩:=bV h;exact(((((aU.b h10).w (Tr .i64 h11)).w (bt h12)).w (Tr .i64 h13)).a [.cn [0,3] []]).cf hΓ bg (ih1 ((xK:Int)/10) (([UInt8.ofNat (IntKind.u8.wrap (IntKind.i64.wrap (48+((xK:Int)%10)))).toNat])++nv) h)
  ·exact((aU.b h10).a [.hl 0 [3] []]).ex hΓ bw (cW nv h)
theorem bn{aB:Int}{r:Bytes}(h:cC aB=some r):Good prog 61 [D.int .i64 aB] (D.str r):=by
 refine gd func61 [[none]] 20 fun hr Γ hΓ=>?_
 rw[cC]at h;obtain⟨h1,h⟩|⟨h1,h⟩:=aL h
 ·cases h;exact(aU.b h1).ret hΓ
 ·refine((aU.b h1).a [.cn [0,3] []]).lp hΓ (JM hΓ (fun Ry h=>?_) fuel aB ([]) h);obtain⟨h14,h⟩:=bV h;cases h;exact(aU.w (bt h14)).rts hΓ (D.str (([109])++Ry)) (by first|rfl| (simp only[mA]<;>rfl))
def fe(k1:aJ->Int->Option (aJ×Int)):aJ->aJ->Int->Option (aJ×Int)
 | [],bh,b8=>(k1 bh b8)
 |bD::bZ,bh,b8=>((cC b8).bind fun y1=>(fe k1 bZ (bh++[y1]) (IntKind.i64.wrap (b8+1))))
def gf(aB:aJ)(aV:Int):Option (aJ×Int):=(fe (fun(bP:aJ) (cL:Int)=>(some (bP,cL))) aB [] aV)
theorem Ea{Γ:vn}(hΓ:Γ.nt=20){N:Nat->St->Prop}{fM:Value}{r:aJ×Int}{k1:aJ->Int->Option (aJ×Int)}(cW:∀(bP:aJ) (cL:Int),k1 bP cL=some r->AW prog Γ (lc f62 [1,1]) (KQ prog Γ N (vr prog f62 [fM] [(1,r.1.map tx)] (D.int .i64 r.2)) (AU f62 [1,1])) ⟨[(1,D.int .i64 cL)],[Ob.fF 1 (bP.map tx) (some fM)]⟩):∀(rest:aJ) (bh:aJ) (b8:Int),bh.length+rest.length<=maxLen->fe k1 rest bh b8=some r->Pr prog Γ (lc f62 [1,0,1,0,0]) (KQ prog Γ N (vr prog f62 [fM] [(1,r.1.map tx)] (D.int .i64 r.2)) (AU f62 [1,0,1,0])) (rest.length+1) ⟨[(0,D.acc 0),(1,D.int .i64 b8),(5,D.int .i64 (bh.length:Int))],[Ob.fF 1 (bh.map tx++rest.map tx) (some fM)]⟩:=by
 intro rest
 induction rest with
 |nil=>
  intro bh b8 hm1 h;rw[fe]at h;refine aN fun N1 bw bg=>?_
  have t:=Q9 (N:=N) (N':=N1) (K0:=(AU f62 [1,0,1,0])) (by kernel_rfl) bw (cW bh b8 h);refine gB (n:=2000) 1 [bF,.hl 0 [1] [0]] (.at_ (lc f62 [1,1]) (AU f62 [1,1]) ⟨[(1,D.int .i64 b8)],[Ob.fF 1 (bh.map tx++([]:aJ).map tx) (some fM)]⟩) hΓ CI (by kernel_rfl) (ow (show(decide (((bh.length:Int):Int)<((bh.map tx++([]:aJ).map tx).length:Int)))=false from(D2 _)) Dw) ?_;refine xM (s:=⟨[(1,D.int .i64 b8)],[Ob.fF 1 (bh.map tx++([]:aJ).map tx) (some fM)]⟩) ?_ t;simp only[bX,cN]
 |cons bD bZ ih1=>
  intro bh b8 hm1 h;rw[fe]at h;refine aN fun N1 bw bg=>?_
  obtain⟨y1,h2,h⟩:=aD h;have t:=ih1 (bh++[y1]) (IntKind.i64.wrap (b8+1)) (by simp only[aX,aM,bK]at hm1⊢;omega) h;refine gB (n:=2000) 1 [bT,.d (D.str y1),.ix (bh.length),.row [D.str bD],.cn [0,1,5] [0]] (.cont 0 ⟨[(0,D.acc 0),(1,D.int .i64 (IntKind.i64.wrap (b8+1))),(5,D.int .i64 (IntKind.i64.wrap ((bh.length:Int)+1)))],[Ob.fF 1 ((bh.map tx++([D.str bD]::bZ.map tx)).set bh.length [D.str y1]) (some fM)]⟩) hΓ CI (by kernel_rfl) (ow (show(decide (((bh.length:Int):Int)<((bh.map tx++([D.str bD]::bZ.map tx)).length:Int)))=true from(D5 _ _ _)) (ow (bn h2) (ow (show(bh.length:Int)=((bh.length:Nat):Int)/\bh.length<(bh.map tx++([D.str bD]::bZ.map tx)).length from⟨rfl,by simp only[bf,aX,aZ,aM];omega⟩) (ow (show(bh.map tx++([D.str bD]::bZ.map tx))[bh.length]?=some [D.str bD]from by(try simp only[cz]);exact dZ _ _ _) Dw)))) ?_;refine(congrFun bg _).mpr ?_;rw[zj (by simp only[aM]at hm1;omega)];simp only[cz];simp only[bN,bH,bX,bY,dR,cI,aX,aM,bK]at t⊢;exact t
theorem lB{aB:aJ}{aV:Int}{r:aJ×Int}(h:gf aB aV=some r):tg prog 62 [D.acc 0,D.int .i64 aV] [(1,aB.map tx)] [(1,r.1.map tx)] (D.int .i64 r.2):=by
 refine tg.of (c:=lQ f62) func62 rfl (by decide) (by simp[f62]) rfl rfl ?_;intro hr Γ hΓ vs hvs
 match vs,hvs with
 | [fM],_=>
 have hΓ:Γ.nt=20:=hΓ;rw[gf]at h;refine(show AW prog Γ (lQ f62) (KQ prog Γ (fun _ _=>False) (vr prog f62 [fM] [(1,r.1.map tx)] (D.int .i64 r.2)) []) _ from ?_);refine gB (n:=2000) 1 [.cn [0,1,5] [0]] (.lp (lc f62 [1,0,1,0,0]) (AU f62 [1,0,1,0]) ⟨[(0,D.acc 0),(1,D.int .i64 aV),(5,D.int .i64 0)],[Ob.fF 1 (aB.map tx) (some fM)]⟩) hΓ CI (by kernel_rfl) Dw (xM (by rfl) (ya (Ea hΓ (fun bP cL h=>?_) aB [] aV (by have:=hr _ (aC (i:=0) rfl);simpa using this) h)));have h:=aG h;subst h;exact gB (n:=2000) 1 [] (.ret (D.gN [D.int .i64 cL,D.agg [D.fr 0 1 (bP.map tx),D.val fM]])) hΓ CI (by kernel_rfl) Dw rfl
def iE(k1:aq->Int->Option (aq×Int)):aq->aq->Int->Option (aq×Int)
 | [],bh,b8=>(k1 bh b8)
 |bD::bZ,bh,b8=>((cC (IntKind.i64.wrap (b8+1))).bind fun y1=>((gf bD.pat.args (IntKind.i64.wrap ((IntKind.i64.wrap (b8+1))+1))).bind fun y3=>((cC y3.2).bind fun y5=>((cC (IntKind.i64.wrap (y3.2+1))).bind fun y7=>(iE k1 bZ (bh++[(⟨b8,(⟨y1,y3.1⟩:aE),y5,y7⟩:aQ)]) (IntKind.i64.wrap ((IntKind.i64.wrap (y3.2+1))+1)))))))
def tH(aB:aq)(aV:Int):Option (aq×Int):=(iE (fun(bP:aq) (cL:Int)=>(some (bP,cL))) aB [] aV)
theorem HA{Γ:vn}(hΓ:Γ.nt=53){N:Nat->St->Prop}{fM:Value}{r:aq×Int}{k1:aq->Int->Option (aq×Int)}(cW:∀(bP:aq) (cL:Int),k1 bP cL=some r->AW prog Γ (lc f117 [1,1]) (KQ prog Γ N (vr prog f117 [fM] [(5,r.1.map aQ.c)] (D.int .i64 r.2)) (AU f117 [1,1])) ⟨[(1,D.int .i64 cL)],[Ob.fF 5 (bP.map aQ.c) (some fM)]⟩):∀(rest:aq) (bh:aq) (b8:Int),bh.length+rest.length<=maxLen->iE k1 rest bh b8=some r->Pr prog Γ (lc f117 [1,0,1,0,0]) (KQ prog Γ N (vr prog f117 [fM] [(5,r.1.map aQ.c)] (D.int .i64 r.2)) (AU f117 [1,0,1,0])) (rest.length+1) ⟨[(0,D.acc 0),(1,D.int .i64 b8),(5,D.int .i64 (bh.length:Int))],[Ob.fF 5 (bh.map aQ.c++rest.map aQ.c) (some fM)]⟩:=by
 intro rest
 induction rest with
 |nil=>
  intro bh b8 hm1 h;rw[iE]at h;refine aN fun N1 bw bg=>?_
  have t:=Q9 (N:=N) (N':=N1) (K0:=(AU f117 [1,0,1,0])) (by kernel_rfl) bw (cW bh b8 h);refine gB (n:=2000) 1 [bF,.hl 0 [1] [0]] (.at_ (lc f117 [1,1]) (AU f117 [1,1]) ⟨[(1,D.int .i64 b8)],[Ob.fF 5 (bh.map aQ.c++([]:aq).map aQ.c) (some fM)]⟩) hΓ CI (by kernel_rfl) (ow (show(decide (((bh.length:Int):Int)<((bh.map aQ.c++([]:aq).map aQ.c).length:Int)))=false from(D2 _)) Dw) ?_;refine xM (s:=⟨[(1,D.int .i64 b8)],[Ob.fF 5 (bh.map aQ.c++([]:aq).map aQ.c) (some fM)]⟩) ?_ t;simp only[bX,cN]
 |cons bD bZ ih1=>
  intro bh b8 hm1 h;rw[iE]at h;refine aN fun N1 bw bg=>?_
  obtain⟨y1,h2,h⟩:=aD h;obtain⟨y3,h4,h⟩:=aD h;obtain⟨y5,h6,h⟩:=aD h;obtain⟨y7,h8,h⟩:=aD h;have t:=ih1 (bh++[(⟨b8,(⟨y1,y3.1⟩:aE),y5,y7⟩:aQ)]) (IntKind.i64.wrap ((IntKind.i64.wrap (y3.2+1))+1)) (by simp only[aX,aM,bK]at hm1⊢;omega) h;let WC:aR:=[D.int .i64 b8,D.str y1,D.any,D.str bD.left,D.str bD.right]
  let UX:aR:=[D.int .i64 b8,D.str y1,D.sl (y3.1.map tx),D.str y5,D.str bD.right]
  let WO:aR:=[D.int .i64 b8,D.str y1,D.sl (y3.1.map tx),D.str bD.left,D.str bD.right]
  let UJ:aR:=[D.int .i64 b8,D.str y1,D.sl (bD.pat.args.map tx),D.str bD.left,D.str bD.right]
  let WQ:aR:=[D.int .i64 b8,D.str bD.pat.rel,D.sl (bD.pat.args.map tx),D.str bD.left,D.str bD.right]
  let UK:aR:=[D.int .i64 bD.kind,D.str bD.pat.rel,D.sl (bD.pat.args.map tx),D.str bD.left,D.str bD.right]
  let UL:List aR:=((bh.map aQ.c++(UK::bZ.map aQ.c)).set bh.length WQ)
  let UZ:List aR:=(((UL.set bh.length UJ).set bh.length WC).set bh.length WO)
  refine gB (n:=2000) 1 [bT,.ix (bh.length),.row UK,.d (D.str y1),.ix (bh.length),.row WQ,.ix (bh.length),.row UJ,.gv [1] [(1,y3.1.map tx)] (D.int .i64 y3.2),.mg 0 bh.length 2 WC,.d (D.str y5),.ix (bh.length),.row WO,.d (D.str y7),.ix (bh.length),.row UX,.cn [0,1,5] [0]] (.cont 0 ⟨[(0,D.acc 0),(1,D.int .i64 (IntKind.i64.wrap ((IntKind.i64.wrap (y3.2+1))+1))),(5,D.int .i64 (IntKind.i64.wrap ((bh.length:Int)+1)))],[Ob.fF 5 ((UZ.set bh.length UX).set bh.length [D.int .i64 b8,D.str y1,D.sl (y3.1.map tx),D.str y5,D.str y7]) (some fM)]⟩) hΓ CI (by kernel_rfl) (ow (show(decide (((bh.length:Int):Int)<((bh.map aQ.c++(UK::bZ.map aQ.c)).length:Int)))=true from(D5 _ _ _)) (ow (show(bh.length:Int)=((bh.length:Nat):Int)/\bh.length<(bh.map aQ.c++(UK::bZ.map aQ.c)).length from⟨rfl,by simp only[UZ,UL,UK,WQ,UJ,WO,UX,WC,bf,aX,aZ,aM];omega⟩) (ow (show(bh.map aQ.c++(UK::bZ.map aQ.c))[bh.length]?=some UK from by(try simp only[UZ,UL,UK,WQ,UJ,WO,UX,WC,cz]);exact dZ _ _ _) (ow (bn h2) (ow (show(bh.length:Int)=((bh.length:Nat):Int)/\bh.length<UL.length from⟨rfl,by simp only[UZ,UL,UK,WQ,UJ,WO,UX,WC,bf,aX,aZ,aM];omega⟩) (ow (show UL[bh.length]?=some WQ from by(try simp only[UZ,UL,UK,WQ,UJ,WO,UX,WC,cz]);exact dZ _ _ _) (ow (show(bh.length:Int)=((bh.length:Nat):Int)/\bh.length<(UL.set bh.length UJ).length from⟨rfl,by simp only[UZ,UL,UK,WQ,UJ,WO,UX,WC,bf,aX,aZ,aM];omega⟩) (ow (show(UL.set bh.length UJ)[bh.length]?=some UJ from by(try simp only[UZ,UL,UK,WQ,UJ,WO,UX,WC,cz]);exact dZ _ _ _) (ow (show∀q∈(bD.pat.args.map tx),q.length=1 from by simp) (ow (lB h4) (ow (show((UL.set bh.length UJ).set bh.length WC)[bh.length]?=some WC from by(try simp only[UZ,UL,UK,WQ,UJ,WO,UX,WC,cz]);exact dZ _ _ _) (ow (show(bh.length*5+2)=bh.length*5+2 from rfl) (ow (bn h6) (ow (show(bh.length:Int)=((bh.length:Nat):Int)/\bh.length<UZ.length from⟨rfl,by simp only[UZ,UL,UK,WQ,UJ,WO,UX,WC,bf,aX,aZ,aM];omega⟩) (ow (show UZ[bh.length]?=some WO from by(try simp only[UZ,UL,UK,WQ,UJ,WO,UX,WC,cz]);exact dZ _ _ _) (ow (bn h8) (ow (show(bh.length:Int)=((bh.length:Nat):Int)/\bh.length<(UZ.set bh.length UX).length from⟨rfl,by simp only[UZ,UL,UK,WQ,UJ,WO,UX,WC,bf,aX,aZ,aM];omega⟩) (ow (show(UZ.set bh.length UX)[bh.length]?=some UX from by(try simp only[UZ,UL,UK,WQ,UJ,WO,UX,WC,cz]);exact dZ _ _ _) Dw)))))))))))))))))) ?_;refine(congrFun bg _).mpr ?_;rw[zj (by simp only[aM]at hm1;omega)];simp only[UZ,UL,UK,WQ,UJ,WO,UX,WC,cz];simp only[bN,bH,bX,bY,dR,cI,aX,aM,bK]at t⊢;exact t
theorem Fl{aB:aq}{aV:Int}{r:aq×Int}(h:tH aB aV=some r):tg prog 117 [D.acc 0,D.int .i64 aV] [(5,aB.map aQ.c)] [(5,r.1.map aQ.c)] (D.int .i64 r.2):=by
 refine tg.of (c:=lQ f117) func117 rfl (by decide) (by simp[f117]) rfl rfl ?_;intro hr Γ hΓ vs hvs
 match vs,hvs with
 | [fM],_=>
 have hΓ:Γ.nt=53:=hΓ;rw[tH]at h;refine(show AW prog Γ (lQ f117) (KQ prog Γ (fun _ _=>False) (vr prog f117 [fM] [(5,r.1.map aQ.c)] (D.int .i64 r.2)) []) _ from ?_);refine gB (n:=2000) 1 [.cn [0,1,5] [0]] (.lp (lc f117 [1,0,1,0,0]) (AU f117 [1,0,1,0]) ⟨[(0,D.acc 0),(1,D.int .i64 aV),(5,D.int .i64 0)],[Ob.fF 5 (aB.map aQ.c) (some fM)]⟩) hΓ CI (by kernel_rfl) Dw (xM (by rfl) (ya (HA hΓ (fun bP cL h=>?_) aB [] aV (by have:=hr _ (aC (i:=0) rfl);simpa using this) h)));have h:=aG h;subst h;exact gB (n:=2000) 1 [] (.ret (D.gN [D.int .i64 cL,D.agg [D.fr 0 5 (bP.map aQ.c),D.val fM]])) hΓ CI (by kernel_rfl) Dw rfl
def fc(k1:c8->Int->Option (c8×Int)):c8->c8->Int->Option (c8×Int)
 | [],bh,b8=>(k1 bh b8)
 |bD::bZ,bh,b8=>((cC (IntKind.i64.wrap (b8+1))).bind fun y1=>((gf bD.pat.args (IntKind.i64.wrap ((IntKind.i64.wrap (b8+1))+1))).bind fun y3=>(fc k1 bZ (bh++[(⟨b8,(⟨y1,y3.1⟩:aE)⟩:Action)]) y3.2)))
def qR(aB:c8)(aV:Int):Option (c8×Int):=(fc (fun(bP:c8) (cL:Int)=>(some (bP,cL))) aB [] aV)
theorem EY{Γ:vn}(hΓ:Γ.nt=37){N:Nat->St->Prop}{fM:Value}{r:c8×Int}{k1:c8->Int->Option (c8×Int)}(cW:∀(bP:c8) (cL:Int),k1 bP cL=some r->AW prog Γ (lc f118 [1,1]) (KQ prog Γ N (vr prog f118 [fM] [(3,r.1.map Action.c)] (D.int .i64 r.2)) (AU f118 [1,1])) ⟨[(1,D.int .i64 cL)],[Ob.fF 3 (bP.map Action.c) (some fM)]⟩):∀(rest:c8) (bh:c8) (b8:Int),bh.length+rest.length<=maxLen->fc k1 rest bh b8=some r->Pr prog Γ (lc f118 [1,0,1,0,0]) (KQ prog Γ N (vr prog f118 [fM] [(3,r.1.map Action.c)] (D.int .i64 r.2)) (AU f118 [1,0,1,0])) (rest.length+1) ⟨[(0,D.acc 0),(1,D.int .i64 b8),(5,D.int .i64 (bh.length:Int))],[Ob.fF 3 (bh.map Action.c++rest.map Action.c) (some fM)]⟩:=by
 intro rest
 induction rest with
 |nil=>
  intro bh b8 hm1 h;rw[fc]at h;refine aN fun N1 bw bg=>?_
  have t:=Q9 (N:=N) (N':=N1) (K0:=(AU f118 [1,0,1,0])) (by kernel_rfl) bw (cW bh b8 h);refine gB (n:=2000) 1 [bF,.hl 0 [1] [0]] (.at_ (lc f118 [1,1]) (AU f118 [1,1]) ⟨[(1,D.int .i64 b8)],[Ob.fF 3 (bh.map Action.c++([]:c8).map Action.c) (some fM)]⟩) hΓ CI (by kernel_rfl) (ow (show(decide (((bh.length:Int):Int)<((bh.map Action.c++([]:c8).map Action.c).length:Int)))=false from(D2 _)) Dw) ?_;refine xM (s:=⟨[(1,D.int .i64 b8)],[Ob.fF 3 (bh.map Action.c++([]:c8).map Action.c) (some fM)]⟩) ?_ t;simp only[bX,cN]
 |cons bD bZ ih1=>
  intro bh b8 hm1 h;rw[fc]at h;refine aN fun N1 bw bg=>?_
  obtain⟨y1,h2,h⟩:=aD h;obtain⟨y3,h4,h⟩:=aD h;have t:=ih1 (bh++[(⟨b8,(⟨y1,y3.1⟩:aE)⟩:Action)]) y3.2 (by simp only[aX,aM,bK]at hm1⊢;omega) h;let W_8:aR:=[D.int .i64 b8,D.str y1,D.sl (bD.pat.args.map tx)]
  let ZD:aR:=[D.int .i64 b8,D.str bD.pat.rel,D.sl (bD.pat.args.map tx)]
  let QF:aR:=[D.int .i64 bD.kind,D.str bD.pat.rel,D.sl (bD.pat.args.map tx)]
  let MQ:List aR:=(bh.map Action.c++(QF::bZ.map Action.c))
  let PS:List aR:=((MQ.set bh.length ZD).set bh.length W_8)
  refine gB (n:=2000) 1 [bT,.ix (bh.length),.row QF,.d (D.str y1),.ix (bh.length),.row ZD,.ix (bh.length),.row W_8,.gv [1] [(1,y3.1.map tx)] (D.int .i64 y3.2),.mg 0 bh.length 2 [D.int .i64 b8,D.str y1,D.any],.cn [0,1,5] [0]] (.cont 0 ⟨[(0,D.acc 0),(1,D.int .i64 y3.2),(5,D.int .i64 (IntKind.i64.wrap ((bh.length:Int)+1)))],[Ob.fF 3 ((PS.set bh.length [D.int .i64 b8,D.str y1,D.any]).set bh.length [D.int .i64 b8,D.str y1,D.sl (y3.1.map tx)]) (some fM)]⟩) hΓ CI (by kernel_rfl) (ow (show(decide (((bh.length:Int):Int)<(MQ.length:Int)))=true from(D5 _ _ _)) (ow (show(bh.length:Int)=((bh.length:Nat):Int)/\bh.length<MQ.length from⟨rfl,by simp only[PS,MQ,QF,ZD,W_8,bf,aX,aZ,aM];omega⟩) (ow (show MQ[bh.length]?=some QF from by(try simp only[PS,MQ,QF,ZD,W_8,cz]);exact dZ _ _ _) (ow (bn h2) (ow (show(bh.length:Int)=((bh.length:Nat):Int)/\bh.length<(MQ.set bh.length ZD).length from⟨rfl,by simp only[PS,MQ,QF,ZD,W_8,bf,aX,aZ,aM];omega⟩) (ow (show(MQ.set bh.length ZD)[bh.length]?=some ZD from by(try simp only[PS,MQ,QF,ZD,W_8,cz]);exact dZ _ _ _) (ow (show(bh.length:Int)=((bh.length:Nat):Int)/\bh.length<PS.length from⟨rfl,by simp only[PS,MQ,QF,ZD,W_8,bf,aX,aZ,aM];omega⟩) (ow (show PS[bh.length]?=some W_8 from by(try simp only[PS,MQ,QF,ZD,W_8,cz]);exact dZ _ _ _) (ow (show∀q∈(bD.pat.args.map tx),q.length=1 from by simp) (ow (lB h4) (ow (show(PS.set bh.length [D.int .i64 b8,D.str y1,D.any])[bh.length]?=some [D.int .i64 b8,D.str y1,D.any]from by(try simp only[PS,MQ,QF,ZD,W_8,cz]);exact dZ _ _ _) (ow (show(bh.length*3+2)=bh.length*3+2 from rfl) Dw)))))))))))) ?_;refine(congrFun bg _).mpr ?_;rw[zj (by simp only[aM]at hm1;omega)];simp only[PS,MQ,QF,ZD,W_8,cz];simp only[bN,bH,bX,bY,dR,cI,aX,aM,bK]at t⊢;exact t
theorem DW{aB:c8}{aV:Int}{r:c8×Int}(h:qR aB aV=some r):tg prog 118 [D.acc 0,D.int .i64 aV] [(3,aB.map Action.c)] [(3,r.1.map Action.c)] (D.int .i64 r.2):=by
 refine tg.of (c:=lQ f118) func118 rfl (by decide) (by simp[f118]) rfl rfl ?_;intro hr Γ hΓ vs hvs
 match vs,hvs with
 | [fM],_=>
 have hΓ:Γ.nt=37:=hΓ;rw[qR]at h;refine(show AW prog Γ (lQ f118) (KQ prog Γ (fun _ _=>False) (vr prog f118 [fM] [(3,r.1.map Action.c)] (D.int .i64 r.2)) []) _ from ?_);refine gB (n:=2000) 1 [.cn [0,1,5] [0]] (.lp (lc f118 [1,0,1,0,0]) (AU f118 [1,0,1,0]) ⟨[(0,D.acc 0),(1,D.int .i64 aV),(5,D.int .i64 0)],[Ob.fF 3 (aB.map Action.c) (some fM)]⟩) hΓ CI (by kernel_rfl) Dw (xM (by rfl) (ya (EY hΓ (fun bP cL h=>?_) aB [] aV (by have:=hr _ (aC (i:=0) rfl);simpa using this) h)));have h:=aG h;subst h;exact gB (n:=2000) 1 [] (.ret (D.gN [D.int .i64 cL,D.agg [D.fr 0 3 (bP.map Action.c),D.val fM]])) hΓ CI (by kernel_rfl) Dw rfl
def iI(k1:ar->Int->Option (ar×Int)):ar->ar->Int->Option (ar×Int)
 | [],bh,b8=>(k1 bh b8)
 |bD::bZ,bh,b8=>((cC b8).bind fun y1=>((tH bD.conds (IntKind.i64.wrap ((IntKind.i64.wrap (b8+1))+1))).bind fun y3=>((qR bD.cu y3.2).bind fun y5=>(iI k1 bZ (bh++[(⟨y1,IntKind.i64.wrap (b8+1),y3.1,y5.1⟩:aO)]) y5.2))))
def tK(aB:ar)(aV:Int):Option (ar×Int):=(iI (fun(bP:ar) (cL:Int)=>(some (bP,cL))) aB [] aV)
theorem HF{Γ:vn}(hΓ:Γ.nt=42){N:Nat->St->Prop}{fM:Value}{r:ar×Int}{k1:ar->Int->Option (ar×Int)}(cW:∀(bP:ar) (cL:Int),k1 bP cL=some r->AW prog Γ (lc f57 [1,1]) (KQ prog Γ N (vr prog f57 [fM] [(4,r.1.map aO.c)] (D.int .i64 r.2)) (AU f57 [1,1])) ⟨[(1,D.int .i64 cL)],[Ob.fF 4 (bP.map aO.c) (some fM)]⟩):∀(rest:ar) (bh:ar) (b8:Int),bh.length+rest.length<=maxLen->iI k1 rest bh b8=some r->Pr prog Γ (lc f57 [1,0,1,0,0]) (KQ prog Γ N (vr prog f57 [fM] [(4,r.1.map aO.c)] (D.int .i64 r.2)) (AU f57 [1,0,1,0])) (rest.length+1) ⟨[(0,D.acc 0),(1,D.int .i64 b8),(5,D.int .i64 (bh.length:Int))],[Ob.fF 4 (bh.map aO.c++rest.map aO.c) (some fM)]⟩:=by
 intro rest
 induction rest with
 |nil=>
  intro bh b8 hm1 h;rw[iI]at h;refine aN fun N1 bw bg=>?_
  have t:=Q9 (N:=N) (N':=N1) (K0:=(AU f57 [1,0,1,0])) (by kernel_rfl) bw (cW bh b8 h);refine gB (n:=2000) 1 [bF,.hl 0 [1] [0]] (.at_ (lc f57 [1,1]) (AU f57 [1,1]) ⟨[(1,D.int .i64 b8)],[Ob.fF 4 (bh.map aO.c++([]:ar).map aO.c) (some fM)]⟩) hΓ CI (by kernel_rfl) (ow (show(decide (((bh.length:Int):Int)<((bh.map aO.c++([]:ar).map aO.c).length:Int)))=false from(D2 _)) Dw) ?_;refine xM (s:=⟨[(1,D.int .i64 b8)],[Ob.fF 4 (bh.map aO.c++([]:ar).map aO.c) (some fM)]⟩) ?_ t;simp only[bX,cN]
 |cons bD bZ ih1=>
  intro bh b8 hm1 h;rw[iI]at h;refine aN fun N1 bw bg=>?_
  obtain⟨y1,h2,h⟩:=aD h;obtain⟨y3,h4,h⟩:=aD h;obtain⟨y5,h6,h⟩:=aD h;have t:=ih1 (bh++[(⟨y1,IntKind.i64.wrap (b8+1),y3.1,y5.1⟩:aO)]) y5.2 (by simp only[aX,aM,bK]at hm1⊢;omega) h;let Ke:aR:=[D.str y1,D.int .i64 (IntKind.i64.wrap (b8+1)),D.sl (y3.1.map aQ.c),D.any]
  let MR:aR:=[D.str y1,D.int .i64 (IntKind.i64.wrap (b8+1)),D.any,D.sl (bD.cu.map Action.c)]
  let MS:aR:=[D.str y1,D.int .i64 bD.prio,D.sl (bD.conds.map aQ.c),D.sl (bD.cu.map Action.c)]
  let GL:aR:=[D.str bD.name,D.int .i64 bD.prio,D.sl (bD.conds.map aQ.c),D.sl (bD.cu.map Action.c)]
  let Ie:List aR:=((bh.map aO.c++(GL::bZ.map aO.c)).set bh.length MS)
  let GM:aR:=[D.str y1,D.int .i64 (IntKind.i64.wrap (b8+1)),D.sl (y3.1.map aQ.c),D.sl (bD.cu.map Action.c)]
  let Ig:aR:=[D.str y1,D.int .i64 (IntKind.i64.wrap (b8+1)),D.sl (bD.conds.map aQ.c),D.sl (bD.cu.map Action.c)]
  let Ih:List aR:=((Ie.set bh.length Ig).set bh.length MR)
  refine gB (n:=2000) 1 [bT,.d (D.str y1),.ix (bh.length),.row GL,.ix (bh.length),.row MS,.ix (bh.length),.row Ig,.gv [1] [(5,y3.1.map aQ.c)] (D.int .i64 y3.2),.mg 0 bh.length 2 MR,.ix (bh.length),.row GM,.gv [2] [(3,y5.1.map Action.c)] (D.int .i64 y5.2),.mg 0 bh.length 3 Ke,.cn [0,1,5] [0]] (.cont 0 ⟨[(0,D.acc 0),(1,D.int .i64 y5.2),(5,D.int .i64 (IntKind.i64.wrap ((bh.length:Int)+1)))],[Ob.fF 4 (((Ih.set bh.length GM).set bh.length Ke).set bh.length [D.str y1,D.int .i64 (IntKind.i64.wrap (b8+1)),D.sl (y3.1.map aQ.c),D.sl (y5.1.map Action.c)]) (some fM)]⟩) hΓ CI (by kernel_rfl) (ow (show(decide (((bh.length:Int):Int)<((bh.map aO.c++(GL::bZ.map aO.c)).length:Int)))=true from(D5 _ _ _)) (ow (bn h2) (ow (show(bh.length:Int)=((bh.length:Nat):Int)/\bh.length<(bh.map aO.c++(GL::bZ.map aO.c)).length from⟨rfl,by simp only[Ih,Ig,GM,Ie,GL,MS,MR,Ke,bf,aX,aZ,aM];omega⟩) (ow (show(bh.map aO.c++(GL::bZ.map aO.c))[bh.length]?=some GL from by(try simp only[Ih,Ig,GM,Ie,GL,MS,MR,Ke,cz]);exact dZ _ _ _) (ow (show(bh.length:Int)=((bh.length:Nat):Int)/\bh.length<Ie.length from⟨rfl,by simp only[Ih,Ig,GM,Ie,GL,MS,MR,Ke,bf,aX,aZ,aM];omega⟩) (ow (show Ie[bh.length]?=some MS from by(try simp only[Ih,Ig,GM,Ie,GL,MS,MR,Ke,cz]);exact dZ _ _ _) (ow (show(bh.length:Int)=((bh.length:Nat):Int)/\bh.length<(Ie.set bh.length Ig).length from⟨rfl,by simp only[Ih,Ig,GM,Ie,GL,MS,MR,Ke,bf,aX,aZ,aM];omega⟩) (ow (show(Ie.set bh.length Ig)[bh.length]?=some Ig from by(try simp only[Ih,Ig,GM,Ie,GL,MS,MR,Ke,cz]);exact dZ _ _ _) (ow (show∀q∈(bD.conds.map aQ.c),q.length=5 from by simp) (ow (Fl h4) (ow (show Ih[bh.length]?=some MR from by(try simp only[Ih,Ig,GM,Ie,GL,MS,MR,Ke,cz]);exact dZ _ _ _) (ow (show(bh.length*4+2)=bh.length*4+2 from rfl) (ow (show(bh.length:Int)=((bh.length:Nat):Int)/\bh.length<(Ih.set bh.length GM).length from⟨rfl,by simp only[Ih,Ig,GM,Ie,GL,MS,MR,Ke,bf,aX,aZ,aM];omega⟩) (ow (show(Ih.set bh.length GM)[bh.length]?=some GM from by(try simp only[Ih,Ig,GM,Ie,GL,MS,MR,Ke,cz]);exact dZ _ _ _) (ow (show∀q∈(bD.cu.map Action.c),q.length=3 from by simp) (ow (DW h6) (ow (show((Ih.set bh.length GM).set bh.length Ke)[bh.length]?=some Ke from by(try simp only[Ih,Ig,GM,Ie,GL,MS,MR,Ke,cz]);exact dZ _ _ _) (ow (show(bh.length*4+3)=bh.length*4+3 from rfl) Dw)))))))))))))))))) ?_;refine(congrFun bg _).mpr ?_;rw[zj (by simp only[aM]at hm1;omega)];simp only[Ih,Ig,GM,Ie,GL,MS,MR,Ke,cz];simp only[bN,bH,bX,bY,dR,cI,aX,aM,bK]at t⊢;exact t
theorem Fp{aB:ar}{aV:Int}{r:ar×Int}(h:tK aB aV=some r):tg prog 57 [D.acc 0,D.int .i64 aV] [(4,aB.map aO.c)] [(4,r.1.map aO.c)] (D.int .i64 r.2):=by
 refine tg.of (c:=lQ f57) func57 rfl (by decide) (by simp[f57]) rfl rfl ?_;intro hr Γ hΓ vs hvs
 match vs,hvs with
 | [fM],_=>
 have hΓ:Γ.nt=42:=hΓ;rw[tK]at h;refine(show AW prog Γ (lQ f57) (KQ prog Γ (fun _ _=>False) (vr prog f57 [fM] [(4,r.1.map aO.c)] (D.int .i64 r.2)) []) _ from ?_);refine gB (n:=2000) 1 [.cn [0,1,5] [0]] (.lp (lc f57 [1,0,1,0,0]) (AU f57 [1,0,1,0]) ⟨[(0,D.acc 0),(1,D.int .i64 aV),(5,D.int .i64 0)],[Ob.fF 4 (aB.map aO.c) (some fM)]⟩) hΓ CI (by kernel_rfl) Dw (xM (by rfl) (ya (HF hΓ (fun bP cL h=>?_) aB [] aV (by have:=hr _ (aC (i:=0) rfl);simpa using this) h)));have h:=aG h;subst h;exact gB (n:=2000) 1 [] (.ret (D.gN [D.int .i64 cL,D.agg [D.fr 0 4 (bP.map aO.c),D.val fM]])) hΓ CI (by kernel_rfl) Dw rfl
def j0(k1:bI->Int->Option (bI×Int)):bI->bI->Int->Option (bI×Int)
 | [],bh,b8=>(k1 bh b8)
 |bD::bZ,bh,b8=>(j0 k1 bZ (bh++[b8]) (IntKind.i64.wrap (b8+1)))
def uW(aB:bI)(aV:Int):Option (bI×Int):=(j0 (fun(bP:bI) (cL:Int)=>(some (bP,cL))) aB [] aV)
theorem JL{Γ:vn}(hΓ:Γ.nt=19){N:Nat->St->Prop}{fM:Value}{r:bI×Int}{k1:bI->Int->Option (bI×Int)}(cW:∀(bP:bI) (cL:Int),k1 bP cL=some r->AW prog Γ (lc f58 [1,1]) (KQ prog Γ N (vr prog f58 [fM] [(1,r.1.map dL)] (D.int .i64 r.2)) (AU f58 [1,1])) ⟨[(1,D.int .i64 cL)],[Ob.fF 1 (bP.map dL) (some fM)]⟩):∀(rest:bI) (bh:bI) (b8:Int),bh.length+rest.length<=maxLen->j0 k1 rest bh b8=some r->Pr prog Γ (lc f58 [1,0,1,0,0]) (KQ prog Γ N (vr prog f58 [fM] [(1,r.1.map dL)] (D.int .i64 r.2)) (AU f58 [1,0,1,0])) (rest.length+1) ⟨[(0,D.acc 0),(1,D.int .i64 b8),(5,D.int .i64 (bh.length:Int))],[Ob.fF 1 (bh.map dL++rest.map dL) (some fM)]⟩:=by
 intro rest
 induction rest with
 |nil=>
  intro bh b8 hm1 h;rw[j0]at h;refine aN fun N1 bw bg=>?_
  have t:=Q9 (N:=N) (N':=N1) (K0:=(AU f58 [1,0,1,0])) (by kernel_rfl) bw (cW bh b8 h);refine gB (n:=2000) 1 [bF,.hl 0 [1] [0]] (.at_ (lc f58 [1,1]) (AU f58 [1,1]) ⟨[(1,D.int .i64 b8)],[Ob.fF 1 (bh.map dL++([]:bI).map dL) (some fM)]⟩) hΓ CI (by kernel_rfl) (ow (show(decide (((bh.length:Int):Int)<((bh.map dL++([]:bI).map dL).length:Int)))=false from(D2 _)) Dw) ?_;refine xM (s:=⟨[(1,D.int .i64 b8)],[Ob.fF 1 (bh.map dL++([]:bI).map dL) (some fM)]⟩) ?_ t;simp only[bX,cN]
 |cons bD bZ ih1=>
  intro bh b8 hm1 h;rw[j0]at h;refine aN fun N1 bw bg=>?_
  have t:=ih1 (bh++[b8]) (IntKind.i64.wrap (b8+1)) (by simp only[aX,aM,bK]at hm1⊢;omega) h;refine gB (n:=2000) 1 [bT,.ix (bh.length),.row [D.int .i64 bD],.cn [0,1,5] [0]] (.cont 0 ⟨[(0,D.acc 0),(1,D.int .i64 (IntKind.i64.wrap (b8+1))),(5,D.int .i64 (IntKind.i64.wrap ((bh.length:Int)+1)))],[Ob.fF 1 ((bh.map dL++([D.int .i64 bD]::bZ.map dL)).set bh.length [D.int .i64 b8]) (some fM)]⟩) hΓ CI (by kernel_rfl) (ow (show(decide (((bh.length:Int):Int)<((bh.map dL++([D.int .i64 bD]::bZ.map dL)).length:Int)))=true from(D5 _ _ _)) (ow (show(bh.length:Int)=((bh.length:Nat):Int)/\bh.length<(bh.map dL++([D.int .i64 bD]::bZ.map dL)).length from⟨rfl,by simp only[bf,aX,aZ,aM];omega⟩) (ow (show(bh.map dL++([D.int .i64 bD]::bZ.map dL))[bh.length]?=some [D.int .i64 bD]from by(try simp only[cz]);exact dZ _ _ _) Dw))) ?_;refine(congrFun bg _).mpr ?_;rw[zj (by simp only[aM]at hm1;omega)];simp only[cz];simp only[bN,bH,bX,bY,dR,cI,aX,aM,bK]at t⊢;exact t
theorem HC{aB:bI}{aV:Int}{r:bI×Int}(h:uW aB aV=some r):tg prog 58 [D.acc 0,D.int .i64 aV] [(1,aB.map dL)] [(1,r.1.map dL)] (D.int .i64 r.2):=by
 refine tg.of (c:=lQ f58) func58 rfl (by decide) (by simp[f58]) rfl rfl ?_;intro hr Γ hΓ vs hvs
 match vs,hvs with
 | [fM],_=>
 have hΓ:Γ.nt=19:=hΓ;rw[uW]at h;refine(show AW prog Γ (lQ f58) (KQ prog Γ (fun _ _=>False) (vr prog f58 [fM] [(1,r.1.map dL)] (D.int .i64 r.2)) []) _ from ?_);refine gB (n:=2000) 1 [.cn [0,1,5] [0]] (.lp (lc f58 [1,0,1,0,0]) (AU f58 [1,0,1,0]) ⟨[(0,D.acc 0),(1,D.int .i64 aV),(5,D.int .i64 0)],[Ob.fF 1 (aB.map dL) (some fM)]⟩) hΓ CI (by kernel_rfl) Dw (xM (by rfl) (ya (JL hΓ (fun bP cL h=>?_) aB [] aV (by have:=hr _ (aC (i:=0) rfl);simpa using this) h)));have h:=aG h;subst h;exact gB (n:=2000) 1 [] (.ret (D.gN [D.int .i64 cL,D.agg [D.fr 0 1 (bP.map dL),D.val fM]])) hΓ CI (by kernel_rfl) Dw rfl
def iF(k1:aK->Int->Option (aK×Int)):aK->aK->Int->Option (aK×Int)
 | [],bh,b8=>(k1 bh b8)
 |bD::bZ,bh,b8=>((cC b8).bind fun y1=>((gf bD.args (IntKind.i64.wrap (b8+1))).bind fun y3=>(iF k1 bZ (bh++[(⟨y1,y3.1⟩:aE)]) y3.2)))
def l9(aB:aK)(aV:Int):Option (aK×Int):=(iF (fun(bP:aK) (cL:Int)=>(some (bP,cL))) aB [] aV)
theorem HB{Γ:vn}(hΓ:Γ.nt=28){N:Nat->St->Prop}{fM:Value}{r:aK×Int}{k1:aK->Int->Option (aK×Int)}(cW:∀(bP:aK) (cL:Int),k1 bP cL=some r->AW prog Γ (lc f20 [1,1]) (KQ prog Γ N (vr prog f20 [fM] [(2,r.1.map aE.c)] (D.int .i64 r.2)) (AU f20 [1,1])) ⟨[(1,D.int .i64 cL)],[Ob.fF 2 (bP.map aE.c) (some fM)]⟩):∀(rest:aK) (bh:aK) (b8:Int),bh.length+rest.length<=maxLen->iF k1 rest bh b8=some r->Pr prog Γ (lc f20 [1,0,1,0,0]) (KQ prog Γ N (vr prog f20 [fM] [(2,r.1.map aE.c)] (D.int .i64 r.2)) (AU f20 [1,0,1,0])) (rest.length+1) ⟨[(0,D.acc 0),(1,D.int .i64 b8),(5,D.int .i64 (bh.length:Int))],[Ob.fF 2 (bh.map aE.c++rest.map aE.c) (some fM)]⟩:=by
 intro rest
 induction rest with
 |nil=>
  intro bh b8 hm1 h;rw[iF]at h;refine aN fun N1 bw bg=>?_
  have t:=Q9 (N:=N) (N':=N1) (K0:=(AU f20 [1,0,1,0])) (by kernel_rfl) bw (cW bh b8 h);refine gB (n:=2000) 1 [bF,.hl 0 [1] [0]] (.at_ (lc f20 [1,1]) (AU f20 [1,1]) ⟨[(1,D.int .i64 b8)],[Ob.fF 2 (bh.map aE.c++([]:aK).map aE.c) (some fM)]⟩) hΓ CI (by kernel_rfl) (ow (show(decide (((bh.length:Int):Int)<((bh.map aE.c++([]:aK).map aE.c).length:Int)))=false from(D2 _)) Dw) ?_;refine xM (s:=⟨[(1,D.int .i64 b8)],[Ob.fF 2 (bh.map aE.c++([]:aK).map aE.c) (some fM)]⟩) ?_ t;simp only[bX,cN]
 |cons bD bZ ih1=>
  intro bh b8 hm1 h;rw[iF]at h;refine aN fun N1 bw bg=>?_
  obtain⟨y1,h2,h⟩:=aD h;obtain⟨y3,h4,h⟩:=aD h;have t:=ih1 (bh++[(⟨y1,y3.1⟩:aE)]) y3.2 (by simp only[aX,aM,bK]at hm1⊢;omega) h;let Rh:List aR:=(bh.map aE.c++([D.str bD.rel,D.sl (bD.args.map tx)]::bZ.map aE.c))
  let Ri:List aR:=(Rh.set bh.length [D.str y1,D.sl (bD.args.map tx)])
  refine gB (n:=2000) 1 [bT,.d (D.str y1),.ix (bh.length),.row [D.str bD.rel,D.sl (bD.args.map tx)],.ix (bh.length),.row [D.str y1,D.sl (bD.args.map tx)],.gv [1] [(1,y3.1.map tx)] (D.int .i64 y3.2),.mg 0 bh.length 1 [D.str y1,D.any],.cn [0,1,5] [0]] (.cont 0 ⟨[(0,D.acc 0),(1,D.int .i64 y3.2),(5,D.int .i64 (IntKind.i64.wrap ((bh.length:Int)+1)))],[Ob.fF 2 ((Ri.set bh.length [D.str y1,D.any]).set bh.length [D.str y1,D.sl (y3.1.map tx)]) (some fM)]⟩) hΓ CI (by kernel_rfl) (ow (show(decide (((bh.length:Int):Int)<(Rh.length:Int)))=true from(D5 _ _ _)) (ow (bn h2) (ow (show(bh.length:Int)=((bh.length:Nat):Int)/\bh.length<Rh.length from⟨rfl,by simp only[Ri,Rh,bf,aX,aZ,aM];omega⟩) (ow (show Rh[bh.length]?=some [D.str bD.rel,D.sl (bD.args.map tx)]from by(try simp only[Ri,Rh,cz]);exact dZ _ _ _) (ow (show(bh.length:Int)=((bh.length:Nat):Int)/\bh.length<Ri.length from⟨rfl,by simp only[Ri,Rh,bf,aX,aZ,aM];omega⟩) (ow (show Ri[bh.length]?=some [D.str y1,D.sl (bD.args.map tx)]from by(try simp only[Ri,Rh,cz]);exact dZ _ _ _) (ow (show∀q∈(bD.args.map tx),q.length=1 from by simp) (ow (lB h4) (ow (show(Ri.set bh.length [D.str y1,D.any])[bh.length]?=some [D.str y1,D.any]from by(try simp only[Ri,Rh,cz]);exact dZ _ _ _) (ow (show(bh.length*2+1)=bh.length*2+1 from rfl) Dw)))))))))) ?_;refine(congrFun bg _).mpr ?_;rw[zj (by simp only[aM]at hm1;omega)];simp only[Ri,Rh,cz];simp only[bN,bH,bX,bY,dR,cI,aX,aM,bK]at t⊢;exact t
theorem qj{aB:aK}{aV:Int}{r:aK×Int}(h:l9 aB aV=some r):tg prog 20 [D.acc 0,D.int .i64 aV] [(2,aB.map aE.c)] [(2,r.1.map aE.c)] (D.int .i64 r.2):=by
 refine tg.of (c:=lQ f20) func20 rfl (by decide) (by simp[f20]) rfl rfl ?_;intro hr Γ hΓ vs hvs
 match vs,hvs with
 | [fM],_=>
 have hΓ:Γ.nt=28:=hΓ;rw[l9]at h;refine(show AW prog Γ (lQ f20) (KQ prog Γ (fun _ _=>False) (vr prog f20 [fM] [(2,r.1.map aE.c)] (D.int .i64 r.2)) []) _ from ?_);refine gB (n:=2000) 1 [.cn [0,1,5] [0]] (.lp (lc f20 [1,0,1,0,0]) (AU f20 [1,0,1,0]) ⟨[(0,D.acc 0),(1,D.int .i64 aV),(5,D.int .i64 0)],[Ob.fF 2 (aB.map aE.c) (some fM)]⟩) hΓ CI (by kernel_rfl) Dw (xM (by rfl) (ya (HB hΓ (fun bP cL h=>?_) aB [] aV (by have:=hr _ (aC (i:=0) rfl);simpa using this) h)));have h:=aG h;subst h;exact gB (n:=2000) 1 [] (.ret (D.gN [D.int .i64 cL,D.agg [D.fr 0 2 (bP.map aE.c),D.val fM]])) hΓ CI (by kernel_rfl) Dw rfl
def gU(k1:b7->Int->Option (b7×Int)):b7->b7->Int->Option (b7×Int)
 | [],bh,b8=>(k1 bh b8)
 |bD::bZ,bh,b8=>((cC b8).bind fun y1=>((gf bD.shape.args (IntKind.i64.wrap (b8+1))).bind fun y3=>((l9 bD.facts y3.2).bind fun y5=>(gU k1 bZ (bh++[(⟨(⟨y1,y3.1⟩:aE),y5.1⟩:aP)]) y5.2))))
def rN(aB:b7)(aV:Int):Option (b7×Int):=(gU (fun(bP:b7) (cL:Int)=>(some (bP,cL))) aB [] aV)
theorem Fk{Γ:vn}(hΓ:Γ.nt=37){N:Nat->St->Prop}{fM:Value}{r:b7×Int}{k1:b7->Int->Option (b7×Int)}(cW:∀(bP:b7) (cL:Int),k1 bP cL=some r->AW prog Γ (lc f59 [1,1]) (KQ prog Γ N (vr prog f59 [fM] [(3,r.1.map aP.c)] (D.int .i64 r.2)) (AU f59 [1,1])) ⟨[(1,D.int .i64 cL)],[Ob.fF 3 (bP.map aP.c) (some fM)]⟩):∀(rest:b7) (bh:b7) (b8:Int),bh.length+rest.length<=maxLen->gU k1 rest bh b8=some r->Pr prog Γ (lc f59 [1,0,1,0,0]) (KQ prog Γ N (vr prog f59 [fM] [(3,r.1.map aP.c)] (D.int .i64 r.2)) (AU f59 [1,0,1,0])) (rest.length+1) ⟨[(0,D.acc 0),(1,D.int .i64 b8),(5,D.int .i64 (bh.length:Int))],[Ob.fF 3 (bh.map aP.c++rest.map aP.c) (some fM)]⟩:=by
 intro rest
 induction rest with
 |nil=>
  intro bh b8 hm1 h;rw[gU]at h;refine aN fun N1 bw bg=>?_
  have t:=Q9 (N:=N) (N':=N1) (K0:=(AU f59 [1,0,1,0])) (by kernel_rfl) bw (cW bh b8 h);refine gB (n:=2000) 1 [bF,.hl 0 [1] [0]] (.at_ (lc f59 [1,1]) (AU f59 [1,1]) ⟨[(1,D.int .i64 b8)],[Ob.fF 3 (bh.map aP.c++([]:b7).map aP.c) (some fM)]⟩) hΓ CI (by kernel_rfl) (ow (show(decide (((bh.length:Int):Int)<((bh.map aP.c++([]:b7).map aP.c).length:Int)))=false from(D2 _)) Dw) ?_;refine xM (s:=⟨[(1,D.int .i64 b8)],[Ob.fF 3 (bh.map aP.c++([]:b7).map aP.c) (some fM)]⟩) ?_ t;simp only[bX,cN]
 |cons bD bZ ih1=>
  intro bh b8 hm1 h;rw[gU]at h;refine aN fun N1 bw bg=>?_
  obtain⟨y1,h2,h⟩:=aD h;obtain⟨y3,h4,h⟩:=aD h;obtain⟨y5,h6,h⟩:=aD h;have t:=ih1 (bh++[(⟨(⟨y1,y3.1⟩:aE),y5.1⟩:aP)]) y5.2 (by simp only[aX,aM,bK]at hm1⊢;omega) h;let PT:aR:=[D.str y1,D.any,D.sl (bD.facts.map aE.c)]
  let Kf:aR:=[D.str y1,D.sl (y3.1.map tx),D.sl (bD.facts.map aE.c)]
  let MT:aR:=[D.str y1,D.sl (bD.shape.args.map tx),D.sl (bD.facts.map aE.c)]
  let PU:aR:=[D.str bD.shape.rel,D.sl (bD.shape.args.map tx),D.sl (bD.facts.map aE.c)]
  let Kg:List aR:=(bh.map aP.c++(PU::bZ.map aP.c))
  let MU:List aR:=((Kg.set bh.length MT).set bh.length PT)
  refine gB (n:=2000) 1 [bT,.d (D.str y1),.ix (bh.length),.row PU,.ix (bh.length),.row MT,.gv [1] [(1,y3.1.map tx)] (D.int .i64 y3.2),.mg 0 bh.length 1 PT,.ix (bh.length),.row Kf,.gv [2] [(2,y5.1.map aE.c)] (D.int .i64 y5.2),.mg 0 bh.length 2 [D.str y1,D.sl (y3.1.map tx),D.any],.cn [0,1,5] [0]] (.cont 0 ⟨[(0,D.acc 0),(1,D.int .i64 y5.2),(5,D.int .i64 (IntKind.i64.wrap ((bh.length:Int)+1)))],[Ob.fF 3 (((MU.set bh.length Kf).set bh.length [D.str y1,D.sl (y3.1.map tx),D.any]).set bh.length [D.str y1,D.sl (y3.1.map tx),D.sl (y5.1.map aE.c)]) (some fM)]⟩) hΓ CI (by kernel_rfl) (ow (show(decide (((bh.length:Int):Int)<(Kg.length:Int)))=true from(D5 _ _ _)) (ow (bn h2) (ow (show(bh.length:Int)=((bh.length:Nat):Int)/\bh.length<Kg.length from⟨rfl,by simp only[MU,Kg,PU,MT,Kf,PT,bf,aX,aZ,aM];omega⟩) (ow (show Kg[bh.length]?=some PU from by(try simp only[MU,Kg,PU,MT,Kf,PT,cz]);exact dZ _ _ _) (ow (show(bh.length:Int)=((bh.length:Nat):Int)/\bh.length<(Kg.set bh.length MT).length from⟨rfl,by simp only[MU,Kg,PU,MT,Kf,PT,bf,aX,aZ,aM];omega⟩) (ow (show(Kg.set bh.length MT)[bh.length]?=some MT from by(try simp only[MU,Kg,PU,MT,Kf,PT,cz]);exact dZ _ _ _) (ow (show∀q∈(bD.shape.args.map tx),q.length=1 from by simp) (ow (lB h4) (ow (show MU[bh.length]?=some PT from by(try simp only[MU,Kg,PU,MT,Kf,PT,cz]);exact dZ _ _ _) (ow (show(bh.length*3+1)=bh.length*3+1 from rfl) (ow (show(bh.length:Int)=((bh.length:Nat):Int)/\bh.length<(MU.set bh.length Kf).length from⟨rfl,by simp only[MU,Kg,PU,MT,Kf,PT,bf,aX,aZ,aM];omega⟩) (ow (show(MU.set bh.length Kf)[bh.length]?=some Kf from by(try simp only[MU,Kg,PU,MT,Kf,PT,cz]);exact dZ _ _ _) (ow (show∀q∈(bD.facts.map aE.c),q.length=2 from by simp) (ow (qj h6) (ow (show((MU.set bh.length Kf).set bh.length [D.str y1,D.sl (y3.1.map tx),D.any])[bh.length]?=some [D.str y1,D.sl (y3.1.map tx),D.any]from by(try simp only[MU,Kg,PU,MT,Kf,PT,cz]);exact dZ _ _ _) (ow (show(bh.length*3+2)=bh.length*3+2 from rfl) Dw)))))))))))))))) ?_;refine(congrFun bg _).mpr ?_;rw[zj (by simp only[aM]at hm1;omega)];simp only[MU,Kg,PU,MT,Kf,PT,cz];simp only[bN,bH,bX,bY,dR,cI,aX,aM,bK]at t⊢;exact t
theorem EZ{aB:b7}{aV:Int}{r:b7×Int}(h:rN aB aV=some r):tg prog 59 [D.acc 0,D.int .i64 aV] [(3,aB.map aP.c)] [(3,r.1.map aP.c)] (D.int .i64 r.2):=by
 refine tg.of (c:=lQ f59) func59 rfl (by decide) (by simp[f59]) rfl rfl ?_;intro hr Γ hΓ vs hvs
 match vs,hvs with
 | [fM],_=>
 have hΓ:Γ.nt=37:=hΓ;rw[rN]at h;refine(show AW prog Γ (lQ f59) (KQ prog Γ (fun _ _=>False) (vr prog f59 [fM] [(3,r.1.map aP.c)] (D.int .i64 r.2)) []) _ from ?_);refine gB (n:=2000) 1 [.cn [0,1,5] [0]] (.lp (lc f59 [1,0,1,0,0]) (AU f59 [1,0,1,0]) ⟨[(0,D.acc 0),(1,D.int .i64 aV),(5,D.int .i64 0)],[Ob.fF 3 (aB.map aP.c) (some fM)]⟩) hΓ CI (by kernel_rfl) Dw (xM (by rfl) (ya (Fk hΓ (fun bP cL h=>?_) aB [] aV (by have:=hr _ (aC (i:=0) rfl);simpa using this) h)));have h:=aG h;subst h;exact gB (n:=2000) 1 [] (.ret (D.gN [D.int .i64 cL,D.agg [D.fr 0 3 (bP.map aP.c),D.val fM]])) hΓ CI (by kernel_rfl) Dw rfl
def iH(k1:aT->Int->Option (aT×Int)):aT->aT->Int->Option (aT×Int)
 | [],bh,b8=>(k1 bh b8)
 |bD::bZ,bh,b8=>((cC b8).bind fun y1=>((cC (IntKind.i64.wrap (b8+1))).bind fun y3=>(iH k1 bZ (bh++[(⟨y1,y3⟩:aS)]) (IntKind.i64.wrap ((IntKind.i64.wrap (b8+1))+1)))))
def tJ(aB:aT)(aV:Int):Option (aT×Int):=(iH (fun(bP:aT) (cL:Int)=>(some (bP,cL))) aB [] aV)
theorem HE{Γ:vn}(hΓ:Γ.nt=29){N:Nat->St->Prop}{fM:Value}{r:aT×Int}{k1:aT->Int->Option (aT×Int)}(cW:∀(bP:aT) (cL:Int),k1 bP cL=some r->AW prog Γ (lc f75 [1,1]) (KQ prog Γ N (vr prog f75 [fM] [(2,r.1.map aS.c)] (D.int .i64 r.2)) (AU f75 [1,1])) ⟨[(1,D.int .i64 cL)],[Ob.fF 2 (bP.map aS.c) (some fM)]⟩):∀(rest:aT) (bh:aT) (b8:Int),bh.length+rest.length<=maxLen->iH k1 rest bh b8=some r->Pr prog Γ (lc f75 [1,0,1,0,0]) (KQ prog Γ N (vr prog f75 [fM] [(2,r.1.map aS.c)] (D.int .i64 r.2)) (AU f75 [1,0,1,0])) (rest.length+1) ⟨[(0,D.acc 0),(1,D.int .i64 b8),(5,D.int .i64 (bh.length:Int))],[Ob.fF 2 (bh.map aS.c++rest.map aS.c) (some fM)]⟩:=by
 intro rest
 induction rest with
 |nil=>
  intro bh b8 hm1 h;rw[iH]at h;refine aN fun N1 bw bg=>?_
  have t:=Q9 (N:=N) (N':=N1) (K0:=(AU f75 [1,0,1,0])) (by kernel_rfl) bw (cW bh b8 h);refine gB (n:=2000) 1 [bF,.hl 0 [1] [0]] (.at_ (lc f75 [1,1]) (AU f75 [1,1]) ⟨[(1,D.int .i64 b8)],[Ob.fF 2 (bh.map aS.c++([]:aT).map aS.c) (some fM)]⟩) hΓ CI (by kernel_rfl) (ow (show(decide (((bh.length:Int):Int)<((bh.map aS.c++([]:aT).map aS.c).length:Int)))=false from(D2 _)) Dw) ?_;refine xM (s:=⟨[(1,D.int .i64 b8)],[Ob.fF 2 (bh.map aS.c++([]:aT).map aS.c) (some fM)]⟩) ?_ t;simp only[bX,cN]
 |cons bD bZ ih1=>
  intro bh b8 hm1 h;rw[iH]at h;refine aN fun N1 bw bg=>?_
  obtain⟨y1,h2,h⟩:=aD h;obtain⟨y3,h4,h⟩:=aD h;have t:=ih1 (bh++[(⟨y1,y3⟩:aS)]) (IntKind.i64.wrap ((IntKind.i64.wrap (b8+1))+1)) (by simp only[aX,aM,bK]at hm1⊢;omega) h;let T4:List aR:=(bh.map aS.c++([D.str bD.var,D.str bD.value]::bZ.map aS.c))
  let UY:List aR:=(T4.set bh.length [D.str y1,D.str bD.value])
  refine gB (n:=2000) 1 [bT,.d (D.str y1),.ix (bh.length),.row [D.str bD.var,D.str bD.value],.d (D.str y3),.ix (bh.length),.row [D.str y1,D.str bD.value],.cn [0,1,5] [0]] (.cont 0 ⟨[(0,D.acc 0),(1,D.int .i64 (IntKind.i64.wrap ((IntKind.i64.wrap (b8+1))+1))),(5,D.int .i64 (IntKind.i64.wrap ((bh.length:Int)+1)))],[Ob.fF 2 (UY.set bh.length [D.str y1,D.str y3]) (some fM)]⟩) hΓ CI (by kernel_rfl) (ow (show(decide (((bh.length:Int):Int)<(T4.length:Int)))=true from(D5 _ _ _)) (ow (bn h2) (ow (show(bh.length:Int)=((bh.length:Nat):Int)/\bh.length<T4.length from⟨rfl,by simp only[UY,T4,bf,aX,aZ,aM];omega⟩) (ow (show T4[bh.length]?=some [D.str bD.var,D.str bD.value]from by(try simp only[UY,T4,cz]);exact dZ _ _ _) (ow (bn h4) (ow (show(bh.length:Int)=((bh.length:Nat):Int)/\bh.length<UY.length from⟨rfl,by simp only[UY,T4,bf,aX,aZ,aM];omega⟩) (ow (show UY[bh.length]?=some [D.str y1,D.str bD.value]from by(try simp only[UY,T4,cz]);exact dZ _ _ _) Dw))))))) ?_;refine(congrFun bg _).mpr ?_;rw[zj (by simp only[aM]at hm1;omega)];simp only[UY,T4,cz];simp only[bN,bH,bX,bY,dR,cI,aX,aM,bK]at t⊢;exact t
theorem Fo{aB:aT}{aV:Int}{r:aT×Int}(h:tJ aB aV=some r):tg prog 75 [D.acc 0,D.int .i64 aV] [(2,aB.map aS.c)] [(2,r.1.map aS.c)] (D.int .i64 r.2):=by
 refine tg.of (c:=lQ f75) func75 rfl (by decide) (by simp[f75]) rfl rfl ?_;intro hr Γ hΓ vs hvs
 match vs,hvs with
 | [fM],_=>
 have hΓ:Γ.nt=29:=hΓ;rw[tJ]at h;refine(show AW prog Γ (lQ f75) (KQ prog Γ (fun _ _=>False) (vr prog f75 [fM] [(2,r.1.map aS.c)] (D.int .i64 r.2)) []) _ from ?_);refine gB (n:=2000) 1 [.cn [0,1,5] [0]] (.lp (lc f75 [1,0,1,0,0]) (AU f75 [1,0,1,0]) ⟨[(0,D.acc 0),(1,D.int .i64 aV),(5,D.int .i64 0)],[Ob.fF 2 (aB.map aS.c) (some fM)]⟩) hΓ CI (by kernel_rfl) Dw (xM (by rfl) (ya (HE hΓ (fun bP cL h=>?_) aB [] aV (by have:=hr _ (aC (i:=0) rfl);simpa using this) h)));have h:=aG h;subst h;exact gB (n:=2000) 1 [] (.ret (D.gN [D.int .i64 cL,D.agg [D.fr 0 2 (bP.map aS.c),D.val fM]])) hΓ CI (by kernel_rfl) Dw rfl
def gV(k1:ah->Int->Option (ah×Int)):ah->ah->Int->Option (ah×Int)
 | [],bh,b8=>(k1 bh b8)
 |bD::bZ,bh,b8=>((l9 bD.facts b8).bind fun y1=>((tJ bD.bind y1.2).bind fun y3=>(gV k1 bZ (bh++[(⟨y1.1,y3.1⟩:aI)]) y3.2)))
def rO(aB:ah)(aV:Int):Option (ah×Int):=(gV (fun(bP:ah) (cL:Int)=>(some (bP,cL))) aB [] aV)
theorem Fq{Γ:vn}(hΓ:Γ.nt=27){N:Nat->St->Prop}{fM:Value}{r:ah×Int}{k1:ah->Int->Option (ah×Int)}(cW:∀(bP:ah) (cL:Int),k1 bP cL=some r->AW prog Γ (lc f119 [1,1]) (KQ prog Γ N (vr prog f119 [fM] [(2,r.1.map aI.c)] (D.int .i64 r.2)) (AU f119 [1,1])) ⟨[(1,D.int .i64 cL)],[Ob.fF 2 (bP.map aI.c) (some fM)]⟩):∀(rest:ah) (bh:ah) (b8:Int),bh.length+rest.length<=maxLen->gV k1 rest bh b8=some r->Pr prog Γ (lc f119 [1,0,1,0,0]) (KQ prog Γ N (vr prog f119 [fM] [(2,r.1.map aI.c)] (D.int .i64 r.2)) (AU f119 [1,0,1,0])) (rest.length+1) ⟨[(0,D.acc 0),(1,D.int .i64 b8),(5,D.int .i64 (bh.length:Int))],[Ob.fF 2 (bh.map aI.c++rest.map aI.c) (some fM)]⟩:=by
 intro rest
 induction rest with
 |nil=>
  intro bh b8 hm1 h;rw[gV]at h;refine aN fun N1 bw bg=>?_
  have t:=Q9 (N:=N) (N':=N1) (K0:=(AU f119 [1,0,1,0])) (by kernel_rfl) bw (cW bh b8 h);refine gB (n:=2000) 1 [bF,.hl 0 [1] [0]] (.at_ (lc f119 [1,1]) (AU f119 [1,1]) ⟨[(1,D.int .i64 b8)],[Ob.fF 2 (bh.map aI.c++([]:ah).map aI.c) (some fM)]⟩) hΓ CI (by kernel_rfl) (ow (show(decide (((bh.length:Int):Int)<((bh.map aI.c++([]:ah).map aI.c).length:Int)))=false from(D2 _)) Dw) ?_;refine xM (s:=⟨[(1,D.int .i64 b8)],[Ob.fF 2 (bh.map aI.c++([]:ah).map aI.c) (some fM)]⟩) ?_ t;simp only[bX,cN]
 |cons bD bZ ih1=>
  intro bh b8 hm1 h;rw[gV]at h;refine aN fun N1 bw bg=>?_
  obtain⟨y1,h2,h⟩:=aD h;obtain⟨y3,h4,h⟩:=aD h;have t:=ih1 (bh++[(⟨y1.1,y3.1⟩:aI)]) y3.2 (by simp only[aX,aM,bK]at hm1⊢;omega) h;let OD:aR:=[D.sl (y1.1.map aE.c),D.sl (bD.bind.map aS.c)]
  let Rj:aR:=[D.sl (bD.facts.map aE.c),D.sl (bD.bind.map aS.c)]
  let QG:List aR:=(bh.map aI.c++(Rj::bZ.map aI.c))
  let PV:List aR:=(QG.set bh.length [D.any,D.sl (bD.bind.map aS.c)])
  refine gB (n:=2000) 1 [bT,.ix (bh.length),.row Rj,.gv [1] [(2,y1.1.map aE.c)] (D.int .i64 y1.2),.mg 0 bh.length 0 [D.any,D.sl (bD.bind.map aS.c)],.ix (bh.length),.row OD,.gv [2] [(2,y3.1.map aS.c)] (D.int .i64 y3.2),.mg 0 bh.length 1 [D.sl (y1.1.map aE.c),D.any],.cn [0,1,5] [0]] (.cont 0 ⟨[(0,D.acc 0),(1,D.int .i64 y3.2),(5,D.int .i64 (IntKind.i64.wrap ((bh.length:Int)+1)))],[Ob.fF 2 (((PV.set bh.length OD).set bh.length [D.sl (y1.1.map aE.c),D.any]).set bh.length [D.sl (y1.1.map aE.c),D.sl (y3.1.map aS.c)]) (some fM)]⟩) hΓ CI (by kernel_rfl) (ow (show(decide (((bh.length:Int):Int)<(QG.length:Int)))=true from(D5 _ _ _)) (ow (show(bh.length:Int)=((bh.length:Nat):Int)/\bh.length<QG.length from⟨rfl,by simp only[PV,QG,Rj,OD,bf,aX,aZ,aM];omega⟩) (ow (show QG[bh.length]?=some Rj from by(try simp only[PV,QG,Rj,OD,cz]);exact dZ _ _ _) (ow (show∀q∈(bD.facts.map aE.c),q.length=2 from by simp) (ow (qj h2) (ow (show PV[bh.length]?=some [D.any,D.sl (bD.bind.map aS.c)]from by(try simp only[PV,QG,Rj,OD,cz]);exact dZ _ _ _) (ow (show(bh.length*2+0)=bh.length*2+0 from rfl) (ow (show(bh.length:Int)=((bh.length:Nat):Int)/\bh.length<(PV.set bh.length OD).length from⟨rfl,by simp only[PV,QG,Rj,OD,bf,aX,aZ,aM];omega⟩) (ow (show(PV.set bh.length OD)[bh.length]?=some OD from by(try simp only[PV,QG,Rj,OD,cz]);exact dZ _ _ _) (ow (show∀q∈(bD.bind.map aS.c),q.length=2 from by simp) (ow (Fo h4) (ow (show((PV.set bh.length OD).set bh.length [D.sl (y1.1.map aE.c),D.any])[bh.length]?=some [D.sl (y1.1.map aE.c),D.any]from by(try simp only[PV,QG,Rj,OD,cz]);exact dZ _ _ _) (ow (show(bh.length*2+1)=bh.length*2+1 from rfl) Dw))))))))))))) ?_;refine(congrFun bg _).mpr ?_;rw[zj (by simp only[aM]at hm1;omega)];simp only[PV,QG,Rj,OD,cz];simp only[bN,bH,bX,bY,dR,cI,aX,aM,bK]at t⊢;exact t
theorem Eb{aB:ah}{aV:Int}{r:ah×Int}(h:rO aB aV=some r):tg prog 119 [D.acc 0,D.int .i64 aV] [(2,aB.map aI.c)] [(2,r.1.map aI.c)] (D.int .i64 r.2):=by
 refine tg.of (c:=lQ f119) func119 rfl (by decide) (by simp[f119]) rfl rfl ?_;intro hr Γ hΓ vs hvs
 match vs,hvs with
 | [fM],_=>
 have hΓ:Γ.nt=27:=hΓ;rw[rO]at h;refine(show AW prog Γ (lQ f119) (KQ prog Γ (fun _ _=>False) (vr prog f119 [fM] [(2,r.1.map aI.c)] (D.int .i64 r.2)) []) _ from ?_);refine gB (n:=2000) 1 [.cn [0,1,5] [0]] (.lp (lc f119 [1,0,1,0,0]) (AU f119 [1,0,1,0]) ⟨[(0,D.acc 0),(1,D.int .i64 aV),(5,D.int .i64 0)],[Ob.fF 2 (aB.map aI.c) (some fM)]⟩) hΓ CI (by kernel_rfl) Dw (xM (by rfl) (ya (Fq hΓ (fun bP cL h=>?_) aB [] aV (by have:=hr _ (aC (i:=0) rfl);simpa using this) h)));have h:=aG h;subst h;exact gB (n:=2000) 1 [] (.ret (D.gN [D.int .i64 cL,D.agg [D.fr 0 2 (bP.map aI.c),D.val fM]])) hΓ CI (by kernel_rfl) Dw rfl
def iG(k1:ay->Int->Option (ay×Int)):ay->ay->Int->Option (ay×Int)
 | [],bh,b8=>(k1 bh b8)
 |bD::bZ,bh,b8=>((cC (IntKind.i64.wrap ((IntKind.i64.wrap (b8+1))+1))).bind fun y1=>((gf bD.cond.pat.args (IntKind.i64.wrap ((IntKind.i64.wrap ((IntKind.i64.wrap (b8+1))+1))+1))).bind fun y3=>((cC y3.2).bind fun y5=>((cC (IntKind.i64.wrap (y3.2+1))).bind fun y7=>((rO bD.tokens (IntKind.i64.wrap ((IntKind.i64.wrap ((IntKind.i64.wrap (y3.2+1))+1))+1))).bind fun y9=>(iG k1 bZ (bh++[(⟨b8,(⟨IntKind.i64.wrap (b8+1),(⟨y1,y3.1⟩:aE),y5,y7⟩:aQ),IntKind.i64.wrap ((IntKind.i64.wrap (y3.2+1))+1),y9.1⟩:Node)]) y9.2))))))
def tI(aB:ay)(aV:Int):Option (ay×Int):=(iG (fun(bP:ay) (cL:Int)=>(some (bP,cL))) aB [] aV)
theorem HD{Γ:vn}(hΓ:Γ.nt=79){N:Nat->St->Prop}{fM:Value}{r:ay×Int}{k1:ay->Int->Option (ay×Int)}(cW:∀(bP:ay) (cL:Int),k1 bP cL=some r->AW prog Γ (lc f60 [1,1]) (KQ prog Γ N (vr prog f60 [fM] [(8,r.1.map Node.c)] (D.int .i64 r.2)) (AU f60 [1,1])) ⟨[(1,D.int .i64 cL)],[Ob.fF 8 (bP.map Node.c) (some fM)]⟩):∀(rest:ay) (bh:ay) (b8:Int),bh.length+rest.length<=maxLen->iG k1 rest bh b8=some r->Pr prog Γ (lc f60 [1,0,1,0,0]) (KQ prog Γ N (vr prog f60 [fM] [(8,r.1.map Node.c)] (D.int .i64 r.2)) (AU f60 [1,0,1,0])) (rest.length+1) ⟨[(0,D.acc 0),(1,D.int .i64 b8),(5,D.int .i64 (bh.length:Int))],[Ob.fF 8 (bh.map Node.c++rest.map Node.c) (some fM)]⟩:=by
 intro rest
 induction rest with
 |nil=>
  intro bh b8 hm1 h;rw[iG]at h;refine aN fun N1 bw bg=>?_
  have t:=Q9 (N:=N) (N':=N1) (K0:=(AU f60 [1,0,1,0])) (by kernel_rfl) bw (cW bh b8 h);refine gB (n:=2000) 1 [bF,.hl 0 [1] [0]] (.at_ (lc f60 [1,1]) (AU f60 [1,1]) ⟨[(1,D.int .i64 b8)],[Ob.fF 8 (bh.map Node.c++([]:ay).map Node.c) (some fM)]⟩) hΓ CI (by kernel_rfl) (ow (show(decide (((bh.length:Int):Int)<((bh.map Node.c++([]:ay).map Node.c).length:Int)))=false from(D2 _)) Dw) ?_;refine xM (s:=⟨[(1,D.int .i64 b8)],[Ob.fF 8 (bh.map Node.c++([]:ay).map Node.c) (some fM)]⟩) ?_ t;simp only[bX,cN]
 |cons bD bZ ih1=>
  intro bh b8 hm1 h;rw[iG]at h;refine aN fun N1 bw bg=>?_
  obtain⟨y1,h2,h⟩:=aD h;obtain⟨y3,h4,h⟩:=aD h;obtain⟨y5,h6,h⟩:=aD h;obtain⟨y7,h8,h⟩:=aD h;obtain⟨y9,h10,h⟩:=aD h;have t:=ih1 (bh++[(⟨b8,(⟨IntKind.i64.wrap (b8+1),(⟨y1,y3.1⟩:aE),y5,y7⟩:aQ),IntKind.i64.wrap ((IntKind.i64.wrap (y3.2+1))+1),y9.1⟩:Node)]) y9.2 (by simp only[aX,aM,bK]at hm1⊢;omega) h;let CM:aR:=[D.int .i64 b8,D.int .i64 (IntKind.i64.wrap (b8+1)),D.str y1,D.sl (y3.1.map tx),D.str y5,D.str y7,D.int .i64 bD.cP,D.sl (bD.tokens.map aI.c)]
  let Bg:aR:=[D.int .i64 b8,D.int .i64 (IntKind.i64.wrap (b8+1)),D.str y1,D.any,D.str bD.cond.left,D.str bD.cond.right,D.int .i64 bD.cP,D.sl (bD.tokens.map aI.c)]
  let BB:aR:=[D.int .i64 b8,D.int .i64 (IntKind.i64.wrap (b8+1)),D.str y1,D.sl (y3.1.map tx),D.str y5,D.str bD.cond.right,D.int .i64 bD.cP,D.sl (bD.tokens.map aI.c)]
  let CN:aR:=[D.int .i64 b8,D.int .i64 (IntKind.i64.wrap (b8+1)),D.str y1,D.sl (y3.1.map tx),D.str bD.cond.left,D.str bD.cond.right,D.int .i64 bD.cP,D.sl (bD.tokens.map aI.c)]
  let Bh:aR:=[D.int .i64 b8,D.int .i64 (IntKind.i64.wrap (b8+1)),D.str y1,D.sl (y3.1.map tx),D.str y5,D.str y7,D.int .i64 (IntKind.i64.wrap ((IntKind.i64.wrap (y3.2+1))+1)),D.any]
  let CO:aR:=[D.int .i64 b8,D.int .i64 bD.cond.kind,D.str bD.cond.pat.rel,D.sl (bD.cond.pat.args.map tx),D.str bD.cond.left,D.str bD.cond.right,D.int .i64 bD.cP,D.sl (bD.tokens.map aI.c)]
  let CP:aR:=[D.int .i64 b8,D.int .i64 (IntKind.i64.wrap (b8+1)),D.str y1,D.sl (bD.cond.pat.args.map tx),D.str bD.cond.left,D.str bD.cond.right,D.int .i64 bD.cP,D.sl (bD.tokens.map aI.c)]
  let Ab:aR:=[D.int .i64 bD.parent,D.int .i64 bD.cond.kind,D.str bD.cond.pat.rel,D.sl (bD.cond.pat.args.map tx),D.str bD.cond.left,D.str bD.cond.right,D.int .i64 bD.cP,D.sl (bD.tokens.map aI.c)]
  let BC:List aR:=((bh.map Node.c++(Ab::bZ.map Node.c)).set bh.length CO)
  let Ac:aR:=[D.int .i64 b8,D.int .i64 (IntKind.i64.wrap (b8+1)),D.str y1,D.sl (y3.1.map tx),D.str y5,D.str y7,D.int .i64 (IntKind.i64.wrap ((IntKind.i64.wrap (y3.2+1))+1)),D.sl (bD.tokens.map aI.c)]
  let BD:aR:=[D.int .i64 b8,D.int .i64 (IntKind.i64.wrap (b8+1)),D.str bD.cond.pat.rel,D.sl (bD.cond.pat.args.map tx),D.str bD.cond.left,D.str bD.cond.right,D.int .i64 bD.cP,D.sl (bD.tokens.map aI.c)]
  let Bi:List aR:=((BC.set bh.length BD).set bh.length CP)
  let BE:List aR:=((Bi.set bh.length Bg).set bh.length CN)
  let Ad:List aR:=((BE.set bh.length BB).set bh.length CM)
  refine gB (n:=2000) 1 [bT,.ix (bh.length),.row Ab,.ix (bh.length),.row CO,.d (D.str y1),.ix (bh.length),.row BD,.ix (bh.length),.row CP,.gv [1] [(1,y3.1.map tx)] (D.int .i64 y3.2),.mg 0 bh.length 3 Bg,.d (D.str y5),.ix (bh.length),.row CN,.d (D.str y7),.ix (bh.length),.row BB,.ix (bh.length),.row CM,.ix (bh.length),.row Ac,.gv [2] [(2,y9.1.map aI.c)] (D.int .i64 y9.2),.mg 0 bh.length 7 Bh,.cn [0,1,5] [0]] (.cont 0 ⟨[(0,D.acc 0),(1,D.int .i64 y9.2),(5,D.int .i64 (IntKind.i64.wrap ((bh.length:Int)+1)))],[Ob.fF 8 (((Ad.set bh.length Ac).set bh.length Bh).set bh.length [D.int .i64 b8,D.int .i64 (IntKind.i64.wrap (b8+1)),D.str y1,D.sl (y3.1.map tx),D.str y5,D.str y7,D.int .i64 (IntKind.i64.wrap ((IntKind.i64.wrap (y3.2+1))+1)),D.sl (y9.1.map aI.c)]) (some fM)]⟩) hΓ CI (by kernel_rfl) (ow (show(decide (((bh.length:Int):Int)<((bh.map Node.c++(Ab::bZ.map Node.c)).length:Int)))=true from(D5 _ _ _)) (ow (show(bh.length:Int)=((bh.length:Nat):Int)/\bh.length<(bh.map Node.c++(Ab::bZ.map Node.c)).length from⟨rfl,by simp only[Ad,BE,Bi,BD,Ac,BC,Ab,CP,CO,Bh,CN,BB,Bg,CM,bf,aX,aZ,aM];omega⟩) (ow (show(bh.map Node.c++(Ab::bZ.map Node.c))[bh.length]?=some Ab from by(try simp only[Ad,BE,Bi,BD,Ac,BC,Ab,CP,CO,Bh,CN,BB,Bg,CM,cz]);exact dZ _ _ _) (ow (show(bh.length:Int)=((bh.length:Nat):Int)/\bh.length<BC.length from⟨rfl,by simp only[Ad,BE,Bi,BD,Ac,BC,Ab,CP,CO,Bh,CN,BB,Bg,CM,bf,aX,aZ,aM];omega⟩) (ow (show BC[bh.length]?=some CO from by(try simp only[Ad,BE,Bi,BD,Ac,BC,Ab,CP,CO,Bh,CN,BB,Bg,CM,cz]);exact dZ _ _ _) (ow (bn h2) (ow (show(bh.length:Int)=((bh.length:Nat):Int)/\bh.length<(BC.set bh.length BD).length from⟨rfl,by simp only[Ad,BE,Bi,BD,Ac,BC,Ab,CP,CO,Bh,CN,BB,Bg,CM,bf,aX,aZ,aM];omega⟩) (ow (show(BC.set bh.length BD)[bh.length]?=some BD from by(try simp only[Ad,BE,Bi,BD,Ac,BC,Ab,CP,CO,Bh,CN,BB,Bg,CM,cz]);exact dZ _ _ _) (ow (show(bh.length:Int)=((bh.length:Nat):Int)/\bh.length<Bi.length from⟨rfl,by simp only[Ad,BE,Bi,BD,Ac,BC,Ab,CP,CO,Bh,CN,BB,Bg,CM,bf,aX,aZ,aM];omega⟩) (ow (show Bi[bh.length]?=some CP from by(try simp only[Ad,BE,Bi,BD,Ac,BC,Ab,CP,CO,Bh,CN,BB,Bg,CM,cz]);exact dZ _ _ _) (ow (show∀q∈(bD.cond.pat.args.map tx),q.length=1 from by simp) (ow (lB h4) (ow (show(Bi.set bh.length Bg)[bh.length]?=some Bg from by(try simp only[Ad,BE,Bi,BD,Ac,BC,Ab,CP,CO,Bh,CN,BB,Bg,CM,cz]);exact dZ _ _ _) (ow (show(bh.length*8+3)=bh.length*8+3 from rfl) (ow (bn h6) (ow (show(bh.length:Int)=((bh.length:Nat):Int)/\bh.length<BE.length from⟨rfl,by simp only[Ad,BE,Bi,BD,Ac,BC,Ab,CP,CO,Bh,CN,BB,Bg,CM,bf,aX,aZ,aM];omega⟩) (ow (show BE[bh.length]?=some CN from by(try simp only[Ad,BE,Bi,BD,Ac,BC,Ab,CP,CO,Bh,CN,BB,Bg,CM,cz]);exact dZ _ _ _) (ow (bn h8) (ow (show(bh.length:Int)=((bh.length:Nat):Int)/\bh.length<(BE.set bh.length BB).length from⟨rfl,by simp only[Ad,BE,Bi,BD,Ac,BC,Ab,CP,CO,Bh,CN,BB,Bg,CM,bf,aX,aZ,aM];omega⟩) (ow (show(BE.set bh.length BB)[bh.length]?=some BB from by(try simp only[Ad,BE,Bi,BD,Ac,BC,Ab,CP,CO,Bh,CN,BB,Bg,CM,cz]);exact dZ _ _ _) (ow (show(bh.length:Int)=((bh.length:Nat):Int)/\bh.length<Ad.length from⟨rfl,by simp only[Ad,BE,Bi,BD,Ac,BC,Ab,CP,CO,Bh,CN,BB,Bg,CM,bf,aX,aZ,aM];omega⟩) (ow (show Ad[bh.length]?=some CM from by(try simp only[Ad,BE,Bi,BD,Ac,BC,Ab,CP,CO,Bh,CN,BB,Bg,CM,cz]);exact dZ _ _ _) (ow (show(bh.length:Int)=((bh.length:Nat):Int)/\bh.length<(Ad.set bh.length Ac).length from⟨rfl,by simp only[Ad,BE,Bi,BD,Ac,BC,Ab,CP,CO,Bh,CN,BB,Bg,CM,bf,aX,aZ,aM];omega⟩) (ow (show(Ad.set bh.length Ac)[bh.length]?=some Ac from by(try simp only[Ad,BE,Bi,BD,Ac,BC,Ab,CP,CO,Bh,CN,BB,Bg,CM,cz]);exact dZ _ _ _) (ow (show∀q∈(bD.tokens.map aI.c),q.length=2 from by simp) (ow (Eb h10) (ow (show((Ad.set bh.length Ac).set bh.length Bh)[bh.length]?=some Bh from by(try simp only[Ad,BE,Bi,BD,Ac,BC,Ab,CP,CO,Bh,CN,BB,Bg,CM,cz]);exact dZ _ _ _) (ow (show(bh.length*8+7)=bh.length*8+7 from rfl) Dw)))))))))))))))))))))))))))) ?_;refine(congrFun bg _).mpr ?_;rw[zj (by simp only[aM]at hm1;omega)];simp only[Ad,BE,Bi,BD,Ac,BC,Ab,CP,CO,Bh,CN,BB,Bg,CM,cz];simp only[bN,bH,bX,bY,dR,cI,aX,aM,bK]at t⊢
  exact t
theorem Fm{aB:ay}{aV:Int}{r:ay×Int}(h:tI aB aV=some r):tg prog 60 [D.acc 0,D.int .i64 aV] [(8,aB.map Node.c)] [(8,r.1.map Node.c)] (D.int .i64 r.2):=by
 refine tg.of (c:=lQ f60) func60 rfl (by decide) (by simp[f60]) rfl rfl ?_;intro hr Γ hΓ vs hvs
 match vs,hvs with
 | [fM],_=>
 have hΓ:Γ.nt=79:=hΓ;rw[tI]at h;refine(show AW prog Γ (lQ f60) (KQ prog Γ (fun _ _=>False) (vr prog f60 [fM] [(8,r.1.map Node.c)] (D.int .i64 r.2)) []) _ from ?_);refine gB (n:=2000) 1 [.cn [0,1,5] [0]] (.lp (lc f60 [1,0,1,0,0]) (AU f60 [1,0,1,0]) ⟨[(0,D.acc 0),(1,D.int .i64 aV),(5,D.int .i64 0)],[Ob.fF 8 (aB.map Node.c) (some fM)]⟩) hΓ CI (by kernel_rfl) Dw (xM (by rfl) (ya (HD hΓ (fun bP cL h=>?_) aB [] aV (by have:=hr _ (aC (i:=0) rfl);simpa using this) h)));have h:=aG h;subst h;exact gB (n:=2000) 1 [] (.ret (D.gN [D.int .i64 cL,D.agg [D.fr 0 8 (bP.map Node.c),D.val fM]])) hΓ CI (by kernel_rfl) Dw rfl
def kQ(aB:aF)(aV:Int):Option (aF×Int):=((tK aB.rules aV).bind fun y1=>((uW aB.ends y1.2).bind fun y3=>((rN aB.av y3.2).bind fun y5=>((tI aB.nodes y5.2).bind fun y7=>((l9 aB.facts y7.2).bind fun y9=>(some ((⟨y1.1,y3.1,y5.1,y7.1,y9.1,aB.bz⟩:aF),y9.2)))))))
theorem yL{aB:aF}{aV:Int}{r:aF×Int}(h:kQ aB aV=some r):tg prog 19 [D.agg [D.acc 0,D.acc 1,D.acc 2,D.acc 3,D.acc 4,D.int .i64 aB.bz],D.int .i64 aV] [(4,aB.rules.map aO.c),(1,aB.ends.map dL),(3,aB.av.map aP.c),(8,aB.nodes.map Node.c),(2,aB.facts.map aE.c)] [(4,r.1.rules.map aO.c),(1,r.1.ends.map dL),(3,r.1.av.map aP.c),(8,r.1.nodes.map Node.c),(2,r.1.facts.map aE.c)] (D.int .i64 r.2):=by
 refine tg.of (c:=lQ f19) func19 rfl (by decide) (by simp[f19]) rfl rfl ?_;intro hr Γ hΓ vs hvs
 match vs,hvs with
 | [fM,v1_,v2_,v3_,v4_],_=>
 have hΓ:Γ.nt=26:=hΓ;rw[kQ]at h;refine(show AW prog Γ (lQ f19) (KQ prog Γ (fun _ _=>False) (vr prog f19 [fM,v1_,v2_,v3_,v4_] [(4,r.1.rules.map aO.c),(1,r.1.ends.map dL),(3,r.1.av.map aP.c),(8,r.1.nodes.map Node.c),(2,r.1.facts.map aE.c)] (D.int .i64 r.2)) []) _ from ?_);obtain⟨y1,h2,h⟩:=aD h;obtain⟨y3,h4,h⟩:=aD h;obtain⟨y5,h6,h⟩:=aD h;obtain⟨y7,h8,h⟩:=aD h;obtain⟨y9,h10,h⟩:=aD h;have h:=aG h;subst h;exact gB (n:=2000) 5 [.gv [0] [(4,y1.1.map aO.c)] (D.int .i64 y1.2),.gv [1] [(1,y3.1.map dL)] (D.int .i64 y3.2),.gv [2] [(3,y5.1.map aP.c)] (D.int .i64 y5.2),.gv [3] [(8,y7.1.map Node.c)] (D.int .i64 y7.2),.gv [4] [(2,y9.1.map aE.c)] (D.int .i64 y9.2)] (.ret (D.gN [D.int .i64 y9.2,D.agg [D.fr 0 4 (y1.1.map aO.c),D.val fM],D.agg [D.fr 0 1 (y3.1.map dL),D.val v1_],D.agg [D.fr 0 3 (y5.1.map aP.c),D.val v2_],D.agg [D.fr 0 8 (y7.1.map Node.c),D.val v3_],D.agg [D.fr 0 2 (y9.1.map aE.c),D.val v4_]])) hΓ CI (by kernel_rfl) (ow (Fp h2) (ow (HC h4) (ow (EZ h6) (ow (Fm h8) (ow (qj h10) Dw))))) rfl
end Go.Cx
namespace Go.Cx
open Go.RowKit Go.Proofs Tryz
set_option maxRecDepth 100000
variable{Γ:vn}{N:Nat->St->Prop}
def fZ(aB:aJ)(k1:Int->Option Int):aJ->Nat->Int->Option Int
 | [],i1,b8=>(k1 b8)
 |bD::bZ,i1,b8=>((cC b8).bind fun RZ=>(bif !((bD:Bytes)==RZ)then(some (-1))else(fZ aB k1 bZ (i1+1) (IntKind.i64.wrap (b8+1)))))
def gb(aB:aJ)(aV:Int):Option Int:=(fZ aB (fun(cL:Int)=>(some cL)) aB 0 aV)
def Fi(aB:aJ)(b8:Int)(cS:Int):St:=⟨[(0,D.sl (aB.map tx)),(1,D.int .i64 b8),(5,D.int .i64 cS)],[]⟩
theorem EW(hΓ:Γ.nt=22){aB:aJ}{r:Int}{k1:Int->Option Int}(cW:∀(cL:Int),k1 cL=some r->Ax Γ N f122 (.q [[none]] (D.int .i64 r)) [1,1] ⟨[(1,D.int .i64 cL)],[]⟩)(hm1:aB.length<=maxLen):∀(rest:aJ) (i1:Nat) (b8:Int),aB.drop i1=rest->fZ aB k1 rest i1 b8=some r->Ar Γ N f122 (.q [[none]] (D.int .i64 r)) [1,0,1,0] (rest.length+1) (Fi aB b8 (i1:Int)):=by
 intro rest
 induction rest with
 |nil=>
  intro i1 b8 aj h;rw[fZ]at h;refine aN fun N1 bw bg=>?_
  exact((aU.ge tx aj).a [.hl 0 [1] []]).ex hΓ bw (cW b8 h)
 |cons bD bZ ih1=>
  intro i1 b8 aj h;rw[fZ]at h;refine aN fun N1 bw bg=>?_
  obtain⟨RZ,h22,h⟩:=aD h;have dJ:=((((aU.lt tx aj).a [.n 6]).l (ax tx 1 (dc aj) rfl)).g (bn h22))
  obtain⟨h23,h⟩|⟨h23,h⟩:=aL h
  ·cases h;exact(dJ.b h23).ret hΓ
  ·exact((dJ.b h23).a [.cn [0,1,5] []]).ct hΓ bg (iS aj hm1) (ih1 (i1+1) (IntKind.i64.wrap (b8+1)) (dn aj) h)
theorem l7{aB:aJ}{aV:Int}{r:Int}(h:gb aB aV=some r):Good prog 122 [D.sl (aB.map tx),D.int .i64 aV] (D.int .i64 r):=by
 refine gd func122 [[none]] 22 fun hr Γ hΓ=>?_
 rw[gb]at h;refine(aU.a [.cn [0,1,5] []]).lp hΓ (EW hΓ (fun cL h=>?_) (by have:=(dW.sl (hr _ (aC (i:=0) rfl))).1;simpa using this) aB 0 aV rfl h);have h:=aG h;subst h;exact aU.ret hΓ
def hY(aB:aq)(k1:Int->Option Int):aq->Nat->Int->Option Int
 | [],i1,b8=>(k1 b8)
 |bD::bZ,i1,b8=>(bif (bD.kind:Int) != b8 then(some (-1))else((cC (IntKind.i64.wrap (b8+1))).bind fun y62=>(bif !((bD.pat.rel:Bytes)==y62)then(some (-1))else((gb bD.pat.args (IntKind.i64.wrap ((IntKind.i64.wrap (b8+1))+1))).bind fun y65=>(bif decide ((y65:Int)<0)then(some (-1))else((cC y65).bind fun y68=>(bif !((bD.left:Bytes)==y68)then(some (-1))else((cC (IntKind.i64.wrap (y65+1))).bind fun y71=>(bif !((bD.right:Bytes)==y71)then(some (-1))else(hY aB k1 bZ (i1+1) (IntKind.i64.wrap ((IntKind.i64.wrap (y65+1))+1))))))))))))
def tD(aB:aq)(aV:Int):Option Int:=(hY aB (fun(cL:Int)=>(some cL)) aB 0 aV)
def JF(aB:aq)(b8:Int)(cS:Int):St:=⟨[(0,D.sl (aB.map aQ.c)),(1,D.int .i64 b8),(5,D.int .i64 cS)],[]⟩
theorem Gx(hΓ:Γ.nt=63){aB:aq}{r:Int}{k1:Int->Option Int}(cW:∀(cL:Int),k1 cL=some r->Ax Γ N f120 (.q [[none]] (D.int .i64 r)) [1,1] ⟨[(1,D.int .i64 cL)],[]⟩)(hm1:aB.length<=maxLen):∀(rest:aq) (i1:Nat) (b8:Int),aB.drop i1=rest->hY aB k1 rest i1 b8=some r->Ar Γ N f120 (.q [[none]] (D.int .i64 r)) [1,0,1,0] (rest.length+1) (JF aB b8 (i1:Int)):=by
 intro rest
 induction rest with
 |nil=>
  intro i1 b8 aj h;rw[hY]at h;refine aN fun N1 bw bg=>?_
  exact((aU.ge aQ.c aj).a [.hl 0 [1] []]).ex hΓ bw (cW b8 h)
 |cons bD bZ ih1=>
  intro i1 b8 aj h;rw[hY]at h;refine aN fun N1 bw bg=>?_
  have wX:=((aU.lt aQ.c aj).l (ax aQ.c 5 (dc aj) rfl))
  obtain⟨h61,h⟩|⟨h61,h⟩:=aL h
  ·cases h;exact(wX.b h61).ret hΓ
  ·obtain⟨y62,h63,h⟩:=aD h;have AV:=((((wX.b h61).a [.n 8]).l (ax aQ.c 5 (dc aj) rfl)).g (bn h63))
   obtain⟨h64,h⟩|⟨h64,h⟩:=aL h
   ·cases h;exact(AV.b h64).ret hΓ
   ·obtain⟨y65,h66,h⟩:=aD h;have DC:=(((AV.b h64).l (ax aQ.c 5 (dc aj) rfl)).g (l7 h66))
    obtain⟨h67,h⟩|⟨h67,h⟩:=aL h
    ·cases h;exact(DC.b h67).ret hΓ
    ·obtain⟨y68,h69,h⟩:=aD h;have IA:=((((DC.b h67).a [.n 7]).l (ax aQ.c 5 (dc aj) rfl)).g (bn h69))
     obtain⟨h70,h⟩|⟨h70,h⟩:=aL h
     ·cases h;exact(IA.b h70).ret hΓ
     ·obtain⟨y71,h72,h⟩:=aD h;have yu:=((((IA.b h70).a [.n 7]).l (ax aQ.c 5 (dc aj) rfl)).g (bn h72))
      obtain⟨h73,h⟩|⟨h73,h⟩:=aL h
      ·cases h;exact(yu.b h73).ret hΓ
      ·exact((yu.b h73).a [.cn [0,1,5] []]).ct hΓ bg (iS aj hm1) (ih1 (i1+1) (IntKind.i64.wrap ((IntKind.i64.wrap (y65+1))+1)) (dn aj) h)
theorem Ff{aB:aq}{aV:Int}{r:Int}(h:tD aB aV=some r):Good prog 120 [D.sl (aB.map aQ.c),D.int .i64 aV] (D.int .i64 r):=by
 refine gd func120 [[none]] 63 fun hr Γ hΓ=>?_
 rw[tD]at h;refine(aU.a [.cn [0,1,5] []]).lp hΓ (Gx hΓ (fun cL h=>?_) (by have:=(dW.sl (hr _ (aC (i:=0) rfl))).1;simpa using this) aB 0 aV rfl h);have h:=aG h;subst h;exact aU.ret hΓ
def fY(aB:c8)(k1:Int->Option Int):c8->Nat->Int->Option Int
 | [],i1,b8=>(k1 b8)
 |bD::bZ,i1,b8=>(bif (bD.kind:Int) != b8 then(some (-1))else((cC (IntKind.i64.wrap (b8+1))).bind fun OA=>(bif !((bD.pat.rel:Bytes)==OA)then(some (-1))else((gb bD.pat.args (IntKind.i64.wrap ((IntKind.i64.wrap (b8+1))+1))).bind fun oF=>(bif decide ((oF:Int)<0)then(some (-1))else(fY aB k1 bZ (i1+1) oF))))))
def qQ(aB:c8)(aV:Int):Option Int:=(fY aB (fun(cL:Int)=>(some cL)) aB 0 aV)
def Fc(aB:c8)(b8:Int)(cS:Int):St:=⟨[(0,D.sl (aB.map Action.c)),(1,D.int .i64 b8),(5,D.int .i64 cS)],[]⟩
theorem EU(hΓ:Γ.nt=43){aB:c8}{r:Int}{k1:Int->Option Int}(cW:∀(cL:Int),k1 cL=some r->Ax Γ N f121 (.q [[none]] (D.int .i64 r)) [1,1] ⟨[(1,D.int .i64 cL)],[]⟩)(hm1:aB.length<=maxLen):∀(rest:c8) (i1:Nat) (b8:Int),aB.drop i1=rest->fY aB k1 rest i1 b8=some r->Ar Γ N f121 (.q [[none]] (D.int .i64 r)) [1,0,1,0] (rest.length+1) (Fc aB b8 (i1:Int)):=by
 intro rest
 induction rest with
 |nil=>
  intro i1 b8 aj h;rw[fY]at h;refine aN fun N1 bw bg=>?_
  exact((aU.ge Action.c aj).a [.hl 0 [1] []]).ex hΓ bw (cW b8 h)
 |cons bD bZ ih1=>
  intro i1 b8 aj h;rw[fY]at h;refine aN fun N1 bw bg=>?_
  have iY:=((aU.lt Action.c aj).l (ax Action.c 3 (dc aj) rfl))
  obtain⟨h37,h⟩|⟨h37,h⟩:=aL h
  ·cases h;exact(iY.b h37).ret hΓ
  ·obtain⟨OA,h39,h⟩:=aD h;have tr:=((((iY.b h37).a [.n 8]).l (ax Action.c 3 (dc aj) rfl)).g (bn h39))
   obtain⟨h40,h⟩|⟨h40,h⟩:=aL h
   ·cases h;exact(tr.b h40).ret hΓ
   ·obtain⟨oF,h42,h⟩:=aD h;have wX:=(((tr.b h40).l (ax Action.c 3 (dc aj) rfl)).g (l7 h42))
    obtain⟨h43,h⟩|⟨h43,h⟩:=aL h
    ·cases h;exact(wX.b h43).ret hΓ
    ·exact((wX.b h43).a [.cn [0,1,5] []]).ct hΓ bg (iS aj hm1) (ih1 (i1+1) oF (dn aj) h)
theorem DV{aB:c8}{aV:Int}{r:Int}(h:qQ aB aV=some r):Good prog 121 [D.sl (aB.map Action.c),D.int .i64 aV] (D.int .i64 r):=by
 refine gd func121 [[none]] 43 fun hr Γ hΓ=>?_
 rw[qQ]at h;refine(aU.a [.cn [0,1,5] []]).lp hΓ (EU hΓ (fun cL h=>?_) (by have:=(dW.sl (hr _ (aC (i:=0) rfl))).1;simpa using this) aB 0 aV rfl h);have h:=aG h;subst h;exact aU.ret hΓ
def iD(aB:ar)(k1:Int->Option Int):ar->Nat->Int->Option Int
 | [],i1,b8=>(k1 b8)
 |bD::bZ,i1,b8=>((cC b8).bind fun Ia=>(bif !((bD.name:Bytes)==Ia)then(some (-1))else(bif (bD.prio:Int) != (IntKind.i64.wrap (b8+1))then(some (-1))else((tD bD.conds (IntKind.i64.wrap ((IntKind.i64.wrap (b8+1))+1))).bind fun y53=>(bif decide ((y53:Int)<0)then(some (-1))else((qQ bD.cu y53).bind fun y56=>(bif decide ((y56:Int)<0)then(some (-1))else(iD aB k1 bZ (i1+1) y56))))))))
def tG(aB:ar)(aV:Int):Option Int:=(iD aB (fun(cL:Int)=>(some cL)) aB 0 aV)
def JK(aB:ar)(b8:Int)(cS:Int):St:=⟨[(0,D.sl (aB.map aO.c)),(1,D.int .i64 b8),(5,D.int .i64 cS)],[]⟩
theorem H8(hΓ:Γ.nt=50){aB:ar}{r:Int}{k1:Int->Option Int}(cW:∀(cL:Int),k1 cL=some r->Ax Γ N f63 (.q [[none]] (D.int .i64 r)) [1,1] ⟨[(1,D.int .i64 cL)],[]⟩)(hm1:aB.length<=maxLen):∀(rest:ar) (i1:Nat) (b8:Int),aB.drop i1=rest->iD aB k1 rest i1 b8=some r->Ar Γ N f63 (.q [[none]] (D.int .i64 r)) [1,0,1,0] (rest.length+1) (JK aB b8 (i1:Int)):=by
 intro rest
 induction rest with
 |nil=>
  intro i1 b8 aj h;rw[iD]at h;refine aN fun N1 bw bg=>?_
  exact((aU.ge aO.c aj).a [.hl 0 [1] []]).ex hΓ bw (cW b8 h)
 |cons bD bZ ih1=>
  intro i1 b8 aj h;rw[iD]at h;refine aN fun N1 bw bg=>?_
  obtain⟨Ia,h50,h⟩:=aD h;have tr:=((((aU.lt aO.c aj).a [.n 7]).l (ax aO.c 4 (dc aj) rfl)).g (bn h50))
  obtain⟨h51,h⟩|⟨h51,h⟩:=aL h
  ·cases h;exact(tr.b h51).ret hΓ
  ·have wX:=((tr.b h51).l (ax aO.c 4 (dc aj) rfl))
   obtain⟨h52,h⟩|⟨h52,h⟩:=aL h
   ·cases h;exact(wX.b h52).ret hΓ
   ·obtain⟨y53,h54,h⟩:=aD h;have AV:=(((wX.b h52).l (ax aO.c 4 (dc aj) rfl)).g (Ff h54))
    obtain⟨h55,h⟩|⟨h55,h⟩:=aL h
    ·cases h;exact(AV.b h55).ret hΓ
    ·obtain⟨y56,h57,h⟩:=aD h;have DC:=(((AV.b h55).l (ax aO.c 4 (dc aj) rfl)).g (DV h57))
     obtain⟨h58,h⟩|⟨h58,h⟩:=aL h
     ·cases h;exact(DC.b h58).ret hΓ
     ·exact((DC.b h58).a [.cn [0,1,5] []]).ct hΓ bg (iS aj hm1) (ih1 (i1+1) y56 (dn aj) h)
theorem zJ{aB:ar}{aV:Int}{r:Int}(h:tG aB aV=some r):Good prog 63 [D.sl (aB.map aO.c),D.int .i64 aV] (D.int .i64 r):=by
 refine gd func63 [[none]] 50 fun hr Γ hΓ=>?_
 rw[tG]at h;refine(aU.a [.cn [0,1,5] []]).lp hΓ (H8 hΓ (fun cL h=>?_) (by have:=(dW.sl (hr _ (aC (i:=0) rfl))).1;simpa using this) aB 0 aV rfl h);have h:=aG h;subst h;exact aU.ret hΓ
def iz(aB:bI)(k1:Int->Option Int):bI->Nat->Int->Option Int
 | [],i1,b8=>(k1 b8)
 |bD::bZ,i1,b8=>(bif (bD:Int) != b8 then(some (-1))else(iz aB k1 bZ (i1+1) (IntKind.i64.wrap (b8+1))))
def uV(aB:bI)(aV:Int):Option Int:=(iz aB (fun(cL:Int)=>(some cL)) aB 0 aV)
def LG(aB:bI)(b8:Int)(cS:Int):St:=⟨[(0,D.sl (aB.map dL)),(1,D.int .i64 b8),(5,D.int .i64 cS)],[]⟩
theorem JH(hΓ:Γ.nt=21){aB:bI}{r:Int}{k1:Int->Option Int}(cW:∀(cL:Int),k1 cL=some r->Ax Γ N f64 (.q [[none]] (D.int .i64 r)) [1,1] ⟨[(1,D.int .i64 cL)],[]⟩)(hm1:aB.length<=maxLen):∀(rest:bI) (i1:Nat) (b8:Int),aB.drop i1=rest->iz aB k1 rest i1 b8=some r->Ar Γ N f64 (.q [[none]] (D.int .i64 r)) [1,0,1,0] (rest.length+1) (LG aB b8 (i1:Int)):=by
 intro rest
 induction rest with
 |nil=>
  intro i1 b8 aj h;rw[iz]at h;refine aN fun N1 bw bg=>?_
  exact((aU.ge dL aj).a [.hl 0 [1] []]).ex hΓ bw (cW b8 h)
 |cons bD bZ ih1=>
  intro i1 b8 aj h;rw[iz]at h;refine aN fun N1 bw bg=>?_
  have dJ:=((aU.lt dL aj).l (ax dL 1 (dc aj) rfl))
  obtain⟨h13,h⟩|⟨h13,h⟩:=aL h
  ·cases h;exact(dJ.b h13).ret hΓ
  ·exact((dJ.b h13).a [.cn [0,1,5] []]).ct hΓ bg (iS aj hm1) (ih1 (i1+1) (IntKind.i64.wrap (b8+1)) (dn aj) h)
theorem Gz{aB:bI}{aV:Int}{r:Int}(h:uV aB aV=some r):Good prog 64 [D.sl (aB.map dL),D.int .i64 aV] (D.int .i64 r):=by
 refine gd func64 [[none]] 21 fun hr Γ hΓ=>?_
 rw[uV]at h;refine(aU.a [.cn [0,1,5] []]).lp hΓ (JH hΓ (fun cL h=>?_) (by have:=(dW.sl (hr _ (aC (i:=0) rfl))).1;simpa using this) aB 0 aV rfl h);have h:=aG h;subst h;exact aU.ret hΓ
def iA(aB:aK)(k1:Int->Option Int):aK->Nat->Int->Option Int
 | [],i1,b8=>(k1 b8)
 |bD::bZ,i1,b8=>((cC b8).bind fun BZ=>(bif !((bD.rel:Bytes)==BZ)then(some (-1))else((gb bD.args (IntKind.i64.wrap (b8+1))).bind fun IK=>(bif decide ((IK:Int)<0)then(some (-1))else(iA aB k1 bZ (i1+1) IK)))))
def nK(aB:aK)(aV:Int):Option Int:=(iA aB (fun(cL:Int)=>(some cL)) aB 0 aV)
def JG(aB:aK)(b8:Int)(cS:Int):St:=⟨[(0,D.sl (aB.map aE.c)),(1,D.int .i64 b8),(5,D.int .i64 cS)],[]⟩
theorem Gy(hΓ:Γ.nt=32){aB:aK}{r:Int}{k1:Int->Option Int}(cW:∀(cL:Int),k1 cL=some r->Ax Γ N f67 (.q [[none]] (D.int .i64 r)) [1,1] ⟨[(1,D.int .i64 cL)],[]⟩)(hm1:aB.length<=maxLen):∀(rest:aK) (i1:Nat) (b8:Int),aB.drop i1=rest->iA aB k1 rest i1 b8=some r->Ar Γ N f67 (.q [[none]] (D.int .i64 r)) [1,0,1,0] (rest.length+1) (JG aB b8 (i1:Int)):=by
 intro rest
 induction rest with
 |nil=>
  intro i1 b8 aj h;rw[iA]at h;refine aN fun N1 bw bg=>?_
  exact((aU.ge aE.c aj).a [.hl 0 [1] []]).ex hΓ bw (cW b8 h)
 |cons bD bZ ih1=>
  intro i1 b8 aj h;rw[iA]at h;refine aN fun N1 bw bg=>?_
  obtain⟨BZ,h34,h⟩:=aD h;have ja:=((((aU.lt aE.c aj).a [.n 7]).l (ax aE.c 2 (dc aj) rfl)).g (bn h34))
  obtain⟨h35,h⟩|⟨h35,h⟩:=aL h
  ·cases h;exact(ja.b h35).ret hΓ
  ·obtain⟨IK,h37,h⟩:=aD h;have iY:=(((ja.b h35).l (ax aE.c 2 (dc aj) rfl)).g (l7 h37))
   obtain⟨h38,h⟩|⟨h38,h⟩:=aL h
   ·cases h;exact(iY.b h38).ret hΓ
   ·exact((iY.b h38).a [.cn [0,1,5] []]).ct hΓ bg (iS aj hm1) (ih1 (i1+1) IK (dn aj) h)
theorem vb{aB:aK}{aV:Int}{r:Int}(h:nK aB aV=some r):Good prog 67 [D.sl (aB.map aE.c),D.int .i64 aV] (D.int .i64 r):=by
 refine gd func67 [[none]] 32 fun hr Γ hΓ=>?_
 rw[nK]at h;refine(aU.a [.cn [0,1,5] []]).lp hΓ (Gy hΓ (fun cL h=>?_) (by have:=(dW.sl (hr _ (aC (i:=0) rfl))).1;simpa using this) aB 0 aV rfl h);have h:=aG h;subst h;exact aU.ret hΓ
def gS(aB:b7)(k1:Int->Option Int):b7->Nat->Int->Option Int
 | [],i1,b8=>(k1 b8)
 |bD::bZ,i1,b8=>((cC b8).bind fun IL=>(bif !((bD.shape.rel:Bytes)==IL)then(some (-1))else((gb bD.shape.args (IntKind.i64.wrap (b8+1))).bind fun y48=>(bif decide ((y48:Int)<0)then(some (-1))else((nK bD.facts y48).bind fun UO=>(bif decide ((UO:Int)<0)then(some (-1))else(gS aB k1 bZ (i1+1) UO)))))))
def rL(aB:b7)(aV:Int):Option Int:=(gS aB (fun(cL:Int)=>(some cL)) aB 0 aV)
def Gw(aB:b7)(b8:Int)(cS:Int):St:=⟨[(0,D.sl (aB.map aP.c)),(1,D.int .i64 b8),(5,D.int .i64 cS)],[]⟩
theorem Fe(hΓ:Γ.nt=43){aB:b7}{r:Int}{k1:Int->Option Int}(cW:∀(cL:Int),k1 cL=some r->Ax Γ N f65 (.q [[none]] (D.int .i64 r)) [1,1] ⟨[(1,D.int .i64 cL)],[]⟩)(hm1:aB.length<=maxLen):∀(rest:b7) (i1:Nat) (b8:Int),aB.drop i1=rest->gS aB k1 rest i1 b8=some r->Ar Γ N f65 (.q [[none]] (D.int .i64 r)) [1,0,1,0] (rest.length+1) (Gw aB b8 (i1:Int)):=by
 intro rest
 induction rest with
 |nil=>
  intro i1 b8 aj h;rw[gS]at h;refine aN fun N1 bw bg=>?_
  exact((aU.ge aP.c aj).a [.hl 0 [1] []]).ex hΓ bw (cW b8 h)
 |cons bD bZ ih1=>
  intro i1 b8 aj h;rw[gS]at h;refine aN fun N1 bw bg=>?_
  obtain⟨IL,h46,h⟩:=aD h;have iY:=((((aU.lt aP.c aj).a [.n 8]).l (ax aP.c 3 (dc aj) rfl)).g (bn h46))
  obtain⟨h47,h⟩|⟨h47,h⟩:=aL h
  ·cases h;exact(iY.b h47).ret hΓ
  ·obtain⟨y48,h49,h⟩:=aD h;have tr:=(((iY.b h47).l (ax aP.c 3 (dc aj) rfl)).g (l7 h49))
   obtain⟨h50,h⟩|⟨h50,h⟩:=aL h
   ·cases h;exact(tr.b h50).ret hΓ
   ·obtain⟨UO,h52,h⟩:=aD h;have wX:=(((tr.b h50).l (ax aP.c 3 (dc aj) rfl)).g (vb h52))
    obtain⟨h53,h⟩|⟨h53,h⟩:=aL h
    ·cases h;exact(wX.b h53).ret hΓ
    ·exact((wX.b h53).a [.cn [0,1,5] []]).ct hΓ bg (iS aj hm1) (ih1 (i1+1) UO (dn aj) h)
theorem EV{aB:b7}{aV:Int}{r:Int}(h:rL aB aV=some r):Good prog 65 [D.sl (aB.map aP.c),D.int .i64 aV] (D.int .i64 r):=by
 refine gd func65 [[none]] 43 fun hr Γ hΓ=>?_
 rw[rL]at h;refine(aU.a [.cn [0,1,5] []]).lp hΓ (Fe hΓ (fun cL h=>?_) (by have:=(dW.sl (hr _ (aC (i:=0) rfl))).1;simpa using this) aB 0 aV rfl h);have h:=aG h;subst h;exact aU.ret hΓ
def iC(aB:aT)(k1:Int->Option Int):aT->Nat->Int->Option Int
 | [],i1,b8=>(k1 b8)
 |bD::bZ,i1,b8=>((cC b8).bind fun BZ=>(bif !((bD.var:Bytes)==BZ)then(some (-1))else((cC (IntKind.i64.wrap (b8+1))).bind fun IK=>(bif !((bD.value:Bytes)==IK)then(some (-1))else(iC aB k1 bZ (i1+1) (IntKind.i64.wrap ((IntKind.i64.wrap (b8+1))+1)))))))
def tF(aB:aT)(aV:Int):Option Int:=(iC aB (fun(cL:Int)=>(some cL)) aB 0 aV)
def JJ(aB:aT)(b8:Int)(cS:Int):St:=⟨[(0,D.sl (aB.map aS.c)),(1,D.int .i64 b8),(5,D.int .i64 cS)],[]⟩
theorem H7(hΓ:Γ.nt=33){aB:aT}{r:Int}{k1:Int->Option Int}(cW:∀(cL:Int),k1 cL=some r->Ax Γ N f76 (.q [[none]] (D.int .i64 r)) [1,1] ⟨[(1,D.int .i64 cL)],[]⟩)(hm1:aB.length<=maxLen):∀(rest:aT) (i1:Nat) (b8:Int),aB.drop i1=rest->iC aB k1 rest i1 b8=some r->Ar Γ N f76 (.q [[none]] (D.int .i64 r)) [1,0,1,0] (rest.length+1) (JJ aB b8 (i1:Int)):=by
 intro rest
 induction rest with
 |nil=>
  intro i1 b8 aj h;rw[iC]at h;refine aN fun N1 bw bg=>?_
  exact((aU.ge aS.c aj).a [.hl 0 [1] []]).ex hΓ bw (cW b8 h)
 |cons bD bZ ih1=>
  intro i1 b8 aj h;rw[iC]at h;refine aN fun N1 bw bg=>?_
  obtain⟨BZ,h34,h⟩:=aD h;have ja:=((((aU.lt aS.c aj).a [.n 7]).l (ax aS.c 2 (dc aj) rfl)).g (bn h34))
  obtain⟨h35,h⟩|⟨h35,h⟩:=aL h
  ·cases h;exact(ja.b h35).ret hΓ
  ·obtain⟨IK,h37,h⟩:=aD h;have iY:=((((ja.b h35).a [.n 7]).l (ax aS.c 2 (dc aj) rfl)).g (bn h37))
   obtain⟨h38,h⟩|⟨h38,h⟩:=aL h
   ·cases h;exact(iY.b h38).ret hΓ
   ·exact((iY.b h38).a [.cn [0,1,5] []]).ct hΓ bg (iS aj hm1) (ih1 (i1+1) (IntKind.i64.wrap ((IntKind.i64.wrap (b8+1))+1)) (dn aj) h)
theorem Fh{aB:aT}{aV:Int}{r:Int}(h:tF aB aV=some r):Good prog 76 [D.sl (aB.map aS.c),D.int .i64 aV] (D.int .i64 r):=by
 refine gd func76 [[none]] 33 fun hr Γ hΓ=>?_
 rw[tF]at h;refine(aU.a [.cn [0,1,5] []]).lp hΓ (H7 hΓ (fun cL h=>?_) (by have:=(dW.sl (hr _ (aC (i:=0) rfl))).1;simpa using this) aB 0 aV rfl h);have h:=aG h;subst h;exact aU.ret hΓ
def gT(aB:ah)(k1:Int->Option Int):ah->Nat->Int->Option Int
 | [],i1,b8=>(k1 b8)
 |bD::bZ,i1,b8=>((nK bD.facts b8).bind fun BZ=>(bif decide ((BZ:Int)<0)then(some (-1))else((tF bD.bind BZ).bind fun IK=>(bif decide ((IK:Int)<0)then(some (-1))else(gT aB k1 bZ (i1+1) IK)))))
def rM(aB:ah)(aV:Int):Option Int:=(gT aB (fun(cL:Int)=>(some cL)) aB 0 aV)
def H9(aB:ah)(b8:Int)(cS:Int):St:=⟨[(0,D.sl (aB.map aI.c)),(1,D.int .i64 b8),(5,D.int .i64 cS)],[]⟩
theorem Fj(hΓ:Γ.nt=31){aB:ah}{r:Int}{k1:Int->Option Int}(cW:∀(cL:Int),k1 cL=some r->Ax Γ N f123 (.q [[none]] (D.int .i64 r)) [1,1] ⟨[(1,D.int .i64 cL)],[]⟩)(hm1:aB.length<=maxLen):∀(rest:ah) (i1:Nat) (b8:Int),aB.drop i1=rest->gT aB k1 rest i1 b8=some r->Ar Γ N f123 (.q [[none]] (D.int .i64 r)) [1,0,1,0] (rest.length+1) (H9 aB b8 (i1:Int)):=by
 intro rest
 induction rest with
 |nil=>
  intro i1 b8 aj h;rw[gT]at h;refine aN fun N1 bw bg=>?_
  exact((aU.ge aI.c aj).a [.hl 0 [1] []]).ex hΓ bw (cW b8 h)
 |cons bD bZ ih1=>
  intro i1 b8 aj h;rw[gT]at h;refine aN fun N1 bw bg=>?_
  obtain⟨BZ,h34,h⟩:=aD h;have ja:=(((aU.lt aI.c aj).l (ax aI.c 2 (dc aj) rfl)).g (vb h34))
  obtain⟨h35,h⟩|⟨h35,h⟩:=aL h
  ·cases h;exact(ja.b h35).ret hΓ
  ·obtain⟨IK,h37,h⟩:=aD h;have iY:=(((ja.b h35).l (ax aI.c 2 (dc aj) rfl)).g (Fh h37))
   obtain⟨h38,h⟩|⟨h38,h⟩:=aL h
   ·cases h;exact(iY.b h38).ret hΓ
   ·exact((iY.b h38).a [.cn [0,1,5] []]).ct hΓ bg (iS aj hm1) (ih1 (i1+1) IK (dn aj) h)
theorem EX{aB:ah}{aV:Int}{r:Int}(h:rM aB aV=some r):Good prog 123 [D.sl (aB.map aI.c),D.int .i64 aV] (D.int .i64 r):=by
 refine gd func123 [[none]] 31 fun hr Γ hΓ=>?_
 rw[rM]at h;refine(aU.a [.cn [0,1,5] []]).lp hΓ (Fj hΓ (fun cL h=>?_) (by have:=(dW.sl (hr _ (aC (i:=0) rfl))).1;simpa using this) aB 0 aV rfl h);have h:=aG h;subst h;exact aU.ret hΓ
def iB(aB:ay)(k1:Int->Option Int):ay->Nat->Int->Option Int
 | [],i1,b8=>(k1 b8)
 |bD::bZ,i1,b8=>(bif (bD.parent:Int) != b8 then(some (-1))else(bif (bD.cond.kind:Int) != (IntKind.i64.wrap (b8+1))then(some (-1))else((cC (IntKind.i64.wrap ((IntKind.i64.wrap (b8+1))+1))).bind fun y83=>(bif !((bD.cond.pat.rel:Bytes)==y83)then(some (-1))else((gb bD.cond.pat.args (IntKind.i64.wrap ((IntKind.i64.wrap ((IntKind.i64.wrap (b8+1))+1))+1))).bind fun y86=>(bif decide ((y86:Int)<0)then(some (-1))else((cC y86).bind fun y89=>(bif !((bD.cond.left:Bytes)==y89)then(some (-1))else((cC (IntKind.i64.wrap (y86+1))).bind fun y92=>(bif !((bD.cond.right:Bytes)==y92)then(some (-1))else(bif (bD.cP:Int) != (IntKind.i64.wrap ((IntKind.i64.wrap (y86+1))+1))then(some (-1))else((rM bD.tokens (IntKind.i64.wrap ((IntKind.i64.wrap ((IntKind.i64.wrap (y86+1))+1))+1))).bind fun Z6=>(bif decide ((Z6:Int)<0)then(some (-1))else(iB aB k1 bZ (i1+1) Z6))))))))))))))
def tE(aB:ay)(aV:Int):Option Int:=(iB aB (fun(cL:Int)=>(some cL)) aB 0 aV)
def JI(aB:ay)(b8:Int)(cS:Int):St:=⟨[(0,D.sl (aB.map Node.c)),(1,D.int .i64 b8),(5,D.int .i64 cS)],[]⟩
theorem H6(hΓ:Γ.nt=95){aB:ay}{r:Int}{k1:Int->Option Int}(cW:∀(cL:Int),k1 cL=some r->Ax Γ N f66 (.q [[none]] (D.int .i64 r)) [1,1] ⟨[(1,D.int .i64 cL)],[]⟩)(hm1:aB.length<=maxLen):∀(rest:ay) (i1:Nat) (b8:Int),aB.drop i1=rest->iB aB k1 rest i1 b8=some r->Ar Γ N f66 (.q [[none]] (D.int .i64 r)) [1,0,1,0] (rest.length+1) (JI aB b8 (i1:Int)):=by
 intro rest
 induction rest with
 |nil=>
  intro i1 b8 aj h;rw[iB]at h;refine aN fun N1 bw bg=>?_
  exact((aU.ge Node.c aj).a [.hl 0 [1] []]).ex hΓ bw (cW b8 h)
 |cons bD bZ ih1=>
  intro i1 b8 aj h;rw[iB]at h;refine aN fun N1 bw bg=>?_
  have IA:=((aU.lt Node.c aj).l (ax Node.c 8 (dc aj) rfl))
  obtain⟨h81,h⟩|⟨h81,h⟩:=aL h
  ·cases h;exact(IA.b h81).ret hΓ
  ·have yu:=((IA.b h81).l (ax Node.c 8 (dc aj) rfl))
   obtain⟨h82,h⟩|⟨h82,h⟩:=aL h
   ·cases h;exact(yu.b h82).ret hΓ
   ·obtain⟨y83,h84,h⟩:=aD h;have D7:=((((yu.b h82).a [.n 9]).l (ax Node.c 8 (dc aj) rfl)).g (bn h84))
    obtain⟨h85,h⟩|⟨h85,h⟩:=aL h
    ·cases h;exact(D7.b h85).ret hΓ
    ·obtain⟨y86,h87,h⟩:=aD h;have BN:=(((D7.b h85).l (ax Node.c 8 (dc aj) rfl)).g (l7 h87))
     obtain⟨h88,h⟩|⟨h88,h⟩:=aL h
     ·cases h;exact(BN.b h88).ret hΓ
     ·obtain⟨y89,h90,h⟩:=aD h;have I8:=((((BN.b h88).a [.n 8]).l (ax Node.c 8 (dc aj) rfl)).g (bn h90))
      obtain⟨h91,h⟩|⟨h91,h⟩:=aL h
      ·cases h;exact(I8.b h91).ret hΓ
      ·obtain⟨y92,h93,h⟩:=aD h;have I9:=((((I8.b h91).a [.n 8]).l (ax Node.c 8 (dc aj) rfl)).g (bn h93))
       obtain⟨h94,h⟩|⟨h94,h⟩:=aL h
       ·cases h;exact(I9.b h94).ret hΓ
       ·have RA:=((I9.b h94).l (ax Node.c 8 (dc aj) rfl))
        obtain⟨h95,h⟩|⟨h95,h⟩:=aL h
        ·cases h;exact(RA.b h95).ret hΓ
        ·obtain⟨Z6,h97,h⟩:=aD h;have RC:=(((RA.b h95).l (ax Node.c 8 (dc aj) rfl)).g (EX h97))
         obtain⟨h98,h⟩|⟨h98,h⟩:=aL h
         ·cases h;exact(RC.b h98).ret hΓ
         ·exact((RC.b h98).a [.cn [0,1,5] []]).ct hΓ bg (iS aj hm1) (ih1 (i1+1) Z6 (dn aj) h)
theorem Fg{aB:ay}{aV:Int}{r:Int}(h:tE aB aV=some r):Good prog 66 [D.sl (aB.map Node.c),D.int .i64 aV] (D.int .i64 r):=by
 refine gd func66 [[none]] 95 fun hr Γ hΓ=>?_
 rw[tE]at h;refine(aU.a [.cn [0,1,5] []]).lp hΓ (H6 hΓ (fun cL h=>?_) (by have:=(dW.sl (hr _ (aC (i:=0) rfl))).1;simpa using this) aB 0 aV rfl h);have h:=aG h;subst h;exact aU.ret hΓ
def kP(aB:aF)(aV:Int):Option Int:=((tG aB.rules aV).bind fun y1=>(bif decide ((y1:Int)<0)then(some (-1))else((uV aB.ends y1).bind fun y4=>(bif decide ((y4:Int)<0)then(some (-1))else((rL aB.av y4).bind fun y7=>(bif decide ((y7:Int)<0)then(some (-1))else((tE aB.nodes y7).bind fun Oz=>(bif decide ((Oz:Int)<0)then(some (-1))else((nK aB.facts Oz).bind fun sJ=>(bif decide ((sJ:Int)<0)then(some (-1))else(some sJ)))))))))))
theorem iW{aB:aF}{aV:Int}{r:Int}(h:kP aB aV=some r):Good prog 21 [D.agg (aF.c aB),D.int .i64 aV] (D.int .i64 r):=by
 refine gd func21 [[none]] 36 fun hr Γ hΓ=>?_
 rw[kP]at h;obtain⟨y1,h2,h⟩:=aD h;obtain⟨h3,h⟩|⟨h3,h⟩:=aL h
 ·cases h;exact((aU.g (zJ h2)).b h3).ret hΓ
 ·obtain⟨y4,h5,h⟩:=aD h;have kC:=(((aU.g (zJ h2)).b h3).g (Gz h5))
  obtain⟨h6,h⟩|⟨h6,h⟩:=aL h
  ·cases h;exact(kC.b h6).ret hΓ
  ·obtain⟨y7,h8,h⟩:=aD h;have dJ:=((kC.b h6).g (EV h8))
   obtain⟨h9,h⟩|⟨h9,h⟩:=aL h
   ·cases h;exact(dJ.b h9).ret hΓ
   ·obtain⟨Oz,h11,h⟩:=aD h;have ja:=((dJ.b h9).g (Fg h11))
    obtain⟨h12,h⟩|⟨h12,h⟩:=aL h
    ·cases h;exact(ja.b h12).ret hΓ
    ·obtain⟨sJ,h14,h⟩:=aD h;have iY:=((ja.b h12).g (vb h14))
     obtain⟨h15,h⟩|⟨h15,h⟩:=aL h
     ·cases h;exact(iY.b h15).ret hΓ
     ·have h:=aG h;subst h;exact(iY.b h15).ret hΓ
end Go.Cx
namespace Go.Cx
open Go.RowKit Go.Proofs Tryz
theorem xq.sub{a b:aR}(h:xq a)(hs:∀d∈b,d∈a):xq b:=fun d hd=>h d (hs d hd)
def iK{α:Type}(w:α->Nat)(l:List α):Nat:=(l.map w).sum
theorem uz{α:Type}(w:α->Nat)(x:α)(l:List α):iK w (x::l)=w x+iK w l:=by simp[iK]
theorem pU{α:Type}(m w:α->Nat)(l:List α)(h:∀x,m x<=6+6*w x):iK m l<=6*k8 w l:=by
 induction l with
 |nil=>simp[iK]
 |cons x l ih=>rw[uz,qe];have:=h x;omega
def zw(_:Int):Nat:=0
theorem a8p(l:bI):(l.map zw).sum=0:=by
 induction l with
 |nil=>rfl
 |cons x l ih=>simp only[bH,List.sum_cons,ih];rfl
def QC{α:Type}(n:Nat)(mark:Int->Option (α×Int))(held:α->Int->Option Int):Prop:=∀k:Int,1<=k->k+(n:Int)<=4611686018427387904->∃x,mark k=some (x,k+(n:Int))/\held x k=some (k+(n:Int))
theorem Zo(K:Bytes->Option Bytes):∀(n f:Nat) (k:Int) (v:Bytes),0<=k->k<10^n->n<f->∃s,fS K f k v=(if v.length+n<=1000 then K s else fS K f k v)/\s.length<=v.length+n:=by
 intro n
 induction n with
 |zero=>
  intro f k v h0 h1 hf;obtain⟨m,rfl⟩:∃m,f=m+1:=⟨f-1,by omega⟩
  have hk:k=0:=by simp at h1;omega
  subst hk;exact⟨v,by split<;>simp[fS],by omega⟩
 |succ n ih=>
  intro f k v h0 h1 hf;obtain⟨m,rfl⟩:∃m,f=m+1:=⟨f-1,by omega⟩
  by_cases hk:k>0
  ·have hd:k/10<10^n:=by
    have:(10:Int)^(n+1)=10^n*10:=Int.pow_succ 10 n;rw[this]at h1;exact FH (by omega) h1
   obtain⟨s,e1,e2⟩:=ih m (k/10) ([UInt8.ofNat (IntKind.u8.wrap (IntKind.i64.wrap (48+((k:Int)%10)))).toNat]++v) (by omega) hd (by omega);refine⟨s,?_,by simp at e2;omega⟩;split
   ·rename_i hv;rw[bR (by simp;omega)]at e1;have c1:decide (k>0)=true:=by simp[hk]
    have c2:(decide (0<=k)&&decide (0<(10:Int)))=true:=by simp[h0]
    have c3:decide (([UInt8.ofNat (IntKind.u8.wrap (IntKind.i64.wrap (48+((k:Int)%10)))).toNat]:Bytes).length+v.length<=maxLen)=true:=by unfold maxLen;simp;omega
    rw[fS,c1,aW,c2,aW,c3,aW,aW];exact e1
   ·rfl
  ·have hk0:k=0:=by omega
   subst hk0;exact⟨v,by split<;>simp[fS],by omega⟩
theorem lP(k:Int)(h0:1<=k)(h1:k<=4611686018427387904):∃s,cC k=some s:=by
 unfold cC;have c:decide ((k:Int)<=0)=false:=b9 (by omega);rw[c,aa];obtain⟨s,e1,e2⟩:=Zo (fun(Ry:Bytes)=>(bif decide (([109]:Bytes).length+(Ry:Bytes).length<=maxLen)then(some (([109])++Ry))else none)) 20 fuel k [] (by omega) (by omega) (by decide);rw[bR (by simp)]at e1;have c2:decide (([109]:Bytes).length+s.length<=maxLen)=true:=by unfold maxLen;simp at e2⊢;omega
 rw[e1,c2];exact⟨_,rfl⟩
theorem Nz(l:aJ)(h:dW (.sl (l.map tx)))(v:Int)(h0:0<=v)(h1:v<=1048576):xN (qI l v) v (k8 tw l):=by
 unfold qI;exact szS h h0 h1 fun v' g0 g1=>szL (w:=tw) (f:=fun x v=>some (IntKind.i64.wrap (v-(x.length:Int)))) (jf l (fun z=>some z)) (fun _ _=>rfl) (fun _ _ _ _=>by simp only[jf,aA]) l (fun x hx v g0 g1=>⟨_,rfl,by rw[a3i ((xq.row h x hx (.str x) (by simp)).str) g0 g1];omega,fun q=>by rw[a3i ((xq.row h x hx (.str x) (by simp)).str) g0 g1]at q⊢;unfold tw;omega⟩) 0 v' g0 g1
theorem O1(l:aJ)(h:k8 tw l<=1048576):qJ l=some l:=by
 unfold qJ;rw[KT (by rw[aZ];exact cT (gu _ _) h) (by decide)];exact toL (c:=tx) (f:=(fun x=>some x)) (jh l (fun q=>some q)) (fun _ _=>rfl) (fun _ _ _ _=>by simp only[jh,aA]) (fun x hx=>rfl)
theorem NU(a b:aJ):qH a b=some (decide (a=b)):=by
 unfold qH;exact SJ (c:=tx) (f:=(fun x y=>some (x==y))) (fun k=>mT a b k) (fun _ _=>rfl) (fun _ _ _ _=>rfl) (fun x y=>by rw[az,bp];simp)
theorem yt(l:aJ):QC (iK (fun _=>1) l) (gf l) gb:=by
 have key:∀(rest dn:aJ) (v:Int),1<=v->v+(iK (fun _=>1) rest:Int)<=4611686018427387904->∃rest':aJ,(∀k,fe k rest dn v=k (dn++rest') (v+(iK (fun _=>1) rest:Int)))/\∀a k i,fZ a k rest' i v=k (v+(iK (fun _=>1) rest:Int)):=by
  intro rest
  induction rest with
  |nil=>intro dn v _ _;exact⟨[],fun k=>by simp[fe,iK],fun a k i=>by simp[fZ,iK]⟩
  |cons x xs ih=>
   intro dn v h0 h1;rw[uz]at h1⊢;obtain⟨s1,e1⟩:=lP v (by omega) (by omega);obtain⟨rest',p1,p2⟩:=ih (dn++[s1]) (v+1) (by omega) (by omega);refine⟨s1::rest',fun k=>?_,fun a k i=>?_⟩
   ·rw[fe];simp(disch:=omega) only[yT,aA,e1];rw[p1];simp only[bY,dM]
    congr 1
    omega
   ·rw[fZ];simp(disch:=omega) only[yT,aA,cw,bQ,aa,gK,e1];rw[p2]
    congr 1
    omega
 intro k h0 h1;obtain⟨l',p1,p2⟩:=key l [] k h0 h1;exact⟨l',by unfold gf;rw[p1];rfl,by unfold gb;rw[p2]⟩
theorem a0F(l:bI)(h:dW (.sl (l.map dL)))(v:Int)(h0:0<=v)(h1:v<=1048576):xN (xS l v) v (k8 zw l):=by
 unfold xS;exact szS h h0 h1 fun v' g0 g1=>xN.fin.eq (a8p l).symm
theorem a0M(l:bI)(h:k8 zw l<=1048576):xT l=some l:=by
 unfold xT;rw[KT (by rw[aZ];exact cT (gu _ _) h) (by decide)];exact toL (c:=dL) (f:=(fun x=>some x)) (nP l (fun q=>some q)) (fun _ _=>rfl) (fun _ _ _ _=>by simp only[nP,aA]) (fun x hx=>rfl)
theorem ZT(a b:bI):xR a b=some (decide (a=b)):=by
 unfold xR;exact SJ (c:=dL) (f:=(fun x y=>some (x==y))) (fun k=>qG a b k) (fun _ _=>rfl) (fun _ _ _ _=>rfl) (fun x y=>by rw[az,bp];simp)
theorem Zs(l:bI):QC (iK (fun _=>1) l) (uW l) uV:=by
 have key:∀(rest dn:bI) (v:Int),1<=v->v+(iK (fun _=>1) rest:Int)<=4611686018427387904->∃rest':bI,(∀k,j0 k rest dn v=k (dn++rest') (v+(iK (fun _=>1) rest:Int)))/\∀a k i,iz a k rest' i v=k (v+(iK (fun _=>1) rest:Int)):=by
  intro rest
  induction rest with
  |nil=>intro dn v _ _;exact⟨[],fun k=>by simp[j0,iK],fun a k i=>by simp[iz,iK]⟩
  |cons x xs ih=>
   intro dn v h0 h1;rw[uz]at h1⊢;obtain⟨rest',p1,p2⟩:=ih (dn++[v]) (v+1) (by omega) (by omega);refine⟨v::rest',fun k=>?_,fun a k i=>?_⟩
   ·rw[j0];simp(disch:=omega) only[yT,aA];rw[p1];simp only[bY,dM]
    congr 1
    omega
   ·rw[iz];simp(disch:=omega) only[yT,aA,cw,bQ,aa,gK];rw[p2]
    congr 1
    omega
 intro k h0 h1;obtain⟨l',p1,p2⟩:=key l [] k h0 h1;exact⟨l',by unfold uW;rw[p1];rfl,by unfold uV;rw[p2]⟩
def aE.wt(x:aE):Nat:=tw x.rel+k8 tw x.args
def aE.iQ(x:aE):Nat:=1+iK (fun _=>1) x.args
theorem aE.mi(x:aE):x.iQ<=6+6*x.wt:=by
 unfold aE.iQ aE.wt;have h0:=pU (fun _=>1) tw x.args (fun y=>by omega);omega
theorem a0E(x:aE)(h:xq x.c)(v:Int)(h0:0<=v)(h1:v<=1048576):xN (vI x v) v (aE.wt x):=by
 unfold vI;refine xN.eq (n:=(tw x.rel+(k8 tw x.args+0))) ?_ (by simp only[aE.wt];omega);refine xN.str (m:=(k8 tw x.args+0)) ((h (.str x.rel) (by simp)).str) h0 h1 fun g1 e1=>?_
 rw[e1];have l1:v-(x.rel.length:Int)<=1048576:=by omega
 refine(Nz x.args (h (.sl (x.args.map tx)) (by simp)) _ g1 l1).sub l1 g1 (m:=0) fun r2 g2 l2=>?_
 exact xN.fin
theorem a0L(x:aE)(h:aE.wt x<=1048576):vM x=some x:=by
 unfold vM;simp only[O1 x.args (by simp only[aE.wt]at h;omega),aA]
theorem ZS(a b:aE):vE a b=some (decide (a=b)):=by
 obtain⟨a0,a1⟩:=a;obtain⟨b0,b1⟩:=b;unfold vE;simp only[NU,aA,fG,bne];by_cases h0:a0=b0<;>by_cases h1:a1=b1<;>simp[h0,h1]
theorem F0(l:aK)(h:dW (.sl (l.map aE.c)))(v:Int)(h0:0<=v)(h1:v<=1048576):xN (o9 l v) v (k8 aE.wt l):=by
 unfold o9;exact szS h h0 h1 fun v' g0 g1=>szL (w:=aE.wt) (f:=vI) (oY l (fun z=>some z)) (fun _ _=>rfl) (fun _ _ _ _=>rfl) l (fun x hx v g0 g1=>a0E x (xq.row h x hx) v g0 g1) 0 v' g0 g1
theorem F2(l:aK)(h:k8 aE.wt l<=1048576):j3 l=some l:=by
 unfold j3;rw[KT (by rw[aZ];exact cT (gu _ _) h) (by decide)];exact toL (c:=aE.c) (f:=vM) (oh l (fun q=>some q)) (fun _ _=>rfl) (fun _ _ _ _=>rfl) (fun x hx=>a0L x (by have:=iZ (w:=aE.wt) hx;omega))
theorem En(a b:aK):o8 a b=some (decide (a=b)):=by
 unfold o8;exact SJ (c:=aE.c) (f:=vE) (fun k=>oT a b k) (fun _ _=>rfl) (fun _ _ _ _=>rfl) ZS
theorem Ev(l:aK):QC (iK aE.iQ l) (l9 l) nK:=by
 have key:∀(rest dn:aK) (v:Int),1<=v->v+(iK aE.iQ rest:Int)<=4611686018427387904->∃rest':aK,(∀k,iF k rest dn v=k (dn++rest') (v+(iK aE.iQ rest:Int)))/\∀a k i,iA a k rest' i v=k (v+(iK aE.iQ rest:Int)):=by
  intro rest
  induction rest with
  |nil=>intro dn v _ _;exact⟨[],fun k=>by simp[iF,iK],fun a k i=>by simp[iA,iK]⟩
  |cons x xs ih=>
   intro dn v h0 h1;rw[uz]at h1⊢;simp only[aE.iQ]at h1⊢;obtain⟨s1,e1⟩:=lP v (by omega) (by omega);obtain⟨l2,e2,f2⟩:=yt x.args (v+1) (by omega) (by omega);obtain⟨rest',p1,p2⟩:=ih (dn++[(⟨s1,l2⟩:aE)]) (v+1+(iK (fun _=>1) x.args:Int)) (by omega) (by omega);refine⟨(⟨s1,l2⟩:aE)::rest',fun k=>?_,fun a k i=>?_⟩
   ·rw[iF];simp(disch:=omega) only[yT,aA,e1,e2];rw[p1];simp only[bY,dM]
    congr 1
    omega
   ·have g0:decide ((v+1+(iK (fun _=>1) x.args:Int):Int)<0)=false:=b9 (by omega);rw[iA];simp(disch:=omega) only[yT,aA,cw,bQ,aa,gK,e1,f2,g0];rw[p2]
    congr 1
    omega
 intro k h0 h1;obtain⟨l',p1,p2⟩:=key l [] k h0 h1;exact⟨l',by unfold l9;rw[p1];rfl,by unfold nK;rw[p2]⟩
theorem F1(x:aE)(h:xq x.c)(v:Int)(h0:0<=v)(h1:v<=1048576):xN (nM x v) v (aE.wt x):=by
 unfold nM;refine xN.eq (n:=(tw x.rel+(k8 tw x.args+0))) ?_ (by simp only[aE.wt];omega);refine xN.str (m:=(k8 tw x.args+0)) ((h (.str x.rel) (by simp)).str) h0 h1 fun g1 e1=>?_
 rw[e1];have l1:v-(x.rel.length:Int)<=1048576:=by omega
 refine(Nz x.args (h (.sl (x.args.map tx)) (by simp)) _ g1 l1).sub l1 g1 (m:=0) fun r2 g2 l2=>?_
 exact xN.fin
theorem F3(x:aE)(h:aE.wt x<=1048576):nQ x=some x:=by
 unfold nQ;simp only[O1 x.args (by simp only[aE.wt]at h;omega),aA]
theorem Eo(a b:aE):nI a b=some (decide (a=b)):=by
 obtain⟨a0,a1⟩:=a;obtain⟨b0,b1⟩:=b;unfold nI;simp only[NU,aA,fG,bne];by_cases h0:a0=b0<;>by_cases h1:a1=b1<;>simp[h0,h1]
def aS.wt(x:aS):Nat:=tw x.var+tw x.value
def aS.iQ(x:aS):Nat:=2
theorem aS.mi(x:aS):x.iQ<=6+6*x.wt:=by
 unfold aS.iQ aS.wt;omega
theorem a0H(x:aS)(h:xq x.c)(v:Int)(h0:0<=v)(h1:v<=1048576):xN (vK x v) v (aS.wt x):=by
 unfold vK;refine xN.eq (n:=(tw x.var+(tw x.value+0))) ?_ (by simp only[aS.wt];omega);refine xN.str (m:=(tw x.value+0)) ((h (.str x.var) (by simp)).str) h0 h1 fun g1 e1=>?_
 rw[e1];have l1:v-(x.var.length:Int)<=1048576:=by omega
 refine xN.str (m:=0) ((h (.str x.value) (by simp)).str) g1 l1 fun g2 e2=>?_
 rw[e2];have l2:v-(x.var.length:Int)-(x.value.length:Int)<=1048576:=by omega
 exact xN.fin
theorem a0O(x:aS)(h:aS.wt x<=1048576):vO x=some x:=by
 unfold vO;rfl
theorem ZV(a b:aS):vG a b=some (decide (a=b)):=by
 obtain⟨a0,a1⟩:=a;obtain⟨b0,b1⟩:=b;unfold vG;simp only[aA,fG,bne];by_cases h0:a0=b0<;>by_cases h1:a1=b1<;>simp[h0,h1]
theorem Xc(l:aT)(h:dW (.sl (l.map aS.c)))(v:Int)(h0:0<=v)(h1:v<=1048576):xN (wM l v) v (k8 aS.wt l):=by
 unfold wM;exact szS h h0 h1 fun v' g0 g1=>szL (w:=aS.wt) (f:=vK) (oa l (fun z=>some z)) (fun _ _=>rfl) (fun _ _ _ _=>rfl) l (fun x hx v g0 g1=>a0H x (xq.row h x hx) v g0 g1) 0 v' g0 g1
theorem Xl(l:aT)(h:k8 aS.wt l<=1048576):wQ l=some l:=by
 unfold wQ;rw[KT (by rw[aZ];exact cT (gu _ _) h) (by decide)];exact toL (c:=aS.c) (f:=vO) (om l (fun q=>some q)) (fun _ _=>rfl) (fun _ _ _ _=>rfl) (fun x hx=>a0O x (by have:=iZ (w:=aS.wt) hx;omega))
theorem Wj(a b:aT):wI a b=some (decide (a=b)):=by
 unfold wI;exact SJ (c:=aS.c) (f:=vG) (fun k=>oV a b k) (fun _ _=>rfl) (fun _ _ _ _=>rfl) ZV
theorem XG(l:aT):QC (iK aS.iQ l) (tJ l) tF:=by
 have key:∀(rest dn:aT) (v:Int),1<=v->v+(iK aS.iQ rest:Int)<=4611686018427387904->∃rest':aT,(∀k,iH k rest dn v=k (dn++rest') (v+(iK aS.iQ rest:Int)))/\∀a k i,iC a k rest' i v=k (v+(iK aS.iQ rest:Int)):=by
  intro rest
  induction rest with
  |nil=>intro dn v _ _;exact⟨[],fun k=>by simp[iH,iK],fun a k i=>by simp[iC,iK]⟩
  |cons x xs ih=>
   intro dn v h0 h1;rw[uz]at h1⊢;simp only[aS.iQ]at h1⊢;obtain⟨s1,e1⟩:=lP v (by omega) (by omega);obtain⟨s2,e2⟩:=lP (v+1) (by omega) (by omega);obtain⟨rest',p1,p2⟩:=ih (dn++[(⟨s1,s2⟩:aS)]) (v+1+1) (by omega) (by omega);refine⟨(⟨s1,s2⟩:aS)::rest',fun k=>?_,fun a k i=>?_⟩
   ·rw[iH];simp(disch:=omega) only[yT,aA,e1,e2];rw[p1];simp only[bY,dM]
    congr 1
    omega
   ·rw[iC];simp(disch:=omega) only[yT,aA,cw,bQ,aa,gK,e1,e2];rw[p2]
    congr 1
    omega
 intro k h0 h1;obtain⟨l',p1,p2⟩:=key l [] k h0 h1;exact⟨l',by unfold tJ;rw[p1];rfl,by unfold tF;rw[p2]⟩
def aQ.wt(x:aQ):Nat:=tw x.pat.rel+k8 tw x.pat.args+tw x.left+tw x.right
def aQ.iQ(x:aQ):Nat:=4+iK (fun _=>1) x.pat.args
theorem aQ.mi(x:aQ):x.iQ<=6+6*x.wt:=by
 unfold aQ.iQ aQ.wt;have h0:=pU (fun _=>1) tw x.pat.args (fun y=>by omega);omega
theorem Sg(x:aQ)(h:xq x.c)(v:Int)(h0:0<=v)(h1:v<=1048576):xN (s7 x v) v (aQ.wt x):=by
 unfold s7;refine xN.eq (n:=(aE.wt x.pat+(tw x.left+(tw x.right+0)))) ?_ (by simp only[aQ.wt,aE.wt];omega);refine(F1 x.pat (xq.sub h (by intro d hd;simp only[bM,sR,GK]at hd⊢;rcases hd with rfl|rfl<;>simp)) _ h0 h1).sub h1 h0 (m:=(tw x.left+(tw x.right+0))) fun r1 g1 l1=>?_
 refine xN.str (m:=(tw x.right+0)) ((h (.str x.left) (by simp)).str) g1 l1 fun g2 e2=>?_
 rw[e2];have l2:r1-(x.left.length:Int)<=1048576:=by omega
 refine xN.str (m:=0) ((h (.str x.right) (by simp)).str) g2 l2 fun g3 e3=>?_
 rw[e3];have l3:r1-(x.left.length:Int)-(x.right.length:Int)<=1048576:=by omega
 exact xN.fin
theorem Sj(x:aQ)(h:aQ.wt x<=1048576):s8 x=some x:=by
 unfold s8;simp only[F3 x.pat (by simp only[aQ.wt,aE.wt]at h⊢;omega),aA]
theorem SI(a b:aQ):rz a b=some (decide (a=b)):=by
 obtain⟨a0,a1,a2,a3⟩:=a;obtain⟨b0,b1,b2,b3⟩:=b;unfold rz;simp only[Eo,aA,fG,bne];by_cases h0:a0=b0<;>by_cases h1:a1=b1<;>by_cases h2:a2=b2<;>by_cases h3:a3=b3<;>simp[h0,h1,h2,h3]
theorem Xa(l:aq)(h:dW (.sl (l.map aQ.c)))(v:Int)(h0:0<=v)(h1:v<=1048576):xN (wK l v) v (k8 aQ.wt l):=by
 unfold wK;exact szS h h0 h1 fun v' g0 g1=>szL (w:=aQ.wt) (f:=s7) (oX l (fun z=>some z)) (fun _ _=>rfl) (fun _ _ _ _=>rfl) l (fun x hx v g0 g1=>Sg x (xq.row h x hx) v g0 g1) 0 v' g0 g1
theorem Xj(l:aq)(h:k8 aQ.wt l<=1048576):wO l=some l:=by
 unfold wO;rw[KT (by rw[aZ];exact cT (gu _ _) h) (by decide)];exact toL (c:=aQ.c) (f:=s8) (og l (fun q=>some q)) (fun _ _=>rfl) (fun _ _ _ _=>rfl) (fun x hx=>Sj x (by have:=iZ (w:=aQ.wt) hx;omega))
theorem Wh(a b:aq):wG a b=some (decide (a=b)):=by
 unfold wG;exact SJ (c:=aQ.c) (f:=rz) (fun k=>oS a b k) (fun _ _=>rfl) (fun _ _ _ _=>rfl) SI
theorem XE(l:aq):QC (iK aQ.iQ l) (tH l) tD:=by
 have key:∀(rest dn:aq) (v:Int),1<=v->v+(iK aQ.iQ rest:Int)<=4611686018427387904->∃rest':aq,(∀k,iE k rest dn v=k (dn++rest') (v+(iK aQ.iQ rest:Int)))/\∀a k i,hY a k rest' i v=k (v+(iK aQ.iQ rest:Int)):=by
  intro rest
  induction rest with
  |nil=>intro dn v _ _;exact⟨[],fun k=>by simp[iE,iK],fun a k i=>by simp[hY,iK]⟩
  |cons x xs ih=>
   intro dn v h0 h1;rw[uz]at h1⊢;simp only[aQ.iQ]at h1⊢;obtain⟨s2,e2⟩:=lP (v+1) (by omega) (by omega);obtain⟨l3,e3,f3⟩:=yt x.pat.args (v+1+1) (by omega) (by omega);obtain⟨s4,e4⟩:=lP (v+1+1+(iK (fun _=>1) x.pat.args:Int)) (by omega) (by omega);obtain⟨s5,e5⟩:=lP (v+1+1+(iK (fun _=>1) x.pat.args:Int)+1) (by omega) (by omega);obtain⟨rest',p1,p2⟩:=ih (dn++[(⟨v,(⟨s2,l3⟩:aE),s4,s5⟩:aQ)]) (v+1+1+(iK (fun _=>1) x.pat.args:Int)+1+1) (by omega) (by omega);refine⟨(⟨v,(⟨s2,l3⟩:aE),s4,s5⟩:aQ)::rest',fun k=>?_,fun a k i=>?_⟩
   ·rw[iE];simp(disch:=omega) only[yT,aA,e2,e3,e4,e5];rw[p1];simp only[bY,dM]
    congr 1
    omega
   ·have g0:decide ((v+1+1+(iK (fun _=>1) x.pat.args:Int):Int)<0)=false:=b9 (by omega);rw[hY];simp(disch:=omega) only[yT,aA,cw,bQ,aa,gK,e2,f3,e4,e5,g0];rw[p2]
    congr 1
    omega
 intro k h0 h1;obtain⟨l',p1,p2⟩:=key l [] k h0 h1;exact⟨l',by unfold tH;rw[p1];rfl,by unfold tD;rw[p2]⟩
def Action.wt(x:Action):Nat:=tw x.pat.rel+k8 tw x.pat.args
def Action.iQ(x:Action):Nat:=2+iK (fun _=>1) x.pat.args
theorem Action.mi(x:Action):x.iQ<=6+6*x.wt:=by
 unfold Action.iQ Action.wt;have h0:=pU (fun _=>1) tw x.pat.args (fun y=>by omega);omega
theorem Vo(x:Action)(h:xq x.c)(v:Int)(h0:0<=v)(h1:v<=1048576):xN (qz x v) v (Action.wt x):=by
 unfold qz;refine xN.eq (n:=(aE.wt x.pat+0)) ?_ (by simp only[Action.wt,aE.wt];omega);refine(F1 x.pat (xq.sub h (by intro d hd;simp only[bM,sR,GK]at hd⊢;rcases hd with rfl|rfl<;>simp)) _ h0 h1).sub h1 h0 (m:=0) fun r1 g1 l1=>?_
 exact xN.fin
theorem Vr(x:Action)(h:Action.wt x<=1048576):r9 x=some x:=by
 unfold r9;simp only[F3 x.pat (by simp only[Action.wt,aE.wt]at h⊢;omega),aA]
theorem Uv(a b:Action):qy a b=some (decide (a=b)):=by
 obtain⟨a0,a1⟩:=a;obtain⟨b0,b1⟩:=b;unfold qy;simp only[Eo,aA,fG,bne];by_cases h0:a0=b0<;>by_cases h1:a1=b1<;>simp[h0,h1]
theorem U5(l:c8)(h:dW (.sl (l.map Action.c)))(v:Int)(h0:0<=v)(h1:v<=1048576):xN (tL l v) v (k8 Action.wt l):=by
 unfold tL;exact szS h h0 h1 fun v' g0 g1=>szL (w:=Action.wt) (f:=qz) (mU l (fun z=>some z)) (fun _ _=>rfl) (fun _ _ _ _=>rfl) l (fun x hx v g0 g1=>Vo x (xq.row h x hx) v g0 g1) 0 v' g0 g1
theorem U9(l:c8)(h:k8 Action.wt l<=1048576):tP l=some l:=by
 unfold tP;rw[KT (by rw[aZ];exact cT (gu _ _) h) (by decide)];exact toL (c:=Action.c) (f:=r9) (mV l (fun q=>some q)) (fun _ _=>rfl) (fun _ _ _ _=>rfl) (fun x hx=>Vr x (by have:=iZ (w:=Action.wt) hx;omega))
theorem TC(a b:c8):tA a b=some (decide (a=b)):=by
 unfold tA;exact SJ (c:=Action.c) (f:=qy) (fun k=>mS a b k) (fun _ _=>rfl) (fun _ _ _ _=>rfl) Uv
theorem Tf(l:c8):QC (iK Action.iQ l) (qR l) qQ:=by
 have key:∀(rest dn:c8) (v:Int),1<=v->v+(iK Action.iQ rest:Int)<=4611686018427387904->∃rest':c8,(∀k,fc k rest dn v=k (dn++rest') (v+(iK Action.iQ rest:Int)))/\∀a k i,fY a k rest' i v=k (v+(iK Action.iQ rest:Int)):=by
  intro rest
  induction rest with
  |nil=>intro dn v _ _;exact⟨[],fun k=>by simp[fc,iK],fun a k i=>by simp[fY,iK]⟩
  |cons x xs ih=>
   intro dn v h0 h1;rw[uz]at h1⊢;simp only[Action.iQ]at h1⊢;obtain⟨s2,e2⟩:=lP (v+1) (by omega) (by omega);obtain⟨l3,e3,f3⟩:=yt x.pat.args (v+1+1) (by omega) (by omega);obtain⟨rest',p1,p2⟩:=ih (dn++[(⟨v,(⟨s2,l3⟩:aE)⟩:Action)]) (v+1+1+(iK (fun _=>1) x.pat.args:Int)) (by omega) (by omega);refine⟨(⟨v,(⟨s2,l3⟩:aE)⟩:Action)::rest',fun k=>?_,fun a k i=>?_⟩
   ·rw[fc];simp(disch:=omega) only[yT,aA,e2,e3];rw[p1];simp only[bY,dM]
    congr 1
    omega
   ·have g0:decide ((v+1+1+(iK (fun _=>1) x.pat.args:Int):Int)<0)=false:=b9 (by omega);rw[fY];simp(disch:=omega) only[yT,aA,cw,bQ,aa,gK,e2,f3,g0];rw[p2]
    congr 1
    omega
 intro k h0 h1;obtain⟨l',p1,p2⟩:=key l [] k h0 h1;exact⟨l',by unfold qR;rw[p1];rfl,by unfold qQ;rw[p2]⟩
def aO.wt(x:aO):Nat:=tw x.name+k8 aQ.wt x.conds+k8 Action.wt x.cu
def aO.iQ(x:aO):Nat:=2+iK aQ.iQ x.conds+iK Action.iQ x.cu
theorem aO.mi(x:aO):x.iQ<=6+6*x.wt:=by
 unfold aO.iQ aO.wt;have h0:=pU aQ.iQ aQ.wt x.conds (fun y=>aQ.mi y);have h1:=pU Action.iQ Action.wt x.cu (fun y=>Action.mi y);omega
theorem a0I(x:aO)(h:xq x.c)(v:Int)(h0:0<=v)(h1:v<=1048576):xN (vL x v) v (aO.wt x):=by
 unfold vL;refine xN.eq (n:=(tw x.name+(k8 aQ.wt x.conds+(k8 Action.wt x.cu+0)))) ?_ (by simp only[aO.wt];omega);refine xN.str (m:=(k8 aQ.wt x.conds+(k8 Action.wt x.cu+0))) ((h (.str x.name) (by simp)).str) h0 h1 fun g1 e1=>?_
 rw[e1];have l1:v-(x.name.length:Int)<=1048576:=by omega
 refine(Xa x.conds (h (.sl (x.conds.map aQ.c)) (by simp)) _ g1 l1).sub l1 g1 (m:=(k8 Action.wt x.cu+0)) fun r2 g2 l2=>?_
 refine(U5 x.cu (h (.sl (x.cu.map Action.c)) (by simp)) _ g2 l2).sub l2 g2 (m:=0) fun r3 g3 l3=>?_
 exact xN.fin
theorem a0P(x:aO)(h:aO.wt x<=1048576):vP x=some x:=by
 unfold vP;simp only[Xj x.conds (by simp only[aO.wt]at h;omega),U9 x.cu (by simp only[aO.wt]at h;omega),aA]
theorem ZW(a b:aO):vH a b=some (decide (a=b)):=by
 obtain⟨a0,a1,a2,a3⟩:=a;obtain⟨b0,b1,b2,b3⟩:=b;unfold vH;simp only[TC,Wh,aA,fG,bne];by_cases h0:a0=b0<;>by_cases h1:a1=b1<;>by_cases h2:a2=b2<;>by_cases h3:a3=b3<;>simp[h0,h1,h2,h3]
theorem Xd(l:ar)(h:dW (.sl (l.map aO.c)))(v:Int)(h0:0<=v)(h1:v<=1048576):xN (wN l v) v (k8 aO.wt l):=by
 unfold wN;exact szS h h0 h1 fun v' g0 g1=>szL (w:=aO.wt) (f:=vL) (oc l (fun z=>some z)) (fun _ _=>rfl) (fun _ _ _ _=>rfl) l (fun x hx v g0 g1=>a0I x (xq.row h x hx) v g0 g1) 0 v' g0 g1
theorem Xm(l:ar)(h:k8 aO.wt l<=1048576):wR l=some l:=by
 unfold wR;rw[KT (by rw[aZ];exact cT (gu _ _) h) (by decide)];exact toL (c:=aO.c) (f:=vP) (oo l (fun q=>some q)) (fun _ _=>rfl) (fun _ _ _ _=>rfl) (fun x hx=>a0P x (by have:=iZ (w:=aO.wt) hx;omega))
theorem Wk(a b:ar):wJ a b=some (decide (a=b)):=by
 unfold wJ;exact SJ (c:=aO.c) (f:=vH) (fun k=>oW a b k) (fun _ _=>rfl) (fun _ _ _ _=>rfl) ZW
theorem XH(l:ar):QC (iK aO.iQ l) (tK l) tG:=by
 have key:∀(rest dn:ar) (v:Int),1<=v->v+(iK aO.iQ rest:Int)<=4611686018427387904->∃rest':ar,(∀k,iI k rest dn v=k (dn++rest') (v+(iK aO.iQ rest:Int)))/\∀a k i,iD a k rest' i v=k (v+(iK aO.iQ rest:Int)):=by
  intro rest
  induction rest with
  |nil=>intro dn v _ _;exact⟨[],fun k=>by simp[iI,iK],fun a k i=>by simp[iD,iK]⟩
  |cons x xs ih=>
   intro dn v h0 h1;rw[uz]at h1⊢;simp only[aO.iQ]at h1⊢;obtain⟨s1,e1⟩:=lP v (by omega) (by omega);obtain⟨l3,e3,f3⟩:=XE x.conds (v+1+1) (by omega) (by omega);obtain⟨l4,e4,f4⟩:=Tf x.cu (v+1+1+(iK aQ.iQ x.conds:Int)) (by omega) (by omega);obtain⟨rest',p1,p2⟩:=ih (dn++[(⟨s1,(v+1),l3,l4⟩:aO)]) (v+1+1+(iK aQ.iQ x.conds:Int)+(iK Action.iQ x.cu:Int)) (by omega) (by omega);refine⟨(⟨s1,(v+1),l3,l4⟩:aO)::rest',fun k=>?_,fun a k i=>?_⟩
   ·rw[iI];simp(disch:=omega) only[yT,aA,e1,e3,e4];rw[p1];simp only[bY,dM]
    congr 1
    omega
   ·have g0:decide ((v+1+1+(iK aQ.iQ x.conds:Int):Int)<0)=false:=b9 (by omega);have g1:decide ((v+1+1+(iK aQ.iQ x.conds:Int)+(iK Action.iQ x.cu:Int):Int)<0)=false:=b9 (by omega);rw[iD];simp(disch:=omega) only[yT,aA,cw,bQ,aa,gK,e1,f3,f4,g0,g1];rw[p2]
    congr 1
    omega
 intro k h0 h1;obtain⟨l',p1,p2⟩:=key l [] k h0 h1;exact⟨l',by unfold tK;rw[p1];rfl,by unfold tG;rw[p2]⟩
def aI.wt(x:aI):Nat:=k8 aE.wt x.facts+k8 aS.wt x.bind
def aI.iQ(x:aI):Nat:=0+iK aE.iQ x.facts+iK aS.iQ x.bind
theorem aI.mi(x:aI):x.iQ<=6+6*x.wt:=by
 unfold aI.iQ aI.wt;have h0:=pU aE.iQ aE.wt x.facts (fun y=>aE.mi y);have h1:=pU aS.iQ aS.wt x.bind (fun y=>aS.mi y);omega
theorem Xe(x:aI)(h:xq x.c)(v:Int)(h0:0<=v)(h1:v<=1048576):xN (tO x v) v (aI.wt x):=by
 unfold tO;refine xN.eq (n:=(k8 aE.wt x.facts+(k8 aS.wt x.bind+0))) ?_ (by simp only[aI.wt];omega);refine(F0 x.facts (h (.sl (x.facts.map aE.c)) (by simp)) _ h0 h1).sub h1 h0 (m:=(k8 aS.wt x.bind+0)) fun r1 g1 l1=>?_
 refine(Xc x.bind (h (.sl (x.bind.map aS.c)) (by simp)) _ g1 l1).sub l1 g1 (m:=0) fun r2 g2 l2=>?_
 exact xN.fin
theorem Xn(x:aI)(h:aI.wt x<=1048576):tR x=some x:=by
 unfold tR;simp only[F2 x.facts (by simp only[aI.wt]at h;omega),Xl x.bind (by simp only[aI.wt]at h;omega),aA]
theorem Wl(a b:aI):tC a b=some (decide (a=b)):=by
 obtain⟨a0,a1⟩:=a;obtain⟨b0,b1⟩:=b;unfold tC;simp only[En,Wj,aA,fG,bne];by_cases h0:a0=b0<;>by_cases h1:a1=b1<;>simp[h0,h1]
theorem Vq(l:ah)(h:dW (.sl (l.map aI.c)))(v:Int)(h0:0<=v)(h1:v<=1048576):xN (uY l v) v (k8 aI.wt l):=by
 unfold uY;exact szS h h0 h1 fun v' g0 g1=>szL (w:=aI.wt) (f:=tO) (nN l (fun z=>some z)) (fun _ _=>rfl) (fun _ _ _ _=>rfl) l (fun x hx v g0 g1=>Xe x (xq.row h x hx) v g0 g1) 0 v' g0 g1
theorem Vt(l:ah)(h:k8 aI.wt l<=1048576):ua l=some l:=by
 unfold ua;rw[KT (by rw[aZ];exact cT (gu _ _) h) (by decide)];exact toL (c:=aI.c) (f:=tR) (nR l (fun q=>some q)) (fun _ _=>rfl) (fun _ _ _ _=>rfl) (fun x hx=>Xn x (by have:=iZ (w:=aI.wt) hx;omega))
theorem Ux(a b:ah):uU a b=some (decide (a=b)):=by
 unfold uU;exact SJ (c:=aI.c) (f:=tC) (fun k=>nJ a b k) (fun _ _=>rfl) (fun _ _ _ _=>rfl) Wl
theorem VT(l:ah):QC (iK aI.iQ l) (rO l) rM:=by
 have key:∀(rest dn:ah) (v:Int),1<=v->v+(iK aI.iQ rest:Int)<=4611686018427387904->∃rest':ah,(∀k,gV k rest dn v=k (dn++rest') (v+(iK aI.iQ rest:Int)))/\∀a k i,gT a k rest' i v=k (v+(iK aI.iQ rest:Int)):=by
  intro rest
  induction rest with
  |nil=>intro dn v _ _;exact⟨[],fun k=>by simp[gV,iK],fun a k i=>by simp[gT,iK]⟩
  |cons x xs ih=>
   intro dn v h0 h1;rw[uz]at h1⊢;simp only[aI.iQ]at h1⊢;obtain⟨l1,e1,f1⟩:=Ev x.facts v (by omega) (by omega);obtain⟨l2,e2,f2⟩:=XG x.bind (v+(iK aE.iQ x.facts:Int)) (by omega) (by omega);obtain⟨rest',p1,p2⟩:=ih (dn++[(⟨l1,l2⟩:aI)]) (v+(iK aE.iQ x.facts:Int)+(iK aS.iQ x.bind:Int)) (by omega) (by omega);refine⟨(⟨l1,l2⟩:aI)::rest',fun k=>?_,fun a k i=>?_⟩
   ·rw[gV];simp(disch:=omega) only[yT,aA,e1,e2];rw[p1];simp only[bY,dM]
    congr 1
    omega
   ·have g0:decide ((v+(iK aE.iQ x.facts:Int):Int)<0)=false:=b9 (by omega);have g1:decide ((v+(iK aE.iQ x.facts:Int)+(iK aS.iQ x.bind:Int):Int)<0)=false:=b9 (by omega);rw[gT];simp(disch:=omega) only[yT,aA,cw,bQ,aa,gK,f1,f2,g0,g1];rw[p2]
    congr 1
    omega
 intro k h0 h1;obtain⟨l',p1,p2⟩:=key l [] k h0 h1;exact⟨l',by unfold rO;rw[p1];rfl,by unfold rM;rw[p2]⟩
def aP.wt(x:aP):Nat:=tw x.shape.rel+k8 tw x.shape.args+k8 aE.wt x.facts
def aP.iQ(x:aP):Nat:=1+iK (fun _=>1) x.shape.args+iK aE.iQ x.facts
theorem aP.mi(x:aP):x.iQ<=6+6*x.wt:=by
 unfold aP.iQ aP.wt;have h0:=pU (fun _=>1) tw x.shape.args (fun y=>by omega);have h1:=pU aE.iQ aE.wt x.facts (fun y=>aE.mi y);omega
theorem XZ(x:aP)(h:xq x.c)(v:Int)(h0:0<=v)(h1:v<=1048576):xN (tM x v) v (aP.wt x):=by
 unfold tM;refine xN.eq (n:=(aE.wt x.shape+(k8 aE.wt x.facts+0))) ?_ (by simp only[aP.wt,aE.wt];omega);refine(F1 x.shape (xq.sub h (by intro d hd;simp only[bM,sR,GK]at hd⊢;rcases hd with rfl|rfl<;>simp)) _ h0 h1).sub h1 h0 (m:=(k8 aE.wt x.facts+0)) fun r1 g1 l1=>?_
 refine(F0 x.facts (h (.sl (x.facts.map aE.c)) (by simp)) _ g1 l1).sub l1 g1 (m:=0) fun r2 g2 l2=>?_
 exact xN.fin
theorem Xi(x:aP)(h:aP.wt x<=1048576):tQ x=some x:=by
 unfold tQ;simp only[F3 x.shape (by simp only[aP.wt,aE.wt]at h⊢;omega),F2 x.facts (by simp only[aP.wt]at h;omega),aA]
theorem Wg(a b:aP):tB a b=some (decide (a=b)):=by
 obtain⟨a0,a1⟩:=a;obtain⟨b0,b1⟩:=b;unfold tB;simp only[En,Eo,aA,fG,bne];by_cases h0:a0=b0<;>by_cases h1:a1=b1<;>simp[h0,h1]
theorem Vp(l:b7)(h:dW (.sl (l.map aP.c)))(v:Int)(h0:0<=v)(h1:v<=1048576):xN (uX l v) v (k8 aP.wt l):=by
 unfold uX;exact szS h h0 h1 fun v' g0 g1=>szL (w:=aP.wt) (f:=tM) (nL l (fun z=>some z)) (fun _ _=>rfl) (fun _ _ _ _=>rfl) l (fun x hx v g0 g1=>XZ x (xq.row h x hx) v g0 g1) 0 v' g0 g1
theorem Vs(l:b7)(h:k8 aP.wt l<=1048576):uZ l=some l:=by
 unfold uZ;rw[KT (by rw[aZ];exact cT (gu _ _) h) (by decide)];exact toL (c:=aP.c) (f:=tQ) (nO l (fun q=>some q)) (fun _ _=>rfl) (fun _ _ _ _=>rfl) (fun x hx=>Xi x (by have:=iZ (w:=aP.wt) hx;omega))
theorem Uw(a b:b7):uT a b=some (decide (a=b)):=by
 unfold uT;exact SJ (c:=aP.c) (f:=tB) (fun k=>nH a b k) (fun _ _=>rfl) (fun _ _ _ _=>rfl) Wg
theorem VS(l:b7):QC (iK aP.iQ l) (rN l) rL:=by
 have key:∀(rest dn:b7) (v:Int),1<=v->v+(iK aP.iQ rest:Int)<=4611686018427387904->∃rest':b7,(∀k,gU k rest dn v=k (dn++rest') (v+(iK aP.iQ rest:Int)))/\∀a k i,gS a k rest' i v=k (v+(iK aP.iQ rest:Int)):=by
  intro rest
  induction rest with
  |nil=>intro dn v _ _;exact⟨[],fun k=>by simp[gU,iK],fun a k i=>by simp[gS,iK]⟩
  |cons x xs ih=>
   intro dn v h0 h1;rw[uz]at h1⊢;simp only[aP.iQ]at h1⊢;obtain⟨s1,e1⟩:=lP v (by omega) (by omega);obtain⟨l2,e2,f2⟩:=yt x.shape.args (v+1) (by omega) (by omega);obtain⟨l3,e3,f3⟩:=Ev x.facts (v+1+(iK (fun _=>1) x.shape.args:Int)) (by omega) (by omega);obtain⟨rest',p1,p2⟩:=ih (dn++[(⟨(⟨s1,l2⟩:aE),l3⟩:aP)]) (v+1+(iK (fun _=>1) x.shape.args:Int)+(iK aE.iQ x.facts:Int)) (by omega) (by omega);refine⟨(⟨(⟨s1,l2⟩:aE),l3⟩:aP)::rest',fun k=>?_,fun a k i=>?_⟩
   ·rw[gU];simp(disch:=omega) only[yT,aA,e1,e2,e3];rw[p1];simp only[bY,dM]
    congr 1
    omega
   ·have g0:decide ((v+1+(iK (fun _=>1) x.shape.args:Int):Int)<0)=false:=b9 (by omega);have g1:decide ((v+1+(iK (fun _=>1) x.shape.args:Int)+(iK aE.iQ x.facts:Int):Int)<0)=false:=b9 (by omega);rw[gS];simp(disch:=omega) only[yT,aA,cw,bQ,aa,gK,e1,f2,f3,g0,g1];rw[p2]
    congr 1
    omega
 intro k h0 h1;obtain⟨l',p1,p2⟩:=key l [] k h0 h1;exact⟨l',by unfold rN;rw[p1];rfl,by unfold rL;rw[p2]⟩
def Node.wt(x:Node):Nat:=tw x.cond.pat.rel+k8 tw x.cond.pat.args+tw x.cond.left+tw x.cond.right+k8 aI.wt x.tokens
def Node.iQ(x:Node):Nat:=6+iK (fun _=>1) x.cond.pat.args+iK aI.iQ x.tokens
theorem Node.mi(x:Node):x.iQ<=6+6*x.wt:=by
 unfold Node.iQ Node.wt;have h0:=pU (fun _=>1) tw x.cond.pat.args (fun y=>by omega);have h1:=pU aI.iQ aI.wt x.tokens (fun y=>aI.mi y);omega
theorem a0G(x:Node)(h:xq x.c)(v:Int)(h0:0<=v)(h1:v<=1048576):xN (vJ x v) v (Node.wt x):=by
 unfold vJ;refine xN.eq (n:=(aQ.wt x.cond+(k8 aI.wt x.tokens+0))) ?_ (by simp only[Node.wt,aQ.wt];omega);refine(Sg x.cond (xq.sub h (by intro d hd;simp only[bM,sR,GK]at hd⊢;rcases hd with rfl|rfl|rfl|rfl|rfl<;>simp)) _ h0 h1).sub h1 h0 (m:=(k8 aI.wt x.tokens+0)) fun r1 g1 l1=>?_
 refine(Vq x.tokens (h (.sl (x.tokens.map aI.c)) (by simp)) _ g1 l1).sub l1 g1 (m:=0) fun r2 g2 l2=>?_
 exact xN.fin
theorem a0N(x:Node)(h:Node.wt x<=1048576):vN x=some x:=by
 unfold vN;simp only[Sj x.cond (by simp only[Node.wt,aQ.wt]at h⊢;omega),Vt x.tokens (by simp only[Node.wt]at h;omega),aA]
theorem ZU(a b:Node):vF a b=some (decide (a=b)):=by
 obtain⟨a0,a1,a2,a3⟩:=a;obtain⟨b0,b1,b2,b3⟩:=b;unfold vF;simp only[SI,Ux,aA,fG,bne];by_cases h0:a0=b0<;>by_cases h1:a1=b1<;>by_cases h2:a2=b2<;>by_cases h3:a3=b3<;>simp[h0,h1,h2,h3]
theorem Xb(l:ay)(h:dW (.sl (l.map Node.c)))(v:Int)(h0:0<=v)(h1:v<=1048576):xN (wL l v) v (k8 Node.wt l):=by
 unfold wL;exact szS h h0 h1 fun v' g0 g1=>szL (w:=Node.wt) (f:=vJ) (oZ l (fun z=>some z)) (fun _ _=>rfl) (fun _ _ _ _=>rfl) l (fun x hx v g0 g1=>a0G x (xq.row h x hx) v g0 g1) 0 v' g0 g1
theorem Xk(l:ay)(h:k8 Node.wt l<=1048576):wP l=some l:=by
 unfold wP;rw[KT (by rw[aZ];exact cT (gu _ _) h) (by decide)];exact toL (c:=Node.c) (f:=vN) (ol l (fun q=>some q)) (fun _ _=>rfl) (fun _ _ _ _=>rfl) (fun x hx=>a0N x (by have:=iZ (w:=Node.wt) hx;omega))
theorem Wi(a b:ay):wH a b=some (decide (a=b)):=by
 unfold wH;exact SJ (c:=Node.c) (f:=vF) (fun k=>oU a b k) (fun _ _=>rfl) (fun _ _ _ _=>rfl) ZU
theorem XF(l:ay):QC (iK Node.iQ l) (tI l) tE:=by
 have key:∀(rest dn:ay) (v:Int),1<=v->v+(iK Node.iQ rest:Int)<=4611686018427387904->∃rest':ay,(∀k,iG k rest dn v=k (dn++rest') (v+(iK Node.iQ rest:Int)))/\∀a k i,iB a k rest' i v=k (v+(iK Node.iQ rest:Int)):=by
  intro rest
  induction rest with
  |nil=>intro dn v _ _;exact⟨[],fun k=>by simp[iG,iK],fun a k i=>by simp[iB,iK]⟩
  |cons x xs ih=>
   intro dn v h0 h1;rw[uz]at h1⊢;simp only[Node.iQ]at h1⊢;obtain⟨s3,e3⟩:=lP (v+1+1) (by omega) (by omega);obtain⟨l4,e4,f4⟩:=yt x.cond.pat.args (v+1+1+1) (by omega) (by omega);obtain⟨s5,e5⟩:=lP (v+1+1+1+(iK (fun _=>1) x.cond.pat.args:Int)) (by omega) (by omega);obtain⟨s6,e6⟩:=lP (v+1+1+1+(iK (fun _=>1) x.cond.pat.args:Int)+1) (by omega) (by omega);obtain⟨l8,e8,f8⟩:=VT x.tokens (v+1+1+1+(iK (fun _=>1) x.cond.pat.args:Int)+1+1+1) (by omega) (by omega);obtain⟨rest',p1,p2⟩:=ih (dn++[(⟨v,(⟨(v+1),(⟨s3,l4⟩:aE),s5,s6⟩:aQ),(v+1+1+1+(iK (fun _=>1) x.cond.pat.args:Int)+1+1),l8⟩:Node)]) (v+1+1+1+(iK (fun _=>1) x.cond.pat.args:Int)+1+1+1+(iK aI.iQ x.tokens:Int)) (by omega) (by omega);refine⟨(⟨v,(⟨(v+1),(⟨s3,l4⟩:aE),s5,s6⟩:aQ),(v+1+1+1+(iK (fun _=>1) x.cond.pat.args:Int)+1+1),l8⟩:Node)::rest',fun k=>?_,fun a k i=>?_⟩
   ·rw[iG];simp(disch:=omega) only[yT,aA,e3,e4,e5,e6,e8];rw[p1];simp only[bY,dM]
    congr 1
    omega
   ·have g0:decide ((v+1+1+1+(iK (fun _=>1) x.cond.pat.args:Int):Int)<0)=false:=b9 (by omega);have g1:decide ((v+1+1+1+(iK (fun _=>1) x.cond.pat.args:Int)+1+1+1+(iK aI.iQ x.tokens:Int):Int)<0)=false:=b9 (by omega);rw[iB];simp(disch:=omega) only[yT,aA,cw,bQ,aa,gK,e3,f4,e5,e6,f8,g0,g1];rw[p2]
    congr 1
    omega
 intro k h0 h1;obtain⟨l',p1,p2⟩:=key l [] k h0 h1;exact⟨l',by unfold tI;rw[p1];rfl,by unfold tE;rw[p2]⟩
def aF.wt(x:aF):Nat:=k8 aO.wt x.rules+k8 zw x.ends+k8 aP.wt x.av+k8 Node.wt x.nodes+k8 aE.wt x.facts
def aF.iQ(x:aF):Nat:=1+iK aO.iQ x.rules+iK (fun _=>1) x.ends+iK aP.iQ x.av+iK Node.iQ x.nodes+iK aE.iQ x.facts
theorem aF.mi(x:aF):x.iQ<=6+6*x.wt:=by
 unfold aF.iQ aF.wt;have h0:=pU aO.iQ aO.wt x.rules (fun y=>aO.mi y);have h1:=pU (fun _=>1) zw x.ends (fun y=>by omega);have h2:=pU aP.iQ aP.wt x.av (fun y=>aP.mi y);have h3:=pU Node.iQ Node.wt x.nodes (fun y=>Node.mi y);have h4:=pU aE.iQ aE.wt x.facts (fun y=>aE.mi y);omega
theorem U6(x:aF)(h:xq x.c)(v:Int)(h0:0<=v)(h1:v<=1048576):xN (tN x v) v (aF.wt x):=by
 unfold tN;refine xN.eq (n:=(k8 aO.wt x.rules+(k8 zw x.ends+(k8 aP.wt x.av+(k8 Node.wt x.nodes+(k8 aE.wt x.facts+0)))))) ?_ (by simp only[aF.wt];omega);refine(Xd x.rules (h (.sl (x.rules.map aO.c)) (by simp)) _ h0 h1).sub h1 h0 (m:=(k8 zw x.ends+(k8 aP.wt x.av+(k8 Node.wt x.nodes+(k8 aE.wt x.facts+0))))) fun r1 g1 l1=>?_
 refine(a0F x.ends (h (.sl (x.ends.map dL)) (by simp)) _ g1 l1).sub l1 g1 (m:=(k8 aP.wt x.av+(k8 Node.wt x.nodes+(k8 aE.wt x.facts+0)))) fun r2 g2 l2=>?_
 refine(Vp x.av (h (.sl (x.av.map aP.c)) (by simp)) _ g2 l2).sub l2 g2 (m:=(k8 Node.wt x.nodes+(k8 aE.wt x.facts+0))) fun r3 g3 l3=>?_
 refine(Xb x.nodes (h (.sl (x.nodes.map Node.c)) (by simp)) _ g3 l3).sub l3 g3 (m:=(k8 aE.wt x.facts+0)) fun r4 g4 l4=>?_
 refine(F0 x.facts (h (.sl (x.facts.map aE.c)) (by simp)) _ g4 l4).sub l4 g4 (m:=0) fun r5 g5 l5=>?_
 exact xN.fin
theorem UA(x:aF)(h:aF.wt x<=1048576):lC x=some x:=by
 unfold lC;simp only[Xm x.rules (by simp only[aF.wt]at h;omega),a0M x.ends (by simp only[aF.wt]at h;omega),Vs x.av (by simp only[aF.wt]at h;omega),Xk x.nodes (by simp only[aF.wt]at h;omega),F2 x.facts (by simp only[aF.wt]at h;omega),aA]
theorem TD(a b:aF):l6 a b=some (decide (a=b)):=by
 obtain⟨a0,a1,a2,a3,a4,a5⟩:=a;obtain⟨b0,b1,b2,b3,b4,b5⟩:=b;unfold l6;simp only[Uw,En,ZT,Wi,Wk,aA,fG,bne];by_cases h0:a0=b0<;>by_cases h1:a1=b1<;>by_cases h2:a2=b2<;>by_cases h3:a3=b3<;>by_cases h4:a4=b4<;>by_cases h5:a5=b5<;>simp[h0,h1,h2,h3,h4,h5]
def aF.Np(x:aF):Nat:=iK aO.iQ x.rules+iK (fun _=>1) x.ends+iK aP.iQ x.av+iK Node.iQ x.nodes+iK aE.iQ x.facts
theorem aF.Yf(x:aF):aF.Np x<=6*aF.wt x:=by
 unfold aF.Np aF.wt;have h0:=pU aO.iQ aO.wt x.rules (fun y=>aO.mi y);have h1:=pU (fun _=>1) zw x.ends (fun y=>by omega);have h2:=pU aP.iQ aP.wt x.av (fun y=>aP.mi y);have h3:=pU Node.iQ Node.wt x.nodes (fun y=>Node.mi y);have h4:=pU aE.iQ aE.wt x.facts (fun y=>aE.mi y);omega
theorem KO(x:aF)(k:Int)(h0:1<=k)(h1:k+(aF.Np x:Int)<=4611686018427387904):∃y:aF,kQ x k=some (y,k+(aF.Np x:Int))/\kP y k=some (k+(aF.Np x:Int))/\(⟨y.rules,y.ends,y.av,y.nodes,y.facts,x.bz⟩:aF)=y:=by
 unfold aF.Np at h1⊢;obtain⟨l1,e1,f1⟩:=XH x.rules k (by omega) (by omega);obtain⟨l2,e2,f2⟩:=Zs x.ends (k+(iK aO.iQ x.rules:Int)) (by omega) (by omega);obtain⟨l3,e3,f3⟩:=VS x.av (k+(iK aO.iQ x.rules:Int)+(iK (fun _=>1) x.ends:Int)) (by omega) (by omega);obtain⟨l4,e4,f4⟩:=XF x.nodes (k+(iK aO.iQ x.rules:Int)+(iK (fun _=>1) x.ends:Int)+(iK aP.iQ x.av:Int)) (by omega) (by omega);obtain⟨l5,e5,f5⟩:=Ev x.facts (k+(iK aO.iQ x.rules:Int)+(iK (fun _=>1) x.ends:Int)+(iK aP.iQ x.av:Int)+(iK Node.iQ x.nodes:Int)) (by omega) (by omega);refine⟨(⟨l1,l2,l3,l4,l5,x.bz⟩:aF),?_,?_,rfl⟩
 ·unfold kQ;simp only[aA,e1,e2,e3,e4,e5]
  all_goals(congr 2<;>omega)
 ·unfold kP;have g0:decide ((k+(iK aO.iQ x.rules:Int):Int)<0)=false:=b9 (by omega);have g1:decide ((k+(iK aO.iQ x.rules:Int)+(iK (fun _=>1) x.ends:Int):Int)<0)=false:=b9 (by omega);have g2:decide ((k+(iK aO.iQ x.rules:Int)+(iK (fun _=>1) x.ends:Int)+(iK aP.iQ x.av:Int):Int)<0)=false:=b9 (by omega);have g3:decide ((k+(iK aO.iQ x.rules:Int)+(iK (fun _=>1) x.ends:Int)+(iK aP.iQ x.av:Int)+(iK Node.iQ x.nodes:Int):Int)<0)=false:=b9 (by omega);have g4:decide ((k+(iK aO.iQ x.rules:Int)+(iK (fun _=>1) x.ends:Int)+(iK aP.iQ x.av:Int)+(iK Node.iQ x.nodes:Int)+(iK aE.iQ x.facts:Int):Int)<0)=false:=b9 (by omega);simp only[aA,aa,f1,f2,f3,f4,f5,g0,g1,g2,g3,g4]
  all_goals(congr 1<;>omega)
theorem Tg(x:aF):QC (aF.Np x) (kQ x) kP:=fun k h0 h1=>by
 obtain⟨y,a,b,_⟩:=KO x k h0 h1;exact⟨y,a,b⟩
end Go.Cx
namespace Go.Cx
open Go.RowKit Go.Proofs Go.Shelf Tryz
theorem Rd.wq{w:World}{v:Value}{s:Bytes}{bs:af}(h:Rd w v (.str s) bs):∃y:ByteArray,v=.string y/\y.data.toList=s/\y.size<=maxLen/\bs=[]:=by
 cases h with
 |str y hy=>exact⟨y,rfl,rfl,hy,rfl⟩
theorem mY.strs{w:World}{xs:aJ}:∀ {cs:br} {bs:af},mY w cs (xs.map D.str) bs->∃ys:List ByteArray,cs=ys.map Value.string/\ys.map (·.data.toList)=xs:=by
 induction xs with
 |nil=>intro cs bs h;cases h;exact⟨[],rfl,rfl⟩
 |cons x xs ih=>
  intro cs bs h;cases h with
  |cons v vs d ds b1 b2 h1 h2 h3=>
   obtain⟨y,e1,e2,_,_⟩:=h2.wq;obtain⟨ys,e3,e4⟩:=ih h3;exact⟨y::ys,by simp[e1,e3],by simp[e2,e4]⟩
theorem TE(xs:aJ):(xs.map tx).flatten=xs.map D.str:=by
 induction xs with
 |nil=>rfl
 |cons x xs ih=>simp[tx,ih]
theorem Calls.txt{P:Program}{f:FuncId}{args:Array Value}{w:World}{r:ByteArray}{Θ:Nat->Nat}(hr:r.size<=maxLen)
 (h:Calls P f args w fun e w'=>e=.returned (.string r)/\Below w.heap.size w w'):
 Calls P f args w (fun e w'=>∃v bs' ts us,e=.returned v/\Below w.heap.size w w'/\EE w' v (.str r.data.toList) bs' ts us/\(∀b∈bs',b<w.heap.size->Θ b=0)/\(∀b∈bs',b∉ts)/\us.Nodup/\
  (∀b∈us,w.heap.size<=b/\Wr w' b)/\∀b∈ts,b∈us):=
 h.mono fun e w' ⟨h1,h2⟩=>⟨_,[],[],[],h1,h2,.v (.cell (.pure (.str r hr))),by simp,by simp,by simp,by simp,by simp⟩
end Go.Cx
namespace Go.Cx
open Go.RowKit Go.Proofs Go.Shelf Go.Sort Tryz
theorem mY.a5Y{w:World}{xs:aJ}:∀ {cs:br} {bs:af},mY w cs (xs.map D.str) bs->∀x∈xs,x.length<=maxLen:=by
 induction xs with
 |nil=>intro cs bs h x hx;cases hx
 |cons x xs ih=>
  intro cs bs h y hy;cases h with
  |cons v vs d ds b1 b2 h1 h2 h3=>
   obtain⟨s,_,e2,e3,_⟩:=h2.wq;rcases bM.1 hy with rfl|hy
   ·rw[<-e2];exact e3
   ·exact ih h3 y hy
theorem mY.Yi{w:World}:∀ {xs:aJ},(∀x∈xs,x.length<=maxLen)->mY w (xs.map encStr) (xs.map D.str) []
 | [],_=>.nil
 |x::xs,h=>by
  have h1:Rd w (.string ⟨x.toArray⟩) (.str x) []:=by
   have:=Rd.str (w:=w) ⟨x.toArray⟩ (by have:=h x (by simp);simpa[ByteArray.size]using this);simpa using this
  exact .cons _ _ _ _ [] [] rfl h1 (mY.Yi fun y hy=>h y (by simp[hy]))
theorem V1(xs:aJ):(xs.map tx).flatten.all D.flat=true:=by
 rw[TE];simp[D.flat]
def oq(xs:aJ):aJ:=xs.mergeSort fun x y=>decide (x<=y)
theorem CF(xs:aJ):(oq xs).Perm xs:=List.mergeSort_perm _ _
theorem Qt{P:Program}{ρ:Ren}(L:Lays.n192 P ρ){e:TypeId}{xs:aJ}(hn:xs.length<4611686018427387904):US P (ρ.f 192) e 1 (xs.map tx) ((oq xs).map tx):=by
 refine⟨⟨_,L.f192,rfl,rfl⟩,?_⟩;intro w v cs hsz hrl hown hrd;rw[TE]at hrd;have hle:=hrd.a5Y;obtain⟨ys,rfl,hys⟩:=hrd.strs;have hlen:(oq xs).length=xs.length:=(CF xs).length_eq;have Pe:∀r∈(oq xs).map tx,r.length=1:=by
  intro r hr;obtain⟨x,_,rfl⟩:=cJ.1 hr;rfl
 rcases hown.2 with⟨rfl,h0⟩|⟨g,cap,cur,rfl,hb,TJ,hnc,hcm,hcs,VB⟩
 ·have hx:xs=[]:=by simpa using h0
  subst hx;refine(Any.sort_Strings_none L none 0 w).mono ?_;rintro e' w' ⟨rfl,rfl⟩;exact⟨rfl,rfl,rfl,rfl,bS _,fun _ _ _=>rfl,Pe,[],⟨by simp[hlen],.inl ⟨rfl,by simp[hlen]⟩⟩,by simpa[oq]using mY.nil⟩
 ·rw[aZ]at hnc VB⊢;rw[Nat.mul_one]at VB hcs;have hyl:ys.length=xs.length:=by rw[<-hys];simp
  have Qh:∀j,j<xs.length->cur[j]?=some (encStr xs.toArray[j]!):=by
   intro j hj;have h1:(cur.toList.take xs.length)[j]?=cur[j]?:=by rw[Cq hj];simp
   rw[<-h1,VB,cA];have hj':j<ys.length:=by omega
   rw[ai hj'];have:xs[j]?=some ys[j].data.toList:=by rw[<-hys,cA,ai hj'];rfl
   have hx:xs.toArray[j]! =ys[j].data.toList:=by
    rw[getElem!_pos _ _ (by simpa using hj)];rw[ai hj]at this;simpa using this
   rw[hx];simp[encStr]
  have hH:Holds encStr w g 0 xs.toArray:=by
   intro j hj;have hj:j<xs.length:=by simpa using hj
   refine⟨?_,?_⟩
   ·rw[<-Qh j hj];simp[World.cell?,TJ]
   ·simp[World.frozen?,TJ]
  have hblk:g<w.heap.size:=(bL.1 TJ).1;refine(Any.sort_Strings L g 0 cap xs w hH hblk hn).mono ?_;rintro e' w' ⟨rfl,n,os,rfl⟩;have hheap:(grow (putRow encStr (Sort.ahead w n) g 0 (oq xs).toArray) os).heap=(w.heap.modify g (onCells (putCells encStr 0 (oq xs).toArray)))++os:=rfl;have Qf:∀b,b<w.heap.size->b≠g->(grow (putRow encStr (Sort.ahead w n) g 0 (oq xs).toArray) os).heap[b]?=w.heap[b]?:=by
   intro b hb hne;rw[hheap,gA (by simpa using hb),yy,bG (fun e=>hne e.symm)]
  have hrow:(grow (putRow encStr (Sort.ahead w n) g 0 (oq xs).toArray) os).heap[g]?=some (.cells (putCells encStr 0 (oq xs).toArray cur) e (0,0)):=by
   rw[hheap,gA (by simpa using hblk),yy,bR rfl,TJ];rfl
  refine⟨rfl,rfl,rfl,rfl,by show w.heap.size<=(grow (putRow encStr (Sort.ahead w n) g 0 (oq xs).toArray) os).heap.size;rw[hheap];simp,fun b hb hne=>Qf b hb fun e=>hne (by rw[e];rfl),Pe,(oq xs).map encStr,⟨by simp,.inr ⟨g,cap,_,by simp[hlen],hb,hrow,by simpa[hlen]using hnc,hcm,by simp[putCells,hcs],?_⟩⟩,?_⟩
  ·apply oI;intro j;simp only[aZ,Nat.mul_one];by_cases hj:j<(oq xs).length
   ·have hj2:j<cur.size:=by omega
    rw[Cq hj,cA,ai hj];simp[putCells,hj2,hj]
   ·rw[ck (by simp;omega),ck (by simp;omega)]
  ·rw[TE];exact mY.Yi fun x hx=>hle x ((CF xs).mem_iff.1 hx)
end Go.Cx
namespace Go.Cx
open Go.RowKit Go.Proofs Go.Shelf Go.Lib Tryz
theorem a2F(n:Int)(h:th .i64 n):(itoa n).length<=20:=by
 have h1: -9223372036854775808<=n:=h.1;have h2:n<=9223372036854775807:=h.2;have key:∀u:Nat,u<=9223372036854775808->nDigits u<=19:=by
  intro u hu;by_cases h0:u=0
  ·subst h0;rw[nDigits_small (by omega)];omega
  ·by_cases hk:nDigits u<=19
   ·exact hk
   ·exfalso;have a7z:∀(k v:Nat),v<10^k->1<=k->nDigits v<=k:=by
     intro k
     induction k with
     |zero=>intro v _ h;omega
     |succ k ih=>
      intro v hv _;by_cases h10:v<10
      ·rw[nDigits_small h10];omega
      ·rw[nDigits_big h10];have h3:v/10<10^k:=by rw[yZ]at hv;omega
       have hk1:1<=k:=by
        cases k with
        |zero=>simp at hv;omega
        |succ k=>omega
       have:=ih (v/10) h3 hk1;omega
    have:=a7z 19 u (by omega) (by omega);omega
 unfold itoa;split
 ·rw[aM,decDigits_length];have:=key n.natAbs (by omega);omega
 ·rw[decDigits_length];have:=key n.toNat (by omega);omega
theorem Uj(w:World)(k:Nat)(os:Array Obj):Below w.heap.size w (Sort.grow (w.drewN k) os):=
 ⟨rfl,rfl,rfl,by show w.heap.size<=(w.heap++os).size;simp,fun b hb=>by show(w.heap++os)[b]?=_;rw[gA hb]⟩
theorem VM{P:Program}{ρ:Ren}(L:LaysM.n171 P ρ){g:Nat}(hg:P.globalNamed "internal/strconv.uint64pow10" =some g)(hx:(g,fun cs:br=>cs=pow10Tab.map fun z=>Value.int .u64 z)∈AS){n:Int}:
 Good P (ρ.f 171) [.int .i64 n] (.str (itoa n)):=by
 refine⟨⟨_,L.f171,rfl,rfl⟩,?_⟩;intro w Θ args bs hv ha _ _ _;obtain _|⟨v1,_,_,_,b1,_,h1,ha⟩:=ha;cases ha;cases h1 with
 |int _ _ hr=>
  have h0: -9223372036854775808<=n:=hr.1;have h1:n<=9223372036854775807:=hr.2;have hl:=a2F n hr;have ht:TabIs P w "internal/strconv.uint64pow10" .u64 pow10Tab:=by
   obtain⟨cs,h2,h3⟩:=hv.var hx hg;have h4:cs=(pow10Tab.map fun z=>Value.int .u64 z).toArray:=by rw[<-h3]
   rw[h4]at h2;exact h2
  have:=Calls.txt (Θ:=Θ) (r:=⟨(itoa n).toArray⟩) (by show(itoa n).toArray.size<=maxLen;rw[CZ];unfold maxLen;omega)
   ((Any.strconv_Itoa L n h0 h1 w ht).mono fun e w' ⟨k1,k,os,k2⟩=>⟨k1,by subst k2;exact Uj w k os⟩)
  simpa using this
end Go.Cx
namespace Go.Cx
open Go.RowKit Go.Proofs Go.Shelf Go.Lib Tryz
theorem Ui(w:World)(t5:TypeId)(t:ByteArray):Below w.heap.size w (Lib.bytesWorld w t5 t):=Lib.bytesWorld_below _ _ _
def TX(s:Bytes):Option (Int×Bool):=if s.length<=18 then(match Lib.atoi s with|some n=>some (n,false)|none=>some (0,true))else none
theorem VL{P:Program}{ρ:Ren}(L:LaysC.n172 P ρ){g:Nat}(hg:P.globalNamed "strconv.ErrSyntax" =some g)(hx:(g,fun cs:br=>∃tp p,cs=[Value.iface tp p])∈AS){s:Bytes}{r:Int×Bool}(h:TX s=some r):
 Good P (ρ.f 172) [.str s] (.gN [.int .i64 r.1,.ifc r.2]):=by
 refine⟨⟨_,L.f172,rfl,rfl⟩,?_⟩;intro w Θ args bs hv ha _ _ _;obtain _|⟨v1,_,_,_,b1,_,h1,ha⟩:=ha;cases ha;obtain⟨y,rfl,rfl,_,_⟩:=h1.wq;unfold TX at h;split at h
 ·rename_i hl;have hl':y.size<=18:=by simpa using hl
  split at h
  ·rename_i n hn;cases h;have hb:=Lib.atoi_bound hn hl;refine(Any.strconv_Atoi L.toM.ton172 y n hl' hn w).mono ?_;rintro e w' ⟨rfl,t,rfl⟩;exact⟨_,[],[],[],rfl,Ui _ _ _,.gN [.int .i64 n,.nilIface] [.int .i64 n,.ifc false] [] [] [] (.cons _ _ _ _ [] [] [] [] [] [] (.cell (.pure (.int _ _ (th.i64.2 (by omega))))) (.cons _ _ _ _ [] [] [] [] [] [] (.cell (.pure .Zg)) .nil)),by simp,by simp,by simp,by simp,by simp⟩
  ·rename_i hn;cases h;obtain⟨cs,h2,tp,p,h3⟩:=hv.var hx hg;have h4:cs= #[.iface tp p]:=by rw[<-wh,h3]
   rw[h4]at h2;refine(Any.strconv_Atoi_err_var L y hl' hn tp p w h2).mono ?_;rintro e w' ⟨N,rfl,_,_,hbl⟩;exact⟨_,[],[],[],rfl,hbl,.gN [.int .i64 0,.iface _ _] [.int .i64 0,.ifc true] [] [] [] (.cons _ _ _ _ [] [] [] [] [] [] (.cell (.pure (.int _ _ (th.zero _)))) (.cons _ _ _ _ [] [] [] [] [] [] (.cell (.pure (.Zh _ _))) .nil)),by simp,by simp,by simp,by simp,by simp⟩
 ·cases h
theorem YE:∀(a b:Bytes), -1<=Lib.compareBytes a b/\Lib.compareBytes a b<=1
 | [],[]=>by simp[Lib.compareBytes]
 | [],_::_=>by simp[Lib.compareBytes]
 |_::_,[]=>by simp[Lib.compareBytes]
 |a::xs,b::ys=>by
  simp only[Lib.compareBytes];split
  ·omega
  ·split
   ·omega
   ·exact YE xs ys
theorem Qs{P:Program}{ρ:Ren}(L:Lays.n106 P ρ){a b:Bytes}:Good P (ρ.f 106) [.str a,.str b] (.int .i64 (Lib.compareBytes a b)):=by
 refine⟨⟨_,L.f106,rfl,rfl⟩,?_⟩;intro w Θ args bs hv ha _ _ _;obtain _|⟨v1,_,_,_,b1,_,h1,ha⟩:=ha;obtain _|⟨v2,_,_,_,b2,_,h2,ha⟩:=ha;cases ha;obtain⟨y,rfl,rfl,_,_⟩:=h1.wq;obtain⟨z,rfl,rfl,_,_⟩:=h2.wq;have hc:=YE y.data.toList z.data.toList;refine(Any.strings_Compare L y z w).mono ?_;rintro e w' ⟨rfl,rfl⟩;exact⟨_,[],[],[],rfl,Below.refl _ _,.v (.cell (.pure (.int _ _ (th.i64.2 (by omega))))),by simp,by simp,by simp,by simp,by simp⟩
end Go.Cx
namespace Go.Cx
open Go.RowKit Go.Proofs Go.Shelf Tryz
def VO:Ren:=⟨fun|192=>266|190=>278|125=>288|258=>287|128=>301|129=>302|302=>292|303=>293|304=>294|305=>295|306=>296|307=>297|308=>298|309=>299|310=>300|333=>312|329=>313|330=>314|334=>315|335=>316|336=>317|344=>325|n=>n,fun|31=>46|0=>0|9=>9|3=>3|46=>254|51=>266|53=>268|4=>4|183=>259|182=>258|131=>237|5=>5|218=>279|222=>283|228=>296|229=>186|n=>n,fun|n=>n⟩
theorem a54:Lays.n192 prog VO:= {
 mixed:=by kernel_rfl,
 f125:=func288.trans (congrArg some (by kernel_rfl)),
 f128:=func301.trans (congrArg some (by kernel_rfl)),
 f129:=func302.trans (congrArg some (by kernel_rfl)),
 f190:=func278.trans (congrArg some (by kernel_rfl)),
 f192:=func266.trans (congrArg some (by kernel_rfl)),
 f258:=func287.trans (congrArg some (by kernel_rfl)),
 f302:=func292.trans (congrArg some (by kernel_rfl)),
 f303:=func293.trans (congrArg some (by kernel_rfl)),
 f304:=func294.trans (congrArg some (by kernel_rfl)),
 f305:=func295.trans (congrArg some (by kernel_rfl)),
 f306:=func296.trans (congrArg some (by kernel_rfl)),
 f307:=func297.trans (congrArg some (by kernel_rfl)),
 f308:=func298.trans (congrArg some (by kernel_rfl)),
 f309:=func299.trans (congrArg some (by kernel_rfl)),
 f310:=func300.trans (congrArg some (by kernel_rfl)),
 f329:=func313.trans (congrArg some (by kernel_rfl)),
 f330:=func314.trans (congrArg some (by kernel_rfl)),
 f333:=func312.trans (congrArg some (by kernel_rfl)),
 f334:=func315.trans (congrArg some (by kernel_rfl)),
 f335:=func316.trans (congrArg some (by kernel_rfl)),
 f336:=func317.trans (congrArg some (by kernel_rfl)),
 f344:=func325.trans (congrArg some (by kernel_rfl)),
 t0:=underlying0,
 a0:=Tryz.isAgg0,
 z0:=Tryz.sizeOf0,
 v0:=Tryz.zeroValue0,
 t3:=underlying3,
 a3:=Tryz.isAgg3,
 z3:=Tryz.sizeOf3,
 v3:=Tryz.zeroValue3,
 t4:=underlying4,
 a4:=Tryz.isAgg4,
 z4:=Tryz.sizeOf4,
 v4:=Tryz.zeroValue4,
 t5:=underlying5,
 a5:=Tryz.isAgg5,
 z5:=Tryz.sizeOf5,
 v5:=Tryz.zeroValue5,
 t9:=underlying9,
 a9:=Tryz.isAgg9,
 z9:=Tryz.sizeOf9,
 v9:=Tryz.zeroValue9,
 t31:=underlying46,
 a31:=Tryz.isAgg46,
 z31:=Tryz.sizeOf46,
 v31:=Tryz.zeroValue46,
 t46:=underlying254,
 a46:=Tryz.isAgg254,
 z46:=Tryz.sizeOf254,
 v46:=Tryz.zeroValue254,
 t51:=underlying266,
 a51:=Tryz.isAgg266,
 z51:=Tryz.sizeOf266,
 v51:=Tryz.zeroValue266,
 t53:=underlying268,
 a53:=Tryz.isAgg268,
 z53:=Tryz.sizeOf268,
 v53:=Tryz.zeroValue268,
 t131:=underlying237,
 a131:=Tryz.isAgg237,
 z131:=Tryz.sizeOf237,
 v131:=Tryz.zeroValue237,
 t182:=underlying258,
 a182:=Tryz.isAgg258,
 z182:=Tryz.sizeOf258,
 v182:=Tryz.zeroValue258,
 t183:=underlying259,
 a183:=Tryz.isAgg259,
 z183:=Tryz.sizeOf259,
 v183:=Tryz.zeroValue259,
 t218:=underlying279,
 a218:=Tryz.isAgg279,
 z218:=Tryz.sizeOf279,
 v218:=Tryz.zeroValue279,
 t222:=underlying283,
 a222:=Tryz.isAgg283,
 z222:=Tryz.sizeOf283,
 v222:=Tryz.zeroValue283,
 t228:=underlying296,
 a228:=Tryz.isAgg296,
 z228:=Tryz.sizeOf296,
 v228:=Tryz.zeroValue296,
 t229:=underlying186,
 a229:=Tryz.isAgg186,
 z229:=Tryz.sizeOf186,
 v229:=Tryz.zeroValue186}
theorem Je{e:TypeId}{xs:aJ}(hn:xs.length<4611686018427387904):US prog 266 e 1 (xs.map tx) ((oq xs).map tx):=Qt a54 hn
def PD:Ren:=⟨fun|171=>274|243=>285|246=>291|283=>308|284=>309|285=>310|286=>311|129=>302|317=>321|318=>322|319=>323|320=>324|337=>328|338=>329|n=>n,fun|3=>3|9=>9|2=>2|4=>4|171=>275|0=>0|53=>268|37=>150|5=>5|173=>277|212=>293|51=>266|20=>20|213=>294|46=>254|232=>303|233=>304|n=>n,fun|17=>3|18=>4|19=>5|n=>n⟩
theorem a50:Lays.n171 prog PD:= {
 mixed:=by kernel_rfl,
 f129:=func302.trans (congrArg some (by kernel_rfl)),
 f171:=func274.trans (congrArg some (by kernel_rfl)),
 f243:=func285.trans (congrArg some (by kernel_rfl)),
 f246:=func291.trans (congrArg some (by kernel_rfl)),
 f283:=func308.trans (congrArg some (by kernel_rfl)),
 f284:=func309.trans (congrArg some (by kernel_rfl)),
 f285:=func310.trans (congrArg some (by kernel_rfl)),
 f286:=func311.trans (congrArg some (by kernel_rfl)),
 f317:=func321.trans (congrArg some (by kernel_rfl)),
 f318:=func322.trans (congrArg some (by kernel_rfl)),
 f319:=func323.trans (congrArg some (by kernel_rfl)),
 f320:=func324.trans (congrArg some (by kernel_rfl)),
 f337:=func328.trans (congrArg some (by kernel_rfl)),
 f338:=func329.trans (congrArg some (by kernel_rfl)),
 t0:=underlying0,
 a0:=Tryz.isAgg0,
 z0:=Tryz.sizeOf0,
 v0:=Tryz.zeroValue0,
 t2:=underlying2,
 a2:=Tryz.isAgg2,
 z2:=Tryz.sizeOf2,
 v2:=Tryz.zeroValue2,
 t3:=underlying3,
 a3:=Tryz.isAgg3,
 z3:=Tryz.sizeOf3,
 v3:=Tryz.zeroValue3,
 t4:=underlying4,
 a4:=Tryz.isAgg4,
 z4:=Tryz.sizeOf4,
 v4:=Tryz.zeroValue4,
 t5:=underlying5,
 a5:=Tryz.isAgg5,
 z5:=Tryz.sizeOf5,
 v5:=Tryz.zeroValue5,
 t9:=underlying9,
 a9:=Tryz.isAgg9,
 z9:=Tryz.sizeOf9,
 v9:=Tryz.zeroValue9,
 t20:=underlying20,
 a20:=Tryz.isAgg20,
 z20:=Tryz.sizeOf20,
 v20:=Tryz.zeroValue20,
 t37:=underlying150,
 a37:=Tryz.isAgg150,
 z37:=Tryz.sizeOf150,
 v37:=Tryz.zeroValue150,
 t46:=underlying254,
 a46:=Tryz.isAgg254,
 z46:=Tryz.sizeOf254,
 v46:=Tryz.zeroValue254,
 t51:=underlying266,
 a51:=Tryz.isAgg266,
 z51:=Tryz.sizeOf266,
 v51:=Tryz.zeroValue266,
 t53:=underlying268,
 a53:=Tryz.isAgg268,
 z53:=Tryz.sizeOf268,
 v53:=Tryz.zeroValue268,
 t171:=underlying275,
 a171:=Tryz.isAgg275,
 z171:=Tryz.sizeOf275,
 v171:=Tryz.zeroValue275,
 t173:=underlying277,
 a173:=Tryz.isAgg277,
 z173:=Tryz.sizeOf277,
 v173:=Tryz.zeroValue277,
 t212:=underlying293,
 a212:=Tryz.isAgg293,
 z212:=Tryz.sizeOf293,
 v212:=Tryz.zeroValue293,
 t213:=underlying294,
 a213:=Tryz.isAgg294,
 z213:=Tryz.sizeOf294,
 t232:=underlying303,
 a232:=Tryz.isAgg303,
 z232:=Tryz.sizeOf303,
 v232:=Tryz.zeroValue303,
 t233:=underlying304,
 a233:=Tryz.isAgg304,
 z233:=Tryz.sizeOf304,
 v233:=Tryz.zeroValue304,
 g17:=by kernel_rfl,
 g18:=by kernel_rfl,
 g19:=by kernel_rfl}
theorem a2L:LaysM.n171 prog PD:= {a50 with
 i0:=by kernel_rfl,
 i2:=by kernel_rfl,
 i3:=by kernel_rfl,
 i4:=by kernel_rfl,
 i5:=by kernel_rfl,
 i9:=by kernel_rfl,
 i20:=by kernel_rfl,
 i37:=by kernel_rfl,
 i46:=by kernel_rfl,
 i51:=by kernel_rfl,
 i53:=by kernel_rfl,
 i171:=by kernel_rfl,
 i173:=by kernel_rfl,
 i212:=by kernel_rfl,
 i232:=by kernel_rfl,
 i233:=by kernel_rfl,
 m17:=by kernel_rfl,
 m18:=by kernel_rfl,
 m19:=by kernel_rfl}
def C6(aB:Int):Option Bytes:=(fun n:Int=>some (Lib.itoa n)) aB
theorem K8{aB:Int}{r:Bytes}(h:C6 aB=some r):Good prog 274 [.int .i64 aB] (.str r):=by cases h;exact VM a2L (g:=3) (by kernel_rfl) (aC (i:=0) (by kernel_rfl))
def I5:Ren:=⟨fun|172=>280|244=>289|245=>290|247=>303|279=>304|280=>305|281=>306|282=>307|287=>318|316=>319|171=>274|205=>320|321=>326|322=>327|243=>285|246=>291|283=>308|284=>309|285=>310|286=>311|129=>302|317=>321|318=>322|319=>323|320=>324|337=>328|338=>329|n=>n,fun|9=>9|3=>3|75=>245|76=>246|4=>4|5=>5|167=>269|37=>150|0=>0|85=>270|2=>2|168=>272|53=>268|175=>285|46=>254|210=>289|127=>299|145=>302|143=>300|21=>21|171=>275|173=>277|212=>293|51=>266|20=>20|213=>294|232=>303|233=>304|80=>305|n=>n,fun|15=>1|16=>2|17=>3|18=>4|19=>5|n=>n⟩
theorem a52:Lays.n172 prog I5:= {
 mixed:=by kernel_rfl,
 f129:=func302.trans (congrArg some (by kernel_rfl)),
 f171:=func274.trans (congrArg some (by kernel_rfl)),
 f172:=func280.trans (congrArg some (by kernel_rfl)),
 f205:=func320.trans (congrArg some (by kernel_rfl)),
 f243:=func285.trans (congrArg some (by kernel_rfl)),
 f244:=func289.trans (congrArg some (by kernel_rfl)),
 f245:=func290.trans (congrArg some (by kernel_rfl)),
 f246:=func291.trans (congrArg some (by kernel_rfl)),
 f247:=func303.trans (congrArg some (by kernel_rfl)),
 f279:=func304.trans (congrArg some (by kernel_rfl)),
 f280:=func305.trans (congrArg some (by kernel_rfl)),
 f281:=func306.trans (congrArg some (by kernel_rfl)),
 f282:=func307.trans (congrArg some (by kernel_rfl)),
 f283:=func308.trans (congrArg some (by kernel_rfl)),
 f284:=func309.trans (congrArg some (by kernel_rfl)),
 f285:=func310.trans (congrArg some (by kernel_rfl)),
 f286:=func311.trans (congrArg some (by kernel_rfl)),
 f287:=func318.trans (congrArg some (by kernel_rfl)),
 f316:=func319.trans (congrArg some (by kernel_rfl)),
 f317:=func321.trans (congrArg some (by kernel_rfl)),
 f318:=func322.trans (congrArg some (by kernel_rfl)),
 f319:=func323.trans (congrArg some (by kernel_rfl)),
 f320:=func324.trans (congrArg some (by kernel_rfl)),
 f321:=func326.trans (congrArg some (by kernel_rfl)),
 f322:=func327.trans (congrArg some (by kernel_rfl)),
 f337:=func328.trans (congrArg some (by kernel_rfl)),
 f338:=func329.trans (congrArg some (by kernel_rfl)),
 t0:=underlying0,
 a0:=Tryz.isAgg0,
 z0:=Tryz.sizeOf0,
 v0:=Tryz.zeroValue0,
 t2:=underlying2,
 a2:=Tryz.isAgg2,
 z2:=Tryz.sizeOf2,
 v2:=Tryz.zeroValue2,
 t3:=underlying3,
 a3:=Tryz.isAgg3,
 z3:=Tryz.sizeOf3,
 v3:=Tryz.zeroValue3,
 t4:=underlying4,
 a4:=Tryz.isAgg4,
 z4:=Tryz.sizeOf4,
 v4:=Tryz.zeroValue4,
 t5:=underlying5,
 a5:=Tryz.isAgg5,
 z5:=Tryz.sizeOf5,
 v5:=Tryz.zeroValue5,
 t9:=underlying9,
 a9:=Tryz.isAgg9,
 z9:=Tryz.sizeOf9,
 v9:=Tryz.zeroValue9,
 t20:=underlying20,
 a20:=Tryz.isAgg20,
 z20:=Tryz.sizeOf20,
 v20:=Tryz.zeroValue20,
 t21:=underlying21,
 a21:=Tryz.isAgg21,
 z21:=Tryz.sizeOf21,
 v21:=Tryz.zeroValue21,
 t37:=underlying150,
 a37:=Tryz.isAgg150,
 z37:=Tryz.sizeOf150,
 v37:=Tryz.zeroValue150,
 t46:=underlying254,
 a46:=Tryz.isAgg254,
 z46:=Tryz.sizeOf254,
 v46:=Tryz.zeroValue254,
 t51:=underlying266,
 a51:=Tryz.isAgg266,
 z51:=Tryz.sizeOf266,
 v51:=Tryz.zeroValue266,
 t53:=underlying268,
 a53:=Tryz.isAgg268,
 z53:=Tryz.sizeOf268,
 v53:=Tryz.zeroValue268,
 t75:=underlying245,
 a75:=Tryz.isAgg245,
 z75:=Tryz.sizeOf245,
 v75:=Tryz.zeroValue245,
 t76:=underlying246,
 a76:=Tryz.isAgg246,
 z76:=Tryz.sizeOf246,
 v76:=Tryz.zeroValue246,
 t85:=underlying270,
 a85:=Tryz.isAgg270,
 z85:=Tryz.sizeOf270,
 v85:=Tryz.zeroValue270,
 t127:=underlying299,
 a127:=Tryz.isAgg299,
 z127:=Tryz.sizeOf299,
 v127:=Tryz.zeroValue299,
 t143:=underlying300,
 a143:=Tryz.isAgg300,
 z143:=Tryz.sizeOf300,
 v143:=Tryz.zeroValue300,
 t145:=underlying302,
 a145:=Tryz.isAgg302,
 z145:=Tryz.sizeOf302,
 v145:=Tryz.zeroValue302,
 t167:=underlying269,
 a167:=Tryz.isAgg269,
 z167:=Tryz.sizeOf269,
 v167:=Tryz.zeroValue269,
 t168:=underlying272,
 a168:=Tryz.isAgg272,
 z168:=Tryz.sizeOf272,
 v168:=Tryz.zeroValue272,
 t171:=underlying275,
 a171:=Tryz.isAgg275,
 z171:=Tryz.sizeOf275,
 v171:=Tryz.zeroValue275,
 t173:=underlying277,
 a173:=Tryz.isAgg277,
 z173:=Tryz.sizeOf277,
 v173:=Tryz.zeroValue277,
 t175:=underlying285,
 a175:=Tryz.isAgg285,
 z175:=Tryz.sizeOf285,
 v175:=Tryz.zeroValue285,
 t210:=underlying289,
 a210:=Tryz.isAgg289,
 z210:=Tryz.sizeOf289,
 v210:=Tryz.zeroValue289,
 t212:=underlying293,
 a212:=Tryz.isAgg293,
 z212:=Tryz.sizeOf293,
 v212:=Tryz.zeroValue293,
 t213:=underlying294,
 a213:=Tryz.isAgg294,
 z213:=Tryz.sizeOf294,
 t232:=underlying303,
 a232:=Tryz.isAgg303,
 z232:=Tryz.sizeOf303,
 v232:=Tryz.zeroValue303,
 t233:=underlying304,
 a233:=Tryz.isAgg304,
 z233:=Tryz.sizeOf304,
 v233:=Tryz.zeroValue304,
 g15:=by kernel_rfl,
 g16:=by kernel_rfl,
 g17:=by kernel_rfl,
 g18:=by kernel_rfl,
 g19:=by kernel_rfl}
theorem a2M:LaysM.n172 prog I5:= {a52 with
 t80:=underlying305,
 a80:=Tryz.isAgg305,
 z80:=Tryz.sizeOf305,
 v80:=Tryz.zeroValue305,
 i0:=by kernel_rfl,
 i2:=by kernel_rfl,
 i3:=by kernel_rfl,
 i4:=by kernel_rfl,
 i5:=by kernel_rfl,
 i9:=by kernel_rfl,
 i20:=by kernel_rfl,
 i21:=by kernel_rfl,
 i37:=by kernel_rfl,
 i46:=by kernel_rfl,
 i51:=by kernel_rfl,
 i53:=by kernel_rfl,
 i75:=by kernel_rfl,
 i76:=by kernel_rfl,
 i80:=by kernel_rfl,
 i85:=by kernel_rfl,
 i127:=by kernel_rfl,
 i143:=by kernel_rfl,
 i145:=by kernel_rfl,
 i167:=by kernel_rfl,
 i168:=by kernel_rfl,
 i171:=by kernel_rfl,
 i173:=by kernel_rfl,
 i175:=by kernel_rfl,
 i210:=by kernel_rfl,
 i212:=by kernel_rfl,
 i232:=by kernel_rfl,
 i233:=by kernel_rfl,
 m15:=by kernel_rfl,
 m16:=by kernel_rfl,
 m17:=by kernel_rfl,
 m18:=by kernel_rfl,
 m19:=by kernel_rfl}
theorem a2K:LaysC.n172 prog I5:= {a2M with
 c0:=by kernel_rfl,
 c2:=by kernel_rfl,
 c3:=by kernel_rfl,
 c4:=by kernel_rfl,
 c5:=by kernel_rfl,
 c9:=by kernel_rfl,
 c20:=by kernel_rfl,
 c21:=by kernel_rfl,
 c37:=by kernel_rfl,
 c46:=by kernel_rfl,
 c51:=by kernel_rfl,
 c53:=by kernel_rfl,
 c75:=by kernel_rfl,
 c76:=by kernel_rfl,
 c80:=by kernel_rfl,
 c85:=by kernel_rfl,
 c127:=by kernel_rfl,
 c143:=by kernel_rfl,
 c145:=by kernel_rfl,
 c167:=by kernel_rfl,
 c168:=by kernel_rfl,
 c171:=by kernel_rfl,
 c173:=by kernel_rfl,
 c175:=by kernel_rfl,
 c210:=by kernel_rfl,
 c212:=by kernel_rfl,
 c213:=by kernel_rfl,
 c232:=by kernel_rfl,
 c233:=by kernel_rfl}
def C5(aB:Bytes):Option (Int×Bool):=TX aB
theorem K7{aB:Bytes}{r:Int×Bool}(h:C5 aB=some r):Good prog 280 [.str aB] (.gN [.int .i64 r.1,.ifc r.2]):=VL a2K (g:=1) (by kernel_rfl) (aC (i:=1) (by kernel_rfl)) h
def VN:Ren:=⟨fun|106=>220|213=>267|265=>279|n=>n,fun|9=>9|3=>3|n=>n,fun|n=>n⟩
theorem a4z:Lays.n106 prog VN:= {
 mixed:=by kernel_rfl,
 f106:=func220.trans (congrArg some (by kernel_rfl)),
 f213:=func267.trans (congrArg some (by kernel_rfl)),
 f265:=func279.trans (congrArg some (by kernel_rfl)),
 t3:=underlying3,
 a3:=Tryz.isAgg3,
 z3:=Tryz.sizeOf3,
 v3:=Tryz.zeroValue3,
 t9:=underlying9,
 a9:=Tryz.isAgg9,
 z9:=Tryz.sizeOf9,
 v9:=Tryz.zeroValue9}
def rT(aB:Bytes)(aV:Bytes):Option Int:=(fun a b:Bytes=>some (Lib.compareBytes a b)) aB aV
theorem uH{aB:Bytes}{aV:Bytes}{r:Int}(h:rT aB aV=some r):Good prog 220 [.str aB,.str aV] (.int .i64 r):=by cases h;exact Qs a4z
end Go.Cx
