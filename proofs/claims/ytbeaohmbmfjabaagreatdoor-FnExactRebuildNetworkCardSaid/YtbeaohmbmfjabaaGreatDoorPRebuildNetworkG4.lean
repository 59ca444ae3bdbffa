/- What functions of the program compute, and the walks that show it. No condition. -/
import Derived.Test.YtbeaohmbmfjabaaGreatDoorPRebuildNetworkG3
import Derived.Shelf.Strings.OnBuilder
import Derived.Test.YtbeaohmbmfjabaaGreatDoorPRebuildNetworkG2
import Derived.Shelf.Sort.Plain
import Derived.Shelf.Slices.In.SortNone2
import Derived.Shelf.Strconv.Itoa3
import Derived.WalkSmall
import Derived.Shelf.Strconv.Atoi
import Derived.Shelf.Strconv.ErrVar
import Derived.Shelf.Small.Strs
import Derived.Lib.AtoiBound
set_option linter.unusedVariables false
set_option linter.unusedSimpArgs false
namespace Go.Cx
open Go.RowKit Go.Proofs Tryz
set_option maxRecDepth 100000
variable{Γ:w5}{N:Nat->St->Prop}
def fT(k1:Bytes->Option Bytes):Nat->Int->Bytes->Option Bytes
 |0,_,_=>none
 |n1+1,xV,nv=>(bif decide ((xV:Int)>0)then(bif decide (0<=(xV:Int))&&decide (0<(10:Int))then(bif decide (([UInt8.ofNat (IntKind.u8.wrap (IntKind.i64.wrap (48+((xV:Int)%10)))).toNat]:Bytes).length+(nv:Bytes).length<=maxLen)then(bif decide (0<=(xV:Int))&&decide (0<(10:Int))then(fT k1 n1 ((xV:Int)/10) (([UInt8.ofNat (IntKind.u8.wrap (IntKind.i64.wrap (48+((xV:Int)%10)))).toNat])++nv))else none)else none)else none)else(k1 nv))
def cC(aB:Int):Option Bytes:=(bif decide ((aB:Int)<=0)then(some ([109,48]))else(fT (fun(S7:Bytes)=>(bif decide (([109]:Bytes).length+(S7:Bytes).length<=maxLen)then(some (([109])++S7))else none)) fuel aB ([])))
def LI(xV:Int)(nv:Bytes):St:=⟨[(0,D.int .i64 xV),(3,D.str nv)],[]⟩
theorem JM(hΓ:Γ.nt=20){r:Bytes}{k1:Bytes->Option Bytes}(cX:∀(S7:Bytes),k1 S7=some r->Ax Γ N f61 (.q [[none]] (D.str r)) [1,1,1,1] ⟨[(3,D.str S7)],[]⟩):∀(n1:Nat) (xV:Int) (nv:Bytes),fT k1 n1 xV nv=some r->Ar Γ N f61 (.q [[none]] (D.str r)) [1,1,1,0,0] n1 (LI xV nv):=by
 intro n
 induction n with
 |zero=>intro xV nv h;simp[fT]at h
 |succ n1 ih1=>
  intro xV nv h;rw[fT]at h;refine aO fun N1 bz bg=>?_
  obtain⟨h10,h⟩|⟨h10,h⟩:=aM h
  ·obtain⟨h11,h⟩:=bV h;obtain⟨h12,h⟩:=bV h;obtain⟨h13,h⟩:=bV h;exact(((((aU.b h10).w (Ty .i64 h11)).w (bt h12)).w (Ty .i64 h13)).a [.cn [0,3] []]).cf hΓ bg (ih1 ((xV:Int)/10) (([UInt8.ofNat (IntKind.u8.wrap (IntKind.i64.wrap (48+((xV:Int)%10)))).toNat])++nv) h)
  ·exact((aU.b h10).a [.hl 0 [3] []]).ex hΓ bz (cX nv h)
theorem bn{aB:Int}{r:Bytes}(h:cC aB=some r):Good prog 61 [D.int .i64 aB] (D.str r):=by
 refine gd func61 [[none]] 20 fun hr Γ hΓ=>?_
 rw[cC]at h;obtain⟨h1,h⟩|⟨h1,h⟩:=aM h
 ·cases h;exact(aU.b h1).ret hΓ
 ·refine((aU.b h1).a [.cn [0,3] []]).lp hΓ (JM hΓ (fun S7 h=>?_) fuel aB ([]) h);obtain⟨h14,h⟩:=bV h;cases h;exact(aU.w (bt h14)).rts hΓ (D.str (([109])++S7)) (by first|rfl| (simp only[mA]<;>rfl))
def ff(k1:aJ->Int->Option (aJ×Int)):aJ->aJ->Int->Option (aJ×Int)
 | [],bh,b8=>(k1 bh b8)
 |bD::bZ,bh,b8=>((cC b8).bind fun y1=>(ff k1 bZ (bh++[y1]) (IntKind.i64.wrap (b8+1))))
def gi(aB:aJ)(aW:Int):Option (aJ×Int):=(ff (fun(bQ:aJ) (cL:Int)=>(some (bQ,cL))) aB [] aW)
theorem Eh{Γ:w5}(hΓ:Γ.nt=20){N:Nat->St->Prop}{fN:Value}{r:aJ×Int}{k1:aJ->Int->Option (aJ×Int)}(cX:∀(bQ:aJ) (cL:Int),k1 bQ cL=some r->AW prog Γ (lc f62 [1,1]) (KQ prog Γ N (wB prog f62 [fN] [(1,r.1.map tx)] (D.int .i64 r.2)) (Ac f62 [1,1])) ⟨[(1,D.int .i64 cL)],[Ob.fG 1 (bQ.map tx) (some fN)]⟩):∀(rest:aJ) (bh:aJ) (b8:Int),bh.length+rest.length<=maxLen->ff k1 rest bh b8=some r->Pz prog Γ (lc f62 [1,0,1,0,0]) (KQ prog Γ N (wB prog f62 [fN] [(1,r.1.map tx)] (D.int .i64 r.2)) (Ac f62 [1,0,1,0])) (rest.length+1) ⟨[(0,D.acc 0),(1,D.int .i64 b8),(5,D.int .i64 (bh.length:Int))],[Ob.fG 1 (bh.map tx++rest.map tx) (some fN)]⟩:=by
 intro rest
 induction rest with
 |nil=>
  intro bh b8 hm1 h;rw[ff]at h;refine aO fun N1 bz bg=>?_
  have t:=QH (N:=N) (N':=N1) (K0:=(Ac f62 [1,0,1,0])) (by kernel_rfl) bz (cX bh b8 h);refine gC (n:=2000) 1 [bF,.hl 0 [1] [0]] (.at_ (lc f62 [1,1]) (Ac f62 [1,1]) ⟨[(1,D.int .i64 b8)],[Ob.fG 1 (bh.map tx++([]:aJ).map tx) (some fN)]⟩) hΓ CO (by kernel_rfl) (ow (show(decide (((bh.length:Int):Int)<((bh.map tx++([]:aJ).map tx).length:Int)))=false from(D9 _)) E4) ?_;refine xX (s:=⟨[(1,D.int .i64 b8)],[Ob.fG 1 (bh.map tx++([]:aJ).map tx) (some fN)]⟩) ?_ t;simp only[bW,cN]
 |cons bD bZ ih1=>
  intro bh b8 hm1 h;rw[ff]at h;refine aO fun N1 bz bg=>?_
  obtain⟨y1,h2,h⟩:=aD h;have t:=ih1 (bh++[y1]) (IntKind.i64.wrap (b8+1)) (by simp only[aX,aK,bK]at hm1⊢;omega) h;refine gC (n:=2000) 1 [bT,.d (D.str y1),.ix (bh.length),.row [D.str bD],.cn [0,1,5] [0]] (.cont 0 ⟨[(0,D.acc 0),(1,D.int .i64 (IntKind.i64.wrap (b8+1))),(5,D.int .i64 (IntKind.i64.wrap ((bh.length:Int)+1)))],[Ob.fG 1 ((bh.map tx++([D.str bD]::bZ.map tx)).set bh.length [D.str y1]) (some fN)]⟩) hΓ CO (by kernel_rfl) (ow (show(decide (((bh.length:Int):Int)<((bh.map tx++([D.str bD]::bZ.map tx)).length:Int)))=true from(DC _ _ _)) (ow (bn h2) (ow (show(bh.length:Int)=((bh.length:Nat):Int)/\bh.length<(bh.map tx++([D.str bD]::bZ.map tx)).length from⟨rfl,by simp only[bf,aX,aa,aK];omega⟩) (ow (show(bh.map tx++([D.str bD]::bZ.map tx))[bh.length]?=some [D.str bD]from by(try simp only[dA]);exact di _ _ _) E4)))) ?_;refine(congrFun bg _).mpr ?_;rw[zq (by simp only[aK]at hm1;omega)];simp only[dA];simp only[bN,bG,bW,bY,dS,cI,aX,aK,bK]at t⊢;exact t
theorem lC{aB:aJ}{aW:Int}{r:aJ×Int}(h:gi aB aW=some r):tu prog 62 [D.acc 0,D.int .i64 aW] [(1,aB.map tx)] [(1,r.1.map tx)] (D.int .i64 r.2):=by
 refine tu.of (c:=lR f62) func62 rfl (by decide) (by simp[f62]) rfl rfl ?_;intro hr Γ hΓ vs hvs
 match vs,hvs with
 | [fN],_=>
 have hΓ:Γ.nt=20:=hΓ;rw[gi]at h;refine(show AW prog Γ (lR f62) (KQ prog Γ (fun _ _=>False) (wB prog f62 [fN] [(1,r.1.map tx)] (D.int .i64 r.2)) []) _ from ?_);refine gC (n:=2000) 1 [.cn [0,1,5] [0]] (.lp (lc f62 [1,0,1,0,0]) (Ac f62 [1,0,1,0]) ⟨[(0,D.acc 0),(1,D.int .i64 aW),(5,D.int .i64 0)],[Ob.fG 1 (aB.map tx) (some fN)]⟩) hΓ CO (by kernel_rfl) E4 (xX (by rfl) (ym (Eh hΓ (fun bQ cL h=>?_) aB [] aW (by have:=hr _ (aC (i:=0) rfl);simpa using this) h)));have h:=aG h;subst h;exact gC (n:=2000) 1 [] (.ret (D.gZ [D.int .i64 cL,D.agg [D.fr 0 1 (bQ.map tx),D.val fN]])) hΓ CO (by kernel_rfl) E4 rfl
def iF(k1:aq->Int->Option (aq×Int)):aq->aq->Int->Option (aq×Int)
 | [],bh,b8=>(k1 bh b8)
 |bD::bZ,bh,b8=>((cC (IntKind.i64.wrap (b8+1))).bind fun y1=>((gi bD.pat.args (IntKind.i64.wrap ((IntKind.i64.wrap (b8+1))+1))).bind fun y3=>((cC y3.2).bind fun y5=>((cC (IntKind.i64.wrap (y3.2+1))).bind fun y7=>(iF k1 bZ (bh++[(⟨b8,(⟨y1,y3.1⟩:aE),y5,y7⟩:aQ)]) (IntKind.i64.wrap ((IntKind.i64.wrap (y3.2+1))+1)))))))
def tM(aB:aq)(aW:Int):Option (aq×Int):=(iF (fun(bQ:aq) (cL:Int)=>(some (bQ,cL))) aB [] aW)
theorem HD{Γ:w5}(hΓ:Γ.nt=53){N:Nat->St->Prop}{fN:Value}{r:aq×Int}{k1:aq->Int->Option (aq×Int)}(cX:∀(bQ:aq) (cL:Int),k1 bQ cL=some r->AW prog Γ (lc f117 [1,1]) (KQ prog Γ N (wB prog f117 [fN] [(5,r.1.map aQ.c)] (D.int .i64 r.2)) (Ac f117 [1,1])) ⟨[(1,D.int .i64 cL)],[Ob.fG 5 (bQ.map aQ.c) (some fN)]⟩):∀(rest:aq) (bh:aq) (b8:Int),bh.length+rest.length<=maxLen->iF k1 rest bh b8=some r->Pz prog Γ (lc f117 [1,0,1,0,0]) (KQ prog Γ N (wB prog f117 [fN] [(5,r.1.map aQ.c)] (D.int .i64 r.2)) (Ac f117 [1,0,1,0])) (rest.length+1) ⟨[(0,D.acc 0),(1,D.int .i64 b8),(5,D.int .i64 (bh.length:Int))],[Ob.fG 5 (bh.map aQ.c++rest.map aQ.c) (some fN)]⟩:=by
 intro rest
 induction rest with
 |nil=>
  intro bh b8 hm1 h;rw[iF]at h;refine aO fun N1 bz bg=>?_
  have t:=QH (N:=N) (N':=N1) (K0:=(Ac f117 [1,0,1,0])) (by kernel_rfl) bz (cX bh b8 h);refine gC (n:=2000) 1 [bF,.hl 0 [1] [0]] (.at_ (lc f117 [1,1]) (Ac f117 [1,1]) ⟨[(1,D.int .i64 b8)],[Ob.fG 5 (bh.map aQ.c++([]:aq).map aQ.c) (some fN)]⟩) hΓ CO (by kernel_rfl) (ow (show(decide (((bh.length:Int):Int)<((bh.map aQ.c++([]:aq).map aQ.c).length:Int)))=false from(D9 _)) E4) ?_;refine xX (s:=⟨[(1,D.int .i64 b8)],[Ob.fG 5 (bh.map aQ.c++([]:aq).map aQ.c) (some fN)]⟩) ?_ t;simp only[bW,cN]
 |cons bD bZ ih1=>
  intro bh b8 hm1 h;rw[iF]at h;refine aO fun N1 bz bg=>?_
  obtain⟨y1,h2,h⟩:=aD h;obtain⟨y3,h4,h⟩:=aD h;obtain⟨y5,h6,h⟩:=aD h;obtain⟨y7,h8,h⟩:=aD h;have t:=ih1 (bh++[(⟨b8,(⟨y1,y3.1⟩:aE),y5,y7⟩:aQ)]) (IntKind.i64.wrap ((IntKind.i64.wrap (y3.2+1))+1)) (by simp only[aX,aK,bK]at hm1⊢;omega) h;let WK:aR:=[D.int .i64 b8,D.str y1,D.any,D.str bD.left,D.str bD.right]
  let Ue:aR:=[D.int .i64 b8,D.str y1,D.sl (y3.1.map tx),D.str y5,D.str bD.right]
  let WX:aR:=[D.int .i64 b8,D.str y1,D.sl (y3.1.map tx),D.str bD.left,D.str bD.right]
  let UR:aR:=[D.int .i64 b8,D.str y1,D.sl (bD.pat.args.map tx),D.str bD.left,D.str bD.right]
  let WY:aR:=[D.int .i64 b8,D.str bD.pat.rel,D.sl (bD.pat.args.map tx),D.str bD.left,D.str bD.right]
  let US:aR:=[D.int .i64 bD.kind,D.str bD.pat.rel,D.sl (bD.pat.args.map tx),D.str bD.left,D.str bD.right]
  let UT:List aR:=((bh.map aQ.c++(US::bZ.map aQ.c)).set bh.length WY)
  let Ug:List aR:=(((UT.set bh.length UR).set bh.length WK).set bh.length WX)
  refine gC (n:=2000) 1 [bT,.ix (bh.length),.row US,.d (D.str y1),.ix (bh.length),.row WY,.ix (bh.length),.row UR,.gv [1] [(1,y3.1.map tx)] (D.int .i64 y3.2),.mg 0 bh.length 2 WK,.d (D.str y5),.ix (bh.length),.row WX,.d (D.str y7),.ix (bh.length),.row Ue,.cn [0,1,5] [0]] (.cont 0 ⟨[(0,D.acc 0),(1,D.int .i64 (IntKind.i64.wrap ((IntKind.i64.wrap (y3.2+1))+1))),(5,D.int .i64 (IntKind.i64.wrap ((bh.length:Int)+1)))],[Ob.fG 5 ((Ug.set bh.length Ue).set bh.length [D.int .i64 b8,D.str y1,D.sl (y3.1.map tx),D.str y5,D.str y7]) (some fN)]⟩) hΓ CO (by kernel_rfl) (ow (show(decide (((bh.length:Int):Int)<((bh.map aQ.c++(US::bZ.map aQ.c)).length:Int)))=true from(DC _ _ _)) (ow (show(bh.length:Int)=((bh.length:Nat):Int)/\bh.length<(bh.map aQ.c++(US::bZ.map aQ.c)).length from⟨rfl,by simp only[Ug,UT,US,WY,UR,WX,Ue,WK,bf,aX,aa,aK];omega⟩) (ow (show(bh.map aQ.c++(US::bZ.map aQ.c))[bh.length]?=some US from by(try simp only[Ug,UT,US,WY,UR,WX,Ue,WK,dA]);exact di _ _ _) (ow (bn h2) (ow (show(bh.length:Int)=((bh.length:Nat):Int)/\bh.length<UT.length from⟨rfl,by simp only[Ug,UT,US,WY,UR,WX,Ue,WK,bf,aX,aa,aK];omega⟩) (ow (show UT[bh.length]?=some WY from by(try simp only[Ug,UT,US,WY,UR,WX,Ue,WK,dA]);exact di _ _ _) (ow (show(bh.length:Int)=((bh.length:Nat):Int)/\bh.length<(UT.set bh.length UR).length from⟨rfl,by simp only[Ug,UT,US,WY,UR,WX,Ue,WK,bf,aX,aa,aK];omega⟩) (ow (show(UT.set bh.length UR)[bh.length]?=some UR from by(try simp only[Ug,UT,US,WY,UR,WX,Ue,WK,dA]);exact di _ _ _) (ow (show∀q∈(bD.pat.args.map tx),q.length=1 from by simp) (ow (lC h4) (ow (show((UT.set bh.length UR).set bh.length WK)[bh.length]?=some WK from by(try simp only[Ug,UT,US,WY,UR,WX,Ue,WK,dA]);exact di _ _ _) (ow (show(bh.length*5+2)=bh.length*5+2 from rfl) (ow (bn h6) (ow (show(bh.length:Int)=((bh.length:Nat):Int)/\bh.length<Ug.length from⟨rfl,by simp only[Ug,UT,US,WY,UR,WX,Ue,WK,bf,aX,aa,aK];omega⟩) (ow (show Ug[bh.length]?=some WX from by(try simp only[Ug,UT,US,WY,UR,WX,Ue,WK,dA]);exact di _ _ _) (ow (bn h8) (ow (show(bh.length:Int)=((bh.length:Nat):Int)/\bh.length<(Ug.set bh.length Ue).length from⟨rfl,by simp only[Ug,UT,US,WY,UR,WX,Ue,WK,bf,aX,aa,aK];omega⟩) (ow (show(Ug.set bh.length Ue)[bh.length]?=some Ue from by(try simp only[Ug,UT,US,WY,UR,WX,Ue,WK,dA]);exact di _ _ _) E4)))))))))))))))))) ?_;refine(congrFun bg _).mpr ?_;rw[zq (by simp only[aK]at hm1;omega)];simp only[Ug,UT,US,WY,UR,WX,Ue,WK,dA];simp only[bN,bG,bW,bY,dS,cI,aX,aK,bK]at t⊢;exact t
theorem Ft{aB:aq}{aW:Int}{r:aq×Int}(h:tM aB aW=some r):tu prog 117 [D.acc 0,D.int .i64 aW] [(5,aB.map aQ.c)] [(5,r.1.map aQ.c)] (D.int .i64 r.2):=by
 refine tu.of (c:=lR f117) func117 rfl (by decide) (by simp[f117]) rfl rfl ?_;intro hr Γ hΓ vs hvs
 match vs,hvs with
 | [fN],_=>
 have hΓ:Γ.nt=53:=hΓ;rw[tM]at h;refine(show AW prog Γ (lR f117) (KQ prog Γ (fun _ _=>False) (wB prog f117 [fN] [(5,r.1.map aQ.c)] (D.int .i64 r.2)) []) _ from ?_);refine gC (n:=2000) 1 [.cn [0,1,5] [0]] (.lp (lc f117 [1,0,1,0,0]) (Ac f117 [1,0,1,0]) ⟨[(0,D.acc 0),(1,D.int .i64 aW),(5,D.int .i64 0)],[Ob.fG 5 (aB.map aQ.c) (some fN)]⟩) hΓ CO (by kernel_rfl) E4 (xX (by rfl) (ym (HD hΓ (fun bQ cL h=>?_) aB [] aW (by have:=hr _ (aC (i:=0) rfl);simpa using this) h)));have h:=aG h;subst h;exact gC (n:=2000) 1 [] (.ret (D.gZ [D.int .i64 cL,D.agg [D.fr 0 5 (bQ.map aQ.c),D.val fN]])) hΓ CO (by kernel_rfl) E4 rfl
def fe(k1:c8->Int->Option (c8×Int)):c8->c8->Int->Option (c8×Int)
 | [],bh,b8=>(k1 bh b8)
 |bD::bZ,bh,b8=>((cC (IntKind.i64.wrap (b8+1))).bind fun y1=>((gi bD.pat.args (IntKind.i64.wrap ((IntKind.i64.wrap (b8+1))+1))).bind fun y3=>(fe k1 bZ (bh++[(⟨b8,(⟨y1,y3.1⟩:aE)⟩:Action)]) y3.2)))
def qP(aB:c8)(aW:Int):Option (c8×Int):=(fe (fun(bQ:c8) (cL:Int)=>(some (bQ,cL))) aB [] aW)
theorem Ef{Γ:w5}(hΓ:Γ.nt=37){N:Nat->St->Prop}{fN:Value}{r:c8×Int}{k1:c8->Int->Option (c8×Int)}(cX:∀(bQ:c8) (cL:Int),k1 bQ cL=some r->AW prog Γ (lc f118 [1,1]) (KQ prog Γ N (wB prog f118 [fN] [(3,r.1.map Action.c)] (D.int .i64 r.2)) (Ac f118 [1,1])) ⟨[(1,D.int .i64 cL)],[Ob.fG 3 (bQ.map Action.c) (some fN)]⟩):∀(rest:c8) (bh:c8) (b8:Int),bh.length+rest.length<=maxLen->fe k1 rest bh b8=some r->Pz prog Γ (lc f118 [1,0,1,0,0]) (KQ prog Γ N (wB prog f118 [fN] [(3,r.1.map Action.c)] (D.int .i64 r.2)) (Ac f118 [1,0,1,0])) (rest.length+1) ⟨[(0,D.acc 0),(1,D.int .i64 b8),(5,D.int .i64 (bh.length:Int))],[Ob.fG 3 (bh.map Action.c++rest.map Action.c) (some fN)]⟩:=by
 intro rest
 induction rest with
 |nil=>
  intro bh b8 hm1 h;rw[fe]at h;refine aO fun N1 bz bg=>?_
  have t:=QH (N:=N) (N':=N1) (K0:=(Ac f118 [1,0,1,0])) (by kernel_rfl) bz (cX bh b8 h);refine gC (n:=2000) 1 [bF,.hl 0 [1] [0]] (.at_ (lc f118 [1,1]) (Ac f118 [1,1]) ⟨[(1,D.int .i64 b8)],[Ob.fG 3 (bh.map Action.c++([]:c8).map Action.c) (some fN)]⟩) hΓ CO (by kernel_rfl) (ow (show(decide (((bh.length:Int):Int)<((bh.map Action.c++([]:c8).map Action.c).length:Int)))=false from(D9 _)) E4) ?_;refine xX (s:=⟨[(1,D.int .i64 b8)],[Ob.fG 3 (bh.map Action.c++([]:c8).map Action.c) (some fN)]⟩) ?_ t;simp only[bW,cN]
 |cons bD bZ ih1=>
  intro bh b8 hm1 h;rw[fe]at h;refine aO fun N1 bz bg=>?_
  obtain⟨y1,h2,h⟩:=aD h;obtain⟨y3,h4,h⟩:=aD h;have t:=ih1 (bh++[(⟨b8,(⟨y1,y3.1⟩:aE)⟩:Action)]) y3.2 (by simp only[aX,aK,bK]at hm1⊢;omega) h;let W_8:aR:=[D.int .i64 b8,D.str y1,D.sl (bD.pat.args.map tx)]
  let ZK:aR:=[D.int .i64 b8,D.str bD.pat.rel,D.sl (bD.pat.args.map tx)]
  let QM:aR:=[D.int .i64 bD.kind,D.str bD.pat.rel,D.sl (bD.pat.args.map tx)]
  let MV:List aR:=(bh.map Action.c++(QM::bZ.map Action.c))
  let PZ:List aR:=((MV.set bh.length ZK).set bh.length W_8)
  refine gC (n:=2000) 1 [bT,.ix (bh.length),.row QM,.d (D.str y1),.ix (bh.length),.row ZK,.ix (bh.length),.row W_8,.gv [1] [(1,y3.1.map tx)] (D.int .i64 y3.2),.mg 0 bh.length 2 [D.int .i64 b8,D.str y1,D.any],.cn [0,1,5] [0]] (.cont 0 ⟨[(0,D.acc 0),(1,D.int .i64 y3.2),(5,D.int .i64 (IntKind.i64.wrap ((bh.length:Int)+1)))],[Ob.fG 3 ((PZ.set bh.length [D.int .i64 b8,D.str y1,D.any]).set bh.length [D.int .i64 b8,D.str y1,D.sl (y3.1.map tx)]) (some fN)]⟩) hΓ CO (by kernel_rfl) (ow (show(decide (((bh.length:Int):Int)<(MV.length:Int)))=true from(DC _ _ _)) (ow (show(bh.length:Int)=((bh.length:Nat):Int)/\bh.length<MV.length from⟨rfl,by simp only[PZ,MV,QM,ZK,W_8,bf,aX,aa,aK];omega⟩) (ow (show MV[bh.length]?=some QM from by(try simp only[PZ,MV,QM,ZK,W_8,dA]);exact di _ _ _) (ow (bn h2) (ow (show(bh.length:Int)=((bh.length:Nat):Int)/\bh.length<(MV.set bh.length ZK).length from⟨rfl,by simp only[PZ,MV,QM,ZK,W_8,bf,aX,aa,aK];omega⟩) (ow (show(MV.set bh.length ZK)[bh.length]?=some ZK from by(try simp only[PZ,MV,QM,ZK,W_8,dA]);exact di _ _ _) (ow (show(bh.length:Int)=((bh.length:Nat):Int)/\bh.length<PZ.length from⟨rfl,by simp only[PZ,MV,QM,ZK,W_8,bf,aX,aa,aK];omega⟩) (ow (show PZ[bh.length]?=some W_8 from by(try simp only[PZ,MV,QM,ZK,W_8,dA]);exact di _ _ _) (ow (show∀q∈(bD.pat.args.map tx),q.length=1 from by simp) (ow (lC h4) (ow (show(PZ.set bh.length [D.int .i64 b8,D.str y1,D.any])[bh.length]?=some [D.int .i64 b8,D.str y1,D.any]from by(try simp only[PZ,MV,QM,ZK,W_8,dA]);exact di _ _ _) (ow (show(bh.length*3+2)=bh.length*3+2 from rfl) E4)))))))))))) ?_;refine(congrFun bg _).mpr ?_;rw[zq (by simp only[aK]at hm1;omega)];simp only[PZ,MV,QM,ZK,W_8,dA];simp only[bN,bG,bW,bY,dS,cI,aX,aK,bK]at t⊢;exact t
theorem De{aB:c8}{aW:Int}{r:c8×Int}(h:qP aB aW=some r):tu prog 118 [D.acc 0,D.int .i64 aW] [(3,aB.map Action.c)] [(3,r.1.map Action.c)] (D.int .i64 r.2):=by
 refine tu.of (c:=lR f118) func118 rfl (by decide) (by simp[f118]) rfl rfl ?_;intro hr Γ hΓ vs hvs
 match vs,hvs with
 | [fN],_=>
 have hΓ:Γ.nt=37:=hΓ;rw[qP]at h;refine(show AW prog Γ (lR f118) (KQ prog Γ (fun _ _=>False) (wB prog f118 [fN] [(3,r.1.map Action.c)] (D.int .i64 r.2)) []) _ from ?_);refine gC (n:=2000) 1 [.cn [0,1,5] [0]] (.lp (lc f118 [1,0,1,0,0]) (Ac f118 [1,0,1,0]) ⟨[(0,D.acc 0),(1,D.int .i64 aW),(5,D.int .i64 0)],[Ob.fG 3 (aB.map Action.c) (some fN)]⟩) hΓ CO (by kernel_rfl) E4 (xX (by rfl) (ym (Ef hΓ (fun bQ cL h=>?_) aB [] aW (by have:=hr _ (aC (i:=0) rfl);simpa using this) h)));have h:=aG h;subst h;exact gC (n:=2000) 1 [] (.ret (D.gZ [D.int .i64 cL,D.agg [D.fr 0 3 (bQ.map Action.c),D.val fN]])) hΓ CO (by kernel_rfl) E4 rfl
def iJ(k1:ar->Int->Option (ar×Int)):ar->ar->Int->Option (ar×Int)
 | [],bh,b8=>(k1 bh b8)
 |bD::bZ,bh,b8=>((cC b8).bind fun y1=>((tM bD.conds (IntKind.i64.wrap ((IntKind.i64.wrap (b8+1))+1))).bind fun y3=>((qP bD.cv y3.2).bind fun y5=>(iJ k1 bZ (bh++[(⟨y1,IntKind.i64.wrap (b8+1),y3.1,y5.1⟩:aN)]) y5.2))))
def tP(aB:ar)(aW:Int):Option (ar×Int):=(iJ (fun(bQ:ar) (cL:Int)=>(some (bQ,cL))) aB [] aW)
theorem HI{Γ:w5}(hΓ:Γ.nt=42){N:Nat->St->Prop}{fN:Value}{r:ar×Int}{k1:ar->Int->Option (ar×Int)}(cX:∀(bQ:ar) (cL:Int),k1 bQ cL=some r->AW prog Γ (lc f57 [1,1]) (KQ prog Γ N (wB prog f57 [fN] [(4,r.1.map aN.c)] (D.int .i64 r.2)) (Ac f57 [1,1])) ⟨[(1,D.int .i64 cL)],[Ob.fG 4 (bQ.map aN.c) (some fN)]⟩):∀(rest:ar) (bh:ar) (b8:Int),bh.length+rest.length<=maxLen->iJ k1 rest bh b8=some r->Pz prog Γ (lc f57 [1,0,1,0,0]) (KQ prog Γ N (wB prog f57 [fN] [(4,r.1.map aN.c)] (D.int .i64 r.2)) (Ac f57 [1,0,1,0])) (rest.length+1) ⟨[(0,D.acc 0),(1,D.int .i64 b8),(5,D.int .i64 (bh.length:Int))],[Ob.fG 4 (bh.map aN.c++rest.map aN.c) (some fN)]⟩:=by
 intro rest
 induction rest with
 |nil=>
  intro bh b8 hm1 h;rw[iJ]at h;refine aO fun N1 bz bg=>?_
  have t:=QH (N:=N) (N':=N1) (K0:=(Ac f57 [1,0,1,0])) (by kernel_rfl) bz (cX bh b8 h);refine gC (n:=2000) 1 [bF,.hl 0 [1] [0]] (.at_ (lc f57 [1,1]) (Ac f57 [1,1]) ⟨[(1,D.int .i64 b8)],[Ob.fG 4 (bh.map aN.c++([]:ar).map aN.c) (some fN)]⟩) hΓ CO (by kernel_rfl) (ow (show(decide (((bh.length:Int):Int)<((bh.map aN.c++([]:ar).map aN.c).length:Int)))=false from(D9 _)) E4) ?_;refine xX (s:=⟨[(1,D.int .i64 b8)],[Ob.fG 4 (bh.map aN.c++([]:ar).map aN.c) (some fN)]⟩) ?_ t;simp only[bW,cN]
 |cons bD bZ ih1=>
  intro bh b8 hm1 h;rw[iJ]at h;refine aO fun N1 bz bg=>?_
  obtain⟨y1,h2,h⟩:=aD h;obtain⟨y3,h4,h⟩:=aD h;obtain⟨y5,h6,h⟩:=aD h;have t:=ih1 (bh++[(⟨y1,IntKind.i64.wrap (b8+1),y3.1,y5.1⟩:aN)]) y5.2 (by simp only[aX,aK,bK]at hm1⊢;omega) h;let Kf:aR:=[D.str y1,D.int .i64 (IntKind.i64.wrap (b8+1)),D.sl (y3.1.map aQ.c),D.any]
  let MW:aR:=[D.str y1,D.int .i64 (IntKind.i64.wrap (b8+1)),D.any,D.sl (bD.cv.map Action.c)]
  let MX:aR:=[D.str y1,D.int .i64 bD.prio,D.sl (bD.conds.map aQ.c),D.sl (bD.cv.map Action.c)]
  let GO:aR:=[D.str bD.name,D.int .i64 bD.prio,D.sl (bD.conds.map aQ.c),D.sl (bD.cv.map Action.c)]
  let Ie:List aR:=((bh.map aN.c++(GO::bZ.map aN.c)).set bh.length MX)
  let GP:aR:=[D.str y1,D.int .i64 (IntKind.i64.wrap (b8+1)),D.sl (y3.1.map aQ.c),D.sl (bD.cv.map Action.c)]
  let Ig:aR:=[D.str y1,D.int .i64 (IntKind.i64.wrap (b8+1)),D.sl (bD.conds.map aQ.c),D.sl (bD.cv.map Action.c)]
  let Ih:List aR:=((Ie.set bh.length Ig).set bh.length MW)
  refine gC (n:=2000) 1 [bT,.d (D.str y1),.ix (bh.length),.row GO,.ix (bh.length),.row MX,.ix (bh.length),.row Ig,.gv [1] [(5,y3.1.map aQ.c)] (D.int .i64 y3.2),.mg 0 bh.length 2 MW,.ix (bh.length),.row GP,.gv [2] [(3,y5.1.map Action.c)] (D.int .i64 y5.2),.mg 0 bh.length 3 Kf,.cn [0,1,5] [0]] (.cont 0 ⟨[(0,D.acc 0),(1,D.int .i64 y5.2),(5,D.int .i64 (IntKind.i64.wrap ((bh.length:Int)+1)))],[Ob.fG 4 (((Ih.set bh.length GP).set bh.length Kf).set bh.length [D.str y1,D.int .i64 (IntKind.i64.wrap (b8+1)),D.sl (y3.1.map aQ.c),D.sl (y5.1.map Action.c)]) (some fN)]⟩) hΓ CO (by kernel_rfl) (ow (show(decide (((bh.length:Int):Int)<((bh.map aN.c++(GO::bZ.map aN.c)).length:Int)))=true from(DC _ _ _)) (ow (bn h2) (ow (show(bh.length:Int)=((bh.length:Nat):Int)/\bh.length<(bh.map aN.c++(GO::bZ.map aN.c)).length from⟨rfl,by simp only[Ih,Ig,GP,Ie,GO,MX,MW,Kf,bf,aX,aa,aK];omega⟩) (ow (show(bh.map aN.c++(GO::bZ.map aN.c))[bh.length]?=some GO from by(try simp only[Ih,Ig,GP,Ie,GO,MX,MW,Kf,dA]);exact di _ _ _) (ow (show(bh.length:Int)=((bh.length:Nat):Int)/\bh.length<Ie.length from⟨rfl,by simp only[Ih,Ig,GP,Ie,GO,MX,MW,Kf,bf,aX,aa,aK];omega⟩) (ow (show Ie[bh.length]?=some MX from by(try simp only[Ih,Ig,GP,Ie,GO,MX,MW,Kf,dA]);exact di _ _ _) (ow (show(bh.length:Int)=((bh.length:Nat):Int)/\bh.length<(Ie.set bh.length Ig).length from⟨rfl,by simp only[Ih,Ig,GP,Ie,GO,MX,MW,Kf,bf,aX,aa,aK];omega⟩) (ow (show(Ie.set bh.length Ig)[bh.length]?=some Ig from by(try simp only[Ih,Ig,GP,Ie,GO,MX,MW,Kf,dA]);exact di _ _ _) (ow (show∀q∈(bD.conds.map aQ.c),q.length=5 from by simp) (ow (Ft h4) (ow (show Ih[bh.length]?=some MW from by(try simp only[Ih,Ig,GP,Ie,GO,MX,MW,Kf,dA]);exact di _ _ _) (ow (show(bh.length*4+2)=bh.length*4+2 from rfl) (ow (show(bh.length:Int)=((bh.length:Nat):Int)/\bh.length<(Ih.set bh.length GP).length from⟨rfl,by simp only[Ih,Ig,GP,Ie,GO,MX,MW,Kf,bf,aX,aa,aK];omega⟩) (ow (show(Ih.set bh.length GP)[bh.length]?=some GP from by(try simp only[Ih,Ig,GP,Ie,GO,MX,MW,Kf,dA]);exact di _ _ _) (ow (show∀q∈(bD.cv.map Action.c),q.length=3 from by simp) (ow (De h6) (ow (show((Ih.set bh.length GP).set bh.length Kf)[bh.length]?=some Kf from by(try simp only[Ih,Ig,GP,Ie,GO,MX,MW,Kf,dA]);exact di _ _ _) (ow (show(bh.length*4+3)=bh.length*4+3 from rfl) E4)))))))))))))))))) ?_;refine(congrFun bg _).mpr ?_;rw[zq (by simp only[aK]at hm1;omega)];simp only[Ih,Ig,GP,Ie,GO,MX,MW,Kf,dA];simp only[bN,bG,bW,bY,dS,cI,aX,aK,bK]at t⊢;exact t
theorem Fw{aB:ar}{aW:Int}{r:ar×Int}(h:tP aB aW=some r):tu prog 57 [D.acc 0,D.int .i64 aW] [(4,aB.map aN.c)] [(4,r.1.map aN.c)] (D.int .i64 r.2):=by
 refine tu.of (c:=lR f57) func57 rfl (by decide) (by simp[f57]) rfl rfl ?_;intro hr Γ hΓ vs hvs
 match vs,hvs with
 | [fN],_=>
 have hΓ:Γ.nt=42:=hΓ;rw[tP]at h;refine(show AW prog Γ (lR f57) (KQ prog Γ (fun _ _=>False) (wB prog f57 [fN] [(4,r.1.map aN.c)] (D.int .i64 r.2)) []) _ from ?_);refine gC (n:=2000) 1 [.cn [0,1,5] [0]] (.lp (lc f57 [1,0,1,0,0]) (Ac f57 [1,0,1,0]) ⟨[(0,D.acc 0),(1,D.int .i64 aW),(5,D.int .i64 0)],[Ob.fG 4 (aB.map aN.c) (some fN)]⟩) hΓ CO (by kernel_rfl) E4 (xX (by rfl) (ym (HI hΓ (fun bQ cL h=>?_) aB [] aW (by have:=hr _ (aC (i:=0) rfl);simpa using this) h)));have h:=aG h;subst h;exact gC (n:=2000) 1 [] (.ret (D.gZ [D.int .i64 cL,D.agg [D.fr 0 4 (bQ.map aN.c),D.val fN]])) hΓ CO (by kernel_rfl) E4 rfl
def j5(k1:bI->Int->Option (bI×Int)):bI->bI->Int->Option (bI×Int)
 | [],bh,b8=>(k1 bh b8)
 |bD::bZ,bh,b8=>(j5 k1 bZ (bh++[b8]) (IntKind.i64.wrap (b8+1)))
def uc(aB:bI)(aW:Int):Option (bI×Int):=(j5 (fun(bQ:bI) (cL:Int)=>(some (bQ,cL))) aB [] aW)
theorem JL{Γ:w5}(hΓ:Γ.nt=19){N:Nat->St->Prop}{fN:Value}{r:bI×Int}{k1:bI->Int->Option (bI×Int)}(cX:∀(bQ:bI) (cL:Int),k1 bQ cL=some r->AW prog Γ (lc f58 [1,1]) (KQ prog Γ N (wB prog f58 [fN] [(1,r.1.map dL)] (D.int .i64 r.2)) (Ac f58 [1,1])) ⟨[(1,D.int .i64 cL)],[Ob.fG 1 (bQ.map dL) (some fN)]⟩):∀(rest:bI) (bh:bI) (b8:Int),bh.length+rest.length<=maxLen->j5 k1 rest bh b8=some r->Pz prog Γ (lc f58 [1,0,1,0,0]) (KQ prog Γ N (wB prog f58 [fN] [(1,r.1.map dL)] (D.int .i64 r.2)) (Ac f58 [1,0,1,0])) (rest.length+1) ⟨[(0,D.acc 0),(1,D.int .i64 b8),(5,D.int .i64 (bh.length:Int))],[Ob.fG 1 (bh.map dL++rest.map dL) (some fN)]⟩:=by
 intro rest
 induction rest with
 |nil=>
  intro bh b8 hm1 h;rw[j5]at h;refine aO fun N1 bz bg=>?_
  have t:=QH (N:=N) (N':=N1) (K0:=(Ac f58 [1,0,1,0])) (by kernel_rfl) bz (cX bh b8 h);refine gC (n:=2000) 1 [bF,.hl 0 [1] [0]] (.at_ (lc f58 [1,1]) (Ac f58 [1,1]) ⟨[(1,D.int .i64 b8)],[Ob.fG 1 (bh.map dL++([]:bI).map dL) (some fN)]⟩) hΓ CO (by kernel_rfl) (ow (show(decide (((bh.length:Int):Int)<((bh.map dL++([]:bI).map dL).length:Int)))=false from(D9 _)) E4) ?_;refine xX (s:=⟨[(1,D.int .i64 b8)],[Ob.fG 1 (bh.map dL++([]:bI).map dL) (some fN)]⟩) ?_ t;simp only[bW,cN]
 |cons bD bZ ih1=>
  intro bh b8 hm1 h;rw[j5]at h;refine aO fun N1 bz bg=>?_
  have t:=ih1 (bh++[b8]) (IntKind.i64.wrap (b8+1)) (by simp only[aX,aK,bK]at hm1⊢;omega) h;refine gC (n:=2000) 1 [bT,.ix (bh.length),.row [D.int .i64 bD],.cn [0,1,5] [0]] (.cont 0 ⟨[(0,D.acc 0),(1,D.int .i64 (IntKind.i64.wrap (b8+1))),(5,D.int .i64 (IntKind.i64.wrap ((bh.length:Int)+1)))],[Ob.fG 1 ((bh.map dL++([D.int .i64 bD]::bZ.map dL)).set bh.length [D.int .i64 b8]) (some fN)]⟩) hΓ CO (by kernel_rfl) (ow (show(decide (((bh.length:Int):Int)<((bh.map dL++([D.int .i64 bD]::bZ.map dL)).length:Int)))=true from(DC _ _ _)) (ow (show(bh.length:Int)=((bh.length:Nat):Int)/\bh.length<(bh.map dL++([D.int .i64 bD]::bZ.map dL)).length from⟨rfl,by simp only[bf,aX,aa,aK];omega⟩) (ow (show(bh.map dL++([D.int .i64 bD]::bZ.map dL))[bh.length]?=some [D.int .i64 bD]from by(try simp only[dA]);exact di _ _ _) E4))) ?_;refine(congrFun bg _).mpr ?_;rw[zq (by simp only[aK]at hm1;omega)];simp only[dA];simp only[bN,bG,bW,bY,dS,cI,aX,aK,bK]at t⊢;exact t
theorem HF{aB:bI}{aW:Int}{r:bI×Int}(h:uc aB aW=some r):tu prog 58 [D.acc 0,D.int .i64 aW] [(1,aB.map dL)] [(1,r.1.map dL)] (D.int .i64 r.2):=by
 refine tu.of (c:=lR f58) func58 rfl (by decide) (by simp[f58]) rfl rfl ?_;intro hr Γ hΓ vs hvs
 match vs,hvs with
 | [fN],_=>
 have hΓ:Γ.nt=19:=hΓ;rw[uc]at h;refine(show AW prog Γ (lR f58) (KQ prog Γ (fun _ _=>False) (wB prog f58 [fN] [(1,r.1.map dL)] (D.int .i64 r.2)) []) _ from ?_);refine gC (n:=2000) 1 [.cn [0,1,5] [0]] (.lp (lc f58 [1,0,1,0,0]) (Ac f58 [1,0,1,0]) ⟨[(0,D.acc 0),(1,D.int .i64 aW),(5,D.int .i64 0)],[Ob.fG 1 (aB.map dL) (some fN)]⟩) hΓ CO (by kernel_rfl) E4 (xX (by rfl) (ym (JL hΓ (fun bQ cL h=>?_) aB [] aW (by have:=hr _ (aC (i:=0) rfl);simpa using this) h)));have h:=aG h;subst h;exact gC (n:=2000) 1 [] (.ret (D.gZ [D.int .i64 cL,D.agg [D.fr 0 1 (bQ.map dL),D.val fN]])) hΓ CO (by kernel_rfl) E4 rfl
def iG(k1:aL->Int->Option (aL×Int)):aL->aL->Int->Option (aL×Int)
 | [],bh,b8=>(k1 bh b8)
 |bD::bZ,bh,b8=>((cC b8).bind fun y1=>((gi bD.args (IntKind.i64.wrap (b8+1))).bind fun y3=>(iG k1 bZ (bh++[(⟨y1,y3.1⟩:aE)]) y3.2)))
def nK(aB:aL)(aW:Int):Option (aL×Int):=(iG (fun(bQ:aL) (cL:Int)=>(some (bQ,cL))) aB [] aW)
theorem HE{Γ:w5}(hΓ:Γ.nt=28){N:Nat->St->Prop}{fN:Value}{r:aL×Int}{k1:aL->Int->Option (aL×Int)}(cX:∀(bQ:aL) (cL:Int),k1 bQ cL=some r->AW prog Γ (lc f20 [1,1]) (KQ prog Γ N (wB prog f20 [fN] [(2,r.1.map aE.c)] (D.int .i64 r.2)) (Ac f20 [1,1])) ⟨[(1,D.int .i64 cL)],[Ob.fG 2 (bQ.map aE.c) (some fN)]⟩):∀(rest:aL) (bh:aL) (b8:Int),bh.length+rest.length<=maxLen->iG k1 rest bh b8=some r->Pz prog Γ (lc f20 [1,0,1,0,0]) (KQ prog Γ N (wB prog f20 [fN] [(2,r.1.map aE.c)] (D.int .i64 r.2)) (Ac f20 [1,0,1,0])) (rest.length+1) ⟨[(0,D.acc 0),(1,D.int .i64 b8),(5,D.int .i64 (bh.length:Int))],[Ob.fG 2 (bh.map aE.c++rest.map aE.c) (some fN)]⟩:=by
 intro rest
 induction rest with
 |nil=>
  intro bh b8 hm1 h;rw[iG]at h;refine aO fun N1 bz bg=>?_
  have t:=QH (N:=N) (N':=N1) (K0:=(Ac f20 [1,0,1,0])) (by kernel_rfl) bz (cX bh b8 h);refine gC (n:=2000) 1 [bF,.hl 0 [1] [0]] (.at_ (lc f20 [1,1]) (Ac f20 [1,1]) ⟨[(1,D.int .i64 b8)],[Ob.fG 2 (bh.map aE.c++([]:aL).map aE.c) (some fN)]⟩) hΓ CO (by kernel_rfl) (ow (show(decide (((bh.length:Int):Int)<((bh.map aE.c++([]:aL).map aE.c).length:Int)))=false from(D9 _)) E4) ?_;refine xX (s:=⟨[(1,D.int .i64 b8)],[Ob.fG 2 (bh.map aE.c++([]:aL).map aE.c) (some fN)]⟩) ?_ t;simp only[bW,cN]
 |cons bD bZ ih1=>
  intro bh b8 hm1 h;rw[iG]at h;refine aO fun N1 bz bg=>?_
  obtain⟨y1,h2,h⟩:=aD h;obtain⟨y3,h4,h⟩:=aD h;have t:=ih1 (bh++[(⟨y1,y3.1⟩:aE)]) y3.2 (by simp only[aX,aK,bK]at hm1⊢;omega) h;let Ro:List aR:=(bh.map aE.c++([D.str bD.rel,D.sl (bD.args.map tx)]::bZ.map aE.c))
  let Rp:List aR:=(Ro.set bh.length [D.str y1,D.sl (bD.args.map tx)])
  refine gC (n:=2000) 1 [bT,.d (D.str y1),.ix (bh.length),.row [D.str bD.rel,D.sl (bD.args.map tx)],.ix (bh.length),.row [D.str y1,D.sl (bD.args.map tx)],.gv [1] [(1,y3.1.map tx)] (D.int .i64 y3.2),.mg 0 bh.length 1 [D.str y1,D.any],.cn [0,1,5] [0]] (.cont 0 ⟨[(0,D.acc 0),(1,D.int .i64 y3.2),(5,D.int .i64 (IntKind.i64.wrap ((bh.length:Int)+1)))],[Ob.fG 2 ((Rp.set bh.length [D.str y1,D.any]).set bh.length [D.str y1,D.sl (y3.1.map tx)]) (some fN)]⟩) hΓ CO (by kernel_rfl) (ow (show(decide (((bh.length:Int):Int)<(Ro.length:Int)))=true from(DC _ _ _)) (ow (bn h2) (ow (show(bh.length:Int)=((bh.length:Nat):Int)/\bh.length<Ro.length from⟨rfl,by simp only[Rp,Ro,bf,aX,aa,aK];omega⟩) (ow (show Ro[bh.length]?=some [D.str bD.rel,D.sl (bD.args.map tx)]from by(try simp only[Rp,Ro,dA]);exact di _ _ _) (ow (show(bh.length:Int)=((bh.length:Nat):Int)/\bh.length<Rp.length from⟨rfl,by simp only[Rp,Ro,bf,aX,aa,aK];omega⟩) (ow (show Rp[bh.length]?=some [D.str y1,D.sl (bD.args.map tx)]from by(try simp only[Rp,Ro,dA]);exact di _ _ _) (ow (show∀q∈(bD.args.map tx),q.length=1 from by simp) (ow (lC h4) (ow (show(Rp.set bh.length [D.str y1,D.any])[bh.length]?=some [D.str y1,D.any]from by(try simp only[Rp,Ro,dA]);exact di _ _ _) (ow (show(bh.length*2+1)=bh.length*2+1 from rfl) E4)))))))))) ?_;refine(congrFun bg _).mpr ?_;rw[zq (by simp only[aK]at hm1;omega)];simp only[Rp,Ro,dA];simp only[bN,bG,bW,bY,dS,cI,aX,aK,bK]at t⊢;exact t
theorem vi{aB:aL}{aW:Int}{r:aL×Int}(h:nK aB aW=some r):tu prog 20 [D.acc 0,D.int .i64 aW] [(2,aB.map aE.c)] [(2,r.1.map aE.c)] (D.int .i64 r.2):=by
 refine tu.of (c:=lR f20) func20 rfl (by decide) (by simp[f20]) rfl rfl ?_;intro hr Γ hΓ vs hvs
 match vs,hvs with
 | [fN],_=>
 have hΓ:Γ.nt=28:=hΓ;rw[nK]at h;refine(show AW prog Γ (lR f20) (KQ prog Γ (fun _ _=>False) (wB prog f20 [fN] [(2,r.1.map aE.c)] (D.int .i64 r.2)) []) _ from ?_);refine gC (n:=2000) 1 [.cn [0,1,5] [0]] (.lp (lc f20 [1,0,1,0,0]) (Ac f20 [1,0,1,0]) ⟨[(0,D.acc 0),(1,D.int .i64 aW),(5,D.int .i64 0)],[Ob.fG 2 (aB.map aE.c) (some fN)]⟩) hΓ CO (by kernel_rfl) E4 (xX (by rfl) (ym (HE hΓ (fun bQ cL h=>?_) aB [] aW (by have:=hr _ (aC (i:=0) rfl);simpa using this) h)));have h:=aG h;subst h;exact gC (n:=2000) 1 [] (.ret (D.gZ [D.int .i64 cL,D.agg [D.fr 0 2 (bQ.map aE.c),D.val fN]])) hΓ CO (by kernel_rfl) E4 rfl
def gV(k1:b7->Int->Option (b7×Int)):b7->b7->Int->Option (b7×Int)
 | [],bh,b8=>(k1 bh b8)
 |bD::bZ,bh,b8=>((cC b8).bind fun y1=>((gi bD.shape.args (IntKind.i64.wrap (b8+1))).bind fun y3=>((nK bD.facts y3.2).bind fun y5=>(gV k1 bZ (bh++[(⟨(⟨y1,y3.1⟩:aE),y5.1⟩:aP)]) y5.2))))
def rP(aB:b7)(aW:Int):Option (b7×Int):=(gV (fun(bQ:b7) (cL:Int)=>(some (bQ,cL))) aB [] aW)
theorem Fq{Γ:w5}(hΓ:Γ.nt=37){N:Nat->St->Prop}{fN:Value}{r:b7×Int}{k1:b7->Int->Option (b7×Int)}(cX:∀(bQ:b7) (cL:Int),k1 bQ cL=some r->AW prog Γ (lc f59 [1,1]) (KQ prog Γ N (wB prog f59 [fN] [(3,r.1.map aP.c)] (D.int .i64 r.2)) (Ac f59 [1,1])) ⟨[(1,D.int .i64 cL)],[Ob.fG 3 (bQ.map aP.c) (some fN)]⟩):∀(rest:b7) (bh:b7) (b8:Int),bh.length+rest.length<=maxLen->gV k1 rest bh b8=some r->Pz prog Γ (lc f59 [1,0,1,0,0]) (KQ prog Γ N (wB prog f59 [fN] [(3,r.1.map aP.c)] (D.int .i64 r.2)) (Ac f59 [1,0,1,0])) (rest.length+1) ⟨[(0,D.acc 0),(1,D.int .i64 b8),(5,D.int .i64 (bh.length:Int))],[Ob.fG 3 (bh.map aP.c++rest.map aP.c) (some fN)]⟩:=by
 intro rest
 induction rest with
 |nil=>
  intro bh b8 hm1 h;rw[gV]at h;refine aO fun N1 bz bg=>?_
  have t:=QH (N:=N) (N':=N1) (K0:=(Ac f59 [1,0,1,0])) (by kernel_rfl) bz (cX bh b8 h);refine gC (n:=2000) 1 [bF,.hl 0 [1] [0]] (.at_ (lc f59 [1,1]) (Ac f59 [1,1]) ⟨[(1,D.int .i64 b8)],[Ob.fG 3 (bh.map aP.c++([]:b7).map aP.c) (some fN)]⟩) hΓ CO (by kernel_rfl) (ow (show(decide (((bh.length:Int):Int)<((bh.map aP.c++([]:b7).map aP.c).length:Int)))=false from(D9 _)) E4) ?_;refine xX (s:=⟨[(1,D.int .i64 b8)],[Ob.fG 3 (bh.map aP.c++([]:b7).map aP.c) (some fN)]⟩) ?_ t;simp only[bW,cN]
 |cons bD bZ ih1=>
  intro bh b8 hm1 h;rw[gV]at h;refine aO fun N1 bz bg=>?_
  obtain⟨y1,h2,h⟩:=aD h;obtain⟨y3,h4,h⟩:=aD h;obtain⟨y5,h6,h⟩:=aD h;have t:=ih1 (bh++[(⟨(⟨y1,y3.1⟩:aE),y5.1⟩:aP)]) y5.2 (by simp only[aX,aK,bK]at hm1⊢;omega) h;let Pa:aR:=[D.str y1,D.any,D.sl (bD.facts.map aE.c)]
  let Kg:aR:=[D.str y1,D.sl (y3.1.map tx),D.sl (bD.facts.map aE.c)]
  let MY:aR:=[D.str y1,D.sl (bD.shape.args.map tx),D.sl (bD.facts.map aE.c)]
  let Pb:aR:=[D.str bD.shape.rel,D.sl (bD.shape.args.map tx),D.sl (bD.facts.map aE.c)]
  let Kh:List aR:=(bh.map aP.c++(Pb::bZ.map aP.c))
  let MZ:List aR:=((Kh.set bh.length MY).set bh.length Pa)
  refine gC (n:=2000) 1 [bT,.d (D.str y1),.ix (bh.length),.row Pb,.ix (bh.length),.row MY,.gv [1] [(1,y3.1.map tx)] (D.int .i64 y3.2),.mg 0 bh.length 1 Pa,.ix (bh.length),.row Kg,.gv [2] [(2,y5.1.map aE.c)] (D.int .i64 y5.2),.mg 0 bh.length 2 [D.str y1,D.sl (y3.1.map tx),D.any],.cn [0,1,5] [0]] (.cont 0 ⟨[(0,D.acc 0),(1,D.int .i64 y5.2),(5,D.int .i64 (IntKind.i64.wrap ((bh.length:Int)+1)))],[Ob.fG 3 (((MZ.set bh.length Kg).set bh.length [D.str y1,D.sl (y3.1.map tx),D.any]).set bh.length [D.str y1,D.sl (y3.1.map tx),D.sl (y5.1.map aE.c)]) (some fN)]⟩) hΓ CO (by kernel_rfl) (ow (show(decide (((bh.length:Int):Int)<(Kh.length:Int)))=true from(DC _ _ _)) (ow (bn h2) (ow (show(bh.length:Int)=((bh.length:Nat):Int)/\bh.length<Kh.length from⟨rfl,by simp only[MZ,Kh,Pb,MY,Kg,Pa,bf,aX,aa,aK];omega⟩) (ow (show Kh[bh.length]?=some Pb from by(try simp only[MZ,Kh,Pb,MY,Kg,Pa,dA]);exact di _ _ _) (ow (show(bh.length:Int)=((bh.length:Nat):Int)/\bh.length<(Kh.set bh.length MY).length from⟨rfl,by simp only[MZ,Kh,Pb,MY,Kg,Pa,bf,aX,aa,aK];omega⟩) (ow (show(Kh.set bh.length MY)[bh.length]?=some MY from by(try simp only[MZ,Kh,Pb,MY,Kg,Pa,dA]);exact di _ _ _) (ow (show∀q∈(bD.shape.args.map tx),q.length=1 from by simp) (ow (lC h4) (ow (show MZ[bh.length]?=some Pa from by(try simp only[MZ,Kh,Pb,MY,Kg,Pa,dA]);exact di _ _ _) (ow (show(bh.length*3+1)=bh.length*3+1 from rfl) (ow (show(bh.length:Int)=((bh.length:Nat):Int)/\bh.length<(MZ.set bh.length Kg).length from⟨rfl,by simp only[MZ,Kh,Pb,MY,Kg,Pa,bf,aX,aa,aK];omega⟩) (ow (show(MZ.set bh.length Kg)[bh.length]?=some Kg from by(try simp only[MZ,Kh,Pb,MY,Kg,Pa,dA]);exact di _ _ _) (ow (show∀q∈(bD.facts.map aE.c),q.length=2 from by simp) (ow (vi h6) (ow (show((MZ.set bh.length Kg).set bh.length [D.str y1,D.sl (y3.1.map tx),D.any])[bh.length]?=some [D.str y1,D.sl (y3.1.map tx),D.any]from by(try simp only[MZ,Kh,Pb,MY,Kg,Pa,dA]);exact di _ _ _) (ow (show(bh.length*3+2)=bh.length*3+2 from rfl) E4)))))))))))))))) ?_;refine(congrFun bg _).mpr ?_;rw[zq (by simp only[aK]at hm1;omega)];simp only[MZ,Kh,Pb,MY,Kg,Pa,dA];simp only[bN,bG,bW,bY,dS,cI,aX,aK,bK]at t⊢;exact t
theorem Eg{aB:b7}{aW:Int}{r:b7×Int}(h:rP aB aW=some r):tu prog 59 [D.acc 0,D.int .i64 aW] [(3,aB.map aP.c)] [(3,r.1.map aP.c)] (D.int .i64 r.2):=by
 refine tu.of (c:=lR f59) func59 rfl (by decide) (by simp[f59]) rfl rfl ?_;intro hr Γ hΓ vs hvs
 match vs,hvs with
 | [fN],_=>
 have hΓ:Γ.nt=37:=hΓ;rw[rP]at h;refine(show AW prog Γ (lR f59) (KQ prog Γ (fun _ _=>False) (wB prog f59 [fN] [(3,r.1.map aP.c)] (D.int .i64 r.2)) []) _ from ?_);refine gC (n:=2000) 1 [.cn [0,1,5] [0]] (.lp (lc f59 [1,0,1,0,0]) (Ac f59 [1,0,1,0]) ⟨[(0,D.acc 0),(1,D.int .i64 aW),(5,D.int .i64 0)],[Ob.fG 3 (aB.map aP.c) (some fN)]⟩) hΓ CO (by kernel_rfl) E4 (xX (by rfl) (ym (Fq hΓ (fun bQ cL h=>?_) aB [] aW (by have:=hr _ (aC (i:=0) rfl);simpa using this) h)));have h:=aG h;subst h;exact gC (n:=2000) 1 [] (.ret (D.gZ [D.int .i64 cL,D.agg [D.fr 0 3 (bQ.map aP.c),D.val fN]])) hΓ CO (by kernel_rfl) E4 rfl
def iI(k1:aT->Int->Option (aT×Int)):aT->aT->Int->Option (aT×Int)
 | [],bh,b8=>(k1 bh b8)
 |bD::bZ,bh,b8=>((cC b8).bind fun y1=>((cC (IntKind.i64.wrap (b8+1))).bind fun y3=>(iI k1 bZ (bh++[(⟨y1,y3⟩:aS)]) (IntKind.i64.wrap ((IntKind.i64.wrap (b8+1))+1)))))
def tO(aB:aT)(aW:Int):Option (aT×Int):=(iI (fun(bQ:aT) (cL:Int)=>(some (bQ,cL))) aB [] aW)
theorem HH{Γ:w5}(hΓ:Γ.nt=29){N:Nat->St->Prop}{fN:Value}{r:aT×Int}{k1:aT->Int->Option (aT×Int)}(cX:∀(bQ:aT) (cL:Int),k1 bQ cL=some r->AW prog Γ (lc f75 [1,1]) (KQ prog Γ N (wB prog f75 [fN] [(2,r.1.map aS.c)] (D.int .i64 r.2)) (Ac f75 [1,1])) ⟨[(1,D.int .i64 cL)],[Ob.fG 2 (bQ.map aS.c) (some fN)]⟩):∀(rest:aT) (bh:aT) (b8:Int),bh.length+rest.length<=maxLen->iI k1 rest bh b8=some r->Pz prog Γ (lc f75 [1,0,1,0,0]) (KQ prog Γ N (wB prog f75 [fN] [(2,r.1.map aS.c)] (D.int .i64 r.2)) (Ac f75 [1,0,1,0])) (rest.length+1) ⟨[(0,D.acc 0),(1,D.int .i64 b8),(5,D.int .i64 (bh.length:Int))],[Ob.fG 2 (bh.map aS.c++rest.map aS.c) (some fN)]⟩:=by
 intro rest
 induction rest with
 |nil=>
  intro bh b8 hm1 h;rw[iI]at h;refine aO fun N1 bz bg=>?_
  have t:=QH (N:=N) (N':=N1) (K0:=(Ac f75 [1,0,1,0])) (by kernel_rfl) bz (cX bh b8 h);refine gC (n:=2000) 1 [bF,.hl 0 [1] [0]] (.at_ (lc f75 [1,1]) (Ac f75 [1,1]) ⟨[(1,D.int .i64 b8)],[Ob.fG 2 (bh.map aS.c++([]:aT).map aS.c) (some fN)]⟩) hΓ CO (by kernel_rfl) (ow (show(decide (((bh.length:Int):Int)<((bh.map aS.c++([]:aT).map aS.c).length:Int)))=false from(D9 _)) E4) ?_;refine xX (s:=⟨[(1,D.int .i64 b8)],[Ob.fG 2 (bh.map aS.c++([]:aT).map aS.c) (some fN)]⟩) ?_ t;simp only[bW,cN]
 |cons bD bZ ih1=>
  intro bh b8 hm1 h;rw[iI]at h;refine aO fun N1 bz bg=>?_
  obtain⟨y1,h2,h⟩:=aD h;obtain⟨y3,h4,h⟩:=aD h;have t:=ih1 (bh++[(⟨y1,y3⟩:aS)]) (IntKind.i64.wrap ((IntKind.i64.wrap (b8+1))+1)) (by simp only[aX,aK,bK]at hm1⊢;omega) h;let TC:List aR:=(bh.map aS.c++([D.str bD.var,D.str bD.value]::bZ.map aS.c))
  let Uf:List aR:=(TC.set bh.length [D.str y1,D.str bD.value])
  refine gC (n:=2000) 1 [bT,.d (D.str y1),.ix (bh.length),.row [D.str bD.var,D.str bD.value],.d (D.str y3),.ix (bh.length),.row [D.str y1,D.str bD.value],.cn [0,1,5] [0]] (.cont 0 ⟨[(0,D.acc 0),(1,D.int .i64 (IntKind.i64.wrap ((IntKind.i64.wrap (b8+1))+1))),(5,D.int .i64 (IntKind.i64.wrap ((bh.length:Int)+1)))],[Ob.fG 2 (Uf.set bh.length [D.str y1,D.str y3]) (some fN)]⟩) hΓ CO (by kernel_rfl) (ow (show(decide (((bh.length:Int):Int)<(TC.length:Int)))=true from(DC _ _ _)) (ow (bn h2) (ow (show(bh.length:Int)=((bh.length:Nat):Int)/\bh.length<TC.length from⟨rfl,by simp only[Uf,TC,bf,aX,aa,aK];omega⟩) (ow (show TC[bh.length]?=some [D.str bD.var,D.str bD.value]from by(try simp only[Uf,TC,dA]);exact di _ _ _) (ow (bn h4) (ow (show(bh.length:Int)=((bh.length:Nat):Int)/\bh.length<Uf.length from⟨rfl,by simp only[Uf,TC,bf,aX,aa,aK];omega⟩) (ow (show Uf[bh.length]?=some [D.str y1,D.str bD.value]from by(try simp only[Uf,TC,dA]);exact di _ _ _) E4))))))) ?_;refine(congrFun bg _).mpr ?_;rw[zq (by simp only[aK]at hm1;omega)];simp only[Uf,TC,dA];simp only[bN,bG,bW,bY,dS,cI,aX,aK,bK]at t⊢;exact t
theorem Fv{aB:aT}{aW:Int}{r:aT×Int}(h:tO aB aW=some r):tu prog 75 [D.acc 0,D.int .i64 aW] [(2,aB.map aS.c)] [(2,r.1.map aS.c)] (D.int .i64 r.2):=by
 refine tu.of (c:=lR f75) func75 rfl (by decide) (by simp[f75]) rfl rfl ?_;intro hr Γ hΓ vs hvs
 match vs,hvs with
 | [fN],_=>
 have hΓ:Γ.nt=29:=hΓ;rw[tO]at h;refine(show AW prog Γ (lR f75) (KQ prog Γ (fun _ _=>False) (wB prog f75 [fN] [(2,r.1.map aS.c)] (D.int .i64 r.2)) []) _ from ?_);refine gC (n:=2000) 1 [.cn [0,1,5] [0]] (.lp (lc f75 [1,0,1,0,0]) (Ac f75 [1,0,1,0]) ⟨[(0,D.acc 0),(1,D.int .i64 aW),(5,D.int .i64 0)],[Ob.fG 2 (aB.map aS.c) (some fN)]⟩) hΓ CO (by kernel_rfl) E4 (xX (by rfl) (ym (HH hΓ (fun bQ cL h=>?_) aB [] aW (by have:=hr _ (aC (i:=0) rfl);simpa using this) h)));have h:=aG h;subst h;exact gC (n:=2000) 1 [] (.ret (D.gZ [D.int .i64 cL,D.agg [D.fr 0 2 (bQ.map aS.c),D.val fN]])) hΓ CO (by kernel_rfl) E4 rfl
def gW(k1:ah->Int->Option (ah×Int)):ah->ah->Int->Option (ah×Int)
 | [],bh,b8=>(k1 bh b8)
 |bD::bZ,bh,b8=>((nK bD.facts b8).bind fun y1=>((tO bD.bind y1.2).bind fun y3=>(gW k1 bZ (bh++[(⟨y1.1,y3.1⟩:aI)]) y3.2)))
def rQ(aB:ah)(aW:Int):Option (ah×Int):=(gW (fun(bQ:ah) (cL:Int)=>(some (bQ,cL))) aB [] aW)
theorem Fx{Γ:w5}(hΓ:Γ.nt=27){N:Nat->St->Prop}{fN:Value}{r:ah×Int}{k1:ah->Int->Option (ah×Int)}(cX:∀(bQ:ah) (cL:Int),k1 bQ cL=some r->AW prog Γ (lc f119 [1,1]) (KQ prog Γ N (wB prog f119 [fN] [(2,r.1.map aI.c)] (D.int .i64 r.2)) (Ac f119 [1,1])) ⟨[(1,D.int .i64 cL)],[Ob.fG 2 (bQ.map aI.c) (some fN)]⟩):∀(rest:ah) (bh:ah) (b8:Int),bh.length+rest.length<=maxLen->gW k1 rest bh b8=some r->Pz prog Γ (lc f119 [1,0,1,0,0]) (KQ prog Γ N (wB prog f119 [fN] [(2,r.1.map aI.c)] (D.int .i64 r.2)) (Ac f119 [1,0,1,0])) (rest.length+1) ⟨[(0,D.acc 0),(1,D.int .i64 b8),(5,D.int .i64 (bh.length:Int))],[Ob.fG 2 (bh.map aI.c++rest.map aI.c) (some fN)]⟩:=by
 intro rest
 induction rest with
 |nil=>
  intro bh b8 hm1 h;rw[gW]at h;refine aO fun N1 bz bg=>?_
  have t:=QH (N:=N) (N':=N1) (K0:=(Ac f119 [1,0,1,0])) (by kernel_rfl) bz (cX bh b8 h);refine gC (n:=2000) 1 [bF,.hl 0 [1] [0]] (.at_ (lc f119 [1,1]) (Ac f119 [1,1]) ⟨[(1,D.int .i64 b8)],[Ob.fG 2 (bh.map aI.c++([]:ah).map aI.c) (some fN)]⟩) hΓ CO (by kernel_rfl) (ow (show(decide (((bh.length:Int):Int)<((bh.map aI.c++([]:ah).map aI.c).length:Int)))=false from(D9 _)) E4) ?_;refine xX (s:=⟨[(1,D.int .i64 b8)],[Ob.fG 2 (bh.map aI.c++([]:ah).map aI.c) (some fN)]⟩) ?_ t;simp only[bW,cN]
 |cons bD bZ ih1=>
  intro bh b8 hm1 h;rw[gW]at h;refine aO fun N1 bz bg=>?_
  obtain⟨y1,h2,h⟩:=aD h;obtain⟨y3,h4,h⟩:=aD h;have t:=ih1 (bh++[(⟨y1.1,y3.1⟩:aI)]) y3.2 (by simp only[aX,aK,bK]at hm1⊢;omega) h;let OG:aR:=[D.sl (y1.1.map aE.c),D.sl (bD.bind.map aS.c)]
  let Rq:aR:=[D.sl (bD.facts.map aE.c),D.sl (bD.bind.map aS.c)]
  let QN:List aR:=(bh.map aI.c++(Rq::bZ.map aI.c))
  let Pc:List aR:=(QN.set bh.length [D.any,D.sl (bD.bind.map aS.c)])
  refine gC (n:=2000) 1 [bT,.ix (bh.length),.row Rq,.gv [1] [(2,y1.1.map aE.c)] (D.int .i64 y1.2),.mg 0 bh.length 0 [D.any,D.sl (bD.bind.map aS.c)],.ix (bh.length),.row OG,.gv [2] [(2,y3.1.map aS.c)] (D.int .i64 y3.2),.mg 0 bh.length 1 [D.sl (y1.1.map aE.c),D.any],.cn [0,1,5] [0]] (.cont 0 ⟨[(0,D.acc 0),(1,D.int .i64 y3.2),(5,D.int .i64 (IntKind.i64.wrap ((bh.length:Int)+1)))],[Ob.fG 2 (((Pc.set bh.length OG).set bh.length [D.sl (y1.1.map aE.c),D.any]).set bh.length [D.sl (y1.1.map aE.c),D.sl (y3.1.map aS.c)]) (some fN)]⟩) hΓ CO (by kernel_rfl) (ow (show(decide (((bh.length:Int):Int)<(QN.length:Int)))=true from(DC _ _ _)) (ow (show(bh.length:Int)=((bh.length:Nat):Int)/\bh.length<QN.length from⟨rfl,by simp only[Pc,QN,Rq,OG,bf,aX,aa,aK];omega⟩) (ow (show QN[bh.length]?=some Rq from by(try simp only[Pc,QN,Rq,OG,dA]);exact di _ _ _) (ow (show∀q∈(bD.facts.map aE.c),q.length=2 from by simp) (ow (vi h2) (ow (show Pc[bh.length]?=some [D.any,D.sl (bD.bind.map aS.c)]from by(try simp only[Pc,QN,Rq,OG,dA]);exact di _ _ _) (ow (show(bh.length*2+0)=bh.length*2+0 from rfl) (ow (show(bh.length:Int)=((bh.length:Nat):Int)/\bh.length<(Pc.set bh.length OG).length from⟨rfl,by simp only[Pc,QN,Rq,OG,bf,aX,aa,aK];omega⟩) (ow (show(Pc.set bh.length OG)[bh.length]?=some OG from by(try simp only[Pc,QN,Rq,OG,dA]);exact di _ _ _) (ow (show∀q∈(bD.bind.map aS.c),q.length=2 from by simp) (ow (Fv h4) (ow (show((Pc.set bh.length OG).set bh.length [D.sl (y1.1.map aE.c),D.any])[bh.length]?=some [D.sl (y1.1.map aE.c),D.any]from by(try simp only[Pc,QN,Rq,OG,dA]);exact di _ _ _) (ow (show(bh.length*2+1)=bh.length*2+1 from rfl) E4))))))))))))) ?_;refine(congrFun bg _).mpr ?_;rw[zq (by simp only[aK]at hm1;omega)];simp only[Pc,QN,Rq,OG,dA];simp only[bN,bG,bW,bY,dS,cI,aX,aK,bK]at t⊢;exact t
theorem Ei{aB:ah}{aW:Int}{r:ah×Int}(h:rQ aB aW=some r):tu prog 119 [D.acc 0,D.int .i64 aW] [(2,aB.map aI.c)] [(2,r.1.map aI.c)] (D.int .i64 r.2):=by
 refine tu.of (c:=lR f119) func119 rfl (by decide) (by simp[f119]) rfl rfl ?_;intro hr Γ hΓ vs hvs
 match vs,hvs with
 | [fN],_=>
 have hΓ:Γ.nt=27:=hΓ;rw[rQ]at h;refine(show AW prog Γ (lR f119) (KQ prog Γ (fun _ _=>False) (wB prog f119 [fN] [(2,r.1.map aI.c)] (D.int .i64 r.2)) []) _ from ?_);refine gC (n:=2000) 1 [.cn [0,1,5] [0]] (.lp (lc f119 [1,0,1,0,0]) (Ac f119 [1,0,1,0]) ⟨[(0,D.acc 0),(1,D.int .i64 aW),(5,D.int .i64 0)],[Ob.fG 2 (aB.map aI.c) (some fN)]⟩) hΓ CO (by kernel_rfl) E4 (xX (by rfl) (ym (Fx hΓ (fun bQ cL h=>?_) aB [] aW (by have:=hr _ (aC (i:=0) rfl);simpa using this) h)));have h:=aG h;subst h;exact gC (n:=2000) 1 [] (.ret (D.gZ [D.int .i64 cL,D.agg [D.fr 0 2 (bQ.map aI.c),D.val fN]])) hΓ CO (by kernel_rfl) E4 rfl
def iH(k1:ay->Int->Option (ay×Int)):ay->ay->Int->Option (ay×Int)
 | [],bh,b8=>(k1 bh b8)
 |bD::bZ,bh,b8=>((cC (IntKind.i64.wrap ((IntKind.i64.wrap (b8+1))+1))).bind fun y1=>((gi bD.cond.pat.args (IntKind.i64.wrap ((IntKind.i64.wrap ((IntKind.i64.wrap (b8+1))+1))+1))).bind fun y3=>((cC y3.2).bind fun y5=>((cC (IntKind.i64.wrap (y3.2+1))).bind fun y7=>((rQ bD.tokens (IntKind.i64.wrap ((IntKind.i64.wrap ((IntKind.i64.wrap (y3.2+1))+1))+1))).bind fun y9=>(iH k1 bZ (bh++[(⟨b8,(⟨IntKind.i64.wrap (b8+1),(⟨y1,y3.1⟩:aE),y5,y7⟩:aQ),IntKind.i64.wrap ((IntKind.i64.wrap (y3.2+1))+1),y9.1⟩:Node)]) y9.2))))))
def tN(aB:ay)(aW:Int):Option (ay×Int):=(iH (fun(bQ:ay) (cL:Int)=>(some (bQ,cL))) aB [] aW)
theorem HG{Γ:w5}(hΓ:Γ.nt=79){N:Nat->St->Prop}{fN:Value}{r:ay×Int}{k1:ay->Int->Option (ay×Int)}(cX:∀(bQ:ay) (cL:Int),k1 bQ cL=some r->AW prog Γ (lc f60 [1,1]) (KQ prog Γ N (wB prog f60 [fN] [(8,r.1.map Node.c)] (D.int .i64 r.2)) (Ac f60 [1,1])) ⟨[(1,D.int .i64 cL)],[Ob.fG 8 (bQ.map Node.c) (some fN)]⟩):∀(rest:ay) (bh:ay) (b8:Int),bh.length+rest.length<=maxLen->iH k1 rest bh b8=some r->Pz prog Γ (lc f60 [1,0,1,0,0]) (KQ prog Γ N (wB prog f60 [fN] [(8,r.1.map Node.c)] (D.int .i64 r.2)) (Ac f60 [1,0,1,0])) (rest.length+1) ⟨[(0,D.acc 0),(1,D.int .i64 b8),(5,D.int .i64 (bh.length:Int))],[Ob.fG 8 (bh.map Node.c++rest.map Node.c) (some fN)]⟩:=by
 intro rest
 induction rest with
 |nil=>
  intro bh b8 hm1 h;rw[iH]at h;refine aO fun N1 bz bg=>?_
  have t:=QH (N:=N) (N':=N1) (K0:=(Ac f60 [1,0,1,0])) (by kernel_rfl) bz (cX bh b8 h);refine gC (n:=2000) 1 [bF,.hl 0 [1] [0]] (.at_ (lc f60 [1,1]) (Ac f60 [1,1]) ⟨[(1,D.int .i64 b8)],[Ob.fG 8 (bh.map Node.c++([]:ay).map Node.c) (some fN)]⟩) hΓ CO (by kernel_rfl) (ow (show(decide (((bh.length:Int):Int)<((bh.map Node.c++([]:ay).map Node.c).length:Int)))=false from(D9 _)) E4) ?_;refine xX (s:=⟨[(1,D.int .i64 b8)],[Ob.fG 8 (bh.map Node.c++([]:ay).map Node.c) (some fN)]⟩) ?_ t;simp only[bW,cN]
 |cons bD bZ ih1=>
  intro bh b8 hm1 h;rw[iH]at h;refine aO fun N1 bz bg=>?_
  obtain⟨y1,h2,h⟩:=aD h;obtain⟨y3,h4,h⟩:=aD h;obtain⟨y5,h6,h⟩:=aD h;obtain⟨y7,h8,h⟩:=aD h;obtain⟨y9,h10,h⟩:=aD h;have t:=ih1 (bh++[(⟨b8,(⟨IntKind.i64.wrap (b8+1),(⟨y1,y3.1⟩:aE),y5,y7⟩:aQ),IntKind.i64.wrap ((IntKind.i64.wrap (y3.2+1))+1),y9.1⟩:Node)]) y9.2 (by simp only[aX,aK,bK]at hm1⊢;omega) h;let CS:aR:=[D.int .i64 b8,D.int .i64 (IntKind.i64.wrap (b8+1)),D.str y1,D.sl (y3.1.map tx),D.str y5,D.str y7,D.int .i64 bD.cP,D.sl (bD.tokens.map aI.c)]
  let Bl:aR:=[D.int .i64 b8,D.int .i64 (IntKind.i64.wrap (b8+1)),D.str y1,D.any,D.str bD.cond.left,D.str bD.cond.right,D.int .i64 bD.cP,D.sl (bD.tokens.map aI.c)]
  let BI:aR:=[D.int .i64 b8,D.int .i64 (IntKind.i64.wrap (b8+1)),D.str y1,D.sl (y3.1.map tx),D.str y5,D.str bD.cond.right,D.int .i64 bD.cP,D.sl (bD.tokens.map aI.c)]
  let CT:aR:=[D.int .i64 b8,D.int .i64 (IntKind.i64.wrap (b8+1)),D.str y1,D.sl (y3.1.map tx),D.str bD.cond.left,D.str bD.cond.right,D.int .i64 bD.cP,D.sl (bD.tokens.map aI.c)]
  let Bm:aR:=[D.int .i64 b8,D.int .i64 (IntKind.i64.wrap (b8+1)),D.str y1,D.sl (y3.1.map tx),D.str y5,D.str y7,D.int .i64 (IntKind.i64.wrap ((IntKind.i64.wrap (y3.2+1))+1)),D.any]
  let CU:aR:=[D.int .i64 b8,D.int .i64 bD.cond.kind,D.str bD.cond.pat.rel,D.sl (bD.cond.pat.args.map tx),D.str bD.cond.left,D.str bD.cond.right,D.int .i64 bD.cP,D.sl (bD.tokens.map aI.c)]
  let CV:aR:=[D.int .i64 b8,D.int .i64 (IntKind.i64.wrap (b8+1)),D.str y1,D.sl (bD.cond.pat.args.map tx),D.str bD.cond.left,D.str bD.cond.right,D.int .i64 bD.cP,D.sl (bD.tokens.map aI.c)]
  let Ah:aR:=[D.int .i64 bD.parent,D.int .i64 bD.cond.kind,D.str bD.cond.pat.rel,D.sl (bD.cond.pat.args.map tx),D.str bD.cond.left,D.str bD.cond.right,D.int .i64 bD.cP,D.sl (bD.tokens.map aI.c)]
  let BJ:List aR:=((bh.map Node.c++(Ah::bZ.map Node.c)).set bh.length CU)
  let Ai:aR:=[D.int .i64 b8,D.int .i64 (IntKind.i64.wrap (b8+1)),D.str y1,D.sl (y3.1.map tx),D.str y5,D.str y7,D.int .i64 (IntKind.i64.wrap ((IntKind.i64.wrap (y3.2+1))+1)),D.sl (bD.tokens.map aI.c)]
  let BK:aR:=[D.int .i64 b8,D.int .i64 (IntKind.i64.wrap (b8+1)),D.str bD.cond.pat.rel,D.sl (bD.cond.pat.args.map tx),D.str bD.cond.left,D.str bD.cond.right,D.int .i64 bD.cP,D.sl (bD.tokens.map aI.c)]
  let Bn:List aR:=((BJ.set bh.length BK).set bh.length CV)
  let BL:List aR:=((Bn.set bh.length Bl).set bh.length CT)
  let Aj:List aR:=((BL.set bh.length BI).set bh.length CS)
  refine gC (n:=2000) 1 [bT,.ix (bh.length),.row Ah,.ix (bh.length),.row CU,.d (D.str y1),.ix (bh.length),.row BK,.ix (bh.length),.row CV,.gv [1] [(1,y3.1.map tx)] (D.int .i64 y3.2),.mg 0 bh.length 3 Bl,.d (D.str y5),.ix (bh.length),.row CT,.d (D.str y7),.ix (bh.length),.row BI,.ix (bh.length),.row CS,.ix (bh.length),.row Ai,.gv [2] [(2,y9.1.map aI.c)] (D.int .i64 y9.2),.mg 0 bh.length 7 Bm,.cn [0,1,5] [0]] (.cont 0 ⟨[(0,D.acc 0),(1,D.int .i64 y9.2),(5,D.int .i64 (IntKind.i64.wrap ((bh.length:Int)+1)))],[Ob.fG 8 (((Aj.set bh.length Ai).set bh.length Bm).set bh.length [D.int .i64 b8,D.int .i64 (IntKind.i64.wrap (b8+1)),D.str y1,D.sl (y3.1.map tx),D.str y5,D.str y7,D.int .i64 (IntKind.i64.wrap ((IntKind.i64.wrap (y3.2+1))+1)),D.sl (y9.1.map aI.c)]) (some fN)]⟩) hΓ CO (by kernel_rfl) (ow (show(decide (((bh.length:Int):Int)<((bh.map Node.c++(Ah::bZ.map Node.c)).length:Int)))=true from(DC _ _ _)) (ow (show(bh.length:Int)=((bh.length:Nat):Int)/\bh.length<(bh.map Node.c++(Ah::bZ.map Node.c)).length from⟨rfl,by simp only[Aj,BL,Bn,BK,Ai,BJ,Ah,CV,CU,Bm,CT,BI,Bl,CS,bf,aX,aa,aK];omega⟩) (ow (show(bh.map Node.c++(Ah::bZ.map Node.c))[bh.length]?=some Ah from by(try simp only[Aj,BL,Bn,BK,Ai,BJ,Ah,CV,CU,Bm,CT,BI,Bl,CS,dA]);exact di _ _ _) (ow (show(bh.length:Int)=((bh.length:Nat):Int)/\bh.length<BJ.length from⟨rfl,by simp only[Aj,BL,Bn,BK,Ai,BJ,Ah,CV,CU,Bm,CT,BI,Bl,CS,bf,aX,aa,aK];omega⟩) (ow (show BJ[bh.length]?=some CU from by(try simp only[Aj,BL,Bn,BK,Ai,BJ,Ah,CV,CU,Bm,CT,BI,Bl,CS,dA]);exact di _ _ _) (ow (bn h2) (ow (show(bh.length:Int)=((bh.length:Nat):Int)/\bh.length<(BJ.set bh.length BK).length from⟨rfl,by simp only[Aj,BL,Bn,BK,Ai,BJ,Ah,CV,CU,Bm,CT,BI,Bl,CS,bf,aX,aa,aK];omega⟩) (ow (show(BJ.set bh.length BK)[bh.length]?=some BK from by(try simp only[Aj,BL,Bn,BK,Ai,BJ,Ah,CV,CU,Bm,CT,BI,Bl,CS,dA]);exact di _ _ _) (ow (show(bh.length:Int)=((bh.length:Nat):Int)/\bh.length<Bn.length from⟨rfl,by simp only[Aj,BL,Bn,BK,Ai,BJ,Ah,CV,CU,Bm,CT,BI,Bl,CS,bf,aX,aa,aK];omega⟩) (ow (show Bn[bh.length]?=some CV from by(try simp only[Aj,BL,Bn,BK,Ai,BJ,Ah,CV,CU,Bm,CT,BI,Bl,CS,dA]);exact di _ _ _) (ow (show∀q∈(bD.cond.pat.args.map tx),q.length=1 from by simp) (ow (lC h4) (ow (show(Bn.set bh.length Bl)[bh.length]?=some Bl from by(try simp only[Aj,BL,Bn,BK,Ai,BJ,Ah,CV,CU,Bm,CT,BI,Bl,CS,dA]);exact di _ _ _) (ow (show(bh.length*8+3)=bh.length*8+3 from rfl) (ow (bn h6) (ow (show(bh.length:Int)=((bh.length:Nat):Int)/\bh.length<BL.length from⟨rfl,by simp only[Aj,BL,Bn,BK,Ai,BJ,Ah,CV,CU,Bm,CT,BI,Bl,CS,bf,aX,aa,aK];omega⟩) (ow (show BL[bh.length]?=some CT from by(try simp only[Aj,BL,Bn,BK,Ai,BJ,Ah,CV,CU,Bm,CT,BI,Bl,CS,dA]);exact di _ _ _) (ow (bn h8) (ow (show(bh.length:Int)=((bh.length:Nat):Int)/\bh.length<(BL.set bh.length BI).length from⟨rfl,by simp only[Aj,BL,Bn,BK,Ai,BJ,Ah,CV,CU,Bm,CT,BI,Bl,CS,bf,aX,aa,aK];omega⟩) (ow (show(BL.set bh.length BI)[bh.length]?=some BI from by(try simp only[Aj,BL,Bn,BK,Ai,BJ,Ah,CV,CU,Bm,CT,BI,Bl,CS,dA]);exact di _ _ _) (ow (show(bh.length:Int)=((bh.length:Nat):Int)/\bh.length<Aj.length from⟨rfl,by simp only[Aj,BL,Bn,BK,Ai,BJ,Ah,CV,CU,Bm,CT,BI,Bl,CS,bf,aX,aa,aK];omega⟩) (ow (show Aj[bh.length]?=some CS from by(try simp only[Aj,BL,Bn,BK,Ai,BJ,Ah,CV,CU,Bm,CT,BI,Bl,CS,dA]);exact di _ _ _) (ow (show(bh.length:Int)=((bh.length:Nat):Int)/\bh.length<(Aj.set bh.length Ai).length from⟨rfl,by simp only[Aj,BL,Bn,BK,Ai,BJ,Ah,CV,CU,Bm,CT,BI,Bl,CS,bf,aX,aa,aK];omega⟩) (ow (show(Aj.set bh.length Ai)[bh.length]?=some Ai from by(try simp only[Aj,BL,Bn,BK,Ai,BJ,Ah,CV,CU,Bm,CT,BI,Bl,CS,dA]);exact di _ _ _) (ow (show∀q∈(bD.tokens.map aI.c),q.length=2 from by simp) (ow (Ei h10) (ow (show((Aj.set bh.length Ai).set bh.length Bm)[bh.length]?=some Bm from by(try simp only[Aj,BL,Bn,BK,Ai,BJ,Ah,CV,CU,Bm,CT,BI,Bl,CS,dA]);exact di _ _ _) (ow (show(bh.length*8+7)=bh.length*8+7 from rfl) E4)))))))))))))))))))))))))))) ?_;refine(congrFun bg _).mpr ?_;rw[zq (by simp only[aK]at hm1;omega)];simp only[Aj,BL,Bn,BK,Ai,BJ,Ah,CV,CU,Bm,CT,BI,Bl,CS,dA];simp only[bN,bG,bW,bY,dS,cI,aX,aK,bK]at t⊢
  exact t
theorem Fu{aB:ay}{aW:Int}{r:ay×Int}(h:tN aB aW=some r):tu prog 60 [D.acc 0,D.int .i64 aW] [(8,aB.map Node.c)] [(8,r.1.map Node.c)] (D.int .i64 r.2):=by
 refine tu.of (c:=lR f60) func60 rfl (by decide) (by simp[f60]) rfl rfl ?_;intro hr Γ hΓ vs hvs
 match vs,hvs with
 | [fN],_=>
 have hΓ:Γ.nt=79:=hΓ;rw[tN]at h;refine(show AW prog Γ (lR f60) (KQ prog Γ (fun _ _=>False) (wB prog f60 [fN] [(8,r.1.map Node.c)] (D.int .i64 r.2)) []) _ from ?_);refine gC (n:=2000) 1 [.cn [0,1,5] [0]] (.lp (lc f60 [1,0,1,0,0]) (Ac f60 [1,0,1,0]) ⟨[(0,D.acc 0),(1,D.int .i64 aW),(5,D.int .i64 0)],[Ob.fG 8 (aB.map Node.c) (some fN)]⟩) hΓ CO (by kernel_rfl) E4 (xX (by rfl) (ym (HG hΓ (fun bQ cL h=>?_) aB [] aW (by have:=hr _ (aC (i:=0) rfl);simpa using this) h)));have h:=aG h;subst h;exact gC (n:=2000) 1 [] (.ret (D.gZ [D.int .i64 cL,D.agg [D.fr 0 8 (bQ.map Node.c),D.val fN]])) hΓ CO (by kernel_rfl) E4 rfl
def kT(aB:aF)(aW:Int):Option (aF×Int):=((tP aB.rules aW).bind fun y1=>((uc aB.ends y1.2).bind fun y3=>((rP aB.av y3.2).bind fun y5=>((tN aB.nodes y5.2).bind fun y7=>((nK aB.facts y7.2).bind fun y9=>(some ((⟨y1.1,y3.1,y5.1,y7.1,y9.1,aB.bw⟩:aF),y9.2)))))))
theorem yT{aB:aF}{aW:Int}{r:aF×Int}(h:kT aB aW=some r):tu prog 19 [D.agg [D.acc 0,D.acc 1,D.acc 2,D.acc 3,D.acc 4,D.int .i64 aB.bw],D.int .i64 aW] [(4,aB.rules.map aN.c),(1,aB.ends.map dL),(3,aB.av.map aP.c),(8,aB.nodes.map Node.c),(2,aB.facts.map aE.c)] [(4,r.1.rules.map aN.c),(1,r.1.ends.map dL),(3,r.1.av.map aP.c),(8,r.1.nodes.map Node.c),(2,r.1.facts.map aE.c)] (D.int .i64 r.2):=by
 refine tu.of (c:=lR f19) func19 rfl (by decide) (by simp[f19]) rfl rfl ?_;intro hr Γ hΓ vs hvs
 match vs,hvs with
 | [fN,v1_,v2_,v3_,v4_],_=>
 have hΓ:Γ.nt=26:=hΓ;rw[kT]at h;refine(show AW prog Γ (lR f19) (KQ prog Γ (fun _ _=>False) (wB prog f19 [fN,v1_,v2_,v3_,v4_] [(4,r.1.rules.map aN.c),(1,r.1.ends.map dL),(3,r.1.av.map aP.c),(8,r.1.nodes.map Node.c),(2,r.1.facts.map aE.c)] (D.int .i64 r.2)) []) _ from ?_);obtain⟨y1,h2,h⟩:=aD h;obtain⟨y3,h4,h⟩:=aD h;obtain⟨y5,h6,h⟩:=aD h;obtain⟨y7,h8,h⟩:=aD h;obtain⟨y9,h10,h⟩:=aD h;have h:=aG h;subst h;exact gC (n:=2000) 5 [.gv [0] [(4,y1.1.map aN.c)] (D.int .i64 y1.2),.gv [1] [(1,y3.1.map dL)] (D.int .i64 y3.2),.gv [2] [(3,y5.1.map aP.c)] (D.int .i64 y5.2),.gv [3] [(8,y7.1.map Node.c)] (D.int .i64 y7.2),.gv [4] [(2,y9.1.map aE.c)] (D.int .i64 y9.2)] (.ret (D.gZ [D.int .i64 y9.2,D.agg [D.fr 0 4 (y1.1.map aN.c),D.val fN],D.agg [D.fr 0 1 (y3.1.map dL),D.val v1_],D.agg [D.fr 0 3 (y5.1.map aP.c),D.val v2_],D.agg [D.fr 0 8 (y7.1.map Node.c),D.val v3_],D.agg [D.fr 0 2 (y9.1.map aE.c),D.val v4_]])) hΓ CO (by kernel_rfl) (ow (Fw h2) (ow (HF h4) (ow (Eg h6) (ow (Fu h8) (ow (vi h10) E4))))) rfl
variable{Γ:w5}{N:Nat->St->Prop}
def fc(aB:aJ)(k1:Int->Option Int):aJ->Nat->Int->Option Int
 | [],i1,b8=>(k1 b8)
 |bD::bZ,i1,b8=>((cC b8).bind fun Ri=>(bif !((bD:Bytes)==Ri)then(some (-1))else(fc aB k1 bZ (i1+1) (IntKind.i64.wrap (b8+1)))))
def gh(aB:aJ)(aW:Int):Option Int:=(fc aB (fun(cL:Int)=>(some cL)) aB 0 aW)
def Fo(aB:aJ)(b8:Int)(cT:Int):St:=⟨[(0,D.sl (aB.map tx)),(1,D.int .i64 b8),(5,D.int .i64 cT)],[]⟩
theorem Ed(hΓ:Γ.nt=22){aB:aJ}{r:Int}{k1:Int->Option Int}(cX:∀(cL:Int),k1 cL=some r->Ax Γ N f122 (.q [[none]] (D.int .i64 r)) [1,1] ⟨[(1,D.int .i64 cL)],[]⟩)(hm1:aB.length<=maxLen):∀(rest:aJ) (i1:Nat) (b8:Int),aB.drop i1=rest->fc aB k1 rest i1 b8=some r->Ar Γ N f122 (.q [[none]] (D.int .i64 r)) [1,0,1,0] (rest.length+1) (Fo aB b8 (i1:Int)):=by
 intro rest
 induction rest with
 |nil=>
  intro i1 b8 aj h;rw[fc]at h;refine aO fun N1 bz bg=>?_
  exact((aU.ge tx aj).a [.hl 0 [1] []]).ex hΓ bz (cX b8 h)
 |cons bD bZ ih1=>
  intro i1 b8 aj h;rw[fc]at h;refine aO fun N1 bz bg=>?_
  obtain⟨Ri,h22,h⟩:=aD h;have dJ:=((((aU.lt tx aj).a [.n 6]).l (ax tx 1 (dc aj) rfl)).g (bn h22))
  obtain⟨h23,h⟩|⟨h23,h⟩:=aM h
  ·cases h;exact(dJ.b h23).ret hΓ
  ·exact((dJ.b h23).a [.cn [0,1,5] []]).ct hΓ bg (iS aj hm1) (ih1 (i1+1) (IntKind.i64.wrap (b8+1)) (dn aj) h)
theorem lB{aB:aJ}{aW:Int}{r:Int}(h:gh aB aW=some r):Good prog 122 [D.sl (aB.map tx),D.int .i64 aW] (D.int .i64 r):=by
 refine gd func122 [[none]] 22 fun hr Γ hΓ=>?_
 rw[gh]at h;refine(aU.a [.cn [0,1,5] []]).lp hΓ (Ed hΓ (fun cL h=>?_) (by have:=(dY.sl (hr _ (aC (i:=0) rfl))).1;simpa using this) aB 0 aW rfl h);have h:=aG h;subst h;exact aU.ret hΓ
def iA(aB:aq)(k1:Int->Option Int):aq->Nat->Int->Option Int
 | [],i1,b8=>(k1 b8)
 |bD::bZ,i1,b8=>(bif (bD.kind:Int) != b8 then(some (-1))else((cC (IntKind.i64.wrap (b8+1))).bind fun y62=>(bif !((bD.pat.rel:Bytes)==y62)then(some (-1))else((gh bD.pat.args (IntKind.i64.wrap ((IntKind.i64.wrap (b8+1))+1))).bind fun y65=>(bif decide ((y65:Int)<0)then(some (-1))else((cC y65).bind fun y68=>(bif !((bD.left:Bytes)==y68)then(some (-1))else((cC (IntKind.i64.wrap (y65+1))).bind fun y71=>(bif !((bD.right:Bytes)==y71)then(some (-1))else(iA aB k1 bZ (i1+1) (IntKind.i64.wrap ((IntKind.i64.wrap (y65+1))+1))))))))))))
def tI(aB:aq)(aW:Int):Option Int:=(iA aB (fun(cL:Int)=>(some cL)) aB 0 aW)
def JF(aB:aq)(b8:Int)(cT:Int):St:=⟨[(0,D.sl (aB.map aQ.c)),(1,D.int .i64 b8),(5,D.int .i64 cT)],[]⟩
theorem H6(hΓ:Γ.nt=63){aB:aq}{r:Int}{k1:Int->Option Int}(cX:∀(cL:Int),k1 cL=some r->Ax Γ N f120 (.q [[none]] (D.int .i64 r)) [1,1] ⟨[(1,D.int .i64 cL)],[]⟩)(hm1:aB.length<=maxLen):∀(rest:aq) (i1:Nat) (b8:Int),aB.drop i1=rest->iA aB k1 rest i1 b8=some r->Ar Γ N f120 (.q [[none]] (D.int .i64 r)) [1,0,1,0] (rest.length+1) (JF aB b8 (i1:Int)):=by
 intro rest
 induction rest with
 |nil=>
  intro i1 b8 aj h;rw[iA]at h;refine aO fun N1 bz bg=>?_
  exact((aU.ge aQ.c aj).a [.hl 0 [1] []]).ex hΓ bz (cX b8 h)
 |cons bD bZ ih1=>
  intro i1 b8 aj h;rw[iA]at h;refine aO fun N1 bz bg=>?_
  have wm:=((aU.lt aQ.c aj).l (ax aQ.c 5 (dc aj) rfl))
  obtain⟨h61,h⟩|⟨h61,h⟩:=aM h
  ·cases h;exact(wm.b h61).ret hΓ
  ·obtain⟨y62,h63,h⟩:=aD h;have AR:=((((wm.b h61).a [.n 8]).l (ax aQ.c 5 (dc aj) rfl)).g (bn h63))
   obtain⟨h64,h⟩|⟨h64,h⟩:=aM h
   ·cases h;exact(AR.b h64).ret hΓ
   ·obtain⟨y65,h66,h⟩:=aD h;have FG:=(((AR.b h64).l (ax aQ.c 5 (dc aj) rfl)).g (lB h66))
    obtain⟨h67,h⟩|⟨h67,h⟩:=aM h
    ·cases h;exact(FG.b h67).ret hΓ
    ·obtain⟨y68,h69,h⟩:=aD h;have KR:=((((FG.b h67).a [.n 7]).l (ax aQ.c 5 (dc aj) rfl)).g (bn h69))
     obtain⟨h70,h⟩|⟨h70,h⟩:=aM h
     ·cases h;exact(KR.b h70).ret hΓ
     ·obtain⟨y71,h72,h⟩:=aD h;have AQ:=((((KR.b h70).a [.n 7]).l (ax aQ.c 5 (dc aj) rfl)).g (bn h72))
      obtain⟨h73,h⟩|⟨h73,h⟩:=aM h
      ·cases h;exact(AQ.b h73).ret hΓ
      ·exact((AQ.b h73).a [.cn [0,1,5] []]).ct hΓ bg (iS aj hm1) (ih1 (i1+1) (IntKind.i64.wrap ((IntKind.i64.wrap (y65+1))+1)) (dn aj) h)
theorem Fk{aB:aq}{aW:Int}{r:Int}(h:tI aB aW=some r):Good prog 120 [D.sl (aB.map aQ.c),D.int .i64 aW] (D.int .i64 r):=by
 refine gd func120 [[none]] 63 fun hr Γ hΓ=>?_
 rw[tI]at h;refine(aU.a [.cn [0,1,5] []]).lp hΓ (H6 hΓ (fun cL h=>?_) (by have:=(dY.sl (hr _ (aC (i:=0) rfl))).1;simpa using this) aB 0 aW rfl h);have h:=aG h;subst h;exact aU.ret hΓ
def fZ(aB:c8)(k1:Int->Option Int):c8->Nat->Int->Option Int
 | [],i1,b8=>(k1 b8)
 |bD::bZ,i1,b8=>(bif (bD.kind:Int) != b8 then(some (-1))else((cC (IntKind.i64.wrap (b8+1))).bind fun QF=>(bif !((bD.pat.rel:Bytes)==QF)then(some (-1))else((gh bD.pat.args (IntKind.i64.wrap ((IntKind.i64.wrap (b8+1))+1))).bind fun vX=>(bif decide ((vX:Int)<0)then(some (-1))else(fZ aB k1 bZ (i1+1) vX))))))
def qO(aB:c8)(aW:Int):Option Int:=(fZ aB (fun(cL:Int)=>(some cL)) aB 0 aW)
def Fi(aB:c8)(b8:Int)(cT:Int):St:=⟨[(0,D.sl (aB.map Action.c)),(1,D.int .i64 b8),(5,D.int .i64 cT)],[]⟩
theorem Eb(hΓ:Γ.nt=43){aB:c8}{r:Int}{k1:Int->Option Int}(cX:∀(cL:Int),k1 cL=some r->Ax Γ N f121 (.q [[none]] (D.int .i64 r)) [1,1] ⟨[(1,D.int .i64 cL)],[]⟩)(hm1:aB.length<=maxLen):∀(rest:c8) (i1:Nat) (b8:Int),aB.drop i1=rest->fZ aB k1 rest i1 b8=some r->Ar Γ N f121 (.q [[none]] (D.int .i64 r)) [1,0,1,0] (rest.length+1) (Fi aB b8 (i1:Int)):=by
 intro rest
 induction rest with
 |nil=>
  intro i1 b8 aj h;rw[fZ]at h;refine aO fun N1 bz bg=>?_
  exact((aU.ge Action.c aj).a [.hl 0 [1] []]).ex hΓ bz (cX b8 h)
 |cons bD bZ ih1=>
  intro i1 b8 aj h;rw[fZ]at h;refine aO fun N1 bz bg=>?_
  have ia:=((aU.lt Action.c aj).l (ax Action.c 3 (dc aj) rfl))
  obtain⟨h37,h⟩|⟨h37,h⟩:=aM h
  ·cases h;exact(ia.b h37).ret hΓ
  ·obtain⟨QF,h39,h⟩:=aD h;have tq:=((((ia.b h37).a [.n 8]).l (ax Action.c 3 (dc aj) rfl)).g (bn h39))
   obtain⟨h40,h⟩|⟨h40,h⟩:=aM h
   ·cases h;exact(tq.b h40).ret hΓ
   ·obtain⟨vX,h42,h⟩:=aD h;have wm:=(((tq.b h40).l (ax Action.c 3 (dc aj) rfl)).g (lB h42))
    obtain⟨h43,h⟩|⟨h43,h⟩:=aM h
    ·cases h;exact(wm.b h43).ret hΓ
    ·exact((wm.b h43).a [.cn [0,1,5] []]).ct hΓ bg (iS aj hm1) (ih1 (i1+1) vX (dn aj) h)
theorem Dd{aB:c8}{aW:Int}{r:Int}(h:qO aB aW=some r):Good prog 121 [D.sl (aB.map Action.c),D.int .i64 aW] (D.int .i64 r):=by
 refine gd func121 [[none]] 43 fun hr Γ hΓ=>?_
 rw[qO]at h;refine(aU.a [.cn [0,1,5] []]).lp hΓ (Eb hΓ (fun cL h=>?_) (by have:=(dY.sl (hr _ (aC (i:=0) rfl))).1;simpa using this) aB 0 aW rfl h);have h:=aG h;subst h;exact aU.ret hΓ
def iE(aB:ar)(k1:Int->Option Int):ar->Nat->Int->Option Int
 | [],i1,b8=>(k1 b8)
 |bD::bZ,i1,b8=>((cC b8).bind fun MQ=>(bif !((bD.name:Bytes)==MQ)then(some (-1))else(bif (bD.prio:Int) != (IntKind.i64.wrap (b8+1))then(some (-1))else((tI bD.conds (IntKind.i64.wrap ((IntKind.i64.wrap (b8+1))+1))).bind fun y53=>(bif decide ((y53:Int)<0)then(some (-1))else((qO bD.cv y53).bind fun y56=>(bif decide ((y56:Int)<0)then(some (-1))else(iE aB k1 bZ (i1+1) y56))))))))
def tL(aB:ar)(aW:Int):Option Int:=(iE aB (fun(cL:Int)=>(some cL)) aB 0 aW)
def JK(aB:ar)(b8:Int)(cT:Int):St:=⟨[(0,D.sl (aB.map aN.c)),(1,D.int .i64 b8),(5,D.int .i64 cT)],[]⟩
theorem HB(hΓ:Γ.nt=50){aB:ar}{r:Int}{k1:Int->Option Int}(cX:∀(cL:Int),k1 cL=some r->Ax Γ N f63 (.q [[none]] (D.int .i64 r)) [1,1] ⟨[(1,D.int .i64 cL)],[]⟩)(hm1:aB.length<=maxLen):∀(rest:ar) (i1:Nat) (b8:Int),aB.drop i1=rest->iE aB k1 rest i1 b8=some r->Ar Γ N f63 (.q [[none]] (D.int .i64 r)) [1,0,1,0] (rest.length+1) (JK aB b8 (i1:Int)):=by
 intro rest
 induction rest with
 |nil=>
  intro i1 b8 aj h;rw[iE]at h;refine aO fun N1 bz bg=>?_
  exact((aU.ge aN.c aj).a [.hl 0 [1] []]).ex hΓ bz (cX b8 h)
 |cons bD bZ ih1=>
  intro i1 b8 aj h;rw[iE]at h;refine aO fun N1 bz bg=>?_
  obtain⟨MQ,h50,h⟩:=aD h;have tq:=((((aU.lt aN.c aj).a [.n 7]).l (ax aN.c 4 (dc aj) rfl)).g (bn h50))
  obtain⟨h51,h⟩|⟨h51,h⟩:=aM h
  ·cases h;exact(tq.b h51).ret hΓ
  ·have wm:=((tq.b h51).l (ax aN.c 4 (dc aj) rfl))
   obtain⟨h52,h⟩|⟨h52,h⟩:=aM h
   ·cases h;exact(wm.b h52).ret hΓ
   ·obtain⟨y53,h54,h⟩:=aD h;have AR:=(((wm.b h52).l (ax aN.c 4 (dc aj) rfl)).g (Fk h54))
    obtain⟨h55,h⟩|⟨h55,h⟩:=aM h
    ·cases h;exact(AR.b h55).ret hΓ
    ·obtain⟨y56,h57,h⟩:=aD h;have FG:=(((AR.b h55).l (ax aN.c 4 (dc aj) rfl)).g (Dd h57))
     obtain⟨h58,h⟩|⟨h58,h⟩:=aM h
     ·cases h;exact(FG.b h58).ret hΓ
     ·exact((FG.b h58).a [.cn [0,1,5] []]).ct hΓ bg (iS aj hm1) (ih1 (i1+1) y56 (dn aj) h)
theorem zT{aB:ar}{aW:Int}{r:Int}(h:tL aB aW=some r):Good prog 63 [D.sl (aB.map aN.c),D.int .i64 aW] (D.int .i64 r):=by
 refine gd func63 [[none]] 50 fun hr Γ hΓ=>?_
 rw[tL]at h;refine(aU.a [.cn [0,1,5] []]).lp hΓ (HB hΓ (fun cL h=>?_) (by have:=(dY.sl (hr _ (aC (i:=0) rfl))).1;simpa using this) aB 0 aW rfl h);have h:=aG h;subst h;exact aU.ret hΓ
def j3(aB:bI)(k1:Int->Option Int):bI->Nat->Int->Option Int
 | [],i1,b8=>(k1 b8)
 |bD::bZ,i1,b8=>(bif (bD:Int) != b8 then(some (-1))else(j3 aB k1 bZ (i1+1) (IntKind.i64.wrap (b8+1))))
def ua(aB:bI)(aW:Int):Option Int:=(j3 aB (fun(cL:Int)=>(some cL)) aB 0 aW)
def LH(aB:bI)(b8:Int)(cT:Int):St:=⟨[(0,D.sl (aB.map dL)),(1,D.int .i64 b8),(5,D.int .i64 cT)],[]⟩
theorem JH(hΓ:Γ.nt=21){aB:bI}{r:Int}{k1:Int->Option Int}(cX:∀(cL:Int),k1 cL=some r->Ax Γ N f64 (.q [[none]] (D.int .i64 r)) [1,1] ⟨[(1,D.int .i64 cL)],[]⟩)(hm1:aB.length<=maxLen):∀(rest:bI) (i1:Nat) (b8:Int),aB.drop i1=rest->j3 aB k1 rest i1 b8=some r->Ar Γ N f64 (.q [[none]] (D.int .i64 r)) [1,0,1,0] (rest.length+1) (LH aB b8 (i1:Int)):=by
 intro rest
 induction rest with
 |nil=>
  intro i1 b8 aj h;rw[j3]at h;refine aO fun N1 bz bg=>?_
  exact((aU.ge dL aj).a [.hl 0 [1] []]).ex hΓ bz (cX b8 h)
 |cons bD bZ ih1=>
  intro i1 b8 aj h;rw[j3]at h;refine aO fun N1 bz bg=>?_
  have dJ:=((aU.lt dL aj).l (ax dL 1 (dc aj) rfl))
  obtain⟨h13,h⟩|⟨h13,h⟩:=aM h
  ·cases h;exact(dJ.b h13).ret hΓ
  ·exact((dJ.b h13).a [.cn [0,1,5] []]).ct hΓ bg (iS aj hm1) (ih1 (i1+1) (IntKind.i64.wrap (b8+1)) (dn aj) h)
theorem H8{aB:bI}{aW:Int}{r:Int}(h:ua aB aW=some r):Good prog 64 [D.sl (aB.map dL),D.int .i64 aW] (D.int .i64 r):=by
 refine gd func64 [[none]] 21 fun hr Γ hΓ=>?_
 rw[ua]at h;refine(aU.a [.cn [0,1,5] []]).lp hΓ (JH hΓ (fun cL h=>?_) (by have:=(dY.sl (hr _ (aC (i:=0) rfl))).1;simpa using this) aB 0 aW rfl h);have h:=aG h;subst h;exact aU.ret hΓ
def iB(aB:aL)(k1:Int->Option Int):aL->Nat->Int->Option Int
 | [],i1,b8=>(k1 b8)
 |bD::bZ,i1,b8=>((cC b8).bind fun FA=>(bif !((bD.rel:Bytes)==FA)then(some (-1))else((gh bD.args (IntKind.i64.wrap (b8+1))).bind fun FB=>(bif decide ((FB:Int)<0)then(some (-1))else(iB aB k1 bZ (i1+1) FB)))))
def nJ(aB:aL)(aW:Int):Option Int:=(iB aB (fun(cL:Int)=>(some cL)) aB 0 aW)
def JG(aB:aL)(b8:Int)(cT:Int):St:=⟨[(0,D.sl (aB.map aE.c)),(1,D.int .i64 b8),(5,D.int .i64 cT)],[]⟩
theorem H7(hΓ:Γ.nt=32){aB:aL}{r:Int}{k1:Int->Option Int}(cX:∀(cL:Int),k1 cL=some r->Ax Γ N f67 (.q [[none]] (D.int .i64 r)) [1,1] ⟨[(1,D.int .i64 cL)],[]⟩)(hm1:aB.length<=maxLen):∀(rest:aL) (i1:Nat) (b8:Int),aB.drop i1=rest->iB aB k1 rest i1 b8=some r->Ar Γ N f67 (.q [[none]] (D.int .i64 r)) [1,0,1,0] (rest.length+1) (JG aB b8 (i1:Int)):=by
 intro rest
 induction rest with
 |nil=>
  intro i1 b8 aj h;rw[iB]at h;refine aO fun N1 bz bg=>?_
  exact((aU.ge aE.c aj).a [.hl 0 [1] []]).ex hΓ bz (cX b8 h)
 |cons bD bZ ih1=>
  intro i1 b8 aj h;rw[iB]at h;refine aO fun N1 bz bg=>?_
  obtain⟨FA,h34,h⟩:=aD h;have jb:=((((aU.lt aE.c aj).a [.n 7]).l (ax aE.c 2 (dc aj) rfl)).g (bn h34))
  obtain⟨h35,h⟩|⟨h35,h⟩:=aM h
  ·cases h;exact(jb.b h35).ret hΓ
  ·obtain⟨FB,h37,h⟩:=aD h;have ia:=(((jb.b h35).l (ax aE.c 2 (dc aj) rfl)).g (lB h37))
   obtain⟨h38,h⟩|⟨h38,h⟩:=aM h
   ·cases h;exact(ia.b h38).ret hΓ
   ·exact((ia.b h38).a [.cn [0,1,5] []]).ct hΓ bg (iS aj hm1) (ih1 (i1+1) FB (dn aj) h)
theorem vh{aB:aL}{aW:Int}{r:Int}(h:nJ aB aW=some r):Good prog 67 [D.sl (aB.map aE.c),D.int .i64 aW] (D.int .i64 r):=by
 refine gd func67 [[none]] 32 fun hr Γ hΓ=>?_
 rw[nJ]at h;refine(aU.a [.cn [0,1,5] []]).lp hΓ (H7 hΓ (fun cL h=>?_) (by have:=(dY.sl (hr _ (aC (i:=0) rfl))).1;simpa using this) aB 0 aW rfl h);have h:=aG h;subst h;exact aU.ret hΓ
def gT(aB:b7)(k1:Int->Option Int):b7->Nat->Int->Option Int
 | [],i1,b8=>(k1 b8)
 |bD::bZ,i1,b8=>((cC b8).bind fun IN=>(bif !((bD.shape.rel:Bytes)==IN)then(some (-1))else((gh bD.shape.args (IntKind.i64.wrap (b8+1))).bind fun y48=>(bif decide ((y48:Int)<0)then(some (-1))else((nJ bD.facts y48).bind fun y51=>(bif decide ((y51:Int)<0)then(some (-1))else(gT aB k1 bZ (i1+1) y51)))))))
def rN(aB:b7)(aW:Int):Option Int:=(gT aB (fun(cL:Int)=>(some cL)) aB 0 aW)
def Gz(aB:b7)(b8:Int)(cT:Int):St:=⟨[(0,D.sl (aB.map aP.c)),(1,D.int .i64 b8),(5,D.int .i64 cT)],[]⟩
theorem Fj(hΓ:Γ.nt=43){aB:b7}{r:Int}{k1:Int->Option Int}(cX:∀(cL:Int),k1 cL=some r->Ax Γ N f65 (.q [[none]] (D.int .i64 r)) [1,1] ⟨[(1,D.int .i64 cL)],[]⟩)(hm1:aB.length<=maxLen):∀(rest:b7) (i1:Nat) (b8:Int),aB.drop i1=rest->gT aB k1 rest i1 b8=some r->Ar Γ N f65 (.q [[none]] (D.int .i64 r)) [1,0,1,0] (rest.length+1) (Gz aB b8 (i1:Int)):=by
 intro rest
 induction rest with
 |nil=>
  intro i1 b8 aj h;rw[gT]at h;refine aO fun N1 bz bg=>?_
  exact((aU.ge aP.c aj).a [.hl 0 [1] []]).ex hΓ bz (cX b8 h)
 |cons bD bZ ih1=>
  intro i1 b8 aj h;rw[gT]at h;refine aO fun N1 bz bg=>?_
  obtain⟨IN,h46,h⟩:=aD h;have ia:=((((aU.lt aP.c aj).a [.n 8]).l (ax aP.c 3 (dc aj) rfl)).g (bn h46))
  obtain⟨h47,h⟩|⟨h47,h⟩:=aM h
  ·cases h;exact(ia.b h47).ret hΓ
  ·obtain⟨y48,h49,h⟩:=aD h;have tq:=(((ia.b h47).l (ax aP.c 3 (dc aj) rfl)).g (lB h49))
   obtain⟨h50,h⟩|⟨h50,h⟩:=aM h
   ·cases h;exact(tq.b h50).ret hΓ
   ·obtain⟨y51,h52,h⟩:=aD h;have wm:=(((tq.b h50).l (ax aP.c 3 (dc aj) rfl)).g (vh h52))
    obtain⟨h53,h⟩|⟨h53,h⟩:=aM h
    ·cases h;exact(wm.b h53).ret hΓ
    ·exact((wm.b h53).a [.cn [0,1,5] []]).ct hΓ bg (iS aj hm1) (ih1 (i1+1) y51 (dn aj) h)
theorem Ec{aB:b7}{aW:Int}{r:Int}(h:rN aB aW=some r):Good prog 65 [D.sl (aB.map aP.c),D.int .i64 aW] (D.int .i64 r):=by
 refine gd func65 [[none]] 43 fun hr Γ hΓ=>?_
 rw[rN]at h;refine(aU.a [.cn [0,1,5] []]).lp hΓ (Fj hΓ (fun cL h=>?_) (by have:=(dY.sl (hr _ (aC (i:=0) rfl))).1;simpa using this) aB 0 aW rfl h);have h:=aG h;subst h;exact aU.ret hΓ
def iD(aB:aT)(k1:Int->Option Int):aT->Nat->Int->Option Int
 | [],i1,b8=>(k1 b8)
 |bD::bZ,i1,b8=>((cC b8).bind fun FA=>(bif !((bD.var:Bytes)==FA)then(some (-1))else((cC (IntKind.i64.wrap (b8+1))).bind fun FB=>(bif !((bD.value:Bytes)==FB)then(some (-1))else(iD aB k1 bZ (i1+1) (IntKind.i64.wrap ((IntKind.i64.wrap (b8+1))+1)))))))
def tK(aB:aT)(aW:Int):Option Int:=(iD aB (fun(cL:Int)=>(some cL)) aB 0 aW)
def JJ(aB:aT)(b8:Int)(cT:Int):St:=⟨[(0,D.sl (aB.map aS.c)),(1,D.int .i64 b8),(5,D.int .i64 cT)],[]⟩
theorem HA(hΓ:Γ.nt=33){aB:aT}{r:Int}{k1:Int->Option Int}(cX:∀(cL:Int),k1 cL=some r->Ax Γ N f76 (.q [[none]] (D.int .i64 r)) [1,1] ⟨[(1,D.int .i64 cL)],[]⟩)(hm1:aB.length<=maxLen):∀(rest:aT) (i1:Nat) (b8:Int),aB.drop i1=rest->iD aB k1 rest i1 b8=some r->Ar Γ N f76 (.q [[none]] (D.int .i64 r)) [1,0,1,0] (rest.length+1) (JJ aB b8 (i1:Int)):=by
 intro rest
 induction rest with
 |nil=>
  intro i1 b8 aj h;rw[iD]at h;refine aO fun N1 bz bg=>?_
  exact((aU.ge aS.c aj).a [.hl 0 [1] []]).ex hΓ bz (cX b8 h)
 |cons bD bZ ih1=>
  intro i1 b8 aj h;rw[iD]at h;refine aO fun N1 bz bg=>?_
  obtain⟨FA,h34,h⟩:=aD h;have jb:=((((aU.lt aS.c aj).a [.n 7]).l (ax aS.c 2 (dc aj) rfl)).g (bn h34))
  obtain⟨h35,h⟩|⟨h35,h⟩:=aM h
  ·cases h;exact(jb.b h35).ret hΓ
  ·obtain⟨FB,h37,h⟩:=aD h;have ia:=((((jb.b h35).a [.n 7]).l (ax aS.c 2 (dc aj) rfl)).g (bn h37))
   obtain⟨h38,h⟩|⟨h38,h⟩:=aM h
   ·cases h;exact(ia.b h38).ret hΓ
   ·exact((ia.b h38).a [.cn [0,1,5] []]).ct hΓ bg (iS aj hm1) (ih1 (i1+1) (IntKind.i64.wrap ((IntKind.i64.wrap (b8+1))+1)) (dn aj) h)
theorem Fm{aB:aT}{aW:Int}{r:Int}(h:tK aB aW=some r):Good prog 76 [D.sl (aB.map aS.c),D.int .i64 aW] (D.int .i64 r):=by
 refine gd func76 [[none]] 33 fun hr Γ hΓ=>?_
 rw[tK]at h;refine(aU.a [.cn [0,1,5] []]).lp hΓ (HA hΓ (fun cL h=>?_) (by have:=(dY.sl (hr _ (aC (i:=0) rfl))).1;simpa using this) aB 0 aW rfl h);have h:=aG h;subst h;exact aU.ret hΓ
def gU(aB:ah)(k1:Int->Option Int):ah->Nat->Int->Option Int
 | [],i1,b8=>(k1 b8)
 |bD::bZ,i1,b8=>((nJ bD.facts b8).bind fun FA=>(bif decide ((FA:Int)<0)then(some (-1))else((tK bD.bind FA).bind fun FB=>(bif decide ((FB:Int)<0)then(some (-1))else(gU aB k1 bZ (i1+1) FB)))))
def rO(aB:ah)(aW:Int):Option Int:=(gU aB (fun(cL:Int)=>(some cL)) aB 0 aW)
def HC(aB:ah)(b8:Int)(cT:Int):St:=⟨[(0,D.sl (aB.map aI.c)),(1,D.int .i64 b8),(5,D.int .i64 cT)],[]⟩
theorem Fp(hΓ:Γ.nt=31){aB:ah}{r:Int}{k1:Int->Option Int}(cX:∀(cL:Int),k1 cL=some r->Ax Γ N f123 (.q [[none]] (D.int .i64 r)) [1,1] ⟨[(1,D.int .i64 cL)],[]⟩)(hm1:aB.length<=maxLen):∀(rest:ah) (i1:Nat) (b8:Int),aB.drop i1=rest->gU aB k1 rest i1 b8=some r->Ar Γ N f123 (.q [[none]] (D.int .i64 r)) [1,0,1,0] (rest.length+1) (HC aB b8 (i1:Int)):=by
 intro rest
 induction rest with
 |nil=>
  intro i1 b8 aj h;rw[gU]at h;refine aO fun N1 bz bg=>?_
  exact((aU.ge aI.c aj).a [.hl 0 [1] []]).ex hΓ bz (cX b8 h)
 |cons bD bZ ih1=>
  intro i1 b8 aj h;rw[gU]at h;refine aO fun N1 bz bg=>?_
  obtain⟨FA,h34,h⟩:=aD h;have jb:=(((aU.lt aI.c aj).l (ax aI.c 2 (dc aj) rfl)).g (vh h34))
  obtain⟨h35,h⟩|⟨h35,h⟩:=aM h
  ·cases h;exact(jb.b h35).ret hΓ
  ·obtain⟨FB,h37,h⟩:=aD h;have ia:=(((jb.b h35).l (ax aI.c 2 (dc aj) rfl)).g (Fm h37))
   obtain⟨h38,h⟩|⟨h38,h⟩:=aM h
   ·cases h;exact(ia.b h38).ret hΓ
   ·exact((ia.b h38).a [.cn [0,1,5] []]).ct hΓ bg (iS aj hm1) (ih1 (i1+1) FB (dn aj) h)
theorem Ee{aB:ah}{aW:Int}{r:Int}(h:rO aB aW=some r):Good prog 123 [D.sl (aB.map aI.c),D.int .i64 aW] (D.int .i64 r):=by
 refine gd func123 [[none]] 31 fun hr Γ hΓ=>?_
 rw[rO]at h;refine(aU.a [.cn [0,1,5] []]).lp hΓ (Fp hΓ (fun cL h=>?_) (by have:=(dY.sl (hr _ (aC (i:=0) rfl))).1;simpa using this) aB 0 aW rfl h);have h:=aG h;subst h;exact aU.ret hΓ
def iC(aB:ay)(k1:Int->Option Int):ay->Nat->Int->Option Int
 | [],i1,b8=>(k1 b8)
 |bD::bZ,i1,b8=>(bif (bD.parent:Int) != b8 then(some (-1))else(bif (bD.cond.kind:Int) != (IntKind.i64.wrap (b8+1))then(some (-1))else((cC (IntKind.i64.wrap ((IntKind.i64.wrap (b8+1))+1))).bind fun y83=>(bif !((bD.cond.pat.rel:Bytes)==y83)then(some (-1))else((gh bD.cond.pat.args (IntKind.i64.wrap ((IntKind.i64.wrap ((IntKind.i64.wrap (b8+1))+1))+1))).bind fun y86=>(bif decide ((y86:Int)<0)then(some (-1))else((cC y86).bind fun y89=>(bif !((bD.cond.left:Bytes)==y89)then(some (-1))else((cC (IntKind.i64.wrap (y86+1))).bind fun y92=>(bif !((bD.cond.right:Bytes)==y92)then(some (-1))else(bif (bD.cP:Int) != (IntKind.i64.wrap ((IntKind.i64.wrap (y86+1))+1))then(some (-1))else((rO bD.tokens (IntKind.i64.wrap ((IntKind.i64.wrap ((IntKind.i64.wrap (y86+1))+1))+1))).bind fun ZD=>(bif decide ((ZD:Int)<0)then(some (-1))else(iC aB k1 bZ (i1+1) ZD))))))))))))))
def tJ(aB:ay)(aW:Int):Option Int:=(iC aB (fun(cL:Int)=>(some cL)) aB 0 aW)
def JI(aB:ay)(b8:Int)(cT:Int):St:=⟨[(0,D.sl (aB.map Node.c)),(1,D.int .i64 b8),(5,D.int .i64 cT)],[]⟩
theorem H9(hΓ:Γ.nt=95){aB:ay}{r:Int}{k1:Int->Option Int}(cX:∀(cL:Int),k1 cL=some r->Ax Γ N f66 (.q [[none]] (D.int .i64 r)) [1,1] ⟨[(1,D.int .i64 cL)],[]⟩)(hm1:aB.length<=maxLen):∀(rest:ay) (i1:Nat) (b8:Int),aB.drop i1=rest->iC aB k1 rest i1 b8=some r->Ar Γ N f66 (.q [[none]] (D.int .i64 r)) [1,0,1,0] (rest.length+1) (JI aB b8 (i1:Int)):=by
 intro rest
 induction rest with
 |nil=>
  intro i1 b8 aj h;rw[iC]at h;refine aO fun N1 bz bg=>?_
  exact((aU.ge Node.c aj).a [.hl 0 [1] []]).ex hΓ bz (cX b8 h)
 |cons bD bZ ih1=>
  intro i1 b8 aj h;rw[iC]at h;refine aO fun N1 bz bg=>?_
  have KR:=((aU.lt Node.c aj).l (ax Node.c 8 (dc aj) rfl))
  obtain⟨h81,h⟩|⟨h81,h⟩:=aM h
  ·cases h;exact(KR.b h81).ret hΓ
  ·have AQ:=((KR.b h81).l (ax Node.c 8 (dc aj) rfl))
   obtain⟨h82,h⟩|⟨h82,h⟩:=aM h
   ·cases h;exact(AQ.b h82).ret hΓ
   ·obtain⟨y83,h84,h⟩:=aD h;have IB:=((((AQ.b h82).a [.n 9]).l (ax Node.c 8 (dc aj) rfl)).g (bn h84))
    obtain⟨h85,h⟩|⟨h85,h⟩:=aM h
    ·cases h;exact(IB.b h85).ret hΓ
    ·obtain⟨y86,h87,h⟩:=aD h;have BU:=(((IB.b h85).l (ax Node.c 8 (dc aj) rfl)).g (lB h87))
     obtain⟨h88,h⟩|⟨h88,h⟩:=aM h
     ·cases h;exact(BU.b h88).ret hΓ
     ·obtain⟨y89,h90,h⟩:=aD h;have IC:=((((BU.b h88).a [.n 8]).l (ax Node.c 8 (dc aj) rfl)).g (bn h90))
      obtain⟨h91,h⟩|⟨h91,h⟩:=aM h
      ·cases h;exact(IC.b h91).ret hΓ
      ·obtain⟨y92,h93,h⟩:=aD h;have ID:=((((IC.b h91).a [.n 8]).l (ax Node.c 8 (dc aj) rfl)).g (bn h93))
       obtain⟨h94,h⟩|⟨h94,h⟩:=aM h
       ·cases h;exact(ID.b h94).ret hΓ
       ·have RJ:=((ID.b h94).l (ax Node.c 8 (dc aj) rfl))
        obtain⟨h95,h⟩|⟨h95,h⟩:=aM h
        ·cases h;exact(RJ.b h95).ret hΓ
        ·obtain⟨ZD,h97,h⟩:=aD h;have RM:=(((RJ.b h95).l (ax Node.c 8 (dc aj) rfl)).g (Ee h97))
         obtain⟨h98,h⟩|⟨h98,h⟩:=aM h
         ·cases h;exact(RM.b h98).ret hΓ
         ·exact((RM.b h98).a [.cn [0,1,5] []]).ct hΓ bg (iS aj hm1) (ih1 (i1+1) ZD (dn aj) h)
theorem Fl{aB:ay}{aW:Int}{r:Int}(h:tJ aB aW=some r):Good prog 66 [D.sl (aB.map Node.c),D.int .i64 aW] (D.int .i64 r):=by
 refine gd func66 [[none]] 95 fun hr Γ hΓ=>?_
 rw[tJ]at h;refine(aU.a [.cn [0,1,5] []]).lp hΓ (H9 hΓ (fun cL h=>?_) (by have:=(dY.sl (hr _ (aC (i:=0) rfl))).1;simpa using this) aB 0 aW rfl h);have h:=aG h;subst h;exact aU.ret hΓ
def kR(aB:aF)(aW:Int):Option Int:=((tL aB.rules aW).bind fun y1=>(bif decide ((y1:Int)<0)then(some (-1))else((ua aB.ends y1).bind fun y4=>(bif decide ((y4:Int)<0)then(some (-1))else((rN aB.av y4).bind fun y7=>(bif decide ((y7:Int)<0)then(some (-1))else((tJ aB.nodes y7).bind fun DK=>(bif decide ((DK:Int)<0)then(some (-1))else((nJ aB.facts DK).bind fun vz=>(bif decide ((vz:Int)<0)then(some (-1))else(some vz)))))))))))
theorem iX{aB:aF}{aW:Int}{r:Int}(h:kR aB aW=some r):Good prog 21 [D.agg (aF.c aB),D.int .i64 aW] (D.int .i64 r):=by
 refine gd func21 [[none]] 36 fun hr Γ hΓ=>?_
 rw[kR]at h;obtain⟨y1,h2,h⟩:=aD h;obtain⟨h3,h⟩|⟨h3,h⟩:=aM h
 ·cases h;exact((aU.g (zT h2)).b h3).ret hΓ
 ·obtain⟨y4,h5,h⟩:=aD h;have kF:=(((aU.g (zT h2)).b h3).g (H8 h5))
  obtain⟨h6,h⟩|⟨h6,h⟩:=aM h
  ·cases h;exact(kF.b h6).ret hΓ
  ·obtain⟨y7,h8,h⟩:=aD h;have dJ:=((kF.b h6).g (Ec h8))
   obtain⟨h9,h⟩|⟨h9,h⟩:=aM h
   ·cases h;exact(dJ.b h9).ret hΓ
   ·obtain⟨DK,h11,h⟩:=aD h;have jb:=((dJ.b h9).g (Fl h11))
    obtain⟨h12,h⟩|⟨h12,h⟩:=aM h
    ·cases h;exact(jb.b h12).ret hΓ
    ·obtain⟨vz,h14,h⟩:=aD h;have ia:=((jb.b h12).g (vh h14))
     obtain⟨h15,h⟩|⟨h15,h⟩:=aM h
     ·cases h;exact(ia.b h15).ret hΓ
     ·have h:=aG h;subst h;exact(ia.b h15).ret hΓ
theorem yE.sub{a b:aR}(h:yE a)(hs:∀d∈b,d∈a):yE b:=fun d hd=>h d (hs d hd)
def iL{α:Type}(w:α->Nat)(l:List α):Nat:=(l.map w).sum
theorem vC{α:Type}(w:α->Nat)(x:α)(l:List α):iL w (x::l)=w x+iL w l:=by simp[iL]
theorem qY{α:Type}(m w:α->Nat)(l:List α)(h:∀x,m x<=6+6*w x):iL m l<=6*kA w l:=by
 induction l with
 |nil=>simp[iL]
 |cons x l ih=>rw[vC,qh];have:=h x;omega
def zw(_:Int):Nat:=0
theorem a9E(l:bI):(l.map zw).sum=0:=by
 induction l with
 |nil=>rfl
 |cons x l ih=>simp only[bG,List.sum_cons,ih];rfl
def QJ{α:Type}(n:Nat)(mark:Int->Option (α×Int))(held:α->Int->Option Int):Prop:=∀k:Int,1<=k->k+(n:Int)<=4611686018427387904->∃x,mark k=some (x,k+(n:Int))/\held x k=some (k+(n:Int))
theorem Zy(K:Bytes->Option Bytes):∀(n f:Nat) (k:Int) (v:Bytes),0<=k->k<10^n->n<f->∃s,fT K f k v=(if v.length+n<=1000 then K s else fT K f k v)/\s.length<=v.length+n:=by
 intro n
 induction n with
 |zero=>
  intro f k v h0 h1 hf;obtain⟨m,rfl⟩:∃m,f=m+1:=⟨f-1,by omega⟩
  have hk:k=0:=by simp at h1;omega
  subst hk;exact⟨v,by split<;>simp[fT],by omega⟩
 |succ n ih=>
  intro f k v h0 h1 hf;obtain⟨m,rfl⟩:∃m,f=m+1:=⟨f-1,by omega⟩
  by_cases hk:k>0
  ·have hd:k/10<10^n:=by
    have:(10:Int)^(n+1)=10^n*10:=Int.pow_succ 10 n;rw[this]at h1;exact FM (by omega) h1
   obtain⟨s,e1,e2⟩:=ih m (k/10) ([UInt8.ofNat (IntKind.u8.wrap (IntKind.i64.wrap (48+((k:Int)%10)))).toNat]++v) (by omega) hd (by omega);refine⟨s,?_,by simp at e2;omega⟩;split
   ·rename_i hv;rw[bS (by simp;omega)]at e1;have c1:decide (k>0)=true:=by simp[hk]
    have c2:(decide (0<=k)&&decide (0<(10:Int)))=true:=by simp[h0]
    have c3:decide (([UInt8.ofNat (IntKind.u8.wrap (IntKind.i64.wrap (48+((k:Int)%10)))).toNat]:Bytes).length+v.length<=maxLen)=true:=by unfold maxLen;simp;omega
    rw[fT,c1,aV,c2,aV,c3,aV,aV];exact e1
   ·rfl
  ·have hk0:k=0:=by omega
   subst hk0;exact⟨v,by split<;>simp[fT],by omega⟩
theorem lQ(k:Int)(h0:1<=k)(h1:k<=4611686018427387904):∃s,cC k=some s:=by
 unfold cC;have c:decide ((k:Int)<=0)=false:=bA (by omega);rw[c,aZ];obtain⟨s,e1,e2⟩:=Zy (fun(S7:Bytes)=>(bif decide (([109]:Bytes).length+(S7:Bytes).length<=maxLen)then(some (([109])++S7))else none)) 20 fuel k [] (by omega) (by omega) (by decide);rw[bS (by simp)]at e1;have c2:decide (([109]:Bytes).length+s.length<=maxLen)=true:=by unfold maxLen;simp at e2⊢;omega
 rw[e1,c2];exact⟨_,rfl⟩
theorem O1(l:aJ)(h:dY (.sl (l.map tx)))(v:Int)(h0:0<=v)(h1:v<=1048576):xY (qC l v) v (kA tw l):=by
 unfold qC;exact szS h h0 h1 fun v' g0 g1=>szL (w:=tw) (f:=fun x v=>some (IntKind.i64.wrap (v-(x.length:Int)))) (jg l (fun z=>some z)) (fun _ _=>rfl) (fun _ _ _ _=>by simp only[jg,aA]) l (fun x hx v g0 g1=>⟨_,rfl,by rw[a3v ((yE.row h x hx (.str x) (by simp)).str) g0 g1];omega,fun q=>by rw[a3v ((yE.row h x hx (.str x) (by simp)).str) g0 g1]at q⊢;unfold tw;omega⟩) 0 v' g0 g1
theorem O3(l:aJ)(h:kA tw l<=1048576):qD l=some l:=by
 unfold qD;rw[KU (by rw[aa];exact cU (gy _ _) h) (by decide)];exact toL (c:=tx) (f:=(fun x=>some x)) (jh l (fun q=>some q)) (fun _ _=>rfl) (fun _ _ _ _=>by simp only[jh,aA]) (fun x hx=>rfl)
theorem NY(a b:aJ):qB a b=some (decide (a=b)):=by
 unfold qB;exact SQ (c:=tx) (f:=(fun x y=>some (x==y))) (fun k=>mU a b k) (fun _ _=>rfl) (fun _ _ _ _=>rfl) (fun x y=>by rw[az,bp];simp)
theorem zC(l:aJ):QJ (iL (fun _=>1) l) (gi l) gh:=by
 have key:∀(rest dn:aJ) (v:Int),1<=v->v+(iL (fun _=>1) rest:Int)<=4611686018427387904->∃rest':aJ,(∀k,ff k rest dn v=k (dn++rest') (v+(iL (fun _=>1) rest:Int)))/\∀a k i,fc a k rest' i v=k (v+(iL (fun _=>1) rest:Int)):=by
  intro rest
  induction rest with
  |nil=>intro dn v _ _;exact⟨[],fun k=>by simp[ff,iL],fun a k i=>by simp[fc,iL]⟩
  |cons x xs ih=>
   intro dn v h0 h1;rw[vC]at h1⊢;obtain⟨s1,e1⟩:=lQ v (by omega) (by omega);obtain⟨rest',p1,p2⟩:=ih (dn++[s1]) (v+1) (by omega) (by omega);refine⟨s1::rest',fun k=>?_,fun a k i=>?_⟩
   ·rw[ff];simp(disch:=omega) only[yc,aA,e1];rw[p1];simp only[bY,dN]
    congr 1
    omega
   ·rw[fc];simp(disch:=omega) only[yc,aA,cy,bP,aZ,gL,e1];rw[p2]
    congr 1
    omega
 intro k h0 h1;obtain⟨l',p1,p2⟩:=key l [] k h0 h1;exact⟨l',by unfold gi;rw[p1];rfl,by unfold gh;rw[p2]⟩
theorem a0O(l:bI)(h:dY (.sl (l.map dL)))(v:Int)(h0:0<=v)(h1:v<=1048576):xY (xe l v) v (kA zw l):=by
 unfold xe;exact szS h h0 h1 fun v' g0 g1=>xY.fin.eq (a9E l).symm
theorem a0V(l:bI)(h:kA zw l<=1048576):xf l=some l:=by
 unfold xf;rw[KU (by rw[aa];exact cU (gy _ _) h) (by decide)];exact toL (c:=dL) (f:=(fun x=>some x)) (nP l (fun q=>some q)) (fun _ _=>rfl) (fun _ _ _ _=>by simp only[nP,aA]) (fun x hx=>rfl)
theorem Zb(a b:bI):xd a b=some (decide (a=b)):=by
 unfold xd;exact SQ (c:=dL) (f:=(fun x y=>some (x==y))) (fun k=>qA a b k) (fun _ _=>rfl) (fun _ _ _ _=>rfl) (fun x y=>by rw[az,bp];simp)
theorem a02(l:bI):QJ (iL (fun _=>1) l) (uc l) ua:=by
 have key:∀(rest dn:bI) (v:Int),1<=v->v+(iL (fun _=>1) rest:Int)<=4611686018427387904->∃rest':bI,(∀k,j5 k rest dn v=k (dn++rest') (v+(iL (fun _=>1) rest:Int)))/\∀a k i,j3 a k rest' i v=k (v+(iL (fun _=>1) rest:Int)):=by
  intro rest
  induction rest with
  |nil=>intro dn v _ _;exact⟨[],fun k=>by simp[j5,iL],fun a k i=>by simp[j3,iL]⟩
  |cons x xs ih=>
   intro dn v h0 h1;rw[vC]at h1⊢;obtain⟨rest',p1,p2⟩:=ih (dn++[v]) (v+1) (by omega) (by omega);refine⟨v::rest',fun k=>?_,fun a k i=>?_⟩
   ·rw[j5];simp(disch:=omega) only[yc,aA];rw[p1];simp only[bY,dN]
    congr 1
    omega
   ·rw[j3];simp(disch:=omega) only[yc,aA,cy,bP,aZ,gL];rw[p2]
    congr 1
    omega
 intro k h0 h1;obtain⟨l',p1,p2⟩:=key l [] k h0 h1;exact⟨l',by unfold uc;rw[p1];rfl,by unfold ua;rw[p2]⟩
def aE.wt(x:aE):Nat:=tw x.rel+kA tw x.args
def aE.iZ(x:aE):Nat:=1+iL (fun _=>1) x.args
theorem aE.nr(x:aE):x.iZ<=6+6*x.wt:=by
 unfold aE.iZ aE.wt;have h0:=qY (fun _=>1) tw x.args (fun y=>by omega);omega
theorem a0N(x:aE)(h:yE x.c)(v:Int)(h0:0<=v)(h1:v<=1048576):xY (vM x v) v (aE.wt x):=by
 unfold vM;refine xY.eq (n:=(tw x.rel+(kA tw x.args+0))) ?_ (by simp only[aE.wt];omega);refine xY.str (m:=(kA tw x.args+0)) ((h (.str x.rel) (by simp)).str) h0 h1 fun g1 e1=>?_
 rw[e1];have l1:v-(x.rel.length:Int)<=1048576:=by omega
 refine(O1 x.args (h (.sl (x.args.map tx)) (by simp)) _ g1 l1).sub l1 g1 (m:=0) fun r2 g2 l2=>?_
 exact xY.fin
theorem a0U(x:aE)(h:aE.wt x<=1048576):vQ x=some x:=by
 unfold vQ;simp only[O3 x.args (by simp only[aE.wt]at h;omega),aA]
theorem Za(a b:aE):vI a b=some (decide (a=b)):=by
 obtain⟨a0,a1⟩:=a;obtain⟨b0,b1⟩:=b;unfold vI;simp only[NY,aA,fH,bne];by_cases h0:a0=b0<;>by_cases h1:a1=b1<;>simp[h0,h1]
theorem MJ(l:aL)(h:dY (.sl (l.map aE.c)))(v:Int)(h0:0<=v)(h1:v<=1048576):xY (qQ l v) v (kA aE.wt l):=by
 unfold qQ;exact szS h h0 h1 fun v' g0 g1=>szL (w:=aE.wt) (f:=vM) (oV l (fun z=>some z)) (fun _ _=>rfl) (fun _ _ _ _=>rfl) l (fun x hx v g0 g1=>a0N x (yE.row h x hx) v g0 g1) 0 v' g0 g1
theorem MK(l:aL)(h:kA aE.wt l<=1048576):qR l=some l:=by
 unfold qR;rw[KU (by rw[aa];exact cU (gy _ _) h) (by decide)];exact toL (c:=aE.c) (f:=vQ) (oa l (fun q=>some q)) (fun _ _=>rfl) (fun _ _ _ _=>rfl) (fun x hx=>a0U x (by have:=ic (w:=aE.wt) hx;omega))
theorem M4(a b:aL):qN a b=some (decide (a=b)):=by
 unfold qN;exact SQ (c:=aE.c) (f:=vI) (fun k=>oQ a b k) (fun _ _=>rfl) (fun _ _ _ _=>rfl) Za
theorem MC(l:aL):QJ (iL aE.iZ l) (nK l) nJ:=by
 have key:∀(rest dn:aL) (v:Int),1<=v->v+(iL aE.iZ rest:Int)<=4611686018427387904->∃rest':aL,(∀k,iG k rest dn v=k (dn++rest') (v+(iL aE.iZ rest:Int)))/\∀a k i,iB a k rest' i v=k (v+(iL aE.iZ rest:Int)):=by
  intro rest
  induction rest with
  |nil=>intro dn v _ _;exact⟨[],fun k=>by simp[iG,iL],fun a k i=>by simp[iB,iL]⟩
  |cons x xs ih=>
   intro dn v h0 h1;rw[vC]at h1⊢;simp only[aE.iZ]at h1⊢;obtain⟨s1,e1⟩:=lQ v (by omega) (by omega);obtain⟨l2,e2,f2⟩:=zC x.args (v+1) (by omega) (by omega);obtain⟨rest',p1,p2⟩:=ih (dn++[(⟨s1,l2⟩:aE)]) (v+1+(iL (fun _=>1) x.args:Int)) (by omega) (by omega);refine⟨(⟨s1,l2⟩:aE)::rest',fun k=>?_,fun a k i=>?_⟩
   ·rw[iG];simp(disch:=omega) only[yc,aA,e1,e2];rw[p1];simp only[bY,dN]
    congr 1
    omega
   ·have g0:decide ((v+1+(iL (fun _=>1) x.args:Int):Int)<0)=false:=bA (by omega);rw[iB];simp(disch:=omega) only[yc,aA,cy,bP,aZ,gL,e1,f2,g0];rw[p2]
    congr 1
    omega
 intro k h0 h1;obtain⟨l',p1,p2⟩:=key l [] k h0 h1;exact⟨l',by unfold nK;rw[p1];rfl,by unfold nJ;rw[p2]⟩
theorem F5(x:aE)(h:yE x.c)(v:Int)(h0:0<=v)(h1:v<=1048576):xY (nM x v) v (aE.wt x):=by
 unfold nM;refine xY.eq (n:=(tw x.rel+(kA tw x.args+0))) ?_ (by simp only[aE.wt];omega);refine xY.str (m:=(kA tw x.args+0)) ((h (.str x.rel) (by simp)).str) h0 h1 fun g1 e1=>?_
 rw[e1];have l1:v-(x.rel.length:Int)<=1048576:=by omega
 refine(O1 x.args (h (.sl (x.args.map tx)) (by simp)) _ g1 l1).sub l1 g1 (m:=0) fun r2 g2 l2=>?_
 exact xY.fin
theorem F6(x:aE)(h:aE.wt x<=1048576):nQ x=some x:=by
 unfold nQ;simp only[O3 x.args (by simp only[aE.wt]at h;omega),aA]
theorem Ev(a b:aE):nH a b=some (decide (a=b)):=by
 obtain⟨a0,a1⟩:=a;obtain⟨b0,b1⟩:=b;unfold nH;simp only[NY,aA,fH,bne];by_cases h0:a0=b0<;>by_cases h1:a1=b1<;>simp[h0,h1]
def aS.wt(x:aS):Nat:=tw x.var+tw x.value
def aS.iZ(x:aS):Nat:=2
theorem aS.nr(x:aS):x.iZ<=6+6*x.wt:=by
 unfold aS.iZ aS.wt;omega
theorem a0Q(x:aS)(h:yE x.c)(v:Int)(h0:0<=v)(h1:v<=1048576):xY (vO x v) v (aS.wt x):=by
 unfold vO;refine xY.eq (n:=(tw x.var+(tw x.value+0))) ?_ (by simp only[aS.wt];omega);refine xY.str (m:=(tw x.value+0)) ((h (.str x.var) (by simp)).str) h0 h1 fun g1 e1=>?_
 rw[e1];have l1:v-(x.var.length:Int)<=1048576:=by omega
 refine xY.str (m:=0) ((h (.str x.value) (by simp)).str) g1 l1 fun g2 e2=>?_
 rw[e2];have l2:v-(x.var.length:Int)-(x.value.length:Int)<=1048576:=by omega
 exact xY.fin
theorem a0X(x:aS)(h:aS.wt x<=1048576):vS x=some x:=by
 unfold vS;rfl
theorem Zd(a b:aS):vK a b=some (decide (a=b)):=by
 obtain⟨a0,a1⟩:=a;obtain⟨b0,b1⟩:=b;unfold vK;simp only[aA,fH,bne];by_cases h0:a0=b0<;>by_cases h1:a1=b1<;>simp[h0,h1]
theorem Xj(l:aT)(h:dY (.sl (l.map aS.c)))(v:Int)(h0:0<=v)(h1:v<=1048576):xY (wV l v) v (kA aS.wt l):=by
 unfold wV;exact szS h h0 h1 fun v' g0 g1=>szL (w:=aS.wt) (f:=vO) (oX l (fun z=>some z)) (fun _ _=>rfl) (fun _ _ _ _=>rfl) l (fun x hx v g0 g1=>a0Q x (yE.row h x hx) v g0 g1) 0 v' g0 g1
theorem Xs(l:aT)(h:kA aS.wt l<=1048576):wZ l=some l:=by
 unfold wZ;rw[KU (by rw[aa];exact cU (gy _ _) h) (by decide)];exact toL (c:=aS.c) (f:=vS) (og l (fun q=>some q)) (fun _ _=>rfl) (fun _ _ _ _=>rfl) (fun x hx=>a0X x (by have:=ic (w:=aS.wt) hx;omega))
theorem Ws(a b:aT):wR a b=some (decide (a=b)):=by
 unfold wR;exact SQ (c:=aS.c) (f:=vK) (fun k=>oS a b k) (fun _ _=>rfl) (fun _ _ _ _=>rfl) Zd
theorem XN(l:aT):QJ (iL aS.iZ l) (tO l) tK:=by
 have key:∀(rest dn:aT) (v:Int),1<=v->v+(iL aS.iZ rest:Int)<=4611686018427387904->∃rest':aT,(∀k,iI k rest dn v=k (dn++rest') (v+(iL aS.iZ rest:Int)))/\∀a k i,iD a k rest' i v=k (v+(iL aS.iZ rest:Int)):=by
  intro rest
  induction rest with
  |nil=>intro dn v _ _;exact⟨[],fun k=>by simp[iI,iL],fun a k i=>by simp[iD,iL]⟩
  |cons x xs ih=>
   intro dn v h0 h1;rw[vC]at h1⊢;simp only[aS.iZ]at h1⊢;obtain⟨s1,e1⟩:=lQ v (by omega) (by omega);obtain⟨s2,e2⟩:=lQ (v+1) (by omega) (by omega);obtain⟨rest',p1,p2⟩:=ih (dn++[(⟨s1,s2⟩:aS)]) (v+1+1) (by omega) (by omega);refine⟨(⟨s1,s2⟩:aS)::rest',fun k=>?_,fun a k i=>?_⟩
   ·rw[iI];simp(disch:=omega) only[yc,aA,e1,e2];rw[p1];simp only[bY,dN]
    congr 1
    omega
   ·rw[iD];simp(disch:=omega) only[yc,aA,cy,bP,aZ,gL,e1,e2];rw[p2]
    congr 1
    omega
 intro k h0 h1;obtain⟨l',p1,p2⟩:=key l [] k h0 h1;exact⟨l',by unfold tO;rw[p1];rfl,by unfold tK;rw[p2]⟩
def aQ.wt(x:aQ):Nat:=tw x.pat.rel+kA tw x.pat.args+tw x.left+tw x.right
def aQ.iZ(x:aQ):Nat:=4+iL (fun _=>1) x.pat.args
theorem aQ.nr(x:aQ):x.iZ<=6+6*x.wt:=by
 unfold aQ.iZ aQ.wt;have h0:=qY (fun _=>1) tw x.pat.args (fun y=>by omega);omega
theorem Sq(x:aQ)(h:yE x.c)(v:Int)(h0:0<=v)(h1:v<=1048576):xY (s9 x v) v (aQ.wt x):=by
 unfold s9;refine xY.eq (n:=(aE.wt x.pat+(tw x.left+(tw x.right+0)))) ?_ (by simp only[aQ.wt,aE.wt];omega);refine(F5 x.pat (yE.sub h (by intro d hd;simp only[bM,sX,GN]at hd⊢;rcases hd with rfl|rfl<;>simp)) _ h0 h1).sub h1 h0 (m:=(tw x.left+(tw x.right+0))) fun r1 g1 l1=>?_
 refine xY.str (m:=(tw x.right+0)) ((h (.str x.left) (by simp)).str) g1 l1 fun g2 e2=>?_
 rw[e2];have l2:r1-(x.left.length:Int)<=1048576:=by omega
 refine xY.str (m:=0) ((h (.str x.right) (by simp)).str) g2 l2 fun g3 e3=>?_
 rw[e3];have l3:r1-(x.left.length:Int)-(x.right.length:Int)<=1048576:=by omega
 exact xY.fin
theorem Ss(x:aQ)(h:aQ.wt x<=1048576):sA x=some x:=by
 unfold sA;simp only[F6 x.pat (by simp only[aQ.wt,aE.wt]at h⊢;omega),aA]
theorem SP(a b:aQ):s8 a b=some (decide (a=b)):=by
 obtain⟨a0,a1,a2,a3⟩:=a;obtain⟨b0,b1,b2,b3⟩:=b;unfold s8;simp only[Ev,aA,fH,bne];by_cases h0:a0=b0<;>by_cases h1:a1=b1<;>by_cases h2:a2=b2<;>by_cases h3:a3=b3<;>simp[h0,h1,h2,h3]
theorem Xh(l:aq)(h:dY (.sl (l.map aQ.c)))(v:Int)(h0:0<=v)(h1:v<=1048576):xY (wT l v) v (kA aQ.wt l):=by
 unfold wT;exact szS h h0 h1 fun v' g0 g1=>szL (w:=aQ.wt) (f:=s9) (oU l (fun z=>some z)) (fun _ _=>rfl) (fun _ _ _ _=>rfl) l (fun x hx v g0 g1=>Sq x (yE.row h x hx) v g0 g1) 0 v' g0 g1
theorem Xq(l:aq)(h:kA aQ.wt l<=1048576):wX l=some l:=by
 unfold wX;rw[KU (by rw[aa];exact cU (gy _ _) h) (by decide)];exact toL (c:=aQ.c) (f:=sA) (oZ l (fun q=>some q)) (fun _ _=>rfl) (fun _ _ _ _=>rfl) (fun x hx=>Ss x (by have:=ic (w:=aQ.wt) hx;omega))
theorem Wp(a b:aq):wP a b=some (decide (a=b)):=by
 unfold wP;exact SQ (c:=aQ.c) (f:=s8) (fun k=>oP a b k) (fun _ _=>rfl) (fun _ _ _ _=>rfl) SP
theorem XL(l:aq):QJ (iL aQ.iZ l) (tM l) tI:=by
 have key:∀(rest dn:aq) (v:Int),1<=v->v+(iL aQ.iZ rest:Int)<=4611686018427387904->∃rest':aq,(∀k,iF k rest dn v=k (dn++rest') (v+(iL aQ.iZ rest:Int)))/\∀a k i,iA a k rest' i v=k (v+(iL aQ.iZ rest:Int)):=by
  intro rest
  induction rest with
  |nil=>intro dn v _ _;exact⟨[],fun k=>by simp[iF,iL],fun a k i=>by simp[iA,iL]⟩
  |cons x xs ih=>
   intro dn v h0 h1;rw[vC]at h1⊢;simp only[aQ.iZ]at h1⊢;obtain⟨s2,e2⟩:=lQ (v+1) (by omega) (by omega);obtain⟨l3,e3,f3⟩:=zC x.pat.args (v+1+1) (by omega) (by omega);obtain⟨s4,e4⟩:=lQ (v+1+1+(iL (fun _=>1) x.pat.args:Int)) (by omega) (by omega);obtain⟨s5,e5⟩:=lQ (v+1+1+(iL (fun _=>1) x.pat.args:Int)+1) (by omega) (by omega);obtain⟨rest',p1,p2⟩:=ih (dn++[(⟨v,(⟨s2,l3⟩:aE),s4,s5⟩:aQ)]) (v+1+1+(iL (fun _=>1) x.pat.args:Int)+1+1) (by omega) (by omega);refine⟨(⟨v,(⟨s2,l3⟩:aE),s4,s5⟩:aQ)::rest',fun k=>?_,fun a k i=>?_⟩
   ·rw[iF];simp(disch:=omega) only[yc,aA,e2,e3,e4,e5];rw[p1];simp only[bY,dN]
    congr 1
    omega
   ·have g0:decide ((v+1+1+(iL (fun _=>1) x.pat.args:Int):Int)<0)=false:=bA (by omega);rw[iA];simp(disch:=omega) only[yc,aA,cy,bP,aZ,gL,e2,f3,e4,e5,g0];rw[p2]
    congr 1
    omega
 intro k h0 h1;obtain⟨l',p1,p2⟩:=key l [] k h0 h1;exact⟨l',by unfold tM;rw[p1];rfl,by unfold tI;rw[p2]⟩
def Action.wt(x:Action):Nat:=tw x.pat.rel+kA tw x.pat.args
def Action.iZ(x:Action):Nat:=2+iL (fun _=>1) x.pat.args
theorem Action.nr(x:Action):x.iZ<=6+6*x.wt:=by
 unfold Action.iZ Action.wt;have h0:=qY (fun _=>1) tw x.pat.args (fun y=>by omega);omega
theorem Vv(x:Action)(h:yE x.c)(v:Int)(h0:0<=v)(h1:v<=1048576):xY (rB x v) v (Action.wt x):=by
 unfold rB;refine xY.eq (n:=(aE.wt x.pat+0)) ?_ (by simp only[Action.wt,aE.wt];omega);refine(F5 x.pat (yE.sub h (by intro d hd;simp only[bM,sX,GN]at hd⊢;rcases hd with rfl|rfl<;>simp)) _ h0 h1).sub h1 h0 (m:=0) fun r1 g1 l1=>?_
 exact xY.fin
theorem Vy(x:Action)(h:Action.wt x<=1048576):rC x=some x:=by
 unfold rC;simp only[F6 x.pat (by simp only[Action.wt,aE.wt]at h⊢;omega),aA]
theorem V2(a b:Action):rA a b=some (decide (a=b)):=by
 obtain⟨a0,a1⟩:=a;obtain⟨b0,b1⟩:=b;unfold rA;simp only[Ev,aA,fH,bne];by_cases h0:a0=b0<;>by_cases h1:a1=b1<;>simp[h0,h1]
theorem UC(l:c8)(h:dY (.sl (l.map Action.c)))(v:Int)(h0:0<=v)(h1:v<=1048576):xY (tQ l v) v (kA Action.wt l):=by
 unfold tQ;exact szS h h0 h1 fun v' g0 g1=>szL (w:=Action.wt) (f:=rB) (mV l (fun z=>some z)) (fun _ _=>rfl) (fun _ _ _ _=>rfl) l (fun x hx v g0 g1=>Vv x (yE.row h x hx) v g0 g1) 0 v' g0 g1
theorem UG(l:c8)(h:kA Action.wt l<=1048576):tU l=some l:=by
 unfold tU;rw[KU (by rw[aa];exact cU (gy _ _) h) (by decide)];exact toL (c:=Action.c) (f:=rC) (mW l (fun q=>some q)) (fun _ _=>rfl) (fun _ _ _ _=>rfl) (fun x hx=>Vy x (by have:=ic (w:=Action.wt) hx;omega))
theorem TL(a b:c8):tF a b=some (decide (a=b)):=by
 unfold tF;exact SQ (c:=Action.c) (f:=rA) (fun k=>mT a b k) (fun _ _=>rfl) (fun _ _ _ _=>rfl) V2
theorem Tn(l:c8):QJ (iL Action.iZ l) (qP l) qO:=by
 have key:∀(rest dn:c8) (v:Int),1<=v->v+(iL Action.iZ rest:Int)<=4611686018427387904->∃rest':c8,(∀k,fe k rest dn v=k (dn++rest') (v+(iL Action.iZ rest:Int)))/\∀a k i,fZ a k rest' i v=k (v+(iL Action.iZ rest:Int)):=by
  intro rest
  induction rest with
  |nil=>intro dn v _ _;exact⟨[],fun k=>by simp[fe,iL],fun a k i=>by simp[fZ,iL]⟩
  |cons x xs ih=>
   intro dn v h0 h1;rw[vC]at h1⊢;simp only[Action.iZ]at h1⊢;obtain⟨s2,e2⟩:=lQ (v+1) (by omega) (by omega);obtain⟨l3,e3,f3⟩:=zC x.pat.args (v+1+1) (by omega) (by omega);obtain⟨rest',p1,p2⟩:=ih (dn++[(⟨v,(⟨s2,l3⟩:aE)⟩:Action)]) (v+1+1+(iL (fun _=>1) x.pat.args:Int)) (by omega) (by omega);refine⟨(⟨v,(⟨s2,l3⟩:aE)⟩:Action)::rest',fun k=>?_,fun a k i=>?_⟩
   ·rw[fe];simp(disch:=omega) only[yc,aA,e2,e3];rw[p1];simp only[bY,dN]
    congr 1
    omega
   ·have g0:decide ((v+1+1+(iL (fun _=>1) x.pat.args:Int):Int)<0)=false:=bA (by omega);rw[fZ];simp(disch:=omega) only[yc,aA,cy,bP,aZ,gL,e2,f3,g0];rw[p2]
    congr 1
    omega
 intro k h0 h1;obtain⟨l',p1,p2⟩:=key l [] k h0 h1;exact⟨l',by unfold qP;rw[p1];rfl,by unfold qO;rw[p2]⟩
def aN.wt(x:aN):Nat:=tw x.name+kA aQ.wt x.conds+kA Action.wt x.cv
def aN.iZ(x:aN):Nat:=2+iL aQ.iZ x.conds+iL Action.iZ x.cv
theorem aN.nr(x:aN):x.iZ<=6+6*x.wt:=by
 unfold aN.iZ aN.wt;have h0:=qY aQ.iZ aQ.wt x.conds (fun y=>aQ.nr y);have h1:=qY Action.iZ Action.wt x.cv (fun y=>Action.nr y);omega
theorem a0R(x:aN)(h:yE x.c)(v:Int)(h0:0<=v)(h1:v<=1048576):xY (vP x v) v (aN.wt x):=by
 unfold vP;refine xY.eq (n:=(tw x.name+(kA aQ.wt x.conds+(kA Action.wt x.cv+0)))) ?_ (by simp only[aN.wt];omega);refine xY.str (m:=(kA aQ.wt x.conds+(kA Action.wt x.cv+0))) ((h (.str x.name) (by simp)).str) h0 h1 fun g1 e1=>?_
 rw[e1];have l1:v-(x.name.length:Int)<=1048576:=by omega
 refine(Xh x.conds (h (.sl (x.conds.map aQ.c)) (by simp)) _ g1 l1).sub l1 g1 (m:=(kA Action.wt x.cv+0)) fun r2 g2 l2=>?_
 refine(UC x.cv (h (.sl (x.cv.map Action.c)) (by simp)) _ g2 l2).sub l2 g2 (m:=0) fun r3 g3 l3=>?_
 exact xY.fin
theorem a0Y(x:aN)(h:aN.wt x<=1048576):vT x=some x:=by
 unfold vT;simp only[Xq x.conds (by simp only[aN.wt]at h;omega),UG x.cv (by simp only[aN.wt]at h;omega),aA]
theorem Ze(a b:aN):vL a b=some (decide (a=b)):=by
 obtain⟨a0,a1,a2,a3⟩:=a;obtain⟨b0,b1,b2,b3⟩:=b;unfold vL;simp only[TL,Wp,aA,fH,bne];by_cases h0:a0=b0<;>by_cases h1:a1=b1<;>by_cases h2:a2=b2<;>by_cases h3:a3=b3<;>simp[h0,h1,h2,h3]
theorem Xk(l:ar)(h:dY (.sl (l.map aN.c)))(v:Int)(h0:0<=v)(h1:v<=1048576):xY (wW l v) v (kA aN.wt l):=by
 unfold wW;exact szS h h0 h1 fun v' g0 g1=>szL (w:=aN.wt) (f:=vP) (oY l (fun z=>some z)) (fun _ _=>rfl) (fun _ _ _ _=>rfl) l (fun x hx v g0 g1=>a0R x (yE.row h x hx) v g0 g1) 0 v' g0 g1
theorem Xt(l:ar)(h:kA aN.wt l<=1048576):we l=some l:=by
 unfold we;rw[KU (by rw[aa];exact cU (gy _ _) h) (by decide)];exact toL (c:=aN.c) (f:=vT) (oh l (fun q=>some q)) (fun _ _=>rfl) (fun _ _ _ _=>rfl) (fun x hx=>a0Y x (by have:=ic (w:=aN.wt) hx;omega))
theorem Wt(a b:ar):wS a b=some (decide (a=b)):=by
 unfold wS;exact SQ (c:=aN.c) (f:=vL) (fun k=>oT a b k) (fun _ _=>rfl) (fun _ _ _ _=>rfl) Ze
theorem XO(l:ar):QJ (iL aN.iZ l) (tP l) tL:=by
 have key:∀(rest dn:ar) (v:Int),1<=v->v+(iL aN.iZ rest:Int)<=4611686018427387904->∃rest':ar,(∀k,iJ k rest dn v=k (dn++rest') (v+(iL aN.iZ rest:Int)))/\∀a k i,iE a k rest' i v=k (v+(iL aN.iZ rest:Int)):=by
  intro rest
  induction rest with
  |nil=>intro dn v _ _;exact⟨[],fun k=>by simp[iJ,iL],fun a k i=>by simp[iE,iL]⟩
  |cons x xs ih=>
   intro dn v h0 h1;rw[vC]at h1⊢;simp only[aN.iZ]at h1⊢;obtain⟨s1,e1⟩:=lQ v (by omega) (by omega);obtain⟨l3,e3,f3⟩:=XL x.conds (v+1+1) (by omega) (by omega);obtain⟨l4,e4,f4⟩:=Tn x.cv (v+1+1+(iL aQ.iZ x.conds:Int)) (by omega) (by omega);obtain⟨rest',p1,p2⟩:=ih (dn++[(⟨s1,(v+1),l3,l4⟩:aN)]) (v+1+1+(iL aQ.iZ x.conds:Int)+(iL Action.iZ x.cv:Int)) (by omega) (by omega);refine⟨(⟨s1,(v+1),l3,l4⟩:aN)::rest',fun k=>?_,fun a k i=>?_⟩
   ·rw[iJ];simp(disch:=omega) only[yc,aA,e1,e3,e4];rw[p1];simp only[bY,dN]
    congr 1
    omega
   ·have g0:decide ((v+1+1+(iL aQ.iZ x.conds:Int):Int)<0)=false:=bA (by omega);have g1:decide ((v+1+1+(iL aQ.iZ x.conds:Int)+(iL Action.iZ x.cv:Int):Int)<0)=false:=bA (by omega);rw[iE];simp(disch:=omega) only[yc,aA,cy,bP,aZ,gL,e1,f3,f4,g0,g1];rw[p2]
    congr 1
    omega
 intro k h0 h1;obtain⟨l',p1,p2⟩:=key l [] k h0 h1;exact⟨l',by unfold tP;rw[p1];rfl,by unfold tL;rw[p2]⟩
def aI.wt(x:aI):Nat:=kA aE.wt x.facts+kA aS.wt x.bind
def aI.iZ(x:aI):Nat:=0+iL aE.iZ x.facts+iL aS.iZ x.bind
theorem aI.nr(x:aI):x.iZ<=6+6*x.wt:=by
 unfold aI.iZ aI.wt;have h0:=qY aE.iZ aE.wt x.facts (fun y=>aE.nr y);have h1:=qY aS.iZ aS.wt x.bind (fun y=>aS.nr y);omega
theorem Xl(x:aI)(h:yE x.c)(v:Int)(h0:0<=v)(h1:v<=1048576):xY (tT x v) v (aI.wt x):=by
 unfold tT;refine xY.eq (n:=(kA aE.wt x.facts+(kA aS.wt x.bind+0))) ?_ (by simp only[aI.wt];omega);refine(MJ x.facts (h (.sl (x.facts.map aE.c)) (by simp)) _ h0 h1).sub h1 h0 (m:=(kA aS.wt x.bind+0)) fun r1 g1 l1=>?_
 refine(Xj x.bind (h (.sl (x.bind.map aS.c)) (by simp)) _ g1 l1).sub l1 g1 (m:=0) fun r2 g2 l2=>?_
 exact xY.fin
theorem Xu(x:aI)(h:aI.wt x<=1048576):tW x=some x:=by
 unfold tW;simp only[MK x.facts (by simp only[aI.wt]at h;omega),Xs x.bind (by simp only[aI.wt]at h;omega),aA]
theorem Wu(a b:aI):tH a b=some (decide (a=b)):=by
 obtain⟨a0,a1⟩:=a;obtain⟨b0,b1⟩:=b;unfold tH;simp only[M4,Ws,aA,fH,bne];by_cases h0:a0=b0<;>by_cases h1:a1=b1<;>simp[h0,h1]
theorem Vx(l:ah)(h:dY (.sl (l.map aI.c)))(v:Int)(h0:0<=v)(h1:v<=1048576):xY (ue l v) v (kA aI.wt l):=by
 unfold ue;exact szS h h0 h1 fun v' g0 g1=>szL (w:=aI.wt) (f:=tT) (nN l (fun z=>some z)) (fun _ _=>rfl) (fun _ _ _ _=>rfl) l (fun x hx v g0 g1=>Xl x (yE.row h x hx) v g0 g1) 0 v' g0 g1
theorem W7(l:ah)(h:kA aI.wt l<=1048576):ug l=some l:=by
 unfold ug;rw[KU (by rw[aa];exact cU (gy _ _) h) (by decide)];exact toL (c:=aI.c) (f:=tW) (nR l (fun q=>some q)) (fun _ _=>rfl) (fun _ _ _ _=>rfl) (fun x hx=>Xu x (by have:=ic (w:=aI.wt) hx;omega))
theorem V4(a b:ah):uZ a b=some (decide (a=b)):=by
 unfold uZ;exact SQ (c:=aI.c) (f:=tH) (fun k=>nI a b k) (fun _ _=>rfl) (fun _ _ _ _=>rfl) Wu
theorem Va(l:ah):QJ (iL aI.iZ l) (rQ l) rO:=by
 have key:∀(rest dn:ah) (v:Int),1<=v->v+(iL aI.iZ rest:Int)<=4611686018427387904->∃rest':ah,(∀k,gW k rest dn v=k (dn++rest') (v+(iL aI.iZ rest:Int)))/\∀a k i,gU a k rest' i v=k (v+(iL aI.iZ rest:Int)):=by
  intro rest
  induction rest with
  |nil=>intro dn v _ _;exact⟨[],fun k=>by simp[gW,iL],fun a k i=>by simp[gU,iL]⟩
  |cons x xs ih=>
   intro dn v h0 h1;rw[vC]at h1⊢;simp only[aI.iZ]at h1⊢;obtain⟨l1,e1,f1⟩:=MC x.facts v (by omega) (by omega);obtain⟨l2,e2,f2⟩:=XN x.bind (v+(iL aE.iZ x.facts:Int)) (by omega) (by omega);obtain⟨rest',p1,p2⟩:=ih (dn++[(⟨l1,l2⟩:aI)]) (v+(iL aE.iZ x.facts:Int)+(iL aS.iZ x.bind:Int)) (by omega) (by omega);refine⟨(⟨l1,l2⟩:aI)::rest',fun k=>?_,fun a k i=>?_⟩
   ·rw[gW];simp(disch:=omega) only[yc,aA,e1,e2];rw[p1];simp only[bY,dN]
    congr 1
    omega
   ·have g0:decide ((v+(iL aE.iZ x.facts:Int):Int)<0)=false:=bA (by omega);have g1:decide ((v+(iL aE.iZ x.facts:Int)+(iL aS.iZ x.bind:Int):Int)<0)=false:=bA (by omega);rw[gU];simp(disch:=omega) only[yc,aA,cy,bP,aZ,gL,f1,f2,g0,g1];rw[p2]
    congr 1
    omega
 intro k h0 h1;obtain⟨l',p1,p2⟩:=key l [] k h0 h1;exact⟨l',by unfold rQ;rw[p1];rfl,by unfold rO;rw[p2]⟩
def aP.wt(x:aP):Nat:=tw x.shape.rel+kA tw x.shape.args+kA aE.wt x.facts
def aP.iZ(x:aP):Nat:=1+iL (fun _=>1) x.shape.args+iL aE.iZ x.facts
theorem aP.nr(x:aP):x.iZ<=6+6*x.wt:=by
 unfold aP.iZ aP.wt;have h0:=qY (fun _=>1) tw x.shape.args (fun y=>by omega);have h1:=qY aE.iZ aE.wt x.facts (fun y=>aE.nr y);omega
theorem Xg(x:aP)(h:yE x.c)(v:Int)(h0:0<=v)(h1:v<=1048576):xY (tR x v) v (aP.wt x):=by
 unfold tR;refine xY.eq (n:=(aE.wt x.shape+(kA aE.wt x.facts+0))) ?_ (by simp only[aP.wt,aE.wt];omega);refine(F5 x.shape (yE.sub h (by intro d hd;simp only[bM,sX,GN]at hd⊢;rcases hd with rfl|rfl<;>simp)) _ h0 h1).sub h1 h0 (m:=(kA aE.wt x.facts+0)) fun r1 g1 l1=>?_
 refine(MJ x.facts (h (.sl (x.facts.map aE.c)) (by simp)) _ g1 l1).sub l1 g1 (m:=0) fun r2 g2 l2=>?_
 exact xY.fin
theorem Xp(x:aP)(h:aP.wt x<=1048576):tV x=some x:=by
 unfold tV;simp only[F6 x.shape (by simp only[aP.wt,aE.wt]at h⊢;omega),MK x.facts (by simp only[aP.wt]at h;omega),aA]
theorem Wo(a b:aP):tG a b=some (decide (a=b)):=by
 obtain⟨a0,a1⟩:=a;obtain⟨b0,b1⟩:=b;unfold tG;simp only[M4,Ev,aA,fH,bne];by_cases h0:a0=b0<;>by_cases h1:a1=b1<;>simp[h0,h1]
theorem Vw(l:b7)(h:dY (.sl (l.map aP.c)))(v:Int)(h0:0<=v)(h1:v<=1048576):xY (ud l v) v (kA aP.wt l):=by
 unfold ud;exact szS h h0 h1 fun v' g0 g1=>szL (w:=aP.wt) (f:=tR) (nL l (fun z=>some z)) (fun _ _=>rfl) (fun _ _ _ _=>rfl) l (fun x hx v g0 g1=>Xg x (yE.row h x hx) v g0 g1) 0 v' g0 g1
theorem Vz(l:b7)(h:kA aP.wt l<=1048576):uf l=some l:=by
 unfold uf;rw[KU (by rw[aa];exact cU (gy _ _) h) (by decide)];exact toL (c:=aP.c) (f:=tV) (nO l (fun q=>some q)) (fun _ _=>rfl) (fun _ _ _ _=>rfl) (fun x hx=>Xp x (by have:=ic (w:=aP.wt) hx;omega))
theorem V3(a b:b7):uY a b=some (decide (a=b)):=by
 unfold uY;exact SQ (c:=aP.c) (f:=tG) (fun k=>nG a b k) (fun _ _=>rfl) (fun _ _ _ _=>rfl) Wo
theorem VZ(l:b7):QJ (iL aP.iZ l) (rP l) rN:=by
 have key:∀(rest dn:b7) (v:Int),1<=v->v+(iL aP.iZ rest:Int)<=4611686018427387904->∃rest':b7,(∀k,gV k rest dn v=k (dn++rest') (v+(iL aP.iZ rest:Int)))/\∀a k i,gT a k rest' i v=k (v+(iL aP.iZ rest:Int)):=by
  intro rest
  induction rest with
  |nil=>intro dn v _ _;exact⟨[],fun k=>by simp[gV,iL],fun a k i=>by simp[gT,iL]⟩
  |cons x xs ih=>
   intro dn v h0 h1;rw[vC]at h1⊢;simp only[aP.iZ]at h1⊢;obtain⟨s1,e1⟩:=lQ v (by omega) (by omega);obtain⟨l2,e2,f2⟩:=zC x.shape.args (v+1) (by omega) (by omega);obtain⟨l3,e3,f3⟩:=MC x.facts (v+1+(iL (fun _=>1) x.shape.args:Int)) (by omega) (by omega);obtain⟨rest',p1,p2⟩:=ih (dn++[(⟨(⟨s1,l2⟩:aE),l3⟩:aP)]) (v+1+(iL (fun _=>1) x.shape.args:Int)+(iL aE.iZ x.facts:Int)) (by omega) (by omega);refine⟨(⟨(⟨s1,l2⟩:aE),l3⟩:aP)::rest',fun k=>?_,fun a k i=>?_⟩
   ·rw[gV];simp(disch:=omega) only[yc,aA,e1,e2,e3];rw[p1];simp only[bY,dN]
    congr 1
    omega
   ·have g0:decide ((v+1+(iL (fun _=>1) x.shape.args:Int):Int)<0)=false:=bA (by omega);have g1:decide ((v+1+(iL (fun _=>1) x.shape.args:Int)+(iL aE.iZ x.facts:Int):Int)<0)=false:=bA (by omega);rw[gT];simp(disch:=omega) only[yc,aA,cy,bP,aZ,gL,e1,f2,f3,g0,g1];rw[p2]
    congr 1
    omega
 intro k h0 h1;obtain⟨l',p1,p2⟩:=key l [] k h0 h1;exact⟨l',by unfold rP;rw[p1];rfl,by unfold rN;rw[p2]⟩
def Node.wt(x:Node):Nat:=tw x.cond.pat.rel+kA tw x.cond.pat.args+tw x.cond.left+tw x.cond.right+kA aI.wt x.tokens
def Node.iZ(x:Node):Nat:=6+iL (fun _=>1) x.cond.pat.args+iL aI.iZ x.tokens
theorem Node.nr(x:Node):x.iZ<=6+6*x.wt:=by
 unfold Node.iZ Node.wt;have h0:=qY (fun _=>1) tw x.cond.pat.args (fun y=>by omega);have h1:=qY aI.iZ aI.wt x.tokens (fun y=>aI.nr y);omega
theorem a0P(x:Node)(h:yE x.c)(v:Int)(h0:0<=v)(h1:v<=1048576):xY (vN x v) v (Node.wt x):=by
 unfold vN;refine xY.eq (n:=(aQ.wt x.cond+(kA aI.wt x.tokens+0))) ?_ (by simp only[Node.wt,aQ.wt];omega);refine(Sq x.cond (yE.sub h (by intro d hd;simp only[bM,sX,GN]at hd⊢;rcases hd with rfl|rfl|rfl|rfl|rfl<;>simp)) _ h0 h1).sub h1 h0 (m:=(kA aI.wt x.tokens+0)) fun r1 g1 l1=>?_
 refine(Vx x.tokens (h (.sl (x.tokens.map aI.c)) (by simp)) _ g1 l1).sub l1 g1 (m:=0) fun r2 g2 l2=>?_
 exact xY.fin
theorem a0W(x:Node)(h:Node.wt x<=1048576):vR x=some x:=by
 unfold vR;simp only[Ss x.cond (by simp only[Node.wt,aQ.wt]at h⊢;omega),W7 x.tokens (by simp only[Node.wt]at h;omega),aA]
theorem Zc(a b:Node):vJ a b=some (decide (a=b)):=by
 obtain⟨a0,a1,a2,a3⟩:=a;obtain⟨b0,b1,b2,b3⟩:=b;unfold vJ;simp only[SP,V4,aA,fH,bne];by_cases h0:a0=b0<;>by_cases h1:a1=b1<;>by_cases h2:a2=b2<;>by_cases h3:a3=b3<;>simp[h0,h1,h2,h3]
theorem Xi(l:ay)(h:dY (.sl (l.map Node.c)))(v:Int)(h0:0<=v)(h1:v<=1048576):xY (wU l v) v (kA Node.wt l):=by
 unfold wU;exact szS h h0 h1 fun v' g0 g1=>szL (w:=Node.wt) (f:=vN) (oW l (fun z=>some z)) (fun _ _=>rfl) (fun _ _ _ _=>rfl) l (fun x hx v g0 g1=>a0P x (yE.row h x hx) v g0 g1) 0 v' g0 g1
theorem Xr(l:ay)(h:kA Node.wt l<=1048576):wY l=some l:=by
 unfold wY;rw[KU (by rw[aa];exact cU (gy _ _) h) (by decide)];exact toL (c:=Node.c) (f:=vR) (oc l (fun q=>some q)) (fun _ _=>rfl) (fun _ _ _ _=>rfl) (fun x hx=>a0W x (by have:=ic (w:=Node.wt) hx;omega))
theorem Wq(a b:ay):wQ a b=some (decide (a=b)):=by
 unfold wQ;exact SQ (c:=Node.c) (f:=vJ) (fun k=>oR a b k) (fun _ _=>rfl) (fun _ _ _ _=>rfl) Zc
theorem XM(l:ay):QJ (iL Node.iZ l) (tN l) tJ:=by
 have key:∀(rest dn:ay) (v:Int),1<=v->v+(iL Node.iZ rest:Int)<=4611686018427387904->∃rest':ay,(∀k,iH k rest dn v=k (dn++rest') (v+(iL Node.iZ rest:Int)))/\∀a k i,iC a k rest' i v=k (v+(iL Node.iZ rest:Int)):=by
  intro rest
  induction rest with
  |nil=>intro dn v _ _;exact⟨[],fun k=>by simp[iH,iL],fun a k i=>by simp[iC,iL]⟩
  |cons x xs ih=>
   intro dn v h0 h1;rw[vC]at h1⊢;simp only[Node.iZ]at h1⊢;obtain⟨s3,e3⟩:=lQ (v+1+1) (by omega) (by omega);obtain⟨l4,e4,f4⟩:=zC x.cond.pat.args (v+1+1+1) (by omega) (by omega);obtain⟨s5,e5⟩:=lQ (v+1+1+1+(iL (fun _=>1) x.cond.pat.args:Int)) (by omega) (by omega);obtain⟨s6,e6⟩:=lQ (v+1+1+1+(iL (fun _=>1) x.cond.pat.args:Int)+1) (by omega) (by omega);obtain⟨l8,e8,f8⟩:=Va x.tokens (v+1+1+1+(iL (fun _=>1) x.cond.pat.args:Int)+1+1+1) (by omega) (by omega);obtain⟨rest',p1,p2⟩:=ih (dn++[(⟨v,(⟨(v+1),(⟨s3,l4⟩:aE),s5,s6⟩:aQ),(v+1+1+1+(iL (fun _=>1) x.cond.pat.args:Int)+1+1),l8⟩:Node)]) (v+1+1+1+(iL (fun _=>1) x.cond.pat.args:Int)+1+1+1+(iL aI.iZ x.tokens:Int)) (by omega) (by omega);refine⟨(⟨v,(⟨(v+1),(⟨s3,l4⟩:aE),s5,s6⟩:aQ),(v+1+1+1+(iL (fun _=>1) x.cond.pat.args:Int)+1+1),l8⟩:Node)::rest',fun k=>?_,fun a k i=>?_⟩
   ·rw[iH];simp(disch:=omega) only[yc,aA,e3,e4,e5,e6,e8];rw[p1];simp only[bY,dN]
    congr 1
    omega
   ·have g0:decide ((v+1+1+1+(iL (fun _=>1) x.cond.pat.args:Int):Int)<0)=false:=bA (by omega);have g1:decide ((v+1+1+1+(iL (fun _=>1) x.cond.pat.args:Int)+1+1+1+(iL aI.iZ x.tokens:Int):Int)<0)=false:=bA (by omega);rw[iC];simp(disch:=omega) only[yc,aA,cy,bP,aZ,gL,e3,f4,e5,e6,f8,g0,g1];rw[p2]
    congr 1
    omega
 intro k h0 h1;obtain⟨l',p1,p2⟩:=key l [] k h0 h1;exact⟨l',by unfold tN;rw[p1];rfl,by unfold tJ;rw[p2]⟩
def aF.wt(x:aF):Nat:=kA aN.wt x.rules+kA zw x.ends+kA aP.wt x.av+kA Node.wt x.nodes+kA aE.wt x.facts
def aF.iZ(x:aF):Nat:=1+iL aN.iZ x.rules+iL (fun _=>1) x.ends+iL aP.iZ x.av+iL Node.iZ x.nodes+iL aE.iZ x.facts
theorem aF.nr(x:aF):x.iZ<=6+6*x.wt:=by
 unfold aF.iZ aF.wt;have h0:=qY aN.iZ aN.wt x.rules (fun y=>aN.nr y);have h1:=qY (fun _=>1) zw x.ends (fun y=>by omega);have h2:=qY aP.iZ aP.wt x.av (fun y=>aP.nr y);have h3:=qY Node.iZ Node.wt x.nodes (fun y=>Node.nr y);have h4:=qY aE.iZ aE.wt x.facts (fun y=>aE.nr y);omega
theorem UD(x:aF)(h:yE x.c)(v:Int)(h0:0<=v)(h1:v<=1048576):xY (tS x v) v (aF.wt x):=by
 unfold tS;refine xY.eq (n:=(kA aN.wt x.rules+(kA zw x.ends+(kA aP.wt x.av+(kA Node.wt x.nodes+(kA aE.wt x.facts+0)))))) ?_ (by simp only[aF.wt];omega);refine(Xk x.rules (h (.sl (x.rules.map aN.c)) (by simp)) _ h0 h1).sub h1 h0 (m:=(kA zw x.ends+(kA aP.wt x.av+(kA Node.wt x.nodes+(kA aE.wt x.facts+0))))) fun r1 g1 l1=>?_
 refine(a0O x.ends (h (.sl (x.ends.map dL)) (by simp)) _ g1 l1).sub l1 g1 (m:=(kA aP.wt x.av+(kA Node.wt x.nodes+(kA aE.wt x.facts+0)))) fun r2 g2 l2=>?_
 refine(Vw x.av (h (.sl (x.av.map aP.c)) (by simp)) _ g2 l2).sub l2 g2 (m:=(kA Node.wt x.nodes+(kA aE.wt x.facts+0))) fun r3 g3 l3=>?_
 refine(Xi x.nodes (h (.sl (x.nodes.map Node.c)) (by simp)) _ g3 l3).sub l3 g3 (m:=(kA aE.wt x.facts+0)) fun r4 g4 l4=>?_
 refine(MJ x.facts (h (.sl (x.facts.map aE.c)) (by simp)) _ g4 l4).sub l4 g4 (m:=0) fun r5 g5 l5=>?_
 exact xY.fin
theorem UH(x:aF)(h:aF.wt x<=1048576):lD x=some x:=by
 unfold lD;simp only[Xt x.rules (by simp only[aF.wt]at h;omega),a0V x.ends (by simp only[aF.wt]at h;omega),Vz x.av (by simp only[aF.wt]at h;omega),Xr x.nodes (by simp only[aF.wt]at h;omega),MK x.facts (by simp only[aF.wt]at h;omega),aA]
theorem TM(a b:aF):l9 a b=some (decide (a=b)):=by
 obtain⟨a0,a1,a2,a3,a4,a5⟩:=a;obtain⟨b0,b1,b2,b3,b4,b5⟩:=b;unfold l9;simp only[V3,M4,Zb,Wq,Wt,aA,fH,bne];by_cases h0:a0=b0<;>by_cases h1:a1=b1<;>by_cases h2:a2=b2<;>by_cases h3:a3=b3<;>by_cases h4:a4=b4<;>by_cases h5:a5=b5<;>simp[h0,h1,h2,h3,h4,h5]
def aF.Ov(x:aF):Nat:=iL aN.iZ x.rules+iL (fun _=>1) x.ends+iL aP.iZ x.av+iL Node.iZ x.nodes+iL aE.iZ x.facts
theorem aF.a5R(x:aF):aF.Ov x<=6*aF.wt x:=by
 unfold aF.Ov aF.wt;have h0:=qY aN.iZ aN.wt x.rules (fun y=>aN.nr y);have h1:=qY (fun _=>1) zw x.ends (fun y=>by omega);have h2:=qY aP.iZ aP.wt x.av (fun y=>aP.nr y);have h3:=qY Node.iZ Node.wt x.nodes (fun y=>Node.nr y);have h4:=qY aE.iZ aE.wt x.facts (fun y=>aE.nr y);omega
theorem KO(x:aF)(k:Int)(h0:1<=k)(h1:k+(aF.Ov x:Int)<=4611686018427387904):∃y:aF,kT x k=some (y,k+(aF.Ov x:Int))/\kR y k=some (k+(aF.Ov x:Int))/\(⟨y.rules,y.ends,y.av,y.nodes,y.facts,x.bw⟩:aF)=y:=by
 unfold aF.Ov at h1⊢;obtain⟨l1,e1,f1⟩:=XO x.rules k (by omega) (by omega);obtain⟨l2,e2,f2⟩:=a02 x.ends (k+(iL aN.iZ x.rules:Int)) (by omega) (by omega);obtain⟨l3,e3,f3⟩:=VZ x.av (k+(iL aN.iZ x.rules:Int)+(iL (fun _=>1) x.ends:Int)) (by omega) (by omega);obtain⟨l4,e4,f4⟩:=XM x.nodes (k+(iL aN.iZ x.rules:Int)+(iL (fun _=>1) x.ends:Int)+(iL aP.iZ x.av:Int)) (by omega) (by omega);obtain⟨l5,e5,f5⟩:=MC x.facts (k+(iL aN.iZ x.rules:Int)+(iL (fun _=>1) x.ends:Int)+(iL aP.iZ x.av:Int)+(iL Node.iZ x.nodes:Int)) (by omega) (by omega);refine⟨(⟨l1,l2,l3,l4,l5,x.bw⟩:aF),?_,?_,rfl⟩
 ·unfold kT;simp only[aA,e1,e2,e3,e4,e5]
  all_goals(congr 2<;>omega)
 ·unfold kR;have g0:decide ((k+(iL aN.iZ x.rules:Int):Int)<0)=false:=bA (by omega);have g1:decide ((k+(iL aN.iZ x.rules:Int)+(iL (fun _=>1) x.ends:Int):Int)<0)=false:=bA (by omega);have g2:decide ((k+(iL aN.iZ x.rules:Int)+(iL (fun _=>1) x.ends:Int)+(iL aP.iZ x.av:Int):Int)<0)=false:=bA (by omega);have g3:decide ((k+(iL aN.iZ x.rules:Int)+(iL (fun _=>1) x.ends:Int)+(iL aP.iZ x.av:Int)+(iL Node.iZ x.nodes:Int):Int)<0)=false:=bA (by omega);have g4:decide ((k+(iL aN.iZ x.rules:Int)+(iL (fun _=>1) x.ends:Int)+(iL aP.iZ x.av:Int)+(iL Node.iZ x.nodes:Int)+(iL aE.iZ x.facts:Int):Int)<0)=false:=bA (by omega);simp only[aA,aZ,f1,f2,f3,f4,f5,g0,g1,g2,g3,g4]
  all_goals(congr 1<;>omega)
theorem To(x:aF):QJ (aF.Ov x) (kT x) kR:=fun k h0 h1=>by
 obtain⟨y,a,b,_⟩:=KO x k h0 h1;exact⟨y,a,b⟩
open Go.RowKit Go.Proofs Go.Shelf Tryz
theorem Rd.xB{w:World}{v:Value}{s:Bytes}{bs:af}(h:Rd w v (.str s) bs):∃y:ByteArray,v=.string y/\y.data.toList=s/\y.size<=maxLen/\bs=[]:=by
 cases h with
 |str y hy=>exact⟨y,rfl,rfl,hy,rfl⟩
theorem mZ.strs{w:World}{xs:aJ}:∀ {cs:br} {bs:af},mZ w cs (xs.map D.str) bs->∃ys:List ByteArray,cs=ys.map Value.string/\ys.map (·.data.toList)=xs:=by
 induction xs with
 |nil=>intro cs bs h;cases h;exact⟨[],rfl,rfl⟩
 |cons x xs ih=>
  intro cs bs h;cases h with
  |cons v vs d ds b1 b2 h1 h2 h3=>
   obtain⟨y,e1,e2,_,_⟩:=h2.xB;obtain⟨ys,e3,e4⟩:=ih h3;exact⟨y::ys,by simp[e1,e3],by simp[e2,e4]⟩
theorem TN(xs:aJ):(xs.map tx).flatten=xs.map D.str:=by
 induction xs with
 |nil=>rfl
 |cons x xs ih=>simp[tx,ih]
theorem Calls.txt{P:Program}{f:FuncId}{args:Array Value}{w:World}{r:ByteArray}{Θ:Nat->Nat}(hr:r.size<=maxLen)
 (h:Calls P f args w fun e w'=>e=.returned (.string r)/\Below w.heap.size w w'):
 Calls P f args w (fun e w'=>∃v bs' ts us,e=.returned v/\Below w.heap.size w w'/\EL w' v (.str r.data.toList) bs' ts us/\(∀b∈bs',b<w.heap.size->Θ b=0)/\(∀b∈bs',b∉ts)/\us.Nodup/\
  (∀b∈us,w.heap.size<=b/\Wr w' b)/\∀b∈ts,b∈us):=
 h.mono fun e w' ⟨h1,h2⟩=>⟨_,[],[],[],h1,h2,.v (.cell (.pure (.str r hr))),by simp,by simp,by simp,by simp,by simp⟩
open Go.RowKit Go.Proofs Go.Shelf Go.Sort Tryz
theorem mZ.a5s{w:World}{xs:aJ}:∀ {cs:br} {bs:af},mZ w cs (xs.map D.str) bs->∀x∈xs,x.length<=maxLen:=by
 induction xs with
 |nil=>intro cs bs h x hx;cases hx
 |cons x xs ih=>
  intro cs bs h y hy;cases h with
  |cons v vs d ds b1 b2 h1 h2 h3=>
   obtain⟨s,_,e2,e3,_⟩:=h2.xB;rcases bM.1 hy with rfl|hy
   ·rw[<-e2];exact e3
   ·exact ih h3 y hy
theorem mZ.Yn{w:World}:∀ {xs:aJ},(∀x∈xs,x.length<=maxLen)->mZ w (xs.map encStr) (xs.map D.str) []
 | [],_=>.nil
 |x::xs,h=>by
  have h1:Rd w (.string ⟨x.toArray⟩) (.str x) []:=by
   have:=Rd.str (w:=w) ⟨x.toArray⟩ (by have:=h x (by simp);simpa[ByteArray.size]using this);simpa using this
  exact .cons _ _ _ _ [] [] rfl h1 (mZ.Yn fun y hy=>h y (by simp[hy]))
theorem V8(xs:aJ):(xs.map tx).flatten.all D.flat=true:=by
 rw[TN];simp[D.flat]
def ol(xs:aJ):aJ:=xs.mergeSort fun x y=>decide (x<=y)
theorem CK(xs:aJ):(ol xs).Perm xs:=List.mergeSort_perm _ _
theorem R2{P:Program}{ρ:Ren}(L:Lays.n192 P ρ){e:TypeId}{xs:aJ}(hn:xs.length<4611686018427387904):UZ P (ρ.f 192) e 1 (xs.map tx) ((ol xs).map tx):=by
 refine⟨⟨_,L.f192,rfl,rfl⟩,?_⟩;intro w v cs hsz hrl hown hrd;rw[TN]at hrd;have hle:=hrd.a5s;obtain⟨ys,rfl,hys⟩:=hrd.strs;have hlen:(ol xs).length=xs.length:=(CK xs).length_eq;have Po:∀r∈(ol xs).map tx,r.length=1:=by
  intro r hr;obtain⟨x,_,rfl⟩:=cJ.1 hr;rfl
 rcases hown.2 with⟨rfl,h0⟩|⟨g,cap,cur,rfl,hb,TS,hnc,hcm,hcs,VI⟩
 ·have hx:xs=[]:=by simpa using h0
  subst hx;refine(Any.sort_Strings_none L none 0 w).mono ?_;rintro e' w' ⟨rfl,rfl⟩;exact⟨rfl,rfl,rfl,rfl,bR _,fun _ _ _=>rfl,Po,[],⟨by simp[hlen],.inl ⟨rfl,by simp[hlen]⟩⟩,by simpa[ol]using mZ.nil⟩
 ·rw[aa]at hnc VI⊢;rw[Nat.mul_one]at VI hcs;have hyl:ys.length=xs.length:=by rw[<-hys];simp
  have Qp:∀j,j<xs.length->cur[j]?=some (encStr xs.toArray[j]!):=by
   intro j hj;have h1:(cur.toList.take xs.length)[j]?=cur[j]?:=by rw[Cy hj];simp
   rw[<-h1,VI,cA];have hj':j<ys.length:=by omega
   rw[ai hj'];have:xs[j]?=some ys[j].data.toList:=by rw[<-hys,cA,ai hj'];rfl
   have hx:xs.toArray[j]! =ys[j].data.toList:=by
    rw[getElem!_pos _ _ (by simpa using hj)];rw[ai hj]at this;simpa using this
   rw[hx];simp[encStr]
  have hH:Holds encStr w g 0 xs.toArray:=by
   intro j hj;have hj:j<xs.length:=by simpa using hj
   refine⟨?_,?_⟩
   ·rw[<-Qp j hj];simp[World.cell?,TS]
   ·simp[World.frozen?,TS]
  have hblk:g<w.heap.size:=(bL.1 TS).1;refine(Any.sort_Strings L g 0 cap xs w hH hblk hn).mono ?_;rintro e' w' ⟨rfl,n,os,rfl⟩;have hheap:(grow (putRow encStr (Sort.ahead w n) g 0 (ol xs).toArray) os).heap=(w.heap.modify g (onCells (putCells encStr 0 (ol xs).toArray)))++os:=rfl;have Qn:∀b,b<w.heap.size->b≠g->(grow (putRow encStr (Sort.ahead w n) g 0 (ol xs).toArray) os).heap[b]?=w.heap[b]?:=by
   intro b hb hne;rw[hheap,gB (by simpa using hb),zF,bH (fun e=>hne e.symm)]
  have hrow:(grow (putRow encStr (Sort.ahead w n) g 0 (ol xs).toArray) os).heap[g]?=some (.cells (putCells encStr 0 (ol xs).toArray cur) e (0,0)):=by
   rw[hheap,gB (by simpa using hblk),zF,bS rfl,TS];rfl
  refine⟨rfl,rfl,rfl,rfl,by show w.heap.size<=(grow (putRow encStr (Sort.ahead w n) g 0 (ol xs).toArray) os).heap.size;rw[hheap];simp,fun b hb hne=>Qn b hb fun e=>hne (by rw[e];rfl),Po,(ol xs).map encStr,⟨by simp,.inr ⟨g,cap,_,by simp[hlen],hb,hrow,by simpa[hlen]using hnc,hcm,by simp[putCells,hcs],?_⟩⟩,?_⟩
  ·apply oF;intro j;simp only[aa,Nat.mul_one];by_cases hj:j<(ol xs).length
   ·have hj2:j<cur.size:=by omega
    rw[Cy hj,cA,ai hj];simp[putCells,hj2,hj]
   ·rw[ck (by simp;omega),ck (by simp;omega)]
  ·rw[TN];exact mZ.Yn fun x hx=>hle x ((CK xs).mem_iff.1 hx)
open Go.RowKit Go.Proofs Go.Shelf Go.Lib Tryz
theorem a2P(n:Int)(h:tv .i64 n):(itoa n).length<=20:=by
 have h1: -9223372036854775808<=n:=h.1;have h2:n<=9223372036854775807:=h.2;have key:∀u:Nat,u<=9223372036854775808->nDigits u<=19:=by
  intro u hu;by_cases h0:u=0
  ·subst h0;rw[nDigits_small (by omega)];omega
  ·by_cases hk:nDigits u<=19
   ·exact hk
   ·exfalso;have a8P:∀(k v:Nat),v<10^k->1<=k->nDigits v<=k:=by
     intro k
     induction k with
     |zero=>intro v _ h;omega
     |succ k ih=>
      intro v hv _;by_cases h10:v<10
      ·rw[nDigits_small h10];omega
      ·rw[nDigits_big h10];have h3:v/10<10^k:=by rw[yl]at hv;omega
       have hk1:1<=k:=by
        cases k with
        |zero=>simp at hv;omega
        |succ k=>omega
       have:=ih (v/10) h3 hk1;omega
    have:=a8P 19 u (by omega) (by omega);omega
 unfold itoa;split
 ·rw[aK,decDigits_length];have:=key n.natAbs (by omega);omega
 ·rw[decDigits_length];have:=key n.toNat (by omega);omega
theorem Uq(w:World)(k:Nat)(os:Array Obj):Below w.heap.size w (Sort.grow (w.drewN k) os):=
 ⟨rfl,rfl,rfl,by show w.heap.size<=(w.heap++os).size;simp,fun b hb=>by show(w.heap++os)[b]?=_;rw[gB hb]⟩
theorem VT{P:Program}{ρ:Ren}(L:LaysM.n171 P ρ){g:Nat}(hg:P.globalNamed "internal/strconv.uint64pow10" =some g)(hx:(g,fun cs:br=>cs=pow10Tab.map fun z=>Value.int .u64 z)∈Aa){n:Int}:
 Good P (ρ.f 171) [.int .i64 n] (.str (itoa n)):=by
 refine⟨⟨_,L.f171,rfl,rfl⟩,?_⟩;intro w Θ args bs hv ha _ _ _;obtain _|⟨v1,_,_,_,b1,_,h1,ha⟩:=ha;cases ha;cases h1 with
 |int _ _ hr=>
  have h0: -9223372036854775808<=n:=hr.1;have h1:n<=9223372036854775807:=hr.2;have hl:=a2P n hr;have ht:TabIs P w "internal/strconv.uint64pow10" .u64 pow10Tab:=by
   obtain⟨cs,h2,h3⟩:=hv.var hx hg;have h4:cs=(pow10Tab.map fun z=>Value.int .u64 z).toArray:=by rw[<-h3]
   rw[h4]at h2;exact h2
  have:=Calls.txt (Θ:=Θ) (r:=⟨(itoa n).toArray⟩) (by show(itoa n).toArray.size<=maxLen;rw[Cg];unfold maxLen;omega)
   ((Any.strconv_Itoa L n h0 h1 w ht).mono fun e w' ⟨k1,k,os,k2⟩=>⟨k1,by subst k2;exact Uq w k os⟩)
  simpa using this
theorem Up(w:World)(t5:TypeId)(t:ByteArray):Below w.heap.size w (Lib.bytesWorld w t5 t):=Lib.bytesWorld_below _ _ _
def Tg(s:Bytes):Option (Int×Bool):=if s.length<=18 then(match Lib.atoi s with|some n=>some (n,false)|none=>some (0,true))else none
theorem VS{P:Program}{ρ:Ren}(L:LaysC.n172 P ρ){g:Nat}(hg:P.globalNamed "strconv.ErrSyntax" =some g)(hx:(g,fun cs:br=>∃tp p,cs=[Value.iface tp p])∈Aa){s:Bytes}{r:Int×Bool}(h:Tg s=some r):
 Good P (ρ.f 172) [.str s] (.gZ [.int .i64 r.1,.ifc r.2]):=by
 refine⟨⟨_,L.f172,rfl,rfl⟩,?_⟩;intro w Θ args bs hv ha _ _ _;obtain _|⟨v1,_,_,_,b1,_,h1,ha⟩:=ha;cases ha;obtain⟨y,rfl,rfl,_,_⟩:=h1.xB;unfold Tg at h;split at h
 ·rename_i hl;have hl':y.size<=18:=by simpa using hl
  split at h
  ·rename_i n hn;cases h;have hb:=Lib.atoi_bound hn hl;refine(Any.strconv_Atoi L.toM.ton172 y n hl' hn w).mono ?_;rintro e w' ⟨rfl,t,rfl⟩;exact⟨_,[],[],[],rfl,Up _ _ _,.gZ [.int .i64 n,.nilIface] [.int .i64 n,.ifc false] [] [] [] (.cons _ _ _ _ [] [] [] [] [] [] (.cell (.pure (.int _ _ (tv.i64.2 (by omega))))) (.cons _ _ _ _ [] [] [] [] [] [] (.cell (.pure .Zq)) .nil)),by simp,by simp,by simp,by simp,by simp⟩
  ·rename_i hn;cases h;obtain⟨cs,h2,tp,p,h3⟩:=hv.var hx hg;have h4:cs= #[.iface tp p]:=by rw[<-wv,h3]
   rw[h4]at h2;refine(Any.strconv_Atoi_err_var L y hl' hn tp p w h2).mono ?_;rintro e w' ⟨N,rfl,_,_,hbl⟩;exact⟨_,[],[],[],rfl,hbl,.gZ [.int .i64 0,.iface _ _] [.int .i64 0,.ifc true] [] [] [] (.cons _ _ _ _ [] [] [] [] [] [] (.cell (.pure (.int _ _ (tv.zero _)))) (.cons _ _ _ _ [] [] [] [] [] [] (.cell (.pure (.Zr _ _))) .nil)),by simp,by simp,by simp,by simp,by simp⟩
 ·cases h
theorem YJ:∀(a b:Bytes), -1<=Lib.compareBytes a b/\Lib.compareBytes a b<=1
 | [],[]=>by simp[Lib.compareBytes]
 | [],_::_=>by simp[Lib.compareBytes]
 |_::_,[]=>by simp[Lib.compareBytes]
 |a::xs,b::ys=>by
  simp only[Lib.compareBytes];split
  ·omega
  ·split
   ·omega
   ·exact YJ xs ys
theorem R1{P:Program}{ρ:Ren}(L:Lays.n106 P ρ){a b:Bytes}:Good P (ρ.f 106) [.str a,.str b] (.int .i64 (Lib.compareBytes a b)):=by
 refine⟨⟨_,L.f106,rfl,rfl⟩,?_⟩;intro w Θ args bs hv ha _ _ _;obtain _|⟨v1,_,_,_,b1,_,h1,ha⟩:=ha;obtain _|⟨v2,_,_,_,b2,_,h2,ha⟩:=ha;cases ha;obtain⟨y,rfl,rfl,_,_⟩:=h1.xB;obtain⟨z,rfl,rfl,_,_⟩:=h2.xB;have hc:=YJ y.data.toList z.data.toList;refine(Any.strings_Compare L y z w).mono ?_;rintro e w' ⟨rfl,rfl⟩;exact⟨_,[],[],[],rfl,Below.refl _ _,.v (.cell (.pure (.int _ _ (tv.i64.2 (by omega))))),by simp,by simp,by simp,by simp,by simp⟩
def VV:Ren:=⟨fun|192=>266|190=>278|125=>288|258=>287|128=>301|129=>302|302=>292|303=>293|304=>294|305=>295|306=>296|307=>297|308=>298|309=>299|310=>300|333=>312|329=>313|330=>314|334=>315|335=>316|336=>317|344=>325|n=>n,fun|31=>46|0=>0|9=>9|3=>3|46=>254|51=>266|53=>268|4=>4|183=>259|182=>258|131=>237|5=>5|218=>279|222=>283|228=>296|229=>186|n=>n,fun|n=>n⟩
theorem a5M:Lays.n192 prog VV:= {
 mixed:=by kernel_rfl,
 f125:=func288.trans (congrArg some (by kernel_rfl)),
 f128:=func301.trans (congrArg some (by kernel_rfl)),
 f129:=func302.trans (congrArg some (by kernel_rfl)),
 f190:=func278.trans (congrArg some (by kernel_rfl)),
 f192:=func266.trans (congrArg some (by kernel_rfl)),
 f258:=func287.trans (congrArg some (by kernel_rfl)),
 f302:=func292.trans (congrArg some (by kernel_rfl)),
 f303:=func293.trans (congrArg some (by kernel_rfl)),
 f304:=func294.trans (congrArg some (by kernel_rfl)),
 f305:=func295.trans (congrArg some (by kernel_rfl)),
 f306:=func296.trans (congrArg some (by kernel_rfl)),
 f307:=func297.trans (congrArg some (by kernel_rfl)),
 f308:=func298.trans (congrArg some (by kernel_rfl)),
 f309:=func299.trans (congrArg some (by kernel_rfl)),
 f310:=func300.trans (congrArg some (by kernel_rfl)),
 f329:=func313.trans (congrArg some (by kernel_rfl)),
 f330:=func314.trans (congrArg some (by kernel_rfl)),
 f333:=func312.trans (congrArg some (by kernel_rfl)),
 f334:=func315.trans (congrArg some (by kernel_rfl)),
 f335:=func316.trans (congrArg some (by kernel_rfl)),
 f336:=func317.trans (congrArg some (by kernel_rfl)),
 f344:=func325.trans (congrArg some (by kernel_rfl)),
 t0:=underlying0,
 a0:=Tryz.isAgg0,
 z0:=Tryz.sizeOf0,
 v0:=Tryz.zeroValue0,
 t3:=underlying3,
 a3:=Tryz.isAgg3,
 z3:=Tryz.sizeOf3,
 v3:=Tryz.zeroValue3,
 t4:=underlying4,
 a4:=Tryz.isAgg4,
 z4:=Tryz.sizeOf4,
 v4:=Tryz.zeroValue4,
 t5:=underlying5,
 a5:=Tryz.isAgg5,
 z5:=Tryz.sizeOf5,
 v5:=Tryz.zeroValue5,
 t9:=underlying9,
 a9:=Tryz.isAgg9,
 z9:=Tryz.sizeOf9,
 v9:=Tryz.zeroValue9,
 t31:=underlying46,
 a31:=Tryz.isAgg46,
 z31:=Tryz.sizeOf46,
 v31:=Tryz.zeroValue46,
 t46:=underlying254,
 a46:=Tryz.isAgg254,
 z46:=Tryz.sizeOf254,
 v46:=Tryz.zeroValue254,
 t51:=underlying266,
 a51:=Tryz.isAgg266,
 z51:=Tryz.sizeOf266,
 v51:=Tryz.zeroValue266,
 t53:=underlying268,
 a53:=Tryz.isAgg268,
 z53:=Tryz.sizeOf268,
 v53:=Tryz.zeroValue268,
 t131:=underlying237,
 a131:=Tryz.isAgg237,
 z131:=Tryz.sizeOf237,
 v131:=Tryz.zeroValue237,
 t182:=underlying258,
 a182:=Tryz.isAgg258,
 z182:=Tryz.sizeOf258,
 v182:=Tryz.zeroValue258,
 t183:=underlying259,
 a183:=Tryz.isAgg259,
 z183:=Tryz.sizeOf259,
 v183:=Tryz.zeroValue259,
 t218:=underlying279,
 a218:=Tryz.isAgg279,
 z218:=Tryz.sizeOf279,
 v218:=Tryz.zeroValue279,
 t222:=underlying283,
 a222:=Tryz.isAgg283,
 z222:=Tryz.sizeOf283,
 v222:=Tryz.zeroValue283,
 t228:=underlying296,
 a228:=Tryz.isAgg296,
 z228:=Tryz.sizeOf296,
 v228:=Tryz.zeroValue296,
 t229:=underlying186,
 a229:=Tryz.isAgg186,
 z229:=Tryz.sizeOf186,
 v229:=Tryz.zeroValue186}
theorem Je{e:TypeId}{xs:aJ}(hn:xs.length<4611686018427387904):UZ prog 266 e 1 (xs.map tx) ((ol xs).map tx):=R2 a5M hn
def PL:Ren:=⟨fun|171=>274|243=>285|246=>291|283=>308|284=>309|285=>310|286=>311|129=>302|317=>321|318=>322|319=>323|320=>324|337=>328|338=>329|n=>n,fun|3=>3|9=>9|2=>2|4=>4|171=>275|0=>0|53=>268|37=>150|5=>5|173=>277|212=>293|51=>266|20=>20|213=>294|46=>254|232=>303|233=>304|n=>n,fun|17=>3|18=>4|19=>5|n=>n⟩
theorem a5K:Lays.n171 prog PL:= {
 mixed:=by kernel_rfl,
 f129:=func302.trans (congrArg some (by kernel_rfl)),
 f171:=func274.trans (congrArg some (by kernel_rfl)),
 f243:=func285.trans (congrArg some (by kernel_rfl)),
 f246:=func291.trans (congrArg some (by kernel_rfl)),
 f283:=func308.trans (congrArg some (by kernel_rfl)),
 f284:=func309.trans (congrArg some (by kernel_rfl)),
 f285:=func310.trans (congrArg some (by kernel_rfl)),
 f286:=func311.trans (congrArg some (by kernel_rfl)),
 f317:=func321.trans (congrArg some (by kernel_rfl)),
 f318:=func322.trans (congrArg some (by kernel_rfl)),
 f319:=func323.trans (congrArg some (by kernel_rfl)),
 f320:=func324.trans (congrArg some (by kernel_rfl)),
 f337:=func328.trans (congrArg some (by kernel_rfl)),
 f338:=func329.trans (congrArg some (by kernel_rfl)),
 t0:=underlying0,
 a0:=Tryz.isAgg0,
 z0:=Tryz.sizeOf0,
 v0:=Tryz.zeroValue0,
 t2:=underlying2,
 a2:=Tryz.isAgg2,
 z2:=Tryz.sizeOf2,
 v2:=Tryz.zeroValue2,
 t3:=underlying3,
 a3:=Tryz.isAgg3,
 z3:=Tryz.sizeOf3,
 v3:=Tryz.zeroValue3,
 t4:=underlying4,
 a4:=Tryz.isAgg4,
 z4:=Tryz.sizeOf4,
 v4:=Tryz.zeroValue4,
 t5:=underlying5,
 a5:=Tryz.isAgg5,
 z5:=Tryz.sizeOf5,
 v5:=Tryz.zeroValue5,
 t9:=underlying9,
 a9:=Tryz.isAgg9,
 z9:=Tryz.sizeOf9,
 v9:=Tryz.zeroValue9,
 t20:=underlying20,
 a20:=Tryz.isAgg20,
 z20:=Tryz.sizeOf20,
 v20:=Tryz.zeroValue20,
 t37:=underlying150,
 a37:=Tryz.isAgg150,
 z37:=Tryz.sizeOf150,
 v37:=Tryz.zeroValue150,
 t46:=underlying254,
 a46:=Tryz.isAgg254,
 z46:=Tryz.sizeOf254,
 v46:=Tryz.zeroValue254,
 t51:=underlying266,
 a51:=Tryz.isAgg266,
 z51:=Tryz.sizeOf266,
 v51:=Tryz.zeroValue266,
 t53:=underlying268,
 a53:=Tryz.isAgg268,
 z53:=Tryz.sizeOf268,
 v53:=Tryz.zeroValue268,
 t171:=underlying275,
 a171:=Tryz.isAgg275,
 z171:=Tryz.sizeOf275,
 v171:=Tryz.zeroValue275,
 t173:=underlying277,
 a173:=Tryz.isAgg277,
 z173:=Tryz.sizeOf277,
 v173:=Tryz.zeroValue277,
 t212:=underlying293,
 a212:=Tryz.isAgg293,
 z212:=Tryz.sizeOf293,
 v212:=Tryz.zeroValue293,
 t213:=underlying294,
 a213:=Tryz.isAgg294,
 z213:=Tryz.sizeOf294,
 t232:=underlying303,
 a232:=Tryz.isAgg303,
 z232:=Tryz.sizeOf303,
 v232:=Tryz.zeroValue303,
 t233:=underlying304,
 a233:=Tryz.isAgg304,
 z233:=Tryz.sizeOf304,
 v233:=Tryz.zeroValue304,
 g17:=by kernel_rfl,
 g18:=by kernel_rfl,
 g19:=by kernel_rfl}
theorem a2V:LaysM.n171 prog PL:= {a5K with
 i0:=by kernel_rfl,
 i2:=by kernel_rfl,
 i3:=by kernel_rfl,
 i4:=by kernel_rfl,
 i5:=by kernel_rfl,
 i9:=by kernel_rfl,
 i20:=by kernel_rfl,
 i37:=by kernel_rfl,
 i46:=by kernel_rfl,
 i51:=by kernel_rfl,
 i53:=by kernel_rfl,
 i171:=by kernel_rfl,
 i173:=by kernel_rfl,
 i212:=by kernel_rfl,
 i232:=by kernel_rfl,
 i233:=by kernel_rfl,
 m17:=by kernel_rfl,
 m18:=by kernel_rfl,
 m19:=by kernel_rfl}
def CC(aB:Int):Option Bytes:=(fun n:Int=>some (Lib.itoa n)) aB
theorem K8{aB:Int}{r:Bytes}(h:CC aB=some r):Good prog 274 [.int .i64 aB] (.str r):=by cases h;exact VT a2V (g:=3) (by kernel_rfl) (aC (i:=0) (by kernel_rfl))
def I8:Ren:=⟨fun|172=>280|244=>289|245=>290|247=>303|279=>304|280=>305|281=>306|282=>307|287=>318|316=>319|171=>274|205=>320|321=>326|322=>327|243=>285|246=>291|283=>308|284=>309|285=>310|286=>311|129=>302|317=>321|318=>322|319=>323|320=>324|337=>328|338=>329|n=>n,fun|9=>9|3=>3|75=>245|76=>246|4=>4|5=>5|167=>269|37=>150|0=>0|85=>270|2=>2|168=>272|53=>268|175=>285|46=>254|210=>289|127=>299|145=>302|143=>300|21=>21|171=>275|173=>277|212=>293|51=>266|20=>20|213=>294|232=>303|233=>304|80=>305|n=>n,fun|15=>1|16=>2|17=>3|18=>4|19=>5|n=>n⟩
theorem a5L:Lays.n172 prog I8:= {
 mixed:=by kernel_rfl,
 f129:=func302.trans (congrArg some (by kernel_rfl)),
 f171:=func274.trans (congrArg some (by kernel_rfl)),
 f172:=func280.trans (congrArg some (by kernel_rfl)),
 f205:=func320.trans (congrArg some (by kernel_rfl)),
 f243:=func285.trans (congrArg some (by kernel_rfl)),
 f244:=func289.trans (congrArg some (by kernel_rfl)),
 f245:=func290.trans (congrArg some (by kernel_rfl)),
 f246:=func291.trans (congrArg some (by kernel_rfl)),
 f247:=func303.trans (congrArg some (by kernel_rfl)),
 f279:=func304.trans (congrArg some (by kernel_rfl)),
 f280:=func305.trans (congrArg some (by kernel_rfl)),
 f281:=func306.trans (congrArg some (by kernel_rfl)),
 f282:=func307.trans (congrArg some (by kernel_rfl)),
 f283:=func308.trans (congrArg some (by kernel_rfl)),
 f284:=func309.trans (congrArg some (by kernel_rfl)),
 f285:=func310.trans (congrArg some (by kernel_rfl)),
 f286:=func311.trans (congrArg some (by kernel_rfl)),
 f287:=func318.trans (congrArg some (by kernel_rfl)),
 f316:=func319.trans (congrArg some (by kernel_rfl)),
 f317:=func321.trans (congrArg some (by kernel_rfl)),
 f318:=func322.trans (congrArg some (by kernel_rfl)),
 f319:=func323.trans (congrArg some (by kernel_rfl)),
 f320:=func324.trans (congrArg some (by kernel_rfl)),
 f321:=func326.trans (congrArg some (by kernel_rfl)),
 f322:=func327.trans (congrArg some (by kernel_rfl)),
 f337:=func328.trans (congrArg some (by kernel_rfl)),
 f338:=func329.trans (congrArg some (by kernel_rfl)),
 t0:=underlying0,
 a0:=Tryz.isAgg0,
 z0:=Tryz.sizeOf0,
 v0:=Tryz.zeroValue0,
 t2:=underlying2,
 a2:=Tryz.isAgg2,
 z2:=Tryz.sizeOf2,
 v2:=Tryz.zeroValue2,
 t3:=underlying3,
 a3:=Tryz.isAgg3,
 z3:=Tryz.sizeOf3,
 v3:=Tryz.zeroValue3,
 t4:=underlying4,
 a4:=Tryz.isAgg4,
 z4:=Tryz.sizeOf4,
 v4:=Tryz.zeroValue4,
 t5:=underlying5,
 a5:=Tryz.isAgg5,
 z5:=Tryz.sizeOf5,
 v5:=Tryz.zeroValue5,
 t9:=underlying9,
 a9:=Tryz.isAgg9,
 z9:=Tryz.sizeOf9,
 v9:=Tryz.zeroValue9,
 t20:=underlying20,
 a20:=Tryz.isAgg20,
 z20:=Tryz.sizeOf20,
 v20:=Tryz.zeroValue20,
 t21:=underlying21,
 a21:=Tryz.isAgg21,
 z21:=Tryz.sizeOf21,
 v21:=Tryz.zeroValue21,
 t37:=underlying150,
 a37:=Tryz.isAgg150,
 z37:=Tryz.sizeOf150,
 v37:=Tryz.zeroValue150,
 t46:=underlying254,
 a46:=Tryz.isAgg254,
 z46:=Tryz.sizeOf254,
 v46:=Tryz.zeroValue254,
 t51:=underlying266,
 a51:=Tryz.isAgg266,
 z51:=Tryz.sizeOf266,
 v51:=Tryz.zeroValue266,
 t53:=underlying268,
 a53:=Tryz.isAgg268,
 z53:=Tryz.sizeOf268,
 v53:=Tryz.zeroValue268,
 t75:=underlying245,
 a75:=Tryz.isAgg245,
 z75:=Tryz.sizeOf245,
 v75:=Tryz.zeroValue245,
 t76:=underlying246,
 a76:=Tryz.isAgg246,
 z76:=Tryz.sizeOf246,
 v76:=Tryz.zeroValue246,
 t85:=underlying270,
 a85:=Tryz.isAgg270,
 z85:=Tryz.sizeOf270,
 v85:=Tryz.zeroValue270,
 t127:=underlying299,
 a127:=Tryz.isAgg299,
 z127:=Tryz.sizeOf299,
 v127:=Tryz.zeroValue299,
 t143:=underlying300,
 a143:=Tryz.isAgg300,
 z143:=Tryz.sizeOf300,
 v143:=Tryz.zeroValue300,
 t145:=underlying302,
 a145:=Tryz.isAgg302,
 z145:=Tryz.sizeOf302,
 v145:=Tryz.zeroValue302,
 t167:=underlying269,
 a167:=Tryz.isAgg269,
 z167:=Tryz.sizeOf269,
 v167:=Tryz.zeroValue269,
 t168:=underlying272,
 a168:=Tryz.isAgg272,
 z168:=Tryz.sizeOf272,
 v168:=Tryz.zeroValue272,
 t171:=underlying275,
 a171:=Tryz.isAgg275,
 z171:=Tryz.sizeOf275,
 v171:=Tryz.zeroValue275,
 t173:=underlying277,
 a173:=Tryz.isAgg277,
 z173:=Tryz.sizeOf277,
 v173:=Tryz.zeroValue277,
 t175:=underlying285,
 a175:=Tryz.isAgg285,
 z175:=Tryz.sizeOf285,
 v175:=Tryz.zeroValue285,
 t210:=underlying289,
 a210:=Tryz.isAgg289,
 z210:=Tryz.sizeOf289,
 v210:=Tryz.zeroValue289,
 t212:=underlying293,
 a212:=Tryz.isAgg293,
 z212:=Tryz.sizeOf293,
 v212:=Tryz.zeroValue293,
 t213:=underlying294,
 a213:=Tryz.isAgg294,
 z213:=Tryz.sizeOf294,
 t232:=underlying303,
 a232:=Tryz.isAgg303,
 z232:=Tryz.sizeOf303,
 v232:=Tryz.zeroValue303,
 t233:=underlying304,
 a233:=Tryz.isAgg304,
 z233:=Tryz.sizeOf304,
 v233:=Tryz.zeroValue304,
 g15:=by kernel_rfl,
 g16:=by kernel_rfl,
 g17:=by kernel_rfl,
 g18:=by kernel_rfl,
 g19:=by kernel_rfl}
theorem a2W:LaysM.n172 prog I8:= {a5L with
 t80:=underlying305,
 a80:=Tryz.isAgg305,
 z80:=Tryz.sizeOf305,
 v80:=Tryz.zeroValue305,
 i0:=by kernel_rfl,
 i2:=by kernel_rfl,
 i3:=by kernel_rfl,
 i4:=by kernel_rfl,
 i5:=by kernel_rfl,
 i9:=by kernel_rfl,
 i20:=by kernel_rfl,
 i21:=by kernel_rfl,
 i37:=by kernel_rfl,
 i46:=by kernel_rfl,
 i51:=by kernel_rfl,
 i53:=by kernel_rfl,
 i75:=by kernel_rfl,
 i76:=by kernel_rfl,
 i80:=by kernel_rfl,
 i85:=by kernel_rfl,
 i127:=by kernel_rfl,
 i143:=by kernel_rfl,
 i145:=by kernel_rfl,
 i167:=by kernel_rfl,
 i168:=by kernel_rfl,
 i171:=by kernel_rfl,
 i173:=by kernel_rfl,
 i175:=by kernel_rfl,
 i210:=by kernel_rfl,
 i212:=by kernel_rfl,
 i232:=by kernel_rfl,
 i233:=by kernel_rfl,
 m15:=by kernel_rfl,
 m16:=by kernel_rfl,
 m17:=by kernel_rfl,
 m18:=by kernel_rfl,
 m19:=by kernel_rfl}
theorem a2U:LaysC.n172 prog I8:= {a2W with
 c0:=by kernel_rfl,
 c2:=by kernel_rfl,
 c3:=by kernel_rfl,
 c4:=by kernel_rfl,
 c5:=by kernel_rfl,
 c9:=by kernel_rfl,
 c20:=by kernel_rfl,
 c21:=by kernel_rfl,
 c37:=by kernel_rfl,
 c46:=by kernel_rfl,
 c51:=by kernel_rfl,
 c53:=by kernel_rfl,
 c75:=by kernel_rfl,
 c76:=by kernel_rfl,
 c80:=by kernel_rfl,
 c85:=by kernel_rfl,
 c127:=by kernel_rfl,
 c143:=by kernel_rfl,
 c145:=by kernel_rfl,
 c167:=by kernel_rfl,
 c168:=by kernel_rfl,
 c171:=by kernel_rfl,
 c173:=by kernel_rfl,
 c175:=by kernel_rfl,
 c210:=by kernel_rfl,
 c212:=by kernel_rfl,
 c213:=by kernel_rfl,
 c232:=by kernel_rfl,
 c233:=by kernel_rfl}
def CB(aB:Bytes):Option (Int×Bool):=Tg aB
theorem K7{aB:Bytes}{r:Int×Bool}(h:CB aB=some r):Good prog 280 [.str aB] (.gZ [.int .i64 r.1,.ifc r.2]):=VS a2U (g:=1) (by kernel_rfl) (aC (i:=1) (by kernel_rfl)) h
def VU:Ren:=⟨fun|106=>220|213=>267|265=>279|n=>n,fun|9=>9|3=>3|n=>n,fun|n=>n⟩
theorem a5J:Lays.n106 prog VU:= {
 mixed:=by kernel_rfl,
 f106:=func220.trans (congrArg some (by kernel_rfl)),
 f213:=func267.trans (congrArg some (by kernel_rfl)),
 f265:=func279.trans (congrArg some (by kernel_rfl)),
 t3:=underlying3,
 a3:=Tryz.isAgg3,
 z3:=Tryz.sizeOf3,
 v3:=Tryz.zeroValue3,
 t9:=underlying9,
 a9:=Tryz.isAgg9,
 z9:=Tryz.sizeOf9,
 v9:=Tryz.zeroValue9}
def rV(aB:Bytes)(aW:Bytes):Option Int:=(fun a b:Bytes=>some (Lib.compareBytes a b)) aB aW
theorem uL{aB:Bytes}{aW:Bytes}{r:Int}(h:rV aB aW=some r):Good prog 220 [.str aB,.str aW] (.int .i64 r):=by cases h;exact R1 a5J
end Go.Cx
