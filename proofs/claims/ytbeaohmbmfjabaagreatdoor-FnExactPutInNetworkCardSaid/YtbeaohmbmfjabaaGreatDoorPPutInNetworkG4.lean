/- What functions of the program compute, and the walks that show it. No condition. -/
import Derived.Test.YtbeaohmbmfjabaaGreatDoorPPutInNetworkG3
import Derived.Shelf.Strings.OnBuilder
import Derived.Test.YtbeaohmbmfjabaaGreatDoorPPutInNetworkG2
import Derived.Shelf.Sort.Plain
import Derived.Shelf.Slices.In.SortNone2
import Derived.Shelf.Strconv.Itoa3
import Derived.WalkSmall
import Derived.Shelf.Strconv.Atoi
import Derived.Shelf.Strconv.ErrVar
import Derived.Shelf.Small.Strs
import Derived.Lib.AtoiBound
set_option linter.unusedVariables false
set_option linter.unusedSimpArgs false
namespace Go.Cx
open Go.RowKit Go.Proofs Tryz
set_option maxRecDepth 100000
variable{Γ:vY}{N:Nat->St->Prop}
def fR(k1:Bytes->Option Bytes):Nat->Int->Bytes->Option Bytes
 |0,_,_=>none
 |n1+1,xC,ng=>(bif decide ((xC:Int)>0)then(bif decide (0<=(xC:Int))&&decide (0<(10:Int))then(bif decide (([UInt8.ofNat (IntKind.u8.wrap (IntKind.i64.wrap (48+((xC:Int)%10)))).toNat]:Bytes).length+(ng:Bytes).length<=maxLen)then(bif decide (0<=(xC:Int))&&decide (0<(10:Int))then(fR k1 n1 ((xC:Int)/10) (([UInt8.ofNat (IntKind.u8.wrap (IntKind.i64.wrap (48+((xC:Int)%10)))).toNat])++ng))else none)else none)else none)else(k1 ng))
def cB(aB:Int):Option Bytes:=(bif decide ((aB:Int)<=0)then(some ([109,48]))else(fR (fun(Rj:Bytes)=>(bif decide (([109]:Bytes).length+(Rj:Bytes).length<=maxLen)then(some (([109])++Rj))else none)) fuel aB ([])))
def L3(xC:Int)(ng:Bytes):St:=⟨[(0,D.int .i64 xC),(3,D.str ng)],[]⟩
theorem J9(hΓ:Γ.nt=20){r:Bytes}{k1:Bytes->Option Bytes}(cY:∀(Rj:Bytes),k1 Rj=some r->Ax Γ N f61 (.q [[none]] (D.str r)) [1,1,1,1] ⟨[(3,D.str Rj)],[]⟩):∀(n1:Nat) (xC:Int) (ng:Bytes),fR k1 n1 xC ng=some r->Ar Γ N f61 (.q [[none]] (D.str r)) [1,1,1,0,0] n1 (L3 xC ng):=by
 intro n
 induction n with
 |zero=>intro xC ng h;simp[fR]at h
 |succ n1 ih1=>
  intro xC ng h;rw[fR]at h;refine aM fun N1 bw bn=>?_
  obtain⟨h10,h⟩|⟨h10,h⟩:=aK h
  ·obtain⟨h11,h⟩:=bV h;obtain⟨h12,h⟩:=bV h;obtain⟨h13,h⟩:=bV h;exact(((((aU.b h10).w (Te .i64 h11)).w (bt h12)).w (Te .i64 h13)).a [.cn [0,3] []]).cf hΓ bn (ih1 ((xC:Int)/10) (([UInt8.ofNat (IntKind.u8.wrap (IntKind.i64.wrap (48+((xC:Int)%10)))).toNat])++ng) h)
  ·exact((aU.b h10).a [.hl 0 [3] []]).ex hΓ bw (cY ng h)
theorem bh{aB:Int}{r:Bytes}(h:cB aB=some r):Good prog 61 [D.int .i64 aB] (D.str r):=by
 refine gd func61 [[none]] 20 fun hr Γ hΓ=>?_
 rw[cB]at h;obtain⟨h1,h⟩|⟨h1,h⟩:=aK h
 ·cases h;exact(aU.b h1).ret hΓ
 ·refine((aU.b h1).a [.cn [0,3] []]).lp hΓ (J9 hΓ (fun Rj h=>?_) fuel aB ([]) h);obtain⟨h14,h⟩:=bV h;cases h;exact(aU.w (bt h14)).rts hΓ (D.str (([109])++Rj)) (by first|rfl| (simp only[mA]<;>rfl))
def fY(k1:aJ->Int->Option (aJ×Int)):aJ->aJ->Int->Option (aJ×Int)
 | [],bf,b7=>(k1 bf b7)
 |bD::bg,bf,b7=>((cB b7).bind fun y1=>(fY k1 bg (bf++[y1]) (IntKind.i64.wrap (b7+1))))
def fQ(aB:aJ)(aV:Int):Option (aJ×Int):=(fY (fun(bO:aJ) (cK:Int)=>(some (bO,cK))) aB [] aV)
theorem EU{Γ:vY}(hΓ:Γ.nt=20){N:Nat->St->Prop}{fE:Value}{r:aJ×Int}{k1:aJ->Int->Option (aJ×Int)}(cY:∀(bO:aJ) (cK:Int),k1 bO cK=some r->AW prog Γ (lc f62 [1,1]) (KQ prog Γ N (vH prog f62 [fE] [(1,r.1.map tx)] (D.int .i64 r.2)) (AL f62 [1,1])) ⟨[(1,D.int .i64 cK)],[Ob.fD 1 (bO.map tx) (some fE)]⟩):∀(rest:aJ) (bf:aJ) (b7:Int),bf.length+rest.length<=maxLen->fY k1 rest bf b7=some r->Pe prog Γ (lc f62 [1,0,1,0,0]) (KQ prog Γ N (vH prog f62 [fE] [(1,r.1.map tx)] (D.int .i64 r.2)) (AL f62 [1,0,1,0])) (rest.length+1) ⟨[(0,D.acc 0),(1,D.int .i64 b7),(5,D.int .i64 (bf.length:Int))],[Ob.fD 1 (bf.map tx++rest.map tx) (some fE)]⟩:=by
 intro rest
 induction rest with
 |nil=>
  intro bf b7 hm1 h;rw[fY]at h;refine aM fun N1 bw bn=>?_
  have t:=Px (N:=N) (N':=N1) (K0:=(AL f62 [1,0,1,0])) (by kernel_rfl) bw (cY bf b7 h);refine fT (n:=2000) 1 [bF,.hl 0 [1] [0]] (.at_ (lc f62 [1,1]) (AL f62 [1,1]) ⟨[(1,D.int .i64 b7)],[Ob.fD 1 (bf.map tx++([]:aJ).map tx) (some fE)]⟩) hΓ C4 (by kernel_rfl) (ow (show(decide (((bf.length:Int):Int)<((bf.map tx++([]:aJ).map tx).length:Int)))=false from(Cv _)) D9) ?_;refine xF (s:=⟨[(1,D.int .i64 b7)],[Ob.fD 1 (bf.map tx++([]:aJ).map tx) (some fE)]⟩) ?_ t;simp only[bX,cN]
 |cons bD bg ih1=>
  intro bf b7 hm1 h;rw[fY]at h;refine aM fun N1 bw bn=>?_
  obtain⟨y1,h2,h⟩:=aD h;have t:=ih1 (bf++[y1]) (IntKind.i64.wrap (b7+1)) (by simp only[aX,aL,bK]at hm1⊢;omega) h;refine fT (n:=2000) 1 [bT,.d (D.str y1),.ix (bf.length),.row [D.str bD],.cn [0,1,5] [0]] (.cont 0 ⟨[(0,D.acc 0),(1,D.int .i64 (IntKind.i64.wrap (b7+1))),(5,D.int .i64 (IntKind.i64.wrap ((bf.length:Int)+1)))],[Ob.fD 1 ((bf.map tx++([D.str bD]::bg.map tx)).set bf.length [D.str y1]) (some fE)]⟩) hΓ C4 (by kernel_rfl) (ow (show(decide (((bf.length:Int):Int)<((bf.map tx++([D.str bD]::bg.map tx)).length:Int)))=true from(Cz _ _ _)) (ow (bh h2) (ow (show(bf.length:Int)=((bf.length:Nat):Int)/\bf.length<(bf.map tx++([D.str bD]::bg.map tx)).length from⟨rfl,by simp only[bZ,aX,aZ,aL];omega⟩) (ow (show(bf.map tx++([D.str bD]::bg.map tx))[bf.length]?=some [D.str bD]from by(try simp only[cz]);exact dW _ _ _) D9)))) ?_;refine(congrFun bn _).mpr ?_;rw[zb (by simp only[aL]at hm1;omega)];simp only[cz];simp only[bS,bH,bX,bY,dO,cH,aX,aL,bK]at t⊢;exact t
theorem iR{aB:aJ}{aV:Int}{r:aJ×Int}(h:fQ aB aV=some r):s7 prog 62 [D.acc 0,D.int .i64 aV] [(1,aB.map tx)] [(1,r.1.map tx)] (D.int .i64 r.2):=by
 refine s7.of (c:=jw f62) func62 rfl (by decide) (by simp[f62]) rfl rfl ?_;intro hr Γ hΓ vs hvs
 match vs,hvs with
 | [fE],_=>
 have hΓ:Γ.nt=20:=hΓ;rw[fQ]at h;refine(show AW prog Γ (jw f62) (KQ prog Γ (fun _ _=>False) (vH prog f62 [fE] [(1,r.1.map tx)] (D.int .i64 r.2)) []) _ from ?_);refine fT (n:=2000) 1 [.cn [0,1,5] [0]] (.lp (lc f62 [1,0,1,0,0]) (AL f62 [1,0,1,0]) ⟨[(0,D.acc 0),(1,D.int .i64 aV),(5,D.int .i64 0)],[Ob.fD 1 (aB.map tx) (some fE)]⟩) hΓ C4 (by kernel_rfl) D9 (xF (by rfl) (yU (EU hΓ (fun bO cK h=>?_) aB [] aV (by have:=hr _ (aC (i:=0) rfl);simpa using this) h)));have h:=aG h;subst h;exact fT (n:=2000) 1 [] (.ret (D.iF [D.int .i64 cK,D.agg [D.fr 0 1 (bO.map tx),D.val fE]])) hΓ C4 (by kernel_rfl) D9 rfl
def hO(k1:aj->Int->Option (aj×Int)):aj->aj->Int->Option (aj×Int)
 | [],bf,b7=>(k1 bf b7)
 |bD::bg,bf,b7=>((cB (IntKind.i64.wrap (b7+1))).bind fun y1=>((fQ bD.pat.args (IntKind.i64.wrap ((IntKind.i64.wrap (b7+1))+1))).bind fun y3=>((cB y3.2).bind fun y5=>((cB (IntKind.i64.wrap (y3.2+1))).bind fun y7=>(hO k1 bg (bf++[(⟨b7,(⟨y1,y3.1⟩:aE),y5,y7⟩:aN)]) (IntKind.i64.wrap ((IntKind.i64.wrap (y3.2+1))+1)))))))
def sy(aB:aj)(aV:Int):Option (aj×Int):=(hO (fun(bO:aj) (cK:Int)=>(some (bO,cK))) aB [] aV)
theorem Gs{Γ:vY}(hΓ:Γ.nt=53){N:Nat->St->Prop}{fE:Value}{r:aj×Int}{k1:aj->Int->Option (aj×Int)}(cY:∀(bO:aj) (cK:Int),k1 bO cK=some r->AW prog Γ (lc f117 [1,1]) (KQ prog Γ N (vH prog f117 [fE] [(5,r.1.map aN.c)] (D.int .i64 r.2)) (AL f117 [1,1])) ⟨[(1,D.int .i64 cK)],[Ob.fD 5 (bO.map aN.c) (some fE)]⟩):∀(rest:aj) (bf:aj) (b7:Int),bf.length+rest.length<=maxLen->hO k1 rest bf b7=some r->Pe prog Γ (lc f117 [1,0,1,0,0]) (KQ prog Γ N (vH prog f117 [fE] [(5,r.1.map aN.c)] (D.int .i64 r.2)) (AL f117 [1,0,1,0])) (rest.length+1) ⟨[(0,D.acc 0),(1,D.int .i64 b7),(5,D.int .i64 (bf.length:Int))],[Ob.fD 5 (bf.map aN.c++rest.map aN.c) (some fE)]⟩:=by
 intro rest
 induction rest with
 |nil=>
  intro bf b7 hm1 h;rw[hO]at h;refine aM fun N1 bw bn=>?_
  have t:=Px (N:=N) (N':=N1) (K0:=(AL f117 [1,0,1,0])) (by kernel_rfl) bw (cY bf b7 h);refine fT (n:=2000) 1 [bF,.hl 0 [1] [0]] (.at_ (lc f117 [1,1]) (AL f117 [1,1]) ⟨[(1,D.int .i64 b7)],[Ob.fD 5 (bf.map aN.c++([]:aj).map aN.c) (some fE)]⟩) hΓ C4 (by kernel_rfl) (ow (show(decide (((bf.length:Int):Int)<((bf.map aN.c++([]:aj).map aN.c).length:Int)))=false from(Cv _)) D9) ?_;refine xF (s:=⟨[(1,D.int .i64 b7)],[Ob.fD 5 (bf.map aN.c++([]:aj).map aN.c) (some fE)]⟩) ?_ t;simp only[bX,cN]
 |cons bD bg ih1=>
  intro bf b7 hm1 h;rw[hO]at h;refine aM fun N1 bw bn=>?_
  obtain⟨y1,h2,h⟩:=aD h;obtain⟨y3,h4,h⟩:=aD h;obtain⟨y5,h6,h⟩:=aD h;obtain⟨y7,h8,h⟩:=aD h;have t:=ih1 (bf++[(⟨b7,(⟨y1,y3.1⟩:aE),y5,y7⟩:aN)]) (IntKind.i64.wrap ((IntKind.i64.wrap (y3.2+1))+1)) (by simp only[aX,aL,bK]at hm1⊢;omega) h;let Vn:aS:=[D.int .i64 b7,D.str y1,D.any,D.str bD.left,D.str bD.right]
  let UG:aS:=[D.int .i64 b7,D.str y1,D.sl (y3.1.map tx),D.str y5,D.str bD.right]
  let Vz:aS:=[D.int .i64 b7,D.str y1,D.sl (y3.1.map tx),D.str bD.left,D.str bD.right]
  let U5:aS:=[D.int .i64 b7,D.str y1,D.sl (bD.pat.args.map tx),D.str bD.left,D.str bD.right]
  let W7:aS:=[D.int .i64 b7,D.str bD.pat.rel,D.sl (bD.pat.args.map tx),D.str bD.left,D.str bD.right]
  let U6:aS:=[D.int .i64 bD.kind,D.str bD.pat.rel,D.sl (bD.pat.args.map tx),D.str bD.left,D.str bD.right]
  let U7:List aS:=((bf.map aN.c++(U6::bg.map aN.c)).set bf.length W7)
  let UI:List aS:=(((U7.set bf.length U5).set bf.length Vn).set bf.length Vz)
  refine fT (n:=2000) 1 [bT,.ix (bf.length),.row U6,.d (D.str y1),.ix (bf.length),.row W7,.ix (bf.length),.row U5,.gv [1] [(1,y3.1.map tx)] (D.int .i64 y3.2),.mg 0 bf.length 2 Vn,.d (D.str y5),.ix (bf.length),.row Vz,.d (D.str y7),.ix (bf.length),.row UG,.cn [0,1,5] [0]] (.cont 0 ⟨[(0,D.acc 0),(1,D.int .i64 (IntKind.i64.wrap ((IntKind.i64.wrap (y3.2+1))+1))),(5,D.int .i64 (IntKind.i64.wrap ((bf.length:Int)+1)))],[Ob.fD 5 ((UI.set bf.length UG).set bf.length [D.int .i64 b7,D.str y1,D.sl (y3.1.map tx),D.str y5,D.str y7]) (some fE)]⟩) hΓ C4 (by kernel_rfl) (ow (show(decide (((bf.length:Int):Int)<((bf.map aN.c++(U6::bg.map aN.c)).length:Int)))=true from(Cz _ _ _)) (ow (show(bf.length:Int)=((bf.length:Nat):Int)/\bf.length<(bf.map aN.c++(U6::bg.map aN.c)).length from⟨rfl,by simp only[UI,U7,U6,W7,U5,Vz,UG,Vn,bZ,aX,aZ,aL];omega⟩) (ow (show(bf.map aN.c++(U6::bg.map aN.c))[bf.length]?=some U6 from by(try simp only[UI,U7,U6,W7,U5,Vz,UG,Vn,cz]);exact dW _ _ _) (ow (bh h2) (ow (show(bf.length:Int)=((bf.length:Nat):Int)/\bf.length<U7.length from⟨rfl,by simp only[UI,U7,U6,W7,U5,Vz,UG,Vn,bZ,aX,aZ,aL];omega⟩) (ow (show U7[bf.length]?=some W7 from by(try simp only[UI,U7,U6,W7,U5,Vz,UG,Vn,cz]);exact dW _ _ _) (ow (show(bf.length:Int)=((bf.length:Nat):Int)/\bf.length<(U7.set bf.length U5).length from⟨rfl,by simp only[UI,U7,U6,W7,U5,Vz,UG,Vn,bZ,aX,aZ,aL];omega⟩) (ow (show(U7.set bf.length U5)[bf.length]?=some U5 from by(try simp only[UI,U7,U6,W7,U5,Vz,UG,Vn,cz]);exact dW _ _ _) (ow (show∀q∈(bD.pat.args.map tx),q.length=1 from by simp) (ow (iR h4) (ow (show((U7.set bf.length U5).set bf.length Vn)[bf.length]?=some Vn from by(try simp only[UI,U7,U6,W7,U5,Vz,UG,Vn,cz]);exact dW _ _ _) (ow (show(bf.length*5+2)=bf.length*5+2 from rfl) (ow (bh h6) (ow (show(bf.length:Int)=((bf.length:Nat):Int)/\bf.length<UI.length from⟨rfl,by simp only[UI,U7,U6,W7,U5,Vz,UG,Vn,bZ,aX,aZ,aL];omega⟩) (ow (show UI[bf.length]?=some Vz from by(try simp only[UI,U7,U6,W7,U5,Vz,UG,Vn,cz]);exact dW _ _ _) (ow (bh h8) (ow (show(bf.length:Int)=((bf.length:Nat):Int)/\bf.length<(UI.set bf.length UG).length from⟨rfl,by simp only[UI,U7,U6,W7,U5,Vz,UG,Vn,bZ,aX,aZ,aL];omega⟩) (ow (show(UI.set bf.length UG)[bf.length]?=some UG from by(try simp only[UI,U7,U6,W7,U5,Vz,UG,Vn,cz]);exact dW _ _ _) D9)))))))))))))))))) ?_;refine(congrFun bn _).mpr ?_;rw[zb (by simp only[aL]at hm1;omega)];simp only[UI,U7,U6,W7,U5,Vz,UG,Vn,cz];simp only[bS,bH,bX,bY,dO,cH,aX,aL,bK]at t⊢;exact t
theorem FY{aB:aj}{aV:Int}{r:aj×Int}(h:sy aB aV=some r):s7 prog 117 [D.acc 0,D.int .i64 aV] [(5,aB.map aN.c)] [(5,r.1.map aN.c)] (D.int .i64 r.2):=by
 refine s7.of (c:=jw f117) func117 rfl (by decide) (by simp[f117]) rfl rfl ?_;intro hr Γ hΓ vs hvs
 match vs,hvs with
 | [fE],_=>
 have hΓ:Γ.nt=53:=hΓ;rw[sy]at h;refine(show AW prog Γ (jw f117) (KQ prog Γ (fun _ _=>False) (vH prog f117 [fE] [(5,r.1.map aN.c)] (D.int .i64 r.2)) []) _ from ?_);refine fT (n:=2000) 1 [.cn [0,1,5] [0]] (.lp (lc f117 [1,0,1,0,0]) (AL f117 [1,0,1,0]) ⟨[(0,D.acc 0),(1,D.int .i64 aV),(5,D.int .i64 0)],[Ob.fD 5 (aB.map aN.c) (some fE)]⟩) hΓ C4 (by kernel_rfl) D9 (xF (by rfl) (yU (Gs hΓ (fun bO cK h=>?_) aB [] aV (by have:=hr _ (aC (i:=0) rfl);simpa using this) h)));have h:=aG h;subst h;exact fT (n:=2000) 1 [] (.ret (D.iF [D.int .i64 cK,D.agg [D.fr 0 5 (bO.map aN.c),D.val fE]])) hΓ C4 (by kernel_rfl) D9 rfl
def fX(k1:bz->Int->Option (bz×Int)):bz->bz->Int->Option (bz×Int)
 | [],bf,b7=>(k1 bf b7)
 |bD::bg,bf,b7=>((cB (IntKind.i64.wrap (b7+1))).bind fun y1=>((fQ bD.pat.args (IntKind.i64.wrap ((IntKind.i64.wrap (b7+1))+1))).bind fun y3=>(fX k1 bg (bf++[(⟨b7,(⟨y1,y3.1⟩:aE)⟩:Action)]) y3.2)))
def qD(aB:bz)(aV:Int):Option (bz×Int):=(fX (fun(bO:bz) (cK:Int)=>(some (bO,cK))) aB [] aV)
theorem ES{Γ:vY}(hΓ:Γ.nt=37){N:Nat->St->Prop}{fE:Value}{r:bz×Int}{k1:bz->Int->Option (bz×Int)}(cY:∀(bO:bz) (cK:Int),k1 bO cK=some r->AW prog Γ (lc f118 [1,1]) (KQ prog Γ N (vH prog f118 [fE] [(3,r.1.map Action.c)] (D.int .i64 r.2)) (AL f118 [1,1])) ⟨[(1,D.int .i64 cK)],[Ob.fD 3 (bO.map Action.c) (some fE)]⟩):∀(rest:bz) (bf:bz) (b7:Int),bf.length+rest.length<=maxLen->fX k1 rest bf b7=some r->Pe prog Γ (lc f118 [1,0,1,0,0]) (KQ prog Γ N (vH prog f118 [fE] [(3,r.1.map Action.c)] (D.int .i64 r.2)) (AL f118 [1,0,1,0])) (rest.length+1) ⟨[(0,D.acc 0),(1,D.int .i64 b7),(5,D.int .i64 (bf.length:Int))],[Ob.fD 3 (bf.map Action.c++rest.map Action.c) (some fE)]⟩:=by
 intro rest
 induction rest with
 |nil=>
  intro bf b7 hm1 h;rw[fX]at h;refine aM fun N1 bw bn=>?_
  have t:=Px (N:=N) (N':=N1) (K0:=(AL f118 [1,0,1,0])) (by kernel_rfl) bw (cY bf b7 h);refine fT (n:=2000) 1 [bF,.hl 0 [1] [0]] (.at_ (lc f118 [1,1]) (AL f118 [1,1]) ⟨[(1,D.int .i64 b7)],[Ob.fD 3 (bf.map Action.c++([]:bz).map Action.c) (some fE)]⟩) hΓ C4 (by kernel_rfl) (ow (show(decide (((bf.length:Int):Int)<((bf.map Action.c++([]:bz).map Action.c).length:Int)))=false from(Cv _)) D9) ?_;refine xF (s:=⟨[(1,D.int .i64 b7)],[Ob.fD 3 (bf.map Action.c++([]:bz).map Action.c) (some fE)]⟩) ?_ t;simp only[bX,cN]
 |cons bD bg ih1=>
  intro bf b7 hm1 h;rw[fX]at h;refine aM fun N1 bw bn=>?_
  obtain⟨y1,h2,h⟩:=aD h;obtain⟨y3,h4,h⟩:=aD h;have t:=ih1 (bf++[(⟨b7,(⟨y1,y3.1⟩:aE)⟩:Action)]) y3.2 (by simp only[aX,aL,bK]at hm1⊢;omega) h;let W_8:aS:=[D.int .i64 b7,D.str y1,D.sl (bD.pat.args.map tx)]
  let Z0:aS:=[D.int .i64 b7,D.str bD.pat.rel,D.sl (bD.pat.args.map tx)]
  let Q3:aS:=[D.int .i64 bD.kind,D.str bD.pat.rel,D.sl (bD.pat.args.map tx)]
  let ME:List aS:=(bf.map Action.c++(Q3::bg.map Action.c))
  let PE:List aS:=((ME.set bf.length Z0).set bf.length W_8)
  refine fT (n:=2000) 1 [bT,.ix (bf.length),.row Q3,.d (D.str y1),.ix (bf.length),.row Z0,.ix (bf.length),.row W_8,.gv [1] [(1,y3.1.map tx)] (D.int .i64 y3.2),.mg 0 bf.length 2 [D.int .i64 b7,D.str y1,D.any],.cn [0,1,5] [0]] (.cont 0 ⟨[(0,D.acc 0),(1,D.int .i64 y3.2),(5,D.int .i64 (IntKind.i64.wrap ((bf.length:Int)+1)))],[Ob.fD 3 ((PE.set bf.length [D.int .i64 b7,D.str y1,D.any]).set bf.length [D.int .i64 b7,D.str y1,D.sl (y3.1.map tx)]) (some fE)]⟩) hΓ C4 (by kernel_rfl) (ow (show(decide (((bf.length:Int):Int)<(ME.length:Int)))=true from(Cz _ _ _)) (ow (show(bf.length:Int)=((bf.length:Nat):Int)/\bf.length<ME.length from⟨rfl,by simp only[PE,ME,Q3,Z0,W_8,bZ,aX,aZ,aL];omega⟩) (ow (show ME[bf.length]?=some Q3 from by(try simp only[PE,ME,Q3,Z0,W_8,cz]);exact dW _ _ _) (ow (bh h2) (ow (show(bf.length:Int)=((bf.length:Nat):Int)/\bf.length<(ME.set bf.length Z0).length from⟨rfl,by simp only[PE,ME,Q3,Z0,W_8,bZ,aX,aZ,aL];omega⟩) (ow (show(ME.set bf.length Z0)[bf.length]?=some Z0 from by(try simp only[PE,ME,Q3,Z0,W_8,cz]);exact dW _ _ _) (ow (show(bf.length:Int)=((bf.length:Nat):Int)/\bf.length<PE.length from⟨rfl,by simp only[PE,ME,Q3,Z0,W_8,bZ,aX,aZ,aL];omega⟩) (ow (show PE[bf.length]?=some W_8 from by(try simp only[PE,ME,Q3,Z0,W_8,cz]);exact dW _ _ _) (ow (show∀q∈(bD.pat.args.map tx),q.length=1 from by simp) (ow (iR h4) (ow (show(PE.set bf.length [D.int .i64 b7,D.str y1,D.any])[bf.length]?=some [D.int .i64 b7,D.str y1,D.any]from by(try simp only[PE,ME,Q3,Z0,W_8,cz]);exact dW _ _ _) (ow (show(bf.length*3+2)=bf.length*3+2 from rfl) D9)))))))))))) ?_;refine(congrFun bn _).mpr ?_;rw[zb (by simp only[aL]at hm1;omega)];simp only[PE,ME,Q3,Z0,W_8,cz];simp only[bS,bH,bX,bY,dO,cH,aX,aL,bK]at t⊢;exact t
theorem DS{aB:bz}{aV:Int}{r:bz×Int}(h:qD aB aV=some r):s7 prog 118 [D.acc 0,D.int .i64 aV] [(3,aB.map Action.c)] [(3,r.1.map Action.c)] (D.int .i64 r.2):=by
 refine s7.of (c:=jw f118) func118 rfl (by decide) (by simp[f118]) rfl rfl ?_;intro hr Γ hΓ vs hvs
 match vs,hvs with
 | [fE],_=>
 have hΓ:Γ.nt=37:=hΓ;rw[qD]at h;refine(show AW prog Γ (jw f118) (KQ prog Γ (fun _ _=>False) (vH prog f118 [fE] [(3,r.1.map Action.c)] (D.int .i64 r.2)) []) _ from ?_);refine fT (n:=2000) 1 [.cn [0,1,5] [0]] (.lp (lc f118 [1,0,1,0,0]) (AL f118 [1,0,1,0]) ⟨[(0,D.acc 0),(1,D.int .i64 aV),(5,D.int .i64 0)],[Ob.fD 3 (aB.map Action.c) (some fE)]⟩) hΓ C4 (by kernel_rfl) D9 (xF (by rfl) (yU (ES hΓ (fun bO cK h=>?_) aB [] aV (by have:=hr _ (aC (i:=0) rfl);simpa using this) h)));have h:=aG h;subst h;exact fT (n:=2000) 1 [] (.ret (D.iF [D.int .i64 cK,D.agg [D.fr 0 3 (bO.map Action.c),D.val fE]])) hΓ C4 (by kernel_rfl) D9 rfl
def iC(k1:au->Int->Option (au×Int)):au->au->Int->Option (au×Int)
 | [],bf,b7=>(k1 bf b7)
 |bD::bg,bf,b7=>((cB b7).bind fun y1=>((sy bD.conds (IntKind.i64.wrap ((IntKind.i64.wrap (b7+1))+1))).bind fun y3=>((qD bD.cu y3.2).bind fun y5=>(iC k1 bg (bf++[(⟨y1,IntKind.i64.wrap (b7+1),y3.1,y5.1⟩:aO)]) y5.2))))
def tC(aB:au)(aV:Int):Option (au×Int):=(iC (fun(bO:au) (cK:Int)=>(some (bO,cK))) aB [] aV)
theorem Gy{Γ:vY}(hΓ:Γ.nt=42){N:Nat->St->Prop}{fE:Value}{r:au×Int}{k1:au->Int->Option (au×Int)}(cY:∀(bO:au) (cK:Int),k1 bO cK=some r->AW prog Γ (lc f57 [1,1]) (KQ prog Γ N (vH prog f57 [fE] [(4,r.1.map aO.c)] (D.int .i64 r.2)) (AL f57 [1,1])) ⟨[(1,D.int .i64 cK)],[Ob.fD 4 (bO.map aO.c) (some fE)]⟩):∀(rest:au) (bf:au) (b7:Int),bf.length+rest.length<=maxLen->iC k1 rest bf b7=some r->Pe prog Γ (lc f57 [1,0,1,0,0]) (KQ prog Γ N (vH prog f57 [fE] [(4,r.1.map aO.c)] (D.int .i64 r.2)) (AL f57 [1,0,1,0])) (rest.length+1) ⟨[(0,D.acc 0),(1,D.int .i64 b7),(5,D.int .i64 (bf.length:Int))],[Ob.fD 4 (bf.map aO.c++rest.map aO.c) (some fE)]⟩:=by
 intro rest
 induction rest with
 |nil=>
  intro bf b7 hm1 h;rw[iC]at h;refine aM fun N1 bw bn=>?_
  have t:=Px (N:=N) (N':=N1) (K0:=(AL f57 [1,0,1,0])) (by kernel_rfl) bw (cY bf b7 h);refine fT (n:=2000) 1 [bF,.hl 0 [1] [0]] (.at_ (lc f57 [1,1]) (AL f57 [1,1]) ⟨[(1,D.int .i64 b7)],[Ob.fD 4 (bf.map aO.c++([]:au).map aO.c) (some fE)]⟩) hΓ C4 (by kernel_rfl) (ow (show(decide (((bf.length:Int):Int)<((bf.map aO.c++([]:au).map aO.c).length:Int)))=false from(Cv _)) D9) ?_;refine xF (s:=⟨[(1,D.int .i64 b7)],[Ob.fD 4 (bf.map aO.c++([]:au).map aO.c) (some fE)]⟩) ?_ t;simp only[bX,cN]
 |cons bD bg ih1=>
  intro bf b7 hm1 h;rw[iC]at h;refine aM fun N1 bw bn=>?_
  obtain⟨y1,h2,h⟩:=aD h;obtain⟨y3,h4,h⟩:=aD h;obtain⟨y5,h6,h⟩:=aD h;have t:=ih1 (bf++[(⟨y1,IntKind.i64.wrap (b7+1),y3.1,y5.1⟩:aO)]) y5.2 (by simp only[aX,aL,bK]at hm1⊢;omega) h;let KR:aS:=[D.str y1,D.int .i64 (IntKind.i64.wrap (b7+1)),D.sl (y3.1.map aN.c),D.any]
  let MF:aS:=[D.str y1,D.int .i64 (IntKind.i64.wrap (b7+1)),D.any,D.sl (bD.cu.map Action.c)]
  let MG:aS:=[D.str y1,D.int .i64 bD.prio,D.sl (bD.conds.map aN.c),D.sl (bD.cu.map Action.c)]
  let G8:aS:=[D.str bD.name,D.int .i64 bD.prio,D.sl (bD.conds.map aN.c),D.sl (bD.cu.map Action.c)]
  let IQ:List aS:=((bf.map aO.c++(G8::bg.map aO.c)).set bf.length MG)
  let G9:aS:=[D.str y1,D.int .i64 (IntKind.i64.wrap (b7+1)),D.sl (y3.1.map aN.c),D.sl (bD.cu.map Action.c)]
  let IR:aS:=[D.str y1,D.int .i64 (IntKind.i64.wrap (b7+1)),D.sl (bD.conds.map aN.c),D.sl (bD.cu.map Action.c)]
  let IS:List aS:=((IQ.set bf.length IR).set bf.length MF)
  refine fT (n:=2000) 1 [bT,.d (D.str y1),.ix (bf.length),.row G8,.ix (bf.length),.row MG,.ix (bf.length),.row IR,.gv [1] [(5,y3.1.map aN.c)] (D.int .i64 y3.2),.mg 0 bf.length 2 MF,.ix (bf.length),.row G9,.gv [2] [(3,y5.1.map Action.c)] (D.int .i64 y5.2),.mg 0 bf.length 3 KR,.cn [0,1,5] [0]] (.cont 0 ⟨[(0,D.acc 0),(1,D.int .i64 y5.2),(5,D.int .i64 (IntKind.i64.wrap ((bf.length:Int)+1)))],[Ob.fD 4 (((IS.set bf.length G9).set bf.length KR).set bf.length [D.str y1,D.int .i64 (IntKind.i64.wrap (b7+1)),D.sl (y3.1.map aN.c),D.sl (y5.1.map Action.c)]) (some fE)]⟩) hΓ C4 (by kernel_rfl) (ow (show(decide (((bf.length:Int):Int)<((bf.map aO.c++(G8::bg.map aO.c)).length:Int)))=true from(Cz _ _ _)) (ow (bh h2) (ow (show(bf.length:Int)=((bf.length:Nat):Int)/\bf.length<(bf.map aO.c++(G8::bg.map aO.c)).length from⟨rfl,by simp only[IS,IR,G9,IQ,G8,MG,MF,KR,bZ,aX,aZ,aL];omega⟩) (ow (show(bf.map aO.c++(G8::bg.map aO.c))[bf.length]?=some G8 from by(try simp only[IS,IR,G9,IQ,G8,MG,MF,KR,cz]);exact dW _ _ _) (ow (show(bf.length:Int)=((bf.length:Nat):Int)/\bf.length<IQ.length from⟨rfl,by simp only[IS,IR,G9,IQ,G8,MG,MF,KR,bZ,aX,aZ,aL];omega⟩) (ow (show IQ[bf.length]?=some MG from by(try simp only[IS,IR,G9,IQ,G8,MG,MF,KR,cz]);exact dW _ _ _) (ow (show(bf.length:Int)=((bf.length:Nat):Int)/\bf.length<(IQ.set bf.length IR).length from⟨rfl,by simp only[IS,IR,G9,IQ,G8,MG,MF,KR,bZ,aX,aZ,aL];omega⟩) (ow (show(IQ.set bf.length IR)[bf.length]?=some IR from by(try simp only[IS,IR,G9,IQ,G8,MG,MF,KR,cz]);exact dW _ _ _) (ow (show∀q∈(bD.conds.map aN.c),q.length=5 from by simp) (ow (FY h4) (ow (show IS[bf.length]?=some MF from by(try simp only[IS,IR,G9,IQ,G8,MG,MF,KR,cz]);exact dW _ _ _) (ow (show(bf.length*4+2)=bf.length*4+2 from rfl) (ow (show(bf.length:Int)=((bf.length:Nat):Int)/\bf.length<(IS.set bf.length G9).length from⟨rfl,by simp only[IS,IR,G9,IQ,G8,MG,MF,KR,bZ,aX,aZ,aL];omega⟩) (ow (show(IS.set bf.length G9)[bf.length]?=some G9 from by(try simp only[IS,IR,G9,IQ,G8,MG,MF,KR,cz]);exact dW _ _ _) (ow (show∀q∈(bD.cu.map Action.c),q.length=3 from by simp) (ow (DS h6) (ow (show((IS.set bf.length G9).set bf.length KR)[bf.length]?=some KR from by(try simp only[IS,IR,G9,IQ,G8,MG,MF,KR,cz]);exact dW _ _ _) (ow (show(bf.length*4+3)=bf.length*4+3 from rfl) D9)))))))))))))))))) ?_;refine(congrFun bn _).mpr ?_;rw[zb (by simp only[aL]at hm1;omega)];simp only[IS,IR,G9,IQ,G8,MG,MF,KR,cz];simp only[bS,bH,bX,bY,dO,cH,aX,aL,bK]at t⊢;exact t
theorem Fb{aB:au}{aV:Int}{r:au×Int}(h:tC aB aV=some r):s7 prog 57 [D.acc 0,D.int .i64 aV] [(4,aB.map aO.c)] [(4,r.1.map aO.c)] (D.int .i64 r.2):=by
 refine s7.of (c:=jw f57) func57 rfl (by decide) (by simp[f57]) rfl rfl ?_;intro hr Γ hΓ vs hvs
 match vs,hvs with
 | [fE],_=>
 have hΓ:Γ.nt=42:=hΓ;rw[tC]at h;refine(show AW prog Γ (jw f57) (KQ prog Γ (fun _ _=>False) (vH prog f57 [fE] [(4,r.1.map aO.c)] (D.int .i64 r.2)) []) _ from ?_);refine fT (n:=2000) 1 [.cn [0,1,5] [0]] (.lp (lc f57 [1,0,1,0,0]) (AL f57 [1,0,1,0]) ⟨[(0,D.acc 0),(1,D.int .i64 aV),(5,D.int .i64 0)],[Ob.fD 4 (aB.map aO.c) (some fE)]⟩) hΓ C4 (by kernel_rfl) D9 (xF (by rfl) (yU (Gy hΓ (fun bO cK h=>?_) aB [] aV (by have:=hr _ (aC (i:=0) rfl);simpa using this) h)));have h:=aG h;subst h;exact fT (n:=2000) 1 [] (.ret (D.iF [D.int .i64 cK,D.agg [D.fr 0 4 (bO.map aO.c),D.val fE]])) hΓ C4 (by kernel_rfl) D9 rfl
def ir(k1:bJ->Int->Option (bJ×Int)):bJ->bJ->Int->Option (bJ×Int)
 | [],bf,b7=>(k1 bf b7)
 |bD::bg,bf,b7=>(ir k1 bg (bf++[b7]) (IntKind.i64.wrap (b7+1)))
def uM(aB:bJ)(aV:Int):Option (bJ×Int):=(ir (fun(bO:bJ) (cK:Int)=>(some (bO,cK))) aB [] aV)
theorem J8{Γ:vY}(hΓ:Γ.nt=19){N:Nat->St->Prop}{fE:Value}{r:bJ×Int}{k1:bJ->Int->Option (bJ×Int)}(cY:∀(bO:bJ) (cK:Int),k1 bO cK=some r->AW prog Γ (lc f58 [1,1]) (KQ prog Γ N (vH prog f58 [fE] [(1,r.1.map di)] (D.int .i64 r.2)) (AL f58 [1,1])) ⟨[(1,D.int .i64 cK)],[Ob.fD 1 (bO.map di) (some fE)]⟩):∀(rest:bJ) (bf:bJ) (b7:Int),bf.length+rest.length<=maxLen->ir k1 rest bf b7=some r->Pe prog Γ (lc f58 [1,0,1,0,0]) (KQ prog Γ N (vH prog f58 [fE] [(1,r.1.map di)] (D.int .i64 r.2)) (AL f58 [1,0,1,0])) (rest.length+1) ⟨[(0,D.acc 0),(1,D.int .i64 b7),(5,D.int .i64 (bf.length:Int))],[Ob.fD 1 (bf.map di++rest.map di) (some fE)]⟩:=by
 intro rest
 induction rest with
 |nil=>
  intro bf b7 hm1 h;rw[ir]at h;refine aM fun N1 bw bn=>?_
  have t:=Px (N:=N) (N':=N1) (K0:=(AL f58 [1,0,1,0])) (by kernel_rfl) bw (cY bf b7 h);refine fT (n:=2000) 1 [bF,.hl 0 [1] [0]] (.at_ (lc f58 [1,1]) (AL f58 [1,1]) ⟨[(1,D.int .i64 b7)],[Ob.fD 1 (bf.map di++([]:bJ).map di) (some fE)]⟩) hΓ C4 (by kernel_rfl) (ow (show(decide (((bf.length:Int):Int)<((bf.map di++([]:bJ).map di).length:Int)))=false from(Cv _)) D9) ?_;refine xF (s:=⟨[(1,D.int .i64 b7)],[Ob.fD 1 (bf.map di++([]:bJ).map di) (some fE)]⟩) ?_ t;simp only[bX,cN]
 |cons bD bg ih1=>
  intro bf b7 hm1 h;rw[ir]at h;refine aM fun N1 bw bn=>?_
  have t:=ih1 (bf++[b7]) (IntKind.i64.wrap (b7+1)) (by simp only[aX,aL,bK]at hm1⊢;omega) h;refine fT (n:=2000) 1 [bT,.ix (bf.length),.row [D.int .i64 bD],.cn [0,1,5] [0]] (.cont 0 ⟨[(0,D.acc 0),(1,D.int .i64 (IntKind.i64.wrap (b7+1))),(5,D.int .i64 (IntKind.i64.wrap ((bf.length:Int)+1)))],[Ob.fD 1 ((bf.map di++([D.int .i64 bD]::bg.map di)).set bf.length [D.int .i64 b7]) (some fE)]⟩) hΓ C4 (by kernel_rfl) (ow (show(decide (((bf.length:Int):Int)<((bf.map di++([D.int .i64 bD]::bg.map di)).length:Int)))=true from(Cz _ _ _)) (ow (show(bf.length:Int)=((bf.length:Nat):Int)/\bf.length<(bf.map di++([D.int .i64 bD]::bg.map di)).length from⟨rfl,by simp only[bZ,aX,aZ,aL];omega⟩) (ow (show(bf.map di++([D.int .i64 bD]::bg.map di))[bf.length]?=some [D.int .i64 bD]from by(try simp only[cz]);exact dW _ _ _) D9))) ?_;refine(congrFun bn _).mpr ?_;rw[zb (by simp only[aL]at hm1;omega)];simp only[cz];simp only[bS,bH,bX,bY,dO,cH,aX,aL,bK]at t⊢;exact t
theorem Gv{aB:bJ}{aV:Int}{r:bJ×Int}(h:uM aB aV=some r):s7 prog 58 [D.acc 0,D.int .i64 aV] [(1,aB.map di)] [(1,r.1.map di)] (D.int .i64 r.2):=by
 refine s7.of (c:=jw f58) func58 rfl (by decide) (by simp[f58]) rfl rfl ?_;intro hr Γ hΓ vs hvs
 match vs,hvs with
 | [fE],_=>
 have hΓ:Γ.nt=19:=hΓ;rw[uM]at h;refine(show AW prog Γ (jw f58) (KQ prog Γ (fun _ _=>False) (vH prog f58 [fE] [(1,r.1.map di)] (D.int .i64 r.2)) []) _ from ?_);refine fT (n:=2000) 1 [.cn [0,1,5] [0]] (.lp (lc f58 [1,0,1,0,0]) (AL f58 [1,0,1,0]) ⟨[(0,D.acc 0),(1,D.int .i64 aV),(5,D.int .i64 0)],[Ob.fD 1 (aB.map di) (some fE)]⟩) hΓ C4 (by kernel_rfl) D9 (xF (by rfl) (yU (J8 hΓ (fun bO cK h=>?_) aB [] aV (by have:=hr _ (aC (i:=0) rfl);simpa using this) h)));have h:=aG h;subst h;exact fT (n:=2000) 1 [] (.ret (D.iF [D.int .i64 cK,D.agg [D.fr 0 1 (bO.map di),D.val fE]])) hΓ C4 (by kernel_rfl) D9 rfl
def hY(k1:aP->Int->Option (aP×Int)):aP->aP->Int->Option (aP×Int)
 | [],bf,b7=>(k1 bf b7)
 |bD::bg,bf,b7=>((cB b7).bind fun y1=>((fQ bD.args (IntKind.i64.wrap (b7+1))).bind fun y3=>(hY k1 bg (bf++[(⟨y1,y3.1⟩:aE)]) y3.2)))
def nD(aB:aP)(aV:Int):Option (aP×Int):=(hY (fun(bO:aP) (cK:Int)=>(some (bO,cK))) aB [] aV)
theorem Gt{Γ:vY}(hΓ:Γ.nt=28){N:Nat->St->Prop}{fE:Value}{r:aP×Int}{k1:aP->Int->Option (aP×Int)}(cY:∀(bO:aP) (cK:Int),k1 bO cK=some r->AW prog Γ (lc f20 [1,1]) (KQ prog Γ N (vH prog f20 [fE] [(2,r.1.map aE.c)] (D.int .i64 r.2)) (AL f20 [1,1])) ⟨[(1,D.int .i64 cK)],[Ob.fD 2 (bO.map aE.c) (some fE)]⟩):∀(rest:aP) (bf:aP) (b7:Int),bf.length+rest.length<=maxLen->hY k1 rest bf b7=some r->Pe prog Γ (lc f20 [1,0,1,0,0]) (KQ prog Γ N (vH prog f20 [fE] [(2,r.1.map aE.c)] (D.int .i64 r.2)) (AL f20 [1,0,1,0])) (rest.length+1) ⟨[(0,D.acc 0),(1,D.int .i64 b7),(5,D.int .i64 (bf.length:Int))],[Ob.fD 2 (bf.map aE.c++rest.map aE.c) (some fE)]⟩:=by
 intro rest
 induction rest with
 |nil=>
  intro bf b7 hm1 h;rw[hY]at h;refine aM fun N1 bw bn=>?_
  have t:=Px (N:=N) (N':=N1) (K0:=(AL f20 [1,0,1,0])) (by kernel_rfl) bw (cY bf b7 h);refine fT (n:=2000) 1 [bF,.hl 0 [1] [0]] (.at_ (lc f20 [1,1]) (AL f20 [1,1]) ⟨[(1,D.int .i64 b7)],[Ob.fD 2 (bf.map aE.c++([]:aP).map aE.c) (some fE)]⟩) hΓ C4 (by kernel_rfl) (ow (show(decide (((bf.length:Int):Int)<((bf.map aE.c++([]:aP).map aE.c).length:Int)))=false from(Cv _)) D9) ?_;refine xF (s:=⟨[(1,D.int .i64 b7)],[Ob.fD 2 (bf.map aE.c++([]:aP).map aE.c) (some fE)]⟩) ?_ t;simp only[bX,cN]
 |cons bD bg ih1=>
  intro bf b7 hm1 h;rw[hY]at h;refine aM fun N1 bw bn=>?_
  obtain⟨y1,h2,h⟩:=aD h;obtain⟨y3,h4,h⟩:=aD h;have t:=ih1 (bf++[(⟨y1,y3.1⟩:aE)]) y3.2 (by simp only[aX,aL,bK]at hm1⊢;omega) h;let RR:List aS:=(bf.map aE.c++([D.str bD.rel,D.sl (bD.args.map tx)]::bg.map aE.c))
  let RS:List aS:=(RR.set bf.length [D.str y1,D.sl (bD.args.map tx)])
  refine fT (n:=2000) 1 [bT,.d (D.str y1),.ix (bf.length),.row [D.str bD.rel,D.sl (bD.args.map tx)],.ix (bf.length),.row [D.str y1,D.sl (bD.args.map tx)],.gv [1] [(1,y3.1.map tx)] (D.int .i64 y3.2),.mg 0 bf.length 1 [D.str y1,D.any],.cn [0,1,5] [0]] (.cont 0 ⟨[(0,D.acc 0),(1,D.int .i64 y3.2),(5,D.int .i64 (IntKind.i64.wrap ((bf.length:Int)+1)))],[Ob.fD 2 ((RS.set bf.length [D.str y1,D.any]).set bf.length [D.str y1,D.sl (y3.1.map tx)]) (some fE)]⟩) hΓ C4 (by kernel_rfl) (ow (show(decide (((bf.length:Int):Int)<(RR.length:Int)))=true from(Cz _ _ _)) (ow (bh h2) (ow (show(bf.length:Int)=((bf.length:Nat):Int)/\bf.length<RR.length from⟨rfl,by simp only[RS,RR,bZ,aX,aZ,aL];omega⟩) (ow (show RR[bf.length]?=some [D.str bD.rel,D.sl (bD.args.map tx)]from by(try simp only[RS,RR,cz]);exact dW _ _ _) (ow (show(bf.length:Int)=((bf.length:Nat):Int)/\bf.length<RS.length from⟨rfl,by simp only[RS,RR,bZ,aX,aZ,aL];omega⟩) (ow (show RS[bf.length]?=some [D.str y1,D.sl (bD.args.map tx)]from by(try simp only[RS,RR,cz]);exact dW _ _ _) (ow (show∀q∈(bD.args.map tx),q.length=1 from by simp) (ow (iR h4) (ow (show(RS.set bf.length [D.str y1,D.any])[bf.length]?=some [D.str y1,D.any]from by(try simp only[RS,RR,cz]);exact dW _ _ _) (ow (show(bf.length*2+1)=bf.length*2+1 from rfl) D9)))))))))) ?_;refine(congrFun bn _).mpr ?_;rw[zb (by simp only[aL]at hm1;omega)];simp only[RS,RR,cz];simp only[bS,bH,bX,bY,dO,cH,aX,aL,bK]at t⊢;exact t
theorem vP{aB:aP}{aV:Int}{r:aP×Int}(h:nD aB aV=some r):s7 prog 20 [D.acc 0,D.int .i64 aV] [(2,aB.map aE.c)] [(2,r.1.map aE.c)] (D.int .i64 r.2):=by
 refine s7.of (c:=jw f20) func20 rfl (by decide) (by simp[f20]) rfl rfl ?_;intro hr Γ hΓ vs hvs
 match vs,hvs with
 | [fE],_=>
 have hΓ:Γ.nt=28:=hΓ;rw[nD]at h;refine(show AW prog Γ (jw f20) (KQ prog Γ (fun _ _=>False) (vH prog f20 [fE] [(2,r.1.map aE.c)] (D.int .i64 r.2)) []) _ from ?_);refine fT (n:=2000) 1 [.cn [0,1,5] [0]] (.lp (lc f20 [1,0,1,0,0]) (AL f20 [1,0,1,0]) ⟨[(0,D.acc 0),(1,D.int .i64 aV),(5,D.int .i64 0)],[Ob.fD 2 (aB.map aE.c) (some fE)]⟩) hΓ C4 (by kernel_rfl) D9 (xF (by rfl) (yU (Gt hΓ (fun bO cK h=>?_) aB [] aV (by have:=hr _ (aC (i:=0) rfl);simpa using this) h)));have h:=aG h;subst h;exact fT (n:=2000) 1 [] (.ret (D.iF [D.int .i64 cK,D.agg [D.fr 0 2 (bO.map aE.c),D.val fE]])) hΓ C4 (by kernel_rfl) D9 rfl
def gO(k1:b8->Int->Option (b8×Int)):b8->b8->Int->Option (b8×Int)
 | [],bf,b7=>(k1 bf b7)
 |bD::bg,bf,b7=>((cB b7).bind fun y1=>((fQ bD.shape.args (IntKind.i64.wrap (b7+1))).bind fun y3=>((nD bD.facts y3.2).bind fun y5=>(gO k1 bg (bf++[(⟨(⟨y1,y3.1⟩:aE),y5.1⟩:aQ)]) y5.2))))
def rA(aB:b8)(aV:Int):Option (b8×Int):=(gO (fun(bO:b8) (cK:Int)=>(some (bO,cK))) aB [] aV)
theorem FX{Γ:vY}(hΓ:Γ.nt=37){N:Nat->St->Prop}{fE:Value}{r:b8×Int}{k1:b8->Int->Option (b8×Int)}(cY:∀(bO:b8) (cK:Int),k1 bO cK=some r->AW prog Γ (lc f59 [1,1]) (KQ prog Γ N (vH prog f59 [fE] [(3,r.1.map aQ.c)] (D.int .i64 r.2)) (AL f59 [1,1])) ⟨[(1,D.int .i64 cK)],[Ob.fD 3 (bO.map aQ.c) (some fE)]⟩):∀(rest:b8) (bf:b8) (b7:Int),bf.length+rest.length<=maxLen->gO k1 rest bf b7=some r->Pe prog Γ (lc f59 [1,0,1,0,0]) (KQ prog Γ N (vH prog f59 [fE] [(3,r.1.map aQ.c)] (D.int .i64 r.2)) (AL f59 [1,0,1,0])) (rest.length+1) ⟨[(0,D.acc 0),(1,D.int .i64 b7),(5,D.int .i64 (bf.length:Int))],[Ob.fD 3 (bf.map aQ.c++rest.map aQ.c) (some fE)]⟩:=by
 intro rest
 induction rest with
 |nil=>
  intro bf b7 hm1 h;rw[gO]at h;refine aM fun N1 bw bn=>?_
  have t:=Px (N:=N) (N':=N1) (K0:=(AL f59 [1,0,1,0])) (by kernel_rfl) bw (cY bf b7 h);refine fT (n:=2000) 1 [bF,.hl 0 [1] [0]] (.at_ (lc f59 [1,1]) (AL f59 [1,1]) ⟨[(1,D.int .i64 b7)],[Ob.fD 3 (bf.map aQ.c++([]:b8).map aQ.c) (some fE)]⟩) hΓ C4 (by kernel_rfl) (ow (show(decide (((bf.length:Int):Int)<((bf.map aQ.c++([]:b8).map aQ.c).length:Int)))=false from(Cv _)) D9) ?_;refine xF (s:=⟨[(1,D.int .i64 b7)],[Ob.fD 3 (bf.map aQ.c++([]:b8).map aQ.c) (some fE)]⟩) ?_ t;simp only[bX,cN]
 |cons bD bg ih1=>
  intro bf b7 hm1 h;rw[gO]at h;refine aM fun N1 bw bn=>?_
  obtain⟨y1,h2,h⟩:=aD h;obtain⟨y3,h4,h⟩:=aD h;obtain⟨y5,h6,h⟩:=aD h;have t:=ih1 (bf++[(⟨(⟨y1,y3.1⟩:aE),y5.1⟩:aQ)]) y5.2 (by simp only[aX,aL,bK]at hm1⊢;omega) h;let PF:aS:=[D.str y1,D.any,D.sl (bD.facts.map aE.c)]
  let KS:aS:=[D.str y1,D.sl (y3.1.map tx),D.sl (bD.facts.map aE.c)]
  let MH:aS:=[D.str y1,D.sl (bD.shape.args.map tx),D.sl (bD.facts.map aE.c)]
  let PG:aS:=[D.str bD.shape.rel,D.sl (bD.shape.args.map tx),D.sl (bD.facts.map aE.c)]
  let KT:List aS:=(bf.map aQ.c++(PG::bg.map aQ.c))
  let MI:List aS:=((KT.set bf.length MH).set bf.length PF)
  refine fT (n:=2000) 1 [bT,.d (D.str y1),.ix (bf.length),.row PG,.ix (bf.length),.row MH,.gv [1] [(1,y3.1.map tx)] (D.int .i64 y3.2),.mg 0 bf.length 1 PF,.ix (bf.length),.row KS,.gv [2] [(2,y5.1.map aE.c)] (D.int .i64 y5.2),.mg 0 bf.length 2 [D.str y1,D.sl (y3.1.map tx),D.any],.cn [0,1,5] [0]] (.cont 0 ⟨[(0,D.acc 0),(1,D.int .i64 y5.2),(5,D.int .i64 (IntKind.i64.wrap ((bf.length:Int)+1)))],[Ob.fD 3 (((MI.set bf.length KS).set bf.length [D.str y1,D.sl (y3.1.map tx),D.any]).set bf.length [D.str y1,D.sl (y3.1.map tx),D.sl (y5.1.map aE.c)]) (some fE)]⟩) hΓ C4 (by kernel_rfl) (ow (show(decide (((bf.length:Int):Int)<(KT.length:Int)))=true from(Cz _ _ _)) (ow (bh h2) (ow (show(bf.length:Int)=((bf.length:Nat):Int)/\bf.length<KT.length from⟨rfl,by simp only[MI,KT,PG,MH,KS,PF,bZ,aX,aZ,aL];omega⟩) (ow (show KT[bf.length]?=some PG from by(try simp only[MI,KT,PG,MH,KS,PF,cz]);exact dW _ _ _) (ow (show(bf.length:Int)=((bf.length:Nat):Int)/\bf.length<(KT.set bf.length MH).length from⟨rfl,by simp only[MI,KT,PG,MH,KS,PF,bZ,aX,aZ,aL];omega⟩) (ow (show(KT.set bf.length MH)[bf.length]?=some MH from by(try simp only[MI,KT,PG,MH,KS,PF,cz]);exact dW _ _ _) (ow (show∀q∈(bD.shape.args.map tx),q.length=1 from by simp) (ow (iR h4) (ow (show MI[bf.length]?=some PF from by(try simp only[MI,KT,PG,MH,KS,PF,cz]);exact dW _ _ _) (ow (show(bf.length*3+1)=bf.length*3+1 from rfl) (ow (show(bf.length:Int)=((bf.length:Nat):Int)/\bf.length<(MI.set bf.length KS).length from⟨rfl,by simp only[MI,KT,PG,MH,KS,PF,bZ,aX,aZ,aL];omega⟩) (ow (show(MI.set bf.length KS)[bf.length]?=some KS from by(try simp only[MI,KT,PG,MH,KS,PF,cz]);exact dW _ _ _) (ow (show∀q∈(bD.facts.map aE.c),q.length=2 from by simp) (ow (vP h6) (ow (show((MI.set bf.length KS).set bf.length [D.str y1,D.sl (y3.1.map tx),D.any])[bf.length]?=some [D.str y1,D.sl (y3.1.map tx),D.any]from by(try simp only[MI,KT,PG,MH,KS,PF,cz]);exact dW _ _ _) (ow (show(bf.length*3+2)=bf.length*3+2 from rfl) D9)))))))))))))))) ?_;refine(congrFun bn _).mpr ?_;rw[zb (by simp only[aL]at hm1;omega)];simp only[MI,KT,PG,MH,KS,PF,cz];simp only[bS,bH,bX,bY,dO,cH,aX,aL,bK]at t⊢;exact t
theorem ET{aB:b8}{aV:Int}{r:b8×Int}(h:rA aB aV=some r):s7 prog 59 [D.acc 0,D.int .i64 aV] [(3,aB.map aQ.c)] [(3,r.1.map aQ.c)] (D.int .i64 r.2):=by
 refine s7.of (c:=jw f59) func59 rfl (by decide) (by simp[f59]) rfl rfl ?_;intro hr Γ hΓ vs hvs
 match vs,hvs with
 | [fE],_=>
 have hΓ:Γ.nt=37:=hΓ;rw[rA]at h;refine(show AW prog Γ (jw f59) (KQ prog Γ (fun _ _=>False) (vH prog f59 [fE] [(3,r.1.map aQ.c)] (D.int .i64 r.2)) []) _ from ?_);refine fT (n:=2000) 1 [.cn [0,1,5] [0]] (.lp (lc f59 [1,0,1,0,0]) (AL f59 [1,0,1,0]) ⟨[(0,D.acc 0),(1,D.int .i64 aV),(5,D.int .i64 0)],[Ob.fD 3 (aB.map aQ.c) (some fE)]⟩) hΓ C4 (by kernel_rfl) D9 (xF (by rfl) (yU (FX hΓ (fun bO cK h=>?_) aB [] aV (by have:=hr _ (aC (i:=0) rfl);simpa using this) h)));have h:=aG h;subst h;exact fT (n:=2000) 1 [] (.ret (D.iF [D.int .i64 cK,D.agg [D.fr 0 3 (bO.map aQ.c),D.val fE]])) hΓ C4 (by kernel_rfl) D9 rfl
def iB(k1:aT->Int->Option (aT×Int)):aT->aT->Int->Option (aT×Int)
 | [],bf,b7=>(k1 bf b7)
 |bD::bg,bf,b7=>((cB b7).bind fun y1=>((cB (IntKind.i64.wrap (b7+1))).bind fun y3=>(iB k1 bg (bf++[(⟨y1,y3⟩:aR)]) (IntKind.i64.wrap ((IntKind.i64.wrap (b7+1))+1)))))
def tB(aB:aT)(aV:Int):Option (aT×Int):=(iB (fun(bO:aT) (cK:Int)=>(some (bO,cK))) aB [] aV)
theorem Gx{Γ:vY}(hΓ:Γ.nt=29){N:Nat->St->Prop}{fE:Value}{r:aT×Int}{k1:aT->Int->Option (aT×Int)}(cY:∀(bO:aT) (cK:Int),k1 bO cK=some r->AW prog Γ (lc f75 [1,1]) (KQ prog Γ N (vH prog f75 [fE] [(2,r.1.map aR.c)] (D.int .i64 r.2)) (AL f75 [1,1])) ⟨[(1,D.int .i64 cK)],[Ob.fD 2 (bO.map aR.c) (some fE)]⟩):∀(rest:aT) (bf:aT) (b7:Int),bf.length+rest.length<=maxLen->iB k1 rest bf b7=some r->Pe prog Γ (lc f75 [1,0,1,0,0]) (KQ prog Γ N (vH prog f75 [fE] [(2,r.1.map aR.c)] (D.int .i64 r.2)) (AL f75 [1,0,1,0])) (rest.length+1) ⟨[(0,D.acc 0),(1,D.int .i64 b7),(5,D.int .i64 (bf.length:Int))],[Ob.fD 2 (bf.map aR.c++rest.map aR.c) (some fE)]⟩:=by
 intro rest
 induction rest with
 |nil=>
  intro bf b7 hm1 h;rw[iB]at h;refine aM fun N1 bw bn=>?_
  have t:=Px (N:=N) (N':=N1) (K0:=(AL f75 [1,0,1,0])) (by kernel_rfl) bw (cY bf b7 h);refine fT (n:=2000) 1 [bF,.hl 0 [1] [0]] (.at_ (lc f75 [1,1]) (AL f75 [1,1]) ⟨[(1,D.int .i64 b7)],[Ob.fD 2 (bf.map aR.c++([]:aT).map aR.c) (some fE)]⟩) hΓ C4 (by kernel_rfl) (ow (show(decide (((bf.length:Int):Int)<((bf.map aR.c++([]:aT).map aR.c).length:Int)))=false from(Cv _)) D9) ?_;refine xF (s:=⟨[(1,D.int .i64 b7)],[Ob.fD 2 (bf.map aR.c++([]:aT).map aR.c) (some fE)]⟩) ?_ t;simp only[bX,cN]
 |cons bD bg ih1=>
  intro bf b7 hm1 h;rw[iB]at h;refine aM fun N1 bw bn=>?_
  obtain⟨y1,h2,h⟩:=aD h;obtain⟨y3,h4,h⟩:=aD h;have t:=ih1 (bf++[(⟨y1,y3⟩:aR)]) (IntKind.i64.wrap ((IntKind.i64.wrap (b7+1))+1)) (by simp only[aX,aL,bK]at hm1⊢;omega) h;let Sq:List aS:=(bf.map aR.c++([D.str bD.var,D.str bD.value]::bg.map aR.c))
  let UH:List aS:=(Sq.set bf.length [D.str y1,D.str bD.value])
  refine fT (n:=2000) 1 [bT,.d (D.str y1),.ix (bf.length),.row [D.str bD.var,D.str bD.value],.d (D.str y3),.ix (bf.length),.row [D.str y1,D.str bD.value],.cn [0,1,5] [0]] (.cont 0 ⟨[(0,D.acc 0),(1,D.int .i64 (IntKind.i64.wrap ((IntKind.i64.wrap (b7+1))+1))),(5,D.int .i64 (IntKind.i64.wrap ((bf.length:Int)+1)))],[Ob.fD 2 (UH.set bf.length [D.str y1,D.str y3]) (some fE)]⟩) hΓ C4 (by kernel_rfl) (ow (show(decide (((bf.length:Int):Int)<(Sq.length:Int)))=true from(Cz _ _ _)) (ow (bh h2) (ow (show(bf.length:Int)=((bf.length:Nat):Int)/\bf.length<Sq.length from⟨rfl,by simp only[UH,Sq,bZ,aX,aZ,aL];omega⟩) (ow (show Sq[bf.length]?=some [D.str bD.var,D.str bD.value]from by(try simp only[UH,Sq,cz]);exact dW _ _ _) (ow (bh h4) (ow (show(bf.length:Int)=((bf.length:Nat):Int)/\bf.length<UH.length from⟨rfl,by simp only[UH,Sq,bZ,aX,aZ,aL];omega⟩) (ow (show UH[bf.length]?=some [D.str y1,D.str bD.value]from by(try simp only[UH,Sq,cz]);exact dW _ _ _) D9))))))) ?_;refine(congrFun bn _).mpr ?_;rw[zb (by simp only[aL]at hm1;omega)];simp only[UH,Sq,cz];simp only[bS,bH,bX,bY,dO,cH,aX,aL,bK]at t⊢;exact t
theorem Fa{aB:aT}{aV:Int}{r:aT×Int}(h:tB aB aV=some r):s7 prog 75 [D.acc 0,D.int .i64 aV] [(2,aB.map aR.c)] [(2,r.1.map aR.c)] (D.int .i64 r.2):=by
 refine s7.of (c:=jw f75) func75 rfl (by decide) (by simp[f75]) rfl rfl ?_;intro hr Γ hΓ vs hvs
 match vs,hvs with
 | [fE],_=>
 have hΓ:Γ.nt=29:=hΓ;rw[tB]at h;refine(show AW prog Γ (jw f75) (KQ prog Γ (fun _ _=>False) (vH prog f75 [fE] [(2,r.1.map aR.c)] (D.int .i64 r.2)) []) _ from ?_);refine fT (n:=2000) 1 [.cn [0,1,5] [0]] (.lp (lc f75 [1,0,1,0,0]) (AL f75 [1,0,1,0]) ⟨[(0,D.acc 0),(1,D.int .i64 aV),(5,D.int .i64 0)],[Ob.fD 2 (aB.map aR.c) (some fE)]⟩) hΓ C4 (by kernel_rfl) D9 (xF (by rfl) (yU (Gx hΓ (fun bO cK h=>?_) aB [] aV (by have:=hr _ (aC (i:=0) rfl);simpa using this) h)));have h:=aG h;subst h;exact fT (n:=2000) 1 [] (.ret (D.iF [D.int .i64 cK,D.agg [D.fr 0 2 (bO.map aR.c),D.val fE]])) hΓ C4 (by kernel_rfl) D9 rfl
def gP(k1:ah->Int->Option (ah×Int)):ah->ah->Int->Option (ah×Int)
 | [],bf,b7=>(k1 bf b7)
 |bD::bg,bf,b7=>((nD bD.facts b7).bind fun y1=>((tB bD.bind y1.2).bind fun y3=>(gP k1 bg (bf++[(⟨y1.1,y3.1⟩:aI)]) y3.2)))
def rB(aB:ah)(aV:Int):Option (ah×Int):=(gP (fun(bO:ah) (cK:Int)=>(some (bO,cK))) aB [] aV)
theorem Fc{Γ:vY}(hΓ:Γ.nt=27){N:Nat->St->Prop}{fE:Value}{r:ah×Int}{k1:ah->Int->Option (ah×Int)}(cY:∀(bO:ah) (cK:Int),k1 bO cK=some r->AW prog Γ (lc f119 [1,1]) (KQ prog Γ N (vH prog f119 [fE] [(2,r.1.map aI.c)] (D.int .i64 r.2)) (AL f119 [1,1])) ⟨[(1,D.int .i64 cK)],[Ob.fD 2 (bO.map aI.c) (some fE)]⟩):∀(rest:ah) (bf:ah) (b7:Int),bf.length+rest.length<=maxLen->gP k1 rest bf b7=some r->Pe prog Γ (lc f119 [1,0,1,0,0]) (KQ prog Γ N (vH prog f119 [fE] [(2,r.1.map aI.c)] (D.int .i64 r.2)) (AL f119 [1,0,1,0])) (rest.length+1) ⟨[(0,D.acc 0),(1,D.int .i64 b7),(5,D.int .i64 (bf.length:Int))],[Ob.fD 2 (bf.map aI.c++rest.map aI.c) (some fE)]⟩:=by
 intro rest
 induction rest with
 |nil=>
  intro bf b7 hm1 h;rw[gP]at h;refine aM fun N1 bw bn=>?_
  have t:=Px (N:=N) (N':=N1) (K0:=(AL f119 [1,0,1,0])) (by kernel_rfl) bw (cY bf b7 h);refine fT (n:=2000) 1 [bF,.hl 0 [1] [0]] (.at_ (lc f119 [1,1]) (AL f119 [1,1]) ⟨[(1,D.int .i64 b7)],[Ob.fD 2 (bf.map aI.c++([]:ah).map aI.c) (some fE)]⟩) hΓ C4 (by kernel_rfl) (ow (show(decide (((bf.length:Int):Int)<((bf.map aI.c++([]:ah).map aI.c).length:Int)))=false from(Cv _)) D9) ?_;refine xF (s:=⟨[(1,D.int .i64 b7)],[Ob.fD 2 (bf.map aI.c++([]:ah).map aI.c) (some fE)]⟩) ?_ t;simp only[bX,cN]
 |cons bD bg ih1=>
  intro bf b7 hm1 h;rw[gP]at h;refine aM fun N1 bw bn=>?_
  obtain⟨y1,h2,h⟩:=aD h;obtain⟨y3,h4,h⟩:=aD h;have t:=ih1 (bf++[(⟨y1.1,y3.1⟩:aI)]) y3.2 (by simp only[aX,aL,bK]at hm1⊢;omega) h;let O2:aS:=[D.sl (y1.1.map aE.c),D.sl (bD.bind.map aR.c)]
  let RU:aS:=[D.sl (bD.facts.map aE.c),D.sl (bD.bind.map aR.c)]
  let Q4:List aS:=(bf.map aI.c++(RU::bg.map aI.c))
  let PI:List aS:=(Q4.set bf.length [D.any,D.sl (bD.bind.map aR.c)])
  refine fT (n:=2000) 1 [bT,.ix (bf.length),.row RU,.gv [1] [(2,y1.1.map aE.c)] (D.int .i64 y1.2),.mg 0 bf.length 0 [D.any,D.sl (bD.bind.map aR.c)],.ix (bf.length),.row O2,.gv [2] [(2,y3.1.map aR.c)] (D.int .i64 y3.2),.mg 0 bf.length 1 [D.sl (y1.1.map aE.c),D.any],.cn [0,1,5] [0]] (.cont 0 ⟨[(0,D.acc 0),(1,D.int .i64 y3.2),(5,D.int .i64 (IntKind.i64.wrap ((bf.length:Int)+1)))],[Ob.fD 2 (((PI.set bf.length O2).set bf.length [D.sl (y1.1.map aE.c),D.any]).set bf.length [D.sl (y1.1.map aE.c),D.sl (y3.1.map aR.c)]) (some fE)]⟩) hΓ C4 (by kernel_rfl) (ow (show(decide (((bf.length:Int):Int)<(Q4.length:Int)))=true from(Cz _ _ _)) (ow (show(bf.length:Int)=((bf.length:Nat):Int)/\bf.length<Q4.length from⟨rfl,by simp only[PI,Q4,RU,O2,bZ,aX,aZ,aL];omega⟩) (ow (show Q4[bf.length]?=some RU from by(try simp only[PI,Q4,RU,O2,cz]);exact dW _ _ _) (ow (show∀q∈(bD.facts.map aE.c),q.length=2 from by simp) (ow (vP h2) (ow (show PI[bf.length]?=some [D.any,D.sl (bD.bind.map aR.c)]from by(try simp only[PI,Q4,RU,O2,cz]);exact dW _ _ _) (ow (show(bf.length*2+0)=bf.length*2+0 from rfl) (ow (show(bf.length:Int)=((bf.length:Nat):Int)/\bf.length<(PI.set bf.length O2).length from⟨rfl,by simp only[PI,Q4,RU,O2,bZ,aX,aZ,aL];omega⟩) (ow (show(PI.set bf.length O2)[bf.length]?=some O2 from by(try simp only[PI,Q4,RU,O2,cz]);exact dW _ _ _) (ow (show∀q∈(bD.bind.map aR.c),q.length=2 from by simp) (ow (Fa h4) (ow (show((PI.set bf.length O2).set bf.length [D.sl (y1.1.map aE.c),D.any])[bf.length]?=some [D.sl (y1.1.map aE.c),D.any]from by(try simp only[PI,Q4,RU,O2,cz]);exact dW _ _ _) (ow (show(bf.length*2+1)=bf.length*2+1 from rfl) D9))))))))))))) ?_;refine(congrFun bn _).mpr ?_;rw[zb (by simp only[aL]at hm1;omega)];simp only[PI,Q4,RU,O2,cz];simp only[bS,bH,bX,bY,dO,cH,aX,aL,bK]at t⊢;exact t
theorem EV{aB:ah}{aV:Int}{r:ah×Int}(h:rB aB aV=some r):s7 prog 119 [D.acc 0,D.int .i64 aV] [(2,aB.map aI.c)] [(2,r.1.map aI.c)] (D.int .i64 r.2):=by
 refine s7.of (c:=jw f119) func119 rfl (by decide) (by simp[f119]) rfl rfl ?_;intro hr Γ hΓ vs hvs
 match vs,hvs with
 | [fE],_=>
 have hΓ:Γ.nt=27:=hΓ;rw[rB]at h;refine(show AW prog Γ (jw f119) (KQ prog Γ (fun _ _=>False) (vH prog f119 [fE] [(2,r.1.map aI.c)] (D.int .i64 r.2)) []) _ from ?_);refine fT (n:=2000) 1 [.cn [0,1,5] [0]] (.lp (lc f119 [1,0,1,0,0]) (AL f119 [1,0,1,0]) ⟨[(0,D.acc 0),(1,D.int .i64 aV),(5,D.int .i64 0)],[Ob.fD 2 (aB.map aI.c) (some fE)]⟩) hΓ C4 (by kernel_rfl) D9 (xF (by rfl) (yU (Fc hΓ (fun bO cK h=>?_) aB [] aV (by have:=hr _ (aC (i:=0) rfl);simpa using this) h)));have h:=aG h;subst h;exact fT (n:=2000) 1 [] (.ret (D.iF [D.int .i64 cK,D.agg [D.fr 0 2 (bO.map aI.c),D.val fE]])) hΓ C4 (by kernel_rfl) D9 rfl
def iA(k1:az->Int->Option (az×Int)):az->az->Int->Option (az×Int)
 | [],bf,b7=>(k1 bf b7)
 |bD::bg,bf,b7=>((cB (IntKind.i64.wrap ((IntKind.i64.wrap (b7+1))+1))).bind fun y1=>((fQ bD.cond.pat.args (IntKind.i64.wrap ((IntKind.i64.wrap ((IntKind.i64.wrap (b7+1))+1))+1))).bind fun y3=>((cB y3.2).bind fun y5=>((cB (IntKind.i64.wrap (y3.2+1))).bind fun y7=>((rB bD.tokens (IntKind.i64.wrap ((IntKind.i64.wrap ((IntKind.i64.wrap (y3.2+1))+1))+1))).bind fun y9=>(iA k1 bg (bf++[(⟨b7,(⟨IntKind.i64.wrap (b7+1),(⟨y1,y3.1⟩:aE),y5,y7⟩:aN),IntKind.i64.wrap ((IntKind.i64.wrap (y3.2+1))+1),y9.1⟩:Node)]) y9.2))))))
def tA(aB:az)(aV:Int):Option (az×Int):=(iA (fun(bO:az) (cK:Int)=>(some (bO,cK))) aB [] aV)
theorem Gw{Γ:vY}(hΓ:Γ.nt=79){N:Nat->St->Prop}{fE:Value}{r:az×Int}{k1:az->Int->Option (az×Int)}(cY:∀(bO:az) (cK:Int),k1 bO cK=some r->AW prog Γ (lc f60 [1,1]) (KQ prog Γ N (vH prog f60 [fE] [(8,r.1.map Node.c)] (D.int .i64 r.2)) (AL f60 [1,1])) ⟨[(1,D.int .i64 cK)],[Ob.fD 8 (bO.map Node.c) (some fE)]⟩):∀(rest:az) (bf:az) (b7:Int),bf.length+rest.length<=maxLen->iA k1 rest bf b7=some r->Pe prog Γ (lc f60 [1,0,1,0,0]) (KQ prog Γ N (vH prog f60 [fE] [(8,r.1.map Node.c)] (D.int .i64 r.2)) (AL f60 [1,0,1,0])) (rest.length+1) ⟨[(0,D.acc 0),(1,D.int .i64 b7),(5,D.int .i64 (bf.length:Int))],[Ob.fD 8 (bf.map Node.c++rest.map Node.c) (some fE)]⟩:=by
 intro rest
 induction rest with
 |nil=>
  intro bf b7 hm1 h;rw[iA]at h;refine aM fun N1 bw bn=>?_
  have t:=Px (N:=N) (N':=N1) (K0:=(AL f60 [1,0,1,0])) (by kernel_rfl) bw (cY bf b7 h);refine fT (n:=2000) 1 [bF,.hl 0 [1] [0]] (.at_ (lc f60 [1,1]) (AL f60 [1,1]) ⟨[(1,D.int .i64 b7)],[Ob.fD 8 (bf.map Node.c++([]:az).map Node.c) (some fE)]⟩) hΓ C4 (by kernel_rfl) (ow (show(decide (((bf.length:Int):Int)<((bf.map Node.c++([]:az).map Node.c).length:Int)))=false from(Cv _)) D9) ?_;refine xF (s:=⟨[(1,D.int .i64 b7)],[Ob.fD 8 (bf.map Node.c++([]:az).map Node.c) (some fE)]⟩) ?_ t;simp only[bX,cN]
 |cons bD bg ih1=>
  intro bf b7 hm1 h;rw[iA]at h;refine aM fun N1 bw bn=>?_
  obtain⟨y1,h2,h⟩:=aD h;obtain⟨y3,h4,h⟩:=aD h;obtain⟨y5,h6,h⟩:=aD h;obtain⟨y7,h8,h⟩:=aD h;obtain⟨y9,h10,h⟩:=aD h;have t:=ih1 (bf++[(⟨b7,(⟨IntKind.i64.wrap (b7+1),(⟨y1,y3.1⟩:aE),y5,y7⟩:aN),IntKind.i64.wrap ((IntKind.i64.wrap (y3.2+1))+1),y9.1⟩:Node)]) y9.2 (by simp only[aX,aL,bK]at hm1⊢;omega) h;let CF:aS:=[D.int .i64 b7,D.int .i64 (IntKind.i64.wrap (b7+1)),D.str y1,D.sl (y3.1.map tx),D.str y5,D.str y7,D.int .i64 bD.cP,D.sl (bD.tokens.map aI.c)]
  let BY:aS:=[D.int .i64 b7,D.int .i64 (IntKind.i64.wrap (b7+1)),D.str y1,D.any,D.str bD.cond.left,D.str bD.cond.right,D.int .i64 bD.cP,D.sl (bD.tokens.map aI.c)]
  let B4:aS:=[D.int .i64 b7,D.int .i64 (IntKind.i64.wrap (b7+1)),D.str y1,D.sl (y3.1.map tx),D.str y5,D.str bD.cond.right,D.int .i64 bD.cP,D.sl (bD.tokens.map aI.c)]
  let CG:aS:=[D.int .i64 b7,D.int .i64 (IntKind.i64.wrap (b7+1)),D.str y1,D.sl (y3.1.map tx),D.str bD.cond.left,D.str bD.cond.right,D.int .i64 bD.cP,D.sl (bD.tokens.map aI.c)]
  let BZ:aS:=[D.int .i64 b7,D.int .i64 (IntKind.i64.wrap (b7+1)),D.str y1,D.sl (y3.1.map tx),D.str y5,D.str y7,D.int .i64 (IntKind.i64.wrap ((IntKind.i64.wrap (y3.2+1))+1)),D.any]
  let CH:aS:=[D.int .i64 b7,D.int .i64 bD.cond.kind,D.str bD.cond.pat.rel,D.sl (bD.cond.pat.args.map tx),D.str bD.cond.left,D.str bD.cond.right,D.int .i64 bD.cP,D.sl (bD.tokens.map aI.c)]
  let CI:aS:=[D.int .i64 b7,D.int .i64 (IntKind.i64.wrap (b7+1)),D.str y1,D.sl (bD.cond.pat.args.map tx),D.str bD.cond.left,D.str bD.cond.right,D.int .i64 bD.cP,D.sl (bD.tokens.map aI.c)]
  let AS:aS:=[D.int .i64 bD.parent,D.int .i64 bD.cond.kind,D.str bD.cond.pat.rel,D.sl (bD.cond.pat.args.map tx),D.str bD.cond.left,D.str bD.cond.right,D.int .i64 bD.cP,D.sl (bD.tokens.map aI.c)]
  let B5:List aS:=((bf.map Node.c++(AS::bg.map Node.c)).set bf.length CH)
  let AT:aS:=[D.int .i64 b7,D.int .i64 (IntKind.i64.wrap (b7+1)),D.str y1,D.sl (y3.1.map tx),D.str y5,D.str y7,D.int .i64 (IntKind.i64.wrap ((IntKind.i64.wrap (y3.2+1))+1)),D.sl (bD.tokens.map aI.c)]
  let B6:aS:=[D.int .i64 b7,D.int .i64 (IntKind.i64.wrap (b7+1)),D.str bD.cond.pat.rel,D.sl (bD.cond.pat.args.map tx),D.str bD.cond.left,D.str bD.cond.right,D.int .i64 bD.cP,D.sl (bD.tokens.map aI.c)]
  let Ba:List aS:=((B5.set bf.length B6).set bf.length CI)
  let B7:List aS:=((Ba.set bf.length BY).set bf.length CG)
  let AU:List aS:=((B7.set bf.length B4).set bf.length CF)
  refine fT (n:=2000) 1 [bT,.ix (bf.length),.row AS,.ix (bf.length),.row CH,.d (D.str y1),.ix (bf.length),.row B6,.ix (bf.length),.row CI,.gv [1] [(1,y3.1.map tx)] (D.int .i64 y3.2),.mg 0 bf.length 3 BY,.d (D.str y5),.ix (bf.length),.row CG,.d (D.str y7),.ix (bf.length),.row B4,.ix (bf.length),.row CF,.ix (bf.length),.row AT,.gv [2] [(2,y9.1.map aI.c)] (D.int .i64 y9.2),.mg 0 bf.length 7 BZ,.cn [0,1,5] [0]] (.cont 0 ⟨[(0,D.acc 0),(1,D.int .i64 y9.2),(5,D.int .i64 (IntKind.i64.wrap ((bf.length:Int)+1)))],[Ob.fD 8 (((AU.set bf.length AT).set bf.length BZ).set bf.length [D.int .i64 b7,D.int .i64 (IntKind.i64.wrap (b7+1)),D.str y1,D.sl (y3.1.map tx),D.str y5,D.str y7,D.int .i64 (IntKind.i64.wrap ((IntKind.i64.wrap (y3.2+1))+1)),D.sl (y9.1.map aI.c)]) (some fE)]⟩) hΓ C4 (by kernel_rfl) (ow (show(decide (((bf.length:Int):Int)<((bf.map Node.c++(AS::bg.map Node.c)).length:Int)))=true from(Cz _ _ _)) (ow (show(bf.length:Int)=((bf.length:Nat):Int)/\bf.length<(bf.map Node.c++(AS::bg.map Node.c)).length from⟨rfl,by simp only[AU,B7,Ba,B6,AT,B5,AS,CI,CH,BZ,CG,B4,BY,CF,bZ,aX,aZ,aL];omega⟩) (ow (show(bf.map Node.c++(AS::bg.map Node.c))[bf.length]?=some AS from by(try simp only[AU,B7,Ba,B6,AT,B5,AS,CI,CH,BZ,CG,B4,BY,CF,cz]);exact dW _ _ _) (ow (show(bf.length:Int)=((bf.length:Nat):Int)/\bf.length<B5.length from⟨rfl,by simp only[AU,B7,Ba,B6,AT,B5,AS,CI,CH,BZ,CG,B4,BY,CF,bZ,aX,aZ,aL];omega⟩) (ow (show B5[bf.length]?=some CH from by(try simp only[AU,B7,Ba,B6,AT,B5,AS,CI,CH,BZ,CG,B4,BY,CF,cz]);exact dW _ _ _) (ow (bh h2) (ow (show(bf.length:Int)=((bf.length:Nat):Int)/\bf.length<(B5.set bf.length B6).length from⟨rfl,by simp only[AU,B7,Ba,B6,AT,B5,AS,CI,CH,BZ,CG,B4,BY,CF,bZ,aX,aZ,aL];omega⟩) (ow (show(B5.set bf.length B6)[bf.length]?=some B6 from by(try simp only[AU,B7,Ba,B6,AT,B5,AS,CI,CH,BZ,CG,B4,BY,CF,cz]);exact dW _ _ _) (ow (show(bf.length:Int)=((bf.length:Nat):Int)/\bf.length<Ba.length from⟨rfl,by simp only[AU,B7,Ba,B6,AT,B5,AS,CI,CH,BZ,CG,B4,BY,CF,bZ,aX,aZ,aL];omega⟩) (ow (show Ba[bf.length]?=some CI from by(try simp only[AU,B7,Ba,B6,AT,B5,AS,CI,CH,BZ,CG,B4,BY,CF,cz]);exact dW _ _ _) (ow (show∀q∈(bD.cond.pat.args.map tx),q.length=1 from by simp) (ow (iR h4) (ow (show(Ba.set bf.length BY)[bf.length]?=some BY from by(try simp only[AU,B7,Ba,B6,AT,B5,AS,CI,CH,BZ,CG,B4,BY,CF,cz]);exact dW _ _ _) (ow (show(bf.length*8+3)=bf.length*8+3 from rfl) (ow (bh h6) (ow (show(bf.length:Int)=((bf.length:Nat):Int)/\bf.length<B7.length from⟨rfl,by simp only[AU,B7,Ba,B6,AT,B5,AS,CI,CH,BZ,CG,B4,BY,CF,bZ,aX,aZ,aL];omega⟩) (ow (show B7[bf.length]?=some CG from by(try simp only[AU,B7,Ba,B6,AT,B5,AS,CI,CH,BZ,CG,B4,BY,CF,cz]);exact dW _ _ _) (ow (bh h8) (ow (show(bf.length:Int)=((bf.length:Nat):Int)/\bf.length<(B7.set bf.length B4).length from⟨rfl,by simp only[AU,B7,Ba,B6,AT,B5,AS,CI,CH,BZ,CG,B4,BY,CF,bZ,aX,aZ,aL];omega⟩) (ow (show(B7.set bf.length B4)[bf.length]?=some B4 from by(try simp only[AU,B7,Ba,B6,AT,B5,AS,CI,CH,BZ,CG,B4,BY,CF,cz]);exact dW _ _ _) (ow (show(bf.length:Int)=((bf.length:Nat):Int)/\bf.length<AU.length from⟨rfl,by simp only[AU,B7,Ba,B6,AT,B5,AS,CI,CH,BZ,CG,B4,BY,CF,bZ,aX,aZ,aL];omega⟩) (ow (show AU[bf.length]?=some CF from by(try simp only[AU,B7,Ba,B6,AT,B5,AS,CI,CH,BZ,CG,B4,BY,CF,cz]);exact dW _ _ _) (ow (show(bf.length:Int)=((bf.length:Nat):Int)/\bf.length<(AU.set bf.length AT).length from⟨rfl,by simp only[AU,B7,Ba,B6,AT,B5,AS,CI,CH,BZ,CG,B4,BY,CF,bZ,aX,aZ,aL];omega⟩) (ow (show(AU.set bf.length AT)[bf.length]?=some AT from by(try simp only[AU,B7,Ba,B6,AT,B5,AS,CI,CH,BZ,CG,B4,BY,CF,cz]);exact dW _ _ _) (ow (show∀q∈(bD.tokens.map aI.c),q.length=2 from by simp) (ow (EV h10) (ow (show((AU.set bf.length AT).set bf.length BZ)[bf.length]?=some BZ from by(try simp only[AU,B7,Ba,B6,AT,B5,AS,CI,CH,BZ,CG,B4,BY,CF,cz]);exact dW _ _ _) (ow (show(bf.length*8+7)=bf.length*8+7 from rfl) D9)))))))))))))))))))))))))))) ?_;refine(congrFun bn _).mpr ?_;rw[zb (by simp only[aL]at hm1;omega)];simp only[AU,B7,Ba,B6,AT,B5,AS,CI,CH,BZ,CG,B4,BY,CF,cz];simp only[bS,bH,bX,bY,dO,cH,aX,aL,bK]at t⊢
  exact t
theorem FZ{aB:az}{aV:Int}{r:az×Int}(h:tA aB aV=some r):s7 prog 60 [D.acc 0,D.int .i64 aV] [(8,aB.map Node.c)] [(8,r.1.map Node.c)] (D.int .i64 r.2):=by
 refine s7.of (c:=jw f60) func60 rfl (by decide) (by simp[f60]) rfl rfl ?_;intro hr Γ hΓ vs hvs
 match vs,hvs with
 | [fE],_=>
 have hΓ:Γ.nt=79:=hΓ;rw[tA]at h;refine(show AW prog Γ (jw f60) (KQ prog Γ (fun _ _=>False) (vH prog f60 [fE] [(8,r.1.map Node.c)] (D.int .i64 r.2)) []) _ from ?_);refine fT (n:=2000) 1 [.cn [0,1,5] [0]] (.lp (lc f60 [1,0,1,0,0]) (AL f60 [1,0,1,0]) ⟨[(0,D.acc 0),(1,D.int .i64 aV),(5,D.int .i64 0)],[Ob.fD 8 (aB.map Node.c) (some fE)]⟩) hΓ C4 (by kernel_rfl) D9 (xF (by rfl) (yU (Gw hΓ (fun bO cK h=>?_) aB [] aV (by have:=hr _ (aC (i:=0) rfl);simpa using this) h)));have h:=aG h;subst h;exact fT (n:=2000) 1 [] (.ret (D.iF [D.int .i64 cK,D.agg [D.fr 0 8 (bO.map Node.c),D.val fE]])) hΓ C4 (by kernel_rfl) D9 rfl
def kL(aB:aF)(aV:Int):Option (aF×Int):=((tC aB.rules aV).bind fun y1=>((uM aB.ends y1.2).bind fun y3=>((rA aB.ay y3.2).bind fun y5=>((tA aB.nodes y5.2).bind fun y7=>((nD aB.facts y7.2).bind fun y9=>(some ((⟨y1.1,y3.1,y5.1,y7.1,y9.1,aB.cL⟩:aF),y9.2)))))))
theorem yE{aB:aF}{aV:Int}{r:aF×Int}(h:kL aB aV=some r):s7 prog 19 [D.agg [D.acc 0,D.acc 1,D.acc 2,D.acc 3,D.acc 4,D.int .i64 aB.cL],D.int .i64 aV] [(4,aB.rules.map aO.c),(1,aB.ends.map di),(3,aB.ay.map aQ.c),(8,aB.nodes.map Node.c),(2,aB.facts.map aE.c)] [(4,r.1.rules.map aO.c),(1,r.1.ends.map di),(3,r.1.ay.map aQ.c),(8,r.1.nodes.map Node.c),(2,r.1.facts.map aE.c)] (D.int .i64 r.2):=by
 refine s7.of (c:=jw f19) func19 rfl (by decide) (by simp[f19]) rfl rfl ?_;intro hr Γ hΓ vs hvs
 match vs,hvs with
 | [fE,v1_,v2_,v3_,v4_],_=>
 have hΓ:Γ.nt=26:=hΓ;rw[kL]at h;refine(show AW prog Γ (jw f19) (KQ prog Γ (fun _ _=>False) (vH prog f19 [fE,v1_,v2_,v3_,v4_] [(4,r.1.rules.map aO.c),(1,r.1.ends.map di),(3,r.1.ay.map aQ.c),(8,r.1.nodes.map Node.c),(2,r.1.facts.map aE.c)] (D.int .i64 r.2)) []) _ from ?_);obtain⟨y1,h2,h⟩:=aD h;obtain⟨y3,h4,h⟩:=aD h;obtain⟨y5,h6,h⟩:=aD h;obtain⟨y7,h8,h⟩:=aD h;obtain⟨y9,h10,h⟩:=aD h;have h:=aG h;subst h;exact fT (n:=2000) 5 [.gv [0] [(4,y1.1.map aO.c)] (D.int .i64 y1.2),.gv [1] [(1,y3.1.map di)] (D.int .i64 y3.2),.gv [2] [(3,y5.1.map aQ.c)] (D.int .i64 y5.2),.gv [3] [(8,y7.1.map Node.c)] (D.int .i64 y7.2),.gv [4] [(2,y9.1.map aE.c)] (D.int .i64 y9.2)] (.ret (D.iF [D.int .i64 y9.2,D.agg [D.fr 0 4 (y1.1.map aO.c),D.val fE],D.agg [D.fr 0 1 (y3.1.map di),D.val v1_],D.agg [D.fr 0 3 (y5.1.map aQ.c),D.val v2_],D.agg [D.fr 0 8 (y7.1.map Node.c),D.val v3_],D.agg [D.fr 0 2 (y9.1.map aE.c),D.val v4_]])) hΓ C4 (by kernel_rfl) (ow (Fb h2) (ow (Gv h4) (ow (ET h6) (ow (FZ h8) (ow (vP h10) D9))))) rfl
def qj(aB:aE)(aV:Int):Option (aE×Int):=((fQ aB.args aV).bind fun y1=>(some ((⟨aB.rel,y1.1⟩:aE),y1.2)))
theorem Gu{aB:aE}{aV:Int}{r:aE×Int}(h:qj aB aV=some r):s7 prog 28 [D.agg [D.str aB.rel,D.acc 0],D.int .i64 aV] [(1,aB.args.map tx)] [(1,r.1.args.map tx)] (D.int .i64 r.2):=by
 refine s7.of (c:=jw f28) func28 rfl (by decide) (by simp[f28]) rfl rfl ?_;intro hr Γ hΓ vs hvs
 match vs,hvs with
 | [fE],_=>
 have hΓ:Γ.nt=10:=hΓ;rw[qj]at h;refine(show AW prog Γ (jw f28) (KQ prog Γ (fun _ _=>False) (vH prog f28 [fE] [(1,r.1.args.map tx)] (D.int .i64 r.2)) []) _ from ?_);obtain⟨y1,h2,h⟩:=aD h;have h:=aG h;subst h;exact fT (n:=2000) 1 [.gv [0] [(1,y1.1.map tx)] (D.int .i64 y1.2)] (.ret (D.iF [D.int .i64 y1.2,D.agg [D.fr 0 1 (y1.1.map tx),D.val fE]])) hΓ C4 (by kernel_rfl) (ow (iR h2) D9) rfl
end Go.Cx
namespace Go.Cx
open Go.RowKit Go.Proofs Tryz
set_option maxRecDepth 100000
variable{Γ:vY}{N:Nat->St->Prop}
def fW(aB:aJ)(k1:Int->Option Int):aJ->Nat->Int->Option Int
 | [],i1,b7=>(k1 b7)
 |bD::bg,i1,b7=>((cB b7).bind fun RI=>(bif !((bD:Bytes)==RI)then(some (-1))else(fW aB k1 bg (i1+1) (IntKind.i64.wrap (b7+1)))))
def gV(aB:aJ)(aV:Int):Option Int:=(fW aB (fun(cK:Int)=>(some cK)) aB 0 aV)
def FV(aB:aJ)(b7:Int)(cT:Int):St:=⟨[(0,D.sl (aB.map tx)),(1,D.int .i64 b7),(5,D.int .i64 cT)],[]⟩
theorem EQ(hΓ:Γ.nt=22){aB:aJ}{r:Int}{k1:Int->Option Int}(cY:∀(cK:Int),k1 cK=some r->Ax Γ N f122 (.q [[none]] (D.int .i64 r)) [1,1] ⟨[(1,D.int .i64 cK)],[]⟩)(hm1:aB.length<=maxLen):∀(rest:aJ) (i1:Nat) (b7:Int),aB.drop i1=rest->fW aB k1 rest i1 b7=some r->Ar Γ N f122 (.q [[none]] (D.int .i64 r)) [1,0,1,0] (rest.length+1) (FV aB b7 (i1:Int)):=by
 intro rest
 induction rest with
 |nil=>
  intro i1 b7 aq h;rw[fW]at h;refine aM fun N1 bw bn=>?_
  exact((aU.ge tx aq).a [.hl 0 [1] []]).ex hΓ bw (cY b7 h)
 |cons bD bg ih1=>
  intro i1 b7 aq h;rw[fW]at h;refine aM fun N1 bw bn=>?_
  obtain⟨RI,h22,h⟩:=aD h;have dH:=((((aU.lt tx aq).a [.n 6]).l (av tx 1 (dc aq) rfl)).g (bh h22))
  obtain⟨h23,h⟩|⟨h23,h⟩:=aK h
  ·cases h;exact(dH.b h23).ret hΓ
  ·exact((dH.b h23).a [.cn [0,1,5] []]).ct hΓ bn (iS aq hm1) (ih1 (i1+1) (IntKind.i64.wrap (b7+1)) (dn aq) h)
theorem kr{aB:aJ}{aV:Int}{r:Int}(h:gV aB aV=some r):Good prog 122 [D.sl (aB.map tx),D.int .i64 aV] (D.int .i64 r):=by
 refine gd func122 [[none]] 22 fun hr Γ hΓ=>?_
 rw[gV]at h;refine(aU.a [.cn [0,1,5] []]).lp hΓ (EQ hΓ (fun cK h=>?_) (by have:=(dU.sl (hr _ (aC (i:=0) rfl))).1;simpa using this) aB 0 aV rfl h);have h:=aG h;subst h;exact aU.ret hΓ
def gw(aB:aj)(k1:Int->Option Int):aj->Nat->Int->Option Int
 | [],i1,b7=>(k1 b7)
 |bD::bg,i1,b7=>(bif (bD.kind:Int) != b7 then(some (-1))else((cB (IntKind.i64.wrap (b7+1))).bind fun y62=>(bif !((bD.pat.rel:Bytes)==y62)then(some (-1))else((gV bD.pat.args (IntKind.i64.wrap ((IntKind.i64.wrap (b7+1))+1))).bind fun y65=>(bif decide ((y65:Int)<0)then(some (-1))else((cB y65).bind fun y68=>(bif !((bD.left:Bytes)==y68)then(some (-1))else((cB (IntKind.i64.wrap (y65+1))).bind fun y71=>(bif !((bD.right:Bytes)==y71)then(some (-1))else(gw aB k1 bg (i1+1) (IntKind.i64.wrap ((IntKind.i64.wrap (y65+1))+1))))))))))))
def su(aB:aj)(aV:Int):Option Int:=(gw aB (fun(cK:Int)=>(some cK)) aB 0 aV)
def J2(aB:aj)(b7:Int)(cT:Int):St:=⟨[(0,D.sl (aB.map aN.c)),(1,D.int .i64 b7),(5,D.int .i64 cT)],[]⟩
theorem Gk(hΓ:Γ.nt=63){aB:aj}{r:Int}{k1:Int->Option Int}(cY:∀(cK:Int),k1 cK=some r->Ax Γ N f120 (.q [[none]] (D.int .i64 r)) [1,1] ⟨[(1,D.int .i64 cK)],[]⟩)(hm1:aB.length<=maxLen):∀(rest:aj) (i1:Nat) (b7:Int),aB.drop i1=rest->gw aB k1 rest i1 b7=some r->Ar Γ N f120 (.q [[none]] (D.int .i64 r)) [1,0,1,0] (rest.length+1) (J2 aB b7 (i1:Int)):=by
 intro rest
 induction rest with
 |nil=>
  intro i1 b7 aq h;rw[gw]at h;refine aM fun N1 bw bn=>?_
  exact((aU.ge aN.c aq).a [.hl 0 [1] []]).ex hΓ bw (cY b7 h)
 |cons bD bg ih1=>
  intro i1 b7 aq h;rw[gw]at h;refine aM fun N1 bw bn=>?_
  have wL:=((aU.lt aN.c aq).l (av aN.c 5 (dc aq) rfl))
  obtain⟨h61,h⟩|⟨h61,h⟩:=aK h
  ·cases h;exact(wL.b h61).ret hΓ
  ·obtain⟨y62,h63,h⟩:=aD h;have AM:=((((wL.b h61).a [.n 8]).l (av aN.c 5 (dc aq) rfl)).g (bh h63))
   obtain⟨h64,h⟩|⟨h64,h⟩:=aK h
   ·cases h;exact(AM.b h64).ret hΓ
   ·obtain⟨y65,h66,h⟩:=aD h;have D7:=(((AM.b h64).l (av aN.c 5 (dc aq) rfl)).g (kr h66))
    obtain⟨h67,h⟩|⟨h67,h⟩:=aK h
    ·cases h;exact(D7.b h67).ret hΓ
    ·obtain⟨y68,h69,h⟩:=aD h;have Hz:=((((D7.b h67).a [.n 7]).l (av aN.c 5 (dc aq) rfl)).g (bh h69))
     obtain⟨h70,h⟩|⟨h70,h⟩:=aK h
     ·cases h;exact(Hz.b h70).ret hΓ
     ·obtain⟨y71,h72,h⟩:=aD h;have yj:=((((Hz.b h70).a [.n 7]).l (av aN.c 5 (dc aq) rfl)).g (bh h72))
      obtain⟨h73,h⟩|⟨h73,h⟩:=aK h
      ·cases h;exact(yj.b h73).ret hΓ
      ·exact((yj.b h73).a [.cn [0,1,5] []]).ct hΓ bn (iS aq hm1) (ih1 (i1+1) (IntKind.i64.wrap ((IntKind.i64.wrap (y65+1))+1)) (dn aq) h)
theorem FR{aB:aj}{aV:Int}{r:Int}(h:su aB aV=some r):Good prog 120 [D.sl (aB.map aN.c),D.int .i64 aV] (D.int .i64 r):=by
 refine gd func120 [[none]] 63 fun hr Γ hΓ=>?_
 rw[su]at h;refine(aU.a [.cn [0,1,5] []]).lp hΓ (Gk hΓ (fun cK h=>?_) (by have:=(dU.sl (hr _ (aC (i:=0) rfl))).1;simpa using this) aB 0 aV rfl h);have h:=aG h;subst h;exact aU.ret hΓ
def fV(aB:bz)(k1:Int->Option Int):bz->Nat->Int->Option Int
 | [],i1,b7=>(k1 b7)
 |bD::bg,i1,b7=>(bif (bD.kind:Int) != b7 then(some (-1))else((cB (IntKind.i64.wrap (b7+1))).bind fun Nz=>(bif !((bD.pat.rel:Bytes)==Nz)then(some (-1))else((gV bD.pat.args (IntKind.i64.wrap ((IntKind.i64.wrap (b7+1))+1))).bind fun o4=>(bif decide ((o4:Int)<0)then(some (-1))else(fV aB k1 bg (i1+1) o4))))))
def qC(aB:bz)(aV:Int):Option Int:=(fV aB (fun(cK:Int)=>(some cK)) aB 0 aV)
def FP(aB:bz)(b7:Int)(cT:Int):St:=⟨[(0,D.sl (aB.map Action.c)),(1,D.int .i64 b7),(5,D.int .i64 cT)],[]⟩
theorem EO(hΓ:Γ.nt=43){aB:bz}{r:Int}{k1:Int->Option Int}(cY:∀(cK:Int),k1 cK=some r->Ax Γ N f121 (.q [[none]] (D.int .i64 r)) [1,1] ⟨[(1,D.int .i64 cK)],[]⟩)(hm1:aB.length<=maxLen):∀(rest:bz) (i1:Nat) (b7:Int),aB.drop i1=rest->fV aB k1 rest i1 b7=some r->Ar Γ N f121 (.q [[none]] (D.int .i64 r)) [1,0,1,0] (rest.length+1) (FP aB b7 (i1:Int)):=by
 intro rest
 induction rest with
 |nil=>
  intro i1 b7 aq h;rw[fV]at h;refine aM fun N1 bw bn=>?_
  exact((aU.ge Action.c aq).a [.hl 0 [1] []]).ex hΓ bw (cY b7 h)
 |cons bD bg ih1=>
  intro i1 b7 aq h;rw[fV]at h;refine aM fun N1 bw bn=>?_
  have iU:=((aU.lt Action.c aq).l (av Action.c 3 (dc aq) rfl))
  obtain⟨h37,h⟩|⟨h37,h⟩:=aK h
  ·cases h;exact(iU.b h37).ret hΓ
  ·obtain⟨Nz,h39,h⟩:=aD h;have tX:=((((iU.b h37).a [.n 8]).l (av Action.c 3 (dc aq) rfl)).g (bh h39))
   obtain⟨h40,h⟩|⟨h40,h⟩:=aK h
   ·cases h;exact(tX.b h40).ret hΓ
   ·obtain⟨o4,h42,h⟩:=aD h;have wL:=(((tX.b h40).l (av Action.c 3 (dc aq) rfl)).g (kr h42))
    obtain⟨h43,h⟩|⟨h43,h⟩:=aK h
    ·cases h;exact(wL.b h43).ret hΓ
    ·exact((wL.b h43).a [.cn [0,1,5] []]).ct hΓ bn (iS aq hm1) (ih1 (i1+1) o4 (dn aq) h)
theorem DR{aB:bz}{aV:Int}{r:Int}(h:qC aB aV=some r):Good prog 121 [D.sl (aB.map Action.c),D.int .i64 aV] (D.int .i64 r):=by
 refine gd func121 [[none]] 43 fun hr Γ hΓ=>?_
 rw[qC]at h;refine(aU.a [.cn [0,1,5] []]).lp hΓ (EO hΓ (fun cK h=>?_) (by have:=(dU.sl (hr _ (aC (i:=0) rfl))).1;simpa using this) aB 0 aV rfl h);have h:=aG h;subst h;exact aU.ret hΓ
def hG(aB:au)(k1:Int->Option Int):au->Nat->Int->Option Int
 | [],i1,b7=>(k1 b7)
 |bD::bg,i1,b7=>((cB b7).bind fun K1=>(bif !((bD.name:Bytes)==K1)then(some (-1))else(bif (bD.prio:Int) != (IntKind.i64.wrap (b7+1))then(some (-1))else((su bD.conds (IntKind.i64.wrap ((IntKind.i64.wrap (b7+1))+1))).bind fun y53=>(bif decide ((y53:Int)<0)then(some (-1))else((qC bD.cu y53).bind fun y56=>(bif decide ((y56:Int)<0)then(some (-1))else(hG aB k1 bg (i1+1) y56))))))))
def sx(aB:au)(aV:Int):Option Int:=(hG aB (fun(cK:Int)=>(some cK)) aB 0 aV)
def J7(aB:au)(b7:Int)(cT:Int):St:=⟨[(0,D.sl (aB.map aO.c)),(1,D.int .i64 b7),(5,D.int .i64 cT)],[]⟩
theorem Gq(hΓ:Γ.nt=50){aB:au}{r:Int}{k1:Int->Option Int}(cY:∀(cK:Int),k1 cK=some r->Ax Γ N f63 (.q [[none]] (D.int .i64 r)) [1,1] ⟨[(1,D.int .i64 cK)],[]⟩)(hm1:aB.length<=maxLen):∀(rest:au) (i1:Nat) (b7:Int),aB.drop i1=rest->hG aB k1 rest i1 b7=some r->Ar Γ N f63 (.q [[none]] (D.int .i64 r)) [1,0,1,0] (rest.length+1) (J7 aB b7 (i1:Int)):=by
 intro rest
 induction rest with
 |nil=>
  intro i1 b7 aq h;rw[hG]at h;refine aM fun N1 bw bn=>?_
  exact((aU.ge aO.c aq).a [.hl 0 [1] []]).ex hΓ bw (cY b7 h)
 |cons bD bg ih1=>
  intro i1 b7 aq h;rw[hG]at h;refine aM fun N1 bw bn=>?_
  obtain⟨K1,h50,h⟩:=aD h;have tX:=((((aU.lt aO.c aq).a [.n 7]).l (av aO.c 4 (dc aq) rfl)).g (bh h50))
  obtain⟨h51,h⟩|⟨h51,h⟩:=aK h
  ·cases h;exact(tX.b h51).ret hΓ
  ·have wL:=((tX.b h51).l (av aO.c 4 (dc aq) rfl))
   obtain⟨h52,h⟩|⟨h52,h⟩:=aK h
   ·cases h;exact(wL.b h52).ret hΓ
   ·obtain⟨y53,h54,h⟩:=aD h;have AM:=(((wL.b h52).l (av aO.c 4 (dc aq) rfl)).g (FR h54))
    obtain⟨h55,h⟩|⟨h55,h⟩:=aK h
    ·cases h;exact(AM.b h55).ret hΓ
    ·obtain⟨y56,h57,h⟩:=aD h;have D7:=(((AM.b h55).l (av aO.c 4 (dc aq) rfl)).g (DR h57))
     obtain⟨h58,h⟩|⟨h58,h⟩:=aK h
     ·cases h;exact(D7.b h58).ret hΓ
     ·exact((D7.b h58).a [.cn [0,1,5] []]).ct hΓ bn (iS aq hm1) (ih1 (i1+1) y56 (dn aq) h)
theorem zD{aB:au}{aV:Int}{r:Int}(h:sx aB aV=some r):Good prog 63 [D.sl (aB.map aO.c),D.int .i64 aV] (D.int .i64 r):=by
 refine gd func63 [[none]] 50 fun hr Γ hΓ=>?_
 rw[sx]at h;refine(aU.a [.cn [0,1,5] []]).lp hΓ (Gq hΓ (fun cK h=>?_) (by have:=(dU.sl (hr _ (aC (i:=0) rfl))).1;simpa using this) aB 0 aV rfl h);have h:=aG h;subst h;exact aU.ret hΓ
def iq(aB:bJ)(k1:Int->Option Int):bJ->Nat->Int->Option Int
 | [],i1,b7=>(k1 b7)
 |bD::bg,i1,b7=>(bif (bD:Int) != b7 then(some (-1))else(iq aB k1 bg (i1+1) (IntKind.i64.wrap (b7+1))))
def uL(aB:bJ)(aV:Int):Option Int:=(iq aB (fun(cK:Int)=>(some cK)) aB 0 aV)
def Kz(aB:bJ)(b7:Int)(cT:Int):St:=⟨[(0,D.sl (aB.map di)),(1,D.int .i64 b7),(5,D.int .i64 cT)],[]⟩
theorem J4(hΓ:Γ.nt=21){aB:bJ}{r:Int}{k1:Int->Option Int}(cY:∀(cK:Int),k1 cK=some r->Ax Γ N f64 (.q [[none]] (D.int .i64 r)) [1,1] ⟨[(1,D.int .i64 cK)],[]⟩)(hm1:aB.length<=maxLen):∀(rest:bJ) (i1:Nat) (b7:Int),aB.drop i1=rest->iq aB k1 rest i1 b7=some r->Ar Γ N f64 (.q [[none]] (D.int .i64 r)) [1,0,1,0] (rest.length+1) (Kz aB b7 (i1:Int)):=by
 intro rest
 induction rest with
 |nil=>
  intro i1 b7 aq h;rw[iq]at h;refine aM fun N1 bw bn=>?_
  exact((aU.ge di aq).a [.hl 0 [1] []]).ex hΓ bw (cY b7 h)
 |cons bD bg ih1=>
  intro i1 b7 aq h;rw[iq]at h;refine aM fun N1 bw bn=>?_
  have dH:=((aU.lt di aq).l (av di 1 (dc aq) rfl))
  obtain⟨h13,h⟩|⟨h13,h⟩:=aK h
  ·cases h;exact(dH.b h13).ret hΓ
  ·exact((dH.b h13).a [.cn [0,1,5] []]).ct hΓ bn (iS aq hm1) (ih1 (i1+1) (IntKind.i64.wrap (b7+1)) (dn aq) h)
theorem Gm{aB:bJ}{aV:Int}{r:Int}(h:uL aB aV=some r):Good prog 64 [D.sl (aB.map di),D.int .i64 aV] (D.int .i64 r):=by
 refine gd func64 [[none]] 21 fun hr Γ hΓ=>?_
 rw[uL]at h;refine(aU.a [.cn [0,1,5] []]).lp hΓ (J4 hΓ (fun cK h=>?_) (by have:=(dU.sl (hr _ (aC (i:=0) rfl))).1;simpa using this) aB 0 aV rfl h);have h:=aG h;subst h;exact aU.ret hΓ
def gx(aB:aP)(k1:Int->Option Int):aP->Nat->Int->Option Int
 | [],i1,b7=>(k1 b7)
 |bD::bg,i1,b7=>((cB b7).bind fun BR=>(bif !((bD.rel:Bytes)==BR)then(some (-1))else((gV bD.args (IntKind.i64.wrap (b7+1))).bind fun I7=>(bif decide ((I7:Int)<0)then(some (-1))else(gx aB k1 bg (i1+1) I7)))))
def nC(aB:aP)(aV:Int):Option Int:=(gx aB (fun(cK:Int)=>(some cK)) aB 0 aV)
def J3(aB:aP)(b7:Int)(cT:Int):St:=⟨[(0,D.sl (aB.map aE.c)),(1,D.int .i64 b7),(5,D.int .i64 cT)],[]⟩
theorem Gl(hΓ:Γ.nt=32){aB:aP}{r:Int}{k1:Int->Option Int}(cY:∀(cK:Int),k1 cK=some r->Ax Γ N f67 (.q [[none]] (D.int .i64 r)) [1,1] ⟨[(1,D.int .i64 cK)],[]⟩)(hm1:aB.length<=maxLen):∀(rest:aP) (i1:Nat) (b7:Int),aB.drop i1=rest->gx aB k1 rest i1 b7=some r->Ar Γ N f67 (.q [[none]] (D.int .i64 r)) [1,0,1,0] (rest.length+1) (J3 aB b7 (i1:Int)):=by
 intro rest
 induction rest with
 |nil=>
  intro i1 b7 aq h;rw[gx]at h;refine aM fun N1 bw bn=>?_
  exact((aU.ge aE.c aq).a [.hl 0 [1] []]).ex hΓ bw (cY b7 h)
 |cons bD bg ih1=>
  intro i1 b7 aq h;rw[gx]at h;refine aM fun N1 bw bn=>?_
  obtain⟨BR,h34,h⟩:=aD h;have jU:=((((aU.lt aE.c aq).a [.n 7]).l (av aE.c 2 (dc aq) rfl)).g (bh h34))
  obtain⟨h35,h⟩|⟨h35,h⟩:=aK h
  ·cases h;exact(jU.b h35).ret hΓ
  ·obtain⟨I7,h37,h⟩:=aD h;have iU:=(((jU.b h35).l (av aE.c 2 (dc aq) rfl)).g (kr h37))
   obtain⟨h38,h⟩|⟨h38,h⟩:=aK h
   ·cases h;exact(iU.b h38).ret hΓ
   ·exact((iU.b h38).a [.cn [0,1,5] []]).ct hΓ bn (iS aq hm1) (ih1 (i1+1) I7 (dn aq) h)
theorem vO{aB:aP}{aV:Int}{r:Int}(h:nC aB aV=some r):Good prog 67 [D.sl (aB.map aE.c),D.int .i64 aV] (D.int .i64 r):=by
 refine gd func67 [[none]] 32 fun hr Γ hΓ=>?_
 rw[nC]at h;refine(aU.a [.cn [0,1,5] []]).lp hΓ (Gl hΓ (fun cK h=>?_) (by have:=(dU.sl (hr _ (aC (i:=0) rfl))).1;simpa using this) aB 0 aV rfl h);have h:=aG h;subst h;exact aU.ret hΓ
def gM(aB:b8)(k1:Int->Option Int):b8->Nat->Int->Option Int
 | [],i1,b7=>(k1 b7)
 |bD::bg,i1,b7=>((cB b7).bind fun I8=>(bif !((bD.shape.rel:Bytes)==I8)then(some (-1))else((gV bD.shape.args (IntKind.i64.wrap (b7+1))).bind fun y48=>(bif decide ((y48:Int)<0)then(some (-1))else((nC bD.facts y48).bind fun y51=>(bif decide ((y51:Int)<0)then(some (-1))else(gM aB k1 bg (i1+1) y51)))))))
def qz(aB:b8)(aV:Int):Option Int:=(gM aB (fun(cK:Int)=>(some cK)) aB 0 aV)
def Gj(aB:b8)(b7:Int)(cT:Int):St:=⟨[(0,D.sl (aB.map aQ.c)),(1,D.int .i64 b7),(5,D.int .i64 cT)],[]⟩
theorem FQ(hΓ:Γ.nt=43){aB:b8}{r:Int}{k1:Int->Option Int}(cY:∀(cK:Int),k1 cK=some r->Ax Γ N f65 (.q [[none]] (D.int .i64 r)) [1,1] ⟨[(1,D.int .i64 cK)],[]⟩)(hm1:aB.length<=maxLen):∀(rest:b8) (i1:Nat) (b7:Int),aB.drop i1=rest->gM aB k1 rest i1 b7=some r->Ar Γ N f65 (.q [[none]] (D.int .i64 r)) [1,0,1,0] (rest.length+1) (Gj aB b7 (i1:Int)):=by
 intro rest
 induction rest with
 |nil=>
  intro i1 b7 aq h;rw[gM]at h;refine aM fun N1 bw bn=>?_
  exact((aU.ge aQ.c aq).a [.hl 0 [1] []]).ex hΓ bw (cY b7 h)
 |cons bD bg ih1=>
  intro i1 b7 aq h;rw[gM]at h;refine aM fun N1 bw bn=>?_
  obtain⟨I8,h46,h⟩:=aD h;have iU:=((((aU.lt aQ.c aq).a [.n 8]).l (av aQ.c 3 (dc aq) rfl)).g (bh h46))
  obtain⟨h47,h⟩|⟨h47,h⟩:=aK h
  ·cases h;exact(iU.b h47).ret hΓ
  ·obtain⟨y48,h49,h⟩:=aD h;have tX:=(((iU.b h47).l (av aQ.c 3 (dc aq) rfl)).g (kr h49))
   obtain⟨h50,h⟩|⟨h50,h⟩:=aK h
   ·cases h;exact(tX.b h50).ret hΓ
   ·obtain⟨y51,h52,h⟩:=aD h;have wL:=(((tX.b h50).l (av aQ.c 3 (dc aq) rfl)).g (vO h52))
    obtain⟨h53,h⟩|⟨h53,h⟩:=aK h
    ·cases h;exact(wL.b h53).ret hΓ
    ·exact((wL.b h53).a [.cn [0,1,5] []]).ct hΓ bn (iS aq hm1) (ih1 (i1+1) y51 (dn aq) h)
theorem EP{aB:b8}{aV:Int}{r:Int}(h:qz aB aV=some r):Good prog 65 [D.sl (aB.map aQ.c),D.int .i64 aV] (D.int .i64 r):=by
 refine gd func65 [[none]] 43 fun hr Γ hΓ=>?_
 rw[qz]at h;refine(aU.a [.cn [0,1,5] []]).lp hΓ (FQ hΓ (fun cK h=>?_) (by have:=(dU.sl (hr _ (aC (i:=0) rfl))).1;simpa using this) aB 0 aV rfl h);have h:=aG h;subst h;exact aU.ret hΓ
def gz(aB:aT)(k1:Int->Option Int):aT->Nat->Int->Option Int
 | [],i1,b7=>(k1 b7)
 |bD::bg,i1,b7=>((cB b7).bind fun BR=>(bif !((bD.var:Bytes)==BR)then(some (-1))else((cB (IntKind.i64.wrap (b7+1))).bind fun I7=>(bif !((bD.value:Bytes)==I7)then(some (-1))else(gz aB k1 bg (i1+1) (IntKind.i64.wrap ((IntKind.i64.wrap (b7+1))+1)))))))
def sw(aB:aT)(aV:Int):Option Int:=(gz aB (fun(cK:Int)=>(some cK)) aB 0 aV)
def J6(aB:aT)(b7:Int)(cT:Int):St:=⟨[(0,D.sl (aB.map aR.c)),(1,D.int .i64 b7),(5,D.int .i64 cT)],[]⟩
theorem Gp(hΓ:Γ.nt=33){aB:aT}{r:Int}{k1:Int->Option Int}(cY:∀(cK:Int),k1 cK=some r->Ax Γ N f76 (.q [[none]] (D.int .i64 r)) [1,1] ⟨[(1,D.int .i64 cK)],[]⟩)(hm1:aB.length<=maxLen):∀(rest:aT) (i1:Nat) (b7:Int),aB.drop i1=rest->gz aB k1 rest i1 b7=some r->Ar Γ N f76 (.q [[none]] (D.int .i64 r)) [1,0,1,0] (rest.length+1) (J6 aB b7 (i1:Int)):=by
 intro rest
 induction rest with
 |nil=>
  intro i1 b7 aq h;rw[gz]at h;refine aM fun N1 bw bn=>?_
  exact((aU.ge aR.c aq).a [.hl 0 [1] []]).ex hΓ bw (cY b7 h)
 |cons bD bg ih1=>
  intro i1 b7 aq h;rw[gz]at h;refine aM fun N1 bw bn=>?_
  obtain⟨BR,h34,h⟩:=aD h;have jU:=((((aU.lt aR.c aq).a [.n 7]).l (av aR.c 2 (dc aq) rfl)).g (bh h34))
  obtain⟨h35,h⟩|⟨h35,h⟩:=aK h
  ·cases h;exact(jU.b h35).ret hΓ
  ·obtain⟨I7,h37,h⟩:=aD h;have iU:=((((jU.b h35).a [.n 7]).l (av aR.c 2 (dc aq) rfl)).g (bh h37))
   obtain⟨h38,h⟩|⟨h38,h⟩:=aK h
   ·cases h;exact(iU.b h38).ret hΓ
   ·exact((iU.b h38).a [.cn [0,1,5] []]).ct hΓ bn (iS aq hm1) (ih1 (i1+1) (IntKind.i64.wrap ((IntKind.i64.wrap (b7+1))+1)) (dn aq) h)
theorem FU{aB:aT}{aV:Int}{r:Int}(h:sw aB aV=some r):Good prog 76 [D.sl (aB.map aR.c),D.int .i64 aV] (D.int .i64 r):=by
 refine gd func76 [[none]] 33 fun hr Γ hΓ=>?_
 rw[sw]at h;refine(aU.a [.cn [0,1,5] []]).lp hΓ (Gp hΓ (fun cK h=>?_) (by have:=(dU.sl (hr _ (aC (i:=0) rfl))).1;simpa using this) aB 0 aV rfl h);have h:=aG h;subst h;exact aU.ret hΓ
def gN(aB:ah)(k1:Int->Option Int):ah->Nat->Int->Option Int
 | [],i1,b7=>(k1 b7)
 |bD::bg,i1,b7=>((nC bD.facts b7).bind fun BR=>(bif decide ((BR:Int)<0)then(some (-1))else((sw bD.bind BR).bind fun I7=>(bif decide ((I7:Int)<0)then(some (-1))else(gN aB k1 bg (i1+1) I7)))))
def r9(aB:ah)(aV:Int):Option Int:=(gN aB (fun(cK:Int)=>(some cK)) aB 0 aV)
def Gr(aB:ah)(b7:Int)(cT:Int):St:=⟨[(0,D.sl (aB.map aI.c)),(1,D.int .i64 b7),(5,D.int .i64 cT)],[]⟩
theorem FW(hΓ:Γ.nt=31){aB:ah}{r:Int}{k1:Int->Option Int}(cY:∀(cK:Int),k1 cK=some r->Ax Γ N f123 (.q [[none]] (D.int .i64 r)) [1,1] ⟨[(1,D.int .i64 cK)],[]⟩)(hm1:aB.length<=maxLen):∀(rest:ah) (i1:Nat) (b7:Int),aB.drop i1=rest->gN aB k1 rest i1 b7=some r->Ar Γ N f123 (.q [[none]] (D.int .i64 r)) [1,0,1,0] (rest.length+1) (Gr aB b7 (i1:Int)):=by
 intro rest
 induction rest with
 |nil=>
  intro i1 b7 aq h;rw[gN]at h;refine aM fun N1 bw bn=>?_
  exact((aU.ge aI.c aq).a [.hl 0 [1] []]).ex hΓ bw (cY b7 h)
 |cons bD bg ih1=>
  intro i1 b7 aq h;rw[gN]at h;refine aM fun N1 bw bn=>?_
  obtain⟨BR,h34,h⟩:=aD h;have jU:=(((aU.lt aI.c aq).l (av aI.c 2 (dc aq) rfl)).g (vO h34))
  obtain⟨h35,h⟩|⟨h35,h⟩:=aK h
  ·cases h;exact(jU.b h35).ret hΓ
  ·obtain⟨I7,h37,h⟩:=aD h;have iU:=(((jU.b h35).l (av aI.c 2 (dc aq) rfl)).g (FU h37))
   obtain⟨h38,h⟩|⟨h38,h⟩:=aK h
   ·cases h;exact(iU.b h38).ret hΓ
   ·exact((iU.b h38).a [.cn [0,1,5] []]).ct hΓ bn (iS aq hm1) (ih1 (i1+1) I7 (dn aq) h)
theorem ER{aB:ah}{aV:Int}{r:Int}(h:r9 aB aV=some r):Good prog 123 [D.sl (aB.map aI.c),D.int .i64 aV] (D.int .i64 r):=by
 refine gd func123 [[none]] 31 fun hr Γ hΓ=>?_
 rw[r9]at h;refine(aU.a [.cn [0,1,5] []]).lp hΓ (FW hΓ (fun cK h=>?_) (by have:=(dU.sl (hr _ (aC (i:=0) rfl))).1;simpa using this) aB 0 aV rfl h);have h:=aG h;subst h;exact aU.ret hΓ
def gy(aB:az)(k1:Int->Option Int):az->Nat->Int->Option Int
 | [],i1,b7=>(k1 b7)
 |bD::bg,i1,b7=>(bif (bD.parent:Int) != b7 then(some (-1))else(bif (bD.cond.kind:Int) != (IntKind.i64.wrap (b7+1))then(some (-1))else((cB (IntKind.i64.wrap ((IntKind.i64.wrap (b7+1))+1))).bind fun y83=>(bif !((bD.cond.pat.rel:Bytes)==y83)then(some (-1))else((gV bD.cond.pat.args (IntKind.i64.wrap ((IntKind.i64.wrap ((IntKind.i64.wrap (b7+1))+1))+1))).bind fun y86=>(bif decide ((y86:Int)<0)then(some (-1))else((cB y86).bind fun y89=>(bif !((bD.cond.left:Bytes)==y89)then(some (-1))else((cB (IntKind.i64.wrap (y86+1))).bind fun y92=>(bif !((bD.cond.right:Bytes)==y92)then(some (-1))else(bif (bD.cP:Int) != (IntKind.i64.wrap ((IntKind.i64.wrap (y86+1))+1))then(some (-1))else((r9 bD.tokens (IntKind.i64.wrap ((IntKind.i64.wrap ((IntKind.i64.wrap (y86+1))+1))+1))).bind fun Ys=>(bif decide ((Ys:Int)<0)then(some (-1))else(gy aB k1 bg (i1+1) Ys))))))))))))))
def sv(aB:az)(aV:Int):Option Int:=(gy aB (fun(cK:Int)=>(some cK)) aB 0 aV)
def J5(aB:az)(b7:Int)(cT:Int):St:=⟨[(0,D.sl (aB.map Node.c)),(1,D.int .i64 b7),(5,D.int .i64 cT)],[]⟩
theorem Gn(hΓ:Γ.nt=95){aB:az}{r:Int}{k1:Int->Option Int}(cY:∀(cK:Int),k1 cK=some r->Ax Γ N f66 (.q [[none]] (D.int .i64 r)) [1,1] ⟨[(1,D.int .i64 cK)],[]⟩)(hm1:aB.length<=maxLen):∀(rest:az) (i1:Nat) (b7:Int),aB.drop i1=rest->gy aB k1 rest i1 b7=some r->Ar Γ N f66 (.q [[none]] (D.int .i64 r)) [1,0,1,0] (rest.length+1) (J5 aB b7 (i1:Int)):=by
 intro rest
 induction rest with
 |nil=>
  intro i1 b7 aq h;rw[gy]at h;refine aM fun N1 bw bn=>?_
  exact((aU.ge Node.c aq).a [.hl 0 [1] []]).ex hΓ bw (cY b7 h)
 |cons bD bg ih1=>
  intro i1 b7 aq h;rw[gy]at h;refine aM fun N1 bw bn=>?_
  have Hz:=((aU.lt Node.c aq).l (av Node.c 8 (dc aq) rfl))
  obtain⟨h81,h⟩|⟨h81,h⟩:=aK h
  ·cases h;exact(Hz.b h81).ret hΓ
  ·have yj:=((Hz.b h81).l (av Node.c 8 (dc aq) rfl))
   obtain⟨h82,h⟩|⟨h82,h⟩:=aK h
   ·cases h;exact(yj.b h82).ret hΓ
   ·obtain⟨y83,h84,h⟩:=aD h;have D1:=((((yj.b h82).a [.n 9]).l (av Node.c 8 (dc aq) rfl)).g (bh h84))
    obtain⟨h85,h⟩|⟨h85,h⟩:=aK h
    ·cases h;exact(D1.b h85).ret hΓ
    ·obtain⟨y86,h87,h⟩:=aD h;have BG:=(((D1.b h85).l (av Node.c 8 (dc aq) rfl)).g (kr h87))
     obtain⟨h88,h⟩|⟨h88,h⟩:=aK h
     ·cases h;exact(BG.b h88).ret hΓ
     ·obtain⟨y89,h90,h⟩:=aD h;have Hx:=((((BG.b h88).a [.n 8]).l (av Node.c 8 (dc aq) rfl)).g (bh h90))
      obtain⟨h91,h⟩|⟨h91,h⟩:=aK h
      ·cases h;exact(Hx.b h91).ret hΓ
      ·obtain⟨y92,h93,h⟩:=aD h;have Hy:=((((Hx.b h91).a [.n 8]).l (av Node.c 8 (dc aq) rfl)).g (bh h93))
       obtain⟨h94,h⟩|⟨h94,h⟩:=aK h
       ·cases h;exact(Hy.b h94).ret hΓ
       ·have Qw:=((Hy.b h94).l (av Node.c 8 (dc aq) rfl))
        obtain⟨h95,h⟩|⟨h95,h⟩:=aK h
        ·cases h;exact(Qw.b h95).ret hΓ
        ·obtain⟨Ys,h97,h⟩:=aD h;have Qx:=(((Qw.b h95).l (av Node.c 8 (dc aq) rfl)).g (ER h97))
         obtain⟨h98,h⟩|⟨h98,h⟩:=aK h
         ·cases h;exact(Qx.b h98).ret hΓ
         ·exact((Qx.b h98).a [.cn [0,1,5] []]).ct hΓ bn (iS aq hm1) (ih1 (i1+1) Ys (dn aq) h)
theorem FT{aB:az}{aV:Int}{r:Int}(h:sv aB aV=some r):Good prog 66 [D.sl (aB.map Node.c),D.int .i64 aV] (D.int .i64 r):=by
 refine gd func66 [[none]] 95 fun hr Γ hΓ=>?_
 rw[sv]at h;refine(aU.a [.cn [0,1,5] []]).lp hΓ (Gn hΓ (fun cK h=>?_) (by have:=(dU.sl (hr _ (aC (i:=0) rfl))).1;simpa using this) aB 0 aV rfl h);have h:=aG h;subst h;exact aU.ret hΓ
def kK(aB:aF)(aV:Int):Option Int:=((sx aB.rules aV).bind fun y1=>(bif decide ((y1:Int)<0)then(some (-1))else((uL aB.ends y1).bind fun y4=>(bif decide ((y4:Int)<0)then(some (-1))else((qz aB.ay y4).bind fun y7=>(bif decide ((y7:Int)<0)then(some (-1))else((sv aB.nodes y7).bind fun Oj=>(bif decide ((Oj:Int)<0)then(some (-1))else((nC aB.facts Oj).bind fun s8=>(bif decide ((s8:Int)<0)then(some (-1))else(some s8)))))))))))
theorem iQ{aB:aF}{aV:Int}{r:Int}(h:kK aB aV=some r):Good prog 21 [D.agg (aF.c aB),D.int .i64 aV] (D.int .i64 r):=by
 refine gd func21 [[none]] 36 fun hr Γ hΓ=>?_
 rw[kK]at h;obtain⟨y1,h2,h⟩:=aD h;obtain⟨h3,h⟩|⟨h3,h⟩:=aK h
 ·cases h;exact((aU.g (zD h2)).b h3).ret hΓ
 ·obtain⟨y4,h5,h⟩:=aD h;have k7:=(((aU.g (zD h2)).b h3).g (Gm h5))
  obtain⟨h6,h⟩|⟨h6,h⟩:=aK h
  ·cases h;exact(k7.b h6).ret hΓ
  ·obtain⟨y7,h8,h⟩:=aD h;have dH:=((k7.b h6).g (EP h8))
   obtain⟨h9,h⟩|⟨h9,h⟩:=aK h
   ·cases h;exact(dH.b h9).ret hΓ
   ·obtain⟨Oj,h11,h⟩:=aD h;have jU:=((dH.b h9).g (FT h11))
    obtain⟨h12,h⟩|⟨h12,h⟩:=aK h
    ·cases h;exact(jU.b h12).ret hΓ
    ·obtain⟨s8,h14,h⟩:=aD h;have iU:=((jU.b h12).g (vO h14))
     obtain⟨h15,h⟩|⟨h15,h⟩:=aK h
     ·cases h;exact(iU.b h15).ret hΓ
     ·have h:=aG h;subst h;exact(iU.b h15).ret hΓ
end Go.Cx
namespace Go.Cx
open Go.RowKit Go.Proofs Tryz
theorem xG.sub{a b:aS}(h:xG a)(hs:∀d∈b,d∈a):xG b:=fun d hd=>h d (hs d hd)
def iE{α:Type}(w:α->Nat)(l:List α):Nat:=(l.map w).sum
theorem uh{α:Type}(w:α->Nat)(x:α)(l:List α):iE w (x::l)=w x+iE w l:=by simp[iE]
theorem pF{α:Type}(m w:α->Nat)(l:List α)(h:∀x,m x<=6+6*w x):iE m l<=6*jy w l:=by
 induction l with
 |nil=>simp[iE]
 |cons x l ih=>rw[uh,qQ];have:=h x;omega
def zw(_:Int):Nat:=0
theorem a8e(l:bJ):(l.map zw).sum=0:=by
 induction l with
 |nil=>rfl
 |cons x l ih=>simp only[bH,List.sum_cons,ih];rfl
def PC{α:Type}(n:Nat)(mark:Int->Option (α×Int))(held:α->Int->Option Int):Prop:=∀k:Int,1<=k->k+(n:Int)<=4611686018427387904->∃x,mark k=some (x,k+(n:Int))/\held x k=some (k+(n:Int))
theorem Za(K:Bytes->Option Bytes):∀(n f:Nat) (k:Int) (v:Bytes),0<=k->k<10^n->n<f->∃s,fR K f k v=(if v.length+n<=1000 then K s else fR K f k v)/\s.length<=v.length+n:=by
 intro n
 induction n with
 |zero=>
  intro f k v h0 h1 hf;obtain⟨m,rfl⟩:∃m,f=m+1:=⟨f-1,by omega⟩
  have hk:k=0:=by simp at h1;omega
  subst hk;exact⟨v,by split<;>simp[fR],by omega⟩
 |succ n ih=>
  intro f k v h0 h1 hf;obtain⟨m,rfl⟩:∃m,f=m+1:=⟨f-1,by omega⟩
  by_cases hk:k>0
  ·have hd:k/10<10^n:=by
    have:(10:Int)^(n+1)=10^n*10:=Int.pow_succ 10 n;rw[this]at h1;exact F6 (by omega) h1
   obtain⟨s,e1,e2⟩:=ih m (k/10) ([UInt8.ofNat (IntKind.u8.wrap (IntKind.i64.wrap (48+((k:Int)%10)))).toNat]++v) (by omega) hd (by omega);refine⟨s,?_,by simp at e2;omega⟩;split
   ·rename_i hv;rw[bQ (by simp;omega)]at e1;have c1:decide (k>0)=true:=by simp[hk]
    have c2:(decide (0<=k)&&decide (0<(10:Int)))=true:=by simp[h0]
    have c3:decide (([UInt8.ofNat (IntKind.u8.wrap (IntKind.i64.wrap (48+((k:Int)%10)))).toNat]:Bytes).length+v.length<=maxLen)=true:=by unfold maxLen;simp;omega
    rw[fR,c1,aW,c2,aW,c3,aW,aW];exact e1
   ·rfl
  ·have hk0:k=0:=by omega
   subst hk0;exact⟨v,by split<;>simp[fR],by omega⟩
theorem lG(k:Int)(h0:1<=k)(h1:k<=4611686018427387904):∃s,cB k=some s:=by
 unfold cB;have c:decide ((k:Int)<=0)=false:=b9 (by omega);rw[c,af];obtain⟨s,e1,e2⟩:=Za (fun(Rj:Bytes)=>(bif decide (([109]:Bytes).length+(Rj:Bytes).length<=maxLen)then(some (([109])++Rj))else none)) 20 fuel k [] (by omega) (by omega) (by decide);rw[bQ (by simp)]at e1;have c2:decide (([109]:Bytes).length+s.length<=maxLen)=true:=by unfold maxLen;simp at e2⊢;omega
 rw[e1,c2];exact⟨_,rfl⟩
theorem Nl(l:aJ)(h:dU (.sl (l.map tx)))(v:Int)(h0:0<=v)(h1:v<=1048576):xH (pg l v) v (jy tw l):=by
 unfold pg;exact szS h h0 h1 fun v' g0 g1=>szL (w:=tw) (f:=fun x v=>some (IntKind.i64.wrap (v-(x.length:Int)))) (ja l (fun z=>some z)) (fun _ _=>rfl) (fun _ _ _ _=>by simp only[ja,aA]) l (fun x hx v g0 g1=>⟨_,rfl,by rw[a3V ((xG.row h x hx (.str x) (by simp)).str) g0 g1];omega,fun q=>by rw[a3V ((xG.row h x hx (.str x) (by simp)).str) g0 g1]at q⊢;unfold tw;omega⟩) 0 v' g0 g1
theorem No(l:aJ)(h:jy tw l<=1048576):pq l=some l:=by
 unfold pq;rw[KG (by rw[aZ];exact cS (gh _ _) h) (by decide)];exact toL (c:=tx) (f:=(fun x=>some x)) (jb l (fun q=>some q)) (fun _ _=>rfl) (fun _ _ _ _=>by simp only[jb,aA]) (fun x hx=>rfl)
theorem NI(a b:aJ):pZ a b=some (decide (a=b)):=by
 unfold pZ;exact S6 (c:=tx) (f:=(fun x y=>some (x==y))) (fun k=>mM a b k) (fun _ _=>rfl) (fun _ _ _ _=>rfl) (fun x y=>by rw[ax,bp];simp)
theorem wW(l:aJ):PC (iE (fun _=>1) l) (fQ l) gV:=by
 have key:∀(rest dn:aJ) (v:Int),1<=v->v+(iE (fun _=>1) rest:Int)<=4611686018427387904->∃rest':aJ,(∀k,fY k rest dn v=k (dn++rest') (v+(iE (fun _=>1) rest:Int)))/\∀a k i,fW a k rest' i v=k (v+(iE (fun _=>1) rest:Int)):=by
  intro rest
  induction rest with
  |nil=>intro dn v _ _;exact⟨[],fun k=>by simp[fY,iE],fun a k i=>by simp[fW,iE]⟩
  |cons x xs ih=>
   intro dn v h0 h1;rw[uh]at h1⊢;obtain⟨s1,e1⟩:=lG v (by omega) (by omega);obtain⟨rest',p1,p2⟩:=ih (dn++[s1]) (v+1) (by omega) (by omega);refine⟨s1::rest',fun k=>?_,fun a k i=>?_⟩
   ·rw[fY];simp(disch:=omega) only[yM,aA,e1];rw[p1];simp only[bY,dJ]
    congr 1
    omega
   ·rw[fW];simp(disch:=omega) only[yM,aA,cw,bP,af,gF,e1];rw[p2]
    congr 1
    omega
 intro k h0 h1;obtain⟨l',p1,p2⟩:=key l [] k h0 h1;exact⟨l',by unfold fQ;rw[p1];rfl,by unfold gV;rw[p2]⟩
theorem a03(l:bJ)(h:dU (.sl (l.map di)))(v:Int)(h0:0<=v)(h1:v<=1048576):xH (xN l v) v (jy zw l):=by
 unfold xN;exact szS h h0 h1 fun v' g0 g1=>xH.fin.eq (a8e l).symm
theorem a09(l:bJ)(h:jy zw l<=1048576):xO l=some l:=by
 unfold xO;rw[KG (by rw[aZ];exact cS (gh _ _) h) (by decide)];exact toL (c:=di) (f:=(fun x=>some x)) (nI l (fun q=>some q)) (fun _ _=>rfl) (fun _ _ _ _=>by simp only[nI,aA]) (fun x hx=>rfl)
theorem ZF(a b:bJ):xM a b=some (decide (a=b)):=by
 unfold xM;exact S6 (c:=di) (f:=(fun x y=>some (x==y))) (fun k=>pY a b k) (fun _ _=>rfl) (fun _ _ _ _=>rfl) (fun x y=>by rw[ax,bp];simp)
theorem Zf(l:bJ):PC (iE (fun _=>1) l) (uM l) uL:=by
 have key:∀(rest dn:bJ) (v:Int),1<=v->v+(iE (fun _=>1) rest:Int)<=4611686018427387904->∃rest':bJ,(∀k,ir k rest dn v=k (dn++rest') (v+(iE (fun _=>1) rest:Int)))/\∀a k i,iq a k rest' i v=k (v+(iE (fun _=>1) rest:Int)):=by
  intro rest
  induction rest with
  |nil=>intro dn v _ _;exact⟨[],fun k=>by simp[ir,iE],fun a k i=>by simp[iq,iE]⟩
  |cons x xs ih=>
   intro dn v h0 h1;rw[uh]at h1⊢;obtain⟨rest',p1,p2⟩:=ih (dn++[v]) (v+1) (by omega) (by omega);refine⟨v::rest',fun k=>?_,fun a k i=>?_⟩
   ·rw[ir];simp(disch:=omega) only[yM,aA];rw[p1];simp only[bY,dJ]
    congr 1
    omega
   ·rw[iq];simp(disch:=omega) only[yM,aA,cw,bP,af,gF];rw[p2]
    congr 1
    omega
 intro k h0 h1;obtain⟨l',p1,p2⟩:=key l [] k h0 h1;exact⟨l',by unfold uM;rw[p1];rfl,by unfold uL;rw[p2]⟩
def aE.wt(x:aE):Nat:=tw x.rel+jy tw x.args
def aE.iN(x:aE):Nat:=1+iE (fun _=>1) x.args
theorem aE.nc(x:aE):x.iN<=6+6*x.wt:=by
 unfold aE.iN aE.wt;have h0:=pF (fun _=>1) tw x.args (fun y=>by omega);omega
theorem SU(x:aE)(h:xG x.c)(v:Int)(h0:0<=v)(h1:v<=1048576):xH (rS x v) v (aE.wt x):=by
 unfold rS;refine xH.eq (n:=(tw x.rel+(jy tw x.args+0))) ?_ (by simp only[aE.wt];omega);refine xH.str (m:=(jy tw x.args+0)) ((h (.str x.rel) (by simp)).str) h0 h1 fun g1 e1=>?_
 rw[e1];have l1:v-(x.rel.length:Int)<=1048576:=by omega
 refine(Nl x.args (h (.sl (x.args.map tx)) (by simp)) _ g1 l1).sub l1 g1 (m:=0) fun r2 g2 l2=>?_
 exact xH.fin
theorem SX(x:aE)(h:aE.wt x<=1048576):lK x=some x:=by
 unfold lK;simp only[No x.args (by simp only[aE.wt]at h;omega),aA]
theorem S5(a b:aE):rQ a b=some (decide (a=b)):=by
 obtain⟨a0,a1⟩:=a;obtain⟨b0,b1⟩:=b;unfold rQ;simp only[NI,aA,fF,bne];by_cases h0:a0=b0<;>by_cases h1:a1=b1<;>simp[h0,h1]
def aE.Aa(x:aE):Nat:=iE (fun _=>1) x.args
theorem aE.Pp(x:aE):aE.Aa x<=6*aE.wt x:=by
 unfold aE.Aa aE.wt;have h0:=pF (fun _=>1) tw x.args (fun y=>by omega);omega
theorem X0(x:aE)(k:Int)(h0:1<=k)(h1:k+(aE.Aa x:Int)<=4611686018427387904):∃y:aE,qj x k=some (y,k+(aE.Aa x:Int))/\(fun _ k=>some (k+(aE.Aa x:Int))) y k=some (k+(aE.Aa x:Int))/\(⟨x.rel,y.args⟩:aE)=y:=by
 unfold aE.Aa at h1⊢;obtain⟨l1,e1,f1⟩:=wW x.args k (by omega) (by omega);refine⟨(⟨x.rel,l1⟩:aE),?_,?_,rfl⟩
 ·unfold qj;simp only[aA,e1]
  all_goals(congr 2<;>omega)
 ·rfl
theorem Ze(x:aE):PC (aE.Aa x) (qj x) (fun _ k=>some (k+(aE.Aa x:Int))):=fun k h0 h1=>by
 obtain⟨y,a,b,_⟩:=X0 x k h0 h1;exact⟨y,a,b⟩
theorem M3(l:aP)(h:dU (.sl (l.map aE.c)))(v:Int)(h0:0<=v)(h1:v<=1048576):xH (qE l v) v (jy aE.wt l):=by
 unfold qE;exact szS h h0 h1 fun v' g0 g1=>szL (w:=aE.wt) (f:=rS) (oN l (fun z=>some z)) (fun _ _=>rfl) (fun _ _ _ _=>rfl) l (fun x hx v g0 g1=>SU x (xG.row h x hx) v g0 g1) 0 v' g0 g1
theorem M4(l:aP)(h:jy aE.wt l<=1048576):qF l=some l:=by
 unfold qF;rw[KG (by rw[aZ];exact cS (gh _ _) h) (by decide)];exact toL (c:=aE.c) (f:=lK) (oS l (fun q=>some q)) (fun _ _=>rfl) (fun _ _ _ _=>rfl) (fun x hx=>SX x (by have:=iV (w:=aE.wt) hx;omega))
theorem Lm(a b:aP):qB a b=some (decide (a=b)):=by
 unfold qB;exact S6 (c:=aE.c) (f:=rQ) (fun k=>oI a b k) (fun _ _=>rfl) (fun _ _ _ _=>rfl) S5
theorem Lv(l:aP):PC (iE aE.iN l) (nD l) nC:=by
 have key:∀(rest dn:aP) (v:Int),1<=v->v+(iE aE.iN rest:Int)<=4611686018427387904->∃rest':aP,(∀k,hY k rest dn v=k (dn++rest') (v+(iE aE.iN rest:Int)))/\∀a k i,gx a k rest' i v=k (v+(iE aE.iN rest:Int)):=by
  intro rest
  induction rest with
  |nil=>intro dn v _ _;exact⟨[],fun k=>by simp[hY,iE],fun a k i=>by simp[gx,iE]⟩
  |cons x xs ih=>
   intro dn v h0 h1;rw[uh]at h1⊢;simp only[aE.iN]at h1⊢;obtain⟨s1,e1⟩:=lG v (by omega) (by omega);obtain⟨l2,e2,f2⟩:=wW x.args (v+1) (by omega) (by omega);obtain⟨rest',p1,p2⟩:=ih (dn++[(⟨s1,l2⟩:aE)]) (v+1+(iE (fun _=>1) x.args:Int)) (by omega) (by omega);refine⟨(⟨s1,l2⟩:aE)::rest',fun k=>?_,fun a k i=>?_⟩
   ·rw[hY];simp(disch:=omega) only[yM,aA,e1,e2];rw[p1];simp only[bY,dJ]
    congr 1
    omega
   ·have g0:decide ((v+1+(iE (fun _=>1) x.args:Int):Int)<0)=false:=b9 (by omega);rw[gx];simp(disch:=omega) only[yM,aA,cw,bP,af,gF,e1,f2,g0];rw[p2]
    congr 1
    omega
 intro k h0 h1;obtain⟨l',p1,p2⟩:=key l [] k h0 h1;exact⟨l',by unfold nD;rw[p1];rfl,by unfold nC;rw[p2]⟩
theorem Er(x:aE)(h:xG x.c)(v:Int)(h0:0<=v)(h1:v<=1048576):xH (nF x v) v (aE.wt x):=by
 unfold nF;refine xH.eq (n:=(tw x.rel+(jy tw x.args+0))) ?_ (by simp only[aE.wt];omega);refine xH.str (m:=(jy tw x.args+0)) ((h (.str x.rel) (by simp)).str) h0 h1 fun g1 e1=>?_
 rw[e1];have l1:v-(x.rel.length:Int)<=1048576:=by omega
 refine(Nl x.args (h (.sl (x.args.map tx)) (by simp)) _ g1 l1).sub l1 g1 (m:=0) fun r2 g2 l2=>?_
 exact xH.fin
theorem Es(x:aE)(h:aE.wt x<=1048576):nJ x=some x:=by
 unfold nJ;simp only[No x.args (by simp only[aE.wt]at h;omega),aA]
theorem Eg(a b:aE):nA a b=some (decide (a=b)):=by
 obtain⟨a0,a1⟩:=a;obtain⟨b0,b1⟩:=b;unfold nA;simp only[NI,aA,fF,bne];by_cases h0:a0=b0<;>by_cases h1:a1=b1<;>simp[h0,h1]
def aR.wt(x:aR):Nat:=tw x.var+tw x.value
def aR.iN(x:aR):Nat:=2
theorem aR.nc(x:aR):x.iN<=6+6*x.wt:=by
 unfold aR.iN aR.wt;omega
theorem a05(x:aR)(h:xG x.c)(v:Int)(h0:0<=v)(h1:v<=1048576):xH (uz x v) v (aR.wt x):=by
 unfold uz;refine xH.eq (n:=(tw x.var+(tw x.value+0))) ?_ (by simp only[aR.wt];omega);refine xH.str (m:=(tw x.value+0)) ((h (.str x.var) (by simp)).str) h0 h1 fun g1 e1=>?_
 rw[e1];have l1:v-(x.var.length:Int)<=1048576:=by omega
 refine xH.str (m:=0) ((h (.str x.value) (by simp)).str) g1 l1 fun g2 e2=>?_
 rw[e2];have l2:v-(x.var.length:Int)-(x.value.length:Int)<=1048576:=by omega
 exact xH.fin
theorem a0B(x:aR)(h:aR.wt x<=1048576):vB x=some x:=by
 unfold vB;rfl
theorem ZH(a b:aR):uw a b=some (decide (a=b)):=by
 obtain⟨a0,a1⟩:=a;obtain⟨b0,b1⟩:=b;unfold uw;simp only[aA,fF,bne];by_cases h0:a0=b0<;>by_cases h1:a1=b1<;>simp[h0,h1]
theorem XQ(l:aT)(h:dU (.sl (l.map aR.c)))(v:Int)(h0:0<=v)(h1:v<=1048576):xH (wA l v) v (jy aR.wt l):=by
 unfold wA;exact szS h h0 h1 fun v' g0 g1=>szL (w:=aR.wt) (f:=uz) (oP l (fun z=>some z)) (fun _ _=>rfl) (fun _ _ _ _=>rfl) l (fun x hx v g0 g1=>a05 x (xG.row h x hx) v g0 g1) 0 v' g0 g1
theorem XZ(l:aT)(h:jy aR.wt l<=1048576):wE l=some l:=by
 unfold wE;rw[KG (by rw[aZ];exact cS (gh _ _) h) (by decide)];exact toL (c:=aR.c) (f:=vB) (oU l (fun q=>some q)) (fun _ _=>rfl) (fun _ _ _ _=>rfl) (fun x hx=>a0B x (by have:=iV (w:=aR.wt) hx;omega))
theorem WS(a b:aT):vz a b=some (decide (a=b)):=by
 unfold vz;exact S6 (c:=aR.c) (f:=uw) (fun k=>oK a b k) (fun _ _=>rfl) (fun _ _ _ _=>rfl) ZH
theorem X2(l:aT):PC (iE aR.iN l) (tB l) sw:=by
 have key:∀(rest dn:aT) (v:Int),1<=v->v+(iE aR.iN rest:Int)<=4611686018427387904->∃rest':aT,(∀k,iB k rest dn v=k (dn++rest') (v+(iE aR.iN rest:Int)))/\∀a k i,gz a k rest' i v=k (v+(iE aR.iN rest:Int)):=by
  intro rest
  induction rest with
  |nil=>intro dn v _ _;exact⟨[],fun k=>by simp[iB,iE],fun a k i=>by simp[gz,iE]⟩
  |cons x xs ih=>
   intro dn v h0 h1;rw[uh]at h1⊢;simp only[aR.iN]at h1⊢;obtain⟨s1,e1⟩:=lG v (by omega) (by omega);obtain⟨s2,e2⟩:=lG (v+1) (by omega) (by omega);obtain⟨rest',p1,p2⟩:=ih (dn++[(⟨s1,s2⟩:aR)]) (v+1+1) (by omega) (by omega);refine⟨(⟨s1,s2⟩:aR)::rest',fun k=>?_,fun a k i=>?_⟩
   ·rw[iB];simp(disch:=omega) only[yM,aA,e1,e2];rw[p1];simp only[bY,dJ]
    congr 1
    omega
   ·rw[gz];simp(disch:=omega) only[yM,aA,cw,bP,af,gF,e1,e2];rw[p2]
    congr 1
    omega
 intro k h0 h1;obtain⟨l',p1,p2⟩:=key l [] k h0 h1;exact⟨l',by unfold tB;rw[p1];rfl,by unfold sw;rw[p2]⟩
def aN.wt(x:aN):Nat:=tw x.pat.rel+jy tw x.pat.args+tw x.left+tw x.right
def aN.iN(x:aN):Nat:=4+iE (fun _=>1) x.pat.args
theorem aN.nc(x:aN):x.iN<=6+6*x.wt:=by
 unfold aN.iN aN.wt;have h0:=pF (fun _=>1) tw x.pat.args (fun y=>by omega);omega
theorem SR(x:aN)(h:xG x.c)(v:Int)(h0:0<=v)(h1:v<=1048576):xH (rR x v) v (aN.wt x):=by
 unfold rR;refine xH.eq (n:=(aE.wt x.pat+(tw x.left+(tw x.right+0)))) ?_ (by simp only[aN.wt,aE.wt];omega);refine(Er x.pat (xG.sub h (by intro d hd;simp only[bM,sI,G6]at hd⊢;rcases hd with rfl|rfl<;>simp)) _ h0 h1).sub h1 h0 (m:=(tw x.left+(tw x.right+0))) fun r1 g1 l1=>?_
 refine xH.str (m:=(tw x.right+0)) ((h (.str x.left) (by simp)).str) g1 l1 fun g2 e2=>?_
 rw[e2];have l2:r1-(x.left.length:Int)<=1048576:=by omega
 refine xH.str (m:=0) ((h (.str x.right) (by simp)).str) g2 l2 fun g3 e3=>?_
 rw[e3];have l3:r1-(x.left.length:Int)-(x.right.length:Int)<=1048576:=by omega
 exact xH.fin
theorem SW(x:aN)(h:aN.wt x<=1048576):rT x=some x:=by
 unfold rT;simp only[Es x.pat (by simp only[aN.wt,aE.wt]at h⊢;omega),aA]
theorem S4(a b:aN):rP a b=some (decide (a=b)):=by
 obtain⟨a0,a1,a2,a3⟩:=a;obtain⟨b0,b1,b2,b3⟩:=b;unfold rP;simp only[Eg,aA,fF,bne];by_cases h0:a0=b0<;>by_cases h1:a1=b1<;>by_cases h2:a2=b2<;>by_cases h3:a3=b3<;>simp[h0,h1,h2,h3]
theorem XO(l:aj)(h:dU (.sl (l.map aN.c)))(v:Int)(h0:0<=v)(h1:v<=1048576):xH (w8 l v) v (jy aN.wt l):=by
 unfold w8;exact szS h h0 h1 fun v' g0 g1=>szL (w:=aN.wt) (f:=rR) (oM l (fun z=>some z)) (fun _ _=>rfl) (fun _ _ _ _=>rfl) l (fun x hx v g0 g1=>SR x (xG.row h x hx) v g0 g1) 0 v' g0 g1
theorem XX(l:aj)(h:jy aN.wt l<=1048576):wC l=some l:=by
 unfold wC;rw[KG (by rw[aZ];exact cS (gh _ _) h) (by decide)];exact toL (c:=aN.c) (f:=rT) (oR l (fun q=>some q)) (fun _ _=>rfl) (fun _ _ _ _=>rfl) (fun x hx=>SW x (by have:=iV (w:=aN.wt) hx;omega))
theorem WQ(a b:aj):vu a b=some (decide (a=b)):=by
 unfold vu;exact S6 (c:=aN.c) (f:=rP) (fun k=>oH a b k) (fun _ _=>rfl) (fun _ _ _ _=>rfl) S4
theorem Wz(l:aj):PC (iE aN.iN l) (sy l) su:=by
 have key:∀(rest dn:aj) (v:Int),1<=v->v+(iE aN.iN rest:Int)<=4611686018427387904->∃rest':aj,(∀k,hO k rest dn v=k (dn++rest') (v+(iE aN.iN rest:Int)))/\∀a k i,gw a k rest' i v=k (v+(iE aN.iN rest:Int)):=by
  intro rest
  induction rest with
  |nil=>intro dn v _ _;exact⟨[],fun k=>by simp[hO,iE],fun a k i=>by simp[gw,iE]⟩
  |cons x xs ih=>
   intro dn v h0 h1;rw[uh]at h1⊢;simp only[aN.iN]at h1⊢;obtain⟨s2,e2⟩:=lG (v+1) (by omega) (by omega);obtain⟨l3,e3,f3⟩:=wW x.pat.args (v+1+1) (by omega) (by omega);obtain⟨s4,e4⟩:=lG (v+1+1+(iE (fun _=>1) x.pat.args:Int)) (by omega) (by omega);obtain⟨s5,e5⟩:=lG (v+1+1+(iE (fun _=>1) x.pat.args:Int)+1) (by omega) (by omega);obtain⟨rest',p1,p2⟩:=ih (dn++[(⟨v,(⟨s2,l3⟩:aE),s4,s5⟩:aN)]) (v+1+1+(iE (fun _=>1) x.pat.args:Int)+1+1) (by omega) (by omega);refine⟨(⟨v,(⟨s2,l3⟩:aE),s4,s5⟩:aN)::rest',fun k=>?_,fun a k i=>?_⟩
   ·rw[hO];simp(disch:=omega) only[yM,aA,e2,e3,e4,e5];rw[p1];simp only[bY,dJ]
    congr 1
    omega
   ·have g0:decide ((v+1+1+(iE (fun _=>1) x.pat.args:Int):Int)<0)=false:=b9 (by omega);rw[gw];simp(disch:=omega) only[yM,aA,cw,bP,af,gF,e2,f3,e4,e5,g0];rw[p2]
    congr 1
    omega
 intro k h0 h1;obtain⟨l',p1,p2⟩:=key l [] k h0 h1;exact⟨l',by unfold sy;rw[p1];rfl,by unfold su;rw[p2]⟩
def Action.wt(x:Action):Nat:=tw x.pat.rel+jy tw x.pat.args
def Action.iN(x:Action):Nat:=2+iE (fun _=>1) x.pat.args
theorem Action.nc(x:Action):x.iN<=6+6*x.wt:=by
 unfold Action.iN Action.wt;have h0:=pF (fun _=>1) tw x.pat.args (fun y=>by omega);omega
theorem VY(x:Action)(h:xG x.c)(v:Int)(h0:0<=v)(h1:v<=1048576):xH (qk x v) v (Action.wt x):=by
 unfold qk;refine xH.eq (n:=(aE.wt x.pat+0)) ?_ (by simp only[Action.wt,aE.wt];omega);refine(Er x.pat (xG.sub h (by intro d hd;simp only[bM,sI,G6]at hd⊢;rcases hd with rfl|rfl<;>simp)) _ h0 h1).sub h1 h0 (m:=0) fun r1 g1 l1=>?_
 exact xH.fin
theorem Vb(x:Action)(h:Action.wt x<=1048576):ql x=some x:=by
 unfold ql;simp only[Es x.pat (by simp only[Action.wt,aE.wt]at h⊢;omega),aA]
theorem Uf(a b:Action):qi a b=some (decide (a=b)):=by
 obtain⟨a0,a1⟩:=a;obtain⟨b0,b1⟩:=b;unfold qi;simp only[Eg,aA,fF,bne];by_cases h0:a0=b0<;>by_cases h1:a1=b1<;>simp[h0,h1]
theorem Tr(l:bz)(h:dU (.sl (l.map Action.c)))(v:Int)(h0:0<=v)(h1:v<=1048576):xH (tD l v) v (jy Action.wt l):=by
 unfold tD;exact szS h h0 h1 fun v' g0 g1=>szL (w:=Action.wt) (f:=qk) (mN l (fun z=>some z)) (fun _ _=>rfl) (fun _ _ _ _=>rfl) l (fun x hx v g0 g1=>VY x (xG.row h x hx) v g0 g1) 0 v' g0 g1
theorem Tv(l:bz)(h:jy Action.wt l<=1048576):tH l=some l:=by
 unfold tH;rw[KG (by rw[aZ];exact cS (gh _ _) h) (by decide)];exact toL (c:=Action.c) (f:=ql) (mO l (fun q=>some q)) (fun _ _=>rfl) (fun _ _ _ _=>rfl) (fun x hx=>Vb x (by have:=iV (w:=Action.wt) hx;omega))
theorem Sz(a b:bz):sj a b=some (decide (a=b)):=by
 unfold sj;exact S6 (c:=Action.c) (f:=qi) (fun k=>mL a b k) (fun _ _=>rfl) (fun _ _ _ _=>rfl) Uf
theorem TS(l:bz):PC (iE Action.iN l) (qD l) qC:=by
 have key:∀(rest dn:bz) (v:Int),1<=v->v+(iE Action.iN rest:Int)<=4611686018427387904->∃rest':bz,(∀k,fX k rest dn v=k (dn++rest') (v+(iE Action.iN rest:Int)))/\∀a k i,fV a k rest' i v=k (v+(iE Action.iN rest:Int)):=by
  intro rest
  induction rest with
  |nil=>intro dn v _ _;exact⟨[],fun k=>by simp[fX,iE],fun a k i=>by simp[fV,iE]⟩
  |cons x xs ih=>
   intro dn v h0 h1;rw[uh]at h1⊢;simp only[Action.iN]at h1⊢;obtain⟨s2,e2⟩:=lG (v+1) (by omega) (by omega);obtain⟨l3,e3,f3⟩:=wW x.pat.args (v+1+1) (by omega) (by omega);obtain⟨rest',p1,p2⟩:=ih (dn++[(⟨v,(⟨s2,l3⟩:aE)⟩:Action)]) (v+1+1+(iE (fun _=>1) x.pat.args:Int)) (by omega) (by omega);refine⟨(⟨v,(⟨s2,l3⟩:aE)⟩:Action)::rest',fun k=>?_,fun a k i=>?_⟩
   ·rw[fX];simp(disch:=omega) only[yM,aA,e2,e3];rw[p1];simp only[bY,dJ]
    congr 1
    omega
   ·have g0:decide ((v+1+1+(iE (fun _=>1) x.pat.args:Int):Int)<0)=false:=b9 (by omega);rw[fV];simp(disch:=omega) only[yM,aA,cw,bP,af,gF,e2,f3,g0];rw[p2]
    congr 1
    omega
 intro k h0 h1;obtain⟨l',p1,p2⟩:=key l [] k h0 h1;exact⟨l',by unfold qD;rw[p1];rfl,by unfold qC;rw[p2]⟩
def aO.wt(x:aO):Nat:=tw x.name+jy aN.wt x.conds+jy Action.wt x.cu
def aO.iN(x:aO):Nat:=2+iE aN.iN x.conds+iE Action.iN x.cu
theorem aO.nc(x:aO):x.iN<=6+6*x.wt:=by
 unfold aO.iN aO.wt;have h0:=pF aN.iN aN.wt x.conds (fun y=>aN.nc y);have h1:=pF Action.iN Action.wt x.cu (fun y=>Action.nc y);omega
theorem a06(x:aO)(h:xG x.c)(v:Int)(h0:0<=v)(h1:v<=1048576):xH (v8 x v) v (aO.wt x):=by
 unfold v8;refine xH.eq (n:=(tw x.name+(jy aN.wt x.conds+(jy Action.wt x.cu+0)))) ?_ (by simp only[aO.wt];omega);refine xH.str (m:=(jy aN.wt x.conds+(jy Action.wt x.cu+0))) ((h (.str x.name) (by simp)).str) h0 h1 fun g1 e1=>?_
 rw[e1];have l1:v-(x.name.length:Int)<=1048576:=by omega
 refine(XO x.conds (h (.sl (x.conds.map aN.c)) (by simp)) _ g1 l1).sub l1 g1 (m:=(jy Action.wt x.cu+0)) fun r2 g2 l2=>?_
 refine(Tr x.cu (h (.sl (x.cu.map Action.c)) (by simp)) _ g2 l2).sub l2 g2 (m:=0) fun r3 g3 l3=>?_
 exact xH.fin
theorem a0C(x:aO)(h:aO.wt x<=1048576):vC x=some x:=by
 unfold vC;simp only[XX x.conds (by simp only[aO.wt]at h;omega),Tv x.cu (by simp only[aO.wt]at h;omega),aA]
theorem ZI(a b:aO):ux a b=some (decide (a=b)):=by
 obtain⟨a0,a1,a2,a3⟩:=a;obtain⟨b0,b1,b2,b3⟩:=b;unfold ux;simp only[Sz,WQ,aA,fF,bne];by_cases h0:a0=b0<;>by_cases h1:a1=b1<;>by_cases h2:a2=b2<;>by_cases h3:a3=b3<;>simp[h0,h1,h2,h3]
theorem XR(l:au)(h:dU (.sl (l.map aO.c)))(v:Int)(h0:0<=v)(h1:v<=1048576):xH (wB l v) v (jy aO.wt l):=by
 unfold wB;exact szS h h0 h1 fun v' g0 g1=>szL (w:=aO.wt) (f:=v8) (oQ l (fun z=>some z)) (fun _ _=>rfl) (fun _ _ _ _=>rfl) l (fun x hx v g0 g1=>a06 x (xG.row h x hx) v g0 g1) 0 v' g0 g1
theorem Xa(l:au)(h:jy aO.wt l<=1048576):wF l=some l:=by
 unfold wF;rw[KG (by rw[aZ];exact cS (gh _ _) h) (by decide)];exact toL (c:=aO.c) (f:=vC) (oV l (fun q=>some q)) (fun _ _=>rfl) (fun _ _ _ _=>rfl) (fun x hx=>a0C x (by have:=iV (w:=aO.wt) hx;omega))
theorem WT(a b:au):w5 a b=some (decide (a=b)):=by
 unfold w5;exact S6 (c:=aO.c) (f:=ux) (fun k=>oL a b k) (fun _ _=>rfl) (fun _ _ _ _=>rfl) ZI
theorem X3(l:au):PC (iE aO.iN l) (tC l) sx:=by
 have key:∀(rest dn:au) (v:Int),1<=v->v+(iE aO.iN rest:Int)<=4611686018427387904->∃rest':au,(∀k,iC k rest dn v=k (dn++rest') (v+(iE aO.iN rest:Int)))/\∀a k i,hG a k rest' i v=k (v+(iE aO.iN rest:Int)):=by
  intro rest
  induction rest with
  |nil=>intro dn v _ _;exact⟨[],fun k=>by simp[iC,iE],fun a k i=>by simp[hG,iE]⟩
  |cons x xs ih=>
   intro dn v h0 h1;rw[uh]at h1⊢;simp only[aO.iN]at h1⊢;obtain⟨s1,e1⟩:=lG v (by omega) (by omega);obtain⟨l3,e3,f3⟩:=Wz x.conds (v+1+1) (by omega) (by omega);obtain⟨l4,e4,f4⟩:=TS x.cu (v+1+1+(iE aN.iN x.conds:Int)) (by omega) (by omega);obtain⟨rest',p1,p2⟩:=ih (dn++[(⟨s1,(v+1),l3,l4⟩:aO)]) (v+1+1+(iE aN.iN x.conds:Int)+(iE Action.iN x.cu:Int)) (by omega) (by omega);refine⟨(⟨s1,(v+1),l3,l4⟩:aO)::rest',fun k=>?_,fun a k i=>?_⟩
   ·rw[iC];simp(disch:=omega) only[yM,aA,e1,e3,e4];rw[p1];simp only[bY,dJ]
    congr 1
    omega
   ·have g0:decide ((v+1+1+(iE aN.iN x.conds:Int):Int)<0)=false:=b9 (by omega);have g1:decide ((v+1+1+(iE aN.iN x.conds:Int)+(iE Action.iN x.cu:Int):Int)<0)=false:=b9 (by omega);rw[hG];simp(disch:=omega) only[yM,aA,cw,bP,af,gF,e1,f3,f4,g0,g1];rw[p2]
    congr 1
    omega
 intro k h0 h1;obtain⟨l',p1,p2⟩:=key l [] k h0 h1;exact⟨l',by unfold tC;rw[p1];rfl,by unfold sx;rw[p2]⟩
def aI.wt(x:aI):Nat:=jy aE.wt x.facts+jy aR.wt x.bind
def aI.iN(x:aI):Nat:=0+iE aE.iN x.facts+iE aR.iN x.bind
theorem aI.nc(x:aI):x.iN<=6+6*x.wt:=by
 unfold aI.iN aI.wt;have h0:=pF aE.iN aE.wt x.facts (fun y=>aE.nc y);have h1:=pF aR.iN aR.wt x.bind (fun y=>aR.nc y);omega
theorem XS(x:aI)(h:xG x.c)(v:Int)(h0:0<=v)(h1:v<=1048576):xH (tG x v) v (aI.wt x):=by
 unfold tG;refine xH.eq (n:=(jy aE.wt x.facts+(jy aR.wt x.bind+0))) ?_ (by simp only[aI.wt];omega);refine(M3 x.facts (h (.sl (x.facts.map aE.c)) (by simp)) _ h0 h1).sub h1 h0 (m:=(jy aR.wt x.bind+0)) fun r1 g1 l1=>?_
 refine(XQ x.bind (h (.sl (x.bind.map aR.c)) (by simp)) _ g1 l1).sub l1 g1 (m:=0) fun r2 g2 l2=>?_
 exact xH.fin
theorem Xb(x:aI)(h:aI.wt x<=1048576):tJ x=some x:=by
 unfold tJ;simp only[M4 x.facts (by simp only[aI.wt]at h;omega),XZ x.bind (by simp only[aI.wt]at h;omega),aA]
theorem WU(a b:aI):sr a b=some (decide (a=b)):=by
 obtain⟨a0,a1⟩:=a;obtain⟨b0,b1⟩:=b;unfold sr;simp only[Lm,WS,aA,fF,bne];by_cases h0:a0=b0<;>by_cases h1:a1=b1<;>simp[h0,h1]
theorem Va(l:ah)(h:dU (.sl (l.map aI.c)))(v:Int)(h0:0<=v)(h1:v<=1048576):xH (uO l v) v (jy aI.wt l):=by
 unfold uO;exact szS h h0 h1 fun v' g0 g1=>szL (w:=aI.wt) (f:=tG) (nG l (fun z=>some z)) (fun _ _=>rfl) (fun _ _ _ _=>rfl) l (fun x hx v g0 g1=>XS x (xG.row h x hx) v g0 g1) 0 v' g0 g1
theorem Vd(l:ah)(h:jy aI.wt l<=1048576):uQ l=some l:=by
 unfold uQ;rw[KG (by rw[aZ];exact cS (gh _ _) h) (by decide)];exact toL (c:=aI.c) (f:=tJ) (nK l (fun q=>some q)) (fun _ _=>rfl) (fun _ _ _ _=>rfl) (fun x hx=>Xb x (by have:=iV (w:=aI.wt) hx;omega))
theorem Uh(a b:ah):uK a b=some (decide (a=b)):=by
 unfold uK;exact S6 (c:=aI.c) (f:=sr) (fun k=>nB a b k) (fun _ _=>rfl) (fun _ _ _ _=>rfl) WU
theorem VD(l:ah):PC (iE aI.iN l) (rB l) r9:=by
 have key:∀(rest dn:ah) (v:Int),1<=v->v+(iE aI.iN rest:Int)<=4611686018427387904->∃rest':ah,(∀k,gP k rest dn v=k (dn++rest') (v+(iE aI.iN rest:Int)))/\∀a k i,gN a k rest' i v=k (v+(iE aI.iN rest:Int)):=by
  intro rest
  induction rest with
  |nil=>intro dn v _ _;exact⟨[],fun k=>by simp[gP,iE],fun a k i=>by simp[gN,iE]⟩
  |cons x xs ih=>
   intro dn v h0 h1;rw[uh]at h1⊢;simp only[aI.iN]at h1⊢;obtain⟨l1,e1,f1⟩:=Lv x.facts v (by omega) (by omega);obtain⟨l2,e2,f2⟩:=X2 x.bind (v+(iE aE.iN x.facts:Int)) (by omega) (by omega);obtain⟨rest',p1,p2⟩:=ih (dn++[(⟨l1,l2⟩:aI)]) (v+(iE aE.iN x.facts:Int)+(iE aR.iN x.bind:Int)) (by omega) (by omega);refine⟨(⟨l1,l2⟩:aI)::rest',fun k=>?_,fun a k i=>?_⟩
   ·rw[gP];simp(disch:=omega) only[yM,aA,e1,e2];rw[p1];simp only[bY,dJ]
    congr 1
    omega
   ·have g0:decide ((v+(iE aE.iN x.facts:Int):Int)<0)=false:=b9 (by omega);have g1:decide ((v+(iE aE.iN x.facts:Int)+(iE aR.iN x.bind:Int):Int)<0)=false:=b9 (by omega);rw[gN];simp(disch:=omega) only[yM,aA,cw,bP,af,gF,f1,f2,g0,g1];rw[p2]
    congr 1
    omega
 intro k h0 h1;obtain⟨l',p1,p2⟩:=key l [] k h0 h1;exact⟨l',by unfold rB;rw[p1];rfl,by unfold r9;rw[p2]⟩
def aQ.wt(x:aQ):Nat:=tw x.shape.rel+jy tw x.shape.args+jy aE.wt x.facts
def aQ.iN(x:aQ):Nat:=1+iE (fun _=>1) x.shape.args+iE aE.iN x.facts
theorem aQ.nc(x:aQ):x.iN<=6+6*x.wt:=by
 unfold aQ.iN aQ.wt;have h0:=pF (fun _=>1) tw x.shape.args (fun y=>by omega);have h1:=pF aE.iN aE.wt x.facts (fun y=>aE.nc y);omega
theorem XN(x:aQ)(h:xG x.c)(v:Int)(h0:0<=v)(h1:v<=1048576):xH (tE x v) v (aQ.wt x):=by
 unfold tE;refine xH.eq (n:=(aE.wt x.shape+(jy aE.wt x.facts+0))) ?_ (by simp only[aQ.wt,aE.wt];omega);refine(Er x.shape (xG.sub h (by intro d hd;simp only[bM,sI,G6]at hd⊢;rcases hd with rfl|rfl<;>simp)) _ h0 h1).sub h1 h0 (m:=(jy aE.wt x.facts+0)) fun r1 g1 l1=>?_
 refine(M3 x.facts (h (.sl (x.facts.map aE.c)) (by simp)) _ g1 l1).sub l1 g1 (m:=0) fun r2 g2 l2=>?_
 exact xH.fin
theorem XW(x:aQ)(h:aQ.wt x<=1048576):tI x=some x:=by
 unfold tI;simp only[Es x.shape (by simp only[aQ.wt,aE.wt]at h⊢;omega),M4 x.facts (by simp only[aQ.wt]at h;omega),aA]
theorem WO(a b:aQ):sn a b=some (decide (a=b)):=by
 obtain⟨a0,a1⟩:=a;obtain⟨b0,b1⟩:=b;unfold sn;simp only[Lm,Eg,aA,fF,bne];by_cases h0:a0=b0<;>by_cases h1:a1=b1<;>simp[h0,h1]
theorem VZ(l:b8)(h:dU (.sl (l.map aQ.c)))(v:Int)(h0:0<=v)(h1:v<=1048576):xH (uN l v) v (jy aQ.wt l):=by
 unfold uN;exact szS h h0 h1 fun v' g0 g1=>szL (w:=aQ.wt) (f:=tE) (nE l (fun z=>some z)) (fun _ _=>rfl) (fun _ _ _ _=>rfl) l (fun x hx v g0 g1=>XN x (xG.row h x hx) v g0 g1) 0 v' g0 g1
theorem Vc(l:b8)(h:jy aQ.wt l<=1048576):uP l=some l:=by
 unfold uP;rw[KG (by rw[aZ];exact cS (gh _ _) h) (by decide)];exact toL (c:=aQ.c) (f:=tI) (nH l (fun q=>some q)) (fun _ _=>rfl) (fun _ _ _ _=>rfl) (fun x hx=>XW x (by have:=iV (w:=aQ.wt) hx;omega))
theorem Ug(a b:b8):uJ a b=some (decide (a=b)):=by
 unfold uJ;exact S6 (c:=aQ.c) (f:=sn) (fun k=>n9 a b k) (fun _ _=>rfl) (fun _ _ _ _=>rfl) WO
theorem VC(l:b8):PC (iE aQ.iN l) (rA l) qz:=by
 have key:∀(rest dn:b8) (v:Int),1<=v->v+(iE aQ.iN rest:Int)<=4611686018427387904->∃rest':b8,(∀k,gO k rest dn v=k (dn++rest') (v+(iE aQ.iN rest:Int)))/\∀a k i,gM a k rest' i v=k (v+(iE aQ.iN rest:Int)):=by
  intro rest
  induction rest with
  |nil=>intro dn v _ _;exact⟨[],fun k=>by simp[gO,iE],fun a k i=>by simp[gM,iE]⟩
  |cons x xs ih=>
   intro dn v h0 h1;rw[uh]at h1⊢;simp only[aQ.iN]at h1⊢;obtain⟨s1,e1⟩:=lG v (by omega) (by omega);obtain⟨l2,e2,f2⟩:=wW x.shape.args (v+1) (by omega) (by omega);obtain⟨l3,e3,f3⟩:=Lv x.facts (v+1+(iE (fun _=>1) x.shape.args:Int)) (by omega) (by omega);obtain⟨rest',p1,p2⟩:=ih (dn++[(⟨(⟨s1,l2⟩:aE),l3⟩:aQ)]) (v+1+(iE (fun _=>1) x.shape.args:Int)+(iE aE.iN x.facts:Int)) (by omega) (by omega);refine⟨(⟨(⟨s1,l2⟩:aE),l3⟩:aQ)::rest',fun k=>?_,fun a k i=>?_⟩
   ·rw[gO];simp(disch:=omega) only[yM,aA,e1,e2,e3];rw[p1];simp only[bY,dJ]
    congr 1
    omega
   ·have g0:decide ((v+1+(iE (fun _=>1) x.shape.args:Int):Int)<0)=false:=b9 (by omega);have g1:decide ((v+1+(iE (fun _=>1) x.shape.args:Int)+(iE aE.iN x.facts:Int):Int)<0)=false:=b9 (by omega);rw[gM];simp(disch:=omega) only[yM,aA,cw,bP,af,gF,e1,f2,f3,g0,g1];rw[p2]
    congr 1
    omega
 intro k h0 h1;obtain⟨l',p1,p2⟩:=key l [] k h0 h1;exact⟨l',by unfold rA;rw[p1];rfl,by unfold qz;rw[p2]⟩
def Node.wt(x:Node):Nat:=tw x.cond.pat.rel+jy tw x.cond.pat.args+tw x.cond.left+tw x.cond.right+jy aI.wt x.tokens
def Node.iN(x:Node):Nat:=6+iE (fun _=>1) x.cond.pat.args+iE aI.iN x.tokens
theorem Node.nc(x:Node):x.iN<=6+6*x.wt:=by
 unfold Node.iN Node.wt;have h0:=pF (fun _=>1) tw x.cond.pat.args (fun y=>by omega);have h1:=pF aI.iN aI.wt x.tokens (fun y=>aI.nc y);omega
theorem a04(x:Node)(h:xG x.c)(v:Int)(h0:0<=v)(h1:v<=1048576):xH (uy x v) v (Node.wt x):=by
 unfold uy;refine xH.eq (n:=(aN.wt x.cond+(jy aI.wt x.tokens+0))) ?_ (by simp only[Node.wt,aN.wt];omega);refine(SR x.cond (xG.sub h (by intro d hd;simp only[bM,sI,G6]at hd⊢;rcases hd with rfl|rfl|rfl|rfl|rfl<;>simp)) _ h0 h1).sub h1 h0 (m:=(jy aI.wt x.tokens+0)) fun r1 g1 l1=>?_
 refine(Va x.tokens (h (.sl (x.tokens.map aI.c)) (by simp)) _ g1 l1).sub l1 g1 (m:=0) fun r2 g2 l2=>?_
 exact xH.fin
theorem a0A(x:Node)(h:Node.wt x<=1048576):vA x=some x:=by
 unfold vA;simp only[SW x.cond (by simp only[Node.wt,aN.wt]at h⊢;omega),Vd x.tokens (by simp only[Node.wt]at h;omega),aA]
theorem ZG(a b:Node):ur a b=some (decide (a=b)):=by
 obtain⟨a0,a1,a2,a3⟩:=a;obtain⟨b0,b1,b2,b3⟩:=b;unfold ur;simp only[S4,Uh,aA,fF,bne];by_cases h0:a0=b0<;>by_cases h1:a1=b1<;>by_cases h2:a2=b2<;>by_cases h3:a3=b3<;>simp[h0,h1,h2,h3]
theorem XP(l:az)(h:dU (.sl (l.map Node.c)))(v:Int)(h0:0<=v)(h1:v<=1048576):xH (w9 l v) v (jy Node.wt l):=by
 unfold w9;exact szS h h0 h1 fun v' g0 g1=>szL (w:=Node.wt) (f:=uy) (oO l (fun z=>some z)) (fun _ _=>rfl) (fun _ _ _ _=>rfl) l (fun x hx v g0 g1=>a04 x (xG.row h x hx) v g0 g1) 0 v' g0 g1
theorem XY(l:az)(h:jy Node.wt l<=1048576):wD l=some l:=by
 unfold wD;rw[KG (by rw[aZ];exact cS (gh _ _) h) (by decide)];exact toL (c:=Node.c) (f:=vA) (oT l (fun q=>some q)) (fun _ _=>rfl) (fun _ _ _ _=>rfl) (fun x hx=>a0A x (by have:=iV (w:=Node.wt) hx;omega))
theorem WR(a b:az):vv a b=some (decide (a=b)):=by
 unfold vv;exact S6 (c:=Node.c) (f:=ur) (fun k=>oJ a b k) (fun _ _=>rfl) (fun _ _ _ _=>rfl) ZG
theorem X1(l:az):PC (iE Node.iN l) (tA l) sv:=by
 have key:∀(rest dn:az) (v:Int),1<=v->v+(iE Node.iN rest:Int)<=4611686018427387904->∃rest':az,(∀k,iA k rest dn v=k (dn++rest') (v+(iE Node.iN rest:Int)))/\∀a k i,gy a k rest' i v=k (v+(iE Node.iN rest:Int)):=by
  intro rest
  induction rest with
  |nil=>intro dn v _ _;exact⟨[],fun k=>by simp[iA,iE],fun a k i=>by simp[gy,iE]⟩
  |cons x xs ih=>
   intro dn v h0 h1;rw[uh]at h1⊢;simp only[Node.iN]at h1⊢;obtain⟨s3,e3⟩:=lG (v+1+1) (by omega) (by omega);obtain⟨l4,e4,f4⟩:=wW x.cond.pat.args (v+1+1+1) (by omega) (by omega);obtain⟨s5,e5⟩:=lG (v+1+1+1+(iE (fun _=>1) x.cond.pat.args:Int)) (by omega) (by omega);obtain⟨s6,e6⟩:=lG (v+1+1+1+(iE (fun _=>1) x.cond.pat.args:Int)+1) (by omega) (by omega);obtain⟨l8,e8,f8⟩:=VD x.tokens (v+1+1+1+(iE (fun _=>1) x.cond.pat.args:Int)+1+1+1) (by omega) (by omega);obtain⟨rest',p1,p2⟩:=ih (dn++[(⟨v,(⟨(v+1),(⟨s3,l4⟩:aE),s5,s6⟩:aN),(v+1+1+1+(iE (fun _=>1) x.cond.pat.args:Int)+1+1),l8⟩:Node)]) (v+1+1+1+(iE (fun _=>1) x.cond.pat.args:Int)+1+1+1+(iE aI.iN x.tokens:Int)) (by omega) (by omega);refine⟨(⟨v,(⟨(v+1),(⟨s3,l4⟩:aE),s5,s6⟩:aN),(v+1+1+1+(iE (fun _=>1) x.cond.pat.args:Int)+1+1),l8⟩:Node)::rest',fun k=>?_,fun a k i=>?_⟩
   ·rw[iA];simp(disch:=omega) only[yM,aA,e3,e4,e5,e6,e8];rw[p1];simp only[bY,dJ]
    congr 1
    omega
   ·have g0:decide ((v+1+1+1+(iE (fun _=>1) x.cond.pat.args:Int):Int)<0)=false:=b9 (by omega);have g1:decide ((v+1+1+1+(iE (fun _=>1) x.cond.pat.args:Int)+1+1+1+(iE aI.iN x.tokens:Int):Int)<0)=false:=b9 (by omega);rw[gy];simp(disch:=omega) only[yM,aA,cw,bP,af,gF,e3,f4,e5,e6,f8,g0,g1];rw[p2]
    congr 1
    omega
 intro k h0 h1;obtain⟨l',p1,p2⟩:=key l [] k h0 h1;exact⟨l',by unfold tA;rw[p1];rfl,by unfold sv;rw[p2]⟩
def aF.wt(x:aF):Nat:=jy aO.wt x.rules+jy zw x.ends+jy aQ.wt x.ay+jy Node.wt x.nodes+jy aE.wt x.facts
def aF.iN(x:aF):Nat:=1+iE aO.iN x.rules+iE (fun _=>1) x.ends+iE aQ.iN x.ay+iE Node.iN x.nodes+iE aE.iN x.facts
theorem aF.nc(x:aF):x.iN<=6+6*x.wt:=by
 unfold aF.iN aF.wt;have h0:=pF aO.iN aO.wt x.rules (fun y=>aO.nc y);have h1:=pF (fun _=>1) zw x.ends (fun y=>by omega);have h2:=pF aQ.iN aQ.wt x.ay (fun y=>aQ.nc y);have h3:=pF Node.iN Node.wt x.nodes (fun y=>Node.nc y);have h4:=pF aE.iN aE.wt x.facts (fun y=>aE.nc y);omega
theorem Ts(x:aF)(h:xG x.c)(v:Int)(h0:0<=v)(h1:v<=1048576):xH (tF x v) v (aF.wt x):=by
 unfold tF;refine xH.eq (n:=(jy aO.wt x.rules+(jy zw x.ends+(jy aQ.wt x.ay+(jy Node.wt x.nodes+(jy aE.wt x.facts+0)))))) ?_ (by simp only[aF.wt];omega);refine(XR x.rules (h (.sl (x.rules.map aO.c)) (by simp)) _ h0 h1).sub h1 h0 (m:=(jy zw x.ends+(jy aQ.wt x.ay+(jy Node.wt x.nodes+(jy aE.wt x.facts+0))))) fun r1 g1 l1=>?_
 refine(a03 x.ends (h (.sl (x.ends.map di)) (by simp)) _ g1 l1).sub l1 g1 (m:=(jy aQ.wt x.ay+(jy Node.wt x.nodes+(jy aE.wt x.facts+0)))) fun r2 g2 l2=>?_
 refine(VZ x.ay (h (.sl (x.ay.map aQ.c)) (by simp)) _ g2 l2).sub l2 g2 (m:=(jy Node.wt x.nodes+(jy aE.wt x.facts+0))) fun r3 g3 l3=>?_
 refine(XP x.nodes (h (.sl (x.nodes.map Node.c)) (by simp)) _ g3 l3).sub l3 g3 (m:=(jy aE.wt x.facts+0)) fun r4 g4 l4=>?_
 refine(M3 x.facts (h (.sl (x.facts.map aE.c)) (by simp)) _ g4 l4).sub l4 g4 (m:=0) fun r5 g5 l5=>?_
 exact xH.fin
theorem Tw(x:aF)(h:aF.wt x<=1048576):kw x=some x:=by
 unfold kw;simp only[Xa x.rules (by simp only[aF.wt]at h;omega),a09 x.ends (by simp only[aF.wt]at h;omega),Vc x.ay (by simp only[aF.wt]at h;omega),XY x.nodes (by simp only[aF.wt]at h;omega),M4 x.facts (by simp only[aF.wt]at h;omega),aA]
theorem T0(a b:aF):kq a b=some (decide (a=b)):=by
 obtain⟨a0,a1,a2,a3,a4,a5⟩:=a;obtain⟨b0,b1,b2,b3,b4,b5⟩:=b;unfold kq;simp only[Ug,Lm,ZF,WR,WT,aA,fF,bne];by_cases h0:a0=b0<;>by_cases h1:a1=b1<;>by_cases h2:a2=b2<;>by_cases h3:a3=b3<;>by_cases h4:a4=b4<;>by_cases h5:a5=b5<;>simp[h0,h1,h2,h3,h4,h5]
def aF.Aa(x:aF):Nat:=iE aO.iN x.rules+iE (fun _=>1) x.ends+iE aQ.iN x.ay+iE Node.iN x.nodes+iE aE.iN x.facts
theorem aF.Pp(x:aF):aF.Aa x<=6*aF.wt x:=by
 unfold aF.Aa aF.wt;have h0:=pF aO.iN aO.wt x.rules (fun y=>aO.nc y);have h1:=pF (fun _=>1) zw x.ends (fun y=>by omega);have h2:=pF aQ.iN aQ.wt x.ay (fun y=>aQ.nc y);have h3:=pF Node.iN Node.wt x.nodes (fun y=>Node.nc y);have h4:=pF aE.iN aE.wt x.facts (fun y=>aE.nc y);omega
theorem KB(x:aF)(k:Int)(h0:1<=k)(h1:k+(aF.Aa x:Int)<=4611686018427387904):∃y:aF,kL x k=some (y,k+(aF.Aa x:Int))/\kK y k=some (k+(aF.Aa x:Int))/\(⟨y.rules,y.ends,y.ay,y.nodes,y.facts,x.cL⟩:aF)=y:=by
 unfold aF.Aa at h1⊢;obtain⟨l1,e1,f1⟩:=X3 x.rules k (by omega) (by omega);obtain⟨l2,e2,f2⟩:=Zf x.ends (k+(iE aO.iN x.rules:Int)) (by omega) (by omega);obtain⟨l3,e3,f3⟩:=VC x.ay (k+(iE aO.iN x.rules:Int)+(iE (fun _=>1) x.ends:Int)) (by omega) (by omega);obtain⟨l4,e4,f4⟩:=X1 x.nodes (k+(iE aO.iN x.rules:Int)+(iE (fun _=>1) x.ends:Int)+(iE aQ.iN x.ay:Int)) (by omega) (by omega);obtain⟨l5,e5,f5⟩:=Lv x.facts (k+(iE aO.iN x.rules:Int)+(iE (fun _=>1) x.ends:Int)+(iE aQ.iN x.ay:Int)+(iE Node.iN x.nodes:Int)) (by omega) (by omega);refine⟨(⟨l1,l2,l3,l4,l5,x.cL⟩:aF),?_,?_,rfl⟩
 ·unfold kL;simp only[aA,e1,e2,e3,e4,e5]
  all_goals(congr 2<;>omega)
 ·unfold kK;have g0:decide ((k+(iE aO.iN x.rules:Int):Int)<0)=false:=b9 (by omega);have g1:decide ((k+(iE aO.iN x.rules:Int)+(iE (fun _=>1) x.ends:Int):Int)<0)=false:=b9 (by omega);have g2:decide ((k+(iE aO.iN x.rules:Int)+(iE (fun _=>1) x.ends:Int)+(iE aQ.iN x.ay:Int):Int)<0)=false:=b9 (by omega);have g3:decide ((k+(iE aO.iN x.rules:Int)+(iE (fun _=>1) x.ends:Int)+(iE aQ.iN x.ay:Int)+(iE Node.iN x.nodes:Int):Int)<0)=false:=b9 (by omega);have g4:decide ((k+(iE aO.iN x.rules:Int)+(iE (fun _=>1) x.ends:Int)+(iE aQ.iN x.ay:Int)+(iE Node.iN x.nodes:Int)+(iE aE.iN x.facts:Int):Int)<0)=false:=b9 (by omega);simp only[aA,af,f1,f2,f3,f4,f5,g0,g1,g2,g3,g4]
  all_goals(congr 1<;>omega)
theorem TT(x:aF):PC (aF.Aa x) (kL x) kK:=fun k h0 h1=>by
 obtain⟨y,a,b,_⟩:=KB x k h0 h1;exact⟨y,a,b⟩
end Go.Cx
namespace Go.Cx
open Go.RowKit Go.Proofs Go.Shelf Tryz
theorem Rd.wZ{w:World}{v:Value}{s:Bytes}{bs:aa}(h:Rd w v (.str s) bs):∃y:ByteArray,v=.string y/\y.data.toList=s/\y.size<=maxLen/\bs=[]:=by
 cases h with
 |str y hy=>exact⟨y,rfl,rfl,hy,rfl⟩
theorem mS.strs{w:World}{xs:aJ}:∀ {cs:br} {bs:aa},mS w cs (xs.map D.str) bs->∃ys:List ByteArray,cs=ys.map Value.string/\ys.map (·.data.toList)=xs:=by
 induction xs with
 |nil=>intro cs bs h;cases h;exact⟨[],rfl,rfl⟩
 |cons x xs ih=>
  intro cs bs h;cases h with
  |cons v vs d ds b1 b2 h1 h2 h3=>
   obtain⟨y,e1,e2,_,_⟩:=h2.wZ;obtain⟨ys,e3,e4⟩:=ih h3;exact⟨y::ys,by simp[e1,e3],by simp[e2,e4]⟩
theorem T3(xs:aJ):(xs.map tx).flatten=xs.map D.str:=by
 induction xs with
 |nil=>rfl
 |cons x xs ih=>simp[tx,ih]
theorem Calls.txt{P:Program}{f:FuncId}{args:Array Value}{w:World}{r:ByteArray}{Θ:Nat->Nat}(hr:r.size<=maxLen)
 (h:Calls P f args w fun e w'=>e=.returned (.string r)/\Below w.heap.size w w'):
 Calls P f args w (fun e w'=>∃v bs' ts us,e=.returned v/\Below w.heap.size w w'/\E9 w' v (.str r.data.toList) bs' ts us/\(∀b∈bs',b<w.heap.size->Θ b=0)/\(∀b∈bs',b∉ts)/\us.Nodup/\
  (∀b∈us,w.heap.size<=b/\Wr w' b)/\∀b∈ts,b∈us):=
 h.mono fun e w' ⟨h1,h2⟩=>⟨_,[],[],[],h1,h2,.v (.cell (.pure (.str r hr))),by simp,by simp,by simp,by simp,by simp⟩
end Go.Cx
namespace Go.Cx
open Go.RowKit Go.Proofs Go.Shelf Go.Sort Tryz
theorem mS.a5N{w:World}{xs:aJ}:∀ {cs:br} {bs:aa},mS w cs (xs.map D.str) bs->∀x∈xs,x.length<=maxLen:=by
 induction xs with
 |nil=>intro cs bs h x hx;cases hx
 |cons x xs ih=>
  intro cs bs h y hy;cases h with
  |cons v vs d ds b1 b2 h1 h2 h3=>
   obtain⟨s,_,e2,e3,_⟩:=h2.wZ;rcases bM.1 hy with rfl|hy
   ·rw[<-e2];exact e3
   ·exact ih h3 y hy
theorem mS.YU{w:World}:∀ {xs:aJ},(∀x∈xs,x.length<=maxLen)->mS w (xs.map encStr) (xs.map D.str) []
 | [],_=>.nil
 |x::xs,h=>by
  have h1:Rd w (.string ⟨x.toArray⟩) (.str x) []:=by
   have:=Rd.str (w:=w) ⟨x.toArray⟩ (by have:=h x (by simp);simpa[ByteArray.size]using this);simpa using this
  exact .cons _ _ _ _ [] [] rfl h1 (mS.YU fun y hy=>h y (by simp[hy]))
theorem Ul(xs:aJ):(xs.map tx).flatten.all D.flat=true:=by
 rw[T3];simp[D.flat]
def oW(xs:aJ):aJ:=xs.mergeSort fun x y=>decide (x<=y)
theorem C8(xs:aJ):(oW xs).Perm xs:=List.mergeSort_perm _ _
theorem Qg{P:Program}{ρ:Ren}(L:Lays.n192 P ρ){e:TypeId}{xs:aJ}(hn:xs.length<4611686018427387904):UC P (ρ.f 192) e 1 (xs.map tx) ((oW xs).map tx):=by
 refine⟨⟨_,L.f192,rfl,rfl⟩,?_⟩;intro w v cs hsz hrl hown hrd;rw[T3]at hrd;have hle:=hrd.a5N;obtain⟨ys,rfl,hys⟩:=hrd.strs;have hlen:(oW xs).length=xs.length:=(C8 xs).length_eq;have PT:∀r∈(oW xs).map tx,r.length=1:=by
  intro r hr;obtain⟨x,_,rfl⟩:=cI.1 hr;rfl
 rcases hown.2 with⟨rfl,h0⟩|⟨g,cap,cur,rfl,hb,T8,hnc,hcm,hcs,Uv⟩
 ·have hx:xs=[]:=by simpa using h0
  subst hx;refine(Any.sort_Strings_none L none 0 w).mono ?_;rintro e' w' ⟨rfl,rfl⟩;exact⟨rfl,rfl,rfl,rfl,bR _,fun _ _ _=>rfl,PT,[],⟨by simp[hlen],.inl ⟨rfl,by simp[hlen]⟩⟩,by simpa[oW]using mS.nil⟩
 ·rw[aZ]at hnc Uv⊢;rw[Nat.mul_one]at Uv hcs;have hyl:ys.length=xs.length:=by rw[<-hys];simp
  have QU:∀j,j<xs.length->cur[j]?=some (encStr xs.toArray[j]!):=by
   intro j hj;have h1:(cur.toList.take xs.length)[j]?=cur[j]?:=by rw[Ci hj];simp
   rw[<-h1,Uv,c8];have hj':j<ys.length:=by omega
   rw[ai hj'];have:xs[j]?=some ys[j].data.toList:=by rw[<-hys,c8,ai hj'];rfl
   have hx:xs.toArray[j]! =ys[j].data.toList:=by
    rw[getElem!_pos _ _ (by simpa using hj)];rw[ai hj]at this;simpa using this
   rw[hx];simp[encStr]
  have hH:Holds encStr w g 0 xs.toArray:=by
   intro j hj;have hj:j<xs.length:=by simpa using hj
   refine⟨?_,?_⟩
   ·rw[<-QU j hj];simp[World.cell?,T8]
   ·simp[World.frozen?,T8]
  have hblk:g<w.heap.size:=(bL.1 T8).1;refine(Any.sort_Strings L g 0 cap xs w hH hblk hn).mono ?_;rintro e' w' ⟨rfl,n,os,rfl⟩;have hheap:(grow (putRow encStr (Sort.ahead w n) g 0 (oW xs).toArray) os).heap=(w.heap.modify g (onCells (putCells encStr 0 (oW xs).toArray)))++os:=rfl;have QS:∀b,b<w.heap.size->b≠g->(grow (putRow encStr (Sort.ahead w n) g 0 (oW xs).toArray) os).heap[b]?=w.heap[b]?:=by
   intro b hb hne;rw[hheap,fp (by simpa using hb),yp,bG (fun e=>hne e.symm)]
  have hrow:(grow (putRow encStr (Sort.ahead w n) g 0 (oW xs).toArray) os).heap[g]?=some (.cells (putCells encStr 0 (oW xs).toArray cur) e (0,0)):=by
   rw[hheap,fp (by simpa using hblk),yp,bQ rfl,T8];rfl
  refine⟨rfl,rfl,rfl,rfl,by show w.heap.size<=(grow (putRow encStr (Sort.ahead w n) g 0 (oW xs).toArray) os).heap.size;rw[hheap];simp,fun b hb hne=>QS b hb fun e=>hne (by rw[e];rfl),PT,(oW xs).map encStr,⟨by simp,.inr ⟨g,cap,_,by simp[hlen],hb,hrow,by simpa[hlen]using hnc,hcm,by simp[putCells,hcs],?_⟩⟩,?_⟩
  ·apply o7;intro j;simp only[aZ,Nat.mul_one];by_cases hj:j<(oW xs).length
   ·have hj2:j<cur.size:=by omega
    rw[Ci hj,c8,ai hj];simp[putCells,hj2,hj]
   ·rw[ck (by simp;omega),ck (by simp;omega)]
  ·rw[T3];exact mS.YU fun x hx=>hle x ((C8 xs).mem_iff.1 hx)
end Go.Cx
namespace Go.Cx
open Go.RowKit Go.Proofs Go.Shelf Go.Lib Tryz
theorem a1y(n:Int)(h:tU .i64 n):(itoa n).length<=20:=by
 have h1: -9223372036854775808<=n:=h.1;have h2:n<=9223372036854775807:=h.2;have key:∀u:Nat,u<=9223372036854775808->nDigits u<=19:=by
  intro u hu;by_cases h0:u=0
  ·subst h0;rw[nDigits_small (by omega)];omega
  ·by_cases hk:nDigits u<=19
   ·exact hk
   ·exfalso;have a7o:∀(k v:Nat),v<10^k->1<=k->nDigits v<=k:=by
     intro k
     induction k with
     |zero=>intro v _ h;omega
     |succ k ih=>
      intro v hv _;by_cases h10:v<10
      ·rw[nDigits_small h10];omega
      ·rw[nDigits_big h10];have h3:v/10<10^k:=by rw[yT]at hv;omega
       have hk1:1<=k:=by
        cases k with
        |zero=>simp at hv;omega
        |succ k=>omega
       have:=ih (v/10) h3 hk1;omega
    have:=a7o 19 u (by omega) (by omega);omega
 unfold itoa;split
 ·rw[aL,decDigits_length];have:=key n.natAbs (by omega);omega
 ·rw[decDigits_length];have:=key n.toNat (by omega);omega
theorem US(w:World)(k:Nat)(os:Array Obj):Below w.heap.size w (Sort.grow (w.drewN k) os):=
 ⟨rfl,rfl,rfl,by show w.heap.size<=(w.heap++os).size;simp,fun b hb=>by show(w.heap++os)[b]?=_;rw[fp hb]⟩
theorem V6{P:Program}{ρ:Ren}(L:LaysM.n171 P ρ){g:Nat}(hg:P.globalNamed "internal/strconv.uint64pow10" =some g)(hx:(g,fun cs:br=>cs=pow10Tab.map fun z=>Value.int .u64 z)∈AJ){n:Int}:
 Good P (ρ.f 171) [.int .i64 n] (.str (itoa n)):=by
 refine⟨⟨_,L.f171,rfl,rfl⟩,?_⟩;intro w Θ args bs hv ha _ _ _;obtain _|⟨v1,_,_,_,b1,_,h1,ha⟩:=ha;cases ha;cases h1 with
 |int _ _ hr=>
  have h0: -9223372036854775808<=n:=hr.1;have h1:n<=9223372036854775807:=hr.2;have hl:=a1y n hr;have ht:TabIs P w "internal/strconv.uint64pow10" .u64 pow10Tab:=by
   obtain⟨cs,h2,h3⟩:=hv.var hx hg;have h4:cs=(pow10Tab.map fun z=>Value.int .u64 z).toArray:=by rw[<-h3]
   rw[h4]at h2;exact h2
  have:=Calls.txt (Θ:=Θ) (r:=⟨(itoa n).toArray⟩) (by show(itoa n).toArray.size<=maxLen;rw[CS];unfold maxLen;omega)
   ((Any.strconv_Itoa L n h0 h1 w ht).mono fun e w' ⟨k1,k,os,k2⟩=>⟨k1,by subst k2;exact US w k os⟩)
  simpa using this
end Go.Cx
namespace Go.Cx
open Go.RowKit Go.Proofs Go.Shelf Go.Lib Tryz
theorem UR(w:World)(t5:TypeId)(t:ByteArray):Below w.heap.size w (Lib.bytesWorld w t5 t):=Lib.bytesWorld_below _ _ _
def TL(s:Bytes):Option (Int×Bool):=if s.length<=18 then(match Lib.atoi s with|some n=>some (n,false)|none=>some (0,true))else none
theorem V5{P:Program}{ρ:Ren}(L:LaysC.n172 P ρ){g:Nat}(hg:P.globalNamed "strconv.ErrSyntax" =some g)(hx:(g,fun cs:br=>∃tp p,cs=[Value.iface tp p])∈AJ){s:Bytes}{r:Int×Bool}(h:TL s=some r):
 Good P (ρ.f 172) [.str s] (.iF [.int .i64 r.1,.ifc r.2]):=by
 refine⟨⟨_,L.f172,rfl,rfl⟩,?_⟩;intro w Θ args bs hv ha _ _ _;obtain _|⟨v1,_,_,_,b1,_,h1,ha⟩:=ha;cases ha;obtain⟨y,rfl,rfl,_,_⟩:=h1.wZ;unfold TL at h;split at h
 ·rename_i hl;have hl':y.size<=18:=by simpa using hl
  split at h
  ·rename_i n hn;cases h;have hb:=Lib.atoi_bound hn hl;refine(Any.strconv_Atoi L.toM.ton172 y n hl' hn w).mono ?_;rintro e w' ⟨rfl,t,rfl⟩;exact⟨_,[],[],[],rfl,UR _ _ _,.iF [.int .i64 n,.nilIface] [.int .i64 n,.ifc false] [] [] [] (.cons _ _ _ _ [] [] [] [] [] [] (.cell (.pure (.int _ _ (tU.i64.2 (by omega))))) (.cons _ _ _ _ [] [] [] [] [] [] (.cell (.pure .ZS)) .nil)),by simp,by simp,by simp,by simp,by simp⟩
  ·rename_i hn;cases h;obtain⟨cs,h2,tp,p,h3⟩:=hv.var hx hg;have h4:cs= #[.iface tp p]:=by rw[<-wS,h3]
   rw[h4]at h2;refine(Any.strconv_Atoi_err_var L y hl' hn tp p w h2).mono ?_;rintro e w' ⟨N,rfl,_,_,hbl⟩;exact⟨_,[],[],[],rfl,hbl,.iF [.int .i64 0,.iface _ _] [.int .i64 0,.ifc true] [] [] [] (.cons _ _ _ _ [] [] [] [] [] [] (.cell (.pure (.int _ _ (tU.zero _)))) (.cons _ _ _ _ [] [] [] [] [] [] (.cell (.pure (.ZT _ _))) .nil)),by simp,by simp,by simp,by simp,by simp⟩
 ·cases h
theorem Y1:∀(a b:Bytes), -1<=Lib.compareBytes a b/\Lib.compareBytes a b<=1
 | [],[]=>by simp[Lib.compareBytes]
 | [],_::_=>by simp[Lib.compareBytes]
 |_::_,[]=>by simp[Lib.compareBytes]
 |a::xs,b::ys=>by
  simp only[Lib.compareBytes];split
  ·omega
  ·split
   ·omega
   ·exact Y1 xs ys
theorem Qf{P:Program}{ρ:Ren}(L:Lays.n106 P ρ){a b:Bytes}:Good P (ρ.f 106) [.str a,.str b] (.int .i64 (Lib.compareBytes a b)):=by
 refine⟨⟨_,L.f106,rfl,rfl⟩,?_⟩;intro w Θ args bs hv ha _ _ _;obtain _|⟨v1,_,_,_,b1,_,h1,ha⟩:=ha;obtain _|⟨v2,_,_,_,b2,_,h2,ha⟩:=ha;cases ha;obtain⟨y,rfl,rfl,_,_⟩:=h1.wZ;obtain⟨z,rfl,rfl,_,_⟩:=h2.wZ;have hc:=Y1 y.data.toList z.data.toList;refine(Any.strings_Compare L y z w).mono ?_;rintro e w' ⟨rfl,rfl⟩;exact⟨_,[],[],[],rfl,Below.refl _ _,.v (.cell (.pure (.int _ _ (tU.i64.2 (by omega))))),by simp,by simp,by simp,by simp,by simp⟩
end Go.Cx
namespace Go.Cx
open Go.RowKit Go.Proofs Go.Shelf Tryz
def V8:Ren:=⟨fun|192=>266|190=>278|125=>288|258=>287|128=>301|129=>302|302=>292|303=>293|304=>294|305=>295|306=>296|307=>297|308=>298|309=>299|310=>300|333=>312|329=>313|330=>314|334=>315|335=>316|336=>317|344=>325|n=>n,fun|31=>46|0=>0|9=>9|3=>3|46=>254|51=>266|53=>268|4=>4|183=>259|182=>258|131=>237|5=>5|218=>279|222=>283|228=>296|229=>186|n=>n,fun|n=>n⟩
theorem a4r:Lays.n192 prog V8:= {
 mixed:=by kernel_rfl,
 f125:=func288.trans (congrArg some (by kernel_rfl)),
 f128:=func301.trans (congrArg some (by kernel_rfl)),
 f129:=func302.trans (congrArg some (by kernel_rfl)),
 f190:=func278.trans (congrArg some (by kernel_rfl)),
 f192:=func266.trans (congrArg some (by kernel_rfl)),
 f258:=func287.trans (congrArg some (by kernel_rfl)),
 f302:=func292.trans (congrArg some (by kernel_rfl)),
 f303:=func293.trans (congrArg some (by kernel_rfl)),
 f304:=func294.trans (congrArg some (by kernel_rfl)),
 f305:=func295.trans (congrArg some (by kernel_rfl)),
 f306:=func296.trans (congrArg some (by kernel_rfl)),
 f307:=func297.trans (congrArg some (by kernel_rfl)),
 f308:=func298.trans (congrArg some (by kernel_rfl)),
 f309:=func299.trans (congrArg some (by kernel_rfl)),
 f310:=func300.trans (congrArg some (by kernel_rfl)),
 f329:=func313.trans (congrArg some (by kernel_rfl)),
 f330:=func314.trans (congrArg some (by kernel_rfl)),
 f333:=func312.trans (congrArg some (by kernel_rfl)),
 f334:=func315.trans (congrArg some (by kernel_rfl)),
 f335:=func316.trans (congrArg some (by kernel_rfl)),
 f336:=func317.trans (congrArg some (by kernel_rfl)),
 f344:=func325.trans (congrArg some (by kernel_rfl)),
 t0:=underlying0,
 a0:=Tryz.isAgg0,
 z0:=Tryz.sizeOf0,
 v0:=Tryz.zeroValue0,
 t3:=underlying3,
 a3:=Tryz.isAgg3,
 z3:=Tryz.sizeOf3,
 v3:=Tryz.zeroValue3,
 t4:=underlying4,
 a4:=Tryz.isAgg4,
 z4:=Tryz.sizeOf4,
 v4:=Tryz.zeroValue4,
 t5:=underlying5,
 a5:=Tryz.isAgg5,
 z5:=Tryz.sizeOf5,
 v5:=Tryz.zeroValue5,
 t9:=underlying9,
 a9:=Tryz.isAgg9,
 z9:=Tryz.sizeOf9,
 v9:=Tryz.zeroValue9,
 t31:=underlying46,
 a31:=Tryz.isAgg46,
 z31:=Tryz.sizeOf46,
 v31:=Tryz.zeroValue46,
 t46:=underlying254,
 a46:=Tryz.isAgg254,
 z46:=Tryz.sizeOf254,
 v46:=Tryz.zeroValue254,
 t51:=underlying266,
 a51:=Tryz.isAgg266,
 z51:=Tryz.sizeOf266,
 v51:=Tryz.zeroValue266,
 t53:=underlying268,
 a53:=Tryz.isAgg268,
 z53:=Tryz.sizeOf268,
 v53:=Tryz.zeroValue268,
 t131:=underlying237,
 a131:=Tryz.isAgg237,
 z131:=Tryz.sizeOf237,
 v131:=Tryz.zeroValue237,
 t182:=underlying258,
 a182:=Tryz.isAgg258,
 z182:=Tryz.sizeOf258,
 v182:=Tryz.zeroValue258,
 t183:=underlying259,
 a183:=Tryz.isAgg259,
 z183:=Tryz.sizeOf259,
 v183:=Tryz.zeroValue259,
 t218:=underlying279,
 a218:=Tryz.isAgg279,
 z218:=Tryz.sizeOf279,
 v218:=Tryz.zeroValue279,
 t222:=underlying283,
 a222:=Tryz.isAgg283,
 z222:=Tryz.sizeOf283,
 v222:=Tryz.zeroValue283,
 t228:=underlying296,
 a228:=Tryz.isAgg296,
 z228:=Tryz.sizeOf296,
 v228:=Tryz.zeroValue296,
 t229:=underlying186,
 a229:=Tryz.isAgg186,
 z229:=Tryz.sizeOf186,
 v229:=Tryz.zeroValue186}
theorem JR{e:TypeId}{xs:aJ}(hn:xs.length<4611686018427387904):UC prog 266 e 1 (xs.map tx) ((oW xs).map tx):=Qg a4r hn
def Oy:Ren:=⟨fun|171=>274|243=>285|246=>291|283=>308|284=>309|285=>310|286=>311|129=>302|317=>321|318=>322|319=>323|320=>324|337=>328|338=>329|n=>n,fun|3=>3|9=>9|2=>2|4=>4|171=>275|0=>0|53=>268|37=>150|5=>5|173=>277|212=>293|51=>266|20=>20|213=>294|46=>254|232=>303|233=>304|n=>n,fun|17=>3|18=>4|19=>5|n=>n⟩
theorem a4p:Lays.n171 prog Oy:= {
 mixed:=by kernel_rfl,
 f129:=func302.trans (congrArg some (by kernel_rfl)),
 f171:=func274.trans (congrArg some (by kernel_rfl)),
 f243:=func285.trans (congrArg some (by kernel_rfl)),
 f246:=func291.trans (congrArg some (by kernel_rfl)),
 f283:=func308.trans (congrArg some (by kernel_rfl)),
 f284:=func309.trans (congrArg some (by kernel_rfl)),
 f285:=func310.trans (congrArg some (by kernel_rfl)),
 f286:=func311.trans (congrArg some (by kernel_rfl)),
 f317:=func321.trans (congrArg some (by kernel_rfl)),
 f318:=func322.trans (congrArg some (by kernel_rfl)),
 f319:=func323.trans (congrArg some (by kernel_rfl)),
 f320:=func324.trans (congrArg some (by kernel_rfl)),
 f337:=func328.trans (congrArg some (by kernel_rfl)),
 f338:=func329.trans (congrArg some (by kernel_rfl)),
 t0:=underlying0,
 a0:=Tryz.isAgg0,
 z0:=Tryz.sizeOf0,
 v0:=Tryz.zeroValue0,
 t2:=underlying2,
 a2:=Tryz.isAgg2,
 z2:=Tryz.sizeOf2,
 v2:=Tryz.zeroValue2,
 t3:=underlying3,
 a3:=Tryz.isAgg3,
 z3:=Tryz.sizeOf3,
 v3:=Tryz.zeroValue3,
 t4:=underlying4,
 a4:=Tryz.isAgg4,
 z4:=Tryz.sizeOf4,
 v4:=Tryz.zeroValue4,
 t5:=underlying5,
 a5:=Tryz.isAgg5,
 z5:=Tryz.sizeOf5,
 v5:=Tryz.zeroValue5,
 t9:=underlying9,
 a9:=Tryz.isAgg9,
 z9:=Tryz.sizeOf9,
 v9:=Tryz.zeroValue9,
 t20:=underlying20,
 a20:=Tryz.isAgg20,
 z20:=Tryz.sizeOf20,
 v20:=Tryz.zeroValue20,
 t37:=underlying150,
 a37:=Tryz.isAgg150,
 z37:=Tryz.sizeOf150,
 v37:=Tryz.zeroValue150,
 t46:=underlying254,
 a46:=Tryz.isAgg254,
 z46:=Tryz.sizeOf254,
 v46:=Tryz.zeroValue254,
 t51:=underlying266,
 a51:=Tryz.isAgg266,
 z51:=Tryz.sizeOf266,
 v51:=Tryz.zeroValue266,
 t53:=underlying268,
 a53:=Tryz.isAgg268,
 z53:=Tryz.sizeOf268,
 v53:=Tryz.zeroValue268,
 t171:=underlying275,
 a171:=Tryz.isAgg275,
 z171:=Tryz.sizeOf275,
 v171:=Tryz.zeroValue275,
 t173:=underlying277,
 a173:=Tryz.isAgg277,
 z173:=Tryz.sizeOf277,
 v173:=Tryz.zeroValue277,
 t212:=underlying293,
 a212:=Tryz.isAgg293,
 z212:=Tryz.sizeOf293,
 v212:=Tryz.zeroValue293,
 t213:=underlying294,
 a213:=Tryz.isAgg294,
 z213:=Tryz.sizeOf294,
 t232:=underlying303,
 a232:=Tryz.isAgg303,
 z232:=Tryz.sizeOf303,
 v232:=Tryz.zeroValue303,
 t233:=underlying304,
 a233:=Tryz.isAgg304,
 z233:=Tryz.sizeOf304,
 v233:=Tryz.zeroValue304,
 g17:=by kernel_rfl,
 g18:=by kernel_rfl,
 g19:=by kernel_rfl}
theorem a27:LaysM.n171 prog Oy:= {a4p with
 i0:=by kernel_rfl,
 i2:=by kernel_rfl,
 i3:=by kernel_rfl,
 i4:=by kernel_rfl,
 i5:=by kernel_rfl,
 i9:=by kernel_rfl,
 i20:=by kernel_rfl,
 i37:=by kernel_rfl,
 i46:=by kernel_rfl,
 i51:=by kernel_rfl,
 i53:=by kernel_rfl,
 i171:=by kernel_rfl,
 i173:=by kernel_rfl,
 i212:=by kernel_rfl,
 i232:=by kernel_rfl,
 i233:=by kernel_rfl,
 m17:=by kernel_rfl,
 m18:=by kernel_rfl,
 m19:=by kernel_rfl}
def C0(aB:Int):Option Bytes:=(fun n:Int=>some (Lib.itoa n)) aB
theorem Jt{aB:Int}{r:Bytes}(h:C0 aB=some r):Good prog 274 [.int .i64 aB] (.str r):=by cases h;exact V6 a27 (g:=3) (by kernel_rfl) (aC (i:=0) (by kernel_rfl))
def Hu:Ren:=⟨fun|172=>280|244=>289|245=>290|247=>303|279=>304|280=>305|281=>306|282=>307|287=>318|316=>319|171=>274|205=>320|321=>326|322=>327|243=>285|246=>291|283=>308|284=>309|285=>310|286=>311|129=>302|317=>321|318=>322|319=>323|320=>324|337=>328|338=>329|n=>n,fun|9=>9|3=>3|75=>245|76=>246|4=>4|5=>5|167=>269|37=>150|0=>0|85=>270|2=>2|168=>272|53=>268|175=>285|46=>254|210=>289|127=>299|145=>302|143=>300|21=>21|171=>275|173=>277|212=>293|51=>266|20=>20|213=>294|232=>303|233=>304|80=>305|n=>n,fun|15=>1|16=>2|17=>3|18=>4|19=>5|n=>n⟩
theorem a4q:Lays.n172 prog Hu:= {
 mixed:=by kernel_rfl,
 f129:=func302.trans (congrArg some (by kernel_rfl)),
 f171:=func274.trans (congrArg some (by kernel_rfl)),
 f172:=func280.trans (congrArg some (by kernel_rfl)),
 f205:=func320.trans (congrArg some (by kernel_rfl)),
 f243:=func285.trans (congrArg some (by kernel_rfl)),
 f244:=func289.trans (congrArg some (by kernel_rfl)),
 f245:=func290.trans (congrArg some (by kernel_rfl)),
 f246:=func291.trans (congrArg some (by kernel_rfl)),
 f247:=func303.trans (congrArg some (by kernel_rfl)),
 f279:=func304.trans (congrArg some (by kernel_rfl)),
 f280:=func305.trans (congrArg some (by kernel_rfl)),
 f281:=func306.trans (congrArg some (by kernel_rfl)),
 f282:=func307.trans (congrArg some (by kernel_rfl)),
 f283:=func308.trans (congrArg some (by kernel_rfl)),
 f284:=func309.trans (congrArg some (by kernel_rfl)),
 f285:=func310.trans (congrArg some (by kernel_rfl)),
 f286:=func311.trans (congrArg some (by kernel_rfl)),
 f287:=func318.trans (congrArg some (by kernel_rfl)),
 f316:=func319.trans (congrArg some (by kernel_rfl)),
 f317:=func321.trans (congrArg some (by kernel_rfl)),
 f318:=func322.trans (congrArg some (by kernel_rfl)),
 f319:=func323.trans (congrArg some (by kernel_rfl)),
 f320:=func324.trans (congrArg some (by kernel_rfl)),
 f321:=func326.trans (congrArg some (by kernel_rfl)),
 f322:=func327.trans (congrArg some (by kernel_rfl)),
 f337:=func328.trans (congrArg some (by kernel_rfl)),
 f338:=func329.trans (congrArg some (by kernel_rfl)),
 t0:=underlying0,
 a0:=Tryz.isAgg0,
 z0:=Tryz.sizeOf0,
 v0:=Tryz.zeroValue0,
 t2:=underlying2,
 a2:=Tryz.isAgg2,
 z2:=Tryz.sizeOf2,
 v2:=Tryz.zeroValue2,
 t3:=underlying3,
 a3:=Tryz.isAgg3,
 z3:=Tryz.sizeOf3,
 v3:=Tryz.zeroValue3,
 t4:=underlying4,
 a4:=Tryz.isAgg4,
 z4:=Tryz.sizeOf4,
 v4:=Tryz.zeroValue4,
 t5:=underlying5,
 a5:=Tryz.isAgg5,
 z5:=Tryz.sizeOf5,
 v5:=Tryz.zeroValue5,
 t9:=underlying9,
 a9:=Tryz.isAgg9,
 z9:=Tryz.sizeOf9,
 v9:=Tryz.zeroValue9,
 t20:=underlying20,
 a20:=Tryz.isAgg20,
 z20:=Tryz.sizeOf20,
 v20:=Tryz.zeroValue20,
 t21:=underlying21,
 a21:=Tryz.isAgg21,
 z21:=Tryz.sizeOf21,
 v21:=Tryz.zeroValue21,
 t37:=underlying150,
 a37:=Tryz.isAgg150,
 z37:=Tryz.sizeOf150,
 v37:=Tryz.zeroValue150,
 t46:=underlying254,
 a46:=Tryz.isAgg254,
 z46:=Tryz.sizeOf254,
 v46:=Tryz.zeroValue254,
 t51:=underlying266,
 a51:=Tryz.isAgg266,
 z51:=Tryz.sizeOf266,
 v51:=Tryz.zeroValue266,
 t53:=underlying268,
 a53:=Tryz.isAgg268,
 z53:=Tryz.sizeOf268,
 v53:=Tryz.zeroValue268,
 t75:=underlying245,
 a75:=Tryz.isAgg245,
 z75:=Tryz.sizeOf245,
 v75:=Tryz.zeroValue245,
 t76:=underlying246,
 a76:=Tryz.isAgg246,
 z76:=Tryz.sizeOf246,
 v76:=Tryz.zeroValue246,
 t85:=underlying270,
 a85:=Tryz.isAgg270,
 z85:=Tryz.sizeOf270,
 v85:=Tryz.zeroValue270,
 t127:=underlying299,
 a127:=Tryz.isAgg299,
 z127:=Tryz.sizeOf299,
 v127:=Tryz.zeroValue299,
 t143:=underlying300,
 a143:=Tryz.isAgg300,
 z143:=Tryz.sizeOf300,
 v143:=Tryz.zeroValue300,
 t145:=underlying302,
 a145:=Tryz.isAgg302,
 z145:=Tryz.sizeOf302,
 v145:=Tryz.zeroValue302,
 t167:=underlying269,
 a167:=Tryz.isAgg269,
 z167:=Tryz.sizeOf269,
 v167:=Tryz.zeroValue269,
 t168:=underlying272,
 a168:=Tryz.isAgg272,
 z168:=Tryz.sizeOf272,
 v168:=Tryz.zeroValue272,
 t171:=underlying275,
 a171:=Tryz.isAgg275,
 z171:=Tryz.sizeOf275,
 v171:=Tryz.zeroValue275,
 t173:=underlying277,
 a173:=Tryz.isAgg277,
 z173:=Tryz.sizeOf277,
 v173:=Tryz.zeroValue277,
 t175:=underlying285,
 a175:=Tryz.isAgg285,
 z175:=Tryz.sizeOf285,
 v175:=Tryz.zeroValue285,
 t210:=underlying289,
 a210:=Tryz.isAgg289,
 z210:=Tryz.sizeOf289,
 v210:=Tryz.zeroValue289,
 t212:=underlying293,
 a212:=Tryz.isAgg293,
 z212:=Tryz.sizeOf293,
 v212:=Tryz.zeroValue293,
 t213:=underlying294,
 a213:=Tryz.isAgg294,
 z213:=Tryz.sizeOf294,
 t232:=underlying303,
 a232:=Tryz.isAgg303,
 z232:=Tryz.sizeOf303,
 v232:=Tryz.zeroValue303,
 t233:=underlying304,
 a233:=Tryz.isAgg304,
 z233:=Tryz.sizeOf304,
 v233:=Tryz.zeroValue304,
 g15:=by kernel_rfl,
 g16:=by kernel_rfl,
 g17:=by kernel_rfl,
 g18:=by kernel_rfl,
 g19:=by kernel_rfl}
theorem a29:LaysM.n172 prog Hu:= {a4q with
 t80:=underlying305,
 a80:=Tryz.isAgg305,
 z80:=Tryz.sizeOf305,
 v80:=Tryz.zeroValue305,
 i0:=by kernel_rfl,
 i2:=by kernel_rfl,
 i3:=by kernel_rfl,
 i4:=by kernel_rfl,
 i5:=by kernel_rfl,
 i9:=by kernel_rfl,
 i20:=by kernel_rfl,
 i21:=by kernel_rfl,
 i37:=by kernel_rfl,
 i46:=by kernel_rfl,
 i51:=by kernel_rfl,
 i53:=by kernel_rfl,
 i75:=by kernel_rfl,
 i76:=by kernel_rfl,
 i80:=by kernel_rfl,
 i85:=by kernel_rfl,
 i127:=by kernel_rfl,
 i143:=by kernel_rfl,
 i145:=by kernel_rfl,
 i167:=by kernel_rfl,
 i168:=by kernel_rfl,
 i171:=by kernel_rfl,
 i173:=by kernel_rfl,
 i175:=by kernel_rfl,
 i210:=by kernel_rfl,
 i212:=by kernel_rfl,
 i232:=by kernel_rfl,
 i233:=by kernel_rfl,
 m15:=by kernel_rfl,
 m16:=by kernel_rfl,
 m17:=by kernel_rfl,
 m18:=by kernel_rfl,
 m19:=by kernel_rfl}
theorem a26:LaysC.n172 prog Hu:= {a29 with
 c0:=by kernel_rfl,
 c2:=by kernel_rfl,
 c3:=by kernel_rfl,
 c4:=by kernel_rfl,
 c5:=by kernel_rfl,
 c9:=by kernel_rfl,
 c20:=by kernel_rfl,
 c21:=by kernel_rfl,
 c37:=by kernel_rfl,
 c46:=by kernel_rfl,
 c51:=by kernel_rfl,
 c53:=by kernel_rfl,
 c75:=by kernel_rfl,
 c76:=by kernel_rfl,
 c80:=by kernel_rfl,
 c85:=by kernel_rfl,
 c127:=by kernel_rfl,
 c143:=by kernel_rfl,
 c145:=by kernel_rfl,
 c167:=by kernel_rfl,
 c168:=by kernel_rfl,
 c171:=by kernel_rfl,
 c173:=by kernel_rfl,
 c175:=by kernel_rfl,
 c210:=by kernel_rfl,
 c212:=by kernel_rfl,
 c213:=by kernel_rfl,
 c232:=by kernel_rfl,
 c233:=by kernel_rfl}
def Bz(aB:Bytes):Option (Int×Bool):=TL aB
theorem Js{aB:Bytes}{r:Int×Bool}(h:Bz aB=some r):Good prog 280 [.str aB] (.iF [.int .i64 r.1,.ifc r.2]):=V5 a26 (g:=1) (by kernel_rfl) (aC (i:=1) (by kernel_rfl)) h
def V7:Ren:=⟨fun|106=>220|213=>267|265=>279|n=>n,fun|9=>9|3=>3|n=>n,fun|n=>n⟩
theorem a4o:Lays.n106 prog V7:= {
 mixed:=by kernel_rfl,
 f106:=func220.trans (congrArg some (by kernel_rfl)),
 f213:=func267.trans (congrArg some (by kernel_rfl)),
 f265:=func279.trans (congrArg some (by kernel_rfl)),
 t3:=underlying3,
 a3:=Tryz.isAgg3,
 z3:=Tryz.sizeOf3,
 v3:=Tryz.zeroValue3,
 t9:=underlying9,
 a9:=Tryz.isAgg9,
 z9:=Tryz.sizeOf9,
 v9:=Tryz.zeroValue9}
def rG(aB:Bytes)(aV:Bytes):Option Int:=(fun a b:Bytes=>some (Lib.compareBytes a b)) aB aV
theorem tv{aB:Bytes}{aV:Bytes}{r:Int}(h:rG aB aV=some r):Good prog 220 [.str aB,.str aV] (.int .i64 r):=by cases h;exact Qf a4o
end Go.Cx
