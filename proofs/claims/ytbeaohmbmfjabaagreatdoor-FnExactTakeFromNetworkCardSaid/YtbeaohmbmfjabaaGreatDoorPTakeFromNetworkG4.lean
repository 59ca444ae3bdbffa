/- What functions of the program compute, and the walks that show it. No condition. -/
import Derived.Test.YtbeaohmbmfjabaaGreatDoorPTakeFromNetworkG3
import Derived.Shelf.Strings.OnBuilder
import Derived.Test.YtbeaohmbmfjabaaGreatDoorPTakeFromNetworkG2
import Derived.Shelf.Sort.Plain
import Derived.Shelf.Slices.In.SortNone2
import Derived.Shelf.Strconv.Itoa3
import Derived.WalkSmall
import Derived.Shelf.Strconv.Atoi
import Derived.Shelf.Strconv.ErrVar
import Derived.Shelf.Small.Strs
import Derived.Lib.AtoiBound
set_option linter.unusedVariables false
set_option linter.unusedSimpArgs false
namespace Go.Cx
open Go.RowKit Go.Proofs Tryz
set_option maxRecDepth 100000
variable{Γ:vP}{N:Nat->St->Prop}
def fK(k1:Bytes->Option Bytes):Nat->Int->Bytes->Option Bytes
 |0,_,_=>none
 |n1+1,wq,nc=>(bif decide ((wq:Int)>0)then(bif decide (0<=(wq:Int))&&decide (0<(10:Int))then(bif decide (([UInt8.ofNat (IntKind.u8.wrap (IntKind.i64.wrap (48+((wq:Int)%10)))).toNat]:Bytes).length+(nc:Bytes).length<=maxLen)then(bif decide (0<=(wq:Int))&&decide (0<(10:Int))then(fK k1 n1 ((wq:Int)/10) (([UInt8.ofNat (IntKind.u8.wrap (IntKind.i64.wrap (48+((wq:Int)%10)))).toNat])++nc))else none)else none)else none)else(k1 nc))
def c8(aB:Int):Option Bytes:=(bif decide ((aB:Int)<=0)then(some ([109,48]))else(fK (fun(Rg:Bytes)=>(bif decide (([109]:Bytes).length+(Rg:Bytes).length<=maxLen)then(some (([109])++Rg))else none)) fuel aB ([])))
def Ks(wq:Int)(nc:Bytes):St:=⟨[(0,D.int .i64 wq),(3,D.str nc)],[]⟩
theorem J5(hΓ:Γ.nt=20){r:Bytes}{k1:Bytes->Option Bytes}(cX:∀(Rg:Bytes),k1 Rg=some r->Ax Γ N f61 (.q [[none]] (D.str r)) [1,1,1,1] ⟨[(3,D.str Rg)],[]⟩):∀(n1:Nat) (wq:Int) (nc:Bytes),fK k1 n1 wq nc=some r->Ar Γ N f61 (.q [[none]] (D.str r)) [1,1,1,0,0] n1 (Ks wq nc):=by
 intro n
 induction n with
 |zero=>intro wq nc h;simp[fK]at h
 |succ n1 ih1=>
  intro wq nc h;rw[fK]at h;refine aM fun N1 bu bq=>?_
  obtain⟨h10,h⟩|⟨h10,h⟩:=aL h
  ·obtain⟨h11,h⟩:=bX h;obtain⟨h12,h⟩:=bX h;obtain⟨h13,h⟩:=bX h;exact(((((aU.b h10).w (TZ .i64 h11)).w (bt h12)).w (TZ .i64 h13)).a [.cn [0,3] []]).cf hΓ bq (ih1 ((wq:Int)/10) (([UInt8.ofNat (IntKind.u8.wrap (IntKind.i64.wrap (48+((wq:Int)%10)))).toNat])++nc) h)
  ·exact((aU.b h10).a [.hl 0 [3] []]).ex hΓ bu (cX nc h)
theorem bg{aB:Int}{r:Bytes}(h:c8 aB=some r):Good prog 61 [D.int .i64 aB] (D.str r):=by
 refine gd func61 [[none]] 20 fun hr Γ hΓ=>?_
 rw[c8]at h;obtain⟨h1,h⟩|⟨h1,h⟩:=aL h
 ·cases h;exact(aU.b h1).ret hΓ
 ·refine((aU.b h1).a [.cn [0,3] []]).lp hΓ (J5 hΓ (fun Rg h=>?_) fuel aB ([]) h);obtain⟨h14,h⟩:=bX h;cases h;exact(aU.w (bt h14)).rts hΓ (D.str (([109])++Rg)) (by first|rfl| (simp only[mA]<;>rfl))
def fR(k1:aI->Int->Option (aI×Int)):aI->aI->Int->Option (aI×Int)
 | [],bf,b7=>(k1 bf b7)
 |bD::bn,bf,b7=>((c8 b7).bind fun y1=>(fR k1 bn (bf++[y1]) (IntKind.i64.wrap (b7+1))))
def fJ(aB:aI)(aV:Int):Option (aI×Int):=(fR (fun(bO:aI) (cJ:Int)=>(some (bO,cJ))) aB [] aV)
theorem EP{Γ:vP}(hΓ:Γ.nt=20){N:Nat->St->Prop}{ey:Value}{r:aI×Int}{k1:aI->Int->Option (aI×Int)}(cX:∀(bO:aI) (cJ:Int),k1 bO cJ=some r->AW prog Γ (lc f62 [1,1]) (KQ prog Γ N (uz prog f62 [ey] [(1,r.1.map tx)] (D.int .i64 r.2)) (AF f62 [1,1])) ⟨[(1,D.int .i64 cJ)],[Ob.ew 1 (bO.map tx) (some ey)]⟩):∀(rest:aI) (bf:aI) (b7:Int),bf.length+rest.length<=maxLen->fR k1 rest bf b7=some r->PZ prog Γ (lc f62 [1,0,1,0,0]) (KQ prog Γ N (uz prog f62 [ey] [(1,r.1.map tx)] (D.int .i64 r.2)) (AF f62 [1,0,1,0])) (rest.length+1) ⟨[(0,D.acc 0),(1,D.int .i64 b7),(5,D.int .i64 (bf.length:Int))],[Ob.ew 1 (bf.map tx++rest.map tx) (some ey)]⟩:=by
 intro rest
 induction rest with
 |nil=>
  intro bf b7 hm1 h;rw[fR]at h;refine aM fun N1 bu bq=>?_
  have t:=Pr (N:=N) (N':=N1) (K0:=(AF f62 [1,0,1,0])) (by kernel_rfl) bu (cX bf b7 h);refine fM (n:=2000) 1 [bF,.hl 0 [1] [0]] (.at_ (lc f62 [1,1]) (AF f62 [1,1]) ⟨[(1,D.int .i64 b7)],[Ob.ew 1 (bf.map tx++([]:aI).map tx) (some ey)]⟩) hΓ C0 (by kernel_rfl) (ow (show(decide (((bf.length:Int):Int)<((bf.map tx++([]:aI).map tx).length:Int)))=false from(Cq _)) D5) ?_;refine wz (s:=⟨[(1,D.int .i64 b7)],[Ob.ew 1 (bf.map tx++([]:aI).map tx) (some ey)]⟩) ?_ t;simp only[bV,cM]
 |cons bD bn ih1=>
  intro bf b7 hm1 h;rw[fR]at h;refine aM fun N1 bu bq=>?_
  obtain⟨y1,h2,h⟩:=aD h;have t:=ih1 (bf++[y1]) (IntKind.i64.wrap (b7+1)) (by simp only[aX,aK,bK]at hm1⊢;omega) h;refine fM (n:=2000) 1 [bT,.d (D.str y1),.ix (bf.length),.row [D.str bD],.cn [0,1,5] [0]] (.cont 0 ⟨[(0,D.acc 0),(1,D.int .i64 (IntKind.i64.wrap (b7+1))),(5,D.int .i64 (IntKind.i64.wrap ((bf.length:Int)+1)))],[Ob.ew 1 ((bf.map tx++([D.str bD]::bn.map tx)).set bf.length [D.str y1]) (some ey)]⟩) hΓ C0 (by kernel_rfl) (ow (show(decide (((bf.length:Int):Int)<((bf.map tx++([D.str bD]::bn.map tx)).length:Int)))=true from(Ct _ _ _)) (ow (bg h2) (ow (show(bf.length:Int)=((bf.length:Nat):Int)/\bf.length<(bf.map tx++([D.str bD]::bn.map tx)).length from⟨rfl,by simp only[bZ,aX,aZ,aK];omega⟩) (ow (show(bf.map tx++([D.str bD]::bn.map tx))[bf.length]?=some [D.str bD]from by(try simp only[cw]);exact dU _ _ _) D5)))) ?_;refine(congrFun bq _).mpr ?_;rw[zS (by simp only[aK]at hm1;omega)];simp only[cw];simp only[bS,bG,bV,bY,dP,cN,aX,aK,bK]at t⊢;exact t
theorem iN{aB:aI}{aV:Int}{r:aI×Int}(h:fJ aB aV=some r):rj prog 62 [D.acc 0,D.int .i64 aV] [(1,aB.map tx)] [(1,r.1.map tx)] (D.int .i64 r.2):=by
 refine rj.of (c:=jt f62) func62 rfl (by decide) (by simp[f62]) rfl rfl ?_;intro hr Γ hΓ vs hvs
 match vs,hvs with
 | [ey],_=>
 have hΓ:Γ.nt=20:=hΓ;rw[fJ]at h;refine(show AW prog Γ (jt f62) (KQ prog Γ (fun _ _=>False) (uz prog f62 [ey] [(1,r.1.map tx)] (D.int .i64 r.2)) []) _ from ?_);refine fM (n:=2000) 1 [.cn [0,1,5] [0]] (.lp (lc f62 [1,0,1,0,0]) (AF f62 [1,0,1,0]) ⟨[(0,D.acc 0),(1,D.int .i64 aV),(5,D.int .i64 0)],[Ob.ew 1 (aB.map tx) (some ey)]⟩) hΓ C0 (by kernel_rfl) D5 (wz (by rfl) (yO (EP hΓ (fun bO cJ h=>?_) aB [] aV (by have:=hr _ (aC (i:=0) rfl);simpa using this) h)));have h:=aG h;subst h;exact fM (n:=2000) 1 [] (.ret (D.gb [D.int .i64 cJ,D.agg [D.fr 0 1 (bO.map tx),D.val ey]])) hΓ C0 (by kernel_rfl) D5 rfl
def gu(k1:aj->Int->Option (aj×Int)):aj->aj->Int->Option (aj×Int)
 | [],bf,b7=>(k1 bf b7)
 |bD::bn,bf,b7=>((c8 (IntKind.i64.wrap (b7+1))).bind fun y1=>((fJ bD.pat.args (IntKind.i64.wrap ((IntKind.i64.wrap (b7+1))+1))).bind fun y3=>((c8 y3.2).bind fun y5=>((c8 (IntKind.i64.wrap (y3.2+1))).bind fun y7=>(gu k1 bn (bf++[(⟨b7,(⟨y1,y3.1⟩:aE),y5,y7⟩:aN)]) (IntKind.i64.wrap ((IntKind.i64.wrap (y3.2+1))+1)))))))
def sj(aB:aj)(aV:Int):Option (aj×Int):=(gu (fun(bO:aj) (cJ:Int)=>(some (bO,cJ))) aB [] aV)
theorem Gn{Γ:vP}(hΓ:Γ.nt=53){N:Nat->St->Prop}{ey:Value}{r:aj×Int}{k1:aj->Int->Option (aj×Int)}(cX:∀(bO:aj) (cJ:Int),k1 bO cJ=some r->AW prog Γ (lc f117 [1,1]) (KQ prog Γ N (uz prog f117 [ey] [(5,r.1.map aN.c)] (D.int .i64 r.2)) (AF f117 [1,1])) ⟨[(1,D.int .i64 cJ)],[Ob.ew 5 (bO.map aN.c) (some ey)]⟩):∀(rest:aj) (bf:aj) (b7:Int),bf.length+rest.length<=maxLen->gu k1 rest bf b7=some r->PZ prog Γ (lc f117 [1,0,1,0,0]) (KQ prog Γ N (uz prog f117 [ey] [(5,r.1.map aN.c)] (D.int .i64 r.2)) (AF f117 [1,0,1,0])) (rest.length+1) ⟨[(0,D.acc 0),(1,D.int .i64 b7),(5,D.int .i64 (bf.length:Int))],[Ob.ew 5 (bf.map aN.c++rest.map aN.c) (some ey)]⟩:=by
 intro rest
 induction rest with
 |nil=>
  intro bf b7 hm1 h;rw[gu]at h;refine aM fun N1 bu bq=>?_
  have t:=Pr (N:=N) (N':=N1) (K0:=(AF f117 [1,0,1,0])) (by kernel_rfl) bu (cX bf b7 h);refine fM (n:=2000) 1 [bF,.hl 0 [1] [0]] (.at_ (lc f117 [1,1]) (AF f117 [1,1]) ⟨[(1,D.int .i64 b7)],[Ob.ew 5 (bf.map aN.c++([]:aj).map aN.c) (some ey)]⟩) hΓ C0 (by kernel_rfl) (ow (show(decide (((bf.length:Int):Int)<((bf.map aN.c++([]:aj).map aN.c).length:Int)))=false from(Cq _)) D5) ?_;refine wz (s:=⟨[(1,D.int .i64 b7)],[Ob.ew 5 (bf.map aN.c++([]:aj).map aN.c) (some ey)]⟩) ?_ t;simp only[bV,cM]
 |cons bD bn ih1=>
  intro bf b7 hm1 h;rw[gu]at h;refine aM fun N1 bu bq=>?_
  obtain⟨y1,h2,h⟩:=aD h;obtain⟨y3,h4,h⟩:=aD h;obtain⟨y5,h6,h⟩:=aD h;obtain⟨y7,h8,h⟩:=aD h;have t:=ih1 (bf++[(⟨b7,(⟨y1,y3.1⟩:aE),y5,y7⟩:aN)]) (IntKind.i64.wrap ((IntKind.i64.wrap (y3.2+1))+1)) (by simp only[aX,aK,bK]at hm1⊢;omega) h;let Vi:aR:=[D.int .i64 b7,D.str y1,D.any,D.str bD.left,D.str bD.right]
  let UD:aR:=[D.int .i64 b7,D.str y1,D.sl (y3.1.map tx),D.str y5,D.str bD.right]
  let Vu:aR:=[D.int .i64 b7,D.str y1,D.sl (y3.1.map tx),D.str bD.left,D.str bD.right]
  let U1:aR:=[D.int .i64 b7,D.str y1,D.sl (bD.pat.args.map tx),D.str bD.left,D.str bD.right]
  let Vv:aR:=[D.int .i64 b7,D.str bD.pat.rel,D.sl (bD.pat.args.map tx),D.str bD.left,D.str bD.right]
  let U2:aR:=[D.int .i64 bD.kind,D.str bD.pat.rel,D.sl (bD.pat.args.map tx),D.str bD.left,D.str bD.right]
  let U3:List aR:=((bf.map aN.c++(U2::bn.map aN.c)).set bf.length Vv)
  let UF:List aR:=(((U3.set bf.length U1).set bf.length Vi).set bf.length Vu)
  refine fM (n:=2000) 1 [bT,.ix (bf.length),.row U2,.d (D.str y1),.ix (bf.length),.row Vv,.ix (bf.length),.row U1,.gv [1] [(1,y3.1.map tx)] (D.int .i64 y3.2),.mg 0 bf.length 2 Vi,.d (D.str y5),.ix (bf.length),.row Vu,.d (D.str y7),.ix (bf.length),.row UD,.cn [0,1,5] [0]] (.cont 0 ⟨[(0,D.acc 0),(1,D.int .i64 (IntKind.i64.wrap ((IntKind.i64.wrap (y3.2+1))+1))),(5,D.int .i64 (IntKind.i64.wrap ((bf.length:Int)+1)))],[Ob.ew 5 ((UF.set bf.length UD).set bf.length [D.int .i64 b7,D.str y1,D.sl (y3.1.map tx),D.str y5,D.str y7]) (some ey)]⟩) hΓ C0 (by kernel_rfl) (ow (show(decide (((bf.length:Int):Int)<((bf.map aN.c++(U2::bn.map aN.c)).length:Int)))=true from(Ct _ _ _)) (ow (show(bf.length:Int)=((bf.length:Nat):Int)/\bf.length<(bf.map aN.c++(U2::bn.map aN.c)).length from⟨rfl,by simp only[UF,U3,U2,Vv,U1,Vu,UD,Vi,bZ,aX,aZ,aK];omega⟩) (ow (show(bf.map aN.c++(U2::bn.map aN.c))[bf.length]?=some U2 from by(try simp only[UF,U3,U2,Vv,U1,Vu,UD,Vi,cw]);exact dU _ _ _) (ow (bg h2) (ow (show(bf.length:Int)=((bf.length:Nat):Int)/\bf.length<U3.length from⟨rfl,by simp only[UF,U3,U2,Vv,U1,Vu,UD,Vi,bZ,aX,aZ,aK];omega⟩) (ow (show U3[bf.length]?=some Vv from by(try simp only[UF,U3,U2,Vv,U1,Vu,UD,Vi,cw]);exact dU _ _ _) (ow (show(bf.length:Int)=((bf.length:Nat):Int)/\bf.length<(U3.set bf.length U1).length from⟨rfl,by simp only[UF,U3,U2,Vv,U1,Vu,UD,Vi,bZ,aX,aZ,aK];omega⟩) (ow (show(U3.set bf.length U1)[bf.length]?=some U1 from by(try simp only[UF,U3,U2,Vv,U1,Vu,UD,Vi,cw]);exact dU _ _ _) (ow (show∀q∈(bD.pat.args.map tx),q.length=1 from by simp) (ow (iN h4) (ow (show((U3.set bf.length U1).set bf.length Vi)[bf.length]?=some Vi from by(try simp only[UF,U3,U2,Vv,U1,Vu,UD,Vi,cw]);exact dU _ _ _) (ow (show(bf.length*5+2)=bf.length*5+2 from rfl) (ow (bg h6) (ow (show(bf.length:Int)=((bf.length:Nat):Int)/\bf.length<UF.length from⟨rfl,by simp only[UF,U3,U2,Vv,U1,Vu,UD,Vi,bZ,aX,aZ,aK];omega⟩) (ow (show UF[bf.length]?=some Vu from by(try simp only[UF,U3,U2,Vv,U1,Vu,UD,Vi,cw]);exact dU _ _ _) (ow (bg h8) (ow (show(bf.length:Int)=((bf.length:Nat):Int)/\bf.length<(UF.set bf.length UD).length from⟨rfl,by simp only[UF,U3,U2,Vv,U1,Vu,UD,Vi,bZ,aX,aZ,aK];omega⟩) (ow (show(UF.set bf.length UD)[bf.length]?=some UD from by(try simp only[UF,U3,U2,Vv,U1,Vu,UD,Vi,cw]);exact dU _ _ _) D5)))))))))))))))))) ?_;refine(congrFun bq _).mpr ?_;rw[zS (by simp only[aK]at hm1;omega)];simp only[UF,U3,U2,Vv,U1,Vu,UD,Vi,cw];simp only[bS,bG,bV,bY,dP,cN,aX,aK,bK]at t⊢;exact t
theorem FU{aB:aj}{aV:Int}{r:aj×Int}(h:sj aB aV=some r):rj prog 117 [D.acc 0,D.int .i64 aV] [(5,aB.map aN.c)] [(5,r.1.map aN.c)] (D.int .i64 r.2):=by
 refine rj.of (c:=jt f117) func117 rfl (by decide) (by simp[f117]) rfl rfl ?_;intro hr Γ hΓ vs hvs
 match vs,hvs with
 | [ey],_=>
 have hΓ:Γ.nt=53:=hΓ;rw[sj]at h;refine(show AW prog Γ (jt f117) (KQ prog Γ (fun _ _=>False) (uz prog f117 [ey] [(5,r.1.map aN.c)] (D.int .i64 r.2)) []) _ from ?_);refine fM (n:=2000) 1 [.cn [0,1,5] [0]] (.lp (lc f117 [1,0,1,0,0]) (AF f117 [1,0,1,0]) ⟨[(0,D.acc 0),(1,D.int .i64 aV),(5,D.int .i64 0)],[Ob.ew 5 (aB.map aN.c) (some ey)]⟩) hΓ C0 (by kernel_rfl) D5 (wz (by rfl) (yO (Gn hΓ (fun bO cJ h=>?_) aB [] aV (by have:=hr _ (aC (i:=0) rfl);simpa using this) h)));have h:=aG h;subst h;exact fM (n:=2000) 1 [] (.ret (D.gb [D.int .i64 cJ,D.agg [D.fr 0 5 (bO.map aN.c),D.val ey]])) hΓ C0 (by kernel_rfl) D5 rfl
def fQ(k1:bw->Int->Option (bw×Int)):bw->bw->Int->Option (bw×Int)
 | [],bf,b7=>(k1 bf b7)
 |bD::bn,bf,b7=>((c8 (IntKind.i64.wrap (b7+1))).bind fun y1=>((fJ bD.pat.args (IntKind.i64.wrap ((IntKind.i64.wrap (b7+1))+1))).bind fun y3=>(fQ k1 bn (bf++[(⟨b7,(⟨y1,y3.1⟩:aE)⟩:Action)]) y3.2)))
def q8(aB:bw)(aV:Int):Option (bw×Int):=(fQ (fun(bO:bw) (cJ:Int)=>(some (bO,cJ))) aB [] aV)
theorem EN{Γ:vP}(hΓ:Γ.nt=37){N:Nat->St->Prop}{ey:Value}{r:bw×Int}{k1:bw->Int->Option (bw×Int)}(cX:∀(bO:bw) (cJ:Int),k1 bO cJ=some r->AW prog Γ (lc f118 [1,1]) (KQ prog Γ N (uz prog f118 [ey] [(3,r.1.map Action.c)] (D.int .i64 r.2)) (AF f118 [1,1])) ⟨[(1,D.int .i64 cJ)],[Ob.ew 3 (bO.map Action.c) (some ey)]⟩):∀(rest:bw) (bf:bw) (b7:Int),bf.length+rest.length<=maxLen->fQ k1 rest bf b7=some r->PZ prog Γ (lc f118 [1,0,1,0,0]) (KQ prog Γ N (uz prog f118 [ey] [(3,r.1.map Action.c)] (D.int .i64 r.2)) (AF f118 [1,0,1,0])) (rest.length+1) ⟨[(0,D.acc 0),(1,D.int .i64 b7),(5,D.int .i64 (bf.length:Int))],[Ob.ew 3 (bf.map Action.c++rest.map Action.c) (some ey)]⟩:=by
 intro rest
 induction rest with
 |nil=>
  intro bf b7 hm1 h;rw[fQ]at h;refine aM fun N1 bu bq=>?_
  have t:=Pr (N:=N) (N':=N1) (K0:=(AF f118 [1,0,1,0])) (by kernel_rfl) bu (cX bf b7 h);refine fM (n:=2000) 1 [bF,.hl 0 [1] [0]] (.at_ (lc f118 [1,1]) (AF f118 [1,1]) ⟨[(1,D.int .i64 b7)],[Ob.ew 3 (bf.map Action.c++([]:bw).map Action.c) (some ey)]⟩) hΓ C0 (by kernel_rfl) (ow (show(decide (((bf.length:Int):Int)<((bf.map Action.c++([]:bw).map Action.c).length:Int)))=false from(Cq _)) D5) ?_;refine wz (s:=⟨[(1,D.int .i64 b7)],[Ob.ew 3 (bf.map Action.c++([]:bw).map Action.c) (some ey)]⟩) ?_ t;simp only[bV,cM]
 |cons bD bn ih1=>
  intro bf b7 hm1 h;rw[fQ]at h;refine aM fun N1 bu bq=>?_
  obtain⟨y1,h2,h⟩:=aD h;obtain⟨y3,h4,h⟩:=aD h;have t:=ih1 (bf++[(⟨b7,(⟨y1,y3.1⟩:aE)⟩:Action)]) y3.2 (by simp only[aX,aK,bK]at hm1⊢;omega) h;let W_8:aR:=[D.int .i64 b7,D.str y1,D.sl (bD.pat.args.map tx)]
  let Yt:aR:=[D.int .i64 b7,D.str bD.pat.rel,D.sl (bD.pat.args.map tx)]
  let Pv:aR:=[D.int .i64 bD.kind,D.str bD.pat.rel,D.sl (bD.pat.args.map tx)]
  let M7:List aR:=(bf.map Action.c++(Pv::bn.map Action.c))
  let PA:List aR:=((M7.set bf.length Yt).set bf.length W_8)
  refine fM (n:=2000) 1 [bT,.ix (bf.length),.row Pv,.d (D.str y1),.ix (bf.length),.row Yt,.ix (bf.length),.row W_8,.gv [1] [(1,y3.1.map tx)] (D.int .i64 y3.2),.mg 0 bf.length 2 [D.int .i64 b7,D.str y1,D.any],.cn [0,1,5] [0]] (.cont 0 ⟨[(0,D.acc 0),(1,D.int .i64 y3.2),(5,D.int .i64 (IntKind.i64.wrap ((bf.length:Int)+1)))],[Ob.ew 3 ((PA.set bf.length [D.int .i64 b7,D.str y1,D.any]).set bf.length [D.int .i64 b7,D.str y1,D.sl (y3.1.map tx)]) (some ey)]⟩) hΓ C0 (by kernel_rfl) (ow (show(decide (((bf.length:Int):Int)<(M7.length:Int)))=true from(Ct _ _ _)) (ow (show(bf.length:Int)=((bf.length:Nat):Int)/\bf.length<M7.length from⟨rfl,by simp only[PA,M7,Pv,Yt,W_8,bZ,aX,aZ,aK];omega⟩) (ow (show M7[bf.length]?=some Pv from by(try simp only[PA,M7,Pv,Yt,W_8,cw]);exact dU _ _ _) (ow (bg h2) (ow (show(bf.length:Int)=((bf.length:Nat):Int)/\bf.length<(M7.set bf.length Yt).length from⟨rfl,by simp only[PA,M7,Pv,Yt,W_8,bZ,aX,aZ,aK];omega⟩) (ow (show(M7.set bf.length Yt)[bf.length]?=some Yt from by(try simp only[PA,M7,Pv,Yt,W_8,cw]);exact dU _ _ _) (ow (show(bf.length:Int)=((bf.length:Nat):Int)/\bf.length<PA.length from⟨rfl,by simp only[PA,M7,Pv,Yt,W_8,bZ,aX,aZ,aK];omega⟩) (ow (show PA[bf.length]?=some W_8 from by(try simp only[PA,M7,Pv,Yt,W_8,cw]);exact dU _ _ _) (ow (show∀q∈(bD.pat.args.map tx),q.length=1 from by simp) (ow (iN h4) (ow (show(PA.set bf.length [D.int .i64 b7,D.str y1,D.any])[bf.length]?=some [D.int .i64 b7,D.str y1,D.any]from by(try simp only[PA,M7,Pv,Yt,W_8,cw]);exact dU _ _ _) (ow (show(bf.length*3+2)=bf.length*3+2 from rfl) D5)))))))))))) ?_;refine(congrFun bq _).mpr ?_;rw[zS (by simp only[aK]at hm1;omega)];simp only[PA,M7,Pv,Yt,W_8,cw];simp only[bS,bG,bV,bY,dP,cN,aX,aK,bK]at t⊢;exact t
theorem DP{aB:bw}{aV:Int}{r:bw×Int}(h:q8 aB aV=some r):rj prog 118 [D.acc 0,D.int .i64 aV] [(3,aB.map Action.c)] [(3,r.1.map Action.c)] (D.int .i64 r.2):=by
 refine rj.of (c:=jt f118) func118 rfl (by decide) (by simp[f118]) rfl rfl ?_;intro hr Γ hΓ vs hvs
 match vs,hvs with
 | [ey],_=>
 have hΓ:Γ.nt=37:=hΓ;rw[q8]at h;refine(show AW prog Γ (jt f118) (KQ prog Γ (fun _ _=>False) (uz prog f118 [ey] [(3,r.1.map Action.c)] (D.int .i64 r.2)) []) _ from ?_);refine fM (n:=2000) 1 [.cn [0,1,5] [0]] (.lp (lc f118 [1,0,1,0,0]) (AF f118 [1,0,1,0]) ⟨[(0,D.acc 0),(1,D.int .i64 aV),(5,D.int .i64 0)],[Ob.ew 3 (aB.map Action.c) (some ey)]⟩) hΓ C0 (by kernel_rfl) D5 (wz (by rfl) (yO (EN hΓ (fun bO cJ h=>?_) aB [] aV (by have:=hr _ (aC (i:=0) rfl);simpa using this) h)));have h:=aG h;subst h;exact fM (n:=2000) 1 [] (.ret (D.gb [D.int .i64 cJ,D.agg [D.fr 0 3 (bO.map Action.c),D.val ey]])) hΓ C0 (by kernel_rfl) D5 rfl
def gz(k1:au->Int->Option (au×Int)):au->au->Int->Option (au×Int)
 | [],bf,b7=>(k1 bf b7)
 |bD::bn,bf,b7=>((c8 b7).bind fun y1=>((sj bD.conds (IntKind.i64.wrap ((IntKind.i64.wrap (b7+1))+1))).bind fun y3=>((q8 bD.cr y3.2).bind fun y5=>(gz k1 bn (bf++[(⟨y1,IntKind.i64.wrap (b7+1),y3.1,y5.1⟩:aO)]) y5.2))))
def su(aB:au)(aV:Int):Option (au×Int):=(gz (fun(bO:au) (cJ:Int)=>(some (bO,cJ))) aB [] aV)
theorem Gu{Γ:vP}(hΓ:Γ.nt=42){N:Nat->St->Prop}{ey:Value}{r:au×Int}{k1:au->Int->Option (au×Int)}(cX:∀(bO:au) (cJ:Int),k1 bO cJ=some r->AW prog Γ (lc f57 [1,1]) (KQ prog Γ N (uz prog f57 [ey] [(4,r.1.map aO.c)] (D.int .i64 r.2)) (AF f57 [1,1])) ⟨[(1,D.int .i64 cJ)],[Ob.ew 4 (bO.map aO.c) (some ey)]⟩):∀(rest:au) (bf:au) (b7:Int),bf.length+rest.length<=maxLen->gz k1 rest bf b7=some r->PZ prog Γ (lc f57 [1,0,1,0,0]) (KQ prog Γ N (uz prog f57 [ey] [(4,r.1.map aO.c)] (D.int .i64 r.2)) (AF f57 [1,0,1,0])) (rest.length+1) ⟨[(0,D.acc 0),(1,D.int .i64 b7),(5,D.int .i64 (bf.length:Int))],[Ob.ew 4 (bf.map aO.c++rest.map aO.c) (some ey)]⟩:=by
 intro rest
 induction rest with
 |nil=>
  intro bf b7 hm1 h;rw[gz]at h;refine aM fun N1 bu bq=>?_
  have t:=Pr (N:=N) (N':=N1) (K0:=(AF f57 [1,0,1,0])) (by kernel_rfl) bu (cX bf b7 h);refine fM (n:=2000) 1 [bF,.hl 0 [1] [0]] (.at_ (lc f57 [1,1]) (AF f57 [1,1]) ⟨[(1,D.int .i64 b7)],[Ob.ew 4 (bf.map aO.c++([]:au).map aO.c) (some ey)]⟩) hΓ C0 (by kernel_rfl) (ow (show(decide (((bf.length:Int):Int)<((bf.map aO.c++([]:au).map aO.c).length:Int)))=false from(Cq _)) D5) ?_;refine wz (s:=⟨[(1,D.int .i64 b7)],[Ob.ew 4 (bf.map aO.c++([]:au).map aO.c) (some ey)]⟩) ?_ t;simp only[bV,cM]
 |cons bD bn ih1=>
  intro bf b7 hm1 h;rw[gz]at h;refine aM fun N1 bu bq=>?_
  obtain⟨y1,h2,h⟩:=aD h;obtain⟨y3,h4,h⟩:=aD h;obtain⟨y5,h6,h⟩:=aD h;have t:=ih1 (bf++[(⟨y1,IntKind.i64.wrap (b7+1),y3.1,y5.1⟩:aO)]) y5.2 (by simp only[aX,aK,bK]at hm1⊢;omega) h;let KJ:aR:=[D.str y1,D.int .i64 (IntKind.i64.wrap (b7+1)),D.sl (y3.1.map aN.c),D.any]
  let M8:aR:=[D.str y1,D.int .i64 (IntKind.i64.wrap (b7+1)),D.any,D.sl (bD.cr.map Action.c)]
  let M9:aR:=[D.str y1,D.int .i64 bD.prio,D.sl (bD.conds.map aN.c),D.sl (bD.cr.map Action.c)]
  let G5:aR:=[D.str bD.name,D.int .i64 bD.prio,D.sl (bD.conds.map aN.c),D.sl (bD.cr.map Action.c)]
  let IM:List aR:=((bf.map aO.c++(G5::bn.map aO.c)).set bf.length M9)
  let G6:aR:=[D.str y1,D.int .i64 (IntKind.i64.wrap (b7+1)),D.sl (y3.1.map aN.c),D.sl (bD.cr.map Action.c)]
  let IN:aR:=[D.str y1,D.int .i64 (IntKind.i64.wrap (b7+1)),D.sl (bD.conds.map aN.c),D.sl (bD.cr.map Action.c)]
  let IP:List aR:=((IM.set bf.length IN).set bf.length M8)
  refine fM (n:=2000) 1 [bT,.d (D.str y1),.ix (bf.length),.row G5,.ix (bf.length),.row M9,.ix (bf.length),.row IN,.gv [1] [(5,y3.1.map aN.c)] (D.int .i64 y3.2),.mg 0 bf.length 2 M8,.ix (bf.length),.row G6,.gv [2] [(3,y5.1.map Action.c)] (D.int .i64 y5.2),.mg 0 bf.length 3 KJ,.cn [0,1,5] [0]] (.cont 0 ⟨[(0,D.acc 0),(1,D.int .i64 y5.2),(5,D.int .i64 (IntKind.i64.wrap ((bf.length:Int)+1)))],[Ob.ew 4 (((IP.set bf.length G6).set bf.length KJ).set bf.length [D.str y1,D.int .i64 (IntKind.i64.wrap (b7+1)),D.sl (y3.1.map aN.c),D.sl (y5.1.map Action.c)]) (some ey)]⟩) hΓ C0 (by kernel_rfl) (ow (show(decide (((bf.length:Int):Int)<((bf.map aO.c++(G5::bn.map aO.c)).length:Int)))=true from(Ct _ _ _)) (ow (bg h2) (ow (show(bf.length:Int)=((bf.length:Nat):Int)/\bf.length<(bf.map aO.c++(G5::bn.map aO.c)).length from⟨rfl,by simp only[IP,IN,G6,IM,G5,M9,M8,KJ,bZ,aX,aZ,aK];omega⟩) (ow (show(bf.map aO.c++(G5::bn.map aO.c))[bf.length]?=some G5 from by(try simp only[IP,IN,G6,IM,G5,M9,M8,KJ,cw]);exact dU _ _ _) (ow (show(bf.length:Int)=((bf.length:Nat):Int)/\bf.length<IM.length from⟨rfl,by simp only[IP,IN,G6,IM,G5,M9,M8,KJ,bZ,aX,aZ,aK];omega⟩) (ow (show IM[bf.length]?=some M9 from by(try simp only[IP,IN,G6,IM,G5,M9,M8,KJ,cw]);exact dU _ _ _) (ow (show(bf.length:Int)=((bf.length:Nat):Int)/\bf.length<(IM.set bf.length IN).length from⟨rfl,by simp only[IP,IN,G6,IM,G5,M9,M8,KJ,bZ,aX,aZ,aK];omega⟩) (ow (show(IM.set bf.length IN)[bf.length]?=some IN from by(try simp only[IP,IN,G6,IM,G5,M9,M8,KJ,cw]);exact dU _ _ _) (ow (show∀q∈(bD.conds.map aN.c),q.length=5 from by simp) (ow (FU h4) (ow (show IP[bf.length]?=some M8 from by(try simp only[IP,IN,G6,IM,G5,M9,M8,KJ,cw]);exact dU _ _ _) (ow (show(bf.length*4+2)=bf.length*4+2 from rfl) (ow (show(bf.length:Int)=((bf.length:Nat):Int)/\bf.length<(IP.set bf.length G6).length from⟨rfl,by simp only[IP,IN,G6,IM,G5,M9,M8,KJ,bZ,aX,aZ,aK];omega⟩) (ow (show(IP.set bf.length G6)[bf.length]?=some G6 from by(try simp only[IP,IN,G6,IM,G5,M9,M8,KJ,cw]);exact dU _ _ _) (ow (show∀q∈(bD.cr.map Action.c),q.length=3 from by simp) (ow (DP h6) (ow (show((IP.set bf.length G6).set bf.length KJ)[bf.length]?=some KJ from by(try simp only[IP,IN,G6,IM,G5,M9,M8,KJ,cw]);exact dU _ _ _) (ow (show(bf.length*4+3)=bf.length*4+3 from rfl) D5)))))))))))))))))) ?_;refine(congrFun bq _).mpr ?_;rw[zS (by simp only[aK]at hm1;omega)];simp only[IP,IN,G6,IM,G5,M9,M8,KJ,cw];simp only[bS,bG,bV,bY,dP,cN,aX,aK,bK]at t⊢;exact t
theorem FX{aB:au}{aV:Int}{r:au×Int}(h:su aB aV=some r):rj prog 57 [D.acc 0,D.int .i64 aV] [(4,aB.map aO.c)] [(4,r.1.map aO.c)] (D.int .i64 r.2):=by
 refine rj.of (c:=jt f57) func57 rfl (by decide) (by simp[f57]) rfl rfl ?_;intro hr Γ hΓ vs hvs
 match vs,hvs with
 | [ey],_=>
 have hΓ:Γ.nt=42:=hΓ;rw[su]at h;refine(show AW prog Γ (jt f57) (KQ prog Γ (fun _ _=>False) (uz prog f57 [ey] [(4,r.1.map aO.c)] (D.int .i64 r.2)) []) _ from ?_);refine fM (n:=2000) 1 [.cn [0,1,5] [0]] (.lp (lc f57 [1,0,1,0,0]) (AF f57 [1,0,1,0]) ⟨[(0,D.acc 0),(1,D.int .i64 aV),(5,D.int .i64 0)],[Ob.ew 4 (aB.map aO.c) (some ey)]⟩) hΓ C0 (by kernel_rfl) D5 (wz (by rfl) (yO (Gu hΓ (fun bO cJ h=>?_) aB [] aV (by have:=hr _ (aC (i:=0) rfl);simpa using this) h)));have h:=aG h;subst h;exact fM (n:=2000) 1 [] (.ret (D.gb [D.int .i64 cJ,D.agg [D.fr 0 4 (bO.map aO.c),D.val ey]])) hΓ C0 (by kernel_rfl) D5 rfl
def ia(k1:bJ->Int->Option (bJ×Int)):bJ->bJ->Int->Option (bJ×Int)
 | [],bf,b7=>(k1 bf b7)
 |bD::bn,bf,b7=>(ia k1 bn (bf++[b7]) (IntKind.i64.wrap (b7+1)))
def uE(aB:bJ)(aV:Int):Option (bJ×Int):=(ia (fun(bO:bJ) (cJ:Int)=>(some (bO,cJ))) aB [] aV)
theorem J4{Γ:vP}(hΓ:Γ.nt=19){N:Nat->St->Prop}{ey:Value}{r:bJ×Int}{k1:bJ->Int->Option (bJ×Int)}(cX:∀(bO:bJ) (cJ:Int),k1 bO cJ=some r->AW prog Γ (lc f58 [1,1]) (KQ prog Γ N (uz prog f58 [ey] [(1,r.1.map dZ)] (D.int .i64 r.2)) (AF f58 [1,1])) ⟨[(1,D.int .i64 cJ)],[Ob.ew 1 (bO.map dZ) (some ey)]⟩):∀(rest:bJ) (bf:bJ) (b7:Int),bf.length+rest.length<=maxLen->ia k1 rest bf b7=some r->PZ prog Γ (lc f58 [1,0,1,0,0]) (KQ prog Γ N (uz prog f58 [ey] [(1,r.1.map dZ)] (D.int .i64 r.2)) (AF f58 [1,0,1,0])) (rest.length+1) ⟨[(0,D.acc 0),(1,D.int .i64 b7),(5,D.int .i64 (bf.length:Int))],[Ob.ew 1 (bf.map dZ++rest.map dZ) (some ey)]⟩:=by
 intro rest
 induction rest with
 |nil=>
  intro bf b7 hm1 h;rw[ia]at h;refine aM fun N1 bu bq=>?_
  have t:=Pr (N:=N) (N':=N1) (K0:=(AF f58 [1,0,1,0])) (by kernel_rfl) bu (cX bf b7 h);refine fM (n:=2000) 1 [bF,.hl 0 [1] [0]] (.at_ (lc f58 [1,1]) (AF f58 [1,1]) ⟨[(1,D.int .i64 b7)],[Ob.ew 1 (bf.map dZ++([]:bJ).map dZ) (some ey)]⟩) hΓ C0 (by kernel_rfl) (ow (show(decide (((bf.length:Int):Int)<((bf.map dZ++([]:bJ).map dZ).length:Int)))=false from(Cq _)) D5) ?_;refine wz (s:=⟨[(1,D.int .i64 b7)],[Ob.ew 1 (bf.map dZ++([]:bJ).map dZ) (some ey)]⟩) ?_ t;simp only[bV,cM]
 |cons bD bn ih1=>
  intro bf b7 hm1 h;rw[ia]at h;refine aM fun N1 bu bq=>?_
  have t:=ih1 (bf++[b7]) (IntKind.i64.wrap (b7+1)) (by simp only[aX,aK,bK]at hm1⊢;omega) h;refine fM (n:=2000) 1 [bT,.ix (bf.length),.row [D.int .i64 bD],.cn [0,1,5] [0]] (.cont 0 ⟨[(0,D.acc 0),(1,D.int .i64 (IntKind.i64.wrap (b7+1))),(5,D.int .i64 (IntKind.i64.wrap ((bf.length:Int)+1)))],[Ob.ew 1 ((bf.map dZ++([D.int .i64 bD]::bn.map dZ)).set bf.length [D.int .i64 b7]) (some ey)]⟩) hΓ C0 (by kernel_rfl) (ow (show(decide (((bf.length:Int):Int)<((bf.map dZ++([D.int .i64 bD]::bn.map dZ)).length:Int)))=true from(Ct _ _ _)) (ow (show(bf.length:Int)=((bf.length:Nat):Int)/\bf.length<(bf.map dZ++([D.int .i64 bD]::bn.map dZ)).length from⟨rfl,by simp only[bZ,aX,aZ,aK];omega⟩) (ow (show(bf.map dZ++([D.int .i64 bD]::bn.map dZ))[bf.length]?=some [D.int .i64 bD]from by(try simp only[cw]);exact dU _ _ _) D5))) ?_;refine(congrFun bq _).mpr ?_;rw[zS (by simp only[aK]at hm1;omega)];simp only[cw];simp only[bS,bG,bV,bY,dP,cN,aX,aK,bK]at t⊢;exact t
theorem Gr{aB:bJ}{aV:Int}{r:bJ×Int}(h:uE aB aV=some r):rj prog 58 [D.acc 0,D.int .i64 aV] [(1,aB.map dZ)] [(1,r.1.map dZ)] (D.int .i64 r.2):=by
 refine rj.of (c:=jt f58) func58 rfl (by decide) (by simp[f58]) rfl rfl ?_;intro hr Γ hΓ vs hvs
 match vs,hvs with
 | [ey],_=>
 have hΓ:Γ.nt=19:=hΓ;rw[uE]at h;refine(show AW prog Γ (jt f58) (KQ prog Γ (fun _ _=>False) (uz prog f58 [ey] [(1,r.1.map dZ)] (D.int .i64 r.2)) []) _ from ?_);refine fM (n:=2000) 1 [.cn [0,1,5] [0]] (.lp (lc f58 [1,0,1,0,0]) (AF f58 [1,0,1,0]) ⟨[(0,D.acc 0),(1,D.int .i64 aV),(5,D.int .i64 0)],[Ob.ew 1 (aB.map dZ) (some ey)]⟩) hΓ C0 (by kernel_rfl) D5 (wz (by rfl) (yO (J4 hΓ (fun bO cJ h=>?_) aB [] aV (by have:=hr _ (aC (i:=0) rfl);simpa using this) h)));have h:=aG h;subst h;exact fM (n:=2000) 1 [] (.ret (D.gb [D.int .i64 cJ,D.agg [D.fr 0 1 (bO.map dZ),D.val ey]])) hΓ C0 (by kernel_rfl) D5 rfl
def gw(k1:aQ->Int->Option (aQ×Int)):aQ->aQ->Int->Option (aQ×Int)
 | [],bf,b7=>(k1 bf b7)
 |bD::bn,bf,b7=>((c8 b7).bind fun y1=>((fJ bD.args (IntKind.i64.wrap (b7+1))).bind fun y3=>(gw k1 bn (bf++[(⟨y1,y3.1⟩:aE)]) y3.2)))
def nC(aB:aQ)(aV:Int):Option (aQ×Int):=(gw (fun(bO:aQ) (cJ:Int)=>(some (bO,cJ))) aB [] aV)
theorem Gp{Γ:vP}(hΓ:Γ.nt=28){N:Nat->St->Prop}{ey:Value}{r:aQ×Int}{k1:aQ->Int->Option (aQ×Int)}(cX:∀(bO:aQ) (cJ:Int),k1 bO cJ=some r->AW prog Γ (lc f20 [1,1]) (KQ prog Γ N (uz prog f20 [ey] [(2,r.1.map aE.c)] (D.int .i64 r.2)) (AF f20 [1,1])) ⟨[(1,D.int .i64 cJ)],[Ob.ew 2 (bO.map aE.c) (some ey)]⟩):∀(rest:aQ) (bf:aQ) (b7:Int),bf.length+rest.length<=maxLen->gw k1 rest bf b7=some r->PZ prog Γ (lc f20 [1,0,1,0,0]) (KQ prog Γ N (uz prog f20 [ey] [(2,r.1.map aE.c)] (D.int .i64 r.2)) (AF f20 [1,0,1,0])) (rest.length+1) ⟨[(0,D.acc 0),(1,D.int .i64 b7),(5,D.int .i64 (bf.length:Int))],[Ob.ew 2 (bf.map aE.c++rest.map aE.c) (some ey)]⟩:=by
 intro rest
 induction rest with
 |nil=>
  intro bf b7 hm1 h;rw[gw]at h;refine aM fun N1 bu bq=>?_
  have t:=Pr (N:=N) (N':=N1) (K0:=(AF f20 [1,0,1,0])) (by kernel_rfl) bu (cX bf b7 h);refine fM (n:=2000) 1 [bF,.hl 0 [1] [0]] (.at_ (lc f20 [1,1]) (AF f20 [1,1]) ⟨[(1,D.int .i64 b7)],[Ob.ew 2 (bf.map aE.c++([]:aQ).map aE.c) (some ey)]⟩) hΓ C0 (by kernel_rfl) (ow (show(decide (((bf.length:Int):Int)<((bf.map aE.c++([]:aQ).map aE.c).length:Int)))=false from(Cq _)) D5) ?_;refine wz (s:=⟨[(1,D.int .i64 b7)],[Ob.ew 2 (bf.map aE.c++([]:aQ).map aE.c) (some ey)]⟩) ?_ t;simp only[bV,cM]
 |cons bD bn ih1=>
  intro bf b7 hm1 h;rw[gw]at h;refine aM fun N1 bu bq=>?_
  obtain⟨y1,h2,h⟩:=aD h;obtain⟨y3,h4,h⟩:=aD h;have t:=ih1 (bf++[(⟨y1,y3.1⟩:aE)]) y3.2 (by simp only[aX,aK,bK]at hm1⊢;omega) h;let RM:List aR:=(bf.map aE.c++([D.str bD.rel,D.sl (bD.args.map tx)]::bn.map aE.c))
  let RN:List aR:=(RM.set bf.length [D.str y1,D.sl (bD.args.map tx)])
  refine fM (n:=2000) 1 [bT,.d (D.str y1),.ix (bf.length),.row [D.str bD.rel,D.sl (bD.args.map tx)],.ix (bf.length),.row [D.str y1,D.sl (bD.args.map tx)],.gv [1] [(1,y3.1.map tx)] (D.int .i64 y3.2),.mg 0 bf.length 1 [D.str y1,D.any],.cn [0,1,5] [0]] (.cont 0 ⟨[(0,D.acc 0),(1,D.int .i64 y3.2),(5,D.int .i64 (IntKind.i64.wrap ((bf.length:Int)+1)))],[Ob.ew 2 ((RN.set bf.length [D.str y1,D.any]).set bf.length [D.str y1,D.sl (y3.1.map tx)]) (some ey)]⟩) hΓ C0 (by kernel_rfl) (ow (show(decide (((bf.length:Int):Int)<(RM.length:Int)))=true from(Ct _ _ _)) (ow (bg h2) (ow (show(bf.length:Int)=((bf.length:Nat):Int)/\bf.length<RM.length from⟨rfl,by simp only[RN,RM,bZ,aX,aZ,aK];omega⟩) (ow (show RM[bf.length]?=some [D.str bD.rel,D.sl (bD.args.map tx)]from by(try simp only[RN,RM,cw]);exact dU _ _ _) (ow (show(bf.length:Int)=((bf.length:Nat):Int)/\bf.length<RN.length from⟨rfl,by simp only[RN,RM,bZ,aX,aZ,aK];omega⟩) (ow (show RN[bf.length]?=some [D.str y1,D.sl (bD.args.map tx)]from by(try simp only[RN,RM,cw]);exact dU _ _ _) (ow (show∀q∈(bD.args.map tx),q.length=1 from by simp) (ow (iN h4) (ow (show(RN.set bf.length [D.str y1,D.any])[bf.length]?=some [D.str y1,D.any]from by(try simp only[RN,RM,cw]);exact dU _ _ _) (ow (show(bf.length*2+1)=bf.length*2+1 from rfl) D5)))))))))) ?_;refine(congrFun bq _).mpr ?_;rw[zS (by simp only[aK]at hm1;omega)];simp only[RN,RM,cw];simp only[bS,bG,bV,bY,dP,cN,aX,aK,bK]at t⊢;exact t
theorem vG{aB:aQ}{aV:Int}{r:aQ×Int}(h:nC aB aV=some r):rj prog 20 [D.acc 0,D.int .i64 aV] [(2,aB.map aE.c)] [(2,r.1.map aE.c)] (D.int .i64 r.2):=by
 refine rj.of (c:=jt f20) func20 rfl (by decide) (by simp[f20]) rfl rfl ?_;intro hr Γ hΓ vs hvs
 match vs,hvs with
 | [ey],_=>
 have hΓ:Γ.nt=28:=hΓ;rw[nC]at h;refine(show AW prog Γ (jt f20) (KQ prog Γ (fun _ _=>False) (uz prog f20 [ey] [(2,r.1.map aE.c)] (D.int .i64 r.2)) []) _ from ?_);refine fM (n:=2000) 1 [.cn [0,1,5] [0]] (.lp (lc f20 [1,0,1,0,0]) (AF f20 [1,0,1,0]) ⟨[(0,D.acc 0),(1,D.int .i64 aV),(5,D.int .i64 0)],[Ob.ew 2 (aB.map aE.c) (some ey)]⟩) hΓ C0 (by kernel_rfl) D5 (wz (by rfl) (yO (Gp hΓ (fun bO cJ h=>?_) aB [] aV (by have:=hr _ (aC (i:=0) rfl);simpa using this) h)));have h:=aG h;subst h;exact fM (n:=2000) 1 [] (.ret (D.gb [D.int .i64 cJ,D.agg [D.fr 0 2 (bO.map aE.c),D.val ey]])) hΓ C0 (by kernel_rfl) D5 rfl
def gG(k1:b8->Int->Option (b8×Int)):b8->b8->Int->Option (b8×Int)
 | [],bf,b7=>(k1 bf b7)
 |bD::bn,bf,b7=>((c8 b7).bind fun y1=>((fJ bD.shape.args (IntKind.i64.wrap (b7+1))).bind fun y3=>((nC bD.facts y3.2).bind fun y5=>(gG k1 bn (bf++[(⟨(⟨y1,y3.1⟩:aE),y5.1⟩:aP)]) y5.2))))
def qv(aB:b8)(aV:Int):Option (b8×Int):=(gG (fun(bO:b8) (cJ:Int)=>(some (bO,cJ))) aB [] aV)
theorem FT{Γ:vP}(hΓ:Γ.nt=37){N:Nat->St->Prop}{ey:Value}{r:b8×Int}{k1:b8->Int->Option (b8×Int)}(cX:∀(bO:b8) (cJ:Int),k1 bO cJ=some r->AW prog Γ (lc f59 [1,1]) (KQ prog Γ N (uz prog f59 [ey] [(3,r.1.map aP.c)] (D.int .i64 r.2)) (AF f59 [1,1])) ⟨[(1,D.int .i64 cJ)],[Ob.ew 3 (bO.map aP.c) (some ey)]⟩):∀(rest:b8) (bf:b8) (b7:Int),bf.length+rest.length<=maxLen->gG k1 rest bf b7=some r->PZ prog Γ (lc f59 [1,0,1,0,0]) (KQ prog Γ N (uz prog f59 [ey] [(3,r.1.map aP.c)] (D.int .i64 r.2)) (AF f59 [1,0,1,0])) (rest.length+1) ⟨[(0,D.acc 0),(1,D.int .i64 b7),(5,D.int .i64 (bf.length:Int))],[Ob.ew 3 (bf.map aP.c++rest.map aP.c) (some ey)]⟩:=by
 intro rest
 induction rest with
 |nil=>
  intro bf b7 hm1 h;rw[gG]at h;refine aM fun N1 bu bq=>?_
  have t:=Pr (N:=N) (N':=N1) (K0:=(AF f59 [1,0,1,0])) (by kernel_rfl) bu (cX bf b7 h);refine fM (n:=2000) 1 [bF,.hl 0 [1] [0]] (.at_ (lc f59 [1,1]) (AF f59 [1,1]) ⟨[(1,D.int .i64 b7)],[Ob.ew 3 (bf.map aP.c++([]:b8).map aP.c) (some ey)]⟩) hΓ C0 (by kernel_rfl) (ow (show(decide (((bf.length:Int):Int)<((bf.map aP.c++([]:b8).map aP.c).length:Int)))=false from(Cq _)) D5) ?_;refine wz (s:=⟨[(1,D.int .i64 b7)],[Ob.ew 3 (bf.map aP.c++([]:b8).map aP.c) (some ey)]⟩) ?_ t;simp only[bV,cM]
 |cons bD bn ih1=>
  intro bf b7 hm1 h;rw[gG]at h;refine aM fun N1 bu bq=>?_
  obtain⟨y1,h2,h⟩:=aD h;obtain⟨y3,h4,h⟩:=aD h;obtain⟨y5,h6,h⟩:=aD h;have t:=ih1 (bf++[(⟨(⟨y1,y3.1⟩:aE),y5.1⟩:aP)]) y5.2 (by simp only[aX,aK,bK]at hm1⊢;omega) h;let PC:aR:=[D.str y1,D.any,D.sl (bD.facts.map aE.c)]
  let KK:aR:=[D.str y1,D.sl (y3.1.map tx),D.sl (bD.facts.map aE.c)]
  let MA:aR:=[D.str y1,D.sl (bD.shape.args.map tx),D.sl (bD.facts.map aE.c)]
  let PD:aR:=[D.str bD.shape.rel,D.sl (bD.shape.args.map tx),D.sl (bD.facts.map aE.c)]
  let KL:List aR:=(bf.map aP.c++(PD::bn.map aP.c))
  let MB:List aR:=((KL.set bf.length MA).set bf.length PC)
  refine fM (n:=2000) 1 [bT,.d (D.str y1),.ix (bf.length),.row PD,.ix (bf.length),.row MA,.gv [1] [(1,y3.1.map tx)] (D.int .i64 y3.2),.mg 0 bf.length 1 PC,.ix (bf.length),.row KK,.gv [2] [(2,y5.1.map aE.c)] (D.int .i64 y5.2),.mg 0 bf.length 2 [D.str y1,D.sl (y3.1.map tx),D.any],.cn [0,1,5] [0]] (.cont 0 ⟨[(0,D.acc 0),(1,D.int .i64 y5.2),(5,D.int .i64 (IntKind.i64.wrap ((bf.length:Int)+1)))],[Ob.ew 3 (((MB.set bf.length KK).set bf.length [D.str y1,D.sl (y3.1.map tx),D.any]).set bf.length [D.str y1,D.sl (y3.1.map tx),D.sl (y5.1.map aE.c)]) (some ey)]⟩) hΓ C0 (by kernel_rfl) (ow (show(decide (((bf.length:Int):Int)<(KL.length:Int)))=true from(Ct _ _ _)) (ow (bg h2) (ow (show(bf.length:Int)=((bf.length:Nat):Int)/\bf.length<KL.length from⟨rfl,by simp only[MB,KL,PD,MA,KK,PC,bZ,aX,aZ,aK];omega⟩) (ow (show KL[bf.length]?=some PD from by(try simp only[MB,KL,PD,MA,KK,PC,cw]);exact dU _ _ _) (ow (show(bf.length:Int)=((bf.length:Nat):Int)/\bf.length<(KL.set bf.length MA).length from⟨rfl,by simp only[MB,KL,PD,MA,KK,PC,bZ,aX,aZ,aK];omega⟩) (ow (show(KL.set bf.length MA)[bf.length]?=some MA from by(try simp only[MB,KL,PD,MA,KK,PC,cw]);exact dU _ _ _) (ow (show∀q∈(bD.shape.args.map tx),q.length=1 from by simp) (ow (iN h4) (ow (show MB[bf.length]?=some PC from by(try simp only[MB,KL,PD,MA,KK,PC,cw]);exact dU _ _ _) (ow (show(bf.length*3+1)=bf.length*3+1 from rfl) (ow (show(bf.length:Int)=((bf.length:Nat):Int)/\bf.length<(MB.set bf.length KK).length from⟨rfl,by simp only[MB,KL,PD,MA,KK,PC,bZ,aX,aZ,aK];omega⟩) (ow (show(MB.set bf.length KK)[bf.length]?=some KK from by(try simp only[MB,KL,PD,MA,KK,PC,cw]);exact dU _ _ _) (ow (show∀q∈(bD.facts.map aE.c),q.length=2 from by simp) (ow (vG h6) (ow (show((MB.set bf.length KK).set bf.length [D.str y1,D.sl (y3.1.map tx),D.any])[bf.length]?=some [D.str y1,D.sl (y3.1.map tx),D.any]from by(try simp only[MB,KL,PD,MA,KK,PC,cw]);exact dU _ _ _) (ow (show(bf.length*3+2)=bf.length*3+2 from rfl) D5)))))))))))))))) ?_;refine(congrFun bq _).mpr ?_;rw[zS (by simp only[aK]at hm1;omega)];simp only[MB,KL,PD,MA,KK,PC,cw];simp only[bS,bG,bV,bY,dP,cN,aX,aK,bK]at t⊢;exact t
theorem EO{aB:b8}{aV:Int}{r:b8×Int}(h:qv aB aV=some r):rj prog 59 [D.acc 0,D.int .i64 aV] [(3,aB.map aP.c)] [(3,r.1.map aP.c)] (D.int .i64 r.2):=by
 refine rj.of (c:=jt f59) func59 rfl (by decide) (by simp[f59]) rfl rfl ?_;intro hr Γ hΓ vs hvs
 match vs,hvs with
 | [ey],_=>
 have hΓ:Γ.nt=37:=hΓ;rw[qv]at h;refine(show AW prog Γ (jt f59) (KQ prog Γ (fun _ _=>False) (uz prog f59 [ey] [(3,r.1.map aP.c)] (D.int .i64 r.2)) []) _ from ?_);refine fM (n:=2000) 1 [.cn [0,1,5] [0]] (.lp (lc f59 [1,0,1,0,0]) (AF f59 [1,0,1,0]) ⟨[(0,D.acc 0),(1,D.int .i64 aV),(5,D.int .i64 0)],[Ob.ew 3 (aB.map aP.c) (some ey)]⟩) hΓ C0 (by kernel_rfl) D5 (wz (by rfl) (yO (FT hΓ (fun bO cJ h=>?_) aB [] aV (by have:=hr _ (aC (i:=0) rfl);simpa using this) h)));have h:=aG h;subst h;exact fM (n:=2000) 1 [] (.ret (D.gb [D.int .i64 cJ,D.agg [D.fr 0 3 (bO.map aP.c),D.val ey]])) hΓ C0 (by kernel_rfl) D5 rfl
def gy(k1:aT->Int->Option (aT×Int)):aT->aT->Int->Option (aT×Int)
 | [],bf,b7=>(k1 bf b7)
 |bD::bn,bf,b7=>((c8 b7).bind fun y1=>((c8 (IntKind.i64.wrap (b7+1))).bind fun y3=>(gy k1 bn (bf++[(⟨y1,y3⟩:aS)]) (IntKind.i64.wrap ((IntKind.i64.wrap (b7+1))+1)))))
def sr(aB:aT)(aV:Int):Option (aT×Int):=(gy (fun(bO:aT) (cJ:Int)=>(some (bO,cJ))) aB [] aV)
theorem Gt{Γ:vP}(hΓ:Γ.nt=29){N:Nat->St->Prop}{ey:Value}{r:aT×Int}{k1:aT->Int->Option (aT×Int)}(cX:∀(bO:aT) (cJ:Int),k1 bO cJ=some r->AW prog Γ (lc f75 [1,1]) (KQ prog Γ N (uz prog f75 [ey] [(2,r.1.map aS.c)] (D.int .i64 r.2)) (AF f75 [1,1])) ⟨[(1,D.int .i64 cJ)],[Ob.ew 2 (bO.map aS.c) (some ey)]⟩):∀(rest:aT) (bf:aT) (b7:Int),bf.length+rest.length<=maxLen->gy k1 rest bf b7=some r->PZ prog Γ (lc f75 [1,0,1,0,0]) (KQ prog Γ N (uz prog f75 [ey] [(2,r.1.map aS.c)] (D.int .i64 r.2)) (AF f75 [1,0,1,0])) (rest.length+1) ⟨[(0,D.acc 0),(1,D.int .i64 b7),(5,D.int .i64 (bf.length:Int))],[Ob.ew 2 (bf.map aS.c++rest.map aS.c) (some ey)]⟩:=by
 intro rest
 induction rest with
 |nil=>
  intro bf b7 hm1 h;rw[gy]at h;refine aM fun N1 bu bq=>?_
  have t:=Pr (N:=N) (N':=N1) (K0:=(AF f75 [1,0,1,0])) (by kernel_rfl) bu (cX bf b7 h);refine fM (n:=2000) 1 [bF,.hl 0 [1] [0]] (.at_ (lc f75 [1,1]) (AF f75 [1,1]) ⟨[(1,D.int .i64 b7)],[Ob.ew 2 (bf.map aS.c++([]:aT).map aS.c) (some ey)]⟩) hΓ C0 (by kernel_rfl) (ow (show(decide (((bf.length:Int):Int)<((bf.map aS.c++([]:aT).map aS.c).length:Int)))=false from(Cq _)) D5) ?_;refine wz (s:=⟨[(1,D.int .i64 b7)],[Ob.ew 2 (bf.map aS.c++([]:aT).map aS.c) (some ey)]⟩) ?_ t;simp only[bV,cM]
 |cons bD bn ih1=>
  intro bf b7 hm1 h;rw[gy]at h;refine aM fun N1 bu bq=>?_
  obtain⟨y1,h2,h⟩:=aD h;obtain⟨y3,h4,h⟩:=aD h;have t:=ih1 (bf++[(⟨y1,y3⟩:aS)]) (IntKind.i64.wrap ((IntKind.i64.wrap (b7+1))+1)) (by simp only[aX,aK,bK]at hm1⊢;omega) h;let Sl:List aR:=(bf.map aS.c++([D.str bD.var,D.str bD.value]::bn.map aS.c))
  let UE:List aR:=(Sl.set bf.length [D.str y1,D.str bD.value])
  refine fM (n:=2000) 1 [bT,.d (D.str y1),.ix (bf.length),.row [D.str bD.var,D.str bD.value],.d (D.str y3),.ix (bf.length),.row [D.str y1,D.str bD.value],.cn [0,1,5] [0]] (.cont 0 ⟨[(0,D.acc 0),(1,D.int .i64 (IntKind.i64.wrap ((IntKind.i64.wrap (b7+1))+1))),(5,D.int .i64 (IntKind.i64.wrap ((bf.length:Int)+1)))],[Ob.ew 2 (UE.set bf.length [D.str y1,D.str y3]) (some ey)]⟩) hΓ C0 (by kernel_rfl) (ow (show(decide (((bf.length:Int):Int)<(Sl.length:Int)))=true from(Ct _ _ _)) (ow (bg h2) (ow (show(bf.length:Int)=((bf.length:Nat):Int)/\bf.length<Sl.length from⟨rfl,by simp only[UE,Sl,bZ,aX,aZ,aK];omega⟩) (ow (show Sl[bf.length]?=some [D.str bD.var,D.str bD.value]from by(try simp only[UE,Sl,cw]);exact dU _ _ _) (ow (bg h4) (ow (show(bf.length:Int)=((bf.length:Nat):Int)/\bf.length<UE.length from⟨rfl,by simp only[UE,Sl,bZ,aX,aZ,aK];omega⟩) (ow (show UE[bf.length]?=some [D.str y1,D.str bD.value]from by(try simp only[UE,Sl,cw]);exact dU _ _ _) D5))))))) ?_;refine(congrFun bq _).mpr ?_;rw[zS (by simp only[aK]at hm1;omega)];simp only[UE,Sl,cw];simp only[bS,bG,bV,bY,dP,cN,aX,aK,bK]at t⊢;exact t
theorem FW{aB:aT}{aV:Int}{r:aT×Int}(h:sr aB aV=some r):rj prog 75 [D.acc 0,D.int .i64 aV] [(2,aB.map aS.c)] [(2,r.1.map aS.c)] (D.int .i64 r.2):=by
 refine rj.of (c:=jt f75) func75 rfl (by decide) (by simp[f75]) rfl rfl ?_;intro hr Γ hΓ vs hvs
 match vs,hvs with
 | [ey],_=>
 have hΓ:Γ.nt=29:=hΓ;rw[sr]at h;refine(show AW prog Γ (jt f75) (KQ prog Γ (fun _ _=>False) (uz prog f75 [ey] [(2,r.1.map aS.c)] (D.int .i64 r.2)) []) _ from ?_);refine fM (n:=2000) 1 [.cn [0,1,5] [0]] (.lp (lc f75 [1,0,1,0,0]) (AF f75 [1,0,1,0]) ⟨[(0,D.acc 0),(1,D.int .i64 aV),(5,D.int .i64 0)],[Ob.ew 2 (aB.map aS.c) (some ey)]⟩) hΓ C0 (by kernel_rfl) D5 (wz (by rfl) (yO (Gt hΓ (fun bO cJ h=>?_) aB [] aV (by have:=hr _ (aC (i:=0) rfl);simpa using this) h)));have h:=aG h;subst h;exact fM (n:=2000) 1 [] (.ret (D.gb [D.int .i64 cJ,D.agg [D.fr 0 2 (bO.map aS.c),D.val ey]])) hΓ C0 (by kernel_rfl) D5 rfl
def gH(k1:af->Int->Option (af×Int)):af->af->Int->Option (af×Int)
 | [],bf,b7=>(k1 bf b7)
 |bD::bn,bf,b7=>((nC bD.facts b7).bind fun y1=>((sr bD.bind y1.2).bind fun y3=>(gH k1 bn (bf++[(⟨y1.1,y3.1⟩:aJ)]) y3.2)))
def qw(aB:af)(aV:Int):Option (af×Int):=(gH (fun(bO:af) (cJ:Int)=>(some (bO,cJ))) aB [] aV)
theorem FY{Γ:vP}(hΓ:Γ.nt=27){N:Nat->St->Prop}{ey:Value}{r:af×Int}{k1:af->Int->Option (af×Int)}(cX:∀(bO:af) (cJ:Int),k1 bO cJ=some r->AW prog Γ (lc f119 [1,1]) (KQ prog Γ N (uz prog f119 [ey] [(2,r.1.map aJ.c)] (D.int .i64 r.2)) (AF f119 [1,1])) ⟨[(1,D.int .i64 cJ)],[Ob.ew 2 (bO.map aJ.c) (some ey)]⟩):∀(rest:af) (bf:af) (b7:Int),bf.length+rest.length<=maxLen->gH k1 rest bf b7=some r->PZ prog Γ (lc f119 [1,0,1,0,0]) (KQ prog Γ N (uz prog f119 [ey] [(2,r.1.map aJ.c)] (D.int .i64 r.2)) (AF f119 [1,0,1,0])) (rest.length+1) ⟨[(0,D.acc 0),(1,D.int .i64 b7),(5,D.int .i64 (bf.length:Int))],[Ob.ew 2 (bf.map aJ.c++rest.map aJ.c) (some ey)]⟩:=by
 intro rest
 induction rest with
 |nil=>
  intro bf b7 hm1 h;rw[gH]at h;refine aM fun N1 bu bq=>?_
  have t:=Pr (N:=N) (N':=N1) (K0:=(AF f119 [1,0,1,0])) (by kernel_rfl) bu (cX bf b7 h);refine fM (n:=2000) 1 [bF,.hl 0 [1] [0]] (.at_ (lc f119 [1,1]) (AF f119 [1,1]) ⟨[(1,D.int .i64 b7)],[Ob.ew 2 (bf.map aJ.c++([]:af).map aJ.c) (some ey)]⟩) hΓ C0 (by kernel_rfl) (ow (show(decide (((bf.length:Int):Int)<((bf.map aJ.c++([]:af).map aJ.c).length:Int)))=false from(Cq _)) D5) ?_;refine wz (s:=⟨[(1,D.int .i64 b7)],[Ob.ew 2 (bf.map aJ.c++([]:af).map aJ.c) (some ey)]⟩) ?_ t;simp only[bV,cM]
 |cons bD bn ih1=>
  intro bf b7 hm1 h;rw[gH]at h;refine aM fun N1 bu bq=>?_
  obtain⟨y1,h2,h⟩:=aD h;obtain⟨y3,h4,h⟩:=aD h;have t:=ih1 (bf++[(⟨y1.1,y3.1⟩:aJ)]) y3.2 (by simp only[aX,aK,bK]at hm1⊢;omega) h;let Nu:aR:=[D.sl (y1.1.map aE.c),D.sl (bD.bind.map aS.c)]
  let RO:aR:=[D.sl (bD.facts.map aE.c),D.sl (bD.bind.map aS.c)]
  let Pw:List aR:=(bf.map aJ.c++(RO::bn.map aJ.c))
  let PE:List aR:=(Pw.set bf.length [D.any,D.sl (bD.bind.map aS.c)])
  refine fM (n:=2000) 1 [bT,.ix (bf.length),.row RO,.gv [1] [(2,y1.1.map aE.c)] (D.int .i64 y1.2),.mg 0 bf.length 0 [D.any,D.sl (bD.bind.map aS.c)],.ix (bf.length),.row Nu,.gv [2] [(2,y3.1.map aS.c)] (D.int .i64 y3.2),.mg 0 bf.length 1 [D.sl (y1.1.map aE.c),D.any],.cn [0,1,5] [0]] (.cont 0 ⟨[(0,D.acc 0),(1,D.int .i64 y3.2),(5,D.int .i64 (IntKind.i64.wrap ((bf.length:Int)+1)))],[Ob.ew 2 (((PE.set bf.length Nu).set bf.length [D.sl (y1.1.map aE.c),D.any]).set bf.length [D.sl (y1.1.map aE.c),D.sl (y3.1.map aS.c)]) (some ey)]⟩) hΓ C0 (by kernel_rfl) (ow (show(decide (((bf.length:Int):Int)<(Pw.length:Int)))=true from(Ct _ _ _)) (ow (show(bf.length:Int)=((bf.length:Nat):Int)/\bf.length<Pw.length from⟨rfl,by simp only[PE,Pw,RO,Nu,bZ,aX,aZ,aK];omega⟩) (ow (show Pw[bf.length]?=some RO from by(try simp only[PE,Pw,RO,Nu,cw]);exact dU _ _ _) (ow (show∀q∈(bD.facts.map aE.c),q.length=2 from by simp) (ow (vG h2) (ow (show PE[bf.length]?=some [D.any,D.sl (bD.bind.map aS.c)]from by(try simp only[PE,Pw,RO,Nu,cw]);exact dU _ _ _) (ow (show(bf.length*2+0)=bf.length*2+0 from rfl) (ow (show(bf.length:Int)=((bf.length:Nat):Int)/\bf.length<(PE.set bf.length Nu).length from⟨rfl,by simp only[PE,Pw,RO,Nu,bZ,aX,aZ,aK];omega⟩) (ow (show(PE.set bf.length Nu)[bf.length]?=some Nu from by(try simp only[PE,Pw,RO,Nu,cw]);exact dU _ _ _) (ow (show∀q∈(bD.bind.map aS.c),q.length=2 from by simp) (ow (FW h4) (ow (show((PE.set bf.length Nu).set bf.length [D.sl (y1.1.map aE.c),D.any])[bf.length]?=some [D.sl (y1.1.map aE.c),D.any]from by(try simp only[PE,Pw,RO,Nu,cw]);exact dU _ _ _) (ow (show(bf.length*2+1)=bf.length*2+1 from rfl) D5))))))))))))) ?_;refine(congrFun bq _).mpr ?_;rw[zS (by simp only[aK]at hm1;omega)];simp only[PE,Pw,RO,Nu,cw];simp only[bS,bG,bV,bY,dP,cN,aX,aK,bK]at t⊢;exact t
theorem EQ{aB:af}{aV:Int}{r:af×Int}(h:qw aB aV=some r):rj prog 119 [D.acc 0,D.int .i64 aV] [(2,aB.map aJ.c)] [(2,r.1.map aJ.c)] (D.int .i64 r.2):=by
 refine rj.of (c:=jt f119) func119 rfl (by decide) (by simp[f119]) rfl rfl ?_;intro hr Γ hΓ vs hvs
 match vs,hvs with
 | [ey],_=>
 have hΓ:Γ.nt=27:=hΓ;rw[qw]at h;refine(show AW prog Γ (jt f119) (KQ prog Γ (fun _ _=>False) (uz prog f119 [ey] [(2,r.1.map aJ.c)] (D.int .i64 r.2)) []) _ from ?_);refine fM (n:=2000) 1 [.cn [0,1,5] [0]] (.lp (lc f119 [1,0,1,0,0]) (AF f119 [1,0,1,0]) ⟨[(0,D.acc 0),(1,D.int .i64 aV),(5,D.int .i64 0)],[Ob.ew 2 (aB.map aJ.c) (some ey)]⟩) hΓ C0 (by kernel_rfl) D5 (wz (by rfl) (yO (FY hΓ (fun bO cJ h=>?_) aB [] aV (by have:=hr _ (aC (i:=0) rfl);simpa using this) h)));have h:=aG h;subst h;exact fM (n:=2000) 1 [] (.ret (D.gb [D.int .i64 cJ,D.agg [D.fr 0 2 (bO.map aJ.c),D.val ey]])) hΓ C0 (by kernel_rfl) D5 rfl
def gx(k1:az->Int->Option (az×Int)):az->az->Int->Option (az×Int)
 | [],bf,b7=>(k1 bf b7)
 |bD::bn,bf,b7=>((c8 (IntKind.i64.wrap ((IntKind.i64.wrap (b7+1))+1))).bind fun y1=>((fJ bD.cond.pat.args (IntKind.i64.wrap ((IntKind.i64.wrap ((IntKind.i64.wrap (b7+1))+1))+1))).bind fun y3=>((c8 y3.2).bind fun y5=>((c8 (IntKind.i64.wrap (y3.2+1))).bind fun y7=>((qw bD.tokens (IntKind.i64.wrap ((IntKind.i64.wrap ((IntKind.i64.wrap (y3.2+1))+1))+1))).bind fun y9=>(gx k1 bn (bf++[(⟨b7,(⟨IntKind.i64.wrap (b7+1),(⟨y1,y3.1⟩:aE),y5,y7⟩:aN),IntKind.i64.wrap ((IntKind.i64.wrap (y3.2+1))+1),y9.1⟩:Node)]) y9.2))))))
def sn(aB:az)(aV:Int):Option (az×Int):=(gx (fun(bO:az) (cJ:Int)=>(some (bO,cJ))) aB [] aV)
theorem Gs{Γ:vP}(hΓ:Γ.nt=79){N:Nat->St->Prop}{ey:Value}{r:az×Int}{k1:az->Int->Option (az×Int)}(cX:∀(bO:az) (cJ:Int),k1 bO cJ=some r->AW prog Γ (lc f60 [1,1]) (KQ prog Γ N (uz prog f60 [ey] [(8,r.1.map Node.c)] (D.int .i64 r.2)) (AF f60 [1,1])) ⟨[(1,D.int .i64 cJ)],[Ob.ew 8 (bO.map Node.c) (some ey)]⟩):∀(rest:az) (bf:az) (b7:Int),bf.length+rest.length<=maxLen->gx k1 rest bf b7=some r->PZ prog Γ (lc f60 [1,0,1,0,0]) (KQ prog Γ N (uz prog f60 [ey] [(8,r.1.map Node.c)] (D.int .i64 r.2)) (AF f60 [1,0,1,0])) (rest.length+1) ⟨[(0,D.acc 0),(1,D.int .i64 b7),(5,D.int .i64 (bf.length:Int))],[Ob.ew 8 (bf.map Node.c++rest.map Node.c) (some ey)]⟩:=by
 intro rest
 induction rest with
 |nil=>
  intro bf b7 hm1 h;rw[gx]at h;refine aM fun N1 bu bq=>?_
  have t:=Pr (N:=N) (N':=N1) (K0:=(AF f60 [1,0,1,0])) (by kernel_rfl) bu (cX bf b7 h);refine fM (n:=2000) 1 [bF,.hl 0 [1] [0]] (.at_ (lc f60 [1,1]) (AF f60 [1,1]) ⟨[(1,D.int .i64 b7)],[Ob.ew 8 (bf.map Node.c++([]:az).map Node.c) (some ey)]⟩) hΓ C0 (by kernel_rfl) (ow (show(decide (((bf.length:Int):Int)<((bf.map Node.c++([]:az).map Node.c).length:Int)))=false from(Cq _)) D5) ?_;refine wz (s:=⟨[(1,D.int .i64 b7)],[Ob.ew 8 (bf.map Node.c++([]:az).map Node.c) (some ey)]⟩) ?_ t;simp only[bV,cM]
 |cons bD bn ih1=>
  intro bf b7 hm1 h;rw[gx]at h;refine aM fun N1 bu bq=>?_
  obtain⟨y1,h2,h⟩:=aD h;obtain⟨y3,h4,h⟩:=aD h;obtain⟨y5,h6,h⟩:=aD h;obtain⟨y7,h8,h⟩:=aD h;obtain⟨y9,h10,h⟩:=aD h;have t:=ih1 (bf++[(⟨b7,(⟨IntKind.i64.wrap (b7+1),(⟨y1,y3.1⟩:aE),y5,y7⟩:aN),IntKind.i64.wrap ((IntKind.i64.wrap (y3.2+1))+1),y9.1⟩:Node)]) y9.2 (by simp only[aX,aK,bK]at hm1⊢;omega) h;let CC:aR:=[D.int .i64 b7,D.int .i64 (IntKind.i64.wrap (b7+1)),D.str y1,D.sl (y3.1.map tx),D.str y5,D.str y7,D.int .i64 bD.cP,D.sl (bD.tokens.map aJ.c)]
  let BT:aR:=[D.int .i64 b7,D.int .i64 (IntKind.i64.wrap (b7+1)),D.str y1,D.any,D.str bD.cond.left,D.str bD.cond.right,D.int .i64 bD.cP,D.sl (bD.tokens.map aJ.c)]
  let Ay:aR:=[D.int .i64 b7,D.int .i64 (IntKind.i64.wrap (b7+1)),D.str y1,D.sl (y3.1.map tx),D.str y5,D.str bD.cond.right,D.int .i64 bD.cP,D.sl (bD.tokens.map aJ.c)]
  let CD:aR:=[D.int .i64 b7,D.int .i64 (IntKind.i64.wrap (b7+1)),D.str y1,D.sl (y3.1.map tx),D.str bD.cond.left,D.str bD.cond.right,D.int .i64 bD.cP,D.sl (bD.tokens.map aJ.c)]
  let BU:aR:=[D.int .i64 b7,D.int .i64 (IntKind.i64.wrap (b7+1)),D.str y1,D.sl (y3.1.map tx),D.str y5,D.str y7,D.int .i64 (IntKind.i64.wrap ((IntKind.i64.wrap (y3.2+1))+1)),D.any]
  let CE:aR:=[D.int .i64 b7,D.int .i64 bD.cond.kind,D.str bD.cond.pat.rel,D.sl (bD.cond.pat.args.map tx),D.str bD.cond.left,D.str bD.cond.right,D.int .i64 bD.cP,D.sl (bD.tokens.map aJ.c)]
  let CF:aR:=[D.int .i64 b7,D.int .i64 (IntKind.i64.wrap (b7+1)),D.str y1,D.sl (bD.cond.pat.args.map tx),D.str bD.cond.left,D.str bD.cond.right,D.int .i64 bD.cP,D.sl (bD.tokens.map aJ.c)]
  let AL:aR:=[D.int .i64 bD.parent,D.int .i64 bD.cond.kind,D.str bD.cond.pat.rel,D.sl (bD.cond.pat.args.map tx),D.str bD.cond.left,D.str bD.cond.right,D.int .i64 bD.cP,D.sl (bD.tokens.map aJ.c)]
  let Az:List aR:=((bf.map Node.c++(AL::bn.map Node.c)).set bf.length CE)
  let AM:aR:=[D.int .i64 b7,D.int .i64 (IntKind.i64.wrap (b7+1)),D.str y1,D.sl (y3.1.map tx),D.str y5,D.str y7,D.int .i64 (IntKind.i64.wrap ((IntKind.i64.wrap (y3.2+1))+1)),D.sl (bD.tokens.map aJ.c)]
  let B0:aR:=[D.int .i64 b7,D.int .i64 (IntKind.i64.wrap (b7+1)),D.str bD.cond.pat.rel,D.sl (bD.cond.pat.args.map tx),D.str bD.cond.left,D.str bD.cond.right,D.int .i64 bD.cP,D.sl (bD.tokens.map aJ.c)]
  let BV:List aR:=((Az.set bf.length B0).set bf.length CF)
  let B1:List aR:=((BV.set bf.length BT).set bf.length CD)
  let AN:List aR:=((B1.set bf.length Ay).set bf.length CC)
  refine fM (n:=2000) 1 [bT,.ix (bf.length),.row AL,.ix (bf.length),.row CE,.d (D.str y1),.ix (bf.length),.row B0,.ix (bf.length),.row CF,.gv [1] [(1,y3.1.map tx)] (D.int .i64 y3.2),.mg 0 bf.length 3 BT,.d (D.str y5),.ix (bf.length),.row CD,.d (D.str y7),.ix (bf.length),.row Ay,.ix (bf.length),.row CC,.ix (bf.length),.row AM,.gv [2] [(2,y9.1.map aJ.c)] (D.int .i64 y9.2),.mg 0 bf.length 7 BU,.cn [0,1,5] [0]] (.cont 0 ⟨[(0,D.acc 0),(1,D.int .i64 y9.2),(5,D.int .i64 (IntKind.i64.wrap ((bf.length:Int)+1)))],[Ob.ew 8 (((AN.set bf.length AM).set bf.length BU).set bf.length [D.int .i64 b7,D.int .i64 (IntKind.i64.wrap (b7+1)),D.str y1,D.sl (y3.1.map tx),D.str y5,D.str y7,D.int .i64 (IntKind.i64.wrap ((IntKind.i64.wrap (y3.2+1))+1)),D.sl (y9.1.map aJ.c)]) (some ey)]⟩) hΓ C0 (by kernel_rfl) (ow (show(decide (((bf.length:Int):Int)<((bf.map Node.c++(AL::bn.map Node.c)).length:Int)))=true from(Ct _ _ _)) (ow (show(bf.length:Int)=((bf.length:Nat):Int)/\bf.length<(bf.map Node.c++(AL::bn.map Node.c)).length from⟨rfl,by simp only[AN,B1,BV,B0,AM,Az,AL,CF,CE,BU,CD,Ay,BT,CC,bZ,aX,aZ,aK];omega⟩) (ow (show(bf.map Node.c++(AL::bn.map Node.c))[bf.length]?=some AL from by(try simp only[AN,B1,BV,B0,AM,Az,AL,CF,CE,BU,CD,Ay,BT,CC,cw]);exact dU _ _ _) (ow (show(bf.length:Int)=((bf.length:Nat):Int)/\bf.length<Az.length from⟨rfl,by simp only[AN,B1,BV,B0,AM,Az,AL,CF,CE,BU,CD,Ay,BT,CC,bZ,aX,aZ,aK];omega⟩) (ow (show Az[bf.length]?=some CE from by(try simp only[AN,B1,BV,B0,AM,Az,AL,CF,CE,BU,CD,Ay,BT,CC,cw]);exact dU _ _ _) (ow (bg h2) (ow (show(bf.length:Int)=((bf.length:Nat):Int)/\bf.length<(Az.set bf.length B0).length from⟨rfl,by simp only[AN,B1,BV,B0,AM,Az,AL,CF,CE,BU,CD,Ay,BT,CC,bZ,aX,aZ,aK];omega⟩) (ow (show(Az.set bf.length B0)[bf.length]?=some B0 from by(try simp only[AN,B1,BV,B0,AM,Az,AL,CF,CE,BU,CD,Ay,BT,CC,cw]);exact dU _ _ _) (ow (show(bf.length:Int)=((bf.length:Nat):Int)/\bf.length<BV.length from⟨rfl,by simp only[AN,B1,BV,B0,AM,Az,AL,CF,CE,BU,CD,Ay,BT,CC,bZ,aX,aZ,aK];omega⟩) (ow (show BV[bf.length]?=some CF from by(try simp only[AN,B1,BV,B0,AM,Az,AL,CF,CE,BU,CD,Ay,BT,CC,cw]);exact dU _ _ _) (ow (show∀q∈(bD.cond.pat.args.map tx),q.length=1 from by simp) (ow (iN h4) (ow (show(BV.set bf.length BT)[bf.length]?=some BT from by(try simp only[AN,B1,BV,B0,AM,Az,AL,CF,CE,BU,CD,Ay,BT,CC,cw]);exact dU _ _ _) (ow (show(bf.length*8+3)=bf.length*8+3 from rfl) (ow (bg h6) (ow (show(bf.length:Int)=((bf.length:Nat):Int)/\bf.length<B1.length from⟨rfl,by simp only[AN,B1,BV,B0,AM,Az,AL,CF,CE,BU,CD,Ay,BT,CC,bZ,aX,aZ,aK];omega⟩) (ow (show B1[bf.length]?=some CD from by(try simp only[AN,B1,BV,B0,AM,Az,AL,CF,CE,BU,CD,Ay,BT,CC,cw]);exact dU _ _ _) (ow (bg h8) (ow (show(bf.length:Int)=((bf.length:Nat):Int)/\bf.length<(B1.set bf.length Ay).length from⟨rfl,by simp only[AN,B1,BV,B0,AM,Az,AL,CF,CE,BU,CD,Ay,BT,CC,bZ,aX,aZ,aK];omega⟩) (ow (show(B1.set bf.length Ay)[bf.length]?=some Ay from by(try simp only[AN,B1,BV,B0,AM,Az,AL,CF,CE,BU,CD,Ay,BT,CC,cw]);exact dU _ _ _) (ow (show(bf.length:Int)=((bf.length:Nat):Int)/\bf.length<AN.length from⟨rfl,by simp only[AN,B1,BV,B0,AM,Az,AL,CF,CE,BU,CD,Ay,BT,CC,bZ,aX,aZ,aK];omega⟩) (ow (show AN[bf.length]?=some CC from by(try simp only[AN,B1,BV,B0,AM,Az,AL,CF,CE,BU,CD,Ay,BT,CC,cw]);exact dU _ _ _) (ow (show(bf.length:Int)=((bf.length:Nat):Int)/\bf.length<(AN.set bf.length AM).length from⟨rfl,by simp only[AN,B1,BV,B0,AM,Az,AL,CF,CE,BU,CD,Ay,BT,CC,bZ,aX,aZ,aK];omega⟩) (ow (show(AN.set bf.length AM)[bf.length]?=some AM from by(try simp only[AN,B1,BV,B0,AM,Az,AL,CF,CE,BU,CD,Ay,BT,CC,cw]);exact dU _ _ _) (ow (show∀q∈(bD.tokens.map aJ.c),q.length=2 from by simp) (ow (EQ h10) (ow (show((AN.set bf.length AM).set bf.length BU)[bf.length]?=some BU from by(try simp only[AN,B1,BV,B0,AM,Az,AL,CF,CE,BU,CD,Ay,BT,CC,cw]);exact dU _ _ _) (ow (show(bf.length*8+7)=bf.length*8+7 from rfl) D5)))))))))))))))))))))))))))) ?_;refine(congrFun bq _).mpr ?_;rw[zS (by simp only[aK]at hm1;omega)];simp only[AN,B1,BV,B0,AM,Az,AL,CF,CE,BU,CD,Ay,BT,CC,cw];simp only[bS,bG,bV,bY,dP,cN,aX,aK,bK]at t⊢
  exact t
theorem FV{aB:az}{aV:Int}{r:az×Int}(h:sn aB aV=some r):rj prog 60 [D.acc 0,D.int .i64 aV] [(8,aB.map Node.c)] [(8,r.1.map Node.c)] (D.int .i64 r.2):=by
 refine rj.of (c:=jt f60) func60 rfl (by decide) (by simp[f60]) rfl rfl ?_;intro hr Γ hΓ vs hvs
 match vs,hvs with
 | [ey],_=>
 have hΓ:Γ.nt=79:=hΓ;rw[sn]at h;refine(show AW prog Γ (jt f60) (KQ prog Γ (fun _ _=>False) (uz prog f60 [ey] [(8,r.1.map Node.c)] (D.int .i64 r.2)) []) _ from ?_);refine fM (n:=2000) 1 [.cn [0,1,5] [0]] (.lp (lc f60 [1,0,1,0,0]) (AF f60 [1,0,1,0]) ⟨[(0,D.acc 0),(1,D.int .i64 aV),(5,D.int .i64 0)],[Ob.ew 8 (aB.map Node.c) (some ey)]⟩) hΓ C0 (by kernel_rfl) D5 (wz (by rfl) (yO (Gs hΓ (fun bO cJ h=>?_) aB [] aV (by have:=hr _ (aC (i:=0) rfl);simpa using this) h)));have h:=aG h;subst h;exact fM (n:=2000) 1 [] (.ret (D.gb [D.int .i64 cJ,D.agg [D.fr 0 8 (bO.map Node.c),D.val ey]])) hΓ C0 (by kernel_rfl) D5 rfl
def kJ(aB:aF)(aV:Int):Option (aF×Int):=((su aB.rules aV).bind fun y1=>((uE aB.ends y1.2).bind fun y3=>((qv aB.ay y3.2).bind fun y5=>((sn aB.nodes y5.2).bind fun y7=>((nC aB.facts y7.2).bind fun y9=>(some ((⟨y1.1,y3.1,y5.1,y7.1,y9.1,aB.cK⟩:aF),y9.2)))))))
theorem xu{aB:aF}{aV:Int}{r:aF×Int}(h:kJ aB aV=some r):rj prog 19 [D.agg [D.acc 0,D.acc 1,D.acc 2,D.acc 3,D.acc 4,D.int .i64 aB.cK],D.int .i64 aV] [(4,aB.rules.map aO.c),(1,aB.ends.map dZ),(3,aB.ay.map aP.c),(8,aB.nodes.map Node.c),(2,aB.facts.map aE.c)] [(4,r.1.rules.map aO.c),(1,r.1.ends.map dZ),(3,r.1.ay.map aP.c),(8,r.1.nodes.map Node.c),(2,r.1.facts.map aE.c)] (D.int .i64 r.2):=by
 refine rj.of (c:=jt f19) func19 rfl (by decide) (by simp[f19]) rfl rfl ?_;intro hr Γ hΓ vs hvs
 match vs,hvs with
 | [ey,v1_,v2_,v3_,v4_],_=>
 have hΓ:Γ.nt=26:=hΓ;rw[kJ]at h;refine(show AW prog Γ (jt f19) (KQ prog Γ (fun _ _=>False) (uz prog f19 [ey,v1_,v2_,v3_,v4_] [(4,r.1.rules.map aO.c),(1,r.1.ends.map dZ),(3,r.1.ay.map aP.c),(8,r.1.nodes.map Node.c),(2,r.1.facts.map aE.c)] (D.int .i64 r.2)) []) _ from ?_);obtain⟨y1,h2,h⟩:=aD h;obtain⟨y3,h4,h⟩:=aD h;obtain⟨y5,h6,h⟩:=aD h;obtain⟨y7,h8,h⟩:=aD h;obtain⟨y9,h10,h⟩:=aD h;have h:=aG h;subst h;exact fM (n:=2000) 5 [.gv [0] [(4,y1.1.map aO.c)] (D.int .i64 y1.2),.gv [1] [(1,y3.1.map dZ)] (D.int .i64 y3.2),.gv [2] [(3,y5.1.map aP.c)] (D.int .i64 y5.2),.gv [3] [(8,y7.1.map Node.c)] (D.int .i64 y7.2),.gv [4] [(2,y9.1.map aE.c)] (D.int .i64 y9.2)] (.ret (D.gb [D.int .i64 y9.2,D.agg [D.fr 0 4 (y1.1.map aO.c),D.val ey],D.agg [D.fr 0 1 (y3.1.map dZ),D.val v1_],D.agg [D.fr 0 3 (y5.1.map aP.c),D.val v2_],D.agg [D.fr 0 8 (y7.1.map Node.c),D.val v3_],D.agg [D.fr 0 2 (y9.1.map aE.c),D.val v4_]])) hΓ C0 (by kernel_rfl) (ow (FX h2) (ow (Gr h4) (ow (EO h6) (ow (FV h8) (ow (vG h10) D5))))) rfl
def qd(aB:aE)(aV:Int):Option (aE×Int):=((fJ aB.args aV).bind fun y1=>(some ((⟨aB.rel,y1.1⟩:aE),y1.2)))
theorem Gq{aB:aE}{aV:Int}{r:aE×Int}(h:qd aB aV=some r):rj prog 28 [D.agg [D.str aB.rel,D.acc 0],D.int .i64 aV] [(1,aB.args.map tx)] [(1,r.1.args.map tx)] (D.int .i64 r.2):=by
 refine rj.of (c:=jt f28) func28 rfl (by decide) (by simp[f28]) rfl rfl ?_;intro hr Γ hΓ vs hvs
 match vs,hvs with
 | [ey],_=>
 have hΓ:Γ.nt=10:=hΓ;rw[qd]at h;refine(show AW prog Γ (jt f28) (KQ prog Γ (fun _ _=>False) (uz prog f28 [ey] [(1,r.1.args.map tx)] (D.int .i64 r.2)) []) _ from ?_);obtain⟨y1,h2,h⟩:=aD h;have h:=aG h;subst h;exact fM (n:=2000) 1 [.gv [0] [(1,y1.1.map tx)] (D.int .i64 y1.2)] (.ret (D.gb [D.int .i64 y1.2,D.agg [D.fr 0 1 (y1.1.map tx),D.val ey]])) hΓ C0 (by kernel_rfl) (ow (iN h2) D5) rfl
end Go.Cx
namespace Go.Cx
open Go.RowKit Go.Proofs Tryz
set_option maxRecDepth 100000
variable{Γ:vP}{N:Nat->St->Prop}
def fP(aB:aI)(k1:Int->Option Int):aI->Nat->Int->Option Int
 | [],i1,b7=>(k1 b7)
 |bD::bn,i1,b7=>((c8 b7).bind fun RE=>(bif !((bD:Bytes)==RE)then(some (-1))else(fP aB k1 bn (i1+1) (IntKind.i64.wrap (b7+1)))))
def gO(aB:aI)(aV:Int):Option Int:=(fP aB (fun(cJ:Int)=>(some cJ)) aB 0 aV)
def FQ(aB:aI)(b7:Int)(cS:Int):St:=⟨[(0,D.sl (aB.map tx)),(1,D.int .i64 b7),(5,D.int .i64 cS)],[]⟩
theorem EL(hΓ:Γ.nt=22){aB:aI}{r:Int}{k1:Int->Option Int}(cX:∀(cJ:Int),k1 cJ=some r->Ax Γ N f122 (.q [[none]] (D.int .i64 r)) [1,1] ⟨[(1,D.int .i64 cJ)],[]⟩)(hm1:aB.length<=maxLen):∀(rest:aI) (i1:Nat) (b7:Int),aB.drop i1=rest->fP aB k1 rest i1 b7=some r->Ar Γ N f122 (.q [[none]] (D.int .i64 r)) [1,0,1,0] (rest.length+1) (FQ aB b7 (i1:Int)):=by
 intro rest
 induction rest with
 |nil=>
  intro i1 b7 aq h;rw[fP]at h;refine aM fun N1 bu bq=>?_
  exact((aU.ge tx aq).a [.hl 0 [1] []]).ex hΓ bu (cX b7 h)
 |cons bD bn ih1=>
  intro i1 b7 aq h;rw[fP]at h;refine aM fun N1 bu bq=>?_
  obtain⟨RE,h22,h⟩:=aD h;have dJ:=((((aU.lt tx aq).a [.n 6]).l (ax tx 1 (dc aq) rfl)).g (bg h22))
  obtain⟨h23,h⟩|⟨h23,h⟩:=aL h
  ·cases h;exact(dJ.b h23).ret hΓ
  ·exact((dJ.b h23).a [.cn [0,1,5] []]).ct hΓ bq (iS aq hm1) (ih1 (i1+1) (IntKind.i64.wrap (b7+1)) (dn aq) h)
theorem kr{aB:aI}{aV:Int}{r:Int}(h:gO aB aV=some r):Good prog 122 [D.sl (aB.map tx),D.int .i64 aV] (D.int .i64 r):=by
 refine gd func122 [[none]] 22 fun hr Γ hΓ=>?_
 rw[gO]at h;refine(aU.a [.cn [0,1,5] []]).lp hΓ (EL hΓ (fun cJ h=>?_) (by have:=(dS.sl (hr _ (aC (i:=0) rfl))).1;simpa using this) aB 0 aV rfl h);have h:=aG h;subst h;exact aU.ret hΓ
def gj(aB:aj)(k1:Int->Option Int):aj->Nat->Int->Option Int
 | [],i1,b7=>(k1 b7)
 |bD::bn,i1,b7=>(bif (bD.kind:Int) != b7 then(some (-1))else((c8 (IntKind.i64.wrap (b7+1))).bind fun y62=>(bif !((bD.pat.rel:Bytes)==y62)then(some (-1))else((gO bD.pat.args (IntKind.i64.wrap ((IntKind.i64.wrap (b7+1))+1))).bind fun y65=>(bif decide ((y65:Int)<0)then(some (-1))else((c8 y65).bind fun y68=>(bif !((bD.left:Bytes)==y68)then(some (-1))else((c8 (IntKind.i64.wrap (y65+1))).bind fun y71=>(bif !((bD.right:Bytes)==y71)then(some (-1))else(gj aB k1 bn (i1+1) (IntKind.i64.wrap ((IntKind.i64.wrap (y65+1))+1))))))))))))
def sX(aB:aj)(aV:Int):Option Int:=(gj aB (fun(cJ:Int)=>(some cJ)) aB 0 aV)
def Iy(aB:aj)(b7:Int)(cS:Int):St:=⟨[(0,D.sl (aB.map aN.c)),(1,D.int .i64 b7),(5,D.int .i64 cS)],[]⟩
theorem Gg(hΓ:Γ.nt=63){aB:aj}{r:Int}{k1:Int->Option Int}(cX:∀(cJ:Int),k1 cJ=some r->Ax Γ N f120 (.q [[none]] (D.int .i64 r)) [1,1] ⟨[(1,D.int .i64 cJ)],[]⟩)(hm1:aB.length<=maxLen):∀(rest:aj) (i1:Nat) (b7:Int),aB.drop i1=rest->gj aB k1 rest i1 b7=some r->Ar Γ N f120 (.q [[none]] (D.int .i64 r)) [1,0,1,0] (rest.length+1) (Iy aB b7 (i1:Int)):=by
 intro rest
 induction rest with
 |nil=>
  intro i1 b7 aq h;rw[gj]at h;refine aM fun N1 bu bq=>?_
  exact((aU.ge aN.c aq).a [.hl 0 [1] []]).ex hΓ bu (cX b7 h)
 |cons bD bn ih1=>
  intro i1 b7 aq h;rw[gj]at h;refine aM fun N1 bu bq=>?_
  have wX:=((aU.lt aN.c aq).l (ax aN.c 5 (dc aq) rfl))
  obtain⟨h61,h⟩|⟨h61,h⟩:=aL h
  ·cases h;exact(wX.b h61).ret hΓ
  ·obtain⟨y62,h63,h⟩:=aD h;have AG:=((((wX.b h61).a [.n 8]).l (ax aN.c 5 (dc aq) rfl)).g (bg h63))
   obtain⟨h64,h⟩|⟨h64,h⟩:=aL h
   ·cases h;exact(AG.b h64).ret hΓ
   ·obtain⟨y65,h66,h⟩:=aD h;have D3:=(((AG.b h64).l (ax aN.c 5 (dc aq) rfl)).g (kr h66))
    obtain⟨h67,h⟩|⟨h67,h⟩:=aL h
    ·cases h;exact(D3.b h67).ret hΓ
    ·obtain⟨y68,h69,h⟩:=aD h;have Hw:=((((D3.b h67).a [.n 7]).l (ax aN.c 5 (dc aq) rfl)).g (bg h69))
     obtain⟨h70,h⟩|⟨h70,h⟩:=aL h
     ·cases h;exact(Hw.b h70).ret hΓ
     ·obtain⟨y71,h72,h⟩:=aD h;have yc:=((((Hw.b h70).a [.n 7]).l (ax aN.c 5 (dc aq) rfl)).g (bg h72))
      obtain⟨h73,h⟩|⟨h73,h⟩:=aL h
      ·cases h;exact(yc.b h73).ret hΓ
      ·exact((yc.b h73).a [.cn [0,1,5] []]).ct hΓ bq (iS aq hm1) (ih1 (i1+1) (IntKind.i64.wrap ((IntKind.i64.wrap (y65+1))+1)) (dn aq) h)
theorem FN{aB:aj}{aV:Int}{r:Int}(h:sX aB aV=some r):Good prog 120 [D.sl (aB.map aN.c),D.int .i64 aV] (D.int .i64 r):=by
 refine gd func120 [[none]] 63 fun hr Γ hΓ=>?_
 rw[sX]at h;refine(aU.a [.cn [0,1,5] []]).lp hΓ (Gg hΓ (fun cJ h=>?_) (by have:=(dS.sl (hr _ (aC (i:=0) rfl))).1;simpa using this) aB 0 aV rfl h);have h:=aG h;subst h;exact aU.ret hΓ
def fO(aB:bw)(k1:Int->Option Int):bw->Nat->Int->Option Int
 | [],i1,b7=>(k1 b7)
 |bD::bn,i1,b7=>(bif (bD.kind:Int) != b7 then(some (-1))else((c8 (IntKind.i64.wrap (b7+1))).bind fun Nr=>(bif !((bD.pat.rel:Bytes)==Nr)then(some (-1))else((gO bD.pat.args (IntKind.i64.wrap ((IntKind.i64.wrap (b7+1))+1))).bind fun nw=>(bif decide ((nw:Int)<0)then(some (-1))else(fO aB k1 bn (i1+1) nw))))))
def pz(aB:bw)(aV:Int):Option Int:=(fO aB (fun(cJ:Int)=>(some cJ)) aB 0 aV)
def FL(aB:bw)(b7:Int)(cS:Int):St:=⟨[(0,D.sl (aB.map Action.c)),(1,D.int .i64 b7),(5,D.int .i64 cS)],[]⟩
theorem EJ(hΓ:Γ.nt=43){aB:bw}{r:Int}{k1:Int->Option Int}(cX:∀(cJ:Int),k1 cJ=some r->Ax Γ N f121 (.q [[none]] (D.int .i64 r)) [1,1] ⟨[(1,D.int .i64 cJ)],[]⟩)(hm1:aB.length<=maxLen):∀(rest:bw) (i1:Nat) (b7:Int),aB.drop i1=rest->fO aB k1 rest i1 b7=some r->Ar Γ N f121 (.q [[none]] (D.int .i64 r)) [1,0,1,0] (rest.length+1) (FL aB b7 (i1:Int)):=by
 intro rest
 induction rest with
 |nil=>
  intro i1 b7 aq h;rw[fO]at h;refine aM fun N1 bu bq=>?_
  exact((aU.ge Action.c aq).a [.hl 0 [1] []]).ex hΓ bu (cX b7 h)
 |cons bD bn ih1=>
  intro i1 b7 aq h;rw[fO]at h;refine aM fun N1 bu bq=>?_
  have jN:=((aU.lt Action.c aq).l (ax Action.c 3 (dc aq) rfl))
  obtain⟨h37,h⟩|⟨h37,h⟩:=aL h
  ·cases h;exact(jN.b h37).ret hΓ
  ·obtain⟨Nr,h39,h⟩:=aD h;have uY:=((((jN.b h37).a [.n 8]).l (ax Action.c 3 (dc aq) rfl)).g (bg h39))
   obtain⟨h40,h⟩|⟨h40,h⟩:=aL h
   ·cases h;exact(uY.b h40).ret hΓ
   ·obtain⟨nw,h42,h⟩:=aD h;have wX:=(((uY.b h40).l (ax Action.c 3 (dc aq) rfl)).g (kr h42))
    obtain⟨h43,h⟩|⟨h43,h⟩:=aL h
    ·cases h;exact(wX.b h43).ret hΓ
    ·exact((wX.b h43).a [.cn [0,1,5] []]).ct hΓ bq (iS aq hm1) (ih1 (i1+1) nw (dn aq) h)
theorem DO{aB:bw}{aV:Int}{r:Int}(h:pz aB aV=some r):Good prog 121 [D.sl (aB.map Action.c),D.int .i64 aV] (D.int .i64 r):=by
 refine gd func121 [[none]] 43 fun hr Γ hΓ=>?_
 rw[pz]at h;refine(aU.a [.cn [0,1,5] []]).lp hΓ (EJ hΓ (fun cJ h=>?_) (by have:=(dS.sl (hr _ (aC (i:=0) rfl))).1;simpa using this) aB 0 aV rfl h);have h:=aG h;subst h;exact aU.ret hΓ
def gr(aB:au)(k1:Int->Option Int):au->Nat->Int->Option Int
 | [],i1,b7=>(k1 b7)
 |bD::bn,i1,b7=>((c8 b7).bind fun Ju=>(bif !((bD.name:Bytes)==Ju)then(some (-1))else(bif (bD.prio:Int) != (IntKind.i64.wrap (b7+1))then(some (-1))else((sX bD.conds (IntKind.i64.wrap ((IntKind.i64.wrap (b7+1))+1))).bind fun y53=>(bif decide ((y53:Int)<0)then(some (-1))else((pz bD.cr y53).bind fun y56=>(bif decide ((y56:Int)<0)then(some (-1))else(gr aB k1 bn (i1+1) y56))))))))
def si(aB:au)(aV:Int):Option Int:=(gr aB (fun(cJ:Int)=>(some cJ)) aB 0 aV)
def J3(aB:au)(b7:Int)(cS:Int):St:=⟨[(0,D.sl (aB.map aO.c)),(1,D.int .i64 b7),(5,D.int .i64 cS)],[]⟩
theorem Gl(hΓ:Γ.nt=50){aB:au}{r:Int}{k1:Int->Option Int}(cX:∀(cJ:Int),k1 cJ=some r->Ax Γ N f63 (.q [[none]] (D.int .i64 r)) [1,1] ⟨[(1,D.int .i64 cJ)],[]⟩)(hm1:aB.length<=maxLen):∀(rest:au) (i1:Nat) (b7:Int),aB.drop i1=rest->gr aB k1 rest i1 b7=some r->Ar Γ N f63 (.q [[none]] (D.int .i64 r)) [1,0,1,0] (rest.length+1) (J3 aB b7 (i1:Int)):=by
 intro rest
 induction rest with
 |nil=>
  intro i1 b7 aq h;rw[gr]at h;refine aM fun N1 bu bq=>?_
  exact((aU.ge aO.c aq).a [.hl 0 [1] []]).ex hΓ bu (cX b7 h)
 |cons bD bn ih1=>
  intro i1 b7 aq h;rw[gr]at h;refine aM fun N1 bu bq=>?_
  obtain⟨Ju,h50,h⟩:=aD h;have uY:=((((aU.lt aO.c aq).a [.n 7]).l (ax aO.c 4 (dc aq) rfl)).g (bg h50))
  obtain⟨h51,h⟩|⟨h51,h⟩:=aL h
  ·cases h;exact(uY.b h51).ret hΓ
  ·have wX:=((uY.b h51).l (ax aO.c 4 (dc aq) rfl))
   obtain⟨h52,h⟩|⟨h52,h⟩:=aL h
   ·cases h;exact(wX.b h52).ret hΓ
   ·obtain⟨y53,h54,h⟩:=aD h;have AG:=(((wX.b h52).l (ax aO.c 4 (dc aq) rfl)).g (FN h54))
    obtain⟨h55,h⟩|⟨h55,h⟩:=aL h
    ·cases h;exact(AG.b h55).ret hΓ
    ·obtain⟨y56,h57,h⟩:=aD h;have D3:=(((AG.b h55).l (ax aO.c 4 (dc aq) rfl)).g (DO h57))
     obtain⟨h58,h⟩|⟨h58,h⟩:=aL h
     ·cases h;exact(D3.b h58).ret hΓ
     ·exact((D3.b h58).a [.cn [0,1,5] []]).ct hΓ bq (iS aq hm1) (ih1 (i1+1) y56 (dn aq) h)
theorem yz{aB:au}{aV:Int}{r:Int}(h:si aB aV=some r):Good prog 63 [D.sl (aB.map aO.c),D.int .i64 aV] (D.int .i64 r):=by
 refine gd func63 [[none]] 50 fun hr Γ hΓ=>?_
 rw[si]at h;refine(aU.a [.cn [0,1,5] []]).lp hΓ (Gl hΓ (fun cJ h=>?_) (by have:=(dS.sl (hr _ (aC (i:=0) rfl))).1;simpa using this) aB 0 aV rfl h);have h:=aG h;subst h;exact aU.ret hΓ
def iZ(aB:bJ)(k1:Int->Option Int):bJ->Nat->Int->Option Int
 | [],i1,b7=>(k1 b7)
 |bD::bn,i1,b7=>(bif (bD:Int) != b7 then(some (-1))else(iZ aB k1 bn (i1+1) (IntKind.i64.wrap (b7+1))))
def uD(aB:bJ)(aV:Int):Option Int:=(iZ aB (fun(cJ:Int)=>(some cJ)) aB 0 aV)
def Kr(aB:bJ)(b7:Int)(cS:Int):St:=⟨[(0,D.sl (aB.map dZ)),(1,D.int .i64 b7),(5,D.int .i64 cS)],[]⟩
theorem J0(hΓ:Γ.nt=21){aB:bJ}{r:Int}{k1:Int->Option Int}(cX:∀(cJ:Int),k1 cJ=some r->Ax Γ N f64 (.q [[none]] (D.int .i64 r)) [1,1] ⟨[(1,D.int .i64 cJ)],[]⟩)(hm1:aB.length<=maxLen):∀(rest:bJ) (i1:Nat) (b7:Int),aB.drop i1=rest->iZ aB k1 rest i1 b7=some r->Ar Γ N f64 (.q [[none]] (D.int .i64 r)) [1,0,1,0] (rest.length+1) (Kr aB b7 (i1:Int)):=by
 intro rest
 induction rest with
 |nil=>
  intro i1 b7 aq h;rw[iZ]at h;refine aM fun N1 bu bq=>?_
  exact((aU.ge dZ aq).a [.hl 0 [1] []]).ex hΓ bu (cX b7 h)
 |cons bD bn ih1=>
  intro i1 b7 aq h;rw[iZ]at h;refine aM fun N1 bu bq=>?_
  have dJ:=((aU.lt dZ aq).l (ax dZ 1 (dc aq) rfl))
  obtain⟨h13,h⟩|⟨h13,h⟩:=aL h
  ·cases h;exact(dJ.b h13).ret hΓ
  ·exact((dJ.b h13).a [.cn [0,1,5] []]).ct hΓ bq (iS aq hm1) (ih1 (i1+1) (IntKind.i64.wrap (b7+1)) (dn aq) h)
theorem Gi{aB:bJ}{aV:Int}{r:Int}(h:uD aB aV=some r):Good prog 64 [D.sl (aB.map dZ),D.int .i64 aV] (D.int .i64 r):=by
 refine gd func64 [[none]] 21 fun hr Γ hΓ=>?_
 rw[uD]at h;refine(aU.a [.cn [0,1,5] []]).lp hΓ (J0 hΓ (fun cJ h=>?_) (by have:=(dS.sl (hr _ (aC (i:=0) rfl))).1;simpa using this) aB 0 aV rfl h);have h:=aG h;subst h;exact aU.ret hΓ
def gl(aB:aQ)(k1:Int->Option Int):aQ->Nat->Int->Option Int
 | [],i1,b7=>(k1 b7)
 |bD::bn,i1,b7=>((c8 b7).bind fun BL=>(bif !((bD.rel:Bytes)==BL)then(some (-1))else((gO bD.args (IntKind.i64.wrap (b7+1))).bind fun I5=>(bif decide ((I5:Int)<0)then(some (-1))else(gl aB k1 bn (i1+1) I5)))))
def nB(aB:aQ)(aV:Int):Option Int:=(gl aB (fun(cJ:Int)=>(some cJ)) aB 0 aV)
def Iz(aB:aQ)(b7:Int)(cS:Int):St:=⟨[(0,D.sl (aB.map aE.c)),(1,D.int .i64 b7),(5,D.int .i64 cS)],[]⟩
theorem Gh(hΓ:Γ.nt=32){aB:aQ}{r:Int}{k1:Int->Option Int}(cX:∀(cJ:Int),k1 cJ=some r->Ax Γ N f67 (.q [[none]] (D.int .i64 r)) [1,1] ⟨[(1,D.int .i64 cJ)],[]⟩)(hm1:aB.length<=maxLen):∀(rest:aQ) (i1:Nat) (b7:Int),aB.drop i1=rest->gl aB k1 rest i1 b7=some r->Ar Γ N f67 (.q [[none]] (D.int .i64 r)) [1,0,1,0] (rest.length+1) (Iz aB b7 (i1:Int)):=by
 intro rest
 induction rest with
 |nil=>
  intro i1 b7 aq h;rw[gl]at h;refine aM fun N1 bu bq=>?_
  exact((aU.ge aE.c aq).a [.hl 0 [1] []]).ex hΓ bu (cX b7 h)
 |cons bD bn ih1=>
  intro i1 b7 aq h;rw[gl]at h;refine aM fun N1 bu bq=>?_
  obtain⟨BL,h34,h⟩:=aD h;have kT:=((((aU.lt aE.c aq).a [.n 7]).l (ax aE.c 2 (dc aq) rfl)).g (bg h34))
  obtain⟨h35,h⟩|⟨h35,h⟩:=aL h
  ·cases h;exact(kT.b h35).ret hΓ
  ·obtain⟨I5,h37,h⟩:=aD h;have jN:=(((kT.b h35).l (ax aE.c 2 (dc aq) rfl)).g (kr h37))
   obtain⟨h38,h⟩|⟨h38,h⟩:=aL h
   ·cases h;exact(jN.b h38).ret hΓ
   ·exact((jN.b h38).a [.cn [0,1,5] []]).ct hΓ bq (iS aq hm1) (ih1 (i1+1) I5 (dn aq) h)
theorem vF{aB:aQ}{aV:Int}{r:Int}(h:nB aB aV=some r):Good prog 67 [D.sl (aB.map aE.c),D.int .i64 aV] (D.int .i64 r):=by
 refine gd func67 [[none]] 32 fun hr Γ hΓ=>?_
 rw[nB]at h;refine(aU.a [.cn [0,1,5] []]).lp hΓ (Gh hΓ (fun cJ h=>?_) (by have:=(dS.sl (hr _ (aC (i:=0) rfl))).1;simpa using this) aB 0 aV rfl h);have h:=aG h;subst h;exact aU.ret hΓ
def gE(aB:b8)(k1:Int->Option Int):b8->Nat->Int->Option Int
 | [],i1,b7=>(k1 b7)
 |bD::bn,i1,b7=>((c8 b7).bind fun D2=>(bif !((bD.shape.rel:Bytes)==D2)then(some (-1))else((gO bD.shape.args (IntKind.i64.wrap (b7+1))).bind fun y48=>(bif decide ((y48:Int)<0)then(some (-1))else((nB bD.facts y48).bind fun y51=>(bif decide ((y51:Int)<0)then(some (-1))else(gE aB k1 bn (i1+1) y51)))))))
def qt(aB:b8)(aV:Int):Option Int:=(gE aB (fun(cJ:Int)=>(some cJ)) aB 0 aV)
def Gf(aB:b8)(b7:Int)(cS:Int):St:=⟨[(0,D.sl (aB.map aP.c)),(1,D.int .i64 b7),(5,D.int .i64 cS)],[]⟩
theorem FM(hΓ:Γ.nt=43){aB:b8}{r:Int}{k1:Int->Option Int}(cX:∀(cJ:Int),k1 cJ=some r->Ax Γ N f65 (.q [[none]] (D.int .i64 r)) [1,1] ⟨[(1,D.int .i64 cJ)],[]⟩)(hm1:aB.length<=maxLen):∀(rest:b8) (i1:Nat) (b7:Int),aB.drop i1=rest->gE aB k1 rest i1 b7=some r->Ar Γ N f65 (.q [[none]] (D.int .i64 r)) [1,0,1,0] (rest.length+1) (Gf aB b7 (i1:Int)):=by
 intro rest
 induction rest with
 |nil=>
  intro i1 b7 aq h;rw[gE]at h;refine aM fun N1 bu bq=>?_
  exact((aU.ge aP.c aq).a [.hl 0 [1] []]).ex hΓ bu (cX b7 h)
 |cons bD bn ih1=>
  intro i1 b7 aq h;rw[gE]at h;refine aM fun N1 bu bq=>?_
  obtain⟨D2,h46,h⟩:=aD h;have jN:=((((aU.lt aP.c aq).a [.n 8]).l (ax aP.c 3 (dc aq) rfl)).g (bg h46))
  obtain⟨h47,h⟩|⟨h47,h⟩:=aL h
  ·cases h;exact(jN.b h47).ret hΓ
  ·obtain⟨y48,h49,h⟩:=aD h;have uY:=(((jN.b h47).l (ax aP.c 3 (dc aq) rfl)).g (kr h49))
   obtain⟨h50,h⟩|⟨h50,h⟩:=aL h
   ·cases h;exact(uY.b h50).ret hΓ
   ·obtain⟨y51,h52,h⟩:=aD h;have wX:=(((uY.b h50).l (ax aP.c 3 (dc aq) rfl)).g (vF h52))
    obtain⟨h53,h⟩|⟨h53,h⟩:=aL h
    ·cases h;exact(wX.b h53).ret hΓ
    ·exact((wX.b h53).a [.cn [0,1,5] []]).ct hΓ bq (iS aq hm1) (ih1 (i1+1) y51 (dn aq) h)
theorem EK{aB:b8}{aV:Int}{r:Int}(h:qt aB aV=some r):Good prog 65 [D.sl (aB.map aP.c),D.int .i64 aV] (D.int .i64 r):=by
 refine gd func65 [[none]] 43 fun hr Γ hΓ=>?_
 rw[qt]at h;refine(aU.a [.cn [0,1,5] []]).lp hΓ (FM hΓ (fun cJ h=>?_) (by have:=(dS.sl (hr _ (aC (i:=0) rfl))).1;simpa using this) aB 0 aV rfl h);have h:=aG h;subst h;exact aU.ret hΓ
def gq(aB:aT)(k1:Int->Option Int):aT->Nat->Int->Option Int
 | [],i1,b7=>(k1 b7)
 |bD::bn,i1,b7=>((c8 b7).bind fun BL=>(bif !((bD.var:Bytes)==BL)then(some (-1))else((c8 (IntKind.i64.wrap (b7+1))).bind fun I5=>(bif !((bD.value:Bytes)==I5)then(some (-1))else(gq aB k1 bn (i1+1) (IntKind.i64.wrap ((IntKind.i64.wrap (b7+1))+1)))))))
def sZ(aB:aT)(aV:Int):Option Int:=(gq aB (fun(cJ:Int)=>(some cJ)) aB 0 aV)
def J2(aB:aT)(b7:Int)(cS:Int):St:=⟨[(0,D.sl (aB.map aS.c)),(1,D.int .i64 b7),(5,D.int .i64 cS)],[]⟩
theorem Gk(hΓ:Γ.nt=33){aB:aT}{r:Int}{k1:Int->Option Int}(cX:∀(cJ:Int),k1 cJ=some r->Ax Γ N f76 (.q [[none]] (D.int .i64 r)) [1,1] ⟨[(1,D.int .i64 cJ)],[]⟩)(hm1:aB.length<=maxLen):∀(rest:aT) (i1:Nat) (b7:Int),aB.drop i1=rest->gq aB k1 rest i1 b7=some r->Ar Γ N f76 (.q [[none]] (D.int .i64 r)) [1,0,1,0] (rest.length+1) (J2 aB b7 (i1:Int)):=by
 intro rest
 induction rest with
 |nil=>
  intro i1 b7 aq h;rw[gq]at h;refine aM fun N1 bu bq=>?_
  exact((aU.ge aS.c aq).a [.hl 0 [1] []]).ex hΓ bu (cX b7 h)
 |cons bD bn ih1=>
  intro i1 b7 aq h;rw[gq]at h;refine aM fun N1 bu bq=>?_
  obtain⟨BL,h34,h⟩:=aD h;have kT:=((((aU.lt aS.c aq).a [.n 7]).l (ax aS.c 2 (dc aq) rfl)).g (bg h34))
  obtain⟨h35,h⟩|⟨h35,h⟩:=aL h
  ·cases h;exact(kT.b h35).ret hΓ
  ·obtain⟨I5,h37,h⟩:=aD h;have jN:=((((kT.b h35).a [.n 7]).l (ax aS.c 2 (dc aq) rfl)).g (bg h37))
   obtain⟨h38,h⟩|⟨h38,h⟩:=aL h
   ·cases h;exact(jN.b h38).ret hΓ
   ·exact((jN.b h38).a [.cn [0,1,5] []]).ct hΓ bq (iS aq hm1) (ih1 (i1+1) (IntKind.i64.wrap ((IntKind.i64.wrap (b7+1))+1)) (dn aq) h)
theorem FP{aB:aT}{aV:Int}{r:Int}(h:sZ aB aV=some r):Good prog 76 [D.sl (aB.map aS.c),D.int .i64 aV] (D.int .i64 r):=by
 refine gd func76 [[none]] 33 fun hr Γ hΓ=>?_
 rw[sZ]at h;refine(aU.a [.cn [0,1,5] []]).lp hΓ (Gk hΓ (fun cJ h=>?_) (by have:=(dS.sl (hr _ (aC (i:=0) rfl))).1;simpa using this) aB 0 aV rfl h);have h:=aG h;subst h;exact aU.ret hΓ
def gF(aB:af)(k1:Int->Option Int):af->Nat->Int->Option Int
 | [],i1,b7=>(k1 b7)
 |bD::bn,i1,b7=>((nB bD.facts b7).bind fun BL=>(bif decide ((BL:Int)<0)then(some (-1))else((sZ bD.bind BL).bind fun I5=>(bif decide ((I5:Int)<0)then(some (-1))else(gF aB k1 bn (i1+1) I5)))))
def qu(aB:af)(aV:Int):Option Int:=(gF aB (fun(cJ:Int)=>(some cJ)) aB 0 aV)
def Gm(aB:af)(b7:Int)(cS:Int):St:=⟨[(0,D.sl (aB.map aJ.c)),(1,D.int .i64 b7),(5,D.int .i64 cS)],[]⟩
theorem FR(hΓ:Γ.nt=31){aB:af}{r:Int}{k1:Int->Option Int}(cX:∀(cJ:Int),k1 cJ=some r->Ax Γ N f123 (.q [[none]] (D.int .i64 r)) [1,1] ⟨[(1,D.int .i64 cJ)],[]⟩)(hm1:aB.length<=maxLen):∀(rest:af) (i1:Nat) (b7:Int),aB.drop i1=rest->gF aB k1 rest i1 b7=some r->Ar Γ N f123 (.q [[none]] (D.int .i64 r)) [1,0,1,0] (rest.length+1) (Gm aB b7 (i1:Int)):=by
 intro rest
 induction rest with
 |nil=>
  intro i1 b7 aq h;rw[gF]at h;refine aM fun N1 bu bq=>?_
  exact((aU.ge aJ.c aq).a [.hl 0 [1] []]).ex hΓ bu (cX b7 h)
 |cons bD bn ih1=>
  intro i1 b7 aq h;rw[gF]at h;refine aM fun N1 bu bq=>?_
  obtain⟨BL,h34,h⟩:=aD h;have kT:=(((aU.lt aJ.c aq).l (ax aJ.c 2 (dc aq) rfl)).g (vF h34))
  obtain⟨h35,h⟩|⟨h35,h⟩:=aL h
  ·cases h;exact(kT.b h35).ret hΓ
  ·obtain⟨I5,h37,h⟩:=aD h;have jN:=(((kT.b h35).l (ax aJ.c 2 (dc aq) rfl)).g (FP h37))
   obtain⟨h38,h⟩|⟨h38,h⟩:=aL h
   ·cases h;exact(jN.b h38).ret hΓ
   ·exact((jN.b h38).a [.cn [0,1,5] []]).ct hΓ bq (iS aq hm1) (ih1 (i1+1) I5 (dn aq) h)
theorem EM{aB:af}{aV:Int}{r:Int}(h:qu aB aV=some r):Good prog 123 [D.sl (aB.map aJ.c),D.int .i64 aV] (D.int .i64 r):=by
 refine gd func123 [[none]] 31 fun hr Γ hΓ=>?_
 rw[qu]at h;refine(aU.a [.cn [0,1,5] []]).lp hΓ (FR hΓ (fun cJ h=>?_) (by have:=(dS.sl (hr _ (aC (i:=0) rfl))).1;simpa using this) aB 0 aV rfl h);have h:=aG h;subst h;exact aU.ret hΓ
def gm(aB:az)(k1:Int->Option Int):az->Nat->Int->Option Int
 | [],i1,b7=>(k1 b7)
 |bD::bn,i1,b7=>(bif (bD.parent:Int) != b7 then(some (-1))else(bif (bD.cond.kind:Int) != (IntKind.i64.wrap (b7+1))then(some (-1))else((c8 (IntKind.i64.wrap ((IntKind.i64.wrap (b7+1))+1))).bind fun y83=>(bif !((bD.cond.pat.rel:Bytes)==y83)then(some (-1))else((gO bD.cond.pat.args (IntKind.i64.wrap ((IntKind.i64.wrap ((IntKind.i64.wrap (b7+1))+1))+1))).bind fun y86=>(bif decide ((y86:Int)<0)then(some (-1))else((c8 y86).bind fun y89=>(bif !((bD.cond.left:Bytes)==y89)then(some (-1))else((c8 (IntKind.i64.wrap (y86+1))).bind fun y92=>(bif !((bD.cond.right:Bytes)==y92)then(some (-1))else(bif (bD.cP:Int) != (IntKind.i64.wrap ((IntKind.i64.wrap (y86+1))+1))then(some (-1))else((qu bD.tokens (IntKind.i64.wrap ((IntKind.i64.wrap ((IntKind.i64.wrap (y86+1))+1))+1))).bind fun y96=>(bif decide ((y96:Int)<0)then(some (-1))else(gm aB k1 bn (i1+1) y96))))))))))))))
def sY(aB:az)(aV:Int):Option Int:=(gm aB (fun(cJ:Int)=>(some cJ)) aB 0 aV)
def J1(aB:az)(b7:Int)(cS:Int):St:=⟨[(0,D.sl (aB.map Node.c)),(1,D.int .i64 b7),(5,D.int .i64 cS)],[]⟩
theorem Gj(hΓ:Γ.nt=95){aB:az}{r:Int}{k1:Int->Option Int}(cX:∀(cJ:Int),k1 cJ=some r->Ax Γ N f66 (.q [[none]] (D.int .i64 r)) [1,1] ⟨[(1,D.int .i64 cJ)],[]⟩)(hm1:aB.length<=maxLen):∀(rest:az) (i1:Nat) (b7:Int),aB.drop i1=rest->gm aB k1 rest i1 b7=some r->Ar Γ N f66 (.q [[none]] (D.int .i64 r)) [1,0,1,0] (rest.length+1) (J1 aB b7 (i1:Int)):=by
 intro rest
 induction rest with
 |nil=>
  intro i1 b7 aq h;rw[gm]at h;refine aM fun N1 bu bq=>?_
  exact((aU.ge Node.c aq).a [.hl 0 [1] []]).ex hΓ bu (cX b7 h)
 |cons bD bn ih1=>
  intro i1 b7 aq h;rw[gm]at h;refine aM fun N1 bu bq=>?_
  have Hw:=((aU.lt Node.c aq).l (ax Node.c 8 (dc aq) rfl))
  obtain⟨h81,h⟩|⟨h81,h⟩:=aL h
  ·cases h;exact(Hw.b h81).ret hΓ
  ·have yc:=((Hw.b h81).l (ax Node.c 8 (dc aq) rfl))
   obtain⟨h82,h⟩|⟨h82,h⟩:=aL h
   ·cases h;exact(yc.b h82).ret hΓ
   ·obtain⟨y83,h84,h⟩:=aD h;have Cv:=((((yc.b h82).a [.n 9]).l (ax Node.c 8 (dc aq) rfl)).g (bg h84))
    obtain⟨h85,h⟩|⟨h85,h⟩:=aL h
    ·cases h;exact(Cv.b h85).ret hΓ
    ·obtain⟨y86,h87,h⟩:=aD h;have BB:=(((Cv.b h85).l (ax Node.c 8 (dc aq) rfl)).g (kr h87))
     obtain⟨h88,h⟩|⟨h88,h⟩:=aL h
     ·cases h;exact(BB.b h88).ret hΓ
     ·obtain⟨y89,h90,h⟩:=aD h;have Hu:=((((BB.b h88).a [.n 8]).l (ax Node.c 8 (dc aq) rfl)).g (bg h90))
      obtain⟨h91,h⟩|⟨h91,h⟩:=aL h
      ·cases h;exact(Hu.b h91).ret hΓ
      ·obtain⟨y92,h93,h⟩:=aD h;have Hv:=((((Hu.b h91).a [.n 8]).l (ax Node.c 8 (dc aq) rfl)).g (bg h93))
       obtain⟨h94,h⟩|⟨h94,h⟩:=aL h
       ·cases h;exact(Hv.b h94).ret hΓ
       ·have Qs:=((Hv.b h94).l (ax Node.c 8 (dc aq) rfl))
        obtain⟨h95,h⟩|⟨h95,h⟩:=aL h
        ·cases h;exact(Qs.b h95).ret hΓ
        ·obtain⟨y96,h97,h⟩:=aD h;have Qt:=(((Qs.b h95).l (ax Node.c 8 (dc aq) rfl)).g (EM h97))
         obtain⟨h98,h⟩|⟨h98,h⟩:=aL h
         ·cases h;exact(Qt.b h98).ret hΓ
         ·exact((Qt.b h98).a [.cn [0,1,5] []]).ct hΓ bq (iS aq hm1) (ih1 (i1+1) y96 (dn aq) h)
theorem FO{aB:az}{aV:Int}{r:Int}(h:sY aB aV=some r):Good prog 66 [D.sl (aB.map Node.c),D.int .i64 aV] (D.int .i64 r):=by
 refine gd func66 [[none]] 95 fun hr Γ hΓ=>?_
 rw[sY]at h;refine(aU.a [.cn [0,1,5] []]).lp hΓ (Gj hΓ (fun cJ h=>?_) (by have:=(dS.sl (hr _ (aC (i:=0) rfl))).1;simpa using this) aB 0 aV rfl h);have h:=aG h;subst h;exact aU.ret hΓ
def kI(aB:aF)(aV:Int):Option Int:=((si aB.rules aV).bind fun y1=>(bif decide ((y1:Int)<0)then(some (-1))else((uD aB.ends y1).bind fun y4=>(bif decide ((y4:Int)<0)then(some (-1))else((qt aB.ay y4).bind fun y7=>(bif decide ((y7:Int)<0)then(some (-1))else((sY aB.nodes y7).bind fun Oa=>(bif decide ((Oa:Int)<0)then(some (-1))else((nB aB.facts Oa).bind fun rp=>(bif decide ((rp:Int)<0)then(some (-1))else(some rp)))))))))))
theorem iM{aB:aF}{aV:Int}{r:Int}(h:kI aB aV=some r):Good prog 21 [D.agg (aF.c aB),D.int .i64 aV] (D.int .i64 r):=by
 refine gd func21 [[none]] 36 fun hr Γ hΓ=>?_
 rw[kI]at h;obtain⟨y1,h2,h⟩:=aD h;obtain⟨h3,h⟩|⟨h3,h⟩:=aL h
 ·cases h;exact((aU.g (yz h2)).b h3).ret hΓ
 ·obtain⟨y4,h5,h⟩:=aD h;have jz:=(((aU.g (yz h2)).b h3).g (Gi h5))
  obtain⟨h6,h⟩|⟨h6,h⟩:=aL h
  ·cases h;exact(jz.b h6).ret hΓ
  ·obtain⟨y7,h8,h⟩:=aD h;have dJ:=((jz.b h6).g (EK h8))
   obtain⟨h9,h⟩|⟨h9,h⟩:=aL h
   ·cases h;exact(dJ.b h9).ret hΓ
   ·obtain⟨Oa,h11,h⟩:=aD h;have kT:=((dJ.b h9).g (FO h11))
    obtain⟨h12,h⟩|⟨h12,h⟩:=aL h
    ·cases h;exact(kT.b h12).ret hΓ
    ·obtain⟨rp,h14,h⟩:=aD h;have jN:=((kT.b h12).g (vF h14))
     obtain⟨h15,h⟩|⟨h15,h⟩:=aL h
     ·cases h;exact(jN.b h15).ret hΓ
     ·have h:=aG h;subst h;exact(jN.b h15).ret hΓ
end Go.Cx
namespace Go.Cx
open Go.RowKit Go.Proofs Tryz
theorem x6.sub{a b:aR}(h:x6 a)(hs:∀d∈b,d∈a):x6 b:=fun d hd=>h d (hs d hd)
def hY{α:Type}(w:α->Nat)(l:List α):Nat:=(l.map w).sum
theorem uX{α:Type}(w:α->Nat)(x:α)(l:List α):hY w (x::l)=w x+hY w l:=by simp[hY]
theorem p8{α:Type}(m w:α->Nat)(l:List α)(h:∀x,m x<=6+6*w x):hY m l<=6*jw w l:=by
 induction l with
 |nil=>simp[hY]
 |cons x l ih=>rw[uX,qL];have:=h x;omega
def zw(_:Int):Nat:=0
theorem a8U(l:bJ):(l.map zw).sum=0:=by
 induction l with
 |nil=>rfl
 |cons x l ih=>simp only[bG,List.sum_cons,ih];rfl
def P8{α:Type}(n:Nat)(mark:Int->Option (α×Int))(held:α->Int->Option Int):Prop:=∀k:Int,1<=k->k+(n:Int)<=4611686018427387904->∃x,mark k=some (x,k+(n:Int))/\held x k=some (k+(n:Int))
theorem ZT(K:Bytes->Option Bytes):∀(n f:Nat) (k:Int) (v:Bytes),0<=k->k<10^n->n<f->∃s,fK K f k v=(if v.length+n<=1000 then K s else fK K f k v)/\s.length<=v.length+n:=by
 intro n
 induction n with
 |zero=>
  intro f k v h0 h1 hf;obtain⟨m,rfl⟩:∃m,f=m+1:=⟨f-1,by omega⟩
  have hk:k=0:=by simp at h1;omega
  subst hk;exact⟨v,by split<;>simp[fK],by omega⟩
 |succ n ih=>
  intro f k v h0 h1 hf;obtain⟨m,rfl⟩:∃m,f=m+1:=⟨f-1,by omega⟩
  by_cases hk:k>0
  ·have hd:k/10<10^n:=by
    have:(10:Int)^(n+1)=10^n*10:=Int.pow_succ 10 n;rw[this]at h1;exact F2 (by omega) h1
   obtain⟨s,e1,e2⟩:=ih m (k/10) ([UInt8.ofNat (IntKind.u8.wrap (IntKind.i64.wrap (48+((k:Int)%10)))).toNat]++v) (by omega) hd (by omega);refine⟨s,?_,by simp at e2;omega⟩;split
   ·rename_i hv;rw[bP (by simp;omega)]at e1;have c1:decide (k>0)=true:=by simp[hk]
    have c2:(decide (0<=k)&&decide (0<(10:Int)))=true:=by simp[h0]
    have c3:decide (([UInt8.ofNat (IntKind.u8.wrap (IntKind.i64.wrap (48+((k:Int)%10)))).toNat]:Bytes).length+v.length<=maxLen)=true:=by unfold maxLen;simp;omega
    rw[fK,c1,aW,c2,aW,c3,aW,aW];exact e1
   ·rfl
  ·have hk0:k=0:=by omega
   subst hk0;exact⟨v,by split<;>simp[fK],by omega⟩
theorem lG(k:Int)(h0:1<=k)(h1:k<=4611686018427387904):∃s,c8 k=some s:=by
 unfold c8;have c:decide ((k:Int)<=0)=false:=bB (by omega);rw[c,ah];obtain⟨s,e1,e2⟩:=ZT (fun(Rg:Bytes)=>(bif decide (([109]:Bytes).length+(Rg:Bytes).length<=maxLen)then(some (([109])++Rg))else none)) 20 fuel k [] (by omega) (by omega) (by decide);rw[bP (by simp)]at e1;have c2:decide (([109]:Bytes).length+s.length<=maxLen)=true:=by unfold maxLen;simp at e2⊢;omega
 rw[e1,c2];exact⟨_,rfl⟩
theorem Nc(l:aI)(h:dS (.sl (l.map tx)))(v:Int)(h0:0<=v)(h1:v<=1048576):x7 (pV l v) v (jw tw l):=by
 unfold pV;exact szS h h0 h1 fun v' g0 g1=>szL (w:=tw) (f:=fun x v=>some (IntKind.i64.wrap (v-(x.length:Int)))) (jX l (fun z=>some z)) (fun _ _=>rfl) (fun _ _ _ _=>by simp only[jX,aA]) l (fun x hx v g0 g1=>⟨_,rfl,by rw[a3H ((x6.row h x hx (.str x) (by simp)).str) g0 g1];omega,fun q=>by rw[a3H ((x6.row h x hx (.str x) (by simp)).str) g0 g1]at q⊢;unfold tw;omega⟩) 0 v' g0 g1
theorem Nf(l:aI)(h:jw tw l<=1048576):pW l=some l:=by
 unfold pW;rw[K9 (by rw[aZ];exact cQ (gV _ _) h) (by decide)];exact toL (c:=tx) (f:=(fun x=>some x)) (jY l (fun q=>some q)) (fun _ _=>rfl) (fun _ _ _ _=>by simp only[jY,aA]) (fun x hx=>rfl)
theorem NA(a b:aI):pU a b=some (decide (a=b)):=by
 unfold pU;exact S2 (c:=tx) (f:=(fun x y=>some (x==y))) (fun k=>mM a b k) (fun _ _=>rfl) (fun _ _ _ _=>rfl) (fun x y=>by rw[av,bh];simp)
theorem wL(l:aI):P8 (hY (fun _=>1) l) (fJ l) gO:=by
 have key:∀(rest dn:aI) (v:Int),1<=v->v+(hY (fun _=>1) rest:Int)<=4611686018427387904->∃rest':aI,(∀k,fR k rest dn v=k (dn++rest') (v+(hY (fun _=>1) rest:Int)))/\∀a k i,fP a k rest' i v=k (v+(hY (fun _=>1) rest:Int)):=by
  intro rest
  induction rest with
  |nil=>intro dn v _ _;exact⟨[],fun k=>by simp[fR,hY],fun a k i=>by simp[fP,hY]⟩
  |cons x xs ih=>
   intro dn v h0 h1;rw[uX]at h1⊢;obtain⟨s1,e1⟩:=lG v (by omega) (by omega);obtain⟨rest',p1,p2⟩:=ih (dn++[s1]) (v+1) (by omega) (by omega);refine⟨s1::rest',fun k=>?_,fun a k i=>?_⟩
   ·rw[fR];simp(disch:=omega) only[yF,aA,e1];rw[p1];simp only[bY,dK]
    congr 1
    omega
   ·rw[fP];simp(disch:=omega) only[yF,aA,cu,bQ,ah,fw,e1];rw[p2]
    congr 1
    omega
 intro k h0 h1;obtain⟨l',p1,p2⟩:=key l [] k h0 h1;exact⟨l',by unfold fJ;rw[p1];rfl,by unfold gO;rw[p2]⟩
theorem Zu(l:bJ)(h:dS (.sl (l.map dZ)))(v:Int)(h0:0<=v)(h1:v<=1048576):x7 (xD l v) v (jw zw l):=by
 unfold xD;exact szS h h0 h1 fun v' g0 g1=>x7.fin.eq (a8U l).symm
theorem a02(l:bJ)(h:jw zw l<=1048576):xE l=some l:=by
 unfold xE;rw[K9 (by rw[aZ];exact cQ (gV _ _) h) (by decide)];exact toL (c:=dZ) (f:=(fun x=>some x)) (nH l (fun q=>some q)) (fun _ _=>rfl) (fun _ _ _ _=>by simp only[nH,aA]) (fun x hx=>rfl)
theorem Z8(a b:bJ):xC a b=some (decide (a=b)):=by
 unfold xC;exact S2 (c:=dZ) (f:=(fun x y=>some (x==y))) (fun k=>pT a b k) (fun _ _=>rfl) (fun _ _ _ _=>rfl) (fun x y=>by rw[av,bh];simp)
theorem ZY(l:bJ):P8 (hY (fun _=>1) l) (uE l) uD:=by
 have key:∀(rest dn:bJ) (v:Int),1<=v->v+(hY (fun _=>1) rest:Int)<=4611686018427387904->∃rest':bJ,(∀k,ia k rest dn v=k (dn++rest') (v+(hY (fun _=>1) rest:Int)))/\∀a k i,iZ a k rest' i v=k (v+(hY (fun _=>1) rest:Int)):=by
  intro rest
  induction rest with
  |nil=>intro dn v _ _;exact⟨[],fun k=>by simp[ia,hY],fun a k i=>by simp[iZ,hY]⟩
  |cons x xs ih=>
   intro dn v h0 h1;rw[uX]at h1⊢;obtain⟨rest',p1,p2⟩:=ih (dn++[v]) (v+1) (by omega) (by omega);refine⟨v::rest',fun k=>?_,fun a k i=>?_⟩
   ·rw[ia];simp(disch:=omega) only[yF,aA];rw[p1];simp only[bY,dK]
    congr 1
    omega
   ·rw[iZ];simp(disch:=omega) only[yF,aA,cu,bQ,ah,fw];rw[p2]
    congr 1
    omega
 intro k h0 h1;obtain⟨l',p1,p2⟩:=key l [] k h0 h1;exact⟨l',by unfold uE;rw[p1];rfl,by unfold uD;rw[p2]⟩
def aE.wt(x:aE):Nat:=tw x.rel+jw tw x.args
def aE.iH(x:aE):Nat:=1+hY (fun _=>1) x.args
theorem aE.nZ(x:aE):x.iH<=6+6*x.wt:=by
 unfold aE.iH aE.wt;have h0:=p8 (fun _=>1) tw x.args (fun y=>by omega);omega
theorem SO(x:aE)(h:x6 x.c)(v:Int)(h0:0<=v)(h1:v<=1048576):x7 (rN x v) v (aE.wt x):=by
 unfold rN;refine x7.eq (n:=(tw x.rel+(jw tw x.args+0))) ?_ (by simp only[aE.wt];omega);refine x7.str (m:=(jw tw x.args+0)) ((h (.str x.rel) (by simp)).str) h0 h1 fun g1 e1=>?_
 rw[e1];have l1:v-(x.rel.length:Int)<=1048576:=by omega
 refine(Nc x.args (h (.sl (x.args.map tx)) (by simp)) _ g1 l1).sub l1 g1 (m:=0) fun r2 g2 l2=>?_
 exact x7.fin
theorem SR(x:aE)(h:aE.wt x<=1048576):lK x=some x:=by
 unfold lK;simp only[Nf x.args (by simp only[aE.wt]at h;omega),aA]
theorem S0(a b:aE):rL a b=some (decide (a=b)):=by
 obtain⟨a0,a1⟩:=a;obtain⟨b0,b1⟩:=b;unfold rL;simp only[NA,aA,ez,bne];by_cases h0:a0=b0<;>by_cases h1:a1=b1<;>simp[h0,h1]
def aE.AT(x:aE):Nat:=hY (fun _=>1) x.args
theorem aE.Pj(x:aE):aE.AT x<=6*aE.wt x:=by
 unfold aE.AT aE.wt;have h0:=p8 (fun _=>1) tw x.args (fun y=>by omega);omega
theorem Wv(x:aE)(k:Int)(h0:1<=k)(h1:k+(aE.AT x:Int)<=4611686018427387904):∃y:aE,qd x k=some (y,k+(aE.AT x:Int))/\(fun _ k=>some (k+(aE.AT x:Int))) y k=some (k+(aE.AT x:Int))/\(⟨x.rel,y.args⟩:aE)=y:=by
 unfold aE.AT at h1⊢;obtain⟨l1,e1,f1⟩:=wL x.args k (by omega) (by omega);refine⟨(⟨x.rel,l1⟩:aE),?_,?_,rfl⟩
 ·unfold qd;simp only[aA,e1]
  all_goals(congr 2<;>omega)
 ·rfl
theorem ZX(x:aE):P8 (aE.AT x) (qd x) (fun _ k=>some (k+(aE.AT x:Int))):=fun k h0 h1=>by
 obtain⟨y,a,b,_⟩:=Wv x k h0 h1;exact⟨y,a,b⟩
theorem Lu(l:aQ)(h:dS (.sl (l.map aE.c)))(v:Int)(h0:0<=v)(h1:v<=1048576):x7 (q9 l v) v (jw aE.wt l):=by
 unfold q9;exact szS h h0 h1 fun v' g0 g1=>szL (w:=aE.wt) (f:=rN) (oK l (fun z=>some z)) (fun _ _=>rfl) (fun _ _ _ _=>rfl) l (fun x hx v g0 g1=>SO x (x6.row h x hx) v g0 g1) 0 v' g0 g1
theorem Lv(l:aQ)(h:jw aE.wt l<=1048576):qA l=some l:=by
 unfold qA;rw[K9 (by rw[aZ];exact cQ (gV _ _) h) (by decide)];exact toL (c:=aE.c) (f:=lK) (oP l (fun q=>some q)) (fun _ _=>rfl) (fun _ _ _ _=>rfl) (fun x hx=>SR x (by have:=iP (w:=aE.wt) hx;omega))
theorem Lc(a b:aQ):py a b=some (decide (a=b)):=by
 unfold py;exact S2 (c:=aE.c) (f:=rL) (fun k=>oF a b k) (fun _ _=>rfl) (fun _ _ _ _=>rfl) S0
theorem Lm(l:aQ):P8 (hY aE.iH l) (nC l) nB:=by
 have key:∀(rest dn:aQ) (v:Int),1<=v->v+(hY aE.iH rest:Int)<=4611686018427387904->∃rest':aQ,(∀k,gw k rest dn v=k (dn++rest') (v+(hY aE.iH rest:Int)))/\∀a k i,gl a k rest' i v=k (v+(hY aE.iH rest:Int)):=by
  intro rest
  induction rest with
  |nil=>intro dn v _ _;exact⟨[],fun k=>by simp[gw,hY],fun a k i=>by simp[gl,hY]⟩
  |cons x xs ih=>
   intro dn v h0 h1;rw[uX]at h1⊢;simp only[aE.iH]at h1⊢;obtain⟨s1,e1⟩:=lG v (by omega) (by omega);obtain⟨l2,e2,f2⟩:=wL x.args (v+1) (by omega) (by omega);obtain⟨rest',p1,p2⟩:=ih (dn++[(⟨s1,l2⟩:aE)]) (v+1+(hY (fun _=>1) x.args:Int)) (by omega) (by omega);refine⟨(⟨s1,l2⟩:aE)::rest',fun k=>?_,fun a k i=>?_⟩
   ·rw[gw];simp(disch:=omega) only[yF,aA,e1,e2];rw[p1];simp only[bY,dK]
    congr 1
    omega
   ·have g0:decide ((v+1+(hY (fun _=>1) x.args:Int):Int)<0)=false:=bB (by omega);rw[gl];simp(disch:=omega) only[yF,aA,cu,bQ,ah,fw,e1,f2,g0];rw[p2]
    congr 1
    omega
 intro k h0 h1;obtain⟨l',p1,p2⟩:=key l [] k h0 h1;exact⟨l',by unfold nC;rw[p1];rfl,by unfold nB;rw[p2]⟩
theorem Em(x:aE)(h:x6 x.c)(v:Int)(h0:0<=v)(h1:v<=1048576):x7 (nE x v) v (aE.wt x):=by
 unfold nE;refine x7.eq (n:=(tw x.rel+(jw tw x.args+0))) ?_ (by simp only[aE.wt];omega);refine x7.str (m:=(jw tw x.args+0)) ((h (.str x.rel) (by simp)).str) h0 h1 fun g1 e1=>?_
 rw[e1];have l1:v-(x.rel.length:Int)<=1048576:=by omega
 refine(Nc x.args (h (.sl (x.args.map tx)) (by simp)) _ g1 l1).sub l1 g1 (m:=0) fun r2 g2 l2=>?_
 exact x7.fin
theorem En(x:aE)(h:aE.wt x<=1048576):nI x=some x:=by
 unfold nI;simp only[Nf x.args (by simp only[aE.wt]at h;omega),aA]
theorem Ec(a b:aE):n9 a b=some (decide (a=b)):=by
 obtain⟨a0,a1⟩:=a;obtain⟨b0,b1⟩:=b;unfold n9;simp only[NA,aA,ez,bne];by_cases h0:a0=b0<;>by_cases h1:a1=b1<;>simp[h0,h1]
def aS.wt(x:aS):Nat:=tw x.var+tw x.value
def aS.iH(x:aS):Nat:=2
theorem aS.nZ(x:aS):x.iH<=6+6*x.wt:=by
 unfold aS.iH aS.wt;omega
theorem Zw(x:aS)(h:x6 x.c)(v:Int)(h0:0<=v)(h1:v<=1048576):x7 (uj x v) v (aS.wt x):=by
 unfold uj;refine x7.eq (n:=(tw x.var+(tw x.value+0))) ?_ (by simp only[aS.wt];omega);refine x7.str (m:=(tw x.value+0)) ((h (.str x.var) (by simp)).str) h0 h1 fun g1 e1=>?_
 rw[e1];have l1:v-(x.var.length:Int)<=1048576:=by omega
 refine x7.str (m:=0) ((h (.str x.value) (by simp)).str) g1 l1 fun g2 e2=>?_
 rw[e2];have l2:v-(x.var.length:Int)-(x.value.length:Int)<=1048576:=by omega
 exact x7.fin
theorem a04(x:aS)(h:aS.wt x<=1048576):um x=some x:=by
 unfold um;rfl
theorem ZA(a b:aS):uf a b=some (decide (a=b)):=by
 obtain⟨a0,a1⟩:=a;obtain⟨b0,b1⟩:=b;unfold uf;simp only[aA,ez,bne];by_cases h0:a0=b0<;>by_cases h1:a1=b1<;>simp[h0,h1]
theorem XM(l:aT)(h:dS (.sl (l.map aS.c)))(v:Int)(h0:0<=v)(h1:v<=1048576):x7 (vo l v) v (jw aS.wt l):=by
 unfold vo;exact szS h h0 h1 fun v' g0 g1=>szL (w:=aS.wt) (f:=uj) (oM l (fun z=>some z)) (fun _ _=>rfl) (fun _ _ _ _=>rfl) l (fun x hx v g0 g1=>Zw x (x6.row h x hx) v g0 g1) 0 v' g0 g1
theorem XV(l:aT)(h:jw aS.wt l<=1048576):vu l=some l:=by
 unfold vu;rw[K9 (by rw[aZ];exact cQ (gV _ _) h) (by decide)];exact toL (c:=aS.c) (f:=um) (oR l (fun q=>some q)) (fun _ _=>rfl) (fun _ _ _ _=>rfl) (fun x hx=>a04 x (by have:=iP (w:=aS.wt) hx;omega))
theorem WL(a b:aT):vi a b=some (decide (a=b)):=by
 unfold vi;exact S2 (c:=aS.c) (f:=uf) (fun k=>oH a b k) (fun _ _=>rfl) (fun _ _ _ _=>rfl) ZA
theorem Wx(l:aT):P8 (hY aS.iH l) (sr l) sZ:=by
 have key:∀(rest dn:aT) (v:Int),1<=v->v+(hY aS.iH rest:Int)<=4611686018427387904->∃rest':aT,(∀k,gy k rest dn v=k (dn++rest') (v+(hY aS.iH rest:Int)))/\∀a k i,gq a k rest' i v=k (v+(hY aS.iH rest:Int)):=by
  intro rest
  induction rest with
  |nil=>intro dn v _ _;exact⟨[],fun k=>by simp[gy,hY],fun a k i=>by simp[gq,hY]⟩
  |cons x xs ih=>
   intro dn v h0 h1;rw[uX]at h1⊢;simp only[aS.iH]at h1⊢;obtain⟨s1,e1⟩:=lG v (by omega) (by omega);obtain⟨s2,e2⟩:=lG (v+1) (by omega) (by omega);obtain⟨rest',p1,p2⟩:=ih (dn++[(⟨s1,s2⟩:aS)]) (v+1+1) (by omega) (by omega);refine⟨(⟨s1,s2⟩:aS)::rest',fun k=>?_,fun a k i=>?_⟩
   ·rw[gy];simp(disch:=omega) only[yF,aA,e1,e2];rw[p1];simp only[bY,dK]
    congr 1
    omega
   ·rw[gq];simp(disch:=omega) only[yF,aA,cu,bQ,ah,fw,e1,e2];rw[p2]
    congr 1
    omega
 intro k h0 h1;obtain⟨l',p1,p2⟩:=key l [] k h0 h1;exact⟨l',by unfold sr;rw[p1];rfl,by unfold sZ;rw[p2]⟩
def aN.wt(x:aN):Nat:=tw x.pat.rel+jw tw x.pat.args+tw x.left+tw x.right
def aN.iH(x:aN):Nat:=4+hY (fun _=>1) x.pat.args
theorem aN.nZ(x:aN):x.iH<=6+6*x.wt:=by
 unfold aN.iH aN.wt;have h0:=p8 (fun _=>1) tw x.pat.args (fun y=>by omega);omega
theorem SN(x:aN)(h:x6 x.c)(v:Int)(h0:0<=v)(h1:v<=1048576):x7 (rM x v) v (aN.wt x):=by
 unfold rM;refine x7.eq (n:=(aE.wt x.pat+(tw x.left+(tw x.right+0)))) ?_ (by simp only[aN.wt,aE.wt];omega);refine(Em x.pat (x6.sub h (by intro d hd;simp only[bM,sB,G3]at hd⊢;rcases hd with rfl|rfl<;>simp)) _ h0 h1).sub h1 h0 (m:=(tw x.left+(tw x.right+0))) fun r1 g1 l1=>?_
 refine x7.str (m:=(tw x.right+0)) ((h (.str x.left) (by simp)).str) g1 l1 fun g2 e2=>?_
 rw[e2];have l2:r1-(x.left.length:Int)<=1048576:=by omega
 refine x7.str (m:=0) ((h (.str x.right) (by simp)).str) g2 l2 fun g3 e3=>?_
 rw[e3];have l3:r1-(x.left.length:Int)-(x.right.length:Int)<=1048576:=by omega
 exact x7.fin
theorem SQ(x:aN)(h:aN.wt x<=1048576):rO x=some x:=by
 unfold rO;simp only[En x.pat (by simp only[aN.wt,aE.wt]at h⊢;omega),aA]
theorem Rz(a b:aN):rK a b=some (decide (a=b)):=by
 obtain⟨a0,a1,a2,a3⟩:=a;obtain⟨b0,b1,b2,b3⟩:=b;unfold rK;simp only[Ec,aA,ez,bne];by_cases h0:a0=b0<;>by_cases h1:a1=b1<;>by_cases h2:a2=b2<;>by_cases h3:a3=b3<;>simp[h0,h1,h2,h3]
theorem XK(l:aj)(h:dS (.sl (l.map aN.c)))(v:Int)(h0:0<=v)(h1:v<=1048576):x7 (vm l v) v (jw aN.wt l):=by
 unfold vm;exact szS h h0 h1 fun v' g0 g1=>szL (w:=aN.wt) (f:=rM) (oJ l (fun z=>some z)) (fun _ _=>rfl) (fun _ _ _ _=>rfl) l (fun x hx v g0 g1=>SN x (x6.row h x hx) v g0 g1) 0 v' g0 g1
theorem XT(l:aj)(h:jw aN.wt l<=1048576):vq l=some l:=by
 unfold vq;rw[K9 (by rw[aZ];exact cQ (gV _ _) h) (by decide)];exact toL (c:=aN.c) (f:=rO) (oO l (fun q=>some q)) (fun _ _=>rfl) (fun _ _ _ _=>rfl) (fun x hx=>SQ x (by have:=iP (w:=aN.wt) hx;omega))
theorem WJ(a b:aj):vg a b=some (decide (a=b)):=by
 unfold vg;exact S2 (c:=aN.c) (f:=rK) (fun k=>oD a b k) (fun _ _=>rfl) (fun _ _ _ _=>rfl) Rz
theorem Wu(l:aj):P8 (hY aN.iH l) (sj l) sX:=by
 have key:∀(rest dn:aj) (v:Int),1<=v->v+(hY aN.iH rest:Int)<=4611686018427387904->∃rest':aj,(∀k,gu k rest dn v=k (dn++rest') (v+(hY aN.iH rest:Int)))/\∀a k i,gj a k rest' i v=k (v+(hY aN.iH rest:Int)):=by
  intro rest
  induction rest with
  |nil=>intro dn v _ _;exact⟨[],fun k=>by simp[gu,hY],fun a k i=>by simp[gj,hY]⟩
  |cons x xs ih=>
   intro dn v h0 h1;rw[uX]at h1⊢;simp only[aN.iH]at h1⊢;obtain⟨s2,e2⟩:=lG (v+1) (by omega) (by omega);obtain⟨l3,e3,f3⟩:=wL x.pat.args (v+1+1) (by omega) (by omega);obtain⟨s4,e4⟩:=lG (v+1+1+(hY (fun _=>1) x.pat.args:Int)) (by omega) (by omega);obtain⟨s5,e5⟩:=lG (v+1+1+(hY (fun _=>1) x.pat.args:Int)+1) (by omega) (by omega);obtain⟨rest',p1,p2⟩:=ih (dn++[(⟨v,(⟨s2,l3⟩:aE),s4,s5⟩:aN)]) (v+1+1+(hY (fun _=>1) x.pat.args:Int)+1+1) (by omega) (by omega);refine⟨(⟨v,(⟨s2,l3⟩:aE),s4,s5⟩:aN)::rest',fun k=>?_,fun a k i=>?_⟩
   ·rw[gu];simp(disch:=omega) only[yF,aA,e2,e3,e4,e5];rw[p1];simp only[bY,dK]
    congr 1
    omega
   ·have g0:decide ((v+1+1+(hY (fun _=>1) x.pat.args:Int):Int)<0)=false:=bB (by omega);rw[gj];simp(disch:=omega) only[yF,aA,cu,bQ,ah,fw,e2,f3,e4,e5,g0];rw[p2]
    congr 1
    omega
 intro k h0 h1;obtain⟨l',p1,p2⟩:=key l [] k h0 h1;exact⟨l',by unfold sj;rw[p1];rfl,by unfold sX;rw[p2]⟩
def Action.wt(x:Action):Nat:=tw x.pat.rel+jw tw x.pat.args
def Action.iH(x:Action):Nat:=2+hY (fun _=>1) x.pat.args
theorem Action.nZ(x:Action):x.iH<=6+6*x.wt:=by
 unfold Action.iH Action.wt;have h0:=p8 (fun _=>1) tw x.pat.args (fun y=>by omega);omega
theorem VU(x:Action)(h:x6 x.c)(v:Int)(h0:0<=v)(h1:v<=1048576):x7 (qe x v) v (Action.wt x):=by
 unfold qe;refine x7.eq (n:=(aE.wt x.pat+0)) ?_ (by simp only[Action.wt,aE.wt];omega);refine(Em x.pat (x6.sub h (by intro d hd;simp only[bM,sB,G3]at hd⊢;rcases hd with rfl|rfl<;>simp)) _ h0 h1).sub h1 h0 (m:=0) fun r1 g1 l1=>?_
 exact x7.fin
theorem VX(x:Action)(h:Action.wt x<=1048576):qf x=some x:=by
 unfold qf;simp only[En x.pat (by simp only[Action.wt,aE.wt]at h⊢;omega),aA]
theorem Uc(a b:Action):qc a b=some (decide (a=b)):=by
 obtain⟨a0,a1⟩:=a;obtain⟨b0,b1⟩:=b;unfold qc;simp only[Ec,aA,ez,bne];by_cases h0:a0=b0<;>by_cases h1:a1=b1<;>simp[h0,h1]
theorem To(l:bw)(h:dS (.sl (l.map Action.c)))(v:Int)(h0:0<=v)(h1:v<=1048576):x7 (sv l v) v (jw Action.wt l):=by
 unfold sv;exact szS h h0 h1 fun v' g0 g1=>szL (w:=Action.wt) (f:=qe) (mN l (fun z=>some z)) (fun _ _=>rfl) (fun _ _ _ _=>rfl) l (fun x hx v g0 g1=>VU x (x6.row h x hx) v g0 g1) 0 v' g0 g1
theorem Ts(l:bw)(h:jw Action.wt l<=1048576):tA l=some l:=by
 unfold tA;rw[K9 (by rw[aZ];exact cQ (gV _ _) h) (by decide)];exact toL (c:=Action.c) (f:=qf) (mO l (fun q=>some q)) (fun _ _=>rfl) (fun _ _ _ _=>rfl) (fun x hx=>VX x (by have:=iP (w:=Action.wt) hx;omega))
theorem Sv(a b:bw):sU a b=some (decide (a=b)):=by
 unfold sU;exact S2 (c:=Action.c) (f:=qc) (fun k=>mL a b k) (fun _ _=>rfl) (fun _ _ _ _=>rfl) Uc
theorem TO(l:bw):P8 (hY Action.iH l) (q8 l) pz:=by
 have key:∀(rest dn:bw) (v:Int),1<=v->v+(hY Action.iH rest:Int)<=4611686018427387904->∃rest':bw,(∀k,fQ k rest dn v=k (dn++rest') (v+(hY Action.iH rest:Int)))/\∀a k i,fO a k rest' i v=k (v+(hY Action.iH rest:Int)):=by
  intro rest
  induction rest with
  |nil=>intro dn v _ _;exact⟨[],fun k=>by simp[fQ,hY],fun a k i=>by simp[fO,hY]⟩
  |cons x xs ih=>
   intro dn v h0 h1;rw[uX]at h1⊢;simp only[Action.iH]at h1⊢;obtain⟨s2,e2⟩:=lG (v+1) (by omega) (by omega);obtain⟨l3,e3,f3⟩:=wL x.pat.args (v+1+1) (by omega) (by omega);obtain⟨rest',p1,p2⟩:=ih (dn++[(⟨v,(⟨s2,l3⟩:aE)⟩:Action)]) (v+1+1+(hY (fun _=>1) x.pat.args:Int)) (by omega) (by omega);refine⟨(⟨v,(⟨s2,l3⟩:aE)⟩:Action)::rest',fun k=>?_,fun a k i=>?_⟩
   ·rw[fQ];simp(disch:=omega) only[yF,aA,e2,e3];rw[p1];simp only[bY,dK]
    congr 1
    omega
   ·have g0:decide ((v+1+1+(hY (fun _=>1) x.pat.args:Int):Int)<0)=false:=bB (by omega);rw[fO];simp(disch:=omega) only[yF,aA,cu,bQ,ah,fw,e2,f3,g0];rw[p2]
    congr 1
    omega
 intro k h0 h1;obtain⟨l',p1,p2⟩:=key l [] k h0 h1;exact⟨l',by unfold q8;rw[p1];rfl,by unfold pz;rw[p2]⟩
def aO.wt(x:aO):Nat:=tw x.name+jw aN.wt x.conds+jw Action.wt x.cr
def aO.iH(x:aO):Nat:=2+hY aN.iH x.conds+hY Action.iH x.cr
theorem aO.nZ(x:aO):x.iH<=6+6*x.wt:=by
 unfold aO.iH aO.wt;have h0:=p8 aN.iH aN.wt x.conds (fun y=>aN.nZ y);have h1:=p8 Action.iH Action.wt x.cr (fun y=>Action.nZ y);omega
theorem Zx(x:aO)(h:x6 x.c)(v:Int)(h0:0<=v)(h1:v<=1048576):x7 (uk x v) v (aO.wt x):=by
 unfold uk;refine x7.eq (n:=(tw x.name+(jw aN.wt x.conds+(jw Action.wt x.cr+0)))) ?_ (by simp only[aO.wt];omega);refine x7.str (m:=(jw aN.wt x.conds+(jw Action.wt x.cr+0))) ((h (.str x.name) (by simp)).str) h0 h1 fun g1 e1=>?_
 rw[e1];have l1:v-(x.name.length:Int)<=1048576:=by omega
 refine(XK x.conds (h (.sl (x.conds.map aN.c)) (by simp)) _ g1 l1).sub l1 g1 (m:=(jw Action.wt x.cr+0)) fun r2 g2 l2=>?_
 refine(To x.cr (h (.sl (x.cr.map Action.c)) (by simp)) _ g2 l2).sub l2 g2 (m:=0) fun r3 g3 l3=>?_
 exact x7.fin
theorem a05(x:aO)(h:aO.wt x<=1048576):uo x=some x:=by
 unfold uo;simp only[XT x.conds (by simp only[aO.wt]at h;omega),Ts x.cr (by simp only[aO.wt]at h;omega),aA]
theorem ZB(a b:aO):ug a b=some (decide (a=b)):=by
 obtain⟨a0,a1,a2,a3⟩:=a;obtain⟨b0,b1,b2,b3⟩:=b;unfold ug;simp only[Sv,WJ,aA,ez,bne];by_cases h0:a0=b0<;>by_cases h1:a1=b1<;>by_cases h2:a2=b2<;>by_cases h3:a3=b3<;>simp[h0,h1,h2,h3]
theorem XN(l:au)(h:dS (.sl (l.map aO.c)))(v:Int)(h0:0<=v)(h1:v<=1048576):x7 (vp l v) v (jw aO.wt l):=by
 unfold vp;exact szS h h0 h1 fun v' g0 g1=>szL (w:=aO.wt) (f:=uk) (oN l (fun z=>some z)) (fun _ _=>rfl) (fun _ _ _ _=>rfl) l (fun x hx v g0 g1=>Zx x (x6.row h x hx) v g0 g1) 0 v' g0 g1
theorem XW(l:au)(h:jw aO.wt l<=1048576):vv l=some l:=by
 unfold vv;rw[K9 (by rw[aZ];exact cQ (gV _ _) h) (by decide)];exact toL (c:=aO.c) (f:=uo) (oS l (fun q=>some q)) (fun _ _=>rfl) (fun _ _ _ _=>rfl) (fun x hx=>a05 x (by have:=iP (w:=aO.wt) hx;omega))
theorem WM(a b:au):vl a b=some (decide (a=b)):=by
 unfold vl;exact S2 (c:=aO.c) (f:=ug) (fun k=>oI a b k) (fun _ _=>rfl) (fun _ _ _ _=>rfl) ZB
theorem Wy(l:au):P8 (hY aO.iH l) (su l) si:=by
 have key:∀(rest dn:au) (v:Int),1<=v->v+(hY aO.iH rest:Int)<=4611686018427387904->∃rest':au,(∀k,gz k rest dn v=k (dn++rest') (v+(hY aO.iH rest:Int)))/\∀a k i,gr a k rest' i v=k (v+(hY aO.iH rest:Int)):=by
  intro rest
  induction rest with
  |nil=>intro dn v _ _;exact⟨[],fun k=>by simp[gz,hY],fun a k i=>by simp[gr,hY]⟩
  |cons x xs ih=>
   intro dn v h0 h1;rw[uX]at h1⊢;simp only[aO.iH]at h1⊢;obtain⟨s1,e1⟩:=lG v (by omega) (by omega);obtain⟨l3,e3,f3⟩:=Wu x.conds (v+1+1) (by omega) (by omega);obtain⟨l4,e4,f4⟩:=TO x.cr (v+1+1+(hY aN.iH x.conds:Int)) (by omega) (by omega);obtain⟨rest',p1,p2⟩:=ih (dn++[(⟨s1,(v+1),l3,l4⟩:aO)]) (v+1+1+(hY aN.iH x.conds:Int)+(hY Action.iH x.cr:Int)) (by omega) (by omega);refine⟨(⟨s1,(v+1),l3,l4⟩:aO)::rest',fun k=>?_,fun a k i=>?_⟩
   ·rw[gz];simp(disch:=omega) only[yF,aA,e1,e3,e4];rw[p1];simp only[bY,dK]
    congr 1
    omega
   ·have g0:decide ((v+1+1+(hY aN.iH x.conds:Int):Int)<0)=false:=bB (by omega);have g1:decide ((v+1+1+(hY aN.iH x.conds:Int)+(hY Action.iH x.cr:Int):Int)<0)=false:=bB (by omega);rw[gr];simp(disch:=omega) only[yF,aA,cu,bQ,ah,fw,e1,f3,f4,g0,g1];rw[p2]
    congr 1
    omega
 intro k h0 h1;obtain⟨l',p1,p2⟩:=key l [] k h0 h1;exact⟨l',by unfold su;rw[p1];rfl,by unfold si;rw[p2]⟩
def aJ.wt(x:aJ):Nat:=jw aE.wt x.facts+jw aS.wt x.bind
def aJ.iH(x:aJ):Nat:=0+hY aE.iH x.facts+hY aS.iH x.bind
theorem aJ.nZ(x:aJ):x.iH<=6+6*x.wt:=by
 unfold aJ.iH aJ.wt;have h0:=p8 aE.iH aE.wt x.facts (fun y=>aE.nZ y);have h1:=p8 aS.iH aS.wt x.bind (fun y=>aS.nZ y);omega
theorem XO(x:aJ)(h:x6 x.c)(v:Int)(h0:0<=v)(h1:v<=1048576):x7 (sy x v) v (aJ.wt x):=by
 unfold sy;refine x7.eq (n:=(jw aE.wt x.facts+(jw aS.wt x.bind+0))) ?_ (by simp only[aJ.wt];omega);refine(Lu x.facts (h (.sl (x.facts.map aE.c)) (by simp)) _ h0 h1).sub h1 h0 (m:=(jw aS.wt x.bind+0)) fun r1 g1 l1=>?_
 refine(XM x.bind (h (.sl (x.bind.map aS.c)) (by simp)) _ g1 l1).sub l1 g1 (m:=0) fun r2 g2 l2=>?_
 exact x7.fin
theorem XX(x:aJ)(h:aJ.wt x<=1048576):tC x=some x:=by
 unfold tC;simp only[Lv x.facts (by simp only[aJ.wt]at h;omega),XV x.bind (by simp only[aJ.wt]at h;omega),aA]
theorem WN(a b:aJ):sW a b=some (decide (a=b)):=by
 obtain⟨a0,a1⟩:=a;obtain⟨b0,b1⟩:=b;unfold sW;simp only[Lc,WL,aA,ez,bne];by_cases h0:a0=b0<;>by_cases h1:a1=b1<;>simp[h0,h1]
theorem VW(l:af)(h:dS (.sl (l.map aJ.c)))(v:Int)(h0:0<=v)(h1:v<=1048576):x7 (uG l v) v (jw aJ.wt l):=by
 unfold uG;exact szS h h0 h1 fun v' g0 g1=>szL (w:=aJ.wt) (f:=sy) (nF l (fun z=>some z)) (fun _ _=>rfl) (fun _ _ _ _=>rfl) l (fun x hx v g0 g1=>XO x (x6.row h x hx) v g0 g1) 0 v' g0 g1
theorem VZ(l:af)(h:jw aJ.wt l<=1048576):uI l=some l:=by
 unfold uI;rw[K9 (by rw[aZ];exact cQ (gV _ _) h) (by decide)];exact toL (c:=aJ.c) (f:=tC) (nJ l (fun q=>some q)) (fun _ _=>rfl) (fun _ _ _ _=>rfl) (fun x hx=>XX x (by have:=iP (w:=aJ.wt) hx;omega))
theorem Ue(a b:af):uC a b=some (decide (a=b)):=by
 unfold uC;exact S2 (c:=aJ.c) (f:=sW) (fun k=>nA a b k) (fun _ _=>rfl) (fun _ _ _ _=>rfl) WN
theorem V9(l:af):P8 (hY aJ.iH l) (qw l) qu:=by
 have key:∀(rest dn:af) (v:Int),1<=v->v+(hY aJ.iH rest:Int)<=4611686018427387904->∃rest':af,(∀k,gH k rest dn v=k (dn++rest') (v+(hY aJ.iH rest:Int)))/\∀a k i,gF a k rest' i v=k (v+(hY aJ.iH rest:Int)):=by
  intro rest
  induction rest with
  |nil=>intro dn v _ _;exact⟨[],fun k=>by simp[gH,hY],fun a k i=>by simp[gF,hY]⟩
  |cons x xs ih=>
   intro dn v h0 h1;rw[uX]at h1⊢;simp only[aJ.iH]at h1⊢;obtain⟨l1,e1,f1⟩:=Lm x.facts v (by omega) (by omega);obtain⟨l2,e2,f2⟩:=Wx x.bind (v+(hY aE.iH x.facts:Int)) (by omega) (by omega);obtain⟨rest',p1,p2⟩:=ih (dn++[(⟨l1,l2⟩:aJ)]) (v+(hY aE.iH x.facts:Int)+(hY aS.iH x.bind:Int)) (by omega) (by omega);refine⟨(⟨l1,l2⟩:aJ)::rest',fun k=>?_,fun a k i=>?_⟩
   ·rw[gH];simp(disch:=omega) only[yF,aA,e1,e2];rw[p1];simp only[bY,dK]
    congr 1
    omega
   ·have g0:decide ((v+(hY aE.iH x.facts:Int):Int)<0)=false:=bB (by omega);have g1:decide ((v+(hY aE.iH x.facts:Int)+(hY aS.iH x.bind:Int):Int)<0)=false:=bB (by omega);rw[gF];simp(disch:=omega) only[yF,aA,cu,bQ,ah,fw,f1,f2,g0,g1];rw[p2]
    congr 1
    omega
 intro k h0 h1;obtain⟨l',p1,p2⟩:=key l [] k h0 h1;exact⟨l',by unfold qw;rw[p1];rfl,by unfold qu;rw[p2]⟩
def aP.wt(x:aP):Nat:=tw x.shape.rel+jw tw x.shape.args+jw aE.wt x.facts
def aP.iH(x:aP):Nat:=1+hY (fun _=>1) x.shape.args+hY aE.iH x.facts
theorem aP.nZ(x:aP):x.iH<=6+6*x.wt:=by
 unfold aP.iH aP.wt;have h0:=p8 (fun _=>1) tw x.shape.args (fun y=>by omega);have h1:=p8 aE.iH aE.wt x.facts (fun y=>aE.nZ y);omega
theorem XJ(x:aP)(h:x6 x.c)(v:Int)(h0:0<=v)(h1:v<=1048576):x7 (sw x v) v (aP.wt x):=by
 unfold sw;refine x7.eq (n:=(aE.wt x.shape+(jw aE.wt x.facts+0))) ?_ (by simp only[aP.wt,aE.wt];omega);refine(Em x.shape (x6.sub h (by intro d hd;simp only[bM,sB,G3]at hd⊢;rcases hd with rfl|rfl<;>simp)) _ h0 h1).sub h1 h0 (m:=(jw aE.wt x.facts+0)) fun r1 g1 l1=>?_
 refine(Lu x.facts (h (.sl (x.facts.map aE.c)) (by simp)) _ g1 l1).sub l1 g1 (m:=0) fun r2 g2 l2=>?_
 exact x7.fin
theorem XS(x:aP)(h:aP.wt x<=1048576):tB x=some x:=by
 unfold tB;simp only[En x.shape (by simp only[aP.wt,aE.wt]at h⊢;omega),Lv x.facts (by simp only[aP.wt]at h;omega),aA]
theorem WI(a b:aP):sV a b=some (decide (a=b)):=by
 obtain⟨a0,a1⟩:=a;obtain⟨b0,b1⟩:=b;unfold sV;simp only[Lc,Ec,aA,ez,bne];by_cases h0:a0=b0<;>by_cases h1:a1=b1<;>simp[h0,h1]
theorem VV(l:b8)(h:dS (.sl (l.map aP.c)))(v:Int)(h0:0<=v)(h1:v<=1048576):x7 (uF l v) v (jw aP.wt l):=by
 unfold uF;exact szS h h0 h1 fun v' g0 g1=>szL (w:=aP.wt) (f:=sw) (nD l (fun z=>some z)) (fun _ _=>rfl) (fun _ _ _ _=>rfl) l (fun x hx v g0 g1=>XJ x (x6.row h x hx) v g0 g1) 0 v' g0 g1
theorem VY(l:b8)(h:jw aP.wt l<=1048576):uH l=some l:=by
 unfold uH;rw[K9 (by rw[aZ];exact cQ (gV _ _) h) (by decide)];exact toL (c:=aP.c) (f:=tB) (nG l (fun q=>some q)) (fun _ _=>rfl) (fun _ _ _ _=>rfl) (fun x hx=>XS x (by have:=iP (w:=aP.wt) hx;omega))
theorem Ud(a b:b8):uB a b=some (decide (a=b)):=by
 unfold uB;exact S2 (c:=aP.c) (f:=sV) (fun k=>n8 a b k) (fun _ _=>rfl) (fun _ _ _ _=>rfl) WI
theorem V8(l:b8):P8 (hY aP.iH l) (qv l) qt:=by
 have key:∀(rest dn:b8) (v:Int),1<=v->v+(hY aP.iH rest:Int)<=4611686018427387904->∃rest':b8,(∀k,gG k rest dn v=k (dn++rest') (v+(hY aP.iH rest:Int)))/\∀a k i,gE a k rest' i v=k (v+(hY aP.iH rest:Int)):=by
  intro rest
  induction rest with
  |nil=>intro dn v _ _;exact⟨[],fun k=>by simp[gG,hY],fun a k i=>by simp[gE,hY]⟩
  |cons x xs ih=>
   intro dn v h0 h1;rw[uX]at h1⊢;simp only[aP.iH]at h1⊢;obtain⟨s1,e1⟩:=lG v (by omega) (by omega);obtain⟨l2,e2,f2⟩:=wL x.shape.args (v+1) (by omega) (by omega);obtain⟨l3,e3,f3⟩:=Lm x.facts (v+1+(hY (fun _=>1) x.shape.args:Int)) (by omega) (by omega);obtain⟨rest',p1,p2⟩:=ih (dn++[(⟨(⟨s1,l2⟩:aE),l3⟩:aP)]) (v+1+(hY (fun _=>1) x.shape.args:Int)+(hY aE.iH x.facts:Int)) (by omega) (by omega);refine⟨(⟨(⟨s1,l2⟩:aE),l3⟩:aP)::rest',fun k=>?_,fun a k i=>?_⟩
   ·rw[gG];simp(disch:=omega) only[yF,aA,e1,e2,e3];rw[p1];simp only[bY,dK]
    congr 1
    omega
   ·have g0:decide ((v+1+(hY (fun _=>1) x.shape.args:Int):Int)<0)=false:=bB (by omega);have g1:decide ((v+1+(hY (fun _=>1) x.shape.args:Int)+(hY aE.iH x.facts:Int):Int)<0)=false:=bB (by omega);rw[gE];simp(disch:=omega) only[yF,aA,cu,bQ,ah,fw,e1,f2,f3,g0,g1];rw[p2]
    congr 1
    omega
 intro k h0 h1;obtain⟨l',p1,p2⟩:=key l [] k h0 h1;exact⟨l',by unfold qv;rw[p1];rfl,by unfold qt;rw[p2]⟩
def Node.wt(x:Node):Nat:=tw x.cond.pat.rel+jw tw x.cond.pat.args+tw x.cond.left+tw x.cond.right+jw aJ.wt x.tokens
def Node.iH(x:Node):Nat:=6+hY (fun _=>1) x.cond.pat.args+hY aJ.iH x.tokens
theorem Node.nZ(x:Node):x.iH<=6+6*x.wt:=by
 unfold Node.iH Node.wt;have h0:=p8 (fun _=>1) tw x.cond.pat.args (fun y=>by omega);have h1:=p8 aJ.iH aJ.wt x.tokens (fun y=>aJ.nZ y);omega
theorem Zv(x:Node)(h:x6 x.c)(v:Int)(h0:0<=v)(h1:v<=1048576):x7 (uh x v) v (Node.wt x):=by
 unfold uh;refine x7.eq (n:=(aN.wt x.cond+(jw aJ.wt x.tokens+0))) ?_ (by simp only[Node.wt,aN.wt];omega);refine(SN x.cond (x6.sub h (by intro d hd;simp only[bM,sB,G3]at hd⊢;rcases hd with rfl|rfl|rfl|rfl|rfl<;>simp)) _ h0 h1).sub h1 h0 (m:=(jw aJ.wt x.tokens+0)) fun r1 g1 l1=>?_
 refine(VW x.tokens (h (.sl (x.tokens.map aJ.c)) (by simp)) _ g1 l1).sub l1 g1 (m:=0) fun r2 g2 l2=>?_
 exact x7.fin
theorem a03(x:Node)(h:Node.wt x<=1048576):ul x=some x:=by
 unfold ul;simp only[SQ x.cond (by simp only[Node.wt,aN.wt]at h⊢;omega),VZ x.tokens (by simp only[Node.wt]at h;omega),aA]
theorem Z9(a b:Node):ue a b=some (decide (a=b)):=by
 obtain⟨a0,a1,a2,a3⟩:=a;obtain⟨b0,b1,b2,b3⟩:=b;unfold ue;simp only[Rz,Ue,aA,ez,bne];by_cases h0:a0=b0<;>by_cases h1:a1=b1<;>by_cases h2:a2=b2<;>by_cases h3:a3=b3<;>simp[h0,h1,h2,h3]
theorem XL(l:az)(h:dS (.sl (l.map Node.c)))(v:Int)(h0:0<=v)(h1:v<=1048576):x7 (vn l v) v (jw Node.wt l):=by
 unfold vn;exact szS h h0 h1 fun v' g0 g1=>szL (w:=Node.wt) (f:=uh) (oL l (fun z=>some z)) (fun _ _=>rfl) (fun _ _ _ _=>rfl) l (fun x hx v g0 g1=>Zv x (x6.row h x hx) v g0 g1) 0 v' g0 g1
theorem XU(l:az)(h:jw Node.wt l<=1048576):vr l=some l:=by
 unfold vr;rw[K9 (by rw[aZ];exact cQ (gV _ _) h) (by decide)];exact toL (c:=Node.c) (f:=ul) (oQ l (fun q=>some q)) (fun _ _=>rfl) (fun _ _ _ _=>rfl) (fun x hx=>a03 x (by have:=iP (w:=Node.wt) hx;omega))
theorem WK(a b:az):vh a b=some (decide (a=b)):=by
 unfold vh;exact S2 (c:=Node.c) (f:=ue) (fun k=>oG a b k) (fun _ _=>rfl) (fun _ _ _ _=>rfl) Z9
theorem Ww(l:az):P8 (hY Node.iH l) (sn l) sY:=by
 have key:∀(rest dn:az) (v:Int),1<=v->v+(hY Node.iH rest:Int)<=4611686018427387904->∃rest':az,(∀k,gx k rest dn v=k (dn++rest') (v+(hY Node.iH rest:Int)))/\∀a k i,gm a k rest' i v=k (v+(hY Node.iH rest:Int)):=by
  intro rest
  induction rest with
  |nil=>intro dn v _ _;exact⟨[],fun k=>by simp[gx,hY],fun a k i=>by simp[gm,hY]⟩
  |cons x xs ih=>
   intro dn v h0 h1;rw[uX]at h1⊢;simp only[Node.iH]at h1⊢;obtain⟨s3,e3⟩:=lG (v+1+1) (by omega) (by omega);obtain⟨l4,e4,f4⟩:=wL x.cond.pat.args (v+1+1+1) (by omega) (by omega);obtain⟨s5,e5⟩:=lG (v+1+1+1+(hY (fun _=>1) x.cond.pat.args:Int)) (by omega) (by omega);obtain⟨s6,e6⟩:=lG (v+1+1+1+(hY (fun _=>1) x.cond.pat.args:Int)+1) (by omega) (by omega);obtain⟨l8,e8,f8⟩:=V9 x.tokens (v+1+1+1+(hY (fun _=>1) x.cond.pat.args:Int)+1+1+1) (by omega) (by omega);obtain⟨rest',p1,p2⟩:=ih (dn++[(⟨v,(⟨(v+1),(⟨s3,l4⟩:aE),s5,s6⟩:aN),(v+1+1+1+(hY (fun _=>1) x.cond.pat.args:Int)+1+1),l8⟩:Node)]) (v+1+1+1+(hY (fun _=>1) x.cond.pat.args:Int)+1+1+1+(hY aJ.iH x.tokens:Int)) (by omega) (by omega);refine⟨(⟨v,(⟨(v+1),(⟨s3,l4⟩:aE),s5,s6⟩:aN),(v+1+1+1+(hY (fun _=>1) x.cond.pat.args:Int)+1+1),l8⟩:Node)::rest',fun k=>?_,fun a k i=>?_⟩
   ·rw[gx];simp(disch:=omega) only[yF,aA,e3,e4,e5,e6,e8];rw[p1];simp only[bY,dK]
    congr 1
    omega
   ·have g0:decide ((v+1+1+1+(hY (fun _=>1) x.cond.pat.args:Int):Int)<0)=false:=bB (by omega);have g1:decide ((v+1+1+1+(hY (fun _=>1) x.cond.pat.args:Int)+1+1+1+(hY aJ.iH x.tokens:Int):Int)<0)=false:=bB (by omega);rw[gm];simp(disch:=omega) only[yF,aA,cu,bQ,ah,fw,e3,f4,e5,e6,f8,g0,g1];rw[p2]
    congr 1
    omega
 intro k h0 h1;obtain⟨l',p1,p2⟩:=key l [] k h0 h1;exact⟨l',by unfold sn;rw[p1];rfl,by unfold sY;rw[p2]⟩
def aF.wt(x:aF):Nat:=jw aO.wt x.rules+jw zw x.ends+jw aP.wt x.ay+jw Node.wt x.nodes+jw aE.wt x.facts
def aF.iH(x:aF):Nat:=1+hY aO.iH x.rules+hY (fun _=>1) x.ends+hY aP.iH x.ay+hY Node.iH x.nodes+hY aE.iH x.facts
theorem aF.nZ(x:aF):x.iH<=6+6*x.wt:=by
 unfold aF.iH aF.wt;have h0:=p8 aO.iH aO.wt x.rules (fun y=>aO.nZ y);have h1:=p8 (fun _=>1) zw x.ends (fun y=>by omega);have h2:=p8 aP.iH aP.wt x.ay (fun y=>aP.nZ y);have h3:=p8 Node.iH Node.wt x.nodes (fun y=>Node.nZ y);have h4:=p8 aE.iH aE.wt x.facts (fun y=>aE.nZ y);omega
theorem Tp(x:aF)(h:x6 x.c)(v:Int)(h0:0<=v)(h1:v<=1048576):x7 (sx x v) v (aF.wt x):=by
 unfold sx;refine x7.eq (n:=(jw aO.wt x.rules+(jw zw x.ends+(jw aP.wt x.ay+(jw Node.wt x.nodes+(jw aE.wt x.facts+0)))))) ?_ (by simp only[aF.wt];omega);refine(XN x.rules (h (.sl (x.rules.map aO.c)) (by simp)) _ h0 h1).sub h1 h0 (m:=(jw zw x.ends+(jw aP.wt x.ay+(jw Node.wt x.nodes+(jw aE.wt x.facts+0))))) fun r1 g1 l1=>?_
 refine(Zu x.ends (h (.sl (x.ends.map dZ)) (by simp)) _ g1 l1).sub l1 g1 (m:=(jw aP.wt x.ay+(jw Node.wt x.nodes+(jw aE.wt x.facts+0)))) fun r2 g2 l2=>?_
 refine(VV x.ay (h (.sl (x.ay.map aP.c)) (by simp)) _ g2 l2).sub l2 g2 (m:=(jw Node.wt x.nodes+(jw aE.wt x.facts+0))) fun r3 g3 l3=>?_
 refine(XL x.nodes (h (.sl (x.nodes.map Node.c)) (by simp)) _ g3 l3).sub l3 g3 (m:=(jw aE.wt x.facts+0)) fun r4 g4 l4=>?_
 refine(Lu x.facts (h (.sl (x.facts.map aE.c)) (by simp)) _ g4 l4).sub l4 g4 (m:=0) fun r5 g5 l5=>?_
 exact x7.fin
theorem Tt(x:aF)(h:aF.wt x<=1048576):kw x=some x:=by
 unfold kw;simp only[XW x.rules (by simp only[aF.wt]at h;omega),a02 x.ends (by simp only[aF.wt]at h;omega),VY x.ay (by simp only[aF.wt]at h;omega),XU x.nodes (by simp only[aF.wt]at h;omega),Lv x.facts (by simp only[aF.wt]at h;omega),aA]
theorem Sw(a b:aF):kq a b=some (decide (a=b)):=by
 obtain⟨a0,a1,a2,a3,a4,a5⟩:=a;obtain⟨b0,b1,b2,b3,b4,b5⟩:=b;unfold kq;simp only[Ud,Lc,Z8,WK,WM,aA,ez,bne];by_cases h0:a0=b0<;>by_cases h1:a1=b1<;>by_cases h2:a2=b2<;>by_cases h3:a3=b3<;>by_cases h4:a4=b4<;>by_cases h5:a5=b5<;>simp[h0,h1,h2,h3,h4,h5]
def aF.AT(x:aF):Nat:=hY aO.iH x.rules+hY (fun _=>1) x.ends+hY aP.iH x.ay+hY Node.iH x.nodes+hY aE.iH x.facts
theorem aF.Pj(x:aF):aF.AT x<=6*aF.wt x:=by
 unfold aF.AT aF.wt;have h0:=p8 aO.iH aO.wt x.rules (fun y=>aO.nZ y);have h1:=p8 (fun _=>1) zw x.ends (fun y=>by omega);have h2:=p8 aP.iH aP.wt x.ay (fun y=>aP.nZ y);have h3:=p8 Node.iH Node.wt x.nodes (fun y=>Node.nZ y);have h4:=p8 aE.iH aE.wt x.facts (fun y=>aE.nZ y);omega
theorem K5(x:aF)(k:Int)(h0:1<=k)(h1:k+(aF.AT x:Int)<=4611686018427387904):∃y:aF,kJ x k=some (y,k+(aF.AT x:Int))/\kI y k=some (k+(aF.AT x:Int))/\(⟨y.rules,y.ends,y.ay,y.nodes,y.facts,x.cK⟩:aF)=y:=by
 unfold aF.AT at h1⊢;obtain⟨l1,e1,f1⟩:=Wy x.rules k (by omega) (by omega);obtain⟨l2,e2,f2⟩:=ZY x.ends (k+(hY aO.iH x.rules:Int)) (by omega) (by omega);obtain⟨l3,e3,f3⟩:=V8 x.ay (k+(hY aO.iH x.rules:Int)+(hY (fun _=>1) x.ends:Int)) (by omega) (by omega);obtain⟨l4,e4,f4⟩:=Ww x.nodes (k+(hY aO.iH x.rules:Int)+(hY (fun _=>1) x.ends:Int)+(hY aP.iH x.ay:Int)) (by omega) (by omega);obtain⟨l5,e5,f5⟩:=Lm x.facts (k+(hY aO.iH x.rules:Int)+(hY (fun _=>1) x.ends:Int)+(hY aP.iH x.ay:Int)+(hY Node.iH x.nodes:Int)) (by omega) (by omega);refine⟨(⟨l1,l2,l3,l4,l5,x.cK⟩:aF),?_,?_,rfl⟩
 ·unfold kJ;simp only[aA,e1,e2,e3,e4,e5]
  all_goals(congr 2<;>omega)
 ·unfold kI;have g0:decide ((k+(hY aO.iH x.rules:Int):Int)<0)=false:=bB (by omega);have g1:decide ((k+(hY aO.iH x.rules:Int)+(hY (fun _=>1) x.ends:Int):Int)<0)=false:=bB (by omega);have g2:decide ((k+(hY aO.iH x.rules:Int)+(hY (fun _=>1) x.ends:Int)+(hY aP.iH x.ay:Int):Int)<0)=false:=bB (by omega);have g3:decide ((k+(hY aO.iH x.rules:Int)+(hY (fun _=>1) x.ends:Int)+(hY aP.iH x.ay:Int)+(hY Node.iH x.nodes:Int):Int)<0)=false:=bB (by omega);have g4:decide ((k+(hY aO.iH x.rules:Int)+(hY (fun _=>1) x.ends:Int)+(hY aP.iH x.ay:Int)+(hY Node.iH x.nodes:Int)+(hY aE.iH x.facts:Int):Int)<0)=false:=bB (by omega);simp only[aA,ah,f1,f2,f3,f4,f5,g0,g1,g2,g3,g4]
  all_goals(congr 1<;>omega)
theorem TP(x:aF):P8 (aF.AT x) (kJ x) kI:=fun k h0 h1=>by
 obtain⟨y,a,b,_⟩:=K5 x k h0 h1;exact⟨y,a,b⟩
end Go.Cx
namespace Go.Cx
open Go.RowKit Go.Proofs Go.Shelf Tryz
theorem Rd.wO{w:World}{v:Value}{s:Bytes}{bs:aa}(h:Rd w v (.str s) bs):∃y:ByteArray,v=.string y/\y.data.toList=s/\y.size<=maxLen/\bs=[]:=by
 cases h with
 |str y hy=>exact⟨y,rfl,rfl,hy,rfl⟩
theorem mR.strs{w:World}{xs:aI}:∀ {cs:br} {bs:aa},mR w cs (xs.map D.str) bs->∃ys:List ByteArray,cs=ys.map Value.string/\ys.map (·.data.toList)=xs:=by
 induction xs with
 |nil=>intro cs bs h;cases h;exact⟨[],rfl,rfl⟩
 |cons x xs ih=>
  intro cs bs h;cases h with
  |cons v vs d ds b1 b2 h1 h2 h3=>
   obtain⟨y,e1,e2,_,_⟩:=h2.wO;obtain⟨ys,e3,e4⟩:=ih h3;exact⟨y::ys,by simp[e1,e3],by simp[e2,e4]⟩
theorem Sx(xs:aI):(xs.map tx).flatten=xs.map D.str:=by
 induction xs with
 |nil=>rfl
 |cons x xs ih=>simp[tx,ih]
theorem Calls.txt{P:Program}{f:FuncId}{args:Array Value}{w:World}{r:ByteArray}{Θ:Nat->Nat}(hr:r.size<=maxLen)
 (h:Calls P f args w fun e w'=>e=.returned (.string r)/\Below w.heap.size w w'):
 Calls P f args w (fun e w'=>∃v bs' ts us,e=.returned v/\Below w.heap.size w w'/\E5 w' v (.str r.data.toList) bs' ts us/\(∀b∈bs',b<w.heap.size->Θ b=0)/\(∀b∈bs',b∉ts)/\us.Nodup/\
  (∀b∈us,w.heap.size<=b/\Wr w' b)/\∀b∈ts,b∈us):=
 h.mono fun e w' ⟨h1,h2⟩=>⟨_,[],[],[],h1,h2,.v (.cell (.pure (.str r hr))),by simp,by simp,by simp,by simp,by simp⟩
end Go.Cx
namespace Go.Cx
open Go.RowKit Go.Proofs Go.Shelf Go.Sort Tryz
theorem mR.a57{w:World}{xs:aI}:∀ {cs:br} {bs:aa},mR w cs (xs.map D.str) bs->∀x∈xs,x.length<=maxLen:=by
 induction xs with
 |nil=>intro cs bs h x hx;cases hx
 |cons x xs ih=>
  intro cs bs h y hy;cases h with
  |cons v vs d ds b1 b2 h1 h2 h3=>
   obtain⟨s,_,e2,e3,_⟩:=h2.wO;rcases bM.1 hy with rfl|hy
   ·rw[<-e2];exact e3
   ·exact ih h3 y hy
theorem mR.YN{w:World}:∀ {xs:aI},(∀x∈xs,x.length<=maxLen)->mR w (xs.map encStr) (xs.map D.str) []
 | [],_=>.nil
 |x::xs,h=>by
  have h1:Rd w (.string ⟨x.toArray⟩) (.str x) []:=by
   have:=Rd.str (w:=w) ⟨x.toArray⟩ (by have:=h x (by simp);simpa[ByteArray.size]using this);simpa using this
  exact .cons _ _ _ _ [] [] rfl h1 (mR.YN fun y hy=>h y (by simp[hy]))
theorem Ui(xs:aI):(xs.map tx).flatten.all D.flat=true:=by
 rw[Sx];simp[D.flat]
def oT(xs:aI):aI:=xs.mergeSort fun x y=>decide (x<=y)
theorem C5(xs:aI):(oT xs).Perm xs:=List.mergeSort_perm _ _
theorem Qc{P:Program}{ρ:Ren}(L:Lays.n192 P ρ){e:TypeId}{xs:aI}(hn:xs.length<4611686018427387904):U9 P (ρ.f 192) e 1 (xs.map tx) ((oT xs).map tx):=by
 refine⟨⟨_,L.f192,rfl,rfl⟩,?_⟩;intro w v cs hsz hrl hown hrd;rw[Sx]at hrd;have hle:=hrd.a57;obtain⟨ys,rfl,hys⟩:=hrd.strs;have hlen:(oT xs).length=xs.length:=(C5 xs).length_eq;have PN:∀r∈(oT xs).map tx,r.length=1:=by
  intro r hr;obtain⟨x,_,rfl⟩:=cH.1 hr;rfl
 rcases hown.2 with⟨rfl,h0⟩|⟨g,cap,cur,rfl,hb,T4,hnc,hcm,hcs,Us⟩
 ·have hx:xs=[]:=by simpa using h0
  subst hx;refine(Any.sort_Strings_none L none 0 w).mono ?_;rintro e' w' ⟨rfl,rfl⟩;exact⟨rfl,rfl,rfl,rfl,bR _,fun _ _ _=>rfl,PN,[],⟨by simp[hlen],.inl ⟨rfl,by simp[hlen]⟩⟩,by simpa[oT]using mR.nil⟩
 ·rw[aZ]at hnc Us⊢;rw[Nat.mul_one]at Us hcs;have hyl:ys.length=xs.length:=by rw[<-hys];simp
  have QO:∀j,j<xs.length->cur[j]?=some (encStr xs.toArray[j]!):=by
   intro j hj;have h1:(cur.toList.take xs.length)[j]?=cur[j]?:=by rw[Ce hj];simp
   rw[<-h1,Us,bz];have hj':j<ys.length:=by omega
   rw[ai hj'];have:xs[j]?=some ys[j].data.toList:=by rw[<-hys,bz,ai hj'];rfl
   have hx:xs.toArray[j]! =ys[j].data.toList:=by
    rw[getElem!_pos _ _ (by simpa using hj)];rw[ai hj]at this;simpa using this
   rw[hx];simp[encStr]
  have hH:Holds encStr w g 0 xs.toArray:=by
   intro j hj;have hj:j<xs.length:=by simpa using hj
   refine⟨?_,?_⟩
   ·rw[<-QO j hj];simp[World.cell?,T4]
   ·simp[World.frozen?,T4]
  have hblk:g<w.heap.size:=(bL.1 T4).1;refine(Any.sort_Strings L g 0 cap xs w hH hblk hn).mono ?_;rintro e' w' ⟨rfl,n,os,rfl⟩;have hheap:(grow (putRow encStr (Sort.ahead w n) g 0 (oT xs).toArray) os).heap=(w.heap.modify g (onCells (putCells encStr 0 (oT xs).toArray)))++os:=rfl;have QM:∀b,b<w.heap.size->b≠g->(grow (putRow encStr (Sort.ahead w n) g 0 (oT xs).toArray) os).heap[b]?=w.heap[b]?:=by
   intro b hb hne;rw[hheap,fZ (by simpa using hb),yf,bH (fun e=>hne e.symm)]
  have hrow:(grow (putRow encStr (Sort.ahead w n) g 0 (oT xs).toArray) os).heap[g]?=some (.cells (putCells encStr 0 (oT xs).toArray cur) e (0,0)):=by
   rw[hheap,fZ (by simpa using hblk),yf,bP rfl,T4];rfl
  refine⟨rfl,rfl,rfl,rfl,by show w.heap.size<=(grow (putRow encStr (Sort.ahead w n) g 0 (oT xs).toArray) os).heap.size;rw[hheap];simp,fun b hb hne=>QM b hb fun e=>hne (by rw[e];rfl),PN,(oT xs).map encStr,⟨by simp,.inr ⟨g,cap,_,by simp[hlen],hb,hrow,by simpa[hlen]using hnc,hcm,by simp[putCells,hcs],?_⟩⟩,?_⟩
  ·apply o5;intro j;simp only[aZ,Nat.mul_one];by_cases hj:j<(oT xs).length
   ·have hj2:j<cur.size:=by omega
    rw[Ce hj,bz,ai hj];simp[putCells,hj2,hj]
   ·rw[ck (by simp;omega),ck (by simp;omega)]
  ·rw[Sx];exact mR.YN fun x hx=>hle x ((C5 xs).mem_iff.1 hx)
end Go.Cx
namespace Go.Cx
open Go.RowKit Go.Proofs Go.Shelf Go.Lib Tryz
theorem a1n(n:Int)(h:tM .i64 n):(itoa n).length<=20:=by
 have h1: -9223372036854775808<=n:=h.1;have h2:n<=9223372036854775807:=h.2;have key:∀u:Nat,u<=9223372036854775808->nDigits u<=19:=by
  intro u hu;by_cases h0:u=0
  ·subst h0;rw[nDigits_small (by omega)];omega
  ·by_cases hk:nDigits u<=19
   ·exact hk
   ·exfalso;have a7f:∀(k v:Nat),v<10^k->1<=k->nDigits v<=k:=by
     intro k
     induction k with
     |zero=>intro v _ h;omega
     |succ k ih=>
      intro v hv _;by_cases h10:v<10
      ·rw[nDigits_small h10];omega
      ·rw[nDigits_big h10];have h3:v/10<10^k:=by rw[yN]at hv;omega
       have hk1:1<=k:=by
        cases k with
        |zero=>simp at hv;omega
        |succ k=>omega
       have:=ih (v/10) h3 hk1;omega
    have:=a7f 19 u (by omega) (by omega);omega
 unfold itoa;split
 ·rw[aK,decDigits_length];have:=key n.natAbs (by omega);omega
 ·rw[decDigits_length];have:=key n.toNat (by omega);omega
theorem UO(w:World)(k:Nat)(os:Array Obj):Below w.heap.size w (Sort.grow (w.drewN k) os):=
 ⟨rfl,rfl,rfl,by show w.heap.size<=(w.heap++os).size;simp,fun b hb=>by show(w.heap++os)[b]?=_;rw[fZ hb]⟩
theorem V2{P:Program}{ρ:Ren}(L:LaysM.n171 P ρ){g:Nat}(hg:P.globalNamed "internal/strconv.uint64pow10" =some g)(hx:(g,fun cs:br=>cs=pow10Tab.map fun z=>Value.int .u64 z)∈AD){n:Int}:
 Good P (ρ.f 171) [.int .i64 n] (.str (itoa n)):=by
 refine⟨⟨_,L.f171,rfl,rfl⟩,?_⟩;intro w Θ args bs hv ha _ _ _;obtain _|⟨v1,_,_,_,b1,_,h1,ha⟩:=ha;cases ha;cases h1 with
 |int _ _ hr=>
  have h0: -9223372036854775808<=n:=hr.1;have h1:n<=9223372036854775807:=hr.2;have hl:=a1n n hr;have ht:TabIs P w "internal/strconv.uint64pow10" .u64 pow10Tab:=by
   obtain⟨cs,h2,h3⟩:=hv.var hx hg;have h4:cs=(pow10Tab.map fun z=>Value.int .u64 z).toArray:=by rw[<-h3]
   rw[h4]at h2;exact h2
  have:=Calls.txt (Θ:=Θ) (r:=⟨(itoa n).toArray⟩) (by show(itoa n).toArray.size<=maxLen;rw[CN];unfold maxLen;omega)
   ((Any.strconv_Itoa L n h0 h1 w ht).mono fun e w' ⟨k1,k,os,k2⟩=>⟨k1,by subst k2;exact UO w k os⟩)
  simpa using this
end Go.Cx
namespace Go.Cx
open Go.RowKit Go.Proofs Go.Shelf Go.Lib Tryz
theorem UN(w:World)(t5:TypeId)(t:ByteArray):Below w.heap.size w (Lib.bytesWorld w t5 t):=Lib.bytesWorld_below _ _ _
def TG(s:Bytes):Option (Int×Bool):=if s.length<=18 then(match Lib.atoi s with|some n=>some (n,false)|none=>some (0,true))else none
theorem V1{P:Program}{ρ:Ren}(L:LaysC.n172 P ρ){g:Nat}(hg:P.globalNamed "strconv.ErrSyntax" =some g)(hx:(g,fun cs:br=>∃tp p,cs=[Value.iface tp p])∈AD){s:Bytes}{r:Int×Bool}(h:TG s=some r):
 Good P (ρ.f 172) [.str s] (.gb [.int .i64 r.1,.ifc r.2]):=by
 refine⟨⟨_,L.f172,rfl,rfl⟩,?_⟩;intro w Θ args bs hv ha _ _ _;obtain _|⟨v1,_,_,_,b1,_,h1,ha⟩:=ha;cases ha;obtain⟨y,rfl,rfl,_,_⟩:=h1.wO;unfold TG at h;split at h
 ·rename_i hl;have hl':y.size<=18:=by simpa using hl
  split at h
  ·rename_i n hn;cases h;have hb:=Lib.atoi_bound hn hl;refine(Any.strconv_Atoi L.toM.ton172 y n hl' hn w).mono ?_;rintro e w' ⟨rfl,t,rfl⟩;exact⟨_,[],[],[],rfl,UN _ _ _,.gb [.int .i64 n,.nilIface] [.int .i64 n,.ifc false] [] [] [] (.cons _ _ _ _ [] [] [] [] [] [] (.cell (.pure (.int _ _ (tM.i64.2 (by omega))))) (.cons _ _ _ _ [] [] [] [] [] [] (.cell (.pure .ZL)) .nil)),by simp,by simp,by simp,by simp,by simp⟩
  ·rename_i hn;cases h;obtain⟨cs,h2,tp,p,h3⟩:=hv.var hx hg;have h4:cs= #[.iface tp p]:=by rw[<-wG,h3]
   rw[h4]at h2;refine(Any.strconv_Atoi_err_var L y hl' hn tp p w h2).mono ?_;rintro e w' ⟨N,rfl,_,_,hbl⟩;exact⟨_,[],[],[],rfl,hbl,.gb [.int .i64 0,.iface _ _] [.int .i64 0,.ifc true] [] [] [] (.cons _ _ _ _ [] [] [] [] [] [] (.cell (.pure (.int _ _ (tM.zero _)))) (.cons _ _ _ _ [] [] [] [] [] [] (.cell (.pure (.ZM _ _))) .nil)),by simp,by simp,by simp,by simp,by simp⟩
 ·cases h
theorem Xu:∀(a b:Bytes), -1<=Lib.compareBytes a b/\Lib.compareBytes a b<=1
 | [],[]=>by simp[Lib.compareBytes]
 | [],_::_=>by simp[Lib.compareBytes]
 |_::_,[]=>by simp[Lib.compareBytes]
 |a::xs,b::ys=>by
  simp only[Lib.compareBytes];split
  ·omega
  ·split
   ·omega
   ·exact Xu xs ys
theorem Qb{P:Program}{ρ:Ren}(L:Lays.n106 P ρ){a b:Bytes}:Good P (ρ.f 106) [.str a,.str b] (.int .i64 (Lib.compareBytes a b)):=by
 refine⟨⟨_,L.f106,rfl,rfl⟩,?_⟩;intro w Θ args bs hv ha _ _ _;obtain _|⟨v1,_,_,_,b1,_,h1,ha⟩:=ha;obtain _|⟨v2,_,_,_,b2,_,h2,ha⟩:=ha;cases ha;obtain⟨y,rfl,rfl,_,_⟩:=h1.wO;obtain⟨z,rfl,rfl,_,_⟩:=h2.wO;have hc:=Xu y.data.toList z.data.toList;refine(Any.strings_Compare L y z w).mono ?_;rintro e w' ⟨rfl,rfl⟩;exact⟨_,[],[],[],rfl,Below.refl _ _,.v (.cell (.pure (.int _ _ (tM.i64.2 (by omega))))),by simp,by simp,by simp,by simp,by simp⟩
end Go.Cx
namespace Go.Cx
open Go.RowKit Go.Proofs Go.Shelf Tryz
def V4:Ren:=⟨fun|192=>266|190=>278|125=>288|258=>287|128=>301|129=>302|302=>292|303=>293|304=>294|305=>295|306=>296|307=>297|308=>298|309=>299|310=>300|333=>312|329=>313|330=>314|334=>315|335=>316|336=>317|344=>325|n=>n,fun|31=>46|0=>0|9=>9|3=>3|46=>254|51=>266|53=>268|4=>4|183=>259|182=>258|131=>237|5=>5|218=>279|222=>283|228=>296|229=>186|n=>n,fun|n=>n⟩
theorem a4c:Lays.n192 prog V4:= {
 mixed:=by kernel_rfl,
 f125:=func288.trans (congrArg some (by kernel_rfl)),
 f128:=func301.trans (congrArg some (by kernel_rfl)),
 f129:=func302.trans (congrArg some (by kernel_rfl)),
 f190:=func278.trans (congrArg some (by kernel_rfl)),
 f192:=func266.trans (congrArg some (by kernel_rfl)),
 f258:=func287.trans (congrArg some (by kernel_rfl)),
 f302:=func292.trans (congrArg some (by kernel_rfl)),
 f303:=func293.trans (congrArg some (by kernel_rfl)),
 f304:=func294.trans (congrArg some (by kernel_rfl)),
 f305:=func295.trans (congrArg some (by kernel_rfl)),
 f306:=func296.trans (congrArg some (by kernel_rfl)),
 f307:=func297.trans (congrArg some (by kernel_rfl)),
 f308:=func298.trans (congrArg some (by kernel_rfl)),
 f309:=func299.trans (congrArg some (by kernel_rfl)),
 f310:=func300.trans (congrArg some (by kernel_rfl)),
 f329:=func313.trans (congrArg some (by kernel_rfl)),
 f330:=func314.trans (congrArg some (by kernel_rfl)),
 f333:=func312.trans (congrArg some (by kernel_rfl)),
 f334:=func315.trans (congrArg some (by kernel_rfl)),
 f335:=func316.trans (congrArg some (by kernel_rfl)),
 f336:=func317.trans (congrArg some (by kernel_rfl)),
 f344:=func325.trans (congrArg some (by kernel_rfl)),
 t0:=underlying0,
 a0:=Tryz.isAgg0,
 z0:=Tryz.sizeOf0,
 v0:=Tryz.zeroValue0,
 t3:=underlying3,
 a3:=Tryz.isAgg3,
 z3:=Tryz.sizeOf3,
 v3:=Tryz.zeroValue3,
 t4:=underlying4,
 a4:=Tryz.isAgg4,
 z4:=Tryz.sizeOf4,
 v4:=Tryz.zeroValue4,
 t5:=underlying5,
 a5:=Tryz.isAgg5,
 z5:=Tryz.sizeOf5,
 v5:=Tryz.zeroValue5,
 t9:=underlying9,
 a9:=Tryz.isAgg9,
 z9:=Tryz.sizeOf9,
 v9:=Tryz.zeroValue9,
 t31:=underlying46,
 a31:=Tryz.isAgg46,
 z31:=Tryz.sizeOf46,
 v31:=Tryz.zeroValue46,
 t46:=underlying254,
 a46:=Tryz.isAgg254,
 z46:=Tryz.sizeOf254,
 v46:=Tryz.zeroValue254,
 t51:=underlying266,
 a51:=Tryz.isAgg266,
 z51:=Tryz.sizeOf266,
 v51:=Tryz.zeroValue266,
 t53:=underlying268,
 a53:=Tryz.isAgg268,
 z53:=Tryz.sizeOf268,
 v53:=Tryz.zeroValue268,
 t131:=underlying237,
 a131:=Tryz.isAgg237,
 z131:=Tryz.sizeOf237,
 v131:=Tryz.zeroValue237,
 t182:=underlying258,
 a182:=Tryz.isAgg258,
 z182:=Tryz.sizeOf258,
 v182:=Tryz.zeroValue258,
 t183:=underlying259,
 a183:=Tryz.isAgg259,
 z183:=Tryz.sizeOf259,
 v183:=Tryz.zeroValue259,
 t218:=underlying279,
 a218:=Tryz.isAgg279,
 z218:=Tryz.sizeOf279,
 v218:=Tryz.zeroValue279,
 t222:=underlying283,
 a222:=Tryz.isAgg283,
 z222:=Tryz.sizeOf283,
 v222:=Tryz.zeroValue283,
 t228:=underlying296,
 a228:=Tryz.isAgg296,
 z228:=Tryz.sizeOf296,
 v228:=Tryz.zeroValue296,
 t229:=underlying186,
 a229:=Tryz.isAgg186,
 z229:=Tryz.sizeOf186,
 v229:=Tryz.zeroValue186}
theorem JN{e:TypeId}{xs:aI}(hn:xs.length<4611686018427387904):U9 prog 266 e 1 (xs.map tx) ((oT xs).map tx):=Qc a4c hn
def Ou:Ren:=⟨fun|171=>274|243=>285|246=>291|283=>308|284=>309|285=>310|286=>311|129=>302|317=>321|318=>322|319=>323|320=>324|337=>328|338=>329|n=>n,fun|3=>3|9=>9|2=>2|4=>4|171=>275|0=>0|53=>268|37=>150|5=>5|173=>277|212=>293|51=>266|20=>20|213=>294|46=>254|232=>303|233=>304|n=>n,fun|17=>3|18=>4|19=>5|n=>n⟩
theorem a4a:Lays.n171 prog Ou:= {
 mixed:=by kernel_rfl,
 f129:=func302.trans (congrArg some (by kernel_rfl)),
 f171:=func274.trans (congrArg some (by kernel_rfl)),
 f243:=func285.trans (congrArg some (by kernel_rfl)),
 f246:=func291.trans (congrArg some (by kernel_rfl)),
 f283:=func308.trans (congrArg some (by kernel_rfl)),
 f284:=func309.trans (congrArg some (by kernel_rfl)),
 f285:=func310.trans (congrArg some (by kernel_rfl)),
 f286:=func311.trans (congrArg some (by kernel_rfl)),
 f317:=func321.trans (congrArg some (by kernel_rfl)),
 f318:=func322.trans (congrArg some (by kernel_rfl)),
 f319:=func323.trans (congrArg some (by kernel_rfl)),
 f320:=func324.trans (congrArg some (by kernel_rfl)),
 f337:=func328.trans (congrArg some (by kernel_rfl)),
 f338:=func329.trans (congrArg some (by kernel_rfl)),
 t0:=underlying0,
 a0:=Tryz.isAgg0,
 z0:=Tryz.sizeOf0,
 v0:=Tryz.zeroValue0,
 t2:=underlying2,
 a2:=Tryz.isAgg2,
 z2:=Tryz.sizeOf2,
 v2:=Tryz.zeroValue2,
 t3:=underlying3,
 a3:=Tryz.isAgg3,
 z3:=Tryz.sizeOf3,
 v3:=Tryz.zeroValue3,
 t4:=underlying4,
 a4:=Tryz.isAgg4,
 z4:=Tryz.sizeOf4,
 v4:=Tryz.zeroValue4,
 t5:=underlying5,
 a5:=Tryz.isAgg5,
 z5:=Tryz.sizeOf5,
 v5:=Tryz.zeroValue5,
 t9:=underlying9,
 a9:=Tryz.isAgg9,
 z9:=Tryz.sizeOf9,
 v9:=Tryz.zeroValue9,
 t20:=underlying20,
 a20:=Tryz.isAgg20,
 z20:=Tryz.sizeOf20,
 v20:=Tryz.zeroValue20,
 t37:=underlying150,
 a37:=Tryz.isAgg150,
 z37:=Tryz.sizeOf150,
 v37:=Tryz.zeroValue150,
 t46:=underlying254,
 a46:=Tryz.isAgg254,
 z46:=Tryz.sizeOf254,
 v46:=Tryz.zeroValue254,
 t51:=underlying266,
 a51:=Tryz.isAgg266,
 z51:=Tryz.sizeOf266,
 v51:=Tryz.zeroValue266,
 t53:=underlying268,
 a53:=Tryz.isAgg268,
 z53:=Tryz.sizeOf268,
 v53:=Tryz.zeroValue268,
 t171:=underlying275,
 a171:=Tryz.isAgg275,
 z171:=Tryz.sizeOf275,
 v171:=Tryz.zeroValue275,
 t173:=underlying277,
 a173:=Tryz.isAgg277,
 z173:=Tryz.sizeOf277,
 v173:=Tryz.zeroValue277,
 t212:=underlying293,
 a212:=Tryz.isAgg293,
 z212:=Tryz.sizeOf293,
 v212:=Tryz.zeroValue293,
 t213:=underlying294,
 a213:=Tryz.isAgg294,
 z213:=Tryz.sizeOf294,
 t232:=underlying303,
 a232:=Tryz.isAgg303,
 z232:=Tryz.sizeOf303,
 v232:=Tryz.zeroValue303,
 t233:=underlying304,
 a233:=Tryz.isAgg304,
 z233:=Tryz.sizeOf304,
 v233:=Tryz.zeroValue304,
 g17:=by kernel_rfl,
 g18:=by kernel_rfl,
 g19:=by kernel_rfl}
theorem a1t:LaysM.n171 prog Ou:= {a4a with
 i0:=by kernel_rfl,
 i2:=by kernel_rfl,
 i3:=by kernel_rfl,
 i4:=by kernel_rfl,
 i5:=by kernel_rfl,
 i9:=by kernel_rfl,
 i20:=by kernel_rfl,
 i37:=by kernel_rfl,
 i46:=by kernel_rfl,
 i51:=by kernel_rfl,
 i53:=by kernel_rfl,
 i171:=by kernel_rfl,
 i173:=by kernel_rfl,
 i212:=by kernel_rfl,
 i232:=by kernel_rfl,
 i233:=by kernel_rfl,
 m17:=by kernel_rfl,
 m18:=by kernel_rfl,
 m19:=by kernel_rfl}
def Bw(aB:Int):Option Bytes:=(fun n:Int=>some (Lib.itoa n)) aB
theorem Jo{aB:Int}{r:Bytes}(h:Bw aB=some r):Good prog 274 [.int .i64 aB] (.str r):=by cases h;exact V2 a1t (g:=3) (by kernel_rfl) (aC (i:=0) (by kernel_rfl))
def Hr:Ren:=⟨fun|172=>280|244=>289|245=>290|247=>303|279=>304|280=>305|281=>306|282=>307|287=>318|316=>319|171=>274|205=>320|321=>326|322=>327|243=>285|246=>291|283=>308|284=>309|285=>310|286=>311|129=>302|317=>321|318=>322|319=>323|320=>324|337=>328|338=>329|n=>n,fun|9=>9|3=>3|75=>245|76=>246|4=>4|5=>5|167=>269|37=>150|0=>0|85=>270|2=>2|168=>272|53=>268|175=>285|46=>254|210=>289|127=>299|145=>302|143=>300|21=>21|171=>275|173=>277|212=>293|51=>266|20=>20|213=>294|232=>303|233=>304|80=>305|n=>n,fun|15=>1|16=>2|17=>3|18=>4|19=>5|n=>n⟩
theorem a4b:Lays.n172 prog Hr:= {
 mixed:=by kernel_rfl,
 f129:=func302.trans (congrArg some (by kernel_rfl)),
 f171:=func274.trans (congrArg some (by kernel_rfl)),
 f172:=func280.trans (congrArg some (by kernel_rfl)),
 f205:=func320.trans (congrArg some (by kernel_rfl)),
 f243:=func285.trans (congrArg some (by kernel_rfl)),
 f244:=func289.trans (congrArg some (by kernel_rfl)),
 f245:=func290.trans (congrArg some (by kernel_rfl)),
 f246:=func291.trans (congrArg some (by kernel_rfl)),
 f247:=func303.trans (congrArg some (by kernel_rfl)),
 f279:=func304.trans (congrArg some (by kernel_rfl)),
 f280:=func305.trans (congrArg some (by kernel_rfl)),
 f281:=func306.trans (congrArg some (by kernel_rfl)),
 f282:=func307.trans (congrArg some (by kernel_rfl)),
 f283:=func308.trans (congrArg some (by kernel_rfl)),
 f284:=func309.trans (congrArg some (by kernel_rfl)),
 f285:=func310.trans (congrArg some (by kernel_rfl)),
 f286:=func311.trans (congrArg some (by kernel_rfl)),
 f287:=func318.trans (congrArg some (by kernel_rfl)),
 f316:=func319.trans (congrArg some (by kernel_rfl)),
 f317:=func321.trans (congrArg some (by kernel_rfl)),
 f318:=func322.trans (congrArg some (by kernel_rfl)),
 f319:=func323.trans (congrArg some (by kernel_rfl)),
 f320:=func324.trans (congrArg some (by kernel_rfl)),
 f321:=func326.trans (congrArg some (by kernel_rfl)),
 f322:=func327.trans (congrArg some (by kernel_rfl)),
 f337:=func328.trans (congrArg some (by kernel_rfl)),
 f338:=func329.trans (congrArg some (by kernel_rfl)),
 t0:=underlying0,
 a0:=Tryz.isAgg0,
 z0:=Tryz.sizeOf0,
 v0:=Tryz.zeroValue0,
 t2:=underlying2,
 a2:=Tryz.isAgg2,
 z2:=Tryz.sizeOf2,
 v2:=Tryz.zeroValue2,
 t3:=underlying3,
 a3:=Tryz.isAgg3,
 z3:=Tryz.sizeOf3,
 v3:=Tryz.zeroValue3,
 t4:=underlying4,
 a4:=Tryz.isAgg4,
 z4:=Tryz.sizeOf4,
 v4:=Tryz.zeroValue4,
 t5:=underlying5,
 a5:=Tryz.isAgg5,
 z5:=Tryz.sizeOf5,
 v5:=Tryz.zeroValue5,
 t9:=underlying9,
 a9:=Tryz.isAgg9,
 z9:=Tryz.sizeOf9,
 v9:=Tryz.zeroValue9,
 t20:=underlying20,
 a20:=Tryz.isAgg20,
 z20:=Tryz.sizeOf20,
 v20:=Tryz.zeroValue20,
 t21:=underlying21,
 a21:=Tryz.isAgg21,
 z21:=Tryz.sizeOf21,
 v21:=Tryz.zeroValue21,
 t37:=underlying150,
 a37:=Tryz.isAgg150,
 z37:=Tryz.sizeOf150,
 v37:=Tryz.zeroValue150,
 t46:=underlying254,
 a46:=Tryz.isAgg254,
 z46:=Tryz.sizeOf254,
 v46:=Tryz.zeroValue254,
 t51:=underlying266,
 a51:=Tryz.isAgg266,
 z51:=Tryz.sizeOf266,
 v51:=Tryz.zeroValue266,
 t53:=underlying268,
 a53:=Tryz.isAgg268,
 z53:=Tryz.sizeOf268,
 v53:=Tryz.zeroValue268,
 t75:=underlying245,
 a75:=Tryz.isAgg245,
 z75:=Tryz.sizeOf245,
 v75:=Tryz.zeroValue245,
 t76:=underlying246,
 a76:=Tryz.isAgg246,
 z76:=Tryz.sizeOf246,
 v76:=Tryz.zeroValue246,
 t85:=underlying270,
 a85:=Tryz.isAgg270,
 z85:=Tryz.sizeOf270,
 v85:=Tryz.zeroValue270,
 t127:=underlying299,
 a127:=Tryz.isAgg299,
 z127:=Tryz.sizeOf299,
 v127:=Tryz.zeroValue299,
 t143:=underlying300,
 a143:=Tryz.isAgg300,
 z143:=Tryz.sizeOf300,
 v143:=Tryz.zeroValue300,
 t145:=underlying302,
 a145:=Tryz.isAgg302,
 z145:=Tryz.sizeOf302,
 v145:=Tryz.zeroValue302,
 t167:=underlying269,
 a167:=Tryz.isAgg269,
 z167:=Tryz.sizeOf269,
 v167:=Tryz.zeroValue269,
 t168:=underlying272,
 a168:=Tryz.isAgg272,
 z168:=Tryz.sizeOf272,
 v168:=Tryz.zeroValue272,
 t171:=underlying275,
 a171:=Tryz.isAgg275,
 z171:=Tryz.sizeOf275,
 v171:=Tryz.zeroValue275,
 t173:=underlying277,
 a173:=Tryz.isAgg277,
 z173:=Tryz.sizeOf277,
 v173:=Tryz.zeroValue277,
 t175:=underlying285,
 a175:=Tryz.isAgg285,
 z175:=Tryz.sizeOf285,
 v175:=Tryz.zeroValue285,
 t210:=underlying289,
 a210:=Tryz.isAgg289,
 z210:=Tryz.sizeOf289,
 v210:=Tryz.zeroValue289,
 t212:=underlying293,
 a212:=Tryz.isAgg293,
 z212:=Tryz.sizeOf293,
 v212:=Tryz.zeroValue293,
 t213:=underlying294,
 a213:=Tryz.isAgg294,
 z213:=Tryz.sizeOf294,
 t232:=underlying303,
 a232:=Tryz.isAgg303,
 z232:=Tryz.sizeOf303,
 v232:=Tryz.zeroValue303,
 t233:=underlying304,
 a233:=Tryz.isAgg304,
 z233:=Tryz.sizeOf304,
 v233:=Tryz.zeroValue304,
 g15:=by kernel_rfl,
 g16:=by kernel_rfl,
 g17:=by kernel_rfl,
 g18:=by kernel_rfl,
 g19:=by kernel_rfl}
theorem a1u:LaysM.n172 prog Hr:= {a4b with
 t80:=underlying305,
 a80:=Tryz.isAgg305,
 z80:=Tryz.sizeOf305,
 v80:=Tryz.zeroValue305,
 i0:=by kernel_rfl,
 i2:=by kernel_rfl,
 i3:=by kernel_rfl,
 i4:=by kernel_rfl,
 i5:=by kernel_rfl,
 i9:=by kernel_rfl,
 i20:=by kernel_rfl,
 i21:=by kernel_rfl,
 i37:=by kernel_rfl,
 i46:=by kernel_rfl,
 i51:=by kernel_rfl,
 i53:=by kernel_rfl,
 i75:=by kernel_rfl,
 i76:=by kernel_rfl,
 i80:=by kernel_rfl,
 i85:=by kernel_rfl,
 i127:=by kernel_rfl,
 i143:=by kernel_rfl,
 i145:=by kernel_rfl,
 i167:=by kernel_rfl,
 i168:=by kernel_rfl,
 i171:=by kernel_rfl,
 i173:=by kernel_rfl,
 i175:=by kernel_rfl,
 i210:=by kernel_rfl,
 i212:=by kernel_rfl,
 i232:=by kernel_rfl,
 i233:=by kernel_rfl,
 m15:=by kernel_rfl,
 m16:=by kernel_rfl,
 m17:=by kernel_rfl,
 m18:=by kernel_rfl,
 m19:=by kernel_rfl}
theorem a1s:LaysC.n172 prog Hr:= {a1u with
 c0:=by kernel_rfl,
 c2:=by kernel_rfl,
 c3:=by kernel_rfl,
 c4:=by kernel_rfl,
 c5:=by kernel_rfl,
 c9:=by kernel_rfl,
 c20:=by kernel_rfl,
 c21:=by kernel_rfl,
 c37:=by kernel_rfl,
 c46:=by kernel_rfl,
 c51:=by kernel_rfl,
 c53:=by kernel_rfl,
 c75:=by kernel_rfl,
 c76:=by kernel_rfl,
 c80:=by kernel_rfl,
 c85:=by kernel_rfl,
 c127:=by kernel_rfl,
 c143:=by kernel_rfl,
 c145:=by kernel_rfl,
 c167:=by kernel_rfl,
 c168:=by kernel_rfl,
 c171:=by kernel_rfl,
 c173:=by kernel_rfl,
 c175:=by kernel_rfl,
 c210:=by kernel_rfl,
 c212:=by kernel_rfl,
 c213:=by kernel_rfl,
 c232:=by kernel_rfl,
 c233:=by kernel_rfl}
def Bv(aB:Bytes):Option (Int×Bool):=TG aB
theorem Jn{aB:Bytes}{r:Int×Bool}(h:Bv aB=some r):Good prog 280 [.str aB] (.gb [.int .i64 r.1,.ifc r.2]):=V1 a1s (g:=1) (by kernel_rfl) (aC (i:=1) (by kernel_rfl)) h
def V3:Ren:=⟨fun|106=>220|213=>267|265=>279|n=>n,fun|9=>9|3=>3|n=>n,fun|n=>n⟩
theorem a4Z:Lays.n106 prog V3:= {
 mixed:=by kernel_rfl,
 f106:=func220.trans (congrArg some (by kernel_rfl)),
 f213:=func267.trans (congrArg some (by kernel_rfl)),
 f265:=func279.trans (congrArg some (by kernel_rfl)),
 t3:=underlying3,
 a3:=Tryz.isAgg3,
 z3:=Tryz.sizeOf3,
 v3:=Tryz.zeroValue3,
 t9:=underlying9,
 a9:=Tryz.isAgg9,
 z9:=Tryz.sizeOf9,
 v9:=Tryz.zeroValue9}
def rB(aB:Bytes)(aV:Bytes):Option Int:=(fun a b:Bytes=>some (Lib.compareBytes a b)) aB aV
theorem td{aB:Bytes}{aV:Bytes}{r:Int}(h:rB aB aV=some r):Good prog 220 [.str aB,.str aV] (.int .i64 r):=by cases h;exact Qb a4Z
end Go.Cx
