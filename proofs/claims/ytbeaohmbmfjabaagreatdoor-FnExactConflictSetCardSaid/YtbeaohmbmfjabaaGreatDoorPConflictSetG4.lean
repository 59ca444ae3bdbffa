/- What functions of the program compute, and the walks that show it. No condition. -/
import Derived.Test.YtbeaohmbmfjabaaGreatDoorPConflictSetG3
import Derived.Shelf.Strings.OnBuilder
import Derived.Test.YtbeaohmbmfjabaaGreatDoorPConflictSetG2
import Derived.Shelf.Sort.Plain
import Derived.Shelf.Slices.In.SortNone2
import Derived.Shelf.Strconv.Itoa3
import Derived.WalkSmall
import Derived.Shelf.Strconv.Atoi
import Derived.Shelf.Strconv.ErrVar
import Derived.Shelf.Small.Strs
import Derived.Lib.AtoiBound
set_option linter.unusedVariables false
set_option linter.unusedSimpArgs false
namespace Go.Cx
open Go.RowKit Go.Proofs Tryz
set_option maxRecDepth 100000
variable{Γ:tY}{N:Nat->St->Prop}
def ew(k1:Bytes->Option Bytes):Nat->Int->Bytes->Option Bytes
 |0,_,_=>none
 |n1+1,vG,mZ=>(bif decide ((vG:Int)>0)then(bif decide (0<=(vG:Int))&&decide (0<(10:Int))then(bif decide (([UInt8.ofNat (IntKind.u8.wrap (IntKind.i64.wrap (48+((vG:Int)%10)))).toNat]:Bytes).length+(mZ:Bytes).length<=maxLen)then(bif decide (0<=(vG:Int))&&decide (0<(10:Int))then(ew k1 n1 ((vG:Int)/10) (([UInt8.ofNat (IntKind.u8.wrap (IntKind.i64.wrap (48+((vG:Int)%10)))).toNat])++mZ))else none)else none)else none)else(k1 mZ))
def bz(aB:Int):Option Bytes:=(bif decide ((aB:Int)<=0)then(some ([109,48]))else(ew (fun(PU:Bytes)=>(bif decide (([109]:Bytes).length+(PU:Bytes).length<=maxLen)then(some (([109])++PU))else none)) fuel aB ([])))
def Iy(vG:Int)(mZ:Bytes):St:=⟨[(0,D.int .i64 vG),(3,D.str mZ)],[]⟩
theorem HF(hΓ:Γ.nt=20){r:Bytes}{k1:Bytes->Option Bytes}(cq:∀(PU:Bytes),k1 PU=some r->Ax Γ N f61 (.q [[none]] (D.str r)) [1,1,1,1] ⟨[(3,D.str PU)],[]⟩):∀(n1:Nat) (vG:Int) (mZ:Bytes),ew k1 n1 vG mZ=some r->Ar Γ N f61 (.q [[none]] (D.str r)) [1,1,1,0,0] n1 (Iy vG mZ):=by
 intro n
 induction n with
 |zero=>intro vG mZ h;simp[ew]at h
 |succ n1 ih1=>
  intro vG mZ h;rw[ew]at h;refine aP fun N1 cB bw=>?_
  obtain⟨h10,h⟩|⟨h10,h⟩:=aO h
  ·obtain⟨h11,h⟩:=bY h;obtain⟨h12,h⟩:=bY h;obtain⟨h13,h⟩:=bY h;exact(((((aT.b h10).w (Qz .i64 h11)).w (bp h12)).w (Qz .i64 h13)).a [.cn [0,3] []]).cf hΓ bw (ih1 ((vG:Int)/10) (([UInt8.ofNat (IntKind.u8.wrap (IntKind.i64.wrap (48+((vG:Int)%10)))).toNat])++mZ) h)
  ·exact((aT.b h10).a [.hl 0 [3] []]).ex hΓ cB (cq mZ h)
theorem cH{aB:Int}{r:Bytes}(h:bz aB=some r):Good prog 61 [D.int .i64 aB] (D.str r):=by
 refine gd func61 [[none]] 20 fun hr Γ hΓ=>?_
 rw[bz]at h;obtain⟨h1,h⟩|⟨h1,h⟩:=aO h
 ·cases h;exact(aT.b h1).ret hΓ
 ·refine((aT.b h1).a [.cn [0,3] []]).lp hΓ (HF hΓ (fun PU h=>?_) fuel aB ([]) h);obtain⟨h14,h⟩:=bY h;cases h;exact(aT.w (bp h14)).rts hΓ (D.str (([109])++PU)) (by first|rfl| (simp only[mA]<;>rfl))
def fF(k1:aH->Int->Option (aH×Int)):aH->aH->Int->Option (aH×Int)
 | [],bU,ay=>(k1 bU ay)
 |bA::bt,bU,ay=>((bz ay).bind fun y1=>(fF k1 bt (bU++[y1]) (IntKind.i64.wrap (ay+1))))
def gD(aB:aH)(aV:Int):Option (aH×Int):=(fF (fun(bN:aH) (cM:Int)=>(some (bN,cM))) aB [] aV)
theorem D0{Γ:tY}(hΓ:Γ.nt=20){N:Nat->St->Prop}{eM:Value}{r:aH×Int}{k1:aH->Int->Option (aH×Int)}(cq:∀(bN:aH) (cM:Int),k1 bN cM=some r->AW prog Γ (lc f62 [1,1]) (KQ prog Γ N (sE prog f62 [eM] [(1,r.1.map tx)] (D.int .i64 r.2)) (xB f62 [1,1])) ⟨[(1,D.int .i64 cM)],[Ob.eC 1 (bN.map tx) (some eM)]⟩):∀(rest:aH) (bU:aH) (ay:Int),bU.length+rest.length<=maxLen->fF k1 rest bU ay=some r->Ms prog Γ (lc f62 [1,0,1,0,0]) (KQ prog Γ N (sE prog f62 [eM] [(1,r.1.map tx)] (D.int .i64 r.2)) (xB f62 [1,0,1,0])) (rest.length+1) ⟨[(0,D.acc 0),(1,D.int .i64 ay),(5,D.int .i64 (bU.length:Int))],[Ob.eC 1 (bU.map tx++rest.map tx) (some eM)]⟩:=by
 intro rest
 induction rest with
 |nil=>
  intro bU ay hm1 h;rw[fF]at h;refine aP fun N1 cB bw=>?_
  have t:=Mr (N:=N) (N':=N1) (K0:=(xB f62 [1,0,1,0])) (by kernel_rfl) cB (cq bU ay h);refine eU (n:=2000) 1 [bF,.hl 0 [1] [0]] (.at_ (lc f62 [1,1]) (xB f62 [1,1]) ⟨[(1,D.int .i64 ay)],[Ob.eC 1 (bU.map tx++([]:aH).map tx) (some eM)]⟩) hΓ zP (by kernel_rfl) (ow (show(decide (((bU.length:Int):Int)<((bU.map tx++([]:aH).map tx).length:Int)))=false from(AX _)) B3) ?_;refine uF (s:=⟨[(1,D.int .i64 ay)],[Ob.eC 1 (bU.map tx++([]:aH).map tx) (some eM)]⟩) ?_ t;simp only[bZ,cO]
 |cons bA bt ih1=>
  intro bU ay hm1 h;rw[fF]at h;refine aP fun N1 cB bw=>?_
  obtain⟨y1,h2,h⟩:=aD h;have t:=ih1 (bU++[y1]) (IntKind.i64.wrap (ay+1)) (by simp only[aS,aL,bG]at hm1⊢;omega) h;refine eU (n:=2000) 1 [bT,.d (D.str y1),.ix (bU.length),.row [D.str bA],.cn [0,1,5] [0]] (.cont 0 ⟨[(0,D.acc 0),(1,D.int .i64 (IntKind.i64.wrap (ay+1))),(5,D.int .i64 (IntKind.i64.wrap ((bU.length:Int)+1)))],[Ob.eC 1 ((bU.map tx++([D.str bA]::bt.map tx)).set bU.length [D.str y1]) (some eM)]⟩) hΓ zP (by kernel_rfl) (ow (show(decide (((bU.length:Int):Int)<((bU.map tx++([D.str bA]::bt.map tx)).length:Int)))=true from(Aa _ _ _)) (ow (cH h2) (ow (show(bU.length:Int)=((bU.length:Nat):Int)/\bU.length<(bU.map tx++([D.str bA]::bt.map tx)).length from⟨rfl,by simp only[bV,aS,aa,aL];omega⟩) (ow (show(bU.map tx++([D.str bA]::bt.map tx))[bU.length]?=some [D.str bA]from by(try simp only[cX]);exact cz _ _ _) B3)))) ?_;refine(congrFun bw _).mpr ?_;rw[wz (by simp only[aL]at hm1;omega)];simp only[cX];simp only[bu,bD,bZ,bQ,dA,cL,aS,aL,bG]at t⊢;exact t
theorem ju{aB:aH}{aV:Int}{r:aH×Int}(h:gD aB aV=some r):qe prog 62 [D.acc 0,D.int .i64 aV] [(1,aB.map tx)] [(1,r.1.map tx)] (D.int .i64 r.2):=by
 refine qe.of (c:=jL f62) func62 rfl (by decide) (by simp[f62]) rfl rfl ?_;intro hr Γ hΓ vs hvs
 match vs,hvs with
 | [eM],_=>
 have hΓ:Γ.nt=20:=hΓ;rw[gD]at h;refine(show AW prog Γ (jL f62) (KQ prog Γ (fun _ _=>False) (sE prog f62 [eM] [(1,r.1.map tx)] (D.int .i64 r.2)) []) _ from ?_);refine eU (n:=2000) 1 [.cn [0,1,5] [0]] (.lp (lc f62 [1,0,1,0,0]) (xB f62 [1,0,1,0]) ⟨[(0,D.acc 0),(1,D.int .i64 aV),(5,D.int .i64 0)],[Ob.eC 1 (aB.map tx) (some eM)]⟩) hΓ zP (by kernel_rfl) B3 (uF (by rfl) (vf (D0 hΓ (fun bN cM h=>?_) aB [] aV (by have:=hr _ (aC (i:=0) rfl);simpa using this) h)));have h:=aE h;subst h;exact eU (n:=2000) 1 [] (.ret (D.ij [D.int .i64 cM,D.agg [D.fr 0 1 (bN.map tx),D.val eM]])) hΓ zP (by kernel_rfl) B3 rfl
def gW(k1:ai->Int->Option (ai×Int)):ai->ai->Int->Option (ai×Int)
 | [],bU,ay=>(k1 bU ay)
 |bA::bt,bU,ay=>((bz (IntKind.i64.wrap (ay+1))).bind fun y1=>((gD bA.pat.args (IntKind.i64.wrap ((IntKind.i64.wrap (ay+1))+1))).bind fun y3=>((bz y3.2).bind fun y5=>((bz (IntKind.i64.wrap (y3.2+1))).bind fun y7=>(gW k1 bt (bU++[(⟨ay,(⟨y1,y3.1⟩:aG),y5,y7⟩:aM)]) (IntKind.i64.wrap ((IntKind.i64.wrap (y3.2+1))+1)))))))
def rJ(aB:ai)(aV:Int):Option (ai×Int):=(gW (fun(bN:ai) (cM:Int)=>(some (bN,cM))) aB [] aV)
theorem FE{Γ:tY}(hΓ:Γ.nt=53){N:Nat->St->Prop}{eM:Value}{r:ai×Int}{k1:ai->Int->Option (ai×Int)}(cq:∀(bN:ai) (cM:Int),k1 bN cM=some r->AW prog Γ (lc f117 [1,1]) (KQ prog Γ N (sE prog f117 [eM] [(5,r.1.map aM.c)] (D.int .i64 r.2)) (xB f117 [1,1])) ⟨[(1,D.int .i64 cM)],[Ob.eC 5 (bN.map aM.c) (some eM)]⟩):∀(rest:ai) (bU:ai) (ay:Int),bU.length+rest.length<=maxLen->gW k1 rest bU ay=some r->Ms prog Γ (lc f117 [1,0,1,0,0]) (KQ prog Γ N (sE prog f117 [eM] [(5,r.1.map aM.c)] (D.int .i64 r.2)) (xB f117 [1,0,1,0])) (rest.length+1) ⟨[(0,D.acc 0),(1,D.int .i64 ay),(5,D.int .i64 (bU.length:Int))],[Ob.eC 5 (bU.map aM.c++rest.map aM.c) (some eM)]⟩:=by
 intro rest
 induction rest with
 |nil=>
  intro bU ay hm1 h;rw[gW]at h;refine aP fun N1 cB bw=>?_
  have t:=Mr (N:=N) (N':=N1) (K0:=(xB f117 [1,0,1,0])) (by kernel_rfl) cB (cq bU ay h);refine eU (n:=2000) 1 [bF,.hl 0 [1] [0]] (.at_ (lc f117 [1,1]) (xB f117 [1,1]) ⟨[(1,D.int .i64 ay)],[Ob.eC 5 (bU.map aM.c++([]:ai).map aM.c) (some eM)]⟩) hΓ zP (by kernel_rfl) (ow (show(decide (((bU.length:Int):Int)<((bU.map aM.c++([]:ai).map aM.c).length:Int)))=false from(AX _)) B3) ?_;refine uF (s:=⟨[(1,D.int .i64 ay)],[Ob.eC 5 (bU.map aM.c++([]:ai).map aM.c) (some eM)]⟩) ?_ t;simp only[bZ,cO]
 |cons bA bt ih1=>
  intro bU ay hm1 h;rw[gW]at h;refine aP fun N1 cB bw=>?_
  obtain⟨y1,h2,h⟩:=aD h;obtain⟨y3,h4,h⟩:=aD h;obtain⟨y5,h6,h⟩:=aD h;obtain⟨y7,h8,h⟩:=aD h;have t:=ih1 (bU++[(⟨ay,(⟨y1,y3.1⟩:aG),y5,y7⟩:aM)]) (IntKind.i64.wrap ((IntKind.i64.wrap (y3.2+1))+1)) (by simp only[aS,aL,bG]at hm1⊢;omega) h;let TX:aQ:=[D.int .i64 ay,D.str y1,D.any,D.str bA.left,D.str bA.right]
  let Rk:aQ:=[D.int .i64 ay,D.str y1,D.sl (y3.1.map tx),D.str y5,D.str bA.right]
  let Ti:aQ:=[D.int .i64 ay,D.str y1,D.sl (y3.1.map tx),D.str bA.left,D.str bA.right]
  let RW:aQ:=[D.int .i64 ay,D.str y1,D.sl (bA.pat.args.map tx),D.str bA.left,D.str bA.right]
  let Tj:aQ:=[D.int .i64 ay,D.str bA.pat.rel,D.sl (bA.pat.args.map tx),D.str bA.left,D.str bA.right]
  let RX:aQ:=[D.int .i64 bA.kind,D.str bA.pat.rel,D.sl (bA.pat.args.map tx),D.str bA.left,D.str bA.right]
  let RY:List aQ:=((bU.map aM.c++(RX::bt.map aM.c)).set bU.length Tj)
  let Rm:List aQ:=(((RY.set bU.length RW).set bU.length TX).set bU.length Ti)
  refine eU (n:=2000) 1 [bT,.ix (bU.length),.row RX,.d (D.str y1),.ix (bU.length),.row Tj,.ix (bU.length),.row RW,.gv [1] [(1,y3.1.map tx)] (D.int .i64 y3.2),.mg 0 bU.length 2 TX,.d (D.str y5),.ix (bU.length),.row Ti,.d (D.str y7),.ix (bU.length),.row Rk,.cn [0,1,5] [0]] (.cont 0 ⟨[(0,D.acc 0),(1,D.int .i64 (IntKind.i64.wrap ((IntKind.i64.wrap (y3.2+1))+1))),(5,D.int .i64 (IntKind.i64.wrap ((bU.length:Int)+1)))],[Ob.eC 5 ((Rm.set bU.length Rk).set bU.length [D.int .i64 ay,D.str y1,D.sl (y3.1.map tx),D.str y5,D.str y7]) (some eM)]⟩) hΓ zP (by kernel_rfl) (ow (show(decide (((bU.length:Int):Int)<((bU.map aM.c++(RX::bt.map aM.c)).length:Int)))=true from(Aa _ _ _)) (ow (show(bU.length:Int)=((bU.length:Nat):Int)/\bU.length<(bU.map aM.c++(RX::bt.map aM.c)).length from⟨rfl,by simp only[Rm,RY,RX,Tj,RW,Ti,Rk,TX,bV,aS,aa,aL];omega⟩) (ow (show(bU.map aM.c++(RX::bt.map aM.c))[bU.length]?=some RX from by(try simp only[Rm,RY,RX,Tj,RW,Ti,Rk,TX,cX]);exact cz _ _ _) (ow (cH h2) (ow (show(bU.length:Int)=((bU.length:Nat):Int)/\bU.length<RY.length from⟨rfl,by simp only[Rm,RY,RX,Tj,RW,Ti,Rk,TX,bV,aS,aa,aL];omega⟩) (ow (show RY[bU.length]?=some Tj from by(try simp only[Rm,RY,RX,Tj,RW,Ti,Rk,TX,cX]);exact cz _ _ _) (ow (show(bU.length:Int)=((bU.length:Nat):Int)/\bU.length<(RY.set bU.length RW).length from⟨rfl,by simp only[Rm,RY,RX,Tj,RW,Ti,Rk,TX,bV,aS,aa,aL];omega⟩) (ow (show(RY.set bU.length RW)[bU.length]?=some RW from by(try simp only[Rm,RY,RX,Tj,RW,Ti,Rk,TX,cX]);exact cz _ _ _) (ow (show∀q∈(bA.pat.args.map tx),q.length=1 from by simp) (ow (ju h4) (ow (show((RY.set bU.length RW).set bU.length TX)[bU.length]?=some TX from by(try simp only[Rm,RY,RX,Tj,RW,Ti,Rk,TX,cX]);exact cz _ _ _) (ow (show(bU.length*5+2)=bU.length*5+2 from rfl) (ow (cH h6) (ow (show(bU.length:Int)=((bU.length:Nat):Int)/\bU.length<Rm.length from⟨rfl,by simp only[Rm,RY,RX,Tj,RW,Ti,Rk,TX,bV,aS,aa,aL];omega⟩) (ow (show Rm[bU.length]?=some Ti from by(try simp only[Rm,RY,RX,Tj,RW,Ti,Rk,TX,cX]);exact cz _ _ _) (ow (cH h8) (ow (show(bU.length:Int)=((bU.length:Nat):Int)/\bU.length<(Rm.set bU.length Rk).length from⟨rfl,by simp only[Rm,RY,RX,Tj,RW,Ti,Rk,TX,bV,aS,aa,aL];omega⟩) (ow (show(Rm.set bU.length Rk)[bU.length]?=some Rk from by(try simp only[Rm,RY,RX,Tj,RW,Ti,Rk,TX,cX]);exact cz _ _ _) B3)))))))))))))))))) ?_;refine(congrFun bw _).mpr ?_;rw[wz (by simp only[aL]at hm1;omega)];simp only[Rm,RY,RX,Tj,RW,Ti,Rk,TX,cX];simp only[bu,bD,bZ,bQ,dA,cL,aS,aL,bG]at t⊢;exact t
theorem E3{aB:ai}{aV:Int}{r:ai×Int}(h:rJ aB aV=some r):qe prog 117 [D.acc 0,D.int .i64 aV] [(5,aB.map aM.c)] [(5,r.1.map aM.c)] (D.int .i64 r.2):=by
 refine qe.of (c:=jL f117) func117 rfl (by decide) (by simp[f117]) rfl rfl ?_;intro hr Γ hΓ vs hvs
 match vs,hvs with
 | [eM],_=>
 have hΓ:Γ.nt=53:=hΓ;rw[rJ]at h;refine(show AW prog Γ (jL f117) (KQ prog Γ (fun _ _=>False) (sE prog f117 [eM] [(5,r.1.map aM.c)] (D.int .i64 r.2)) []) _ from ?_);refine eU (n:=2000) 1 [.cn [0,1,5] [0]] (.lp (lc f117 [1,0,1,0,0]) (xB f117 [1,0,1,0]) ⟨[(0,D.acc 0),(1,D.int .i64 aV),(5,D.int .i64 0)],[Ob.eC 5 (aB.map aM.c) (some eM)]⟩) hΓ zP (by kernel_rfl) B3 (uF (by rfl) (vf (FE hΓ (fun bN cM h=>?_) aB [] aV (by have:=hr _ (aC (i:=0) rfl);simpa using this) h)));have h:=aE h;subst h;exact eU (n:=2000) 1 [] (.ret (D.ij [D.int .i64 cM,D.agg [D.fr 0 5 (bN.map aM.c),D.val eM]])) hΓ zP (by kernel_rfl) B3 rfl
def fE(k1:c8->Int->Option (c8×Int)):c8->c8->Int->Option (c8×Int)
 | [],bU,ay=>(k1 bU ay)
 |bA::bt,bU,ay=>((bz (IntKind.i64.wrap (ay+1))).bind fun y1=>((gD bA.pat.args (IntKind.i64.wrap ((IntKind.i64.wrap (ay+1))+1))).bind fun y3=>(fE k1 bt (bU++[(⟨ay,(⟨y1,y3.1⟩:aG)⟩:Action)]) y3.2)))
def p6(aB:c8)(aV:Int):Option (c8×Int):=(fE (fun(bN:c8) (cM:Int)=>(some (bN,cM))) aB [] aV)
theorem Cw{Γ:tY}(hΓ:Γ.nt=37){N:Nat->St->Prop}{eM:Value}{r:c8×Int}{k1:c8->Int->Option (c8×Int)}(cq:∀(bN:c8) (cM:Int),k1 bN cM=some r->AW prog Γ (lc f118 [1,1]) (KQ prog Γ N (sE prog f118 [eM] [(3,r.1.map Action.c)] (D.int .i64 r.2)) (xB f118 [1,1])) ⟨[(1,D.int .i64 cM)],[Ob.eC 3 (bN.map Action.c) (some eM)]⟩):∀(rest:c8) (bU:c8) (ay:Int),bU.length+rest.length<=maxLen->fE k1 rest bU ay=some r->Ms prog Γ (lc f118 [1,0,1,0,0]) (KQ prog Γ N (sE prog f118 [eM] [(3,r.1.map Action.c)] (D.int .i64 r.2)) (xB f118 [1,0,1,0])) (rest.length+1) ⟨[(0,D.acc 0),(1,D.int .i64 ay),(5,D.int .i64 (bU.length:Int))],[Ob.eC 3 (bU.map Action.c++rest.map Action.c) (some eM)]⟩:=by
 intro rest
 induction rest with
 |nil=>
  intro bU ay hm1 h;rw[fE]at h;refine aP fun N1 cB bw=>?_
  have t:=Mr (N:=N) (N':=N1) (K0:=(xB f118 [1,0,1,0])) (by kernel_rfl) cB (cq bU ay h);refine eU (n:=2000) 1 [bF,.hl 0 [1] [0]] (.at_ (lc f118 [1,1]) (xB f118 [1,1]) ⟨[(1,D.int .i64 ay)],[Ob.eC 3 (bU.map Action.c++([]:c8).map Action.c) (some eM)]⟩) hΓ zP (by kernel_rfl) (ow (show(decide (((bU.length:Int):Int)<((bU.map Action.c++([]:c8).map Action.c).length:Int)))=false from(AX _)) B3) ?_;refine uF (s:=⟨[(1,D.int .i64 ay)],[Ob.eC 3 (bU.map Action.c++([]:c8).map Action.c) (some eM)]⟩) ?_ t;simp only[bZ,cO]
 |cons bA bt ih1=>
  intro bU ay hm1 h;rw[fE]at h;refine aP fun N1 cB bw=>?_
  obtain⟨y1,h2,h⟩:=aD h;obtain⟨y3,h4,h⟩:=aD h;have t:=ih1 (bU++[(⟨ay,(⟨y1,y3.1⟩:aG)⟩:Action)]) y3.2 (by simp only[aS,aL,bG]at hm1⊢;omega) h;let YE:aQ:=[D.int .i64 ay,D.str y1,D.sl (bA.pat.args.map tx)]
  let WM:aQ:=[D.int .i64 ay,D.str bA.pat.rel,D.sl (bA.pat.args.map tx)]
  let Na:aQ:=[D.int .i64 bA.kind,D.str bA.pat.rel,D.sl (bA.pat.args.map tx)]
  let K5:List aQ:=(bU.map Action.c++(Na::bt.map Action.c))
  let Mv:List aQ:=((K5.set bU.length WM).set bU.length YE)
  refine eU (n:=2000) 1 [bT,.ix (bU.length),.row Na,.d (D.str y1),.ix (bU.length),.row WM,.ix (bU.length),.row YE,.gv [1] [(1,y3.1.map tx)] (D.int .i64 y3.2),.mg 0 bU.length 2 [D.int .i64 ay,D.str y1,D.any],.cn [0,1,5] [0]] (.cont 0 ⟨[(0,D.acc 0),(1,D.int .i64 y3.2),(5,D.int .i64 (IntKind.i64.wrap ((bU.length:Int)+1)))],[Ob.eC 3 ((Mv.set bU.length [D.int .i64 ay,D.str y1,D.any]).set bU.length [D.int .i64 ay,D.str y1,D.sl (y3.1.map tx)]) (some eM)]⟩) hΓ zP (by kernel_rfl) (ow (show(decide (((bU.length:Int):Int)<(K5.length:Int)))=true from(Aa _ _ _)) (ow (show(bU.length:Int)=((bU.length:Nat):Int)/\bU.length<K5.length from⟨rfl,by simp only[Mv,K5,Na,WM,YE,bV,aS,aa,aL];omega⟩) (ow (show K5[bU.length]?=some Na from by(try simp only[Mv,K5,Na,WM,YE,cX]);exact cz _ _ _) (ow (cH h2) (ow (show(bU.length:Int)=((bU.length:Nat):Int)/\bU.length<(K5.set bU.length WM).length from⟨rfl,by simp only[Mv,K5,Na,WM,YE,bV,aS,aa,aL];omega⟩) (ow (show(K5.set bU.length WM)[bU.length]?=some WM from by(try simp only[Mv,K5,Na,WM,YE,cX]);exact cz _ _ _) (ow (show(bU.length:Int)=((bU.length:Nat):Int)/\bU.length<Mv.length from⟨rfl,by simp only[Mv,K5,Na,WM,YE,bV,aS,aa,aL];omega⟩) (ow (show Mv[bU.length]?=some YE from by(try simp only[Mv,K5,Na,WM,YE,cX]);exact cz _ _ _) (ow (show∀q∈(bA.pat.args.map tx),q.length=1 from by simp) (ow (ju h4) (ow (show(Mv.set bU.length [D.int .i64 ay,D.str y1,D.any])[bU.length]?=some [D.int .i64 ay,D.str y1,D.any]from by(try simp only[Mv,K5,Na,WM,YE,cX]);exact cz _ _ _) (ow (show(bU.length*3+2)=bU.length*3+2 from rfl) B3)))))))))))) ?_;refine(congrFun bw _).mpr ?_;rw[wz (by simp only[aL]at hm1;omega)];simp only[Mv,K5,Na,WM,YE,cX];simp only[bu,bD,bZ,bQ,dA,cL,aS,aL,bG]at t⊢;exact t
theorem C2{aB:c8}{aV:Int}{r:c8×Int}(h:p6 aB aV=some r):qe prog 118 [D.acc 0,D.int .i64 aV] [(3,aB.map Action.c)] [(3,r.1.map Action.c)] (D.int .i64 r.2):=by
 refine qe.of (c:=jL f118) func118 rfl (by decide) (by simp[f118]) rfl rfl ?_;intro hr Γ hΓ vs hvs
 match vs,hvs with
 | [eM],_=>
 have hΓ:Γ.nt=37:=hΓ;rw[p6]at h;refine(show AW prog Γ (jL f118) (KQ prog Γ (fun _ _=>False) (sE prog f118 [eM] [(3,r.1.map Action.c)] (D.int .i64 r.2)) []) _ from ?_);refine eU (n:=2000) 1 [.cn [0,1,5] [0]] (.lp (lc f118 [1,0,1,0,0]) (xB f118 [1,0,1,0]) ⟨[(0,D.acc 0),(1,D.int .i64 aV),(5,D.int .i64 0)],[Ob.eC 3 (aB.map Action.c) (some eM)]⟩) hΓ zP (by kernel_rfl) B3 (uF (by rfl) (vf (Cw hΓ (fun bN cM h=>?_) aB [] aV (by have:=hr _ (aC (i:=0) rfl);simpa using this) h)));have h:=aE h;subst h;exact eU (n:=2000) 1 [] (.ret (D.ij [D.int .i64 cM,D.agg [D.fr 0 3 (bN.map Action.c),D.val eM]])) hΓ zP (by kernel_rfl) B3 rfl
def ga(k1:aq->Int->Option (aq×Int)):aq->aq->Int->Option (aq×Int)
 | [],bU,ay=>(k1 bU ay)
 |bA::bt,bU,ay=>((bz ay).bind fun y1=>((rJ bA.conds (IntKind.i64.wrap ((IntKind.i64.wrap (ay+1))+1))).bind fun y3=>((p6 bA.ck y3.2).bind fun y5=>(ga k1 bt (bU++[(⟨y1,IntKind.i64.wrap (ay+1),y3.1,y5.1⟩:aN)]) y5.2))))
def rL(aB:aq)(aV:Int):Option (aq×Int):=(ga (fun(bN:aq) (cM:Int)=>(some (bN,cM))) aB [] aV)
theorem FJ{Γ:tY}(hΓ:Γ.nt=42){N:Nat->St->Prop}{eM:Value}{r:aq×Int}{k1:aq->Int->Option (aq×Int)}(cq:∀(bN:aq) (cM:Int),k1 bN cM=some r->AW prog Γ (lc f57 [1,1]) (KQ prog Γ N (sE prog f57 [eM] [(4,r.1.map aN.c)] (D.int .i64 r.2)) (xB f57 [1,1])) ⟨[(1,D.int .i64 cM)],[Ob.eC 4 (bN.map aN.c) (some eM)]⟩):∀(rest:aq) (bU:aq) (ay:Int),bU.length+rest.length<=maxLen->ga k1 rest bU ay=some r->Ms prog Γ (lc f57 [1,0,1,0,0]) (KQ prog Γ N (sE prog f57 [eM] [(4,r.1.map aN.c)] (D.int .i64 r.2)) (xB f57 [1,0,1,0])) (rest.length+1) ⟨[(0,D.acc 0),(1,D.int .i64 ay),(5,D.int .i64 (bU.length:Int))],[Ob.eC 4 (bU.map aN.c++rest.map aN.c) (some eM)]⟩:=by
 intro rest
 induction rest with
 |nil=>
  intro bU ay hm1 h;rw[ga]at h;refine aP fun N1 cB bw=>?_
  have t:=Mr (N:=N) (N':=N1) (K0:=(xB f57 [1,0,1,0])) (by kernel_rfl) cB (cq bU ay h);refine eU (n:=2000) 1 [bF,.hl 0 [1] [0]] (.at_ (lc f57 [1,1]) (xB f57 [1,1]) ⟨[(1,D.int .i64 ay)],[Ob.eC 4 (bU.map aN.c++([]:aq).map aN.c) (some eM)]⟩) hΓ zP (by kernel_rfl) (ow (show(decide (((bU.length:Int):Int)<((bU.map aN.c++([]:aq).map aN.c).length:Int)))=false from(AX _)) B3) ?_;refine uF (s:=⟨[(1,D.int .i64 ay)],[Ob.eC 4 (bU.map aN.c++([]:aq).map aN.c) (some eM)]⟩) ?_ t;simp only[bZ,cO]
 |cons bA bt ih1=>
  intro bU ay hm1 h;rw[ga]at h;refine aP fun N1 cB bw=>?_
  obtain⟨y1,h2,h⟩:=aD h;obtain⟨y3,h4,h⟩:=aD h;obtain⟨y5,h6,h⟩:=aD h;have t:=ih1 (bU++[(⟨y1,IntKind.i64.wrap (ay+1),y3.1,y5.1⟩:aN)]) y5.2 (by simp only[aS,aL,bG]at hm1⊢;omega) h;let IR:aQ:=[D.str y1,D.int .i64 (IntKind.i64.wrap (ay+1)),D.sl (y3.1.map aM.c),D.any]
  let K6:aQ:=[D.str y1,D.int .i64 (IntKind.i64.wrap (ay+1)),D.any,D.sl (bA.ck.map Action.c)]
  let K7:aQ:=[D.str y1,D.int .i64 bA.prio,D.sl (bA.conds.map aM.c),D.sl (bA.ck.map Action.c)]
  let Eb:aQ:=[D.str bA.name,D.int .i64 bA.prio,D.sl (bA.conds.map aM.c),D.sl (bA.ck.map Action.c)]
  let GZ:List aQ:=((bU.map aN.c++(Eb::bt.map aN.c)).set bU.length K7)
  let Ec:aQ:=[D.str y1,D.int .i64 (IntKind.i64.wrap (ay+1)),D.sl (y3.1.map aM.c),D.sl (bA.ck.map Action.c)]
  let Ga:aQ:=[D.str y1,D.int .i64 (IntKind.i64.wrap (ay+1)),D.sl (bA.conds.map aM.c),D.sl (bA.ck.map Action.c)]
  let Gb:List aQ:=((GZ.set bU.length Ga).set bU.length K6)
  refine eU (n:=2000) 1 [bT,.d (D.str y1),.ix (bU.length),.row Eb,.ix (bU.length),.row K7,.ix (bU.length),.row Ga,.gv [1] [(5,y3.1.map aM.c)] (D.int .i64 y3.2),.mg 0 bU.length 2 K6,.ix (bU.length),.row Ec,.gv [2] [(3,y5.1.map Action.c)] (D.int .i64 y5.2),.mg 0 bU.length 3 IR,.cn [0,1,5] [0]] (.cont 0 ⟨[(0,D.acc 0),(1,D.int .i64 y5.2),(5,D.int .i64 (IntKind.i64.wrap ((bU.length:Int)+1)))],[Ob.eC 4 (((Gb.set bU.length Ec).set bU.length IR).set bU.length [D.str y1,D.int .i64 (IntKind.i64.wrap (ay+1)),D.sl (y3.1.map aM.c),D.sl (y5.1.map Action.c)]) (some eM)]⟩) hΓ zP (by kernel_rfl) (ow (show(decide (((bU.length:Int):Int)<((bU.map aN.c++(Eb::bt.map aN.c)).length:Int)))=true from(Aa _ _ _)) (ow (cH h2) (ow (show(bU.length:Int)=((bU.length:Nat):Int)/\bU.length<(bU.map aN.c++(Eb::bt.map aN.c)).length from⟨rfl,by simp only[Gb,Ga,Ec,GZ,Eb,K7,K6,IR,bV,aS,aa,aL];omega⟩) (ow (show(bU.map aN.c++(Eb::bt.map aN.c))[bU.length]?=some Eb from by(try simp only[Gb,Ga,Ec,GZ,Eb,K7,K6,IR,cX]);exact cz _ _ _) (ow (show(bU.length:Int)=((bU.length:Nat):Int)/\bU.length<GZ.length from⟨rfl,by simp only[Gb,Ga,Ec,GZ,Eb,K7,K6,IR,bV,aS,aa,aL];omega⟩) (ow (show GZ[bU.length]?=some K7 from by(try simp only[Gb,Ga,Ec,GZ,Eb,K7,K6,IR,cX]);exact cz _ _ _) (ow (show(bU.length:Int)=((bU.length:Nat):Int)/\bU.length<(GZ.set bU.length Ga).length from⟨rfl,by simp only[Gb,Ga,Ec,GZ,Eb,K7,K6,IR,bV,aS,aa,aL];omega⟩) (ow (show(GZ.set bU.length Ga)[bU.length]?=some Ga from by(try simp only[Gb,Ga,Ec,GZ,Eb,K7,K6,IR,cX]);exact cz _ _ _) (ow (show∀q∈(bA.conds.map aM.c),q.length=5 from by simp) (ow (E3 h4) (ow (show Gb[bU.length]?=some K6 from by(try simp only[Gb,Ga,Ec,GZ,Eb,K7,K6,IR,cX]);exact cz _ _ _) (ow (show(bU.length*4+2)=bU.length*4+2 from rfl) (ow (show(bU.length:Int)=((bU.length:Nat):Int)/\bU.length<(Gb.set bU.length Ec).length from⟨rfl,by simp only[Gb,Ga,Ec,GZ,Eb,K7,K6,IR,bV,aS,aa,aL];omega⟩) (ow (show(Gb.set bU.length Ec)[bU.length]?=some Ec from by(try simp only[Gb,Ga,Ec,GZ,Eb,K7,K6,IR,cX]);exact cz _ _ _) (ow (show∀q∈(bA.ck.map Action.c),q.length=3 from by simp) (ow (C2 h6) (ow (show((Gb.set bU.length Ec).set bU.length IR)[bU.length]?=some IR from by(try simp only[Gb,Ga,Ec,GZ,Eb,K7,K6,IR,cX]);exact cz _ _ _) (ow (show(bU.length*4+3)=bU.length*4+3 from rfl) B3)))))))))))))))))) ?_;refine(congrFun bw _).mpr ?_;rw[wz (by simp only[aL]at hm1;omega)];simp only[Gb,Ga,Ec,GZ,Eb,K7,K6,IR,cX];simp only[bu,bD,bZ,bQ,dA,cL,aS,aL,bG]at t⊢;exact t
theorem E6{aB:aq}{aV:Int}{r:aq×Int}(h:rL aB aV=some r):qe prog 57 [D.acc 0,D.int .i64 aV] [(4,aB.map aN.c)] [(4,r.1.map aN.c)] (D.int .i64 r.2):=by
 refine qe.of (c:=jL f57) func57 rfl (by decide) (by simp[f57]) rfl rfl ?_;intro hr Γ hΓ vs hvs
 match vs,hvs with
 | [eM],_=>
 have hΓ:Γ.nt=42:=hΓ;rw[rL]at h;refine(show AW prog Γ (jL f57) (KQ prog Γ (fun _ _=>False) (sE prog f57 [eM] [(4,r.1.map aN.c)] (D.int .i64 r.2)) []) _ from ?_);refine eU (n:=2000) 1 [.cn [0,1,5] [0]] (.lp (lc f57 [1,0,1,0,0]) (xB f57 [1,0,1,0]) ⟨[(0,D.acc 0),(1,D.int .i64 aV),(5,D.int .i64 0)],[Ob.eC 4 (aB.map aN.c) (some eM)]⟩) hΓ zP (by kernel_rfl) B3 (uF (by rfl) (vf (FJ hΓ (fun bN cM h=>?_) aB [] aV (by have:=hr _ (aC (i:=0) rfl);simpa using this) h)));have h:=aE h;subst h;exact eU (n:=2000) 1 [] (.ret (D.ij [D.int .i64 cM,D.agg [D.fr 0 4 (bN.map aN.c),D.val eM]])) hΓ zP (by kernel_rfl) B3 rfl
def iB(k1:bP->Int->Option (bP×Int)):bP->bP->Int->Option (bP×Int)
 | [],bU,ay=>(k1 bU ay)
 |bA::bt,bU,ay=>(iB k1 bt (bU++[ay]) (IntKind.i64.wrap (ay+1)))
def sX(aB:bP)(aV:Int):Option (bP×Int):=(iB (fun(bN:bP) (cM:Int)=>(some (bN,cM))) aB [] aV)
theorem HE{Γ:tY}(hΓ:Γ.nt=19){N:Nat->St->Prop}{eM:Value}{r:bP×Int}{k1:bP->Int->Option (bP×Int)}(cq:∀(bN:bP) (cM:Int),k1 bN cM=some r->AW prog Γ (lc f58 [1,1]) (KQ prog Γ N (sE prog f58 [eM] [(1,r.1.map gQ)] (D.int .i64 r.2)) (xB f58 [1,1])) ⟨[(1,D.int .i64 cM)],[Ob.eC 1 (bN.map gQ) (some eM)]⟩):∀(rest:bP) (bU:bP) (ay:Int),bU.length+rest.length<=maxLen->iB k1 rest bU ay=some r->Ms prog Γ (lc f58 [1,0,1,0,0]) (KQ prog Γ N (sE prog f58 [eM] [(1,r.1.map gQ)] (D.int .i64 r.2)) (xB f58 [1,0,1,0])) (rest.length+1) ⟨[(0,D.acc 0),(1,D.int .i64 ay),(5,D.int .i64 (bU.length:Int))],[Ob.eC 1 (bU.map gQ++rest.map gQ) (some eM)]⟩:=by
 intro rest
 induction rest with
 |nil=>
  intro bU ay hm1 h;rw[iB]at h;refine aP fun N1 cB bw=>?_
  have t:=Mr (N:=N) (N':=N1) (K0:=(xB f58 [1,0,1,0])) (by kernel_rfl) cB (cq bU ay h);refine eU (n:=2000) 1 [bF,.hl 0 [1] [0]] (.at_ (lc f58 [1,1]) (xB f58 [1,1]) ⟨[(1,D.int .i64 ay)],[Ob.eC 1 (bU.map gQ++([]:bP).map gQ) (some eM)]⟩) hΓ zP (by kernel_rfl) (ow (show(decide (((bU.length:Int):Int)<((bU.map gQ++([]:bP).map gQ).length:Int)))=false from(AX _)) B3) ?_;refine uF (s:=⟨[(1,D.int .i64 ay)],[Ob.eC 1 (bU.map gQ++([]:bP).map gQ) (some eM)]⟩) ?_ t;simp only[bZ,cO]
 |cons bA bt ih1=>
  intro bU ay hm1 h;rw[iB]at h;refine aP fun N1 cB bw=>?_
  have t:=ih1 (bU++[ay]) (IntKind.i64.wrap (ay+1)) (by simp only[aS,aL,bG]at hm1⊢;omega) h;refine eU (n:=2000) 1 [bT,.ix (bU.length),.row [D.int .i64 bA],.cn [0,1,5] [0]] (.cont 0 ⟨[(0,D.acc 0),(1,D.int .i64 (IntKind.i64.wrap (ay+1))),(5,D.int .i64 (IntKind.i64.wrap ((bU.length:Int)+1)))],[Ob.eC 1 ((bU.map gQ++([D.int .i64 bA]::bt.map gQ)).set bU.length [D.int .i64 ay]) (some eM)]⟩) hΓ zP (by kernel_rfl) (ow (show(decide (((bU.length:Int):Int)<((bU.map gQ++([D.int .i64 bA]::bt.map gQ)).length:Int)))=true from(Aa _ _ _)) (ow (show(bU.length:Int)=((bU.length:Nat):Int)/\bU.length<(bU.map gQ++([D.int .i64 bA]::bt.map gQ)).length from⟨rfl,by simp only[bV,aS,aa,aL];omega⟩) (ow (show(bU.map gQ++([D.int .i64 bA]::bt.map gQ))[bU.length]?=some [D.int .i64 bA]from by(try simp only[cX]);exact cz _ _ _) B3))) ?_;refine(congrFun bw _).mpr ?_;rw[wz (by simp only[aL]at hm1;omega)];simp only[cX];simp only[bu,bD,bZ,bQ,dA,cL,aS,aL,bG]at t⊢;exact t
theorem FG{aB:bP}{aV:Int}{r:bP×Int}(h:sX aB aV=some r):qe prog 58 [D.acc 0,D.int .i64 aV] [(1,aB.map gQ)] [(1,r.1.map gQ)] (D.int .i64 r.2):=by
 refine qe.of (c:=jL f58) func58 rfl (by decide) (by simp[f58]) rfl rfl ?_;intro hr Γ hΓ vs hvs
 match vs,hvs with
 | [eM],_=>
 have hΓ:Γ.nt=19:=hΓ;rw[sX]at h;refine(show AW prog Γ (jL f58) (KQ prog Γ (fun _ _=>False) (sE prog f58 [eM] [(1,r.1.map gQ)] (D.int .i64 r.2)) []) _ from ?_);refine eU (n:=2000) 1 [.cn [0,1,5] [0]] (.lp (lc f58 [1,0,1,0,0]) (xB f58 [1,0,1,0]) ⟨[(0,D.acc 0),(1,D.int .i64 aV),(5,D.int .i64 0)],[Ob.eC 1 (aB.map gQ) (some eM)]⟩) hΓ zP (by kernel_rfl) B3 (uF (by rfl) (vf (HE hΓ (fun bN cM h=>?_) aB [] aV (by have:=hr _ (aC (i:=0) rfl);simpa using this) h)));have h:=aE h;subst h;exact eU (n:=2000) 1 [] (.ret (D.ij [D.int .i64 cM,D.agg [D.fr 0 1 (bN.map gQ),D.val eM]])) hΓ zP (by kernel_rfl) B3 rfl
def gX(k1:aX->Int->Option (aX×Int)):aX->aX->Int->Option (aX×Int)
 | [],bU,ay=>(k1 bU ay)
 |bA::bt,bU,ay=>((bz ay).bind fun y1=>((gD bA.args (IntKind.i64.wrap (ay+1))).bind fun y3=>(gX k1 bt (bU++[(⟨y1,y3.1⟩:aG)]) y3.2)))
def jt(aB:aX)(aV:Int):Option (aX×Int):=(gX (fun(bN:aX) (cM:Int)=>(some (bN,cM))) aB [] aV)
theorem FF{Γ:tY}(hΓ:Γ.nt=28){N:Nat->St->Prop}{eM:Value}{r:aX×Int}{k1:aX->Int->Option (aX×Int)}(cq:∀(bN:aX) (cM:Int),k1 bN cM=some r->AW prog Γ (lc f20 [1,1]) (KQ prog Γ N (sE prog f20 [eM] [(2,r.1.map aG.c)] (D.int .i64 r.2)) (xB f20 [1,1])) ⟨[(1,D.int .i64 cM)],[Ob.eC 2 (bN.map aG.c) (some eM)]⟩):∀(rest:aX) (bU:aX) (ay:Int),bU.length+rest.length<=maxLen->gX k1 rest bU ay=some r->Ms prog Γ (lc f20 [1,0,1,0,0]) (KQ prog Γ N (sE prog f20 [eM] [(2,r.1.map aG.c)] (D.int .i64 r.2)) (xB f20 [1,0,1,0])) (rest.length+1) ⟨[(0,D.acc 0),(1,D.int .i64 ay),(5,D.int .i64 (bU.length:Int))],[Ob.eC 2 (bU.map aG.c++rest.map aG.c) (some eM)]⟩:=by
 intro rest
 induction rest with
 |nil=>
  intro bU ay hm1 h;rw[gX]at h;refine aP fun N1 cB bw=>?_
  have t:=Mr (N:=N) (N':=N1) (K0:=(xB f20 [1,0,1,0])) (by kernel_rfl) cB (cq bU ay h);refine eU (n:=2000) 1 [bF,.hl 0 [1] [0]] (.at_ (lc f20 [1,1]) (xB f20 [1,1]) ⟨[(1,D.int .i64 ay)],[Ob.eC 2 (bU.map aG.c++([]:aX).map aG.c) (some eM)]⟩) hΓ zP (by kernel_rfl) (ow (show(decide (((bU.length:Int):Int)<((bU.map aG.c++([]:aX).map aG.c).length:Int)))=false from(AX _)) B3) ?_;refine uF (s:=⟨[(1,D.int .i64 ay)],[Ob.eC 2 (bU.map aG.c++([]:aX).map aG.c) (some eM)]⟩) ?_ t;simp only[bZ,cO]
 |cons bA bt ih1=>
  intro bU ay hm1 h;rw[gX]at h;refine aP fun N1 cB bw=>?_
  obtain⟨y1,h2,h⟩:=aD h;obtain⟨y3,h4,h⟩:=aD h;have t:=ih1 (bU++[(⟨y1,y3.1⟩:aG)]) y3.2 (by simp only[aS,aL,bG]at hm1⊢;omega) h;let P9:List aQ:=(bU.map aG.c++([D.str bA.rel,D.sl (bA.args.map tx)]::bt.map aG.c))
  let PA:List aQ:=(P9.set bU.length [D.str y1,D.sl (bA.args.map tx)])
  refine eU (n:=2000) 1 [bT,.d (D.str y1),.ix (bU.length),.row [D.str bA.rel,D.sl (bA.args.map tx)],.ix (bU.length),.row [D.str y1,D.sl (bA.args.map tx)],.gv [1] [(1,y3.1.map tx)] (D.int .i64 y3.2),.mg 0 bU.length 1 [D.str y1,D.any],.cn [0,1,5] [0]] (.cont 0 ⟨[(0,D.acc 0),(1,D.int .i64 y3.2),(5,D.int .i64 (IntKind.i64.wrap ((bU.length:Int)+1)))],[Ob.eC 2 ((PA.set bU.length [D.str y1,D.any]).set bU.length [D.str y1,D.sl (y3.1.map tx)]) (some eM)]⟩) hΓ zP (by kernel_rfl) (ow (show(decide (((bU.length:Int):Int)<(P9.length:Int)))=true from(Aa _ _ _)) (ow (cH h2) (ow (show(bU.length:Int)=((bU.length:Nat):Int)/\bU.length<P9.length from⟨rfl,by simp only[PA,P9,bV,aS,aa,aL];omega⟩) (ow (show P9[bU.length]?=some [D.str bA.rel,D.sl (bA.args.map tx)]from by(try simp only[PA,P9,cX]);exact cz _ _ _) (ow (show(bU.length:Int)=((bU.length:Nat):Int)/\bU.length<PA.length from⟨rfl,by simp only[PA,P9,bV,aS,aa,aL];omega⟩) (ow (show PA[bU.length]?=some [D.str y1,D.sl (bA.args.map tx)]from by(try simp only[PA,P9,cX]);exact cz _ _ _) (ow (show∀q∈(bA.args.map tx),q.length=1 from by simp) (ow (ju h4) (ow (show(PA.set bU.length [D.str y1,D.any])[bU.length]?=some [D.str y1,D.any]from by(try simp only[PA,P9,cX]);exact cz _ _ _) (ow (show(bU.length*2+1)=bU.length*2+1 from rfl) B3)))))))))) ?_;refine(congrFun bw _).mpr ?_;rw[wz (by simp only[aL]at hm1;omega)];simp only[PA,P9,cX];simp only[bu,bD,bZ,bQ,dA,cL,aS,aL,bG]at t⊢;exact t
theorem pK{aB:aX}{aV:Int}{r:aX×Int}(h:jt aB aV=some r):qe prog 20 [D.acc 0,D.int .i64 aV] [(2,aB.map aG.c)] [(2,r.1.map aG.c)] (D.int .i64 r.2):=by
 refine qe.of (c:=jL f20) func20 rfl (by decide) (by simp[f20]) rfl rfl ?_;intro hr Γ hΓ vs hvs
 match vs,hvs with
 | [eM],_=>
 have hΓ:Γ.nt=28:=hΓ;rw[jt]at h;refine(show AW prog Γ (jL f20) (KQ prog Γ (fun _ _=>False) (sE prog f20 [eM] [(2,r.1.map aG.c)] (D.int .i64 r.2)) []) _ from ?_);refine eU (n:=2000) 1 [.cn [0,1,5] [0]] (.lp (lc f20 [1,0,1,0,0]) (xB f20 [1,0,1,0]) ⟨[(0,D.acc 0),(1,D.int .i64 aV),(5,D.int .i64 0)],[Ob.eC 2 (aB.map aG.c) (some eM)]⟩) hΓ zP (by kernel_rfl) B3 (uF (by rfl) (vf (FF hΓ (fun bN cM h=>?_) aB [] aV (by have:=hr _ (aC (i:=0) rfl);simpa using this) h)));have h:=aE h;subst h;exact eU (n:=2000) 1 [] (.ret (D.ij [D.int .i64 cM,D.agg [D.fr 0 2 (bN.map aG.c),D.val eM]])) hΓ zP (by kernel_rfl) B3 rfl
def fo(k1:bK->Int->Option (bK×Int)):bK->bK->Int->Option (bK×Int)
 | [],bU,ay=>(k1 bU ay)
 |bA::bt,bU,ay=>((bz ay).bind fun y1=>((gD bA.shape.args (IntKind.i64.wrap (ay+1))).bind fun y3=>((jt bA.facts y3.2).bind fun y5=>(fo k1 bt (bU++[(⟨(⟨y1,y3.1⟩:aG),y5.1⟩:aW)]) y5.2))))
def qA(aB:bK)(aV:Int):Option (bK×Int):=(fo (fun(bN:bK) (cM:Int)=>(some (bN,cM))) aB [] aV)
theorem E2{Γ:tY}(hΓ:Γ.nt=37){N:Nat->St->Prop}{eM:Value}{r:bK×Int}{k1:bK->Int->Option (bK×Int)}(cq:∀(bN:bK) (cM:Int),k1 bN cM=some r->AW prog Γ (lc f59 [1,1]) (KQ prog Γ N (sE prog f59 [eM] [(3,r.1.map aW.c)] (D.int .i64 r.2)) (xB f59 [1,1])) ⟨[(1,D.int .i64 cM)],[Ob.eC 3 (bN.map aW.c) (some eM)]⟩):∀(rest:bK) (bU:bK) (ay:Int),bU.length+rest.length<=maxLen->fo k1 rest bU ay=some r->Ms prog Γ (lc f59 [1,0,1,0,0]) (KQ prog Γ N (sE prog f59 [eM] [(3,r.1.map aW.c)] (D.int .i64 r.2)) (xB f59 [1,0,1,0])) (rest.length+1) ⟨[(0,D.acc 0),(1,D.int .i64 ay),(5,D.int .i64 (bU.length:Int))],[Ob.eC 3 (bU.map aW.c++rest.map aW.c) (some eM)]⟩:=by
 intro rest
 induction rest with
 |nil=>
  intro bU ay hm1 h;rw[fo]at h;refine aP fun N1 cB bw=>?_
  have t:=Mr (N:=N) (N':=N1) (K0:=(xB f59 [1,0,1,0])) (by kernel_rfl) cB (cq bU ay h);refine eU (n:=2000) 1 [bF,.hl 0 [1] [0]] (.at_ (lc f59 [1,1]) (xB f59 [1,1]) ⟨[(1,D.int .i64 ay)],[Ob.eC 3 (bU.map aW.c++([]:bK).map aW.c) (some eM)]⟩) hΓ zP (by kernel_rfl) (ow (show(decide (((bU.length:Int):Int)<((bU.map aW.c++([]:bK).map aW.c).length:Int)))=false from(AX _)) B3) ?_;refine uF (s:=⟨[(1,D.int .i64 ay)],[Ob.eC 3 (bU.map aW.c++([]:bK).map aW.c) (some eM)]⟩) ?_ t;simp only[bZ,cO]
 |cons bA bt ih1=>
  intro bU ay hm1 h;rw[fo]at h;refine aP fun N1 cB bw=>?_
  obtain⟨y1,h2,h⟩:=aD h;obtain⟨y3,h4,h⟩:=aD h;obtain⟨y5,h6,h⟩:=aD h;have t:=ih1 (bU++[(⟨(⟨y1,y3.1⟩:aG),y5.1⟩:aW)]) y5.2 (by simp only[aS,aL,bG]at hm1⊢;omega) h;let Mw:aQ:=[D.str y1,D.any,D.sl (bA.facts.map aG.c)]
  let IS:aQ:=[D.str y1,D.sl (y3.1.map tx),D.sl (bA.facts.map aG.c)]
  let K8:aQ:=[D.str y1,D.sl (bA.shape.args.map tx),D.sl (bA.facts.map aG.c)]
  let Mx:aQ:=[D.str bA.shape.rel,D.sl (bA.shape.args.map tx),D.sl (bA.facts.map aG.c)]
  let IT:List aQ:=(bU.map aW.c++(Mx::bt.map aW.c))
  let K9:List aQ:=((IT.set bU.length K8).set bU.length Mw)
  refine eU (n:=2000) 1 [bT,.d (D.str y1),.ix (bU.length),.row Mx,.ix (bU.length),.row K8,.gv [1] [(1,y3.1.map tx)] (D.int .i64 y3.2),.mg 0 bU.length 1 Mw,.ix (bU.length),.row IS,.gv [2] [(2,y5.1.map aG.c)] (D.int .i64 y5.2),.mg 0 bU.length 2 [D.str y1,D.sl (y3.1.map tx),D.any],.cn [0,1,5] [0]] (.cont 0 ⟨[(0,D.acc 0),(1,D.int .i64 y5.2),(5,D.int .i64 (IntKind.i64.wrap ((bU.length:Int)+1)))],[Ob.eC 3 (((K9.set bU.length IS).set bU.length [D.str y1,D.sl (y3.1.map tx),D.any]).set bU.length [D.str y1,D.sl (y3.1.map tx),D.sl (y5.1.map aG.c)]) (some eM)]⟩) hΓ zP (by kernel_rfl) (ow (show(decide (((bU.length:Int):Int)<(IT.length:Int)))=true from(Aa _ _ _)) (ow (cH h2) (ow (show(bU.length:Int)=((bU.length:Nat):Int)/\bU.length<IT.length from⟨rfl,by simp only[K9,IT,Mx,K8,IS,Mw,bV,aS,aa,aL];omega⟩) (ow (show IT[bU.length]?=some Mx from by(try simp only[K9,IT,Mx,K8,IS,Mw,cX]);exact cz _ _ _) (ow (show(bU.length:Int)=((bU.length:Nat):Int)/\bU.length<(IT.set bU.length K8).length from⟨rfl,by simp only[K9,IT,Mx,K8,IS,Mw,bV,aS,aa,aL];omega⟩) (ow (show(IT.set bU.length K8)[bU.length]?=some K8 from by(try simp only[K9,IT,Mx,K8,IS,Mw,cX]);exact cz _ _ _) (ow (show∀q∈(bA.shape.args.map tx),q.length=1 from by simp) (ow (ju h4) (ow (show K9[bU.length]?=some Mw from by(try simp only[K9,IT,Mx,K8,IS,Mw,cX]);exact cz _ _ _) (ow (show(bU.length*3+1)=bU.length*3+1 from rfl) (ow (show(bU.length:Int)=((bU.length:Nat):Int)/\bU.length<(K9.set bU.length IS).length from⟨rfl,by simp only[K9,IT,Mx,K8,IS,Mw,bV,aS,aa,aL];omega⟩) (ow (show(K9.set bU.length IS)[bU.length]?=some IS from by(try simp only[K9,IT,Mx,K8,IS,Mw,cX]);exact cz _ _ _) (ow (show∀q∈(bA.facts.map aG.c),q.length=2 from by simp) (ow (pK h6) (ow (show((K9.set bU.length IS).set bU.length [D.str y1,D.sl (y3.1.map tx),D.any])[bU.length]?=some [D.str y1,D.sl (y3.1.map tx),D.any]from by(try simp only[K9,IT,Mx,K8,IS,Mw,cX]);exact cz _ _ _) (ow (show(bU.length*3+2)=bU.length*3+2 from rfl) B3)))))))))))))))) ?_;refine(congrFun bw _).mpr ?_;rw[wz (by simp only[aL]at hm1;omega)];simp only[K9,IT,Mx,K8,IS,Mw,cX];simp only[bu,bD,bZ,bQ,dA,cL,aS,aL,bG]at t⊢;exact t
theorem Cy{aB:bK}{aV:Int}{r:bK×Int}(h:qA aB aV=some r):qe prog 59 [D.acc 0,D.int .i64 aV] [(3,aB.map aW.c)] [(3,r.1.map aW.c)] (D.int .i64 r.2):=by
 refine qe.of (c:=jL f59) func59 rfl (by decide) (by simp[f59]) rfl rfl ?_;intro hr Γ hΓ vs hvs
 match vs,hvs with
 | [eM],_=>
 have hΓ:Γ.nt=37:=hΓ;rw[qA]at h;refine(show AW prog Γ (jL f59) (KQ prog Γ (fun _ _=>False) (sE prog f59 [eM] [(3,r.1.map aW.c)] (D.int .i64 r.2)) []) _ from ?_);refine eU (n:=2000) 1 [.cn [0,1,5] [0]] (.lp (lc f59 [1,0,1,0,0]) (xB f59 [1,0,1,0]) ⟨[(0,D.acc 0),(1,D.int .i64 aV),(5,D.int .i64 0)],[Ob.eC 3 (aB.map aW.c) (some eM)]⟩) hΓ zP (by kernel_rfl) B3 (uF (by rfl) (vf (E2 hΓ (fun bN cM h=>?_) aB [] aV (by have:=hr _ (aC (i:=0) rfl);simpa using this) h)));have h:=aE h;subst h;exact eU (n:=2000) 1 [] (.ret (D.ij [D.int .i64 cM,D.agg [D.fr 0 3 (bN.map aW.c),D.val eM]])) hΓ zP (by kernel_rfl) B3 rfl
def gZ(k1:aI->Int->Option (aI×Int)):aI->aI->Int->Option (aI×Int)
 | [],bU,ay=>(k1 bU ay)
 |bA::bt,bU,ay=>((bz ay).bind fun y1=>((bz (IntKind.i64.wrap (ay+1))).bind fun y3=>(gZ k1 bt (bU++[(⟨y1,y3⟩:aK)]) (IntKind.i64.wrap ((IntKind.i64.wrap (ay+1))+1)))))
def oa(aB:aI)(aV:Int):Option (aI×Int):=(gZ (fun(bN:aI) (cM:Int)=>(some (bN,cM))) aB [] aV)
theorem FI{Γ:tY}(hΓ:Γ.nt=29){N:Nat->St->Prop}{eM:Value}{r:aI×Int}{k1:aI->Int->Option (aI×Int)}(cq:∀(bN:aI) (cM:Int),k1 bN cM=some r->AW prog Γ (lc f75 [1,1]) (KQ prog Γ N (sE prog f75 [eM] [(2,r.1.map aK.c)] (D.int .i64 r.2)) (xB f75 [1,1])) ⟨[(1,D.int .i64 cM)],[Ob.eC 2 (bN.map aK.c) (some eM)]⟩):∀(rest:aI) (bU:aI) (ay:Int),bU.length+rest.length<=maxLen->gZ k1 rest bU ay=some r->Ms prog Γ (lc f75 [1,0,1,0,0]) (KQ prog Γ N (sE prog f75 [eM] [(2,r.1.map aK.c)] (D.int .i64 r.2)) (xB f75 [1,0,1,0])) (rest.length+1) ⟨[(0,D.acc 0),(1,D.int .i64 ay),(5,D.int .i64 (bU.length:Int))],[Ob.eC 2 (bU.map aK.c++rest.map aK.c) (some eM)]⟩:=by
 intro rest
 induction rest with
 |nil=>
  intro bU ay hm1 h;rw[gZ]at h;refine aP fun N1 cB bw=>?_
  have t:=Mr (N:=N) (N':=N1) (K0:=(xB f75 [1,0,1,0])) (by kernel_rfl) cB (cq bU ay h);refine eU (n:=2000) 1 [bF,.hl 0 [1] [0]] (.at_ (lc f75 [1,1]) (xB f75 [1,1]) ⟨[(1,D.int .i64 ay)],[Ob.eC 2 (bU.map aK.c++([]:aI).map aK.c) (some eM)]⟩) hΓ zP (by kernel_rfl) (ow (show(decide (((bU.length:Int):Int)<((bU.map aK.c++([]:aI).map aK.c).length:Int)))=false from(AX _)) B3) ?_;refine uF (s:=⟨[(1,D.int .i64 ay)],[Ob.eC 2 (bU.map aK.c++([]:aI).map aK.c) (some eM)]⟩) ?_ t;simp only[bZ,cO]
 |cons bA bt ih1=>
  intro bU ay hm1 h;rw[gZ]at h;refine aP fun N1 cB bw=>?_
  obtain⟨y1,h2,h⟩:=aD h;obtain⟨y3,h4,h⟩:=aD h;have t:=ih1 (bU++[(⟨y1,y3⟩:aK)]) (IntKind.i64.wrap ((IntKind.i64.wrap (ay+1))+1)) (by simp only[aS,aL,bG]at hm1⊢;omega) h;let QE:List aQ:=(bU.map aK.c++([D.str bA.var,D.str bA.value]::bt.map aK.c))
  let Rl:List aQ:=(QE.set bU.length [D.str y1,D.str bA.value])
  refine eU (n:=2000) 1 [bT,.d (D.str y1),.ix (bU.length),.row [D.str bA.var,D.str bA.value],.d (D.str y3),.ix (bU.length),.row [D.str y1,D.str bA.value],.cn [0,1,5] [0]] (.cont 0 ⟨[(0,D.acc 0),(1,D.int .i64 (IntKind.i64.wrap ((IntKind.i64.wrap (ay+1))+1))),(5,D.int .i64 (IntKind.i64.wrap ((bU.length:Int)+1)))],[Ob.eC 2 (Rl.set bU.length [D.str y1,D.str y3]) (some eM)]⟩) hΓ zP (by kernel_rfl) (ow (show(decide (((bU.length:Int):Int)<(QE.length:Int)))=true from(Aa _ _ _)) (ow (cH h2) (ow (show(bU.length:Int)=((bU.length:Nat):Int)/\bU.length<QE.length from⟨rfl,by simp only[Rl,QE,bV,aS,aa,aL];omega⟩) (ow (show QE[bU.length]?=some [D.str bA.var,D.str bA.value]from by(try simp only[Rl,QE,cX]);exact cz _ _ _) (ow (cH h4) (ow (show(bU.length:Int)=((bU.length:Nat):Int)/\bU.length<Rl.length from⟨rfl,by simp only[Rl,QE,bV,aS,aa,aL];omega⟩) (ow (show Rl[bU.length]?=some [D.str y1,D.str bA.value]from by(try simp only[Rl,QE,cX]);exact cz _ _ _) B3))))))) ?_;refine(congrFun bw _).mpr ?_;rw[wz (by simp only[aL]at hm1;omega)];simp only[Rl,QE,cX];simp only[bu,bD,bZ,bQ,dA,cL,aS,aL,bG]at t⊢;exact t
theorem xQ{aB:aI}{aV:Int}{r:aI×Int}(h:oa aB aV=some r):qe prog 75 [D.acc 0,D.int .i64 aV] [(2,aB.map aK.c)] [(2,r.1.map aK.c)] (D.int .i64 r.2):=by
 refine qe.of (c:=jL f75) func75 rfl (by decide) (by simp[f75]) rfl rfl ?_;intro hr Γ hΓ vs hvs
 match vs,hvs with
 | [eM],_=>
 have hΓ:Γ.nt=29:=hΓ;rw[oa]at h;refine(show AW prog Γ (jL f75) (KQ prog Γ (fun _ _=>False) (sE prog f75 [eM] [(2,r.1.map aK.c)] (D.int .i64 r.2)) []) _ from ?_);refine eU (n:=2000) 1 [.cn [0,1,5] [0]] (.lp (lc f75 [1,0,1,0,0]) (xB f75 [1,0,1,0]) ⟨[(0,D.acc 0),(1,D.int .i64 aV),(5,D.int .i64 0)],[Ob.eC 2 (aB.map aK.c) (some eM)]⟩) hΓ zP (by kernel_rfl) B3 (uF (by rfl) (vf (FI hΓ (fun bN cM h=>?_) aB [] aV (by have:=hr _ (aC (i:=0) rfl);simpa using this) h)));have h:=aE h;subst h;exact eU (n:=2000) 1 [] (.ret (D.ij [D.int .i64 cM,D.agg [D.fr 0 2 (bN.map aK.c),D.val eM]])) hΓ zP (by kernel_rfl) B3 rfl
def fq(k1:av->Int->Option (av×Int)):av->av->Int->Option (av×Int)
 | [],bU,ay=>(k1 bU ay)
 |bA::bt,bU,ay=>((jt bA.facts ay).bind fun y1=>((oa bA.bind y1.2).bind fun y3=>(fq k1 bt (bU++[(⟨y1.1,y3.1⟩:aR)]) y3.2)))
def qC(aB:av)(aV:Int):Option (av×Int):=(fq (fun(bN:av) (cM:Int)=>(some (bN,cM))) aB [] aV)
theorem E7{Γ:tY}(hΓ:Γ.nt=27){N:Nat->St->Prop}{eM:Value}{r:av×Int}{k1:av->Int->Option (av×Int)}(cq:∀(bN:av) (cM:Int),k1 bN cM=some r->AW prog Γ (lc f119 [1,1]) (KQ prog Γ N (sE prog f119 [eM] [(2,r.1.map aR.c)] (D.int .i64 r.2)) (xB f119 [1,1])) ⟨[(1,D.int .i64 cM)],[Ob.eC 2 (bN.map aR.c) (some eM)]⟩):∀(rest:av) (bU:av) (ay:Int),bU.length+rest.length<=maxLen->fq k1 rest bU ay=some r->Ms prog Γ (lc f119 [1,0,1,0,0]) (KQ prog Γ N (sE prog f119 [eM] [(2,r.1.map aR.c)] (D.int .i64 r.2)) (xB f119 [1,0,1,0])) (rest.length+1) ⟨[(0,D.acc 0),(1,D.int .i64 ay),(5,D.int .i64 (bU.length:Int))],[Ob.eC 2 (bU.map aR.c++rest.map aR.c) (some eM)]⟩:=by
 intro rest
 induction rest with
 |nil=>
  intro bU ay hm1 h;rw[fq]at h;refine aP fun N1 cB bw=>?_
  have t:=Mr (N:=N) (N':=N1) (K0:=(xB f119 [1,0,1,0])) (by kernel_rfl) cB (cq bU ay h);refine eU (n:=2000) 1 [bF,.hl 0 [1] [0]] (.at_ (lc f119 [1,1]) (xB f119 [1,1]) ⟨[(1,D.int .i64 ay)],[Ob.eC 2 (bU.map aR.c++([]:av).map aR.c) (some eM)]⟩) hΓ zP (by kernel_rfl) (ow (show(decide (((bU.length:Int):Int)<((bU.map aR.c++([]:av).map aR.c).length:Int)))=false from(AX _)) B3) ?_;refine uF (s:=⟨[(1,D.int .i64 ay)],[Ob.eC 2 (bU.map aR.c++([]:av).map aR.c) (some eM)]⟩) ?_ t;simp only[bZ,cO]
 |cons bA bt ih1=>
  intro bU ay hm1 h;rw[fq]at h;refine aP fun N1 cB bw=>?_
  obtain⟨y1,h2,h⟩:=aD h;obtain⟨y3,h4,h⟩:=aD h;have t:=ih1 (bU++[(⟨y1.1,y3.1⟩:aR)]) y3.2 (by simp only[aS,aL,bG]at hm1⊢;omega) h;let Lm:aQ:=[D.sl (y1.1.map aG.c),D.sl (bA.bind.map aK.c)]
  let PC:aQ:=[D.sl (bA.facts.map aG.c),D.sl (bA.bind.map aK.c)]
  let Nb:List aQ:=(bU.map aR.c++(PC::bt.map aR.c))
  let My:List aQ:=(Nb.set bU.length [D.any,D.sl (bA.bind.map aK.c)])
  refine eU (n:=2000) 1 [bT,.ix (bU.length),.row PC,.gv [1] [(2,y1.1.map aG.c)] (D.int .i64 y1.2),.mg 0 bU.length 0 [D.any,D.sl (bA.bind.map aK.c)],.ix (bU.length),.row Lm,.gv [2] [(2,y3.1.map aK.c)] (D.int .i64 y3.2),.mg 0 bU.length 1 [D.sl (y1.1.map aG.c),D.any],.cn [0,1,5] [0]] (.cont 0 ⟨[(0,D.acc 0),(1,D.int .i64 y3.2),(5,D.int .i64 (IntKind.i64.wrap ((bU.length:Int)+1)))],[Ob.eC 2 (((My.set bU.length Lm).set bU.length [D.sl (y1.1.map aG.c),D.any]).set bU.length [D.sl (y1.1.map aG.c),D.sl (y3.1.map aK.c)]) (some eM)]⟩) hΓ zP (by kernel_rfl) (ow (show(decide (((bU.length:Int):Int)<(Nb.length:Int)))=true from(Aa _ _ _)) (ow (show(bU.length:Int)=((bU.length:Nat):Int)/\bU.length<Nb.length from⟨rfl,by simp only[My,Nb,PC,Lm,bV,aS,aa,aL];omega⟩) (ow (show Nb[bU.length]?=some PC from by(try simp only[My,Nb,PC,Lm,cX]);exact cz _ _ _) (ow (show∀q∈(bA.facts.map aG.c),q.length=2 from by simp) (ow (pK h2) (ow (show My[bU.length]?=some [D.any,D.sl (bA.bind.map aK.c)]from by(try simp only[My,Nb,PC,Lm,cX]);exact cz _ _ _) (ow (show(bU.length*2+0)=bU.length*2+0 from rfl) (ow (show(bU.length:Int)=((bU.length:Nat):Int)/\bU.length<(My.set bU.length Lm).length from⟨rfl,by simp only[My,Nb,PC,Lm,bV,aS,aa,aL];omega⟩) (ow (show(My.set bU.length Lm)[bU.length]?=some Lm from by(try simp only[My,Nb,PC,Lm,cX]);exact cz _ _ _) (ow (show∀q∈(bA.bind.map aK.c),q.length=2 from by simp) (ow (xQ h4) (ow (show((My.set bU.length Lm).set bU.length [D.sl (y1.1.map aG.c),D.any])[bU.length]?=some [D.sl (y1.1.map aG.c),D.any]from by(try simp only[My,Nb,PC,Lm,cX]);exact cz _ _ _) (ow (show(bU.length*2+1)=bU.length*2+1 from rfl) B3))))))))))))) ?_;refine(congrFun bw _).mpr ?_;rw[wz (by simp only[aL]at hm1;omega)];simp only[My,Nb,PC,Lm,cX];simp only[bu,bD,bZ,bQ,dA,cL,aS,aL,bG]at t⊢;exact t
theorem D1{aB:av}{aV:Int}{r:av×Int}(h:qC aB aV=some r):qe prog 119 [D.acc 0,D.int .i64 aV] [(2,aB.map aR.c)] [(2,r.1.map aR.c)] (D.int .i64 r.2):=by
 refine qe.of (c:=jL f119) func119 rfl (by decide) (by simp[f119]) rfl rfl ?_;intro hr Γ hΓ vs hvs
 match vs,hvs with
 | [eM],_=>
 have hΓ:Γ.nt=27:=hΓ;rw[qC]at h;refine(show AW prog Γ (jL f119) (KQ prog Γ (fun _ _=>False) (sE prog f119 [eM] [(2,r.1.map aR.c)] (D.int .i64 r.2)) []) _ from ?_);refine eU (n:=2000) 1 [.cn [0,1,5] [0]] (.lp (lc f119 [1,0,1,0,0]) (xB f119 [1,0,1,0]) ⟨[(0,D.acc 0),(1,D.int .i64 aV),(5,D.int .i64 0)],[Ob.eC 2 (aB.map aR.c) (some eM)]⟩) hΓ zP (by kernel_rfl) B3 (uF (by rfl) (vf (E7 hΓ (fun bN cM h=>?_) aB [] aV (by have:=hr _ (aC (i:=0) rfl);simpa using this) h)));have h:=aE h;subst h;exact eU (n:=2000) 1 [] (.ret (D.ij [D.int .i64 cM,D.agg [D.fr 0 2 (bN.map aR.c),D.val eM]])) hΓ zP (by kernel_rfl) B3 rfl
def gY(k1:bE->Int->Option (bE×Int)):bE->bE->Int->Option (bE×Int)
 | [],bU,ay=>(k1 bU ay)
 |bA::bt,bU,ay=>((bz (IntKind.i64.wrap ((IntKind.i64.wrap (ay+1))+1))).bind fun y1=>((gD bA.cond.pat.args (IntKind.i64.wrap ((IntKind.i64.wrap ((IntKind.i64.wrap (ay+1))+1))+1))).bind fun y3=>((bz y3.2).bind fun y5=>((bz (IntKind.i64.wrap (y3.2+1))).bind fun y7=>((qC bA.tokens (IntKind.i64.wrap ((IntKind.i64.wrap ((IntKind.i64.wrap (y3.2+1))+1))+1))).bind fun y9=>(gY k1 bt (bU++[(⟨ay,(⟨IntKind.i64.wrap (ay+1),(⟨y1,y3.1⟩:aG),y5,y7⟩:aM),IntKind.i64.wrap ((IntKind.i64.wrap (y3.2+1))+1),y9.1⟩:Node)]) y9.2))))))
def rK(aB:bE)(aV:Int):Option (bE×Int):=(gY (fun(bN:bE) (cM:Int)=>(some (bN,cM))) aB [] aV)
theorem FH{Γ:tY}(hΓ:Γ.nt=79){N:Nat->St->Prop}{eM:Value}{r:bE×Int}{k1:bE->Int->Option (bE×Int)}(cq:∀(bN:bE) (cM:Int),k1 bN cM=some r->AW prog Γ (lc f60 [1,1]) (KQ prog Γ N (sE prog f60 [eM] [(8,r.1.map Node.c)] (D.int .i64 r.2)) (xB f60 [1,1])) ⟨[(1,D.int .i64 cM)],[Ob.eC 8 (bN.map Node.c) (some eM)]⟩):∀(rest:bE) (bU:bE) (ay:Int),bU.length+rest.length<=maxLen->gY k1 rest bU ay=some r->Ms prog Γ (lc f60 [1,0,1,0,0]) (KQ prog Γ N (sE prog f60 [eM] [(8,r.1.map Node.c)] (D.int .i64 r.2)) (xB f60 [1,0,1,0])) (rest.length+1) ⟨[(0,D.acc 0),(1,D.int .i64 ay),(5,D.int .i64 (bU.length:Int))],[Ob.eC 8 (bU.map Node.c++rest.map Node.c) (some eM)]⟩:=by
 intro rest
 induction rest with
 |nil=>
  intro bU ay hm1 h;rw[gY]at h;refine aP fun N1 cB bw=>?_
  have t:=Mr (N:=N) (N':=N1) (K0:=(xB f60 [1,0,1,0])) (by kernel_rfl) cB (cq bU ay h);refine eU (n:=2000) 1 [bF,.hl 0 [1] [0]] (.at_ (lc f60 [1,1]) (xB f60 [1,1]) ⟨[(1,D.int .i64 ay)],[Ob.eC 8 (bU.map Node.c++([]:bE).map Node.c) (some eM)]⟩) hΓ zP (by kernel_rfl) (ow (show(decide (((bU.length:Int):Int)<((bU.map Node.c++([]:bE).map Node.c).length:Int)))=false from(AX _)) B3) ?_;refine uF (s:=⟨[(1,D.int .i64 ay)],[Ob.eC 8 (bU.map Node.c++([]:bE).map Node.c) (some eM)]⟩) ?_ t;simp only[bZ,cO]
 |cons bA bt ih1=>
  intro bU ay hm1 h;rw[gY]at h;refine aP fun N1 cB bw=>?_
  obtain⟨y1,h2,h⟩:=aD h;obtain⟨y3,h4,h⟩:=aD h;obtain⟨y5,h6,h⟩:=aD h;obtain⟨y7,h8,h⟩:=aD h;obtain⟨y9,h10,h⟩:=aD h;have t:=ih1 (bU++[(⟨ay,(⟨IntKind.i64.wrap (ay+1),(⟨y1,y3.1⟩:aG),y5,y7⟩:aM),IntKind.i64.wrap ((IntKind.i64.wrap (y3.2+1))+1),y9.1⟩:Node)]) y9.2 (by simp only[aS,aL,bG]at hm1⊢;omega) h;let As:aQ:=[D.int .i64 ay,D.int .i64 (IntKind.i64.wrap (ay+1)),D.str y1,D.sl (y3.1.map tx),D.str y5,D.str y7,D.int .i64 bA.gK,D.sl (bA.tokens.map aR.c)]
  let zz:aQ:=[D.int .i64 ay,D.int .i64 (IntKind.i64.wrap (ay+1)),D.str y1,D.any,D.str bA.cond.left,D.str bA.cond.right,D.int .i64 bA.gK,D.sl (bA.tokens.map aR.c)]
  let zT:aQ:=[D.int .i64 ay,D.int .i64 (IntKind.i64.wrap (ay+1)),D.str y1,D.sl (y3.1.map tx),D.str y5,D.str bA.cond.right,D.int .i64 bA.gK,D.sl (bA.tokens.map aR.c)]
  let Au:aQ:=[D.int .i64 ay,D.int .i64 (IntKind.i64.wrap (ay+1)),D.str y1,D.sl (y3.1.map tx),D.str bA.cond.left,D.str bA.cond.right,D.int .i64 bA.gK,D.sl (bA.tokens.map aR.c)]
  let A5:aQ:=[D.int .i64 ay,D.int .i64 (IntKind.i64.wrap (ay+1)),D.str y1,D.sl (y3.1.map tx),D.str y5,D.str y7,D.int .i64 (IntKind.i64.wrap ((IntKind.i64.wrap (y3.2+1))+1)),D.any]
  let Av:aQ:=[D.int .i64 ay,D.int .i64 bA.cond.kind,D.str bA.cond.pat.rel,D.sl (bA.cond.pat.args.map tx),D.str bA.cond.left,D.str bA.cond.right,D.int .i64 bA.gK,D.sl (bA.tokens.map aR.c)]
  let Aw:aQ:=[D.int .i64 ay,D.int .i64 (IntKind.i64.wrap (ay+1)),D.str y1,D.sl (bA.cond.pat.args.map tx),D.str bA.cond.left,D.str bA.cond.right,D.int .i64 bA.gK,D.sl (bA.tokens.map aR.c)]
  let yg:aQ:=[D.int .i64 bA.parent,D.int .i64 bA.cond.kind,D.str bA.cond.pat.rel,D.sl (bA.cond.pat.args.map tx),D.str bA.cond.left,D.str bA.cond.right,D.int .i64 bA.gK,D.sl (bA.tokens.map aR.c)]
  let zU:List aQ:=((bU.map Node.c++(yg::bt.map Node.c)).set bU.length Av)
  let yh:aQ:=[D.int .i64 ay,D.int .i64 (IntKind.i64.wrap (ay+1)),D.str y1,D.sl (y3.1.map tx),D.str y5,D.str y7,D.int .i64 (IntKind.i64.wrap ((IntKind.i64.wrap (y3.2+1))+1)),D.sl (bA.tokens.map aR.c)]
  let zV:aQ:=[D.int .i64 ay,D.int .i64 (IntKind.i64.wrap (ay+1)),D.str bA.cond.pat.rel,D.sl (bA.cond.pat.args.map tx),D.str bA.cond.left,D.str bA.cond.right,D.int .i64 bA.gK,D.sl (bA.tokens.map aR.c)]
  let A6:List aQ:=((zU.set bU.length zV).set bU.length Aw)
  let zW:List aQ:=((A6.set bU.length zz).set bU.length Au)
  let yj:List aQ:=((zW.set bU.length zT).set bU.length As)
  refine eU (n:=2000) 1 [bT,.ix (bU.length),.row yg,.ix (bU.length),.row Av,.d (D.str y1),.ix (bU.length),.row zV,.ix (bU.length),.row Aw,.gv [1] [(1,y3.1.map tx)] (D.int .i64 y3.2),.mg 0 bU.length 3 zz,.d (D.str y5),.ix (bU.length),.row Au,.d (D.str y7),.ix (bU.length),.row zT,.ix (bU.length),.row As,.ix (bU.length),.row yh,.gv [2] [(2,y9.1.map aR.c)] (D.int .i64 y9.2),.mg 0 bU.length 7 A5,.cn [0,1,5] [0]] (.cont 0 ⟨[(0,D.acc 0),(1,D.int .i64 y9.2),(5,D.int .i64 (IntKind.i64.wrap ((bU.length:Int)+1)))],[Ob.eC 8 (((yj.set bU.length yh).set bU.length A5).set bU.length [D.int .i64 ay,D.int .i64 (IntKind.i64.wrap (ay+1)),D.str y1,D.sl (y3.1.map tx),D.str y5,D.str y7,D.int .i64 (IntKind.i64.wrap ((IntKind.i64.wrap (y3.2+1))+1)),D.sl (y9.1.map aR.c)]) (some eM)]⟩) hΓ zP (by kernel_rfl) (ow (show(decide (((bU.length:Int):Int)<((bU.map Node.c++(yg::bt.map Node.c)).length:Int)))=true from(Aa _ _ _)) (ow (show(bU.length:Int)=((bU.length:Nat):Int)/\bU.length<(bU.map Node.c++(yg::bt.map Node.c)).length from⟨rfl,by simp only[yj,zW,A6,zV,yh,zU,yg,Aw,Av,A5,Au,zT,zz,As,bV,aS,aa,aL];omega⟩) (ow (show(bU.map Node.c++(yg::bt.map Node.c))[bU.length]?=some yg from by(try simp only[yj,zW,A6,zV,yh,zU,yg,Aw,Av,A5,Au,zT,zz,As,cX]);exact cz _ _ _) (ow (show(bU.length:Int)=((bU.length:Nat):Int)/\bU.length<zU.length from⟨rfl,by simp only[yj,zW,A6,zV,yh,zU,yg,Aw,Av,A5,Au,zT,zz,As,bV,aS,aa,aL];omega⟩) (ow (show zU[bU.length]?=some Av from by(try simp only[yj,zW,A6,zV,yh,zU,yg,Aw,Av,A5,Au,zT,zz,As,cX]);exact cz _ _ _) (ow (cH h2) (ow (show(bU.length:Int)=((bU.length:Nat):Int)/\bU.length<(zU.set bU.length zV).length from⟨rfl,by simp only[yj,zW,A6,zV,yh,zU,yg,Aw,Av,A5,Au,zT,zz,As,bV,aS,aa,aL];omega⟩) (ow (show(zU.set bU.length zV)[bU.length]?=some zV from by(try simp only[yj,zW,A6,zV,yh,zU,yg,Aw,Av,A5,Au,zT,zz,As,cX]);exact cz _ _ _) (ow (show(bU.length:Int)=((bU.length:Nat):Int)/\bU.length<A6.length from⟨rfl,by simp only[yj,zW,A6,zV,yh,zU,yg,Aw,Av,A5,Au,zT,zz,As,bV,aS,aa,aL];omega⟩) (ow (show A6[bU.length]?=some Aw from by(try simp only[yj,zW,A6,zV,yh,zU,yg,Aw,Av,A5,Au,zT,zz,As,cX]);exact cz _ _ _) (ow (show∀q∈(bA.cond.pat.args.map tx),q.length=1 from by simp) (ow (ju h4) (ow (show(A6.set bU.length zz)[bU.length]?=some zz from by(try simp only[yj,zW,A6,zV,yh,zU,yg,Aw,Av,A5,Au,zT,zz,As,cX]);exact cz _ _ _) (ow (show(bU.length*8+3)=bU.length*8+3 from rfl) (ow (cH h6) (ow (show(bU.length:Int)=((bU.length:Nat):Int)/\bU.length<zW.length from⟨rfl,by simp only[yj,zW,A6,zV,yh,zU,yg,Aw,Av,A5,Au,zT,zz,As,bV,aS,aa,aL];omega⟩) (ow (show zW[bU.length]?=some Au from by(try simp only[yj,zW,A6,zV,yh,zU,yg,Aw,Av,A5,Au,zT,zz,As,cX]);exact cz _ _ _) (ow (cH h8) (ow (show(bU.length:Int)=((bU.length:Nat):Int)/\bU.length<(zW.set bU.length zT).length from⟨rfl,by simp only[yj,zW,A6,zV,yh,zU,yg,Aw,Av,A5,Au,zT,zz,As,bV,aS,aa,aL];omega⟩) (ow (show(zW.set bU.length zT)[bU.length]?=some zT from by(try simp only[yj,zW,A6,zV,yh,zU,yg,Aw,Av,A5,Au,zT,zz,As,cX]);exact cz _ _ _) (ow (show(bU.length:Int)=((bU.length:Nat):Int)/\bU.length<yj.length from⟨rfl,by simp only[yj,zW,A6,zV,yh,zU,yg,Aw,Av,A5,Au,zT,zz,As,bV,aS,aa,aL];omega⟩) (ow (show yj[bU.length]?=some As from by(try simp only[yj,zW,A6,zV,yh,zU,yg,Aw,Av,A5,Au,zT,zz,As,cX]);exact cz _ _ _) (ow (show(bU.length:Int)=((bU.length:Nat):Int)/\bU.length<(yj.set bU.length yh).length from⟨rfl,by simp only[yj,zW,A6,zV,yh,zU,yg,Aw,Av,A5,Au,zT,zz,As,bV,aS,aa,aL];omega⟩) (ow (show(yj.set bU.length yh)[bU.length]?=some yh from by(try simp only[yj,zW,A6,zV,yh,zU,yg,Aw,Av,A5,Au,zT,zz,As,cX]);exact cz _ _ _) (ow (show∀q∈(bA.tokens.map aR.c),q.length=2 from by simp) (ow (D1 h10) (ow (show((yj.set bU.length yh).set bU.length A5)[bU.length]?=some A5 from by(try simp only[yj,zW,A6,zV,yh,zU,yg,Aw,Av,A5,Au,zT,zz,As,cX]);exact cz _ _ _) (ow (show(bU.length*8+7)=bU.length*8+7 from rfl) B3)))))))))))))))))))))))))))) ?_;refine(congrFun bw _).mpr ?_;rw[wz (by simp only[aL]at hm1;omega)];simp only[yj,zW,A6,zV,yh,zU,yg,Aw,Av,A5,Au,zT,zz,As,cX];simp only[bu,bD,bZ,bQ,dA,cL,aS,aL,bG]at t⊢
  exact t
theorem E5{aB:bE}{aV:Int}{r:bE×Int}(h:rK aB aV=some r):qe prog 60 [D.acc 0,D.int .i64 aV] [(8,aB.map Node.c)] [(8,r.1.map Node.c)] (D.int .i64 r.2):=by
 refine qe.of (c:=jL f60) func60 rfl (by decide) (by simp[f60]) rfl rfl ?_;intro hr Γ hΓ vs hvs
 match vs,hvs with
 | [eM],_=>
 have hΓ:Γ.nt=79:=hΓ;rw[rK]at h;refine(show AW prog Γ (jL f60) (KQ prog Γ (fun _ _=>False) (sE prog f60 [eM] [(8,r.1.map Node.c)] (D.int .i64 r.2)) []) _ from ?_);refine eU (n:=2000) 1 [.cn [0,1,5] [0]] (.lp (lc f60 [1,0,1,0,0]) (xB f60 [1,0,1,0]) ⟨[(0,D.acc 0),(1,D.int .i64 aV),(5,D.int .i64 0)],[Ob.eC 8 (aB.map Node.c) (some eM)]⟩) hΓ zP (by kernel_rfl) B3 (uF (by rfl) (vf (FH hΓ (fun bN cM h=>?_) aB [] aV (by have:=hr _ (aC (i:=0) rfl);simpa using this) h)));have h:=aE h;subst h;exact eU (n:=2000) 1 [] (.ret (D.ij [D.int .i64 cM,D.agg [D.fr 0 8 (bN.map Node.c),D.val eM]])) hΓ zP (by kernel_rfl) B3 rfl
def mE(aB:aJ)(aV:Int):Option (aJ×Int):=((rL aB.rules aV).bind fun y1=>((sX aB.ends y1.2).bind fun y3=>((qA aB.bJ y3.2).bind fun y5=>((rK aB.nodes y5.2).bind fun y7=>((jt aB.facts y7.2).bind fun y9=>(some ((⟨y1.1,y3.1,y5.1,y7.1,y9.1,aB.dB⟩:aJ),y9.2)))))))
theorem C3{aB:aJ}{aV:Int}{r:aJ×Int}(h:mE aB aV=some r):qe prog 19 [D.agg [D.acc 0,D.acc 1,D.acc 2,D.acc 3,D.acc 4,D.int .i64 aB.dB],D.int .i64 aV] [(4,aB.rules.map aN.c),(1,aB.ends.map gQ),(3,aB.bJ.map aW.c),(8,aB.nodes.map Node.c),(2,aB.facts.map aG.c)] [(4,r.1.rules.map aN.c),(1,r.1.ends.map gQ),(3,r.1.bJ.map aW.c),(8,r.1.nodes.map Node.c),(2,r.1.facts.map aG.c)] (D.int .i64 r.2):=by
 refine qe.of (c:=jL f19) func19 rfl (by decide) (by simp[f19]) rfl rfl ?_;intro hr Γ hΓ vs hvs
 match vs,hvs with
 | [eM,v1_,v2_,v3_,v4_],_=>
 have hΓ:Γ.nt=26:=hΓ;rw[mE]at h;refine(show AW prog Γ (jL f19) (KQ prog Γ (fun _ _=>False) (sE prog f19 [eM,v1_,v2_,v3_,v4_] [(4,r.1.rules.map aN.c),(1,r.1.ends.map gQ),(3,r.1.bJ.map aW.c),(8,r.1.nodes.map Node.c),(2,r.1.facts.map aG.c)] (D.int .i64 r.2)) []) _ from ?_);obtain⟨y1,h2,h⟩:=aD h;obtain⟨y3,h4,h⟩:=aD h;obtain⟨y5,h6,h⟩:=aD h;obtain⟨y7,h8,h⟩:=aD h;obtain⟨y9,h10,h⟩:=aD h;have h:=aE h;subst h;exact eU (n:=2000) 5 [.gv [0] [(4,y1.1.map aN.c)] (D.int .i64 y1.2),.gv [1] [(1,y3.1.map gQ)] (D.int .i64 y3.2),.gv [2] [(3,y5.1.map aW.c)] (D.int .i64 y5.2),.gv [3] [(8,y7.1.map Node.c)] (D.int .i64 y7.2),.gv [4] [(2,y9.1.map aG.c)] (D.int .i64 y9.2)] (.ret (D.ij [D.int .i64 y9.2,D.agg [D.fr 0 4 (y1.1.map aN.c),D.val eM],D.agg [D.fr 0 1 (y3.1.map gQ),D.val v1_],D.agg [D.fr 0 3 (y5.1.map aW.c),D.val v2_],D.agg [D.fr 0 8 (y7.1.map Node.c),D.val v3_],D.agg [D.fr 0 2 (y9.1.map aG.c),D.val v4_]])) hΓ zP (by kernel_rfl) (ow (E6 h2) (ow (FG h4) (ow (Cy h6) (ow (E5 h8) (ow (pK h10) B3))))) rfl
def fp(k1:bq->Int->Option (bq×Int)):bq->bq->Int->Option (bq×Int)
 | [],bU,ay=>(k1 bU ay)
 |bA::bt,bU,ay=>((bz ay).bind fun y1=>((jt bA.facts (IntKind.i64.wrap (ay+1))).bind fun y3=>((oa bA.bind y3.2).bind fun y5=>(fp k1 bt (bU++[(⟨y1,y3.1,y5.1⟩:az)]) y5.2))))
def qB(aB:bq)(aV:Int):Option (bq×Int):=(fp (fun(bN:bq) (cM:Int)=>(some (bN,cM))) aB [] aV)
theorem E4{Γ:tY}(hΓ:Γ.nt=35){N:Nat->St->Prop}{eM:Value}{r:bq×Int}{k1:bq->Int->Option (bq×Int)}(cq:∀(bN:bq) (cM:Int),k1 bN cM=some r->AW prog Γ (lc f29 [1,1]) (KQ prog Γ N (sE prog f29 [eM] [(3,r.1.map az.c)] (D.int .i64 r.2)) (xB f29 [1,1])) ⟨[(1,D.int .i64 cM)],[Ob.eC 3 (bN.map az.c) (some eM)]⟩):∀(rest:bq) (bU:bq) (ay:Int),bU.length+rest.length<=maxLen->fp k1 rest bU ay=some r->Ms prog Γ (lc f29 [1,0,1,0,0]) (KQ prog Γ N (sE prog f29 [eM] [(3,r.1.map az.c)] (D.int .i64 r.2)) (xB f29 [1,0,1,0])) (rest.length+1) ⟨[(0,D.acc 0),(1,D.int .i64 ay),(5,D.int .i64 (bU.length:Int))],[Ob.eC 3 (bU.map az.c++rest.map az.c) (some eM)]⟩:=by
 intro rest
 induction rest with
 |nil=>
  intro bU ay hm1 h;rw[fp]at h;refine aP fun N1 cB bw=>?_
  have t:=Mr (N:=N) (N':=N1) (K0:=(xB f29 [1,0,1,0])) (by kernel_rfl) cB (cq bU ay h);refine eU (n:=2000) 1 [bF,.hl 0 [1] [0]] (.at_ (lc f29 [1,1]) (xB f29 [1,1]) ⟨[(1,D.int .i64 ay)],[Ob.eC 3 (bU.map az.c++([]:bq).map az.c) (some eM)]⟩) hΓ zP (by kernel_rfl) (ow (show(decide (((bU.length:Int):Int)<((bU.map az.c++([]:bq).map az.c).length:Int)))=false from(AX _)) B3) ?_;refine uF (s:=⟨[(1,D.int .i64 ay)],[Ob.eC 3 (bU.map az.c++([]:bq).map az.c) (some eM)]⟩) ?_ t;simp only[bZ,cO]
 |cons bA bt ih1=>
  intro bU ay hm1 h;rw[fp]at h;refine aP fun N1 cB bw=>?_
  obtain⟨y1,h2,h⟩:=aD h;obtain⟨y3,h4,h⟩:=aD h;obtain⟨y5,h6,h⟩:=aD h;have t:=ih1 (bU++[(⟨y1,y3.1,y5.1⟩:az)]) y5.2 (by simp only[aS,aL,bG]at hm1⊢;omega) h;let IU:aQ:=[D.str y1,D.sl (y3.1.map aG.c),D.sl (bA.bind.map aK.c)]
  let KA:aQ:=[D.str y1,D.sl (bA.facts.map aG.c),D.sl (bA.bind.map aK.c)]
  let Mz:aQ:=[D.str bA.rule,D.sl (bA.facts.map aG.c),D.sl (bA.bind.map aK.c)]
  let IV:List aQ:=(bU.map az.c++(Mz::bt.map az.c))
  let KB:List aQ:=((IV.set bU.length KA).set bU.length [D.str y1,D.any,D.sl (bA.bind.map aK.c)])
  refine eU (n:=2000) 1 [bT,.d (D.str y1),.ix (bU.length),.row Mz,.ix (bU.length),.row KA,.gv [1] [(2,y3.1.map aG.c)] (D.int .i64 y3.2),.mg 0 bU.length 1 [D.str y1,D.any,D.sl (bA.bind.map aK.c)],.ix (bU.length),.row IU,.gv [2] [(2,y5.1.map aK.c)] (D.int .i64 y5.2),.mg 0 bU.length 2 [D.str y1,D.sl (y3.1.map aG.c),D.any],.cn [0,1,5] [0]] (.cont 0 ⟨[(0,D.acc 0),(1,D.int .i64 y5.2),(5,D.int .i64 (IntKind.i64.wrap ((bU.length:Int)+1)))],[Ob.eC 3 (((KB.set bU.length IU).set bU.length [D.str y1,D.sl (y3.1.map aG.c),D.any]).set bU.length [D.str y1,D.sl (y3.1.map aG.c),D.sl (y5.1.map aK.c)]) (some eM)]⟩) hΓ zP (by kernel_rfl) (ow (show(decide (((bU.length:Int):Int)<(IV.length:Int)))=true from(Aa _ _ _)) (ow (cH h2) (ow (show(bU.length:Int)=((bU.length:Nat):Int)/\bU.length<IV.length from⟨rfl,by simp only[KB,IV,Mz,KA,IU,bV,aS,aa,aL];omega⟩) (ow (show IV[bU.length]?=some Mz from by(try simp only[KB,IV,Mz,KA,IU,cX]);exact cz _ _ _) (ow (show(bU.length:Int)=((bU.length:Nat):Int)/\bU.length<(IV.set bU.length KA).length from⟨rfl,by simp only[KB,IV,Mz,KA,IU,bV,aS,aa,aL];omega⟩) (ow (show(IV.set bU.length KA)[bU.length]?=some KA from by(try simp only[KB,IV,Mz,KA,IU,cX]);exact cz _ _ _) (ow (show∀q∈(bA.facts.map aG.c),q.length=2 from by simp) (ow (pK h4) (ow (show KB[bU.length]?=some [D.str y1,D.any,D.sl (bA.bind.map aK.c)]from by(try simp only[KB,IV,Mz,KA,IU,cX]);exact cz _ _ _) (ow (show(bU.length*3+1)=bU.length*3+1 from rfl) (ow (show(bU.length:Int)=((bU.length:Nat):Int)/\bU.length<(KB.set bU.length IU).length from⟨rfl,by simp only[KB,IV,Mz,KA,IU,bV,aS,aa,aL];omega⟩) (ow (show(KB.set bU.length IU)[bU.length]?=some IU from by(try simp only[KB,IV,Mz,KA,IU,cX]);exact cz _ _ _) (ow (show∀q∈(bA.bind.map aK.c),q.length=2 from by simp) (ow (xQ h6) (ow (show((KB.set bU.length IU).set bU.length [D.str y1,D.sl (y3.1.map aG.c),D.any])[bU.length]?=some [D.str y1,D.sl (y3.1.map aG.c),D.any]from by(try simp only[KB,IV,Mz,KA,IU,cX]);exact cz _ _ _) (ow (show(bU.length*3+2)=bU.length*3+2 from rfl) B3)))))))))))))))) ?_;refine(congrFun bw _).mpr ?_;rw[wz (by simp only[aL]at hm1;omega)];simp only[KB,IV,Mz,KA,IU,cX];simp only[bu,bD,bZ,bQ,dA,cL,aS,aL,bG]at t⊢;exact t
theorem Cz{aB:bq}{aV:Int}{r:bq×Int}(h:qB aB aV=some r):qe prog 29 [D.acc 0,D.int .i64 aV] [(3,aB.map az.c)] [(3,r.1.map az.c)] (D.int .i64 r.2):=by
 refine qe.of (c:=jL f29) func29 rfl (by decide) (by simp[f29]) rfl rfl ?_;intro hr Γ hΓ vs hvs
 match vs,hvs with
 | [eM],_=>
 have hΓ:Γ.nt=35:=hΓ;rw[qB]at h;refine(show AW prog Γ (jL f29) (KQ prog Γ (fun _ _=>False) (sE prog f29 [eM] [(3,r.1.map az.c)] (D.int .i64 r.2)) []) _ from ?_);refine eU (n:=2000) 1 [.cn [0,1,5] [0]] (.lp (lc f29 [1,0,1,0,0]) (xB f29 [1,0,1,0]) ⟨[(0,D.acc 0),(1,D.int .i64 aV),(5,D.int .i64 0)],[Ob.eC 3 (aB.map az.c) (some eM)]⟩) hΓ zP (by kernel_rfl) B3 (uF (by rfl) (vf (E4 hΓ (fun bN cM h=>?_) aB [] aV (by have:=hr _ (aC (i:=0) rfl);simpa using this) h)));have h:=aE h;subst h;exact eU (n:=2000) 1 [] (.ret (D.ij [D.int .i64 cM,D.agg [D.fr 0 3 (bN.map az.c),D.val eM]])) hΓ zP (by kernel_rfl) B3 rfl
end Go.Cx
namespace Go.Cx
open Go.RowKit Go.Proofs Tryz
set_option maxRecDepth 100000
variable{Γ:tY}{N:Nat->St->Prop}
def fD(aB:aH)(k1:Int->Option Int):aH->Nat->Int->Option Int
 | [],i1,ay=>(k1 ay)
 |bA::bt,i1,ay=>((bz ay).bind fun WD=>(bif !((bA:Bytes)==WD)then(some (-1))else(fD aB k1 bt (i1+1) (IntKind.i64.wrap (ay+1)))))
def gC(aB:aH)(aV:Int):Option Int:=(fD aB (fun(cM:Int)=>(some cM)) aB 0 aV)
def E1(aB:aH)(ay:Int)(cZ:Int):St:=⟨[(0,D.sl (aB.map tx)),(1,D.int .i64 ay),(5,D.int .i64 cZ)],[]⟩
theorem Cv(hΓ:Γ.nt=22){aB:aH}{r:Int}{k1:Int->Option Int}(cq:∀(cM:Int),k1 cM=some r->Ax Γ N f122 (.q [[none]] (D.int .i64 r)) [1,1] ⟨[(1,D.int .i64 cM)],[]⟩)(hm1:aB.length<=maxLen):∀(rest:aH) (i1:Nat) (ay:Int),aB.drop i1=rest->fD aB k1 rest i1 ay=some r->Ar Γ N f122 (.q [[none]] (D.int .i64 r)) [1,0,1,0] (rest.length+1) (E1 aB ay (i1:Int)):=by
 intro rest
 induction rest with
 |nil=>
  intro i1 ay au h;rw[fD]at h;refine aP fun N1 cB bw=>?_
  exact((aT.ge tx au).a [.hl 0 [1] []]).ex hΓ cB (cq ay h)
 |cons bA bt ih1=>
  intro i1 ay au h;rw[fD]at h;refine aP fun N1 cB bw=>?_
  obtain⟨WD,h22,h⟩:=aD h;have dL:=((((aT.lt tx au).a [.n 6]).l (b9 tx 1 (dc au) rfl)).g (cH h22))
  obtain⟨h23,h⟩|⟨h23,h⟩:=aO h
  ·cases h;exact(dL.b h23).ret hΓ
  ·exact((dL.b h23).a [.cn [0,1,5] []]).ct hΓ bw (iS au hm1) (ih1 (i1+1) (IntKind.i64.wrap (ay+1)) (dn au) h)
theorem C1{aB:aH}{aV:Int}{r:Int}(h:gC aB aV=some r):Good prog 122 [D.sl (aB.map tx),D.int .i64 aV] (D.int .i64 r):=by
 refine gd func122 [[none]] 22 fun hr Γ hΓ=>?_
 rw[gC]at h;refine(aT.a [.cn [0,1,5] []]).lp hΓ (Cv hΓ (fun cM h=>?_) (by have:=(e7.sl (hr _ (aC (i:=0) rfl))).1;simpa using this) aB 0 aV rfl h);have h:=aE h;subst h;exact aT.ret hΓ
def oA(aB:ai)(k1:Int->Option Int):ai->Nat->Int->Option Int
 | [],i1,ay=>(k1 ay)
 |bA::bt,i1,ay=>(bif (bA.kind:Int) != ay then(some (-1))else((bz (IntKind.i64.wrap (ay+1))).bind fun y62=>(bif !((bA.pat.rel:Bytes)==y62)then(some (-1))else((gC bA.pat.args (IntKind.i64.wrap ((IntKind.i64.wrap (ay+1))+1))).bind fun y65=>(bif decide ((y65:Int)<0)then(some (-1))else((bz y65).bind fun y68=>(bif !((bA.left:Bytes)==y68)then(some (-1))else((bz (IntKind.i64.wrap (y65+1))).bind fun y71=>(bif !((bA.right:Bytes)==y71)then(some (-1))else(oA aB k1 bt (i1+1) (IntKind.i64.wrap ((IntKind.i64.wrap (y65+1))+1))))))))))))
def xg(aB:ai)(aV:Int):Option Int:=(oA aB (fun(cM:Int)=>(some cM)) aB 0 aV)
def lS(aB:c8)(k1:Int->Option Int):c8->Nat->Int->Option Int
 | [],i1,ay=>(k1 ay)
 |bA::bt,i1,ay=>(bif (bA.kind:Int) != ay then(some (-1))else((bz (IntKind.i64.wrap (ay+1))).bind fun Ox=>(bif !((bA.pat.rel:Bytes)==Ox)then(some (-1))else((gC bA.pat.args (IntKind.i64.wrap ((IntKind.i64.wrap (ay+1))+1))).bind fun u9=>(bif decide ((u9:Int)<0)then(some (-1))else(lS aB k1 bt (i1+1) u9))))))
def vq(aB:c8)(aV:Int):Option Int:=(lS aB (fun(cM:Int)=>(some cM)) aB 0 aV)
def oC(aB:aq)(k1:Int->Option Int):aq->Nat->Int->Option Int
 | [],i1,ay=>(k1 ay)
 |bA::bt,i1,ay=>((bz ay).bind fun Lf=>(bif !((bA.name:Bytes)==Lf)then(some (-1))else(bif (bA.prio:Int) != (IntKind.i64.wrap (ay+1))then(some (-1))else((xg bA.conds (IntKind.i64.wrap ((IntKind.i64.wrap (ay+1))+1))).bind fun y53=>(bif decide ((y53:Int)<0)then(some (-1))else((vq bA.ck y53).bind fun y56=>(bif decide ((y56:Int)<0)then(some (-1))else(oC aB k1 bt (i1+1) y56))))))))
def xj(aB:aq)(aV:Int):Option Int:=(oC aB (fun(cM:Int)=>(some cM)) aB 0 aV)
def oz(aB:bP)(k1:Int->Option Int):bP->Nat->Int->Option Int
 | [],i1,ay=>(k1 ay)
 |bA::bt,i1,ay=>(bif (bA:Int) != ay then(some (-1))else(oz aB k1 bt (i1+1) (IntKind.i64.wrap (ay+1))))
def yo(aB:bP)(aV:Int):Option Int:=(oz aB (fun(cM:Int)=>(some cM)) aB 0 aV)
def gU(aB:aX)(k1:Int->Option Int):aX->Nat->Int->Option Int
 | [],i1,ay=>(k1 ay)
 |bA::bt,i1,ay=>((bz ay).bind fun Db=>(bif !((bA.rel:Bytes)==Db)then(some (-1))else((gC bA.args (IntKind.i64.wrap (ay+1))).bind fun IP=>(bif decide ((IP:Int)<0)then(some (-1))else(gU aB k1 bt (i1+1) IP)))))
def js(aB:aX)(aV:Int):Option Int:=(gU aB (fun(cM:Int)=>(some cM)) aB 0 aV)
def HC(aB:aX)(ay:Int)(cZ:Int):St:=⟨[(0,D.sl (aB.map aG.c)),(1,D.int .i64 ay),(5,D.int .i64 cZ)],[]⟩
theorem FB(hΓ:Γ.nt=32){aB:aX}{r:Int}{k1:Int->Option Int}(cq:∀(cM:Int),k1 cM=some r->Ax Γ N f67 (.q [[none]] (D.int .i64 r)) [1,1] ⟨[(1,D.int .i64 cM)],[]⟩)(hm1:aB.length<=maxLen):∀(rest:aX) (i1:Nat) (ay:Int),aB.drop i1=rest->gU aB k1 rest i1 ay=some r->Ar Γ N f67 (.q [[none]] (D.int .i64 r)) [1,0,1,0] (rest.length+1) (HC aB ay (i1:Int)):=by
 intro rest
 induction rest with
 |nil=>
  intro i1 ay au h;rw[gU]at h;refine aP fun N1 cB bw=>?_
  exact((aT.ge aG.c au).a [.hl 0 [1] []]).ex hΓ cB (cq ay h)
 |cons bA bt ih1=>
  intro i1 ay au h;rw[gU]at h;refine aP fun N1 cB bw=>?_
  obtain⟨Db,h34,h⟩:=aD h;have lV:=((((aT.lt aG.c au).a [.n 7]).l (b9 aG.c 2 (dc au) rfl)).g (cH h34))
  obtain⟨h35,h⟩|⟨h35,h⟩:=aO h
  ·cases h;exact(lV.b h35).ret hΓ
  ·obtain⟨IP,h37,h⟩:=aD h;have kH:=(((lV.b h35).l (b9 aG.c 2 (dc au) rfl)).g (C1 h37))
   obtain⟨h38,h⟩|⟨h38,h⟩:=aO h
   ·cases h;exact(kH.b h38).ret hΓ
   ·exact((kH.b h38).a [.cn [0,1,5] []]).ct hΓ bw (iS au hm1) (ih1 (i1+1) IP (dn au) h)
theorem Dy{aB:aX}{aV:Int}{r:Int}(h:js aB aV=some r):Good prog 67 [D.sl (aB.map aG.c),D.int .i64 aV] (D.int .i64 r):=by
 refine gd func67 [[none]] 32 fun hr Γ hΓ=>?_
 rw[js]at h;refine(aT.a [.cn [0,1,5] []]).lp hΓ (FB hΓ (fun cM h=>?_) (by have:=(e7.sl (hr _ (aC (i:=0) rfl))).1;simpa using this) aB 0 aV rfl h);have h:=aE h;subst h;exact aT.ret hΓ
def n7(aB:bK)(k1:Int->Option Int):bK->Nat->Int->Option Int
 | [],i1,ay=>(k1 ay)
 |bA::bt,i1,ay=>((bz ay).bind fun ET=>(bif !((bA.shape.rel:Bytes)==ET)then(some (-1))else((gC bA.shape.args (IntKind.i64.wrap (ay+1))).bind fun y48=>(bif decide ((y48:Int)<0)then(some (-1))else((js bA.facts y48).bind fun y51=>(bif decide ((y51:Int)<0)then(some (-1))else(n7 aB k1 bt (i1+1) y51)))))))
def we(aB:bK)(aV:Int):Option Int:=(n7 aB (fun(cM:Int)=>(some cM)) aB 0 aV)
def gV(aB:aI)(k1:Int->Option Int):aI->Nat->Int->Option Int
 | [],i1,ay=>(k1 ay)
 |bA::bt,i1,ay=>((bz ay).bind fun Db=>(bif !((bA.var:Bytes)==Db)then(some (-1))else((bz (IntKind.i64.wrap (ay+1))).bind fun IP=>(bif !((bA.value:Bytes)==IP)then(some (-1))else(gV aB k1 bt (i1+1) (IntKind.i64.wrap ((IntKind.i64.wrap (ay+1))+1)))))))
def oZ(aB:aI)(aV:Int):Option Int:=(gV aB (fun(cM:Int)=>(some cM)) aB 0 aV)
def HD(aB:aI)(ay:Int)(cZ:Int):St:=⟨[(0,D.sl (aB.map aK.c)),(1,D.int .i64 ay),(5,D.int .i64 cZ)],[]⟩
theorem FD(hΓ:Γ.nt=33){aB:aI}{r:Int}{k1:Int->Option Int}(cq:∀(cM:Int),k1 cM=some r->Ax Γ N f76 (.q [[none]] (D.int .i64 r)) [1,1] ⟨[(1,D.int .i64 cM)],[]⟩)(hm1:aB.length<=maxLen):∀(rest:aI) (i1:Nat) (ay:Int),aB.drop i1=rest->gV aB k1 rest i1 ay=some r->Ar Γ N f76 (.q [[none]] (D.int .i64 r)) [1,0,1,0] (rest.length+1) (HD aB ay (i1:Int)):=by
 intro rest
 induction rest with
 |nil=>
  intro i1 ay au h;rw[gV]at h;refine aP fun N1 cB bw=>?_
  exact((aT.ge aK.c au).a [.hl 0 [1] []]).ex hΓ cB (cq ay h)
 |cons bA bt ih1=>
  intro i1 ay au h;rw[gV]at h;refine aP fun N1 cB bw=>?_
  obtain⟨Db,h34,h⟩:=aD h;have lV:=((((aT.lt aK.c au).a [.n 7]).l (b9 aK.c 2 (dc au) rfl)).g (cH h34))
  obtain⟨h35,h⟩|⟨h35,h⟩:=aO h
  ·cases h;exact(lV.b h35).ret hΓ
  ·obtain⟨IP,h37,h⟩:=aD h;have kH:=((((lV.b h35).a [.n 7]).l (b9 aK.c 2 (dc au) rfl)).g (cH h37))
   obtain⟨h38,h⟩|⟨h38,h⟩:=aO h
   ·cases h;exact(kH.b h38).ret hΓ
   ·exact((kH.b h38).a [.cn [0,1,5] []]).ct hΓ bw (iS au hm1) (ih1 (i1+1) (IntKind.i64.wrap ((IntKind.i64.wrap (ay+1))+1)) (dn au) h)
theorem E0{aB:aI}{aV:Int}{r:Int}(h:oZ aB aV=some r):Good prog 76 [D.sl (aB.map aK.c),D.int .i64 aV] (D.int .i64 r):=by
 refine gd func76 [[none]] 33 fun hr Γ hΓ=>?_
 rw[oZ]at h;refine(aT.a [.cn [0,1,5] []]).lp hΓ (FD hΓ (fun cM h=>?_) (by have:=(e7.sl (hr _ (aC (i:=0) rfl))).1;simpa using this) aB 0 aV rfl h);have h:=aE h;subst h;exact aT.ret hΓ
def n8(aB:av)(k1:Int->Option Int):av->Nat->Int->Option Int
 | [],i1,ay=>(k1 ay)
 |bA::bt,i1,ay=>((js bA.facts ay).bind fun Db=>(bif decide ((Db:Int)<0)then(some (-1))else((oZ bA.bind Db).bind fun IP=>(bif decide ((IP:Int)<0)then(some (-1))else(n8 aB k1 bt (i1+1) IP)))))
def wh(aB:av)(aV:Int):Option Int:=(n8 aB (fun(cM:Int)=>(some cM)) aB 0 aV)
def oB(aB:bE)(k1:Int->Option Int):bE->Nat->Int->Option Int
 | [],i1,ay=>(k1 ay)
 |bA::bt,i1,ay=>(bif (bA.parent:Int) != ay then(some (-1))else(bif (bA.cond.kind:Int) != (IntKind.i64.wrap (ay+1))then(some (-1))else((bz (IntKind.i64.wrap ((IntKind.i64.wrap (ay+1))+1))).bind fun y83=>(bif !((bA.cond.pat.rel:Bytes)==y83)then(some (-1))else((gC bA.cond.pat.args (IntKind.i64.wrap ((IntKind.i64.wrap ((IntKind.i64.wrap (ay+1))+1))+1))).bind fun y86=>(bif decide ((y86:Int)<0)then(some (-1))else((bz y86).bind fun y89=>(bif !((bA.cond.left:Bytes)==y89)then(some (-1))else((bz (IntKind.i64.wrap (y86+1))).bind fun y92=>(bif !((bA.cond.right:Bytes)==y92)then(some (-1))else(bif (bA.gK:Int) != (IntKind.i64.wrap ((IntKind.i64.wrap (y86+1))+1))then(some (-1))else((wh bA.tokens (IntKind.i64.wrap ((IntKind.i64.wrap ((IntKind.i64.wrap (y86+1))+1))+1))).bind fun y96=>(bif decide ((y96:Int)<0)then(some (-1))else(oB aB k1 bt (i1+1) y96))))))))))))))
def xh(aB:bE)(aV:Int):Option Int:=(oB aB (fun(cM:Int)=>(some cM)) aB 0 aV)
def vr(aB:aJ)(aV:Int):Option Int:=((xj aB.rules aV).bind fun y1=>(bif decide ((y1:Int)<0)then(some (-1))else((yo aB.ends y1).bind fun y4=>(bif decide ((y4:Int)<0)then(some (-1))else((we aB.bJ y4).bind fun y7=>(bif decide ((y7:Int)<0)then(some (-1))else((xh aB.nodes y7).bind fun IN=>(bif decide ((IN:Int)<0)then(some (-1))else((js aB.facts IN).bind fun u7=>(bif decide ((u7:Int)<0)then(some (-1))else(some u7)))))))))))
def fm(aB:bq)(k1:Int->Option Int):bq->Nat->Int->Option Int
 | [],i1,ay=>(k1 ay)
 |bA::bt,i1,ay=>((bz ay).bind fun ET=>(bif !((bA.rule:Bytes)==ET)then(some (-1))else((js bA.facts (IntKind.i64.wrap (ay+1))).bind fun y48=>(bif decide ((y48:Int)<0)then(some (-1))else((oZ bA.bind y48).bind fun y51=>(bif decide ((y51:Int)<0)then(some (-1))else(fm aB k1 bt (i1+1) y51)))))))
def nR(aB:bq)(aV:Int):Option Int:=(fm aB (fun(cM:Int)=>(some cM)) aB 0 aV)
def FC(aB:bq)(ay:Int)(cZ:Int):St:=⟨[(0,D.sl (aB.map az.c)),(1,D.int .i64 ay),(5,D.int .i64 cZ)],[]⟩
theorem Dz(hΓ:Γ.nt=41){aB:bq}{r:Int}{k1:Int->Option Int}(cq:∀(cM:Int),k1 cM=some r->Ax Γ N f30 (.q [[none]] (D.int .i64 r)) [1,1] ⟨[(1,D.int .i64 cM)],[]⟩)(hm1:aB.length<=maxLen):∀(rest:bq) (i1:Nat) (ay:Int),aB.drop i1=rest->fm aB k1 rest i1 ay=some r->Ar Γ N f30 (.q [[none]] (D.int .i64 r)) [1,0,1,0] (rest.length+1) (FC aB ay (i1:Int)):=by
 intro rest
 induction rest with
 |nil=>
  intro i1 ay au h;rw[fm]at h;refine aP fun N1 cB bw=>?_
  exact((aT.ge az.c au).a [.hl 0 [1] []]).ex hΓ cB (cq ay h)
 |cons bA bt ih1=>
  intro i1 ay au h;rw[fm]at h;refine aP fun N1 cB bw=>?_
  obtain⟨ET,h46,h⟩:=aD h;have kH:=((((aT.lt az.c au).a [.n 7]).l (b9 az.c 3 (dc au) rfl)).g (cH h46))
  obtain⟨h47,h⟩|⟨h47,h⟩:=aO h
  ·cases h;exact(kH.b h47).ret hΓ
  ·obtain⟨y48,h49,h⟩:=aD h;have uB:=(((kH.b h47).l (b9 az.c 3 (dc au) rfl)).g (Dy h49))
   obtain⟨h50,h⟩|⟨h50,h⟩:=aO h
   ·cases h;exact(uB.b h50).ret hΓ
   ·obtain⟨y51,h52,h⟩:=aD h;have x9:=(((uB.b h50).l (b9 az.c 3 (dc au) rfl)).g (E0 h52))
    obtain⟨h53,h⟩|⟨h53,h⟩:=aO h
    ·cases h;exact(x9.b h53).ret hΓ
    ·exact((x9.b h53).a [.cn [0,1,5] []]).ct hΓ bw (iS au hm1) (ih1 (i1+1) y51 (dn au) h)
theorem wg{aB:bq}{aV:Int}{r:Int}(h:nR aB aV=some r):Good prog 30 [D.sl (aB.map az.c),D.int .i64 aV] (D.int .i64 r):=by
 refine gd func30 [[none]] 41 fun hr Γ hΓ=>?_
 rw[nR]at h;refine(aT.a [.cn [0,1,5] []]).lp hΓ (Dz hΓ (fun cM h=>?_) (by have:=(e7.sl (hr _ (aC (i:=0) rfl))).1;simpa using this) aB 0 aV rfl h);have h:=aE h;subst h;exact aT.ret hΓ
end Go.Cx
namespace Go.Cx
open Go.RowKit Go.Proofs Tryz
theorem vn.sub{a b:aQ}(h:vn a)(hs:∀d∈b,d∈a):vn b:=fun d hd=>h d (hs d hd)
def fN{α:Type}(w:α->Nat)(l:List α):Nat:=(l.map w).sum
theorem rj{α:Type}(w:α->Nat)(x:α)(l:List α):fN w (x::l)=w x+fN w l:=by simp[fN]
theorem qc{α:Type}(m w:α->Nat)(l:List α)(h:∀x,m x<=6+6*w x):fN m l<=6*kD w l:=by
 induction l with
 |nil=>simp[fN]
 |cons x l ih=>rw[rj,qK];have:=h x;omega
def zw(_:Int):Nat:=0
theorem a5v(l:bP):(l.map zw).sum=0:=by
 induction l with
 |nil=>rfl
 |cons x l ih=>simp only[bD,List.sum_cons,ih];rfl
def Mt{α:Type}(n:Nat)(mark:Int->Option (α×Int))(held:α->Int->Option Int):Prop:=∀k:Int,1<=k->k+(n:Int)<=4611686018427387904->∃x,mark k=some (x,k+(n:Int))/\held x k=some (k+(n:Int))
theorem X0(K:Bytes->Option Bytes):∀(n f:Nat) (k:Int) (v:Bytes),0<=k->k<10^n->n<f->∃s,ew K f k v=(if v.length+n<=1000 then K s else ew K f k v)/\s.length<=v.length+n:=by
 intro n
 induction n with
 |zero=>
  intro f k v h0 h1 hf;obtain⟨m,rfl⟩:∃m,f=m+1:=⟨f-1,by omega⟩
  have hk:k=0:=by simp at h1;omega
  subst hk;exact⟨v,by split<;>simp[ew],by omega⟩
 |succ n ih=>
  intro f k v h0 h1 hf;obtain⟨m,rfl⟩:∃m,f=m+1:=⟨f-1,by omega⟩
  by_cases hk:k>0
  ·have hd:k/10<10^n:=by
    have:(10:Int)^(n+1)=10^n*10:=Int.pow_succ 10 n;rw[this]at h1;exact Dd (by omega) h1
   obtain⟨s,e1,e2⟩:=ih m (k/10) ([UInt8.ofNat (IntKind.u8.wrap (IntKind.i64.wrap (48+((k:Int)%10)))).toNat]++v) (by omega) hd (by omega);refine⟨s,?_,by simp at e2;omega⟩;split
   ·rename_i hv;rw[bX (by simp;omega)]at e1;have c1:decide (k>0)=true:=by simp[hk]
    have c2:(decide (0<=k)&&decide (0<(10:Int)))=true:=by simp[h0]
    have c3:decide (([UInt8.ofNat (IntKind.u8.wrap (IntKind.i64.wrap (48+((k:Int)%10)))).toNat]:Bytes).length+v.length<=maxLen)=true:=by unfold maxLen;simp;omega
    rw[ew,c1,aU,c2,aU,c3,aU,aU];exact e1
   ·rfl
  ·have hk0:k=0:=by omega
   subst hk0;exact⟨v,by split<;>simp[ew],by omega⟩
theorem jE(k:Int)(h0:1<=k)(h1:k<=4611686018427387904):∃s,bz k=some s:=by
 unfold bz;have c:decide ((k:Int)<=0)=false:=bB (by omega);rw[c,af];obtain⟨s,e1,e2⟩:=X0 (fun(PU:Bytes)=>(bif decide (([109]:Bytes).length+(PU:Bytes).length<=maxLen)then(some (([109])++PU))else none)) 20 fuel k [] (by omega) (by omega) (by decide);rw[bX (by simp)]at e1;have c2:decide (([109]:Bytes).length+s.length<=maxLen)=true:=by unfold maxLen;simp at e2⊢;omega
 rw[e1,c2];exact⟨_,rfl⟩
theorem LU(l:aH)(h:e7 (.sl (l.map tx)))(v:Int)(h0:0<=v)(h1:v<=1048576):vK (oc l v) v (kD tw l):=by
 unfold oc;exact szS h h0 h1 fun v' g0 g1=>szL (w:=tw) (f:=fun x v=>some (IntKind.i64.wrap (v-(x.length:Int)))) (iz l (fun z=>some z)) (fun _ _=>rfl) (fun _ _ _ _=>by simp only[iz,aA]) l (fun x hx v g0 g1=>⟨_,rfl,by rw[a0g ((vn.row h x hx (.str x) (by simp)).str) g0 g1];omega,fun q=>by rw[a0g ((vn.row h x hx (.str x) (by simp)).str) g0 g1]at q⊢;unfold tw;omega⟩) 0 v' g0 g1
theorem LV(l:aH)(h:kD tw l<=1048576):og l=some l:=by
 unfold og;rw[II (by rw[aa];exact cU (gN _ _) h) (by decide)];exact toL (c:=tx) (f:=(fun x=>some x)) (j0 l (fun q=>some q)) (fun _ _=>rfl) (fun _ _ _ _=>by simp only[j0,aA]) (fun x hx=>rfl)
theorem L3(a b:aH):oY a b=some (decide (a=b)):=by
 unfold oY;exact PG (c:=tx) (f:=(fun x y=>some (x==y))) (fun k=>l7 a b k) (fun _ _=>rfl) (fun _ _ _ _=>rfl) (fun x y=>by rw[ar,bf];simp)
theorem x6(l:aH):Mt (fN (fun _=>1) l) (gD l) gC:=by
 have key:∀(rest dn:aH) (v:Int),1<=v->v+(fN (fun _=>1) rest:Int)<=4611686018427387904->∃rest':aH,(∀k,fF k rest dn v=k (dn++rest') (v+(fN (fun _=>1) rest:Int)))/\∀a k i,fD a k rest' i v=k (v+(fN (fun _=>1) rest:Int)):=by
  intro rest
  induction rest with
  |nil=>intro dn v _ _;exact⟨[],fun k=>by simp[fF,fN],fun a k i=>by simp[fD,fN]⟩
  |cons x xs ih=>
   intro dn v h0 h1;rw[rj]at h1⊢;obtain⟨s1,e1⟩:=jE v (by omega) (by omega);obtain⟨rest',p1,p2⟩:=ih (dn++[s1]) (v+1) (by omega) (by omega);refine⟨s1::rest',fun k=>?_,fun a k i=>?_⟩
   ·rw[fF];simp(disch:=omega) only[v8,aA,e1];rw[p1];simp only[bQ,cv]
    congr 1
    omega
   ·rw[fD];simp(disch:=omega) only[v8,aA,cu,bW,af,eZ,e1];rw[p2]
    congr 1
    omega
 intro k h0 h1;obtain⟨l',p1,p2⟩:=key l [] k h0 h1;exact⟨l',by unfold gD;rw[p1];rfl,by unfold gC;rw[p2]⟩
theorem XQ(l:bP)(h:e7 (.sl (l.map gQ)))(v:Int)(h0:0<=v)(h1:v<=1048576):vK (vP l v) v (kD zw l):=by
 unfold vP;exact szS h h0 h1 fun v' g0 g1=>vK.fin.eq (a5v l).symm
theorem XX(l:bP)(h:kD zw l<=1048576):vQ l=some l:=by
 unfold vQ;rw[II (by rw[aa];exact cU (gN _ _) h) (by decide)];exact toL (c:=gQ) (f:=(fun x=>some x)) (mJ l (fun q=>some q)) (fun _ _=>rfl) (fun _ _ _ _=>by simp only[mJ,aA]) (fun x hx=>rfl)
theorem We(a b:bP):vO a b=some (decide (a=b)):=by
 unfold vO;exact PG (c:=gQ) (f:=(fun x y=>some (x==y))) (fun k=>oX a b k) (fun _ _=>rfl) (fun _ _ _ _=>rfl) (fun x y=>by rw[ar,bf];simp)
theorem X5(l:bP):Mt (fN (fun _=>1) l) (sX l) yo:=by
 have key:∀(rest dn:bP) (v:Int),1<=v->v+(fN (fun _=>1) rest:Int)<=4611686018427387904->∃rest':bP,(∀k,iB k rest dn v=k (dn++rest') (v+(fN (fun _=>1) rest:Int)))/\∀a k i,oz a k rest' i v=k (v+(fN (fun _=>1) rest:Int)):=by
  intro rest
  induction rest with
  |nil=>intro dn v _ _;exact⟨[],fun k=>by simp[iB,fN],fun a k i=>by simp[oz,fN]⟩
  |cons x xs ih=>
   intro dn v h0 h1;rw[rj]at h1⊢;obtain⟨rest',p1,p2⟩:=ih (dn++[v]) (v+1) (by omega) (by omega);refine⟨v::rest',fun k=>?_,fun a k i=>?_⟩
   ·rw[iB];simp(disch:=omega) only[v8,aA];rw[p1];simp only[bQ,cv]
    congr 1
    omega
   ·rw[oz];simp(disch:=omega) only[v8,aA,cu,bW,af,eZ];rw[p2]
    congr 1
    omega
 intro k h0 h1;obtain⟨l',p1,p2⟩:=key l [] k h0 h1;exact⟨l',by unfold sX;rw[p1];rfl,by unfold yo;rw[p2]⟩
def aG.wt(x:aG):Nat:=tw x.rel+kD tw x.args
def aG.gf(x:aG):Nat:=1+fN (fun _=>1) x.args
theorem aG.pF(x:aG):x.gf<=6+6*x.wt:=by
 unfold aG.gf aG.wt;have h0:=qc (fun _=>1) tw x.args (fun y=>by omega);omega
theorem XP(x:aG)(h:vn x.c)(v:Int)(h0:0<=v)(h1:v<=1048576):vK (tK x v) v (aG.wt x):=by
 unfold tK;refine vK.eq (n:=(tw x.rel+(kD tw x.args+0))) ?_ (by simp only[aG.wt];omega);refine vK.str (m:=(kD tw x.args+0)) ((h (.str x.rel) (by simp)).str) h0 h1 fun g1 e1=>?_
 rw[e1];have l1:v-(x.rel.length:Int)<=1048576:=by omega
 refine(LU x.args (h (.sl (x.args.map tx)) (by simp)) _ g1 l1).sub l1 g1 (m:=0) fun r2 g2 l2=>?_
 exact vK.fin
theorem XW(x:aG)(h:aG.wt x<=1048576):tO x=some x:=by
 unfold tO;simp only[LV x.args (by simp only[aG.wt]at h;omega),aA]
theorem Wd(a b:aG):tG a b=some (decide (a=b)):=by
 obtain⟨a0,a1⟩:=a;obtain⟨b0,b1⟩:=b;unfold tG;simp only[L3,aA,eS,bne];by_cases h0:a0=b0<;>by_cases h1:a1=b1<;>simp[h0,h1]
theorem Jr(l:aX)(h:e7 (.sl (l.map aG.c)))(v:Int)(h0:0<=v)(h1:v<=1048576):vK (p7 l v) v (kD aG.wt l):=by
 unfold p7;exact szS h h0 h1 fun v' g0 g1=>szL (w:=aG.wt) (f:=tK) (nT l (fun z=>some z)) (fun _ _=>rfl) (fun _ _ _ _=>rfl) l (fun x hx v g0 g1=>XP x (vn.row h x hx) v g0 g1) 0 v' g0 g1
theorem Js(l:aX)(h:kD aG.wt l<=1048576):p8 l=some l:=by
 unfold p8;rw[II (by rw[aa];exact cU (gN _ _) h) (by decide)];exact toL (c:=aG.c) (f:=tO) (nY l (fun q=>some q)) (fun _ _=>rfl) (fun _ _ _ _=>rfl) (fun x hx=>XW x (by have:=gu (w:=aG.wt) hx;omega))
theorem DD(a b:aX):mw a b=some (decide (a=b)):=by
 unfold mw;exact PG (c:=aG.c) (f:=tG) (fun k=>nN a b k) (fun _ _=>rfl) (fun _ _ _ _=>rfl) Wd
theorem DJ(l:aX):Mt (fN aG.gf l) (jt l) js:=by
 have key:∀(rest dn:aX) (v:Int),1<=v->v+(fN aG.gf rest:Int)<=4611686018427387904->∃rest':aX,(∀k,gX k rest dn v=k (dn++rest') (v+(fN aG.gf rest:Int)))/\∀a k i,gU a k rest' i v=k (v+(fN aG.gf rest:Int)):=by
  intro rest
  induction rest with
  |nil=>intro dn v _ _;exact⟨[],fun k=>by simp[gX,fN],fun a k i=>by simp[gU,fN]⟩
  |cons x xs ih=>
   intro dn v h0 h1;rw[rj]at h1⊢;simp only[aG.gf]at h1⊢;obtain⟨s1,e1⟩:=jE v (by omega) (by omega);obtain⟨l2,e2,f2⟩:=x6 x.args (v+1) (by omega) (by omega);obtain⟨rest',p1,p2⟩:=ih (dn++[(⟨s1,l2⟩:aG)]) (v+1+(fN (fun _=>1) x.args:Int)) (by omega) (by omega);refine⟨(⟨s1,l2⟩:aG)::rest',fun k=>?_,fun a k i=>?_⟩
   ·rw[gX];simp(disch:=omega) only[v8,aA,e1,e2];rw[p1];simp only[bQ,cv]
    congr 1
    omega
   ·have g0:decide ((v+1+(fN (fun _=>1) x.args:Int):Int)<0)=false:=bB (by omega);rw[gU];simp(disch:=omega) only[v8,aA,cu,bW,af,eZ,e1,f2,g0];rw[p2]
    congr 1
    omega
 intro k h0 h1;obtain⟨l',p1,p2⟩:=key l [] k h0 h1;exact⟨l',by unfold jt;rw[p1];rfl,by unfold js;rw[p2]⟩
theorem DO(x:aG)(h:vn x.c)(v:Int)(h0:0<=v)(h1:v<=1048576):vK (mG x v) v (aG.wt x):=by
 unfold mG;refine vK.eq (n:=(tw x.rel+(kD tw x.args+0))) ?_ (by simp only[aG.wt];omega);refine vK.str (m:=(kD tw x.args+0)) ((h (.str x.rel) (by simp)).str) h0 h1 fun g1 e1=>?_
 rw[e1];have l1:v-(x.rel.length:Int)<=1048576:=by omega
 refine(LU x.args (h (.sl (x.args.map tx)) (by simp)) _ g1 l1).sub l1 g1 (m:=0) fun r2 g2 l2=>?_
 exact vK.fin
theorem DP(x:aG)(h:aG.wt x<=1048576):mK x=some x:=by
 unfold mK;simp only[LV x.args (by simp only[aG.wt]at h;omega),aA]
theorem DE(a b:aG):mC a b=some (decide (a=b)):=by
 obtain⟨a0,a1⟩:=a;obtain⟨b0,b1⟩:=b;unfold mC;simp only[L3,aA,eS,bne];by_cases h0:a0=b0<;>by_cases h1:a1=b1<;>simp[h0,h1]
def aK.wt(x:aK):Nat:=tw x.var+tw x.value
def aK.gf(x:aK):Nat:=2
theorem aK.pF(x:aK):x.gf<=6+6*x.wt:=by
 unfold aK.gf aK.wt;omega
theorem XS(x:aK)(h:vn x.c)(v:Int)(h0:0<=v)(h1:v<=1048576):vK (tM x v) v (aK.wt x):=by
 unfold tM;refine vK.eq (n:=(tw x.var+(tw x.value+0))) ?_ (by simp only[aK.wt];omega);refine vK.str (m:=(tw x.value+0)) ((h (.str x.var) (by simp)).str) h0 h1 fun g1 e1=>?_
 rw[e1];have l1:v-(x.var.length:Int)<=1048576:=by omega
 refine vK.str (m:=0) ((h (.str x.value) (by simp)).str) g1 l1 fun g2 e2=>?_
 rw[e2];have l2:v-(x.var.length:Int)-(x.value.length:Int)<=1048576:=by omega
 exact vK.fin
theorem XZ(x:aK)(h:aK.wt x<=1048576):tQ x=some x:=by
 unfold tQ;rfl
theorem Wg(a b:aK):tI a b=some (decide (a=b)):=by
 obtain⟨a0,a1⟩:=a;obtain⟨b0,b1⟩:=b;unfold tI;simp only[aA,eS,bne];by_cases h0:a0=b0<;>by_cases h1:a1=b1<;>simp[h0,h1]
theorem Ur(l:aI)(h:e7 (.sl (l.map aK.c)))(v:Int)(h0:0<=v)(h1:v<=1048576):vK (uS l v) v (kD aK.wt l):=by
 unfold uS;exact szS h h0 h1 fun v' g0 g1=>szL (w:=aK.wt) (f:=tM) (nV l (fun z=>some z)) (fun _ _=>rfl) (fun _ _ _ _=>rfl) l (fun x hx v g0 g1=>XS x (vn.row h x hx) v g0 g1) 0 v' g0 g1
theorem V0(l:aI)(h:kD aK.wt l<=1048576):uW l=some l:=by
 unfold uW;rw[II (by rw[aa];exact cU (gN _ _) h) (by decide)];exact toL (c:=aK.c) (f:=tQ) (nc l (fun q=>some q)) (fun _ _=>rfl) (fun _ _ _ _=>rfl) (fun x hx=>XZ x (by have:=gu (w:=aK.wt) hx;omega))
theorem Nq(a b:aI):rH a b=some (decide (a=b)):=by
 unfold rH;exact PG (c:=aK.c) (f:=tI) (fun k=>nP a b k) (fun _ _=>rfl) (fun _ _ _ _=>rfl) Wg
theorem OP(l:aI):Mt (fN aK.gf l) (oa l) oZ:=by
 have key:∀(rest dn:aI) (v:Int),1<=v->v+(fN aK.gf rest:Int)<=4611686018427387904->∃rest':aI,(∀k,gZ k rest dn v=k (dn++rest') (v+(fN aK.gf rest:Int)))/\∀a k i,gV a k rest' i v=k (v+(fN aK.gf rest:Int)):=by
  intro rest
  induction rest with
  |nil=>intro dn v _ _;exact⟨[],fun k=>by simp[gZ,fN],fun a k i=>by simp[gV,fN]⟩
  |cons x xs ih=>
   intro dn v h0 h1;rw[rj]at h1⊢;simp only[aK.gf]at h1⊢;obtain⟨s1,e1⟩:=jE v (by omega) (by omega);obtain⟨s2,e2⟩:=jE (v+1) (by omega) (by omega);obtain⟨rest',p1,p2⟩:=ih (dn++[(⟨s1,s2⟩:aK)]) (v+1+1) (by omega) (by omega);refine⟨(⟨s1,s2⟩:aK)::rest',fun k=>?_,fun a k i=>?_⟩
   ·rw[gZ];simp(disch:=omega) only[v8,aA,e1,e2];rw[p1];simp only[bQ,cv]
    congr 1
    omega
   ·rw[gV];simp(disch:=omega) only[v8,aA,cu,bW,af,eZ,e1,e2];rw[p2]
    congr 1
    omega
 intro k h0 h1;obtain⟨l',p1,p2⟩:=key l [] k h0 h1;exact⟨l',by unfold oa;rw[p1];rfl,by unfold oZ;rw[p2]⟩
def aM.wt(x:aM):Nat:=tw x.pat.rel+kD tw x.pat.args+tw x.left+tw x.right
def aM.gf(x:aM):Nat:=4+fN (fun _=>1) x.pat.args
theorem aM.pF(x:aM):x.gf<=6+6*x.wt:=by
 unfold aM.gf aM.wt;have h0:=qc (fun _=>1) tw x.pat.args (fun y=>by omega);omega
theorem Pu(x:aM)(h:vn x.c)(v:Int)(h0:0<=v)(h1:v<=1048576):vK (qS x v) v (aM.wt x):=by
 unfold qS;refine vK.eq (n:=(aG.wt x.pat+(tw x.left+(tw x.right+0)))) ?_ (by simp only[aM.wt,aG.wt];omega);refine(DO x.pat (vn.sub h (by intro d hd;simp only[bI,ql,Ea]at hd⊢;rcases hd with rfl|rfl<;>simp)) _ h0 h1).sub h1 h0 (m:=(tw x.left+(tw x.right+0))) fun r1 g1 l1=>?_
 refine vK.str (m:=(tw x.right+0)) ((h (.str x.left) (by simp)).str) g1 l1 fun g2 e2=>?_
 rw[e2];have l2:r1-(x.left.length:Int)<=1048576:=by omega
 refine vK.str (m:=0) ((h (.str x.right) (by simp)).str) g2 l2 fun g3 e3=>?_
 rw[e3];have l3:r1-(x.left.length:Int)-(x.right.length:Int)<=1048576:=by omega
 exact vK.fin
theorem Pw(x:aM)(h:aM.wt x<=1048576):qT x=some x:=by
 unfold qT;simp only[DP x.pat (by simp only[aM.wt,aG.wt]at h⊢;omega),aA]
theorem Pe(a b:aM):qR a b=some (decide (a=b)):=by
 obtain⟨a0,a1,a2,a3⟩:=a;obtain⟨b0,b1,b2,b3⟩:=b;unfold qR;simp only[DE,aA,eS,bne];by_cases h0:a0=b0<;>by_cases h1:a1=b1<;>by_cases h2:a2=b2<;>by_cases h3:a3=b3<;>simp[h0,h1,h2,h3]
theorem Up(l:ai)(h:e7 (.sl (l.map aM.c)))(v:Int)(h0:0<=v)(h1:v<=1048576):vK (uQ l v) v (kD aM.wt l):=by
 unfold uQ;exact szS h h0 h1 fun v' g0 g1=>szL (w:=aM.wt) (f:=qS) (nS l (fun z=>some z)) (fun _ _=>rfl) (fun _ _ _ _=>rfl) l (fun x hx v g0 g1=>Pu x (vn.row h x hx) v g0 g1) 0 v' g0 g1
theorem Uy(l:ai)(h:kD aM.wt l<=1048576):uU l=some l:=by
 unfold uU;rw[II (by rw[aa];exact cU (gN _ _) h) (by decide)];exact toL (c:=aM.c) (f:=qT) (nX l (fun q=>some q)) (fun _ _=>rfl) (fun _ _ _ _=>rfl) (fun x hx=>Pw x (by have:=gu (w:=aM.wt) hx;omega))
theorem Tx(a b:ai):uM a b=some (decide (a=b)):=by
 unfold uM;exact PG (c:=aM.c) (f:=qR) (fun k=>nM a b k) (fun _ _=>rfl) (fun _ _ _ _=>rfl) Pe
theorem US(l:ai):Mt (fN aM.gf l) (rJ l) xg:=by
 have key:∀(rest dn:ai) (v:Int),1<=v->v+(fN aM.gf rest:Int)<=4611686018427387904->∃rest':ai,(∀k,gW k rest dn v=k (dn++rest') (v+(fN aM.gf rest:Int)))/\∀a k i,oA a k rest' i v=k (v+(fN aM.gf rest:Int)):=by
  intro rest
  induction rest with
  |nil=>intro dn v _ _;exact⟨[],fun k=>by simp[gW,fN],fun a k i=>by simp[oA,fN]⟩
  |cons x xs ih=>
   intro dn v h0 h1;rw[rj]at h1⊢;simp only[aM.gf]at h1⊢;obtain⟨s2,e2⟩:=jE (v+1) (by omega) (by omega);obtain⟨l3,e3,f3⟩:=x6 x.pat.args (v+1+1) (by omega) (by omega);obtain⟨s4,e4⟩:=jE (v+1+1+(fN (fun _=>1) x.pat.args:Int)) (by omega) (by omega);obtain⟨s5,e5⟩:=jE (v+1+1+(fN (fun _=>1) x.pat.args:Int)+1) (by omega) (by omega);obtain⟨rest',p1,p2⟩:=ih (dn++[(⟨v,(⟨s2,l3⟩:aG),s4,s5⟩:aM)]) (v+1+1+(fN (fun _=>1) x.pat.args:Int)+1+1) (by omega) (by omega);refine⟨(⟨v,(⟨s2,l3⟩:aG),s4,s5⟩:aM)::rest',fun k=>?_,fun a k i=>?_⟩
   ·rw[gW];simp(disch:=omega) only[v8,aA,e2,e3,e4,e5];rw[p1];simp only[bQ,cv]
    congr 1
    omega
   ·have g0:decide ((v+1+1+(fN (fun _=>1) x.pat.args:Int):Int)<0)=false:=bB (by omega);rw[oA];simp(disch:=omega) only[v8,aA,cu,bW,af,eZ,e2,f3,e4,e5,g0];rw[p2]
    congr 1
    omega
 intro k h0 h1;obtain⟨l',p1,p2⟩:=key l [] k h0 h1;exact⟨l',by unfold rJ;rw[p1];rfl,by unfold xg;rw[p2]⟩
def Action.wt(x:Action):Nat:=tw x.pat.rel+kD tw x.pat.args
def Action.gf(x:Action):Nat:=2+fN (fun _=>1) x.pat.args
theorem Action.pF(x:Action):x.gf<=6+6*x.wt:=by
 unfold Action.gf Action.wt;have h0:=qc (fun _=>1) tw x.pat.args (fun y=>by omega);omega
theorem TE(x:Action)(h:vn x.c)(v:Int)(h0:0<=v)(h1:v<=1048576):vK (pV x v) v (Action.wt x):=by
 unfold pV;refine vK.eq (n:=(aG.wt x.pat+0)) ?_ (by simp only[Action.wt,aG.wt];omega);refine(DO x.pat (vn.sub h (by intro d hd;simp only[bI,ql,Ea]at hd⊢;rcases hd with rfl|rfl<;>simp)) _ h0 h1).sub h1 h0 (m:=0) fun r1 g1 l1=>?_
 exact vK.fin
theorem TI(x:Action)(h:Action.wt x<=1048576):pW x=some x:=by
 unfold pW;simp only[DP x.pat (by simp only[Action.wt,aG.wt]at h⊢;omega),aA]
theorem S8(a b:Action):pU a b=some (decide (a=b)):=by
 obtain⟨a0,a1⟩:=a;obtain⟨b0,b1⟩:=b;unfold pU;simp only[DE,aA,eS,bne];by_cases h0:a0=b0<;>by_cases h1:a1=b1<;>simp[h0,h1]
theorem RC(l:c8)(h:e7 (.sl (l.map Action.c)))(v:Int)(h0:0<=v)(h1:v<=1048576):vK (rM l v) v (kD Action.wt l):=by
 unfold rM;exact szS h h0 h1 fun v' g0 g1=>szL (w:=Action.wt) (f:=pV) (l9 l (fun z=>some z)) (fun _ _=>rfl) (fun _ _ _ _=>rfl) l (fun x hx v g0 g1=>TE x (vn.row h x hx) v g0 g1) 0 v' g0 g1
theorem RH(l:c8)(h:kD Action.wt l<=1048576):rQ l=some l:=by
 unfold rQ;rw[II (by rw[aa];exact cU (gN _ _) h) (by decide)];exact toL (c:=Action.c) (f:=pW) (lB l (fun q=>some q)) (fun _ _=>rfl) (fun _ _ _ _=>rfl) (fun x hx=>TI x (by have:=gu (w:=Action.wt) hx;omega))
theorem QO(a b:c8):rD a b=some (decide (a=b)):=by
 unfold rD;exact PG (c:=Action.c) (f:=pU) (fun k=>l6 a b k) (fun _ _=>rfl) (fun _ _ _ _=>rfl) S8
theorem Qn(l:c8):Mt (fN Action.gf l) (p6 l) vq:=by
 have key:∀(rest dn:c8) (v:Int),1<=v->v+(fN Action.gf rest:Int)<=4611686018427387904->∃rest':c8,(∀k,fE k rest dn v=k (dn++rest') (v+(fN Action.gf rest:Int)))/\∀a k i,lS a k rest' i v=k (v+(fN Action.gf rest:Int)):=by
  intro rest
  induction rest with
  |nil=>intro dn v _ _;exact⟨[],fun k=>by simp[fE,fN],fun a k i=>by simp[lS,fN]⟩
  |cons x xs ih=>
   intro dn v h0 h1;rw[rj]at h1⊢;simp only[Action.gf]at h1⊢;obtain⟨s2,e2⟩:=jE (v+1) (by omega) (by omega);obtain⟨l3,e3,f3⟩:=x6 x.pat.args (v+1+1) (by omega) (by omega);obtain⟨rest',p1,p2⟩:=ih (dn++[(⟨v,(⟨s2,l3⟩:aG)⟩:Action)]) (v+1+1+(fN (fun _=>1) x.pat.args:Int)) (by omega) (by omega);refine⟨(⟨v,(⟨s2,l3⟩:aG)⟩:Action)::rest',fun k=>?_,fun a k i=>?_⟩
   ·rw[fE];simp(disch:=omega) only[v8,aA,e2,e3];rw[p1];simp only[bQ,cv]
    congr 1
    omega
   ·have g0:decide ((v+1+1+(fN (fun _=>1) x.pat.args:Int):Int)<0)=false:=bB (by omega);rw[lS];simp(disch:=omega) only[v8,aA,cu,bW,af,eZ,e2,f3,g0];rw[p2]
    congr 1
    omega
 intro k h0 h1;obtain⟨l',p1,p2⟩:=key l [] k h0 h1;exact⟨l',by unfold p6;rw[p1];rfl,by unfold vq;rw[p2]⟩
def aN.wt(x:aN):Nat:=tw x.name+kD aM.wt x.conds+kD Action.wt x.ck
def aN.gf(x:aN):Nat:=2+fN aM.gf x.conds+fN Action.gf x.ck
theorem aN.pF(x:aN):x.gf<=6+6*x.wt:=by
 unfold aN.gf aN.wt;have h0:=qc aM.gf aM.wt x.conds (fun y=>aM.pF y);have h1:=qc Action.gf Action.wt x.ck (fun y=>Action.pF y);omega
theorem XT(x:aN)(h:vn x.c)(v:Int)(h0:0<=v)(h1:v<=1048576):vK (tN x v) v (aN.wt x):=by
 unfold tN;refine vK.eq (n:=(tw x.name+(kD aM.wt x.conds+(kD Action.wt x.ck+0)))) ?_ (by simp only[aN.wt];omega);refine vK.str (m:=(kD aM.wt x.conds+(kD Action.wt x.ck+0))) ((h (.str x.name) (by simp)).str) h0 h1 fun g1 e1=>?_
 rw[e1];have l1:v-(x.name.length:Int)<=1048576:=by omega
 refine(Up x.conds (h (.sl (x.conds.map aM.c)) (by simp)) _ g1 l1).sub l1 g1 (m:=(kD Action.wt x.ck+0)) fun r2 g2 l2=>?_
 refine(RC x.ck (h (.sl (x.ck.map Action.c)) (by simp)) _ g2 l2).sub l2 g2 (m:=0) fun r3 g3 l3=>?_
 exact vK.fin
theorem Xa(x:aN)(h:aN.wt x<=1048576):tR x=some x:=by
 unfold tR;simp only[Uy x.conds (by simp only[aN.wt]at h;omega),RH x.ck (by simp only[aN.wt]at h;omega),aA]
theorem Wh(a b:aN):tJ a b=some (decide (a=b)):=by
 obtain⟨a0,a1,a2,a3⟩:=a;obtain⟨b0,b1,b2,b3⟩:=b;unfold tJ;simp only[QO,Tx,aA,eS,bne];by_cases h0:a0=b0<;>by_cases h1:a1=b1<;>by_cases h2:a2=b2<;>by_cases h3:a3=b3<;>simp[h0,h1,h2,h3]
theorem Us(l:aq)(h:e7 (.sl (l.map aN.c)))(v:Int)(h0:0<=v)(h1:v<=1048576):vK (uT l v) v (kD aN.wt l):=by
 unfold uT;exact szS h h0 h1 fun v' g0 g1=>szL (w:=aN.wt) (f:=tN) (nW l (fun z=>some z)) (fun _ _=>rfl) (fun _ _ _ _=>rfl) l (fun x hx v g0 g1=>XT x (vn.row h x hx) v g0 g1) 0 v' g0 g1
theorem V1(l:aq)(h:kD aN.wt l<=1048576):uX l=some l:=by
 unfold uX;rw[II (by rw[aa];exact cU (gN _ _) h) (by decide)];exact toL (c:=aN.c) (f:=tR) (ng l (fun q=>some q)) (fun _ _=>rfl) (fun _ _ _ _=>rfl) (fun x hx=>Xa x (by have:=gu (w:=aN.wt) hx;omega))
theorem U0(a b:aq):uP a b=some (decide (a=b)):=by
 unfold uP;exact PG (c:=aN.c) (f:=tJ) (fun k=>nQ a b k) (fun _ _=>rfl) (fun _ _ _ _=>rfl) Wh
theorem UU(l:aq):Mt (fN aN.gf l) (rL l) xj:=by
 have key:∀(rest dn:aq) (v:Int),1<=v->v+(fN aN.gf rest:Int)<=4611686018427387904->∃rest':aq,(∀k,ga k rest dn v=k (dn++rest') (v+(fN aN.gf rest:Int)))/\∀a k i,oC a k rest' i v=k (v+(fN aN.gf rest:Int)):=by
  intro rest
  induction rest with
  |nil=>intro dn v _ _;exact⟨[],fun k=>by simp[ga,fN],fun a k i=>by simp[oC,fN]⟩
  |cons x xs ih=>
   intro dn v h0 h1;rw[rj]at h1⊢;simp only[aN.gf]at h1⊢;obtain⟨s1,e1⟩:=jE v (by omega) (by omega);obtain⟨l3,e3,f3⟩:=US x.conds (v+1+1) (by omega) (by omega);obtain⟨l4,e4,f4⟩:=Qn x.ck (v+1+1+(fN aM.gf x.conds:Int)) (by omega) (by omega);obtain⟨rest',p1,p2⟩:=ih (dn++[(⟨s1,(v+1),l3,l4⟩:aN)]) (v+1+1+(fN aM.gf x.conds:Int)+(fN Action.gf x.ck:Int)) (by omega) (by omega);refine⟨(⟨s1,(v+1),l3,l4⟩:aN)::rest',fun k=>?_,fun a k i=>?_⟩
   ·rw[ga];simp(disch:=omega) only[v8,aA,e1,e3,e4];rw[p1];simp only[bQ,cv]
    congr 1
    omega
   ·have g0:decide ((v+1+1+(fN aM.gf x.conds:Int):Int)<0)=false:=bB (by omega);have g1:decide ((v+1+1+(fN aM.gf x.conds:Int)+(fN Action.gf x.ck:Int):Int)<0)=false:=bB (by omega);rw[oC];simp(disch:=omega) only[v8,aA,cu,bW,af,eZ,e1,f3,f4,g0,g1];rw[p2]
    congr 1
    omega
 intro k h0 h1;obtain⟨l',p1,p2⟩:=key l [] k h0 h1;exact⟨l',by unfold rL;rw[p1];rfl,by unfold xj;rw[p2]⟩
def aR.wt(x:aR):Nat:=kD aG.wt x.facts+kD aK.wt x.bind
def aR.gf(x:aR):Nat:=0+fN aG.gf x.facts+fN aK.gf x.bind
theorem aR.pF(x:aR):x.gf<=6+6*x.wt:=by
 unfold aR.gf aR.wt;have h0:=qc aG.gf aG.wt x.facts (fun y=>aG.pF y);have h1:=qc aK.gf aK.wt x.bind (fun y=>aK.pF y);omega
theorem Ut(x:aR)(h:vn x.c)(v:Int)(h0:0<=v)(h1:v<=1048576):vK (rP x v) v (aR.wt x):=by
 unfold rP;refine vK.eq (n:=(kD aG.wt x.facts+(kD aK.wt x.bind+0))) ?_ (by simp only[aR.wt];omega);refine(Jr x.facts (h (.sl (x.facts.map aG.c)) (by simp)) _ h0 h1).sub h1 h0 (m:=(kD aK.wt x.bind+0)) fun r1 g1 l1=>?_
 refine(Ur x.bind (h (.sl (x.bind.map aK.c)) (by simp)) _ g1 l1).sub l1 g1 (m:=0) fun r2 g2 l2=>?_
 exact vK.fin
theorem V2(x:aR)(h:aR.wt x<=1048576):rS x=some x:=by
 unfold rS;simp only[Js x.facts (by simp only[aR.wt]at h;omega),V0 x.bind (by simp only[aR.wt]at h;omega),aA]
theorem U1(a b:aR):rI a b=some (decide (a=b)):=by
 obtain⟨a0,a1⟩:=a;obtain⟨b0,b1⟩:=b;unfold rI;simp only[DD,Nq,aA,eS,bne];by_cases h0:a0=b0<;>by_cases h1:a1=b1<;>simp[h0,h1]
theorem TH(l:av)(h:e7 (.sl (l.map aR.c)))(v:Int)(h0:0<=v)(h1:v<=1048576):vK (sZ l v) v (kD aR.wt l):=by
 unfold sZ;exact szS h h0 h1 fun v' g0 g1=>szL (w:=aR.wt) (f:=rP) (mH l (fun z=>some z)) (fun _ _=>rfl) (fun _ _ _ _=>rfl) l (fun x hx v g0 g1=>Ut x (vn.row h x hx) v g0 g1) 0 v' g0 g1
theorem TL(l:av)(h:kD aR.wt l<=1048576):sj l=some l:=by
 unfold sj;rw[II (by rw[aa];exact cU (gN _ _) h) (by decide)];exact toL (c:=aR.c) (f:=rS) (mL l (fun q=>some q)) (fun _ _=>rfl) (fun _ _ _ _=>rfl) (fun x hx=>V2 x (by have:=gu (w:=aR.wt) hx;omega))
theorem SB(a b:av):sW a b=some (decide (a=b)):=by
 unfold sW;exact PG (c:=aR.c) (f:=rI) (fun k=>mD a b k) (fun _ _=>rfl) (fun _ _ _ _=>rfl) U1
theorem Sj(l:av):Mt (fN aR.gf l) (qC l) wh:=by
 have key:∀(rest dn:av) (v:Int),1<=v->v+(fN aR.gf rest:Int)<=4611686018427387904->∃rest':av,(∀k,fq k rest dn v=k (dn++rest') (v+(fN aR.gf rest:Int)))/\∀a k i,n8 a k rest' i v=k (v+(fN aR.gf rest:Int)):=by
  intro rest
  induction rest with
  |nil=>intro dn v _ _;exact⟨[],fun k=>by simp[fq,fN],fun a k i=>by simp[n8,fN]⟩
  |cons x xs ih=>
   intro dn v h0 h1;rw[rj]at h1⊢;simp only[aR.gf]at h1⊢;obtain⟨l1,e1,f1⟩:=DJ x.facts v (by omega) (by omega);obtain⟨l2,e2,f2⟩:=OP x.bind (v+(fN aG.gf x.facts:Int)) (by omega) (by omega);obtain⟨rest',p1,p2⟩:=ih (dn++[(⟨l1,l2⟩:aR)]) (v+(fN aG.gf x.facts:Int)+(fN aK.gf x.bind:Int)) (by omega) (by omega);refine⟨(⟨l1,l2⟩:aR)::rest',fun k=>?_,fun a k i=>?_⟩
   ·rw[fq];simp(disch:=omega) only[v8,aA,e1,e2];rw[p1];simp only[bQ,cv]
    congr 1
    omega
   ·have g0:decide ((v+(fN aG.gf x.facts:Int):Int)<0)=false:=bB (by omega);have g1:decide ((v+(fN aG.gf x.facts:Int)+(fN aK.gf x.bind:Int):Int)<0)=false:=bB (by omega);rw[n8];simp(disch:=omega) only[v8,aA,cu,bW,af,eZ,f1,f2,g0,g1];rw[p2]
    congr 1
    omega
 intro k h0 h1;obtain⟨l',p1,p2⟩:=key l [] k h0 h1;exact⟨l',by unfold qC;rw[p1];rfl,by unfold wh;rw[p2]⟩
def aW.wt(x:aW):Nat:=tw x.shape.rel+kD tw x.shape.args+kD aG.wt x.facts
def aW.gf(x:aW):Nat:=1+fN (fun _=>1) x.shape.args+fN aG.gf x.facts
theorem aW.pF(x:aW):x.gf<=6+6*x.wt:=by
 unfold aW.gf aW.wt;have h0:=qc (fun _=>1) tw x.shape.args (fun y=>by omega);have h1:=qc aG.gf aG.wt x.facts (fun y=>aG.pF y);omega
theorem Uo(x:aW)(h:vn x.c)(v:Int)(h0:0<=v)(h1:v<=1048576):vK (rN x v) v (aW.wt x):=by
 unfold rN;refine vK.eq (n:=(aG.wt x.shape+(kD aG.wt x.facts+0))) ?_ (by simp only[aW.wt,aG.wt];omega);refine(DO x.shape (vn.sub h (by intro d hd;simp only[bI,ql,Ea]at hd⊢;rcases hd with rfl|rfl<;>simp)) _ h0 h1).sub h1 h0 (m:=(kD aG.wt x.facts+0)) fun r1 g1 l1=>?_
 refine(Jr x.facts (h (.sl (x.facts.map aG.c)) (by simp)) _ g1 l1).sub l1 g1 (m:=0) fun r2 g2 l2=>?_
 exact vK.fin
theorem Ux(x:aW)(h:aW.wt x<=1048576):rR x=some x:=by
 unfold rR;simp only[DP x.shape (by simp only[aW.wt,aG.wt]at h⊢;omega),Js x.facts (by simp only[aW.wt]at h;omega),aA]
theorem Tw(a b:aW):rE a b=some (decide (a=b)):=by
 obtain⟨a0,a1⟩:=a;obtain⟨b0,b1⟩:=b;unfold rE;simp only[DD,DE,aA,eS,bne];by_cases h0:a0=b0<;>by_cases h1:a1=b1<;>simp[h0,h1]
theorem TG(l:bK)(h:e7 (.sl (l.map aW.c)))(v:Int)(h0:0<=v)(h1:v<=1048576):vK (sY l v) v (kD aW.wt l):=by
 unfold sY;exact szS h h0 h1 fun v' g0 g1=>szL (w:=aW.wt) (f:=rN) (mF l (fun z=>some z)) (fun _ _=>rfl) (fun _ _ _ _=>rfl) l (fun x hx v g0 g1=>Uo x (vn.row h x hx) v g0 g1) 0 v' g0 g1
theorem TJ(l:bK)(h:kD aW.wt l<=1048576):si l=some l:=by
 unfold si;rw[II (by rw[aa];exact cU (gN _ _) h) (by decide)];exact toL (c:=aW.c) (f:=rR) (mI l (fun q=>some q)) (fun _ _=>rfl) (fun _ _ _ _=>rfl) (fun x hx=>Ux x (by have:=gu (w:=aW.wt) hx;omega))
theorem S9(a b:bK):sV a b=some (decide (a=b)):=by
 unfold sV;exact PG (c:=aW.c) (f:=rE) (fun k=>lz a b k) (fun _ _=>rfl) (fun _ _ _ _=>rfl) Tw
theorem Sg(l:bK):Mt (fN aW.gf l) (qA l) we:=by
 have key:∀(rest dn:bK) (v:Int),1<=v->v+(fN aW.gf rest:Int)<=4611686018427387904->∃rest':bK,(∀k,fo k rest dn v=k (dn++rest') (v+(fN aW.gf rest:Int)))/\∀a k i,n7 a k rest' i v=k (v+(fN aW.gf rest:Int)):=by
  intro rest
  induction rest with
  |nil=>intro dn v _ _;exact⟨[],fun k=>by simp[fo,fN],fun a k i=>by simp[n7,fN]⟩
  |cons x xs ih=>
   intro dn v h0 h1;rw[rj]at h1⊢;simp only[aW.gf]at h1⊢;obtain⟨s1,e1⟩:=jE v (by omega) (by omega);obtain⟨l2,e2,f2⟩:=x6 x.shape.args (v+1) (by omega) (by omega);obtain⟨l3,e3,f3⟩:=DJ x.facts (v+1+(fN (fun _=>1) x.shape.args:Int)) (by omega) (by omega);obtain⟨rest',p1,p2⟩:=ih (dn++[(⟨(⟨s1,l2⟩:aG),l3⟩:aW)]) (v+1+(fN (fun _=>1) x.shape.args:Int)+(fN aG.gf x.facts:Int)) (by omega) (by omega);refine⟨(⟨(⟨s1,l2⟩:aG),l3⟩:aW)::rest',fun k=>?_,fun a k i=>?_⟩
   ·rw[fo];simp(disch:=omega) only[v8,aA,e1,e2,e3];rw[p1];simp only[bQ,cv]
    congr 1
    omega
   ·have g0:decide ((v+1+(fN (fun _=>1) x.shape.args:Int):Int)<0)=false:=bB (by omega);have g1:decide ((v+1+(fN (fun _=>1) x.shape.args:Int)+(fN aG.gf x.facts:Int):Int)<0)=false:=bB (by omega);rw[n7];simp(disch:=omega) only[v8,aA,cu,bW,af,eZ,e1,f2,f3,g0,g1];rw[p2]
    congr 1
    omega
 intro k h0 h1;obtain⟨l',p1,p2⟩:=key l [] k h0 h1;exact⟨l',by unfold qA;rw[p1];rfl,by unfold we;rw[p2]⟩
def Node.wt(x:Node):Nat:=tw x.cond.pat.rel+kD tw x.cond.pat.args+tw x.cond.left+tw x.cond.right+kD aR.wt x.tokens
def Node.gf(x:Node):Nat:=6+fN (fun _=>1) x.cond.pat.args+fN aR.gf x.tokens
theorem Node.pF(x:Node):x.gf<=6+6*x.wt:=by
 unfold Node.gf Node.wt;have h0:=qc (fun _=>1) tw x.cond.pat.args (fun y=>by omega);have h1:=qc aR.gf aR.wt x.tokens (fun y=>aR.pF y);omega
theorem XR(x:Node)(h:vn x.c)(v:Int)(h0:0<=v)(h1:v<=1048576):vK (tL x v) v (Node.wt x):=by
 unfold tL;refine vK.eq (n:=(aM.wt x.cond+(kD aR.wt x.tokens+0))) ?_ (by simp only[Node.wt,aM.wt];omega);refine(Pu x.cond (vn.sub h (by intro d hd;simp only[bI,ql,Ea]at hd⊢;rcases hd with rfl|rfl|rfl|rfl|rfl<;>simp)) _ h0 h1).sub h1 h0 (m:=(kD aR.wt x.tokens+0)) fun r1 g1 l1=>?_
 refine(TH x.tokens (h (.sl (x.tokens.map aR.c)) (by simp)) _ g1 l1).sub l1 g1 (m:=0) fun r2 g2 l2=>?_
 exact vK.fin
theorem XY(x:Node)(h:Node.wt x<=1048576):tP x=some x:=by
 unfold tP;simp only[Pw x.cond (by simp only[Node.wt,aM.wt]at h⊢;omega),TL x.tokens (by simp only[Node.wt]at h;omega),aA]
theorem Wf(a b:Node):tH a b=some (decide (a=b)):=by
 obtain⟨a0,a1,a2,a3⟩:=a;obtain⟨b0,b1,b2,b3⟩:=b;unfold tH;simp only[Pe,SB,aA,eS,bne];by_cases h0:a0=b0<;>by_cases h1:a1=b1<;>by_cases h2:a2=b2<;>by_cases h3:a3=b3<;>simp[h0,h1,h2,h3]
theorem Uq(l:bE)(h:e7 (.sl (l.map Node.c)))(v:Int)(h0:0<=v)(h1:v<=1048576):vK (uR l v) v (kD Node.wt l):=by
 unfold uR;exact szS h h0 h1 fun v' g0 g1=>szL (w:=Node.wt) (f:=tL) (nU l (fun z=>some z)) (fun _ _=>rfl) (fun _ _ _ _=>rfl) l (fun x hx v g0 g1=>XR x (vn.row h x hx) v g0 g1) 0 v' g0 g1
theorem Uz(l:bE)(h:kD Node.wt l<=1048576):uV l=some l:=by
 unfold uV;rw[II (by rw[aa];exact cU (gN _ _) h) (by decide)];exact toL (c:=Node.c) (f:=tP) (nZ l (fun q=>some q)) (fun _ _=>rfl) (fun _ _ _ _=>rfl) (fun x hx=>XY x (by have:=gu (w:=Node.wt) hx;omega))
theorem Tz(a b:bE):uO a b=some (decide (a=b)):=by
 unfold uO;exact PG (c:=Node.c) (f:=tH) (fun k=>nO a b k) (fun _ _=>rfl) (fun _ _ _ _=>rfl) Wf
theorem UT(l:bE):Mt (fN Node.gf l) (rK l) xh:=by
 have key:∀(rest dn:bE) (v:Int),1<=v->v+(fN Node.gf rest:Int)<=4611686018427387904->∃rest':bE,(∀k,gY k rest dn v=k (dn++rest') (v+(fN Node.gf rest:Int)))/\∀a k i,oB a k rest' i v=k (v+(fN Node.gf rest:Int)):=by
  intro rest
  induction rest with
  |nil=>intro dn v _ _;exact⟨[],fun k=>by simp[gY,fN],fun a k i=>by simp[oB,fN]⟩
  |cons x xs ih=>
   intro dn v h0 h1;rw[rj]at h1⊢;simp only[Node.gf]at h1⊢;obtain⟨s3,e3⟩:=jE (v+1+1) (by omega) (by omega);obtain⟨l4,e4,f4⟩:=x6 x.cond.pat.args (v+1+1+1) (by omega) (by omega);obtain⟨s5,e5⟩:=jE (v+1+1+1+(fN (fun _=>1) x.cond.pat.args:Int)) (by omega) (by omega);obtain⟨s6,e6⟩:=jE (v+1+1+1+(fN (fun _=>1) x.cond.pat.args:Int)+1) (by omega) (by omega);obtain⟨l8,e8,f8⟩:=Sj x.tokens (v+1+1+1+(fN (fun _=>1) x.cond.pat.args:Int)+1+1+1) (by omega) (by omega);obtain⟨rest',p1,p2⟩:=ih (dn++[(⟨v,(⟨(v+1),(⟨s3,l4⟩:aG),s5,s6⟩:aM),(v+1+1+1+(fN (fun _=>1) x.cond.pat.args:Int)+1+1),l8⟩:Node)]) (v+1+1+1+(fN (fun _=>1) x.cond.pat.args:Int)+1+1+1+(fN aR.gf x.tokens:Int)) (by omega) (by omega);refine⟨(⟨v,(⟨(v+1),(⟨s3,l4⟩:aG),s5,s6⟩:aM),(v+1+1+1+(fN (fun _=>1) x.cond.pat.args:Int)+1+1),l8⟩:Node)::rest',fun k=>?_,fun a k i=>?_⟩
   ·rw[gY];simp(disch:=omega) only[v8,aA,e3,e4,e5,e6,e8];rw[p1];simp only[bQ,cv]
    congr 1
    omega
   ·have g0:decide ((v+1+1+1+(fN (fun _=>1) x.cond.pat.args:Int):Int)<0)=false:=bB (by omega);have g1:decide ((v+1+1+1+(fN (fun _=>1) x.cond.pat.args:Int)+1+1+1+(fN aR.gf x.tokens:Int):Int)<0)=false:=bB (by omega);rw[oB];simp(disch:=omega) only[v8,aA,cu,bW,af,eZ,e3,f4,e5,e6,f8,g0,g1];rw[p2]
    congr 1
    omega
 intro k h0 h1;obtain⟨l',p1,p2⟩:=key l [] k h0 h1;exact⟨l',by unfold rK;rw[p1];rfl,by unfold xh;rw[p2]⟩
def aJ.wt(x:aJ):Nat:=kD aN.wt x.rules+kD zw x.ends+kD aW.wt x.bJ+kD Node.wt x.nodes+kD aG.wt x.facts
def aJ.gf(x:aJ):Nat:=1+fN aN.gf x.rules+fN (fun _=>1) x.ends+fN aW.gf x.bJ+fN Node.gf x.nodes+fN aG.gf x.facts
theorem aJ.pF(x:aJ):x.gf<=6+6*x.wt:=by
 unfold aJ.gf aJ.wt;have h0:=qc aN.gf aN.wt x.rules (fun y=>aN.pF y);have h1:=qc (fun _=>1) zw x.ends (fun y=>by omega);have h2:=qc aW.gf aW.wt x.bJ (fun y=>aW.pF y);have h3:=qc Node.gf Node.wt x.nodes (fun y=>Node.pF y);have h4:=qc aG.gf aG.wt x.facts (fun y=>aG.pF y);omega
theorem RD(x:aJ)(h:vn x.c)(v:Int)(h0:0<=v)(h1:v<=1048576):vK (rO x v) v (aJ.wt x):=by
 unfold rO;refine vK.eq (n:=(kD aN.wt x.rules+(kD zw x.ends+(kD aW.wt x.bJ+(kD Node.wt x.nodes+(kD aG.wt x.facts+0)))))) ?_ (by simp only[aJ.wt];omega);refine(Us x.rules (h (.sl (x.rules.map aN.c)) (by simp)) _ h0 h1).sub h1 h0 (m:=(kD zw x.ends+(kD aW.wt x.bJ+(kD Node.wt x.nodes+(kD aG.wt x.facts+0))))) fun r1 g1 l1=>?_
 refine(XQ x.ends (h (.sl (x.ends.map gQ)) (by simp)) _ g1 l1).sub l1 g1 (m:=(kD aW.wt x.bJ+(kD Node.wt x.nodes+(kD aG.wt x.facts+0)))) fun r2 g2 l2=>?_
 refine(TG x.bJ (h (.sl (x.bJ.map aW.c)) (by simp)) _ g2 l2).sub l2 g2 (m:=(kD Node.wt x.nodes+(kD aG.wt x.facts+0))) fun r3 g3 l3=>?_
 refine(Uq x.nodes (h (.sl (x.nodes.map Node.c)) (by simp)) _ g3 l3).sub l3 g3 (m:=(kD aG.wt x.facts+0)) fun r4 g4 l4=>?_
 refine(Jr x.facts (h (.sl (x.facts.map aG.c)) (by simp)) _ g4 l4).sub l4 g4 (m:=0) fun r5 g5 l5=>?_
 exact vK.fin
theorem RI(x:aJ)(h:aJ.wt x<=1048576):jv x=some x:=by
 unfold jv;simp only[V1 x.rules (by simp only[aJ.wt]at h;omega),XX x.ends (by simp only[aJ.wt]at h;omega),TJ x.bJ (by simp only[aJ.wt]at h;omega),Uz x.nodes (by simp only[aJ.wt]at h;omega),Js x.facts (by simp only[aJ.wt]at h;omega),aA]
theorem QR(a b:aJ):rG a b=some (decide (a=b)):=by
 obtain⟨a0,a1,a2,a3,a4,a5⟩:=a;obtain⟨b0,b1,b2,b3,b4,b5⟩:=b;unfold rG;simp only[S9,DD,We,Tz,U0,aA,eS,bne];by_cases h0:a0=b0<;>by_cases h1:a1=b1<;>by_cases h2:a2=b2<;>by_cases h3:a3=b3<;>by_cases h4:a4=b4<;>by_cases h5:a5=b5<;>simp[h0,h1,h2,h3,h4,h5]
def aJ.Sk(x:aJ):Nat:=fN aN.gf x.rules+fN (fun _=>1) x.ends+fN aW.gf x.bJ+fN Node.gf x.nodes+fN aG.gf x.facts
theorem aJ.a26(x:aJ):aJ.Sk x<=6*aJ.wt x:=by
 unfold aJ.Sk aJ.wt;have h0:=qc aN.gf aN.wt x.rules (fun y=>aN.pF y);have h1:=qc (fun _=>1) zw x.ends (fun y=>by omega);have h2:=qc aW.gf aW.wt x.bJ (fun y=>aW.pF y);have h3:=qc Node.gf Node.wt x.nodes (fun y=>Node.pF y);have h4:=qc aG.gf aG.wt x.facts (fun y=>aG.pF y);omega
theorem PO(x:aJ)(k:Int)(h0:1<=k)(h1:k+(aJ.Sk x:Int)<=4611686018427387904):∃y:aJ,mE x k=some (y,k+(aJ.Sk x:Int))/\vr y k=some (k+(aJ.Sk x:Int))/\(⟨y.rules,y.ends,y.bJ,y.nodes,y.facts,x.dB⟩:aJ)=y:=by
 unfold aJ.Sk at h1⊢;obtain⟨l1,e1,f1⟩:=UU x.rules k (by omega) (by omega);obtain⟨l2,e2,f2⟩:=X5 x.ends (k+(fN aN.gf x.rules:Int)) (by omega) (by omega);obtain⟨l3,e3,f3⟩:=Sg x.bJ (k+(fN aN.gf x.rules:Int)+(fN (fun _=>1) x.ends:Int)) (by omega) (by omega);obtain⟨l4,e4,f4⟩:=UT x.nodes (k+(fN aN.gf x.rules:Int)+(fN (fun _=>1) x.ends:Int)+(fN aW.gf x.bJ:Int)) (by omega) (by omega);obtain⟨l5,e5,f5⟩:=DJ x.facts (k+(fN aN.gf x.rules:Int)+(fN (fun _=>1) x.ends:Int)+(fN aW.gf x.bJ:Int)+(fN Node.gf x.nodes:Int)) (by omega) (by omega);refine⟨(⟨l1,l2,l3,l4,l5,x.dB⟩:aJ),?_,?_,rfl⟩
 ·unfold mE;simp only[aA,e1,e2,e3,e4,e5]
  all_goals(congr 2<;>omega)
 ·unfold vr;have g0:decide ((k+(fN aN.gf x.rules:Int):Int)<0)=false:=bB (by omega);have g1:decide ((k+(fN aN.gf x.rules:Int)+(fN (fun _=>1) x.ends:Int):Int)<0)=false:=bB (by omega);have g2:decide ((k+(fN aN.gf x.rules:Int)+(fN (fun _=>1) x.ends:Int)+(fN aW.gf x.bJ:Int):Int)<0)=false:=bB (by omega);have g3:decide ((k+(fN aN.gf x.rules:Int)+(fN (fun _=>1) x.ends:Int)+(fN aW.gf x.bJ:Int)+(fN Node.gf x.nodes:Int):Int)<0)=false:=bB (by omega);have g4:decide ((k+(fN aN.gf x.rules:Int)+(fN (fun _=>1) x.ends:Int)+(fN aW.gf x.bJ:Int)+(fN Node.gf x.nodes:Int)+(fN aG.gf x.facts:Int):Int)<0)=false:=bB (by omega);simp only[aA,af,f1,f2,f3,f4,f5,g0,g1,g2,g3,g4]
  all_goals(congr 1<;>omega)
theorem Qo(x:aJ):Mt (aJ.Sk x) (mE x) vr:=fun k h0 h1=>by
 obtain⟨y,a,b,_⟩:=PO x k h0 h1;exact⟨y,a,b⟩
def az.gf(x:az):Nat:=1+fN aG.gf x.facts+fN aK.gf x.bind
theorem Ty(a b:az):rF a b=some (decide (a=b)):=by
 obtain⟨a0,a1,a2⟩:=a;obtain⟨b0,b1,b2⟩:=b;unfold rF;simp only[DD,Nq,aA,eS,bne];by_cases h0:a0=b0<;>by_cases h1:a1=b1<;>by_cases h2:a2=b2<;>simp[h0,h1,h2]
theorem SA(a b:bq):nv a b=some (decide (a=b)):=by
 unfold nv;exact PG (c:=az.c) (f:=rF) (fun k=>mB a b k) (fun _ _=>rfl) (fun _ _ _ _=>rfl) Ty
theorem Si(l:bq):Mt (fN az.gf l) (qB l) nR:=by
 have key:∀(rest dn:bq) (v:Int),1<=v->v+(fN az.gf rest:Int)<=4611686018427387904->∃rest':bq,(∀k,fp k rest dn v=k (dn++rest') (v+(fN az.gf rest:Int)))/\∀a k i,fm a k rest' i v=k (v+(fN az.gf rest:Int)):=by
  intro rest
  induction rest with
  |nil=>intro dn v _ _;exact⟨[],fun k=>by simp[fp,fN],fun a k i=>by simp[fm,fN]⟩
  |cons x xs ih=>
   intro dn v h0 h1;rw[rj]at h1⊢;simp only[az.gf]at h1⊢;obtain⟨s1,e1⟩:=jE v (by omega) (by omega);obtain⟨l2,e2,f2⟩:=DJ x.facts (v+1) (by omega) (by omega);obtain⟨l3,e3,f3⟩:=OP x.bind (v+1+(fN aG.gf x.facts:Int)) (by omega) (by omega);obtain⟨rest',p1,p2⟩:=ih (dn++[(⟨s1,l2,l3⟩:az)]) (v+1+(fN aG.gf x.facts:Int)+(fN aK.gf x.bind:Int)) (by omega) (by omega);refine⟨(⟨s1,l2,l3⟩:az)::rest',fun k=>?_,fun a k i=>?_⟩
   ·rw[fp];simp(disch:=omega) only[v8,aA,e1,e2,e3];rw[p1];simp only[bQ,cv]
    congr 1
    omega
   ·have g0:decide ((v+1+(fN aG.gf x.facts:Int):Int)<0)=false:=bB (by omega);have g1:decide ((v+1+(fN aG.gf x.facts:Int)+(fN aK.gf x.bind:Int):Int)<0)=false:=bB (by omega);rw[fm];simp(disch:=omega) only[v8,aA,cu,bW,af,eZ,e1,f2,f3,g0,g1];rw[p2]
    congr 1
    omega
 intro k h0 h1;obtain⟨l',p1,p2⟩:=key l [] k h0 h1;exact⟨l',by unfold qB;rw[p1];rfl,by unfold nR;rw[p2]⟩
end Go.Cx
namespace Go.Cx
open Go.RowKit Go.Proofs Go.Shelf Tryz
theorem Rd.um{w:World}{v:Value}{s:Bytes}{bs:aY}(h:Rd w v (.str s) bs):∃y:ByteArray,v=.string y/\y.data.toList=s/\y.size<=maxLen/\bs=[]:=by
 cases h with
 |str y hy=>exact⟨y,rfl,rfl,hy,rfl⟩
theorem lE.strs{w:World}{xs:aH}:∀ {cs:bh} {bs:aY},lE w cs (xs.map D.str) bs->∃ys:List ByteArray,cs=ys.map Value.string/\ys.map (·.data.toList)=xs:=by
 induction xs with
 |nil=>intro cs bs h;cases h;exact⟨[],rfl,rfl⟩
 |cons x xs ih=>
  intro cs bs h;cases h with
  |cons v vs d ds b1 b2 h1 h2 h3=>
   obtain⟨y,e1,e2,_,_⟩:=h2.um;obtain⟨ys,e3,e4⟩:=ih h3;exact⟨y::ys,by simp[e1,e3],by simp[e2,e4]⟩
theorem QS(xs:aH):(xs.map tx).flatten=xs.map D.str:=by
 induction xs with
 |nil=>rfl
 |cons x xs ih=>simp[tx,ih]
theorem Calls.txt{P:Program}{f:FuncId}{args:Array Value}{w:World}{r:ByteArray}{Θ:Nat->Nat}(hr:r.size<=maxLen)
 (h:Calls P f args w fun e w'=>e=.returned (.string r)/\Below w.heap.size w w'):
 Calls P f args w (fun e w'=>∃v bs' ts us,e=.returned v/\Below w.heap.size w w'/\Ch w' v (.str r.data.toList) bs' ts us/\(∀b∈bs',b<w.heap.size->Θ b=0)/\(∀b∈bs',b∉ts)/\us.Nodup/\
  (∀b∈us,w.heap.size<=b/\Wr w' b)/\∀b∈ts,b∈us):=
 h.mono fun e w' ⟨h1,h2⟩=>⟨_,[],[],[],h1,h2,.v (.cell (.pure (.str r hr))),by simp,by simp,by simp,by simp,by simp⟩
end Go.Cx
namespace Go.Cx
open Go.RowKit Go.Proofs Go.Shelf Go.Sort Tryz
theorem lE.a2V{w:World}{xs:aH}:∀ {cs:bh} {bs:aY},lE w cs (xs.map D.str) bs->∀x∈xs,x.length<=maxLen:=by
 induction xs with
 |nil=>intro cs bs h x hx;cases hx
 |cons x xs ih=>
  intro cs bs h y hy;cases h with
  |cons v vs d ds b1 b2 h1 h2 h3=>
   obtain⟨s,_,e2,e3,_⟩:=h2.um;rcases bI.1 hy with rfl|hy
   ·rw[<-e2];exact e3
   ·exact ih h3 y hy
theorem lE.Vk{w:World}:∀ {xs:aH},(∀x∈xs,x.length<=maxLen)->lE w (xs.map encStr) (xs.map D.str) []
 | [],_=>.nil
 |x::xs,h=>by
  have h1:Rd w (.string ⟨x.toArray⟩) (.str x) []:=by
   have:=Rd.str (w:=w) ⟨x.toArray⟩ (by have:=h x (by simp);simpa[ByteArray.size]using this);simpa using this
  exact .cons _ _ _ _ [] [] rfl h1 (lE.Vk fun y hy=>h y (by simp[hy]))
theorem SF(xs:aH):(xs.map tx).flatten.all D.flat=true:=by
 rw[QS];simp[D.flat]
def nj(xs:aH):aH:=xs.mergeSort fun x y=>decide (x<=y)
theorem Ai(xs:aH):(nj xs).Perm xs:=List.mergeSort_perm _ _
theorem OE{P:Program}{ρ:Ren}(L:Lays.n192 P ρ){e:TypeId}{xs:aH}(hn:xs.length<4611686018427387904):Rg P (ρ.f 192) e 1 (xs.map tx) ((nj xs).map tx):=by
 refine⟨⟨_,L.f192,rfl,rfl⟩,?_⟩;intro w v cs hsz hrl hown hrd;rw[QS]at hrd;have hle:=hrd.a2V;obtain⟨ys,rfl,hys⟩:=hrd.strs;have hlen:(nj xs).length=xs.length:=(Ai xs).length_eq;have NC:∀r∈(nj xs).map tx,r.length=1:=by
  intro r hr;obtain⟨x,_,rfl⟩:=cC.1 hr;rfl
 rcases hown.2 with⟨rfl,h0⟩|⟨g,cap,cur,rfl,hb,QV,hnc,hcm,hcs,SR⟩
 ·have hx:xs=[]:=by simpa using h0
  subst hx;refine(Any.sort_Strings_none L none 0 w).mono ?_;rintro e' w' ⟨rfl,rfl⟩;exact⟨rfl,rfl,rfl,rfl,bR _,fun _ _ _=>rfl,NC,[],⟨by simp[hlen],.inl ⟨rfl,by simp[hlen]⟩⟩,by simpa[nj]using lE.nil⟩
 ·rw[aa]at hnc SR⊢;rw[Nat.mul_one]at SR hcs;have hyl:ys.length=xs.length:=by rw[<-hys];simp
  have O1:∀j,j<xs.length->cur[j]?=some (encStr xs.toArray[j]!):=by
   intro j hj;have h1:(cur.toList.take xs.length)[j]?=cur[j]?:=by rw[BK hj];simp
   rw[<-h1,SR,cF];have hj':j<ys.length:=by omega
   rw[ah hj'];have:xs[j]?=some ys[j].data.toList:=by rw[<-hys,cF,ah hj'];rfl
   have hx:xs.toArray[j]! =ys[j].data.toList:=by
    rw[getElem!_pos _ _ (by simpa using hj)];rw[ah hj]at this;simpa using this
   rw[hx];simp[encStr]
  have hH:Holds encStr w g 0 xs.toArray:=by
   intro j hj;have hj:j<xs.length:=by simpa using hj
   refine⟨?_,?_⟩
   ·rw[<-O1 j hj];simp[World.cell?,QV]
   ·simp[World.frozen?,QV]
  have hblk:g<w.heap.size:=(bH.1 QV).1;refine(Any.sort_Strings L g 0 cap xs w hH hblk hn).mono ?_;rintro e' w' ⟨rfl,n,os,rfl⟩;have hheap:(grow (putRow encStr (Sort.ahead w n) g 0 (nj xs).toArray) os).heap=(w.heap.modify g (onCells (putCells encStr 0 (nj xs).toArray)))++os:=rfl;have Nz:∀b,b<w.heap.size->b≠g->(grow (putRow encStr (Sort.ahead w n) g 0 (nj xs).toArray) os).heap[b]?=w.heap[b]?:=by
   intro b hb hne;rw[hheap,fO (by simpa using hb),xC,bL (fun e=>hne e.symm)]
  have hrow:(grow (putRow encStr (Sort.ahead w n) g 0 (nj xs).toArray) os).heap[g]?=some (.cells (putCells encStr 0 (nj xs).toArray cur) e (0,0)):=by
   rw[hheap,fO (by simpa using hblk),xC,bX rfl,QV];rfl
  refine⟨rfl,rfl,rfl,rfl,by show w.heap.size<=(grow (putRow encStr (Sort.ahead w n) g 0 (nj xs).toArray) os).heap.size;rw[hheap];simp,fun b hb hne=>Nz b hb fun e=>hne (by rw[e];rfl),NC,(nj xs).map encStr,⟨by simp,.inr ⟨g,cap,_,by simp[hlen],hb,hrow,by simpa[hlen]using hnc,hcm,by simp[putCells,hcs],?_⟩⟩,?_⟩
  ·apply pg;intro j;simp only[aa,Nat.mul_one];by_cases hj:j<(nj xs).length
   ·have hj2:j<cur.size:=by omega
    rw[BK hj,cF,ah hj];simp[putCells,hj2,hj]
   ·rw[cc (by simp;omega),cc (by simp;omega)]
  ·rw[QS];exact lE.Vk fun x hx=>hle x ((Ai xs).mem_iff.1 hx)
end Go.Cx
namespace Go.Cx
open Go.RowKit Go.Proofs Go.Shelf Go.Lib Tryz
theorem ZJ(n:Int)(h:sC .i64 n):(itoa n).length<=20:=by
 have h1: -9223372036854775808<=n:=h.1;have h2:n<=9223372036854775807:=h.2;have key:∀u:Nat,u<=9223372036854775808->nDigits u<=19:=by
  intro u hu;by_cases h0:u=0
  ·subst h0;rw[nDigits_small (by omega)];omega
  ·by_cases hk:nDigits u<=19
   ·exact hk
   ·exfalso;have a54:∀(k v:Nat),v<10^k->1<=k->nDigits v<=k:=by
     intro k
     induction k with
     |zero=>intro v _ h;omega
     |succ k ih=>
      intro v hv _;by_cases h10:v<10
      ·rw[nDigits_small h10];omega
      ·rw[nDigits_big h10];have h3:v/10<10^k:=by rw[wU]at hv;omega
       have hk1:1<=k:=by
        cases k with
        |zero=>simp at hv;omega
        |succ k=>omega
       have:=ih (v/10) h3 hk1;omega
    have:=a54 19 u (by omega) (by omega);omega
 unfold itoa;split
 ·rw[aL,decDigits_length];have:=key n.natAbs (by omega);omega
 ·rw[decDigits_length];have:=key n.toNat (by omega);omega
theorem Ru(w:World)(k:Nat)(os:Array Obj):Below w.heap.size w (Sort.grow (w.drewN k) os):=
 ⟨rfl,rfl,rfl,by show w.heap.size<=(w.heap++os).size;simp,fun b hb=>by show(w.heap++os)[b]?=_;rw[fO hb]⟩
theorem Sa{P:Program}{ρ:Ren}(L:LaysM.n171 P ρ){g:Nat}(hg:P.globalNamed "internal/strconv.uint64pow10" =some g)(hx:(g,fun cs:bh=>cs=pow10Tab.map fun z=>Value.int .u64 z)∈yZ){n:Int}:
 Good P (ρ.f 171) [.int .i64 n] (.str (itoa n)):=by
 refine⟨⟨_,L.f171,rfl,rfl⟩,?_⟩;intro w Θ args bs hv ha _ _ _;obtain _|⟨v1,_,_,_,b1,_,h1,ha⟩:=ha;cases ha;cases h1 with
 |int _ _ hr=>
  have h0: -9223372036854775808<=n:=hr.1;have h1:n<=9223372036854775807:=hr.2;have hl:=ZJ n hr;have ht:TabIs P w "internal/strconv.uint64pow10" .u64 pow10Tab:=by
   obtain⟨cs,h2,h3⟩:=hv.var hx hg;have h4:cs=(pow10Tab.map fun z=>Value.int .u64 z).toArray:=by rw[<-h3]
   rw[h4]at h2;exact h2
  have:=Calls.txt (Θ:=Θ) (r:=⟨(itoa n).toArray⟩) (by show(itoa n).toArray.size<=maxLen;rw[B6];unfold maxLen;omega)
   ((Any.strconv_Itoa L n h0 h1 w ht).mono fun e w' ⟨k1,k,os,k2⟩=>⟨k1,by subst k2;exact Ru w k os⟩)
  simpa using this
end Go.Cx
namespace Go.Cx
open Go.RowKit Go.Proofs Go.Shelf Go.Lib Tryz
theorem Rt(w:World)(t5:TypeId)(t:ByteArray):Below w.heap.size w (Lib.bytesWorld w t5 t):=Lib.bytesWorld_below _ _ _
def Qg(s:Bytes):Option (Int×Bool):=if s.length<=18 then(match Lib.atoi s with|some n=>some (n,false)|none=>some (0,true))else none
theorem SZ{P:Program}{ρ:Ren}(L:LaysC.n172 P ρ){g:Nat}(hg:P.globalNamed "strconv.ErrSyntax" =some g)(hx:(g,fun cs:bh=>∃tp p,cs=[Value.iface tp p])∈yZ){s:Bytes}{r:Int×Bool}(h:Qg s=some r):
 Good P (ρ.f 172) [.str s] (.ij [.int .i64 r.1,.ifc r.2]):=by
 refine⟨⟨_,L.f172,rfl,rfl⟩,?_⟩;intro w Θ args bs hv ha _ _ _;obtain _|⟨v1,_,_,_,b1,_,h1,ha⟩:=ha;cases ha;obtain⟨y,rfl,rfl,_,_⟩:=h1.um;unfold Qg at h;split at h
 ·rename_i hl;have hl':y.size<=18:=by simpa using hl
  split at h
  ·rename_i n hn;cases h;have hb:=Lib.atoi_bound hn hl;refine(Any.strconv_Atoi L.toM.ton172 y n hl' hn w).mono ?_;rintro e w' ⟨rfl,t,rfl⟩;exact⟨_,[],[],[],rfl,Rt _ _ _,.ij [.int .i64 n,.nilIface] [.int .i64 n,.ifc false] [] [] [] (.cons _ _ _ _ [] [] [] [] [] [] (.cell (.pure (.int _ _ (sC.i64.2 (by omega))))) (.cons _ _ _ _ [] [] [] [] [] [] (.cell (.pure .Ws)) .nil)),by simp,by simp,by simp,by simp,by simp⟩
  ·rename_i hn;cases h;obtain⟨cs,h2,tp,p,h3⟩:=hv.var hx hg;have h4:cs= #[.iface tp p]:=by rw[<-ue,h3]
   rw[h4]at h2;refine(Any.strconv_Atoi_err_var L y hl' hn tp p w h2).mono ?_;rintro e w' ⟨N,rfl,_,_,Xo⟩;exact⟨_,[],[],[],rfl,Xo,.ij [.int .i64 0,.iface _ _] [.int .i64 0,.ifc true] [] [] [] (.cons _ _ _ _ [] [] [] [] [] [] (.cell (.pure (.int _ _ (sC.zero _)))) (.cons _ _ _ _ [] [] [] [] [] [] (.cell (.pure (.Wt _ _))) .nil)),by simp,by simp,by simp,by simp,by simp⟩
 ·cases h
theorem VK:∀(a b:Bytes), -1<=Lib.compareBytes a b/\Lib.compareBytes a b<=1
 | [],[]=>by simp[Lib.compareBytes]
 | [],_::_=>by simp[Lib.compareBytes]
 |_::_,[]=>by simp[Lib.compareBytes]
 |a::xs,b::ys=>by
  simp only[Lib.compareBytes];split
  ·omega
  ·split
   ·omega
   ·exact VK xs ys
theorem OD{P:Program}{ρ:Ren}(L:Lays.n106 P ρ){a b:Bytes}:Good P (ρ.f 106) [.str a,.str b] (.int .i64 (Lib.compareBytes a b)):=by
 refine⟨⟨_,L.f106,rfl,rfl⟩,?_⟩;intro w Θ args bs hv ha _ _ _;obtain _|⟨v1,_,_,_,b1,_,h1,ha⟩:=ha;obtain _|⟨v2,_,_,_,b2,_,h2,ha⟩:=ha;cases ha;obtain⟨y,rfl,rfl,_,_⟩:=h1.um;obtain⟨z,rfl,rfl,_,_⟩:=h2.um;have hc:=VK y.data.toList z.data.toList;refine(Any.strings_Compare L y z w).mono ?_;rintro e w' ⟨rfl,rfl⟩;exact⟨_,[],[],[],rfl,Below.refl _ _,.v (.cell (.pure (.int _ _ (sC.i64.2 (by omega))))),by simp,by simp,by simp,by simp,by simp⟩
end Go.Cx
namespace Go.Cx
open Go.RowKit Go.Proofs Go.Shelf Tryz
def Sc:Ren:=⟨fun|192=>266|190=>278|125=>288|258=>287|128=>301|129=>302|302=>292|303=>293|304=>294|305=>295|306=>296|307=>297|308=>298|309=>299|310=>300|333=>312|329=>313|330=>314|334=>315|335=>316|336=>317|344=>325|n=>n,fun|31=>46|0=>0|9=>9|3=>3|46=>254|51=>266|53=>268|4=>4|183=>259|182=>258|131=>237|5=>5|218=>279|222=>283|228=>296|229=>186|n=>n,fun|n=>n⟩
theorem a1z:Lays.n192 prog Sc:= {
 mixed:=by kernel_rfl,
 f125:=func288.trans (congrArg some (by kernel_rfl)),
 f128:=func301.trans (congrArg some (by kernel_rfl)),
 f129:=func302.trans (congrArg some (by kernel_rfl)),
 f190:=func278.trans (congrArg some (by kernel_rfl)),
 f192:=func266.trans (congrArg some (by kernel_rfl)),
 f258:=func287.trans (congrArg some (by kernel_rfl)),
 f302:=func292.trans (congrArg some (by kernel_rfl)),
 f303:=func293.trans (congrArg some (by kernel_rfl)),
 f304:=func294.trans (congrArg some (by kernel_rfl)),
 f305:=func295.trans (congrArg some (by kernel_rfl)),
 f306:=func296.trans (congrArg some (by kernel_rfl)),
 f307:=func297.trans (congrArg some (by kernel_rfl)),
 f308:=func298.trans (congrArg some (by kernel_rfl)),
 f309:=func299.trans (congrArg some (by kernel_rfl)),
 f310:=func300.trans (congrArg some (by kernel_rfl)),
 f329:=func313.trans (congrArg some (by kernel_rfl)),
 f330:=func314.trans (congrArg some (by kernel_rfl)),
 f333:=func312.trans (congrArg some (by kernel_rfl)),
 f334:=func315.trans (congrArg some (by kernel_rfl)),
 f335:=func316.trans (congrArg some (by kernel_rfl)),
 f336:=func317.trans (congrArg some (by kernel_rfl)),
 f344:=func325.trans (congrArg some (by kernel_rfl)),
 t0:=underlying0,
 a0:=Tryz.isAgg0,
 z0:=Tryz.sizeOf0,
 v0:=Tryz.zeroValue0,
 t3:=underlying3,
 a3:=Tryz.isAgg3,
 z3:=Tryz.sizeOf3,
 v3:=Tryz.zeroValue3,
 t4:=underlying4,
 a4:=Tryz.isAgg4,
 z4:=Tryz.sizeOf4,
 v4:=Tryz.zeroValue4,
 t5:=underlying5,
 a5:=Tryz.isAgg5,
 z5:=Tryz.sizeOf5,
 v5:=Tryz.zeroValue5,
 t9:=underlying9,
 a9:=Tryz.isAgg9,
 z9:=Tryz.sizeOf9,
 v9:=Tryz.zeroValue9,
 t31:=underlying46,
 a31:=Tryz.isAgg46,
 z31:=Tryz.sizeOf46,
 v31:=Tryz.zeroValue46,
 t46:=underlying254,
 a46:=Tryz.isAgg254,
 z46:=Tryz.sizeOf254,
 v46:=Tryz.zeroValue254,
 t51:=underlying266,
 a51:=Tryz.isAgg266,
 z51:=Tryz.sizeOf266,
 v51:=Tryz.zeroValue266,
 t53:=underlying268,
 a53:=Tryz.isAgg268,
 z53:=Tryz.sizeOf268,
 v53:=Tryz.zeroValue268,
 t131:=underlying237,
 a131:=Tryz.isAgg237,
 z131:=Tryz.sizeOf237,
 v131:=Tryz.zeroValue237,
 t182:=underlying258,
 a182:=Tryz.isAgg258,
 z182:=Tryz.sizeOf258,
 v182:=Tryz.zeroValue258,
 t183:=underlying259,
 a183:=Tryz.isAgg259,
 z183:=Tryz.sizeOf259,
 v183:=Tryz.zeroValue259,
 t218:=underlying279,
 a218:=Tryz.isAgg279,
 z218:=Tryz.sizeOf279,
 v218:=Tryz.zeroValue279,
 t222:=underlying283,
 a222:=Tryz.isAgg283,
 z222:=Tryz.sizeOf283,
 v222:=Tryz.zeroValue283,
 t228:=underlying296,
 a228:=Tryz.isAgg296,
 z228:=Tryz.sizeOf296,
 v228:=Tryz.zeroValue296,
 t229:=underlying186,
 a229:=Tryz.isAgg186,
 z229:=Tryz.sizeOf186,
 v229:=Tryz.zeroValue186}
theorem HX{e:TypeId}{xs:aH}(hn:xs.length<4611686018427387904):Rg prog 266 e 1 (xs.map tx) ((nj xs).map tx):=OE a1z hn
def Mg:Ren:=⟨fun|171=>274|243=>285|246=>291|283=>308|284=>309|285=>310|286=>311|129=>302|317=>321|318=>322|319=>323|320=>324|337=>328|338=>329|n=>n,fun|3=>3|9=>9|2=>2|4=>4|171=>275|0=>0|53=>268|37=>150|5=>5|173=>277|212=>293|51=>266|20=>20|213=>294|46=>254|232=>303|233=>304|n=>n,fun|17=>3|18=>4|19=>5|n=>n⟩
theorem a1x:Lays.n171 prog Mg:= {
 mixed:=by kernel_rfl,
 f129:=func302.trans (congrArg some (by kernel_rfl)),
 f171:=func274.trans (congrArg some (by kernel_rfl)),
 f243:=func285.trans (congrArg some (by kernel_rfl)),
 f246:=func291.trans (congrArg some (by kernel_rfl)),
 f283:=func308.trans (congrArg some (by kernel_rfl)),
 f284:=func309.trans (congrArg some (by kernel_rfl)),
 f285:=func310.trans (congrArg some (by kernel_rfl)),
 f286:=func311.trans (congrArg some (by kernel_rfl)),
 f317:=func321.trans (congrArg some (by kernel_rfl)),
 f318:=func322.trans (congrArg some (by kernel_rfl)),
 f319:=func323.trans (congrArg some (by kernel_rfl)),
 f320:=func324.trans (congrArg some (by kernel_rfl)),
 f337:=func328.trans (congrArg some (by kernel_rfl)),
 f338:=func329.trans (congrArg some (by kernel_rfl)),
 t0:=underlying0,
 a0:=Tryz.isAgg0,
 z0:=Tryz.sizeOf0,
 v0:=Tryz.zeroValue0,
 t2:=underlying2,
 a2:=Tryz.isAgg2,
 z2:=Tryz.sizeOf2,
 v2:=Tryz.zeroValue2,
 t3:=underlying3,
 a3:=Tryz.isAgg3,
 z3:=Tryz.sizeOf3,
 v3:=Tryz.zeroValue3,
 t4:=underlying4,
 a4:=Tryz.isAgg4,
 z4:=Tryz.sizeOf4,
 v4:=Tryz.zeroValue4,
 t5:=underlying5,
 a5:=Tryz.isAgg5,
 z5:=Tryz.sizeOf5,
 v5:=Tryz.zeroValue5,
 t9:=underlying9,
 a9:=Tryz.isAgg9,
 z9:=Tryz.sizeOf9,
 v9:=Tryz.zeroValue9,
 t20:=underlying20,
 a20:=Tryz.isAgg20,
 z20:=Tryz.sizeOf20,
 v20:=Tryz.zeroValue20,
 t37:=underlying150,
 a37:=Tryz.isAgg150,
 z37:=Tryz.sizeOf150,
 v37:=Tryz.zeroValue150,
 t46:=underlying254,
 a46:=Tryz.isAgg254,
 z46:=Tryz.sizeOf254,
 v46:=Tryz.zeroValue254,
 t51:=underlying266,
 a51:=Tryz.isAgg266,
 z51:=Tryz.sizeOf266,
 v51:=Tryz.zeroValue266,
 t53:=underlying268,
 a53:=Tryz.isAgg268,
 z53:=Tryz.sizeOf268,
 v53:=Tryz.zeroValue268,
 t171:=underlying275,
 a171:=Tryz.isAgg275,
 z171:=Tryz.sizeOf275,
 v171:=Tryz.zeroValue275,
 t173:=underlying277,
 a173:=Tryz.isAgg277,
 z173:=Tryz.sizeOf277,
 v173:=Tryz.zeroValue277,
 t212:=underlying293,
 a212:=Tryz.isAgg293,
 z212:=Tryz.sizeOf293,
 v212:=Tryz.zeroValue293,
 t213:=underlying294,
 a213:=Tryz.isAgg294,
 z213:=Tryz.sizeOf294,
 t232:=underlying303,
 a232:=Tryz.isAgg303,
 z232:=Tryz.sizeOf303,
 v232:=Tryz.zeroValue303,
 t233:=underlying304,
 a233:=Tryz.isAgg304,
 z233:=Tryz.sizeOf304,
 v233:=Tryz.zeroValue304,
 g17:=by kernel_rfl,
 g18:=by kernel_rfl,
 g19:=by kernel_rfl}
theorem ZP:LaysM.n171 prog Mg:= {a1x with
 i0:=by kernel_rfl,
 i2:=by kernel_rfl,
 i3:=by kernel_rfl,
 i4:=by kernel_rfl,
 i5:=by kernel_rfl,
 i9:=by kernel_rfl,
 i20:=by kernel_rfl,
 i37:=by kernel_rfl,
 i46:=by kernel_rfl,
 i51:=by kernel_rfl,
 i53:=by kernel_rfl,
 i171:=by kernel_rfl,
 i173:=by kernel_rfl,
 i212:=by kernel_rfl,
 i232:=by kernel_rfl,
 i233:=by kernel_rfl,
 m17:=by kernel_rfl,
 m18:=by kernel_rfl,
 m19:=by kernel_rfl}
def AV(aB:Int):Option Bytes:=(fun n:Int=>some (Lib.itoa n)) aB
theorem I2{aB:Int}{r:Bytes}(h:AV aB=some r):Good prog 274 [.int .i64 aB] (.str r):=by cases h;exact Sa ZP (g:=3) (by kernel_rfl) (aC (i:=0) (by kernel_rfl))
def G8:Ren:=⟨fun|172=>280|244=>289|245=>290|247=>303|279=>304|280=>305|281=>306|282=>307|287=>318|316=>319|171=>274|205=>320|321=>326|322=>327|243=>285|246=>291|283=>308|284=>309|285=>310|286=>311|129=>302|317=>321|318=>322|319=>323|320=>324|337=>328|338=>329|n=>n,fun|9=>9|3=>3|75=>245|76=>246|4=>4|5=>5|167=>269|37=>150|0=>0|85=>270|2=>2|168=>272|53=>268|175=>285|46=>254|210=>289|127=>299|145=>302|143=>300|21=>21|171=>275|173=>277|212=>293|51=>266|20=>20|213=>294|232=>303|233=>304|80=>305|n=>n,fun|15=>1|16=>2|17=>3|18=>4|19=>5|n=>n⟩
theorem a1y:Lays.n172 prog G8:= {
 mixed:=by kernel_rfl,
 f129:=func302.trans (congrArg some (by kernel_rfl)),
 f171:=func274.trans (congrArg some (by kernel_rfl)),
 f172:=func280.trans (congrArg some (by kernel_rfl)),
 f205:=func320.trans (congrArg some (by kernel_rfl)),
 f243:=func285.trans (congrArg some (by kernel_rfl)),
 f244:=func289.trans (congrArg some (by kernel_rfl)),
 f245:=func290.trans (congrArg some (by kernel_rfl)),
 f246:=func291.trans (congrArg some (by kernel_rfl)),
 f247:=func303.trans (congrArg some (by kernel_rfl)),
 f279:=func304.trans (congrArg some (by kernel_rfl)),
 f280:=func305.trans (congrArg some (by kernel_rfl)),
 f281:=func306.trans (congrArg some (by kernel_rfl)),
 f282:=func307.trans (congrArg some (by kernel_rfl)),
 f283:=func308.trans (congrArg some (by kernel_rfl)),
 f284:=func309.trans (congrArg some (by kernel_rfl)),
 f285:=func310.trans (congrArg some (by kernel_rfl)),
 f286:=func311.trans (congrArg some (by kernel_rfl)),
 f287:=func318.trans (congrArg some (by kernel_rfl)),
 f316:=func319.trans (congrArg some (by kernel_rfl)),
 f317:=func321.trans (congrArg some (by kernel_rfl)),
 f318:=func322.trans (congrArg some (by kernel_rfl)),
 f319:=func323.trans (congrArg some (by kernel_rfl)),
 f320:=func324.trans (congrArg some (by kernel_rfl)),
 f321:=func326.trans (congrArg some (by kernel_rfl)),
 f322:=func327.trans (congrArg some (by kernel_rfl)),
 f337:=func328.trans (congrArg some (by kernel_rfl)),
 f338:=func329.trans (congrArg some (by kernel_rfl)),
 t0:=underlying0,
 a0:=Tryz.isAgg0,
 z0:=Tryz.sizeOf0,
 v0:=Tryz.zeroValue0,
 t2:=underlying2,
 a2:=Tryz.isAgg2,
 z2:=Tryz.sizeOf2,
 v2:=Tryz.zeroValue2,
 t3:=underlying3,
 a3:=Tryz.isAgg3,
 z3:=Tryz.sizeOf3,
 v3:=Tryz.zeroValue3,
 t4:=underlying4,
 a4:=Tryz.isAgg4,
 z4:=Tryz.sizeOf4,
 v4:=Tryz.zeroValue4,
 t5:=underlying5,
 a5:=Tryz.isAgg5,
 z5:=Tryz.sizeOf5,
 v5:=Tryz.zeroValue5,
 t9:=underlying9,
 a9:=Tryz.isAgg9,
 z9:=Tryz.sizeOf9,
 v9:=Tryz.zeroValue9,
 t20:=underlying20,
 a20:=Tryz.isAgg20,
 z20:=Tryz.sizeOf20,
 v20:=Tryz.zeroValue20,
 t21:=underlying21,
 a21:=Tryz.isAgg21,
 z21:=Tryz.sizeOf21,
 v21:=Tryz.zeroValue21,
 t37:=underlying150,
 a37:=Tryz.isAgg150,
 z37:=Tryz.sizeOf150,
 v37:=Tryz.zeroValue150,
 t46:=underlying254,
 a46:=Tryz.isAgg254,
 z46:=Tryz.sizeOf254,
 v46:=Tryz.zeroValue254,
 t51:=underlying266,
 a51:=Tryz.isAgg266,
 z51:=Tryz.sizeOf266,
 v51:=Tryz.zeroValue266,
 t53:=underlying268,
 a53:=Tryz.isAgg268,
 z53:=Tryz.sizeOf268,
 v53:=Tryz.zeroValue268,
 t75:=underlying245,
 a75:=Tryz.isAgg245,
 z75:=Tryz.sizeOf245,
 v75:=Tryz.zeroValue245,
 t76:=underlying246,
 a76:=Tryz.isAgg246,
 z76:=Tryz.sizeOf246,
 v76:=Tryz.zeroValue246,
 t85:=underlying270,
 a85:=Tryz.isAgg270,
 z85:=Tryz.sizeOf270,
 v85:=Tryz.zeroValue270,
 t127:=underlying299,
 a127:=Tryz.isAgg299,
 z127:=Tryz.sizeOf299,
 v127:=Tryz.zeroValue299,
 t143:=underlying300,
 a143:=Tryz.isAgg300,
 z143:=Tryz.sizeOf300,
 v143:=Tryz.zeroValue300,
 t145:=underlying302,
 a145:=Tryz.isAgg302,
 z145:=Tryz.sizeOf302,
 v145:=Tryz.zeroValue302,
 t167:=underlying269,
 a167:=Tryz.isAgg269,
 z167:=Tryz.sizeOf269,
 v167:=Tryz.zeroValue269,
 t168:=underlying272,
 a168:=Tryz.isAgg272,
 z168:=Tryz.sizeOf272,
 v168:=Tryz.zeroValue272,
 t171:=underlying275,
 a171:=Tryz.isAgg275,
 z171:=Tryz.sizeOf275,
 v171:=Tryz.zeroValue275,
 t173:=underlying277,
 a173:=Tryz.isAgg277,
 z173:=Tryz.sizeOf277,
 v173:=Tryz.zeroValue277,
 t175:=underlying285,
 a175:=Tryz.isAgg285,
 z175:=Tryz.sizeOf285,
 v175:=Tryz.zeroValue285,
 t210:=underlying289,
 a210:=Tryz.isAgg289,
 z210:=Tryz.sizeOf289,
 v210:=Tryz.zeroValue289,
 t212:=underlying293,
 a212:=Tryz.isAgg293,
 z212:=Tryz.sizeOf293,
 v212:=Tryz.zeroValue293,
 t213:=underlying294,
 a213:=Tryz.isAgg294,
 z213:=Tryz.sizeOf294,
 t232:=underlying303,
 a232:=Tryz.isAgg303,
 z232:=Tryz.sizeOf303,
 v232:=Tryz.zeroValue303,
 t233:=underlying304,
 a233:=Tryz.isAgg304,
 z233:=Tryz.sizeOf304,
 v233:=Tryz.zeroValue304,
 g15:=by kernel_rfl,
 g16:=by kernel_rfl,
 g17:=by kernel_rfl,
 g18:=by kernel_rfl,
 g19:=by kernel_rfl}
theorem ZQ:LaysM.n172 prog G8:= {a1y with
 t80:=underlying305,
 a80:=Tryz.isAgg305,
 z80:=Tryz.sizeOf305,
 v80:=Tryz.zeroValue305,
 i0:=by kernel_rfl,
 i2:=by kernel_rfl,
 i3:=by kernel_rfl,
 i4:=by kernel_rfl,
 i5:=by kernel_rfl,
 i9:=by kernel_rfl,
 i20:=by kernel_rfl,
 i21:=by kernel_rfl,
 i37:=by kernel_rfl,
 i46:=by kernel_rfl,
 i51:=by kernel_rfl,
 i53:=by kernel_rfl,
 i75:=by kernel_rfl,
 i76:=by kernel_rfl,
 i80:=by kernel_rfl,
 i85:=by kernel_rfl,
 i127:=by kernel_rfl,
 i143:=by kernel_rfl,
 i145:=by kernel_rfl,
 i167:=by kernel_rfl,
 i168:=by kernel_rfl,
 i171:=by kernel_rfl,
 i173:=by kernel_rfl,
 i175:=by kernel_rfl,
 i210:=by kernel_rfl,
 i212:=by kernel_rfl,
 i232:=by kernel_rfl,
 i233:=by kernel_rfl,
 m15:=by kernel_rfl,
 m16:=by kernel_rfl,
 m17:=by kernel_rfl,
 m18:=by kernel_rfl,
 m19:=by kernel_rfl}
theorem ZO:LaysC.n172 prog G8:= {ZQ with
 c0:=by kernel_rfl,
 c2:=by kernel_rfl,
 c3:=by kernel_rfl,
 c4:=by kernel_rfl,
 c5:=by kernel_rfl,
 c9:=by kernel_rfl,
 c20:=by kernel_rfl,
 c21:=by kernel_rfl,
 c37:=by kernel_rfl,
 c46:=by kernel_rfl,
 c51:=by kernel_rfl,
 c53:=by kernel_rfl,
 c75:=by kernel_rfl,
 c76:=by kernel_rfl,
 c80:=by kernel_rfl,
 c85:=by kernel_rfl,
 c127:=by kernel_rfl,
 c143:=by kernel_rfl,
 c145:=by kernel_rfl,
 c167:=by kernel_rfl,
 c168:=by kernel_rfl,
 c171:=by kernel_rfl,
 c173:=by kernel_rfl,
 c175:=by kernel_rfl,
 c210:=by kernel_rfl,
 c212:=by kernel_rfl,
 c213:=by kernel_rfl,
 c232:=by kernel_rfl,
 c233:=by kernel_rfl}
def AU(aB:Bytes):Option (Int×Bool):=Qg aB
theorem I1{aB:Bytes}{r:Int×Bool}(h:AU aB=some r):Good prog 280 [.str aB] (.ij [.int .i64 r.1,.ifc r.2]):=SZ ZO (g:=1) (by kernel_rfl) (aC (i:=1) (by kernel_rfl)) h
def Sb:Ren:=⟨fun|106=>220|213=>267|265=>279|n=>n,fun|9=>9|3=>3|n=>n,fun|n=>n⟩
theorem a1w:Lays.n106 prog Sb:= {
 mixed:=by kernel_rfl,
 f106:=func220.trans (congrArg some (by kernel_rfl)),
 f213:=func267.trans (congrArg some (by kernel_rfl)),
 f265:=func279.trans (congrArg some (by kernel_rfl)),
 t3:=underlying3,
 a3:=Tryz.isAgg3,
 z3:=Tryz.sizeOf3,
 v3:=Tryz.zeroValue3,
 t9:=underlying9,
 a9:=Tryz.isAgg9,
 z9:=Tryz.sizeOf9,
 v9:=Tryz.zeroValue9}
def qG(aB:Bytes)(aV:Bytes):Option Int:=(fun a b:Bytes=>some (Lib.compareBytes a b)) aB aV
theorem sL{aB:Bytes}{aV:Bytes}{r:Int}(h:qG aB aV=some r):Good prog 220 [.str aB,.str aV] (.int .i64 r):=by cases h;exact OD a1w
end Go.Cx
