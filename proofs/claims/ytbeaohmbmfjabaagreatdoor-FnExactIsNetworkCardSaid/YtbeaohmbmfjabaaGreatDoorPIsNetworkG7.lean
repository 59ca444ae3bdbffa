/- Chapters 2 to 5 in plain words: facts, patterns, conditions, rules, as the program and the reference read them. No condition but bounds on sizes. -/
import Derived.Test.YtbeaohmbmfjabaaGreatDoorPIsNetworkG6
import Derived.Lib.ItoaNum
import Derived.Lib.ItoaLen
import Derived.Lib.Atoi
import Derived.Test.YtbeaohmbmfjabaaGreatDoorPIsNetworkG4
import Derived.Test.YtbeaohmbmfjabaaGreatDoorPIsNetworkG3
import Derived.ProofKit
namespace Go.Cx
open Go.RowKit Go.Proofs
set_option linter.unusedVariables false
set_option linter.unusedSimpArgs false
theorem aD.YN{p:aD}{n:Nat}(h:p.wt≤n):p.rel.length≤n:=by unfold aD.wt tw at h;omega
theorem aD.cW{p:aD}{n:Nat}(h:p.wt≤n):p.args.length≤n:=by unfold aD.wt at h;have:=gB tw p.args;omega
theorem aD.sY{p:aD}{n:Nat}(h:p.wt≤n){x:Bytes}(hx:x∈p.args):x.length≤n:=by unfold aD.wt at h;have:=iP (w:=tw) hx;have e:tw x=x.length:=rfl;omega
theorem aF.cT{c:aF}{n:Nat}(h:c.wt≤n):c.pat.wt≤n:=by simp only[aF.wt,aD.wt]at h⊢;omega
theorem aF.BL{c:aF}{n:Nat}(h:c.wt≤n):c.left.length≤n:=by simp only[aF.wt,tw]at h;omega
theorem aF.yG{c:aF}{n:Nat}(h:c.wt≤n):c.right.length≤n:=by simp only[aF.wt,tw]at h;omega
theorem Action.cT{c:Action}{n:Nat}(h:c.wt≤n):c.pat.wt≤n:=by simp only[Action.wt,aD.wt]at h⊢;omega
theorem aI.a3I{r:aI}{n:Nat}(h:r.wt≤n):r.name.length≤n:=by simp only[aI.wt,tw]at h;omega
theorem aI.s5{r:aI}{n:Nat}(h:r.wt≤n):j6 aF.wt r.conds≤n:=by simp only[aI.wt]at h;omega
theorem aI.QB{r:aI}{n:Nat}(h:r.wt≤n):j6 Action.wt r.bC≤n:=by simp only[aI.wt]at h;omega
theorem aI.pL{r:aI}{n:Nat}(h:r.wt≤n){c:aF}(hc:c∈r.conds):c.wt≤n:=by have:=aI.s5 h;have:=iP (w:=aF.wt) hc;omega
theorem aI.YO{r:aI}{n:Nat}(h:r.wt≤n){c:Action}(hc:c∈r.bC):c.wt≤n:=by have:=aI.QB h;have:=iP (w:=Action.wt) hc;omega
theorem a2O(f:aD)(h:f.args.length≤1099511627776):iM f=some f:=by
 unfold iM;rw[a7E _ h];rfl
theorem a2P(f:aD)(h:f.args.length≤1099511627776):eS f=some f:=by
 unfold eS;rw[YK _ h];rfl
theorem aC7(a b:aD):sK a b=some (decide (a=b)):=by
 obtain⟨a0,a1⟩:=a;obtain⟨b0,b1⟩:=b
 unfold sK
 simp only[a7F,Option.bind_some,cB]
 by_cases h0:a0=b0<;>by_cases h1:a1=b1<;>simp[h0,h1]
theorem aC8(a b:aD):oD a b=some (decide (a=b)):=by
 obtain⟨a0,a1⟩:=a;obtain⟨b0,b1⟩:=b
 unfold oD
 simp only[a7G,Option.bind_some,cB]
 by_cases h0:a0=b0<;>by_cases h1:a1=b1<;>simp[h0,h1]
theorem a2Q(a b:aD):eC a b=some (decide (a=b)):=by
 obtain⟨a0,a1⟩:=a;obtain⟨b0,b1⟩:=b
 unfold eC
 simp only[a7F,Option.bind_some,cB]
 by_cases h0:a0=b0<;>by_cases h1:a1=b1<;>simp[h0,h1]
theorem US(a b:aD):cG a b=some (decide (a=b)):=by
 obtain⟨a0,a1⟩:=a;obtain⟨b0,b1⟩:=b
 unfold cG
 simp only[a7G,Option.bind_some,cB]
 by_cases h0:a0=b0<;>by_cases h1:a1=b1<;>simp[h0,h1]
theorem YP(a b:List aD):kP a b=some (decide (a=b)):=by
 unfold kP
 exact WN (c:=aD.c) (f:=sK) (fun k=>jD a b k) (fun _ _=>rfl) (fun _ _ _ _=>rfl) aC7
theorem TD(a b:List aD):fC a b=some (decide (a=b)):=by
 unfold fC
 exact WN (c:=aD.c) (f:=oD) (fun k=>jM a b k) (fun _ _=>rfl) (fun _ _ _ _=>rfl) aC8
def FE(p:aD):Bool:=p.args.all tA&&(zN p.rel&&decide ((p.args.length:Int)≤3))
def I6(f:aD):Bool:=f.args.all iK&&(zN f.rel&&decide ((f.args.length:Int)≤3))
theorem aAf(f:aD)(h:f.wt≤1048576):p0 f=some (I6 f):=by
 unfold p0
 rw[a4e (f:=cE) (L:=nE f _) (fun _=>rfl) (fun _ _ _=>rfl) f.args 0 (fun x hx=>S9 x (aD.sY h hx)),a7A _ (aD.YN h),Option.bind_some,List.length_map,I6]
 cases f.args.all iK<;>cases zN f.rel<;>rfl
theorem aAg(f:aD)(h:f.wt≤1048576):pE f=some (I6 f):=by
 unfold pE
 rw[a4e (f:=cF) (L:=nJ f _) (fun _=>rfl) (fun _ _ _=>rfl) f.args 0 (fun x hx=>SA x (aD.sY h hx)),a7B _ (aD.YN h),Option.bind_some,List.length_map,I6]
 have c:decide ((f.args.length:Int)≤3)= !decide ((f.args.length:Int)>3):=by rw[Bool.eq_iff_iff];simp
 rw[c]
 cases f.args.all iK<;>cases zN f.rel<;>cases decide ((f.args.length:Int)>3)<;>rfl
theorem aC9(f:aD)(h:f.wt≤1048576):eX f=some (FE f):=by
 unfold eX
 rw[a4e (f:=eP) (L:=jC f _) (fun _=>rfl) (fun _ _ _=>rfl) f.args 0 (fun x hx=>a7C x (aD.sY h hx)),a7A _ (aD.YN h),Option.bind_some,List.length_map,FE]
 cases f.args.all tA<;>cases zN f.rel<;>rfl
theorem aCA(f:aD)(h:f.wt≤1048576):eZ f=some (FE f):=by
 unfold eZ
 rw[a4e (f:=eT) (L:=jH f _) (fun _=>rfl) (fun _ _ _=>rfl) f.args 0 (fun x hx=>a7D x (aD.sY h hx)),a7B _ (aD.YN h),Option.bind_some,List.length_map,FE]
 have c:decide ((f.args.length:Int)≤3)= !decide ((f.args.length:Int)>3):=by rw[Bool.eq_iff_iff];simp
 rw[c]
 cases f.args.all tA<;>cases zN f.rel<;>cases decide ((f.args.length:Int)>3)<;>rfl
def fE(l:List Bytes):List Bytes:=l.filter lE
theorem vY(l:List Bytes):(fE l).length≤l.length:=List.length_filter_le _ _
theorem WU(a b:List Bytes):fE (a++b)=fE a++fE b:=List.filter_append _ _
theorem QC(p:aD)(h:p.wt≤1048576):l7 p=some (cD (fE p.args)):=by
 unfold l7
 have:∀(r:List Bytes) (i:Nat) (w:List Bytes),(∀x∈r,x.length≤1048576)→w.length+r.length≤2097152→gW p (fun q=>some q) r i w=some ((fE r).foldl yV w):=by
  intro r
  induction r with
  |nil=>intro i w _ _;rfl
  |cons x r ih=>
   intro i w hr hw
   simp only[List.length_cons]at hw
   have hl:=B6 w x
   rw[gW,a0f x (hr x (by simp)),Option.bind_some,a2M w x (by omega),Option.bind_some,ih _ _ (fun y hy=>hr y (by simp[hy])) (by omega),ih _ _ (fun y hy=>hr y (by simp[hy])) (by omega)]
   cases hv:lE x<;>simp[fE,hv]
 exact this p.args 0 [] (fun x hx=>aD.sY h hx) (by have:=aD.cW h;simp;omega)
theorem a7L(l:List Bytes)(hl:l.length≤2097152)(h:∀x∈l,x.length≤1048576):kV l=some (fE l):=by
 unfold kV
 have:∀(r:List Bytes) (i:Nat) (w:List Bytes),(∀x∈r,x.length≤1048576)→w.length+r.length≤2097152→cL l (fun q=>some q) r i w=some (w++fE r):=by
  intro r
  induction r with
  |nil=>intro i w _ _;simp[cL,fE]
  |cons x r ih=>
   intro i w hr hw
   simp only[List.length_cons]at hw
   rw[cL,a4i x (hr x (by simp)),Option.bind_some,n7 (by omega) (by decide),ih _ _ (fun y hy=>hr y (by simp[hy])) (by simp;omega),ih _ _ (fun y hy=>hr y (by simp[hy])) (by omega)]
   cases hv:lE x<;>simp[fE,hv]
 exact this l 0 [] h (by simpa using hl)
def oS(c:aF):List Bytes:=fE (c.pat.args++[c.left,c.right])
theorem xF{c:aF}{n:Nat}(h:c.wt≤n):(oS c).length≤n+2:=by
 have h1:=vY (c.pat.args++[c.left,c.right])
 have h2:=aD.cW (aF.cT h)
 simp only[List.length_append,List.length_cons,List.length_nil]at h1
 unfold oS
 omega
theorem a2R(c:aF)(h:c.wt≤1048576):jP c=some (cD (oS c)):=by
 unfold jP
 have h1:=aD.cW (aF.cT h)
 have h2:=oF (fE c.pat.args)
 have h3:=vY c.pat.args
 have h4:=B6 (cD (fE c.pat.args)) c.left
 rw[QC _ (aF.cT h),Option.bind_some,a0f _ (aF.BL h),Option.bind_some,a0f _ (aF.yG h)]
 simp only[Option.bind_some]
 rw[a2M _ _ (by omega),a2M _ _ (by omega),Option.bind_some,a2M _ _ (by omega)]
 simp only[Option.bind_some,oS,WU,a2K]
 cases hl:lE c.left<;>cases hr:lE c.right<;>simp[fE,hl,hr]
theorem a7M(c:aF)(h:c.wt≤1048576):qI c=some (c.pat.args++[c.left,c.right]):=by
 unfold qI
 have h1:=aD.cW (aF.cT h)
 rw[YK _ (by omega),Option.bind_some]
 rw[UO (by simp;omega) (by decide)]
 rfl
theorem a2S(c:aF)(h:c.wt≤1048576):mM c=some (cD (oS c)):=by
 unfold mM
 have h1:=aD.cW (aF.cT h)
 have h5:=xF h
 rw[a7M c h,Option.bind_some,a7L _ (by simp;omega) (fun x hx=>by
  simp only[List.mem_append,List.mem_cons,List.not_mem_nil,or_false]at hx
  rcases hx with hx|rfl|rfl
  ·exact aD.sY (aF.cT h) hx
  ·exact aF.BL h
  ·exact aF.yG h),Option.bind_some]
 rw[show fE (c.pat.args++[c.left,c.right])=oS c from rfl,YM _ (by omega)]
 rfl
def I7(p:aD):Bool:=p.rel==[]&&decide ((p.args.length:Int)=0)
def qQ(c:aF):Bool:=bif decide (c.kind=1)||decide (c.kind=2)then FE c.pat&&(c.left==[]&&c.right==[])else bif decide (c.kind=3)||decide (c.kind=4)||decide (c.kind=5)then I7 c.pat&&(tA c.left&&tA c.right)else false
def QD(c:aF):Bool:=qQ c&&decide (c.kind≥3)
theorem NT{c:aF}(h:qQ c=true):1≤c.kind∧c.kind≤5:=by
 unfold qQ at h
 by_cases h1:c.kind=1
 ·omega
 by_cases h2:c.kind=2
 ·omega
 by_cases h3:c.kind=3
 ·omega
 by_cases h4:c.kind=4
 ·omega
 by_cases h5:c.kind=5
 ·omega
 simp[h1,h2,h3,h4,h5]at h
theorem a7N(c:aF)(h:c.wt≤1048576):p6 c=some (qQ c):=by
 unfold p6 qQ I7
 simp only[aC9 _ (aF.cT h),a7C _ (aF.BL h),a7C _ (aF.yG h),Option.bind_some,List.length_map,cB]
 by_cases h1:c.kind=1
 ·simp only[h1];cases FE c.pat<;>cases decide (c.left=[])<;>simp
 by_cases h2:c.kind=2
 ·simp only[h2];cases FE c.pat<;>cases decide (c.left=[])<;>simp
 by_cases h3:c.kind=3
 ·simp only[h3];cases decide (c.pat.rel=[])<;>cases decide ((c.pat.args.length:Int)=0)<;>cases tA c.left<;>simp
 by_cases h4:c.kind=4
 ·simp only[h4];cases decide (c.pat.rel=[])<;>cases decide ((c.pat.args.length:Int)=0)<;>cases tA c.left<;>simp
 by_cases h5:c.kind=5
 ·simp only[h5];cases decide (c.pat.rel=[])<;>cases decide ((c.pat.args.length:Int)=0)<;>cases tA c.left<;>simp
 simp[h1,h2,h3,h4,h5]
theorem aAh(p:aD):eG p=some (I7 p):=by
 unfold eG I7
 simp only[List.length_map,cB]
 cases decide (p.rel=[])<;>rfl
theorem a7O(c:aF)(h:c.wt≤1048576):p9 c=some (qQ c):=by
 unfold p9 qQ
 simp only[aCA _ (aF.cT h),a7D _ (aF.BL h),a7D _ (aF.yG h),aAh,Option.bind_some,cB]
 by_cases h1:c.kind=1
 ·simp only[h1];cases FE c.pat<;>cases decide (c.left=[])<;>simp
 by_cases h2:c.kind=2
 ·simp only[h2];cases FE c.pat<;>cases decide (c.left=[])<;>simp
 by_cases h3:c.kind=3
 ·simp only[h3];cases I7 c.pat<;>cases tA c.left<;>cases tA c.right<;>simp
 by_cases h4:c.kind=4
 ·simp only[h4];cases I7 c.pat<;>cases tA c.left<;>cases tA c.right<;>simp
 by_cases h5:c.kind=5
 ·simp only[h5];cases I7 c.pat<;>cases tA c.left<;>cases tA c.right<;>simp
 simp[h1,h2,h3,h4,h5]
theorem a7P(c:aF)(h:c.wt≤1048576):p7 c=some (QD c):=by
 unfold p7 QD
 rw[a7N c h]
 cases qQ c<;>rfl
theorem aEb(c:aF)(h:c.wt≤1048576):vB c=some (QD c):=by
 unfold vB QD
 rw[a7O c h]
 cases qQ c<;>rfl
theorem a7Q(a b:aF):mJ a b=some (decide (a=b)):=by
 obtain⟨a0,a1,a2,a3⟩:=a;obtain⟨b0,b1,b2,b3⟩:=b
 unfold mJ
 simp only[a2Q,Option.bind_some,cB]
 by_cases h0:a0=b0<;>by_cases h1:a1=b1<;>by_cases h2:a2=b2<;>by_cases h3:a3=b3<;>simp[h0,h1,h2,h3]
theorem YQ(a b:aF):gD a b=some (decide (a=b)):=by
 obtain⟨a0,a1,a2,a3⟩:=a;obtain⟨b0,b1,b2,b3⟩:=b
 unfold gD
 simp only[US,Option.bind_some,cB]
 by_cases h0:a0=b0<;>by_cases h1:a1=b1<;>by_cases h2:a2=b2<;>by_cases h3:a3=b3<;>simp[h0,h1,h2,h3]
def UT(a:Action):Bool:=bif decide (a.kind=1)||decide (a.kind=2)then FE a.pat else bif decide (a.kind=3)then I7 a.pat else false
theorem aGg(a:Action)(h:a.wt≤1048576):rO a=some (UT a):=by
 unfold rO UT I7
 simp only[aC9 _ (Action.cT h),Option.bind_some,List.length_map,cB]
 by_cases h1:a.kind=1
 ·simp[h1]
 by_cases h2:a.kind=2
 ·simp[h2]
 by_cases h3:a.kind=3
 ·simp only[h3];cases decide (a.pat.rel=[])<;>simp
 simp[h1,h2,h3]
theorem aGh(a:Action)(h:a.wt≤1048576):rU a=some (UT a):=by
 unfold rU UT
 simp only[aCA _ (Action.cT h),aAh,Option.bind_some,cB]
 by_cases h1:a.kind=1
 ·simp[h1]
 by_cases h2:a.kind=2
 ·simp[h2]
 by_cases h3:a.kind=3
 ·simp[h3]
 simp[h1,h2,h3]
end Go.Cx
namespace Go.Cx
open Go.RowKit Go.Proofs
set_option linter.unusedVariables false
set_option linter.unusedSimpArgs false
theorem a9I:∀(k v:Nat),v<10^k→1≤k→Lib.nDigits v≤k:=by
 intro k
 induction k with
 |zero=>intro v _ h;omega
 |succ k ih=>
  intro v hv _
  by_cases h10:v<10
  ·rw[Lib.nDigits_small h10];omega
  ·rw[Lib.nDigits_big h10]
   have h3:v/10<10^k:=by rw[Nat.pow_succ]at hv;omega
   have hk1:1≤k:=by
    cases k with
    |zero=>simp at hv;omega
    |succ k=>omega
   have:=ih (v/10) h3 hk1
   omega
theorem a2T{u:Nat}(h:u≤9223372036854775808):Lib.nDigits u≤19:=a9I 19 u (by omega) (by omega)
theorem aGi(u:Nat):UInt8.ofNat (IntKind.u8.wrap (IntKind.i64.wrap ((48)+((u:Int)% (10))))).toNat=UInt8.ofNat (48+u%10):=by
 rw[dY (k:=.i64) (rC.i64.2 (by omega)),dY (rC.u8.2 (by omega))]
 congr 1
theorem aAi(k:Option Bytes):∀(n u:Nat) (acc:Bytes),Lib.nDigits u≤n→acc.length+Lib.nDigits u≤1000→dQ k n (u:Int) acc=some (Lib.decDigits u++acc):=by
 intro n
 induction n with
 |zero=>intro u acc h _;have:=Lib.nDigits_pos u;omega
 |succ n ih=>
  intro u acc hn hl
  have hp:=Lib.nDigits_pos u
  have e0:(decide (0≤(u:Int))&&decide (0<(10:Int)))=true:=by simp
  have e1:decide (([UInt8.ofNat (48+u%10)]:Bytes).length+(acc:Bytes).length≤maxLen)=true:=by unfold maxLen;simp;omega
  rw[dQ]
  simp only[aGi,e0,e1,cond_true]
  by_cases h10:u<10
  ·have e2:(((u:Int)/(10):Int)==(0))=true:=by rw[beq_iff_eq];omega
   rw[e2,cond_true,Lib.decDigits,dif_pos h10,Nat.mod_eq_of_lt h10]
  ·have e2:(((u:Int)/(10):Int)==(0))=false:=by rw[beq_eq_false_iff_ne];omega
   have e3:((u:Int)/10)=((u/10:Nat):Int):=by omega
   have hd:=Lib.nDigits_big h10
   rw[e2,cond_false,e3,ih (u/10) _ (by omega) (by simp;omega)]
   conv=>rhs;rw[Lib.decDigits,dif_neg h10]
   simp
theorem aEc(m u:Nat)(h:u≤9223372036854775807):cZ (m+1) (u:Int)=some (Lib.decDigits u):=by
 rw[cZ]
 have e1:(((u:Int))==(-9223372036854775808))=false:=by rw[beq_eq_false_iff_ne];omega
 have e2:decide ((u:Int)<0)=false:=by simp
 have:=a2T (u:=u) (by omega)
 rw[e1,cond_false,e2,cond_false,aAi _ _ _ _ (by unfold fuel;omega) (by simp;omega)]
 simp
theorem a7R:Lib.itoa (-9223372036854775808)=[45,57,50,50,51,51,55,50,48,51,54,56,53,52,55,55,53,56,48,56]:=by
 unfold Lib.itoa
 simp[Lib.decDigits]
theorem aEd(n:Int)(h:rC .i64 n):nF n=some (Lib.itoa n):=by
 have h:=rC.i64.1 h
 unfold nF
 rw[show fuel=4194303+1 from rfl,cZ]
 by_cases hm:n= -9223372036854775808
 ·subst hm
  rw[a7R]
  rfl
 have e1:((n:Int)==(-9223372036854775808))=false:=by rw[beq_eq_false_iff_ne];exact hm
 rw[e1,cond_false]
 by_cases hn:n<0
 ·have e2:decide (n<0)=true:=by simpa using hn
  have e3:IntKind.i64.wrap (0-n)=((n.natAbs:Nat):Int):=by rw[dY (rC.i64.2 (by omega))];omega
  have hd:=a2T (u:=n.natAbs) (by omega)
  rw[e2,cond_true,e3,show(4194303:Nat)=4194302+1 from rfl,aEc _ _ (by omega),Option.bind_some]
  have e4:decide (([45]:Bytes).length+(Lib.decDigits n.natAbs:Bytes).length≤maxLen)=true:=by unfold maxLen;rw[Lib.decDigits_length];simp;omega
  rw[e4,cond_true]
  unfold Lib.itoa
  rw[if_pos hn]
  rfl
 ·have e2:decide (n<0)=false:=by simpa using hn
  have e3:n=((n.toNat:Nat):Int):=by omega
  have:=a2T (u:=n.toNat) (by omega)
  rw[e2,cond_false]
  conv=>lhs;rw[e3]
  rw[aAi _ _ _ _ (by unfold fuel;omega) (by simp;omega)]
  unfold Lib.itoa
  rw[if_neg hn]
  simp
theorem aCB(n:Int):iA n=some (Lib.itoa n):=by
 unfold iA AI
 rfl
theorem UU(n:Int)(h:rC .i64 n):(Lib.itoa n).length≤21:=by
 have:=rC.i64.1 h
 exact Lib.itoa_length_le n this.1 this.2
def IL(to:List aH)(s:Bytes):Bytes:=match to with
 | []=>s
 |p::r=>bif p.var==s then p.value else IL r s
def UW(to:List aH)(x:aF):aF:=⟨x.kind,⟨x.pat.rel,x.pat.args.map (IL to)⟩,IL to x.left,IL to x.right⟩
theorem sRn(to:List aH)(s:Bytes):gT s to=some (IL to s):=by
 unfold gT
 have:∀(r:List aH) (i:Nat),fI s to (some s) r i=some (IL r s):=by
  intro r
  induction r with
  |nil=>intro i;rfl
  |cons x r ih=>
   intro i
   rw[fI,ih,IL]
   cases x.var==s<;>rfl
 exact this to 0
theorem iRn(to:List aH)(s:Bytes):eL s to=some (IL to s):=by
 unfold eL
 have:∀(r:List aH) (i:Nat),dS s to (some s) r i=some (IL r s):=by
  intro r
  induction r with
  |nil=>intro i;rfl
  |cons x r ih=>
   intro i
   rw[dS,ih,IL]
   cases x.var==s<;>rfl
 exact this to 0
theorem aCC(x:aF)(to:List aH)(h:x.pat.args.length≤1099511627770):fV x to=some (UW to x):=by
 unfold fV
 rw[sRn,Option.bind_some,sRn,Option.bind_some]
 rw[SX (c:=tx) (b:=16) (f:=fun a=>gT a to) (g:=IL to) (L:=gU x to (IL to x.left) (IL to x.right) _) (k:=_) (by decide) (fun _ _=>rfl) (fun _ _ _ _=>rfl) _ _ _ (fun a _=>sRn to a) (by simp;omega)]
 rfl
theorem aEe(x:aF)(to:List aH)(h:x.pat.args.length≤1099511627770):j0 x to=some (UW to x):=by
 unfold j0
 rw[iRn,Option.bind_some,iRn,Option.bind_some]
 rw[SX (c:=tx) (b:=16) (f:=fun a=>eL a to) (g:=IL to) (L:=iB x to (IL to x.left) (IL to x.right) _) (k:=_) (by decide) (fun _ _=>rfl) (fun _ _ _ _=>rfl) _ _ _ (fun a _=>iRn to a) (by simp;omega)]
 rfl
def I8(l:List aH)(t:Bytes):Bool:=l.any fun p=>p.var==t
def j5(l:List aH)(t:Bytes):List aH:=bif lE t&& !I8 l t then l++[⟨t,[63]++Lib.itoa ((l.length:Int)+1)⟩]else l
theorem D2(l:List aH)(t:Bytes):(j5 l t).length≤l.length+1:=by
 unfold j5
 cases lE t&& !I8 l t<;>simp
theorem yW:∀(ts:List Bytes) (l:List aH),(ts.foldl j5 l).length≤l.length+ts.length
 | [],l=>by simp
 |t::ts,l=>by
  have h1:=yW ts (j5 l t)
  have h2:=D2 l t
  rw[List.foldl_cons,List.length_cons];omega
theorem YR(l:List aH)(t:Bytes)(hl:l.length≤1099511627770)(ht:t.length≤1048576):mZ l t=some (j5 l t):=by
 unfold mZ
 rw[a0f t ht,Option.bind_some,j5]
 cases hv:lE t with
 |false=>rfl
 |true=>
  rw[Bool.not_true,cond_false,Bool.true_and]
  have key:∀(k:Option (List aH)) (r:List aH) (i:Nat),kO l t k r i=bif I8 r t then some l else k:=by
   intro k r
   induction r with
   |nil=>intro i;rfl
   |cons x r ih=>
    intro i
    rw[kO,ih]
    simp only[I8,List.any_cons]
    cases x.var==t<;>simp
  rw[key]
  cases I8 l t with
  |true=>rfl
  |false=>
   have e1:IntKind.i64.wrap ((((l.map aH.c).length:Int))+1)=(l.length:Int)+1:=by rw[dY (rC.i64.2 (by simp;omega))];simp
   have hr:rC .i64 ((l.length:Int)+1):=rC.i64.2 (by omega)
   have hi:=UU _ hr
   have e2:decide (([63]:Bytes).length+(Lib.itoa ((l.length:Int)+1):Bytes).length≤maxLen)=true:=by unfold maxLen;simp;omega
   simp only[cond_false,Bool.not_false,cond_true]
   rw[e1,aEd _ hr,Option.bind_some,e2,cond_true,n7 (by omega) (by decide)]
   rfl
theorem a0g(x y:Bytes):∀(m:List (Bytes×Bool)),OG false y (UE x true m)=(y==x||OG false y m)
 | []=>by simp only[UE,OG];cases y==x<;>rfl
 |p::m=>by
  simp only[UE]
  cases h:x==p.1 with
  |true=>
   have h':x=p.1:=by simpa using h
   subst h'
   simp only[cond_true,OG]
   cases y==p.1<;>simp
  |false=>
   simp only[cond_false,OG,a0g x y m]
   cases hy:y==p.1 with
   |true=>
    have h1:y=p.1:=by simpa using hy
    have h2:(y==x)=false:=by
     rw[beq_eq_false_iff_ne]at h⊢
     intro e;exact h (e.symm.trans h1)
    simp[h2]
   |false=>simp
theorem a4j(l:List aH)(x y v:Bytes):I8 (l++[⟨x,v⟩]) y=(y==x||I8 l y):=by
 have:(x==y)=(y==x):=by rw[Bool.eq_iff_iff,beq_iff_eq,beq_iff_eq];exact eq_comm
 simp only[I8,List.any_append,List.any_cons,List.any_nil,Bool.or_false,this]
 cases y==x<;>simp
theorem a3J(ts:List Bytes)(hl:ts.length≤1099511627700)(h:∀x∈ts,x.length≤1048576):mB ts=some (ts.foldl j5 []):=by
 unfold mB
 have key:∀(r:List Bytes) (i:Nat) (w:List aH) (m:List (Bytes×Bool)),(∀x∈r,x.length≤1048576)→w.length+r.length≤1099511627700→(∀y,OG false y m=I8 w y)→
  cC ts (fun q=>some q) r i w m=some (r.foldl j5 w):=by
  intro r
  induction r with
  |nil=>intro i w m _ _ _;rfl
  |cons x r ih=>
   intro i w m hx hw hm
   simp only[List.length_cons]at hw
   have hr:rC .i64 ((w.length:Int)+1):=rC.i64.2 (by omega)
   have hi:=UU _ hr
   have e1:IntKind.i64.wrap ((((w.map aH.c).length:Int))+1)=(w.length:Int)+1:=by rw[dY (rC.i64.2 (by simp;omega))];simp
   have e2:decide (([63]:Bytes).length+(Lib.itoa ((w.length:Int)+1):Bytes).length≤maxLen)=true:=by unfold maxLen;simp;omega
   rw[cC,a4i x (hx x (by simp)),Option.bind_some,List.foldl_cons,j5,hm x]
   cases hv:lE x with
   |false=>simp only[cond_false,Bool.false_and];exact ih _ _ _ (fun y hy=>hx y (by simp[hy])) (by omega) hm
   |true=>
    cases hh:I8 w x with
    |true=>simp only[cond_true,Bool.not_true,cond_false,Bool.true_and];exact ih _ _ _ (fun y hy=>hx y (by simp[hy])) (by omega) hm
    |false=>
     simp only[cond_true,Bool.not_false,Bool.true_and]
     rw[e1,aCB,Option.bind_some,e2,cond_true,n7 (by omega) (by decide),cond_true]
     exact ih _ _ _ (fun y hy=>hx y (by simp[hy])) (by simp;omega) (fun y=>by rw[a0g,a4j,hm])
 exact key ts 0 [] [] h (by simpa using hl) (fun y=>rfl)
def NU(p:aD):aD:=(UW (p.args.foldl j5 []) ⟨0,p,[],[]⟩).pat
theorem aCD(p:aD)(h:p.wt≤1048576):qB p=some (NU p):=by
 have hl:=aD.cW h
 unfold qB
 have key:∀(k:List aH→Option aD) (r:List Bytes) (i:Nat) (w:List aH),(∀x∈r,x.length≤1048576)→w.length+r.length≤1099511627700→iT p k r i w=k (r.foldl j5 w):=by
  intro k r
  induction r with
  |nil=>intro i w _ _;rfl
  |cons x r ih=>
   intro i w hx hw
   simp only[List.length_cons]at hw
   have:=D2 w x
   rw[iT,YR w x (by omega) (hx x (by simp)),Option.bind_some,ih _ _ (fun y hy=>hx y (by simp[hy])) (by omega)]
   rfl
 rw[key _ _ _ _ (fun x hx=>aD.sY h hx) (by simp;omega),aCC _ _ (by simp;omega)]
 rfl
theorem aCE(p:aD)(h:p.wt≤1048576):qK p=some (NU p):=by
 have hl:=aD.cW h
 unfold qK
 rw[a3J _ (by omega) (fun x hx=>aD.sY h hx),Option.bind_some,aEe _ _ (by simp;omega)]
 rfl
def yX(l:List aF):List Bytes:=l.flatMap fun c=>c.pat.args++[c.left,c.right]
theorem a2U(l:List aF):(yX l).length≤3*j6 aF.wt l:=by
 unfold yX
 induction l with
 |nil=>simp
 |cons x l ih=>
  rw[List.flatMap_cons,List.length_append,pP]
  have:=aD.cW (aF.cT (c:=x) (Nat.le_refl _))
  simp only[List.length_append,List.length_cons,List.length_nil]
  omega
def nX(r:aI):List aH:=(yX r.conds).foldl j5 []
def fU(r:aI):List aF:=r.conds.map (UW (nX r))
theorem a7S(a:aI)(i:Nat)(c:aF)(k:List aH→Option (List aH)):∀(r:List Bytes) (j:Nat) (w:List aH),(∀x∈r,x.length≤1048576)→w.length+r.length≤1099511627700→e9 a i c k r j w=k (r.foldl j5 w):=by
 intro r
 induction r with
 |nil=>intro i w _ _;rfl
 |cons x r ih=>
  intro i w hx hw
  simp only[List.length_cons]at hw
  have:=D2 w x
  rw[e9,YR w x (by omega) (hx x (by simp)),Option.bind_some,ih _ _ (fun y hy=>hx y (by simp[hy])) (by omega)]
  rfl
theorem aCF(r:aI)(h:r.wt≤1048576):oL r=some (nX r):=by
 unfold oL
 have key:∀(l:List aF) (i:Nat) (w:List aH),(∀c∈l,c.wt≤1048576)→w.length+3*j6 aF.wt l≤1099511627700→eA r (fun q=>some q) l i w=some ((yX l).foldl j5 w):=by
  intro l
  induction l with
  |nil=>intro i w _ _;rfl
  |cons c l ih=>
   intro i w hc hw
   rw[pP]at hw
   have hcw:=hc c (by simp)
   have ha:=aD.cW (aF.cT (c:=c) (Nat.le_refl _))
   have h1:=yW c.pat.args w
   have h2:=D2 (c.pat.args.foldl j5 w) c.left
   have h3:=D2 (j5 (c.pat.args.foldl j5 w) c.left) c.right
   rw[eA,wM (by omega),cond_true,a7S _ _ _ _ _ _ _ (fun x hx=>aD.sY (aF.cT hcw) hx) (by omega),YR _ _ (by omega) (aF.BL hcw),Option.bind_some,YR _ _ (by omega) (aF.yG hcw),Option.bind_some,
    ih _ _ (fun y hy=>hc y (by simp[hy])) (by omega)]
   simp[yX]
 have:=aI.s5 h
 exact key r.conds 0 [] (fun c hc=>aI.pL h hc) (by simp;omega)
theorem aCG(r:aI)(h:r.wt≤1048576):oQ r=some (nX r):=by
 unfold oQ
 have hw:=aI.s5 h
 have key:∀(k:List Bytes→Option (List aH)) (l:List aF) (i:Nat) (w:List Bytes),(∀c∈l,c.wt≤1048576)→w.length+3*j6 aF.wt l≤1099511627700→cY r k l i w=k (w++yX l):=by
  intro k l
  induction l with
  |nil=>intro i w _ _;simp[cY,yX]
  |cons c l ih=>
   intro i w hc hw
   rw[pP]at hw
   have hcw:=hc c (by simp)
   have ha:=aD.cW (aF.cT (c:=c) (Nat.le_refl _))
   rw[cY,a7M c hcw,Option.bind_some,a78 (by simp;omega) (by decide),cond_true,ih _ _ (fun y hy=>hc y (by simp[hy])) (by simp;omega)]
   simp[yX]
 have hl:=a2U r.conds
 rw[key _ _ _ _ (fun c hc=>aI.pL h hc) (by simp;omega),List.nil_append,a3J _ (by omega) ?_]
 ·rfl
 ·intro x hx
  unfold yX at hx
  obtain⟨c,hc,hx⟩:=List.mem_flatMap.1 hx
  have hcw:=aI.pL h hc
  rcases List.mem_append.1 hx with hx|hx
  ·exact aD.sY (aF.cT hcw) hx
  ·simp only[List.mem_cons,List.not_mem_nil,or_false]at hx
   rcases hx with rfl|rfl
   ·exact aF.BL hcw
   ·exact aF.yG hcw
theorem aCH(r:aI)(h:r.wt≤1048576):oM r=some (fU r):=by
 unfold oM
 have hw:=aI.s5 h
 have hl:=gB aF.wt r.conds
 rw[aCF r h,Option.bind_some]
 rw[SX (c:=aF.c) (b:=80) (f:=fun a=>fV a (nX r)) (g:=UW (nX r)) (L:=gY r (nX r) _) (k:=_) (by decide) (fun _ _=>rfl) (fun _ _ _ _=>rfl) _ _ _ (fun c hc=>aCC c _ (by have:=aD.cW (aF.cT (aI.pL h hc));omega)) (by simp;omega)]
 simp[fU]
theorem aCI(r:aI)(h:r.wt≤1048576):oR r=some (fU r):=by
 unfold oR
 have hw:=aI.s5 h
 have hl:=gB aF.wt r.conds
 rw[aCG r h,Option.bind_some]
 rw[SX (c:=aF.c) (b:=80) (f:=fun a=>j0 a (nX r)) (g:=UW (nX r)) (L:=iC r (nX r) _) (k:=_) (by decide) (fun _ _=>rfl) (fun _ _ _ _=>rfl) _ _ _ (fun c hc=>aEe c _ (by have:=aD.cW (aF.cT (aI.pL h hc));omega)) (by simp;omega)]
 simp[fU]
end Go.Cx
namespace Go.Cx
open Go.RowKit Go.Proofs
set_option linter.unusedVariables false
set_option linter.unusedSimpArgs false
theorem Node.a7T{x:Node}{n:Nat}(h:x.wt≤n):x.cond.wt≤n:=by simp only[Node.wt,aF.wt]at h⊢;omega
theorem aG.a7U{n:aG}{k:Nat}(h:n.wt≤k){x:Node}(hx:x∈n.nodes):x.wt≤k:=by simp only[aG.wt]at h;have:=iP (w:=Node.wt) hx;omega
theorem aG.a4l{n:aG}{k:Nat}(h:n.wt≤k):n.nodes.length≤k:=by simp only[aG.wt]at h;have:=gB Node.wt n.nodes;omega
def NOk(n:aG):Prop:=n.nodes.length≤1048576∧∀x∈n.nodes,x.cond.wt≤1048576
theorem NOk.a3K{n:aG}(h:n.wt≤1048576):NOk n:=⟨aG.a4l h,fun x hx=>Node.a7T (aG.a7U h hx)⟩
theorem a9J(s:Bytes):IL [] s=s:=rfl
theorem a7V(x:aF):UW [] x=x:=by
 have:x.pat.args.map (IL [])=x.pat.args:=by
  rw[show(IL [])=id from funext a9J];simp
 unfold UW
 rw[this]
 rfl
def bZ(i:Nat):Int:=(i:Int)
def VS(ns:List Node):Nat→Nat→List Nat
 |0,_=>[]
 |k+1,v=>v::(match ns[v]? with
  |some x=>if 1≤x.parent∧x.parent<(v:Int)then VS ns k x.parent.toNat else []
  |none=>[])
def C8(ns:List Node)(i:Nat):Option aF:=(ns[i]?).map Node.cond
def LB(ns:List Node)(k v:Nat):List aF:=(VS ns k v).reverse.filterMap (C8 ns)
def gA(ns:List Node)(v:Int):List aF:=if 1≤v∧v<(ns.length:Int)then LB ns v.toNat v.toNat else []
theorem a0h{ns:List Node}{k v:Nat}{x:Node}(hx:ns[v]?=some x):VS ns (k+1) v=v::(if 1≤x.parent∧x.parent<(v:Int)then VS ns k x.parent.toNat else []):=by simp only[VS,hx]
theorem a7W(ns:List Node):∀(k v:Nat),v<ns.length→∀i∈VS ns k v,i<ns.length
 |0,v,_,i,hi=>by cases hi
 |k+1,v,hv,i,hi=>by
  rw[VS]at hi
  rcases List.mem_cons.1 hi with rfl|hi
  ·exact hv
  ·split at hi
   ·split at hi
    ·rename_i x hx hp
     exact a7W ns k _ (by omega) i hi
    ·cases hi
   ·cases hi
theorem a3L(ns:List Node):∀(k v:Nat),(VS ns k v).length≤k
 |0,v=>by simp[VS]
 |k+1,v=>by
  rw[VS,List.length_cons]
  split
  ·split
   ·have:=a3L ns k (by assumption:Node).parent.toNat;omega
   ·simp
  ·simp
theorem UX{ns:List Node}{k v:Nat}{x:Node}(hx:ns[v]?=some x):LB ns (k+1) v=(if 1≤x.parent∧x.parent<(v:Int)then LB ns k x.parent.toNat else [])++[x.cond]:=by
 have hc:C8 ns v=some x.cond:=by unfold C8;rw[hx];rfl
 unfold LB
 rw[a0h hx]
 by_cases hp:1≤x.parent∧x.parent<(v:Int)
 ·rw[if_pos hp,if_pos hp];simp[hc]
 ·rw[if_neg hp,if_neg hp];simp[hc]
theorem a2V(x:aF)(h:x.pat.args.length≤1099511627770):mY x=some x:=by
 unfold mY
 rw[aCC x [] h,Option.bind_some,a7V]
theorem a2W(x:aF)(h:x.pat.args.length≤1099511627770):eR x=some x:=by
 unfold eR dG
 rw[YK x.pat.args (by omega)]
 rfl
theorem aCJ(n:aG)(h:NOk n)(K:List aF→Option (List aF)):∀(k v fu:Nat) (w:List aF),v≤k→1≤v→v<n.nodes.length→k<fu→w.length+k≤4194304→eY n K fu (v:Int) w=K (LB n.nodes k v++w):=by
 have hl:=h.1
 intro k
 induction k with
 |zero=>intro v fu w h1 h2;omega
 |succ k ih=>
  intro v fu w h1 h2 h3 h4 h5
  obtain⟨fu,rfl⟩:∃m,fu=m+1:=⟨fu-1,by omega⟩
  have hx:n.nodes[v]?=some n.nodes[v]:=List.getElem?_eq_getElem h3
  have hw:=h.2 _ (List.getElem_mem h3)
  generalize hxe:n.nodes[v]=x at*
  have e1:IntKind.i64.wrap ((((n.nodes.map Node.c).length:Int))-1)=((n.nodes.length:Int))-1:=by rw[List.length_map];exact dY (rC.i64.2 (by omega))
  have e2:(decide ((v:Int)≥1)&&decide ((v:Int)≤((n.nodes.length:Int))-1))=true:=by simp;omega
  have e3:oI n.nodes (v:Int)=some x:=by unfold oI;rw[decide_eq_true (by omega),cond_true];exact hx
  have e4:=a2V x.cond (by have:=aD.cW (aF.cT hw);omega)
  rw[eY,e1,QA,Option.bind_some,e2,cond_true,e3,Option.bind_some,e4,Option.bind_some,UO (by simp;omega) (by decide),cond_true,UX hx]
  by_cases h6:x.parent≥(v:Int)
  ·rw[decide_eq_true h6,cond_true,if_neg (by omega)];rfl
  ·rw[decide_eq_false h6,cond_false]
   by_cases h7:1≤x.parent
   ·rw[if_pos ⟨h7,by omega⟩]
    obtain⟨m,hm⟩:=Int.eq_ofNat_of_zero_le (by omega:0≤x.parent)
    rw[hm]
    rw[ih m fu ([x.cond]++w) (by omega) (by omega) (by omega) (by omega) (by simp;omega)]
    simp
   ·rw[if_neg (by omega)]
    obtain⟨fu,rfl⟩:∃m,fu=m+1:=⟨fu-1,by omega⟩
    have e5:(decide (x.parent≥1)&&decide (x.parent≤((n.nodes.length:Int))-1))=false:=by
     rw[decide_eq_false (by omega)];rfl
    rw[eY,e1,QA,Option.bind_some,e5,cond_false]
    rfl
theorem aCK(n:aG)(v:Int)(h:NOk n):uY n v=some (gA n.nodes v):=by
 have hl:=h.1
 unfold uY gA
 by_cases hv:1≤v∧v<(n.nodes.length:Int)
 ·rw[if_pos hv]
  obtain⟨m,rfl⟩:=Int.eq_ofNat_of_zero_le (by omega:0≤v)
  rw[aCJ n h _ m m fuel [] (Nat.le_refl _) (by omega) (by omega) (by unfold fuel;omega) (by simp;omega)]
  simp
 ·rw[if_neg hv]
  have e1:IntKind.i64.wrap ((((n.nodes.map Node.c).length:Int))-1)=((n.nodes.length:Int))-1:=by rw[List.length_map];exact dY (rC.i64.2 (by omega))
  have e2:(decide (v≥1)&&decide (v≤((n.nodes.length:Int))-1))=false:=by
   by_cases h1:1≤v
   ·have h2:¬v≤(n.nodes.length:Int)-1:=by omega
    rw[decide_eq_false h2,Bool.and_false]
   ·rw[decide_eq_false h1];rfl
  rw[show fuel=4194303+1 from rfl,eY,e1,QA,Option.bind_some,e2,cond_false]
theorem a9K(n:aG)(h:NOk n)(K:List Int→Option (List aF)):∀(k v fu:Nat) (w:List Int),v≤k→1≤v→v<n.nodes.length→k<fu→w.length+k≤4194304→kZ n K fu (v:Int) w=K (w++(VS n.nodes k v).map bZ):=by
 have hl:=h.1
 intro k
 induction k with
 |zero=>intro v fu w h1 h2;omega
 |succ k ih=>
  intro v fu w h1 h2 h3 h4 h5
  obtain⟨fu,rfl⟩:∃m,fu=m+1:=⟨fu-1,by omega⟩
  have hx:n.nodes[v]?=some n.nodes[v]:=List.getElem?_eq_getElem h3
  generalize hxe:n.nodes[v]=x at*
  have e3:oI n.nodes (v:Int)=some x:=by unfold oI;rw[decide_eq_true (by omega),cond_true];exact hx
  rw[kZ,n7 (by omega) (by decide),cond_true,e3,Option.bind_some,a0h hx]
  by_cases h7:x.parent<1
  ·rw[decide_eq_true h7,cond_true,if_neg (by omega)];rfl
  ·rw[decide_eq_false h7,cond_false]
   by_cases h6:x.parent≥(v:Int)
   ·rw[decide_eq_true h6,cond_true,if_neg (by omega)];rfl
   ·rw[decide_eq_false h6,cond_false,if_pos ⟨by omega,by omega⟩]
    obtain⟨m,hm⟩:=Int.eq_ofNat_of_zero_le (by omega:0≤x.parent)
    rw[hm,ih m fu (w++[(v:Int)]) (by omega) (by omega) (by omega) (by omega) (by simp;omega)]
    simp[bZ]
theorem a9L(n:aG)(h:NOk n)(us:List Nat)(uB:∀i∈us,i<n.nodes.length)(hul:us.length≤1048576)(K:List aF→Option (List aF)):∀(j fu:Nat) (w:List aF),j≤us.length→j<fu→w.length+j≤4194304→iH n (us.map bZ) K fu ((j:Int)-1) w=K (w++((us.take j).reverse.filterMap (C8 n.nodes))):=by
 intro j
 induction j with
 |zero=>
  intro fu w _ hf _
  obtain⟨fu,rfl⟩:∃m,fu=m+1:=⟨fu-1,by omega⟩
  rw[iH,decide_eq_false (by omega),cond_false]
  simp
 |succ j ih=>
  intro fu w hj hf hw
  obtain⟨fu,rfl⟩:∃m,fu=m+1:=⟨fu-1,by omega⟩
  have hlt:j<us.length:=by omega
  have h3:=uB us[j] (List.getElem_mem hlt)
  have hx:n.nodes[us[j]]?=some n.nodes[us[j]]:=List.getElem?_eq_getElem h3
  have hww:=h.2 _ (List.getElem_mem h3)
  generalize hxe:n.nodes[us[j]]=x at*
  have e0:((j+1:Nat):Int)-1=(j:Int):=by omega
  have e1:oI (us.map bZ) (j:Int)=some ((us[j]:Nat):Int):=by
   unfold oI;rw[decide_eq_true (by omega),cond_true]
   show(us.map bZ)[(j:Int).toNat]?=_
   rw[Int.toNat_natCast,List.getElem?_map,List.getElem?_eq_getElem hlt];rfl
  have e3:oI n.nodes ((us[j]:Nat):Int)=some x:=by unfold oI;rw[decide_eq_true (by omega),cond_true];exact hx
  have e4:=a2W x.cond (by have:=aD.cW (aF.cT hww);omega)
  have e5:IntKind.i64.wrap ((j:Int)-1)=(j:Int)-1:=dY (rC.i64.2 (by omega))
  rw[e0,iH,decide_eq_true (by omega),cond_true,e1,Option.bind_some,e3,Option.bind_some,e4,Option.bind_some,n7 (by omega) (by decide),cond_true,e5,ih fu _ (by omega) (by omega) (by simp;omega)]
  have hc:C8 n.nodes us[j]=some x.cond:=by unfold C8;rw[hx];rfl
  have ht:us.take (j+1)=us.take j++[us[j]]:=by rw[List.take_add_one,List.getElem?_eq_getElem hlt];rfl
  rw[ht,List.reverse_append,List.filterMap_append]
  simp[hc]
theorem aCL(n:aG)(v:Int)(h:NOk n):vA n v=some (gA n.nodes v):=by
 have hl:=h.1
 unfold vA gA
 rw[List.length_map]
 by_cases h1:v<1
 ·rw[decide_eq_true h1,cond_true,if_neg (by omega)]
 ·rw[decide_eq_false h1,cond_false]
  by_cases h2:v≥(n.nodes.length:Int)
  ·rw[decide_eq_true h2,cond_true,if_neg (by omega)]
  ·rw[decide_eq_false h2,cond_false,if_pos ⟨by omega,by omega⟩]
   obtain⟨m,rfl⟩:=Int.eq_ofNat_of_zero_le (by omega:0≤v)
   rw[a9K n h _ m m fuel [] (Nat.le_refl _) (by omega) (by omega) (by unfold fuel;omega) (by simp;omega)]
   have hul:=a3L n.nodes m m
   have e5:IntKind.i64.wrap ((((([]:List Int)++(VS n.nodes m m).map bZ).map iL).length:Int)-1)=(((VS n.nodes m m).length:Nat):Int)-1:=by
    rw[List.nil_append,List.length_map,List.length_map];exact dY (rC.i64.2 (by omega))
   rw[e5,List.nil_append,a9L n h (VS n.nodes m m) (a7W n.nodes m m (by omega)) (by omega) _ (VS n.nodes m m).length fuel [] (Nat.le_refl _) (by unfold fuel;omega) (by simp;omega),List.take_length]
   rfl
end Go.Cx
namespace Go.Cx
open Go.RowKit Go.Proofs
set_option linter.unusedVariables false
set_option linter.unusedSimpArgs false
def nmB(k:Nat):Bytes:=[63]++Lib.itoa ((k:Int)+1)
theorem decDigits_one{u:Nat}(h:u<10):Lib.decDigits u=[UInt8.ofNat (48+u)]:=by
 rw[Lib.decDigits,dif_pos h]
theorem a9M:∀i,i<6→nmB i=[63,UInt8.ofNat (49+i)]
 |0,_|1,_|2,_|3,_|4,_|5,_=>by
  unfold nmB Lib.itoa
  rw[if_neg (by decide),decDigits_one (by decide)]
  decide
 |n+6,h=>by omega
def WfN(N:List aH):Prop:=∀(i:Nat) p,N[i]?=some p→p.value=nmB i∧lE p.var=true
theorem a0i(N:List aH)(t:Bytes):I8 N t=true↔∃p∈N,p.var=t:=by simp[I8]
theorem a4m(N:List aH)(t:Bytes){p:aH}(h:p∈N):p∈j5 N t:=by
 unfold j5
 cases lE t&& !I8 N t<;>simp[h]
theorem a0j:∀(ts:List Bytes) (N:List aH) {p:aH},p∈N→p∈ts.foldl j5 N
 | [],_,_,h=>h
 |t::ts,N,p,h=>a0j ts (j5 N t) (a4m N t h)
theorem a7X{N:List aH}(h:WfN N)(t:Bytes):WfN (j5 N t):=by
 unfold j5
 cases hv:lE t&& !I8 N t with
 |false=>exact h
 |true=>
  simp only[Bool.and_eq_true]at hv
  intro i p hp
  rw[cond_true]at hp
  rcases Nat.lt_or_ge i N.length with hlt|hge
  ·rw[List.getElem?_append_left hlt]at hp;exact h i p hp
  ·rw[List.getElem?_append_right hge]at hp
   cases hi:i-N.length with
   |zero=>
    rw[hi]at hp;simp at hp;subst hp
    have:i=N.length:=by omega
    subst this;exact⟨rfl,hv.1⟩
   |succ m=>rw[hi]at hp;simp at hp
theorem TE:∀(ts:List Bytes) {N:List aH},WfN N→WfN (ts.foldl j5 N)
 | [],_,h=>h
 |t::ts,_,h=>TE ts (a7X h t)
def NdK(N:List aH):Prop:=(N.map aH.var).Nodup
theorem a4n{N:List aH}(h:NdK N)(t:Bytes):NdK (j5 N t):=by
 unfold j5
 cases hv:lE t&& !I8 N t with
 |false=>exact h
 |true=>
  simp only[Bool.and_eq_true,Bool.not_eq_true']at hv
  rw[cond_true]
  unfold NdK
  rw[List.map_append,List.nodup_append]
  refine⟨h,by simp,?_⟩
  intro a ha b hb e
  simp at hb
  subst hb;subst e
  obtain⟨p,hp,he⟩:=List.mem_map.1 ha
  have:=(a0i N a).2 ⟨p,hp,he⟩
  rw[hv.2]at this;cases this
theorem QE:∀(ts:List Bytes) {N:List aH},NdK N→NdK (ts.foldl j5 N)
 | [],_,h=>h
 |t::ts,_,h=>QE ts (a4n h t)
theorem a0k:∀(ts:List Bytes) (N:List aH) {t:Bytes},t∈ts→lE t=true→∃p∈ts.foldl j5 N,p.var=t
 |x::ts,N,t,h,hv=>by
  rcases List.mem_cons.1 h with rfl|h
  ·have:∃p∈j5 N t,p.var=t:=by
    unfold j5
    cases hh:I8 N t with
    |true=>rw[hv];exact(a0i N t).1 hh
    |false=>rw[hv];exact⟨⟨t,[63]++Lib.itoa ((N.length:Int)+1)⟩,by simp,rfl⟩
   obtain⟨p,hp,he⟩:=this
   exact⟨p,a0j ts _ hp,he⟩
  ·exact a0k ts _ h hv
theorem YS:∀ {N:List aH} {p:aH},NdK N→p∈N→IL N p.var=p.value
 |q::N,p,hn,hp=>by
  unfold NdK at hn
  rw[List.map_cons,List.nodup_cons]at hn
  rcases List.mem_cons.1 hp with rfl|hp
  ·simp[IL]
  ·have hne:(q.var==p.var)=false:=by
    rw[beq_eq_false_iff_ne]
    intro e
    exact hn.1 (by rw[e];exact List.mem_map.2 ⟨p,hp,rfl⟩)
   rw[IL,hne,cond_false]
   exact YS (show NdK N from hn.2) hp
theorem RM:∀ {N:List aH} {t:Bytes},(∀p∈N,p.var≠t)→IL N t=t
 | [],t,_=>rfl
 |q::N,t,h=>by
  have hne:(q.var==t)=false:=by rw[beq_eq_false_iff_ne];exact h q (by simp)
  rw[IL,hne,cond_false]
  exact RM fun p hp=>h p (by simp[hp])
theorem WfN.nil:WfN []:=fun i p h=>by simp at h
theorem NdK.nil:NdK []:=by simp[NdK]
theorem a0l(ts:List Bytes):(ts.foldl j5 []).length≤ts.length:=by simpa using yW ts []
theorem a2X{N:List aH}(h:WfN N){p:aH}(hp:p∈N):∃i,i<N.length∧N[i]?=some p∧p.value=nmB i∧lE p.var=true:=by
 obtain⟨i,hi⟩:=List.getElem?_of_mem hp
 exact⟨i,(List.getElem?_eq_some_iff.1 hi).1,hi,h i p hi⟩
theorem a7Y{ts:List Bytes}{t:Bytes}(ht:lE t=false):IL (ts.foldl j5 []) t=t:=
 RM fun p hp e=>by
  obtain⟨i,_,_,_,hv⟩:=a2X (TE ts WfN.nil) hp
  rw[e,ht]at hv;cases hv
theorem a3N:∀i,i<6→(nmB i).length≤16:=by
 intro i hi
 rw[a9M i hi]
 simp
theorem aCM{ts:List Bytes}(hl:ts.length≤5){t:Bytes}(ht:t.length≤16):(IL (ts.foldl j5 []) t).length≤16:=by
 by_cases h:∃p∈ts.foldl j5 [],p.var=t
 ·obtain⟨p,hp,he⟩:=h
  rw[←he,YS (QE ts NdK.nil) hp]
  obtain⟨i,hi,_,hpv,_⟩:=a2X (TE ts WfN.nil) hp
  have:=a0l ts
  rw[hpv];exact a3N i (by omega)
 ·rw[RM (fun p hp e=>h ⟨p,hp,e⟩)];exact ht
end Go.Cx
namespace Go.Cx
open Go.RowKit Go.Proofs
set_option linter.unusedVariables false
set_option linter.unusedSimpArgs false
def SY(c:aF):List Bytes:=bif decide (c.kind=1)then fE c.pat.args else []
theorem a7Z{c:aF}:(SY c).length≤c.wt:=by
 unfold SY
 have h2:=vY c.pat.args
 have h3:=aD.cW (aF.cT (Nat.le_refl c.wt))
 cases decide (c.kind=1)<;>simp;omega
def BF(r:aI)(n:Int):List Bytes:=(r.conds.take n.toNat).flatMap SY
theorem WV{α:Type}(x:α)(xs:List α)(n:Int)(i:Nat):(x::xs).take (n-(i:Int)).toNat=if(i:Int)<n then x::xs.take (n-((i+1:Nat):Int)).toNat else []:=by
 by_cases h:(i:Int)<n
 ·rw[if_pos h]
  obtain⟨m,hm⟩:∃m,(n-(i:Int)).toNat=m+1:=⟨(n-(i:Int)).toNat -1,by omega⟩
  have:(n-((i+1:Nat):Int)).toNat=m:=by omega
  rw[hm,this];rfl
 ·rw[if_neg h,show(n-(i:Int)).toNat=0 from by omega];rfl
theorem I9{α β:Type}{f:α→List β}{w:α→Nat}(l:List α)(h:∀x∈l,(f x).length≤w x+2):(l.flatMap f).length≤3*j6 w l:=by
 induction l with
 |nil=>simp[j6]
 |cons x l ih=>
  rw[List.flatMap_cons,List.length_append,pP]
  have h1:=h x (by simp)
  have h2:=ih (fun y hy=>h y (by simp[hy]))
  omega
theorem a7a{r:aI}{n:Nat}(h:r.wt≤n)(m:Int):(BF r m).length≤3*n:=by
 unfold BF
 have h1:=I9 (w:=aF.wt) (f:=SY) (r.conds.take m.toNat) (fun c _=>by have:= @a7Z c;omega)
 have h2:j6 aF.wt (r.conds.take m.toNat)≤j6 aF.wt r.conds:=by
  conv=>rhs;rw[←List.take_append_drop m.toNat r.conds]
  rw[a1s];omega
 have h3:=aI.s5 h
 omega
theorem a7b(a:aI)(n:Int)(i:Nat)(y:List Bytes)(k:List Bytes→Option (List Bytes)):∀(l:List Bytes) (j:Nat) (w:List Bytes),w.length+l.length≤1099511627770→fK a n i y k l j w=k (l.foldl yV w):=by
 intro l
 induction l with
 |nil=>intro j w _;rfl
 |cons x l ih=>
  intro j w hw
  simp only[List.length_cons]at hw
  have:=B6 w x
  rw[fK,a2M w x (by omega),Option.bind_some,ih _ _ (by omega)];rfl
theorem a9N(a:aI)(n:Int)(k:List Bytes→Option (List Bytes)):∀(l:List aF) (i:Nat) (acc:List Bytes),(∀c∈l,c.wt≤1048576)→acc.length+j6 aF.wt l≤2097152→
 cK a n k l i (cD acc)=k (cD (acc++(l.take (n-(i:Int)).toNat).flatMap SY)):=by
 intro l
 induction l with
 |nil=>intro i acc _ _;simp[cK]
 |cons c l ih=>
  intro i acc hc hb
  rw[pP]at hb
  have hwt:=hc c (by simp)
  have hv:=vY c.pat.args
  have ha:=aD.cW (aF.cT (Nat.le_refl c.wt))
  have hu:=oF (fE c.pat.args)
  have hu2:=oF acc
  rw[cK,WV]
  by_cases hi:(i:Int)<n
  ·have e1:decide (((i:Int):Int)<n)=true:=by simp[hi]
   rw[e1,cond_true,if_pos hi]
   by_cases hk:c.kind=1
   ·have e2:((c.kind:Int)==1)=true:=by simp[hk]
    rw[e2,cond_true,QC _ (aF.cT hwt),Option.bind_some,wM (by omega),cond_true,a7b _ _ _ _ _ _ _ _ (by omega),I5,ih _ _ (fun x hx=>hc x (by simp[hx])) (by simp;omega)]
    simp[SY,hk]
   ·have e2:((c.kind:Int)==1)=false:=by simp[hk]
    rw[e2,cond_false,ih _ _ (fun x hx=>hc x (by simp[hx])) (by omega)]
    simp[SY,hk]
  ·have e1:decide (((i:Int):Int)<n)=false:=by simp[hi]
   rw[e1,cond_false,if_neg hi]
   simp
theorem a7c(r:aI)(n:Int)(h:r.wt≤1048576):kK r n=some (cD (BF r n)):=by
 unfold kK
 have:=a9N r n (fun q=>some q) r.conds 0 [] (fun c hc=>aI.pL h hc) (by have:=aI.s5 h;simp;omega)
 rw[show cD []=[]from rfl]at this
 rw[this]
 simp[BF]
theorem a9O(a:aI)(n:Int)(k:List Bytes→Option (List Bytes)):∀(l:List aF) (i:Nat) (w:List Bytes),(∀c∈l,c.wt≤1048576)→w.length+j6 aF.wt l≤2097152→
 bW a n k l i w=k (w++(l.take (n-(i:Int)).toNat).flatMap SY):=by
 intro l
 induction l with
 |nil=>intro i w _ _;simp[bW]
 |cons c l ih=>
  intro i w hc hb
  rw[pP]at hb
  have hwt:=hc c (by simp)
  have hv:=vY c.pat.args
  have ha:=aD.cW (aF.cT (Nat.le_refl c.wt))
  rw[bW,WV]
  by_cases hi:(i:Int)<n
  ·have e1:decide (((i:Int):Int)<n)=true:=by simp[hi]
   rw[e1,cond_true,if_pos hi]
   by_cases hk:c.kind=1
   ·have e2:((c.kind:Int)==1)=true:=by simp[hk]
    rw[e2,cond_true,a7L _ (by omega) (fun x hx=>aD.sY (aF.cT hwt) hx),Option.bind_some,a78 (by omega) (by decide),cond_true,ih _ _ (fun x hx=>hc x (by simp[hx])) (by simp;omega)]
    simp[SY,hk]
   ·have e2:((c.kind:Int)==1)=false:=by simp[hk]
    rw[e2,cond_false,ih _ _ (fun x hx=>hc x (by simp[hx])) (by omega)]
    simp[SY,hk]
  ·have e1:decide (((i:Int):Int)<n)=false:=by simp[hi]
   rw[e1,cond_false,if_neg hi,ih _ _ (fun x hx=>hc x (by simp[hx])) (by omega),show(n-((i+1:Nat):Int)).toNat=0 from by omega]
   simp
theorem a7d(r:aI)(n:Int)(h:r.wt≤1048576):nI r n=some (cD (BF r n)):=by
 unfold nI
 have hl:=a7a h n
 rw[a9O r n _ r.conds 0 [] (fun c hc=>aI.pL h hc) (by have:=aI.s5 h;simp;omega)]
 have e:([]:List Bytes)++(r.conds.take (n-((0:Nat):Int)).toNat).flatMap SY=BF r n:=by simp[BF]
 rw[e,YM _ (by omega)]
 rfl
def FF(l:List aF):List Bytes:=l.flatMap oS
def a9P(l:List Action):List Bytes:=l.flatMap fun a=>fE a.pat.args
def aCN(r:aI):List Bytes:=FF r.conds++a9P r.bC
theorem a7e(l:List aF):(FF l).length≤3*j6 aF.wt l:=I9 l (fun c _=>xF (Nat.le_refl _))
theorem a7f(a:aI)(i:Nat)(y:List Bytes)(k:List Bytes→Option (List Bytes)):∀(l:List Bytes) (j:Nat) (w:List Bytes),w.length+l.length≤1099511627770→gG a i y k l j w=k (l.foldl yV w):=by
 intro l
 induction l with
 |nil=>intro j w _;rfl
 |cons x l ih=>
  intro j w hw
  simp only[List.length_cons]at hw
  have:=B6 w x
  rw[gG,a2M w x (by omega),Option.bind_some,ih _ _ (by omega)];rfl
theorem a7g(a:aI)(i:Nat)(y:List Bytes)(k:List Bytes→Option (List Bytes)):∀(l:List Bytes) (j:Nat) (w:List Bytes),w.length+l.length≤1099511627770→gH a i y k l j w=k (l.foldl yV w):=by
 intro l
 induction l with
 |nil=>intro j w _;rfl
 |cons x l ih=>
  intro j w hw
  simp only[List.length_cons]at hw
  have:=B6 w x
  rw[gH,a2M w x (by omega),Option.bind_some,ih _ _ (by omega)];rfl
theorem a7h(a:aI)(k:List Bytes→Option (List Bytes)):∀(l:List aF) (i:Nat) (acc:List Bytes),(∀c∈l,c.wt≤1048576)→acc.length+3*j6 aF.wt l≤16777216→
 e8 a k l i (cD acc)=k (cD (acc++FF l)):=by
 intro l
 induction l with
 |nil=>intro i acc _ _;simp[e8,FF]
 |cons c l ih=>
  intro i acc hc hb
  rw[pP]at hb
  have hwt:=hc c (by simp)
  have h1:=xF (Nat.le_refl c.wt)
  have hu:=oF (oS c)
  have hu2:=oF acc
  rw[e8,a2R c hwt,Option.bind_some,wM (by omega),cond_true,a7f _ _ _ _ _ _ _ (by omega),I5,ih _ _ (fun x hx=>hc x (by simp[hx])) (by simp;omega)]
  simp[FF]
theorem a7i(a:aI)(k:List Bytes→Option (List Bytes)):∀(l:List Action) (i:Nat) (acc:List Bytes),(∀c∈l,c.wt≤1048576)→acc.length+3*j6 Action.wt l≤16777216→
 dA a k l i (cD acc)=k (cD (acc++a9P l)):=by
 intro l
 induction l with
 |nil=>intro i acc _ _;simp[dA,a9P]
 |cons c l ih=>
  intro i acc hc hb
  rw[pP]at hb
  have hwt:=hc c (by simp)
  have h1:=vY c.pat.args
  have h2:=aD.cW (Action.cT (Nat.le_refl c.wt))
  have hu:=oF (fE c.pat.args)
  have hu2:=oF acc
  rw[dA,QC _ (Action.cT hwt),Option.bind_some,wM (by omega),cond_true,a7g _ _ _ _ _ _ _ (by omega),I5,ih _ _ (fun x hx=>hc x (by simp[hx])) (by simp;omega)]
  simp[a9P]
theorem aCO(r:aI)(h:r.wt≤1048576):rP r=some (cD (aCN r)):=by
 unfold rP
 have h3:=aI.s5 h;have h4:=aI.QB h
 have hl:=a7e r.conds
 have:=a7h r (fun q=>dA r (fun q=>some q) r.bC 0 q) r.conds 0 [] (fun c hc=>aI.pL h hc) (by simp;omega)
 rw[show cD []=[]from rfl]at this
 rw[this]
 simp only[List.nil_append]
 rw[a7i r _ r.bC 0 _ (fun c hc=>aI.YO h hc) (by omega)]
 rfl
theorem aEf(l:List aF)(hc:∀c∈l,c.wt≤1048576)(hb:j6 aF.wt l≤1048576):oO l=some (l.flatMap fun c=>cD (oS c)):=by
 unfold oO
 have:∀(r:List aF) (i:Nat) (w:List Bytes),(∀c∈r,c.wt≤1048576)→w.length+3*j6 aF.wt r≤16777216→cX l (fun q=>some q) r i w=some (w++r.flatMap fun c=>cD (oS c)):=by
  intro r
  induction r with
  |nil=>intro i w _ _;simp[cX]
  |cons c r ih=>
   intro i w hc hb
   rw[pP]at hb
   have h1:=xF (Nat.le_refl c.wt)
   have hu:=oF (oS c)
   rw[cX,a2S c (hc c (by simp)),Option.bind_some,a78 (by omega) (by decide),cond_true,ih _ _ (fun x hx=>hc x (by simp[hx])) (by simp;omega)]
   simp
 exact this l 0 [] hc (by simp;omega)
theorem a7j(l:List aF):(l.flatMap fun c=>cD (oS c)).length≤3*j6 aF.wt l:=I9 l (fun c _=>by
 have h1:=xF (Nat.le_refl c.wt)
 have hu:=oF (oS c)
 omega)
theorem aGl(l:List aF)(b:List Bytes):cD ((l.flatMap fun c=>cD (oS c))++b)=cD (FF l++b):=I4 (fun x=>by simp[FF,uA])
def a4o(v:Bytes)(k:Int):List aF→Nat→Bool
 | [],_=>false
 |c::cs,i=>(decide (((i:Nat):Int)≠k)&&(oS c).contains v)||a4o v k cs (i+1)
def a0m(r:aI)(k:Int)(v:Bytes):Bool:=a4o v k r.conds 0||r.bC.any fun a=>(fE a.pat.args).contains v
theorem VT{l:List Bytes}{v:Bytes}(h:lE v=true):l.contains v=(fE l).contains v:=by
 rw[Bool.eq_iff_iff]
 simp[fE,h]
theorem aEg(r:aI)(k:Int)(v:Bytes)(h:r.wt≤1048576):kL r k v=some (a0m r k v):=by
 unfold kL a0m
 have k2:∀(l:List Action) (i:Nat),(∀c∈l,c.wt≤1048576)→dR r v (some false) l i=some (l.any fun a=>(fE a.pat.args).contains v):=by
  intro l
  induction l with
  |nil=>intro i _;rfl
  |cons a l ih=>
   intro i hc
   rw[dR,QC _ (Action.cT (hc a (by simp))),Option.bind_some,a7H,Option.bind_some,lD,ih _ (fun x hx=>hc x (by simp[hx])),List.any_cons]
   cases(fE a.pat.args).contains v<;>rfl
 have k1:∀(l:List aF) (i:Nat),(∀c∈l,c.wt≤1048576)→cJ r k v (some (r.bC.any fun a=>(fE a.pat.args).contains v)) l i=some (a4o v k l i||r.bC.any fun a=>(fE a.pat.args).contains v):=by
  intro l
  induction l with
  |nil=>intro i _;rfl
  |cons c l ih=>
   intro i hc
   rw[cJ,a2R _ (hc c (by simp)),Option.bind_some,a7H,Option.bind_some,lD,ih _ (fun x hx=>hc x (by simp[hx]))]
   simp only[a4o,bne,cB]
   by_cases hi:((i:Nat):Int)=k
   ·simp[hi]
   ·cases(oS c).contains v<;>simp[hi]
 rw[k2 _ _ (fun c hc=>aI.YO h hc),k1 _ _ (fun c hc=>aI.pL h hc)]
theorem aGm(r:aI)(k:Int)(v:Bytes)(hv:lE v=true)(h:r.wt≤1048576):iZ r k v=some (a0m r k v):=by
 unfold iZ a0m
 have k2:∀(l:List Action) (i:Nat),bX r v (some false) l i=some (l.any fun a=>(fE a.pat.args).contains v):=by
  intro l
  induction l with
  |nil=>intro i;rfl
  |cons a l ih=>
   intro i
   rw[bX,a9G,Option.bind_some,VT hv,ih,List.any_cons]
   cases(fE a.pat.args).contains v<;>rfl
 have k1:∀(l:List aF) (i:Nat),(∀c∈l,c.wt≤1048576)→bL r k v (some (r.bC.any fun a=>(fE a.pat.args).contains v)) l i=some (a4o v k l i||r.bC.any fun a=>(fE a.pat.args).contains v):=by
  intro l
  induction l with
  |nil=>intro i _;rfl
  |cons c l ih=>
   intro i hc
   rw[bL,a2S _ (hc c (by simp)),Option.bind_some,a9G,Option.bind_some,lD,ih _ (fun x hx=>hc x (by simp[hx]))]
   simp only[a4o,bne,cB]
   by_cases hi:((i:Nat):Int)=k
   ·simp[hi]
   ·cases(oS c).contains v<;>simp[hi]
 rw[k2,k1 _ _ (fun c hc=>aI.pL h hc)]
def SZ(r:aI)(i:Nat)(c:aF)(v:Bytes):Bool:=decide (c.kind=1)||(BF r i).contains v||(decide (c.kind=2)&& !a0m r i v)
def vO(r:aI):List aF→Nat→Bool
 | [],_=>true
 |c::cs,i=>(qQ c&&(!decide (i=0)||decide (c.kind=1))&&(cD (oS c)).all (SZ r i c))&&vO r cs (i+1)
def UY(r:aI):Bool:=r.bC.all fun a=>UT a&&(fE a.pat.args).all fun v=>(BF r r.conds.length).contains v
def mE(r:aI):Bool:=zN r.name&&(decide (0≤r.prio)&&decide (r.prio≤9))&&(decide (1≤(r.conds.length:Int))&&decide ((r.conds.length:Int)≤4))&&(decide (1≤(r.bC.length:Int))&&decide ((r.bC.length:Int)≤2))&&
 (vO r r.conds 0&&(UY r&&decide (((cD (FF r.conds)).length:Int)≤6)))
theorem WW(l:List Bytes)(p:Bytes→Bool):(cD l).all p=l.all p:=by
 rw[Bool.eq_iff_iff]
 simp[List.all_eq_true,uA]
theorem a9Q(r:aI)(n:Int){v:Bytes}(h:v∈BF r n):v∈FF r.conds:=by
 unfold BF at h
 obtain⟨c,hc,hv⟩:=List.mem_flatMap.1 h
 refine List.mem_flatMap.2 ⟨c,List.mem_of_mem_take hc,?_⟩
 unfold SY at hv
 cases hk:decide (c.kind=1)with
 |false=>rw[hk]at hv;cases hv
 |true=>
  rw[hk]at hv
  simp only[cond_true]at hv
  unfold oS
  rw[WU]
  exact List.mem_append.2 (.inl hv)
theorem a2Y{r:aI}(h:UY r=true):cD (aCN r)=cD (FF r.conds):=by
 refine I4 (fun x=>?_)
 unfold aCN
 simp only[List.mem_append]
 constructor
 ·rintro(hx|hx)
  ·exact hx
  ·obtain⟨a,ha,hv⟩:=List.mem_flatMap.1 hx
   unfold UY at h
   have:=List.all_eq_true.1 h a ha
   simp only[Bool.and_eq_true,List.all_eq_true]at this
   have:=this.2 x hv
   exact a9Q r _ (by simpa using this)
 ·exact .inl
theorem a9R(r:aI)(y:List Bytes)(i:Nat)(c:aF)(l:List Bytes)(k:Option Bool)(hc:c.wt≤1048576)(hr:r.wt≤1048576)(hcb:qQ c=true):∀(rest:List Bytes) (j:Nat),cN r y i c (cD (BF r i)) l k rest j=bif rest.all (SZ r i c)then k else some false:=by
 have hk:=NT hcb
 intro rest
 induction rest with
 |nil=>intro j;rfl
 |cons v rest ih=>
  intro j
  rw[cN,a7H,Option.bind_some,lD,a7P c hc,Option.bind_some,aEg r _ v hr,Option.bind_some,ih,List.all_cons]
  unfold QD SZ
  rw[hcb]
  by_cases h1:c.kind=1
  ·simp[h1]
  by_cases h2:c.kind=2
  ·cases(BF r i).contains v<;>cases a0m r i v<;>simp[h2]
  have h3:c.kind≥3:=by omega
  cases(BF r i).contains v<;>simp[h1,h2,h3]
theorem a9S(r:aI)(y:List Bytes)(i:Nat)(c:aF)(l:List Bytes)(k:Option Bool)(hc:c.wt≤1048576)(hr:r.wt≤1048576)(hcb:qQ c=true):∀(rest:List Bytes) (j:Nat),cO r y i c (cD (BF r i)) l k rest j=bif rest.all (SZ r i c)then k else some false:=by
 have hk:=NT hcb
 intro rest
 induction rest with
 |nil=>intro j;rfl
 |cons v rest ih=>
  intro j
  rw[cO,a7H,Option.bind_some,lD,a7P c hc,Option.bind_some,aEg r _ v hr,Option.bind_some,ih,List.all_cons]
  unfold QD SZ
  rw[hcb]
  by_cases h1:c.kind=1
  ·simp[h1]
  by_cases h2:c.kind=2
  ·cases(BF r i).contains v<;>cases a0m r i v<;>simp[h2]
  have h3:c.kind≥3:=by omega
  cases(BF r i).contains v<;>simp[h1,h2,h3]
theorem a9T(r:aI)(y:List Bytes)(k:Option Bool)(hr:r.wt≤1048576):∀(rest:List aF) (i:Nat),(∀c∈rest,c.wt≤1048576)→gX r y k rest i=bif vO r rest i then k else some false:=by
 intro rest
 induction rest with
 |nil=>intro i _;rfl
 |cons c rest ih=>
  intro i h
  have hc:=h c (by simp)
  have hl:=xF hc
  have hu:=oF (oS c)
  rw[gX,a7N c hc,Option.bind_some,vO]
  cases hcb:qQ c with
  |false=>rfl
  |true=>
   rw[a7c r _ hr,a2R c hc,ih _ (fun x hx=>h x (by simp[hx]))]
   simp only[Option.bind_some,wM (show(cD (oS c)).length≤1099511627776 by omega),cond_true]
   rw[a9R r y i c _ _ hc hr hcb,a9S r y i c _ _ hc hr hcb]
   simp only[bne,cB]
   have e0:decide (((i:Int):Int)=0)=decide (i=0):=by rw[Bool.eq_iff_iff];simp
   rw[e0]
   cases decide (i=0)<;>cases decide (c.kind=1)<;>cases(cD (oS c)).all (SZ r i c)<;>simp
theorem a9U(r:aI)(y:List Bytes)(i:Nat)(l:List Bytes)(k:Option Bool):∀(rest:List Bytes) (j:Nat),kM r y i l k rest j=bif rest.all (fun v=>y.contains v)then k else some false:=
 fun rest j=>a4e (f:=fun v=>dM y v) (L:=kM r y i l k) (fun _=>rfl) (fun _ _ _=>rfl) rest j (fun v _=>a7H y v)
theorem a9V(r:aI)(b:List Bytes)(k:Option Bool):∀(rest:List Action) (i:Nat),(∀a∈rest,a.wt≤1048576)→kN r (cD b) k rest i=bif rest.all (fun a=>UT a&&(fE a.pat.args).all fun v=>b.contains v)then k else some false:=by
 intro rest
 induction rest with
 |nil=>intro i _;rfl
 |cons a rest ih=>
  intro i h
  have ha:=h a (by simp)
  have h1:=vY a.pat.args
  have h2:=aD.cW (Action.cT ha)
  have hu:=oF (fE a.pat.args)
  rw[kN,aGg a ha,Option.bind_some,QC _ (Action.cT ha),Option.bind_some,wM (by omega),ih _ (fun x hx=>h x (by simp[hx])),a9U,List.all_cons,WW]
  have e:((fE a.pat.args).all fun v=>(cD b).contains v)=(fE a.pat.args).all fun v=>b.contains v:=by
   congr 1;funext v;exact lD b v
  rw[e]
  cases UT a<;>cases(fE a.pat.args).all (fun v=>b.contains v)<;>simp
theorem aEh(r:aI)(h:r.wt≤1048576):uW r=some (mE r):=by
 unfold uW
 simp only[a7A _ (aI.a3I h),Option.bind_some,QA,List.length_map]
 rw[a7c r _ h]
 simp only[Option.bind_some]
 rw[a9T r _ _ h _ _ (fun c hc=>aI.pL h hc),a9V r _ _ _ _ (fun a ha=>aI.YO h ha),aCO r h]
 simp only[Option.bind_some,List.length_map]
 have hab:(r.bC.all fun a=>UT a&&(fE a.pat.args).all fun v=>(BF r r.conds.length).contains v)=UY r:=rfl
 rw[hab]
 unfold mE
 have g1:decide (r.prio≥0)=decide (0≤r.prio):=rfl
 have g2:decide ((r.conds.length:Int)≥1)=decide (1≤(r.conds.length:Int)):=rfl
 have g3:decide ((r.bC.length:Int)≥1)=decide (1≤(r.bC.length:Int)):=rfl
 rw[g1,g2,g3]
 cases ha:UY r with
 |false=>cases zN r.name<;>cases(decide (0≤r.prio)&&decide (r.prio≤9))<;>cases(decide (1≤(r.conds.length:Int))&&decide ((r.conds.length:Int)≤4))<;>cases(decide (1≤(r.bC.length:Int))&&decide ((r.bC.length:Int)≤2))<;>cases vO r r.conds 0<;>rfl
 |true=>
  rw[a2Y ha]
  cases zN r.name<;>cases(decide (0≤r.prio)&&decide (r.prio≤9))<;>cases(decide (1≤(r.conds.length:Int))&&decide ((r.conds.length:Int)≤4))<;>cases(decide (1≤(r.bC.length:Int))&&decide ((r.bC.length:Int)≤2))<;>cases vO r r.conds 0<;>simp
theorem aCP(r:aI)(i:Nat)(c:aF)(l:List Bytes)(k:Option Bool)(hr:r.wt≤1048576)(hcb:qQ c=true):∀(rest:List Bytes) (j:Nat),(∀v∈rest,lE v=true)→dH r (i:Int) c (cD (BF r i)) l k rest j=bif rest.all (SZ r i c)then k else some false:=by
 have hk:=NT hcb
 intro rest
 induction rest with
 |nil=>intro j _;rfl
 |cons v rest ih=>
  intro j hv
  rw[dH,a9G,Option.bind_some,lD,aGm r _ v (hv v (by simp)) hr,Option.bind_some,ih _ (fun x hx=>hv x (by simp[hx])),List.all_cons]
  unfold SZ
  simp only[bne,cB]
  by_cases h1:c.kind=1
  ·simp[h1]
  by_cases h2:c.kind=2
  ·cases(BF r i).contains v<;>cases a0m r i v<;>simp[h2]
  cases(BF r i).contains v<;>simp[h1,h2]
theorem aEi(r:aI)(i:Nat)(c:aF)(hr:r.wt≤1048576)(hi:r.conds[i]?=some c)(hcb:qQ c=true):oB r (i:Int)=some ((cD (oS c)).all (SZ r i c)):=by
 unfold oB
 have hc:=aI.pL hr (List.mem_of_getElem? hi)
 have hl:=xF hc
 have hu:=oF (oS c)
 have e:oI r.conds (i:Int)=some c:=by unfold oI;simp[hi]
 rw[e,Option.bind_some,a7d r _ hr,Option.bind_some,a2S c hc,Option.bind_some,wM (by omega),cond_true,aCP r i c _ _ hr hcb _ _ (fun v hv=>by
  rw[uA]at hv
  unfold oS fE at hv
  exact(List.mem_filter.1 hv).2)]
 cases(cD (oS c)).all (SZ r i c)<;>rfl
theorem a9W(r:aI)(k:Option Bool)(hr:r.wt≤1048576):∀(rest pre:List aF),r.conds=pre++rest→fA r k rest pre.length=bif vO r rest pre.length then k else some false:=by
 intro rest
 induction rest with
 |nil=>intro pre _;rfl
 |cons c rest ih=>
  intro pre h
  have hm:c∈r.conds:=by rw[h];simp
  have hc:=aI.pL hr hm
  have hi:r.conds[pre.length]?=some c:=by rw[h];simp
  have t:=ih (pre++[c]) (by rw[h];simp)
  simp only[List.length_append,List.length_cons,List.length_nil]at t
  rw[fA,a7O c hc,Option.bind_some,vO]
  cases hcb:qQ c with
  |false=>rfl
  |true=>
   rw[aEi r _ c hr hi hcb,Option.bind_some,t]
   simp only[bne,cB]
   have e0:decide ((((pre.length:Nat):Int):Int)=0)=decide (pre.length=0):=by rw[Bool.eq_iff_iff];simp
   rw[e0]
   cases decide (pre.length=0)<;>cases decide (c.kind=1)<;>cases(cD (oS c)).all (SZ r pre.length c)<;>simp
theorem a9X(r:aI)(y:List Bytes)(i:Nat)(l:List Bytes)(k:Option Bool):∀(rest:List Bytes) (j:Nat),kW r y i l k rest j=bif rest.all (fun v=>y.contains v)then k else some false:=
 fun rest j=>a4e (f:=fun v=>iY y v) (L:=kW r y i l k) (fun _=>rfl) (fun _ _ _=>rfl) rest j (fun v _=>a9G y v)
theorem a9Y(r:aI)(b:List Bytes)(k:Option Bool):∀(rest:List Action) (i:Nat),(∀a∈rest,a.wt≤1048576)→kX r (cD b) k rest i=bif rest.all (fun a=>UT a&&(fE a.pat.args).all fun v=>b.contains v)then k else some false:=by
 intro rest
 induction rest with
 |nil=>intro i _;rfl
 |cons a rest ih=>
  intro i h
  have ha:=h a (by simp)
  have h1:=vY a.pat.args
  have h2:=aD.cW (Action.cT ha)
  rw[kX,aGh a ha,Option.bind_some,a7L _ (by omega) (fun x hx=>aD.sY (Action.cT ha) hx),Option.bind_some,wM (by omega),ih _ (fun x hx=>h x (by simp[hx])),a9X,List.all_cons]
  have e:((fE a.pat.args).all fun v=>(cD b).contains v)=(fE a.pat.args).all fun v=>b.contains v:=by
   congr 1;funext v;exact lD b v
  rw[e]
  cases UT a<;>cases(fE a.pat.args).all (fun v=>b.contains v)<;>simp
theorem aEj(r:aI)(h:r.wt≤1048576):v8 r=some (mE r):=by
 unfold v8
 have hcu:=a7j r.conds
 have hcl:=aI.s5 h
 rw[show fA r _ r.conds 0=_ from a9W r _ h r.conds [] rfl,a7d r _ h,Option.bind_some,a9Y r _ _ _ _ (fun a ha=>aI.YO h ha),aEf _ (fun c hc=>aI.pL h hc) hcl,Option.bind_some,YM _ (by omega),a7B _ (aI.a3I h)]
 have e:=aGl r.conds []
 simp only[List.append_nil]at e
 rw[e]
 simp only[Option.bind_some,List.length_map,List.length_nil]
 have hab:(r.bC.all fun a=>UT a&&(fE a.pat.args).all fun v=>(BF r r.conds.length).contains v)=UY r:=rfl
 rw[hab]
 unfold mE
 have g1:decide (0≤r.prio)= !decide (r.prio<0):=by rw[Bool.eq_iff_iff];simp
 have g2:decide (r.prio≤9)= !decide (r.prio>9):=by rw[Bool.eq_iff_iff];simp
 have g3:decide (1≤(r.conds.length:Int))= !decide ((r.conds.length:Int)<1):=by rw[Bool.eq_iff_iff];simp
 have g4:decide ((r.conds.length:Int)≤4)= !decide ((r.conds.length:Int)>4):=by rw[Bool.eq_iff_iff];simp
 have g5:decide (1≤(r.bC.length:Int))= !decide ((r.bC.length:Int)<1):=by rw[Bool.eq_iff_iff];simp
 have g6:decide ((r.bC.length:Int)≤2)= !decide ((r.bC.length:Int)>2):=by rw[Bool.eq_iff_iff];simp
 rw[g1,g2,g3,g4,g5,g6]
 cases zN r.name
 ·rfl
 cases decide (r.prio<0)
 case true=>rfl
 cases decide (r.prio>9)
 case true=>rfl
 cases decide ((r.conds.length:Int)<1)
 case true=>rfl
 cases decide ((r.conds.length:Int)>4)
 case true=>rfl
 cases decide ((r.bC.length:Int)<1)
 case true=>rfl
 cases decide ((r.bC.length:Int)>2)
 case true=>rfl
 cases vO r r.conds 0
 ·rfl
 cases UY r
 ·rfl
 simp
def LC(name:Bytes):List aI→Nat→Int
 | [],_=> -1
 |r::rs,i=>bif r.name==name then(i:Int)else LC name rs (i+1)
def VU(all:List aI):List aI→Nat→Bool
 | [],_=>true
 |r::rs,i=>(mE r&&decide (LC r.name all 0=(i:Int)))&&VU all rs (i+1)
def IA(l:List aI):Bool:=VU l l 0&&decide ((l.length:Int)≤6)
theorem aEk(l:List aI)(n:Bytes):rQ l n=some (LC n l 0):=by
 unfold rQ
 have:∀(r:List aI) (i:Nat),gI l n (some (-1)) r i=some (LC n r i):=by
  intro r
  induction r with
  |nil=>intro i;rfl
  |cons x r ih=>intro i;rw[gI,ih,LC];cases x.name==n<;>rfl
 exact this l 0
theorem aEl(l:List aI)(n:Bytes):rV l n=some (LC n l 0):=by
 unfold rV
 have:∀(r:List aI) (i:Nat),gO l n (some (-1)) r i=some (LC n r i):=by
  intro r
  induction r with
  |nil=>intro i;rfl
  |cons x r ih=>intro i;rw[gO,ih,LC];cases x.name==n<;>rfl
 exact this l 0
theorem aGn(l:List aI)(h:j6 aI.wt l≤1048576):rR l=some (IA l):=by
 unfold rR
 have:∀(r:List aI) (i:Nat) (k:Option Bool),(∀x∈r,x.wt≤1048576)→gJ l k r i=bif VU l r i then k else some false:=by
  intro r
  induction r with
  |nil=>intro i k _;rfl
  |cons x r ih=>
   intro i k hx
   rw[gJ,aEh x (hx x (by simp)),Option.bind_some,aEk,Option.bind_some,ih _ _ (fun y hy=>hx y (by simp[hy])),VU]
   simp only[bne,cB]
   cases mE x<;>cases decide (LC x.name l 0=(i:Int))<;>simp
 rw[this _ _ _ (fun x hx=>by have:=iP (w:=aI.wt) hx;omega),List.length_map,IA]
 cases VU l l 0<;>rfl
theorem aGo(l:List aI)(h:j6 aI.wt l≤1048576):rW l=some (IA l):=by
 unfold rW
 have:∀(r:List aI) (i:Nat) (k:Option Bool),(∀x∈r,x.wt≤1048576)→gP l k r i=bif VU l r i then k else some false:=by
  intro r
  induction r with
  |nil=>intro i k _;rfl
  |cons x r ih=>
   intro i k hx
   rw[gP,aEj x (hx x (by simp)),Option.bind_some,aEl,Option.bind_some,ih _ _ (fun y hy=>hx y (by simp[hy])),VU]
   simp only[bne,cB]
   cases mE x<;>cases decide (LC x.name l 0=(i:Int))<;>simp
 rw[this _ _ _ (fun x hx=>by have:=iP (w:=aI.wt) hx;omega),List.length_map,IA]
 have g:decide ((l.length:Int)≤6)= !decide ((l.length:Int)>6):=by rw[Bool.eq_iff_iff];simp
 rw[g]
 cases VU l l 0<;>cases decide ((l.length:Int)>6)<;>rfl
end Go.Cx
namespace Go.Cx
open Go.RowKit Go.Proofs
set_option linter.unusedVariables false
set_option linter.unusedSimpArgs false
theorem UZ{α β:Type}[DecidableEq β]{f:α→α→Option Bool}{g:α→β}{a b:List α}{k:Option Bool}{L:List α→Nat→Option Bool}(hl:a.length=b.length)(rD:∀i,L [] i=k)
 (qU:∀x xs i,L (x::xs) i=(oI b (i:Int)).bind fun y=>(f x y).bind fun r=>bif !r then some false else L xs (i+1)) (hf:∀x y,f x y=some (decide (g x=g y))):
 L a 0=bif decide (a.map g=b.map g)then k else some false:=by
 have key:∀(ra rb pa pb:List α),a=pa++ra→b=pb++rb→pa.length=pb.length→L ra pa.length=bif decide (ra.map g=rb.map g)then k else some false:=by
  intro ra
  induction ra with
  |nil=>
   intro rb pa pb h1 h2 h3
   rw[rD]
   have:rb=[]:=by
    have:=congrArg List.length h1;have:=congrArg List.length h2
    simp at*
    apply List.eq_nil_of_length_eq_zero;omega
   subst this;simp
  |cons x xs ih=>
   intro rb pa pb h1 h2 h3
   cases rb with
   |nil=>
    exfalso
    have:=congrArg List.length h1;have:=congrArg List.length h2
    simp at*
    omega
   |cons y ys=>
    have e1:oI b (pa.length:Int)=some y:=by rw[h3];exact zZ h2
    rw[qU,e1,Option.bind_some,hf,Option.bind_some]
    have:=ih ys (pa++[x]) (pb++[y]) (by rw[h1];simp) (by rw[h2];simp) (by simp[h3])
    simp only[List.length_append,List.length_cons,List.length_nil]at this
    rw[this]
    by_cases hxy:g x=g y
    ·simp[hxy]
    ·simp[hxy]
 exact key a b [] [] rfl rfl rfl
theorem V0{α β:Type}{g:α→β}{a b:List α}(h:a.length≠b.length):a.map g≠b.map g:=fun e=>h (by have:=congrArg List.length e;simpa using this)
theorem IM{α:Type}{c:α→List D}(a b:List α):((((a.map c).length:Int):Int) != (((b.map c).length:Int)))= !decide (a.length=b.length):=by
 rw[Bool.eq_iff_iff];simp;omega
theorem map_id'{α:Type}(l:List α):l.map (fun x=>x)=l:=by simp
theorem aCQ(a b:aI):oC a b=some (decide (a=b)):=by
 have k2:∀(k:Option Bool),a.bC.length=b.bC.length→eN a b k a.bC 0=bif decide (a.bC=b.bC)then k else some false:=fun k hl=>by
  have:=UZ (g:=fun x:Action=>x) (f:=fun x y:Action=>bif x.kind != y.kind then some false else cG x.pat y.pat) (k:=k) (L:=eN a b k) hl (fun _=>rfl) (fun x xs i=>by
   rw[eN];congr 1;funext y;cases(x.kind != y.kind)<;>rfl) (fun x y=>by
   obtain⟨x0,x1⟩:=x;obtain⟨y0,y1⟩:=y
   simp only[US,bne,cB]
   by_cases h0:x0=y0<;>by_cases h1:x1=y1<;>simp[h0,h1])
  rw[map_id',map_id']at this;exact this
 have k1:∀(k:Option Bool),a.conds.length=b.conds.length→gS a b k a.conds 0=bif decide (a.conds=b.conds)then k else some false:=fun k hl=>by
  have:=UZ (g:=fun x:aF=>x) (f:=gD) (k:=k) (L:=gS a b k) hl (fun _=>rfl) (fun _ _ _=>rfl) YQ
  rw[map_id',map_id']at this;exact this
 unfold oC
 rw[IM,IM]
 obtain⟨a0,a1,a2,a3⟩:=a;obtain⟨b0,b1,b2,b3⟩:=b
 simp only at k1 k2⊢
 simp only[bne,cB,Bool.not_not]
 by_cases h0:a0=b0
 rotate_left
 ·simp[h0]
 by_cases h1:a1=b1
 rotate_left
 ·simp[h1]
 by_cases h2:a2.length=b2.length
 rotate_left
 ·have:a2≠b2:=fun e=>h2 (by rw[e])
  simp[h2,this]
 by_cases h3:a3.length=b3.length
 rotate_left
 ·have:a3≠b3:=fun e=>h3 (by rw[e])
  simp[h3,this]
 rw[k1 _ h2,k2 _ h3]
 by_cases h4:a2=b2<;>by_cases h5:a3=b3<;>simp[h0,h1,h2,h3,h4,h5]
theorem a9Z(a b:List aI):qO a b=some (decide (a=b)):=by
 unfold qO
 exact WN (c:=aI.c) (f:=oC) (fun k=>jL a b k) (fun _ _=>rfl) (fun _ _ _ _=>rfl) aCQ
theorem a0n(x y:aH):((x.var:Bytes)==y.var&&(x.value:Bytes)==y.value)=decide (x=y):=by
 obtain⟨x0,x1⟩:=x;obtain⟨y0,y1⟩:=y
 simp only[cB]
 by_cases h0:x0=y0<;>by_cases h1:x1=y1<;>simp[h0,h1]
theorem aCR(a b:List aH):hY a b=some (decide (a=b)):=by
 unfold hY
 exact WN (c:=aH.c) (f:=fun x y=>some (decide (x=y))) (fun k=>cQ a b k) (fun _ _=>rfl) (fun k x xs i=>by rw[cQ];congr 1;funext y;rw[a0n];rfl) (fun _ _=>rfl)
theorem aCS(a b:List aH):nL a b=some (decide (a=b)):=by
 unfold nL
 exact WN (c:=aH.c) (f:=fun x y=>some (decide (x=y))) (fun k=>fT a b k) (fun _ _=>rfl) (fun k x xs i=>by rw[fT];congr 1;funext y;rw[a0n];rfl) (fun _ _=>rfl)
theorem a9a(a b:List aL):mQ a b=some (decide (a=b)):=by
 unfold mQ
 exact WN (c:=aL.c) (f:=fun x y=>(kP x.facts y.facts).bind fun r=>bif !r then some false else hY x.bind y.bind) (fun k=>dF a b k) (fun _ _=>rfl) (fun k x xs i=>by
  rw[dF];congr 1;funext y;rw[YP,Option.bind_some,Option.bind_some];cases decide (x.facts=y.facts)<;>rfl) (fun x y=>by
  obtain⟨x0,x1⟩:=x;obtain⟨y0,y1⟩:=y
  simp only[YP,aCR,Option.bind_some]
  by_cases h0:x0=y0<;>by_cases h1:x1=y1<;>simp[h0,h1])
theorem a9b(a b:List aL):mD a b=some (decide (a=b)):=by
 unfold mD
 exact WN (c:=aL.c) (f:=fun x y=>(fC x.facts y.facts).bind fun r=>bif !r then some false else nL x.bind y.bind) (fun k=>eO a b k) (fun _ _=>rfl) (fun k x xs i=>by
  rw[eO];congr 1;funext y;rw[TD,Option.bind_some,Option.bind_some];cases decide (x.facts=y.facts)<;>rfl) (fun x y=>by
  obtain⟨x0,x1⟩:=x;obtain⟨y0,y1⟩:=y
  simp only[TD,aCS,Option.bind_some]
  by_cases h0:x0=y0<;>by_cases h1:x1=y1<;>simp[h0,h1])
def V1(a b:aG):Bool:=decide (a.aR.map aN.shape=b.aR.map aN.shape)&&(decide (a.nodes.map (fun x=>(x.parent,x.iO,x.cond))=b.nodes.map (fun x=>(x.parent,x.iO,x.cond)))&&decide (a.ends=b.ends))
def YT(a b:aG):Bool:=decide (a.rules=b.rules)&&(decide (a.ends=b.ends)&&(decide (a.facts=b.facts)&&(decide (a.aR=b.aR)&&decide (a.nodes=b.nodes))))
theorem aEm(a b:aG):oN a b=some (V1 a b):=by
 unfold oN V1
 rw[IM,IM,IM]
 by_cases h1:a.aR.length=b.aR.length
 rotate_left
 ·simp[h1,V0 h1]
 by_cases h2:a.nodes.length=b.nodes.length
 rotate_left
 ·simp[h2,V0 h2]
 by_cases h3:a.ends.length=b.ends.length
 rotate_left
 ·have:a.ends≠b.ends:=fun e=>h3 (by rw[e])
  simp[h3,this]
 have k1:=fun k=>UZ (g:=aN.shape) (f:=fun x y:aN=>eC x.shape y.shape) (k:=k) (L:=gZ a b k) h1 (fun _=>rfl) (fun _ _ _=>rfl) (fun x y=>a2Q _ _)
 have k2:=fun k=>UZ (g:=fun x:Node=>(x.parent,x.iO,x.cond)) (f:=fun x y:Node=>bif x.parent != y.parent then some false else bif x.iO != y.iO then some false else mJ x.cond y.cond) (k:=k) (L:=eD a b k) h2 (fun _=>rfl) (fun x xs i=>by
  rw[eD];congr 1;funext y;cases(x.parent != y.parent)<;>cases(x.iO != y.iO)<;>rfl) (fun x y=>by
  simp only[a7Q,bne,cB]
  by_cases q0:x.parent=y.parent<;>by_cases q1:x.iO=y.iO<;>by_cases q2:x.cond=y.cond<;>simp[q0,q1,q2])
 have k3:=fun k=>UZ (g:=fun x:Int=>x) (f:=fun x y:Int=>some (decide (x=y))) (k:=k) (L:=eE a b k) h3 (fun _=>rfl) (fun x xs i=>by
  rw[eE];congr 1) (fun x y=>rfl)
 rw[k1,k2,k3,map_id',map_id']
 simp only[h1,h2,h3,decide_true,Bool.not_true,cond_false]
 cases decide (a.aR.map aN.shape=b.aR.map aN.shape)<;>cases decide (a.nodes.map (fun x=>(x.parent,x.iO,x.cond))=b.nodes.map (fun x=>(x.parent,x.iO,x.cond)))<;>cases decide (a.ends=b.ends)<;>rfl
theorem aGp(a b:aG):mR a b=some (YT a b):=by
 unfold mR
 simp only[a9Z,aC6,TD,Option.bind_some,IM]
 by_cases h1:a.aR.length=b.aR.length
 rotate_left
 ·have:a.aR≠b.aR:=fun e=>h1 (by rw[e])
  simp only[h1,YT,this,decide_false,Bool.not_false,cond_true,Bool.false_and]
  cases decide (a.rules=b.rules)<;>cases decide (a.ends=b.ends)<;>cases decide (a.facts=b.facts)<;>rfl
 by_cases h2:a.nodes.length=b.nodes.length
 rotate_left
 ·have:a.nodes≠b.nodes:=fun e=>h2 (by rw[e])
  simp only[h1,h2,YT,this,decide_true,decide_false,Bool.not_false,Bool.not_true,cond_true,cond_false,Bool.and_false]
  cases decide (a.rules=b.rules)<;>cases decide (a.ends=b.ends)<;>cases decide (a.facts=b.facts)<;>rfl
 have k1:=fun k=>UZ (g:=fun x:aN=>x) (f:=fun x y:aN=>(cG x.shape y.shape).bind fun r=>bif !r then some false else fC x.facts y.facts) (k:=k) (L:=dJ a b k) h1 (fun _=>rfl) (fun x xs i=>by
  rw[dJ];congr 1;funext y;rw[US,Option.bind_some,Option.bind_some];cases decide (x.shape=y.shape)<;>rfl) (fun x y=>by
  obtain⟨x0,x1⟩:=x;obtain⟨y0,y1⟩:=y
  simp only[US,TD,Option.bind_some]
  by_cases q0:x0=y0<;>by_cases q1:x1=y1<;>simp[q0,q1])
 have k2:=fun k=>UZ (g:=fun x:Node=>x) (f:=fun x y:Node=>bif x.parent != y.parent then some false else bif x.iO != y.iO then some false else(gD x.cond y.cond).bind fun r=>bif !r then some false else mD x.tokens y.tokens) (k:=k) (L:=dK a b k) h2 (fun _=>rfl) (fun x xs i=>by
  rw[dK];congr 1;funext y;rw[YQ,Option.bind_some,Option.bind_some];cases(x.parent != y.parent)<;>cases(x.iO != y.iO)<;>cases decide (x.cond=y.cond)<;>rfl) (fun x y=>by
  obtain⟨x0,x1,x2,x3⟩:=x;obtain⟨y0,y1,y2,y3⟩:=y
  simp only[YQ,a9b,Option.bind_some,bne,cB]
  by_cases q0:x0=y0<;>by_cases q1:x1=y1<;>by_cases q2:x2=y2<;>by_cases q3:x3=y3<;>simp[q0,q1,q2,q3])
 rw[k1,k2,map_id',map_id',map_id',map_id',YT]
 simp only[h1,h2,decide_true,Bool.not_true,cond_false]
 cases decide (a.rules=b.rules)<;>cases decide (a.ends=b.ends)<;>cases decide (a.facts=b.facts)<;>cases decide (a.aR=b.aR)<;>cases decide (a.nodes=b.nodes)<;>rfl
end Go.Cx
namespace Go.Cx
open Go.RowKit Go.Proofs
set_option linter.unusedVariables false
set_option linter.unusedSimpArgs false
def FG(s:Bytes):Option Nat:=if 1≤s.length∧s.length≤4 then(match Lib.decFrom 0 s with|some n=>if Lib.decDigits n=s then some n else none|none=>none)else none
def pI(s:Bytes):Int×Bool:=match FG s with|some n=>((n:Int),true)|none=>(0,false)
theorem a7k:∀(u:Nat),∀b∈Lib.decDigits u,48≤b.toNat∧b.toNat≤57:=by
 intro u
 induction u using Nat.strongRecOn with
 |_ u ih=>
  have hb:∀v:Nat,v<10→48≤(UInt8.ofNat (48+v)).toNat∧(UInt8.ofNat (48+v)).toNat≤57:=by
   intro v hv
   have:(UInt8.ofNat (48+v)).toNat=48+v:=by simp;omega
   omega
  intro b hm
  rw[Lib.decDigits]at hm
  split at hm
  ·rename_i h10
   simp only[List.mem_singleton]at hm
   subst hm
   exact hb u h10
  ·rename_i h10
   rcases List.mem_append.1 hm with hm|hm
   ·exact ih (u/10) (by omega) b hm
   ·simp only[List.mem_singleton]at hm
    subst hm
    exact hb (u%10) (by omega)
theorem a9c(a:Bytes)(k:Int→Option (Int×Bool))(ha:a.length≤4):∀(rest pre:Bytes) (acc:Nat),a=pre++rest→acc<10^pre.length→∀n,rest.length<n→
 e7 a k n (acc:Int) (pre.length:Int)=(match Lib.decFrom acc rest with|some m=>k (m:Int)|none=>some (0,false)):=by
 intro rest
 induction rest with
 |nil=>
  intro pre acc h _ n hn
  obtain⟨m,rfl⟩:∃m,n=m+1:=⟨n-1,by simp at hn;omega⟩
  have e1:decide ((pre.length:Int)<(a.length:Int))=false:=by simp[h]
  rw[e7,e1];rfl
 |cons x xs ih=>
  intro pre acc h hacc n hn
  obtain⟨m,rfl⟩:∃m,n=m+1:=⟨n-1,by simp at hn;omega⟩
  have hl:a.length=pre.length+(xs.length+1):=by rw[h];simp
  have e1:decide ((pre.length:Int)<(a.length:Int))=true:=by rw[hl];simp;omega
  have e4:IntKind.i64.wrap ((pre.length:Int)+1)=((pre++[x]).length:Int):=by rw[a3H (by omega)];simp
  have h10:acc<10000:=Nat.lt_of_lt_of_le hacc (Nat.pow_le_pow_right (by omega) (show pre.length≤4 by omega))
  have hx:=x.toNat_lt
  rw[e7,e1,cond_true,zZ h,Option.bind_some,e4]
  by_cases c1:(x.toNat:Int)<48
  ·have:Lib.digitVal x=none:=by unfold Lib.digitVal;rw[if_neg (by omega)]
   simp only[Lib.decFrom,this]
   rw[decide_eq_true c1,cond_true]
  ·by_cases c2:(x.toNat:Int)>57
   ·have:Lib.digitVal x=none:=by unfold Lib.digitVal;rw[if_neg (by omega)]
    simp only[Lib.decFrom,this]
    rw[decide_eq_false c1,cond_false,decide_eq_true c2,cond_true]
   ·have hd:Lib.digitVal x=some (x.toNat-48):=by unfold Lib.digitVal;rw[if_pos (by omega)]
    have e5:IntKind.i64.wrap ((IntKind.i64.wrap ((10)*(acc:Int)))+(IntKind.i64.wrap (IntKind.u8.wrap ((x.toNat:Int)-(48)))))=((acc*10+(x.toNat-48):Nat):Int):=by
     rw[dY (k:=.u8) (rC.u8.2 (by omega)),dY (n:=(10:Int)*(acc:Int)) (rC.i64.2 (by omega)),dY (n:=(x.toNat:Int)-48) (rC.i64.2 (by omega)),dY (rC.i64.2 (by omega))]
     omega
    simp only[Lib.decFrom,hd]
    rw[decide_eq_false c1,cond_false,decide_eq_false c2,cond_false,e5]
    refine ih (pre++[x]) _ (by simp[h]) ?_ m (by simp at hn;omega)
    rw[List.length_append,List.length_singleton,Nat.pow_succ]
    omega
theorem YU(s:Bytes):mI s=some (pI s):=by
 unfold mI
 rw[QA,Option.bind_some]
 by_cases hl:1≤s.length∧s.length≤4
 ·have e1:(decide ((s.length:Int)≥1)&&decide ((s.length:Int)≤4))=true:=by simp;omega
  have t:=a9c s (fun z=>((nF (z)).bind fun GK=>(bif !((GK:Bytes)==(s))then(some ((0,false)))else(some ((z,true)))))) hl.2 s [] 0 rfl (by simp) fuel (by unfold fuel;omega)
  rw[e1,Bool.not_true,cond_false]
  refine t.trans ?_
  unfold pI FG
  rw[if_pos hl]
  cases hd:Lib.decFrom 0 s with
  |none=>rfl
  |some m=>
   have hm:=Lib.decFrom_lt s 0 m hd
   have h10:m<10000:=by
    have:=Nat.pow_le_pow_right (n:=10) (by omega) hl.2
    omega
   simp only
   rw[aEd _ (rC.i64.2 (by omega)),Option.bind_some]
   have e2:Lib.itoa (m:Int)=Lib.decDigits m:=by unfold Lib.itoa;rw[if_neg (by omega)];simp
   rw[e2]
   by_cases he:Lib.decDigits m=s
   ·rw[if_pos he,he];simp
   ·rw[if_neg he]
    have:(Lib.decDigits m==s)=false:=by simpa using he
    rw[this];rfl
 ·have e1:(decide ((s.length:Int)≥1)&&decide ((s.length:Int)≤4))=false:=by
   rw[Bool.and_eq_false_iff,decide_eq_false_iff_not,decide_eq_false_iff_not];omega
  rw[e1]
  unfold pI FG
  rw[if_neg hl]
  rfl
theorem YV(s:Bytes):jR s=some (pI s):=by
 unfold jR pI FG
 by_cases hl:1≤s.length∧s.length≤4
 ·have e1:decide ((s.length:Int)<1)=false:=by simp;omega
  have e2:decide ((s.length:Int)>4)=false:=by simp;omega
  rw[if_pos hl,e1,cond_false,e2,cond_false]
  unfold AJ YF
  rw[if_pos (by omega)]
  cases s with
  |nil=>simp at hl
  |cons b t=>
   have fin:∀(m:Nat),Lib.decFrom 0 (b::t)=some m→(bif decide ((m:Int)<0)then some ((0:Int),false)else bif decide ((m:Int)>9999)then some (0,false)else(iA (m:Int)).bind fun y8=>bif !((y8:Bytes)==(b::t))then some (0,false)else some ((m:Int),true))=
    some (match(if Lib.decDigits m=b::t then some m else none)with|some n=>((n:Int),true)|none=>(0,false)):=by
    intro m hd
    have hm:=Lib.decFrom_lt (b::t) 0 m hd
    have h10:m<10000:=by
     have:=Nat.pow_le_pow_right (n:=10) (by omega) hl.2
     omega
    have e3:decide ((m:Int)<0)=false:=by simp
    have e4:decide ((m:Int)>9999)=false:=by simp;omega
    have e5:Lib.itoa (m:Int)=Lib.decDigits m:=by unfold Lib.itoa;rw[if_neg (by omega)];simp
    rw[e3,cond_false,e4,cond_false,aCB,Option.bind_some,e5]
    by_cases he:Lib.decDigits m=b::t
    ·rw[if_pos he,he];simp
    ·rw[if_neg he]
     have:(Lib.decDigits m==(b::t))=false:=by simpa using he
     rw[this];rfl
   have sign:∀(n:Int),b.toNat<48→(bif decide (n<0)then some ((0:Int),false)else bif decide (n>9999)then some (0,false)else(iA n).bind fun y8=>bif !((y8:Bytes)==(b::t))then some (0,false)else some (n,true))=some (0,false):=by
    intro n hb
    by_cases hn:n<0
    ·rw[decide_eq_true hn];rfl
    rw[decide_eq_false hn,cond_false,aCB,Option.bind_some]
    cases decide (n>9999)with
    |true=>rfl
    |false=>
     have e5:Lib.itoa n=Lib.decDigits n.toNat:=by unfold Lib.itoa;rw[if_neg hn]
     have:(Lib.itoa n==(b::t))=false:=by
      rw[e5,beq_eq_false_iff_ne]
      intro h
      have:=a7k n.toNat b (by rw[h];simp)
      omega
     rw[this];rfl
   simp only[Lib.atoi]
   by_cases hb:b=45
   ·subst hb
    have hd:Lib.decFrom 0 ((45:UInt8)::t)=none:=by simp[Lib.decFrom,Lib.digitVal]
    rw[if_pos (by decide),hd]
    cases Lib.decNat t with
    |none=>rfl
    |some m=>exact sign _ (by decide)
   ·rw[if_neg (by simpa using hb)]
    by_cases hb2:b=43
    ·subst hb2
     have hd:Lib.decFrom 0 ((43:UInt8)::t)=none:=by simp[Lib.decFrom,Lib.digitVal]
     rw[if_pos (by decide),hd]
     cases Lib.decNat t with
     |none=>rfl
     |some m=>exact sign (m:Int) (by decide)
    ·rw[if_neg (by simpa using hb2)]
     have hdn:Lib.decNat (b::t)=Lib.decFrom 0 (b::t):=by simp[Lib.decNat]
     rw[hdn]
     cases hd:Lib.decFrom 0 (b::t)with
     |none=>rfl
     |some m=>exact fin m hd
 ·rw[if_neg hl]
  by_cases h1:(s.length:Int)<1
  ·rw[decide_eq_true h1];rfl
  ·have h2:(s.length:Int)>4:=by omega
   rw[decide_eq_false h1,cond_false,decide_eq_true h2];rfl
def IB(a b:Bytes):Int:=if Op.bytesLess a b=true then-1 else if a=b then 0 else 1
def a4p(x y:Int):Int:=if x<y then-1 else if x>y then 1 else 0
def VV(a b:Bytes):Int:=match FG a,FG b with
 |some x,some y=>a4p x y
 |some _,none=> -1
 |none,some _=>1
 |none,none=>IB a b
def WX{α:Type}(g:α→α→Int):List α→List α→Option Int
 |x::xs,y::ys=>if g x y≠0 then some (g x y)else WX g xs ys
 |_,_=>none
def cmpL{α:Type}(g:α→α→Int)(a b:List α):Int:=match WX g a b with|some z=>z|none=>a4p a.length b.length
def V2(a b:aD):Int:=if a.rel≠b.rel then IB a.rel b.rel else cmpL VV a.args b.args
theorem a9d{a b:Bytes}(h:a≠b):IB a b≠0:=by
 unfold IB
 split
 ·omega
 ·first|omega| (rw[if_neg h];omega)
theorem a4q(a:Bytes):IB a a=0:=by
 unfold IB
 rw[qP];simp
theorem a3O:∀(a b:Bytes),Lib.compareBytes a b=IB a b
 | [],[]=>by simp[Lib.compareBytes,IB,Op.bytesLess]
 | [],_::_=>by simp[Lib.compareBytes,IB,Op.bytesLess]
 |_::_,[]=>by simp[Lib.compareBytes,IB,Op.bytesLess]
 |a::xs,b::ys=>by
  have ih:=a3O xs ys
  simp only[Lib.compareBytes,IB,Op.bytesLess]
  by_cases h1:a<b
  ·simp[h1]
  ·by_cases h2:b<a
   ·have hne:a≠b:=fun e=>by subst e;exact h1 h2
    simp[h1,h2,hne]
   ·have e:a=b:=by
     rw[UInt8.lt_iff_toNat_lt]at h1 h2
     exact UInt8.toNat_inj.1 (by omega)
    subst e
    rw[if_neg h1,if_neg h1,ih]
    simp[IB,h1]
theorem a3P{α:Type}{f:α→α→Option Int}{g:α→α→Int}{c:α→List D}{L:List α→Nat→Option Int}{k:Option Int}{b:List α}(rD:∀i,L [] i=k)
 (qU:∀x xs i,L (x::xs) i=bif decide (((i:Int):Int)<(((b.map c).length:Int)))then((oI b ((i:Int))).bind fun y=>((f x y).bind fun z=>(bif (z:Int) != (0)then(some z)else(L xs (i+1)))))else k):
 ∀(l pre rest:List α),b=pre++rest→(∀x∈l,∀y∈rest,f x y=some (g x y))→L l pre.length=(match WX g l rest with|some z=>some z|none=>k):=by
 intro l
 induction l with
 |nil=>intro pre rest h _;rw[rD];cases rest<;>rfl
 |cons x xs ih=>
  intro pre rest h hf
  rw[qU]
  cases rest with
  |nil=>
   have e1:decide ((pre.length:Int)<((b.map c).length:Int))=false:=by simp[h]
   rw[e1];rfl
  |cons y ys=>
   have e1:decide ((pre.length:Int)<((b.map c).length:Int))=true:=by simp[h];omega
   rw[e1,cond_true,zZ h,Option.bind_some,hf x (by simp) y (by simp),Option.bind_some]
   simp only[WX]
   have t:=ih (pre++[y]) ys (by simp[h]) (fun x' hx y' hy=>hf x' (by simp[hx]) y' (by simp[hy]))
   rw[List.length_append,List.length_singleton]at t
   by_cases hz:g x y=0
   ·have e2:(g x y != 0)=false:=by simp[hz]
    rw[e2,cond_false,t,if_neg (by simp[hz])]
   ·have e2:(g x y != 0)=true:=by simp[hz]
    rw[e2,cond_true,if_pos hz]
theorem YW(x y:Int):(bif decide (x<y)then some (-1:Int)else bif decide (x>y)then some 1 else some 0)=some (a4p x y):=by
 unfold a4p
 by_cases h1:x<y
 ·simp[h1]
 ·by_cases h2:x>y
  ·simp[h1,h2]
  ·simp[h1,h2]
theorem aAk(a b:Bytes):qZ a b=some (IB a b):=by
 unfold qZ IB
 cases h:Op.bytesLess a b with
 |true=>rfl
 |false=>
  by_cases e:a=b
  ·simp[e]
  ·have e':(a==b)=false:=by simpa using e
   simp[e,e']
theorem aAl(a b:Bytes):fJ a b=some (VV a b):=by
 unfold fJ VV
 rw[YU,YU,Option.bind_some,Option.bind_some,aAk]
 unfold pI
 cases FG a with
 |none=>cases FG b<;>rfl
 |some x=>
  cases FG b with
  |none=>rfl
  |some y=>
   simp only[cond_true,Bool.not_true,cond_false]
   exact YW _ _
theorem aAm(x y:Int):kY x y=some (a4p x y):=by
 unfold kY
 exact YW x y
theorem aAn(a b:Bytes):oJ a b=some (IB a b):=by
 unfold oJ
 show some (Lib.compareBytes a b)=_
 rw[a3O]
theorem aEn(a b:Bytes):jI a b=some (VV a b):=by
 unfold jI VV
 rw[YV,YV,Option.bind_some,Option.bind_some,aAn]
 unfold pI
 cases FG a with
 |none=>cases FG b<;>rfl
 |some x=>
  cases FG b with
  |none=>rfl
  |some y=>
   simp only[cond_true,aAm,Option.bind_some]
theorem aEo(a b:aD):jB a b=some (V2 a b):=by
 unfold jB V2
 by_cases h:a.rel=b.rel
 ·have e:(a.rel==b.rel)=true:=by simpa using h
  rw[e,Bool.not_true,cond_false,if_neg (by simpa using h)]
  have t:=fun k=>a3P (f:=fJ) (g:=VV) (c:=tx) (L:=eW a b k) (b:=b.args) (k:=k) (fun _=>rfl) (fun _ _ _=>rfl) a.args [] b.args rfl (fun x _ y _=>aAl x y)
  refine(t _).trans ?_
  unfold cmpL
  cases WX VV a.args b.args with
  |some z=>rfl
  |none=>simp only[List.length_map];exact YW _ _
 ·have e:(a.rel==b.rel)=false:=by simpa using h
  rw[e,Bool.not_false,cond_true,if_pos h,aAk];rfl
theorem aEp(a b:aD):jJ a b=some (V2 a b):=by
 unfold jJ V2
 rw[aAn,Option.bind_some]
 by_cases h:a.rel=b.rel
 ·have e:(IB a.rel b.rel != 0)=false:=by rw[h,a4q];rfl
  rw[e,cond_false,if_neg (by simpa using h)]
  have t:=fun k=>a3P (f:=jI) (g:=VV) (c:=tx) (L:=fB a b k) (b:=b.args) (k:=k) (fun _=>rfl) (fun _ _ _=>rfl) a.args [] b.args rfl (fun x _ y _=>aEn x y)
  refine(t _).trans ?_
  unfold cmpL
  cases WX VV a.args b.args with
  |some z=>rfl
  |none=>simp only[List.length_map,aAm,Option.bind_some]
 ·have e:(IB a.rel b.rel != 0)=true:=by simpa using a9d h
  rw[e,cond_true,if_pos h]
def chainB:Option aD→List aD→Bool
 |_,[]=>true
 |p,x::xs=>I6 x&&(match p with|some q=>decide (V2 q x<0)|none=>true)&&chainB (some x) xs
def QF(l:List aD):Bool:=chainB none l&&decide (l.length≤24)
theorem WY{isF:aD→Option Bool}{cmp:aD→aD→Option Int}{a:List aD}{L:List aD→Nat→Option Bool}{k:Option Bool}(ha:a.length≤1099511627770)(hc:∀x y,cmp x y=some (V2 x y))(rD:∀i,L [] i=k)
 (qU:∀x xs i,L (x::xs) i=((isF x).bind fun y=>(bif !(y)then(some (false))else(bif decide (((i:Int):Int)>(0))then((oI a (IntKind.i64.wrap (((i:Int))-(1)))).bind fun q=>((cmp q x).bind fun z=>(bif decide ((z:Int)≥(0))then(some (false))else(L xs (i+1)))))else(L xs (i+1)))))):
 ∀(l pre:List aD),a=pre++l→(∀x∈l,isF x=some (I6 x))→L l pre.length=bif chainB pre.getLast? l then k else some false:=by
 intro l
 induction l with
 |nil=>intro pre _ _;rw[rD];rfl
 |cons x xs ih=>
  intro pre h hf
  have hl:a.length=pre.length+(xs.length+1):=by rw[h];simp
  have t:=ih (pre++[x]) (by simp[h]) (fun y hy=>hf y (by simp[hy]))
  rw[List.length_append,List.length_singleton,List.getLast?_concat]at t
  rw[qU,hf x (by simp),Option.bind_some,t]
  simp only[chainB]
  cases I6 x with
  |false=>rfl
  |true=>
   rw[Bool.not_true,cond_false,Bool.true_and]
   rcases List.eq_nil_or_concat pre with rfl|⟨p,z,hpz⟩
   ·simp
   ·rw[List.concat_eq_append]at hpz
    subst hpz
    have e0:decide ((((p++[z]).length:Int))>0)=true:=by simp<;>omega
    have e1:IntKind.i64.wrap ((((p++[z]).length:Int))-1)=(p.length:Int):=by
     rw[dY (rC.i64.2 (by simp at hl⊢;omega))];simp
    have e2:oI a (p.length:Int)=some z:=zZ (xs:=x::xs) (by rw[h];simp)
    rw[e0,cond_true,e1,e2,Option.bind_some,hc,Option.bind_some,List.getLast?_concat]
    by_cases hz:V2 z x<0
    ·have e3:decide (V2 z x≥0)=false:=by simp;omega
     rw[e3,cond_false]
     show _=bif (decide (V2 z x<0)&&chainB (some x) xs)then k else some false
     rw[decide_eq_true hz,Bool.true_and]
    ·have e3:decide (V2 z x≥0)=true:=by simp;omega
     rw[e3,cond_true]
     show _=bif (decide (V2 z x<0)&&chainB (some x) xs)then k else some false
     rw[decide_eq_false hz];rfl
theorem aEq(l:List aD)(h:j6 aD.wt l≤1048576):rM l=some (QF l):=by
 unfold rM QF
 have hl:=gB aD.wt l
 have t:=WY (isF:=p0) (cmp:=jB) (a:=l) (L:=gE l (some (decide (((((l).map aD.c).length:Int):Int)≤(24))))) (k:=_) (by omega) aEo (fun _=>rfl) (fun _ _ _=>rfl) l [] rfl (fun x hx=>aAf x (by have:=iP (w:=aD.wt) hx;omega))
 refine t.trans ?_
 have e:decide ((((l.map aD.c).length:Int))≤24)=decide (l.length≤24):=by rw[List.length_map];congr 1;rw[eq_iff_iff];omega
 rw[e]
 show(bif chainB none l then _ else _)=_
 cases chainB none l<;>rfl
theorem aEr(l:List aD)(h:j6 aD.wt l≤1048576):rX l=some (QF l):=by
 unfold rX QF
 have hl:=gB aD.wt l
 have t:=WY (isF:=pE) (cmp:=jJ) (a:=l) (L:=eH l (some true)) (k:=_) (by omega) aEp (fun _=>rfl) (fun _ _ _=>rfl) l [] rfl (fun x hx=>aAg x (by have:=iP (w:=aD.wt) hx;omega))
 rw[show eH l (some true) l 0=_ from t]
 by_cases h24:l.length≤24
 ·have e:decide ((((l.map aD.c).length:Int))>24)=false:=by rw[List.length_map];simp;omega
  rw[e,cond_false,decide_eq_true h24,Bool.and_true]
  show(bif chainB none l then _ else _)=_
  cases chainB none l<;>rfl
 ·have e:decide ((((l.map aD.c).length:Int))>24)=true:=by rw[List.length_map];simp;omega
  rw[e,cond_true,decide_eq_false h24,Bool.and_false]
end Go.Cx
namespace Go.Cx
open Go.RowKit Go.Proofs
set_option linter.unusedVariables false
set_option linter.unusedSimpArgs false
def PB(b:List aH):Prop:=b.length≤1048576∧∀x∈b,x.var.length≤1048576∧x.value.length≤1048576
theorem PB.nil:PB []:=⟨by simp,by simp⟩
def mN:Option aH→List aH→Bool
 |_,[]=>true
 |p,x::xs=>lE x.var&&(iK x.value&&((match p with|some q=>Op.bytesLess q.var x.var|none=>true)&&mN (some x) xs))
def qV(b:List aH):Bool:=mN none b&&decide (b.length≤6)
theorem RN{b:List aH}(h:qV b=true):b.length≤6:=by
 unfold qV at h
 simp only[Bool.and_eq_true,decide_eq_true_eq]at h
 exact h.2
theorem a0o{isV isA:Bytes→Option Bool}{a:List aH}{L:List aH→Nat→Option Bool}{k:Option Bool}(ha:a.length≤1099511627770)(hV:∀x:Bytes,x.length≤1048576→isV x=some (lE x))(hA:∀x:Bytes,x.length≤1048576→isA x=some (iK x))(rD:∀i,L [] i=k)
 (qU:∀x xs i,L (x::xs) i=((isV (x.var)).bind fun y=>(bif !(y)then(some (false))else((isA (x.value)).bind fun z=>(bif !(z)then(some (false))else(bif decide (((i:Int):Int)>(0))then((oI a (IntKind.i64.wrap (((i:Int))-(1)))).bind fun q=>(bif !(Op.bytesLess (q.var) (x.var))then(some (false))else(L xs (i+1))))else(L xs (i+1)))))))):
 ∀(l pre:List aH),a=pre++l→(∀x∈l,x.var.length≤1048576∧x.value.length≤1048576)→L l pre.length=bif mN pre.getLast? l then k else some false:=by
 intro l
 induction l with
 |nil=>intro pre _ _;rw[rD];rfl
 |cons x xs ih=>
  intro pre h hf
  have hl:a.length=pre.length+(xs.length+1):=by rw[h];simp
  have t:=ih (pre++[x]) (by simp[h]) (fun y hy=>hf y (by simp[hy]))
  rw[List.length_append,List.length_singleton,List.getLast?_concat]at t
  rw[qU,hV _ (hf x (by simp)).1,Option.bind_some,hA _ (hf x (by simp)).2,Option.bind_some,t]
  simp only[mN]
  cases lE x.var with
  |false=>rfl
  |true=>
   cases iK x.value with
   |false=>rfl
   |true=>
    simp only[Bool.not_true,cond_false,Bool.true_and]
    rcases List.eq_nil_or_concat pre with rfl|⟨p,z,hpz⟩
    ·simp
    ·rw[List.concat_eq_append]at hpz
     subst hpz
     have e0:decide ((((p++[z]).length:Int))>0)=true:=by simp<;>omega
     have e1:IntKind.i64.wrap ((((p++[z]).length:Int))-1)=(p.length:Int):=by
      rw[dY (rC.i64.2 (by simp at hl⊢;omega))];simp
     have e2:oI a (p.length:Int)=some z:=zZ (xs:=x::xs) (by rw[h];simp)
     rw[e0,cond_true,e1,e2,Option.bind_some,List.getLast?_concat]
     show _=bif (Op.bytesLess z.var x.var&&mN (some x) xs)then k else some false
     cases Op.bytesLess z.var x.var<;>rfl
theorem a3Q(b:List aH)(h:PB b):hG b=some (qV b):=by
 unfold hG qV
 have t:=fun k=>a0o (isV:=dU) (isA:=cE) (a:=b) (L:=fM b k) (k:=k) (by have:=h.1;omega) a0f S9 (fun _=>rfl) (fun _ _ _=>rfl) b [] rfl h.2
 refine(t _).trans ?_
 have e:decide ((((b.map aH.c).length:Int))≤6)=decide (b.length≤6):=by rw[List.length_map];congr 1;rw[eq_iff_iff];omega
 rw[e]
 show(bif mN none b then _ else _)=_
 cases mN none b<;>rfl
theorem a3R(b:List aH)(h:PB b):iE b=some (qV b):=by
 unfold iE qV
 have t:=fun k=>a0o (isV:=iW) (isA:=cF) (a:=b) (L:=dP b k) (k:=k) (by have:=h.1;omega) a4i SA (fun _=>rfl) (fun _ _ _=>rfl) b [] rfl h.2
 rw[show dP b (some true) b 0=_ from t _]
 by_cases h6:b.length≤6
 ·have e:decide ((((b.map aH.c).length:Int))>6)=false:=by rw[List.length_map];simp;omega
  rw[e,cond_false,decide_eq_true h6,Bool.and_true]
  show(bif mN none b then _ else _)=_
  cases mN none b<;>rfl
 ·have e:decide ((((b.map aH.c).length:Int))>6)=true:=by rw[List.length_map];simp;omega
  rw[e,cond_true,decide_eq_false h6,Bool.and_false]
def dX(t:Bytes):List aH→Option Bytes
 | []=>none
 |x::xs=>bif x.var==t then some x.value else dX t xs
def A5(b:List aH)(t:Bytes):Bytes×Bool:=bif iK t then(t,true)else bif lE t then(match dX t b with|some v=>(v,true)|none=>([],false))else([],false)
theorem aCT(b:List aH)(t:Bytes)(ht:t.length≤1048576):nU b t=some (A5 b t):=by
 unfold nU A5
 have key:∀(l:List aH) (i:Nat),dV b t (some (([],false))) l i=some (bif lE t then(match dX t l with|some v=>(v,true)|none=>([],false))else([],false)):=by
  intro l
  induction l with
  |nil=>intro i;rw[dV];cases lE t<;>rfl
  |cons x xs ih=>
   intro i
   rw[dV,a0f t ht,Option.bind_some,ih]
   simp only[dX]
   cases x.var==t<;>cases lE t<;>rfl
 rw[S9 t ht,Option.bind_some,key]
 cases iK t<;>rfl
theorem aCU(b:List aH)(t:Bytes)(ht:t.length≤1048576):nW b t=some (A5 b t):=by
 unfold nW A5
 have key:∀(l:List aH) (i:Nat),j3 b t (some (([],false))) l i=some (match dX t l with|some v=>(v,true)|none=>([],false)):=by
  intro l
  induction l with
  |nil=>intro i;rfl
  |cons x xs ih=>
   intro i
   rw[j3,ih]
   simp only[dX]
   cases x.var==t<;>rfl
 rw[SA t ht,Option.bind_some,a4i t ht,Option.bind_some,key]
 cases iK t<;>cases lE t<;>rfl
theorem a2Z(b:List aH)(h:b.length≤1099511627776):oY b=some b:=by
 unfold oY
 rw[a0e h (by decide)];simp
theorem a7l(b:List aH)(h:b.length≤1099511627776):nH b=some b:=by
 unfold nH
 rw[a0e h (by decide)];simp
def NV(v val:Bytes):List aH→List aH
 | []=>[⟨v,val⟩]
 |x::xs=>bif !(Op.bytesLess x.var v||x.var==v)then⟨v,val⟩::x::xs else x::NV v val xs
theorem a0p(v val:Bytes)(b:List aH):(NV v val b).length=b.length+1:=by
 induction b with
 |nil=>rfl
 |cons x xs ih=>simp only[NV];cases !(Op.bytesLess x.var v||x.var==v)<;>simp[ih]
theorem a0q(v val:Bytes)(b:List aH){x:aH}(h:x∈NV v val b):x=⟨v,val⟩∨x∈b:=by
 induction b with
 |nil=>simp[NV]at h;exact .inl h
 |cons y ys ih=>
  simp only[NV]at h
  cases hc: !(Op.bytesLess y.var v||y.var==v)with
  |true=>
   rw[hc,cond_true]at h
   rcases List.mem_cons.1 h with h|h
   ·exact .inl h
   ·exact .inr h
  |false=>
   rw[hc,cond_false]at h
   rcases List.mem_cons.1 h with h|h
   ·exact .inr (by simp[h])
   ·rcases ih h with h|h
    ·exact .inl h
    ·exact .inr (by simp[h])
theorem a3S{γ:Type}{v val:Bytes}{L:List aH→Nat→Bool→List aH→Option γ}{k:Bool→List aH→Option γ}{K:List aH→Option γ}(hk1:∀w,k true w=K w)(hk2:∀w:List aH,w.length<1099511627770→k false w=K (w++[⟨v,val⟩]))(rD:∀i d w,L [] i d w=k d w)
 (qU:∀x xs i d w,L (x::xs) i d w=(bif !(d)then(bif !(Op.bytesLess (x.var) v||(x.var:Bytes)==v)then(bif room (((w).map aH.c).length+([[D.str v,D.str val]]).length) 32 then(bif room ((((w).map aH.c)++([[D.str v,D.str val]])).length+([[D.str (x.var),D.str (x.value)]]).length) 32 then(L xs (i+1) (true) (((w)++([(⟨v,val⟩:aH)]))++([x])))else none)else none)else(bif room (((w).map aH.c).length+([[D.str (x.var),D.str (x.value)]]).length) 32 then(L xs (i+1) (d) ((w)++([x])))else none))else(bif room (((w).map aH.c).length+([[D.str (x.var),D.str (x.value)]]).length) 32 then(L xs (i+1) (d) ((w)++([x])))else none))):
 ∀(l:List aH) (i:Nat) (w:List aH),w.length+l.length<1099511627760→L l i false w=K (w++NV v val l):=by
 have c1:∀(l:List aH) (i:Nat) (w:List aH),w.length+l.length<1099511627765→L l i true w=K (w++l):=by
  intro l
  induction l with
  |nil=>intro i w _;rw[rD,hk1,List.append_nil]
  |cons x xs ih=>
   intro i w hw
   simp only[List.length_cons]at hw
   rw[qU,Bool.not_true,cond_false,n7 (by omega) (by decide),cond_true,ih (i+1) (w++[x]) (by simp;omega)];simp
 intro l
 induction l with
 |nil=>intro i w hw;simp only[List.length_nil]at hw;rw[rD,hk2 _ (by omega)];rfl
 |cons x xs ih=>
  intro i w hw
  simp only[List.length_cons]at hw
  have r1:∀y:List D,room ((w.map aH.c).length+([y]).length) 32=true:=fun y=>n7 (by omega) (by decide)
  have r2:room ((((w).map aH.c)++([[D.str v,D.str val]])).length+([[D.str (x.var),D.str (x.value)]]).length) 32=true:=UO (by simp;omega) (by decide)
  have t1:=ih (i+1) (w++[x]) (by simp;omega)
  have t2:=c1 xs (i+1) ((w++[⟨v,val⟩])++[x]) (by simp;omega)
  rw[qU,Bool.not_false,cond_true,r1,r1,r2]
  simp only[cond_true,NV]
  cases !(Op.bytesLess x.var v||x.var==v)with
  |true=>rw[cond_true,cond_true,t2];simp
  |false=>rw[cond_false,cond_false,t1];simp
theorem aEs(b:List aH)(v val:Bytes)(h:b.length<1099511627700):wJ b v val=some (NV v val b):=by
 unfold wJ
 exact a3S (v:=v) (val:=val) (K:=fun w=>some w) (L:=jQ b v val (fun(z:Bool) (q:List aH)=>(bif !(z)then(bif room (((q).map aH.c).length+([[D.str v,D.str val]]).length) 32 then(some ((q)++([(⟨v,val⟩:aH)])))else none)else(some (q))))) (fun w=>rfl) (fun w hw=>by show(bif !false then _ else _)=_;rw[n7 (by omega) (by decide)];rfl) (fun _ _ _=>rfl) (fun _ _ _ _ _=>rfl) b 0 [] (by simp;omega)
def T0(b:List aH)(v val:Bytes):List aH×Bool:=bif qV b&&(lE v&&iK val)then(match dX v b with|some o=>bif o==val then(b,true)else([],false)|none=>bif decide (b.length=6)then([],false)else(NV v val b,true))else([],false)
theorem a3T{b:List aH}{v val:Bytes}(h:PB b)(hv:v.length≤1048576)(hl:val.length≤1048576):PB (T0 b v val).1:=by
 unfold T0
 cases hb:qV b&&(lE v&&iK val)with
 |false=>exact PB.nil
 |true=>
  rw[cond_true]
  have h6:b.length≤6:=RN (by simp only[Bool.and_eq_true]at hb;exact hb.1)
  cases dX v b with
  |some o=>simp only;cases o==val<;>first|exact h|exact PB.nil
  |none=>
   simp only
   cases decide (b.length=6)with
   |true=>exact PB.nil
   |false=>
    refine⟨by simp only[cond_false,a0p];omega,fun x hx=>?_⟩
    rcases a0q _ _ _ hx with rfl|hx
    ·exact⟨hv,hl⟩
    ·exact h.2 x hx
theorem aGq(b:List aH)(v val:Bytes)(h:PB b)(hv:v.length≤1048576)(hl:val.length≤1048576):sL b v val=some (T0 b v val):=by
 unfold sL T0
 have hlen:=h.1
 rw[a3Q b h,Option.bind_some,a0f v hv,Option.bind_some,S9 val hl,Option.bind_some,aCT b v hv,Option.bind_some,a2Z b (by omega),Option.bind_some,aEs b v val (by omega),Option.bind_some]
 have e6:(((((b.map aH.c).length:Int):Int)==6))=decide (b.length=6):=by
  rw[List.length_map,Bool.eq_iff_iff];simp;omega
 rw[e6]
 cases hb:qV b with
 |false=>rfl
 |true=>
  cases hvv:lE v with
  |false=>rfl
  |true=>
   cases iK val with
   |false=>rfl
   |true=>
    have ZD:A5 b v=(match dX v b with|some o=>(o,true)|none=>([],false)):=by unfold A5;rw[E5 hvv,hvv];rfl
    rw[ZD]
    simp only[Bool.not_true,cond_false,Bool.true_and,Bool.and_true,cond_true]
    cases dX v b with
    |some o=>simp only[cond_true];cases o==val<;>rfl
    |none=>simp only[cond_false];cases decide (b.length=6)<;>rfl
theorem aGr(b:List aH)(v val:Bytes)(h:PB b)(hv:v.length≤1048576)(hl:val.length≤1048576):sM b v val=some (T0 b v val):=by
 unfold sM T0
 have hlen:=h.1
 have t:=(a3S (v:=v) (val:=val) (K:=fun w=>some ((w,true):List aH×Bool)) (L:=iF b v val (fun(z:Bool) (q:List aH)=>(bif !(z)then(bif room (((q).map aH.c).length+([[D.str v,D.str val]]).length) 32 then(some (((q)++([(⟨v,val⟩:aH)]),true)))else none)else(some ((q,true)))))) (fun w=>rfl) (fun w hw=>by show(bif !false then _ else _)=_;rw[n7 (by omega) (by decide)];rfl) (fun _ _ _=>rfl) (fun _ _ _ _ _=>rfl) b 0 [] (by simp;omega))
 rw[a3R b h,Option.bind_some,a4i v hv,Option.bind_some,SA val hl,Option.bind_some,aCU b v hv,Option.bind_some,a7l b (by omega),Option.bind_some,t]
 cases hb:qV b with
 |false=>rfl
 |true=>
  have h6:=RN hb
  have e6:decide ((((b.map aH.c).length:Int):Int)≥6)=decide (b.length=6):=by
   rw[List.length_map];congr 1;rw[eq_iff_iff];omega
  rw[e6]
  cases hvv:lE v with
  |false=>rfl
  |true=>
   cases iK val with
   |false=>rfl
   |true=>
    have ZD:A5 b v=(match dX v b with|some o=>(o,true)|none=>([],false)):=by unfold A5;rw[E5 hvv,hvv];rfl
    rw[ZD]
    simp only[Bool.not_true,cond_false,Bool.true_and,Bool.and_true,cond_true]
    cases dX v b with
    |some o=>simp only[cond_true];cases o==val<;>rfl
    |none=>simp only[cond_false];cases decide (b.length=6)<;>rfl
def a0r:List Bytes→List Bytes→List aH→List aH×Bool
 | [],_,w=>(w,true)
 |_::_,[],_=>([],false)
 |x::xs,y::ys,w=>bif iK x then(bif x==y then a0r xs ys w else([],false))else(bif (T0 w x y).2 then a0r xs ys (T0 w x y).1 else([],false))
def E6(p f:aD)(b:List aH):List aH×Bool:=bif FE p&&(I6 f&&(qV b&&(p.rel==f.rel&&decide (p.args.length=f.args.length))))then a0r p.args f.args b else([],false)
theorem YX:∀(l r:List Bytes) (w:List aH),PB w→(∀x∈l,x.length≤1048576)→(∀x∈r,x.length≤1048576)→PB (a0r l r w).1
 | [],_,w,h,_,_=>h
 |_::_,[],_,_,_,_=>PB.nil
 |x::xs,y::ys,w,h,hl,hr=>by
  simp only[a0r]
  have i1:=YX xs ys w h (fun z hz=>hl z (by simp[hz])) (fun z hz=>hr z (by simp[hz]))
  have i2:=YX xs ys (T0 w x y).1 (a3T h (hl x (by simp)) (hr y (by simp))) (fun z hz=>hl z (by simp[hz])) (fun z hz=>hr z (by simp[hz]))
  cases iK x with
  |true=>cases x==y<;>first|exact i1|exact PB.nil
  |false=>cases(T0 w x y).2<;>first|exact i2|exact PB.nil
theorem a9f{p f:aD}{b:List aH}(hb:PB b)(hp:p.wt≤1048576)(hf:f.wt≤1048576):PB (E6 p f b).1:=by
 unfold E6
 cases FE p&&(I6 f&&(qV b&&(p.rel==f.rel&&decide (p.args.length=f.args.length))))with
 |false=>exact PB.nil
 |true=>exact YX _ _ _ hb (fun x hx=>aD.sY hp hx) (fun x hx=>aD.sY hf hx)
theorem a3U{isA:Bytes→Option Bool}{ext:List aH→Bytes→Bytes→Option (List aH×Bool)}{fa:List Bytes}{L:List Bytes→Nat→List aH→Option (List aH×Bool)}(hA:∀x:Bytes,x.length≤1048576→isA x=some (iK x))(hE:∀w x y,PB w→x.length≤1048576→y.length≤1048576→ext w x y=some (T0 w x y))(rD:∀i w,L [] i w=some (w,true))
 (qU:∀x xs i w,L (x::xs) i w=((isA x).bind fun y=>(bif y then((oI fa ((i:Int))).bind fun z=>(bif !((x:Bytes)==z)then(some (([],false)))else(L xs (i+1) w)))else((oI fa ((i:Int))).bind fun z=>((ext w x z).bind fun q=>(bif !(q.2)then(some (([],false)))else(L xs (i+1) (q.1)))))))):
 ∀(l pre rest:List Bytes) (w:List aH),fa=pre++rest→l.length=rest.length→(∀x∈l,x.length≤1048576)→(∀x∈rest,x.length≤1048576)→PB w→L l pre.length w=some (a0r l rest w):=by
 intro l
 induction l with
 |nil=>intro pre rest w _ _ _ _ _;rw[rD];simp[a0r]
 |cons x xs ih=>
  intro pre rest w h hl hx hr hw
  cases rest with
  |nil=>simp at hl
  |cons y ys=>
   have t:=fun w' hw'=>ih (pre++[y]) ys w' (by simp[h]) (by simpa using hl) (fun z hz=>hx z (by simp[hz])) (fun z hz=>hr z (by simp[hz])) hw'
   simp only[List.length_append,List.length_singleton]at t
   rw[qU,hA x (hx x (by simp)),Option.bind_some,zZ h,Option.bind_some,Option.bind_some,hE w x y hw (hx x (by simp)) (hr y (by simp)),Option.bind_some]
   simp only[a0r]
   cases iK x with
   |true=>
    simp only[cond_true]
    cases x==y with
    |true=>simp only[Bool.not_true,cond_false,cond_true];exact t w hw
    |false=>rfl
   |false=>
    simp only[cond_false]
    cases hq:(T0 w x y).2 with
    |true=>simp only[Bool.not_true,cond_false,cond_true];exact t _ (a3T hw (hx x (by simp)) (hr y (by simp)))
    |false=>rfl
theorem a7m(a b:List Bytes):((((a.map tx).length:Int):Int) != (((b.map tx).length:Int)))= !decide (a.length=b.length):=by
 rw[List.length_map,List.length_map]
 by_cases h:a.length=b.length
 ·simp[h]
 ·rw[decide_eq_false h];simp;omega
theorem aEt(p f:aD)(b:List aH)(hp:p.wt≤1048576)(hf:f.wt≤1048576)(hb:PB b):hO p f b=some (E6 p f b):=by
 unfold hO E6
 have hlen:=hb.1
 rw[aC9 p hp,Option.bind_some,aAf f hf,Option.bind_some,a3Q b hb,Option.bind_some,a2Z b (by omega),Option.bind_some,a7m]
 cases FE p with
 |false=>rfl
 |true=>
  cases I6 f with
  |false=>rfl
  |true=>
   cases qV b with
   |false=>rfl
   |true=>
    cases p.rel==f.rel with
    |false=>rfl
    |true=>
     by_cases h:p.args.length=f.args.length
     ·rw[decide_eq_true h]
      have t:=a3U (isA:=cE) (ext:=sL) (fa:=f.args) (L:=fN p f (fun(q:List aH)=>(some ((q,true))))) S9 (fun w x y hw hx hy=>aGq w x y hw hx hy) (fun _ _=>rfl) (fun _ _ _ _=>rfl) p.args [] f.args b rfl h (fun x hx=>aD.sY hp hx) (fun x hx=>aD.sY hf hx) hb
      exact t
     ·rw[decide_eq_false h];rfl
theorem aEu(p f:aD)(b:List aH)(hp:p.wt≤1048576)(hf:f.wt≤1048576)(hb:PB b):iG p f b=some (E6 p f b):=by
 unfold iG E6
 have hlen:=hb.1
 rw[aCA p hp,Option.bind_some,aAg f hf,Option.bind_some,a3R b hb,Option.bind_some,a7l b (by omega),Option.bind_some,a7m]
 cases FE p with
 |false=>rfl
 |true=>
  cases I6 f with
  |false=>rfl
  |true=>
   cases qV b with
   |false=>rfl
   |true=>
    cases p.rel==f.rel with
    |false=>rfl
    |true=>
     by_cases h:p.args.length=f.args.length
     ·rw[decide_eq_true h]
      have t:=a3U (isA:=cF) (ext:=sM) (fa:=f.args) (L:=fS p f (fun(q:List aH)=>(some ((q,true))))) SA (fun w x y hw hx hy=>aGr w x y hw hx hy) (fun _ _=>rfl) (fun _ _ _ _=>rfl) p.args [] f.args b rfl h (fun x hx=>aD.sY hp hx) (fun x hx=>aD.sY hf hx) hb
      exact t
     ·rw[decide_eq_false h];rfl
def ltB(l r:Bytes):Bool:=match FG l,FG r with|some x,some y=>decide (x<y)|_,_=>false
def a7n(c:aF)(b:List aH):Bool:=QD c&&(qV b&&((A5 b c.left).2&&((A5 b c.right).2&&(bif decide (c.kind=3)then(A5 b c.left).1==(A5 b c.right).1 else bif decide (c.kind=4)then !((A5 b c.left).1==(A5 b c.right).1)else ltB (A5 b c.left).1 (A5 b c.right).1))))
theorem xL(a b:Int):(a==b)=decide (a=b):=by rw[Bool.eq_iff_iff];simp
theorem aEv(c:aF)(b:List aH)(hc:c.wt≤1048576)(hb:PB b):qD c b=some (a7n c b):=by
 unfold qD a7n
 rw[a7P c hc,Option.bind_some,a3Q b hb,Option.bind_some,aCT b c.left (aF.BL hc),Option.bind_some,aCT b c.right (aF.yG hc),Option.bind_some,xL,xL]
 cases QD c with
 |false=>rfl
 |true=>
  cases qV b with
  |false=>rfl
  |true=>
   cases(A5 b c.left).2 with
   |false=>rfl
   |true=>
    cases(A5 b c.right).2 with
    |false=>rfl
    |true=>
     cases decide (c.kind=3)with
     |true=>rfl
     |false=>
      cases decide (c.kind=4)with
      |true=>rfl
      |false=>
       simp only[Bool.not_true,cond_false,Bool.true_and]
       unfold rS ltB
       rw[YU,Option.bind_some,Option.bind_some,YU,Option.bind_some,Option.bind_some,aAl,Option.bind_some]
       unfold pI VV
       cases FG (A5 b c.left).1 with
       |none=>rfl
       |some x=>
        cases FG (A5 b c.right).1 with
        |none=>rfl
        |some y=>
         simp only[cond_true]
         congr 1
         unfold a4p
         by_cases h:x<y
         ·have h1:(x:Int)<y:=by omega
          simp[h1,h]
         ·have h1:¬(x:Int)<y:=by omega
          by_cases h2:(x:Int)>y
          ·simp[h1,h,h2]
          ·simp[h1,h,h2]
theorem aEw(c:aF)(b:List aH)(hc:c.wt≤1048576)(hb:PB b):qM c b=some (a7n c b):=by
 unfold qM a7n
 rw[aEb c hc,Option.bind_some,a3R b hb,Option.bind_some,aCU b c.left (aF.BL hc),Option.bind_some,aCU b c.right (aF.yG hc),Option.bind_some,xL,xL]
 cases QD c with
 |false=>rfl
 |true=>
  cases qV b with
  |false=>rfl
  |true=>
   cases(A5 b c.left).2 with
   |false=>rfl
   |true=>
    cases(A5 b c.right).2 with
    |false=>rfl
    |true=>
     cases decide (c.kind=3)with
     |true=>rfl
     |false=>
      cases decide (c.kind=4)with
      |true=>rfl
      |false=>
       simp only[Bool.not_true,cond_false,Bool.true_and]
       unfold ltB
       rw[YV,Option.bind_some,YV,Option.bind_some]
       unfold pI
       cases FG (A5 b c.left).1 with
       |none=>rfl
       |some x=>
        cases FG (A5 b c.right).1 with
        |none=>rfl
        |some y=>
         simp only[cond_true]
         congr 1
         by_cases h:x<y
         ·simp[h]
         ·simp[h]
def E7(p:aD)(b:List aH)(fs:List aD):List aD:=fs.filter fun f=>(E6 p f b).2
def FS(fs:List aD):Prop:=fs.length≤1048576∧∀f∈fs,f.wt≤1048576
theorem FS.of{fs:List aD}(h:j6 aD.wt fs≤1048576):FS fs:=⟨by have:=gB aD.wt fs;omega,fun f hf=>by have:=iP (w:=aD.wt) hf;omega⟩
theorem a3V{γ:Type}{mf:aD→Option (List aH×Bool)}{cp:aD→Option aD}{p:aD}{b:List aH}{L:List aD→Nat→List aD→Option γ}{k:List aD→Option γ}(hm:∀f:aD,f.wt≤1048576→mf f=some (E6 p f b))(hc:∀f:aD,f.wt≤1048576→cp f=some f)(rD:∀i w,L [] i w=k w)
 (qU:∀x xs i w,L (x::xs) i w=((mf x).bind fun y=>(bif y.2 then((cp x).bind fun z=>(bif room (((w).map aD.c).length+([[D.str (z.rel),D.sl ((z.args).map tx)]]).length) 40 then(L xs (i+1) ((w)++([z])))else none))else(L xs (i+1) (w))))):
 ∀(l:List aD) (i:Nat) (w:List aD),(∀f∈l,f.wt≤1048576)→w.length+l.length<1099511627700→L l i w=k (w++E7 p b l):=by
 intro l
 induction l with
 |nil=>intro i w _ _;rw[rD];simp[E7]
 |cons x xs ih=>
  intro i w hl hw
  simp only[List.length_cons]at hw
  have hx:=hl x (by simp)
  rw[qU,hm x hx,Option.bind_some,hc x hx,Option.bind_some,n7 (by omega) (by decide),cond_true]
  have e:E7 p b (x::xs)=bif (E6 p x b).2 then x::E7 p b xs else E7 p b xs:=by
   unfold E7
   rw[List.filter_cons]
   cases(E6 p x b).2<;>rfl
  rw[e]
  cases(E6 p x b).2 with
  |true=>rw[cond_true,cond_true,ih _ _ (fun f hf=>hl f (by simp[hf])) (by simp;omega)];simp
  |false=>rw[cond_false,cond_false,ih _ _ (fun f hf=>hl f (by simp[hf])) (by omega)]
theorem aEx(p:aD)(b:List aH)(fs:List aD)(hp:p.wt≤1048576)(hb:PB b)(hf:FS fs):eF p b fs=some (E7 p b fs):=by
 unfold eF
 have h1:=hf.1
 refine(a3V (mf:=fun f=>hO p f b) (cp:=iM) (p:=p) (b:=b) (L:=cP p b fs _) (k:=fun q=>some q) (fun f h=>aEt p f b hp h hb) (fun f h=>a2O f (by have:=aD.cW h;omega)) (fun _ _=>rfl) (fun _ _ _ _=>rfl) fs 0 [] hf.2 (by simp;omega)).trans ?_
 simp
theorem aEy(p:aD)(b:List aH)(fs:List aD)(hp:p.wt≤1048576)(hb:PB b)(hf:FS fs):eM p b fs=some (E7 p b fs):=by
 unfold eM
 have h1:=hf.1
 refine(a3V (mf:=fun f=>iG p f b) (cp:=eS) (p:=p) (b:=b) (L:=cS p b fs _) (k:=fun q=>some q) (fun f h=>aEu p f b hp h hb) (fun f h=>a2P f (by have:=aD.cW h;omega)) (fun _ _=>rfl) (fun _ _ _ _=>rfl) fs 0 [] hf.2 (by simp;omega)).trans ?_
 simp
def YY(c:aF)(b:List aH)(fs:List aD):Bool:=qQ c&&(qV b&&(bif decide (c.kind=1)then decide (0<(E7 c.pat b fs).length)else bif decide (c.kind=2)then decide ((E7 c.pat b fs).length=0)else a7n c b))
theorem a7o(l:List aD):decide (((((l).map aD.c).length:Int):Int)>(0))=decide (0<l.length):=by rw[List.length_map];congr 1;rw[eq_iff_iff];omega
theorem len_eq(l:List aD):((((((l).map aD.c).length:Int):Int)==(0)))=decide (l.length=0):=by rw[List.length_map,xL];congr 1;rw[eq_iff_iff];omega
theorem aEz(c:aF)(b:List aH)(fs:List aD)(hc:c.wt≤1048576)(hb:PB b)(hf:FS fs):qE c b fs=some (YY c b fs):=by
 unfold qE YY
 rw[a7N c hc,Option.bind_some,a3Q b hb,Option.bind_some,aEx c.pat b fs (aF.cT hc) hb hf,Option.bind_some,Option.bind_some,aEv c b hc hb,Option.bind_some,xL,xL,a7o,len_eq]
 cases qQ c with
 |false=>rfl
 |true=>
  cases qV b with
  |false=>rfl
  |true=>cases decide (c.kind=1)<;>cases decide (c.kind=2)<;>rfl
theorem aF0(c:aF)(b:List aH)(fs:List aD)(hc:c.wt≤1048576)(hb:PB b)(hf:FS fs):qN c b fs=some (YY c b fs):=by
 unfold qN YY
 rw[a7O c hc,Option.bind_some,a3R b hb,Option.bind_some,aEy c.pat b fs (aF.cT hc) hb hf,Option.bind_some,Option.bind_some,aEw c b hc hb,Option.bind_some,xL,xL,a7o,len_eq]
 cases qQ c with
 |false=>rfl
 |true=>
  cases qV b with
  |false=>rfl
  |true=>cases decide (c.kind=1)<;>cases decide (c.kind=2)<;>rfl
end Go.Cx
namespace Go.Cx
open Go.RowKit Go.Proofs
set_option linter.unusedVariables false
set_option linter.unusedSimpArgs false
def Fix(h:Bytes→Bytes):Prop:=∀y,iK y=true→h y=y
theorem D3{t o:Bytes}:∀ {w:List aH},dX t w=some o→∃p∈w,p.var=t∧p.value=o
 |x::xs,h=>by
  rw[dX]at h
  cases hx:x.var==t with
  |true=>rw[hx,cond_true]at h;cases h;exact⟨x,by simp,by simpa using hx,rfl⟩
  |false=>
   rw[hx,cond_false]at h
   obtain⟨p,hp,h1⟩:=D3 h
   exact⟨p,by simp[hp],h1⟩
theorem V3{t:Bytes}:∀ {w:List aH},dX t w=none→∀p∈w,p.var≠t
 |x::xs,h,p,hp=>by
  rw[dX]at h
  cases hx:x.var==t with
  |true=>rw[hx]at h;cases h
  |false=>
   rw[hx,cond_false]at h
   rcases List.mem_cons.1 hp with rfl|hp
   ·simpa using hx
   ·exact V3 h p hp
theorem oT(p:Option aH)(x:aH)(xs:List aH):mN p (x::xs)=(lE x.var&&(iK x.value&&((match p with|some q=>Op.bytesLess q.var x.var|none=>true)&&mN (some x) xs))):=by
 cases p<;>rfl
theorem WZ{v val:Bytes}(hv:lE v=true)(ha:iK val=true):∀(w:List aH) (p:Option aH),mN p w=true→dX v w=none→(∀q,p=some q→Op.bytesLess q.var v=true)→mN p (NV v val w)=true
 | [],p,_,_,hp=>by
  simp only[NV,mN,hv,ha,Bool.true_and,Bool.and_true]
  cases p with
  |none=>rfl
  |some q=>exact hp q rfl
 |x::xs,p,hc,hf,hp=>by
  rw[oT]at hc
  simp only[Bool.and_eq_true]at hc
  obtain⟨c1,c2,c3,c4⟩:=hc
  rw[dX]at hf
  cases hx:x.var==v with
  |true=>rw[hx]at hf;cases hf
  |false=>
   rw[hx,cond_false]at hf
   rw[NV,hx,Bool.or_false]
   cases hl:Op.bytesLess x.var v with
   |true=>
    rw[Bool.not_true,cond_false,oT]
    simp only[Bool.and_eq_true]
    exact⟨c1,c2,c3,WZ hv ha xs (some x) c4 hf (fun q hq=>by cases hq;exact hl)⟩
   |false=>
    have h2:Op.bytesLess v x.var=true:=by
     cases h3:Op.bytesLess v x.var with
     |true=>rfl
     |false=>
      have:=NS hl h3
      rw[this]at hx;simp at hx
    rw[Bool.not_false,cond_true,oT]
    simp only[Bool.and_eq_true]
    refine⟨hv,ha,?_,?_⟩
    ·cases p with
     |none=>rfl
     |some q=>exact hp q rfl
    ·rw[oT]
     simp only[Bool.and_eq_true]
     exact⟨c1,c2,h2,c4⟩
theorem a7p{v val:Bytes}{w:List aH}(hv:lE v=true)(ha:iK val=true)(hb:qV w=true)(hf:dX v w=none)(hl:w.length≠6):qV (NV v val w)=true:=by
 have h6:=RN hb
 unfold qV at hb⊢
 rw[Bool.and_eq_true]at hb⊢
 exact⟨WZ hv ha w none hb.1 hf (fun q h=>by cases h),by rw[a0p];simp;omega⟩
theorem a9g{p:aD}(h:FE p=true):∀t∈p.args,tA t=true:=by
 unfold FE at h
 rw[Bool.and_eq_true]at h
 exact fun t ht=>List.all_eq_true.1 h.1 t ht
end Go.Cx
namespace Go.Cx
open Go.RowKit Go.Proofs
set_option linter.unusedVariables false
set_option linter.unusedSimpArgs false
theorem a0s(l:List aD)(h:l.length≤1048576)(hf:∀f∈l,f.args.length≤1048576):mH l=some l:=by
 unfold mH
 refine(SX (c:=aD.c) (b:=40) (f:=iM) (g:=fun x=>x) (L:=kH l _) (k:=fun q=>some q) (by decide) (fun _ _=>rfl) (fun _ _ _ _=>rfl) l 0 [] (fun f h=>a2O f (by have:=hf f h;omega)) (by simp;omega)).trans ?_
 simp
theorem a0t(l:List aD)(h:l.length≤1048576)(hf:∀f∈l,f.args.length≤1048576):kT l=some l:=by
 unfold kT
 refine(SX (c:=aD.c) (b:=40) (f:=eS) (g:=fun x=>x) (L:=jG l _) (k:=fun q=>some q) (by decide) (fun _ _=>rfl) (fun _ _ _ _=>rfl) l 0 [] (fun f h=>a2P f (by have:=hf f h;omega)) (by simp;omega)).trans ?_
 simp
def TK(n:Nat)(t:aL):Prop:=t.facts.length≤n∧(∀f∈t.facts,f.wt≤1048576)∧PB t.bind
theorem TK.le{n m:Nat}{t:aL}(h:TK n t)(hm:n≤m):TK m t:=⟨by have:=h.1;omega,h.2⟩
theorem aCV(t:aL)(h:TK 1048576 t):uT t=some t:=by
 unfold uT
 rw[a0s t.facts h.1 (fun f hf=>by have:=aD.cW (h.2.1 f hf);omega),Option.bind_some,a2Z t.bind (by have:=h.2.2.1;omega),Option.bind_some]
def ext1(c:aF)(t:aL)(f:aD):List aL:=bif (E6 c.pat f t.bind).2 then [⟨t.facts++[f],(E6 c.pat f t.bind).1⟩]else []
def YZ(c:aF)(fs:List aD)(t:aL):List aL:=bif decide (c.kind=1)then fs.flatMap (ext1 c t)else bif YY c t.bind fs then [t]else []
def IC(fs:List aD)(l:List aL)(c:aF):List aL:=l.flatMap (YZ c fs)
def Z0(cs:List aF)(fs:List aD):List aL:=cs.foldl (IC fs) [⟨[],[]⟩]
theorem a7q(c:aF)(t:aL)(f:aD):(ext1 c t f).length≤1:=by unfold ext1;cases(E6 c.pat f t.bind).2<;>simp
theorem V4(c:aF)(t:aL)(fs:List aD):(fs.flatMap (ext1 c t)).length≤fs.length:=by
 induction fs with
 |nil=>simp
 |cons f fs ih=>rw[List.flatMap_cons,List.length_append];have:=a7q c t f;simp only[List.length_cons];omega
theorem V5(c:aF)(fs:List aD)(t:aL):(YZ c fs t).length≤fs.length+1:=by
 unfold YZ
 cases decide (c.kind=1)with
 |true=>have:=V4 c t fs;rw[cond_true];omega
 |false=>cases YY c t.bind fs<;>simp
theorem a0u(fs:List aD)(l:List aL)(c:aF):(IC fs l c).length≤l.length*(fs.length+1):=by
 unfold IC
 induction l with
 |nil=>simp
 |cons t l ih=>rw[List.flatMap_cons,List.length_append,List.length_cons,Nat.succ_mul];have:=V5 c fs t;omega
theorem a9h{c:aF}{fs:List aD}{t:aL}{n:Nat}(h:TK n t)(hc:c.wt≤1048576)(hf:FS fs):∀u∈YZ c fs t,TK (n+1) u:=by
 intro u hu
 unfold YZ at hu
 cases hk:decide (c.kind=1)with
 |false=>
  rw[hk,cond_false]at hu
  cases hh:YY c t.bind fs with
  |false=>rw[hh]at hu;cases hu
  |true=>
   rw[hh,cond_true,List.mem_singleton]at hu
   subst hu;exact h.le (by omega)
 |true=>
  rw[hk,cond_true]at hu
  obtain⟨f,hf1,hu⟩:=List.mem_flatMap.1 hu
  unfold ext1 at hu
  cases hm:(E6 c.pat f t.bind).2 with
  |false=>rw[hm]at hu;cases hu
  |true=>
   rw[hm,cond_true,List.mem_singleton]at hu
   subst hu
   refine⟨by have:=h.1;simp;omega,?_,a9f h.2.2 (aF.cT hc) (hf.2 f hf1)⟩
   intro g hg
   rcases List.mem_append.1 hg with hg|hg
   ·exact h.2.1 g hg
   ·rw[List.mem_singleton]at hg;rw[hg];exact hf.2 f hf1
theorem a3W{c:aF}{fs:List aD}{l:List aL}{n:Nat}(h:∀t∈l,TK n t)(hc:c.wt≤1048576)(hf:FS fs):∀u∈IC fs l c,TK (n+1) u:=by
 intro u hu
 obtain⟨t,ht,hu⟩:=List.mem_flatMap.1 hu
 exact a9h (h t ht) hc hf u hu
theorem a3X{γ:Type}{mf:aD→Option (List aH×Bool)}{cps:Option (List aD)}{cp:aD→Option aD}{c:aF}{t:aL}{L:List aD→Nat→List aL→Option γ}{k:List aL→Option γ}(hm:∀f:aD,f.wt≤1048576→mf f=some (E6 c.pat f t.bind))(hcs:cps=some t.facts)(hc:∀f:aD,f.wt≤1048576→cp f=some f)(ht:t.facts.length≤1048576)(rD:∀i w,L [] i w=k w)
 (qU:∀x xs i w,L (x::xs) i w=((mf x).bind fun y=>(bif y.2 then(cps.bind fun q=>((cp x).bind fun z=>(bif room (((q).map aD.c).length+([[D.str (z.rel),D.sl ((z.args).map tx)]]).length) 40 then(bif room (((w).map aL.c).length+([[D.sl (((q).map aD.c)++([[D.str (z.rel),D.sl ((z.args).map tx)]])),D.sl ((y.1).map aH.c)]]).length) 48 then(L xs (i+1) ((w)++([(⟨(q)++([z]),y.1⟩:aL)])))else none)else none)))else(L xs (i+1) (w))))):
 ∀(l:List aD) (i:Nat) (w:List aL),(∀f∈l,f.wt≤1048576)→w.length+l.length<1099511627770→L l i w=k (w++l.flatMap (ext1 c t)):=by
 intro l
 induction l with
 |nil=>intro i w _ _;rw[rD];simp
 |cons x xs ih=>
  intro i w hl hw
  simp only[List.length_cons]at hw
  have hx:=hl x (by simp)
  rw[qU,hm x hx,Option.bind_some,hcs,Option.bind_some,hc x hx,Option.bind_some,n7 (by omega) (by decide),cond_true,n7 (by omega) (by decide),cond_true,List.flatMap_cons]
  rw[show ext1 c t x=bif (E6 c.pat x t.bind).2 then [⟨t.facts++[x],(E6 c.pat x t.bind).1⟩]else []from rfl]
  cases(E6 c.pat x t.bind).2 with
  |true=>rw[cond_true,cond_true,ih _ _ (fun f hf=>hl f (by simp[hf])) (by simp;omega)];simp
  |false=>rw[cond_false,cond_false,ih _ _ (fun f hf=>hl f (by simp[hf])) (by omega)];simp
theorem a3Y(c:aF):((c.kind:Int) != (1))= !decide (c.kind=1):=by
 show(!((c.kind:Int)==1))=_
 rw[xL]
theorem aCW(l0:List aL)(c:aF)(fs:List aD)(k:List aL→Option (List aL))(hc:c.wt≤1048576)(hf:FS fs):∀(l:List aL) (i:Nat) (w:List aL),(∀t∈l,TK 1048576 t)→w.length+l.length*(fs.length+1)<1099511627700→dN l0 c fs k l i w=k (w++IC fs l c):=by
 intro l
 have h1:=hf.1
 induction l with
 |nil=>intro i w _ _;rw[dN];simp[IC]
 |cons t l ih=>
  intro i w hl hw
  rw[List.length_cons,Nat.succ_mul]at hw
  have ht:=hl t (by simp)
  have e:IC fs (t::l) c=YZ c fs t++IC fs l c:=by simp[IC]
  have hn:=V5 c fs t
  have he:=V4 c t fs
  rw[dN,a3Y,aEz c t.bind fs hc ht.2.2 hf,Option.bind_some,aCV t ht,Option.bind_some,n7 (by omega) (by decide),cond_true,wM (by omega),cond_true,e]
  rw[a3X (mf:=fun f=>hO c.pat f t.bind) (cps:=mH t.facts) (cp:=iM) (c:=c) (t:=t) (L:=kQ l0 c fs i t _) (k:=_) (fun f h=>aEt c.pat f t.bind (aF.cT hc) h ht.2.2) (a0s t.facts ht.1 (fun f hf=>by have:=aD.cW (ht.2.1 f hf);omega)) (fun f h=>a2O f (by have:=aD.cW h;omega)) ht.1 (fun _ _=>rfl) (fun _ _ _ _=>rfl) fs 0 w hf.2 (by omega)]
  unfold YZ
  cases decide (c.kind=1)with
  |true=>simp only[Bool.not_true,cond_false,cond_true];rw[ih _ _ (fun u hu=>hl u (by simp[hu])) (by rw[List.length_append];omega)];simp
  |false=>
   simp only[Bool.not_false,cond_true,cond_false]
   cases YY c t.bind fs with
   |true=>simp only[cond_true];rw[ih _ _ (fun u hu=>hl u (by simp[hu])) (by rw[List.length_append];simp;omega)];simp
   |false=>simp only[cond_false];rw[ih _ _ (fun u hu=>hl u (by simp[hu])) (by omega)];simp
theorem aF1(l:List aL)(c:aF)(fs:List aD)(hc:c.wt≤1048576)(hf:FS fs)(hl:∀t∈l,TK 1048576 t)(hn:l.length*(fs.length+1)<1099511627700):uZ l c fs=some (IC fs l c):=by
 unfold uZ
 rw[aCW l c fs _ hc hf l 0 [] hl (by simpa using hn)]
 simp
theorem a7r:∀t∈[(⟨[],[]⟩:aL)],TK 0 t:=by
 intro t ht
 rw[List.mem_singleton]at ht
 subst ht
 exact⟨by simp,by simp,PB.nil⟩
theorem aAo{n:Nat}(h:n≤4):[(⟨[],[]⟩:aL)].length*25^n≤390625:=by
 have:=Nat.pow_le_pow_right (n:=25) (by decide) h
 simp only[List.length_singleton,Nat.one_mul]
 exact this
theorem aCX(c0:List aF)(fs:List aD)(k:List aL→Option (List aL))(hf:FS fs)(h24:fs.length≤24):∀(cs:List aF) (i:Nat) (w:List aL) (n:Nat),(∀c∈cs,c.wt≤1048576)→(∀t∈w,TK n t)→n+cs.length≤1048576→w.length*25^cs.length≤390625→gK c0 fs k cs i w=k (cs.foldl (IC fs) w):=by
 intro cs
 induction cs with
 |nil=>intro i w n _ _ _ _;rfl
 |cons c cs ih=>
  intro i w n hc hw hn hl
  simp only[List.length_cons]at hn
  rw[List.length_cons,Nat.pow_succ,Nat.mul_comm (25^cs.length) 25,←Nat.mul_assoc]at hl
  have hp:1≤25^cs.length:=Nat.one_le_pow _ _ (by decide)
  have D8:w.length*25≤390625:=Nat.le_trans (Nat.le_mul_of_pos_right _ hp) hl
  have h25:w.length*(fs.length+1)≤w.length*25:=Nat.mul_le_mul_left _ (by omega)
  rw[gK,aF1 w c fs (hc c (by simp)) hf (fun t ht=>(hw t ht).le (by omega)) (by omega),Option.bind_some]
  refine ih _ _ (n+1) (fun x hx=>hc x (by simp[hx])) (a3W hw (hc c (by simp)) hf) (by omega) ?_
  exact Nat.le_trans (Nat.mul_le_mul_right _ (Nat.le_trans (a0u fs w c) h25)) hl
theorem aF2(cs:List aF)(fs:List aD)(hc:∀c∈cs,c.wt≤1048576)(h4:cs.length≤4)(hf:FS fs)(h24:fs.length≤24):rT cs fs=some (Z0 cs fs):=by
 unfold rT
 exact aCX cs fs _ hf h24 cs 0 _ 0 hc a7r (by omega) (aAo h4)
theorem a9i(c0:List aF)(fs:List aD)(w0:List aL)(i1:Nat)(c:aF)(k:List aL→Option (List aL))(hc:c.wt≤1048576)(hf:FS fs):∀(l:List aL) (i:Nat) (w:List aL),(∀t∈l,TK 1048576 t)→w.length+l.length*(fs.length+1)<1099511627700→cH c0 fs w0 i1 c k l i w=k (w++IC fs l c):=by
 intro l
 have h1:=hf.1
 induction l with
 |nil=>intro i w _ _;rw[cH];simp[IC]
 |cons t l ih=>
  intro i w hl hw
  rw[List.length_cons,Nat.succ_mul]at hw
  have ht:=hl t (by simp)
  have e:IC fs (t::l) c=YZ c fs t++IC fs l c:=by simp[IC]
  have hn:=V5 c fs t
  have he:=V4 c t fs
  rw[cH,a3Y,aF0 c t.bind fs hc ht.2.2 hf,Option.bind_some,n7 (by omega) (by decide),cond_true,wM (by omega),cond_true,e]
  rw[a3X (mf:=fun f=>iG c.pat f t.bind) (cps:=kT t.facts) (cp:=eS) (c:=c) (t:=t) (L:=gQ c0 fs i w0 t i1 c _) (k:=_) (fun f h=>aEu c.pat f t.bind (aF.cT hc) h ht.2.2) (a0t t.facts ht.1 (fun f hf=>by have:=aD.cW (ht.2.1 f hf);omega)) (fun f h=>a2P f (by have:=aD.cW h;omega)) ht.1 (fun _ _=>rfl) (fun _ _ _ _=>rfl) fs 0 w hf.2 (by omega)]
  unfold YZ
  cases decide (c.kind=1)with
  |true=>simp only[Bool.not_true,cond_false,cond_true];rw[ih _ _ (fun u hu=>hl u (by simp[hu])) (by rw[List.length_append];omega)];simp
  |false=>
   simp only[Bool.not_false,cond_true,cond_false]
   cases YY c t.bind fs with
   |true=>simp only[cond_true];rw[ih _ _ (fun u hu=>hl u (by simp[hu])) (by rw[List.length_append];simp;omega)];simp
   |false=>simp only[cond_false];rw[ih _ _ (fun u hu=>hl u (by simp[hu])) (by omega)];simp
theorem aCY(c0:List aF)(fs:List aD)(k:List aL→Option (List aL))(hf:FS fs)(h24:fs.length≤24):∀(cs:List aF) (i:Nat) (w:List aL) (n:Nat),(∀c∈cs,c.wt≤1048576)→(∀t∈w,TK n t)→n+cs.length≤1048576→w.length*25^cs.length≤390625→gR c0 fs k cs i w=k (cs.foldl (IC fs) w):=by
 intro cs
 induction cs with
 |nil=>intro i w n _ _ _ _;rfl
 |cons c cs ih=>
  intro i w n hc hw hn hl
  simp only[List.length_cons]at hn
  rw[List.length_cons,Nat.pow_succ,Nat.mul_comm (25^cs.length) 25,←Nat.mul_assoc]at hl
  have hp:1≤25^cs.length:=Nat.one_le_pow _ _ (by decide)
  have D8:w.length*25≤390625:=Nat.le_trans (Nat.le_mul_of_pos_right _ hp) hl
  have h25:w.length*(fs.length+1)≤w.length*25:=Nat.mul_le_mul_left _ (by omega)
  rw[gR,wM (by omega),cond_true,a9i c0 fs w i c _ (hc c (by simp)) hf w 0 [] (fun t ht=>(hw t ht).le (by omega)) (by simp only[List.length_nil];omega),List.nil_append]
  refine ih _ _ (n+1) (fun x hx=>hc x (by simp[hx])) (a3W hw (hc c (by simp)) hf) (by omega) ?_
  exact Nat.le_trans (Nat.mul_le_mul_right _ (Nat.le_trans (a0u fs w c) h25)) hl
theorem aF3(cs:List aF)(fs:List aD)(hc:∀c∈cs,c.wt≤1048576)(h4:cs.length≤4)(hf:FS fs)(h24:fs.length≤24):rZ cs fs=some (Z0 cs fs):=by
 unfold rZ
 exact aCY cs fs _ hf h24 cs 0 _ 0 hc a7r (by omega) (aAo h4)
theorem a4r{r:aI}(h:mE r=true):r.conds.length≤4:=by
 unfold mE at h
 simp only[Bool.and_eq_true,decide_eq_true_eq]at h
 omega
theorem V6{r:aI}:∀ {l:List aF} {i:Nat},vO r l i=true→∀c∈l,qQ c=true
 | [],_,_,c,hc=>by cases hc
 |x::xs,i,h,c,hc=>by
  simp only[vO,Bool.and_eq_true]at h
  rcases List.mem_cons.1 hc with rfl|hc
  ·exact h.1.1.1
  ·exact V6 h.2 c hc
theorem SB{r:aI}(h:mE r=true):∀c∈r.conds,qQ c=true:=by
 unfold mE at h
 simp only[Bool.and_eq_true]at h
 exact V6 h.2.1
theorem X0{l:List aD}(h:QF l=true):l.length≤24:=by
 unfold QF at h
 simp only[Bool.and_eq_true,decide_eq_true_eq]at h
 exact h.2
theorem a0v{all:List aI}:∀ {l:List aI} {i:Nat},VU all l i=true→∀r∈l,mE r=true
 | [],_,_,r,hr=>by cases hr
 |x::xs,i,h,r,hr=>by
  simp only[VU,Bool.and_eq_true]at h
  rcases List.mem_cons.1 hr with rfl|hr
  ·exact h.1.1
  ·exact a0v h.2 r hr
theorem QG{l:List aI}(h:IA l=true):∀r∈l,mE r=true:=by
 unfold IA at h
 simp only[Bool.and_eq_true]at h
 exact a0v h.1
end Go.Cx
namespace Go.Cx
open Go.RowKit Go.Proofs
set_option linter.unusedVariables false
set_option linter.unusedSimpArgs false
theorem RO:∀(a b:List Bytes),a.Nodup→(∀x∈a,x∈b)→a.length≤b.length
 | [],b,_,_=>Nat.zero_le _
 |x::xs,b,hn,hs=>by
  rw[List.nodup_cons]at hn
  have h1:=RO xs (b.erase x) hn.2 fun y hy=>(List.mem_erase_of_ne (fun e=>hn.1 (by rw[←e];exact hy))).2 (hs y (by simp[hy]))
  have h2:=List.length_erase_of_mem (hs x (by simp))
  have h3:0<b.length:=List.length_pos_of_mem (hs x (by simp))
  simp only[List.length_cons];omega
theorem a4s{r:aI}(h:mE r=true):(cD (FF r.conds)).length≤6:=by
 unfold mE at h
 simp only[Bool.and_eq_true,decide_eq_true_eq]at h
 omega
theorem a4t{c:aF}(hc:qQ c=true)(hk:c.kind=1∨c.kind=2):FE c.pat=true∧c.left=[]∧c.right=[]:=by
 unfold qQ at hc
 have:(decide (c.kind=1)||decide (c.kind=2))=true:=by simpa using hk
 rw[this,cond_true]at hc
 simp only[Bool.and_eq_true,beq_iff_eq]at hc
 exact⟨hc.1,hc.2.1,hc.2.2⟩
theorem a2a{c:aF}(hc:qQ c=true)(h1:c.kind≠1)(h2:c.kind≠2):(decide (c.kind=3)||decide (c.kind=4)||decide (c.kind=5))=true∧I7 c.pat=true∧tA c.left=true∧tA c.right=true:=by
 unfold qQ at hc
 rw[decide_eq_false h1,decide_eq_false h2,Bool.or_false,cond_false]at hc
 cases h:(decide (c.kind=3)||decide (c.kind=4)||decide (c.kind=5))with
 |false=>rw[h]at hc;cases hc
 |true=>
  rw[h,cond_true]at hc
  simp only[Bool.and_eq_true]at hc
  exact⟨rfl,hc.1,hc.2.1,hc.2.2⟩
theorem SC{p:Option aH}{b:List aH}(h:mN p b=true):mN none b=true:=by
 cases b with
 |nil=>rfl
 |cons x xs=>
  rw[oT]at h⊢
  simp only[Bool.and_eq_true]at h⊢
  first|exact⟨h.1,h.2.1,rfl,h.2.2.2⟩|exact⟨h.1,h.2.1,h.2.2.2⟩|exact⟨h.1,h.2.1,trivial,h.2.2.2⟩
theorem QH:∀ {b:List aH} {p:aH},mN (some p) b=true→∀x∈b,Op.bytesLess p.var x.var=true
 |y::ys,p,h,x,hx=>by
  rw[oT]at h
  simp only[Bool.and_eq_true]at h
  rcases List.mem_cons.1 hx with rfl|hx
  ·exact h.2.2.1
  ·exact B5 h.2.2.1 (QH h.2.2.2 x hx)
theorem SD:∀ {b:List aH} {p:Option aH},mN p b=true→(b.map aH.var).Nodup
 | [],_,_=>by simp
 |x::xs,p,h=>by
  rw[oT]at h
  simp only[Bool.and_eq_true]at h
  rw[List.map_cons,List.nodup_cons]
  refine⟨fun hm=>?_,SD h.2.2.2⟩
  obtain⟨q,hq,e⟩:=List.mem_map.1 hm
  have:=QH h.2.2.2 q hq
  rw[e,qP]at this;cases this
theorem yH{b:List aH}(h:qV b=true):mN none b=true:=by
 unfold qV at h;rw[Bool.and_eq_true]at h;exact h.1
theorem RQ:∀ {b:List aH} {p:Option aH},mN p b=true→∀x∈b,lE x.var=true∧iK x.value=true
 |y::ys,p,h,x,hx=>by
  rw[oT]at h
  simp only[Bool.and_eq_true]at h
  rcases List.mem_cons.1 hx with rfl|hx
  ·exact⟨h.1,h.2.1⟩
  ·exact RQ h.2.2.2 x hx
theorem X1:∀ {a b:List aH},mN none a=true→mN none b=true→(∀v,dX v a=dX v b)→a=b
 | [],[],_,_,_=>rfl
 | [],y::ys,_,_,h=>by have:=h y.var;simp[dX]at this
 |x::xs,[],_,_,h=>by have:=h x.var;simp[dX]at this
 |x::xs,y::ys,ha,hb,h=>by
  have ha0:=ha
  have hb0:=hb
  rw[oT]at ha hb
  simp only[Bool.and_eq_true]at ha hb
  have key:∀ {u v:aH} {us vs:List aH},mN (some u) us=true→mN (some v) vs=true→(∀t,dX t (u::us)=dX t (v::vs))→Op.bytesLess u.var v.var=false:=by
   intro u v us vs hu hv ht
   cases hl:Op.bytesLess u.var v.var with
   |false=>rfl
   |true=>
    have h1:=ht u.var
    rw[show dX u.var (u::us)=some u.value by simp[dX]]at h1
    obtain⟨q,hq,e,_⟩:=D3 h1.symm
    rcases List.mem_cons.1 hq with rfl|hq
    ·rw[e,qP]at hl;cases hl
    ·have:=B5 hl (QH hv q hq)
     rw[e,qP]at this;cases this
  have e1:=key ha.2.2.2 hb.2.2.2 h
  have e2:=key hb.2.2.2 ha.2.2.2 (fun t=>(h t).symm)
  have ev:x.var=y.var:=NS e1 e2
  have e3:x.value=y.value:=by
   have:=h x.var
   rw[show dX x.var (x::xs)=some x.value by simp[dX],show dX x.var (y::ys)=some y.value by simp[dX,ev]]at this
   exact Option.some.inj this
  have e4:x=y:=by cases x;cases y;cases ev;cases e3;rfl
  subst e4
  congr 1
  refine X1 (SC ha.2.2.2) (SC hb.2.2.2) fun v=>?_
  by_cases hv:x.var=v
  ·have n1:∀ {l:List aH},mN (some x) l=true→dX v l=none:=by
    intro l hl
    cases hf:dX v l with
    |none=>rfl
    |some o=>
     obtain⟨q,hq,e,_⟩:=D3 hf
     have:=QH hl q hq
     rw[hv,e,qP]at this;cases this
   rw[n1 ha.2.2.2,n1 hb.2.2.2]
  ·have:=h v
   have hne:(x.var==v)=false:=by rw[beq_eq_false_iff_ne];exact hv
   rw[dX,dX,hne,cond_false,cond_false]at this
   exact this
structure WB(U:List Bytes)(b:List aH):Prop where
 ok:qV b=true
 sub:∀p∈b,p.var∈U
theorem WB.nil(U:List Bytes):WB U []:=⟨rfl,fun p h=>by cases h⟩
theorem WB.room{U:List Bytes}(hU:U.length≤6){b:List aH}(h:WB U b){x:Bytes}(hx:x∈U)(hf:dX x b=none):b.length≠6:=by
 have h1:(x::b.map aH.var).length≤U.length:=RO _ _ (by
  rw[List.nodup_cons]
  refine⟨fun hm=>?_,SD (yH h.ok)⟩
  obtain⟨p,hp,e⟩:=List.mem_map.1 hm
  exact V3 hf p hp e) (fun y hy=>by
  rcases List.mem_cons.1 hy with rfl|hy
  ·exact hx
  ·obtain⟨p,hp,rfl⟩:=List.mem_map.1 hy;exact h.sub p hp)
 simp only[List.length_cons,List.length_map]at h1
 omega
theorem WB.set{U:List Bytes}(hU:U.length≤6){b:List aH}(h:WB U b){x y:Bytes}(hx:x∈U)(hv:lE x=true)(ha:iK y=true)(hf:dX x b=none):WB U (NV x y b):=
 ⟨a7p hv ha h.ok hf (h.room hU hx hf),fun p hp=>by
  rcases a0q x y b hp with e|e
  ·rw[e];exact hx
  ·exact h.sub p e⟩
theorem WB.ext{U:List Bytes}{a b:List aH}(ha:WB U a)(hb:WB U b)(h:∀v,dX v a=dX v b):a=b:=X1 (yH ha.ok) (yH hb.ok) h
def Says(h:Bytes→Bytes)(b:List aH):Prop:=∀v o,dX v b=some o→h v=o
theorem Says.of{b:List aH}{U:List Bytes}(hb:WB U b):Says (fun y=>(dX y b).getD y) b∧Fix (fun y=>(dX y b).getD y):=by
 refine⟨fun v o ho=>by simp[ho],fun y hy=>?_⟩
 cases hf:dX y b with
 |none=>simp[hf]
 |some o=>
  obtain⟨p,hp,h1,_⟩:=D3 hf
  have:=(RQ (yH hb.ok) p hp).1
  rw[h1]at this
  rw[E5 this]at hy;cases hy
theorem WB.key{U:List Bytes}{b:List aH}(hb:WB U b){v o:Bytes}(h:dX v b=some o):lE v=true:=by
 obtain⟨p,hp,h1,_⟩:=D3 h
 have:=(RQ (yH hb.ok) p hp).1
 rw[h1]at this;exact this
theorem WB.one{U:List Bytes}{a b:List aH}(ha:WB U a)(hb:WB U b)(hd:∀v,(∃o,dX v a=some o)↔(∃o,dX v b=some o)){h:Bytes→Bytes}(h1:Says h a)(h2:Says h b):a=b:=by
 refine ha.ext hb fun v=>?_
 cases hf:dX v a with
 |some o=>
  obtain⟨q,hq⟩:=(hd v).1 ⟨o,hf⟩
  rw[hq,←h1 v o hf,←h2 v q hq]
 |none=>
  cases hg:dX v b with
  |none=>rfl
  |some q=>
   obtain⟨o,ho⟩:=(hd v).2 ⟨q,hg⟩
   rw[hf]at ho;cases ho
theorem V7{r:aI}:∀ {pre rest:List aF} {c:aF} {i:Nat},vO r (pre++c::rest) i=true→qQ c=true∧(i+pre.length=0→c.kind=1)∧∀v∈oS c,SZ r (i+pre.length) c v=true
 | [],rest,c,i,h=>by
  rw[List.nil_append]at h
  unfold vO at h
  rw[WW]at h
  simp only[Bool.and_eq_true,Bool.or_eq_true,Bool.not_eq_true',decide_eq_false_iff_not,decide_eq_true_eq]at h
  refine⟨h.1.1.1,fun e=>?_,fun v hv=>List.all_eq_true.1 h.1.2 v hv⟩
  rcases h.1.1.2 with q|q
  ·exact absurd (by simpa using e) q
  ·exact q
 |x::pre,rest,c,i,h=>by
  rw[List.cons_append]at h
  unfold vO at h
  rw[Bool.and_eq_true]at h
  have:=V7 h.2
  rw[List.length_cons,show i+(pre.length+1)=i+1+pre.length by omega];exact this
theorem Z1{r:aI}(h:mE r=true):vO r r.conds 0=true:=by
 unfold mE at h
 simp only[Bool.and_eq_true]at h
 exact h.2.1
end Go.Cx
namespace Go.Cx
open Go.RowKit Go.Proofs
set_option linter.unusedVariables false
set_option linter.unusedSimpArgs false
def alI(sh:aD):List aN→Nat→Option Nat
 | [],_=>none
 |x::xs,i=>if x.shape=sh then some i else alI sh xs (i+1)
def alB(al:List aN)(sh:aD):List aN×Int:=match alI sh al 0 with
 |some i=>(al,bZ i)
 |none=>(al++[⟨sh,[]⟩],bZ al.length)
theorem SE{n:Nat}(h:n≤1099511627776):IntKind.i64.wrap (((n+1:Nat):Int)-1)=bZ n:=by
 unfold bZ;rw[dY (rC.i64.2 (by omega))];omega
theorem aGt(n:aG)(sh:aD)(k:Option (aG×Int)):∀(l:List aN) (i:Nat),iV n sh k l i=match alI sh l i with|some j=>some (n,bZ j)|none=>k:=by
 intro l
 induction l with
 |nil=>intro i;rfl
 |cons x l ih=>
  intro i
  rw[iV,a2Q,Option.bind_some,ih,alI]
  by_cases h:x.shape=sh
  ·rw[decide_eq_true h,cond_true,if_pos h];rfl
  ·rw[decide_eq_false h,cond_false,if_neg h]
theorem sAl(n:aG)(sh:aD)(h:n.aR.length≤1048576):qC n sh=some (⟨n.rules,n.ends,(alB n.aR sh).1,n.nodes,n.facts,n.bJ⟩,(alB n.aR sh).2):=by
 unfold qC
 rw[wM (by omega),cond_true,aGt,n7 (by omega) (by decide),cond_true]
 unfold alB
 cases alI sh n.aR 0 with
 |some j=>rfl
 |none=>
  dsimp only
  rw[show((n.aR.map aN.c)++[[D.str sh.rel,D.sl (sh.args.map tx),D.sl []]]).length=n.aR.length+1 by simp,SE (by omega)]
theorem aGu(n:aG)(sh:aD)(k:Option (aG×Int)):∀(l:List aN) (i:Nat),bV n sh k l i=match alI sh l i with|some j=>some (n,bZ j)|none=>k:=by
 intro l
 induction l with
 |nil=>intro i;rfl
 |cons x l ih=>
  intro i
  rw[bV,US,Option.bind_some,ih,alI]
  by_cases h:x.shape=sh
  ·rw[decide_eq_true h,cond_true,if_pos h];rfl
  ·rw[decide_eq_false h,cond_false,if_neg h]
theorem iAl(n:aG)(sh:aD)(h:n.aR.length≤1048576):dW n sh=some (⟨n.rules,n.ends,(alB n.aR sh).1,n.nodes,n.facts,n.bJ⟩,(alB n.aR sh).2):=by
 unfold dW
 rw[wM (by omega),cond_true,aGu,n7 (by omega) (by decide),cond_true]
 unfold alB
 cases alI sh n.aR 0 with
 |some j=>rfl
 |none=>
  dsimp only
  rw[show((n.aR.map aN.c)++[[D.str sh.rel,D.sl (sh.args.map tx),D.sl []]]).length=n.aR.length+1 by simp,SE (by omega)]
def Z2(p:Int)(c:aF):List Node→Nat→Option Nat
 | [],_=>none
 |x::xs,i=>if 0<i∧x.parent=p∧x.cond=c then some i else Z2 p c xs (i+1)
def chA(al:List aN)(c:aF):List aN×Int:=if c.kind=1∨c.kind=2 then alB al (NU c.pat)else(al, -1)
def T3(al:List aN)(ns:List Node)(p:Int)(c:aF):(List aN×List Node)×Int:=match Z2 p c ns 0 with
 |some i=>((al,ns),bZ i)
 |none=>(((chA al c).1,ns++[⟨p,c,(chA al c).2,[]⟩]),bZ ns.length)
theorem a0w(p:Int)(c:aF)(ns:List Node):Z2 p c ns 0=Z2 p c (ns.drop 1) 1:=by
 cases ns with
 |nil=>rfl
 |cons x ns=>rw[Z2,if_neg (fun h=>by omega)];rfl
def a4u(n:aG)(z:(List aN×List Node)×Int):aG×Int:=(⟨n.rules,n.ends,z.1.1,z.1.2,n.facts,n.bJ⟩,z.2)
theorem aGv(n:aG)(p:Int)(c:aF)(k:Option (aG×Int))(hn:n.nodes.length≤1048576):∀(d v fu:Nat),v+d=n.nodes.length+1→1≤v→d<fu→cV n p c k fu (v:Int)=match Z2 p c (n.nodes.drop v) v with|some j=>some (n,bZ j)|none=>k:=by
 intro d
 induction d with
 |zero=>
  intro v fu hv h1 hf
  obtain⟨fu,rfl⟩:∃m,fu=m+1:=⟨fu-1,by omega⟩
  rw[cV,List.length_map,decide_eq_false (by omega),cond_false,List.drop_eq_nil_of_le (by omega)];rfl
 |succ d ih=>
  intro v fu hv h1 hf
  obtain⟨fu,rfl⟩:∃m,fu=m+1:=⟨fu-1,by omega⟩
  by_cases hl:v<n.nodes.length
  ·have hx:n.nodes[v]?=some n.nodes[v]:=List.getElem?_eq_getElem hl
   have e3:oI n.nodes (v:Int)=some n.nodes[v]:=by unfold oI;rw[decide_eq_true (by omega),cond_true];exact hx
   rw[List.drop_eq_getElem_cons hl,Z2,cV,List.length_map,decide_eq_true (by omega),cond_true,e3,Option.bind_some,a3H (by omega),ih (v+1) fu (by omega) (by omega) (by omega),a7Q,Option.bind_some]
   generalize n.nodes[v]=x
   by_cases hp:x.parent=p
   ·rw[show((x.parent:Int)==p)=true by simp[hp],cond_true]
    by_cases hc:x.cond=c
    ·rw[decide_eq_true hc,cond_true,if_pos ⟨by omega,hp,hc⟩];rfl
    ·rw[decide_eq_false hc,cond_false,if_neg (fun h=>hc h.2.2)]
   ·rw[show((x.parent:Int)==p)=false by simp[hp],cond_false,if_neg (fun h=>hp h.2.1)]
  ·rw[cV,List.length_map,decide_eq_false (by omega),cond_false,List.drop_eq_nil_of_le (by omega)];rfl
theorem sCh(n:aG)(p:Int)(c:aF)(hn:n.nodes.length≤1048576)(ha:n.aR.length≤1048576)(hc:c.wt≤1048576):tU n p c=some (a4u n (T3 n.aR n.nodes p c)):=by
 have hp:=aF.cT hc
 have hargs:=aD.cW hp
 unfold tU
 have e:=aGv n p c
 rw[show(1:Int)=((1:Nat):Int)from rfl,e _ hn n.nodes.length 1 fuel (by omega) (Nat.le_refl _) (by unfold fuel;omega),←a0w,a2V c (by omega),Option.bind_some,aCD c.pat hp,Option.bind_some,sAl n _ ha,Option.bind_some]
 unfold T3 chA a4u
 cases Z2 p c n.nodes 0 with
 |some j=>rfl
 |none=>
  dsimp only
  rw[n7 (by omega) (by decide),cond_true]
  by_cases h1:c.kind=1
  ·rw[show(((c.kind:Int))==((1:Nat):Int))=true by simp[h1],cond_true,if_pos (.inl h1)]
   simp[SE,hn,show n.nodes.length≤1099511627776 by omega]
   first|done| (unfold bZ;rw[dY (rC.i64.2 (by omega))])
  ·rw[show(((c.kind:Int))==((1:Nat):Int))=false by simp[h1],cond_false]
   by_cases h2:c.kind=2
   ·rw[show(((c.kind:Int))==(2:Int))=true by simp[h2],cond_true,if_pos (.inr h2)]
    simp[SE,hn,show n.nodes.length≤1099511627776 by omega]
    first|done| (unfold bZ;rw[dY (rC.i64.2 (by omega))])
   ·rw[show(((c.kind:Int))==(2:Int))=false by simp[h2],cond_false,if_neg (by omega)]
    first|rw[n7 (by omega) (by decide),cond_true]|rw[Option.bind_some,n7 (by omega) (by decide),cond_true]|skip
    simp[SE,hn,show n.nodes.length≤1099511627776 by omega]
    first|done| (unfold bZ;rw[dY (rC.i64.2 (by omega))])
theorem aGw(n:aG)(p:Int)(c:aF)(k:Option (aG×Int)):∀(l:List Node) (i:Nat),bD n p c k l i=match Z2 p c l i with|some j=>some (n,bZ j)|none=>k:=by
 intro l
 induction l with
 |nil=>intro i;rfl
 |cons x l ih=>
  intro i
  rw[bD,Z2,ih,YQ,Option.bind_some]
  by_cases hi:0<i
  ·rw[decide_eq_true (by omega),cond_true]
   by_cases hp:x.parent=p
   ·rw[show((x.parent:Int)==p)=true by simp[hp],cond_true]
    by_cases hc:x.cond=c
    ·rw[decide_eq_true hc,cond_true,if_pos ⟨hi,hp,hc⟩];rfl
    ·rw[decide_eq_false hc,cond_false,if_neg (fun h=>hc h.2.2)]
   ·rw[show((x.parent:Int)==p)=false by simp[hp],cond_false,if_neg (fun h=>hp h.2.1)]
  ·rw[decide_eq_false (by omega),cond_false,if_neg (fun h=>hi h.1)]
theorem iCh(n:aG)(p:Int)(c:aF)(hn:n.nodes.length≤1048576)(ha:n.aR.length≤1048576)(hc:c.wt≤1048576):iD n p c=some (a4u n (T3 n.aR n.nodes p c)):=by
 have hp:=aF.cT hc
 have hargs:=aD.cW hp
 unfold iD
 rw[wM (by omega),cond_true,aGw,a2W c (by omega),aCE c.pat hp,Option.bind_some,iAl n _ ha,Option.bind_some,Option.bind_some]
 unfold T3 chA a4u
 cases Z2 p c n.nodes 0 with
 |some j=>rfl
 |none=>
  dsimp only
  rw[n7 (by omega) (by decide),cond_true]
  by_cases h1:c.kind=1
  ·rw[show(((c.kind:Int))==(1:Int))=true by simp[h1],cond_true,if_pos (.inl h1)]
   simp[SE,hn,show n.nodes.length≤1099511627776 by omega]
   first|done| (unfold bZ;rw[dY (rC.i64.2 (by omega))])
  ·rw[show(((c.kind:Int))==(1:Int))=false by simp[h1],cond_false]
   by_cases h2:c.kind=2
   ·rw[show(((c.kind:Int))==(2:Int))=true by simp[h2],cond_true,if_pos (.inr h2)]
    simp[SE,hn,show n.nodes.length≤1099511627776 by omega]
    first|done| (unfold bZ;rw[dY (rC.i64.2 (by omega))])
   ·rw[show(((c.kind:Int))==(2:Int))=false by simp[h2],cond_false,if_neg (by omega)]
    first|rw[n7 (by omega) (by decide),cond_true]|rw[Option.bind_some,n7 (by omega) (by decide),cond_true]|skip
    simp[SE,hn,show n.nodes.length≤1099511627776 by omega]
    first|done| (unfold bZ;rw[dY (rC.i64.2 (by omega))])
def NY(s:(List aN×List Node)×Int)(c:aF):(List aN×List Node)×Int:=T3 s.1.1 s.1.2 s.2 c
def SF(z:(List aN×List Node)×List Int)(r:aI):(List aN×List Node)×List Int:=(((fU r).foldl NY (z.1,0)).1,z.2++[((fU r).foldl NY (z.1,0)).2])
def root(tk:List aL):Node:=⟨-1,⟨0,⟨[],[]⟩,[],[]⟩, -1,tk⟩
def jS(tk:List aL)(rs:List aI):(List aN×List Node)×List Int:=rs.foldl SF (([],[root tk]),[])
theorem a9j(al:List aN)(sh:aD):(alB al sh).1.length≤al.length+1:=by
 unfold alB;cases alI sh al 0<;>simp
theorem a9k(al:List aN)(c:aF):(chA al c).1.length≤al.length+1:=by
 unfold chA
 by_cases h:c.kind=1∨c.kind=2
 ·rw[if_pos h];exact a9j _ _
 ·rw[if_neg h];exact Nat.le_succ _
theorem Z3(al:List aN)(ns:List Node)(p:Int)(c:aF):(T3 al ns p c).1.1.length≤al.length+1∧(T3 al ns p c).1.2.length≤ns.length+1:=by
 unfold T3
 cases Z2 p c ns 0 with
 |some i=>exact⟨Nat.le_succ _,Nat.le_succ _⟩
 |none=>exact⟨a9k _ _,by simp⟩
theorem QI:∀(cs:List aF) (s:(List aN×List Node)×Int),(cs.foldl NY s).1.1.length≤s.1.1.length+cs.length∧(cs.foldl NY s).1.2.length≤s.1.2.length+cs.length
 | [],s=>⟨Nat.le_refl _,Nat.le_refl _⟩
 |c::cs,s=>by
  have h1:=Z3 s.1.1 s.1.2 s.2 c
  have h2:=QI cs (NY s c)
  have h3:(NY s c).1.1.length≤s.1.1.length+1∧(NY s c).1.2.length≤s.1.2.length+1:=h1
  rw[List.foldl_cons,List.length_cons]
  omega
theorem aF4(a:List aI)(i:Nat)(y:List aF)(k:Int→Int→List aI→List Int→List aN→List Node→List aD→Option (aG×Bool)):∀(cs:List aF) (j:Nat) (v u:Int) (w3:List aI) (w4:List Int) (al:List aN) (ns:List Node) (w7:List aD),(∀c∈cs,c.wt≤1048576)→al.length+cs.length≤1048576→ns.length+cs.length≤1048576→
 dB a i y k cs j v u w3 w4 al ns w7=k (cs.foldl NY ((al,ns),v)).2 u w3 w4 (cs.foldl NY ((al,ns),v)).1.1 (cs.foldl NY ((al,ns),v)).1.2 w7:=by
 intro cs
 induction cs with
 |nil=>intros;rfl
 |cons c cs ih=>
  intro j v u w3 w4 al ns w7 hc ha hn
  simp only[List.length_cons]at ha hn
  have h1:=Z3 al ns v c
  rw[dB,sCh _ v c (show ns.length≤1048576 by omega) (show al.length≤1048576 by omega) (hc c (by simp)),Option.bind_some]
  unfold a4u
  dsimp only
  rw[ih _ _ _ _ _ _ _ _ (fun x hx=>hc x (by simp[hx])) (by omega) (by omega)]
  rfl
theorem aF5(a:List aI)(i:Nat)(y:List aF)(k:Int→Int→List aI→List Int→List aN→List Node→List aD→Option aG):∀(cs:List aF) (j:Nat) (v u:Int) (w3:List aI) (w4:List Int) (al:List aN) (ns:List Node) (w7:List aD),(∀c∈cs,c.wt≤1048576)→al.length+cs.length≤1048576→ns.length+cs.length≤1048576→
 fQ a i y k cs j v u w3 w4 al ns w7=k (cs.foldl NY ((al,ns),v)).2 u w3 w4 (cs.foldl NY ((al,ns),v)).1.1 (cs.foldl NY ((al,ns),v)).1.2 w7:=by
 intro cs
 induction cs with
 |nil=>intros;rfl
 |cons c cs ih=>
  intro j v u w3 w4 al ns w7 hc ha hn
  simp only[List.length_cons]at ha hn
  have h1:=Z3 al ns v c
  rw[fQ,iCh _ v c (show ns.length≤1048576 by omega) (show al.length≤1048576 by omega) (hc c (by simp)),Option.bind_some]
  unfold a4u
  dsimp only
  rw[ih _ _ _ _ _ _ _ _ (fun x hx=>hc x (by simp[hx])) (by omega) (by omega)]
  rfl
theorem X2:∀(ts:List Bytes) (N:List aH) {p:aH},p∈ts.foldl j5 N→p∈N∨(p.var∈ts∧lE p.var=true)
 | [],_,_,h=>.inl h
 |t::ts,N,p,h=>by
  rcases X2 ts (j5 N t) h with h1|h1
  ·unfold j5 at h1
   cases hv:lE t&& !I8 N t with
   |false=>rw[hv]at h1;exact .inl h1
   |true=>
    rw[hv,cond_true]at h1
    simp only[Bool.and_eq_true]at hv
    rcases List.mem_append.1 h1 with h2|h2
    ·exact .inl h2
    ·rw[List.mem_singleton.1 h2];exact .inr ⟨by simp,hv.1⟩
  ·exact .inr ⟨by simp[h1.1],h1.2⟩
theorem QJ{l:List aF}{v:Bytes}:v∈FF l↔v∈yX l∧lE v=true:=by
 unfold FF yX oS fE
 simp only[List.mem_flatMap,List.mem_filter]
 constructor
 ·rintro⟨c,hc,hm,hv⟩;exact⟨⟨c,hc,hm⟩,hv⟩
 ·rintro⟨⟨c,hc,hm⟩,hv⟩;exact⟨c,hc,hm,hv⟩
theorem a4v{r:aI}(h:mE r=true):(nX r).length≤6:=by
 have h1:((nX r).map aH.var).length≤(cD (FF r.conds)).length:=by
  refine RO _ _ (QE _ NdK.nil) fun x hx=>?_
  obtain⟨p,hp,rfl⟩:=List.mem_map.1 hx
  rcases X2 _ _ hp with h1|h1
  ·cases h1
  ·exact uA.2 (QJ.2 h1)
 rw[List.length_map]at h1
 exact Nat.le_trans h1 (a4s h)
theorem a7s{r:aI}(h:mE r=true){v:Bytes}(hv:v∈FF r.conds):∃i p,i<6∧(nX r)[i]?=some p∧p.var=v∧IL (nX r) v=nmB i:=by
 obtain⟨ht,ZD⟩:=QJ.1 hv
 obtain⟨p,hp,he⟩:=a0k _ [] ht ZD
 have hp':p∈nX r:=hp
 obtain⟨i,hi,XD,hval,_⟩:=a2X (TE _ WfN.nil) hp'
 refine⟨i,p,by have:=a4v h;unfold nX at this;omega,XD,he,?_⟩
 rw[←he]
 exact(YS (N:=nX r) (QE (yX r.conds) NdK.nil) hp').trans hval
theorem QK{r:aI}(h:mE r=true){x:Bytes}(hx:x.length≤16)(hV:lE x=true→x∈FF r.conds):(IL (nX r) x).length≤16:=by
 cases hv:lE x with
 |false=>rw[show IL (nX r) x=x from a7Y hv];exact hx
 |true=>
  obtain⟨i,p,hi,_,_,e⟩:=a7s h (hV hv)
  rw[e];exact a3N i hi
theorem Z4:∀(l:List Bytes),(∀x∈l,x.length≤16)→j6 tw l≤17*l.length
 | [],_=>by simp[j6]
 |x::l,h=>by
  have h1:=Z4 l fun y hy=>h y (by simp[hy])
  have h2:=h x (by simp)
  rw[pP,List.length_cons];unfold tw at*;omega
theorem V8{t:Bytes}(h:tA t=true):t.length≤16:=by have:=a4h h;omega
theorem V9{c:aF}(h:qQ c=true):c.pat.rel.length≤8∧c.pat.args.length≤3∧(∀x∈c.pat.args,x.length≤16)∧c.left.length≤16∧c.right.length≤16:=by
 by_cases hk:c.kind=1∨c.kind=2
 ·obtain⟨hp,hl,hr⟩:=a4t h hk
  have ht:=a9g hp
  unfold FE at hp
  simp only[Bool.and_eq_true,decide_eq_true_eq]at hp
  have:=a4g hp.2.1
  rw[hl,hr]
  exact⟨by omega,by omega,fun x hx=>V8 (ht x hx),by simp,by simp⟩
 ·obtain⟨_,hz,hl,hr⟩:=a2a h (fun e=>hk (.inl e)) (fun e=>hk (.inr e))
  unfold I7 at hz
  simp only[Bool.and_eq_true,beq_iff_eq,decide_eq_true_eq]at hz
  have h0:c.pat.args=[]:=List.eq_nil_of_length_eq_zero (by omega)
  rw[hz.1,h0]
  exact⟨by simp,by simp,fun x hx=>(by cases hx),V8 hl,V8 hr⟩
theorem VA{r:aI}(h:mE r=true):∀c∈fU r,c.wt≤1048576:=by
 intro c' hc'
 obtain⟨c,hc,rfl⟩:=List.mem_map.1 hc'
 obtain⟨h1,h2,h3,h4,h5⟩:=V9 (SB h c hc)
 have hV:∀x∈c.pat.args++[c.left,c.right],lE x=true→x∈FF r.conds:=fun x hx hv=>QJ.2 ⟨List.mem_flatMap.2 ⟨c,hc,hx⟩,hv⟩
 have a1:(IL (nX r) c.left).length≤16:=QK h h4 (hV _ (by simp))
 have a2:(IL (nX r) c.right).length≤16:=QK h h5 (hV _ (by simp))
 have a3:=Z4 (c.pat.args.map (IL (nX r))) (fun x hx=>by
  obtain⟨y,hy,rfl⟩:=List.mem_map.1 hx
  exact QK h (h3 y hy) (hV y (by simp[hy])))
 rw[List.length_map]at a3
 unfold UW aF.wt
 dsimp only
 unfold tw at*
 omega
theorem D4{r:aI}(h:mE r=true):(fU r).length≤4:=by unfold fU;rw[List.length_map];exact a4r h
theorem a3Z{r:aI}{n:Nat}(h:r.wt≤n){a:Action}(ha:a∈r.bC):a.pat.args.length≤n:=by
 have h1:=aI.QB h
 have h2:=iP (w:=Action.wt) ha
 have h3:=gB tw a.pat.args
 simp only[Action.wt]at h2
 omega
theorem aCZ(p:aD)(h:p.args.length≤1099511627770):dZ p=some p:=by
 unfold dZ;rw[a7E p.args (by omega)];rfl
theorem aCa(p:aD)(h:p.args.length≤1099511627770):dG p=some p:=by
 unfold dG;rw[YK p.args (by omega)];rfl
theorem aCb(r:aI)(h:r.wt≤1048576):sJ r=some r:=by
 have h1:=aI.s5 h
 have h2:=aI.QB h
 have h3:=gB aF.wt r.conds
 have h4:=gB Action.wt r.bC
 unfold sJ
 rw[SX (c:=aF.c) (b:=80) (f:=mY) (g:=fun x=>x) (L:=nD r _) (k:=_) (by decide) (fun _ _=>rfl) (fun _ _ _ _=>rfl) _ _ _ (fun c hc=>a2V c (by have:=aD.cW (aF.cT (aI.pL h hc));omega)) (by simp;omega)]
 rw[SX (c:=Action.c) (b:=48) (f:=fun a:Action=>(dZ a.pat).bind fun y=>some (⟨a.kind,y⟩:Action)) (g:=fun x=>x) (L:=kF r _ _) (k:=_) (by decide) (fun _ _=>rfl) (fun x xs i w=>by rw[kF];cases dZ x.pat<;>rfl) _ _ _ (fun a ha=>by rw[aCZ a.pat (by have:=a3Z h ha;omega)];rfl) (by simp;omega)]
 simp
theorem a7t(l:List aI)(h:j6 aI.wt l≤1048576):rL l=some l:=by
 have h3:=gB aI.wt l
 unfold rL
 rw[SX (c:=aI.c) (b:=72) (f:=sJ) (g:=fun x=>x) (L:=kG l _) (k:=_) (by decide) (fun _ _=>rfl) (fun _ _ _ _=>rfl) _ _ _ (fun r hr=>aCb r (by have:=iP (w:=aI.wt) hr;omega)) (by simp;omega)]
 simp
theorem a7u(l:List aF)(h:l.length≤1048576)(hw:∀c∈l,c.wt≤1048576):qF l=some l:=by
 unfold qF
 rw[SX (c:=aF.c) (b:=80) (f:=eR) (g:=fun x=>x) (L:=jE l _) (k:=_) (by decide) (fun _ _=>rfl) (fun _ _ _ _=>rfl) _ _ _ (fun c hc=>a2W c (by have:=aD.cW (aF.cT (hw c hc));omega)) (by simp;omega)]
 simp
theorem aCc(r:aI)(h:r.wt≤1048576):oA r=some r:=by
 have h1:=aI.s5 h
 have h2:=aI.QB h
 have h3:=gB aF.wt r.conds
 have h4:=gB Action.wt r.bC
 unfold oA
 rw[a7u r.conds (by omega) (fun c hc=>aI.pL h hc),Option.bind_some]
 rw[SX (c:=Action.c) (b:=48) (f:=fun a:Action=>(dG a.pat).bind fun y=>some (⟨a.kind,y⟩:Action)) (g:=fun x=>x) (L:=gL r _ _) (k:=_) (by decide) (fun _ _=>rfl) (fun x xs i w=>by rw[gL];cases dG x.pat<;>rfl) _ _ _ (fun a ha=>by rw[aCa a.pat (by have:=a3Z h ha;omega)];rfl) (by simp;omega)]
 simp
theorem a7v(l:List aI)(h:j6 aI.wt l≤1048576):qG l=some l:=by
 have h3:=gB aI.wt l
 unfold qG
 rw[SX (c:=aI.c) (b:=72) (f:=oA) (g:=fun x=>x) (L:=jF l _) (k:=_) (by decide) (fun _ _=>rfl) (fun _ _ _ _=>rfl) _ _ _ (fun r hr=>aCc r (by have:=iP (w:=aI.wt) hr;omega)) (by simp;omega)]
 simp
theorem aF6(a:List aI)(k:Int→List aI→List Int→List aN→List Node→List aD→Option (aG×Bool)):∀(l:List aI) (i:Nat) (u:Int) (w2:List aI) (es:List Int) (al:List aN) (ns:List Node) (w6:List aD),(∀r∈l,r.wt≤1048576∧mE r=true)→es.length+l.length≤1000→al.length+4*l.length≤1000→ns.length+4*l.length≤1000→
 dD a k l i u w2 es al ns w6=k u w2 (l.foldl SF ((al,ns),es)).2 (l.foldl SF ((al,ns),es)).1.1 (l.foldl SF ((al,ns),es)).1.2 w6:=by
 intro l
 induction l with
 |nil=>intros;rfl
 |cons r l ih=>
  intro i u w2 es al ns w6 hr he ha hn
  simp only[List.length_cons]at he ha hn
  obtain⟨hw,hb⟩:=hr r (by simp)
  have h4:=D4 hb
  have hl:=QI (fU r) ((al,ns),0)
  dsimp only at hl
  rw[dD,aCH r hw,Option.bind_some,wM (by omega),cond_true,aF4 _ _ _ _ _ _ _ _ _ _ _ _ _ (VA hb) (by omega) (by omega),n7 (by omega) (by decide),cond_true,ih _ _ _ _ _ _ _ (fun x hx=>hr x (by simp[hx])) (by simp;omega) (by omega) (by omega)]
  rfl
theorem aCd(rs:List aI)(h:j6 aI.wt rs≤1048576):mP rs=some (bif IA rs then(⟨rs,(jS [⟨[],[]⟩] rs).2,(jS [⟨[],[]⟩] rs).1.1,(jS [⟨[],[]⟩] rs).1.2,[],0⟩,true)else(⟨[],[],[],[],[],0⟩,false)):=by
 unfold mP
 rw[aGn rs h,Option.bind_some]
 cases hb:IA rs with
 |false=>rfl
 |true=>
  have h6:rs.length≤6:=by unfold IA at hb;simp only[Bool.and_eq_true,decide_eq_true_eq]at hb;omega
  rw[Bool.not_true,cond_false,cond_true,a7t rs h,Option.bind_some,aF6 _ _ _ _ _ _ _ _ _ _ (fun r hr=>⟨by have:=iP (w:=aI.wt) hr;omega,QG hb r hr⟩) (by simp;omega) (by simp;omega) (by simp;omega)]
  rfl
theorem aF7(a:List aI)(k:Int→List aI→List Int→List aN→List Node→List aD→Option aG):∀(l:List aI) (i:Nat) (u:Int) (w2:List aI) (es:List Int) (al:List aN) (ns:List Node) (w6:List aD),(∀r∈l,r.wt≤1048576∧mE r=true)→es.length+l.length≤1000→al.length+4*l.length≤1000→ns.length+4*l.length≤1000→
 fR a k l i u w2 es al ns w6=k u w2 (l.foldl SF ((al,ns),es)).2 (l.foldl SF ((al,ns),es)).1.1 (l.foldl SF ((al,ns),es)).1.2 w6:=by
 intro l
 induction l with
 |nil=>intros;rfl
 |cons r l ih=>
  intro i u w2 es al ns w6 hr he ha hn
  simp only[List.length_cons]at he ha hn
  obtain⟨hw,hb⟩:=hr r (by simp)
  have h4:=D4 hb
  have hl:=QI (fU r) ((al,ns),0)
  dsimp only at hl
  rw[fR,aCI r hw,Option.bind_some,wM (by omega),cond_true,aF5 _ _ _ _ _ _ _ _ _ _ _ _ _ (VA hb) (by omega) (by omega),n7 (by omega) (by decide),cond_true,ih _ _ _ _ _ _ _ (fun x hx=>hr x (by simp[hx])) (by simp;omega) (by omega) (by omega)]
  rfl
theorem aGx(rs:List aI)(h:j6 aI.wt rs≤1048576)(hb:IA rs=true):qL rs=some ⟨rs,(jS [] rs).2,(jS [] rs).1.1,(jS [] rs).1.2,[],0⟩:=by
 unfold qL
 have h6:rs.length≤6:=by unfold IA at hb;simp only[Bool.and_eq_true,decide_eq_true_eq]at hb;omega
 rw[a7v rs h,Option.bind_some,aF7 _ _ _ _ _ _ _ _ _ _ (fun r hr=>⟨by have:=iP (w:=aI.wt) hr;omega,QG hb r hr⟩) (by simp;omega) (by simp;omega) (by simp;omega)]
 rfl
def chR(al:List aN)(ns:List Node)(p:Int)(c:aF):(List aN×List Node)×Int:=match Z2 p c ns 1 with
 |some i=>((al,ns),bZ i)
 |none=>(((chA al c).1,ns++[⟨p,c,(chA al c).2,[]⟩]),bZ (ns.length+1))
theorem a7w(tk:List aL)(al:List aN)(ns:List Node)(p:Int)(c:aF):T3 al (root tk::ns) p c=(((chR al ns p c).1.1,root tk::(chR al ns p c).1.2),(chR al ns p c).2):=by
 unfold T3 chR
 rw[a0w,List.drop_succ_cons,List.drop_zero]
 cases Z2 p c ns 1<;>rfl
def rtC(s:(List aN×List Node)×Int)(c:aF):(List aN×List Node)×Int:=chR s.1.1 s.1.2 s.2 c
def rtR(z:(List aN×List Node)×List Int)(r:aI):(List aN×List Node)×List Int:=(((fU r).foldl rtC (z.1,0)).1,z.2++[((fU r).foldl rtC (z.1,0)).2])
def rtB(rs:List aI):(List aN×List Node)×List Int:=rs.foldl rtR (([],[]),[])
theorem a0x(tk:List aL):∀(cs:List aF) (al:List aN) (ns:List Node) (v:Int),cs.foldl NY ((al,root tk::ns),v)=(((cs.foldl rtC ((al,ns),v)).1.1,root tk::(cs.foldl rtC ((al,ns),v)).1.2),(cs.foldl rtC ((al,ns),v)).2)
 | [],_,_,_=>rfl
 |c::cs,al,ns,v=>by
  rw[List.foldl_cons,List.foldl_cons]
  show cs.foldl NY (T3 al (root tk::ns) v c)=_
  rw[a7w,a0x tk cs]
  rfl
theorem a0y(tk:List aL):∀(rs:List aI) (al:List aN) (ns:List Node) (es:List Int),rs.foldl SF ((al,root tk::ns),es)=(((rs.foldl rtR ((al,ns),es)).1.1,root tk::(rs.foldl rtR ((al,ns),es)).1.2),(rs.foldl rtR ((al,ns),es)).2)
 | [],_,_,_=>rfl
 |r::rs,al,ns,es=>by
  rw[List.foldl_cons,List.foldl_cons]
  have e:SF ((al,root tk::ns),es) r=(((rtR ((al,ns),es) r).1.1,root tk::(rtR ((al,ns),es) r).1.2),(rtR ((al,ns),es) r).2):=by
   unfold SF rtR
   dsimp only
   rw[a0x]
  rw[e,a0y tk rs]
theorem xG(tk:List aL)(rs:List aI):jS tk rs=(((rtB rs).1.1,root tk::(rtB rs).1.2),(rtB rs).2):=a0y tk rs [] [] []
theorem a7x(tk:List aL){rs:List aI}(h:∀r∈rs,mE r=true)(h6:rs.length≤6):(jS tk rs).1.2.length≤25:=by
 have main:∀(l:List aI) (z:(List aN×List Node)×List Int),(∀r∈l,mE r=true)→(l.foldl SF z).1.2.length≤z.1.2.length+4*l.length:=by
  intro l
  induction l with
  |nil=>intro z _;exact Nat.le_refl _
  |cons r l ih=>
   intro z hl
   have h1:=ih (SF z r) (fun x hx=>hl x (by simp[hx]))
   have h2:=(QI (fU r) (z.1,0)).2
   have h3:=D4 (hl r (by simp))
   have h4:(SF z r).1.2.length=((fU r).foldl NY (z.1,0)).1.2.length:=rfl
   rw[List.foldl_cons,List.length_cons]
   dsimp only at h2
   omega
 have:=main rs (([],[root tk]),[]) h
 unfold jS
 simp only[List.length_cons,List.length_nil]at this
 omega
end Go.Cx
namespace Go.Cx
open Go.RowKit Go.Proofs
set_option linter.unusedVariables false
set_option linter.unusedSimpArgs false
def wN(x:Node):Int×aF:=(x.parent,x.cond)
theorem X3{a b:List Node}(h:a.map wN=b.map wN):∀(k v:Nat),VS a k v=VS b k v
 |0,_=>rfl
 |k+1,v=>by
  have e:(a[v]?).map wN=(b[v]?).map wN:=by rw[←List.getElem?_map,←List.getElem?_map,h]
  unfold VS
  cases ha:a[v]? with
  |none=>
   cases hb:b[v]? with
   |none=>rfl
   |some y=>rw[ha,hb]at e;cases e
  |some x=>
   cases hb:b[v]? with
   |none=>rw[ha,hb]at e;cases e
   |some y=>
    rw[ha,hb]at e
    have e1:x.parent=y.parent:=(Prod.mk.inj (Option.some.inj e)).1
    dsimp only
    rw[e1,X3 h k]
theorem Z5{a b:List Node}(h:a.map wN=b.map wN):C8 a=C8 b:=by
 funext i
 have e:(a[i]?).map wN=(b[i]?).map wN:=by rw[←List.getElem?_map,←List.getElem?_map,h]
 unfold C8
 cases ha:a[i]? with
 |none=>
  cases hb:b[i]? with
  |none=>rfl
  |some y=>rw[ha,hb]at e;cases e
 |some x=>
  cases hb:b[i]? with
  |none=>rw[ha,hb]at e;cases e
  |some y=>
   rw[ha,hb]at e
   have e2:x.cond=y.cond:=(Prod.mk.inj (Option.some.inj e)).2
   show some x.cond=some y.cond
   rw[e2]
theorem ID{a b:List Node}(h:a.map wN=b.map wN)(v:Int):gA a v=gA b v:=by
 have hl:a.length=b.length:=by have:=congrArg List.length h;simpa using this
 unfold gA LB
 rw[hl,X3 h,Z5 h]
def IE(al:List aN)(fs:List aD):List aN:=al.map fun a=>⟨a.shape,E7 a.shape [] fs⟩
def D5(ns:List Node)(fs:List aD):List Node→Nat→List Node
 | [],_=>[]
 |x::xs,i=>⟨x.parent,x.cond,x.iO,Z0 (gA ns (bZ i)) fs⟩::D5 ns fs xs (i+1)
def SG(ns:List Node)(fs:List aD):List Node:=D5 ns fs ns 0
theorem setAt{α:Type}(pre l:List α)(x y:α):(pre++x::l).set pre.length y=pre++y::l:=by
 rw[List.set_append_right _ _ (Nat.le_refl _),Nat.sub_self];rfl
structure QL(ns:List Node):Prop where
 len:ns.length≤1048576
 wt:∀x∈ns,x.cond.wt≤1048576
 path:∀i:Nat,(gA ns (bZ i)).length≤4
theorem a0z{ns:List Node}{v:Int}{c:aF}(h:c∈gA ns v):∃x∈ns,x.cond=c:=by
 unfold gA at h
 split at h
 ·unfold LB at h
  obtain⟨i,_,hc⟩:=List.mem_filterMap.1 h
  unfold C8 at hc
  cases hx:ns[i]? with
  |none=>rw[hx]at hc;cases hc
  |some x=>rw[hx]at hc;exact⟨x,List.mem_of_getElem? hx,Option.some.inj hc⟩
 ·cases h
theorem a7y(n:aG)(fs y:List aD)(k:List aN→Option (aG×Unit))(hf:FS fs):∀(l pre:List aN),(∀x∈l,x.shape.wt≤1048576)→bY n fs y k l pre.length (pre++l)=k (pre++IE l fs):=by
 intro l
 induction l with
 |nil=>intro pre _;rfl
 |cons x l ih=>
  intro pre hw
  have hx:(pre++x::l)[pre.length]?=some x:=by simp
  have hlt:decide (pre.length<((pre++x::l).map aN.c).length)=true:=by simp
  rw[bY,hlt,cond_true,hx,Option.bind_some,aEy x.shape [] fs (hw x (by simp)) PB.nil hf,Option.bind_some,cond_true,setAt]
  have:=ih (pre++[⟨x.shape,E7 x.shape [] fs⟩]) (fun z hz=>hw z (by simp[hz]))
  rw[List.length_append,List.length_singleton,List.append_assoc]at this
  rw[show pre++(⟨x.shape,E7 x.shape [] fs⟩:aN)::l=pre++([⟨x.shape,E7 x.shape [] fs⟩]++l)from rfl,this]
  simp[IE]
theorem aCe(n:aG)(fs y:List aD)(q:List aN)(k:Option (aG×Unit))(hf:FS fs)(h24:fs.length≤24)(ns:List Node)(hp:QL ns):∀(l pre:List Node),(pre++l).map wN=ns.map wN→
 bM n fs y q k l pre.length (pre++l)=some (⟨n.rules,n.ends,q,pre++D5 ns fs l pre.length,y,n.bJ⟩,()):=by
 intro l
 induction l with
 |nil=>intro pre _;rfl
 |cons x l ih=>
  intro pre he
  have hx:(pre++x::l)[pre.length]?=some x:=by simp
  have hlt:decide (pre.length<((pre++x::l).map Node.c).length)=true:=by simp
  have hlen:(pre++x::l).length=ns.length:=by have:=congrArg List.length he;simpa using this
  have hok:NOk ⟨n.rules,n.ends,q,pre++x::l,y,n.bJ⟩:=by
   refine⟨by show(pre++x::l).length≤1048576;rw[hlen];exact hp.len,fun z hz=>?_⟩
   have hm:wN z∈ns.map wN:=by rw[←he];exact List.mem_map.2 ⟨z,hz,rfl⟩
   obtain⟨w,hw,e⟩:=List.mem_map.1 hm
   have:w.cond=z.cond:=(Prod.mk.inj e).2
   rw[←this];exact hp.wt w hw
  have aFA:gA (pre++x::l) ((pre.length:Nat):Int)=gA ns (bZ pre.length):=ID he _
  have hcw:∀c∈gA ns (bZ pre.length),c.wt≤1048576:=by
   intro c hc
   obtain⟨z,hz,e⟩:=a0z hc
   rw[←e];exact hp.wt z hz
  rw[bM,aCL _ _ hok,Option.bind_some,aFA,aF3 _ fs hcw (hp.path _) hf h24,Option.bind_some,hlt,cond_true,hx,Option.bind_some,setAt]
  have:=ih (pre++[⟨x.parent,x.cond,x.iO,Z0 (gA ns (bZ pre.length)) fs⟩]) (by
   rw[←he];simp[wN])
  rw[List.length_append,List.length_singleton,List.append_assoc]at this
  rw[show pre++(⟨x.parent,x.cond,x.iO,Z0 (gA ns (bZ pre.length)) fs⟩:Node)::l=pre++([⟨x.parent,x.cond,x.iO,Z0 (gA ns (bZ pre.length)) fs⟩]++l)from rfl,this,D5]
  simp
theorem aFB(n:aG)(fs:List aD)(hf:FS fs)(h24:fs.length≤24)(ha:n.aR.length≤1048576)(hs:∀x∈n.aR,x.shape.wt≤1048576)(hp:QL n.nodes):j4 n fs=some (⟨n.rules,n.ends,IE n.aR fs,SG n.nodes fs,fs,n.bJ⟩,()):=by
 unfold j4
 have h1:=a7y n fs fs
 have hl:=hp.len
 rw[a0t fs hf.1 (fun f hf2=>by have:=aD.cW (hf.2 f hf2);omega),Option.bind_some,wM (by omega),cond_true]
 have e1:=a7y n fs fs (fun(lF:List aN)=>(bif decide ((n.nodes).length≤maxLen)then(bM n fs fs lF none (n.nodes) 0 (n.nodes))else none)) hf n.aR [] hs
 refine e1.trans ?_
 rw[List.nil_append,wM (by omega),cond_true]
 exact aCe n fs fs _ none hf h24 n.nodes hp n.nodes [] rfl
end Go.Cx
namespace Go.Cx
open Go.RowKit Go.Proofs
set_option linter.unusedVariables false
set_option linter.unusedSimpArgs false
theorem a10(ns:List Node):∀(k k' v:Nat),1≤v→v≤k→v≤k'→VS ns k v=VS ns k' v
 |0,_,v,h1,h2,_=>by omega
 |k+1,0,v,h1,_,h3=>by omega
 |k+1,k'+1,v,h1,h2,h3=>by
  unfold VS
  cases hx:ns[v]? with
  |none=>rfl
  |some x=>
   dsimp only
   by_cases hp:1≤x.parent∧x.parent<(v:Int)
   ·rw[if_pos hp,if_pos hp,a10 ns k k' x.parent.toNat (by omega) (by omega) (by omega)]
   ·rw[if_neg hp,if_neg hp]
theorem vP(ns:List Node):gA ns (bZ 0)=[]:=by unfold gA bZ;rw[if_neg (by omega)]
theorem B7{ns:List Node}{i:Nat}{x:Node}(hx:ns[i]?=some x)(h1:1≤i){p:Nat}(hp:x.parent=bZ p)(hpi:p<i):gA ns (bZ i)=gA ns (bZ p)++[x.cond]:=by
 have hl:=(List.getElem?_eq_some_iff.1 hx).1
 unfold bZ at hp
 have e1:gA ns (bZ i)=LB ns i i:=by unfold gA bZ;rw[if_pos (by omega)];rfl
 obtain⟨k,rfl⟩:∃k,i=k+1:=⟨i-1,by omega⟩
 rw[e1,UX hx]
 by_cases h0:1≤p
 ·rw[if_pos (by omega)]
  have e2:gA ns (bZ p)=LB ns p p:=by unfold gA bZ;rw[if_pos (by omega)];rfl
  rw[e2,hp,Int.toNat_natCast]
  unfold LB
  rw[a10 ns k p p h0 (by omega) (Nat.le_refl _)]
 ·rw[if_neg (by omega),show p=0 by omega,vP]
def a2c(ns:List Node):Prop:=∀(i:Nat) x,1≤i→ns[i]?=some x→∃p:Nat,x.parent=bZ p∧p<i
theorem RR{ns:List Node}(hb:a2c ns)(m:List Node):∀(n i:Nat),i≤n→i<ns.length→gA (ns++m) (bZ i)=gA ns (bZ i):=by
 intro n
 induction n with
 |zero=>
  intro i h1 _
  rw[show i=0 by omega,vP,vP]
 |succ n ih=>
  intro i h1 h2
  by_cases h0:i=0
  ·rw[h0,vP,vP]
  ·have hx:ns[i]?=some ns[i]:=List.getElem?_eq_getElem h2
   have hx':(ns++m)[i]?=some ns[i]:=by rw[List.getElem?_append_left h2];exact hx
   obtain⟨p,hp,hpi⟩:=hb i _ (by omega) hx
   rw[B7 hx (by omega) hp hpi,B7 hx' (by omega) hp hpi,ih p (by omega) (by omega)]
structure ED(R:List aF→Prop)(ns:List Node):Prop where
 pos:1≤ns.length
 below:a2c ns
 path:∀i:Nat,1≤i→i<ns.length→R (gA ns (bZ i))
theorem a11{p:Int}{c:aF}:∀ {l:List Node} {i j:Nat},Z2 p c l i=some j→∃x,l[j-i]?=some x∧i≤j∧0<j∧x.parent=p∧x.cond=c
 |x::l,i,j,h=>by
  unfold Z2 at h
  split at h
  ·rename_i hc
   cases h
   exact⟨x,by simp,Nat.le_refl _,hc.1,hc.2.1,hc.2.2⟩
  ·obtain⟨y,h1,h2,h3,h4,h5⟩:=a11 h
   refine⟨y,?_,by omega,h3,h4,h5⟩
   rw[show j-i=(j-(i+1))+1 by omega];exact h1
theorem ED.step{R:List aF→Prop}{al:List aN}{ns:List Node}(h:ED R ns){a:Nat}(ha:a<ns.length){c:aF}(hR:R (gA ns (bZ a)++[c])):
 ED R (T3 al ns (bZ a) c).1.2∧∃b:Nat,(T3 al ns (bZ a) c).2=bZ b∧b<(T3 al ns (bZ a) c).1.2.length∧gA (T3 al ns (bZ a) c).1.2 (bZ b)=gA ns (bZ a)++[c]:=by
 unfold T3
 cases hc:Z2 (bZ a) c ns 0 with
 |some j=>
  obtain⟨x,h1,h2,h3,h4,h5⟩:=a11 hc
  rw[Nat.sub_zero]at h1
  have hj:=(List.getElem?_eq_some_iff.1 h1).1
  obtain⟨p,hp,hpj⟩:=h.below j x (by omega) h1
  have:p=a:=by rw[hp]at h4;unfold bZ at h4;omega
  subst this
  exact⟨h,j,rfl,hj,by rw[B7 h1 (by omega) hp hpj,h5]⟩
 |none=>
  dsimp only
  have hbel:a2c (ns++[⟨bZ a,c,(chA al c).2,[]⟩]):=by
   intro i x h1 hx
   by_cases hi:i<ns.length
   ·rw[List.getElem?_append_left hi]at hx;exact h.below i x h1 hx
   ·rw[List.getElem?_append_right (by omega)]at hx
    have hi2:i=ns.length:=by
     have:=(List.getElem?_eq_some_iff.1 hx).1
     simp at this;omega
    rw[hi2,Nat.sub_self]at hx
    cases hx
    exact⟨a,rfl,by omega⟩
  have hnew:gA (ns++[⟨bZ a,c,(chA al c).2,[]⟩]) (bZ ns.length)=gA ns (bZ a)++[c]:=by
   have hx:(ns++[(⟨bZ a,c,(chA al c).2,[]⟩:Node)])[ns.length]?=some ⟨bZ a,c,(chA al c).2,[]⟩:=by simp
   have h1:=h.pos
   rw[B7 hx (by omega) (p:=a) rfl ha,RR h.below _ a a (Nat.le_refl _) ha]
  refine⟨⟨by simp,hbel,fun i h1 h2=>?_⟩,ns.length,rfl,by simp,hnew⟩
  by_cases hi:i<ns.length
  ·rw[RR h.below _ i i (Nat.le_refl _) hi];exact h.path i h1 hi
  ·have:i=ns.length:=by simp at h2;omega
   rw[this,hnew];exact hR
theorem ED.rule{R:List aF→Prop}:∀(cs:List aF) {al:List aN} {ns:List Node} {a:Nat},ED R ns→a<ns.length→(∀j:Nat,1≤j→j≤cs.length→R (gA ns (bZ a)++cs.take j))→
 ED R (cs.foldl NY ((al,ns),bZ a)).1.2∧∃b:Nat,(cs.foldl NY ((al,ns),bZ a)).2=bZ b∧b<(cs.foldl NY ((al,ns),bZ a)).1.2.length∧gA (cs.foldl NY ((al,ns),bZ a)).1.2 (bZ b)=gA ns (bZ a)++cs
 | [],al,ns,a,h,ha,_=>⟨h,a,rfl,ha,by simp⟩
 |c::cs,al,ns,a,h,ha,hR=>by
  obtain⟨h1,b,h2,h3,h4⟩:=h.step (al:=al) ha (c:=c) (by have:=hR 1 (Nat.le_refl _) (by simp);simpa using this)
  have e:NY ((al,ns),bZ a) c=(((T3 al ns (bZ a) c).1.1,(T3 al ns (bZ a) c).1.2),bZ b):=by
   show T3 al ns (bZ a) c=_
   rw[←h2]
  rw[List.foldl_cons,e]
  obtain⟨k1,d,k2,k3,k4⟩:=ED.rule cs (al:=(T3 al ns (bZ a) c).1.1) h1 h3 (fun j KY hj2=>by
   rw[h4,List.append_assoc]
   have:=hR (j+1) (by omega) (by simp;omega)
   simpa using this)
  exact⟨k1,d,k2,k3,by rw[k4,h4];simp⟩
theorem a9l(al:List aN)(ns:List Node)(p:Int)(c:aF):∃m,(T3 al ns p c).1.2=ns++m:=by
 unfold T3
 cases Z2 p c ns 0 with
 |some i=>exact⟨[],by simp⟩
 |none=>exact⟨[⟨p,c,(chA al c).2,[]⟩],rfl⟩
theorem a3a:∀(cs:List aF) (s:(List aN×List Node)×Int),∃m,(cs.foldl NY s).1.2=s.1.2++m
 | [],s=>⟨[],by simp⟩
 |c::cs,s=>by
  obtain⟨m,h⟩:=a9l s.1.1 s.1.2 s.2 c
  obtain⟨m2,h2⟩:=a3a cs (NY s c)
  refine⟨m++m2,?_⟩
  rw[List.foldl_cons,h2]
  show(T3 s.1.1 s.1.2 s.2 c).1.2++m2=_
  rw[h,List.append_assoc]
def a3b(rs:List aI)(p:List aF):Prop:=∃r∈rs,∃j:Nat,1≤j∧j≤(fU r).length∧p=(fU r).take j
theorem a13(all:List aI):∀(l:List aI) (al:List aN) (ns:List Node) (es:List Int),(∀r∈l,r∈all)→ED (a3b all) ns→
 ED (a3b all) (l.foldl SF ((al,ns),es)).1.2∧(∃m,(l.foldl SF ((al,ns),es)).1.2=ns++m)∧∃fs,(l.foldl SF ((al,ns),es)).2=es++fs∧fs.length=l.length∧
  ∀(i:Nat) r,l[i]?=some r→∃b:Nat,fs[i]?=some (bZ b)∧b<(l.foldl SF ((al,ns),es)).1.2.length∧gA (l.foldl SF ((al,ns),es)).1.2 (bZ b)=fU r
 | [],al,ns,es,_,h=>⟨h,⟨[],by simp⟩,[],by simp,rfl,fun i r hr=>by simp at hr⟩
 |r::l,al,ns,es,hm,h=>by
  obtain⟨h1,b,h2,h3,h4⟩:=ED.rule (fU r) (al:=al) h (a:=0) (by have:=h.pos;omega) (fun j KY hj2=>by
   rw[vP,List.nil_append];exact⟨r,hm r (by simp),j,KY,hj2,rfl⟩)
  obtain⟨m1,hm1⟩:=a3a (fU r) ((al,ns),bZ 0)
  obtain⟨k1,⟨m2,hm2⟩,fs,k2,k3,k4⟩:=a13 all l ((fU r).foldl NY ((al,ns),bZ 0)).1.1 ((fU r).foldl NY ((al,ns),bZ 0)).1.2 (es++[bZ b]) (fun x hx=>hm x (by simp[hx])) h1
  have e:SF ((al,ns),es) r=((((fU r).foldl NY ((al,ns),bZ 0)).1.1,((fU r).foldl NY ((al,ns),bZ 0)).1.2),es++[bZ b]):=by
   rw[←h2];rfl
  rw[List.foldl_cons,e]
  refine⟨k1,⟨m1++m2,by rw[hm2,hm1,List.append_assoc]⟩,bZ b::fs,by rw[k2];simp,by simp[k3],?_⟩
  intro i x hx
  cases i with
  |zero=>
   have:r=x:=by simpa using hx
   subst this
   refine⟨b,rfl,by rw[hm2];simp;omega,?_⟩
   rw[hm2,RR h1.below _ b b (Nat.le_refl _) h3,h4,vP];rfl
  |succ i=>exact k4 i x (by simpa using hx)
theorem a4w(R:List aF→Prop)(tk:List aL):ED R [root tk]:=
 ⟨Nat.le_refl _,fun i x h1 hx=>by
  have:=(List.getElem?_eq_some_iff.1 hx).1
  simp at this;omega,fun i h1 h2=>by simp at h2;omega⟩
theorem a4x(tk:List aL)(rs:List aI):ED (a3b rs) (jS tk rs).1.2∧(jS tk rs).2.length=rs.length∧∀(i:Nat) r,rs[i]?=some r→∃b:Nat,(jS tk rs).2[i]?=some (bZ b)∧b<(jS tk rs).1.2.length∧gA (jS tk rs).1.2 (bZ b)=fU r:=by
 obtain⟨h1,_,fs,h2,h3,h4⟩:=a13 rs rs [] [root tk] [] (fun r hr=>hr) (a4w _ tk)
 rw[List.nil_append]at h2
 refine⟨h1,?_,?_⟩
 ·show(rs.foldl SF (([],[root tk]),[])).2.length=_
  rw[h2,h3]
 ·intro i r hr
  obtain⟨b,k1,k2,k3⟩:=h4 i r hr
  refine⟨b,?_,k2,k3⟩
  show(rs.foldl SF (([],[root tk]),[])).2[i]?=_
  rw[h2];exact k1
theorem a14{r:aI}(h:mE r=true):∃c cs,fU r=c::cs∧c.kind=1:=by
 have hb:=Z1 h
 cases hc:r.conds with
 |nil=>
  unfold mE at h
  rw[hc]at h
  simp at h
 |cons c cs=>
  refine⟨UW (nX r) c,cs.map (UW (nX r)),by unfold fU;rw[hc];rfl,?_⟩
  exact(V7 (pre:=[]) (i:=0) (c:=c) (rest:=cs) (by rw[List.nil_append,←hc];exact hb)).2.1 rfl
theorem a4y{rs:List aI}(h:∀r∈rs,mE r=true){p:List aF}(hp:a3b rs p):p.length≤4∧∃c cs,p=c::cs∧c.kind=1:=by
 obtain⟨r,hr,j,h1,h2,rfl⟩:=hp
 have:=D4 (h r hr)
 refine⟨by rw[List.length_take];omega,?_⟩
 obtain⟨c,cs,e,hk⟩:=a14 (h r hr)
 obtain⟨j,rfl⟩:∃k,j=k+1:=⟨j-1,by omega⟩
 exact⟨c,cs.take j,by rw[e];rfl,hk⟩
theorem a15{r:aI}(h:mE r=true):∀c∈fU r,c.pat.rel.length≤8∧c.pat.args.length≤3∧∀x∈c.pat.args,x.length≤16:=by
 intro c' hc'
 obtain⟨c,hc,rfl⟩:=List.mem_map.1 hc'
 obtain⟨h1,h2,h3,h4,h5⟩:=V9 (SB h c hc)
 have hV:∀x∈c.pat.args++[c.left,c.right],lE x=true→x∈FF r.conds:=fun x hx hv=>QJ.2 ⟨List.mem_flatMap.2 ⟨c,hc,hx⟩,hv⟩
 refine⟨h1,by show(c.pat.args.map _).length≤3;rw[List.length_map];exact h2,fun x hx=>?_⟩
 obtain⟨y,hy,rfl⟩:=List.mem_map.1 hx
 exact QK h (h3 y hy) (hV y (by simp[hy]))
theorem a7z{p:aD}(h1:p.rel.length≤8)(h2:p.args.length≤3)(h3:∀x∈p.args,x.length≤16):(NU p).wt≤1048576:=by
 have a3:=Z4 (p.args.map (IL (p.args.foldl j5 []))) (fun x hx=>by
  obtain⟨y,hy,rfl⟩:=List.mem_map.1 hx
  exact aCM (by omega) (h3 y hy))
 rw[List.length_map]at a3
 show aD.wt ⟨p.rel,p.args.map (IL (p.args.foldl j5 []))⟩≤1048576
 unfold aD.wt
 dsimp only
 unfold tw at*
 omega
def yI(al:List aN):Prop:=∀x∈al,x.shape.wt≤1048576∧x.facts=[]
theorem a2d{al:List aN}{ns:List Node}{p:Int}{c:aF}(h:yI al)(hc:(NU c.pat).wt≤1048576):yI (T3 al ns p c).1.1:=by
 unfold T3
 cases Z2 p c ns 0 with
 |some i=>exact h
 |none=>
  show yI (chA al c).1
  unfold chA
  by_cases hk:c.kind=1∨c.kind=2
  ·rw[if_pos hk]
   unfold alB
   cases alI (NU c.pat) al 0 with
   |some i=>exact h
   |none=>
    intro x hx
    rcases List.mem_append.1 hx with hx|hx
    ·exact h x hx
    ·rw[List.mem_singleton.1 hx];exact⟨hc,rfl⟩
  ·rw[if_neg hk];exact h
theorem VB:∀(cs:List aF) (s:(List aN×List Node)×Int),yI s.1.1→(∀c∈cs,(NU c.pat).wt≤1048576)→yI (cs.foldl NY s).1.1
 | [],_,h,_=>h
 |c::cs,s,h,hc=>VB cs (NY s c) (a2d h (hc c (by simp))) (fun x hx=>hc x (by simp[hx]))
theorem SH(tk:List aL){rs:List aI}(h:∀r∈rs,mE r=true):yI (jS tk rs).1.1:=by
 have main:∀(l:List aI) (z:(List aN×List Node)×List Int),(∀r∈l,mE r=true)→yI z.1.1→yI (l.foldl SF z).1.1:=by
  intro l
  induction l with
  |nil=>intro z _ hz;exact hz
  |cons r l ih=>
   intro z hl hz
   refine ih (SF z r) (fun x hx=>hl x (by simp[hx])) ?_
   exact VB (fU r) (z.1,0) hz (fun c hc=>by
    obtain⟨p1,p2,p3⟩:=a15 (hl r (by simp)) c hc
    exact a7z p1 p2 p3)
 exact main rs _ h (fun x hx=>by cases hx)
theorem a3c(tk:List aL){rs:List aI}(h:∀r∈rs,mE r=true)(h6:rs.length≤6):QL (jS tk rs).1.2:=by
 have hp:=(a4x tk rs).1
 have hl:=a7x tk h h6
 refine⟨by omega,?_,?_⟩
 ·intro x hx
  obtain⟨i,hi⟩:=List.getElem?_of_mem hx
  have hil:=(List.getElem?_eq_some_iff.1 hi).1
  by_cases h0:i=0
  ·subst h0
   rw[xG]at hi
   cases hi
   unfold root aF.wt
   simp[j6,tw]
  ·obtain⟨p,hpp,hpi⟩:=hp.below i x (by omega) hi
   obtain⟨r,hr,j,j1,j2,e⟩:=hp.path i (by omega) hil
   rw[B7 hi (by omega) hpp hpi]at e
   have hm:x.cond∈fU r:=List.mem_of_mem_take (by rw[←e];simp:x.cond∈(fU r).take j)
   exact VA (h r hr) _ hm
 ·intro i
  by_cases hi:1≤i∧i<(jS tk rs).1.2.length
  ·exact(a4y h (hp.path i hi.1 hi.2)).1
  ·unfold gA bZ
   rw[if_neg (by omega)];simp
theorem aCf(rs:List aI)(fs:List aD)(t:Int)(hr:j6 aI.wt rs≤1048576)(hb:IA rs=true)(hf:FS fs)(h24:fs.length≤24):wL rs fs t=some ⟨rs,(jS [] rs).2,IE (jS [] rs).1.1 fs,SG (jS [] rs).1.2 fs,fs,t⟩:=by
 have h6:rs.length≤6:=by unfold IA at hb;simp only[Bool.and_eq_true,decide_eq_true_eq]at hb;omega
 have hv:=QG hb
 have hsh:=SH [] hv
 have hal:(jS [] rs).1.1.length≤1048576:=by
  have main:∀(l:List aI) (z:(List aN×List Node)×List Int),(∀r∈l,mE r=true)→(l.foldl SF z).1.1.length≤z.1.1.length+4*l.length:=by
   intro l
   induction l with
   |nil=>intro z _;exact Nat.le_refl _
   |cons r l ih=>
    intro z hl
    have h1:=ih (SF z r) (fun x hx=>hl x (by simp[hx]))
    have h2:=(QI (fU r) (z.1,0)).1
    have h3:=D4 (hl r (by simp))
    have h4:(SF z r).1.1.length=((fU r).foldl NY (z.1,0)).1.1.length:=rfl
    rw[List.foldl_cons,List.length_cons]
    dsimp only at h2
    omega
  have:=main rs (([],[root []]),[]) hv
  unfold jS
  simp only[List.length_nil]at this
  omega
 unfold wL
 rw[aGx rs hr hb,Option.bind_some,aFB _ fs hf h24 hal (fun x hx=>(hsh x hx).1) (a3c [] hv h6)]
 rfl
end Go.Cx
namespace Go.Cx
open Go.RowKit Go.Proofs
set_option linter.unusedVariables false
set_option linter.unusedSimpArgs false
def a81(rs:List aI)(fs:List aD)(t:Int):aG:=⟨rs,(jS [] rs).2,IE (jS [] rs).1.1 fs,SG (jS [] rs).1.2 fs,fs,t⟩
def isB(n:aG):Bool:=IA n.rules&&(QF n.facts&&(decide (0≤n.bJ)&&YT n (a81 n.rules n.facts 0)))
theorem FS.a3K{fs:List aD}(h:j6 aD.wt fs≤1048576):FS fs:=⟨by have:=gB aD.wt fs;omega,fun f hf=>by have:=iP (w:=aD.wt) hf;omega⟩
theorem aCg(n:aG)(hr:j6 aI.wt n.rules≤1048576)(hf:j6 aD.wt n.facts≤1048576):nM n=some (isB n):=by
 unfold nM isB
 rw[aGo _ hr,aEr _ hf,Option.bind_some,Option.bind_some]
 cases h1:IA n.rules with
 |false=>rfl
 |true=>
  cases h2:QF n.facts with
  |false=>rfl
  |true=>
   rw[aCf _ _ _ hr h1 (FS.a3K hf) (X0 h2),Option.bind_some,aGp,Option.bind_some]
   simp only[cond_true,Bool.true_and]
   by_cases h3:0≤n.bJ
   ·rw[decide_eq_true h3];rfl
   ·rw[decide_eq_false h3];rfl
def yY(x:Node):Int×Int×aF:=(x.parent,x.iO,x.cond)
theorem a82{a b:List Node}(h:a.map yY=b.map yY):a.map wN=b.map wN:=by
 have:=congrArg (List.map fun t:Int×Int×aF=>(t.1,t.2.2)) h
 rw[List.map_map,List.map_map]at this;exact this
def a4z(ns:List Node)(fs:List aD):List Node→Nat→Bool
 | [],_=>true
 |x::xs,i=>decide (x.tokens=Z0 (gA ns (bZ i)) fs)&&a4z ns fs xs (i+1)
theorem X4(fs:List aD):∀(a b:List aN),a.map aN.shape=b.map aN.shape→((a.all fun x=>decide (x.facts=E7 x.shape [] fs))=true↔a=IE b fs)
 | [],[],_=>⟨fun _=>rfl,fun _=>rfl⟩
 | [],_::_,h=>by simp at h
 |_::_,[],h=>by simp at h
 |x::a,y::b,h=>by
  rw[List.map_cons,List.map_cons]at h
  obtain⟨h1,h2⟩:=List.cons.inj h
  have ih:=X4 fs a b h2
  rw[List.all_cons,Bool.and_eq_true,decide_eq_true_eq,ih]
  show _↔x::a=⟨y.shape,E7 y.shape [] fs⟩::IE b fs
  constructor
  ·rintro⟨q1,q2⟩
   rw[←h1,←q1,←q2]
  ·intro q
   obtain⟨q1,q2⟩:=List.cons.inj q
   exact⟨by rw[q1],q2⟩
theorem X5(ns:List Node)(fs:List aD):∀(a b:List Node) (i:Nat),a.map yY=b.map yY→(a4z ns fs a i=true↔a=D5 ns fs b i)
 | [],[],_,_=>⟨fun _=>rfl,fun _=>rfl⟩
 | [],_::_,_,h=>by simp at h
 |_::_,[],_,h=>by simp at h
 |x::a,y::b,i,h=>by
  rw[List.map_cons,List.map_cons]at h
  obtain⟨h1,h2⟩:=List.cons.inj h
  have ih:=X5 ns fs a b (i+1) h2
  have e1:x.parent=y.parent:=(Prod.mk.inj h1).1
  have e2:x.iO=y.iO:=(Prod.mk.inj (Prod.mk.inj h1).2).1
  have e3:x.cond=y.cond:=(Prod.mk.inj (Prod.mk.inj h1).2).2
  unfold a4z D5
  rw[Bool.and_eq_true,decide_eq_true_eq,ih]
  constructor
  ·rintro⟨q1,q2⟩
   rw[←e1,←e2,←e3,←q1,←q2]
  ·intro q
   obtain⟨q1,q2⟩:=List.cons.inj q
   exact⟨by rw[q1],q2⟩
theorem aAq(n:aG)(k:Option Bool)(hf:FS n.facts):∀(l:List aN) (i:Nat),(∀x∈l,x.shape.wt≤1048576)→fO n k l i=bif l.all (fun x=>decide (x.facts=E7 x.shape [] n.facts))then k else some false
 | [],_,_=>rfl
 |x::l,i,h=>by
  rw[fO,aEx x.shape [] n.facts (h x (by simp)) PB.nil hf,Option.bind_some,YP,Option.bind_some,aAq n k hf l _ (fun y hy=>h y (by simp[hy])),List.all_cons]
  cases decide (x.facts=E7 x.shape [] n.facts)<;>rfl
theorem aAr(n:aG)(k:Option Bool)(hf:FS n.facts)(h24:n.facts.length≤24)(hp:QL n.nodes):∀(l:List Node) (i:Nat),fP n k l i=bif a4z n.nodes n.facts l i then k else some false
 | [],_=>rfl
 |x::l,i=>by
  have hcw:∀c∈gA n.nodes ((i:Nat):Int),c.wt≤1048576:=by
   intro c hc
   obtain⟨z,hz,e⟩:=a0z hc
   rw[←e];exact hp.wt z hz
  rw[fP,aCK n _ ⟨hp.len,hp.wt⟩,Option.bind_some,aF2 _ n.facts hcw (hp.path i) hf h24,Option.bind_some,a9a,Option.bind_some,aAr n k hf h24 hp l,a4z]
  show(bif !decide (x.tokens=Z0 (gA n.nodes (bZ i)) n.facts)then some false else _)=_
  cases decide (x.tokens=Z0 (gA n.nodes (bZ i)) n.facts)<;>rfl
theorem aCh(n:aG)(hr:j6 aI.wt n.rules≤1048576)(hf:j6 aD.wt n.facts≤1048576):nG n=some (isB n):=by
 unfold nG isB
 rw[aCd _ hr,aEq _ hf,Option.bind_some,Option.bind_some]
 cases h1:IA n.rules with
 |false=>rfl
 |true=>
  cases h2:QF n.facts with
  |false=>rfl
  |true=>
   have h6:n.rules.length≤6:=by unfold IA at h1;simp only[Bool.and_eq_true,decide_eq_true_eq]at h1;omega
   have hv:=QG h1
   simp only[cond_true,Bool.not_true,cond_false,Bool.true_and]
   rw[aEm,Option.bind_some]
   have hroot:(jS [⟨[],[]⟩] n.rules).1.2.map yY=(jS [] n.rules).1.2.map yY:=by rw[xG,xG];rfl
   have hA:(jS [⟨[],[]⟩] n.rules).1.1=(jS [] n.rules).1.1:=by rw[xG,xG]
   have hE:(jS [⟨[],[]⟩] n.rules).2=(jS [] n.rules).2:=by rw[xG,xG]
   have hmem:YT n (a81 n.rules n.facts 0)=(decide (n.ends=(jS [] n.rules).2)&&(decide (n.aR=IE (jS [] n.rules).1.1 n.facts)&&decide (n.nodes=SG (jS [] n.rules).1.2 n.facts))):=by
    unfold YT a81;simp
   by_cases hform:V1 n ⟨n.rules,(jS [⟨[],[]⟩] n.rules).2,(jS [⟨[],[]⟩] n.rules).1.1,(jS [⟨[],[]⟩] n.rules).1.2,[],0⟩=true
   ·rw[hform]
    unfold V1 at hform
    simp only[Bool.and_eq_true,decide_eq_true_eq]at hform
    obtain⟨f1,f2,f3⟩:=hform
    have f2':n.nodes.map yY=(jS [] n.rules).1.2.map yY:=by rw[←hroot];exact f2
    have f1':n.aR.map aN.shape=(jS [] n.rules).1.1.map aN.shape:=by rw[←hA];exact f1
    have f3':n.ends=(jS [] n.rules).2:=by rw[←hE];exact f3
    have aCi:=a3c [] hv h6
    have hfn:=a82 f2'
    have hok:QL n.nodes:=by
     refine⟨by have:=congrArg List.length f2';rw[List.length_map,List.length_map]at this;rw[this];exact aCi.len,fun x hx=>?_,fun i=>by rw[ID hfn];exact aCi.path i⟩
     have hm:wN x∈(jS [] n.rules).1.2.map wN:=by rw[←hfn];exact List.mem_map.2 ⟨x,hx,rfl⟩
     obtain⟨w,hw,e⟩:=List.mem_map.1 hm
     have:w.cond=x.cond:=(Prod.mk.inj e).2
     rw[←this];exact aCi.wt w hw
    have hsh:∀x∈n.aR,x.shape.wt≤1048576:=by
     intro x hx
     have hm:x.shape∈(jS [] n.rules).1.1.map aN.shape:=by rw[←f1'];exact List.mem_map.2 ⟨x,hx,rfl⟩
     obtain⟨w,hw,e⟩:=List.mem_map.1 hm
     rw[←e];exact(SH [] hv w hw).1
    have g1:=X4 n.facts n.aR _ f1'
    have g2:=X5 n.nodes n.facts n.nodes _ 0 f2'
    have g3:D5 n.nodes n.facts (jS [] n.rules).1.2 0=SG (jS [] n.rules).1.2 n.facts:=by
     unfold SG
     have:∀(l:List Node) (i:Nat),D5 n.nodes n.facts l i=D5 (jS [] n.rules).1.2 n.facts l i:=by
      intro l
      induction l with
      |nil=>intro i;rfl
      |cons x l ih=>intro i;rw[D5,D5,ih,ID hfn]
     exact this _ _
    rw[g3]at g2
    rw[hmem,decide_eq_true f3',Bool.true_and,aAq n _ (FS.a3K hf) _ _ hsh,aAr n _ (FS.a3K hf) (X0 h2) hok]
    have k1:(n.aR.all fun x=>decide (x.facts=E7 x.shape [] n.facts))=decide (n.aR=IE (jS [] n.rules).1.1 n.facts):=by rw[Bool.eq_iff_iff,g1,decide_eq_true_eq]
    have k2:a4z n.nodes n.facts n.nodes 0=decide (n.nodes=SG (jS [] n.rules).1.2 n.facts):=by rw[Bool.eq_iff_iff,g2,decide_eq_true_eq]
    rw[k1,k2]
    by_cases h3:0≤n.bJ
    ·rw[decide_eq_true h3,decide_eq_false (by omega)]
     cases decide (n.aR=IE (jS [] n.rules).1.1 n.facts)<;>cases decide (n.nodes=SG (jS [] n.rules).1.2 n.facts)<;>rfl
    ·rw[decide_eq_false h3,decide_eq_true (by omega)];rfl
   ·have hfalse:V1 n ⟨n.rules,(jS [⟨[],[]⟩] n.rules).2,(jS [⟨[],[]⟩] n.rules).1.1,(jS [⟨[],[]⟩] n.rules).1.2,[],0⟩=false:=by
     cases hq:V1 n ⟨n.rules,(jS [⟨[],[]⟩] n.rules).2,(jS [⟨[],[]⟩] n.rules).1.1,(jS [⟨[],[]⟩] n.rules).1.2,[],0⟩with
     |true=>exact absurd hq hform
     |false=>rfl
    rw[hfalse]
    have hm:YT n (a81 n.rules n.facts 0)=false:=by
     cases hq:YT n (a81 n.rules n.facts 0)with
     |false=>rfl
     |true=>
      exfalso
      rw[hmem]at hq
      simp only[Bool.and_eq_true,decide_eq_true_eq]at hq
      obtain⟨q1,q2,q3⟩:=hq
      apply hform
      unfold V1
      simp only[Bool.and_eq_true,decide_eq_true_eq]
      have r1:n.aR.map aN.shape=(jS [⟨[],[]⟩] n.rules).1.1.map aN.shape:=by rw[hA,q2];unfold IE;rw[List.map_map];rfl
      have r2:n.nodes.map yY=(jS [⟨[],[]⟩] n.rules).1.2.map yY:=by
       rw[hroot,q3]
       have:∀(ns l:List Node) (i:Nat),(D5 ns n.facts l i).map yY=l.map yY:=by
        intro ns l
        induction l with
        |nil=>intro i;rfl
        |cons x l ih=>intro i;rw[D5,List.map_cons,ih];rfl
       exact this _ _ _
      exact⟨r1,r2,by rw[hE];exact q1⟩
    rw[hm,Bool.and_false];rfl
end Go.Cx
namespace Go.Cx
open Go.RowKit Go.Proofs
set_option linter.unusedVariables false
set_option linter.unusedSimpArgs false
set_option maxRecDepth 100000
variable{Γ:uK}{N:Nat→St→Prop}
def mF(aA:aG):Option Bool:=((pT (aA) (1048576)).bind fun y1=>(bif decide ((y1:Int)<(0))then(some (true))else((kB (aA)).bind fun y4=>((nG (y4)).bind fun y6=>((kB (aA)).bind fun y8=>((nM (y8)).bind fun QZ=>(bif (QZ:Bool) != (y6)then(some (false))else((kB (aA)).bind fun sZ=>((q8 (y8) (sZ)).bind fun y15=>(bif !(y15)then(some (false))else(some (true))))))))))))
theorem yZ{aA:aG}{r:Bool}(h:mF aA=some r):Good Tryz.prog 7 [D.agg (aG.c aA)] (D.bool (r)):=by
 refine gd Tryz.func7 [[none]] 27 fun hr Γ hΓ=>?_
 rw[mF]at h
 obtain⟨y1,h2,h⟩:=aB h
 obtain⟨h3,h⟩|⟨h3,h⟩:=aE h
 ·have h:=aC h;subst h;exact(((aK.a [.dc (D.int .i64 (y1))]).w (wR h2)).b h3).ret hΓ
 ·obtain⟨y4,h5,h⟩:=aB h
  obtain⟨y6,h7,h⟩:=aB h
  obtain⟨y8,h9,h⟩:=aB h
  obtain⟨QZ,h11,h⟩:=aB h
  have jO:=(((((((((((aK.a [.dc (D.int .i64 (y1))]).w (wR h2)).b h3).a [.dc (D.agg [D.fr 105 4 ((y4.rules).map aI.c),D.fr 3 1 ((y4.ends).map iL),D.fr 111 3 ((y4.aR).map aN.c),D.fr 118 8 ((y4.nodes).map Node.c),D.fr 53 2 ((y4.facts).map aD.c),D.int .i64 (y4.bJ)])]).w (sP h5)).a [.dc (D.bool (y6))]).w (EZ h7)).a [.dc (D.agg [D.fr 105 4 ((y8.rules).map aI.c),D.fr 3 1 ((y8.ends).map iL),D.fr 111 3 ((y8.aR).map aN.c),D.fr 118 8 ((y8.nodes).map Node.c),D.fr 53 2 ((y8.facts).map aD.c),D.int .i64 (y8.bJ)])]).w (sP h9)).a [.dc (D.bool (QZ))]).w (FD h11))
  obtain⟨h12,h⟩|⟨h12,h⟩:=aE h
  ·have h:=aC h;subst h;exact(jO.b h12).ret hΓ
  ·obtain⟨sZ,h14,h⟩:=aB h
   obtain⟨y15,h16,h⟩:=aB h
   have bO:=(((((jO.b h12).a [.n 3]).g (sP h14)).a [.dc (D.bool (y15))]).w (EI h16))
   obtain⟨h17,h⟩|⟨h17,h⟩:=aE h
   ·have h:=aC h;subst h;exact(bO.b h17).ret hΓ
   ·have h:=aC h;subst h;exact(bO.b h17).ret hΓ
end Go.Cx
namespace Go.Cx
open Go.RowKit Go.Proofs
set_option linter.unusedVariables false
set_option linter.unusedSimpArgs false
namespace LawIsNetwork
theorem both(n:aG)(h:n.wt≤1048576):∃s,nG n=some s∧nM n=some s:=by
 have h1:j6 aI.wt n.rules≤1048576:=by simp only[aG.wt]at h;omega
 have h2:j6 aD.wt n.facts≤1048576:=by simp only[aG.wt]at h;omega
 exact⟨_,aCh n h1 h2,aCg n h1 h2⟩
theorem aCj(n:aG)(hn:vG (aG.c n)):mF n=some true:=by
 unfold mF
 obtain⟨r0,e0,l0,w0⟩:=YB n hn 1048576 (by omega) (by omega)
 rw[e0,Option.bind_some]
 by_cases c0:r0<0
 ·simp[c0]
 have n0:decide ((r0:Int)<0)=false:=decide_eq_false c0
 rw[n0,cond_false]
 have w0:=w0 (by omega)
 have hw:aG.wt n≤1048576:=by omega
 obtain⟨s,es,ei⟩:=both n (by omega)
 simp only[es,ei,YC n (by omega),YD,Option.bind_some,decide_true,Bool.not_true,Bool.not_false,cond_false,cond_true,bne_self_eq_false,beq_self_eq_true]
theorem a83(n:aG):Good Tryz.prog 7 [.agg (aG.c n)] (.bool true):=
 Good.aBs ⟨_,Tryz.func7,rfl,by decide⟩ fun h=>yZ (aCj n (bR.agg (h _ (by simp))))
end LawIsNetwork
end Go.Cx
namespace Go.Cx
set_option linter.unusedVariables false
set_option linter.unusedSimpArgs false
open Go.RowKit
inductive Sh where
 |int (k:IntKind)
 |str
 |bool
 |sl (row:List Sh)
mutual
inductive VC:Sh→D→Prop
 |int (k:IntKind) (n:Int):VC (.int k) (.int k n)
 |str (s:Bytes):VC .str (.str s)
 |bool (b:Bool):VC .bool (.bool b)
 |sl (row:List Sh) (rows:List (List D)):(∀r∈rows,mS row r)→VC (.sl row) (.sl rows)
inductive mS:List Sh→List D→Prop
 |nil:mS [] []
 |cons (s:Sh) (ss:List Sh) (d:D) (ds:List D):VC s d→mS ss ds→mS (s::ss) (d::ds)
end
theorem mS.app{s1 s2:List Sh}{d1 d2:List D}(h1:mS s1 d1)(h2:mS s2 d2):mS (s1++s2) (d1++d2):=by
 induction s1 generalizing d1 with
 |nil=>cases h1;exact h2
 |cons s s1 ih=>cases h1 with|cons _ _ d ds h h'=>exact .cons _ _ _ _ h (ih h')
theorem mS.length{s:List Sh}{d:List D}(h:mS s d):d.length=s.length:=by
 induction s generalizing d with
 |nil=>cases h;rfl
 |cons s ss ih=>cases h with|cons _ _ d ds h h'=>simp[ih h']
def Z6(P:Program):Nat→List Field→List (List Sh)→Bool
 |_,[],[]=>true
 |off,f::fs,r::rs=>(f.offset==off)&&(r.length==P.cellsOf f.type)&&Z6 P (off+r.length) fs rs
 |_,_,_=>false
def B8(P:Program):Nat→TypeId→Option (List Sh)
 |0,_=>none
 |n+1,t=>match P.underlying t with
  |some .bool=>some [.bool]
  |some (.int k)=>some [.int k]
  |some .string=>some [.str]
  |some (.slice e)=>(B8 P n e).bind fun r=>if r.length=P.cellsOf e∧0<r.length then some [.sl r]else none
  |some (.struct fs)=>(fs.toList.mapM fun f=>B8 P n f.type).bind fun rs=>if Z6 P 0 fs.toList rs=true∧rs.flatten.length=P.cellsOf t then some rs.flatten else none
  |_=>none
theorem a16{α β:Type}{f:α→Option β}:∀ {l:List α} {ys:List β},l.mapM f=some ys→ys.length=l.length∧∀(i:Nat) x,l[i]?=some x→∃y,ys[i]?=some y∧f x=some y:=by
 intro l
 induction l with
 |nil=>intro ys h;simp at h;subst h;simp
 |cons a l ih=>
  intro ys h
  simp only[List.mapM_cons,Option.bind_eq_bind,Option.pure_def]at h
  cases ha:f a with
  |none=>simp[ha]at h
  |some b=>
   cases hl:l.mapM f with
   |none=>simp[ha,hl]at h
   |some bs=>
    simp[ha,hl]at h
    subst h
    obtain⟨h1,h2⟩:=ih hl
    refine⟨by simp[h1],fun i x hx=>?_⟩
    cases i with
    |zero=>simp at hx;subst hx;exact⟨b,by simp,ha⟩
    |succ i=>simp at hx;obtain⟨y,k1,k2⟩:=h2 i x hx;exact⟨y,by simpa using k1,k2⟩
section
variable{P:Program}{w:World}{H:Type}{enc:TypeId×Value→H}{base:Nat}{sp:Nat→Bool}{held:Bool}
theorem VD{a:Addr}{n:Nat}{cs:List Value}(h:w.cells? base a n=some cs):cs.length=n∧∀(j:Nat) c,cs[j]?=some c→w.cell? (a.add j)=some c:=by
 unfold World.cells? at h
 split at h
 ·obtain⟨h1,h2⟩:=a16 h
  refine⟨by simpa using h1,fun j c hj=>?_⟩
  have hlt:j<n:=by have:=(List.getElem?_eq_some_iff.1 hj).1;rw[h1]at this;simpa using this
  obtain⟨y,k1,k2⟩:=h2 j j (by simp[hlt])
  rw[hj]at k1
  cases k1
  exact k2
 ·cases h
theorem aCk{k:IntKind}{n:Int}(h:(Lit.int k n).wf=true):rC k n:=by
 simpa[Lit.wf,rC]using h
theorem a3d:∀(fuel:Nat) {t:TypeId} {cs:List Value} {d:DataW H} {ps:List MemPlace} {n:Nat} {shs:List Sh},
 DataW.trod enc P w base sp held fuel t cs=some (d,ps)→B8 P n t=some shs→∃ds bs,jN w cs ds bs∧mS shs ds:=by
 intro fuel
 induction fuel with
 |zero=>intro t cs d ps n shs h;simp[DataW.trod]at h
 |succ fuel ih=>
  intro t cs d ps n shs h hf
  cases n with
  |zero=>simp[B8]at hf
  |succ n=>
   simp only[B8]at hf
   simp only[DataW.trod]at h
   split at hf
   ·rename_i hu
    cases hf
    simp only[hu]at h
    split at h<;>rename_i h1<;>try(simp at h1;done)
    all_goals try(cases h;done)
    all_goals simp at h1
    exact⟨[.bool _],[],.cons _ _ _ _ [] [] rfl (.bool _) .nil,.cons _ _ _ _ (.bool _) .nil⟩
   ·rename_i k hu
    cases hf
    simp only[hu]at h
    split at h<;>rename_i h1<;>try(simp at h1;done)
    all_goals try(cases h;done)
    all_goals simp at h1
    rename_i k1 k2 m _
    subst h1
    split at h
    ·rename_i hc
     obtain⟨rfl,hwf⟩:=hc
     exact⟨[.int _ _],[],.cons _ _ _ _ [] [] rfl (.int _ _ (aCk hwf)) .nil,.cons _ _ _ _ (.int _ _) .nil⟩
    ·cases h
   ·rename_i hu
    cases hf
    simp only[hu]at h
    split at h<;>rename_i h1<;>try(simp at h1;done)
    all_goals try(cases h;done)
    all_goals simp at h1
    split at h
    ·rename_i hc
     exact⟨[.str _],[],.cons _ _ _ _ [] [] rfl (.str _ hc) .nil,.cons _ _ _ _ (.str _) .nil⟩
    ·cases h
   ·rename_i e hu
    cases hr:B8 P n e with
    |none=>simp[hr]at hf
    |some r=>
     simp only[hr,Option.bind_some]at hf
     split at hf
     ·rename_i hsz
      cases hf
      simp only[hu]at h
      split at h<;>rename_i h1<;>try(simp at h1;done)
      all_goals try(cases h;done)
      all_goals simp at h1
      ·exact⟨[.sl []],[],.cons _ _ _ _ [] [] rfl .z6 .nil,.cons _ _ _ _ (.sl _ _ (by simp)) .nil⟩
      ·rename_i a len cap
       try subst h1
       split at h
       ·rename_i hc
        cases hm:(List.range len).mapM (fun i=>(w.cells? base (a.add (i*P.cellsOf e)) (P.cellsOf e)).bind (DataW.trod enc P w base sp held fuel e))with
        |none=>simp[hm]at h
        |some elems=>
         obtain⟨_,hall⟩:=a16 hm
         have hel:∀i,i<len→∃cs ds bs,w.cells? base (a.add (i*P.cellsOf e)) (P.cellsOf e)=some cs∧jN w cs ds bs∧mS r ds:=by
          intro i hi
          obtain⟨y,_,hy⟩:=hall i i (by simp[hi])
          obtain⟨cs,hcs,hy⟩:=Option.bind_eq_some_iff.1 hy
          obtain⟨ds,bs,k1,k2⟩:=ih (d:=y.1) (ps:=y.2) hy hr
          exact⟨cs,ds,bs,hcs,k1,k2⟩
         by_cases hl0:len=0
         ·subst hl0
          exact⟨[.sl []],[],.cons _ _ _ _ [] [] rfl (.mT a cap hc.2.2) .nil,.cons _ _ _ _ (.sl _ _ (by simp)) .nil⟩
         ·
          obtain⟨cs0,ds0,bs0,a6D,hr0,aIo⟩:=hel 0 (by omega)
          obtain⟨hl1,hat⟩:=VD a6D
          have hpos:0<cs0.length:=by rw[hl1];omega
          have hc0:=hat 0 cs0[0] (List.getElem?_eq_getElem hpos)
          have ha0:(a.add (0*P.cellsOf e)).add 0=a:=by simp[Addr.add]
          rw[ha0]at hc0
          obtain⟨b,off,spot⟩:=a
          have aFC:spot=none:=by
           cases spot with
           |none=>rfl
           |some x=>
            unfold World.cell? at hc0
            split at hc0
            ·simp at hc0
            ·cases hc0
          subst aFC
          have hb:b<w.heap.size:=World.block_lt_of_cell? w _ hc0
          have build:∀m,m≤len→∃(rows:List (List D)) (cs:List Value) (bs:List Nat),rows.length=m∧cs.length=m*P.cellsOf e∧(∀(j:Nat) c,cs[j]?=some c→w.cell? ⟨b,off+j,none⟩=some c)∧
           jN w cs rows.flatten bs∧∀x∈rows,mS r x:=by
           intro m
           induction m with
           |zero=>intro _;exact⟨[],[],[],rfl,by simp,by simp,.nil,by simp⟩
           |succ m ihm=>
            intro hm1
            obtain⟨rows,cs,bs,q1,q2,q3,q4,q5⟩:=ihm (by omega)
            obtain⟨cs',ds',bs',g1,g2,g3⟩:=hel m (by omega)
            obtain⟨g4,g5⟩:=VD g1
            refine⟨rows++[ds'],cs++cs',bs++bs',by simp[q1],by simp[q2,g4,Nat.add_mul],?_,?_,?_⟩
            ·intro j c hj
             by_cases hlt:j<cs.length
             ·rw[List.getElem?_append_left hlt]at hj
              exact q3 j c hj
             ·rw[List.getElem?_append_right (by omega)]at hj
              have:=g5 _ c hj
              rw[Addr.add_lit,Addr.add_lit,q2]at this
              have e1:off+m*P.cellsOf e+(j-m*P.cellsOf e)=off+j:=by omega
              rw[e1]at this
              exact this
            ·rw[List.flatten_append]
             have:=q4.app g2
             simpa using this
            ·intro x hx
             rcases List.mem_append.1 hx with hx|hx
             ·exact q5 x hx
             ·simp at hx;subst hx;exact g3
          obtain⟨rows,cs,bs,q1,q2,q3,q4,q5⟩:=build len (Nat.le_refl _)
          subst q1
          refine⟨[.sl rows],b::bs,?_,.cons _ _ _ _ (.sl _ _ q5) .nil⟩
          have:=jN.cons (w:=w) _ [] _ [] _ [] rfl (Rd.sl b off cap r.length rows cs bs hb hc.2.1 hc.2.2 (fun x hx=>(q5 x hx).length) q3 q4) .nil
          simpa using this
       ·cases h
     ·cases hf
   ·rename_i fs hu
    cases hr:fs.toList.mapM (fun f=>B8 P n f.type)with
    |none=>simp[hr]at hf
    |some rs=>
     simp only[hr,Option.bind_some]at hf
     split at hf
     ·rename_i hok
      cases hf
      simp only[hu]at h
      split at h
      ·rename_i hlen
       cases hm:fs.toList.mapM (fun f=>DataW.trod enc P w base sp held fuel f.type ((cs.drop f.offset).take (P.cellsOf f.type)))with
       |none=>simp[hm]at h
       |some xs=>
        have go:∀(fl:List Field) (rl:List (List Sh)) (xl:List (DataW H×List MemPlace)) (off:Nat),fl.mapM (fun f=>B8 P n f.type)=some rl→
         fl.mapM (fun f=>DataW.trod enc P w base sp held fuel f.type ((cs.drop f.offset).take (P.cellsOf f.type)))=some xl→Z6 P off fl rl=true→
         ∃ds bs,jN w ((cs.drop off).take rl.flatten.length) ds bs∧mS rl.flatten ds:=by
         intro fl
         induction fl with
         |nil=>
          intro rl xl off h1 _ _
          simp at h1
          subst h1
          exact⟨[],[],by simpa using jN.nil,.nil⟩
         |cons f fl ihf=>
          intro rl xl off h1 h2 h3
          simp only[List.mapM_cons,Option.bind_eq_bind,Option.pure_def]at h1 h2
          cases a1:B8 P n f.type with
          |none=>simp[a1]at h1
          |some r1=>
           cases a2:fl.mapM (fun f=>B8 P n f.type)with
           |none=>simp[a1,a2]at h1
           |some rl'=>
            simp[a1,a2]at h1
            subst h1
            cases b1:DataW.trod enc P w base sp held fuel f.type ((cs.drop f.offset).take (P.cellsOf f.type))with
            |none=>simp[b1]at h2
            |some x1=>
             cases b2:fl.mapM (fun f=>DataW.trod enc P w base sp held fuel f.type ((cs.drop f.offset).take (P.cellsOf f.type)))with
             |none=>simp[b1,b2]at h2
             |some xl'=>
              simp only[Z6,Bool.and_eq_true,beq_iff_eq]at h3
              obtain⟨⟨o1,o2⟩,o3⟩:=h3
              obtain⟨ds1,bs1,k1,k2⟩:=ih (d:=x1.1) (ps:=x1.2) b1 a1
              obtain⟨ds2,bs2,k3,k4⟩:=ihf rl' xl' (off+r1.length) a2 b2 o3
              refine⟨ds1++ds2,bs1++bs2,?_,by simpa using k2.app k4⟩
              have e1:(cs.drop off).take (r1::rl').flatten.length=(cs.drop f.offset).take (P.cellsOf f.type)++(cs.drop (off+r1.length)).take rl'.flatten.length:=by
               rw[o1,←o2,List.flatten_cons,List.length_append,←List.drop_drop,List.take_add]
              rw[e1]
              exact k1.app k3
        obtain⟨ds,bs,k1,k2⟩:=go fs.toList rs xs 0 hr hm hok.1
        rw[List.drop_zero,hok.2,←hlen,List.take_length]at k1
        exact⟨ds,bs,k1,k2⟩
      ·cases h
     ·cases hf
   ·cases hf
def a2e(P:Program)(n:Nat)(t:TypeId)(d:D):Prop:=
 (zP P t=some true∧∃shs cells,B8 P n t=some shs∧d=.agg cells∧mS shs cells)∨(zP P t=some false∧∃sh,B8 P n t=some [sh]∧VC sh d)
inductive X6(P:Program)(n:Nat):List TypeId→List D→Prop
 |nil:X6 P n [] []
 |cons (t:TypeId) (ts:List TypeId) (d:D) (ds:List D):a2e P n t d→X6 P n ts ds→X6 P n (t::ts) (d::ds)
def a17(P:Program)(n:Nat)(t:TypeId):Bool:=
 match zP P t,B8 P n t with
 |some true,some _=>(match P.underlying t with|some (.struct _)=>true|_=>false)
 |some false,some [_]=>true
 |_,_=>false
theorem a84{n:Nat}{t:TypeId}{v:Value}{d:DataW H}{ps:List MemPlace}(hok:a17 P n t=true)(hval:Value.okWide P w .any base t v)(h:DataW.Trod enc P w 0 sp held t v d ps):
 ∃x bs,Rd w v x bs∧a2e P n t x:=by
 obtain⟨fuel,h⟩:=h
 unfold a17 at hok
 split at hok
 ·rename_i shs ht hf
  split at hok
  ·rename_i fs hu
   unfold Value.okWide at hval
   simp only[hu]at hval
   obtain⟨cs,rfl,_⟩:=hval
   obtain⟨ds,bs,k1,k2⟩:=a3d fuel h hf
   refine⟨.agg ds,bs,?_,.inl ⟨ht,shs,ds,hf,rfl,k2⟩⟩
   have:=Rd.agg (w:=w) cs.toList ds bs k1
   simpa using this
  ·cases hok
 ·rename_i sh ht hf
  have hone:v.oneCell'=true:=by
   unfold zP at ht
   split at ht<;>first
    | (cases ht;done)
    |skip
   rename_i dsc h1 h2 hu
   unfold Value.okWide at hval
   rw[hu]at hval
   cases v with
   |agg cs=>
    cases dsc<;>first
     | (exfalso;exact h1 _ rfl)
     | (exfalso;exact h2 _ _ rfl)
     | (simp[Cell.okWide,Cell.ok,hu]at hval)
   |tuple vs=>
    cases dsc<;>first
     | (exfalso;exact h1 _ rfl)
     | (exfalso;exact h2 _ _ rfl)
     | (simp[Cell.okWide,Cell.ok,hu]at hval)
   |_=>rfl
  rw[VY hone]at h
  obtain⟨ds,bs,k1,k2⟩:=a3d fuel h hf
  cases k2 with
  |cons _ _ x ds' hx hn=>
   cases hn
   cases k1 with
   |cons _ _ _ _ b1 b2 _ hrd hn=>exact⟨x,b1,hrd,.inr ⟨ht,sh,hf,hx⟩⟩
 ·cases hok
theorem a50{n:Nat}:∀ {ts:List TypeId} {vs:List Value} {ds:List (DataW H)} {ps:List MemPlace},(∀t∈ts,a17 P n t=true)→
 (∀(j:Nat) t v,ts[j]?=some t→vs[j]?=some v→Value.okWide P w .any base t v)→DataW.TrodAll enc P w 0 sp held ts vs ds ps→
 ∃xs bs,Rda w vs xs bs∧X6 P n ts xs∧ds.length=ts.length:=by
 intro ts
 induction ts with
 |nil=>
  intro vs ds ps _ _ h
  cases vs with
  |nil=>cases ds with
   |nil=>exact⟨[],[],.nil,.nil,rfl⟩
   |cons=>cases h
  |cons=>cases ds<;>cases h
 |cons t ts ih=>
  intro vs ds ps hok hval h
  cases vs with
  |nil=>cases h
  |cons v vs=>
   cases ds with
   |nil=>cases h
   |cons d ds=>
    obtain⟨p,q,h1,h2,rfl⟩:=h
    obtain⟨x,b1,k1,k2⟩:=a84 (hok t (by simp)) (hval 0 t v rfl rfl) h1
    obtain⟨xs,b2,k3,k4,k5⟩:=ih (fun u hu=>hok u (by simp[hu])) (fun j u y hj hv=>hval (j+1) u y (by simpa using hj) (by simpa using hv)) h2
    exact⟨x::xs,b1++b2,.cons _ _ _ _ _ _ k1 k3,.cons _ _ _ _ k2 k4,by simp[k5]⟩
theorem VW{W W':World}(hl:laidOutB P=true)(hb:Below W.heap.size W W')(spn:Nat→Bool):∀ {ts:List TypeId} {vs:List Value} {ds:List (DataW H)} {ps:List MemPlace},
 (∀t∈ts,P.readableRec t=true∧t<P.types.size)→DataW.TrodAll enc P W 0 (fun _=>true) true ts vs ds ps→(∀x∈ps,x.block<W.heap.size)→(∀x∈ps,spn x.block=true)→
 DataW.TrodAll enc P W' 0 spn true ts vs ds ps:=by
 intro ts
 induction ts with
 |nil=>intro vs ds ps _ h _ _;cases vs<;>cases ds<;>first|exact h|cases h
 |cons t ts ih=>
  intro vs ds ps ht h hlt hsp
  cases vs with
  |nil=>cases h
  |cons v vs=>
   cases ds with
   |nil=>cases h
   |cons d ds=>
    obtain⟨p,q,h1,h2,rfl⟩:=h
    refine⟨p,q,?_,ih (fun u hu=>ht u (by simp[hu])) h2 (fun x hx=>hlt x (by simp[hx])) (fun x hx=>hsp x (by simp[hx])),rfl⟩
    exact WideElems.Trod_stays hl (ht t (by simp)).1 (ht t (by simp)).2 h1 (fun x hx=>hb.same (hlt x (by simp[hx]))) (fun x hx=>hsp x (by simp[hx]))
theorem DA.wA{w:World}{v:Value}{b:Bool}{bs ts us:List Nat}(h:DA w v (.bool b) bs ts us):v=.bool b:=by
 cases h with|v h=>cases h with|cell h=>cases h with|pure h=>cases h;rfl
theorem Z7{f:FuncId}{fn:Func}{s:ChangeSpec}{n rt:Nat}{W:World}{args:Array Value}{ds gs:List (DataW H)}{before:List MemPlace}
 (hl:laidOutB P=true) (a3e:∀t∈fn.params.toList,a17 P n t=true∧P.readableRec t=true∧t<P.types.size) (hres:fn.resultTypes= #[rt]) (hrt:P.underlying rt=some .bool)
 (hv:s.vars=[]) (hfn:∀ds:List (DataW H),ds.length=fn.params.toList.length→s.fn H ds= {results:=[.lit (.bool true)],args:=ds})
 (hvs:T4 W fun _=>False) (mX:∀xs,X6 P n fn.params.toList xs→Good P f xs (.bool true))
 (hval:∀(j:Nat) t v,fn.params[j]?=some t→args[j]?=some v→Value.okWide P W .any base t v)
 (hW:DataW.Whole enc P fn.params.toList s.vars false W args.toList ds gs before):
 Calls P f args W fun e W'=>∃v,e=.returned v∧s.post enc P fn false true false false W args v W':=by
 have hW':=hW
 obtain⟨p,q,hA,hV,hpq,hz,_⟩:=hW
 have hgs:gs=[]∧q=[]:=by
  rw[hv]at hV
  cases gs with
  |nil=>exact⟨rfl,hV⟩
  |cons=>cases hV
 obtain⟨rfl,rfl⟩:=hgs
 rw[List.append_nil]at hpq
 subst hpq
 obtain⟨xs,bs,k1,k2,k3⟩:=a50 (fun t ht=>(a3e t ht).1) (fun j t v hj hv=>hval j t v (by simpa using hj) (by simpa using hv)) hA
 have hc:=(mX xs k2).2 W (fun _=>0) args.toList bs hvs k1 (fun _ _=>rfl) (fun b hb=>absurd rfl hb) (fun _=>Nat.zero_le _)
 rw[Array.toArray_toList]at hc
 refine hc.mono ?_
 rintro e W' ⟨v,bs',ts,us,rfl,hb,hr,_⟩
 refine⟨v,rfl,?_⟩
 obtain rfl:=hr.wA
 have hlt:=hW'.lt
 have hfd:=hfn ds k3
 have a86:∀(b:Nat) (sp:Nat→Bool) (hd:Bool),DataW.TrodAll enc P W' b sp hd fn.resultTypes.toList ((Value.bool true).resultList fn.resultTypes.size) [.lit (.bool true)] []:=by
  intro b sp hd
  rw[hres]
  exact⟨[],[],⟨1,by simp[DataW.trod,hrt,Value.cells]⟩,rfl,rfl⟩
 have hargs:∀spn:Nat→Bool,(∀x∈before,spn x.block=true)→DataW.TrodAll enc P W' 0 spn true fn.params.toList args.toList ds before:=
  fun spn hsp=>VW hl hb spn (fun t ht=>(a3e t ht).2) hA hlt hsp
 have hvars:∀spn:Nat→Bool,DataW.TrodVars enc P W' spn s.vars [] []:=fun spn=>by rw[hv];rfl
 unfold ChangeSpec.post
 refine⟨ds,[],before,[],before,[],hW',?_,?_,?_,hb.frame _,fun h=>by cases h⟩
 ·rw[List.append_nil,hfd];exact a86 _ _ _
 ·rw[List.append_nil,hfd];exact hargs _ (fun x hx=>by simpa using hlt x hx)
 ·rw[List.append_nil,hfd];exact hvars _
end
end Go.Cx
namespace Go.Cx
set_option linter.unusedVariables false
set_option linter.unusedSimpArgs false
open Go.RowKit
theorem a52{α:Type}{c:α→List D}{row:List Sh}(hc:∀r,mS row r→∃x,r=c x):∀ {rows:List (List D)},(∀r∈rows,mS row r)→∃l:List α,rows=l.map c:=by
 intro rows
 induction rows with
 |nil=>intro _;exact⟨[],rfl⟩
 |cons r rows ih=>
  intro h
  obtain⟨x,rfl⟩:=hc r (h r (by simp))
  obtain⟨l,rfl⟩:=ih (fun s hs=>h s (by simp[hs]))
  exact⟨x::l,rfl⟩
theorem pM{α:Type}{c:α→List D}{row:List Sh}(hc:∀r,mS row r→∃x,r=c x){d:D}(h:VC (.sl row) d):∃l:List α,d=.sl (l.map c):=by
 cases h with
 |sl _ rows hr=>
  obtain⟨l,rfl⟩:=a52 hc hr
  exact⟨l,rfl⟩
theorem qR{d:D}(h:VC .str d):∃s,d=.str s:=by cases h;exact⟨_,rfl⟩
theorem yJ{k:IntKind}{d:D}(h:VC (.int k) d):∃n,d=.int k n:=by cases h;exact⟨_,rfl⟩
theorem b7{s:Sh}{ss:List Sh}{ds:List D}(h:mS (s::ss) ds):∃d r,ds=d::r∧VC s d∧mS ss r:=by
 cases h with|cons _ _ d r h1 h2=>exact⟨d,r,rfl,h1,h2⟩
theorem qS{ds:List D}(h:mS [] ds):ds=[]:=by cases h;rfl
theorem QM(r:List D)(h:mS [.str] r):∃s,r=tx s:=by
 obtain⟨_,_,rfl,h1,h⟩:=b7 h
 cases qS h
 obtain⟨s,rfl⟩:=qR h1
 exact⟨s,rfl⟩
theorem a9m(r:List D)(h:mS [.int .i64] r):∃s,r=iL s:=by
 obtain⟨_,_,rfl,h1,h⟩:=b7 h
 cases qS h
 obtain⟨s,rfl⟩:=yJ h1
 exact⟨s,rfl⟩
abbrev Z8:List Sh:=[.str,.sl [.str]]
theorem RS(r:List D)(h:mS Z8 r):∃x:aD,r=x.c:=by
 obtain⟨_,_,rfl,h1,h⟩:=b7 h
 obtain⟨_,_,rfl,h2,h⟩:=b7 h
 cases qS h
 obtain⟨a,rfl⟩:=qR h1
 obtain⟨b,rfl⟩:=pM QM h2
 exact⟨⟨a,b⟩,rfl⟩
abbrev a88:List Sh:=[.str,.str]
theorem a54(r:List D)(h:mS a88 r):∃x:aH,r=x.c:=by
 obtain⟨_,_,rfl,h1,h⟩:=b7 h
 obtain⟨_,_,rfl,h2,h⟩:=b7 h
 cases qS h
 obtain⟨a,rfl⟩:=qR h1
 obtain⟨b,rfl⟩:=qR h2
 exact⟨⟨a,b⟩,rfl⟩
abbrev a89:List Sh:=[.int .i64,.str,.sl [.str],.str,.str]
theorem a55(r:List D)(h:mS a89 r):∃x:aF,r=x.c:=by
 obtain⟨_,_,rfl,h1,h⟩:=b7 h
 obtain⟨_,_,rfl,h2,h⟩:=b7 h
 obtain⟨_,_,rfl,h3,h⟩:=b7 h
 obtain⟨_,_,rfl,h4,h⟩:=b7 h
 obtain⟨_,_,rfl,h5,h⟩:=b7 h
 cases qS h
 obtain⟨a,rfl⟩:=yJ h1
 obtain⟨b,rfl⟩:=qR h2
 obtain⟨c,rfl⟩:=pM QM h3
 obtain⟨d,rfl⟩:=qR h4
 obtain⟨e,rfl⟩:=qR h5
 exact⟨⟨a,⟨b,c⟩,d,e⟩,rfl⟩
abbrev a18:List Sh:=[.int .i64,.str,.sl [.str]]
theorem a19(r:List D)(h:mS a18 r):∃x:Action,r=x.c:=by
 obtain⟨_,_,rfl,h1,h⟩:=b7 h
 obtain⟨_,_,rfl,h2,h⟩:=b7 h
 obtain⟨_,_,rfl,h3,h⟩:=b7 h
 cases qS h
 obtain⟨a,rfl⟩:=yJ h1
 obtain⟨b,rfl⟩:=qR h2
 obtain⟨c,rfl⟩:=pM QM h3
 exact⟨⟨a,⟨b,c⟩⟩,rfl⟩
abbrev a8A:List Sh:=[.str,.int .i64,.sl a89,.sl a18]
theorem a56(r:List D)(h:mS a8A r):∃x:aI,r=x.c:=by
 obtain⟨_,_,rfl,h1,h⟩:=b7 h
 obtain⟨_,_,rfl,h2,h⟩:=b7 h
 obtain⟨_,_,rfl,h3,h⟩:=b7 h
 obtain⟨_,_,rfl,h4,h⟩:=b7 h
 cases qS h
 obtain⟨a,rfl⟩:=qR h1
 obtain⟨b,rfl⟩:=yJ h2
 obtain⟨c,rfl⟩:=pM a55 h3
 obtain⟨d,rfl⟩:=pM a19 h4
 exact⟨⟨a,b,c,d⟩,rfl⟩
abbrev a3f:List Sh:=[.sl Z8,.sl a88]
theorem a2f(r:List D)(h:mS a3f r):∃x:aL,r=x.c:=by
 obtain⟨_,_,rfl,h2,h⟩:=b7 h
 obtain⟨_,_,rfl,h3,h⟩:=b7 h
 cases qS h
 obtain⟨b,rfl⟩:=pM RS h2
 obtain⟨c,rfl⟩:=pM a54 h3
 exact⟨⟨b,c⟩,rfl⟩
abbrev a3g:List Sh:=[.str,.sl [.str],.sl Z8]
theorem a2g(r:List D)(h:mS a3g r):∃x:aN,r=x.c:=by
 obtain⟨_,_,rfl,h1,h⟩:=b7 h
 obtain⟨_,_,rfl,h2,h⟩:=b7 h
 obtain⟨_,_,rfl,h3,h⟩:=b7 h
 cases qS h
 obtain⟨v0,rfl⟩:=qR h1
 obtain⟨v1,rfl⟩:=pM QM h2
 obtain⟨v2,rfl⟩:=pM RS h3
 exact⟨⟨⟨v0,v1⟩,v2⟩,rfl⟩
abbrev a8B:List Sh:=[.int .i64,.int .i64,.str,.sl [.str],.str,.str,.int .i64,.sl a3f]
theorem a57(r:List D)(h:mS a8B r):∃x:Node,r=x.c:=by
 obtain⟨_,_,rfl,h1,h⟩:=b7 h
 obtain⟨_,_,rfl,h2,h⟩:=b7 h
 obtain⟨_,_,rfl,h3,h⟩:=b7 h
 obtain⟨_,_,rfl,h4,h⟩:=b7 h
 obtain⟨_,_,rfl,h5,h⟩:=b7 h
 obtain⟨_,_,rfl,h6,h⟩:=b7 h
 obtain⟨_,_,rfl,h7,h⟩:=b7 h
 obtain⟨_,_,rfl,h8,h⟩:=b7 h
 cases qS h
 obtain⟨v0,rfl⟩:=yJ h1
 obtain⟨v1,rfl⟩:=yJ h2
 obtain⟨v2,rfl⟩:=qR h3
 obtain⟨v3,rfl⟩:=pM QM h4
 obtain⟨v4,rfl⟩:=qR h5
 obtain⟨v5,rfl⟩:=qR h6
 obtain⟨v6,rfl⟩:=yJ h7
 obtain⟨v7,rfl⟩:=pM a2f h8
 exact⟨⟨v0,⟨v1,⟨v2,v3⟩,v4,v5⟩,v6,v7⟩,rfl⟩
abbrev a58:List Sh:=[.sl a8A,.sl [.int .i64],.sl a3g,.sl a8B,.sl Z8,.int .i64]
theorem Z9(r:List D)(h:mS a58 r):∃x:aG,r=x.c:=by
 obtain⟨_,_,rfl,h1,h⟩:=b7 h
 obtain⟨_,_,rfl,h2,h⟩:=b7 h
 obtain⟨_,_,rfl,h3,h⟩:=b7 h
 obtain⟨_,_,rfl,h4,h⟩:=b7 h
 obtain⟨_,_,rfl,h5,h⟩:=b7 h
 obtain⟨_,_,rfl,h6,h⟩:=b7 h
 cases qS h
 obtain⟨v0,rfl⟩:=pM a56 h1
 obtain⟨v1,rfl⟩:=pM a9m h2
 obtain⟨v2,rfl⟩:=pM a2g h3
 obtain⟨v3,rfl⟩:=pM a57 h4
 obtain⟨v4,rfl⟩:=pM RS h5
 obtain⟨v5,rfl⟩:=yJ h6
 exact⟨⟨v0,v1,v2,v3,v4,v5⟩,rfl⟩
section
variable{P:Program}{n:Nat}{t:TypeId}{d:D}
theorem a2e.struct{α:Type}{c:α→List D}{shs:List Sh}(hc:∀r,mS shs r→∃x,r=c x)(ha:zP P t=some true)(hf:B8 P n t=some shs)(h:a2e P n t d):∃x,d=.agg (c x):=by
 rcases h with⟨_,aIv,cells,h1,rfl,h2⟩|⟨h1,_⟩
 ·rw[hf]at h1;cases h1
  obtain⟨x,rfl⟩:=hc _ h2
  exact⟨x,rfl⟩
 ·rw[ha]at h1;cases h1
theorem a2e.cell{sh:Sh}(ha:zP P t=some false)(hf:B8 P n t=some [sh])(h:a2e P n t d):VC sh d:=by
 rcases h with⟨h1,_⟩|⟨_,sh',h1,h2⟩
 ·rw[ha]at h1;cases h1
 ·rw[hf]at h1;cases h1
  exact h2
end
end Go.Cx
namespace Go.Cx
open Go.ChangeShapes Go.WideShapes Go.ChangeAt Go.RowKit
set_option linter.unusedVariables false
def jp0(P:Program)(f:FuncId)(fn:Func)(s:ChangeSpec)(c:OpenClaim):Bool:=(c.wf (OpenSpec.ofChange s)&&laidOutB P&&mapsRowed P)
def jp1(P:Program)(f:FuncId)(fn:Func)(s:ChangeSpec)(c:OpenClaim):Bool:=(fn.params.all (P.readableRec ·)&&namedTie P c.named s.vars)&&((c.stops==[])&&(P.stops==[])&&(c.knobs==[])&&(P.stopKnobs==[]))&&((c.maps==(fn.params.toList++s.plain.varTypes P).any (P.mapsRec ·))&&(c.ifaces==(fn.params.toList++s.plain.varTypes P).any (P.ifacesRec ·))&&(c.mapsOut==P.mapsAmong fn.resultTypes.toList))&&((c.loops==(fn.params.toList++s.plain.varTypes P).any (P.loopsFrom ·))&&(c.wideKeys==(fn.params.toList++s.plain.varTypes P++fn.resultTypes.toList).any (P.wideKeysFrom ·)))&&(s.vars.all (P.varReadable ·)&&fn.resultTypes.all (fun t=>P.readableRec t&&decide (t<P.types.size))&&(c.ifacesOut==fn.resultTypes.toList.any (P.ifacesRec ·))&&(c.loopsOut==fn.resultTypes.toList.any (P.loopsFrom ·)))&&((c.kinds==(if c.domain.isEmpty then []else fn.params.toList.map fun t=>match P.underlying t with|some (.int k)=>some k|_=>none))&&(c.pinned==c.pinnedBy))&&((c.veiled==(fn.params.toList++s.plain.varTypes P++fn.resultTypes.toList).any (P.veiledRec ·))&&c.veiledFits P fn.params.toList (fn.params.toList++s.plain.varTypes P++fn.resultTypes.toList))
def jp2(P:Program)(f:FuncId)(fn:Func)(s:ChangeSpec)(c:OpenClaim):Bool:=(c.inPlace==P.inPlace f)&&(c.unfollowed==P.unfollowed f)&&(c.recurses==P.recurses f)&&(c.named==P.varsNamed f)
def jp3(P:Program)(f:FuncId)(fn:Func)(s:ChangeSpec)(c:OpenClaim):Bool:=(c.plainKeys==P.plainKeys)&&(c.shortTexts.isNone&&P.stopsHeard)&&(P.mayEnter)&&(c.lifted==P.liftsFinal)&&(P.make==some c.make)
theorem a5A{P:Program}{f:FuncId}{fn:Func}{s:ChangeSpec}{c:OpenClaim}(h0:jp0 P f fn s c=true)(h1:jp1 P f fn s c=true)(h2:jp2 P f fn s c=true)(h3:jp3 P f fn s c=true):joinedFacts P f fn s c=true:=by
 unfold jp0 at h0
 unfold jp1 at h1
 unfold jp2 at h2
 unfold jp3 at h3
 unfold joinedFacts
 simp only[Bool.and_eq_true]at h0 h1 h2 h3⊢
 obtain⟨⟨aIw,aIx⟩,aIy⟩:=h0
 obtain⟨⟨⟨⟨⟨⟨⟨aIz,aJ0⟩,⟨⟨⟨aJ1,aJ2⟩,aJ3⟩,aJ4⟩⟩,⟨⟨aJ5,aJ6⟩,aJ7⟩⟩,⟨aJ8,aJ9⟩⟩,⟨⟨⟨aJA,aJB⟩,aJC⟩,aJD⟩⟩,⟨aHo,aHp⟩⟩,⟨aHq,aHr⟩⟩:=h1
 obtain⟨⟨⟨aJE,aJF⟩,aJG⟩,aJH⟩:=h2
 obtain⟨⟨⟨⟨aHs,⟨aHt,aHu⟩⟩,aHv⟩,aHw⟩,aHx⟩:=h3
 and_intros<;>assumption
end Go.Cx
