/- The abstract walk as a function: it runs straight code on an abstract state, takes its answers (tests, rows, results of calls) off a list, and tells what is owed for them. No condition; plain lemmas. -/
import Derived.Test.YtcmgbmkjnekbkaaGreatDoorPEmptyNetworkG2
import Derived.Laws.BytesArg
import Derived.LoopN
import Derived.Test.YtcmgbmkjnekbkaaGreatDoorProg
import Derived.KernelRfl
set_option linter.unusedVariables false
set_option linter.unusedSimpArgs false
namespace Go.Cx
open Go.RowKit
inductive An where
 |b (v:Bool)
 |row (r:aK)
 |ix (i:Nat)
 |ch (x:UInt8)
 |cut (l h:Nat)
 |d (x:D)
 |fl (v:Bool)
 |n (k:Nat)
 |n2 (π ρ:aP) (k m:Nat) (L X:aP)
 |sk (id:Nat)
 |KE (t:Nat)
 |pb (id off e sz:Nat)
 |vw (t:Nat)
 |cn (K o:aP)
 |hl (m:Nat) (K o:aP)
 |mu (id:Nat) (rows:List aK)
 |dc (x:D)
 |gv (ms:aP) (outs:List Rw) (d:D)
 |mg (id i off:Nat) (r:aK)
 |ov (id:Nat) (rows:List aK)
 |kv (m:List (D×D))
 |gp (nz:List (List (Option (Nat×Nat)))) (cells:aK) (d:D)
 |dn (cells:aK)
 |fz
 |nl (x:D)
 |ds (x:D)
 |mz (id:Nat)
 |tk (r:aK)
 |gf (nz:List (List (Option (Nat×Nat)))) (d:D)
abbrev yc:=List Prop
def tP:yc->Prop
 | []=>True
 |p::ps=>p/\tP ps
theorem tP.app{p q:yc}(h:tP (p++q)):tP p/\tP q:=by
 induction p with
 |nil=>exact⟨trivial,h⟩
 |cons x p ih=>exact⟨⟨h.1,(ih h.2).1⟩,(ih h.2).2⟩
def DJ(P:Program)(st:St)(op:Op)(A:List An):Option (D×List An×yc):=match op with
 | .indexAddr t x i=>(match CL P t,st.ev x,st.ev i,A with
  |some (_,sz),.sl rows,.int _ n,.row r::A=>some (.ep r 0,A,[0<=n/\rows[n.toNat]?=some r/\r.length=sz])
  |some (_,sz),.acc id,.int _ n,.ix k::A=>(match st.H[id]? with|some (.row _ _ sz' rows)=>some (.op id k sz 0,A,[sz=sz'/\n=(k:Int)/\k<rows.length])|_=>none)
  |_,.val (.pointer (some ⟨g,o,none⟩)),.int _ n,.ix k::A=>(match Yp P t with|some (sz,len)=>some (.val (.pointer (some ⟨g,o+k*sz,none⟩)),A,[n=(k:Int)/\k<len])|none=>none)
  |_,_,_,_=>none)
 | .index t x i=>(match Gp P t,st.ev x,st.ev i,A with
  |true,.str s,.int _ n,.ch c::A=>some (.int .u8 c.toNat,A,[0<=n/\s[n.toNat]?=some c])
  |_,_,_,_=>none)
 | .load t x=>(match st.ev x with
  | .op id i sz off=>(match wU P t,st.H[id]?,A with
   |some ag,some (.row k _ sz' rows),.row r::A=>(match DW ag (vV P t) r off with
    |some d=>some (d,A,[sz'=sz/\k.L8=true/\rows[i]?=some r/\off+(bif ag then vV P t else 1)<=sz])
    |none=>none)
   |_,_,_=>none)
  | .val (.pointer (some ⟨g,o,none⟩))=>(match wU P t,A with
   |some false,.d d::A=>some (d,A,[Pr g o=some d])
   |_,_=>none)
  |_=>(match pv P st op with|some d=>some (d,A,[])|none=>none))
 | .slice t x lo hi none=>(match st.ev x,A with
  | .str s,.cut l h::A=>(match Gp P t with
   |true=>some (.str ((s.take h).drop l),A,[HY s.length (lo.map st.ev) (hi.map st.ev)=some (l,h)])
   |false=>none)
  | .sl rows,.cut l h::A=>(match CL P t with
   |some (_,sz)=>some (.sl ((rows.take h).drop l),A,[HY rows.length (lo.map st.ev) (hi.map st.ev)=some (l,h)/\(rows.all fun r=>r.length==sz)=true])
   |none=>none)
  |_,_=>none)
 | .binOp op' t x y t'=>(match op',st.ev x,st.ev y with
  | .add,.str a,.str b=>some (.str (a++b),A,[a.length+b.length<=maxLen])
  | .quo,.int k a,.int k' b=>some (.int k (a/b),A,[k=k'/\0<=a/\0<b])
  | .rem,.int k a,.int k' b=>some (.int k (a%b),A,[k=k'/\0<=a/\0<b])
  |_,_,_=>(match pv P st op with|some d=>some (d,A,[])|none=>none))
 | .lookup T x i ok=>(match st.ev x,A with
  | .acc id,.d d::A=>(match st.H[id]? with
   |some (.mp kv)=>some (d,A,[Z4 P T kv (st.ev i) ok=some d])
   |_=>none)
  |_,_=>none)
 | .pick c a b=>(match st.ev c,A with
  | .bool t,.b v::A=>(match v with|true=>some (st.ev a,A,[t=true])|false=>some (st.ev b,A,[t=false]))
  |_,_=>none)
 |_=>(match pv P st op with|some d=>some (d,A,[])|none=>none)
theorem Pp{P:Program}{st:St}{op:Op}{A A':List An}{d:D}{p:yc}(h:DJ P st op A=some (d,A',p))(hp:tP p):pv P st op=some d:=by
 have plain:∀ {op},(match pv P st op with|some d=>some (d,A,([]:yc))|none=>none)=some (d,A',p)->pv P st op=some d:=by
  intro op h;split at h
  ·cases h;assumption
  ·cases h
 unfold DJ at h;split at h
 ·rename_i t x i;split at h
  ·rename_i e sz rows kk n r A1 h1 h2 h3;cases h;obtain⟨⟨q1,q2,q3⟩,_⟩:=hp;simp only[pv,h1,h2,h3,q1,q2,nM,q3]
  ·rename_i e sz id kk n k A1 h1 h2 h3;split at h
   ·rename_i k' e' sz' rows hH;cases h;obtain⟨⟨rfl,rfl,q3⟩,_⟩:=hp;simp[pv,h1,h2,h3,hH,q3]
   ·cases h
  ·rename_i g o' kk n k A1 h2 h3;split at h
   ·rename_i sz len hT;cases h;obtain⟨⟨rfl,q3⟩,_⟩:=hp;simp[pv,h2,h3,hT,q3]
   ·cases h
  ·cases h
 ·rename_i t x i;split at h
  ·rename_i s kk n c A1 h1 h2 h3;cases h;obtain⟨⟨q1,q2⟩,_⟩:=hp;simp only[pv,h1,h2,h3,q1,q2,nM]
  ·cases h
 ·rename_i t x;split at h
  ·rename_i id i sz off h1;split at h
   ·rename_i ag k e sz' rows r A1 h2 h3;split at h
    ·rename_i d' hd;cases h;obtain⟨⟨rfl,q2,q3,q4⟩,_⟩:=hp;simp only[pv,h2,h1,h3,q3,q2,q4,nU,and_self,nM,hd]
    ·cases h
   ·cases h
  ·rename_i g o' h1;split at h
   ·rename_i d' A1 h2;cases h;simp only[pv,h2,h1];exact hp.1
   ·cases h
  ·exact plain h
 ·rename_i t x lo hi;split at h
  ·rename_i s l hh A1 h1;split at h
   ·rename_i h2;cases h;obtain⟨q1,_⟩:=hp;simp only[pv,h1,h2,q1,nM]
   ·cases h
  ·rename_i rows l hh A1 h1;split at h
   ·rename_i e sz h2;cases h;obtain⟨⟨q1,q2⟩,_⟩:=hp;simp only[pv,h1,h2,q1,q2,nM]
   ·cases h
  ·cases h
 ·rename_i op' t x y t';split at h
  ·rename_i a b h1 h2;cases h;obtain⟨q1,_⟩:=hp;simp only[pv,h1,h2,Qw,q1,nM]
  ·rename_i k a k' b h1 h2;cases h;obtain⟨⟨rfl,q1,q2⟩,_⟩:=hp;simp only[pv,h1,h2,Qw,q1,q2,nM,and_self]
  ·rename_i k a k' b h1 h2;cases h;obtain⟨⟨rfl,q1,q2⟩,_⟩:=hp;simp only[pv,h1,h2,Qw,q1,q2,nM,and_self]
  ·exact plain h
 ·rename_i T x i ok;split at h
  ·rename_i id d' A1 h1;split at h
   ·rename_i kv hH;cases h;simp only[pv,h1,hH];exact hp.1
   ·cases h
  ·cases h
 ·split at h
  ·rename_i t v A1 h1;split at h
   ·cases h;obtain⟨rfl,_⟩:=hp;simp[pv,h1]
   ·cases h;obtain⟨rfl,_⟩:=hp;simp[pv,h1]
  ·cases h
 ·exact plain h
def bytesOf:List aK->Option Bytes
 | []=>some []
 |r::rs=>match r,bytesOf rs with
  | [.int .u8 n],some bs=>some (UInt8.ofNat n.toNat::bs)
  |_,_=>none
theorem M6:∀ {rows:List aK} {bs:Bytes},bytesOf rows=some bs->∃xs:bZ,rows=xs.map (fun n=>[D.int .u8 n])/\bs=xs.map (fun n=>UInt8.ofNat n.toNat):=by
 intro rows
 induction rows with
 |nil=>intro bs h;cases h;exact⟨[],rfl,rfl⟩
 |cons r rs ih=>
  intro bs h;simp only[bytesOf]at h;split at h
  ·rename_i n bs' h1;cases h;obtain⟨xs,rfl,rfl⟩:=ih h1;exact⟨n::xs,rfl,rfl⟩
  ·cases h
theorem IS:∀(xs:bZ),(xs.map (fun n=>[D.int .u8 n])).flatten=xs.map (fun n=>D.int .u8 n)
 | []=>rfl
 |n::xs=>by simp only[bI,dR,IS xs];rfl
def a0W(A:List An)(t:Nat):Option (List An):=match A with
 | .KE u::A=>if u=t then some A else none
 |_=>none
def apS(H:bJ)(d:D)(e sz:Nat):Option (List aK×Bool×aP):=match d with
 | .nil=>some ([],true,[])
 | .acc m=>(match H[m]? with
  |some (.row k e' sz' rows)=>(match k with| .cl=>none| .uq=>(if e'=e/\sz'=sz then some (rows,true,[m])else none)| .sh=>(if e'=e/\sz'=sz then some (rows,false,[m])else none)| .mv _=>none)
  |_=>none)
 |_=>none
def apX(H:bJ)(d:D)(sz:Nat)(A:List An):Option (List aK×Bool×aP×List An×yc):=match d,A with
 | .nil,A=>some ([],true,[],A,[])
 | .acc m,A=>(match H[m]? with
  |some (.row k _ sz' rows)=>(match k with| .cl=>none| .uq=>(if sz'=sz then some (rows,true,[m],A,[])else none)| .sh=>(if sz'=sz then some (rows,false,[m],A,[])else none)| .mv _=>none)
  |_=>none)
 | .sl rows,.fl f::A=>some (rows,f,[],A,[(∀r∈rows,r.length=sz)/\(f=true->D.qV rows=true)])
 |_,_=>none
def Il(st:St)(d:D):Option (Nat×Nat×List aK×Option Value):=match d with
 | .acc id=>(match st.H[id]? with|some (.eE sz rows u)=>some (id,sz,rows,u)|_=>none)
 |_=>none
theorem Im{st:St}{d:D}{id sz:Nat}{rows:List aK}{u:Option Value}(h:Il st d=some (id,sz,rows,u)):d=.acc id/\st.H[id]?=some (.eE sz rows u):=by
 unfold Il at h;split at h
 ·split at h
  ·rename_i hH;cases h;exact⟨rfl,hH⟩
  ·cases h
 ·cases h
def Kw(st:St)(d:D):Option (Nat×Nat×Nat×Nat×List aK×Option Value):=match d with
 | .op id i sz off=>(match st.H[id]? with|some (.eE sz' rows u)=>if sz'=sz then some (id,i,off,sz,rows,u)else none|_=>none)
 |_=>none
theorem OF{st:St}{d:D}{id i off sz:Nat}{rows:List aK}{u:Option Value}(h:Kw st d=some (id,i,off,sz,rows,u)):d=.op id i sz off/\st.H[id]?=some (.eE sz rows u):=by
 unfold Kw at h;split at h
 ·split at h
  ·split at h
   ·rename_i hH he;subst he;cases h;exact⟨rfl,hH⟩
   ·cases h
  ·cases h
 ·cases h
def OH(H:bJ)(A:List An):Option (bJ×List An×yc):=match A with
 | .mg id i off r::A=>(match H[id]? with
  |some (.hole sz rows u p n)=>(match H[n]?,r[off]? with
   |some (.eE _ eY _),some _=>some ((H.set n .gone).set id (.eE sz (rows.set i (r.set off (.sl eY))) u),A,[rows[i]?=some r,p=i*sz+off])
   |_,_=>none)
  |_=>none)
 |A=>some (H,A,[])
def qX(n:Nat):aK->aK×bJ
 | []=>([],[])
 |d::ds=>match d with
  | .sl rows=>(.acc n::(qX (n+1) ds).1,.tk rows::(qX (n+1) ds).2)
  |d=>(d::(qX n ds).1,(qX n ds).2)
def LO(r:aK):Bool:=r.all fun d=>match d with| .sl _=>true|d=>d.flat
def DZ(P:Program)(nt:Nat)(o:Oper)(st:St)(A:List An):Option (St×List An×yc):=match o.op,o.dst with
 | .box _ x,some t=>(if t<nt then match(st.ev x).cellsOf with|some ds=>some (⟨(t,.ptr st.H.length 0)::st.σ,st.H++[.box ds]⟩,A,[])|none=>none else none)
 | .alloc T,some t=>(if t<nt then match tz P T with|some ds=>some (⟨(t,.ptr st.H.length 0)::st.σ,st.H++[.box ds]⟩,A,[])|none=>none else none)
 | .store T x y,none=>(match st.ev x,(st.ev y).cellsOf with
  | .ptr id off,some ds=>(match st.H[id]? with
   |some ob=>(match ob.QE with
    |some cells=>(if LP P T=true/\ds.length=vV P T/\off+ds.length<=cells.length then some (⟨st.σ,st.H.set id (ob.re (cells.take off++ds++cells.drop (off+ds.length)))⟩,A,[])else none)
    |none=>none)
   |none=>none)
  | .op id i sz off,some ds=>(match st.H[id]?,GL st.H ds,A with
   |some (.eE sz' rows u),_,.row r::A=>(if LP P T=true/\ds.length=vV P T/\0<ds.length/\sz'=sz/\off+ds.length<=sz/\ds.all D.flat=true then
    some (⟨st.σ,st.H.set id (.eE sz (rows.set i (r.take off++ds++r.drop (off+ds.length))) u)⟩,A,[rows[i]?=some r])else none)
   |some (.row k e sz' rows),some (es,ms),.row r::A=>(if LP P T=true/\ds.length=vV P T/\sz'=sz/\k.L8=true/\off+ds.length<=sz/\ms.Nodup/\id∉ms then
    some (⟨st.σ,(kill st.H ms).set id (.row (k.after (ds.all (Po st.H))) e sz (rows.set i (r.take off++es++r.drop (off+ds.length))))⟩,A,[rows[i]?=some r])else none)
   |_,_,_=>none)
  |_,_=>none)
 | .makeMap _ none,some t=>(if t<nt then some (⟨(t,.acc st.H.length)::st.σ,st.H++[.mp []]⟩,A,[])else none)
 | .mapUpdate T x i y,none=>(match R9 P T,st.ev x,A with
  |some (kd,_),.acc id,.kv m::A=>(match st.H[id]? with
   |some (.mp kv)=>(if ET kd (st.ev i)=true/\(st.ev y).scalar=true then some (⟨st.σ,st.H.set id (.mp m)⟩,A,[Fj (st.ev i) (st.ev y) kv=some m])else none)
   |_=>none)
  |_,_,_=>none)
 | .makeSlice T x y,some t=>(match CL P T,st.ev x,st.ev y with
  |some (e,sz),.int _ n,.int _ n'=>(match tz P e with
   |some zs=>(if t<nt/\0<sz then some (⟨(t,.acc st.H.length)::st.σ,st.H++[.row .uq e sz (List.replicate n.toNat (zs.map D.DY))]⟩,A,[n'=n/\0<=n/\U3 P e*n.toNat<=281474976710656/\n.toNat<=4611686018427387904])else none)
   |none=>none)
  |_,_,_=>none)
 | .buildSlice T len parts,some t=>(match CL P T with
  |some (e,sz)=>(match tz P e with
   |some zs=>(match uJ (pW len sz) (List.replicate len zs).flatten (parts.toList.map fun p=>(p.1,st.ev p.2))with
    |some ds=>(match GL st.H ds with
     |some (es,ms)=>(if t<nt/\0<sz/\len*sz<=16777216/\ms.Nodup then some (⟨(t,.acc st.H.length)::st.σ,kill st.H ms++[.row (vP (ds.all (Po st.H))) e sz (chunk sz len es)]⟩,A,[])else none)
     |none=>none)
    |none=>none)
   |none=>none)
  |none=>none)
 | .call c,some t=>(match c.callee,c.args.toList,c.argTypes.toList with
  | .builtin .append,[s,x],[T,T']=>(match CL P T with
   |some (e,sz)=>(match tz P e,apS st.H (st.ev s) e sz,apX st.H (st.ev x) sz A with
    |some _,some (rows,u1,k1),some (eY,u2,k2,A,ow)=>(if t<nt/\0<sz/\T'=T/\(k1++k2).Nodup then
     some (⟨(t,.acc st.H.length)::st.σ,kill st.H (k1++k2)++[.row (vP (u1&&u2)) e sz (rows++eY)]⟩,A,(rows.length+eY.length<=maxLen/\(rows.length+eY.length)*U3 P e<=140737488355328)::ow)else none)
    |_,_,_=>none)
   |none=>none)
  | .builtin .len,[x],[T]=>(match Il st (st.ev x)with
   |some (_,_,rows,_)=>(if t<nt/\(CL P T).isSome=true then some (⟨(t,.int .i64 rows.length)::st.σ,st.H⟩,A,[])else none)
   |none=>(if t<nt then match DJ P st o.op A with|some (d,A,ow)=>some (⟨(t,d)::st.σ,st.H⟩,A,ow)|none=>none else none))
  | .value (.func f),xs,_=>(match DL st.H (xs.map st.ev),A with
   |_,.gv ms outs d::A=>(match Ik st.H ms with
    |some ins=>(if t<nt/\ms.Nodup/\((xs.map st.ev).all D.bare)=true then
     (match OH (LB st.H ms outs) A with
     |some (H',A',ow)=>some (⟨(t,d)::st.σ,H'⟩,A',oF P f ((xs.map st.ev).map (D.PZ ms)) ins outs d::ow)
     |none=>none)else none)
    |none=>none)
   |_,.gp nz cells' d::A=>(match xs with
    |x0::xr=>(match st.ev x0 with
     | .ptr id 0=>(match st.H[id]? with
      |some ob=>(match ob.QE with
       |some GN=>(match wR st.H nz (.agg GN::xr.map st.ev)with
        |some (.agg cells::ds,ms,qs)=>(if t<nt/\ms.Nodup/\qs.Nodup then
         some (⟨(t,(lE (st.H.length+(kW st.H.length cells').2.length) d).1)::st.σ,(kill st.H (ms++qs)).set id (ob.re (kW st.H.length cells').1)++((kW st.H.length cells').2++(lE (st.H.length+(kW st.H.length cells').2.length) d).2)⟩,A,[qm P f cells cells' ds d])else none)
        |_=>none)
       |none=>none)
      |none=>none)
     |_=>none)
    | []=>none)
   |some (ds,ms),.dn cells::A=>(if t<nt/\ms=[]then some (⟨(t,.ptr st.H.length 0)::st.σ,st.H++[.box cells]⟩,A,[WI P f ds cells])else none)
   |some (ds,_),.dc d::A=>(if t<nt/\d.J0=true then some (⟨(t,(lE st.H.length d).1)::st.σ,st.H++(lE st.H.length d).2.map Ob.close⟩,A,[Good P f ds d])else none)
   |_,.ov id cm::A=>(match st.H[id]? with
    |some (.row .uq e sz rows)=>(if t<nt/\((xs.map st.ev).all D.bare)=true then some (⟨(t,.acc st.H.length)::st.σ,kill st.H [id]++[.row .uq e sz cm]⟩,A,[rows.flatten.all D.flat=true,DP P f ((xs.map st.ev).map (D.PZ [id])) e sz rows cm])else none)
    |_=>none)
   |_,.mu id cm::A=>(match xs,st.H[id]? with
    | [x],some (.row k e sz rows)=>(match st.ev x with
     | .acc id'=>(if t<nt/\id'=id/\k.hand=true then some (⟨(t,.iE [])::st.σ,st.H.set id (.row k e sz cm)⟩,A,[rows.flatten.all D.flat=true,Ll P f e sz rows cm])else none)
     |_=>none)
    |_,_=>none)
   |some (ds,ms),.d d::A=>(if t<nt/\(ms=[]\/d.J0=true)then some (⟨(t,(lE st.H.length d).1)::st.σ,st.H++(lE st.H.length d).2⟩,A,[Good P f ds d])else none)
   |_,.nl d::A=>(if t<nt/\(xs.map st.ev).all H9=true then some (⟨(t,(lE st.H.length d).1)::st.σ,st.H++(lE st.H.length d).2⟩,A,[Good P f (xs.map st.ev) d])else none)
   |_,.gf nz d::A=>(match wR st.H nz (xs.map st.ev)with
    |some (ds,ms,qs)=>(if t<nt/\ms.Nodup/\qs.Nodup then some (⟨(t,(lE st.H.length d).1)::st.σ,kill st.H (ms++qs)++(lE st.H.length d).2⟩,A,[Ot P f ds d])else none)
    |none=>none)
   |_,_=>none)
  |_,_,_=>(if t<nt then match DJ P st o.op A with|some (d,A,ow)=>some (⟨(t,d)::st.σ,st.H⟩,A,ow)|none=>none else none))
 | .convert s d x,some t=>(match st.ev x with
  | .acc id=>(match st.H[id]?,CL P s with
   |some (.row _ _ _ rows),some (e,sz)=>(match bytesOf rows with
    |some bs=>(if t<nt/\sz=1/\Og P e=some .u8/\Gp P d=true then some (⟨(t,.str bs)::st.σ,st.H⟩,A,[])else none)
    |none=>none)
   |_,_=>none)
  |_=>(if t<nt then match DJ P st o.op A with|some (d,A,ow)=>some (⟨(t,d)::st.σ,st.H⟩,A,ow)|none=>none else none))
 | .assign x,some t=>(match a0W A t with
  |some A=>(match st.ev x,CL P o.type with
   | .nil,some (e,sz)=>(if t<nt/\0<sz then some (⟨(t,.acc st.H.length)::st.σ,st.H++[.row .uq e sz []]⟩,A,[])else none)
   |_,_=>none)
  |none=>(if t<nt then some (⟨(t,st.ev x)::st.σ,st.H⟩,A,[])else none))
 | .slice T x none (some hi) none,some t=>(match st.ev x with
  | .acc id=>(match st.H[id]?,CL P T,st.ev hi,A with
   |some (.row .uq e sz rows),some (_,sz'),.int _ n,.cut 0 h::A=>(if t<nt/\sz'=sz then some (⟨(t,.acc st.H.length)::st.σ,kill st.H [id]++[.row .uq e sz (rows.take h)]⟩,A,[n=((h:Nat):Int)/\h<=rows.length])else none)
   |_,_,_,_=>none)
  |_=>(if t<nt then match DJ P st o.op A with|some (d,A,ow)=>some (⟨(t,d)::st.σ,st.H⟩,A,ow)|none=>none else none))
 | .slice T (.tmp s) (some lo) none none,some t=>(match A,lk st.σ s with
  | .fz::A,.acc id=>(match st.H[id]? with
   |some (.row k e sz rows)=>(if t<nt/\k.L8=true then match DJ P ⟨(s,.sl rows)::st.σ,st.H.set id .gone⟩ o.op A with|some (d,A,ow)=>some (⟨(t,d)::(s,.sl rows)::st.σ,st.H.set id .gone⟩,A,ow)|none=>none else none)
   |_=>none)
  |_,_=>(if t<nt then match DJ P st o.op A with|some (d,A,ow)=>some (⟨(t,d)::st.σ,st.H⟩,A,ow)|none=>none else none))
 | .indexAddr T x i,some t=>(match Il st (st.ev x)with
  |some (id,sz,rows,_)=>(match CL P T,st.ev i,A with
   |some (_,sz'),.int _ n,.ix m::A=>(if t<nt/\sz'=sz then some (⟨(t,.op id m sz 0)::st.σ,st.H⟩,A,[n=(m:Int)/\m<rows.length])else none)
   |_,_,_=>none)
  |none=>(if t<nt then match DJ P st o.op A with|some (d,A,ow)=>some (⟨(t,d)::st.σ,st.H⟩,A,ow)|none=>none else none))
 | .load T x,some t=>(match Kw st (st.ev x)with
  |some (id,i,off,sz,rows,u)=>(match wU P T,A with
   |some false,.row r::A=>(match r[off]? with
    |some (.sl eY)=>(match CL P T with
     |some (_,Oa)=>(if t<nt then some (⟨(t,.acc st.H.length)::st.σ,st.H.set id (.hole sz (rows.set i (r.set off .any)) u (i*sz+off) st.H.length)++[.eE Oa eY none]⟩,A,[rows[i]?=some r,∀q∈eY,q.length=Oa])else none)
     |none=>none)
    |some d=>(if t<nt/\d.flat=true then some (⟨(t,d)::st.σ,st.H⟩,A,[rows[i]?=some r])else none)
    |none=>none)
   |_,_=>none)
  |none=>(match A,st.ev x with
   | .tk r::A,.op id i sz 0=>(match st.H[id]? with
    |some (.row (.mv n) e sz' rows)=>(if t<nt/\sz'=sz/\wU P T=some true/\vV P T=sz then
     some (⟨(t,.agg (qX st.H.length r).1)::st.σ,st.H.set id (.row (.mv (n+1)) e sz rows)++(qX st.H.length r).2⟩,A,[i=n/\rows[n]?=some r/\LO r=true])else none)
    |_=>none)
   |A,_=>(if t<nt then match DJ P st o.op A with|some (d,A,ow)=>some (⟨(t,d)::st.σ,st.H⟩,A,ow)|none=>none else none)))
 |op,some t=>(if t<nt then match DJ P st op A with|some (d,A,ow)=>some (⟨(t,d)::st.σ,st.H⟩,A,ow)|none=>none else none)
 |_,none=>none
section
variable{P:Program}{Γ:pG}{Q:Exit->St->Prop}{st:St}{all:Array Oper}{rest:List Oper}
theorem cz.TD{κ:Nat->Option Value}{Θ:Nat->Nat}{a:Act}{w:World}(hs:cz Γ st κ Θ a w)(e sz:Nat)(hsz:0<sz):cz Γ ⟨st.σ,st.H++[.row .uq e sz []]⟩ (uP κ st.H.length (some (.slice none 0 0))) Θ a w:=by
 obtain⟨ρ,hu⟩:=hs.qA;refine hs.put [] yQ (tf (hs.mT _ (bH _)) _) ?_ ?_ (gZ.refl hs.own (by omega)) hs.mine ?_ hu (by simp) ?_
 ·intro i hi;simp only[aM,aG,b8]at hi;unfold uP;rw[b9 (by omega)];exact hs.mT i (by omega)
 ·intro i x hx;unfold uP at hx;split at hx
  ·cases hx;rfl
  ·exact hs.lM i x hx
 ·exact⟨hsz,by simp,_,[],[],jN _ _ _,World.ownsRow_nil w 0 e sz,.nil,by simp[Value.ownBlock],by simp⟩
 ·intro e' sz' cm he;simp only[Ob.row.injEq,nU]at he;obtain⟨rfl,rfl,rfl⟩:=he;exact⟨_,[],[],jN _ _ _,World.ownsRow_nil w 0 e sz,.nil,by simp,by simp⟩
theorem XH{o:Oper}{x:Operand}{t e sz:Nat}(hop:o.op=.assign x)(hd:o.dst=some t)(hg:o.guard=none)(ht:t<Γ.nt)(hx:st.ev x=.nil)(hsz:0<sz)
 (h:AO P Γ all rest Q ⟨(t,.acc st.H.length)::st.σ,st.H++[.row .uq e sz []]⟩):AO P Γ all (o::rest) Q st:=by
 intro κ Θ a w hs;obtain⟨bs,r,_⟩:=hs.ev x;rw[hx]at r;have hv:=r.Fq;have hp:pv P st o.op=some .nil:=by rw[hop];simp[pv,hx]
 obtain⟨v,b2,hrun,hrd,hz⟩:=C3 hs hp;have MW:=hrd.Fq;subst MW;refine wpList_plain hg fun K hK=>?_
 unfold Oper.wp;rw[hrun,Oper.upon_value,hd];refine hK _ _ (h _ _ _ _ ((hs.TD e sz hsz).set (t:=t) (d:=.acc st.H.length) (bs:=[]) ht ?_ (by simp)));exact(vR.acc st.H.length _ (jN _ _ _)).LR
theorem eN.Ym{κ:Nat->Option Value}{w:World}{n:Nat}(hk:κ n=some (.slice none 0 0)):∀ {vs:bY} {ds:aK} {bs:aP},eN w κ vs ds bs->∀ {off:Nat},ds[off]?=some .nil->∃bs',eN w κ vs (ds.set off (.acc n)) bs'/\∀b∈bs',b∈bs:=by
 intro vs ds bs h
 induction h with
 |nil=>intro off h;simp at h
 |cons v vs d ds b1 b2 h1 h2 h3 ih=>
  intro off h;cases off with
  |zero=>
   simp only[xm,ah]at h;subst h;have hv:v=.slice none 0 0:=by
    cases h2 with
    |pure h2=>cases h2;rfl
   subst hv;exact⟨[]++b2,.cons _ _ _ _ _ _ h1 (.acc n _ hk) h3,fun b hb=>by simp at hb;simp[hb]⟩
  |succ off=>
   obtain⟨bs',q1,q2⟩:=ih (off:=off) (by simpa using h);exact⟨b1++bs',.cons _ _ _ _ _ _ h1 h2 q1,fun b hb=>by
    rcases aU.1 hb with hb|hb
    ·exact aU.2 (.inl hb)
    ·exact aU.2 (.inr (q2 b hb))⟩
def St.prom(st:St)(id off e sz:Nat):Option St:=match st.H[id]? with
 |some (.box cells)=>(match cells[off]? with
  |some .nil=>(if 0<sz then some ⟨st.σ,(st.H++[Ob.row .uq e sz []]).set id (Ob.box (cells.set off (.acc st.H.length)))⟩else none)
  |_=>none)
 |_=>none
theorem cz.prom{κ:Nat->Option Value}{Θ:Nat->Nat}{a:Act}{w:World}{rO:St}{id off e sz:Nat}(hs:cz Γ st κ Θ a w)(h:st.prom id off e sz=some rO):∃κ',cz Γ rO κ' Θ a w:=by
 unfold St.prom at h;split at h
 ·rename_i cells hH;split at h
  ·rename_i hc;split at h
   ·rename_i hsz;cases h;have hlt:id<st.H.length:=(aD.1 hH).1;have hs1:=hs.TD e sz hsz;refine⟨_,hs1.defers,hs1.size,fun i hi=>hs1.mT i (by simpa using hi),hs1.lM,hs1.slot,?_,hs1.own,hs1.old,hs1.mine,hs1.stays,?_⟩
    ·intro j y hj;simp only[fC]at hj;split at hj
     ·rename_i e1;subst e1;split at hj
      ·cases hj;obtain⟨g,cs,T,q1,q2,q3,bs,q4,q5⟩:=hs1.ob id (.box cells) (by simpa[aj hlt]using hH);obtain⟨bs',p1,p2⟩:=eN.Ym (n:=st.H.length) (jN _ _ _) q4 hc;exact⟨g,cs,T,q1,q2,q3,bs',p1,fun b hb=>q5 b (p2 b hb)⟩
      ·cases hj
     ·exact hs1.ob j y hj
    ·obtain⟨ρ,hu⟩:=hs1.qA;refine⟨ρ,hu.free,fun i e' sz' rows hi=>hu.rows i e' sz' rows ?_,fun i o hi=>?_⟩
     ·simp only[fC]at hi;split at hi
      ·split at hi<;>cases hi
      ·exact hi
     ·simp only[fC]at hi;split at hi
      ·split at hi
       ·cases hi;trivial
       ·cases hi
      ·exact hu.more i o hi
   ·cases h
  ·cases h
 ·cases h
theorem cz.a0h{κ:Nat->Option Value}{Θ:Nat->Nat}{a:Act}{w:World}{id e sz:Nat}{rows:List aK}(hs:cz Γ st κ Θ a w)(hH:st.H[id]?=some (.row .uq e sz rows)):cz Γ ⟨st.σ,st.H.set id (.row .sh e sz rows)⟩ κ Θ a w:=by
 have hlt:id<st.H.length:=(aD.1 hH).1;refine⟨hs.defers,hs.size,fun i hi=>hs.mT i (by simpa using hi),hs.lM,hs.slot,?_,hs.own,hs.old,hs.mine,hs.stays,?_⟩
 ·intro j y hj;simp only[fC,hlt,nM]at hj;split at hj
  ·rename_i e1;subst e1;cases hj;exact(show sQ w κ Θ id (.row .uq e sz rows)from hs.ob id _ hH)
  ·exact hs.ob j y hj
 ·obtain⟨ρ,hu⟩:=hs.qA;refine⟨ρ,hu.free,fun i e' sz' cm hi=>hu.rows i e' sz' cm ?_,fun i o hi=>?_⟩
  ·simp only[fC,hlt,nM]at hi;split at hi
   ·cases hi
   ·exact hi
  ·simp only[fC,hlt,nM]at hi;split at hi
   ·cases hi;trivial
   ·exact hu.more i o hi
theorem cz.mvz{κ:Nat->Option Value}{Θ:Nat->Nat}{a:Act}{w:World}{id e sz:Nat}{rows:List aK}(hs:cz Γ st κ Θ a w)(hH:st.H[id]?=some (.row .uq e sz rows)):cz Γ ⟨st.σ,st.H.set id (.row (.mv 0) e sz rows)⟩ κ Θ a w:=by
 have hlt:id<st.H.length:=(aD.1 hH).1;refine⟨hs.defers,hs.size,fun i hi=>hs.mT i (by simpa using hi),hs.lM,hs.slot,?_,hs.own,hs.old,hs.mine,hs.stays,?_⟩
 ·intro j y hj;simp only[fC,hlt,nM]at hj;split at hj
  ·rename_i e1;subst e1;cases hj;exact(show sQ w κ Θ id (.row .uq e sz rows)from hs.ob id _ hH)
  ·exact hs.ob j y hj
 ·obtain⟨ρ,hu⟩:=hs.qA;refine⟨ρ,hu.free,fun i e' sz' cm hi=>hu.rows i e' sz' cm ?_,fun i o hi=>?_⟩
  ·simp only[fC,hlt,nM]at hi;split at hi
   ·cases hi
   ·exact hi
  ·simp only[fC,hlt,nM]at hi;split at hi
   ·rename_i e1;subst e1;cases hi;obtain⟨v,cs,bs,q1,q2,q3,q4,q5⟩:=hu.rows id e sz rows hH;exact⟨v,cs,bs,q1,q2,by simpa using q3,q4,q5⟩
   ·exact hu.more i o hi
def shares:List An->St->St×List An
 | .sk id::A,st=>(match st.H[id]? with
  |some (.row .uq e sz rows)=>shares A ⟨st.σ,st.H.set id (.row .sh e sz rows)⟩
  |_=>(st,.sk id::A))
 | .mz id::A,st=>(match st.H[id]? with
  |some (.row .uq e sz rows)=>shares A ⟨st.σ,st.H.set id (.row (.mv 0) e sz rows)⟩
  |_=>(st,.mz id::A))
 |A,st=>(st,A)
theorem cz.shares{κ:Nat->Option Value}{Θ:Nat->Nat}{a:Act}{w:World}:∀ {A A1:List An} {st uK:St},cz Γ st κ Θ a w->shares A st=(uK,A1)->cz Γ uK κ Θ a w:=by
 intro A
 induction A with
 |nil=>intro A1 st uK hs h;simp only[Cx.shares,cK]at h;obtain⟨rfl,_⟩:=h;exact hs
 |cons x A ih=>
  intro A1 st uK hs h;cases x
  case sk id=>
   simp only[Cx.shares]at h;split at h
   ·rename_i e sz rows hH;exact ih (hs.a0h hH) h
   ·simp only[cK]at h;obtain⟨rfl,_⟩:=h;exact hs
  case mz id=>
   simp only[Cx.shares]at h;split at h
   ·rename_i e sz rows hH;exact ih (hs.mvz hH) h
   ·simp only[cK]at h;obtain⟨rfl,_⟩:=h;exact hs
  all_goals(simp only[Cx.shares,cK]at h;obtain⟨rfl,_⟩:=h;exact hs)
theorem Ug{o:Oper}{s d:TypeId}{x:Operand}{t id e e' sz':Nat}{k:RK}{rows:List aK}{bs:Bytes}(hop:o.op=.convert s d x)(hd:o.dst=some t)(hg:o.guard=none)(ht:t<Γ.nt)(hx:st.ev x=.acc id)
 (hH:st.H[id]?=some (.row k e' sz' rows)) (hT:CL P s=some (e,1)) (he:Og P e=some .u8) (hs':Gp P d=true) (hb:bytesOf rows=some bs) (h:AO P Γ all rest Q ⟨(t,.str bs)::st.σ,st.H⟩):AO P Γ all (o::rest) Q st:=by
 intro κ Θ a w hs;obtain⟨b0,r,_⟩:=hs.ev x;rw[hx]at r;obtain⟨hk,_⟩:=r.rQ;obtain⟨hsz,hrl,v,cs,b1,hk2,hown,p9,_,_⟩:=hs.ob id _ hH;rw[hk]at hk2;cases hk2;obtain⟨xs,rfl,rfl⟩:=M6 hb;obtain⟨hu,_,_⟩:=lg hT;have hue:P.underlying e=some (.int .u8):=by
  unfold Og at he;split at he
  ·rename_i k' hk';cases he;exact hk'
  ·cases he
 have hud:=tU hs';have hfl:(xs.map (fun n=>[D.int .u8 n])).flatten=xs.map (fun n=>D.int .u8 n):=IS xs;rw[hfl]at p9;have hcs:∀(xs:bZ) (cs:bY) (b:aP),jR w cs (xs.map (fun n=>D.int .u8 n)) b->cs=xs.map (Value.int .u8):=by
  intro xs
  induction xs with
  |nil=>intro cs b h;cases h;rfl
  |cons n xs ih=>
   intro cs b h;cases h with
   |cons v vs _ _ b1 b2 _ h2 h3=>
    cases h2;rw[ih _ _ h3];rfl
 have hce:=hcs xs cs b1 p9;have hlen:xs.length<=maxLen:=by
  rcases hown.2 with⟨_,hn⟩|⟨g,cap,cur,_,_,_,hnc,hcm,_⟩
  ·simp at hn;rw[hn];simp
  ·simp at hnc;omega
 have hrun:(convert s d (a.eval x)).run P w=.ok (.string (strOfNums xs)) w:=by
  rcases hown.2 with⟨hv,hn⟩|⟨g,cap,cur,hv,_,hg,hnc,hcm,_,_⟩
  ·have hx0:xs=[]:=by simpa using hn
   subst hx0;rw[hv,run_convert_bytes_nil w s e hu hue 0 0 d hud];rfl
  ·rw[hv];have hcell:=hown.cells (g:=g) (by rw[hv];simp[Value.ownBlock]);refine run_convert_bytes_arg w s e hu hue g 0 _ cap xs (by simp) (fun i hi=>?_) d hud;have hi':i<xs.length:=by simpa using hi
   have:=hcell i (.int .u8 (xs.getD i 0)) (by rw[hce];simp[List.getD,aV hi']);simpa[Addr.add_lit]using this
 refine wpList_plain hg fun K hK=>?_
 unfold Oper.wp;have MU:(execOp a.eval o).run P w=.ok (.value (.string (strOfNums xs))) w:=by
  simp only[execOp,hop];simp[hrun]
 rw[MU,Oper.upon_value,hd];refine hK _ _ (h _ _ _ _ (hs.set (t:=t) (bs:=[]) ht ?_ (by simp)));have Zq:(strOfNums xs).data.toList=xs.map (fun n=>UInt8.ofNat n.toNat):=by simp[strOfNums]
 have hss:(strOfNums xs).size<=maxLen:=by
  have:(strOfNums xs).size=xs.length:=by
   have:=congrArg List.length Zq;simpa using this
  omega
 have:=Rd.str (w:=w) (strOfNums xs) hss;rw[Zq]at this;exact .of this
theorem XD{o:Oper}{t:Nat}{s x:Operand}{T e sz:Nat}{zs:aK}{rows eY:List aK}{u1 u2:Bool}{k1 k2:aP}{A A':List An}{ow:yc}
 (hop:o.op=.call {callee:=.builtin .append,args:= #[s,x],argTypes:= #[T,T]}) (hd:o.dst=some t) (hg:o.guard=none) (ht:t<Γ.nt) (hT:CL P T=some (e,sz)) (hz:tz P e=some zs) (hsz:0<sz)
 (hS:apS st.H (st.ev s) e sz=some (rows,u1,k1)) (hX:apX st.H (st.ev x) sz A=some (eY,u2,k2,A',ow)) (how:tP ow) (hnd:(k1++k2).Nodup)
 (h63:rows.length+eY.length<=maxLen) (hby:(rows.length+eY.length)*U3 P e<=140737488355328)
 (h:AO P Γ all rest Q ⟨(t,.acc st.H.length)::st.σ,kill st.H (k1++k2)++[.row (vP (u1&&u2)) e sz (rows++eY)]⟩):AO P Γ all (o::rest) Q st:=by
 refine Pt hop hd hg ht hT hz hsz h63 hby ?_ h;intro κ Θ a w ρ hs hu;have one:∃i1 b1 c1,Ri w Θ ρ e sz (a.eval s) rows u1 i1 b1 c1/\((k1=[]/\i1=st.H.length)\/k1=[i1]):=by
  obtain⟨bs,r,_⟩:=hs.ev s;unfold apS at hS;split at hS
  ·rename_i Ei;cases hS;rw[Ei]at r;have:=r.Fq;rw[this];exact⟨st.H.length,[],[],Rp,.inl ⟨rfl,rfl⟩⟩
  ·rename_i m Ei;rw[Ei]at r;obtain⟨hk,_⟩:=r.rQ;split at hS
   ·rename_i k e' sz' cm hH;split at hS
    ·cases hS
    ·split at hS
     ·rename_i hc;obtain⟨rfl,rfl⟩:=hc;cases hS;obtain⟨b1,c1,hA⟩:=Ev hs hu hk hH rfl;exact⟨m,b1,c1,hA,.inr rfl⟩
     ·cases hS
    ·split at hS
     ·rename_i hc;obtain⟨rfl,rfl⟩:=hc;cases hS;obtain⟨b1,c1,hA⟩:=Ev hs hu hk hH rfl;exact⟨m,b1,c1,hA,.inr rfl⟩
     ·cases hS
    ·cases hS
   ·cases hS
  ·cases hS
 have two:∃i2 b2 c2,Px w Θ ρ sz (a.eval x) eY u2 i2 b2 c2/\(u2=true->b2=[]\/i2∈k2):=by
  obtain⟨bs,r,hz⟩:=hs.ev x;unfold apX at hX;split at hX
  ·rename_i A1 Ei;cases hX;rw[Ei]at r;have:=r.Fq;rw[this];exact⟨0,[],[],Rq,fun _=>.inl rfl⟩
  ·rename_i A1 m Ei;rw[Ei]at r;obtain⟨hk,_⟩:=r.rQ;split at hX
   ·rename_i k e' sz' cm hH;split at hX
    ·cases hX
    ·split at hX
     ·rename_i hc;subst hc;cases hX;obtain⟨b1,c1,hA⟩:=Lw hs hu hk hH rfl;exact⟨m,b1,c1,hA,fun _=>.inr (by simp)⟩
     ·cases hX
    ·split at hX
     ·rename_i hc;subst hc;cases hX;obtain⟨b1,c1,hA⟩:=Lw hs hu hk hH rfl;exact⟨m,b1,c1,hA,fun _=>.inr (by simp)⟩
     ·cases hX
    ·cases hX
   ·cases hX
  ·rename_i cm f A1 Ei;cases hX;rw[Ei]at r;obtain⟨⟨q1,q2⟩,_⟩:=how;obtain⟨b2,c2,hA,hb⟩:=Uq (ρ:=ρ) r.LK hz q1 0 u2 q2;exact⟨0,b2,c2,hA,fun e=>.inl (hb e)⟩
  ·cases hX
 obtain⟨i1,b1,c1,hA,hk1⟩:=one;obtain⟨i2,b2,c2,hB,hk2⟩:=two;refine⟨u1,u2,i1,i2,b1,b2,c1,c2,hA,hB,?_,fun sr=>?_⟩
 ·rcases hk1 with⟨_,h⟩|h
  ·exact .inr h
  ·exact .inl (by simp[h])
 ·simp only[aX]at sr;refine⟨sr.1,sr.2,?_⟩;rcases hk2 sr.2 with h|hmem
  ·exact .inl h
  ·refine .inr ⟨by simp[hmem],fun e=>?_⟩;rcases hk1 with⟨h1,h2⟩|h1
   ·
    have hlt:i2<st.H.length:=by
     unfold apX at hX;split at hX
     ·cases hX;cases hmem
     ·rename_i A1 m Ei;split at hX
      ·rename_i k e' sz' cm hH;have:=(aD.1 hH).1;split at hX
       ·cases hX
       ·split at hX
        ·cases hX;simp at hmem;omega
        ·cases hX
       ·split at hX
        ·cases hX;simp at hmem;omega
        ·cases hX
       ·cases hX
      ·cases hX
     ·cases hX;cases hmem
     ·cases hX
    omega
   ·subst e;have:=(bA.1 hnd).2.2 i1 (by simp[h1]) i1 hmem;exact this rfl
theorem U2{κ:Nat->Option Value}{w:World}:∀ {ds:aK} {n:Nat} {vs:bY} {bs:aP},jR w vs ds bs->(∀d∈ds,d.flat=true\/∃rows,d=.sl rows)->bs.Nodup->
 ∃(us:bY) (L:List aP),us.length=(qX n ds).2.length/\L.length=us.length/\L.flatten=bs/\
  (∀(j:Nat) o,(qX n ds).2[j]?=some o->∃rows u b,o=.tk rows/\us[j]?=some u/\u.oneCell'=true/\L[j]?=some b/\Rd w u (.sl rows) b)/\
  (∀κ':Nat->Option Value,(∀(j:Nat) u,us[j]?=some u->κ' (n+j)=some u)->eN w κ' vs (qX n ds).1 []):=by
 intro ds
 induction ds with
 |nil=>intro n vs bs h _ _;cases h;exact⟨[],[],rfl,rfl,rfl,by simp[qX],fun _ _=>.nil⟩
 |cons d ds ih=>
  intro n vs bs h hd hnd;cases h with
  |cons v vs _ _ b1 b2 h1 h2 h3=>
   obtain⟨n1,n2,n3⟩:=bA.1 hnd;rcases hd d (by simp)with hf|⟨rows,rfl⟩
   ·have hb:=h2.flat hf;subst hb;obtain⟨us,L,q1,q2,q3,q4,q5⟩:=ih (n:=n) h3 (fun x hx=>hd x (by simp[hx])) n2;have e:qX n (d::ds)=(d::(qX n ds).1,(qX n ds).2):=by cases d<;>first|rfl| (simp[D.flat]at hf)
    rw[e];exact⟨us,L,q1,q2,q3,q4,fun κ' hk=>by simpa using eN.cons v vs d _ [] [] h1 (.pure h2) (q5 κ' hk)⟩
   ·obtain⟨us,L,q1,q2,q3,q4,q5⟩:=ih (n:=n+1) h3 (fun x hx=>hd x (by simp[hx])) n2;refine⟨v::us,b1::L,by simp[qX,q1],by simp[q2],by simp[q3],fun j o hj=>?_,fun κ' hk=>?_⟩
    ·cases j with
     |zero=>simp[qX]at hj;subst hj;exact⟨rows,v,b1,rfl,rfl,h1,rfl,h2⟩
     |succ j=>
      obtain⟨cm,u,b,r1,r2,r3,r4,r5⟩:=q4 j o (by simpa[qX]using hj);exact⟨cm,u,b,r1,by simpa using r2,r3,by simpa using r4,r5⟩
    ·have:=eN.cons v vs (.acc n) _ [] [] h1 (.acc n v (by have:=hk 0 v rfl;simpa using this)) (q5 κ' (fun j u hj=>by have:=hk (j+1) u (by simpa using hj);rw[<-this];congr 1;omega));simpa[qX]using this
theorem Oe{r:aK}(h:LO r=true):∀d∈r,d.flat=true\/∃rows,d=.sl rows:=by
 intro d hd;have:=au.1 h d hd;cases d<;>first|exact .inr ⟨_,rfl⟩|exact .inl this
theorem Uj{o:Oper}{T id i sz e t:Nat}{x:Operand}{rows:List aK}{r:aK}(hop:o.op=.load T x)(hd:o.dst=some t)(hg:o.guard=none)(ht:t<Γ.nt)
 (hx:st.ev x=.op id i sz 0) (hH:st.H[id]?=some (.row (.mv i) e sz rows)) (hrow:rows[i]?=some r) (hT:wU P T=some true) (hsz:vV P T=sz) (hok:LO r=true)
 (h:AO P Γ all rest Q ⟨(t,.agg (qX st.H.length r).1)::st.σ,st.H.set id (.row (.mv (i+1)) e sz rows)++(qX st.H.length r).2⟩):AO P Γ all (o::rest) Q st:=by
 intro κ Θ a w hs;obtain⟨b1,r1,_⟩:=hs.ev x;rw[hx]at r1;obtain⟨g,o0,len,cap,hk,hv⟩:=r1.C1;obtain⟨ρ,hu⟩:=hs.qA;obtain⟨Xn,hrl,vk0,cs0,bs0,Zt,WW,a2M,hΘ,uN⟩:=hs.ob id _ hH;obtain⟨vk,cs,bs,PN,hown,p9,hnd,hρ⟩:=hu.more id _ hH;rw[hk]at PN Zt;cases PN;cases Zt;have UT:=zL hown;subst UT;rw[cY]at hv;have PM:r.length=sz:=hrl r (aB hrow);have hlt:i<rows.length:=(aD.1 hrow).1;have SE:rows.drop i=r::rows.drop (i+1):=by
  rw[qk hlt]
  congr 1
  rw[aV hlt]at hrow;exact oS hrow
 rw[SE,dR]at p9;obtain⟨v1,v2,c1,c2,Ib,Bq,k1,k2⟩:=p9.split;have l1:v1.length=sz:=by rw[k1.length,PM]
 have hcells:∀j c,cs[j]?=some c->w.cell? ⟨g,0+j,none⟩=some c:=by
  intro j c hj;have:=hown.cells (g:=g) (by simp[Value.ownBlock]) j c hj;simpa[Addr.add_lit]using this
 have L0:=mJ (P:=P) (w:=w) hT (o:=i*sz+0) hcells;simp only[cY,vE]at L0 hv;have hle:(i+1)*sz<=rows.length*sz:=dO _ hlt;rw[iT,kP]at hle;have SC:=hown.1;have hval:(cs.drop (i*sz)).take sz=v1:=by rw[Ib];exact gU l1
 have hrun:(execOp a.eval o).run P w=.ok (.value (.agg v1.toArray)) w:=by
  simp only[execOp,hop,hv];have:=L0.1 trivial (by rw[hsz,SC];omega);rw[hsz,hval]at this;simp[this]
 refine wpList_plain hg fun K hK=>?_
 unfold Oper.wp;rw[hrun,Oper.upon_value,hd];rw[Bq]at hnd hρ;obtain⟨n1,n2,n3⟩:=bA.1 hnd;obtain⟨us,L,q1,q2,q3,q4,q5⟩:=U2 (κ:=κ) (n:=st.H.length) k1 (Oe hok) n1;let N:=st.H.length
 let κ':Nat->Option Value:=fun j=>if j<N then κ j else us[j-N]?
 let ρ':Nat->Nat:=fun b=>match ix (fun x:aP=>x.contains b) L with|some j=>N+j+1|none=>ρ b
 have hn:∀(j:Nat) v,κ j=some v->κ' j=some v:=by
  intro j v hj;have:j<N:=by
   rcases dL j N with h|h
   ·exact h
   ·rw[hs.mT j h]at hj;cases hj
  simp only[κ'];rw[bM this];exact hj
 have hk':∀(j:Nat) u,us[j]?=some u->κ' (N+j)=some u:=fun j u hj=>by
  simp only[κ'];rw[b9 (by omega),ck];exact hj
 have ZN:L.flatten.Nodup:=by rw[q3];exact n1
 have Zx:∀(j:Nat) x b,L[j]?=some x->b∈x->ρ' b=N+j+1:=by
  intro j x b hj hb;have:ix (fun x:aP=>x.contains b) L=some j:=zG hj (by simpa using hb) (fun m y hm hy=>by
   have hy':b∈y:=by simpa using hy
   exact cq fun hne=>by
    have key:∀(L:List aP),L.flatten.Nodup->∀(p q:Nat) x y,L[p]?=some x->L[q]?=some y->b∈x->b∈y->p=q:=by
     intro L
     induction L with
     |nil=>intro _ p q x y hp;simp at hp
     |cons z L ih=>
      intro hnd p q x y hp hq xD hby;simp only[dR]at hnd;obtain⟨m1,m2,m3⟩:=bA.1 hnd;cases p with
      |zero=>
       cases q with
       |zero=>rfl
       |succ q=>
        simp at hp hq;subst hp;exact absurd rfl (m3 b xD b (dA.2 ⟨y,aB hq,hby⟩))
      |succ p=>
       cases q with
       |zero=>
        simp at hp hq;subst hq;exact absurd rfl (m3 b hby b (dA.2 ⟨x,aB hp,xD⟩))
       |succ q=>simp at hp hq;rw[ih m2 p q x y hp hq xD hby]
    exact hne (key L ZN m j y x hm hj hy' hb))
  simp only[ρ',this]
 have Kr:∀b,b∉c1->ρ' b=ρ b:=by
  intro b hb;simp only[ρ'];cases hi:ix (fun x:aP=>x.contains b) L with
  |none=>rfl
  |some j=>
   obtain⟨x,hx',hp⟩:=td hi;exact absurd (by rw[<-q3];exact dA.2 ⟨x,aB hx',by simpa using hp⟩) hb
 have a4P:id<N:=(aD.1 hH).1;have key:∀(j:Nat) y,(st.H.set id (.row (.mv (i+1)) e sz rows)++(qX st.H.length r).2)[j]?=some y->(j=id/\y=.row (.mv (i+1)) e sz rows)\/(j≠id/\j<N/\st.H[j]?=some y)\/∃m,j=N+m/\(qX st.H.length r).2[m]?=some y:=by
  intro j y hj;by_cases hlt:j<N
  ·rw[aj (by simpa using hlt)]at hj;rcases vQ j y hj with h|⟨h1,h2⟩
   ·exact .inl h
   ·exact .inr (.inl ⟨h1,hlt,h2⟩)
  ·rw[av (by simpa using hlt)]at hj;exact .inr (.inr ⟨j-N,by omega,by simpa using hj⟩)
 have kk:gZ w w Θ Θ (id+2):=gZ.refl hs.own (by omega);have q9:=hs.lG kk hn hu;have hone:∀(j:Nat) u,κ' j=some u->u.oneCell'=true:=by
  intro j u hj;simp only[κ']at hj;split at hj
  ·exact hs.lM j u hj
  ·have hjl:j-N<(qX st.H.length r).2.length:=by rw[<-q1];exact(aD.1 hj).1
   obtain⟨_,u',_,_,r2,r3,_⟩:=q4 (j-N) _ (aV hjl);rw[hj]at r2;cases r2;exact r3
 have Jf:∀b∈c1,Θ b=0:=fun b hb=>(hu.free b (by rw[hρ b (by simp[hb])];omega)).1
 have hs':cz Γ ⟨st.σ,st.H.set id (.row (.mv (i+1)) e sz rows)++(qX st.H.length r).2⟩ κ' Θ a w:=by
  refine hs.step kk hs.mine hn (fun j hj=>?_) hone (fun j y hj=>?_) ⟨ρ',fun b hb=>?_,fun j e2 Oa eY hj=>?_,fun j y hj=>?_⟩
  ·simp only[aM,bQ]at hj;simp only[κ'];rw[b9 (by omega)];exact cD (by rw[q1];exact Nat.le_sub_of_add_le' hj)
  ·rcases key j y hj with⟨rfl,rfl⟩|⟨h1,h2,h3⟩|⟨m,rfl,hm⟩
   ·exact .inr (.inr ⟨Xn,hrl,_,cs0,bs0,hn _ _ hk,WW,a2M,hΘ,uN⟩)
   ·exact .inr (.inl ⟨by omega,h3⟩)
   ·obtain⟨cm,u,b,rfl,r2,r3,r4,r5⟩:=q4 m y hm;exact .inr (.inr ⟨u,b,hk' m u r2,r5,fun x hx'=>Jf x (by rw[<-q3];exact dA.2 ⟨b,aB r4,hx'⟩)⟩)
  ·by_cases hb':b∈c1
   ·exact q9.1 b (by rw[hρ b (by simp[hb'])];omega)
   ·rw[Kr b hb']at hb;exact q9.1 b hb
  ·rcases key j _ hj with⟨_,h⟩|⟨h1,h2,h3⟩|⟨m,rfl,hm⟩
   ·cases h
   ·obtain⟨v',cs',bs',p1,p2,p3,p4,p5⟩:=q9.2.1 j e2 Oa eY (by omega) h3;refine⟨v',cs',bs',p1,p2,p3,p4,fun b hb=>?_⟩;rw[Kr b (fun hb'=>by have:=hρ b (by simp[hb']);have:=p5 b hb;omega)];exact p5 b hb
   ·obtain⟨_,_,_,h,_⟩:=q4 m _ hm;cases h
  ·rcases key j _ hj with⟨rfl,rfl⟩|⟨h1,h2,h3⟩|⟨m,rfl,hm⟩
   ·refine⟨_,cs,c2,hn _ _ hk,hown,?_,n2,fun b hb=>?_⟩
    ·have e1:cs.drop ((i+1)*sz)=v2:=by
      rw[iT,kP,<-fU,Ib];exact eg l1
     rw[e1];exact k2
    ·rw[Kr b (fun hb'=>n3 b hb' b hb rfl)];exact hρ b (by simp[hb])
   ·refine(q9.2.2 j y (by omega) h3).re fun b hb=>?_
    rw[Kr b (fun hb'=>by have:=hρ b (by simp[hb']);omega)];exact hb
   ·obtain⟨cm,u,b,rfl,r2,r3,r4,r5⟩:=q4 m y hm;have hsub:∀x∈b,ρ' x=N+m+1:=fun x hx'=>Zx m b x r4 hx'
    have a1j:b.Nodup:=by
     have YE:∀(L:List aP),L.flatten.Nodup->∀x∈L,x.Nodup:=by
      intro L
      induction L with
      |nil=>intro _ x hx';cases hx'
      |cons z L ih=>
       intro hnd x hx';simp only[dR]at hnd;obtain⟨m1,m2,_⟩:=bA.1 hnd;rcases bG.1 hx' with rfl|hx'
       ·exact m1
       ·exact ih m2 x hx'
     exact YE L ZN b (aB r4)
    exact⟨u,b,hk' m u r2,r5,a1j,hsub⟩
 refine hK _ _ (h κ' Θ _ w (hs'.set (t:=t) ht (.v (.agg v1 _ [] (q5 κ' hk'))) (by simp)))
theorem yb{o:Oper}{t:Nat}{d:D}{A A':List An}{p:yc}(hd:o.dst=some t)(hg:o.guard=none)(ht:t<Γ.nt)(hv:DJ P st o.op A=some (d,A',p))(hp:tP p)(h:AO P Γ all rest Q ⟨(t,d)::st.σ,st.H⟩):
 AO P Γ all (o::rest) Q st:=WH hd hg ht (Pp hv hp) h
theorem Pu{o:Oper}{s id e sz:Nat}{k:RK}{rows:List aK}(hx:lk st.σ s=.acc id)(hH:st.H[id]?=some (.row k e sz rows))(hk:k.L8=true)
 (h:AO P Γ all (o::rest) Q ⟨(s,.sl rows)::st.σ,st.H.set id .gone⟩):AO P Γ all (o::rest) Q st:=by
 intro κ Θ a w hs;obtain⟨ρ,hu⟩:=hs.qA;obtain⟨Θ',ρ',hs',_,⟨v,bs,hkm,hrd,hz,_⟩,_⟩:=hs.YM hu hH hk;obtain⟨bx,rx,_⟩:=hs.slot s;rw[hx]at rx;obtain⟨Zf,_⟩:=rx.rQ;have hv:a.tmps.getD s undef=v:=by rw[hkm]at Zf;cases Zf;rfl
 refine h κ Θ' a w ⟨hs'.defers,hs'.size,hs'.mT,hs'.lM,fun u=>?_,hs'.ob,hs'.own,hs'.old,hs'.mine,hs'.stays,hs'.qA⟩;show∃bs,oK w κ (a.tmps.getD u undef) (if u=s then .sl rows else lk st.σ u) bs/\_;by_cases q9:u=s
 ·subst q9;rw[bM rfl,hv];exact⟨bs,.of hrd,hz⟩
 ·rw[b9 q9];exact hs'.slot u
theorem mi(c:Call){callee:Callee}{xs:List Operand}{ts:List TypeId}(h1:c.callee=callee)(h2:c.args.toList=xs)(h3:c.argTypes.toList=ts):c= {callee:=callee,args:=xs.toArray,argTypes:=ts.toArray}:=by
 cases c;simp only at h1 h2 h3;subst h1;subst h2;subst h3;simp
theorem Kz{H H':bJ}{A A':List An}{p:yc}{σ:List (Nat×D)}(h:OH H A=some (H',A',p))(hp:tP p)(hn:AO P Γ all rest Q ⟨σ,H'⟩):AO P Γ all rest Q ⟨σ,H⟩:=by
 unfold OH at h;split at h
 ·split at h
  ·rename_i sz rows u p' n hH;split at h
   ·rename_i Oa eY u2 d hN hc;cases h;have he:=hp.2.1;subst he;exact Re (st:=⟨σ,H⟩) hH hN hp.1 hc hn
   ·cases h
  ·cases h
 ·cases h;exact hn
theorem KT{o:Oper}{A A':List An}{rO:St}{p:yc}{nt:Nat}(hnt:Γ.nt=nt)(hg:o.guard=none)(h:DZ P nt o st A=some (rO,A',p))(hp:tP p)(hn:AO P Γ all rest Q rO):AO P Γ all (o::rest) Q st:=by
 subst hnt;unfold DZ at h;split at h
 ·rename_i T x t hop hd;split at h
  ·split at h
   ·cases h;exact XE hop hd hg (by assumption) (by assumption) hn
   ·cases h
  ·cases h
 ·rename_i T t hop hd;split at h
  ·split at h
   ·cases h;exact RT hop hd hg (by assumption) (by assumption) hn
   ·cases h
  ·cases h
 ·rename_i T x y hop hd;split at h
  ·rename_i id off ds h1 h2;split at h
   ·rename_i ob h3;split at h
    ·rename_i cells h4;split at h
     ·rename_i hc;cases h;exact Rg hop hd hg h1 h3 h4 h2 hc.1 hc.2.1 hc.2.2 hn
     ·cases h
    ·cases h
   ·cases h
  ·rename_i id i sz off ds h1 h2;split at h
   ·rename_i sz' rows u _ r A1 h3;split at h
    ·rename_i hc;obtain⟨c1,c2,c3,rfl,c5,c6⟩:=hc;cases h;exact Pv hop hd hg h1 h3 hp.1 h2 c6 c1 c2 c3 c5 hn
    ·cases h
   ·rename_i k e sz' rows es ms r A1 h3 h4;split at h
    ·rename_i hc;obtain⟨c1,c2,rfl,c4,c5,c6,c7⟩:=hc;cases h;exact Li hop hd hg h1 h3 c4 hp.1 h2 h4 c6 c7 c1 c2 c5 hn
    ·cases h
   ·cases h
  ·cases h
 ·rename_i T t hop hd;split at h
  ·cases h;exact NQ hop hd hg (by assumption) hn
  ·cases h
 ·rename_i T x i y hop hd;split at h
  ·rename_i kd dz id m A1 h1 h2;split at h
   ·rename_i kv h3;split at h
    ·rename_i hc;cases h;exact KS hop hd hg h1 h2 h3 hc.1 hc.2 hp.1 hn
    ·cases h
   ·cases h
  ·cases h
 ·rename_i T x y t hop hd;split at h
  ·rename_i e sz k n k' n' h1 h2 h3;split at h
   ·rename_i zs h4;split at h
    ·rename_i hc;cases h;obtain⟨⟨rfl,q2,q3,q4⟩,_⟩:=hp;exact KR hop hd hg hc.1 h1 h4 hc.2 h2 h3 q2 q3 q4 hn
    ·cases h
   ·cases h
  ·cases h
 ·rename_i T len parts t hop hd;split at h
  ·rename_i e sz h1;split at h
   ·rename_i zs h2;split at h
    ·rename_i ds h3;split at h
     ·rename_i es ms h4;split at h
      ·rename_i hc;cases h;exact JP hop hd hg hc.1 h1 h2 hc.2.1 hc.2.2.1 h3 h4 hc.2.2.2 hn
      ·cases h
     ·cases h
    ·cases h
   ·cases h
  ·cases h
 ·rename_i c t hop hd;split at h
  ·rename_i s x T T' h1 h2 h3;split at h
   ·rename_i e sz h4;split at h
    ·rename_i zs rows u1 k1 eY u2 k2 A1 ow h5 h6 h7;split at h
     ·rename_i hc;obtain⟨c1,c2,rfl,c4⟩:=hc;cases h;obtain⟨⟨q1,q2⟩,q3⟩:=hp;exact XD (hop.trans (congrArg Op.call (mi c h1 h2 h3))) hd hg c1 h4 h5 c2 h6 h7 q3 c4 q1 q2 hn
     ·cases h
    ·cases h
   ·cases h
  ·rename_i x T h1 h2 h3;split at h
   ·rename_i id sz rows u h4;obtain⟨h5,h6⟩:=Im h4;split at h
    ·rename_i hc;cases h;exact Ui (hop.trans (congrArg Op.call (mi c h1 h2 h3))) hd hg hc.1 hc.2 h5 h6 hn
    ·cases h
   ·split at h
    ·split at h
     ·rename_i d A1 ow h4;cases h;exact yb hd hg (by assumption) h4 hp hn
     ·cases h
    ·cases h
  ·rename_i f xs ts h1;split at h
   ·rename_i ms outs d A1 h4;split at h
    ·rename_i ins h5;split at h
     ·rename_i hc;obtain⟨c1,c2,c3⟩:=hc;split at h
      ·rename_i H' A2 ow h6;cases h;exact Rb (hop.trans (congrArg Op.call (mi c h1 rfl rfl))) hd hg c1 c2 h5 (by simpa using c3) (by simpa using hp.1) (Kz h6 hp.2 hn)
      ·cases h
     ·cases h
    ·cases h
   ·rename_i nz cells' d A1 h4;split at h
    ·rename_i x0 xr h5;split at h
     ·rename_i id h6;split at h
      ·rename_i ob h7;split at h
       ·rename_i GN h8;split at h
        ·rename_i cells ds ms qs h9;split at h
         ·rename_i hc;obtain⟨c1,c2,c3⟩:=hc;cases h;exact Ra (hop.trans (congrArg Op.call (mi c h1 rfl rfl))) hd hg c1 (by simpa using h5) h6 h7 h8 h9 c2 c3 hp.1 hn
         ·cases h
        ·cases h
       ·cases h
      ·cases h
     ·cases h
    ·cases h
   ·rename_i ds ms cells A1 h4;split at h
    ·rename_i hc;obtain⟨c1,rfl⟩:=hc;cases h;exact RY (hop.trans (congrArg Op.call (mi c h1 rfl rfl))) hd hg c1 (by simpa using h4) hp.1 hn
    ·cases h
   ·rename_i ds ms d A1 h4;split at h
    ·rename_i hc;cases h;exact RU (hop.trans (congrArg Op.call (mi c h1 rfl rfl))) hd hg hc.1 (by simpa using h4) hc.2 hp.1 hn
    ·cases h
   ·rename_i id cm A1 h4;split at h
    ·rename_i e sz rows h5;split at h
     ·rename_i hc;obtain⟨c1,c3⟩:=hc;cases h;exact RZ (hop.trans (congrArg Op.call (mi c h1 rfl rfl))) hd hg c1 h5 hp.1 (by simpa using c3) (by simpa using hp.2.1) hn
     ·cases h
    ·cases h
   ·rename_i id cm A1 h4;split at h
    ·rename_i x k e sz rows h5 h6;split at h
     ·rename_i id' h7;split at h
      ·rename_i hc;obtain⟨c1,rfl,c3⟩:=hc;cases h;have e1:c.args= #[x]:=by rw[<-nT];simpa using h5
       refine RX (ts:=c.argTypes) (hop.trans (congrArg Op.call ?_)) (fun t' ht'=>?_) hg h7 h6 c3 hp.1 hp.2.1 ?_
       ·rw[<-e1];exact mi c h1 rfl rfl
       ·rw[hd]at ht';cases ht';exact c1
       ·rw[hd];exact hn
      ·cases h
     ·cases h
    ·cases h
   ·rename_i ds ms d A1 h4;split at h
    ·rename_i hc;cases h;exact Uf (hop.trans (congrArg Op.call (mi c h1 rfl rfl))) hd hg hc.1 (by simpa using h4) hc.2 hp.1 hn
    ·cases h
   ·rename_i d A1;split at h
    ·rename_i hc;cases h;exact RW (hop.trans (congrArg Op.call (mi c h1 rfl rfl))) hd hg hc.1 (by simpa using hc.2) (by simpa using hp.1) hn
    ·cases h
   ·rename_i nz d A1;split at h
    ·rename_i ds ms qs h9;split at h
     ·rename_i hc;obtain⟨c1,c2,c3⟩:=hc;cases h;exact RV (hop.trans (congrArg Op.call (mi c h1 rfl rfl))) hd hg c1 h9 c2 c3 hp.1 hn
     ·cases h
    ·cases h
   ·cases h
  ·split at h
   ·split at h
    ·rename_i d A1 ow h4;cases h;exact yb hd hg (by assumption) h4 hp hn
    ·cases h
   ·cases h
 ·rename_i s d x t hop hd;split at h
  ·rename_i id h1;split at h
   ·rename_i k e' sz' rows e sz h2 h3;split at h
    ·rename_i bs h4;split at h
     ·rename_i hc;obtain⟨c1,rfl,c3,c4⟩:=hc;cases h;exact Ug hop hd hg c1 h1 h2 h3 c3 c4 h4 hn
     ·cases h
    ·cases h
   ·cases h
  ·split at h
   ·split at h
    ·rename_i d A1 ow h4;cases h;exact yb hd hg (by assumption) h4 hp hn
    ·cases h
   ·cases h
 ·rename_i x t hop hd;split at h
  ·rename_i A1;split at h
   ·rename_i e sz h1 h2;split at h
    ·rename_i hc;cases h;exact XH hop hd hg hc.1 h1 hc.2 hn
    ·cases h
   ·cases h
  ·split at h
   ·cases h;exact WH hd hg (by assumption) (by rw[hop];rfl) hn
   ·cases h
 ·rename_i T x hi t hop hd;split at h
  ·rename_i id h1;split at h
   ·rename_i e sz rows e' sz' kk n hh A1 h2 h3 h4;split at h
    ·rename_i hc;obtain⟨c1,rfl⟩:=hc;cases h;exact Uh hop hd hg c1 h3 h1 h2 (by rw[h4,hp.1.1]) hp.1.2 hn
    ·cases h
   ·cases h
  ·split at h
   ·split at h
    ·rename_i d A1 ow h4;cases h;exact yb hd hg (by assumption) h4 hp hn
    ·cases h
   ·cases h
 ·rename_i T s lo t hop hd;split at h
  ·rename_i A0 id h1;split at h
   ·rename_i k e sz rows h2;split at h
    ·rename_i hc;split at h
     ·rename_i d A1 ow h4;cases h;exact Pu h1 h2 hc.2 (yb hd hg hc.1 h4 hp hn)
     ·cases h
    ·cases h
   ·cases h
  ·split at h
   ·split at h
    ·rename_i d A1 ow h4;cases h;exact yb hd hg (by assumption) h4 hp hn
    ·cases h
   ·cases h
 ·rename_i T x i t hop hd;split at h
  ·rename_i id sz rows u h1;obtain⟨h2,h3⟩:=Im h1;split at h
   ·rename_i e sz' k n m A1 h4 h5;split at h
    ·rename_i hc;obtain⟨c1,rfl⟩:=hc;cases h;exact XF hop hd hg c1 h4 h2 h5 h3 hp.1.1 hp.1.2 hn
    ·cases h
   ·cases h
  ·split at h
   ·split at h
    ·rename_i d A1 ow h4;cases h;exact yb hd hg (by assumption) h4 hp hn
    ·cases h
   ·cases h
 ·rename_i T x t hop hd;split at h
  ·rename_i id i off sz rows u h1;obtain⟨h2,h3⟩:=OF h1;split at h
   ·rename_i r A1 h4;split at h
    ·rename_i eY h5;split at h
     ·rename_i e Oa h6;split at h
      ·rename_i hc;cases h;exact Rf hop hd hg hc h4 h2 h3 hp.1 h5 hp.2.1 hn
      ·cases h
     ·cases h
    ·rename_i d _ h5;split at h
     ·rename_i hc;cases h;exact Rc hop hd hg hc.1 h4 h2 h3 hp.1 h5 hc.2 hn
     ·cases h
    ·cases h
   ·cases h
  ·split at h
   ·rename_i r A1 id i sz h1;split at h
    ·rename_i n e sz' rows h2;split at h
     ·rename_i hc;obtain⟨c1,rfl,c3,c4⟩:=hc;cases h;obtain⟨⟨rfl,q2,q3⟩,_⟩:=hp;exact Uj hop hd hg c1 h1 h2 q2 c3 c4 q3 hn
     ·cases h
    ·cases h
   ·split at h
    ·split at h
     ·rename_i d A1 ow h4;cases h;exact yb hd hg (by assumption) h4 hp hn
     ·cases h
    ·cases h
 ·split at h
  ·split at h
   ·rename_i d A1 ow h4;cases h;exact yb (by assumption) hg (by assumption) h4 hp hn
   ·cases h
  ·cases h
 ·cases h
theorem Ty{o:Oper}{A A':List An}{rO:St}{p:yc}{nt:Nat}(hnt:Γ.nt=nt)(h:DZ P nt o st A=some (rO,A',p)):∀ {t:Nat},o.dst=some t->t<Γ.nt:=by
 intro t ht;subst hnt;unfold DZ at h;split at h
 all_goals first
  | (rename_i hd;rw[ht]at hd;cases hd;done)
  |skip
 all_goals(try(rename_i hd;rw[ht]at hd;cases hd))
 all_goals(repeat' split at h)
 all_goals(try cases h)
 all_goals first
  |assumption
  | (
   have hc:_/\_:=by assumption
   exact hc.1)
  | (simp_all;done)
end
end Go.Cx
namespace Go.Cx
open Go.RowKit
abbrev dh:=List An
section
variable{P:Program}{Γ:pG}{Q:Exit->St->Prop}{st:St}{κ:Nat->Option Value}{Θ:Nat->Nat}{a:Act}{w:World}{all:Array Oper}{X:aP}
def vc(X:aP)(H H':bJ):Prop:=∀(i:Nat) o,i∉X->H[i]?=some o->H'[i]?=some o
theorem vc.refl{X:aP}(H:bJ):vc X H H:=fun _ _ _ h=>h
theorem vc.trans{X:aP}{A B C:bJ}(h:vc X A B)(k:vc X B C):vc X A C:=fun i o n e=>k i o n (h i o n e)
theorem vc.app{X:aP}{H H':bJ}(h:vc X H H')(n:bJ):vc X H (H'++n):=by
 intro i o hni hi;have:=h i o hni hi;rw[aj (aD.1 this).1,this]
theorem vc.cs{X:aP}{H H':bJ}(h:vc X H H'){i:Nat}{cs:aK}(hi:i∉X)(hc:(H[i]?).bind Ob.QE=some cs):(H'[i]?).bind Ob.QE=some cs:=by
 obtain⟨ob,hb,NN⟩:=kX.1 hc;rw[h i ob hi hb];exact NN
def zN(X:aP)(st:St):Op->Bool
 | .fieldAddr _ _ _=>true
 | .field _ _ _=>true
 | .extract _ _=>true
 | .move _=>true
 | .binOp _ _ _ _ _=>true
 | .unOp _ _ _=>true
 | .nilCheck _=>true
 | .convert _ _ _=>true
 | .index _ _ _=>true
 | .build _ _=>true
 | .indexAddr _ x _=>(match st.ev x with| .sl _=>true| .acc id=> !X.contains id|_=>false)
 | .load _ x=>(match st.ev x with| .ep _ _=>true| .ptr id _=> !X.contains id| .op id _ _ _=> !X.contains id|_=>false)
 |_=>false
theorem U0{X:aP}{σ σ':List (Nat×D)}{H H':bJ}{op:Op}{d:D}(hx:vc X H H')(hs:zN X ⟨σ,H⟩ op=true)(he:∀x∈op.operands.toList,St.ev ⟨σ,H⟩ x=St.ev ⟨σ',H'⟩ x)(h:pv P ⟨σ,H⟩ op=some d):pv P ⟨σ',H'⟩ op=some d:=by
 cases op<;>simp only[zN,vX]at hs<;>simp only[pv]at h⊢
 case move x=>rw[he x (by simp[Op.operands])]at*;exact h
 case nilCheck x=>rw[he x (by simp[Op.operands])]at h;exact h
 case binOp op t x y t'=>rw[he x (by simp[Op.operands]),he y (by simp[Op.operands])]at h;exact h
 case unOp op t x=>cases op<;>simp only[pv]at h⊢ <;>(try cases h)<;>(rw[he x (by simp[Op.operands])]at h;exact h)
 case convert s d x=>rw[he x (by simp[Op.operands])]at h;exact h
 case field t x f=>rw[he x (by simp[Op.operands])]at h;exact h
 case fieldAddr t x f=>rw[he x (by simp[Op.operands])]at h;exact h
 case indexAddr t x i=>
  rw[he x (by simp[Op.operands])]at hs;rw[he x (by simp[Op.operands]),he i (by simp[Op.operands])]at h;split at hs
  ·rename_i rows h0;rw[h0]at h⊢;generalize CL P t=a at h⊢;generalize St.ev ⟨σ',H'⟩ i=b at h⊢;cases a<;>cases b<;>exact h
  ·rename_i id h0;rw[h0]at h⊢;generalize CL P t=a at h⊢;generalize St.ev ⟨σ',H'⟩ i=b at h⊢;cases a<;>cases b<;>first|exact h|skip
   dsimp only at h⊢;cases hH:H[id]? with
   |none=>rw[hH]at h;cases h
   |some o=>rw[hx id o (by simpa using hs) hH];rw[hH]at h;exact h
  ·cases hs
 case load t x=>
  rw[he x (by simp[Op.operands])]at hs h;split at hs
  ·rename_i row off h0;rw[h0]at h⊢;generalize wU P t=a at h⊢;cases a<;>exact h
  ·rename_i id off h0;rw[h0]at h⊢;generalize wU P t=a at h⊢;cases a
   ·exact h
   ·dsimp only at h⊢;split at h
    ·rename_i cells hH;simp only[hx.cs (by simpa using hs) hH];exact h
    ·cases h
  ·rename_i id i sz off h0;rw[h0]at h⊢;generalize wU P t=a at h⊢;cases a
   ·exact h
   ·dsimp only at h⊢;cases hH:H[id]? with
    |none=>rw[hH]at h;cases h
    |some o=>rw[hx id o (by simpa using hs) hH];rw[hH]at h;exact h
  ·cases hs
 case extract x i=>rw[he x (by simp[Op.operands])]at h;exact h
 case index t x i=>rw[he x (by simp[Op.operands]),he i (by simp[Op.operands])]at h;exact h
 case build t parts=>
  have:(parts.toList.map fun p=>(p.1,St.ev ⟨σ,H⟩ p.2))=parts.toList.map fun p=>(p.1,St.ev ⟨σ',H'⟩ p.2):=by
   apply lD;intro p hp;rw[he p.2 (by simp only[Op.operands];simp;exact⟨p.1,by simpa using hp⟩)]
  rw[this]at h;exact h
def NX(xs acc:aP):aP:=xs.foldl (fun acc x=>bif acc.contains x then acc else x::acc) acc
theorem OG:∀ {xs acc:aP} {x:Nat},x∈NX xs acc->x∈xs\/x∈acc:=by
 intro xs
 induction xs with
 |nil=>intro acc x h;exact .inr h
 |cons y ys ih=>
  intro acc x h;rcases ih (acc:=bif acc.contains y then acc else y::acc) h with h|h
  ·exact .inl (by simp[h])
  ·cases hc:acc.contains y with
   |true=>rw[hc]at h;exact .inr h
   |false=>
    rw[hc]at h;rcases bG.1 h with rfl|h
    ·exact .inl (by simp)
    ·exact .inr h
def WN(acc:List aP)(es:List Edge):aP:=es.foldl (fun d e=>bif Region.binds .any e then NX (e.on::acc.getD e.on []) d else d) []
theorem Qm{acc:List aP}{es:List Edge}{i:Nat}(h:i∈WN acc es):∃e∈es,Region.binds .any e=true/\(i=e.on\/i∈acc.getD e.on []):=by
 have key:∀(es:List Edge) (d:aP),i∈es.foldl (fun d e=>bif Region.binds .any e then NX (e.on::acc.getD e.on []) d else d) d->i∈d\/∃e∈es,Region.binds .any e=true/\(i=e.on\/i∈acc.getD e.on []):=by
  intro es
  induction es with
  |nil=>intro d h;exact .inl h
  |cons e es ih=>
   intro d h;rcases ih _ h with h|⟨e',h1,h2⟩
   ·cases hb:Region.binds .any e with
    |false=>simp only[hb,ay]at h;exact .inl h
    |true=>
     simp only[hb,aa]at h;rcases OG h with h|h
     ·exact .inr ⟨e,by simp,hb,by simpa using h⟩
     ·exact .inl h
   ·exact .inr ⟨e',by simp[h1],h2⟩
 rcases key es [] h with h|h
 ·cases h
 ·exact h
def FZ(acc:List aP)(o:Oper):List aP:=acc++[WN acc o.after.toList]
def Nh(ops:List Oper):List aP:=ops.foldl FZ []
theorem V3{ops:Array Oper}{listed:Array Bool}(closed:∀(j:Nat) oj,ops[j]?=some oj->listed.getD j false=true->∀e∈oj.after,Region.binds .any e=true->listed.getD e.on false=true):
 ∀(l pre:List Oper) (acc:List aP),ops.toList=pre++l->acc.length=pre.length->
  (∀(j:Nat) o,ops[j]?=some o->(∀e∈o.after,Region.binds .any e=true->listed.getD e.on false=true)->∀i∈acc.getD j [],listed.getD i false=true)->
  ∀(j:Nat) o,ops[j]?=some o->(∀e∈o.after,Region.binds .any e=true->listed.getD e.on false=true)->∀i∈(l.foldl FZ acc).getD j [],listed.getD i false=true:=by
 intro l
 induction l with
 |nil=>intro pre acc _ _ h;exact h
 |cons o l ih=>
  intro pre acc hl ha h;refine ih (pre++[o]) (FZ acc o) (by simp[hl]) (by simp[FZ,ha]) ?_;intro j oj hj hall i hi;unfold FZ at hi;rw[j7]at hi;rcases sN j acc.length with hlt|heq|hgt
  ·rw[aj hlt,<-j7]at hi;exact h j oj hj hall i hi
  ·subst heq;rw[av (bH _),lI]at hi;simp only[xm,qZ]at hi;have ho:oj=o:=by
    rw[<-pX,hl,av (by omega),ha,lI]at hj;simpa using hj.symm
   subst ho;obtain⟨e,he,hb,hi⟩:=Qm hi;have he':e∈oj.after:=by simpa using he
   have hel:=hall e he' hb;rcases hi with rfl|hi
   ·exact hel
   ·cases hoe:ops[e.on]? with
    |none=>
     have h1:e.on<acc.length:=by
      rcases dL e.on acc.length with h|h
      ·exact h
      ·rw[j7,cD h]at hi;cases hi
     have h2:ops.size<=e.on:=by simpa using hoe
     have h3:ops.size=pre.length+(l.length+1):=by rw[<-qu,hl];simp
     omega
    |some oe=>exact h e.on oe hoe (closed e.on oe hoe hel) i hi
  ·rw[cD (by simp;omega)]at hi;cases hi
theorem uF{ops:Array Oper}{listed:Array Bool}(closed:∀(j:Nat) oj,ops[j]?=some oj->listed.getD j false=true->∀e∈oj.after,Region.binds .any e=true->listed.getD e.on false=true){j:Nat}(hj:j∈Region.ready .any ops listed){i:Nat}(hi:((Nh ops.toList).getD j []).contains i=true):listed.getD i false=true:=by
 obtain⟨_,o,ho,hall⟩:=mem_ready.1 hj;exact V3 closed ops.toList [] [] (by simp) rfl (by simp) j o ho hall i (List.contains_iff_mem.1 hi)
def S4(dp:List aP)(ops:Array Oper)(n m:Nat)(L:aP):Bool:=
 (decide (n<=m)&&decide (m<ops.size))&&
 (Region.seqB .any ops (ops.size-m) m (Array.replicate m true++Array.replicate (ops.size-m) false)&&
 (((List.range (ops.size-m)).all fun j=>(List.range m).all fun i=>(dp.getD (m+j) []).contains i)&&
 (((List.range (m-n)).all fun j=>(List.range (n+j)).all fun i=>(dp.getD (n+j) []).contains i||L.contains i)&&
 (((List.range m).all fun i=>match ops[i]? with|none=>false|some o=>o.after.all fun e=> !Region.binds .any e||decide (e.on<i))&&
 ((
  (List.range n).all fun i=>match ops[i]? with
  |none=>false
  |some o=>((o.looksAt ops).all fun t=>(List.range n).all fun j=>match ops[j]? with|some oj=> !(oj.dst==some t)||(decide (j<i)&&Region.waitsFor .any ops i j)|none=>true)&&
   (List.range n).all fun j=>j==i||(match ops[j]? with|some oj=> !(oj.dst==o.dst)||o.dst.isNone|none=>true))&&
 ((
  (List.range (m-n)).all fun j=>match ops[n+j]? with
  |none=>false
  |some o=>L.all fun i=>match ops[i]? with
   |none=>false
   |some oi=>(!(oi.dst==o.dst)&& !((oi.looksAt ops).any fun t=>o.dst==some t))&&((dp.getD (n+j) []).contains i|| !((o.looksAt ops).any fun t=>oi.dst==some t)))&&
 L.all fun i=>decide (i<n)&&(match ops[i]? with|some oi=>oi.guard.isNone&&oi.dst.isSome|none=>false)))))))
def IL(ops:Array Oper)(n m:Nat)(L:aP):Bool:=S4 (Nh ops.toList) ops n m L
def Step(P:Program)(Γ:pG)(o:Oper)(st uK:St):Prop:=
 ∀κ Θ a w,cz Γ st κ Θ a w->o.wp P a w (fun a' w'=>∃κ' Θ',cz Γ uK κ' Θ' a' w') (fun e _ _=>e=.normal)
def RS(P:Program)(Γ:pG)(X:aP)(K:St->Prop):List Oper->St->Prop
 | [],st=>K st
 |o::os,st=>∃uK,((∃t d,o.dst=some t/\t<Γ.nt/\uK.σ=(t,d)::st.σ)\/(o.dst=none/\uK.σ=st.σ))/\vc X st.H uK.H/\o.guard=none/\(∀cs b,o.op≠ .select cs b)/\Step P Γ o st uK/\RS P Γ X K os uK
theorem NJ{o:Oper}{a b:Act}{w:World}{K K2:Act->World->Prop}{Q1 Q2:Exit->Act->World->Prop}(hsel:∀cs b,o.op≠ .select cs b)(he:∀x∈o.op.operands,a.eval x=b.eval x)
 (hK:∀v w',K (b.put o.dst v) w'->K2 (a.put o.dst v) w') (hdf:∀d w',¬K ({b with defers:=d::b.defers}.put o.dst undef) w') (hQ:∀e c w',Q1 e c w'->e=.normal) (h:o.wp P b w K Q1):o.wp P a w K2 Q2:=by
 unfold Oper.wp at*;rw[execOp_congr o hsel he];generalize(execOp b.eval o).run P w=r at*;cases r with
 |ok n w'=>
  cases n with
  |value v=>exact hK _ _ h
  |skip=>exact hK _ _ h
  |defer d=>exact absurd h (hdf _ _)
  |enter f args=>
   refine Calls.mono h ?_;intro e w'' he;cases e with
   |returned v=>exact hK _ _ he
   |panicked c=>exact absurd (hQ _ _ _ he) (by simp)
   |outgrown=>
    obtain⟨a0,w0,hq⟩:=he;exact absurd (hQ _ _ _ hq) (by simp)
  |row r args=>exact Rows.mono h fun v w'' he=>hK _ _ he
  |_=>exact h.elim
 |halt x w'=>
  cases x with
  |panic u=>exact absurd (hQ _ _ _ h) (by simp)
  |_=>exact h.elim
theorem YL{l:List (Nat×D)}{σ:List (Nat×D)}(h:∀p∈l,p.2=.any){t:Nat}(ht:t∈l.map Prod.fst):lk (l++σ) t=.any:=by
 induction l with
 |nil=>cases ht
 |cons p l ih=>
  obtain⟨u,d⟩:=p;have hd:d=.any:=h (u,d) (by simp);subst hd;simp only[cv,lk];by_cases e:t=u
  ·rw[bM e]
  ·rw[b9 e];refine ih (fun p hp=>h p (by simp[hp])) ?_;simp only[bI,bG]at ht;rcases ht with h|h
   ·exact absurd h e
   ·exact h
theorem Ea(a:Act){t u:Nat}(v:Value)(h:u≠t):(a.put (some t) v).tmps.getD u undef=a.tmps.getD u undef:=by
 show(a.tmps.setIfInBounds t v).getD u undef=_;simp[bz,oJ h]
theorem Fv(a:Act){t:Nat}(v:Value)(h:t<a.tmps.size):(a.put (some t) v).tmps.getD t undef=v:=by
 show(a.tmps.setIfInBounds t v).getD t undef=_;simp[bz,h]
theorem count_set{m i:Nat}{listed:Array Bool}(hi:i<m)(hsz:i<listed.size)(hl:listed.getD i false=false):((List.range m).filter fun j=> !(listed.setIfInBounds i true).getD j false).length+1=((List.range m).filter fun j=> !listed.getD j false).length:=by
 have QW:((List.range m).filter fun j=> !(listed.setIfInBounds i true).getD j false)=((List.range m).filter fun j=> !listed.getD j false).erase i:=by
  have hnd:((List.range m).filter fun j=> !listed.getD j false).Nodup:=tg _ xo;rw[hnd.erase_eq_filter,vY];apply x6;intro j _;by_cases e:j=i
  ·subst e;simp[hsz]
  ·rw[getD_set_ne false (oJ e)];simp[e]
 have hmem:i∈(List.range m).filter fun j=> !listed.getD j false:=fV.2 ⟨bW.2 hi,by simp only[hl];rfl⟩
 have hpos:0<((List.range m).filter fun j=> !listed.getD j false).length:=yY hmem;rw[QW,nC hmem];omega
def Rk(P:Program)(Γ:pG)(X:aP)(l:List Oper)(σF:List (Nat×D))(H0:bJ)(i:Nat):Prop:=
 ∃o t d,l.toArray[i]?=some o/\o.guard=none/\o.dst=some t/\t<Γ.nt/\lk σF t=d/\∀σ' H',vc X H0 H'->(∀u∈o.looksAt l.toArray,lk σ' u=lk σF u)->pv P ⟨σ',H'⟩ o.op=some d
theorem MB{l:List Oper}{n m:Nat}{L:aP}{σF:List (Nat×D)}{H0:bJ}(hB:IL l.toArray n m L=true)(WU:∀i∈L,Rk P Γ X l σF H0 i):
 ∀(f c:Nat) (S:St) (listed:Array Bool) (σ':List (Nat×D)) (κ:Nat->Option Value) (Θ:Nat->Nat) (a:Act) (w:World),HeadInv .any l.toArray l.toArray.size listed->
  (∀i,i<n->i∉L->listed.getD i false=true)->n+c<=m->(∀i,n<=i->i<n+c->listed.getD i false=true)->(∀i,n+c<=i->i<l.toArray.size->listed.getD i false=false)->
  ((List.range m).filter fun i=> !listed.getD i false).length=f->
  (∀t,(∀(i:Nat) o,l.toArray[i]?=some o->n<=i->i<n+c->o.dst≠some t)->lk S.σ t=lk σF t)->vc X H0 S.H->
  RS P Γ X (fun rO=>AO P Γ l.toArray (l.drop m) Q rO) ((l.drop (n+c)).take (m-(n+c))) S->
  (∀t,(∀i∈L,∀o,l.toArray[i]?=some o->listed.getD i false=false->o.dst≠some t)->lk σ' t=lk S.σ t)->
  cz Γ ⟨σ',S.H⟩ κ Θ a w->
  wpAny P .any l.toArray (fun e a' w'=>∃rO κ' Θ',cz Γ rO κ' Θ' a' w'/\Q e rO) (f+(l.toArray.size-m)) listed a w:=by
 simp only[IL,S4,aX,bO]at hB;obtain⟨⟨hnm,IZ⟩,VD,SY,hmid,SF,SH,SP,hL⟩:=hB;have a1V:∀i,i<m->∃o,l.toArray[i]?=some o/\∀e∈o.after,Region.binds .any e=true->e.on<i:=by
  intro i hi;have:=au.1 SF i (bW.2 hi);split at this
  ·cases this
  ·rename_i o ho;refine⟨o,ho,fun e he hb=>?_⟩;have:=rS.1 this e he;simpa[hb]using this
 have Bv:∀i∈L,i<n:=by
  intro i hi;have:=au.1 hL i hi;simp only[aX,bO]at this;exact this.1
 have MQ:∀(i:Nat) o,i<n->l.toArray[i]?=some o->∀u∈o.looksAt l.toArray,∀(j:Nat) oj,j<n->l.toArray[j]?=some oj->oj.dst=some u->j<i/\Region.waitsFor .any l.toArray i j=true:=by
  intro i o hi ho u hu j oj hj uG hd;have:=au.1 SH i (bW.2 hi);simp only[ho,aX]at this;have:=au.1 (au.1 this.1 u hu) j (bW.2 hj);simpa[uG,hd]using this
 have Fo:∀(j:Nat) o,n<=j->j<m->l.toArray[j]?=some o->∀i∈L,∀oi,l.toArray[i]?=some oi->oi.dst≠o.dst/\(∀u∈oi.looksAt l.toArray,o.dst≠some u)/\(((Nh l.toArray.toList).getD j []).contains i=true\/∀u∈o.looksAt l.toArray,oi.dst≠some u):=by
  intro j o DU hj2 ho i hi oi Zi;have:=au.1 SP (j-n) (bW.2 (by omega));rw[show n+(j-n)=j from by omega]at this;simp only[ho]at this;have:=au.1 this i hi;simp only[Zi,aX,me,l6]at this;obtain⟨⟨h1,h2⟩,h3⟩:=this;refine⟨by simpa using h1,fun u hu he=>?_,h3.imp id fun h u hu he=>?_⟩
  ·have:=List.any_eq_false.1 h2 u hu;simp[he]at this
  ·have:=List.any_eq_false.1 h u hu;simp[he]at this
 intro f
 induction f with
 |zero=>
  intro c S listed σ' κ Θ a w inv hN hc hM hT lK hS hX hA hag hs;have hall:∀i,i<m->listed.getD i false=true:=by
   intro i hi;have h0:=cS lK;cases hl:listed.getD i false with
   |true=>rfl
   |false=>
    have:i∈(List.range m).filter fun i=> !listed.getD i false:=fV.2 ⟨bW.2 hi,by simp only[hl];rfl⟩
    rw[h0]at this;cases this
  have hcm:n+c=m:=by
   rcases dL (n+c) m with h|h
   ·have h1:=hall (n+c) h;rw[hT (n+c) (bH _) (by omega)]at h1;cases h1
   ·omega
  have SK:listed=Array.replicate m true++Array.replicate (l.toArray.size-m) false:=by
   apply Array.ext
   ·rw[inv.size];simp at IZ⊢;omega
   ·intro i h1 h2;by_cases hi:i<m
    ·have:=hall i hi;rw[we (by simpa using hi)];simp[h1]at this;simp[this]
    ·have hi':i<l.toArray.size:=by rw[<-inv.size];exact h1
     have:=hT i (by omega) hi';rw[vW (by simpa using hi)];simp[h1]at this;simp[this]
  rw[cY];rw[hcm,lI,List.take_zero]at hA;have hA:AO P Γ l.toArray (l.drop m) Q S:=hA;have hs2:=cz.same (st:=⟨σ',S.H⟩) (σ':=S.σ) (fun t=>hag t (fun i hi o ho hl=>by rw[hall i (by have:=Bv i hi;omega)]at hl;cases hl)) hs;have hwp:=hA κ Θ a w hs2;have hdl:(l.drop m).length=l.toArray.size-m:=by simp
  have:=wpAny_of_seq (md:=.any) (l.drop m) m listed a w (fun j=>by simp[dW]) (by rw[hdl,SK];exact VD) hwp
  rwa[hdl]at this
 |succ f ih=>
  intro c S listed σ' κ Θ a w inv hN hc hM hT lK hS hX hA hag hs;have hun:∃i,i<m/\listed.getD i false=false:=by
   have hne:((List.range m).filter fun i=> !listed.getD i false)≠[]:=by
    intro h0;rw[h0]at lK;simp at lK
   obtain⟨i,hi⟩:=ql _ hne;obtain⟨h1,h2⟩:=fV.1 hi;exact⟨i,bW.1 h1,by simpa using h2⟩
  have hsz:=inv.size;rw[show f+1+(l.toArray.size-m)=(f+(l.toArray.size-m))+1 from by omega];refine⟨fun h0=>?_,fun i hi=>?_⟩
  ·exfalso;obtain⟨i,⟨hin,Nw⟩,hmin⟩:=exists_least (p:=fun i=>i<m/\listed.getD i false=false) hun;obtain⟨o,ho,hed⟩:=a1V i hin;have:i∈Region.ready .any l.toArray listed:=by
    refine mem_ready.2 ⟨getD_in (by rw[hsz];omega) Nw,o,ho,fun e he hb=>?_⟩;have:=hed e he hb;cases hl:listed.getD e.on false with
    |true=>rfl
    |false=>have:=hmin e.on ⟨by omega,hl⟩;omega
   rw[h0]at this;cases this
  ·obtain⟨i0,hi0,hl0⟩:=hun;obtain⟨Nw,o,ho,hall⟩:=mem_ready.1 hi;have xQ:=getD_both Nw;have zF:i<l.toArray.size:=(az.1 ho).1;have him:i<m:=by
    rcases dL i m with h|h
    ·exact h
    ·have h1:=au.1 SY (i-m) (bW.2 (by omega));have h2:=au.1 h1 i0 (bW.2 hi0);rw[show m+(i-m)=i from by omega]at h2;rw[uF inv.closed hi h2]at hl0;cases hl0
   have QW:=count_set him (by rw[hsz];exact zF) xQ;have oD:∀(j:Nat),(listed.setIfInBounds i true).getD j false=true↔(j=i\/listed.getD j false=true):=by
    intro j;by_cases e:i=j
    ·subst e;have:i<listed.size:=by rw[hsz];exact zF
     simp[this]
    ·rw[getD_set_ne false e];constructor
     ·exact .inr
     ·rintro(rfl|h)
      ·exact absurd rfl e
      ·exact h
   have a3O:∀(j:Nat),(listed.setIfInBounds i true).getD j false=false->j≠i/\listed.getD j false=false:=by
    intro j h;refine⟨fun e=>?_,?_⟩
    ·have:=(oD j).2 (.inl e);rw[this]at h;cases h
    ·cases h2:listed.getD j false with
     |false=>rfl
     |true=>have:=(oD j).2 (.inr h2);rw[this]at h;cases h
   rcases dL i n with hin|hin
   ·
    have WT:i∈L:=by
     by_cases h:i∈L
     ·exact h
     ·rw[hN i hin h]at xQ;cases xQ
    obtain⟨o',t,d,ho',hg,hd,htn,hdF,hpv⟩:=WU i WT;rw[ho]at ho';cases ho';have MT:∀u∈o.looksAt l.toArray,lk σ' u=lk σF u:=by
     intro u hu;rw[hag u,hS u]
     ·intro j oj uG DU hj2 he;exact(Fo j oj DU (by omega) uG i WT o ho).2.1 u hu he
     ·intro j hj oj uG hlj he;obtain⟨h1,h2⟩:=MQ i o hin ho u hu j oj (Bv j hj) uG he;obtain⟨o2,ho2,e,ER,hb,hon⟩:=Region.waitsFor_spec h2;rw[ho]at ho2;cases ho2;have:=hall e ER hb;rw[hon,hlj]at this;cases this
    have hp:=hpv σ' S.H hX MT;obtain⟨v,bs,hrun,hrd,hz⟩:=C3 (st:=⟨σ',S.H⟩) hs hp;refine wX ho (by simp[Region.wanted,hg]) ?_;unfold Oper.wp;rw[hrun,Oper.upon_value,hd];refine ih c S (listed.setIfInBounds i true) ((t,d)::σ') κ Θ _ w (inv.set hi zF) ?_ hc ?_ ?_ (by omega) hS hX hA ?_ (hs.set (st:=⟨σ',S.H⟩) htn hrd hz)
    ·intro j hj hjL;exact(oD j).2 (.inr (hN j hj hjL))
    ·intro j DU hj2;exact(oD j).2 (.inr (hM j DU hj2))
    ·intro j DU hj2;rw[getD_set_ne false (by omega)];exact hT j DU hj2
    ·intro u hu;simp only[lk];by_cases e:u=t
     ·rw[bM e,e,hS t,hdF];intro j oj uG DU hj2 he;exact(Fo j oj DU (by omega) uG i WT o ho).1 (by rw[hd,he])
     ·rw[b9 e];refine hag u fun j hj oj uG hlj he=>?_
      by_cases hji:j=i
      ·subst hji;rw[ho]at uG;cases uG;rw[hd]at he;cases he;exact e rfl
      ·exact hu j hj oj uG (by rw[getD_set_ne false (oJ hji)];exact hlj) he
   ·
    have hic:i=n+c:=by
     rcases sN i (n+c)with h|h|h
     ·rw[hM i hin h]at xQ;cases xQ
     ·exact h
     ·have h1:=au.1 hmid (i-n) (bW.2 (by omega));rw[show n+(i-n)=i from by omega]at h1;have h2:=au.1 h1 (n+c) (bW.2 h);simp only[l6]at h2;rcases h2 with h2|h2
      ·have:=uF inv.closed hi h2;rw[hT (n+c) (bH _) (by omega)]at this;cases this
      ·have:=Bv (n+c) (by simpa using h2);omega
    subst hic;have SE:(l.drop (n+c)).take (m-(n+c))=o::(l.drop (n+(c+1))).take (m-(n+(c+1))):=by
     have h1:l[n+c]?=some o:=by simpa using ho
     have h2:(n+c)<l.length:=(aD.1 h1).1;have h3:l[n+c]=o:=(aD.1 h1).2;rw[qk h2,h3,show m-(n+c)=(m-(n+(c+1)))+1 from by omega,qv];rfl
    rw[SE]at hA;obtain⟨S1,Kk,hX1,hgm,hsel,hstep,hA1⟩:=hA;have a27:∀u,o.dst≠some u->lk S1.σ u=lk S.σ u:=by
     intro u hu;rcases Kk with⟨tm,dm,V9,htm,Xu⟩|⟨_,Xu⟩
     ·rw[Xu];simp only[lk];rw[b9 (fun e=>hu (by rw[V9,e]))]
     ·rw[Xu]
    have Zl:∀(b:Act) (v:Value),(b.put o.dst v).tmps.size=b.tmps.size:=by
     intro b v;rcases Kk with⟨tm,dm,V9,_,_⟩|⟨V9,_⟩
     ·rw[V9];show(b.tmps.setIfInBounds tm v).size=_;simp
     ·rw[V9];rfl
    have Zk:∀(b:Act) (v:Value),(b.put o.dst v).defers=b.defers:=by
     intro b v;cases o.dst<;>rfl
    have fill:∀k,k<=n->∃(ak:Act) (σk:List (Nat×D)),cz Γ ⟨σk,S.H⟩ κ Θ ak w/\(∀u,(∀j∈L,∀oj,l.toArray[j]?=some oj->listed.getD j false=false->k<=j->oj.dst≠some u)->lk σk u=lk S.σ u)/\
     (∀u,(∀j∈L,∀oj,l.toArray[j]?=some oj->listed.getD j false=false->oj.dst≠some u)->ak.tmps.getD u undef=a.tmps.getD u undef):=by
     intro k
     induction k with
     |zero=>intro _;exact⟨a,σ',hs,fun u hu=>hag u (fun j hj oj uG hl=>hu j hj oj uG hl (Af _)),fun _ _=>rfl⟩
     |succ k ihk=>
      intro hk;obtain⟨ak,σk,hsk,XT,hek⟩:=ihk (by omega);by_cases Ze:k∈L/\listed.getD k false=false
      ·obtain⟨hkL,hkF⟩:=Ze;obtain⟨ok,t,d,hok,hg,hd,htn,hdF,hpv⟩:=WU k hkL;have MT:∀u∈ok.looksAt l.toArray,lk σk u=lk σF u:=by
        intro u hu;rw[XT u,hS u]
        ·intro j oj uG DU hj2 he;exact(Fo j oj DU (by omega) uG k hkL ok hok).2.1 u hu he
        ·intro j hj oj uG hlj hkj he;obtain⟨h1,h2⟩:=MQ k ok (by omega) hok u hu j oj (Bv j hj) uG he;omega
       have hp:=hpv σk S.H hX MT;obtain⟨v,bs,hrun,hrd,hz⟩:=C3 (st:=⟨σk,S.H⟩) hsk hp;refine⟨ak.put (some t) v,(t,d)::σk,hsk.set (st:=⟨σk,S.H⟩) htn hrd hz,?_,?_⟩
       ·intro u hu;simp only[lk];by_cases e:u=t
        ·rw[bM e,e,hS t,hdF];intro j oj uG DU hj2 he;exact(Fo j oj DU (by omega) uG k hkL ok hok).1 (by rw[hd,he])
        ·rw[b9 e];refine XT u fun j hj oj uG hlj hkj he=>?_
         by_cases hjk:j=k
         ·subst hjk;rw[hok]at uG;cases uG;rw[hd]at he;cases he;exact e rfl
         ·exact hu j hj oj uG hlj (by omega) he
       ·intro u hu;rw[Ea _ _ (fun e=>hu k hkL ok hok hkF (by rw[hd,e])),hek u hu]
      ·refine⟨ak,σk,hsk,fun u hu=>XT u fun j hj oj uG hlj hkj=>?_,hek⟩;by_cases hjk:j=k
       ·subst hjk;exact absurd ⟨hj,hlj⟩ Ze
       ·exact hu j hj oj uG hlj (by omega)
    obtain⟨an,σn,hsn,a1g,hen⟩:=fill n (bH _);have hsS:=cz.same (st:=⟨σn,S.H⟩) (σ':=S.σ) (fun u=>a1g u (fun j hj oj uG _ hnj=>by have:=Bv j hj;omega)) hsn;have hwp:=hstep κ Θ an w hsS;refine wX ho (by simp[Region.wanted,hgm]) (NJ (Q2:=_) hsel ?_ ?_ ?_ (fun e _ _ h=>h) hwp)
    ·intro x hx;cases x with
     |tmp u=>
      refine(hen u fun j hj oj uG hlj he=>?_).symm;have hu:u∈o.looksAt l.toArray:=by
       unfold Oper.looksAt;exact aU.2 (.inl (bt.2 ⟨.tmp u,by simpa using hx,rfl⟩))
      rcases(Fo (n+c) o (by omega) him ho j hj oj uG).2.2 with h|h
      ·rw[uF inv.closed hi h]at hlj;cases hlj
      ·exact h u hu he
     |const v=>rfl
     |global g=>rfl
     |func f=>rfl
    ·rintro v w' ⟨κ',Θ',hs'⟩;let late:List (Nat×D):=(L.filterMap fun j=>bif listed.getD j false then none else(l.toArray[j]?).bind (·.dst)).map fun u=>(u,D.any)
     have MR:∀u,u∈late.map Prod.fst↔∃j∈L,∃oj,l.toArray[j]?=some oj/\listed.getD j false=false/\oj.dst=some u:=by
      intro u;simp only[late,List.map_map,cO,bt,Function.comp];constructor
      ·rintro⟨x,⟨j,hj,hx⟩,rfl⟩;cases hl:listed.getD j false with
       |true=>rw[hl]at hx;cases hx
       |false=>
        rw[hl,ay]at hx;cases uG:l.toArray[j]? with
        |none=>rw[uG]at hx;cases hx
        |some oj=>rw[uG]at hx;exact⟨j,hj,oj,uG,hl,hx⟩
      ·rintro⟨j,hj,oj,uG,hl,hx⟩;exact⟨u,⟨j,hj,by rw[hl,ay,uG];exact hx⟩,rfl⟩
     have hs2:cz Γ ⟨late++S1.σ,S1.H⟩ κ' Θ' (a.put o.dst v) w':=by
      refine⟨by rw[Zk];exact hs.defers,by rw[Zl];exact hs.size,hs'.mT,hs'.lM,?_,hs'.ob,hs'.own,hs'.old,hs'.mine,hs'.stays,hs'.qA⟩;intro u;show∃bs,oK w' κ' _ (lk (late++S1.σ) u) bs/\_;by_cases hu:u∈late.map Prod.fst
      ·rw[YL (fun p hp=>by simp only[late,cO]at hp;obtain⟨_,_,rfl⟩:=hp;rfl) hu];exact⟨[],.of (.any _),by simp⟩
      ·rw[Bx _ _ _ (fun p hp e=>hu (cO.2 ⟨p,hp,e⟩))];have e1:(a.put o.dst v).tmps.getD u undef=(an.put o.dst v).tmps.getD u undef:=by
        have e0:=(hen u fun j hj oj uG hlj he=>hu ((MR u).2 ⟨j,hj,oj,uG,hlj,he⟩)).symm;rcases Kk with⟨tm,dm,V9,htm,_⟩|⟨V9,_⟩
        ·rw[V9];by_cases e:u=tm
         ·subst e;rw[Fv _ _ (by rw[hs.size];exact htm),Fv _ _ (by rw[hsn.size];exact htm)]
         ·rw[Ea _ _ e,Ea _ _ e];exact e0
        ·rw[V9];exact e0
       rw[e1];exact hs'.slot u
     refine ih (c+1) S1 (listed.setIfInBounds (n+c) true) (late++S1.σ) κ' Θ' _ w' (inv.set hi zF) ?_ (by omega) ?_ ?_ (by omega) ?_ (hX.trans hX1) hA1 ?_ hs2
     ·intro j hj hjL;exact(oD j).2 (.inr (hN j hj hjL))
     ·intro j DU hj2;by_cases e:j=n+c
      ·exact(oD j).2 (.inl e)
      ·exact(oD j).2 (.inr (hM j DU (by omega)))
     ·intro j DU hj2;rw[getD_set_ne false (by omega)];exact hT j (by omega) hj2
     ·intro u hu;rw[a27 u (hu (n+c) o ho (by omega) (by omega))];exact hS u fun j oj uG DU hj2=>hu j oj uG DU (by omega)
     ·intro u hu;rw[Bx];intro p hp e;obtain⟨j,hj,oj,uG,hl,he⟩:=(MR u).1 (cO.2 ⟨p,hp,e⟩);refine hu j hj oj uG ?_ he;rw[getD_set_ne false (by have:=Bv j hj;omega)];exact hl
    ·rintro d w' ⟨κ',Θ',hs'⟩;have:=hs'.defers;cases hod:o.dst<;>rw[hod]at this<;>cases this
theorem HE{p:Nat->Bool}{n:Nat}:∀(k:Nat),(∀i,n<=i->i<n+k->p i=true)->((List.range (n+k)).filter p).length=((List.range n).filter p).length+k
 |0,_=>rfl
 |k+1,h=>by
  rw[<-nD,List.range_succ,List.filter_append,aM,HE k (fun i h1 h2=>h i h1 (by omega))];have:p (n+k)=true:=h (n+k) (by omega) (by omega);simp[this];omega
def Jn(P:Program)(Γ:pG)(ops:Array Oper)(Q:Exit->St->Prop)(st:St):Prop:=
 ∀κ Θ a w,cz Γ st κ Θ a w->wpAny P .any ops (fun e a' w'=>∃rO κ' Θ',cz Γ rO κ' Θ' a' w'/\Q e rO) ops.size (Array.replicate ops.size false) a w
theorem Jn.aw{id:Nat}{ops:Array Oper}(hm:P.follows .mixedOrders=true)(h:Jn P Γ ops Q st):AW P Γ (.region id ops true) Q st:=
 fun κ Θ a w hs=>wp_region_any hm (h κ Θ a w.drew hs.drew)
theorem Q4{l:List Oper}(n m:Nat)(L:aP)(hB0:IL l.toArray n m L=true)
 (h:Gt P Γ l.toArray st.H (fun σ acc=>(∀i∈L,∀o,l[i]?=some o->zN X ⟨σ,st.H⟩ o.op=true)/\RS P Γ X (fun rO=>AO P Γ l.toArray (l.drop m) Q rO) ((l.drop n).take (m-n)) ⟨σ,st.H++acc⟩) (l.take n) st.σ [] []):Jn P Γ l.toArray Q st:=by
 have hB:=hB0;simp only[IL,S4,aX,bO]at hB;obtain⟨⟨hnm,IZ⟩,VD,SY,hmid,SF,SH,SP,hL⟩:=hB;have hn:n<l.toArray.size:=by omega
 have Gy:((List.range n).all fun i=>match l.toArray[i]? with
  |none=>false
  |some o=>(o.after.all fun e=> !Region.binds .any e||decide (e.on<i))&&
   ((o.looksAt l.toArray).all fun t=>(List.range n).all fun j=>match l.toArray[j]? with|some oj=> !(oj.dst==some t)||(decide (j<i)&&Region.waitsFor .any l.toArray i j)|none=>true)&&
   (List.range n).all fun j=>j==i||(match l.toArray[j]? with|some oj=> !(oj.dst==o.dst)||o.dst.isNone|none=>true))=true:=by
  rw[au];intro i hi;have h1:=au.1 SF i (bW.2 (by have:=bW.1 hi;omega));have h2:=au.1 SH i hi;cases ho:l.toArray[i]? with
  |none=>rw[ho]at h1;cases h1
  |some o=>
   simp only[ho,aX]at h1 h2⊢;exact⟨⟨h1,h2.1⟩,h2.2⟩
 have Bv:∀i∈L,i<n:=by
  intro i hi;have:=au.1 hL i hi;simp only[aX,bO]at this;exact this.1
 obtain⟨ps,HP,hlen,IV,⟨hstill,hK⟩,hFl,ZK,hFu⟩:=Gt.unfold _ _ _ _ h;simp only[cC,b8,vE,cY]at IV hK hFl ZK hstill;have hn':n<l.length:=by simpa using hn
 have hpl:ps.length=n:=by rw[hlen];simp;omega
 have hop:∀(i:Nat),i<n->∃o p,l.toArray[i]?=some o/\ps[i]?=some p/\o.dst=p.t/\qJ P Γ l.toArray st.H (((ps.take i).filterMap Cp.sl).reverse++st.σ) o p/\p.r=st.H.length+((ps.take i).flatMap Cp.obs).length:=by
  intro i hi;have h1:l[i]?=some l[i]:=aV (by omega);have h2:ps[i]?=some ps[i]:=aV (by omega);have h3:=IV i l[i] ps[i] (by rw[cH,bM hi];exact h1) h2;exact⟨l[i],ps[i],by simp[iB,h1],h2,h3.1.slots,h3.1,h3.2.1⟩
 have O2:∀(i:Nat) p,ps[i]?=some p->p.r=st.H.length+((ps.take i).flatMap Cp.obs).length:=by
  intro i p hp;have hi:i<n:=by have:=(aD.1 hp).1;omega
  obtain⟨_,p',_,hp',_,_,hr⟩:=hop i hi;rw[hp]at hp';cases hp';exact hr
 have Kn:∀(i:Nat) p id ob,ps[i]?=some p->p.up=some (id,ob)->st.H.length<=id/\(∃zs ds,ob=.box ds/\zs.length=ds.length/\((ps.take i).flatMap Cp.obs)[id-st.H.length]?=some (.box zs))/\∀(i2:Nat) q xj,i2<i->ps[i2]?=some q->q.up≠some (id,xj):=by
  intro i p id ob hp he;have hi:i<n:=by have:=(aD.1 hp).1;omega
  have h1:l[i]?=some l[i]:=aV (by omega);have h3:=(IV i l[i] p (by rw[cH,bM hi];exact h1) hp).2.2 id ob he;exact⟨h3.2.1,h3.2.2.1,h3.2.2.2⟩
 have Sa:∀(i j:Nat) p q id ob xj,ps[i]?=some p->ps[j]?=some q->p.up=some (id,ob)->q.up=some (id,xj)->i=j:=by
  intro i j p q id ob xj hp hq he ER;rcases sN i j with h|h|h
  ·exact absurd he ((Kn j q id xj hq ER).2.2 i p ob h hp)
  ·exact h
  ·exact absurd ER ((Kn i p id ob hp he).2.2 j q xj h hq)
 have Sb:∀(i:Nat) p id ob,ps[i]?=some p->p.up=some (id,ob)->p.obs=[]:=by
  intro i p id ob hp he;have hi:i<n:=by have:=(aD.1 hp).1;omega
  obtain⟨_,p',_,hp',_,hc,_⟩:=hop i hi;rw[hp]at hp';cases hp';rcases hc.U8 with h|h
  ·rw[h]at he;cases he
  ·exact h
 have hfit:∀(i:Nat) p,ps[i]?=some p->p.r+p.obs.length<=st.H.length+(ps.flatMap Cp.obs).length:=by
  intro i p hp;rw[O2 i p hp,nJ hp];simp only[aM];omega
 have Kj:∀(i j:Nat) p q,ps[i]?=some p->ps[j]?=some q->i<j->p.r+p.obs.length<=q.r:=by
  intro i j p q hp hq hij;rw[O2 i p hp,O2 j q hq];have:=KC hp hij;omega
 have hdist:∀(i j:Nat) p q t,ps[i]?=some p->ps[j]?=some q->p.t=some t->q.t=some t->i=j:=by
  intro i j p q t hp hq he1 ER;have hi:i<n:=by have:=(aD.1 hp).1;omega
  have hj:j<n:=by have:=(aD.1 hq).1;omega
  obtain⟨oi,p',ho,hp',hdi,_⟩:=hop i hi;obtain⟨oj,q',uG,Jc,hdj,_⟩:=hop j hj;rw[hp]at hp';cases hp';rw[hq]at Jc;cases Jc;have:=au.1 Gy i (bW.2 hi);simp only[ho,aX]at this;have:=au.1 this.2 j (bW.2 hj);simp only[uG,hdi,hdj,he1,ER,cw,c8,rD,Option.isNone_some,rD,cR]at this;exact this.symm
 have Br:∀(i:Nat) p t,ps[i]?=some p->p.t=some t->∀q∈ps.filterMap Cp.sl,q.1=t->q=(t,p.d):=by
  intro i p t hp hpt q hq he;obtain⟨q',Jc,Gg⟩:=bt.1 hq;obtain⟨j,hj,rfl⟩:=dN.1 Jc;have Ej:ps[j]?=some ps[j]:=aV hj;unfold Cp.sl at Gg;cases VB:ps[j].t with
  |none=>rw[VB]at Gg;cases Gg
  |some u=>
   rw[VB]at Gg;simp only[cJ,ah]at Gg;subst Gg;simp only at he;subst he;have:=hdist j i _ p u Ej hp VB hpt;subst this;rw[hp]at Ej;cases Ej;rfl
 have hlk:∀(i:Nat) (o:Oper),i<n->l.toArray[i]?=some o->∀t∈o.looksAt l.toArray,lk (((ps.take i).filterMap Cp.sl).reverse++st.σ) t=lk ((ps.filterMap Cp.sl).reverse++st.σ) t:=by
  intro i o hin ho t ht;have Fc:=au.1 Gy i (bW.2 hin);simp only[ho,aX]at Fc;have Fc:=au.1 Fc.1.2 t ht;by_cases hex:∃(j:Nat) (q:Cp),ps[j]?=some q/\q.t=some t
  ·obtain⟨j,q,hq,HV⟩:=hex;have hj:j<n:=by have:=(aD.1 hq).1;omega
   obtain⟨oj,q',uG,Jc,hdj,_⟩:=hop j hj;rw[hq]at Jc;cases Jc;have:=au.1 Fc j (bW.2 hj);simp only[uG,hdj,HV,cw,c8,rC,aX,bO]at this;obtain⟨hji,_⟩:=this;rw[EV (ps.filterMap Cp.sl).reverse st.σ (t,q.d) (by rw[dB];exact bt.2 ⟨q,aB hq,by simp[Cp.sl,HV]⟩) (fun q2 Ej ER=>Br j q t hq HV q2 (by simpa using Ej) ER)];refine EV ((ps.take i).filterMap Cp.sl).reverse st.σ (t,q.d) ?_ (fun q2 Ej ER=>Br j q t hq HV q2 ?_ ER)
   ·rw[dB];exact bt.2 ⟨q,aB (i:=j) (by rw[cH,bM hji];exact hq),by simp[Cp.sl,HV]⟩
   ·obtain⟨q3,O3,uH⟩:=bt.1 (dB.1 Ej);exact bt.2 ⟨q3,cM O3,uH⟩
  ·have hno:∀q3∈ps,q3.t≠some t:=by
    intro q3 O3 he;obtain⟨j,hj,Zn⟩:=dN.1 O3;exact hex ⟨j,q3,by rw[<-Zn];exact aV hj,he⟩
   have Zq:∀(qs:List Cp),(∀q3∈qs,q3.t≠some t)->∀p∈(qs.filterMap Cp.sl).reverse,p.1≠t:=by
    intro qs Gg p hp he;obtain⟨q3,O3,uH⟩:=bt.1 (dB.1 hp);unfold Cp.sl at uH;cases hpt:q3.t with
    |none=>rw[hpt]at uH;cases uH
    |some u=>rw[hpt]at uH;simp only[cJ,ah]at uH;subst uH;simp only at he;exact Gg q3 O3 (by rw[hpt,he])
   rw[Bx _ _ _ (Zq _ hno),Bx _ _ _ (Zq _ (fun q3 O3=>hno q3 (cM O3)))]
 have Wa:∀i∈L,∃(o:Oper) (p:Cp),l.toArray[i]?=some o/\ps[i]?=some p/\p.obs=[]/\p.up=none/\Rk P Γ X l ((ps.filterMap Cp.sl).reverse++st.σ) st.H i:=by
  intro i hi;have hin:=Bv i hi;have h1:=au.1 hL i hi;obtain⟨o,p,ho,hp,hd,hc,_⟩:=hop i hin;simp only[ho,aX]at h1;have hg:o.guard=none:=by simpa using h1.2.1
  have hst:=hstill i hi o (by simpa using ho);rcases hc with⟨t,hpt,PL,hdt,htn,hc⟩|⟨_,_,hdt,_⟩
  ·have hc:En P st.H (((ps.take i).filterMap Cp.sl).reverse++st.σ) o p:=by
    rcases hc with⟨_,hc⟩|⟨_,_,_,_,hg',_⟩|⟨_,_,_,hg',_⟩
    ·exact hc
    ·rw[hg]at hg';cases hg'
    ·rw[hg]at hg';cases hg'
   have hpv:pv P ⟨((ps.take i).filterMap Cp.sl).reverse++st.σ,st.H⟩ o.op=some p.d/\p.obs=[]:=by
    rcases hc with(hc|⟨f,xs,ts,ds,ms,d,Ny,_⟩)| (⟨T,zs,Ny,_⟩|⟨T,x,ds,Ny,_⟩)|⟨T,e,sz,len,parts,zs,ds,es,Ny,_⟩|⟨T,e,sz,len,parts,zs,ds,Ny,_⟩
    ·exact hc
    all_goals(rw[Ny]at hst;simp[zN]at hst)
   refine⟨o,p,ho,hp,hpv.2,PL,o,t,p.d,ho,hg,hdt,htn,?_,?_⟩
   ·exact EV (ps.filterMap Cp.sl).reverse st.σ (t,p.d) (by rw[dB];exact bt.2 ⟨p,aB hp,by simp[Cp.sl,hpt]⟩) (fun q2 Ej ER=>Br i p t hp hpt q2 (by simpa using Ej) ER)
   ·intro σ' H' hX MT;have e1:pv P ⟨(ps.filterMap Cp.sl).reverse++st.σ,st.H⟩ o.op=some p.d:=LC (fun _ _ h=>h) (IN (st:=⟨_,st.H⟩) (rO:=⟨_,st.H⟩) (ops:=l.toArray) (o:=o) (fun t ht=>hlk i o hin ho t ht)) hpv.1;refine U0 hX hst ?_ e1;intro x hx;rw[MG σ' H' st.H x];exact(IN (st:=⟨σ',st.H⟩) (rO:=⟨_,st.H⟩) (ops:=l.toArray) (o:=o) (fun t ht=>MT t ht) x hx).symm
  ·have:o.dst.isSome=true:=h1.2.2;rw[hdt]at this;cases this
 intro κ Θ a w hs;have switch:∀(f:Nat) (listed:Array Bool) (σ':List (Nat×D)) (H':bJ) (κ:Nat->Option Value) (Θ:Nat->Nat) (a:Act) (w:World),HeadInv .any l.toArray n listed->
  ((List.range n).filter fun i=> !listed.getD i false).length=f->
  (∀(i:Nat) p t,ps[i]?=some p->p.t=some t->listed.getD i false=true->lk σ' t=p.d)->
  (∀t,(∀(i:Nat) p,ps[i]?=some p->listed.getD i false=true->p.t≠some t)->lk σ' t=lk st.σ t)->
  H'.length=st.H.length+(ps.flatMap Cp.obs).length->Ext st.H H'->
  (∀(i:Nat) p,ps[i]?=some p->listed.getD i false=true->∀(j:Nat) o,p.obs[j]?=some o->(∀(i2:Nat) q ob,ps[i2]?=some q->listed.getD i2 false=true->q.up≠some (p.r+j,ob))->H'[p.r+j]?=some o)->
  (∀(i:Nat) q id ob,ps[i]?=some q->listed.getD i false=true->q.up=some (id,ob)->H'[id]?=some ob/\∃v,κ id=some v)->
  (∀(i:Nat) p,ps[i]?=some p->listed.getD i false=false->∀j,j<p.obs.length->κ (p.r+j)=none)->
  cz Γ ⟨σ',H'⟩ κ Θ a w->(∀i,i<n->i∉L->listed.getD i false=true)->
  wpAny P .any l.toArray (fun e a' w'=>∃rO κ' Θ',cz Γ rO κ' Θ' a' w'/\Q e rO) (f+(l.toArray.size-n)) listed a w:=by
  intro f listed σ' H' κ Θ a w inv lK hA hB WQ RM PI UR PG hs hN;have WR:∀(i:Nat) p,ps[i]?=some p->(p.up≠none\/p.obs≠[])->listed.getD i false=true:=by
   intro i p hp hne;have hi:i<n:=by have:=(aD.1 hp).1;omega
   refine hN i hi fun WT=>?_
   obtain⟨_,p',_,hp',h1,h2,_⟩:=Wa i WT;rw[hp]at hp';cases hp';rcases hne with h|h
   ·exact h h2
   ·exact h h1
  have ES:∀t,(∀i∈L,∀o,l.toArray[i]?=some o->listed.getD i false=false->o.dst≠some t)->lk σ' t=lk ((ps.filterMap Cp.sl).reverse++st.σ) t:=by
   intro t hno;by_cases hex:∃(i:Nat) (p:Cp),ps[i]?=some p/\p.t=some t
   ·obtain⟨i,p,hp,hpt⟩:=hex;have hi:i<n:=by have:=(aD.1 hp).1;omega
    have hli:listed.getD i false=true:=by
     cases hl:listed.getD i false with
     |true=>rfl
     |false=>
      obtain⟨o,p',ho,hp',hd,_⟩:=hop i hi;rw[hp]at hp';cases hp';by_cases WT:i∈L
      ·exact absurd (by rw[hd,hpt]) (hno i WT o ho hl)
      ·rw[hN i hi WT]at hl;cases hl
    rw[hA i p t hp hpt hli];exact(EV (ps.filterMap Cp.sl).reverse st.σ (t,p.d) (by rw[dB];exact bt.2 ⟨p,aB hp,by simp[Cp.sl,hpt]⟩) (fun q hq he=>Br i p t hp hpt q (by simpa using hq) he)).symm
   ·rw[hB t (fun i p hp _ he=>hex ⟨i,p,hp,he⟩),Bx];intro q hq he;obtain⟨p,hp,hps⟩:=bt.1 (dB.1 hq);obtain⟨i,hi,hpi⟩:=dN.1 hp;refine hex ⟨i,p,by rw[<-hpi];exact aV hi,?_⟩;unfold Cp.sl at hps;cases hpt:p.t with
    |none=>rw[hpt]at hps;cases hps
    |some u=>rw[hpt]at hps;simp only[cJ,ah]at hps;subst hps;simp only at he;rw[he]
  have S8:H'=st.H++HP:=by
   apply mh;intro k;by_cases h1:k<st.H.length
   ·rw[aj h1];exact RM k _ (aV h1)|>.trans (aV h1).symm
   ·rw[av (by omega)];by_cases hex:∃(i:Nat) (q:Cp) (ob:Ob),ps[i]?=some q/\q.up=some (k,ob)
    ·obtain⟨i,q,ob,hq,he⟩:=hex;rw[(UR i q k ob hq (WR i q hq (.inl (by rw[he];simp))) he).1,hFu i q k ob hq he]
    ·have hno:∀(i:Nat) q ob,ps[i]?=some q->q.up≠some (k,ob):=fun i q ob hq he=>hex ⟨i,q,ob,hq,he⟩
     rw[ZK (k-st.H.length) (fun i q ob hq=>by rw[show st.H.length+(k-st.H.length)=k from by omega];exact hno i q ob hq)];by_cases h2:k-st.H.length<(ps.flatMap Cp.obs).length
     ·obtain⟨i,p,j,hp,hj,hk⟩:=vO h2;have e3:p.r+j=k:=by rw[O2 i p hp];omega
      have h3:=PI i p hp (WR i p hp (.inr (by intro e;rw[e]at hj;simp at hj))) j _ (aV hj) (fun i2 q ob hq _=>by rw[e3];exact hno i2 q ob hq);rw[e3]at h3;rw[h3,nJ hp,hk,av (by omega),ck,aj hj,aV hj]
     ·rw[cD (by omega),cD (by omega)]
  subst S8;have hsz:=inv.size;have hcm:((List.range m).filter fun i=> !listed.getD i false).length=f+(m-n):=by
   have:=HE (p:=fun i=> !listed.getD i false) (n:=n) (m-n) (fun i h1 h2=>by
    have:=getD_both (inv.tail i h1 (by omega));simp only[this];rfl)
   rw[show n+(m-n)=m from by omega]at this;rw[this,lK]
  have:=MB (Q:=Q) (H0:=st.H) hB0 (fun i hi=>by obtain⟨_,_,_,_,_,_,h⟩:=Wa i hi;exact h) (f+(m-n)) 0 ⟨(ps.filterMap Cp.sl).reverse++st.σ,st.H++HP⟩ listed σ' κ Θ a w
   ⟨hsz,inv.closed,fun t h1 h2=>absurd h2 (by omega)⟩ hN (by omega) (fun i h1 h2=>absurd h2 (by omega)) (fun i h1 h2=>getD_both (inv.tail i (by omega) h2)) hcm (fun _ _=>rfl)
   ((vc.refl _).app _) (by simpa using hK) ES hs
  rw[show f+(m-n)+(l.toArray.size-m)=f+(l.toArray.size-n)from by omega]at this;exact this
 have main:∀(f:Nat) (listed:Array Bool) (σ':List (Nat×D)) (H':bJ) (κ:Nat->Option Value) (Θ:Nat->Nat) (a:Act) (w:World),HeadInv .any l.toArray n listed->
  ((List.range n).filter fun i=> !listed.getD i false).length=f->
  (∀(i:Nat) p t,ps[i]?=some p->p.t=some t->listed.getD i false=true->lk σ' t=p.d)->
  (∀t,(∀(i:Nat) p,ps[i]?=some p->listed.getD i false=true->p.t≠some t)->lk σ' t=lk st.σ t)->
  H'.length=st.H.length+(ps.flatMap Cp.obs).length->Ext st.H H'->
  (∀(i:Nat) p,ps[i]?=some p->listed.getD i false=true->∀(j:Nat) o,p.obs[j]?=some o->(∀(i2:Nat) q ob,ps[i2]?=some q->listed.getD i2 false=true->q.up≠some (p.r+j,ob))->H'[p.r+j]?=some o)->
  (∀(i:Nat) q id ob,ps[i]?=some q->listed.getD i false=true->q.up=some (id,ob)->H'[id]?=some ob/\∃v,κ id=some v)->
  (∀(i:Nat) p,ps[i]?=some p->listed.getD i false=false->∀j,j<p.obs.length->κ (p.r+j)=none)->
  cz Γ ⟨σ',H'⟩ κ Θ a w->
  wpAny P .any l.toArray (fun e a' w'=>∃rO κ' Θ',cz Γ rO κ' Θ' a' w'/\Q e rO) (f+(l.toArray.size-n)) listed a w:=by
  intro f
  induction f with
  |zero=>
   intro listed σ' H' κ Θ a w inv lK hA hB WQ RM PI UR PG hs;have hall:∀i,i<n->listed.getD i false=true:=by
    intro i hi;have h0:=cS lK;cases hl:listed.getD i false with
    |true=>rfl
    |false=>
     have:i∈(List.range n).filter fun i=> !listed.getD i false:=fV.2 ⟨bW.2 hi,by simp[hl]⟩
     rw[h0]at this;cases this
   exact switch 0 listed σ' H' κ Θ a w inv lK hA hB WQ RM PI UR PG hs (fun i hi _=>hall i hi)
  |succ f ih=>
   intro listed σ' H' κ Θ a w inv lK hA hB WQ RM PI UR PG hs;by_cases hsw:∀i,i<n->i∉L->listed.getD i false=true
   ·exact switch (f+1) listed σ' H' κ Θ a w inv lK hA hB WQ RM PI UR PG hs hsw
   have a2V:∃i,i<n/\i∉L/\listed.getD i false=false:=by
    obtain⟨i,hi⟩:=Classical.not_forall.1 hsw;refine⟨i,?_⟩;by_cases h1:i<n
    ·by_cases h2:i∈L
     ·exact absurd (fun _ h=>absurd h2 h) hi
     ·refine⟨h1,h2,?_⟩;cases hl:listed.getD i false with
      |false=>rfl
      |true=>exact absurd (fun _ _=>hl) hi
    ·exact absurd (fun h=>absurd h h1) hi
   have hun:∃i,i<n/\listed.getD i false=false:=by
    have hne:((List.range n).filter fun i=> !listed.getD i false)≠[]:=by
     intro h0;rw[h0]at lK;simp at lK
    obtain⟨i,hi⟩:=ql _ hne;obtain⟨h1,h2⟩:=fV.1 hi;exact⟨i,bW.1 h1,by simpa using h2⟩
   have hsz:=inv.size;rw[show f+1+(l.toArray.size-n)=(f+(l.toArray.size-n))+1 from by omega];refine⟨fun h0=>?_,fun i hi=>?_⟩
   ·exfalso;obtain⟨i,⟨hin,Nw⟩,hmin⟩:=exists_least (p:=fun i=>i<n/\listed.getD i false=false) hun;obtain⟨o,p,ho,_,_,_⟩:=hop i hin;have:i∈Region.ready .any l.toArray listed:=by
     refine mem_ready.2 ⟨getD_in (by rw[hsz];omega) Nw,o,ho,fun e he hb=>?_⟩;have:=au.1 Gy i (bW.2 hin);simp only[ho,aX]at this;have:=rS.1 this.1.1 e he;simp only[hb,c8,rC,bO]at this;cases hl:listed.getD e.on false with
     |true=>rfl
     |false=>
      have:=hmin e.on ⟨by omega,hl⟩;omega
    rw[h0]at this;cases this
   ·obtain⟨i0,hi0,hl0⟩:=hun;have hin:i<n:=by
     rcases dL i n with h|h
     ·exact h
     ·obtain⟨i1,hi1,a1x,hl1⟩:=a2V;obtain⟨_,oi,Zi,_⟩:=mem_ready.1 hi;have zF:i<l.toArray.size:=(az.1 Zi).1;exfalso;rcases dL i m with hm1|hm1
      ·have h1:=au.1 hmid (i-n) (bW.2 (by omega));have h2:=au.1 h1 i1 (bW.2 (by omega));rw[show n+(i-n)=i from by omega]at h2;simp only[l6]at h2;rcases h2 with h2|h2
       ·rw[uF inv.closed hi h2]at hl1;cases hl1
       ·exact a1x (by simpa using h2)
      ·have h1:=au.1 SY (i-m) (bW.2 (by omega));have h2:=au.1 h1 i1 (bW.2 (by omega));rw[show m+(i-m)=i from by omega]at h2;rw[uF inv.closed hi h2]at hl1;cases hl1
    obtain⟨o,p,ho,hp,hd,hc,_⟩:=hop i hin;obtain⟨Nw,o',ho',hall⟩:=mem_ready.1 hi;rw[ho]at ho';cases ho';have xQ:=getD_both Nw;have V8:qJ P Γ l.toArray st.H σ' o p:=by
     refine qJ.congr (σ:=((ps.take i).filterMap Cp.sl).reverse++st.σ) (σ':=σ') ?_ hc;intro t ht;have Fc:=au.1 Gy i (bW.2 hin);simp only[ho,aX]at Fc;have Fc:=au.1 Fc.1.2 t ht;by_cases hex:∃(j:Nat) (q:Cp),ps[j]?=some q/\q.t=some t
     ·obtain⟨j,q,hq,HV⟩:=hex;have hj:j<n:=by have:=(aD.1 hq).1;omega
      obtain⟨oj,q',uG,Jc,hdj,_⟩:=hop j hj;rw[hq]at Jc;cases Jc;have:=au.1 Fc j (bW.2 hj);simp only[uG,hdj,HV,cw,c8,rC,aX,bO]at this;obtain⟨hji,Sc⟩:=this;obtain⟨oi',SU,e,he,hb,hon⟩:=Region.waitsFor_spec Sc;rw[ho]at SU;cases SU;have hjl:=hall e he hb;rw[hon]at hjl;rw[hA j q t hq HV hjl];refine EV ((ps.take i).filterMap Cp.sl).reverse st.σ (t,q.d) ?_ (fun q2 Ej ER=>Br j q t hq HV q2 ?_ ER)
      ·rw[dB];exact bt.2 ⟨q,aB (i:=j) (by rw[cH,bM hji];exact hq),by simp[Cp.sl,HV]⟩
      ·obtain⟨q3,O3,uH⟩:=bt.1 (dB.1 Ej);exact bt.2 ⟨q3,cM O3,uH⟩
     ·rw[hB t (fun j q hq _ he=>hex ⟨j,q,hq,he⟩),Bx];intro q hq he;obtain⟨q3,O3,uH⟩:=bt.1 (dB.1 hq);obtain⟨j,hj,Zn⟩:=dN.1 (cM O3);refine hex ⟨j,q3,by rw[<-Zn];exact aV hj,?_⟩;unfold Cp.sl at uH;cases hpt:q3.t with
      |none=>rw[hpt]at uH;cases uH
      |some u=>rw[hpt]at uH;simp only[cJ,ah]at uH;subst uH;simp only at he;rw[he]
    have hfp:=hfit i p hp;have SJ:∀id ob,p.up=some (id,ob)->∃v,κ id=some v:=by
     intro id ob he;rcases V8 with⟨_,_,h,_⟩|⟨_,_,_,_,T,x,y,id',ds,Ny,hx',_,_,_,_,PL⟩
     ·rw[h]at he;cases he
     ·rw[PL]at he;cases he;obtain⟨b1,r1,_⟩:=hs.ev x;rw[MG σ' H' st.H x,hx']at r1;obtain⟨g,hk,_⟩:=r1.xE;exact⟨_,hk⟩
    have SZ:∀id ob,p.up=some (id,ob)->∃zs ds,H'[id]?=some (.box zs)/\ob=.box ds/\zs.length=ds.length:=by
     intro id ob he;obtain⟨u1,⟨zs,ds,u2,u3,u4⟩,_⟩:=Kn i p id ob hp he;refine⟨zs,ds,?_,u2,u3⟩;obtain⟨i1,p1,j1,hp1,DU,hk1⟩:=vO (aD.1 u4).1;have O0:ps[i1]?=some p1:=by
      have:=(aD.1 hp1).1;rw[cH]at hp1;split at hp1
      ·exact hp1
      ·cases hp1
     have hi1:i1<i:=by have:=(aD.1 hp1).1;simp at this;omega
     have et:(ps.take i).take i1=ps.take i1:=by rw[qI,eD (by omega)]
     rw[et]at hk1;have e1:p1.r+j1=id:=by rw[O2 i1 p1 O0];omega
     have wY:p1.obs[j1]?=some (.box zs):=by
      rw[nJ hp1,et,hk1,av (by omega),ck,aj DU]at u4;exact u4
     have hl1:listed.getD i1 false=true:=by
      cases hl:listed.getD i1 false with
      |true=>rfl
      |false=>
       have h0:=PG i1 p1 O0 hl j1 DU;rw[e1]at h0;obtain⟨v,hv⟩:=SJ id ob he;rw[h0]at hv;cases hv
     have:=PI i1 p1 O0 hl1 j1 _ wY (fun i2 q xj hq hl ER=>by
      rw[e1]at ER;have:=Sa i i2 p q id ob xj hp hq he ER;subst this;rw[xQ]at hl;cases hl)
     rw[e1]at this;exact this
    refine V8.wp hs RM ho (by omega) (fun j hj=>PG i p hp xQ j hj) SZ fun κ' Θ' a' w' hs' hsame=>?_
    have oD:∀(j:Nat),(listed.setIfInBounds i true).getD j false=true↔(j=i\/listed.getD j false=true):=by
     intro j;by_cases e:i=j
     ·subst e;have:i<listed.size:=by rw[hsz];omega
      simp[this]
     ·rw[getD_set_ne false e];constructor
      ·exact .inr
      ·rintro(rfl|h)
       ·exact absurd rfl e
       ·exact h
    have hput:(p.xW H').length=H'.length:=by
     unfold Cp.xW;split
     ·simp
     ·exact qj (by omega)
    have Xg:∀(k:Nat),k<st.H.length->(p.xW H')[k]?=H'[k]?:=by
     intro k hk;unfold Cp.xW;split
     ·rename_i id ob he;have:=(Kn i p id ob hp he).1;rw[bw (by omega)]
     ·rw[qi (by omega),bM (by rw[O2 i p hp];omega)]
    refine ih (listed.setIfInBounds i true) (p.slot σ') (p.xW H') κ' Θ' a' w' (inv.set hi hin) ?_ ?_ ?_ (by rw[hput];exact WQ) ?_ ?_ ?_ ?_ hs'
    ·have QW:((List.range n).filter fun j=> !(listed.setIfInBounds i true).getD j false)=((List.range n).filter fun j=> !listed.getD j false).erase i:=by
      have hnd:((List.range n).filter fun j=> !listed.getD j false).Nodup:=tg _ xo;rw[hnd.erase_eq_filter,vY];apply x6;intro j _;by_cases e:j=i
      ·subst e;have:=(oD j).2 (.inl rfl);rw[this];simp
      ·rw[getD_set_ne false (oJ e)];simp[e]
     rw[QW,nC (fV.2 ⟨bW.2 hin,by simp[xQ]⟩),lK];rfl
    ·intro j q t hq HV hl;unfold Cp.slot;rcases(oD j).1 hl with rfl|zW
     ·rw[hp]at hq;cases hq;rw[HV];simp[lk]
     ·cases hpt:p.t with
      |none=>exact hA j q t hq HV zW
      |some u=>
       simp only[lk];rw[b9,hA j q t hq HV zW];intro e;have:=hdist j i q p t hq hp HV (by rw[hpt,e]);subst this;rw[xQ]at zW;cases zW
    ·intro t ht;unfold Cp.slot;have p8:=hB t (fun j q hq hl=>ht j q hq ((oD j).2 (.inr hl)));cases hpt:p.t with
     |none=>exact p8
     |some u=>
      simp only[lk];rw[b9 (fun e=>ht i p hp ((oD i).2 (.inl rfl)) (by rw[hpt,e]))];exact p8
    ·intro j y hj;rw[Xg j (aD.1 hj).1];exact RM j y hj
    ·intro j q hq hl k y hy hno;have Ze:=(aD.1 hy).1;unfold Cp.xW;split
     ·rename_i id ob he;have hne:q.r+k≠id:=fun e=>hno i p ob hp ((oD i).2 (.inl rfl)) (by rw[e];exact he)
      rw[bw (oJ hne)];rcases(oD j).1 hl with rfl|zW
      ·rw[hp]at hq;cases hq;rw[Sb j p id ob hp he]at hy;simp at hy
      ·exact PI j q hq zW k y hy (fun i2 q2 xj Ej Xe=>hno i2 q2 xj Ej ((oD i2).2 (.inr Xe)))
     ·rw[qi (by omega)];rcases(oD j).1 hl with rfl|zW
      ·rw[hp]at hq;cases hq;rw[b9 (by omega),bM (by omega),ck];exact hy
      ·have hne:j≠i:=fun e=>by subst e;rw[xQ]at zW;cases zW
       have h3:=PI j q hq zW k y hy (fun i2 q2 xj Ej Xe=>hno i2 q2 xj Ej ((oD i2).2 (.inr Xe)));rcases rT hne with h|h
       ·have:=Kj j i q p hq hp h;rw[bM (by omega)];exact h3
       ·have:=Kj i j p q hp hq h;rw[b9 (by omega),b9 (by omega)];exact h3
    ·intro j q id ob hq hl he;rcases(oD j).1 hl with rfl|zW
     ·rw[hp]at hq;cases hq;obtain⟨zs,ds,z1,_⟩:=SZ id ob he;have hlt:=(aD.1 z1).1;refine⟨by simp only[Cp.xW,he];rw[cx hlt],?_⟩;obtain⟨v,hv⟩:=SJ id ob he;refine⟨v,?_⟩;rw[hsame id (by rw[Sb j p id ob hp he];simp;omega)];exact hv
     ·obtain⟨h1,v,hv⟩:=UR j q id ob hq zW he;have hout:id<p.r\/p.r+p.obs.length<=id:=by
       rcases dL id p.r with h|h
       ·exact .inl h
       ·rcases dL id (p.r+p.obs.length)with h2|h2
        ·have:=PG i p hp xQ (id-p.r) (by omega);rw[show p.r+(id-p.r)=id from by omega,hv]at this;cases this
        ·exact .inr h2
      refine⟨?_,v,by rw[hsame id hout];exact hv⟩;unfold Cp.xW;split
      ·rename_i id2 xj ER;have hne:id2≠id:=fun e=>by
        subst e;have:=Sa i j p q id2 xj ob hp hq ER he;subst this;rw[xQ]at zW;cases zW
       rw[bw hne];exact h1
      ·rw[qi (by omega)];rcases hout with h|h
       ·rw[bM h];exact h1
       ·rw[b9 (by omega),b9 (by omega)];exact h1
    ·intro j q hq hl k hk;have hne:j≠i:=fun e=>by
      subst e;have:=(oD j).2 (.inl rfl);rw[this]at hl;cases hl
     have zW:listed.getD j false=false:=by
      cases h:listed.getD j false with
      |false=>rfl
      |true=>have:=(oD j).2 (.inr h);rw[this]at hl;cases hl
     have h3:=PG j q hq zW k hk;rw[hsame,h3];rcases rT hne with h|h
     ·have:=Kj j i q p hq hp h;omega
     ·have:=Kj i j p q hp hq h;omega
 have YC:HeadInv .any l.toArray n (Array.replicate l.toArray.size false):=
  ⟨by simp,fun j oj _ hl=>(by rw[getD_replicate_false]at hl;cases hl),fun t _ ht=>getD_in (by simpa using ht) (getD_replicate_false _ _)⟩
 have lK:((List.range n).filter fun i=> !(Array.replicate l.toArray.size false).getD i false).length=n:=by
  rw[List.filter_eq_self.2]
  ·simp
  ·intro i _;rw[getD_replicate_false];rfl
 have:=main n (Array.replicate l.toArray.size false) st.σ (st.H++List.replicate (ps.flatMap Cp.obs).length .gone) κ Θ a w YC lK (fun i p t _ _ hl=>by rw[getD_replicate_false]at hl;cases hl) (fun t _=>rfl)
  (by simp) (fun i o h=>by rw[aj (aD.1 h).1];exact h) (fun i p _ hl=>by rw[getD_replicate_false]at hl;cases hl)
  (fun i q id ob _ hl=>by rw[getD_replicate_false]at hl;cases hl)
  (fun i p hp _ j _=>hs.mT _ (by rw[O2 i p hp];omega)) (hs.room _)
 rw[show n+(l.toArray.size-n)=l.toArray.size from by omega]at this;exact this
def HB(X:aP)(st:St)(op:Op)(A:dh):Bool:=match op with
 | .buildSlice _ _ _=>true
 | .build _ _=>true
 | .extract _ _=>true
 | .field _ _ _=>true
 | .move _=>true
 | .indexAddr _ x _=>(Il st (st.ev x)).isNone
 | .load _ x=>(Kw st (st.ev x)).isNone&&(match st.ev x,A with| .op id _ _ _,.tk _::_=>X.contains id|_,_=>true)
 | .store _ x _=>(match st.ev x with| .ptr id _=>X.contains id|_=>false)
 | .call c=>(match c.callee,A with
  | .builtin .append,_=>true
  | .value (.func _),.d _::_=>true
  | .value (.func _),.gf _ _::_=>true
  | .value (.func _),.gp _ _ _::_=>(match c.args.toList with|x::_=>(match st.ev x with| .ptr id _=>X.contains id|_=>false)| []=>false)
  |_,_=>false)
 |_=>false
def MO(X:aP)(H H':bJ):Bool:=(List.range H.length).all fun i=>X.contains i||(match H[i]? with|some .gone=>true|_=>(match H'[i]? with|some .gone=>false|_=>true))
def It(P:Program)(nt:Nat)(X:aP):List Oper->St->dh->Option (St×dh×yc)
 | [],st,A=>some (st,A,[])
 |o::rest,st,A=>match o.guard,HB X st o.op A with
  |none,true=>(match DZ P nt o st A with
   |some (uK,A1,p)=>(match MO X st.H uK.H,It P nt X rest uK A1 with|true,some (JA,A2,q)=>some (JA,A2,p++q)|_,_=>none)
   |none=>none)
  |_,_=>none
theorem Mb{H:bJ}{ms:aP}{i:Nat}(h:i∈ms)(hl:i<H.length):(kill H ms)[i]?=some .gone:=by
 induction ms generalizing H with
 |nil=>cases h
 |cons m ms ih=>
  show(kill (H.set m .gone) ms)[i]?=_;by_cases hi:i∈ms
  ·exact ih hi (by simpa using hl)
  ·rw[fB hi];rcases bG.1 h with rfl|h
   ·rw[cx hl]
   ·exact absurd h hi
theorem PF{X:aP}{H H':bJ}(h:MO X H H'=true){i:Nat}{o:Ob}(hi:i∉X)(ho:H[i]?=some o)(hg:H'[i]?=some .gone):o=.gone:=by
 have h1:=au.1 h i (bW.2 (aD.1 ho).1);rw[ho,hg,List.contains_eq_mem,bL hi,rC]at h1;cases o<;>first|rfl|cases h1
theorem Ii{X:aP}{H:bJ}{ms:aP}{n:bJ}(h:MO X H (kill H ms++n)=true):vc X H (kill H ms++n):=by
 intro i o hi ho;have hl:=(aD.1 ho).1;have e:(kill H ms++n)[i]?=(kill H ms)[i]?:=aj (by rw[eX];exact hl);by_cases hm:i∈ms
 ·have e2:=e.trans (Mb hm hl);rw[e2,PF h hi ho e2]
 ·rw[e,fB hm,ho]
theorem Qh{X:aP}{H:bJ}{ms:aP}{n:bJ}{id:Nat}{b:Ob}(hid:id∈X)(h:MO X H ((kill H ms).set id b++n)=true):vc X H ((kill H ms).set id b++n):=by
 intro i o hi ho;have hne:id≠i:=fun e=>hi (e▸hid)
 have hl:=(aD.1 ho).1;have e:((kill H ms).set id b++n)[i]?=(kill H ms)[i]?:=by
  rw[aj (by rw[bQ,eX];exact hl),bw hne]
 by_cases hm:i∈ms
 ·have e2:=e.trans (Mb hm hl);rw[e2,PF h hi ho e2]
 ·rw[e,fB hm,ho]
theorem Tx{X:aP}{nt:Nat}{o:Oper}{A A1:dh}{uK:St}{p:yc}(hk:HB X st o.op A=true)(Yy:MO X st.H uK.H=true)(h:DZ P nt o st A=some (uK,A1,p)):((∃t d,o.dst=some t/\t<nt/\uK.σ=(t,d)::st.σ)\/(o.dst=none/\uK.σ=st.σ))/\vc X st.H uK.H:=by
 have plain:∀ {t:Nat},o.dst=some t->(if t<nt then match DJ P st o.op A with|some (d,A,ow)=>some ((⟨(t,d)::st.σ,st.H⟩:St),A,ow)|none=>none else none)=some (uK,A1,p)->((∃t d,o.dst=some t/\t<nt/\uK.σ=(t,d)::st.σ)\/(o.dst=none/\uK.σ=st.σ))/\vc X st.H uK.H:=by
  intro t hd h;split at h
  ·rename_i ht;split at h
   ·cases h;exact⟨.inl ⟨t,_,hd,ht,rfl⟩,vc.refl _⟩
   ·cases h
  ·cases h
 unfold DZ at h;split at h
 case h_3=>
  rename_i T x y hop hd;rw[hop]at hk;simp only[HB]at hk;split at h
  ·rename_i id off ds h1 h2;rw[h1]at hk;split at h
   ·split at h
    ·split at h
     ·cases h;refine⟨.inr ⟨hd,rfl⟩,fun i cs hi hcs=>?_⟩;have hne:id≠i:=fun e=>hi (by subst e;simpa using hk)
      show(st.H.set id _)[i]?=_;rw[bw hne,hcs]
     ·cases h
    ·cases h
   ·cases h
  ·rename_i id i sz off ds h1 h2;rw[h1]at hk;cases hk
  ·cases h
 case h_7=>
  rename_i T len parts t hop hd;split at h
  ·split at h
   ·split at h
    ·split at h
     ·rename_i es ms hab;split at h
      ·rename_i hc;cases h;exact⟨.inl ⟨t,_,hd,hc.1,rfl⟩,Ii Yy⟩
      ·cases h
     ·cases h
    ·cases h
   ·cases h
  ·cases h
 case h_8=>
  rename_i c t hop hd;rw[hop]at hk;simp only[HB]at hk;split at h
  ·split at h
   ·split at h
    ·rename_i rows u1 k1 eY u2 k2 A' ow _ hS hX;split at h
     ·rename_i hc;cases h;exact⟨.inl ⟨t,_,hd,hc.1,rfl⟩,Ii Yy⟩
     ·cases h
    ·cases h
   ·cases h
  ·rename_i XX _ _;rw[XX]at hk;cases hk
  ·rename_i f XX;rw[XX]at hk;split at hk
   ·rename_i hb;cases hb
   ·rename_i f' d A' hb;split at h
    ·rename_i hA;cases hA
    ·rename_i hA;cases hA
    ·rename_i hA;cases hA
    ·rename_i hA;cases hA
    ·rename_i hA;cases hA
    ·rename_i hA;cases hA
    ·rename_i ds ms d' A'' hv hA;split at h
     ·rename_i hc;cases h;exact⟨.inl ⟨t,_,hd,hc.1,rfl⟩,(vc.refl _).app _⟩
     ·cases h
    ·rename_i hA;cases hA
    ·rename_i hA;cases hA
    ·cases h
   ·rename_i f' nz d A' hb;generalize DL st.H (List.map st.ev c.args.toList)=q at h;rcases q with _|⟨qa,qb⟩
    all_goals
     dsimp only at h;split at h
     ·rename_i ds ms qs h9;split at h
      ·rename_i hc;cases h;exact⟨.inl ⟨t,_,hd,hc.1,rfl⟩,Ii Yy⟩
      ·cases h
     ·cases h
   ·rename_i f' nz cells' d A' hb;generalize DL st.H (List.map st.ev c.args.toList)=q at h;rcases q with _|⟨qa,qb⟩
    all_goals
     dsimp only at h;split at h
     ·rename_i x0 xr h5;rw[h5]at hk;split at h
      ·rename_i id h6;simp only[h6]at hk;split at h
       ·rename_i ob h7;split at h
        ·rename_i GN h8;split at h
         ·rename_i cells ds ms qs h9;split at h
          ·rename_i hc;cases h;exact⟨.inl ⟨t,_,hd,hc.1,rfl⟩,Qh (by simpa using hk) Yy⟩
          ·cases h
         ·cases h
        ·cases h
       ·cases h
      ·cases h
     ·cases h
   ·cases hk
  ·exact plain hd h
 case h_13=>
  rename_i T x i t hop hd;rw[hop]at hk;simp only[HB]at hk;split at h
  ·rename_i hl;rw[hl]at hk;cases hk
  ·exact plain hd h
 case h_14=>
  rename_i T x t hop hd;rw[hop]at hk;simp only[HB]at hk;split at h
  ·rename_i hl;rw[hl]at hk;cases hk
  ·rw[aX]at hk
   replace hk:=hk.2
   split at h
   ·rename_i r A' id i sz h1;split at h
    ·rename_i n e sz' rows h2;split at h
     ·rename_i hc;cases h;refine⟨.inl ⟨t,_,hd,hc.1,rfl⟩,vc.app (fun j cs hj hcs=>?_) _⟩;have hne:id≠j:=fun e=>hj (by subst e;rw[h1]at hk;simpa using hk)
      rw[bw hne];exact hcs
     ·cases h
    ·cases h
   ·exact plain hd h
 all_goals first
  | (rename_i hop _;rw[hop]at hk;simp[HB]at hk;done)
  | (rename_i hop;rw[hop]at hk;simp[HB]at hk;done)
  |skip
 all_goals first
  |exact plain (by assumption) h
  |cases h
theorem Step.of{nt:Nat}(hnt:Γ.nt=nt){o:Oper}{A A1:dh}{uK:St}{p:yc}(hg:o.guard=none)(hsel:∀cs b,o.op≠ .select cs b)(h:DZ P nt o st A=some (uK,A1,p))(hp:tP p):Step P Γ o st uK:=by
 intro κ Θ a w hs;have h1:=KT (P:=P) (Γ:=Γ) (all:= #[]) (rest:=[]) (Q:=fun e s=>e=.normal/\s=uK) hnt hg h hp (XG ⟨rfl,rfl⟩) κ Θ a w hs;have hw:Region.wanted o (yielded #[] a.tmps)=true:=by simp[Region.wanted,hg]
 simp only[wpList,hw,nM]at h1;rcases h1 with h1|⟨_,a0,w0,rO,κ',Θ',_,hq,_⟩
 ·refine NJ hsel (fun _ _=>rfl) ?_ ?_ ?_ h1
  ·rintro v w' ⟨rO,κ',Θ',hs',_,rfl⟩;exact⟨κ',Θ',hs'⟩
  ·rintro d w' ⟨rO,κ',Θ',hs',_,rfl⟩;have:=hs'.defers;cases hod:o.dst<;>rw[hod]at this<;>cases this
  ·rintro e c w' ⟨rO,κ',Θ',hs',rfl,_⟩;rfl
 ·cases hq
theorem L3{X:aP}{nt:Nat}(hnt:Γ.nt=nt){K:St->Prop}{JA:St}{A2:dh}:∀ {ops:List Oper} {st:St} {A:dh} {p:yc},It P nt X ops st A=some (JA,A2,p)->tP p->K JA->RS P Γ X K ops st:=by
 intro ops
 induction ops with
 |nil=>intro st A p h hp hK;simp only[It,ah,cK]at h;obtain⟨rfl,_,_⟩:=h;exact hK
 |cons o os ih=>
  intro st A p h hp hK;simp only[It]at h;split at h
  ·rename_i hg hok;split at h
   ·rename_i uK A1 p1 h1;split at h
    ·rename_i Vz A2' q Yy h2;cases h;obtain⟨hp1,hq⟩:=hp.app;obtain⟨hd,hX⟩:=Tx hok Yy h1;have hsel:∀cs b,o.op≠ .select cs b:=by
      intro cs b e;rw[e]at hok;cases hok
     exact⟨uK,hd.imp (fun⟨t,d,hd,ht,hσ⟩=>⟨t,d,hd,by rw[hnt];exact ht,hσ⟩) id,hX,hg,hsel,Step.of hnt hg hsel h1 hp1,ih h2 hq hK⟩
    ·cases h
   ·cases h
  ·cases h
def Tz(X:aP)(st:St)(ops:List Oper)(L:aP):Bool:=L.all fun i=>match ops[i]? with|some o=>zN X st o.op|none=>false
theorem R5{X:aP}{st:St}{ops:List Oper}{L:aP}(h:Tz X st ops L=true):∀i∈L,∀o,ops[i]?=some o->zN X st o.op=true:=by
 intro i hi o ho;have:=au.1 h i hi;rw[ho]at this;exact this
def yR(ρ:aP)(o:Oper):Oper:= {o with after:=o.after.map fun e=> {e with on:=ρ.getD e.on 0},guard:=o.guard.map fun g=>(ρ.getD g.1 0,g.2)}
def rR(ops:Array Oper)(π ρ:aP):List Oper:=π.filterMap fun i=>(ops[i]?).map (yR ρ)
def HC(ops:Array Oper)(π ρ:aP):Bool:=
 decide (π.length=ops.size)&&(decide (ρ.length=ops.size)&&
 (((List.range ops.size).all fun i=>(match ρ[i]? with|some k=>π[k]?==some i|none=>false))&&
 (((List.range ops.size).all fun k=>(match π[k]? with|some i=>ρ[i]?==some k|none=>false))&&
 (ops.toList.all fun o=>(o.after.all fun e=>decide (e.on<ops.size))&&(match o.guard with|some g=>decide (g.1<ops.size)|none=>true)))))
theorem IP(ρ:aP)(o:Oper)(f:Operand->Value):execOp f (yR ρ o)=execOp f o:=by
 cases o;rfl
theorem UF(ρ:aP){o:Oper}{K:Act->World->Prop}{Q:Exit->Act->World->Prop}(h:(yR ρ o).wp P a w K Q):o.wp P a w K Q:=by
 unfold Oper.wp at*;rw[IP]at h;exact h
theorem NZ(ρ:aP){o:Oper}(h:(yR ρ o).asks P a w):o.asks P a w:=by
 unfold Oper.asks at*;rw[IP]at h;exact h
section
variable{ops:Array Oper}{π ρ:aP}
theorem J2(hB:HC ops π ρ=true){k i:Nat}{o:Oper}(hk:π[k]?=some i)(ho:ops[i]?=some o):(rR ops π ρ).toArray[k]?=some (yR ρ o):=by
 simp only[HC,aX,bO]at hB;obtain⟨h1,h2,h3,h4,h5⟩:=hB;have hall:∀x∈π,∃o,ops[x]?=some o:=by
  intro x hx;obtain⟨j,hj,rfl⟩:=dN.1 hx;have:=au.1 h4 j (bW.2 (by omega));rw[aV hj]at this;simp only[cR]at this;have:=(aD.1 this).1;exact⟨_,cF (by omega)⟩
 have key:∀(l:aP) (k:Nat),(∀x∈l,∃o,ops[x]?=some o)->l[k]?=some i->(l.filterMap fun i=>(ops[i]?).map (yR ρ))[k]?=some (yR ρ o):=by
  intro l
  induction l with
  |nil=>intro k _ h;simp at h
  |cons x l ih=>
   intro k hl h;obtain⟨ox,Nz⟩:=hl x (by simp);rw[uf];simp only[Nz,cJ];cases k with
   |zero=>simp at h;subst h;rw[ho]at Nz;cases Nz;rfl
   |succ k=>simpa using ih k (fun y hy=>hl y (by simp[hy])) (by simpa using h)
 have:=key π k hall hk;simpa[rR]using this
theorem Mw(hB:HC ops π ρ=true):(rR ops π ρ).toArray.size=ops.size:=by
 have hB':=hB;simp only[HC,aX,bO]at hB;obtain⟨h1,h2,h3,h4,h5⟩:=hB;have hall:∀x∈π,∃o,ops[x]?=some o:=by
  intro x hx;obtain⟨j,hj,rfl⟩:=dN.1 hx;have:=au.1 h4 j (bW.2 (by omega));rw[aV hj]at this;simp only[cR]at this;have:=(aD.1 this).1;exact⟨_,cF (by omega)⟩
 have key:∀(l:aP),(∀x∈l,∃o,ops[x]?=some o)->(l.filterMap fun i=>(ops[i]?).map (yR ρ)).length=l.length:=by
  intro l
  induction l with
  |nil=>intro _;rfl
  |cons x l ih=>
   intro hl;obtain⟨ox,Nz⟩:=hl x (by simp);rw[uf];simp only[Nz,cJ,aG,ih (fun y hy=>hl y (by simp[hy]))]
 rw[x7,rR,key π hall,h1]
theorem TN{Q':Exit->Act->World->Prop}(hB:HC ops π ρ=true):∀(fuel:Nat) (listed listed':Array Bool) (a:Act) (w:World),listed.size=ops.size->listed'.size=ops.size->(∀(k i:Nat),π[k]?=some i->listed'.getD k false=listed.getD i false)->
 wpAny P .any (rR ops π ρ).toArray Q' fuel listed' a w->wpAny P .any ops Q' fuel listed a w:=by
 have hB':=hB;simp only[HC,aX,bO]at hB';obtain⟨h1,h2,h3,h4,h5⟩:=hB';have to:∀i,i<ops.size->∃k,ρ[i]?=some k/\π[k]?=some i/\k<ops.size:=by
  intro i hi;have:=au.1 h3 i (bW.2 hi);split at this
  ·rename_i k hk;simp only[cR]at this;exact⟨k,hk,this,by have:=(aD.1 this).1;omega⟩
  ·cases this
 have back:∀k,k<ops.size->∃i,π[k]?=some i/\ρ[i]?=some k/\i<ops.size:=by
  intro k hk;have:=au.1 h4 k (bW.2 hk);split at this
  ·rename_i i hi;simp only[cR]at this;exact⟨i,hi,this,by have:=(aD.1 this).1;omega⟩
  ·cases this
 have rin:∀(i:Nat) o,ops[i]?=some o->(∀e∈o.after,e.on<ops.size)/\∀g,o.guard=some g->g.1<ops.size:=by
  intro i o ho;have hm:o∈ops.toList:=by rw[<-pX]at ho;exact aB ho
  have:=au.1 h5 o hm;simp only[aX]at this;refine⟨fun e he=>by simpa using rS.1 this.1 e he,fun g hg=>?_⟩;have:=this.2;rw[hg]at this;simpa using this
 have rd:∀(listed listed':Array Bool),listed.size=ops.size->listed'.size=ops.size->(∀(k i:Nat),π[k]?=some i->listed'.getD k false=listed.getD i false)->∀(k i:Nat),π[k]?=some i->(i∈Region.ready .any ops listed↔k∈Region.ready .any (rR ops π ρ).toArray listed'):=by
  intro listed listed' hs1 hs2 RN k i hki;have hk:k<ops.size:=by have:=(aD.1 hki).1;omega
  obtain⟨i',hi',hr,hilt⟩:=back k hk;rw[hki]at hi';cases hi';have ho:ops[i]?=some ops[i]:=cF hilt;have ho':=J2 hB hki ho;have hon:∀e∈ops[i].after,listed'.getD (ρ.getD e.on 0) false=listed.getD e.on false:=by
   intro e he;obtain⟨k2,hk2,hk3,_⟩:=to e.on ((rin i _ ho).1 e he);rw[j7,hk2,qZ];exact RN k2 e.on hk3
  rw[mem_ready,mem_ready];constructor
  ·rintro⟨q1,o,q2,q3⟩;rw[ho]at q2;cases q2;refine⟨getD_in (by omega) (by rw[RN k i hki];exact getD_both q1),_,ho',?_⟩;intro e he hb;simp only[yR,Array.mem_map]at he;obtain⟨e0,he0,rfl⟩:=he;simp only;rw[hon e0 he0];exact q3 e0 he0 hb
  ·rintro⟨q1,o,q2,q3⟩;rw[ho']at q2;cases q2;refine⟨getD_in (by omega) (by rw[<-RN k i hki];exact getD_both q1),_,ho,?_⟩;intro e he hb;rw[<-hon e he];exact q3 {e with on:=ρ.getD e.on 0} (by simp only[yR,Array.mem_map];exact⟨e,he,rfl⟩) hb
 have lt:∀ {listed:Array Bool} {ops:Array Oper} {i:Nat},i∈Region.ready .any ops listed->i<ops.size:=by
  intro listed ops i hi;obtain⟨_,o,ho,_⟩:=mem_ready.1 hi;exact(az.1 ho).1
 have We:∀(listed listed':Array Bool),listed.size=ops.size->listed'.size=ops.size->(∀(k i:Nat),π[k]?=some i->listed'.getD k false=listed.getD i false)->(Region.ready .any ops listed=[]↔Region.ready .any (rR ops π ρ).toArray listed'=[]):=by
  intro listed listed' hs1 hs2 RN;constructor
  ·intro h;rw[tM];intro k hk;obtain⟨i,hi,_⟩:=back k (by have:=lt hk;rw[Mw hB]at this;exact this);have:=(rd listed listed' hs1 hs2 RN k i hi).2 hk;rw[h]at this;cases this
  ·intro h;rw[tM];intro i hi;obtain⟨k,_,hk,_⟩:=to i (lt hi);have:=(rd listed listed' hs1 hs2 RN k i hk).1 hi;rw[h]at this;cases this
 intro fuel
 induction fuel with
 |zero=>
  intro listed listed' a w hs1 hs2 RN h;exact⟨(We listed listed' hs1 hs2 RN).2 h.1,h.2⟩
 |succ fuel ih=>
  intro listed listed' a w hs1 hs2 RN h;refine⟨fun h0=>h.1 ((We listed listed' hs1 hs2 RN).1 h0),fun i hi=>?_⟩;have hilt:=lt hi;obtain⟨k,hrk,hk,a4S⟩:=to i hilt;have hkr:=(rd listed listed' hs1 hs2 RN k i hk).1 hi;have ho:ops[i]?=some ops[i]:=cF hilt;have ho':=J2 hB hk ho;have h2:=wpOp_mono (K':=wpAny P .any ops Q' fuel (listed.setIfInBounds i true)) (fun a' w' h'=>ih (listed.setIfInBounds i true) (listed'.setIfInBounds k true) a' w' (by simpa using hs1) (by simpa using hs2) (by
   intro k2 i2 SI;by_cases e:k=k2
   ·subst e;rw[hk]at SI;cases SI;have g1:k<listed'.size:=by omega
    have g2:i<listed.size:=by omega
    simp[g1,g2]
   ·have e2:i≠i2:=by
     intro e3;subst e3;obtain⟨i',hi',hr',_⟩:=back k2 (by have:=(aD.1 SI).1;omega);rw[SI]at hi';cases hi';rw[hrk]at hr';cases hr';exact e rfl
    rw[getD_set_ne false e,getD_set_ne false e2];exact RN k2 i2 SI) h') (h.2 k hkr)
  have hw:Region.wanted (yR ρ ops[i]) (yielded (rR ops π ρ).toArray a.tmps)=Region.wanted ops[i] (yielded ops a.tmps):=by
   cases hg:ops[i].guard with
   |none=>simp[Region.wanted,yR,hg]
   |some g=>
    obtain⟨j,want⟩:=g;have hj:=(rin i _ ho).2 _ hg;obtain⟨k3,a2K,hk3,_⟩:=to j hj;have uG:ops[j]?=some ops[j]:=cF hj;have a2F:=J2 hB hk3 uG;have:yielded (rR ops π ρ).toArray a.tmps (ρ.getD j 0)=yielded ops a.tmps j:=by
     rw[j7,a2K,qZ];unfold yielded;rw[a2F,uG];rfl
    simp only[Region.wanted,yR,hg,cJ];rw[this]
  unfold wpOp at h2⊢;simp only[ho',ho]at h2⊢;rw[hw]at h2;split
  ·rename_i Sd;rw[bM Sd]at h2;exact h2.imp (UF ρ) fun⟨q1,q2⟩=>⟨NZ ρ q1,q2⟩
  ·rename_i Sd;rw[b9 Sd]at h2;exact h2
theorem Jn.perm(hB:HC ops π ρ=true)(h:Jn P Γ (rR ops π ρ).toArray Q st):Jn P Γ ops Q st:=by
 intro κ Θ a w hs;have:=h κ Θ a w hs;rw[Mw hB]at this;refine TN hB ops.size (Array.replicate ops.size false) (Array.replicate ops.size false) a w (by simp) (by simp) (fun k i _=>?_) this;rw[getD_replicate_false,getD_replicate_false]
end
end
end Go.Cx
namespace Go.Cx
open Go.RowKit
def uZ(P:Program)(nt:Nat)(all:Array Oper):List Oper->St->dh->Option (St×dh×yc)
 | [],st,A=>(match shares A st with| (uK,A1)=>some (uK,A1,[]))
 |o::rest,st,A=>match o.guard with
  |none=>(match DZ P nt o st A with
   |some (uK,A1,p)=>(match uZ P nt all rest uK A1 with|some (JA,A2,q)=>some (JA,A2,p++q)|none=>none)
   |none=>none)
  |some (j,want)=>(match(all[j]?).bind (·.dst),A with
   |some s,.b v::A=>(match lk st.σ s with
    | .bool b=>(match v==want with
     |true=>(match DZ P nt {o with guard:=none} st A with
      |some (uK,A1,p)=>(match uZ P nt all rest uK A1 with|some (JA,A2,q)=>some (JA,A2,(b=v)::(p++q))|none=>none)
      |none=>none)
     |false=>(match o.dst with
      |some t=>(if t<nt then match uZ P nt all rest ⟨(t,.iE [])::st.σ,st.H⟩ A with|some (JA,A2,q)=>some (JA,A2,(b=v)::q)|none=>none else none)
      |none=>(match uZ P nt all rest st A with|some (JA,A2,q)=>some (JA,A2,(b=v)::q)|none=>none)))
    | .iE []=>(match o.dst with
     |some t=>(if t<nt then uZ P nt all rest ⟨(t,.iE [])::st.σ,st.H⟩ A else none)
     |none=>uZ P nt all rest st A)
    |_=>none)
   |_,_=>none)
def P5(P:Program)(H:bJ)(r:Nat)(σ:List (Nat×D))(o:Oper)(A:dh):Option (D×bJ×dh×yc):=match o.op with
 | .call c=>(match c.callee with
  | .value (.func f)=>(match DL H (c.args.toList.map (St.ev ⟨σ,H⟩)),A with
   |some (ds,ms),.d d::A=>(if ms=[]\/d.J0=true then some ((lE r d).1,(lE r d).2,A,[Good P f ds d])else none)
   |some (ds,ms),.ds d::A=>(if d.YR=true/\d.J0=true then some (d.Ua,[],A,[Good P f ds d])else none)
   |_,.nl d::A=>(if(c.args.toList.map (St.ev ⟨σ,H⟩)).all H9=true then some ((lE r d).1,(lE r d).2,A,[Good P f (c.args.toList.map (St.ev ⟨σ,H⟩)) d])else none)
   |_,_=>none)
  |_=>(match DJ P ⟨σ,H⟩ o.op A with|some (d,A,ow)=>some (d,[],A,ow)|none=>none))
 | .alloc T=>(match tz P T with|some zs=>some (.ptr r 0,[.box zs],A,[])|none=>none)
 | .box _ x=>(match(St.ev ⟨σ,H⟩ x).cellsOf with|some ds=>some (.ptr r 0,[.box ds],A,[])|none=>none)
 | .buildSlice T len parts=>(match CL P T with
  |some (e,sz)=>(match tz P e with
   |some zs=>(match uJ (pW len sz) (List.replicate len zs).flatten (parts.toList.map fun q=>(q.1,St.ev ⟨σ,H⟩ q.2))with
    |some ds=>(match A with
     | .vw _::A=>(if 0<sz/\len*sz<=16777216/\ds.all D.Lh=true/\ds.all D.flat=true then some (.sl (chunk sz len ds),[],A,[])else none)
     |A=>(match GL H ds with
      |some (es,ms)=>(if 0<sz/\len*sz<=16777216/\ms=[]then some (.acc r,[.row (vP (ds.all (Po H))) e sz (chunk sz len es)],A,[])else none)
      |none=>none))
    |none=>none)
   |none=>none)
  |none=>none)
 |_=>(match DJ P ⟨σ,H⟩ o.op A with|some (d,A,ow)=>some (d,[],A,ow)|none=>none)
def tY(P:Program)(nt:Nat)(all:Array Oper)(H:bJ):List Oper->List (Nat×D)->bJ->aP->dh->Option (List (Nat×D)×bJ×dh×yc)
 | [],σ,acc,_,A=>some (σ,acc,A,[])
 |o::rest,σ,acc,U,A=>match o.dst with
  |none=>(match o.op,o.guard with
   | .store T x y,none=>(match St.ev ⟨σ,H⟩ x,(St.ev ⟨σ,H⟩ y).cellsOf with
    | .ptr id off,some ds=>(match acc[id-H.length]? with
     |some (.box zs)=>(if off=0/\H.length<=id/\id∉U/\LP P T=true/\ds.length=vV P T/\zs.length=ds.length then tY P nt all H rest σ (acc.set (id-H.length) (.box ds)) (id::U) A else none)
     |_=>none)
    |_,_=>none)
   |_,_=>none)
  |some t=>(if t<nt then match o.guard with
   |none=>(match P5 P H (H.length+acc.length) σ o A with
    |some (d,obs,A1,p)=>(match tY P nt all H rest ((t,d)::σ) (acc++obs) U A1 with|some (σ2,Lv,A2,q)=>some (σ2,Lv,A2,p++q)|none=>none)
    |none=>none)
   |some (j,want)=>(match(all[j]?).bind (·.dst),A with
    |some s,.b v::A=>(match lk σ s with
     | .bool b=>(match v==want with
      |true=>(match P5 P H (H.length+acc.length) σ o A with
       |some (d,obs,A1,p)=>(match tY P nt all H rest ((t,d)::σ) (acc++obs) U A1 with|some (σ2,Lv,A2,q)=>some (σ2,Lv,A2,(b=v)::(p++q))|none=>none)
       |none=>none)
      |false=>(match tY P nt all H rest ((t,.iE [])::σ) acc U A with|some (σ2,Lv,A2,q)=>some (σ2,Lv,A2,(b=v)::q)|none=>none))
     | .iE []=>tY P nt all H rest ((t,.iE [])::σ) acc U A
     |_=>none)
    |_,_=>none)
   else none)
inductive Fr where
 |sq (c:Code)
 |bl (id:Nat)
 |lp
def depth:List Fr->Nat
 | []=>0
 | .lp::K=>depth K+1
 |_::K=>depth K
inductive Cfg where
 |run (c:Code)
 |TH
 |ex (id:Nat)
inductive Stop where
 |ret (d:D)
 |lp (c:Code) (K:List Fr) (st:St)
 |cont (k:Nat) (st:St)
 |at_ (c:Code) (K:List Fr) (st:St)
def YV(P:Program)(rs:List ResultVar×List (List (Option (Nat×Nat))))(st:St):Option D:=match zZ P st rs.1 with
 |some ds=>(match wR st.H rs.2 ds with|some (es,ms,qs)=>(if ms.Nodup/\qs.Nodup then some (vC es)else none)|none=>none)
 |none=>none
def a26(A:dh)(m:Nat):Option (aP×aP):=match A with
 | .hl m' k o::_=>if m'=m then some (k,o)else none
 |_=>none
def KM(p:yc)(x:Option (Stop×yc)):Option (Stop×yc):=match x with
 |some (s,q)=>some (s,p++q)
 |none=>none
def go(P:Program)(rf:St->Option D)(nt:Nat):Nat->Cfg->List Fr->St->dh->Option (Stop×yc)
 |0,_,_,_,_=>none
 |n+1,.run c,K,st,A=>(match c with
  | .skip=>go P rf nt n .TH K st A
  | .ret=>(match rf st with|some d=>some (.ret d,[])|none=>none)
  | .exit id=>go P rf nt n (.ex id) K st A
  | .seq x y=>go P rf nt n (.run x) (.sq y::K) st A
  | .block id x=>go P rf nt n (.run x) (.bl id::K) st A
  | .loop x=>(match A with
   | .cn k o::_=>(if o.Nodup then some (.lp x K (st.zT k o),[])else none)
   | .pb id off e sz::A=>(match st.prom id off e sz with|some uK=>(match shares A uK with| (JA,A2)=>go P rf nt n (.run (.loop x)) K JA A2)|none=>none)
   |_=>none)
  | .cond x y z=>(match st.ev x,A with
   | .bool b,.b v::A=>KM [b=v] (go P rf nt n (.run (match v with|true=>y|false=>z)) K st A)
   |_,_=>none)
  | .region _ ops dr=>(match dr with
   |false=>(match uZ P nt ops ops.toList st A with|some (uK,A1,p)=>KM p (go P rf nt n .TH K uK A1)|none=>none)
   |true=>(match A with
    | .n k::A=>(match S3 ops k with
     |true=>(match tY P nt ops st.H (ops.toList.take k) st.σ [] [] A with
      |some (σ1,acc,A1,p)=>(match uZ P nt ops (ops.toList.drop k) ⟨σ1,st.H++acc⟩ A1 with|some (JA,A2,q)=>KM (p++q) (go P rf nt n .TH K JA A2)|none=>none)
      |none=>none)
     |false=>none)
    | .n2 π ρ k m L X::A=>(match HC ops π ρ,rR ops π ρ with
     |true,ops'=>(match IL ops'.toArray k m L with
      |true=>(match tY P nt ops'.toArray st.H (ops'.take k) st.σ [] [] A with
       |some (σ1,acc,A1,p)=>(match Tz X ⟨σ1,st.H⟩ ops' L,It P nt X ((ops'.drop k).take (m-k)) ⟨σ1,st.H++acc⟩ A1 with
        |true,some (uK,A2,p2)=>(match uZ P nt ops'.toArray (ops'.drop m) uK A2 with|some (JA,A3,q)=>KM (p++(p2++q)) (go P rf nt n .TH K JA A3)|none=>none)
        |_,_=>none)
       |none=>none)
      |false=>none)
     |false,_=>none)
    |_=>none))
  |_=>none)
 |n+1,.TH,K,st,A=>(match K with
  | []=>(match rf st with|some d=>some (.ret d,[])|none=>none)
  | .sq y::K=>(match a26 A K.length with|some (k,o)=>(if o.Nodup then some (.at_ y K (st.zT k o),[])else none)|none=>go P rf nt n (.run y) K st A)
  | .bl _::K=>go P rf nt n .TH K st A
  | .lp::K=>(match A with| .cn k o::_=>(if o.Nodup then some (.cont (depth K) (st.zT k o),[])else none)|_=>none))
 |n+1,.ex id,K,st,A=>(match K with
  | []=>none
  | .sq _::K=>go P rf nt n (.ex id) K st A
  | .bl i::K=>(if id=i then go P rf nt n .TH K st A else go P rf nt n (.ex id) K st A)
  | .lp::K=>go P rf nt n (.ex id) K st A)
section
variable{P:Program}{Γ:pG}{Q:Exit->St->Prop}{N:Nat->St->Prop}
def KQ(P:Program)(Γ:pG)(N:Nat->St->Prop)(Q:Exit->St->Prop):List Fr->Exit->St->Prop
 | []=>Q
 | .sq y::K=>U4 (AW P Γ y (KQ P Γ N Q K)) (KQ P Γ N Q K)
 | .bl id::K=>Kb id (KQ P Γ N Q K)
 | .lp::K=>U4 (fun st=>∃k o,o.Nodup/\N (depth K) (st.zT k o)) (KQ P Γ N Q K)
theorem XK:∀(K:List Fr) {st:St},Q .ret st->KQ P Γ N Q K .ret st:=by
 intro K
 induction K with
 |nil=>intro st h;exact h
 |cons f K ih=>intro st h;cases f<;>exact ih h
theorem Lm{N':Nat->St->Prop}:∀(K:List Fr),(∀d,d<depth K->N d=N' d)->KQ P Γ N Q K=KQ P Γ N' Q K:=by
 intro K
 induction K with
 |nil=>intro _;rfl
 |cons f K ih=>
  intro h;cases f with
  |sq y=>simp only[KQ];rw[ih h]
  |bl id=>simp only[KQ];rw[ih h]
  |lp=>simp only[KQ];rw[ih (fun d hd=>h d (by simp only[depth];omega)),h (depth K) (by simp only[depth];omega)]
theorem zK{nt:Nat}(hnt:Γ.nt=nt){all:Array Oper}{JA:St}{A2:dh}:∀ {ops:List Oper} {st:St} {A:dh} {p:yc},uZ P nt all ops st A=some (JA,A2,p)->tP p->Q .normal JA->AO P Γ all ops Q st:=by
 intro ops
 induction ops with
 |nil=>
  intro st A p h _ hq;simp only[uZ]at h;cases hsh:shares A st with
  |mk uK A1=>
   rw[hsh]at h;simp only[ah,cK]at h;obtain⟨rfl,_,_⟩:=h;exact fun κ Θ a w hs=>wpList_nil ⟨_,_,_,hs.shares hsh,hq⟩
 |cons o rest ih=>
  intro st A p h hp hq;simp only[uZ]at h;split at h
  ·rename_i hg;split at h
   ·rename_i uK A1 p1 h1;split at h
    ·rename_i Vz A2' q h2;cases h;exact KT hnt hg h1 hp.app.1 (ih h2 hp.app.2 hq)
    ·cases h
   ·cases h
  ·rename_i j want hg;split at h
   ·rename_i s v A1 hj;split at h
    ·rename_i b hb;split at h
     ·rename_i hv;simp only[cR]at hv;subst hv;split at h
      ·rename_i uK A2' p1 h1;split at h
       ·rename_i Vz A3 q h2;cases h;refine Hw (b:=b) hg hj hb ?_ (fun _=>KT hnt rfl h1 hp.2.app.1 (ih h2 hp.2.app.2 hq)) (fun hne=>absurd hp.1 hne);intro t ht;exact Ty hnt h1 ht
       ·cases h
      ·cases h
     ·rename_i hv;split at h
      ·rename_i t hd;split at h
       ·rename_i ht;split at h
        ·rename_i Vz A3 q h2;cases h;refine Hw (b:=b) hg hj hb (fun t' ht'=>?_) (fun e=>?_) (fun _=>?_)
         ·rw[hd]at ht';cases ht';rw[hnt];exact ht
         ·exfalso;have:=hp.1;simp only[dK,ne_eq]at hv;exact hv (this.symm.trans e)
         ·rw[hd];exact ih h2 hp.2 hq
        ·cases h
       ·cases h
      ·rename_i hd;split at h
       ·rename_i Vz A3 q h2;cases h;refine Hw (b:=b) hg hj hb (fun t' ht'=>?_) (fun e=>?_) (fun _=>?_)
        ·rw[hd]at ht';cases ht'
        ·exfalso;have:=hp.1;simp only[dK,ne_eq]at hv;exact hv (this.symm.trans e)
        ·rw[hd];exact ih h2 hp.2 hq
       ·cases h
    ·rename_i hb;split at h
     ·rename_i t hd;split at h
      ·rename_i ht;refine Jm hg hj hb (fun t' ht'=>?_) ?_
       ·rw[hd]at ht';cases ht';rw[hnt];exact ht
       ·rw[hd];exact ih h hp hq
      ·cases h
     ·rename_i hd;refine Jm hg hj hb (fun t' ht'=>?_) ?_
      ·rw[hd]at ht';cases ht'
      ·rw[hd];exact ih h hp hq
    ·cases h
   ·cases h
theorem Gu{H:bJ}{r:Nat}{σ:List (Nat×D)}{o:Oper}{A A1:dh}{d:D}{obs:bJ}{p:yc}(t:Option Nat)(u:Option (Nat×Ob))(h:P5 P H r σ o A=some (d,obs,A1,p))(hp:tP p):En P H σ o ⟨t,d,r,obs,u⟩:=by
 have plain:∀ {x},(match DJ P ⟨σ,H⟩ x A with|some (d,A,ow)=>some (d,([]:bJ),A,ow)|none=>none)=some (d,obs,A1,p)->pv P ⟨σ,H⟩ x=some d/\obs=[]:=by
  intro x h;split at h
  ·rename_i d' A' ow h1;cases h;exact⟨Pp h1 hp,rfl⟩
  ·cases h
 unfold P5 at h;split at h
 ·rename_i c hop;split at h
  ·rename_i f hc;split at h
   ·rename_i ds ms d' A' h1;split at h
    ·rename_i hsh;cases h;exact .inl (.inr ⟨f,_,_,ds,ms,d',hop.trans (congrArg Op.call (mi c hc rfl rfl)),.inl (by simpa using h1),hsh,hp.1,.inl rfl⟩)
    ·cases h
   ·rename_i ds ms d' A' h1;split at h
    ·rename_i ZT;cases h;exact .inl (.inr ⟨f,_,_,ds,ms,d',hop.trans (congrArg Op.call (mi c hc rfl rfl)),.inl (by simpa using h1),.inr ZT.2,hp.1,.inr ⟨ZT.1,rfl,rfl⟩⟩)
    ·cases h
   ·rename_i d' A';split at h
    ·rename_i hk;cases h;exact .inl (.inr ⟨f,_,_,_,[],d',hop.trans (congrArg Op.call (mi c hc rfl rfl)),.inr ⟨by simpa using hk,by simp,rfl⟩,.inl rfl,hp.1,.inl rfl⟩)
    ·cases h
   ·cases h
  ·exact .inl (.inl (plain h))
 ·rename_i T hop;split at h
  ·rename_i zs hz;cases h;exact .inr (.inl (.inl ⟨T,zs,hop,hz,rfl,rfl⟩))
  ·cases h
 ·rename_i T x hop;split at h
  ·rename_i ds hc;cases h;exact .inr (.inl (.inr ⟨T,x,ds,hop,hc,rfl,rfl⟩))
  ·cases h
 ·rename_i T len parts hop;split at h
  ·rename_i e sz h1;split at h
   ·rename_i zs h2;split at h
    ·rename_i ds h3;split at h
     ·split at h
      ·rename_i hc;obtain⟨c1,c2,c3,c4⟩:=hc;cases h;exact .inr (.inr (.inr ⟨T,e,sz,len,parts,zs,ds,hop,h1,h2,c1,c2,h3,c3,c4,rfl,rfl⟩))
      ·cases h
     ·split at h
      ·rename_i es ms h4;split at h
       ·rename_i hc;obtain⟨c1,c2,rfl⟩:=hc;cases h;exact .inr (.inr (.inl ⟨T,e,sz,len,parts,zs,ds,es,hop,h1,h2,c1,c2,h3,h4,rfl,rfl⟩))
       ·cases h
      ·cases h
    ·cases h
   ·cases h
  ·cases h
 ·exact .inl (.inl (plain h))
theorem DR{nt:Nat}(hnt:Γ.nt=nt){all:Array Oper}{H:bJ}{K:List (Nat×D)->bJ->Prop}{σ2:List (Nat×D)}{Lv:bJ}{A2:dh}:∀ {ops:List Oper} {σ:List (Nat×D)} {acc:bJ} {U:aP} {A:dh} {p:yc},
 tY P nt all H ops σ acc U A=some (σ2,Lv,A2,p)->tP p->K σ2 Lv->Gt P Γ all H K ops σ acc U:=by
 subst hnt;intro ops
 induction ops with
 |nil=>
  intro σ acc U A p h _ hK;simp only[tY,ah,cK]at h;obtain⟨rfl,rfl,_,_⟩:=h;exact hK
 |cons o rest ih=>
  intro σ acc U A p h hp hK;simp only[tY]at h;split at h
  ·rename_i hd;split at h
   ·rename_i T x y hop hg;split at h
    ·rename_i id off ds h1 h2;split at h
     ·rename_i zs h3;split at h
      ·rename_i hc;obtain⟨rfl,c2,c3,c4,c5,c6⟩:=hc;exact⟨⟨none,.any,H.length+acc.length,[],some (id,.box ds)⟩,rfl,.inr ⟨rfl,rfl,hd,hg,T,x,y,id,ds,hop,h1,c2,h2,c4,c5,rfl⟩,⟨c3,c2,zs,ds,h3,rfl,c6⟩,ih h hp hK⟩
      ·cases h
     ·cases h
    ·cases h
   ·cases h
  ·rename_i t hd;split at h
   ·rename_i ht;split at h
    ·rename_i hg;split at h
     ·rename_i d obs A1 p1 h1;split at h
      ·rename_i σ3 ZI A3 q h2;cases h;exact⟨⟨some t,d,H.length+acc.length,obs,none⟩,rfl,.inl ⟨t,rfl,rfl,hd,ht,.inl ⟨hg,Gu _ _ h1 hp.app.1⟩⟩,trivial,ih h2 hp.app.2 hK⟩
      ·cases h
     ·cases h
    ·rename_i j want hg;split at h
     ·rename_i s v A1 hj;split at h
      ·rename_i b hb;split at h
       ·rename_i hv;simp only[cR]at hv;subst hv;split at h
        ·rename_i d obs A2' p1 h1;split at h
         ·rename_i σ3 ZI A3 q h2;cases h;exact⟨⟨some t,d,H.length+acc.length,obs,none⟩,rfl,.inl ⟨t,rfl,rfl,hd,ht,.inr (.inl ⟨j,s,v,b,hg,hj,hb,.inl ⟨hp.1,Gu _ _ h1 hp.2.app.1⟩⟩)⟩,trivial,ih h2 hp.2.app.2 hK⟩
         ·cases h
        ·cases h
       ·rename_i hv;simp only[dK,ne_eq]at hv;split at h
        ·rename_i σ3 ZI A3 q h2;cases h;refine⟨⟨some t,.iE [],H.length+acc.length,[],none⟩,rfl,.inl ⟨t,rfl,rfl,hd,ht,.inr (.inl ⟨j,s,want,b,hg,hj,hb,.inr ⟨fun e=>hv (hp.1.symm.trans e),rfl,rfl⟩⟩)⟩,trivial,?_⟩;simp only[Cp.fill,cB];exact ih h2 hp.2 hK
        ·cases h
      ·rename_i hb;refine⟨⟨some t,.iE [],H.length+acc.length,[],none⟩,rfl,.inl ⟨t,rfl,rfl,hd,ht,.inr (.inr ⟨j,s,want,hg,hj,hb,rfl,rfl⟩)⟩,trivial,?_⟩;simp only[Cp.fill,cB];exact ih h hp hK
      ·cases h
     ·cases h
   ·cases h
def NS(P:Program)(Γ:pG)(N:Nat->St->Prop)(Q:Exit->St->Prop)(d0:D):Stop->Prop
 | .ret d=>d=d0
 | .lp c K st=>AW P Γ (.loop c) (KQ P Γ N Q K) st
 | .cont k st=>N k st
 | .at_ c K st=>AW P Γ c (KQ P Γ N Q K) st
theorem Lj{c:Code}{st:St}{k o:aP}(hnd:o.Nodup)(h:AW P Γ c Q (st.zT k o)):AW P Γ c Q st:=by
 intro κ Θ a w hs;obtain⟨κ',Θ',hs'⟩:=hs.zT k o hnd;exact h κ' Θ' a w hs'
theorem YW{fn:Func}{st:St}{d:D}{e:Exit}(he:e=.ret\/e=.normal){nz:List (List (Option (Nat×Nat)))}(h:YV P (fn.results.toList,nz) st=some d):KY P fn d e st:=by
 unfold YV at h;split at h
 ·rename_i ds h1;split at h
  ·rename_i es ms qs h2;split at h
   ·rename_i hc;cases h;exact⟨he,nz,ds,es,ms,qs,h1,h2,hc.1,hc.2,rfl⟩
   ·cases h
  ·cases h
 ·cases h
def ZF(P:Program)(Γ:pG)(N:Nat->St->Prop)(Q:Exit->St->Prop)(K:List Fr)(st:St):Cfg->Prop
 | .run c=>AW P Γ c (KQ P Γ N Q K) st
 | .TH=>KQ P Γ N Q K .normal st
 | .ex id=>KQ P Γ N Q K (.exit id) st
theorem zP{p q:yc}{x:Option (Stop×yc)}{s:Stop}(h:KM p x=some (s,q)):∃q',x=some (s,q')/\q=p++q':=by
 unfold KM at h;split at h
 ·cases h;exact⟨_,rfl,rfl⟩
 ·cases h
theorem go_sound{rf:St->Option D}{d0:D}(hrf:∀st e,(e=.ret\/e=.normal)->rf st=some d0->Q e st){nt:Nat}(hnt:Γ.nt=nt)(hm:P.follows .mixedOrders=true):∀ {n:Nat} {cfg:Cfg} {K:List Fr} {st:St} {A:dh} {s:Stop} {p:yc},go P rf nt n cfg K st A=some (s,p)->tP p->NS P Γ N Q d0 s->ZF P Γ N Q K st cfg:=by
 intro n
 induction n with
 |zero=>intro cfg K st A s p h;simp[go]at h
 |succ n ih=>
  intro cfg K st A s p h hp hs;cases cfg with
  |run c=>
   show AW P Γ c (KQ P Γ N Q K) st;cases c with
   |skip=>simp only[go]at h;exact Un (ih h hp hs)
   |ret=>
    simp only[go]at h;split at h
    ·rename_i d hd;simp only[ah,cK]at h;obtain⟨rfl,_⟩:=h;have hd0:d=d0:=hs;subst hd0;exact XI (XK K (hrf st _ (.inl rfl) hd))
    ·cases h
   |exit id=>simp only[go]at h;exact Um (ih h hp hs)
   |seq x y=>simp only[go]at h;exact XJ (ih h hp hs)
   |block id x=>simp only[go]at h;exact Rh (ih h hp hs)
   |loop x=>
    simp only[go]at h;split at h
    ·split at h
     ·rename_i hnd;simp only[ah,cK]at h;obtain⟨rfl,_⟩:=h;exact Lj hnd hs
     ·cases h
    ·split at h
     ·rename_i A0 x0 uK hst;intro κ Θ a w a2P;obtain⟨κ',hs'⟩:=a2P.prom hst;exact(ih h hp hs:AW P Γ (.loop x) (KQ P Γ N Q K) (shares A0 uK).1) κ' Θ a w (hs'.shares (rfl:shares A0 uK=((shares A0 uK).1,(shares A0 uK).2)))
     ·cases h
    ·cases h
   |cond x y z=>
    simp only[go]at h;split at h
    ·rename_i b v A1 hx;obtain⟨q,h1,rfl⟩:=zP h;obtain⟨hb,hp'⟩:=hp;subst hb;refine Uk hx (fun e=>?_) (fun e=>?_)
     ·subst e;exact ih h1 hp' hs
     ·subst e;exact ih h1 hp' hs
    ·cases h
   |region id ops dr=>
    simp only[go]at h;cases dr with
    |false=>
     simp only at h;split at h
     ·rename_i uK A1 p1 h1;obtain⟨q,h2,rfl⟩:=zP h;have:=zK (Q:=KQ P Γ N Q K) hnt h1 hp.app.1 (ih h2 hp.app.2 hs);have hr:=Pw (id:=id) (l:=ops.toList) (by simpa using this);simpa using hr
     ·cases h
    |true=>
     simp only at h;split at h
     ·rename_i k A1;split at h
      ·rename_i hB;split at h
       ·rename_i σ1 acc A2 p1 h1;split at h
        ·rename_i JA A3 p2 h2;obtain⟨q,h3,rfl⟩:=zP h;have hq:=hp.app.1.app;have h4:=zK (Q:=KQ P Γ N Q K) hnt h2 hq.2 (ih h3 hp.app.2 hs);have h5:=DR (Γ:=Γ) (K:=fun σ acc=>AO P Γ ops (ops.toList.drop k) (KQ P Γ N Q K) ⟨σ,st.H++acc⟩) hnt h1 hq.1 h4;have hr:=Ul (id:=id) (l:=ops.toList) (Q:=KQ P Γ N Q K) (st:=st) k hm (by simpa using hB) (by simpa using h5);simpa using hr
        ·cases h
       ·cases h
      ·cases h
     ·rename_i π ρ k m L X A1;split at h
      ·rename_i ops' hB1;generalize a2G:rR ops π ρ=ops' at h;split at h
       ·rename_i hB;split at h
        ·rename_i σ1 acc A2 p1 h1;split at h
         ·rename_i uK A3 p2 hst hmid;split at h
          ·rename_i JA A4 p3 h2;obtain⟨q,h3,rfl⟩:=zP h;have hq:=hp.app.1.app;have Ej:=hq.2.app;have h4:=zK (Q:=KQ P Γ N Q K) hnt h2 Ej.2 (ih h3 hp.app.2 hs);have h6:=L3 (Γ:=Γ) (K:=fun rO=>AO P Γ ops'.toArray (ops'.drop m) (KQ P Γ N Q K) rO) hnt hmid Ej.1 h4;have h5:=DR (Γ:=Γ) (K:=fun σ acc=>(∀i∈L,∀o,ops'[i]?=some o->zN X ⟨σ,st.H⟩ o.op=true)/\RS P Γ X (fun rO=>AO P Γ ops'.toArray (ops'.drop m) (KQ P Γ N Q K) rO) ((ops'.drop k).take (m-k)) ⟨σ,st.H++acc⟩) hnt h1 hq.1 ⟨R5 hst,h6⟩;have hr:=Q4 (l:=ops') (Q:=KQ P Γ N Q K) (st:=st) k m L hB h5;rw[<-a2G]at hr;exact(hr.perm hB1).aw hm
          ·cases h
         ·cases h
        ·cases h
       ·cases h
      ·cases h
     ·cases h
   |_=>simp[go]at h
  |TH=>
   show KQ P Γ N Q K .normal st;simp only[go]at h;split at h
   ·split at h
    ·rename_i d hd;simp only[ah,cK]at h;obtain⟨rfl,_⟩:=h;have hd0:d=d0:=hs;subst hd0;exact hrf st _ (.inr rfl) hd
    ·cases h
   ·split at h
    ·split at h
     ·rename_i hnd;simp only[ah,cK]at h;obtain⟨rfl,_⟩:=h;exact Lj hnd hs
     ·cases h
    ·exact ih (cfg:=.run _) h hp hs
   ·exact ih (cfg:=.TH) h hp hs
   ·split at h
    ·split at h
     ·rename_i k o _ hnd;simp only[ah,cK]at h;obtain⟨rfl,_⟩:=h;exact⟨k,o,hnd,hs⟩
     ·cases h
    ·cases h
  |ex id=>
   show KQ P Γ N Q K (.exit id) st;simp only[go]at h;split at h
   ·cases h
   ·exact ih (cfg:=.ex id) h hp hs
   ·rename_i i K;simp only[KQ,Kb];split at h
    ·rename_i e;rw[bM e];exact ih (cfg:=.TH) h hp hs
    ·rename_i e;rw[b9 e];exact ih (cfg:=.ex id) h hp hs
   ·exact ih (cfg:=.ex id) h hp hs
def WO:Code->aP->List Fr->Code×List Fr
 |c,[],K=>(c,K)
 | .seq x y,i::p,K=>(match i with|0=>WO x p (.sq y::K)|_=>WO y p K)
 | .block id c,_::p,K=>WO c p (.bl id::K)
 | .cond _ x y,i::p,K=>(match i with|0=>WO x p K|_=>WO y p K)
 | .loop c,_::p,K=>WO c p (.lp::K)
 |c,_::_,K=>(c,K)
def Wb:Ob->Option D
 | .eE sz rows (some v)=>some (.agg [.fr 0 sz rows,.val v])
 |_=>none
def Gh:Nat->bJ->Option aK
 |0,_=>some []
 |n+1,o::H=>(match Wb o,Gh n H with|some d,some ds=>some (d::ds)|_,_=>none)
 |_+1,[]=>none
def TY(P:Program)(rs:List ResultVar)(n:Nat)(st:St):Option D:=match zZ P st rs with
 |some ds=>(if ds.all D.flat=true then match Gh n st.H with|some es=>some (.iE (vC ds::es))|none=>none else none)
 |none=>none
def OO:List Rw->bY->aK
 |x::xs,v::vs=>.agg [.fr 0 x.1 x.2,.val v]::OO xs vs
 |_,_=>[]
theorem OE:∀ {n:Nat} {H:bJ} {outs:List Rw} {vs:bY},Gh n H=some (OO outs vs)->∀(i:Nat) x v,outs[i]?=some x->vs[i]?=some v->H[i]?=some (x.ob (some v)):=by
 intro n
 induction n with
 |zero=>
  intro H outs vs h i x v hx hv;cases outs with
  |nil=>simp at hx
  |cons y ys=>
   cases vs with
   |nil=>simp at hv
   |cons u us=>simp[Gh,OO]at h
 |succ n ih=>
  intro H outs vs h i x v hx hv;cases outs with
  |nil=>simp at hx
  |cons y ys=>
   cases vs with
   |nil=>simp at hv
   |cons u us=>
    cases H with
    |nil=>simp[Gh]at h
    |cons o H=>
     simp only[Gh,OO]at h;split at h
     ·rename_i d ds h1 h2;simp only[ah,uQ]at h;obtain⟨rfl,rfl⟩:=h;cases i with
      |zero=>
       simp at hx hv;subst hx;subst hv;unfold Wb at h1;split at h1
       ·simp only[ah,D.agg.injEq,uQ,D.fr.injEq,D.val.injEq,nU,and_true]at h1;obtain⟨⟨h3,h4⟩,h5⟩:=h1;simp[Rw.ob,h3,h4,h5]
       ·cases h1
      |succ i=>simpa using ih h2 i x v (by simpa using hx) (by simpa using hv)
     ·cases h
theorem Vl{fn:Func}{st:St}{d:D}{outs:List Rw}{vs:bY}{n:Nat}{e:Exit}(he:e=.ret\/e=.normal)(h:TY P fn.results.toList n st=some (.iE (d::OO outs vs))):qF P fn vs outs d e st:=by
 unfold TY at h;split at h
 ·rename_i ds h1;split at h
  ·rename_i hf;split at h
   ·rename_i es h2;simp only[ah,D.iE.injEq,uQ]at h;obtain⟨rfl,rfl⟩:=h;exact⟨he,ds,h1,hf,rfl,OE h2⟩
   ·cases h
  ·cases h
 ·cases h
theorem er{fn:Func}{d:D}{outs:List Rw}{vs:bY}{nt n:Nat}(m:Nat){c:Code}{K:List Fr}{st:St}(A:dh)(s:Stop){p:yc}(hnt:Γ.nt=nt)(hm:P.follows .mixedOrders=true)(h:go P (TY P fn.results.toList m) nt n (.run c) K st A=some (s,p))(hp:tP p)
 (hs:NS P Γ N (qF P fn vs outs d) (.iE (d::OO outs vs)) s):AW P Γ c (KQ P Γ N (qF P fn vs outs d) K) st:=go_sound (Q:=qF P fn vs outs d) (N:=N) (K:=K) (st:=st) (d0:=.iE (d::OO outs vs)) (cfg:=.run c) (fun _ _ he h=>Vl he h) hnt hm h hp hs
def X3(P:Program)(rs:List ResultVar×List (List (Option (Nat×Nat))))(st:St):Option D:=match zZ P st rs.1,(st.H[0]?:Option Ob)with
 |some ds,some (Ob.Gj cells v)=>(match wR st.H rs.2 (.agg cells::ds)with
  |some (.agg cells'::es,ms,qs)=>(if ms.Nodup/\qs.Nodup then some (.iE [vC es,.agg cells',.val v])else none)
  |_=>none)
 |_,_=>none
def X2(P:Program)(rs:List ResultVar)(st:St):Option D:=match zZ P st rs with
 |some [.ptr j 0]=>(match st.H[j]? with|some (.box cells)=>(if cells.all D.Lh=true then some (.agg cells)else none)|_=>none)
 |_=>none
inductive Kd where
 |q (nz:List (List (Option (Nat×Nat)))) (d:D)
 |p (nz:List (List (Option (Nat×Nat)))) (v:Value) (cells:aK) (d:D)
 |n (cells:aK)
def Kd.rf(P:Program)(fn:Func)(k:Kd)(st:St):Option D:=match k with
 | .q nz _=>YV P (fn.results.toList,nz) st
 | .p nz _ _ _=>X3 P (fn.results.toList,nz) st
 | .n _=>X2 P fn.results.toList st
def Kd.d0:Kd->D
 | .q _ d=>d
 | .p _ v cells d=>.iE [d,.agg cells,.val v]
 | .n cells=>.agg cells
def Kd.qq(P:Program)(fn:Func):Kd->Exit->St->Prop
 | .q _ d=>KY P fn d
 | .p _ v cells d=>Rl P fn v cells d
 | .n cells=>a1M P fn cells
theorem Kd.ok{fn:Func}(k:Kd){st:St}{e:Exit}(he:e=.ret\/e=.normal)(h:k.rf P fn st=some k.d0):k.qq P fn e st:=by
 cases k with
 |q nz d=>exact YW he h
 |p nz v cells d=>
  simp only[Kd.rf,X3,Kd.d0]at h;split at h
  ·rename_i ds Kc v' h1 h2;split at h
   ·rename_i cells' es ms qs h3;split at h
    ·rename_i hc;simp only[ah,D.iE.injEq,uQ,D.agg.injEq,D.val.injEq,and_true]at h;obtain⟨rfl,rfl,rfl⟩:=h;exact⟨he,_,_,_,_,_,_,h1,h2,h3,hc.1,hc.2,rfl⟩
    ·cases h
   ·cases h
  ·cases h
 |n cells=>
  simp only[Kd.rf,X2,Kd.d0]at h;split at h
  ·rename_i j h1;split at h
   ·rename_i cells' h2;split at h
    ·rename_i hc;simp only[ah,D.agg.injEq]at h;subst h;exact⟨he,j,h1,h2,hc⟩
    ·cases h
   ·cases h
  ·cases h
theorem Hy{fn:Func}{k:Kd}{nt n:Nat}{c:Code}{K:List Fr}{st:St}(A:dh)(s:Stop){p:yc}(hnt:Γ.nt=nt)(hm:P.follows .mixedOrders=true)(h:go P (k.rf P fn) nt n (.run c) K st A=some (s,p))(hp:tP p)
 (hs:NS P Γ N (k.qq P fn) k.d0 s):AW P Γ c (KQ P Γ N (k.qq P fn) K) st:=go_sound (Q:=k.qq P fn) (N:=N) (K:=K) (st:=st) (d0:=k.d0) (cfg:=.run c) (fun _ _ he h=>k.ok he h) hnt hm h hp hs
def Hh(P:Program)(Γ:pG)(c:Code)(Q:Exit->St->Prop)(n:Nat)(st:St):Prop:=
 ∀κ Θ a w,cz Γ st κ Θ a w->Code.rounds P c (fun e a' w'=>∃rO κ' Θ',cz Γ rO κ' Θ' a' w'/\Q e rO) n a w
theorem sP{c:Code}{n:Nat}{st:St}(h:Hh P Γ c Q n st):AW P Γ (.loop c) Q st:=fun κ Θ a w hs=>wp_loop_rounds n (h κ Θ a w hs)
theorem aO{c:Code}{K:List Fr}{n:Nat}{st:St}
 (h:∀N',(∀d,d<depth K->N' d=N d)->N' (depth K)=Hh P Γ c (KQ P Γ N Q K) n->AW P Γ c (KQ P Γ N' Q (.lp::K)) st):Hh P Γ c (KQ P Γ N Q K) (n+1) st:=by
 intro κ Θ a w hs;have:=h (fun d=>if d<depth K then N d else Hh P Γ c (KQ P Γ N Q K) n) (fun d hd=>bM hd) (b9 (by omega));simp only[KQ]at this;rw[b9 (by omega)]at this;rw[<-Lm (N:=N) (N':=fun d=>if d<depth K then N d else Hh P Γ c (KQ P Γ N Q K) n) K (fun d hd=>(bM hd).symm)]at this;rw[rounds_succ];refine wp_mono (this κ Θ a w hs) ?_;rintro e a' w' ⟨rO,κ',Θ',hs',hq⟩;cases e with
 |normal=>
  obtain⟨k,o,hnd,hR'⟩:=hq;obtain⟨κ2,Θ2,hs2⟩:=hs'.zT k o hnd;exact hR' κ2 Θ2 a' w' hs2
 |exit id=>exact⟨_,_,_,hs',hq⟩
 |goto l=>exact⟨_,_,_,hs',hq⟩
 |ret=>exact⟨_,_,_,hs',hq⟩
 |panic c=>exact⟨_,_,_,hs',hq⟩
 |outgrown=>exact⟨_,_,_,hs',hq⟩
end
theorem aN{α:Type}{c:Bool}{x y:Option α}{r:α}(h:(bif c then x else y)=some r):(c=true/\x=some r)\/(c=false/\y=some r):=by
 cases c
 ·exact .inr ⟨rfl,h⟩
 ·exact .inl ⟨rfl,h⟩
theorem bu{α:Type}{c:Bool}{x:Option α}{r:α}(h:(bif c then x else none)=some r):c=true/\x=some r:=by
 cases c
 ·cases h
 ·exact⟨rfl,h⟩
theorem aF{α β:Type}{x:Option α}{f:α->Option β}{r:β}(h:x.bind f=some r):∃y,x=some y/\f y=some r:=by
 cases x with
 |none=>cases h
 |some y=>exact⟨y,rfl,h⟩
theorem aJ{α:Type}{x y:α}(h:some x=some y):x=y:=by cases h;rfl
theorem yP:tP []:=trivial
theorem ow{p:Prop}{ps:yc}(h:p)(t:tP ps):tP (p::ps):=⟨h,t⟩
def sK{α:Type}(l:List α)(i:Int):Option α:=bif decide (0<=i)then l[i.toNat]? else none
theorem Oz{α β:Type}{l:List α}{i:Int}{x:α}(f:α->β)(h:sK l i=some x):0<=i/\(l.map f)[i.toNat]?=some (f x):=by
 unfold sK at h;cases hd:decide (0<=i)with
 |false=>rw[hd]at h;cases h
 |true=>rw[hd]at h;simp only[aa]at h;exact⟨by simpa using hd,by rw[bg,h];rfl⟩
theorem XM{l:Bytes}{i:Int}{x:UInt8}(h:sK l i=some x):0<=i/\l[i.toNat]?=some x:=by
 unfold sK at h;cases hd:decide (0<=i)with
 |false=>rw[hd]at h;cases h
 |true=>rw[hd]at h;exact⟨by simpa using hd,h⟩
def fuel:Nat:=4194304
theorem oL{α:Type}{l:List α}{i:Int}{x:α}(f:α->aK)(n:Nat)(h:sK l i=some x)(hn:(f x).length=n):0<=i/\(l.map f)[i.toNat]?=some (f x)/\(f x).length=n:=⟨(Oz f h).1,(Oz f h).2,hn⟩
theorem EZ{i n:Nat}(sz:Nat)(h:decide (i<n)=true):sz=sz/\(i:Int)=((i:Nat):Int)/\i<n:=⟨rfl,rfl,bq h⟩
theorem mQ{α:Type}{l:List α}{i:Nat}{x:α}(f:α->aK)(sz:Nat)(h:l[i]?=some x):sz=sz/\(i:Int)=((i:Nat):Int)/\i<(l.map f).length:=⟨rfl,rfl,by rw[ai];exact(aD.1 h).1⟩
theorem J1{α:Type}{l:List α}{i:Int}{x:α}(f:α->aK)(sz:Nat)(h:sK l i=some x):sz=sz/\i=((i.toNat:Nat):Int)/\i.toNat<(l.map f).length:=by
 obtain⟨h0,h1⟩:=Oz f h;exact⟨rfl,by omega,(aD.1 h1).1⟩
theorem Ex{α:Type}{l:List α}{i:Int}{x:α}(h:sK l i=some x):l[i.toNat]?=some x:=by
 have:=(Oz (fun y=>y) h).2;simpa using this
theorem Gk{x y:Int}(k:IntKind)(h:(decide (0<=x)&&decide (0<y))=true):k=k/\0<=x/\0<y:=by simpa using h
def room(n b:Nat):Bool:=decide (n<=maxLen)&&decide (n*b<=140737488355328)
theorem cT{n b:Nat}(h:room n b=true):n<=maxLen/\n*b<=140737488355328:=by
 simp only[room,aX,bO]at h;exact h
def HG(n:Int)(b:Nat):Bool:=decide (0<=n)&&decide (b*n.toNat<=281474976710656)&&decide (n.toNat<=4611686018427387904)
theorem Fx{n:Int}{b:Nat}(h:HG n b=true):n=n/\0<=n/\b*n.toNat<=281474976710656/\n.toNat<=4611686018427387904:=by
 simp only[HG,aX,bO]at h;exact⟨rfl,h.1.1,h.1.2,h.2⟩
theorem Sg{k n:Nat}(h:k<n)(hn:n<=maxLen):IntKind.i64.wrap ((k:Int)+1)=((k+1:Nat):Int):=by
 unfold maxLen at hn;rw[jO (qY.i64.2 (by omega))];omega
theorem Va{k n:Nat}(h:k<n):decide ((k:Int)<(n:Int))=true:=by simp[h]
theorem T7{k n:Nat}(h:n<=k):decide ((k:Int)<(n:Int))=false:=by simp;omega
theorem drop_cons{α:Type}{l:List α}{k:Nat}{x:α}{xs:List α}(h:l.drop k=x::xs):l[k]?=some x/\k<l.length/\l.drop (k+1)=xs:=by
 have h1:l[k]?=some x:=by
  have:=congrArg (fun m:List α=>m[0]?) h;simpa[dW]using this
 refine⟨h1,(aD.1 h1).1,?_⟩;rw[<-fU,h];rfl
theorem drop_nil{α:Type}{l:List α}{k:Nat}(h:l.drop k=[]):l.length<=k:=by simpa using h
theorem T9{α β:Type}{l:List α}{k:Nat}{x:α}(f:α->β)(h:l[k]?=some x):0<=(k:Int)/\(l.map f)[(k:Int).toNat]?=some (f x):=⟨by omega,by simp[h]⟩
theorem bD{α:Type}{l:List α}{k:Nat}{x:α}(f:α->aK)(n:Nat)(h:l[k]?=some x)(hn:(f x).length=n):0<=(k:Int)/\(l.map f)[(k:Int).toNat]?=some (f x)/\(f x).length=n:=⟨(T9 f h).1,(T9 f h).2,hn⟩
theorem T8{α β:Type}{l:List α}{k:Nat}(f:α->β)(h:k<l.length):decide ((k:Int)<((l.map f).length:Int))=true:=by rw[ai];exact Va h
theorem Qk{α β:Type}{l:List α}{k:Nat}(f:α->β)(h:l.length<=k):decide ((k:Int)<((l.map f).length:Int))=false:=by rw[ai];exact T7 h
theorem fX{α β:Type}{l:List α}{k:Nat}{x:α}(f:α->β)(h:l[k]?=some x):(l.map f)[k]?=some (f x):=by rw[bg,h];rfl
theorem cU{α β:Type}{f:α->β}(dn:List α)(y z:β)(r:List β):(dn.map f++y::r).set dn.length z=dn.map f++z::r:=by
 rw[jg _ _ (by simp)];simp
theorem cy{α β:Type}{f:α->β}(dn:List α)(y:β)(r:List β):(dn.map f++y::r)[dn.length]?=some y:=by
 rw[av (by simp)];simp
theorem xU{α β:Type}{f:α->β}(dn:List α)(y:β)(r:List β):decide ((dn.length:Int)<((dn.map f++y::r).length:Int))=true:=by
 rw[bO,aM,ai,aG];omega
theorem xO{α β:Type}{f:α->β}(dn:List α):decide ((dn.length:Int)<((dn.map f++([]:List α).map f).length:Int))=false:=by
 rw[rz];simp
theorem tZ{n:Nat}(h:n+1<=maxLen):IntKind.i64.wrap ((n:Int)+1)=((n+1:Nat):Int):=by
 unfold maxLen at h;rw[jO (qY.i64.2 (by omega))];omega
def Fl{α β:Type}[BEq α](z:β)(k:α):List (α×β)->β
 | []=>z
 |p::r=>bif k==p.1 then p.2 else Fl z k r
def Vb{α β:Type}[BEq α](k:α):List (α×β)->Bool
 | []=>false
 |p::r=>bif k==p.1 then true else Vb k r
def Ip{α β:Type}[BEq α](k:α)(v:β):List (α×β)->List (α×β)
 | []=>[(k,v)]
 |p::r=>bif k==p.1 then(k,v)::r else p::Ip k v r
def eB(b:Bool):D:=.bool b
def kS{β:Type}(e:β->D)(p:Bytes×β):D×D:=(.str p.1,e p.2)
theorem PD{β:Type}{e:β->D}(z:β)(k:Bytes):∀(m:List (Bytes×β)),(Bu (.str k) (m.map (kS e))=some none/\Vb k m=false/\Fl z k m=z)\/(Bu (.str k) (m.map (kS e))=some (some (e (Fl z k m)))/\Vb k m=true)
 | []=>.inl ⟨rfl,rfl,rfl⟩
 |p::r=>by
  simp only[bI,Bu,kS,Z1,Vb,Fl];cases hb:k==p.1 with
  |true=>exact .inr ⟨rfl,rfl⟩
  |false=>exact PD z k r
theorem a0F{P:Program}{T:TypeId}{β:Type}{e:β->D}{z:β}{k:Bytes}{m:List (Bytes×β)}(hT:R9 P T=some (.string,e z)):Z4 P T (m.map (kS e)) (.str k) false=some (e (Fl z k m)):=by
 unfold Z4;rw[hT];rcases PD (e:=e) z k m with⟨h1,_,h3⟩|⟨h1,_⟩
 ·simp only[ET,h1,h3,ay]
 ·simp only[ET,h1,ay]
theorem TP{β:Type}{e:β->D}{k:Bytes}{v:β}:∀ {m:List (Bytes×β)},Fj (.str k) (e v) (m.map (kS e))=some ((Ip k v m).map (kS e))
 | []=>rfl
 |p::r=>by
  simp only[bI,Fj,Ip];have hq:Z1 (.str k) (kS e p).1=some (k==p.1):=rfl;rw[hq];cases hb:k==p.1 with
  |true=>rfl
  |false=>simp only[TP (m:=r),cJ,ay,bI]
end Go.Cx
namespace Go.Cx
open Go.RowKit Go.Proofs Tryz
abbrev rB:=List Fr
structure aL where
 rel:Bytes
 args:aE
 deriving DecidableEq
structure aS where
 var:Bytes
 value:Bytes
 deriving DecidableEq
structure aI where
 kind:Int
 pat:aL
 left:Bytes
 right:Bytes
 deriving DecidableEq
structure Action where
 kind:Int
 pat:aL
 deriving DecidableEq
structure aH where
 name:Bytes
 prio:Int
 conds:List aI
 cc:List Action
 deriving DecidableEq
structure aq where
 facts:List aL
 bind:List aS
 deriving DecidableEq
structure fW where
 rule:Bytes
 facts:List aL
 bind:List aS
 deriving DecidableEq
structure aW where
 shape:aL
 facts:List aL
 deriving DecidableEq
structure Node where
 parent:Int
 cond:aI
 oU:Int
 tokens:List aq
 deriving DecidableEq
structure aR where
 rules:List aH
 ends:bZ
 bU:List aW
 nodes:List Node
 facts:List aL
 cu:Int
 deriving DecidableEq
structure fc where
 fact:aL
 time:Int
 deriving DecidableEq
structure a1K where
 rule:Bytes
 times:bZ
 deriving DecidableEq
structure a1J where
 a4s:fW
 prio:Int
 times:bZ
 spec:Int
 order:Int
 deriving DecidableEq
structure tX where
 b:bZ
 i:Int
 h:Int
 deriving DecidableEq
abbrev tx(s:Bytes):List D:=[.str s]
abbrev jd(n:Int):List D:=[.int .i64 n]
abbrev bx(b:Bool):List D:=[.bool b]
abbrev yx(n:Int):List D:=[.int .u8 n]
abbrev dT(l:List Bytes):D:=.sl (l.map tx)
abbrev dI(l:List Int):D:=.sl (l.map jd)
abbrev aL.c(x:aL):List D:=[.str x.rel,dT x.args]
abbrev aS.c(x:aS):List D:=[.str x.var,.str x.value]
abbrev aI.c(x:aI):List D:=[.int .i64 x.kind,.str x.pat.rel,dT x.pat.args,.str x.left,.str x.right]
abbrev Action.c(x:Action):List D:=[.int .i64 x.kind,.str x.pat.rel,dT x.pat.args]
abbrev aH.c(x:aH):List D:=[.str x.name,.int .i64 x.prio,.sl (x.conds.map aI.c),.sl (x.cc.map Action.c)]
abbrev aq.c(x:aq):List D:=[.sl (x.facts.map aL.c),.sl (x.bind.map aS.c)]
abbrev fW.c(x:fW):List D:=[.str x.rule,.sl (x.facts.map aL.c),.sl (x.bind.map aS.c)]
abbrev aW.c(x:aW):List D:=[.str x.shape.rel,dT x.shape.args,.sl (x.facts.map aL.c)]
abbrev Node.c(x:Node):List D:=[.int .i64 x.parent,.int .i64 x.cond.kind,.str x.cond.pat.rel,dT x.cond.pat.args,.str x.cond.left,.str x.cond.right,.int .i64 x.oU,.sl (x.tokens.map aq.c)]
abbrev aR.c(x:aR):List D:=[.sl (x.rules.map aH.c),dI x.ends,.sl (x.bU.map aW.c),.sl (x.nodes.map Node.c),.sl (x.facts.map aL.c),.int .i64 x.cu]
abbrev fc.c(x:fc):List D:=[.str x.fact.rel,dT x.fact.args,.int .i64 x.time]
abbrev tX.c(x:tX):List D:=[.sl (x.b.map yx),.int .i64 x.i,.int .i64 x.h]
def j4(fn:Func):Code:=match fn.body with
 |some c=>c
 |none=>.skip
theorem wZ:prog.follows .mixedOrders=true:=by kernel_rfl
theorem Hx{P:Program}{Γ:pG}{Q:Exit->St->Prop}{N N':Nat->St->Prop}{c:Code}{K K0:rB}{st:St}(hd:depth K=depth K0)(hN:∀d,d<depth K0->N' d=N d)(t:AW P Γ c (KQ P Γ N Q K) st):AW P Γ c (KQ P Γ N' Q K) st:=by
 rw[Lm (N:=N') (N':=N) K (fun d h=>hN d (by omega))];exact t
theorem rE{P:Program}{Γ:pG}{Q:Exit->St->Prop}{c:Code}{s s':St}(h:s=s')(t:AW P Γ c Q s'):AW P Γ c Q s:=by rw[h];exact t
theorem yJ{α:Type}{c:α->aK}(hc:∀x,(c x).all D.flat=true)(l:List α):(l.map c).flatten.all D.flat=true:=by
 induction l with
 |nil=>rfl
 |cons x l ih=>rw[bI,dR,List.all_append,hc,ih];rfl
abbrev bT:An:=.b true
abbrev bF:An:=.b false
structure Pre(A:List An)(p:yc):Prop where
 h:tP p
theorem aT:Pre [] []:=⟨trivial⟩
theorem tP.join{p q:yc}(h:tP p)(k:tP q):tP (p++q):=by
 induction p with
 |nil=>exact k
 |cons x p ih=>exact⟨h.1,ih h.2⟩
theorem Pre.ext{A:dh}{p:yc}(o:Pre A p)(B:dh){q:yc}(hq:tP q):Pre (A++B) (p++q):=⟨o.h.join hq⟩
section
variable{A:dh}{p:yc}
theorem Pre.b(o:Pre A p){c v:Bool}(h:c=v):Pre (A++[.b v]) (p++[c=v]):=o.ext _ ⟨h,trivial⟩
theorem Pre.r(o:Pre A p)(n:Nat){c v:Bool}(h:c=v):Pre (A++List.replicate n (.b v)) (p++List.replicate n (c=v)):=o.ext _ (by
 induction n with
 |zero=>trivial
 |succ n ih=>exact⟨h,ih⟩)
theorem Pre.T(o:Pre A p)(n:Nat):Pre (A++List.replicate n bT) (p++List.replicate n (true=true)):=o.r n rfl
theorem Pre.F(o:Pre A p)(n:Nat):Pre (A++List.replicate n bF) (p++List.replicate n (false=false)):=o.r n rfl
theorem Pre.g(o:Pre A p){f:FuncId}{ds:aK}{d:D}(h:Good prog f ds d):Pre (A++[.d d]) (p++[Good prog f ds d]):=o.ext _ ⟨h,trivial⟩
theorem Pre.hp(o:Pre A p)(nz:List (List (Option (Nat×Nat)))){f:FuncId}{cells cells' ds:aK}{d:D}(h:qm prog f cells cells' ds d):Pre (A++[.gp nz cells' d]) (p++[qm prog f cells cells' ds d]):=o.ext _ ⟨h,trivial⟩
theorem Pre.w(o:Pre A p){q:Prop}(h:q):Pre (A++[]) (p++[q]):=o.ext _ ⟨h,trivial⟩
theorem Pre.a(o:Pre A p)(B:dh):Pre (A++B) (p++[]):=o.ext _ (q:=[]) trivial
theorem Pre.l(o:Pre A p){n:Int}{rows:List aK}{r:aK}{sz:Nat}(h:0<=n/\rows[n.toNat]?=some r/\r.length=sz):Pre (A++[.row r]) (p++[0<=n/\rows[n.toNat]?=some r/\r.length=sz]):=o.ext _ ⟨h,trivial⟩
theorem Pre.i(o:Pre A p){sz sz' m k:Nat}{n:Int}(h:sz=sz'/\n=((k:Nat):Int)/\k<m):Pre (A++[.ix k]) (p++[sz=sz'/\n=((k:Nat):Int)/\k<m]):=o.ext _ ⟨h,trivial⟩
theorem Pre.o(o:Pre A p)(sz n:Nat)(k:RK){rows:List aK}{i:Nat}{r:aK}(h:rows[i]?=some r)(hk:k.L8=true:=by kernel_rfl)(hn:Nat.ble n sz=true:=by kernel_rfl):Pre (A++[.row r]) (p++[sz=sz/\k.L8=true/\rows[i]?=some r/\n<=sz]):=o.ext _ ⟨⟨rfl,hk,h,sx hn⟩,trivial⟩
theorem Pre.c(o:Pre A p){s:Bytes}{i:Int}{b:UInt8}(h:sK s i=some b):Pre (A++[.ch b]) (p++[0<=i/\s[i.toNat]?=some b]):=o.ext _ ⟨XM h,trivial⟩
theorem Pre.lt{α:Type}{l xs:List α}{i:Nat}{x:α}(o:Pre A p)(f:α->aK)(h:l.drop i=x::xs):Pre (A++[bT]) (p++[decide ((i:Int)<((l.map f).length:Int))=true]):=o.b (T8 f (drop_cons h).2.1)
theorem Pre.ge{α:Type}{l:List α}{i:Nat}(o:Pre A p)(f:α->aK)(h:l.drop i=[]):Pre (A++[bF]) (p++[decide ((i:Int)<((l.map f).length:Int))=false]):=o.b (Qk f (drop_nil h))
end
theorem dc{α:Type}{l:List α}{k:Nat}{x:α}{xs:List α}(h:l.drop k=x::xs):l[k]?=some x:=(drop_cons h).1
theorem dn{α:Type}{l:List α}{k:Nat}{x:α}{xs:List α}(h:l.drop k=x::xs):l.drop (k+1)=xs:=(drop_cons h).2.2
theorem iS{α:Type}{l:List α}{k:Nat}{x:α}{xs:List α}(h:l.drop k=x::xs)(hn:l.length<=maxLen):IntKind.i64.wrap ((k:Int)+1)=((k+1:Nat):Int):=Sg (drop_cons h).2.1 hn
theorem mA{α β:Type}(f:α->β):(∀a b:List α,(a++b).map f=a.map f++b.map f)/\(∀(x:α) (a:List α),(x::a).map f=f x::a.map f)/\([]:List α).map f=[]/\(∀(l:List α) (i:Nat) (x:α),(l.set i x).map f=(l.map f).set i (f x))/\(∀(n:Nat) (x:α),(List.replicate n x).map f=List.replicate n (f x))/\(∀(l:List α) (n:Nat),(l.take n).map f=(l.map f).take n):=
 ⟨fun _ _=>bR,fun _ _=>rfl,rfl,fun _ _ _=>List.map_set,fun _ _=>List.map_replicate,fun _ _=>dl⟩
section
variable{Γ:pG}{N N1:Nat->St->Prop}{fn:Func}{k:Kd}{nt:Nat}{A:dh}{p:yc}{c c':Code}{K K' K0:rB}{st rO:St}
theorem Pre.ret(o:Pre A p)(hnt:Γ.nt=nt)(h:go prog (k.rf prog fn) nt 2000 (.run c) K st A=some (.ret k.d0,p):=by kernel_rfl):AW prog Γ c (KQ prog Γ N (k.qq prog fn) K) st:=Hy (n:=2000) A _ hnt wZ h o.h rfl
theorem Pre.rts(o:Pre A p)(hnt:Γ.nt=nt)(d:D)(hd:d=k.d0)(h:go prog (k.rf prog fn) nt 2000 (.run c) K st A=some (.ret d,p):=by kernel_rfl):AW prog Γ c (KQ prog Γ N (k.qq prog fn) K) st:=Hy (n:=2000) A _ hnt wZ h o.h hd
theorem Pre.cs(o:Pre A p)(hnt:Γ.nt=nt){n:Nat}(hS:N1 (depth K')=Hh prog Γ c' (KQ prog Γ N (k.qq prog fn) K') n)(S:St)(e:S=rO)(t:Hh prog Γ c' (KQ prog Γ N (k.qq prog fn) K') n rO)
 (h:go prog (k.rf prog fn) nt 2000 (.run c) K st A=some (.cont (depth K') S,p):=by kernel_rfl):AW prog Γ c (KQ prog Γ N1 (k.qq prog fn) K) st:=Hy (n:=2000) A _ hnt wZ h o.h ((congrFun hS _).mpr (by rw[e];exact t))
theorem Pre.cf(o:Pre A p)(hnt:Γ.nt=nt){n:Nat}(hS:N1 (depth K')=Hh prog Γ c' (KQ prog Γ N (k.qq prog fn) K') n)(t:Hh prog Γ c' (KQ prog Γ N (k.qq prog fn) K') n rO)
 (h:go prog (k.rf prog fn) nt 2000 (.run c) K st A=some (.cont (depth K') rO,p):=by kernel_rfl):AW prog Γ c (KQ prog Γ N1 (k.qq prog fn) K) st:=o.cs hnt hS _ rfl t h
theorem Pre.ct(o:Pre A p)(hnt:Γ.nt=nt){n i:Nat}{S:Int->St}(hS:N1 (depth K')=Hh prog Γ c' (KQ prog Γ N (k.qq prog fn) K') n)(hi:IntKind.i64.wrap ((i:Int)+1)=((i+1:Nat):Int))(t:Hh prog Γ c' (KQ prog Γ N (k.qq prog fn) K') n (S ((i+1:Nat):Int)))
 (h:go prog (k.rf prog fn) nt 2000 (.run c) K st A=some (.cont (depth K') (S (IntKind.i64.wrap ((i:Int)+1))),p):=by kernel_rfl):AW prog Γ c (KQ prog Γ N1 (k.qq prog fn) K) st:=o.cs hnt hS _ (congrArg S hi) t h
theorem Pre.exs(o:Pre A p)(hnt:Γ.nt=nt)(hN:∀d,d<depth K0->N1 d=N d)(S:St)(e:S=rO)(t:AW prog Γ c' (KQ prog Γ N (k.qq prog fn) K') rO)(hd:depth K'=depth K0:=by kernel_rfl)(h:go prog (k.rf prog fn) nt 2000 (.run c) K st A=some (.at_ c' K' S,p):=by kernel_rfl):
 AW prog Γ c (KQ prog Γ N1 (k.qq prog fn) K) st:=Hy (n:=2000) A _ hnt wZ h o.h (Hx (K0:=K0) hd hN (by rw[e];exact t))
theorem Pre.ex(o:Pre A p)(hnt:Γ.nt=nt)(hN:∀d,d<depth K0->N1 d=N d)(t:AW prog Γ c' (KQ prog Γ N (k.qq prog fn) K') rO)(hd:depth K'=depth K0:=by kernel_rfl)(h:go prog (k.rf prog fn) nt 2000 (.run c) K st A=some (.at_ c' K' rO,p):=by kernel_rfl):
 AW prog Γ c (KQ prog Γ N1 (k.qq prog fn) K) st:=o.exs hnt hN _ rfl t hd h
theorem Pre.Wd(o:Pre A p)(hnt:Γ.nt=nt){n:Nat}(S:St)(e:S=rO)(t:Hh prog Γ c' (KQ prog Γ N (k.qq prog fn) K') n rO)(h:go prog (k.rf prog fn) nt 2000 (.run c) K st A=some (.lp c' K' S,p):=by kernel_rfl):
 AW prog Γ c (KQ prog Γ N (k.qq prog fn) K) st:=Hy (n:=2000) A _ hnt wZ h o.h (rE e (sP t))
theorem Pre.lp(o:Pre A p)(hnt:Γ.nt=nt){n:Nat}(t:Hh prog Γ c' (KQ prog Γ N (k.qq prog fn) K') n rO)(h:go prog (k.rf prog fn) nt 2000 (.run c) K st A=some (.lp c' K' rO,p):=by kernel_rfl):
 AW prog Γ c (KQ prog Γ N (k.qq prog fn) K) st:=o.Wd hnt _ rfl t h
end
abbrev lc(f:Func)(p:List Nat):Code:=(WO (j4 f) p []).1
abbrev uO(f:Func)(p:List Nat):List Fr:=(WO (j4 f) p []).2
abbrev Ax(Γ:pG)(N:Nat->St->Prop)(f:Func)(k:Kd)(p:List Nat)(s:St):Prop:=AW prog Γ (lc f p) (KQ prog Γ N (k.qq prog f) (uO f p)) s
abbrev Ar(Γ:pG)(N:Nat->St->Prop)(f:Func)(k:Kd)(p:List Nat)(n:Nat)(s:St):Prop:=Hh prog Γ (lc f (p++[0])) (KQ prog Γ N (k.qq prog f) (uO f p)) n s
theorem gd{f:FuncId}{fn:Func}{ds:aK}{d:D}(hf:prog.funcs[f]?=some fn)(nz:List (List (Option (Nat×Nat))))(nt:Nat)(h:(∀d∈ds,gm d)->∀Γ:pG,Γ.nt=nt->AW prog Γ (j4 fn) (KQ prog Γ (fun _ _=>False) ((Kd.q nz d).qq prog fn) []) ⟨uj 0 ds,[]⟩)
 (hb:fn.body=some (j4 fn):=by kernel_rfl) (hn:(fn.name== "runtime.NumGoroutine")=false:=by kernel_rfl) (hl:Nat.ble ds.length fn.ntmps=true:=by kernel_rfl) (ht:fn.ntmps=nt:=by kernel_rfl):Good prog f ds d:=
 Good.of hf hb hn (sx hl) fun hr Γ hΓ=>h hr Γ (hΓ.trans ht)
theorem S7{f:FuncId}{fn:Func}{cells cells' ds:aK}{d:D}(hf:prog.funcs[f]?=some fn)(nz:List (List (Option (Nat×Nat))))(nt:Nat)(Al Lf:aK)(obs:bJ)
 (h:(∀x∈(D.agg cells::ds).map D.Ua,gm x)->∀(v0:Value) (Γ:pG),Γ.nt=nt->AW prog Γ (j4 fn) (KQ prog Γ (fun _ _=>False) ((Kd.p nz v0 cells' d).qq prog fn) []) ⟨uj 0 (.ptr 0 0::Lf),.Gj Al v0::obs⟩)
 (hI:xT 1 (.agg cells::ds)=(.agg Al::Lf,obs):=by kernel_rfl) (hb:fn.body=some (j4 fn):=by kernel_rfl) (hn:(fn.name== "runtime.NumGoroutine")=false:=by kernel_rfl) (hl:Nat.ble (Lf.length+1) fn.ntmps=true:=by kernel_rfl) (ht:fn.ntmps=nt:=by kernel_rfl):qm prog f cells cells' ds d:=
 qm.of hf hb hn hI (sx hl) fun hr v0 Γ hΓ=>h hr v0 Γ (hΓ.trans ht)
end Go.Cx
namespace Go.Cx
open Go.RowKit Go.Proofs Tryz
abbrev aQ:=List aS
abbrev aY:=List aI
abbrev af:=List aH
abbrev ar:=List aL
abbrev bB:=List Node
abbrev bE:=List aW
abbrev bX:=List aq
abbrev bh:=List Action
theorem gK{α:Type}[DecidableEq α][BEq α][LawfulBEq α](a b:α):(a==b)=decide (a=b):=by rw[bn];simp
def Ag(cs:aK):Prop:=∀d∈cs,gm d
theorem Ag.row{α:Type}{c:α->aK}{l:List α}(h:gm (.sl (l.map c))):∀x∈l,Ag (c x):=fun x hx d hd=>(gm.sl h).2 (c x) (cO.2 ⟨x,hx,rfl⟩) d hd
theorem Good.YP{P:Program}{f:FuncId}{ds:aK}{d:D}(hf:∃fn,P.funcs[f]?=some fn/\fn.body.isSome=true/\(fn.name== "runtime.NumGoroutine")=false)(h:Ag ds->Good P f ds d):Good P f ds d:=
 ⟨hf,fun w Θ args bs hv hargs h1 h2 h3=>(h hargs.rdb).2 w Θ args bs hv hargs h1 h2 h3⟩
def qB{α:Type}(w:α->Nat)(l:List α):Nat:=l.length+(l.map w).sum
def tw(s:Bytes):Nat:=s.length
theorem mL{α:Type}(w:α->Nat)(x:α)(l:List α):qB w (x::l)=1+w x+qB w l:=by simp[qB];omega
theorem Oq{α:Type}(w:α->Nat)(a b:List α):qB w (a++b)=qB w a+qB w b:=by
 induction a with
 |nil=>simp[qB]
 |cons x a ih=>rw[cv,mL,mL,ih];omega
theorem oQ{α:Type}(w:α->Nat)(l:List α):l.length<=qB w l:=by unfold qB;omega
theorem qE{α:Type}{w:α->Nat}{l:List α}{x:α}(h:x∈l):w x+1<=qB w l:=by
 induction l with
 |nil=>cases h
 |cons y l ih=>
  rw[mL];rcases bG.1 h with rfl|h
  ·omega
  ·have:=ih h;omega
theorem UH{n:Nat}{v:Int}(hn:n<=maxLen)(h0:0<=v)(h1:v<=1048576):IntKind.i64.wrap (v-(n:Int))=v-(n:Int):=by
 unfold maxLen at hn;exact jO (qY.i64.2 (by omega))
def zh(o:Option Int)(v:Int)(n:Nat):Prop:=∃r,o=some r/\r<=v/\(0<=r->(n:Int)<=v-r)
theorem zh.str{n m:Nat}{v:Int}{k:Option Int}(hn:n<=maxLen)(h0:0<=v)(h1:v<=1048576)(hk:0<=v-(n:Int)->IntKind.i64.wrap (v-(n:Int))=v-(n:Int)->zh k (v-(n:Int)) m):
 zh (bif decide (IntKind.i64.wrap (v-(n:Int))<0)then some (-1)else k) v (n+m):=by
 have hw:=UH hn h0 h1;rw[hw];by_cases c:v-(n:Int)<0
 ·exact⟨-1,by simp[c],by omega,by omega⟩
 ·obtain⟨r,e1,e2,e3⟩:=hk (by omega) hw;exact⟨r,by simp[c,e1],by omega,fun h=>by have:=e3 h;omega⟩
theorem zh.sub{o:Option Int}{v:Int}{k:Int->Option Int}{n m:Nat}(h:zh o v n)(h1:v<=1048576)(h0:0<=v)(hk:∀r,0<=r->r<=1048576->zh (k r) r m):
 zh (o.bind fun y=>bif decide (y<0)then some (-1)else k y) v (n+m):=by
 obtain⟨r,e1,e2,e3⟩:=h;rw[e1];by_cases c:r<0
 ·exact⟨-1,by simp[c],by omega,by omega⟩
 ·obtain⟨r',q1,q2,q3⟩:=hk r (by omega) (by omega);exact⟨r',by simp[c,q1],by omega,fun h=>by have:=e3 (by omega);have:=q3 h;omega⟩
theorem zh.fin{v:Int}:zh (some v) v 0:=⟨v,rfl,Int.le_refl _,fun _=>by omega⟩
theorem zh.eq{o:Option Int}{v:Int}{n m:Nat}(h:zh o v n)(e:n=m):zh o v m:=e▸h
theorem szL{α:Type}{w:α->Nat}{f:α->Int->Option Int}(L:List α->Nat->Int->Option Int)(rM:∀i v,L [] i v=some v)
 (sF:∀x xs i v,L (x::xs) i v=(f x v).bind fun y=>bif decide (y<0)then some (-1)else L xs (i+1) y):
 ∀(l:List α),(∀x∈l,∀v,0<=v->v<=1048576->zh (f x v) v (w x))->∀i v,0<=v->v<=1048576->zh (L l i v) v ((l.map w).sum):=by
 intro l
 induction l with
 |nil=>intro _ i v _ _;rw[rM];exact .fin
 |cons x xs ih=>
  intro hf i v h0 h1;rw[sF];refine((hf x (by simp) v h0 h1).sub h1 h0 (m:=(xs.map w).sum) fun r r0 r1=>?_).eq (by simp);exact ih (fun y hy=>hf y (by simp[hy])) (i+1) r r0 r1
theorem szS{α:Type}{c:α->aK}{w:α->Nat}{l:List α}{v:Int}{k:Int->Option Int}(hr:gm (.sl (l.map c)))(h0:0<=v)(h1:v<=1048576)
 (hk:∀v',0<=v'->v'<=1048576->zh (k v') v' ((l.map w).sum)):zh (bif decide (IntKind.i64.wrap (v-((l.map c).length:Int))<0)then some (-1)else k (IntKind.i64.wrap (v-((l.map c).length:Int)))) v (qB w l):=by
 have hn:(l.map c).length<=maxLen:=(gm.sl hr).1;refine(zh.str hn h0 h1 (m:=(l.map w).sum) fun g e=>?_).eq (by simp[qB]);rw[e];exact hk _ g (by omega)
theorem toL{α:Type}{z:α}{c:α->aK}{f:α->Option α}{l:List α}(L:List α->Nat->List α->Option (List α))(rM:∀i w,L [] i w=some w)
 (sF:∀x xs i w,L (x::xs) i w=(f x).bind fun y=>bif decide (i<(w.map c).length)then(w[i]?).bind (fun _=>L xs (i+1) (w.set i y))else none) (hf:∀x∈l,f x=some x):
 L l 0 (List.replicate ((l.map c).length:Int).toNat z)=some l:=by
 have key:∀(rest pre:List α),l=pre++rest->L rest pre.length (pre++List.replicate rest.length z)=some l:=by
  intro rest
  induction rest with
  |nil=>intro pre h;rw[rM,h];simp
  |cons x xs ih=>
   intro pre h;rw[sF,hf x (by rw[h];simp)];have e1:decide (pre.length<((pre++List.replicate (x::xs).length z).map c).length)=true:=by simp
   have e2:(pre++List.replicate (x::xs).length z)[pre.length]?=some z:=by simp[ug]
   have e3:(pre++List.replicate (x::xs).length z).set pre.length x=(pre++[x])++List.replicate xs.length z:=by
    rw[aG,ug,jg _ _ (bH _),lI,List.set_cons_zero];simp
   simp only[aA,e1,aa,e2,e3];have:=ih (pre++[x]) (by rw[h];simp);simpa using this
 have:=key l [] rfl;simpa using this
theorem Pb{n b:Nat}(hn:n<=1048576)(hb:b<=1000):HG (n:Int) b=true:=by
 unfold HG;have h1:b*n<=1000*1048576:=Nat.mul_le_mul hb hn;simp;omega
theorem RL{α:Type}[DecidableEq α]{f:α->α->Option Bool}{a b:List α}{c:α->aK}(L:Option Bool->List α->Nat->Option Bool)(rM:∀k i,L k [] i=k)
 (sF:∀k x xs i,L k (x::xs) i=(sK b (i:Int)).bind fun y=>(f x y).bind fun r=>bif !r then some false else L k xs (i+1)) (hf:∀x y,f x y=some (decide (x=y))):
 (bif (((a.map c).length:Int) != ((b.map c).length:Int))then some false else L (some true) a 0)=some (decide (a=b)):=by
 by_cases hl:a.length=b.length
 ·have e:(((a.map c).length:Int) != ((b.map c).length:Int))=false:=by simp[hl]
  rw[e];have key:∀(ra rb pa pb:List α),a=pa++ra->b=pb++rb->pa.length=pb.length->L (some true) ra pa.length=some (decide (ra=rb)):=by
   intro ra
   induction ra with
   |nil=>
    intro rb pa pb h1 h2 h3;rw[rM];have:rb=[]:=by
     have:=congrArg List.length h1;have:=congrArg List.length h2;simp at*;apply cS;omega
    subst this;simp
   |cons x xs ih=>
    intro rb pa pb h1 h2 h3;cases rb with
    |nil=>
     exfalso;have:=congrArg List.length h1;have:=congrArg List.length h2;simp at*;omega
    |cons y ys=>
     rw[sF];have e1:sK b (pa.length:Int)=some y:=by
      unfold sK;have:b[pa.length]?=some y:=by rw[h2,h3];simp
      simp[this]
     rw[e1,aA,hf,aA];have:=ih ys (pa++[x]) (pb++[y]) (by rw[h1];simp) (by rw[h2];simp) (by simp[h3]);by_cases hxy:x=y
     ·subst hxy;simp only[decide_true,c8,ay];simp only[aM,aG,b8]at this;rw[this];simp
     ·simp[hxy]
  have:=key a b [] [] rfl rfl rfl;simpa using this
 ·have e:(((a.map c).length:Int) != ((b.map c).length:Int))=true:=by simp;omega
  rw[e];have:a≠b:=fun h=>hl (by rw[h])
  simp[this]
theorem sI{z:Int}(h0:0<=z)(h1:z<=4611686018427387904):IntKind.i64.wrap (z+1)=z+1:=jO (qY.i64.2 (by omega))
end Go.Cx
namespace Go.Cx
open Go.RowKit Go.Proofs Tryz
set_option maxRecDepth 100000
variable{Γ:pG}{N:Nat->St->Prop}
def gx(aC:aE)(k1:Int->Option Int):aE->Nat->Int->Option Int
 | [],i1,ax=>(k1 ax)
 |bC::cE,i1,ax=>(bif decide ((IntKind.i64.wrap (ax-(bC.length:Int)):Int)<0)then(some (-1))else(gx aC k1 cE (i1+1) (IntKind.i64.wrap (ax-(bC.length:Int)))))
def o8(aC:aE)(aZ:Int):Option Int:=(bif decide ((IntKind.i64.wrap (aZ-((aC.map tx).length:Int)):Int)<0)then(some (-1))else(gx aC (fun(cL:Int)=>(some cL)) aC 0 (IntKind.i64.wrap (aZ-((aC.map tx).length:Int)))))
def Cy(aC:aE)(ax:Int)(dM:Int):St:=⟨[(0,D.sl (aC.map tx)),(1,D.int .i64 ax),(5,D.int .i64 dM)],[]⟩
theorem BT(hΓ:Γ.nt=28){aC:aE}{r:Int}{k1:Int->Option Int}(dQ:∀(cL:Int),k1 cL=some r->Ax Γ N f179 (.q [[none]] (D.int .i64 r)) [1,1,1,1] ⟨[(1,D.int .i64 cL)],[]⟩)(hm1:aC.length<=maxLen):∀(rest:aE) (i1:Nat) (ax:Int),aC.drop i1=rest->gx aC k1 rest i1 ax=some r->Ar Γ N f179 (.q [[none]] (D.int .i64 r)) [1,1,1,0,1,0] (rest.length+1) (Cy aC ax (i1:Int)):=by
 intro rest
 induction rest with
 |nil=>
  intro i1 ax b7 h;rw[gx]at h;refine aO fun N1 cN cI=>?_
  exact((aT.ge tx b7).a [.hl 0 [1] []]).ex hΓ cN (dQ ax h)
 |cons bC cE ih1=>
  intro i1 ax b7 h;rw[gx]at h;refine aO fun N1 cN cI=>?_
  have gJ:=((aT.lt tx b7).l (bD tx 1 (dc b7) rfl))
  obtain⟨h14,h⟩|⟨h14,h⟩:=aN h
  ·cases h;exact(gJ.b h14).ret hΓ
  ·exact((gJ.b h14).a [.cn [0,1,5] []]).ct hΓ cI (iS b7 hm1) (ih1 (i1+1) (IntKind.i64.wrap (ax-(bC.length:Int))) (dn b7) h)
theorem AJ{aC:aE}{aZ:Int}{r:Int}(h:o8 aC aZ=some r):Good prog 179 [D.sl (aC.map tx),D.int .i64 aZ] (D.int .i64 r):=by
 refine gd func179 [[none]] 28 fun hr Γ hΓ=>?_
 rw[o8]at h;obtain⟨h1,h⟩|⟨h1,h⟩:=aN h
 ·cases h;exact(aT.b h1).ret hΓ
 ·refine((aT.b h1).a [.cn [0,1,5] []]).lp hΓ (BT hΓ (fun cL h=>?_) (by have:=(gm.sl (hr _ (aB (i:=0) rfl))).1;simpa using this) aC 0 (IntKind.i64.wrap (aZ-((aC.map tx).length:Int))) rfl h);have h:=aJ h;subst h;exact aT.ret hΓ
def lZ(aC:aL)(aZ:Int):Option Int:=(bif decide ((IntKind.i64.wrap (aZ-(aC.rel.length:Int)):Int)<0)then(some (-1))else((o8 aC.args (IntKind.i64.wrap (aZ-(aC.rel.length:Int)))).bind fun y2=>(bif decide ((y2:Int)<0)then(some (-1))else(some y2))))
theorem mO{aC:aL}{aZ:Int}{r:Int}(h:lZ aC aZ=some r):Good prog 162 [D.agg (aL.c aC),D.int .i64 aZ] (D.int .i64 r):=by
 refine gd func162 [[none]] 19 fun hr Γ hΓ=>?_
 rw[lZ]at h;obtain⟨h1,h⟩|⟨h1,h⟩:=aN h
 ·cases h;exact(aT.b h1).ret hΓ
 ·obtain⟨y2,h3,h⟩:=aF h;have nL:=((aT.b h1).g (AJ h3))
  obtain⟨h4,h⟩|⟨h4,h⟩:=aN h
  ·cases h;exact(nL.b h4).ret hΓ
  ·have h:=aJ h;subst h;exact(nL.b h4).ret hΓ
def pN(aC:aI)(aZ:Int):Option Int:=((lZ aC.pat aZ).bind fun y1=>(bif decide ((y1:Int)<0)then(some (-1))else(bif decide ((IntKind.i64.wrap (y1-(aC.left.length:Int)):Int)<0)then(some (-1))else(bif decide ((IntKind.i64.wrap ((IntKind.i64.wrap (y1-(aC.left.length:Int)))-(aC.right.length:Int)):Int)<0)then(some (-1))else(some (IntKind.i64.wrap ((IntKind.i64.wrap (y1-(aC.left.length:Int)))-(aC.right.length:Int))))))))
theorem E4{aC:aI}{aZ:Int}{r:Int}(h:pN aC aZ=some r):Good prog 124 [D.agg (aI.c aC),D.int .i64 aZ] (D.int .i64 r):=by
 refine gd func124 [[none]] 26 fun hr Γ hΓ=>?_
 rw[pN]at h;obtain⟨y1,h2,h⟩:=aF h;obtain⟨h3,h⟩|⟨h3,h⟩:=aN h
 ·cases h;exact((aT.g (mO h2)).b h3).ret hΓ
 ·have nL:=((aT.g (mO h2)).b h3)
  obtain⟨h4,h⟩|⟨h4,h⟩:=aN h
  ·cases h;exact(nL.b h4).ret hΓ
  ·obtain⟨h5,h⟩|⟨h5,h⟩:=aN h
   ·cases h;exact((nL.b h4).b h5).ret hΓ
   ·cases h;exact((nL.b h4).b h5).ret hΓ
def kq(aC:aY)(k1:Int->Option Int):aY->Nat->Int->Option Int
 | [],i1,ax=>(k1 ax)
 |bC::cE,i1,ax=>((pN bC ax).bind fun mR=>(bif decide ((mR:Int)<0)then(some (-1))else(kq aC k1 cE (i1+1) mR)))
def qQ(aC:aY)(aZ:Int):Option Int:=(bif decide ((IntKind.i64.wrap (aZ-((aC.map aI.c).length:Int)):Int)<0)then(some (-1))else(kq aC (fun(cL:Int)=>(some cL)) aC 0 (IntKind.i64.wrap (aZ-((aC.map aI.c).length:Int)))))
def FJ(aC:aY)(ax:Int)(dM:Int):St:=⟨[(0,D.sl (aC.map aI.c)),(1,D.int .i64 ax),(5,D.int .i64 dM)],[]⟩
theorem E3(hΓ:Γ.nt=27){aC:aY}{r:Int}{k1:Int->Option Int}(dQ:∀(cL:Int),k1 cL=some r->Ax Γ N f74 (.q [[none]] (D.int .i64 r)) [1,1,1,1] ⟨[(1,D.int .i64 cL)],[]⟩)(hm1:aC.length<=maxLen):∀(rest:aY) (i1:Nat) (ax:Int),aC.drop i1=rest->kq aC k1 rest i1 ax=some r->Ar Γ N f74 (.q [[none]] (D.int .i64 r)) [1,1,1,0,1,0] (rest.length+1) (FJ aC ax (i1:Int)):=by
 intro rest
 induction rest with
 |nil=>
  intro i1 ax b7 h;rw[kq]at h;refine aO fun N1 cN cI=>?_
  exact((aT.ge aI.c b7).a [.hl 0 [1] []]).ex hΓ cN (dQ ax h)
 |cons bC cE ih1=>
  intro i1 ax b7 h;rw[kq]at h;refine aO fun N1 cN cI=>?_
  obtain⟨mR,h23,h⟩:=aF h;have gJ:=(((aT.lt aI.c b7).l (bD aI.c 5 (dc b7) rfl)).g (E4 h23))
  obtain⟨h24,h⟩|⟨h24,h⟩:=aN h
  ·cases h;exact(gJ.b h24).ret hΓ
  ·exact((gJ.b h24).a [.cn [0,1,5] []]).ct hΓ cI (iS b7 hm1) (ih1 (i1+1) mR (dn b7) h)
theorem Cw{aC:aY}{aZ:Int}{r:Int}(h:qQ aC aZ=some r):Good prog 74 [D.sl (aC.map aI.c),D.int .i64 aZ] (D.int .i64 r):=by
 refine gd func74 [[none]] 27 fun hr Γ hΓ=>?_
 rw[qQ]at h;obtain⟨h1,h⟩|⟨h1,h⟩:=aN h
 ·cases h;exact(aT.b h1).ret hΓ
 ·refine((aT.b h1).a [.cn [0,1,5] []]).lp hΓ (E3 hΓ (fun cL h=>?_) (by have:=(gm.sl (hr _ (aB (i:=0) rfl))).1;simpa using this) aC 0 (IntKind.i64.wrap (aZ-((aC.map aI.c).length:Int))) rfl h);have h:=aJ h;subst h;exact aT.ret hΓ
def mY(aC:Action)(aZ:Int):Option Int:=((lZ aC.pat aZ).bind fun y1=>(bif decide ((y1:Int)<0)then(some (-1))else(some y1)))
theorem BS{aC:Action}{aZ:Int}{r:Int}(h:mY aC aZ=some r):Good prog 125 [D.agg (Action.c aC),D.int .i64 aZ] (D.int .i64 r):=by
 refine gd func125 [[none]] 12 fun hr Γ hΓ=>?_
 rw[mY]at h;obtain⟨y1,h2,h⟩:=aF h;obtain⟨h3,h⟩|⟨h3,h⟩:=aN h
 ·cases h;exact((aT.g (mO h2)).b h3).ret hΓ
 ·have h:=aJ h;subst h;exact((aT.g (mO h2)).b h3).ret hΓ
def jZ(aC:bh)(k1:Int->Option Int):bh->Nat->Int->Option Int
 | [],i1,ax=>(k1 ax)
 |bC::cE,i1,ax=>((mY bC ax).bind fun mR=>(bif decide ((mR:Int)<0)then(some (-1))else(jZ aC k1 cE (i1+1) mR)))
def o7(aC:bh)(aZ:Int):Option Int:=(bif decide ((IntKind.i64.wrap (aZ-((aC.map Action.c).length:Int)):Int)<0)then(some (-1))else(jZ aC (fun(cL:Int)=>(some cL)) aC 0 (IntKind.i64.wrap (aZ-((aC.map Action.c).length:Int)))))
def Cv(aC:bh)(ax:Int)(dM:Int):St:=⟨[(0,D.sl (aC.map Action.c)),(1,D.int .i64 ax),(5,D.int .i64 dM)],[]⟩
theorem BR(hΓ:Γ.nt=27){aC:bh}{r:Int}{k1:Int->Option Int}(dQ:∀(cL:Int),k1 cL=some r->Ax Γ N f75 (.q [[none]] (D.int .i64 r)) [1,1,1,1] ⟨[(1,D.int .i64 cL)],[]⟩)(hm1:aC.length<=maxLen):∀(rest:bh) (i1:Nat) (ax:Int),aC.drop i1=rest->jZ aC k1 rest i1 ax=some r->Ar Γ N f75 (.q [[none]] (D.int .i64 r)) [1,1,1,0,1,0] (rest.length+1) (Cv aC ax (i1:Int)):=by
 intro rest
 induction rest with
 |nil=>
  intro i1 ax b7 h;rw[jZ]at h;refine aO fun N1 cN cI=>?_
  exact((aT.ge Action.c b7).a [.hl 0 [1] []]).ex hΓ cN (dQ ax h)
 |cons bC cE ih1=>
  intro i1 ax b7 h;rw[jZ]at h;refine aO fun N1 cN cI=>?_
  obtain⟨mR,h23,h⟩:=aF h;have gJ:=(((aT.lt Action.c b7).l (bD Action.c 3 (dc b7) rfl)).g (BS h23))
  obtain⟨h24,h⟩|⟨h24,h⟩:=aN h
  ·cases h;exact(gJ.b h24).ret hΓ
  ·exact((gJ.b h24).a [.cn [0,1,5] []]).ct hΓ cI (iS b7 hm1) (ih1 (i1+1) mR (dn b7) h)
theorem AI{aC:bh}{aZ:Int}{r:Int}(h:o7 aC aZ=some r):Good prog 75 [D.sl (aC.map Action.c),D.int .i64 aZ] (D.int .i64 r):=by
 refine gd func75 [[none]] 27 fun hr Γ hΓ=>?_
 rw[o7]at h;obtain⟨h1,h⟩|⟨h1,h⟩:=aN h
 ·cases h;exact(aT.b h1).ret hΓ
 ·refine((aT.b h1).a [.cn [0,1,5] []]).lp hΓ (BR hΓ (fun cL h=>?_) (by have:=(gm.sl (hr _ (aB (i:=0) rfl))).1;simpa using this) aC 0 (IntKind.i64.wrap (aZ-((aC.map Action.c).length:Int))) rfl h);have h:=aJ h;subst h;exact aT.ret hΓ
def pO(aC:aH)(aZ:Int):Option Int:=(bif decide ((IntKind.i64.wrap (aZ-(aC.name.length:Int)):Int)<0)then(some (-1))else((qQ aC.conds (IntKind.i64.wrap (aZ-(aC.name.length:Int)))).bind fun y2=>(bif decide ((y2:Int)<0)then(some (-1))else((o7 aC.cc y2).bind fun y5=>(bif decide ((y5:Int)<0)then(some (-1))else(some y5))))))
theorem E6{aC:aH}{aZ:Int}{r:Int}(h:pO aC aZ=some r):Good prog 27 [D.agg (aH.c aC),D.int .i64 aZ] (D.int .i64 r):=by
 refine gd func27 [[none]] 25 fun hr Γ hΓ=>?_
 rw[pO]at h;obtain⟨h1,h⟩|⟨h1,h⟩:=aN h
 ·cases h;exact(aT.b h1).ret hΓ
 ·obtain⟨y2,h3,h⟩:=aF h;have nL:=((aT.b h1).g (Cw h3))
  obtain⟨h4,h⟩|⟨h4,h⟩:=aN h
  ·cases h;exact(nL.b h4).ret hΓ
  ·obtain⟨y5,h6,h⟩:=aF h;have gJ:=((nL.b h4).g (AI h6))
   obtain⟨h7,h⟩|⟨h7,h⟩:=aN h
   ·cases h;exact(gJ.b h7).ret hΓ
   ·have h:=aJ h;subst h;exact(gJ.b h7).ret hΓ
def kr(aC:af)(k1:Int->Option Int):af->Nat->Int->Option Int
 | [],i1,ax=>(k1 ax)
 |bC::cE,i1,ax=>((pO bC ax).bind fun mR=>(bif decide ((mR:Int)<0)then(some (-1))else(kr aC k1 cE (i1+1) mR)))
def qR(aC:af)(aZ:Int):Option Int:=(bif decide ((IntKind.i64.wrap (aZ-((aC.map aH.c).length:Int)):Int)<0)then(some (-1))else(kr aC (fun(cL:Int)=>(some cL)) aC 0 (IntKind.i64.wrap (aZ-((aC.map aH.c).length:Int)))))
def FK(aC:af)(ax:Int)(dM:Int):St:=⟨[(0,D.sl (aC.map aH.c)),(1,D.int .i64 ax),(5,D.int .i64 dM)],[]⟩
theorem E5(hΓ:Γ.nt=27){aC:af}{r:Int}{k1:Int->Option Int}(dQ:∀(cL:Int),k1 cL=some r->Ax Γ N f10 (.q [[none]] (D.int .i64 r)) [1,1,1,1] ⟨[(1,D.int .i64 cL)],[]⟩)(hm1:aC.length<=maxLen):∀(rest:af) (i1:Nat) (ax:Int),aC.drop i1=rest->kr aC k1 rest i1 ax=some r->Ar Γ N f10 (.q [[none]] (D.int .i64 r)) [1,1,1,0,1,0] (rest.length+1) (FK aC ax (i1:Int)):=by
 intro rest
 induction rest with
 |nil=>
  intro i1 ax b7 h;rw[kr]at h;refine aO fun N1 cN cI=>?_
  exact((aT.ge aH.c b7).a [.hl 0 [1] []]).ex hΓ cN (dQ ax h)
 |cons bC cE ih1=>
  intro i1 ax b7 h;rw[kr]at h;refine aO fun N1 cN cI=>?_
  obtain⟨mR,h23,h⟩:=aF h;have gJ:=(((aT.lt aH.c b7).l (bD aH.c 4 (dc b7) rfl)).g (E6 h23))
  obtain⟨h24,h⟩|⟨h24,h⟩:=aN h
  ·cases h;exact(gJ.b h24).ret hΓ
  ·exact((gJ.b h24).a [.cn [0,1,5] []]).ct hΓ cI (iS b7 hm1) (ih1 (i1+1) mR (dn b7) h)
theorem uy{aC:af}{aZ:Int}{r:Int}(h:qR aC aZ=some r):Good prog 10 [D.sl (aC.map aH.c),D.int .i64 aZ] (D.int .i64 r):=by
 refine gd func10 [[none]] 27 fun hr Γ hΓ=>?_
 rw[qR]at h;obtain⟨h1,h⟩|⟨h1,h⟩:=aN h
 ·cases h;exact(aT.b h1).ret hΓ
 ·refine((aT.b h1).a [.cn [0,1,5] []]).lp hΓ (E5 hΓ (fun cL h=>?_) (by have:=(gm.sl (hr _ (aB (i:=0) rfl))).1;simpa using this) aC 0 (IntKind.i64.wrap (aZ-((aC.map aH.c).length:Int))) rfl h);have h:=aJ h;subst h;exact aT.ret hΓ
end Go.Cx
namespace Go.Cx
open Go.RowKit Go.Proofs Tryz
set_option maxRecDepth 100000
variable{Γ:pG}{N:Nat->St->Prop}
def gy(aC:aE)(k1:aE->Option aE):aE->Nat->aE->Option aE
 | [],i1,bK=>(k1 bK)
 |bC::cE,i1,bK=>(bif decide (i1<(bK.map tx).length)then(((bK)[i1]?).bind fun x30=>(gy aC k1 cE (i1+1) (bK.set i1 bC)))else none)
def oA(aC:aE):Option aE:=(bif HG ((aC.map tx).length:Int) 16 then(gy aC (fun(bf:aE)=>(some bf)) aC 0 (List.replicate ((aC.map tx).length:Int).toNat ([]:Bytes)))else none)
def r9(aC:aE)(W0:List aK)(dM:Int):St:=⟨[(0,D.sl (aC.map tx)),(3,D.acc 0),(4,D.int .i64 dM)],[Ob.row .uq 9 1 W0]⟩
theorem BW(hΓ:Γ.nt=22){aC:aE}{r:aE}{k1:aE->Option aE}(dQ:∀(bf:aE),k1 bf=some r->Ax Γ N f180 (.q [[some (9,1)]] (D.fr 9 1 (r.map tx))) [1,1,1] ⟨[(3,D.acc 0)],[Ob.row .uq 9 1 (bf.map tx)]⟩)(hm1:aC.length<=maxLen):∀(rest:aE) (i1:Nat) (bK:aE),aC.drop i1=rest->gy aC k1 rest i1 bK=some r->Ar Γ N f180 (.q [[some (9,1)]] (D.fr 9 1 (r.map tx))) [1,1,0,1,0] (rest.length+1) (r9 aC (bK.map tx) (i1:Int)):=by
 intro rest
 induction rest with
 |nil=>
  intro i1 bK b7 h;rw[gy]at h;refine aO fun N1 cN cI=>?_
  exact((aT.ge tx b7).a [.hl 0 [3] [0]]).ex hΓ cN (dQ bK h)
 |cons bC cE ih1=>
  intro i1 bK b7 h;rw[gy]at h;refine aO fun N1 cN cI=>?_
  obtain⟨h29,h⟩:=bu h;obtain⟨x30,h31,h⟩:=aF h;exact(((((aT.lt tx b7).l (bD tx 1 (dc b7) rfl)).i (EZ 1 h29)).w (show(bK.map tx)[i1]?=some [D.str x30]from fX tx h31)).a [.row [D.str x30],.cn [0,3,4] [0]]).cs hΓ cI (r9 aC ((bK.map tx).set i1 [D.str bC]) (IntKind.i64.wrap ((i1:Int)+1))) (by first| (simp only[iS b7 hm1,mA]<;>rfl)| (simp only[iS b7 hm1,mA,aL.c,aS.c,aI.c,Action.c,aH.c,aq.c,fW.c,aW.c,Node.c,aR.c,fc.c]<;>rfl)) (ih1 (i1+1) (bK.set i1 bC) (dn b7) h)
theorem AL{aC:aE}{r:aE}(h:oA aC=some r):Good prog 180 [D.sl (aC.map tx)] (D.fr 9 1 (r.map tx)):=by
 refine gd func180 [[some (9,1)]] 22 fun hr Γ hΓ=>?_
 rw[oA]at h;obtain⟨h1,h⟩:=bu h;refine((aT.w (Fx h1)).a [.cn [0,3,4] [0]]).Wd hΓ (r9 aC (List.replicate ((aC.map tx).length:Int).toNat [D.str ([])]) 0) (by first| (simp only[mA]<;>rfl)| (simp only[mA,aL.c,aS.c,aI.c,Action.c,aH.c,aq.c,fW.c,aW.c,Node.c,aR.c,fc.c]<;>rfl)) (BW hΓ (fun bf h=>?_) (by have:=(gm.sl (hr _ (aB (i:=0) rfl))).1;simpa using this) aC 0 (List.replicate ((aC.map tx).length:Int).toNat ([]:Bytes)) rfl h);have h:=aJ h;subst h;exact aT.ret hΓ
def ld(aC:aL):Option aL:=((oA aC.args).bind fun y1=>(some (⟨aC.rel,y1⟩:aL)))
theorem tI{aC:aL}{r:aL}(h:ld aC=some r):Good prog 164 [D.agg (aL.c aC)] (D.agg [D.str r.rel,D.fr 9 1 (r.args.map tx)]):=by
 refine gd func164 [[none,some (9,1)]] 12 fun hr Γ hΓ=>?_
 rw[ld]at h;obtain⟨y1,h2,h⟩:=aF h;cases h;exact(aT.g (AL h2)).ret hΓ
def pP(aC:aI):Option aI:=((ld aC.pat).bind fun y1=>(some (⟨aC.kind,y1,aC.left,aC.right⟩:aI)))
theorem E8{aC:aI}{r:aI}(h:pP aC=some r):Good prog 129 [D.agg (aI.c aC)] (D.agg [D.int .i64 r.kind,D.str r.pat.rel,D.fr 9 1 (r.pat.args.map tx),D.str r.left,D.str r.right]):=by
 refine gd func129 [[none,none,some (9,1),none,none]] 18 fun hr Γ hΓ=>?_
 rw[pP]at h;obtain⟨y1,h2,h⟩:=aF h;cases h;exact(aT.g (tI h2)).ret hΓ
def kw(aC:aY)(k1:aY->Option aY):aY->Nat->aY->Option aY
 | [],i1,bK=>(k1 bK)
 |bC::cE,i1,bK=>((pP bC).bind fun xk=>(bif decide (i1<(bK.map aI.c).length)then(((bK)[i1]?).bind fun x44=>(kw aC k1 cE (i1+1) (bK.set i1 xk)))else none))
def qS(aC:aY):Option aY:=(bif HG ((aC.map aI.c).length:Int) 80 then(kw aC (fun(bf:aY)=>(some bf)) aC 0 (List.replicate ((aC.map aI.c).length:Int).toNat (⟨(0:Int),(⟨([]:Bytes),[]⟩:aL),([]:Bytes),([]:Bytes)⟩:aI)))else none)
def sV(aC:aY)(W0:List aK)(dM:Int):St:=⟨[(0,D.sl (aC.map aI.c)),(3,D.acc 0),(4,D.int .i64 dM)],[Ob.row .uq 71 5 W0]⟩
theorem E7(hΓ:Γ.nt=23){aC:aY}{r:aY}{k1:aY->Option aY}(dQ:∀(bf:aY),k1 bf=some r->Ax Γ N f81 (.q [[some (71,5)]] (D.fr 71 5 (r.map aI.c))) [1,1,1] ⟨[(3,D.acc 0)],[Ob.row .uq 71 5 (bf.map aI.c)]⟩)(hm1:aC.length<=maxLen):∀(rest:aY) (i1:Nat) (bK:aY),aC.drop i1=rest->kw aC k1 rest i1 bK=some r->Ar Γ N f81 (.q [[some (71,5)]] (D.fr 71 5 (r.map aI.c))) [1,1,0,1,0] (rest.length+1) (sV aC (bK.map aI.c) (i1:Int)):=by
 intro rest
 induction rest with
 |nil=>
  intro i1 bK b7 h;rw[kw]at h;refine aO fun N1 cN cI=>?_
  exact((aT.ge aI.c b7).a [.hl 0 [3] [0]]).ex hΓ cN (dQ bK h)
 |cons bC cE ih1=>
  intro i1 bK b7 h;rw[kw]at h;refine aO fun N1 cN cI=>?_
  obtain⟨xk,h42,h⟩:=aF h;obtain⟨h43,h⟩:=bu h;obtain⟨x44,h45,h⟩:=aF h;exact((((((aT.lt aI.c b7).l (bD aI.c 5 (dc b7) rfl)).g (E8 h42)).i (EZ 5 h43)).w (show(bK.map aI.c)[i1]?=some [D.int .i64 x44.kind,D.str x44.pat.rel,D.sl (x44.pat.args.map tx),D.str x44.left,D.str x44.right]from fX aI.c h45)).a [.row [D.int .i64 x44.kind,D.str x44.pat.rel,D.sl (x44.pat.args.map tx),D.str x44.left,D.str x44.right],.cn [0,3,4] [0]]).cs hΓ cI (sV aC ((bK.map aI.c).set i1 [D.int .i64 xk.kind,D.str xk.pat.rel,D.sl (xk.pat.args.map tx),D.str xk.left,D.str xk.right]) (IntKind.i64.wrap ((i1:Int)+1))) (by first| (simp only[iS b7 hm1,mA]<;>rfl)| (simp only[iS b7 hm1,mA,aL.c,aS.c,aI.c,Action.c,aH.c,aq.c,fW.c,aW.c,Node.c,aR.c,fc.c]<;>rfl)) (ih1 (i1+1) (bK.set i1 xk) (dn b7) h)
theorem Cz{aC:aY}{r:aY}(h:qS aC=some r):Good prog 81 [D.sl (aC.map aI.c)] (D.fr 71 5 (r.map aI.c)):=by
 refine gd func81 [[some (71,5)]] 23 fun hr Γ hΓ=>?_
 rw[qS]at h;obtain⟨h1,h⟩:=bu h;refine((aT.w (Fx h1)).a [.cn [0,3,4] [0]]).Wd hΓ (sV aC (List.replicate ((aC.map aI.c).length:Int).toNat [D.int .i64 0,D.str ([]),D.sl ([]),D.str ([]),D.str ([])]) 0) (by first| (simp only[mA]<;>rfl)| (simp only[mA,aL.c,aS.c,aI.c,Action.c,aH.c,aq.c,fW.c,aW.c,Node.c,aR.c,fc.c]<;>rfl)) (E7 hΓ (fun bf h=>?_) (by have:=(gm.sl (hr _ (aB (i:=0) rfl))).1;simpa using this) aC 0 (List.replicate ((aC.map aI.c).length:Int).toNat (⟨(0:Int),(⟨([]:Bytes),[]⟩:aL),([]:Bytes),([]:Bytes)⟩:aI)) rfl h);have h:=aJ h;subst h;exact aT.ret hΓ
def mZ(aC:Action):Option Action:=((ld aC.pat).bind fun y1=>(some (⟨aC.kind,y1⟩:Action)))
theorem BV{aC:Action}{r:Action}(h:mZ aC=some r):Good prog 130 [D.agg (Action.c aC)] (D.agg [D.int .i64 r.kind,D.str r.pat.rel,D.fr 9 1 (r.pat.args.map tx)]):=by
 refine gd func130 [[none,none,some (9,1)]] 12 fun hr Γ hΓ=>?_
 rw[mZ]at h;obtain⟨y1,h2,h⟩:=aF h;cases h;exact(aT.g (tI h2)).ret hΓ
def ja(aC:bh)(k1:bh->Option bh):bh->Nat->bh->Option bh
 | [],i1,bK=>(k1 bK)
 |bC::cE,i1,bK=>((mZ bC).bind fun xk=>(bif decide (i1<(bK.map Action.c).length)then(((bK)[i1]?).bind fun x44=>(ja aC k1 cE (i1+1) (bK.set i1 xk)))else none))
def o9(aC:bh):Option bh:=(bif HG ((aC.map Action.c).length:Int) 48 then(ja aC (fun(bf:bh)=>(some bf)) aC 0 (List.replicate ((aC.map Action.c).length:Int).toNat (⟨(0:Int),(⟨([]:Bytes),[]⟩:aL)⟩:Action)))else none)
def qz(aC:bh)(W0:List aK)(dM:Int):St:=⟨[(0,D.sl (aC.map Action.c)),(3,D.acc 0),(4,D.int .i64 dM)],[Ob.row .uq 100 3 W0]⟩
theorem BU(hΓ:Γ.nt=23){aC:bh}{r:bh}{k1:bh->Option bh}(dQ:∀(bf:bh),k1 bf=some r->Ax Γ N f82 (.q [[some (100,3)]] (D.fr 100 3 (r.map Action.c))) [1,1,1] ⟨[(3,D.acc 0)],[Ob.row .uq 100 3 (bf.map Action.c)]⟩)(hm1:aC.length<=maxLen):∀(rest:bh) (i1:Nat) (bK:bh),aC.drop i1=rest->ja aC k1 rest i1 bK=some r->Ar Γ N f82 (.q [[some (100,3)]] (D.fr 100 3 (r.map Action.c))) [1,1,0,1,0] (rest.length+1) (qz aC (bK.map Action.c) (i1:Int)):=by
 intro rest
 induction rest with
 |nil=>
  intro i1 bK b7 h;rw[ja]at h;refine aO fun N1 cN cI=>?_
  exact((aT.ge Action.c b7).a [.hl 0 [3] [0]]).ex hΓ cN (dQ bK h)
 |cons bC cE ih1=>
  intro i1 bK b7 h;rw[ja]at h;refine aO fun N1 cN cI=>?_
  obtain⟨xk,h42,h⟩:=aF h;obtain⟨h43,h⟩:=bu h;obtain⟨x44,h45,h⟩:=aF h;exact((((((aT.lt Action.c b7).l (bD Action.c 3 (dc b7) rfl)).g (BV h42)).i (EZ 3 h43)).w (show(bK.map Action.c)[i1]?=some [D.int .i64 x44.kind,D.str x44.pat.rel,D.sl (x44.pat.args.map tx)]from fX Action.c h45)).a [.row [D.int .i64 x44.kind,D.str x44.pat.rel,D.sl (x44.pat.args.map tx)],.cn [0,3,4] [0]]).cs hΓ cI (qz aC ((bK.map Action.c).set i1 [D.int .i64 xk.kind,D.str xk.pat.rel,D.sl (xk.pat.args.map tx)]) (IntKind.i64.wrap ((i1:Int)+1))) (by first| (simp only[iS b7 hm1,mA]<;>rfl)| (simp only[iS b7 hm1,mA,aL.c,aS.c,aI.c,Action.c,aH.c,aq.c,fW.c,aW.c,Node.c,aR.c,fc.c]<;>rfl)) (ih1 (i1+1) (bK.set i1 xk) (dn b7) h)
theorem AK{aC:bh}{r:bh}(h:o9 aC=some r):Good prog 82 [D.sl (aC.map Action.c)] (D.fr 100 3 (r.map Action.c)):=by
 refine gd func82 [[some (100,3)]] 23 fun hr Γ hΓ=>?_
 rw[o9]at h;obtain⟨h1,h⟩:=bu h;refine((aT.w (Fx h1)).a [.cn [0,3,4] [0]]).Wd hΓ (qz aC (List.replicate ((aC.map Action.c).length:Int).toNat [D.int .i64 0,D.str ([]),D.sl ([])]) 0) (by first| (simp only[mA]<;>rfl)| (simp only[mA,aL.c,aS.c,aI.c,Action.c,aH.c,aq.c,fW.c,aW.c,Node.c,aR.c,fc.c]<;>rfl)) (BU hΓ (fun bf h=>?_) (by have:=(gm.sl (hr _ (aB (i:=0) rfl))).1;simpa using this) aC 0 (List.replicate ((aC.map Action.c).length:Int).toNat (⟨(0:Int),(⟨([]:Bytes),[]⟩:aL)⟩:Action)) rfl h);have h:=aJ h;subst h;exact aT.ret hΓ
def pQ(aC:aH):Option aH:=((qS aC.conds).bind fun y1=>((o9 aC.cc).bind fun y3=>(some (⟨aC.name,aC.prio,y1,y3⟩:aH))))
theorem EA{aC:aH}{r:aH}(h:pQ aC=some r):Good prog 31 [D.agg (aH.c aC)] (D.agg [D.str r.name,D.int .i64 r.prio,D.fr 71 5 (r.conds.map aI.c),D.fr 100 3 (r.cc.map Action.c)]):=by
 refine gd func31 [[none,none,some (71,5),some (100,3)]] 19 fun hr Γ hΓ=>?_
 rw[pQ]at h;obtain⟨y1,h2,h⟩:=aF h;obtain⟨y3,h4,h⟩:=aF h;cases h;exact((aT.g (Cz h2)).g (AK h4)).ret hΓ
def kx(aC:af)(k1:af->Option af):af->Nat->af->Option af
 | [],i1,bK=>(k1 bK)
 |bC::cE,i1,bK=>((pQ bC).bind fun xk=>(bif decide (i1<(bK.map aH.c).length)then(((bK)[i1]?).bind fun x44=>(kx aC k1 cE (i1+1) (bK.set i1 xk)))else none))
def kT(aC:af):Option af:=(bif HG ((aC.map aH.c).length:Int) 72 then(kx aC (fun(bf:af)=>(some bf)) aC 0 (List.replicate ((aC.map aH.c).length:Int).toNat (⟨([]:Bytes),(0:Int),[],[]⟩:aH)))else none)
def sW(aC:af)(W0:List aK)(dM:Int):St:=⟨[(0,D.sl (aC.map aH.c)),(3,D.acc 0),(4,D.int .i64 dM)],[Ob.row .uq 31 4 W0]⟩
theorem E9(hΓ:Γ.nt=23){aC:af}{r:af}{k1:af->Option af}(dQ:∀(bf:af),k1 bf=some r->Ax Γ N f12 (.q [[some (31,4)]] (D.fr 31 4 (r.map aH.c))) [1,1,1] ⟨[(3,D.acc 0)],[Ob.row .uq 31 4 (bf.map aH.c)]⟩)(hm1:aC.length<=maxLen):∀(rest:af) (i1:Nat) (bK:af),aC.drop i1=rest->kx aC k1 rest i1 bK=some r->Ar Γ N f12 (.q [[some (31,4)]] (D.fr 31 4 (r.map aH.c))) [1,1,0,1,0] (rest.length+1) (sW aC (bK.map aH.c) (i1:Int)):=by
 intro rest
 induction rest with
 |nil=>
  intro i1 bK b7 h;rw[kx]at h;refine aO fun N1 cN cI=>?_
  exact((aT.ge aH.c b7).a [.hl 0 [3] [0]]).ex hΓ cN (dQ bK h)
 |cons bC cE ih1=>
  intro i1 bK b7 h;rw[kx]at h;refine aO fun N1 cN cI=>?_
  obtain⟨xk,h42,h⟩:=aF h;obtain⟨h43,h⟩:=bu h;obtain⟨x44,h45,h⟩:=aF h;exact((((((aT.lt aH.c b7).l (bD aH.c 4 (dc b7) rfl)).g (EA h42)).i (EZ 4 h43)).w (show(bK.map aH.c)[i1]?=some [D.str x44.name,D.int .i64 x44.prio,D.sl (x44.conds.map aI.c),D.sl (x44.cc.map Action.c)]from fX aH.c h45)).a [.row [D.str x44.name,D.int .i64 x44.prio,D.sl (x44.conds.map aI.c),D.sl (x44.cc.map Action.c)],.cn [0,3,4] [0]]).cs hΓ cI (sW aC ((bK.map aH.c).set i1 [D.str xk.name,D.int .i64 xk.prio,D.sl (xk.conds.map aI.c),D.sl (xk.cc.map Action.c)]) (IntKind.i64.wrap ((i1:Int)+1))) (by first| (simp only[iS b7 hm1,mA]<;>rfl)| (simp only[iS b7 hm1,mA,aL.c,aS.c,aI.c,Action.c,aH.c,aq.c,fW.c,aW.c,Node.c,aR.c,fc.c]<;>rfl)) (ih1 (i1+1) (bK.set i1 xk) (dn b7) h)
theorem nQ{aC:af}{r:af}(h:kT aC=some r):Good prog 12 [D.sl (aC.map aH.c)] (D.fr 31 4 (r.map aH.c)):=by
 refine gd func12 [[some (31,4)]] 23 fun hr Γ hΓ=>?_
 rw[kT]at h;obtain⟨h1,h⟩:=bu h;refine((aT.w (Fx h1)).a [.cn [0,3,4] [0]]).Wd hΓ (sW aC (List.replicate ((aC.map aH.c).length:Int).toNat [D.str ([]),D.int .i64 0,D.sl ([]),D.sl ([])]) 0) (by first| (simp only[mA]<;>rfl)| (simp only[mA,aL.c,aS.c,aI.c,Action.c,aH.c,aq.c,fW.c,aW.c,Node.c,aR.c,fc.c]<;>rfl)) (E9 hΓ (fun bf h=>?_) (by have:=(gm.sl (hr _ (aB (i:=0) rfl))).1;simpa using this) aC 0 (List.replicate ((aC.map aH.c).length:Int).toNat (⟨([]:Bytes),(0:Int),[],[]⟩:aH)) rfl h);have h:=aJ h;subst h;exact aT.ret hΓ
end Go.Cx
namespace Go.Cx
open Go.RowKit Go.Proofs Tryz
set_option maxRecDepth 100000
variable{Γ:pG}{N:Nat->St->Prop}
def jY(aC:aE)(aZ:aE)(k1:Option Bool):aE->Nat->Option Bool
 | [],i1=>(k1)
 |bC::cE,i1=>((sK aZ (i1:Int)).bind fun x22=>(bif !((bC:Bytes)==x22)then(some false)else(jY aC aZ k1 cE (i1+1))))
def lX(aC:aE)(aZ:aE):Option Bool:=(bif (((aC.map tx).length:Int):Int) != ((aZ.map tx).length:Int)then(some false)else(jY aC aZ (some true) aC 0))
def Cj(aC:aE)(aZ:aE)(dM:Int):St:=⟨[(0,D.sl (aC.map tx)),(1,D.sl (aZ.map tx)),(5,D.int .i64 dM)],[]⟩
theorem BB(hΓ:Γ.nt=26){aC:aE}{aZ:aE}{r:Bool}{k1:Option Bool}(dQ:k1=some r->Ax Γ N f138 (.q [[none]] (D.bool r)) [1,1,1] ⟨[],[]⟩)(hm1:aC.length<=maxLen):∀(rest:aE) (i1:Nat),aC.drop i1=rest->jY aC aZ k1 rest i1=some r->Ar Γ N f138 (.q [[none]] (D.bool r)) [1,1,0,1,0] (rest.length+1) (Cj aC aZ (i1:Int)):=by
 intro rest
 induction rest with
 |nil=>
  intro i1 b7 h;rw[jY]at h;refine aO fun N1 cN cI=>?_
  exact((aT.ge tx b7).a [.hl 0 [] []]).ex hΓ cN (dQ h)
 |cons bC cE ih1=>
  intro i1 b7 h;rw[jY]at h;refine aO fun N1 cN cI=>?_
  obtain⟨x22,h23,h⟩:=aF h;have gJ:=((((aT.lt tx b7).a [.n 8]).l (bD tx 1 (dc b7) rfl)).l (oL tx 1 h23 rfl))
  obtain⟨h24,h⟩|⟨h24,h⟩:=aN h
  ·have h:=aJ h;subst h;exact(gJ.b h24).ret hΓ
  ·exact((gJ.b h24).a [.cn [0,1,5] []]).ct hΓ cI (iS b7 hm1) (ih1 (i1+1) (dn b7) h)
theorem tF{aC:aE}{aZ:aE}{r:Bool}(h:lX aC aZ=some r):Good prog 138 [D.sl (aC.map tx),D.sl (aZ.map tx)] (D.bool r):=by
 refine gd func138 [[none]] 26 fun hr Γ hΓ=>?_
 rw[lX]at h;obtain⟨h1,h⟩|⟨h1,h⟩:=aN h
 ·have h:=aJ h;subst h;exact(aT.b h1).ret hΓ
 ·refine((aT.b h1).a [.cn [0,1,5] []]).lp hΓ (BB hΓ (fun h=>?_) (by have:=(gm.sl (hr _ (aB (i:=0) rfl))).1;simpa using this) aC 0 rfl h);have h:=aJ h;subst h;exact aT.ret hΓ
def jy(aC:aL)(aZ:aL):Option Bool:=(bif !((aC.rel:Bytes)==aZ.rel)then(some false)else((lX aC.args aZ.args).bind fun y2=>(bif !(y2)then(some false)else(some true))))
theorem mN{aC:aL}{aZ:aL}{r:Bool}(h:jy aC aZ=some r):Good prog 135 [D.agg (aL.c aC),D.agg (aL.c aZ)] (D.bool r):=by
 refine gd func135 [[none]] 16 fun hr Γ hΓ=>?_
 rw[jy]at h;obtain⟨h1,h⟩|⟨h1,h⟩:=aN h
 ·have h:=aJ h;subst h;exact(aT.b h1).ret hΓ
 ·obtain⟨y2,h3,h⟩:=aF h;have nL:=((aT.b h1).g (tF h3))
  obtain⟨h4,h⟩|⟨h4,h⟩:=aN h
  ·have h:=aJ h;subst h;exact(nL.b h4).ret hΓ
  ·have h:=aJ h;subst h;exact(nL.b h4).ret hΓ
def nG(aC:aI)(aZ:aI):Option Bool:=(bif (aC.kind:Int) != aZ.kind then(some false)else((jy aC.pat aZ.pat).bind fun y2=>(bif !(y2)then(some false)else(bif !((aC.left:Bytes)==aZ.left)then(some false)else(bif !((aC.right:Bytes)==aZ.right)then(some false)else(some true))))))
theorem wB{aC:aI}{aZ:aI}{r:Bool}(h:nG aC aZ=some r):Good prog 136 [D.agg (aI.c aC),D.agg (aI.c aZ)] (D.bool r):=by
 refine gd func136 [[none]] 26 fun hr Γ hΓ=>?_
 rw[nG]at h;obtain⟨h1,h⟩|⟨h1,h⟩:=aN h
 ·have h:=aJ h;subst h;exact(aT.b h1).ret hΓ
 ·obtain⟨y2,h3,h⟩:=aF h;have nL:=((aT.b h1).g (mN h3))
  obtain⟨h4,h⟩|⟨h4,h⟩:=aN h
  ·have h:=aJ h;subst h;exact(nL.b h4).ret hΓ
  ·obtain⟨h5,h⟩|⟨h5,h⟩:=aN h
   ·have h:=aJ h;subst h;exact((nL.b h4).b h5).ret hΓ
   ·have gJ:=((nL.b h4).b h5)
    obtain⟨h6,h⟩|⟨h6,h⟩:=aN h
    ·have h:=aJ h;subst h;exact(gJ.b h6).ret hΓ
    ·have h:=aJ h;subst h;exact(gJ.b h6).ret hΓ
def kf(aC:aY)(aZ:aY)(k1:Option Bool):aY->Nat->Option Bool
 | [],i1=>(k1)
 |bC::cE,i1=>((sK aZ (i1:Int)).bind fun x30=>((nG bC x30).bind fun Da=>(bif !(Da)then(some false)else(kf aC aZ k1 cE (i1+1)))))
def qN(aC:aY)(aZ:aY):Option Bool:=(bif (((aC.map aI.c).length:Int):Int) != ((aZ.map aI.c).length:Int)then(some false)else(kf aC aZ (some true) aC 0))
def FD(aC:aY)(aZ:aY)(dM:Int):St:=⟨[(0,D.sl (aC.map aI.c)),(1,D.sl (aZ.map aI.c)),(5,D.int .i64 dM)],[]⟩
theorem Dq(hΓ:Γ.nt=27){aC:aY}{aZ:aY}{r:Bool}{k1:Option Bool}(dQ:k1=some r->Ax Γ N f87 (.q [[none]] (D.bool r)) [1,1,1] ⟨[],[]⟩)(hm1:aC.length<=maxLen):∀(rest:aY) (i1:Nat),aC.drop i1=rest->kf aC aZ k1 rest i1=some r->Ar Γ N f87 (.q [[none]] (D.bool r)) [1,1,0,1,0] (rest.length+1) (FD aC aZ (i1:Int)):=by
 intro rest
 induction rest with
 |nil=>
  intro i1 b7 h;rw[kf]at h;refine aO fun N1 cN cI=>?_
  exact((aT.ge aI.c b7).a [.hl 0 [] []]).ex hΓ cN (dQ h)
 |cons bC cE ih1=>
  intro i1 b7 h;rw[kf]at h;refine aO fun N1 cN cI=>?_
  obtain⟨x30,h31,h⟩:=aF h;obtain⟨Da,h33,h⟩:=aF h;have gJ:=(((((aT.lt aI.c b7).a [.n 8]).l (bD aI.c 5 (dc b7) rfl)).l (oL aI.c 5 h31 rfl)).g (wB h33))
  obtain⟨h34,h⟩|⟨h34,h⟩:=aN h
  ·have h:=aJ h;subst h;exact(gJ.b h34).ret hΓ
  ·exact((gJ.b h34).a [.cn [0,1,5] []]).ct hΓ cI (iS b7 hm1) (ih1 (i1+1) (dn b7) h)
theorem Cg{aC:aY}{aZ:aY}{r:Bool}(h:qN aC aZ=some r):Good prog 87 [D.sl (aC.map aI.c),D.sl (aZ.map aI.c)] (D.bool r):=by
 refine gd func87 [[none]] 27 fun hr Γ hΓ=>?_
 rw[qN]at h;obtain⟨h1,h⟩|⟨h1,h⟩:=aN h
 ·have h:=aJ h;subst h;exact(aT.b h1).ret hΓ
 ·refine((aT.b h1).a [.cn [0,1,5] []]).lp hΓ (Dq hΓ (fun h=>?_) (by have:=(gm.sl (hr _ (aB (i:=0) rfl))).1;simpa using this) aC 0 rfl h);have h:=aJ h;subst h;exact aT.ret hΓ
def mX(aC:Action)(aZ:Action):Option Bool:=(bif (aC.kind:Int) != aZ.kind then(some false)else((jy aC.pat aZ.pat).bind fun y2=>(bif !(y2)then(some false)else(some true))))
theorem B9{aC:Action}{aZ:Action}{r:Bool}(h:mX aC aZ=some r):Good prog 139 [D.agg (Action.c aC),D.agg (Action.c aZ)] (D.bool r):=by
 refine gd func139 [[none]] 16 fun hr Γ hΓ=>?_
 rw[mX]at h;obtain⟨h1,h⟩|⟨h1,h⟩:=aN h
 ·have h:=aJ h;subst h;exact(aT.b h1).ret hΓ
 ·obtain⟨y2,h3,h⟩:=aF h;have nL:=((aT.b h1).g (mN h3))
  obtain⟨h4,h⟩|⟨h4,h⟩:=aN h
  ·have h:=aJ h;subst h;exact(nL.b h4).ret hΓ
  ·have h:=aJ h;subst h;exact(nL.b h4).ret hΓ
def jX(aC:bh)(aZ:bh)(k1:Option Bool):bh->Nat->Option Bool
 | [],i1=>(k1)
 |bC::cE,i1=>((sK aZ (i1:Int)).bind fun x30=>((mX bC x30).bind fun Da=>(bif !(Da)then(some false)else(jX aC aZ k1 cE (i1+1)))))
def nk(aC:bh)(aZ:bh):Option Bool:=(bif (((aC.map Action.c).length:Int):Int) != ((aZ.map Action.c).length:Int)then(some false)else(jX aC aZ (some true) aC 0))
def Cd(aC:bh)(aZ:bh)(dM:Int):St:=⟨[(0,D.sl (aC.map Action.c)),(1,D.sl (aZ.map Action.c)),(5,D.int .i64 dM)],[]⟩
theorem B8(hΓ:Γ.nt=27){aC:bh}{aZ:bh}{r:Bool}{k1:Option Bool}(dQ:k1=some r->Ax Γ N f88 (.q [[none]] (D.bool r)) [1,1,1] ⟨[],[]⟩)(hm1:aC.length<=maxLen):∀(rest:bh) (i1:Nat),aC.drop i1=rest->jX aC aZ k1 rest i1=some r->Ar Γ N f88 (.q [[none]] (D.bool r)) [1,1,0,1,0] (rest.length+1) (Cd aC aZ (i1:Int)):=by
 intro rest
 induction rest with
 |nil=>
  intro i1 b7 h;rw[jX]at h;refine aO fun N1 cN cI=>?_
  exact((aT.ge Action.c b7).a [.hl 0 [] []]).ex hΓ cN (dQ h)
 |cons bC cE ih1=>
  intro i1 b7 h;rw[jX]at h;refine aO fun N1 cN cI=>?_
  obtain⟨x30,h31,h⟩:=aF h;obtain⟨Da,h33,h⟩:=aF h;have gJ:=(((((aT.lt Action.c b7).a [.n 8]).l (bD Action.c 3 (dc b7) rfl)).l (oL Action.c 3 h31 rfl)).g (B9 h33))
  obtain⟨h34,h⟩|⟨h34,h⟩:=aN h
  ·have h:=aJ h;subst h;exact(gJ.b h34).ret hΓ
  ·exact((gJ.b h34).a [.cn [0,1,5] []]).ct hΓ cI (iS b7 hm1) (ih1 (i1+1) (dn b7) h)
theorem zz{aC:bh}{aZ:bh}{r:Bool}(h:nk aC aZ=some r):Good prog 88 [D.sl (aC.map Action.c),D.sl (aZ.map Action.c)] (D.bool r):=by
 refine gd func88 [[none]] 27 fun hr Γ hΓ=>?_
 rw[nk]at h;obtain⟨h1,h⟩|⟨h1,h⟩:=aN h
 ·have h:=aJ h;subst h;exact(aT.b h1).ret hΓ
 ·refine((aT.b h1).a [.cn [0,1,5] []]).lp hΓ (B8 hΓ (fun h=>?_) (by have:=(gm.sl (hr _ (aB (i:=0) rfl))).1;simpa using this) aC 0 rfl h);have h:=aJ h;subst h;exact aT.ret hΓ
def pM(aC:aH)(aZ:aH):Option Bool:=(bif !((aC.name:Bytes)==aZ.name)then(some false)else(bif (aC.prio:Int) != aZ.prio then(some false)else((qN aC.conds aZ.conds).bind fun y3=>(bif !(y3)then(some false)else((nk aC.cc aZ.cc).bind fun y6=>(bif !(y6)then(some false)else(some true)))))))
theorem Dz{aC:aH}{aZ:aH}{r:Bool}(h:pM aC aZ=some r):Good prog 37 [D.agg (aH.c aC),D.agg (aH.c aZ)] (D.bool r):=by
 refine gd func37 [[none]] 27 fun hr Γ hΓ=>?_
 rw[pM]at h;obtain⟨h1,h⟩|⟨h1,h⟩:=aN h
 ·have h:=aJ h;subst h;exact(aT.b h1).ret hΓ
 ·obtain⟨h2,h⟩|⟨h2,h⟩:=aN h
  ·have h:=aJ h;subst h;exact((aT.b h1).b h2).ret hΓ
  ·obtain⟨y3,h4,h⟩:=aF h;have nL:=(((aT.b h1).b h2).g (Cg h4))
   obtain⟨h5,h⟩|⟨h5,h⟩:=aN h
   ·have h:=aJ h;subst h;exact(nL.b h5).ret hΓ
   ·obtain⟨y6,h7,h⟩:=aF h;have gJ:=((nL.b h5).g (zz h7))
    obtain⟨h8,h⟩|⟨h8,h⟩:=aN h
    ·have h:=aJ h;subst h;exact(gJ.b h8).ret hΓ
    ·have h:=aJ h;subst h;exact(gJ.b h8).ret hΓ
def kp(aC:af)(aZ:af)(k1:Option Bool):af->Nat->Option Bool
 | [],i1=>(k1)
 |bC::cE,i1=>((sK aZ (i1:Int)).bind fun x30=>((pM bC x30).bind fun Da=>(bif !(Da)then(some false)else(kp aC aZ k1 cE (i1+1)))))
def nr(aC:af)(aZ:af):Option Bool:=(bif (((aC.map aH.c).length:Int):Int) != ((aZ.map aH.c).length:Int)then(some false)else(kp aC aZ (some true) aC 0))
def FI(aC:af)(aZ:af)(dM:Int):St:=⟨[(0,D.sl (aC.map aH.c)),(1,D.sl (aZ.map aH.c)),(5,D.int .i64 dM)],[]⟩
theorem Dy(hΓ:Γ.nt=27){aC:af}{aZ:af}{r:Bool}{k1:Option Bool}(dQ:k1=some r->Ax Γ N f15 (.q [[none]] (D.bool r)) [1,1,1] ⟨[],[]⟩)(hm1:aC.length<=maxLen):∀(rest:af) (i1:Nat),aC.drop i1=rest->kp aC aZ k1 rest i1=some r->Ar Γ N f15 (.q [[none]] (D.bool r)) [1,1,0,1,0] (rest.length+1) (FI aC aZ (i1:Int)):=by
 intro rest
 induction rest with
 |nil=>
  intro i1 b7 h;rw[kp]at h;refine aO fun N1 cN cI=>?_
  exact((aT.ge aH.c b7).a [.hl 0 [] []]).ex hΓ cN (dQ h)
 |cons bC cE ih1=>
  intro i1 b7 h;rw[kp]at h;refine aO fun N1 cN cI=>?_
  obtain⟨x30,h31,h⟩:=aF h;obtain⟨Da,h33,h⟩:=aF h;have gJ:=(((((aT.lt aH.c b7).a [.n 8]).l (bD aH.c 4 (dc b7) rfl)).l (oL aH.c 4 h31 rfl)).g (Dz h33))
  obtain⟨h34,h⟩|⟨h34,h⟩:=aN h
  ·have h:=aJ h;subst h;exact(gJ.b h34).ret hΓ
  ·exact((gJ.b h34).a [.cn [0,1,5] []]).ct hΓ cI (iS b7 hm1) (ih1 (i1+1) (dn b7) h)
theorem qy{aC:af}{aZ:af}{r:Bool}(h:nr aC aZ=some r):Good prog 15 [D.sl (aC.map aH.c),D.sl (aZ.map aH.c)] (D.bool r):=by
 refine gd func15 [[none]] 27 fun hr Γ hΓ=>?_
 rw[nr]at h;obtain⟨h1,h⟩|⟨h1,h⟩:=aN h
 ·have h:=aJ h;subst h;exact(aT.b h1).ret hΓ
 ·refine((aT.b h1).a [.cn [0,1,5] []]).lp hΓ (Dy hΓ (fun h=>?_) (by have:=(gm.sl (hr _ (aB (i:=0) rfl))).1;simpa using this) aC 0 rfl h);have h:=aJ h;subst h;exact aT.ret hΓ
def lW(aC:bZ)(aZ:bZ)(k1:Option Bool):bZ->Nat->Option Bool
 | [],i1=>(k1)
 |bC::cE,i1=>((sK aZ (i1:Int)).bind fun x22=>(bif (bC:Int) != x22 then(some false)else(lW aC aZ k1 cE (i1+1))))
def rK(aC:bZ)(aZ:bZ):Option Bool:=(bif (((aC.map jd).length:Int):Int) != ((aZ.map jd).length:Int)then(some false)else(lW aC aZ (some true) aC 0))
def GU(aC:bZ)(aZ:bZ)(dM:Int):St:=⟨[(0,D.sl (aC.map jd)),(1,D.sl (aZ.map jd)),(5,D.int .i64 dM)],[]⟩
theorem FF(hΓ:Γ.nt=26){aC:bZ}{aZ:bZ}{r:Bool}{k1:Option Bool}(dQ:k1=some r->Ax Γ N f33 (.q [[none]] (D.bool r)) [1,1,1] ⟨[],[]⟩)(hm1:aC.length<=maxLen):∀(rest:bZ) (i1:Nat),aC.drop i1=rest->lW aC aZ k1 rest i1=some r->Ar Γ N f33 (.q [[none]] (D.bool r)) [1,1,0,1,0] (rest.length+1) (GU aC aZ (i1:Int)):=by
 intro rest
 induction rest with
 |nil=>
  intro i1 b7 h;rw[lW]at h;refine aO fun N1 cN cI=>?_
  exact((aT.ge jd b7).a [.hl 0 [] []]).ex hΓ cN (dQ h)
 |cons bC cE ih1=>
  intro i1 b7 h;rw[lW]at h;refine aO fun N1 cN cI=>?_
  obtain⟨x22,h23,h⟩:=aF h;have gJ:=((((aT.lt jd b7).a [.n 8]).l (bD jd 1 (dc b7) rfl)).l (oL jd 1 h23 rfl))
  obtain⟨h24,h⟩|⟨h24,h⟩:=aN h
  ·have h:=aJ h;subst h;exact(gJ.b h24).ret hΓ
  ·exact((gJ.b h24).a [.cn [0,1,5] []]).ct hΓ cI (iS b7 hm1) (ih1 (i1+1) (dn b7) h)
theorem Dt{aC:bZ}{aZ:bZ}{r:Bool}(h:rK aC aZ=some r):Good prog 33 [D.sl (aC.map jd),D.sl (aZ.map jd)] (D.bool r):=by
 refine gd func33 [[none]] 26 fun hr Γ hΓ=>?_
 rw[rK]at h;obtain⟨h1,h⟩|⟨h1,h⟩:=aN h
 ·have h:=aJ h;subst h;exact(aT.b h1).ret hΓ
 ·refine((aT.b h1).a [.cn [0,1,5] []]).lp hΓ (FF hΓ (fun h=>?_) (by have:=(gm.sl (hr _ (aB (i:=0) rfl))).1;simpa using this) aC 0 rfl h);have h:=aJ h;subst h;exact aT.ret hΓ
def pJ(aC:aL)(aZ:aL):Option Bool:=(bif !((aC.rel:Bytes)==aZ.rel)then(some false)else((lX aC.args aZ.args).bind fun y2=>(bif !(y2)then(some false)else(some true))))
theorem Ds{aC:aL}{aZ:aL}{r:Bool}(h:pJ aC aZ=some r):Good prog 86 [D.agg (aL.c aC),D.agg (aL.c aZ)] (D.bool r):=by
 refine gd func86 [[none]] 16 fun hr Γ hΓ=>?_
 rw[pJ]at h;obtain⟨h1,h⟩|⟨h1,h⟩:=aN h
 ·have h:=aJ h;subst h;exact(aT.b h1).ret hΓ
 ·obtain⟨y2,h3,h⟩:=aF h;have nL:=((aT.b h1).g (tF h3))
  obtain⟨h4,h⟩|⟨h4,h⟩:=aN h
  ·have h:=aJ h;subst h;exact(nL.b h4).ret hΓ
  ·have h:=aJ h;subst h;exact(nL.b h4).ret hΓ
def kj(aC:ar)(aZ:ar)(k1:Option Bool):ar->Nat->Option Bool
 | [],i1=>(k1)
 |bC::cE,i1=>((sK aZ (i1:Int)).bind fun x30=>((pJ bC x30).bind fun Da=>(bif !(Da)then(some false)else(kj aC aZ k1 cE (i1+1)))))
def mB(aC:ar)(aZ:ar):Option Bool:=(bif (((aC.map aL.c).length:Int):Int) != ((aZ.map aL.c).length:Int)then(some false)else(kj aC aZ (some true) aC 0))
def FE(aC:ar)(aZ:ar)(dM:Int):St:=⟨[(0,D.sl (aC.map aL.c)),(1,D.sl (aZ.map aL.c)),(5,D.int .i64 dM)],[]⟩
theorem Dr(hΓ:Γ.nt=27){aC:ar}{aZ:ar}{r:Bool}{k1:Option Bool}(dQ:k1=some r->Ax Γ N f36 (.q [[none]] (D.bool r)) [1,1,1] ⟨[],[]⟩)(hm1:aC.length<=maxLen):∀(rest:ar) (i1:Nat),aC.drop i1=rest->kj aC aZ k1 rest i1=some r->Ar Γ N f36 (.q [[none]] (D.bool r)) [1,1,0,1,0] (rest.length+1) (FE aC aZ (i1:Int)):=by
 intro rest
 induction rest with
 |nil=>
  intro i1 b7 h;rw[kj]at h;refine aO fun N1 cN cI=>?_
  exact((aT.ge aL.c b7).a [.hl 0 [] []]).ex hΓ cN (dQ h)
 |cons bC cE ih1=>
  intro i1 b7 h;rw[kj]at h;refine aO fun N1 cN cI=>?_
  obtain⟨x30,h31,h⟩:=aF h;obtain⟨Da,h33,h⟩:=aF h;have gJ:=(((((aT.lt aL.c b7).a [.n 8]).l (bD aL.c 2 (dc b7) rfl)).l (oL aL.c 2 h31 rfl)).g (Ds h33))
  obtain⟨h34,h⟩|⟨h34,h⟩:=aN h
  ·have h:=aJ h;subst h;exact(gJ.b h34).ret hΓ
  ·exact((gJ.b h34).a [.cn [0,1,5] []]).ct hΓ cI (iS b7 hm1) (ih1 (i1+1) (dn b7) h)
theorem nP{aC:ar}{aZ:ar}{r:Bool}(h:mB aC aZ=some r):Good prog 36 [D.sl (aC.map aL.c),D.sl (aZ.map aL.c)] (D.bool r):=by
 refine gd func36 [[none]] 27 fun hr Γ hΓ=>?_
 rw[mB]at h;obtain⟨h1,h⟩|⟨h1,h⟩:=aN h
 ·have h:=aJ h;subst h;exact(aT.b h1).ret hΓ
 ·refine((aT.b h1).a [.cn [0,1,5] []]).lp hΓ (Dr hΓ (fun h=>?_) (by have:=(gm.sl (hr _ (aB (i:=0) rfl))).1;simpa using this) aC 0 rfl h);have h:=aJ h;subst h;exact aT.ret hΓ
def nq(aC:aW)(aZ:aW):Option Bool:=((jy aC.shape aZ.shape).bind fun y1=>(bif !(y1)then(some false)else((mB aC.facts aZ.facts).bind fun y4=>(bif !(y4)then(some false)else(some true)))))
theorem Cf{aC:aW}{aZ:aW}{r:Bool}(h:nq aC aZ=some r):Good prog 84 [D.agg (aW.c aC),D.agg (aW.c aZ)] (D.bool r):=by
 refine gd func84 [[none]] 17 fun hr Γ hΓ=>?_
 rw[nq]at h;obtain⟨y1,h2,h⟩:=aF h;obtain⟨h3,h⟩|⟨h3,h⟩:=aN h
 ·have h:=aJ h;subst h;exact((aT.g (mN h2)).b h3).ret hΓ
 ·obtain⟨y4,h5,h⟩:=aF h;have nL:=(((aT.g (mN h2)).b h3).g (nP h5))
  obtain⟨h6,h⟩|⟨h6,h⟩:=aN h
  ·have h:=aJ h;subst h;exact(nL.b h6).ret hΓ
  ·have h:=aJ h;subst h;exact(nL.b h6).ret hΓ
def jw(aC:bE)(aZ:bE)(k1:Option Bool):bE->Nat->Option Bool
 | [],i1=>(k1)
 |bC::cE,i1=>((sK aZ (i1:Int)).bind fun x30=>((nq bC x30).bind fun Da=>(bif !(Da)then(some false)else(jw aC aZ k1 cE (i1+1)))))
def oh(aC:bE)(aZ:bE):Option Bool:=(bif (((aC.map aW.c).length:Int):Int) != ((aZ.map aW.c).length:Int)then(some false)else(jw aC aZ (some true) aC 0))
def Dp(aC:bE)(aZ:bE)(dM:Int):St:=⟨[(0,D.sl (aC.map aW.c)),(1,D.sl (aZ.map aW.c)),(5,D.int .i64 dM)],[]⟩
theorem Ce(hΓ:Γ.nt=27){aC:bE}{aZ:bE}{r:Bool}{k1:Option Bool}(dQ:k1=some r->Ax Γ N f34 (.q [[none]] (D.bool r)) [1,1,1] ⟨[],[]⟩)(hm1:aC.length<=maxLen):∀(rest:bE) (i1:Nat),aC.drop i1=rest->jw aC aZ k1 rest i1=some r->Ar Γ N f34 (.q [[none]] (D.bool r)) [1,1,0,1,0] (rest.length+1) (Dp aC aZ (i1:Int)):=by
 intro rest
 induction rest with
 |nil=>
  intro i1 b7 h;rw[jw]at h;refine aO fun N1 cN cI=>?_
  exact((aT.ge aW.c b7).a [.hl 0 [] []]).ex hΓ cN (dQ h)
 |cons bC cE ih1=>
  intro i1 b7 h;rw[jw]at h;refine aO fun N1 cN cI=>?_
  obtain⟨x30,h31,h⟩:=aF h;obtain⟨Da,h33,h⟩:=aF h;have gJ:=(((((aT.lt aW.c b7).a [.n 8]).l (bD aW.c 3 (dc b7) rfl)).l (oL aW.c 3 h31 rfl)).g (Cf h33))
  obtain⟨h34,h⟩|⟨h34,h⟩:=aN h
  ·have h:=aJ h;subst h;exact(gJ.b h34).ret hΓ
  ·exact((gJ.b h34).a [.cn [0,1,5] []]).ct hΓ cI (iS b7 hm1) (ih1 (i1+1) (dn b7) h)
theorem BA{aC:bE}{aZ:bE}{r:Bool}(h:oh aC aZ=some r):Good prog 34 [D.sl (aC.map aW.c),D.sl (aZ.map aW.c)] (D.bool r):=by
 refine gd func34 [[none]] 27 fun hr Γ hΓ=>?_
 rw[oh]at h;obtain⟨h1,h⟩|⟨h1,h⟩:=aN h
 ·have h:=aJ h;subst h;exact(aT.b h1).ret hΓ
 ·refine((aT.b h1).a [.cn [0,1,5] []]).lp hΓ (Ce hΓ (fun h=>?_) (by have:=(gm.sl (hr _ (aB (i:=0) rfl))).1;simpa using this) aC 0 rfl h);have h:=aJ h;subst h;exact aT.ret hΓ
def pL(aC:aS)(aZ:aS):Option Bool:=(bif !((aC.var:Bytes)==aZ.var)then(some false)else(bif !((aC.value:Bytes)==aZ.value)then(some false)else(some true)))
theorem Dx{aC:aS}{aZ:aS}{r:Bool}(h:pL aC aZ=some r):Good prog 195 [D.agg (aS.c aC),D.agg (aS.c aZ)] (D.bool r):=by
 refine gd func195 [[none]] 15 fun hr Γ hΓ=>?_
 rw[pL]at h;obtain⟨h1,h⟩|⟨h1,h⟩:=aN h
 ·have h:=aJ h;subst h;exact(aT.b h1).ret hΓ
 ·obtain⟨h2,h⟩|⟨h2,h⟩:=aN h
  ·have h:=aJ h;subst h;exact((aT.b h1).b h2).ret hΓ
  ·have h:=aJ h;subst h;exact((aT.b h1).b h2).ret hΓ
def ko(aC:aQ)(aZ:aQ)(k1:Option Bool):aQ->Nat->Option Bool
 | [],i1=>(k1)
 |bC::cE,i1=>((sK aZ (i1:Int)).bind fun x30=>((pL bC x30).bind fun Da=>(bif !(Da)then(some false)else(ko aC aZ k1 cE (i1+1)))))
def qP(aC:aQ)(aZ:aQ):Option Bool:=(bif (((aC.map aS.c).length:Int):Int) != ((aZ.map aS.c).length:Int)then(some false)else(ko aC aZ (some true) aC 0))
def FH(aC:aQ)(aZ:aQ)(dM:Int):St:=⟨[(0,D.sl (aC.map aS.c)),(1,D.sl (aZ.map aS.c)),(5,D.int .i64 dM)],[]⟩
theorem Dw(hΓ:Γ.nt=27){aC:aQ}{aZ:aQ}{r:Bool}{k1:Option Bool}(dQ:k1=some r->Ax Γ N f186 (.q [[none]] (D.bool r)) [1,1,1] ⟨[],[]⟩)(hm1:aC.length<=maxLen):∀(rest:aQ) (i1:Nat),aC.drop i1=rest->ko aC aZ k1 rest i1=some r->Ar Γ N f186 (.q [[none]] (D.bool r)) [1,1,0,1,0] (rest.length+1) (FH aC aZ (i1:Int)):=by
 intro rest
 induction rest with
 |nil=>
  intro i1 b7 h;rw[ko]at h;refine aO fun N1 cN cI=>?_
  exact((aT.ge aS.c b7).a [.hl 0 [] []]).ex hΓ cN (dQ h)
 |cons bC cE ih1=>
  intro i1 b7 h;rw[ko]at h;refine aO fun N1 cN cI=>?_
  obtain⟨x30,h31,h⟩:=aF h;obtain⟨Da,h33,h⟩:=aF h;have gJ:=(((((aT.lt aS.c b7).a [.n 8]).l (bD aS.c 2 (dc b7) rfl)).l (oL aS.c 2 h31 rfl)).g (Dx h33))
  obtain⟨h34,h⟩|⟨h34,h⟩:=aN h
  ·have h:=aJ h;subst h;exact(gJ.b h34).ret hΓ
  ·exact((gJ.b h34).a [.cn [0,1,5] []]).ct hΓ cI (iS b7 hm1) (ih1 (i1+1) (dn b7) h)
theorem Ci{aC:aQ}{aZ:aQ}{r:Bool}(h:qP aC aZ=some r):Good prog 186 [D.sl (aC.map aS.c),D.sl (aZ.map aS.c)] (D.bool r):=by
 refine gd func186 [[none]] 27 fun hr Γ hΓ=>?_
 rw[qP]at h;obtain⟨h1,h⟩|⟨h1,h⟩:=aN h
 ·have h:=aJ h;subst h;exact(aT.b h1).ret hΓ
 ·refine((aT.b h1).a [.cn [0,1,5] []]).lp hΓ (Dw hΓ (fun h=>?_) (by have:=(gm.sl (hr _ (aB (i:=0) rfl))).1;simpa using this) aC 0 rfl h);have h:=aJ h;subst h;exact aT.ret hΓ
def nu(aC:aq)(aZ:aq):Option Bool:=((mB aC.facts aZ.facts).bind fun y1=>(bif !(y1)then(some false)else((qP aC.bind aZ.bind).bind fun y4=>(bif !(y4)then(some false)else(some true)))))
theorem Cl{aC:aq}{aZ:aq}{r:Bool}(h:nu aC aZ=some r):Good prog 168 [D.agg (aq.c aC),D.agg (aq.c aZ)] (D.bool r):=by
 refine gd func168 [[none]] 17 fun hr Γ hΓ=>?_
 rw[nu]at h;obtain⟨y1,h2,h⟩:=aF h;obtain⟨h3,h⟩|⟨h3,h⟩:=aN h
 ·have h:=aJ h;subst h;exact((aT.g (nP h2)).b h3).ret hΓ
 ·obtain⟨y4,h5,h⟩:=aF h;have nL:=(((aT.g (nP h2)).b h3).g (Ci h5))
  obtain⟨h6,h⟩|⟨h6,h⟩:=aN h
  ·have h:=aJ h;subst h;exact(nL.b h6).ret hΓ
  ·have h:=aJ h;subst h;exact(nL.b h6).ret hΓ
def jz(aC:bX)(aZ:bX)(k1:Option Bool):bX->Nat->Option Bool
 | [],i1=>(k1)
 |bC::cE,i1=>((sK aZ (i1:Int)).bind fun x30=>((nu bC x30).bind fun Da=>(bif !(Da)then(some false)else(jz aC aZ k1 cE (i1+1)))))
def ol(aC:bX)(aZ:bX):Option Bool:=(bif (((aC.map aq.c).length:Int):Int) != ((aZ.map aq.c).length:Int)then(some false)else(jz aC aZ (some true) aC 0))
def E0(aC:bX)(aZ:bX)(dM:Int):St:=⟨[(0,D.sl (aC.map aq.c)),(1,D.sl (aZ.map aq.c)),(5,D.int .i64 dM)],[]⟩
theorem Ck(hΓ:Γ.nt=27){aC:bX}{aZ:bX}{r:Bool}{k1:Option Bool}(dQ:k1=some r->Ax Γ N f137 (.q [[none]] (D.bool r)) [1,1,1] ⟨[],[]⟩)(hm1:aC.length<=maxLen):∀(rest:bX) (i1:Nat),aC.drop i1=rest->jz aC aZ k1 rest i1=some r->Ar Γ N f137 (.q [[none]] (D.bool r)) [1,1,0,1,0] (rest.length+1) (E0 aC aZ (i1:Int)):=by
 intro rest
 induction rest with
 |nil=>
  intro i1 b7 h;rw[jz]at h;refine aO fun N1 cN cI=>?_
  exact((aT.ge aq.c b7).a [.hl 0 [] []]).ex hΓ cN (dQ h)
 |cons bC cE ih1=>
  intro i1 b7 h;rw[jz]at h;refine aO fun N1 cN cI=>?_
  obtain⟨x30,h31,h⟩:=aF h;obtain⟨Da,h33,h⟩:=aF h;have gJ:=(((((aT.lt aq.c b7).a [.n 8]).l (bD aq.c 2 (dc b7) rfl)).l (oL aq.c 2 h31 rfl)).g (Cl h33))
  obtain⟨h34,h⟩|⟨h34,h⟩:=aN h
  ·have h:=aJ h;subst h;exact(gJ.b h34).ret hΓ
  ·exact((gJ.b h34).a [.cn [0,1,5] []]).ct hΓ cI (iS b7 hm1) (ih1 (i1+1) (dn b7) h)
theorem BC{aC:bX}{aZ:bX}{r:Bool}(h:ol aC aZ=some r):Good prog 137 [D.sl (aC.map aq.c),D.sl (aZ.map aq.c)] (D.bool r):=by
 refine gd func137 [[none]] 27 fun hr Γ hΓ=>?_
 rw[ol]at h;obtain⟨h1,h⟩|⟨h1,h⟩:=aN h
 ·have h:=aJ h;subst h;exact(aT.b h1).ret hΓ
 ·refine((aT.b h1).a [.cn [0,1,5] []]).lp hΓ (Ck hΓ (fun h=>?_) (by have:=(gm.sl (hr _ (aB (i:=0) rfl))).1;simpa using this) aC 0 rfl h);have h:=aJ h;subst h;exact aT.ret hΓ
def pK(aC:Node)(aZ:Node):Option Bool:=(bif (aC.parent:Int) != aZ.parent then(some false)else((nG aC.cond aZ.cond).bind fun y2=>(bif !(y2)then(some false)else(bif (aC.oU:Int) != aZ.oU then(some false)else((ol aC.tokens aZ.tokens).bind fun y6=>(bif !(y6)then(some false)else(some true)))))))
theorem Dv{aC:Node}{aZ:Node}{r:Bool}(h:pK aC aZ=some r):Good prog 85 [D.agg (Node.c aC),D.agg (Node.c aZ)] (D.bool r):=by
 refine gd func85 [[none]] 27 fun hr Γ hΓ=>?_
 rw[pK]at h;obtain⟨h1,h⟩|⟨h1,h⟩:=aN h
 ·have h:=aJ h;subst h;exact(aT.b h1).ret hΓ
 ·obtain⟨y2,h3,h⟩:=aF h;have nL:=((aT.b h1).g (wB h3))
  obtain⟨h4,h⟩|⟨h4,h⟩:=aN h
  ·have h:=aJ h;subst h;exact(nL.b h4).ret hΓ
  ·obtain⟨h5,h⟩|⟨h5,h⟩:=aN h
   ·have h:=aJ h;subst h;exact((nL.b h4).b h5).ret hΓ
   ·obtain⟨y6,h7,h⟩:=aF h;have gJ:=(((nL.b h4).b h5).g (BC h7))
    obtain⟨h8,h⟩|⟨h8,h⟩:=aN h
    ·have h:=aJ h;subst h;exact(gJ.b h8).ret hΓ
    ·have h:=aJ h;subst h;exact(gJ.b h8).ret hΓ
def kn(aC:bB)(aZ:bB)(k1:Option Bool):bB->Nat->Option Bool
 | [],i1=>(k1)
 |bC::cE,i1=>((sK aZ (i1:Int)).bind fun x30=>((pK bC x30).bind fun Da=>(bif !(Da)then(some false)else(kn aC aZ k1 cE (i1+1)))))
def qO(aC:bB)(aZ:bB):Option Bool:=(bif (((aC.map Node.c).length:Int):Int) != ((aZ.map Node.c).length:Int)then(some false)else(kn aC aZ (some true) aC 0))
def FG(aC:bB)(aZ:bB)(dM:Int):St:=⟨[(0,D.sl (aC.map Node.c)),(1,D.sl (aZ.map Node.c)),(5,D.int .i64 dM)],[]⟩
theorem Du(hΓ:Γ.nt=27){aC:bB}{aZ:bB}{r:Bool}{k1:Option Bool}(dQ:k1=some r->Ax Γ N f35 (.q [[none]] (D.bool r)) [1,1,1] ⟨[],[]⟩)(hm1:aC.length<=maxLen):∀(rest:bB) (i1:Nat),aC.drop i1=rest->kn aC aZ k1 rest i1=some r->Ar Γ N f35 (.q [[none]] (D.bool r)) [1,1,0,1,0] (rest.length+1) (FG aC aZ (i1:Int)):=by
 intro rest
 induction rest with
 |nil=>
  intro i1 b7 h;rw[kn]at h;refine aO fun N1 cN cI=>?_
  exact((aT.ge Node.c b7).a [.hl 0 [] []]).ex hΓ cN (dQ h)
 |cons bC cE ih1=>
  intro i1 b7 h;rw[kn]at h;refine aO fun N1 cN cI=>?_
  obtain⟨x30,h31,h⟩:=aF h;obtain⟨Da,h33,h⟩:=aF h;have gJ:=(((((aT.lt Node.c b7).a [.n 8]).l (bD Node.c 8 (dc b7) rfl)).l (oL Node.c 8 h31 rfl)).g (Dv h33))
  obtain⟨h34,h⟩|⟨h34,h⟩:=aN h
  ·have h:=aJ h;subst h;exact(gJ.b h34).ret hΓ
  ·exact((gJ.b h34).a [.cn [0,1,5] []]).ct hΓ cI (iS b7 hm1) (ih1 (i1+1) (dn b7) h)
theorem Ch{aC:bB}{aZ:bB}{r:Bool}(h:qO aC aZ=some r):Good prog 35 [D.sl (aC.map Node.c),D.sl (aZ.map Node.c)] (D.bool r):=by
 refine gd func35 [[none]] 27 fun hr Γ hΓ=>?_
 rw[qO]at h;obtain⟨h1,h⟩|⟨h1,h⟩:=aN h
 ·have h:=aJ h;subst h;exact(aT.b h1).ret hΓ
 ·refine((aT.b h1).a [.cn [0,1,5] []]).lp hΓ (Du hΓ (fun h=>?_) (by have:=(gm.sl (hr _ (aB (i:=0) rfl))).1;simpa using this) aC 0 rfl h);have h:=aJ h;subst h;exact aT.ret hΓ
def jx(aC:aR)(aZ:aR):Option Bool:=((nr aC.rules aZ.rules).bind fun y1=>(bif !(y1)then(some false)else((rK aC.ends aZ.ends).bind fun y4=>(bif !(y4)then(some false)else((oh aC.bU aZ.bU).bind fun y7=>(bif !(y7)then(some false)else((qO aC.nodes aZ.nodes).bind fun C8=>(bif !(C8)then(some false)else((mB aC.facts aZ.facts).bind fun qt=>(bif !(qt)then(some false)else(bif (aC.cu:Int) != aZ.cu then(some false)else(some true))))))))))))
theorem pq{aC:aR}{aZ:aR}{r:Bool}(h:jx aC aZ=some r):Good prog 14 [D.agg (aR.c aC),D.agg (aR.c aZ)] (D.bool r):=by
 refine gd func14 [[none]] 40 fun hr Γ hΓ=>?_
 rw[jx]at h;obtain⟨y1,h2,h⟩:=aF h;obtain⟨h3,h⟩|⟨h3,h⟩:=aN h
 ·have h:=aJ h;subst h;exact((aT.g (qy h2)).b h3).ret hΓ
 ·obtain⟨y4,h5,h⟩:=aF h;have nL:=(((aT.g (qy h2)).b h3).g (Dt h5))
  obtain⟨h6,h⟩|⟨h6,h⟩:=aN h
  ·have h:=aJ h;subst h;exact(nL.b h6).ret hΓ
  ·obtain⟨y7,h8,h⟩:=aF h;have gJ:=((nL.b h6).g (BA h8))
   obtain⟨h9,h⟩|⟨h9,h⟩:=aN h
   ·have h:=aJ h;subst h;exact(gJ.b h9).ret hΓ
   ·obtain⟨C8,h11,h⟩:=aF h;have oR:=((gJ.b h9).g (Ch h11))
    obtain⟨h12,h⟩|⟨h12,h⟩:=aN h
    ·have h:=aJ h;subst h;exact(oR.b h12).ret hΓ
    ·obtain⟨qt,h14,h⟩:=aF h;have nS:=((oR.b h12).g (nP h14))
     obtain⟨h15,h⟩|⟨h15,h⟩:=aN h
     ·have h:=aJ h;subst h;exact(nS.b h15).ret hΓ
     ·obtain⟨h16,h⟩|⟨h16,h⟩:=aN h
      ·have h:=aJ h;subst h;exact((nS.b h15).b h16).ret hΓ
      ·have h:=aJ h;subst h;exact((nS.b h15).b h16).ret hΓ
end Go.Cx
