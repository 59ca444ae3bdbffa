/- The abstract walk as a function: it runs straight code on an abstract state, takes its answers (tests, rows, results of calls) off a list, and tells what is owed for them. No condition; plain lemmas. -/
import Derived.Test.YtnbmhfbejojjiaaGreatDoorPFnNodesG2
import Derived.Laws.BytesArg
import Derived.LoopN
import Derived.Test.YtnbmhfbejojjiaaGreatDoorProg
import Derived.KernelRfl
import Derived.Shelf.Strings.OnBuilder
import Derived.Shelf.Sort.Plain
import Derived.Shelf.Slices.In.SortNone2
import Derived.Shelf.Strconv.Itoa3
import Derived.WalkSmall
import Derived.Shelf.Strconv.Atoi
import Derived.Shelf.Strconv.ErrVar
import Derived.Shelf.Small.Strs
import Derived.Lib.AtoiBound
set_option linter.unusedVariables false
set_option linter.unusedSimpArgs false
namespace Go.Cx
open Go.RowKit
inductive An where
 |b (v:Bool)
 |row (r:aL)
 |ix (i:Nat)
 |ch (x:UInt8)
 |cut (l h:Nat)
 |d (x:D)
 |fl (v:Bool)
 |n (k:Nat)
 |n2 (π ρ:aS) (k m:Nat) (L X:aS)
 |sk (id:Nat)
 |Jk (t:Nat)
 |pb (id off e sz:Nat)
 |vw (t:Nat)
 |cn (K o:aS)
 |hl (m:Nat) (K o:aS)
 |mu (id:Nat) (rows:List aL)
 |dc (x:D)
 |gv (ms:aS) (outs:List Rw) (d:D)
 |mg (id i off:Nat) (r:aL)
 |ov (id:Nat) (rows:List aL)
 |kv (m:List (D×D))
 |gp (nz:List (List (Option (Nat×Nat)))) (cells:aL) (d:D)
 |dn (cells:aL)
 |fz
 |nl (x:D)
 |ds (x:D)
 |mz (id:Nat)
 |tk (r:aL)
 |gf (nz:List (List (Option (Nat×Nat)))) (d:D)
abbrev Ad:=List Prop
def vf:Ad->Prop
 | []=>True
 |p::ps=>p/\vf ps
theorem vf.app{p q:Ad}(h:vf (p++q)):vf p/\vf q:=by
 induction p with
 |nil=>exact⟨trivial,h⟩
 |cons x p ih=>exact⟨⟨h.1,(ih h.2).1⟩,(ih h.2).2⟩
def Dt(P:Program)(st:St)(op:Op)(A:List An):Option (D×List An×Ad):=match op with
 | .indexAddr t x i=>(match D2 P t,st.ev x,st.ev i,A with
  |some (_,sz),.sl rows,.int _ n,.row r::A=>some (.ep r 0,A,[0<=n/\rows[n.toNat]?=some r/\r.length=sz])
  |some (_,sz),.acc id,.int _ n,.ix k::A=>(match st.H[id]? with|some (.row _ _ sz' rows)=>some (.op id k sz 0,A,[sz=sz'/\n=(k:Int)/\k<rows.length])|_=>none)
  |_,.val (.pointer (some ⟨g,o,none⟩)),.int _ n,.ix k::A=>(match a0V P t with|some (sz,len)=>some (.val (.pointer (some ⟨g,o+k*sz,none⟩)),A,[n=(k:Int)/\k<len])|none=>none)
  |_,_,_,_=>none)
 | .index t x i=>(match Hj P t,st.ev x,st.ev i,A with
  |true,.str s,.int _ n,.ch c::A=>some (.int .u8 c.toNat,A,[0<=n/\s[n.toNat]?=some c])
  |_,_,_,_=>none)
 | .load t x=>(match st.ev x with
  | .op id i sz off=>(match xq P t,st.H[id]?,A with
   |some ag,some (.row k _ sz' rows),.row r::A=>(match E8 ag (wk P t) r off with
    |some d=>some (d,A,[sz'=sz/\k.M6=true/\rows[i]?=some r/\off+(bif ag then wk P t else 1)<=sz])
    |none=>none)
   |_,_,_=>none)
  | .val (.pointer (some ⟨g,o,none⟩))=>(match xq P t,A with
   |some false,.d d::A=>some (d,A,[L9 g o=some d])
   |_,_=>none)
  |_=>(match pv P st op with|some d=>some (d,A,[])|none=>none))
 | .slice t x lo hi none=>(match st.ev x,A with
  | .str s,.cut l h::A=>(match Hj P t with
   |true=>some (.str ((s.take h).drop l),A,[yE s.length (lo.map st.ev) (hi.map st.ev)=some (l,h)])
   |false=>none)
  | .sl rows,.cut l h::A=>(match D2 P t with
   |some (_,sz)=>some (.sl ((rows.take h).drop l),A,[yE rows.length (lo.map st.ev) (hi.map st.ev)=some (l,h)/\(rows.all fun r=>r.length==sz)=true])
   |none=>none)
  |_,_=>none)
 | .binOp op' t x y t'=>(match op',st.ev x,st.ev y with
  | .add,.str a,.str b=>some (.str (a++b),A,[a.length+b.length<=maxLen])
  | .quo,.int k a,.int k' b=>some (.int k (a/b),A,[k=k'/\0<=a/\0<b])
  | .rem,.int k a,.int k' b=>some (.int k (a%b),A,[k=k'/\0<=a/\0<b])
  |_,_,_=>(match pv P st op with|some d=>some (d,A,[])|none=>none))
 | .lookup T x i ok=>(match st.ev x,A with
  | .acc id,.d d::A=>(match st.H[id]? with
   |some (.mp kv)=>some (d,A,[plk P T kv (st.ev i) ok=some d])
   |_=>none)
  |_,_=>none)
 | .pick c a b=>(match st.ev c,A with
  | .bool t,.b v::A=>(match v with|true=>some (st.ev a,A,[t=true])|false=>some (st.ev b,A,[t=false]))
  |_,_=>none)
 |_=>(match pv P st op with|some d=>some (d,A,[])|none=>none)
theorem Qm{P:Program}{st:St}{op:Op}{A A':List An}{d:D}{p:Ad}(h:Dt P st op A=some (d,A',p))(hp:vf p):pv P st op=some d:=by
 have plain:∀ {op},(match pv P st op with|some d=>some (d,A,([]:Ad))|none=>none)=some (d,A',p)->pv P st op=some d:=by
  intro op h;split at h
  ·cases h;assumption
  ·cases h
 unfold Dt at h;split at h
 ·rename_i t x i;split at h
  ·rename_i e sz rows kk n r A1 h1 h2 h3;cases h;obtain⟨⟨q1,q2,q3⟩,_⟩:=hp;simp only[pv,h1,h2,h3,q1,q2,oc,q3]
  ·rename_i e sz id kk n k A1 h1 h2 h3;split at h
   ·rename_i k' e' sz' rows hH;cases h;obtain⟨⟨rfl,rfl,q3⟩,_⟩:=hp;simp[pv,h1,h2,h3,hH,q3]
   ·cases h
  ·rename_i g o' kk n k A1 h2 h3;split at h
   ·rename_i sz len hT;cases h;obtain⟨⟨rfl,q3⟩,_⟩:=hp;simp[pv,h2,h3,hT,q3]
   ·cases h
  ·cases h
 ·rename_i t x i;split at h
  ·rename_i s kk n c A1 h1 h2 h3;cases h;obtain⟨⟨q1,q2⟩,_⟩:=hp;simp only[pv,h1,h2,h3,q1,q2,oc]
  ·cases h
 ·rename_i t x;split at h
  ·rename_i id i sz off h1;split at h
   ·rename_i ag k e sz' rows r A1 h2 h3;split at h
    ·rename_i d' hd;cases h;obtain⟨⟨rfl,q2,q3,q4⟩,_⟩:=hp;simp only[pv,h2,h1,h3,q3,q2,q4,qE,and_self,oc,hd]
    ·cases h
   ·cases h
  ·rename_i g o' h1;split at h
   ·rename_i d' A1 h2;cases h;simp only[pv,h2,h1];exact hp.1
   ·cases h
  ·exact plain h
 ·rename_i t x lo hi;split at h
  ·rename_i s l hh A1 h1;split at h
   ·rename_i h2;cases h;obtain⟨q1,_⟩:=hp;simp only[pv,h1,h2,q1,oc]
   ·cases h
  ·rename_i rows l hh A1 h1;split at h
   ·rename_i e sz h2;cases h;obtain⟨⟨q1,q2⟩,_⟩:=hp;simp only[pv,h1,h2,q1,q2,oc]
   ·cases h
  ·cases h
 ·rename_i op' t x y t';split at h
  ·rename_i a b h1 h2;cases h;obtain⟨q1,_⟩:=hp;simp only[pv,h1,h2,Rg,q1,oc]
  ·rename_i k a k' b h1 h2;cases h;obtain⟨⟨rfl,q1,q2⟩,_⟩:=hp;simp only[pv,h1,h2,Rg,q1,q2,oc,and_self]
  ·rename_i k a k' b h1 h2;cases h;obtain⟨⟨rfl,q1,q2⟩,_⟩:=hp;simp only[pv,h1,h2,Rg,q1,q2,oc,and_self]
  ·exact plain h
 ·rename_i T x i ok;split at h
  ·rename_i id d' A1 h1;split at h
   ·rename_i kv hH;cases h;simp only[pv,h1,hH];exact hp.1
   ·cases h
  ·cases h
 ·split at h
  ·rename_i t v A1 h1;split at h
   ·cases h;obtain⟨rfl,_⟩:=hp;simp[pv,h1]
   ·cases h;obtain⟨rfl,_⟩:=hp;simp[pv,h1]
  ·cases h
 ·exact plain h
def bytesOf:List aL->Option Bytes
 | []=>some []
 |r::rs=>match r,bytesOf rs with
  | [.int .u8 n],some bs=>some (UInt8.ofNat n.toNat::bs)
  |_,_=>none
theorem Mr:∀ {rows:List aL} {bs:Bytes},bytesOf rows=some bs->∃xs:bJ,rows=xs.map (fun n=>[D.int .u8 n])/\bs=xs.map (fun n=>UInt8.ofNat n.toNat):=by
 intro rows
 induction rows with
 |nil=>intro bs h;cases h;exact⟨[],rfl,rfl⟩
 |cons r rs ih=>
  intro bs h;simp only[bytesOf]at h;split at h
  ·rename_i n bs' h1;cases h;obtain⟨xs,rfl,rfl⟩:=ih h1;exact⟨n::xs,rfl,rfl⟩
  ·cases h
theorem J8:∀(xs:bJ),(xs.map (fun n=>[D.int .u8 n])).flatten=xs.map (fun n=>D.int .u8 n)
 | []=>rfl
 |n::xs=>by simp only[bC,eC,J8 xs];rfl
def a2Z(A:List An)(t:Nat):Option (List An):=match A with
 | .Jk u::A=>if u=t then some A else none
 |_=>none
def apS(H:bP)(d:D)(e sz:Nat):Option (List aL×Bool×aS):=match d with
 | .nil=>some ([],true,[])
 | .acc m=>(match H[m]? with
  |some (.row k e' sz' rows)=>(match k with| .cl=>none| .uq=>(if e'=e/\sz'=sz then some (rows,true,[m])else none)| .sh=>(if e'=e/\sz'=sz then some (rows,false,[m])else none)| .mv _=>none)
  |_=>none)
 |_=>none
def apX(H:bP)(d:D)(sz:Nat)(A:List An):Option (List aL×Bool×aS×List An×Ad):=match d,A with
 | .nil,A=>some ([],true,[],A,[])
 | .acc m,A=>(match H[m]? with
  |some (.row k _ sz' rows)=>(match k with| .cl=>none| .uq=>(if sz'=sz then some (rows,true,[m],A,[])else none)| .sh=>(if sz'=sz then some (rows,false,[m],A,[])else none)| .mv _=>none)
  |_=>none)
 | .sl rows,.fl f::A=>some (rows,f,[],A,[(∀r∈rows,r.length=sz)/\(f=true->D.pO rows=true)])
 |_,_=>none
def JS(st:St)(d:D):Option (Nat×Nat×List aL×Option Value):=match d with
 | .acc id=>(match st.H[id]? with|some (.uK sz rows u)=>some (id,sz,rows,u)|_=>none)
 |_=>none
theorem JT{st:St}{d:D}{id sz:Nat}{rows:List aL}{u:Option Value}(h:JS st d=some (id,sz,rows,u)):d=.acc id/\st.H[id]?=some (.uK sz rows u):=by
 unfold JS at h;split at h
 ·split at h
  ·rename_i hH;cases h;exact⟨rfl,hH⟩
  ·cases h
 ·cases h
def Lx(st:St)(d:D):Option (Nat×Nat×Nat×Nat×List aL×Option Value):=match d with
 | .op id i sz off=>(match st.H[id]? with|some (.uK sz' rows u)=>if sz'=sz then some (id,i,off,sz,rows,u)else none|_=>none)
 |_=>none
theorem Oq{st:St}{d:D}{id i off sz:Nat}{rows:List aL}{u:Option Value}(h:Lx st d=some (id,i,off,sz,rows,u)):d=.op id i sz off/\st.H[id]?=some (.uK sz rows u):=by
 unfold Lx at h;split at h
 ·split at h
  ·split at h
   ·rename_i hH he;subst he;cases h;exact⟨rfl,hH⟩
   ·cases h
  ·cases h
 ·cases h
def Ou(H:bP)(A:List An):Option (bP×List An×Ad):=match A with
 | .mg id i off r::A=>(match H[id]? with
  |some (.hole sz rows u p n)=>(match H[n]?,r[off]? with
   |some (.uK _ fI _),some _=>some ((H.set n .gone).set id (.uK sz (rows.set i (r.set off (.sl fI))) u),A,[rows[i]?=some r,p=i*sz+off])
   |_,_=>none)
  |_=>none)
 |A=>some (H,A,[])
def rT(n:Nat):aL->aL×bP
 | []=>([],[])
 |d::ds=>match d with
  | .sl rows=>(.acc n::(rT (n+1) ds).1,.tk rows::(rT (n+1) ds).2)
  |d=>(d::(rT n ds).1,(rT n ds).2)
def MO(r:aL):Bool:=r.all fun d=>match d with| .sl _=>true|d=>d.flat
def EC(P:Program)(nt:Nat)(o:Oper)(st:St)(A:List An):Option (St×List An×Ad):=match o.op,o.dst with
 | .box _ x,some t=>(if t<nt then match(st.ev x).cellsOf with|some ds=>some (⟨(t,.ptr st.H.length 0)::st.σ,st.H++[.box ds]⟩,A,[])|none=>none else none)
 | .alloc T,some t=>(if t<nt then match tz P T with|some ds=>some (⟨(t,.ptr st.H.length 0)::st.σ,st.H++[.box ds]⟩,A,[])|none=>none else none)
 | .store T x y,none=>(match st.ev x,(st.ev y).cellsOf with
  | .ptr id off,some ds=>(match st.H[id]? with
   |some ob=>(match ob.R5 with
    |some cells=>(if MP P T=true/\ds.length=wk P T/\off+ds.length<=cells.length then some (⟨st.σ,st.H.set id (ob.re (cells.take off++ds++cells.drop (off+ds.length)))⟩,A,[])else none)
    |none=>none)
   |none=>none)
  | .op id i sz off,some ds=>(match st.H[id]?,Gw st.H ds,A with
   |some (.uK sz' rows u),_,.row r::A=>(if MP P T=true/\ds.length=wk P T/\0<ds.length/\sz'=sz/\off+ds.length<=sz/\ds.all D.flat=true then
    some (⟨st.σ,st.H.set id (.uK sz (rows.set i (r.take off++ds++r.drop (off+ds.length))) u)⟩,A,[rows[i]?=some r])else none)
   |some (.row k e sz' rows),some (es,ms),.row r::A=>(if MP P T=true/\ds.length=wk P T/\sz'=sz/\k.M6=true/\off+ds.length<=sz/\ms.Nodup/\id∉ms then
    some (⟨st.σ,(kill st.H ms).set id (.row (k.after (ds.all (Ql st.H))) e sz (rows.set i (r.take off++es++r.drop (off+ds.length))))⟩,A,[rows[i]?=some r])else none)
   |_,_,_=>none)
  |_,_=>none)
 | .makeMap _ none,some t=>(if t<nt then some (⟨(t,.acc st.H.length)::st.σ,st.H++[.mp []]⟩,A,[])else none)
 | .mapUpdate T x i y,none=>(match Rt P T,st.ev x,A with
  |some (kd,_),.acc id,.kv m::A=>(match st.H[id]? with
   |some (.mp kv)=>(if F0 kd (st.ev i)=true/\(st.ev y).scalar=true then some (⟨st.σ,st.H.set id (.mp m)⟩,A,[GO (st.ev i) (st.ev y) kv=some m])else none)
   |_=>none)
  |_,_,_=>none)
 | .makeSlice T x y,some t=>(match D2 P T,st.ev x,st.ev y with
  |some (e,sz),.int _ n,.int _ n'=>(match tz P e with
   |some zs=>(if t<nt/\0<sz then some (⟨(t,.acc st.H.length)::st.σ,st.H++[.row .uq e sz (List.replicate n.toNat (zs.map D.EB))]⟩,A,[n'=n/\0<=n/\Ux P e*n.toNat<=281474976710656/\n.toNat<=4611686018427387904])else none)
   |none=>none)
  |_,_,_=>none)
 | .buildSlice T len parts,some t=>(match D2 P T with
  |some (e,sz)=>(match tz P e with
   |some zs=>(match vU (qm len sz) (List.replicate len zs).flatten (parts.toList.map fun p=>(p.1,st.ev p.2))with
    |some ds=>(match Gw st.H ds with
     |some (es,ms)=>(if t<nt/\0<sz/\len*sz<=16777216/\ms.Nodup then some (⟨(t,.acc st.H.length)::st.σ,kill st.H ms++[.row (wW (ds.all (Ql st.H))) e sz (chunk sz len es)]⟩,A,[])else none)
     |none=>none)
    |none=>none)
   |none=>none)
  |none=>none)
 | .call c,some t=>(match c.callee,c.args.toList,c.argTypes.toList with
  | .builtin .append,[s,x],[T,T']=>(match D2 P T with
   |some (e,sz)=>(match tz P e,apS st.H (st.ev s) e sz,apX st.H (st.ev x) sz A with
    |some _,some (rows,u1,k1),some (fI,u2,k2,A,ow)=>(if t<nt/\0<sz/\T'=T/\(k1++k2).Nodup then
     some (⟨(t,.acc st.H.length)::st.σ,kill st.H (k1++k2)++[.row (wW (u1&&u2)) e sz (rows++fI)]⟩,A,(rows.length+fI.length<=maxLen/\(rows.length+fI.length)*Ux P e<=140737488355328)::ow)else none)
    |_,_,_=>none)
   |none=>none)
  | .builtin .len,[x],[T]=>(match JS st (st.ev x)with
   |some (_,_,rows,_)=>(if t<nt/\(D2 P T).isSome=true then some (⟨(t,.int .i64 rows.length)::st.σ,st.H⟩,A,[])else none)
   |none=>(if t<nt then match Dt P st o.op A with|some (d,A,ow)=>some (⟨(t,d)::st.σ,st.H⟩,A,ow)|none=>none else none))
  | .value (.func f),xs,_=>(match Du st.H (xs.map st.ev),A with
   |_,.gv ms outs d::A=>(match JR st.H ms with
    |some ins=>(if t<nt/\ms.Nodup/\((xs.map st.ev).all D.bare)=true then
     (match Ou (M9 st.H ms outs) A with
     |some (H',A',ow)=>some (⟨(t,d)::st.σ,H'⟩,A',XV P f ((xs.map st.ev).map (D.QY ms)) ins outs d::ow)
     |none=>none)else none)
    |none=>none)
   |_,.gp nz cells' d::A=>(match xs with
    |x0::xr=>(match st.ev x0 with
     | .ptr id 0=>(match st.H[id]? with
      |some ob=>(match ob.R5 with
       |some Gy=>(match xo st.H nz (.agg Gy::xr.map st.ev)with
        |some (.agg cells::ds,ms,qs)=>(if t<nt/\ms.Nodup/\qs.Nodup then
         some (⟨(t,(mi (st.H.length+(mE st.H.length cells').2.length) d).1)::st.σ,(kill st.H (ms++qs)).set id (ob.re (mE st.H.length cells').1)++((mE st.H.length cells').2++(mi (st.H.length+(mE st.H.length cells').2.length) d).2)⟩,A,[jP P f cells cells' ds d])else none)
        |_=>none)
       |none=>none)
      |none=>none)
     |_=>none)
    | []=>none)
   |some (ds,ms),.dn cells::A=>(if t<nt/\ms=[]then some (⟨(t,.ptr st.H.length 0)::st.σ,st.H++[.box cells]⟩,A,[FL P f ds cells])else none)
   |some (ds,_),.dc d::A=>(if t<nt/\d.Jf=true then some (⟨(t,(mi st.H.length d).1)::st.σ,st.H++(mi st.H.length d).2.map Ob.close⟩,A,[Good P f ds d])else none)
   |_,.ov id cr::A=>(match st.H[id]? with
    |some (.row .uq e sz rows)=>(if t<nt/\((xs.map st.ev).all D.bare)=true then some (⟨(t,.acc st.H.length)::st.σ,kill st.H [id]++[.row .uq e sz cr]⟩,A,[rows.flatten.all D.flat=true,Dz P f ((xs.map st.ev).map (D.QY [id])) e sz rows cr])else none)
    |_=>none)
   |_,.mu id cr::A=>(match xs,st.H[id]? with
    | [x],some (.row k e sz rows)=>(match st.ev x with
     | .acc id'=>(if t<nt/\id'=id/\k.hand=true then some (⟨(t,.iK [])::st.σ,st.H.set id (.row k e sz cr)⟩,A,[rows.flatten.all D.flat=true,Ma P f e sz rows cr])else none)
     |_=>none)
    |_,_=>none)
   |some (ds,ms),.d d::A=>(if t<nt/\(ms=[]\/d.Jf=true)then some (⟨(t,(mi st.H.length d).1)::st.σ,st.H++(mi st.H.length d).2⟩,A,[Good P f ds d])else none)
   |_,.nl d::A=>(if t<nt/\(xs.map st.ev).all Hy=true then some (⟨(t,(mi st.H.length d).1)::st.σ,st.H++(mi st.H.length d).2⟩,A,[Good P f (xs.map st.ev) d])else none)
   |_,.gf nz d::A=>(match xo st.H nz (xs.map st.ev)with
    |some (ds,ms,qs)=>(if t<nt/\ms.Nodup/\qs.Nodup then some (⟨(t,(mi st.H.length d).1)::st.σ,kill st.H (ms++qs)++(mi st.H.length d).2⟩,A,[FK P f ds d])else none)
    |none=>none)
   |_,_=>none)
  |_,_,_=>(if t<nt then match Dt P st o.op A with|some (d,A,ow)=>some (⟨(t,d)::st.σ,st.H⟩,A,ow)|none=>none else none))
 | .convert s d x,some t=>(match st.ev x with
  | .acc id=>(match st.H[id]?,D2 P s with
   |some (.row _ _ _ rows),some (e,sz)=>(match bytesOf rows with
    |some bs=>(if t<nt/\sz=1/\PO P e=some .u8/\Hj P d=true then some (⟨(t,.str bs)::st.σ,st.H⟩,A,[])else none)
    |none=>none)
   |_,_=>none)
  |_=>(if t<nt then match Dt P st o.op A with|some (d,A,ow)=>some (⟨(t,d)::st.σ,st.H⟩,A,ow)|none=>none else none))
 | .assign x,some t=>(match a2Z A t with
  |some A=>(match st.ev x,D2 P o.type with
   | .nil,some (e,sz)=>(if t<nt/\0<sz then some (⟨(t,.acc st.H.length)::st.σ,st.H++[.row .uq e sz []]⟩,A,[])else none)
   |_,_=>none)
  |none=>(if t<nt then some (⟨(t,st.ev x)::st.σ,st.H⟩,A,[])else none))
 | .slice T x none (some hi) none,some t=>(match st.ev x with
  | .acc id=>(match st.H[id]?,D2 P T,st.ev hi,A with
   |some (.row .uq e sz rows),some (_,sz'),.int _ n,.cut 0 h::A=>(if t<nt/\sz'=sz then some (⟨(t,.acc st.H.length)::st.σ,kill st.H [id]++[.row .uq e sz (rows.take h)]⟩,A,[n=((h:Nat):Int)/\h<=rows.length])else none)
   |_,_,_,_=>none)
  |_=>(if t<nt then match Dt P st o.op A with|some (d,A,ow)=>some (⟨(t,d)::st.σ,st.H⟩,A,ow)|none=>none else none))
 | .slice T (.tmp s) (some lo) none none,some t=>(match A,lk st.σ s with
  | .fz::A,.acc id=>(match st.H[id]? with
   |some (.row k e sz rows)=>(if t<nt/\k.M6=true then match Dt P ⟨(s,.sl rows)::st.σ,st.H.set id .gone⟩ o.op A with|some (d,A,ow)=>some (⟨(t,d)::(s,.sl rows)::st.σ,st.H.set id .gone⟩,A,ow)|none=>none else none)
   |_=>none)
  |_,_=>(if t<nt then match Dt P st o.op A with|some (d,A,ow)=>some (⟨(t,d)::st.σ,st.H⟩,A,ow)|none=>none else none))
 | .indexAddr T x i,some t=>(match JS st (st.ev x)with
  |some (id,sz,rows,_)=>(match D2 P T,st.ev i,A with
   |some (_,sz'),.int _ n,.ix m::A=>(if t<nt/\sz'=sz then some (⟨(t,.op id m sz 0)::st.σ,st.H⟩,A,[n=(m:Int)/\m<rows.length])else none)
   |_,_,_=>none)
  |none=>(if t<nt then match Dt P st o.op A with|some (d,A,ow)=>some (⟨(t,d)::st.σ,st.H⟩,A,ow)|none=>none else none))
 | .load T x,some t=>(match Lx st (st.ev x)with
  |some (id,i,off,sz,rows,u)=>(match xq P T,A with
   |some false,.row r::A=>(match r[off]? with
    |some (.sl fI)=>(match D2 P T with
     |some (_,PL)=>(if t<nt then some (⟨(t,.acc st.H.length)::st.σ,st.H.set id (.hole sz (rows.set i (r.set off .any)) u (i*sz+off) st.H.length)++[.uK PL fI none]⟩,A,[rows[i]?=some r,∀q∈fI,q.length=PL])else none)
     |none=>none)
    |some d=>(if t<nt/\d.flat=true then some (⟨(t,d)::st.σ,st.H⟩,A,[rows[i]?=some r])else none)
    |none=>none)
   |_,_=>none)
  |none=>(match A,st.ev x with
   | .tk r::A,.op id i sz 0=>(match st.H[id]? with
    |some (.row (.mv n) e sz' rows)=>(if t<nt/\sz'=sz/\xq P T=some true/\wk P T=sz then
     some (⟨(t,.agg (rT st.H.length r).1)::st.σ,st.H.set id (.row (.mv (n+1)) e sz rows)++(rT st.H.length r).2⟩,A,[i=n/\rows[n]?=some r/\MO r=true])else none)
    |_=>none)
   |A,_=>(if t<nt then match Dt P st o.op A with|some (d,A,ow)=>some (⟨(t,d)::st.σ,st.H⟩,A,ow)|none=>none else none)))
 |op,some t=>(if t<nt then match Dt P st op A with|some (d,A,ow)=>some (⟨(t,d)::st.σ,st.H⟩,A,ow)|none=>none else none)
 |_,none=>none
section
variable{P:Program}{Γ:sO}{Q:Exit->St->Prop}{st:St}{all:Array Oper}{rest:List Oper}
theorem dH.U1{κ:Nat->Option Value}{Θ:Nat->Nat}{a:Act}{w:World}(hs:dH Γ st κ Θ a w)(e sz:Nat)(hsz:0<sz):dH Γ ⟨st.σ,st.H++[.row .uq e sz []]⟩ (vc κ st.H.length (some (.slice none 0 0))) Θ a w:=by
 obtain⟨ρ,hu⟩:=hs.qz;refine hs.put [] zg (vB (hs.ni _ (bL _)) _) ?_ ?_ (hY.refl hs.own (by omega)) hs.mine ?_ hu (by simp) ?_
 ·intro i hi;simp only[av,aT,bW]at hi;unfold vc;rw[b9 (by omega)];exact hs.ni i (by omega)
 ·intro i x hx;unfold vc at hx;split at hx
  ·cases hx;rfl
  ·exact hs.mw i x hx
 ·exact⟨hsz,by simp,_,[],[],kK _ _ _,World.ownsRow_nil w 0 e sz,.nil,by simp[Value.ownBlock],by simp⟩
 ·intro e' sz' cr he;simp only[Ob.row.injEq,qE]at he;obtain⟨rfl,rfl,rfl⟩:=he;exact⟨_,[],[],kK _ _ _,World.ownsRow_nil w 0 e sz,.nil,by simp,by simp⟩
theorem Yj{o:Oper}{x:Operand}{t e sz:Nat}(hop:o.op=.assign x)(hd:o.dst=some t)(hg:o.guard=none)(ht:t<Γ.nt)(hx:st.ev x=.nil)(hsz:0<sz)
 (h:AO P Γ all rest Q ⟨(t,.acc st.H.length)::st.σ,st.H++[.row .uq e sz []]⟩):AO P Γ all (o::rest) Q st:=by
 intro κ Θ a w hs;obtain⟨bs,r,_⟩:=hs.ev x;rw[hx]at r;have hv:=r.GV;have hp:pv P st o.op=some .nil:=by rw[hop];simp[pv,hx]
 obtain⟨v,b2,hrun,hrd,hz⟩:=Cc hs hp;have K3:=hrd.GV;subst K3;refine wpList_plain hg fun K hK=>?_
 unfold Oper.wp;rw[hrun,Oper.upon_value,hd];refine hK _ _ (h _ _ _ _ ((hs.U1 e sz hsz).set (t:=t) (d:=.acc st.H.length) (bs:=[]) ht ?_ (by simp)));exact(wZ.acc st.H.length _ (kK _ _ _)).MQ
theorem ey.a0T{κ:Nat->Option Value}{w:World}{n:Nat}(hk:κ n=some (.slice none 0 0)):∀ {vs:bp} {ds:aL} {bs:aS},ey w κ vs ds bs->∀ {off:Nat},ds[off]?=some .nil->∃bs',ey w κ vs (ds.set off (.acc n)) bs'/\∀b∈bs',b∈bs:=by
 intro vs ds bs h
 induction h with
 |nil=>intro off h;simp at h
 |cons v vs d ds b1 b2 h1 h2 h3 ih=>
  intro off h;cases off with
  |zero=>
   simp only[z6,ah]at h;subst h;have hv:v=.slice none 0 0:=by
    cases h2 with
    |pure h2=>cases h2;rfl
   subst hv;exact⟨[]++b2,.cons _ _ _ _ _ _ h1 (.acc n _ hk) h3,fun b hb=>by simp at hb;simp[hb]⟩
  |succ off=>
   obtain⟨bs',q1,q2⟩:=ih (off:=off) (by simpa using h);exact⟨b1++bs',.cons _ _ _ _ _ _ h1 h2 q1,fun b hb=>by
    rcases aZ.1 hb with hb|hb
    ·exact aZ.2 (.inl hb)
    ·exact aZ.2 (.inr (q2 b hb))⟩
def St.prom(st:St)(id off e sz:Nat):Option St:=match st.H[id]? with
 |some (.box cells)=>(match cells[off]? with
  |some .nil=>(if 0<sz then some ⟨st.σ,(st.H++[Ob.row .uq e sz []]).set id (Ob.box (cells.set off (.acc st.H.length)))⟩else none)
  |_=>none)
 |_=>none
theorem dH.prom{κ:Nat->Option Value}{Θ:Nat->Nat}{a:Act}{w:World}{sn:St}{id off e sz:Nat}(hs:dH Γ st κ Θ a w)(h:st.prom id off e sz=some sn):∃κ',dH Γ sn κ' Θ a w:=by
 unfold St.prom at h;split at h
 ·rename_i cells hH;split at h
  ·rename_i hc;split at h
   ·rename_i hsz;cases h;have hlt:id<st.H.length:=(aE.1 hH).1;have hs1:=hs.U1 e sz hsz;refine⟨_,hs1.defers,hs1.size,fun i hi=>hs1.ni i (by simpa using hi),hs1.mw,hs1.slot,?_,hs1.own,hs1.old,hs1.mine,hs1.stays,?_⟩
    ·intro j y hj;simp only[fX]at hj;split at hj
     ·rename_i e1;subst e1;split at hj
      ·cases hj;obtain⟨g,cs,T,q1,q2,q3,bs,q4,q5⟩:=hs1.ob id (.box cells) (by simpa[aq hlt]using hH);obtain⟨bs',p1,p2⟩:=ey.a0T (n:=st.H.length) (kK _ _ _) q4 hc;exact⟨g,cs,T,q1,q2,q3,bs',p1,fun b hb=>q5 b (p2 b hb)⟩
      ·cases hj
     ·exact hs1.ob j y hj
    ·obtain⟨ρ,hu⟩:=hs1.qz;refine⟨ρ,hu.free,fun i e' sz' rows hi=>hu.rows i e' sz' rows ?_,fun i o hi=>?_⟩
     ·simp only[fX]at hi;split at hi
      ·split at hi<;>cases hi
      ·exact hi
     ·simp only[fX]at hi;split at hi
      ·split at hi
       ·cases hi;trivial
       ·cases hi
      ·exact hu.more i o hi
   ·cases h
  ·cases h
 ·cases h
theorem dH.a2z{κ:Nat->Option Value}{Θ:Nat->Nat}{a:Act}{w:World}{id e sz:Nat}{rows:List aL}(hs:dH Γ st κ Θ a w)(hH:st.H[id]?=some (.row .uq e sz rows)):dH Γ ⟨st.σ,st.H.set id (.row .sh e sz rows)⟩ κ Θ a w:=by
 have hlt:id<st.H.length:=(aE.1 hH).1;refine⟨hs.defers,hs.size,fun i hi=>hs.ni i (by simpa using hi),hs.mw,hs.slot,?_,hs.own,hs.old,hs.mine,hs.stays,?_⟩
 ·intro j y hj;simp only[fX,hlt,oc]at hj;split at hj
  ·rename_i e1;subst e1;cases hj;exact(show u7 w κ Θ id (.row .uq e sz rows)from hs.ob id _ hH)
  ·exact hs.ob j y hj
 ·obtain⟨ρ,hu⟩:=hs.qz;refine⟨ρ,hu.free,fun i e' sz' cr hi=>hu.rows i e' sz' cr ?_,fun i o hi=>?_⟩
  ·simp only[fX,hlt,oc]at hi;split at hi
   ·cases hi
   ·exact hi
  ·simp only[fX,hlt,oc]at hi;split at hi
   ·cases hi;trivial
   ·exact hu.more i o hi
theorem dH.mvz{κ:Nat->Option Value}{Θ:Nat->Nat}{a:Act}{w:World}{id e sz:Nat}{rows:List aL}(hs:dH Γ st κ Θ a w)(hH:st.H[id]?=some (.row .uq e sz rows)):dH Γ ⟨st.σ,st.H.set id (.row (.mv 0) e sz rows)⟩ κ Θ a w:=by
 have hlt:id<st.H.length:=(aE.1 hH).1;refine⟨hs.defers,hs.size,fun i hi=>hs.ni i (by simpa using hi),hs.mw,hs.slot,?_,hs.own,hs.old,hs.mine,hs.stays,?_⟩
 ·intro j y hj;simp only[fX,hlt,oc]at hj;split at hj
  ·rename_i e1;subst e1;cases hj;exact(show u7 w κ Θ id (.row .uq e sz rows)from hs.ob id _ hH)
  ·exact hs.ob j y hj
 ·obtain⟨ρ,hu⟩:=hs.qz;refine⟨ρ,hu.free,fun i e' sz' cr hi=>hu.rows i e' sz' cr ?_,fun i o hi=>?_⟩
  ·simp only[fX,hlt,oc]at hi;split at hi
   ·cases hi
   ·exact hi
  ·simp only[fX,hlt,oc]at hi;split at hi
   ·rename_i e1;subst e1;cases hi;obtain⟨v,cs,bs,q1,q2,q3,q4,q5⟩:=hu.rows id e sz rows hH;exact⟨v,cs,bs,q1,q2,by simpa using q3,q4,q5⟩
   ·exact hu.more i o hi
def shares:List An->St->St×List An
 | .sk id::A,st=>(match st.H[id]? with
  |some (.row .uq e sz rows)=>shares A ⟨st.σ,st.H.set id (.row .sh e sz rows)⟩
  |_=>(st,.sk id::A))
 | .mz id::A,st=>(match st.H[id]? with
  |some (.row .uq e sz rows)=>shares A ⟨st.σ,st.H.set id (.row (.mv 0) e sz rows)⟩
  |_=>(st,.mz id::A))
 |A,st=>(st,A)
theorem dH.shares{κ:Nat->Option Value}{Θ:Nat->Nat}{a:Act}{w:World}:∀ {A A1:List An} {st vX:St},dH Γ st κ Θ a w->shares A st=(vX,A1)->dH Γ vX κ Θ a w:=by
 intro A
 induction A with
 |nil=>intro A1 st vX hs h;simp only[Cx.shares,cK]at h;obtain⟨rfl,_⟩:=h;exact hs
 |cons x A ih=>
  intro A1 st vX hs h;cases x
  case sk id=>
   simp only[Cx.shares]at h;split at h
   ·rename_i e sz rows hH;exact ih (hs.a2z hH) h
   ·simp only[cK]at h;obtain⟨rfl,_⟩:=h;exact hs
  case mz id=>
   simp only[Cx.shares]at h;split at h
   ·rename_i e sz rows hH;exact ih (hs.mvz hH) h
   ·simp only[cK]at h;obtain⟨rfl,_⟩:=h;exact hs
  all_goals(simp only[Cx.shares,cK]at h;obtain⟨rfl,_⟩:=h;exact hs)
theorem VW{o:Oper}{s d:TypeId}{x:Operand}{t id e e' sz':Nat}{k:RK}{rows:List aL}{bs:Bytes}(hop:o.op=.convert s d x)(hd:o.dst=some t)(hg:o.guard=none)(ht:t<Γ.nt)(hx:st.ev x=.acc id)
 (hH:st.H[id]?=some (.row k e' sz' rows)) (hT:D2 P s=some (e,1)) (he:PO P e=some .u8) (hs':Hj P d=true) (hb:bytesOf rows=some bs) (h:AO P Γ all rest Q ⟨(t,.str bs)::st.σ,st.H⟩):AO P Γ all (o::rest) Q st:=by
 intro κ Θ a w hs;obtain⟨b0,r,_⟩:=hs.ev x;rw[hx]at r;obtain⟨hk,_⟩:=r.su;obtain⟨hsz,hrl,v,cs,b1,hk2,hown,qC,_,_⟩:=hs.ob id _ hH;rw[hk]at hk2;cases hk2;obtain⟨xs,rfl,rfl⟩:=Mr hb;obtain⟨hu,_,_⟩:=nQ hT;have hue:P.underlying e=some (.int .u8):=by
  unfold PO at he;split at he
  ·rename_i k' hk';cases he;exact hk'
  ·cases he
 have hud:=uw hs';have hfl:(xs.map (fun n=>[D.int .u8 n])).flatten=xs.map (fun n=>D.int .u8 n):=J8 xs;rw[hfl]at qC;have hcs:∀(xs:bJ) (cs:bp) (b:aS),jv w cs (xs.map (fun n=>D.int .u8 n)) b->cs=xs.map (Value.int .u8):=by
  intro xs
  induction xs with
  |nil=>intro cs b h;cases h;rfl
  |cons n xs ih=>
   intro cs b h;cases h with
   |cons v vs _ _ b1 b2 _ h2 h3=>
    cases h2;rw[ih _ _ h3];rfl
 have hce:=hcs xs cs b1 qC;have hlen:xs.length<=maxLen:=by
  rcases hown.2 with⟨_,hn⟩|⟨g,cap,cur,_,_,_,hnc,hcm,_⟩
  ·simp at hn;rw[hn];simp
  ·simp at hnc;omega
 have hrun:(convert s d (a.eval x)).run P w=.ok (.string (strOfNums xs)) w:=by
  rcases hown.2 with⟨hv,hn⟩|⟨g,cap,cur,hv,_,hg,hnc,hcm,_,_⟩
  ·have hx0:xs=[]:=by simpa using hn
   subst hx0;rw[hv,run_convert_bytes_nil w s e hu hue 0 0 d hud];rfl
  ·rw[hv];have hcell:=hown.cells (g:=g) (by rw[hv];simp[Value.ownBlock]);refine run_convert_bytes_arg w s e hu hue g 0 _ cap xs (by simp) (fun i hi=>?_) d hud;have hi':i<xs.length:=by simpa using hi
   have:=hcell i (.int .u8 (xs.getD i 0)) (by rw[hce];simp[List.getD,aV hi']);simpa[Addr.add_lit]using this
 refine wpList_plain hg fun K hK=>?_
 unfold Oper.wp;have NH:(execOp a.eval o).run P w=.ok (.value (.string (strOfNums xs))) w:=by
  simp only[execOp,hop];simp[hrun]
 rw[NH,Oper.upon_value,hd];refine hK _ _ (h _ _ _ _ (hs.set (t:=t) (bs:=[]) ht ?_ (by simp)));have hsl:(strOfNums xs).data.toList=xs.map (fun n=>UInt8.ofNat n.toNat):=by simp[strOfNums]
 have hss:(strOfNums xs).size<=maxLen:=by
  have:(strOfNums xs).size=xs.length:=by
   have:=congrArg List.length hsl;simpa using this
  omega
 have:=Rd.str (w:=w) (strOfNums xs) hss;rw[hsl]at this;exact .of this
theorem Yf{o:Oper}{t:Nat}{s x:Operand}{T e sz:Nat}{zs:aL}{rows fI:List aL}{u1 u2:Bool}{k1 k2:aS}{A A':List An}{ow:Ad}
 (hop:o.op=.call {callee:=.builtin .append,args:= #[s,x],argTypes:= #[T,T]}) (hd:o.dst=some t) (hg:o.guard=none) (ht:t<Γ.nt) (hT:D2 P T=some (e,sz)) (hz:tz P e=some zs) (hsz:0<sz)
 (hS:apS st.H (st.ev s) e sz=some (rows,u1,k1)) (hX:apX st.H (st.ev x) sz A=some (fI,u2,k2,A',ow)) (how:vf ow) (hnd:(k1++k2).Nodup)
 (h63:rows.length+fI.length<=maxLen) (hby:(rows.length+fI.length)*Ux P e<=140737488355328)
 (h:AO P Γ all rest Q ⟨(t,.acc st.H.length)::st.σ,kill st.H (k1++k2)++[.row (wW (u1&&u2)) e sz (rows++fI)]⟩):AO P Γ all (o::rest) Q st:=by
 refine Qq hop hd hg ht hT hz hsz h63 hby ?_ h;intro κ Θ a w ρ hs hu;have one:∃i1 b1 c1,SQ w Θ ρ e sz (a.eval s) rows u1 i1 b1 c1/\((k1=[]/\i1=st.H.length)\/k1=[i1]):=by
  obtain⟨bs,r,_⟩:=hs.ev s;unfold apS at hS;split at hS
  ·rename_i FC;cases hS;rw[FC]at r;have:=r.GV;rw[this];exact⟨st.H.length,[],[],SY,.inl ⟨rfl,rfl⟩⟩
  ·rename_i m FC;rw[FC]at r;obtain⟨hk,_⟩:=r.su;split at hS
   ·rename_i k e' sz' cr hH;split at hS
    ·cases hS
    ·split at hS
     ·rename_i hc;obtain⟨rfl,rfl⟩:=hc;cases hS;obtain⟨b1,c1,hA⟩:=FO hs hu hk hH rfl;exact⟨m,b1,c1,hA,.inr rfl⟩
     ·cases hS
    ·split at hS
     ·rename_i hc;obtain⟨rfl,rfl⟩:=hc;cases hS;obtain⟨b1,c1,hA⟩:=FO hs hu hk hH rfl;exact⟨m,b1,c1,hA,.inr rfl⟩
     ·cases hS
    ·cases hS
   ·cases hS
  ·cases hS
 have two:∃i2 b2 c2,Qu w Θ ρ sz (a.eval x) fI u2 i2 b2 c2/\(u2=true->b2=[]\/i2∈k2):=by
  obtain⟨bs,r,hz⟩:=hs.ev x;unfold apX at hX;split at hX
  ·rename_i A1 FC;cases hX;rw[FC]at r;have:=r.GV;rw[this];exact⟨0,[],[],SZ,fun _=>.inl rfl⟩
  ·rename_i A1 m FC;rw[FC]at r;obtain⟨hk,_⟩:=r.su;split at hX
   ·rename_i k e' sz' cr hH;split at hX
    ·cases hX
    ·split at hX
     ·rename_i hc;subst hc;cases hX;obtain⟨b1,c1,hA⟩:=Mi hs hu hk hH rfl;exact⟨m,b1,c1,hA,fun _=>.inr (by simp)⟩
     ·cases hX
    ·split at hX
     ·rename_i hc;subst hc;cases hX;obtain⟨b1,c1,hA⟩:=Mi hs hu hk hH rfl;exact⟨m,b1,c1,hA,fun _=>.inr (by simp)⟩
     ·cases hX
    ·cases hX
   ·cases hX
  ·rename_i cr f A1 FC;cases hX;rw[FC]at r;obtain⟨⟨q1,q2⟩,_⟩:=how;obtain⟨b2,c2,hA,hb⟩:=Vh (ρ:=ρ) r.MK hz q1 0 u2 q2;exact⟨0,b2,c2,hA,fun e=>.inl (hb e)⟩
  ·cases hX
 obtain⟨i1,b1,c1,hA,hk1⟩:=one;obtain⟨i2,b2,c2,hB,hk2⟩:=two;refine⟨u1,u2,i1,i2,b1,b2,c1,c2,hA,hB,?_,fun uP=>?_⟩
 ·rcases hk1 with⟨_,h⟩|h
  ·exact .inr h
  ·exact .inl (by simp[h])
 ·simp only[aY]at uP;refine⟨uP.1,uP.2,?_⟩;rcases hk2 uP.2 with h|hmem
  ·exact .inl h
  ·refine .inr ⟨by simp[hmem],fun e=>?_⟩;rcases hk1 with⟨h1,h2⟩|h1
   ·
    have hlt:i2<st.H.length:=by
     unfold apX at hX;split at hX
     ·cases hX;cases hmem
     ·rename_i A1 m FC;split at hX
      ·rename_i k e' sz' cr hH;have:=(aE.1 hH).1;split at hX
       ·cases hX
       ·split at hX
        ·cases hX;simp at hmem;omega
        ·cases hX
       ·split at hX
        ·cases hX;simp at hmem;omega
        ·cases hX
       ·cases hX
      ·cases hX
     ·cases hX;cases hmem
     ·cases hX
    omega
   ·subst e;have:=(bD.1 hnd).2.2 i1 (by simp[h1]) i1 hmem;exact this rfl
theorem Uw{κ:Nat->Option Value}{w:World}:∀ {ds:aL} {n:Nat} {vs:bp} {bs:aS},jv w vs ds bs->(∀d∈ds,d.flat=true\/∃rows,d=.sl rows)->bs.Nodup->
 ∃(us:bp) (L:List aS),us.length=(rT n ds).2.length/\L.length=us.length/\L.flatten=bs/\
  (∀(j:Nat) o,(rT n ds).2[j]?=some o->∃rows u b,o=.tk rows/\us[j]?=some u/\u.oneCell'=true/\L[j]?=some b/\Rd w u (.sl rows) b)/\
  (∀κ':Nat->Option Value,(∀(j:Nat) u,us[j]?=some u->κ' (n+j)=some u)->ey w κ' vs (rT n ds).1 []):=by
 intro ds
 induction ds with
 |nil=>intro n vs bs h _ _;cases h;exact⟨[],[],rfl,rfl,rfl,by simp[rT],fun _ _=>.nil⟩
 |cons d ds ih=>
  intro n vs bs h hd hnd;cases h with
  |cons v vs _ _ b1 b2 h1 h2 h3=>
   obtain⟨n1,n2,n3⟩:=bD.1 hnd;rcases hd d (by simp)with hf|⟨rows,rfl⟩
   ·have hb:=h2.flat hf;subst hb;obtain⟨us,L,q1,q2,q3,q4,q5⟩:=ih (n:=n) h3 (fun x hx=>hd x (by simp[hx])) n2;have e:rT n (d::ds)=(d::(rT n ds).1,(rT n ds).2):=by cases d<;>first|rfl| (simp[D.flat]at hf)
    rw[e];exact⟨us,L,q1,q2,q3,q4,fun κ' hk=>by simpa using ey.cons v vs d _ [] [] h1 (.pure h2) (q5 κ' hk)⟩
   ·obtain⟨us,L,q1,q2,q3,q4,q5⟩:=ih (n:=n+1) h3 (fun x hx=>hd x (by simp[hx])) n2;refine⟨v::us,b1::L,by simp[rT,q1],by simp[q2],by simp[q3],fun j o hj=>?_,fun κ' hk=>?_⟩
    ·cases j with
     |zero=>simp[rT]at hj;subst hj;exact⟨rows,v,b1,rfl,rfl,h1,rfl,h2⟩
     |succ j=>
      obtain⟨cr,u,b,r1,r2,r3,r4,r5⟩:=q4 j o (by simpa[rT]using hj);exact⟨cr,u,b,r1,by simpa using r2,r3,by simpa using r4,r5⟩
    ·have:=ey.cons v vs (.acc n) _ [] [] h1 (.acc n v (by have:=hk 0 v rfl;simpa using this)) (q5 κ' (fun j u hj=>by have:=hk (j+1) u (by simpa using hj);rw[<-this];congr 1;omega));simpa[rT]using this
theorem PM{r:aL}(h:MO r=true):∀d∈r,d.flat=true\/∃rows,d=.sl rows:=by
 intro d hd;have:=aj.1 h d hd;cases d<;>first|exact .inr ⟨_,rfl⟩|exact .inl this
theorem VZ{o:Oper}{T id i sz e t:Nat}{x:Operand}{rows:List aL}{r:aL}(hop:o.op=.load T x)(hd:o.dst=some t)(hg:o.guard=none)(ht:t<Γ.nt)
 (hx:st.ev x=.op id i sz 0) (hH:st.H[id]?=some (.row (.mv i) e sz rows)) (hrow:rows[i]?=some r) (hT:xq P T=some true) (hsz:wk P T=sz) (hok:MO r=true)
 (h:AO P Γ all rest Q ⟨(t,.agg (rT st.H.length r).1)::st.σ,st.H.set id (.row (.mv (i+1)) e sz rows)++(rT st.H.length r).2⟩):AO P Γ all (o::rest) Q st:=by
 intro κ Θ a w hs;obtain⟨b1,r1,_⟩:=hs.ev x;rw[hx]at r1;obtain⟨g,o0,len,cap,hk,hv⟩:=r1.Cb;obtain⟨ρ,hu⟩:=hs.qz;obtain⟨ZG,hrl,vk0,cs0,bs0,a1l,Xk,a4o,hΘ,vb⟩:=hs.ob id _ hH;obtain⟨vk,cs,bs,TN,hown,qC,hnd,hρ⟩:=hu.more id _ hH;rw[hk]at TN a1l;cases TN;cases a1l;have VL:=AV hown;subst VL;rw[cv]at hv;have QF:r.length=sz:=hrl r (aD hrow);have hlt:i<rows.length:=(aE.1 hrow).1;have Sy:rows.drop i=r::rows.drop (i+1):=by
  rw[s5 hlt]
  congr 1
  rw[aV hlt]at hrow;exact qD hrow
 rw[Sy,eC]at qC;obtain⟨v1,v2,c1,c2,JJ,CP,k1,k2⟩:=qC.split;have l1:v1.length=sz:=by rw[k1.length,QF]
 have hcells:∀j c,cs[j]?=some c->w.cell? ⟨g,0+j,none⟩=some c:=by
  intro j c hj;have:=hown.cells (g:=g) (by simp[Value.ownBlock]) j c hj;simpa[Addr.add_lit]using this
 have L0:=nc (P:=P) (w:=w) hT (o:=i*sz+0) hcells;simp only[cv,wL]at L0 hv;have hle:(i+1)*sz<=rows.length*sz:=dG _ hlt;rw[gU,lq]at hle;have Sx:=hown.1;have hval:(cs.drop (i*sz)).take sz=v1:=by rw[JJ];exact gw l1
 have hrun:(execOp a.eval o).run P w=.ok (.value (.agg v1.toArray)) w:=by
  simp only[execOp,hop,hv];have:=L0.1 trivial (by rw[hsz,Sx];omega);rw[hsz,hval]at this;simp[this]
 refine wpList_plain hg fun K hK=>?_
 unfold Oper.wp;rw[hrun,Oper.upon_value,hd];rw[CP]at hnd hρ;obtain⟨n1,n2,n3⟩:=bD.1 hnd;obtain⟨us,L,q1,q2,q3,q4,q5⟩:=Uw (κ:=κ) (n:=st.H.length) k1 (PM hok) n1;let N:=st.H.length
 let κ':Nat->Option Value:=fun j=>if j<N then κ j else us[j-N]?
 let ρ':Nat->Nat:=fun b=>match ix (fun x:aS=>x.contains b) L with|some j=>N+j+1|none=>ρ b
 have hn:∀(j:Nat) v,κ j=some v->κ' j=some v:=by
  intro j v hj;have:j<N:=by
   rcases dX j N with h|h
   ·exact h
   ·rw[hs.ni j h]at hj;cases hj
  simp only[κ'];rw[bN this];exact hj
 have hk':∀(j:Nat) u,us[j]?=some u->κ' (N+j)=some u:=fun j u hj=>by
  simp only[κ'];rw[b9 (by omega),cq];exact hj
 have a1E:L.flatten.Nodup:=by rw[q3];exact n1
 have a1p:∀(j:Nat) x b,L[j]?=some x->b∈x->ρ' b=N+j+1:=by
  intro j x b hj hb;have:ix (fun x:aS=>x.contains b) L=some j:=CU hj (by simpa using hb) (fun m y hm hy=>by
   have hy':b∈y:=by simpa using hy
   exact cu fun hne=>by
    have key:∀(L:List aS),L.flatten.Nodup->∀(p q:Nat) x y,L[p]?=some x->L[q]?=some y->b∈x->b∈y->p=q:=by
     intro L
     induction L with
     |nil=>intro _ p q x y hp;simp at hp
     |cons z L ih=>
      intro hnd p q x y hp hq yy hby;simp only[eC]at hnd;obtain⟨m1,m2,m3⟩:=bD.1 hnd;cases p with
      |zero=>
       cases q with
       |zero=>rfl
       |succ q=>
        simp at hp hq;subst hp;exact absurd rfl (m3 b yy b (fN.2 ⟨y,aD hq,hby⟩))
      |succ p=>
       cases q with
       |zero=>
        simp at hp hq;subst hq;exact absurd rfl (m3 b hby b (fN.2 ⟨x,aD hp,yy⟩))
       |succ q=>simp at hp hq;rw[ih m2 p q x y hp hq yy hby]
    exact hne (key L a1E m j y x hm hj hy' hb))
  simp only[ρ',this]
 have Ln:∀b,b∉c1->ρ' b=ρ b:=by
  intro b hb;simp only[ρ'];cases hi:ix (fun x:aS=>x.contains b) L with
  |none=>rfl
  |some j=>
   obtain⟨x,hx',hp⟩:=wU hi;exact absurd (by rw[<-q3];exact fN.2 ⟨x,aD hx',by simpa using hp⟩) hb
 have a6z:id<N:=(aE.1 hH).1;have key:∀(j:Nat) y,(st.H.set id (.row (.mv (i+1)) e sz rows)++(rT st.H.length r).2)[j]?=some y->(j=id/\y=.row (.mv (i+1)) e sz rows)\/(j≠id/\j<N/\st.H[j]?=some y)\/∃m,j=N+m/\(rT st.H.length r).2[m]?=some y:=by
  intro j y hj;by_cases hlt:j<N
  ·rw[aq (by simpa using hlt)]at hj;rcases wX j y hj with h|⟨h1,h2⟩
   ·exact .inl h
   ·exact .inr (.inl ⟨h1,hlt,h2⟩)
  ·rw[ax (by simpa using hlt)]at hj;exact .inr (.inr ⟨j-N,by omega,by simpa using hj⟩)
 have kk:hY w w Θ Θ (id+2):=hY.refl hs.own (by omega);have qy:=hs.mm kk hn hu;have hone:∀(j:Nat) u,κ' j=some u->u.oneCell'=true:=by
  intro j u hj;simp only[κ']at hj;split at hj
  ·exact hs.mw j u hj
  ·have hjl:j-N<(rT st.H.length r).2.length:=by rw[<-q1];exact(aE.1 hj).1
   obtain⟨_,u',_,_,r2,r3,_⟩:=q4 (j-N) _ (aV hjl);rw[hj]at r2;cases r2;exact r3
 have KK:∀b∈c1,Θ b=0:=fun b hb=>(hu.free b (by rw[hρ b (by simp[hb])];omega)).1
 have hs':dH Γ ⟨st.σ,st.H.set id (.row (.mv (i+1)) e sz rows)++(rT st.H.length r).2⟩ κ' Θ a w:=by
  refine hs.step kk hs.mine hn (fun j hj=>?_) hone (fun j y hj=>?_) ⟨ρ',fun b hb=>?_,fun j e2 PL fI hj=>?_,fun j y hj=>?_⟩
  ·simp only[av,nj]at hj;simp only[κ'];rw[b9 (by omega)];exact cB (by rw[q1];exact Nat.le_sub_of_add_le' hj)
  ·rcases key j y hj with⟨rfl,rfl⟩|⟨h1,h2,h3⟩|⟨m,rfl,hm⟩
   ·exact .inr (.inr ⟨ZG,hrl,_,cs0,bs0,hn _ _ hk,Xk,a4o,hΘ,vb⟩)
   ·exact .inr (.inl ⟨by omega,h3⟩)
   ·obtain⟨cr,u,b,rfl,r2,r3,r4,r5⟩:=q4 m y hm;exact .inr (.inr ⟨u,b,hk' m u r2,r5,fun x hx'=>KK x (by rw[<-q3];exact fN.2 ⟨b,aD r4,hx'⟩)⟩)
  ·by_cases hb':b∈c1
   ·exact qy.1 b (by rw[hρ b (by simp[hb'])];omega)
   ·rw[Ln b hb']at hb;exact qy.1 b hb
  ·rcases key j _ hj with⟨_,h⟩|⟨h1,h2,h3⟩|⟨m,rfl,hm⟩
   ·cases h
   ·obtain⟨v',cs',bs',p1,p2,p3,p4,p5⟩:=qy.2.1 j e2 PL fI (by omega) h3;refine⟨v',cs',bs',p1,p2,p3,p4,fun b hb=>?_⟩;rw[Ln b (fun hb'=>by have:=hρ b (by simp[hb']);have:=p5 b hb;omega)];exact p5 b hb
   ·obtain⟨_,_,_,h,_⟩:=q4 m _ hm;cases h
  ·rcases key j _ hj with⟨rfl,rfl⟩|⟨h1,h2,h3⟩|⟨m,rfl,hm⟩
   ·refine⟨_,cs,c2,hn _ _ hk,hown,?_,n2,fun b hb=>?_⟩
    ·have e1:cs.drop ((i+1)*sz)=v2:=by
      rw[gU,lq,<-gE,JJ];exact fL l1
     rw[e1];exact k2
    ·rw[Ln b (fun hb'=>n3 b hb' b hb rfl)];exact hρ b (by simp[hb])
   ·refine(qy.2.2 j y (by omega) h3).re fun b hb=>?_
    rw[Ln b (fun hb'=>by have:=hρ b (by simp[hb']);omega)];exact hb
   ·obtain⟨cr,u,b,rfl,r2,r3,r4,r5⟩:=q4 m y hm;have hsub:∀x∈b,ρ' x=N+m+1:=fun x hx'=>a1p m b x r4 hx'
    have a4D:b.Nodup:=by
     have Zh:∀(L:List aS),L.flatten.Nodup->∀x∈L,x.Nodup:=by
      intro L
      induction L with
      |nil=>intro _ x hx';cases hx'
      |cons z L ih=>
       intro hnd x hx';simp only[eC]at hnd;obtain⟨m1,m2,_⟩:=bD.1 hnd;rcases bH.1 hx' with rfl|hx'
       ·exact m1
       ·exact ih m2 x hx'
     exact Zh L a1E b (aD r4)
    exact⟨u,b,hk' m u r2,r5,a4D,hsub⟩
 refine hK _ _ (h κ' Θ _ w (hs'.set (t:=t) ht (.v (.agg v1 _ [] (q5 κ' hk'))) (by simp)))
theorem zv{o:Oper}{t:Nat}{d:D}{A A':List An}{p:Ad}(hd:o.dst=some t)(hg:o.guard=none)(ht:t<Γ.nt)(hv:Dt P st o.op A=some (d,A',p))(hp:vf p)(h:AO P Γ all rest Q ⟨(t,d)::st.σ,st.H⟩):
 AO P Γ all (o::rest) Q st:=XU hd hg ht (Qm hv hp) h
theorem Qr{o:Oper}{s id e sz:Nat}{k:RK}{rows:List aL}(hx:lk st.σ s=.acc id)(hH:st.H[id]?=some (.row k e sz rows))(hk:k.M6=true)
 (h:AO P Γ all (o::rest) Q ⟨(s,.sl rows)::st.σ,st.H.set id .gone⟩):AO P Γ all (o::rest) Q st:=by
 intro κ Θ a w hs;obtain⟨ρ,hu⟩:=hs.qz;obtain⟨Θ',ρ',hs',_,⟨v,bs,hkm,hrd,hz,_⟩,_⟩:=hs.Zo hu hH hk;obtain⟨bx,rx,_⟩:=hs.slot s;rw[hx]at rx;obtain⟨hkx,_⟩:=rx.su;have hv:a.tmps.getD s undef=v:=by rw[hkm]at hkx;cases hkx;rfl
 refine h κ Θ' a w ⟨hs'.defers,hs'.size,hs'.ni,hs'.mw,fun u=>?_,hs'.ob,hs'.own,hs'.old,hs'.mine,hs'.stays,hs'.qz⟩;show∃bs,pW w κ (a.tmps.getD u undef) (if u=s then .sl rows else lk st.σ u) bs/\_;by_cases qy:u=s
 ·subst qy;rw[bN rfl,hv];exact⟨bs,.of hrd,hz⟩
 ·rw[b9 qy];exact hs'.slot u
theorem o8(c:Call){callee:Callee}{xs:List Operand}{ts:List TypeId}(h1:c.callee=callee)(h2:c.args.toList=xs)(h3:c.argTypes.toList=ts):c= {callee:=callee,args:=xs.toArray,argTypes:=ts.toArray}:=by
 cases c;simp only at h1 h2 h3;subst h1;subst h2;subst h3;simp
theorem M1{H H':bP}{A A':List An}{p:Ad}{σ:List (Nat×D)}(h:Ou H A=some (H',A',p))(hp:vf p)(hn:AO P Γ all rest Q ⟨σ,H'⟩):AO P Γ all rest Q ⟨σ,H⟩:=by
 unfold Ou at h;split at h
 ·split at h
  ·rename_i sz rows u p' n hH;split at h
   ·rename_i PL fI u2 d hN hc;cases h;have he:=hp.2.1;subst he;exact SM (st:=⟨σ,H⟩) hH hN hp.1 hc hn
   ·cases h
  ·cases h
 ·cases h;exact hn
theorem LM{o:Oper}{A A':List An}{sn:St}{p:Ad}{nt:Nat}(hnt:Γ.nt=nt)(hg:o.guard=none)(h:EC P nt o st A=some (sn,A',p))(hp:vf p)(hn:AO P Γ all rest Q sn):AO P Γ all (o::rest) Q st:=by
 subst hnt;unfold EC at h;split at h
 ·rename_i T x t hop hd;split at h
  ·split at h
   ·cases h;exact Yg hop hd hg (by assumption) (by assumption) hn
   ·cases h
  ·cases h
 ·rename_i T t hop hd;split at h
  ·split at h
   ·cases h;exact SC hop hd hg (by assumption) (by assumption) hn
   ·cases h
  ·cases h
 ·rename_i T x y hop hd;split at h
  ·rename_i id off ds h1 h2;split at h
   ·rename_i ob h3;split at h
    ·rename_i cells h4;split at h
     ·rename_i hc;cases h;exact SO hop hd hg h1 h3 h4 h2 hc.1 hc.2.1 hc.2.2 hn
     ·cases h
    ·cases h
   ·cases h
  ·rename_i id i sz off ds h1 h2;split at h
   ·rename_i sz' rows u _ r A1 h3;split at h
    ·rename_i hc;obtain⟨c1,c2,c3,rfl,c5,c6⟩:=hc;cases h;exact Qs hop hd hg h1 h3 hp.1 h2 c6 c1 c2 c3 c5 hn
    ·cases h
   ·rename_i k e sz' rows es ms r A1 h3 h4;split at h
    ·rename_i hc;obtain⟨c1,c2,rfl,c4,c5,c6,c7⟩:=hc;cases h;exact MY hop hd hg h1 h3 c4 hp.1 h2 h4 c6 c7 c1 c2 c5 hn
    ·cases h
   ·cases h
  ·cases h
 ·rename_i T t hop hd;split at h
  ·cases h;exact OA hop hd hg (by assumption) hn
  ·cases h
 ·rename_i T x i y hop hd;split at h
  ·rename_i kd dz id m A1 h1 h2;split at h
   ·rename_i kv h3;split at h
    ·rename_i hc;cases h;exact LL hop hd hg h1 h2 h3 hc.1 hc.2 hp.1 hn
    ·cases h
   ·cases h
  ·cases h
 ·rename_i T x y t hop hd;split at h
  ·rename_i e sz k n k' n' h1 h2 h3;split at h
   ·rename_i zs h4;split at h
    ·rename_i hc;cases h;obtain⟨⟨rfl,q2,q3,q4⟩,_⟩:=hp;exact LK hop hd hg hc.1 h1 h4 hc.2 h2 h3 q2 q3 q4 hn
    ·cases h
   ·cases h
  ·cases h
 ·rename_i T len parts t hop hd;split at h
  ·rename_i e sz h1;split at h
   ·rename_i zs h2;split at h
    ·rename_i ds h3;split at h
     ·rename_i es ms h4;split at h
      ·rename_i hc;cases h;exact K7 hop hd hg hc.1 h1 h2 hc.2.1 hc.2.2.1 h3 h4 hc.2.2.2 hn
      ·cases h
     ·cases h
    ·cases h
   ·cases h
  ·cases h
 ·rename_i c t hop hd;split at h
  ·rename_i s x T T' h1 h2 h3;split at h
   ·rename_i e sz h4;split at h
    ·rename_i zs rows u1 k1 fI u2 k2 A1 ow h5 h6 h7;split at h
     ·rename_i hc;obtain⟨c1,c2,rfl,c4⟩:=hc;cases h;obtain⟨⟨q1,q2⟩,q3⟩:=hp;exact Yf (hop.trans (congrArg Op.call (o8 c h1 h2 h3))) hd hg c1 h4 h5 c2 h6 h7 q3 c4 q1 q2 hn
     ·cases h
    ·cases h
   ·cases h
  ·rename_i x T h1 h2 h3;split at h
   ·rename_i id sz rows u h4;obtain⟨h5,h6⟩:=JT h4;split at h
    ·rename_i hc;cases h;exact VY (hop.trans (congrArg Op.call (o8 c h1 h2 h3))) hd hg hc.1 hc.2 h5 h6 hn
    ·cases h
   ·split at h
    ·split at h
     ·rename_i d A1 ow h4;cases h;exact zv hd hg (by assumption) h4 hp hn
     ·cases h
    ·cases h
  ·rename_i f xs ts h1;split at h
   ·rename_i ms outs d A1 h4;split at h
    ·rename_i ins h5;split at h
     ·rename_i hc;obtain⟨c1,c2,c3⟩:=hc;split at h
      ·rename_i H' A2 ow h6;cases h;exact SK (hop.trans (congrArg Op.call (o8 c h1 rfl rfl))) hd hg c1 c2 h5 (by simpa using c3) (by simpa using hp.1) (M1 h6 hp.2 hn)
      ·cases h
     ·cases h
    ·cases h
   ·rename_i nz cells' d A1 h4;split at h
    ·rename_i x0 xr h5;split at h
     ·rename_i id h6;split at h
      ·rename_i ob h7;split at h
       ·rename_i Gy h8;split at h
        ·rename_i cells ds ms qs h9;split at h
         ·rename_i hc;obtain⟨c1,c2,c3⟩:=hc;cases h;exact SJ (hop.trans (congrArg Op.call (o8 c h1 rfl rfl))) hd hg c1 (by simpa using h5) h6 h7 h8 h9 c2 c3 hp.1 hn
         ·cases h
        ·cases h
       ·cases h
      ·cases h
     ·cases h
    ·cases h
   ·rename_i ds ms cells A1 h4;split at h
    ·rename_i hc;obtain⟨c1,rfl⟩:=hc;cases h;exact SH (hop.trans (congrArg Op.call (o8 c h1 rfl rfl))) hd hg c1 (by simpa using h4) hp.1 hn
    ·cases h
   ·rename_i ds ms d A1 h4;split at h
    ·rename_i hc;cases h;exact SD (hop.trans (congrArg Op.call (o8 c h1 rfl rfl))) hd hg hc.1 (by simpa using h4) hc.2 hp.1 hn
    ·cases h
   ·rename_i id cr A1 h4;split at h
    ·rename_i e sz rows h5;split at h
     ·rename_i hc;obtain⟨c1,c3⟩:=hc;cases h;exact SI (hop.trans (congrArg Op.call (o8 c h1 rfl rfl))) hd hg c1 h5 hp.1 (by simpa using c3) (by simpa using hp.2.1) hn
     ·cases h
    ·cases h
   ·rename_i id cr A1 h4;split at h
    ·rename_i x k e sz rows h5 h6;split at h
     ·rename_i id' h7;split at h
      ·rename_i hc;obtain⟨c1,rfl,c3⟩:=hc;cases h;have e1:c.args= #[x]:=by rw[<-om];simpa using h5
       refine SG (ts:=c.argTypes) (hop.trans (congrArg Op.call ?_)) (fun t' ht'=>?_) hg h7 h6 c3 hp.1 hp.2.1 ?_
       ·rw[<-e1];exact o8 c h1 rfl rfl
       ·rw[hd]at ht';cases ht';exact c1
       ·rw[hd];exact hn
      ·cases h
     ·cases h
    ·cases h
   ·rename_i ds ms d A1 h4;split at h
    ·rename_i hc;cases h;exact VV (hop.trans (congrArg Op.call (o8 c h1 rfl rfl))) hd hg hc.1 (by simpa using h4) hc.2 hp.1 hn
    ·cases h
   ·rename_i d A1;split at h
    ·rename_i hc;cases h;exact SF (hop.trans (congrArg Op.call (o8 c h1 rfl rfl))) hd hg hc.1 (by simpa using hc.2) (by simpa using hp.1) hn
    ·cases h
   ·rename_i nz d A1;split at h
    ·rename_i ds ms qs h9;split at h
     ·rename_i hc;obtain⟨c1,c2,c3⟩:=hc;cases h;exact SE (hop.trans (congrArg Op.call (o8 c h1 rfl rfl))) hd hg c1 h9 c2 c3 hp.1 hn
     ·cases h
    ·cases h
   ·cases h
  ·split at h
   ·split at h
    ·rename_i d A1 ow h4;cases h;exact zv hd hg (by assumption) h4 hp hn
    ·cases h
   ·cases h
 ·rename_i s d x t hop hd;split at h
  ·rename_i id h1;split at h
   ·rename_i k e' sz' rows e sz h2 h3;split at h
    ·rename_i bs h4;split at h
     ·rename_i hc;obtain⟨c1,rfl,c3,c4⟩:=hc;cases h;exact VW hop hd hg c1 h1 h2 h3 c3 c4 h4 hn
     ·cases h
    ·cases h
   ·cases h
  ·split at h
   ·split at h
    ·rename_i d A1 ow h4;cases h;exact zv hd hg (by assumption) h4 hp hn
    ·cases h
   ·cases h
 ·rename_i x t hop hd;split at h
  ·rename_i A1;split at h
   ·rename_i e sz h1 h2;split at h
    ·rename_i hc;cases h;exact Yj hop hd hg hc.1 h1 hc.2 hn
    ·cases h
   ·cases h
  ·split at h
   ·cases h;exact XU hd hg (by assumption) (by rw[hop];rfl) hn
   ·cases h
 ·rename_i T x hi t hop hd;split at h
  ·rename_i id h1;split at h
   ·rename_i e sz rows e' sz' kk n hh A1 h2 h3 h4;split at h
    ·rename_i hc;obtain⟨c1,rfl⟩:=hc;cases h;exact VX hop hd hg c1 h3 h1 h2 (by rw[h4,hp.1.1]) hp.1.2 hn
    ·cases h
   ·cases h
  ·split at h
   ·split at h
    ·rename_i d A1 ow h4;cases h;exact zv hd hg (by assumption) h4 hp hn
    ·cases h
   ·cases h
 ·rename_i T s lo t hop hd;split at h
  ·rename_i A0 id h1;split at h
   ·rename_i k e sz rows h2;split at h
    ·rename_i hc;split at h
     ·rename_i d A1 ow h4;cases h;exact Qr h1 h2 hc.2 (zv hd hg hc.1 h4 hp hn)
     ·cases h
    ·cases h
   ·cases h
  ·split at h
   ·split at h
    ·rename_i d A1 ow h4;cases h;exact zv hd hg (by assumption) h4 hp hn
    ·cases h
   ·cases h
 ·rename_i T x i t hop hd;split at h
  ·rename_i id sz rows u h1;obtain⟨h2,h3⟩:=JT h1;split at h
   ·rename_i e sz' k n m A1 h4 h5;split at h
    ·rename_i hc;obtain⟨c1,rfl⟩:=hc;cases h;exact Yh hop hd hg c1 h4 h2 h5 h3 hp.1.1 hp.1.2 hn
    ·cases h
   ·cases h
  ·split at h
   ·split at h
    ·rename_i d A1 ow h4;cases h;exact zv hd hg (by assumption) h4 hp hn
    ·cases h
   ·cases h
 ·rename_i T x t hop hd;split at h
  ·rename_i id i off sz rows u h1;obtain⟨h2,h3⟩:=Oq h1;split at h
   ·rename_i r A1 h4;split at h
    ·rename_i fI h5;split at h
     ·rename_i e PL h6;split at h
      ·rename_i hc;cases h;exact SN hop hd hg hc h4 h2 h3 hp.1 h5 hp.2.1 hn
      ·cases h
     ·cases h
    ·rename_i d _ h5;split at h
     ·rename_i hc;cases h;exact SL hop hd hg hc.1 h4 h2 h3 hp.1 h5 hc.2 hn
     ·cases h
    ·cases h
   ·cases h
  ·split at h
   ·rename_i r A1 id i sz h1;split at h
    ·rename_i n e sz' rows h2;split at h
     ·rename_i hc;obtain⟨c1,rfl,c3,c4⟩:=hc;cases h;obtain⟨⟨rfl,q2,q3⟩,_⟩:=hp;exact VZ hop hd hg c1 h1 h2 q2 c3 c4 q3 hn
     ·cases h
    ·cases h
   ·split at h
    ·split at h
     ·rename_i d A1 ow h4;cases h;exact zv hd hg (by assumption) h4 hp hn
     ·cases h
    ·cases h
 ·split at h
  ·split at h
   ·rename_i d A1 ow h4;cases h;exact zv (by assumption) hg (by assumption) h4 hp hn
   ·cases h
  ·cases h
 ·cases h
theorem Us{o:Oper}{A A':List An}{sn:St}{p:Ad}{nt:Nat}(hnt:Γ.nt=nt)(h:EC P nt o st A=some (sn,A',p)):∀ {t:Nat},o.dst=some t->t<Γ.nt:=by
 intro t ht;subst hnt;unfold EC at h;split at h
 all_goals first
  | (rename_i hd;rw[ht]at hd;cases hd;done)
  |skip
 all_goals(try(rename_i hd;rw[ht]at hd;cases hd))
 all_goals(repeat' split at h)
 all_goals(try cases h)
 all_goals first
  |assumption
  | (
   have hc:_/\_:=by assumption
   exact hc.1)
  | (simp_all;done)
end
end Go.Cx
namespace Go.Cx
open Go.RowKit
abbrev eT:=List An
section
variable{P:Program}{Γ:sO}{Q:Exit->St->Prop}{st:St}{κ:Nat->Option Value}{Θ:Nat->Nat}{a:Act}{w:World}{all:Array Oper}{X:aS}
def x6(X:aS)(H H':bP):Prop:=∀(i:Nat) o,i∉X->H[i]?=some o->H'[i]?=some o
theorem x6.refl{X:aS}(H:bP):x6 X H H:=fun _ _ _ h=>h
theorem x6.trans{X:aS}{A B C:bP}(h:x6 X A B)(k:x6 X B C):x6 X A C:=fun i o n e=>k i o n (h i o n e)
theorem x6.app{X:aS}{H H':bP}(h:x6 X H H')(n:bP):x6 X H (H'++n):=by
 intro i o hni hi;have:=h i o hni hi;rw[aq (aE.1 this).1,this]
theorem x6.cs{X:aS}{H H':bP}(h:x6 X H H'){i:Nat}{cs:aL}(hi:i∉X)(hc:(H[i]?).bind Ob.R5=some cs):(H'[i]?).bind Ob.R5=some cs:=by
 obtain⟨ob,hb,O5⟩:=mJ.1 hc;rw[h i ob hi hb];exact O5
def AY(X:aS)(st:St):Op->Bool
 | .fieldAddr _ _ _=>true
 | .field _ _ _=>true
 | .extract _ _=>true
 | .move _=>true
 | .binOp _ _ _ _ _=>true
 | .unOp _ _ _=>true
 | .nilCheck _=>true
 | .convert _ _ _=>true
 | .index _ _ _=>true
 | .build _ _=>true
 | .indexAddr _ x _=>(match st.ev x with| .sl _=>true| .acc id=> !X.contains id|_=>false)
 | .load _ x=>(match st.ev x with| .ep _ _=>true| .ptr id _=> !X.contains id| .op id _ _ _=> !X.contains id|_=>false)
 |_=>false
theorem Uu{X:aS}{σ σ':List (Nat×D)}{H H':bP}{op:Op}{d:D}(hx:x6 X H H')(hs:AY X ⟨σ,H⟩ op=true)(he:∀x∈op.operands.toList,St.ev ⟨σ,H⟩ x=St.ev ⟨σ',H'⟩ x)(h:pv P ⟨σ,H⟩ op=some d):pv P ⟨σ',H'⟩ op=some d:=by
 cases op<;>simp only[AY,wq]at hs<;>simp only[pv]at h⊢
 case move x=>rw[he x (by simp[Op.operands])]at*;exact h
 case nilCheck x=>rw[he x (by simp[Op.operands])]at h;exact h
 case binOp op t x y t'=>rw[he x (by simp[Op.operands]),he y (by simp[Op.operands])]at h;exact h
 case unOp op t x=>cases op<;>simp only[pv]at h⊢ <;>(try cases h)<;>(rw[he x (by simp[Op.operands])]at h;exact h)
 case convert s d x=>rw[he x (by simp[Op.operands])]at h;exact h
 case field t x f=>rw[he x (by simp[Op.operands])]at h;exact h
 case fieldAddr t x f=>rw[he x (by simp[Op.operands])]at h;exact h
 case indexAddr t x i=>
  rw[he x (by simp[Op.operands])]at hs;rw[he x (by simp[Op.operands]),he i (by simp[Op.operands])]at h;split at hs
  ·rename_i rows h0;rw[h0]at h⊢;generalize D2 P t=a at h⊢;generalize St.ev ⟨σ',H'⟩ i=b at h⊢;cases a<;>cases b<;>exact h
  ·rename_i id h0;rw[h0]at h⊢;generalize D2 P t=a at h⊢;generalize St.ev ⟨σ',H'⟩ i=b at h⊢;cases a<;>cases b<;>first|exact h|skip
   dsimp only at h⊢;cases hH:H[id]? with
   |none=>rw[hH]at h;cases h
   |some o=>rw[hx id o (by simpa using hs) hH];rw[hH]at h;exact h
  ·cases hs
 case load t x=>
  rw[he x (by simp[Op.operands])]at hs h;split at hs
  ·rename_i row off h0;rw[h0]at h⊢;generalize xq P t=a at h⊢;cases a<;>exact h
  ·rename_i id off h0;rw[h0]at h⊢;generalize xq P t=a at h⊢;cases a
   ·exact h
   ·dsimp only at h⊢;split at h
    ·rename_i cells hH;simp only[hx.cs (by simpa using hs) hH];exact h
    ·cases h
  ·rename_i id i sz off h0;rw[h0]at h⊢;generalize xq P t=a at h⊢;cases a
   ·exact h
   ·dsimp only at h⊢;cases hH:H[id]? with
    |none=>rw[hH]at h;cases h
    |some o=>rw[hx id o (by simpa using hs) hH];rw[hH]at h;exact h
  ·cases hs
 case extract x i=>rw[he x (by simp[Op.operands])]at h;exact h
 case index t x i=>rw[he x (by simp[Op.operands]),he i (by simp[Op.operands])]at h;exact h
 case build t parts=>
  have:(parts.toList.map fun p=>(p.1,St.ev ⟨σ,H⟩ p.2))=parts.toList.map fun p=>(p.1,St.ev ⟨σ',H'⟩ p.2):=by
   apply me;intro p hp;rw[he p.2 (by simp only[Op.operands];simp;exact⟨p.1,by simpa using hp⟩)]
  rw[this]at h;exact h
def OE(xs acc:aS):aS:=xs.foldl (fun acc x=>bif acc.contains x then acc else x::acc) acc
theorem Ot:∀ {xs acc:aS} {x:Nat},x∈OE xs acc->x∈xs\/x∈acc:=by
 intro xs
 induction xs with
 |nil=>intro acc x h;exact .inr h
 |cons y ys ih=>
  intro acc x h;rcases ih (acc:=bif acc.contains y then acc else y::acc) h with h|h
  ·exact .inl (by simp[h])
  ·cases hc:acc.contains y with
   |true=>rw[hc]at h;exact .inr h
   |false=>
    rw[hc]at h;rcases bH.1 h with rfl|h
    ·exact .inl (by simp)
    ·exact .inr h
def Xb(acc:List aS)(es:List Edge):aS:=es.foldl (fun d e=>bif Region.binds .any e then OE (e.on::acc.getD e.on []) d else d) []
theorem RX{acc:List aS}{es:List Edge}{i:Nat}(h:i∈Xb acc es):∃e∈es,Region.binds .any e=true/\(i=e.on\/i∈acc.getD e.on []):=by
 have key:∀(es:List Edge) (d:aS),i∈es.foldl (fun d e=>bif Region.binds .any e then OE (e.on::acc.getD e.on []) d else d) d->i∈d\/∃e∈es,Region.binds .any e=true/\(i=e.on\/i∈acc.getD e.on []):=by
  intro es
  induction es with
  |nil=>intro d h;exact .inl h
  |cons e es ih=>
   intro d h;rcases ih _ h with h|⟨e',h1,h2⟩
   ·cases hb:Region.binds .any e with
    |false=>simp only[hb,aW]at h;exact .inl h
    |true=>
     simp only[hb,aI]at h;rcases Ot h with h|h
     ·exact .inr ⟨e,by simp,hb,by simpa using h⟩
     ·exact .inl h
   ·exact .inr ⟨e',by simp[h1],h2⟩
 rcases key es [] h with h|h
 ·cases h
 ·exact h
def GF(acc:List aS)(o:Oper):List aS:=acc++[Xb acc o.after.toList]
def OO(ops:List Oper):List aS:=ops.foldl GF []
theorem Vw{ops:Array Oper}{listed:Array Bool}(closed:∀(j:Nat) oj,ops[j]?=some oj->listed.getD j false=true->∀e∈oj.after,Region.binds .any e=true->listed.getD e.on false=true):
 ∀(l pre:List Oper) (acc:List aS),ops.toList=pre++l->acc.length=pre.length->
  (∀(j:Nat) o,ops[j]?=some o->(∀e∈o.after,Region.binds .any e=true->listed.getD e.on false=true)->∀i∈acc.getD j [],listed.getD i false=true)->
  ∀(j:Nat) o,ops[j]?=some o->(∀e∈o.after,Region.binds .any e=true->listed.getD e.on false=true)->∀i∈(l.foldl GF acc).getD j [],listed.getD i false=true:=by
 intro l
 induction l with
 |nil=>intro pre acc _ _ h;exact h
 |cons o l ih=>
  intro pre acc hl ha h;refine ih (pre++[o]) (GF acc o) (by simp[hl]) (by simp[GF,ha]) ?_;intro j oj hj hall i hi;unfold GF at hi;rw[jt]at hi;rcases tr j acc.length with hlt|heq|hgt
  ·rw[aq hlt,<-jt]at hi;exact h j oj hj hall i hi
  ·subst heq;rw[ax (bL _),o6]at hi;simp only[z6,rV]at hi;have ho:oj=o:=by
    rw[<-qn,hl,ax (by omega),ha,o6]at hj;simpa using hj.symm
   subst ho;obtain⟨e,he,hb,hi⟩:=RX hi;have he':e∈oj.after:=by simpa using he
   have hel:=hall e he' hb;rcases hi with rfl|hi
   ·exact hel
   ·cases hoe:ops[e.on]? with
    |none=>
     have h1:e.on<acc.length:=by
      rcases dX e.on acc.length with h|h
      ·exact h
      ·rw[jt,cB h]at hi;cases hi
     have h2:ops.size<=e.on:=by simpa using hoe
     have h3:ops.size=pre.length+(l.length+1):=by rw[<-sE,hl];simp
     omega
    |some oe=>exact h e.on oe hoe (closed e.on oe hoe hel) i hi
  ·rw[cB (by simp;omega)]at hi;cases hi
theorem vP{ops:Array Oper}{listed:Array Bool}(closed:∀(j:Nat) oj,ops[j]?=some oj->listed.getD j false=true->∀e∈oj.after,Region.binds .any e=true->listed.getD e.on false=true){j:Nat}(hj:j∈Region.ready .any ops listed){i:Nat}(hi:((OO ops.toList).getD j []).contains i=true):listed.getD i false=true:=by
 obtain⟨_,o,ho,hall⟩:=mem_ready.1 hj;exact Vw closed ops.toList [] [] (by simp) rfl (by simp) j o ho hall i (List.contains_iff_mem.1 hi)
def Sm(dp:List aS)(ops:Array Oper)(n m:Nat)(L:aS):Bool:=
 (decide (n<=m)&&decide (m<ops.size))&&
 (Region.seqB .any ops (ops.size-m) m (Array.replicate m true++Array.replicate (ops.size-m) false)&&
 (((List.range (ops.size-m)).all fun j=>(List.range m).all fun i=>(dp.getD (m+j) []).contains i)&&
 (((List.range (m-n)).all fun j=>(List.range (n+j)).all fun i=>(dp.getD (n+j) []).contains i||L.contains i)&&
 (((List.range m).all fun i=>match ops[i]? with|none=>false|some o=>o.after.all fun e=> !Region.binds .any e||decide (e.on<i))&&
 ((
  (List.range n).all fun i=>match ops[i]? with
  |none=>false
  |some o=>((o.looksAt ops).all fun t=>(List.range n).all fun j=>match ops[j]? with|some oj=> !(oj.dst==some t)||(decide (j<i)&&Region.waitsFor .any ops i j)|none=>true)&&
   (List.range n).all fun j=>j==i||(match ops[j]? with|some oj=> !(oj.dst==o.dst)||o.dst.isNone|none=>true))&&
 ((
  (List.range (m-n)).all fun j=>match ops[n+j]? with
  |none=>false
  |some o=>L.all fun i=>match ops[i]? with
   |none=>false
   |some oi=>(!(oi.dst==o.dst)&& !((oi.looksAt ops).any fun t=>o.dst==some t))&&((dp.getD (n+j) []).contains i|| !((o.looksAt ops).any fun t=>oi.dst==some t)))&&
 L.all fun i=>decide (i<n)&&(match ops[i]? with|some oi=>oi.guard.isNone&&oi.dst.isSome|none=>false)))))))
def J3(ops:Array Oper)(n m:Nat)(L:aS):Bool:=Sm (OO ops.toList) ops n m L
def Step(P:Program)(Γ:sO)(o:Oper)(st vX:St):Prop:=
 ∀κ Θ a w,dH Γ st κ Θ a w->o.wp P a w (fun a' w'=>∃κ' Θ',dH Γ vX κ' Θ' a' w') (fun e _ _=>e=.normal)
def SB(P:Program)(Γ:sO)(X:aS)(K:St->Prop):List Oper->St->Prop
 | [],st=>K st
 |o::os,st=>∃vX,((∃t d,o.dst=some t/\t<Γ.nt/\vX.σ=(t,d)::st.σ)\/(o.dst=none/\vX.σ=st.σ))/\x6 X st.H vX.H/\o.guard=none/\(∀cs b,o.op≠ .select cs b)/\Step P Γ o st vX/\SB P Γ X K os vX
theorem Nu{o:Oper}{a b:Act}{w:World}{K K2:Act->World->Prop}{Q1 Q2:Exit->Act->World->Prop}(hsel:∀cs b,o.op≠ .select cs b)(he:∀x∈o.op.operands,a.eval x=b.eval x)
 (hK:∀v w',K (b.put o.dst v) w'->K2 (a.put o.dst v) w') (hdf:∀d w',¬K ({b with defers:=d::b.defers}.put o.dst undef) w') (hQ:∀e c w',Q1 e c w'->e=.normal) (h:o.wp P b w K Q1):o.wp P a w K2 Q2:=by
 unfold Oper.wp at*;rw[execOp_congr o hsel he];generalize(execOp b.eval o).run P w=r at*;cases r with
 |ok n w'=>
  cases n with
  |value v=>exact hK _ _ h
  |skip=>exact hK _ _ h
  |defer d=>exact absurd h (hdf _ _)
  |enter f args=>
   refine Calls.mono h ?_;intro e w'' he;cases e with
   |returned v=>exact hK _ _ he
   |panicked c=>exact absurd (hQ _ _ _ he) (by simp)
   |outgrown=>
    obtain⟨a0,w0,hq⟩:=he;exact absurd (hQ _ _ _ hq) (by simp)
  |row r args=>exact Rows.mono h fun v w'' he=>hK _ _ he
  |_=>exact h.elim
 |halt x w'=>
  cases x with
  |panic u=>exact absurd (hQ _ _ _ h) (by simp)
  |_=>exact h.elim
theorem Zn{l:List (Nat×D)}{σ:List (Nat×D)}(h:∀p∈l,p.2=.any){t:Nat}(ht:t∈l.map Prod.fst):lk (l++σ) t=.any:=by
 induction l with
 |nil=>cases ht
 |cons p l ih=>
  obtain⟨u,d⟩:=p;have hd:d=.any:=h (u,d) (by simp);subst hd;simp only[oo,lk];by_cases e:t=u
  ·rw[bN e]
  ·rw[b9 e];refine ih (fun p hp=>h p (by simp[hp])) ?_;simp only[bC,bH]at ht;rcases ht with h|h
   ·exact absurd h e
   ·exact h
theorem F4(a:Act){t u:Nat}(v:Value)(h:u≠t):(a.put (some t) v).tmps.getD u undef=a.tmps.getD u undef:=by
 show(a.tmps.setIfInBounds t v).getD u undef=_;simp[bw,pV h]
theorem GZ(a:Act){t:Nat}(v:Value)(h:t<a.tmps.size):(a.put (some t) v).tmps.getD t undef=v:=by
 show(a.tmps.setIfInBounds t v).getD t undef=_;simp[bw,h]
theorem count_set{m i:Nat}{listed:Array Bool}(hi:i<m)(hsz:i<listed.size)(hl:listed.getD i false=false):((List.range m).filter fun j=> !(listed.setIfInBounds i true).getD j false).length+1=((List.range m).filter fun j=> !listed.getD j false).length:=by
 have RD:((List.range m).filter fun j=> !(listed.setIfInBounds i true).getD j false)=((List.range m).filter fun j=> !listed.getD j false).erase i:=by
  have hnd:((List.range m).filter fun j=> !listed.getD j false).Nodup:=vC _ z7;rw[hnd.erase_eq_filter,wu];apply yG;intro j _;by_cases e:j=i
  ·subst e;simp[hsz]
  ·rw[getD_set_ne false (pV e)];simp[e]
 have hmem:i∈(List.range m).filter fun j=> !listed.getD j false:=gF.2 ⟨bV.2 hi,by simp only[hl];rfl⟩
 have hpos:0<((List.range m).filter fun j=> !listed.getD j false).length:=zo hmem;rw[RD,oQ hmem];omega
def SU(P:Program)(Γ:sO)(X:aS)(l:List Oper)(σF:List (Nat×D))(H0:bP)(i:Nat):Prop:=
 ∃o t d,l.toArray[i]?=some o/\o.guard=none/\o.dst=some t/\t<Γ.nt/\lk σF t=d/\∀σ' H',x6 X H0 H'->(∀u∈o.looksAt l.toArray,lk σ' u=lk σF u)->pv P ⟨σ',H'⟩ o.op=some d
theorem Mv{l:List Oper}{n m:Nat}{L:aS}{σF:List (Nat×D)}{H0:bP}(hB:J3 l.toArray n m L=true)(Xi:∀i∈L,SU P Γ X l σF H0 i):
 ∀(f c:Nat) (S:St) (listed:Array Bool) (σ':List (Nat×D)) (κ:Nat->Option Value) (Θ:Nat->Nat) (a:Act) (w:World),HeadInv .any l.toArray l.toArray.size listed->
  (∀i,i<n->i∉L->listed.getD i false=true)->n+c<=m->(∀i,n<=i->i<n+c->listed.getD i false=true)->(∀i,n+c<=i->i<l.toArray.size->listed.getD i false=false)->
  ((List.range m).filter fun i=> !listed.getD i false).length=f->
  (∀t,(∀(i:Nat) o,l.toArray[i]?=some o->n<=i->i<n+c->o.dst≠some t)->lk S.σ t=lk σF t)->x6 X H0 S.H->
  SB P Γ X (fun sn=>AO P Γ l.toArray (l.drop m) Q sn) ((l.drop (n+c)).take (m-(n+c))) S->
  (∀t,(∀i∈L,∀o,l.toArray[i]?=some o->listed.getD i false=false->o.dst≠some t)->lk σ' t=lk S.σ t)->
  dH Γ ⟨σ',S.H⟩ κ Θ a w->
  wpAny P .any l.toArray (fun e a' w'=>∃sn κ' Θ',dH Γ sn κ' Θ' a' w'/\Q e sn) (f+(l.toArray.size-m)) listed a w:=by
 simp only[J3,Sm,aY,bK]at hB;obtain⟨⟨hnm,JG⟩,WK,TI,hmid,Sz,T3,TB,hL⟩:=hB;have a3w:∀i,i<m->∃o,l.toArray[i]?=some o/\∀e∈o.after,Region.binds .any e=true->e.on<i:=by
  intro i hi;have:=aj.1 Sz i (bV.2 hi);split at this
  ·cases this
  ·rename_i o ho;refine⟨o,ho,fun e he hb=>?_⟩;have:=tB.1 this e he;simpa[hb]using this
 have CW:∀i∈L,i<n:=by
  intro i hi;have:=aj.1 hL i hi;simp only[aY,bK]at this;exact this.1
 have NE:∀(i:Nat) o,i<n->l.toArray[i]?=some o->∀u∈o.looksAt l.toArray,∀(j:Nat) oj,j<n->l.toArray[j]?=some oj->oj.dst=some u->j<i/\Region.waitsFor .any l.toArray i j=true:=by
  intro i o hi ho u hu j oj hj vQ hd;have:=aj.1 T3 i (bV.2 hi);simp only[ho,aY]at this;have:=aj.1 (aj.1 this.1 u hu) j (bV.2 hj);simpa[vQ,hd]using this
 have GS:∀(j:Nat) o,n<=j->j<m->l.toArray[j]?=some o->∀i∈L,∀oi,l.toArray[i]?=some oi->oi.dst≠o.dst/\(∀u∈oi.looksAt l.toArray,o.dst≠some u)/\(((OO l.toArray.toList).getD j []).contains i=true\/∀u∈o.looksAt l.toArray,oi.dst≠some u):=by
  intro j o E5 hj2 ho i hi oi hoi;have:=aj.1 TB (j-n) (bV.2 (by omega));rw[show n+(j-n)=j from by omega]at this;simp only[ho]at this;have:=aj.1 this i hi;simp only[hoi,aY,o5,mV]at this;obtain⟨⟨h1,h2⟩,h3⟩:=this;refine⟨by simpa using h1,fun u hu he=>?_,h3.imp id fun h u hu he=>?_⟩
  ·have:=List.any_eq_false.1 h2 u hu;simp[he]at this
  ·have:=List.any_eq_false.1 h u hu;simp[he]at this
 intro f
 induction f with
 |zero=>
  intro c S listed σ' κ Θ a w inv hN hc hM hT mr hS hX hA hag hs;have hall:∀i,i<m->listed.getD i false=true:=by
   intro i hi;have h0:=cM mr;cases hl:listed.getD i false with
   |true=>rfl
   |false=>
    have:i∈(List.range m).filter fun i=> !listed.getD i false:=gF.2 ⟨bV.2 hi,by simp only[hl];rfl⟩
    rw[h0]at this;cases this
  have hcm:n+c=m:=by
   rcases dX (n+c) m with h|h
   ·have h1:=hall (n+c) h;rw[hT (n+c) (bL _) (by omega)]at h1;cases h1
   ·omega
  have T7:listed=Array.replicate m true++Array.replicate (l.toArray.size-m) false:=by
   apply Array.ext
   ·rw[inv.size];simp at JG⊢;omega
   ·intro i h1 h2;by_cases hi:i<m
    ·have:=hall i hi;rw[xx (by simpa using hi)];simp[h1]at this;simp[this]
    ·have hi':i<l.toArray.size:=by rw[<-inv.size];exact h1
     have:=hT i (by omega) hi';rw[wm (by simpa using hi)];simp[h1]at this;simp[this]
  rw[cv];rw[hcm,o6,List.take_zero]at hA;have hA:AO P Γ l.toArray (l.drop m) Q S:=hA;have hs2:=dH.same (st:=⟨σ',S.H⟩) (σ':=S.σ) (fun t=>hag t (fun i hi o ho hl=>by rw[hall i (by have:=CW i hi;omega)]at hl;cases hl)) hs;have hwp:=hA κ Θ a w hs2;have hdl:(l.drop m).length=l.toArray.size-m:=by simp
  have:=wpAny_of_seq (md:=.any) (l.drop m) m listed a w (fun j=>by simp[eH]) (by rw[hdl,T7];exact WK) hwp
  rwa[hdl]at this
 |succ f ih=>
  intro c S listed σ' κ Θ a w inv hN hc hM hT mr hS hX hA hag hs;have hun:∃i,i<m/\listed.getD i false=false:=by
   have hne:((List.range m).filter fun i=> !listed.getD i false)≠[]:=by
    intro h0;rw[h0]at mr;simp at mr
   obtain⟨i,hi⟩:=s6 _ hne;obtain⟨h1,h2⟩:=gF.1 hi;exact⟨i,bV.1 h1,by simpa using h2⟩
  have hsz:=inv.size;rw[show f+1+(l.toArray.size-m)=(f+(l.toArray.size-m))+1 from by omega];refine⟨fun h0=>?_,fun i hi=>?_⟩
  ·exfalso;obtain⟨i,⟨hin,O7⟩,hmin⟩:=exists_least (p:=fun i=>i<m/\listed.getD i false=false) hun;obtain⟨o,ho,hed⟩:=a3w i hin;have:i∈Region.ready .any l.toArray listed:=by
    refine mem_ready.2 ⟨getD_in (by rw[hsz];omega) O7,o,ho,fun e he hb=>?_⟩;have:=hed e he hb;cases hl:listed.getD e.on false with
    |true=>rfl
    |false=>have:=hmin e.on ⟨by omega,hl⟩;omega
   rw[h0]at this;cases this
  ·obtain⟨i0,hi0,hl0⟩:=hun;obtain⟨O7,o,ho,hall⟩:=mem_ready.1 hi;have yg:=getD_both O7;have AR:i<l.toArray.size:=(az.1 ho).1;have him:i<m:=by
    rcases dX i m with h|h
    ·exact h
    ·have h1:=aj.1 TI (i-m) (bV.2 (by omega));have h2:=aj.1 h1 i0 (bV.2 hi0);rw[show m+(i-m)=i from by omega]at h2;rw[vP inv.closed hi h2]at hl0;cases hl0
   have RD:=count_set him (by rw[hsz];exact AR) yg;have oZ:∀(j:Nat),(listed.setIfInBounds i true).getD j false=true↔(j=i\/listed.getD j false=true):=by
    intro j;by_cases e:i=j
    ·subst e;have:i<listed.size:=by rw[hsz];exact AR
     simp[this]
    ·rw[getD_set_ne false e];constructor
     ·exact .inr
     ·rintro(rfl|h)
      ·exact absurd rfl e
      ·exact h
   have a5v:∀(j:Nat),(listed.setIfInBounds i true).getD j false=false->j≠i/\listed.getD j false=false:=by
    intro j h;refine⟨fun e=>?_,?_⟩
    ·have:=(oZ j).2 (.inl e);rw[this]at h;cases h
    ·cases h2:listed.getD j false with
     |false=>rfl
     |true=>have:=(oZ j).2 (.inr h2);rw[this]at h;cases h
   rcases dX i n with hin|hin
   ·
    have Xh:i∈L:=by
     by_cases h:i∈L
     ·exact h
     ·rw[hN i hin h]at yg;cases yg
    obtain⟨o',t,d,ho',hg,hd,htn,hdF,hpv⟩:=Xi i Xh;rw[ho]at ho';cases ho';have NG:∀u∈o.looksAt l.toArray,lk σ' u=lk σF u:=by
     intro u hu;rw[hag u,hS u]
     ·intro j oj vQ E5 hj2 he;exact(GS j oj E5 (by omega) vQ i Xh o ho).2.1 u hu he
     ·intro j hj oj vQ hlj he;obtain⟨h1,h2⟩:=NE i o hin ho u hu j oj (CW j hj) vQ he;obtain⟨o2,ho2,e,Ez,hb,hon⟩:=Region.waitsFor_spec h2;rw[ho]at ho2;cases ho2;have:=hall e Ez hb;rw[hon,hlj]at this;cases this
    have hp:=hpv σ' S.H hX NG;obtain⟨v,bs,hrun,hrd,hz⟩:=Cc (st:=⟨σ',S.H⟩) hs hp;refine xu ho (by simp[Region.wanted,hg]) ?_;unfold Oper.wp;rw[hrun,Oper.upon_value,hd];refine ih c S (listed.setIfInBounds i true) ((t,d)::σ') κ Θ _ w (inv.set hi AR) ?_ hc ?_ ?_ (by omega) hS hX hA ?_ (hs.set (st:=⟨σ',S.H⟩) htn hrd hz)
    ·intro j hj hjL;exact(oZ j).2 (.inr (hN j hj hjL))
    ·intro j E5 hj2;exact(oZ j).2 (.inr (hM j E5 hj2))
    ·intro j E5 hj2;rw[getD_set_ne false (by omega)];exact hT j E5 hj2
    ·intro u hu;simp only[lk];by_cases e:u=t
     ·rw[bN e,e,hS t,hdF];intro j oj vQ E5 hj2 he;exact(GS j oj E5 (by omega) vQ i Xh o ho).1 (by rw[hd,he])
     ·rw[b9 e];refine hag u fun j hj oj vQ hlj he=>?_
      by_cases hji:j=i
      ·subst hji;rw[ho]at vQ;cases vQ;rw[hd]at he;cases he;exact e rfl
      ·exact hu j hj oj vQ (by rw[getD_set_ne false (pV hji)];exact hlj) he
   ·
    have hic:i=n+c:=by
     rcases tr i (n+c)with h|h|h
     ·rw[hM i hin h]at yg;cases yg
     ·exact h
     ·have h1:=aj.1 hmid (i-n) (bV.2 (by omega));rw[show n+(i-n)=i from by omega]at h1;have h2:=aj.1 h1 (n+c) (bV.2 h);simp only[mV]at h2;rcases h2 with h2|h2
      ·have:=vP inv.closed hi h2;rw[hT (n+c) (bL _) (by omega)]at this;cases this
      ·have:=CW (n+c) (by simpa using h2);omega
    subst hic;have Sy:(l.drop (n+c)).take (m-(n+c))=o::(l.drop (n+(c+1))).take (m-(n+(c+1))):=by
     have h1:l[n+c]?=some o:=by simpa using ho
     have h2:(n+c)<l.length:=(aE.1 h1).1;have h3:l[n+c]=o:=(aE.1 h1).2;rw[s5 h2,h3,show m-(n+c)=(m-(n+(c+1)))+1 from by omega,sF];rfl
    rw[Sy]at hA;obtain⟨S1,Le,hX1,hgm,hsel,hstep,hA1⟩:=hA;have a4b:∀u,o.dst≠some u->lk S1.σ u=lk S.σ u:=by
     intro u hu;rcases Le with⟨tm,dm,WE,htm,ZN⟩|⟨_,ZN⟩
     ·rw[ZN];simp only[lk];rw[b9 (fun e=>hu (by rw[WE,e]))]
     ·rw[ZN]
    have a1b:∀(b:Act) (v:Value),(b.put o.dst v).tmps.size=b.tmps.size:=by
     intro b v;rcases Le with⟨tm,dm,WE,_,_⟩|⟨WE,_⟩
     ·rw[WE];show(b.tmps.setIfInBounds tm v).size=_;simp
     ·rw[WE];rfl
    have a1a:∀(b:Act) (v:Value),(b.put o.dst v).defers=b.defers:=by
     intro b v;cases o.dst<;>rfl
    have fill:∀k,k<=n->∃(ak:Act) (σk:List (Nat×D)),dH Γ ⟨σk,S.H⟩ κ Θ ak w/\(∀u,(∀j∈L,∀oj,l.toArray[j]?=some oj->listed.getD j false=false->k<=j->oj.dst≠some u)->lk σk u=lk S.σ u)/\
     (∀u,(∀j∈L,∀oj,l.toArray[j]?=some oj->listed.getD j false=false->oj.dst≠some u)->ak.tmps.getD u undef=a.tmps.getD u undef):=by
     intro k
     induction k with
     |zero=>intro _;exact⟨a,σ',hs,fun u hu=>hag u (fun j hj oj vQ hl=>hu j hj oj vQ hl (BW _)),fun _ _=>rfl⟩
     |succ k ihk=>
      intro hk;obtain⟨ak,σk,hsk,Yz,hek⟩:=ihk (by omega);by_cases hkl:k∈L/\listed.getD k false=false
      ·obtain⟨hkL,hkF⟩:=hkl;obtain⟨ok,t,d,hok,hg,hd,htn,hdF,hpv⟩:=Xi k hkL;have NG:∀u∈ok.looksAt l.toArray,lk σk u=lk σF u:=by
        intro u hu;rw[Yz u,hS u]
        ·intro j oj vQ E5 hj2 he;exact(GS j oj E5 (by omega) vQ k hkL ok hok).2.1 u hu he
        ·intro j hj oj vQ hlj hkj he;obtain⟨h1,h2⟩:=NE k ok (by omega) hok u hu j oj (CW j hj) vQ he;omega
       have hp:=hpv σk S.H hX NG;obtain⟨v,bs,hrun,hrd,hz⟩:=Cc (st:=⟨σk,S.H⟩) hsk hp;refine⟨ak.put (some t) v,(t,d)::σk,hsk.set (st:=⟨σk,S.H⟩) htn hrd hz,?_,?_⟩
       ·intro u hu;simp only[lk];by_cases e:u=t
        ·rw[bN e,e,hS t,hdF];intro j oj vQ E5 hj2 he;exact(GS j oj E5 (by omega) vQ k hkL ok hok).1 (by rw[hd,he])
        ·rw[b9 e];refine Yz u fun j hj oj vQ hlj hkj he=>?_
         by_cases hjk:j=k
         ·subst hjk;rw[hok]at vQ;cases vQ;rw[hd]at he;cases he;exact e rfl
         ·exact hu j hj oj vQ hlj (by omega) he
       ·intro u hu;rw[F4 _ _ (fun e=>hu k hkL ok hok hkF (by rw[hd,e])),hek u hu]
      ·refine⟨ak,σk,hsk,fun u hu=>Yz u fun j hj oj vQ hlj hkj=>?_,hek⟩;by_cases hjk:j=k
       ·subst hjk;exact absurd ⟨hj,hlj⟩ hkl
       ·exact hu j hj oj vQ hlj (by omega)
    obtain⟨an,σn,hsn,a48,hen⟩:=fill n (bL _);have hsS:=dH.same (st:=⟨σn,S.H⟩) (σ':=S.σ) (fun u=>a48 u (fun j hj oj vQ _ hnj=>by have:=CW j hj;omega)) hsn;have hwp:=hstep κ Θ an w hsS;refine xu ho (by simp[Region.wanted,hgm]) (Nu (Q2:=_) hsel ?_ ?_ ?_ (fun e _ _ h=>h) hwp)
    ·intro x hx;cases x with
     |tmp u=>
      refine(hen u fun j hj oj vQ hlj he=>?_).symm;have hu:u∈o.looksAt l.toArray:=by
       unfold Oper.looksAt;exact aZ.2 (.inl (bt.2 ⟨.tmp u,by simpa using hx,rfl⟩))
      rcases(GS (n+c) o (by omega) him ho j hj oj vQ).2.2 with h|h
      ·rw[vP inv.closed hi h]at hlj;cases hlj
      ·exact h u hu he
     |const v=>rfl
     |global g=>rfl
     |func f=>rfl
    ·rintro v w' ⟨κ',Θ',hs'⟩;let late:List (Nat×D):=(L.filterMap fun j=>bif listed.getD j false then none else(l.toArray[j]?).bind (·.dst)).map fun u=>(u,D.any)
     have NF:∀u,u∈late.map Prod.fst↔∃j∈L,∃oj,l.toArray[j]?=some oj/\listed.getD j false=false/\oj.dst=some u:=by
      intro u;simp only[late,List.map_map,cJ,bt,Function.comp];constructor
      ·rintro⟨x,⟨j,hj,hx⟩,rfl⟩;cases hl:listed.getD j false with
       |true=>rw[hl]at hx;cases hx
       |false=>
        rw[hl,aW]at hx;cases vQ:l.toArray[j]? with
        |none=>rw[vQ]at hx;cases hx
        |some oj=>rw[vQ]at hx;exact⟨j,hj,oj,vQ,hl,hx⟩
      ·rintro⟨j,hj,oj,vQ,hl,hx⟩;exact⟨u,⟨j,hj,by rw[hl,aW,vQ];exact hx⟩,rfl⟩
     have hs2:dH Γ ⟨late++S1.σ,S1.H⟩ κ' Θ' (a.put o.dst v) w':=by
      refine⟨by rw[a1a];exact hs.defers,by rw[a1b];exact hs.size,hs'.ni,hs'.mw,?_,hs'.ob,hs'.own,hs'.old,hs'.mine,hs'.stays,hs'.qz⟩;intro u;show∃bs,pW w' κ' _ (lk (late++S1.σ) u) bs/\_;by_cases hu:u∈late.map Prod.fst
      ·rw[Zn (fun p hp=>by simp only[late,cJ]at hp;obtain⟨_,_,rfl⟩:=hp;rfl) hu];exact⟨[],.of (.any _),by simp⟩
      ·rw[CY _ _ _ (fun p hp e=>hu (cJ.2 ⟨p,hp,e⟩))];have e1:(a.put o.dst v).tmps.getD u undef=(an.put o.dst v).tmps.getD u undef:=by
        have e0:=(hen u fun j hj oj vQ hlj he=>hu ((NF u).2 ⟨j,hj,oj,vQ,hlj,he⟩)).symm;rcases Le with⟨tm,dm,WE,htm,_⟩|⟨WE,_⟩
        ·rw[WE];by_cases e:u=tm
         ·subst e;rw[GZ _ _ (by rw[hs.size];exact htm),GZ _ _ (by rw[hsn.size];exact htm)]
         ·rw[F4 _ _ e,F4 _ _ e];exact e0
        ·rw[WE];exact e0
       rw[e1];exact hs'.slot u
     refine ih (c+1) S1 (listed.setIfInBounds (n+c) true) (late++S1.σ) κ' Θ' _ w' (inv.set hi AR) ?_ (by omega) ?_ ?_ (by omega) ?_ (hX.trans hX1) hA1 ?_ hs2
     ·intro j hj hjL;exact(oZ j).2 (.inr (hN j hj hjL))
     ·intro j E5 hj2;by_cases e:j=n+c
      ·exact(oZ j).2 (.inl e)
      ·exact(oZ j).2 (.inr (hM j E5 (by omega)))
     ·intro j E5 hj2;rw[getD_set_ne false (by omega)];exact hT j (by omega) hj2
     ·intro u hu;rw[a4b u (hu (n+c) o ho (by omega) (by omega))];exact hS u fun j oj vQ E5 hj2=>hu j oj vQ E5 (by omega)
     ·intro u hu;rw[CY];intro p hp e;obtain⟨j,hj,oj,vQ,hl,he⟩:=(NF u).1 (cJ.2 ⟨p,hp,e⟩);refine hu j hj oj vQ ?_ he;rw[getD_set_ne false (by have:=CW j hj;omega)];exact hl
    ·rintro d w' ⟨κ',Θ',hs'⟩;have:=hs'.defers;cases hod:o.dst<;>rw[hod]at this<;>cases this
theorem I4{p:Nat->Bool}{n:Nat}:∀(k:Nat),(∀i,n<=i->i<n+k->p i=true)->((List.range (n+k)).filter p).length=((List.range n).filter p).length+k
 |0,_=>rfl
 |k+1,h=>by
  rw[<-n8,List.range_succ,List.filter_append,av,I4 k (fun i h1 h2=>h i h1 (by omega))];have:p (n+k)=true:=h (n+k) (by omega) (by omega);simp[this];omega
def KV(P:Program)(Γ:sO)(ops:Array Oper)(Q:Exit->St->Prop)(st:St):Prop:=
 ∀κ Θ a w,dH Γ st κ Θ a w->wpAny P .any ops (fun e a' w'=>∃sn κ' Θ',dH Γ sn κ' Θ' a' w'/\Q e sn) ops.size (Array.replicate ops.size false) a w
theorem KV.aw{id:Nat}{ops:Array Oper}(hm:P.follows .mixedOrders=true)(h:KV P Γ ops Q st):AW P Γ (.region id ops true) Q st:=
 fun κ Θ a w hs=>wp_region_any hm (h κ Θ a w.drew hs.drew)
theorem Qz{l:List Oper}(n m:Nat)(L:aS)(hB0:J3 l.toArray n m L=true)
 (h:Ho P Γ l.toArray st.H (fun σ acc=>(∀i∈L,∀o,l[i]?=some o->AY X ⟨σ,st.H⟩ o.op=true)/\SB P Γ X (fun sn=>AO P Γ l.toArray (l.drop m) Q sn) ((l.drop n).take (m-n)) ⟨σ,st.H++acc⟩) (l.take n) st.σ [] []):KV P Γ l.toArray Q st:=by
 have hB:=hB0;simp only[J3,Sm,aY,bK]at hB;obtain⟨⟨hnm,JG⟩,WK,TI,hmid,Sz,T3,TB,hL⟩:=hB;have hn:n<l.toArray.size:=by omega
 have Hu:((List.range n).all fun i=>match l.toArray[i]? with
  |none=>false
  |some o=>(o.after.all fun e=> !Region.binds .any e||decide (e.on<i))&&
   ((o.looksAt l.toArray).all fun t=>(List.range n).all fun j=>match l.toArray[j]? with|some oj=> !(oj.dst==some t)||(decide (j<i)&&Region.waitsFor .any l.toArray i j)|none=>true)&&
   (List.range n).all fun j=>j==i||(match l.toArray[j]? with|some oj=> !(oj.dst==o.dst)||o.dst.isNone|none=>true))=true:=by
  rw[aj];intro i hi;have h1:=aj.1 Sz i (bV.2 (by have:=bV.1 hi;omega));have h2:=aj.1 T3 i hi;cases ho:l.toArray[i]? with
  |none=>rw[ho]at h1;cases h1
  |some o=>
   simp only[ho,aY]at h1 h2⊢;exact⟨⟨h1,h2.1⟩,h2.2⟩
 have CW:∀i∈L,i<n:=by
  intro i hi;have:=aj.1 hL i hi;simp only[aY,bK]at this;exact this.1
 obtain⟨ps,IB,hlen,JC,⟨hstill,hK⟩,hFl,hFo,hFu⟩:=Ho.unfold _ _ _ _ h;simp only[dM,bW,wL,cv]at JC hK hFl hFo hstill;have hn':n<l.length:=by simpa using hn
 have hpl:ps.length=n:=by rw[hlen];simp;omega
 have hop:∀(i:Nat),i<n->∃o p,l.toArray[i]?=some o/\ps[i]?=some p/\o.dst=p.t/\rH P Γ l.toArray st.H (((ps.take i).filterMap Cp.sl).reverse++st.σ) o p/\p.r=st.H.length+((ps.take i).flatMap Cp.obs).length:=by
  intro i hi;have h1:l[i]?=some l[i]:=aV (by omega);have h2:ps[i]?=some ps[i]:=aV (by omega);have h3:=JC i l[i] ps[i] (by rw[cG,bN hi];exact h1) h2;exact⟨l[i],ps[i],by simp[ij,h1],h2,h3.1.slots,h3.1,h3.2.1⟩
 have Od:∀(i:Nat) p,ps[i]?=some p->p.r=st.H.length+((ps.take i).flatMap Cp.obs).length:=by
  intro i p hp;have hi:i<n:=by have:=(aE.1 hp).1;omega
  obtain⟨_,p',_,hp',_,_,hr⟩:=hop i hi;rw[hp]at hp';cases hp';exact hr
 have Lh:∀(i:Nat) p id ob,ps[i]?=some p->p.up=some (id,ob)->st.H.length<=id/\(∃zs ds,ob=.box ds/\zs.length=ds.length/\((ps.take i).flatMap Cp.obs)[id-st.H.length]?=some (.box zs))/\∀(i2:Nat) q yz,i2<i->ps[i2]?=some q->q.up≠some (id,yz):=by
  intro i p id ob hp he;have hi:i<n:=by have:=(aE.1 hp).1;omega
  have h1:l[i]?=some l[i]:=aV (by omega);have h3:=(JC i l[i] p (by rw[cG,bN hi];exact h1) hp).2.2 id ob he;exact⟨h3.2.1,h3.2.2.1,h3.2.2.2⟩
 have TL:∀(i j:Nat) p q id ob yz,ps[i]?=some p->ps[j]?=some q->p.up=some (id,ob)->q.up=some (id,yz)->i=j:=by
  intro i j p q id ob yz hp hq he Ez;rcases tr i j with h|h|h
  ·exact absurd he ((Lh j q id yz hq Ez).2.2 i p ob h hp)
  ·exact h
  ·exact absurd Ez ((Lh i p id ob hp he).2.2 j q yz h hq)
 have TM:∀(i:Nat) p id ob,ps[i]?=some p->p.up=some (id,ob)->p.obs=[]:=by
  intro i p id ob hp he;have hi:i<n:=by have:=(aE.1 hp).1;omega
  obtain⟨_,p',_,hp',_,hc,_⟩:=hop i hi;rw[hp]at hp';cases hp';rcases hc.V3 with h|h
  ·rw[h]at he;cases he
  ·exact h
 have hfit:∀(i:Nat) p,ps[i]?=some p->p.r+p.obs.length<=st.H.length+(ps.flatMap Cp.obs).length:=by
  intro i p hp;rw[Od i p hp,oY hp];simp only[av];omega
 have La:∀(i j:Nat) p q,ps[i]?=some p->ps[j]?=some q->i<j->p.r+p.obs.length<=q.r:=by
  intro i j p q hp hq hij;rw[Od i p hp,Od j q hq];have:=Ky hp hij;omega
 have hdist:∀(i j:Nat) p q t,ps[i]?=some p->ps[j]?=some q->p.t=some t->q.t=some t->i=j:=by
  intro i j p q t hp hq he1 Ez;have hi:i<n:=by have:=(aE.1 hp).1;omega
  have hj:j<n:=by have:=(aE.1 hq).1;omega
  obtain⟨oi,p',ho,hp',hdi,_⟩:=hop i hi;obtain⟨oj,q',vQ,KH,hdj,_⟩:=hop j hj;rw[hp]at hp';cases hp';rw[hq]at KH;cases KH;have:=aj.1 Hu i (bV.2 hi);simp only[ho,aY]at this;have:=aj.1 this.2 j (bV.2 hj);simp only[vQ,hdi,hdj,he1,Ez,rW,bn,qe,Option.isNone_some,qe,cQ]at this;exact this.symm
 have CQ:∀(i:Nat) p t,ps[i]?=some p->p.t=some t->∀q∈ps.filterMap Cp.sl,q.1=t->q=(t,p.d):=by
  intro i p t hp hpt q hq he;obtain⟨q',KH,HV⟩:=bt.1 hq;obtain⟨j,hj,rfl⟩:=dl.1 KH;have FD:ps[j]?=some ps[j]:=aV hj;unfold Cp.sl at HV;cases WI:ps[j].t with
  |none=>rw[WI]at HV;cases HV
  |some u=>
   rw[WI]at HV;simp only[cI,ah]at HV;subst HV;simp only at he;subst he;have:=hdist j i _ p u FD hp WI hpt;subst this;rw[hp]at FD;cases FD;rfl
 have hlk:∀(i:Nat) (o:Oper),i<n->l.toArray[i]?=some o->∀t∈o.looksAt l.toArray,lk (((ps.take i).filterMap Cp.sl).reverse++st.σ) t=lk ((ps.filterMap Cp.sl).reverse++st.σ) t:=by
  intro i o hin ho t ht;have GI:=aj.1 Hu i (bV.2 hin);simp only[ho,aY]at GI;have GI:=aj.1 GI.1.2 t ht;by_cases hex:∃(j:Nat) (q:Cp),ps[j]?=some q/\q.t=some t
  ·obtain⟨j,q,hq,IM⟩:=hex;have hj:j<n:=by have:=(aE.1 hq).1;omega
   obtain⟨oj,q',vQ,KH,hdj,_⟩:=hop j hj;rw[hq]at KH;cases KH;have:=aj.1 GI j (bV.2 hj);simp only[vQ,hdj,IM,rW,bn,qd,aY,bK]at this;obtain⟨hji,_⟩:=this;rw[F1 (ps.filterMap Cp.sl).reverse st.σ (t,q.d) (by rw[dJ];exact bt.2 ⟨q,aD hq,by simp[Cp.sl,IM]⟩) (fun q2 FD Ez=>CQ j q t hq IM q2 (by simpa using FD) Ez)];refine F1 ((ps.take i).filterMap Cp.sl).reverse st.σ (t,q.d) ?_ (fun q2 FD Ez=>CQ j q t hq IM q2 ?_ Ez)
   ·rw[dJ];exact bt.2 ⟨q,aD (i:=j) (by rw[cG,bN hji];exact hq),by simp[Cp.sl,IM]⟩
   ·obtain⟨q3,Oe,vR⟩:=bt.1 (dJ.1 FD);exact bt.2 ⟨q3,cD Oe,vR⟩
  ·have hno:∀q3∈ps,q3.t≠some t:=by
    intro q3 Oe he;obtain⟨j,hj,hqj⟩:=dl.1 Oe;exact hex ⟨j,q3,by rw[<-hqj];exact aV hj,he⟩
   have hsl:∀(qs:List Cp),(∀q3∈qs,q3.t≠some t)->∀p∈(qs.filterMap Cp.sl).reverse,p.1≠t:=by
    intro qs HV p hp he;obtain⟨q3,Oe,vR⟩:=bt.1 (dJ.1 hp);unfold Cp.sl at vR;cases hpt:q3.t with
    |none=>rw[hpt]at vR;cases vR
    |some u=>rw[hpt]at vR;simp only[cI,ah]at vR;subst vR;simp only at he;exact HV q3 Oe (by rw[hpt,he])
   rw[CY _ _ _ (hsl _ hno),CY _ _ _ (hsl _ (fun q3 Oe=>hno q3 (cD Oe)))]
 have Xr:∀i∈L,∃(o:Oper) (p:Cp),l.toArray[i]?=some o/\ps[i]?=some p/\p.obs=[]/\p.up=none/\SU P Γ X l ((ps.filterMap Cp.sl).reverse++st.σ) st.H i:=by
  intro i hi;have hin:=CW i hi;have h1:=aj.1 hL i hi;obtain⟨o,p,ho,hp,hd,hc,_⟩:=hop i hin;simp only[ho,aY]at h1;have hg:o.guard=none:=by simpa using h1.2.1
  have hst:=hstill i hi o (by simpa using ho);rcases hc with⟨t,hpt,QE,hdt,htn,hc⟩|⟨_,_,hdt,_⟩
  ·have hc:FJ P st.H (((ps.take i).filterMap Cp.sl).reverse++st.σ) o p:=by
    rcases hc with⟨_,hc⟩|⟨_,_,_,_,hg',_⟩|⟨_,_,_,hg',_⟩
    ·exact hc
    ·rw[hg]at hg';cases hg'
    ·rw[hg]at hg';cases hg'
   have hpv:pv P ⟨((ps.take i).filterMap Cp.sl).reverse++st.σ,st.H⟩ o.op=some p.d/\p.obs=[]:=by
    rcases hc with(hc|⟨f,xs,ts,ds,ms,d,OY,_⟩)| (⟨T,zs,OY,_⟩|⟨T,x,ds,OY,_⟩)|⟨T,e,sz,len,parts,zs,ds,es,OY,_⟩|⟨T,e,sz,len,parts,zs,ds,OY,_⟩
    ·exact hc
    all_goals(rw[OY]at hst;simp[AY]at hst)
   refine⟨o,p,ho,hp,hpv.2,QE,o,t,p.d,ho,hg,hdt,htn,?_,?_⟩
   ·exact F1 (ps.filterMap Cp.sl).reverse st.σ (t,p.d) (by rw[dJ];exact bt.2 ⟨p,aD hp,by simp[Cp.sl,hpt]⟩) (fun q2 FD Ez=>CQ i p t hp hpt q2 (by simpa using FD) Ez)
   ·intro σ' H' hX NG;have e1:pv P ⟨(ps.filterMap Cp.sl).reverse++st.σ,st.H⟩ o.op=some p.d:=MA (fun _ _ h=>h) (J4 (st:=⟨_,st.H⟩) (sn:=⟨_,st.H⟩) (ops:=l.toArray) (o:=o) (fun t ht=>hlk i o hin ho t ht)) hpv.1;refine Uu hX hst ?_ e1;intro x hx;rw[Mx σ' H' st.H x];exact(J4 (st:=⟨σ',st.H⟩) (sn:=⟨_,st.H⟩) (ops:=l.toArray) (o:=o) (fun t ht=>NG t ht) x hx).symm
  ·have:o.dst.isSome=true:=h1.2.2;rw[hdt]at this;cases this
 intro κ Θ a w hs;have switch:∀(f:Nat) (listed:Array Bool) (σ':List (Nat×D)) (H':bP) (κ:Nat->Option Value) (Θ:Nat->Nat) (a:Act) (w:World),HeadInv .any l.toArray n listed->
  ((List.range n).filter fun i=> !listed.getD i false).length=f->
  (∀(i:Nat) p t,ps[i]?=some p->p.t=some t->listed.getD i false=true->lk σ' t=p.d)->
  (∀t,(∀(i:Nat) p,ps[i]?=some p->listed.getD i false=true->p.t≠some t)->lk σ' t=lk st.σ t)->
  H'.length=st.H.length+(ps.flatMap Cp.obs).length->Ext st.H H'->
  (∀(i:Nat) p,ps[i]?=some p->listed.getD i false=true->∀(j:Nat) o,p.obs[j]?=some o->(∀(i2:Nat) q ob,ps[i2]?=some q->listed.getD i2 false=true->q.up≠some (p.r+j,ob))->H'[p.r+j]?=some o)->
  (∀(i:Nat) q id ob,ps[i]?=some q->listed.getD i false=true->q.up=some (id,ob)->H'[id]?=some ob/\∃v,κ id=some v)->
  (∀(i:Nat) p,ps[i]?=some p->listed.getD i false=false->∀j,j<p.obs.length->κ (p.r+j)=none)->
  dH Γ ⟨σ',H'⟩ κ Θ a w->(∀i,i<n->i∉L->listed.getD i false=true)->
  wpAny P .any l.toArray (fun e a' w'=>∃sn κ' Θ',dH Γ sn κ' Θ' a' w'/\Q e sn) (f+(l.toArray.size-n)) listed a w:=by
  intro f listed σ' H' κ Θ a w inv mr hA hB Xd S6 QA VJ Q9 hs hN;have Xf:∀(i:Nat) p,ps[i]?=some p->(p.up≠none\/p.obs≠[])->listed.getD i false=true:=by
   intro i p hp hne;have hi:i<n:=by have:=(aE.1 hp).1;omega
   refine hN i hi fun Xh=>?_
   obtain⟨_,p',_,hp',h1,h2,_⟩:=Xr i Xh;rw[hp]at hp';cases hp';rcases hne with h|h
   ·exact h h2
   ·exact h h1
  have HS:∀t,(∀i∈L,∀o,l.toArray[i]?=some o->listed.getD i false=false->o.dst≠some t)->lk σ' t=lk ((ps.filterMap Cp.sl).reverse++st.σ) t:=by
   intro t hno;by_cases hex:∃(i:Nat) (p:Cp),ps[i]?=some p/\p.t=some t
   ·obtain⟨i,p,hp,hpt⟩:=hex;have hi:i<n:=by have:=(aE.1 hp).1;omega
    have hli:listed.getD i false=true:=by
     cases hl:listed.getD i false with
     |true=>rfl
     |false=>
      obtain⟨o,p',ho,hp',hd,_⟩:=hop i hi;rw[hp]at hp';cases hp';by_cases Xh:i∈L
      ·exact absurd (by rw[hd,hpt]) (hno i Xh o ho hl)
      ·rw[hN i hi Xh]at hl;cases hl
    rw[hA i p t hp hpt hli];exact(F1 (ps.filterMap Cp.sl).reverse st.σ (t,p.d) (by rw[dJ];exact bt.2 ⟨p,aD hp,by simp[Cp.sl,hpt]⟩) (fun q hq he=>CQ i p t hp hpt q (by simpa using hq) he)).symm
   ·rw[hB t (fun i p hp _ he=>hex ⟨i,p,hp,he⟩),CY];intro q hq he;obtain⟨p,hp,hps⟩:=bt.1 (dJ.1 hq);obtain⟨i,hi,hpi⟩:=dl.1 hp;refine hex ⟨i,p,by rw[<-hpi];exact aV hi,?_⟩;unfold Cp.sl at hps;cases hpt:p.t with
    |none=>rw[hpt]at hps;cases hps
    |some u=>rw[hpt]at hps;simp only[cI,ah]at hps;subst hps;simp only at he;rw[he]
  have Su:H'=st.H++IB:=by
   apply mI;intro k;by_cases h1:k<st.H.length
   ·rw[aq h1];exact S6 k _ (aV h1)|>.trans (aV h1).symm
   ·rw[ax (by omega)];by_cases hex:∃(i:Nat) (q:Cp) (ob:Ob),ps[i]?=some q/\q.up=some (k,ob)
    ·obtain⟨i,q,ob,hq,he⟩:=hex;rw[(VJ i q k ob hq (Xf i q hq (.inl (by rw[he];simp))) he).1,hFu i q k ob hq he]
    ·have hno:∀(i:Nat) q ob,ps[i]?=some q->q.up≠some (k,ob):=fun i q ob hq he=>hex ⟨i,q,ob,hq,he⟩
     rw[hFo (k-st.H.length) (fun i q ob hq=>by rw[show st.H.length+(k-st.H.length)=k from by omega];exact hno i q ob hq)];by_cases h2:k-st.H.length<(ps.flatMap Cp.obs).length
     ·obtain⟨i,p,j,hp,hj,hk⟩:=wT h2;have e3:p.r+j=k:=by rw[Od i p hp];omega
      have h3:=QA i p hp (Xf i p hp (.inr (by intro e;rw[e]at hj;simp at hj))) j _ (aV hj) (fun i2 q ob hq _=>by rw[e3];exact hno i2 q ob hq);rw[e3]at h3;rw[h3,oY hp,hk,ax (by omega),cq,aq hj,aV hj]
     ·rw[cB (by omega),cB (by omega)]
  subst Su;have hsz:=inv.size;have hcm:((List.range m).filter fun i=> !listed.getD i false).length=f+(m-n):=by
   have:=I4 (p:=fun i=> !listed.getD i false) (n:=n) (m-n) (fun i h1 h2=>by
    have:=getD_both (inv.tail i h1 (by omega));simp only[this];rfl)
   rw[show n+(m-n)=m from by omega]at this;rw[this,mr]
  have:=Mv (Q:=Q) (H0:=st.H) hB0 (fun i hi=>by obtain⟨_,_,_,_,_,_,h⟩:=Xr i hi;exact h) (f+(m-n)) 0 ⟨(ps.filterMap Cp.sl).reverse++st.σ,st.H++IB⟩ listed σ' κ Θ a w
   ⟨hsz,inv.closed,fun t h1 h2=>absurd h2 (by omega)⟩ hN (by omega) (fun i h1 h2=>absurd h2 (by omega)) (fun i h1 h2=>getD_both (inv.tail i (by omega) h2)) hcm (fun _ _=>rfl)
   ((x6.refl _).app _) (by simpa using hK) HS hs
  rw[show f+(m-n)+(l.toArray.size-m)=f+(l.toArray.size-n)from by omega]at this;exact this
 have main:∀(f:Nat) (listed:Array Bool) (σ':List (Nat×D)) (H':bP) (κ:Nat->Option Value) (Θ:Nat->Nat) (a:Act) (w:World),HeadInv .any l.toArray n listed->
  ((List.range n).filter fun i=> !listed.getD i false).length=f->
  (∀(i:Nat) p t,ps[i]?=some p->p.t=some t->listed.getD i false=true->lk σ' t=p.d)->
  (∀t,(∀(i:Nat) p,ps[i]?=some p->listed.getD i false=true->p.t≠some t)->lk σ' t=lk st.σ t)->
  H'.length=st.H.length+(ps.flatMap Cp.obs).length->Ext st.H H'->
  (∀(i:Nat) p,ps[i]?=some p->listed.getD i false=true->∀(j:Nat) o,p.obs[j]?=some o->(∀(i2:Nat) q ob,ps[i2]?=some q->listed.getD i2 false=true->q.up≠some (p.r+j,ob))->H'[p.r+j]?=some o)->
  (∀(i:Nat) q id ob,ps[i]?=some q->listed.getD i false=true->q.up=some (id,ob)->H'[id]?=some ob/\∃v,κ id=some v)->
  (∀(i:Nat) p,ps[i]?=some p->listed.getD i false=false->∀j,j<p.obs.length->κ (p.r+j)=none)->
  dH Γ ⟨σ',H'⟩ κ Θ a w->
  wpAny P .any l.toArray (fun e a' w'=>∃sn κ' Θ',dH Γ sn κ' Θ' a' w'/\Q e sn) (f+(l.toArray.size-n)) listed a w:=by
  intro f
  induction f with
  |zero=>
   intro listed σ' H' κ Θ a w inv mr hA hB Xd S6 QA VJ Q9 hs;have hall:∀i,i<n->listed.getD i false=true:=by
    intro i hi;have h0:=cM mr;cases hl:listed.getD i false with
    |true=>rfl
    |false=>
     have:i∈(List.range n).filter fun i=> !listed.getD i false:=gF.2 ⟨bV.2 hi,by simp[hl]⟩
     rw[h0]at this;cases this
   exact switch 0 listed σ' H' κ Θ a w inv mr hA hB Xd S6 QA VJ Q9 hs (fun i hi _=>hall i hi)
  |succ f ih=>
   intro listed σ' H' κ Θ a w inv mr hA hB Xd S6 QA VJ Q9 hs;by_cases hsw:∀i,i<n->i∉L->listed.getD i false=true
   ·exact switch (f+1) listed σ' H' κ Θ a w inv mr hA hB Xd S6 QA VJ Q9 hs hsw
   have a4w:∃i,i<n/\i∉L/\listed.getD i false=false:=by
    obtain⟨i,hi⟩:=Classical.not_forall.1 hsw;refine⟨i,?_⟩;by_cases h1:i<n
    ·by_cases h2:i∈L
     ·exact absurd (fun _ h=>absurd h2 h) hi
     ·refine⟨h1,h2,?_⟩;cases hl:listed.getD i false with
      |false=>rfl
      |true=>exact absurd (fun _ _=>hl) hi
    ·exact absurd (fun h=>absurd h h1) hi
   have hun:∃i,i<n/\listed.getD i false=false:=by
    have hne:((List.range n).filter fun i=> !listed.getD i false)≠[]:=by
     intro h0;rw[h0]at mr;simp at mr
    obtain⟨i,hi⟩:=s6 _ hne;obtain⟨h1,h2⟩:=gF.1 hi;exact⟨i,bV.1 h1,by simpa using h2⟩
   have hsz:=inv.size;rw[show f+1+(l.toArray.size-n)=(f+(l.toArray.size-n))+1 from by omega];refine⟨fun h0=>?_,fun i hi=>?_⟩
   ·exfalso;obtain⟨i,⟨hin,O7⟩,hmin⟩:=exists_least (p:=fun i=>i<n/\listed.getD i false=false) hun;obtain⟨o,p,ho,_,_,_⟩:=hop i hin;have:i∈Region.ready .any l.toArray listed:=by
     refine mem_ready.2 ⟨getD_in (by rw[hsz];omega) O7,o,ho,fun e he hb=>?_⟩;have:=aj.1 Hu i (bV.2 hin);simp only[ho,aY]at this;have:=tB.1 this.1.1 e he;simp only[hb,bn,qd,bK]at this;cases hl:listed.getD e.on false with
     |true=>rfl
     |false=>
      have:=hmin e.on ⟨by omega,hl⟩;omega
    rw[h0]at this;cases this
   ·obtain⟨i0,hi0,hl0⟩:=hun;have hin:i<n:=by
     rcases dX i n with h|h
     ·exact h
     ·obtain⟨i1,hi1,a4U,hl1⟩:=a4w;obtain⟨_,oi,hoi,_⟩:=mem_ready.1 hi;have AR:i<l.toArray.size:=(az.1 hoi).1;exfalso;rcases dX i m with hm1|hm1
      ·have h1:=aj.1 hmid (i-n) (bV.2 (by omega));have h2:=aj.1 h1 i1 (bV.2 (by omega));rw[show n+(i-n)=i from by omega]at h2;simp only[mV]at h2;rcases h2 with h2|h2
       ·rw[vP inv.closed hi h2]at hl1;cases hl1
       ·exact a4U (by simpa using h2)
      ·have h1:=aj.1 TI (i-m) (bV.2 (by omega));have h2:=aj.1 h1 i1 (bV.2 (by omega));rw[show m+(i-m)=i from by omega]at h2;rw[vP inv.closed hi h2]at hl1;cases hl1
    obtain⟨o,p,ho,hp,hd,hc,_⟩:=hop i hin;obtain⟨O7,o',ho',hall⟩:=mem_ready.1 hi;rw[ho]at ho';cases ho';have yg:=getD_both O7;have WC:rH P Γ l.toArray st.H σ' o p:=by
     refine rH.congr (σ:=((ps.take i).filterMap Cp.sl).reverse++st.σ) (σ':=σ') ?_ hc;intro t ht;have GI:=aj.1 Hu i (bV.2 hin);simp only[ho,aY]at GI;have GI:=aj.1 GI.1.2 t ht;by_cases hex:∃(j:Nat) (q:Cp),ps[j]?=some q/\q.t=some t
     ·obtain⟨j,q,hq,IM⟩:=hex;have hj:j<n:=by have:=(aE.1 hq).1;omega
      obtain⟨oj,q',vQ,KH,hdj,_⟩:=hop j hj;rw[hq]at KH;cases KH;have:=aj.1 GI j (bV.2 hj);simp only[vQ,hdj,IM,rW,bn,qd,aY,bK]at this;obtain⟨hji,TO⟩:=this;obtain⟨oi',TE,e,he,hb,hon⟩:=Region.waitsFor_spec TO;rw[ho]at TE;cases TE;have hjl:=hall e he hb;rw[hon]at hjl;rw[hA j q t hq IM hjl];refine F1 ((ps.take i).filterMap Cp.sl).reverse st.σ (t,q.d) ?_ (fun q2 FD Ez=>CQ j q t hq IM q2 ?_ Ez)
      ·rw[dJ];exact bt.2 ⟨q,aD (i:=j) (by rw[cG,bN hji];exact hq),by simp[Cp.sl,IM]⟩
      ·obtain⟨q3,Oe,vR⟩:=bt.1 (dJ.1 FD);exact bt.2 ⟨q3,cD Oe,vR⟩
     ·rw[hB t (fun j q hq _ he=>hex ⟨j,q,hq,he⟩),CY];intro q hq he;obtain⟨q3,Oe,vR⟩:=bt.1 (dJ.1 hq);obtain⟨j,hj,hqj⟩:=dl.1 (cD Oe);refine hex ⟨j,q3,by rw[<-hqj];exact aV hj,?_⟩;unfold Cp.sl at vR;cases hpt:q3.t with
      |none=>rw[hpt]at vR;cases vR
      |some u=>rw[hpt]at vR;simp only[cI,ah]at vR;subst vR;simp only at he;rw[he]
    have hfp:=hfit i p hp;have T5:∀id ob,p.up=some (id,ob)->∃v,κ id=some v:=by
     intro id ob he;rcases WC with⟨_,_,h,_⟩|⟨_,_,_,_,T,x,y,id',ds,OY,hx',_,_,_,_,QE⟩
     ·rw[h]at he;cases he
     ·rw[QE]at he;cases he;obtain⟨b1,r1,_⟩:=hs.ev x;rw[Mx σ' H' st.H x,hx']at r1;obtain⟨g,hk,_⟩:=r1.wV;exact⟨_,hk⟩
    have TJ:∀id ob,p.up=some (id,ob)->∃zs ds,H'[id]?=some (.box zs)/\ob=.box ds/\zs.length=ds.length:=by
     intro id ob he;obtain⟨u1,⟨zs,ds,u2,u3,u4⟩,_⟩:=Lh i p id ob hp he;refine⟨zs,ds,?_,u2,u3⟩;obtain⟨i1,p1,j1,hp1,E5,hk1⟩:=wT (aE.1 u4).1;have Oa:ps[i1]?=some p1:=by
      have:=(aE.1 hp1).1;rw[cG]at hp1;split at hp1
      ·exact hp1
      ·cases hp1
     have hi1:i1<i:=by have:=(aE.1 hp1).1;simp at this;omega
     have et:(ps.take i).take i1=ps.take i1:=by rw[rF,eg (by omega)]
     rw[et]at hk1;have e1:p1.r+j1=id:=by rw[Od i1 p1 Oa];omega
     have yQ:p1.obs[j1]?=some (.box zs):=by
      rw[oY hp1,et,hk1,ax (by omega),cq,aq E5]at u4;exact u4
     have hl1:listed.getD i1 false=true:=by
      cases hl:listed.getD i1 false with
      |true=>rfl
      |false=>
       have h0:=Q9 i1 p1 Oa hl j1 E5;rw[e1]at h0;obtain⟨v,hv⟩:=T5 id ob he;rw[h0]at hv;cases hv
     have:=QA i1 p1 Oa hl1 j1 _ yQ (fun i2 q yz hq hl Ez=>by
      rw[e1]at Ez;have:=TL i i2 p q id ob yz hp hq he Ez;subst this;rw[yg]at hl;cases hl)
     rw[e1]at this;exact this
    refine WC.wp hs S6 ho (by omega) (fun j hj=>Q9 i p hp yg j hj) TJ fun κ' Θ' a' w' hs' hsame=>?_
    have oZ:∀(j:Nat),(listed.setIfInBounds i true).getD j false=true↔(j=i\/listed.getD j false=true):=by
     intro j;by_cases e:i=j
     ·subst e;have:i<listed.size:=by rw[hsz];omega
      simp[this]
     ·rw[getD_set_ne false e];constructor
      ·exact .inr
      ·rintro(rfl|h)
       ·exact absurd rfl e
       ·exact h
    have hput:(p.ym H').length=H'.length:=by
     unfold Cp.ym;split
     ·simp
     ·exact rq (by omega)
    have ZA:∀(k:Nat),k<st.H.length->(p.ym H')[k]?=H'[k]?:=by
     intro k hk;unfold Cp.ym;split
     ·rename_i id ob he;have:=(Lh i p id ob hp he).1;rw[bu (by omega)]
     ·rw[rp (by omega),bN (by rw[Od i p hp];omega)]
    refine ih (listed.setIfInBounds i true) (p.slot σ') (p.ym H') κ' Θ' a' w' (inv.set hi hin) ?_ ?_ ?_ (by rw[hput];exact Xd) ?_ ?_ ?_ ?_ hs'
    ·have RD:((List.range n).filter fun j=> !(listed.setIfInBounds i true).getD j false)=((List.range n).filter fun j=> !listed.getD j false).erase i:=by
      have hnd:((List.range n).filter fun j=> !listed.getD j false).Nodup:=vC _ z7;rw[hnd.erase_eq_filter,wu];apply yG;intro j _;by_cases e:j=i
      ·subst e;have:=(oZ j).2 (.inl rfl);rw[this];simp
      ·rw[getD_set_ne false (pV e)];simp[e]
     rw[RD,oQ (gF.2 ⟨bV.2 hin,by simp[yg]⟩),mr];rfl
    ·intro j q t hq IM hl;unfold Cp.slot;rcases(oZ j).1 hl with rfl|AS
     ·rw[hp]at hq;cases hq;rw[IM];simp[lk]
     ·cases hpt:p.t with
      |none=>exact hA j q t hq IM AS
      |some u=>
       simp only[lk];rw[b9,hA j q t hq IM AS];intro e;have:=hdist j i q p t hq hp IM (by rw[hpt,e]);subst this;rw[yg]at AS;cases AS
    ·intro t ht;unfold Cp.slot;have qc:=hB t (fun j q hq hl=>ht j q hq ((oZ j).2 (.inr hl)));cases hpt:p.t with
     |none=>exact qc
     |some u=>
      simp only[lk];rw[b9 (fun e=>ht i p hp ((oZ i).2 (.inl rfl)) (by rw[hpt,e]))];exact qc
    ·intro j y hj;rw[ZA j (aE.1 hj).1];exact S6 j y hj
    ·intro j q hq hl k y hy hno;have hkl:=(aE.1 hy).1;unfold Cp.ym;split
     ·rename_i id ob he;have hne:q.r+k≠id:=fun e=>hno i p ob hp ((oZ i).2 (.inl rfl)) (by rw[e];exact he)
      rw[bu (pV hne)];rcases(oZ j).1 hl with rfl|AS
      ·rw[hp]at hq;cases hq;rw[TM j p id ob hp he]at hy;simp at hy
      ·exact QA j q hq AS k y hy (fun i2 q2 yz FD Z8=>hno i2 q2 yz FD ((oZ i2).2 (.inr Z8)))
     ·rw[rp (by omega)];rcases(oZ j).1 hl with rfl|AS
      ·rw[hp]at hq;cases hq;rw[b9 (by omega),bN (by omega),cq];exact hy
      ·have hne:j≠i:=fun e=>by subst e;rw[yg]at AS;cases AS
       have h3:=QA j q hq AS k y hy (fun i2 q2 yz FD Z8=>hno i2 q2 yz FD ((oZ i2).2 (.inr Z8)));rcases tC hne with h|h
       ·have:=La j i q p hq hp h;rw[bN (by omega)];exact h3
       ·have:=La i j p q hp hq h;rw[b9 (by omega),b9 (by omega)];exact h3
    ·intro j q id ob hq hl he;rcases(oZ j).1 hl with rfl|AS
     ·rw[hp]at hq;cases hq;obtain⟨zs,ds,z1,_⟩:=TJ id ob he;have hlt:=(aE.1 z1).1;refine⟨by simp only[Cp.ym,he];rw[dD hlt],?_⟩;obtain⟨v,hv⟩:=T5 id ob he;refine⟨v,?_⟩;rw[hsame id (by rw[TM j p id ob hp he];simp;omega)];exact hv
     ·obtain⟨h1,v,hv⟩:=VJ j q id ob hq AS he;have hout:id<p.r\/p.r+p.obs.length<=id:=by
       rcases dX id p.r with h|h
       ·exact .inl h
       ·rcases dX id (p.r+p.obs.length)with h2|h2
        ·have:=Q9 i p hp yg (id-p.r) (by omega);rw[show p.r+(id-p.r)=id from by omega,hv]at this;cases this
        ·exact .inr h2
      refine⟨?_,v,by rw[hsame id hout];exact hv⟩;unfold Cp.ym;split
      ·rename_i id2 yz Ez;have hne:id2≠id:=fun e=>by
        subst e;have:=TL i j p q id2 yz ob hp hq Ez he;subst this;rw[yg]at AS;cases AS
       rw[bu hne];exact h1
      ·rw[rp (by omega)];rcases hout with h|h
       ·rw[bN h];exact h1
       ·rw[b9 (by omega),b9 (by omega)];exact h1
    ·intro j q hq hl k hk;have hne:j≠i:=fun e=>by
      subst e;have:=(oZ j).2 (.inl rfl);rw[this]at hl;cases hl
     have AS:listed.getD j false=false:=by
      cases h:listed.getD j false with
      |false=>rfl
      |true=>have:=(oZ j).2 (.inr h);rw[this]at hl;cases hl
     have h3:=Q9 j q hq AS k hk;rw[hsame,h3];rcases tC hne with h|h
     ·have:=La j i q p hq hp h;omega
     ·have:=La i j p q hp hq h;omega
 have Zg:HeadInv .any l.toArray n (Array.replicate l.toArray.size false):=
  ⟨by simp,fun j oj _ hl=>(by rw[getD_replicate_false]at hl;cases hl),fun t _ ht=>getD_in (by simpa using ht) (getD_replicate_false _ _)⟩
 have mr:((List.range n).filter fun i=> !(Array.replicate l.toArray.size false).getD i false).length=n:=by
  rw[List.filter_eq_self.2]
  ·simp
  ·intro i _;rw[getD_replicate_false];rfl
 have:=main n (Array.replicate l.toArray.size false) st.σ (st.H++List.replicate (ps.flatMap Cp.obs).length .gone) κ Θ a w Zg mr (fun i p t _ _ hl=>by rw[getD_replicate_false]at hl;cases hl) (fun t _=>rfl)
  (by simp) (fun i o h=>by rw[aq (aE.1 h).1];exact h) (fun i p _ hl=>by rw[getD_replicate_false]at hl;cases hl)
  (fun i q id ob _ hl=>by rw[getD_replicate_false]at hl;cases hl)
  (fun i p hp _ j _=>hs.ni _ (by rw[Od i p hp];omega)) (hs.room _)
 rw[show n+(l.toArray.size-n)=l.toArray.size from by omega]at this;exact this
def I1(X:aS)(st:St)(op:Op)(A:eT):Bool:=match op with
 | .buildSlice _ _ _=>true
 | .build _ _=>true
 | .extract _ _=>true
 | .field _ _ _=>true
 | .move _=>true
 | .indexAddr _ x _=>(JS st (st.ev x)).isNone
 | .load _ x=>(Lx st (st.ev x)).isNone&&(match st.ev x,A with| .op id _ _ _,.tk _::_=>X.contains id|_,_=>true)
 | .store _ x _=>(match st.ev x with| .ptr id _=>X.contains id|_=>false)
 | .call c=>(match c.callee,A with
  | .builtin .append,_=>true
  | .value (.func _),.d _::_=>true
  | .value (.func _),.gf _ _::_=>true
  | .value (.func _),.gp _ _ _::_=>(match c.args.toList with|x::_=>(match st.ev x with| .ptr id _=>X.contains id|_=>false)| []=>false)
  |_,_=>false)
 |_=>false
def NB(X:aS)(H H':bP):Bool:=(List.range H.length).all fun i=>X.contains i||(match H[i]? with|some .gone=>true|_=>(match H'[i]? with|some .gone=>false|_=>true))
def JY(P:Program)(nt:Nat)(X:aS):List Oper->St->eT->Option (St×eT×Ad)
 | [],st,A=>some (st,A,[])
 |o::rest,st,A=>match o.guard,I1 X st o.op A with
  |none,true=>(match EC P nt o st A with
   |some (vX,A1,p)=>(match NB X st.H vX.H,JY P nt X rest vX A1 with|true,some (Jr,A2,q)=>some (Jr,A2,p++q)|_,_=>none)
   |none=>none)
  |_,_=>none
theorem NN{H:bP}{ms:aS}{i:Nat}(h:i∈ms)(hl:i<H.length):(kill H ms)[i]?=some .gone:=by
 induction ms generalizing H with
 |nil=>cases h
 |cons m ms ih=>
  show(kill (H.set m .gone) ms)[i]?=_;by_cases hi:i∈ms
  ·exact ih hi (by simpa using hl)
  ·rw[fW hi];rcases bH.1 h with rfl|h
   ·rw[dD hl]
   ·exact absurd h hi
theorem Q8{X:aS}{H H':bP}(h:NB X H H'=true){i:Nat}{o:Ob}(hi:i∉X)(ho:H[i]?=some o)(hg:H'[i]?=some .gone):o=.gone:=by
 have h1:=aj.1 h i (bV.2 (aE.1 ho).1);rw[ho,hg,List.contains_eq_mem,bG hi,qd]at h1;cases o<;>first|rfl|cases h1
theorem JO{X:aS}{H:bP}{ms:aS}{n:bP}(h:NB X H (kill H ms++n)=true):x6 X H (kill H ms++n):=by
 intro i o hi ho;have hl:=(aE.1 ho).1;have e:(kill H ms++n)[i]?=(kill H ms)[i]?:=aq (by rw[fH];exact hl);by_cases hm:i∈ms
 ·have e2:=e.trans (NN hm hl);rw[e2,Q8 h hi ho e2]
 ·rw[e,fW hm,ho]
theorem RR{X:aS}{H:bP}{ms:aS}{n:bP}{id:Nat}{b:Ob}(hid:id∈X)(h:NB X H ((kill H ms).set id b++n)=true):x6 X H ((kill H ms).set id b++n):=by
 intro i o hi ho;have hne:id≠i:=fun e=>hi (e▸hid)
 have hl:=(aE.1 ho).1;have e:((kill H ms).set id b++n)[i]?=(kill H ms)[i]?:=by
  rw[aq (by rw[nj,fH];exact hl),bu hne]
 by_cases hm:i∈ms
 ·have e2:=e.trans (NN hm hl);rw[e2,Q8 h hi ho e2]
 ·rw[e,fW hm,ho]
theorem Ur{X:aS}{nt:Nat}{o:Oper}{A A1:eT}{vX:St}{p:Ad}(hk:I1 X st o.op A=true)(hgn:NB X st.H vX.H=true)(h:EC P nt o st A=some (vX,A1,p)):((∃t d,o.dst=some t/\t<nt/\vX.σ=(t,d)::st.σ)\/(o.dst=none/\vX.σ=st.σ))/\x6 X st.H vX.H:=by
 have plain:∀ {t:Nat},o.dst=some t->(if t<nt then match Dt P st o.op A with|some (d,A,ow)=>some ((⟨(t,d)::st.σ,st.H⟩:St),A,ow)|none=>none else none)=some (vX,A1,p)->((∃t d,o.dst=some t/\t<nt/\vX.σ=(t,d)::st.σ)\/(o.dst=none/\vX.σ=st.σ))/\x6 X st.H vX.H:=by
  intro t hd h;split at h
  ·rename_i ht;split at h
   ·cases h;exact⟨.inl ⟨t,_,hd,ht,rfl⟩,x6.refl _⟩
   ·cases h
  ·cases h
 unfold EC at h;split at h
 case h_3=>
  rename_i T x y hop hd;rw[hop]at hk;simp only[I1]at hk;split at h
  ·rename_i id off ds h1 h2;rw[h1]at hk;split at h
   ·split at h
    ·split at h
     ·cases h;refine⟨.inr ⟨hd,rfl⟩,fun i cs hi hcs=>?_⟩;have hne:id≠i:=fun e=>hi (by subst e;simpa using hk)
      show(st.H.set id _)[i]?=_;rw[bu hne,hcs]
     ·cases h
    ·cases h
   ·cases h
  ·rename_i id i sz off ds h1 h2;rw[h1]at hk;cases hk
  ·cases h
 case h_7=>
  rename_i T len parts t hop hd;split at h
  ·split at h
   ·split at h
    ·split at h
     ·rename_i es ms hab;split at h
      ·rename_i hc;cases h;exact⟨.inl ⟨t,_,hd,hc.1,rfl⟩,JO hgn⟩
      ·cases h
     ·cases h
    ·cases h
   ·cases h
  ·cases h
 case h_8=>
  rename_i c t hop hd;rw[hop]at hk;simp only[I1]at hk;split at h
  ·split at h
   ·split at h
    ·rename_i rows u1 k1 fI u2 k2 A' ow _ hS hX;split at h
     ·rename_i hc;cases h;exact⟨.inl ⟨t,_,hd,hc.1,rfl⟩,JO hgn⟩
     ·cases h
    ·cases h
   ·cases h
  ·rename_i Z3 _ _;rw[Z3]at hk;cases hk
  ·rename_i f Z3;rw[Z3]at hk;split at hk
   ·rename_i hb;cases hb
   ·rename_i f' d A' hb;split at h
    ·rename_i hA;cases hA
    ·rename_i hA;cases hA
    ·rename_i hA;cases hA
    ·rename_i hA;cases hA
    ·rename_i hA;cases hA
    ·rename_i hA;cases hA
    ·rename_i ds ms d' A'' hv hA;split at h
     ·rename_i hc;cases h;exact⟨.inl ⟨t,_,hd,hc.1,rfl⟩,(x6.refl _).app _⟩
     ·cases h
    ·rename_i hA;cases hA
    ·rename_i hA;cases hA
    ·cases h
   ·rename_i f' nz d A' hb;generalize Du st.H (List.map st.ev c.args.toList)=q at h;rcases q with _|⟨qa,qb⟩
    all_goals
     dsimp only at h;split at h
     ·rename_i ds ms qs h9;split at h
      ·rename_i hc;cases h;exact⟨.inl ⟨t,_,hd,hc.1,rfl⟩,JO hgn⟩
      ·cases h
     ·cases h
   ·rename_i f' nz cells' d A' hb;generalize Du st.H (List.map st.ev c.args.toList)=q at h;rcases q with _|⟨qa,qb⟩
    all_goals
     dsimp only at h;split at h
     ·rename_i x0 xr h5;rw[h5]at hk;split at h
      ·rename_i id h6;simp only[h6]at hk;split at h
       ·rename_i ob h7;split at h
        ·rename_i Gy h8;split at h
         ·rename_i cells ds ms qs h9;split at h
          ·rename_i hc;cases h;exact⟨.inl ⟨t,_,hd,hc.1,rfl⟩,RR (by simpa using hk) hgn⟩
          ·cases h
         ·cases h
        ·cases h
       ·cases h
      ·cases h
     ·cases h
   ·cases hk
  ·exact plain hd h
 case h_13=>
  rename_i T x i t hop hd;rw[hop]at hk;simp only[I1]at hk;split at h
  ·rename_i hl;rw[hl]at hk;cases hk
  ·exact plain hd h
 case h_14=>
  rename_i T x t hop hd;rw[hop]at hk;simp only[I1]at hk;split at h
  ·rename_i hl;rw[hl]at hk;cases hk
  ·rw[aY]at hk
   replace hk:=hk.2
   split at h
   ·rename_i r A' id i sz h1;split at h
    ·rename_i n e sz' rows h2;split at h
     ·rename_i hc;cases h;refine⟨.inl ⟨t,_,hd,hc.1,rfl⟩,x6.app (fun j cs hj hcs=>?_) _⟩;have hne:id≠j:=fun e=>hj (by subst e;rw[h1]at hk;simpa using hk)
      rw[bu hne];exact hcs
     ·cases h
    ·cases h
   ·exact plain hd h
 all_goals first
  | (rename_i hop _;rw[hop]at hk;simp[I1]at hk;done)
  | (rename_i hop;rw[hop]at hk;simp[I1]at hk;done)
  |skip
 all_goals first
  |exact plain (by assumption) h
  |cases h
theorem Step.of{nt:Nat}(hnt:Γ.nt=nt){o:Oper}{A A1:eT}{vX:St}{p:Ad}(hg:o.guard=none)(hsel:∀cs b,o.op≠ .select cs b)(h:EC P nt o st A=some (vX,A1,p))(hp:vf p):Step P Γ o st vX:=by
 intro κ Θ a w hs;have h1:=LM (P:=P) (Γ:=Γ) (all:= #[]) (rest:=[]) (Q:=fun e s=>e=.normal/\s=vX) hnt hg h hp (Yi ⟨rfl,rfl⟩) κ Θ a w hs;have hw:Region.wanted o (yielded #[] a.tmps)=true:=by simp[Region.wanted,hg]
 simp only[wpList,hw,oc]at h1;rcases h1 with h1|⟨_,a0,w0,sn,κ',Θ',_,hq,_⟩
 ·refine Nu hsel (fun _ _=>rfl) ?_ ?_ ?_ h1
  ·rintro v w' ⟨sn,κ',Θ',hs',_,rfl⟩;exact⟨κ',Θ',hs'⟩
  ·rintro d w' ⟨sn,κ',Θ',hs',_,rfl⟩;have:=hs'.defers;cases hod:o.dst<;>rw[hod]at this<;>cases this
  ·rintro e c w' ⟨sn,κ',Θ',hs',rfl,_⟩;rfl
 ·cases hq
theorem M2{X:aS}{nt:Nat}(hnt:Γ.nt=nt){K:St->Prop}{Jr:St}{A2:eT}:∀ {ops:List Oper} {st:St} {A:eT} {p:Ad},JY P nt X ops st A=some (Jr,A2,p)->vf p->K Jr->SB P Γ X K ops st:=by
 intro ops
 induction ops with
 |nil=>intro st A p h hp hK;simp only[JY,ah,cK]at h;obtain⟨rfl,_,_⟩:=h;exact hK
 |cons o os ih=>
  intro st A p h hp hK;simp only[JY]at h;split at h
  ·rename_i hg hok;split at h
   ·rename_i vX A1 p1 h1;split at h
    ·rename_i XF A2' q hgn h2;cases h;obtain⟨hp1,hq⟩:=hp.app;obtain⟨hd,hX⟩:=Ur hok hgn h1;have hsel:∀cs b,o.op≠ .select cs b:=by
      intro cs b e;rw[e]at hok;cases hok
     exact⟨vX,hd.imp (fun⟨t,d,hd,ht,hσ⟩=>⟨t,d,hd,by rw[hnt];exact ht,hσ⟩) id,hX,hg,hsel,Step.of hnt hg hsel h1 hp1,ih h2 hq hK⟩
    ·cases h
   ·cases h
  ·cases h
def Ut(X:aS)(st:St)(ops:List Oper)(L:aS):Bool:=L.all fun i=>match ops[i]? with|some o=>AY X st o.op|none=>false
theorem Rr{X:aS}{st:St}{ops:List Oper}{L:aS}(h:Ut X st ops L=true):∀i∈L,∀o,ops[i]?=some o->AY X st o.op=true:=by
 intro i hi o ho;have:=aj.1 h i hi;rw[ho]at this;exact this
def zh(ρ:aS)(o:Oper):Oper:= {o with after:=o.after.map fun e=> {e with on:=ρ.getD e.on 0},guard:=o.guard.map fun g=>(ρ.getD g.1 0,g.2)}
def sx(ops:Array Oper)(π ρ:aS):List Oper:=π.filterMap fun i=>(ops[i]?).map (zh ρ)
def I2(ops:Array Oper)(π ρ:aS):Bool:=
 decide (π.length=ops.size)&&(decide (ρ.length=ops.size)&&
 (((List.range ops.size).all fun i=>(match ρ[i]? with|some k=>π[k]?==some i|none=>false))&&
 (((List.range ops.size).all fun k=>(match π[k]? with|some i=>ρ[i]?==some k|none=>false))&&
 (ops.toList.all fun o=>(o.after.all fun e=>decide (e.on<ops.size))&&(match o.guard with|some g=>decide (g.1<ops.size)|none=>true)))))
theorem J5(ρ:aS)(o:Oper)(f:Operand->Value):execOp f (zh ρ o)=execOp f o:=by
 cases o;rfl
theorem VA(ρ:aS){o:Oper}{K:Act->World->Prop}{Q:Exit->Act->World->Prop}(h:(zh ρ o).wp P a w K Q):o.wp P a w K Q:=by
 unfold Oper.wp at*;rw[J5]at h;exact h
theorem OG(ρ:aS){o:Oper}(h:(zh ρ o).asks P a w):o.asks P a w:=by
 unfold Oper.asks at*;rw[J5]at h;exact h
section
variable{ops:Array Oper}{π ρ:aS}
theorem Ji(hB:I2 ops π ρ=true){k i:Nat}{o:Oper}(hk:π[k]?=some i)(ho:ops[i]?=some o):(sx ops π ρ).toArray[k]?=some (zh ρ o):=by
 simp only[I2,aY,bK]at hB;obtain⟨h1,h2,h3,h4,h5⟩:=hB;have hall:∀x∈π,∃o,ops[x]?=some o:=by
  intro x hx;obtain⟨j,hj,rfl⟩:=dl.1 hx;have:=aj.1 h4 j (bV.2 (by omega));rw[aV hj]at this;simp only[cQ]at this;have:=(aE.1 this).1;exact⟨_,cE (by omega)⟩
 have key:∀(l:aS) (k:Nat),(∀x∈l,∃o,ops[x]?=some o)->l[k]?=some i->(l.filterMap fun i=>(ops[i]?).map (zh ρ))[k]?=some (zh ρ o):=by
  intro l
  induction l with
  |nil=>intro k _ h;simp at h
  |cons x l ih=>
   intro k hl h;obtain⟨ox,OZ⟩:=hl x (by simp);rw[w8];simp only[OZ,cI];cases k with
   |zero=>simp at h;subst h;rw[ho]at OZ;cases OZ;rfl
   |succ k=>simpa using ih k (fun y hy=>hl y (by simp[hy])) (by simpa using h)
 have:=key π k hall hk;simpa[sx]using this
theorem Nc(hB:I2 ops π ρ=true):(sx ops π ρ).toArray.size=ops.size:=by
 have hB':=hB;simp only[I2,aY,bK]at hB;obtain⟨h1,h2,h3,h4,h5⟩:=hB;have hall:∀x∈π,∃o,ops[x]?=some o:=by
  intro x hx;obtain⟨j,hj,rfl⟩:=dl.1 hx;have:=aj.1 h4 j (bV.2 (by omega));rw[aV hj]at this;simp only[cQ]at this;have:=(aE.1 this).1;exact⟨_,cE (by omega)⟩
 have key:∀(l:aS),(∀x∈l,∃o,ops[x]?=some o)->(l.filterMap fun i=>(ops[i]?).map (zh ρ)).length=l.length:=by
  intro l
  induction l with
  |nil=>intro _;rfl
  |cons x l ih=>
   intro hl;obtain⟨ox,OZ⟩:=hl x (by simp);rw[w8];simp only[OZ,cI,aT,ih (fun y hy=>hl y (by simp[hy]))]
 rw[tq,sx,key π hall,h1]
theorem UB{Q':Exit->Act->World->Prop}(hB:I2 ops π ρ=true):∀(fuel:Nat) (listed listed':Array Bool) (a:Act) (w:World),listed.size=ops.size->listed'.size=ops.size->(∀(k i:Nat),π[k]?=some i->listed'.getD k false=listed.getD i false)->
 wpAny P .any (sx ops π ρ).toArray Q' fuel listed' a w->wpAny P .any ops Q' fuel listed a w:=by
 have hB':=hB;simp only[I2,aY,bK]at hB';obtain⟨h1,h2,h3,h4,h5⟩:=hB';have to:∀i,i<ops.size->∃k,ρ[i]?=some k/\π[k]?=some i/\k<ops.size:=by
  intro i hi;have:=aj.1 h3 i (bV.2 hi);split at this
  ·rename_i k hk;simp only[cQ]at this;exact⟨k,hk,this,by have:=(aE.1 this).1;omega⟩
  ·cases this
 have back:∀k,k<ops.size->∃i,π[k]?=some i/\ρ[i]?=some k/\i<ops.size:=by
  intro k hk;have:=aj.1 h4 k (bV.2 hk);split at this
  ·rename_i i hi;simp only[cQ]at this;exact⟨i,hi,this,by have:=(aE.1 this).1;omega⟩
  ·cases this
 have rin:∀(i:Nat) o,ops[i]?=some o->(∀e∈o.after,e.on<ops.size)/\∀g,o.guard=some g->g.1<ops.size:=by
  intro i o ho;have hm:o∈ops.toList:=by rw[<-qn]at ho;exact aD ho
  have:=aj.1 h5 o hm;simp only[aY]at this;refine⟨fun e he=>by simpa using tB.1 this.1 e he,fun g hg=>?_⟩;have:=this.2;rw[hg]at this;simpa using this
 have rd:∀(listed listed':Array Bool),listed.size=ops.size->listed'.size=ops.size->(∀(k i:Nat),π[k]?=some i->listed'.getD k false=listed.getD i false)->∀(k i:Nat),π[k]?=some i->(i∈Region.ready .any ops listed↔k∈Region.ready .any (sx ops π ρ).toArray listed'):=by
  intro listed listed' hs1 hs2 S8 k i hki;have hk:k<ops.size:=by have:=(aE.1 hki).1;omega
  obtain⟨i',hi',hr,hilt⟩:=back k hk;rw[hki]at hi';cases hi';have ho:ops[i]?=some ops[i]:=cE hilt;have ho':=Ji hB hki ho;have hon:∀e∈ops[i].after,listed'.getD (ρ.getD e.on 0) false=listed.getD e.on false:=by
   intro e he;obtain⟨k2,hk2,hk3,_⟩:=to e.on ((rin i _ ho).1 e he);rw[jt,hk2,rV];exact S8 k2 e.on hk3
  rw[mem_ready,mem_ready];constructor
  ·rintro⟨q1,o,q2,q3⟩;rw[ho]at q2;cases q2;refine⟨getD_in (by omega) (by rw[S8 k i hki];exact getD_both q1),_,ho',?_⟩;intro e he hb;simp only[zh,Array.mem_map]at he;obtain⟨e0,he0,rfl⟩:=he;simp only;rw[hon e0 he0];exact q3 e0 he0 hb
  ·rintro⟨q1,o,q2,q3⟩;rw[ho']at q2;cases q2;refine⟨getD_in (by omega) (by rw[<-S8 k i hki];exact getD_both q1),_,ho,?_⟩;intro e he hb;rw[<-hon e he];exact q3 {e with on:=ρ.getD e.on 0} (by simp only[zh,Array.mem_map];exact⟨e,he,rfl⟩) hb
 have lt:∀ {listed:Array Bool} {ops:Array Oper} {i:Nat},i∈Region.ready .any ops listed->i<ops.size:=by
  intro listed ops i hi;obtain⟨_,o,ho,_⟩:=mem_ready.1 hi;exact(az.1 ho).1
 have Xs:∀(listed listed':Array Bool),listed.size=ops.size->listed'.size=ops.size->(∀(k i:Nat),π[k]?=some i->listed'.getD k false=listed.getD i false)->(Region.ready .any ops listed=[]↔Region.ready .any (sx ops π ρ).toArray listed'=[]):=by
  intro listed listed' hs1 hs2 S8;constructor
  ·intro h;rw[ug];intro k hk;obtain⟨i,hi,_⟩:=back k (by have:=lt hk;rw[Nc hB]at this;exact this);have:=(rd listed listed' hs1 hs2 S8 k i hi).2 hk;rw[h]at this;cases this
  ·intro h;rw[ug];intro i hi;obtain⟨k,_,hk,_⟩:=to i (lt hi);have:=(rd listed listed' hs1 hs2 S8 k i hk).1 hi;rw[h]at this;cases this
 intro fuel
 induction fuel with
 |zero=>
  intro listed listed' a w hs1 hs2 S8 h;exact⟨(Xs listed listed' hs1 hs2 S8).2 h.1,h.2⟩
 |succ fuel ih=>
  intro listed listed' a w hs1 hs2 S8 h;refine⟨fun h0=>h.1 ((Xs listed listed' hs1 hs2 S8).1 h0),fun i hi=>?_⟩;have hilt:=lt hi;obtain⟨k,hrk,hk,a74⟩:=to i hilt;have hkr:=(rd listed listed' hs1 hs2 S8 k i hk).1 hi;have ho:ops[i]?=some ops[i]:=cE hilt;have ho':=Ji hB hk ho;have h2:=wpOp_mono (K':=wpAny P .any ops Q' fuel (listed.setIfInBounds i true)) (fun a' w' h'=>ih (listed.setIfInBounds i true) (listed'.setIfInBounds k true) a' w' (by simpa using hs1) (by simpa using hs2) (by
   intro k2 i2 T4;by_cases e:k=k2
   ·subst e;rw[hk]at T4;cases T4;have g1:k<listed'.size:=by omega
    have g2:i<listed.size:=by omega
    simp[g1,g2]
   ·have e2:i≠i2:=by
     intro e3;subst e3;obtain⟨i',hi',hr',_⟩:=back k2 (by have:=(aE.1 T4).1;omega);rw[T4]at hi';cases hi';rw[hrk]at hr';cases hr';exact e rfl
    rw[getD_set_ne false e,getD_set_ne false e2];exact S8 k2 i2 T4) h') (h.2 k hkr)
  have hw:Region.wanted (zh ρ ops[i]) (yielded (sx ops π ρ).toArray a.tmps)=Region.wanted ops[i] (yielded ops a.tmps):=by
   cases hg:ops[i].guard with
   |none=>simp[Region.wanted,zh,hg]
   |some g=>
    obtain⟨j,want⟩:=g;have hj:=(rin i _ ho).2 _ hg;obtain⟨k3,a4m,hk3,_⟩:=to j hj;have vQ:ops[j]?=some ops[j]:=cE hj;have a4h:=Ji hB hk3 vQ;have:yielded (sx ops π ρ).toArray a.tmps (ρ.getD j 0)=yielded ops a.tmps j:=by
     rw[jt,a4m,rV];unfold yielded;rw[a4h,vQ];rfl
    simp only[Region.wanted,zh,hg,cI];rw[this]
  unfold wpOp at h2⊢;simp only[ho',ho]at h2⊢;rw[hw]at h2;split
  ·rename_i TP;rw[bN TP]at h2;exact h2.imp (VA ρ) fun⟨q1,q2⟩=>⟨OG ρ q1,q2⟩
  ·rename_i TP;rw[b9 TP]at h2;exact h2
theorem KV.perm(hB:I2 ops π ρ=true)(h:KV P Γ (sx ops π ρ).toArray Q st):KV P Γ ops Q st:=by
 intro κ Θ a w hs;have:=h κ Θ a w hs;rw[Nc hB]at this;refine UB hB ops.size (Array.replicate ops.size false) (Array.replicate ops.size false) a w (by simp) (by simp) (fun k i _=>?_) this;rw[getD_replicate_false,getD_replicate_false]
end
end
end Go.Cx
namespace Go.Cx
open Go.RowKit
def vp(P:Program)(nt:Nat)(all:Array Oper):List Oper->St->eT->Option (St×eT×Ad)
 | [],st,A=>(match shares A st with| (vX,A1)=>some (vX,A1,[]))
 |o::rest,st,A=>match o.guard with
  |none=>(match EC P nt o st A with
   |some (vX,A1,p)=>(match vp P nt all rest vX A1 with|some (Jr,A2,q)=>some (Jr,A2,p++q)|none=>none)
   |none=>none)
  |some (j,want)=>(match(all[j]?).bind (·.dst),A with
   |some s,.b v::A=>(match lk st.σ s with
    | .bool b=>(match v==want with
     |true=>(match EC P nt {o with guard:=none} st A with
      |some (vX,A1,p)=>(match vp P nt all rest vX A1 with|some (Jr,A2,q)=>some (Jr,A2,(b=v)::(p++q))|none=>none)
      |none=>none)
     |false=>(match o.dst with
      |some t=>(if t<nt then match vp P nt all rest ⟨(t,.iK [])::st.σ,st.H⟩ A with|some (Jr,A2,q)=>some (Jr,A2,(b=v)::q)|none=>none else none)
      |none=>(match vp P nt all rest st A with|some (Jr,A2,q)=>some (Jr,A2,(b=v)::q)|none=>none)))
    | .iK []=>(match o.dst with
     |some t=>(if t<nt then vp P nt all rest ⟨(t,.iK [])::st.σ,st.H⟩ A else none)
     |none=>vp P nt all rest st A)
    |_=>none)
   |_,_=>none)
def Ps(P:Program)(H:bP)(r:Nat)(σ:List (Nat×D))(o:Oper)(A:eT):Option (D×bP×eT×Ad):=match o.op with
 | .call c=>(match c.callee with
  | .value (.func f)=>(match Du H (c.args.toList.map (St.ev ⟨σ,H⟩)),A with
   |some (ds,ms),.d d::A=>(if ms=[]\/d.Jf=true then some ((mi r d).1,(mi r d).2,A,[Good P f ds d])else none)
   |some (ds,ms),.ds d::A=>(if d.Zs=true/\d.Jf=true then some (d.Un,[],A,[Good P f ds d])else none)
   |_,.nl d::A=>(if(c.args.toList.map (St.ev ⟨σ,H⟩)).all Hy=true then some ((mi r d).1,(mi r d).2,A,[Good P f (c.args.toList.map (St.ev ⟨σ,H⟩)) d])else none)
   |_,_=>none)
  |_=>(match Dt P ⟨σ,H⟩ o.op A with|some (d,A,ow)=>some (d,[],A,ow)|none=>none))
 | .alloc T=>(match tz P T with|some zs=>some (.ptr r 0,[.box zs],A,[])|none=>none)
 | .box _ x=>(match(St.ev ⟨σ,H⟩ x).cellsOf with|some ds=>some (.ptr r 0,[.box ds],A,[])|none=>none)
 | .buildSlice T len parts=>(match D2 P T with
  |some (e,sz)=>(match tz P e with
   |some zs=>(match vU (qm len sz) (List.replicate len zs).flatten (parts.toList.map fun q=>(q.1,St.ev ⟨σ,H⟩ q.2))with
    |some ds=>(match A with
     | .vw _::A=>(if 0<sz/\len*sz<=16777216/\ds.all D.MW=true/\ds.all D.flat=true then some (.sl (chunk sz len ds),[],A,[])else none)
     |A=>(match Gw H ds with
      |some (es,ms)=>(if 0<sz/\len*sz<=16777216/\ms=[]then some (.acc r,[.row (wW (ds.all (Ql H))) e sz (chunk sz len es)],A,[])else none)
      |none=>none))
    |none=>none)
   |none=>none)
  |none=>none)
 |_=>(match Dt P ⟨σ,H⟩ o.op A with|some (d,A,ow)=>some (d,[],A,ow)|none=>none)
def v8(P:Program)(nt:Nat)(all:Array Oper)(H:bP):List Oper->List (Nat×D)->bP->aS->eT->Option (List (Nat×D)×bP×eT×Ad)
 | [],σ,acc,_,A=>some (σ,acc,A,[])
 |o::rest,σ,acc,U,A=>match o.dst with
  |none=>(match o.op,o.guard with
   | .store T x y,none=>(match St.ev ⟨σ,H⟩ x,(St.ev ⟨σ,H⟩ y).cellsOf with
    | .ptr id off,some ds=>(match acc[id-H.length]? with
     |some (.box zs)=>(if off=0/\H.length<=id/\id∉U/\MP P T=true/\ds.length=wk P T/\zs.length=ds.length then v8 P nt all H rest σ (acc.set (id-H.length) (.box ds)) (id::U) A else none)
     |_=>none)
    |_,_=>none)
   |_,_=>none)
  |some t=>(if t<nt then match o.guard with
   |none=>(match Ps P H (H.length+acc.length) σ o A with
    |some (d,obs,A1,p)=>(match v8 P nt all H rest ((t,d)::σ) (acc++obs) U A1 with|some (σ2,Mh,A2,q)=>some (σ2,Mh,A2,p++q)|none=>none)
    |none=>none)
   |some (j,want)=>(match(all[j]?).bind (·.dst),A with
    |some s,.b v::A=>(match lk σ s with
     | .bool b=>(match v==want with
      |true=>(match Ps P H (H.length+acc.length) σ o A with
       |some (d,obs,A1,p)=>(match v8 P nt all H rest ((t,d)::σ) (acc++obs) U A1 with|some (σ2,Mh,A2,q)=>some (σ2,Mh,A2,(b=v)::(p++q))|none=>none)
       |none=>none)
      |false=>(match v8 P nt all H rest ((t,.iK [])::σ) acc U A with|some (σ2,Mh,A2,q)=>some (σ2,Mh,A2,(b=v)::q)|none=>none))
     | .iK []=>v8 P nt all H rest ((t,.iK [])::σ) acc U A
     |_=>none)
    |_,_=>none)
   else none)
inductive Fr where
 |sq (c:Code)
 |bl (id:Nat)
 |lp
def depth:List Fr->Nat
 | []=>0
 | .lp::K=>depth K+1
 |_::K=>depth K
inductive Cfg where
 |run (c:Code)
 |U5
 |ex (id:Nat)
inductive Stop where
 |ret (d:D)
 |lp (c:Code) (K:List Fr) (st:St)
 |cont (k:Nat) (st:St)
 |at_ (c:Code) (K:List Fr) (st:St)
def Zw(P:Program)(rs:List ResultVar×List (List (Option (Nat×Nat))))(st:St):Option D:=match E9 P st rs.1 with
 |some ds=>(match xo st.H rs.2 ds with|some (es,ms,qs)=>(if ms.Nodup/\qs.Nodup then some (GY es)else none)|none=>none)
 |none=>none
def a4a(A:eT)(m:Nat):Option (aS×aS):=match A with
 | .hl m' k o::_=>if m'=m then some (k,o)else none
 |_=>none
def LB(p:Ad)(x:Option (Stop×Ad)):Option (Stop×Ad):=match x with
 |some (s,q)=>some (s,p++q)
 |none=>none
def go(P:Program)(rf:St->Option D)(nt:Nat):Nat->Cfg->List Fr->St->eT->Option (Stop×Ad)
 |0,_,_,_,_=>none
 |n+1,.run c,K,st,A=>(match c with
  | .skip=>go P rf nt n .U5 K st A
  | .ret=>(match rf st with|some d=>some (.ret d,[])|none=>none)
  | .exit id=>go P rf nt n (.ex id) K st A
  | .seq x y=>go P rf nt n (.run x) (.sq y::K) st A
  | .block id x=>go P rf nt n (.run x) (.bl id::K) st A
  | .loop x=>(match A with
   | .cn k o::_=>(if o.Nodup then some (.lp x K (st.Af k o),[])else none)
   | .pb id off e sz::A=>(match st.prom id off e sz with|some vX=>(match shares A vX with| (Jr,A2)=>go P rf nt n (.run (.loop x)) K Jr A2)|none=>none)
   |_=>none)
  | .cond x y z=>(match st.ev x,A with
   | .bool b,.b v::A=>LB [b=v] (go P rf nt n (.run (match v with|true=>y|false=>z)) K st A)
   |_,_=>none)
  | .region _ ops dr=>(match dr with
   |false=>(match vp P nt ops ops.toList st A with|some (vX,A1,p)=>LB p (go P rf nt n .U5 K vX A1)|none=>none)
   |true=>(match A with
    | .n k::A=>(match Sl ops k with
     |true=>(match v8 P nt ops st.H (ops.toList.take k) st.σ [] [] A with
      |some (σ1,acc,A1,p)=>(match vp P nt ops (ops.toList.drop k) ⟨σ1,st.H++acc⟩ A1 with|some (Jr,A2,q)=>LB (p++q) (go P rf nt n .U5 K Jr A2)|none=>none)
      |none=>none)
     |false=>none)
    | .n2 π ρ k m L X::A=>(match I2 ops π ρ,sx ops π ρ with
     |true,ops'=>(match J3 ops'.toArray k m L with
      |true=>(match v8 P nt ops'.toArray st.H (ops'.take k) st.σ [] [] A with
       |some (σ1,acc,A1,p)=>(match Ut X ⟨σ1,st.H⟩ ops' L,JY P nt X ((ops'.drop k).take (m-k)) ⟨σ1,st.H++acc⟩ A1 with
        |true,some (vX,A2,p2)=>(match vp P nt ops'.toArray (ops'.drop m) vX A2 with|some (Jr,A3,q)=>LB (p++(p2++q)) (go P rf nt n .U5 K Jr A3)|none=>none)
        |_,_=>none)
       |none=>none)
      |false=>none)
     |false,_=>none)
    |_=>none))
  |_=>none)
 |n+1,.U5,K,st,A=>(match K with
  | []=>(match rf st with|some d=>some (.ret d,[])|none=>none)
  | .sq y::K=>(match a4a A K.length with|some (k,o)=>(if o.Nodup then some (.at_ y K (st.Af k o),[])else none)|none=>go P rf nt n (.run y) K st A)
  | .bl _::K=>go P rf nt n .U5 K st A
  | .lp::K=>(match A with| .cn k o::_=>(if o.Nodup then some (.cont (depth K) (st.Af k o),[])else none)|_=>none))
 |n+1,.ex id,K,st,A=>(match K with
  | []=>none
  | .sq _::K=>go P rf nt n (.ex id) K st A
  | .bl i::K=>(if id=i then go P rf nt n .U5 K st A else go P rf nt n (.ex id) K st A)
  | .lp::K=>go P rf nt n (.ex id) K st A)
section
variable{P:Program}{Γ:sO}{Q:Exit->St->Prop}{N:Nat->St->Prop}
def KQ(P:Program)(Γ:sO)(N:Nat->St->Prop)(Q:Exit->St->Prop):List Fr->Exit->St->Prop
 | []=>Q
 | .sq y::K=>Uy (AW P Γ y (KQ P Γ N Q K)) (KQ P Γ N Q K)
 | .bl id::K=>LU id (KQ P Γ N Q K)
 | .lp::K=>Uy (fun st=>∃k o,o.Nodup/\N (depth K) (st.Af k o)) (KQ P Γ N Q K)
theorem Ym:∀(K:List Fr) {st:St},Q .ret st->KQ P Γ N Q K .ret st:=by
 intro K
 induction K with
 |nil=>intro st h;exact h
 |cons f K ih=>intro st h;cases f<;>exact ih h
theorem Mc{N':Nat->St->Prop}:∀(K:List Fr),(∀d,d<depth K->N d=N' d)->KQ P Γ N Q K=KQ P Γ N' Q K:=by
 intro K
 induction K with
 |nil=>intro _;rfl
 |cons f K ih=>
  intro h;cases f with
  |sq y=>simp only[KQ];rw[ih h]
  |bl id=>simp only[KQ];rw[ih h]
  |lp=>simp only[KQ];rw[ih (fun d hd=>h d (by simp only[depth];omega)),h (depth K) (by simp only[depth];omega)]
theorem AU{nt:Nat}(hnt:Γ.nt=nt){all:Array Oper}{Jr:St}{A2:eT}:∀ {ops:List Oper} {st:St} {A:eT} {p:Ad},vp P nt all ops st A=some (Jr,A2,p)->vf p->Q .normal Jr->AO P Γ all ops Q st:=by
 intro ops
 induction ops with
 |nil=>
  intro st A p h _ hq;simp only[vp]at h;cases hsh:shares A st with
  |mk vX A1=>
   rw[hsh]at h;simp only[ah,cK]at h;obtain⟨rfl,_,_⟩:=h;exact fun κ Θ a w hs=>wpList_nil ⟨_,_,_,hs.shares hsh,hq⟩
 |cons o rest ih=>
  intro st A p h hp hq;simp only[vp]at h;split at h
  ·rename_i hg;split at h
   ·rename_i vX A1 p1 h1;split at h
    ·rename_i XF A2' q h2;cases h;exact LM hnt hg h1 hp.app.1 (ih h2 hp.app.2 hq)
    ·cases h
   ·cases h
  ·rename_i j want hg;split at h
   ·rename_i s v A1 hj;split at h
    ·rename_i b hb;split at h
     ·rename_i hv;simp only[cQ]at hv;subst hv;split at h
      ·rename_i vX A2' p1 h1;split at h
       ·rename_i XF A3 q h2;cases h;refine Io (b:=b) hg hj hb ?_ (fun _=>LM hnt rfl h1 hp.2.app.1 (ih h2 hp.2.app.2 hq)) (fun hne=>absurd hp.1 hne);intro t ht;exact Us hnt h1 ht
       ·cases h
      ·cases h
     ·rename_i hv;split at h
      ·rename_i t hd;split at h
       ·rename_i ht;split at h
        ·rename_i XF A3 q h2;cases h;refine Io (b:=b) hg hj hb (fun t' ht'=>?_) (fun e=>?_) (fun _=>?_)
         ·rw[hd]at ht';cases ht';rw[hnt];exact ht
         ·exfalso;have:=hp.1;simp only[cT,ne_eq]at hv;exact hv (this.symm.trans e)
         ·rw[hd];exact ih h2 hp.2 hq
        ·cases h
       ·cases h
      ·rename_i hd;split at h
       ·rename_i XF A3 q h2;cases h;refine Io (b:=b) hg hj hb (fun t' ht'=>?_) (fun e=>?_) (fun _=>?_)
        ·rw[hd]at ht';cases ht'
        ·exfalso;have:=hp.1;simp only[cT,ne_eq]at hv;exact hv (this.symm.trans e)
        ·rw[hd];exact ih h2 hp.2 hq
       ·cases h
    ·rename_i hb;split at h
     ·rename_i t hd;split at h
      ·rename_i ht;refine KU hg hj hb (fun t' ht'=>?_) ?_
       ·rw[hd]at ht';cases ht';rw[hnt];exact ht
       ·rw[hd];exact ih h hp hq
      ·cases h
     ·rename_i hd;refine KU hg hj hb (fun t' ht'=>?_) ?_
      ·rw[hd]at ht';cases ht'
      ·rw[hd];exact ih h hp hq
    ·cases h
   ·cases h
theorem Hq{H:bP}{r:Nat}{σ:List (Nat×D)}{o:Oper}{A A1:eT}{d:D}{obs:bP}{p:Ad}(t:Option Nat)(u:Option (Nat×Ob))(h:Ps P H r σ o A=some (d,obs,A1,p))(hp:vf p):FJ P H σ o ⟨t,d,r,obs,u⟩:=by
 have plain:∀ {x},(match Dt P ⟨σ,H⟩ x A with|some (d,A,ow)=>some (d,([]:bP),A,ow)|none=>none)=some (d,obs,A1,p)->pv P ⟨σ,H⟩ x=some d/\obs=[]:=by
  intro x h;split at h
  ·rename_i d' A' ow h1;cases h;exact⟨Qm h1 hp,rfl⟩
  ·cases h
 unfold Ps at h;split at h
 ·rename_i c hop;split at h
  ·rename_i f hc;split at h
   ·rename_i ds ms d' A' h1;split at h
    ·rename_i hsh;cases h;exact .inl (.inr ⟨f,_,_,ds,ms,d',hop.trans (congrArg Op.call (o8 c hc rfl rfl)),.inl (by simpa using h1),hsh,hp.1,.inl rfl⟩)
    ·cases h
   ·rename_i ds ms d' A' h1;split at h
    ·rename_i Lc;cases h;exact .inl (.inr ⟨f,_,_,ds,ms,d',hop.trans (congrArg Op.call (o8 c hc rfl rfl)),.inl (by simpa using h1),.inr Lc.2,hp.1,.inr ⟨Lc.1,rfl,rfl⟩⟩)
    ·cases h
   ·rename_i d' A';split at h
    ·rename_i hk;cases h;exact .inl (.inr ⟨f,_,_,_,[],d',hop.trans (congrArg Op.call (o8 c hc rfl rfl)),.inr ⟨by simpa using hk,by simp,rfl⟩,.inl rfl,hp.1,.inl rfl⟩)
    ·cases h
   ·cases h
  ·exact .inl (.inl (plain h))
 ·rename_i T hop;split at h
  ·rename_i zs hz;cases h;exact .inr (.inl (.inl ⟨T,zs,hop,hz,rfl,rfl⟩))
  ·cases h
 ·rename_i T x hop;split at h
  ·rename_i ds hc;cases h;exact .inr (.inl (.inr ⟨T,x,ds,hop,hc,rfl,rfl⟩))
  ·cases h
 ·rename_i T len parts hop;split at h
  ·rename_i e sz h1;split at h
   ·rename_i zs h2;split at h
    ·rename_i ds h3;split at h
     ·split at h
      ·rename_i hc;obtain⟨c1,c2,c3,c4⟩:=hc;cases h;exact .inr (.inr (.inr ⟨T,e,sz,len,parts,zs,ds,hop,h1,h2,c1,c2,h3,c3,c4,rfl,rfl⟩))
      ·cases h
     ·split at h
      ·rename_i es ms h4;split at h
       ·rename_i hc;obtain⟨c1,c2,rfl⟩:=hc;cases h;exact .inr (.inr (.inl ⟨T,e,sz,len,parts,zs,ds,es,hop,h1,h2,c1,c2,h3,h4,rfl,rfl⟩))
       ·cases h
      ·cases h
    ·cases h
   ·cases h
  ·cases h
 ·exact .inl (.inl (plain h))
theorem E3{nt:Nat}(hnt:Γ.nt=nt){all:Array Oper}{H:bP}{K:List (Nat×D)->bP->Prop}{σ2:List (Nat×D)}{Mh:bP}{A2:eT}:∀ {ops:List Oper} {σ:List (Nat×D)} {acc:bP} {U:aS} {A:eT} {p:Ad},
 v8 P nt all H ops σ acc U A=some (σ2,Mh,A2,p)->vf p->K σ2 Mh->Ho P Γ all H K ops σ acc U:=by
 subst hnt;intro ops
 induction ops with
 |nil=>
  intro σ acc U A p h _ hK;simp only[v8,ah,cK]at h;obtain⟨rfl,rfl,_,_⟩:=h;exact hK
 |cons o rest ih=>
  intro σ acc U A p h hp hK;simp only[v8]at h;split at h
  ·rename_i hd;split at h
   ·rename_i T x y hop hg;split at h
    ·rename_i id off ds h1 h2;split at h
     ·rename_i zs h3;split at h
      ·rename_i hc;obtain⟨rfl,c2,c3,c4,c5,c6⟩:=hc;exact⟨⟨none,.any,H.length+acc.length,[],some (id,.box ds)⟩,rfl,.inr ⟨rfl,rfl,hd,hg,T,x,y,id,ds,hop,h1,c2,h2,c4,c5,rfl⟩,⟨c3,c2,zs,ds,h3,rfl,c6⟩,ih h hp hK⟩
      ·cases h
     ·cases h
    ·cases h
   ·cases h
  ·rename_i t hd;split at h
   ·rename_i ht;split at h
    ·rename_i hg;split at h
     ·rename_i d obs A1 p1 h1;split at h
      ·rename_i σ3 a18 A3 q h2;cases h;exact⟨⟨some t,d,H.length+acc.length,obs,none⟩,rfl,.inl ⟨t,rfl,rfl,hd,ht,.inl ⟨hg,Hq _ _ h1 hp.app.1⟩⟩,trivial,ih h2 hp.app.2 hK⟩
      ·cases h
     ·cases h
    ·rename_i j want hg;split at h
     ·rename_i s v A1 hj;split at h
      ·rename_i b hb;split at h
       ·rename_i hv;simp only[cQ]at hv;subst hv;split at h
        ·rename_i d obs A2' p1 h1;split at h
         ·rename_i σ3 a18 A3 q h2;cases h;exact⟨⟨some t,d,H.length+acc.length,obs,none⟩,rfl,.inl ⟨t,rfl,rfl,hd,ht,.inr (.inl ⟨j,s,v,b,hg,hj,hb,.inl ⟨hp.1,Hq _ _ h1 hp.2.app.1⟩⟩)⟩,trivial,ih h2 hp.2.app.2 hK⟩
         ·cases h
        ·cases h
       ·rename_i hv;simp only[cT,ne_eq]at hv;split at h
        ·rename_i σ3 a18 A3 q h2;cases h;refine⟨⟨some t,.iK [],H.length+acc.length,[],none⟩,rfl,.inl ⟨t,rfl,rfl,hd,ht,.inr (.inl ⟨j,s,want,b,hg,hj,hb,.inr ⟨fun e=>hv (hp.1.symm.trans e),rfl,rfl⟩⟩)⟩,trivial,?_⟩;simp only[Cp.fill,eA];exact ih h2 hp.2 hK
        ·cases h
      ·rename_i hb;refine⟨⟨some t,.iK [],H.length+acc.length,[],none⟩,rfl,.inl ⟨t,rfl,rfl,hd,ht,.inr (.inr ⟨j,s,want,hg,hj,hb,rfl,rfl⟩)⟩,trivial,?_⟩;simp only[Cp.fill,eA];exact ih h hp hK
      ·cases h
     ·cases h
   ·cases h
def SW(P:Program)(Γ:sO)(N:Nat->St->Prop)(Q:Exit->St->Prop)(d0:D):Stop->Prop
 | .ret d=>d=d0
 | .lp c K st=>AW P Γ (.loop c) (KQ P Γ N Q K) st
 | .cont k st=>N k st
 | .at_ c K st=>AW P Γ c (KQ P Γ N Q K) st
theorem MZ{c:Code}{st:St}{k o:aS}(hnd:o.Nodup)(h:AW P Γ c Q (st.Af k o)):AW P Γ c Q st:=by
 intro κ Θ a w hs;obtain⟨κ',Θ',hs'⟩:=hs.Af k o hnd;exact h κ' Θ' a w hs'
theorem Zx{fn:Func}{st:St}{d:D}{e:Exit}(he:e=.ret\/e=.normal){nz:List (List (Option (Nat×Nat)))}(h:Zw P (fn.results.toList,nz) st=some d):LQ P fn d e st:=by
 unfold Zw at h;split at h
 ·rename_i ds h1;split at h
  ·rename_i es ms qs h2;split at h
   ·rename_i hc;cases h;exact⟨he,nz,ds,es,ms,qs,h1,h2,hc.1,hc.2,rfl⟩
   ·cases h
  ·cases h
 ·cases h
def a14(P:Program)(Γ:sO)(N:Nat->St->Prop)(Q:Exit->St->Prop)(K:List Fr)(st:St):Cfg->Prop
 | .run c=>AW P Γ c (KQ P Γ N Q K) st
 | .U5=>KQ P Γ N Q K .normal st
 | .ex id=>KQ P Γ N Q K (.exit id) st
theorem Aa{p q:Ad}{x:Option (Stop×Ad)}{s:Stop}(h:LB p x=some (s,q)):∃q',x=some (s,q')/\q=p++q':=by
 unfold LB at h;split at h
 ·cases h;exact⟨_,rfl,rfl⟩
 ·cases h
theorem go_sound{rf:St->Option D}{d0:D}(hrf:∀st e,(e=.ret\/e=.normal)->rf st=some d0->Q e st){nt:Nat}(hnt:Γ.nt=nt)(hm:P.follows .mixedOrders=true):∀ {n:Nat} {cfg:Cfg} {K:List Fr} {st:St} {A:eT} {s:Stop} {p:Ad},go P rf nt n cfg K st A=some (s,p)->vf p->SW P Γ N Q d0 s->a14 P Γ N Q K st cfg:=by
 intro n
 induction n with
 |zero=>intro cfg K st A s p h;simp[go]at h
 |succ n ih=>
  intro cfg K st A s p h hp hs;cases cfg with
  |run c=>
   show AW P Γ c (KQ P Γ N Q K) st;cases c with
   |skip=>simp only[go]at h;exact Ve (ih h hp hs)
   |ret=>
    simp only[go]at h;split at h
    ·rename_i d hd;simp only[ah,cK]at h;obtain⟨rfl,_⟩:=h;have hd0:d=d0:=hs;subst hd0;exact Yk (Ym K (hrf st _ (.inl rfl) hd))
    ·cases h
   |exit id=>simp only[go]at h;exact Vc (ih h hp hs)
   |seq x y=>simp only[go]at h;exact Yl (ih h hp hs)
   |block id x=>simp only[go]at h;exact SP (ih h hp hs)
   |loop x=>
    simp only[go]at h;split at h
    ·split at h
     ·rename_i hnd;simp only[ah,cK]at h;obtain⟨rfl,_⟩:=h;exact MZ hnd hs
     ·cases h
    ·split at h
     ·rename_i A0 x0 vX hst;intro κ Θ a w a4r;obtain⟨κ',hs'⟩:=a4r.prom hst;exact(ih h hp hs:AW P Γ (.loop x) (KQ P Γ N Q K) (shares A0 vX).1) κ' Θ a w (hs'.shares (rfl:shares A0 vX=((shares A0 vX).1,(shares A0 vX).2)))
     ·cases h
    ·cases h
   |cond x y z=>
    simp only[go]at h;split at h
    ·rename_i b v A1 hx;obtain⟨q,h1,rfl⟩:=Aa h;obtain⟨hb,hp'⟩:=hp;subst hb;refine Va hx (fun e=>?_) (fun e=>?_)
     ·subst e;exact ih h1 hp' hs
     ·subst e;exact ih h1 hp' hs
    ·cases h
   |region id ops dr=>
    simp only[go]at h;cases dr with
    |false=>
     simp only at h;split at h
     ·rename_i vX A1 p1 h1;obtain⟨q,h2,rfl⟩:=Aa h;have:=AU (Q:=KQ P Γ N Q K) hnt h1 hp.app.1 (ih h2 hp.app.2 hs);have hr:=Qt (id:=id) (l:=ops.toList) (by simpa using this);simpa using hr
     ·cases h
    |true=>
     simp only at h;split at h
     ·rename_i k A1;split at h
      ·rename_i hB;split at h
       ·rename_i σ1 acc A2 p1 h1;split at h
        ·rename_i Jr A3 p2 h2;obtain⟨q,h3,rfl⟩:=Aa h;have hq:=hp.app.1.app;have h4:=AU (Q:=KQ P Γ N Q K) hnt h2 hq.2 (ih h3 hp.app.2 hs);have h5:=E3 (Γ:=Γ) (K:=fun σ acc=>AO P Γ ops (ops.toList.drop k) (KQ P Γ N Q K) ⟨σ,st.H++acc⟩) hnt h1 hq.1 h4;have hr:=Vb (id:=id) (l:=ops.toList) (Q:=KQ P Γ N Q K) (st:=st) k hm (by simpa using hB) (by simpa using h5);simpa using hr
        ·cases h
       ·cases h
      ·cases h
     ·rename_i π ρ k m L X A1;split at h
      ·rename_i ops' hB1;generalize a4i:sx ops π ρ=ops' at h;split at h
       ·rename_i hB;split at h
        ·rename_i σ1 acc A2 p1 h1;split at h
         ·rename_i vX A3 p2 hst hmid;split at h
          ·rename_i Jr A4 p3 h2;obtain⟨q,h3,rfl⟩:=Aa h;have hq:=hp.app.1.app;have FD:=hq.2.app;have h4:=AU (Q:=KQ P Γ N Q K) hnt h2 FD.2 (ih h3 hp.app.2 hs);have h6:=M2 (Γ:=Γ) (K:=fun sn=>AO P Γ ops'.toArray (ops'.drop m) (KQ P Γ N Q K) sn) hnt hmid FD.1 h4;have h5:=E3 (Γ:=Γ) (K:=fun σ acc=>(∀i∈L,∀o,ops'[i]?=some o->AY X ⟨σ,st.H⟩ o.op=true)/\SB P Γ X (fun sn=>AO P Γ ops'.toArray (ops'.drop m) (KQ P Γ N Q K) sn) ((ops'.drop k).take (m-k)) ⟨σ,st.H++acc⟩) hnt h1 hq.1 ⟨Rr hst,h6⟩;have hr:=Qz (l:=ops') (Q:=KQ P Γ N Q K) (st:=st) k m L hB h5;rw[<-a4i]at hr;exact(hr.perm hB1).aw hm
          ·cases h
         ·cases h
        ·cases h
       ·cases h
      ·cases h
     ·cases h
   |_=>simp[go]at h
  |U5=>
   show KQ P Γ N Q K .normal st;simp only[go]at h;split at h
   ·split at h
    ·rename_i d hd;simp only[ah,cK]at h;obtain⟨rfl,_⟩:=h;have hd0:d=d0:=hs;subst hd0;exact hrf st _ (.inr rfl) hd
    ·cases h
   ·split at h
    ·split at h
     ·rename_i hnd;simp only[ah,cK]at h;obtain⟨rfl,_⟩:=h;exact MZ hnd hs
     ·cases h
    ·exact ih (cfg:=.run _) h hp hs
   ·exact ih (cfg:=.U5) h hp hs
   ·split at h
    ·split at h
     ·rename_i k o _ hnd;simp only[ah,cK]at h;obtain⟨rfl,_⟩:=h;exact⟨k,o,hnd,hs⟩
     ·cases h
    ·cases h
  |ex id=>
   show KQ P Γ N Q K (.exit id) st;simp only[go]at h;split at h
   ·cases h
   ·exact ih (cfg:=.ex id) h hp hs
   ·rename_i i K;simp only[KQ,LU];split at h
    ·rename_i e;rw[bN e];exact ih (cfg:=.U5) h hp hs
    ·rename_i e;rw[b9 e];exact ih (cfg:=.ex id) h hp hs
   ·exact ih (cfg:=.ex id) h hp hs
def Xc:Code->aS->List Fr->Code×List Fr
 |c,[],K=>(c,K)
 | .seq x y,i::p,K=>(match i with|0=>Xc x p (.sq y::K)|_=>Xc y p K)
 | .block id c,_::p,K=>Xc c p (.bl id::K)
 | .cond _ x y,i::p,K=>(match i with|0=>Xc x p K|_=>Xc y p K)
 | .loop c,_::p,K=>Xc c p (.lp::K)
 |c,_::_,K=>(c,K)
def YO(P:Program)(rs:List ResultVar×List (List (Option (Nat×Nat))))(st:St):Option D:=match E9 P st rs.1,(st.H[0]?:Option Ob)with
 |some ds,some (Ob.BQ cells v)=>(match xo st.H rs.2 (.agg cells::ds)with
  |some (.agg cells'::es,ms,qs)=>(if ms.Nodup/\qs.Nodup then some (.iK [GY es,.agg cells',.val v])else none)
  |_=>none)
 |_,_=>none
def YN(P:Program)(rs:List ResultVar)(st:St):Option D:=match E9 P st rs with
 |some [.ptr j 0]=>(match st.H[j]? with|some (.box cells)=>(if cells.all D.MW=true then some (.agg cells)else none)|_=>none)
 |_=>none
inductive Kd where
 |q (nz:List (List (Option (Nat×Nat)))) (d:D)
 |p (nz:List (List (Option (Nat×Nat)))) (v:Value) (cells:aL) (d:D)
 |n (cells:aL)
def Kd.rf(P:Program)(fn:Func)(k:Kd)(st:St):Option D:=match k with
 | .q nz _=>Zw P (fn.results.toList,nz) st
 | .p nz _ _ _=>YO P (fn.results.toList,nz) st
 | .n _=>YN P fn.results.toList st
def Kd.d0:Kd->D
 | .q _ d=>d
 | .p _ v cells d=>.iK [d,.agg cells,.val v]
 | .n cells=>.agg cells
def Kd.qq(P:Program)(fn:Func):Kd->Exit->St->Prop
 | .q _ d=>LQ P fn d
 | .p _ v cells d=>SV P fn v cells d
 | .n cells=>a16 P fn cells
theorem Kd.ok{fn:Func}(k:Kd){st:St}{e:Exit}(he:e=.ret\/e=.normal)(h:k.rf P fn st=some k.d0):k.qq P fn e st:=by
 cases k with
 |q nz d=>exact Zx he h
 |p nz v cells d=>
  simp only[Kd.rf,YO,Kd.d0]at h;split at h
  ·rename_i ds LV v' h1 h2;split at h
   ·rename_i cells' es ms qs h3;split at h
    ·rename_i hc;simp only[ah,D.iK.injEq,List.cons.injEq,D.agg.injEq,D.val.injEq,and_true]at h;obtain⟨rfl,rfl,rfl⟩:=h;exact⟨he,_,_,_,_,_,_,h1,h2,h3,hc.1,hc.2,rfl⟩
    ·cases h
   ·cases h
  ·cases h
 |n cells=>
  simp only[Kd.rf,YN,Kd.d0]at h;split at h
  ·rename_i j h1;split at h
   ·rename_i cells' h2;split at h
    ·rename_i hc;simp only[ah,D.agg.injEq]at h;subst h;exact⟨he,j,h1,h2,hc⟩
    ·cases h
   ·cases h
  ·cases h
theorem Ip{fn:Func}{k:Kd}{nt n:Nat}{c:Code}{K:List Fr}{st:St}(A:eT)(s:Stop){p:Ad}(hnt:Γ.nt=nt)(hm:P.follows .mixedOrders=true)(h:go P (k.rf P fn) nt n (.run c) K st A=some (s,p))(hp:vf p)
 (hs:SW P Γ N (k.qq P fn) k.d0 s):AW P Γ c (KQ P Γ N (k.qq P fn) K) st:=go_sound (Q:=k.qq P fn) (N:=N) (K:=K) (st:=st) (d0:=k.d0) (cfg:=.run c) (fun _ _ he h=>k.ok he h) hnt hm h hp hs
def Pd(P:Program)(Γ:sO)(c:Code)(Q:Exit->St->Prop)(n:Nat)(st:St):Prop:=
 ∀κ Θ a w,dH Γ st κ Θ a w->Code.rounds P c (fun e a' w'=>∃sn κ' Θ',dH Γ sn κ' Θ' a' w'/\Q e sn) n a w
theorem Vd{c:Code}{n:Nat}{st:St}(h:Pd P Γ c Q n st):AW P Γ (.loop c) Q st:=fun κ Θ a w hs=>wp_loop_rounds n (h κ Θ a w hs)
theorem aR{c:Code}{K:List Fr}{n:Nat}{st:St}
 (h:∀N',(∀d,d<depth K->N' d=N d)->N' (depth K)=Pd P Γ c (KQ P Γ N Q K) n->AW P Γ c (KQ P Γ N' Q (.lp::K)) st):Pd P Γ c (KQ P Γ N Q K) (n+1) st:=by
 intro κ Θ a w hs;have:=h (fun d=>if d<depth K then N d else Pd P Γ c (KQ P Γ N Q K) n) (fun d hd=>bN hd) (b9 (by omega));simp only[KQ]at this;rw[b9 (by omega)]at this;rw[<-Mc (N:=N) (N':=fun d=>if d<depth K then N d else Pd P Γ c (KQ P Γ N Q K) n) K (fun d hd=>(bN hd).symm)]at this;rw[rounds_succ];refine wp_mono (this κ Θ a w hs) ?_;rintro e a' w' ⟨sn,κ',Θ',hs',hq⟩;cases e with
 |normal=>
  obtain⟨k,o,hnd,hR'⟩:=hq;obtain⟨κ2,Θ2,hs2⟩:=hs'.Af k o hnd;exact hR' κ2 Θ2 a' w' hs2
 |exit id=>exact⟨_,_,_,hs',hq⟩
 |goto l=>exact⟨_,_,_,hs',hq⟩
 |ret=>exact⟨_,_,_,hs',hq⟩
 |panic c=>exact⟨_,_,_,hs',hq⟩
 |outgrown=>exact⟨_,_,_,hs',hq⟩
end
theorem aM{α:Type}{c:Bool}{x y:Option α}{r:α}(h:(bif c then x else y)=some r):(c=true/\x=some r)\/(c=false/\y=some r):=by
 cases c
 ·exact .inr ⟨rfl,h⟩
 ·exact .inl ⟨rfl,h⟩
theorem bQ{α:Type}{c:Bool}{x:Option α}{r:α}(h:(bif c then x else none)=some r):c=true/\x=some r:=by
 cases c
 ·cases h
 ·exact⟨rfl,h⟩
theorem aB{α β:Type}{x:Option α}{f:α->Option β}{r:β}(h:x.bind f=some r):∃y,x=some y/\f y=some r:=by
 cases x with
 |none=>cases h
 |some y=>exact⟨y,rfl,h⟩
theorem aK{α:Type}{x y:α}(h:some x=some y):x=y:=by cases h;rfl
theorem ow{p:Prop}{ps:Ad}(h:p)(t:vf ps):vf (p::ps):=⟨h,t⟩
def iM{α:Type}(l:List α)(i:Int):Option α:=bif decide (0<=i)then l[i.toNat]? else none
theorem Pn{α β:Type}{l:List α}{i:Int}{x:α}(f:α->β)(h:iM l i=some x):0<=i/\(l.map f)[i.toNat]?=some (f x):=by
 unfold iM at h;cases hd:decide (0<=i)with
 |false=>rw[hd]at h;cases h
 |true=>rw[hd]at h;simp only[aI]at h;exact⟨by simpa using hd,by rw[bU,h];rfl⟩
theorem Yo{l:Bytes}{i:Int}{x:UInt8}(h:iM l i=some x):0<=i/\l[i.toNat]?=some x:=by
 unfold iM at h;cases hd:decide (0<=i)with
 |false=>rw[hd]at h;cases h
 |true=>rw[hd]at h;exact⟨by simpa using hd,h⟩
theorem W7{tab:aF}{n:Int}{y:Bytes}{m:Nat}(hl:tab.length=m)(h:iM tab n=some y):n=((n.toNat:Nat):Int)/\n.toNat<m:=by
 unfold iM at h;cases hn:decide (0<=n)with
 |false=>rw[hn]at h;cases h
 |true=>
  rw[hn,aI]at h;have h0:0<=n:=ay hn;have:=(aE.1 h).1;exact⟨by omega,by omega⟩
theorem Vz{tab:aF}{n:Int}{y:Bytes}{g:Nat}(hv:∀o,L9 g o=(tab.map D.str)[o]?)(h:iM tab n=some y):L9 g (0+n.toNat*1)=some (.str y):=by
 unfold iM at h;cases hn:decide (0<=n)with
 |false=>rw[hn]at h;cases h
 |true=>
  rw[hn,aI]at h;rw[hv,cv,Nat.mul_one,bU,h];rfl
def fuel:Nat:=4194304
theorem iN{α:Type}{l:List α}{i:Int}{x:α}(f:α->aL)(n:Nat)(h:iM l i=some x)(hn:(f x).length=n):0<=i/\(l.map f)[i.toNat]?=some (f x)/\(f x).length=n:=⟨(Pn f h).1,(Pn f h).2,hn⟩
theorem P0{i n:Nat}(sz:Nat)(h:decide (i<n)=true):sz=sz/\(i:Int)=((i:Nat):Int)/\i<n:=⟨rfl,rfl,ay h⟩
theorem mS{α:Type}{l:List α}{i:Nat}{x:α}(f:α->aL)(sz:Nat)(h:l[i]?=some x):sz=sz/\(i:Int)=((i:Nat):Int)/\i<(l.map f).length:=⟨rfl,rfl,by rw[ar];exact(aE.1 h).1⟩
theorem fc{α:Type}{l:List α}{i:Int}{x:α}(f:α->aL)(sz:Nat)(h:iM l i=some x):sz=sz/\i=((i.toNat:Nat):Int)/\i.toNat<(l.map f).length:=by
 obtain⟨h0,h1⟩:=Pn f h;exact⟨rfl,by omega,(aE.1 h1).1⟩
theorem dR{α:Type}{l:List α}{i:Int}{x:α}(h:iM l i=some x):l[i.toNat]?=some x:=by
 have:=(Pn (fun y=>y) h).2;simpa using this
theorem MB{x y:Int}(k:IntKind)(h:(decide (0<=x)&&decide (0<y))=true):k=k/\0<=x/\0<y:=by simpa using h
def room(n b:Nat):Bool:=decide (n<=maxLen)&&decide (n*b<=140737488355328)
theorem br{n b:Nat}(h:room n b=true):n<=maxLen/\n*b<=140737488355328:=by
 simp only[room,aY,bK]at h;exact h
theorem TS{k n:Nat}(h:k<n)(hn:n<=maxLen):IntKind.i64.wrap ((k:Int)+1)=((k+1:Nat):Int):=by
 unfold maxLen at hn;rw[dZ (nS.i64.2 (by omega))];omega
theorem Wn{k n:Nat}(h:k<n):decide ((k:Int)<(n:Int))=true:=by simp[h]
theorem Tu{k n:Nat}(h:n<=k):decide ((k:Int)<(n:Int))=false:=by simp;omega
theorem drop_cons{α:Type}{l:List α}{k:Nat}{x:α}{xs:List α}(h:l.drop k=x::xs):l[k]?=some x/\k<l.length/\l.drop (k+1)=xs:=by
 have h1:l[k]?=some x:=by
  have:=congrArg (fun m:List α=>m[0]?) h;simpa[eH]using this
 refine⟨h1,(aE.1 h1).1,?_⟩;rw[<-gE,h];rfl
theorem drop_nil{α:Type}{l:List α}{k:Nat}(h:l.drop k=[]):l.length<=k:=by simpa using h
theorem Tw{α β:Type}{l:List α}{k:Nat}{x:α}(f:α->β)(h:l[k]?=some x):0<=(k:Int)/\(l.map f)[(k:Int).toNat]?=some (f x):=⟨by omega,by simp[h]⟩
theorem bI{α:Type}{l:List α}{k:Nat}{x:α}(f:α->aL)(n:Nat)(h:l[k]?=some x)(hn:(f x).length=n):0<=(k:Int)/\(l.map f)[(k:Int).toNat]?=some (f x)/\(f x).length=n:=⟨(Tw f h).1,(Tw f h).2,hn⟩
theorem Tv{α β:Type}{l:List α}{k:Nat}(f:α->β)(h:k<l.length):decide ((k:Int)<((l.map f).length:Int))=true:=by rw[ar];exact Wn h
theorem RV{α β:Type}{l:List α}{k:Nat}(f:α->β)(h:l.length<=k):decide ((k:Int)<((l.map f).length:Int))=false:=by rw[ar];exact Tu h
theorem cH{α β:Type}{l:List α}{k:Nat}{x:α}(f:α->β)(h:l[k]?=some x):(l.map f)[k]?=some (f x):=by rw[bU,h];rfl
def GQ{α β:Type}[BEq α](z:β)(k:α):List (α×β)->β
 | []=>z
 |p::r=>bif k==p.1 then p.2 else GQ z k r
def Wo{α β:Type}[BEq α](k:α):List (α×β)->Bool
 | []=>false
 |p::r=>bif k==p.1 then true else Wo k r
def JV{α β:Type}[BEq α](k:α)(v:β):List (α×β)->List (α×β)
 | []=>[(k,v)]
 |p::r=>bif k==p.1 then(k,v)::r else p::JV k v r
def eB(b:Bool):D:=.bool b
def kS{β:Type}(e:β->D)(p:Bytes×β):D×D:=(.str p.1,e p.2)
theorem Q5{β:Type}{e:β->D}(z:β)(k:Bytes):∀(m:List (Bytes×β)),(CV (.str k) (m.map (kS e))=some none/\Wo k m=false/\GQ z k m=z)\/(CV (.str k) (m.map (kS e))=some (some (e (GQ z k m)))/\Wo k m=true)
 | []=>.inl ⟨rfl,rfl,rfl⟩
 |p::r=>by
  simp only[bC,CV,kS,keq,Wo,GQ];cases hb:k==p.1 with
  |true=>exact .inr ⟨rfl,rfl⟩
  |false=>exact Q5 z k r
theorem a2H{P:Program}{T:TypeId}{β:Type}{e:β->D}{z:β}{k:Bytes}{m:List (Bytes×β)}(hT:Rt P T=some (.string,e z)):plk P T (m.map (kS e)) (.str k) false=some (e (GQ z k m)):=by
 unfold plk;rw[hT];rcases Q5 (e:=e) z k m with⟨h1,_,h3⟩|⟨h1,_⟩
 ·simp only[F0,h1,h3,aW]
 ·simp only[F0,h1,aW]
theorem UE{β:Type}{e:β->D}{k:Bytes}{v:β}:∀ {m:List (Bytes×β)},GO (.str k) (e v) (m.map (kS e))=some ((JV k v m).map (kS e))
 | []=>rfl
 |p::r=>by
  simp only[bC,GO,JV];have hq:keq (.str k) (kS e p).1=some (k==p.1):=rfl;rw[hq];cases hb:k==p.1 with
  |true=>rfl
  |false=>simp only[UE (m:=r),cI,aW,bC]
end Go.Cx
namespace Go.Cx
open Go.RowKit Go.Proofs Tryz
abbrev tQ:=List Fr
structure aG where
 rel:Bytes
 args:aF
 deriving DecidableEq
structure aQ where
 var:Bytes
 value:Bytes
 deriving DecidableEq
structure aH where
 kind:Int
 pat:aG
 left:Bytes
 right:Bytes
 deriving DecidableEq
structure Action where
 kind:Int
 pat:aG
 deriving DecidableEq
structure aJ where
 name:Bytes
 prio:Int
 conds:List aH
 cO:List Action
 deriving DecidableEq
structure aX where
 facts:List aG
 bind:List aQ
 deriving DecidableEq
structure dU where
 rule:Bytes
 facts:List aG
 bind:List aQ
 deriving DecidableEq
structure ai where
 shape:aG
 facts:List aG
 deriving DecidableEq
structure Node where
 parent:Int
 cond:aH
 ot:Int
 tokens:List aX
 deriving DecidableEq
structure aN where
 rules:List aJ
 ends:bJ
 bM:List ai
 nodes:List Node
 facts:List aG
 cS:Int
 deriving DecidableEq
structure dW where
 fact:aG
 time:Int
 deriving DecidableEq
structure a3n where
 rule:Bytes
 times:bJ
 deriving DecidableEq
structure a3m where
 a7X:dU
 prio:Int
 times:bJ
 spec:Int
 order:Int
 deriving DecidableEq
structure cU where
 b:bJ
 i:Int
 h:Int
 deriving DecidableEq
abbrev tx(s:Bytes):List D:=[.str s]
abbrev mR(n:Int):List D:=[.int .i64 n]
abbrev bx(b:Bool):List D:=[.bool b]
abbrev yx(n:Int):List D:=[.int .u8 n]
abbrev dT(l:List Bytes):D:=.sl (l.map tx)
abbrev dI(l:List Int):D:=.sl (l.map mR)
abbrev aG.c(x:aG):List D:=[.str x.rel,dT x.args]
abbrev aQ.c(x:aQ):List D:=[.str x.var,.str x.value]
abbrev aH.c(x:aH):List D:=[.int .i64 x.kind,.str x.pat.rel,dT x.pat.args,.str x.left,.str x.right]
abbrev Action.c(x:Action):List D:=[.int .i64 x.kind,.str x.pat.rel,dT x.pat.args]
abbrev aJ.c(x:aJ):List D:=[.str x.name,.int .i64 x.prio,.sl (x.conds.map aH.c),.sl (x.cO.map Action.c)]
abbrev aX.c(x:aX):List D:=[.sl (x.facts.map aG.c),.sl (x.bind.map aQ.c)]
abbrev dU.c(x:dU):List D:=[.str x.rule,.sl (x.facts.map aG.c),.sl (x.bind.map aQ.c)]
abbrev ai.c(x:ai):List D:=[.str x.shape.rel,dT x.shape.args,.sl (x.facts.map aG.c)]
abbrev Node.c(x:Node):List D:=[.int .i64 x.parent,.int .i64 x.cond.kind,.str x.cond.pat.rel,dT x.cond.pat.args,.str x.cond.left,.str x.cond.right,.int .i64 x.ot,.sl (x.tokens.map aX.c)]
abbrev aN.c(x:aN):List D:=[.sl (x.rules.map aJ.c),dI x.ends,.sl (x.bM.map ai.c),.sl (x.nodes.map Node.c),.sl (x.facts.map aG.c),.int .i64 x.cS]
abbrev dW.c(x:dW):List D:=[.str x.fact.rel,dT x.fact.args,.int .i64 x.time]
abbrev cU.c(x:cU):List D:=[.sl (x.b.map yx),.int .i64 x.i,.int .i64 x.h]
def vh(fn:Func):Code:=match fn.body with
 |some c=>c
 |none=>.skip
theorem mix:prog.follows .mixedOrders=true:=by kernel_rfl
theorem a3k{P:Program}{Γ:sO}{Q:Exit->St->Prop}{N N':Nat->St->Prop}{c:Code}{K K0:tQ}{st:St}(hd:depth K=depth K0)(hN:∀d,d<depth K0->N' d=N d)(t:AW P Γ c (KQ P Γ N Q K) st):AW P Γ c (KQ P Γ N' Q K) st:=by
 rw[Mc (N:=N') (N':=N) K (fun d h=>hN d (by omega))];exact t
theorem a10{P:Program}{Γ:sO}{Q:Exit->St->Prop}{c:Code}{s s':St}(h:s=s')(t:AW P Γ c Q s'):AW P Γ c Q s:=by rw[h];exact t
theorem za{α:Type}{c:α->aL}(hc:∀x,(c x).all D.flat=true)(l:List α):(l.map c).flatten.all D.flat=true:=by
 induction l with
 |nil=>rfl
 |cons x l ih=>rw[bC,eC,List.all_append,hc,ih];rfl
abbrev bT:An:=.b true
abbrev bF:An:=.b false
structure Pre(A:List An)(p:Ad):Prop where
 h:vf p
theorem aU:Pre [] []:=⟨trivial⟩
theorem vf.join{p q:Ad}(h:vf p)(k:vf q):vf (p++q):=by
 induction p with
 |nil=>exact k
 |cons x p ih=>exact⟨h.1,ih h.2⟩
theorem Pre.ext{A:eT}{p:Ad}(o:Pre A p)(B:eT){q:Ad}(hq:vf q):Pre (A++B) (p++q):=⟨o.h.join hq⟩
section
variable{A:eT}{p:Ad}
theorem Pre.b(o:Pre A p){c v:Bool}(h:c=v):Pre (A++[.b v]) (p++[c=v]):=o.ext _ ⟨h,trivial⟩
theorem Pre.r(o:Pre A p)(n:Nat){c v:Bool}(h:c=v):Pre (A++List.replicate n (.b v)) (p++List.replicate n (c=v)):=o.ext _ (by
 induction n with
 |zero=>trivial
 |succ n ih=>exact⟨h,ih⟩)
theorem Pre.T(o:Pre A p)(n:Nat):Pre (A++List.replicate n bT) (p++List.replicate n (true=true)):=o.r n rfl
theorem Pre.F(o:Pre A p)(n:Nat):Pre (A++List.replicate n bF) (p++List.replicate n (false=false)):=o.r n rfl
theorem Pre.g(o:Pre A p){f:FuncId}{ds:aL}{d:D}(h:Good prog f ds d):Pre (A++[.d d]) (p++[Good prog f ds d]):=o.ext _ ⟨h,trivial⟩
theorem Pre.hp(o:Pre A p)(nz:List (List (Option (Nat×Nat)))){f:FuncId}{cells cells' ds:aL}{d:D}(h:jP prog f cells cells' ds d):Pre (A++[.gp nz cells' d]) (p++[jP prog f cells cells' ds d]):=o.ext _ ⟨h,trivial⟩
theorem Pre.hf(o:Pre A p)(nz:List (List (Option (Nat×Nat)))){f:FuncId}{ds:aL}{d:D}(h:FK prog f ds d):Pre (A++[.gf nz d]) (p++[FK prog f ds d]):=o.ext _ ⟨h,trivial⟩
theorem Pre.hn(o:Pre A p){f:FuncId}{ds cells:aL}(h:FL prog f ds cells):Pre (A++[.dn cells]) (p++[FL prog f ds cells]):=o.ext _ ⟨h,trivial⟩
theorem Pre.w(o:Pre A p){q:Prop}(h:q):Pre (A++[]) (p++[q]):=o.ext _ ⟨h,trivial⟩
theorem Pre.a(o:Pre A p)(B:eT):Pre (A++B) (p++[]):=o.ext _ (q:=[]) trivial
theorem Pre.l(o:Pre A p){n:Int}{rows:List aL}{r:aL}{sz:Nat}(h:0<=n/\rows[n.toNat]?=some r/\r.length=sz):Pre (A++[.row r]) (p++[0<=n/\rows[n.toNat]?=some r/\r.length=sz]):=o.ext _ ⟨h,trivial⟩
theorem Pre.i(o:Pre A p){sz sz' m k:Nat}{n:Int}(h:sz=sz'/\n=((k:Nat):Int)/\k<m):Pre (A++[.ix k]) (p++[sz=sz'/\n=((k:Nat):Int)/\k<m]):=o.ext _ ⟨h,trivial⟩
theorem Pre.o(o:Pre A p)(sz n:Nat)(k:RK){rows:List aL}{i:Nat}{r:aL}(h:rows[i]?=some r)(hk:k.M6=true:=by kernel_rfl)(hn:Nat.ble n sz=true:=by kernel_rfl):Pre (A++[.row r]) (p++[sz=sz/\k.M6=true/\rows[i]?=some r/\n<=sz]):=o.ext _ ⟨⟨rfl,hk,h,ng hn⟩,trivial⟩
theorem Pre.c(o:Pre A p){s:Bytes}{i:Int}{b:UInt8}(h:iM s i=some b):Pre (A++[.ch b]) (p++[0<=i/\s[i.toNat]?=some b]):=o.ext _ ⟨Yo h,trivial⟩
theorem Pre.lt{α:Type}{l xs:List α}{i:Nat}{x:α}(o:Pre A p)(f:α->aL)(h:l.drop i=x::xs):Pre (A++[bT]) (p++[decide ((i:Int)<((l.map f).length:Int))=true]):=o.b (Tv f (drop_cons h).2.1)
theorem Pre.ge{α:Type}{l:List α}{i:Nat}(o:Pre A p)(f:α->aL)(h:l.drop i=[]):Pre (A++[bF]) (p++[decide ((i:Int)<((l.map f).length:Int))=false]):=o.b (RV f (drop_nil h))
end
theorem dc{α:Type}{l:List α}{k:Nat}{x:α}{xs:List α}(h:l.drop k=x::xs):l[k]?=some x:=(drop_cons h).1
theorem dn{α:Type}{l:List α}{k:Nat}{x:α}{xs:List α}(h:l.drop k=x::xs):l.drop (k+1)=xs:=(drop_cons h).2.2
theorem iS{α:Type}{l:List α}{k:Nat}{x:α}{xs:List α}(h:l.drop k=x::xs)(hn:l.length<=maxLen):IntKind.i64.wrap ((k:Int)+1)=((k+1:Nat):Int):=TS (drop_cons h).2.1 hn
theorem mA{α β:Type}(f:α->β):(∀a b:List α,(a++b).map f=a.map f++b.map f)/\(∀(x:α) (a:List α),(x::a).map f=f x::a.map f)/\([]:List α).map f=[]/\(∀(l:List α) (i:Nat) (x:α),(l.set i x).map f=(l.map f).set i (f x))/\(∀(n:Nat) (x:α),(List.replicate n x).map f=List.replicate n (f x))/\(∀(l:List α) (n:Nat),(l.take n).map f=(l.map f).take n):=
 ⟨fun _ _=>b8,fun _ _=>rfl,rfl,fun _ _ _=>List.map_set,fun _ _=>List.map_replicate,fun _ _=>bY⟩
section
variable{Γ:sO}{N N1:Nat->St->Prop}{fn:Func}{k:Kd}{nt:Nat}{A:eT}{p:Ad}{c c':Code}{K K' K0:tQ}{st sn:St}
theorem Pre.ret(o:Pre A p)(hnt:Γ.nt=nt)(h:go prog (k.rf prog fn) nt 2000 (.run c) K st A=some (.ret k.d0,p):=by kernel_rfl):AW prog Γ c (KQ prog Γ N (k.qq prog fn) K) st:=Ip (n:=2000) A _ hnt mix h o.h rfl
theorem Pre.rts(o:Pre A p)(hnt:Γ.nt=nt)(d:D)(hd:d=k.d0)(h:go prog (k.rf prog fn) nt 2000 (.run c) K st A=some (.ret d,p):=by kernel_rfl):AW prog Γ c (KQ prog Γ N (k.qq prog fn) K) st:=Ip (n:=2000) A _ hnt mix h o.h hd
theorem Pre.cs(o:Pre A p)(hnt:Γ.nt=nt){n:Nat}(hS:N1 (depth K')=Pd prog Γ c' (KQ prog Γ N (k.qq prog fn) K') n)(S:St)(e:S=sn)(t:Pd prog Γ c' (KQ prog Γ N (k.qq prog fn) K') n sn)
 (h:go prog (k.rf prog fn) nt 2000 (.run c) K st A=some (.cont (depth K') S,p):=by kernel_rfl):AW prog Γ c (KQ prog Γ N1 (k.qq prog fn) K) st:=Ip (n:=2000) A _ hnt mix h o.h ((congrFun hS _).mpr (by rw[e];exact t))
theorem Pre.cf(o:Pre A p)(hnt:Γ.nt=nt){n:Nat}(hS:N1 (depth K')=Pd prog Γ c' (KQ prog Γ N (k.qq prog fn) K') n)(t:Pd prog Γ c' (KQ prog Γ N (k.qq prog fn) K') n sn)
 (h:go prog (k.rf prog fn) nt 2000 (.run c) K st A=some (.cont (depth K') sn,p):=by kernel_rfl):AW prog Γ c (KQ prog Γ N1 (k.qq prog fn) K) st:=o.cs hnt hS _ rfl t h
theorem Pre.ct(o:Pre A p)(hnt:Γ.nt=nt){n i:Nat}{S:Int->St}(hS:N1 (depth K')=Pd prog Γ c' (KQ prog Γ N (k.qq prog fn) K') n)(hi:IntKind.i64.wrap ((i:Int)+1)=((i+1:Nat):Int))(t:Pd prog Γ c' (KQ prog Γ N (k.qq prog fn) K') n (S ((i+1:Nat):Int)))
 (h:go prog (k.rf prog fn) nt 2000 (.run c) K st A=some (.cont (depth K') (S (IntKind.i64.wrap ((i:Int)+1))),p):=by kernel_rfl):AW prog Γ c (KQ prog Γ N1 (k.qq prog fn) K) st:=o.cs hnt hS _ (congrArg S hi) t h
theorem Pre.exs(o:Pre A p)(hnt:Γ.nt=nt)(hN:∀d,d<depth K0->N1 d=N d)(S:St)(e:S=sn)(t:AW prog Γ c' (KQ prog Γ N (k.qq prog fn) K') sn)(hd:depth K'=depth K0:=by kernel_rfl)(h:go prog (k.rf prog fn) nt 2000 (.run c) K st A=some (.at_ c' K' S,p):=by kernel_rfl):
 AW prog Γ c (KQ prog Γ N1 (k.qq prog fn) K) st:=Ip (n:=2000) A _ hnt mix h o.h (a3k (K0:=K0) hd hN (by rw[e];exact t))
theorem Pre.ex(o:Pre A p)(hnt:Γ.nt=nt)(hN:∀d,d<depth K0->N1 d=N d)(t:AW prog Γ c' (KQ prog Γ N (k.qq prog fn) K') sn)(hd:depth K'=depth K0:=by kernel_rfl)(h:go prog (k.rf prog fn) nt 2000 (.run c) K st A=some (.at_ c' K' sn,p):=by kernel_rfl):
 AW prog Γ c (KQ prog Γ N1 (k.qq prog fn) K) st:=o.exs hnt hN _ rfl t hd h
theorem Pre.lps(o:Pre A p)(hnt:Γ.nt=nt){n:Nat}(S:St)(e:S=sn)(t:Pd prog Γ c' (KQ prog Γ N (k.qq prog fn) K') n sn)(h:go prog (k.rf prog fn) nt 2000 (.run c) K st A=some (.lp c' K' S,p):=by kernel_rfl):
 AW prog Γ c (KQ prog Γ N (k.qq prog fn) K) st:=Ip (n:=2000) A _ hnt mix h o.h (a10 e (Vd t))
theorem Pre.lp(o:Pre A p)(hnt:Γ.nt=nt){n:Nat}(t:Pd prog Γ c' (KQ prog Γ N (k.qq prog fn) K') n sn)(h:go prog (k.rf prog fn) nt 2000 (.run c) K st A=some (.lp c' K' sn,p):=by kernel_rfl):
 AW prog Γ c (KQ prog Γ N (k.qq prog fn) K) st:=o.lps hnt _ rfl t h
end
abbrev lc(f:Func)(p:List Nat):Code:=(Xc (vh f) p []).1
abbrev lk'(f:Func)(p:List Nat):List Fr:=(Xc (vh f) p []).2
abbrev Ax(Γ:sO)(N:Nat->St->Prop)(f:Func)(k:Kd)(p:List Nat)(s:St):Prop:=AW prog Γ (lc f p) (KQ prog Γ N (k.qq prog f) (lk' f p)) s
abbrev Ar(Γ:sO)(N:Nat->St->Prop)(f:Func)(k:Kd)(p:List Nat)(n:Nat)(s:St):Prop:=Pd prog Γ (lc f (p++[0])) (KQ prog Γ N (k.qq prog f) (lk' f p)) n s
theorem gd{f:FuncId}{fn:Func}{ds:aL}{d:D}(hf:prog.funcs[f]?=some fn)(nz:List (List (Option (Nat×Nat))))(nt:Nat)(h:(∀d∈ds,j0 d)->∀Γ:sO,Γ.nt=nt->AW prog Γ (vh fn) (KQ prog Γ (fun _ _=>False) ((Kd.q nz d).qq prog fn) []) ⟨uW 0 ds,[]⟩)
 (hb:fn.body=some (vh fn):=by kernel_rfl) (hn:(fn.name== "runtime.NumGoroutine")=false:=by kernel_rfl) (hl:Nat.ble ds.length fn.ntmps=true:=by kernel_rfl) (ht:fn.ntmps=nt:=by kernel_rfl):Good prog f ds d:=
 Good.of hf hb hn (ng hl) fun hr Γ hΓ=>h hr Γ (hΓ.trans ht)
theorem gdN{f:FuncId}{fn:Func}{ds cells:aL}(hf:prog.funcs[f]?=some fn)(nt:Nat)(h:(∀d∈ds,j0 d)->∀Γ:sO,Γ.nt=nt->AW prog Γ (vh fn) (KQ prog Γ (fun _ _=>False) ((Kd.n cells).qq prog fn) []) ⟨uW 0 ds,[]⟩)
 (hb:fn.body=some (vh fn):=by kernel_rfl) (hn:(fn.name== "runtime.NumGoroutine")=false:=by kernel_rfl) (hl:Nat.ble ds.length fn.ntmps=true:=by kernel_rfl) (ht:fn.ntmps=nt:=by kernel_rfl):FL prog f ds cells:=
 FL.of hf hb hn (ng hl) fun hr Γ hΓ=>h hr Γ (hΓ.trans ht)
theorem J9{f:FuncId}{fn:Func}{cells cells' ds:aL}{d:D}(hf:prog.funcs[f]?=some fn)(nz:List (List (Option (Nat×Nat))))(nt:Nat)(Bb Jz:aL)(obs:bP)
 (h:(∀x∈(D.agg cells::ds).map D.Un,j0 x)->∀(v0:Value) (Γ:sO),Γ.nt=nt->AW prog Γ (vh fn) (KQ prog Γ (fun _ _=>False) ((Kd.p nz v0 cells' d).qq prog fn) []) ⟨uW 0 (.ptr 0 0::Jz),.BQ Bb v0::obs⟩)
 (hI:xf 1 (.agg cells::ds)=(.agg Bb::Jz,obs):=by kernel_rfl) (hb:fn.body=some (vh fn):=by kernel_rfl) (hn:(fn.name== "runtime.NumGoroutine")=false:=by kernel_rfl) (hl:Nat.ble (Jz.length+1) fn.ntmps=true:=by kernel_rfl) (ht:fn.ntmps=nt:=by kernel_rfl):jP prog f cells cells' ds d:=
 jP.of hf hb hn hI (ng hl) fun hr v0 Γ hΓ=>h hr v0 Γ (hΓ.trans ht)
theorem gdF{f:FuncId}{fn:Func}{ds:aL}{d:D}(hf:prog.funcs[f]?=some fn)(nz:List (List (Option (Nat×Nat))))(nt:Nat)(Jz:aL)(obs:bP)
 (h:(∀x∈ds.map D.Un,j0 x)->∀(Γ:sO),Γ.nt=nt->AW prog Γ (vh fn) (KQ prog Γ (fun _ _=>False) ((Kd.q nz d).qq prog fn) []) ⟨uW 0 Jz,obs⟩)
 (hI:xf 0 ds=(Jz,obs):=by kernel_rfl) (hb:fn.body=some (vh fn):=by kernel_rfl) (hn:(fn.name== "runtime.NumGoroutine")=false:=by kernel_rfl) (hl:Nat.ble Jz.length fn.ntmps=true:=by kernel_rfl) (ht:fn.ntmps=nt:=by kernel_rfl):FK prog f ds d:=
 FK.of hf hb hn hI (ng hl) fun hr Γ hΓ=>h hr Γ (hΓ.trans ht)
end Go.Cx
namespace Go.Cx
open Go.RowKit Go.Proofs Tryz
abbrev aO:=List aG
abbrev aP:=List aQ
abbrev af:=List aH
abbrev au:=List aJ
abbrev bE:=List aX
abbrev bR:=List Node
abbrev bS:=List ai
abbrev dN:=List Action
theorem jw{α:Type}[DecidableEq α][BEq α][LawfulBEq α](a b:α):(a==b)=decide (a=b):=by rw[bg];simp
def sM{α:Type}(w:α->Nat)(l:List α):Nat:=l.length+(l.map w).sum
def tw(s:Bytes):Nat:=s.length
theorem mo{α:Type}(w:α->Nat)(x:α)(l:List α):sM w (x::l)=1+w x+sM w l:=by simp[sM];omega
theorem PW{α:Type}(w:α->Nat)(a b:List α):sM w (a++b)=sM w a+sM w b:=by
 induction a with
 |nil=>simp[sM]
 |cons x a ih=>rw[oo,mo,mo,ih];omega
theorem rz{α:Type}(w:α->Nat)(l:List α):l.length<=sM w l:=by unfold sM;omega
theorem s4{α:Type}{w:α->Nat}{l:List α}{x:α}(h:x∈l):w x+1<=sM w l:=by
 induction l with
 |nil=>cases h
 |cons y l ih=>
  rw[mo];rcases bH.1 h with rfl|h
  ·omega
  ·have:=ih h;omega
theorem Yu{α:Type}[DecidableEq α]{f:α->α->Option Bool}{a b:List α}{c:α->aL}(L:Option Bool->List α->Nat->Option Bool)(qZ:∀k i,L k [] i=k)
 (pS:∀k x xs i,L k (x::xs) i=(iM b (i:Int)).bind fun y=>(f x y).bind fun r=>bif !r then some false else L k xs (i+1)) (hf:∀x y,f x y=some (decide (x=y))):
 (bif (((a.map c).length:Int) != ((b.map c).length:Int))then some false else L (some true) a 0)=some (decide (a=b)):=by
 by_cases hl:a.length=b.length
 ·have e:(((a.map c).length:Int) != ((b.map c).length:Int))=false:=by simp[hl]
  rw[e];have key:∀(ra rb pa pb:List α),a=pa++ra->b=pb++rb->pa.length=pb.length->L (some true) ra pa.length=some (decide (ra=rb)):=by
   intro ra
   induction ra with
   |nil=>
    intro rb pa pb h1 h2 h3;rw[qZ];have:rb=[]:=by
     have:=congrArg List.length h1;have:=congrArg List.length h2;simp at*;apply cM;omega
    subst this;simp
   |cons x xs ih=>
    intro rb pa pb h1 h2 h3;cases rb with
    |nil=>
     exfalso;have:=congrArg List.length h1;have:=congrArg List.length h2;simp at*;omega
    |cons y ys=>
     rw[pS];have e1:iM b (pa.length:Int)=some y:=by
      unfold iM;have:b[pa.length]?=some y:=by rw[h2,h3];simp
      simp[this]
     rw[e1,aA,hf,aA];have:=ih ys (pa++[x]) (pb++[y]) (by rw[h1];simp) (by rw[h2];simp) (by simp[h3]);by_cases hxy:x=y
     ·subst hxy;simp only[decide_true,bn,aW];simp only[av,aT,bW]at this;rw[this];simp
     ·simp[hxy]
  have:=key a b [] [] rfl rfl rfl;simpa using this
 ·have e:(((a.map c).length:Int) != ((b.map c).length:Int))=true:=by simp;omega
  rw[e];have:a≠b:=fun h=>hl (by rw[h])
  simp[this]
end Go.Cx
namespace Go.Cx
end Go.Cx
namespace Go.Cx
end Go.Cx
namespace Go.Cx
end Go.Cx
namespace Go.Cx
end Go.Cx
namespace Go.Cx
open Go.RowKit Go.Proofs Tryz
def aG.wt(x:aG):Nat:=tw x.rel+sM tw x.args
def aH.wt(x:aH):Nat:=tw x.pat.rel+sM tw x.pat.args+tw x.left+tw x.right
def Action.wt(x:Action):Nat:=tw x.pat.rel+sM tw x.pat.args
def aJ.wt(x:aJ):Nat:=tw x.name+sM aH.wt x.conds+sM Action.wt x.cO
end Go.Cx
namespace Go.Cx
open Go.RowKit Go.Proofs Go.Shelf Tryz
theorem Rd.rC{w:World}{v:Value}{s:Bytes}{bs:aS}(h:Rd w v (.str s) bs):∃y:ByteArray,v=.string y/\y.data.toList=s/\y.size<=maxLen/\bs=[]:=by
 cases h with
 |str y hy=>exact⟨y,rfl,rfl,hy,rfl⟩
theorem jv.strs{w:World}{xs:aF}:∀ {cs:bp} {bs:aS},jv w cs (xs.map D.str) bs->∃ys:List ByteArray,cs=ys.map Value.string/\ys.map (·.data.toList)=xs:=by
 induction xs with
 |nil=>intro cs bs h;cases h;exact⟨[],rfl,rfl⟩
 |cons x xs ih=>
  intro cs bs h;cases h with
  |cons v vs d ds b1 b2 h1 h2 h3=>
   obtain⟨y,e1,e2,_,_⟩:=h2.rC;obtain⟨ys,e3,e4⟩:=ih h3;exact⟨y::ys,by simp[e1,e3],by simp[e2,e4]⟩
theorem IX(xs:aF):(xs.map tx).flatten=xs.map D.str:=by
 induction xs with
 |nil=>rfl
 |cons x xs ih=>simp[tx,ih]
theorem Calls.txt{P:Program}{f:FuncId}{args:Array Value}{w:World}{r:ByteArray}{Θ:Nat->Nat}(hr:r.size<=maxLen)
 (h:Calls P f args w fun e w'=>e=.returned (.string r)/\Below w.heap.size w w'):
 Calls P f args w (fun e w'=>∃v bs' ts us,e=.returned v/\Below w.heap.size w w'/\wM w' v (.str r.data.toList) bs' ts us/\(∀b∈bs',b<w.heap.size->Θ b=0)/\(∀b∈bs',b∉ts)/\us.Nodup/\
  (∀b∈us,w.heap.size<=b/\Wr w' b)/\∀b∈ts,b∈us):=
 h.mono fun e w' ⟨h1,h2⟩=>⟨_,[],[],[],h1,h2,.v (.cell (.pure (.str r hr))),by simp,by simp,by simp,by simp,by simp⟩
def Lv(xs:aF)(sep:Bytes):Option Bytes:=if(Lib.join xs sep).length<=140737488355328/\xs.length<=140737488355328 then some (Lib.join xs sep)else none
theorem NQ{P:Program}{ρ:Ren}(L:Lays.n156 P ρ)(X:Builder.Extra P ρ){xs:aF}{sep r:Bytes}(h:Lv xs sep=some r):
 Good P (ρ.f 156) [.sl (xs.map tx),.str sep] (.str r):=by
 unfold Lv at h;split at h
 ·rename_i hl;cases h;obtain⟨hl,hn⟩:=hl;refine⟨⟨_,L.f156,rfl,rfl⟩,?_⟩;intro w Θ args bs _ ha _ _ _;obtain _|⟨v1,_,_,_,b1,_,h1,ha⟩:=ha;obtain _|⟨v2,_,_,_,b2,_,h2,ha⟩:=ha;cases ha;obtain⟨y,rfl,rfl,_,_⟩:=h2.rC;have Kw:∀(a:Option Addr) (c:Nat),xs=[]->Calls P (ρ.f 156) [Value.slice a 0 c,.string y].toArray w (fun e w'=>∃v bs' ts us,e=.returned v/\Below w.heap.size w w'/\wM w' v (.str (Lib.join xs y.data.toList)) bs' ts us/\(∀b∈bs',b<w.heap.size->Θ b=0)/\(∀b∈bs',b∉ts)/\us.Nodup/\
   (∀b∈us,w.heap.size<=b/\Wr w' b)/\∀b∈ts,b∈us):=by
   intro a c hx;subst hx;exact Calls.txt (r:=⟨#[]⟩) (by decide) ((Any.strings_Join_none L X a c y w).mono fun e w' ⟨k1,k2⟩=>⟨k1,k2▸Below.refl _ _⟩)
  generalize qC:xs.map tx=rows at h1;cases h1 with
  |vW=>exact Kw none 0 (by simpa using qC)
  |mT a cap _=>exact Kw (some a) cap (by simpa using qC)
  |sl b off cap sz rows cs bs k1 k2 k3 k4 k5 k6=>
   subst qC;rw[IX]at k6;obtain⟨ys,rfl,rfl⟩:=k6.strs;have:=Any.strings_Join L X b off cap ys y w (fun j x hx=>k5 j _ (by simp[hx])) k1 (by simpa using hn) (by simpa using k2) hl;rw[ar,ar];refine Calls.txt (r:=⟨(Lib.join (ys.map (·.data.toList)) y.data.toList).toArray⟩) ?_ this;show(Lib.join (ys.map (·.data.toList)) y.data.toList).toArray.size<=maxLen;simp only[tq,maxLen];omega
 ·cases h
end Go.Cx
namespace Go.Cx
open Go.RowKit Go.Proofs Go.Shelf Go.Sort Tryz
theorem jv.XG{w:World}{xs:aF}:∀ {cs:bp} {bs:aS},jv w cs (xs.map D.str) bs->∀x∈xs,x.length<=maxLen:=by
 induction xs with
 |nil=>intro cs bs h x hx;cases hx
 |cons x xs ih=>
  intro cs bs h y hy;cases h with
  |cons v vs d ds b1 b2 h1 h2 h3=>
   obtain⟨s,_,e2,e3,_⟩:=h2.rC;rcases bH.1 hy with rfl|hy
   ·rw[<-e2];exact e3
   ·exact ih h3 y hy
theorem jv.QV{w:World}:∀ {xs:aF},(∀x∈xs,x.length<=maxLen)->jv w (xs.map encStr) (xs.map D.str) []
 | [],_=>.nil
 |x::xs,h=>by
  have h1:Rd w (.string ⟨x.toArray⟩) (.str x) []:=by
   have:=Rd.str (w:=w) ⟨x.toArray⟩ (by have:=h x (by simp);simpa[ByteArray.size]using this);simpa using this
  exact .cons _ _ _ _ [] [] rfl h1 (jv.QV fun y hy=>h y (by simp[hy]))
theorem N0(xs:aF):(xs.map tx).flatten.all D.flat=true:=by
 rw[IX];simp[D.flat]
def mU(xs:aF):aF:=xs.mergeSort fun x y=>decide (x<=y)
theorem xp(xs:aF):(mU xs).Perm xs:=List.mergeSort_perm _ _
theorem JQ{P:Program}{ρ:Ren}(L:Lays.n192 P ρ){e:TypeId}{xs:aF}(hn:xs.length<4611686018427387904):Ma P (ρ.f 192) e 1 (xs.map tx) ((mU xs).map tx):=by
 refine⟨⟨_,L.f192,rfl,rfl⟩,?_⟩;intro w v cs hsz hrl hown hrd;rw[IX]at hrd;have hle:=hrd.XG;obtain⟨ys,rfl,hys⟩:=hrd.strs;have hlen:(mU xs).length=xs.length:=(xp xs).length_eq;have IN:∀r∈(mU xs).map tx,r.length=1:=by
  intro r hr;obtain⟨x,_,rfl⟩:=cJ.1 hr;rfl
 rcases hown.2 with⟨rfl,h0⟩|⟨g,cap,cur,rfl,hb,Lg,hnc,hcm,hcs,NI⟩
 ·have hx:xs=[]:=by simpa using h0
  subst hx;refine(Any.sort_Strings_none L none 0 w).mono ?_;rintro e' w' ⟨rfl,rfl⟩;exact⟨rfl,rfl,rfl,rfl,bL _,fun _ _ _=>rfl,IN,[],⟨by simp[hlen],.inl ⟨rfl,by simp[hlen]⟩⟩,by simpa[mU]using jv.nil⟩
 ·rw[ar]at hnc NI⊢;rw[Nat.mul_one]at NI hcs;have hyl:ys.length=xs.length:=by rw[<-hys];simp
  have JD:∀j,j<xs.length->cur[j]?=some (encStr xs.toArray[j]!):=by
   intro j hj;have h1:(cur.toList.take xs.length)[j]?=cur[j]?:=by rw[yY hj];simp
   rw[<-h1,NI,bU];have hj':j<ys.length:=by omega
   rw[aV hj'];have:xs[j]?=some ys[j].data.toList:=by rw[<-hys,bU,aV hj'];rfl
   have hx:xs.toArray[j]! =ys[j].data.toList:=by
    rw[getElem!_pos _ _ (by simpa using hj)];rw[aV hj]at this;simpa using this
   rw[hx];simp[encStr]
  have hH:Holds encStr w g 0 xs.toArray:=by
   intro j hj;have hj:j<xs.length:=by simpa using hj
   refine⟨?_,?_⟩
   ·rw[<-JD j hj];simp[World.cell?,Lg]
   ·simp[World.frozen?,Lg]
  have hblk:g<w.heap.size:=(az.1 Lg).1;refine(Any.sort_Strings L g 0 cap xs w hH hblk hn).mono ?_;rintro e' w' ⟨rfl,n,os,rfl⟩;have hheap:(grow (putRow encStr (Sort.ahead w n) g 0 (mU xs).toArray) os).heap=(w.heap.modify g (onCells (putCells encStr 0 (mU xs).toArray)))++os:=rfl;have JB:∀b,b<w.heap.size->b≠g->(grow (putRow encStr (Sort.ahead w n) g 0 (mU xs).toArray) os).heap[b]?=w.heap[b]?:=by
   intro b hb hne;rw[hheap,eG (by simpa using hb),uS,b9 (fun e=>hne e.symm)]
  have hrow:(grow (putRow encStr (Sort.ahead w n) g 0 (mU xs).toArray) os).heap[g]?=some (.cells (putCells encStr 0 (mU xs).toArray cur) e (0,0)):=by
   rw[hheap,eG (by simpa using hblk),uS,bN rfl,Lg];rfl
  refine⟨rfl,rfl,rfl,rfl,by show w.heap.size<=(grow (putRow encStr (Sort.ahead w n) g 0 (mU xs).toArray) os).heap.size;rw[hheap];simp,fun b hb hne=>JB b hb fun e=>hne (by rw[e];rfl),IN,(mU xs).map encStr,⟨by simp,.inr ⟨g,cap,_,by simp[hlen],hb,hrow,by simpa[hlen]using hnc,hcm,by simp[putCells,hcs],?_⟩⟩,?_⟩
  ·apply mI;intro j;simp only[ar,Nat.mul_one];by_cases hj:j<(mU xs).length
   ·have hj2:j<cur.size:=by omega
    rw[yY hj,bU,aV hj];simp[putCells,hj2,hj]
   ·rw[cB (by simp;omega),cB (by simp;omega)]
  ·rw[IX];exact jv.QV fun x hx=>hle x ((xp xs).mem_iff.1 hx)
end Go.Cx
namespace Go.Cx
open Go.RowKit Go.Proofs Go.Shelf Go.Lib Tryz
theorem Tg(n:Int)(h:nS .i64 n):(itoa n).length<=20:=by
 have h1: -9223372036854775808<=n:=h.1;have h2:n<=9223372036854775807:=h.2;have key:∀u:Nat,u<=9223372036854775808->nDigits u<=19:=by
  intro u hu;by_cases h0:u=0
  ·subst h0;rw[nDigits_small (by omega)];omega
  ·by_cases hk:nDigits u<=19
   ·exact hk
   ·exfalso;have Zh:∀(k v:Nat),v<10^k->1<=k->nDigits v<=k:=by
     intro k
     induction k with
     |zero=>intro v _ h;omega
     |succ k ih=>
      intro v hv _;by_cases h10:v<10
      ·rw[nDigits_small h10];omega
      ·rw[nDigits_big h10];have h3:v/10<10^k:=by rw[tu]at hv;omega
       have hk1:1<=k:=by
        cases k with
        |zero=>simp at hv;omega
        |succ k=>omega
       have:=ih (v/10) h3 hk1;omega
    have:=Zh 19 u (by omega) (by omega);omega
 unfold itoa;split
 ·rw[aT,decDigits_length];have:=key n.natAbs (by omega);omega
 ·rw[decDigits_length];have:=key n.toNat (by omega);omega
theorem Mn(w:World)(k:Nat)(os:Array Obj):Below w.heap.size w (Sort.grow (w.drewN k) os):=
 ⟨rfl,rfl,rfl,by show w.heap.size<=(w.heap++os).size;simp,fun b hb=>by show(w.heap++os)[b]?=_;rw[eG hb]⟩
theorem NP{P:Program}{ρ:Ren}(L:LaysM.n171 P ρ){g:Nat}(hg:P.globalNamed "internal/strconv.uint64pow10" =some g)(hx:(g,fun cs:bp=>cs=pow10Tab.map fun z=>Value.int .u64 z)∈vZ){n:Int}:
 Good P (ρ.f 171) [.int .i64 n] (.str (itoa n)):=by
 refine⟨⟨_,L.f171,rfl,rfl⟩,?_⟩;intro w Θ args bs hv ha _ _ _;obtain _|⟨v1,_,_,_,b1,_,h1,ha⟩:=ha;cases ha;cases h1 with
 |int _ _ hr=>
  have h0: -9223372036854775808<=n:=hr.1;have h1:n<=9223372036854775807:=hr.2;have hl:=Tg n hr;have ht:TabIs P w "internal/strconv.uint64pow10" .u64 pow10Tab:=by
   obtain⟨cs,h2,h3⟩:=hv.var hx hg;have h4:cs=(pow10Tab.map fun z=>Value.int .u64 z).toArray:=by rw[<-h3]
   rw[h4]at h2;exact h2
  have:=Calls.txt (Θ:=Θ) (r:=⟨(itoa n).toArray⟩) (by show(itoa n).toArray.size<=maxLen;rw[tq];unfold maxLen;omega)
   ((Any.strconv_Itoa L n h0 h1 w ht).mono fun e w' ⟨k1,k,os,k2⟩=>⟨k1,by subst k2;exact Mn w k os⟩)
  simpa using this
end Go.Cx
namespace Go.Cx
open Go.RowKit Go.Proofs Go.Shelf Go.Lib Tryz
theorem Mm(w:World)(t5:TypeId)(t:ByteArray):Below w.heap.size w (Lib.bytesWorld w t5 t):=Lib.bytesWorld_below _ _ _
def Lu(s:Bytes):Option (Int×Bool):=if s.length<=18 then(match Lib.atoi s with|some n=>some (n,false)|none=>some (0,true))else none
theorem NO{P:Program}{ρ:Ren}(L:LaysC.n172 P ρ){g:Nat}(hg:P.globalNamed "strconv.ErrSyntax" =some g)(hx:(g,fun cs:bp=>∃tp p,cs=[Value.iface tp p])∈vZ){s:Bytes}{r:Int×Bool}(h:Lu s=some r):
 Good P (ρ.f 172) [.str s] (.iK [.int .i64 r.1,.Xq r.2]):=by
 refine⟨⟨_,L.f172,rfl,rfl⟩,?_⟩;intro w Θ args bs hv ha _ _ _;obtain _|⟨v1,_,_,_,b1,_,h1,ha⟩:=ha;cases ha;obtain⟨y,rfl,rfl,_,_⟩:=h1.rC;unfold Lu at h;split at h
 ·rename_i hl;have hl':y.size<=18:=by simpa using hl
  split at h
  ·rename_i n hn;cases h;have hb:=Lib.atoi_bound hn hl;refine(Any.strconv_Atoi L.toM.ton172 y n hl' hn w).mono ?_;rintro e w' ⟨rfl,t,rfl⟩;exact⟨_,[],[],[],rfl,Mm _ _ _,.iK [.int .i64 n,.nilIface] [.int .i64 n,.Xq false] [] [] [] (.cons _ _ _ _ [] [] [] [] [] [] (.cell (.pure (.int _ _ (nS.i64.2 (by omega))))) (.cons _ _ _ _ [] [] [] [] [] [] (.cell (.pure .RM)) .nil)),by simp,by simp,by simp,by simp,by simp⟩
  ·rename_i hn;cases h;obtain⟨cs,h2,tp,p,h3⟩:=hv.var hx hg;have h4:cs= #[.iface tp p]:=by rw[<-om,h3]
   rw[h4]at h2;refine(Any.strconv_Atoi_err_var L y hl' hn tp p w h2).mono ?_;rintro e w' ⟨N,rfl,_,_,S7⟩;exact⟨_,[],[],[],rfl,S7,.iK [.int .i64 0,.iface _ _] [.int .i64 0,.Xq true] [] [] [] (.cons _ _ _ _ [] [] [] [] [] [] (.cell (.pure (.int _ _ (nS.zero _)))) (.cons _ _ _ _ [] [] [] [] [] [] (.cell (.pure (.RN _ _))) .nil)),by simp,by simp,by simp,by simp,by simp⟩
 ·cases h
theorem Pu:∀(a b:Bytes), -1<=Lib.compareBytes a b/\Lib.compareBytes a b<=1
 | [],[]=>by simp[Lib.compareBytes]
 | [],_::_=>by simp[Lib.compareBytes]
 |_::_,[]=>by simp[Lib.compareBytes]
 |a::xs,b::ys=>by
  simp only[Lib.compareBytes];split
  ·omega
  ·split
   ·omega
   ·exact Pu xs ys
theorem JP{P:Program}{ρ:Ren}(L:Lays.n106 P ρ){a b:Bytes}:Good P (ρ.f 106) [.str a,.str b] (.int .i64 (Lib.compareBytes a b)):=by
 refine⟨⟨_,L.f106,rfl,rfl⟩,?_⟩;intro w Θ args bs hv ha _ _ _;obtain _|⟨v1,_,_,_,b1,_,h1,ha⟩:=ha;obtain _|⟨v2,_,_,_,b2,_,h2,ha⟩:=ha;cases ha;obtain⟨y,rfl,rfl,_,_⟩:=h1.rC;obtain⟨z,rfl,rfl,_,_⟩:=h2.rC;have hc:=Pu y.data.toList z.data.toList;refine(Any.strings_Compare L y z w).mono ?_;rintro e w' ⟨rfl,rfl⟩;exact⟨_,[],[],[],rfl,Below.refl _ _,.v (.cell (.pure (.int _ _ (nS.i64.2 (by omega))))),by simp,by simp,by simp,by simp,by simp⟩
end Go.Cx
namespace Go.Cx
open Go.RowKit Go.Proofs Go.Shelf Tryz
def Hz:Ren:=⟨fun|156=>232|165=>251|166=>252|169=>253|240=>267|241=>268|276=>288|277=>289|n=>n,fun|31=>35|9=>9|3=>3|4=>4|0=>0|20=>20|72=>220|76=>210|70=>218|37=>22|75=>209|127=>236|164=>254|5=>5|80=>222|n=>n,fun|n=>n⟩
theorem Wj:Lays.n156 prog Hz:= {
 mixed:=by kernel_rfl,
 f156:=func232.trans (congrArg some (by kernel_rfl)),
 f165:=func251.trans (congrArg some (by kernel_rfl)),
 f166:=func252.trans (congrArg some (by kernel_rfl)),
 f169:=func253.trans (congrArg some (by kernel_rfl)),
 f240:=func267.trans (congrArg some (by kernel_rfl)),
 f241:=func268.trans (congrArg some (by kernel_rfl)),
 f276:=func288.trans (congrArg some (by kernel_rfl)),
 f277:=func289.trans (congrArg some (by kernel_rfl)),
 t0:=underlying0,
 a0:=Tryz.isAgg0,
 z0:=Tryz.sizeOf0,
 v0:=Tryz.zeroValue0,
 t3:=underlying3,
 a3:=Tryz.isAgg3,
 z3:=Tryz.sizeOf3,
 v3:=Tryz.zeroValue3,
 t4:=underlying4,
 a4:=Tryz.isAgg4,
 z4:=Tryz.sizeOf4,
 v4:=Tryz.zeroValue4,
 t9:=underlying9,
 a9:=Tryz.isAgg9,
 z9:=Tryz.sizeOf9,
 v9:=Tryz.zeroValue9,
 t20:=underlying20,
 a20:=Tryz.isAgg20,
 z20:=Tryz.sizeOf20,
 v20:=Tryz.zeroValue20,
 t31:=underlying35,
 a31:=Tryz.isAgg35,
 z31:=Tryz.sizeOf35,
 v31:=Tryz.zeroValue35,
 t37:=underlying22,
 a37:=Tryz.isAgg22,
 z37:=Tryz.sizeOf22,
 v37:=Tryz.zeroValue22,
 t70:=underlying218,
 a70:=Tryz.isAgg218,
 z70:=Tryz.sizeOf218,
 v70:=Tryz.zeroValue218,
 t72:=underlying220,
 a72:=Tryz.isAgg220,
 z72:=Tryz.sizeOf220,
 v72:=Tryz.zeroValue220,
 t75:=underlying209,
 a75:=Tryz.isAgg209,
 z75:=Tryz.sizeOf209,
 v75:=Tryz.zeroValue209,
 t76:=underlying210,
 a76:=Tryz.isAgg210,
 z76:=Tryz.sizeOf210,
 v76:=Tryz.zeroValue210,
 t127:=underlying236,
 a127:=Tryz.isAgg236,
 z127:=Tryz.sizeOf236,
 v127:=Tryz.zeroValue236,
 t164:=underlying254,
 a164:=Tryz.isAgg254,
 z164:=Tryz.sizeOf254,
 v164:=Tryz.zeroValue254}
theorem Yw:Builder.Extra prog Hz:= {sizeBuilder:=by kernel_rfl,liesBuilder:=by kernel_rfl,t5:=underlying5,a5:=Tryz.isAgg5,z5:=Tryz.sizeOf5,v5:=Tryz.zeroValue5,infoByte:=by kernel_rfl,cellsByte:=by kernel_rfl,sizeByte:=by kernel_rfl,neB5:=by decide}
def xa(aC:aF)(aa:Bytes):Option Bytes:=Lv aC aa
theorem Dr{aC:aF}{aa:Bytes}{r:Bytes}(h:xa aC aa=some r):Good prog 232 [.sl (aC.map tx),.str aa] (.str r):=NQ Wj Yw h
def NS:Ren:=⟨fun|192=>223|190=>242|125=>258|258=>257|128=>280|129=>263|302=>271|303=>272|304=>273|305=>274|306=>275|307=>276|308=>277|309=>278|310=>279|333=>291|329=>292|330=>293|334=>294|335=>295|336=>296|344=>300|n=>n,fun|31=>35|0=>0|9=>9|3=>3|46=>192|51=>233|53=>213|4=>4|183=>241|182=>240|131=>198|5=>5|218=>259|222=>263|228=>273|229=>154|n=>n,fun|n=>n⟩
theorem Wm:Lays.n192 prog NS:= {
 mixed:=by kernel_rfl,
 f125:=func258.trans (congrArg some (by kernel_rfl)),
 f128:=func280.trans (congrArg some (by kernel_rfl)),
 f129:=func263.trans (congrArg some (by kernel_rfl)),
 f190:=func242.trans (congrArg some (by kernel_rfl)),
 f192:=func223.trans (congrArg some (by kernel_rfl)),
 f258:=func257.trans (congrArg some (by kernel_rfl)),
 f302:=func271.trans (congrArg some (by kernel_rfl)),
 f303:=func272.trans (congrArg some (by kernel_rfl)),
 f304:=func273.trans (congrArg some (by kernel_rfl)),
 f305:=func274.trans (congrArg some (by kernel_rfl)),
 f306:=func275.trans (congrArg some (by kernel_rfl)),
 f307:=func276.trans (congrArg some (by kernel_rfl)),
 f308:=func277.trans (congrArg some (by kernel_rfl)),
 f309:=func278.trans (congrArg some (by kernel_rfl)),
 f310:=func279.trans (congrArg some (by kernel_rfl)),
 f329:=func292.trans (congrArg some (by kernel_rfl)),
 f330:=func293.trans (congrArg some (by kernel_rfl)),
 f333:=func291.trans (congrArg some (by kernel_rfl)),
 f334:=func294.trans (congrArg some (by kernel_rfl)),
 f335:=func295.trans (congrArg some (by kernel_rfl)),
 f336:=func296.trans (congrArg some (by kernel_rfl)),
 f344:=func300.trans (congrArg some (by kernel_rfl)),
 t0:=underlying0,
 a0:=Tryz.isAgg0,
 z0:=Tryz.sizeOf0,
 v0:=Tryz.zeroValue0,
 t3:=underlying3,
 a3:=Tryz.isAgg3,
 z3:=Tryz.sizeOf3,
 v3:=Tryz.zeroValue3,
 t4:=underlying4,
 a4:=Tryz.isAgg4,
 z4:=Tryz.sizeOf4,
 v4:=Tryz.zeroValue4,
 t5:=underlying5,
 a5:=Tryz.isAgg5,
 z5:=Tryz.sizeOf5,
 v5:=Tryz.zeroValue5,
 t9:=underlying9,
 a9:=Tryz.isAgg9,
 z9:=Tryz.sizeOf9,
 v9:=Tryz.zeroValue9,
 t31:=underlying35,
 a31:=Tryz.isAgg35,
 z31:=Tryz.sizeOf35,
 v31:=Tryz.zeroValue35,
 t46:=underlying192,
 a46:=Tryz.isAgg192,
 z46:=Tryz.sizeOf192,
 v46:=Tryz.zeroValue192,
 t51:=underlying233,
 a51:=Tryz.isAgg233,
 z51:=Tryz.sizeOf233,
 v51:=Tryz.zeroValue233,
 t53:=underlying213,
 a53:=Tryz.isAgg213,
 z53:=Tryz.sizeOf213,
 v53:=Tryz.zeroValue213,
 t131:=underlying198,
 a131:=Tryz.isAgg198,
 z131:=Tryz.sizeOf198,
 v131:=Tryz.zeroValue198,
 t182:=underlying240,
 a182:=Tryz.isAgg240,
 z182:=Tryz.sizeOf240,
 v182:=Tryz.zeroValue240,
 t183:=underlying241,
 a183:=Tryz.isAgg241,
 z183:=Tryz.sizeOf241,
 v183:=Tryz.zeroValue241,
 t218:=underlying259,
 a218:=Tryz.isAgg259,
 z218:=Tryz.sizeOf259,
 v218:=Tryz.zeroValue259,
 t222:=underlying263,
 a222:=Tryz.isAgg263,
 z222:=Tryz.sizeOf263,
 v222:=Tryz.zeroValue263,
 t228:=underlying273,
 a228:=Tryz.isAgg273,
 z228:=Tryz.sizeOf273,
 v228:=Tryz.zeroValue273,
 t229:=underlying154,
 a229:=Tryz.isAgg154,
 z229:=Tryz.sizeOf154,
 v229:=Tryz.zeroValue154}
theorem DS{e:TypeId}{xs:aF}(hn:xs.length<4611686018427387904):Ma prog 223 e 1 (xs.map tx) ((mU xs).map tx):=JQ Wm hn
def I0:Ren:=⟨fun|171=>114|243=>177|246=>231|283=>247|284=>248|285=>249|286=>250|129=>263|317=>262|318=>264|319=>265|320=>266|337=>286|338=>287|n=>n,fun|3=>3|9=>9|2=>2|4=>4|171=>212|0=>0|53=>213|37=>22|5=>5|173=>216|212=>232|51=>233|20=>20|213=>234|46=>192|232=>271|233=>272|n=>n,fun|17=>2|18=>5|19=>6|n=>n⟩
theorem Wk:Lays.n171 prog I0:= {
 mixed:=by kernel_rfl,
 f129:=func263.trans (congrArg some (by kernel_rfl)),
 f171:=func114.trans (congrArg some (by kernel_rfl)),
 f243:=func177.trans (congrArg some (by kernel_rfl)),
 f246:=func231.trans (congrArg some (by kernel_rfl)),
 f283:=func247.trans (congrArg some (by kernel_rfl)),
 f284:=func248.trans (congrArg some (by kernel_rfl)),
 f285:=func249.trans (congrArg some (by kernel_rfl)),
 f286:=func250.trans (congrArg some (by kernel_rfl)),
 f317:=func262.trans (congrArg some (by kernel_rfl)),
 f318:=func264.trans (congrArg some (by kernel_rfl)),
 f319:=func265.trans (congrArg some (by kernel_rfl)),
 f320:=func266.trans (congrArg some (by kernel_rfl)),
 f337:=func286.trans (congrArg some (by kernel_rfl)),
 f338:=func287.trans (congrArg some (by kernel_rfl)),
 t0:=underlying0,
 a0:=Tryz.isAgg0,
 z0:=Tryz.sizeOf0,
 v0:=Tryz.zeroValue0,
 t2:=underlying2,
 a2:=Tryz.isAgg2,
 z2:=Tryz.sizeOf2,
 v2:=Tryz.zeroValue2,
 t3:=underlying3,
 a3:=Tryz.isAgg3,
 z3:=Tryz.sizeOf3,
 v3:=Tryz.zeroValue3,
 t4:=underlying4,
 a4:=Tryz.isAgg4,
 z4:=Tryz.sizeOf4,
 v4:=Tryz.zeroValue4,
 t5:=underlying5,
 a5:=Tryz.isAgg5,
 z5:=Tryz.sizeOf5,
 v5:=Tryz.zeroValue5,
 t9:=underlying9,
 a9:=Tryz.isAgg9,
 z9:=Tryz.sizeOf9,
 v9:=Tryz.zeroValue9,
 t20:=underlying20,
 a20:=Tryz.isAgg20,
 z20:=Tryz.sizeOf20,
 v20:=Tryz.zeroValue20,
 t37:=underlying22,
 a37:=Tryz.isAgg22,
 z37:=Tryz.sizeOf22,
 v37:=Tryz.zeroValue22,
 t46:=underlying192,
 a46:=Tryz.isAgg192,
 z46:=Tryz.sizeOf192,
 v46:=Tryz.zeroValue192,
 t51:=underlying233,
 a51:=Tryz.isAgg233,
 z51:=Tryz.sizeOf233,
 v51:=Tryz.zeroValue233,
 t53:=underlying213,
 a53:=Tryz.isAgg213,
 z53:=Tryz.sizeOf213,
 v53:=Tryz.zeroValue213,
 t171:=underlying212,
 a171:=Tryz.isAgg212,
 z171:=Tryz.sizeOf212,
 v171:=Tryz.zeroValue212,
 t173:=underlying216,
 a173:=Tryz.isAgg216,
 z173:=Tryz.sizeOf216,
 v173:=Tryz.zeroValue216,
 t212:=underlying232,
 a212:=Tryz.isAgg232,
 z212:=Tryz.sizeOf232,
 v212:=Tryz.zeroValue232,
 t213:=underlying234,
 a213:=Tryz.isAgg234,
 z213:=Tryz.sizeOf234,
 t232:=underlying271,
 a232:=Tryz.isAgg271,
 z232:=Tryz.sizeOf271,
 v232:=Tryz.zeroValue271,
 t233:=underlying272,
 a233:=Tryz.isAgg272,
 z233:=Tryz.sizeOf272,
 v233:=Tryz.zeroValue272,
 g17:=by kernel_rfl,
 g18:=by kernel_rfl,
 g19:=by kernel_rfl}
theorem To:LaysM.n171 prog I0:= {Wk with
 i0:=by kernel_rfl,
 i2:=by kernel_rfl,
 i3:=by kernel_rfl,
 i4:=by kernel_rfl,
 i5:=by kernel_rfl,
 i9:=by kernel_rfl,
 i20:=by kernel_rfl,
 i37:=by kernel_rfl,
 i46:=by kernel_rfl,
 i51:=by kernel_rfl,
 i53:=by kernel_rfl,
 i171:=by kernel_rfl,
 i173:=by kernel_rfl,
 i212:=by kernel_rfl,
 i232:=by kernel_rfl,
 i233:=by kernel_rfl,
 m17:=by kernel_rfl,
 m18:=by kernel_rfl,
 m19:=by kernel_rfl}
def xZ(aC:Int):Option Bytes:=(fun n:Int=>some (Lib.itoa n)) aC
theorem Dq{aC:Int}{r:Bytes}(h:xZ aC=some r):Good prog 114 [.int .i64 aC] (.str r):=by cases h;exact NP To (g:=2) (by kernel_rfl) (aD (i:=0) (by kernel_rfl))
def CX:Ren:=⟨fun|172=>246|244=>260|245=>261|247=>281|279=>282|280=>283|281=>284|282=>285|287=>297|316=>298|171=>114|205=>299|321=>301|322=>302|243=>177|246=>231|283=>247|284=>248|285=>249|286=>250|129=>263|317=>262|318=>264|319=>265|320=>266|337=>286|338=>287|n=>n,fun|9=>9|3=>3|75=>209|76=>210|4=>4|5=>5|167=>248|37=>22|0=>0|85=>249|2=>2|168=>251|53=>213|175=>265|46=>192|210=>269|127=>236|145=>278|143=>276|21=>21|171=>212|173=>216|212=>232|51=>233|20=>20|213=>234|232=>271|233=>272|80=>222|n=>n,fun|15=>3|16=>4|17=>2|18=>5|19=>6|n=>n⟩
theorem Wl:Lays.n172 prog CX:= {
 mixed:=by kernel_rfl,
 f129:=func263.trans (congrArg some (by kernel_rfl)),
 f171:=func114.trans (congrArg some (by kernel_rfl)),
 f172:=func246.trans (congrArg some (by kernel_rfl)),
 f205:=func299.trans (congrArg some (by kernel_rfl)),
 f243:=func177.trans (congrArg some (by kernel_rfl)),
 f244:=func260.trans (congrArg some (by kernel_rfl)),
 f245:=func261.trans (congrArg some (by kernel_rfl)),
 f246:=func231.trans (congrArg some (by kernel_rfl)),
 f247:=func281.trans (congrArg some (by kernel_rfl)),
 f279:=func282.trans (congrArg some (by kernel_rfl)),
 f280:=func283.trans (congrArg some (by kernel_rfl)),
 f281:=func284.trans (congrArg some (by kernel_rfl)),
 f282:=func285.trans (congrArg some (by kernel_rfl)),
 f283:=func247.trans (congrArg some (by kernel_rfl)),
 f284:=func248.trans (congrArg some (by kernel_rfl)),
 f285:=func249.trans (congrArg some (by kernel_rfl)),
 f286:=func250.trans (congrArg some (by kernel_rfl)),
 f287:=func297.trans (congrArg some (by kernel_rfl)),
 f316:=func298.trans (congrArg some (by kernel_rfl)),
 f317:=func262.trans (congrArg some (by kernel_rfl)),
 f318:=func264.trans (congrArg some (by kernel_rfl)),
 f319:=func265.trans (congrArg some (by kernel_rfl)),
 f320:=func266.trans (congrArg some (by kernel_rfl)),
 f321:=func301.trans (congrArg some (by kernel_rfl)),
 f322:=func302.trans (congrArg some (by kernel_rfl)),
 f337:=func286.trans (congrArg some (by kernel_rfl)),
 f338:=func287.trans (congrArg some (by kernel_rfl)),
 t0:=underlying0,
 a0:=Tryz.isAgg0,
 z0:=Tryz.sizeOf0,
 v0:=Tryz.zeroValue0,
 t2:=underlying2,
 a2:=Tryz.isAgg2,
 z2:=Tryz.sizeOf2,
 v2:=Tryz.zeroValue2,
 t3:=underlying3,
 a3:=Tryz.isAgg3,
 z3:=Tryz.sizeOf3,
 v3:=Tryz.zeroValue3,
 t4:=underlying4,
 a4:=Tryz.isAgg4,
 z4:=Tryz.sizeOf4,
 v4:=Tryz.zeroValue4,
 t5:=underlying5,
 a5:=Tryz.isAgg5,
 z5:=Tryz.sizeOf5,
 v5:=Tryz.zeroValue5,
 t9:=underlying9,
 a9:=Tryz.isAgg9,
 z9:=Tryz.sizeOf9,
 v9:=Tryz.zeroValue9,
 t20:=underlying20,
 a20:=Tryz.isAgg20,
 z20:=Tryz.sizeOf20,
 v20:=Tryz.zeroValue20,
 t21:=underlying21,
 a21:=Tryz.isAgg21,
 z21:=Tryz.sizeOf21,
 v21:=Tryz.zeroValue21,
 t37:=underlying22,
 a37:=Tryz.isAgg22,
 z37:=Tryz.sizeOf22,
 v37:=Tryz.zeroValue22,
 t46:=underlying192,
 a46:=Tryz.isAgg192,
 z46:=Tryz.sizeOf192,
 v46:=Tryz.zeroValue192,
 t51:=underlying233,
 a51:=Tryz.isAgg233,
 z51:=Tryz.sizeOf233,
 v51:=Tryz.zeroValue233,
 t53:=underlying213,
 a53:=Tryz.isAgg213,
 z53:=Tryz.sizeOf213,
 v53:=Tryz.zeroValue213,
 t75:=underlying209,
 a75:=Tryz.isAgg209,
 z75:=Tryz.sizeOf209,
 v75:=Tryz.zeroValue209,
 t76:=underlying210,
 a76:=Tryz.isAgg210,
 z76:=Tryz.sizeOf210,
 v76:=Tryz.zeroValue210,
 t85:=underlying249,
 a85:=Tryz.isAgg249,
 z85:=Tryz.sizeOf249,
 v85:=Tryz.zeroValue249,
 t127:=underlying236,
 a127:=Tryz.isAgg236,
 z127:=Tryz.sizeOf236,
 v127:=Tryz.zeroValue236,
 t143:=underlying276,
 a143:=Tryz.isAgg276,
 z143:=Tryz.sizeOf276,
 v143:=Tryz.zeroValue276,
 t145:=underlying278,
 a145:=Tryz.isAgg278,
 z145:=Tryz.sizeOf278,
 v145:=Tryz.zeroValue278,
 t167:=underlying248,
 a167:=Tryz.isAgg248,
 z167:=Tryz.sizeOf248,
 v167:=Tryz.zeroValue248,
 t168:=underlying251,
 a168:=Tryz.isAgg251,
 z168:=Tryz.sizeOf251,
 v168:=Tryz.zeroValue251,
 t171:=underlying212,
 a171:=Tryz.isAgg212,
 z171:=Tryz.sizeOf212,
 v171:=Tryz.zeroValue212,
 t173:=underlying216,
 a173:=Tryz.isAgg216,
 z173:=Tryz.sizeOf216,
 v173:=Tryz.zeroValue216,
 t175:=underlying265,
 a175:=Tryz.isAgg265,
 z175:=Tryz.sizeOf265,
 v175:=Tryz.zeroValue265,
 t210:=underlying269,
 a210:=Tryz.isAgg269,
 z210:=Tryz.sizeOf269,
 v210:=Tryz.zeroValue269,
 t212:=underlying232,
 a212:=Tryz.isAgg232,
 z212:=Tryz.sizeOf232,
 v212:=Tryz.zeroValue232,
 t213:=underlying234,
 a213:=Tryz.isAgg234,
 z213:=Tryz.sizeOf234,
 t232:=underlying271,
 a232:=Tryz.isAgg271,
 z232:=Tryz.sizeOf271,
 v232:=Tryz.zeroValue271,
 t233:=underlying272,
 a233:=Tryz.isAgg272,
 z233:=Tryz.sizeOf272,
 v233:=Tryz.zeroValue272,
 g15:=by kernel_rfl,
 g16:=by kernel_rfl,
 g17:=by kernel_rfl,
 g18:=by kernel_rfl,
 g19:=by kernel_rfl}
theorem Tp:LaysM.n172 prog CX:= {Wl with
 t80:=underlying222,
 a80:=Tryz.isAgg222,
 z80:=Tryz.sizeOf222,
 v80:=Tryz.zeroValue222,
 i0:=by kernel_rfl,
 i2:=by kernel_rfl,
 i3:=by kernel_rfl,
 i4:=by kernel_rfl,
 i5:=by kernel_rfl,
 i9:=by kernel_rfl,
 i20:=by kernel_rfl,
 i21:=by kernel_rfl,
 i37:=by kernel_rfl,
 i46:=by kernel_rfl,
 i51:=by kernel_rfl,
 i53:=by kernel_rfl,
 i75:=by kernel_rfl,
 i76:=by kernel_rfl,
 i80:=by kernel_rfl,
 i85:=by kernel_rfl,
 i127:=by kernel_rfl,
 i143:=by kernel_rfl,
 i145:=by kernel_rfl,
 i167:=by kernel_rfl,
 i168:=by kernel_rfl,
 i171:=by kernel_rfl,
 i173:=by kernel_rfl,
 i175:=by kernel_rfl,
 i210:=by kernel_rfl,
 i212:=by kernel_rfl,
 i232:=by kernel_rfl,
 i233:=by kernel_rfl,
 m15:=by kernel_rfl,
 m16:=by kernel_rfl,
 m17:=by kernel_rfl,
 m18:=by kernel_rfl,
 m19:=by kernel_rfl}
theorem Tn:LaysC.n172 prog CX:= {Tp with
 c0:=by kernel_rfl,
 c2:=by kernel_rfl,
 c3:=by kernel_rfl,
 c4:=by kernel_rfl,
 c5:=by kernel_rfl,
 c9:=by kernel_rfl,
 c20:=by kernel_rfl,
 c21:=by kernel_rfl,
 c37:=by kernel_rfl,
 c46:=by kernel_rfl,
 c51:=by kernel_rfl,
 c53:=by kernel_rfl,
 c75:=by kernel_rfl,
 c76:=by kernel_rfl,
 c80:=by kernel_rfl,
 c85:=by kernel_rfl,
 c127:=by kernel_rfl,
 c143:=by kernel_rfl,
 c145:=by kernel_rfl,
 c167:=by kernel_rfl,
 c168:=by kernel_rfl,
 c171:=by kernel_rfl,
 c173:=by kernel_rfl,
 c175:=by kernel_rfl,
 c210:=by kernel_rfl,
 c212:=by kernel_rfl,
 c213:=by kernel_rfl,
 c232:=by kernel_rfl,
 c233:=by kernel_rfl}
def xY(aC:Bytes):Option (Int×Bool):=Lu aC
theorem Dp{aC:Bytes}{r:Int×Bool}(h:xY aC=some r):Good prog 246 [.str aC] (.iK [.int .i64 r.1,.Xq r.2]):=NO Tn (g:=3) (by kernel_rfl) (aD (i:=1) (by kernel_rfl)) h
def NR:Ren:=⟨fun|106=>175|213=>229|265=>245|n=>n,fun|9=>9|3=>3|n=>n,fun|n=>n⟩
theorem Wi:Lays.n106 prog NR:= {
 mixed:=by kernel_rfl,
 f106:=func175.trans (congrArg some (by kernel_rfl)),
 f213:=func229.trans (congrArg some (by kernel_rfl)),
 f265:=func245.trans (congrArg some (by kernel_rfl)),
 t3:=underlying3,
 a3:=Tryz.isAgg3,
 z3:=Tryz.sizeOf3,
 v3:=Tryz.zeroValue3,
 t9:=underlying9,
 a9:=Tryz.isAgg9,
 z9:=Tryz.sizeOf9,
 v9:=Tryz.zeroValue9}
def oN(aC:Bytes)(aa:Bytes):Option Int:=(fun a b:Bytes=>some (Lib.compareBytes a b)) aC aa
theorem qB{aC:Bytes}{aa:Bytes}{r:Int}(h:oN aC aa=some r):Good prog 175 [.str aC,.str aa] (.int .i64 r):=by cases h;exact JP Wi
end Go.Cx
