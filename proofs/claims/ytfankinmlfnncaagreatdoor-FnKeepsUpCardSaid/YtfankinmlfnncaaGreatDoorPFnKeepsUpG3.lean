/- The abstract walk as a function: it runs straight code on an abstract state, takes its answers (tests, rows, results of calls) off a list, and tells what is owed for them. No condition; plain lemmas. -/
import Derived.Test.YtfankinmlfnncaaGreatDoorPFnKeepsUpG2
import Derived.Laws.BytesArg
import Derived.LoopN
import Derived.Test.YtfankinmlfnncaaGreatDoorProg
import Derived.KernelRfl
import Derived.Shelf.Strings.OnBuilder
import Derived.Shelf.Sort.Plain
import Derived.Shelf.Slices.In.SortNone2
import Derived.Shelf.Strconv.Itoa3
import Derived.WalkSmall
import Derived.Shelf.Strconv.Atoi
import Derived.Shelf.Strconv.ErrVar
import Derived.Shelf.Small.Strs
import Derived.Lib.AtoiBound
set_option linter.unusedVariables false
set_option linter.unusedSimpArgs false
namespace Go.Cx
open Go.RowKit
inductive An where
 |b (v:Bool)
 |row (r:aQ)
 |ix (i:Nat)
 |ch (x:UInt8)
 |cut (l h:Nat)
 |d (x:D)
 |fl (v:Bool)
 |n (k:Nat)
 |n2 (π ρ:aa) (k m:Nat) (L X:aa)
 |sk (id:Nat)
 |LP (t:Nat)
 |pb (id off e sz:Nat)
 |vw (t:Nat)
 |cn (K o:aa)
 |hl (m:Nat) (K o:aa)
 |mu (id:Nat) (rows:List aQ)
 |dc (x:D)
 |gv (ms:aa) (outs:List Rw) (d:D)
 |mg (id i off:Nat) (r:aQ)
 |ov (id:Nat) (rows:List aQ)
 |kv (m:List (D×D))
 |gp (nz:List (List (Option (Nat×Nat)))) (cells:aQ) (d:D)
 |dn (cells:aQ)
 |fz
 |nl (x:D)
 |ds (x:D)
 |mz (id:Nat)
 |tk (r:aQ)
 |gf (nz:List (List (Option (Nat×Nat)))) (d:D)
 |hd
abbrev Fb:=List Prop
def Ag:Fb->Prop
 | []=>True
 |p::ps=>p/\Ag ps
theorem Ag.app{p q:Fb}(h:Ag (p++q)):Ag p/\Ag q:=by
 induction p with
 |nil=>exact⟨trivial,h⟩
 |cons x p ih=>exact⟨⟨h.1,(ih h.2).1⟩,(ih h.2).2⟩
def IY(P:Program)(st:St)(op:Op)(A:List An):Option (D×List An×Fb):=match op with
 | .indexAddr t x i=>(match LY P t,st.ev x,st.ev i,A with
  |some (_,sz),.sl rows,.int _ n,.row r::A=>some (.ep r 0,A,[0<=n/\rows[n.toNat]?=some r/\r.length=sz])
  |some (_,sz),.acc id,.int _ n,.ix k::A=>(match st.H[id]? with|some (.row _ _ sz' rows)=>some (.op id k sz 0,A,[sz=sz'/\n=(k:Int)/\k<rows.length])|_=>none)
  |_,.val (.pointer (some ⟨g,o,none⟩)),.int _ n,.ix k::A=>(match a6v P t with|some (sz,len)=>some (.val (.pointer (some ⟨g,o+k*sz,none⟩)),A,[n=(k:Int)/\k<len])|none=>none)
  |_,_,_,_=>none)
 | .index t x i=>(match Me P t,st.ev x,st.ev i,A with
  |true,.str s,.int _ n,.ch c::A=>some (.int .u8 c.toNat,A,[0<=n/\s[n.toNat]?=some c])
  |_,_,_,_=>none)
 | .load t x=>(match st.ev x with
  | .op id i sz off=>(match Df P t,st.H[id]?,A with
   |some false,some (.row (.ho p n) _ sz' _),.hd::A=>some (.acc n,A,[sz'=sz/\i*sz+off=p])
   |some ag,some (.row k _ sz' rows),.row r::A=>(match k with
    | .ho _ _=>none
    |_=>(match Ip ag (C8 P t) r off with
     |some d=>some (d,A,[sz'=sz/\k.RV=true/\rows[i]?=some r/\off+(bif ag then C8 P t else 1)<=sz])
     |none=>none))
   |_,_,_=>none)
  | .val (.pointer (some ⟨g,o,none⟩))=>(match Df P t,A with
   |some false,.d d::A=>some (d,A,[Wa g o=some d])
   |_,_=>none)
  |_=>(match pv P st op with|some d=>some (d,A,[])|none=>none))
 | .slice t x lo hi none=>(match st.ev x,A with
  | .str s,.cut l h::A=>(match Me P t with
   |true=>some (.str ((s.take h).drop l),A,[wT s.length (lo.map st.ev) (hi.map st.ev)=some (l,h)])
   |false=>none)
  | .sl rows,.cut l h::A=>(match LY P t with
   |some (_,sz)=>some (.sl ((rows.take h).drop l),A,[wT rows.length (lo.map st.ev) (hi.map st.ev)=some (l,h)/\(rows.all fun r=>r.length==sz)=true])
   |none=>none)
  |_,_=>none)
 | .binOp op' t x y t'=>(match op',st.ev x,st.ev y with
  | .add,.str a,.str b=>some (.str (a++b),A,[a.length+b.length<=maxLen])
  | .quo,.int k a,.int k' b=>some (.int k (a/b),A,[k=k'/\0<=a/\0<b])
  | .rem,.int k a,.int k' b=>some (.int k (a%b),A,[k=k'/\0<=a/\0<b])
  |_,_,_=>(match pv P st op with|some d=>some (d,A,[])|none=>none))
 | .lookup T x i ok=>(match st.ev x,A with
  | .acc id,.d d::A=>(match st.H[id]? with
   |some (.mp kv)=>some (d,A,[plk P T kv (st.ev i) ok=some d])
   |_=>none)
  |_,_=>none)
 | .pick c a b=>(match st.ev c,A with
  | .bool t,.b v::A=>(match v with|true=>some (st.ev a,A,[t=true])|false=>some (st.ev b,A,[t=false]))
  |_,_=>none)
 |_=>(match pv P st op with|some d=>some (d,A,[])|none=>none)
theorem WY{P:Program}{st:St}{op:Op}{A A':List An}{d:D}{p:Fb}(h:IY P st op A=some (d,A',p))(hp:Ag p):pv P st op=some d:=by
 have plain:∀ {op},(match pv P st op with|some d=>some (d,A,([]:Fb))|none=>none)=some (d,A',p)->pv P st op=some d:=by
  intro op h;split at h
  ·cases h;assumption
  ·cases h
 unfold IY at h;split at h
 ·rename_i t x i;split at h
  ·rename_i e sz rows kk n r A1 h1 h2 h3;cases h;obtain⟨⟨q1,q2,q3⟩,_⟩:=hp;simp only[pv,h1,h2,h3,q1,q2,qk,q3]
  ·rename_i e sz id kk n k A1 h1 h2 h3;split at h
   ·rename_i k' e' sz' rows hH;cases h;obtain⟨⟨rfl,rfl,q3⟩,_⟩:=hp;simp[pv,h1,h2,h3,hH,q3]
   ·cases h
  ·rename_i g o' kk n k A1 h2 h3;split at h
   ·rename_i sz len hT;cases h;obtain⟨⟨rfl,q3⟩,_⟩:=hp;simp[pv,h2,h3,hT,q3]
   ·cases h
  ·cases h
 ·rename_i t x i;split at h
  ·rename_i s kk n c A1 h1 h2 h3;cases h;obtain⟨⟨q1,q2⟩,_⟩:=hp;simp only[pv,h1,h2,h3,q1,q2,qk]
  ·cases h
 ·rename_i t x;split at h
  ·rename_i id i sz off h1;split at h
   ·rename_i p' n e sz' rows A1 h2 h3;cases h;obtain⟨⟨rfl,rfl⟩,_⟩:=hp;simp only[pv,h2,h1,h3,and_self,qk]
   ·rename_i ag k e sz' rows r A1 h2 h3;split at h
    ·cases h
    ·rename_i hnh;split at h
     ·rename_i d' hd;cases h;obtain⟨⟨rfl,q2,q3,q4⟩,_⟩:=hp;cases k with
      |ho p n=>exact absurd rfl (hnh p n)
      |_=>simp only[pv,h2,h1,h3,q3,q2,q4,sn,and_self,qk,hd]
     ·cases h
   ·cases h
  ·rename_i g o' h1;split at h
   ·rename_i d' A1 h2;cases h;simp only[pv,h2,h1];exact hp.1
   ·cases h
  ·exact plain h
 ·rename_i t x lo hi;split at h
  ·rename_i s l hh A1 h1;split at h
   ·rename_i h2;cases h;obtain⟨q1,_⟩:=hp;simp only[pv,h1,h2,q1,qk]
   ·cases h
  ·rename_i rows l hh A1 h1;split at h
   ·rename_i e sz h2;cases h;obtain⟨⟨q1,q2⟩,_⟩:=hp;simp only[pv,h1,h2,q1,q2,qk]
   ·cases h
  ·cases h
 ·rename_i op' t x y t';split at h
  ·rename_i a b h1 h2;cases h;obtain⟨q1,_⟩:=hp;simp only[pv,h1,h2,XU,q1,qk]
  ·rename_i k a k' b h1 h2;cases h;obtain⟨⟨rfl,q1,q2⟩,_⟩:=hp;simp only[pv,h1,h2,XU,q1,q2,qk,and_self]
  ·rename_i k a k' b h1 h2;cases h;obtain⟨⟨rfl,q1,q2⟩,_⟩:=hp;simp only[pv,h1,h2,XU,q1,q2,qk,and_self]
  ·exact plain h
 ·rename_i T x i ok;split at h
  ·rename_i id d' A1 h1;split at h
   ·rename_i kv hH;cases h;simp only[pv,h1,hH];exact hp.1
   ·cases h
  ·cases h
 ·split at h
  ·rename_i t v A1 h1;split at h
   ·cases h;obtain⟨rfl,_⟩:=hp;simp[pv,h1]
   ·cases h;obtain⟨rfl,_⟩:=hp;simp[pv,h1]
  ·cases h
 ·exact plain h
def bytesOf:List aQ->Option Bytes
 | []=>some []
 |r::rs=>match r,bytesOf rs with
  | [.int .u8 n],some bs=>some (UInt8.ofNat n.toNat::bs)
  |_,_=>none
theorem SM:∀ {rows:List aQ} {bs:Bytes},bytesOf rows=some bs->∃xs:bH,rows=xs.map (fun n=>[D.int .u8 n])/\bs=xs.map (fun n=>UInt8.ofNat n.toNat):=by
 intro rows
 induction rows with
 |nil=>intro bs h;cases h;exact⟨[],rfl,rfl⟩
 |cons r rs ih=>
  intro bs h;simp only[bytesOf]at h;split at h
  ·rename_i n bs' h1;cases h;obtain⟨xs,rfl,rfl⟩:=ih h1;exact⟨n::xs,rfl,rfl⟩
  ·cases h
theorem OL:∀(xs:bH),(xs.map (fun n=>[D.int .u8 n])).flatten=xs.map (fun n=>D.int .u8 n)
 | []=>rfl
 |n::xs=>by simp only[au,gh,OL xs];rfl
def a94(A:List An)(t:Nat):Option (List An):=match A with
 | .LP u::A=>if u=t then some A else none
 |_=>none
def apS(H:bY)(d:D)(e sz:Nat):Option (List aQ×Bool×aa):=match d with
 | .nil=>some ([],true,[])
 | .acc m=>(match H[m]? with
  |some (.row k e' sz' rows)=>(match k with| .cl=>none| .uq=>(if e'=e/\sz'=sz then some (rows,true,[m])else none)| .sh=>(if e'=e/\sz'=sz then some (rows,false,[m])else none)| .mv _=>none| .ho _ _=>none)
  |_=>none)
 |_=>none
def apX(H:bY)(d:D)(e sz:Nat)(A:List An):Option (List aQ×Bool×aa×List An×Fb):=match d,A with
 | .nil,A=>some ([],true,[],A,[])
 | .acc m,A=>(match H[m]? with
  |some (.row k e' sz' rows)=>(match k with| .cl=>none| .uq=>(if e'=e/\sz'=sz then some (rows,true,[m],A,[])else none)| .sh=>(if sz'=sz then some (rows,false,[m],A,[])else none)| .mv _=>none| .ho _ _=>none)
  |_=>none)
 | .sl rows,.fl f::A=>some (rows,f&&WX e,[],A,[(∀r∈rows,r.length=sz)/\(f=true->D.iN rows=true)])
 |_,_=>none
def UY(st:St)(d:D):Option (Nat×Nat×List aQ×Option Value):=match d with
 | .acc id=>(match st.H[id]? with|some (.Pf sz rows u)=>some (id,sz,rows,u)|_=>none)
 |_=>none
def Zp(st:St)(d:D):Option (Nat×Nat×Nat×Nat×List aQ×Option Value):=match d with
 | .op id i sz off=>(match st.H[id]? with|some (.Pf sz' rows u)=>if sz'=sz then some (id,i,off,sz,rows,u)else none|_=>none)
 |_=>none
def vh(n:Nat):aQ->aQ×bY
 | []=>([],[])
 |d::ds=>match d with
  | .sl rows=>(.acc n::(vh (n+1) ds).1,.tk rows::(vh (n+1) ds).2)
  |d=>(d::(vh n ds).1,(vh n ds).2)
def Ro(r:aQ):Bool:=r.all fun d=>match d with| .sl _=>true|d=>d.flat
def It(P:Program)(nt:Nat)(o:Oper)(st:St)(A:List An):Option (St×List An×Fb):=match o.op,o.dst with
 | .box _ x,some t=>(if t<nt then match(st.ev x).cellsOf with|some ds=>some (⟨(t,.ptr st.H.length 0)::st.σ,st.H++[.box ds]⟩,A,[])|none=>none else none)
 | .alloc T,some t=>(if t<nt then match tz P T with|some ds=>some (⟨(t,.ptr st.H.length 0)::st.σ,st.H++[.box ds]⟩,A,[])|none=>none else none)
 | .store T x y,none=>(match st.ev x,(st.ev y).cellsOf with
  | .ptr id off,some ds=>(match st.H[id]? with
   |some ob=>(match ob.VV with
    |some cells=>(if Uy P T=true/\ds.length=C8 P T/\off+ds.length<=cells.length/\ob.Vt off=true then some (⟨st.σ,st.H.set id (ob.re (cells.take off++ds++cells.drop (off+ds.length)))⟩,A,[])else none)
    |none=>none)
   |none=>none)
  | .op id i sz off,some ds=>(match st.H[id]?,Jz st.H ds,A with
   |some (.Pf sz' rows u),_,.row r::A=>none
   |some (.row k e sz' rows),some (es,ms),.row r::A=>(if Uy P T=true/\ds.length=C8 P T/\sz'=sz/\k.RV=true/\off+ds.length<=sz/\ms.Nodup/\id∉ms then
    some (⟨st.σ,(kill st.H ms).set id (.row (k.after (Xo st.H e off ds&&Wz e sz)) e sz (rows.set i (r.take off++es++r.drop (off+ds.length))))⟩,A,[rows[i]?=some r])else none)
   |_,_,_=>none)
  |_,_=>none)
 | .makeMap _ none,some t=>(if t<nt then some (⟨(t,.acc st.H.length)::st.σ,st.H++[.mp []]⟩,A,[])else none)
 | .mapUpdate T x i y,none=>(match Xi P T,st.ev x,A with
  |some (kd,_),.acc id,.kv m::A=>(match st.H[id]? with
   |some (.mp kv)=>(if Jh kd (st.ev i)=true/\(st.ev y).scalar=true then some (⟨st.σ,st.H.set id (.mp m)⟩,A,[L8 (st.ev i) (st.ev y) kv=some m])else none)
   |_=>none)
  |_,_,_=>none)
 | .makeSlice T x y,some t=>(match LY P T,st.ev x,st.ev y with
  |some (e,sz),.int _ n,.int _ n'=>(match tz P e with
   |some zs=>(if t<nt/\0<sz then some (⟨(t,.acc st.H.length)::st.σ,st.H++[.row (zB (WX e)) e sz (List.replicate n.toNat (zs.map D.De))]⟩,A,[n'=n/\0<=n/\tby P e*n.toNat<=281474976710656/\n.toNat<=4611686018427387904])else none)
   |none=>none)
  |_,_,_=>none)
 | .buildSlice T len parts,some t=>(match LY P T with
  |some (e,sz)=>(match tz P e with
   |some zs=>(match zm (um len sz) (List.replicate len zs).flatten (parts.toList.map fun p=>(p.1,st.ev p.2))with
    |some ds=>(match Jz st.H ds with
     |some (es,ms)=>(if t<nt/\0<sz/\len*sz<=16777216/\ms.Nodup then some (⟨(t,.acc st.H.length)::st.σ,kill st.H ms++[.row (zB (Xo st.H e 0 ds)) e sz (chunk sz len es)]⟩,A,[])else none)
     |none=>none)
    |none=>none)
   |none=>none)
  |none=>none)
 | .call c,some t=>(match c.callee,c.args.toList,c.argTypes.toList with
  | .builtin .append,[s,x],[T,T']=>(match LY P T with
   |some (e,sz)=>(match tz P e,apS st.H (st.ev s) e sz,apX st.H (st.ev x) e sz A with
    |some _,some (rows,u1,k1),some (fT,u2,k2,A,ow)=>(if t<nt/\0<sz/\T'=T/\(k1++k2).Nodup then
     some (⟨(t,.acc st.H.length)::st.σ,kill st.H (k1++k2)++[.row (zB ((u1&&u2)&&Wz e sz)) e sz (rows++fT)]⟩,A,(rows.length+fT.length<=maxLen/\(rows.length+fT.length)*tby P e<=140737488355328)::ow)else none)
    |_,_,_=>none)
   |none=>none)
  | .builtin .len,[x],[T]=>(match UY st (st.ev x)with
   |some (_,_,rows,_)=>none
   |none=>(if t<nt then match IY P st o.op A with|some (d,A,ow)=>some (⟨(t,d)::st.σ,st.H⟩,A,ow)|none=>none else none))
  | .value (.func f),xs,_=>(match Jo st.H (xs.map st.ev),A with
   |_,.gv ms outs d::A=>none
   |_,.gp nz cells' d::A=>(match xs with
    |x0::xr=>(match st.ev x0 with
     | .ptr id 0=>(match st.H[id]? with
      |some ob=>(match ob.VV with
       |some Ls=>(match Br st.H nz (.agg Ls::xr.map st.ev)with
        |some (.agg cells::ds,ms,qs)=>(if t<nt/\ms.Nodup/\qs.Nodup then
         some (⟨(t,(s8 (st.H.length+(oy st.H.length cells').2.length) d).1)::st.σ,(kill st.H (ms++qs)).set id (ob.re (oy st.H.length cells').1)++((oy st.H.length cells').2++(s8 (st.H.length+(oy st.H.length cells').2.length) d).2)⟩,A,[iL P f cells cells' ds d])else none)
        |_=>none)
       |none=>none)
      |none=>none)
     |_=>none)
    | []=>none)
   |some (ds,ms),.dn cells::A=>(if t<nt/\ms=[]then some (⟨(t,.ptr st.H.length 0)::st.σ,st.H++[.box cells]⟩,A,[Jy P f ds cells])else none)
   |some (ds,_),.dc d::A=>none
   |_,.ov id dw::A=>(match st.H[id]? with
    |some (.row .uq e sz rows)=>(if t<nt/\((xs.map st.ev).all D.bare)=true/\WX e=true then some (⟨(t,.acc st.H.length)::st.σ,kill st.H [id]++[.row .uq e sz dw]⟩,A,[rows.flatten.all D.flat=true,Ic P f ((xs.map st.ev).map (D.rnS [id])) e sz rows dw])else none)
    |_=>none)
   |_,.mu id dw::A=>(match xs,st.H[id]? with
    | [x],some (.row k e sz rows)=>(match st.ev x with
     | .acc id'=>(if t<nt/\id'=id/\k.hand=true/\WX e=true then some (⟨(t,.ff [])::st.σ,st.H.set id (.row k e sz dw)⟩,A,[rows.flatten.all D.flat=true,S4 P f e sz rows dw])else none)
     |_=>none)
    |_,_=>none)
   |some (ds,ms),.d d::A=>(if t<nt/\(ms=[]\/d.RW=true)then some (⟨(t,(s8 st.H.length d).1)::st.σ,st.H++(s8 st.H.length d).2⟩,A,[Good P f ds d])else none)
   |_,.nl d::A=>(if t<nt/\(xs.map st.ev).all My=true then some (⟨(t,(s8 st.H.length d).1)::st.σ,st.H++(s8 st.H.length d).2⟩,A,[Good P f (xs.map st.ev) d])else none)
   |_,.gf nz d::A=>(match Br st.H nz (xs.map st.ev)with
    |some (ds,ms,qs)=>(if t<nt/\ms.Nodup/\qs.Nodup then some (⟨(t,(s8 st.H.length d).1)::st.σ,kill st.H (ms++qs)++(s8 st.H.length d).2⟩,A,[Jx P f ds d])else none)
    |none=>none)
   |_,_=>none)
  |_,_,_=>(if t<nt then match IY P st o.op A with|some (d,A,ow)=>some (⟨(t,d)::st.σ,st.H⟩,A,ow)|none=>none else none))
 | .convert s d x,some t=>(match st.ev x with
  | .acc id=>(match st.H[id]?,LY P s with
   |some (.row _ _ _ rows),some (e,sz)=>(match bytesOf rows with
    |some bs=>(if t<nt/\sz=1/\Uz P e=some .u8/\Me P d=true then some (⟨(t,.str bs)::st.σ,st.H⟩,A,[])else none)
    |none=>none)
   |_,_=>none)
  |_=>(if t<nt then match IY P st o.op A with|some (d,A,ow)=>some (⟨(t,d)::st.σ,st.H⟩,A,ow)|none=>none else none))
 | .assign x,some t=>(match a94 A t with
  |some A=>(match st.ev x,LY P o.type with
   | .nil,some (e,sz)=>(if t<nt/\0<sz then some (⟨(t,.acc st.H.length)::st.σ,st.H++[.row .uq e sz []]⟩,A,[])else none)
   |_,_=>none)
  |none=>(if t<nt then some (⟨(t,st.ev x)::st.σ,st.H⟩,A,[])else none))
 | .slice T x none (some hi) none,some t=>(match st.ev x with
  | .acc id=>(match st.H[id]?,LY P T,st.ev hi,A with
   |some (.row .uq e sz rows),some (_,sz'),.int _ n,.cut 0 h::A=>(if t<nt/\sz'=sz then some (⟨(t,.acc st.H.length)::st.σ,kill st.H [id]++[.row .uq e sz (rows.take h)]⟩,A,[n=((h:Nat):Int)/\h<=rows.length])else none)
   |_,_,_,_=>none)
  |_=>(if t<nt then match IY P st o.op A with|some (d,A,ow)=>some (⟨(t,d)::st.σ,st.H⟩,A,ow)|none=>none else none))
 | .slice T (.tmp s) (some lo) none none,some t=>(match A,lk st.σ s with
  | .fz::A,.acc id=>(match st.H[id]? with
   |some (.row k e sz rows)=>(if t<nt/\k.RV=true then match IY P ⟨(s,.sl rows)::st.σ,st.H.set id .gone⟩ o.op A with|some (d,A,ow)=>some (⟨(t,d)::(s,.sl rows)::st.σ,st.H.set id .gone⟩,A,ow)|none=>none else none)
   |_=>none)
  |_,_=>(if t<nt then match IY P st o.op A with|some (d,A,ow)=>some (⟨(t,d)::st.σ,st.H⟩,A,ow)|none=>none else none))
 | .indexAddr T x i,some t=>(match UY st (st.ev x)with
  |some (id,sz,rows,_)=>none
  |none=>(if t<nt then match IY P st o.op A with|some (d,A,ow)=>some (⟨(t,d)::st.σ,st.H⟩,A,ow)|none=>none else none))
 | .load T x,some t=>(match Zp st (st.ev x)with
  |some (id,i,off,sz,rows,u)=>none
  |none=>(match A,st.ev x with
   | .tk r::A,.op id i sz 0=>(match st.H[id]? with
    |some (.row (.mv n) e sz' rows)=>(if t<nt/\sz'=sz/\Df P T=some true/\C8 P T=sz then
     some (⟨(t,.agg (vh st.H.length r).1)::st.σ,st.H.set id (.row (.mv (n+1)) e sz rows)++(vh st.H.length r).2⟩,A,[i=n/\rows[n]?=some r/\Ro r=true])else none)
    |_=>none)
   |A,_=>(if t<nt then match IY P st o.op A with|some (d,A,ow)=>some (⟨(t,d)::st.σ,st.H⟩,A,ow)|none=>none else none)))
 |op,some t=>(if t<nt then match IY P st op A with|some (d,A,ow)=>some (⟨(t,d)::st.σ,st.H⟩,A,ow)|none=>none else none)
 |_,none=>none
section
variable{P:Program}{Γ:vn}{Q:Exit->St->Prop}{st:St}{all:Array Oper}{rest:List Oper}
theorem eN.a00{κ:Nat->Option Value}{Θ:Nat->Nat}{a:Act}{w:World}(hs:eN Γ st κ Θ a w)(e sz:Nat)(hsz:0<sz):eN Γ ⟨st.σ,st.H++[.row .uq e sz []]⟩ (zz κ st.H.length (some (.slice none 0 0))) Θ a w:=by
 obtain⟨ρ,hu⟩:=hs.vG;refine hs.put [] Da (zM (hs.tR _ (bU _)) _) ?_ ?_ (jU.refl hs.own (by omega)) hs.mine ?_ hu (by simp) ?_
 ·intro i hi;simp only[ax,aS,bf]at hi;unfold zz;rw[b9 (by omega)];exact hs.tR i (by omega)
 ·intro i x hx;unfold zz at hx;split at hx
  ·cases hx;rfl
  ·exact hs.s9 i x hx
 ·exact⟨hsz,by simp,_,[],[],nA _ _ _,World.ownsRow_nil w 0 e sz,.nil,by simp[Value.ownBlock],by simp⟩
 ·intro e' sz' dw he;simp only[Ob.row.injEq,sn]at he;obtain⟨rfl,rfl,rfl⟩:=he;exact⟨_,[],[],nA _ _ _,World.ownsRow_nil w 0 e sz,.nil _,by simp,by simp⟩
theorem a5F{o:Oper}{x:Operand}{t e sz:Nat}(hop:o.op=.assign x)(hd:o.dst=some t)(hg:o.guard=none)(ht:t<Γ.nt)(hx:st.ev x=.nil)(hsz:0<sz)
 (h:AO P Γ all rest Q ⟨(t,.acc st.H.length)::st.σ,st.H++[.row .uq e sz []]⟩):AO P Γ all (o::rest) Q st:=by
 intro κ Θ a w hs;obtain⟨bs,r,_⟩:=hs.ev x;rw[hx]at r;have hv:=r.LG;have hp:pv P st o.op=some .nil:=by rw[hop];simp[pv,hx]
 obtain⟨v,b2,hrun,hrd,hz⟩:=H8 hs hp;have Ik:=hrd.LG;subst Ik;refine wpList_plain hg fun K hK=>?_
 unfold Oper.wp;rw[hrun,Oper.upon_value,hd];refine hK _ _ (h _ _ _ _ ((hs.a00 e sz hsz).set (t:=t) (d:=.acc st.H.length) (bs:=[]) ht ?_ (by simp)));exact(Aw.acc st.H.length _ (nA _ _ _)).S0
theorem fk.a6u{κ:Nat->Option Value}{w:World}{n:Nat}(hk:κ n=some (.slice none 0 0)):∀ {vs:bp} {ds:aQ} {bs:aa},fk w κ vs ds bs->∀ {off:Nat},ds[off]?=some .nil->∃bs',fk w κ vs (ds.set off (.acc n)) bs'/\∀b∈bs',b∈bs:=by
 intro vs ds bs h
 induction h with
 |nil=>intro off h;simp at h
 |cons v vs d ds b1 b2 h1 h2 h3 ih=>
  intro off h;cases off with
  |zero=>
   simp only[Cs,ay]at h;subst h;have hv:v=.slice none 0 0:=by
    cases h2 with
    |pure h2=>cases h2;rfl
   subst hv;exact⟨[]++b2,.cons _ _ _ _ _ _ h1 (.acc n _ hk) h3,fun b hb=>by simp at hb;simp[hb]⟩
  |succ off=>
   obtain⟨bs',q1,q2⟩:=ih (off:=off) (by simpa using h);exact⟨b1++bs',.cons _ _ _ _ _ _ h1 h2 q1,fun b hb=>by
    rcases aZ.1 hb with hb|hb
    ·exact aZ.2 (.inl hb)
    ·exact aZ.2 (.inr (q2 b hb))⟩
def St.prom(st:St)(id off e sz:Nat):Option St:=match st.H[id]? with
 |some (.box cells)=>(match cells[off]? with
  |some .nil=>(if 0<sz then some ⟨st.σ,(st.H++[Ob.row .uq e sz []]).set id (Ob.box (cells.set off (.acc st.H.length)))⟩else none)
  |_=>none)
 |_=>none
theorem eN.prom{κ:Nat->Option Value}{Θ:Nat->Nat}{a:Act}{w:World}{wz:St}{id off e sz:Nat}(hs:eN Γ st κ Θ a w)(h:st.prom id off e sz=some wz):∃κ',eN Γ wz κ' Θ a w:=by
 unfold St.prom at h;split at h
 ·rename_i cells hH;split at h
  ·rename_i hc;split at h
   ·rename_i hsz;cases h;have hlt:id<st.H.length:=(aJ.1 hH).1;have hs1:=hs.a00 e sz hsz;refine⟨_,hs1.defers,hs1.size,fun i hi=>hs1.tR i (by simpa using hi),hs1.s9,hs1.slot,?_,hs1.own,hs1.old,hs1.mine,hs1.stays,?_⟩
    ·intro j y hj;simp only[gi]at hj;split at hj
     ·rename_i e1;subst e1;split at hj
      ·cases hj;obtain⟨g,cs,T,q1,q2,q3,bs,q4,q5⟩:=hs1.ob id (.box cells) (by simpa[bA hlt]using hH);obtain⟨bs',p1,p2⟩:=fk.a6u (n:=st.H.length) (nA _ _ _) q4 hc;exact⟨g,cs,T,q1,q2,q3,bs',p1,fun b hb=>q5 b (p2 b hb)⟩
      ·cases hj
     ·exact hs1.ob j y hj
    ·obtain⟨ρ,hu⟩:=hs1.vG;refine⟨ρ,hu.free,fun i e' sz' rows hi=>hu.rows i e' sz' rows ?_,fun i o hi=>?_⟩
     ·simp only[gi]at hi;split at hi
      ·split at hi<;>cases hi
      ·exact hi
     ·simp only[gi]at hi;split at hi
      ·split at hi
       ·cases hi;trivial
       ·cases hi
      ·exact hu.more i o hi
   ·cases h
  ·cases h
 ·cases h
theorem eN.a9b{κ:Nat->Option Value}{Θ:Nat->Nat}{a:Act}{w:World}{id e sz:Nat}{rows:List aQ}(hs:eN Γ st κ Θ a w)(hH:st.H[id]?=some (.row .uq e sz rows)):eN Γ ⟨st.σ,st.H.set id (.row .sh e sz rows)⟩ κ Θ a w:=by
 have hlt:id<st.H.length:=(aJ.1 hH).1;refine⟨hs.defers,hs.size,fun i hi=>hs.tR i (by simpa using hi),hs.s9,hs.slot,?_,hs.own,hs.old,hs.mine,hs.stays,?_⟩
 ·intro j y hj;simp only[gi,hlt,qk]at hj;split at hj
  ·rename_i e1;subst e1;cases hj;exact(show yc w κ Θ id (.row .uq e sz rows)from hs.ob id _ hH)
  ·exact hs.ob j y hj
 ·obtain⟨ρ,hu⟩:=hs.vG;refine⟨ρ,hu.free,fun i e' sz' dw hi=>hu.rows i e' sz' dw ?_,fun i o hi=>?_⟩
  ·simp only[gi,hlt,qk]at hi;split at hi
   ·cases hi
   ·exact hi
  ·simp only[gi,hlt,qk]at hi;split at hi
   ·cases hi;trivial
   ·exact hu.more i o hi
theorem eN.mvz{κ:Nat->Option Value}{Θ:Nat->Nat}{a:Act}{w:World}{id e sz:Nat}{rows:List aQ}(hs:eN Γ st κ Θ a w)(hH:st.H[id]?=some (.row .uq e sz rows)):eN Γ ⟨st.σ,st.H.set id (.row (.mv 0) e sz rows)⟩ κ Θ a w:=by
 have hlt:id<st.H.length:=(aJ.1 hH).1;refine⟨hs.defers,hs.size,fun i hi=>hs.tR i (by simpa using hi),hs.s9,hs.slot,?_,hs.own,hs.old,hs.mine,hs.stays,?_⟩
 ·intro j y hj;simp only[gi,hlt,qk]at hj;split at hj
  ·rename_i e1;subst e1;cases hj;exact(show yc w κ Θ id (.row .uq e sz rows)from hs.ob id _ hH)
  ·exact hs.ob j y hj
 ·obtain⟨ρ,hu⟩:=hs.vG;refine⟨ρ,hu.free,fun i e' sz' dw hi=>hu.rows i e' sz' dw ?_,fun i o hi=>?_⟩
  ·simp only[gi,hlt,qk]at hi;split at hi
   ·cases hi
   ·exact hi
  ·simp only[gi,hlt,qk]at hi;split at hi
   ·rename_i e1;subst e1;cases hi;obtain⟨v,cs,bs,q1,q2,q3,q4,q5⟩:=hu.rows id e sz rows hH;exact⟨v,cs,bs,q1,q2,by simpa using q3.rd,q4,q5⟩
   ·exact hu.more i o hi
def shares:List An->St->St×List An
 | .sk id::A,st=>(match st.H[id]? with
  |some (.row .uq e sz rows)=>shares A ⟨st.σ,st.H.set id (.row .sh e sz rows)⟩
  |_=>(st,.sk id::A))
 | .mz id::A,st=>(match st.H[id]? with
  |some (.row .uq e sz rows)=>shares A ⟨st.σ,st.H.set id (.row (.mv 0) e sz rows)⟩
  |_=>(st,.mz id::A))
 |A,st=>(st,A)
theorem eN.shares{κ:Nat->Option Value}{Θ:Nat->Nat}{a:Act}{w:World}:∀ {A A1:List An} {st zu:St},eN Γ st κ Θ a w->shares A st=(zu,A1)->eN Γ zu κ Θ a w:=by
 intro A
 induction A with
 |nil=>intro A1 st zu hs h;simp only[Cx.shares,cq]at h;obtain⟨rfl,_⟩:=h;exact hs
 |cons x A ih=>
  intro A1 st zu hs h;cases x
  case sk id=>
   simp only[Cx.shares]at h;split at h
   ·rename_i e sz rows hH;exact ih (hs.a9b hH) h
   ·simp only[cq]at h;obtain⟨rfl,_⟩:=h;exact hs
  case mz id=>
   simp only[Cx.shares]at h;split at h
   ·rename_i e sz rows hH;exact ih (hs.mvz hH) h
   ·simp only[cq]at h;obtain⟨rfl,_⟩:=h;exact hs
  all_goals(simp only[Cx.shares,cq]at h;obtain⟨rfl,_⟩:=h;exact hs)
theorem a1i{o:Oper}{s d:TypeId}{x:Operand}{t id e e' sz':Nat}{k:RK}{rows:List aQ}{bs:Bytes}(hop:o.op=.convert s d x)(hd:o.dst=some t)(hg:o.guard=none)(ht:t<Γ.nt)(hx:st.ev x=.acc id)
 (hH:st.H[id]?=some (.row k e' sz' rows)) (hT:LY P s=some (e,1)) (he:Uz P e=some .u8) (hs':Me P d=true) (hb:bytesOf rows=some bs) (h:AO P Γ all rest Q ⟨(t,.str bs)::st.σ,st.H⟩):AO P Γ all (o::rest) Q st:=by
 intro κ Θ a w hs;obtain⟨b0,r,_⟩:=hs.ev x;rw[hx]at r;obtain⟨hk,_⟩:=r.zI;obtain⟨hsz,hrl,v,cs,b1,hk2,hown,vL,_,_⟩:=hs.ob id _ hH;rw[hk]at hk2;cases hk2;obtain⟨xs,rfl,rfl⟩:=SM hb;obtain⟨hu,_,_⟩:=tU hT;have hue:P.underlying e=some (.int .u8):=by
  unfold Uz at he;split at he
  ·rename_i k' hk';cases he;exact hk'
  ·cases he
 have hud:=zE hs';have hfl:(xs.map (fun n=>[D.int .u8 n])).flatten=xs.map (fun n=>D.int .u8 n):=OL xs;rw[hfl]at vL;have hcs:∀(xs:bH) (cs:bp) (b:aa),p6 w cs (xs.map (fun n=>D.int .u8 n)) b->cs=xs.map (Value.int .u8):=by
  intro xs
  induction xs with
  |nil=>intro cs b h;cases h;rfl
  |cons n xs ih=>
   intro cs b h;cases h with
   |cons v vs _ _ b1 b2 _ h2 h3=>
    cases h2;rw[ih _ _ h3];rfl
 have hce:=hcs xs cs b1 vL;have hlen:xs.length<=maxLen:=by
  rcases hown.2 with⟨_,hn⟩|⟨g,cap,cur,_,_,_,hnc,hcm,_⟩
  ·simp at hn;rw[hn];simp
  ·simp at hnc;omega
 have hrun:(convert s d (a.eval x)).run P w=.ok (.string (strOfNums xs)) w:=by
  rcases hown.2 with⟨hv,hn⟩|⟨g,cap,cur,hv,_,hg,hnc,hcm,_,_⟩
  ·have hx0:xs=[]:=by simpa using hn
   subst hx0;rw[hv,run_convert_bytes_nil w s e hu hue 0 0 d hud];rfl
  ·rw[hv];have hcell:=hown.cells (g:=g) (by rw[hv];simp[Value.ownBlock]);refine run_convert_bytes_arg w s e hu hue g 0 _ cap xs (by simp) (fun i hi=>?_) d hud;have hi':i<xs.length:=by simpa using hi
   have:=hcell i (.int .u8 (xs.getD i 0)) (by rw[hce];simp[List.getD,af hi']);simpa[Addr.add_lit]using this
 refine wpList_plain hg fun K hK=>?_
 unfold Oper.wp;have Sn:(execOp a.eval o).run P w=.ok (.value (.string (strOfNums xs))) w:=by
  simp only[execOp,hop];simp[hrun]
 rw[Sn,Oper.upon_value,hd];refine hK _ _ (h _ _ _ _ (hs.set (t:=t) (bs:=[]) ht ?_ (by simp)));have hsl:(strOfNums xs).data.toList=xs.map (fun n=>UInt8.ofNat n.toNat):=by simp[strOfNums]
 have hss:(strOfNums xs).size<=maxLen:=by
  have:(strOfNums xs).size=xs.length:=by
   have:=congrArg List.length hsl;simpa using this
  omega
 have:=Rd.str (w:=w) (strOfNums xs) hss;rw[hsl]at this;exact .of this
theorem a5C{o:Oper}{t:Nat}{s x:Operand}{T e sz:Nat}{zs:aQ}{rows fT:List aQ}{u1 u2:Bool}{k1 k2:aa}{A A':List An}{ow:Fb}
 (hop:o.op=.call {callee:=.builtin .append,args:= #[s,x],argTypes:= #[T,T]}) (hd:o.dst=some t) (hg:o.guard=none) (ht:t<Γ.nt) (hT:LY P T=some (e,sz)) (hz:tz P e=some zs) (hsz:0<sz)
 (hS:apS st.H (st.ev s) e sz=some (rows,u1,k1)) (hX:apX st.H (st.ev x) e sz A=some (fT,u2,k2,A',ow)) (how:Ag ow) (hnd:(k1++k2).Nodup)
 (h63:rows.length+fT.length<=maxLen) (hby:(rows.length+fT.length)*tby P e<=140737488355328)
 (h:AO P Γ all rest Q ⟨(t,.acc st.H.length)::st.σ,kill st.H (k1++k2)++[.row (zB ((u1&&u2)&&Wz e sz)) e sz (rows++fT)]⟩):AO P Γ all (o::rest) Q st:=by
 refine Wd hop hd hg ht hT hz hsz h63 hby ?_ h;intro κ Θ a w ρ hs hu;have one:∃i1 b1 c1,YI w Θ ρ e sz (a.eval s) rows u1 i1 b1 c1/\((k1=[]/\i1=st.H.length)\/k1=[i1]):=by
  obtain⟨bs,r,_⟩:=hs.ev s;unfold apS at hS;split at hS
  ·rename_i OQ;cases hS;rw[OQ]at r;have:=r.LG;rw[this];exact⟨st.H.length,[],[],YP,.inl ⟨rfl,rfl⟩⟩
  ·rename_i m OQ;rw[OQ]at r;obtain⟨hk,_⟩:=r.zI;split at hS
   ·rename_i k e' sz' dw hH;split at hS
    ·cases hS
    ·split at hS
     ·rename_i hc;obtain⟨rfl,rfl⟩:=hc;cases hS;obtain⟨b1,c1,hA⟩:=K3 hs hu hk hH rfl;exact⟨m,b1,c1,hA,.inr rfl⟩
     ·cases hS
    ·split at hS
     ·rename_i hc;obtain⟨rfl,rfl⟩:=hc;cases hS;obtain⟨b1,c1,hA⟩:=K3 hs hu hk hH rfl;exact⟨m,b1,c1,hA,.inr rfl⟩
     ·cases hS
    ·cases hS
    ·cases hS
   ·cases hS
  ·cases hS
 have two:∃i2 b2 c2,Qh w Θ ρ e sz (a.eval x) fT u2 i2 b2 c2/\(u2=true->b2=[]\/i2∈k2):=by
  obtain⟨bs,r,hz⟩:=hs.ev x;unfold apX at hX;split at hX
  ·rename_i A1 OQ;cases hX;rw[OQ]at r;have:=r.LG;rw[this];exact⟨0,[],[],YQ,fun _=>.inl rfl⟩
  ·rename_i A1 m OQ;rw[OQ]at r;obtain⟨hk,_⟩:=r.zI;split at hX
   ·rename_i k e' sz' dw hH;split at hX
    ·cases hX
    ·split at hX
     ·rename_i hc;obtain⟨rfl,rfl⟩:=hc;cases hX;obtain⟨b1,c1,hA⟩:=SD hs hu hk hH rfl;exact⟨m,b1,c1,hA,fun _=>.inr (by simp)⟩
     ·cases hX
    ·split at hX
     ·rename_i hc;subst hc;cases hX;obtain⟨b1,c1,hA⟩:=SD hs hu hk hH rfl;exact⟨m,b1,c1,hA.sh,fun _=>.inr (by simp)⟩
     ·cases hX
    ·cases hX
    ·cases hX
   ·cases hX
  ·rename_i dw f A1 OQ;cases hX;rw[OQ]at r;obtain⟨⟨q1,q2⟩,_⟩:=how;obtain⟨b2,c2,hA,hb⟩:=a1v (ρ:=ρ) r.Rl hz q1 0 (f&&WX e) (fun hh=>q2 (by simp only[aR]at hh;exact hh.1)) e (fun hh=>Dg (by simp only[aR]at hh;exact hh.2));exact⟨0,b2,c2,hA,fun e=>.inl (hb e)⟩
  ·cases hX
 obtain⟨i1,b1,c1,hA,hk1⟩:=one;obtain⟨i2,b2,c2,hB,hk2⟩:=two;refine⟨u1,u2,i1,i2,b1,b2,c1,c2,hA,hB,?_,fun zK=>?_⟩
 ·rcases hk1 with⟨_,h⟩|h
  ·exact .inr h
  ·exact .inl (by simp[h])
 ·rw[aR]at zK;obtain⟨zK,UD⟩:=zK;simp only[aR]at zK;refine⟨zK.1,zK.2,?_,UD⟩;rcases hk2 zK.2 with h|hmem
  ·exact .inl h
  ·refine .inr ⟨by simp[hmem],fun e=>?_⟩;rcases hk1 with⟨h1,h2⟩|h1
   ·
    have hlt:i2<st.H.length:=by
     unfold apX at hX;split at hX
     ·cases hX;cases hmem
     ·rename_i A1 m OQ;split at hX
      ·rename_i k e' sz' dw hH;have:=(aJ.1 hH).1;split at hX
       ·cases hX
       ·split at hX
        ·cases hX;simp at hmem;omega
        ·cases hX
       ·split at hX
        ·cases hX;simp at hmem;omega
        ·cases hX
       ·cases hX
       ·cases hX
      ·cases hX
     ·cases hX;cases hmem
     ·cases hX
    omega
   ·subst e;have:=(bW.1 hnd).2.2 i1 (by simp[h1]) i1 hmem;exact this rfl
theorem a13{κ:Nat->Option Value}{w:World}:∀ {ds:aQ} {n:Nat} {vs:bp} {bs:aa},p6 w vs ds bs->(∀d∈ds,d.flat=true\/∃rows,d=.sl rows)->bs.Nodup->
 ∃(us:bp) (L:List aa),us.length=(vh n ds).2.length/\L.length=us.length/\L.flatten=bs/\
  (∀(j:Nat) o,(vh n ds).2[j]?=some o->∃rows u b,o=.tk rows/\us[j]?=some u/\u.oneCell'=true/\L[j]?=some b/\Rd w u (.sl rows) b)/\
  (∀κ':Nat->Option Value,(∀(j:Nat) u,us[j]?=some u->κ' (n+j)=some u)->fk w κ' vs (vh n ds).1 []):=by
 intro ds
 induction ds with
 |nil=>intro n vs bs h _ _;cases h;exact⟨[],[],rfl,rfl,rfl,by simp[vh],fun _ _=>.nil⟩
 |cons d ds ih=>
  intro n vs bs h hd hnd;cases h with
  |cons v vs _ _ b1 b2 h1 h2 h3=>
   obtain⟨n1,n2,n3⟩:=bW.1 hnd;rcases hd d (by simp)with hf|⟨rows,rfl⟩
   ·have hb:=h2.flat hf;subst hb;obtain⟨us,L,q1,q2,q3,q4,q5⟩:=ih (n:=n) h3 (fun x hx=>hd x (by simp[hx])) n2;have e:vh n (d::ds)=(d::(vh n ds).1,(vh n ds).2):=by cases d<;>first|rfl| (simp[D.flat]at hf)
    rw[e];exact⟨us,L,q1,q2,q3,q4,fun κ' hk=>by simpa using fk.cons v vs d _ [] [] h1 (.pure h2) (q5 κ' hk)⟩
   ·obtain⟨us,L,q1,q2,q3,q4,q5⟩:=ih (n:=n+1) h3 (fun x hx=>hd x (by simp[hx])) n2;refine⟨v::us,b1::L,by simp[vh,q1],by simp[q2],by simp[q3],fun j o hj=>?_,fun κ' hk=>?_⟩
    ·cases j with
     |zero=>simp[vh]at hj;subst hj;exact⟨rows,v,b1,rfl,rfl,h1,rfl,h2⟩
     |succ j=>
      obtain⟨dw,u,b,r1,r2,r3,r4,r5⟩:=q4 j o (by simpa[vh]using hj);exact⟨dw,u,b,r1,by simpa using r2,r3,by simpa using r4,r5⟩
    ·have:=fk.cons v vs (.acc n) _ [] [] h1 (.acc n v (by have:=hk 0 v rfl;simpa using this)) (q5 κ' (fun j u hj=>by have:=hk (j+1) u (by simpa using hj);rw[<-this];congr 1;omega));simpa[vh]using this
theorem Uw{r:aQ}(h:Ro r=true):∀d∈r,d.flat=true\/∃rows,d=.sl rows:=by
 intro d hd;have:=aj.1 h d hd;cases d<;>first|exact .inr ⟨_,rfl⟩|exact .inl this
theorem a1k{o:Oper}{T id i sz e t:Nat}{x:Operand}{rows:List aQ}{r:aQ}(hop:o.op=.load T x)(hd:o.dst=some t)(hg:o.guard=none)(ht:t<Γ.nt)
 (hx:st.ev x=.op id i sz 0) (hH:st.H[id]?=some (.row (.mv i) e sz rows)) (hrow:rows[i]?=some r) (hT:Df P T=some true) (hsz:C8 P T=sz) (hok:Ro r=true)
 (h:AO P Γ all rest Q ⟨(t,.agg (vh st.H.length r).1)::st.σ,st.H.set id (.row (.mv (i+1)) e sz rows)++(vh st.H.length r).2⟩):AO P Γ all (o::rest) Q st:=by
 intro κ Θ a w hs;obtain⟨b1,r1,_⟩:=hs.ev x;rw[hx]at r1;obtain⟨g,o0,len,cap,hk,hv⟩:=r1.Ow;obtain⟨ρ,hu⟩:=hs.vG;obtain⟨a5o,hrl,vk0,cs0,Xy,a8D,a45,aBa,hΘ,zy⟩:=hs.ob id _ hH;obtain⟨vk,cs,bs,Vn,hown,vL,hnd,hρ⟩:=hu.more id _ hH;rw[hk]at Vn a8D;cases Vn;cases a8D;have Y3:=Ap hown;subst Y3;rw[cS]at hv;have Vm:r.length=sz:=hrl r (aE hrow);have hlt:i<rows.length:=(aJ.1 hrow).1;have Si:rows.drop i=r::rows.drop (i+1):=by
  rw[nk hlt]
  congr 1
  rw[af hlt]at hrow;exact kZ hrow
 rw[Si,gh]at vL;obtain⟨v1,v2,c1,c2,NT,Nk,k1,k2⟩:=vL.split;have l1:v1.length=sz:=by rw[k1.length,Vm]
 have hcells:∀j c,cs[j]?=some c->w.cell? ⟨g,0+j,none⟩=some c:=by
  intro j c hj;have:=hown.cells (g:=g) (by simp[Value.ownBlock]) j c hj;simpa[Addr.add_lit]using this
 have L0:=tT (P:=P) (w:=w) hT (o:=i*sz+0) hcells;simp only[cS,vl]at L0 hv;have hle:(i+1)*sz<=rows.length*sz:=er _ hlt;rw[nS,qG]at hle;have Ys:=hown.1;have hval:(cs.drop (i*sz)).take sz=v1:=by rw[NT];exact kY l1
 have hrun:(execOp a.eval o).run P w=.ok (.value (.agg v1.toArray)) w:=by
  simp only[execOp,hop,hv];have:=L0.1 trivial (by rw[hsz,Ys];omega);rw[hsz,hval]at this;simp[this]
 refine wpList_plain hg fun K hK=>?_
 unfold Oper.wp;rw[hrun,Oper.upon_value,hd];rw[Nk]at hnd hρ;obtain⟨n1,n2,n3⟩:=bW.1 hnd;obtain⟨us,L,q1,q2,q3,q4,q5⟩:=a13 (κ:=κ) (n:=st.H.length) k1 (Uw hok) n1;let N:=st.H.length
 let κ':Nat->Option Value:=fun j=>if j<N then κ j else us[j-N]?
 let ρ':Nat->Nat:=fun b=>match ix (fun x:aa=>x.contains b) L with|some j=>N+j+1|none=>ρ b
 have hn:∀(j:Nat) v,κ j=some v->κ' j=some v:=by
  intro j v hj;have:j<N:=by
   rcases fN j N with h|h
   ·exact h
   ·rw[hs.tR j h]at hj;cases hj
  simp only[κ'];rw[bL this];exact hj
 have hk':∀(j:Nat) u,us[j]?=some u->κ' (N+j)=some u:=fun j u hj=>by
  simp only[κ'];rw[b9 (by omega),eL];exact hj
 have a7i:L.flatten.Nodup:=by rw[q3];exact n1
 have a8F:∀(j:Nat) x b,L[j]?=some x->b∈x->ρ' b=N+j+1:=by
  intro j x b hj hb;have:ix (fun x:aa=>x.contains b) L=some j:=MO hj (by simpa using hb) (fun m y hm hy=>by
   have hy':b∈y:=by simpa using hy
   exact di fun hne=>by
    have key:∀(L:List aa),L.flatten.Nodup->∀(p q:Nat) x y,L[p]?=some x->L[q]?=some y->b∈x->b∈y->p=q:=by
     intro L
     induction L with
     |nil=>intro _ p q x y hp;simp at hp
     |cons z L ih=>
      intro hnd p q x y hp hq HK hby;simp only[gh]at hnd;obtain⟨m1,m2,m3⟩:=bW.1 hnd;cases p with
      |zero=>
       cases q with
       |zero=>rfl
       |succ q=>
        simp at hp hq;subst hp;exact absurd rfl (m3 b HK b (qP.2 ⟨y,aE hq,hby⟩))
      |succ p=>
       cases q with
       |zero=>
        simp at hp hq;subst hq;exact absurd rfl (m3 b hby b (qP.2 ⟨x,aE hp,HK⟩))
       |succ q=>simp at hp hq;rw[ih m2 p q x y hp hq HK hby]
    exact hne (key L a7i m j y x hm hj hy' hb))
  simp only[ρ',this]
 have RA:∀b,b∉c1->ρ' b=ρ b:=by
  intro b hb;simp only[ρ'];cases hi:ix (fun x:aa=>x.contains b) L with
  |none=>rfl
  |some j=>
   obtain⟨x,hx',hp⟩:=ER hi;exact absurd (by rw[<-q3];exact qP.2 ⟨x,aE hx',by simpa using hp⟩) hb
 have aE2:id<N:=(aJ.1 hH).1;have key:∀(j:Nat) y,(st.H.set id (.row (.mv (i+1)) e sz rows)++(vh st.H.length r).2)[j]?=some y->(j=id/\y=.row (.mv (i+1)) e sz rows)\/(j≠id/\j<N/\st.H[j]?=some y)\/∃m,j=N+m/\(vh st.H.length r).2[m]?=some y:=by
  intro j y hj;by_cases hlt:j<N
  ·rw[bA (by simpa using hlt)]at hj;rcases HP j y hj with h|⟨h1,h2⟩
   ·exact .inl h
   ·exact .inr (.inl ⟨h1,hlt,h2⟩)
  ·rw[bE (by simpa using hlt)]at hj;exact .inr (.inr ⟨j-N,by omega,by simpa using hj⟩)
 have kk:jU w w Θ Θ (id+2):=jU.refl hs.own (by omega);have w5:=hs.sA kk hn hu;have hone:∀(j:Nat) u,κ' j=some u->u.oneCell'=true:=by
  intro j u hj;simp only[κ']at hj;split at hj
  ·exact hs.s9 j u hj
  ·have hjl:j-N<(vh st.H.length r).2.length:=by rw[<-q1];exact(aJ.1 hj).1
   obtain⟨_,u',_,_,r2,r3,_⟩:=q4 (j-N) _ (af hjl);rw[hj]at r2;cases r2;exact r3
 have Pe:∀b∈c1,Θ b=0:=fun b hb=>(hu.free b (by rw[hρ b (by simp[hb])];omega)).1
 have hs':eN Γ ⟨st.σ,st.H.set id (.row (.mv (i+1)) e sz rows)++(vh st.H.length r).2⟩ κ' Θ a w:=by
  refine hs.step kk hs.mine hn (fun j hj=>?_) hone (fun j y hj=>?_) ⟨ρ',fun b hb=>?_,fun j e2 PC fT hj=>?_,fun j y hj=>?_⟩
  ·simp only[ax,jQ]at hj;simp only[κ'];rw[b9 (by omega)];exact cr (by rw[q1];exact Nat.le_sub_of_add_le' hj)
  ·rcases key j y hj with⟨rfl,rfl⟩|⟨h1,h2,h3⟩|⟨m,rfl,hm⟩
   ·exact .inr (.inr ⟨a5o,hrl,_,cs0,Xy,hn _ _ hk,a45,aBa,hΘ,zy⟩)
   ·exact .inr (.inl ⟨by omega,h3⟩)
   ·obtain⟨dw,u,b,rfl,r2,r3,r4,r5⟩:=q4 m y hm;exact .inr (.inr ⟨u,b,hk' m u r2,r5,fun x hx'=>Pe x (by rw[<-q3];exact qP.2 ⟨b,aE r4,hx'⟩)⟩)
  ·by_cases hb':b∈c1
   ·exact w5.1 b (by rw[hρ b (by simp[hb'])];omega)
   ·rw[RA b hb']at hb;exact w5.1 b hb
  ·rcases key j _ hj with⟨_,h⟩|⟨h1,h2,h3⟩|⟨m,rfl,hm⟩
   ·cases h
   ·obtain⟨v',cs',bs',p1,p2,p3,p4,p5⟩:=w5.2.1 j e2 PC fT (by omega) h3;refine⟨v',cs',bs',p1,p2,p3,p4,fun b hb=>?_⟩;rw[RA b (fun hb'=>by have:=hρ b (by simp[hb']);have:=p5 b hb;omega)];exact p5 b hb
   ·obtain⟨_,_,_,h,_⟩:=q4 m _ hm;cases h
  ·rcases key j _ hj with⟨rfl,rfl⟩|⟨h1,h2,h3⟩|⟨m,rfl,hm⟩
   ·refine⟨_,cs,c2,hn _ _ hk,hown,?_,n2,fun b hb=>?_⟩
    ·have e1:cs.drop ((i+1)*sz)=v2:=by
      rw[nS,qG,<-iy,NT];exact jP l1
     rw[e1];exact k2
    ·rw[RA b (fun hb'=>n3 b hb' b hb rfl)];exact hρ b (by simp[hb])
   ·refine(w5.2.2 j y (by omega) h3).re fun b hb=>?_
    rw[RA b (fun hb'=>by have:=hρ b (by simp[hb']);omega)];exact hb
   ·obtain⟨dw,u,b,rfl,r2,r3,r4,r5⟩:=q4 m y hm;have hsub:∀x∈b,ρ' x=N+m+1:=fun x hx'=>a8F m b x r4 hx'
    have aAu:b.Nodup:=by
     have Zi:∀(L:List aa),L.flatten.Nodup->∀x∈L,x.Nodup:=by
      intro L
      induction L with
      |nil=>intro _ x hx';cases hx'
      |cons z L ih=>
       intro hnd x hx';simp only[gh]at hnd;obtain⟨m1,m2,_⟩:=bW.1 hnd;rcases bJ.1 hx' with rfl|hx'
       ·exact m1
       ·exact ih m2 x hx'
     exact Zi L a7i b (aE r4)
    exact⟨u,b,hk' m u r2,r5,aAu,hsub⟩
 refine hK _ _ (h κ' Θ _ w (hs'.set (t:=t) ht (.v (.agg v1 _ [] (q5 κ' hk'))) (by simp)))
theorem Du{o:Oper}{t:Nat}{d:D}{A A':List An}{p:Fb}(hd:o.dst=some t)(hg:o.guard=none)(ht:t<Γ.nt)(hv:IY P st o.op A=some (d,A',p))(hp:Ag p)(h:AO P Γ all rest Q ⟨(t,d)::st.σ,st.H⟩):
 AO P Γ all (o::rest) Q st:=a3p hd hg ht (WY hv hp) h
theorem We{o:Oper}{s id e sz:Nat}{k:RK}{rows:List aQ}(hx:lk st.σ s=.acc id)(hH:st.H[id]?=some (.row k e sz rows))(hk:k.RV=true)
 (h:AO P Γ all (o::rest) Q ⟨(s,.sl rows)::st.σ,st.H.set id .gone⟩):AO P Γ all (o::rest) Q st:=by
 intro κ Θ a w hs;obtain⟨ρ,hu⟩:=hs.vG;obtain⟨Θ',ρ',hs',_,⟨v,bs,hkm,hrd,hz,_⟩,_⟩:=hs.a6H hu hH hk;obtain⟨bx,rx,_⟩:=hs.slot s;rw[hx]at rx;obtain⟨hkx,_⟩:=rx.zI;have hv:a.tmps.getD s undef=v:=by rw[hkm]at hkx;cases hkx;rfl
 refine h κ Θ' a w ⟨hs'.defers,hs'.size,hs'.tR,hs'.s9,fun u=>?_,hs'.ob,hs'.own,hs'.old,hs'.mine,hs'.stays,hs'.vG⟩;show∃bs,ue w κ (a.tmps.getD u undef) (if u=s then .sl rows else lk st.σ u) bs/\_;by_cases w5:u=s
 ·subst w5;rw[bL rfl,hv];exact⟨bs,.of hrd,hz⟩
 ·rw[b9 w5];exact hs'.slot u
theorem vT(c:Call){callee:Callee}{xs:List Operand}{ts:List TypeId}(h1:c.callee=callee)(h2:c.args.toList=xs)(h3:c.argTypes.toList=ts):c= {callee:=callee,args:=xs.toArray,argTypes:=ts.toArray}:=by
 cases c;simp only at h1 h2 h3;subst h1;subst h2;subst h3;simp
theorem Qg{o:Oper}{A A':List An}{wz:St}{p:Fb}{nt:Nat}(hnt:Γ.nt=nt)(hg:o.guard=none)(h:It P nt o st A=some (wz,A',p))(hp:Ag p)(hn:AO P Γ all rest Q wz):AO P Γ all (o::rest) Q st:=by
 subst hnt;unfold It at h;split at h
 ·rename_i T x t hop hd;split at h
  ·split at h
   ·cases h;exact a5D hop hd hg (by assumption) (by assumption) hn
   ·cases h
  ·cases h
 ·rename_i T t hop hd;split at h
  ·split at h
   ·cases h;exact Y9 hop hd hg (by assumption) (by assumption) hn
   ·cases h
  ·cases h
 ·rename_i T x y hop hd;split at h
  ·rename_i id off ds h1 h2;split at h
   ·rename_i ob h3;split at h
    ·rename_i cells h4;split at h
     ·rename_i hc;cases h;exact YG hop hd hg h1 h3 h4 h2 hc.1 hc.2.1 hc.2.2.1 hc.2.2.2 hn
     ·cases h
    ·cases h
   ·cases h
  ·rename_i id i sz off ds h1 h2;split at h
   ·cases h
   ·rename_i k e sz' rows es ms r A1 h3 h4;split at h
    ·rename_i hc;obtain⟨c1,c2,rfl,c4,c5,c6,c7⟩:=hc;cases h;exact S2 hop hd hg h1 h3 c4 hp.1 h2 h4 c6 c7 c1 c2 c5 hn
    ·cases h
   ·cases h
  ·cases h
 ·rename_i T t hop hd;split at h
  ·cases h;exact Tp hop hd hg (by assumption) hn
  ·cases h
 ·rename_i T x i y hop hd;split at h
  ·rename_i kd dz id m A1 h1 h2;split at h
   ·rename_i kv h3;split at h
    ·rename_i hc;cases h;exact Qf hop hd hg h1 h2 h3 hc.1 hc.2 hp.1 hn
    ·cases h
   ·cases h
  ·cases h
 ·rename_i T x y t hop hd;split at h
  ·rename_i e sz k n k' n' h1 h2 h3;split at h
   ·rename_i zs h4;split at h
    ·rename_i hc;cases h;obtain⟨⟨rfl,q2,q3,q4⟩,_⟩:=hp;exact Qe hop hd hg hc.1 h1 h4 hc.2 h2 h3 q2 q3 q4 hn
    ·cases h
   ·cases h
  ·cases h
 ·rename_i T len parts t hop hd;split at h
  ·rename_i e sz h1;split at h
   ·rename_i zs h2;split at h
    ·rename_i ds h3;split at h
     ·rename_i es ms h4;split at h
      ·rename_i hc;cases h;exact PS hop hd hg hc.1 h1 h2 hc.2.1 hc.2.2.1 h3 h4 hc.2.2.2 hn
      ·cases h
     ·cases h
    ·cases h
   ·cases h
  ·cases h
 ·rename_i c t hop hd;split at h
  ·rename_i s x T T' h1 h2 h3;split at h
   ·rename_i e sz h4;split at h
    ·rename_i zs rows u1 k1 fT u2 k2 A1 ow h5 h6 h7;split at h
     ·rename_i hc;obtain⟨c1,c2,rfl,c4⟩:=hc;cases h;obtain⟨⟨q1,q2⟩,q3⟩:=hp;exact a5C (hop.trans (congrArg Op.call (vT c h1 h2 h3))) hd hg c1 h4 h5 c2 h6 h7 q3 c4 q1 q2 hn
     ·cases h
    ·cases h
   ·cases h
  ·rename_i x T h1 h2 h3;split at h
   ·cases h
   ·split at h
    ·split at h
     ·rename_i d A1 ow h4;cases h;exact Du hd hg (by assumption) h4 hp hn
     ·cases h
    ·cases h
  ·rename_i f xs ts h1;split at h
   ·cases h
   ·rename_i nz cells' d A1 h4;split at h
    ·rename_i x0 xr h5;split at h
     ·rename_i id h6;split at h
      ·rename_i ob h7;split at h
       ·rename_i Ls h8;split at h
        ·rename_i cells ds ms qs h9;split at h
         ·rename_i hc;obtain⟨c1,c2,c3⟩:=hc;cases h;exact YF (hop.trans (congrArg Op.call (vT c h1 rfl rfl))) hd hg c1 (by simpa using h5) h6 h7 h8 h9 c2 c3 hp.1 hn
         ·cases h
        ·cases h
       ·cases h
      ·cases h
     ·cases h
    ·cases h
   ·rename_i ds ms cells A1 h4;split at h
    ·rename_i hc;obtain⟨c1,rfl⟩:=hc;cases h;exact YD (hop.trans (congrArg Op.call (vT c h1 rfl rfl))) hd hg c1 (by simpa using h4) hp.1 hn
    ·cases h
   ·cases h
   ·rename_i id dw A1 h4;split at h
    ·rename_i e sz rows h5;split at h
     ·rename_i hc;obtain⟨c1,c3⟩:=hc;cases h;exact YE (hop.trans (congrArg Op.call (vT c h1 rfl rfl))) hd hg c1 h5 c3.2 hp.1 (by simpa using c3.1) (by simpa using hp.2.1) hn
     ·cases h
    ·cases h
   ·rename_i id dw A1 h4;split at h
    ·rename_i x k e sz rows h5 h6;split at h
     ·rename_i id' h7;split at h
      ·rename_i hc;obtain⟨c1,rfl,c3⟩:=hc;cases h;have e1:c.args= #[x]:=by rw[<-sY];simpa using h5
       refine YC (ts:=c.argTypes) (hop.trans (congrArg Op.call ?_)) (fun t' ht'=>?_) hg h7 h6 c3.1 c3.2 hp.1 hp.2.1 ?_
       ·rw[<-e1];exact vT c h1 rfl rfl
       ·rw[hd]at ht';cases ht';exact c1
       ·rw[hd];exact hn
      ·cases h
     ·cases h
    ·cases h
   ·rename_i ds ms d A1 h4;split at h
    ·rename_i hc;cases h;exact a1h (hop.trans (congrArg Op.call (vT c h1 rfl rfl))) hd hg hc.1 (by simpa using h4) hc.2 hp.1 hn
    ·cases h
   ·rename_i d A1;split at h
    ·rename_i hc;cases h;exact YB (hop.trans (congrArg Op.call (vT c h1 rfl rfl))) hd hg hc.1 (by simpa using hc.2) (by simpa using hp.1) hn
    ·cases h
   ·rename_i nz d A1;split at h
    ·rename_i ds ms qs h9;split at h
     ·rename_i hc;obtain⟨c1,c2,c3⟩:=hc;cases h;exact YA (hop.trans (congrArg Op.call (vT c h1 rfl rfl))) hd hg c1 h9 c2 c3 hp.1 hn
     ·cases h
    ·cases h
   ·cases h
  ·split at h
   ·split at h
    ·rename_i d A1 ow h4;cases h;exact Du hd hg (by assumption) h4 hp hn
    ·cases h
   ·cases h
 ·rename_i s d x t hop hd;split at h
  ·rename_i id h1;split at h
   ·rename_i k e' sz' rows e sz h2 h3;split at h
    ·rename_i bs h4;split at h
     ·rename_i hc;obtain⟨c1,rfl,c3,c4⟩:=hc;cases h;exact a1i hop hd hg c1 h1 h2 h3 c3 c4 h4 hn
     ·cases h
    ·cases h
   ·cases h
  ·split at h
   ·split at h
    ·rename_i d A1 ow h4;cases h;exact Du hd hg (by assumption) h4 hp hn
    ·cases h
   ·cases h
 ·rename_i x t hop hd;split at h
  ·rename_i A1;split at h
   ·rename_i e sz h1 h2;split at h
    ·rename_i hc;cases h;exact a5F hop hd hg hc.1 h1 hc.2 hn
    ·cases h
   ·cases h
  ·split at h
   ·cases h;exact a3p hd hg (by assumption) (by rw[hop];rfl) hn
   ·cases h
 ·rename_i T x hi t hop hd;split at h
  ·rename_i id h1;split at h
   ·rename_i e sz rows e' sz' kk n hh A1 h2 h3 h4;split at h
    ·rename_i hc;obtain⟨c1,rfl⟩:=hc;cases h;exact a1j hop hd hg c1 h3 h1 h2 (by rw[h4,hp.1.1]) hp.1.2 hn
    ·cases h
   ·cases h
  ·split at h
   ·split at h
    ·rename_i d A1 ow h4;cases h;exact Du hd hg (by assumption) h4 hp hn
    ·cases h
   ·cases h
 ·rename_i T s lo t hop hd;split at h
  ·rename_i A0 id h1;split at h
   ·rename_i k e sz rows h2;split at h
    ·rename_i hc;split at h
     ·rename_i d A1 ow h4;cases h;exact We h1 h2 hc.2 (Du hd hg hc.1 h4 hp hn)
     ·cases h
    ·cases h
   ·cases h
  ·split at h
   ·split at h
    ·rename_i d A1 ow h4;cases h;exact Du hd hg (by assumption) h4 hp hn
    ·cases h
   ·cases h
 ·rename_i T x i t hop hd;split at h
  ·cases h
  ·split at h
   ·split at h
    ·rename_i d A1 ow h4;cases h;exact Du hd hg (by assumption) h4 hp hn
    ·cases h
   ·cases h
 ·rename_i T x t hop hd;split at h
  ·cases h
  ·split at h
   ·rename_i r A1 id i sz h1;split at h
    ·rename_i n e sz' rows h2;split at h
     ·rename_i hc;obtain⟨c1,rfl,c3,c4⟩:=hc;cases h;obtain⟨⟨rfl,q2,q3⟩,_⟩:=hp;exact a1k hop hd hg c1 h1 h2 q2 c3 c4 q3 hn
     ·cases h
    ·cases h
   ·split at h
    ·split at h
     ·rename_i d A1 ow h4;cases h;exact Du hd hg (by assumption) h4 hp hn
     ·cases h
    ·cases h
 ·split at h
  ·split at h
   ·rename_i d A1 ow h4;cases h;exact Du (by assumption) hg (by assumption) h4 hp hn
   ·cases h
  ·cases h
 ·cases h
theorem a0x{o:Oper}{A A':List An}{wz:St}{p:Fb}{nt:Nat}(hnt:Γ.nt=nt)(h:It P nt o st A=some (wz,A',p)):∀ {t:Nat},o.dst=some t->t<Γ.nt:=by
 intro t ht;subst hnt;unfold It at h;split at h
 all_goals first
  | (rename_i hd;rw[ht]at hd;cases hd;done)
  |skip
 all_goals(try(rename_i hd;rw[ht]at hd;cases hd))
 all_goals(repeat' split at h)
 all_goals(try cases h)
 all_goals first
  |assumption
  | (
   have hc:_/\_:=by assumption
   exact hc.1)
  | (simp_all;done)
end
abbrev gI:=List An
section
variable{P:Program}{Γ:vn}{Q:Exit->St->Prop}{st:St}{κ:Nat->Option Value}{Θ:Nat->Nat}{a:Act}{w:World}{all:Array Oper}{X:aa}
def BA(X:aa)(H H':bY):Prop:=∀(i:Nat) o,i∉X->H[i]?=some o->H'[i]?=some o
theorem BA.refl{X:aa}(H:bY):BA X H H:=fun _ _ _ h=>h
theorem BA.trans{X:aa}{A B C:bY}(h:BA X A B)(k:BA X B C):BA X A C:=fun i o n e=>k i o n (h i o n e)
theorem BA.app{X:aa}{H H':bY}(h:BA X H H')(n:bY):BA X H (H'++n):=by
 intro i o hni hi;have:=h i o hni hi;rw[bA (aJ.1 this).1,this]
theorem BA.cs{X:aa}{H H':bY}(h:BA X H H'){i:Nat}{cs:aQ}(hi:i∉X)(hc:(H[i]?).bind Ob.VV=some cs):(H'[i]?).bind Ob.VV=some cs:=by
 obtain⟨ob,hb,Qz⟩:=pF.1 hc;rw[h i ob hi hb];exact Qz
def EV(X:aa)(st:St):Op->Bool
 | .fieldAddr _ _ _=>true
 | .field _ _ _=>true
 | .extract _ _=>true
 | .move _=>true
 | .binOp _ _ _ _ _=>true
 | .unOp _ _ _=>true
 | .nilCheck _=>true
 | .convert _ _ _=>true
 | .index _ _ _=>true
 | .build _ _=>true
 | .indexAddr _ x _=>(match st.ev x with| .sl _=>true| .acc id=> !X.contains id|_=>false)
 | .load _ x=>(match st.ev x with| .ep _ _=>true| .ptr id _=> !X.contains id| .op id _ _ _=> !X.contains id|_=>false)
 |_=>false
theorem a0z{X:aa}{σ σ':List (Nat×D)}{H H':bY}{op:Op}{d:D}(hx:BA X H H')(hs:EV X ⟨σ,H⟩ op=true)(he:∀x∈op.operands.toList,St.ev ⟨σ,H⟩ x=St.ev ⟨σ',H'⟩ x)(h:pv P ⟨σ,H⟩ op=some d):pv P ⟨σ',H'⟩ op=some d:=by
 cases op<;>simp only[EV,B6]at hs<;>simp only[pv]at h⊢
 case move x=>rw[he x (by simp[Op.operands])]at*;exact h
 case nilCheck x=>rw[he x (by simp[Op.operands])]at h;exact h
 case binOp op t x y t'=>rw[he x (by simp[Op.operands]),he y (by simp[Op.operands])]at h;exact h
 case unOp op t x=>cases op<;>simp only[pv]at h⊢ <;>(try cases h)<;>(rw[he x (by simp[Op.operands])]at h;exact h)
 case convert s d x=>rw[he x (by simp[Op.operands])]at h;exact h
 case field t x f=>rw[he x (by simp[Op.operands])]at h;exact h
 case fieldAddr t x f=>rw[he x (by simp[Op.operands])]at h;exact h
 case indexAddr t x i=>
  rw[he x (by simp[Op.operands])]at hs;rw[he x (by simp[Op.operands]),he i (by simp[Op.operands])]at h;split at hs
  ·rename_i rows h0;rw[h0]at h⊢;generalize LY P t=a at h⊢;generalize St.ev ⟨σ',H'⟩ i=b at h⊢;cases a<;>cases b<;>exact h
  ·rename_i id h0;rw[h0]at h⊢;generalize LY P t=a at h⊢;generalize St.ev ⟨σ',H'⟩ i=b at h⊢;cases a<;>cases b<;>first|exact h|skip
   dsimp only at h⊢;cases hH:H[id]? with
   |none=>rw[hH]at h;cases h
   |some o=>rw[hx id o (by simpa using hs) hH];rw[hH]at h;exact h
  ·cases hs
 case load t x=>
  rw[he x (by simp[Op.operands])]at hs h;split at hs
  ·rename_i row off h0;rw[h0]at h⊢;generalize Df P t=a at h⊢;cases a<;>exact h
  ·rename_i id off h0;rw[h0]at h⊢;generalize Df P t=a at h⊢;cases a
   ·exact h
   ·dsimp only at h⊢;split at h
    ·rename_i cells hH;simp only[hx.cs (by simpa using hs) hH];exact h
    ·cases h
  ·rename_i id i sz off h0;rw[h0]at h⊢;generalize Df P t=a at h⊢;cases a
   ·exact h
   ·dsimp only at h⊢;cases hH:H[id]? with
    |none=>rw[hH]at h;cases h
    |some o=>rw[hx id o (by simpa using hs) hH];rw[hH]at h;exact h
  ·cases hs
 case extract x i=>rw[he x (by simp[Op.operands])]at h;exact h
 case index t x i=>rw[he x (by simp[Op.operands]),he i (by simp[Op.operands])]at h;exact h
 case build t parts=>
  have:(parts.toList.map fun p=>(p.1,St.ev ⟨σ,H⟩ p.2))=parts.toList.map fun p=>(p.1,St.ev ⟨σ',H'⟩ p.2):=by
   apply nF;intro p hp;rw[he p.2 (by simp only[Op.operands];simp;exact⟨p.1,by simpa using hp⟩)]
  rw[this]at h;exact h
def Tu(xs acc:aa):aa:=xs.foldl (fun acc x=>bif acc.contains x then acc else x::acc) acc
theorem UZ:∀ {xs acc:aa} {x:Nat},x∈Tu xs acc->x∈xs\/x∈acc:=by
 intro xs
 induction xs with
 |nil=>intro acc x h;exact .inr h
 |cons y ys ih=>
  intro acc x h;rcases ih (acc:=bif acc.contains y then acc else y::acc) h with h|h
  ·exact .inl (by simp[h])
  ·cases hc:acc.contains y with
   |true=>rw[hc]at h;exact .inr h
   |false=>
    rw[hc]at h;rcases bJ.1 h with rfl|h
    ·exact .inl (by simp)
    ·exact .inr h
def a3u(acc:List aa)(es:List Edge):aa:=es.foldl (fun d e=>bif Region.binds .any e then Tu (e.on::acc.getD e.on []) d else d) []
theorem XH{acc:List aa}{es:List Edge}{i:Nat}(h:i∈a3u acc es):∃e∈es,Region.binds .any e=true/\(i=e.on\/i∈acc.getD e.on []):=by
 have key:∀(es:List Edge) (d:aa),i∈es.foldl (fun d e=>bif Region.binds .any e then Tu (e.on::acc.getD e.on []) d else d) d->i∈d\/∃e∈es,Region.binds .any e=true/\(i=e.on\/i∈acc.getD e.on []):=by
  intro es
  induction es with
  |nil=>intro d h;exact .inl h
  |cons e es ih=>
   intro d h;rcases ih _ h with h|⟨e',h1,h2⟩
   ·cases hb:Region.binds .any e with
    |false=>simp only[hb,aM]at h;exact .inl h
    |true=>
     simp only[hb,aF]at h;rcases UZ h with h|h
     ·exact .inr ⟨e,by simp,hb,by simpa using h⟩
     ·exact .inl h
   ·exact .inr ⟨e',by simp[h1],h2⟩
 rcases key es [] h with h|h
 ·cases h
 ·exact h
def Kx(acc:List aa)(o:Oper):List aa:=acc++[a3u acc o.after.toList]
def U3(ops:List Oper):List aa:=ops.foldl Kx []
theorem a2L{ops:Array Oper}{listed:Array Bool}(closed:∀(j:Nat) oj,ops[j]?=some oj->listed.getD j false=true->∀e∈oj.after,Region.binds .any e=true->listed.getD e.on false=true):
 ∀(l pre:List Oper) (acc:List aa),ops.toList=pre++l->acc.length=pre.length->
  (∀(j:Nat) o,ops[j]?=some o->(∀e∈o.after,Region.binds .any e=true->listed.getD e.on false=true)->∀i∈acc.getD j [],listed.getD i false=true)->
  ∀(j:Nat) o,ops[j]?=some o->(∀e∈o.after,Region.binds .any e=true->listed.getD e.on false=true)->∀i∈(l.foldl Kx acc).getD j [],listed.getD i false=true:=by
 intro l
 induction l with
 |nil=>intro pre acc _ _ h;exact h
 |cons o l ih=>
  intro pre acc hl ha h;refine ih (pre++[o]) (Kx acc o) (by simp[hl]) (by simp[Kx,ha]) ?_;intro j oj hj hall i hi;unfold Kx at hi;rw[mX]at hi;rcases xo j acc.length with hlt|heq|hgt
  ·rw[bA hlt,<-mX]at hi;exact h j oj hj hall i hi
  ·subst heq;rw[bE (bU _),rJ]at hi;simp only[Cs,vm]at hi;have ho:oj=o:=by
    rw[<-nr,hl,bE (by omega),ha,rJ]at hj;simpa using hj.symm
   subst ho;obtain⟨e,he,hb,hi⟩:=XH hi;have he':e∈oj.after:=by simpa using he
   have hel:=hall e he' hb;rcases hi with rfl|hi
   ·exact hel
   ·cases hoe:ops[e.on]? with
    |none=>
     have h1:e.on<acc.length:=by
      rcases fN e.on acc.length with h|h
      ·exact h
      ·rw[mX,cr h]at hi;cases hi
     have h2:ops.size<=e.on:=by simpa using hoe
     have h3:ops.size=pre.length+(l.length+1):=by rw[<-wL,hl];simp
     omega
    |some oe=>exact h e.on oe hoe (closed e.on oe hoe hel) i hi
  ·rw[cr (by simp;omega)]at hi;cases hi
theorem zi{ops:Array Oper}{listed:Array Bool}(closed:∀(j:Nat) oj,ops[j]?=some oj->listed.getD j false=true->∀e∈oj.after,Region.binds .any e=true->listed.getD e.on false=true){j:Nat}(hj:j∈Region.ready .any ops listed){i:Nat}(hi:((U3 ops.toList).getD j []).contains i=true):listed.getD i false=true:=by
 obtain⟨_,o,ho,hall⟩:=mem_ready.1 hj;exact a2L closed ops.toList [] [] (by simp) rfl (by simp) j o ho hall i (List.contains_iff_mem.1 hi)
def Yf(dp:List aa)(ops:Array Oper)(n m:Nat)(L:aa):Bool:=
 (decide (n<=m)&&decide (m<ops.size))&&
 (Region.seqB .any ops (ops.size-m) m (Array.replicate m true++Array.replicate (ops.size-m) false)&&
 (((List.range (ops.size-m)).all fun j=>(List.range m).all fun i=>(dp.getD (m+j) []).contains i)&&
 (((List.range (m-n)).all fun j=>(List.range (n+j)).all fun i=>(dp.getD (n+j) []).contains i||L.contains i)&&
 (((List.range m).all fun i=>match ops[i]? with|none=>false|some o=>o.after.all fun e=> !Region.binds .any e||decide (e.on<i))&&
 ((
  (List.range n).all fun i=>match ops[i]? with
  |none=>false
  |some o=>((o.looksAt ops).all fun t=>(List.range n).all fun j=>match ops[j]? with|some oj=> !(oj.dst==some t)||(decide (j<i)&&Region.waitsFor .any ops i j)|none=>true)&&
   (List.range n).all fun j=>j==i||(match ops[j]? with|some oj=> !(oj.dst==o.dst)||o.dst.isNone|none=>true))&&
 ((
  (List.range (m-n)).all fun j=>match ops[n+j]? with
  |none=>false
  |some o=>L.all fun i=>match ops[i]? with
   |none=>false
   |some oi=>(!(oi.dst==o.dst)&& !((oi.looksAt ops).any fun t=>o.dst==some t))&&((dp.getD (n+j) []).contains i|| !((o.looksAt ops).any fun t=>oi.dst==some t)))&&
 L.all fun i=>decide (i<n)&&(match ops[i]? with|some oi=>oi.guard.isNone&&oi.dst.isSome|none=>false)))))))
def OC(ops:Array Oper)(n m:Nat)(L:aa):Bool:=Yf (U3 ops.toList) ops n m L
def Step(P:Program)(Γ:vn)(o:Oper)(st zu:St):Prop:=
 ∀κ Θ a w,eN Γ st κ Θ a w->o.wp P a w (fun a' w'=>∃κ' Θ',eN Γ zu κ' Θ' a' w') (fun e _ _=>e=.normal)
def Y8(P:Program)(Γ:vn)(X:aa)(K:St->Prop):List Oper->St->Prop
 | [],st=>K st
 |o::os,st=>∃zu,((∃t d,o.dst=some t/\t<Γ.nt/\zu.σ=(t,d)::st.σ)\/(o.dst=none/\zu.σ=st.σ))/\BA X st.H zu.H/\o.guard=none/\(∀cs b,o.op≠ .select cs b)/\Step P Γ o st zu/\Y8 P Γ X K os zu
theorem Tk{o:Oper}{a b:Act}{w:World}{K K2:Act->World->Prop}{Q1 Q2:Exit->Act->World->Prop}(hsel:∀cs b,o.op≠ .select cs b)(he:∀x∈o.op.operands,a.eval x=b.eval x)
 (hK:∀v w',K (b.put o.dst v) w'->K2 (a.put o.dst v) w') (hdf:∀d w',¬K ({b with defers:=d::b.defers}.put o.dst undef) w') (hQ:∀e c w',Q1 e c w'->e=.normal) (h:o.wp P b w K Q1):o.wp P a w K2 Q2:=by
 unfold Oper.wp at*;rw[execOp_congr o hsel he];generalize(execOp b.eval o).run P w=r at*;cases r with
 |ok n w'=>
  cases n with
  |value v=>exact hK _ _ h
  |skip=>exact hK _ _ h
  |defer d=>exact absurd h (hdf _ _)
  |enter f args=>
   refine Calls.mono h ?_;intro e w'' he;cases e with
   |returned v=>exact hK _ _ he
   |panicked c=>exact absurd (hQ _ _ _ he) (by simp)
   |outgrown=>
    obtain⟨a0,w0,hq⟩:=he;exact absurd (hQ _ _ _ hq) (by simp)
  |row r args=>exact Rows.mono h fun v w'' he=>hK _ _ he
  |_=>exact h.elim
 |halt x w'=>
  cases x with
  |panic u=>exact absurd (hQ _ _ _ h) (by simp)
  |_=>exact h.elim
theorem a6G{l:List (Nat×D)}{σ:List (Nat×D)}(h:∀p∈l,p.2=.any){t:Nat}(ht:t∈l.map Prod.fst):lk (l++σ) t=.any:=by
 induction l with
 |nil=>cases ht
 |cons p l ih=>
  obtain⟨u,d⟩:=p;have hd:d=.any:=h (u,d) (by simp);subst hd;simp only[si,lk];by_cases e:t=u
  ·rw[bL e]
  ·rw[b9 e];refine ih (fun p hp=>h p (by simp[hp])) ?_;simp only[au,bJ]at ht;rcases ht with h|h
   ·exact absurd h e
   ·exact h
theorem Jj(a:Act){t u:Nat}(v:Value)(h:u≠t):(a.put (some t) v).tmps.getD u undef=a.tmps.getD u undef:=by
 show(a.tmps.setIfInBounds t v).getD u undef=_;simp[cL,tg h]
theorem LQ(a:Act){t:Nat}(v:Value)(h:t<a.tmps.size):(a.put (some t) v).tmps.getD t undef=v:=by
 show(a.tmps.setIfInBounds t v).getD t undef=_;simp[cL,h]
theorem count_set{m i:Nat}{listed:Array Bool}(hi:i<m)(hsz:i<listed.size)(hl:listed.getD i false=false):((List.range m).filter fun j=> !(listed.setIfInBounds i true).getD j false).length+1=((List.range m).filter fun j=> !listed.getD j false).length:=by
 have X1:((List.range m).filter fun j=> !(listed.setIfInBounds i true).getD j false)=((List.range m).filter fun j=> !listed.getD j false).erase i:=by
  have hnd:((List.range m).filter fun j=> !listed.getD j false).Nodup:=zN _ Ct;rw[hnd.erase_eq_filter,xE];apply xk;intro j _;by_cases e:j=i
  ·subst e;simp[hsz]
  ·rw[getD_set_ne false (tg e)];simp[e]
 have hmem:i∈(List.range m).filter fun j=> !listed.getD j false:=fY.2 ⟨bu.2 hi,by simp only[hl];rfl⟩
 have hpos:0<((List.range m).filter fun j=> !listed.getD j false).length:=Dq hmem;rw[X1,sC hmem];omega
def YK(P:Program)(Γ:vn)(X:aa)(l:List Oper)(σF:List (Nat×D))(H0:bY)(i:Nat):Prop:=
 ∃o t d,l.toArray[i]?=some o/\o.guard=none/\o.dst=some t/\t<Γ.nt/\lk σF t=d/\∀σ' H',BA X H0 H'->(∀u∈o.looksAt l.toArray,lk σ' u=lk σF u)->pv P ⟨σ',H'⟩ o.op=some d
theorem SW{l:List Oper}{n m:Nat}{L:aa}{σF:List (Nat×D)}{H0:bY}(hB:OC l.toArray n m L=true)(a42:∀i∈L,YK P Γ X l σF H0 i):
 ∀(f c:Nat) (S:St) (listed:Array Bool) (σ':List (Nat×D)) (κ:Nat->Option Value) (Θ:Nat->Nat) (a:Act) (w:World),HeadInv .any l.toArray l.toArray.size listed->
  (∀i,i<n->i∉L->listed.getD i false=true)->n+c<=m->(∀i,n<=i->i<n+c->listed.getD i false=true)->(∀i,n+c<=i->i<l.toArray.size->listed.getD i false=false)->
  ((List.range m).filter fun i=> !listed.getD i false).length=f->
  (∀t,(∀(i:Nat) o,l.toArray[i]?=some o->n<=i->i<n+c->o.dst≠some t)->lk S.σ t=lk σF t)->BA X H0 S.H->
  Y8 P Γ X (fun wz=>AO P Γ l.toArray (l.drop m) Q wz) ((l.drop (n+c)).take (m-(n+c))) S->
  (∀t,(∀i∈L,∀o,l.toArray[i]?=some o->listed.getD i false=false->o.dst≠some t)->lk σ' t=lk S.σ t)->
  eN Γ ⟨σ',S.H⟩ κ Θ a w->
  wpAny P .any l.toArray (fun e a' w'=>∃wz κ' Θ',eN Γ wz κ' Θ' a' w'/\Q e wz) (f+(l.toArray.size-m)) listed a w:=by
 simp only[OC,Yf,aR,bC]at hB;obtain⟨⟨hnm,OU⟩,a2W,ZD,hmid,Yu,Yy,Z5,hL⟩:=hB;have aAe:∀i,i<m->∃o,l.toArray[i]?=some o/\∀e∈o.after,Region.binds .any e=true->e.on<i:=by
  intro i hi;have:=aj.1 Yu i (bu.2 hi);split at this
  ·cases this
  ·rename_i o ho;refine⟨o,ho,fun e he hb=>?_⟩;have:=xD.1 this e he;simpa[hb]using this
 have Gu:∀i∈L,i<n:=by
  intro i hi;have:=aj.1 hL i hi;simp only[aR,bC]at this;exact this.1
 have Sj:∀(i:Nat) o,i<n->l.toArray[i]?=some o->∀u∈o.looksAt l.toArray,∀(j:Nat) oj,j<n->l.toArray[j]?=some oj->oj.dst=some u->j<i/\Region.waitsFor .any l.toArray i j=true:=by
  intro i o hi ho u hu j oj hj zj hd;have:=aj.1 Yy i (bu.2 hi);simp only[ho,aR]at this;have:=aj.1 (aj.1 this.1 u hu) j (bu.2 hj);simpa[zj,hd]using this
 have LD:∀(j:Nat) o,n<=j->j<m->l.toArray[j]?=some o->∀i∈L,∀oi,l.toArray[i]?=some oi->oi.dst≠o.dst/\(∀u∈oi.looksAt l.toArray,o.dst≠some u)/\(((U3 l.toArray.toList).getD j []).contains i=true\/∀u∈o.looksAt l.toArray,oi.dst≠some u):=by
  intro j o Mv hj2 ho i hi oi hoi;have:=aj.1 Z5 (j-n) (bu.2 (by omega));rw[show n+(j-n)=j from by omega]at this;simp only[ho]at this;have:=aj.1 this i hi;simp only[hoi,aR,p9,pR]at this;obtain⟨⟨h1,h2⟩,h3⟩:=this;refine⟨by simpa using h1,fun u hu he=>?_,h3.imp id fun h u hu he=>?_⟩
  ·have:=CA.1 h2 u hu;simp[he]at this
  ·have:=CA.1 h u hu;simp[he]at this
 intro f
 induction f with
 |zero=>
  intro c S listed σ' κ Θ a w inv hN hc hM hT qE hS hX hA hag hs;have hall:∀i,i<m->listed.getD i false=true:=by
   intro i hi;have h0:=cc qE;cases hl:listed.getD i false with
   |true=>rfl
   |false=>
    have:i∈(List.range m).filter fun i=> !listed.getD i false:=fY.2 ⟨bu.2 hi,by simp only[hl];rfl⟩
    rw[h0]at this;cases this
  have hcm:n+c=m:=by
   rcases fN (n+c) m with h|h
   ·have h1:=hall (n+c) h;rw[hT (n+c) (bU _) (by omega)]at h1;cases h1
   ·omega
  have Z1:listed=Array.replicate m true++Array.replicate (l.toArray.size-m) false:=by
   apply Array.ext
   ·rw[inv.size];simp at OU⊢;omega
   ·intro i h1 h2;by_cases hi:i<m
    ·have:=hall i hi;rw[C0 (by simpa using hi)];simp[h1]at this;simp[this]
    ·have hi':i<l.toArray.size:=by rw[<-inv.size];exact h1
     have:=hT i (by omega) hi';rw[B5 (by simpa using hi)];simp[h1]at this;simp[this]
  rw[cS];rw[hcm,rJ,List.take_zero]at hA;have hA:AO P Γ l.toArray (l.drop m) Q S:=hA;have hs2:=eN.same (st:=⟨σ',S.H⟩) (σ':=S.σ) (fun t=>hag t (fun i hi o ho hl=>by rw[hall i (by have:=Gu i hi;omega)]at hl;cases hl)) hs;have hwp:=hA κ Θ a w hs2;have hdl:(l.drop m).length=l.toArray.size-m:=by simp
  have:=wpAny_of_seq (md:=.any) (l.drop m) m listed a w (fun j=>by simp[fG]) (by rw[hdl,Z1];exact a2W) hwp
  rwa[hdl]at this
 |succ f ih=>
  intro c S listed σ' κ Θ a w inv hN hc hM hT qE hS hX hA hag hs;have hun:∃i,i<m/\listed.getD i false=false:=by
   have hne:((List.range m).filter fun i=> !listed.getD i false)≠[]:=by
    intro h0;rw[h0]at qE;simp at qE
   obtain⟨i,hi⟩:=wE _ hne;obtain⟨h1,h2⟩:=fY.1 hi;exact⟨i,bu.1 h1,by simpa using h2⟩
  have hsz:=inv.size;rw[show f+1+(l.toArray.size-m)=(f+(l.toArray.size-m))+1 from by omega];refine⟨fun h0=>?_,fun i hi=>?_⟩
  ·exfalso;obtain⟨i,⟨hin,Vi⟩,hmin⟩:=exists_least (p:=fun i=>i<m/\listed.getD i false=false) hun;obtain⟨o,ho,hed⟩:=aAe i hin;have:i∈Region.ready .any l.toArray listed:=by
    refine mem_ready.2 ⟨getD_in (by rw[hsz];omega) Vi,o,ho,fun e he hb=>?_⟩;have:=hed e he hb;cases hl:listed.getD e.on false with
    |true=>rfl
    |false=>have:=hmin e.on ⟨by omega,hl⟩;omega
   rw[h0]at this;cases this
  ·obtain⟨i0,hi0,hl0⟩:=hun;obtain⟨Vi,o,ho,hall⟩:=mem_ready.1 hi;have Cd:=getD_both Vi;have EO:i<l.toArray.size:=(bO.1 ho).1;have him:i<m:=by
    rcases fN i m with h|h
    ·exact h
    ·have h1:=aj.1 ZD (i-m) (bu.2 (by omega));have h2:=aj.1 h1 i0 (bu.2 hi0);rw[show m+(i-m)=i from by omega]at h2;rw[zi inv.closed hi h2]at hl0;cases hl0
   have X1:=count_set him (by rw[hsz];exact EO) Cd;have sR:∀(j:Nat),(listed.setIfInBounds i true).getD j false=true↔(j=i\/listed.getD j false=true):=by
    intro j;by_cases e:i=j
    ·subst e;have:i<listed.size:=by rw[hsz];exact EO
     simp[this]
    ·rw[getD_set_ne false e];constructor
     ·exact .inr
     ·rintro(rfl|h)
      ·exact absurd rfl e
      ·exact h
   have aCs:∀(j:Nat),(listed.setIfInBounds i true).getD j false=false->j≠i/\listed.getD j false=false:=by
    intro j h;refine⟨fun e=>?_,?_⟩
    ·have:=(sR j).2 (.inl e);rw[this]at h;cases h
    ·cases h2:listed.getD j false with
     |false=>rfl
     |true=>have:=(sR j).2 (.inr h2);rw[this]at h;cases h
   rcases fN i n with hin|hin
   ·
    have hiL:i∈L:=by
     by_cases h:i∈L
     ·exact h
     ·rw[hN i hin h]at Cd;cases Cd
    obtain⟨o',t,d,ho',hg,hd,htn,hdF,hpv⟩:=a42 i hiL;rw[ho]at ho';cases ho';have Sl:∀u∈o.looksAt l.toArray,lk σ' u=lk σF u:=by
     intro u hu;rw[hag u,hS u]
     ·intro j oj zj Mv hj2 he;exact(LD j oj Mv (by omega) zj i hiL o ho).2.1 u hu he
     ·intro j hj oj zj hlj he;obtain⟨h1,h2⟩:=Sj i o hin ho u hu j oj (Gu j hj) zj he;obtain⟨o2,ho2,e,Jg,hb,hon⟩:=Region.waitsFor_spec h2;rw[ho]at ho2;cases ho2;have:=hall e Jg hb;rw[hon,hlj]at this;cases this
    have hp:=hpv σ' S.H hX Sl;obtain⟨v,bs,hrun,hrd,hz⟩:=H8 (st:=⟨σ',S.H⟩) hs hp;refine Bw ho (by simp[Region.wanted,hg]) ?_;unfold Oper.wp;rw[hrun,Oper.upon_value,hd];refine ih c S (listed.setIfInBounds i true) ((t,d)::σ') κ Θ _ w (inv.set hi EO) ?_ hc ?_ ?_ (by omega) hS hX hA ?_ (hs.set (st:=⟨σ',S.H⟩) htn hrd hz)
    ·intro j hj hjL;exact(sR j).2 (.inr (hN j hj hjL))
    ·intro j Mv hj2;exact(sR j).2 (.inr (hM j Mv hj2))
    ·intro j Mv hj2;rw[getD_set_ne false (by omega)];exact hT j Mv hj2
    ·intro u hu;simp only[lk];by_cases e:u=t
     ·rw[bL e,e,hS t,hdF];intro j oj zj Mv hj2 he;exact(LD j oj Mv (by omega) zj i hiL o ho).1 (by rw[hd,he])
     ·rw[b9 e];refine hag u fun j hj oj zj hlj he=>?_
      by_cases hji:j=i
      ·subst hji;rw[ho]at zj;cases zj;rw[hd]at he;cases he;exact e rfl
      ·exact hu j hj oj zj (by rw[getD_set_ne false (tg hji)];exact hlj) he
   ·
    have hic:i=n+c:=by
     rcases xo i (n+c)with h|h|h
     ·rw[hM i hin h]at Cd;cases Cd
     ·exact h
     ·have h1:=aj.1 hmid (i-n) (bu.2 (by omega));rw[show n+(i-n)=i from by omega]at h1;have h2:=aj.1 h1 (n+c) (bu.2 h);simp only[pR]at h2;rcases h2 with h2|h2
      ·have:=zi inv.closed hi h2;rw[hT (n+c) (bU _) (by omega)]at this;cases this
      ·have:=Gu (n+c) (by simpa using h2);omega
    subst hic;have Si:(l.drop (n+c)).take (m-(n+c))=o::(l.drop (n+(c+1))).take (m-(n+(c+1))):=by
     have h1:l[n+c]?=some o:=by simpa using ho
     have h2:(n+c)<l.length:=(aJ.1 h1).1;have h3:l[n+c]=o:=(aJ.1 h1).2;rw[nk h2,h3,show m-(n+c)=(m-(n+(c+1)))+1 from by omega,wM];rfl
    rw[Si]at hA;obtain⟨S1,R1,hX1,hgm,hsel,hstep,hA1⟩:=hA;have aBK:∀u,o.dst≠some u->lk S1.σ u=lk S.σ u:=by
     intro u hu;rcases R1 with⟨tm,dm,hdm,htm,a5t⟩|⟨_,a5t⟩
     ·rw[a5t];simp only[lk];rw[b9 (fun e=>hu (by rw[hdm,e]))]
     ·rw[a5t]
    have a82:∀(b:Act) (v:Value),(b.put o.dst v).tmps.size=b.tmps.size:=by
     intro b v;rcases R1 with⟨tm,dm,hdm,_,_⟩|⟨hdm,_⟩
     ·rw[hdm];show(b.tmps.setIfInBounds tm v).size=_;simp
     ·rw[hdm];rfl
    have a81:∀(b:Act) (v:Value),(b.put o.dst v).defers=b.defers:=by
     intro b v;cases o.dst<;>rfl
    have fill:∀k,k<=n->∃(ak:Act) (σk:List (Nat×D)),eN Γ ⟨σk,S.H⟩ κ Θ ak w/\(∀u,(∀j∈L,∀oj,l.toArray[j]?=some oj->listed.getD j false=false->k<=j->oj.dst≠some u)->lk σk u=lk S.σ u)/\
     (∀u,(∀j∈L,∀oj,l.toArray[j]?=some oj->listed.getD j false=false->oj.dst≠some u)->ak.tmps.getD u undef=a.tmps.getD u undef):=by
     intro k
     induction k with
     |zero=>intro _;exact⟨a,σ',hs,fun u hu=>hag u (fun j hj oj zj hl=>hu j hj oj zj hl (Fg _)),fun _ _=>rfl⟩
     |succ k ihk=>
      intro hk;obtain⟨ak,σk,hsk,a5W,hek⟩:=ihk (by omega);by_cases hkl:k∈L/\listed.getD k false=false
      ·obtain⟨hkL,hkF⟩:=hkl;obtain⟨ok,t,d,hok,hg,hd,htn,hdF,hpv⟩:=a42 k hkL;have Sl:∀u∈ok.looksAt l.toArray,lk σk u=lk σF u:=by
        intro u hu;rw[a5W u,hS u]
        ·intro j oj zj Mv hj2 he;exact(LD j oj Mv (by omega) zj k hkL ok hok).2.1 u hu he
        ·intro j hj oj zj hlj hkj he;obtain⟨h1,h2⟩:=Sj k ok (by omega) hok u hu j oj (Gu j hj) zj he;omega
       have hp:=hpv σk S.H hX Sl;obtain⟨v,bs,hrun,hrd,hz⟩:=H8 (st:=⟨σk,S.H⟩) hsk hp;refine⟨ak.put (some t) v,(t,d)::σk,hsk.set (st:=⟨σk,S.H⟩) htn hrd hz,?_,?_⟩
       ·intro u hu;simp only[lk];by_cases e:u=t
        ·rw[bL e,e,hS t,hdF];intro j oj zj Mv hj2 he;exact(LD j oj Mv (by omega) zj k hkL ok hok).1 (by rw[hd,he])
        ·rw[b9 e];refine a5W u fun j hj oj zj hlj hkj he=>?_
         by_cases hjk:j=k
         ·subst hjk;rw[hok]at zj;cases zj;rw[hd]at he;cases he;exact e rfl
         ·exact hu j hj oj zj hlj (by omega) he
       ·intro u hu;rw[Jj _ _ (fun e=>hu k hkL ok hok hkF (by rw[hd,e])),hek u hu]
      ·refine⟨ak,σk,hsk,fun u hu=>a5W u fun j hj oj zj hlj hkj=>?_,hek⟩;by_cases hjk:j=k
       ·subst hjk;exact absurd ⟨hj,hlj⟩ hkl
       ·exact hu j hj oj zj hlj (by omega)
    obtain⟨an,σn,hsn,aAr,hen⟩:=fill n (bU _);have hsS:=eN.same (st:=⟨σn,S.H⟩) (σ':=S.σ) (fun u=>aAr u (fun j hj oj zj _ hnj=>by have:=Gu j hj;omega)) hsn;have hwp:=hstep κ Θ an w hsS;refine Bw ho (by simp[Region.wanted,hgm]) (Tk (Q2:=_) hsel ?_ ?_ ?_ (fun e _ _ h=>h) hwp)
    ·intro x hx;cases x with
     |tmp u=>
      refine(hen u fun j hj oj zj hlj he=>?_).symm;have hu:u∈o.looksAt l.toArray:=by
       unfold Oper.looksAt;exact aZ.2 (.inl (cI.2 ⟨.tmp u,by simpa using hx,rfl⟩))
      rcases(LD (n+c) o (by omega) him ho j hj oj zj).2.2 with h|h
      ·rw[zi inv.closed hi h]at hlj;cases hlj
      ·exact h u hu he
     |const v=>rfl
     |global g=>rfl
     |func f=>rfl
    ·rintro v w' ⟨κ',Θ',hs'⟩;let late:List (Nat×D):=(L.filterMap fun j=>bif listed.getD j false then none else(l.toArray[j]?).bind (·.dst)).map fun u=>(u,D.any)
     have Sk:∀u,u∈late.map Prod.fst↔∃j∈L,∃oj,l.toArray[j]?=some oj/\listed.getD j false=false/\oj.dst=some u:=by
      intro u;simp only[late,rI,bt,cI,Function.comp];constructor
      ·rintro⟨x,⟨j,hj,hx⟩,rfl⟩;cases hl:listed.getD j false with
       |true=>rw[hl]at hx;cases hx
       |false=>
        rw[hl,aM]at hx;cases zj:l.toArray[j]? with
        |none=>rw[zj]at hx;cases hx
        |some oj=>rw[zj]at hx;exact⟨j,hj,oj,zj,hl,hx⟩
      ·rintro⟨j,hj,oj,zj,hl,hx⟩;exact⟨u,⟨j,hj,by rw[hl,aM,zj];exact hx⟩,rfl⟩
     have hs2:eN Γ ⟨late++S1.σ,S1.H⟩ κ' Θ' (a.put o.dst v) w':=by
      refine⟨by rw[a81];exact hs.defers,by rw[a82];exact hs.size,hs'.tR,hs'.s9,?_,hs'.ob,hs'.own,hs'.old,hs'.mine,hs'.stays,hs'.vG⟩;intro u;show∃bs,ue w' κ' _ (lk (late++S1.σ) u) bs/\_;by_cases hu:u∈late.map Prod.fst
      ·rw[a6G (fun p hp=>by simp only[late,bt]at hp;obtain⟨_,_,rfl⟩:=hp;rfl) hu];exact⟨[],.of (.any _),by simp⟩
      ·rw[Gw _ _ _ (fun p hp e=>hu (bt.2 ⟨p,hp,e⟩))];have e1:(a.put o.dst v).tmps.getD u undef=(an.put o.dst v).tmps.getD u undef:=by
        have e0:=(hen u fun j hj oj zj hlj he=>hu ((Sk u).2 ⟨j,hj,oj,zj,hlj,he⟩)).symm;rcases R1 with⟨tm,dm,hdm,htm,_⟩|⟨hdm,_⟩
        ·rw[hdm];by_cases e:u=tm
         ·subst e;rw[LQ _ _ (by rw[hs.size];exact htm),LQ _ _ (by rw[hsn.size];exact htm)]
         ·rw[Jj _ _ e,Jj _ _ e];exact e0
        ·rw[hdm];exact e0
       rw[e1];exact hs'.slot u
     refine ih (c+1) S1 (listed.setIfInBounds (n+c) true) (late++S1.σ) κ' Θ' _ w' (inv.set hi EO) ?_ (by omega) ?_ ?_ (by omega) ?_ (hX.trans hX1) hA1 ?_ hs2
     ·intro j hj hjL;exact(sR j).2 (.inr (hN j hj hjL))
     ·intro j Mv hj2;by_cases e:j=n+c
      ·exact(sR j).2 (.inl e)
      ·exact(sR j).2 (.inr (hM j Mv (by omega)))
     ·intro j Mv hj2;rw[getD_set_ne false (by omega)];exact hT j (by omega) hj2
     ·intro u hu;rw[aBK u (hu (n+c) o ho (by omega) (by omega))];exact hS u fun j oj zj Mv hj2=>hu j oj zj Mv (by omega)
     ·intro u hu;rw[Gw];intro p hp e;obtain⟨j,hj,oj,zj,hl,he⟩:=(Sk u).1 (bt.2 ⟨p,hp,e⟩);refine hu j hj oj zj ?_ he;rw[getD_set_ne false (by have:=Gu j hj;omega)];exact hl
    ·rintro d w' ⟨κ',Θ',hs'⟩;have:=hs'.defers;cases hod:o.dst<;>rw[hod]at this<;>cases this
theorem N9{p:Nat->Bool}{n:Nat}:∀(k:Nat),(∀i,n<=i->i<n+k->p i=true)->((List.range (n+k)).filter p).length=((List.range n).filter p).length+k
 |0,_=>rfl
 |k+1,h=>by
  rw[<-mR,List.range_succ,B8,ax,N9 k (fun i h1 h2=>h i h1 (by omega))];have:p (n+k)=true:=h (n+k) (by omega) (by omega);simp[this];omega
def Po(P:Program)(Γ:vn)(ops:Array Oper)(Q:Exit->St->Prop)(st:St):Prop:=
 ∀κ Θ a w,eN Γ st κ Θ a w->wpAny P .any ops (fun e a' w'=>∃wz κ' Θ',eN Γ wz κ' Θ' a' w'/\Q e wz) ops.size (Array.replicate ops.size false) a w
theorem Po.aw{id:Nat}{ops:Array Oper}(hm:P.follows .mixedOrders=true)(h:Po P Γ ops Q st):AW P Γ (.region id ops true) Q st:=
 fun κ Θ a w hs=>wp_region_any hm (h κ Θ a w.drew hs.drew)
theorem Wm{l:List Oper}(n m:Nat)(L:aa)(hB0:OC l.toArray n m L=true)
 (h:Mk P Γ l.toArray st.H (fun σ acc=>(∀i∈L,∀o,l[i]?=some o->EV X ⟨σ,st.H⟩ o.op=true)/\Y8 P Γ X (fun wz=>AO P Γ l.toArray (l.drop m) Q wz) ((l.drop n).take (m-n)) ⟨σ,st.H++acc⟩) (l.take n) st.σ [] []):Po P Γ l.toArray Q st:=by
 have hB:=hB0;simp only[OC,Yf,aR,bC]at hB;obtain⟨⟨hnm,OU⟩,a2W,ZD,hmid,Yu,Yy,Z5,hL⟩:=hB;have hn:n<l.toArray.size:=by omega
 have Mu:((List.range n).all fun i=>match l.toArray[i]? with
  |none=>false
  |some o=>(o.after.all fun e=> !Region.binds .any e||decide (e.on<i))&&
   ((o.looksAt l.toArray).all fun t=>(List.range n).all fun j=>match l.toArray[j]? with|some oj=> !(oj.dst==some t)||(decide (j<i)&&Region.waitsFor .any l.toArray i j)|none=>true)&&
   (List.range n).all fun j=>j==i||(match l.toArray[j]? with|some oj=> !(oj.dst==o.dst)||o.dst.isNone|none=>true))=true:=by
  rw[aj];intro i hi;have h1:=aj.1 Yu i (bu.2 (by have:=bu.1 hi;omega));have h2:=aj.1 Yy i hi;cases ho:l.toArray[i]? with
  |none=>rw[ho]at h1;cases h1
  |some o=>
   simp only[ho,aR]at h1 h2⊢;exact⟨⟨h1,h2.1⟩,h2.2⟩
 have Gu:∀i∈L,i<n:=by
  intro i hi;have:=aj.1 hL i hi;simp only[aR,bC]at this;exact this.1
 obtain⟨ps,NJ,hlen,OP,⟨hstill,hK⟩,hFl,hFo,hFu⟩:=Mk.unfold _ _ _ _ h;simp only[dZ,bf,vl,cS]at OP hK hFl hFo hstill;have hn':n<l.length:=by simpa using hn
 have hpl:ps.length=n:=by rw[hlen];simp;omega
 have hop:∀(i:Nat),i<n->∃o p,l.toArray[i]?=some o/\ps[i]?=some p/\o.dst=p.t/\vR P Γ l.toArray st.H (((ps.take i).filterMap Cp.sl).reverse++st.σ) o p/\p.r=st.H.length+((ps.take i).flatMap Cp.obs).length:=by
  intro i hi;have h1:l[i]?=some l[i]:=af (by omega);have h2:ps[i]?=some ps[i]:=af (by omega);have h3:=OP i l[i] ps[i] (by rw[cU,bL hi];exact h1) h2;exact⟨l[i],ps[i],by simp[kN,h1],h2,h3.1.slots,h3.1,h3.2.1⟩
 have UK:∀(i:Nat) p,ps[i]?=some p->p.r=st.H.length+((ps.take i).flatMap Cp.obs).length:=by
  intro i p hp;have hi:i<n:=by have:=(aJ.1 hp).1;omega
  obtain⟨_,p',_,hp',_,_,hr⟩:=hop i hi;rw[hp]at hp';cases hp';exact hr
 have R6:∀(i:Nat) p id ob,ps[i]?=some p->p.up=some (id,ob)->st.H.length<=id/\(∃zs ds,ob=.box ds/\zs.length=ds.length/\((ps.take i).flatMap Cp.obs)[id-st.H.length]?=some (.box zs))/\∀(i2:Nat) q Cn,i2<i->ps[i2]?=some q->q.up≠some (id,Cn):=by
  intro i p id ob hp he;have hi:i<n:=by have:=(aJ.1 hp).1;omega
  have h1:l[i]?=some l[i]:=af (by omega);have h3:=(OP i l[i] p (by rw[cU,bL hi];exact h1) hp).2.2 id ob he;exact⟨h3.2.1,h3.2.2.1,h3.2.2.2⟩
 have ZF:∀(i j:Nat) p q id ob Cn,ps[i]?=some p->ps[j]?=some q->p.up=some (id,ob)->q.up=some (id,Cn)->i=j:=by
  intro i j p q id ob Cn hp hq he Jg;rcases xo i j with h|h|h
  ·exact absurd he ((R6 j q id Cn hq Jg).2.2 i p ob h hp)
  ·exact h
  ·exact absurd Jg ((R6 i p id ob hp he).2.2 j q Cn h hq)
 have ZG:∀(i:Nat) p id ob,ps[i]?=some p->p.up=some (id,ob)->p.obs=[]:=by
  intro i p id ob hp he;have hi:i<n:=by have:=(aJ.1 hp).1;omega
  obtain⟨_,p',_,hp',_,hc,_⟩:=hop i hi;rw[hp]at hp';cases hp';rcases hc.a1B with h|h
  ·rw[h]at he;cases he
  ·exact h
 have hfit:∀(i:Nat) p,ps[i]?=some p->p.r+p.obs.length<=st.H.length+(ps.flatMap Cp.obs).length:=by
  intro i p hp;rw[UK i p hp,sQ hp];simp only[ax];omega
 have Qy:∀(i j:Nat) p q,ps[i]?=some p->ps[j]?=some q->i<j->p.r+p.obs.length<=q.r:=by
  intro i j p q hp hq hij;rw[UK i p hp,UK j q hq];have:=QH hp hij;omega
 have hdist:∀(i j:Nat) p q t,ps[i]?=some p->ps[j]?=some q->p.t=some t->q.t=some t->i=j:=by
  intro i j p q t hp hq he1 Jg;have hi:i<n:=by have:=(aJ.1 hp).1;omega
  have hj:j<n:=by have:=(aJ.1 hq).1;omega
  obtain⟨oi,p',ho,hp',hdi,_⟩:=hop i hi;obtain⟨oj,q',zj,Pa,hdj,_⟩:=hop j hj;rw[hp]at hp';cases hp';rw[hq]at Pa;cases Pa;have:=aj.1 Mu i (bu.2 hi);simp only[ho,aR]at this;have:=aj.1 this.2 j (bu.2 hj);simp only[zj,hdi,hdj,he1,Jg,jW,bN,uc,Option.isNone_some,uc,cZ]at this;exact this.symm
 have Gn:∀(i:Nat) p t,ps[i]?=some p->p.t=some t->∀q∈ps.filterMap Cp.sl,q.1=t->q=(t,p.d):=by
  intro i p t hp hpt q hq he;obtain⟨q',Pa,MM⟩:=cI.1 hq;obtain⟨j,hj,rfl⟩:=ei.1 Pa;have Ju:ps[j]?=some ps[j]:=af hj;unfold Cp.sl at MM;cases hpj:ps[j].t with
  |none=>rw[hpj]at MM;cases MM
  |some u=>
   rw[hpj]at MM;simp only[cv,ay]at MM;subst MM;simp only at he;subst he;have:=hdist j i _ p u Ju hp hpj hpt;subst this;rw[hp]at Ju;cases Ju;rfl
 have hlk:∀(i:Nat) (o:Oper),i<n->l.toArray[i]?=some o->∀t∈o.looksAt l.toArray,lk (((ps.take i).filterMap Cp.sl).reverse++st.σ) t=lk ((ps.filterMap Cp.sl).reverse++st.σ) t:=by
  intro i o hin ho t ht;have L3:=aj.1 Mu i (bu.2 hin);simp only[ho,aR]at L3;have L3:=aj.1 L3.1.2 t ht;by_cases hex:∃(j:Nat) (q:Cp),ps[j]?=some q/\q.t=some t
  ·obtain⟨j,q,hq,NR⟩:=hex;have hj:j<n:=by have:=(aJ.1 hq).1;omega
   obtain⟨oj,q',zj,Pa,hdj,_⟩:=hop j hj;rw[hq]at Pa;cases Pa;have:=aj.1 L3 j (bu.2 hj);simp only[zj,hdj,NR,jW,bN,oU,aR,bC]at this;obtain⟨hji,_⟩:=this;rw[Ji (ps.filterMap Cp.sl).reverse st.σ (t,q.d) (by rw[eH];exact cI.2 ⟨q,aE hq,by simp[Cp.sl,NR]⟩) (fun q2 Ju Jg=>Gn j q t hq NR q2 (by simpa using Ju) Jg)];refine Ji ((ps.take i).filterMap Cp.sl).reverse st.σ (t,q.d) ?_ (fun q2 Ju Jg=>Gn j q t hq NR q2 ?_ Jg)
   ·rw[eH];exact cI.2 ⟨q,aE (i:=j) (by rw[cU,bL hji];exact hq),by simp[Cp.sl,NR]⟩
   ·obtain⟨q3,UL,zk⟩:=cI.1 (eH.1 Ju);exact cI.2 ⟨q3,bn UL,zk⟩
  ·have hno:∀q3∈ps,q3.t≠some t:=by
    intro q3 UL he;obtain⟨j,hj,hqj⟩:=ei.1 UL;exact hex ⟨j,q3,by rw[<-hqj];exact af hj,he⟩
   have hsl:∀(qs:List Cp),(∀q3∈qs,q3.t≠some t)->∀p∈(qs.filterMap Cp.sl).reverse,p.1≠t:=by
    intro qs MM p hp he;obtain⟨q3,UL,zk⟩:=cI.1 (eH.1 hp);unfold Cp.sl at zk;cases hpt:q3.t with
    |none=>rw[hpt]at zk;cases zk
    |some u=>rw[hpt]at zk;simp only[cv,ay]at zk;subst zk;simp only at he;exact MM q3 UL (by rw[hpt,he])
   rw[Gw _ _ _ (hsl _ hno),Gw _ _ _ (hsl _ (fun q3 UL=>hno q3 (bn UL)))]
 have a4I:∀i∈L,∃(o:Oper) (p:Cp),l.toArray[i]?=some o/\ps[i]?=some p/\p.obs=[]/\p.up=none/\YK P Γ X l ((ps.filterMap Cp.sl).reverse++st.σ) st.H i:=by
  intro i hi;have hin:=Gu i hi;have h1:=aj.1 hL i hi;obtain⟨o,p,ho,hp,hd,hc,_⟩:=hop i hin;simp only[ho,aR]at h1;have hg:o.guard=none:=by simpa using h1.2.1
  have hst:=hstill i hi o (by simpa using ho);rcases hc with⟨t,hpt,Vl,hdt,htn,hc⟩|⟨_,_,hdt,_⟩
  ·have hc:Jw P st.H (((ps.take i).filterMap Cp.sl).reverse++st.σ) o p:=by
    rcases hc with⟨_,hc⟩|⟨_,_,_,_,hg',_⟩|⟨_,_,_,hg',_⟩
    ·exact hc
    ·rw[hg]at hg';cases hg'
    ·rw[hg]at hg';cases hg'
   have hpv:pv P ⟨((ps.take i).filterMap Cp.sl).reverse++st.σ,st.H⟩ o.op=some p.d/\p.obs=[]:=by
    rcases hc with(hc|⟨f,xs,ts,ds,ms,d,UG,_⟩)| (⟨T,zs,UG,_⟩|⟨T,x,ds,UG,_⟩)|⟨T,e,sz,len,parts,zs,ds,es,UG,_⟩|⟨T,e,sz,len,parts,zs,ds,UG,_⟩
    ·exact hc
    all_goals(rw[UG]at hst;simp[EV]at hst)
   refine⟨o,p,ho,hp,hpv.2,Vl,o,t,p.d,ho,hg,hdt,htn,?_,?_⟩
   ·exact Ji (ps.filterMap Cp.sl).reverse st.σ (t,p.d) (by rw[eH];exact cI.2 ⟨p,aE hp,by simp[Cp.sl,hpt]⟩) (fun q2 Ju Jg=>Gn i p t hp hpt q2 (by simpa using Ju) Jg)
   ·intro σ' H' hX Sl;have e1:pv P ⟨(ps.filterMap Cp.sl).reverse++st.σ,st.H⟩ o.op=some p.d:=RY (fun _ _ h=>h) (OD (st:=⟨_,st.H⟩) (wz:=⟨_,st.H⟩) (ops:=l.toArray) (o:=o) (fun t ht=>hlk i o hin ho t ht)) hpv.1;refine a0z hX hst ?_ e1;intro x hx;rw[SY σ' H' st.H x];exact(OD (st:=⟨σ',st.H⟩) (wz:=⟨_,st.H⟩) (ops:=l.toArray) (o:=o) (fun t ht=>Sl t ht) x hx).symm
  ·have:o.dst.isSome=true:=h1.2.2;rw[hdt]at this;cases this
 intro κ Θ a w hs;have switch:∀(f:Nat) (listed:Array Bool) (σ':List (Nat×D)) (H':bY) (κ:Nat->Option Value) (Θ:Nat->Nat) (a:Act) (w:World),HeadInv .any l.toArray n listed->
  ((List.range n).filter fun i=> !listed.getD i false).length=f->
  (∀(i:Nat) p t,ps[i]?=some p->p.t=some t->listed.getD i false=true->lk σ' t=p.d)->
  (∀t,(∀(i:Nat) p,ps[i]?=some p->listed.getD i false=true->p.t≠some t)->lk σ' t=lk st.σ t)->
  H'.length=st.H.length+(ps.flatMap Cp.obs).length->Ext st.H H'->
  (∀(i:Nat) p,ps[i]?=some p->listed.getD i false=true->∀(j:Nat) o,p.obs[j]?=some o->(∀(i2:Nat) q ob,ps[i2]?=some q->listed.getD i2 false=true->q.up≠some (p.r+j,ob))->H'[p.r+j]?=some o)->
  (∀(i:Nat) q id ob,ps[i]?=some q->listed.getD i false=true->q.up=some (id,ob)->H'[id]?=some ob/\∃v,κ id=some v)->
  (∀(i:Nat) p,ps[i]?=some p->listed.getD i false=false->∀j,j<p.obs.length->κ (p.r+j)=none)->
  eN Γ ⟨σ',H'⟩ κ Θ a w->(∀i,i<n->i∉L->listed.getD i false=true)->
  wpAny P .any l.toArray (fun e a' w'=>∃wz κ' Θ',eN Γ wz κ' Θ' a' w'/\Q e wz) (f+(l.toArray.size-n)) listed a w:=by
  intro f listed σ' H' κ Θ a w inv qE hA hB hHl Y0 Vg hHu Vf hs hN;have a3x:∀(i:Nat) p,ps[i]?=some p->(p.up≠none\/p.obs≠[])->listed.getD i false=true:=by
   intro i p hp hne;have hi:i<n:=by have:=(aJ.1 hp).1;omega
   refine hN i hi fun hiL=>?_
   obtain⟨_,p',_,hp',h1,h2,_⟩:=a4I i hiL;rw[hp]at hp';cases hp';rcases hne with h|h
   ·exact h h2
   ·exact h h1
  have ML:∀t,(∀i∈L,∀o,l.toArray[i]?=some o->listed.getD i false=false->o.dst≠some t)->lk σ' t=lk ((ps.filterMap Cp.sl).reverse++st.σ) t:=by
   intro t hno;by_cases hex:∃(i:Nat) (p:Cp),ps[i]?=some p/\p.t=some t
   ·obtain⟨i,p,hp,hpt⟩:=hex;have hi:i<n:=by have:=(aJ.1 hp).1;omega
    have hli:listed.getD i false=true:=by
     cases hl:listed.getD i false with
     |true=>rfl
     |false=>
      obtain⟨o,p',ho,hp',hd,_⟩:=hop i hi;rw[hp]at hp';cases hp';by_cases hiL:i∈L
      ·exact absurd (by rw[hd,hpt]) (hno i hiL o ho hl)
      ·rw[hN i hi hiL]at hl;cases hl
    rw[hA i p t hp hpt hli];exact(Ji (ps.filterMap Cp.sl).reverse st.σ (t,p.d) (by rw[eH];exact cI.2 ⟨p,aE hp,by simp[Cp.sl,hpt]⟩) (fun q hq he=>Gn i p t hp hpt q (by simpa using hq) he)).symm
   ·rw[hB t (fun i p hp _ he=>hex ⟨i,p,hp,he⟩),Gw];intro q hq he;obtain⟨p,hp,hps⟩:=cI.1 (eH.1 hq);obtain⟨i,hi,hpi⟩:=ei.1 hp;refine hex ⟨i,p,by rw[<-hpi];exact af hi,?_⟩;unfold Cp.sl at hps;cases hpt:p.t with
    |none=>rw[hpt]at hps;cases hps
    |some u=>rw[hpt]at hps;simp only[cv,ay]at hps;subst hps;simp only at he;rw[he]
  have Yn:H'=st.H++NJ:=by
   apply mW;intro k;by_cases h1:k<st.H.length
   ·rw[bA h1];exact Y0 k _ (af h1)|>.trans (af h1).symm
   ·rw[bE (by omega)];by_cases hex:∃(i:Nat) (q:Cp) (ob:Ob),ps[i]?=some q/\q.up=some (k,ob)
    ·obtain⟨i,q,ob,hq,he⟩:=hex;rw[(hHu i q k ob hq (a3x i q hq (.inl (by rw[he];simp))) he).1,hFu i q k ob hq he]
    ·have hno:∀(i:Nat) q ob,ps[i]?=some q->q.up≠some (k,ob):=fun i q ob hq he=>hex ⟨i,q,ob,hq,he⟩
     rw[hFo (k-st.H.length) (fun i q ob hq=>by rw[show st.H.length+(k-st.H.length)=k from by omega];exact hno i q ob hq)];by_cases h2:k-st.H.length<(ps.flatMap Cp.obs).length
     ·obtain⟨i,p,j,hp,hj,hk⟩:=Am h2;have e3:p.r+j=k:=by rw[UK i p hp];omega
      have h3:=Vg i p hp (a3x i p hp (.inr (by intro e;rw[e]at hj;simp at hj))) j _ (af hj) (fun i2 q ob hq _=>by rw[e3];exact hno i2 q ob hq);rw[e3]at h3;rw[h3,sQ hp,hk,bE (by omega),eL,bA hj,af hj]
     ·rw[cr (by omega),cr (by omega)]
  subst Yn;have hsz:=inv.size;have hcm:((List.range m).filter fun i=> !listed.getD i false).length=f+(m-n):=by
   have:=N9 (p:=fun i=> !listed.getD i false) (n:=n) (m-n) (fun i h1 h2=>by
    have:=getD_both (inv.tail i h1 (by omega));simp only[this];rfl)
   rw[show n+(m-n)=m from by omega]at this;rw[this,qE]
  have:=SW (Q:=Q) (H0:=st.H) hB0 (fun i hi=>by obtain⟨_,_,_,_,_,_,h⟩:=a4I i hi;exact h) (f+(m-n)) 0 ⟨(ps.filterMap Cp.sl).reverse++st.σ,st.H++NJ⟩ listed σ' κ Θ a w
   ⟨hsz,inv.closed,fun t h1 h2=>absurd h2 (by omega)⟩ hN (by omega) (fun i h1 h2=>absurd h2 (by omega)) (fun i h1 h2=>getD_both (inv.tail i (by omega) h2)) hcm (fun _ _=>rfl)
   ((BA.refl _).app _) (by simpa using hK) ML hs
  rw[show f+(m-n)+(l.toArray.size-m)=f+(l.toArray.size-n)from by omega]at this;exact this
 have main:∀(f:Nat) (listed:Array Bool) (σ':List (Nat×D)) (H':bY) (κ:Nat->Option Value) (Θ:Nat->Nat) (a:Act) (w:World),HeadInv .any l.toArray n listed->
  ((List.range n).filter fun i=> !listed.getD i false).length=f->
  (∀(i:Nat) p t,ps[i]?=some p->p.t=some t->listed.getD i false=true->lk σ' t=p.d)->
  (∀t,(∀(i:Nat) p,ps[i]?=some p->listed.getD i false=true->p.t≠some t)->lk σ' t=lk st.σ t)->
  H'.length=st.H.length+(ps.flatMap Cp.obs).length->Ext st.H H'->
  (∀(i:Nat) p,ps[i]?=some p->listed.getD i false=true->∀(j:Nat) o,p.obs[j]?=some o->(∀(i2:Nat) q ob,ps[i2]?=some q->listed.getD i2 false=true->q.up≠some (p.r+j,ob))->H'[p.r+j]?=some o)->
  (∀(i:Nat) q id ob,ps[i]?=some q->listed.getD i false=true->q.up=some (id,ob)->H'[id]?=some ob/\∃v,κ id=some v)->
  (∀(i:Nat) p,ps[i]?=some p->listed.getD i false=false->∀j,j<p.obs.length->κ (p.r+j)=none)->
  eN Γ ⟨σ',H'⟩ κ Θ a w->
  wpAny P .any l.toArray (fun e a' w'=>∃wz κ' Θ',eN Γ wz κ' Θ' a' w'/\Q e wz) (f+(l.toArray.size-n)) listed a w:=by
  intro f
  induction f with
  |zero=>
   intro listed σ' H' κ Θ a w inv qE hA hB hHl Y0 Vg hHu Vf hs;have hall:∀i,i<n->listed.getD i false=true:=by
    intro i hi;have h0:=cc qE;cases hl:listed.getD i false with
    |true=>rfl
    |false=>
     have:i∈(List.range n).filter fun i=> !listed.getD i false:=fY.2 ⟨bu.2 hi,by simp[hl]⟩
     rw[h0]at this;cases this
   exact switch 0 listed σ' H' κ Θ a w inv qE hA hB hHl Y0 Vg hHu Vf hs (fun i hi _=>hall i hi)
  |succ f ih=>
   intro listed σ' H' κ Θ a w inv qE hA hB hHl Y0 Vg hHu Vf hs;by_cases hsw:∀i,i<n->i∉L->listed.getD i false=true
   ·exact switch (f+1) listed σ' H' κ Θ a w inv qE hA hB hHl Y0 Vg hHu Vf hs hsw
   have aBk:∃i,i<n/\i∉L/\listed.getD i false=false:=by
    obtain⟨i,hi⟩:=Classical.not_forall.1 hsw;refine⟨i,?_⟩;by_cases h1:i<n
    ·by_cases h2:i∈L
     ·exact absurd (fun _ h=>absurd h2 h) hi
     ·refine⟨h1,h2,?_⟩;cases hl:listed.getD i false with
      |false=>rfl
      |true=>exact absurd (fun _ _=>hl) hi
    ·exact absurd (fun h=>absurd h h1) hi
   have hun:∃i,i<n/\listed.getD i false=false:=by
    have hne:((List.range n).filter fun i=> !listed.getD i false)≠[]:=by
     intro h0;rw[h0]at qE;simp at qE
    obtain⟨i,hi⟩:=wE _ hne;obtain⟨h1,h2⟩:=fY.1 hi;exact⟨i,bu.1 h1,by simpa using h2⟩
   have hsz:=inv.size;rw[show f+1+(l.toArray.size-n)=(f+(l.toArray.size-n))+1 from by omega];refine⟨fun h0=>?_,fun i hi=>?_⟩
   ·exfalso;obtain⟨i,⟨hin,Vi⟩,hmin⟩:=exists_least (p:=fun i=>i<n/\listed.getD i false=false) hun;obtain⟨o,p,ho,_,_,_⟩:=hop i hin;have:i∈Region.ready .any l.toArray listed:=by
     refine mem_ready.2 ⟨getD_in (by rw[hsz];omega) Vi,o,ho,fun e he hb=>?_⟩;have:=aj.1 Mu i (bu.2 hin);simp only[ho,aR]at this;have:=xD.1 this.1.1 e he;simp only[hb,bN,oU,bC]at this;cases hl:listed.getD e.on false with
     |true=>rfl
     |false=>
      have:=hmin e.on ⟨by omega,hl⟩;omega
    rw[h0]at this;cases this
   ·obtain⟨i0,hi0,hl0⟩:=hun;have hin:i<n:=by
     rcases fN i n with h|h
     ·exact h
     ·obtain⟨i1,hi1,aB9,hl1⟩:=aBk;obtain⟨_,oi,hoi,_⟩:=mem_ready.1 hi;have EO:i<l.toArray.size:=(bO.1 hoi).1;exfalso;rcases fN i m with hm1|hm1
      ·have h1:=aj.1 hmid (i-n) (bu.2 (by omega));have h2:=aj.1 h1 i1 (bu.2 (by omega));rw[show n+(i-n)=i from by omega]at h2;simp only[pR]at h2;rcases h2 with h2|h2
       ·rw[zi inv.closed hi h2]at hl1;cases hl1
       ·exact aB9 (by simpa using h2)
      ·have h1:=aj.1 ZD (i-m) (bu.2 (by omega));have h2:=aj.1 h1 i1 (bu.2 (by omega));rw[show m+(i-m)=i from by omega]at h2;rw[zi inv.closed hi h2]at hl1;cases hl1
    obtain⟨o,p,ho,hp,hd,hc,_⟩:=hop i hin;obtain⟨Vi,o',ho',hall⟩:=mem_ready.1 hi;rw[ho]at ho';cases ho';have Cd:=getD_both Vi;have Yr:vR P Γ l.toArray st.H σ' o p:=by
     refine vR.congr (σ:=((ps.take i).filterMap Cp.sl).reverse++st.σ) (σ':=σ') ?_ hc;intro t ht;have L3:=aj.1 Mu i (bu.2 hin);simp only[ho,aR]at L3;have L3:=aj.1 L3.1.2 t ht;by_cases hex:∃(j:Nat) (q:Cp),ps[j]?=some q/\q.t=some t
     ·obtain⟨j,q,hq,NR⟩:=hex;have hj:j<n:=by have:=(aJ.1 hq).1;omega
      obtain⟨oj,q',zj,Pa,hdj,_⟩:=hop j hj;rw[hq]at Pa;cases Pa;have:=aj.1 L3 j (bu.2 hj);simp only[zj,hdj,NR,jW,bN,oU,aR,bC]at this;obtain⟨hji,ZH⟩:=this;obtain⟨oi',Z8,e,he,hb,hon⟩:=Region.waitsFor_spec ZH;rw[ho]at Z8;cases Z8;have hjl:=hall e he hb;rw[hon]at hjl;rw[hA j q t hq NR hjl];refine Ji ((ps.take i).filterMap Cp.sl).reverse st.σ (t,q.d) ?_ (fun q2 Ju Jg=>Gn j q t hq NR q2 ?_ Jg)
      ·rw[eH];exact cI.2 ⟨q,aE (i:=j) (by rw[cU,bL hji];exact hq),by simp[Cp.sl,NR]⟩
      ·obtain⟨q3,UL,zk⟩:=cI.1 (eH.1 Ju);exact cI.2 ⟨q3,bn UL,zk⟩
     ·rw[hB t (fun j q hq _ he=>hex ⟨j,q,hq,he⟩),Gw];intro q hq he;obtain⟨q3,UL,zk⟩:=cI.1 (eH.1 hq);obtain⟨j,hj,hqj⟩:=ei.1 (bn UL);refine hex ⟨j,q3,by rw[<-hqj];exact af hj,?_⟩;unfold Cp.sl at zk;cases hpt:q3.t with
      |none=>rw[hpt]at zk;cases zk
      |some u=>rw[hpt]at zk;simp only[cv,ay]at zk;subst zk;simp only at he;rw[he]
    have hfp:=hfit i p hp;have Z0:∀id ob,p.up=some (id,ob)->∃v,κ id=some v:=by
     intro id ob he;rcases Yr with⟨_,_,h,_⟩|⟨_,_,_,_,T,x,y,id',ds,UG,hx',_,_,_,_,Vl⟩
     ·rw[h]at he;cases he
     ·rw[Vl]at he;cases he;obtain⟨b1,r1,_⟩:=hs.ev x;rw[SY σ' H' st.H x,hx']at r1;obtain⟨g,hk,_⟩:=r1.Aq;exact⟨_,hk⟩
    have ZE:∀id ob,p.up=some (id,ob)->∃zs ds,H'[id]?=some (.box zs)/\ob=.box ds/\zs.length=ds.length:=by
     intro id ob he;obtain⟨u1,⟨zs,ds,u2,u3,u4⟩,_⟩:=R6 i p id ob hp he;refine⟨zs,ds,?_,u2,u3⟩;obtain⟨i1,p1,j1,hp1,Mv,hk1⟩:=Am (aJ.1 u4).1;have UI:ps[i1]?=some p1:=by
      have:=(aJ.1 hp1).1;rw[cU]at hp1;split at hp1
      ·exact hp1
      ·cases hp1
     have hi1:i1<i:=by have:=(aJ.1 hp1).1;simp at this;omega
     have et:(ps.take i).take i1=ps.take i1:=by rw[vO,iK (by omega)]
     rw[et]at hk1;have e1:p1.r+j1=id:=by rw[UK i1 p1 UI];omega
     have CK:p1.obs[j1]?=some (.box zs):=by
      rw[sQ hp1,et,hk1,bE (by omega),eL,bA Mv]at u4;exact u4
     have hl1:listed.getD i1 false=true:=by
      cases hl:listed.getD i1 false with
      |true=>rfl
      |false=>
       have h0:=Vf i1 p1 UI hl j1 Mv;rw[e1]at h0;obtain⟨v,hv⟩:=Z0 id ob he;rw[h0]at hv;cases hv
     have:=Vg i1 p1 UI hl1 j1 _ CK (fun i2 q Cn hq hl Jg=>by
      rw[e1]at Jg;have:=ZF i i2 p q id ob Cn hp hq he Jg;subst this;rw[Cd]at hl;cases hl)
     rw[e1]at this;exact this
    refine Yr.wp hs Y0 ho (by omega) (fun j hj=>Vf i p hp Cd j hj) ZE fun κ' Θ' a' w' hs' hsame=>?_
    have sR:∀(j:Nat),(listed.setIfInBounds i true).getD j false=true↔(j=i\/listed.getD j false=true):=by
     intro j;by_cases e:i=j
     ·subst e;have:i<listed.size:=by rw[hsz];omega
      simp[this]
     ·rw[getD_set_ne false e];constructor
      ·exact .inr
      ·rintro(rfl|h)
       ·exact absurd rfl e
       ·exact h
    have hput:(p.Ch H').length=H'.length:=by
     unfold Cp.Ch;split
     ·simp
     ·exact w9 (by omega)
    have a5h:∀(k:Nat),k<st.H.length->(p.Ch H')[k]?=H'[k]?:=by
     intro k hk;unfold Cp.Ch;split
     ·rename_i id ob he;have:=(R6 i p id ob hp he).1;rw[cJ (by omega)]
     ·rw[w8 (by omega),bL (by rw[UK i p hp];omega)]
    refine ih (listed.setIfInBounds i true) (p.slot σ') (p.Ch H') κ' Θ' a' w' (inv.set hi hin) ?_ ?_ ?_ (by rw[hput];exact hHl) ?_ ?_ ?_ ?_ hs'
    ·have X1:((List.range n).filter fun j=> !(listed.setIfInBounds i true).getD j false)=((List.range n).filter fun j=> !listed.getD j false).erase i:=by
      have hnd:((List.range n).filter fun j=> !listed.getD j false).Nodup:=zN _ Ct;rw[hnd.erase_eq_filter,xE];apply xk;intro j _;by_cases e:j=i
      ·subst e;have:=(sR j).2 (.inl rfl);rw[this];simp
      ·rw[getD_set_ne false (tg e)];simp[e]
     rw[X1,sC (fY.2 ⟨bu.2 hin,by simp[Cd]⟩),qE];rfl
    ·intro j q t hq NR hl;unfold Cp.slot;rcases(sR j).1 hl with rfl|DT
     ·rw[hp]at hq;cases hq;rw[NR];simp[lk]
     ·cases hpt:p.t with
      |none=>exact hA j q t hq NR DT
      |some u=>
       simp only[lk];rw[b9,hA j q t hq NR DT];intro e;have:=hdist j i q p t hq hp NR (by rw[hpt,e]);subst this;rw[Cd]at DT;cases DT
    ·intro t ht;unfold Cp.slot;have s7:=hB t (fun j q hq hl=>ht j q hq ((sR j).2 (.inr hl)));cases hpt:p.t with
     |none=>exact s7
     |some u=>
      simp only[lk];rw[b9 (fun e=>ht i p hp ((sR i).2 (.inl rfl)) (by rw[hpt,e]))];exact s7
    ·intro j y hj;rw[a5h j (aJ.1 hj).1];exact Y0 j y hj
    ·intro j q hq hl k y hy hno;have hkl:=(aJ.1 hy).1;unfold Cp.Ch;split
     ·rename_i id ob he;have hne:q.r+k≠id:=fun e=>hno i p ob hp ((sR i).2 (.inl rfl)) (by rw[e];exact he)
      rw[cJ (tg hne)];rcases(sR j).1 hl with rfl|DT
      ·rw[hp]at hq;cases hq;rw[ZG j p id ob hp he]at hy;simp at hy
      ·exact Vg j q hq DT k y hy (fun i2 q2 Cn Ju Y2=>hno i2 q2 Cn Ju ((sR i2).2 (.inr Y2)))
     ·rw[w8 (by omega)];rcases(sR j).1 hl with rfl|DT
      ·rw[hp]at hq;cases hq;rw[b9 (by omega),bL (by omega),eL];exact hy
      ·have hne:j≠i:=fun e=>by subst e;rw[Cd]at DT;cases DT
       have h3:=Vg j q hq DT k y hy (fun i2 q2 Cn Ju Y2=>hno i2 q2 Cn Ju ((sR i2).2 (.inr Y2)));rcases xF hne with h|h
       ·have:=Qy j i q p hq hp h;rw[bL (by omega)];exact h3
       ·have:=Qy i j p q hp hq h;rw[b9 (by omega),b9 (by omega)];exact h3
    ·intro j q id ob hq hl he;rcases(sR j).1 hl with rfl|DT
     ·rw[hp]at hq;cases hq;obtain⟨zs,ds,z1,_⟩:=ZE id ob he;have hlt:=(aJ.1 z1).1;refine⟨by simp only[Cp.Ch,he];rw[dR hlt],?_⟩;obtain⟨v,hv⟩:=Z0 id ob he;refine⟨v,?_⟩;rw[hsame id (by rw[ZG j p id ob hp he];simp;omega)];exact hv
     ·obtain⟨h1,v,hv⟩:=hHu j q id ob hq DT he;have hout:id<p.r\/p.r+p.obs.length<=id:=by
       rcases fN id p.r with h|h
       ·exact .inl h
       ·rcases fN id (p.r+p.obs.length)with h2|h2
        ·have:=Vf i p hp Cd (id-p.r) (by omega);rw[show p.r+(id-p.r)=id from by omega,hv]at this;cases this
        ·exact .inr h2
      refine⟨?_,v,by rw[hsame id hout];exact hv⟩;unfold Cp.Ch;split
      ·rename_i id2 Cn Jg;have hne:id2≠id:=fun e=>by
        subst e;have:=ZF i j p q id2 Cn ob hp hq Jg he;subst this;rw[Cd]at DT;cases DT
       rw[cJ hne];exact h1
      ·rw[w8 (by omega)];rcases hout with h|h
       ·rw[bL h];exact h1
       ·rw[b9 (by omega),b9 (by omega)];exact h1
    ·intro j q hq hl k hk;have hne:j≠i:=fun e=>by
      subst e;have:=(sR j).2 (.inl rfl);rw[this]at hl;cases hl
     have DT:listed.getD j false=false:=by
      cases h:listed.getD j false with
      |false=>rfl
      |true=>have:=(sR j).2 (.inr h);rw[this]at hl;cases hl
     have h3:=Vf j q hq DT k hk;rw[hsame,h3];rcases xF hne with h|h
     ·have:=Qy j i q p hq hp h;omega
     ·have:=Qy i j p q hp hq h;omega
 have a6B:HeadInv .any l.toArray n (Array.replicate l.toArray.size false):=
  ⟨by simp,fun j oj _ hl=>(by rw[getD_replicate_false]at hl;cases hl),fun t _ ht=>getD_in (by simpa using ht) (getD_replicate_false _ _)⟩
 have qE:((List.range n).filter fun i=> !(Array.replicate l.toArray.size false).getD i false).length=n:=by
  rw[List.filter_eq_self.2]
  ·simp
  ·intro i _;rw[getD_replicate_false];rfl
 have:=main n (Array.replicate l.toArray.size false) st.σ (st.H++List.replicate (ps.flatMap Cp.obs).length .gone) κ Θ a w a6B qE (fun i p t _ _ hl=>by rw[getD_replicate_false]at hl;cases hl) (fun t _=>rfl)
  (by simp) (fun i o h=>by rw[bA (aJ.1 h).1];exact h) (fun i p _ hl=>by rw[getD_replicate_false]at hl;cases hl)
  (fun i q id ob _ hl=>by rw[getD_replicate_false]at hl;cases hl)
  (fun i p hp _ j _=>hs.tR _ (by rw[UK i p hp];omega)) (hs.room _)
 rw[show n+(l.toArray.size-n)=l.toArray.size from by omega]at this;exact this
def N6(X:aa)(st:St)(op:Op)(A:gI):Bool:=match op with
 | .buildSlice _ _ _=>true
 | .build _ _=>true
 | .extract _ _=>true
 | .field _ _ _=>true
 | .move _=>true
 | .indexAddr _ x _=>(UY st (st.ev x)).isNone
 | .load _ x=>(Zp st (st.ev x)).isNone&&(match st.ev x,A with| .op id _ _ _,.tk _::_=>X.contains id|_,_=>true)
 | .store _ x _=>(match st.ev x with| .ptr id _=>X.contains id|_=>false)
 | .call c=>(match c.callee,A with
  | .builtin .append,_=>true
  | .value (.func _),.d _::_=>true
  | .value (.func _),.gf _ _::_=>true
  | .value (.func _),.gp _ _ _::_=>(match c.args.toList with|x::_=>(match st.ev x with| .ptr id _=>X.contains id|_=>false)| []=>false)
  |_,_=>false)
 |_=>false
def Sd(X:aa)(H H':bY):Bool:=(List.range H.length).all fun i=>X.contains i||(match H[i]? with|some .gone=>true|_=>(match H'[i]? with|some .gone=>false|_=>true))
def Oq(P:Program)(nt:Nat)(X:aa):List Oper->St->gI->Option (St×gI×Fb)
 | [],st,A=>some (st,A,[])
 |o::rest,st,A=>match o.guard,N6 X st o.op A with
  |none,true=>(match It P nt o st A with
   |some (zu,A1,p)=>(match Sd X st.H zu.H,Oq P nt X rest zu A1 with|true,some (P8,A2,q)=>some (P8,A2,p++q)|_,_=>none)
   |none=>none)
  |_,_=>none
theorem Sw{H:bY}{ms:aa}{i:Nat}(h:i∈ms)(hl:i<H.length):(kill H ms)[i]?=some .gone:=by
 induction ms generalizing H with
 |nil=>cases h
 |cons m ms ih=>
  show(kill (H.set m .gone) ms)[i]?=_;by_cases hi:i∈ms
  ·exact ih hi (by simpa using hl)
  ·rw[kG hi];rcases bJ.1 h with rfl|h
   ·rw[dR hl]
   ·exact absurd h hi
theorem Ve{X:aa}{H H':bY}(h:Sd X H H'=true){i:Nat}{o:Ob}(hi:i∉X)(ho:H[i]?=some o)(hg:H'[i]?=some .gone):o=.gone:=by
 have h1:=aj.1 h i (bu.2 (aJ.1 ho).1);rw[ho,hg,List.contains_eq_mem,bB hi,oU]at h1;cases o<;>first|rfl|cases h1
theorem Oe{X:aa}{H:bY}{ms:aa}{n:bY}(h:Sd X H (kill H ms++n)=true):BA X H (kill H ms++n):=by
 intro i o hi ho;have hl:=(aJ.1 ho).1;have e:(kill H ms++n)[i]?=(kill H ms)[i]?:=bA (by rw[gx];exact hl);by_cases hm:i∈ms
 ·have e2:=e.trans (Sw hm hl);rw[e2,Ve h hi ho e2]
 ·rw[e,kG hm,ho]
theorem XB{X:aa}{H:bY}{ms:aa}{n:bY}{id:Nat}{b:Ob}(hid:id∈X)(h:Sd X H ((kill H ms).set id b++n)=true):BA X H ((kill H ms).set id b++n):=by
 intro i o hi ho;have hne:id≠i:=fun e=>hi (e▸hid)
 have hl:=(aJ.1 ho).1;have e:((kill H ms).set id b++n)[i]?=(kill H ms)[i]?:=by
  rw[bA (by rw[jQ,gx];exact hl),cJ hne]
 by_cases hm:i∈ms
 ·have e2:=e.trans (Sw hm hl);rw[e2,Ve h hi ho e2]
 ·rw[e,kG hm,ho]
theorem a0w{X:aa}{nt:Nat}{o:Oper}{A A1:gI}{zu:St}{p:Fb}(hk:N6 X st o.op A=true)(hgn:Sd X st.H zu.H=true)(h:It P nt o st A=some (zu,A1,p)):((∃t d,o.dst=some t/\t<nt/\zu.σ=(t,d)::st.σ)\/(o.dst=none/\zu.σ=st.σ))/\BA X st.H zu.H:=by
 have plain:∀ {t:Nat},o.dst=some t->(if t<nt then match IY P st o.op A with|some (d,A,ow)=>some ((⟨(t,d)::st.σ,st.H⟩:St),A,ow)|none=>none else none)=some (zu,A1,p)->((∃t d,o.dst=some t/\t<nt/\zu.σ=(t,d)::st.σ)\/(o.dst=none/\zu.σ=st.σ))/\BA X st.H zu.H:=by
  intro t hd h;split at h
  ·rename_i ht;split at h
   ·cases h;exact⟨.inl ⟨t,_,hd,ht,rfl⟩,BA.refl _⟩
   ·cases h
  ·cases h
 unfold It at h;split at h
 case h_3=>
  rename_i T x y hop hd;rw[hop]at hk;simp only[N6]at hk;split at h
  ·rename_i id off ds h1 h2;rw[h1]at hk;split at h
   ·split at h
    ·split at h
     ·cases h;refine⟨.inr ⟨hd,rfl⟩,fun i cs hi hcs=>?_⟩;have hne:id≠i:=fun e=>hi (by subst e;simpa using hk)
      show(st.H.set id _)[i]?=_;rw[cJ hne,hcs]
     ·cases h
    ·cases h
   ·cases h
  ·rename_i id i sz off ds h1 h2;rw[h1]at hk;cases hk
  ·cases h
 case h_7=>
  rename_i T len parts t hop hd;split at h
  ·split at h
   ·split at h
    ·split at h
     ·rename_i es ms hab;split at h
      ·rename_i hc;cases h;exact⟨.inl ⟨t,_,hd,hc.1,rfl⟩,Oe hgn⟩
      ·cases h
     ·cases h
    ·cases h
   ·cases h
  ·cases h
 case h_8=>
  rename_i c t hop hd;rw[hop]at hk;simp only[N6]at hk;split at h
  ·split at h
   ·split at h
    ·rename_i rows u1 k1 fT u2 k2 A' ow _ hS hX;split at h
     ·rename_i hc;cases h;exact⟨.inl ⟨t,_,hd,hc.1,rfl⟩,Oe hgn⟩
     ·cases h
    ·cases h
   ·cases h
  ·rename_i a5b _ _;rw[a5b]at hk;cases hk
  ·rename_i f a5b;rw[a5b]at hk;split at hk
   ·rename_i hb;cases hb
   ·rename_i f' d A' hb;split at h
    ·rename_i hA;cases hA
    ·rename_i hA;cases hA
    ·rename_i hA;cases hA
    ·rename_i hA;cases hA
    ·rename_i hA;cases hA
    ·rename_i hA;cases hA
    ·rename_i ds ms d' A'' hv hA;split at h
     ·rename_i hc;cases h;exact⟨.inl ⟨t,_,hd,hc.1,rfl⟩,(BA.refl _).app _⟩
     ·cases h
    ·rename_i hA;cases hA
    ·rename_i hA;cases hA
    ·cases h
   ·rename_i f' nz d A' hb;generalize Jo st.H (List.map st.ev c.args.toList)=q at h;rcases q with _|⟨qa,qb⟩
    all_goals
     dsimp only at h;split at h
     ·rename_i ds ms qs h9;split at h
      ·rename_i hc;cases h;exact⟨.inl ⟨t,_,hd,hc.1,rfl⟩,Oe hgn⟩
      ·cases h
     ·cases h
   ·rename_i f' nz cells' d A' hb;generalize Jo st.H (List.map st.ev c.args.toList)=q at h;rcases q with _|⟨qa,qb⟩
    all_goals
     dsimp only at h;split at h
     ·rename_i x0 xr h5;rw[h5]at hk;split at h
      ·rename_i id h6;simp only[h6]at hk;split at h
       ·rename_i ob h7;split at h
        ·rename_i Ls h8;split at h
         ·rename_i cells ds ms qs h9;split at h
          ·rename_i hc;cases h;exact⟨.inl ⟨t,_,hd,hc.1,rfl⟩,XB (by simpa using hk) hgn⟩
          ·cases h
         ·cases h
        ·cases h
       ·cases h
      ·cases h
     ·cases h
   ·cases hk
  ·exact plain hd h
 case h_13=>
  rename_i T x i t hop hd;rw[hop]at hk;simp only[N6]at hk;split at h
  ·rename_i hl;rw[hl]at hk;cases hk
  ·exact plain hd h
 case h_14=>
  rename_i T x t hop hd;rw[hop]at hk;simp only[N6]at hk;split at h
  ·rename_i hl;rw[hl]at hk;cases hk
  ·rw[aR]at hk
   replace hk:=hk.2
   split at h
   ·rename_i r A' id i sz h1;split at h
    ·rename_i n e sz' rows h2;split at h
     ·rename_i hc;cases h;refine⟨.inl ⟨t,_,hd,hc.1,rfl⟩,BA.app (fun j cs hj hcs=>?_) _⟩;have hne:id≠j:=fun e=>hj (by subst e;rw[h1]at hk;simpa using hk)
      rw[cJ hne];exact hcs
     ·cases h
    ·cases h
   ·exact plain hd h
 all_goals first
  | (rename_i hop _;rw[hop]at hk;simp[N6]at hk;done)
  | (rename_i hop;rw[hop]at hk;simp[N6]at hk;done)
  |skip
 all_goals first
  |exact plain (by assumption) h
  |cases h
theorem Step.of{nt:Nat}(hnt:Γ.nt=nt){o:Oper}{A A1:gI}{zu:St}{p:Fb}(hg:o.guard=none)(hsel:∀cs b,o.op≠ .select cs b)(h:It P nt o st A=some (zu,A1,p))(hp:Ag p):Step P Γ o st zu:=by
 intro κ Θ a w hs;have h1:=Qg (P:=P) (Γ:=Γ) (all:= #[]) (rest:=[]) (Q:=fun e s=>e=.normal/\s=zu) hnt hg h hp (a5E ⟨rfl,rfl⟩) κ Θ a w hs;have hw:Region.wanted o (yielded #[] a.tmps)=true:=by simp[Region.wanted,hg]
 simp only[wpList,hw,qk]at h1;rcases h1 with h1|⟨_,a0,w0,wz,κ',Θ',_,hq,_⟩
 ·refine Tk hsel (fun _ _=>rfl) ?_ ?_ ?_ h1
  ·rintro v w' ⟨wz,κ',Θ',hs',_,rfl⟩;exact⟨κ',Θ',hs'⟩
  ·rintro d w' ⟨wz,κ',Θ',hs',_,rfl⟩;have:=hs'.defers;cases hod:o.dst<;>rw[hod]at this<;>cases this
  ·rintro e c w' ⟨wz,κ',Θ',hs',rfl,_⟩;rfl
 ·cases hq
theorem RQ{X:aa}{nt:Nat}(hnt:Γ.nt=nt){K:St->Prop}{P8:St}{A2:gI}:∀ {ops:List Oper} {st:St} {A:gI} {p:Fb},Oq P nt X ops st A=some (P8,A2,p)->Ag p->K P8->Y8 P Γ X K ops st:=by
 intro ops
 induction ops with
 |nil=>intro st A p h hp hK;simp only[Oq,ay,cq]at h;obtain⟨rfl,_,_⟩:=h;exact hK
 |cons o os ih=>
  intro st A p h hp hK;simp only[Oq]at h;split at h
  ·rename_i hg hok;split at h
   ·rename_i zu A1 p1 h1;split at h
    ·rename_i a3a A2' q hgn h2;cases h;obtain⟨hp1,hq⟩:=hp.app;obtain⟨hd,hX⟩:=a0w hok hgn h1;have hsel:∀cs b,o.op≠ .select cs b:=by
      intro cs b e;rw[e]at hok;cases hok
     exact⟨zu,hd.imp (fun⟨t,d,hd,ht,hσ⟩=>⟨t,d,hd,by rw[hnt];exact ht,hσ⟩) id,hX,hg,hsel,Step.of hnt hg hsel h1 hp1,ih h2 hq hK⟩
    ·cases h
   ·cases h
  ·cases h
def a0y(X:aa)(st:St)(ops:List Oper)(L:aa):Bool:=L.all fun i=>match ops[i]? with|some o=>EV X st o.op|none=>false
theorem Xf{X:aa}{st:St}{ops:List Oper}{L:aa}(h:a0y X st ops L=true):∀i∈L,∀o,ops[i]?=some o->EV X st o.op=true:=by
 intro i hi o ho;have:=aj.1 h i hi;rw[ho]at this;exact this
def Db(ρ:aa)(o:Oper):Oper:= {o with after:=o.after.map fun e=> {e with on:=ρ.getD e.on 0},guard:=o.guard.map fun g=>(ρ.getD g.1 0,g.2)}
def xB(ops:Array Oper)(π ρ:aa):List Oper:=π.filterMap fun i=>(ops[i]?).map (Db ρ)
def N7(ops:Array Oper)(π ρ:aa):Bool:=
 decide (π.length=ops.size)&&(decide (ρ.length=ops.size)&&
 (((List.range ops.size).all fun i=>(match ρ[i]? with|some k=>π[k]?==some i|none=>false))&&
 (((List.range ops.size).all fun k=>(match π[k]? with|some i=>ρ[i]?==some k|none=>false))&&
 (ops.toList.all fun o=>(o.after.all fun e=>decide (e.on<ops.size))&&(match o.guard with|some g=>decide (g.1<ops.size)|none=>true)))))
theorem OE(ρ:aa)(o:Oper)(f:Operand->Value):execOp f (Db ρ o)=execOp f o:=by
 cases o;rfl
theorem a1H(ρ:aa){o:Oper}{K:Act->World->Prop}{Q:Exit->Act->World->Prop}(h:(Db ρ o).wp P a w K Q):o.wp P a w K Q:=by
 unfold Oper.wp at*;rw[OE]at h;exact h
theorem Tw(ρ:aa){o:Oper}(h:(Db ρ o).asks P a w):o.asks P a w:=by
 unfold Oper.asks at*;rw[OE]at h;exact h
section
variable{ops:Array Oper}{π ρ:aa}
theorem Oz(hB:N7 ops π ρ=true){k i:Nat}{o:Oper}(hk:π[k]?=some i)(ho:ops[i]?=some o):(xB ops π ρ).toArray[k]?=some (Db ρ o):=by
 simp only[N7,aR,bC]at hB;obtain⟨h1,h2,h3,h4,h5⟩:=hB;have hall:∀x∈π,∃o,ops[x]?=some o:=by
  intro x hx;obtain⟨j,hj,rfl⟩:=ei.1 hx;have:=aj.1 h4 j (bu.2 (by omega));rw[af hj]at this;simp only[cZ]at this;have:=(aJ.1 this).1;exact⟨_,cj (by omega)⟩
 have key:∀(l:aa) (k:Nat),(∀x∈l,∃o,ops[x]?=some o)->l[k]?=some i->(l.filterMap fun i=>(ops[i]?).map (Db ρ))[k]?=some (Db ρ o):=by
  intro l
  induction l with
  |nil=>intro k _ h;simp at h
  |cons x l ih=>
   intro k hl h;obtain⟨ox,UH⟩:=hl x (by simp);rw[AM];simp only[UH,cv];cases k with
   |zero=>simp at h;subst h;rw[ho]at UH;cases UH;rfl
   |succ k=>simpa using ih k (fun y hy=>hl y (by simp[hy])) (by simpa using h)
 have:=key π k hall hk;simpa[xB]using this
theorem TJ(hB:N7 ops π ρ=true):(xB ops π ρ).toArray.size=ops.size:=by
 have hB':=hB;simp only[N7,aR,bC]at hB;obtain⟨h1,h2,h3,h4,h5⟩:=hB;have hall:∀x∈π,∃o,ops[x]?=some o:=by
  intro x hx;obtain⟨j,hj,rfl⟩:=ei.1 hx;have:=aj.1 h4 j (bu.2 (by omega));rw[af hj]at this;simp only[cZ]at this;have:=(aJ.1 this).1;exact⟨_,cj (by omega)⟩
 have key:∀(l:aa),(∀x∈l,∃o,ops[x]?=some o)->(l.filterMap fun i=>(ops[i]?).map (Db ρ)).length=l.length:=by
  intro l
  induction l with
  |nil=>intro _;rfl
  |cons x l ih=>
   intro hl;obtain⟨ox,UH⟩:=hl x (by simp);rw[AM];simp only[UH,cv,aS,ih (fun y hy=>hl y (by simp[hy]))]
 rw[xm,xB,key π hall,h1]
theorem a08{Q':Exit->Act->World->Prop}(hB:N7 ops π ρ=true):∀(fuel:Nat) (listed listed':Array Bool) (a:Act) (w:World),listed.size=ops.size->listed'.size=ops.size->(∀(k i:Nat),π[k]?=some i->listed'.getD k false=listed.getD i false)->
 wpAny P .any (xB ops π ρ).toArray Q' fuel listed' a w->wpAny P .any ops Q' fuel listed a w:=by
 have hB':=hB;simp only[N7,aR,bC]at hB';obtain⟨h1,h2,h3,h4,h5⟩:=hB';have to:∀i,i<ops.size->∃k,ρ[i]?=some k/\π[k]?=some i/\k<ops.size:=by
  intro i hi;have:=aj.1 h3 i (bu.2 hi);split at this
  ·rename_i k hk;simp only[cZ]at this;exact⟨k,hk,this,by have:=(aJ.1 this).1;omega⟩
  ·cases this
 have back:∀k,k<ops.size->∃i,π[k]?=some i/\ρ[i]?=some k/\i<ops.size:=by
  intro k hk;have:=aj.1 h4 k (bu.2 hk);split at this
  ·rename_i i hi;simp only[cZ]at this;exact⟨i,hi,this,by have:=(aJ.1 this).1;omega⟩
  ·cases this
 have rin:∀(i:Nat) o,ops[i]?=some o->(∀e∈o.after,e.on<ops.size)/\∀g,o.guard=some g->g.1<ops.size:=by
  intro i o ho;have hm:o∈ops.toList:=by rw[<-nr]at ho;exact aE ho
  have:=aj.1 h5 o hm;simp only[aR]at this;refine⟨fun e he=>by simpa using xD.1 this.1 e he,fun g hg=>?_⟩;have:=this.2;rw[hg]at this;simpa using this
 have rd:∀(listed listed':Array Bool),listed.size=ops.size->listed'.size=ops.size->(∀(k i:Nat),π[k]?=some i->listed'.getD k false=listed.getD i false)->∀(k i:Nat),π[k]?=some i->(i∈Region.ready .any ops listed↔k∈Region.ready .any (xB ops π ρ).toArray listed'):=by
  intro listed listed' hs1 hs2 Tn k i hki;have hk:k<ops.size:=by have:=(aJ.1 hki).1;omega
  obtain⟨i',hi',hr,hilt⟩:=back k hk;rw[hki]at hi';cases hi';have ho:ops[i]?=some ops[i]:=cj hilt;have ho':=Oz hB hki ho;have hon:∀e∈ops[i].after,listed'.getD (ρ.getD e.on 0) false=listed.getD e.on false:=by
   intro e he;obtain⟨k2,hk2,hk3,_⟩:=to e.on ((rin i _ ho).1 e he);rw[mX,hk2,vm];exact Tn k2 e.on hk3
  rw[mem_ready,mem_ready];constructor
  ·rintro⟨q1,o,q2,q3⟩;rw[ho]at q2;cases q2;refine⟨getD_in (by omega) (by rw[Tn k i hki];exact getD_both q1),_,ho',?_⟩;intro e he hb;simp only[Db,Array.mem_map]at he;obtain⟨e0,he0,rfl⟩:=he;simp only;rw[hon e0 he0];exact q3 e0 he0 hb
  ·rintro⟨q1,o,q2,q3⟩;rw[ho']at q2;cases q2;refine⟨getD_in (by omega) (by rw[<-Tn k i hki];exact getD_both q1),_,ho,?_⟩;intro e he hb;rw[<-hon e he];exact q3 {e with on:=ρ.getD e.on 0} (by simp only[Db,Array.mem_map];exact⟨e,he,rfl⟩) hb
 have lt:∀ {listed:Array Bool} {ops:Array Oper} {i:Nat},i∈Region.ready .any ops listed->i<ops.size:=by
  intro listed ops i hi;obtain⟨_,o,ho,_⟩:=mem_ready.1 hi;exact(bO.1 ho).1
 have a4K:∀(listed listed':Array Bool),listed.size=ops.size->listed'.size=ops.size->(∀(k i:Nat),π[k]?=some i->listed'.getD k false=listed.getD i false)->(Region.ready .any ops listed=[]↔Region.ready .any (xB ops π ρ).toArray listed'=[]):=by
  intro listed listed' hs1 hs2 Tn;constructor
  ·intro h;rw[yp];intro k hk;obtain⟨i,hi,_⟩:=back k (by have:=lt hk;rw[TJ hB]at this;exact this);have:=(rd listed listed' hs1 hs2 Tn k i hi).2 hk;rw[h]at this;cases this
  ·intro h;rw[yp];intro i hi;obtain⟨k,_,hk,_⟩:=to i (lt hi);have:=(rd listed listed' hs1 hs2 Tn k i hk).1 hi;rw[h]at this;cases this
 intro fuel
 induction fuel with
 |zero=>
  intro listed listed' a w hs1 hs2 Tn h;exact⟨(a4K listed listed' hs1 hs2 Tn).2 h.1,h.2⟩
 |succ fuel ih=>
  intro listed listed' a w hs1 hs2 Tn h;refine⟨fun h0=>h.1 ((a4K listed listed' hs1 hs2 Tn).1 h0),fun i hi=>?_⟩;have hilt:=lt hi;obtain⟨k,hrk,hk,aE5⟩:=to i hilt;have hkr:=(rd listed listed' hs1 hs2 Tn k i hk).1 hi;have ho:ops[i]?=some ops[i]:=cj hilt;have ho':=Oz hB hk ho;have h2:=wpOp_mono (K':=wpAny P .any ops Q' fuel (listed.setIfInBounds i true)) (fun a' w' h'=>ih (listed.setIfInBounds i true) (listed'.setIfInBounds k true) a' w' (by simpa using hs1) (by simpa using hs2) (by
   intro k2 i2 Yz;by_cases e:k=k2
   ·subst e;rw[hk]at Yz;cases Yz;have g1:k<listed'.size:=by omega
    have g2:i<listed.size:=by omega
    simp[g1,g2]
   ·have e2:i≠i2:=by
     intro e3;subst e3;obtain⟨i',hi',hr',_⟩:=back k2 (by have:=(aJ.1 Yz).1;omega);rw[Yz]at hi';cases hi';rw[hrk]at hr';cases hr';exact e rfl
    rw[getD_set_ne false e,getD_set_ne false e2];exact Tn k2 i2 Yz) h') (h.2 k hkr)
  have hw:Region.wanted (Db ρ ops[i]) (yielded (xB ops π ρ).toArray a.tmps)=Region.wanted ops[i] (yielded ops a.tmps):=by
   cases hg:ops[i].guard with
   |none=>simp[Region.wanted,Db,hg]
   |some g=>
    obtain⟨j,want⟩:=g;have hj:=(rin i _ ho).2 _ hg;obtain⟨k3,aBZ,hk3,_⟩:=to j hj;have zj:ops[j]?=some ops[j]:=cj hj;have aBS:=Oz hB hk3 zj;have:yielded (xB ops π ρ).toArray a.tmps (ρ.getD j 0)=yielded ops a.tmps j:=by
     rw[mX,aBZ,vm];unfold yielded;rw[aBS,zj];rfl
    simp only[Region.wanted,Db,hg,cv];rw[this]
  unfold wpOp at h2⊢;simp only[ho',ho]at h2⊢;rw[hw]at h2;split
  ·rename_i Vo;rw[bL Vo]at h2;exact h2.imp (a1H ρ) fun⟨q1,q2⟩=>⟨Tw ρ q1,q2⟩
  ·rename_i Vo;rw[b9 Vo]at h2;exact h2
theorem Po.perm(hB:N7 ops π ρ=true)(h:Po P Γ (xB ops π ρ).toArray Q st):Po P Γ ops Q st:=by
 intro κ Θ a w hs;have:=h κ Θ a w hs;rw[TJ hB]at this;refine a08 hB ops.size (Array.replicate ops.size false) (Array.replicate ops.size false) a w (by simp) (by simp) (fun k i _=>?_) this;rw[getD_replicate_false,getD_replicate_false]
end
end
def AH(P:Program)(nt:Nat)(all:Array Oper):List Oper->St->gI->Option (St×gI×Fb)
 | [],st,A=>(match shares A st with| (zu,A1)=>some (zu,A1,[]))
 |o::rest,st,A=>match o.guard with
  |none=>(match It P nt o st A with
   |some (zu,A1,p)=>(match AH P nt all rest zu A1 with|some (P8,A2,q)=>some (P8,A2,p++q)|none=>none)
   |none=>none)
  |some (j,want)=>(match(all[j]?).bind (·.dst),A with
   |some s,.b v::A=>(match lk st.σ s with
    | .bool b=>(match v==want with
     |true=>(match It P nt {o with guard:=none} st A with
      |some (zu,A1,p)=>(match AH P nt all rest zu A1 with|some (P8,A2,q)=>some (P8,A2,(b=v)::(p++q))|none=>none)
      |none=>none)
     |false=>(match o.dst with
      |some t=>(if t<nt then match AH P nt all rest ⟨(t,.ff [])::st.σ,st.H⟩ A with|some (P8,A2,q)=>some (P8,A2,(b=v)::q)|none=>none else none)
      |none=>(match AH P nt all rest st A with|some (P8,A2,q)=>some (P8,A2,(b=v)::q)|none=>none)))
    | .ff []=>(match o.dst with
     |some t=>(if t<nt then AH P nt all rest ⟨(t,.ff [])::st.σ,st.H⟩ A else none)
     |none=>AH P nt all rest st A)
    |_=>none)
   |_,_=>none)
def VQ(P:Program)(H:bY)(r:Nat)(σ:List (Nat×D))(o:Oper)(A:gI):Option (D×bY×gI×Fb):=match o.op with
 | .call c=>(match c.callee with
  | .value (.func f)=>(match Jo H (c.args.toList.map (St.ev ⟨σ,H⟩)),A with
   |some (ds,ms),.d d::A=>(if ms=[]\/d.RW=true then some ((s8 r d).1,(s8 r d).2,A,[Good P f ds d])else none)
   |some (ds,ms),.ds d::A=>(if d.a6L=true/\d.RW=true then some (d.Uv,[],A,[Good P f ds d])else none)
   |_,.nl d::A=>(if(c.args.toList.map (St.ev ⟨σ,H⟩)).all My=true then some ((s8 r d).1,(s8 r d).2,A,[Good P f (c.args.toList.map (St.ev ⟨σ,H⟩)) d])else none)
   |_,_=>none)
  |_=>(match IY P ⟨σ,H⟩ o.op A with|some (d,A,ow)=>some (d,[],A,ow)|none=>none))
 | .alloc T=>(match tz P T with|some zs=>some (.ptr r 0,[.box zs],A,[])|none=>none)
 | .box _ x=>(match(St.ev ⟨σ,H⟩ x).cellsOf with|some ds=>some (.ptr r 0,[.box ds],A,[])|none=>none)
 | .buildSlice T len parts=>(match LY P T with
  |some (e,sz)=>(match tz P e with
   |some zs=>(match zm (um len sz) (List.replicate len zs).flatten (parts.toList.map fun q=>(q.1,St.ev ⟨σ,H⟩ q.2))with
    |some ds=>(match A with
     | .vw _::A=>(if 0<sz/\len*sz<=16777216/\ds.all D.Sv=true/\ds.all D.flat=true then some (.sl (chunk sz len ds),[],A,[])else none)
     |A=>(match Jz H ds with
      |some (es,ms)=>(if 0<sz/\len*sz<=16777216/\ms=[]then some (.acc r,[.row (zB (Xo H e 0 ds)) e sz (chunk sz len es)],A,[])else none)
      |none=>none))
    |none=>none)
   |none=>none)
  |none=>none)
 |_=>(match IY P ⟨σ,H⟩ o.op A with|some (d,A,ow)=>some (d,[],A,ow)|none=>none)
def zJ(P:Program)(nt:Nat)(all:Array Oper)(H:bY):List Oper->List (Nat×D)->bY->aa->gI->Option (List (Nat×D)×bY×gI×Fb)
 | [],σ,acc,_,A=>some (σ,acc,A,[])
 |o::rest,σ,acc,U,A=>match o.dst with
  |none=>(match o.op,o.guard with
   | .store T x y,none=>(match St.ev ⟨σ,H⟩ x,(St.ev ⟨σ,H⟩ y).cellsOf with
    | .ptr id off,some ds=>(match acc[id-H.length]? with
     |some (.box zs)=>(if off=0/\H.length<=id/\id∉U/\Uy P T=true/\ds.length=C8 P T/\zs.length=ds.length then zJ P nt all H rest σ (acc.set (id-H.length) (.box ds)) (id::U) A else none)
     |_=>none)
    |_,_=>none)
   |_,_=>none)
  |some t=>(if t<nt then match o.guard with
   |none=>(match VQ P H (H.length+acc.length) σ o A with
    |some (d,obs,A1,p)=>(match zJ P nt all H rest ((t,d)::σ) (acc++obs) U A1 with|some (σ2,SB,A2,q)=>some (σ2,SB,A2,p++q)|none=>none)
    |none=>none)
   |some (j,want)=>(match(all[j]?).bind (·.dst),A with
    |some s,.b v::A=>(match lk σ s with
     | .bool b=>(match v==want with
      |true=>(match VQ P H (H.length+acc.length) σ o A with
       |some (d,obs,A1,p)=>(match zJ P nt all H rest ((t,d)::σ) (acc++obs) U A1 with|some (σ2,SB,A2,q)=>some (σ2,SB,A2,(b=v)::(p++q))|none=>none)
       |none=>none)
      |false=>(match zJ P nt all H rest ((t,.ff [])::σ) acc U A with|some (σ2,SB,A2,q)=>some (σ2,SB,A2,(b=v)::q)|none=>none))
     | .ff []=>zJ P nt all H rest ((t,.ff [])::σ) acc U A
     |_=>none)
    |_,_=>none)
   else none)
inductive Fr where
 |sq (c:Code)
 |bl (id:Nat)
 |lp
def depth:List Fr->Nat
 | []=>0
 | .lp::K=>depth K+1
 |_::K=>depth K
inductive Cfg where
 |run (c:Code)
 |nor
 |ex (id:Nat)
inductive Stop where
 |ret (d:D)
 |lp (c:Code) (K:List Fr) (st:St)
 |cont (k:Nat) (st:St)
 |at_ (c:Code) (K:List Fr) (st:St)
def a6P(P:Program)(rs:List ResultVar×List (List (Option (Nat×Nat))))(st:St):Option D:=match Iq P st rs.1 with
 |some ds=>(match Br st.H rs.2 ds with|some (es,ms,qs)=>(if ms.Nodup/\qs.Nodup then some (LN es)else none)|none=>none)
 |none=>none
def aBJ(A:gI)(m:Nat):Option (aa×aa):=match A with
 | .hl m' k o::_=>if m'=m then some (k,o)else none
 |_=>none
def QW(p:Fb)(x:Option (Stop×Fb)):Option (Stop×Fb):=match x with
 |some (s,q)=>some (s,p++q)
 |none=>none
def go(P:Program)(rf:St->Option D)(nt:Nat):Nat->Cfg->List Fr->St->gI->Option (Stop×Fb)
 |0,_,_,_,_=>none
 |n+1,.run c,K,st,A=>(match c with
  | .skip=>go P rf nt n .nor K st A
  | .ret=>(match rf st with|some d=>some (.ret d,[])|none=>none)
  | .exit id=>go P rf nt n (.ex id) K st A
  | .seq x y=>go P rf nt n (.run x) (.sq y::K) st A
  | .block id x=>go P rf nt n (.run x) (.bl id::K) st A
  | .loop x=>(match A with
   | .cn k o::_=>(if o.Nodup then some (.lp x K (st.Ec k o),[])else none)
   | .pb id off e sz::A=>(match st.prom id off e sz with|some zu=>(match shares A zu with| (P8,A2)=>go P rf nt n (.run (.loop x)) K P8 A2)|none=>none)
   |_=>none)
  | .cond x y z=>(match st.ev x,A with
   | .bool b,.b v::A=>QW [b=v] (go P rf nt n (.run (match v with|true=>y|false=>z)) K st A)
   |_,_=>none)
  | .region _ ops dr=>(match dr with
   |false=>(match AH P nt ops ops.toList st A with|some (zu,A1,p)=>QW p (go P rf nt n .nor K zu A1)|none=>none)
   |true=>(match A with
    | .n k::A=>(match Ye ops k with
     |true=>(match zJ P nt ops st.H (ops.toList.take k) st.σ [] [] A with
      |some (σ1,acc,A1,p)=>(match AH P nt ops (ops.toList.drop k) ⟨σ1,st.H++acc⟩ A1 with|some (P8,A2,q)=>QW (p++q) (go P rf nt n .nor K P8 A2)|none=>none)
      |none=>none)
     |false=>none)
    | .n2 π ρ k m L X::A=>(match N7 ops π ρ,xB ops π ρ with
     |true,ops'=>(match OC ops'.toArray k m L with
      |true=>(match zJ P nt ops'.toArray st.H (ops'.take k) st.σ [] [] A with
       |some (σ1,acc,A1,p)=>(match a0y X ⟨σ1,st.H⟩ ops' L,Oq P nt X ((ops'.drop k).take (m-k)) ⟨σ1,st.H++acc⟩ A1 with
        |true,some (zu,A2,p2)=>(match AH P nt ops'.toArray (ops'.drop m) zu A2 with|some (P8,A3,q)=>QW (p++(p2++q)) (go P rf nt n .nor K P8 A3)|none=>none)
        |_,_=>none)
       |none=>none)
      |false=>none)
     |false,_=>none)
    |_=>none))
  |_=>none)
 |n+1,.nor,K,st,A=>(match K with
  | []=>(match rf st with|some d=>some (.ret d,[])|none=>none)
  | .sq y::K=>(match aBJ A K.length with|some (k,o)=>(if o.Nodup then some (.at_ y K (st.Ec k o),[])else none)|none=>go P rf nt n (.run y) K st A)
  | .bl _::K=>go P rf nt n .nor K st A
  | .lp::K=>(match A with| .cn k o::_=>(if o.Nodup then some (.cont (depth K) (st.Ec k o),[])else none)|_=>none))
 |n+1,.ex id,K,st,A=>(match K with
  | []=>none
  | .sq _::K=>go P rf nt n (.ex id) K st A
  | .bl i::K=>(if id=i then go P rf nt n .nor K st A else go P rf nt n (.ex id) K st A)
  | .lp::K=>go P rf nt n (.ex id) K st A)
section
variable{P:Program}{Γ:vn}{Q:Exit->St->Prop}{N:Nat->St->Prop}
def KQ(P:Program)(Γ:vn)(N:Nat->St->Prop)(Q:Exit->St->Prop):List Fr->Exit->St->Prop
 | []=>Q
 | .sq y::K=>a15 (AW P Γ y (KQ P Γ N Q K)) (KQ P Γ N Q K)
 | .bl id::K=>Qq id (KQ P Γ N Q K)
 | .lp::K=>a15 (fun st=>∃k o,o.Nodup/\N (depth K) (st.Ec k o)) (KQ P Γ N Q K)
theorem a5I:∀(K:List Fr) {st:St},Q .ret st->KQ P Γ N Q K .ret st:=by
 intro K
 induction K with
 |nil=>intro st h;exact h
 |cons f K ih=>intro st h;cases f<;>exact ih h
theorem S6{N':Nat->St->Prop}:∀(K:List Fr),(∀d,d<depth K->N d=N' d)->KQ P Γ N Q K=KQ P Γ N' Q K:=by
 intro K
 induction K with
 |nil=>intro _;rfl
 |cons f K ih=>
  intro h;cases f with
  |sq y=>simp only[KQ];rw[ih h]
  |bl id=>simp only[KQ];rw[ih h]
  |lp=>simp only[KQ];rw[ih (fun d hd=>h d (by simp only[depth];omega)),h (depth K) (by simp only[depth];omega)]
theorem EU{nt:Nat}(hnt:Γ.nt=nt){all:Array Oper}{P8:St}{A2:gI}:∀ {ops:List Oper} {st:St} {A:gI} {p:Fb},AH P nt all ops st A=some (P8,A2,p)->Ag p->Q .normal P8->AO P Γ all ops Q st:=by
 intro ops
 induction ops with
 |nil=>
  intro st A p h _ hq;simp only[AH]at h;cases hsh:shares A st with
  |mk zu A1=>
   rw[hsh]at h;simp only[ay,cq]at h;obtain⟨rfl,_,_⟩:=h;exact fun κ Θ a w hs=>wpList_nil ⟨_,_,_,hs.shares hsh,hq⟩
 |cons o rest ih=>
  intro st A p h hp hq;simp only[AH]at h;split at h
  ·rename_i hg;split at h
   ·rename_i zu A1 p1 h1;split at h
    ·rename_i a3a A2' q h2;cases h;exact Qg hnt hg h1 hp.app.1 (ih h2 hp.app.2 hq)
    ·cases h
   ·cases h
  ·rename_i j want hg;split at h
   ·rename_i s v A1 hj;split at h
    ·rename_i b hb;split at h
     ·rename_i hv;simp only[cZ]at hv;subst hv;split at h
      ·rename_i zu A2' p1 h1;split at h
       ·rename_i a3a A3 q h2;cases h;refine Nu (b:=b) hg hj hb ?_ (fun _=>Qg hnt rfl h1 hp.2.app.1 (ih h2 hp.2.app.2 hq)) (fun hne=>absurd hp.1 hne);intro t ht;exact a0x hnt h1 ht
       ·cases h
      ·cases h
     ·rename_i hv;split at h
      ·rename_i t hd;split at h
       ·rename_i ht;split at h
        ·rename_i a3a A3 q h2;cases h;refine Nu (b:=b) hg hj hb (fun t' ht'=>?_) (fun e=>?_) (fun _=>?_)
         ·rw[hd]at ht';cases ht';rw[hnt];exact ht
         ·exfalso;have:=hp.1;simp only[cw,ne_eq]at hv;exact hv (this.symm.trans e)
         ·rw[hd];exact ih h2 hp.2 hq
        ·cases h
       ·cases h
      ·rename_i hd;split at h
       ·rename_i a3a A3 q h2;cases h;refine Nu (b:=b) hg hj hb (fun t' ht'=>?_) (fun e=>?_) (fun _=>?_)
        ·rw[hd]at ht';cases ht'
        ·exfalso;have:=hp.1;simp only[cw,ne_eq]at hv;exact hv (this.symm.trans e)
        ·rw[hd];exact ih h2 hp.2 hq
       ·cases h
    ·rename_i hb;split at h
     ·rename_i t hd;split at h
      ·rename_i ht;refine Pn hg hj hb (fun t' ht'=>?_) ?_
       ·rw[hd]at ht';cases ht';rw[hnt];exact ht
       ·rw[hd];exact ih h hp hq
      ·cases h
     ·rename_i hd;refine Pn hg hj hb (fun t' ht'=>?_) ?_
      ·rw[hd]at ht';cases ht'
      ·rw[hd];exact ih h hp hq
    ·cases h
   ·cases h
theorem Ml{H:bY}{r:Nat}{σ:List (Nat×D)}{o:Oper}{A A1:gI}{d:D}{obs:bY}{p:Fb}(t:Option Nat)(u:Option (Nat×Ob))(h:VQ P H r σ o A=some (d,obs,A1,p))(hp:Ag p):Jw P H σ o ⟨t,d,r,obs,u⟩:=by
 have plain:∀ {x},(match IY P ⟨σ,H⟩ x A with|some (d,A,ow)=>some (d,([]:bY),A,ow)|none=>none)=some (d,obs,A1,p)->pv P ⟨σ,H⟩ x=some d/\obs=[]:=by
  intro x h;split at h
  ·rename_i d' A' ow h1;cases h;exact⟨WY h1 hp,rfl⟩
  ·cases h
 unfold VQ at h;split at h
 ·rename_i c hop;split at h
  ·rename_i f hc;split at h
   ·rename_i ds ms d' A' h1;split at h
    ·rename_i hsh;cases h;exact .inl (.inr ⟨f,_,_,ds,ms,d',hop.trans (congrArg Op.call (vT c hc rfl rfl)),.inl (by simpa using h1),hsh,hp.1,.inl rfl⟩)
    ·cases h
   ·rename_i ds ms d' A' h1;split at h
    ·rename_i Bi;cases h;exact .inl (.inr ⟨f,_,_,ds,ms,d',hop.trans (congrArg Op.call (vT c hc rfl rfl)),.inl (by simpa using h1),.inr Bi.2,hp.1,.inr ⟨Bi.1,rfl,rfl⟩⟩)
    ·cases h
   ·rename_i d' A';split at h
    ·rename_i hk;cases h;exact .inl (.inr ⟨f,_,_,_,[],d',hop.trans (congrArg Op.call (vT c hc rfl rfl)),.inr ⟨by simpa using hk,by simp,rfl⟩,.inl rfl,hp.1,.inl rfl⟩)
    ·cases h
   ·cases h
  ·exact .inl (.inl (plain h))
 ·rename_i T hop;split at h
  ·rename_i zs hz;cases h;exact .inr (.inl (.inl ⟨T,zs,hop,hz,rfl,rfl⟩))
  ·cases h
 ·rename_i T x hop;split at h
  ·rename_i ds hc;cases h;exact .inr (.inl (.inr ⟨T,x,ds,hop,hc,rfl,rfl⟩))
  ·cases h
 ·rename_i T len parts hop;split at h
  ·rename_i e sz h1;split at h
   ·rename_i zs h2;split at h
    ·rename_i ds h3;split at h
     ·split at h
      ·rename_i hc;obtain⟨c1,c2,c3,c4⟩:=hc;cases h;exact .inr (.inr (.inr ⟨T,e,sz,len,parts,zs,ds,hop,h1,h2,c1,c2,h3,c3,c4,rfl,rfl⟩))
      ·cases h
     ·split at h
      ·rename_i es ms h4;split at h
       ·rename_i hc;obtain⟨c1,c2,rfl⟩:=hc;cases h;exact .inr (.inr (.inl ⟨T,e,sz,len,parts,zs,ds,es,hop,h1,h2,c1,c2,h3,h4,rfl,rfl⟩))
       ·cases h
      ·cases h
    ·cases h
   ·cases h
  ·cases h
 ·exact .inl (.inl (plain h))
theorem Ih{nt:Nat}(hnt:Γ.nt=nt){all:Array Oper}{H:bY}{K:List (Nat×D)->bY->Prop}{σ2:List (Nat×D)}{SB:bY}{A2:gI}:∀ {ops:List Oper} {σ:List (Nat×D)} {acc:bY} {U:aa} {A:gI} {p:Fb},
 zJ P nt all H ops σ acc U A=some (σ2,SB,A2,p)->Ag p->K σ2 SB->Mk P Γ all H K ops σ acc U:=by
 subst hnt;intro ops
 induction ops with
 |nil=>
  intro σ acc U A p h _ hK;simp only[zJ,ay,cq]at h;obtain⟨rfl,rfl,_,_⟩:=h;exact hK
 |cons o rest ih=>
  intro σ acc U A p h hp hK;simp only[zJ]at h;split at h
  ·rename_i hd;split at h
   ·rename_i T x y hop hg;split at h
    ·rename_i id off ds h1 h2;split at h
     ·rename_i zs h3;split at h
      ·rename_i hc;obtain⟨rfl,c2,c3,c4,c5,c6⟩:=hc;exact⟨⟨none,.any,H.length+acc.length,[],some (id,.box ds)⟩,rfl,.inr ⟨rfl,rfl,hd,hg,T,x,y,id,ds,hop,h1,c2,h2,c4,c5,rfl⟩,⟨c3,c2,zs,ds,h3,rfl,c6⟩,ih h hp hK⟩
      ·cases h
     ·cases h
    ·cases h
   ·cases h
  ·rename_i t hd;split at h
   ·rename_i ht;split at h
    ·rename_i hg;split at h
     ·rename_i d obs A1 p1 h1;split at h
      ·rename_i σ3 a7b A3 q h2;cases h;exact⟨⟨some t,d,H.length+acc.length,obs,none⟩,rfl,.inl ⟨t,rfl,rfl,hd,ht,.inl ⟨hg,Ml _ _ h1 hp.app.1⟩⟩,trivial,ih h2 hp.app.2 hK⟩
      ·cases h
     ·cases h
    ·rename_i j want hg;split at h
     ·rename_i s v A1 hj;split at h
      ·rename_i b hb;split at h
       ·rename_i hv;simp only[cZ]at hv;subst hv;split at h
        ·rename_i d obs A2' p1 h1;split at h
         ·rename_i σ3 a7b A3 q h2;cases h;exact⟨⟨some t,d,H.length+acc.length,obs,none⟩,rfl,.inl ⟨t,rfl,rfl,hd,ht,.inr (.inl ⟨j,s,v,b,hg,hj,hb,.inl ⟨hp.1,Ml _ _ h1 hp.2.app.1⟩⟩)⟩,trivial,ih h2 hp.2.app.2 hK⟩
         ·cases h
        ·cases h
       ·rename_i hv;simp only[cw,ne_eq]at hv;split at h
        ·rename_i σ3 a7b A3 q h2;cases h;refine⟨⟨some t,.ff [],H.length+acc.length,[],none⟩,rfl,.inl ⟨t,rfl,rfl,hd,ht,.inr (.inl ⟨j,s,want,b,hg,hj,hb,.inr ⟨fun e=>hv (hp.1.symm.trans e),rfl,rfl⟩⟩)⟩,trivial,?_⟩;simp only[Cp.fill,dD];exact ih h2 hp.2 hK
        ·cases h
      ·rename_i hb;refine⟨⟨some t,.ff [],H.length+acc.length,[],none⟩,rfl,.inl ⟨t,rfl,rfl,hd,ht,.inr (.inr ⟨j,s,want,hg,hj,hb,rfl,rfl⟩)⟩,trivial,?_⟩;simp only[Cp.fill,dD];exact ih h hp hK
      ·cases h
     ·cases h
   ·cases h
def YN(P:Program)(Γ:vn)(N:Nat->St->Prop)(Q:Exit->St->Prop)(d0:D):Stop->Prop
 | .ret d=>d=d0
 | .lp c K st=>AW P Γ (.loop c) (KQ P Γ N Q K) st
 | .cont k st=>N k st
 | .at_ c K st=>AW P Γ c (KQ P Γ N Q K) st
theorem S3{c:Code}{st:St}{k o:aa}(hnd:o.Nodup)(h:AW P Γ c Q (st.Ec k o)):AW P Γ c Q st:=by
 intro κ Θ a w hs;obtain⟨κ',Θ',hs'⟩:=hs.Ec k o hnd;exact h κ' Θ' a w hs'
theorem a6Q{fn:Func}{st:St}{d:D}{e:Exit}(he:e=.ret\/e=.normal){nz:List (List (Option (Nat×Nat)))}(h:a6P P (fn.results.toList,nz) st=some d):Ql P fn d e st:=by
 unfold a6P at h;split at h
 ·rename_i ds h1;split at h
  ·rename_i es ms qs h2;split at h
   ·rename_i hc;cases h;exact⟨he,nz,ds,es,ms,qs,h1,h2,hc.1,hc.2,rfl⟩
   ·cases h
  ·cases h
 ·cases h
def a7Y(P:Program)(Γ:vn)(N:Nat->St->Prop)(Q:Exit->St->Prop)(K:List Fr)(st:St):Cfg->Prop
 | .run c=>AW P Γ c (KQ P Γ N Q K) st
 | .nor=>KQ P Γ N Q K .normal st
 | .ex id=>KQ P Γ N Q K (.exit id) st
theorem EX{p q:Fb}{x:Option (Stop×Fb)}{s:Stop}(h:QW p x=some (s,q)):∃q',x=some (s,q')/\q=p++q':=by
 unfold QW at h;split at h
 ·cases h;exact⟨_,rfl,rfl⟩
 ·cases h
theorem go_sound{rf:St->Option D}{d0:D}(hrf:∀st e,(e=.ret\/e=.normal)->rf st=some d0->Q e st){nt:Nat}(hnt:Γ.nt=nt)(hm:P.follows .mixedOrders=true):∀ {n:Nat} {cfg:Cfg} {K:List Fr} {st:St} {A:gI} {s:Stop} {p:Fb},go P rf nt n cfg K st A=some (s,p)->Ag p->YN P Γ N Q d0 s->a7Y P Γ N Q K st cfg:=by
 intro n
 induction n with
 |zero=>intro cfg K st A s p h;simp[go]at h
 |succ n ih=>
  intro cfg K st A s p h hp hs;cases cfg with
  |run c=>
   show AW P Γ c (KQ P Γ N Q K) st;cases c with
   |skip=>simp only[go]at h;exact a1p (ih h hp hs)
   |ret=>
    simp only[go]at h;split at h
    ·rename_i d hd;simp only[ay,cq]at h;obtain⟨rfl,_⟩:=h;have hd0:d=d0:=hs;subst hd0;exact a5G (a5I K (hrf st _ (.inl rfl) hd))
    ·cases h
   |exit id=>simp only[go]at h;exact a1n (ih h hp hs)
   |seq x y=>simp only[go]at h;exact a5H (ih h hp hs)
   |block id x=>simp only[go]at h;exact YH (ih h hp hs)
   |loop x=>
    simp only[go]at h;split at h
    ·split at h
     ·rename_i hnd;simp only[ay,cq]at h;obtain⟨rfl,_⟩:=h;exact S3 hnd hs
     ·cases h
    ·split at h
     ·rename_i A0 x0 zu hst;intro κ Θ a w aBd;obtain⟨κ',hs'⟩:=aBd.prom hst;exact(ih h hp hs:AW P Γ (.loop x) (KQ P Γ N Q K) (shares A0 zu).1) κ' Θ a w (hs'.shares (rfl:shares A0 zu=((shares A0 zu).1,(shares A0 zu).2)))
     ·cases h
    ·cases h
   |cond x y z=>
    simp only[go]at h;split at h
    ·rename_i b v A1 hx;obtain⟨q,h1,rfl⟩:=EX h;obtain⟨hb,hp'⟩:=hp;subst hb;refine a1l hx (fun e=>?_) (fun e=>?_)
     ·subst e;exact ih h1 hp' hs
     ·subst e;exact ih h1 hp' hs
    ·cases h
   |region id ops dr=>
    simp only[go]at h;cases dr with
    |false=>
     simp only at h;split at h
     ·rename_i zu A1 p1 h1;obtain⟨q,h2,rfl⟩:=EX h;have:=EU (Q:=KQ P Γ N Q K) hnt h1 hp.app.1 (ih h2 hp.app.2 hs);have hr:=Wf (id:=id) (l:=ops.toList) (by simpa using this);simpa using hr
     ·cases h
    |true=>
     simp only at h;split at h
     ·rename_i k A1;split at h
      ·rename_i hB;split at h
       ·rename_i σ1 acc A2 p1 h1;split at h
        ·rename_i P8 A3 p2 h2;obtain⟨q,h3,rfl⟩:=EX h;have hq:=hp.app.1.app;have h4:=EU (Q:=KQ P Γ N Q K) hnt h2 hq.2 (ih h3 hp.app.2 hs);have h5:=Ih (Γ:=Γ) (K:=fun σ acc=>AO P Γ ops (ops.toList.drop k) (KQ P Γ N Q K) ⟨σ,st.H++acc⟩) hnt h1 hq.1 h4;have hr:=a1m (id:=id) (l:=ops.toList) (Q:=KQ P Γ N Q K) (st:=st) k hm (by simpa using hB) (by simpa using h5);simpa using hr
        ·cases h
       ·cases h
      ·cases h
     ·rename_i π ρ k m L X A1;split at h
      ·rename_i ops' hB1;generalize aBT:xB ops π ρ=ops' at h;split at h
       ·rename_i hB;split at h
        ·rename_i σ1 acc A2 p1 h1;split at h
         ·rename_i zu A3 p2 hst hmid;split at h
          ·rename_i P8 A4 p3 h2;obtain⟨q,h3,rfl⟩:=EX h;have hq:=hp.app.1.app;have Ju:=hq.2.app;have h4:=EU (Q:=KQ P Γ N Q K) hnt h2 Ju.2 (ih h3 hp.app.2 hs);have h6:=RQ (Γ:=Γ) (K:=fun wz=>AO P Γ ops'.toArray (ops'.drop m) (KQ P Γ N Q K) wz) hnt hmid Ju.1 h4;have h5:=Ih (Γ:=Γ) (K:=fun σ acc=>(∀i∈L,∀o,ops'[i]?=some o->EV X ⟨σ,st.H⟩ o.op=true)/\Y8 P Γ X (fun wz=>AO P Γ ops'.toArray (ops'.drop m) (KQ P Γ N Q K) wz) ((ops'.drop k).take (m-k)) ⟨σ,st.H++acc⟩) hnt h1 hq.1 ⟨Xf hst,h6⟩;have hr:=Wm (l:=ops') (Q:=KQ P Γ N Q K) (st:=st) k m L hB h5;rw[<-aBT]at hr;exact(hr.perm hB1).aw hm
          ·cases h
         ·cases h
        ·cases h
       ·cases h
      ·cases h
     ·cases h
   |_=>simp[go]at h
  |nor=>
   show KQ P Γ N Q K .normal st;simp only[go]at h;split at h
   ·split at h
    ·rename_i d hd;simp only[ay,cq]at h;obtain⟨rfl,_⟩:=h;have hd0:d=d0:=hs;subst hd0;exact hrf st _ (.inr rfl) hd
    ·cases h
   ·split at h
    ·split at h
     ·rename_i hnd;simp only[ay,cq]at h;obtain⟨rfl,_⟩:=h;exact S3 hnd hs
     ·cases h
    ·exact ih (cfg:=.run _) h hp hs
   ·exact ih (cfg:=.nor) h hp hs
   ·split at h
    ·split at h
     ·rename_i k o _ hnd;simp only[ay,cq]at h;obtain⟨rfl,_⟩:=h;exact⟨k,o,hnd,hs⟩
     ·cases h
    ·cases h
  |ex id=>
   show KQ P Γ N Q K (.exit id) st;simp only[go]at h;split at h
   ·cases h
   ·exact ih (cfg:=.ex id) h hp hs
   ·rename_i i K;simp only[KQ,Qq];split at h
    ·rename_i e;rw[bL e];exact ih (cfg:=.nor) h hp hs
    ·rename_i e;rw[b9 e];exact ih (cfg:=.ex id) h hp hs
   ·exact ih (cfg:=.ex id) h hp hs
def dig:Code->aa->List Fr->Code×List Fr
 |c,[],K=>(c,K)
 | .seq x y,i::p,K=>(match i with|0=>dig x p (.sq y::K)|_=>dig y p K)
 | .block id c,_::p,K=>dig c p (.bl id::K)
 | .cond _ x y,i::p,K=>(match i with|0=>dig x p K|_=>dig y p K)
 | .loop c,_::p,K=>dig c p (.lp::K)
 |c,_::_,K=>(c,K)
def a4h(P:Program)(rs:List ResultVar×List (List (Option (Nat×Nat))))(st:St):Option D:=match Iq P st rs.1,(st.H[0]?:Option Ob)with
 |some ds,some (Ob.Bq cells v)=>(match Br st.H rs.2 (.agg cells::ds)with
  |some (.agg cells'::es,ms,qs)=>(if ms.Nodup/\qs.Nodup then some (.ff [LN es,.agg cells',.val v])else none)
  |_=>none)
 |_,_=>none
def a4g(P:Program)(rs:List ResultVar)(st:St):Option D:=match Iq P st rs with
 |some [.ptr j 0]=>(match st.H[j]? with|some (.box cells)=>(if cells.all D.Sv=true then some (.agg cells)else none)|_=>none)
 |_=>none
inductive Kd where
 |q (nz:List (List (Option (Nat×Nat)))) (d:D)
 |p (nz:List (List (Option (Nat×Nat)))) (v:Value) (cells:aQ) (d:D)
 |n (cells:aQ)
def Kd.rf(P:Program)(fn:Func)(k:Kd)(st:St):Option D:=match k with
 | .q nz _=>a6P P (fn.results.toList,nz) st
 | .p nz _ _ _=>a4h P (fn.results.toList,nz) st
 | .n _=>a4g P fn.results.toList st
def Kd.d0:Kd->D
 | .q _ d=>d
 | .p _ v cells d=>.ff [d,.agg cells,.val v]
 | .n cells=>.agg cells
def Kd.qq(P:Program)(fn:Func):Kd->Exit->St->Prop
 | .q _ d=>Ql P fn d
 | .p _ v cells d=>YM P fn v cells d
 | .n cells=>a7Z P fn cells
theorem Kd.ok{fn:Func}(k:Kd){st:St}{e:Exit}(he:e=.ret\/e=.normal)(h:k.rf P fn st=some k.d0):k.qq P fn e st:=by
 cases k with
 |q nz d=>exact a6Q he h
 |p nz v cells d=>
  simp only[Kd.rf,a4h,Kd.d0]at h;split at h
  ·rename_i ds Qr v' h1 h2;split at h
   ·rename_i cells' es ms qs h3;split at h
    ·rename_i hc;simp only[ay,D.ff.injEq,List.cons.injEq,D.agg.injEq,D.val.injEq,and_true]at h;obtain⟨rfl,rfl,rfl⟩:=h;exact⟨he,_,_,_,_,_,_,h1,h2,h3,hc.1,hc.2,rfl⟩
    ·cases h
   ·cases h
  ·cases h
 |n cells=>
  simp only[Kd.rf,a4g,Kd.d0]at h;split at h
  ·rename_i j h1;split at h
   ·rename_i cells' h2;split at h
    ·rename_i hc;simp only[ay,D.agg.injEq]at h;subst h;exact⟨he,j,h1,h2,hc⟩
    ·cases h
   ·cases h
  ·cases h
theorem Nv{fn:Func}{k:Kd}{nt n:Nat}{c:Code}{K:List Fr}{st:St}(A:gI)(s:Stop){p:Fb}(hnt:Γ.nt=nt)(hm:P.follows .mixedOrders=true)(h:go P (k.rf P fn) nt n (.run c) K st A=some (s,p))(hp:Ag p)
 (hs:YN P Γ N (k.qq P fn) k.d0 s):AW P Γ c (KQ P Γ N (k.qq P fn) K) st:=go_sound (Q:=k.qq P fn) (N:=N) (K:=K) (st:=st) (d0:=k.d0) (cfg:=.run c) (fun _ _ he h=>k.ok he h) hnt hm h hp hs
def VC(P:Program)(Γ:vn)(c:Code)(Q:Exit->St->Prop)(n:Nat)(st:St):Prop:=
 ∀κ Θ a w,eN Γ st κ Θ a w->Code.rounds P c (fun e a' w'=>∃wz κ' Θ',eN Γ wz κ' Θ' a' w'/\Q e wz) n a w
theorem a1o{c:Code}{n:Nat}{st:St}(h:VC P Γ c Q n st):AW P Γ (.loop c) Q st:=fun κ Θ a w hs=>wp_loop_rounds n (h κ Θ a w hs)
theorem aU{c:Code}{K:List Fr}{n:Nat}{st:St}
 (h:∀N',(∀d,d<depth K->N' d=N d)->N' (depth K)=VC P Γ c (KQ P Γ N Q K) n->AW P Γ c (KQ P Γ N' Q (.lp::K)) st):VC P Γ c (KQ P Γ N Q K) (n+1) st:=by
 intro κ Θ a w hs;have:=h (fun d=>if d<depth K then N d else VC P Γ c (KQ P Γ N Q K) n) (fun d hd=>bL hd) (b9 (by omega));simp only[KQ]at this;rw[b9 (by omega)]at this;rw[<-S6 (N:=N) (N':=fun d=>if d<depth K then N d else VC P Γ c (KQ P Γ N Q K) n) K (fun d hd=>(bL hd).symm)]at this;rw[rounds_succ];refine wp_mono (this κ Θ a w hs) ?_;rintro e a' w' ⟨wz,κ',Θ',hs',hq⟩;cases e with
 |normal=>
  obtain⟨k,o,hnd,hR'⟩:=hq;obtain⟨κ2,Θ2,hs2⟩:=hs'.Ec k o hnd;exact hR' κ2 Θ2 a' w' hs2
 |exit id=>exact⟨_,_,_,hs',hq⟩
 |goto l=>exact⟨_,_,_,hs',hq⟩
 |ret=>exact⟨_,_,_,hs',hq⟩
 |panic c=>exact⟨_,_,_,hs',hq⟩
 |outgrown=>exact⟨_,_,_,hs',hq⟩
end
theorem aL{α:Type}{c:Bool}{x y:Option α}{r:α}(h:(bif c then x else y)=some r):(c=true/\x=some r)\/(c=false/\y=some r):=by
 cases c
 ·exact .inr ⟨rfl,h⟩
 ·exact .inl ⟨rfl,h⟩
theorem bQ{α:Type}{c:Bool}{x:Option α}{r:α}(h:(bif c then x else none)=some r):c=true/\x=some r:=by
 cases c
 ·cases h
 ·exact⟨rfl,h⟩
theorem aB{α β:Type}{x:Option α}{f:α->Option β}{r:β}(h:x.bind f=some r):∃y,x=some y/\f y=some r:=by
 cases x with
 |none=>cases h
 |some y=>exact⟨y,rfl,h⟩
theorem aN{α:Type}{x y:α}(h:some x=some y):x=y:=by cases h;rfl
theorem ow{p:Prop}{ps:Fb}(h:p)(t:Ag ps):Ag (p::ps):=⟨h,t⟩
def fy{α:Type}(l:List α)(i:Int):Option α:=bif decide (0<=i)then l[i.toNat]? else none
theorem VN{α β:Type}{l:List α}{i:Int}{x:α}(f:α->β)(h:fy l i=some x):0<=i/\(l.map f)[i.toNat]?=some (f x):=by
 unfold fy at h;cases hd:decide (0<=i)with
 |false=>rw[hd]at h;cases h
 |true=>rw[hd]at h;simp only[aF]at h;exact⟨by simpa using hd,by rw[cF,h];rfl⟩
theorem a5M{l:Bytes}{i:Int}{x:UInt8}(h:fy l i=some x):0<=i/\l[i.toNat]?=some x:=by
 unfold fy at h;cases hd:decide (0<=i)with
 |false=>rw[hd]at h;cases h
 |true=>rw[hd]at h;exact⟨by simpa using hd,h⟩
def fuel:Nat:=4194304
theorem fB{α:Type}{l:List α}{i:Int}{x:α}(f:α->aQ)(n:Nat)(h:fy l i=some x)(hn:(f x).length=n):0<=i/\(l.map f)[i.toNat]?=some (f x)/\(f x).length=n:=⟨(VN f h).1,(VN f h).2,hn⟩
theorem Ud{i n:Nat}(sz:Nat)(h:decide (i<n)=true):sz=sz/\(i:Int)=((i:Nat):Int)/\i<n:=⟨rfl,rfl,bV h⟩
theorem mL{α:Type}{l:List α}{i:Nat}{x:α}(f:α->aQ)(sz:Nat)(h:l[i]?=some x):sz=sz/\(i:Int)=((i:Nat):Int)/\i<(l.map f).length:=⟨rfl,rfl,by rw[ah];exact(aJ.1 h).1⟩
theorem ed{α:Type}{l:List α}{i:Int}{x:α}(f:α->aQ)(sz:Nat)(h:fy l i=some x):sz=sz/\i=((i.toNat:Nat):Int)/\i.toNat<(l.map f).length:=by
 obtain⟨h0,h1⟩:=VN f h;exact⟨rfl,by omega,(aJ.1 h1).1⟩
theorem dN{α:Type}{l:List α}{i:Int}{x:α}(h:fy l i=some x):l[i.toNat]?=some x:=by
 have:=(VN (fun y=>y) h).2;simpa using this
theorem RZ{x y:Int}(k:IntKind)(h:(decide (0<=x)&&decide (0<y))=true):k=k/\0<=x/\0<y:=by simpa using h
def room(n b:Nat):Bool:=decide (n<=maxLen)&&decide (n*b<=140737488355328)
theorem bX{n b:Nat}(h:room n b=true):n<=maxLen/\n*b<=140737488355328:=by
 simp only[room,aR,bC]at h;exact h
theorem ZI{k n:Nat}(h:k<n)(hn:n<=maxLen):IntKind.i64.wrap ((k:Int)+1)=((k+1:Nat):Int):=by
 unfold maxLen at hn;rw[dY (qQ.i64.2 (by omega))];omega
theorem a2w{k n:Nat}(h:k<n):decide ((k:Int)<(n:Int))=true:=by simp[h]
theorem Zr{k n:Nat}(h:n<=k):decide ((k:Int)<(n:Int))=false:=by simp;omega
theorem drop_cons{α:Type}{l:List α}{k:Nat}{x:α}{xs:List α}(h:l.drop k=x::xs):l[k]?=some x/\k<l.length/\l.drop (k+1)=xs:=by
 have h1:l[k]?=some x:=by
  have:=congrArg (fun m:List α=>m[0]?) h;simpa[fG]using this
 refine⟨h1,(aJ.1 h1).1,?_⟩;rw[<-iy,h];rfl
theorem drop_nil{α:Type}{l:List α}{k:Nat}(h:l.drop k=[]):l.length<=k:=by simpa using h
theorem Zt{α β:Type}{l:List α}{k:Nat}{x:α}(f:α->β)(h:l[k]?=some x):0<=(k:Int)/\(l.map f)[(k:Int).toNat]?=some (f x):=⟨by omega,by simp[h]⟩
theorem bG{α:Type}{l:List α}{k:Nat}{x:α}(f:α->aQ)(n:Nat)(h:l[k]?=some x)(hn:(f x).length=n):0<=(k:Int)/\(l.map f)[(k:Int).toNat]?=some (f x)/\(f x).length=n:=⟨(Zt f h).1,(Zt f h).2,hn⟩
theorem Zs{α β:Type}{l:List α}{k:Nat}(f:α->β)(h:k<l.length):decide ((k:Int)<((l.map f).length:Int))=true:=by rw[ah];exact a2w h
theorem XE{α β:Type}{l:List α}{k:Nat}(f:α->β)(h:l.length<=k):decide ((k:Int)<((l.map f).length:Int))=false:=by rw[ah];exact Zr h
theorem cH{α β:Type}{l:List α}{k:Nat}{x:α}(f:α->β)(h:l[k]?=some x):(l.map f)[k]?=some (f x):=by rw[cF,h];rfl
def LA{α β:Type}[BEq α](z:β)(k:α):List (α×β)->β
 | []=>z
 |p::r=>bif k==p.1 then p.2 else LA z k r
def a2x{α β:Type}[BEq α](k:α):List (α×β)->Bool
 | []=>false
 |p::r=>bif k==p.1 then true else a2x k r
def Oi{α β:Type}[BEq α](k:α)(v:β):List (α×β)->List (α×β)
 | []=>[(k,v)]
 |p::r=>bif k==p.1 then(k,v)::r else p::Oi k v r
def eB(b:Bool):D:=.bool b
def kS{β:Type}(e:β->D)(p:Bytes×β):D×D:=(.str p.1,e p.2)
theorem Va{β:Type}{e:β->D}(z:β)(k:Bytes):∀(m:List (Bytes×β)),(Gt (.str k) (m.map (kS e))=some none/\a2x k m=false/\LA z k m=z)\/(Gt (.str k) (m.map (kS e))=some (some (e (LA z k m)))/\a2x k m=true)
 | []=>.inl ⟨rfl,rfl,rfl⟩
 |p::r=>by
  simp only[au,Gt,kS,keq,a2x,LA];cases hb:k==p.1 with
  |true=>exact .inr ⟨rfl,rfl⟩
  |false=>exact Va z k r
theorem a8k{P:Program}{T:TypeId}{β:Type}{e:β->D}{z:β}{k:Bytes}{m:List (Bytes×β)}(hT:Xi P T=some (.string,e z)):plk P T (m.map (kS e)) (.str k) false=some (e (LA z k m)):=by
 unfold plk;rw[hT];rcases Va (e:=e) z k m with⟨h1,_,h3⟩|⟨h1,_⟩
 ·simp only[Jh,h1,h3,aM]
 ·simp only[Jh,h1,aM]
theorem a0A{β:Type}{e:β->D}{k:Bytes}{v:β}:∀ {m:List (Bytes×β)},L8 (.str k) (e v) (m.map (kS e))=some ((Oi k v m).map (kS e))
 | []=>rfl
 |p::r=>by
  simp only[au,L8,Oi];have hq:keq (.str k) (kS e p).1=some (k==p.1):=rfl;rw[hq];cases hb:k==p.1 with
  |true=>rfl
  |false=>simp only[a0A (m:=r),cv,aM,au]
abbrev xU:=List Fr
section
variable{P:Program}{Γ:vn}{Q:Exit->St->Prop}{st:St}{κ κ':Nat->Option Value}{Θ Θ':Nat->Nat}{a:Act}{w w':World}{all:Array Oper}{rest:List Oper}
theorem yS.a8n{f:Nat->Option (TypeId×Nat)}{i:Nat}{vs:bp}{ds:aQ}{bs:aa}(h:yS w f i vs ds bs){p:Nat}{d:D}(hd:ds[p]?=some d):
 ∃c b1 b2 b3,vs[p]?=some c/\c.oneCell'=true/\Rd w c d b2/\(∀t,f (i+p)=some t->Ib w t c d b2)/\bs=b1++(b2++b3)/\
  ∀(e:D) (b4:aa),Rd w c e b4->(∀t,f (i+p)=some t->Ib w t c e b4)->yS w f i vs (ds.set p e) (b1++(b4++b3)):=by
 obtain⟨l,r,rfl,hl⟩:=MQ hd;obtain⟨v1,v2,c1,c2,rfl,rfl,k1,k2⟩:=h.split;cases k2 with
 |cons _ c vs _ _ b2 b3 h1 h2 h4 h3=>
  have hl1:v1.length=p:=by rw[k1.length];exact hl
  refine⟨c,c1,b2,b3,by rw[bE (by omega),hl1];simp,h1,h2,fun t ht=>h4 t (by rw[hl];exact ht),rfl,fun e b4 he hf=>?_⟩;have e1:(l++d::r).set p e=l++e::r:=by rw[nv _ _ (by omega),hl];simp
  rw[e1];exact k1.app (.cons _ _ _ _ _ _ _ h1 he (fun t ht=>hf t (by rw[<-hl];exact ht)) h3)
theorem eN.a7g(hs:eN Γ st κ Θ a w){m e sz i off e' sz':Nat}{rows EW:List aQ}{r:aQ}(hH:st.H[m]?=some (.row .uq e sz rows))(hr:rows[i]?=some r)(hd:r[off]?=some (.sl EW))
 (UD:Wz e sz=true) (hf:vb e off=some (e',sz')):
 ∃κ',eN Γ ⟨st.σ,st.H.set m (.row (.ho (i*sz+off) st.H.length) e sz (rows.set i (r.set off .any)))++[.tf e' sz' EW]⟩ κ' Θ a w:=by
 obtain⟨ρ,hu⟩:=hs.vG;obtain⟨hsz,hrl,v0,_,_,hk0,_,_,hΘ,_⟩:=hs.ob m _ hH;obtain⟨v,cs,bs,hkm,hown,hF,hnd,hρ⟩:=hu.rows m e sz rows hH;rw[hk0]at hkm;cases hkm;have hrow:=hrl r (aE hr);have hcell:rows.flatten[i*sz+off]?=some (.sl EW):=(Vc hrl hr hd).1;obtain⟨c,b1,bc,b3,q1,q2,q3,q4,rfl,q6⟩:=hF.a8n hcell;have aAw:vb e (0+(i*sz+off))=some (e',sz'):=by
  rw[show 0+(i*sz+off)=off+i*sz by omega,OH UD];exact hf
 have hfull:=q4 _ aAw;have hnew:=q6 .any [] (.any _) (fun t _=>.inl ⟨rfl,rfl⟩);rw[<-Qw (e:=.any) hrl hr hd]at hnew;obtain⟨n1,n2,n3⟩:=bW.1 hnd;obtain⟨n4,n5,n6⟩:=bW.1 n2;let n:=st.H.length
 let ρ':Nat->Nat:=fun b=>if b∈bc then n+1 else ρ b
 have aE9:m<st.H.length:=(aJ.1 hH).1;have Yo:∀b∈bc,b∈b1++(bc++b3):=fun b hb=>aZ.2 (.inr (aZ.2 (.inl hb)))
 have hz:∀b∈b1++(bc++b3),Θ b=0:=fun b hb=>(hu.free b (by rw[hρ b hb];omega)).1
 have hkn:=zM (hs.tR n (bU _)) (some c);have hk':jU w w Θ Θ (n+2):=jU.refl hs.own (by omega);have key:∀(j:Nat) x,(st.H.set m (.row (.ho (i*sz+off) n) e sz (rows.set i (r.set off .any)))++[.tf e' sz' EW])[j]?=some x->
  (j=n/\x=.tf e' sz' EW)\/(j=m/\x=.row (.ho (i*sz+off) n) e sz (rows.set i (r.set off .any)))\/(j≠m/\j<n/\st.H[j]?=some x):=by
  intro j x hj;rcases Da j x hj with⟨h1,h2⟩|⟨h1,h2⟩
  ·rw[jQ]at h1;exact .inl ⟨h1,h2⟩
  ·rcases HP j x h2 with⟨h3,h4⟩|⟨h3,h4⟩
   ·exact .inr (.inl ⟨h3,h4⟩)
   ·exact .inr (.inr ⟨h3,(aJ.1 h4).1,h4⟩)
 have w5:=hs.sA hk' hkn hu;have s7:∀b,b∈b1++([]++b3)->b∉bc/\b∈b1++(bc++b3):=by
  intro b hb;rw[dZ]at hb;rcases aZ.1 hb with hb|hb
  ·exact⟨fun h=>n3 b hb b (aZ.2 (.inl h)) rfl,aZ.2 (.inl hb)⟩
  ·exact⟨fun h=>n6 b h b hb rfl,aZ.2 (.inr (aZ.2 (.inr hb)))⟩
 have R3:(b1++([]++b3)).Nodup:=by
  rw[dZ];exact bW.2 ⟨n1,n5,fun x hx y hy=>n3 x hx y (aZ.2 (.inr hy))⟩
 have OV:∀x∈rows.set i (r.set off .any),x.length=sz:=by
  intro x hx;rcases qx hx with hx|rfl
  ·exact hrl x hx
  ·rw[jQ];exact hrow
 have Eg:w.ownsRow 0 e sz v0 (rows.set i (r.set off .any)).length cs:=by rw[jQ];exact hown
 have hre:∀(j:Nat),j≠m->∀b,ρ b=j+1->ρ' b=j+1:=by
  intro j hj b hb;simp only[ρ'];rw[b9 (fun h=>by have:=hρ b (Yo b h);omega)];exact hb
 refine⟨zz κ n (some c),hs.step hk' hs.mine hkn (fun i hi=>?_) (fun i x hx=>?_) (fun j x hj=>?_) ⟨ρ',fun b hb=>?_,fun id e2 PC fT h=>?_,fun id x h=>?_⟩⟩
 ·simp only[ax,jQ,aS,bf]at hi;unfold zz;rw[b9 (by omega)];exact hs.tR i (by omega)
 ·unfold zz at hx;split at hx
  ·cases hx;exact q2
  ·exact hs.s9 i x hx
 ·rcases key j x hj with⟨rfl,rfl⟩|⟨rfl,rfl⟩|⟨h1,h2,h3⟩
  ·exact .inr (.inr ⟨c,bc,nA _ _ _,q3,fun b hb=>hz b (Yo b hb)⟩)
  ·exact .inr (.inr ⟨hsz,OV,v0,cs,_,hkn _ _ hk0,Eg,hnew.rd,hΘ,fun b hb=>hz b (s7 b hb).2⟩)
  ·exact .inr (.inl ⟨by omega,h3⟩)
 ·refine w5.1 b fun h0=>hb ?_
  simp only[ρ'];rw[b9 (fun h=>by have:=hρ b (Yo b h);omega)];exact h0
 ·rcases key id _ h with⟨_,h1⟩|⟨_,h1⟩|⟨h1,h2,h3⟩
  ·simp at h1
  ·simp at h1
  ·obtain⟨v2,c2,b2,p1,p2,p3,p4,p5⟩:=w5.2.1 id e2 PC fT (by omega) h3;exact⟨v2,c2,b2,p1,p2,p3,p4,fun b hb=>hre id h1 b (p5 b hb)⟩
 ·rcases key id _ h with⟨rfl,rfl⟩|⟨rfl,rfl⟩|⟨h1,h2,h3⟩
  ·exact⟨c,bc,nA _ _ _,hfull,q3.lt,n4,fun b hb=>bL hb⟩
  ·refine⟨v0,cs,_,hkn _ _ hk0,Eg,hnew,R3,fun b hb=>?_,c,q1,nA _ _ _⟩;simp only[ρ'];rw[b9 (s7 b hb).1];exact hρ b (s7 b hb).2
  ·exact(w5.2.2 id x (by omega) h3).re fun b hb=>hre id h1 b hb
def H9:D->Bool
 | .acc _=>true
 | .ptr _ _=>true
 | .op _ _ _ _=>true
 |d=>d.flat
theorem QR{v:Value}{d:D}{bs:aa}(h:Aw w κ v d bs)(ht:H9 d=true):bs=[]:=by
 cases h with
 |pure h=>exact h.flat (by cases d<;>first|exact ht|cases h| (simp[H9,D.flat]at ht))
 |acc id v hk=>rfl
 |ptr id off b hk=>rfl
 |op id i sz off b o0 len cap hk=>rfl
theorem PE:∀ {ds:aQ} {vs:bp} {bs:aa},fk w κ vs ds bs->ds.all H9=true->bs=[]:=by
 intro ds
 induction ds with
 |nil=>intro vs bs h _;cases h;rfl
 |cons d ds ih=>
  intro vs bs h ht;simp only[dP,aR]at ht;cases h with
  |cons v vs _ _ b1 b2 h1 h2 h3=>rw[QR h2 ht.1,ih h3 ht.2];rfl
theorem Xh{v:Value}{d:D}{bs:aa}(h:ue w κ v d bs)(ht:H9 d=true):bs=[]:=by
 cases h with
 |v h=>
  cases h with
  |cell h=>exact QR h ht
  |agg cs ds bs h=>simp[H9,D.flat]at ht
 |ff vs ds bs h=>simp[H9,D.flat]at ht
theorem a3f{t:Nat}:∀ {σ:List (Nat×D)},(σ.all fun p=>H9 p.2)=true->H9 (lk σ t)=true:=by
 intro σ
 induction σ with
 |nil=>intro _;rfl
 |cons p r ih=>
  intro h;obtain⟨s,d⟩:=p;simp only[dP,aR]at h;simp only[lk];split
  ·exact h.1
  ·exact ih h.2
def Em(n:Nat)(j:Nat)(o:Ob):Bool:=match o with
 | .gone=>true
 | .box cells=>cells.all H9
 | .Bq _ _=>j==0
 | .row .uq _ _ _=>true
 | .row (.ho _ _) _ _ _=>true
 | .row .cl _ _ _=>true
 | .mp _=>true
 | .tf _ _ _=>j==n
 |_=>false
def Te(n:Nat):Nat->bY->Bool
 |_,[]=>true
 |j,o::H=>Em n j o&&Te n (j+1) H
theorem QS{n:Nat}:∀ {H:bY} {k j:Nat} {o:Ob},Te n k H=true->H[j]?=some o->Em n (k+j) o=true:=by
 intro H
 induction H with
 |nil=>intro k j o _ h;simp at h
 |cons x H ih=>
  intro k j o h hj;simp only[Te,aR]at h;cases j with
  |zero=>simp at hj;subst hj;exact h.1
  |succ j=>have:=ih h.2 (by simpa using hj);rwa[show k+1+j=k+(j+1)by omega]at this
theorem Rd.again{w0 w:World}{c:Value}{QI NB:List aQ}{Xy Xz:aa}(h0:Rd w0 c (.sl QI) Xy)(h1:Rd w c (.sl NB) Xz)(hf:D.iN NB=true):∃bs,Rd w c (.sl NB) bs/\∀b∈bs,b∈Xy:=by
 have key:∀(d:D),d=.sl NB->Rd w c d Xz->∃bs,Rd w c (.sl NB) bs/\∀b∈bs,b∈Xy:=by
  intro d hd h1;cases h1<;>simp only[reduceCtorEq,D.sl.injEq]at hd
  case zq=>subst hd;exact⟨[],.zq,by simp⟩
  case qn a cap hc=>subst hd;exact⟨[],.qn a cap hc,by simp⟩
  case sl b off cap sz rows cs bs h10 h2 h3 h4 h5 h6=>
   subst hd;have Nk:bs=[]:=h6.flat (by
    unfold D.iN at hf;rw[aj]at hf⊢;intro d hd;obtain⟨r,hr,OQ⟩:=qP.1 hd;exact aj.1 (hf r hr) d OQ)
   subst Nk;cases rows with
   |nil=>exact⟨[],.qn _ cap h3,by simp⟩
   |cons r rs=>
    refine⟨[b],.sl b off cap sz (r::rs) cs [] h10 h2 h3 h4 h5 h6,fun x hx=>?_⟩;rw[cG.1 hx];have Zi:∀(v:Value) (d:D),v=.slice (some ⟨b,off,none⟩) (r::rs).length cap->d=.sl QI->Rd w0 v d Xy->b∈Xy:=by
     intro v d hv hd h;cases h<;>simp only[reduceCtorEq,D.sl.injEq,Value.slice.injEq,ay,Addr.mk.injEq]at hd hv
     case zq=>exact hv.1.elim
     case qn a cap' _=>simp at hv
     case sl b' off' cap' sz' dw cs' bs' _ _ _ _ _ _=>
      obtain⟨⟨rfl,_⟩,_⟩:=hv;simp
    exact Zi _ _ rfl rfl h0
 exact key _ rfl h1
theorem eN.aCO(hs:eN Γ st κ Θ a w){n e sz:Nat}{EW:List aQ}(hH:st.H[n]?=some (.tf e sz EW))(he:WX e=true){u:Value}{QI rows:List aQ}{fl:aQ}(hO:YL Γ u QI)(hrw:D.iN rows=true)(h0:st.H[0]?=some (.Bq (.sl rows::fl) u))
 (hfl:fl.all D.flat=true) (hσ:(st.σ.all fun p=>H9 p.2)=true) (hT:Te n 0 st.H=true):
 ∃Θ',eN Γ ⟨st.σ,st.H.set n (.row .uq e sz EW)⟩ κ Θ' a w:=by
 obtain⟨ρ,hu⟩:=hs.vG;obtain⟨v,bs,hkn,hfull,hlt,hnd,hρ⟩:=hu.more n _ hH;have hnl:n<st.H.length:=(aJ.1 hH).1;rcases hfull with⟨h,_⟩|⟨fT,cs2,ns,a5n,p1,p2,p3,p4,rfl⟩
 ·cases h
 cases a5n;simp only at p1 p2 p3;obtain⟨Sm,aBN,aBO⟩:=bW.1 hnd;let Θ':Nat->Nat:=fun b=>if v.ownBlock=some b then n+2 else Θ b
 let ρ':Nat->Nat:=fun b=>if v.ownBlock=some b then 0 else ρ b
 have R5:∀b,v.ownBlock=some b->ρ b=n+1:=fun b hb=>hρ b (aZ.2 (.inl (by simp[hb])))
 have a8C:∀b,v.ownBlock=some b->Θ b=0:=fun b hb=>(hu.free b (by rw[R5 b hb];omega)).1
 have Q9:∀b,v.ownBlock=some b->BB Γ b:=fun b hb=>by
  rcases(hu.free b (by rw[R5 b hb];omega)).2.1 with h|h
  ·exact h
  ·exact absurd h (hO.1 b)
 have EP:∀b,Θ b≠0->Θ' b=Θ b:=fun b hb=>b9 fun h=>hb (a8C b h)
 have Vj:∀b,ρ b≠n+1->Θ' b=Θ b/\ρ' b=ρ b:=fun b hb=>⟨b9 fun h=>hb (R5 b h),b9 fun h=>hb (R5 b h)⟩
 have key:∀(j:Nat) x,(st.H.set n (.row .uq e sz EW))[j]?=some x->(j=n/\x=.row .uq e sz EW)\/(j≠n/\st.H[j]?=some x):=fun j x hj=>HP j x hj
 have R4:∀b∈ns,Θ b=0/\v.ownBlock≠some b:=fun b hb=>⟨(hu.free b (by rw[hρ b (aZ.2 (.inr hb))];omega)).1,fun h=>aBO b (by simp[h]) b hb rfl⟩
 have hrow:∀(j e2 PC:Nat) fT,j≠n->st.H[j]?=some (.row .uq e2 PC fT)->∃v cs bs,κ j=some v/\w.ownsRow 0 e2 PC v fT.length cs/\yS w (vb e2) 0 cs fT.flatten bs/\bs.Nodup/\∀b∈bs,ρ' b=j+1/\Θ' b=0:=by
  intro j e2 PC fT hj hjH;obtain⟨v2,c2,b2,q1,q2,q3,q4,q5⟩:=hu.rows j e2 PC fT hjH;refine⟨v2,c2,b2,q1,q2,q3,q4,fun b hb=>?_⟩;have hb':=q5 b hb;obtain⟨r1,r2⟩:=Vj b (by omega);exact⟨r2.trans hb',r1.trans (hu.free b (by omega)).1⟩
 have hho:∀(j p m e2 PC:Nat) fT,j≠n->st.H[j]?=some (.row (.ho p m) e2 PC fT)->∃v cs bs,κ j=some v/\w.ownsRow 0 e2 PC v fT.length cs/\yS w (vb e2) 0 cs fT.flatten bs/\bs.Nodup/\(∀b∈bs,ρ' b=j+1/\Θ' b=0)/\∃c,cs[p]?=some c/\κ m=some c:=by
  intro j p m e2 PC fT hj hjH;obtain⟨v2,c2,b2,q1,q2,q3,q4,q5,q6⟩:=hu.more j _ hjH;refine⟨v2,c2,b2,q1,q2,q3,q4,fun b hb=>?_,q6⟩;have hb':=q5 b hb;obtain⟨r1,r2⟩:=Vj b (by omega);exact⟨r2.trans hb',r1.trans (hu.free b (by omega)).1⟩
 refine⟨Θ',hs.defers,hs.size,fun i hi=>hs.tR i (by simpa using hi),hs.s9,fun t=>?_,fun j o hj=>?_,fun b hb=>?_,fun b hb hx=>?_,fun b hb=>?_,hs.stays,ρ',fun b hb=>?_,fun j e2 PC fT hj=>?_,fun j o hj=>?_⟩
 ·obtain⟨bs,hr,_⟩:=hs.slot t;have:=Xh hr (a3f hσ);subst this;exact⟨[],hr,by simp⟩
 ·rcases key j o hj with⟨rfl,rfl⟩|⟨hjn,hj'⟩
  ·exact⟨p1,p2,v,cs2,ns,hkn,p3,p4,fun g hg=>bL hg,fun b hb=>(b9 (R4 b hb).2).trans (R4 b hb).1⟩
  ·have CK:=hs.ob j o hj';have UO:=QS hT hj';cases o with
   |gone=>trivial
   |tk r=>simp[Em]at UO
   |Pf s r u=>simp[Em]at UO
   |hole s r u p q=>simp[Em]at UO
   |tf e2 s2 r=>simp only[Em,cS,cZ]at UO;exact absurd UO hjn
   |mp kv=>
    obtain⟨g,es,c,q1,q2,q3,q4⟩:=CK;exact⟨g,es,c,q1,q2,(EP g (by omega)).trans q3,q4⟩
   |box cells=>
    obtain⟨g,cs,T,q1,q2,q3,bs,q4,q5⟩:=CK;have:=PE q4 UO;subst this;exact⟨g,cs,T,q1,q2,(EP g (by omega)).trans q3,[],q4,by simp⟩
   |Bq cells u2=>
    simp only[Em,cS,cZ]at UO;subst UO;rw[h0]at hj';cases hj';obtain⟨hK,g,cs,T,q1,q2,q3,bs,q4,q5⟩:=CK;obtain⟨_,c,Xy,r1,r2,r3⟩:=hO;obtain⟨z1,z2⟩:=hK.2 c r1 g cs T q1 q2;refine⟨hK,g,cs,T,q1,q2,(EP g (by omega)).trans q3,?_⟩;have hb0:∀b∈Xy,w.heap[b]?=Γ.W0.heap[b]?/\Θ' b=0:=by
     intro b hb;obtain⟨s1,s2,s3⟩:=r3 b hb;refine⟨hs.stays.block b s1 s2,?_⟩;have hne:¬v.ownBlock=some b:=fun h=>by
      rcases Q9 b h with h|h
      ·omega
      ·exact s2 h
     exact(b9 hne).trans ((hs.old b s1 s2).1.trans s3)
    rw[<-nr]at z2;generalize cs.toList=l at q4 z2;cases q4 with
    |cons x xs _ _ b1 b2 k1 k2 k3=>
     simp at z2;subst z2;have r2w:Rd w x (.sl _) Xy:=r2.keep fun b hb=>(hb0 b hb).1
     obtain⟨bs4,r4,r5⟩:=r2w.again (by cases k2 with|pure h=>exact h) hrw;have Qz:b2=[]:=PE k3 (by
      rw[aj]at hfl⊢;intro d hd;have:=hfl d hd;cases d<;>first|rfl| (simp[D.flat]at this))
     subst Qz;exact⟨bs4++[],.cons _ _ _ _ _ _ k1 (.pure r4) k3,fun b hb=>(hb0 b (r5 b (by simpa using hb))).2⟩
   |row k e2 PC fT=>
    obtain⟨q1,q2,v2,cs3,bs3,q3,q4,q5,q6,q7⟩:=CK;cases k with
    |sh=>simp[Em]at UO
    |mv m=>simp[Em]at UO
    |cl=>
     refine⟨q1,q2,v2,cs3,bs3,q3,q4,q5,fun g hg=>(EP g (by rw[q6 g hg];omega)).trans (q6 g hg),q7.1,fun b hb=>⟨(EP b (by rw[(q7.2.1 b hb).1];omega)).trans (q7.2.1 b hb).1,(q7.2.1 b hb).2⟩,q7.2.2⟩
    |uq=>
     obtain⟨v4,c4,b4,r1,r2,r3,r4,r5⟩:=hrow j e2 PC fT hjn hj';rw[q3]at r1;cases r1;exact⟨q1,q2,v2,c4,b4,q3,r2,r3.rd,fun g hg=>(EP g (by rw[q6 g hg];omega)).trans (q6 g hg),fun b hb=>(r5 b hb).2⟩
    |ho p m=>
     obtain⟨v4,c4,b4,r1,r2,r3,r4,r5,_⟩:=hho j p m e2 PC fT hjn hj';rw[q3]at r1;cases r1;exact⟨q1,q2,v2,c4,b4,q3,r2,r3.rd,fun g hg=>(EP g (by rw[q6 g hg];omega)).trans (q6 g hg),fun b hb=>(r5 b hb).2⟩
 ·simp only[Θ']at hb;split at hb
  ·rename_i h;exact hlt b (aZ.2 (.inl (by simp[h])))
  ·exact hs.own b hb
 ·have hne:¬v.ownBlock=some b:=fun h=>by
   rcases Q9 b h with h|h
   ·omega
   ·exact hx h
  have e1:Θ' b=Θ b:=b9 hne;rw[e1];exact hs.old b hb hx
 ·by_cases h:v.ownBlock=some b
  ·exact Q9 b h
  ·have e1:Θ' b=Θ b:=b9 h;rw[e1]at hb;exact hs.mine b hb
 ·by_cases h:v.ownBlock=some b
  ·exact absurd (bL h) hb
  ·have e1:Θ' b=Θ b:=b9 h;have e2:ρ' b=ρ b:=b9 h;rw[e2]at hb;rw[e1];exact hu.free b hb
 ·rcases key j _ hj with⟨rfl,h1⟩|⟨hjn,hj'⟩
  ·simp only[Ob.row.injEq,sn]at h1;obtain⟨rfl,rfl,rfl⟩:=h1;exact⟨v,cs2,ns,hkn,p3,.of p4 (yy (Dg he)),aBN,fun b hb=>(b9 (R4 b hb).2).trans (hρ b (aZ.2 (.inr hb)))⟩
  ·obtain⟨v4,c4,b4,r1,r2,r3,r4,r5⟩:=hrow j e2 PC fT hjn hj';exact⟨v4,c4,b4,r1,r2,r3,r4,fun b hb=>(r5 b hb).1⟩
 ·rcases key j o hj with⟨rfl,rfl⟩|⟨hjn,hj'⟩
  ·exact Nb.AI rfl
  ·have UO:=QS hT hj';cases o with
   |row k e2 PC fT=>
    cases k with
    |mv m=>simp[Em]at UO
    |ho p m=>
     obtain⟨v4,c4,b4,r1,r2,r3,r4,r5,r6⟩:=hho j p m e2 PC fT hjn hj';exact⟨v4,c4,b4,r1,r2,r3,r4,fun b hb=>(r5 b hb).1,r6⟩
    |_=>trivial
   |tk r=>simp[Em]at UO
   |tf e2 s2 r=>simp only[Em,cS,cZ]at UO;exact absurd UO hjn
   |_=>trivial
theorem a1q{c:Code}{Q:Exit->St->Prop}{m e sz i off e' sz':Nat}{rows EW:List aQ}{r:aQ}{u:Value}{QI NB:List aQ}{fl:aQ}(hO:YL Γ u QI)(hrw:D.iN NB=true)(hr:rows[i]?=some r)(hH:st.H[m]?=some (.row .uq e sz rows))(hd:r[off]?=some (.sl EW))(h0:st.H[0]?=some (.Bq (.sl NB::fl) u))
 (UD:Wz e sz=true) (hf:vb e off=some (e',sz')) (he:WX e'=true) (hfl:fl.all D.flat=true) (hσ:(st.σ.all fun p=>H9 p.2)=true) (hT:Te st.H.length 0 (st.H.set m (.row (.ho (i*sz+off) st.H.length) e sz (rows.set i (r.set off .any)))++[.tf e' sz' EW])=true)
 (h:AW P Γ c Q ⟨st.σ,st.H.set m (.row (.ho (i*sz+off) st.H.length) e sz (rows.set i (r.set off .any)))++[.row .uq e' sz' EW]⟩):AW P Γ c Q st:=by
 intro κ Θ a w hs;obtain⟨κ1,hs1⟩:=hs.a7g hH hr hd UD hf;have hlen:(st.H.set m (.row (.ho (i*sz+off) st.H.length) e sz (rows.set i (r.set off .any)))).length=st.H.length:=jQ;have hm0:m≠0:=fun h=>by subst h;rw[hH]at h0;cases h0
 have h0l:0<st.H.length:=(aJ.1 h0).1;obtain⟨Θ2,hs2⟩:=hs1.aCO (n:=st.H.length) (e:=e') (sz:=sz') (EW:=EW) (by rw[bE (by omega),hlen];simp) he hO hrw (fl:=fl) (by rw[bA (by omega),cJ hm0];exact h0) hfl hσ hT;have e1:(st.H.set m (.row (.ho (i*sz+off) st.H.length) e sz (rows.set i (r.set off .any)))++[Ob.tf e' sz' EW]).set st.H.length (.row .uq e' sz' EW)=st.H.set m (.row (.ho (i*sz+off) st.H.length) e sz (rows.set i (r.set off .any)))++[.row .uq e' sz' EW]:=by
  rw[nv _ _ (by omega),hlen];simp
 rw[e1]at hs2;exact h κ1 Θ2 a w hs2
end
open Go.RowKit Go.Proofs Tryz
structure aC where
 rel:Bytes
 args:aH
 deriving DecidableEq
structure aV where
 var:Bytes
 value:Bytes
 deriving DecidableEq
structure aP where
 kind:Int
 pat:aC
 left:Bytes
 right:Bytes
 deriving DecidableEq
structure Action where
 kind:Int
 pat:aC
 deriving DecidableEq
structure aK where
 name:Bytes
 prio:Int
 conds:List aP
 cY:List Action
 deriving DecidableEq
structure aO where
 facts:List aC
 bind:List aV
 deriving DecidableEq
structure bM where
 rule:Bytes
 facts:List aC
 bind:List aV
 deriving DecidableEq
structure aX where
 shape:aC
 facts:List aC
 deriving DecidableEq
structure Node where
 parent:Int
 cond:aP
 cM:Int
 tokens:List aO
 deriving DecidableEq
structure aG where
 rules:List aK
 ends:bH
 az:List aX
 nodes:List Node
 facts:List aC
 br:Int
 deriving DecidableEq
structure dL where
 fact:aC
 time:Int
 deriving DecidableEq
structure aAU where
 rule:Bytes
 times:bH
 deriving DecidableEq
structure aAT where
 aEa:bM
 prio:Int
 times:bH
 spec:Int
 order:Int
 deriving DecidableEq
structure cQ where
 b:bH
 i:Int
 h:Int
 deriving DecidableEq
abbrev tx(s:Bytes):List D:=[.str s]
abbrev gm(n:Int):List D:=[.int .i64 n]
abbrev bx(b:Bool):List D:=[.bool b]
abbrev yx(n:Int):List D:=[.int .u8 n]
abbrev dT(l:List Bytes):D:=.sl (l.map tx)
abbrev dI(l:List Int):D:=.sl (l.map gm)
abbrev aC.c(x:aC):List D:=[.str x.rel,dT x.args]
abbrev aV.c(x:aV):List D:=[.str x.var,.str x.value]
abbrev aP.c(x:aP):List D:=[.int .i64 x.kind,.str x.pat.rel,dT x.pat.args,.str x.left,.str x.right]
abbrev Action.c(x:Action):List D:=[.int .i64 x.kind,.str x.pat.rel,dT x.pat.args]
abbrev aK.c(x:aK):List D:=[.str x.name,.int .i64 x.prio,.sl (x.conds.map aP.c),.sl (x.cY.map Action.c)]
abbrev aO.c(x:aO):List D:=[.sl (x.facts.map aC.c),.sl (x.bind.map aV.c)]
abbrev bM.c(x:bM):List D:=[.str x.rule,.sl (x.facts.map aC.c),.sl (x.bind.map aV.c)]
abbrev aX.c(x:aX):List D:=[.str x.shape.rel,dT x.shape.args,.sl (x.facts.map aC.c)]
abbrev Node.c(x:Node):List D:=[.int .i64 x.parent,.int .i64 x.cond.kind,.str x.cond.pat.rel,dT x.cond.pat.args,.str x.cond.left,.str x.cond.right,.int .i64 x.cM,.sl (x.tokens.map aO.c)]
abbrev aG.c(x:aG):List D:=[.sl (x.rules.map aK.c),dI x.ends,.sl (x.az.map aX.c),.sl (x.nodes.map Node.c),.sl (x.facts.map aC.c),.int .i64 x.br]
abbrev dL.c(x:dL):List D:=[.str x.fact.rel,dT x.fact.args,.int .i64 x.time]
abbrev cQ.c(x:cQ):List D:=[.sl (x.b.map yx),.int .i64 x.i,.int .i64 x.h]
def xy(fn:Func):Code:=match fn.body with
 |some c=>c
 |none=>.skip
theorem mix:prog.follows .mixedOrders=true:=by kernel_rfl
theorem aAR{P:Program}{Γ:vn}{Q:Exit->St->Prop}{N N':Nat->St->Prop}{c:Code}{K K0:xU}{st:St}(hd:depth K=depth K0)(hN:∀d,d<depth K0->N' d=N d)(t:AW P Γ c (KQ P Γ N Q K) st):AW P Γ c (KQ P Γ N' Q K) st:=by
 rw[S6 (N:=N') (N':=N) K (fun d h=>hN d (by omega))];exact t
theorem a7V{P:Program}{Γ:vn}{Q:Exit->St->Prop}{c:Code}{s s':St}(h:s=s')(t:AW P Γ c Q s'):AW P Γ c Q s:=by rw[h];exact t
theorem DS{α:Type}{c:α->aQ}(hc:∀x,(c x).all D.flat=true)(l:List α):(l.map c).flatten.all D.flat=true:=by
 induction l with
 |nil=>rfl
 |cons x l ih=>rw[au,gh,List.all_append,hc,ih];rfl
abbrev bT:An:=.b true
abbrev bF:An:=.b false
theorem Good.sh{P:Program}{f:FuncId}{ds:aQ}{d:D}(h:Good P f ds d)(hd:(match d with| .ff _=>false|_=>true)=true:=by kernel_rfl):Good P f ds d.Uv:=by
 refine⟨h.1,fun w Θ args bs h1 h2 h3 h4 h5=>(h.2 w Θ args bs h1 h2 h3 h4 h5).mono ?_⟩;rintro x w' ⟨v,bs',ts,us,rfl,hb,hr,hz,ht,hnd,hfr,hsub⟩;cases hr with
 |v hv=>
  obtain⟨b,q,s⟩:=hv.yR;refine⟨v,b,[],[],rfl,hb,.v (.cell (.pure q)),fun y hy hlt=>?_,by simp,by simp,by simp,by simp⟩;rcases s y hy with h|h
  ·exact hz y h hlt
  ·exact absurd (hfr y h).1 (by omega)
 |ff=>cases hd
theorem zP.yR{w:World}{vs:bp}{ds:aQ}{bs ts us:aa}(h:zP w vs ds bs ts us):∃b,zP w vs (ds.map D.Uv) b [] []/\∀x∈b,x∈bs\/x∈us:=by
 induction h with
 |nil=>exact⟨_,.nil,by simp⟩
 |cons v vs d ds b1 b2 t1 t2 u1 u2 h2 _ ih=>
  obtain⟨b,q,s⟩:=h2.yR;obtain⟨b',q',s'⟩:=ih;refine⟨_,.cons _ _ _ _ b b' [] [] [] [] (.cell (.pure q)) q',fun x hx=>?_⟩;rcases aZ.1 hx with h|h
  ·rcases s x h with h|h<;>simp[h]
  ·rcases s' x h with h|h<;>simp[h]
theorem Good.shT{P:Program}{f:FuncId}{ds es:aQ}(h:Good P f ds (.ff es)):Good P f ds (.ff (es.map D.Uv)):=by
 refine⟨h.1,fun w Θ args bs h1 h2 h3 h4 h5=>(h.2 w Θ args bs h1 h2 h3 h4 h5).mono ?_⟩;rintro x w' ⟨v,bs',ts,us,rfl,hb,hr,hz,ht,hnd,hfr,hsub⟩;cases hr with
 |v hv=>
  cases hv with
  |cell hc=>cases hc with
   |pure hp=>cases hp
 |ff vs _ _ _ _ hvs=>
  obtain⟨b,q,s⟩:=hvs.yR;refine⟨_,b,[],[],rfl,hb,.ff _ _ _ _ _ q,fun y hy hlt=>?_,by simp,by simp,by simp,by simp⟩;rcases s y hy with h|h
  ·exact hz y h hlt
  ·exact absurd (hfr y h).1 (by omega)
structure Pre(A:List An)(p:Fb):Prop where
 h:Ag p
theorem aW:Pre [] []:=⟨trivial⟩
theorem Ag.join{p q:Fb}(h:Ag p)(k:Ag q):Ag (p++q):=by
 induction p with
 |nil=>exact k
 |cons x p ih=>exact⟨h.1,ih h.2⟩
theorem Pre.ext{A:gI}{p:Fb}(o:Pre A p)(B:gI){q:Fb}(hq:Ag q):Pre (A++B) (p++q):=⟨o.h.join hq⟩
section
variable{A:gI}{p:Fb}
theorem Pre.b(o:Pre A p){c v:Bool}(h:c=v):Pre (A++[.b v]) (p++[c=v]):=o.ext _ ⟨h,trivial⟩
theorem Pre.r(o:Pre A p)(n:Nat){c v:Bool}(h:c=v):Pre (A++List.replicate n (.b v)) (p++List.replicate n (c=v)):=o.ext _ (by
 induction n with
 |zero=>trivial
 |succ n ih=>exact⟨h,ih⟩)
theorem Pre.T(o:Pre A p)(n:Nat):Pre (A++List.replicate n bT) (p++List.replicate n (true=true)):=o.r n rfl
theorem Pre.F(o:Pre A p)(n:Nat):Pre (A++List.replicate n bF) (p++List.replicate n (false=false)):=o.r n rfl
theorem Pre.g(o:Pre A p){f:FuncId}{ds:aQ}{d:D}(h:Good prog f ds d):Pre (A++[.d d]) (p++[Good prog f ds d]):=o.ext _ ⟨h,trivial⟩
theorem Pre.gs(o:Pre A p){f:FuncId}{ds:aQ}{d:D}(h:Good prog f ds d):Pre (A++[.ds d]) (p++[Good prog f ds d]):=o.ext _ ⟨h,trivial⟩
theorem Pre.hp(o:Pre A p)(nz:List (List (Option (Nat×Nat)))){f:FuncId}{cells cells' ds:aQ}{d:D}(h:iL prog f cells cells' ds d):Pre (A++[.gp nz cells' d]) (p++[iL prog f cells cells' ds d]):=o.ext _ ⟨h,trivial⟩
theorem Pre.hf(o:Pre A p)(nz:List (List (Option (Nat×Nat)))){f:FuncId}{ds:aQ}{d:D}(h:Jx prog f ds d):Pre (A++[.gf nz d]) (p++[Jx prog f ds d]):=o.ext _ ⟨h,trivial⟩
theorem Pre.hn(o:Pre A p){f:FuncId}{ds cells:aQ}(h:Jy prog f ds cells):Pre (A++[.dn cells]) (p++[Jy prog f ds cells]):=o.ext _ ⟨h,trivial⟩
theorem Pre.w(o:Pre A p){q:Prop}(h:q):Pre (A++[]) (p++[q]):=o.ext _ ⟨h,trivial⟩
theorem Pre.a(o:Pre A p)(B:gI):Pre (A++B) (p++[]):=o.ext _ (q:=[]) trivial
theorem Pre.l(o:Pre A p){n:Int}{rows:List aQ}{r:aQ}{sz:Nat}(h:0<=n/\rows[n.toNat]?=some r/\r.length=sz):Pre (A++[.row r]) (p++[0<=n/\rows[n.toNat]?=some r/\r.length=sz]):=o.ext _ ⟨h,trivial⟩
theorem Pre.i(o:Pre A p){sz sz' m k:Nat}{n:Int}(h:sz=sz'/\n=((k:Nat):Int)/\k<m):Pre (A++[.ix k]) (p++[sz=sz'/\n=((k:Nat):Int)/\k<m]):=o.ext _ ⟨h,trivial⟩
theorem Pre.o(o:Pre A p)(sz n:Nat)(k:RK){rows:List aQ}{i:Nat}{r:aQ}(h:rows[i]?=some r)(hk:k.RV=true:=by kernel_rfl)(hn:Nat.ble n sz=true:=by kernel_rfl):Pre (A++[.row r]) (p++[sz=sz/\k.RV=true/\rows[i]?=some r/\n<=sz]):=o.ext _ ⟨⟨rfl,hk,h,kO hn⟩,trivial⟩
theorem Pre.c(o:Pre A p){s:Bytes}{i:Int}{b:UInt8}(h:fy s i=some b):Pre (A++[.ch b]) (p++[0<=i/\s[i.toNat]?=some b]):=o.ext _ ⟨a5M h,trivial⟩
theorem Pre.lt{α:Type}{l xs:List α}{i:Nat}{x:α}(o:Pre A p)(f:α->aQ)(h:l.drop i=x::xs):Pre (A++[bT]) (p++[decide ((i:Int)<((l.map f).length:Int))=true]):=o.b (Zs f (drop_cons h).2.1)
theorem Pre.ge{α:Type}{l:List α}{i:Nat}(o:Pre A p)(f:α->aQ)(h:l.drop i=[]):Pre (A++[bF]) (p++[decide ((i:Int)<((l.map f).length:Int))=false]):=o.b (XE f (drop_nil h))
end
theorem dc{α:Type}{l:List α}{k:Nat}{x:α}{xs:List α}(h:l.drop k=x::xs):l[k]?=some x:=(drop_cons h).1
theorem dn{α:Type}{l:List α}{k:Nat}{x:α}{xs:List α}(h:l.drop k=x::xs):l.drop (k+1)=xs:=(drop_cons h).2.2
theorem iS{α:Type}{l:List α}{k:Nat}{x:α}{xs:List α}(h:l.drop k=x::xs)(hn:l.length<=maxLen):IntKind.i64.wrap ((k:Int)+1)=((k+1:Nat):Int):=ZI (drop_cons h).2.1 hn
theorem U1{n:Int}{m:Nat}(h:(decide (0<=n)&&decide (n.toNat<=m))=true):n=((n.toNat:Nat):Int)/\n.toNat<=m:=by
 simp only[aR,bC]at h;exact⟨by omega,h.2⟩
theorem mA{α β:Type}(f:α->β):(∀a b:List α,(a++b).map f=a.map f++b.map f)/\(∀(x:α) (a:List α),(x::a).map f=f x::a.map f)/\([]:List α).map f=[]/\(∀(l:List α) (i:Nat) (x:α),(l.set i x).map f=(l.map f).set i (f x))/\(∀(n:Nat) (x:α),(List.replicate n x).map f=List.replicate n (f x))/\(∀(l:List α) (n:Nat),(l.take n).map f=(l.map f).take n):=
 ⟨fun _ _=>bD,fun _ _=>rfl,rfl,fun _ _ _=>List.map_set,fun _ _=>List.map_replicate,fun _ _=>bh⟩
section
variable{Γ:vn}{N N1:Nat->St->Prop}{fn:Func}{k:Kd}{nt:Nat}{A:gI}{p:Fb}{c c':Code}{K K' K0:xU}{st wz:St}
theorem Pre.ret(o:Pre A p)(hnt:Γ.nt=nt)(h:go prog (k.rf prog fn) nt 2000 (.run c) K st A=some (.ret k.d0,p):=by kernel_rfl):AW prog Γ c (KQ prog Γ N (k.qq prog fn) K) st:=Nv (n:=2000) A _ hnt mix h o.h rfl
theorem Pre.rts(o:Pre A p)(hnt:Γ.nt=nt)(d:D)(hd:d=k.d0)(h:go prog (k.rf prog fn) nt 2000 (.run c) K st A=some (.ret d,p):=by kernel_rfl):AW prog Γ c (KQ prog Γ N (k.qq prog fn) K) st:=Nv (n:=2000) A _ hnt mix h o.h hd
theorem Pre.cs(o:Pre A p)(hnt:Γ.nt=nt){n:Nat}(hS:N1 (depth K')=VC prog Γ c' (KQ prog Γ N (k.qq prog fn) K') n)(S:St)(e:S=wz)(t:VC prog Γ c' (KQ prog Γ N (k.qq prog fn) K') n wz)
 (h:go prog (k.rf prog fn) nt 2000 (.run c) K st A=some (.cont (depth K') S,p):=by kernel_rfl):AW prog Γ c (KQ prog Γ N1 (k.qq prog fn) K) st:=Nv (n:=2000) A _ hnt mix h o.h ((congrFun hS _).mpr (by rw[e];exact t))
theorem Pre.cf(o:Pre A p)(hnt:Γ.nt=nt){n:Nat}(hS:N1 (depth K')=VC prog Γ c' (KQ prog Γ N (k.qq prog fn) K') n)(t:VC prog Γ c' (KQ prog Γ N (k.qq prog fn) K') n wz)
 (h:go prog (k.rf prog fn) nt 2000 (.run c) K st A=some (.cont (depth K') wz,p):=by kernel_rfl):AW prog Γ c (KQ prog Γ N1 (k.qq prog fn) K) st:=o.cs hnt hS _ rfl t h
theorem Pre.ct(o:Pre A p)(hnt:Γ.nt=nt){n i:Nat}{S:Int->St}(hS:N1 (depth K')=VC prog Γ c' (KQ prog Γ N (k.qq prog fn) K') n)(hi:IntKind.i64.wrap ((i:Int)+1)=((i+1:Nat):Int))(t:VC prog Γ c' (KQ prog Γ N (k.qq prog fn) K') n (S ((i+1:Nat):Int)))
 (h:go prog (k.rf prog fn) nt 2000 (.run c) K st A=some (.cont (depth K') (S (IntKind.i64.wrap ((i:Int)+1))),p):=by kernel_rfl):AW prog Γ c (KQ prog Γ N1 (k.qq prog fn) K) st:=o.cs hnt hS _ (congrArg S hi) t h
theorem Pre.exs(o:Pre A p)(hnt:Γ.nt=nt)(hN:∀d,d<depth K0->N1 d=N d)(S:St)(e:S=wz)(t:AW prog Γ c' (KQ prog Γ N (k.qq prog fn) K') wz)(hd:depth K'=depth K0:=by kernel_rfl)(h:go prog (k.rf prog fn) nt 2000 (.run c) K st A=some (.at_ c' K' S,p):=by kernel_rfl):
 AW prog Γ c (KQ prog Γ N1 (k.qq prog fn) K) st:=Nv (n:=2000) A _ hnt mix h o.h (aAR (K0:=K0) hd hN (by rw[e];exact t))
theorem Pre.ex(o:Pre A p)(hnt:Γ.nt=nt)(hN:∀d,d<depth K0->N1 d=N d)(t:AW prog Γ c' (KQ prog Γ N (k.qq prog fn) K') wz)(hd:depth K'=depth K0:=by kernel_rfl)(h:go prog (k.rf prog fn) nt 2000 (.run c) K st A=some (.at_ c' K' wz,p):=by kernel_rfl):
 AW prog Γ c (KQ prog Γ N1 (k.qq prog fn) K) st:=o.exs hnt hN _ rfl t hd h
theorem Pre.lps(o:Pre A p)(hnt:Γ.nt=nt){n:Nat}(S:St)(e:S=wz)(t:VC prog Γ c' (KQ prog Γ N (k.qq prog fn) K') n wz)(h:go prog (k.rf prog fn) nt 2000 (.run c) K st A=some (.lp c' K' S,p):=by kernel_rfl):
 AW prog Γ c (KQ prog Γ N (k.qq prog fn) K) st:=Nv (n:=2000) A _ hnt mix h o.h (a7V e (a1o t))
theorem Pre.lp(o:Pre A p)(hnt:Γ.nt=nt){n:Nat}(t:VC prog Γ c' (KQ prog Γ N (k.qq prog fn) K') n wz)(h:go prog (k.rf prog fn) nt 2000 (.run c) K st A=some (.lp c' K' wz,p):=by kernel_rfl):
 AW prog Γ c (KQ prog Γ N (k.qq prog fn) K) st:=o.lps hnt _ rfl t h
end
abbrev lc(f:Func)(p:List Nat):Code:=(dig (xy f) p []).1
abbrev lk'(f:Func)(p:List Nat):List Fr:=(dig (xy f) p []).2
abbrev Ax(Γ:vn)(N:Nat->St->Prop)(f:Func)(k:Kd)(p:List Nat)(s:St):Prop:=AW prog Γ (lc f p) (KQ prog Γ N (k.qq prog f) (lk' f p)) s
abbrev Ar(Γ:vn)(N:Nat->St->Prop)(f:Func)(k:Kd)(p:List Nat)(n:Nat)(s:St):Prop:=VC prog Γ (lc f (p++[0])) (KQ prog Γ N (k.qq prog f) (lk' f p)) n s
theorem gd{f:FuncId}{fn:Func}{ds:aQ}{d:D}(hf:prog.funcs[f]?=some fn)(nz:List (List (Option (Nat×Nat))))(nt:Nat)(h:(∀d∈ds,gb d)->∀Γ:vn,Γ.nt=nt->AW prog Γ (xy fn) (KQ prog Γ (fun _ _=>False) ((Kd.q nz d).qq prog fn) []) ⟨xw 0 ds,[]⟩)
 (hb:fn.body=some (xy fn):=by kernel_rfl) (hn:(fn.name== "runtime.NumGoroutine")=false:=by kernel_rfl) (hl:Nat.ble ds.length fn.ntmps=true:=by kernel_rfl) (ht:fn.ntmps=nt:=by kernel_rfl):Good prog f ds d:=
 Good.of hf hb hn (kO hl) fun hr Γ hΓ=>h hr Γ (hΓ.trans ht)
theorem gdN{f:FuncId}{fn:Func}{ds cells:aQ}(hf:prog.funcs[f]?=some fn)(nt:Nat)(h:(∀d∈ds,gb d)->∀Γ:vn,Γ.nt=nt->AW prog Γ (xy fn) (KQ prog Γ (fun _ _=>False) ((Kd.n cells).qq prog fn) []) ⟨xw 0 ds,[]⟩)
 (hb:fn.body=some (xy fn):=by kernel_rfl) (hn:(fn.name== "runtime.NumGoroutine")=false:=by kernel_rfl) (hl:Nat.ble ds.length fn.ntmps=true:=by kernel_rfl) (ht:fn.ntmps=nt:=by kernel_rfl):Jy prog f ds cells:=
 Jy.of hf hb hn (kO hl) fun hr Γ hΓ=>h hr Γ (hΓ.trans ht)
theorem Jt{f:FuncId}{fn:Func}{cells cells' ds:aQ}{d:D}(hf:prog.funcs[f]?=some fn)(nz:List (List (Option (Nat×Nat))))(nt:Nat)(A7 Mq:aQ)(obs:bY)
 (h:(∀x∈(D.agg cells::ds).map D.Uv,gb x)->∀(v0:Value) (Γ:vn),Γ.nt=nt->AW prog Γ (xy fn) (KQ prog Γ (fun _ _=>False) ((Kd.p nz v0 cells' d).qq prog fn) []) ⟨xw 0 (.ptr 0 0::Mq),.Bq A7 v0::obs⟩)
 (hI:AG 1 (.agg cells::ds)=(.agg A7::Mq,obs):=by kernel_rfl) (hb:fn.body=some (xy fn):=by kernel_rfl) (hn:(fn.name== "runtime.NumGoroutine")=false:=by kernel_rfl) (hl:Nat.ble (Mq.length+1) fn.ntmps=true:=by kernel_rfl) (ht:fn.ntmps=nt:=by kernel_rfl):iL prog f cells cells' ds d:=
 iL.of hf hb hn hI (kO hl) fun hr v0 Γ hΓ _=>h hr v0 Γ (hΓ.trans ht)
theorem aAh{f:FuncId}{fn:Func}{rows:List aQ}{x1 x2:D}{cells' ds:aQ}{d:D}(hf:prog.funcs[f]?=some fn)(nz:List (List (Option (Nat×Nat))))(nt:Nat)(Mq:aQ)
 (h:(∀x∈(D.agg [.sl rows,x1,x2]::ds).map D.Uv,gb x)->∀(v0:Value) (Γ:vn),Γ.nt=nt->YL Γ v0 rows->AW prog Γ (xy fn) (KQ prog Γ (fun _ _=>False) ((Kd.p nz v0 cells' d).qq prog fn) []) ⟨xw 0 (.ptr 0 0::Mq),[.Bq [.sl rows,x1,x2] v0]⟩)
 (hI:AG 1 (.agg [.sl rows,x1,x2]::ds)=(.agg [.sl rows,x1,x2]::Mq,[]):=by kernel_rfl) (hb:fn.body=some (xy fn):=by kernel_rfl) (hn:(fn.name== "runtime.NumGoroutine")=false:=by kernel_rfl) (hl:Nat.ble (Mq.length+1) fn.ntmps=true:=by kernel_rfl) (ht:fn.ntmps=nt:=by kernel_rfl):iL prog f [.sl rows,x1,x2] cells' ds d:=
 iL.of hf hb hn hI (kO hl) fun hr v0 Γ hΓ hO=>h hr v0 Γ (hΓ.trans ht) (hO rfl rfl rows rfl)
theorem gdF{f:FuncId}{fn:Func}{ds:aQ}{d:D}(hf:prog.funcs[f]?=some fn)(nz:List (List (Option (Nat×Nat))))(nt:Nat)(Mq:aQ)(obs:bY)
 (h:(∀x∈ds.map D.Uv,gb x)->∀(Γ:vn),Γ.nt=nt->AW prog Γ (xy fn) (KQ prog Γ (fun _ _=>False) ((Kd.q nz d).qq prog fn) []) ⟨xw 0 Mq,obs⟩)
 (hI:AG 0 ds=(Mq,obs):=by kernel_rfl) (hb:fn.body=some (xy fn):=by kernel_rfl) (hn:(fn.name== "runtime.NumGoroutine")=false:=by kernel_rfl) (hl:Nat.ble Mq.length fn.ntmps=true:=by kernel_rfl) (ht:fn.ntmps=nt:=by kernel_rfl):Jx prog f ds d:=
 Jx.of hf hb hn hI (kO hl) fun hr Γ hΓ=>h hr Γ (hΓ.trans ht)
theorem a2O(l:bH):D.iN (l.map yx)=true:=by
 unfold D.iN;rw[aj];intro r hr;obtain⟨x,_,rfl⟩:=bt.1 hr;rfl
theorem a44{α:Type}{l:List α}{i:Int}{x:α}(f:α->aQ)(sz:Nat)(h:fy l i=some x){r:aQ}:sz=sz/\i=((i.toNat:Nat):Int)/\i.toNat<((l.map f).set i.toNat r).length:=by
 rw[jQ];exact ed f sz h
theorem a7y{α:Type}{l:List α}{i:Int}{x:α}(f:α->aQ)(r:aQ)(h:fy l i=some x):((l.map f).set i.toNat r)[i.toNat]?=some r:=dR (ed f 0 h).2.2
abbrev aI:=List aC
abbrev aT:=List aV
abbrev ai:=List aO
abbrev aq:=List aK
abbrev ar:=List aP
abbrev bI:=List Node
abbrev bK:=List aX
abbrev cR:=List bM
abbrev eW:=List Action
theorem ke{α:Type}[DecidableEq α][BEq α][LawfulBEq α](a b:α):(a==b)=decide (a=b):=by rw[bw];simp
def qw{α:Type}(w:α->Nat)(l:List α):Nat:=l.length+(l.map w).sum
def tw(s:Bytes):Nat:=s.length
theorem a3k{α:Type}(w:α->Nat):qw w []=0:=rfl
theorem oz{α:Type}(w:α->Nat)(x:α)(l:List α):qw w (x::l)=1+w x+qw w l:=by simp[qw];omega
theorem PK{α:Type}(w:α->Nat)(a b:List α):qw w (a++b)=qw w a+qw w b:=by
 induction a with
 |nil=>simp[qw]
 |cons x a ih=>rw[si,oz,oz,ih];omega
theorem qo{α:Type}(w:α->Nat)(l:List α):l.length<=qw w l:=by unfold qw;omega
theorem oZ{α:Type}{w:α->Nat}{l:List α}{x:α}(h:x∈l):w x+1<=qw w l:=by
 induction l with
 |nil=>cases h
 |cons y l ih=>
  rw[oz];rcases bJ.1 h with rfl|h
  ·omega
  ·have:=ih h;omega
theorem eqL{α:Type}[DecidableEq α]{f:α->α->Option Bool}{a b:List α}{c:α->aQ}(L:Option Bool->List α->Nat->Option Bool)(vz:∀k i,L k [] i=k)
 (vc:∀k x xs i,L k (x::xs) i=(fy b (i:Int)).bind fun y=>(f x y).bind fun r=>bif !r then some false else L k xs (i+1)) (hf:∀x y,f x y=some (decide (x=y))):
 (bif (((a.map c).length:Int) != ((b.map c).length:Int))then some false else L (some true) a 0)=some (decide (a=b)):=by
 by_cases hl:a.length=b.length
 ·have e:(((a.map c).length:Int) != ((b.map c).length:Int))=false:=by simp[hl]
  rw[e];have key:∀(ra rb pa pb:List α),a=pa++ra->b=pb++rb->pa.length=pb.length->L (some true) ra pa.length=some (decide (ra=rb)):=by
   intro ra
   induction ra with
   |nil=>
    intro rb pa pb h1 h2 h3;rw[vz];have:rb=[]:=by
     have:=congrArg List.length h1;have:=congrArg List.length h2;simp at*;apply cc;omega
    subst this;simp
   |cons x xs ih=>
    intro rb pa pb h1 h2 h3;cases rb with
    |nil=>
     exfalso;have:=congrArg List.length h1;have:=congrArg List.length h2;simp at*;omega
    |cons y ys=>
     rw[vc];have e1:fy b (pa.length:Int)=some y:=by
      unfold fy;have:b[pa.length]?=some y:=by rw[h2,h3];simp
      simp[this]
     rw[e1,aA,hf,aA];have:=ih ys (pa++[x]) (pb++[y]) (by rw[h1];simp) (by rw[h2];simp) (by simp[h3]);by_cases hxy:x=y
     ·subst hxy;simp only[Fh,bN,aM];simp only[ax,aS,bf]at this;rw[this];simp
     ·simp[hxy]
  have:=key a b [] [] rfl rfl rfl;simpa using this
 ·have e:(((a.map c).length:Int) != ((b.map c).length:Int))=true:=by simp;omega
  rw[e];have:a≠b:=fun h=>hl (by rw[h])
  simp[this]
def aC.wt(x:aC):Nat:=tw x.rel+qw tw x.args
def aP.wt(x:aP):Nat:=tw x.pat.rel+qw tw x.pat.args+tw x.left+tw x.right
def Action.wt(x:Action):Nat:=tw x.pat.rel+qw tw x.pat.args
def aK.wt(x:aK):Nat:=tw x.name+qw aP.wt x.conds+qw Action.wt x.cY
open Go.RowKit Go.Proofs Go.Shelf Tryz
theorem Rd.wA{w:World}{v:Value}{s:Bytes}{bs:aa}(h:Rd w v (.str s) bs):∃y:ByteArray,v=.string y/\y.data.toList=s/\y.size<=maxLen/\bs=[]:=by
 cases h with
 |str y hy=>exact⟨y,rfl,rfl,hy,rfl⟩
theorem p6.strs{w:World}{xs:aH}:∀ {cs:bp} {bs:aa},p6 w cs (xs.map D.str) bs->∃ys:List ByteArray,cs=ys.map Value.string/\ys.map (·.data.toList)=xs:=by
 induction xs with
 |nil=>intro cs bs h;cases h;exact⟨[],rfl,rfl⟩
 |cons x xs ih=>
  intro cs bs h;cases h with
  |cons v vs d ds b1 b2 h1 h2 h3=>
   obtain⟨y,e1,e2,_,_⟩:=h2.wA;obtain⟨ys,e3,e4⟩:=ih h3;exact⟨y::ys,by simp[e1,e3],by simp[e2,e4]⟩
theorem Qv(xs:aH):(xs.map tx).flatten=xs.map D.str:=by
 induction xs with
 |nil=>rfl
 |cons x xs ih=>simp[tx,ih]
theorem Calls.txt{P:Program}{f:FuncId}{args:Array Value}{w:World}{r:ByteArray}{Θ:Nat->Nat}(hr:r.size<=maxLen)
 (h:Calls P f args w fun e w'=>e=.returned (.string r)/\Below w.heap.size w w'):
 Calls P f args w (fun e w'=>∃v bs' ts us,e=.returned v/\Below w.heap.size w w'/\BD w' v (.str r.data.toList) bs' ts us/\(∀b∈bs',b<w.heap.size->Θ b=0)/\(∀b∈bs',b∉ts)/\us.Nodup/\
  (∀b∈us,w.heap.size<=b/\Wr w' b)/\∀b∈ts,b∈us):=
 h.mono fun e w' ⟨h1,h2⟩=>⟨_,[],[],[],h1,h2,.v (.cell (.pure (.str r hr))),by simp,by simp,by simp,by simp,by simp⟩
open Go.RowKit Go.Proofs Go.Shelf Go.Sort Tryz
theorem p6.a3c{w:World}{xs:aH}:∀ {cs:bp} {bs:aa},p6 w cs (xs.map D.str) bs->∀x∈xs,x.length<=maxLen:=by
 induction xs with
 |nil=>intro cs bs h x hx;cases hx
 |cons x xs ih=>
  intro cs bs h y hy;cases h with
  |cons v vs d ds b1 b2 h1 h2 h3=>
   obtain⟨s,_,e2,e3,_⟩:=h2.wA;rcases bJ.1 hy with rfl|hy
   ·rw[<-e2];exact e3
   ·exact ih h3 y hy
theorem p6.W9{w:World}:∀ {xs:aH},(∀x∈xs,x.length<=maxLen)->p6 w (xs.map encStr) (xs.map D.str) []
 | [],_=>.nil
 |x::xs,h=>by
  have h1:Rd w (.string ⟨x.toArray⟩) (.str x) []:=by
   have:=Rd.str (w:=w) ⟨x.toArray⟩ (by have:=h x (by simp);simpa[ByteArray.size]using this);simpa using this
  exact .cons _ _ _ _ [] [] rfl h1 (p6.W9 fun y hy=>h y (by simp[hy]))
theorem Sb(xs:aH):(xs.map tx).flatten.all D.flat=true:=by
 rw[Qv];simp[D.flat]
def pQ(xs:aH):aH:=xs.mergeSort fun x y=>decide (x<=y)
theorem Bt(xs:aH):(pQ xs).Perm xs:=List.mergeSort_perm _ _
theorem Og{P:Program}{ρ:Ren}(L:Lays.n192 P ρ){e:TypeId}{xs:aH}(hn:xs.length<4611686018427387904):S4 P (ρ.f 192) e 1 (xs.map tx) ((pQ xs).map tx):=by
 refine⟨⟨_,L.f192,rfl,rfl⟩,?_⟩;intro w v cs hsz hrl hown hrd;rw[Qv]at hrd;have hle:=hrd.a3c;obtain⟨ys,rfl,hys⟩:=hrd.strs;have hlen:(pQ xs).length=xs.length:=(Bt xs).length_eq;have OV:∀r∈(pQ xs).map tx,r.length=1:=by
  intro r hr;obtain⟨x,_,rfl⟩:=bt.1 hr;rfl
 rcases hown.2 with⟨rfl,h0⟩|⟨g,cap,cur,rfl,hb,R2,hnc,hcm,hcs,Sq⟩
 ·have hx:xs=[]:=by simpa using h0
  subst hx;refine(Any.sort_Strings_none L none 0 w).mono ?_;rintro e' w' ⟨rfl,rfl⟩;exact⟨rfl,rfl,rfl,rfl,bU _,fun _ _ _=>rfl,OV,[],⟨by simp[hlen],.inl ⟨rfl,by simp[hlen]⟩⟩,by simpa[pQ]using p6.nil⟩
 ·rw[ah]at hnc Sq⊢;rw[Nat.mul_one]at Sq hcs;have hyl:ys.length=xs.length:=by rw[<-hys];simp
  have UA:∀j,j<xs.length->cur[j]?=some (encStr xs.toArray[j]!):=by
   intro j hj;have h1:(cur.toList.take xs.length)[j]?=cur[j]?:=by rw[wX hj];simp
   rw[<-h1,Sq,cF];have hj':j<ys.length:=by omega
   rw[af hj'];have:xs[j]?=some ys[j].data.toList:=by rw[<-hys,cF,af hj'];rfl
   have hx:xs.toArray[j]! =ys[j].data.toList:=by
    rw[getElem!_pos _ _ (by simpa using hj)];rw[af hj]at this;simpa using this
   rw[hx];simp[encStr]
  have hH:Holds encStr w g 0 xs.toArray:=by
   intro j hj;have hj:j<xs.length:=by simpa using hj
   refine⟨?_,?_⟩
   ·rw[<-UA j hj];simp[World.cell?,R2]
   ·simp[World.frozen?,R2]
  have hblk:g<w.heap.size:=(bO.1 R2).1;refine(Any.sort_Strings L g 0 cap xs w hH hblk hn).mono ?_;rintro e' w' ⟨rfl,n,os,rfl⟩;have hheap:(grow (putRow encStr (Sort.ahead w n) g 0 (pQ xs).toArray) os).heap=(w.heap.modify g (onCells (putCells encStr 0 (pQ xs).toArray)))++os:=rfl;have U9:∀b,b<w.heap.size->b≠g->(grow (putRow encStr (Sort.ahead w n) g 0 (pQ xs).toArray) os).heap[b]?=w.heap[b]?:=by
   intro b hb hne;rw[hheap,fF (by simpa using hb),yY,b9 (fun e=>hne e.symm)]
  have hrow:(grow (putRow encStr (Sort.ahead w n) g 0 (pQ xs).toArray) os).heap[g]?=some (.cells (putCells encStr 0 (pQ xs).toArray cur) e (0,0)):=by
   rw[hheap,fF (by simpa using hblk),yY,bL rfl,R2];rfl
  refine⟨rfl,rfl,rfl,rfl,by show w.heap.size<=(grow (putRow encStr (Sort.ahead w n) g 0 (pQ xs).toArray) os).heap.size;rw[hheap];simp,fun b hb hne=>U9 b hb fun e=>hne (by rw[e];rfl),OV,(pQ xs).map encStr,⟨by simp,.inr ⟨g,cap,_,by simp[hlen],hb,hrow,by simpa[hlen]using hnc,hcm,by simp[putCells,hcs],?_⟩⟩,?_⟩
  ·apply mW;intro j;simp only[ah,Nat.mul_one];by_cases hj:j<(pQ xs).length
   ·have hj2:j<cur.size:=by omega
    rw[wX hj,cF,af hj];simp[putCells,hj2,hj]
   ·rw[cr (by simp;omega),cr (by simp;omega)]
  ·rw[Qv];exact p6.W9 fun x hx=>hle x ((Bt xs).mem_iff.1 hx)
open Go.RowKit Go.Proofs Go.Shelf Go.Lib Tryz
theorem Ze(n:Int)(h:qQ .i64 n):(itoa n).length<=20:=by
 have h1: -9223372036854775808<=n:=h.1;have h2:n<=9223372036854775807:=h.2;have key:∀u:Nat,u<=9223372036854775808->nDigits u<=19:=by
  intro u hu;by_cases h0:u=0
  ·subst h0;rw[nDigits_small (by omega)];omega
  ·by_cases hk:nDigits u<=19
   ·exact hk
   ·exfalso;have Zi:∀(k v:Nat),v<10^k->1<=k->nDigits v<=k:=by
     intro k
     induction k with
     |zero=>intro v _ h;omega
     |succ k ih=>
      intro v hv _;by_cases h10:v<10
      ·rw[nDigits_small h10];omega
      ·rw[nDigits_big h10];have h3:v/10<10^k:=by rw[xp]at hv;omega
       have hk1:1<=k:=by
        cases k with
        |zero=>simp at hv;omega
        |succ k=>omega
       have:=ih (v/10) h3 hk1;omega
    have:=Zi 19 u (by omega) (by omega);omega
 unfold itoa;split
 ·rw[aS,decDigits_length];have:=key n.natAbs (by omega);omega
 ·rw[decDigits_length];have:=key n.toNat (by omega);omega
theorem SI(w:World)(k:Nat)(os:Array Obj):Below w.heap.size w (Sort.grow (w.drewN k) os):=
 ⟨rfl,rfl,rfl,by show w.heap.size<=(w.heap++os).size;simp,fun b hb=>by show(w.heap++os)[b]?=_;rw[fF hb]⟩
theorem Sy{P:Program}{ρ:Ren}(L:LaysM.n171 P ρ){g:Nat}(hg:P.globalNamed "internal/strconv.uint64pow10" =some g)(hx:(g,fun cs:bp=>cs=pow10Tab.map fun z=>Value.int .u64 z)∈zw){n:Int}:
 Good P (ρ.f 171) [.int .i64 n] (.str (itoa n)):=by
 refine⟨⟨_,L.f171,rfl,rfl⟩,?_⟩;intro w Θ args bs hv ha _ _ _;obtain _|⟨v1,_,_,_,b1,_,h1,ha⟩:=ha;cases ha;cases h1 with
 |int _ _ hr=>
  have h0: -9223372036854775808<=n:=hr.1;have h1:n<=9223372036854775807:=hr.2;have hl:=Ze n hr;have ht:TabIs P w "internal/strconv.uint64pow10" .u64 pow10Tab:=by
   obtain⟨cs,h2,h3⟩:=hv.var hx hg;have h4:cs=(pow10Tab.map fun z=>Value.int .u64 z).toArray:=by rw[<-h3]
   rw[h4]at h2;exact h2
  have:=Calls.txt (Θ:=Θ) (r:=⟨(itoa n).toArray⟩) (by show(itoa n).toArray.size<=maxLen;rw[xm];unfold maxLen;omega)
   ((Any.strconv_Itoa L n h0 h1 w ht).mono fun e w' ⟨k1,k,os,k2⟩=>⟨k1,by subst k2;exact SI w k os⟩)
  simpa using this
theorem SH(w:World)(t5:TypeId)(t:ByteArray):Below w.heap.size w (Lib.bytesWorld w t5 t):=Lib.bytesWorld_below _ _ _
def RJ(s:Bytes):Option (Int×Bool):=if s.length<=18 then(match Lib.atoi s with|some n=>some (n,false)|none=>some (0,true))else none
theorem Sx{P:Program}{ρ:Ren}(L:LaysC.n172 P ρ){g:Nat}(hg:P.globalNamed "strconv.ErrSyntax" =some g)(hx:(g,fun cs:bp=>∃tp p,cs=[Value.iface tp p])∈zw){s:Bytes}{r:Int×Bool}(h:RJ s=some r):
 Good P (ρ.f 172) [.str s] (.ff [.int .i64 r.1,.ifc r.2]):=by
 refine⟨⟨_,L.f172,rfl,rfl⟩,?_⟩;intro w Θ args bs hv ha _ _ _;obtain _|⟨v1,_,_,_,b1,_,h1,ha⟩:=ha;cases ha;obtain⟨y,rfl,rfl,_,_⟩:=h1.wA;unfold RJ at h;split at h
 ·rename_i hl;have hl':y.size<=18:=by simpa using hl
  split at h
  ·rename_i n hn;cases h;have hb:=Lib.atoi_bound hn hl;refine(Any.strconv_Atoi L.toM.ton172 y n hl' hn w).mono ?_;rintro e w' ⟨rfl,t,rfl⟩;exact⟨_,[],[],[],rfl,SH _ _ _,.ff [.int .i64 n,.nilIface] [.int .i64 n,.ifc false] [] [] [] (.cons _ _ _ _ [] [] [] [] [] [] (.cell (.pure (.int _ _ (qQ.i64.2 (by omega))))) (.cons _ _ _ _ [] [] [] [] [] [] (.cell (.pure .X8)) .nil)),by simp,by simp,by simp,by simp,by simp⟩
  ·rename_i hn;cases h;obtain⟨cs,h2,tp,p,h3⟩:=hv.var hx hg;have h4:cs= #[.iface tp p]:=by rw[<-sY,h3]
   rw[h4]at h2;refine(Any.strconv_Atoi_err_var L y hl' hn tp p w h2).mono ?_;rintro e w' ⟨N,rfl,_,_,Y1⟩;exact⟨_,[],[],[],rfl,Y1,.ff [.int .i64 0,.iface _ _] [.int .i64 0,.ifc true] [] [] [] (.cons _ _ _ _ [] [] [] [] [] [] (.cell (.pure (.int _ _ (qQ.zero _)))) (.cons _ _ _ _ [] [] [] [] [] [] (.cell (.pure (.X9 _ _))) .nil)),by simp,by simp,by simp,by simp,by simp⟩
 ·cases h
theorem VS:∀(a b:Bytes), -1<=Lib.compareBytes a b/\Lib.compareBytes a b<=1
 | [],[]=>by simp[Lib.compareBytes]
 | [],_::_=>by simp[Lib.compareBytes]
 |_::_,[]=>by simp[Lib.compareBytes]
 |a::xs,b::ys=>by
  simp only[Lib.compareBytes];split
  ·omega
  ·split
   ·omega
   ·exact VS xs ys
theorem Of{P:Program}{ρ:Ren}(L:Lays.n106 P ρ){a b:Bytes}:Good P (ρ.f 106) [.str a,.str b] (.int .i64 (Lib.compareBytes a b)):=by
 refine⟨⟨_,L.f106,rfl,rfl⟩,?_⟩;intro w Θ args bs hv ha _ _ _;obtain _|⟨v1,_,_,_,b1,_,h1,ha⟩:=ha;obtain _|⟨v2,_,_,_,b2,_,h2,ha⟩:=ha;cases ha;obtain⟨y,rfl,rfl,_,_⟩:=h1.wA;obtain⟨z,rfl,rfl,_,_⟩:=h2.wA;have hc:=VS y.data.toList z.data.toList;refine(Any.strings_Compare L y z w).mono ?_;rintro e w' ⟨rfl,rfl⟩;exact⟨_,[],[],[],rfl,Below.refl _ _,.v (.cell (.pure (.int _ _ (qQ.i64.2 (by omega))))),by simp,by simp,by simp,by simp,by simp⟩
def T0:Ren:=⟨fun|192=>212|190=>227|125=>237|258=>236|128=>253|129=>254|302=>244|303=>245|304=>246|305=>247|306=>248|307=>249|308=>250|309=>251|310=>252|333=>266|329=>267|330=>268|334=>269|335=>270|336=>271|344=>280|n=>n,fun|31=>41|0=>0|9=>9|3=>3|46=>183|51=>221|53=>223|4=>4|183=>214|182=>213|131=>187|5=>5|218=>236|222=>240|228=>255|229=>141|n=>n,fun|n=>n⟩
theorem a2v:Lays.n192 prog T0:= {
 mixed:=by kernel_rfl,
 f125:=func237.trans (congrArg some (by kernel_rfl)),
 f128:=func253.trans (congrArg some (by kernel_rfl)),
 f129:=func254.trans (congrArg some (by kernel_rfl)),
 f190:=func227.trans (congrArg some (by kernel_rfl)),
 f192:=func212.trans (congrArg some (by kernel_rfl)),
 f258:=func236.trans (congrArg some (by kernel_rfl)),
 f302:=func244.trans (congrArg some (by kernel_rfl)),
 f303:=func245.trans (congrArg some (by kernel_rfl)),
 f304:=func246.trans (congrArg some (by kernel_rfl)),
 f305:=func247.trans (congrArg some (by kernel_rfl)),
 f306:=func248.trans (congrArg some (by kernel_rfl)),
 f307:=func249.trans (congrArg some (by kernel_rfl)),
 f308:=func250.trans (congrArg some (by kernel_rfl)),
 f309:=func251.trans (congrArg some (by kernel_rfl)),
 f310:=func252.trans (congrArg some (by kernel_rfl)),
 f329:=func267.trans (congrArg some (by kernel_rfl)),
 f330:=func268.trans (congrArg some (by kernel_rfl)),
 f333:=func266.trans (congrArg some (by kernel_rfl)),
 f334:=func269.trans (congrArg some (by kernel_rfl)),
 f335:=func270.trans (congrArg some (by kernel_rfl)),
 f336:=func271.trans (congrArg some (by kernel_rfl)),
 f344:=func280.trans (congrArg some (by kernel_rfl)),
 t0:=underlying0,
 a0:=Tryz.isAgg0,
 z0:=Tryz.sizeOf0,
 v0:=Tryz.zeroValue0,
 t3:=underlying3,
 a3:=Tryz.isAgg3,
 z3:=Tryz.sizeOf3,
 v3:=Tryz.zeroValue3,
 t4:=underlying4,
 a4:=Tryz.isAgg4,
 z4:=Tryz.sizeOf4,
 v4:=Tryz.zeroValue4,
 t5:=underlying5,
 a5:=Tryz.isAgg5,
 z5:=Tryz.sizeOf5,
 v5:=Tryz.zeroValue5,
 t9:=underlying9,
 a9:=Tryz.isAgg9,
 z9:=Tryz.sizeOf9,
 v9:=Tryz.zeroValue9,
 t31:=underlying41,
 a31:=Tryz.isAgg41,
 z31:=Tryz.sizeOf41,
 v31:=Tryz.zeroValue41,
 t46:=underlying183,
 a46:=Tryz.isAgg183,
 z46:=Tryz.sizeOf183,
 v46:=Tryz.zeroValue183,
 t51:=underlying221,
 a51:=Tryz.isAgg221,
 z51:=Tryz.sizeOf221,
 v51:=Tryz.zeroValue221,
 t53:=underlying223,
 a53:=Tryz.isAgg223,
 z53:=Tryz.sizeOf223,
 v53:=Tryz.zeroValue223,
 t131:=underlying187,
 a131:=Tryz.isAgg187,
 z131:=Tryz.sizeOf187,
 v131:=Tryz.zeroValue187,
 t182:=underlying213,
 a182:=Tryz.isAgg213,
 z182:=Tryz.sizeOf213,
 v182:=Tryz.zeroValue213,
 t183:=underlying214,
 a183:=Tryz.isAgg214,
 z183:=Tryz.sizeOf214,
 v183:=Tryz.zeroValue214,
 t218:=underlying236,
 a218:=Tryz.isAgg236,
 z218:=Tryz.sizeOf236,
 v218:=Tryz.zeroValue236,
 t222:=underlying240,
 a222:=Tryz.isAgg240,
 z222:=Tryz.sizeOf240,
 v222:=Tryz.zeroValue240,
 t228:=underlying255,
 a228:=Tryz.isAgg255,
 z228:=Tryz.sizeOf255,
 v228:=Tryz.zeroValue255,
 t229:=underlying141,
 a229:=Tryz.isAgg141,
 z229:=Tryz.sizeOf141,
 v229:=Tryz.zeroValue141}
theorem Hz{e:TypeId}{xs:aH}(hn:xs.length<4611686018427387904):S4 prog 212 e 1 (xs.map tx) ((pQ xs).map tx):=Og a2v hn
def Mz:Ren:=⟨fun|171=>225|243=>235|246=>243|283=>262|284=>263|285=>264|286=>265|129=>254|317=>276|318=>277|319=>278|320=>279|337=>283|338=>284|n=>n,fun|3=>3|9=>9|2=>2|4=>4|171=>232|0=>0|53=>223|37=>22|5=>5|173=>234|212=>252|51=>221|20=>20|213=>253|46=>183|232=>262|233=>263|n=>n,fun|17=>3|18=>4|19=>5|n=>n⟩
theorem a2t:Lays.n171 prog Mz:= {
 mixed:=by kernel_rfl,
 f129:=func254.trans (congrArg some (by kernel_rfl)),
 f171:=func225.trans (congrArg some (by kernel_rfl)),
 f243:=func235.trans (congrArg some (by kernel_rfl)),
 f246:=func243.trans (congrArg some (by kernel_rfl)),
 f283:=func262.trans (congrArg some (by kernel_rfl)),
 f284:=func263.trans (congrArg some (by kernel_rfl)),
 f285:=func264.trans (congrArg some (by kernel_rfl)),
 f286:=func265.trans (congrArg some (by kernel_rfl)),
 f317:=func276.trans (congrArg some (by kernel_rfl)),
 f318:=func277.trans (congrArg some (by kernel_rfl)),
 f319:=func278.trans (congrArg some (by kernel_rfl)),
 f320:=func279.trans (congrArg some (by kernel_rfl)),
 f337:=func283.trans (congrArg some (by kernel_rfl)),
 f338:=func284.trans (congrArg some (by kernel_rfl)),
 t0:=underlying0,
 a0:=Tryz.isAgg0,
 z0:=Tryz.sizeOf0,
 v0:=Tryz.zeroValue0,
 t2:=underlying2,
 a2:=Tryz.isAgg2,
 z2:=Tryz.sizeOf2,
 v2:=Tryz.zeroValue2,
 t3:=underlying3,
 a3:=Tryz.isAgg3,
 z3:=Tryz.sizeOf3,
 v3:=Tryz.zeroValue3,
 t4:=underlying4,
 a4:=Tryz.isAgg4,
 z4:=Tryz.sizeOf4,
 v4:=Tryz.zeroValue4,
 t5:=underlying5,
 a5:=Tryz.isAgg5,
 z5:=Tryz.sizeOf5,
 v5:=Tryz.zeroValue5,
 t9:=underlying9,
 a9:=Tryz.isAgg9,
 z9:=Tryz.sizeOf9,
 v9:=Tryz.zeroValue9,
 t20:=underlying20,
 a20:=Tryz.isAgg20,
 z20:=Tryz.sizeOf20,
 v20:=Tryz.zeroValue20,
 t37:=underlying22,
 a37:=Tryz.isAgg22,
 z37:=Tryz.sizeOf22,
 v37:=Tryz.zeroValue22,
 t46:=underlying183,
 a46:=Tryz.isAgg183,
 z46:=Tryz.sizeOf183,
 v46:=Tryz.zeroValue183,
 t51:=underlying221,
 a51:=Tryz.isAgg221,
 z51:=Tryz.sizeOf221,
 v51:=Tryz.zeroValue221,
 t53:=underlying223,
 a53:=Tryz.isAgg223,
 z53:=Tryz.sizeOf223,
 v53:=Tryz.zeroValue223,
 t171:=underlying232,
 a171:=Tryz.isAgg232,
 z171:=Tryz.sizeOf232,
 v171:=Tryz.zeroValue232,
 t173:=underlying234,
 a173:=Tryz.isAgg234,
 z173:=Tryz.sizeOf234,
 v173:=Tryz.zeroValue234,
 t212:=underlying252,
 a212:=Tryz.isAgg252,
 z212:=Tryz.sizeOf252,
 v212:=Tryz.zeroValue252,
 t213:=underlying253,
 a213:=Tryz.isAgg253,
 z213:=Tryz.sizeOf253,
 t232:=underlying262,
 a232:=Tryz.isAgg262,
 z232:=Tryz.sizeOf262,
 v232:=Tryz.zeroValue262,
 t233:=underlying263,
 a233:=Tryz.isAgg263,
 z233:=Tryz.sizeOf263,
 v233:=Tryz.zeroValue263,
 g17:=by kernel_rfl,
 g18:=by kernel_rfl,
 g19:=by kernel_rfl}
theorem Zl:LaysM.n171 prog Mz:= {a2t with
 i0:=by kernel_rfl,
 i2:=by kernel_rfl,
 i3:=by kernel_rfl,
 i4:=by kernel_rfl,
 i5:=by kernel_rfl,
 i9:=by kernel_rfl,
 i20:=by kernel_rfl,
 i37:=by kernel_rfl,
 i46:=by kernel_rfl,
 i51:=by kernel_rfl,
 i53:=by kernel_rfl,
 i171:=by kernel_rfl,
 i173:=by kernel_rfl,
 i212:=by kernel_rfl,
 i232:=by kernel_rfl,
 i233:=by kernel_rfl,
 m17:=by kernel_rfl,
 m18:=by kernel_rfl,
 m19:=by kernel_rfl}
def Bh(aD:Int):Option Bytes:=(fun n:Int=>some (Lib.itoa n)) aD
theorem IV{aD:Int}{r:Bytes}(h:Bh aD=some r):Good prog 225 [.int .i64 aD] (.str r):=by cases h;exact Sy Zl (g:=3) (by kernel_rfl) (aE (i:=0) (by kernel_rfl))
def Gv:Ren:=⟨fun|172=>229|244=>238|245=>239|247=>255|279=>256|280=>257|281=>258|282=>259|287=>272|316=>273|171=>225|205=>274|321=>281|322=>282|243=>235|246=>243|283=>262|284=>263|285=>264|286=>265|129=>254|317=>276|318=>277|319=>278|320=>279|337=>283|338=>284|n=>n,fun|9=>9|3=>3|75=>198|76=>199|4=>4|5=>5|167=>224|37=>22|0=>0|85=>225|2=>2|168=>227|53=>223|175=>242|46=>183|210=>246|127=>258|145=>261|143=>259|21=>21|171=>232|173=>234|212=>252|51=>221|20=>20|213=>253|232=>262|233=>263|80=>264|n=>n,fun|15=>1|16=>2|17=>3|18=>4|19=>5|n=>n⟩
theorem a2u:Lays.n172 prog Gv:= {
 mixed:=by kernel_rfl,
 f129:=func254.trans (congrArg some (by kernel_rfl)),
 f171:=func225.trans (congrArg some (by kernel_rfl)),
 f172:=func229.trans (congrArg some (by kernel_rfl)),
 f205:=func274.trans (congrArg some (by kernel_rfl)),
 f243:=func235.trans (congrArg some (by kernel_rfl)),
 f244:=func238.trans (congrArg some (by kernel_rfl)),
 f245:=func239.trans (congrArg some (by kernel_rfl)),
 f246:=func243.trans (congrArg some (by kernel_rfl)),
 f247:=func255.trans (congrArg some (by kernel_rfl)),
 f279:=func256.trans (congrArg some (by kernel_rfl)),
 f280:=func257.trans (congrArg some (by kernel_rfl)),
 f281:=func258.trans (congrArg some (by kernel_rfl)),
 f282:=func259.trans (congrArg some (by kernel_rfl)),
 f283:=func262.trans (congrArg some (by kernel_rfl)),
 f284:=func263.trans (congrArg some (by kernel_rfl)),
 f285:=func264.trans (congrArg some (by kernel_rfl)),
 f286:=func265.trans (congrArg some (by kernel_rfl)),
 f287:=func272.trans (congrArg some (by kernel_rfl)),
 f316:=func273.trans (congrArg some (by kernel_rfl)),
 f317:=func276.trans (congrArg some (by kernel_rfl)),
 f318:=func277.trans (congrArg some (by kernel_rfl)),
 f319:=func278.trans (congrArg some (by kernel_rfl)),
 f320:=func279.trans (congrArg some (by kernel_rfl)),
 f321:=func281.trans (congrArg some (by kernel_rfl)),
 f322:=func282.trans (congrArg some (by kernel_rfl)),
 f337:=func283.trans (congrArg some (by kernel_rfl)),
 f338:=func284.trans (congrArg some (by kernel_rfl)),
 t0:=underlying0,
 a0:=Tryz.isAgg0,
 z0:=Tryz.sizeOf0,
 v0:=Tryz.zeroValue0,
 t2:=underlying2,
 a2:=Tryz.isAgg2,
 z2:=Tryz.sizeOf2,
 v2:=Tryz.zeroValue2,
 t3:=underlying3,
 a3:=Tryz.isAgg3,
 z3:=Tryz.sizeOf3,
 v3:=Tryz.zeroValue3,
 t4:=underlying4,
 a4:=Tryz.isAgg4,
 z4:=Tryz.sizeOf4,
 v4:=Tryz.zeroValue4,
 t5:=underlying5,
 a5:=Tryz.isAgg5,
 z5:=Tryz.sizeOf5,
 v5:=Tryz.zeroValue5,
 t9:=underlying9,
 a9:=Tryz.isAgg9,
 z9:=Tryz.sizeOf9,
 v9:=Tryz.zeroValue9,
 t20:=underlying20,
 a20:=Tryz.isAgg20,
 z20:=Tryz.sizeOf20,
 v20:=Tryz.zeroValue20,
 t21:=underlying21,
 a21:=Tryz.isAgg21,
 z21:=Tryz.sizeOf21,
 v21:=Tryz.zeroValue21,
 t37:=underlying22,
 a37:=Tryz.isAgg22,
 z37:=Tryz.sizeOf22,
 v37:=Tryz.zeroValue22,
 t46:=underlying183,
 a46:=Tryz.isAgg183,
 z46:=Tryz.sizeOf183,
 v46:=Tryz.zeroValue183,
 t51:=underlying221,
 a51:=Tryz.isAgg221,
 z51:=Tryz.sizeOf221,
 v51:=Tryz.zeroValue221,
 t53:=underlying223,
 a53:=Tryz.isAgg223,
 z53:=Tryz.sizeOf223,
 v53:=Tryz.zeroValue223,
 t75:=underlying198,
 a75:=Tryz.isAgg198,
 z75:=Tryz.sizeOf198,
 v75:=Tryz.zeroValue198,
 t76:=underlying199,
 a76:=Tryz.isAgg199,
 z76:=Tryz.sizeOf199,
 v76:=Tryz.zeroValue199,
 t85:=underlying225,
 a85:=Tryz.isAgg225,
 z85:=Tryz.sizeOf225,
 v85:=Tryz.zeroValue225,
 t127:=underlying258,
 a127:=Tryz.isAgg258,
 z127:=Tryz.sizeOf258,
 v127:=Tryz.zeroValue258,
 t143:=underlying259,
 a143:=Tryz.isAgg259,
 z143:=Tryz.sizeOf259,
 v143:=Tryz.zeroValue259,
 t145:=underlying261,
 a145:=Tryz.isAgg261,
 z145:=Tryz.sizeOf261,
 v145:=Tryz.zeroValue261,
 t167:=underlying224,
 a167:=Tryz.isAgg224,
 z167:=Tryz.sizeOf224,
 v167:=Tryz.zeroValue224,
 t168:=underlying227,
 a168:=Tryz.isAgg227,
 z168:=Tryz.sizeOf227,
 v168:=Tryz.zeroValue227,
 t171:=underlying232,
 a171:=Tryz.isAgg232,
 z171:=Tryz.sizeOf232,
 v171:=Tryz.zeroValue232,
 t173:=underlying234,
 a173:=Tryz.isAgg234,
 z173:=Tryz.sizeOf234,
 v173:=Tryz.zeroValue234,
 t175:=underlying242,
 a175:=Tryz.isAgg242,
 z175:=Tryz.sizeOf242,
 v175:=Tryz.zeroValue242,
 t210:=underlying246,
 a210:=Tryz.isAgg246,
 z210:=Tryz.sizeOf246,
 v210:=Tryz.zeroValue246,
 t212:=underlying252,
 a212:=Tryz.isAgg252,
 z212:=Tryz.sizeOf252,
 v212:=Tryz.zeroValue252,
 t213:=underlying253,
 a213:=Tryz.isAgg253,
 z213:=Tryz.sizeOf253,
 t232:=underlying262,
 a232:=Tryz.isAgg262,
 z232:=Tryz.sizeOf262,
 v232:=Tryz.zeroValue262,
 t233:=underlying263,
 a233:=Tryz.isAgg263,
 z233:=Tryz.sizeOf263,
 v233:=Tryz.zeroValue263,
 g15:=by kernel_rfl,
 g16:=by kernel_rfl,
 g17:=by kernel_rfl,
 g18:=by kernel_rfl,
 g19:=by kernel_rfl}
theorem Zm:LaysM.n172 prog Gv:= {a2u with
 t80:=underlying264,
 a80:=Tryz.isAgg264,
 z80:=Tryz.sizeOf264,
 v80:=Tryz.zeroValue264,
 i0:=by kernel_rfl,
 i2:=by kernel_rfl,
 i3:=by kernel_rfl,
 i4:=by kernel_rfl,
 i5:=by kernel_rfl,
 i9:=by kernel_rfl,
 i20:=by kernel_rfl,
 i21:=by kernel_rfl,
 i37:=by kernel_rfl,
 i46:=by kernel_rfl,
 i51:=by kernel_rfl,
 i53:=by kernel_rfl,
 i75:=by kernel_rfl,
 i76:=by kernel_rfl,
 i80:=by kernel_rfl,
 i85:=by kernel_rfl,
 i127:=by kernel_rfl,
 i143:=by kernel_rfl,
 i145:=by kernel_rfl,
 i167:=by kernel_rfl,
 i168:=by kernel_rfl,
 i171:=by kernel_rfl,
 i173:=by kernel_rfl,
 i175:=by kernel_rfl,
 i210:=by kernel_rfl,
 i212:=by kernel_rfl,
 i232:=by kernel_rfl,
 i233:=by kernel_rfl,
 m15:=by kernel_rfl,
 m16:=by kernel_rfl,
 m17:=by kernel_rfl,
 m18:=by kernel_rfl,
 m19:=by kernel_rfl}
theorem Zk:LaysC.n172 prog Gv:= {Zm with
 c0:=by kernel_rfl,
 c2:=by kernel_rfl,
 c3:=by kernel_rfl,
 c4:=by kernel_rfl,
 c5:=by kernel_rfl,
 c9:=by kernel_rfl,
 c20:=by kernel_rfl,
 c21:=by kernel_rfl,
 c37:=by kernel_rfl,
 c46:=by kernel_rfl,
 c51:=by kernel_rfl,
 c53:=by kernel_rfl,
 c75:=by kernel_rfl,
 c76:=by kernel_rfl,
 c80:=by kernel_rfl,
 c85:=by kernel_rfl,
 c127:=by kernel_rfl,
 c143:=by kernel_rfl,
 c145:=by kernel_rfl,
 c167:=by kernel_rfl,
 c168:=by kernel_rfl,
 c171:=by kernel_rfl,
 c173:=by kernel_rfl,
 c175:=by kernel_rfl,
 c210:=by kernel_rfl,
 c212:=by kernel_rfl,
 c213:=by kernel_rfl,
 c232:=by kernel_rfl,
 c233:=by kernel_rfl}
def Bg(aD:Bytes):Option (Int×Bool):=RJ aD
theorem IU{aD:Bytes}{r:Int×Bool}(h:Bg aD=some r):Good prog 229 [.str aD] (.ff [.int .i64 r.1,.ifc r.2]):=Sx Zk (g:=1) (by kernel_rfl) (aE (i:=1) (by kernel_rfl)) h
def Sz:Ren:=⟨fun|106=>172|213=>213|265=>228|n=>n,fun|9=>9|3=>3|n=>n,fun|n=>n⟩
theorem a2s:Lays.n106 prog Sz:= {
 mixed:=by kernel_rfl,
 f106:=func172.trans (congrArg some (by kernel_rfl)),
 f213:=func213.trans (congrArg some (by kernel_rfl)),
 f265:=func228.trans (congrArg some (by kernel_rfl)),
 t3:=underlying3,
 a3:=Tryz.isAgg3,
 z3:=Tryz.sizeOf3,
 v3:=Tryz.zeroValue3,
 t9:=underlying9,
 a9:=Tryz.isAgg9,
 z9:=Tryz.sizeOf9,
 v9:=Tryz.zeroValue9}
def rz(aD:Bytes)(aY:Bytes):Option Int:=(fun a b:Bytes=>some (Lib.compareBytes a b)) aD aY
theorem uD{aD:Bytes}{aY:Bytes}{r:Int}(h:rz aD aY=some r):Good prog 172 [.str aD,.str aY] (.int .i64 r):=by cases h;exact Of a2s
end Go.Cx
