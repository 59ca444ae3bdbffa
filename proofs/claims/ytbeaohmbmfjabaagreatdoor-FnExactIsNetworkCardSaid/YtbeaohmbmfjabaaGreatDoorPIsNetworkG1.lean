/- The core of an abstract reading of Go's data: what a value shows in memory (D), which blocks it uses, and that this stays where those blocks stay. No condition; plain lemmas. -/
import Derived.WalkKit
import Derived.ProofKit
import Derived.Deep.LoopGhost
import Derived.MapKept
import Derived.Great.BuildSlice
import Derived.Maps.AppendAt
namespace Go.Cx
set_option linter.unusedVariables false
set_option linter.unusedSimpArgs false
open Go.RowKit
abbrev Bytes:=List UInt8
inductive D where
 |any
 |nil
 |int (k:IntKind) (n:Int)
 |bool (b:Bool)
 |str (s:Bytes)
 |sl (rows:List (List D))
 |agg (cells:List D)
 |iJ (vs:List D)
 |ep (row:List D) (off:Nat)
 |acc (id:Nat)
 |ptr (id off:Nat)
 |op (id i sz off:Nat)
 |val (v:Value)
 |fr (e:TypeId) (sz:Nat) (rows:List (List D))
 |pt (cells:List D)
 |ifc (b:Bool)
def rC(k:IntKind)(n:Int):Prop:=k.min≤n∧n≤k.max
instance (k:IntKind) (n:Int):Decidable (rC k n):=by unfold rC;infer_instance
theorem rC.wrap(k:IntKind)(n:Int):rC k (k.wrap n):=by
 unfold rC
 cases k<;>simp[IntKind.min,IntKind.max,IntKind.wrap,IntKind.bits,IntKind.signed]<;>(try split)<;>omega
theorem rC.i64{n:Int}:rC .i64 n↔ -9223372036854775808≤n∧n≤9223372036854775807:=by
 simp[rC,IntKind.min,IntKind.max,IntKind.bits,IntKind.signed]
theorem rC.u8{n:Int}:rC .u8 n↔0≤n∧n≤255:=by
 simp[rC,IntKind.min,IntKind.max,IntKind.bits,IntKind.signed]
theorem rC.zero(k:IntKind):rC k 0:=by
 unfold rC;cases k<;>simp[IntKind.min,IntKind.max,IntKind.bits,IntKind.signed]
theorem rC.down{k:IntKind}{n m:Int}(h:rC k n)(h0:0≤m)(h1:m≤n):rC k m:=
 ⟨Int.le_trans (rC.zero k).1 h0,Int.le_trans h1 h.2⟩
mutual
inductive Rd(w:World):Value→D→List Nat→Prop
 |any (v:Value):Rd w v .any []
 |nil:Rd w (.slice none 0 0) .nil []
 |int (k:IntKind) (n:Int):rC k n→Rd w (.int k n) (.int k n) []
 |bool (b:Bool):Rd w (.bool b) (.bool b) []
 |str (s:ByteArray):s.size≤maxLen→Rd w (.string s) (.str s.data.toList) []
 |val (v:Value):Rd w v (.val v) []
 |z6:Rd w (.slice none 0 0) (.sl []) []
 |mT (a:Addr) (cap:Nat):cap≤maxLen→Rd w (.slice (some a) 0 cap) (.sl []) []
 |sl (b off cap sz:Nat) (rows:List (List D)) (cs:List Value) (bs:List Nat):b<w.heap.size→rows.length≤cap→cap≤maxLen→
  (∀r∈rows,r.length=sz)→(∀j c,cs[j]?=some c→w.cell? ⟨b,off+j,none⟩=some c)→jN w cs rows.flatten bs→
  Rd w (.slice (some ⟨b,off,none⟩) rows.length cap) (.sl rows) (b::bs)
 |agg (cs:List Value) (ds:List D) (bs:List Nat):jN w cs ds bs→Rd w (.agg cs.toArray) (.agg ds) bs
 |ep (b off:Nat) (cs:List Value) (row:List D) (o:Nat) (bs:List Nat):b<w.heap.size→(∀j c,cs[j]?=some c→w.cell? ⟨b,off+j,none⟩=some c)→
  jN w cs row bs→Rd w (.pointer (some ⟨b,off+o,none⟩)) (.ep row o) (b::bs)
 |a3i:Rd w .nilIface (.ifc false) []
 |a3j (t:TypeId) (v:Value):Rd w (.iface t v) (.ifc true) []
inductive jN(w:World):List Value→List D→List Nat→Prop
 |nil:jN w [] [] []
 |cons (v:Value) (vs:List Value) (d:D) (ds:List D) (b1 b2:List Nat):v.oneCell'=true→Rd w v d b1→jN w vs ds b2→jN w (v::vs) (d::ds) (b1++b2)
end
section
variable{w w':World}
theorem CA{b o:Nat}(h:w'.heap[b]?=w.heap[b]?):w'.cell? ⟨b,o,none⟩=w.cell? ⟨b,o,none⟩:=World.cell?_of_block (a:=⟨b,o,none⟩) h
theorem NZ{b:Nat}(hb:b<w.heap.size)(h:w'.heap[b]?=w.heap[b]?):b<w'.heap.size:=by
 rw[Array.getElem?_eq_getElem hb]at h
 exact(Array.getElem?_eq_some_iff.1 h).1
theorem VX:
 (∀ {v d bs},Rd w v d bs→(∀b∈bs,w'.heap[b]?=w.heap[b]?)→Rd w' v d bs)∧
 (∀ {vs ds bs},jN w vs ds bs→(∀b∈bs,w'.heap[b]?=w.heap[b]?)→jN w' vs ds bs):=by
 have key:∀(m1:∀v d bs,Rd w v d bs→Prop) (m2:∀vs ds bs,jN w vs ds bs→Prop),
  m1=(fun v d bs _=>(∀b∈bs,w'.heap[b]?=w.heap[b]?)→Rd w' v d bs)→m2=(fun vs ds bs _=>(∀b∈bs,w'.heap[b]?=w.heap[b]?)→jN w' vs ds bs)→
  (∀v d bs h,m1 v d bs h)∧(∀vs ds bs h,m2 vs ds bs h):=by
  intro m1 m2 e1 e2
  subst e1;subst e2
  constructor
  all_goals intro v d bs h
  ·refine Rd.rec (motive_1:=fun v d bs _=>(∀b∈bs,w'.heap[b]?=w.heap[b]?)→Rd w' v d bs) (motive_2:=fun vs ds bs _=>(∀b∈bs,w'.heap[b]?=w.heap[b]?)→jN w' vs ds bs) ?_ ?_ ?_ ?_ ?_ ?_ ?_ ?_ ?_ ?_ ?_ ?_ ?_ ?_ ?_ h
   ·intro v _;exact .any _
   ·intro _;exact .nil
   ·intro k n h _;exact .int _ _ h
   ·intro b _;exact .bool _
   ·intro s h _;exact .str _ h
   ·intro v _;exact .val _
   ·intro _;exact .z6
   ·intro a cap h _;exact .mT a cap h
   ·intro b off cap sz rows cs bs h0 h1 h2 h3 h4 _ ih hb
    exact .sl b off cap sz rows cs bs (NZ h0 (hb b (by simp))) h1 h2 h3 (fun j c hc=>(CA (hb b (by simp))).trans (h4 j c hc)) (ih (fun x hx=>hb x (by simp[hx])))
   ·intro cs ds bs _ ih hb;exact .agg cs ds bs (ih hb)
   ·intro b off cs row o bs h0 h4 _ ih hb
    exact .ep b off cs row o bs (NZ h0 (hb b (by simp))) (fun j c hc=>(CA (hb b (by simp))).trans (h4 j c hc)) (ih (fun x hx=>hb x (by simp[hx])))
   ·intro _;exact .a3i
   ·intro t v _;exact .a3j t v
   ·intro _;exact .nil
   ·intro v vs d ds b1 b2 h1 _ _ ih1 ih2 hb;exact .cons v vs d ds b1 b2 h1 (ih1 (fun x hx=>hb x (by simp[hx]))) (ih2 (fun x hx=>hb x (by simp[hx])))
  ·refine jN.rec (motive_1:=fun v d bs _=>(∀b∈bs,w'.heap[b]?=w.heap[b]?)→Rd w' v d bs) (motive_2:=fun vs ds bs _=>(∀b∈bs,w'.heap[b]?=w.heap[b]?)→jN w' vs ds bs) ?_ ?_ ?_ ?_ ?_ ?_ ?_ ?_ ?_ ?_ ?_ ?_ ?_ ?_ ?_ h
   ·intro v _;exact .any _
   ·intro _;exact .nil
   ·intro k n h _;exact .int _ _ h
   ·intro b _;exact .bool _
   ·intro s h _;exact .str _ h
   ·intro v _;exact .val _
   ·intro _;exact .z6
   ·intro a cap h _;exact .mT a cap h
   ·intro b off cap sz rows cs bs h0 h1 h2 h3 h4 _ ih hb
    exact .sl b off cap sz rows cs bs (NZ h0 (hb b (by simp))) h1 h2 h3 (fun j c hc=>(CA (hb b (by simp))).trans (h4 j c hc)) (ih (fun x hx=>hb x (by simp[hx])))
   ·intro cs ds bs _ ih hb;exact .agg cs ds bs (ih hb)
   ·intro b off cs row o bs h0 h4 _ ih hb
    exact .ep b off cs row o bs (NZ h0 (hb b (by simp))) (fun j c hc=>(CA (hb b (by simp))).trans (h4 j c hc)) (ih (fun x hx=>hb x (by simp[hx])))
   ·intro _;exact .a3i
   ·intro t v _;exact .a3j t v
   ·intro _;exact .nil
   ·intro v vs d ds b1 b2 h1 _ _ ih1 ih2 hb;exact .cons v vs d ds b1 b2 h1 (ih1 (fun x hx=>hb x (by simp[hx]))) (ih2 (fun x hx=>hb x (by simp[hx])))
 obtain⟨k1,k2⟩:=key _ _ rfl rfl
 exact⟨fun h=>k1 _ _ _ h,fun h=>k2 _ _ _ h⟩
theorem Rd.keep{v:Value}{d:D}{bs:List Nat}(h:Rd w v d bs)(hb:∀b∈bs,w'.heap[b]?=w.heap[b]?):Rd w' v d bs:=VX.1 h hb
theorem jN.keep{vs:List Value}{ds:List D}{bs:List Nat}(h:jN w vs ds bs)(hb:∀b∈bs,w'.heap[b]?=w.heap[b]?):jN w' vs ds bs:=VX.2 h hb
theorem Rd.lt{v:Value}{d:D}{bs:List Nat}(h:Rd w v d bs):∀b∈bs,b<w.heap.size:=by
 refine Rd.rec (motive_1:=fun v d bs _=>∀b∈bs,b<w.heap.size) (motive_2:=fun vs ds bs _=>∀b∈bs,b<w.heap.size) ?_ ?_ ?_ ?_ ?_ ?_ ?_ ?_ ?_ ?_ ?_ ?_ ?_ ?_ ?_ h
 case refine_9=>
  intro b off cap sz rows cs bs h0 h1 h2 h3 h4 _ ih x hx
  rcases List.mem_cons.1 hx with rfl|hx
  ·exact h0
  ·exact ih x hx
 case refine_10=>intro cs ds bs _ ih;exact ih
 case refine_11=>
  intro b off cs row o bs h0 h4 _ ih x hx
  rcases List.mem_cons.1 hx with rfl|hx
  ·exact h0
  ·exact ih x hx
 case refine_15=>
  intro v vs d ds b1 b2 h1 _ _ ih1 ih2 x hx
  rcases List.mem_append.1 hx with hx|hx
  ·exact ih1 x hx
  ·exact ih2 x hx
 all_goals intros;simp_all
theorem jN.lt{vs:List Value}{ds:List D}{bs:List Nat}(h:jN w vs ds bs):∀b∈bs,b<w.heap.size:=by
 induction ds generalizing vs bs with
 |nil=>cases h;simp
 |cons d ds ih=>
  cases h with
  |cons v vs _ _ b1 b2 h1 h2 h3=>
   intro x hx
   rcases List.mem_append.1 hx with hx|hx
   ·exact h2.lt x hx
   ·exact ih h3 x hx
theorem jN.length{vs:List Value}{ds:List D}{bs:List Nat}(h:jN w vs ds bs):vs.length=ds.length:=by
 induction ds generalizing vs bs with
 |nil=>cases h;rfl
 |cons d ds ih=>cases h with|cons v vs _ _ b1 b2 h1 h2 h3=>simp[ih h3]
theorem jN.one{vs:List Value}{ds:List D}{bs:List Nat}(h:jN w vs ds bs):∀v∈vs,v.oneCell'=true:=by
 induction ds generalizing vs bs with
 |nil=>cases h;simp
 |cons d ds ih=>
  cases h with
  |cons v vs _ _ b1 b2 h1 h2 h3=>
   intro u hu
   rcases List.mem_cons.1 hu with rfl|hu
   ·exact h1
   ·exact ih h3 u hu
theorem jN.app{vs us:List Value}{ds es:List D}{bs cs:List Nat}(h:jN w vs ds bs)(k:jN w us es cs):jN w (vs++us) (ds++es) (bs++cs):=by
 induction ds generalizing vs bs with
 |nil=>cases h;simpa using k
 |cons d ds ih=>
  cases h with
  |cons v vs _ _ b1 b2 h1 h2 h3=>
   rw[List.append_assoc]
   exact .cons _ _ _ _ _ _ h1 h2 (ih h3)
theorem jN.split{vs:List Value}{ds es:List D}{bs:List Nat}(h:jN w vs (ds++es) bs):
 ∃v1 v2 b1 b2,vs=v1++v2∧bs=b1++b2∧jN w v1 ds b1∧jN w v2 es b2:=by
 induction ds generalizing vs bs with
 |nil=>exact⟨[],vs,[],bs,by simp,by simp,.nil,h⟩
 |cons d ds ih=>
  cases h with
  |cons v vs _ _ b1 b2 h1 h2 h3=>
   obtain⟨v1,v2,c1,c2,rfl,rfl,k1,k2⟩:=ih h3
   exact⟨v::v1,v2,b1++c1,c2,by simp,by simp,.cons _ _ _ _ _ _ h1 h2 k1,k2⟩
theorem jN.mid{vs:List Value}{ds:List D}{bs:List Nat}(h:jN w vs ds bs)(i n:Nat):
 ∃b,jN w ((vs.drop i).take n) ((ds.drop i).take n) b∧∀x∈b,x∈bs:=by
 have e:ds=ds.take i++((ds.drop i).take n++(ds.drop i).drop n):=by rw[List.take_append_drop,List.take_append_drop]
 rw[e]at h
 obtain⟨v1,v2,b1,b2,rfl,rfl,k1,k2⟩:=h.split
 obtain⟨v3,v4,b3,b4,rfl,rfl,k3,k4⟩:=k2.split
 refine⟨b3,?_,by intro x hx;simp[hx]⟩
 have l1:=k1.length
 have l3:=k3.length
 by_cases hi:i≤ds.length
 ·have h1:v1.length=i:=by rw[l1];simp[hi]
  rw[List.drop_left' h1]
  by_cases hn:n≤(ds.drop i).length
  ·have h3:v3.length=n:=by rw[l3,List.length_take];omega
   rw[List.take_left' h3];exact k3
  ·have h4:v4.length=0:=by rw[k4.length];simp at hn⊢;omega
   have h4':v4=[]:=List.eq_nil_of_length_eq_zero h4
   subst h4'
   have h3:v3.length≤n:=by rw[l3,List.length_take];omega
   simp only[List.append_nil]
   rw[List.take_of_length_le h3];exact k3
 ·have h5:ds.drop i=[]:=List.drop_eq_nil_of_le (by omega)
  rw[h5]at k3 k4⊢
  simp only[List.take_nil,List.drop_nil]at k3 k4⊢
  cases k3
  cases k4
  have h1:v1.length≤i:=by rw[l1];simp;omega
  simp[List.drop_of_length_le h1]
  exact .nil
theorem jN.at{vs:List Value}{ds:List D}{bs:List Nat}(h:jN w vs ds bs){i:Nat}{d:D}(hd:ds[i]?=some d):
 ∃v b,vs[i]?=some v∧v.oneCell'=true∧Rd w v d b∧∀x∈b,x∈bs:=by
 induction ds generalizing vs bs i with
 |nil=>simp at hd
 |cons e ds ih=>
  cases h with
  |cons v vs _ _ b1 b2 h1 h2 h3=>
   cases i with
   |zero=>simp at hd;subst hd;exact⟨v,b1,by simp,h1,h2,by intro x hx;simp[hx]⟩
   |succ i=>
    simp at hd
    obtain⟨u,b,k1,k2,k3,k4⟩:=ih h3 hd
    exact⟨u,b,by simpa using k1,k2,k3,fun x hx=>by simp[k4 x hx]⟩
end
theorem mW{α:Type}{rows:List (List α)}{sz:Nat}(h:∀r∈rows,r.length=sz):rows.flatten.length=rows.length*sz:=by
 induction rows with
 |nil=>simp
 |cons r rows ih=>
  simp only[List.flatten_cons,List.length_append,List.length_cons]
  rw[ih (fun x hx=>h x (by simp[hx])),h r (by simp),Nat.add_mul];omega
theorem FI{α:Type}{rows:List (List α)}{sz:Nat}(h:∀r∈rows,r.length=sz){i:Nat}{r:List α}(hr:rows[i]?=some r):
 (rows.flatten.drop (i*sz)).take sz=r:=by
 induction rows generalizing i with
 |nil=>simp at hr
 |cons s rows ih=>
  have hs:=h s (by simp)
  cases i with
  |zero=>
   simp at hr;subst hr
   simp only[Nat.zero_mul,List.drop_zero,List.flatten_cons]
   exact List.take_left' hs
  |succ i=>
   simp only[List.getElem?_cons_succ]at hr
   have:=ih (fun x hx=>h x (by simp[hx])) hr
   rw[List.flatten_cons,Nat.add_mul,Nat.one_mul,Nat.add_comm,←List.drop_drop,List.drop_left' hs]
   exact this
end Go.Cx
namespace Go.Cx
set_option linter.unusedVariables false
set_option linter.unusedSimpArgs false
open Go.RowKit
def w5:List (Nat×(List Value→Prop)):=[(3,fun cs:List Value=>cs=[.int .u64 1,.int .u64 10,.int .u64 100,.int .u64 1000,.int .u64 10000,.int .u64 100000,.int .u64 1000000,.int .u64 10000000,.int .u64 100000000,.int .u64 1000000000,.int .u64 10000000000,.int .u64 100000000000,.int .u64 1000000000000,.int .u64 10000000000000,.int .u64 100000000000000,.int .u64 1000000000000000,.int .u64 10000000000000000,.int .u64 100000000000000000,.int .u64 1000000000000000000,.int .u64 10000000000000000000]),(1,fun cs:List Value=>∃tp p,cs=[Value.iface tp p])]
def VsB(w:World)(B:Nat→Prop):Prop:=∀x∈w5,B x.1∧∃cs t z,w.heap[x.1]?=some (.cells cs t z)∧x.2 cs.toList
def T4(w:World)(X:Nat→Prop):Prop:=∃B:Nat→Prop,VsB w B∧∀b,B b→b<w.heap.size∧¬X b
def X7:List (Nat×List D):=[]
def a9o(g:Nat)(ds:List D):Prop:=∃p,(g,p)∈w5∧∀cs:List Value,p cs→∀(o:Nat) d,ds[o]?=some d→∃v,cs[o]?=some v∧∀w,Rd w v d []
theorem a1D:∀x∈X7,a9o x.1 x.2:=by intro x hx;cases hx
def a2h(g o:Nat):Option D:=(X7.find? fun x=>x.1==g).bind fun x=>x.2[o]?
theorem a5I{g o:Nat}{d:D}(h:a2h g o=some d):∃ds,a9o g ds∧ds[o]?=some d:=by
 unfold a2h at h
 cases hf:X7.find? fun x=>x.1==g with
 |none=>rw[hf]at h;cases h
 |some x=>
  rw[hf,Option.bind_some]at h
  have h1:=List.find?_some hf
  have h2:=List.mem_of_find?_eq_some hf
  have e:x.1=g:=by simpa using h1
  exact⟨x.2,by rw[←e];exact a1D x h2,h⟩
theorem VsB.stays{w w':World}{B:Nat→Prop}(h:VsB w B)(hb:∀b,B b→w'.heap[b]?=w.heap[b]?):VsB w' B:=fun x hx=>by
 obtain⟨h1,cs,t,z,h2,h3⟩:=h x hx
 exact⟨h1,cs,t,z,by rw[hb _ h1,h2],h3⟩
theorem T4.none{w:World}{X:Nat→Prop}(h:T4 w X):T4 w fun _=>False:=by
 obtain⟨B,h1,h2⟩:=h
 exact⟨B,h1,fun b hb=>⟨(h2 b hb).1,id⟩⟩
theorem T4.cells{w:World}{X:Nat→Prop}(h:T4 w X){g:Nat}{p:List Value→Prop}(hx:(g,p)∈w5):∃cs t z,w.heap[g]?=some (.cells cs t z)∧p cs.toList:=by
 obtain⟨B,h1,h2⟩:=h
 exact(h1 _ hx).2
theorem T4.var{P:Program}{w:World}{X:Nat→Prop}(h:T4 w X){g:Nat}{p:List Value→Prop}{name:String}(hx:(g,p)∈w5)(hg:P.globalNamed name=some g):∃cs,w.var? P name=some cs∧p cs.toList:=by
 obtain⟨cs,t,z,h1,h2⟩:=h.cells hx
 refine⟨cs,?_,h2⟩
 unfold World.var?
 rw[hg,Option.bind_some,h1]
theorem T4.aAs{P:Program}{w:World}(hs:∀x∈w5,∃name cs,P.globalNamed name=some x.1∧w.var? P name=some cs∧x.2 cs.toList):T4 w fun _=>False:=by
 refine⟨fun b=>b∈w5.map Prod.fst,fun x hx=>?_,fun b hb=>?_⟩
 ·obtain⟨name,cs,h1,h2,h3⟩:=hs x hx
  unfold World.var? at h2
  rw[h1,Option.bind_some]at h2
  refine⟨List.mem_map.2 ⟨x,hx,rfl⟩,?_⟩
  split at h2
  ·rename_i cs' t z h4
   cases h2
   exact⟨_,t,z,h4,h3⟩
  ·cases h2
 ·obtain⟨x,hx,rfl⟩:=List.mem_map.1 hb
  obtain⟨name,cs,h1,h2,h3⟩:=hs x hx
  unfold World.var? at h2
  rw[h1,Option.bind_some]at h2
  refine⟨?_,id⟩
  split at h2
  ·rename_i cs' t z h4
   exact(Array.getElem?_eq_some_iff.1 h4).1
  ·cases h2
theorem T4.nil{w:World}(h:w5=[]):T4 w fun _=>False:=by
 refine⟨fun _=>False,?_,fun _ hb=>hb.elim⟩
 intro x hx
 rw[h]at hx
 cases hx
end Go.Cx
namespace Go.Cx
set_option linter.unusedVariables false
set_option linter.unusedSimpArgs false
open Go.RowKit
structure uK where
 W0:World
 Θ0:Nat→Nat
 X:Nat→Prop
 nt:Nat
 U:Nat→Prop
 vs:T4 W0 X
inductive RK where
 |sh
 |uq
 |cl
 |mv (n:Nat)
def RK.X8:RK→Bool
 | .cl=>false
 |_=>true
def RK.hand:RK→Bool
 | .sh=>true
 | .uq=>true
 |_=>false
inductive Ob where
 |box (cells:List D)
 |SI (cells:List D) (v:Value)
 |row (k:RK) (e:TypeId) (sz:Nat) (rows:List (List D))
 |w8 (sz:Nat) (rows:List (List D)) (v:Option Value)
 |hole (sz:Nat) (rows:List (List D)) (v:Option Value) (p n:Nat)
 |mp (kv:List (D×D))
 |tk (rows:List (List D))
 |gone
def Ob.cs?:Ob→Option (List D)
 | .box c=>some c
 | .SI c _=>some c
 |_=>none
def Ob.re(o:Ob)(c:List D):Ob:=match o with
 | .SI _ v=>.SI c v
 |_=>.box c
structure St where
 σ:List (Nat×D)
 H:List Ob
def lk:List (Nat×D)→Nat→D
 | [],_=>.any
 | (t,d)::r,n=>if n=t then d else lk r n
def D.ofV:Value→D
 | .bool b=>.bool b
 | .int k n=>if rC k n then .int k n else .val (.int k n)
 | .string s=>if s.size≤maxLen then .str s.data.toList else .val (.string s)
 | .slice none 0 0=>.nil
 |v=>.val v
def St.ev(st:St):Operand→D
 | .tmp t=>lk st.σ t
 | .const v=>D.ofV v
 | .global g=>.val (.pointer (some ⟨g,0,none⟩))
 | .func f=>.val (.func (.func f) #[] #[])
def St.set(st:St)(t:Nat)(d:D):St:=⟨(t,d)::st.σ,st.H⟩
def St.put(st:St)(t:Option Nat)(d:D):St:=match t with|some t=>st.set t d|none=>st
inductive yK(w:World)(κ:Nat→Option Value):Value→D→List Nat→Prop
 |pure {v:Value} {d:D} {bs:List Nat}:Rd w v d bs→yK w κ v d bs
 |acc (id:Nat) (v:Value):κ id=some v→yK w κ v (.acc id) []
 |ptr (id off b:Nat):κ id=some (.pointer (some ⟨b,0,none⟩))→yK w κ (.pointer (some ⟨b,off,none⟩)) (.ptr id off) []
 |op (id i sz off b o0 len cap:Nat):κ id=some (.slice (some ⟨b,o0,none⟩) len cap)→yK w κ (.pointer (some ⟨b,o0+(i*sz+off),none⟩)) (.op id i sz off) []
inductive c8(w:World)(κ:Nat→Option Value):List Value→List D→List Nat→Prop
 |nil:c8 w κ [] [] []
 |cons (v:Value) (vs:List Value) (d:D) (ds:List D) (b1 b2:List Nat):v.oneCell'=true→yK w κ v d b1→c8 w κ vs ds b2→c8 w κ (v::vs) (d::ds) (b1++b2)
inductive TF(w:World)(κ:Nat→Option Value):Value→D→List Nat→Prop
 |cell {v:Value} {d:D} {bs:List Nat}:yK w κ v d bs→TF w κ v d bs
 |agg (cs:List Value) (ds:List D) (bs:List Nat):c8 w κ cs ds bs→TF w κ (.agg cs.toArray) (.agg ds) bs
inductive D6(w:World)(κ:Nat→Option Value):List Value→List D→List Nat→Prop
 |nil:D6 w κ [] [] []
 |cons (v:Value) (vs:List Value) (d:D) (ds:List D) (b1 b2:List Nat):TF w κ v d b1→D6 w κ vs ds b2→D6 w κ (v::vs) (d::ds) (b1++b2)
inductive qW(w:World)(κ:Nat→Option Value):Value→D→List Nat→Prop
 |v {v:Value} {d:D} {bs:List Nat}:TF w κ v d bs→qW w κ v d bs
 |iJ (vs:List Value) (ds:List D) (bs:List Nat):D6 w κ vs ds bs→qW w κ (.tuple vs.toArray) (.iJ ds) bs
theorem qW.of{w:World}{κ:Nat→Option Value}{v:Value}{d:D}{bs:List Nat}(h:Rd w v d bs):qW w κ v d bs:=.v (.cell (.pure h))
def Wr(w:World)(b:Nat):Prop:=∃cs T,w.heap[b]?=some (.cells cs T (0,0))
def RdH(w:World)(κ:Nat→Option Value)(v:Value)(rows:List (List D))(p n:Nat)(bs:List Nat):Prop:=
 ∃b off cap cs ns,v=.slice (some ⟨b,off,none⟩) rows.length cap∧b<w.heap.size∧rows.length≤cap∧cap≤maxLen∧(∀j c,cs[j]?=some c→w.cell? ⟨b,off+j,none⟩=some c)∧jN w cs rows.flatten ns∧bs=b::ns∧
  ∃c,cs[p]?=some c∧κ n=some c
def z7(w:World)(es:List MapEntry)(kv:List (D×D)):Prop:=
 es.length=kv.length∧∀(j:Nat) e p,es[j]?=some e→kv[j]?=some p→Rd w e.key p.1 []∧Rd w e.val p.2 []
theorem z7.stay{w w':World}{es:List MapEntry}{kv:List (D×D)}(h:z7 w es kv):z7 w' es kv:=
 ⟨h.1,fun j e p h1 h2=>⟨(h.2 j e p h1 h2).1.keep (by simp),(h.2 j e p h1 h2).2.keep (by simp)⟩⟩
def w9(w:World)(κ:Nat→Option Value)(Θ:Nat→Nat)(id:Nat):Ob→Prop
 | .box cells=>∃g cs T,κ id=some (.pointer (some ⟨g,0,none⟩))∧w.heap[g]?=some (.cells cs T (0,0))∧Θ g=id+2∧
  ∃bs,c8 w κ cs.toList cells bs∧∀b∈bs,Θ b=0
 | .SI cells u=>κ id=some u∧∃g cs T,κ id=some (.pointer (some ⟨g,0,none⟩))∧w.heap[g]?=some (.cells cs T (0,0))∧Θ g=id+2∧
  ∃bs,c8 w κ cs.toList cells bs∧∀b∈bs,Θ b=0
 | .row k e sz rows=>0<sz∧(∀r∈rows,r.length=sz)∧∃v cs bs,κ id=some v∧w.ownsRow 0 e sz v rows.length cs∧jN w cs rows.flatten bs∧
  (∀g,v.ownBlock=some g→Θ g=id+2)∧
  (match k with
   | .cl=>bs.Nodup∧(∀b∈bs,Θ b=id+2∧Wr w b)∧∀g,v.ownBlock=some g→g∉bs
   |_=>∀b∈bs,Θ b=0)
 | .w8 sz rows u=>(∀r∈rows,r.length=sz)∧(∀x,u=some x→κ id=some x)∧∃v bs,κ id=some v∧Rd w v (.sl rows) bs∧bs.Nodup∧∀b∈bs,Θ b=id+2∧Wr w b
 | .hole sz rows u p n=>(∀r∈rows,r.length=sz)∧(∀x,u=some x→κ id=some x)∧∃v bs,κ id=some v∧RdH w κ v rows p n bs∧bs.Nodup∧∀b∈bs,Θ b=id+2∧Wr w b
 | .mp kv=>∃g es clock,κ id=some (.map (some g))∧w.heap[g]?=some (.map es clock)∧Θ g=id+2∧z7 w es.toList kv
 | .tk rows=>∃v bs,κ id=some v∧Rd w v (.sl rows) bs∧∀b∈bs,Θ b=0
 | .gone=>True
def BM(Γ:uK)(b:Nat):Prop:=Γ.W0.heap.size≤b∨Γ.X b
def a5J(Γ:uK)(b:Nat):Prop:=BM Γ b∨Γ.U b
theorem w9.cs{w:World}{κ:Nat→Option Value}{Θ:Nat→Nat}{id:Nat}{o:Ob}{cells:List D}(hc:o.cs?=some cells)(h:w9 w κ Θ id o):
 ∃g cs T,κ id=some (.pointer (some ⟨g,0,none⟩))∧w.heap[g]?=some (.cells cs T (0,0))∧Θ g=id+2∧∃bs,c8 w κ cs.toList cells bs∧∀b∈bs,Θ b=0:=by
 cases o<;>simp only[Ob.cs?,reduceCtorEq,Option.some.injEq]at hc
 ·subst hc;exact h
 ·subst hc;exact h.2
theorem w9.aCx{w w':World}{κ κ':Nat→Option Value}{Θ Θ':Nat→Nat}{id:Nat}{o:Ob}{cells cells':List D}(hc:o.cs?=some cells)(h:w9 w κ Θ id o)(hk:∀v,κ id=some v→κ' id=some v)
 (h':∃g cs T,κ' id=some (.pointer (some ⟨g,0,none⟩))∧w'.heap[g]?=some (.cells cs T (0,0))∧Θ' g=id+2∧∃bs,c8 w' κ' cs.toList cells' bs∧∀b∈bs,Θ' b=0):w9 w' κ' Θ' id (o.re cells'):=by
 cases o<;>simp only[Ob.cs?,reduceCtorEq,Option.some.injEq]at hc
 ·exact h'
 ·exact⟨hk _ h.1,h'⟩
structure a2i(Γ:uK)(w:World):Prop where
 os:w.os=Γ.W0.os
 tape:w.tape=Γ.W0.tape
 output:w.output=Γ.W0.output
 size:Γ.W0.heap.size≤w.heap.size
 block:∀b,b<Γ.W0.heap.size→¬Γ.X b→w.heap[b]?=Γ.W0.heap[b]?
def SJ(w:World)(κ:Nat→Option Value)(ρ:Nat→Nat)(id:Nat):Ob→Prop
 | .row (.mv n) e sz rows=>∃v cs bs,κ id=some v∧w.ownsRow 0 e sz v rows.length cs∧jN w (cs.drop (n*sz)) (rows.drop n).flatten bs∧bs.Nodup∧∀b∈bs,ρ b=id+1
 | .tk rows=>∃v bs,κ id=some v∧Rd w v (.sl rows) bs∧bs.Nodup∧∀b∈bs,ρ b=id+1
 |_=>True
structure BA(Γ:uK)(H:List Ob)(κ:Nat→Option Value)(Θ:Nat→Nat)(w:World)(ρ:Nat→Nat):Prop where
 free:∀b,ρ b≠0→Θ b=0∧a5J Γ b∧Wr w b
 rows:∀id e sz rows,H[id]?=some (.row .uq e sz rows)→∃v cs bs,κ id=some v∧w.ownsRow 0 e sz v rows.length cs∧jN w cs rows.flatten bs∧bs.Nodup∧∀b∈bs,ρ b=id+1
 more:∀id o,H[id]?=some o→SJ w κ ρ id o
structure bN(Γ:uK)(st:St)(κ:Nat→Option Value)(Θ:Nat→Nat)(a:Act)(w:World):Prop where
 defers:a.defers=[]
 size:a.tmps.size=Γ.nt
 oG:∀id,st.H.length≤id→κ id=none
 o4:∀(id:Nat) u,κ id=some u→u.oneCell'=true
 slot:∀t,∃bs,qW w κ (a.tmps.getD t undef) (lk st.σ t) bs∧∀b∈bs,Θ b=0
 ob:∀id o,st.H[id]?=some o→w9 w κ Θ id o
 own:∀b,Θ b≠0→b<w.heap.size
 old:∀b,b<Γ.W0.heap.size→¬Γ.X b→Θ b=Γ.Θ0 b∧Θ b≤1
 mine:∀b,2≤Θ b→BM Γ b
 stays:a2i Γ w
 tC:∃ρ,BA Γ st.H κ Θ w ρ
theorem bN.vsb{Γ:uK}{st:St}{κ:Nat→Option Value}{Θ:Nat→Nat}{a:Act}{w:World}(h:bN Γ st κ Θ a w):∃B:Nat→Prop,VsB w B∧∀b,B b→b<Γ.W0.heap.size∧b<w.heap.size∧¬Γ.X b:=by
 obtain⟨B,h1,h2⟩:=Γ.vs
 exact⟨B,h1.stays fun b hb=>h.stays.block b (h2 b hb).1 (h2 b hb).2,fun b hb=>⟨(h2 b hb).1,Nat.lt_of_lt_of_le (h2 b hb).1 h.stays.size,(h2 b hb).2⟩⟩
theorem bN.vok{Γ:uK}{st:St}{κ:Nat→Option Value}{Θ:Nat→Nat}{a:Act}{w:World}(h:bN Γ st κ Θ a w):T4 w fun _=>False:=by
 obtain⟨B,h1,h2⟩:=h.vsb
 exact⟨B,h1,fun b hb=>⟨(h2 b hb).2.1,id⟩⟩
def AW(P:Program)(Γ:uK)(c:Code)(Q:Exit→St→Prop)(st:St):Prop:=
 ∀κ Θ a w,bN Γ st κ Θ a w→c.wp P (fun e a' w'=>∃uL κ' Θ',bN Γ uL κ' Θ' a' w'∧Q e uL) a w
def AO(P:Program)(Γ:uK)(all:Array Oper)(ops:List Oper)(Q:Exit→St→Prop)(st:St):Prop:=
 ∀κ Θ a w,bN Γ st κ Θ a w→wpList P all (fun e a' w'=>∃uL κ' Θ',bN Γ uL κ' Θ' a' w'∧Q e uL) ops a w
section
variable{P:Program}{Γ:uK}{Q:Exit→St→Prop}{st:St}
theorem a8S(h:Q .normal st):AW P Γ .skip Q st:=fun _ _ _ _ hs=>wp_skip ⟨_,_,_,hs,h⟩
theorem aAu(h:Q .ret st):AW P Γ .ret Q st:=fun _ _ _ _ hs=>wp_ret ⟨_,_,_,hs,h⟩
theorem a8T{id:Nat}(h:Q (.exit id) st):AW P Γ (.exit id) Q st:=fun _ _ _ _ hs=>wp_exit ⟨_,_,_,hs,h⟩
def a5K(next:St→Prop)(Q:Exit→St→Prop):Exit→St→Prop
 | .normal,st=>next st
 |e,st=>Q e st
def X9(id:Nat)(Q:Exit→St→Prop):Exit→St→Prop
 | .exit id',st=>if id'=id then Q .normal st else Q (.exit id') st
 |e,st=>Q e st
theorem aAv{x y:Code}(h:AW P Γ x (a5K (AW P Γ y Q) Q) st):AW P Γ (.seq x y) Q st:=by
 intro κ Θ a w hs
 refine wp_seq (wp_mono (h κ Θ a w hs) ?_)
 rintro e a' w' ⟨uL,κ',Θ',hs',hq⟩
 cases e with
 |normal=>exact hq κ' Θ' a' w' hs'
 |exit id=>exact⟨_,_,_,hs',hq⟩
 |goto l=>exact⟨_,_,_,hs',hq⟩
 |ret=>exact⟨_,_,_,hs',hq⟩
 |panic c=>exact⟨_,_,_,hs',hq⟩
 |outgrown=>exact⟨_,_,_,hs',hq⟩
theorem a5L{id:Nat}{c:Code}(h:AW P Γ c (X9 id Q) st):AW P Γ (.block id c) Q st:=by
 intro κ Θ a w hs
 refine wp_block (wp_mono (h κ Θ a w hs) ?_)
 rintro e a' w' ⟨uL,κ',Θ',hs',hq⟩
 cases e with
 |exit id'=>
  simp only[Exit.inBlock,X9]at hq⊢
  split
  ·rename_i he;rw[if_pos he]at hq;exact⟨_,_,_,hs',hq⟩
  ·rename_i he;rw[if_neg he]at hq;exact⟨_,_,_,hs',hq⟩
 |normal=>exact⟨_,_,_,hs',hq⟩
 |goto l=>exact⟨_,_,_,hs',hq⟩
 |ret=>exact⟨_,_,_,hs',hq⟩
 |panic c=>exact⟨_,_,_,hs',hq⟩
 |outgrown=>exact⟨_,_,_,hs',hq⟩
theorem a3l{id:Nat}{l:List Oper}(h:AO P Γ l.toArray l Q st):AW P Γ (.region id l.toArray false) Q st:=
 fun κ Θ a w hs=>wp_region_lit (h κ Θ a w hs)
theorem aAw{all:Array Oper}(h:Q .normal st):AO P Γ all [] Q st:=fun _ _ _ _ hs=>wpList_nil ⟨_,_,_,hs,h⟩
end
section
variable{w:World}{κ:Nat→Option Value}{v:Value}{bs:List Nat}
theorem qW.pG{k:IntKind}{n:Int}(h:qW w κ v (.int k n) bs):v=.int k n:=by
 cases h with|v h=>cases h with|cell h=>cases h with|pure h=>cases h;rfl
theorem qW.TG{k:IntKind}{n:Int}(h:qW w κ v (.int k n) bs):rC k n:=by
 cases h with|v h=>cases h with|cell h=>cases h with|pure h=>cases h with|int _ _ hr=>exact hr
theorem qW.a5M{s:Bytes}(h:qW w κ v (.str s) bs):s.length≤maxLen:=by
 cases h with|v h=>cases h with|cell h=>cases h with|pure h=>cases h with|str x hx=>simpa using hx
theorem qW.wA{b:Bool}(h:qW w κ v (.bool b) bs):v=.bool b:=by
 cases h with|v h=>cases h with|cell h=>cases h with|pure h=>cases h;rfl
theorem qW.tY{s:Bytes}(h:qW w κ v (.str s) bs):∃x:ByteArray,v=.string x∧x.data.toList=s:=by
 cases h with|v h=>cases h with|cell h=>cases h with|pure h=>cases h;exact⟨_,rfl,rfl⟩
theorem qW.a2j{u:Value}(h:qW w κ v (.val u) bs):v=u:=by
 cases h with|v h=>cases h with|cell h=>cases h with|pure h=>cases h;rfl
theorem qW.O0(h:qW w κ v .nil bs):v=.slice none 0 0:=by
 cases h with|v h=>cases h with|cell h=>cases h with|pure h=>cases h;rfl
theorem qW.XA{rows:List (List D)}(h:qW w κ v (.sl rows) bs):Rd w v (.sl rows) bs:=by
 cases h with|v h=>cases h with|cell h=>cases h with|pure h=>exact h
theorem qW.a1F{row:List D}{o:Nat}(h:qW w κ v (.ep row o) bs):Rd w v (.ep row o) bs:=by
 cases h with|v h=>cases h with|cell h=>cases h with|pure h=>exact h
theorem qW.vC{id:Nat}(h:qW w κ v (.acc id) bs):κ id=some v∧bs=[]:=by
 cases h with|v h=>cases h with|cell h=>cases h with|pure h=>cases h|acc _ _ hk=>exact⟨hk,rfl⟩
theorem qW.zO{id off:Nat}(h:qW w κ v (.ptr id off) bs):∃b,κ id=some (.pointer (some ⟨b,0,none⟩))∧v=.pointer (some ⟨b,off,none⟩):=by
 cases h with|v h=>cases h with|cell h=>cases h with|pure h=>cases h|ptr _ _ b hk=>exact⟨b,hk,rfl⟩
theorem qW.FJ{id i sz off:Nat}(h:qW w κ v (.op id i sz off) bs):∃b o0 len cap,κ id=some (.slice (some ⟨b,o0,none⟩) len cap)∧v=.pointer (some ⟨b,o0+(i*sz+off),none⟩):=by
 cases h with|v h=>cases h with|cell h=>cases h with|pure h=>cases h|op _ _ _ _ b o0 len cap hk=>exact⟨b,o0,len,cap,hk,rfl⟩
theorem c8.E8{vs:List Value}{ds:List D}(h:jN w vs ds bs):c8 w κ vs ds bs:=by
 induction ds generalizing vs bs with
 |nil=>cases h;exact .nil
 |cons d ds ih=>cases h with|cons v vs _ _ b1 b2 h1 h2 h3=>exact .cons _ _ _ _ _ _ h1 (.pure h2) (ih h3)
theorem D7{w:World}{e sz b o0 len cap n:Nat}{cs:List Value}(h:w.ownsRow 0 e sz (.slice (some ⟨b,o0,none⟩) len cap) n cs):o0=0:=by
 rcases h.2 with⟨h,_⟩|⟨g,cap,cur,h,_⟩
 ·cases h
 ·cases h;rfl
theorem qW.IF{ds:List D}(h:qW w κ v (.agg ds) bs):∃cs:List Value,v=.agg cs.toArray∧c8 w κ cs ds bs:=by
 cases h with
 |v h=>
  cases h with
  |cell h=>cases h with|pure h=>cases h with|agg cs _ _ h=>exact⟨cs,rfl,c8.E8 h⟩
  |agg cs _ _ h=>exact⟨cs,rfl,h⟩
theorem c8.length{vs:List Value}{ds:List D}(h:c8 w κ vs ds bs):vs.length=ds.length:=by
 induction ds generalizing vs bs with
 |nil=>cases h;rfl
 |cons d ds ih=>cases h with|cons v vs _ _ b1 b2 h1 h2 h3=>simp[ih h3]
theorem c8.one{vs:List Value}{ds:List D}(h:c8 w κ vs ds bs):∀v∈vs,v.oneCell'=true:=by
 induction ds generalizing vs bs with
 |nil=>cases h;simp
 |cons d ds ih=>
  cases h with
  |cons v vs _ _ b1 b2 h1 h2 h3=>
   intro u hu
   rcases List.mem_cons.1 hu with rfl|hu
   ·exact h1
   ·exact ih h3 u hu
theorem c8.app{vs us:List Value}{ds es:List D}{cs:List Nat}(h:c8 w κ vs ds bs)(k:c8 w κ us es cs):c8 w κ (vs++us) (ds++es) (bs++cs):=by
 induction ds generalizing vs bs with
 |nil=>cases h;simpa using k
 |cons d ds ih=>
  cases h with
  |cons v vs _ _ b1 b2 h1 h2 h3=>
   rw[List.append_assoc]
   exact .cons _ _ _ _ _ _ h1 h2 (ih h3)
theorem c8.split{vs:List Value}{ds es:List D}(h:c8 w κ vs (ds++es) bs):
 ∃v1 v2 b1 b2,vs=v1++v2∧bs=b1++b2∧c8 w κ v1 ds b1∧c8 w κ v2 es b2:=by
 induction ds generalizing vs bs with
 |nil=>exact⟨[],vs,[],bs,by simp,by simp,.nil,h⟩
 |cons d ds ih=>
  cases h with
  |cons v vs _ _ b1 b2 h1 h2 h3=>
   obtain⟨v1,v2,c1,c2,rfl,rfl,k1,k2⟩:=ih h3
   exact⟨v::v1,v2,b1++c1,c2,by simp,by simp,.cons _ _ _ _ _ _ h1 h2 k1,k2⟩
theorem c8.mid{vs:List Value}{ds:List D}(h:c8 w κ vs ds bs)(i n:Nat)(hn:i+n≤ds.length):
 ∃b,c8 w κ ((vs.drop i).take n) ((ds.drop i).take n) b∧∀x∈b,x∈bs:=by
 have e:ds=ds.take i++((ds.drop i).take n++(ds.drop i).drop n):=by rw[List.take_append_drop,List.take_append_drop]
 rw[e]at h
 obtain⟨v1,v2,b1,b2,rfl,rfl,k1,k2⟩:=h.split
 obtain⟨v3,v4,b3,b4,rfl,rfl,k3,k4⟩:=k2.split
 refine⟨b3,?_,by intro x hx;simp[hx]⟩
 have h1:v1.length=i:=by rw[k1.length];simp;omega
 have h3:v3.length=n:=by rw[k3.length];simp;omega
 rw[List.drop_left' h1,List.take_left' h3]
 exact k3
theorem c8.at{vs:List Value}{ds:List D}(h:c8 w κ vs ds bs){i:Nat}{d:D}(hd:ds[i]?=some d):
 ∃v b,vs[i]?=some v∧v.oneCell'=true∧yK w κ v d b∧∀x∈b,x∈bs:=by
 induction ds generalizing vs bs i with
 |nil=>simp at hd
 |cons e ds ih=>
  cases h with
  |cons v vs _ _ b1 b2 h1 h2 h3=>
   cases i with
   |zero=>simp at hd;subst hd;exact⟨v,b1,by simp,h1,h2,by intro x hx;simp[hx]⟩
   |succ i=>
    simp at hd
    obtain⟨u,b,k1,k2,k3,k4⟩:=ih h3 hd
    exact⟨u,b,by simpa using k1,k2,k3,fun x hx=>by simp[k4 x hx]⟩
theorem a1G(v:Value):qW w κ v (D.ofV v) []:=by
 unfold D.ofV
 split
 ·exact .of (.bool _)
 ·split
  ·rename_i h;exact .of (.int _ _ h)
  ·exact .of (.val _)
 ·split
  ·rename_i h;exact .of (.str _ h)
  ·exact .of (.val _)
 ·exact .of .nil
 ·exact .of (.val _)
end
section
variable{Γ:uK}{st:St}{κ:Nat→Option Value}{Θ:Nat→Nat}{a:Act}{w:World}
theorem bN.ev(h:bN Γ st κ Θ a w)(x:Operand):∃bs,qW w κ (a.eval x) (st.ev x) bs∧∀b∈bs,Θ b=0:=by
 cases x with
 |tmp t=>exact h.slot t
 |const v=>exact⟨[],a1G v,by simp⟩
 |global g=>exact⟨[],.of (.val _),by simp⟩
 |func f=>exact⟨[],.of (.val _),by simp⟩
theorem bN.set(h:bN Γ st κ Θ a w){t:Nat}{v:Value}{d:D}{bs:List Nat}(ht:t<Γ.nt)(hv:qW w κ v d bs)(hb:∀b∈bs,Θ b=0):
 bN Γ (st.set t d) κ Θ (a.put (some t) v) w:=by
 refine⟨h.defers,by simp[Act.put,h.size],h.oG,h.o4,?_,h.ob,h.own,h.old,h.mine,h.stays,h.tC⟩
 intro u
 show∃bs,qW w κ ((a.tmps.setIfInBounds t v).getD u undef) (if u=t then d else lk st.σ u) bs∧_
 have hsz:=h.size
 by_cases hu:u=t
 ·subst hu
  rw[if_pos rfl]
  have:(a.tmps.setIfInBounds u v).getD u undef=v:=by
   simp[Array.getD_eq_getD_getElem?,hsz,ht]
  rw[this]
  exact⟨bs,hv,hb⟩
 ·rw[if_neg hu]
  have:(a.tmps.setIfInBounds t v).getD u undef=a.tmps.getD u undef:=by
   simp[Array.getD_eq_getD_getElem?,Ne.symm hu]
  rw[this]
  exact h.slot u
end
end Go.Cx
namespace Go.Cx
set_option linter.unusedVariables false
set_option linter.unusedSimpArgs false
open Go.RowKit
def zP(P:Program)(t:TypeId):Option Bool:=
 match P.underlying t with
 |some (.struct _)=>some true
 |some (.array _ _)=>some true
 |some _=>some false
 |none=>none
def A6(P:Program)(t:TypeId):Nat:=P.cellsOf t
def tfo(P:Program)(t f:Nat):Option Nat:=
 match P.underlying t with
 |some (.struct fs)=>(match fs[f]? with
  |some x=>if(P.info? x.type).isSome∧P.cellsOf x.type≠0 then some x.offset else none
  |none=>none)
 |_=>none
def tft(P:Program)(t f:Nat):Option (Nat×TypeId):=
 match P.underlying t with
 |some (.struct fs)=>(match fs[f]? with|some x=>some (x.offset,x.type)|none=>none)
 |_=>none
def IG(P:Program)(t:TypeId):Option (TypeId×Nat):=
 match P.underlying t with
 |some (.slice e)=>if(P.info? e).isSome then some (e,P.cellsOf e)else none
 |_=>none
def aAx(P:Program)(t:TypeId):Option (Nat×Nat):=
 match P.underlying t with
 |some (.array n e)=>if(P.info? e).isSome then some (P.cellsOf e,n)else none
 |_=>none
def QN(P:Program)(t:TypeId):Bool:=match P.underlying t with|some .string=>true|_=>false
def a1H(P:Program)(t:TypeId):Option IntKind:=match P.underlying t with|some (.int k)=>some k|_=>none
def a9p(P:Program)(t:TypeId):Bool:=match P.underlying t with|some .bool=>true|_=>false
def a2k(P:Program)(t:TypeId):Bool:=match P.underlying t with
 |some (.struct fs)=>match fs.toList with
  | [f,g]=>f.name != "_" &&g.name != "_" &&f.offset==0&&g.offset==1&&QN P f.type&&QN P g.type&& !P.stoodInHeld t&& !P.eqGuardType P.depth t
  |_=>false
 |_=>false
def peq(P:Program)(op:BinOp)(t:TypeId):D→D→Option D
 | .bool a,.bool b=>if a9p P t=true then match op with| .eql=>some (.bool (a==b))| .neq=>some (.bool (a != b))|_=>none else none
 | .agg [.str a,.str b],.agg [.str c,.str d]=>if a2k P t=true then match op with| .eql=>some (.bool (a==c&&b==d))| .neq=>some (.bool (!(a==c&&b==d)))|_=>none else none
 |_,_=>none
def aAy(P:Program)(t:TypeId):Bool:=match P.underlying t with|some (.interface _)=>true|_=>false
def aAz(P:Program)(op:BinOp)(t:TypeId)(x:D)(y:Operand):Option D:=match x,y with
 | .ifc b,.const .nilIface=>(match aAy P t,op with|true,.eql=>some (.bool (!b))|true,.neq=>some (.bool b)|_,_=>none)
 |_,_=>none
def a3m(op:BinOp):D→D→Option D
 | .int k a,.int k' b=>
  if k=k' then
   match op with
   | .add=>some (.int k (k.wrap (a+b)))
   | .sub=>some (.int k (k.wrap (a-b)))
   | .mul=>some (.int k (k.wrap (a*b)))
   | .quo=>if 0≤a∧0<b then some (.int k (a/b))else none
   | .rem=>if 0≤a∧0<b then some (.int k (a%b))else none
   | .eql=>some (.bool (a==b))
   | .neq=>some (.bool (a != b))
   | .lss=>some (.bool (a<b))
   | .leq=>some (.bool (a≤b))
   | .gtr=>some (.bool (a>b))
   | .geq=>some (.bool (a≥b))
   |_=>none
  else none
 | .str a,.str b=>
  match op with
  | .add=>if a.length+b.length≤maxLen then some (.str (a++b))else none
  | .eql=>some (.bool (a==b))
  | .neq=>some (.bool (!(a==b)))
  | .lss=>some (.bool (Op.bytesLess a b))
  | .leq=>some (.bool (Op.bytesLess a b||a==b))
  | .gtr=>some (.bool (!(Op.bytesLess a b||a==b)))
  | .geq=>some (.bool (!(Op.bytesLess a b)))
  |_=>none
 |_,_=>none
def KV(ag:Bool)(n:Nat)(row:List D)(off:Nat):Option D:=
 if ag then(if off+n≤row.length then some (.agg ((row.drop off).take n))else none)else row[off]?
def SK(len:Nat)(lo hi:Option D):Option (Nat×Nat):=
 match(match hi with|none=>some len|some (.int _ h)=>if 0≤h∧h.toNat≤len then some h.toNat else none|_=>none)with
 |none=>none
 |some h=>match(match lo with|none=>some 0|some (.int _ l)=>if 0≤l∧l.toNat≤h then some l.toNat else none|_=>none)with
  |none=>none
  |some l=>some (l,h)
def a8U(a b:Int):Int:=if b<a then b else a
def aB0:D→D→Option D
 | .int k m,.int k' n=>if k=k' then some (.int k (a8U m n))else none
 |_,_=>none
def a8V(P:Program)(st:St)(x:Operand)(t:TypeId):Option D:=
 match st.ev x with
 | .str s=>if QN P t then some (.int .i64 s.length)else none
 | .sl rows=>if(IG P t).isSome then some (.int .i64 rows.length)else none
 | .nil=>if(IG P t).isSome then some (.int .i64 0)else none
 | .acc id=>(match IG P t,st.H[id]? with|some _,some (.row _ _ _ rows)=>some (.int .i64 rows.length)|_,_=>none)
 |_=>none
def D.cellsOf:D→Option (List D)
 | .agg ds=>some ds
 | .any=>none
 | .iJ _=>none
 | .val v=>if v.oneCell' then some [.val v]else none
 |d=>some [d]
def tz(P:Program)(t:TypeId):Option (List D):=
 match P.info? t with
 |some i=>(match i.zero with
  |some z=>if z.cells.toList.all (fun c=>c.oneCell')&&z.cells.size==i.size then some (z.cells.toList.map D.ofV)else none
  |none=>none)
 |none=>none
def a2l(P:Program)(t:TypeId):Option (List (Nat×Nat)):=
 match P.underlying t with
 |some (.struct fs)=>fs.toList.mapM (fun f=>(P.info? f.type).map fun i=>(f.offset,i.size))
 |_=>none
def xM(places:List (Nat×Nat))(cells:List D):List (Nat×D)→Option (List D)
 | []=>some cells
 | (i,d)::rest=>match places[i]?,d.cellsOf with
  |some (off,sz),some ds=>if ds.length=sz∧off+sz≤cells.length then xM places (cells.take off++ds++cells.drop (off+sz)) rest else none
  |_,_=>none
def keq:D→D→Option Bool
 | .str a,.str b=>some (a==b)
 | .int k a,.int k' b=>if k=k' then some (a==b)else none
 |_,_=>none
def LD:TypeDesc→D→Bool
 | .string,.str _=>true
 | .int k,.int k' _=>decide (k=k')
 |_,_=>false
def FK(k:D):List (D×D)→Option (Option D)
 | []=>some none
 |p::r=>match keq k p.1 with|some true=>some (some p.2)|some false=>FK k r|none=>none
def O1(k v:D):List (D×D)→Option (List (D×D))
 | []=>some [(k,v)]
 |p::r=>match keq k p.1 with|some true=>some ((k,v)::r)|some false=>(O1 k v r).map (p:: ·)|none=>none
def a3n(P:Program)(T:TypeId):Option (TypeDesc×D):=
 match P.underlying T with
 |some (.map kt et)=>(match P.underlying kt,P.info? et with
  |some d,some i=>(match i.zero with|some z=>if z.oneCell'=true then some (d,D.ofV z)else none|none=>none)
  |_,_=>none)
 |_=>none
def plk(P:Program)(T:TypeId)(kv:List (D×D))(k:D)(ok:Bool):Option D:=
 match a3n P T with
 |some (kd,dz)=>(match LD kd k,FK k kv with
  |true,some (some d)=>some (bif ok then .iJ [d,.bool true]else d)
  |true,some none=>some (bif ok then .iJ [dz,.bool false]else dz)
  |_,_=>none)
 |none=>none
def a9q(k:IntKind)(a b:Int):Int:=k.wrap ((BitVec.ofInt k.bits a&&& BitVec.ofInt k.bits b).toNat)
def aCz(k:IntKind)(a b:Int):Int:=k.wrap ((BitVec.ofInt k.bits a|||BitVec.ofInt k.bits b).toNat)
def a9r(k:IntKind)(a b:Int):Int:=k.wrap ((BitVec.ofInt k.bits a^^^BitVec.ofInt k.bits b).toNat)
def a8W(k:IntKind)(a b:Int):Int:=a.fdiv (2^(min b.toNat k.bits))
def aB1(op:BinOp)(x y:D):Option D:=match x,y with
 | .int k a,.int k' b=>(match op with
  | .and=>if k=k' then some (.int k (a9q k a b))else none
  | .or=>if k=k' then some (.int k (aCz k a b))else none
  | .xor=>if k=k' then some (.int k (a9r k a b))else none
  | .shr=>if 0≤b then some (.int k (a8W k a b))else none
  |_=>none)
 |_,_=>none
theorem rC.shr{k:IntKind}{a:Int}(h:rC k a)(b:Int):rC k (a8W k a b):=by
 have hm:(0:Int)<2^(min b.toNat k.bits):=Int.pow_pos (by decide)
 unfold a8W
 rw[Int.fdiv_eq_ediv_of_nonneg _ (Int.le_of_lt hm)]
 generalize(2:Int)^(min b.toNat k.bits)=m at hm
 have hz:=rC.zero k
 rcases Int.lt_or_le a 0 with h0|h0
 ·refine⟨Int.le_trans h.1 (Int.le_ediv_of_mul_le hm ?_),Int.le_trans (Int.le_of_lt (Int.ediv_lt_of_lt_mul (b:=0) hm (by omega))) hz.2⟩
  have:a*m≤a*1:=Int.mul_le_mul_of_nonpos_left (Int.le_of_lt h0) (by omega)
  omega
 ·exact h.down (Int.ediv_nonneg h0 (Int.le_of_lt hm)) (Int.ediv_le_self m h0)
def pv(P:Program)(st:St):Op→Option D
 | .lookup T x i ok=>match st.ev x with
  | .acc id=>(match st.H[id]? with|some (.mp kv)=>plk P T kv (st.ev i) ok|_=>none)
  |_=>none
 | .build t parts=>match tz P t,a2l P t with
  |some zs,some ps=>(xM ps zs (parts.toList.map fun p=>(p.1,st.ev p.2))).map D.agg
  |_,_=>none
 | .move x=>some (st.ev x)
 | .assign x=>some (st.ev x)
 | .pick c a b=>match st.ev c with| .bool t=>some (bif t then st.ev a else st.ev b)|_=>none
 | .binOp op t x y _=>match a3m op (st.ev x) (st.ev y)with|some d=>some d|none=>(match peq P op t (st.ev x) (st.ev y)with|some d=>some d|none=>(match aAz P op t (st.ev x) y with|some d=>some d|none=>aB1 op (st.ev x) (st.ev y)))
 | .nilCheck x=>match st.ev x with| .ptr i o=>some (.ptr i o)| .op i a b c=>some (.op i a b c)| .ep r o=>some (.ep r o)|_=>none
 | .unOp .not _ x=>match st.ev x with| .bool b=>some (.bool (!b))|_=>none
 | .unOp .neg _ x=>match st.ev x with| .int k n=>some (.int k (k.wrap (0-n)))|_=>none
 | .convert s d x=>match st.ev x,a1H P s,a1H P d with| .int _ n,some _,some k=>some (.int k (k.wrap n))|_,_,_=>none
 | .field t x f=>match tft P t f,st.ev x with
  |some (off,ft),.agg cells=>(match zP P ft with|some ag=>KV ag (A6 P ft) cells off|none=>none)
  |_,_=>none
 | .fieldAddr t x f=>match tfo P t f,st.ev x with
  |some o,.ptr id off=>some (.ptr id (off+o))
  |some o,.ep row off=>some (.ep row (off+o))
  |some o,.op id i sz off=>some (.op id i sz (off+o))
  |_,_=>none
 | .indexAddr t x i=>match IG P t,st.ev x,st.ev i with
  |some (_,sz),.sl rows,.int _ n=>if 0≤n then(match rows[n.toNat]? with|some row=>if row.length=sz then some (.ep row 0)else none|none=>none)else none
  |some (_,sz),.acc id,.int _ n=>(match st.H[id]? with
   |some (.row _ _ sz' rows)=>if sz=sz'∧0≤n∧n.toNat<rows.length then some (.op id n.toNat sz 0)else none
   |_=>none)
  |_,.val (.pointer (some ⟨g,o,none⟩)),.int _ n=>(match aAx P t with
   |some (sz,len)=>if 0≤n∧n.toNat<len then some (.val (.pointer (some ⟨g,o+n.toNat*sz,none⟩)))else none
   |none=>none)
  |_,_,_=>none
 | .load t x=>match zP P t,st.ev x with
  |some ag,.ep row off=>KV ag (A6 P t) row off
  |some ag,.ptr id off=>(match(st.H[id]?).bind Ob.cs? with|some cells=>KV ag (A6 P t) cells off|none=>none)
  |some ag,.op id i sz off=>(match st.H[id]? with
   |some (.row k _ sz' rows)=>(match rows[i]? with|some row=>if sz'=sz∧k.X8=true∧off+(bif ag then A6 P t else 1)≤sz then KV ag (A6 P t) row off else none|none=>none)
   |_=>none)
  |some ag,.val (.pointer (some ⟨g,o,none⟩))=>(match ag with|false=>a2h g o|true=>none)
  |_,_=>none
 | .extract x i=>match st.ev x with| .iJ vs=>vs[i]? |_=>none
 | .index t x i=>match QN P t,st.ev x,st.ev i with
  |true,.str s,.int _ n=>if 0≤n then(match s[n.toNat]? with|some b=>some (.int .u8 b.toNat)|none=>none)else none
  |_,_,_=>none
 | .slice t x lo hi none=>match st.ev x with
  | .str s=>if QN P t then(match SK s.length (lo.map st.ev) (hi.map st.ev)with|some (l,h)=>some (.str ((s.take h).drop l))|none=>none)else none
  | .sl rows=>(match IG P t,SK rows.length (lo.map st.ev) (hi.map st.ev)with
   |some (_,sz),some (l,h)=>if(rows.all (fun r=>r.length==sz))then some (.sl ((rows.take h).drop l))else none
   |_,_=>none)
  |_=>none
 | .call c=>match c.callee,c.args.toList,c.argTypes.toList with
  | .builtin .len,[x],[t]=>a8V P st x t
  | .builtin .min,[x,y],[_,_]=>aB0 (st.ev x) (st.ev y)
  |_,_,_=>none
 |_=>none
section
variable{P:Program}{Γ:uK}{st:St}{κ:Nat→Option Value}{Θ:Nat→Nat}{a:Act}{w:World}
def wP(P:Program)(κ:Nat→Option Value)(Θ:Nat→Nat)(a:Act)(w:World)(o:Oper)(d:D):Prop:=
 ∃v bs,(execOp a.eval o).run P w=.ok (.value v) w∧qW w κ v d bs∧∀b∈bs,Θ b=0
theorem XB{n:Nat}(h:n≤maxLen):rC .i64 (n:Int):=by
 rw[rC.i64];unfold maxLen at h;omega
theorem dY{k:IntKind}{n:Int}(h:rC k n):k.wrap n=n:=by
 unfold rC at h
 cases k<;>simp[IntKind.min,IntKind.max,IntKind.wrap,IntKind.bits,IntKind.signed]at h⊢ <;>(try split)<;>omega
theorem a1I{o:Oper}{op:BinOp}{t t':TypeId}{x y:Operand}{d:D}(hs:bN Γ st κ Θ a w)(ho:o.op=.binOp op t x y t')
 (h:a3m op (st.ev x) (st.ev y)=some d):wP P κ Θ a w o d:=by
 obtain⟨b1,r1,_⟩:=hs.ev x
 obtain⟨b2,r2,_⟩:=hs.ev y
 generalize st.ev x=dx at*
 generalize st.ev y=dy at*
 unfold a3m at h
 split at h
 ·rename_i k p k' q
  split at h
  ·rename_i hk
   subst hk
   have e1:=r1.pG
   have e2:=r2.pG
   cases op<;>simp only[Option.some.injEq,reduceCtorEq]at h
   case quo=>
    split at h
    ·rename_i hq
     cases h
     have hq0:q≠0:=by omega
     have hle:p/q≤p:=Int.ediv_le_self q hq.1
     have h0:0≤p/q:=Int.ediv_nonneg hq.1 (by omega)
     have hin:=r1.TG.down h0 hle
     have hw:k.wrap (p.tdiv q)=p/q:=by
      rw[Int.tdiv_eq_ediv_of_nonneg hq.1];exact dY hin
     exact⟨_,[],by simp[execOp,ho,e1,e2,binOp,eqGuard,Op.intDiv,hq0,hw],.of (.int _ _ hin),by simp⟩
    ·cases h
   case rem=>
    split at h
    ·rename_i hq
     cases h
     have hq0:q≠0:=by omega
     have h0:0≤p%q:=Int.emod_nonneg p hq0
     have hle:p%q≤p:=by
      have h1:=Int.emod_add_mul_ediv p q
      have h2:0≤q*(p/q):=Int.mul_nonneg (by omega) (Int.ediv_nonneg hq.1 (by omega))
      omega
     have hin:=r1.TG.down h0 hle
     have hw:p.tmod q=p%q:=Int.tmod_eq_emod_of_nonneg hq.1
     exact⟨_,[],by simp[execOp,ho,e1,e2,binOp,eqGuard,Op.intDiv,hq0,hw],.of (.int _ _ hin),by simp⟩
    ·cases h
   all_goals subst h
   all_goals first
    |exact⟨_,[],by simp[execOp,ho,e1,e2,binOp,eqGuard,Op.intArith],.of (.int _ _ (rC.wrap _ _)),by simp⟩
    |exact⟨_,[],by simp[execOp,ho,e1,e2,binOp,eqGuard,Op.intCmp],.of (.bool _),by simp⟩
  ·cases h
 ·rename_i p q
  obtain⟨u,e1,rfl⟩:=r1.tY
  obtain⟨v,e2,rfl⟩:=r2.tY
  cases op<;>simp only[Option.some.injEq,reduceCtorEq]at h
  case add=>
   split at h
   ·rename_i hl
    cases h
    have hsz:u.size+v.size≤9223372036854775807:=by
     simp only[Array.length_toList,maxLen]at hl
     exact hl
    refine⟨.string (u++v),[],?_,?_,by simp⟩
    ·simp[execOp,ho,e1,e2,binOp,eqGuard,run_string_add_sum w u v hsz]
    ·have:=Rd.str (w:=w) (u++v) (by rw[ByteArray.size_append'];unfold maxLen;omega)
     simp only[ByteArray.data_append,Array.toList_append]at this
     exact .of this
   ·cases h
  all_goals subst h
  all_goals exact⟨_,[],by simp[execOp,ho,e1,e2,binOp,eqGuard,Op.stringOp,ByteArray.toList_eq],.of (.bool _),by simp⟩
 ·cases h
theorem II{t:TypeId}{b:Bool}(h:zP P t=some b)(w:World):(isAgg t).run P w=.ok b w:=by
 unfold zP at h
 split at h<;>first
  | (rename_i hu;cases h;simp[isAgg,run_underlying hu])
  | (rename_i d _ _ hu;cases h;cases d<;>simp_all [isAgg,run_underlying hu])
  |cases h
theorem info_of_underlying{t:TypeId}{d:TypeDesc}(h:P.underlying t=some d):∃i,P.info? t=some i:=by
 unfold Program.underlying at h
 cases hi:P.info? t with
 |none=>simp[hi]at h
 |some i=>exact⟨i,rfl⟩
theorem O2{t:TypeId}{b:Bool}(h:zP P t=some b):∃i,P.info? t=some i:=by
 unfold zP at h
 split at h<;>first
  | (rename_i hu;exact info_of_underlying hu)
  |cases h
theorem uM{t:TypeId}(h:∃i,P.info? t=some i)(w:World):(sizeOf t).run P w=.ok (A6 P t) w:=by
 obtain⟨i,hi⟩:=h
 simp[sizeOf,typeInfo,hi,A6,Program.cellsOf]
theorem nN{t:TypeId}{ag:Bool}(ht:zP P t=some ag){b off o:Nat}{cs:List Value}
 (hc:∀j c,cs[j]?=some c→w.cell? ⟨b,off+j,none⟩=some c):
 (ag=true→o+A6 P t≤cs.length→(Instr.loadAt t (.pointer (some ⟨b,off+o,none⟩))).run P w=.ok (.agg ((cs.drop o).take (A6 P t)).toArray) w)∧
 (ag=false→∀c,cs[o]?=some c→(Instr.loadAt t (.pointer (some ⟨b,off+o,none⟩))).run P w=.ok c w):=by
 constructor
 ·intro e hl
  subst e
  have hlen:((cs.drop o).take (A6 P t)).length=A6 P t:=by simp;omega
  have:=run_loadCells_list (P:=P) w ⟨b,off+o,none⟩ ((cs.drop o).take (A6 P t)) (by
   intro j v hj
   rw[Addr.add_lit]
   rw[List.getElem?_take]at hj
   split at hj
   ·rw[List.getElem?_drop]at hj
    rw[Nat.add_assoc]
    exact hc _ _ hj
   ·cases hj)
  rw[hlen]at this
  simp[Instr.loadAt,Instr.sureAddr,loadVar,II ht,uM (O2 ht),this]
 ·intro e c hj
  subst e
  have:=hc o c hj
  simp[Instr.loadAt,Instr.sureAddr,loadVar,II ht,this]
theorem yK.XC{v:Value}{d:D}{bs:List Nat}(h:yK w κ v d bs):qW w κ v d bs:=.v (.cell h)
theorem TH{o:Oper}{t:TypeId}{x:Operand}{d:D}(hs:bN Γ st κ Θ a w)(ho:o.op=.load t x)
 (h:pv P st (.load t x)=some d):wP P κ Θ a w o d:=by
 obtain⟨b1,r1,z1⟩:=hs.ev x
 simp only[pv]at h
 split at h
 ·rename_i ag row off ht hx
  rw[hx]at r1
  have hrd:=r1.a1F
  generalize hvx:a.eval x=vx at hrd
  cases hrd with
  |ep b base cs _ _ bs h0 hc sN=>
   have L:=nN (P:=P) (w:=w) ht (o:=off) hc
   unfold KV at h
   split at h
   ·rename_i hag
    split at h
    ·rename_i hl
     cases h
     have hl':off+A6 P t≤cs.length:=by rw[sN.length];exact hl
     obtain⟨b',hm,hsub⟩:=sN.mid off (A6 P t)
     exact⟨_,b',by simp only[execOp,ho,hvx];simp[L.1 hag hl'],.of (.agg _ _ _ hm),fun y hy=>z1 y (by simp[hsub y hy])⟩
    ·cases h
   ·rename_i hag
    simp only[Bool.not_eq_true]at hag
    obtain⟨v,b',hv,_,hr,hsub⟩:=sN.at h
    exact⟨v,b',by simp only[execOp,ho,hvx];simp[L.2 hag v hv],.of hr,fun y hy=>z1 y (by simp[hsub y hy])⟩
 ·rename_i ag id off ht hx
  rw[hx]at r1
  obtain⟨g,hk,hv⟩:=r1.zO
  split at h
  ·rename_i cells hH
   obtain⟨ob,hH,B9⟩:=Option.bind_eq_some_iff.1 hH
   obtain⟨g',cs,T,hk',hg,hΘ,bs,sN,hz⟩:=(hs.ob id _ hH).cs B9
   rw[hk]at hk'
   cases hk'
   have hc:∀j c,cs.toList[j]?=some c→w.cell? ⟨g,0+j,none⟩=some c:=by
    intro j c hj
    simp only[Nat.zero_add,World.cell?,hg]
    simpa using hj
   have L:=nN (P:=P) (w:=w) ht (o:=off) hc
   simp only[Nat.zero_add]at L
   unfold KV at h
   split at h
   ·rename_i hag
    split at h
    ·rename_i hl
     cases h
     have hl':off+A6 P t≤cs.toList.length:=by rw[sN.length];exact hl
     obtain⟨b',hm,hsub⟩:=sN.mid off (A6 P t) hl
     exact⟨_,b',by simp only[execOp,ho,hv];simp[L.1 hag hl'],.v (.agg _ _ _ hm),fun y hy=>hz y (hsub y hy)⟩
    ·cases h
   ·rename_i hag
    simp only[Bool.not_eq_true]at hag
    obtain⟨v,b',hv',_,hr,hsub⟩:=sN.at h
    exact⟨v,b',by simp only[execOp,ho,hv];simp[L.2 hag v hv'],hr.XC,fun y hy=>hz y (hsub y hy)⟩
  ·cases h
 ·rename_i ag id i sz off ht hx
  rw[hx]at r1
  obtain⟨g,o0,len,cap,hk,hv⟩:=r1.FJ
  split at h
  ·rename_i k e sz' rows hH
   split at h
   ·rename_i row hrow
    split at h
    ·rename_i aD1
     obtain⟨rfl,hk0,hoff⟩:=aD1
     obtain⟨hsz,hrl,vk,cs,bs,hvk,hown,sN,hΘ,hz⟩:=hs.ob id _ hH
     have yL:∀b∈bs,Θ b=0:=by cases k<;>first|exact hz|simp[RK.X8]at hk0
     rw[hk]at hvk
     cases hvk
     have ho0:=D7 hown
     subst ho0
     rw[Nat.zero_add]at hv
     have a2o:row.length=sz':=hrl row (List.mem_of_getElem? hrow)
     have hcells:∀j c,cs[j]?=some c→w.cell? ⟨g,0+j,none⟩=some c:=by
      intro j c hj
      have:=hown.cells (g:=g) (by simp[Value.ownBlock]) j c hj
      simpa[Addr.add_lit]using this
     have L:=nN (P:=P) (w:=w) ht (o:=i*sz'+off) hcells
     simp only[Nat.zero_add]at L
     have aFO:=sN.length
     have hmid:=FI hrl hrow
     have hlt:i<rows.length:=(List.getElem?_eq_some_iff.1 hrow).1
     have hfl:=mW hrl
     have hle:(i+1)*sz'≤rows.length*sz':=Nat.mul_le_mul_right _ hlt
     rw[Nat.add_mul,Nat.one_mul]at hle
     unfold KV at h
     split at h
     ·rename_i hag
      subst hag
      simp only[cond_true]at hoff
      split at h
      ·rename_i hl
       cases h
       have hl':i*sz'+off+A6 P t≤cs.length:=by rw[aFO,hfl];omega
       obtain⟨b',hm,hsub⟩:=sN.mid (i*sz'+off) (A6 P t)
       have e:(rows.flatten.drop (i*sz'+off)).take (A6 P t)=(row.drop off).take (A6 P t):=by
        rw[←hmid,List.drop_take,List.take_take,List.drop_drop,Nat.min_eq_left (by omega)]
       rw[e]at hm
       exact⟨_,b',by simp only[execOp,ho,hv];simp[L.1 rfl hl'],.of (.agg _ _ _ hm),fun y hy=>yL y (hsub y hy)⟩
      ·cases h
     ·rename_i hag
      simp only[Bool.not_eq_true]at hag
      subst hag
      simp only[cond_false]at hoff
      have e:rows.flatten[i*sz'+off]?=some d:=by
       rw[←hmid,List.getElem?_take,if_pos (by omega),List.getElem?_drop]at h
       exact h
      obtain⟨v,b',hv',_,hr,hsub⟩:=sN.at e
      exact⟨v,b',by simp only[execOp,ho,hv];simp[L.2 rfl v hv'],.of hr,fun y hy=>yL y (hsub y hy)⟩
    ·cases h
   ·cases h
  ·cases h
 ·rename_i ag g o' ht hx
  rw[hx]at r1
  have hv:=r1.a2j
  split at h
  ·obtain⟨ds,⟨p,hp,hcs⟩,hd⟩:=a5I h
   obtain⟨B,hB,_⟩:=hs.vsb
   obtain⟨_,cs,T,z,hg,hpc⟩:=hB _ hp
   obtain⟨v,ZD,hrd⟩:=hcs _ hpc _ _ hd
   have hc:∀j c,cs.toList[j]?=some c→w.cell? ⟨g,0+j,none⟩=some c:=by
    intro j c hj
    simp only[Nat.zero_add,World.cell?,hg]
    simpa using hj
   have L:=(nN (P:=P) (w:=w) ht (o:=o') hc).2 rfl v ZD
   rw[Nat.zero_add]at L
   exact⟨v,[],by simp only[execOp,ho,hv];simp[L],.of (hrd w),by simp⟩
  ·cases h
 ·cases h
theorem ZE{o:Oper}{t f:Nat}{x:Operand}{d:D}(hs:bN Γ st κ Θ a w)(ho:o.op=.field t x f)
 (h:pv P st (.field t x f)=some d):wP P κ Θ a w o d:=by
 obtain⟨b1,r1,z1⟩:=hs.ev x
 simp only[pv]at h
 split at h
 ·rename_i off ft cells ht hx
  rw[hx]at r1
  obtain⟨cs,hv,sN⟩:=r1.IF
  unfold tft at ht
  split at ht
  ·rename_i fs hu
   split at ht
   ·rename_i fl hfl
    cases ht
    split at h
    ·rename_i ag hta
     unfold KV at h
     split at h
     ·rename_i hag
      subst hag
      split at h
      ·rename_i hl
       cases h
       obtain⟨b',hm,hsub⟩:=sN.mid fl.offset (A6 P fl.type) hl
       refine⟨.agg ((cs.drop fl.offset).take (A6 P fl.type)).toArray,b',?_,.v (.agg _ _ _ hm),fun y hy=>z1 y (hsub y hy)⟩
       have e:cs.toArray.extract fl.offset (fl.offset+A6 P fl.type)=((cs.drop fl.offset).take (A6 P fl.type)).toArray:=by
        rw[List.extract_toArray,List.extract_eq_take_drop];congr 1;congr 1;omega
       simp only[execOp,ho,hv]
       simp[Instr.field,run_underlying hu,hfl,asAgg,part,II hta,uM (O2 hta),e]
      ·cases h
     ·rename_i hag
      simp only[Bool.not_eq_true]at hag
      subst hag
      obtain⟨v,b',ZD,_,hr,hsub⟩:=sN.at h
      refine⟨v,b',?_,.v (.cell hr),fun y hy=>z1 y (hsub y hy)⟩
      simp only[execOp,ho,hv]
      simp[Instr.field,run_underlying hu,hfl,asAgg,part,II hta,ZD]
    ·cases h
   ·cases ht
  ·cases ht
 ·cases h
theorem SL{o:Oper}{t f:Nat}{x:Operand}{d:D}(hs:bN Γ st κ Θ a w)(ho:o.op=.fieldAddr t x f)
 (h:pv P st (.fieldAddr t x f)=some d):wP P κ Θ a w o d:=by
 obtain⟨b1,r1,z1⟩:=hs.ev x
 have hf:∀ {o':Nat},tfo P t f=some o'→∀(b off:Nat),(Instr.fieldAt t (.pointer (some ⟨b,off,none⟩)) f).run P w=.ok (.pointer (some ⟨b,off+o',none⟩)) w:=by
  intro o' h b off
  unfold tfo at h
  split at h
  ·rename_i fs hu
   split at h
   ·rename_i fl hfl
    split at h
    ·rename_i hc
     cases h
     obtain⟨i,hi⟩:=Option.isSome_iff_exists.1 hc.1
     have hsz:=uM (P:=P) ⟨i,hi⟩ w
     have h0:A6 P fl.type≠0:=hc.2
     simp[Instr.fieldAt,run_underlying hu,hfl,Instr.sureAddr,fieldPlace,hsz,h0,Addr.add_lit]
    ·cases h
   ·cases h
  ·cases h
 simp only[pv]at h
 split at h
 ·rename_i o' id off ht hx
  cases h
  rw[hx]at r1
  obtain⟨g,hk,hv⟩:=r1.zO
  exact⟨_,[],by simp only[execOp,ho,hv];simp[hf ht g off],(yK.ptr id (off+o') g hk).XC,by simp⟩
 ·rename_i o' row off ht hx
  cases h
  rw[hx]at r1
  have hrd:=r1.a1F
  generalize hvx:a.eval x=vx at hrd
  cases hrd with
  |ep b base cs _ _ bs h0 hc sN=>
   refine⟨.pointer (some ⟨b,base+off+o',none⟩),b::bs,by simp only[execOp,ho,hvx];simp[hf ht b (base+off)],?_,z1⟩
   rw[Nat.add_assoc]
   exact .of (.ep b base cs row (off+o') bs h0 hc sN)
 ·rename_i o' id i sz off ht hx
  cases h
  rw[hx]at r1
  obtain⟨g,o0,len,cap,hk,hv⟩:=r1.FJ
  refine⟨.pointer (some ⟨g,o0+(i*sz+off)+o',none⟩),[],by simp only[execOp,ho,hv];simp[hf ht g (o0+(i*sz+off))],?_,by simp⟩
  rw[Nat.add_assoc,Nat.add_assoc]
  exact(yK.op id i sz (off+o') g o0 len cap hk).XC
 ·cases h
theorem n8{t e sz:Nat}(h:IG P t=some (e,sz)):P.underlying t=some (.slice e)∧(∃i,P.info? e=some i)∧A6 P e=sz:=by
 unfold IG at h
 split at h
 ·rename_i e' hu
  split at h
  ·rename_i hi
   cases h
   exact⟨hu,Option.isSome_iff_exists.1 hi,rfl⟩
  ·cases h
 ·cases h
theorem SM{o:Oper}{t:Nat}{x i:Operand}{d:D}(hs:bN Γ st κ Θ a w)(ho:o.op=.indexAddr t x i)
 (h:pv P st (.indexAddr t x i)=some d):wP P κ Θ a w o d:=by
 obtain⟨b1,r1,z1⟩:=hs.ev x
 obtain⟨b2,r2,z2⟩:=hs.ev i
 simp only[pv]at h
 split at h
 ·rename_i e sz rows k n ht hx hi
  rw[hx]at r1
  rw[hi]at r2
  have hn:=r2.pG
  obtain⟨hu,QO,O3⟩:=n8 ht
  have hsz:=uM (P:=P) QO w
  split at h
  ·rename_i h0
   split at h
   ·rename_i row hrow
    split at h
    ·rename_i hlen
     cases h
     have hrd:=r1.XA
     have hlt:n.toNat<rows.length:=(List.getElem?_eq_some_iff.1 hrow).1
     generalize hvx:a.eval x=vx at hrd
     cases hrd with
     |z6=>simp at hrow
     |mT=>simp at hrow
     |sl b off cap sz' _ cs bs hb hcap BN hrl hc sN=>
      have aFQ:sz'=sz:=by rw[←hrl row (List.mem_of_getElem? hrow)];exact hlen
      subst aFQ
      obtain⟨b',hm,hsub⟩:=sN.mid (n.toNat*sz') sz'
      rw[FI hrl hrow]at hm
      have hn':0≤n∧n<(rows.length:Int):=⟨h0,by omega⟩
      refine⟨.pointer (some ⟨b,off+n.toNat*sz',none⟩),b::b',?_,?_,?_⟩
      ·simp only[execOp,ho,hvx,hn]
       simp[Instr.indexAt,asIntOf,run_underlying hu,hn',hsz,O3,Addr.add_lit]
      ·have aFR:∀j c,((cs.drop (n.toNat*sz')).take sz')[j]?=some c→w.cell? ⟨b,off+n.toNat*sz'+j,none⟩=some c:=by
        intro j c hj
        rw[List.getElem?_take]at hj
        split at hj
        ·rw[List.getElem?_drop]at hj
         rw[Nat.add_assoc]
         exact hc _ _ hj
        ·cases hj
       exact .of (.ep b (off+n.toNat*sz') _ row 0 b' hb aFR hm)
      ·intro y hy
       rcases List.mem_cons.1 hy with rfl|hy
       ·exact z1 _ (by simp)
       ·exact z1 _ (by simp[hsub y hy])
    ·cases h
   ·cases h
  ·cases h
 ·rename_i e sz id k n ht hx hi
  rw[hx]at r1
  rw[hi]at r2
  have hn:=r2.pG
  obtain⟨hv,_⟩:=r1.vC
  obtain⟨hu,QO,O3⟩:=n8 ht
  have hsz:=uM (P:=P) QO w
  split at h
  ·rename_i dp e' sz' rows hH
   split at h
   ·rename_i hc
    cases h
    obtain⟨rfl,h0,hlt⟩:=hc
    obtain⟨aB2,hrl,vk,cs,bs,hvk,hown,sN,hΘ,hz⟩:=hs.ob id _ hH
    rw[hv]at hvk
    cases hvk
    rcases hown.2 with⟨rD,yL⟩|⟨g,cap,cur,hkv,_⟩
    ·omega
    ·have hn':0≤n∧n<(rows.length:Int):=⟨h0,by omega⟩
     refine⟨_,[],?_,(yK.op id n.toNat sz 0 g 0 _ _ (hkv▸hv)).XC,by simp⟩
     simp only[execOp,ho,hn,hkv]
     simp[Instr.indexAt,asIntOf,run_underlying hu,hn',hsz,O3,Addr.add_lit]
   ·cases h
  ·cases h
 ·rename_i g o' kk n hx hi
  rw[hx]at r1
  rw[hi]at r2
  have hn:=r2.pG
  have hv:=r1.a2j
  split at h
  ·rename_i sz len hT
   split at h
   ·rename_i hc
    cases h
    obtain⟨h0,hlt⟩:=hc
    unfold aAx at hT
    split at hT
    ·rename_i len' e hu
     split at hT
     ·rename_i QO
      cases hT
      have hsz:=uM (P:=P) (Option.isSome_iff_exists.1 QO) w
      have hn':0≤n∧n<(len:Int):=⟨h0,by omega⟩
      refine⟨_,[],?_,.of (.val _),by simp⟩
      simp only[execOp,ho,hn,hv]
      simp[Instr.indexAt,Instr.sureAddr,asIntOf,run_underlying hu,hn',hsz,A6,Addr.add_lit]
     ·cases hT
    ·cases hT
   ·cases h
  ·cases h
 ·cases h
theorem a3o{o:Oper}{t t':Nat}{x y:Operand}{d:D}(hs:bN Γ st κ Θ a w)(ho:o.op=.call {callee:=.builtin .min,args:= #[x,y],argTypes:= #[t,t']})
 (h:aB0 (st.ev x) (st.ev y)=some d):wP P κ Θ a w o d:=by
 obtain⟨b1,r1,z1⟩:=hs.ev x
 obtain⟨b2,r2,z2⟩:=hs.ev y
 unfold aB0 at h
 split at h
 ·rename_i k m k' n hx hy
  split at h
  ·rename_i hk
   subst hk
   cases h
   rw[hx]at r1;rw[hy]at r2
   have e1:=r1.pG
   have e2:=r2.pG
   refine⟨.int k (a8U m n),[],?_,.of (.int _ _ ?_),by simp⟩
   ·simp only[execOp,ho,resolve,invoke,builtin,List.map_toArray,List.map_cons,List.map_nil,e1,e2]
    simp[Builtin.min_,Builtin.min2,a8U]
   ·unfold a8U
    split
    ·exact r2.TG
    ·exact r1.TG
  ·cases h
 ·cases h
theorem a3p{o:Oper}{t:Nat}{x:Operand}{d:D}(hs:bN Γ st κ Θ a w)(ho:o.op=.call {callee:=.builtin .len,args:= #[x],argTypes:= #[t]})
 (h:a8V P st x t=some d):wP P κ Θ a w o d:=by
 obtain⟨b1,r1,z1⟩:=hs.ev x
 unfold a8V at h
 split at h
 ·rename_i s hx
  split at h
  ·rename_i ht
   cases h
   rw[hx]at r1
   obtain⟨u,hv,rfl⟩:=r1.tY
   have hu:P.underlying t=some .string:=by
    unfold QN at ht
    split at ht
    ·assumption
    ·cases ht
   refine⟨.int .i64 (u.data.toList.length:Nat),[],?_,.of (.int _ _ (XB r1.a5M)),by simp⟩
   simp only[execOp,ho,resolve,invoke,builtin,List.map_toArray,List.map_cons,List.map_nil,hv]
   simp[Builtin.len_,run_underlying hu,goInt]
  ·cases h
 ·rename_i rows hx
  split at h
  ·rename_i ht
   cases h
   rw[hx]at r1
   obtain⟨⟨e,sz⟩,ht⟩:=Option.isSome_iff_exists.1 ht
   obtain⟨hu,_,_⟩:=n8 ht
   have hrd:=r1.XA
   generalize hvx:a.eval x=vx at hrd
   have hlen:∃q c,vx=.slice q rows.length c:=by
    cases hrd with
    |z6=>exact⟨_,_,rfl⟩
    |mT=>exact⟨_,_,rfl⟩
    |sl=>exact⟨_,_,rfl⟩
   have BN:rows.length≤maxLen:=by
    cases hrd with
    |z6=>simp
    |mT=>simp
    |sl b off cap sz _ cs bs hb h1 h2=>omega
   obtain⟨q,c,rfl⟩:=hlen
   refine⟨.int .i64 rows.length,[],?_,.of (.int _ _ (XB BN)),by simp⟩
   simp only[execOp,ho,resolve,invoke,builtin,List.map_toArray,List.map_cons,List.map_nil,hvx]
   simp[Builtin.len_,run_underlying hu,goInt]
  ·cases h
 ·rename_i hx
  split at h
  ·rename_i ht
   cases h
   rw[hx]at r1
   obtain⟨⟨e,sz⟩,ht⟩:=Option.isSome_iff_exists.1 ht
   obtain⟨hu,_,_⟩:=n8 ht
   have hv:=r1.O0
   refine⟨.int .i64 0,[],?_,.of (.int _ _ (rC.zero _)),by simp⟩
   simp only[execOp,ho,resolve,invoke,builtin,List.map_toArray,List.map_cons,List.map_nil,hv]
   simp[Builtin.len_,run_underlying hu,goInt]
  ·cases h
 ·rename_i id hx
  split at h
  ·rename_i p dp e' sz' rows ht hH
   cases h
   rw[hx]at r1
   obtain⟨hv,_⟩:=r1.vC
   obtain⟨e,sz⟩:=p
   obtain⟨hu,_,_⟩:=n8 ht
   obtain⟨aB2,hrl,vk,cs,bs,hvk,hown,sN,hΘ,hz⟩:=hs.ob id _ hH
   rw[hv]at hvk
   cases hvk
   have hlen:∃q c,a.eval x=.slice q rows.length c:=by
    rcases hown.2 with⟨rD,yL⟩|⟨g,cap,cur,hkv,_⟩
    ·exact⟨none,0,by rw[rD,yL]⟩
    ·exact⟨_,_,hkv⟩
   have BN:rows.length≤maxLen:=by
    rcases hown.2 with⟨rD,yL⟩|⟨g,cap,cur,hkv,_,_,h1,h2,_⟩
    ·omega
    ·omega
   obtain⟨q,c,hk⟩:=hlen
   refine⟨.int .i64 rows.length,[],?_,.of (.int _ _ (XB BN)),by simp⟩
   simp only[execOp,ho,resolve,invoke,builtin,List.map_toArray,List.map_cons,List.map_nil,hk]
   simp[Builtin.len_,run_underlying hu,goInt]
  ·cases h
 ·cases h
theorem D6.at{vs:List Value}{ds:List D}{bs:List Nat}(h:D6 w κ vs ds bs){i:Nat}{d:D}(hd:ds[i]?=some d):
 ∃v b,vs[i]?=some v∧TF w κ v d b∧∀x∈b,x∈bs:=by
 induction ds generalizing vs bs i with
 |nil=>simp at hd
 |cons e ds ih=>
  cases h with
  |cons v vs _ _ b1 b2 h2 h3=>
   cases i with
   |zero=>simp at hd;subst hd;exact⟨v,b1,by simp,h2,by intro x hx;simp[hx]⟩
   |succ i=>
    simp at hd
    obtain⟨u,b,k1,k3,k4⟩:=ih h3 hd
    exact⟨u,b,by simpa using k1,k3,fun x hx=>by simp[k4 x hx]⟩
theorem qW.a8X{v:Value}{ds:List D}{bs:List Nat}(h:qW w κ v (.iJ ds) bs):∃vs:List Value,v=.tuple vs.toArray∧D6 w κ vs ds bs:=by
 cases h with
 |v h=>cases h with|cell h=>cases h with|pure h=>cases h
 |iJ vs _ _ h=>exact⟨vs,rfl,h⟩
theorem VI{o:Oper}{i:Nat}{x:Operand}{d:D}(hs:bN Γ st κ Θ a w)(ho:o.op=.extract x i)
 (h:pv P st (.extract x i)=some d):wP P κ Θ a w o d:=by
 obtain⟨b1,r1,z1⟩:=hs.ev x
 simp only[pv]at h
 split at h
 ·rename_i vs hx
  rw[hx]at r1
  obtain⟨us,hv,hr⟩:=r1.a8X
  obtain⟨v,b,k1,k2,k3⟩:=hr.at h
  exact⟨v,b,by simp only[execOp,ho,hv];simp[Instr.extract,k1],.v k2,fun y hy=>z1 y (k3 y hy)⟩
 ·cases h
theorem x9{t:Nat}(ht:QN P t=true):P.underlying t=some .string:=by
 unfold QN at ht
 split at ht
 ·assumption
 ·cases ht
theorem ZF{o:Oper}{t:Nat}{x i:Operand}{d:D}(hs:bN Γ st κ Θ a w)(ho:o.op=.index t x i)
 (h:pv P st (.index t x i)=some d):wP P κ Θ a w o d:=by
 obtain⟨b1,r1,z1⟩:=hs.ev x
 obtain⟨b2,r2,z2⟩:=hs.ev i
 simp only[pv]at h
 split at h
 ·rename_i s k n ht hx hi
  rw[hx]at r1
  rw[hi]at r2
  obtain⟨u,hv,rfl⟩:=r1.tY
  have hn:=r2.pG
  have hu:=x9 ht
  split at h
  ·rename_i h0
   split at h
   ·rename_i b hb
    cases h
    have hlt:n.toNat<u.size:=by
     have:=(List.getElem?_eq_some_iff.1 hb).1
     simpa using this
    have XD:u[n.toNat]?=some b:=by
     have hb':u.data[n.toNat]?=some b:=by simpa using hb
     rw[getElem?_pos u n.toNat hlt]
     rw[Array.getElem?_eq_some_iff]at hb'
     obtain⟨_,he⟩:=hb'
     rw[←he];rfl
    refine⟨.int .u8 b.toNat,[],?_,.of (.int _ _ (rC.u8.2 (by have:=b.toNat_lt;omega))),by simp⟩
    simp only[execOp,ho,hv,hn]
    simp[Instr.index,asIntOf,run_underlying hu,h0,XD]
   ·cases h
  ·cases h
 ·cases h
theorem XE{lo hi:Option Operand}{l h':Nat}{isSlice:Bool}{len cap:Nat}(hs:bN Γ st κ Θ a w)
 (hlc:len≤cap) (h:SK len (lo.map st.ev) (hi.map st.ev)=some (l,h')):
 (Instr.sliceBounds isSlice len cap (lo.map a.eval) (hi.map a.eval) none).run P w=.ok (l,h',cap) w∧l≤h'∧h'≤len:=by
 have hv:∀ {x:Operand} {k:IntKind} {n:Int},st.ev x=.int k n→a.eval x=.int k n:=by
  intro x k n hx
  obtain⟨b,r,_⟩:=hs.ev x
  rw[hx]at r
  exact r.pG
 unfold SK at h
 cases hi with
 |none=>
  simp only[Option.map_none]at h⊢
  cases lo with
  |none=>
   simp only[Option.map_none,Option.some.injEq,Prod.mk.injEq]at h⊢
   obtain⟨rfl,rfl⟩:=h
   exact⟨by simp[Instr.sliceBounds],by omega,by omega⟩
  |some lo=>
   simp only[Option.map_some]at h⊢
   cases hlo:st.ev lo<;>simp only[hlo,reduceCtorEq]at h
   rename_i k n
   split at h
   ·cases h
   ·rename_i l0 hm
    split at hm
    ·rename_i hb
     cases hm;cases h
     have hb2:0≤n∧n≤(h':Int):=⟨hb.1,by omega⟩
     exact⟨by simp[Instr.sliceBounds,Instr.sliceBound,hv hlo,asIntOf,hb2],hb.2,by omega⟩
    ·cases hm
 |some hi=>
  simp only[Option.map_some]at h⊢
  cases hhi:st.ev hi<;>simp only[hhi,reduceCtorEq]at h
  rename_i k m
  split at h
  ·cases h
  ·rename_i h0 hm
   split at hm
   ·rename_i hb
    cases hm
    have hb2:0≤m∧m≤(cap:Int):=⟨hb.1,by omega⟩
    cases lo with
    |none=>
     simp only[Option.map_none,Option.some.injEq,Prod.mk.injEq]at h⊢
     obtain⟨rfl,rfl⟩:=h
     exact⟨by simp[Instr.sliceBounds,Instr.sliceBound,hv hhi,asIntOf,hb2],by omega,hb.2⟩
    |some lo=>
     simp only[Option.map_some]at h⊢
     cases hlo:st.ev lo<;>simp only[hlo,reduceCtorEq]at h
     rename_i k' n
     split at h
     ·cases h
     ·rename_i l0 hm
      split at hm
      ·rename_i hbl
       cases hm;cases h
       have hb3:0≤n∧n≤max m 0:=⟨hbl.1,by omega⟩
       exact⟨by simp[Instr.sliceBounds,Instr.sliceBound,hv hhi,hv hlo,asIntOf,hb2,hb3],hbl.2,hb.2⟩
      ·cases hm
   ·cases hm
theorem a5N{rows:List (List D)}{sz l h':Nat}(hrl:∀r∈rows,r.length=sz)(h1:l≤h')(h2:h'≤rows.length):
 ((rows.take h').drop l).flatten=(rows.flatten.drop (l*sz)).take ((h'-l)*sz):=by
 have e:rows=(rows.take l)++(((rows.take h').drop l)++rows.drop h'):=by
  have hA:rows.take h'=(rows.take h').take l++(rows.take h').drop l:=(List.take_append_drop _ _).symm
  have hB:(rows.take h').take l=rows.take l:=by rw[List.take_take,Nat.min_eq_left h1]
  rw[hB]at hA
  rw[←List.append_assoc,←hA,List.take_append_drop]
 have l1:(rows.take l).flatten.length=l*sz:=by
  rw[mW (fun r hr=>hrl r (List.mem_of_mem_take hr)),List.length_take,Nat.min_eq_left (by omega)]
 have l2:((rows.take h').drop l).flatten.length=(h'-l)*sz:=by
  rw[mW (fun r hr=>hrl r (List.mem_of_mem_take (List.mem_of_mem_drop hr))),List.length_drop,List.length_take,Nat.min_eq_left (by omega)]
 have hf:rows.flatten=(rows.take l).flatten++(((rows.take h').drop l).flatten++(rows.drop h').flatten):=by
  rw[←List.flatten_append,←List.flatten_append,←e]
 rw[hf,List.drop_left' l1,List.take_left' l2]
theorem ZG{o:Oper}{t:Nat}{x:Operand}{lo hi:Option Operand}{d:D}(hs:bN Γ st κ Θ a w)(ho:o.op=.slice t x lo hi none)
 (h:pv P st (.slice t x lo hi none)=some d):wP P κ Θ a w o d:=by
 obtain⟨b1,r1,z1⟩:=hs.ev x
 simp only[pv]at h
 split at h
 ·rename_i s hx
  rw[hx]at r1
  obtain⟨u,hv,rfl⟩:=r1.tY
  split at h
  ·rename_i ht
   have hu:=x9 ht
   split at h
   ·rename_i l h' hc
    cases h
    obtain⟨hr,hl,hh⟩:=XE (P:=P) (isSlice:=false) (cap:=u.data.toList.length) hs (Nat.le_refl _) hc
    have hsz:u.data.toList.length=u.size:=by simp
    rw[hsz]at hr
    refine⟨.string (u.extract l h'),[],?_,?_,by simp⟩
    ·simp only[execOp,ho,hv]
     simp[Instr.sliceAt,Instr.slice,run_underlying hu,hr]
    ·have:=Rd.str (w:=w) (u.extract l h') (by
      have h1:=r1.a5M
      simp at h1⊢
      omega)
     have e:(u.extract l h').data.toList=(u.data.toList.take h').drop l:=by
      simp[ByteArray.data_extract,List.drop_take]
     rw[e]at this
     exact .of this
   ·cases h
  ·cases h
 ·rename_i rows hx
  rw[hx]at r1
  have hrd:=r1.XA
  split at h
  ·rename_i e sz l h' ht hc
   split at h
   ·rename_i hall
    cases h
    obtain⟨hu,QO,O3⟩:=n8 ht
    have hsz:=uM (P:=P) QO w
    have hrl:∀r∈rows,r.length=sz:=by
     intro r hr
     have:=List.all_eq_true.1 hall r hr
     simpa using this
    generalize hvx:a.eval x=vx at hrd
    have main:∀(q:Option Addr) (cap:Nat),vx=.slice q rows.length cap→rows.length≤cap→
     (execOp a.eval o).run P w=.ok (.value (.slice (if cap=l then q else q.map (·.add (l*sz))) (h'-l) (cap-l))) w∧l≤h'∧h'≤rows.length:=by
     intro q cap hq hcap
     obtain⟨hr,hl,hh⟩:=XE (P:=P) (isSlice:=true) (cap:=cap) hs hcap hc
     refine⟨?_,hl,hh⟩
     simp only[execOp,ho,hvx,hq]
     simp[Instr.sliceAt,Instr.slice,run_underlying hu,hr,hsz,O3]
    cases hrd with
    |z6=>
     obtain⟨hr,hl,hh⟩:=main none 0 rfl (by simp)
     simp only[List.length_nil]at hh
     have e1:h'=0:=by omega
     have e2:l=0:=by omega
     subst e1;subst e2
     exact⟨_,[],hr,by simpa using qW.of (κ:=κ) (Rd.z6 (w:=w)),by simp⟩
    |mT ad cap hm=>
     obtain⟨hr,hl,hh⟩:=main (some ad) cap rfl (by simp)
     simp only[List.length_nil]at hh
     have e1:h'=0:=by omega
     have e2:l=0:=by omega
     subst e1;subst e2
     refine⟨_,[],hr,?_,by simp⟩
     have:(if cap=0 then some ad else(some ad).map (·.add (0*sz)))=some ad:=by simp[Addr.add]
     rw[this]
     exact .of (by simpa using Rd.mT (w:=w) ad cap hm)
    |sl b off cap sz' _ cs bs hb hcap BN SN hcc sN=>
     obtain⟨hr,hl,hh⟩:=main (some ⟨b,off,none⟩) cap rfl hcap
     by_cases he:h'=l
     ·subst he
      refine⟨_,[],hr,?_,by simp⟩
      have e1:(rows.take h').drop h'=[]:=by simp
      rw[e1,Nat.sub_self]
      split
      ·exact .of (.mT _ _ (by omega))
      ·simp only[Option.map_some]
       exact .of (.mT _ _ (by omega))
     ·have hne:cap≠l:=by omega
      rw[if_neg hne,Option.map_some,Addr.add_lit]at hr
      obtain⟨b',hm,hsub⟩:=sN.mid (l*sz) ((h'-l)*sz)
      rw[←a5N hrl hl hh]at hm
      refine⟨_,b::b',hr,?_,?_⟩
      ·have hlen:((rows.take h').drop l).length=h'-l:=by simp;omega
       rw[←hlen]
       refine .of (.sl b (off+l*sz) (cap-l) sz _ _ b' hb (by omega) (by omega) (fun r hr=>hrl r (List.mem_of_mem_take (List.mem_of_mem_drop hr))) ?_ hm)
       intro j c hj
       rw[List.getElem?_take]at hj
       split at hj
       ·rw[List.getElem?_drop]at hj
        rw[Nat.add_assoc]
        exact hcc _ _ hj
       ·cases hj
      ·intro y hy
       rcases List.mem_cons.1 hy with rfl|hy
       ·exact z1 _ (by simp)
       ·exact z1 _ (by simp[hsub y hy])
   ·cases h
  ·cases h
 ·cases h
theorem VY{v:Value}(h:v.oneCell'=true):v.cells.toList=[v]:=by
 cases v<;>first|rfl|cases h
theorem yK.one{v:Value}{d:D}{bs:List Nat}(h:yK w κ v d bs)(hk:∀(id:Nat) u,κ id=some u→u.oneCell'=true)(hna:∀es,d≠ .agg es)(hc:d.cellsOf=some [d]):v.oneCell'=true:=by
 cases h with
 |pure h=>
  cases h<;>first
   |rfl
   | (exfalso;exact hna _ rfl)
   | (simp[D.cellsOf]at hc;done)
   | (simp only[D.cellsOf]at hc;split at hc<;>first|assumption|cases hc)
 |acc i v h=>exact hk i v h
 |ptr=>rfl
 |op=>rfl
theorem CB{v:Value}{d:D}{bs:List Nat}{ds:List D}(hk:∀(id:Nat) u,κ id=some u→u.oneCell'=true)(h:qW w κ v d bs)(hc:d.cellsOf=some ds):c8 w κ v.cells.toList ds bs:=by
 have single:∀ {v d bs},yK w κ v d bs→(∀es,d≠ .agg es)→d.cellsOf=some [d]→c8 w κ v.cells.toList [d] bs:=by
  intro v d bs h hna hc
  have h1:=h.one hk hna hc
  rw[VY h1]
  have:=c8.cons v [] d [] bs [] h1 h .nil
  simpa using this
 cases h with
 |iJ=>simp[D.cellsOf]at hc
 |v h=>
  cases h with
  |agg cs _ _ h=>simp only[D.cellsOf,Option.some.injEq]at hc;subst hc;simpa[Value.cells]using h
  |cell h=>
   by_cases tB:∃es,d=.agg es
   ·obtain⟨es,rfl⟩:=tB
    simp only[D.cellsOf,Option.some.injEq]at hc
    subst hc
    cases h with
    |pure h=>cases h with|agg cs _ _ h=>simpa[Value.cells]using c8.E8 (κ:=κ) h
   ·have e:ds=[d]:=by
     cases d<;>simp only[D.cellsOf,Option.some.injEq,reduceCtorEq]at hc<;>first
      |exact hc.symm
      | (exfalso;exact tB ⟨_,rfl⟩)
      | (split at hc<;>first| (simp at hc;exact hc.symm)|cases hc)
    subst e
    exact single h (fun es he=>tB ⟨es,he⟩) hc
theorem xA{T:TypeId}{zs:List D}(hz:tz P T=some zs):∃i z,P.info? T=some i∧i.zero=some z∧z.cells.size=i.size∧zs.length=i.size∧(∀c∈z.cells.toList,c.oneCell'=true)∧zs=z.cells.toList.map D.ofV:=by
 unfold tz at hz
 split at hz
 ·rename_i i hi
  split at hz
  ·rename_i z VE
   split at hz
   ·rename_i hc
    cases hz
    simp only[Bool.and_eq_true,List.all_eq_true,beq_iff_eq]at hc
    exact⟨i,z,hi,VE,hc.2,by simp[hc.2],hc.1,rfl⟩
   ·cases hz
  ·cases hz
 ·cases hz
theorem CC(cs:List Value)(h:∀c∈cs,c.oneCell'=true):c8 w κ cs (cs.map D.ofV) []:=by
 induction cs with
 |nil=>exact .nil
 |cons c cs ih=>
  have hrd:Rd w c (D.ofV c) []:=by
   unfold D.ofV
   split
   ·exact .bool _
   ·split
    ·rename_i h;exact .int _ _ h
    ·exact .val _
   ·split
    ·rename_i h;exact .str _ h
    ·exact .val _
   ·exact .nil
   ·exact .val _
  have:=c8.cons (κ:=κ) c cs _ _ [] [] (h c (by simp)) (.pure hrd) (ih (fun x hx=>h x (by simp[hx])))
  simpa using this
theorem foldl_set(off:Nat):∀(vs:List Value) (k:Nat) (cells:Array Value),off+k+vs.length≤cells.size→
 ((vs.zipIdx k).foldl (fun cs (x:Value×Nat)=>cs.setIfInBounds (off+x.2) x.1) cells).toList=cells.toList.take (off+k)++vs++cells.toList.drop (off+k+vs.length):=by
 intro vs
 induction vs with
 |nil=>intro k cells _;simp
 |cons v vs ih=>
  intro k cells h
  simp only[List.length_cons]at h
  rw[List.zipIdx_cons,List.foldl_cons,ih (k+1) _ (by simp;omega)]
  simp only[Array.toList_setIfInBounds,List.length_cons]
  have hlt:off+k<cells.toList.length:=by simp;omega
  rw[show off+(k+1)=off+k+1 from by omega,List.take_set,List.drop_set,if_pos (by omega)]
  rw[show off+k+1+vs.length=off+k+(vs.length+1)from by omega]
  congr 1
  rw[show v::vs=[v]++vs from rfl,←List.append_assoc]
  congr 1
  rw[List.take_succ_eq_append_getElem hlt,List.set_append_right _ _ (by simp;omega)]
  have:(List.take (off+k) cells.toList).length=off+k:=by rw[List.length_take];omega
  rw[this,Nat.sub_self];rfl
theorem a2q(hs:bN Γ st κ Θ a w){places:List (Nat×Nat)}:∀(parts:List (Nat×Operand)) (cs:Array Value) (cells ds:List D) (bs:List Nat),
 c8 w κ cs.toList cells bs→(∀b∈bs,Θ b=0)→xM places cells (parts.map fun p=>(p.1,st.ev p.2))=some ds→
 ∃arr bs',Instr.fill (places.toArray[·]?) cs (parts.map fun p=>(p.1,a.eval p.2))=some arr∧c8 w κ arr.toList ds bs'∧∀b∈bs',Θ b=0:=by
 intro parts
 induction parts with
 |nil=>
  intro cs cells ds bs hr hz hf
  simp only[List.map_nil,xM,Option.some.injEq]at hf
  subst hf
  exact⟨cs,bs,rfl,hr,hz⟩
 |cons p parts ih=>
  intro cs cells ds bs hr hz hf
  ·obtain⟨i,x⟩:=p
   obtain⟨b,hv,hb⟩:=hs.ev x
   generalize hvv:a.eval x=v at hv
   simp only[List.map_cons,xM]at hf
   split at hf
   ·rename_i off sz es hpl hes
    split at hf
    ·rename_i hc
     have hcs:=CB hs.o4 hv hes
     have hl1:=hcs.length
     have D8:=hr.length
     have e:cells=cells.take off++((cells.drop off).take sz++(cells.drop off).drop sz):=by rw[List.take_append_drop,List.take_append_drop]
     rw[e]at hr
     obtain⟨v1,v2,c1,c2,TI,rfl,k1,k2⟩:=hr.split
     obtain⟨v3,v4,c3,c4,rfl,rfl,k3,k4⟩:=k2.split
     have l1:v1.length=off:=by rw[k1.length];simp;omega
     have l3:v3.length=sz:=by rw[k3.length];simp;omega
     have hvs:v.cells.size=sz:=by rw[←hc.1,←hl1];simp
     have hcl:cs.size=cells.length:=by rw[←D8];simp
     have a5O:=foldl_set off v.cells.toList 0 cs (by simp;omega)
     simp only[Nat.add_zero,Array.length_toList,hvs]at a5O
     have e1:cs.toList.take off=v1:=by rw[TI];exact List.take_left' l1
     have e4:cs.toList.drop (off+sz)=v4:=by rw[TI,←List.drop_drop,List.drop_left' l1];exact List.drop_left' l3
     rw[e1,e4]at a5O
     rw[List.drop_drop]at k4
     have hnew:=(k1.app hcs).app k4
     obtain⟨arr,bs',h1,h2,h3⟩:=ih (v.cells.zipIdx.foldl (fun cs (x:Value×Nat)=>cs.setIfInBounds (off+x.2) x.1) cs) _ ds ((c1++b)++c4)
      (by rw[←Array.foldl_toList,Array.toList_zipIdx,a5O];exact hnew)
      (by
       intro x hx
       simp only[List.mem_append]at hx
       rcases hx with(hx|hx)|hx
       ·exact hz x (by simp[hx])
       ·exact hb x hx
       ·exact hz x (by simp[hx])) hf
     refine⟨arr,bs',?_,h2,h3⟩
     simp only[List.map_cons,Instr.fill,List.getElem?_toArray,hpl,hvv]
     rw[if_neg (by simp;omega)]
     simpa using h1
    ·cases hf
   ·cases hf
theorem ZH{o:Oper}{t:TypeId}{parts:Array (Nat×Operand)}{d:D}(hs:bN Γ st κ Θ a w)(ho:o.op=.build t parts)
 (h:pv P st (.build t parts)=some d):wP P κ Θ a w o d:=by
 simp only[pv]at h
 split at h
 ·rename_i zs ps hz hp
  cases hf:xM ps zs (parts.toList.map fun p=>(p.1,st.ev p.2))with
  |none=>simp[hf]at h
  |some ds=>
   simp only[hf,Option.map_some,Option.some.injEq]at h
   subst h
   obtain⟨i,z,hi,yL,hsz,hlen,hone,rfl⟩:=xA hz
   obtain⟨arr,bs',h1,h2,h3⟩:=a2q hs parts.toList z.cells _ ds [] (CC z.cells.toList hone) (by simp) hf
   have hb:P.built t (parts.map fun(i,x)=>(i,a.eval x)).toList=some arr:=by
    unfold a2l at hp
    split at hp
    ·rename_i fs hu
     unfold Program.built
     simp only[hi,hu,yL,hp]
     rw[Array.toList_map]
     exact h1
    ·cases hp
   refine⟨.agg arr,bs',?_,?_,h3⟩
   ·simp only[execOp,ho]
    simp[run_build w t _ arr hb]
   ·have:=TF.agg (w:=w) (κ:=κ) arr.toList ds bs' h2
    exact .v (by simpa using this)
 ·cases h
theorem run_equalIn_bool{t:TypeId}{a b:Bool}(h:P.underlying t=some .bool)(d:Nat):(Op.equalIn (d+1) t (.bool a) (.bool b)).run P w=.ok (a==b) w:=by
 simp[Op.equalIn,run_underlying h]
theorem E9{t:TypeId}{a b:ByteArray}(h:P.underlying t=some .string)(d:Nat):(Op.equalIn (d+1) t (.string a) (.string b)).run P w=.ok (a==b) w:=by
 simp[Op.equalIn,run_underlying h]
theorem O4{t:TypeId}(h:QN P t=true){xs:Array Value}{off:Nat}{v:Value}(hx:xs[off]?=some v):(part t xs off).run P w=.ok v w:=by
 simp[part,isAgg,run_underlying (x9 h),hx]
theorem QR{t:TypeId}{a b c e:ByteArray}(h:a2k P t=true)(d:Nat):(Op.equalIn (d+2) t (.agg #[.string a,.string b]) (.agg #[.string c,.string e])).run P w=.ok (a==c&&b==e) w:=by
 unfold a2k at h
 split at h
 ·rename_i fs hu
  split at h
  ·rename_i f g hfs
   simp only[Bool.and_eq_true,bne_iff_ne,ne_eq,beq_iff_eq,Bool.not_eq_true']at h
   obtain⟨⟨⟨⟨⟨⟨⟨h1,h2⟩,h3⟩,h4⟩,h5⟩,h6⟩,h7⟩,h8⟩:=h
   have aFT:fs= #[f,g]:=by apply Array.toList_inj.mp;simpa using hfs
   subst aFT
   have p1:=fun(xs:Array Value) (v:Value) (hx:xs[0]?=some v)=>O4 (w:=w) h5 hx
   have p2:=fun(xs:Array Value) (v:Value) (hx:xs[1]?=some v)=>O4 (w:=w) h6 hx
   have q1:=E9 (P:=P) (w:=w) (a:=a) (b:=c) (x9 h5) d
   have q2:=E9 (P:=P) (w:=w) (a:=b) (b:=e) (x9 h6) d
   rw[Op.equalIn]
   generalize(a==c)=r1 at q1⊢
   generalize(b==e)=r2 at q2⊢
   cases r1<;>cases r2<;>simp[run_underlying hu,h7,h1,h2,h3,h4,p1,p2,q1,q2]
  ·cases h
 ·cases h
theorem c8.a2r{κ:Nat→Option Value}{cs:List Value}{p q:Bytes}{bs:List Nat}(h:c8 w κ cs [.str p,.str q] bs):∃u v:ByteArray,cs=[.string u,.string v]∧u.data.toList=p∧v.data.toList=q:=by
 cases h with
 |cons v1 vs _ _ b1 b2 _ h1 h2=>
  cases h2 with
  |cons v2 vs' _ _ b3 b4 _ h3 h4=>
   cases h4
   obtain⟨u,rfl,hu⟩:=(qW.v (.cell h1):qW w κ _ _ _).tY
   obtain⟨v,rfl,hv⟩:=(qW.v (.cell h3):qW w κ _ _ _).tY
   exact⟨u,v,rfl,hu,hv⟩
theorem a5P(u v:ByteArray):(u==v)=(u.data==v.data):=by cases u;cases v;rfl
theorem a3q{o:Oper}{op:BinOp}{t t':TypeId}{x y:Operand}{d:D}(hs:bN Γ st κ Θ a w)(ho:o.op=.binOp op t x y t')
 (h:peq P op t (st.ev x) (st.ev y)=some d):wP P κ Θ a w o d:=by
 obtain⟨b1,r1,_⟩:=hs.ev x
 obtain⟨b2,r2,_⟩:=hs.ev y
 generalize st.ev x=dx at*
 generalize st.ev y=dy at*
 unfold peq at h
 split at h
 ·rename_i p q
  split at h
  ·rename_i hb
   have hu:P.underlying t=some .bool:=by
    unfold a9p at hb;split at hb
    ·assumption
    ·cases hb
   have e1:=r1.wA
   have e2:=r2.wA
   have hq:=run_equalIn_bool (P:=P) (w:=w) (a:=p) (b:=q) hu 9999
   have q':(Op.equal t (.bool p) (.bool q)).run P w=.ok (p==q) w:=hq
   cases op<;>simp only[Option.some.injEq,reduceCtorEq]at h
   all_goals subst h
   all_goals exact⟨_,[],by(simp[execOp,ho,e1,e2,binOp,eqGuard,q'])<;>(cases p<;>cases q<;>rfl),.of (.bool _),by simp⟩
  ·cases h
 ·rename_i p1 p2 q1 q2
  split at h
  ·rename_i hb
   obtain⟨cs1,e1,k1⟩:=r1.IF
   obtain⟨cs2,e2,k2⟩:=r2.IF
   obtain⟨u1,u2,rfl,rfl,rfl⟩:=c8.a2r k1
   obtain⟨v1,v2,rfl,rfl,rfl⟩:=c8.a2r k2
   have hg:P.eqGuardType P.depth t=false:=by
    unfold a2k at hb
    split at hb
    ·split at hb
     ·simp only[Bool.and_eq_true,Bool.not_eq_true']at hb;exact hb.2
     ·cases hb
    ·cases hb
   have q:=QR (P:=P) (w:=w) (a:=u1) (b:=u2) (c:=v1) (e:=v2) hb 9998
   have q':(Op.equal t (.agg #[.string u1,.string u2]) (.agg #[.string v1,.string v2])).run P w=.ok (u1==v1&&u2==v2) w:=q
   cases op<;>simp only[Option.some.injEq,reduceCtorEq]at h
   all_goals subst h
   all_goals exact⟨_,[],by(simp[execOp,ho,e1,e2,binOp,eqGuard,hg,q'])<;>(rw[a5P,a5P]),.of (.bool _),by simp⟩
  ·cases h
 ·cases h
theorem qW.a8Y{v:Value}{b:Bool}{bs:List Nat}(h:qW w κ v (.ifc b) bs):(b=false∧v=.nilIface)∨(b=true∧∃t u,v=.iface t u):=by
 cases h with|v h=>cases h with|cell h=>cases h with|pure h=>cases h with
  |a3i=>exact .inl ⟨rfl,rfl⟩
  |a3j t u=>exact .inr ⟨rfl,t,u,rfl⟩
theorem O5{t:TypeId}{ms:Array (String×TypeId)}(hu:P.underlying t=some (.interface ms)):(Op.equal t .nilIface .nilIface).run P w=.ok true w:=by
 unfold Op.equal Op.maxDepth;rw[Op.equalIn];simp[run_underlying hu]
theorem KW{t:TypeId}{ms:Array (String×TypeId)}{t1:TypeId}{v1:Value}(hu:P.underlying t=some (.interface ms)):(Op.equal t (.iface t1 v1) .nilIface).run P w=.ok false w:=by
 unfold Op.equal Op.maxDepth;rw[Op.equalIn];simp[run_underlying hu]
theorem a1J{o:Oper}{op:BinOp}{t t':TypeId}{x y:Operand}{d:D}(hs:bN Γ st κ Θ a w)(ho:o.op=.binOp op t x y t')
 (h:aB1 op (st.ev x) (st.ev y)=some d):wP P κ Θ a w o d:=by
 obtain⟨b1,r1,_⟩:=hs.ev x
 obtain⟨b2,r2,_⟩:=hs.ev y
 generalize st.ev x=dx at*
 generalize st.ev y=dy at*
 unfold aB1 at h
 split at h
 ·rename_i k p k' q
  have e1:=r1.pG
  have e2:=r2.pG
  cases op<;>simp only[reduceCtorEq]at h
  case shr=>
   split at h
   ·rename_i hq
    cases h
    exact⟨_,[],by simp[execOp,ho,e1,e2,binOp,eqGuard,Op.shift,show¬q<0 by omega,a8W],.of (.int _ _ (r1.TG.shr q)),by simp⟩
   ·cases h
  all_goals
   split at h
   ·rename_i hk
    subst hk
    cases h
    exact⟨_,[],by simp[execOp,ho,e1,e2,binOp,eqGuard,Op.intBits,a9q,aCz,a9r],.of (.int _ _ (rC.wrap _ _)),by simp⟩
   ·cases h
 ·cases h
theorem a1K{o:Oper}{op:BinOp}{t t':TypeId}{x y:Operand}{d:D}(hs:bN Γ st κ Θ a w)(ho:o.op=.binOp op t x y t')
 (h:aAz P op t (st.ev x) y=some d):wP P κ Θ a w o d:=by
 obtain⟨b1,r1,_⟩:=hs.ev x
 generalize st.ev x=dx at*
 unfold aAz at h
 split at h
 ·rename_i b
  have hy:a.eval (.const .nilIface)=.nilIface:=rfl
  have hT:∀ {op'},aAy P t=true→op=op'→∃ms,P.underlying t=some (.interface ms):=by
   intro _ ht _
   unfold aAy at ht
   split at ht
   ·rename_i ms hu;exact⟨ms,hu⟩
   ·cases ht
  rcases r1.a8Y with⟨rfl,hx⟩|⟨rfl,t1,v1,hx⟩
  ·split at h
   ·rename_i ht
    cases h
    obtain⟨ms,hu⟩:=hT ht rfl
    exact⟨.bool true,[],by simp[execOp,ho,hx,hy,binOp,eqGuard_nil_constR,O5 hu],.of (.bool _),by simp⟩
   ·rename_i ht
    cases h
    obtain⟨ms,hu⟩:=hT ht rfl
    exact⟨.bool false,[],by simp[execOp,ho,hx,hy,binOp,eqGuard_nil_constR,O5 hu],.of (.bool _),by simp⟩
   ·cases h
  ·split at h
   ·rename_i ht
    cases h
    obtain⟨ms,hu⟩:=hT ht rfl
    exact⟨.bool false,[],by simp[execOp,ho,hx,hy,binOp,eqGuard,KW hu],.of (.bool _),by simp⟩
   ·rename_i ht
    cases h
    obtain⟨ms,hu⟩:=hT ht rfl
    exact⟨.bool true,[],by simp[execOp,ho,hx,hy,binOp,eqGuard,KW hu],.of (.bool _),by simp⟩
   ·cases h
 ·cases h
theorem z7.cons{w:World}{e:MapEntry}{es:List MapEntry}{p:D×D}{kv:List (D×D)}(h:z7 w (e::es) (p::kv)):Rd w e.key p.1 []∧Rd w e.val p.2 []∧z7 w es kv:=
 ⟨(h.2 0 e p rfl rfl).1,(h.2 0 e p rfl rfl).2,by simpa using h.1,fun j e' p' h1 h2=>h.2 (j+1) e' p' (by simpa using h1) (by simpa using h2)⟩
theorem a9s{x y:ByteArray}:(x==y)=(x.data.toList==y.data.toList):=by
 rw[Bool.eq_iff_iff,MapKept.bytes_beq,beq_iff_eq]
 constructor
 ·intro h;rw[h]
 ·intro h
  obtain⟨a⟩:=x
  obtain⟨b⟩:=y
  simp only at h
  rw[Array.toList_inj]at h
  rw[h]
theorem T5{w:World}{kd:TypeDesc}{k k':D}{u u':Value}{b:Bool}(VJ:LD kd k=true)(hu:Rd w u k [])(zQ:Rd w u' k' [])(h:keq k k'=some b):Instr.sameNow kd u u'=some b∧(b=true→u'=u):=by
 unfold keq at h
 split at h
 ·rename_i s s'
  cases h
  cases hu with
  |str x hx=>
   cases zQ with
   |str y hy=>
    cases kd<;>simp[LD]at VJ
    refine⟨by simp only[Instr.sameNow];rw[a9s],fun e=>?_⟩
    rw[←a9s,MapKept.bytes_beq]at e
    rw[e]
 ·rename_i k1 a k2 b'
  split at h
  ·rename_i e
   subst e
   cases h
   cases hu with
   |int _ _ hx=>
    cases zQ with
    |int _ _ hy=>
     cases kd<;>simp[LD]at VJ
     refine⟨by simp[Instr.sameNow],fun e=>?_⟩
     have:a=b':=by simpa using e
     rw[this]
  ·cases h
 ·cases h
theorem a8Z{w:World}{kd:TypeDesc}{k:D}{u:Value}(VJ:LD kd k=true)(hu:Rd w u k []):∀ {es:List MapEntry} {kv:List (D×D)} {r:Option D} (i:Nat),z7 w es kv→FK k kv=some r→
 (r=none∧Instr.findNow kd u es i=some none)∨∃d v j,r=some d∧Instr.findNow kd u es i=some (some (j,v))∧Rd w v d []:=by
 intro es
 induction es with
 |nil=>
  intro kv r i hr h
  cases kv with
  |nil=>cases h;exact .inl ⟨rfl,rfl⟩
  |cons p kv=>exact absurd hr.1 (by simp)
 |cons e es ih=>
  intro kv r i hr h
  cases kv with
  |nil=>exact absurd hr.1 (by simp)
  |cons p kv=>
   obtain⟨r1,r2,r3⟩:=hr.cons
   simp only[FK]at h
   split at h
   ·rename_i hq
    cases h
    exact .inr ⟨p.2,e.val,i,rfl,by simp[Instr.findNow,(T5 VJ hu r1 hq).1],r2⟩
   ·rename_i hq
    have:=ih (i+1) r3 h
    simpa[Instr.findNow,(T5 VJ hu r1 hq).1]using this
   ·cases h
theorem ZI{w:World}{kd:TypeDesc}{k:D}{u:Value}(VJ:LD kd k=true)(hu:Rd w u k []):MapKept.IsKey kd u:=by
 cases kd<;>cases k<;>simp[LD]at VJ
 all_goals cases hu
 ·simp[MapKept.IsKey,VJ]
 ·simp[MapKept.IsKey]
theorem VZ{w:World}{κ:Nat→Option Value}{kd:TypeDesc}{k:D}{u:Value}{bs:List Nat}(VJ:LD kd k=true)(hu:qW w κ u k bs):Rd w u k []:=by
 cases kd<;>cases k<;>simp[LD]at VJ
 all_goals cases hu with|v h=>cases h with|cell h=>cases h with|pure h=>cases h<;>(constructor;assumption)
theorem XF{t:TypeId}{i:TypeInfo}(h:P.info? t=some i){w:World}:(typeInfo t).run P w=.ok i w:=by
 simp[typeInfo,h]
theorem TJ{T:TypeId}{kd:TypeDesc}{dz:D}(h:a3n P T=some (kd,dz)):∃kt et z,P.underlying T=some (.map kt et)∧P.underlying kt=some kd∧dz=D.ofV z∧∀w:World,(zeroValue et).run P w=.ok z w:=by
 unfold a3n at h
 split at h
 ·rename_i kt et h1
  split at h
  ·rename_i d i h2 h3
   split at h
   ·rename_i z h4
    split at h
    ·cases h
     exact⟨kt,et,z,h1,h2,rfl,fun w=>by simp[zeroValue,XF h3,h4]⟩
    ·cases h
   ·cases h
  ·cases h
 ·cases h
theorem XG{o:Oper}{T:Nat}{x i:Operand}{ok:Bool}{d:D}(hs:bN Γ st κ Θ a w)(ho:o.op=.lookup T x i ok)
 (h:pv P st (.lookup T x i ok)=some d):wP P κ Θ a w o d:=by
 simp only[pv]at h
 split at h
 ·rename_i id hx
  split at h
  ·rename_i kv hH
   obtain⟨g,es,c,q1,q2,q3,q4⟩:=hs.ob id _ hH
   obtain⟨bs,r,_⟩:=hs.ev x
   rw[hx]at r
   obtain⟨hk,_⟩:=r.vC
   rw[q1]at hk
   have hxv:a.eval x=.map (some g):=(Option.some.inj hk).symm
   obtain⟨bi,ri,_⟩:=hs.ev i
   unfold plk at h
   split at h
   ·rename_i kd dz hT
    obtain⟨kt,et,z,t1,t2,t3,t4⟩:=TJ hT
    have fin:∀(r:Option D),LD kd (st.ev i)=true→FK (st.ev i) kv=some r→d=(match r with|some d=>(bif ok then .iJ [d,.bool true]else d)|none=>(bif ok then .iJ [dz,.bool false]else dz))→wP P κ Θ a w o d:=by
     intro r VJ hf hd
     have hu:=VZ VJ ri
     have hck:=MapKept.run_checkKey (P:=P) (w:=w) t2 (ZI VJ hu) es.isEmpty 9999
     rcases a8Z VJ hu 0 q4 hf with⟨rfl,hn⟩|⟨d',v,j,rfl,hn,hv⟩
     ·have hfk:=MapKept.run_findKey (P:=P) (w:=w) t2 hn
      subst hd
      cases ok with
      |false=>exact⟨z,[],by simp[execOp,ho,hxv,Instr.lookup,run_underlying t1,MapKept.run_getObj_map q2,hck,hfk,t4],by rw[t3];exact a1G z,by simp⟩
      |true=>
       refine⟨.tuple #[z,.bool false],[],by simp[execOp,ho,hxv,Instr.lookup,run_underlying t1,MapKept.run_getObj_map q2,hck,hfk,t4],?_,by simp⟩
       have hz:TF w κ z dz []:=by
        have:=a1G (w:=w) (κ:=κ) z
        rw[←t3]at this
        cases this with
        |v h=>exact h
        |iJ vs ds bs h=>exact absurd t3 (by simp[D.ofV])
       exact .iJ [z,.bool false] [dz,.bool false] [] (.cons _ _ _ _ [] [] hz (.cons _ _ _ _ [] [] (.cell (.pure (.bool _))) .nil))
     ·have hfk:=MapKept.run_findKey (P:=P) (w:=w) t2 hn
      subst hd
      cases ok with
      |false=>exact⟨v,[],by simp[execOp,ho,hxv,Instr.lookup,run_underlying t1,MapKept.run_getObj_map q2,hck,hfk],.of hv,by simp⟩
      |true=>
       refine⟨.tuple #[v,.bool true],[],by simp[execOp,ho,hxv,Instr.lookup,run_underlying t1,MapKept.run_getObj_map q2,hck,hfk],?_,by simp⟩
       exact .iJ [v,.bool true] [d',.bool true] [] (.cons _ _ _ _ [] [] (.cell (.pure hv)) (.cons _ _ _ _ [] [] (.cell (.pure (.bool _))) .nil))
    split at h
    ·rename_i d' h1 h2
     cases h
     exact fin _ h1 h2 rfl
    ·rename_i h1 h2
     cases h
     exact fin _ h1 h2 rfl
    ·cases h
   ·cases h
  ·cases h
 ·cases h
theorem Rd.aB6{w:World}{v:Value}{row:List D}{o:Nat}{bs:List Nat}(h:Rd w v (.ep row o) bs):∃q,v=.pointer (some q):=by
 cases h;exact⟨_,rfl⟩
theorem FL{o:Oper}{d:D}(hs:bN Γ st κ Θ a w)(h:pv P st o.op=some d):wP P κ Θ a w o d:=by
 cases ho:o.op
 all_goals rw[ho]at h
 case load t x=>exact TH hs ho h
 case lookup t x i ok=>exact XG hs ho h
 case build t parts=>exact ZH hs ho h
 case fieldAddr t x f=>exact SL hs ho h
 case field t x f=>exact ZE hs ho h
 case indexAddr t x i=>exact SM hs ho h
 case extract x i=>exact VI hs ho h
 case index t x i=>exact ZF hs ho h
 case binOp op t x y t'=>
  simp only[pv]at h
  split at h
  ·rename_i e
   cases h
   exact a1I hs ho e
  ·split at h
   ·rename_i e
    cases h
    exact a3q hs ho e
   ·split at h
    ·rename_i e
     cases h
     exact a1K hs ho e
    ·exact a1J hs ho h
 case nilCheck x=>
  simp only[pv]at h
  obtain⟨b,r,z⟩:=hs.ev x
  have hnn:∀q,a.eval x=.pointer (some q)→wP P κ Θ a w o (st.ev x):=fun q hq=>⟨_,b,by simp[execOp,ho,hq],hq▸r,z⟩
  split at h<;>rename_i hx<;>cases h<;>rw[hx]at r hnn
  ·obtain⟨g,_,hv⟩:=r.zO
   exact hnn _ hv
  ·obtain⟨_,_,_,_,_,hv⟩:=r.FJ
   exact hnn _ hv
  ·obtain⟨_,hv⟩:=Rd.aB6 r.a1F
   exact hnn _ hv
 case slice t x lo hi mx=>
  cases mx with
  |none=>exact ZG hs ho h
  |some m=>simp[pv]at h
 case move x=>
  simp only[pv,Option.some.injEq]at h
  subst h
  obtain⟨b,r,z⟩:=hs.ev x
  exact⟨_,b,by simp[execOp,ho],r,z⟩
 case assign x=>
  simp only[pv,Option.some.injEq]at h
  subst h
  obtain⟨b,r,z⟩:=hs.ev x
  exact⟨_,b,by simp[execOp,ho],r,z⟩
 case pick c x y=>
  simp only[pv]at h
  split at h
  ·rename_i t hc
   cases h
   obtain⟨b,r,z⟩:=hs.ev c
   rw[hc]at r
   have hv:=r.wA
   cases t
   ·obtain⟨b,r,z⟩:=hs.ev y
    exact⟨_,b,by simp[execOp,ho,hv,asBool],r,z⟩
   ·obtain⟨b,r,z⟩:=hs.ev x
    exact⟨_,b,by simp[execOp,ho,hv,asBool],r,z⟩
  ·cases h
 case unOp op t x=>
  obtain⟨b,r,z⟩:=hs.ev x
  cases op<;>simp only[pv,reduceCtorEq]at h
  case neg=>
   split at h
   ·rename_i k n hx
    cases h
    rw[hx]at r
    have hv:=r.pG
    exact⟨_,[],by simp[execOp,ho,hv,Op.unary,Op.intArith],.of (.int _ _ (rC.wrap _ _)),by simp⟩
   ·cases h
  case not=>
   split at h
   ·rename_i bb hx
    cases h
    rw[hx]at r
    have hv:=r.wA
    exact⟨_,[],by simp[execOp,ho,hv,Op.unary],.of (.bool _),by simp⟩
   ·cases h
 case convert s d' x=>
  obtain⟨b,r,z⟩:=hs.ev x
  simp only[pv]at h
  split at h
  ·rename_i k0 n k1 k hx h1 h2
   cases h
   rw[hx]at r
   have hv:=r.pG
   have u1:P.underlying s=some (.int k1):=by
    unfold a1H at h1;split at h1
    ·cases h1;assumption
    ·cases h1
   have u2:P.underlying d'=some (.int k):=by
    unfold a1H at h2;split at h2
    ·cases h2;assumption
    ·cases h2
   exact⟨_,[],by simp[execOp,ho,hv,convert,run_underlying u1,run_underlying u2,Conv.intToInt],.of (.int _ _ (rC.wrap _ _)),by simp⟩
  ·cases h
 case call c=>
  simp only[pv]at h
  split at h
  ·rename_i x t h1 h2 h3
   refine a3p hs (x:=x) (t:=t) ?_ h
   rw[ho]
   obtain⟨callee,args,argTypes⟩:=c
   simp only at h1 h2 h3
   subst h1
   have e1:args= #[x]:=by cases args;simp_all
   have e2:argTypes= #[t]:=by cases argTypes;simp_all
   subst e1;subst e2;rfl
  ·rename_i x y t t' h1 h2 h3
   refine a3o hs (x:=x) (y:=y) (t:=t) (t':=t') ?_ h
   rw[ho]
   obtain⟨callee,args,argTypes⟩:=c
   simp only at h1 h2 h3
   subst h1
   have e1:args= #[x,y]:=by cases args;simp_all
   have e2:argTypes= #[t,t']:=by cases argTypes;simp_all
   subst e1;subst e2;rfl
  ·cases h
 all_goals simp[pv]at h
theorem a9t{Q:Exit→St→Prop}{all:Array Oper}{rest:List Oper}{o:Oper}{t:Nat}{d:D}(hd:o.dst=some t)(hg:o.guard=none)(ht:t<Γ.nt)
 (hv:pv P st o.op=some d) (h:AO P Γ all rest Q (st.set t d)):AO P Γ all (o::rest) Q st:=by
 intro κ Θ a w hs
 obtain⟨v,bs,hr,hrd,hz⟩:=FL hs hv
 refine wpList_plain hg fun K hK=>?_
 unfold Oper.wp
 rw[hr,Oper.upon_value,hd]
 exact hK _ _ (h κ Θ _ w (hs.set ht hrd hz))
end
end Go.Cx
namespace Go.Cx
set_option linter.unusedVariables false
set_option linter.unusedSimpArgs false
open Go.RowKit
structure fD(w w':World)(Θ Θ':Nat→Nat)(tag:Nat):Prop where
 two:2≤tag
 os:w'.os=w.os
 tape:w'.tape=w.tape
 output:w'.output=w.output
 size:w.heap.size≤w'.heap.size
 block:∀b,b<w.heap.size→Θ b≠tag→w'.heap[b]?=w.heap[b]?
 owner:∀b,b<w.heap.size→Θ b≠tag→Θ' b=Θ b
 own:∀b,Θ' b≠0→b<w'.heap.size
section
variable{w w':World}{κ κ':Nat→Option Value}{Θ Θ':Nat→Nat}{tag id:Nat}{r:D}
theorem fD.free(k:fD w w' Θ Θ' tag){b:Nat}(hb:b<w.heap.size)(hz:Θ b=0):Θ' b=0:=by
 have:=k.two
 rw[k.owner b hb (by omega)];exact hz
theorem Rd.over{v:Value}{d:D}{bs:List Nat}(k:fD w w' Θ Θ' tag)(h:Rd w v d bs)(hz:∀b∈bs,Θ b=0):Rd w' v d bs∧∀b∈bs,Θ' b=0:=by
 have:=k.two
 exact⟨h.keep fun b hb=>k.block b (h.lt b hb) (by rw[hz b hb];omega),fun b hb=>k.free (h.lt b hb) (hz b hb)⟩
theorem jN.over{vs:List Value}{ds:List D}{bs:List Nat}(k:fD w w' Θ Θ' tag)(h:jN w vs ds bs)(hz:∀b∈bs,Θ b=0):jN w' vs ds bs∧∀b∈bs,Θ' b=0:=by
 have:=k.two
 exact⟨h.keep fun b hb=>k.block b (h.lt b hb) (by rw[hz b hb];omega),fun b hb=>k.free (h.lt b hb) (hz b hb)⟩
section
variable(hn:∀(j:Nat) v,κ j=some v→κ' j=some v)
include hn
theorem yK.held{v:Value}{d:D}{bs:List Nat}(h:yK w κ v d bs)(hb:∀b∈bs,w'.heap[b]?=w.heap[b]?):yK w' κ' v d bs:=by
 cases h with
 |pure h=>exact .pure (h.keep hb)
 |acc i v hk=>exact .acc i v (hn _ _ hk)
 |ptr i off b hk=>exact .ptr i off b (hn _ _ hk)
 |op i j sz off b o0 len cap hk=>exact .op i j sz off b o0 len cap (hn _ _ hk)
theorem c8.held{vs:List Value}{ds:List D}{bs:List Nat}(h:c8 w κ vs ds bs)(hb:∀b∈bs,w'.heap[b]?=w.heap[b]?):c8 w' κ' vs ds bs:=by
 induction h with
 |nil=>exact .nil
 |cons v vs d ds b1 b2 h1 h2 _ ih=>exact .cons _ _ _ _ _ _ h1 (yK.held hn h2 fun b hb'=>hb b (by simp[hb'])) (ih fun b hb'=>hb b (by simp[hb']))
end
theorem RdH.lt{v:Value}{rows:List (List D)}{p n:Nat}{bs:List Nat}(h:RdH w κ v rows p n bs):∀b∈bs,b<w.heap.size:=by
 obtain⟨b,off,cap,cs,ns,rfl,h1,h2,h3,h4,h5,rfl,_⟩:=h
 intro x hx
 rcases List.mem_cons.1 hx with rfl|hx
 ·exact h1
 ·exact h5.lt x hx
section
variable(hn:∀(j:Nat) v,κ j=some v→κ' j=some v)
include hn
theorem RdH.stay{v:Value}{rows:List (List D)}{p n:Nat}{bs:List Nat}(h:RdH w κ v rows p n bs)(hb:∀b∈bs,w'.heap[b]?=w.heap[b]?):RdH w' κ' v rows p n bs:=by
 obtain⟨b,off,cap,cs,ns,rfl,h1,h2,h3,h4,h5,rfl,c,h6,h7⟩:=h
 exact⟨b,off,cap,cs,ns,rfl,NZ h1 (hb b (by simp)),h2,h3,fun j c hc=>(CA (hb b (by simp))).trans (h4 j c hc),h5.keep (fun x hx=>hb x (by simp[hx])),rfl,c,h6,hn _ _ h7⟩
end
section
variable(k:fD w w' Θ Θ' tag)(hn:∀(j:Nat) v,κ j=some v→κ' j=some v)
include k hn
theorem yK.stay{v:Value}{d:D}{bs:List Nat}(h:yK w κ v d bs)(hz:∀b∈bs,Θ b=0):yK w' κ' v d bs∧∀b∈bs,Θ' b=0:=by
 cases h with
 |pure h=>exact⟨.pure (Rd.over k h hz).1,(Rd.over k h hz).2⟩
 |acc i v hk=>exact⟨.acc i v (hn _ _ hk),by simp⟩
 |ptr i off b hk=>exact⟨.ptr i off b (hn _ _ hk),by simp⟩
 |op i j sz off b o0 len cap hk=>exact⟨.op i j sz off b o0 len cap (hn _ _ hk),by simp⟩
theorem c8.stay{vs:List Value}{ds:List D}{bs:List Nat}(h:c8 w κ vs ds bs)(hz:∀b∈bs,Θ b=0):c8 w' κ' vs ds bs∧∀b∈bs,Θ' b=0:=by
 induction ds generalizing vs bs with
 |nil=>cases h;exact⟨.nil,by simp⟩
 |cons d ds ih=>
  cases h with
  |cons v vs _ _ b1 b2 h1 h2 h3=>
   obtain⟨k1,k2⟩:=yK.stay k hn h2 (fun b hb=>hz b (by simp[hb]))
   obtain⟨k3,k4⟩:=ih h3 (fun b hb=>hz b (by simp[hb]))
   refine⟨.cons _ _ _ _ _ _ h1 k1 k3,fun b hb=>?_⟩
   rcases List.mem_append.1 hb with hb|hb
   ·exact k2 b hb
   ·exact k4 b hb
theorem TF.stay{v:Value}{d:D}{bs:List Nat}(h:TF w κ v d bs)(hz:∀b∈bs,Θ b=0):TF w' κ' v d bs∧∀b∈bs,Θ' b=0:=by
 cases h with
 |cell h=>exact⟨.cell (yK.stay k hn h hz).1,(yK.stay k hn h hz).2⟩
 |agg cs ds bs h=>exact⟨.agg _ _ _ (c8.stay k hn h hz).1,(c8.stay k hn h hz).2⟩
theorem D6.stay{vs:List Value}{ds:List D}{bs:List Nat}(h:D6 w κ vs ds bs)(hz:∀b∈bs,Θ b=0):D6 w' κ' vs ds bs∧∀b∈bs,Θ' b=0:=by
 induction ds generalizing vs bs with
 |nil=>cases h;exact⟨.nil,by simp⟩
 |cons d ds ih=>
  cases h with
  |cons v vs _ _ b1 b2 h2 h3=>
   obtain⟨k1,k2⟩:=TF.stay k hn h2 (fun b hb=>hz b (by simp[hb]))
   obtain⟨k3,k4⟩:=ih h3 (fun b hb=>hz b (by simp[hb]))
   refine⟨.cons _ _ _ _ _ _ k1 k3,fun b hb=>?_⟩
   rcases List.mem_append.1 hb with hb|hb
   ·exact k2 b hb
   ·exact k4 b hb
theorem qW.stay{v:Value}{d:D}{bs:List Nat}(h:qW w κ v d bs)(hz:∀b∈bs,Θ b=0):qW w' κ' v d bs∧∀b∈bs,Θ' b=0:=by
 cases h with
 |v h=>exact⟨.v (TF.stay k hn h hz).1,(TF.stay k hn h hz).2⟩
 |iJ vs ds bs h=>exact⟨.iJ _ _ _ (D6.stay k hn h hz).1,(D6.stay k hn h hz).2⟩
theorem w9.stay{j:Nat}{o:Ob}(hj:j+2≠tag)(h:w9 w κ Θ j o):w9 w' κ' Θ' j o:=by
 cases o with
 |gone=>trivial
 |tk rows=>
  obtain⟨v,bs,hk,hrd,hz⟩:=h
  obtain⟨h1,h2⟩:=Rd.over k hrd hz
  exact⟨v,bs,hn _ _ hk,h1,h2⟩
 |mp kv=>
  obtain⟨g,es,c,q1,q2,q3,q4⟩:=h
  have hlt:g<w.heap.size:=(Array.getElem?_eq_some_iff.1 q2).1
  have hne:Θ g≠tag:=by rw[q3];exact hj
  exact⟨g,es,c,hn _ _ q1,(k.block g hlt hne).trans q2,by rw[k.owner g hlt hne];exact q3,q4.stay⟩
 |w8 sz rows u=>
  obtain⟨hrl,hux,v,bs,hk,hrd,hnd,FM⟩:=h
  have hsame:∀b∈bs,w'.heap[b]?=w.heap[b]?:=fun b hb=>k.block b (hrd.lt b hb) (by rw[(FM b hb).1];exact hj)
  refine⟨hrl,fun x hx=>hn _ _ (hux x hx),v,bs,hn _ _ hk,hrd.keep hsame,hnd,fun b hb=>⟨?_,?_⟩⟩
  ·rw[k.owner b (hrd.lt b hb) (by rw[(FM b hb).1];exact hj)]
   exact(FM b hb).1
  ·obtain⟨x,T,hx⟩:=(FM b hb).2
   exact⟨x,T,(hsame b hb).trans hx⟩
 |hole sz rows u p n=>
  obtain⟨hrl,hux,v,bs,hk,hrd,hnd,FM⟩:=h
  have hsame:∀b∈bs,w'.heap[b]?=w.heap[b]?:=fun b hb=>k.block b (hrd.lt b hb) (by rw[(FM b hb).1];exact hj)
  refine⟨hrl,fun x hx=>hn _ _ (hux x hx),v,bs,hn _ _ hk,RdH.stay hn hrd hsame,hnd,fun b hb=>⟨?_,?_⟩⟩
  ·rw[k.owner b (hrd.lt b hb) (by rw[(FM b hb).1];exact hj)]
   exact(FM b hb).1
  ·obtain⟨x,T,hx⟩:=(FM b hb).2
   exact⟨x,T,(hsame b hb).trans hx⟩
 |box cells=>
  obtain⟨g,cs,T,hk,hg,hΘ,bs,sN,hz⟩:=h
  have hlt:g<w.heap.size:=(Array.getElem?_eq_some_iff.1 hg).1
  have hne:Θ g≠tag:=by rw[hΘ];exact hj
  obtain⟨h1,h2⟩:=c8.stay k hn sN hz
  exact⟨g,cs,T,hn _ _ hk,(k.block g hlt hne).trans hg,(k.owner g hlt hne).trans hΘ,bs,h1,h2⟩
 |SI cells u=>
  obtain⟨hu,g,cs,T,hk,hg,hΘ,bs,sN,hz⟩:=h
  have hlt:g<w.heap.size:=(Array.getElem?_eq_some_iff.1 hg).1
  have hne:Θ g≠tag:=by rw[hΘ];exact hj
  obtain⟨h1,h2⟩:=c8.stay k hn sN hz
  exact⟨hn _ _ hu,g,cs,T,hn _ _ hk,(k.block g hlt hne).trans hg,(k.owner g hlt hne).trans hΘ,bs,h1,h2⟩
 |row deep e sz rows=>
  obtain⟨hsz,hrl,v,cs,bs,hk,hown,sN,hΘ,hd⟩:=h
  refine⟨hsz,hrl,v,cs,bs,hn _ _ hk,?_,?_,?_,?_⟩
  ·refine⟨hown.1,?_⟩
   rcases hown.2 with rD|⟨g,cap,cur,rfl,hb,XH,rest⟩
   ·exact .inl rD
   ·have hlt:g<w.heap.size:=(Array.getElem?_eq_some_iff.1 XH).1
    have hne:Θ g≠tag:=by rw[hΘ g (by simp[Value.ownBlock])];exact hj
    exact .inr ⟨g,cap,cur,rfl,hb,(k.block g hlt hne).trans XH,rest⟩
  ·refine sN.keep fun b hb=>k.block b (sN.lt b hb) ?_
   have:=k.two
   cases deep with
   |cl=>rw[(hd.2.1 b hb).1];exact hj
   |sh=>rw[hd b hb];omega
   |uq=>rw[hd b hb];omega
   |mv n=>rw[hd b hb];omega
  ·intro g hg
   have hlt:=(hown.lt g hg).2
   have e:=hΘ g hg
   rw[k.owner g hlt (by rw[e];exact hj)];exact e
  ·cases deep with
   |cl=>
    refine⟨hd.1,fun b hb=>⟨?_,?_⟩,hd.2.2⟩
    ·rw[k.owner b (sN.lt b hb) (by rw[(hd.2.1 b hb).1];exact hj)]
     exact(hd.2.1 b hb).1
    ·obtain⟨x,T,hx⟩:=(hd.2.1 b hb).2
     exact⟨x,T,(k.block b (sN.lt b hb) (by rw[(hd.2.1 b hb).1];exact hj)).trans hx⟩
   |sh=>exact fun b hb=>k.free (sN.lt b hb) (hd b hb)
   |uq=>exact fun b hb=>k.free (sN.lt b hb) (hd b hb)
   |mv n=>exact fun b hb=>k.free (sN.lt b hb) (hd b hb)
end
end
section
variable{Γ:uK}{st:St}{κ κ':Nat→Option Value}{Θ Θ':Nat→Nat}{a:Act}{w w':World}{tag:Nat}
theorem bN.base(hs:bN Γ st κ Θ a w):Γ.W0.heap.size≤w.heap.size:=hs.stays.size
theorem bN.a1L(hs:bN Γ st κ Θ a w)(k:fD w w' Θ Θ' tag):a2i Γ w':=by
 refine⟨k.os.trans hs.stays.os,k.tape.trans hs.stays.tape,k.output.trans hs.stays.output,Nat.le_trans hs.stays.size k.size,fun b hb hx=>?_⟩
 have:=k.two
 have h1:=(hs.old b hb hx).2
 exact(k.block b (Nat.lt_of_lt_of_le hb hs.base) (by omega)).trans (hs.stays.block b hb hx)
theorem bN.a5Q(hs:bN Γ st κ Θ a w)(k:fD w w' Θ Θ' tag):∀b,b<Γ.W0.heap.size→¬Γ.X b→Θ' b=Γ.Θ0 b∧Θ' b≤1:=by
 intro b hb hx
 have:=k.two
 have h1:=hs.old b hb hx
 rw[k.owner b (Nat.lt_of_lt_of_le hb hs.base) (by omega)]
 exact h1
theorem bN.nO(hs:bN Γ st κ Θ a w)(k:fD w w' Θ Θ' tag)(hn:∀(j:Nat) v,κ j=some v→κ' j=some v){ρ:Nat→Nat}(hu:BA Γ st.H κ Θ w ρ):
 (∀b,ρ b≠0→Θ' b=0∧a5J Γ b∧Wr w' b)∧(∀id e sz rows,id+2≠tag→st.H[id]?=some (.row .uq e sz rows)→
  ∃v cs bs,κ' id=some v∧w'.ownsRow 0 e sz v rows.length cs∧jN w' cs rows.flatten bs∧bs.Nodup∧∀b∈bs,ρ b=id+1)∧
  ∀id o,id+2≠tag→st.H[id]?=some o→SJ w' κ' ρ id o:=by
 have h2:=k.two
 refine⟨?_,?_,?_⟩
 ·intro b hb
  obtain⟨h0,hm,x,T,hx⟩:=hu.free b hb
  have hlt:b<w.heap.size:=(Array.getElem?_eq_some_iff.1 hx).1
  exact⟨k.free hlt h0,hm,x,T,(k.block b hlt (by omega)).trans hx⟩
 ·intro id e sz rows hid hH
  obtain⟨v,cs,bs,hk,hown,sN,hnd,hρ⟩:=hu.rows id e sz rows hH
  obtain⟨_,_,v2,_,_,hk2,_,_,hΘ,_⟩:=hs.ob id _ hH
  rw[hk]at hk2;cases hk2
  refine⟨v,cs,bs,hn _ _ hk,⟨hown.1,?_⟩,sN.keep fun b hb=>k.block b (sN.lt b hb) ?_,hnd,hρ⟩
  ·rcases hown.2 with rD|⟨g,cap,cur,rfl,hb,XH,rest⟩
   ·exact .inl rD
   ·have hlt:g<w.heap.size:=(Array.getElem?_eq_some_iff.1 XH).1
    have hne:Θ g≠tag:=by rw[hΘ g (by simp[Value.ownBlock])];exact hid
    exact .inr ⟨g,cap,cur,rfl,hb,(k.block g hlt hne).trans XH,rest⟩
  ·have:=hρ b hb
   have:=(hu.free b (by omega)).1
   omega
 ·intro id o hid hH
  have hm:=hu.more id o hH
  have hb0:∀ {bs:List Nat},(∀b∈bs,ρ b=id+1)→∀b∈bs,Θ b≠tag:=fun hρ b hb=>by
   have:=hρ b hb
   have:=(hu.free b (by omega)).1
   omega
  cases o with
  |tk rows=>
   obtain⟨v,bs,hk,hrd,hnd,hρ⟩:=hm
   exact⟨v,bs,hn _ _ hk,hrd.keep fun b hb=>k.block b (hrd.lt b hb) (hb0 hρ b hb),hnd,hρ⟩
  |row kd e sz rows=>
   cases kd with
   |mv n=>
    obtain⟨v,cs,bs,hk,hown,sN,hnd,hρ⟩:=hm
    obtain⟨_,_,v2,_,_,hk2,_,_,hΘ,_⟩:=hs.ob id _ hH
    rw[hk]at hk2;cases hk2
    refine⟨v,cs,bs,hn _ _ hk,⟨hown.1,?_⟩,sN.keep fun b hb=>k.block b (sN.lt b hb) (hb0 hρ b hb),hnd,hρ⟩
    rcases hown.2 with rD|⟨g,cap,cur,rfl,hb,XH,rest⟩
    ·exact .inl rD
    ·have hlt:g<w.heap.size:=(Array.getElem?_eq_some_iff.1 XH).1
     have hne:Θ g≠tag:=by rw[hΘ g (by simp[Value.ownBlock])];exact hid
     exact .inr ⟨g,cap,cur,rfl,hb,(k.block g hlt hne).trans XH,rest⟩
   |_=>trivial
  |_=>trivial
theorem SJ.re{ρ ρ':Nat→Nat}{id:Nat}{o:Ob}(h:SJ w κ ρ id o)(hr:∀b,ρ b=id+1→ρ' b=id+1):SJ w κ ρ' id o:=by
 cases o with
 |tk rows=>
  obtain⟨v,bs,hk,hrd,hnd,hρ⟩:=h
  exact⟨v,bs,hk,hrd,hnd,fun b hb=>hr b (hρ b hb)⟩
 |row kd e sz rows=>
  cases kd with
  |mv n=>
   obtain⟨v,cs,bs,hk,hown,sN,hnd,hρ⟩:=h
   exact⟨v,cs,bs,hk,hown,sN,hnd,fun b hb=>hr b (hρ b hb)⟩
  |_=>trivial
 |_=>trivial
theorem bN.step(hs:bN Γ st κ Θ a w){H':List Ob}(k:fD w w' Θ Θ' tag)(hm:∀b,2≤Θ' b→BM Γ b)(hn:∀(j:Nat) v,κ j=some v→κ' j=some v)
 (hko:∀id,H'.length≤id→κ' id=none) (hk1:∀(id:Nat) u,κ' id=some u→u.oneCell'=true)
 (B9:∀(j:Nat) o,H'[j]?=some o→o=.gone∨(j+2≠tag∧st.H[j]?=some o)∨w9 w' κ' Θ' j o) (hu:∃ρ,BA Γ H' κ' Θ' w' ρ):bN Γ ⟨st.σ,H'⟩ κ' Θ' a w':=by
 refine⟨hs.defers,hs.size,hko,hk1,?_,?_,k.own,hs.a5Q k,hm,hs.a1L k,hu⟩
 ·intro t
  obtain⟨bs,hr,hz⟩:=hs.slot t
  exact⟨bs,qW.stay k hn hr hz⟩
 ·intro j o hj
  rcases B9 j o hj with rfl|⟨hne,hj'⟩|h
  ·trivial
  ·exact w9.stay k hn hne (hs.ob j o hj')
  ·exact h
def yM(κ:Nat→Option Value)(id:Nat)(v:Option Value):Nat→Option Value:=fun i=>if i=id then v else κ i
theorem iN(κ:Nat→Option Value)(id:Nat)(v:Option Value):yM κ id v id=v:=by simp[yM]
theorem xH{κ:Nat→Option Value}{id:Nat}(h:κ id=none)(v:Option Value):∀(j:Nat) u,κ j=some u→yM κ id v j=some u:=by
 intro j u hj
 unfold yM
 rw[if_neg (fun e=>by subst e;rw[h]at hj;cases hj)]
 exact hj
def Ob.uqB:Ob→Bool
 | .row .uq _ _ _=>true
 | .row (.mv _) _ _ _=>true
 | .tk _=>true
 |_=>false
def Ob.mvB:Ob→Bool
 | .row (.mv _) _ _ _=>true
 | .tk _=>true
 |_=>false
theorem SJ.yN{ρ:Nat→Nat}{id:Nat}{o:Ob}(h:o.mvB=false):SJ w κ ρ id o:=by
 cases o with
 |tk rows=>simp[Ob.mvB]at h
 |row kd e sz rows=>
  cases kd with
  |mv n=>simp[Ob.mvB]at h
  |_=>trivial
 |_=>trivial
theorem SJ.plain{ρ:Nat→Nat}{id:Nat}{o:Ob}(h:o.uqB=false):SJ w κ ρ id o:=by
 cases o with
 |tk rows=>simp[Ob.uqB]at h
 |row kd e sz rows=>
  cases kd with
  |mv n=>simp[Ob.uqB]at h
  |_=>trivial
 |_=>trivial
theorem bN.push(hs:bN Γ st κ Θ a w){v:Value}{o:Ob}(h1:v.oneCell'=true)(k:fD w w' Θ Θ' (st.H.length+2))(hm:∀b,2≤Θ' b→BM Γ b)
 (ho:w9 w' (yM κ st.H.length (some v)) Θ' st.H.length o) (hq:o.uqB=false):bN Γ ⟨st.σ,st.H++[o]⟩ (yM κ st.H.length (some v)) Θ' a w':=by
 have hn:=xH (hs.oG _ (Nat.le_refl _)) (some v)
 have key:∀(j:Nat) x,(st.H++[o])[j]?=some x→(j=st.H.length∧x=o)∨(j+2≠st.H.length+2∧st.H[j]?=some x):=by
  intro j x hj
  by_cases hlt:j<st.H.length
  ·rw[List.getElem?_append_left hlt]at hj
   exact .inr ⟨by omega,hj⟩
  ·have hj':=(List.getElem?_eq_some_iff.1 hj).1
   simp only[List.length_append,List.length_cons,List.length_nil]at hj'
   have e:j=st.H.length:=by omega
   subst e
   rw[List.getElem?_append_right (Nat.le_refl _)]at hj
   simp at hj
   exact .inl ⟨rfl,hj.symm⟩
 obtain⟨ρ,hu⟩:=hs.tC
 have uB:=hs.nO k hn hu
 refine hs.step k hm hn ?_ ?_ ?_ ⟨ρ,uB.1,?_,?_⟩
 ·intro i hi
  simp only[List.length_append,List.length_cons,List.length_nil]at hi
  unfold yM
  rw[if_neg (by omega)]
  exact hs.oG i (by omega)
 ·intro i u hu
  unfold yM at hu
  split at hu
  ·cases hu;exact h1
  ·exact hs.o4 i u hu
 ·intro j x hj
  rcases key j x hj with⟨rfl,rfl⟩|h
  ·exact .inr (.inr ho)
  ·exact .inr (.inl h)
 ·intro id e sz rows hj
  rcases key id _ hj with⟨rfl,rfl⟩|h
  ·simp[Ob.uqB]at hq
  ·exact uB.2.1 id e sz rows h.1 h.2
 ·intro id x hj
  rcases key id _ hj with⟨rfl,rfl⟩|h
  ·exact SJ.plain hq
  ·exact uB.2.2 id x h.1 h.2
theorem bN.change(hs:bN Γ st κ Θ a w){id:Nat}{o:Ob}(k:fD w w' Θ Θ' (id+2))(hm:∀b,2≤Θ' b→BM Γ b)(ho:w9 w' κ Θ' id o)(hq:o.uqB=false):
 bN Γ ⟨st.σ,st.H.set id o⟩ κ Θ' a w':=by
 have key:∀(j:Nat) x,(st.H.set id o)[j]?=some x→(j=id∧x=o)∨(j+2≠id+2∧st.H[j]?=some x):=by
  intro j x hj
  by_cases e:id=j
  ·subst e
   have hlt:id<st.H.length:=by
    have:=(List.getElem?_eq_some_iff.1 hj).1
    simpa using this
   rw[List.getElem?_set_self hlt]at hj
   cases hj
   exact .inl ⟨rfl,rfl⟩
  ·rw[List.getElem?_set_ne e]at hj
   exact .inr ⟨by omega,hj⟩
 obtain⟨ρ,hu⟩:=hs.tC
 have uB:=hs.nO k (fun _ _ h=>h) hu
 refine hs.step k hm (fun _ _ h=>h) (fun i hi=>hs.oG i (by simpa using hi)) hs.o4 ?_ ⟨ρ,uB.1,?_,?_⟩
 ·intro j x hj
  rcases key j x hj with⟨rfl,rfl⟩|h
  ·exact .inr (.inr ho)
  ·exact .inr (.inl h)
 ·intro i e sz rows hj
  rcases key i _ hj with⟨rfl,rfl⟩|h
  ·simp[Ob.uqB]at hq
  ·exact uB.2.1 i e sz rows h.1 h.2
 ·intro i x hj
  rcases key i _ hj with⟨rfl,rfl⟩|h
  ·exact SJ.plain hq
  ·exact uB.2.2 i x h.1 h.2
theorem bN.A7(hs:bN Γ st κ Θ a w)(h:∀b,2≤Θ' b→2≤Θ b∨w.heap.size≤b):∀b,2≤Θ' b→BM Γ b:=by
 intro b hb
 rcases h b hb with h|h
 ·exact hs.mine b h
 ·exact .inl (Nat.le_trans hs.base h)
theorem fD.refl(h:∀b,Θ b≠0→b<w.heap.size)(h2:2≤tag):fD w w Θ Θ tag:=⟨h2,rfl,rfl,rfl,Nat.le_refl _,fun _ _ _=>rfl,fun _ _ _=>rfl,h⟩
theorem fD.a8c(h:∀b,Θ b≠0→b<w.heap.size)(hb:Below w.heap.size w w')(h2:2≤tag):fD w w' Θ Θ tag:=
 ⟨h2,hb.os,hb.tape,hb.output,hb.size,fun b hlt _=>hb.block b hlt,fun _ _ _=>rfl,fun b hn=>Nat.lt_of_lt_of_le (h b hn) hb.size⟩
theorem bN.grow(hs:bN Γ st κ Θ a w)(hb:Below w.heap.size w w'):bN Γ st κ Θ a w':=by
 have k:fD w w' Θ Θ (st.H.length+2):=fD.a8c hs.own hb (by omega)
 obtain⟨ρ,hu⟩:=hs.tC
 have uB:=hs.nO k (fun _ _ h=>h) hu
 have hlt:∀(j:Nat) o,st.H[j]?=some o→j+2≠st.H.length+2:=fun j o h=>by
  have:=(List.getElem?_eq_some_iff.1 h).1;omega
 exact hs.step k hs.mine (fun _ _ h=>h) hs.oG hs.o4 (fun j o h=>.inr (.inl ⟨hlt j o h,h⟩)) ⟨ρ,uB.1,fun id e sz rows h=>uB.2.1 id e sz rows (hlt _ _ h) h,fun id o h=>uB.2.2 id o (hlt _ _ h) h⟩
theorem bN.drew(hs:bN Γ st κ Θ a w):bN Γ st κ Θ a w.drew:=hs.grow ((Below.refl _ _).drew)
def kill(H:List Ob):List Nat→List Ob
 | []=>H
 |m::ms=>kill (H.set m .gone) ms
theorem dO(H:List Ob)(ms:List Nat):(kill H ms).length=H.length:=by
 induction ms generalizing H with
 |nil=>rfl
 |cons m ms ih=>simp[kill,ih]
theorem rE{H:List Ob}{ms:List Nat}{j:Nat}{o:Ob}(h:(kill H ms)[j]?=some o):o=.gone∨(j∉ms∧H[j]?=some o):=by
 induction ms generalizing H with
 |nil=>exact .inr ⟨by simp,h⟩
 |cons m ms ih=>
  rcases ih h with h|⟨h1,h2⟩
  ·exact .inl h
  ·by_cases e:m=j
   ·subst e
    have hlt:=(List.getElem?_eq_some_iff.1 h2).1
    rw[List.getElem?_set_self (by simpa using hlt)]at h2
    cases h2;exact .inl rfl
   ·rw[List.getElem?_set_ne e]at h2
    exact .inr ⟨by simp[h1,Ne.symm e],h2⟩
def A8(κ:Nat→Option Value)(Θ ρ:Nat→Nat)(w:World)(m:Nat)(k:RK)(rows:List (List D)):Prop:=
 ∃v bs,κ m=some v∧Rd w v (.sl rows) bs∧(∀b∈bs,Θ b=0)∧(k=.uq→bs.Nodup∧∀b∈bs,ρ b=m+1)
theorem vF{e sz:Nat}{v:Value}{rows:List (List D)}{cs:List Value}{bs:List Nat}(hrl:∀r∈rows,r.length=sz)(hown:w.ownsRow 0 e sz v rows.length cs)(sN:jN w cs rows.flatten bs):
 Rd w v (.sl rows) (v.ownBlock.toList++bs):=by
 rcases hown.2 with⟨rfl,hn⟩|⟨g,cap,cur,rfl,_,hg,hnc,hcm,_,ht⟩
 ·have:rows=[]:=List.eq_nil_of_length_eq_zero hn
  subst this
  cases sN
  exact .z6
 ·have hlt:g<w.heap.size:=(Array.getElem?_eq_some_iff.1 hg).1
  refine .sl g 0 cap sz rows cs bs hlt hnc hcm hrl (fun j c hc=>?_) sN
  have:=hown.cells (g:=g) (by simp[Value.ownBlock]) j c hc
  simpa[Addr.add_lit]using this
theorem bN.aB9(hs:bN Γ st κ Θ a w){ρ:Nat→Nat}(hu:BA Γ st.H κ Θ w ρ){m e sz:Nat}{k:RK}{rows:List (List D)}(hH:st.H[m]?=some (.row k e sz rows))(hk:k.X8=true):
 ∃Θ' ρ',bN Γ ⟨st.σ,st.H.set m .gone⟩ κ Θ' a w∧BA Γ (st.H.set m .gone) κ Θ' w ρ'∧A8 κ Θ' ρ' w m k rows∧
  (∀b,Θ b=0→Θ' b=0)∧(∀b,ρ b≠0→ρ' b=ρ b):=by
 obtain⟨hsz,hrl,v,cs,bs,hkm,hown,sN,hΘ,hz⟩:=hs.ob m _ hH
 have yL:∀b∈bs,Θ b=0:=by cases k<;>first|exact hz|simp[RK.X8]at hk
 let Θ':Nat→Nat:=fun b=>if Θ b=m+2 then 0 else Θ b
 let ρ':Nat→Nat:=fun b=>if some b=v.ownBlock then m+1 else ρ b
 have hk':fD w w Θ Θ' (m+2):=⟨by omega,rfl,rfl,rfl,Nat.le_refl _,fun _ _ _=>rfl,fun b _ hne=>if_neg hne,fun b hb=>hs.own b (fun h0=>hb (by simp only[Θ'];split<;>simp_all))⟩
 have hT0:∀b,Θ b=0→Θ' b=0:=fun b h=>by simp only[Θ'];split<;>omega
 have RT:∀b,2≤Θ' b→BM Γ b:=fun b hb=>hs.mine b (by simp only[Θ']at hb;split at hb<;>omega)
 have FN:∀g,v.ownBlock=some g→ρ g=0:=by
  intro g hg
  cases h:ρ g with
  |zero=>rfl
  |succ n=>have:=(hu.free g (by omega)).1;rw[hΘ g hg]at this;omega
 have hρ:∀b,ρ b≠0→ρ' b=ρ b:=fun b hb=>if_neg (fun h=>hb (FN b h.symm))
 have key:∀(j:Nat) x,(st.H.set m .gone)[j]?=some x→x=.gone∨(j+2≠m+2∧st.H[j]?=some x):=by
  intro j x hj
  rcases rE (ms:=[m]) hj with h|⟨h1,h2⟩
  ·exact .inl h
  ·exact .inr ⟨by simp at h1;omega,h2⟩
 have uB:=hs.nO hk' (fun _ _ h=>h) hu
 have hU:BA Γ (st.H.set m .gone) κ Θ' w ρ':=by
  refine⟨fun b hb=>?_,fun id e sz rows h=>?_,fun id x h=>?_⟩
  ·by_cases hb':some b=v.ownBlock
   ·have e1:=hΘ b hb'.symm
    refine⟨by simp only[Θ'];rw[if_pos e1],.inl (hs.mine b (by omega)),?_⟩
    rcases hown.2 with⟨rfl,_⟩|⟨g,cap,cur,rfl,_,hg,_⟩
    ·simp[Value.ownBlock]at hb'
    ·simp[Value.ownBlock]at hb'
     subst hb'
     exact⟨_,_,hg⟩
   ·exact uB.1 b (by simp only[ρ']at hb;rwa[if_neg hb']at hb)
  ·rcases key id _ h with h|⟨h1,h2⟩
   ·cases h
   ·obtain⟨v2,c2,b2,q1,q2,q3,q4,q5⟩:=uB.2.1 id e sz rows h1 h2
    exact⟨v2,c2,b2,q1,q2,q3,q4,fun b hb=>by rw[hρ b (by rw[q5 b hb];omega)];exact q5 b hb⟩
  ·rcases key id _ h with h|⟨h1,h2⟩
   ·subst h;trivial
   ·exact(uB.2.2 id x h1 h2).re fun b hb=>(hρ b (by omega)).trans hb
 refine⟨Θ',ρ',?_,hU,?_,hT0,hρ⟩
 ·exact hs.step hk' RT (fun _ _ h=>h) (fun i hi=>hs.oG i (by simpa using hi)) hs.o4 (fun j x hj=>by
   rcases key j x hj with h|h
   ·exact .inl h
   ·exact .inr (.inl h)) ⟨ρ',hU⟩
 ·have plain:k≠ .uq→A8 κ Θ' ρ' w m k rows:=fun hne=>by
   refine⟨v,_,hkm,vF hrl hown sN,fun b hb=>?_,fun h=>absurd h hne⟩
   rcases List.mem_append.1 hb with hb|hb
   ·simp only[Option.mem_toList]at hb
    simp only[Θ'];rw[if_pos (hΘ b hb)]
   ·exact hT0 b (yL b hb)
  cases k with
  |cl=>simp[RK.X8]at hk
  |sh=>exact plain (by simp)
  |mv n=>exact plain (by simp)
  |uq=>
   obtain⟨v2,c2,b2,q1,q2,q3,q4,q5⟩:=hu.rows m e sz rows hH
   rw[hkm]at q1;cases q1
   have hfr:∀b∈b2,ρ b≠0:=fun b hb=>by rw[q5 b hb];omega
   refine⟨v,_,hkm,vF hrl q2 q3,fun b hb=>?_,fun _=>⟨?_,fun b hb=>?_⟩⟩
   ·rcases List.mem_append.1 hb with hb|hb
    ·simp only[Option.mem_toList]at hb
     simp only[Θ'];rw[if_pos (hΘ b hb)]
    ·exact hT0 b (hu.free b (hfr b hb)).1
   ·rw[List.nodup_append]
    refine⟨by cases v.ownBlock<;>simp,q4,fun x hx y hy e=>?_⟩
    simp only[Option.mem_toList]at hx
    subst e
    exact hfr x hy (FN x hx)
   ·rcases List.mem_append.1 hb with hb|hb
    ·simp only[Option.mem_toList]at hb
     simp only[ρ'];rw[if_pos hb.symm]
    ·rw[hρ b (hfr b hb)];exact q5 b hb
theorem bN.aD2(hs:bN Γ st κ Θ a w){ρ:Nat→Nat}(hu:BA Γ st.H κ Θ w ρ){m:Nat}{rows:List (List D)}(hH:st.H[m]?=some (.tk rows)):
 bN Γ ⟨st.σ,st.H.set m .gone⟩ κ Θ a w∧BA Γ (st.H.set m .gone) κ Θ w ρ∧A8 κ Θ ρ w m .uq rows:=by
 have key:∀(j:Nat) x,(st.H.set m .gone)[j]?=some x→x=.gone∨(j≠m∧st.H[j]?=some x):=by
  intro j x hj
  rcases rE (ms:=[m]) hj with h|⟨h1,h2⟩
  ·exact .inl h
  ·exact .inr ⟨by simpa using h1,h2⟩
 have hU:BA Γ (st.H.set m .gone) κ Θ w ρ:=by
  refine⟨hu.free,fun id e sz rows h=>?_,fun id x h=>?_⟩
  ·rcases key id _ h with h|⟨_,h2⟩
   ·cases h
   ·exact hu.rows id e sz rows h2
  ·rcases key id _ h with h|⟨_,h2⟩
   ·subst h;trivial
   ·exact hu.more id x h2
 obtain⟨v,bs,q1,q2,q3,q4⟩:=hu.more m _ hH
 refine⟨⟨hs.defers,hs.size,fun i hi=>hs.oG i (by simpa using hi),hs.o4,hs.slot,fun id o h=>?_,hs.own,hs.old,hs.mine,hs.stays,ρ,hU⟩,hU,v,bs,q1,q2,fun b hb=>(hu.free b (by rw[q4 b hb];omega)).1,fun _=>⟨q3,q4⟩⟩
 rcases key id _ h with h|⟨_,h2⟩
 ·subst h;trivial
 ·exact hs.ob id o h2
def Ob.QS:Ob→Option (RK×List (List D))
 | .row k _ _ rows=>(match k with| .cl=>none|_=>some (k,rows))
 | .tk rows=>some (.uq,rows)
 |_=>none
theorem Ob.a5R{o:Ob}{k:RK}{rows:List (List D)}(h:o.QS=some (k,rows)):(∃e sz,o=.row k e sz rows∧k.X8=true)∨(o=.tk rows∧k=.uq):=by
 cases o with
 |row k' e sz r=>
  cases k' with
  |cl=>simp[Ob.QS]at h
  |_=>simp only[Ob.QS,Option.some.injEq,Prod.mk.injEq]at h;obtain⟨rfl,rfl⟩:=h;exact .inl ⟨e,sz,rfl,rfl⟩
 |tk r=>simp only[Ob.QS,Option.some.injEq,Prod.mk.injEq]at h;obtain⟨rfl,rfl⟩:=h;exact .inr ⟨rfl,rfl⟩
 |_=>simp[Ob.QS]at h
theorem bN.aD3(hs:bN Γ st κ Θ a w){ρ:Nat→Nat}(hu:BA Γ st.H κ Θ w ρ){m:Nat}{o:Ob}{k:RK}{rows:List (List D)}(hH:st.H[m]?=some o)(ho:o.QS=some (k,rows)):
 ∃Θ' ρ',bN Γ ⟨st.σ,st.H.set m .gone⟩ κ Θ' a w∧BA Γ (st.H.set m .gone) κ Θ' w ρ'∧A8 κ Θ' ρ' w m k rows∧
  (∀b,Θ b=0→Θ' b=0)∧(∀b,ρ b≠0→ρ' b=ρ b):=by
 rcases Ob.a5R ho with⟨e,sz,rfl,hk⟩|⟨rfl,rfl⟩
 ·exact hs.aB9 hu hH hk
 ·obtain⟨h1,h2,h3⟩:=hs.aD2 hu hH
  exact⟨Θ,ρ,h1,h2,h3,fun _ h=>h,fun _ _=>rfl⟩
theorem bN.ZJ:∀(ms:List Nat) {st:St} {Θ ρ:Nat→Nat},bN Γ st κ Θ a w→BA Γ st.H κ Θ w ρ→ms.Nodup→
 (∀m∈ms,∃o k rows,st.H[m]?=some o∧o.QS=some (k,rows))→
 ∃Θ' ρ',bN Γ ⟨st.σ,kill st.H ms⟩ κ Θ' a w∧BA Γ (kill st.H ms) κ Θ' w ρ'∧(∀m∈ms,∀o k rows,st.H[m]?=some o→o.QS=some (k,rows)→A8 κ Θ' ρ' w m k rows)∧
  (∀b,Θ b=0→Θ' b=0)∧(∀b,ρ b≠0→ρ' b=ρ b):=by
 intro ms
 induction ms with
 |nil=>intro st Θ ρ hs hu _ _;exact⟨Θ,ρ,hs,hu,by simp,fun _ h=>h,fun _ _=>rfl⟩
 |cons m ms ih=>
  intro st Θ ρ hs hu hnd hall
  obtain⟨hnm,IN⟩:=List.nodup_cons.1 hnd
  obtain⟨o,k,rows,hH,hk⟩:=hall m (by simp)
  obtain⟨Θ1,ρ1,hs1,hu1,hm1,ZK,hr1⟩:=hs.aD3 hu hH hk
  have XD:∀m'∈ms,(st.H.set m .gone)[m']?=st.H[m']?:=fun m' hm'=>List.getElem?_set_ne (fun e:m=m'=>hnm (by rw[e];exact hm'))
  obtain⟨Θ2,ρ2,hs2,hu2,hm2,hz2,hr2⟩:=ih (st:=⟨st.σ,st.H.set m .gone⟩) hs1 hu1 IN (fun m' hm'=>by
   obtain⟨o',k',bG,h1,h2⟩:=hall m' (by simp[hm'])
   exact⟨o',k',bG,(XD m' hm').trans h1,h2⟩)
  refine⟨Θ2,ρ2,hs2,hu2,?_,fun b h=>hz2 b (ZK b h),fun b h=>(hr2 b (by rw[hr1 b h];exact h)).trans (hr1 b h)⟩
  intro m' hm' o' k' bG LF ho'
  rcases List.mem_cons.1 hm' with rfl|a5T
  ·rw[hH]at LF;cases LF
   rw[hk]at ho';cases ho'
   obtain⟨v,bs,q1,q2,q3,q4⟩:=hm1
   refine⟨v,bs,q1,q2,fun b hb=>hz2 b (q3 b hb),fun hq=>?_⟩
   obtain⟨q5,q6⟩:=q4 hq
   exact⟨q5,fun b hb=>by rw[hr2 b (by rw[q6 b hb];omega)];exact q6 b hb⟩
  ·exact hm2 m' a5T o' k' bG ((XD m' a5T).trans LF) ho'
theorem bN.T6:∀(ms:List Nat) {st:St} {Θ ρ:Nat→Nat},bN Γ st κ Θ a w→BA Γ st.H κ Θ w ρ→ms.Nodup→
 (∀m∈ms,∃k e sz rows,st.H[m]?=some (.row k e sz rows)∧k.X8=true)→
 ∃Θ' ρ',bN Γ ⟨st.σ,kill st.H ms⟩ κ Θ' a w∧BA Γ (kill st.H ms) κ Θ' w ρ'∧(∀m∈ms,∀k e sz rows,st.H[m]?=some (.row k e sz rows)→A8 κ Θ' ρ' w m k rows)∧
  (∀b,Θ b=0→Θ' b=0)∧(∀b,ρ b≠0→ρ' b=ρ b):=by
 intro ms
 induction ms with
 |nil=>intro st Θ ρ hs hu _ _;exact⟨Θ,ρ,hs,hu,by simp,fun _ h=>h,fun _ _=>rfl⟩
 |cons m ms ih=>
  intro st Θ ρ hs hu hnd hall
  obtain⟨hnm,IN⟩:=List.nodup_cons.1 hnd
  obtain⟨k,e,sz,rows,hH,hk⟩:=hall m (by simp)
  obtain⟨Θ1,ρ1,hs1,hu1,hm1,ZK,hr1⟩:=hs.aB9 hu hH hk
  have XD:∀m'∈ms,(st.H.set m .gone)[m']?=st.H[m']?:=fun m' hm'=>List.getElem?_set_ne (fun e:m=m'=>hnm (by rw[e];exact hm'))
  obtain⟨Θ2,ρ2,hs2,hu2,hm2,hz2,hr2⟩:=ih (st:=⟨st.σ,st.H.set m .gone⟩) hs1 hu1 IN (fun m' hm'=>by
   obtain⟨k',e',sz',bG,h1,h2⟩:=hall m' (by simp[hm'])
   exact⟨k',e',sz',bG,(XD m' hm').trans h1,h2⟩)
  refine⟨Θ2,ρ2,hs2,hu2,?_,fun b h=>hz2 b (ZK b h),fun b h=>(hr2 b (by rw[hr1 b h];exact h)).trans (hr1 b h)⟩
  intro m' hm' k' e' sz' bG LF
  rcases List.mem_cons.1 hm' with rfl|a5T
  ·rw[hH]at LF;cases LF
   obtain⟨v,bs,q1,q2,q3,q4⟩:=hm1
   refine⟨v,bs,q1,q2,fun b hb=>hz2 b (q3 b hb),fun hq=>?_⟩
   obtain⟨q5,q6⟩:=q4 hq
   exact⟨q5,fun b hb=>by rw[hr2 b (by rw[q6 b hb];omega)];exact q6 b hb⟩
  ·exact hm2 m' a5T k' e' sz' bG ((XD m' a5T).trans LF)
end
end Go.Cx
namespace Go.Cx
set_option linter.unusedVariables false
set_option linter.unusedSimpArgs false
open Go.RowKit
section
variable{P:Program}{Γ:uK}{Q:Exit→St→Prop}{st:St}{κ:Nat→Option Value}{Θ:Nat→Nat}{a:Act}{w:World}{all:Array Oper}{rest:List Oper}
theorem a8d{c:Operand}{x y:Code}{b:Bool}(hc:st.ev c=.bool b)(ht:b=true→AW P Γ x Q st)(hf:b=false→AW P Γ y Q st):AW P Γ (.cond c x y) Q st:=by
 intro κ Θ a w hs
 obtain⟨bs,r,_⟩:=hs.ev c
 rw[hc]at r
 exact wp_cond_split r.wA (fun h=>ht h κ Θ a w hs) (fun h=>hf h κ Θ a w hs)
theorem TL{o:Oper}{j s:Nat}{want b:Bool}(hg:o.guard=some (j,want))(hj:(all[j]?).bind (·.dst)=some s)(hb:lk st.σ s=.bool b)
 (hd:∀t,o.dst=some t→t<Γ.nt)
 (aFW:b=want→AO P Γ all ({o with guard:=none}::rest) Q st) (hno:b≠want→AO P Γ all rest Q (st.put o.dst (.iJ []))):AO P Γ all (o::rest) Q st:=by
 intro κ Θ a w hs
 obtain⟨bs,r,_⟩:=hs.slot s
 rw[hb]at r
 have hv:=r.wA
 have hlt:s<a.tmps.size:=by
  rcases Nat.lt_or_ge s a.tmps.size with h|h
  ·exact h
  ·exfalso
   rw[Array.getD_eq_getD_getElem?,Array.getElem?_eq_none h]at hv
   simp[undef]at hv
 have hy:yielded all a.tmps j=some b:=by
  have h1:a.tmps[s]?=some (.bool b):=by
   rw[Array.getD_eq_getD_getElem?,Array.getElem?_eq_getElem hlt]at hv
   rw[Array.getElem?_eq_getElem hlt]
   simpa using hv
  simp[yielded,hj,h1]
 by_cases e:b=want
 ·have:=aFW e κ Θ a w hs
  unfold wpList at this⊢
  have hw:Region.wanted o (yielded all a.tmps)=true:=by simp[Region.wanted,hg,hy,e]
  have hw':Region.wanted {o with guard:=none} (yielded all a.tmps)=true:=rfl
  rw[if_pos hw]
  rw[if_pos hw']at this
  exact this
 ·have hw:Region.wanted o (yielded all a.tmps)=false:=by simp[Region.wanted,hg,hy,e]
  unfold wpList
  rw[hw,if_neg (by simp)]
  refine hno e κ Θ _ w ?_
  cases XI:o.dst with
  |none=>exact hs
  |some t=>exact hs.set (hd t XI) (.iJ [] [] [] .nil) (by simp)
theorem qW.W7{w:World}{κ:Nat→Option Value}{v:Value}{bs:List Nat}(h:qW w κ v (.iJ []) bs):v=.tuple #[]:=by
 cases h with
 |v h=>cases h with|cell h=>cases h with|pure h=>cases h
 |iJ vs ds bs h=>cases h;rfl
theorem W8{o:Oper}{j s:Nat}{want:Bool}(hg:o.guard=some (j,want))(hj:(all[j]?).bind (·.dst)=some s)(hb:lk st.σ s=.iJ [])
 (hd:∀t,o.dst=some t→t<Γ.nt) (hno:AO P Γ all rest Q (st.put o.dst (.iJ []))):AO P Γ all (o::rest) Q st:=by
 intro κ Θ a w hs
 obtain⟨bs,r,_⟩:=hs.slot s
 rw[hb]at r
 have hv:=r.W7
 have hy:yielded all a.tmps j=none:=by
  rcases Nat.lt_or_ge s a.tmps.size with hlt|hlt
  ·have h1:a.tmps[s]?=some (.tuple #[]):=by
    rw[Array.getD_eq_getD_getElem?,Array.getElem?_eq_getElem hlt]at hv
    rw[Array.getElem?_eq_getElem hlt]
    simpa using hv
   simp[yielded,hj,h1]
  ·simp[yielded,hj,Array.getElem?_eq_none hlt]
 have hw:Region.wanted o (yielded all a.tmps)=false:=by simp[Region.wanted,hg,hy]
 unfold wpList
 rw[hw,if_neg (by simp)]
 refine hno κ Θ _ w ?_
 cases XI:o.dst with
 |none=>exact hs
 |some t=>exact hs.set (hd t XI) (.iJ [] [] [] .nil) (by simp)
theorem fD.alloc(hs:bN Γ st κ Θ a w)(o:Obj){tag:Nat}(h2:2≤tag):fD w (w.alloc o) Θ (fun b=>if b=w.heap.size then tag else Θ b) tag:=by
 refine⟨h2,rfl,rfl,rfl,by simp,fun b hb _=>Below.heap_alloc w o b hb,fun b hb _=>?_,fun b hb=>?_⟩
 ·rw[if_neg (by omega)]
 ·by_cases e:b=w.heap.size
  ·subst e;simp
  ·rw[if_neg e]at hb
   have:=hs.own b hb
   simp;omega
theorem bN.a5U(hs:bN Γ st κ Θ a w){cs:Array Value}{ds:List D}{bs:List Nat}(T:TypeId)(hr:c8 w κ cs.toList ds bs)(hz:∀b∈bs,Θ b=0):
 bN Γ ⟨st.σ,st.H++[.box ds]⟩ (yM κ st.H.length (some (.pointer (some ⟨w.heap.size,0,none⟩)))) (fun b=>if b=w.heap.size then st.H.length+2 else Θ b) a (w.alloc (.cells cs T)):=by
 have k:=fD.alloc hs (.cells cs T) (tag:=st.H.length+2) (by omega)
 refine hs.push rfl k (hs.A7 (fun b hb=>by by_cases e:b=w.heap.size<;>simp_all)) ?_ rfl
 have hn:=xH (hs.oG _ (Nat.le_refl _)) (some (Value.pointer (some ⟨w.heap.size,0,none⟩)))
 obtain⟨h1,h2⟩:=c8.stay k hn hr hz
 exact⟨w.heap.size,cs,T,by simp[yM],heap_alloc_new w _,by simp,bs,h1,h2⟩
theorem aBB{o:Oper}{T t:Nat}{x:Operand}{ds:List D}(hop:o.op=.box T x)(hd:o.dst=some t)(hg:o.guard=none)(ht:t<Γ.nt)
 (hc:(st.ev x).cellsOf=some ds) (h:AO P Γ all rest Q ⟨(t,.ptr st.H.length 0)::st.σ,st.H++[.box ds]⟩):AO P Γ all (o::rest) Q st:=by
 intro κ Θ a w hs
 obtain⟨bs,r,hz⟩:=hs.ev x
 have hcs:=CB hs.o4 r hc
 have hs':=hs.a5U T hcs hz
 refine wpList_plain hg fun K hK=>?_
 unfold Oper.wp
 have hrun:(execOp a.eval o).run P w=.ok (.value (.pointer (some ⟨w.heap.size,0,none⟩))) (w.alloc (.cells (a.eval x).cells T)):=by
  simp[execOp,hop,Instr.box,newVar,newRow]
 rw[hrun,Oper.upon_value,hd]
 refine hK _ _ (h _ _ _ _ (hs'.set (t:=t) (d:=.ptr st.H.length 0) (bs:=[]) ht ?_ (by simp)))
 exact(yK.ptr st.H.length 0 w.heap.size (by simp[yM])).XC
theorem a5V{o:Oper}{T t:Nat}{zs:List D}(hop:o.op=.alloc T)(hd:o.dst=some t)(hg:o.guard=none)(ht:t<Γ.nt)
 (hz:tz P T=some zs) (h:AO P Γ all rest Q ⟨(t,.ptr st.H.length 0)::st.σ,st.H++[.box zs]⟩):AO P Γ all (o::rest) Q st:=by
 intro κ Θ a w hs
 obtain⟨i,z,hi,yL,hsz,hlen,hone,rfl⟩:=xA hz
 have hs':=hs.a5U T (cs:=z.cells) (CC z.cells.toList hone) (by simp)
 refine wpList_plain hg fun K hK=>?_
 unfold Oper.wp
 have hrun:(execOp a.eval o).run P w=.ok (.value (.pointer (some ⟨w.heap.size,0,none⟩))) (w.alloc (.cells z.cells T)):=by
  simp[execOp,hop,Instr.alloc,zeroValue,typeInfo,hi,yL,newVar,newRow]
 rw[hrun,Oper.upon_value,hd]
 refine hK _ _ (h _ _ _ _ (hs'.set (t:=t) (d:=.ptr st.H.length 0) (bs:=[]) ht ?_ (by simp)))
 exact(yK.ptr st.H.length 0 w.heap.size (by simp[yM])).XC
theorem fD.setRow(hs:bN Γ st κ Θ a w){g:Nat}{cs:Array Value}{tag:Nat}(h2:2≤tag)(hg:Θ g=tag):fD w (w.setRow g cs) Θ Θ tag:=by
 refine⟨h2,rfl,rfl,rfl,by simp,fun b _ hne=>setRow_other w g b cs (fun e=>hne (e▸hg)),fun b _ _=>rfl,fun b hb=>?_⟩
 simpa using hs.own b hb
theorem FO{T g off:Nat}{v:Value}{cur:Array Value}{e:TypeId}(hg:w.heap[g]?=some (.cells cur e (0,0)))(hsz:v.cells.size=A6 P T)(QO:∃i,P.info? T=some i)
 (hfit:off+v.cells.size≤cur.size) (hone:∀c∈v.cells.toList,c.oneCell'=true):
 (Instr.storeAt T (.pointer (some ⟨g,off,none⟩)) v).run P w=.ok () (w.setRow g (cur.toList.take off++v.cells.toList++cur.toList.drop (off+v.cells.toList.length)).toArray):=by
 have:=run_storeCells_at P g off e v.cells.toList 0 cur w hg (by simpa using hfit) hone
 simp only[Nat.add_zero]at this
 simp[Instr.storeAt,Instr.sureAddr,storeVar,uM QO,hsz,this]
def XJ(P:Program)(t:TypeId):Bool:=(P.info? t).isSome
theorem W9{o:Oper}{T id off:Nat}{x y:Operand}{cells ds:List D}(hop:o.op=.store T x y)
 (hx:st.ev x=.ptr id off) {ob:Ob} (hH:st.H[id]?=some ob) (B9:ob.cs?=some cells) (hc:(st.ev y).cellsOf=some ds) (hT:XJ P T=true) (hl:ds.length=A6 P T) (hfit:off+ds.length≤cells.length) (hs:bN Γ st κ Θ a w):
 ∃w',(execOp a.eval o).run P w=.ok .skip w'∧bN Γ ⟨st.σ,st.H.set id (ob.re (cells.take off++ds++cells.drop (off+ds.length)))⟩ κ Θ a w':=by
 obtain⟨b1,r1,_⟩:=hs.ev x
 obtain⟨b2,r2,hz2⟩:=hs.ev y
 rw[hx]at r1
 obtain⟨g,hk,hv⟩:=r1.zO
 obtain⟨g',cs,Tb,hk',hgc,hΘ,bs,sN,hz⟩:=(hs.ob id _ hH).cs B9
 rw[hk]at hk'
 cases hk'
 have hcs:=CB hs.o4 r2 hc
 have hl1:=hcs.length
 have D8:=sN.length
 have hsz:(a.eval y).cells.size=A6 P T:=by rw[←hl,←hl1];simp
 have hst:=FO (P:=P) (T:=T) (off:=off) hgc hsz (Option.isSome_iff_exists.1 hT) (by
  have:(a.eval y).cells.size=ds.length:=by rw[←hl1];simp
  have h3:cs.size=cells.length:=by rw[←D8];simp
  omega) hcs.one
 have k:=fD.setRow hs (g:=g) (cs:=(cs.toList.take off++(a.eval y).cells.toList++cs.toList.drop (off+(a.eval y).cells.toList.length)).toArray) (tag:=id+2) (by omega) hΘ
 have hrun:(execOp a.eval o).run P w=.ok .skip (w.setRow g (cs.toList.take off++(a.eval y).cells.toList++cs.toList.drop (off+(a.eval y).cells.toList.length)).toArray):=by
  simp only[execOp,hop,hv]
  simp[hst]
 refine⟨_,hrun,hs.change k hs.mine (w9.aCx B9 (hs.ob id _ hH) (fun _ h=>h) ?_) (by cases ob<;>rfl)⟩
 have e:cells=cells.take off++((cells.drop off).take ds.length++(cells.drop off).drop ds.length):=by rw[List.take_append_drop,List.take_append_drop]
 rw[e]at sN
 obtain⟨v1,v2,c1,c2,TI,rfl,k1,k2⟩:=sN.split
 obtain⟨v3,v4,c3,c4,rfl,rfl,k3,k4⟩:=k2.split
 have l1:v1.length=off:=by rw[k1.length];simp;omega
 have l3:v3.length=ds.length:=by rw[k3.length];simp;omega
 have e1:cs.toList.take off=v1:=by rw[TI];exact List.take_left' l1
 have e4:cs.toList.drop (off+(a.eval y).cells.toList.length)=v4:=by
  rw[TI,←List.drop_drop,List.drop_left' l1,hl1];exact List.drop_left' l3
 have hnew:c8 w κ (v1++(a.eval y).cells.toList++v4) (cells.take off++ds++cells.drop (off+ds.length)) ((c1++b2)++c4):=by
  rw[List.drop_drop]at k4
  exact(k1.app hcs).app k4
 have VE:∀b∈((c1++b2)++c4),Θ b=0:=by
  intro b hb
  simp only[List.mem_append]at hb
  rcases hb with(hb|hb)|hb
  ·exact hz b (by simp[hb])
  ·exact hz2 b hb
  ·exact hz b (by simp[hb])
 obtain⟨h1,h2⟩:=c8.stay k (fun _ _ h=>h) hnew VE
 refine⟨g,_,Tb,hk,setRow_heap w g cs _ Tb _ hgc,hΘ,_,?_,h2⟩
 rw[e1,e4]at h1⊢
 exact h1
theorem a5W{o:Oper}{T id off:Nat}{x y:Operand}{cells ds:List D}(hop:o.op=.store T x y)(hd:o.dst=none)(hg:o.guard=none)
 (hx:st.ev x=.ptr id off) {ob:Ob} (hH:st.H[id]?=some ob) (B9:ob.cs?=some cells) (hc:(st.ev y).cellsOf=some ds) (hT:XJ P T=true) (hl:ds.length=A6 P T) (hfit:off+ds.length≤cells.length)
 (h:AO P Γ all rest Q ⟨st.σ,st.H.set id (ob.re (cells.take off++ds++cells.drop (off+ds.length)))⟩):AO P Γ all (o::rest) Q st:=by
 intro κ Θ a w hs
 obtain⟨w',hrun,hs'⟩:=W9 hop hx hH B9 hc hT hl hfit hs
 refine wpList_plain hg fun K hK=>?_
 unfold Oper.wp
 rw[hrun,Oper.upon_skip,hd]
 exact hK _ _ (h _ _ _ _ hs')
end
def D.ZA:D→Bool
 | .acc _=>false
 | .ptr _ _=>false
 | .op _ _ _ _=>false
 |_=>true
def tby(P:Program)(t:TypeId):Nat:=P.bytesOf t
theorem WA{α:Type}{l:List α}{i:Nat}{x:α}(h:l[i]?=some x):∃p q,l=p++x::q∧p.length=i:=by
 have hlt:=(List.getElem?_eq_some_iff.1 h).1
 have hx:=(List.getElem?_eq_some_iff.1 h).2
 refine⟨l.take i,l.drop (i+1),?_,by simp;omega⟩
 rw[←hx,List.getElem_cons_drop,List.take_append_drop]
theorem FP{rows:List (List D)}{sz i off:Nat}{row ds:List D}(hrl:∀r∈rows,r.length=sz)(hr:rows[i]?=some row)(hfit:off+ds.length≤sz):
 (rows.set i (row.take off++ds++row.drop (off+ds.length))).flatten=rows.flatten.take (i*sz+off)++ds++rows.flatten.drop (i*sz+off+ds.length):=by
 obtain⟨p,q,rfl,rfl⟩:=WA hr
 have hrow:row.length=sz:=hrl row (by simp)
 have hp:p.flatten.length=p.length*sz:=mW (fun r hr=>hrl r (by simp[hr]))
 rw[List.set_append_right _ _ (Nat.le_refl _),Nat.sub_self,List.set_cons_zero]
 simp only[List.flatten_append,List.flatten_cons]
 rw[←hp,List.take_length_add_append,Nat.add_assoc,List.drop_length_add_append,List.take_append_of_le_length (by omega),List.drop_append_of_le_length (by omega)]
 simp only[List.append_assoc]
theorem TM(z:Array Value)(n:Nat):(madeCells z (n*z.size)).toList=(List.replicate n z.toList).flatten:=by
 induction n with
 |zero=>simp[madeCells]
 |succ n ih=>
  rw[List.replicate_succ',List.flatten_append,←ih]
  apply List.ext_getElem?
  intro j
  by_cases hz:z.size=0
  ·have:z= #[]:=Array.size_eq_zero_iff.1 hz
   subst this
   simp[madeCells]
  ·by_cases h1:j<n*z.size
   ·rw[List.getElem?_append_left (by simpa[madeCells]using h1)]
    have h2:j<(n+1)*z.size:=by rw[Nat.add_mul];omega
    simp[madeCells,h1,h2]
   ·rw[List.getElem?_append_right (by simpa[madeCells]using h1)]
    by_cases h2:j<(n+1)*z.size
    ·rw[Nat.add_mul,Nat.one_mul]at h2
     have hm:j%z.size=j-n*z.size:=by
      have hmc:=Nat.mul_comm z.size n
      have e:j=(j-n*z.size)+z.size*n:=by omega
      conv=>lhs;rw[e]
      rw[Nat.add_mul_mod_self_left,Nat.mod_eq_of_lt (by omega)]
     have h3:j-n*z.size<z.size:=by omega
     have h2':j<(n+1)*z.size:=by rw[Nat.add_mul,Nat.one_mul];exact h2
     simp[madeCells,h2',hm,h3]
    ·rw[List.getElem?_eq_none (by simp[madeCells];omega),List.getElem?_eq_none]
     rw[Nat.add_mul,Nat.one_mul]at h2
     simp[madeCells];omega
section
variable{P:Program}{Γ:uK}{Q:Exit→St→Prop}{st:St}{κ:Nat→Option Value}{Θ:Nat→Nat}{a:Act}{w:World}{all:Array Oper}{rest:List Oper}
theorem c8.pure{vs:List Value}{ds:List D}{bs:List Nat}(h:c8 w κ vs ds bs)(hp:ds.all D.ZA=true):jN w vs ds bs:=by
 induction ds generalizing vs bs with
 |nil=>cases h;exact .nil
 |cons d ds ih=>
  simp only[List.all_cons,Bool.and_eq_true]at hp
  cases h with
  |cons v vs _ _ b1 b2 h1 h2 h3=>
   refine .cons _ _ _ _ _ _ h1 ?_ (ih h3 hp.2)
   cases h2 with
   |pure h=>exact h
   |acc=>simp[D.ZA]at hp
   |ptr=>simp[D.ZA]at hp
   |op=>simp[D.ZA]at hp
theorem jN.rep{vs:List Value}{ds:List D}(h:jN w vs ds [])(m:Nat):jN w (List.replicate m vs).flatten (List.replicate m ds).flatten []:=by
 induction m with
 |zero=>exact .nil
 |succ m ih=>
  simp only[List.replicate_succ,List.flatten_cons]
  have:=h.app ih
  simpa using this
def D.KX(d:D):D:=match d with
 | .nil=>.sl []
 |d=>d
theorem Rd.soft{v:Value}{d:D}{bs:List Nat}(h:Rd w v d bs):Rd w v d.KX bs:=by
 cases h with
 |nil=>exact .z6
 |any=>exact .any _
 |int _ _ h=>exact .int _ _ h
 |bool=>exact .bool _
 |str _ h=>exact .str _ h
 |val=>exact .val _
 |z6=>exact .z6
 |mT a cap h=>exact .mT a cap h
 |sl b off cap sz rows cs bs h0 h1 h2 h3 h4 h5=>exact .sl b off cap sz rows cs bs h0 h1 h2 h3 h4 h5
 |agg cs ds bs h=>exact .agg cs ds bs h
 |ep b off cs row o bs h0 h4 h5=>exact .ep b off cs row o bs h0 h4 h5
 |a3i=>exact .a3i
 |a3j t u=>exact .a3j t u
theorem jN.soft{vs:List Value}{ds:List D}{bs:List Nat}(h:jN w vs ds bs):jN w vs (ds.map D.KX) bs:=by
 induction ds generalizing vs bs with
 |nil=>cases h;exact .nil
 |cons d ds ih=>cases h with|cons v vs _ _ b1 b2 h1 h2 h3=>exact .cons _ _ _ _ _ _ h1 h2.soft (ih h3)
def D.flat:D→Bool
 | .any=>true
 | .nil=>true
 | .int _ _=>true
 | .bool _=>true
 | .str _=>true
 | .val _=>true
 |_=>false
def a3t(H:List Ob)(d:D):Option (D×List Nat):=match d with
 | .acc m=>(match(H[m]?).bind Ob.QS with|some (_,rows)=>some (.sl rows,[m])|none=>none)
 | .ptr _ _=>none
 | .op _ _ _ _=>none
 |d=>some (d.KX,[])
def QT(H:List Ob):List D→Option (List D×List Nat)
 | []=>some ([],[])
 |d::ds=>match a3t H d,QT H ds with|some (e,m),some (es,ms)=>some (e::es,m++ms)|_,_=>none
def uqC(H:List Ob)(d:D):Bool:=match d with
 | .acc m=>(match(H[m]?).bind Ob.QS with|some (k,_)=>(match k with| .uq=>true|_=>false)|none=>false)
 |d=>d.flat
def zR(b:Bool):RK:=match b with|true=>.uq|false=>.sh
theorem Ob.ZL(u:Bool)(e:TypeId)(sz:Nat)(rows:List (List D)):(Ob.row (zR u) e sz rows).mvB=false:=by cases u<;>rfl
theorem Rd.flat{v:Value}{d:D}{bs:List Nat}(h:Rd w v d bs)(hf:d.flat=true):bs=[]:=by
 cases h<;>first|rfl|simp[D.flat]at hf
theorem ZM{H:List Ob}{d e:D}{m:List Nat}(h:a3t H d=some (e,m)):
 (∃m0 o k rows,d=.acc m0∧H[m0]?=some o∧o.QS=some (k,rows)∧e=.sl rows∧m=[m0])∨(d.ZA=true∧(∀i,d≠ .acc i)∧e=d.KX∧m=[]):=by
 cases d with
 |acc m0=>
  simp only[a3t]at h
  split at h
  ·rename_i k rows hH
   simp only[Option.some.injEq,Prod.mk.injEq]at h
   obtain⟨rfl,rfl⟩:=h
   obtain⟨o,hH,ho⟩:=Option.bind_eq_some_iff.1 hH
   exact .inl ⟨m0,o,k,rows,rfl,hH,ho,rfl,rfl⟩
  ·cases h
 |ptr i o=>simp[a3t]at h
 |op i j s o=>simp[a3t]at h
 |_=>simp only[a3t,Option.some.injEq,Prod.mk.injEq]at h;obtain⟨rfl,rfl⟩:=h;exact .inr ⟨rfl,by simp,rfl,rfl⟩
theorem ZN{H:List Ob}:∀ {ds es:List D} {ms:List Nat},QT H ds=some (es,ms)→∀m∈ms,∃o k rows,H[m]?=some o∧o.QS=some (k,rows):=by
 intro ds
 induction ds with
 |nil=>intro es ms h;simp only[QT,Option.some.injEq,Prod.mk.injEq]at h;obtain⟨rfl,rfl⟩:=h;simp
 |cons d ds ih=>
  intro es ms h
  simp only[QT]at h
  split at h
  ·rename_i e m es' ms' h1 h2
   simp only[Option.some.injEq,Prod.mk.injEq]at h
   obtain⟨rfl,rfl⟩:=h
   intro x hx
   rcases List.mem_append.1 hx with hx|hx
   ·rcases ZM h1 with⟨m0,o,k,bG,rfl,hH,hk,rfl,rfl⟩|⟨_,_,_,rfl⟩
    ·simp at hx;subst hx;exact⟨o,k,_,hH,hk⟩
    ·simp at hx
   ·exact ih h2 x hx
  ·cases h
theorem a1M{H:List Ob}{ρ:Nat→Nat}:∀ {ds es:List D} {ms:List Nat} {vs:List Value} {b0:List Nat},QT H ds=some (es,ms)→ms.Nodup→c8 w κ vs ds b0→(∀b∈b0,Θ b=0)→
 (∀m∈ms,∀o k rows,H[m]?=some o→o.QS=some (k,rows)→A8 κ Θ ρ w m k rows)→
 ∃bs,jN w vs es bs∧(∀b∈bs,Θ b=0)∧(ds.all (uqC H)=true→bs.Nodup∧∀b∈bs,∃m∈ms,ρ b=m+1):=by
 intro ds
 induction ds with
 |nil=>
  intro es ms vs b0 h _ hr _ _
  simp only[QT,Option.some.injEq,Prod.mk.injEq]at h;obtain⟨rfl,rfl⟩:=h
  cases hr
  exact⟨[],.nil,by simp,by simp⟩
 |cons d ds ih=>
  intro es ms vs b0 h hnd hr hz hm
  simp only[QT]at h
  split at h
  ·rename_i e m es' ms' h1 h2
   simp only[Option.some.injEq,Prod.mk.injEq]at h
   obtain⟨rfl,rfl⟩:=h
   obtain⟨n1,n2,n3⟩:=List.nodup_append.1 hnd
   cases hr with
   |cons v vs _ _ b1 b2 hv hc hcs=>
    obtain⟨bs2,q1,q2,q3⟩:=ih h2 n2 hcs (fun b hb=>hz b (by simp[hb])) (fun x hx=>hm x (by simp[hx]))
    have one:∃bs1,Rd w v e bs1∧(∀b∈bs1,Θ b=0)∧(uqC H d=true→bs1.Nodup∧∀b∈bs1,∃x∈m,ρ b=x+1):=by
     rcases ZM h1 with⟨m0,o,k,bG,rfl,hH,hk,rfl,rfl⟩|⟨hp,hna,rfl,rfl⟩
     ·obtain⟨v',bs,r1,r2,r3,r4⟩:=hm m0 (by simp) o k bG hH hk
      cases hc with
      |pure hc=>cases hc
      |acc _ _ hkv=>
       rw[hkv]at r1;cases r1
       refine⟨bs,r2,r3,fun hq=>?_⟩
       simp only[uqC,hH,Option.bind_some,hk]at hq
       split at hq
       ·obtain⟨r5,r6⟩:=r4 rfl
        exact⟨r5,fun b hb=>⟨m0,by simp,r6 b hb⟩⟩
       ·cases hq
     ·have hrd:Rd w v d b1:=by
       cases hc with
       |pure hc=>exact hc
       |acc i _ _=>exact absurd rfl (hna i)
       |ptr i o _ _=>simp[D.ZA]at hp
       |op i j s o _ _ _ _ _=>simp[D.ZA]at hp
      refine⟨b1,hrd.soft,fun b hb=>hz b (by simp[hb]),fun hq=>?_⟩
      have hf:d.flat=true:=by
       unfold uqC at hq
       split at hq
       ·exact absurd rfl (hna _)
       ·exact hq
      rw[hrd.flat hf]
      exact⟨by simp,by simp⟩
    obtain⟨bs1,p1,p2,p3⟩:=one
    refine⟨bs1++bs2,.cons _ _ _ _ _ _ hv p1 q1,fun b hb=>?_,fun hq=>?_⟩
    ·rcases List.mem_append.1 hb with hb|hb
     ·exact p2 b hb
     ·exact q2 b hb
    ·simp only[List.all_cons,Bool.and_eq_true]at hq
     obtain⟨p4,p5⟩:=p3 hq.1
     obtain⟨q4,q5⟩:=q3 hq.2
     refine⟨List.nodup_append.2 ⟨p4,q4,fun x hx y hy exy=>?_⟩,fun b hb=>?_⟩
     ·subst exy
      obtain⟨m1,hm1,e1⟩:=p5 x hx
      obtain⟨m2,hm2,e2⟩:=q5 x hy
      exact n3 m1 hm1 m2 hm2 (by omega)
     ·rcases List.mem_append.1 hb with hb|hb
      ·obtain⟨x,hx,ex⟩:=p5 b hb;exact⟨x,by simp[hx],ex⟩
      ·obtain⟨x,hx,ex⟩:=q5 b hb;exact⟨x,by simp[hx],ex⟩
  ·cases h
theorem bN.put(hs:bN Γ st κ Θ a w){H':List Ob}{κ':Nat→Option Value}{Θ' ρ:Nat→Nat}{w':World}{id:Nat}{o:Ob}(ms:List Nat)
 (key:∀(j:Nat) x,H'[j]?=some x→(j=id∧x=o)∨(j≠id∧st.H[j]?=some x)) (hn:∀(j:Nat) v,κ j=some v→κ' j=some v)
 (hko:∀i,H'.length≤i→κ' i=none) (hk1:∀(i:Nat) u,κ' i=some u→u.oneCell'=true) (k:fD w w' Θ Θ' (id+2)) (hm:∀b,2≤Θ' b→BM Γ b) (ho:w9 w' κ' Θ' id o)
 (hu:BA Γ st.H κ Θ w ρ) (XK:∀m∈ms,∀x,m≠id→st.H[m]?=some x→x.uqB=false)
 (hq:∀e sz rows,o=.row .uq e sz rows→∃v cs bs,κ' id=some v∧w'.ownsRow 0 e sz v rows.length cs∧jN w' cs rows.flatten bs∧bs.Nodup∧∀b∈bs,ρ b=id+1∨∃m∈ms,ρ b=m+1)
 (hmv:o.mvB=false:=by first|rfl|exact Ob.ZL _ _ _ _):
 bN Γ ⟨st.σ,H'⟩ κ' Θ' a w':=by
 have uB:=hs.nO k hn hu
 let ρ':Nat→Nat:=fun b=>if ms.any (fun m=>ρ b==m+1)then id+1 else ρ b
 have aFY:∀b,ρ' b≠0→ρ b≠0:=by
  intro b hb h0
  simp only[ρ',h0]at hb
  split at hb
  ·rename_i h
   obtain⟨m,_,hm⟩:=List.any_eq_true.1 h
   simp at hm
  ·exact hb rfl
 refine hs.step k hm hn hko hk1 ?_ ⟨ρ',fun b hb=>uB.1 b (aFY b hb),?_,?_⟩
 ·intro j x hj
  rcases key j x hj with⟨rfl,rfl⟩|⟨h1,h2⟩
  ·exact .inr (.inr ho)
  ·exact .inr (.inl ⟨by omega,h2⟩)
 ·intro j e sz rows hj
  rcases key j _ hj with⟨rfl,ho'⟩|⟨h1,h2⟩
  ·obtain⟨v,cs,bs,q1,q2,q3,q4,q5⟩:=hq e sz rows ho'.symm
   refine⟨v,cs,bs,q1,q2,q3,q4,fun b hb=>?_⟩
   simp only[ρ']
   split
   ·rfl
   ·rename_i hno
    rcases q5 b hb with h|⟨m,hm1,hm2⟩
    ·exact h
    ·exact absurd (List.any_eq_true.2 ⟨m,hm1,by simp[hm2]⟩) hno
  ·obtain⟨v,cs,bs,q1,q2,q3,q4,q5⟩:=uB.2.1 j e sz rows (by omega) h2
   refine⟨v,cs,bs,q1,q2,q3,q4,fun b hb=>?_⟩
   simp only[ρ']
   rw[if_neg]
   ·exact q5 b hb
   ·intro h
    obtain⟨m,hm1,hm2⟩:=List.any_eq_true.1 h
    simp only[q5 b hb,beq_iff_eq]at hm2
    have:j=m:=by omega
    subst this
    have:=XK j hm1 _ h1 h2
    simp[Ob.uqB]at this
 ·intro j x hj
  rcases key j _ hj with⟨rfl,rfl⟩|⟨h1,h2⟩
  ·exact SJ.yN hmv
  ·by_cases hx:x.uqB=false
   ·exact SJ.plain hx
   ·refine(uB.2.2 j x (by omega) h2).re fun b hb=>?_
    simp only[ρ']
    rw[if_neg]
    ·exact hb
    ·intro h
     obtain⟨m,hm1,hm2⟩:=List.any_eq_true.1 h
     simp only[hb,beq_iff_eq]at hm2
     have:j=m:=by omega
     subst this
     exact hx (XK j hm1 _ h1 h2)
theorem CD{H:List Ob}{o:Ob}:∀(j:Nat) x,(H++[o])[j]?=some x→(j=H.length∧x=o)∨(j≠H.length∧H[j]?=some x):=by
 intro j x hj
 by_cases hlt:j<H.length
 ·rw[List.getElem?_append_left hlt]at hj
  exact .inr ⟨by omega,hj⟩
 ·have hj':=(List.getElem?_eq_some_iff.1 hj).1
  simp only[List.length_append,List.length_cons,List.length_nil]at hj'
  have e:j=H.length:=by omega
  subst e
  rw[List.getElem?_append_right (Nat.le_refl _)]at hj
  simp at hj
  exact .inl ⟨rfl,hj.symm⟩
theorem zS{H:List Ob}{o:Ob}{id:Nat}:∀(j:Nat) x,(H.set id o)[j]?=some x→(j=id∧x=o)∨(j≠id∧H[j]?=some x):=by
 intro j x hj
 by_cases e:id=j
 ·subst e
  have hlt:id<H.length:=by
   have:=(List.getElem?_eq_some_iff.1 hj).1
   simpa using this
  rw[List.getElem?_set_self hlt]at hj
  cases hj
  exact .inl ⟨rfl,rfl⟩
 ·rw[List.getElem?_set_ne e]at hj
  exact .inr ⟨fun h=>e h.symm,hj⟩
theorem bN.newRow(hs:bN Γ st κ Θ a w){ρ:Nat→Nat}(hu:BA Γ st.H κ Θ w ρ){u:Bool}{ms:List Nat}{e sz cap:Nat}{rows:List (List D)}{bs:List Nat}(cur:Array Value)(hsz:0<sz)(hrl:∀r∈rows,r.length=sz)
 (TN:cur.size=cap*sz) (hn:rows.length≤cap) (hcap:cap≤maxLen) (hr:jN w (cur.toList.take (rows.length*sz)) rows.flatten bs) (hz:∀b∈bs,Θ b=0)
 (XK:∀m∈ms,∀x,st.H[m]?=some x→x.uqB=false) (hq:u=true→bs.Nodup∧∀b∈bs,∃m∈ms,ρ b=m+1):
 bN Γ ⟨st.σ,st.H++[.row (zR u) e sz rows]⟩ (yM κ st.H.length (some (.slice (some ⟨w.heap.size,0,none⟩) rows.length cap))) (fun b=>if b=w.heap.size then st.H.length+2 else Θ b) a (w.alloc (.cells cur e)):=by
 have k:=fD.alloc hs (.cells cur e) (tag:=st.H.length+2) (by omega)
 obtain⟨h1,h2⟩:=jN.over k hr hz
 have hlen:(cur.toList.take (rows.length*sz)).length=rows.length*sz:=by
  have:rows.length*sz≤cap*sz:=Nat.mul_le_mul_right _ hn
  have h3:cur.toList.length=cap*sz:=by rw[←TN];simp
  rw[List.length_take,h3,Nat.min_eq_left this]
 have hown:(w.alloc (.cells cur e)).ownsRow 0 e sz (.slice (some ⟨w.heap.size,0,none⟩) rows.length cap) rows.length (cur.toList.take (rows.length*sz)):=
  ⟨hlen,.inr ⟨w.heap.size,cap,cur,rfl,by omega,heap_alloc_new w _,hn,hcap,TN,rfl⟩⟩
 refine hs.put ms CD (xH (hs.oG _ (Nat.le_refl _)) _) ?_ ?_ k (hs.A7 (fun b hb=>by by_cases e:b=w.heap.size<;>simp_all)) ?_ hu (fun m hm x _=>XK m hm x) ?_
 ·intro i hi
  simp only[List.length_append,List.length_cons,List.length_nil]at hi
  unfold yM
  rw[if_neg (by omega)]
  exact hs.oG i (by omega)
 ·intro i x hx
  unfold yM at hx
  split at hx
  ·cases hx;rfl
  ·exact hs.o4 i x hx
 ·refine⟨hsz,hrl,_,_,bs,by simp[yM],hown,h1,?_,?_⟩
  ·intro g hg
   simp only[Value.ownBlock,Option.some.injEq]at hg
   subst hg
   simp
  ·cases u<;>exact h2
 ·intro e' sz' bG he
  cases u with
  |false=>simp[zR]at he
  |true=>
   simp only[zR,Ob.row.injEq,true_and]at he
   obtain⟨rfl,rfl,rfl⟩:=he
   obtain⟨q1,q2⟩:=hq rfl
   exact⟨_,_,bs,by simp[yM],hown,h1,q1,fun b hb=>.inr (q2 b hb)⟩
theorem XL{o:Oper}{T e sz t:Nat}{x y:Operand}{k k':IntKind}{n:Int}{zs:List D}(hop:o.op=.makeSlice T x y)(hd:o.dst=some t)(hg:o.guard=none)(ht:t<Γ.nt)
 (hT:IG P T=some (e,sz)) (hz:tz P e=some zs) (hsz:0<sz) (hx:st.ev x=.int k n) (hy:st.ev y=.int k' n) (h0:0≤n) (hroom:tby P e*n.toNat≤281474976710656) (BN:n.toNat≤4611686018427387904)
 (h:AO P Γ all rest Q ⟨(t,.acc st.H.length)::st.σ,st.H++[.row .uq e sz (List.replicate n.toNat (zs.map D.KX))]⟩):AO P Γ all (o::rest) Q st:=by
 intro κ Θ a w hs
 obtain⟨b1,r1,_⟩:=hs.ev x
 obtain⟨b2,r2,_⟩:=hs.ev y
 rw[hx]at r1
 rw[hy]at r2
 have e1:=r1.pG
 have e2:=r2.pG
 obtain⟨hu,_,O3⟩:=n8 hT
 obtain⟨i,z,hi,yL,XM,hlen,hone,rfl⟩:=xA hz
 have D9:i.size=sz:=by rw[←O3];simp[A6,Program.cellsOf,hi]
 have hby:i.bytes=tby P e:=by simp[tby,Program.bytesOf,hi]
 obtain⟨m,rfl⟩:=Int.eq_ofNat_of_zero_le h0
 simp only[Int.toNat_natCast]at hroom BN h
 have hrun:=run_make (P:=P) w T e i z hu hi yL k k' m m (by omega) (by omega) (by rw[hby];have:=Int.ofNat_le.2 hroom;rw[Int.natCast_mul]at this;exact this) (by omega)
 simp only[Int.toNat_natCast]at hrun
 rw[←XM]at hrun
 have a5Y:=TM z.cells m
 obtain⟨ρ,huq⟩:=hs.tC
 have hs':=hs.newRow huq (u:=true) (ms:=[]) (e:=e) (sz:=sz) (cap:=m) (rows:=List.replicate m ((z.cells.toList.map D.ofV).map D.KX)) (bs:=[]) (madeCells z.cells (m*z.cells.size)) hsz
  (by intro r hr;rw[List.eq_of_mem_replicate hr];simp[XM,D9]) (by rw[size_madeCells,XM,D9]) (by simp) (by unfold maxLen;omega)
  (by
   rw[List.length_replicate,List.take_of_length_le (by simp[size_madeCells,XM,D9]),a5Y]
   have hcell:=(CC (w:=w) (κ:=κ) z.cells.toList hone).pure (by
    rw[List.all_map,List.all_eq_true]
    intro c _
    simp only[Function.comp]
    unfold D.ofV
    split<;>(try split)<;>rfl)
   exact hcell.soft.rep m) (by simp) (by simp) (by simp)
 refine wpList_plain hg fun K hK=>?_
 unfold Oper.wp
 have ZO:(execOp a.eval o).run P w=.ok (.value (.slice (some ⟨w.heap.size,0,none⟩) m m)) (w.alloc (.cells (madeCells z.cells (m*z.cells.size)) e)):=by
  simp only[execOp,hop,e1,e2]
  simp[hrun]
 rw[ZO,Oper.upon_value,hd]
 simp only[List.length_replicate]at hs'
 refine hK _ _ (h _ _ _ _ (hs'.set (t:=t) (d:=.acc st.H.length) (bs:=[]) ht ?_ (by simp)))
 exact(yK.acc st.H.length _ (by simp[yM])).XC
def s6(len sz:Nat):List (Nat×Nat):=(List.range len).map fun i=>(i*sz,sz)
def chunk(sz:Nat):Nat→List D→List (List D)
 |0,_=>[]
 |n+1,ds=>ds.take sz::chunk sz n (ds.drop sz)
theorem FQ(sz:Nat):∀(n:Nat) (ds:List D),ds.length=n*sz→(chunk sz n ds).length=n∧(chunk sz n ds).flatten=ds∧∀r∈chunk sz n ds,r.length=sz:=by
 intro n
 induction n with
 |zero=>intro ds h;simp at h;subst h;simp[chunk]
 |succ n ih=>
  intro ds h
  rw[Nat.add_mul,Nat.one_mul]at h
  obtain⟨h1,h2,h3⟩:=ih (ds.drop sz) (by rw[List.length_drop];omega)
  refine⟨by simp[chunk,h1],by simp[chunk,h2],fun r hr=>?_⟩
  rcases List.mem_cons.1 hr with rfl|hr
  ·rw[List.length_take];omega
  ·exact h3 r hr
theorem a1N{len sz:Nat}:∀(parts:List (Nat×Value)) (cs arr:Array Value),Instr.fill ((s6 len sz).toArray[·]?) cs parts=some arr→Instr.fill (fun i=>some (i*sz,sz)) cs parts=some arr:=by
 intro parts
 induction parts with
 |nil=>intro cs arr h;exact h
 |cons p parts ih=>
  intro cs arr h
  obtain⟨i,v⟩:=p
  simp only[Instr.fill]at h⊢
  split at h
  ·cases h
  ·rename_i off size hp
   have e:(off,size)=(i*sz,sz):=by
    simp only[s6,List.getElem?_toArray,List.getElem?_map]at hp
    cases hr:(List.range len)[i]? with
    |none=>simp[hr]at hp
    |some j=>
     have hj:=(List.getElem?_eq_some_iff.1 hr)
     simp only[hr,Option.map_some,Option.some.injEq]at hp
     have:j=i:=by have:=hj.2;simp at this;omega
     rw[←hp,this]
   cases e
   split at h
   ·cases h
   ·rename_i hc
    rw[if_neg hc]
    exact ih _ _ h
theorem XN{places:List (Nat×Nat)}:∀(ps:List (Nat×D)) (cells ds:List D),xM places cells ps=some ds→ds.length=cells.length:=by
 intro ps
 induction ps with
 |nil=>intro cells ds h;simp only[xM,Option.some.injEq]at h;rw[h]
 |cons p ps ih=>
  intro cells ds h
  obtain⟨i,d⟩:=p
  simp only[xM]at h
  split at h
  ·split at h
   ·rename_i hc
    rw[ih _ _ h]
    simp;omega
   ·cases h
  ·cases h
theorem A9{o:Oper}{T e sz len:Nat}{parts:Array (Nat×Operand)}{zs ds:List D}(hop:o.op=.buildSlice T len parts)
 (hT:IG P T=some (e,sz)) (hz:tz P e=some zs) (hsz:0<sz) (hsmall:len*sz≤16777216)
 (hf:xM (s6 len sz) (List.replicate len zs).flatten (parts.toList.map fun p=>(p.1,st.ev p.2))=some ds) (hs:bN Γ st κ Θ a w):
 ∃(arr:Array Value) (b0:List Nat),(execOp a.eval o).run P w=.ok (.value (.slice (some ⟨w.heap.size,0,none⟩) len len)) (w.alloc (.cells arr e))∧c8 w κ arr.toList ds b0∧(∀b∈b0,Θ b=0)∧arr.size=len*sz∧ds.length=len*sz:=by
 obtain⟨hu,_,O3⟩:=n8 hT
 obtain⟨i,z,hi,yL,XM,hlen,hone,rfl⟩:=xA hz
 have D9:i.size=sz:=by rw[←O3];simp[A6,Program.cellsOf,hi]
 have a5Y:=TM z.cells len
 have hzero:c8 w κ (madeCells z.cells (len*z.cells.size)).toList (List.replicate len (z.cells.toList.map D.ofV)).flatten []:=by
  rw[a5Y]
  have hcell:=(CC (w:=w) (κ:=κ) z.cells.toList hone).pure (by
   rw[List.all_map,List.all_eq_true]
   intro c _
   simp only[Function.comp]
   unfold D.ofV
   split<;>(try split)<;>rfl)
  exact c8.E8 (hcell.rep len)
 obtain⟨arr,b0,aD4,VK,hb0⟩:=a2q hs parts.toList _ _ ds [] hzero (by simp) hf
 have a1O:=a1N _ _ _ aD4
 have hdl:ds.length=len*sz:=by
  rw[XN _ _ _ hf,mW (sz:=sz) (by intro r hr;rw[List.eq_of_mem_replicate hr];simp[XM,D9])]
  simp
 have hal:arr.size=len*sz:=by have:=VK.length;simp at this;omega
 refine⟨arr,b0,?_,VK,hb0,hal,hdl⟩
 simp only[execOp,hop]
 by_cases h0:len*i.size=0
 ·have hl0:len=0:=by
   rw[D9]at h0
   rcases Nat.mul_eq_zero.1 h0 with h|h
   ·exact h
   ·omega
  subst hl0
  have hma:madeCells z.cells (0*z.cells.size)= #[]:=by simp[madeCells]
  rw[hma]at a1O
  have hpe:(parts.map fun(x:Nat×Operand)=>(x.1,a.eval x.2)).toList=parts.toList.map fun p=>(p.1,a.eval p.2):=by simp
  have hf2:=a1O
  rw[←hpe,←D9]at hf2
  simp at hf2
  have hr0:Array.range 0= #[]:=rfl
  simp[Instr.buildSlice,run_underlying hu,sizeOf,typeInfo,hi,newRow,hr0,hf2]
 ·have hpe:(parts.map fun(x:Nat×Operand)=>(x.1,a.eval x.2)).toList=parts.toList.map fun p=>(p.1,a.eval p.2):=by simp
  have:=run_buildSlice (P:=P) w T e len (parts.map fun(x:Nat×Operand)=>(x.1,a.eval x.2)) arr i z hu hi yL (by rw[D9];omega) h0 (by
   rw[hpe,D9]
   have e2:(Array.range (len*sz)).map (z.cells[· %z.cells.size]!)=madeCells z.cells (len*z.cells.size):=by unfold madeCells;rw[XM,D9]
   rw[e2];exact a1O)
  simp[this]
theorem VL{o:Oper}{T e sz len t:Nat}{parts:Array (Nat×Operand)}{zs ds es:List D}{ms:List Nat}(hop:o.op=.buildSlice T len parts)(hd:o.dst=some t)(hg:o.guard=none)(ht:t<Γ.nt)
 (hT:IG P T=some (e,sz)) (hz:tz P e=some zs) (hsz:0<sz) (hsmall:len*sz≤16777216)
 (hf:xM (s6 len sz) (List.replicate len zs).flatten (parts.toList.map fun p=>(p.1,st.ev p.2))=some ds) (habs:QT st.H ds=some (es,ms)) (hnd:ms.Nodup)
 (h:AO P Γ all rest Q ⟨(t,.acc st.H.length)::st.σ,kill st.H ms++[.row (zR (ds.all (uqC st.H))) e sz (chunk sz len es)]⟩):AO P Γ all (o::rest) Q st:=by
 intro κ Θ a w hs
 obtain⟨arr,b0,hrun,VK,hb0,hal,hdl⟩:=A9 hop hT hz hsz hsmall hf hs
 obtain⟨ρ,huq⟩:=hs.tC
 obtain⟨Θ1,ρ1,hs1,hu1,hm1,ZK,hr1⟩:=bN.ZJ ms hs huq hnd (ZN habs)
 obtain⟨bs,q1,q2,q3⟩:=a1M (H:=st.H) (ρ:=ρ1) habs hnd VK (fun b hb=>ZK b (hb0 b hb)) hm1
 have hel:es.length=len*sz:=by rw[←q1.length,VK.length,hdl]
 obtain⟨c1,c2,c3⟩:=FQ sz len es hel
 have hs':=hs1.newRow hu1 (u:=ds.all (uqC st.H)) (ms:=ms) (e:=e) (sz:=sz) (cap:=len) (rows:=chunk sz len es) (bs:=bs) arr hsz c3 hal (by rw[c1];exact Nat.le_refl _)
  (by unfold maxLen;have:len*1≤len*sz:=Nat.mul_le_mul_left _ hsz;omega) (by rw[c1,c2,List.take_of_length_le (by simp[hal])];exact q1) q2
  (by
   intro m hm x hH
   rcases rE hH with h|⟨h,_⟩
   ·subst h;rfl
   ·exact absurd hm h) q3
 refine wpList_plain hg fun K hK=>?_
 unfold Oper.wp
 rw[hrun,Oper.upon_value,hd]
 rw[c1,dO]at hs'
 refine hK _ _ (h _ _ _ _ (hs'.set (t:=t) (d:=.acc st.H.length) (bs:=[]) ht ?_ (by simp)))
 exact(yK.acc st.H.length _ (by simp[yM])).XC
end
end Go.Cx
namespace Go.Cx
set_option linter.unusedVariables false
set_option linter.unusedSimpArgs false
open Go.RowKit
section
variable{P:Program}{Γ:uK}{Q:Exit→St→Prop}{st:St}{κ:Nat→Option Value}{Θ:Nat→Nat}{a:Act}{w:World}{all:Array Oper}{rest:List Oper}
theorem SO(w:World)(t ty e:TypeId)(i:TypeInfo)(ht:P.underlying t=some (.slice e))(hi:P.info? e=some i)(b:Option Addr)(n cap:Nat)(hn:n≤cap):
 (Builtin.append_ #[t,t] ty #[.slice b n cap,.slice none 0 0]).run P w=.ok (.slice b n cap) w:=by
 cases b<;>simp[Builtin.append_,run_underlying ht,sizeOf,typeInfo,hi,Builtin.lenOf,Builtin.firstCells,hn,storeCells]
structure a5Z(w:World)(Θ ρ:Nat→Nat)(e sz:Nat)(v:Value)(rows:List (List D))(u1:Bool)(i1:Nat)(bs:List Nat)(cs:List Value):Prop where
 rl:∀r∈rows,r.length=sz
 own:w.ownsRow 0 e sz v rows.length cs
 rd:jN w cs rows.flatten bs
 zero:∀b∈bs,Θ b=0
 top:∀g,v.ownBlock=some g→Θ g=i1+2
 uq:u1=true→bs.Nodup∧∀b∈bs,ρ b=i1+1
structure a3u(w:World)(Θ ρ:Nat→Nat)(sz:Nat)(u:Value)(rows:List (List D))(u2:Bool)(i2:Nat)(bs:List Nat)(cs:List Value):Prop where
 rl:∀r∈rows,r.length=sz
 at_:(u=.slice none 0 0∧rows=[])∨∃ad c,u=.slice (some ad) rows.length c∧∀j x,cs[j]?=some x→w.cell? (ad.add j)=some x
 rd:jN w cs rows.flatten bs
 zero:∀b∈bs,Θ b=0
 uq:u2=true→bs.Nodup∧∀b∈bs,ρ b=i2+1
theorem a1P{T e sz i1 i2:Nat}{v u:Value}{rows cI:List (List D)}{u1 u2:Bool}{b1 b2:List Nat}{c1 c2:List Value}{ρ:Nat→Nat}{zs:List D}{ty:TypeId}(hT:IG P T=some (e,sz))(hz:tz P e=some zs)(hsz:0<sz)
 (hS:a5Z w Θ ρ e sz v rows u1 i1 b1 c1) (hX:a3u w Θ ρ sz u cI u2 i2 b2 c2) (h63:rows.length+cI.length≤maxLen) (hby:(rows.length+cI.length)*tby P e≤140737488355328):
 ∃v' w',(Builtin.append_ #[T,T] ty #[v,u]).run P w=.ok v' w'∧w'.ownsRow 0 e sz v' (rows++cI).length (c1++c2)∧w.grownBy w' v.ownBlock∧(v'.ownBlock=v.ownBlock∨v'.ownBlock=some w.heap.size)∧
  jN w (c1++c2) (rows++cI).flatten (b1++b2):=by
 obtain⟨hu,_,O3⟩:=n8 hT
 obtain⟨i,z,hi,yL,XM,hlen,hone,rfl⟩:=xA hz
 have D9:i.size=sz:=by rw[←O3];simp[A6,Program.cellsOf,hi]
 have hib:i.bytes=tby P e:=by simp[tby,Program.bytesOf,hi]
 have hr:jN w (c1++c2) (rows++cI).flatten (b1++b2):=by rw[List.flatten_append];exact hS.rd.app hX.rd
 have hc2:c2.length=cI.length*sz:=by rw[hX.rd.length,mW hX.rl]
 rcases hX.at_ with⟨rfl,rfl⟩|⟨ad,c,rfl,hcell⟩
 ·have hc:c2=[]:=List.eq_nil_of_length_eq_zero (by simpa using hc2)
  subst hc
  have hv:∃b n cap,v=.slice b n cap∧n≤cap:=by
   rcases hS.own.2 with⟨rfl,_⟩|⟨g,cap,cur,rfl,_,_,hn,_⟩
   ·exact⟨_,_,_,rfl,Nat.le_refl _⟩
   ·exact⟨_,_,_,rfl,hn⟩
  obtain⟨b,n,cap,rfl,hn⟩:=hv
  exact⟨_,w,SO w T ty e i hu hi b n cap hn,by simpa using hS.own,⟨rfl,rfl,rfl,Nat.le_refl _,fun _ _ _=>rfl⟩,.inl rfl,hr⟩
 ·obtain⟨v',w',q1,q2,q3,_,q5⟩:=run_append_own_at (P:=P) w 0 T ty e i z sz (tby P e) hu hi yL D9 hib (by rw[XM,D9]) hsz v rows.length c1 hS.own ad cI.length c c2 hc2 hcell hX.rd.one h63 hby (Nat.zero_le _)
  exact⟨v',w',q1,by simpa using q2,q3,q5,hr⟩
theorem a3v{o:Oper}{T e sz t:Nat}{s x:Operand}{rows cI:List (List D)}{zs:List D}{u:Bool}{ks:List Nat}(hop:o.op=.call {callee:=.builtin .append,args:= #[s,x],argTypes:= #[T,T]})
 (hd:o.dst=some t) (hg:o.guard=none) (ht:t<Γ.nt) (hT:IG P T=some (e,sz)) (hz:tz P e=some zs) (hsz:0<sz)
 (h63:rows.length+cI.length≤maxLen) (hby:(rows.length+cI.length)*tby P e≤140737488355328)
 (hin:∀κ Θ a w ρ,bN Γ st κ Θ a w→BA Γ st.H κ Θ w ρ→∃u1 u2 i1 i2 b1 b2 c1 c2,a5Z w Θ ρ e sz (a.eval s) rows u1 i1 b1 c1∧a3u w Θ ρ sz (a.eval x) cI u2 i2 b2 c2∧
  (i1∈ks∨i1=st.H.length)∧(u=true→u1=true∧u2=true∧(b2=[]∨(i2∈ks∧i1≠i2))))
 (h:AO P Γ all rest Q ⟨(t,.acc st.H.length)::st.σ,kill st.H ks++[.row (zR u) e sz (rows++cI)]⟩):AO P Γ all (o::rest) Q st:=by
 intro κ Θ a w hs
 obtain⟨ρ,hu⟩:=hs.tC
 obtain⟨u1,u2,i1,i2,b1,b2,c1,c2,hS,hX,hi1,hq⟩:=hin κ Θ a w ρ hs hu
 obtain⟨v',w',hrun,hown,hgr,hat,hrd⟩:=a1P (P:=P) (ty:=o.type) hT hz hsz hS hX h63 hby
 refine wpList_plain hg fun K hK=>?_
 have ZO:(execOp a.eval o).run P w=.ok (.value v') w':=by
  simp only[execOp,hop,resolve,invoke,builtin,Sem.run_bind,Sem.run_pure,Result.andThen_ok,List.map_toArray,List.map_cons,List.map_nil,hrun]
 unfold Oper.wp
 rw[ZO,Oper.upon_value,hd]
 let id:=st.H.length
 let Θ':Nat→Nat:=fun b=>if some b=v'.ownBlock then id+2 else Θ b
 have hvt:∀g,v'.ownBlock=some g→Θ g=i1+2∨g=w.heap.size:=by
  intro g hgv
  rcases hat with h|h
  ·exact .inl (hS.top g (h▸hgv))
  ·rw[h]at hgv;cases hgv;exact .inr rfl
 have hnew:Θ w.heap.size=0:=by
  cases h0:Θ w.heap.size with
  |zero=>rfl
  |succ n=>exact absurd (hs.own w.heap.size (by omega)) (by omega)
 have k:fD w w' Θ Θ' (i1+2):=by
  refine⟨by omega,hgr.os,hgr.tape,hgr.output,hgr.size,fun b hb hne=>hgr.block b hb (fun e=>hne (hS.top b e.symm)),fun b hb hne=>?_,fun b hb=>?_⟩
  ·simp only[Θ']
   rw[if_neg]
   intro e
   rcases hvt b e.symm with h|h
   ·exact hne h
   ·omega
  ·simp only[Θ']at hb
   split at hb
   ·rename_i e;exact(hown.lt b e.symm).2
   ·exact Nat.lt_of_lt_of_le (hs.own b hb) hgr.size
 have hm:∀b,2≤Θ' b→BM Γ b:=by
  intro b hb
  simp only[Θ']at hb
  split at hb
  ·rename_i e
   rcases hvt b e.symm with h|h
   ·exact hs.mine b (by omega)
   ·exact .inl (by rw[h];exact hs.base)
  ·exact hs.mine b hb
 have hn:=xH (hs.oG id (Nat.le_refl _)) (some v')
 have hv1:v'.oneCell'=true:=by
  rcases hown.2 with⟨rfl,_⟩|⟨g,cap,cur,rfl,_⟩<;>rfl
 have yL:∀b∈b1++b2,Θ b=0:=by
  intro b hb
  rcases List.mem_append.1 hb with hb|hb
  ·exact hS.zero b hb
  ·exact hX.zero b hb
 obtain⟨TO,VE⟩:=jN.over k hrd yL
 have hrl:∀r∈rows++cI,r.length=sz:=by
  intro r hr
  rcases List.mem_append.1 hr with hr|hr
  ·exact hS.rl r hr
  ·exact hX.rl r hr
 have FN:∀g,v'.ownBlock=some g→Θ' g=id+2:=fun g hgv=>by simp only[Θ'];rw[if_pos hgv.symm]
 have key:∀(j:Nat) y,(kill st.H ks++[.row (zR u) e sz (rows++cI)])[j]?=some y→(j=id∧y=.row (zR u) e sz (rows++cI))∨(j≠id∧(y=.gone∨(j∉ks∧st.H[j]?=some y))):=by
  intro j y hj
  rcases CD j y hj with⟨h1,h2⟩|⟨h1,h2⟩
  ·rw[dO]at h1;exact .inl ⟨h1,h2⟩
  ·rw[dO]at h1
   exact .inr ⟨h1,rE h2⟩
 have hne:∀(j:Nat) y,j∉ks→st.H[j]?=some y→j+2≠i1+2:=by
  intro j y hj hy
  have:=(List.getElem?_eq_some_iff.1 hy).1
  rcases hi1 with h|h
  ·intro e;exact hj (by
    have:j=i1:=by omega
    rw[this];exact h)
  ·omega
 have uB:=hs.nO k hn hu
 let ρ':Nat→Nat:=fun b=>if u=true∧(b∈b1∨b∈b2)then id+1 else ρ b
 have hold:∀(j:Nat) y,j∉ks→st.H[j]?=some y→∀b,ρ b=j+1→ρ' b=j+1:=by
  intro j y hjk hy b hb
  simp only[ρ']
  rw[if_neg]
  ·exact hb
  ·rintro⟨zQ,hmem⟩
   obtain⟨p1,p2,p3⟩:=hq zQ
   rcases hmem with h|h
   ·have:=(hS.uq p1).2 b h
    exact hne j _ hjk hy (by omega)
   ·have:=(hX.uq p2).2 b h
    rcases p3 with h0|⟨h0,_⟩
    ·rw[h0]at h;cases h
    ·have:j=i2:=by omega
     subst this;exact hjk h0
 have hU:BA Γ (kill st.H ks++[.row (zR u) e sz (rows++cI)]) (yM κ id (some v')) Θ' w' ρ':=by
  refine⟨fun b hb=>?_,fun j e' sz' bG hj=>?_,fun j x hj=>?_⟩
  ·simp only[ρ']at hb
   split at hb
   ·rename_i hc
    obtain⟨zQ,hmem⟩:=hc
    obtain⟨q1,q2,q3⟩:=hq zQ
    rcases hmem with h|h
    ·exact uB.1 b (by rw[(hS.uq q1).2 b h];omega)
    ·exact uB.1 b (by rw[(hX.uq q2).2 b h];omega)
   ·exact uB.1 b hb
  ·rcases key j _ hj with⟨rfl,hy⟩|⟨_,hy|⟨hjk,hy⟩⟩
   ·cases zQ:u with
    |false=>rw[zQ]at hy;simp[zR]at hy
    |true=>
     rw[zQ]at hy
     simp only[zR,Ob.row.injEq,true_and]at hy
     obtain⟨rfl,rfl,rfl⟩:=hy
     obtain⟨q1,q2,q3⟩:=hq zQ
     refine⟨v',c1++c2,b1++b2,iN _ _ _,hown,TO,?_,fun b hb=>?_⟩
     ·obtain⟨n1,r1⟩:=hS.uq q1
      obtain⟨n2,r2⟩:=hX.uq q2
      refine List.nodup_append.2 ⟨n1,n2,fun y hy z hz hyz=>?_⟩
      subst hyz
      rcases q3 with h|⟨_,h⟩
      ·rw[h]at hz;cases hz
      ·have:=r1 y hy;have:=r2 y hz;omega
     ·simp only[ρ'];rw[if_pos ⟨zQ,List.mem_append.1 hb⟩]
   ·cases hy
   ·obtain⟨v2,cs,bs,q1,q2,q3,q4,q5⟩:=uB.2.1 j e' sz' bG (hne j _ hjk hy) hy
    exact⟨v2,cs,bs,q1,q2,q3,q4,fun b hb=>hold j _ hjk hy b (q5 b hb)⟩
  ·rcases key j _ hj with⟨rfl,hy⟩|⟨_,hy|⟨hjk,hy⟩⟩
   ·subst hy;exact SJ.yN (Ob.ZL _ _ _ _)
   ·subst hy;trivial
   ·exact(uB.2.2 j x (hne j _ hjk hy) hy).re fun b hb=>hold j _ hjk hy b hb
 have hs':bN Γ ⟨st.σ,kill st.H ks++[.row (zR u) e sz (rows++cI)]⟩ (yM κ id (some v')) Θ' a w':=by
  refine hs.step k hm hn ?_ ?_ ?_ ⟨ρ',hU⟩
  ·intro i hi
   simp only[List.length_append,List.length_cons,List.length_nil,dO]at hi
   unfold yM
   rw[if_neg (by omega)]
   exact hs.oG i (by omega)
  ·intro i y hy
   unfold yM at hy
   split at hy
   ·cases hy;exact hv1
   ·exact hs.o4 i y hy
  ·intro j y hj
   rcases key j y hj with⟨rfl,rfl⟩|⟨_,hy|⟨hjk,hy⟩⟩
   ·exact .inr (.inr ⟨hsz,hrl,v',_,_,iN _ _ _,hown,TO,FN,by cases u<;>exact VE⟩)
   ·exact .inl hy
   ·exact .inr (.inl ⟨hne j y hjk hy,hy⟩)
 refine hK _ _ (h _ _ _ _ (hs'.set (t:=t) (d:=.acc id) (bs:=[]) ht ?_ (by simp)))
 exact(yK.acc id _ (iN _ _ _)).XC
def D.pN(rows:List (List D)):Bool:=rows.all fun r=>r.all D.flat
theorem jN.flat{vs:List Value}{ds:List D}{bs:List Nat}(h:jN w vs ds bs)(hf:ds.all D.flat=true):bs=[]:=by
 induction ds generalizing vs bs with
 |nil=>cases h;rfl
 |cons d ds ih=>
  simp only[List.all_cons,Bool.and_eq_true]at hf
  cases h with
  |cons v vs _ _ b1 b2 h1 h2 h3=>rw[h2.flat hf.1,ih h3 hf.2];rfl
theorem a5a{e sz i1:Nat}{ρ:Nat→Nat}:a5Z w Θ ρ e sz (.slice none 0 0) [] true i1 [] []:=
 ⟨by simp,World.ownsRow_nil w 0 e sz,.nil,by simp,by simp[Value.ownBlock],by simp⟩
theorem O6{ρ:Nat→Nat}(hs:bN Γ st κ Θ a w)(hu:BA Γ st.H κ Θ w ρ){id e sz:Nat}{k:RK}{rows:List (List D)}{v:Value}(hk:κ id=some v)(hH:st.H[id]?=some (.row k e sz rows))(ho:k.X8=true):
 ∃bs cs,a5Z w Θ ρ e sz v rows (match k with| .uq=>true|_=>false) id bs cs:=by
 obtain⟨_,hrl,v2,cs,bs,hk2,hown,sN,hΘ,hz⟩:=hs.ob id _ hH
 rw[hk]at hk2;cases hk2
 cases k with
 |cl=>simp[RK.X8]at ho
 |sh=>exact⟨bs,cs,hrl,hown,sN,hz,hΘ,by simp⟩
 |mv n=>exact⟨bs,cs,hrl,hown,sN,hz,hΘ,by simp⟩
 |uq=>
  obtain⟨v2,c2,b2,q1,q2,q3,q4,q5⟩:=hu.rows id e sz rows hH
  rw[hk]at q1;cases q1
  exact⟨b2,c2,hrl,q2,q3,fun b hb=>(hu.free b (by rw[q5 b hb];omega)).1,hΘ,fun _=>⟨q4,q5⟩⟩
theorem ZP{ρ:Nat→Nat}(hs:bN Γ st κ Θ a w)(hu:BA Γ st.H κ Θ w ρ){id e sz:Nat}{k:RK}{rows:List (List D)}{v:Value}(hk:κ id=some v)(hH:st.H[id]?=some (.row k e sz rows))(ho:k.X8=true):
 ∃bs cs,a3u w Θ ρ sz v rows (match k with| .uq=>true|_=>false) id bs cs:=by
 obtain⟨bs,cs,h⟩:=O6 hs hu hk hH ho
 refine⟨bs,cs,h.rl,?_,h.rd,h.zero,h.uq⟩
 rcases h.own.2 with⟨rfl,hn⟩|⟨g,cap,cur,rfl,_⟩
 ·exact .inl ⟨rfl,List.eq_nil_of_length_eq_zero hn⟩
 ·exact .inr ⟨_,cap,rfl,h.own.cells (g:=g) (by simp[Value.ownBlock])⟩
theorem a5b{sz i2:Nat}{ρ:Nat→Nat}:a3u w Θ ρ sz (.slice none 0 0) [] true i2 [] []:=
 ⟨by simp,.inl ⟨rfl,rfl⟩,.nil,by simp,by simp⟩
theorem a8f{ρ:Nat→Nat}{v:Value}{rows:List (List D)}{bs:List Nat}{sz:Nat}(h:Rd w v (.sl rows) bs)(hz:∀b∈bs,Θ b=0)(hrl:∀r∈rows,r.length=sz)(i2:Nat)(fl:Bool)(hf:fl=true→D.pN rows=true):
 ∃b2 cs,a3u w Θ ρ sz v rows fl i2 b2 cs∧(fl=true→b2=[]):=by
 cases h with
 |z6=>exact⟨[],[],⟨by simp,.inl ⟨rfl,rfl⟩,.nil,by simp,by simp⟩,by simp⟩
 |mT ad cap hc=>exact⟨[],[],⟨by simp,.inr ⟨ad,cap,rfl,by simp⟩,.nil,by simp,by simp⟩,by simp⟩
 |sl b off cap sz' _ cs bs' h0 h1 h2 h3 h4 h5=>
  have hfl:fl=true→bs'=[]:=fun e=>h5.flat (by
   have:=hf e
   unfold D.pN at this
   rw[List.all_eq_true]at this⊢
   intro d hd
   obtain⟨r,hr,NW⟩:=List.mem_flatten.1 hd
   exact List.all_eq_true.1 (this r hr) d NW)
  refine⟨bs',cs,⟨hrl,.inr ⟨_,cap,rfl,fun j x hj=>?_⟩,h5,fun y hy=>hz y (by simp[hy]),fun e=>by rw[hfl e];simp⟩,hfl⟩
  have:=h4 j x hj
  simpa[Addr.add_lit]using this
end
end Go.Cx
namespace Go.Cx
set_option linter.unusedVariables false
set_option linter.unusedSimpArgs false
open Go.RowKit
section
variable{P:Program}{Γ:uK}{Q:Exit→St→Prop}{st:St}{κ:Nat→Option Value}{Θ:Nat→Nat}{a:Act}{w:World}{all:Array Oper}{rest:List Oper}
theorem fF{H:List Ob}{ms:List Nat}{j:Nat}(h:j∉ms):(kill H ms)[j]?=H[j]?:=by
 induction ms generalizing H with
 |nil=>rfl
 |cons m ms ih=>
  simp only[List.mem_cons,not_or]at h
  simp only[kill]
  rw[ih h.2,List.getElem?_set_ne (fun e=>h.1 e.symm)]
def RK.after(k:RK)(b:Bool):RK:=match k with
 | .uq=>zR b
 | .mv _=>.sh
 |k=>k
theorem RK.a3x(k:RK)(b:Bool)(e:TypeId)(sz:Nat)(rows:List (List D)):(Ob.row (k.after b) e sz rows).mvB=false:=by cases k<;>cases b<;>rfl
theorem ZQ{o:Oper}{T id i sz off e:Nat}{k0:RK}{x y:Operand}{rows:List (List D)}{row ds es:List D}{ms:List Nat}(hop:o.op=.store T x y)(hd:o.dst=none)(hg:o.guard=none)
 (hx:st.ev x=.op id i sz off) (hH:st.H[id]?=some (.row k0 e sz rows)) (hk0:k0.X8=true) (hrow:rows[i]?=some row) (hc:(st.ev y).cellsOf=some ds) (habs:QT st.H ds=some (es,ms)) (hnd:ms.Nodup) (hid:id∉ms)
 (hT:XJ P T=true) (hl:ds.length=A6 P T) (hfit:off+ds.length≤sz)
 (h:AO P Γ all rest Q ⟨st.σ,(kill st.H ms).set id (.row (k0.after (ds.all (uqC st.H))) e sz (rows.set i (row.take off++es++row.drop (off+ds.length))))⟩):AO P Γ all (o::rest) Q st:=by
 intro κ Θ0 a w hs0
 obtain⟨b1,r1,_⟩:=hs0.ev x
 obtain⟨b20,r2,aFa⟩:=hs0.ev y
 rw[hx]at r1
 obtain⟨g,o0,len,cap,hk,hv⟩:=r1.FJ
 have hcv:=CB hs0.o4 r2 hc
 obtain⟨ρ0,hu0⟩:=hs0.tC
 obtain⟨Θ,ρ,hs,hu,hm1,ZK,hr1⟩:=bN.ZJ ms hs0 hu0 hnd (ZN habs)
 obtain⟨b2,hcp,hz2,NX⟩:=a1M (H:=st.H) (ρ:=ρ) habs hnd hcv (fun b hb=>ZK b (aFa b hb)) hm1
 have hH1:(kill st.H ms)[id]?=some (.row k0 e sz rows):=by rw[fF hid];exact hH
 obtain⟨bs,cs,hA⟩:=O6 hs hu hk hH1 hk0
 have hrl:=hA.rl
 have hown:=hA.own
 have ho0:=D7 hown
 subst ho0
 rw[Nat.zero_add]at hv
 have sN:=hA.rd
 have hsz:0<sz:=by
  obtain⟨hsz,_⟩:=hs.ob id _ hH1
  exact hsz
 rcases hown.2 with⟨rD,_⟩|⟨g',cap2,cur,hkv,hb,XH,hnc,hcm,hcs,ZR⟩
 ·cases rD
 ·cases hkv
  have XO:=hA.top g (by simp[Value.ownBlock])
  have hl1:=hcv.length
  have hle:es.length=ds.length:=by rw[←hcp.length,hl1]
  have hilt:i<rows.length:=(List.getElem?_eq_some_iff.1 hrow).1
  have aBD:(i+1)*sz≤rows.length*sz:=Nat.mul_le_mul_right _ hilt
  have aI3:rows.length*sz≤cap*sz:=Nat.mul_le_mul_right _ hnc
  rw[Nat.add_mul,Nat.one_mul]at aBD
  have aBE:(a.eval y).cells.size=A6 P T:=by rw[←hl,←hl1];simp
  have aI4:(a.eval y).cells.size=ds.length:=by rw[←hl1];simp
  have hst:=FO (P:=P) (T:=T) (off:=i*sz+off) XH aBE (Option.isSome_iff_exists.1 hT) (by omega) hcv.one
  have k:=fD.setRow hs (g:=g) (cs:=(cur.toList.take (i*sz+off)++(a.eval y).cells.toList++cur.toList.drop (i*sz+off+(a.eval y).cells.toList.length)).toArray) (tag:=id+2) (by omega) XO
  refine wpList_plain hg fun K hK=>?_
  unfold Oper.wp
  have hrun:(execOp a.eval o).run P w=.ok .skip (w.setRow g (cur.toList.take (i*sz+off)++(a.eval y).cells.toList++cur.toList.drop (i*sz+off+(a.eval y).cells.toList.length)).toArray):=by
   simp only[execOp,hop,hv]
   simp[hst]
  rw[hrun,Oper.upon_skip,hd]
  have hfl:=mW hrl
  have e0:rows.flatten=rows.flatten.take (i*sz+off)++((rows.flatten.drop (i*sz+off)).take ds.length++(rows.flatten.drop (i*sz+off)).drop ds.length):=by rw[List.take_append_drop,List.take_append_drop]
  rw[e0]at sN
  obtain⟨v1,v2,c1,c2,TI,FM,k1,k2⟩:=sN.split
  obtain⟨v3,v4,c3,c4,rfl,rfl,k3,k4⟩:=k2.split
  have l1:v1.length=i*sz+off:=by rw[k1.length,List.length_take];omega
  have l3:v3.length=ds.length:=by rw[k3.length,List.length_take,List.length_drop];omega
  rw[List.drop_drop]at k4
  have hnew:=(k1.app hcp).app k4
  have VE:∀b∈((c1++b2)++c4),Θ b=0:=by
   intro b hb
   simp only[List.mem_append]at hb
   rcases hb with(hb|hb)|hb
   ·exact hA.zero b (by rw[FM];simp[hb])
   ·exact hz2 b hb
   ·exact hA.zero b (by rw[FM];simp[hb])
  obtain⟨n1,n2⟩:=jN.over k hnew VE
  have hfs:=FP (ds:=es) (off:=off) hrl hrow (by omega)
  rw[hle]at hfs
  rw[←hfs]at n1
  have a5c:cs.length=rows.length*sz:=hown.1
  have aD8:cur.toList=v1++(v3++(v4++cur.toList.drop (rows.length*sz))):=by
   have:cur.toList=cs++cur.toList.drop (rows.length*sz):=by rw[←ZR,List.take_append_drop]
   rw[TI]at this
   simpa using this
  have t1:cur.toList.take (i*sz+off)=v1:=by rw[aD8];exact List.take_left' l1
  have t2:cur.toList.drop (i*sz+off+(a.eval y).cells.toList.length)=v4++cur.toList.drop (rows.length*sz):=by
   rw[hl1,←List.drop_drop]
   conv=>lhs;rw[aD8]
   rw[List.drop_left' l1,List.drop_left' l3]
  have hl4:(v1++(a.eval y).cells.toList++v4).length=rows.length*sz:=by
   have:=a5c
   rw[TI]at this
   simp only[List.length_append]at this⊢
   omega
  have O7:(w.setRow g (cur.toList.take (i*sz+off)++(a.eval y).cells.toList++cur.toList.drop (i*sz+off+(a.eval y).cells.toList.length)).toArray).ownsRow 0 e sz (.slice (some ⟨g,0,none⟩) rows.length cap)
   (rows.set i (row.take off++es++row.drop (off+ds.length))).length (v1++(a.eval y).cells.toList++v4):=by
   refine⟨by simpa using hl4,.inr ⟨g,cap,_,by simp,hb,setRow_heap w g cur _ e _ XH,by simpa using hnc,hcm,?_,?_⟩⟩
   ·simp only[List.size_toArray,List.length_append,List.length_take,List.length_drop,Array.length_toList]
    omega
   ·rw[t1,t2]
    simp only[List.length_set]
    rw[←List.append_assoc]
    exact List.take_left' hl4
  have SN:∀r∈rows.set i (row.take off++es++row.drop (off+ds.length)),r.length=sz:=by
   intro r hr
   rcases List.mem_or_eq_of_mem_set hr with hr|rfl
   ·exact hrl r hr
   ·have:=hrl row (List.mem_of_getElem? hrow)
    simp;omega
  have FN:∀g2,(Value.slice (some ⟨g,0,none⟩) rows.length cap).ownBlock=some g2→Θ g2=id+2:=by
   intro g2 hg2
   simp only[Value.ownBlock,Option.some.injEq]at hg2
   subst hg2
   exact XO
  refine hK _ _ (h _ _ _ _ (hs.put ms zS (fun _ _ h=>h) (fun i hi=>hs.oG i (by simpa using hi)) hs.o4 k hs.mine ?_ hu ?_ ?_ (RK.a3x _ _ _ _ _)))
  ·refine⟨hsz,SN,_,_,_,hk,O7,n1,FN,?_⟩
   cases k0 with
   |cl=>simp[RK.X8]at hk0
   |sh=>exact n2
   |mv n=>exact n2
   |uq=>simp only[RK.after];cases(ds.all (uqC st.H))<;>exact n2
  ·intro m hm x _ LF
   rcases rE LF with h|⟨h,_⟩
   ·subst h;rfl
   ·exact absurd hm h
  ·intro e' sz' bG he
   cases k0 with
   |cl=>simp[RK.X8]at hk0
   |sh=>simp[RK.after]at he
   |mv n=>simp[RK.after]at he
   |uq=>
    simp only[RK.after]at he
    cases hq:ds.all (uqC st.H)with
    |false=>rw[hq]at he;simp[zR]at he
    |true=>
     rw[hq]at he
     simp only[zR,Ob.row.injEq,true_and]at he
     obtain⟨rfl,rfl,rfl⟩:=he
     obtain⟨q1,q2⟩:=NX hq
     obtain⟨p1,p2⟩:=hA.uq rfl
     rw[FM]at p1 p2
     obtain⟨m1,m2,m3⟩:=List.nodup_append.1 p1
     obtain⟨m4,m5,m6⟩:=List.nodup_append.1 m2
     refine⟨_,_,_,hk,O7,n1,?_,fun b hb=>?_⟩
     ·refine List.nodup_append.2 ⟨List.nodup_append.2 ⟨m1,q1,fun x hx y hy e=>?_⟩,m5,fun x hx y hy e=>?_⟩
      ·subst e
       obtain⟨m,hm,he⟩:=q2 x hy
       have:=p2 x (by simp[hx])
       exact hid (by
        have:id=m:=by omega
        rw[this];exact hm)
      ·subst e
       rcases List.mem_append.1 hx with hx|hx
       ·exact m3 x hx x (by simp[hy]) rfl
       ·obtain⟨m,hm,he⟩:=q2 x hx
        have:=p2 x (by simp[hy])
        exact hid (by
         have:id=m:=by omega
         rw[this];exact hm)
     ·simp only[List.mem_append]at hb
      rcases hb with(hb|hb)|hb
      ·exact .inl (p2 b (by simp[hb]))
      ·exact .inr (q2 b hb)
      ·exact .inl (p2 b (by simp[hb]))
end
end Go.Cx
