/- The core of an abstract reading of Go's data: what a value shows in memory (D), which blocks it uses, and that this stays where those blocks stay. No condition; plain lemmas. -/
import Derived.WalkKit
import Derived.ProofKit
import Derived.Deep.LoopGhost
import Derived.MapKept
import Derived.Great.BuildSlice
import Derived.Maps.AppendAt
set_option linter.unusedVariables false
set_option linter.unusedSimpArgs false
namespace Go.Cx
open Go.RowKit
set_option linter.defProp false
def aA:=@Option.bind_some
def aD:=@List.mem_of_getElem?
def aE:=@List.getElem?_eq_some_iff
def aI:=@cond_true
def aT:=@List.length_cons
def aV:=@List.getElem?_eq_getElem
def aW:=@cond_false
def aY:=@Bool.and_eq_true
def aZ:=@List.mem_append
def ah:=@Option.some.injEq
def aj:=@List.all_eq_true
def aq:=@List.getElem?_append_left
def ar:=@List.length_map
def av:=@List.length_append
def ax:=@List.getElem?_append_right
def ay:=@of_decide_eq_true
def az:=@Array.getElem?_eq_some_iff
def b8:=@List.map_append
def b9:=@if_neg
def bB:=@decide_eq_true
def bC:=@List.map_cons
def bD:=@List.nodup_append
def bG:=@decide_eq_false
def bH:=@List.mem_cons
def bK:=@decide_eq_true_eq
def bL:=@Nat.le_refl
def bN:=@if_pos
def bU:=@List.getElem?_map
def bV:=@List.mem_range
def bW:=@List.length_nil
def bX:=@List.map_drop
def bY:=@List.map_take
def bf:=@List.map_nil
def bg:=@Bool.eq_iff_iff
def bn:=@Bool.not_true
def bq:=@List.mem_flatMap
def bt:=@List.mem_filterMap
def bu:=@List.getElem?_set_ne
def bw:=@Array.getD_eq_getD_getElem?
def bz:=@List.take_append_drop
def cB:=@List.getElem?_eq_none
def cD:=@List.mem_of_mem_take
def cE:=@Array.getElem?_eq_getElem
def cF:=@List.length_take
def cG:=@List.getElem?_take
def cI:=@Option.map_some
def cJ:=@List.mem_map
def cK:=@Prod.mk.injEq
def cM:=@List.eq_nil_of_length_eq_zero
def cP:=@List.any_eq_true
def cQ:=@beq_iff_eq
def cT:=@beq_eq_false_iff_ne
def cY:=@List.append_assoc
def cZ:=@List.mem_singleton
def cm:=@List.foldl_cons
def cq:=@Nat.add_sub_cancel_left
def cu:=@Classical.byContradiction
def cv:=@Nat.zero_add
def cy:=@List.length_singleton
def cz:=@Nat.lt_of_lt_of_le
def dD:=@List.getElem?_set_self
def dF:=@Bool.not_false
def dG:=@Nat.mul_le_mul_right
def dJ:=@List.mem_reverse
def dK:=@Nat.le_trans
def dM:=@List.nil_append
def dS:=@Nat.mul_le_mul_left
def dX:=@Nat.lt_or_ge
def dh:=@List.all_cons
def di:=@List.getElem?_of_mem
def dl:=@List.mem_iff_getElem
def dw:=@Option.isSome_iff_exists
def eA:=@List.append_nil
def eC:=@List.flatten_cons
def eG:=@Array.getElem?_append_left
def eH:=@List.getElem?_drop
def ed:=@List.nodup_cons
def eg:=@Nat.min_eq_left
def ei:=@List.flatMap_cons
def fL:=@List.drop_left'
def fM:=@List.getElem?_cons_succ
def fN:=@List.mem_flatten
def fX:=@List.getElem?_set
def gE:=@List.drop_drop
def gF:=@List.mem_filter
def gG:=@Array.toList_map
def gU:=@Nat.add_mul
def gw:=@List.take_left'
def ij:=@List.getElem?_toArray
def iw:=@Bool.true_and
def jN:=@Array.toArray_toList
def jO:=@List.mem_of_mem_drop
def jt:=@List.getD_eq_getElem?_getD
def ju:=@Option.mem_toList
def kM:=@Array.toList_append
def kN:=@List.flatten_append
def kz:=@Array.mapM_eq_mapM_toList
def lD:=@List.getElem_mem
def lE:=@List.pairwise_cons
def lm:=@List.getLast?_concat
def lq:=@Nat.one_mul
def mG:=@Int.eq_ofNat_of_zero_le
def mH:=@Int.toNat_natCast
def mI:=@List.ext_getElem?
def mJ:=@Option.bind_eq_some_iff
def mV:=@Bool.or_eq_true
def me:=@List.map_congr_left
def n8:=@Nat.add_assoc
def nH:=@List.map_toArray
def ng:=@Nat.le_of_ble_eq_true
def nj:=@List.length_set
def o5:=@Bool.not_eq_true'
def o6:=@Nat.sub_self
def oQ:=@List.length_erase_of_mem
def oc:=@if_true
def om:=@Array.toList_inj
def oo:=@List.cons_append
def oq:=@decide_eq_false_iff_not
def pT:=@Array.getElem?_eq_none
def pU:=@List.take_of_length_le
def pV:=@Ne.symm
def qD:=@Option.some.inj
def qE:=@true_and
def qd:=@Bool.false_or
def qe:=@Bool.or_false
def qn:=@Array.getElem?_toList
def qo:=@List.set_append_right
def rF:=@List.take_take
def rG:=@Nat.pow_le_pow_right
def rV:=@Option.getD_some
def rW:=@beq_self_eq_true
def s5:=@List.drop_eq_getElem_cons
def s6:=@List.exists_mem_of_ne_nil
def s7:=@List.mem_or_eq_of_mem_set
def sE:=@Array.length_toList
def sF:=@List.take_succ_cons
def sr:=@Nat.not_lt_zero
def tB:=@Array.all_eq_true'
def tC:=@Nat.lt_or_gt_of_ne
def tj:=@List.drop_eq_nil_of_le
def tq:=@List.size_toArray
def tr:=@Nat.lt_trichotomy
def tu:=@Nat.pow_succ
def tv:=@Nat.sub_zero
def uS:=@Array.getElem?_modify
def uT:=@List.concat_eq_append
def uU:=@List.eq_nil_or_concat
def uf:=@Bool.not_eq_true
def ug:=@List.eq_nil_iff_forall_not_mem
def uh:=@List.length_drop
def uj:=@eq_iff_iff
def v7:=@List.any_cons
def vC:=@List.Pairwise.filter
def ve:=@Option.map_none
def w8:=@List.filterMap_cons
def wL:=@Nat.add_zero
def wm:=@Array.getElem_append_right
def wo:=@Bool.and_false
def wq:=@Bool.false_eq_true
def wu:=@List.filter_filter
def wv:=@Nat.add_sub_cancel
def wz:=@if_false
def xx:=@Array.getElem_append_left
def yG:=@List.filter_congr
def yW:=@Bool.and_true
def yX:=@List.eq_of_mem_replicate
def yY:=@List.getElem?_take_of_lt
def z6:=@List.getElem?_cons_zero
def z7:=@List.nodup_range
def z8:=@Nat.le_mul_of_pos_right
def zk:=@Int.le_of_lt
def zl:=@Int.le_trans
def zm:=@List.drop_of_length_le
def zn:=@List.getElem_cons_drop
def zo:=@List.length_pos_of_mem
def zq:=@Nat.mul_comm
def zu:=@Option.map_eq_some_iff
def Ac:=@Int.ediv_nonneg
def Ap:=@Bool.and_eq_false_iff
def Aq:=@List.length_filter_le
def As:=@List.length_replicate
def Au:=@List.pairwise_flatMap
def Av:=@List.singleton_append
def Aw:=@UInt8.lt_iff_toNat_lt
def BU:=@List.drop_zero
def BV:=@List.mapM_cons
def BW:=@Nat.zero_le
def BX:=@Prod.mk.inj
def BY:=@not_or
def Dy:=@Nat.mul_assoc
def FG:=@List.all_map
def FH:=@List.any_nil
def FI:=@Nat.succ_mul
abbrev Bytes:=List UInt8
inductive D where
 |any
 |nil
 |int (k:IntKind) (n:Int)
 |bool (b:Bool)
 |str (s:Bytes)
 |sl (rows:List (List D))
 |agg (cells:List D)
 |iK (vs:List D)
 |ep (row:List D) (off:Nat)
 |acc (id:Nat)
 |ptr (id off:Nat)
 |op (id i sz off:Nat)
 |val (v:Value)
 |fr (e:TypeId) (sz:Nat) (rows:List (List D))
 |pt (cells:List D)
 |Xq (b:Bool)
def nS(k:IntKind)(n:Int):Prop:=k.min<=n/\n<=k.max
instance (k:IntKind) (n:Int):Decidable (nS k n):=by unfold nS;infer_instance
theorem nS.wrap(k:IntKind)(n:Int):nS k (k.wrap n):=by
 unfold nS;cases k<;>simp[IntKind.min,IntKind.max,IntKind.wrap,IntKind.bits,IntKind.signed]<;>(try split)<;>omega
theorem nS.i64{n:Int}:nS .i64 n↔ -9223372036854775808<=n/\n<=9223372036854775807:=by
 simp[nS,IntKind.min,IntKind.max,IntKind.bits,IntKind.signed]
theorem nS.u8{n:Int}:nS .u8 n↔0<=n/\n<=255:=by
 simp[nS,IntKind.min,IntKind.max,IntKind.bits,IntKind.signed]
theorem nS.zero(k:IntKind):nS k 0:=by
 unfold nS;cases k<;>simp[IntKind.min,IntKind.max,IntKind.bits,IntKind.signed]
theorem nS.down{k:IntKind}{n m:Int}(h:nS k n)(h0:0<=m)(h1:m<=n):nS k m:=
 ⟨zl (nS.zero k).1 h0,zl h1 h.2⟩
mutual
inductive Rd(w:World):Value->D->List Nat->Prop
 |any (v:Value):Rd w v .any []
 |nil:Rd w (.slice none 0 0) .nil []
 |int (k:IntKind) (n:Int):nS k n->Rd w (.int k n) (.int k n) []
 |bool (b:Bool):Rd w (.bool b) (.bool b) []
 |str (s:ByteArray):s.size<=maxLen->Rd w (.string s) (.str s.data.toList) []
 |val (v:Value):Rd w v (.val v) []
 |vW:Rd w (.slice none 0 0) (.sl []) []
 |mT (a:Addr) (cap:Nat):cap<=maxLen->Rd w (.slice (some a) 0 cap) (.sl []) []
 |sl (b off cap sz:Nat) (rows:List (List D)) (cs:List Value) (bs:List Nat):b<w.heap.size->rows.length<=cap->cap<=maxLen->
  (∀r∈rows,r.length=sz)->(∀j c,cs[j]?=some c->w.cell? ⟨b,off+j,none⟩=some c)->jv w cs rows.flatten bs->
  Rd w (.slice (some ⟨b,off,none⟩) rows.length cap) (.sl rows) (b::bs)
 |agg (cs:List Value) (ds:List D) (bs:List Nat):jv w cs ds bs->Rd w (.agg cs.toArray) (.agg ds) bs
 |ep (b off:Nat) (cs:List Value) (row:List D) (o:Nat) (bs:List Nat):b<w.heap.size->(∀j c,cs[j]?=some c->w.cell? ⟨b,off+j,none⟩=some c)->
  jv w cs row bs->Rd w (.pointer (some ⟨b,off+o,none⟩)) (.ep row o) (b::bs)
 |RM:Rd w .nilIface (.Xq false) []
 |RN (t:TypeId) (v:Value):Rd w (.iface t v) (.Xq true) []
inductive jv(w:World):List Value->List D->List Nat->Prop
 |nil:jv w [] [] []
 |cons (v:Value) (vs:List Value) (d:D) (ds:List D) (b1 b2:List Nat):v.oneCell'=true->Rd w v d b1->jv w vs ds b2->jv w (v::vs) (d::ds) (b1++b2)
end
section
variable{w w':World}
theorem zC{b o:Nat}(h:w'.heap[b]?=w.heap[b]?):w'.cell? ⟨b,o,none⟩=w.cell? ⟨b,o,none⟩:=World.cell?_of_block (a:=⟨b,o,none⟩) h
theorem GP{b:Nat}(hb:b<w.heap.size)(h:w'.heap[b]?=w.heap[b]?):b<w'.heap.size:=by
 rw[cE hb]at h;exact(az.1 h).1
theorem Kr:
 (∀ {v d bs},Rd w v d bs->(∀b∈bs,w'.heap[b]?=w.heap[b]?)->Rd w' v d bs)/\
 (∀ {vs ds bs},jv w vs ds bs->(∀b∈bs,w'.heap[b]?=w.heap[b]?)->jv w' vs ds bs):=by
 have key:∀(m1:∀v d bs,Rd w v d bs->Prop) (m2:∀vs ds bs,jv w vs ds bs->Prop),
  m1=(fun v d bs _=>(∀b∈bs,w'.heap[b]?=w.heap[b]?)->Rd w' v d bs)->m2=(fun vs ds bs _=>(∀b∈bs,w'.heap[b]?=w.heap[b]?)->jv w' vs ds bs)->
  (∀v d bs h,m1 v d bs h)/\(∀vs ds bs h,m2 vs ds bs h):=by
  intro m1 m2 e1 e2;subst e1;subst e2;constructor
  all_goals intro v d bs h
  ·refine Rd.rec (motive_1:=fun v d bs _=>(∀b∈bs,w'.heap[b]?=w.heap[b]?)->Rd w' v d bs) (motive_2:=fun vs ds bs _=>(∀b∈bs,w'.heap[b]?=w.heap[b]?)->jv w' vs ds bs) ?_ ?_ ?_ ?_ ?_ ?_ ?_ ?_ ?_ ?_ ?_ ?_ ?_ ?_ ?_ h
   ·intro v _;exact .any _
   ·intro _;exact .nil
   ·intro k n h _;exact .int _ _ h
   ·intro b _;exact .bool _
   ·intro s h _;exact .str _ h
   ·intro v _;exact .val _
   ·intro _;exact .vW
   ·intro a cap h _;exact .mT a cap h
   ·intro b off cap sz rows cs bs h0 h1 h2 h3 h4 _ ih hb;exact .sl b off cap sz rows cs bs (GP h0 (hb b (by simp))) h1 h2 h3 (fun j c hc=>(zC (hb b (by simp))).trans (h4 j c hc)) (ih (fun x hx=>hb x (by simp[hx])))
   ·intro cs ds bs _ ih hb;exact .agg cs ds bs (ih hb)
   ·intro b off cs row o bs h0 h4 _ ih hb;exact .ep b off cs row o bs (GP h0 (hb b (by simp))) (fun j c hc=>(zC (hb b (by simp))).trans (h4 j c hc)) (ih (fun x hx=>hb x (by simp[hx])))
   ·intro _;exact .RM
   ·intro t v _;exact .RN t v
   ·intro _;exact .nil
   ·intro v vs d ds b1 b2 h1 _ _ ih1 ih2 hb;exact .cons v vs d ds b1 b2 h1 (ih1 (fun x hx=>hb x (by simp[hx]))) (ih2 (fun x hx=>hb x (by simp[hx])))
  ·refine jv.rec (motive_1:=fun v d bs _=>(∀b∈bs,w'.heap[b]?=w.heap[b]?)->Rd w' v d bs) (motive_2:=fun vs ds bs _=>(∀b∈bs,w'.heap[b]?=w.heap[b]?)->jv w' vs ds bs) ?_ ?_ ?_ ?_ ?_ ?_ ?_ ?_ ?_ ?_ ?_ ?_ ?_ ?_ ?_ h
   ·intro v _;exact .any _
   ·intro _;exact .nil
   ·intro k n h _;exact .int _ _ h
   ·intro b _;exact .bool _
   ·intro s h _;exact .str _ h
   ·intro v _;exact .val _
   ·intro _;exact .vW
   ·intro a cap h _;exact .mT a cap h
   ·intro b off cap sz rows cs bs h0 h1 h2 h3 h4 _ ih hb;exact .sl b off cap sz rows cs bs (GP h0 (hb b (by simp))) h1 h2 h3 (fun j c hc=>(zC (hb b (by simp))).trans (h4 j c hc)) (ih (fun x hx=>hb x (by simp[hx])))
   ·intro cs ds bs _ ih hb;exact .agg cs ds bs (ih hb)
   ·intro b off cs row o bs h0 h4 _ ih hb;exact .ep b off cs row o bs (GP h0 (hb b (by simp))) (fun j c hc=>(zC (hb b (by simp))).trans (h4 j c hc)) (ih (fun x hx=>hb x (by simp[hx])))
   ·intro _;exact .RM
   ·intro t v _;exact .RN t v
   ·intro _;exact .nil
   ·intro v vs d ds b1 b2 h1 _ _ ih1 ih2 hb;exact .cons v vs d ds b1 b2 h1 (ih1 (fun x hx=>hb x (by simp[hx]))) (ih2 (fun x hx=>hb x (by simp[hx])))
 obtain⟨k1,k2⟩:=key _ _ rfl rfl;exact⟨fun h=>k1 _ _ _ h,fun h=>k2 _ _ _ h⟩
theorem Rd.keep{v:Value}{d:D}{bs:List Nat}(h:Rd w v d bs)(hb:∀b∈bs,w'.heap[b]?=w.heap[b]?):Rd w' v d bs:=Kr.1 h hb
theorem jv.keep{vs:List Value}{ds:List D}{bs:List Nat}(h:jv w vs ds bs)(hb:∀b∈bs,w'.heap[b]?=w.heap[b]?):jv w' vs ds bs:=Kr.2 h hb
theorem Rd.lt{v:Value}{d:D}{bs:List Nat}(h:Rd w v d bs):∀b∈bs,b<w.heap.size:=by
 refine Rd.rec (motive_1:=fun v d bs _=>∀b∈bs,b<w.heap.size) (motive_2:=fun vs ds bs _=>∀b∈bs,b<w.heap.size) ?_ ?_ ?_ ?_ ?_ ?_ ?_ ?_ ?_ ?_ ?_ ?_ ?_ ?_ ?_ h
 case refine_9=>
  intro b off cap sz rows cs bs h0 h1 h2 h3 h4 _ ih x hx;rcases bH.1 hx with rfl|hx
  ·exact h0
  ·exact ih x hx
 case refine_10=>intro cs ds bs _ ih;exact ih
 case refine_11=>
  intro b off cs row o bs h0 h4 _ ih x hx;rcases bH.1 hx with rfl|hx
  ·exact h0
  ·exact ih x hx
 case refine_15=>
  intro v vs d ds b1 b2 h1 _ _ ih1 ih2 x hx;rcases aZ.1 hx with hx|hx
  ·exact ih1 x hx
  ·exact ih2 x hx
 all_goals intros;simp_all
theorem jv.lt{vs:List Value}{ds:List D}{bs:List Nat}(h:jv w vs ds bs):∀b∈bs,b<w.heap.size:=by
 induction ds generalizing vs bs with
 |nil=>cases h;simp
 |cons d ds ih=>
  cases h with
  |cons v vs _ _ b1 b2 h1 h2 h3=>
   intro x hx;rcases aZ.1 hx with hx|hx
   ·exact h2.lt x hx
   ·exact ih h3 x hx
theorem jv.length{vs:List Value}{ds:List D}{bs:List Nat}(h:jv w vs ds bs):vs.length=ds.length:=by
 induction ds generalizing vs bs with
 |nil=>cases h;rfl
 |cons d ds ih=>cases h with|cons v vs _ _ b1 b2 h1 h2 h3=>simp[ih h3]
theorem jv.one{vs:List Value}{ds:List D}{bs:List Nat}(h:jv w vs ds bs):∀v∈vs,v.oneCell'=true:=by
 induction ds generalizing vs bs with
 |nil=>cases h;simp
 |cons d ds ih=>
  cases h with
  |cons v vs _ _ b1 b2 h1 h2 h3=>
   intro u hu;rcases bH.1 hu with rfl|hu
   ·exact h1
   ·exact ih h3 u hu
theorem jv.app{vs us:List Value}{ds es:List D}{bs cs:List Nat}(h:jv w vs ds bs)(k:jv w us es cs):jv w (vs++us) (ds++es) (bs++cs):=by
 induction ds generalizing vs bs with
 |nil=>cases h;simpa using k
 |cons d ds ih=>
  cases h with
  |cons v vs _ _ b1 b2 h1 h2 h3=>
   rw[cY];exact .cons _ _ _ _ _ _ h1 h2 (ih h3)
theorem jv.split{vs:List Value}{ds es:List D}{bs:List Nat}(h:jv w vs (ds++es) bs):
 ∃v1 v2 b1 b2,vs=v1++v2/\bs=b1++b2/\jv w v1 ds b1/\jv w v2 es b2:=by
 induction ds generalizing vs bs with
 |nil=>exact⟨[],vs,[],bs,by simp,by simp,.nil,h⟩
 |cons d ds ih=>
  cases h with
  |cons v vs _ _ b1 b2 h1 h2 h3=>
   obtain⟨v1,v2,c1,c2,rfl,rfl,k1,k2⟩:=ih h3;exact⟨v::v1,v2,b1++c1,c2,by simp,by simp,.cons _ _ _ _ _ _ h1 h2 k1,k2⟩
theorem jv.mid{vs:List Value}{ds:List D}{bs:List Nat}(h:jv w vs ds bs)(i n:Nat):
 ∃b,jv w ((vs.drop i).take n) ((ds.drop i).take n) b/\∀x∈b,x∈bs:=by
 have e:ds=ds.take i++((ds.drop i).take n++(ds.drop i).drop n):=by rw[bz,bz]
 rw[e]at h;obtain⟨v1,v2,b1,b2,rfl,rfl,k1,k2⟩:=h.split;obtain⟨v3,v4,b3,b4,rfl,rfl,k3,k4⟩:=k2.split;refine⟨b3,?_,by intro x hx;simp[hx]⟩;have l1:=k1.length;have l3:=k3.length;by_cases hi:i<=ds.length
 ·have h1:v1.length=i:=by rw[l1];simp[hi]
  rw[fL h1];by_cases hn:n<=(ds.drop i).length
  ·have h3:v3.length=n:=by rw[l3,cF];omega
   rw[gw h3];exact k3
  ·have h4:v4.length=0:=by rw[k4.length];simp at hn⊢;omega
   have h4':v4=[]:=cM h4;subst h4';have h3:v3.length<=n:=by rw[l3,cF];omega
   simp only[eA];rw[pU h3];exact k3
 ·have h5:ds.drop i=[]:=tj (by omega);rw[h5]at k3 k4⊢;simp only[List.take_nil,List.drop_nil]at k3 k4⊢;cases k3;cases k4;have h1:v1.length<=i:=by rw[l1];simp;omega
  simp[zm h1];exact .nil
theorem jv.at{vs:List Value}{ds:List D}{bs:List Nat}(h:jv w vs ds bs){i:Nat}{d:D}(hd:ds[i]?=some d):
 ∃v b,vs[i]?=some v/\v.oneCell'=true/\Rd w v d b/\∀x∈b,x∈bs:=by
 induction ds generalizing vs bs i with
 |nil=>simp at hd
 |cons e ds ih=>
  cases h with
  |cons v vs _ _ b1 b2 h1 h2 h3=>
   cases i with
   |zero=>simp at hd;subst hd;exact⟨v,b1,by simp,h1,h2,by intro x hx;simp[hx]⟩
   |succ i=>
    simp at hd;obtain⟨u,b,k1,k2,k3,k4⟩:=ih h3 hd;exact⟨u,b,by simpa using k1,k2,k3,fun x hx=>by simp[k4 x hx]⟩
end
theorem nG{α:Type}{rows:List (List α)}{sz:Nat}(h:∀r∈rows,r.length=sz):rows.flatten.length=rows.length*sz:=by
 induction rows with
 |nil=>simp
 |cons r rows ih=>
  simp only[eC,av,aT];rw[ih (fun x hx=>h x (by simp[hx])),h r (by simp),gU];omega
theorem CK{α:Type}{rows:List (List α)}{sz:Nat}(h:∀r∈rows,r.length=sz){i:Nat}{r:List α}(hr:rows[i]?=some r):
 (rows.flatten.drop (i*sz)).take sz=r:=by
 induction rows generalizing i with
 |nil=>simp at hr
 |cons s rows ih=>
  have hs:=h s (by simp);cases i with
  |zero=>
   simp at hr;subst hr;simp only[Nat.zero_mul,BU,eC];exact gw hs
  |succ i=>
   simp only[fM]at hr;have:=ih (fun x hx=>h x (by simp[hx])) hr;rw[eC,gU,lq,Nat.add_comm,<-gE,fL hs];exact this
end Go.Cx
namespace Go.Cx
open Go.RowKit
abbrev aF:=List Bytes
abbrev aL:=List D
abbrev aS:=List Nat
abbrev bJ:=List Int
abbrev bp:=List Value
def vZ:List (Nat×(bp->Prop)):=[(2,fun cs:bp=>cs=[.int .u64 1,.int .u64 10,.int .u64 100,.int .u64 1000,.int .u64 10000,.int .u64 100000,.int .u64 1000000,.int .u64 10000000,.int .u64 100000000,.int .u64 1000000000,.int .u64 10000000000,.int .u64 100000000000,.int .u64 1000000000000,.int .u64 10000000000000,.int .u64 100000000000000,.int .u64 1000000000000000,.int .u64 10000000000000000,.int .u64 100000000000000000,.int .u64 1000000000000000000,.int .u64 10000000000000000000]),(3,fun cs:bp=>∃tp p,cs=[Value.iface tp p]),(0,fun cs:bp=>cs=([[32,61,32],[32,33,61,32],[32,60,32]]:aF).map fun b=>Value.string ⟨b.toArray⟩)]
def VsB(w:World)(B:Nat->Prop):Prop:=∀x∈vZ,B x.1/\∃cs t z,w.heap[x.1]?=some (.cells cs t z)/\x.2 cs.toList
def K9(w:World)(X:Nat->Prop):Prop:=∃B:Nat->Prop,VsB w B/\∀b,B b->b<w.heap.size/\¬X b
def Ii:List (Nat×aL):=[(0,([[32,61,32],[32,33,61,32],[32,60,32]]:aF).map D.str)]
def XX(g:Nat)(ds:aL):Prop:=∃p,(g,p)∈vZ/\∀cs:bp,p cs->∀(o:Nat) d,ds[o]?=some d->∃v,cs[o]?=some v/\∀w,Rd w v d []
theorem Rs{xs:aF}(hx:∀x∈xs,x.length<=maxLen){o:Nat}{d:D}(h:(xs.map D.str)[o]?=some d):∃v,(xs.map fun b=>Value.string ⟨b.toArray⟩)[o]?=some v/\∀w,Rd w v d []:=by
 rw[bU]at h;cases hb:xs[o]? with
 |none=>rw[hb]at h;cases h
 |some b=>
  rw[hb]at h;cases h;refine⟨_,by rw[bU,hb];rfl,fun w=>?_⟩;have:=Rd.str (w:=w) ⟨b.toArray⟩ (by have:=hx b (aD hb);simpa[ByteArray.size]using this);simpa using this
theorem PU:∀x∈Ii,XX x.1 x.2:=by intro x hx;simp only[Ii,cZ]at hx;subst hx;exact⟨_,aD (i:=2) rfl,fun cs hcs o d hd=>by subst hcs;exact Rs (by decide) hd⟩
def L9(g o:Nat):Option D:=(Ii.find? fun x=>x.1==g).bind fun x=>x.2[o]?
theorem V4{g o:Nat}{d:D}(h:L9 g o=some d):∃ds,XX g ds/\ds[o]?=some d:=by
 unfold L9 at h;cases hf:Ii.find? fun x=>x.1==g with
 |none=>rw[hf]at h;cases h
 |some x=>
  rw[hf,aA]at h;have h1:=List.find?_some hf;have h2:=List.mem_of_find?_eq_some hf;have e:x.1=g:=by simpa using h1
  exact⟨x.2,by rw[<-e];exact PU x h2,h⟩
theorem VsB.stays{w w':World}{B:Nat->Prop}(h:VsB w B)(hb:∀b,B b->w'.heap[b]?=w.heap[b]?):VsB w' B:=fun x hx=>by
 obtain⟨h1,cs,t,z,h2,h3⟩:=h x hx;exact⟨h1,cs,t,z,by rw[hb _ h1,h2],h3⟩
theorem K9.cells{w:World}{X:Nat->Prop}(h:K9 w X){g:Nat}{p:bp->Prop}(hx:(g,p)∈vZ):∃cs t z,w.heap[g]?=some (.cells cs t z)/\p cs.toList:=by
 obtain⟨B,h1,h2⟩:=h;exact(h1 _ hx).2
theorem K9.var{P:Program}{w:World}{X:Nat->Prop}(h:K9 w X){g:Nat}{p:bp->Prop}{name:String}(hx:(g,p)∈vZ)(hg:P.globalNamed name=some g):∃cs,w.var? P name=some cs/\p cs.toList:=by
 obtain⟨cs,t,z,h1,h2⟩:=h.cells hx;refine⟨cs,?_,h2⟩;unfold World.var?;rw[hg,aA,h1]
theorem K9.Zr{P:Program}{w:World}(hs:∀x∈vZ,∃name cs,P.globalNamed name=some x.1/\w.var? P name=some cs/\x.2 cs.toList):K9 w fun _=>False:=by
 refine⟨fun b=>b∈vZ.map Prod.fst,fun x hx=>?_,fun b hb=>?_⟩
 ·obtain⟨name,cs,h1,h2,h3⟩:=hs x hx;unfold World.var? at h2;rw[h1,aA]at h2;refine⟨cJ.2 ⟨x,hx,rfl⟩,?_⟩;split at h2
  ·rename_i cs' t z h4;cases h2;exact⟨_,t,z,h4,h3⟩
  ·cases h2
 ·obtain⟨x,hx,rfl⟩:=cJ.1 hb;obtain⟨name,cs,h1,h2,h3⟩:=hs x hx;unfold World.var? at h2;rw[h1,aA]at h2;refine⟨?_,id⟩;split at h2
  ·rename_i cs' t z h4;exact(az.1 h4).1
  ·cases h2
end Go.Cx
namespace Go.Cx
open Go.RowKit
structure sO where
 W0:World
 Θ0:Nat->Nat
 X:Nat->Prop
 nt:Nat
 U:Nat->Prop
 vs:K9 W0 X
inductive RK where
 |sh
 |uq
 |cl
 |mv (n:Nat)
def RK.M6:RK->Bool
 | .cl=>false
 |_=>true
def RK.hand:RK->Bool
 | .sh=>true
 | .uq=>true
 |_=>false
inductive Ob where
 |box (cells:aL)
 |BQ (cells:aL) (v:Value)
 |row (k:RK) (e:TypeId) (sz:Nat) (rows:List aL)
 |uK (sz:Nat) (rows:List aL) (v:Option Value)
 |hole (sz:Nat) (rows:List aL) (v:Option Value) (p n:Nat)
 |mp (kv:List (D×D))
 |tk (rows:List aL)
 |gone
def Ob.R5:Ob->Option aL
 | .box c=>some c
 | .BQ c _=>some c
 |_=>none
def Ob.re(o:Ob)(c:aL):Ob:=match o with
 | .BQ _ v=>.BQ c v
 |_=>.box c
structure St where
 σ:List (Nat×D)
 H:List Ob
def lk:List (Nat×D)->Nat->D
 | [],_=>.any
 | (t,d)::r,n=>if n=t then d else lk r n
def D.Ox:Value->D
 | .bool b=>.bool b
 | .int k n=>if nS k n then .int k n else .val (.int k n)
 | .string s=>if s.size<=maxLen then .str s.data.toList else .val (.string s)
 | .slice none 0 0=>.nil
 |v=>.val v
def St.ev(st:St):Operand->D
 | .tmp t=>lk st.σ t
 | .const v=>D.Ox v
 | .global g=>.val (.pointer (some ⟨g,0,none⟩))
 | .func f=>.val (.func (.func f) #[] #[])
def St.set(st:St)(t:Nat)(d:D):St:=⟨(t,d)::st.σ,st.H⟩
def St.put(st:St)(t:Option Nat)(d:D):St:=match t with|some t=>st.set t d|none=>st
inductive wZ(w:World)(κ:Nat->Option Value):Value->D->List Nat->Prop
 |pure {v:Value} {d:D} {bs:aS}:Rd w v d bs->wZ w κ v d bs
 |acc (id:Nat) (v:Value):κ id=some v->wZ w κ v (.acc id) []
 |ptr (id off b:Nat):κ id=some (.pointer (some ⟨b,0,none⟩))->wZ w κ (.pointer (some ⟨b,off,none⟩)) (.ptr id off) []
 |op (id i sz off b o0 len cap:Nat):κ id=some (.slice (some ⟨b,o0,none⟩) len cap)->wZ w κ (.pointer (some ⟨b,o0+(i*sz+off),none⟩)) (.op id i sz off) []
inductive ey(w:World)(κ:Nat->Option Value):List Value->List D->List Nat->Prop
 |nil:ey w κ [] [] []
 |cons (v:Value) (vs:bp) (d:D) (ds:aL) (b1 b2:aS):v.oneCell'=true->wZ w κ v d b1->ey w κ vs ds b2->ey w κ (v::vs) (d::ds) (b1++b2)
inductive Iq(w:World)(κ:Nat->Option Value):Value->D->List Nat->Prop
 |cell {v:Value} {d:D} {bs:aS}:wZ w κ v d bs->Iq w κ v d bs
 |agg (cs:bp) (ds:aL) (bs:aS):ey w κ cs ds bs->Iq w κ (.agg cs.toArray) (.agg ds) bs
inductive zw(w:World)(κ:Nat->Option Value):List Value->List D->List Nat->Prop
 |nil:zw w κ [] [] []
 |cons (v:Value) (vs:bp) (d:D) (ds:aL) (b1 b2:aS):Iq w κ v d b1->zw w κ vs ds b2->zw w κ (v::vs) (d::ds) (b1++b2)
inductive pW(w:World)(κ:Nat->Option Value):Value->D->List Nat->Prop
 |v {v:Value} {d:D} {bs:aS}:Iq w κ v d bs->pW w κ v d bs
 |iK (vs:bp) (ds:aL) (bs:aS):zw w κ vs ds bs->pW w κ (.tuple vs.toArray) (.iK ds) bs
theorem pW.of{w:World}{κ:Nat->Option Value}{v:Value}{d:D}{bs:aS}(h:Rd w v d bs):pW w κ v d bs:=.v (.cell (.pure h))
def Wr(w:World)(b:Nat):Prop:=∃cs T,w.heap[b]?=some (.cells cs T (0,0))
def Yn(w:World)(κ:Nat->Option Value)(v:Value)(rows:List aL)(p n:Nat)(bs:aS):Prop:=
 ∃b off cap cs ns,v=.slice (some ⟨b,off,none⟩) rows.length cap/\b<w.heap.size/\rows.length<=cap/\cap<=maxLen/\(∀j c,cs[j]?=some c->w.cell? ⟨b,off+j,none⟩=some c)/\jv w cs rows.flatten ns/\bs=b::ns/\
  ∃c,cs[p]?=some c/\κ n=some c
def w9(w:World)(es:List MapEntry)(kv:List (D×D)):Prop:=
 es.length=kv.length/\∀(j:Nat) e p,es[j]?=some e->kv[j]?=some p->Rd w e.key p.1 []/\Rd w e.val p.2 []
theorem w9.stay{w w':World}{es:List MapEntry}{kv:List (D×D)}(h:w9 w es kv):w9 w' es kv:=
 ⟨h.1,fun j e p h1 h2=>⟨(h.2 j e p h1 h2).1.keep (by simp),(h.2 j e p h1 h2).2.keep (by simp)⟩⟩
def u7(w:World)(κ:Nat->Option Value)(Θ:Nat->Nat)(id:Nat):Ob->Prop
 | .box cells=>∃g cs T,κ id=some (.pointer (some ⟨g,0,none⟩))/\w.heap[g]?=some (.cells cs T (0,0))/\Θ g=id+2/\
  ∃bs,ey w κ cs.toList cells bs/\∀b∈bs,Θ b=0
 | .BQ cells u=>κ id=some u/\∃g cs T,κ id=some (.pointer (some ⟨g,0,none⟩))/\w.heap[g]?=some (.cells cs T (0,0))/\Θ g=id+2/\
  ∃bs,ey w κ cs.toList cells bs/\∀b∈bs,Θ b=0
 | .row k e sz rows=>0<sz/\(∀r∈rows,r.length=sz)/\∃v cs bs,κ id=some v/\w.ownsRow 0 e sz v rows.length cs/\jv w cs rows.flatten bs/\
  (∀g,v.ownBlock=some g->Θ g=id+2)/\
  (match k with
   | .cl=>bs.Nodup/\(∀b∈bs,Θ b=id+2/\Wr w b)/\∀g,v.ownBlock=some g->g∉bs
   |_=>∀b∈bs,Θ b=0)
 | .uK sz rows u=>(∀r∈rows,r.length=sz)/\(∀x,u=some x->κ id=some x)/\∃v bs,κ id=some v/\Rd w v (.sl rows) bs/\bs.Nodup/\∀b∈bs,Θ b=id+2/\Wr w b
 | .hole sz rows u p n=>(∀r∈rows,r.length=sz)/\(∀x,u=some x->κ id=some x)/\∃v bs,κ id=some v/\Yn w κ v rows p n bs/\bs.Nodup/\∀b∈bs,Θ b=id+2/\Wr w b
 | .mp kv=>∃g es clock,κ id=some (.map (some g))/\w.heap[g]?=some (.map es clock)/\Θ g=id+2/\w9 w es.toList kv
 | .tk rows=>∃v bs,κ id=some v/\Rd w v (.sl rows) bs/\∀b∈bs,Θ b=0
 | .gone=>True
def vg(Γ:sO)(b:Nat):Prop:=Γ.W0.heap.size<=b\/Γ.X b
def Pe(Γ:sO)(b:Nat):Prop:=vg Γ b\/Γ.U b
theorem u7.cs{w:World}{κ:Nat->Option Value}{Θ:Nat->Nat}{id:Nat}{o:Ob}{cells:aL}(hc:o.R5=some cells)(h:u7 w κ Θ id o):
 ∃g cs T,κ id=some (.pointer (some ⟨g,0,none⟩))/\w.heap[g]?=some (.cells cs T (0,0))/\Θ g=id+2/\∃bs,ey w κ cs.toList cells bs/\∀b∈bs,Θ b=0:=by
 cases o<;>simp only[Ob.R5,reduceCtorEq,ah]at hc
 ·subst hc;exact h
 ·subst hc;exact h.2
theorem u7.a2X{w w':World}{κ κ':Nat->Option Value}{Θ Θ':Nat->Nat}{id:Nat}{o:Ob}{cells cells':aL}(hc:o.R5=some cells)(h:u7 w κ Θ id o)(hk:∀v,κ id=some v->κ' id=some v)
 (h':∃g cs T,κ' id=some (.pointer (some ⟨g,0,none⟩))/\w'.heap[g]?=some (.cells cs T (0,0))/\Θ' g=id+2/\∃bs,ey w' κ' cs.toList cells' bs/\∀b∈bs,Θ' b=0):u7 w' κ' Θ' id (o.re cells'):=by
 cases o<;>simp only[Ob.R5,reduceCtorEq,ah]at hc
 ·exact h'
 ·exact⟨hk _ h.1,h'⟩
structure Me(Γ:sO)(w:World):Prop where
 os:w.os=Γ.W0.os
 tape:w.tape=Γ.W0.tape
 output:w.output=Γ.W0.output
 size:Γ.W0.heap.size<=w.heap.size
 block:∀b,b<Γ.W0.heap.size->¬Γ.X b->w.heap[b]?=Γ.W0.heap[b]?
def Hp(w:World)(κ:Nat->Option Value)(ρ:Nat->Nat)(id:Nat):Ob->Prop
 | .row (.mv n) e sz rows=>∃v cs bs,κ id=some v/\w.ownsRow 0 e sz v rows.length cs/\jv w (cs.drop (n*sz)) (rows.drop n).flatten bs/\bs.Nodup/\∀b∈bs,ρ b=id+1
 | .tk rows=>∃v bs,κ id=some v/\Rd w v (.sl rows) bs/\bs.Nodup/\∀b∈bs,ρ b=id+1
 |_=>True
structure xB(Γ:sO)(H:List Ob)(κ:Nat->Option Value)(Θ:Nat->Nat)(w:World)(ρ:Nat->Nat):Prop where
 free:∀b,ρ b≠0->Θ b=0/\Pe Γ b/\Wr w b
 rows:∀id e sz rows,H[id]?=some (.row .uq e sz rows)->∃v cs bs,κ id=some v/\w.ownsRow 0 e sz v rows.length cs/\jv w cs rows.flatten bs/\bs.Nodup/\∀b∈bs,ρ b=id+1
 more:∀id o,H[id]?=some o->Hp w κ ρ id o
structure dH(Γ:sO)(st:St)(κ:Nat->Option Value)(Θ:Nat->Nat)(a:Act)(w:World):Prop where
 defers:a.defers=[]
 size:a.tmps.size=Γ.nt
 ni:∀id,st.H.length<=id->κ id=none
 mw:∀(id:Nat) u,κ id=some u->u.oneCell'=true
 slot:∀t,∃bs,pW w κ (a.tmps.getD t undef) (lk st.σ t) bs/\∀b∈bs,Θ b=0
 ob:∀id o,st.H[id]?=some o->u7 w κ Θ id o
 own:∀b,Θ b≠0->b<w.heap.size
 old:∀b,b<Γ.W0.heap.size->¬Γ.X b->Θ b=Γ.Θ0 b/\Θ b<=1
 mine:∀b,2<=Θ b->vg Γ b
 stays:Me Γ w
 qz:∃ρ,xB Γ st.H κ Θ w ρ
theorem dH.vsb{Γ:sO}{st:St}{κ:Nat->Option Value}{Θ:Nat->Nat}{a:Act}{w:World}(h:dH Γ st κ Θ a w):∃B:Nat->Prop,VsB w B/\∀b,B b->b<Γ.W0.heap.size/\b<w.heap.size/\¬Γ.X b:=by
 obtain⟨B,h1,h2⟩:=Γ.vs;exact⟨B,h1.stays fun b hb=>h.stays.block b (h2 b hb).1 (h2 b hb).2,fun b hb=>⟨(h2 b hb).1,cz (h2 b hb).1 h.stays.size,(h2 b hb).2⟩⟩
theorem dH.vok{Γ:sO}{st:St}{κ:Nat->Option Value}{Θ:Nat->Nat}{a:Act}{w:World}(h:dH Γ st κ Θ a w):K9 w fun _=>False:=by
 obtain⟨B,h1,h2⟩:=h.vsb;exact⟨B,h1,fun b hb=>⟨(h2 b hb).2.1,id⟩⟩
def AW(P:Program)(Γ:sO)(c:Code)(Q:Exit->St->Prop)(st:St):Prop:=
 ∀κ Θ a w,dH Γ st κ Θ a w->c.wp P (fun e a' w'=>∃sn κ' Θ',dH Γ sn κ' Θ' a' w'/\Q e sn) a w
def AO(P:Program)(Γ:sO)(all:Array Oper)(ops:List Oper)(Q:Exit->St->Prop)(st:St):Prop:=
 ∀κ Θ a w,dH Γ st κ Θ a w->wpList P all (fun e a' w'=>∃sn κ' Θ',dH Γ sn κ' Θ' a' w'/\Q e sn) ops a w
section
variable{P:Program}{Γ:sO}{Q:Exit->St->Prop}{st:St}
theorem Ve(h:Q .normal st):AW P Γ .skip Q st:=fun _ _ _ _ hs=>wp_skip ⟨_,_,_,hs,h⟩
theorem Yk(h:Q .ret st):AW P Γ .ret Q st:=fun _ _ _ _ hs=>wp_ret ⟨_,_,_,hs,h⟩
theorem Vc{id:Nat}(h:Q (.exit id) st):AW P Γ (.exit id) Q st:=fun _ _ _ _ hs=>wp_exit ⟨_,_,_,hs,h⟩
def Uy(next:St->Prop)(Q:Exit->St->Prop):Exit->St->Prop
 | .normal,st=>next st
 |e,st=>Q e st
def LU(id:Nat)(Q:Exit->St->Prop):Exit->St->Prop
 | .exit id',st=>if id'=id then Q .normal st else Q (.exit id') st
 |e,st=>Q e st
theorem Yl{x y:Code}(h:AW P Γ x (Uy (AW P Γ y Q) Q) st):AW P Γ (.seq x y) Q st:=by
 intro κ Θ a w hs;refine wp_seq (wp_mono (h κ Θ a w hs) ?_);rintro e a' w' ⟨sn,κ',Θ',hs',hq⟩;cases e with
 |normal=>exact hq κ' Θ' a' w' hs'
 |exit id=>exact⟨_,_,_,hs',hq⟩
 |goto l=>exact⟨_,_,_,hs',hq⟩
 |ret=>exact⟨_,_,_,hs',hq⟩
 |panic c=>exact⟨_,_,_,hs',hq⟩
 |outgrown=>exact⟨_,_,_,hs',hq⟩
theorem SP{id:Nat}{c:Code}(h:AW P Γ c (LU id Q) st):AW P Γ (.block id c) Q st:=by
 intro κ Θ a w hs;refine wp_block (wp_mono (h κ Θ a w hs) ?_);rintro e a' w' ⟨sn,κ',Θ',hs',hq⟩;cases e with
 |exit id'=>
  simp only[Exit.inBlock,LU]at hq⊢;split
  ·rename_i he;rw[bN he]at hq;exact⟨_,_,_,hs',hq⟩
  ·rename_i he;rw[b9 he]at hq;exact⟨_,_,_,hs',hq⟩
 |normal=>exact⟨_,_,_,hs',hq⟩
 |goto l=>exact⟨_,_,_,hs',hq⟩
 |ret=>exact⟨_,_,_,hs',hq⟩
 |panic c=>exact⟨_,_,_,hs',hq⟩
 |outgrown=>exact⟨_,_,_,hs',hq⟩
theorem Qt{id:Nat}{l:List Oper}(h:AO P Γ l.toArray l Q st):AW P Γ (.region id l.toArray false) Q st:=
 fun κ Θ a w hs=>wp_region_lit (h κ Θ a w hs)
theorem Yi{all:Array Oper}(h:Q .normal st):AO P Γ all [] Q st:=fun _ _ _ _ hs=>wpList_nil ⟨_,_,_,hs,h⟩
end
section
variable{w:World}{κ:Nat->Option Value}{v:Value}{bs:aS}
theorem pW.ol{k:IntKind}{n:Int}(h:pW w κ v (.int k n) bs):v=.int k n:=by
 cases h with|v h=>cases h with|cell h=>cases h with|pure h=>cases h;rfl
theorem pW.JN{k:IntKind}{n:Int}(h:pW w κ v (.int k n) bs):nS k n:=by
 cases h with|v h=>cases h with|cell h=>cases h with|pure h=>cases h with|int _ _ hr=>exact hr
theorem pW.Uv{s:Bytes}(h:pW w κ v (.str s) bs):s.length<=maxLen:=by
 cases h with|v h=>cases h with|cell h=>cases h with|pure h=>cases h with|str x hx=>simpa using hx
theorem pW.uA{b:Bool}(h:pW w κ v (.bool b) bs):v=.bool b:=by
 cases h with|v h=>cases h with|cell h=>cases h with|pure h=>cases h;rfl
theorem pW.rC{s:Bytes}(h:pW w κ v (.str s) bs):∃x:ByteArray,v=.string x/\x.data.toList=s:=by
 cases h with|v h=>cases h with|cell h=>cases h with|pure h=>cases h;exact⟨_,rfl,rfl⟩
theorem pW.Qn{u:Value}(h:pW w κ v (.val u) bs):v=u:=by
 cases h with|v h=>cases h with|cell h=>cases h with|pure h=>cases h;rfl
theorem pW.GV(h:pW w κ v .nil bs):v=.slice none 0 0:=by
 cases h with|v h=>cases h with|cell h=>cases h with|pure h=>cases h;rfl
theorem pW.MK{rows:List aL}(h:pW w κ v (.sl rows) bs):Rd w v (.sl rows) bs:=by
 cases h with|v h=>cases h with|cell h=>cases h with|pure h=>exact h
theorem pW.OP{row:aL}{o:Nat}(h:pW w κ v (.ep row o) bs):Rd w v (.ep row o) bs:=by
 cases h with|v h=>cases h with|cell h=>cases h with|pure h=>exact h
theorem pW.su{id:Nat}(h:pW w κ v (.acc id) bs):κ id=some v/\bs=[]:=by
 cases h with|v h=>cases h with|cell h=>cases h with|pure h=>cases h|acc _ _ hk=>exact⟨hk,rfl⟩
theorem pW.wV{id off:Nat}(h:pW w κ v (.ptr id off) bs):∃b,κ id=some (.pointer (some ⟨b,0,none⟩))/\v=.pointer (some ⟨b,off,none⟩):=by
 cases h with|v h=>cases h with|cell h=>cases h with|pure h=>cases h|ptr _ _ b hk=>exact⟨b,hk,rfl⟩
theorem pW.Cb{id i sz off:Nat}(h:pW w κ v (.op id i sz off) bs):∃b o0 len cap,κ id=some (.slice (some ⟨b,o0,none⟩) len cap)/\v=.pointer (some ⟨b,o0+(i*sz+off),none⟩):=by
 cases h with|v h=>cases h with|cell h=>cases h with|pure h=>cases h|op _ _ _ _ b o0 len cap hk=>exact⟨b,o0,len,cap,hk,rfl⟩
theorem ey.Am{vs:bp}{ds:aL}(h:jv w vs ds bs):ey w κ vs ds bs:=by
 induction ds generalizing vs bs with
 |nil=>cases h;exact .nil
 |cons d ds ih=>cases h with|cons v vs _ _ b1 b2 h1 h2 h3=>exact .cons _ _ _ _ _ _ h1 (.pure h2) (ih h3)
theorem AV{w:World}{e sz b o0 len cap n:Nat}{cs:bp}(h:w.ownsRow 0 e sz (.slice (some ⟨b,o0,none⟩) len cap) n cs):o0=0:=by
 rcases h.2 with⟨h,_⟩|⟨g,cap,cur,h,_⟩
 ·cases h
 ·cases h;rfl
theorem pW.Cs{ds:aL}(h:pW w κ v (.agg ds) bs):∃cs:bp,v=.agg cs.toArray/\ey w κ cs ds bs:=by
 cases h with
 |v h=>
  cases h with
  |cell h=>cases h with|pure h=>cases h with|agg cs _ _ h=>exact⟨cs,rfl,ey.Am h⟩
  |agg cs _ _ h=>exact⟨cs,rfl,h⟩
theorem ey.length{vs:bp}{ds:aL}(h:ey w κ vs ds bs):vs.length=ds.length:=by
 induction ds generalizing vs bs with
 |nil=>cases h;rfl
 |cons d ds ih=>cases h with|cons v vs _ _ b1 b2 h1 h2 h3=>simp[ih h3]
theorem ey.one{vs:bp}{ds:aL}(h:ey w κ vs ds bs):∀v∈vs,v.oneCell'=true:=by
 induction ds generalizing vs bs with
 |nil=>cases h;simp
 |cons d ds ih=>
  cases h with
  |cons v vs _ _ b1 b2 h1 h2 h3=>
   intro u hu;rcases bH.1 hu with rfl|hu
   ·exact h1
   ·exact ih h3 u hu
theorem ey.app{vs us:bp}{ds es:aL}{cs:aS}(h:ey w κ vs ds bs)(k:ey w κ us es cs):ey w κ (vs++us) (ds++es) (bs++cs):=by
 induction ds generalizing vs bs with
 |nil=>cases h;simpa using k
 |cons d ds ih=>
  cases h with
  |cons v vs _ _ b1 b2 h1 h2 h3=>
   rw[cY];exact .cons _ _ _ _ _ _ h1 h2 (ih h3)
theorem ey.split{vs:bp}{ds es:aL}(h:ey w κ vs (ds++es) bs):
 ∃v1 v2 b1 b2,vs=v1++v2/\bs=b1++b2/\ey w κ v1 ds b1/\ey w κ v2 es b2:=by
 induction ds generalizing vs bs with
 |nil=>exact⟨[],vs,[],bs,by simp,by simp,.nil,h⟩
 |cons d ds ih=>
  cases h with
  |cons v vs _ _ b1 b2 h1 h2 h3=>
   obtain⟨v1,v2,c1,c2,rfl,rfl,k1,k2⟩:=ih h3;exact⟨v::v1,v2,b1++c1,c2,by simp,by simp,.cons _ _ _ _ _ _ h1 h2 k1,k2⟩
theorem ey.mid{vs:bp}{ds:aL}(h:ey w κ vs ds bs)(i n:Nat)(hn:i+n<=ds.length):
 ∃b,ey w κ ((vs.drop i).take n) ((ds.drop i).take n) b/\∀x∈b,x∈bs:=by
 have e:ds=ds.take i++((ds.drop i).take n++(ds.drop i).drop n):=by rw[bz,bz]
 rw[e]at h;obtain⟨v1,v2,b1,b2,rfl,rfl,k1,k2⟩:=h.split;obtain⟨v3,v4,b3,b4,rfl,rfl,k3,k4⟩:=k2.split;refine⟨b3,?_,by intro x hx;simp[hx]⟩;have h1:v1.length=i:=by rw[k1.length];simp;omega
 have h3:v3.length=n:=by rw[k3.length];simp;omega
 rw[fL h1,gw h3];exact k3
theorem ey.at{vs:bp}{ds:aL}(h:ey w κ vs ds bs){i:Nat}{d:D}(hd:ds[i]?=some d):
 ∃v b,vs[i]?=some v/\v.oneCell'=true/\wZ w κ v d b/\∀x∈b,x∈bs:=by
 induction ds generalizing vs bs i with
 |nil=>simp at hd
 |cons e ds ih=>
  cases h with
  |cons v vs _ _ b1 b2 h1 h2 h3=>
   cases i with
   |zero=>simp at hd;subst hd;exact⟨v,b1,by simp,h1,h2,by intro x hx;simp[hx]⟩
   |succ i=>
    simp at hd;obtain⟨u,b,k1,k2,k3,k4⟩:=ih h3 hd;exact⟨u,b,by simpa using k1,k2,k3,fun x hx=>by simp[k4 x hx]⟩
theorem Oy(v:Value):pW w κ v (D.Ox v) []:=by
 unfold D.Ox;split
 ·exact .of (.bool _)
 ·split
  ·rename_i h;exact .of (.int _ _ h)
  ·exact .of (.val _)
 ·split
  ·rename_i h;exact .of (.str _ h)
  ·exact .of (.val _)
 ·exact .of .nil
 ·exact .of (.val _)
end
section
variable{Γ:sO}{st:St}{κ:Nat->Option Value}{Θ:Nat->Nat}{a:Act}{w:World}
theorem dH.ev(h:dH Γ st κ Θ a w)(x:Operand):∃bs,pW w κ (a.eval x) (st.ev x) bs/\∀b∈bs,Θ b=0:=by
 cases x with
 |tmp t=>exact h.slot t
 |const v=>exact⟨[],Oy v,by simp⟩
 |global g=>exact⟨[],.of (.val _),by simp⟩
 |func f=>exact⟨[],.of (.val _),by simp⟩
theorem dH.set(h:dH Γ st κ Θ a w){t:Nat}{v:Value}{d:D}{bs:aS}(ht:t<Γ.nt)(hv:pW w κ v d bs)(hb:∀b∈bs,Θ b=0):
 dH Γ (st.set t d) κ Θ (a.put (some t) v) w:=by
 refine⟨h.defers,by simp[Act.put,h.size],h.ni,h.mw,?_,h.ob,h.own,h.old,h.mine,h.stays,h.qz⟩;intro u;show∃bs,pW w κ ((a.tmps.setIfInBounds t v).getD u undef) (if u=t then d else lk st.σ u) bs/\_;have hsz:=h.size;by_cases hu:u=t
 ·subst hu;rw[bN rfl];have:(a.tmps.setIfInBounds u v).getD u undef=v:=by
   simp[bw,hsz,ht]
  rw[this];exact⟨bs,hv,hb⟩
 ·rw[b9 hu];have:(a.tmps.setIfInBounds t v).getD u undef=a.tmps.getD u undef:=by
   simp[bw,pV hu]
  rw[this];exact h.slot u
end
end Go.Cx
namespace Go.Cx
open Go.RowKit
abbrev bP:=List Ob
def xq(P:Program)(t:TypeId):Option Bool:=
 match P.underlying t with
 |some (.struct _)=>some true
 |some (.array _ _)=>some true
 |some _=>some false
 |none=>none
def wk(P:Program)(t:TypeId):Nat:=P.cellsOf t
def tfo(P:Program)(t f:Nat):Option Nat:=
 match P.underlying t with
 |some (.struct fs)=>(match fs[f]? with
  |some x=>if(P.info? x.type).isSome/\P.cellsOf x.type≠0 then some x.offset else none
  |none=>none)
 |_=>none
def tft(P:Program)(t f:Nat):Option (Nat×TypeId):=
 match P.underlying t with
 |some (.struct fs)=>(match fs[f]? with|some x=>some (x.offset,x.type)|none=>none)
 |_=>none
def D2(P:Program)(t:TypeId):Option (TypeId×Nat):=
 match P.underlying t with
 |some (.slice e)=>if(P.info? e).isSome then some (e,P.cellsOf e)else none
 |_=>none
def a0V(P:Program)(t:TypeId):Option (Nat×Nat):=
 match P.underlying t with
 |some (.array n e)=>if(P.info? e).isSome then some (P.cellsOf e,n)else none
 |_=>none
def Hj(P:Program)(t:TypeId):Bool:=match P.underlying t with|some .string=>true|_=>false
def PO(P:Program)(t:TypeId):Option IntKind:=match P.underlying t with|some (.int k)=>some k|_=>none
def YZ(P:Program)(t:TypeId):Bool:=match P.underlying t with|some .bool=>true|_=>false
def Qg(P:Program)(t:TypeId):Bool:=match P.underlying t with
 |some (.struct fs)=>match fs.toList with
  | [f,g]=>f.name != "_" &&g.name != "_" &&f.offset==0&&g.offset==1&&Hj P f.type&&Hj P g.type&& !P.stoodInHeld t&& !P.eqGuardType P.depth t
  |_=>false
 |_=>false
def peq(P:Program)(op:BinOp)(t:TypeId):D->D->Option D
 | .bool a,.bool b=>if YZ P t=true then match op with| .eql=>some (.bool (a==b))| .neq=>some (.bool (a != b))|_=>none else none
 | .agg [.str a,.str b],.agg [.str c,.str d]=>if Qg P t=true then match op with| .eql=>some (.bool (a==c&&b==d))| .neq=>some (.bool (!(a==c&&b==d)))|_=>none else none
 |_,_=>none
def a0W(P:Program)(t:TypeId):Bool:=match P.underlying t with|some (.interface _)=>true|_=>false
def Zv(P:Program)(op:BinOp)(t:TypeId)(x:D)(y:Operand):Option D:=match x,y with
 | .Xq b,.const .nilIface=>(match a0W P t,op with|true,.eql=>some (.bool (!b))|true,.neq=>some (.bool b)|_,_=>none)
 |_,_=>none
def Rg(op:BinOp):D->D->Option D
 | .int k a,.int k' b=>
  if k=k' then
   match op with
   | .add=>some (.int k (k.wrap (a+b)))
   | .sub=>some (.int k (k.wrap (a-b)))
   | .mul=>some (.int k (k.wrap (a*b)))
   | .quo=>if 0<=a/\0<b then some (.int k (a/b))else none
   | .rem=>if 0<=a/\0<b then some (.int k (a%b))else none
   | .eql=>some (.bool (a==b))
   | .neq=>some (.bool (a != b))
   | .lss=>some (.bool (a<b))
   | .leq=>some (.bool (a<=b))
   | .gtr=>some (.bool (a>b))
   | .geq=>some (.bool (a>=b))
   |_=>none
  else none
 | .str a,.str b=>
  match op with
  | .add=>if a.length+b.length<=maxLen then some (.str (a++b))else none
  | .eql=>some (.bool (a==b))
  | .neq=>some (.bool (!(a==b)))
  | .lss=>some (.bool (Op.bytesLess a b))
  | .leq=>some (.bool (Op.bytesLess a b||a==b))
  | .gtr=>some (.bool (!(Op.bytesLess a b||a==b)))
  | .geq=>some (.bool (!(Op.bytesLess a b)))
  |_=>none
 |_,_=>none
def E8(ag:Bool)(n:Nat)(row:aL)(off:Nat):Option D:=
 if ag then(if off+n<=row.length then some (.agg ((row.drop off).take n))else none)else row[off]?
def yE(len:Nat)(lo hi:Option D):Option (Nat×Nat):=
 match(match hi with|none=>some len|some (.int _ h)=>if 0<=h/\h.toNat<=len then some h.toNat else none|_=>none)with
 |none=>none
 |some h=>match(match lo with|none=>some 0|some (.int _ l)=>if 0<=l/\l.toNat<=h then some l.toNat else none|_=>none)with
  |none=>none
  |some l=>some (l,h)
def Lo(a b:Int):Int:=if b<a then b else a
def Zu:D->D->Option D
 | .int k m,.int k' n=>if k=k' then some (.int k (Lo m n))else none
 |_,_=>none
def Ww(P:Program)(st:St)(x:Operand)(t:TypeId):Option D:=
 match st.ev x with
 | .str s=>if Hj P t then some (.int .i64 s.length)else none
 | .sl rows=>if(D2 P t).isSome then some (.int .i64 rows.length)else none
 | .nil=>if(D2 P t).isSome then some (.int .i64 0)else none
 | .acc id=>(match D2 P t,st.H[id]? with|some _,some (.row _ _ _ rows)=>some (.int .i64 rows.length)|_,_=>none)
 |_=>none
def D.cellsOf:D->Option aL
 | .agg ds=>some ds
 | .any=>none
 | .iK _=>none
 | .val v=>if v.oneCell' then some [.val v]else none
 |d=>some [d]
def tz(P:Program)(t:TypeId):Option aL:=
 match P.info? t with
 |some i=>(match i.zero with
  |some z=>if z.cells.toList.all (fun c=>c.oneCell')&&z.cells.size==i.size then some (z.cells.toList.map D.Ox)else none
  |none=>none)
 |none=>none
def Qh(P:Program)(t:TypeId):Option (List (Nat×Nat)):=
 match P.underlying t with
 |some (.struct fs)=>fs.toList.mapM (fun f=>(P.info? f.type).map fun i=>(f.offset,i.size))
 |_=>none
def vU(places:List (Nat×Nat))(cells:aL):List (Nat×D)->Option aL
 | []=>some cells
 | (i,d)::rest=>match places[i]?,d.cellsOf with
  |some (off,sz),some ds=>if ds.length=sz/\off+sz<=cells.length then vU places (cells.take off++ds++cells.drop (off+sz)) rest else none
  |_,_=>none
def keq:D->D->Option Bool
 | .str a,.str b=>some (a==b)
 | .int k a,.int k' b=>if k=k' then some (a==b)else none
 |_,_=>none
def F0:TypeDesc->D->Bool
 | .string,.str _=>true
 | .int k,.int k' _=>decide (k=k')
 |_,_=>false
def CV(k:D):List (D×D)->Option (Option D)
 | []=>some none
 |p::r=>match keq k p.1 with|some true=>some (some p.2)|some false=>CV k r|none=>none
def GO(k v:D):List (D×D)->Option (List (D×D))
 | []=>some [(k,v)]
 |p::r=>match keq k p.1 with|some true=>some ((k,v)::r)|some false=>(GO k v r).map (p:: ·)|none=>none
def Rt(P:Program)(T:TypeId):Option (TypeDesc×D):=
 match P.underlying T with
 |some (.map kt et)=>(match P.underlying kt,P.info? et with
  |some d,some i=>(match i.zero with|some z=>if z.oneCell'=true then some (d,D.Ox z)else none|none=>none)
  |_,_=>none)
 |_=>none
def plk(P:Program)(T:TypeId)(kv:List (D×D))(k:D)(ok:Bool):Option D:=
 match Rt P T with
 |some (kd,dz)=>(match F0 kd k,CV k kv with
  |true,some (some d)=>some (bif ok then .iK [d,.bool true]else d)
  |true,some none=>some (bif ok then .iK [dz,.bool false]else dz)
  |_,_=>none)
 |none=>none
def E1(k:IntKind)(a b:Int):Int:=k.wrap ((BitVec.ofInt k.bits a&&& BitVec.ofInt k.bits b).toNat)
def a1A(k:IntKind)(a b:Int):Int:=k.wrap ((BitVec.ofInt k.bits a|||BitVec.ofInt k.bits b).toNat)
def Pr(k:IntKind)(a b:Int):Int:=k.wrap ((BitVec.ofInt k.bits a^^^BitVec.ofInt k.bits b).toNat)
def Nk(k:IntKind)(a b:Int):Int:=a.fdiv (2^(min b.toNat k.bits))
def Zt(op:BinOp)(x y:D):Option D:=match x,y with
 | .int k a,.int k' b=>(match op with
  | .and=>if k=k' then some (.int k (E1 k a b))else none
  | .or=>if k=k' then some (.int k (a1A k a b))else none
  | .xor=>if k=k' then some (.int k (Pr k a b))else none
  | .shr=>if 0<=b then some (.int k (Nk k a b))else none
  |_=>none)
 |_,_=>none
theorem nS.shr{k:IntKind}{a:Int}(h:nS k a)(b:Int):nS k (Nk k a b):=by
 have hm:(0:Int)<2^(min b.toNat k.bits):=Int.pow_pos (by decide);unfold Nk;rw[Int.fdiv_eq_ediv_of_nonneg _ (zk hm)];generalize(2:Int)^(min b.toNat k.bits)=m at hm;have hz:=nS.zero k;rcases Int.lt_or_le a 0 with h0|h0
 ·refine⟨zl h.1 (Int.le_ediv_of_mul_le hm ?_),zl (zk (Int.ediv_lt_of_lt_mul (b:=0) hm (by omega))) hz.2⟩;have:a*m<=a*1:=Int.mul_le_mul_of_nonpos_left (zk h0) (by omega);omega
 ·exact h.down (Ac h0 (zk hm)) (Int.ediv_le_self m h0)
def pv(P:Program)(st:St):Op->Option D
 | .lookup T x i ok=>match st.ev x with
  | .acc id=>(match st.H[id]? with|some (.mp kv)=>plk P T kv (st.ev i) ok|_=>none)
  |_=>none
 | .build t parts=>match tz P t,Qh P t with
  |some zs,some ps=>(vU ps zs (parts.toList.map fun p=>(p.1,st.ev p.2))).map D.agg
  |_,_=>none
 | .move x=>some (st.ev x)
 | .assign x=>some (st.ev x)
 | .pick c a b=>match st.ev c with| .bool t=>some (bif t then st.ev a else st.ev b)|_=>none
 | .binOp op t x y _=>match Rg op (st.ev x) (st.ev y)with|some d=>some d|none=>(match peq P op t (st.ev x) (st.ev y)with|some d=>some d|none=>(match Zv P op t (st.ev x) y with|some d=>some d|none=>Zt op (st.ev x) (st.ev y)))
 | .nilCheck x=>match st.ev x with| .ptr i o=>some (.ptr i o)| .op i a b c=>some (.op i a b c)| .ep r o=>some (.ep r o)|_=>none
 | .unOp .not _ x=>match st.ev x with| .bool b=>some (.bool (!b))|_=>none
 | .unOp .neg _ x=>match st.ev x with| .int k n=>some (.int k (k.wrap (0-n)))|_=>none
 | .convert s d x=>match st.ev x,PO P s,PO P d with| .int _ n,some _,some k=>some (.int k (k.wrap n))|_,_,_=>none
 | .field t x f=>match tft P t f,st.ev x with
  |some (off,ft),.agg cells=>(match xq P ft with|some ag=>E8 ag (wk P ft) cells off|none=>none)
  |_,_=>none
 | .fieldAddr t x f=>match tfo P t f,st.ev x with
  |some o,.ptr id off=>some (.ptr id (off+o))
  |some o,.ep row off=>some (.ep row (off+o))
  |some o,.op id i sz off=>some (.op id i sz (off+o))
  |_,_=>none
 | .indexAddr t x i=>match D2 P t,st.ev x,st.ev i with
  |some (_,sz),.sl rows,.int _ n=>if 0<=n then(match rows[n.toNat]? with|some row=>if row.length=sz then some (.ep row 0)else none|none=>none)else none
  |some (_,sz),.acc id,.int _ n=>(match st.H[id]? with
   |some (.row _ _ sz' rows)=>if sz=sz'/\0<=n/\n.toNat<rows.length then some (.op id n.toNat sz 0)else none
   |_=>none)
  |_,.val (.pointer (some ⟨g,o,none⟩)),.int _ n=>(match a0V P t with
   |some (sz,len)=>if 0<=n/\n.toNat<len then some (.val (.pointer (some ⟨g,o+n.toNat*sz,none⟩)))else none
   |none=>none)
  |_,_,_=>none
 | .load t x=>match xq P t,st.ev x with
  |some ag,.ep row off=>E8 ag (wk P t) row off
  |some ag,.ptr id off=>(match(st.H[id]?).bind Ob.R5 with|some cells=>E8 ag (wk P t) cells off|none=>none)
  |some ag,.op id i sz off=>(match st.H[id]? with
   |some (.row k _ sz' rows)=>(match rows[i]? with|some row=>if sz'=sz/\k.M6=true/\off+(bif ag then wk P t else 1)<=sz then E8 ag (wk P t) row off else none|none=>none)
   |_=>none)
  |some ag,.val (.pointer (some ⟨g,o,none⟩))=>(match ag with|false=>L9 g o|true=>none)
  |_,_=>none
 | .extract x i=>match st.ev x with| .iK vs=>vs[i]? |_=>none
 | .index t x i=>match Hj P t,st.ev x,st.ev i with
  |true,.str s,.int _ n=>if 0<=n then(match s[n.toNat]? with|some b=>some (.int .u8 b.toNat)|none=>none)else none
  |_,_,_=>none
 | .slice t x lo hi none=>match st.ev x with
  | .str s=>if Hj P t then(match yE s.length (lo.map st.ev) (hi.map st.ev)with|some (l,h)=>some (.str ((s.take h).drop l))|none=>none)else none
  | .sl rows=>(match D2 P t,yE rows.length (lo.map st.ev) (hi.map st.ev)with
   |some (_,sz),some (l,h)=>if(rows.all (fun r=>r.length==sz))then some (.sl ((rows.take h).drop l))else none
   |_,_=>none)
  |_=>none
 | .call c=>match c.callee,c.args.toList,c.argTypes.toList with
  | .builtin .len,[x],[t]=>Ww P st x t
  | .builtin .min,[x,y],[_,_]=>Zu (st.ev x) (st.ev y)
  |_,_,_=>none
 |_=>none
section
variable{P:Program}{Γ:sO}{st:St}{κ:Nat->Option Value}{Θ:Nat->Nat}{a:Act}{w:World}
def uV(P:Program)(κ:Nat->Option Value)(Θ:Nat->Nat)(a:Act)(w:World)(o:Oper)(d:D):Prop:=
 ∃v bs,(execOp a.eval o).run P w=.ok (.value v) w/\pW w κ v d bs/\∀b∈bs,Θ b=0
theorem M3{n:Nat}(h:n<=maxLen):nS .i64 (n:Int):=by
 rw[nS.i64];unfold maxLen at h;omega
theorem dZ{k:IntKind}{n:Int}(h:nS k n):k.wrap n=n:=by
 unfold nS at h;cases k<;>simp[IntKind.min,IntKind.max,IntKind.wrap,IntKind.bits,IntKind.signed]at h⊢ <;>(try split)<;>omega
theorem P3{o:Oper}{op:BinOp}{t t':TypeId}{x y:Operand}{d:D}(hs:dH Γ st κ Θ a w)(ho:o.op=.binOp op t x y t')
 (h:Rg op (st.ev x) (st.ev y)=some d):uV P κ Θ a w o d:=by
 obtain⟨b1,r1,_⟩:=hs.ev x;obtain⟨b2,r2,_⟩:=hs.ev y;generalize st.ev x=dx at*;generalize st.ev y=dy at*;unfold Rg at h;split at h
 ·rename_i k p k' q;split at h
  ·rename_i hk;subst hk;have e1:=r1.ol;have e2:=r2.ol;cases op<;>simp only[ah,reduceCtorEq]at h
   case quo=>
    split at h
    ·rename_i hq;cases h;have hq0:q≠0:=by omega
     have hle:p/q<=p:=Int.ediv_le_self q hq.1;have h0:0<=p/q:=Ac hq.1 (by omega);have hin:=r1.JN.down h0 hle;have hw:k.wrap (p.tdiv q)=p/q:=by
      rw[Int.tdiv_eq_ediv_of_nonneg hq.1];exact dZ hin
     exact⟨_,[],by simp[execOp,ho,e1,e2,binOp,eqGuard,Op.intDiv,hq0,hw],.of (.int _ _ hin),by simp⟩
    ·cases h
   case rem=>
    split at h
    ·rename_i hq;cases h;have hq0:q≠0:=by omega
     have h0:0<=p%q:=Int.emod_nonneg p hq0;have hle:p%q<=p:=by
      have h1:=Int.emod_add_mul_ediv p q;have h2:0<=q*(p/q):=Int.mul_nonneg (by omega) (Ac hq.1 (by omega));omega
     have hin:=r1.JN.down h0 hle;have hw:p.tmod q=p%q:=Int.tmod_eq_emod_of_nonneg hq.1;exact⟨_,[],by simp[execOp,ho,e1,e2,binOp,eqGuard,Op.intDiv,hq0,hw],.of (.int _ _ hin),by simp⟩
    ·cases h
   all_goals subst h
   all_goals first
    |exact⟨_,[],by simp[execOp,ho,e1,e2,binOp,eqGuard,Op.intArith],.of (.int _ _ (nS.wrap _ _)),by simp⟩
    |exact⟨_,[],by simp[execOp,ho,e1,e2,binOp,eqGuard,Op.intCmp],.of (.bool _),by simp⟩
  ·cases h
 ·rename_i p q;obtain⟨u,e1,rfl⟩:=r1.rC;obtain⟨v,e2,rfl⟩:=r2.rC;cases op<;>simp only[ah,reduceCtorEq]at h
  case add=>
   split at h
   ·rename_i hl;cases h;have hsz:u.size+v.size<=9223372036854775807:=by
     simp only[sE,maxLen]at hl;exact hl
    refine⟨.string (u++v),[],?_,?_,by simp⟩
    ·simp[execOp,ho,e1,e2,binOp,eqGuard,run_string_add_sum w u v hsz]
    ·have:=Rd.str (w:=w) (u++v) (by rw[ByteArray.size_append'];unfold maxLen;omega);simp only[ByteArray.data_append,kM]at this;exact .of this
   ·cases h
  all_goals subst h
  all_goals exact⟨_,[],by simp[execOp,ho,e1,e2,binOp,eqGuard,Op.stringOp,ByteArray.toList_eq],.of (.bool _),by simp⟩
 ·cases h
theorem Cz{t:TypeId}{b:Bool}(h:xq P t=some b)(w:World):(isAgg t).run P w=.ok b w:=by
 unfold xq at h;split at h<;>first
  | (rename_i hu;cases h;simp[isAgg,run_underlying hu])
  | (rename_i d _ _ hu;cases h;cases d<;>simp_all [isAgg,run_underlying hu])
  |cases h
theorem info_of_underlying{t:TypeId}{d:TypeDesc}(h:P.underlying t=some d):∃i,P.info? t=some i:=by
 unfold Program.underlying at h;cases hi:P.info? t with
 |none=>simp[hi]at h
 |some i=>exact⟨i,rfl⟩
theorem GN{t:TypeId}{b:Bool}(h:xq P t=some b):∃i,P.info? t=some i:=by
 unfold xq at h;split at h<;>first
  | (rename_i hu;exact info_of_underlying hu)
  |cases h
theorem sj{t:TypeId}(h:∃i,P.info? t=some i)(w:World):(sizeOf t).run P w=.ok (wk P t) w:=by
 obtain⟨i,hi⟩:=h;simp[sizeOf,typeInfo,hi,wk,Program.cellsOf]
theorem nc{t:TypeId}{ag:Bool}(ht:xq P t=some ag){b off o:Nat}{cs:bp}
 (hc:∀j c,cs[j]?=some c->w.cell? ⟨b,off+j,none⟩=some c):
 (ag=true->o+wk P t<=cs.length->(Instr.loadAt t (.pointer (some ⟨b,off+o,none⟩))).run P w=.ok (.agg ((cs.drop o).take (wk P t)).toArray) w)/\
 (ag=false->∀c,cs[o]?=some c->(Instr.loadAt t (.pointer (some ⟨b,off+o,none⟩))).run P w=.ok c w):=by
 constructor
 ·intro e hl;subst e;have hlen:((cs.drop o).take (wk P t)).length=wk P t:=by simp;omega
  have:=run_loadCells_list (P:=P) w ⟨b,off+o,none⟩ ((cs.drop o).take (wk P t)) (by
   intro j v hj;rw[Addr.add_lit];rw[cG]at hj;split at hj
   ·rw[eH]at hj;rw[n8];exact hc _ _ hj
   ·cases hj)
  rw[hlen]at this;simp[Instr.loadAt,Instr.sureAddr,loadVar,Cz ht,sj (GN ht),this]
 ·intro e c hj;subst e;have:=hc o c hj;simp[Instr.loadAt,Instr.sureAddr,loadVar,Cz ht,this]
theorem wZ.MQ{v:Value}{d:D}{bs:aS}(h:wZ w κ v d bs):pW w κ v d bs:=.v (.cell h)
theorem JU{o:Oper}{t:TypeId}{x:Operand}{d:D}(hs:dH Γ st κ Θ a w)(ho:o.op=.load t x)
 (h:pv P st (.load t x)=some d):uV P κ Θ a w o d:=by
 obtain⟨b1,r1,z1⟩:=hs.ev x;simp only[pv]at h;split at h
 ·rename_i ag row off ht hx;rw[hx]at r1;have hrd:=r1.OP;generalize QG:a.eval x=vx at hrd;cases hrd with
  |ep b base cs _ _ bs h0 hc qC=>
   have L:=nc (P:=P) (w:=w) ht (o:=off) hc;unfold E8 at h;split at h
   ·rename_i hag;split at h
    ·rename_i hl;cases h;have hl':off+wk P t<=cs.length:=by rw[qC.length];exact hl
     obtain⟨b',hm,hsub⟩:=qC.mid off (wk P t);exact⟨_,b',by simp only[execOp,ho,QG];simp[L.1 hag hl'],.of (.agg _ _ _ hm),fun y hy=>z1 y (by simp[hsub y hy])⟩
    ·cases h
   ·rename_i hag;simp only[uf]at hag;obtain⟨v,b',hv,_,hr,hsub⟩:=qC.at h;exact⟨v,b',by simp only[execOp,ho,QG];simp[L.2 hag v hv],.of hr,fun y hy=>z1 y (by simp[hsub y hy])⟩
 ·rename_i ag id off ht hx;rw[hx]at r1;obtain⟨g,hk,hv⟩:=r1.wV;split at h
  ·rename_i cells hH;obtain⟨ob,hH,yQ⟩:=mJ.1 hH;obtain⟨g',cs,T,hk',hg,hΘ,bs,qC,hz⟩:=(hs.ob id _ hH).cs yQ;rw[hk]at hk';cases hk';have hc:∀j c,cs.toList[j]?=some c->w.cell? ⟨g,0+j,none⟩=some c:=by
    intro j c hj;simp only[cv,World.cell?,hg];simpa using hj
   have L:=nc (P:=P) (w:=w) ht (o:=off) hc;simp only[cv]at L;unfold E8 at h;split at h
   ·rename_i hag;split at h
    ·rename_i hl;cases h;have hl':off+wk P t<=cs.toList.length:=by rw[qC.length];exact hl
     obtain⟨b',hm,hsub⟩:=qC.mid off (wk P t) hl;exact⟨_,b',by simp only[execOp,ho,hv];simp[L.1 hag hl'],.v (.agg _ _ _ hm),fun y hy=>hz y (hsub y hy)⟩
    ·cases h
   ·rename_i hag;simp only[uf]at hag;obtain⟨v,b',hv',_,hr,hsub⟩:=qC.at h;exact⟨v,b',by simp only[execOp,ho,hv];simp[L.2 hag v hv'],hr.MQ,fun y hy=>hz y (hsub y hy)⟩
  ·cases h
 ·rename_i ag id i sz off ht hx;rw[hx]at r1;obtain⟨g,o0,len,cap,hk,hv⟩:=r1.Cb;split at h
  ·rename_i k e sz' rows hH;split at h
   ·rename_i row hrow;split at h
    ·rename_i a1J;obtain⟨rfl,hk0,hoff⟩:=a1J;obtain⟨hsz,hrl,vk,cs,bs,TN,hown,qC,hΘ,hz⟩:=hs.ob id _ hH;have vb:∀b∈bs,Θ b=0:=by cases k<;>first|exact hz|simp[RK.M6]at hk0
     rw[hk]at TN;cases TN;have VL:=AV hown;subst VL;rw[cv]at hv;have QF:row.length=sz':=hrl row (aD hrow);have hcells:∀j c,cs[j]?=some c->w.cell? ⟨g,0+j,none⟩=some c:=by
      intro j c hj;have:=hown.cells (g:=g) (by simp[Value.ownBlock]) j c hj;simpa[Addr.add_lit]using this
     have L:=nc (P:=P) (w:=w) ht (o:=i*sz'+off) hcells;simp only[cv]at L;have a4p:=qC.length;have hmid:=CK hrl hrow;have hlt:i<rows.length:=(aE.1 hrow).1;have hfl:=nG hrl;have hle:(i+1)*sz'<=rows.length*sz':=dG _ hlt;rw[gU,lq]at hle;unfold E8 at h;split at h
     ·rename_i hag;subst hag;simp only[aI]at hoff;split at h
      ·rename_i hl;cases h;have hl':i*sz'+off+wk P t<=cs.length:=by rw[a4p,hfl];omega
       obtain⟨b',hm,hsub⟩:=qC.mid (i*sz'+off) (wk P t);have e:(rows.flatten.drop (i*sz'+off)).take (wk P t)=(row.drop off).take (wk P t):=by
        rw[<-hmid,List.drop_take,rF,gE,eg (by omega)]
       rw[e]at hm;exact⟨_,b',by simp only[execOp,ho,hv];simp[L.1 rfl hl'],.of (.agg _ _ _ hm),fun y hy=>vb y (hsub y hy)⟩
      ·cases h
     ·rename_i hag;simp only[uf]at hag;subst hag;simp only[aW]at hoff;have e:rows.flatten[i*sz'+off]?=some d:=by
       rw[<-hmid,cG,bN (by omega),eH]at h;exact h
      obtain⟨v,b',hv',_,hr,hsub⟩:=qC.at e;exact⟨v,b',by simp only[execOp,ho,hv];simp[L.2 rfl v hv'],.of hr,fun y hy=>vb y (hsub y hy)⟩
    ·cases h
   ·cases h
  ·cases h
 ·rename_i ag g o' ht hx;rw[hx]at r1;have hv:=r1.Qn;split at h
  ·obtain⟨ds,⟨p,hp,hcs⟩,hd⟩:=V4 h;obtain⟨B,hB,_⟩:=hs.vsb;obtain⟨_,cs,T,z,hg,hpc⟩:=hB _ hp;obtain⟨v,K3,hrd⟩:=hcs _ hpc _ _ hd;have hc:∀j c,cs.toList[j]?=some c->w.cell? ⟨g,0+j,none⟩=some c:=by
    intro j c hj;simp only[cv,World.cell?,hg];simpa using hj
   have L:=(nc (P:=P) (w:=w) ht (o:=o') hc).2 rfl v K3;rw[cv]at L;exact⟨v,[],by simp only[execOp,ho,hv];simp[L],.of (hrd w),by simp⟩
  ·cases h
 ·cases h
theorem My{o:Oper}{t f:Nat}{x:Operand}{d:D}(hs:dH Γ st κ Θ a w)(ho:o.op=.field t x f)
 (h:pv P st (.field t x f)=some d):uV P κ Θ a w o d:=by
 obtain⟨b1,r1,z1⟩:=hs.ev x;simp only[pv]at h;split at h
 ·rename_i off ft cells ht hx;rw[hx]at r1;obtain⟨cs,hv,qC⟩:=r1.Cs;unfold tft at ht;split at ht
  ·rename_i fs hu;split at ht
   ·rename_i fl hfl;cases ht;split at h
    ·rename_i ag hta;unfold E8 at h;split at h
     ·rename_i hag;subst hag;split at h
      ·rename_i hl;cases h;obtain⟨b',hm,hsub⟩:=qC.mid fl.offset (wk P fl.type) hl;refine⟨.agg ((cs.drop fl.offset).take (wk P fl.type)).toArray,b',?_,.v (.agg _ _ _ hm),fun y hy=>z1 y (hsub y hy)⟩;have e:cs.toArray.extract fl.offset (fl.offset+wk P fl.type)=((cs.drop fl.offset).take (wk P fl.type)).toArray:=by
        rw[List.extract_toArray,List.extract_eq_take_drop];congr 1;congr 1;omega
       simp only[execOp,ho,hv];simp[Instr.field,run_underlying hu,hfl,asAgg,part,Cz hta,sj (GN hta),e]
      ·cases h
     ·rename_i hag;simp only[uf]at hag;subst hag;obtain⟨v,b',K3,_,hr,hsub⟩:=qC.at h;refine⟨v,b',?_,.v (.cell hr),fun y hy=>z1 y (hsub y hy)⟩;simp only[execOp,ho,hv];simp[Instr.field,run_underlying hu,hfl,asAgg,part,Cz hta,K3]
    ·cases h
   ·cases ht
  ·cases ht
 ·cases h
theorem IK{o:Oper}{t f:Nat}{x:Operand}{d:D}(hs:dH Γ st κ Θ a w)(ho:o.op=.fieldAddr t x f)
 (h:pv P st (.fieldAddr t x f)=some d):uV P κ Θ a w o d:=by
 obtain⟨b1,r1,z1⟩:=hs.ev x;have hf:∀ {o':Nat},tfo P t f=some o'->∀(b off:Nat),(Instr.fieldAt t (.pointer (some ⟨b,off,none⟩)) f).run P w=.ok (.pointer (some ⟨b,off+o',none⟩)) w:=by
  intro o' h b off;unfold tfo at h;split at h
  ·rename_i fs hu;split at h
   ·rename_i fl hfl;split at h
    ·rename_i hc;cases h;obtain⟨i,hi⟩:=dw.1 hc.1;have hsz:=sj (P:=P) ⟨i,hi⟩ w;have h0:wk P fl.type≠0:=hc.2;simp[Instr.fieldAt,run_underlying hu,hfl,Instr.sureAddr,fieldPlace,hsz,h0,Addr.add_lit]
    ·cases h
   ·cases h
  ·cases h
 simp only[pv]at h;split at h
 ·rename_i o' id off ht hx;cases h;rw[hx]at r1;obtain⟨g,hk,hv⟩:=r1.wV;exact⟨_,[],by simp only[execOp,ho,hv];simp[hf ht g off],(wZ.ptr id (off+o') g hk).MQ,by simp⟩
 ·rename_i o' row off ht hx;cases h;rw[hx]at r1;have hrd:=r1.OP;generalize QG:a.eval x=vx at hrd;cases hrd with
  |ep b base cs _ _ bs h0 hc qC=>
   refine⟨.pointer (some ⟨b,base+off+o',none⟩),b::bs,by simp only[execOp,ho,QG];simp[hf ht b (base+off)],?_,z1⟩;rw[n8];exact .of (.ep b base cs row (off+o') bs h0 hc qC)
 ·rename_i o' id i sz off ht hx;cases h;rw[hx]at r1;obtain⟨g,o0,len,cap,hk,hv⟩:=r1.Cb;refine⟨.pointer (some ⟨g,o0+(i*sz+off)+o',none⟩),[],by simp only[execOp,ho,hv];simp[hf ht g (o0+(i*sz+off))],?_,by simp⟩;rw[n8,n8];exact(wZ.op id i sz (off+o') g o0 len cap hk).MQ
 ·cases h
theorem nQ{t e sz:Nat}(h:D2 P t=some (e,sz)):P.underlying t=some (.slice e)/\(∃i,P.info? e=some i)/\wk P e=sz:=by
 unfold D2 at h;split at h
 ·rename_i e' hu;split at h
  ·rename_i hi;cases h;exact⟨hu,dw.1 hi,rfl⟩
  ·cases h
 ·cases h
theorem IP{o:Oper}{t:Nat}{x i:Operand}{d:D}(hs:dH Γ st κ Θ a w)(ho:o.op=.indexAddr t x i)
 (h:pv P st (.indexAddr t x i)=some d):uV P κ Θ a w o d:=by
 obtain⟨b1,r1,z1⟩:=hs.ev x;obtain⟨b2,r2,z2⟩:=hs.ev i;simp only[pv]at h;split at h
 ·rename_i e sz rows k n ht hx hi;rw[hx]at r1;rw[hi]at r2;have hn:=r2.ol;obtain⟨hu,HT,GL⟩:=nQ ht;have hsz:=sj (P:=P) HT w;split at h
  ·rename_i h0;split at h
   ·rename_i row hrow;split at h
    ·rename_i hlen;cases h;have hrd:=r1.MK;have hlt:n.toNat<rows.length:=(aE.1 hrow).1;generalize QG:a.eval x=vx at hrd;cases hrd with
     |vW=>simp at hrow
     |mT=>simp at hrow
     |sl b off cap sz' _ cs bs hb hcap yB hrl hc qC=>
      have a4s:sz'=sz:=by rw[<-hrl row (aD hrow)];exact hlen
      subst a4s;obtain⟨b',hm,hsub⟩:=qC.mid (n.toNat*sz') sz';rw[CK hrl hrow]at hm;have hn':0<=n/\n<(rows.length:Int):=⟨h0,by omega⟩
      refine⟨.pointer (some ⟨b,off+n.toNat*sz',none⟩),b::b',?_,?_,?_⟩
      ·simp only[execOp,ho,QG,hn];simp[Instr.indexAt,asIntOf,run_underlying hu,hn',hsz,GL,Addr.add_lit]
      ·have a4q:∀j c,((cs.drop (n.toNat*sz')).take sz')[j]?=some c->w.cell? ⟨b,off+n.toNat*sz'+j,none⟩=some c:=by
        intro j c hj;rw[cG]at hj;split at hj
        ·rw[eH]at hj;rw[n8];exact hc _ _ hj
        ·cases hj
       exact .of (.ep b (off+n.toNat*sz') _ row 0 b' hb a4q hm)
      ·intro y hy;rcases bH.1 hy with rfl|hy
       ·exact z1 _ (by simp)
       ·exact z1 _ (by simp[hsub y hy])
    ·cases h
   ·cases h
  ·cases h
 ·rename_i e sz id k n ht hx hi;rw[hx]at r1;rw[hi]at r2;have hn:=r2.ol;obtain⟨hv,_⟩:=r1.su;obtain⟨hu,HT,GL⟩:=nQ ht;have hsz:=sj (P:=P) HT w;split at h
  ·rename_i dp e' sz' rows hH;split at h
   ·rename_i hc;cases h;obtain⟨rfl,h0,hlt⟩:=hc;obtain⟨ZG,hrl,vk,cs,bs,TN,hown,qC,hΘ,hz⟩:=hs.ob id _ hH;rw[hv]at TN;cases TN;rcases hown.2 with⟨qZ,vb⟩|⟨g,cap,cur,hkv,_⟩
    ·omega
    ·have hn':0<=n/\n<(rows.length:Int):=⟨h0,by omega⟩
     refine⟨_,[],?_,(wZ.op id n.toNat sz 0 g 0 _ _ (hkv▸hv)).MQ,by simp⟩;simp only[execOp,ho,hn,hkv];simp[Instr.indexAt,asIntOf,run_underlying hu,hn',hsz,GL,Addr.add_lit]
   ·cases h
  ·cases h
 ·rename_i g o' kk n hx hi;rw[hx]at r1;rw[hi]at r2;have hn:=r2.ol;have hv:=r1.Qn;split at h
  ·rename_i sz len hT;split at h
   ·rename_i hc;cases h;obtain⟨h0,hlt⟩:=hc;unfold a0V at hT;split at hT
    ·rename_i len' e hu;split at hT
     ·rename_i HT;cases hT;have hsz:=sj (P:=P) (dw.1 HT) w;have hn':0<=n/\n<(len:Int):=⟨h0,by omega⟩
      refine⟨_,[],?_,.of (.val _),by simp⟩;simp only[execOp,ho,hn,hv];simp[Instr.indexAt,Instr.sureAddr,asIntOf,run_underlying hu,hn',hsz,wk,Addr.add_lit]
     ·cases hT
    ·cases hT
   ·cases h
  ·cases h
 ·cases h
theorem RY{o:Oper}{t t':Nat}{x y:Operand}{d:D}(hs:dH Γ st κ Θ a w)(ho:o.op=.call {callee:=.builtin .min,args:= #[x,y],argTypes:= #[t,t']})
 (h:Zu (st.ev x) (st.ev y)=some d):uV P κ Θ a w o d:=by
 obtain⟨b1,r1,z1⟩:=hs.ev x;obtain⟨b2,r2,z2⟩:=hs.ev y;unfold Zu at h;split at h
 ·rename_i k m k' n hx hy;split at h
  ·rename_i hk;subst hk;cases h;rw[hx]at r1;rw[hy]at r2;have e1:=r1.ol;have e2:=r2.ol;refine⟨.int k (Lo m n),[],?_,.of (.int _ _ ?_),by simp⟩
   ·simp only[execOp,ho,resolve,invoke,builtin,nH,bC,bf,e1,e2];simp[Builtin.min_,Builtin.min2,Lo]
   ·unfold Lo;split
    ·exact r2.JN
    ·exact r1.JN
  ·cases h
 ·cases h
theorem RU{o:Oper}{t:Nat}{x:Operand}{d:D}(hs:dH Γ st κ Θ a w)(ho:o.op=.call {callee:=.builtin .len,args:= #[x],argTypes:= #[t]})
 (h:Ww P st x t=some d):uV P κ Θ a w o d:=by
 obtain⟨b1,r1,z1⟩:=hs.ev x;unfold Ww at h;split at h
 ·rename_i s hx;split at h
  ·rename_i ht;cases h;rw[hx]at r1;obtain⟨u,hv,rfl⟩:=r1.rC;have hu:P.underlying t=some .string:=by
    unfold Hj at ht;split at ht
    ·assumption
    ·cases ht
   refine⟨.int .i64 (u.data.toList.length:Nat),[],?_,.of (.int _ _ (M3 r1.Uv)),by simp⟩;simp only[execOp,ho,resolve,invoke,builtin,nH,bC,bf,hv];simp[Builtin.len_,run_underlying hu,goInt]
  ·cases h
 ·rename_i rows hx;split at h
  ·rename_i ht;cases h;rw[hx]at r1;obtain⟨⟨e,sz⟩,ht⟩:=dw.1 ht;obtain⟨hu,_,_⟩:=nQ ht;have hrd:=r1.MK;generalize QG:a.eval x=vx at hrd;have hlen:∃q c,vx=.slice q rows.length c:=by
    cases hrd with
    |vW=>exact⟨_,_,rfl⟩
    |mT=>exact⟨_,_,rfl⟩
    |sl=>exact⟨_,_,rfl⟩
   have yB:rows.length<=maxLen:=by
    cases hrd with
    |vW=>simp
    |mT=>simp
    |sl b off cap sz _ cs bs hb h1 h2=>omega
   obtain⟨q,c,rfl⟩:=hlen;refine⟨.int .i64 rows.length,[],?_,.of (.int _ _ (M3 yB)),by simp⟩;simp only[execOp,ho,resolve,invoke,builtin,nH,bC,bf,QG];simp[Builtin.len_,run_underlying hu,goInt]
  ·cases h
 ·rename_i hx;split at h
  ·rename_i ht;cases h;rw[hx]at r1;obtain⟨⟨e,sz⟩,ht⟩:=dw.1 ht;obtain⟨hu,_,_⟩:=nQ ht;have hv:=r1.GV;refine⟨.int .i64 0,[],?_,.of (.int _ _ (nS.zero _)),by simp⟩;simp only[execOp,ho,resolve,invoke,builtin,nH,bC,bf,hv];simp[Builtin.len_,run_underlying hu,goInt]
  ·cases h
 ·rename_i id hx;split at h
  ·rename_i p dp e' sz' rows ht hH;cases h;rw[hx]at r1;obtain⟨hv,_⟩:=r1.su;obtain⟨e,sz⟩:=p;obtain⟨hu,_,_⟩:=nQ ht;obtain⟨ZG,hrl,vk,cs,bs,TN,hown,qC,hΘ,hz⟩:=hs.ob id _ hH;rw[hv]at TN;cases TN;have hlen:∃q c,a.eval x=.slice q rows.length c:=by
    rcases hown.2 with⟨qZ,vb⟩|⟨g,cap,cur,hkv,_⟩
    ·exact⟨none,0,by rw[qZ,vb]⟩
    ·exact⟨_,_,hkv⟩
   have yB:rows.length<=maxLen:=by
    rcases hown.2 with⟨qZ,vb⟩|⟨g,cap,cur,hkv,_,_,h1,h2,_⟩
    ·omega
    ·omega
   obtain⟨q,c,hk⟩:=hlen;refine⟨.int .i64 rows.length,[],?_,.of (.int _ _ (M3 yB)),by simp⟩;simp only[execOp,ho,resolve,invoke,builtin,nH,bC,bf,hk];simp[Builtin.len_,run_underlying hu,goInt]
  ·cases h
 ·cases h
theorem zw.at{vs:bp}{ds:aL}{bs:aS}(h:zw w κ vs ds bs){i:Nat}{d:D}(hd:ds[i]?=some d):
 ∃v b,vs[i]?=some v/\Iq w κ v d b/\∀x∈b,x∈bs:=by
 induction ds generalizing vs bs i with
 |nil=>simp at hd
 |cons e ds ih=>
  cases h with
  |cons v vs _ _ b1 b2 h2 h3=>
   cases i with
   |zero=>simp at hd;subst hd;exact⟨v,b1,by simp,h2,by intro x hx;simp[hx]⟩
   |succ i=>
    simp at hd;obtain⟨u,b,k1,k3,k4⟩:=ih h3 hd;exact⟨u,b,by simpa using k1,k3,fun x hx=>by simp[k4 x hx]⟩
theorem pW.XJ{v:Value}{ds:aL}{bs:aS}(h:pW w κ v (.iK ds) bs):∃vs:bp,v=.tuple vs.toArray/\zw w κ vs ds bs:=by
 cases h with
 |v h=>cases h with|cell h=>cases h with|pure h=>cases h
 |iK vs _ _ h=>exact⟨vs,rfl,h⟩
theorem KC{o:Oper}{i:Nat}{x:Operand}{d:D}(hs:dH Γ st κ Θ a w)(ho:o.op=.extract x i)
 (h:pv P st (.extract x i)=some d):uV P κ Θ a w o d:=by
 obtain⟨b1,r1,z1⟩:=hs.ev x;simp only[pv]at h;split at h
 ·rename_i vs hx;rw[hx]at r1;obtain⟨us,hv,hr⟩:=r1.XJ;obtain⟨v,b,k1,k2,k3⟩:=hr.at h;exact⟨v,b,by simp only[execOp,ho,hv];simp[Instr.extract,k1],.v k2,fun y hy=>z1 y (k3 y hy)⟩
 ·cases h
theorem uw{t:Nat}(ht:Hj P t=true):P.underlying t=some .string:=by
 unfold Hj at ht;split at ht
 ·assumption
 ·cases ht
theorem NK{o:Oper}{t:Nat}{x i:Operand}{d:D}(hs:dH Γ st κ Θ a w)(ho:o.op=.index t x i)
 (h:pv P st (.index t x i)=some d):uV P κ Θ a w o d:=by
 obtain⟨b1,r1,z1⟩:=hs.ev x;obtain⟨b2,r2,z2⟩:=hs.ev i;simp only[pv]at h;split at h
 ·rename_i s k n ht hx hi;rw[hx]at r1;rw[hi]at r2;obtain⟨u,hv,rfl⟩:=r1.rC;have hn:=r2.ol;have hu:=uw ht;split at h
  ·rename_i h0;split at h
   ·rename_i b hb;cases h;have hlt:n.toNat<u.size:=by
     have:=(aE.1 hb).1;simpa using this
    have Lf:u[n.toNat]?=some b:=by
     have hb':u.data[n.toNat]?=some b:=by simpa using hb
     rw[getElem?_pos u n.toNat hlt];rw[az]at hb';obtain⟨_,he⟩:=hb';rw[<-he];rfl
    refine⟨.int .u8 b.toNat,[],?_,.of (.int _ _ (nS.u8.2 (by have:=b.toNat_lt;omega))),by simp⟩;simp only[execOp,ho,hv,hn];simp[Instr.index,asIntOf,run_underlying hu,h0,Lf]
   ·cases h
  ·cases h
 ·cases h
theorem MF{lo hi:Option Operand}{l h':Nat}{isSlice:Bool}{len cap:Nat}(hs:dH Γ st κ Θ a w)
 (hlc:len<=cap) (h:yE len (lo.map st.ev) (hi.map st.ev)=some (l,h')):
 (Instr.sliceBounds isSlice len cap (lo.map a.eval) (hi.map a.eval) none).run P w=.ok (l,h',cap) w/\l<=h'/\h'<=len:=by
 have hv:∀ {x:Operand} {k:IntKind} {n:Int},st.ev x=.int k n->a.eval x=.int k n:=by
  intro x k n hx;obtain⟨b,r,_⟩:=hs.ev x;rw[hx]at r;exact r.ol
 unfold yE at h;cases hi with
 |none=>
  simp only[ve]at h⊢;cases lo with
  |none=>
   simp only[ve,ah,cK]at h⊢;obtain⟨rfl,rfl⟩:=h;exact⟨by simp[Instr.sliceBounds],by omega,by omega⟩
  |some lo=>
   simp only[cI]at h⊢;cases hlo:st.ev lo<;>simp only[hlo,reduceCtorEq]at h;rename_i k n;split at h
   ·cases h
   ·rename_i l0 hm;split at hm
    ·rename_i hb;cases hm;cases h;have O5:0<=n/\n<=(h':Int):=⟨hb.1,by omega⟩
     exact⟨by simp[Instr.sliceBounds,Instr.sliceBound,hv hlo,asIntOf,O5],hb.2,by omega⟩
    ·cases hm
 |some hi=>
  simp only[cI]at h⊢;cases hhi:st.ev hi<;>simp only[hhi,reduceCtorEq]at h;rename_i k m;split at h
  ·cases h
  ·rename_i h0 hm;split at hm
   ·rename_i hb;cases hm;have O5:0<=m/\m<=(cap:Int):=⟨hb.1,by omega⟩
    cases lo with
    |none=>
     simp only[ve,ah,cK]at h⊢;obtain⟨rfl,rfl⟩:=h;exact⟨by simp[Instr.sliceBounds,Instr.sliceBound,hv hhi,asIntOf,O5],by omega,hb.2⟩
    |some lo=>
     simp only[cI]at h⊢;cases hlo:st.ev lo<;>simp only[hlo,reduceCtorEq]at h;rename_i k' n;split at h
     ·cases h
     ·rename_i l0 hm;split at hm
      ·rename_i S7;cases hm;cases h;have hb3:0<=n/\n<=max m 0:=⟨S7.1,by omega⟩
       exact⟨by simp[Instr.sliceBounds,Instr.sliceBound,hv hhi,hv hlo,asIntOf,O5,hb3],S7.2,hb.2⟩
      ·cases hm
   ·cases hm
theorem UO{rows:List aL}{sz l h':Nat}(hrl:∀r∈rows,r.length=sz)(h1:l<=h')(h2:h'<=rows.length):
 ((rows.take h').drop l).flatten=(rows.flatten.drop (l*sz)).take ((h'-l)*sz):=by
 have e:rows=(rows.take l)++(((rows.take h').drop l)++rows.drop h'):=by
  have hA:rows.take h'=(rows.take h').take l++(rows.take h').drop l:=(bz _ _).symm;have hB:(rows.take h').take l=rows.take l:=by rw[rF,eg h1]
  rw[hB]at hA;rw[<-cY,<-hA,bz]
 have l1:(rows.take l).flatten.length=l*sz:=by
  rw[nG (fun r hr=>hrl r (cD hr)),cF,eg (by omega)]
 have l2:((rows.take h').drop l).flatten.length=(h'-l)*sz:=by
  rw[nG (fun r hr=>hrl r (cD (jO hr))),uh,cF,eg (by omega)]
 have hf:rows.flatten=(rows.take l).flatten++(((rows.take h').drop l).flatten++(rows.drop h').flatten):=by
  rw[<-kN,<-kN,<-e]
 rw[hf,fL l1,gw l2]
theorem Nl{o:Oper}{t:Nat}{x:Operand}{lo hi:Option Operand}{d:D}(hs:dH Γ st κ Θ a w)(ho:o.op=.slice t x lo hi none)
 (h:pv P st (.slice t x lo hi none)=some d):uV P κ Θ a w o d:=by
 obtain⟨b1,r1,z1⟩:=hs.ev x;simp only[pv]at h;split at h
 ·rename_i s hx;rw[hx]at r1;obtain⟨u,hv,rfl⟩:=r1.rC;split at h
  ·rename_i ht;have hu:=uw ht;split at h
   ·rename_i l h' hc;cases h;obtain⟨hr,hl,hh⟩:=MF (P:=P) (isSlice:=false) (cap:=u.data.toList.length) hs (bL _) hc;have hsz:u.data.toList.length=u.size:=by simp
    rw[hsz]at hr;refine⟨.string (u.extract l h'),[],?_,?_,by simp⟩
    ·simp only[execOp,ho,hv];simp[Instr.sliceAt,Instr.slice,run_underlying hu,hr]
    ·have:=Rd.str (w:=w) (u.extract l h') (by
      have h1:=r1.Uv;simp at h1⊢;omega)
     have e:(u.extract l h').data.toList=(u.data.toList.take h').drop l:=by
      simp[ByteArray.data_extract,List.drop_take]
     rw[e]at this;exact .of this
   ·cases h
  ·cases h
 ·rename_i rows hx;rw[hx]at r1;have hrd:=r1.MK;split at h
  ·rename_i e sz l h' ht hc;split at h
   ·rename_i hall;cases h;obtain⟨hu,HT,GL⟩:=nQ ht;have hsz:=sj (P:=P) HT w;have hrl:∀r∈rows,r.length=sz:=by
     intro r hr;have:=aj.1 hall r hr;simpa using this
    generalize QG:a.eval x=vx at hrd;have main:∀(q:Option Addr) (cap:Nat),vx=.slice q rows.length cap->rows.length<=cap->
     (execOp a.eval o).run P w=.ok (.value (.slice (if cap=l then q else q.map (·.add (l*sz))) (h'-l) (cap-l))) w/\l<=h'/\h'<=rows.length:=by
     intro q cap hq hcap;obtain⟨hr,hl,hh⟩:=MF (P:=P) (isSlice:=true) (cap:=cap) hs hcap hc;refine⟨?_,hl,hh⟩;simp only[execOp,ho,QG,hq];simp[Instr.sliceAt,Instr.slice,run_underlying hu,hr,hsz,GL]
    cases hrd with
    |vW=>
     obtain⟨hr,hl,hh⟩:=main none 0 rfl (by simp);simp only[bW]at hh;have e1:h'=0:=by omega
     have e2:l=0:=by omega
     subst e1;subst e2;exact⟨_,[],hr,by simpa using pW.of (κ:=κ) (Rd.vW (w:=w)),by simp⟩
    |mT ad cap hm=>
     obtain⟨hr,hl,hh⟩:=main (some ad) cap rfl (by simp);simp only[bW]at hh;have e1:h'=0:=by omega
     have e2:l=0:=by omega
     subst e1;subst e2;refine⟨_,[],hr,?_,by simp⟩;have:(if cap=0 then some ad else(some ad).map (·.add (0*sz)))=some ad:=by simp[Addr.add]
     rw[this];exact .of (by simpa using Rd.mT (w:=w) ad cap hm)
    |sl b off cap sz' _ cs bs hb hcap yB IN hcc qC=>
     obtain⟨hr,hl,hh⟩:=main (some ⟨b,off,none⟩) cap rfl hcap;by_cases he:h'=l
     ·subst he;refine⟨_,[],hr,?_,by simp⟩;have e1:(rows.take h').drop h'=[]:=by simp
      rw[e1,o6];split
      ·exact .of (.mT _ _ (by omega))
      ·simp only[cI];exact .of (.mT _ _ (by omega))
     ·have hne:cap≠l:=by omega
      rw[b9 hne,cI,Addr.add_lit]at hr;obtain⟨b',hm,hsub⟩:=qC.mid (l*sz) ((h'-l)*sz);rw[<-UO hrl hl hh]at hm;refine⟨_,b::b',hr,?_,?_⟩
      ·have hlen:((rows.take h').drop l).length=h'-l:=by simp;omega
       rw[<-hlen];refine .of (.sl b (off+l*sz) (cap-l) sz _ _ b' hb (by omega) (by omega) (fun r hr=>hrl r (cD (jO hr))) ?_ hm);intro j c hj;rw[cG]at hj;split at hj
       ·rw[eH]at hj;rw[n8];exact hcc _ _ hj
       ·cases hj
      ·intro y hy;rcases bH.1 hy with rfl|hy
       ·exact z1 _ (by simp)
       ·exact z1 _ (by simp[hsub y hy])
   ·cases h
  ·cases h
 ·cases h
theorem Kx{v:Value}(h:v.oneCell'=true):v.cells.toList=[v]:=by
 cases v<;>first|rfl|cases h
theorem wZ.one{v:Value}{d:D}{bs:aS}(h:wZ w κ v d bs)(hk:∀(id:Nat) u,κ id=some u->u.oneCell'=true)(hna:∀es,d≠ .agg es)(hc:d.cellsOf=some [d]):v.oneCell'=true:=by
 cases h with
 |pure h=>
  cases h<;>first
   |rfl
   | (exfalso;exact hna _ rfl)
   | (simp[D.cellsOf]at hc;done)
   | (simp only[D.cellsOf]at hc;split at hc<;>first|assumption|cases hc)
 |acc i v h=>exact hk i v h
 |ptr=>rfl
 |op=>rfl
theorem zD{v:Value}{d:D}{bs:aS}{ds:aL}(hk:∀(id:Nat) u,κ id=some u->u.oneCell'=true)(h:pW w κ v d bs)(hc:d.cellsOf=some ds):ey w κ v.cells.toList ds bs:=by
 have single:∀ {v d bs},wZ w κ v d bs->(∀es,d≠ .agg es)->d.cellsOf=some [d]->ey w κ v.cells.toList [d] bs:=by
  intro v d bs h hna hc;have h1:=h.one hk hna hc;rw[Kx h1];have:=ey.cons v [] d [] bs [] h1 h .nil;simpa using this
 cases h with
 |iK=>simp[D.cellsOf]at hc
 |v h=>
  cases h with
  |agg cs _ _ h=>simp only[D.cellsOf,ah]at hc;subst hc;simpa[Value.cells]using h
  |cell h=>
   by_cases rE:∃es,d=.agg es
   ·obtain⟨es,rfl⟩:=rE;simp only[D.cellsOf,ah]at hc;subst hc;cases h with
    |pure h=>cases h with|agg cs _ _ h=>simpa[Value.cells]using ey.Am (κ:=κ) h
   ·have e:ds=[d]:=by
     cases d<;>simp only[D.cellsOf,ah,reduceCtorEq]at hc<;>first
      |exact hc.symm
      | (exfalso;exact rE ⟨_,rfl⟩)
      | (split at hc<;>first| (simp at hc;exact hc.symm)|cases hc)
    subst e;exact single h (fun es he=>rE ⟨es,he⟩) hc
theorem uz{T:TypeId}{zs:aL}(hz:tz P T=some zs):∃i z,P.info? T=some i/\i.zero=some z/\z.cells.size=i.size/\zs.length=i.size/\(∀c∈z.cells.toList,c.oneCell'=true)/\zs=z.cells.toList.map D.Ox:=by
 unfold tz at hz;split at hz
 ·rename_i i hi;split at hz
  ·rename_i z Ia;split at hz
   ·rename_i hc;cases hz;simp only[aY,aj,cQ]at hc;exact⟨i,z,hi,Ia,hc.2,by simp[hc.2],hc.1,rfl⟩
   ·cases hz
  ·cases hz
 ·cases hz
theorem zf(cs:bp)(h:∀c∈cs,c.oneCell'=true):ey w κ cs (cs.map D.Ox) []:=by
 induction cs with
 |nil=>exact .nil
 |cons c cs ih=>
  have hrd:Rd w c (D.Ox c) []:=by
   unfold D.Ox;split
   ·exact .bool _
   ·split
    ·rename_i h;exact .int _ _ h
    ·exact .val _
   ·split
    ·rename_i h;exact .str _ h
    ·exact .val _
   ·exact .nil
   ·exact .val _
  have:=ey.cons (κ:=κ) c cs _ _ [] [] (h c (by simp)) (.pure hrd) (ih (fun x hx=>h x (by simp[hx])));simpa using this
theorem foldl_set(off:Nat):∀(vs:bp) (k:Nat) (cells:Array Value),off+k+vs.length<=cells.size->
 ((vs.zipIdx k).foldl (fun cs (x:Value×Nat)=>cs.setIfInBounds (off+x.2) x.1) cells).toList=cells.toList.take (off+k)++vs++cells.toList.drop (off+k+vs.length):=by
 intro vs
 induction vs with
 |nil=>intro k cells _;simp
 |cons v vs ih=>
  intro k cells h;simp only[aT]at h;rw[List.zipIdx_cons,cm,ih (k+1) _ (by simp;omega)];simp only[Array.toList_setIfInBounds,aT];have hlt:off+k<cells.toList.length:=by simp;omega
  rw[show off+(k+1)=off+k+1 from by omega,List.take_set,List.drop_set,bN (by omega)];rw[show off+k+1+vs.length=off+k+(vs.length+1)from by omega]
  congr 1
  rw[show v::vs=[v]++vs from rfl,<-cY]
  congr 1
  rw[List.take_succ_eq_append_getElem hlt,qo _ _ (by simp;omega)];have:(List.take (off+k) cells.toList).length=off+k:=by rw[cF];omega
  rw[this,o6];rfl
theorem Q3(hs:dH Γ st κ Θ a w){places:List (Nat×Nat)}:∀(parts:List (Nat×Operand)) (cs:Array Value) (cells ds:aL) (bs:aS),
 ey w κ cs.toList cells bs->(∀b∈bs,Θ b=0)->vU places cells (parts.map fun p=>(p.1,st.ev p.2))=some ds->
 ∃arr bs',Instr.fill (places.toArray[·]?) cs (parts.map fun p=>(p.1,a.eval p.2))=some arr/\ey w κ arr.toList ds bs'/\∀b∈bs',Θ b=0:=by
 intro parts
 induction parts with
 |nil=>
  intro cs cells ds bs hr hz hf;simp only[bf,vU,ah]at hf;subst hf;exact⟨cs,bs,rfl,hr,hz⟩
 |cons p parts ih=>
  intro cs cells ds bs hr hz hf
  ·obtain⟨i,x⟩:=p;obtain⟨b,hv,hb⟩:=hs.ev x;generalize ZJ:a.eval x=v at hv;simp only[bC,vU]at hf;split at hf
   ·rename_i off sz es hpl hes;split at hf
    ·rename_i hc;have hcs:=zD hs.mw hv hes;have hl1:=hcs.length;have AS:=hr.length;have e:cells=cells.take off++((cells.drop off).take sz++(cells.drop off).drop sz):=by rw[bz,bz]
     rw[e]at hr;obtain⟨v1,v2,c1,c2,JJ,rfl,k1,k2⟩:=hr.split;obtain⟨v3,v4,c3,c4,rfl,rfl,k3,k4⟩:=k2.split;have l1:v1.length=off:=by rw[k1.length];simp;omega
     have l3:v3.length=sz:=by rw[k3.length];simp;omega
     have hvs:v.cells.size=sz:=by rw[<-hc.1,<-hl1];simp
     have hcl:cs.size=cells.length:=by rw[<-AS];simp
     have T0:=foldl_set off v.cells.toList 0 cs (by simp;omega);simp only[wL,sE,hvs]at T0;have e1:cs.toList.take off=v1:=by rw[JJ];exact gw l1
     have e4:cs.toList.drop (off+sz)=v4:=by rw[JJ,<-gE,fL l1];exact fL l3
     rw[e1,e4]at T0;rw[gE]at k4;have hnew:=(k1.app hcs).app k4;obtain⟨arr,bs',h1,h2,h3⟩:=ih (v.cells.zipIdx.foldl (fun cs (x:Value×Nat)=>cs.setIfInBounds (off+x.2) x.1) cs) _ ds ((c1++b)++c4)
      (by rw[<-Array.foldl_toList,Array.toList_zipIdx,T0];exact hnew)
      (by
       intro x hx;simp only[aZ]at hx;rcases hx with(hx|hx)|hx
       ·exact hz x (by simp[hx])
       ·exact hb x hx
       ·exact hz x (by simp[hx])) hf
     refine⟨arr,bs',?_,h2,h3⟩;simp only[bC,Instr.fill,ij,hpl,ZJ];rw[b9 (by simp;omega)];simpa using h1
    ·cases hf
   ·cases hf
theorem Mq{o:Oper}{t:TypeId}{parts:Array (Nat×Operand)}{d:D}(hs:dH Γ st κ Θ a w)(ho:o.op=.build t parts)
 (h:pv P st (.build t parts)=some d):uV P κ Θ a w o d:=by
 simp only[pv]at h;split at h
 ·rename_i zs ps hz hp;cases hf:vU ps zs (parts.toList.map fun p=>(p.1,st.ev p.2))with
  |none=>simp[hf]at h
  |some ds=>
   simp only[hf,cI,ah]at h;subst h;obtain⟨i,z,hi,vb,hsz,hlen,hone,rfl⟩:=uz hz;obtain⟨arr,bs',h1,h2,h3⟩:=Q3 hs parts.toList z.cells _ ds [] (zf z.cells.toList hone) (by simp) hf;have hb:P.built t (parts.map fun(i,x)=>(i,a.eval x)).toList=some arr:=by
    unfold Qh at hp;split at hp
    ·rename_i fs hu;unfold Program.built;simp only[hi,hu,vb,hp];rw[gG];exact h1
    ·cases hp
   refine⟨.agg arr,bs',?_,?_,h3⟩
   ·simp only[execOp,ho];simp[run_build w t _ arr hb]
   ·have:=Iq.agg (w:=w) (κ:=κ) arr.toList ds bs' h2;exact .v (by simpa using this)
 ·cases h
theorem run_equalIn_bool{t:TypeId}{a b:Bool}(h:P.underlying t=some .bool)(d:Nat):(Op.equalIn (d+1) t (.bool a) (.bool b)).run P w=.ok (a==b) w:=by
 simp[Op.equalIn,run_underlying h]
theorem Ao{t:TypeId}{a b:ByteArray}(h:P.underlying t=some .string)(d:Nat):(Op.equalIn (d+1) t (.string a) (.string b)).run P w=.ok (a==b) w:=by
 simp[Op.equalIn,run_underlying h]
theorem Gc{t:TypeId}(h:Hj P t=true){xs:Array Value}{off:Nat}{v:Value}(hx:xs[off]?=some v):(part t xs off).run P w=.ok v w:=by
 simp[part,isAgg,run_underlying (uw h),hx]
theorem Hh{t:TypeId}{a b c e:ByteArray}(h:Qg P t=true)(d:Nat):(Op.equalIn (d+2) t (.agg #[.string a,.string b]) (.agg #[.string c,.string e])).run P w=.ok (a==c&&b==e) w:=by
 unfold Qg at h;split at h
 ·rename_i fs hu;split at h
  ·rename_i f g hfs;simp only[aY,bne_iff_ne,ne_eq,cQ,o5]at h;obtain⟨⟨⟨⟨⟨⟨⟨h1,h2⟩,h3⟩,h4⟩,h5⟩,h6⟩,h7⟩,h8⟩:=h;have a4Q:fs= #[f,g]:=by apply om.mp;simpa using hfs
   subst a4Q;have p1:=fun(xs:Array Value) (v:Value) (hx:xs[0]?=some v)=>Gc (w:=w) h5 hx
   have p2:=fun(xs:Array Value) (v:Value) (hx:xs[1]?=some v)=>Gc (w:=w) h6 hx
   have q1:=Ao (P:=P) (w:=w) (a:=a) (b:=c) (uw h5) d;have q2:=Ao (P:=P) (w:=w) (a:=b) (b:=e) (uw h6) d;rw[Op.equalIn];generalize(a==c)=r1 at q1⊢;generalize(b==e)=r2 at q2⊢;cases r1<;>cases r2<;>simp[run_underlying hu,h7,h1,h2,h3,h4,p1,p2,q1,q2]
  ·cases h
 ·cases h
theorem ey.Qj{κ:Nat->Option Value}{cs:bp}{p q:Bytes}{bs:aS}(h:ey w κ cs [.str p,.str q] bs):∃u v:ByteArray,cs=[.string u,.string v]/\u.data.toList=p/\v.data.toList=q:=by
 cases h with
 |cons v1 vs _ _ b1 b2 _ h1 h2=>
  cases h2 with
  |cons v2 vs' _ _ b3 b4 _ h3 h4=>
   cases h4;obtain⟨u,rfl,hu⟩:=(pW.v (.cell h1):pW w κ _ _ _).rC;obtain⟨v,rfl,hv⟩:=(pW.v (.cell h3):pW w κ _ _ _).rC;exact⟨u,v,rfl,hu,hv⟩
theorem Sa(u v:ByteArray):(u==v)=(u.data==v.data):=by cases u;cases v;rfl
theorem Rh{o:Oper}{op:BinOp}{t t':TypeId}{x y:Operand}{d:D}(hs:dH Γ st κ Θ a w)(ho:o.op=.binOp op t x y t')
 (h:peq P op t (st.ev x) (st.ev y)=some d):uV P κ Θ a w o d:=by
 obtain⟨b1,r1,_⟩:=hs.ev x;obtain⟨b2,r2,_⟩:=hs.ev y;generalize st.ev x=dx at*;generalize st.ev y=dy at*;unfold peq at h;split at h
 ·rename_i p q;split at h
  ·rename_i hb;have hu:P.underlying t=some .bool:=by
    unfold YZ at hb;split at hb
    ·assumption
    ·cases hb
   have e1:=r1.uA;have e2:=r2.uA;have hq:=run_equalIn_bool (P:=P) (w:=w) (a:=p) (b:=q) hu 9999;have q':(Op.equal t (.bool p) (.bool q)).run P w=.ok (p==q) w:=hq;cases op<;>simp only[ah,reduceCtorEq]at h
   all_goals subst h
   all_goals exact⟨_,[],by(simp[execOp,ho,e1,e2,binOp,eqGuard,q'])<;>(cases p<;>cases q<;>rfl),.of (.bool _),by simp⟩
  ·cases h
 ·rename_i p1 p2 q1 q2;split at h
  ·rename_i hb;obtain⟨cs1,e1,k1⟩:=r1.Cs;obtain⟨cs2,e2,k2⟩:=r2.Cs;obtain⟨u1,u2,rfl,rfl,rfl⟩:=ey.Qj k1;obtain⟨v1,v2,rfl,rfl,rfl⟩:=ey.Qj k2;have hg:P.eqGuardType P.depth t=false:=by
    unfold Qg at hb;split at hb
    ·split at hb
     ·simp only[aY,o5]at hb;exact hb.2
     ·cases hb
    ·cases hb
   have q:=Hh (P:=P) (w:=w) (a:=u1) (b:=u2) (c:=v1) (e:=v2) hb 9998;have q':(Op.equal t (.agg #[.string u1,.string u2]) (.agg #[.string v1,.string v2])).run P w=.ok (u1==v1&&u2==v2) w:=q;cases op<;>simp only[ah,reduceCtorEq]at h
   all_goals subst h
   all_goals exact⟨_,[],by(simp[execOp,ho,e1,e2,binOp,eqGuard,hg,q'])<;>(rw[Sa,Sa]),.of (.bool _),by simp⟩
  ·cases h
 ·cases h
theorem pW.Wb{v:Value}{b:Bool}{bs:aS}(h:pW w κ v (.Xq b) bs):(b=false/\v=.nilIface)\/(b=true/\∃t u,v=.iface t u):=by
 cases h with|v h=>cases h with|cell h=>cases h with|pure h=>cases h with
  |RM=>exact .inl ⟨rfl,rfl⟩
  |RN t u=>exact .inr ⟨rfl,t,u,rfl⟩
theorem Gb{t:TypeId}{ms:Array (String×TypeId)}(hu:P.underlying t=some (.interface ms)):(Op.equal t .nilIface .nilIface).run P w=.ok true w:=by
 unfold Op.equal Op.maxDepth;rw[Op.equalIn];simp[run_underlying hu]
theorem EA{t:TypeId}{ms:Array (String×TypeId)}{t1:TypeId}{v1:Value}(hu:P.underlying t=some (.interface ms)):(Op.equal t (.iface t1 v1) .nilIface).run P w=.ok false w:=by
 unfold Op.equal Op.maxDepth;rw[Op.equalIn];simp[run_underlying hu]
theorem P4{o:Oper}{op:BinOp}{t t':TypeId}{x y:Operand}{d:D}(hs:dH Γ st κ Θ a w)(ho:o.op=.binOp op t x y t')
 (h:Zt op (st.ev x) (st.ev y)=some d):uV P κ Θ a w o d:=by
 obtain⟨b1,r1,_⟩:=hs.ev x;obtain⟨b2,r2,_⟩:=hs.ev y;generalize st.ev x=dx at*;generalize st.ev y=dy at*;unfold Zt at h;split at h
 ·rename_i k p k' q;have e1:=r1.ol;have e2:=r2.ol;cases op<;>simp only[reduceCtorEq]at h
  case shr=>
   split at h
   ·rename_i hq;cases h;exact⟨_,[],by simp[execOp,ho,e1,e2,binOp,eqGuard,Op.shift,show¬q<0 by omega,Nk],.of (.int _ _ (r1.JN.shr q)),by simp⟩
   ·cases h
  all_goals
   split at h
   ·rename_i hk;subst hk;cases h;exact⟨_,[],by simp[execOp,ho,e1,e2,binOp,eqGuard,Op.intBits,E1,a1A,Pr],.of (.int _ _ (nS.wrap _ _)),by simp⟩
   ·cases h
 ·cases h
theorem P5{o:Oper}{op:BinOp}{t t':TypeId}{x y:Operand}{d:D}(hs:dH Γ st κ Θ a w)(ho:o.op=.binOp op t x y t')
 (h:Zv P op t (st.ev x) y=some d):uV P κ Θ a w o d:=by
 obtain⟨b1,r1,_⟩:=hs.ev x;generalize st.ev x=dx at*;unfold Zv at h;split at h
 ·rename_i b;have hy:a.eval (.const .nilIface)=.nilIface:=rfl;have hT:∀ {op'},a0W P t=true->op=op'->∃ms,P.underlying t=some (.interface ms):=by
   intro _ ht _;unfold a0W at ht;split at ht
   ·rename_i ms hu;exact⟨ms,hu⟩
   ·cases ht
  rcases r1.Wb with⟨rfl,hx⟩|⟨rfl,t1,v1,hx⟩
  ·split at h
   ·rename_i ht;cases h;obtain⟨ms,hu⟩:=hT ht rfl;exact⟨.bool true,[],by simp[execOp,ho,hx,hy,binOp,eqGuard_nil_constR,Gb hu],.of (.bool _),by simp⟩
   ·rename_i ht;cases h;obtain⟨ms,hu⟩:=hT ht rfl;exact⟨.bool false,[],by simp[execOp,ho,hx,hy,binOp,eqGuard_nil_constR,Gb hu],.of (.bool _),by simp⟩
   ·cases h
  ·split at h
   ·rename_i ht;cases h;obtain⟨ms,hu⟩:=hT ht rfl;exact⟨.bool false,[],by simp[execOp,ho,hx,hy,binOp,eqGuard,EA hu],.of (.bool _),by simp⟩
   ·rename_i ht;cases h;obtain⟨ms,hu⟩:=hT ht rfl;exact⟨.bool true,[],by simp[execOp,ho,hx,hy,binOp,eqGuard,EA hu],.of (.bool _),by simp⟩
   ·cases h
 ·cases h
theorem w9.cons{w:World}{e:MapEntry}{es:List MapEntry}{p:D×D}{kv:List (D×D)}(h:w9 w (e::es) (p::kv)):Rd w e.key p.1 []/\Rd w e.val p.2 []/\w9 w es kv:=
 ⟨(h.2 0 e p rfl rfl).1,(h.2 0 e p rfl rfl).2,by simpa using h.1,fun j e' p' h1 h2=>h.2 (j+1) e' p' (by simpa using h1) (by simpa using h2)⟩
theorem XY{x y:ByteArray}:(x==y)=(x.data.toList==y.data.toList):=by
 rw[bg,MapKept.bytes_beq,cQ];constructor
 ·intro h;rw[h]
 ·intro h;obtain⟨a⟩:=x;obtain⟨b⟩:=y;simp only at h;rw[om]at h;rw[h]
theorem Ic{w:World}{kd:TypeDesc}{k k':D}{u u':Value}{b:Bool}(KG:F0 kd k=true)(hu:Rd w u k [])(uP:Rd w u' k' [])(h:keq k k'=some b):Instr.sameNow kd u u'=some b/\(b=true->u'=u):=by
 unfold keq at h;split at h
 ·rename_i s s';cases h;cases hu with
  |str x hx=>
   cases uP with
   |str y hy=>
    cases kd<;>simp[F0]at KG;refine⟨by simp only[Instr.sameNow];rw[XY],fun e=>?_⟩;rw[<-XY,MapKept.bytes_beq]at e;rw[e]
 ·rename_i k1 a k2 b';split at h
  ·rename_i e;subst e;cases h;cases hu with
   |int _ _ hx=>
    cases uP with
    |int _ _ hy=>
     cases kd<;>simp[F0]at KG;refine⟨by simp[Instr.sameNow],fun e=>?_⟩;have:a=b':=by simpa using e
     rw[this]
  ·cases h
 ·cases h
theorem Wh{w:World}{kd:TypeDesc}{k:D}{u:Value}(KG:F0 kd k=true)(hu:Rd w u k []):∀ {es:List MapEntry} {kv:List (D×D)} {r:Option D} (i:Nat),w9 w es kv->CV k kv=some r->
 (r=none/\Instr.findNow kd u es i=some none)\/∃d v j,r=some d/\Instr.findNow kd u es i=some (some (j,v))/\Rd w v d []:=by
 intro es
 induction es with
 |nil=>
  intro kv r i hr h;cases kv with
  |nil=>cases h;exact .inl ⟨rfl,rfl⟩
  |cons p kv=>exact absurd hr.1 (by simp)
 |cons e es ih=>
  intro kv r i hr h;cases kv with
  |nil=>exact absurd hr.1 (by simp)
  |cons p kv=>
   obtain⟨r1,r2,r3⟩:=hr.cons;simp only[CV]at h;split at h
   ·rename_i hq;cases h;exact .inr ⟨p.2,e.val,i,rfl,by simp[Instr.findNow,(Ic KG hu r1 hq).1],r2⟩
   ·rename_i hq;have:=ih (i+1) r3 h;simpa[Instr.findNow,(Ic KG hu r1 hq).1]using this
   ·cases h
theorem NM{w:World}{kd:TypeDesc}{k:D}{u:Value}(KG:F0 kd k=true)(hu:Rd w u k []):MapKept.IsKey kd u:=by
 cases kd<;>cases k<;>simp[F0]at KG
 all_goals cases hu
 ·simp[MapKept.IsKey,KG]
 ·simp[MapKept.IsKey]
theorem Ks{w:World}{κ:Nat->Option Value}{kd:TypeDesc}{k:D}{u:Value}{bs:aS}(KG:F0 kd k=true)(hu:pW w κ u k bs):Rd w u k []:=by
 cases kd<;>cases k<;>simp[F0]at KG
 all_goals cases hu with|v h=>cases h with|cell h=>cases h with|pure h=>cases h<;>(constructor;assumption)
theorem MR{t:TypeId}{i:TypeInfo}(h:P.info? t=some i){w:World}:(typeInfo t).run P w=.ok i w:=by
 simp[typeInfo,h]
theorem Jv{T:TypeId}{kd:TypeDesc}{dz:D}(h:Rt P T=some (kd,dz)):∃kt et z,P.underlying T=some (.map kt et)/\P.underlying kt=some kd/\dz=D.Ox z/\∀w:World,(zeroValue et).run P w=.ok z w:=by
 unfold Rt at h;split at h
 ·rename_i kt et h1;split at h
  ·rename_i d i h2 h3;split at h
   ·rename_i z h4;split at h
    ·cases h;exact⟨kt,et,z,h1,h2,rfl,fun w=>by simp[zeroValue,MR h3,h4]⟩
    ·cases h
   ·cases h
  ·cases h
 ·cases h
theorem Lz{o:Oper}{T:Nat}{x i:Operand}{ok:Bool}{d:D}(hs:dH Γ st κ Θ a w)(ho:o.op=.lookup T x i ok)
 (h:pv P st (.lookup T x i ok)=some d):uV P κ Θ a w o d:=by
 simp only[pv]at h;split at h
 ·rename_i id hx;split at h
  ·rename_i kv hH;obtain⟨g,es,c,q1,q2,q3,q4⟩:=hs.ob id _ hH;obtain⟨bs,r,_⟩:=hs.ev x;rw[hx]at r;obtain⟨hk,_⟩:=r.su;rw[q1]at hk;have ZL:a.eval x=.map (some g):=(qD hk).symm;obtain⟨bi,ri,_⟩:=hs.ev i;unfold plk at h;split at h
   ·rename_i kd dz hT;obtain⟨kt,et,z,t1,t2,t3,t4⟩:=Jv hT;have fin:∀(r:Option D),F0 kd (st.ev i)=true->CV (st.ev i) kv=some r->d=(match r with|some d=>(bif ok then .iK [d,.bool true]else d)|none=>(bif ok then .iK [dz,.bool false]else dz))->uV P κ Θ a w o d:=by
     intro r KG hf hd;have hu:=Ks KG ri;have Z4:=MapKept.run_checkKey (P:=P) (w:=w) t2 (NM KG hu) es.isEmpty 9999;rcases Wh KG hu 0 q4 hf with⟨rfl,hn⟩|⟨d',v,j,rfl,hn,hv⟩
     ·have WH:=MapKept.run_findKey (P:=P) (w:=w) t2 hn;subst hd;cases ok with
      |false=>exact⟨z,[],by simp[execOp,ho,ZL,Instr.lookup,run_underlying t1,MapKept.run_getObj_map q2,Z4,WH,t4],by rw[t3];exact Oy z,by simp⟩
      |true=>
       refine⟨.tuple #[z,.bool false],[],by simp[execOp,ho,ZL,Instr.lookup,run_underlying t1,MapKept.run_getObj_map q2,Z4,WH,t4],?_,by simp⟩;have hz:Iq w κ z dz []:=by
        have:=Oy (w:=w) (κ:=κ) z;rw[<-t3]at this;cases this with
        |v h=>exact h
        |iK vs ds bs h=>exact absurd t3 (by simp[D.Ox])
       exact .iK [z,.bool false] [dz,.bool false] [] (.cons _ _ _ _ [] [] hz (.cons _ _ _ _ [] [] (.cell (.pure (.bool _))) .nil))
     ·have WH:=MapKept.run_findKey (P:=P) (w:=w) t2 hn;subst hd;cases ok with
      |false=>exact⟨v,[],by simp[execOp,ho,ZL,Instr.lookup,run_underlying t1,MapKept.run_getObj_map q2,Z4,WH],.of hv,by simp⟩
      |true=>
       refine⟨.tuple #[v,.bool true],[],by simp[execOp,ho,ZL,Instr.lookup,run_underlying t1,MapKept.run_getObj_map q2,Z4,WH],?_,by simp⟩;exact .iK [v,.bool true] [d',.bool true] [] (.cons _ _ _ _ [] [] (.cell (.pure hv)) (.cons _ _ _ _ [] [] (.cell (.pure (.bool _))) .nil))
    split at h
    ·rename_i d' h1 h2;cases h;exact fin _ h1 h2 rfl
    ·rename_i h1 h2;cases h;exact fin _ h1 h2 rfl
    ·cases h
   ·cases h
  ·cases h
 ·cases h
theorem Rd.Yt{w:World}{v:Value}{row:aL}{o:Nat}{bs:aS}(h:Rd w v (.ep row o) bs):∃q,v=.pointer (some q):=by
 cases h;exact⟨_,rfl⟩
theorem Cc{o:Oper}{d:D}(hs:dH Γ st κ Θ a w)(h:pv P st o.op=some d):uV P κ Θ a w o d:=by
 cases ho:o.op
 all_goals rw[ho]at h
 case load t x=>exact JU hs ho h
 case lookup t x i ok=>exact Lz hs ho h
 case build t parts=>exact Mq hs ho h
 case fieldAddr t x f=>exact IK hs ho h
 case field t x f=>exact My hs ho h
 case indexAddr t x i=>exact IP hs ho h
 case extract x i=>exact KC hs ho h
 case index t x i=>exact NK hs ho h
 case binOp op t x y t'=>
  simp only[pv]at h;split at h
  ·rename_i e;cases h;exact P3 hs ho e
  ·split at h
   ·rename_i e;cases h;exact Rh hs ho e
   ·split at h
    ·rename_i e;cases h;exact P5 hs ho e
    ·exact P4 hs ho h
 case nilCheck x=>
  simp only[pv]at h;obtain⟨b,r,z⟩:=hs.ev x;have ZC:∀q,a.eval x=.pointer (some q)->uV P κ Θ a w o (st.ev x):=fun q hq=>⟨_,b,by simp[execOp,ho,hq],hq▸r,z⟩
  split at h<;>rename_i hx<;>cases h<;>rw[hx]at r ZC
  ·obtain⟨g,_,hv⟩:=r.wV;exact ZC _ hv
  ·obtain⟨_,_,_,_,_,hv⟩:=r.Cb;exact ZC _ hv
  ·obtain⟨_,hv⟩:=Rd.Yt r.OP;exact ZC _ hv
 case slice t x lo hi mx=>
  cases mx with
  |none=>exact Nl hs ho h
  |some m=>simp[pv]at h
 case move x=>
  simp only[pv,ah]at h;subst h;obtain⟨b,r,z⟩:=hs.ev x;exact⟨_,b,by simp[execOp,ho],r,z⟩
 case assign x=>
  simp only[pv,ah]at h;subst h;obtain⟨b,r,z⟩:=hs.ev x;exact⟨_,b,by simp[execOp,ho],r,z⟩
 case pick c x y=>
  simp only[pv]at h;split at h
  ·rename_i t hc;cases h;obtain⟨b,r,z⟩:=hs.ev c;rw[hc]at r;have hv:=r.uA;cases t
   ·obtain⟨b,r,z⟩:=hs.ev y;exact⟨_,b,by simp[execOp,ho,hv,asBool],r,z⟩
   ·obtain⟨b,r,z⟩:=hs.ev x;exact⟨_,b,by simp[execOp,ho,hv,asBool],r,z⟩
  ·cases h
 case unOp op t x=>
  obtain⟨b,r,z⟩:=hs.ev x;cases op<;>simp only[pv,reduceCtorEq]at h
  case neg=>
   split at h
   ·rename_i k n hx;cases h;rw[hx]at r;have hv:=r.ol;exact⟨_,[],by simp[execOp,ho,hv,Op.unary,Op.intArith],.of (.int _ _ (nS.wrap _ _)),by simp⟩
   ·cases h
  case not=>
   split at h
   ·rename_i bb hx;cases h;rw[hx]at r;have hv:=r.uA;exact⟨_,[],by simp[execOp,ho,hv,Op.unary],.of (.bool _),by simp⟩
   ·cases h
 case convert s d' x=>
  obtain⟨b,r,z⟩:=hs.ev x;simp only[pv]at h;split at h
  ·rename_i k0 n k1 k hx h1 h2;cases h;rw[hx]at r;have hv:=r.ol;have u1:P.underlying s=some (.int k1):=by
    unfold PO at h1;split at h1
    ·cases h1;assumption
    ·cases h1
   have u2:P.underlying d'=some (.int k):=by
    unfold PO at h2;split at h2
    ·cases h2;assumption
    ·cases h2
   exact⟨_,[],by simp[execOp,ho,hv,convert,run_underlying u1,run_underlying u2,Conv.intToInt],.of (.int _ _ (nS.wrap _ _)),by simp⟩
  ·cases h
 case call c=>
  simp only[pv]at h;split at h
  ·rename_i x t h1 h2 h3;refine RU hs (x:=x) (t:=t) ?_ h;rw[ho];obtain⟨callee,args,argTypes⟩:=c;simp only at h1 h2 h3;subst h1;have e1:args= #[x]:=by cases args;simp_all
   have e2:argTypes= #[t]:=by cases argTypes;simp_all
   subst e1;subst e2;rfl
  ·rename_i x y t t' h1 h2 h3;refine RY hs (x:=x) (y:=y) (t:=t) (t':=t') ?_ h;rw[ho];obtain⟨callee,args,argTypes⟩:=c;simp only at h1 h2 h3;subst h1;have e1:args= #[x,y]:=by cases args;simp_all
   have e2:argTypes= #[t,t']:=by cases argTypes;simp_all
   subst e1;subst e2;rfl
  ·cases h
 all_goals simp[pv]at h
theorem XU{Q:Exit->St->Prop}{all:Array Oper}{rest:List Oper}{o:Oper}{t:Nat}{d:D}(hd:o.dst=some t)(hg:o.guard=none)(ht:t<Γ.nt)
 (hv:pv P st o.op=some d) (h:AO P Γ all rest Q (st.set t d)):AO P Γ all (o::rest) Q st:=by
 intro κ Θ a w hs;obtain⟨v,bs,hr,hrd,hz⟩:=Cc hs hv;refine wpList_plain hg fun K hK=>?_
 unfold Oper.wp;rw[hr,Oper.upon_value,hd];exact hK _ _ (h κ Θ _ w (hs.set ht hrd hz))
end
end Go.Cx
namespace Go.Cx
open Go.RowKit
structure hY(w w':World)(Θ Θ':Nat->Nat)(tag:Nat):Prop where
 two:2<=tag
 os:w'.os=w.os
 tape:w'.tape=w.tape
 output:w'.output=w.output
 size:w.heap.size<=w'.heap.size
 block:∀b,b<w.heap.size->Θ b≠tag->w'.heap[b]?=w.heap[b]?
 owner:∀b,b<w.heap.size->Θ b≠tag->Θ' b=Θ b
 own:∀b,Θ' b≠0->b<w'.heap.size
section
variable{w w':World}{κ κ':Nat->Option Value}{Θ Θ':Nat->Nat}{tag id:Nat}{r:D}
theorem hY.free(k:hY w w' Θ Θ' tag){b:Nat}(hb:b<w.heap.size)(hz:Θ b=0):Θ' b=0:=by
 have:=k.two;rw[k.owner b hb (by omega)];exact hz
theorem Rd.over{v:Value}{d:D}{bs:aS}(k:hY w w' Θ Θ' tag)(h:Rd w v d bs)(hz:∀b∈bs,Θ b=0):Rd w' v d bs/\∀b∈bs,Θ' b=0:=by
 have:=k.two;exact⟨h.keep fun b hb=>k.block b (h.lt b hb) (by rw[hz b hb];omega),fun b hb=>k.free (h.lt b hb) (hz b hb)⟩
theorem jv.over{vs:bp}{ds:aL}{bs:aS}(k:hY w w' Θ Θ' tag)(h:jv w vs ds bs)(hz:∀b∈bs,Θ b=0):jv w' vs ds bs/\∀b∈bs,Θ' b=0:=by
 have:=k.two;exact⟨h.keep fun b hb=>k.block b (h.lt b hb) (by rw[hz b hb];omega),fun b hb=>k.free (h.lt b hb) (hz b hb)⟩
section
variable(hn:∀(j:Nat) v,κ j=some v->κ' j=some v)
include hn
end
theorem Yn.lt{v:Value}{rows:List aL}{p n:Nat}{bs:aS}(h:Yn w κ v rows p n bs):∀b∈bs,b<w.heap.size:=by
 obtain⟨b,off,cap,cs,ns,rfl,h1,h2,h3,h4,h5,rfl,_⟩:=h;intro x hx;rcases bH.1 hx with rfl|hx
 ·exact h1
 ·exact h5.lt x hx
section
variable(hn:∀(j:Nat) v,κ j=some v->κ' j=some v)
include hn
theorem Yn.stay{v:Value}{rows:List aL}{p n:Nat}{bs:aS}(h:Yn w κ v rows p n bs)(hb:∀b∈bs,w'.heap[b]?=w.heap[b]?):Yn w' κ' v rows p n bs:=by
 obtain⟨b,off,cap,cs,ns,rfl,h1,h2,h3,h4,h5,rfl,c,h6,h7⟩:=h;exact⟨b,off,cap,cs,ns,rfl,GP h1 (hb b (by simp)),h2,h3,fun j c hc=>(zC (hb b (by simp))).trans (h4 j c hc),h5.keep (fun x hx=>hb x (by simp[hx])),rfl,c,h6,hn _ _ h7⟩
end
section
variable(k:hY w w' Θ Θ' tag)(hn:∀(j:Nat) v,κ j=some v->κ' j=some v)
include k hn
theorem wZ.stay{v:Value}{d:D}{bs:aS}(h:wZ w κ v d bs)(hz:∀b∈bs,Θ b=0):wZ w' κ' v d bs/\∀b∈bs,Θ' b=0:=by
 cases h with
 |pure h=>exact⟨.pure (Rd.over k h hz).1,(Rd.over k h hz).2⟩
 |acc i v hk=>exact⟨.acc i v (hn _ _ hk),by simp⟩
 |ptr i off b hk=>exact⟨.ptr i off b (hn _ _ hk),by simp⟩
 |op i j sz off b o0 len cap hk=>exact⟨.op i j sz off b o0 len cap (hn _ _ hk),by simp⟩
theorem ey.stay{vs:bp}{ds:aL}{bs:aS}(h:ey w κ vs ds bs)(hz:∀b∈bs,Θ b=0):ey w' κ' vs ds bs/\∀b∈bs,Θ' b=0:=by
 induction ds generalizing vs bs with
 |nil=>cases h;exact⟨.nil,by simp⟩
 |cons d ds ih=>
  cases h with
  |cons v vs _ _ b1 b2 h1 h2 h3=>
   obtain⟨k1,k2⟩:=wZ.stay k hn h2 (fun b hb=>hz b (by simp[hb]));obtain⟨k3,k4⟩:=ih h3 (fun b hb=>hz b (by simp[hb]));refine⟨.cons _ _ _ _ _ _ h1 k1 k3,fun b hb=>?_⟩;rcases aZ.1 hb with hb|hb
   ·exact k2 b hb
   ·exact k4 b hb
theorem Iq.stay{v:Value}{d:D}{bs:aS}(h:Iq w κ v d bs)(hz:∀b∈bs,Θ b=0):Iq w' κ' v d bs/\∀b∈bs,Θ' b=0:=by
 cases h with
 |cell h=>exact⟨.cell (wZ.stay k hn h hz).1,(wZ.stay k hn h hz).2⟩
 |agg cs ds bs h=>exact⟨.agg _ _ _ (ey.stay k hn h hz).1,(ey.stay k hn h hz).2⟩
theorem zw.stay{vs:bp}{ds:aL}{bs:aS}(h:zw w κ vs ds bs)(hz:∀b∈bs,Θ b=0):zw w' κ' vs ds bs/\∀b∈bs,Θ' b=0:=by
 induction ds generalizing vs bs with
 |nil=>cases h;exact⟨.nil,by simp⟩
 |cons d ds ih=>
  cases h with
  |cons v vs _ _ b1 b2 h2 h3=>
   obtain⟨k1,k2⟩:=Iq.stay k hn h2 (fun b hb=>hz b (by simp[hb]));obtain⟨k3,k4⟩:=ih h3 (fun b hb=>hz b (by simp[hb]));refine⟨.cons _ _ _ _ _ _ k1 k3,fun b hb=>?_⟩;rcases aZ.1 hb with hb|hb
   ·exact k2 b hb
   ·exact k4 b hb
theorem pW.stay{v:Value}{d:D}{bs:aS}(h:pW w κ v d bs)(hz:∀b∈bs,Θ b=0):pW w' κ' v d bs/\∀b∈bs,Θ' b=0:=by
 cases h with
 |v h=>exact⟨.v (Iq.stay k hn h hz).1,(Iq.stay k hn h hz).2⟩
 |iK vs ds bs h=>exact⟨.iK _ _ _ (zw.stay k hn h hz).1,(zw.stay k hn h hz).2⟩
theorem u7.stay{j:Nat}{o:Ob}(hj:j+2≠tag)(h:u7 w κ Θ j o):u7 w' κ' Θ' j o:=by
 cases o with
 |gone=>trivial
 |tk rows=>
  obtain⟨v,bs,hk,hrd,hz⟩:=h;obtain⟨h1,h2⟩:=Rd.over k hrd hz;exact⟨v,bs,hn _ _ hk,h1,h2⟩
 |mp kv=>
  obtain⟨g,es,c,q1,q2,q3,q4⟩:=h;have hlt:g<w.heap.size:=(az.1 q2).1;have hne:Θ g≠tag:=by rw[q3];exact hj
  exact⟨g,es,c,hn _ _ q1,(k.block g hlt hne).trans q2,by rw[k.owner g hlt hne];exact q3,q4.stay⟩
 |uK sz rows u=>
  obtain⟨hrl,WN,v,bs,hk,hrd,hnd,CP⟩:=h;have hsame:∀b∈bs,w'.heap[b]?=w.heap[b]?:=fun b hb=>k.block b (hrd.lt b hb) (by rw[(CP b hb).1];exact hj)
  refine⟨hrl,fun x hx=>hn _ _ (WN x hx),v,bs,hn _ _ hk,hrd.keep hsame,hnd,fun b hb=>⟨?_,?_⟩⟩
  ·rw[k.owner b (hrd.lt b hb) (by rw[(CP b hb).1];exact hj)];exact(CP b hb).1
  ·obtain⟨x,T,hx⟩:=(CP b hb).2;exact⟨x,T,(hsame b hb).trans hx⟩
 |hole sz rows u p n=>
  obtain⟨hrl,WN,v,bs,hk,hrd,hnd,CP⟩:=h;have hsame:∀b∈bs,w'.heap[b]?=w.heap[b]?:=fun b hb=>k.block b (hrd.lt b hb) (by rw[(CP b hb).1];exact hj)
  refine⟨hrl,fun x hx=>hn _ _ (WN x hx),v,bs,hn _ _ hk,Yn.stay hn hrd hsame,hnd,fun b hb=>⟨?_,?_⟩⟩
  ·rw[k.owner b (hrd.lt b hb) (by rw[(CP b hb).1];exact hj)];exact(CP b hb).1
  ·obtain⟨x,T,hx⟩:=(CP b hb).2;exact⟨x,T,(hsame b hb).trans hx⟩
 |box cells=>
  obtain⟨g,cs,T,hk,hg,hΘ,bs,qC,hz⟩:=h;have hlt:g<w.heap.size:=(az.1 hg).1;have hne:Θ g≠tag:=by rw[hΘ];exact hj
  obtain⟨h1,h2⟩:=ey.stay k hn qC hz;exact⟨g,cs,T,hn _ _ hk,(k.block g hlt hne).trans hg,(k.owner g hlt hne).trans hΘ,bs,h1,h2⟩
 |BQ cells u=>
  obtain⟨hu,g,cs,T,hk,hg,hΘ,bs,qC,hz⟩:=h;have hlt:g<w.heap.size:=(az.1 hg).1;have hne:Θ g≠tag:=by rw[hΘ];exact hj
  obtain⟨h1,h2⟩:=ey.stay k hn qC hz;exact⟨hn _ _ hu,g,cs,T,hn _ _ hk,(k.block g hlt hne).trans hg,(k.owner g hlt hne).trans hΘ,bs,h1,h2⟩
 |row deep e sz rows=>
  obtain⟨hsz,hrl,v,cs,bs,hk,hown,qC,hΘ,hd⟩:=h;refine⟨hsz,hrl,v,cs,bs,hn _ _ hk,?_,?_,?_,?_⟩
  ·refine⟨hown.1,?_⟩;rcases hown.2 with qZ|⟨g,cap,cur,rfl,hb,Lg,rest⟩
   ·exact .inl qZ
   ·have hlt:g<w.heap.size:=(az.1 Lg).1;have hne:Θ g≠tag:=by rw[hΘ g (by simp[Value.ownBlock])];exact hj
    exact .inr ⟨g,cap,cur,rfl,hb,(k.block g hlt hne).trans Lg,rest⟩
  ·refine qC.keep fun b hb=>k.block b (qC.lt b hb) ?_
   have:=k.two;cases deep with
   |cl=>rw[(hd.2.1 b hb).1];exact hj
   |sh=>rw[hd b hb];omega
   |uq=>rw[hd b hb];omega
   |mv n=>rw[hd b hb];omega
  ·intro g hg;have hlt:=(hown.lt g hg).2;have e:=hΘ g hg;rw[k.owner g hlt (by rw[e];exact hj)];exact e
  ·cases deep with
   |cl=>
    refine⟨hd.1,fun b hb=>⟨?_,?_⟩,hd.2.2⟩
    ·rw[k.owner b (qC.lt b hb) (by rw[(hd.2.1 b hb).1];exact hj)];exact(hd.2.1 b hb).1
    ·obtain⟨x,T,hx⟩:=(hd.2.1 b hb).2;exact⟨x,T,(k.block b (qC.lt b hb) (by rw[(hd.2.1 b hb).1];exact hj)).trans hx⟩
   |sh=>exact fun b hb=>k.free (qC.lt b hb) (hd b hb)
   |uq=>exact fun b hb=>k.free (qC.lt b hb) (hd b hb)
   |mv n=>exact fun b hb=>k.free (qC.lt b hb) (hd b hb)
end
end
section
variable{Γ:sO}{st:St}{κ κ':Nat->Option Value}{Θ Θ':Nat->Nat}{a:Act}{w w':World}{tag:Nat}
theorem dH.base(hs:dH Γ st κ Θ a w):Γ.W0.heap.size<=w.heap.size:=hs.stays.size
theorem dH.On(hs:dH Γ st κ Θ a w)(k:hY w w' Θ Θ' tag):Me Γ w':=by
 refine⟨k.os.trans hs.stays.os,k.tape.trans hs.stays.tape,k.output.trans hs.stays.output,dK hs.stays.size k.size,fun b hb hx=>?_⟩;have:=k.two;have h1:=(hs.old b hb hx).2;exact(k.block b (cz hb hs.base) (by omega)).trans (hs.stays.block b hb hx)
theorem dH.Tk(hs:dH Γ st κ Θ a w)(k:hY w w' Θ Θ' tag):∀b,b<Γ.W0.heap.size->¬Γ.X b->Θ' b=Γ.Θ0 b/\Θ' b<=1:=by
 intro b hb hx;have:=k.two;have h1:=hs.old b hb hx;rw[k.owner b (cz hb hs.base) (by omega)];exact h1
theorem dH.mm(hs:dH Γ st κ Θ a w)(k:hY w w' Θ Θ' tag)(hn:∀(j:Nat) v,κ j=some v->κ' j=some v){ρ:Nat->Nat}(hu:xB Γ st.H κ Θ w ρ):
 (∀b,ρ b≠0->Θ' b=0/\Pe Γ b/\Wr w' b)/\(∀id e sz rows,id+2≠tag->st.H[id]?=some (.row .uq e sz rows)->
  ∃v cs bs,κ' id=some v/\w'.ownsRow 0 e sz v rows.length cs/\jv w' cs rows.flatten bs/\bs.Nodup/\∀b∈bs,ρ b=id+1)/\
  ∀id o,id+2≠tag->st.H[id]?=some o->Hp w' κ' ρ id o:=by
 have h2:=k.two;refine⟨?_,?_,?_⟩
 ·intro b hb;obtain⟨h0,hm,x,T,hx⟩:=hu.free b hb;have hlt:b<w.heap.size:=(az.1 hx).1;exact⟨k.free hlt h0,hm,x,T,(k.block b hlt (by omega)).trans hx⟩
 ·intro id e sz rows hid hH;obtain⟨v,cs,bs,hk,hown,qC,hnd,hρ⟩:=hu.rows id e sz rows hH;obtain⟨_,_,v2,_,_,hk2,_,_,hΘ,_⟩:=hs.ob id _ hH;rw[hk]at hk2;cases hk2;refine⟨v,cs,bs,hn _ _ hk,⟨hown.1,?_⟩,qC.keep fun b hb=>k.block b (qC.lt b hb) ?_,hnd,hρ⟩
  ·rcases hown.2 with qZ|⟨g,cap,cur,rfl,hb,Lg,rest⟩
   ·exact .inl qZ
   ·have hlt:g<w.heap.size:=(az.1 Lg).1;have hne:Θ g≠tag:=by rw[hΘ g (by simp[Value.ownBlock])];exact hid
    exact .inr ⟨g,cap,cur,rfl,hb,(k.block g hlt hne).trans Lg,rest⟩
  ·have:=hρ b hb;have:=(hu.free b (by omega)).1;omega
 ·intro id o hid hH;have hm:=hu.more id o hH;have hb0:∀ {bs:aS},(∀b∈bs,ρ b=id+1)->∀b∈bs,Θ b≠tag:=fun hρ b hb=>by
   have:=hρ b hb;have:=(hu.free b (by omega)).1;omega
  cases o with
  |tk rows=>
   obtain⟨v,bs,hk,hrd,hnd,hρ⟩:=hm;exact⟨v,bs,hn _ _ hk,hrd.keep fun b hb=>k.block b (hrd.lt b hb) (hb0 hρ b hb),hnd,hρ⟩
  |row kd e sz rows=>
   cases kd with
   |mv n=>
    obtain⟨v,cs,bs,hk,hown,qC,hnd,hρ⟩:=hm;obtain⟨_,_,v2,_,_,hk2,_,_,hΘ,_⟩:=hs.ob id _ hH;rw[hk]at hk2;cases hk2;refine⟨v,cs,bs,hn _ _ hk,⟨hown.1,?_⟩,qC.keep fun b hb=>k.block b (qC.lt b hb) (hb0 hρ b hb),hnd,hρ⟩;rcases hown.2 with qZ|⟨g,cap,cur,rfl,hb,Lg,rest⟩
    ·exact .inl qZ
    ·have hlt:g<w.heap.size:=(az.1 Lg).1;have hne:Θ g≠tag:=by rw[hΘ g (by simp[Value.ownBlock])];exact hid
     exact .inr ⟨g,cap,cur,rfl,hb,(k.block g hlt hne).trans Lg,rest⟩
   |_=>trivial
  |_=>trivial
theorem Hp.re{ρ ρ':Nat->Nat}{id:Nat}{o:Ob}(h:Hp w κ ρ id o)(hr:∀b,ρ b=id+1->ρ' b=id+1):Hp w κ ρ' id o:=by
 cases o with
 |tk rows=>
  obtain⟨v,bs,hk,hrd,hnd,hρ⟩:=h;exact⟨v,bs,hk,hrd,hnd,fun b hb=>hr b (hρ b hb)⟩
 |row kd e sz rows=>
  cases kd with
  |mv n=>
   obtain⟨v,cs,bs,hk,hown,qC,hnd,hρ⟩:=h;exact⟨v,cs,bs,hk,hown,qC,hnd,fun b hb=>hr b (hρ b hb)⟩
  |_=>trivial
 |_=>trivial
theorem dH.step(hs:dH Γ st κ Θ a w){H':bP}(k:hY w w' Θ Θ' tag)(hm:∀b,2<=Θ' b->vg Γ b)(hn:∀(j:Nat) v,κ j=some v->κ' j=some v)
 (hko:∀id,H'.length<=id->κ' id=none) (hk1:∀(id:Nat) u,κ' id=some u->u.oneCell'=true)
 (yQ:∀(j:Nat) o,H'[j]?=some o->o=.gone\/(j+2≠tag/\st.H[j]?=some o)\/u7 w' κ' Θ' j o) (hu:∃ρ,xB Γ H' κ' Θ' w' ρ):dH Γ ⟨st.σ,H'⟩ κ' Θ' a w':=by
 refine⟨hs.defers,hs.size,hko,hk1,?_,?_,k.own,hs.Tk k,hm,hs.On k,hu⟩
 ·intro t;obtain⟨bs,hr,hz⟩:=hs.slot t;exact⟨bs,pW.stay k hn hr hz⟩
 ·intro j o hj;rcases yQ j o hj with rfl|⟨hne,hj'⟩|h
  ·trivial
  ·exact u7.stay k hn hne (hs.ob j o hj')
  ·exact h
def vc(κ:Nat->Option Value)(id:Nat)(v:Option Value):Nat->Option Value:=fun i=>if i=id then v else κ i
theorem kK(κ:Nat->Option Value)(id:Nat)(v:Option Value):vc κ id v id=v:=by simp[vc]
theorem vB{κ:Nat->Option Value}{id:Nat}(h:κ id=none)(v:Option Value):∀(j:Nat) u,κ j=some u->vc κ id v j=some u:=by
 intro j u hj;unfold vc;rw[b9 (fun e=>by subst e;rw[h]at hj;cases hj)];exact hj
def Ob.Rv:Ob->Bool
 | .row .uq _ _ _=>true
 | .row (.mv _) _ _ _=>true
 | .tk _=>true
 |_=>false
def Ob.mvB:Ob->Bool
 | .row (.mv _) _ _ _=>true
 | .tk _=>true
 |_=>false
theorem Hp.uo{ρ:Nat->Nat}{id:Nat}{o:Ob}(h:o.mvB=false):Hp w κ ρ id o:=by
 cases o with
 |tk rows=>simp[Ob.mvB]at h
 |row kd e sz rows=>
  cases kd with
  |mv n=>simp[Ob.mvB]at h
  |_=>trivial
 |_=>trivial
theorem Hp.plain{ρ:Nat->Nat}{id:Nat}{o:Ob}(h:o.Rv=false):Hp w κ ρ id o:=by
 cases o with
 |tk rows=>simp[Ob.Rv]at h
 |row kd e sz rows=>
  cases kd with
  |mv n=>simp[Ob.Rv]at h
  |_=>trivial
 |_=>trivial
theorem dH.push(hs:dH Γ st κ Θ a w){v:Value}{o:Ob}(h1:v.oneCell'=true)(k:hY w w' Θ Θ' (st.H.length+2))(hm:∀b,2<=Θ' b->vg Γ b)
 (ho:u7 w' (vc κ st.H.length (some v)) Θ' st.H.length o) (hq:o.Rv=false):dH Γ ⟨st.σ,st.H++[o]⟩ (vc κ st.H.length (some v)) Θ' a w':=by
 have hn:=vB (hs.ni _ (bL _)) (some v);have key:∀(j:Nat) x,(st.H++[o])[j]?=some x->(j=st.H.length/\x=o)\/(j+2≠st.H.length+2/\st.H[j]?=some x):=by
  intro j x hj;by_cases hlt:j<st.H.length
  ·rw[aq hlt]at hj;exact .inr ⟨by omega,hj⟩
  ·have hj':=(aE.1 hj).1;simp only[av,aT,bW]at hj';have e:j=st.H.length:=by omega
   subst e;rw[ax (bL _)]at hj;simp at hj;exact .inl ⟨rfl,hj.symm⟩
 obtain⟨ρ,hu⟩:=hs.qz;have qy:=hs.mm k hn hu;refine hs.step k hm hn ?_ ?_ ?_ ⟨ρ,qy.1,?_,?_⟩
 ·intro i hi;simp only[av,aT,bW]at hi;unfold vc;rw[b9 (by omega)];exact hs.ni i (by omega)
 ·intro i u hu;unfold vc at hu;split at hu
  ·cases hu;exact h1
  ·exact hs.mw i u hu
 ·intro j x hj;rcases key j x hj with⟨rfl,rfl⟩|h
  ·exact .inr (.inr ho)
  ·exact .inr (.inl h)
 ·intro id e sz rows hj;rcases key id _ hj with⟨rfl,rfl⟩|h
  ·simp[Ob.Rv]at hq
  ·exact qy.2.1 id e sz rows h.1 h.2
 ·intro id x hj;rcases key id _ hj with⟨rfl,rfl⟩|h
  ·exact Hp.plain hq
  ·exact qy.2.2 id x h.1 h.2
theorem dH.change(hs:dH Γ st κ Θ a w){id:Nat}{o:Ob}(k:hY w w' Θ Θ' (id+2))(hm:∀b,2<=Θ' b->vg Γ b)(ho:u7 w' κ Θ' id o)(hq:o.Rv=false):
 dH Γ ⟨st.σ,st.H.set id o⟩ κ Θ' a w':=by
 have key:∀(j:Nat) x,(st.H.set id o)[j]?=some x->(j=id/\x=o)\/(j+2≠id+2/\st.H[j]?=some x):=by
  intro j x hj;by_cases e:id=j
  ·subst e;have hlt:id<st.H.length:=by
    have:=(aE.1 hj).1;simpa using this
   rw[dD hlt]at hj;cases hj;exact .inl ⟨rfl,rfl⟩
  ·rw[bu e]at hj;exact .inr ⟨by omega,hj⟩
 obtain⟨ρ,hu⟩:=hs.qz;have qy:=hs.mm k (fun _ _ h=>h) hu;refine hs.step k hm (fun _ _ h=>h) (fun i hi=>hs.ni i (by simpa using hi)) hs.mw ?_ ⟨ρ,qy.1,?_,?_⟩
 ·intro j x hj;rcases key j x hj with⟨rfl,rfl⟩|h
  ·exact .inr (.inr ho)
  ·exact .inr (.inl h)
 ·intro i e sz rows hj;rcases key i _ hj with⟨rfl,rfl⟩|h
  ·simp[Ob.Rv]at hq
  ·exact qy.2.1 i e sz rows h.1 h.2
 ·intro i x hj;rcases key i _ hj with⟨rfl,rfl⟩|h
  ·exact Hp.plain hq
  ·exact qy.2.2 i x h.1 h.2
theorem dH.wh(hs:dH Γ st κ Θ a w)(h:∀b,2<=Θ' b->2<=Θ b\/w.heap.size<=b):∀b,2<=Θ' b->vg Γ b:=by
 intro b hb;rcases h b hb with h|h
 ·exact hs.mine b h
 ·exact .inl (dK hs.base h)
theorem hY.refl(h:∀b,Θ b≠0->b<w.heap.size)(h2:2<=tag):hY w w Θ Θ tag:=⟨h2,rfl,rfl,rfl,bL _,fun _ _ _=>rfl,fun _ _ _=>rfl,h⟩
theorem hY.Wv(h:∀b,Θ b≠0->b<w.heap.size)(hb:Below w.heap.size w w')(h2:2<=tag):hY w w' Θ Θ tag:=
 ⟨h2,hb.os,hb.tape,hb.output,hb.size,fun b hlt _=>hb.block b hlt,fun _ _ _=>rfl,fun b hn=>cz (h b hn) hb.size⟩
theorem dH.grow(hs:dH Γ st κ Θ a w)(hb:Below w.heap.size w w'):dH Γ st κ Θ a w':=by
 have k:hY w w' Θ Θ (st.H.length+2):=hY.Wv hs.own hb (by omega);obtain⟨ρ,hu⟩:=hs.qz;have qy:=hs.mm k (fun _ _ h=>h) hu;have hlt:∀(j:Nat) o,st.H[j]?=some o->j+2≠st.H.length+2:=fun j o h=>by
  have:=(aE.1 h).1;omega
 exact hs.step k hs.mine (fun _ _ h=>h) hs.ni hs.mw (fun j o h=>.inr (.inl ⟨hlt j o h,h⟩)) ⟨ρ,qy.1,fun id e sz rows h=>qy.2.1 id e sz rows (hlt _ _ h) h,fun id o h=>qy.2.2 id o (hlt _ _ h) h⟩
theorem dH.drew(hs:dH Γ st κ Θ a w):dH Γ st κ Θ a w.drew:=hs.grow ((Below.refl _ _).drew)
def kill(H:bP):aS->bP
 | []=>H
 |m::ms=>kill (H.set m .gone) ms
theorem fH(H:bP)(ms:aS):(kill H ms).length=H.length:=by
 induction ms generalizing H with
 |nil=>rfl
 |cons m ms ih=>simp[kill,ih]
theorem mj{H:bP}{ms:aS}{j:Nat}{o:Ob}(h:(kill H ms)[j]?=some o):o=.gone\/(j∉ms/\H[j]?=some o):=by
 induction ms generalizing H with
 |nil=>exact .inr ⟨by simp,h⟩
 |cons m ms ih=>
  rcases ih h with h|⟨h1,h2⟩
  ·exact .inl h
  ·by_cases e:m=j
   ·subst e;have hlt:=(aE.1 h2).1;rw[dD (by simpa using hlt)]at h2;cases h2;exact .inl rfl
   ·rw[bu e]at h2;exact .inr ⟨by simp[h1,pV e],h2⟩
def x7(κ:Nat->Option Value)(Θ ρ:Nat->Nat)(w:World)(m:Nat)(k:RK)(rows:List aL):Prop:=
 ∃v bs,κ m=some v/\Rd w v (.sl rows) bs/\(∀b∈bs,Θ b=0)/\(k=.uq->bs.Nodup/\∀b∈bs,ρ b=m+1)
theorem tK{e sz:Nat}{v:Value}{rows:List aL}{cs:bp}{bs:aS}(hrl:∀r∈rows,r.length=sz)(hown:w.ownsRow 0 e sz v rows.length cs)(qC:jv w cs rows.flatten bs):
 Rd w v (.sl rows) (v.ownBlock.toList++bs):=by
 rcases hown.2 with⟨rfl,hn⟩|⟨g,cap,cur,rfl,_,hg,hnc,hcm,_,ht⟩
 ·have:rows=[]:=cM hn;subst this;cases qC;exact .vW
 ·have hlt:g<w.heap.size:=(az.1 hg).1;refine .sl g 0 cap sz rows cs bs hlt hnc hcm hrl (fun j c hc=>?_) qC;have:=hown.cells (g:=g) (by simp[Value.ownBlock]) j c hc;simpa[Addr.add_lit]using this
theorem dH.Zo(hs:dH Γ st κ Θ a w){ρ:Nat->Nat}(hu:xB Γ st.H κ Θ w ρ){m e sz:Nat}{k:RK}{rows:List aL}(hH:st.H[m]?=some (.row k e sz rows))(hk:k.M6=true):
 ∃Θ' ρ',dH Γ ⟨st.σ,st.H.set m .gone⟩ κ Θ' a w/\xB Γ (st.H.set m .gone) κ Θ' w ρ'/\x7 κ Θ' ρ' w m k rows/\
  (∀b,Θ b=0->Θ' b=0)/\(∀b,ρ b≠0->ρ' b=ρ b):=by
 obtain⟨hsz,hrl,v,cs,bs,hkm,hown,qC,hΘ,hz⟩:=hs.ob m _ hH;have vb:∀b∈bs,Θ b=0:=by cases k<;>first|exact hz|simp[RK.M6]at hk
 let Θ':Nat->Nat:=fun b=>if Θ b=m+2 then 0 else Θ b
 let ρ':Nat->Nat:=fun b=>if some b=v.ownBlock then m+1 else ρ b
 have hk':hY w w Θ Θ' (m+2):=⟨by omega,rfl,rfl,rfl,bL _,fun _ _ _=>rfl,fun b _ hne=>b9 hne,fun b hb=>hs.own b (fun h0=>hb (by simp only[Θ'];split<;>simp_all))⟩
 have hT0:∀b,Θ b=0->Θ' b=0:=fun b h=>by simp only[Θ'];split<;>omega
 have Ko:∀b,2<=Θ' b->vg Γ b:=fun b hb=>hs.mine b (by simp only[Θ']at hb;split at hb<;>omega)
 have CR:∀g,v.ownBlock=some g->ρ g=0:=by
  intro g hg;cases h:ρ g with
  |zero=>rfl
  |succ n=>have:=(hu.free g (by omega)).1;rw[hΘ g hg]at this;omega
 have hρ:∀b,ρ b≠0->ρ' b=ρ b:=fun b hb=>b9 (fun h=>hb (CR b h.symm))
 have key:∀(j:Nat) x,(st.H.set m .gone)[j]?=some x->x=.gone\/(j+2≠m+2/\st.H[j]?=some x):=by
  intro j x hj;rcases mj (ms:=[m]) hj with h|⟨h1,h2⟩
  ·exact .inl h
  ·exact .inr ⟨by simp at h1;omega,h2⟩
 have qy:=hs.mm hk' (fun _ _ h=>h) hu;have hU:xB Γ (st.H.set m .gone) κ Θ' w ρ':=by
  refine⟨fun b hb=>?_,fun id e sz rows h=>?_,fun id x h=>?_⟩
  ·by_cases hb':some b=v.ownBlock
   ·have e1:=hΘ b hb'.symm;refine⟨by simp only[Θ'];rw[bN e1],.inl (hs.mine b (by omega)),?_⟩;rcases hown.2 with⟨rfl,_⟩|⟨g,cap,cur,rfl,_,hg,_⟩
    ·simp[Value.ownBlock]at hb'
    ·simp[Value.ownBlock]at hb';subst hb';exact⟨_,_,hg⟩
   ·exact qy.1 b (by simp only[ρ']at hb;rwa[b9 hb']at hb)
  ·rcases key id _ h with h|⟨h1,h2⟩
   ·cases h
   ·obtain⟨v2,c2,b2,q1,q2,q3,q4,q5⟩:=qy.2.1 id e sz rows h1 h2;exact⟨v2,c2,b2,q1,q2,q3,q4,fun b hb=>by rw[hρ b (by rw[q5 b hb];omega)];exact q5 b hb⟩
  ·rcases key id _ h with h|⟨h1,h2⟩
   ·subst h;trivial
   ·exact(qy.2.2 id x h1 h2).re fun b hb=>(hρ b (by omega)).trans hb
 refine⟨Θ',ρ',?_,hU,?_,hT0,hρ⟩
 ·exact hs.step hk' Ko (fun _ _ h=>h) (fun i hi=>hs.ni i (by simpa using hi)) hs.mw (fun j x hj=>by
   rcases key j x hj with h|h
   ·exact .inl h
   ·exact .inr (.inl h)) ⟨ρ',hU⟩
 ·have plain:k≠ .uq->x7 κ Θ' ρ' w m k rows:=fun hne=>by
   refine⟨v,_,hkm,tK hrl hown qC,fun b hb=>?_,fun h=>absurd h hne⟩;rcases aZ.1 hb with hb|hb
   ·simp only[ju]at hb;simp only[Θ'];rw[bN (hΘ b hb)]
   ·exact hT0 b (vb b hb)
  cases k with
  |cl=>simp[RK.M6]at hk
  |sh=>exact plain (by simp)
  |mv n=>exact plain (by simp)
  |uq=>
   obtain⟨v2,c2,b2,q1,q2,q3,q4,q5⟩:=hu.rows m e sz rows hH;rw[hkm]at q1;cases q1;have hfr:∀b∈b2,ρ b≠0:=fun b hb=>by rw[q5 b hb];omega
   refine⟨v,_,hkm,tK hrl q2 q3,fun b hb=>?_,fun _=>⟨?_,fun b hb=>?_⟩⟩
   ·rcases aZ.1 hb with hb|hb
    ·simp only[ju]at hb;simp only[Θ'];rw[bN (hΘ b hb)]
    ·exact hT0 b (hu.free b (hfr b hb)).1
   ·rw[bD];refine⟨by cases v.ownBlock<;>simp,q4,fun x hx y hy e=>?_⟩;simp only[ju]at hx;subst e;exact hfr x hy (CR x hx)
   ·rcases aZ.1 hb with hb|hb
    ·simp only[ju]at hb;simp only[ρ'];rw[bN hb.symm]
    ·rw[hρ b (hfr b hb)];exact q5 b hb
theorem dH.a2J(hs:dH Γ st κ Θ a w){ρ:Nat->Nat}(hu:xB Γ st.H κ Θ w ρ){m:Nat}{rows:List aL}(hH:st.H[m]?=some (.tk rows)):
 dH Γ ⟨st.σ,st.H.set m .gone⟩ κ Θ a w/\xB Γ (st.H.set m .gone) κ Θ w ρ/\x7 κ Θ ρ w m .uq rows:=by
 have key:∀(j:Nat) x,(st.H.set m .gone)[j]?=some x->x=.gone\/(j≠m/\st.H[j]?=some x):=by
  intro j x hj;rcases mj (ms:=[m]) hj with h|⟨h1,h2⟩
  ·exact .inl h
  ·exact .inr ⟨by simpa using h1,h2⟩
 have hU:xB Γ (st.H.set m .gone) κ Θ w ρ:=by
  refine⟨hu.free,fun id e sz rows h=>?_,fun id x h=>?_⟩
  ·rcases key id _ h with h|⟨_,h2⟩
   ·cases h
   ·exact hu.rows id e sz rows h2
  ·rcases key id _ h with h|⟨_,h2⟩
   ·subst h;trivial
   ·exact hu.more id x h2
 obtain⟨v,bs,q1,q2,q3,q4⟩:=hu.more m _ hH;refine⟨⟨hs.defers,hs.size,fun i hi=>hs.ni i (by simpa using hi),hs.mw,hs.slot,fun id o h=>?_,hs.own,hs.old,hs.mine,hs.stays,ρ,hU⟩,hU,v,bs,q1,q2,fun b hb=>(hu.free b (by rw[q4 b hb];omega)).1,fun _=>⟨q3,q4⟩⟩;rcases key id _ h with h|⟨_,h2⟩
 ·subst h;trivial
 ·exact hs.ob id o h2
def Ob.Hi:Ob->Option (RK×List aL)
 | .row k _ _ rows=>(match k with| .cl=>none|_=>some (k,rows))
 | .tk rows=>some (.uq,rows)
 |_=>none
theorem Ob.Up{o:Ob}{k:RK}{rows:List aL}(h:o.Hi=some (k,rows)):(∃e sz,o=.row k e sz rows/\k.M6=true)\/(o=.tk rows/\k=.uq):=by
 cases o with
 |row k' e sz r=>
  cases k' with
  |cl=>simp[Ob.Hi]at h
  |_=>simp only[Ob.Hi,ah,cK]at h;obtain⟨rfl,rfl⟩:=h;exact .inl ⟨e,sz,rfl,rfl⟩
 |tk r=>simp only[Ob.Hi,ah,cK]at h;obtain⟨rfl,rfl⟩:=h;exact .inr ⟨rfl,rfl⟩
 |_=>simp[Ob.Hi]at h
theorem dH.a2I(hs:dH Γ st κ Θ a w){ρ:Nat->Nat}(hu:xB Γ st.H κ Θ w ρ){m:Nat}{o:Ob}{k:RK}{rows:List aL}(hH:st.H[m]?=some o)(ho:o.Hi=some (k,rows)):
 ∃Θ' ρ',dH Γ ⟨st.σ,st.H.set m .gone⟩ κ Θ' a w/\xB Γ (st.H.set m .gone) κ Θ' w ρ'/\x7 κ Θ' ρ' w m k rows/\
  (∀b,Θ b=0->Θ' b=0)/\(∀b,ρ b≠0->ρ' b=ρ b):=by
 rcases Ob.Up ho with⟨e,sz,rfl,hk⟩|⟨rfl,rfl⟩
 ·exact hs.Zo hu hH hk
 ·obtain⟨h1,h2,h3⟩:=hs.a2J hu hH;exact⟨Θ,ρ,h1,h2,h3,fun _ h=>h,fun _ _=>rfl⟩
theorem dH.NW:∀(ms:aS) {st:St} {Θ ρ:Nat->Nat},dH Γ st κ Θ a w->xB Γ st.H κ Θ w ρ->ms.Nodup->
 (∀m∈ms,∃o k rows,st.H[m]?=some o/\o.Hi=some (k,rows))->
 ∃Θ' ρ',dH Γ ⟨st.σ,kill st.H ms⟩ κ Θ' a w/\xB Γ (kill st.H ms) κ Θ' w ρ'/\(∀m∈ms,∀o k rows,st.H[m]?=some o->o.Hi=some (k,rows)->x7 κ Θ' ρ' w m k rows)/\
  (∀b,Θ b=0->Θ' b=0)/\(∀b,ρ b≠0->ρ' b=ρ b):=by
 intro ms
 induction ms with
 |nil=>intro st Θ ρ hs hu _ _;exact⟨Θ,ρ,hs,hu,by simp,fun _ h=>h,fun _ _=>rfl⟩
 |cons m ms ih=>
  intro st Θ ρ hs hu hnd hall;obtain⟨hnm,Ds⟩:=ed.1 hnd;obtain⟨o,k,rows,hH,hk⟩:=hall m (by simp);obtain⟨Θ1,ρ1,hs1,hu1,hm1,KK,RG⟩:=hs.a2I hu hH hk;have Lf:∀m'∈ms,(st.H.set m .gone)[m']?=st.H[m']?:=fun m' hm'=>bu (fun e:m=m'=>hnm (by rw[e];exact hm'))
  obtain⟨Θ2,ρ2,hs2,VN,hm2,TQ,WJ⟩:=ih (st:=⟨st.σ,st.H.set m .gone⟩) hs1 hu1 Ds (fun m' hm'=>by
   obtain⟨o',k',cr,h1,h2⟩:=hall m' (by simp[hm']);exact⟨o',k',cr,(Lf m' hm').trans h1,h2⟩)
  refine⟨Θ2,ρ2,hs2,VN,?_,fun b h=>TQ b (KK b h),fun b h=>(WJ b (by rw[RG b h];exact h)).trans (RG b h)⟩;intro m' hm' o' k' cr BP ho';rcases bH.1 hm' with rfl|T8
  ·rw[hH]at BP;cases BP;rw[hk]at ho';cases ho';obtain⟨v,bs,q1,q2,q3,q4⟩:=hm1;refine⟨v,bs,q1,q2,fun b hb=>TQ b (q3 b hb),fun hq=>?_⟩;obtain⟨q5,q6⟩:=q4 hq;exact⟨q5,fun b hb=>by rw[WJ b (by rw[q6 b hb];omega)];exact q6 b hb⟩
  ·exact hm2 m' T8 o' k' cr ((Lf m' T8).trans BP) ho'
theorem dH.Cw:∀(ms:aS) {st:St} {Θ ρ:Nat->Nat},dH Γ st κ Θ a w->xB Γ st.H κ Θ w ρ->ms.Nodup->
 (∀m∈ms,∃k e sz rows,st.H[m]?=some (.row k e sz rows)/\k.M6=true)->
 ∃Θ' ρ',dH Γ ⟨st.σ,kill st.H ms⟩ κ Θ' a w/\xB Γ (kill st.H ms) κ Θ' w ρ'/\(∀m∈ms,∀k e sz rows,st.H[m]?=some (.row k e sz rows)->x7 κ Θ' ρ' w m k rows)/\
  (∀b,Θ b=0->Θ' b=0)/\(∀b,ρ b≠0->ρ' b=ρ b):=by
 intro ms
 induction ms with
 |nil=>intro st Θ ρ hs hu _ _;exact⟨Θ,ρ,hs,hu,by simp,fun _ h=>h,fun _ _=>rfl⟩
 |cons m ms ih=>
  intro st Θ ρ hs hu hnd hall;obtain⟨hnm,Ds⟩:=ed.1 hnd;obtain⟨k,e,sz,rows,hH,hk⟩:=hall m (by simp);obtain⟨Θ1,ρ1,hs1,hu1,hm1,KK,RG⟩:=hs.Zo hu hH hk;have Lf:∀m'∈ms,(st.H.set m .gone)[m']?=st.H[m']?:=fun m' hm'=>bu (fun e:m=m'=>hnm (by rw[e];exact hm'))
  obtain⟨Θ2,ρ2,hs2,VN,hm2,TQ,WJ⟩:=ih (st:=⟨st.σ,st.H.set m .gone⟩) hs1 hu1 Ds (fun m' hm'=>by
   obtain⟨k',e',sz',cr,h1,h2⟩:=hall m' (by simp[hm']);exact⟨k',e',sz',cr,(Lf m' hm').trans h1,h2⟩)
  refine⟨Θ2,ρ2,hs2,VN,?_,fun b h=>TQ b (KK b h),fun b h=>(WJ b (by rw[RG b h];exact h)).trans (RG b h)⟩;intro m' hm' k' e' sz' cr BP;rcases bH.1 hm' with rfl|T8
  ·rw[hH]at BP;cases BP;obtain⟨v,bs,q1,q2,q3,q4⟩:=hm1;refine⟨v,bs,q1,q2,fun b hb=>TQ b (q3 b hb),fun hq=>?_⟩;obtain⟨q5,q6⟩:=q4 hq;exact⟨q5,fun b hb=>by rw[WJ b (by rw[q6 b hb];omega)];exact q6 b hb⟩
  ·exact hm2 m' T8 k' e' sz' cr ((Lf m' T8).trans BP)
end
end Go.Cx
namespace Go.Cx
open Go.RowKit
section
variable{P:Program}{Γ:sO}{Q:Exit->St->Prop}{st:St}{κ:Nat->Option Value}{Θ:Nat->Nat}{a:Act}{w:World}{all:Array Oper}{rest:List Oper}
theorem Va{c:Operand}{x y:Code}{b:Bool}(hc:st.ev c=.bool b)(ht:b=true->AW P Γ x Q st)(hf:b=false->AW P Γ y Q st):AW P Γ (.cond c x y) Q st:=by
 intro κ Θ a w hs;obtain⟨bs,r,_⟩:=hs.ev c;rw[hc]at r;exact wp_cond_split r.uA (fun h=>ht h κ Θ a w hs) (fun h=>hf h κ Θ a w hs)
theorem Io{o:Oper}{j s:Nat}{want b:Bool}(hg:o.guard=some (j,want))(hj:(all[j]?).bind (·.dst)=some s)(hb:lk st.σ s=.bool b)
 (hd:∀t,o.dst=some t->t<Γ.nt)
 (a50:b=want->AO P Γ all ({o with guard:=none}::rest) Q st) (hno:b≠want->AO P Γ all rest Q (st.put o.dst (.iK []))):AO P Γ all (o::rest) Q st:=by
 intro κ Θ a w hs;obtain⟨bs,r,_⟩:=hs.slot s;rw[hb]at r;have hv:=r.uA;have hlt:s<a.tmps.size:=by
  rcases dX s a.tmps.size with h|h
  ·exact h
  ·exfalso;rw[bw,pT h]at hv;simp[undef]at hv
 have hy:yielded all a.tmps j=some b:=by
  have h1:a.tmps[s]?=some (.bool b):=by
   rw[bw,cE hlt]at hv;rw[cE hlt];simpa using hv
  simp[yielded,hj,h1]
 by_cases e:b=want
 ·have:=a50 e κ Θ a w hs;unfold wpList at this⊢;have hw:Region.wanted o (yielded all a.tmps)=true:=by simp[Region.wanted,hg,hy,e]
  have hw':Region.wanted {o with guard:=none} (yielded all a.tmps)=true:=rfl;rw[bN hw];rw[bN hw']at this;exact this
 ·have hw:Region.wanted o (yielded all a.tmps)=false:=by simp[Region.wanted,hg,hy,e]
  unfold wpList;rw[hw,b9 (by simp)];refine hno e κ Θ _ w ?_;cases Le:o.dst with
  |none=>exact hs
  |some t=>exact hs.set (hd t Le) (.iK [] [] [] .nil) (by simp)
theorem pW.L7{w:World}{κ:Nat->Option Value}{v:Value}{bs:aS}(h:pW w κ v (.iK []) bs):v=.tuple #[]:=by
 cases h with
 |v h=>cases h with|cell h=>cases h with|pure h=>cases h
 |iK vs ds bs h=>cases h;rfl
theorem KU{o:Oper}{j s:Nat}{want:Bool}(hg:o.guard=some (j,want))(hj:(all[j]?).bind (·.dst)=some s)(hb:lk st.σ s=.iK [])
 (hd:∀t,o.dst=some t->t<Γ.nt) (hno:AO P Γ all rest Q (st.put o.dst (.iK []))):AO P Γ all (o::rest) Q st:=by
 intro κ Θ a w hs;obtain⟨bs,r,_⟩:=hs.slot s;rw[hb]at r;have hv:=r.L7;have hy:yielded all a.tmps j=none:=by
  rcases dX s a.tmps.size with hlt|hlt
  ·have h1:a.tmps[s]?=some (.tuple #[]):=by
    rw[bw,cE hlt]at hv;rw[cE hlt];simpa using hv
   simp[yielded,hj,h1]
  ·simp[yielded,hj,pT hlt]
 have hw:Region.wanted o (yielded all a.tmps)=false:=by simp[Region.wanted,hg,hy]
 unfold wpList;rw[hw,b9 (by simp)];refine hno κ Θ _ w ?_;cases Le:o.dst with
 |none=>exact hs
 |some t=>exact hs.set (hd t Le) (.iK [] [] [] .nil) (by simp)
theorem hY.alloc(hs:dH Γ st κ Θ a w)(o:Obj){tag:Nat}(h2:2<=tag):hY w (w.alloc o) Θ (fun b=>if b=w.heap.size then tag else Θ b) tag:=by
 refine⟨h2,rfl,rfl,rfl,by simp,fun b hb _=>Below.heap_alloc w o b hb,fun b hb _=>?_,fun b hb=>?_⟩
 ·rw[b9 (by omega)]
 ·by_cases e:b=w.heap.size
  ·subst e;simp
  ·rw[b9 e]at hb;have:=hs.own b hb;simp;omega
theorem dH.U0(hs:dH Γ st κ Θ a w){cs:Array Value}{ds:aL}{bs:aS}(T:TypeId)(hr:ey w κ cs.toList ds bs)(hz:∀b∈bs,Θ b=0):
 dH Γ ⟨st.σ,st.H++[.box ds]⟩ (vc κ st.H.length (some (.pointer (some ⟨w.heap.size,0,none⟩)))) (fun b=>if b=w.heap.size then st.H.length+2 else Θ b) a (w.alloc (.cells cs T)):=by
 have k:=hY.alloc hs (.cells cs T) (tag:=st.H.length+2) (by omega);refine hs.push rfl k (hs.wh (fun b hb=>by by_cases e:b=w.heap.size<;>simp_all)) ?_ rfl;have hn:=vB (hs.ni _ (bL _)) (some (Value.pointer (some ⟨w.heap.size,0,none⟩)));obtain⟨h1,h2⟩:=ey.stay k hn hr hz;exact⟨w.heap.size,cs,T,by simp[vc],heap_alloc_new w _,by simp,bs,h1,h2⟩
theorem Yg{o:Oper}{T t:Nat}{x:Operand}{ds:aL}(hop:o.op=.box T x)(hd:o.dst=some t)(hg:o.guard=none)(ht:t<Γ.nt)
 (hc:(st.ev x).cellsOf=some ds) (h:AO P Γ all rest Q ⟨(t,.ptr st.H.length 0)::st.σ,st.H++[.box ds]⟩):AO P Γ all (o::rest) Q st:=by
 intro κ Θ a w hs;obtain⟨bs,r,hz⟩:=hs.ev x;have hcs:=zD hs.mw r hc;have hs':=hs.U0 T hcs hz;refine wpList_plain hg fun K hK=>?_
 unfold Oper.wp;have hrun:(execOp a.eval o).run P w=.ok (.value (.pointer (some ⟨w.heap.size,0,none⟩))) (w.alloc (.cells (a.eval x).cells T)):=by
  simp[execOp,hop,Instr.box,newVar,newRow]
 rw[hrun,Oper.upon_value,hd];refine hK _ _ (h _ _ _ _ (hs'.set (t:=t) (d:=.ptr st.H.length 0) (bs:=[]) ht ?_ (by simp)));exact(wZ.ptr st.H.length 0 w.heap.size (by simp[vc])).MQ
theorem SC{o:Oper}{T t:Nat}{zs:aL}(hop:o.op=.alloc T)(hd:o.dst=some t)(hg:o.guard=none)(ht:t<Γ.nt)
 (hz:tz P T=some zs) (h:AO P Γ all rest Q ⟨(t,.ptr st.H.length 0)::st.σ,st.H++[.box zs]⟩):AO P Γ all (o::rest) Q st:=by
 intro κ Θ a w hs;obtain⟨i,z,hi,vb,hsz,hlen,hone,rfl⟩:=uz hz;have hs':=hs.U0 T (cs:=z.cells) (zf z.cells.toList hone) (by simp);refine wpList_plain hg fun K hK=>?_
 unfold Oper.wp;have hrun:(execOp a.eval o).run P w=.ok (.value (.pointer (some ⟨w.heap.size,0,none⟩))) (w.alloc (.cells z.cells T)):=by
  simp[execOp,hop,Instr.alloc,zeroValue,typeInfo,hi,vb,newVar,newRow]
 rw[hrun,Oper.upon_value,hd];refine hK _ _ (h _ _ _ _ (hs'.set (t:=t) (d:=.ptr st.H.length 0) (bs:=[]) ht ?_ (by simp)));exact(wZ.ptr st.H.length 0 w.heap.size (by simp[vc])).MQ
theorem hY.setRow(hs:dH Γ st κ Θ a w){g:Nat}{cs:Array Value}{tag:Nat}(h2:2<=tag)(hg:Θ g=tag):hY w (w.setRow g cs) Θ Θ tag:=by
 refine⟨h2,rfl,rfl,rfl,by simp,fun b _ hne=>setRow_other w g b cs (fun e=>hne (e▸hg)),fun b _ _=>rfl,fun b hb=>?_⟩;simpa using hs.own b hb
theorem Cd{T g off:Nat}{v:Value}{cur:Array Value}{e:TypeId}(hg:w.heap[g]?=some (.cells cur e (0,0)))(hsz:v.cells.size=wk P T)(HT:∃i,P.info? T=some i)
 (hfit:off+v.cells.size<=cur.size) (hone:∀c∈v.cells.toList,c.oneCell'=true):
 (Instr.storeAt T (.pointer (some ⟨g,off,none⟩)) v).run P w=.ok () (w.setRow g (cur.toList.take off++v.cells.toList++cur.toList.drop (off+v.cells.toList.length)).toArray):=by
 have:=run_storeCells_at P g off e v.cells.toList 0 cur w hg (by simpa using hfit) hone;simp only[wL]at this;simp[Instr.storeAt,Instr.sureAddr,storeVar,sj HT,hsz,this]
def MP(P:Program)(t:TypeId):Bool:=(P.info? t).isSome
theorem L5{o:Oper}{T id off:Nat}{x y:Operand}{cells ds:aL}(hop:o.op=.store T x y)
 (hx:st.ev x=.ptr id off) {ob:Ob} (hH:st.H[id]?=some ob) (yQ:ob.R5=some cells) (hc:(st.ev y).cellsOf=some ds) (hT:MP P T=true) (hl:ds.length=wk P T) (hfit:off+ds.length<=cells.length) (hs:dH Γ st κ Θ a w):
 ∃w',(execOp a.eval o).run P w=.ok .skip w'/\dH Γ ⟨st.σ,st.H.set id (ob.re (cells.take off++ds++cells.drop (off+ds.length)))⟩ κ Θ a w':=by
 obtain⟨b1,r1,_⟩:=hs.ev x;obtain⟨b2,r2,TQ⟩:=hs.ev y;rw[hx]at r1;obtain⟨g,hk,hv⟩:=r1.wV;obtain⟨g',cs,Tb,hk',VK,hΘ,bs,qC,hz⟩:=(hs.ob id _ hH).cs yQ;rw[hk]at hk';cases hk';have hcs:=zD hs.mw r2 hc;have hl1:=hcs.length;have AS:=qC.length;have hsz:(a.eval y).cells.size=wk P T:=by rw[<-hl,<-hl1];simp
 have hst:=Cd (P:=P) (T:=T) (off:=off) VK hsz (dw.1 hT) (by
  have:(a.eval y).cells.size=ds.length:=by rw[<-hl1];simp
  have h3:cs.size=cells.length:=by rw[<-AS];simp
  omega) hcs.one
 have k:=hY.setRow hs (g:=g) (cs:=(cs.toList.take off++(a.eval y).cells.toList++cs.toList.drop (off+(a.eval y).cells.toList.length)).toArray) (tag:=id+2) (by omega) hΘ;have hrun:(execOp a.eval o).run P w=.ok .skip (w.setRow g (cs.toList.take off++(a.eval y).cells.toList++cs.toList.drop (off+(a.eval y).cells.toList.length)).toArray):=by
  simp only[execOp,hop,hv];simp[hst]
 refine⟨_,hrun,hs.change k hs.mine (u7.a2X yQ (hs.ob id _ hH) (fun _ h=>h) ?_) (by cases ob<;>rfl)⟩;have e:cells=cells.take off++((cells.drop off).take ds.length++(cells.drop off).drop ds.length):=by rw[bz,bz]
 rw[e]at qC;obtain⟨v1,v2,c1,c2,JJ,rfl,k1,k2⟩:=qC.split;obtain⟨v3,v4,c3,c4,rfl,rfl,k3,k4⟩:=k2.split;have l1:v1.length=off:=by rw[k1.length];simp;omega
 have l3:v3.length=ds.length:=by rw[k3.length];simp;omega
 have e1:cs.toList.take off=v1:=by rw[JJ];exact gw l1
 have e4:cs.toList.drop (off+(a.eval y).cells.toList.length)=v4:=by
  rw[JJ,<-gE,fL l1,hl1];exact fL l3
 have hnew:ey w κ (v1++(a.eval y).cells.toList++v4) (cells.take off++ds++cells.drop (off+ds.length)) ((c1++b2)++c4):=by
  rw[gE]at k4;exact(k1.app hcs).app k4
 have Ia:∀b∈((c1++b2)++c4),Θ b=0:=by
  intro b hb;simp only[aZ]at hb;rcases hb with(hb|hb)|hb
  ·exact hz b (by simp[hb])
  ·exact TQ b hb
  ·exact hz b (by simp[hb])
 obtain⟨h1,h2⟩:=ey.stay k (fun _ _ h=>h) hnew Ia;refine⟨g,_,Tb,hk,setRow_heap w g cs _ Tb _ VK,hΘ,_,?_,h2⟩;rw[e1,e4]at h1⊢;exact h1
theorem SO{o:Oper}{T id off:Nat}{x y:Operand}{cells ds:aL}(hop:o.op=.store T x y)(hd:o.dst=none)(hg:o.guard=none)
 (hx:st.ev x=.ptr id off) {ob:Ob} (hH:st.H[id]?=some ob) (yQ:ob.R5=some cells) (hc:(st.ev y).cellsOf=some ds) (hT:MP P T=true) (hl:ds.length=wk P T) (hfit:off+ds.length<=cells.length)
 (h:AO P Γ all rest Q ⟨st.σ,st.H.set id (ob.re (cells.take off++ds++cells.drop (off+ds.length)))⟩):AO P Γ all (o::rest) Q st:=by
 intro κ Θ a w hs;obtain⟨w',hrun,hs'⟩:=L5 hop hx hH yQ hc hT hl hfit hs;refine wpList_plain hg fun K hK=>?_
 unfold Oper.wp;rw[hrun,Oper.upon_skip,hd];exact hK _ _ (h _ _ _ _ hs')
end
def D.MW:D->Bool
 | .acc _=>false
 | .ptr _ _=>false
 | .op _ _ _ _=>false
 |_=>true
def Ux(P:Program)(t:TypeId):Nat:=P.bytesOf t
theorem Kt{α:Type}{l:List α}{i:Nat}{x:α}(h:l[i]?=some x):∃p q,l=p++x::q/\p.length=i:=by
 have hlt:=(aE.1 h).1;have hx:=(aE.1 h).2;refine⟨l.take i,l.drop (i+1),?_,by simp;omega⟩;rw[<-hx,zn,bz]
theorem CL{rows:List aL}{sz i off:Nat}{row ds:aL}(hrl:∀r∈rows,r.length=sz)(hr:rows[i]?=some row)(hfit:off+ds.length<=sz):
 (rows.set i (row.take off++ds++row.drop (off+ds.length))).flatten=rows.flatten.take (i*sz+off)++ds++rows.flatten.drop (i*sz+off+ds.length):=by
 obtain⟨p,q,rfl,rfl⟩:=Kt hr;have hrow:row.length=sz:=hrl row (by simp);have hp:p.flatten.length=p.length*sz:=nG (fun r hr=>hrl r (by simp[hr]));rw[qo _ _ (bL _),o6,List.set_cons_zero];simp only[kN,eC];rw[<-hp,List.take_length_add_append,n8,List.drop_length_add_append,List.take_append_of_le_length (by omega),List.drop_append_of_le_length (by omega)];simp only[cY]
theorem JW(z:Array Value)(n:Nat):(madeCells z (n*z.size)).toList=(List.replicate n z.toList).flatten:=by
 induction n with
 |zero=>simp[madeCells]
 |succ n ih=>
  rw[List.replicate_succ',kN,<-ih];apply mI;intro j;by_cases hz:z.size=0
  ·have:z= #[]:=Array.size_eq_zero_iff.1 hz;subst this;simp[madeCells]
  ·by_cases h1:j<n*z.size
   ·rw[aq (by simpa[madeCells]using h1)];have h2:j<(n+1)*z.size:=by rw[gU];omega
    simp[madeCells,h1,h2]
   ·rw[ax (by simpa[madeCells]using h1)];by_cases h2:j<(n+1)*z.size
    ·rw[gU,lq]at h2;have hm:j%z.size=j-n*z.size:=by
      have hmc:=zq z.size n;have e:j=(j-n*z.size)+z.size*n:=by omega
      conv=>lhs;rw[e]
      rw[Nat.add_mul_mod_self_left,Nat.mod_eq_of_lt (by omega)]
     have h3:j-n*z.size<z.size:=by omega
     have h2':j<(n+1)*z.size:=by rw[gU,lq];exact h2
     simp[madeCells,h2',hm,h3]
    ·rw[cB (by simp[madeCells];omega),cB];rw[gU,lq]at h2;simp[madeCells];omega
section
variable{P:Program}{Γ:sO}{Q:Exit->St->Prop}{st:St}{κ:Nat->Option Value}{Θ:Nat->Nat}{a:Act}{w:World}{all:Array Oper}{rest:List Oper}
theorem ey.pure{vs:bp}{ds:aL}{bs:aS}(h:ey w κ vs ds bs)(hp:ds.all D.MW=true):jv w vs ds bs:=by
 induction ds generalizing vs bs with
 |nil=>cases h;exact .nil
 |cons d ds ih=>
  simp only[dh,aY]at hp;cases h with
  |cons v vs _ _ b1 b2 h1 h2 h3=>
   refine .cons _ _ _ _ _ _ h1 ?_ (ih h3 hp.2);cases h2 with
   |pure h=>exact h
   |acc=>simp[D.MW]at hp
   |ptr=>simp[D.MW]at hp
   |op=>simp[D.MW]at hp
theorem jv.rep{vs:bp}{ds:aL}(h:jv w vs ds [])(m:Nat):jv w (List.replicate m vs).flatten (List.replicate m ds).flatten []:=by
 induction m with
 |zero=>exact .nil
 |succ m ih=>
  simp only[List.replicate_succ,eC];have:=h.app ih;simpa using this
def D.EB(d:D):D:=match d with
 | .nil=>.sl []
 |d=>d
theorem Rd.soft{v:Value}{d:D}{bs:aS}(h:Rd w v d bs):Rd w v d.EB bs:=by
 cases h with
 |nil=>exact .vW
 |any=>exact .any _
 |int _ _ h=>exact .int _ _ h
 |bool=>exact .bool _
 |str _ h=>exact .str _ h
 |val=>exact .val _
 |vW=>exact .vW
 |mT a cap h=>exact .mT a cap h
 |sl b off cap sz rows cs bs h0 h1 h2 h3 h4 h5=>exact .sl b off cap sz rows cs bs h0 h1 h2 h3 h4 h5
 |agg cs ds bs h=>exact .agg cs ds bs h
 |ep b off cs row o bs h0 h4 h5=>exact .ep b off cs row o bs h0 h4 h5
 |RM=>exact .RM
 |RN t u=>exact .RN t u
theorem jv.soft{vs:bp}{ds:aL}{bs:aS}(h:jv w vs ds bs):jv w vs (ds.map D.EB) bs:=by
 induction ds generalizing vs bs with
 |nil=>cases h;exact .nil
 |cons d ds ih=>cases h with|cons v vs _ _ b1 b2 h1 h2 h3=>exact .cons _ _ _ _ _ _ h1 h2.soft (ih h3)
def D.flat:D->Bool
 | .any=>true
 | .nil=>true
 | .int _ _=>true
 | .bool _=>true
 | .str _=>true
 | .val _=>true
 |_=>false
def Qw(H:bP)(d:D):Option (D×aS):=match d with
 | .acc m=>(match(H[m]?).bind Ob.Hi with|some (_,rows)=>some (.sl rows,[m])|none=>none)
 | .ptr _ _=>none
 | .op _ _ _ _=>none
 |d=>some (d.EB,[])
def Gw(H:bP):aL->Option (aL×aS)
 | []=>some ([],[])
 |d::ds=>match Qw H d,Gw H ds with|some (e,m),some (es,ms)=>some (e::es,m++ms)|_,_=>none
def Ql(H:bP)(d:D):Bool:=match d with
 | .acc m=>(match(H[m]?).bind Ob.Hi with|some (k,_)=>(match k with| .uq=>true|_=>false)|none=>false)
 |d=>d.flat
def wW(b:Bool):RK:=match b with|true=>.uq|false=>.sh
theorem Ob.NX(u:Bool)(e:TypeId)(sz:Nat)(rows:List aL):(Ob.row (wW u) e sz rows).mvB=false:=by cases u<;>rfl
theorem Rd.flat{v:Value}{d:D}{bs:aS}(h:Rd w v d bs)(hf:d.flat=true):bs=[]:=by
 cases h<;>first|rfl|simp[D.flat]at hf
theorem Mf{H:bP}{d e:D}{m:aS}(h:Qw H d=some (e,m)):
 (∃m0 o k rows,d=.acc m0/\H[m0]?=some o/\o.Hi=some (k,rows)/\e=.sl rows/\m=[m0])\/(d.MW=true/\(∀i,d≠ .acc i)/\e=d.EB/\m=[]):=by
 cases d with
 |acc m0=>
  simp only[Qw]at h;split at h
  ·rename_i k rows hH;simp only[ah,cK]at h;obtain⟨rfl,rfl⟩:=h;obtain⟨o,hH,ho⟩:=mJ.1 hH;exact .inl ⟨m0,o,k,rows,rfl,hH,ho,rfl,rfl⟩
  ·cases h
 |ptr i o=>simp[Qw]at h
 |op i j s o=>simp[Qw]at h
 |_=>simp only[Qw,ah,cK]at h;obtain⟨rfl,rfl⟩:=h;exact .inr ⟨rfl,by simp,rfl,rfl⟩
theorem Mg{H:bP}:∀ {ds es:aL} {ms:aS},Gw H ds=some (es,ms)->∀m∈ms,∃o k rows,H[m]?=some o/\o.Hi=some (k,rows):=by
 intro ds
 induction ds with
 |nil=>intro es ms h;simp only[Gw,ah,cK]at h;obtain⟨rfl,rfl⟩:=h;simp
 |cons d ds ih=>
  intro es ms h;simp only[Gw]at h;split at h
  ·rename_i e m es' ms' h1 h2;simp only[ah,cK]at h;obtain⟨rfl,rfl⟩:=h;intro x hx;rcases aZ.1 hx with hx|hx
   ·rcases Mf h1 with⟨m0,o,k,cr,rfl,hH,hk,rfl,rfl⟩|⟨_,_,_,rfl⟩
    ·simp at hx;subst hx;exact⟨o,k,_,hH,hk⟩
    ·simp at hx
   ·exact ih h2 x hx
  ·cases h
theorem OC{H:bP}{ρ:Nat->Nat}:∀ {ds es:aL} {ms:aS} {vs:bp} {b0:aS},Gw H ds=some (es,ms)->ms.Nodup->ey w κ vs ds b0->(∀b∈b0,Θ b=0)->
 (∀m∈ms,∀o k rows,H[m]?=some o->o.Hi=some (k,rows)->x7 κ Θ ρ w m k rows)->
 ∃bs,jv w vs es bs/\(∀b∈bs,Θ b=0)/\(ds.all (Ql H)=true->bs.Nodup/\∀b∈bs,∃m∈ms,ρ b=m+1):=by
 intro ds
 induction ds with
 |nil=>
  intro es ms vs b0 h _ hr _ _;simp only[Gw,ah,cK]at h;obtain⟨rfl,rfl⟩:=h;cases hr;exact⟨[],.nil,by simp,by simp⟩
 |cons d ds ih=>
  intro es ms vs b0 h hnd hr hz hm;simp only[Gw]at h;split at h
  ·rename_i e m es' ms' h1 h2;simp only[ah,cK]at h;obtain⟨rfl,rfl⟩:=h;obtain⟨n1,n2,n3⟩:=bD.1 hnd;cases hr with
   |cons v vs _ _ b1 b2 hv hc hcs=>
    obtain⟨VI,q1,q2,q3⟩:=ih h2 n2 hcs (fun b hb=>hz b (by simp[hb])) (fun x hx=>hm x (by simp[hx]));have one:∃XZ,Rd w v e XZ/\(∀b∈XZ,Θ b=0)/\(Ql H d=true->XZ.Nodup/\∀b∈XZ,∃x∈m,ρ b=x+1):=by
     rcases Mf h1 with⟨m0,o,k,cr,rfl,hH,hk,rfl,rfl⟩|⟨hp,hna,rfl,rfl⟩
     ·obtain⟨v',bs,r1,r2,r3,r4⟩:=hm m0 (by simp) o k cr hH hk;cases hc with
      |pure hc=>cases hc
      |acc _ _ hkv=>
       rw[hkv]at r1;cases r1;refine⟨bs,r2,r3,fun hq=>?_⟩;simp only[Ql,hH,aA,hk]at hq;split at hq
       ·obtain⟨r5,r6⟩:=r4 rfl;exact⟨r5,fun b hb=>⟨m0,by simp,r6 b hb⟩⟩
       ·cases hq
     ·have hrd:Rd w v d b1:=by
       cases hc with
       |pure hc=>exact hc
       |acc i _ _=>exact absurd rfl (hna i)
       |ptr i o _ _=>simp[D.MW]at hp
       |op i j s o _ _ _ _ _=>simp[D.MW]at hp
      refine⟨b1,hrd.soft,fun b hb=>hz b (by simp[hb]),fun hq=>?_⟩;have hf:d.flat=true:=by
       unfold Ql at hq;split at hq
       ·exact absurd rfl (hna _)
       ·exact hq
      rw[hrd.flat hf];exact⟨by simp,by simp⟩
    obtain⟨XZ,p1,p2,p3⟩:=one;refine⟨XZ++VI,.cons _ _ _ _ _ _ hv p1 q1,fun b hb=>?_,fun hq=>?_⟩
    ·rcases aZ.1 hb with hb|hb
     ·exact p2 b hb
     ·exact q2 b hb
    ·simp only[dh,aY]at hq;obtain⟨p4,p5⟩:=p3 hq.1;obtain⟨q4,q5⟩:=q3 hq.2;refine⟨bD.2 ⟨p4,q4,fun x hx y hy exy=>?_⟩,fun b hb=>?_⟩
     ·subst exy;obtain⟨m1,hm1,e1⟩:=p5 x hx;obtain⟨m2,hm2,e2⟩:=q5 x hy;exact n3 m1 hm1 m2 hm2 (by omega)
     ·rcases aZ.1 hb with hb|hb
      ·obtain⟨x,hx,ex⟩:=p5 b hb;exact⟨x,by simp[hx],ex⟩
      ·obtain⟨x,hx,ex⟩:=q5 b hb;exact⟨x,by simp[hx],ex⟩
  ·cases h
theorem dH.put(hs:dH Γ st κ Θ a w){H':bP}{κ':Nat->Option Value}{Θ' ρ:Nat->Nat}{w':World}{id:Nat}{o:Ob}(ms:aS)
 (key:∀(j:Nat) x,H'[j]?=some x->(j=id/\x=o)\/(j≠id/\st.H[j]?=some x)) (hn:∀(j:Nat) v,κ j=some v->κ' j=some v)
 (hko:∀i,H'.length<=i->κ' i=none) (hk1:∀(i:Nat) u,κ' i=some u->u.oneCell'=true) (k:hY w w' Θ Θ' (id+2)) (hm:∀b,2<=Θ' b->vg Γ b) (ho:u7 w' κ' Θ' id o)
 (hu:xB Γ st.H κ Θ w ρ) (JG:∀m∈ms,∀x,m≠id->st.H[m]?=some x->x.Rv=false)
 (hq:∀e sz rows,o=.row .uq e sz rows->∃v cs bs,κ' id=some v/\w'.ownsRow 0 e sz v rows.length cs/\jv w' cs rows.flatten bs/\bs.Nodup/\∀b∈bs,ρ b=id+1\/∃m∈ms,ρ b=m+1)
 (hmv:o.mvB=false:=by first|rfl|exact Ob.NX _ _ _ _):
 dH Γ ⟨st.σ,H'⟩ κ' Θ' a w':=by
 have qy:=hs.mm k hn hu;let ρ':Nat->Nat:=fun b=>if ms.any (fun m=>ρ b==m+1)then id+1 else ρ b
 have a56:∀b,ρ' b≠0->ρ b≠0:=by
  intro b hb h0;simp only[ρ',h0]at hb;split at hb
  ·rename_i h;obtain⟨m,_,hm⟩:=cP.1 h;simp at hm
  ·exact hb rfl
 refine hs.step k hm hn hko hk1 ?_ ⟨ρ',fun b hb=>qy.1 b (a56 b hb),?_,?_⟩
 ·intro j x hj;rcases key j x hj with⟨rfl,rfl⟩|⟨h1,h2⟩
  ·exact .inr (.inr ho)
  ·exact .inr (.inl ⟨by omega,h2⟩)
 ·intro j e sz rows hj;rcases key j _ hj with⟨rfl,ho'⟩|⟨h1,h2⟩
  ·obtain⟨v,cs,bs,q1,q2,q3,q4,q5⟩:=hq e sz rows ho'.symm;refine⟨v,cs,bs,q1,q2,q3,q4,fun b hb=>?_⟩;simp only[ρ'];split
   ·rfl
   ·rename_i hno;rcases q5 b hb with h|⟨m,hm1,hm2⟩
    ·exact h
    ·exact absurd (cP.2 ⟨m,hm1,by simp[hm2]⟩) hno
  ·obtain⟨v,cs,bs,q1,q2,q3,q4,q5⟩:=qy.2.1 j e sz rows (by omega) h2;refine⟨v,cs,bs,q1,q2,q3,q4,fun b hb=>?_⟩;simp only[ρ'];rw[b9]
   ·exact q5 b hb
   ·intro h;obtain⟨m,hm1,hm2⟩:=cP.1 h;simp only[q5 b hb,cQ]at hm2;have:j=m:=by omega
    subst this;have:=JG j hm1 _ h1 h2;simp[Ob.Rv]at this
 ·intro j x hj;rcases key j _ hj with⟨rfl,rfl⟩|⟨h1,h2⟩
  ·exact Hp.uo hmv
  ·by_cases hx:x.Rv=false
   ·exact Hp.plain hx
   ·refine(qy.2.2 j x (by omega) h2).re fun b hb=>?_
    simp only[ρ'];rw[b9]
    ·exact hb
    ·intro h;obtain⟨m,hm1,hm2⟩:=cP.1 h;simp only[hb,cQ]at hm2;have:j=m:=by omega
     subst this;exact hx (JG j hm1 _ h1 h2)
theorem zg{H:bP}{o:Ob}:∀(j:Nat) x,(H++[o])[j]?=some x->(j=H.length/\x=o)\/(j≠H.length/\H[j]?=some x):=by
 intro j x hj;by_cases hlt:j<H.length
 ·rw[aq hlt]at hj;exact .inr ⟨by omega,hj⟩
 ·have hj':=(aE.1 hj).1;simp only[av,aT,bW]at hj';have e:j=H.length:=by omega
  subst e;rw[ax (bL _)]at hj;simp at hj;exact .inl ⟨rfl,hj.symm⟩
theorem wX{H:bP}{o:Ob}{id:Nat}:∀(j:Nat) x,(H.set id o)[j]?=some x->(j=id/\x=o)\/(j≠id/\H[j]?=some x):=by
 intro j x hj;by_cases e:id=j
 ·subst e;have hlt:id<H.length:=by
   have:=(aE.1 hj).1;simpa using this
  rw[dD hlt]at hj;cases hj;exact .inl ⟨rfl,rfl⟩
 ·rw[bu e]at hj;exact .inr ⟨fun h=>e h.symm,hj⟩
theorem dH.newRow(hs:dH Γ st κ Θ a w){ρ:Nat->Nat}(hu:xB Γ st.H κ Θ w ρ){u:Bool}{ms:aS}{e sz cap:Nat}{rows:List aL}{bs:aS}(cur:Array Value)(hsz:0<sz)(hrl:∀r∈rows,r.length=sz)
 (JD:cur.size=cap*sz) (hn:rows.length<=cap) (hcap:cap<=maxLen) (hr:jv w (cur.toList.take (rows.length*sz)) rows.flatten bs) (hz:∀b∈bs,Θ b=0)
 (JG:∀m∈ms,∀x,st.H[m]?=some x->x.Rv=false) (hq:u=true->bs.Nodup/\∀b∈bs,∃m∈ms,ρ b=m+1):
 dH Γ ⟨st.σ,st.H++[.row (wW u) e sz rows]⟩ (vc κ st.H.length (some (.slice (some ⟨w.heap.size,0,none⟩) rows.length cap))) (fun b=>if b=w.heap.size then st.H.length+2 else Θ b) a (w.alloc (.cells cur e)):=by
 have k:=hY.alloc hs (.cells cur e) (tag:=st.H.length+2) (by omega);obtain⟨h1,h2⟩:=jv.over k hr hz;have hlen:(cur.toList.take (rows.length*sz)).length=rows.length*sz:=by
  have:rows.length*sz<=cap*sz:=dG _ hn;have h3:cur.toList.length=cap*sz:=by rw[<-JD];simp
  rw[cF,h3,eg this]
 have hown:(w.alloc (.cells cur e)).ownsRow 0 e sz (.slice (some ⟨w.heap.size,0,none⟩) rows.length cap) rows.length (cur.toList.take (rows.length*sz)):=
  ⟨hlen,.inr ⟨w.heap.size,cap,cur,rfl,by omega,heap_alloc_new w _,hn,hcap,JD,rfl⟩⟩
 refine hs.put ms zg (vB (hs.ni _ (bL _)) _) ?_ ?_ k (hs.wh (fun b hb=>by by_cases e:b=w.heap.size<;>simp_all)) ?_ hu (fun m hm x _=>JG m hm x) ?_
 ·intro i hi;simp only[av,aT,bW]at hi;unfold vc;rw[b9 (by omega)];exact hs.ni i (by omega)
 ·intro i x hx;unfold vc at hx;split at hx
  ·cases hx;rfl
  ·exact hs.mw i x hx
 ·refine⟨hsz,hrl,_,_,bs,by simp[vc],hown,h1,?_,?_⟩
  ·intro g hg;simp only[Value.ownBlock,ah]at hg;subst hg;simp
  ·cases u<;>exact h2
 ·intro e' sz' cr he;cases u with
  |false=>simp[wW]at he
  |true=>
   simp only[wW,Ob.row.injEq,qE]at he;obtain⟨rfl,rfl,rfl⟩:=he;obtain⟨q1,q2⟩:=hq rfl;exact⟨_,_,bs,by simp[vc],hown,h1,q1,fun b hb=>.inr (q2 b hb)⟩
theorem LK{o:Oper}{T e sz t:Nat}{x y:Operand}{k k':IntKind}{n:Int}{zs:aL}(hop:o.op=.makeSlice T x y)(hd:o.dst=some t)(hg:o.guard=none)(ht:t<Γ.nt)
 (hT:D2 P T=some (e,sz)) (hz:tz P e=some zs) (hsz:0<sz) (hx:st.ev x=.int k n) (hy:st.ev y=.int k' n) (h0:0<=n) (hroom:Ux P e*n.toNat<=281474976710656) (yB:n.toNat<=4611686018427387904)
 (h:AO P Γ all rest Q ⟨(t,.acc st.H.length)::st.σ,st.H++[.row .uq e sz (List.replicate n.toNat (zs.map D.EB))]⟩):AO P Γ all (o::rest) Q st:=by
 intro κ Θ a w hs;obtain⟨b1,r1,_⟩:=hs.ev x;obtain⟨b2,r2,_⟩:=hs.ev y;rw[hx]at r1;rw[hy]at r2;have e1:=r1.ol;have e2:=r2.ol;obtain⟨hu,_,GL⟩:=nQ hT;obtain⟨i,z,hi,vb,Lj,hlen,hone,rfl⟩:=uz hz;have AR:i.size=sz:=by rw[<-GL];simp[wk,Program.cellsOf,hi]
 have hby:i.bytes=Ux P e:=by simp[Ux,Program.bytesOf,hi]
 obtain⟨m,rfl⟩:=mG h0;simp only[mH]at hroom yB h;have hrun:=run_make (P:=P) w T e i z hu hi vb k k' m m (by omega) (by omega) (by rw[hby];have:=Int.ofNat_le.2 hroom;rw[Int.natCast_mul]at this;exact this) (by omega);simp only[mH]at hrun;rw[<-Lj]at hrun;have TA:=JW z.cells m;obtain⟨ρ,huq⟩:=hs.qz;have hs':=hs.newRow huq (u:=true) (ms:=[]) (e:=e) (sz:=sz) (cap:=m) (rows:=List.replicate m ((z.cells.toList.map D.Ox).map D.EB)) (bs:=[]) (madeCells z.cells (m*z.cells.size)) hsz
  (by intro r hr;rw[yX hr];simp[Lj,AR]) (by rw[size_madeCells,Lj,AR]) (by simp) (by unfold maxLen;omega)
  (by
   rw[As,pU (by simp[size_madeCells,Lj,AR]),TA];have hcell:=(zf (w:=w) (κ:=κ) z.cells.toList hone).pure (by
    rw[FG,aj];intro c _;simp only[Function.comp];unfold D.Ox;split<;>(try split)<;>rfl)
   exact hcell.soft.rep m) (by simp) (by simp) (by simp)
 refine wpList_plain hg fun K hK=>?_
 unfold Oper.wp;have NH:(execOp a.eval o).run P w=.ok (.value (.slice (some ⟨w.heap.size,0,none⟩) m m)) (w.alloc (.cells (madeCells z.cells (m*z.cells.size)) e)):=by
  simp only[execOp,hop,e1,e2];simp[hrun]
 rw[NH,Oper.upon_value,hd];simp only[As]at hs';refine hK _ _ (h _ _ _ _ (hs'.set (t:=t) (d:=.acc st.H.length) (bs:=[]) ht ?_ (by simp)));exact(wZ.acc st.H.length _ (by simp[vc])).MQ
def qm(len sz:Nat):List (Nat×Nat):=(List.range len).map fun i=>(i*sz,sz)
def chunk(sz:Nat):Nat->aL->List aL
 |0,_=>[]
 |n+1,ds=>ds.take sz::chunk sz n (ds.drop sz)
theorem Bc(sz:Nat):∀(n:Nat) (ds:aL),ds.length=n*sz->(chunk sz n ds).length=n/\(chunk sz n ds).flatten=ds/\∀r∈chunk sz n ds,r.length=sz:=by
 intro n
 induction n with
 |zero=>intro ds h;simp at h;subst h;simp[chunk]
 |succ n ih=>
  intro ds h;rw[gU,lq]at h;obtain⟨h1,h2,h3⟩:=ih (ds.drop sz) (by rw[uh];omega);refine⟨by simp[chunk,h1],by simp[chunk,h2],fun r hr=>?_⟩;rcases bH.1 hr with rfl|hr
  ·rw[cF];omega
  ·exact h3 r hr
theorem OR{len sz:Nat}:∀(parts:List (Nat×Value)) (cs arr:Array Value),Instr.fill ((qm len sz).toArray[·]?) cs parts=some arr->Instr.fill (fun i=>some (i*sz,sz)) cs parts=some arr:=by
 intro parts
 induction parts with
 |nil=>intro cs arr h;exact h
 |cons p parts ih=>
  intro cs arr h;obtain⟨i,v⟩:=p;simp only[Instr.fill]at h⊢;split at h
  ·cases h
  ·rename_i off size hp;have e:(off,size)=(i*sz,sz):=by
    simp only[qm,ij,bU]at hp;cases hr:(List.range len)[i]? with
    |none=>simp[hr]at hp
    |some j=>
     have hj:=(aE.1 hr)
     simp only[hr,cI,ah]at hp;have:j=i:=by have:=hj.2;simp at this;omega
     rw[<-hp,this]
   cases e;split at h
   ·cases h
   ·rename_i hc;rw[b9 hc];exact ih _ _ h
theorem M7{places:List (Nat×Nat)}:∀(ps:List (Nat×D)) (cells ds:aL),vU places cells ps=some ds->ds.length=cells.length:=by
 intro ps
 induction ps with
 |nil=>intro cells ds h;simp only[vU,ah]at h;rw[h]
 |cons p ps ih=>
  intro cells ds h;obtain⟨i,d⟩:=p;simp only[vU]at h;split at h
  ·split at h
   ·rename_i hc;rw[ih _ _ h];simp;omega
   ·cases h
  ·cases h
theorem xE{o:Oper}{T e sz len:Nat}{parts:Array (Nat×Operand)}{zs ds:aL}(hop:o.op=.buildSlice T len parts)
 (hT:D2 P T=some (e,sz)) (hz:tz P e=some zs) (hsz:0<sz) (hsmall:len*sz<=16777216)
 (hf:vU (qm len sz) (List.replicate len zs).flatten (parts.toList.map fun p=>(p.1,st.ev p.2))=some ds) (hs:dH Γ st κ Θ a w):
 ∃(arr:Array Value) (b0:aS),(execOp a.eval o).run P w=.ok (.value (.slice (some ⟨w.heap.size,0,none⟩) len len)) (w.alloc (.cells arr e))/\ey w κ arr.toList ds b0/\(∀b∈b0,Θ b=0)/\arr.size=len*sz/\ds.length=len*sz:=by
 obtain⟨hu,_,GL⟩:=nQ hT;obtain⟨i,z,hi,vb,Lj,hlen,hone,rfl⟩:=uz hz;have AR:i.size=sz:=by rw[<-GL];simp[wk,Program.cellsOf,hi]
 have TA:=JW z.cells len;have hzero:ey w κ (madeCells z.cells (len*z.cells.size)).toList (List.replicate len (z.cells.toList.map D.Ox)).flatten []:=by
  rw[TA];have hcell:=(zf (w:=w) (κ:=κ) z.cells.toList hone).pure (by
   rw[FG,aj];intro c _;simp only[Function.comp];unfold D.Ox;split<;>(try split)<;>rfl)
  exact ey.Am (hcell.rep len)
 obtain⟨arr,b0,a1L,KE,hb0⟩:=Q3 hs parts.toList _ _ ds [] hzero (by simp) hf;have OW:=OR _ _ _ a1L;have hdl:ds.length=len*sz:=by
  rw[M7 _ _ _ hf,nG (sz:=sz) (by intro r hr;rw[yX hr];simp[Lj,AR])];simp
 have hal:arr.size=len*sz:=by have:=KE.length;simp at this;omega
 refine⟨arr,b0,?_,KE,hb0,hal,hdl⟩;simp only[execOp,hop];by_cases h0:len*i.size=0
 ·have hl0:len=0:=by
   rw[AR]at h0;rcases Nat.mul_eq_zero.1 h0 with h|h
   ·exact h
   ·omega
  subst hl0;have hma:madeCells z.cells (0*z.cells.size)= #[]:=by simp[madeCells]
  rw[hma]at OW;have hpe:(parts.map fun(x:Nat×Operand)=>(x.1,a.eval x.2)).toList=parts.toList.map fun p=>(p.1,a.eval p.2):=by simp
  have WG:=OW;rw[<-hpe,<-AR]at WG;simp at WG;have hr0:Array.range 0= #[]:=rfl;simp[Instr.buildSlice,run_underlying hu,sizeOf,typeInfo,hi,newRow,hr0,WG]
 ·have hpe:(parts.map fun(x:Nat×Operand)=>(x.1,a.eval x.2)).toList=parts.toList.map fun p=>(p.1,a.eval p.2):=by simp
  have:=run_buildSlice (P:=P) w T e len (parts.map fun(x:Nat×Operand)=>(x.1,a.eval x.2)) arr i z hu hi vb (by rw[AR];omega) h0 (by
   rw[hpe,AR];have e2:(Array.range (len*sz)).map (z.cells[· %z.cells.size]!)=madeCells z.cells (len*z.cells.size):=by unfold madeCells;rw[Lj,AR]
   rw[e2];exact OW)
  simp[this]
theorem K7{o:Oper}{T e sz len t:Nat}{parts:Array (Nat×Operand)}{zs ds es:aL}{ms:aS}(hop:o.op=.buildSlice T len parts)(hd:o.dst=some t)(hg:o.guard=none)(ht:t<Γ.nt)
 (hT:D2 P T=some (e,sz)) (hz:tz P e=some zs) (hsz:0<sz) (hsmall:len*sz<=16777216)
 (hf:vU (qm len sz) (List.replicate len zs).flatten (parts.toList.map fun p=>(p.1,st.ev p.2))=some ds) (habs:Gw st.H ds=some (es,ms)) (hnd:ms.Nodup)
 (h:AO P Γ all rest Q ⟨(t,.acc st.H.length)::st.σ,kill st.H ms++[.row (wW (ds.all (Ql st.H))) e sz (chunk sz len es)]⟩):AO P Γ all (o::rest) Q st:=by
 intro κ Θ a w hs;obtain⟨arr,b0,hrun,KE,hb0,hal,hdl⟩:=xE hop hT hz hsz hsmall hf hs;obtain⟨ρ,huq⟩:=hs.qz;obtain⟨Θ1,ρ1,hs1,hu1,hm1,KK,RG⟩:=dH.NW ms hs huq hnd (Mg habs);obtain⟨bs,q1,q2,q3⟩:=OC (H:=st.H) (ρ:=ρ1) habs hnd KE (fun b hb=>KK b (hb0 b hb)) hm1;have hel:es.length=len*sz:=by rw[<-q1.length,KE.length,hdl]
 obtain⟨c1,c2,c3⟩:=Bc sz len es hel;have hs':=hs1.newRow hu1 (u:=ds.all (Ql st.H)) (ms:=ms) (e:=e) (sz:=sz) (cap:=len) (rows:=chunk sz len es) (bs:=bs) arr hsz c3 hal (by rw[c1];exact bL _)
  (by unfold maxLen;have:len*1<=len*sz:=dS _ hsz;omega) (by rw[c1,c2,pU (by simp[hal])];exact q1) q2
  (by
   intro m hm x hH;rcases mj hH with h|⟨h,_⟩
   ·subst h;rfl
   ·exact absurd hm h) q3
 refine wpList_plain hg fun K hK=>?_
 unfold Oper.wp;rw[hrun,Oper.upon_value,hd];rw[c1,fH]at hs';refine hK _ _ (h _ _ _ _ (hs'.set (t:=t) (d:=.acc st.H.length) (bs:=[]) ht ?_ (by simp)));exact(wZ.acc st.H.length _ (by simp[vc])).MQ
end
end Go.Cx
namespace Go.Cx
open Go.RowKit
section
variable{P:Program}{Γ:sO}{Q:Exit->St->Prop}{st:St}{κ:Nat->Option Value}{Θ:Nat->Nat}{a:Act}{w:World}{all:Array Oper}{rest:List Oper}
theorem IS(w:World)(t ty e:TypeId)(i:TypeInfo)(ht:P.underlying t=some (.slice e))(hi:P.info? e=some i)(b:Option Addr)(n cap:Nat)(hn:n<=cap):
 (Builtin.append_ #[t,t] ty #[.slice b n cap,.slice none 0 0]).run P w=.ok (.slice b n cap) w:=by
 cases b<;>simp[Builtin.append_,run_underlying ht,sizeOf,typeInfo,hi,Builtin.lenOf,Builtin.firstCells,hn,storeCells]
structure SQ(w:World)(Θ ρ:Nat->Nat)(e sz:Nat)(v:Value)(rows:List (List D))(u1:Bool)(i1:Nat)(bs:List Nat)(cs:List Value):Prop where
 rl:∀r∈rows,r.length=sz
 own:w.ownsRow 0 e sz v rows.length cs
 rd:jv w cs rows.flatten bs
 zero:∀b∈bs,Θ b=0
 top:∀g,v.ownBlock=some g->Θ g=i1+2
 uq:u1=true->bs.Nodup/\∀b∈bs,ρ b=i1+1
structure Qu(w:World)(Θ ρ:Nat->Nat)(sz:Nat)(u:Value)(rows:List (List D))(u2:Bool)(i2:Nat)(bs:List Nat)(cs:List Value):Prop where
 rl:∀r∈rows,r.length=sz
 at_:(u=.slice none 0 0/\rows=[])\/∃ad c,u=.slice (some ad) rows.length c/\∀j x,cs[j]?=some x->w.cell? (ad.add j)=some x
 rd:jv w cs rows.flatten bs
 zero:∀b∈bs,Θ b=0
 uq:u2=true->bs.Nodup/\∀b∈bs,ρ b=i2+1
theorem OF{T e sz i1 i2:Nat}{v u:Value}{rows fI:List aL}{u1 u2:Bool}{b1 b2:aS}{c1 c2:bp}{ρ:Nat->Nat}{zs:aL}{ty:TypeId}(hT:D2 P T=some (e,sz))(hz:tz P e=some zs)(hsz:0<sz)
 (hS:SQ w Θ ρ e sz v rows u1 i1 b1 c1) (hX:Qu w Θ ρ sz u fI u2 i2 b2 c2) (h63:rows.length+fI.length<=maxLen) (hby:(rows.length+fI.length)*Ux P e<=140737488355328):
 ∃v' w',(Builtin.append_ #[T,T] ty #[v,u]).run P w=.ok v' w'/\w'.ownsRow 0 e sz v' (rows++fI).length (c1++c2)/\w.grownBy w' v.ownBlock/\(v'.ownBlock=v.ownBlock\/v'.ownBlock=some w.heap.size)/\
  jv w (c1++c2) (rows++fI).flatten (b1++b2):=by
 obtain⟨hu,_,GL⟩:=nQ hT;obtain⟨i,z,hi,vb,Lj,hlen,hone,rfl⟩:=uz hz;have AR:i.size=sz:=by rw[<-GL];simp[wk,Program.cellsOf,hi]
 have hib:i.bytes=Ux P e:=by simp[Ux,Program.bytesOf,hi]
 have hr:jv w (c1++c2) (rows++fI).flatten (b1++b2):=by rw[kN];exact hS.rd.app hX.rd
 have Lc:c2.length=fI.length*sz:=by rw[hX.rd.length,nG hX.rl]
 rcases hX.at_ with⟨rfl,rfl⟩|⟨ad,c,rfl,hcell⟩
 ·have hc:c2=[]:=cM (by simpa using Lc);subst hc;have hv:∃b n cap,v=.slice b n cap/\n<=cap:=by
   rcases hS.own.2 with⟨rfl,_⟩|⟨g,cap,cur,rfl,_,_,hn,_⟩
   ·exact⟨_,_,_,rfl,bL _⟩
   ·exact⟨_,_,_,rfl,hn⟩
  obtain⟨b,n,cap,rfl,hn⟩:=hv;exact⟨_,w,IS w T ty e i hu hi b n cap hn,by simpa using hS.own,⟨rfl,rfl,rfl,bL _,fun _ _ _=>rfl⟩,.inl rfl,hr⟩
 ·obtain⟨v',w',q1,q2,q3,_,q5⟩:=run_append_own_at (P:=P) w 0 T ty e i z sz (Ux P e) hu hi vb AR hib (by rw[Lj,AR]) hsz v rows.length c1 hS.own ad fI.length c c2 Lc hcell hX.rd.one h63 hby (BW _);exact⟨v',w',q1,by simpa using q2,q3,q5,hr⟩
theorem Qq{o:Oper}{T e sz t:Nat}{s x:Operand}{rows fI:List aL}{zs:aL}{u:Bool}{ks:aS}(hop:o.op=.call {callee:=.builtin .append,args:= #[s,x],argTypes:= #[T,T]})
 (hd:o.dst=some t) (hg:o.guard=none) (ht:t<Γ.nt) (hT:D2 P T=some (e,sz)) (hz:tz P e=some zs) (hsz:0<sz)
 (h63:rows.length+fI.length<=maxLen) (hby:(rows.length+fI.length)*Ux P e<=140737488355328)
 (hin:∀κ Θ a w ρ,dH Γ st κ Θ a w->xB Γ st.H κ Θ w ρ->∃u1 u2 i1 i2 b1 b2 c1 c2,SQ w Θ ρ e sz (a.eval s) rows u1 i1 b1 c1/\Qu w Θ ρ sz (a.eval x) fI u2 i2 b2 c2/\
  (i1∈ks\/i1=st.H.length)/\(u=true->u1=true/\u2=true/\(b2=[]\/(i2∈ks/\i1≠i2))))
 (h:AO P Γ all rest Q ⟨(t,.acc st.H.length)::st.σ,kill st.H ks++[.row (wW u) e sz (rows++fI)]⟩):AO P Γ all (o::rest) Q st:=by
 intro κ Θ a w hs;obtain⟨ρ,hu⟩:=hs.qz;obtain⟨u1,u2,i1,i2,b1,b2,c1,c2,hS,hX,hi1,hq⟩:=hin κ Θ a w ρ hs hu;obtain⟨v',w',hrun,hown,hgr,ND,hrd⟩:=OF (P:=P) (ty:=o.type) hT hz hsz hS hX h63 hby;refine wpList_plain hg fun K hK=>?_
 have NH:(execOp a.eval o).run P w=.ok (.value v') w':=by
  simp only[execOp,hop,resolve,invoke,builtin,Sem.run_bind,Sem.run_pure,Result.andThen_ok,nH,bC,bf,hrun]
 unfold Oper.wp;rw[NH,Oper.upon_value,hd];let id:=st.H.length
 let Θ':Nat->Nat:=fun b=>if some b=v'.ownBlock then id+2 else Θ b
 have VO:∀g,v'.ownBlock=some g->Θ g=i1+2\/g=w.heap.size:=by
  intro g RE;rcases ND with h|h
  ·exact .inl (hS.top g (h▸RE))
  ·rw[h]at RE;cases RE;exact .inr rfl
 have hnew:Θ w.heap.size=0:=by
  cases h0:Θ w.heap.size with
  |zero=>rfl
  |succ n=>exact absurd (hs.own w.heap.size (by omega)) (by omega)
 have k:hY w w' Θ Θ' (i1+2):=by
  refine⟨by omega,hgr.os,hgr.tape,hgr.output,hgr.size,fun b hb hne=>hgr.block b hb (fun e=>hne (hS.top b e.symm)),fun b hb hne=>?_,fun b hb=>?_⟩
  ·simp only[Θ'];rw[b9];intro e;rcases VO b e.symm with h|h
   ·exact hne h
   ·omega
  ·simp only[Θ']at hb;split at hb
   ·rename_i e;exact(hown.lt b e.symm).2
   ·exact cz (hs.own b hb) hgr.size
 have hm:∀b,2<=Θ' b->vg Γ b:=by
  intro b hb;simp only[Θ']at hb;split at hb
  ·rename_i e;rcases VO b e.symm with h|h
   ·exact hs.mine b (by omega)
   ·exact .inl (by rw[h];exact hs.base)
  ·exact hs.mine b hb
 have hn:=vB (hs.ni id (bL _)) (some v');have hv1:v'.oneCell'=true:=by
  rcases hown.2 with⟨rfl,_⟩|⟨g,cap,cur,rfl,_⟩<;>rfl
 have vb:∀b∈b1++b2,Θ b=0:=by
  intro b hb;rcases aZ.1 hb with hb|hb
  ·exact hS.zero b hb
  ·exact hX.zero b hb
 obtain⟨JI,Ia⟩:=jv.over k hrd vb;have hrl:∀r∈rows++fI,r.length=sz:=by
  intro r hr;rcases aZ.1 hr with hr|hr
  ·exact hS.rl r hr
  ·exact hX.rl r hr
 have CR:∀g,v'.ownBlock=some g->Θ' g=id+2:=fun g RE=>by simp only[Θ'];rw[bN RE.symm]
 have key:∀(j:Nat) y,(kill st.H ks++[.row (wW u) e sz (rows++fI)])[j]?=some y->(j=id/\y=.row (wW u) e sz (rows++fI))\/(j≠id/\(y=.gone\/(j∉ks/\st.H[j]?=some y))):=by
  intro j y hj;rcases zg j y hj with⟨h1,h2⟩|⟨h1,h2⟩
  ·rw[fH]at h1;exact .inl ⟨h1,h2⟩
  ·rw[fH]at h1;exact .inr ⟨h1,mj h2⟩
 have hne:∀(j:Nat) y,j∉ks->st.H[j]?=some y->j+2≠i1+2:=by
  intro j y hj hy;have:=(aE.1 hy).1;rcases hi1 with h|h
  ·intro e;exact hj (by
    have:j=i1:=by omega
    rw[this];exact h)
  ·omega
 have qy:=hs.mm k hn hu;let ρ':Nat->Nat:=fun b=>if u=true/\(b∈b1\/b∈b2)then id+1 else ρ b
 have hold:∀(j:Nat) y,j∉ks->st.H[j]?=some y->∀b,ρ b=j+1->ρ' b=j+1:=by
  intro j y hjk hy b hb;simp only[ρ'];rw[b9]
  ·exact hb
  ·rintro⟨uP,hmem⟩;obtain⟨p1,p2,p3⟩:=hq uP;rcases hmem with h|h
   ·have:=(hS.uq p1).2 b h;exact hne j _ hjk hy (by omega)
   ·have:=(hX.uq p2).2 b h;rcases p3 with h0|⟨h0,_⟩
    ·rw[h0]at h;cases h
    ·have:j=i2:=by omega
     subst this;exact hjk h0
 have hU:xB Γ (kill st.H ks++[.row (wW u) e sz (rows++fI)]) (vc κ id (some v')) Θ' w' ρ':=by
  refine⟨fun b hb=>?_,fun j e' sz' cr hj=>?_,fun j x hj=>?_⟩
  ·simp only[ρ']at hb;split at hb
   ·rename_i hc;obtain⟨uP,hmem⟩:=hc;obtain⟨q1,q2,q3⟩:=hq uP;rcases hmem with h|h
    ·exact qy.1 b (by rw[(hS.uq q1).2 b h];omega)
    ·exact qy.1 b (by rw[(hX.uq q2).2 b h];omega)
   ·exact qy.1 b hb
  ·rcases key j _ hj with⟨rfl,hy⟩|⟨_,hy|⟨hjk,hy⟩⟩
   ·cases uP:u with
    |false=>rw[uP]at hy;simp[wW]at hy
    |true=>
     rw[uP]at hy;simp only[wW,Ob.row.injEq,qE]at hy;obtain⟨rfl,rfl,rfl⟩:=hy;obtain⟨q1,q2,q3⟩:=hq uP;refine⟨v',c1++c2,b1++b2,kK _ _ _,hown,JI,?_,fun b hb=>?_⟩
     ·obtain⟨n1,r1⟩:=hS.uq q1;obtain⟨n2,r2⟩:=hX.uq q2;refine bD.2 ⟨n1,n2,fun y hy z hz hyz=>?_⟩;subst hyz;rcases q3 with h|⟨_,h⟩
      ·rw[h]at hz;cases hz
      ·have:=r1 y hy;have:=r2 y hz;omega
     ·simp only[ρ'];rw[bN ⟨uP,aZ.1 hb⟩]
   ·cases hy
   ·obtain⟨v2,cs,bs,q1,q2,q3,q4,q5⟩:=qy.2.1 j e' sz' cr (hne j _ hjk hy) hy;exact⟨v2,cs,bs,q1,q2,q3,q4,fun b hb=>hold j _ hjk hy b (q5 b hb)⟩
  ·rcases key j _ hj with⟨rfl,hy⟩|⟨_,hy|⟨hjk,hy⟩⟩
   ·subst hy;exact Hp.uo (Ob.NX _ _ _ _)
   ·subst hy;trivial
   ·exact(qy.2.2 j x (hne j _ hjk hy) hy).re fun b hb=>hold j _ hjk hy b hb
 have hs':dH Γ ⟨st.σ,kill st.H ks++[.row (wW u) e sz (rows++fI)]⟩ (vc κ id (some v')) Θ' a w':=by
  refine hs.step k hm hn ?_ ?_ ?_ ⟨ρ',hU⟩
  ·intro i hi;simp only[av,aT,bW,fH]at hi;unfold vc;rw[b9 (by omega)];exact hs.ni i (by omega)
  ·intro i y hy;unfold vc at hy;split at hy
   ·cases hy;exact hv1
   ·exact hs.mw i y hy
  ·intro j y hj;rcases key j y hj with⟨rfl,rfl⟩|⟨_,hy|⟨hjk,hy⟩⟩
   ·exact .inr (.inr ⟨hsz,hrl,v',_,_,kK _ _ _,hown,JI,CR,by cases u<;>exact Ia⟩)
   ·exact .inl hy
   ·exact .inr (.inl ⟨hne j y hjk hy,hy⟩)
 refine hK _ _ (h _ _ _ _ (hs'.set (t:=t) (d:=.acc id) (bs:=[]) ht ?_ (by simp)));exact(wZ.acc id _ (kK _ _ _)).MQ
def D.pO(rows:List aL):Bool:=rows.all fun r=>r.all D.flat
theorem jv.flat{vs:bp}{ds:aL}{bs:aS}(h:jv w vs ds bs)(hf:ds.all D.flat=true):bs=[]:=by
 induction ds generalizing vs bs with
 |nil=>cases h;rfl
 |cons d ds ih=>
  simp only[dh,aY]at hf;cases h with
  |cons v vs _ _ b1 b2 h1 h2 h3=>rw[h2.flat hf.1,ih h3 hf.2];rfl
theorem SY{e sz i1:Nat}{ρ:Nat->Nat}:SQ w Θ ρ e sz (.slice none 0 0) [] true i1 [] []:=
 ⟨by simp,World.ownsRow_nil w 0 e sz,.nil,by simp,by simp[Value.ownBlock],by simp⟩
theorem FO{ρ:Nat->Nat}(hs:dH Γ st κ Θ a w)(hu:xB Γ st.H κ Θ w ρ){id e sz:Nat}{k:RK}{rows:List aL}{v:Value}(hk:κ id=some v)(hH:st.H[id]?=some (.row k e sz rows))(ho:k.M6=true):
 ∃bs cs,SQ w Θ ρ e sz v rows (match k with| .uq=>true|_=>false) id bs cs:=by
 obtain⟨_,hrl,v2,cs,bs,hk2,hown,qC,hΘ,hz⟩:=hs.ob id _ hH;rw[hk]at hk2;cases hk2;cases k with
 |cl=>simp[RK.M6]at ho
 |sh=>exact⟨bs,cs,hrl,hown,qC,hz,hΘ,by simp⟩
 |mv n=>exact⟨bs,cs,hrl,hown,qC,hz,hΘ,by simp⟩
 |uq=>
  obtain⟨v2,c2,b2,q1,q2,q3,q4,q5⟩:=hu.rows id e sz rows hH;rw[hk]at q1;cases q1;exact⟨b2,c2,hrl,q2,q3,fun b hb=>(hu.free b (by rw[q5 b hb];omega)).1,hΘ,fun _=>⟨q4,q5⟩⟩
theorem Mi{ρ:Nat->Nat}(hs:dH Γ st κ Θ a w)(hu:xB Γ st.H κ Θ w ρ){id e sz:Nat}{k:RK}{rows:List aL}{v:Value}(hk:κ id=some v)(hH:st.H[id]?=some (.row k e sz rows))(ho:k.M6=true):
 ∃bs cs,Qu w Θ ρ sz v rows (match k with| .uq=>true|_=>false) id bs cs:=by
 obtain⟨bs,cs,h⟩:=FO hs hu hk hH ho;refine⟨bs,cs,h.rl,?_,h.rd,h.zero,h.uq⟩;rcases h.own.2 with⟨rfl,hn⟩|⟨g,cap,cur,rfl,_⟩
 ·exact .inl ⟨rfl,cM hn⟩
 ·exact .inr ⟨_,cap,rfl,h.own.cells (g:=g) (by simp[Value.ownBlock])⟩
theorem SZ{sz i2:Nat}{ρ:Nat->Nat}:Qu w Θ ρ sz (.slice none 0 0) [] true i2 [] []:=
 ⟨by simp,.inl ⟨rfl,rfl⟩,.nil,by simp,by simp⟩
theorem Vh{ρ:Nat->Nat}{v:Value}{rows:List aL}{bs:aS}{sz:Nat}(h:Rd w v (.sl rows) bs)(hz:∀b∈bs,Θ b=0)(hrl:∀r∈rows,r.length=sz)(i2:Nat)(fl:Bool)(hf:fl=true->D.pO rows=true):
 ∃b2 cs,Qu w Θ ρ sz v rows fl i2 b2 cs/\(fl=true->b2=[]):=by
 cases h with
 |vW=>exact⟨[],[],⟨by simp,.inl ⟨rfl,rfl⟩,.nil,by simp,by simp⟩,by simp⟩
 |mT ad cap hc=>exact⟨[],[],⟨by simp,.inr ⟨ad,cap,rfl,by simp⟩,.nil,by simp,by simp⟩,by simp⟩
 |sl b off cap sz' _ cs bs' h0 h1 h2 h3 h4 h5=>
  have hfl:fl=true->bs'=[]:=fun e=>h5.flat (by
   have:=hf e;unfold D.pO at this;rw[aj]at this⊢;intro d hd;obtain⟨r,hr,FC⟩:=fN.1 hd;exact aj.1 (this r hr) d FC)
  refine⟨bs',cs,⟨hrl,.inr ⟨_,cap,rfl,fun j x hj=>?_⟩,h5,fun y hy=>hz y (by simp[hy]),fun e=>by rw[hfl e];simp⟩,hfl⟩;have:=h4 j x hj;simpa[Addr.add_lit]using this
end
end Go.Cx
namespace Go.Cx
open Go.RowKit
section
variable{P:Program}{Γ:sO}{Q:Exit->St->Prop}{st:St}{κ:Nat->Option Value}{Θ:Nat->Nat}{a:Act}{w:World}{all:Array Oper}{rest:List Oper}
theorem fW{H:bP}{ms:aS}{j:Nat}(h:j∉ms):(kill H ms)[j]?=H[j]?:=by
 induction ms generalizing H with
 |nil=>rfl
 |cons m ms ih=>
  simp only[bH,BY]at h;simp only[kill];rw[ih h.2,bu (fun e=>h.1 e.symm)]
def RK.after(k:RK)(b:Bool):RK:=match k with
 | .uq=>wW b
 | .mv _=>.sh
 |k=>k
theorem RK.Qx(k:RK)(b:Bool)(e:TypeId)(sz:Nat)(rows:List aL):(Ob.row (k.after b) e sz rows).mvB=false:=by cases k<;>cases b<;>rfl
theorem MY{o:Oper}{T id i sz off e:Nat}{k0:RK}{x y:Operand}{rows:List aL}{row ds es:aL}{ms:aS}(hop:o.op=.store T x y)(hd:o.dst=none)(hg:o.guard=none)
 (hx:st.ev x=.op id i sz off) (hH:st.H[id]?=some (.row k0 e sz rows)) (hk0:k0.M6=true) (hrow:rows[i]?=some row) (hc:(st.ev y).cellsOf=some ds) (habs:Gw st.H ds=some (es,ms)) (hnd:ms.Nodup) (hid:id∉ms)
 (hT:MP P T=true) (hl:ds.length=wk P T) (hfit:off+ds.length<=sz)
 (h:AO P Γ all rest Q ⟨st.σ,(kill st.H ms).set id (.row (k0.after (ds.all (Ql st.H))) e sz (rows.set i (row.take off++es++row.drop (off+ds.length))))⟩):AO P Γ all (o::rest) Q st:=by
 intro κ Θ0 a w hs0;obtain⟨b1,r1,_⟩:=hs0.ev x;obtain⟨b20,r2,a54⟩:=hs0.ev y;rw[hx]at r1;obtain⟨g,o0,len,cap,hk,hv⟩:=r1.Cb;have hcv:=zD hs0.mw r2 hc;obtain⟨ρ0,WM⟩:=hs0.qz;obtain⟨Θ,ρ,hs,hu,hm1,KK,RG⟩:=dH.NW ms hs0 WM hnd (Mg habs);obtain⟨b2,hcp,TQ,FD⟩:=OC (H:=st.H) (ρ:=ρ) habs hnd hcv (fun b hb=>KK b (a54 b hb)) hm1;have K1:(kill st.H ms)[id]?=some (.row k0 e sz rows):=by rw[fW hid];exact hH
 obtain⟨bs,cs,hA⟩:=FO hs hu hk K1 hk0;have hrl:=hA.rl;have hown:=hA.own;have VL:=AV hown;subst VL;rw[cv]at hv;have qC:=hA.rd;have hsz:0<sz:=by
  obtain⟨hsz,_⟩:=hs.ob id _ K1;exact hsz
 rcases hown.2 with⟨qZ,_⟩|⟨g',cap2,cur,hkv,hb,Lg,hnc,hcm,hcs,NI⟩
 ·cases qZ
 ·cases hkv;have Lm:=hA.top g (by simp[Value.ownBlock]);have hl1:=hcv.length;have hle:es.length=ds.length:=by rw[<-hcp.length,hl1]
  have hilt:i<rows.length:=(aE.1 hrow).1;have Z6:(i+1)*sz<=rows.length*sz:=dG _ hilt;have a7A:rows.length*sz<=cap*sz:=dG _ hnc;rw[gU,lq]at Z6;have ZH:(a.eval y).cells.size=wk P T:=by rw[<-hl,<-hl1];simp
  have a7L:(a.eval y).cells.size=ds.length:=by rw[<-hl1];simp
  have hst:=Cd (P:=P) (T:=T) (off:=i*sz+off) Lg ZH (dw.1 hT) (by omega) hcv.one;have k:=hY.setRow hs (g:=g) (cs:=(cur.toList.take (i*sz+off)++(a.eval y).cells.toList++cur.toList.drop (i*sz+off+(a.eval y).cells.toList.length)).toArray) (tag:=id+2) (by omega) Lm;refine wpList_plain hg fun K hK=>?_
  unfold Oper.wp;have hrun:(execOp a.eval o).run P w=.ok .skip (w.setRow g (cur.toList.take (i*sz+off)++(a.eval y).cells.toList++cur.toList.drop (i*sz+off+(a.eval y).cells.toList.length)).toArray):=by
   simp only[execOp,hop,hv];simp[hst]
  rw[hrun,Oper.upon_skip,hd];have hfl:=nG hrl;have e0:rows.flatten=rows.flatten.take (i*sz+off)++((rows.flatten.drop (i*sz+off)).take ds.length++(rows.flatten.drop (i*sz+off)).drop ds.length):=by rw[bz,bz]
  rw[e0]at qC;obtain⟨v1,v2,c1,c2,JJ,CP,k1,k2⟩:=qC.split;obtain⟨v3,v4,c3,c4,rfl,rfl,k3,k4⟩:=k2.split;have l1:v1.length=i*sz+off:=by rw[k1.length,cF];omega
  have l3:v3.length=ds.length:=by rw[k3.length,cF,uh];omega
  rw[gE]at k4;have hnew:=(k1.app hcp).app k4;have Ia:∀b∈((c1++b2)++c4),Θ b=0:=by
   intro b hb;simp only[aZ]at hb;rcases hb with(hb|hb)|hb
   ·exact hA.zero b (by rw[CP];simp[hb])
   ·exact TQ b hb
   ·exact hA.zero b (by rw[CP];simp[hb])
  obtain⟨n1,n2⟩:=jv.over k hnew Ia;have hfs:=CL (ds:=es) (off:=off) hrl hrow (by omega);rw[hle]at hfs;rw[<-hfs]at n1;have Sx:cs.length=rows.length*sz:=hown.1;have WD:cur.toList=v1++(v3++(v4++cur.toList.drop (rows.length*sz))):=by
   have:cur.toList=cs++cur.toList.drop (rows.length*sz):=by rw[<-NI,bz]
   rw[JJ]at this;simpa using this
  have t1:cur.toList.take (i*sz+off)=v1:=by rw[WD];exact gw l1
  have t2:cur.toList.drop (i*sz+off+(a.eval y).cells.toList.length)=v4++cur.toList.drop (rows.length*sz):=by
   rw[hl1,<-gE]
   conv=>lhs;rw[WD]
   rw[fL l1,fL l3]
  have hl4:(v1++(a.eval y).cells.toList++v4).length=rows.length*sz:=by
   have:=Sx;rw[JJ]at this;simp only[av]at this⊢;omega
  have GJ:(w.setRow g (cur.toList.take (i*sz+off)++(a.eval y).cells.toList++cur.toList.drop (i*sz+off+(a.eval y).cells.toList.length)).toArray).ownsRow 0 e sz (.slice (some ⟨g,0,none⟩) rows.length cap)
   (rows.set i (row.take off++es++row.drop (off+ds.length))).length (v1++(a.eval y).cells.toList++v4):=by
   refine⟨by simpa using hl4,.inr ⟨g,cap,_,by simp,hb,setRow_heap w g cur _ e _ Lg,by simpa using hnc,hcm,?_,?_⟩⟩
   ·simp only[tq,av,cF,uh,sE];omega
   ·rw[t1,t2];simp only[nj];rw[<-cY];exact gw hl4
  have IN:∀r∈rows.set i (row.take off++es++row.drop (off+ds.length)),r.length=sz:=by
   intro r hr;rcases s7 hr with hr|rfl
   ·exact hrl r hr
   ·have:=hrl row (aD hrow);simp;omega
  have CR:∀g2,(Value.slice (some ⟨g,0,none⟩) rows.length cap).ownBlock=some g2->Θ g2=id+2:=by
   intro g2 hg2;simp only[Value.ownBlock,ah]at hg2;subst hg2;exact Lm
  refine hK _ _ (h _ _ _ _ (hs.put ms wX (fun _ _ h=>h) (fun i hi=>hs.ni i (by simpa using hi)) hs.mw k hs.mine ?_ hu ?_ ?_ (RK.Qx _ _ _ _ _)))
  ·refine⟨hsz,IN,_,_,_,hk,GJ,n1,CR,?_⟩;cases k0 with
   |cl=>simp[RK.M6]at hk0
   |sh=>exact n2
   |mv n=>exact n2
   |uq=>simp only[RK.after];cases(ds.all (Ql st.H))<;>exact n2
  ·intro m hm x _ BP;rcases mj BP with h|⟨h,_⟩
   ·subst h;rfl
   ·exact absurd hm h
  ·intro e' sz' cr he;cases k0 with
   |cl=>simp[RK.M6]at hk0
   |sh=>simp[RK.after]at he
   |mv n=>simp[RK.after]at he
   |uq=>
    simp only[RK.after]at he;cases hq:ds.all (Ql st.H)with
    |false=>rw[hq]at he;simp[wW]at he
    |true=>
     rw[hq]at he;simp only[wW,Ob.row.injEq,qE]at he;obtain⟨rfl,rfl,rfl⟩:=he;obtain⟨q1,q2⟩:=FD hq;obtain⟨p1,p2⟩:=hA.uq rfl;rw[CP]at p1 p2;obtain⟨m1,m2,m3⟩:=bD.1 p1;obtain⟨m4,m5,m6⟩:=bD.1 m2;refine⟨_,_,_,hk,GJ,n1,?_,fun b hb=>?_⟩
     ·refine bD.2 ⟨bD.2 ⟨m1,q1,fun x hx y hy e=>?_⟩,m5,fun x hx y hy e=>?_⟩
      ·subst e;obtain⟨m,hm,he⟩:=q2 x hy;have:=p2 x (by simp[hx]);exact hid (by
        have:id=m:=by omega
        rw[this];exact hm)
      ·subst e;rcases aZ.1 hx with hx|hx
       ·exact m3 x hx x (by simp[hy]) rfl
       ·obtain⟨m,hm,he⟩:=q2 x hx;have:=p2 x (by simp[hy]);exact hid (by
         have:id=m:=by omega
         rw[this];exact hm)
     ·simp only[aZ]at hb;rcases hb with(hb|hb)|hb
      ·exact .inl (p2 b (by simp[hb]))
      ·exact .inr (q2 b hb)
      ·exact .inl (p2 b (by simp[hb]))
end
end Go.Cx
namespace Go.Cx
open Go.RowKit
inductive Pg(w:World):List Value->List D->List Nat->Prop
 |nil:Pg w [] [] []
 |cons (v:Value) (vs:bp) (d:D) (ds:aL) (b1 b2:aS):Rd w v d b1->Pg w vs ds b2->Pg w (v::vs) (d::ds) (b1++b2)
inductive D6(w:World):Value->D->List Nat->List Nat->List Nat->Prop
 |pure {v:Value} {d:D} {bs:aS}:Rd w v d bs->D6 w v d bs [] []
 |fr (v:Value) (e sz:Nat) (rows:List aL) (cs:bp) (ns:aS):0<sz->(∀r∈rows,r.length=sz)->w.ownsRow 0 e sz v rows.length cs->jv w cs rows.flatten ns->v.oneCell'=true->
  D6 w v (.fr e sz rows) [] v.ownBlock.toList (v.ownBlock.toList++ns)
inductive rI(w:World):List Value->List D->List Nat->List Nat->List Nat->Prop
 |nil:rI w [] [] [] [] []
 |cons (v:Value) (vs:bp) (d:D) (ds:aL) (b1 b2 t1 t2 u1 u2:aS):v.oneCell'=true->D6 w v d b1 t1 u1->rI w vs ds b2 t2 u2->rI w (v::vs) (d::ds) (b1++b2) (t1++t2) (u1++u2)
inductive D7(w:World):Value->D->List Nat->List Nat->List Nat->Prop
 |cell {v:Value} {d:D} {bs ts us:aS}:D6 w v d bs ts us->D7 w v d bs ts us
 |agg (cs:bp) (ds:aL) (bs ts us:aS):rI w cs ds bs ts us->D7 w (.agg cs.toArray) (.agg ds) bs ts us
inductive yH(w:World):List Value->List D->List Nat->List Nat->List Nat->Prop
 |nil:yH w [] [] [] [] []
 |cons (v:Value) (vs:bp) (d:D) (ds:aL) (b1 b2 t1 t2 u1 u2:aS):D7 w v d b1 t1 u1->yH w vs ds b2 t2 u2->yH w (v::vs) (d::ds) (b1++b2) (t1++t2) (u1++u2)
inductive wM(w:World):Value->D->List Nat->List Nat->List Nat->Prop
 |v {v:Value} {d:D} {bs ts us:aS}:D7 w v d bs ts us->wM w v d bs ts us
 |iK (vs:bp) (ds:aL) (bs ts us:aS):yH w vs ds bs ts us->wM w (.tuple vs.toArray) (.iK ds) bs ts us
def Good(P:Program)(f:FuncId)(ds:aL)(d:D):Prop:=
 (∃fn,P.funcs[f]?=some fn/\fn.body.isSome=true/\(fn.name== "runtime.NumGoroutine")=false)/\
 ∀(w:World) (Θ:Nat->Nat) (args:bp) (bs:aS),K9 w (fun _=>False)->Pg w args ds bs->(∀b∈bs,Θ b=0)->(∀b,Θ b≠0->b<w.heap.size)->(∀b,Θ b<=1)->
  Calls P f args.toArray w (fun e w'=>∃v bs' ts us,e=.returned v/\Below w.heap.size w w'/\wM w' v d bs' ts us/\(∀b∈bs',b<w.heap.size->Θ b=0)/\(∀b∈bs',b∉ts)/\us.Nodup/\
   (∀b∈us,w.heap.size<=b/\Wr w' b)/\∀b∈ts,b∈us)
def Al(n:Nat)(d:D):D×bP:=match d with
 | .fr e sz rows=>(.acc n,[.row .uq e sz rows])
 |d=>(d,[])
def mE(n:Nat):aL->aL×bP
 | []=>([],[])
 |d::ds=>((Al n d).1::(mE (n+(Al n d).2.length) ds).1,(Al n d).2++(mE (n+(Al n d).2.length) ds).2)
def zc(n:Nat)(d:D):D×bP:=match d with
 | .agg cs=>(.agg (mE n cs).1,(mE n cs).2)
 |d=>Al n d
def xf(n:Nat):aL->aL×bP
 | []=>([],[])
 |d::ds=>((zc n d).1::(xf (n+(zc n d).2.length) ds).1,(zc n d).2++(xf (n+(zc n d).2.length) ds).2)
def mi(n:Nat)(d:D):D×bP:=match d with
 | .iK vs=>(.iK (xf n vs).1,(xf n vs).2)
 |d=>zc n d
structure Fs where
 v:Value
 e:Nat
 sz:Nat
 rows:List aL
 cs:bp
 ns:aS
def Fs.ob(x:Fs):Ob:=.row .uq x.e x.sz x.rows
def Fs.ok(w:World)(x:Fs):Prop:=0<x.sz/\(∀r∈x.rows,r.length=x.sz)/\w.ownsRow 0 x.e x.sz x.v x.rows.length x.cs/\jv w x.cs x.rows.flatten x.ns/\x.v.oneCell'=true
def Fs.bl(x:Fs):aS:=x.v.ownBlock.toList++x.ns
def Fs.ts(x:Fs):aS:=x.v.ownBlock.toList
section
variable{P:Program}{Γ:sO}{Q:Exit->St->Prop}{st:St}{κ κ':Nat->Option Value}{Θ Θ':Nat->Nat}{a:Act}{w w':World}{all:Array Oper}{rest:List Oper}
def Names(κ:Nat->Option Value)(n:Nat)(L:List Fs):Prop:=∀(i:Nat) x,L[i]?=some x->κ (n+i)=some x.v
theorem Names.left{n:Nat}{L1 L2:List Fs}(h:Names κ n (L1++L2)):Names κ n L1:=fun i x hx=>h i x (by
 rw[aq (aE.1 hx).1];exact hx)
theorem Names.right{n:Nat}{L1 L2:List Fs}(h:Names κ n (L1++L2)):Names κ (n+L1.length) L2:=fun i x hx=>by
 have:=h (L1.length+i) x (by rw[ax (by omega)];simpa using hx);rw[<-this];congr 1;omega
theorem D6.inst{v:Value}{d:D}{bs ts us:aS}(h:D6 w v d bs ts us)(n:Nat):
 ∃L:List Fs,L.map Fs.ob=(Al n d).2/\(∀x∈L,x.ok w)/\us=L.flatMap Fs.bl/\ts=L.flatMap Fs.ts/\∀κ,Names κ n L->wZ w κ v (Al n d).1 bs:=by
 cases h with
 |pure h=>
  have e:Al n d=(d,[]):=by cases h<;>rfl
  rw[e];exact⟨[],rfl,by simp,rfl,rfl,fun κ _=>.pure h⟩
 |fr e sz rows cs ns h1 h2 h3 h4 h5=>
  refine⟨[⟨v,e,sz,rows,cs,ns⟩],rfl,?_,by simp[Fs.bl],by simp[Fs.ts],fun κ hk=>?_⟩
  ·intro x hx;simp at hx;subst hx;exact⟨h1,h2,h3,h4,h5⟩
  ·exact .acc n v (by simpa using hk 0 _ rfl)
theorem rI.inst{vs:bp}{ds:aL}{bs ts us:aS}(h:rI w vs ds bs ts us)(n:Nat):
 ∃L:List Fs,L.map Fs.ob=(mE n ds).2/\(∀x∈L,x.ok w)/\us=L.flatMap Fs.bl/\ts=L.flatMap Fs.ts/\∀κ,Names κ n L->ey w κ vs (mE n ds).1 bs:=by
 induction h generalizing n with
 |nil=>exact⟨[],rfl,by simp,rfl,rfl,fun κ _=>.nil⟩
 |cons v vs d ds b1 b2 t1 t2 u1 u2 h1 h2 _ ih=>
  obtain⟨L1,q1,q2,q3,q4,q5⟩:=h2.inst n;obtain⟨L2,p1,p2,p3,p4,p5⟩:=ih (n+(Al n d).2.length);have hl:L1.length=(Al n d).2.length:=by rw[<-q1];simp
  refine⟨L1++L2,by simp[mE,q1,p1],?_,by simp[q3,p3],by simp[q4,p4],fun κ hk=>?_⟩
  ·intro x hx;rcases aZ.1 hx with hx|hx
   ·exact q2 x hx
   ·exact p2 x hx
  ·refine .cons _ _ _ _ _ _ h1 (q5 κ hk.left) (p5 κ ?_);rw[<-hl];exact hk.right
theorem D7.inst{v:Value}{d:D}{bs ts us:aS}(h:D7 w v d bs ts us)(n:Nat):
 ∃L:List Fs,L.map Fs.ob=(zc n d).2/\(∀x∈L,x.ok w)/\us=L.flatMap Fs.bl/\ts=L.flatMap Fs.ts/\∀κ,Names κ n L->Iq w κ v (zc n d).1 bs:=by
 cases h with
 |cell h=>
  by_cases rE:∃ds,d=.agg ds
  ·obtain⟨ds,rfl⟩:=rE;cases h with
   |pure h=>
    cases h with
    |agg cs _ _ h=>
     have:∀(vs:bp) (es:aL) (b:aS),jv w vs es b->∀n,(mE n es).1=es/\(mE n es).2=[]:=by
      intro vs es
      induction es generalizing vs with
      |nil=>intro b _ n;exact⟨rfl,rfl⟩
      |cons e es ih=>
       intro b hh n;cases hh with
       |cons v vs _ _ b1 b2 _ h2 h3=>
        have e1:Al n e=(e,[]):=by cases h2<;>rfl
        have:=ih vs b2 h3 n;simp[mE,e1,this]
     obtain⟨e1,e2⟩:=this _ _ _ h n;refine⟨[],by simp[zc,e2],by simp,rfl,rfl,fun κ _=>?_⟩;simp only[zc,e1];exact .agg _ _ _ (ey.Am h)
  ·have e:zc n d=Al n d:=by cases d<;>first|rfl|exact absurd ⟨_,rfl⟩ rE
   rw[e];obtain⟨L,q1,q2,q3,q4,q5⟩:=h.inst n;exact⟨L,q1,q2,q3,q4,fun κ hk=>.cell (q5 κ hk)⟩
 |agg cs ds bs ts us h=>
  obtain⟨L,q1,q2,q3,q4,q5⟩:=h.inst n;exact⟨L,q1,q2,q3,q4,fun κ hk=>.agg _ _ _ (q5 κ hk)⟩
theorem yH.inst{vs:bp}{ds:aL}{bs ts us:aS}(h:yH w vs ds bs ts us)(n:Nat):
 ∃L:List Fs,L.map Fs.ob=(xf n ds).2/\(∀x∈L,x.ok w)/\us=L.flatMap Fs.bl/\ts=L.flatMap Fs.ts/\∀κ,Names κ n L->zw w κ vs (xf n ds).1 bs:=by
 induction h generalizing n with
 |nil=>exact⟨[],rfl,by simp,rfl,rfl,fun κ _=>.nil⟩
 |cons v vs d ds b1 b2 t1 t2 u1 u2 h2 _ ih=>
  obtain⟨L1,q1,q2,q3,q4,q5⟩:=h2.inst n;obtain⟨L2,p1,p2,p3,p4,p5⟩:=ih (n+(zc n d).2.length);have hl:L1.length=(zc n d).2.length:=by rw[<-q1];simp
  refine⟨L1++L2,by simp[xf,q1,p1],?_,by simp[q3,p3],by simp[q4,p4],fun κ hk=>?_⟩
  ·intro x hx;rcases aZ.1 hx with hx|hx
   ·exact q2 x hx
   ·exact p2 x hx
  ·refine .cons _ _ _ _ _ _ (q5 κ hk.left) (p5 κ ?_);rw[<-hl];exact hk.right
theorem wM.inst{v:Value}{d:D}{bs ts us:aS}(h:wM w v d bs ts us)(n:Nat):
 ∃L:List Fs,L.map Fs.ob=(mi n d).2/\(∀x∈L,x.ok w)/\us=L.flatMap Fs.bl/\ts=L.flatMap Fs.ts/\∀κ,Names κ n L->pW w κ v (mi n d).1 bs:=by
 cases h with
 |v h=>
  have hnt:∀vs,d≠ .iK vs:=by
   intro vs e;subst e;cases h with
   |cell h=>cases h with|pure h=>cases h
  have e:mi n d=zc n d:=by cases d<;>first|rfl|exact absurd rfl (hnt _)
  rw[e];obtain⟨L,q1,q2,q3,q4,q5⟩:=h.inst n;exact⟨L,q1,q2,q3,q4,fun κ hk=>.v (q5 κ hk)⟩
 |iK vs ds bs ts us h=>
  obtain⟨L,q1,q2,q3,q4,q5⟩:=h.inst n;exact⟨L,q1,q2,q3,q4,fun κ hk=>.iK _ _ _ (q5 κ hk)⟩
theorem Md{v:Value}{d:D}{bs ts us:aS}(h:D6 w v d bs ts us):∀b∈ts,Wr w b:=by
 cases h with
 |pure=>simp
 |fr e sz rows cs ns h1 h2 h3 h4 h5=>
  intro b hb;simp only[ju]at hb;rcases h3.2 with⟨rfl,_⟩|⟨g,cap,cur,rfl,_,hg,_⟩
  ·simp[Value.ownBlock]at hb
  ·simp[Value.ownBlock]at hb;subst hb;exact⟨_,_,hg⟩
theorem Qv{vs:bp}{ds:aL}{bs ts us:aS}(h:rI w vs ds bs ts us):∀b∈ts,Wr w b:=by
 induction h with
 |nil=>simp
 |cons v vs d ds b1 b2 t1 t2 u1 u2 h1 h2 _ ih=>
  intro b hb;rcases aZ.1 hb with hb|hb
  ·exact Md h2 b hb
  ·exact ih b hb
theorem Is{v:Value}{d:D}{bs ts us:aS}(h:D7 w v d bs ts us):∀b∈ts,Wr w b:=by
 cases h with
 |cell h=>exact Md h
 |agg cs ds bs ts us h=>exact Qv h
theorem Gu{vs:bp}{ds:aL}{bs ts us:aS}(h:yH w vs ds bs ts us):∀b∈ts,Wr w b:=by
 induction h with
 |nil=>simp
 |cons v vs d ds b1 b2 t1 t2 u1 u2 h2 _ ih=>
  intro b hb;rcases aZ.1 hb with hb|hb
  ·exact Is h2 b hb
  ·exact ih b hb
theorem Ir{v:Value}{d:D}{bs ts us:aS}(h:wM w v d bs ts us):∀b∈ts,Wr w b:=by
 cases h with
 |v h=>exact Is h
 |iK vs ds bs ts us h=>exact Gu h
def ix{α:Type}(p:α->Bool):List α->Option Nat
 | []=>none
 |x::r=>if p x then some 0 else(ix p r).map (· +1)
theorem wU{α:Type}{p:α->Bool}:∀ {l:List α} {i:Nat},ix p l=some i->∃x,l[i]?=some x/\p x=true:=by
 intro l
 induction l with
 |nil=>intro i h;cases h
 |cons x r ih=>
  intro i h;simp only[ix]at h;split at h
  ·cases h;exact⟨x,rfl,by assumption⟩
  ·cases hr:ix p r with
   |none=>simp[hr]at h
   |some j=>simp[hr]at h;subst h;simpa using ih hr
theorem CU{α:Type}{p:α->Bool}:∀ {l:List α} {i:Nat} {x:α},l[i]?=some x->p x=true->(∀(j:Nat) y,l[j]?=some y->p y=true->j=i)->ix p l=some i:=by
 intro l
 induction l with
 |nil=>intro i x h;simp at h
 |cons y r ih=>
  intro i x h hp hu;simp only[ix];split
  ·rename_i hy;rw[hu 0 y rfl hy]
  ·rename_i hy;cases i with
   |zero=>simp at h;subst h;exact absurd hp hy
   |succ i=>
    rw[ih (by simpa using h) hp (fun j z hz VM=>by have:=hu (j+1) z (by simpa using hz) VM;omega)];rfl
theorem tY{α:Type}{f:α->aS}:∀ {l:List α},(l.flatMap f).Nodup->∀(i j:Nat) x y b,l[i]?=some x->l[j]?=some y->b∈f x->b∈f y->i=j:=by
 intro l
 induction l with
 |nil=>intro _ i j x y b hi;simp at hi
 |cons z r ih=>
  intro hnd i j x y b hi hj yy hby;simp only[ei]at hnd;obtain⟨n1,n2,n3⟩:=bD.1 hnd;cases i with
  |zero=>
   simp at hi;subst hi;cases j with
   |zero=>rfl
   |succ j=>
    simp at hj;exact absurd rfl (n3 b yy b (bq.2 ⟨y,aD hj,hby⟩))
  |succ i=>
   simp at hi;cases j with
   |zero=>
    simp at hj;subst hj;exact absurd rfl (n3 b hby b (bq.2 ⟨x,aD hi,yy⟩))
   |succ j=>simp at hj;rw[ih n2 i j x y b hi hj yy hby]
theorem dH.Kp(hs:dH Γ st κ Θ a w)(hb:Below w.heap.size w w')(L:List Fs)(hL:∀x∈L,x.ok w')(hnd:(L.flatMap Fs.bl).Nodup)(hfr:∀b∈L.flatMap Fs.bl,w.heap.size<=b/\Wr w' b)
 (n:Nat) (H':bP) (hfree:∀i,i<L.length->κ (n+i)=none) (hlen':st.H.length<=H'.length) (hin:n+L.length<=H'.length)
 (key:∀(j:Nat) y,H'[j]?=some y->(∃i x,j=n+i/\L[i]?=some x/\y=x.ob)\/((j<n\/n+L.length<=j)/\(y=.gone\/st.H[j]?=some y))):
 ∃κ' Θ',dH Γ ⟨st.σ,H'⟩ κ' Θ' a w'/\Names κ' n L/\(∀(j:Nat) v,κ j=some v->κ' j=some v)/\(∀b,b∉L.flatMap Fs.ts->Θ' b=Θ b)/\(∀j,(j<n\/n+L.length<=j)->κ' j=κ j):=by
 let κ':Nat->Option Value:=fun j=>if j<n\/n+L.length<=j then κ j else(L[j-n]?).map Fs.v
 let Θ':Nat->Nat:=fun b=>match ix (fun x:Fs=>x.v.ownBlock==some b) L with|some i=>n+i+2|none=>Θ b
 have hu1:∀(i j:Nat) x y b,L[i]?=some x->L[j]?=some y->b∈x.bl->b∈y.bl->i=j:=fun i j x y b=>tY hnd i j x y b
 have hts:∀(i:Nat) x b,L[i]?=some x->x.v.ownBlock=some b->Θ' b=n+i+2:=by
  intro i x b hi S9;have:ix (fun x:Fs=>x.v.ownBlock==some b) L=some i:=CU hi (by simp[S9]) (fun j y hj hy=>by
   simp only[cQ]at hy;exact hu1 j i y x b hj hi (by simp[Fs.bl,hy]) (by simp[Fs.bl,S9]))
  simp only[Θ',this]
 have hno:∀b,b∉L.flatMap Fs.ts->Θ' b=Θ b:=by
  intro b hb';simp only[Θ'];cases h:ix (fun x:Fs=>x.v.ownBlock==some b) L with
  |none=>rfl
  |some i=>
   obtain⟨x,hx,hp⟩:=wU h;exact absurd (bq.2 ⟨x,aD hx,by simp only[cQ]at hp;simp[Fs.ts,hp]⟩) hb'
 have hsub:∀b,b∈L.flatMap Fs.ts->b∈L.flatMap Fs.bl:=by
  intro b h;obtain⟨x,hx,yy⟩:=bq.1 h;exact bq.2 ⟨x,hx,by simp only[Fs.bl,Fs.ts]at yy⊢;exact aZ.2 (.inl yy)⟩
 have hold:∀b,b<w.heap.size->Θ' b=Θ b:=fun b hlt=>hno b (fun h=>by have:=(hfr b (hsub b h)).1;omega)
 have hzero:∀b,w.heap.size<=b->Θ b=0:=fun b hge=>by
  cases h:Θ b with
  |zero=>rfl
  |succ m=>exact absurd (hs.own b (by omega)) (by omega)
 have hn:∀(j:Nat) v,κ j=some v->κ' j=some v:=by
  intro j v hj;have:j<n\/n+L.length<=j:=by
   rcases dX j n with h|h
   ·exact .inl h
   ·rcases dX j (n+L.length)with h2|h2
    ·have:=hfree (j-n) (by omega);rw[show n+(j-n)=j from by omega,hj]at this;cases this
    ·exact .inr h2
  simp only[κ'];rw[bN this];exact hj
 have tJ:Names κ' n L:=by
  intro i x hx;have hlt:=(aE.1 hx).1;simp only[κ'];rw[b9 (by omega),cq,hx];rfl
 have hTb:∀b,Θ' b≠0->Θ b≠0\/b∈L.flatMap Fs.bl:=by
  intro b h;by_cases hbt:b∈L.flatMap Fs.ts
  ·exact .inr (hsub b hbt)
  ·rw[hno b hbt]at h;exact .inl h
 have k:hY w w' Θ Θ' (H'.length+2):=by
  refine⟨by omega,hb.os,hb.tape,hb.output,hb.size,fun b hlt _=>hb.block b hlt,fun b hlt _=>hold b hlt,fun b h=>?_⟩;rcases hTb b h with h|h
  ·exact cz (hs.own b h) hb.size
  ·obtain⟨cs,T,hx⟩:=(hfr b h).2;exact(az.1 hx).1
 have hm:∀b,2<=Θ' b->vg Γ b:=by
  intro b h;by_cases hbt:b∈L.flatMap Fs.ts
  ·exact .inl (dK hs.base (hfr b (hsub b hbt)).1)
  ·rw[hno b hbt]at h;exact hs.mine b h
 obtain⟨ρ,hu⟩:=hs.qz;have qy:=hs.mm k hn hu;let ρ':Nat->Nat:=fun b=>match ix (fun x:Fs=>x.ns.contains b) L with|some i=>n+i+1|none=>ρ b
 have hns:∀(i:Nat) x b,L[i]?=some x->b∈x.ns->ρ' b=n+i+1:=by
  intro i x b hi S9;have:ix (fun x:Fs=>x.ns.contains b) L=some i:=CU hi (by simpa using S9) (fun j y hj hy=>by
   exact hu1 j i y x b hj hi (by simp only[Fs.bl];exact aZ.2 (.inr (by simpa using hy))) (by simp only[Fs.bl];exact aZ.2 (.inr S9)))
  simp only[ρ',this]
 have vb:∀(i:Nat) x b,L[i]?=some x->b∈x.ns->Θ' b=0:=by
  intro i x b hi S9;have hmem:b∈L.flatMap Fs.bl:=bq.2 ⟨x,aD hi,by simp only[Fs.bl];exact aZ.2 (.inr S9)⟩;rw[hno b ?_]
  ·exact hzero b (hfr b hmem).1
  ·intro h;obtain⟨y,hy,hby⟩:=bq.1 h;obtain⟨j,hj⟩:=di hy;have:=hu1 j i y x b hj hi (by simp only[Fs.bl,Fs.ts]at hby⊢;exact aZ.2 (.inl hby)) (by simp only[Fs.bl];exact aZ.2 (.inr S9));subst this;rw[hj]at hi;cases hi;have HU:x.bl.Nodup:=by
    have:∀(l:List Fs),(l.flatMap Fs.bl).Nodup->∀x∈l,x.bl.Nodup:=by
     intro l
     induction l with
     |nil=>intro _ x hx;cases hx
     |cons z r ih=>
      intro hnd x hx;simp only[ei]at hnd;obtain⟨n1,n2,_⟩:=bD.1 hnd;rcases bH.1 hx with rfl|hx
      ·exact n1
      ·exact ih n2 x hx
    exact this L hnd x hy
   simp only[Fs.bl]at HU;exact(bD.1 HU).2.2 b hby b S9 rfl
 have hlen:∀i,H'.length<=i->κ' i=none:=by
  intro i hi;simp only[κ'];rw[bN (by omega)];exact hs.ni i (by omega)
 have JE:∀(j:Nat) y,H'[j]?=some y->j+2≠H'.length+2:=fun j y hj=>by
  have:=(aE.1 hj).1;omega
 refine⟨κ',Θ',?_,tJ,hn,hno,fun j hj=>bN hj⟩;have Hw:∀b,b<w.heap.size->ρ' b=ρ b:=by
  intro b hlt';simp only[ρ'];cases hi:ix (fun x:Fs=>x.ns.contains b) L with
  |none=>rfl
  |some i=>
   obtain⟨x,hx,hp⟩:=wU hi;have:=(hfr b (bq.2 ⟨x,aD hx,by simp only[Fs.bl];exact aZ.2 (.inr (by simpa using hp))⟩)).1;omega
 have Xj:∀b,ρ b≠0->b<w.heap.size:=fun b hb'=>by
  obtain⟨_,_,cs',T,hx⟩:=hu.free b hb';exact(az.1 hx).1
 refine hs.step k hm hn hlen ?_ ?_ ⟨ρ',?_,?_,?_⟩
 ·intro i u uP;simp only[κ']at uP;split at uP
  ·exact hs.mw i u uP
  ·cases hx:L[i-n]? with
   |none=>simp[hx]at uP
   |some x=>simp[hx]at uP;subst uP;exact(hL x (aD hx)).2.2.2.2
 ·intro j y hj;have hjl:=JE j y hj;rcases key j y hj with⟨i,x,rfl,hx,rfl⟩|⟨hlt,hy|hy⟩
  ·obtain⟨q1,q2,q3,q4,_⟩:=hL x (aD hx);exact .inr (.inr ⟨q1,q2,x.v,x.cs,x.ns,tJ i x hx,q3,q4,fun g hg=>hts i x g hx hg,fun b hb'=>vb i x b hx hb'⟩)
  ·exact .inl hy
  ·exact .inr (.inl ⟨hjl,hy⟩)
 ·intro b hb';by_cases h:∃(i:Nat) (x:Fs),L[i]?=some x/\b∈x.ns
  ·obtain⟨i,x,hx,yy⟩:=h;have hmem:b∈L.flatMap Fs.bl:=bq.2 ⟨x,aD hx,by simp only[Fs.bl];exact aZ.2 (.inr yy)⟩;exact⟨vb i x b hx yy,.inl (.inl (dK hs.base (hfr b hmem).1)),(hfr b hmem).2⟩
  ·have:ρ' b=ρ b:=by
    simp only[ρ'];cases hi:ix (fun x:Fs=>x.ns.contains b) L with
    |none=>rfl
    |some i=>
     obtain⟨x,hx,hp⟩:=wU hi;exact absurd ⟨i,x,hx,by simpa using hp⟩ h
   rw[this]at hb';exact qy.1 b hb'
 ·intro j e sz rows hj;have hjl:=JE j _ hj;rcases key j _ hj with⟨i,x,rfl,hx,hy⟩|⟨hlt,hy|hy⟩
  ·simp only[Fs.ob,Ob.row.injEq,qE]at hy;obtain⟨rfl,rfl,rfl⟩:=hy;obtain⟨q1,q2,q3,q4,_⟩:=hL x (aD hx);have HU:x.ns.Nodup:=by
    have:∀(l:List Fs),(l.flatMap Fs.bl).Nodup->∀x∈l,x.bl.Nodup:=by
     intro l
     induction l with
     |nil=>intro _ x hx;cases hx
     |cons z r ih=>
      intro hnd x hx;simp only[ei]at hnd;obtain⟨n1,n2,_⟩:=bD.1 hnd;rcases bH.1 hx with rfl|hx
      ·exact n1
      ·exact ih n2 x hx
    exact(bD.1 (this L hnd x (aD hx))).2.1
   exact⟨x.v,x.cs,x.ns,tJ i x hx,q3,q4,HU,fun b hb'=>hns i x b hx hb'⟩
  ·cases hy
  ·obtain⟨v,cs,bs,q1,q2,q3,q4,q5⟩:=qy.2.1 j e sz rows hjl hy;exact⟨v,cs,bs,q1,q2,q3,q4,fun b hb'=>(Hw b (Xj b (by rw[q5 b hb'];omega))).trans (q5 b hb')⟩
 ·intro j y hj;have hjl:=JE j _ hj;rcases key j _ hj with⟨i,x,rfl,hx,hy⟩|⟨hlt,hy|hy⟩
  ·subst hy;exact Hp.uo rfl
  ·subst hy;trivial
  ·exact(qy.2.2 j y hjl hy).re fun b hb'=>(Hw b (Xj b (by omega))).trans hb'
theorem dH.Wd(hs:dH Γ st κ Θ a w)(hb:Below w.heap.size w w')(L:List Fs)(hL:∀x∈L,x.ok w')(hnd:(L.flatMap Fs.bl).Nodup)(hfr:∀b∈L.flatMap Fs.bl,w.heap.size<=b/\Wr w' b):
 ∃κ' Θ',dH Γ ⟨st.σ,st.H++L.map Fs.ob⟩ κ' Θ' a w'/\Names κ' st.H.length L/\(∀(j:Nat) v,κ j=some v->κ' j=some v)/\(∀b,b∉L.flatMap Fs.ts->Θ' b=Θ b):=by
 obtain⟨κ',Θ',h1,h2,h3,h4,_⟩:=hs.Kp hb L hL hnd hfr st.H.length (st.H++L.map Fs.ob) (fun i _=>hs.ni _ (by omega)) (by simp) (by simp) (by
  intro j y hj;by_cases hlt:j<st.H.length
  ·rw[aq hlt]at hj;exact .inr ⟨.inl hlt,.inr hj⟩
  ·rw[ax (by omega),bU]at hj;cases hx:L[j-st.H.length]? with
   |none=>simp[hx]at hj
   |some x=>simp[hx]at hj;exact .inl ⟨j-st.H.length,x,by omega,hx,hj.symm⟩)
 exact⟨κ',Θ',h1,h2,h3,h4⟩
def SA(H:bP)(d:D):Option (D×aS):=match d with
 | .acc m=>(match H[m]? with|some (.row _ _ _ rows)=>some (.sl rows,[m])|some (.uK _ rows _)=>some (.sl rows,[m])|some (.tk rows)=>some (.sl rows,[])|_=>none)
 | .ptr _ _=>none
 | .op _ _ _ _=>none
 |d=>some (d.EB,[])
def Nt(H:bP):aL->Option (aL×aS)
 | []=>some ([],[])
 |d::ds=>match SA H d,Nt H ds with|some (e,m),some (es,ms)=>some (e::es,m++ms)|_,_=>none
def V7(H:bP)(d:D):Option (D×aS):=match d with
 | .agg cs=>(match Nt H cs with|some (es,ms)=>some (.agg es,ms)|none=>none)
 | .iK _=>none
 |d=>SA H d
def Du(H:bP):aL->Option (aL×aS)
 | []=>some ([],[])
 |d::ds=>match V7 H d,Du H ds with|some (e,m),some (es,ms)=>some (e::es,m++ms)|_,_=>none
def Seen(Θ:Nat->Nat)(ms:aS)(b:Nat):Prop:=Θ b=0\/∃m∈ms,Θ b=m+2
theorem Seen.mono{ms ns:aS}{b:Nat}(h:Seen Θ ms b)(hs:∀m∈ms,m∈ns):Seen Θ ns b:=by
 rcases h with h|⟨m,h1,h2⟩
 ·exact .inl h
 ·exact .inr ⟨m,hs m h1,h2⟩
theorem V6(hs:dH Γ st κ Θ a w){v:Value}{d e:D}{bs:aS}{ms:aS}(h:SA st.H d=some (e,ms))(hr:wZ w κ v d bs)(hz:∀b∈bs,Θ b=0):∃b',Rd w v e b'/\∀b∈b',Seen Θ ms b:=by
 cases hr with
 |pure hr=>
  have:SA st.H d=some (d.EB,[]):=by cases hr<;>rfl
  rw[this]at h;cases h;exact⟨bs,hr.soft,fun b hb=>.inl (hz b hb)⟩
 |acc m _ hk=>
  simp only[SA]at h;split at h
  ·rename_i k e' sz rows hH;cases h;obtain⟨_,hrl,v2,cs,b2,hk2,hown,qC,hΘ,hd⟩:=hs.ob m _ hH;rw[hk]at hk2;cases hk2;refine⟨_,tK hrl hown qC,fun b hb=>?_⟩;rcases aZ.1 hb with hb|hb
   ·simp only[ju]at hb;exact .inr ⟨m,by simp,hΘ b hb⟩
   ·cases k with
    |cl=>exact .inr ⟨m,by simp,(hd.2.1 b hb).1⟩
    |sh=>exact .inl (hd b hb)
    |uq=>exact .inl (hd b hb)
    |mv n=>exact .inl (hd b hb)
  ·rename_i sz rows u hH;cases h;obtain⟨_,_,v2,b2,hk2,hrd,_,CP⟩:=hs.ob m _ hH;rw[hk]at hk2;cases hk2;exact⟨b2,hrd,fun b hb=>.inr ⟨m,by simp,(CP b hb).1⟩⟩
  ·rename_i rows hH;cases h;obtain⟨v2,b2,hk2,hrd,TQ⟩:=hs.ob m _ hH;rw[hk]at hk2;cases hk2;exact⟨b2,hrd,fun b hb=>.inl (TQ b hb)⟩
  ·cases h
 |ptr=>simp[SA]at h
 |op=>simp[SA]at h
theorem XK(hs:dH Γ st κ Θ a w):∀ {ds es:aL} {vs:bp} {bs ms:aS},Nt st.H ds=some (es,ms)->ey w κ vs ds bs->(∀b∈bs,Θ b=0)->∃b',jv w vs es b'/\∀b∈b',Seen Θ ms b:=by
 intro ds
 induction ds with
 |nil=>
  intro es vs bs ms h hr _;simp only[Nt,ah,cK]at h;obtain⟨rfl,rfl⟩:=h;cases hr;exact⟨[],.nil,by simp⟩
 |cons d ds ih=>
  intro es vs bs ms h hr hz;simp only[Nt]at h;split at h
  ·rename_i e m es' ms' h1 h2;cases h;cases hr with
   |cons v vs _ _ b1 b2 hv hc hcs=>
    obtain⟨c1,q1,q2⟩:=V6 hs h1 hc (fun b hb=>hz b (by simp[hb]));obtain⟨c2,p1,p2⟩:=ih h2 hcs (fun b hb=>hz b (by simp[hb]));refine⟨c1++c2,.cons _ _ _ _ _ _ hv q1 p1,fun b hb=>?_⟩;rcases aZ.1 hb with hb|hb
    ·exact(q2 b hb).mono (fun m hm=>by simp[hm])
    ·exact(p2 b hb).mono (fun m hm=>by simp[hm])
  ·cases h
theorem a0X(hs:dH Γ st κ Θ a w){v:Value}{d e:D}{bs ms:aS}(h:V7 st.H d=some (e,ms))(hr:pW w κ v d bs)(hz:∀b∈bs,Θ b=0):∃b',Rd w v e b'/\∀b∈b',Seen Θ ms b:=by
 by_cases rE:∃ds,d=.agg ds
 ·obtain⟨ds,rfl⟩:=rE;obtain⟨cs,rfl,hcs⟩:=hr.Cs;simp only[V7]at h;split at h
  ·rename_i es ms' h1;cases h;obtain⟨b',q1,q2⟩:=XK hs h1 hcs hz;exact⟨b',.agg _ _ _ q1,q2⟩
  ·cases h
 ·have hc:wZ w κ v d bs:=by
   cases hr with
   |v hr=>cases hr with
    |cell hr=>exact hr
    |agg=>exact absurd ⟨_,rfl⟩ rE
   |iK=>simp[V7]at h
  have e1:V7 st.H d=SA st.H d:=by
   cases d<;>first|rfl|exact absurd ⟨_,rfl⟩ rE|simp[V7]at h
  rw[e1]at h;exact V6 hs h hc hz
theorem Ij(hs:dH Γ st κ Θ a w):∀ {xs:List Operand} {es:aL} {ms:aS},Du st.H (xs.map st.ev)=some (es,ms)->∃b',Pg w (xs.map a.eval) es b'/\∀b∈b',Seen Θ ms b:=by
 intro xs
 induction xs with
 |nil=>
  intro es ms h;simp only[bf,Du,ah,cK]at h;obtain⟨rfl,rfl⟩:=h;exact⟨[],.nil,by simp⟩
 |cons x xs ih=>
  intro es ms h;simp only[bC,Du]at h;split at h
  ·rename_i e m es' ms' h1 h2;cases h;obtain⟨b0,r0,z0⟩:=hs.ev x;obtain⟨c1,q1,q2⟩:=a0X hs h1 r0 z0;obtain⟨c2,p1,p2⟩:=ih h2;refine⟨c1++c2,.cons _ _ _ _ _ _ q1 p1,fun b hb=>?_⟩;rcases aZ.1 hb with hb|hb
   ·exact(q2 b hb).mono (fun m hm=>by simp[hm])
   ·exact(p2 b hb).mono (fun m hm=>by simp[hm])
  ·cases h
def D.VS(d:D):D:=match d with
 | .fr _ _ rows=>.sl rows
 |d=>d
def D.Un(d:D):D:=match d with
 | .agg cs=>.agg (cs.map D.VS)
 |d=>d.VS
theorem rI.Am{w:World}:∀ {ds:aL} {vs:bp} {bs:aS},jv w vs ds bs->rI w vs ds bs [] []:=by
 intro ds
 induction ds with
 |nil=>intro vs bs h;cases h;exact .nil
 |cons d ds ih=>
  intro vs bs h;cases h with
  |cons v vs _ _ b1 b2 h1 h2 h3=>exact .cons _ _ _ _ _ _ [] [] [] [] h1 (.pure h2) (ih h3)
theorem D6.AX{w:World}{v:Value}{d:D}{bs ts us:aS}(h:D6 w v d bs ts us):∃b,Rd w v d.VS b/\∀x∈b,x∈bs\/x∈us:=by
 cases h with
 |pure h=>
  have e:d.VS=d:=by cases h<;>rfl
  exact⟨_,e.symm▸h,fun x hx=>.inl hx⟩
 |fr e sz rows cs ns h1 h2 h3 h4 h5=>exact⟨_,tK h2 h3 h4,fun x hx=>.inr hx⟩
theorem rI.AX{w:World}{vs:bp}{ds:aL}{bs ts us:aS}(h:rI w vs ds bs ts us):∃b,jv w vs (ds.map D.VS) b/\∀x∈b,x∈bs\/x∈us:=by
 induction h with
 |nil=>exact⟨_,.nil,by simp⟩
 |cons v vs d ds b1 b2 t1 t2 u1 u2 h1 h2 _ ih=>
  obtain⟨b,q,s⟩:=h2.AX;obtain⟨b',q',s'⟩:=ih;refine⟨_,.cons _ _ _ _ _ _ h1 q q',fun x hx=>?_⟩;rcases aZ.1 hx with h|h
  ·rcases s x h with h|h<;>simp[h]
  ·rcases s' x h with h|h<;>simp[h]
theorem D7.AX{w:World}{v:Value}{d:D}{bs ts us:aS}(h:D7 w v d bs ts us):∃b,Rd w v d.Un b/\∀x∈b,x∈bs\/x∈us:=by
 cases h with
 |cell h=>
  by_cases rE:∃ds,d=.agg ds
  ·obtain⟨ds,rfl⟩:=rE;cases h with
   |pure h=>cases h with
    |agg cs _ _ h=>
     obtain⟨b,q,s⟩:=(rI.Am h).AX;exact⟨_,.agg _ _ _ q,s⟩
  ·have e:d.Un=d.VS:=by cases d<;>first|rfl|exact absurd ⟨_,rfl⟩ rE
   rw[e];exact h.AX
 |agg cs ds bs ts us h=>
  obtain⟨b,q,s⟩:=h.AX;exact⟨_,.agg _ _ _ q,s⟩
def D.Rf(d:D):Bool:=match d with
 | .fr _ _ _=>true
 |d=>d.flat
def D.Na(d:D):Bool:=match d with
 | .agg cs=>cs.all D.Rf
 |d=>d.Rf
def D.Jf(d:D):Bool:=match d with
 | .iK vs=>vs.all D.Na
 |d=>d.Na
def D.Zs(d:D):Bool:=match d with
 | .iK _=>false
 |d=>d.Na
theorem D6.own{v:Value}{d:D}{bs ts us:aS}(h:D6 w v d bs ts us)(ho:d.Rf=true):bs=[]:=by
 cases h with
 |pure h=>exact h.flat (by cases h<;>exact ho)
 |fr=>rfl
theorem rI.own{vs:bp}{ds:aL}{bs ts us:aS}(h:rI w vs ds bs ts us)(ho:ds.all D.Rf=true):bs=[]:=by
 induction h with
 |nil=>rfl
 |cons v vs d ds b1 b2 t1 t2 u1 u2 h1 h2 _ ih=>
  simp only[dh,aY]at ho;rw[h2.own ho.1,ih ho.2];rfl
theorem D7.own{v:Value}{d:D}{bs ts us:aS}(h:D7 w v d bs ts us)(ho:d.Na=true):bs=[]:=by
 cases h with
 |cell h=>
  by_cases rE:∃ds,d=.agg ds
  ·obtain⟨ds,rfl⟩:=rE;cases h with
   |pure h=>
    cases h with
    |agg cs _ _ h=>
     simp only[D.Na]at ho;have:∀(es:aL) (vs:bp) (b:aS),jv w vs es b->es.all D.Rf=true->es.all D.flat=true:=by
      intro es
      induction es with
      |nil=>intros;rfl
      |cons e es ih=>
       intro vs b hh ho;simp only[dh,aY]at ho⊢;cases hh with
       |cons v vs _ _ b1 b2 _ h2 h3=>exact⟨by cases h2<;>exact ho.1,ih _ _ h3 ho.2⟩
     exact jv.flat h (this _ _ _ h ho)
  ·have e:d.Na=d.Rf:=by cases d<;>first|rfl|exact absurd ⟨_,rfl⟩ rE
   exact h.own (e▸ho)
 |agg cs ds bs ts us h=>exact h.own ho
theorem yH.own{vs:bp}{ds:aL}{bs ts us:aS}(h:yH w vs ds bs ts us)(ho:ds.all D.Na=true):bs=[]:=by
 induction h with
 |nil=>rfl
 |cons v vs d ds b1 b2 t1 t2 u1 u2 h2 _ ih=>
  simp only[dh,aY]at ho;rw[h2.own ho.1,ih ho.2];rfl
theorem wM.own{v:Value}{d:D}{bs ts us:aS}(h:wM w v d bs ts us)(ho:d.Jf=true):bs=[]:=by
 cases h with
 |v h=>
  have hnt:∀vs,d≠ .iK vs:=by
   intro vs e;subst e;cases h with
   |cell h=>cases h with|pure h=>cases h
  have e:d.Jf=d.Na:=by cases d<;>first|rfl|exact absurd rfl (hnt _)
  exact h.own (e▸ho)
 |iK vs ds bs ts us h=>exact h.own ho
theorem uN{o:Oper}{f:FuncId}{xs:Array Operand}{ts:Array TypeId}(hop:o.op=.call {callee:=.value (.func f),args:=xs,argTypes:=ts})
 (hf:∃fn,P.funcs[f]?=some fn/\fn.body.isSome=true/\(fn.name== "runtime.NumGoroutine")=false):
 (execOp a.eval o).run P w=.ok (.enter f (xs.map a.eval)) w:=by
 obtain⟨fn,h1,h2,h3⟩:=hf;have h2':¬fn.body=none:=by intro hb;simp[hb]at h2
 simp only[cT,ne_eq]at h3;simp[execOp,hop,resolve,Deferred.ofValue,Act.eval,invoke,callFunc,h1,h2',h3]
theorem Ms{Q':Exit->Act->World->Prop}{K:Act->World->Prop}{o:Oper}{f t:Nat}{xs:Array Operand}{ts:Array TypeId}{ds:aL}{ms:aS}{d:D}(hs:dH Γ st κ Θ a w)
 (hop:o.op=.call {callee:=.value (.func f),args:=xs,argTypes:=ts}) (hd:o.dst=some t) (ht:t<Γ.nt) (hds:∃bs,Pg w (xs.toList.map a.eval) ds bs/\∀b∈bs,Seen Θ ms b) (hsh:ms=[]\/d.Jf=true)
 (mD:Good P f ds d) (hK:∀κ' Θ' a' w',dH Γ ⟨(t,(mi st.H.length d).1)::st.σ,st.H++(mi st.H.length d).2⟩ κ' Θ' a' w'->K a' w'):o.wp P a w K Q':=by
 obtain⟨bs,hargs,hz⟩:=hds;let Θc:Nat->Nat:=fun b=>if Θ b=0\/ms.any (fun m=>Θ b==m+2)then 0 else 1
 have Hv:∀b,Seen Θ ms b->Θc b=0:=by
  intro b h;simp only[Θc];rw[bN];rcases h with h|⟨m,h1,h2⟩
  ·exact .inl h
  ·exact .inr (cP.2 ⟨m,h1,by simp[h2]⟩)
 have hc:=mD.2 w Θc _ bs hs.vok hargs (fun b hb=>Hv b (hz b hb)) (fun b hb=>hs.own b (fun e=>hb (Hv b (.inl e)))) (fun b=>by simp only[Θc];split<;>omega);unfold Oper.wp;rw[uN hop mD.1,Oper.upon_enter];have e:xs.map a.eval=(xs.toList.map a.eval).toArray:=by rw[<-gG,jN]
 rw[e];refine hc.mono ?_;rintro e w' ⟨v,bs',tb,ub,rfl,hb,hr,Ia,htb,hnd,hfr,hsub⟩;show K (a.put o.dst v) w';rw[hd];obtain⟨L,q1,q2,q3,q4,q5⟩:=hr.inst st.H.length;obtain⟨κ',Θ',hs',hnm,_,hno⟩:=hs.Wd hb L q2 (q3▸hnd) (fun b hb'=>hfr b (q3▸hb'));rw[q1]at hs';refine hK κ' Θ' _ w' (hs'.set (t:=t) ht (q5 κ' hnm) fun b hb'=>?_);rw[hno b (q4▸htb b hb')];rcases hsh with JG|hown
 ·by_cases hlt:b<w.heap.size
  ·have h0:=Ia b hb' hlt;simp only[Θc,JG,FH]at h0;by_cases h1:Θ b=0
   ·exact h1
   ·simp[h1]at h0
  ·by_cases h0:Θ b=0
   ·exact h0
   ·exact absurd (hs.own b h0) hlt
 ·rw[hr.own hown]at hb';cases hb'
theorem Vl{Q':Exit->Act->World->Prop}{K:Act->World->Prop}{o:Oper}{f t:Nat}{xs:Array Operand}{ts:Array TypeId}{ds:aL}{ms:aS}{d:D}(hs:dH Γ st κ Θ a w)
 (hop:o.op=.call {callee:=.value (.func f),args:=xs,argTypes:=ts}) (hd:o.dst=some t) (ht:t<Γ.nt) (hds:Du st.H (xs.toList.map st.ev)=some (ds,ms)) (hsh:ms=[]\/d.Jf=true)
 (mD:Good P f ds d) (hK:∀κ' Θ' a' w',dH Γ ⟨(t,(mi st.H.length d).1)::st.σ,st.H++(mi st.H.length d).2⟩ κ' Θ' a' w'->K a' w'):o.wp P a w K Q':=
 Ms hs hop hd ht (Ij hs hds) hsh mD hK
def Hy(d:D):Bool:=match d with
 | .agg cs=>cs.all D.MW
 | .iK _=>false
 |d=>d.MW
theorem Tj{v:Value}{d:D}{bs:aS}(hr:pW w κ v d bs)(h:Hy d=true):Rd w v d bs:=by
 by_cases rE:∃ds,d=.agg ds
 ·obtain⟨ds,rfl⟩:=rE;obtain⟨cs,rfl,hcs⟩:=hr.Cs;exact .agg _ _ _ (hcs.pure h)
 ·have hp:d.MW=true:=by
   cases d<;>first|exact h|exact absurd ⟨_,rfl⟩ rE|simp[Hy]at h
  cases hr with
  |v hr=>cases hr with
   |cell hr=>cases hr with
    |pure hr=>exact hr
    |acc=>simp[D.MW]at hp
    |ptr=>simp[D.MW]at hp
    |op=>simp[D.MW]at hp
   |agg=>exact absurd ⟨_,rfl⟩ rE
  |iK=>simp[Hy]at h
theorem Kq(hs:dH Γ st κ Θ a w):∀ {xs:List Operand},(xs.map st.ev).all Hy=true->∃b',Pg w (xs.map a.eval) (xs.map st.ev) b'/\∀b∈b',Seen Θ [] b:=by
 intro xs
 induction xs with
 |nil=>intro _;exact⟨[],.nil,by simp⟩
 |cons x xs ih=>
  intro h;simp only[bC,dh,aY]at h;obtain⟨b0,r0,z0⟩:=hs.ev x;obtain⟨c2,p1,p2⟩:=ih h.2;refine⟨b0++c2,.cons _ _ _ _ _ _ (Tj r0 h.1) p1,fun b hb=>?_⟩;rcases aZ.1 hb with hb|hb
  ·exact .inl (z0 b hb)
  ·exact p2 b hb
theorem SF{o:Oper}{f t:Nat}{xs:Array Operand}{ts:Array TypeId}{d:D}(hop:o.op=.call {callee:=.value (.func f),args:=xs,argTypes:=ts})(hd:o.dst=some t)(hg:o.guard=none)
 (ht:t<Γ.nt) (hk:(xs.toList.map st.ev).all Hy=true) (mD:Good P f (xs.toList.map st.ev) d)
 (h:AO P Γ all rest Q ⟨(t,(mi st.H.length d).1)::st.σ,st.H++(mi st.H.length d).2⟩):AO P Γ all (o::rest) Q st:=by
 intro κ Θ a w hs;exact wpList_plain hg fun K hK=>Ms hs hop hd ht (Kq hs hk) (.inl rfl) mD fun κ' Θ' a' w' hs'=>hK _ _ (h κ' Θ' a' w' hs')
theorem VV{o:Oper}{f t:Nat}{xs:Array Operand}{ts:Array TypeId}{ds:aL}{ms:aS}{d:D}(hop:o.op=.call {callee:=.value (.func f),args:=xs,argTypes:=ts})(hd:o.dst=some t)(hg:o.guard=none)
 (ht:t<Γ.nt) (hds:Du st.H (xs.toList.map st.ev)=some (ds,ms)) (hsh:ms=[]\/d.Jf=true) (mD:Good P f ds d)
 (h:AO P Γ all rest Q ⟨(t,(mi st.H.length d).1)::st.σ,st.H++(mi st.H.length d).2⟩):AO P Γ all (o::rest) Q st:=by
 intro κ Θ a w hs;exact wpList_plain hg fun K hK=>Vl hs hop hd ht hds hsh mD fun κ' Θ' a' w' hs'=>hK _ _ (h κ' Θ' a' w' hs')
def UH(P:Program)(st:St):ResultVar->Option D
 | .tmp t=>some (lk st.σ t)
 | .cell x T=>match xq P T,lk st.σ x with
  |some ag,.ptr id off=>(match(st.H[id]?).bind Ob.R5 with|some cells=>E8 ag (wk P T) cells off|none=>none)
  |_,_=>none
def E9(P:Program)(st:St):List ResultVar->Option aL
 | []=>some []
 |r::rs=>match UH P st r,E9 P st rs with|some d,some ds=>some (d::ds)|_,_=>none
def UJ(tmps:Array Value):ResultVar->Sem Value
 | .tmp t=>pure (tmps.getD t undef)
 | .cell a t=>do loadVar t (<-asAddr (tmps.getD a undef))
theorem results_eq(fn:Func)(tmps:Array Value):results fn tmps=(do let vs<-fn.results.mapM (UJ tmps);pure (if h:vs.size=1 then vs[0]else .tuple vs)):=by
 unfold results
 congr 1
theorem UI(hs:dH Γ st κ Θ a w){r:ResultVar}{d:D}(h:UH P st r=some d):
 ∃v bs,(UJ a.tmps r).run P w=.ok v w/\pW w κ v d bs/\∀b∈bs,Θ b=0:=by
 cases r with
 |tmp t=>
  simp only[UH,ah]at h;subst h;obtain⟨bs,hr,hz⟩:=hs.slot t;exact⟨_,bs,by simp[UJ],hr,hz⟩
 |cell x T=>
  have hp:pv P st (.load T (.tmp x))=some d:=by
   simp only[UH]at h;split at h
   ·rename_i ag id off h1 h2;simp only[pv,h1,St.ev,h2];exact h
   ·cases h
  obtain⟨v,bs,hrun,hr,hz⟩:=JU (o:= {(default:Oper)with op:=.load T (.tmp x)}) hs rfl hp;refine⟨v,bs,?_,hr,hz⟩;simp only[execOp,Act.eval]at hrun;have a4j:∃b off,a.tmps.getD x undef=.pointer (some ⟨b,off,none⟩):=by
   simp only[UH]at h;split at h
   ·rename_i ag id off h1 h2;obtain⟨b0,r0,_⟩:=hs.slot x;rw[h2]at r0;obtain⟨g,_,hv⟩:=r0.wV;exact⟨g,off,hv⟩
   ·cases h
  obtain⟨b,off,hv⟩:=a4j;simp only[UJ,hv]at hrun⊢;simp only[Instr.loadAt,Instr.sureAddr,Sem.run_bind,Sem.run_pure,Result.andThen_ok]at hrun;simp only[asAddr,Sem.run_bind,Sem.run_pure,Result.andThen_ok];cases hl:(loadVar T ⟨b,off,none⟩).run P w with
  |ok u w1=>simp only[hl,Result.andThen_ok,Result.ok.injEq,Next.value.injEq]at hrun;rw[hrun.1,hrun.2]
  |halt u w1=>simp[hl]at hrun
theorem zi(hs:dH Γ st κ Θ a w):∀ {rs:List ResultVar} {ds:aL},E9 P st rs=some ds->
 ∃(vs:bp) (bs:aS),(rs.mapM (UJ a.tmps)).run P w=.ok vs w/\
  vs.length=rs.length/\ds.length=rs.length/\(∀(i:Nat) d,ds[i]?=some d->∃v b,vs[i]?=some v/\pW w κ v d b/\∀x∈b,x∈bs)/\∀b∈bs,Θ b=0:=by
 intro rs
 induction rs with
 |nil=>
  intro ds h;simp only[E9,ah]at h;subst h;exact⟨[],[],by simp,rfl,rfl,by simp,by simp⟩
 |cons r rs ih=>
  intro ds h;simp only[E9]at h;split at h
  ·rename_i d ds' h1 h2;cases h;obtain⟨v,b,k1,k2,k3⟩:=UI hs h1;obtain⟨vs,bs,m1,m2,m3,m4,m5⟩:=ih h2;refine⟨v::vs,b++bs,?_,by simp[m2],by simp[m3],?_,?_⟩
   ·simp only[BV,Sem.run_bind,k1,Result.andThen_ok,m1,Sem.run_pure]
   ·intro i x hx;cases i with
    |zero=>simp at hx;subst hx;exact⟨v,b,by simp,k2,by intro y hy;simp[hy]⟩
    |succ i=>
     simp at hx;obtain⟨u,b',q1,q2,q3⟩:=m4 i x hx;exact⟨u,b',by simpa using q1,q2,fun y hy=>by simp[q3 y hy]⟩
   ·intro y hy;rcases aZ.1 hy with hy|hy
    ·exact k3 y hy
    ·exact m5 y hy
  ·cases h
def GY:aL->D
 | [d]=>d
 |ds=>.iK ds
def uW:Nat->aL->List (Nat×D)
 |_,[]=>[]
 |k,d::ds=>(k,d)::uW (k+1) ds
theorem CZ:∀(ds:aL) (k t:Nat),lk (uW k ds) t=if t<k then .any else(ds[t-k]?).getD .any:=by
 intro ds
 induction ds with
 |nil=>intro k t;simp[uW,lk]
 |cons d ds ih=>
  intro k t;simp only[uW,lk];by_cases h:t=k
  ·subst h;simp
  ·rw[b9 h,ih];by_cases h1:t<k
   ·rw[bN (by omega),bN h1]
   ·rw[b9 (by omega),b9 h1];have:t-k=(t-(k+1))+1:=by omega
    rw[this,fM]
theorem Pg.at{vs:bp}{ds:aL}{bs:aS}(h:Pg w vs ds bs):vs.length=ds.length/\∀(i:Nat) d,ds[i]?=some d->∃v b,vs[i]?=some v/\Rd w v d b/\∀x∈b,x∈bs:=by
 induction ds generalizing vs bs with
 |nil=>cases h;exact⟨rfl,by simp⟩
 |cons e ds ih=>
  cases h with
  |cons v vs _ _ b1 b2 h2 h3=>
   obtain⟨l,hi⟩:=ih h3;refine⟨by simp[l],fun i d hd=>?_⟩;cases i with
   |zero=>simp at hd;subst hd;exact⟨v,b1,by simp,h2,by intro x hx;simp[hx]⟩
   |succ i=>
    simp at hd;obtain⟨u,b,k1,k3,k4⟩:=hi i d hd;exact⟨u,b,by simpa using k1,k3,fun x hx=>by simp[k4 x hx]⟩
def j0(d:D):Prop:=∃w v bs,Rd w v d bs
theorem jv.rdb{vs:bp}{ds:aL}{bs:aS}(h:jv w vs ds bs):∀d∈ds,j0 d:=by
 intro d hd;obtain⟨i,hi,rfl⟩:=dl.1 hd;obtain⟨v,b,_,_,hr,_⟩:=h.at (aV hi);exact⟨w,v,b,hr⟩
theorem j0.agg{ds:aL}(h:j0 (.agg ds)):∀d∈ds,j0 d:=by
 obtain⟨w,v,bs,h⟩:=h;cases h with|agg cs _ _ hx=>exact hx.rdb
theorem j0.sl{rows:List aL}(h:j0 (.sl rows)):rows.length<=maxLen/\∀r∈rows,∀d∈r,j0 d:=by
 obtain⟨w,v,bs,h⟩:=h;cases h with
 |vW=>simp
 |mT=>simp
 |sl b off cap sz _ cs bs hb h1 h2 h3 h4 h5=>
  exact⟨by omega,fun r hr d hd=>h5.rdb d (fN.2 ⟨r,hr,hd⟩)⟩
theorem Pg.rdb{vs:bp}{ds:aL}{bs:aS}(h:Pg w vs ds bs):∀d∈ds,j0 d:=by
 intro d hd;obtain⟨i,hi,rfl⟩:=dl.1 hd;obtain⟨v,b,_,hr,_⟩:=h.at.2 i _ (aV hi);exact⟨w,v,b,hr⟩
def U3(z:Option (Nat×Nat))(d:D):D:=match d,z with
 | .nil,some (e,sz+1)=>.fr e (sz+1) []
 |d,_=>d.EB
def BR(H:bP)(z:Option (Nat×Nat))(d:D):Option (D×aS×aS):=match d with
 | .acc m=>(match H[m]? with|some (.row k e sz rows)=>(match k with| .uq=>some (.fr e sz rows,[],[m])| .sh=>some (.sl rows,[m],[])| .cl=>none| .mv _=>none)|_=>none)
 | .ptr _ _=>none
 | .op _ _ _ _=>none
 | .agg _=>none
 | .iK _=>none
 |d=>some (U3 z d,[],[])
def I5(H:bP):List (Option (Nat×Nat))->aL->Option (aL×aS×aS)
 |_,[]=>some ([],[],[])
 |zs,d::ds=>match BR H zs.head?.join d,I5 H zs.tail ds with|some (e,m,q),some (es,ms,qs)=>some (e::es,m++ms,q++qs)|_,_=>none
def P7(H:bP)(zs:List (Option (Nat×Nat)))(d:D):Option (D×aS×aS):=match d with
 | .agg cs=>(match I5 H zs cs with|some (es,ms,qs)=>some (.agg es,ms,qs)|none=>none)
 |d=>BR H zs.head?.join d
def xo(H:bP):List (List (Option (Nat×Nat)))->aL->Option (aL×aS×aS)
 |_,[]=>some ([],[],[])
 |zs,d::ds=>match P7 H (zs.head?.getD []) d,xo H zs.tail ds with|some (e,m,q),some (es,ms,qs)=>some (e::es,m++ms,q++qs)|_,_=>none
def LQ(P:Program)(fn:Func)(d:D)(e:Exit)(st:St):Prop:=
 (e=.ret\/e=.normal)/\∃nz ds es ms qs,E9 P st fn.results.toList=some ds/\xo st.H nz ds=some (es,ms,qs)/\ms.Nodup/\qs.Nodup/\GY es=d
structure RP(Θ ρ:Nat->Nat)(qs bs ts us:List Nat):Prop where
 zero:∀b∈bs,Θ b=0
 top:∀b∈ts,(∃m∈qs,Θ b=m+2)/\b∈us
 mem:∀b∈us,b∈ts\/∃m∈qs,ρ b=m+1
 nd:us.Nodup
theorem RP.nil{ρ:Nat->Nat}{bs:aS}(h:∀b∈bs,Θ b=0):RP Θ ρ [] bs [] []:=⟨h,by simp,by simp,by simp⟩
theorem RP.app{ρ:Nat->Nat}{q1 q2 b1 b2 t1 t2 u1 u2:aS}(hf:∀b,ρ b≠0->Θ b=0)(hq:(q1++q2).Nodup)(h1:RP Θ ρ q1 b1 t1 u1)(h2:RP Θ ρ q2 b2 t2 u2):RP Θ ρ (q1++q2) (b1++b2) (t1++t2) (u1++u2):=by
 refine⟨fun b hb=>?_,fun b hb=>?_,fun b hb=>?_,bD.2 ⟨h1.nd,h2.nd,fun x hx y hy e=>?_⟩⟩
 ·rcases aZ.1 hb with hb|hb
  ·exact h1.zero b hb
  ·exact h2.zero b hb
 ·rcases aZ.1 hb with hb|hb
  ·obtain⟨⟨m,p,q⟩,r⟩:=h1.top b hb;exact⟨⟨m,by simp[p],q⟩,by simp[r]⟩
  ·obtain⟨⟨m,p,q⟩,r⟩:=h2.top b hb;exact⟨⟨m,by simp[p],q⟩,by simp[r]⟩
 ·rcases aZ.1 hb with hb|hb
  ·rcases h1.mem b hb with h|⟨m,p,q⟩
   ·exact .inl (by simp[h])
   ·exact .inr ⟨m,by simp[p],q⟩
  ·rcases h2.mem b hb with h|⟨m,p,q⟩
   ·exact .inl (by simp[h])
   ·exact .inr ⟨m,by simp[p],q⟩
 ·subst e;have hd:=(bD.1 hq).2.2;rcases h1.mem x hx with hx|⟨m,p,q⟩
  ·obtain⟨⟨m,p,q⟩,_⟩:=h1.top x hx;rcases h2.mem x hy with hy|⟨m',p',q'⟩
   ·obtain⟨⟨m',p',q'⟩,_⟩:=h2.top x hy;exact hd m p m' p' (by omega)
   ·have:=hf x (by omega);omega
  ·rcases h2.mem x hy with hy|⟨m',p',q'⟩
   ·obtain⟨⟨m',p',q'⟩,_⟩:=h2.top x hy;have:=hf x (by omega);omega
   ·exact hd m p m' p' (by omega)
theorem NZ(z:Option (Nat×Nat)){v:Value}{d:D}{b0:aS}(hr:Rd w v d b0):∃bs,D6 w v (U3 z d) bs [] []/\∀b∈bs,b∈b0:=by
 unfold U3;split
 ·rename_i e sz;cases hr;refine⟨[],?_,by simp⟩;have:=D6.fr (w:=w) (.slice none 0 0) e (sz+1) [] [] [] (Nat.succ_pos _) (by simp) (World.ownsRow_nil w 0 e (sz+1)) .nil rfl;simpa[Value.ownBlock]using this
 ·exact⟨b0,.pure hr.soft,fun _ h=>h⟩
section
variable{H:bP}{ρ:Nat->Nat}(hf:∀b,ρ b≠0->Θ b=0)
 (hq:∀m e sz rows,H[m]?=some (.row .uq e sz rows)->∃v cs ns,κ m=some v/\0<sz/\(∀r∈rows,r.length=sz)/\w.ownsRow 0 e sz v rows.length cs/\jv w cs rows.flatten ns/\ns.Nodup/\(∀b∈ns,ρ b=m+1)/\∀g,v.ownBlock=some g->Θ g=m+2)
include hf hq
theorem Ng{z:Option (Nat×Nat)}{d e:D}{ms qs:aS}{v:Value}{b0:aS}(h:BR H z d=some (e,ms,qs))(hone:v.oneCell'=true)(hr:wZ w κ v d b0)(hz:∀b∈b0,Θ b=0)
 (hm:∀m∈ms,∀k e sz rows,H[m]?=some (.row k e sz rows)->x7 κ Θ ρ w m k rows):∃bs ts us,D6 w v e bs ts us/\RP Θ ρ qs bs ts us:=by
 cases hr with
 |pure hr=>
  have:BR H z d=some (U3 z d,[],[]):=by cases hr<;>first|rfl|simp[BR]at h
  rw[this]at h;cases h;obtain⟨bs,hb,Ia⟩:=NZ z hr;exact⟨bs,[],[],hb,RP.nil (fun b hb'=>hz b (Ia b hb'))⟩
 |acc m _ hk=>
  simp only[BR]at h;split at h
  ·rename_i k e' sz rows hH;split at h
   ·cases h;obtain⟨v2,cs,ns,r1,r2,r3,r4,r5,r6,r7,r8⟩:=hq m _ _ _ hH;rw[hk]at r1;cases r1;refine⟨[],_,_,.fr v _ _ _ cs ns r2 r3 r4 r5 hone,by simp,fun b hb=>?_,fun b hb=>?_,?_⟩
    ·simp only[ju]at hb;exact⟨⟨m,by simp,r8 b hb⟩,by simp[hb]⟩
    ·rcases aZ.1 hb with hb|hb
     ·exact .inl hb
     ·exact .inr ⟨m,by simp,r7 b hb⟩
    ·refine bD.2 ⟨by cases v.ownBlock<;>simp,r6,fun x hx y hy exy=>?_⟩;subst exy;simp only[ju]at hx;have h1:=r8 x hx;have h2:=hf x (by rw[r7 x hy];omega);omega
   ·cases h;obtain⟨v2,bs,r1,r2,r3,_⟩:=hm m (by simp) _ _ _ _ hH;rw[hk]at r1;cases r1;exact⟨bs,[],[],.pure r2,RP.nil r3⟩
   ·cases h
   ·cases h
  ·cases h
 |ptr=>simp[BR]at h
 |op=>simp[BR]at h
theorem Rk:∀ {ds es:aL} {zs:List (Option (Nat×Nat))} {ms qs:aS} {vs:bp} {b0:aS},I5 H zs ds=some (es,ms,qs)->qs.Nodup->ey w κ vs ds b0->(∀b∈b0,Θ b=0)->
 (∀m∈ms,∀k e sz rows,H[m]?=some (.row k e sz rows)->x7 κ Θ ρ w m k rows)->∃bs ts us,rI w vs es bs ts us/\RP Θ ρ qs bs ts us:=by
 intro ds
 induction ds with
 |nil=>
  intro es zs ms qs vs b0 h _ hr _ _;simp only[I5,ah,cK]at h;obtain⟨rfl,rfl,rfl⟩:=h;cases hr;exact⟨[],[],[],.nil,RP.nil (by simp)⟩
 |cons d ds ih=>
  intro es zs ms qs vs b0 h hnd hr hz hm;simp only[I5]at h;split at h
  ·rename_i e m q es' ms' qs' h1 h2;cases h;cases hr with
   |cons v vs _ _ b1 b2 hv hc hcs=>
    obtain⟨c1,t1,u1,q1,q2⟩:=Ng hf hq h1 hv hc (fun b hb=>hz b (by simp[hb])) (fun x hx=>hm x (by simp[hx]));obtain⟨c2,t2,u2,p1,p2⟩:=ih h2 (bD.1 hnd).2.1 hcs (fun b hb=>hz b (by simp[hb])) (fun x hx=>hm x (by simp[hx]));exact⟨_,_,_,.cons _ _ _ _ _ _ _ _ _ _ hv q1 p1,RP.app hf hnd q2 p2⟩
  ·cases h
theorem UK(hk1:∀(i:Nat) u,κ i=some u->u.oneCell'=true){zs:List (Option (Nat×Nat))}{d e:D}{ms qs:aS}{v:Value}{b0:aS}(h:P7 H zs d=some (e,ms,qs))(hnd:qs.Nodup)(hr:pW w κ v d b0)(hz:∀b∈b0,Θ b=0)
 (hm:∀m∈ms,∀k e sz rows,H[m]?=some (.row k e sz rows)->x7 κ Θ ρ w m k rows):∃bs ts us,D7 w v e bs ts us/\RP Θ ρ qs bs ts us:=by
 by_cases rE:∃ds,d=.agg ds
 ·obtain⟨ds,rfl⟩:=rE;obtain⟨cs,rfl,hcs⟩:=hr.Cs;simp only[P7]at h;split at h
  ·rename_i es ms' qs' h1;cases h;obtain⟨bs,ts,us,q1,q2⟩:=Rk hf hq h1 hnd hcs hz hm;exact⟨bs,ts,us,.agg _ _ _ _ _ q1,q2⟩
  ·cases h
 ·have e1:P7 H zs d=BR H zs.head?.join d:=by cases d<;>first|rfl|exact absurd ⟨_,rfl⟩ rE
  rw[e1]at h;have hc:wZ w κ v d b0:=by
   cases hr with
   |v hr=>cases hr with
    |cell hr=>exact hr
    |agg=>exact absurd ⟨_,rfl⟩ rE
   |iK=>simp[BR]at h
  cases hc with
  |pure hr=>
   have:BR H zs.head?.join d=some (U3 zs.head?.join d,[],[]):=by cases hr<;>first|rfl|simp[BR]at h
   rw[this]at h;cases h;obtain⟨bs,hb,Ia⟩:=NZ zs.head?.join hr;exact⟨bs,[],[],.cell hb,RP.nil (fun b hb'=>hz b (Ia b hb'))⟩
  |acc m _ hk=>
   obtain⟨bs,ts,us,q1,q2⟩:=Ng hf hq h (hk1 _ _ hk) (.acc m _ hk) (by simp) hm;exact⟨bs,ts,us,.cell q1,q2⟩
  |ptr=>simp[BR]at h
  |op=>simp[BR]at h
theorem wj(hk1:∀(i:Nat) u,κ i=some u->u.oneCell'=true):∀ {ds es:aL} {zs:List (List (Option (Nat×Nat)))} {ms qs:aS} {vs:bp},xo H zs ds=some (es,ms,qs)->qs.Nodup->vs.length=ds.length->
 (∀(i:Nat) d,ds[i]?=some d->∃v b,vs[i]?=some v/\pW w κ v d b/\∀x∈b,Θ x=0)->
 (∀m∈ms,∀k e sz rows,H[m]?=some (.row k e sz rows)->x7 κ Θ ρ w m k rows)->∃bs ts us,yH w vs es bs ts us/\RP Θ ρ qs bs ts us:=by
 intro ds
 induction ds with
 |nil=>
  intro es zs ms qs vs h _ hl _ _;simp only[xo,ah,cK]at h;obtain⟨rfl,rfl,rfl⟩:=h;cases vs with
  |nil=>exact⟨[],[],[],.nil,RP.nil (by simp)⟩
  |cons=>simp at hl
 |cons d ds ih=>
  intro es zs ms qs vs h hnd hl hr hm;simp only[xo]at h;split at h
  ·rename_i e m q es' ms' qs' h1 h2;cases h;cases vs with
   |nil=>simp at hl
   |cons v vs=>
    obtain⟨v',b0,hv',hr0,vb⟩:=hr 0 d rfl;simp at hv';subst hv';obtain⟨c1,t1,u1,q1,q2⟩:=UK hf hq hk1 h1 (bD.1 hnd).1 hr0 vb (fun x hx=>hm x (by simp[hx]));obtain⟨c2,t2,u2,p1,p2⟩:=ih h2 (bD.1 hnd).2.1 (by simpa using hl) (fun i d' FC=>by
     obtain⟨v',b,k1,k2⟩:=hr (i+1) d' (by simpa using FC);exact⟨v',b,by simpa using k1,k2⟩) (fun x hx=>hm x (by simp[hx]))
    exact⟨_,_,_,.cons _ _ _ _ _ _ _ _ _ _ q1 p1,RP.app hf hnd q2 p2⟩
  ·cases h
end
theorem Jo{H:bP}{z:Option (Nat×Nat)}{d e:D}{ms qs:aS}(h:BR H z d=some (e,ms,qs)):(∀m∈ms,∃e sz rows,H[m]?=some (.row .sh e sz rows))/\∀m∈qs,∃e sz rows,H[m]?=some (.row .uq e sz rows):=by
 cases d with
 |acc m=>
  simp only[BR]at h;split at h
  ·rename_i k e' sz rows hH;split at h
   ·cases h;exact⟨by simp,fun m' hm'=>by simp at hm';subst hm';exact⟨_,_,_,hH⟩⟩
   ·cases h;exact⟨fun m' hm'=>by simp at hm';subst hm';exact⟨_,_,_,hH⟩,by simp⟩
   ·cases h
   ·cases h
  ·cases h
 |_=>simp[BR]at h<;>(try(obtain⟨_,rfl,rfl⟩:=h;simp))
theorem Nh{H:bP}:∀ {ds es:aL} {zs:List (Option (Nat×Nat))} {ms qs:aS},I5 H zs ds=some (es,ms,qs)->(∀m∈ms,∃e sz rows,H[m]?=some (.row .sh e sz rows))/\∀m∈qs,∃e sz rows,H[m]?=some (.row .uq e sz rows):=by
 intro ds
 induction ds with
 |nil=>intro es zs ms qs h;simp only[I5,ah,cK]at h;obtain⟨rfl,rfl,rfl⟩:=h;simp
 |cons d ds ih=>
  intro es zs ms qs h;simp only[I5]at h;split at h
  ·rename_i e m q es' ms' qs' h1 h2;cases h;have a1:=Jo h1;have a2:=ih h2;refine⟨fun x hx=>?_,fun x hx=>?_⟩<;>rcases aZ.1 hx with hx|hx
   ·exact a1.1 x hx
   ·exact a2.1 x hx
   ·exact a1.2 x hx
   ·exact a2.2 x hx
  ·cases h
theorem P8{H:bP}{zs:List (Option (Nat×Nat))}{d e:D}{ms qs:aS}(h:P7 H zs d=some (e,ms,qs)):(∀m∈ms,∃e sz rows,H[m]?=some (.row .sh e sz rows))/\∀m∈qs,∃e sz rows,H[m]?=some (.row .uq e sz rows):=by
 by_cases rE:∃ds,d=.agg ds
 ·obtain⟨ds,rfl⟩:=rE;simp only[P7]at h;split at h
  ·rename_i es ms' qs' h1;cases h;exact Nh h1
  ·cases h
 ·have e1:P7 H zs d=BR H zs.head?.join d:=by cases d<;>first|rfl|exact absurd ⟨_,rfl⟩ rE
  rw[e1]at h;exact Jo h
theorem tZ{H:bP}:∀ {ds es:aL} {zs:List (List (Option (Nat×Nat)))} {ms qs:aS},xo H zs ds=some (es,ms,qs)->(∀m∈ms,∃e sz rows,H[m]?=some (.row .sh e sz rows))/\∀m∈qs,∃e sz rows,H[m]?=some (.row .uq e sz rows):=by
 intro ds
 induction ds with
 |nil=>intro es zs ms qs h;simp only[xo,ah,cK]at h;obtain⟨rfl,rfl,rfl⟩:=h;simp
 |cons d ds ih=>
  intro es zs ms qs h;simp only[xo]at h;split at h
  ·rename_i e m q es' ms' qs' h1 h2;cases h;have a1:=P8 h1;have a2:=ih h2;refine⟨fun x hx=>?_,fun x hx=>?_⟩<;>rcases aZ.1 hx with hx|hx
   ·exact a1.1 x hx
   ·exact a2.1 x hx
   ·exact a1.2 x hx
   ·exact a2.2 x hx
  ·cases h
theorem Good.of{f:FuncId}{fn:Func}{c:Code}{ds:aL}{d:D}(hf:P.funcs[f]?=some fn)(hb:fn.body=some c)(hn:(fn.name== "runtime.NumGoroutine")=false)
 (hl:ds.length<=fn.ntmps) (h:(∀d∈ds,j0 d)->∀Γ:sO,Γ.nt=fn.ntmps->AW P Γ c (LQ P fn d) ⟨uW 0 ds,[]⟩):Good P f ds d:=by
 refine⟨⟨fn,hf,by simp[hb],hn⟩,?_⟩;intro w Θ args bs hvs hargs hz hown h1;obtain⟨hlen,ND⟩:=hargs.at;refine calls_of_wp hf hb ?_;let Γ:sO:=⟨w,Θ,fun _=>False,fn.ntmps,fun _=>False,hvs⟩
 have hs:dH Γ ⟨uW 0 ds,[]⟩ (fun _=>none) Θ {tmps:=args.toArray++Array.replicate (fn.ntmps-args.toArray.size) undef,defers:=[]} w:=by
  refine⟨rfl,?_,fun _ _=>rfl,by simp,?_,by simp,hown,fun b _ _=>⟨rfl,h1 b⟩,fun b hb=>by have:=h1 b;omega,⟨rfl,rfl,rfl,bL _,fun _ _ _=>rfl⟩,⟨fun _=>0,by simp,by simp,by simp⟩⟩
  ·simp[Γ];omega
  ·intro t;rw[CZ];simp only[sr,wz,tv];cases hd:ds[t]? with
   |none=>exact⟨[],.of (.any _),by simp⟩
   |some x=>
    obtain⟨v,b,k1,k2,k3⟩:=ND t x hd;refine⟨b,?_,fun y hy=>hz y (k3 y hy)⟩;have hlt:t<args.length:=(aE.1 k1).1;have:(args.toArray++Array.replicate (fn.ntmps-args.toArray.size) undef).getD t undef=v:=by
     rw[bw,eG (by simpa using hlt)];simp[k1]
    rw[this];exact .of k2
 refine wp_mono (h hargs.rdb Γ rfl _ _ _ _ hs) ?_;rintro e a' w' ⟨K4,κ0,Θ0,hs0,yh,nz,Vy,es,ms,qs,hres,TH,JG,HV,rfl⟩;obtain⟨ρ0,WM⟩:=hs0.qz;have yC:=tZ TH;obtain⟨Θ1,ρ1,hs1,hu1,hm1,KK,RG⟩:=dH.Cw ms hs0 WM JG (fun m hm=>by
  obtain⟨e,sz,rows,hH⟩:=yC.1 m hm;exact⟨_,e,sz,rows,hH,rfl⟩)
 obtain⟨vs,bs',m1,m2,m3,m4,m5⟩:=zi hs0 hres;have hq:∀m e sz rows,K4.H[m]?=some (.row .uq e sz rows)->∃v cs ns,κ0 m=some v/\0<sz/\(∀r∈rows,r.length=sz)/\w'.ownsRow 0 e sz v rows.length cs/\jv w' cs rows.flatten ns/\ns.Nodup/\(∀b∈ns,ρ1 b=m+1)/\∀g,v.ownBlock=some g->Θ1 g=m+2:=by
  intro m e sz rows hH;have hnm:m∉ms:=fun hm=>by
   obtain⟨e',sz',cr,BP⟩:=yC.1 m hm;rw[hH]at BP;cases BP
  have K1:(kill K4.H ms)[m]?=some (.row .uq e sz rows):=by rw[fW hnm];exact hH
  obtain⟨v,cs,ns,r1,r2,r3,r4,r5⟩:=hu1.rows m e sz rows K1;obtain⟨p1,p2,v2,_,_,p3,_,_,p4,_⟩:=hs1.ob m _ K1;rw[r1]at p3;cases p3;exact⟨v,cs,ns,r1,p1,p2,r2,r3,r4,r5,p4⟩
 obtain⟨c,ts,us,zb,xb⟩:=wj (w:=w') (vs:=vs) (fun b hb=>(hu1.free b hb).1) hq hs0.mw TH HV (by omega) (fun i d hd=>by
  obtain⟨v,b,k1,k2,k3⟩:=m4 i d hd;exact⟨v,b,k1,k2,fun x hx=>KK x (m5 x (k3 x hx))⟩) hm1
 have HS:∃v,(results fn a'.tmps).run P w'=.ok v w'/\wM w' v (GY es) c ts us:=by
  have hrun:(results fn a'.tmps).run P w'=.ok (if h:vs.toArray.size=1 then vs.toArray[0]else .tuple vs.toArray) w':=by
   rw[results_eq,kz];simp[m1]
  cases zb with
  |nil=>exact⟨.tuple #[],by simpa using hrun,.iK [] [] [] [] [] .nil⟩
  |cons v vs d es b1 b2 t1 t2 u1 u2 hv qc=>
   cases qc with
   |nil=>
    simp only[eA];exact⟨v,by simpa using hrun,.v hv⟩
   |cons v2 vs d2 es b3 b4 t3 t4 u3 u4 K3 qc=>exact⟨.tuple (v::v2::vs).toArray,by simpa using hrun,.iK _ _ _ _ _ (.cons _ _ _ _ _ _ _ _ _ _ hv (.cons _ _ _ _ _ _ _ _ _ _ K3 qc))⟩
 obtain⟨v,Of,KI⟩:=HS;have JA:Below w.heap.size w w':=⟨hs1.stays.os,hs1.stays.tape,hs1.stays.output,hs1.stays.size,fun b hb=>hs1.stays.block b hb (fun h=>h)⟩
 have Ko:∀b,vg Γ b->w.heap.size<=b:=fun b h=>by
  rcases h with h|h
  ·exact h
  ·exact h.elim
 have hwr:∀b∈us,w.heap.size<=b/\Wr w' b:=by
  intro b hb';rcases xb.mem b hb' with h|⟨m,hm,hρ⟩
  ·obtain⟨⟨m,hm,hΘ⟩,_⟩:=xb.top b h;refine⟨Ko b (hs1.mine b (by omega)),?_⟩;obtain⟨e,sz,rows,hH⟩:=yC.2 m hm;have:=xb;exact Ir KI b h
  ·have:=hu1.free b (by omega);exact⟨this.2.1.elim (Ko b) False.elim,this.2.2⟩
 have post:a'.defers=[]/\∃v,(results fn a'.tmps).run P w'=.ok v w'/\∃u bs' ts us,Ending.returned v=.returned u/\Below w.heap.size w w'/\wM w' u (GY es) bs' ts us/\(∀b∈bs',b<w.heap.size->Θ b=0)/\(∀b∈bs',b∉ts)/\us.Nodup/\
  (∀b∈us,w.heap.size<=b/\Wr w' b)/\∀b∈ts,b∈us:=by
  refine⟨hs0.defers,v,Of,v,c,ts,us,rfl,JA,KI,fun b hb' hlt=>?_,fun b hb' ht=>?_,xb.nd,hwr,fun b hb'=>(xb.top b hb').2⟩
  ·have he:Θ1 b=Θ b:=(hs1.old b hlt (fun h=>h)).1;rw[<-he];exact xb.zero b hb'
  ·obtain⟨⟨m,_,hΘ⟩,_⟩:=xb.top b ht;have:=xb.zero b hb';omega
 rcases yh with rfl|rfl
 ·exact post
 ·exact post
end
end Go.Cx
