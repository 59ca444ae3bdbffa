/- The core of an abstract reading of Go's data: what a value shows in memory (D), which blocks it uses, and that this stays where those blocks stay. No condition; plain lemmas. -/
import Derived.WalkKit
import Derived.ProofKit
import Derived.Deep.LoopGhost
import Derived.MapKept
import Derived.Great.BuildSlice
import Derived.Maps.AppendAt
set_option linter.unusedVariables false
set_option linter.unusedSimpArgs false
namespace Go.Cx
open Go.RowKit
set_option linter.defProp false
def aA:=@Option.bind_some
def aC:=@List.getElem?_eq_some_iff
def aE:=@List.mem_of_getElem?
def aH:=@cond_true
def aQ:=@List.length_cons
def aR:=@Bool.and_eq_true
def aS:=@cond_false
def aT:=@List.getElem?_eq_getElem
def aV:=@List.mem_append
def af:=@Option.some.injEq
def ai:=@List.getElem?_append_left
def aj:=@List.all_eq_true
def au:=@List.getElem?_append_right
def av:=@if_neg
def ax:=@List.length_map
def az:=@Array.getElem?_eq_some_iff
def b8:=@List.length_append
def bA:=@List.mem_cons
def bB:=@List.nodup_append
def bC:=@decide_eq_true
def bE:=@if_pos
def bH:=@decide_eq_true_eq
def bJ:=@Nat.le_refl
def bK:=@decide_eq_false
def bO:=@List.map_cons
def bP:=@List.map_append
def bQ:=@List.mem_range
def bS:=@List.length_nil
def bU:=@List.getElem?_map
def bV:=@Bool.not_true
def bX:=@Bool.eq_iff_iff
def bZ:=@List.mem_flatMap
def bf:=@of_decide_eq_true
def bn:=@List.mem_filterMap
def bp:=@List.take_append_drop
def bq:=@List.getElem?_set_ne
def br:=@List.map_drop
def bt:=@List.map_take
def bu:=@Array.getD_eq_getD_getElem?
def bw:=@List.mem_of_mem_take
def cA:=@List.map_nil
def cB:=@List.getElem?_eq_none
def cC:=@Array.getElem?_eq_getElem
def cD:=@List.length_take
def cE:=@List.getElem?_take
def cF:=@Option.map_some
def cG:=@Prod.mk.injEq
def cH:=@List.mem_map
def cI:=@List.eq_nil_of_length_eq_zero
def cJ:=@Bool.not_false
def cO:=@beq_iff_eq
def cT:=@List.any_eq_true
def cU:=@List.mem_reverse
def cV:=@Nat.zero_add
def cX:=@List.nil_append
def cZ:=@List.mem_singleton
def cq:=@Nat.add_sub_cancel_left
def cr:=@Classical.byContradiction
def cw:=@Nat.lt_of_lt_of_le
def cy:=@beq_eq_false_iff_ne
def cz:=@List.getElem?_set_self
def dA:=@Nat.le_trans
def dB:=@List.getElem?_of_mem
def dD:=@Nat.mul_le_mul_right
def dJ:=@List.append_assoc
def dL:=@List.foldl_cons
def dR:=@Nat.mul_le_mul_left
def dU:=@Nat.lt_or_ge
def dX:=@List.all_cons
def dY:=@List.mem_iff_getElem
def dZ:=@Option.isSome_iff_exists
def di:=@List.nodup_cons
def dw:=@List.getElem?_drop
def eR:=@List.append_nil
def eS:=@Nat.min_eq_left
def eV:=@List.flatMap_cons
def eW:=@List.flatten_cons
def fD:=@List.drop_left'
def fE:=@Array.getElem?_append_left
def fF:=@List.getElem?_cons_succ
def fG:=@List.mem_flatten
def fO:=@List.getElem?_set
def fp:=@List.drop_drop
def fq:=@List.mem_filter
def fy:=@Array.toList_map
def gF:=@List.length_singleton
def gZ:=@List.take_left'
def iM:=@List.getElem?_toArray
def iR:=@Bool.true_and
def j8:=@Array.toArray_toList
def j9:=@List.mem_of_mem_drop
def jA:=@Nat.add_mul
def jT:=@List.getD_eq_getElem?_getD
def jU:=@Option.mem_toList
def jj:=@Array.toList_append
def jk:=@List.flatten_append
def kF:=@List.pairwise_cons
def ke:=@List.getLast?_concat
def kf:=@Nat.one_mul
def l6:=@Option.bind_eq_some_iff
def lM:=@Bool.or_eq_true
def lT:=@List.map_congr_left
def mM:=@List.getElem_mem
def mN:=@List.map_toArray
def n9:=@Array.mapM_eq_mapM_toList
def nA:=@List.drop_eq_getElem_cons
def nD:=@List.length_set
def nL:=@Bool.not_eq_true'
def nM:=@List.ext_getElem?
def nN:=@Nat.sub_self
def nh:=@List.length_erase_of_mem
def ni:=@Nat.add_assoc
def o6:=@if_true
def oD:=@Array.toList_inj
def oF:=@Int.eq_ofNat_of_zero_le
def oG:=@List.cons_append
def oH:=@beq_self_eq_true
def oI:=@decide_eq_false_iff_not
def ol:=@Array.getElem?_eq_none
def om:=@List.take_of_length_le
def oo:=@Ne.symm
def pM:=@Option.some.inj
def pN:=@true_and
def pz:=@Bool.false_or
def qD:=@Array.getElem?_toList
def qE:=@List.length_filter_le
def qF:=@List.set_append_right
def qG:=@Nat.le_of_ble_eq_true
def qg:=@List.take_take
def qh:=@Nat.pow_le_pow_right
def qi:=@Prod.mk.inj
def rC:=@List.length_drop
def rD:=@Option.getD_some
def rU:=@List.exists_mem_of_ne_nil
def rV:=@List.mem_or_eq_of_mem_set
def rq:=@Array.length_toList
def ru:=@List.take_succ_cons
def s8:=@Bool.or_false
def sO:=@Array.all_eq_true'
def sP:=@Nat.lt_or_gt_of_ne
def tH:=@Int.toNat_natCast
def tI:=@List.drop_eq_nil_of_le
def tJ:=@Nat.lt_trichotomy
def tK:=@Nat.pow_succ
def tq:=@Array.getElem?_modify
def tr:=@List.concat_eq_append
def tu:=@List.eq_nil_or_concat
def uF:=@Bool.not_eq_true
def uG:=@List.eq_nil_iff_forall_not_mem
def uH:=@eq_iff_iff
def uZ:=@List.any_cons
def uh:=@List.Pairwise.filter
def vM:=@Nat.not_lt_zero
def vN:=@Option.map_none
def vi:=@List.filterMap_cons
def w9:=@Nat.add_zero
def wA:=@Nat.sub_zero
def wT:=@Array.getElem_append_right
def wU:=@Bool.and_false
def wV:=@Bool.false_eq_true
def wW:=@List.drop_zero
def wX:=@List.filter_filter
def wY:=@Nat.add_sub_cancel
def xZ:=@Array.getElem_append_left
def xh:=@List.filter_congr
def xj:=@List.size_toArray
def yE:=@Bool.and_true
def yF:=@List.eq_of_mem_replicate
def yG:=@List.getElem?_take_of_lt
def yc:=@List.getElem?_cons_zero
def yd:=@List.nodup_range
def ye:=@Nat.le_mul_of_pos_right
def yf:=@if_false
def zI:=@Int.le_of_lt
def zJ:=@Int.le_trans
def zK:=@List.drop_of_length_le
def zL:=@List.getElem_cons_drop
def zM:=@List.length_pos_of_mem
def zN:=@Nat.mul_comm
def zO:=@Option.map_eq_some_iff
def AA:=@Int.ediv_nonneg
def AB:=@Int.natCast_add
def AD:=@Int.natCast_one
def AQ:=@Bool.and_eq_false_iff
def AR:=@List.length_replicate
def AS:=@List.pairwise_flatMap
def AT:=@List.singleton_append
def AU:=@UInt8.lt_iff_toNat_lt
def B4:=@List.mapM_cons
def B5:=@Nat.zero_le
def B6:=@not_or
def DF:=@Nat.mul_assoc
def EE:=@List.all_map
def EF:=@List.any_nil
def EG:=@Nat.succ_mul
abbrev Bytes:=List UInt8
inductive D where
 |any
 |nil
 |int (k:IntKind) (n:Int)
 |bool (b:Bool)
 |str (s:Bytes)
 |sl (rows:List (List D))
 |agg (cells:List D)
 |iQ (vs:List D)
 |ep (row:List D) (off:Nat)
 |acc (id:Nat)
 |ptr (id off:Nat)
 |op (id i sz off:Nat)
 |val (v:Value)
 |fr (e:TypeId) (sz:Nat) (rows:List (List D))
 |pt (cells:List D)
 |WY (b:Bool)
def n8(k:IntKind)(n:Int):Prop:=k.min<=n/\n<=k.max
instance (k:IntKind) (n:Int):Decidable (n8 k n):=by unfold n8;infer_instance
theorem n8.wrap(k:IntKind)(n:Int):n8 k (k.wrap n):=by
 unfold n8;cases k<;>simp[IntKind.min,IntKind.max,IntKind.wrap,IntKind.bits,IntKind.signed]<;>(try split)<;>omega
theorem n8.i64{n:Int}:n8 .i64 n↔ -9223372036854775808<=n/\n<=9223372036854775807:=by
 simp[n8,IntKind.min,IntKind.max,IntKind.bits,IntKind.signed]
theorem n8.u8{n:Int}:n8 .u8 n↔0<=n/\n<=255:=by
 simp[n8,IntKind.min,IntKind.max,IntKind.bits,IntKind.signed]
theorem n8.zero(k:IntKind):n8 k 0:=by
 unfold n8;cases k<;>simp[IntKind.min,IntKind.max,IntKind.bits,IntKind.signed]
theorem n8.down{k:IntKind}{n m:Int}(h:n8 k n)(h0:0<=m)(h1:m<=n):n8 k m:=
 ⟨zJ (n8.zero k).1 h0,zJ h1 h.2⟩
mutual
inductive Rd(w:World):Value->D->List Nat->Prop
 |any (v:Value):Rd w v .any []
 |nil:Rd w (.slice none 0 0) .nil []
 |int (k:IntKind) (n:Int):n8 k n->Rd w (.int k n) (.int k n) []
 |bool (b:Bool):Rd w (.bool b) (.bool b) []
 |str (s:ByteArray):s.size<=maxLen->Rd w (.string s) (.str s.data.toList) []
 |val (v:Value):Rd w v (.val v) []
 |w8:Rd w (.slice none 0 0) (.sl []) []
 |mD (a:Addr) (cap:Nat):cap<=maxLen->Rd w (.slice (some a) 0 cap) (.sl []) []
 |sl (b off cap sz:Nat) (rows:List (List D)) (cs:List Value) (bs:List Nat):b<w.heap.size->rows.length<=cap->cap<=maxLen->
  (∀r∈rows,r.length=sz)->(∀j c,cs[j]?=some c->w.cell? ⟨b,off+j,none⟩=some c)->jx w cs rows.flatten bs->
  Rd w (.slice (some ⟨b,off,none⟩) rows.length cap) (.sl rows) (b::bs)
 |agg (cs:List Value) (ds:List D) (bs:List Nat):jx w cs ds bs->Rd w (.agg cs.toArray) (.agg ds) bs
 |ep (b off:Nat) (cs:List Value) (row:List D) (o:Nat) (bs:List Nat):b<w.heap.size->(∀j c,cs[j]?=some c->w.cell? ⟨b,off+j,none⟩=some c)->
  jx w cs row bs->Rd w (.pointer (some ⟨b,off+o,none⟩)) (.ep row o) (b::bs)
 |Pv:Rd w .nilIface (.WY false) []
 |Pw (t:TypeId) (v:Value):Rd w (.iface t v) (.WY true) []
inductive jx(w:World):List Value->List D->List Nat->Prop
 |nil:jx w [] [] []
 |cons (v:Value) (vs:List Value) (d:D) (ds:List D) (b1 b2:List Nat):v.oneCell'=true->Rd w v d b1->jx w vs ds b2->jx w (v::vs) (d::ds) (b1++b2)
end
section
variable{w w':World}
theorem yh{b o:Nat}(h:w'.heap[b]?=w.heap[b]?):w'.cell? ⟨b,o,none⟩=w.cell? ⟨b,o,none⟩:=World.cell?_of_block (a:=⟨b,o,none⟩) h
theorem F1{b:Nat}(hb:b<w.heap.size)(h:w'.heap[b]?=w.heap[b]?):b<w'.heap.size:=by
 rw[cC hb]at h;exact(az.1 h).1
theorem JQ:
 (∀ {v d bs},Rd w v d bs->(∀b∈bs,w'.heap[b]?=w.heap[b]?)->Rd w' v d bs)/\
 (∀ {vs ds bs},jx w vs ds bs->(∀b∈bs,w'.heap[b]?=w.heap[b]?)->jx w' vs ds bs):=by
 have key:∀(m1:∀v d bs,Rd w v d bs->Prop) (m2:∀vs ds bs,jx w vs ds bs->Prop),
  m1=(fun v d bs _=>(∀b∈bs,w'.heap[b]?=w.heap[b]?)->Rd w' v d bs)->m2=(fun vs ds bs _=>(∀b∈bs,w'.heap[b]?=w.heap[b]?)->jx w' vs ds bs)->
  (∀v d bs h,m1 v d bs h)/\(∀vs ds bs h,m2 vs ds bs h):=by
  intro m1 m2 e1 e2;subst e1;subst e2;constructor
  all_goals intro v d bs h
  ·refine Rd.rec (motive_1:=fun v d bs _=>(∀b∈bs,w'.heap[b]?=w.heap[b]?)->Rd w' v d bs) (motive_2:=fun vs ds bs _=>(∀b∈bs,w'.heap[b]?=w.heap[b]?)->jx w' vs ds bs) ?_ ?_ ?_ ?_ ?_ ?_ ?_ ?_ ?_ ?_ ?_ ?_ ?_ ?_ ?_ h
   ·intro v _;exact .any _
   ·intro _;exact .nil
   ·intro k n h _;exact .int _ _ h
   ·intro b _;exact .bool _
   ·intro s h _;exact .str _ h
   ·intro v _;exact .val _
   ·intro _;exact .w8
   ·intro a cap h _;exact .mD a cap h
   ·intro b off cap sz rows cs bs h0 h1 h2 h3 h4 _ ih hb;exact .sl b off cap sz rows cs bs (F1 h0 (hb b (by simp))) h1 h2 h3 (fun j c hc=>(yh (hb b (by simp))).trans (h4 j c hc)) (ih (fun x hx=>hb x (by simp[hx])))
   ·intro cs ds bs _ ih hb;exact .agg cs ds bs (ih hb)
   ·intro b off cs row o bs h0 h4 _ ih hb;exact .ep b off cs row o bs (F1 h0 (hb b (by simp))) (fun j c hc=>(yh (hb b (by simp))).trans (h4 j c hc)) (ih (fun x hx=>hb x (by simp[hx])))
   ·intro _;exact .Pv
   ·intro t v _;exact .Pw t v
   ·intro _;exact .nil
   ·intro v vs d ds b1 b2 h1 _ _ ih1 ih2 hb;exact .cons v vs d ds b1 b2 h1 (ih1 (fun x hx=>hb x (by simp[hx]))) (ih2 (fun x hx=>hb x (by simp[hx])))
  ·refine jx.rec (motive_1:=fun v d bs _=>(∀b∈bs,w'.heap[b]?=w.heap[b]?)->Rd w' v d bs) (motive_2:=fun vs ds bs _=>(∀b∈bs,w'.heap[b]?=w.heap[b]?)->jx w' vs ds bs) ?_ ?_ ?_ ?_ ?_ ?_ ?_ ?_ ?_ ?_ ?_ ?_ ?_ ?_ ?_ h
   ·intro v _;exact .any _
   ·intro _;exact .nil
   ·intro k n h _;exact .int _ _ h
   ·intro b _;exact .bool _
   ·intro s h _;exact .str _ h
   ·intro v _;exact .val _
   ·intro _;exact .w8
   ·intro a cap h _;exact .mD a cap h
   ·intro b off cap sz rows cs bs h0 h1 h2 h3 h4 _ ih hb;exact .sl b off cap sz rows cs bs (F1 h0 (hb b (by simp))) h1 h2 h3 (fun j c hc=>(yh (hb b (by simp))).trans (h4 j c hc)) (ih (fun x hx=>hb x (by simp[hx])))
   ·intro cs ds bs _ ih hb;exact .agg cs ds bs (ih hb)
   ·intro b off cs row o bs h0 h4 _ ih hb;exact .ep b off cs row o bs (F1 h0 (hb b (by simp))) (fun j c hc=>(yh (hb b (by simp))).trans (h4 j c hc)) (ih (fun x hx=>hb x (by simp[hx])))
   ·intro _;exact .Pv
   ·intro t v _;exact .Pw t v
   ·intro _;exact .nil
   ·intro v vs d ds b1 b2 h1 _ _ ih1 ih2 hb;exact .cons v vs d ds b1 b2 h1 (ih1 (fun x hx=>hb x (by simp[hx]))) (ih2 (fun x hx=>hb x (by simp[hx])))
 obtain⟨k1,k2⟩:=key _ _ rfl rfl;exact⟨fun h=>k1 _ _ _ h,fun h=>k2 _ _ _ h⟩
theorem Rd.keep{v:Value}{d:D}{bs:List Nat}(h:Rd w v d bs)(hb:∀b∈bs,w'.heap[b]?=w.heap[b]?):Rd w' v d bs:=JQ.1 h hb
theorem jx.keep{vs:List Value}{ds:List D}{bs:List Nat}(h:jx w vs ds bs)(hb:∀b∈bs,w'.heap[b]?=w.heap[b]?):jx w' vs ds bs:=JQ.2 h hb
theorem Rd.lt{v:Value}{d:D}{bs:List Nat}(h:Rd w v d bs):∀b∈bs,b<w.heap.size:=by
 refine Rd.rec (motive_1:=fun v d bs _=>∀b∈bs,b<w.heap.size) (motive_2:=fun vs ds bs _=>∀b∈bs,b<w.heap.size) ?_ ?_ ?_ ?_ ?_ ?_ ?_ ?_ ?_ ?_ ?_ ?_ ?_ ?_ ?_ h
 case refine_9=>
  intro b off cap sz rows cs bs h0 h1 h2 h3 h4 _ ih x hx;rcases bA.1 hx with rfl|hx
  ·exact h0
  ·exact ih x hx
 case refine_10=>intro cs ds bs _ ih;exact ih
 case refine_11=>
  intro b off cs row o bs h0 h4 _ ih x hx;rcases bA.1 hx with rfl|hx
  ·exact h0
  ·exact ih x hx
 case refine_15=>
  intro v vs d ds b1 b2 h1 _ _ ih1 ih2 x hx;rcases aV.1 hx with hx|hx
  ·exact ih1 x hx
  ·exact ih2 x hx
 all_goals intros;simp_all
theorem jx.lt{vs:List Value}{ds:List D}{bs:List Nat}(h:jx w vs ds bs):∀b∈bs,b<w.heap.size:=by
 induction ds generalizing vs bs with
 |nil=>cases h;simp
 |cons d ds ih=>
  cases h with
  |cons v vs _ _ b1 b2 h1 h2 h3=>
   intro x hx;rcases aV.1 hx with hx|hx
   ·exact h2.lt x hx
   ·exact ih h3 x hx
theorem jx.length{vs:List Value}{ds:List D}{bs:List Nat}(h:jx w vs ds bs):vs.length=ds.length:=by
 induction ds generalizing vs bs with
 |nil=>cases h;rfl
 |cons d ds ih=>cases h with|cons v vs _ _ b1 b2 h1 h2 h3=>simp[ih h3]
theorem jx.one{vs:List Value}{ds:List D}{bs:List Nat}(h:jx w vs ds bs):∀v∈vs,v.oneCell'=true:=by
 induction ds generalizing vs bs with
 |nil=>cases h;simp
 |cons d ds ih=>
  cases h with
  |cons v vs _ _ b1 b2 h1 h2 h3=>
   intro u hu;rcases bA.1 hu with rfl|hu
   ·exact h1
   ·exact ih h3 u hu
theorem jx.app{vs us:List Value}{ds es:List D}{bs cs:List Nat}(h:jx w vs ds bs)(k:jx w us es cs):jx w (vs++us) (ds++es) (bs++cs):=by
 induction ds generalizing vs bs with
 |nil=>cases h;simpa using k
 |cons d ds ih=>
  cases h with
  |cons v vs _ _ b1 b2 h1 h2 h3=>
   rw[dJ];exact .cons _ _ _ _ _ _ h1 h2 (ih h3)
theorem jx.split{vs:List Value}{ds es:List D}{bs:List Nat}(h:jx w vs (ds++es) bs):
 ∃v1 v2 b1 b2,vs=v1++v2/\bs=b1++b2/\jx w v1 ds b1/\jx w v2 es b2:=by
 induction ds generalizing vs bs with
 |nil=>exact⟨[],vs,[],bs,by simp,by simp,.nil,h⟩
 |cons d ds ih=>
  cases h with
  |cons v vs _ _ b1 b2 h1 h2 h3=>
   obtain⟨v1,v2,c1,c2,rfl,rfl,k1,k2⟩:=ih h3;exact⟨v::v1,v2,b1++c1,c2,by simp,by simp,.cons _ _ _ _ _ _ h1 h2 k1,k2⟩
theorem jx.mid{vs:List Value}{ds:List D}{bs:List Nat}(h:jx w vs ds bs)(i n:Nat):
 ∃b,jx w ((vs.drop i).take n) ((ds.drop i).take n) b/\∀x∈b,x∈bs:=by
 have e:ds=ds.take i++((ds.drop i).take n++(ds.drop i).drop n):=by rw[bp,bp]
 rw[e]at h;obtain⟨v1,v2,b1,b2,rfl,rfl,k1,k2⟩:=h.split;obtain⟨v3,v4,b3,b4,rfl,rfl,k3,k4⟩:=k2.split;refine⟨b3,?_,by intro x hx;simp[hx]⟩;have l1:=k1.length;have l3:=k3.length;by_cases hi:i<=ds.length
 ·have h1:v1.length=i:=by rw[l1];simp[hi]
  rw[fD h1];by_cases hn:n<=(ds.drop i).length
  ·have h3:v3.length=n:=by rw[l3,cD];omega
   rw[gZ h3];exact k3
  ·have h4:v4.length=0:=by rw[k4.length];simp at hn⊢;omega
   have h4':v4=[]:=cI h4;subst h4';have h3:v3.length<=n:=by rw[l3,cD];omega
   simp only[eR];rw[om h3];exact k3
 ·have h5:ds.drop i=[]:=tI (by omega);rw[h5]at k3 k4⊢;simp only[List.take_nil,List.drop_nil]at k3 k4⊢;cases k3;cases k4;have h1:v1.length<=i:=by rw[l1];simp;omega
  simp[zK h1];exact .nil
theorem jx.at{vs:List Value}{ds:List D}{bs:List Nat}(h:jx w vs ds bs){i:Nat}{d:D}(hd:ds[i]?=some d):
 ∃v b,vs[i]?=some v/\v.oneCell'=true/\Rd w v d b/\∀x∈b,x∈bs:=by
 induction ds generalizing vs bs i with
 |nil=>simp at hd
 |cons e ds ih=>
  cases h with
  |cons v vs _ _ b1 b2 h1 h2 h3=>
   cases i with
   |zero=>simp at hd;subst hd;exact⟨v,b1,by simp,h1,h2,by intro x hx;simp[hx]⟩
   |succ i=>
    simp at hd;obtain⟨u,b,k1,k2,k3,k4⟩:=ih h3 hd;exact⟨u,b,by simpa using k1,k2,k3,fun x hx=>by simp[k4 x hx]⟩
end
theorem mL{α:Type}{rows:List (List α)}{sz:Nat}(h:∀r∈rows,r.length=sz):rows.flatten.length=rows.length*sz:=by
 induction rows with
 |nil=>simp
 |cons r rows ih=>
  simp only[eW,b8,aQ];rw[ih (fun x hx=>h x (by simp[hx])),h r (by simp),jA];omega
theorem Bm{α:Type}{rows:List (List α)}{sz:Nat}(h:∀r∈rows,r.length=sz){i:Nat}{r:List α}(hr:rows[i]?=some r):
 (rows.flatten.drop (i*sz)).take sz=r:=by
 induction rows generalizing i with
 |nil=>simp at hr
 |cons s rows ih=>
  have hs:=h s (by simp);cases i with
  |zero=>
   simp at hr;subst hr;simp only[Nat.zero_mul,wW,eW];exact gZ hs
  |succ i=>
   simp only[fF]at hr;have:=ih (fun x hx=>h x (by simp[hx])) hr;rw[eW,jA,kf,Nat.add_comm,<-fp,fD hs];exact this
end Go.Cx
namespace Go.Cx
open Go.RowKit
abbrev aG:=List Bytes
abbrev aK:=List D
abbrev aP:=List Nat
abbrev b9:=List Int
abbrev bW:=List Value
def vI:List (Nat×(bW->Prop)):=[(2,fun cs:bW=>cs=[.int .u64 1,.int .u64 10,.int .u64 100,.int .u64 1000,.int .u64 10000,.int .u64 100000,.int .u64 1000000,.int .u64 10000000,.int .u64 100000000,.int .u64 1000000000,.int .u64 10000000000,.int .u64 100000000000,.int .u64 1000000000000,.int .u64 10000000000000,.int .u64 100000000000000,.int .u64 1000000000000000,.int .u64 10000000000000000,.int .u64 100000000000000000,.int .u64 1000000000000000000,.int .u64 10000000000000000000]),(3,fun cs:bW=>∃tp p,cs=[Value.iface tp p])]
def Zo(w:World)(B:Nat->Prop):Prop:=∀x∈vI,B x.1/\∃cs t z,w.heap[x.1]?=some (.cells cs t z)/\x.2 cs.toList
def Io(w:World)(X:Nat->Prop):Prop:=∃B:Nat->Prop,Zo w B/\∀b,B b->b<w.heap.size/\¬X b
def LC:List (Nat×aK):=[]
def WA(g:Nat)(ds:aK):Prop:=∃p,(g,p)∈vI/\∀cs:bW,p cs->∀(o:Nat) d,ds[o]?=some d->∃v,cs[o]?=some v/\∀w,Rd w v d []
theorem O6:∀x∈LC,WA x.1 x.2:=by intro x hx;cases hx
def PR(g o:Nat):Option D:=(LC.find? fun x=>x.1==g).bind fun x=>x.2[o]?
theorem Tz{g o:Nat}{d:D}(h:PR g o=some d):∃ds,WA g ds/\ds[o]?=some d:=by
 unfold PR at h;cases hf:LC.find? fun x=>x.1==g with
 |none=>rw[hf]at h;cases h
 |some x=>
  rw[hf,aA]at h;have h1:=List.find?_some hf;have h2:=List.mem_of_find?_eq_some hf;have e:x.1=g:=by simpa using h1
  exact⟨x.2,by rw[<-e];exact O6 x h2,h⟩
theorem Zo.stays{w w':World}{B:Nat->Prop}(h:Zo w B)(hb:∀b,B b->w'.heap[b]?=w.heap[b]?):Zo w' B:=fun x hx=>by
 obtain⟨h1,cs,t,z,h2,h3⟩:=h x hx;exact⟨h1,cs,t,z,by rw[hb _ h1,h2],h3⟩
theorem Io.cells{w:World}{X:Nat->Prop}(h:Io w X){g:Nat}{p:bW->Prop}(hx:(g,p)∈vI):∃cs t z,w.heap[g]?=some (.cells cs t z)/\p cs.toList:=by
 obtain⟨B,h1,h2⟩:=h;exact(h1 _ hx).2
theorem Io.var{P:Program}{w:World}{X:Nat->Prop}(h:Io w X){g:Nat}{p:bW->Prop}{name:String}(hx:(g,p)∈vI)(hg:P.globalNamed name=some g):∃cs,w.var? P name=some cs/\p cs.toList:=by
 obtain⟨cs,t,z,h1,h2⟩:=h.cells hx;refine⟨cs,?_,h2⟩;unfold World.var?;rw[hg,aA,h1]
theorem Io.Ye{P:Program}{w:World}(hs:∀x∈vI,∃name cs,P.globalNamed name=some x.1/\w.var? P name=some cs/\x.2 cs.toList):Io w fun _=>False:=by
 refine⟨fun b=>b∈vI.map Prod.fst,fun x hx=>?_,fun b hb=>?_⟩
 ·obtain⟨name,cs,h1,h2,h3⟩:=hs x hx;unfold World.var? at h2;rw[h1,aA]at h2;refine⟨cH.2 ⟨x,hx,rfl⟩,?_⟩;split at h2
  ·rename_i cs' t z h4;cases h2;exact⟨_,t,z,h4,h3⟩
  ·cases h2
 ·obtain⟨x,hx,rfl⟩:=cH.1 hb;obtain⟨name,cs,h1,h2,h3⟩:=hs x hx;unfold World.var? at h2;rw[h1,aA]at h2;refine⟨?_,id⟩;split at h2
  ·rename_i cs' t z h4;exact(az.1 h4).1
  ·cases h2
end Go.Cx
namespace Go.Cx
open Go.RowKit
structure sQ where
 W0:World
 Θ0:Nat->Nat
 X:Nat->Prop
 nt:Nat
 U:Nat->Prop
 vs:Io W0 X
inductive RK where
 |sh
 |uq
 |cl
 |mv (n:Nat)
def RK.Kj:RK->Bool
 | .cl=>false
 |_=>true
def RK.hand:RK->Bool
 | .sh=>true
 | .uq=>true
 |_=>false
inductive Ob where
 |box (cells:aK)
 |DA (cells:aK) (v:Value)
 |row (k:RK) (e:TypeId) (sz:Nat) (rows:List aK)
 |tY (sz:Nat) (rows:List aK) (v:Option Value)
 |hole (sz:Nat) (rows:List aK) (v:Option Value) (p n:Nat)
 |mp (kv:List (D×D))
 |tk (rows:List aK)
 |gone
def Ob.Pg:Ob->Option aK
 | .box c=>some c
 | .DA c _=>some c
 |_=>none
def Ob.re(o:Ob)(c:aK):Ob:=match o with
 | .DA _ v=>.DA c v
 |_=>.box c
structure St where
 σ:List (Nat×D)
 H:List Ob
def lk:List (Nat×D)->Nat->D
 | [],_=>.any
 | (t,d)::r,n=>if n=t then d else lk r n
def D.Nf:Value->D
 | .bool b=>.bool b
 | .int k n=>if n8 k n then .int k n else .val (.int k n)
 | .string s=>if s.size<=maxLen then .str s.data.toList else .val (.string s)
 | .slice none 0 0=>.nil
 |v=>.val v
def St.ev(st:St):Operand->D
 | .tmp t=>lk st.σ t
 | .const v=>D.Nf v
 | .global g=>.val (.pointer (some ⟨g,0,none⟩))
 | .func f=>.val (.func (.func f) #[] #[])
def St.set(st:St)(t:Nat)(d:D):St:=⟨(t,d)::st.σ,st.H⟩
def St.put(st:St)(t:Option Nat)(d:D):St:=match t with|some t=>st.set t d|none=>st
inductive wO(w:World)(κ:Nat->Option Value):Value->D->List Nat->Prop
 |pure {v:Value} {d:D} {bs:aP}:Rd w v d bs->wO w κ v d bs
 |acc (id:Nat) (v:Value):κ id=some v->wO w κ v (.acc id) []
 |ptr (id off b:Nat):κ id=some (.pointer (some ⟨b,0,none⟩))->wO w κ (.pointer (some ⟨b,off,none⟩)) (.ptr id off) []
 |op (id i sz off b o0 len cap:Nat):κ id=some (.slice (some ⟨b,o0,none⟩) len cap)->wO w κ (.pointer (some ⟨b,o0+(i*sz+off),none⟩)) (.op id i sz off) []
inductive eZ(w:World)(κ:Nat->Option Value):List Value->List D->List Nat->Prop
 |nil:eZ w κ [] [] []
 |cons (v:Value) (vs:bW) (d:D) (ds:aK) (b1 b2:aP):v.oneCell'=true->wO w κ v d b1->eZ w κ vs ds b2->eZ w κ (v::vs) (d::ds) (b1++b2)
inductive HS(w:World)(κ:Nat->Option Value):Value->D->List Nat->Prop
 |cell {v:Value} {d:D} {bs:aP}:wO w κ v d bs->HS w κ v d bs
 |agg (cs:bW) (ds:aK) (bs:aP):eZ w κ cs ds bs->HS w κ (.agg cs.toArray) (.agg ds) bs
inductive zQ(w:World)(κ:Nat->Option Value):List Value->List D->List Nat->Prop
 |nil:zQ w κ [] [] []
 |cons (v:Value) (vs:bW) (d:D) (ds:aK) (b1 b2:aP):HS w κ v d b1->zQ w κ vs ds b2->zQ w κ (v::vs) (d::ds) (b1++b2)
inductive oq(w:World)(κ:Nat->Option Value):Value->D->List Nat->Prop
 |v {v:Value} {d:D} {bs:aP}:HS w κ v d bs->oq w κ v d bs
 |iQ (vs:bW) (ds:aK) (bs:aP):zQ w κ vs ds bs->oq w κ (.tuple vs.toArray) (.iQ ds) bs
theorem oq.of{w:World}{κ:Nat->Option Value}{v:Value}{d:D}{bs:aP}(h:Rd w v d bs):oq w κ v d bs:=.v (.cell (.pure h))
def Wr(w:World)(b:Nat):Prop:=∃cs T,w.heap[b]?=some (.cells cs T (0,0))
def XR(w:World)(κ:Nat->Option Value)(v:Value)(rows:List aK)(p n:Nat)(bs:aP):Prop:=
 ∃b off cap cs ns,v=.slice (some ⟨b,off,none⟩) rows.length cap/\b<w.heap.size/\rows.length<=cap/\cap<=maxLen/\(∀j c,cs[j]?=some c->w.cell? ⟨b,off+j,none⟩=some c)/\jx w cs rows.flatten ns/\bs=b::ns/\
  ∃c,cs[p]?=some c/\κ n=some c
def vl(w:World)(es:List MapEntry)(kv:List (D×D)):Prop:=
 es.length=kv.length/\∀(j:Nat) e p,es[j]?=some e->kv[j]?=some p->Rd w e.key p.1 []/\Rd w e.val p.2 []
theorem vl.stay{w w':World}{es:List MapEntry}{kv:List (D×D)}(h:vl w es kv):vl w' es kv:=
 ⟨h.1,fun j e p h1 h2=>⟨(h.2 j e p h1 h2).1.keep (by simp),(h.2 j e p h1 h2).2.keep (by simp)⟩⟩
def tL(w:World)(κ:Nat->Option Value)(Θ:Nat->Nat)(id:Nat):Ob->Prop
 | .box cells=>∃g cs T,κ id=some (.pointer (some ⟨g,0,none⟩))/\w.heap[g]?=some (.cells cs T (0,0))/\Θ g=id+2/\
  ∃bs,eZ w κ cs.toList cells bs/\∀b∈bs,Θ b=0
 | .DA cells u=>κ id=some u/\∃g cs T,κ id=some (.pointer (some ⟨g,0,none⟩))/\w.heap[g]?=some (.cells cs T (0,0))/\Θ g=id+2/\
  ∃bs,eZ w κ cs.toList cells bs/\∀b∈bs,Θ b=0
 | .row k e sz rows=>0<sz/\(∀r∈rows,r.length=sz)/\∃v cs bs,κ id=some v/\w.ownsRow 0 e sz v rows.length cs/\jx w cs rows.flatten bs/\
  (∀g,v.ownBlock=some g->Θ g=id+2)/\
  (match k with
   | .cl=>bs.Nodup/\(∀b∈bs,Θ b=id+2/\Wr w b)/\∀g,v.ownBlock=some g->g∉bs
   |_=>∀b∈bs,Θ b=0)
 | .tY sz rows u=>(∀r∈rows,r.length=sz)/\(∀x,u=some x->κ id=some x)/\∃v bs,κ id=some v/\Rd w v (.sl rows) bs/\bs.Nodup/\∀b∈bs,Θ b=id+2/\Wr w b
 | .hole sz rows u p n=>(∀r∈rows,r.length=sz)/\(∀x,u=some x->κ id=some x)/\∃v bs,κ id=some v/\XR w κ v rows p n bs/\bs.Nodup/\∀b∈bs,Θ b=id+2/\Wr w b
 | .mp kv=>∃g es clock,κ id=some (.map (some g))/\w.heap[g]?=some (.map es clock)/\Θ g=id+2/\vl w es.toList kv
 | .tk rows=>∃v bs,κ id=some v/\Rd w v (.sl rows) bs/\∀b∈bs,Θ b=0
 | .gone=>True
def wB(Γ:sQ)(b:Nat):Prop:=Γ.W0.heap.size<=b\/Γ.X b
def OF(Γ:sQ)(b:Nat):Prop:=wB Γ b\/Γ.U b
theorem tL.cs{w:World}{κ:Nat->Option Value}{Θ:Nat->Nat}{id:Nat}{o:Ob}{cells:aK}(hc:o.Pg=some cells)(h:tL w κ Θ id o):
 ∃g cs T,κ id=some (.pointer (some ⟨g,0,none⟩))/\w.heap[g]?=some (.cells cs T (0,0))/\Θ g=id+2/\∃bs,eZ w κ cs.toList cells bs/\∀b∈bs,Θ b=0:=by
 cases o<;>simp only[Ob.Pg,reduceCtorEq,af]at hc
 ·subst hc;exact h
 ·subst hc;exact h.2
theorem tL.a1C{w w':World}{κ κ':Nat->Option Value}{Θ Θ':Nat->Nat}{id:Nat}{o:Ob}{cells cells':aK}(hc:o.Pg=some cells)(h:tL w κ Θ id o)(hk:∀v,κ id=some v->κ' id=some v)
 (h':∃g cs T,κ' id=some (.pointer (some ⟨g,0,none⟩))/\w'.heap[g]?=some (.cells cs T (0,0))/\Θ' g=id+2/\∃bs,eZ w' κ' cs.toList cells' bs/\∀b∈bs,Θ' b=0):tL w' κ' Θ' id (o.re cells'):=by
 cases o<;>simp only[Ob.Pg,reduceCtorEq,af]at hc
 ·exact h'
 ·exact⟨hk _ h.1,h'⟩
structure OJ(Γ:sQ)(w:World):Prop where
 os:w.os=Γ.W0.os
 tape:w.tape=Γ.W0.tape
 output:w.output=Γ.W0.output
 size:Γ.W0.heap.size<=w.heap.size
 block:∀b,b<Γ.W0.heap.size->¬Γ.X b->w.heap[b]?=Γ.W0.heap[b]?
def Gl(w:World)(κ:Nat->Option Value)(ρ:Nat->Nat)(id:Nat):Ob->Prop
 | .row (.mv n) e sz rows=>∃v cs bs,κ id=some v/\w.ownsRow 0 e sz v rows.length cs/\jx w (cs.drop (n*sz)) (rows.drop n).flatten bs/\bs.Nodup/\∀b∈bs,ρ b=id+1
 | .tk rows=>∃v bs,κ id=some v/\Rd w v (.sl rows) bs/\bs.Nodup/\∀b∈bs,ρ b=id+1
 |_=>True
structure wh(Γ:sQ)(H:List Ob)(κ:Nat->Option Value)(Θ:Nat->Nat)(w:World)(ρ:Nat->Nat):Prop where
 free:∀b,ρ b≠0->Θ b=0/\OF Γ b/\Wr w b
 rows:∀id e sz rows,H[id]?=some (.row .uq e sz rows)->∃v cs bs,κ id=some v/\w.ownsRow 0 e sz v rows.length cs/\jx w cs rows.flatten bs/\bs.Nodup/\∀b∈bs,ρ b=id+1
 more:∀id o,H[id]?=some o->Gl w κ ρ id o
structure dM(Γ:sQ)(st:St)(κ:Nat->Option Value)(Θ:Nat->Nat)(a:Act)(w:World):Prop where
 defers:a.defers=[]
 size:a.tmps.size=Γ.nt
 nB:∀id,st.H.length<=id->κ id=none
 mY:∀(id:Nat) u,κ id=some u->u.oneCell'=true
 slot:∀t,∃bs,oq w κ (a.tmps.getD t undef) (lk st.σ t) bs/\∀b∈bs,Θ b=0
 ob:∀id o,st.H[id]?=some o->tL w κ Θ id o
 own:∀b,Θ b≠0->b<w.heap.size
 old:∀b,b<Γ.W0.heap.size->¬Γ.X b->Θ b=Γ.Θ0 b/\Θ b<=1
 mine:∀b,2<=Θ b->wB Γ b
 stays:OJ Γ w
 qf:∃ρ,wh Γ st.H κ Θ w ρ
theorem dM.Ze{Γ:sQ}{st:St}{κ:Nat->Option Value}{Θ:Nat->Nat}{a:Act}{w:World}(h:dM Γ st κ Θ a w):∃B:Nat->Prop,Zo w B/\∀b,B b->b<Γ.W0.heap.size/\b<w.heap.size/\¬Γ.X b:=by
 obtain⟨B,h1,h2⟩:=Γ.vs;exact⟨B,h1.stays fun b hb=>h.stays.block b (h2 b hb).1 (h2 b hb).2,fun b hb=>⟨(h2 b hb).1,cw (h2 b hb).1 h.stays.size,(h2 b hb).2⟩⟩
theorem dM.Zd{Γ:sQ}{st:St}{κ:Nat->Option Value}{Θ:Nat->Nat}{a:Act}{w:World}(h:dM Γ st κ Θ a w):Io w fun _=>False:=by
 obtain⟨B,h1,h2⟩:=h.Ze;exact⟨B,h1,fun b hb=>⟨(h2 b hb).2.1,id⟩⟩
def AW(P:Program)(Γ:sQ)(c:Code)(Q:Exit->St->Prop)(st:St):Prop:=
 ∀κ Θ a w,dM Γ st κ Θ a w->c.wp P (fun e a' w'=>∃sK κ' Θ',dM Γ sK κ' Θ' a' w'/\Q e sK) a w
def AO(P:Program)(Γ:sQ)(all:Array Oper)(ops:List Oper)(Q:Exit->St->Prop)(st:St):Prop:=
 ∀κ Θ a w,dM Γ st κ Θ a w->wpList P all (fun e a' w'=>∃sK κ' Θ',dM Γ sK κ' Θ' a' w'/\Q e sK) ops a w
section
variable{P:Program}{Γ:sQ}{Q:Exit->St->Prop}{st:St}
theorem Ub(h:Q .normal st):AW P Γ .skip Q st:=fun _ _ _ _ hs=>wp_skip ⟨_,_,_,hs,h⟩
theorem XN(h:Q .ret st):AW P Γ .ret Q st:=fun _ _ _ _ hs=>wp_ret ⟨_,_,_,hs,h⟩
theorem UZ{id:Nat}(h:Q (.exit id) st):AW P Γ (.exit id) Q st:=fun _ _ _ _ hs=>wp_exit ⟨_,_,_,hs,h⟩
def Tt(next:St->Prop)(Q:Exit->St->Prop):Exit->St->Prop
 | .normal,st=>next st
 |e,st=>Q e st
def Jy(id:Nat)(Q:Exit->St->Prop):Exit->St->Prop
 | .exit id',st=>if id'=id then Q .normal st else Q (.exit id') st
 |e,st=>Q e st
theorem XO{x y:Code}(h:AW P Γ x (Tt (AW P Γ y Q) Q) st):AW P Γ (.seq x y) Q st:=by
 intro κ Θ a w hs;refine wp_seq (wp_mono (h κ Θ a w hs) ?_);rintro e a' w' ⟨sK,κ',Θ',hs',hq⟩;cases e with
 |normal=>exact hq κ' Θ' a' w' hs'
 |exit id=>exact⟨_,_,_,hs',hq⟩
 |goto l=>exact⟨_,_,_,hs',hq⟩
 |ret=>exact⟨_,_,_,hs',hq⟩
 |panic c=>exact⟨_,_,_,hs',hq⟩
 |outgrown=>exact⟨_,_,_,hs',hq⟩
theorem R6{id:Nat}{c:Code}(h:AW P Γ c (Jy id Q) st):AW P Γ (.block id c) Q st:=by
 intro κ Θ a w hs;refine wp_block (wp_mono (h κ Θ a w hs) ?_);rintro e a' w' ⟨sK,κ',Θ',hs',hq⟩;cases e with
 |exit id'=>
  simp only[Exit.inBlock,Jy]at hq⊢;split
  ·rename_i he;rw[bE he]at hq;exact⟨_,_,_,hs',hq⟩
  ·rename_i he;rw[av he]at hq;exact⟨_,_,_,hs',hq⟩
 |normal=>exact⟨_,_,_,hs',hq⟩
 |goto l=>exact⟨_,_,_,hs',hq⟩
 |ret=>exact⟨_,_,_,hs',hq⟩
 |panic c=>exact⟨_,_,_,hs',hq⟩
 |outgrown=>exact⟨_,_,_,hs',hq⟩
theorem PV{id:Nat}{l:List Oper}(h:AO P Γ l.toArray l Q st):AW P Γ (.region id l.toArray false) Q st:=
 fun κ Θ a w hs=>wp_region_lit (h κ Θ a w hs)
theorem XL{all:Array Oper}(h:Q .normal st):AO P Γ all [] Q st:=fun _ _ _ _ hs=>wpList_nil ⟨_,_,_,hs,h⟩
end
section
variable{w:World}{κ:Nat->Option Value}{v:Value}{bs:aP}
theorem oq.oC{k:IntKind}{n:Int}(h:oq w κ v (.int k n) bs):v=.int k n:=by
 cases h with|v h=>cases h with|cell h=>cases h with|pure h=>cases h;rfl
theorem oq.I3{k:IntKind}{n:Int}(h:oq w κ v (.int k n) bs):n8 k n:=by
 cases h with|v h=>cases h with|cell h=>cases h with|pure h=>cases h with|int _ _ hr=>exact hr
theorem oq.Tq{s:Bytes}(h:oq w κ v (.str s) bs):s.length<=maxLen:=by
 cases h with|v h=>cases h with|cell h=>cases h with|pure h=>cases h with|str x hx=>simpa using hx
theorem oq.tN{b:Bool}(h:oq w κ v (.bool b) bs):v=.bool b:=by
 cases h with|v h=>cases h with|cell h=>cases h with|pure h=>cases h;rfl
theorem oq.rT{s:Bytes}(h:oq w κ v (.str s) bs):∃x:ByteArray,v=.string x/\x.data.toList=s:=by
 cases h with|v h=>cases h with|cell h=>cases h with|pure h=>cases h;exact⟨_,rfl,rfl⟩
theorem oq.PO{u:Value}(h:oq w κ v (.val u) bs):v=u:=by
 cases h with|v h=>cases h with|cell h=>cases h with|pure h=>cases h;rfl
theorem oq.F7(h:oq w κ v .nil bs):v=.slice none 0 0:=by
 cases h with|v h=>cases h with|cell h=>cases h with|pure h=>cases h;rfl
theorem oq.L4{rows:List aK}(h:oq w κ v (.sl rows) bs):Rd w v (.sl rows) bs:=by
 cases h with|v h=>cases h with|cell h=>cases h with|pure h=>exact h
theorem oq.NB{row:aK}{o:Nat}(h:oq w κ v (.ep row o) bs):Rd w v (.ep row o) bs:=by
 cases h with|v h=>cases h with|cell h=>cases h with|pure h=>exact h
theorem oq.sL{id:Nat}(h:oq w κ v (.acc id) bs):κ id=some v/\bs=[]:=by
 cases h with|v h=>cases h with|cell h=>cases h with|pure h=>cases h|acc _ _ hk=>exact⟨hk,rfl⟩
theorem oq.wJ{id off:Nat}(h:oq w κ v (.ptr id off) bs):∃b,κ id=some (.pointer (some ⟨b,0,none⟩))/\v=.pointer (some ⟨b,off,none⟩):=by
 cases h with|v h=>cases h with|cell h=>cases h with|pure h=>cases h|ptr _ _ b hk=>exact⟨b,hk,rfl⟩
theorem oq.C2{id i sz off:Nat}(h:oq w κ v (.op id i sz off) bs):∃b o0 len cap,κ id=some (.slice (some ⟨b,o0,none⟩) len cap)/\v=.pointer (some ⟨b,o0+(i*sz+off),none⟩):=by
 cases h with|v h=>cases h with|cell h=>cases h with|pure h=>cases h|op _ _ _ _ b o0 len cap hk=>exact⟨b,o0,len,cap,hk,rfl⟩
theorem eZ.AN{vs:bW}{ds:aK}(h:jx w vs ds bs):eZ w κ vs ds bs:=by
 induction ds generalizing vs bs with
 |nil=>cases h;exact .nil
 |cons d ds ih=>cases h with|cons v vs _ _ b1 b2 h1 h2 h3=>exact .cons _ _ _ _ _ _ h1 (.pure h2) (ih h3)
theorem A5{w:World}{e sz b o0 len cap n:Nat}{cs:bW}(h:w.ownsRow 0 e sz (.slice (some ⟨b,o0,none⟩) len cap) n cs):o0=0:=by
 rcases h.2 with⟨h,_⟩|⟨g,cap,cur,h,_⟩
 ·cases h
 ·cases h;rfl
theorem oq.CG{ds:aK}(h:oq w κ v (.agg ds) bs):∃cs:bW,v=.agg cs.toArray/\eZ w κ cs ds bs:=by
 cases h with
 |v h=>
  cases h with
  |cell h=>cases h with|pure h=>cases h with|agg cs _ _ h=>exact⟨cs,rfl,eZ.AN h⟩
  |agg cs _ _ h=>exact⟨cs,rfl,h⟩
theorem eZ.length{vs:bW}{ds:aK}(h:eZ w κ vs ds bs):vs.length=ds.length:=by
 induction ds generalizing vs bs with
 |nil=>cases h;rfl
 |cons d ds ih=>cases h with|cons v vs _ _ b1 b2 h1 h2 h3=>simp[ih h3]
theorem eZ.one{vs:bW}{ds:aK}(h:eZ w κ vs ds bs):∀v∈vs,v.oneCell'=true:=by
 induction ds generalizing vs bs with
 |nil=>cases h;simp
 |cons d ds ih=>
  cases h with
  |cons v vs _ _ b1 b2 h1 h2 h3=>
   intro u hu;rcases bA.1 hu with rfl|hu
   ·exact h1
   ·exact ih h3 u hu
theorem eZ.app{vs us:bW}{ds es:aK}{cs:aP}(h:eZ w κ vs ds bs)(k:eZ w κ us es cs):eZ w κ (vs++us) (ds++es) (bs++cs):=by
 induction ds generalizing vs bs with
 |nil=>cases h;simpa using k
 |cons d ds ih=>
  cases h with
  |cons v vs _ _ b1 b2 h1 h2 h3=>
   rw[dJ];exact .cons _ _ _ _ _ _ h1 h2 (ih h3)
theorem eZ.split{vs:bW}{ds es:aK}(h:eZ w κ vs (ds++es) bs):
 ∃v1 v2 b1 b2,vs=v1++v2/\bs=b1++b2/\eZ w κ v1 ds b1/\eZ w κ v2 es b2:=by
 induction ds generalizing vs bs with
 |nil=>exact⟨[],vs,[],bs,by simp,by simp,.nil,h⟩
 |cons d ds ih=>
  cases h with
  |cons v vs _ _ b1 b2 h1 h2 h3=>
   obtain⟨v1,v2,c1,c2,rfl,rfl,k1,k2⟩:=ih h3;exact⟨v::v1,v2,b1++c1,c2,by simp,by simp,.cons _ _ _ _ _ _ h1 h2 k1,k2⟩
theorem eZ.mid{vs:bW}{ds:aK}(h:eZ w κ vs ds bs)(i n:Nat)(hn:i+n<=ds.length):
 ∃b,eZ w κ ((vs.drop i).take n) ((ds.drop i).take n) b/\∀x∈b,x∈bs:=by
 have e:ds=ds.take i++((ds.drop i).take n++(ds.drop i).drop n):=by rw[bp,bp]
 rw[e]at h;obtain⟨v1,v2,b1,b2,rfl,rfl,k1,k2⟩:=h.split;obtain⟨v3,v4,b3,b4,rfl,rfl,k3,k4⟩:=k2.split;refine⟨b3,?_,by intro x hx;simp[hx]⟩;have h1:v1.length=i:=by rw[k1.length];simp;omega
 have h3:v3.length=n:=by rw[k3.length];simp;omega
 rw[fD h1,gZ h3];exact k3
theorem eZ.at{vs:bW}{ds:aK}(h:eZ w κ vs ds bs){i:Nat}{d:D}(hd:ds[i]?=some d):
 ∃v b,vs[i]?=some v/\v.oneCell'=true/\wO w κ v d b/\∀x∈b,x∈bs:=by
 induction ds generalizing vs bs i with
 |nil=>simp at hd
 |cons e ds ih=>
  cases h with
  |cons v vs _ _ b1 b2 h1 h2 h3=>
   cases i with
   |zero=>simp at hd;subst hd;exact⟨v,b1,by simp,h1,h2,by intro x hx;simp[hx]⟩
   |succ i=>
    simp at hd;obtain⟨u,b,k1,k2,k3,k4⟩:=ih h3 hd;exact⟨u,b,by simpa using k1,k2,k3,fun x hx=>by simp[k4 x hx]⟩
theorem Ng(v:Value):oq w κ v (D.Nf v) []:=by
 unfold D.Nf;split
 ·exact .of (.bool _)
 ·split
  ·rename_i h;exact .of (.int _ _ h)
  ·exact .of (.val _)
 ·split
  ·rename_i h;exact .of (.str _ h)
  ·exact .of (.val _)
 ·exact .of .nil
 ·exact .of (.val _)
end
section
variable{Γ:sQ}{st:St}{κ:Nat->Option Value}{Θ:Nat->Nat}{a:Act}{w:World}
theorem dM.ev(h:dM Γ st κ Θ a w)(x:Operand):∃bs,oq w κ (a.eval x) (st.ev x) bs/\∀b∈bs,Θ b=0:=by
 cases x with
 |tmp t=>exact h.slot t
 |const v=>exact⟨[],Ng v,by simp⟩
 |global g=>exact⟨[],.of (.val _),by simp⟩
 |func f=>exact⟨[],.of (.val _),by simp⟩
theorem dM.set(h:dM Γ st κ Θ a w){t:Nat}{v:Value}{d:D}{bs:aP}(ht:t<Γ.nt)(hv:oq w κ v d bs)(hb:∀b∈bs,Θ b=0):
 dM Γ (st.set t d) κ Θ (a.put (some t) v) w:=by
 refine⟨h.defers,by simp[Act.put,h.size],h.nB,h.mY,?_,h.ob,h.own,h.old,h.mine,h.stays,h.qf⟩;intro u;show∃bs,oq w κ ((a.tmps.setIfInBounds t v).getD u undef) (if u=t then d else lk st.σ u) bs/\_;have hsz:=h.size;by_cases hu:u=t
 ·subst hu;rw[bE rfl];have:(a.tmps.setIfInBounds u v).getD u undef=v:=by
   simp[bu,hsz,ht]
  rw[this];exact⟨bs,hv,hb⟩
 ·rw[av hu];have:(a.tmps.setIfInBounds t v).getD u undef=a.tmps.getD u undef:=by
   simp[bu,oo hu]
  rw[this];exact h.slot u
end
end Go.Cx
namespace Go.Cx
open Go.RowKit
abbrev bL:=List Ob
def xU(P:Program)(t:TypeId):Option Bool:=
 match P.underlying t with
 |some (.struct _)=>some true
 |some (.array _ _)=>some true
 |some _=>some false
 |none=>none
def wS(P:Program)(t:TypeId):Nat:=P.cellsOf t
def tfo(P:Program)(t f:Nat):Option Nat:=
 match P.underlying t with
 |some (.struct fs)=>(match fs[f]? with
  |some x=>if(P.info? x.type).isSome/\P.cellsOf x.type≠0 then some x.offset else none
  |none=>none)
 |_=>none
def tft(P:Program)(t f:Nat):Option (Nat×TypeId):=
 match P.underlying t with
 |some (.struct fs)=>(match fs[f]? with|some x=>some (x.offset,x.type)|none=>none)
 |_=>none
def CP(P:Program)(t:TypeId):Option (TypeId×Nat):=
 match P.underlying t with
 |some (.slice e)=>if(P.info? e).isSome then some (e,P.cellsOf e)else none
 |_=>none
def ZB(P:Program)(t:TypeId):Option (Nat×Nat):=
 match P.underlying t with
 |some (.array n e)=>if(P.info? e).isSome then some (P.cellsOf e,n)else none
 |_=>none
def GG(P:Program)(t:TypeId):Bool:=match P.underlying t with|some .string=>true|_=>false
def O2(P:Program)(t:TypeId):Option IntKind:=match P.underlying t with|some (.int k)=>some k|_=>none
def XB(P:Program)(t:TypeId):Bool:=match P.underlying t with|some .bool=>true|_=>false
def PG(P:Program)(t:TypeId):Bool:=match P.underlying t with
 |some (.struct fs)=>match fs.toList with
  | [f,g]=>f.name != "_" &&g.name != "_" &&f.offset==0&&g.offset==1&&GG P f.type&&GG P g.type&& !P.stoodInHeld t&& !P.eqGuardType P.depth t
  |_=>false
 |_=>false
def peq(P:Program)(op:BinOp)(t:TypeId):D->D->Option D
 | .bool a,.bool b=>if XB P t=true then match op with| .eql=>some (.bool (a==b))| .neq=>some (.bool (a != b))|_=>none else none
 | .agg [.str a,.str b],.agg [.str c,.str d]=>if PG P t=true then match op with| .eql=>some (.bool (a==c&&b==d))| .neq=>some (.bool (!(a==c&&b==d)))|_=>none else none
 |_,_=>none
def ZC(P:Program)(t:TypeId):Bool:=match P.underlying t with|some (.interface _)=>true|_=>false
def Yi(P:Program)(op:BinOp)(t:TypeId)(x:D)(y:Operand):Option D:=match x,y with
 | .WY b,.const .nilIface=>(match ZC P t,op with|true,.eql=>some (.bool (!b))|true,.neq=>some (.bool b)|_,_=>none)
 |_,_=>none
def QD(op:BinOp):D->D->Option D
 | .int k a,.int k' b=>
  if k=k' then
   match op with
   | .add=>some (.int k (k.wrap (a+b)))
   | .sub=>some (.int k (k.wrap (a-b)))
   | .mul=>some (.int k (k.wrap (a*b)))
   | .quo=>if 0<=a/\0<b then some (.int k (a/b))else none
   | .rem=>if 0<=a/\0<b then some (.int k (a%b))else none
   | .eql=>some (.bool (a==b))
   | .neq=>some (.bool (a != b))
   | .lss=>some (.bool (a<b))
   | .leq=>some (.bool (a<=b))
   | .gtr=>some (.bool (a>b))
   | .geq=>some (.bool (a>=b))
   |_=>none
  else none
 | .str a,.str b=>
  match op with
  | .add=>if a.length+b.length<=maxLen then some (.str (a++b))else none
  | .eql=>some (.bool (a==b))
  | .neq=>some (.bool (!(a==b)))
  | .lss=>some (.bool (Op.bytesLess a b))
  | .leq=>some (.bool (Op.bytesLess a b||a==b))
  | .gtr=>some (.bool (!(Op.bytesLess a b||a==b)))
  | .geq=>some (.bool (!(Op.bytesLess a b)))
  |_=>none
 |_,_=>none
def DO(ag:Bool)(n:Nat)(row:aK)(off:Nat):Option D:=
 if ag then(if off+n<=row.length then some (.agg ((row.drop off).take n))else none)else row[off]?
def Ay(len:Nat)(lo hi:Option D):Option (Nat×Nat):=
 match(match hi with|none=>some len|some (.int _ h)=>if 0<=h/\h.toNat<=len then some h.toNat else none|_=>none)with
 |none=>none
 |some h=>match(match lo with|none=>some 0|some (.int _ l)=>if 0<=l/\l.toNat<=h then some l.toNat else none|_=>none)with
  |none=>none
  |some l=>some (l,h)
def KN(a b:Int):Int:=if b<a then b else a
def Yh:D->D->Option D
 | .int k m,.int k' n=>if k=k' then some (.int k (KN m n))else none
 |_,_=>none
def VZ(P:Program)(st:St)(x:Operand)(t:TypeId):Option D:=
 match st.ev x with
 | .str s=>if GG P t then some (.int .i64 s.length)else none
 | .sl rows=>if(CP P t).isSome then some (.int .i64 rows.length)else none
 | .nil=>if(CP P t).isSome then some (.int .i64 0)else none
 | .acc id=>(match CP P t,st.H[id]? with|some _,some (.row _ _ _ rows)=>some (.int .i64 rows.length)|_,_=>none)
 |_=>none
def D.cellsOf:D->Option aK
 | .agg ds=>some ds
 | .any=>none
 | .iQ _=>none
 | .val v=>if v.oneCell' then some [.val v]else none
 |d=>some [d]
def tz(P:Program)(t:TypeId):Option aK:=
 match P.info? t with
 |some i=>(match i.zero with
  |some z=>if z.cells.toList.all (fun c=>c.oneCell')&&z.cells.size==i.size then some (z.cells.toList.map D.Nf)else none
  |none=>none)
 |none=>none
def PI(P:Program)(t:TypeId):Option (List (Nat×Nat)):=
 match P.underlying t with
 |some (.struct fs)=>fs.toList.mapM (fun f=>(P.info? f.type).map fun i=>(f.offset,i.size))
 |_=>none
def vD(places:List (Nat×Nat))(cells:aK):List (Nat×D)->Option aK
 | []=>some cells
 | (i,d)::rest=>match places[i]?,d.cellsOf with
  |some (off,sz),some ds=>if ds.length=sz/\off+sz<=cells.length then vD places (cells.take off++ds++cells.drop (off+sz)) rest else none
  |_,_=>none
def ZX:D->D->Option Bool
 | .str a,.str b=>some (a==b)
 | .int k a,.int k' b=>if k=k' then some (a==b)else none
 |_,_=>none
def E6:TypeDesc->D->Bool
 | .string,.str _=>true
 | .int k,.int k' _=>decide (k=k')
 |_,_=>false
def By(k:D):List (D×D)->Option (Option D)
 | []=>some none
 |p::r=>match ZX k p.1 with|some true=>some (some p.2)|some false=>By k r|none=>none
def Ez(k v:D):List (D×D)->Option (List (D×D))
 | []=>some [(k,v)]
 |p::r=>match ZX k p.1 with|some true=>some ((k,v)::r)|some false=>(Ez k v r).map (p:: ·)|none=>none
def QU(P:Program)(T:TypeId):Option (TypeDesc×D):=
 match P.underlying T with
 |some (.map kt et)=>(match P.underlying kt,P.info? et with
  |some d,some i=>(match i.zero with|some z=>if z.oneCell'=true then some (d,D.Nf z)else none|none=>none)
  |_,_=>none)
 |_=>none
def Zb(P:Program)(T:TypeId)(kv:List (D×D))(k:D)(ok:Bool):Option D:=
 match QU P T with
 |some (kd,dz)=>(match E6 kd k,By k kv with
  |true,some (some d)=>some (bif ok then .iQ [d,.bool true]else d)
  |true,some none=>some (bif ok then .iQ [dz,.bool false]else dz)
  |_,_=>none)
 |none=>none
def DH(k:IntKind)(a b:Int):Int:=k.wrap ((BitVec.ofInt k.bits a&&& BitVec.ofInt k.bits b).toNat)
def Zs(k:IntKind)(a b:Int):Int:=k.wrap ((BitVec.ofInt k.bits a|||BitVec.ofInt k.bits b).toNat)
def OT(k:IntKind)(a b:Int):Int:=k.wrap ((BitVec.ofInt k.bits a^^^BitVec.ofInt k.bits b).toNat)
def MX(k:IntKind)(a b:Int):Int:=a.fdiv (2^(min b.toNat k.bits))
def Yg(op:BinOp)(x y:D):Option D:=match x,y with
 | .int k a,.int k' b=>(match op with
  | .and=>if k=k' then some (.int k (DH k a b))else none
  | .or=>if k=k' then some (.int k (Zs k a b))else none
  | .xor=>if k=k' then some (.int k (OT k a b))else none
  | .shr=>if 0<=b then some (.int k (MX k a b))else none
  |_=>none)
 |_,_=>none
theorem n8.shr{k:IntKind}{a:Int}(h:n8 k a)(b:Int):n8 k (MX k a b):=by
 have hm:(0:Int)<2^(min b.toNat k.bits):=Int.pow_pos (by decide);unfold MX;rw[Int.fdiv_eq_ediv_of_nonneg _ (zI hm)];generalize(2:Int)^(min b.toNat k.bits)=m at hm;have hz:=n8.zero k;rcases Int.lt_or_le a 0 with h0|h0
 ·refine⟨zJ h.1 (Int.le_ediv_of_mul_le hm ?_),zJ (zI (Int.ediv_lt_of_lt_mul (b:=0) hm (by omega))) hz.2⟩;have:a*m<=a*1:=Int.mul_le_mul_of_nonpos_left (zI h0) (by omega);omega
 ·exact h.down (AA h0 (zI hm)) (Int.ediv_le_self m h0)
def pv(P:Program)(st:St):Op->Option D
 | .lookup T x i ok=>match st.ev x with
  | .acc id=>(match st.H[id]? with|some (.mp kv)=>Zb P T kv (st.ev i) ok|_=>none)
  |_=>none
 | .build t parts=>match tz P t,PI P t with
  |some zs,some ps=>(vD ps zs (parts.toList.map fun p=>(p.1,st.ev p.2))).map D.agg
  |_,_=>none
 | .move x=>some (st.ev x)
 | .assign x=>some (st.ev x)
 | .pick c a b=>match st.ev c with| .bool t=>some (bif t then st.ev a else st.ev b)|_=>none
 | .binOp op t x y _=>match QD op (st.ev x) (st.ev y)with|some d=>some d|none=>(match peq P op t (st.ev x) (st.ev y)with|some d=>some d|none=>(match Yi P op t (st.ev x) y with|some d=>some d|none=>Yg op (st.ev x) (st.ev y)))
 | .nilCheck x=>match st.ev x with| .ptr i o=>some (.ptr i o)| .op i a b c=>some (.op i a b c)| .ep r o=>some (.ep r o)|_=>none
 | .unOp .not _ x=>match st.ev x with| .bool b=>some (.bool (!b))|_=>none
 | .unOp .neg _ x=>match st.ev x with| .int k n=>some (.int k (k.wrap (0-n)))|_=>none
 | .convert s d x=>match st.ev x,O2 P s,O2 P d with| .int _ n,some _,some k=>some (.int k (k.wrap n))|_,_,_=>none
 | .field t x f=>match tft P t f,st.ev x with
  |some (off,ft),.agg cells=>(match xU P ft with|some ag=>DO ag (wS P ft) cells off|none=>none)
  |_,_=>none
 | .fieldAddr t x f=>match tfo P t f,st.ev x with
  |some o,.ptr id off=>some (.ptr id (off+o))
  |some o,.ep row off=>some (.ep row (off+o))
  |some o,.op id i sz off=>some (.op id i sz (off+o))
  |_,_=>none
 | .indexAddr t x i=>match CP P t,st.ev x,st.ev i with
  |some (_,sz),.sl rows,.int _ n=>if 0<=n then(match rows[n.toNat]? with|some row=>if row.length=sz then some (.ep row 0)else none|none=>none)else none
  |some (_,sz),.acc id,.int _ n=>(match st.H[id]? with
   |some (.row _ _ sz' rows)=>if sz=sz'/\0<=n/\n.toNat<rows.length then some (.op id n.toNat sz 0)else none
   |_=>none)
  |_,.val (.pointer (some ⟨g,o,none⟩)),.int _ n=>(match ZB P t with
   |some (sz,len)=>if 0<=n/\n.toNat<len then some (.val (.pointer (some ⟨g,o+n.toNat*sz,none⟩)))else none
   |none=>none)
  |_,_,_=>none
 | .load t x=>match xU P t,st.ev x with
  |some ag,.ep row off=>DO ag (wS P t) row off
  |some ag,.ptr id off=>(match(st.H[id]?).bind Ob.Pg with|some cells=>DO ag (wS P t) cells off|none=>none)
  |some ag,.op id i sz off=>(match st.H[id]? with
   |some (.row k _ sz' rows)=>(match rows[i]? with|some row=>if sz'=sz/\k.Kj=true/\off+(bif ag then wS P t else 1)<=sz then DO ag (wS P t) row off else none|none=>none)
   |_=>none)
  |some ag,.val (.pointer (some ⟨g,o,none⟩))=>(match ag with|false=>PR g o|true=>none)
  |_,_=>none
 | .extract x i=>match st.ev x with| .iQ vs=>vs[i]? |_=>none
 | .index t x i=>match GG P t,st.ev x,st.ev i with
  |true,.str s,.int _ n=>if 0<=n then(match s[n.toNat]? with|some b=>some (.int .u8 b.toNat)|none=>none)else none
  |_,_,_=>none
 | .slice t x lo hi none=>match st.ev x with
  | .str s=>if GG P t then(match Ay s.length (lo.map st.ev) (hi.map st.ev)with|some (l,h)=>some (.str ((s.take h).drop l))|none=>none)else none
  | .sl rows=>(match CP P t,Ay rows.length (lo.map st.ev) (hi.map st.ev)with
   |some (_,sz),some (l,h)=>if(rows.all (fun r=>r.length==sz))then some (.sl ((rows.take h).drop l))else none
   |_,_=>none)
  |_=>none
 | .call c=>match c.callee,c.args.toList,c.argTypes.toList with
  | .builtin .len,[x],[t]=>VZ P st x t
  | .builtin .min,[x,y],[_,_]=>Yh (st.ev x) (st.ev y)
  |_,_,_=>none
 |_=>none
section
variable{P:Program}{Γ:sQ}{st:St}{κ:Nat->Option Value}{Θ:Nat->Nat}{a:Act}{w:World}
def tv(P:Program)(κ:Nat->Option Value)(Θ:Nat->Nat)(a:Act)(w:World)(o:Oper)(d:D):Prop:=
 ∃v bs,(execOp a.eval o).run P w=.ok (.value v) w/\oq w κ v d bs/\∀b∈bs,Θ b=0
theorem Ke{n:Nat}(h:n<=maxLen):n8 .i64 (n:Int):=by
 rw[n8.i64];unfold maxLen at h;omega
theorem dG{k:IntKind}{n:Int}(h:n8 k n):k.wrap n=n:=by
 unfold n8 at h;cases k<;>simp[IntKind.min,IntKind.max,IntKind.wrap,IntKind.bits,IntKind.signed]at h⊢ <;>(try split)<;>omega
theorem Nj{o:Oper}{op:BinOp}{t t':TypeId}{x y:Operand}{d:D}(hs:dM Γ st κ Θ a w)(ho:o.op=.binOp op t x y t')
 (h:QD op (st.ev x) (st.ev y)=some d):tv P κ Θ a w o d:=by
 obtain⟨b1,r1,_⟩:=hs.ev x;obtain⟨b2,r2,_⟩:=hs.ev y;generalize st.ev x=dx at*;generalize st.ev y=dy at*;unfold QD at h;split at h
 ·rename_i k p k' q;split at h
  ·rename_i hk;subst hk;have e1:=r1.oC;have e2:=r2.oC;cases op<;>simp only[af,reduceCtorEq]at h
   case quo=>
    split at h
    ·rename_i hq;cases h;have hq0:q≠0:=by omega
     have hle:p/q<=p:=Int.ediv_le_self q hq.1;have h0:0<=p/q:=AA hq.1 (by omega);have hin:=r1.I3.down h0 hle;have hw:k.wrap (p.tdiv q)=p/q:=by
      rw[Int.tdiv_eq_ediv_of_nonneg hq.1];exact dG hin
     exact⟨_,[],by simp[execOp,ho,e1,e2,binOp,eqGuard,Op.intDiv,hq0,hw],.of (.int _ _ hin),by simp⟩
    ·cases h
   case rem=>
    split at h
    ·rename_i hq;cases h;have hq0:q≠0:=by omega
     have h0:0<=p%q:=Int.emod_nonneg p hq0;have hle:p%q<=p:=by
      have h1:=Int.emod_add_mul_ediv p q;have h2:0<=q*(p/q):=Int.mul_nonneg (by omega) (AA hq.1 (by omega));omega
     have hin:=r1.I3.down h0 hle;have hw:p.tmod q=p%q:=Int.tmod_eq_emod_of_nonneg hq.1;exact⟨_,[],by simp[execOp,ho,e1,e2,binOp,eqGuard,Op.intDiv,hq0,hw],.of (.int _ _ hin),by simp⟩
    ·cases h
   all_goals subst h
   all_goals first
    |exact⟨_,[],by simp[execOp,ho,e1,e2,binOp,eqGuard,Op.intArith],.of (.int _ _ (n8.wrap _ _)),by simp⟩
    |exact⟨_,[],by simp[execOp,ho,e1,e2,binOp,eqGuard,Op.intCmp],.of (.bool _),by simp⟩
  ·cases h
 ·rename_i p q;obtain⟨u,e1,rfl⟩:=r1.rT;obtain⟨v,e2,rfl⟩:=r2.rT;cases op<;>simp only[af,reduceCtorEq]at h
  case add=>
   split at h
   ·rename_i hl;cases h;have hsz:u.size+v.size<=9223372036854775807:=by
     simp only[rq,maxLen]at hl;exact hl
    refine⟨.string (u++v),[],?_,?_,by simp⟩
    ·simp[execOp,ho,e1,e2,binOp,eqGuard,run_string_add_sum w u v hsz]
    ·have:=Rd.str (w:=w) (u++v) (by rw[ByteArray.size_append'];unfold maxLen;omega);simp only[ByteArray.data_append,jj]at this;exact .of this
   ·cases h
  all_goals subst h
  all_goals exact⟨_,[],by simp[execOp,ho,e1,e2,binOp,eqGuard,Op.stringOp,ByteArray.toList_eq],.of (.bool _),by simp⟩
 ·cases h
theorem CM{t:TypeId}{b:Bool}(h:xU P t=some b)(w:World):(isAgg t).run P w=.ok b w:=by
 unfold xU at h;split at h<;>first
  | (rename_i hu;cases h;simp[isAgg,run_underlying hu])
  | (rename_i d _ _ hu;cases h;cases d<;>simp_all [isAgg,run_underlying hu])
  |cases h
theorem info_of_underlying{t:TypeId}{d:TypeDesc}(h:P.underlying t=some d):∃i,P.info? t=some i:=by
 unfold Program.underlying at h;cases hi:P.info? t with
 |none=>simp[hi]at h
 |some i=>exact⟨i,rfl⟩
theorem Ew{t:TypeId}{b:Bool}(h:xU P t=some b):∃i,P.info? t=some i:=by
 unfold xU at h;split at h<;>first
  | (rename_i hu;exact info_of_underlying hu)
  |cases h
theorem sJ{t:TypeId}(h:∃i,P.info? t=some i)(w:World):(sizeOf t).run P w=.ok (wS P t) w:=by
 obtain⟨i,hi⟩:=h;simp[sizeOf,typeInfo,hi,wS,Program.cellsOf]
theorem mq{t:TypeId}{ag:Bool}(ht:xU P t=some ag){b off o:Nat}{cs:bW}
 (hc:∀j c,cs[j]?=some c->w.cell? ⟨b,off+j,none⟩=some c):
 (ag=true->o+wS P t<=cs.length->(Instr.loadAt t (.pointer (some ⟨b,off+o,none⟩))).run P w=.ok (.agg ((cs.drop o).take (wS P t)).toArray) w)/\
 (ag=false->∀c,cs[o]?=some c->(Instr.loadAt t (.pointer (some ⟨b,off+o,none⟩))).run P w=.ok c w):=by
 constructor
 ·intro e hl;subst e;have hlen:((cs.drop o).take (wS P t)).length=wS P t:=by simp;omega
  have:=run_loadCells_list (P:=P) w ⟨b,off+o,none⟩ ((cs.drop o).take (wS P t)) (by
   intro j v hj;rw[Addr.add_lit];rw[cE]at hj;split at hj
   ·rw[dw]at hj;rw[ni];exact hc _ _ hj
   ·cases hj)
  rw[hlen]at this;simp[Instr.loadAt,Instr.sureAddr,loadVar,CM ht,sJ (Ew ht),this]
 ·intro e c hj;subst e;have:=hc o c hj;simp[Instr.loadAt,Instr.sureAddr,loadVar,CM ht,this]
theorem wO.LA{v:Value}{d:D}{bs:aP}(h:wO w κ v d bs):oq w κ v d bs:=.v (.cell h)
theorem IC{o:Oper}{t:TypeId}{x:Operand}{d:D}(hs:dM Γ st κ Θ a w)(ho:o.op=.load t x)
 (h:pv P st (.load t x)=some d):tv P κ Θ a w o d:=by
 obtain⟨b1,r1,z1⟩:=hs.ev x;simp only[pv]at h;split at h
 ·rename_i ag row off ht hx;rw[hx]at r1;have hrd:=r1.NB;generalize Ou:a.eval x=vx at hrd;cases hrd with
  |ep b base cs _ _ bs h0 hc qQ=>
   have L:=mq (P:=P) (w:=w) ht (o:=off) hc;unfold DO at h;split at h
   ·rename_i hag;split at h
    ·rename_i hl;cases h;have hl':off+wS P t<=cs.length:=by rw[qQ.length];exact hl
     obtain⟨b',hm,hsub⟩:=qQ.mid off (wS P t);exact⟨_,b',by simp only[execOp,ho,Ou];simp[L.1 hag hl'],.of (.agg _ _ _ hm),fun y hy=>z1 y (by simp[hsub y hy])⟩
    ·cases h
   ·rename_i hag;simp only[uF]at hag;obtain⟨v,b',hv,_,hr,hsub⟩:=qQ.at h;exact⟨v,b',by simp only[execOp,ho,Ou];simp[L.2 hag v hv],.of hr,fun y hy=>z1 y (by simp[hsub y hy])⟩
 ·rename_i ag id off ht hx;rw[hx]at r1;obtain⟨g,hk,hv⟩:=r1.wJ;split at h
  ·rename_i cells hH;obtain⟨ob,hH,yA⟩:=l6.1 hH;obtain⟨g',cs,T,hk',hg,hΘ,bs,qQ,hz⟩:=(hs.ob id _ hH).cs yA;rw[hk]at hk';cases hk';have hc:∀j c,cs.toList[j]?=some c->w.cell? ⟨g,0+j,none⟩=some c:=by
    intro j c hj;simp only[cV,World.cell?,hg];simpa using hj
   have L:=mq (P:=P) (w:=w) ht (o:=off) hc;simp only[cV]at L;unfold DO at h;split at h
   ·rename_i hag;split at h
    ·rename_i hl;cases h;have hl':off+wS P t<=cs.toList.length:=by rw[qQ.length];exact hl
     obtain⟨b',hm,hsub⟩:=qQ.mid off (wS P t) hl;exact⟨_,b',by simp only[execOp,ho,hv];simp[L.1 hag hl'],.v (.agg _ _ _ hm),fun y hy=>hz y (hsub y hy)⟩
    ·cases h
   ·rename_i hag;simp only[uF]at hag;obtain⟨v,b',ZW,_,hr,hsub⟩:=qQ.at h;exact⟨v,b',by simp only[execOp,ho,hv];simp[L.2 hag v ZW],hr.LA,fun y hy=>hz y (hsub y hy)⟩
  ·cases h
 ·rename_i ag id i sz off ht hx;rw[hx]at r1;obtain⟨g,o0,len,cap,hk,hv⟩:=r1.C2;split at h
  ·rename_i k e sz' rows hH;split at h
   ·rename_i row hrow;split at h
    ·rename_i a02;obtain⟨rfl,hk0,hoff⟩:=a02;obtain⟨hsz,hrl,vk,cs,bs,S7,hown,qQ,hΘ,hz⟩:=hs.ob id _ hH;have vK:∀b∈bs,Θ b=0:=by cases k<;>first|exact hz|simp[RK.Kj]at hk0
     rw[hk]at S7;cases S7;have UH:=A5 hown;subst UH;rw[cV]at hv;have Ot:row.length=sz':=hrl row (aE hrow);have hcells:∀j c,cs[j]?=some c->w.cell? ⟨g,0+j,none⟩=some c:=by
      intro j c hj;have:=hown.cells (g:=g) (by simp[Value.ownBlock]) j c hj;simpa[Addr.add_lit]using this
     have L:=mq (P:=P) (w:=w) ht (o:=i*sz'+off) hcells;simp only[cV]at L;have a3X:=qQ.length;have hmid:=Bm hrl hrow;have hlt:i<rows.length:=(aC.1 hrow).1;have hfl:=mL hrl;have hle:(i+1)*sz'<=rows.length*sz':=dD _ hlt;rw[jA,kf]at hle;unfold DO at h;split at h
     ·rename_i hag;subst hag;simp only[aH]at hoff;split at h
      ·rename_i hl;cases h;have hl':i*sz'+off+wS P t<=cs.length:=by rw[a3X,hfl];omega
       obtain⟨b',hm,hsub⟩:=qQ.mid (i*sz'+off) (wS P t);have e:(rows.flatten.drop (i*sz'+off)).take (wS P t)=(row.drop off).take (wS P t):=by
        rw[<-hmid,List.drop_take,qg,fp,eS (by omega)]
       rw[e]at hm;exact⟨_,b',by simp only[execOp,ho,hv];simp[L.1 rfl hl'],.of (.agg _ _ _ hm),fun y hy=>vK y (hsub y hy)⟩
      ·cases h
     ·rename_i hag;simp only[uF]at hag;subst hag;simp only[aS]at hoff;have e:rows.flatten[i*sz'+off]?=some d:=by
       rw[<-hmid,cE,bE (by omega),dw]at h;exact h
      obtain⟨v,b',ZW,_,hr,hsub⟩:=qQ.at e;exact⟨v,b',by simp only[execOp,ho,hv];simp[L.2 rfl v ZW],.of hr,fun y hy=>vK y (hsub y hy)⟩
    ·cases h
   ·cases h
  ·cases h
 ·rename_i ag g o' ht hx;rw[hx]at r1;have hv:=r1.PO;split at h
  ·obtain⟨ds,⟨p,hp,hcs⟩,hd⟩:=Tz h;obtain⟨B,hB,_⟩:=hs.Ze;obtain⟨_,cs,T,z,hg,hpc⟩:=hB _ hp;obtain⟨v,JN,hrd⟩:=hcs _ hpc _ _ hd;have hc:∀j c,cs.toList[j]?=some c->w.cell? ⟨g,0+j,none⟩=some c:=by
    intro j c hj;simp only[cV,World.cell?,hg];simpa using hj
   have L:=(mq (P:=P) (w:=w) ht (o:=o') hc).2 rfl v JN;rw[cV]at L;exact⟨v,[],by simp only[execOp,ho,hv];simp[L],.of (hrd w),by simp⟩
  ·cases h
 ·cases h
theorem Lp{o:Oper}{t f:Nat}{x:Operand}{d:D}(hs:dM Γ st κ Θ a w)(ho:o.op=.field t x f)
 (h:pv P st (.field t x f)=some d):tv P κ Θ a w o d:=by
 obtain⟨b1,r1,z1⟩:=hs.ev x;simp only[pv]at h;split at h
 ·rename_i off ft cells ht hx;rw[hx]at r1;obtain⟨cs,hv,qQ⟩:=r1.CG;unfold tft at ht;split at ht
  ·rename_i fs hu;split at ht
   ·rename_i fl hfl;cases ht;split at h
    ·rename_i ag hta;unfold DO at h;split at h
     ·rename_i hag;subst hag;split at h
      ·rename_i hl;cases h;obtain⟨b',hm,hsub⟩:=qQ.mid fl.offset (wS P fl.type) hl;refine⟨.agg ((cs.drop fl.offset).take (wS P fl.type)).toArray,b',?_,.v (.agg _ _ _ hm),fun y hy=>z1 y (hsub y hy)⟩;have e:cs.toArray.extract fl.offset (fl.offset+wS P fl.type)=((cs.drop fl.offset).take (wS P fl.type)).toArray:=by
        rw[List.extract_toArray,List.extract_eq_take_drop];congr 1;congr 1;omega
       simp only[execOp,ho,hv];simp[Instr.field,run_underlying hu,hfl,asAgg,part,CM hta,sJ (Ew hta),e]
      ·cases h
     ·rename_i hag;simp only[uF]at hag;subst hag;obtain⟨v,b',JN,_,hr,hsub⟩:=qQ.at h;refine⟨v,b',?_,.v (.cell hr),fun y hy=>z1 y (hsub y hy)⟩;simp only[execOp,ho,hv];simp[Instr.field,run_underlying hu,hfl,asAgg,part,CM hta,JN]
    ·cases h
   ·cases ht
  ·cases ht
 ·cases h
theorem Gv{o:Oper}{t f:Nat}{x:Operand}{d:D}(hs:dM Γ st κ Θ a w)(ho:o.op=.fieldAddr t x f)
 (h:pv P st (.fieldAddr t x f)=some d):tv P κ Θ a w o d:=by
 obtain⟨b1,r1,z1⟩:=hs.ev x;have hf:∀ {o':Nat},tfo P t f=some o'->∀(b off:Nat),(Instr.fieldAt t (.pointer (some ⟨b,off,none⟩)) f).run P w=.ok (.pointer (some ⟨b,off+o',none⟩)) w:=by
  intro o' h b off;unfold tfo at h;split at h
  ·rename_i fs hu;split at h
   ·rename_i fl hfl;split at h
    ·rename_i hc;cases h;obtain⟨i,hi⟩:=dZ.1 hc.1;have hsz:=sJ (P:=P) ⟨i,hi⟩ w;have h0:wS P fl.type≠0:=hc.2;simp[Instr.fieldAt,run_underlying hu,hfl,Instr.sureAddr,fieldPlace,hsz,h0,Addr.add_lit]
    ·cases h
   ·cases h
  ·cases h
 simp only[pv]at h;split at h
 ·rename_i o' id off ht hx;cases h;rw[hx]at r1;obtain⟨g,hk,hv⟩:=r1.wJ;exact⟨_,[],by simp only[execOp,ho,hv];simp[hf ht g off],(wO.ptr id (off+o') g hk).LA,by simp⟩
 ·rename_i o' row off ht hx;cases h;rw[hx]at r1;have hrd:=r1.NB;generalize Ou:a.eval x=vx at hrd;cases hrd with
  |ep b base cs _ _ bs h0 hc qQ=>
   refine⟨.pointer (some ⟨b,base+off+o',none⟩),b::bs,by simp only[execOp,ho,Ou];simp[hf ht b (base+off)],?_,z1⟩;rw[ni];exact .of (.ep b base cs row (off+o') bs h0 hc qQ)
 ·rename_i o' id i sz off ht hx;cases h;rw[hx]at r1;obtain⟨g,o0,len,cap,hk,hv⟩:=r1.C2;refine⟨.pointer (some ⟨g,o0+(i*sz+off)+o',none⟩),[],by simp only[execOp,ho,hv];simp[hf ht g (o0+(i*sz+off))],?_,by simp⟩;rw[ni,ni];exact(wO.op id i sz (off+o') g o0 len cap hk).LA
 ·cases h
theorem mZ{t e sz:Nat}(h:CP P t=some (e,sz)):P.underlying t=some (.slice e)/\(∃i,P.info? e=some i)/\wS P e=sz:=by
 unfold CP at h;split at h
 ·rename_i e' hu;split at h
  ·rename_i hi;cases h;exact⟨hu,dZ.1 hi,rfl⟩
  ·cases h
 ·cases h
theorem H6{o:Oper}{t:Nat}{x i:Operand}{d:D}(hs:dM Γ st κ Θ a w)(ho:o.op=.indexAddr t x i)
 (h:pv P st (.indexAddr t x i)=some d):tv P κ Θ a w o d:=by
 obtain⟨b1,r1,z1⟩:=hs.ev x;obtain⟨b2,r2,z2⟩:=hs.ev i;simp only[pv]at h;split at h
 ·rename_i e sz rows k n ht hx hi;rw[hx]at r1;rw[hi]at r2;have hn:=r2.oC;obtain⟨hu,G2,Ev⟩:=mZ ht;have hsz:=sJ (P:=P) G2 w;split at h
  ·rename_i h0;split at h
   ·rename_i row hrow;split at h
    ·rename_i hlen;cases h;have hrd:=r1.L4;have hlt:n.toNat<rows.length:=(aC.1 hrow).1;generalize Ou:a.eval x=vx at hrd;cases hrd with
     |w8=>simp at hrow
     |mD=>simp at hrow
     |sl b off cap sz' _ cs bs hb hcap E5 hrl hc qQ=>
      have a3a:sz'=sz:=by rw[<-hrl row (aE hrow)];exact hlen
      subst a3a;obtain⟨b',hm,hsub⟩:=qQ.mid (n.toNat*sz') sz';rw[Bm hrl hrow]at hm;have hn':0<=n/\n<(rows.length:Int):=⟨h0,by omega⟩
      refine⟨.pointer (some ⟨b,off+n.toNat*sz',none⟩),b::b',?_,?_,?_⟩
      ·simp only[execOp,ho,Ou,hn];simp[Instr.indexAt,asIntOf,run_underlying hu,hn',hsz,Ev,Addr.add_lit]
      ·have a3Y:∀j c,((cs.drop (n.toNat*sz')).take sz')[j]?=some c->w.cell? ⟨b,off+n.toNat*sz'+j,none⟩=some c:=by
        intro j c hj;rw[cE]at hj;split at hj
        ·rw[dw]at hj;rw[ni];exact hc _ _ hj
        ·cases hj
       exact .of (.ep b (off+n.toNat*sz') _ row 0 b' hb a3Y hm)
      ·intro y hy;rcases bA.1 hy with rfl|hy
       ·exact z1 _ (by simp)
       ·exact z1 _ (by simp[hsub y hy])
    ·cases h
   ·cases h
  ·cases h
 ·rename_i e sz id k n ht hx hi;rw[hx]at r1;rw[hi]at r2;have hn:=r2.oC;obtain⟨hv,_⟩:=r1.sL;obtain⟨hu,G2,Ev⟩:=mZ ht;have hsz:=sJ (P:=P) G2 w;split at h
  ·rename_i dp e' sz' rows hH;split at h
   ·rename_i hc;cases h;obtain⟨rfl,h0,hlt⟩:=hc;obtain⟨Y1,hrl,vk,cs,bs,S7,hown,qQ,hΘ,hz⟩:=hs.ob id _ hH;rw[hv]at S7;cases S7;rcases hown.2 with⟨rO,vK⟩|⟨g,cap,cur,hkv,_⟩
    ·omega
    ·have hn':0<=n/\n<(rows.length:Int):=⟨h0,by omega⟩
     refine⟨_,[],?_,(wO.op id n.toNat sz 0 g 0 _ _ (hkv▸hv)).LA,by simp⟩;simp only[execOp,ho,hn,hkv];simp[Instr.indexAt,asIntOf,run_underlying hu,hn',hsz,Ev,Addr.add_lit]
   ·cases h
  ·cases h
 ·rename_i g o' kk n hx hi;rw[hx]at r1;rw[hi]at r2;have hn:=r2.oC;have hv:=r1.PO;split at h
  ·rename_i sz len hT;split at h
   ·rename_i hc;cases h;obtain⟨h0,hlt⟩:=hc;unfold ZB at hT;split at hT
    ·rename_i len' e hu;split at hT
     ·rename_i G2;cases hT;have hsz:=sJ (P:=P) (dZ.1 G2) w;have hn':0<=n/\n<(len:Int):=⟨h0,by omega⟩
      refine⟨_,[],?_,.of (.val _),by simp⟩;simp only[execOp,ho,hn,hv];simp[Instr.indexAt,Instr.sureAddr,asIntOf,run_underlying hu,hn',hsz,wS,Addr.add_lit]
     ·cases hT
    ·cases hT
   ·cases h
  ·cases h
 ·cases h
theorem Q6{o:Oper}{t t':Nat}{x y:Operand}{d:D}(hs:dM Γ st κ Θ a w)(ho:o.op=.call {callee:=.builtin .min,args:= #[x,y],argTypes:= #[t,t']})
 (h:Yh (st.ev x) (st.ev y)=some d):tv P κ Θ a w o d:=by
 obtain⟨b1,r1,z1⟩:=hs.ev x;obtain⟨b2,r2,z2⟩:=hs.ev y;unfold Yh at h;split at h
 ·rename_i k m k' n hx hy;split at h
  ·rename_i hk;subst hk;cases h;rw[hx]at r1;rw[hy]at r2;have e1:=r1.oC;have e2:=r2.oC;refine⟨.int k (KN m n),[],?_,.of (.int _ _ ?_),by simp⟩
   ·simp only[execOp,ho,resolve,invoke,builtin,mN,bO,cA,e1,e2];simp[Builtin.min_,Builtin.min2,KN]
   ·unfold KN;split
    ·exact r2.I3
    ·exact r1.I3
  ·cases h
 ·cases h
theorem Q3{o:Oper}{t:Nat}{x:Operand}{d:D}(hs:dM Γ st κ Θ a w)(ho:o.op=.call {callee:=.builtin .len,args:= #[x],argTypes:= #[t]})
 (h:VZ P st x t=some d):tv P κ Θ a w o d:=by
 obtain⟨b1,r1,z1⟩:=hs.ev x;unfold VZ at h;split at h
 ·rename_i s hx;split at h
  ·rename_i ht;cases h;rw[hx]at r1;obtain⟨u,hv,rfl⟩:=r1.rT;have hu:P.underlying t=some .string:=by
    unfold GG at ht;split at ht
    ·assumption
    ·cases ht
   refine⟨.int .i64 (u.data.toList.length:Nat),[],?_,.of (.int _ _ (Ke r1.Tq)),by simp⟩;simp only[execOp,ho,resolve,invoke,builtin,mN,bO,cA,hv];simp[Builtin.len_,run_underlying hu,goInt]
  ·cases h
 ·rename_i rows hx;split at h
  ·rename_i ht;cases h;rw[hx]at r1;obtain⟨⟨e,sz⟩,ht⟩:=dZ.1 ht;obtain⟨hu,_,_⟩:=mZ ht;have hrd:=r1.L4;generalize Ou:a.eval x=vx at hrd;have hlen:∃q c,vx=.slice q rows.length c:=by
    cases hrd with
    |w8=>exact⟨_,_,rfl⟩
    |mD=>exact⟨_,_,rfl⟩
    |sl=>exact⟨_,_,rfl⟩
   have E5:rows.length<=maxLen:=by
    cases hrd with
    |w8=>simp
    |mD=>simp
    |sl b off cap sz _ cs bs hb h1 h2=>omega
   obtain⟨q,c,rfl⟩:=hlen;refine⟨.int .i64 rows.length,[],?_,.of (.int _ _ (Ke E5)),by simp⟩;simp only[execOp,ho,resolve,invoke,builtin,mN,bO,cA,Ou];simp[Builtin.len_,run_underlying hu,goInt]
  ·cases h
 ·rename_i hx;split at h
  ·rename_i ht;cases h;rw[hx]at r1;obtain⟨⟨e,sz⟩,ht⟩:=dZ.1 ht;obtain⟨hu,_,_⟩:=mZ ht;have hv:=r1.F7;refine⟨.int .i64 0,[],?_,.of (.int _ _ (n8.zero _)),by simp⟩;simp only[execOp,ho,resolve,invoke,builtin,mN,bO,cA,hv];simp[Builtin.len_,run_underlying hu,goInt]
  ·cases h
 ·rename_i id hx;split at h
  ·rename_i p dp e' sz' rows ht hH;cases h;rw[hx]at r1;obtain⟨hv,_⟩:=r1.sL;obtain⟨e,sz⟩:=p;obtain⟨hu,_,_⟩:=mZ ht;obtain⟨Y1,hrl,vk,cs,bs,S7,hown,qQ,hΘ,hz⟩:=hs.ob id _ hH;rw[hv]at S7;cases S7;have hlen:∃q c,a.eval x=.slice q rows.length c:=by
    rcases hown.2 with⟨rO,vK⟩|⟨g,cap,cur,hkv,_⟩
    ·exact⟨none,0,by rw[rO,vK]⟩
    ·exact⟨_,_,hkv⟩
   have E5:rows.length<=maxLen:=by
    rcases hown.2 with⟨rO,vK⟩|⟨g,cap,cur,hkv,_,_,h1,h2,_⟩
    ·omega
    ·omega
   obtain⟨q,c,hk⟩:=hlen;refine⟨.int .i64 rows.length,[],?_,.of (.int _ _ (Ke E5)),by simp⟩;simp only[execOp,ho,resolve,invoke,builtin,mN,bO,cA,hk];simp[Builtin.len_,run_underlying hu,goInt]
  ·cases h
 ·cases h
theorem zQ.at{vs:bW}{ds:aK}{bs:aP}(h:zQ w κ vs ds bs){i:Nat}{d:D}(hd:ds[i]?=some d):
 ∃v b,vs[i]?=some v/\HS w κ v d b/\∀x∈b,x∈bs:=by
 induction ds generalizing vs bs i with
 |nil=>simp at hd
 |cons e ds ih=>
  cases h with
  |cons v vs _ _ b1 b2 h2 h3=>
   cases i with
   |zero=>simp at hd;subst hd;exact⟨v,b1,by simp,h2,by intro x hx;simp[hx]⟩
   |succ i=>
    simp at hd;obtain⟨u,b,k1,k3,k4⟩:=ih h3 hd;exact⟨u,b,by simpa using k1,k3,fun x hx=>by simp[k4 x hx]⟩
theorem oq.Vw{v:Value}{ds:aK}{bs:aP}(h:oq w κ v (.iQ ds) bs):∃vs:bW,v=.tuple vs.toArray/\zQ w κ vs ds bs:=by
 cases h with
 |v h=>cases h with|cell h=>cases h with|pure h=>cases h
 |iQ vs _ _ h=>exact⟨vs,rfl,h⟩
theorem Iq{o:Oper}{i:Nat}{x:Operand}{d:D}(hs:dM Γ st κ Θ a w)(ho:o.op=.extract x i)
 (h:pv P st (.extract x i)=some d):tv P κ Θ a w o d:=by
 obtain⟨b1,r1,z1⟩:=hs.ev x;simp only[pv]at h;split at h
 ·rename_i vs hx;rw[hx]at r1;obtain⟨us,hv,hr⟩:=r1.Vw;obtain⟨v,b,k1,k2,k3⟩:=hr.at h;exact⟨v,b,by simp only[execOp,ho,hv];simp[Instr.extract,k1],.v k2,fun y hy=>z1 y (k3 y hy)⟩
 ·cases h
theorem uT{t:Nat}(ht:GG P t=true):P.underlying t=some .string:=by
 unfold GG at ht;split at ht
 ·assumption
 ·cases ht
theorem M7{o:Oper}{t:Nat}{x i:Operand}{d:D}(hs:dM Γ st κ Θ a w)(ho:o.op=.index t x i)
 (h:pv P st (.index t x i)=some d):tv P κ Θ a w o d:=by
 obtain⟨b1,r1,z1⟩:=hs.ev x;obtain⟨b2,r2,z2⟩:=hs.ev i;simp only[pv]at h;split at h
 ·rename_i s k n ht hx hi;rw[hx]at r1;rw[hi]at r2;obtain⟨u,hv,rfl⟩:=r1.rT;have hn:=r2.oC;have hu:=uT ht;split at h
  ·rename_i h0;split at h
   ·rename_i b hb;cases h;have hlt:n.toNat<u.size:=by
     have:=(aC.1 hb).1;simpa using this
    have KC:u[n.toNat]?=some b:=by
     have hb':u.data[n.toNat]?=some b:=by simpa using hb
     rw[getElem?_pos u n.toNat hlt];rw[az]at hb';obtain⟨_,he⟩:=hb';rw[<-he];rfl
    refine⟨.int .u8 b.toNat,[],?_,.of (.int _ _ (n8.u8.2 (by have:=b.toNat_lt;omega))),by simp⟩;simp only[execOp,ho,hv,hn];simp[Instr.index,asIntOf,run_underlying hu,h0,KC]
   ·cases h
  ·cases h
 ·cases h
theorem Kv{lo hi:Option Operand}{l h':Nat}{isSlice:Bool}{len cap:Nat}(hs:dM Γ st κ Θ a w)
 (hlc:len<=cap) (h:Ay len (lo.map st.ev) (hi.map st.ev)=some (l,h')):
 (Instr.sliceBounds isSlice len cap (lo.map a.eval) (hi.map a.eval) none).run P w=.ok (l,h',cap) w/\l<=h'/\h'<=len:=by
 have hv:∀ {x:Operand} {k:IntKind} {n:Int},st.ev x=.int k n->a.eval x=.int k n:=by
  intro x k n hx;obtain⟨b,r,_⟩:=hs.ev x;rw[hx]at r;exact r.oC
 unfold Ay at h;cases hi with
 |none=>
  simp only[vN]at h⊢;cases lo with
  |none=>
   simp only[vN,af,cG]at h⊢;obtain⟨rfl,rfl⟩:=h;exact⟨by simp[Instr.sliceBounds],by omega,by omega⟩
  |some lo=>
   simp only[cF]at h⊢;cases hlo:st.ev lo<;>simp only[hlo,reduceCtorEq]at h;rename_i k n;split at h
   ·cases h
   ·rename_i l0 hm;split at hm
    ·rename_i hb;cases hm;cases h;have Mm:0<=n/\n<=(h':Int):=⟨hb.1,by omega⟩
     exact⟨by simp[Instr.sliceBounds,Instr.sliceBound,hv hlo,asIntOf,Mm],hb.2,by omega⟩
    ·cases hm
 |some hi=>
  simp only[cF]at h⊢;cases hhi:st.ev hi<;>simp only[hhi,reduceCtorEq]at h;rename_i k m;split at h
  ·cases h
  ·rename_i h0 hm;split at hm
   ·rename_i hb;cases hm;have Mm:0<=m/\m<=(cap:Int):=⟨hb.1,by omega⟩
    cases lo with
    |none=>
     simp only[vN,af,cG]at h⊢;obtain⟨rfl,rfl⟩:=h;exact⟨by simp[Instr.sliceBounds,Instr.sliceBound,hv hhi,asIntOf,Mm],by omega,hb.2⟩
    |some lo=>
     simp only[cF]at h⊢;cases hlo:st.ev lo<;>simp only[hlo,reduceCtorEq]at h;rename_i k' n;split at h
     ·cases h
     ·rename_i l0 hm;split at hm
      ·rename_i Qk;cases hm;cases h;have hb3:0<=n/\n<=max m 0:=⟨Qk.1,by omega⟩
       exact⟨by simp[Instr.sliceBounds,Instr.sliceBound,hv hhi,hv hlo,asIntOf,Mm,hb3],Qk.2,hb.2⟩
      ·cases hm
   ·cases hm
theorem TG{rows:List aK}{sz l h':Nat}(hrl:∀r∈rows,r.length=sz)(h1:l<=h')(h2:h'<=rows.length):
 ((rows.take h').drop l).flatten=(rows.flatten.drop (l*sz)).take ((h'-l)*sz):=by
 have e:rows=(rows.take l)++(((rows.take h').drop l)++rows.drop h'):=by
  have hA:rows.take h'=(rows.take h').take l++(rows.take h').drop l:=(bp _ _).symm;have hB:(rows.take h').take l=rows.take l:=by rw[qg,eS h1]
  rw[hB]at hA;rw[<-dJ,<-hA,bp]
 have l1:(rows.take l).flatten.length=l*sz:=by
  rw[mL (fun r hr=>hrl r (bw hr)),cD,eS (by omega)]
 have l2:((rows.take h').drop l).flatten.length=(h'-l)*sz:=by
  rw[mL (fun r hr=>hrl r (bw (j9 hr))),rC,cD,eS (by omega)]
 have hf:rows.flatten=(rows.take l).flatten++(((rows.take h').drop l).flatten++(rows.drop h').flatten):=by
  rw[<-jk,<-jk,<-e]
 rw[hf,fD l1,gZ l2]
theorem MY{o:Oper}{t:Nat}{x:Operand}{lo hi:Option Operand}{d:D}(hs:dM Γ st κ Θ a w)(ho:o.op=.slice t x lo hi none)
 (h:pv P st (.slice t x lo hi none)=some d):tv P κ Θ a w o d:=by
 obtain⟨b1,r1,z1⟩:=hs.ev x;simp only[pv]at h;split at h
 ·rename_i s hx;rw[hx]at r1;obtain⟨u,hv,rfl⟩:=r1.rT;split at h
  ·rename_i ht;have hu:=uT ht;split at h
   ·rename_i l h' hc;cases h;obtain⟨hr,hl,hh⟩:=Kv (P:=P) (isSlice:=false) (cap:=u.data.toList.length) hs (bJ _) hc;have hsz:u.data.toList.length=u.size:=by simp
    rw[hsz]at hr;refine⟨.string (u.extract l h'),[],?_,?_,by simp⟩
    ·simp only[execOp,ho,hv];simp[Instr.sliceAt,Instr.slice,run_underlying hu,hr]
    ·have:=Rd.str (w:=w) (u.extract l h') (by
      have h1:=r1.Tq;simp at h1⊢;omega)
     have e:(u.extract l h').data.toList=(u.data.toList.take h').drop l:=by
      simp[ByteArray.data_extract,List.drop_take]
     rw[e]at this;exact .of this
   ·cases h
  ·cases h
 ·rename_i rows hx;rw[hx]at r1;have hrd:=r1.L4;split at h
  ·rename_i e sz l h' ht hc;split at h
   ·rename_i hall;cases h;obtain⟨hu,G2,Ev⟩:=mZ ht;have hsz:=sJ (P:=P) G2 w;have hrl:∀r∈rows,r.length=sz:=by
     intro r hr;have:=aj.1 hall r hr;simpa using this
    generalize Ou:a.eval x=vx at hrd;have main:∀(q:Option Addr) (cap:Nat),vx=.slice q rows.length cap->rows.length<=cap->
     (execOp a.eval o).run P w=.ok (.value (.slice (if cap=l then q else q.map (·.add (l*sz))) (h'-l) (cap-l))) w/\l<=h'/\h'<=rows.length:=by
     intro q cap hq hcap;obtain⟨hr,hl,hh⟩:=Kv (P:=P) (isSlice:=true) (cap:=cap) hs hcap hc;refine⟨?_,hl,hh⟩;simp only[execOp,ho,Ou,hq];simp[Instr.sliceAt,Instr.slice,run_underlying hu,hr,hsz,Ev]
    cases hrd with
    |w8=>
     obtain⟨hr,hl,hh⟩:=main none 0 rfl (by simp);simp only[bS]at hh;have e1:h'=0:=by omega
     have e2:l=0:=by omega
     subst e1;subst e2;exact⟨_,[],hr,by simpa using oq.of (κ:=κ) (Rd.w8 (w:=w)),by simp⟩
    |mD ad cap hm=>
     obtain⟨hr,hl,hh⟩:=main (some ad) cap rfl (by simp);simp only[bS]at hh;have e1:h'=0:=by omega
     have e2:l=0:=by omega
     subst e1;subst e2;refine⟨_,[],hr,?_,by simp⟩;have:(if cap=0 then some ad else(some ad).map (·.add (0*sz)))=some ad:=by simp[Addr.add]
     rw[this];exact .of (by simpa using Rd.mD (w:=w) ad cap hm)
    |sl b off cap sz' _ cs bs hb hcap E5 Gz hcc qQ=>
     obtain⟨hr,hl,hh⟩:=main (some ⟨b,off,none⟩) cap rfl hcap;by_cases he:h'=l
     ·subst he;refine⟨_,[],hr,?_,by simp⟩;have e1:(rows.take h').drop h'=[]:=by simp
      rw[e1,nN];split
      ·exact .of (.mD _ _ (by omega))
      ·simp only[cF];exact .of (.mD _ _ (by omega))
     ·have hne:cap≠l:=by omega
      rw[av hne,cF,Addr.add_lit]at hr;obtain⟨b',hm,hsub⟩:=qQ.mid (l*sz) ((h'-l)*sz);rw[<-TG hrl hl hh]at hm;refine⟨_,b::b',hr,?_,?_⟩
      ·have hlen:((rows.take h').drop l).length=h'-l:=by simp;omega
       rw[<-hlen];refine .of (.sl b (off+l*sz) (cap-l) sz _ _ b' hb (by omega) (by omega) (fun r hr=>hrl r (bw (j9 hr))) ?_ hm);intro j c hj;rw[cE]at hj;split at hj
       ·rw[dw]at hj;rw[ni];exact hcc _ _ hj
       ·cases hj
      ·intro y hy;rcases bA.1 hy with rfl|hy
       ·exact z1 _ (by simp)
       ·exact z1 _ (by simp[hsub y hy])
   ·cases h
  ·cases h
 ·cases h
theorem JY{v:Value}(h:v.oneCell'=true):v.cells.toList=[v]:=by
 cases v<;>first|rfl|cases h
theorem wO.one{v:Value}{d:D}{bs:aP}(h:wO w κ v d bs)(hk:∀(id:Nat) u,κ id=some u->u.oneCell'=true)(hna:∀es,d≠ .agg es)(hc:d.cellsOf=some [d]):v.oneCell'=true:=by
 cases h with
 |pure h=>
  cases h<;>first
   |rfl
   | (exfalso;exact hna _ rfl)
   | (simp[D.cellsOf]at hc;done)
   | (simp only[D.cellsOf]at hc;split at hc<;>first|assumption|cases hc)
 |acc i v h=>exact hk i v h
 |ptr=>rfl
 |op=>rfl
theorem yj{v:Value}{d:D}{bs:aP}{ds:aK}(hk:∀(id:Nat) u,κ id=some u->u.oneCell'=true)(h:oq w κ v d bs)(hc:d.cellsOf=some ds):eZ w κ v.cells.toList ds bs:=by
 have single:∀ {v d bs},wO w κ v d bs->(∀es,d≠ .agg es)->d.cellsOf=some [d]->eZ w κ v.cells.toList [d] bs:=by
  intro v d bs h hna hc;have h1:=h.one hk hna hc;rw[JY h1];have:=eZ.cons v [] d [] bs [] h1 h .nil;simpa using this
 cases h with
 |iQ=>simp[D.cellsOf]at hc
 |v h=>
  cases h with
  |agg cs _ _ h=>simp only[D.cellsOf,af]at hc;subst hc;simpa[Value.cells]using h
  |cell h=>
   by_cases qe:∃es,d=.agg es
   ·obtain⟨es,rfl⟩:=qe;simp only[D.cellsOf,af]at hc;subst hc;cases h with
    |pure h=>cases h with|agg cs _ _ h=>simpa[Value.cells]using eZ.AN (κ:=κ) h
   ·have e:ds=[d]:=by
     cases d<;>simp only[D.cellsOf,af,reduceCtorEq]at hc<;>first
      |exact hc.symm
      | (exfalso;exact qe ⟨_,rfl⟩)
      | (split at hc<;>first| (simp at hc;exact hc.symm)|cases hc)
    subst e;exact single h (fun es he=>qe ⟨es,he⟩) hc
theorem uY{T:TypeId}{zs:aK}(hz:tz P T=some zs):∃i z,P.info? T=some i/\i.zero=some z/\z.cells.size=i.size/\zs.length=i.size/\(∀c∈z.cells.toList,c.oneCell'=true)/\zs=z.cells.toList.map D.Nf:=by
 unfold tz at hz;split at hz
 ·rename_i i hi;split at hz
  ·rename_i z Ii;split at hz
   ·rename_i hc;cases hz;simp only[aR,aj,cO]at hc;exact⟨i,z,hi,Ii,hc.2,by simp[hc.2],hc.1,rfl⟩
   ·cases hz
  ·cases hz
 ·cases hz
theorem zC(cs:bW)(h:∀c∈cs,c.oneCell'=true):eZ w κ cs (cs.map D.Nf) []:=by
 induction cs with
 |nil=>exact .nil
 |cons c cs ih=>
  have hrd:Rd w c (D.Nf c) []:=by
   unfold D.Nf;split
   ·exact .bool _
   ·split
    ·rename_i h;exact .int _ _ h
    ·exact .val _
   ·split
    ·rename_i h;exact .str _ h
    ·exact .val _
   ·exact .nil
   ·exact .val _
  have:=eZ.cons (κ:=κ) c cs _ _ [] [] (h c (by simp)) (.pure hrd) (ih (fun x hx=>h x (by simp[hx])));simpa using this
theorem foldl_set(off:Nat):∀(vs:bW) (k:Nat) (cells:Array Value),off+k+vs.length<=cells.size->
 ((vs.zipIdx k).foldl (fun cs (x:Value×Nat)=>cs.setIfInBounds (off+x.2) x.1) cells).toList=cells.toList.take (off+k)++vs++cells.toList.drop (off+k+vs.length):=by
 intro vs
 induction vs with
 |nil=>intro k cells _;simp
 |cons v vs ih=>
  intro k cells h;simp only[aQ]at h;rw[List.zipIdx_cons,dL,ih (k+1) _ (by simp;omega)];simp only[Array.toList_setIfInBounds,aQ];have hlt:off+k<cells.toList.length:=by simp;omega
  rw[show off+(k+1)=off+k+1 from by omega,List.take_set,List.drop_set,bE (by omega)];rw[show off+k+1+vs.length=off+k+(vs.length+1)from by omega]
  congr 1
  rw[show v::vs=[v]++vs from rfl,<-dJ]
  congr 1
  rw[List.take_succ_eq_append_getElem hlt,qF _ _ (by simp;omega)];have:(List.take (off+k) cells.toList).length=off+k:=by rw[cD];omega
  rw[this,nN];rfl
theorem Oe(hs:dM Γ st κ Θ a w){places:List (Nat×Nat)}:∀(parts:List (Nat×Operand)) (cs:Array Value) (cells ds:aK) (bs:aP),
 eZ w κ cs.toList cells bs->(∀b∈bs,Θ b=0)->vD places cells (parts.map fun p=>(p.1,st.ev p.2))=some ds->
 ∃arr bs',Instr.fill (places.toArray[·]?) cs (parts.map fun p=>(p.1,a.eval p.2))=some arr/\eZ w κ arr.toList ds bs'/\∀b∈bs',Θ b=0:=by
 intro parts
 induction parts with
 |nil=>
  intro cs cells ds bs hr hz hf;simp only[cA,vD,af]at hf;subst hf;exact⟨cs,bs,rfl,hr,hz⟩
 |cons p parts ih=>
  intro cs cells ds bs hr hz hf
  ·obtain⟨i,x⟩:=p;obtain⟨b,hv,hb⟩:=hs.ev x;generalize Y5:a.eval x=v at hv;simp only[bO,vD]at hf;split at hf
   ·rename_i off sz es hpl hes;split at hf
    ·rename_i hc;have hcs:=yj hs.mY hv hes;have hl1:=hcs.length;have zw:=hr.length;have e:cells=cells.take off++((cells.drop off).take sz++(cells.drop off).drop sz):=by rw[bp,bp]
     rw[e]at hr;obtain⟨v1,v2,c1,c2,I0,rfl,k1,k2⟩:=hr.split;obtain⟨v3,v4,c3,c4,rfl,rfl,k3,k4⟩:=k2.split;have l1:v1.length=off:=by rw[k1.length];simp;omega
     have l3:v3.length=sz:=by rw[k3.length];simp;omega
     have hvs:v.cells.size=sz:=by rw[<-hc.1,<-hl1];simp
     have hcl:cs.size=cells.length:=by rw[<-zw];simp
     have Rm:=foldl_set off v.cells.toList 0 cs (by simp;omega);simp only[w9,rq,hvs]at Rm;have e1:cs.toList.take off=v1:=by rw[I0];exact gZ l1
     have e4:cs.toList.drop (off+sz)=v4:=by rw[I0,<-fp,fD l1];exact fD l3
     rw[e1,e4]at Rm;rw[fp]at k4;have hnew:=(k1.app hcs).app k4;obtain⟨arr,bs',h1,h2,h3⟩:=ih (v.cells.zipIdx.foldl (fun cs (x:Value×Nat)=>cs.setIfInBounds (off+x.2) x.1) cs) _ ds ((c1++b)++c4)
      (by rw[<-Array.foldl_toList,Array.toList_zipIdx,Rm];exact hnew)
      (by
       intro x hx;simp only[aV]at hx;rcases hx with(hx|hx)|hx
       ·exact hz x (by simp[hx])
       ·exact hb x hx
       ·exact hz x (by simp[hx])) hf
     refine⟨arr,bs',?_,h2,h3⟩;simp only[bO,Instr.fill,iM,hpl,Y5];rw[av (by simp;omega)];simpa using h1
    ·cases hf
   ·cases hf
theorem Lf{o:Oper}{t:TypeId}{parts:Array (Nat×Operand)}{d:D}(hs:dM Γ st κ Θ a w)(ho:o.op=.build t parts)
 (h:pv P st (.build t parts)=some d):tv P κ Θ a w o d:=by
 simp only[pv]at h;split at h
 ·rename_i zs ps hz hp;cases hf:vD ps zs (parts.toList.map fun p=>(p.1,st.ev p.2))with
  |none=>simp[hf]at h
  |some ds=>
   simp only[hf,cF,af]at h;subst h;obtain⟨i,z,hi,vK,hsz,hlen,hone,rfl⟩:=uY hz;obtain⟨arr,bs',h1,h2,h3⟩:=Oe hs parts.toList z.cells _ ds [] (zC z.cells.toList hone) (by simp) hf;have hb:P.built t (parts.map fun(i,x)=>(i,a.eval x)).toList=some arr:=by
    unfold PI at hp;split at hp
    ·rename_i fs hu;unfold Program.built;simp only[hi,hu,vK,hp];rw[fy];exact h1
    ·cases hp
   refine⟨.agg arr,bs',?_,?_,h3⟩
   ·simp only[execOp,ho];simp[run_build w t _ arr hb]
   ·have:=HS.agg (w:=w) (κ:=κ) arr.toList ds bs' h2;exact .v (by simpa using this)
 ·cases h
theorem run_equalIn_bool{t:TypeId}{a b:Bool}(h:P.underlying t=some .bool)(d:Nat):(Op.equalIn (d+1) t (.bool a) (.bool b)).run P w=.ok (a==b) w:=by
 simp[Op.equalIn,run_underlying h]
theorem AP{t:TypeId}{a b:ByteArray}(h:P.underlying t=some .string)(d:Nat):(Op.equalIn (d+1) t (.string a) (.string b)).run P w=.ok (a==b) w:=by
 simp[Op.equalIn,run_underlying h]
theorem FE{t:TypeId}(h:GG P t=true){xs:Array Value}{off:Nat}{v:Value}(hx:xs[off]?=some v):(part t xs off).run P w=.ok v w:=by
 simp[part,isAgg,run_underlying (uT h),hx]
theorem GD{t:TypeId}{a b c e:ByteArray}(h:PG P t=true)(d:Nat):(Op.equalIn (d+2) t (.agg #[.string a,.string b]) (.agg #[.string c,.string e])).run P w=.ok (a==c&&b==e) w:=by
 unfold PG at h;split at h
 ·rename_i fs hu;split at h
  ·rename_i f g hfs;simp only[aR,bne_iff_ne,ne_eq,cO,nL]at h;obtain⟨⟨⟨⟨⟨⟨⟨h1,h2⟩,h3⟩,h4⟩,h5⟩,h6⟩,h7⟩,h8⟩:=h;have a35:fs= #[f,g]:=by apply oD.mp;simpa using hfs
   subst a35;have p1:=fun(xs:Array Value) (v:Value) (hx:xs[0]?=some v)=>FE (w:=w) h5 hx
   have p2:=fun(xs:Array Value) (v:Value) (hx:xs[1]?=some v)=>FE (w:=w) h6 hx
   have q1:=AP (P:=P) (w:=w) (a:=a) (b:=c) (uT h5) d;have q2:=AP (P:=P) (w:=w) (a:=b) (b:=e) (uT h6) d;rw[Op.equalIn];generalize(a==c)=r1 at q1⊢;generalize(b==e)=r2 at q2⊢;cases r1<;>cases r2<;>simp[run_underlying hu,h7,h1,h2,h3,h4,p1,p2,q1,q2]
  ·cases h
 ·cases h
theorem eZ.PK{κ:Nat->Option Value}{cs:bW}{p q:Bytes}{bs:aP}(h:eZ w κ cs [.str p,.str q] bs):∃u v:ByteArray,cs=[.string u,.string v]/\u.data.toList=p/\v.data.toList=q:=by
 cases h with
 |cons v1 vs _ _ b1 b2 _ h1 h2=>
  cases h2 with
  |cons v2 vs' _ _ b3 b4 _ h3 h4=>
   cases h4;obtain⟨u,rfl,hu⟩:=(oq.v (.cell h1):oq w κ _ _ _).rT;obtain⟨v,rfl,hv⟩:=(oq.v (.cell h3):oq w κ _ _ _).rT;exact⟨u,v,rfl,hu,hv⟩
theorem RJ(u v:ByteArray):(u==v)=(u.data==v.data):=by cases u;cases v;rfl
theorem QE{o:Oper}{op:BinOp}{t t':TypeId}{x y:Operand}{d:D}(hs:dM Γ st κ Θ a w)(ho:o.op=.binOp op t x y t')
 (h:peq P op t (st.ev x) (st.ev y)=some d):tv P κ Θ a w o d:=by
 obtain⟨b1,r1,_⟩:=hs.ev x;obtain⟨b2,r2,_⟩:=hs.ev y;generalize st.ev x=dx at*;generalize st.ev y=dy at*;unfold peq at h;split at h
 ·rename_i p q;split at h
  ·rename_i hb;have hu:P.underlying t=some .bool:=by
    unfold XB at hb;split at hb
    ·assumption
    ·cases hb
   have e1:=r1.tN;have e2:=r2.tN;have hq:=run_equalIn_bool (P:=P) (w:=w) (a:=p) (b:=q) hu 9999;have q':(Op.equal t (.bool p) (.bool q)).run P w=.ok (p==q) w:=hq;cases op<;>simp only[af,reduceCtorEq]at h
   all_goals subst h
   all_goals exact⟨_,[],by(simp[execOp,ho,e1,e2,binOp,eqGuard,q'])<;>(cases p<;>cases q<;>rfl),.of (.bool _),by simp⟩
  ·cases h
 ·rename_i p1 p2 q1 q2;split at h
  ·rename_i hb;obtain⟨cs1,e1,k1⟩:=r1.CG;obtain⟨cs2,e2,k2⟩:=r2.CG;obtain⟨u1,u2,rfl,rfl,rfl⟩:=eZ.PK k1;obtain⟨v1,v2,rfl,rfl,rfl⟩:=eZ.PK k2;have hg:P.eqGuardType P.depth t=false:=by
    unfold PG at hb;split at hb
    ·split at hb
     ·simp only[aR,nL]at hb;exact hb.2
     ·cases hb
    ·cases hb
   have q:=GD (P:=P) (w:=w) (a:=u1) (b:=u2) (c:=v1) (e:=v2) hb 9998;have q':(Op.equal t (.agg #[.string u1,.string u2]) (.agg #[.string v1,.string v2])).run P w=.ok (u1==v1&&u2==v2) w:=q;cases op<;>simp only[af,reduceCtorEq]at h
   all_goals subst h
   all_goals exact⟨_,[],by(simp[execOp,ho,e1,e2,binOp,eqGuard,hg,q'])<;>(rw[RJ,RJ]),.of (.bool _),by simp⟩
  ·cases h
 ·cases h
theorem oq.VJ{v:Value}{b:Bool}{bs:aP}(h:oq w κ v (.WY b) bs):(b=false/\v=.nilIface)\/(b=true/\∃t u,v=.iface t u):=by
 cases h with|v h=>cases h with|cell h=>cases h with|pure h=>cases h with
  |Pv=>exact .inl ⟨rfl,rfl⟩
  |Pw t u=>exact .inr ⟨rfl,t,u,rfl⟩
theorem FD{t:TypeId}{ms:Array (String×TypeId)}(hu:P.underlying t=some (.interface ms)):(Op.equal t .nilIface .nilIface).run P w=.ok true w:=by
 unfold Op.equal Op.maxDepth;rw[Op.equalIn];simp[run_underlying hu]
theorem DR{t:TypeId}{ms:Array (String×TypeId)}{t1:TypeId}{v1:Value}(hu:P.underlying t=some (.interface ms)):(Op.equal t (.iface t1 v1) .nilIface).run P w=.ok false w:=by
 unfold Op.equal Op.maxDepth;rw[Op.equalIn];simp[run_underlying hu]
theorem Nk{o:Oper}{op:BinOp}{t t':TypeId}{x y:Operand}{d:D}(hs:dM Γ st κ Θ a w)(ho:o.op=.binOp op t x y t')
 (h:Yg op (st.ev x) (st.ev y)=some d):tv P κ Θ a w o d:=by
 obtain⟨b1,r1,_⟩:=hs.ev x;obtain⟨b2,r2,_⟩:=hs.ev y;generalize st.ev x=dx at*;generalize st.ev y=dy at*;unfold Yg at h;split at h
 ·rename_i k p k' q;have e1:=r1.oC;have e2:=r2.oC;cases op<;>simp only[reduceCtorEq]at h
  case shr=>
   split at h
   ·rename_i hq;cases h;exact⟨_,[],by simp[execOp,ho,e1,e2,binOp,eqGuard,Op.shift,show¬q<0 by omega,MX],.of (.int _ _ (r1.I3.shr q)),by simp⟩
   ·cases h
  all_goals
   split at h
   ·rename_i hk;subst hk;cases h;exact⟨_,[],by simp[execOp,ho,e1,e2,binOp,eqGuard,Op.intBits,DH,Zs,OT],.of (.int _ _ (n8.wrap _ _)),by simp⟩
   ·cases h
 ·cases h
theorem Nl{o:Oper}{op:BinOp}{t t':TypeId}{x y:Operand}{d:D}(hs:dM Γ st κ Θ a w)(ho:o.op=.binOp op t x y t')
 (h:Yi P op t (st.ev x) y=some d):tv P κ Θ a w o d:=by
 obtain⟨b1,r1,_⟩:=hs.ev x;generalize st.ev x=dx at*;unfold Yi at h;split at h
 ·rename_i b;have hy:a.eval (.const .nilIface)=.nilIface:=rfl;have hT:∀ {op'},ZC P t=true->op=op'->∃ms,P.underlying t=some (.interface ms):=by
   intro _ ht _;unfold ZC at ht;split at ht
   ·rename_i ms hu;exact⟨ms,hu⟩
   ·cases ht
  rcases r1.VJ with⟨rfl,hx⟩|⟨rfl,t1,v1,hx⟩
  ·split at h
   ·rename_i ht;cases h;obtain⟨ms,hu⟩:=hT ht rfl;exact⟨.bool true,[],by simp[execOp,ho,hx,hy,binOp,eqGuard_nil_constR,FD hu],.of (.bool _),by simp⟩
   ·rename_i ht;cases h;obtain⟨ms,hu⟩:=hT ht rfl;exact⟨.bool false,[],by simp[execOp,ho,hx,hy,binOp,eqGuard_nil_constR,FD hu],.of (.bool _),by simp⟩
   ·cases h
  ·split at h
   ·rename_i ht;cases h;obtain⟨ms,hu⟩:=hT ht rfl;exact⟨.bool false,[],by simp[execOp,ho,hx,hy,binOp,eqGuard,DR hu],.of (.bool _),by simp⟩
   ·rename_i ht;cases h;obtain⟨ms,hu⟩:=hT ht rfl;exact⟨.bool true,[],by simp[execOp,ho,hx,hy,binOp,eqGuard,DR hu],.of (.bool _),by simp⟩
   ·cases h
 ·cases h
theorem vl.cons{w:World}{e:MapEntry}{es:List MapEntry}{p:D×D}{kv:List (D×D)}(h:vl w (e::es) (p::kv)):Rd w e.key p.1 []/\Rd w e.val p.2 []/\vl w es kv:=
 ⟨(h.2 0 e p rfl rfl).1,(h.2 0 e p rfl rfl).2,by simpa using h.1,fun j e' p' h1 h2=>h.2 (j+1) e' p' (by simpa using h1) (by simpa using h2)⟩
theorem WC{x y:ByteArray}:(x==y)=(x.data.toList==y.data.toList):=by
 rw[bX,MapKept.bytes_beq,cO];constructor
 ·intro h;rw[h]
 ·intro h;obtain⟨a⟩:=x;obtain⟨b⟩:=y;simp only at h;rw[oD]at h;rw[h]
theorem HK{w:World}{kd:TypeDesc}{k k':D}{u u':Value}{b:Bool}(It:E6 kd k=true)(hu:Rd w u k [])(tj:Rd w u' k' [])(h:ZX k k'=some b):Instr.sameNow kd u u'=some b/\(b=true->u'=u):=by
 unfold ZX at h;split at h
 ·rename_i s s';cases h;cases hu with
  |str x hx=>
   cases tj with
   |str y hy=>
    cases kd<;>simp[E6]at It;refine⟨by simp only[Instr.sameNow];rw[WC],fun e=>?_⟩;rw[<-WC,MapKept.bytes_beq]at e;rw[e]
 ·rename_i k1 a k2 b';split at h
  ·rename_i e;subst e;cases h;cases hu with
   |int _ _ hx=>
    cases tj with
    |int _ _ hy=>
     cases kd<;>simp[E6]at It;refine⟨by simp[Instr.sameNow],fun e=>?_⟩;have:a=b':=by simpa using e
     rw[this]
  ·cases h
 ·cases h
theorem VM{w:World}{kd:TypeDesc}{k:D}{u:Value}(It:E6 kd k=true)(hu:Rd w u k []):∀ {es:List MapEntry} {kv:List (D×D)} {r:Option D} (i:Nat),vl w es kv->By k kv=some r->
 (r=none/\Instr.findNow kd u es i=some none)\/∃d v j,r=some d/\Instr.findNow kd u es i=some (some (j,v))/\Rd w v d []:=by
 intro es
 induction es with
 |nil=>
  intro kv r i hr h;cases kv with
  |nil=>cases h;exact .inl ⟨rfl,rfl⟩
  |cons p kv=>exact absurd hr.1 (by simp)
 |cons e es ih=>
  intro kv r i hr h;cases kv with
  |nil=>exact absurd hr.1 (by simp)
  |cons p kv=>
   obtain⟨r1,r2,r3⟩:=hr.cons;simp only[By]at h;split at h
   ·rename_i hq;cases h;exact .inr ⟨p.2,e.val,i,rfl,by simp[Instr.findNow,(HK It hu r1 hq).1],r2⟩
   ·rename_i hq;have:=ih (i+1) r3 h;simpa[Instr.findNow,(HK It hu r1 hq).1]using this
   ·cases h
theorem M8{w:World}{kd:TypeDesc}{k:D}{u:Value}(It:E6 kd k=true)(hu:Rd w u k []):MapKept.IsKey kd u:=by
 cases kd<;>cases k<;>simp[E6]at It
 all_goals cases hu
 ·simp[MapKept.IsKey,It]
 ·simp[MapKept.IsKey]
theorem JR{w:World}{κ:Nat->Option Value}{kd:TypeDesc}{k:D}{u:Value}{bs:aP}(It:E6 kd k=true)(hu:oq w κ u k bs):Rd w u k []:=by
 cases kd<;>cases k<;>simp[E6]at It
 all_goals cases hu with|v h=>cases h with|cell h=>cases h with|pure h=>cases h<;>(constructor;assumption)
theorem LB{t:TypeId}{i:TypeInfo}(h:P.info? t=some i){w:World}:(typeInfo t).run P w=.ok i w:=by
 simp[typeInfo,h]
theorem Ia{T:TypeId}{kd:TypeDesc}{dz:D}(h:QU P T=some (kd,dz)):∃kt et z,P.underlying T=some (.map kt et)/\P.underlying kt=some kd/\dz=D.Nf z/\∀w:World,(zeroValue et).run P w=.ok z w:=by
 unfold QU at h;split at h
 ·rename_i kt et h1;split at h
  ·rename_i d i h2 h3;split at h
   ·rename_i z h4;split at h
    ·cases h;exact⟨kt,et,z,h1,h2,rfl,fun w=>by simp[zeroValue,LB h3,h4]⟩
    ·cases h
   ·cases h
  ·cases h
 ·cases h
theorem KY{o:Oper}{T:Nat}{x i:Operand}{ok:Bool}{d:D}(hs:dM Γ st κ Θ a w)(ho:o.op=.lookup T x i ok)
 (h:pv P st (.lookup T x i ok)=some d):tv P κ Θ a w o d:=by
 simp only[pv]at h;split at h
 ·rename_i id hx;split at h
  ·rename_i kv hH;obtain⟨g,es,c,q1,q2,q3,q4⟩:=hs.ob id _ hH;obtain⟨bs,r,_⟩:=hs.ev x;rw[hx]at r;obtain⟨hk,_⟩:=r.sL;rw[q1]at hk;have Y7:a.eval x=.map (some g):=(pM hk).symm;obtain⟨bi,ri,_⟩:=hs.ev i;unfold Zb at h;split at h
   ·rename_i kd dz hT;obtain⟨kt,et,z,t1,t2,t3,t4⟩:=Ia hT;have fin:∀(r:Option D),E6 kd (st.ev i)=true->By (st.ev i) kv=some r->d=(match r with|some d=>(bif ok then .iQ [d,.bool true]else d)|none=>(bif ok then .iQ [dz,.bool false]else dz))->tv P κ Θ a w o d:=by
     intro r It hf hd;have hu:=JR It ri;have Xl:=MapKept.run_checkKey (P:=P) (w:=w) t2 (M8 It hu) es.isEmpty 9999;rcases VM It hu 0 q4 hf with⟨rfl,hn⟩|⟨d',v,j,rfl,hn,hv⟩
     ·have Uy:=MapKept.run_findKey (P:=P) (w:=w) t2 hn;subst hd;cases ok with
      |false=>exact⟨z,[],by simp[execOp,ho,Y7,Instr.lookup,run_underlying t1,MapKept.run_getObj_map q2,Xl,Uy,t4],by rw[t3];exact Ng z,by simp⟩
      |true=>
       refine⟨.tuple #[z,.bool false],[],by simp[execOp,ho,Y7,Instr.lookup,run_underlying t1,MapKept.run_getObj_map q2,Xl,Uy,t4],?_,by simp⟩;have hz:HS w κ z dz []:=by
        have:=Ng (w:=w) (κ:=κ) z;rw[<-t3]at this;cases this with
        |v h=>exact h
        |iQ vs ds bs h=>exact absurd t3 (by simp[D.Nf])
       exact .iQ [z,.bool false] [dz,.bool false] [] (.cons _ _ _ _ [] [] hz (.cons _ _ _ _ [] [] (.cell (.pure (.bool _))) .nil))
     ·have Uy:=MapKept.run_findKey (P:=P) (w:=w) t2 hn;subst hd;cases ok with
      |false=>exact⟨v,[],by simp[execOp,ho,Y7,Instr.lookup,run_underlying t1,MapKept.run_getObj_map q2,Xl,Uy],.of hv,by simp⟩
      |true=>
       refine⟨.tuple #[v,.bool true],[],by simp[execOp,ho,Y7,Instr.lookup,run_underlying t1,MapKept.run_getObj_map q2,Xl,Uy],?_,by simp⟩;exact .iQ [v,.bool true] [d',.bool true] [] (.cons _ _ _ _ [] [] (.cell (.pure hv)) (.cons _ _ _ _ [] [] (.cell (.pure (.bool _))) .nil))
    split at h
    ·rename_i d' h1 h2;cases h;exact fin _ h1 h2 rfl
    ·rename_i h1 h2;cases h;exact fin _ h1 h2 rfl
    ·cases h
   ·cases h
  ·cases h
 ·cases h
theorem Rd.XZ{w:World}{v:Value}{row:aK}{o:Nat}{bs:aP}(h:Rd w v (.ep row o) bs):∃q,v=.pointer (some q):=by
 cases h;exact⟨_,rfl⟩
theorem C4{o:Oper}{d:D}(hs:dM Γ st κ Θ a w)(h:pv P st o.op=some d):tv P κ Θ a w o d:=by
 cases ho:o.op
 all_goals rw[ho]at h
 case load t x=>exact IC hs ho h
 case lookup t x i ok=>exact KY hs ho h
 case build t parts=>exact Lf hs ho h
 case fieldAddr t x f=>exact Gv hs ho h
 case field t x f=>exact Lp hs ho h
 case indexAddr t x i=>exact H6 hs ho h
 case extract x i=>exact Iq hs ho h
 case index t x i=>exact M7 hs ho h
 case binOp op t x y t'=>
  simp only[pv]at h;split at h
  ·rename_i e;cases h;exact Nj hs ho e
  ·split at h
   ·rename_i e;cases h;exact QE hs ho e
   ·split at h
    ·rename_i e;cases h;exact Nl hs ho e
    ·exact Nk hs ho h
 case nilCheck x=>
  simp only[pv]at h;obtain⟨b,r,z⟩:=hs.ev x;have Xv:∀q,a.eval x=.pointer (some q)->tv P κ Θ a w o (st.ev x):=fun q hq=>⟨_,b,by simp[execOp,ho,hq],hq▸r,z⟩
  split at h<;>rename_i hx<;>cases h<;>rw[hx]at r Xv
  ·obtain⟨g,_,hv⟩:=r.wJ;exact Xv _ hv
  ·obtain⟨_,_,_,_,_,hv⟩:=r.C2;exact Xv _ hv
  ·obtain⟨_,hv⟩:=Rd.XZ r.NB;exact Xv _ hv
 case slice t x lo hi mx=>
  cases mx with
  |none=>exact MY hs ho h
  |some m=>simp[pv]at h
 case move x=>
  simp only[pv,af]at h;subst h;obtain⟨b,r,z⟩:=hs.ev x;exact⟨_,b,by simp[execOp,ho],r,z⟩
 case assign x=>
  simp only[pv,af]at h;subst h;obtain⟨b,r,z⟩:=hs.ev x;exact⟨_,b,by simp[execOp,ho],r,z⟩
 case pick c x y=>
  simp only[pv]at h;split at h
  ·rename_i t hc;cases h;obtain⟨b,r,z⟩:=hs.ev c;rw[hc]at r;have hv:=r.tN;cases t
   ·obtain⟨b,r,z⟩:=hs.ev y;exact⟨_,b,by simp[execOp,ho,hv,asBool],r,z⟩
   ·obtain⟨b,r,z⟩:=hs.ev x;exact⟨_,b,by simp[execOp,ho,hv,asBool],r,z⟩
  ·cases h
 case unOp op t x=>
  obtain⟨b,r,z⟩:=hs.ev x;cases op<;>simp only[pv,reduceCtorEq]at h
  case neg=>
   split at h
   ·rename_i k n hx;cases h;rw[hx]at r;have hv:=r.oC;exact⟨_,[],by simp[execOp,ho,hv,Op.unary,Op.intArith],.of (.int _ _ (n8.wrap _ _)),by simp⟩
   ·cases h
  case not=>
   split at h
   ·rename_i bb hx;cases h;rw[hx]at r;have hv:=r.tN;exact⟨_,[],by simp[execOp,ho,hv,Op.unary],.of (.bool _),by simp⟩
   ·cases h
 case convert s d' x=>
  obtain⟨b,r,z⟩:=hs.ev x;simp only[pv]at h;split at h
  ·rename_i k0 n k1 k hx h1 h2;cases h;rw[hx]at r;have hv:=r.oC;have u1:P.underlying s=some (.int k1):=by
    unfold O2 at h1;split at h1
    ·cases h1;assumption
    ·cases h1
   have u2:P.underlying d'=some (.int k):=by
    unfold O2 at h2;split at h2
    ·cases h2;assumption
    ·cases h2
   exact⟨_,[],by simp[execOp,ho,hv,convert,run_underlying u1,run_underlying u2,Conv.intToInt],.of (.int _ _ (n8.wrap _ _)),by simp⟩
  ·cases h
 case call c=>
  simp only[pv]at h;split at h
  ·rename_i x t h1 h2 h3;refine Q3 hs (x:=x) (t:=t) ?_ h;rw[ho];obtain⟨callee,args,argTypes⟩:=c;simp only at h1 h2 h3;subst h1;have e1:args= #[x]:=by cases args;simp_all
   have e2:argTypes= #[t]:=by cases argTypes;simp_all
   subst e1;subst e2;rfl
  ·rename_i x y t t' h1 h2 h3;refine Q6 hs (x:=x) (y:=y) (t:=t) (t':=t') ?_ h;rw[ho];obtain⟨callee,args,argTypes⟩:=c;simp only at h1 h2 h3;subst h1;have e1:args= #[x,y]:=by cases args;simp_all
   have e2:argTypes= #[t,t']:=by cases argTypes;simp_all
   subst e1;subst e2;rfl
  ·cases h
 all_goals simp[pv]at h
theorem W7{Q:Exit->St->Prop}{all:Array Oper}{rest:List Oper}{o:Oper}{t:Nat}{d:D}(hd:o.dst=some t)(hg:o.guard=none)(ht:t<Γ.nt)
 (hv:pv P st o.op=some d) (h:AO P Γ all rest Q (st.set t d)):AO P Γ all (o::rest) Q st:=by
 intro κ Θ a w hs;obtain⟨v,bs,hr,hrd,hz⟩:=C4 hs hv;refine wpList_plain hg fun K hK=>?_
 unfold Oper.wp;rw[hr,Oper.upon_value,hd];exact hK _ _ (h κ Θ _ w (hs.set ht hrd hz))
end
end Go.Cx
namespace Go.Cx
open Go.RowKit
structure gi(w w':World)(Θ Θ':Nat->Nat)(tag:Nat):Prop where
 two:2<=tag
 os:w'.os=w.os
 tape:w'.tape=w.tape
 output:w'.output=w.output
 size:w.heap.size<=w'.heap.size
 block:∀b,b<w.heap.size->Θ b≠tag->w'.heap[b]?=w.heap[b]?
 owner:∀b,b<w.heap.size->Θ b≠tag->Θ' b=Θ b
 own:∀b,Θ' b≠0->b<w'.heap.size
section
variable{w w':World}{κ κ':Nat->Option Value}{Θ Θ':Nat->Nat}{tag id:Nat}{r:D}
theorem gi.free(k:gi w w' Θ Θ' tag){b:Nat}(hb:b<w.heap.size)(hz:Θ b=0):Θ' b=0:=by
 have:=k.two;rw[k.owner b hb (by omega)];exact hz
theorem Rd.over{v:Value}{d:D}{bs:aP}(k:gi w w' Θ Θ' tag)(h:Rd w v d bs)(hz:∀b∈bs,Θ b=0):Rd w' v d bs/\∀b∈bs,Θ' b=0:=by
 have:=k.two;exact⟨h.keep fun b hb=>k.block b (h.lt b hb) (by rw[hz b hb];omega),fun b hb=>k.free (h.lt b hb) (hz b hb)⟩
theorem jx.over{vs:bW}{ds:aK}{bs:aP}(k:gi w w' Θ Θ' tag)(h:jx w vs ds bs)(hz:∀b∈bs,Θ b=0):jx w' vs ds bs/\∀b∈bs,Θ' b=0:=by
 have:=k.two;exact⟨h.keep fun b hb=>k.block b (h.lt b hb) (by rw[hz b hb];omega),fun b hb=>k.free (h.lt b hb) (hz b hb)⟩
section
variable(hn:∀(j:Nat) v,κ j=some v->κ' j=some v)
include hn
end
theorem XR.lt{v:Value}{rows:List aK}{p n:Nat}{bs:aP}(h:XR w κ v rows p n bs):∀b∈bs,b<w.heap.size:=by
 obtain⟨b,off,cap,cs,ns,rfl,h1,h2,h3,h4,h5,rfl,_⟩:=h;intro x hx;rcases bA.1 hx with rfl|hx
 ·exact h1
 ·exact h5.lt x hx
section
variable(hn:∀(j:Nat) v,κ j=some v->κ' j=some v)
include hn
theorem XR.stay{v:Value}{rows:List aK}{p n:Nat}{bs:aP}(h:XR w κ v rows p n bs)(hb:∀b∈bs,w'.heap[b]?=w.heap[b]?):XR w' κ' v rows p n bs:=by
 obtain⟨b,off,cap,cs,ns,rfl,h1,h2,h3,h4,h5,rfl,c,h6,h7⟩:=h;exact⟨b,off,cap,cs,ns,rfl,F1 h1 (hb b (by simp)),h2,h3,fun j c hc=>(yh (hb b (by simp))).trans (h4 j c hc),h5.keep (fun x hx=>hb x (by simp[hx])),rfl,c,h6,hn _ _ h7⟩
end
section
variable(k:gi w w' Θ Θ' tag)(hn:∀(j:Nat) v,κ j=some v->κ' j=some v)
include k hn
theorem wO.stay{v:Value}{d:D}{bs:aP}(h:wO w κ v d bs)(hz:∀b∈bs,Θ b=0):wO w' κ' v d bs/\∀b∈bs,Θ' b=0:=by
 cases h with
 |pure h=>exact⟨.pure (Rd.over k h hz).1,(Rd.over k h hz).2⟩
 |acc i v hk=>exact⟨.acc i v (hn _ _ hk),by simp⟩
 |ptr i off b hk=>exact⟨.ptr i off b (hn _ _ hk),by simp⟩
 |op i j sz off b o0 len cap hk=>exact⟨.op i j sz off b o0 len cap (hn _ _ hk),by simp⟩
theorem eZ.stay{vs:bW}{ds:aK}{bs:aP}(h:eZ w κ vs ds bs)(hz:∀b∈bs,Θ b=0):eZ w' κ' vs ds bs/\∀b∈bs,Θ' b=0:=by
 induction ds generalizing vs bs with
 |nil=>cases h;exact⟨.nil,by simp⟩
 |cons d ds ih=>
  cases h with
  |cons v vs _ _ b1 b2 h1 h2 h3=>
   obtain⟨k1,k2⟩:=wO.stay k hn h2 (fun b hb=>hz b (by simp[hb]));obtain⟨k3,k4⟩:=ih h3 (fun b hb=>hz b (by simp[hb]));refine⟨.cons _ _ _ _ _ _ h1 k1 k3,fun b hb=>?_⟩;rcases aV.1 hb with hb|hb
   ·exact k2 b hb
   ·exact k4 b hb
theorem HS.stay{v:Value}{d:D}{bs:aP}(h:HS w κ v d bs)(hz:∀b∈bs,Θ b=0):HS w' κ' v d bs/\∀b∈bs,Θ' b=0:=by
 cases h with
 |cell h=>exact⟨.cell (wO.stay k hn h hz).1,(wO.stay k hn h hz).2⟩
 |agg cs ds bs h=>exact⟨.agg _ _ _ (eZ.stay k hn h hz).1,(eZ.stay k hn h hz).2⟩
theorem zQ.stay{vs:bW}{ds:aK}{bs:aP}(h:zQ w κ vs ds bs)(hz:∀b∈bs,Θ b=0):zQ w' κ' vs ds bs/\∀b∈bs,Θ' b=0:=by
 induction ds generalizing vs bs with
 |nil=>cases h;exact⟨.nil,by simp⟩
 |cons d ds ih=>
  cases h with
  |cons v vs _ _ b1 b2 h2 h3=>
   obtain⟨k1,k2⟩:=HS.stay k hn h2 (fun b hb=>hz b (by simp[hb]));obtain⟨k3,k4⟩:=ih h3 (fun b hb=>hz b (by simp[hb]));refine⟨.cons _ _ _ _ _ _ k1 k3,fun b hb=>?_⟩;rcases aV.1 hb with hb|hb
   ·exact k2 b hb
   ·exact k4 b hb
theorem oq.stay{v:Value}{d:D}{bs:aP}(h:oq w κ v d bs)(hz:∀b∈bs,Θ b=0):oq w' κ' v d bs/\∀b∈bs,Θ' b=0:=by
 cases h with
 |v h=>exact⟨.v (HS.stay k hn h hz).1,(HS.stay k hn h hz).2⟩
 |iQ vs ds bs h=>exact⟨.iQ _ _ _ (zQ.stay k hn h hz).1,(zQ.stay k hn h hz).2⟩
theorem tL.stay{j:Nat}{o:Ob}(hj:j+2≠tag)(h:tL w κ Θ j o):tL w' κ' Θ' j o:=by
 cases o with
 |gone=>trivial
 |tk rows=>
  obtain⟨v,bs,hk,hrd,hz⟩:=h;obtain⟨h1,h2⟩:=Rd.over k hrd hz;exact⟨v,bs,hn _ _ hk,h1,h2⟩
 |mp kv=>
  obtain⟨g,es,c,q1,q2,q3,q4⟩:=h;have hlt:g<w.heap.size:=(az.1 q2).1;have hne:Θ g≠tag:=by rw[q3];exact hj
  exact⟨g,es,c,hn _ _ q1,(k.block g hlt hne).trans q2,by rw[k.owner g hlt hne];exact q3,q4.stay⟩
 |tY sz rows u=>
  obtain⟨hrl,V3,v,bs,hk,hrd,hnd,Br⟩:=h;have hsame:∀b∈bs,w'.heap[b]?=w.heap[b]?:=fun b hb=>k.block b (hrd.lt b hb) (by rw[(Br b hb).1];exact hj)
  refine⟨hrl,fun x hx=>hn _ _ (V3 x hx),v,bs,hn _ _ hk,hrd.keep hsame,hnd,fun b hb=>⟨?_,?_⟩⟩
  ·rw[k.owner b (hrd.lt b hb) (by rw[(Br b hb).1];exact hj)];exact(Br b hb).1
  ·obtain⟨x,T,hx⟩:=(Br b hb).2;exact⟨x,T,(hsame b hb).trans hx⟩
 |hole sz rows u p n=>
  obtain⟨hrl,V3,v,bs,hk,hrd,hnd,Br⟩:=h;have hsame:∀b∈bs,w'.heap[b]?=w.heap[b]?:=fun b hb=>k.block b (hrd.lt b hb) (by rw[(Br b hb).1];exact hj)
  refine⟨hrl,fun x hx=>hn _ _ (V3 x hx),v,bs,hn _ _ hk,XR.stay hn hrd hsame,hnd,fun b hb=>⟨?_,?_⟩⟩
  ·rw[k.owner b (hrd.lt b hb) (by rw[(Br b hb).1];exact hj)];exact(Br b hb).1
  ·obtain⟨x,T,hx⟩:=(Br b hb).2;exact⟨x,T,(hsame b hb).trans hx⟩
 |box cells=>
  obtain⟨g,cs,T,hk,hg,hΘ,bs,qQ,hz⟩:=h;have hlt:g<w.heap.size:=(az.1 hg).1;have hne:Θ g≠tag:=by rw[hΘ];exact hj
  obtain⟨h1,h2⟩:=eZ.stay k hn qQ hz;exact⟨g,cs,T,hn _ _ hk,(k.block g hlt hne).trans hg,(k.owner g hlt hne).trans hΘ,bs,h1,h2⟩
 |DA cells u=>
  obtain⟨hu,g,cs,T,hk,hg,hΘ,bs,qQ,hz⟩:=h;have hlt:g<w.heap.size:=(az.1 hg).1;have hne:Θ g≠tag:=by rw[hΘ];exact hj
  obtain⟨h1,h2⟩:=eZ.stay k hn qQ hz;exact⟨hn _ _ hu,g,cs,T,hn _ _ hk,(k.block g hlt hne).trans hg,(k.owner g hlt hne).trans hΘ,bs,h1,h2⟩
 |row deep e sz rows=>
  obtain⟨hsz,hrl,v,cs,bs,hk,hown,qQ,hΘ,hd⟩:=h;refine⟨hsz,hrl,v,cs,bs,hn _ _ hk,?_,?_,?_,?_⟩
  ·refine⟨hown.1,?_⟩;rcases hown.2 with rO|⟨g,cap,cur,rfl,hb,KE,rest⟩
   ·exact .inl rO
   ·have hlt:g<w.heap.size:=(az.1 KE).1;have hne:Θ g≠tag:=by rw[hΘ g (by simp[Value.ownBlock])];exact hj
    exact .inr ⟨g,cap,cur,rfl,hb,(k.block g hlt hne).trans KE,rest⟩
  ·refine qQ.keep fun b hb=>k.block b (qQ.lt b hb) ?_
   have:=k.two;cases deep with
   |cl=>rw[(hd.2.1 b hb).1];exact hj
   |sh=>rw[hd b hb];omega
   |uq=>rw[hd b hb];omega
   |mv n=>rw[hd b hb];omega
  ·intro g hg;have hlt:=(hown.lt g hg).2;have e:=hΘ g hg;rw[k.owner g hlt (by rw[e];exact hj)];exact e
  ·cases deep with
   |cl=>
    refine⟨hd.1,fun b hb=>⟨?_,?_⟩,hd.2.2⟩
    ·rw[k.owner b (qQ.lt b hb) (by rw[(hd.2.1 b hb).1];exact hj)];exact(hd.2.1 b hb).1
    ·obtain⟨x,T,hx⟩:=(hd.2.1 b hb).2;exact⟨x,T,(k.block b (qQ.lt b hb) (by rw[(hd.2.1 b hb).1];exact hj)).trans hx⟩
   |sh=>exact fun b hb=>k.free (qQ.lt b hb) (hd b hb)
   |uq=>exact fun b hb=>k.free (qQ.lt b hb) (hd b hb)
   |mv n=>exact fun b hb=>k.free (qQ.lt b hb) (hd b hb)
end
end
section
variable{Γ:sQ}{st:St}{κ κ':Nat->Option Value}{Θ Θ':Nat->Nat}{a:Act}{w w':World}{tag:Nat}
theorem dM.base(hs:dM Γ st κ Θ a w):Γ.W0.heap.size<=w.heap.size:=hs.stays.size
theorem dM.NX(hs:dM Γ st κ Θ a w)(k:gi w w' Θ Θ' tag):OJ Γ w':=by
 refine⟨k.os.trans hs.stays.os,k.tape.trans hs.stays.tape,k.output.trans hs.stays.output,dA hs.stays.size k.size,fun b hb hx=>?_⟩;have:=k.two;have h1:=(hs.old b hb hx).2;exact(k.block b (cw hb hs.base) (by omega)).trans (hs.stays.block b hb hx)
theorem dM.Sb(hs:dM Γ st κ Θ a w)(k:gi w w' Θ Θ' tag):∀b,b<Γ.W0.heap.size->¬Γ.X b->Θ' b=Γ.Θ0 b/\Θ' b<=1:=by
 intro b hb hx;have:=k.two;have h1:=hs.old b hb hx;rw[k.owner b (cw hb hs.base) (by omega)];exact h1
theorem dM.lf(hs:dM Γ st κ Θ a w)(k:gi w w' Θ Θ' tag)(hn:∀(j:Nat) v,κ j=some v->κ' j=some v){ρ:Nat->Nat}(hu:wh Γ st.H κ Θ w ρ):
 (∀b,ρ b≠0->Θ' b=0/\OF Γ b/\Wr w' b)/\(∀id e sz rows,id+2≠tag->st.H[id]?=some (.row .uq e sz rows)->
  ∃v cs bs,κ' id=some v/\w'.ownsRow 0 e sz v rows.length cs/\jx w' cs rows.flatten bs/\bs.Nodup/\∀b∈bs,ρ b=id+1)/\
  ∀id o,id+2≠tag->st.H[id]?=some o->Gl w' κ' ρ id o:=by
 have h2:=k.two;refine⟨?_,?_,?_⟩
 ·intro b hb;obtain⟨h0,hm,x,T,hx⟩:=hu.free b hb;have hlt:b<w.heap.size:=(az.1 hx).1;exact⟨k.free hlt h0,hm,x,T,(k.block b hlt (by omega)).trans hx⟩
 ·intro id e sz rows hid hH;obtain⟨v,cs,bs,hk,hown,qQ,hnd,hρ⟩:=hu.rows id e sz rows hH;obtain⟨_,_,v2,_,_,hk2,_,_,hΘ,_⟩:=hs.ob id _ hH;rw[hk]at hk2;cases hk2;refine⟨v,cs,bs,hn _ _ hk,⟨hown.1,?_⟩,qQ.keep fun b hb=>k.block b (qQ.lt b hb) ?_,hnd,hρ⟩
  ·rcases hown.2 with rO|⟨g,cap,cur,rfl,hb,KE,rest⟩
   ·exact .inl rO
   ·have hlt:g<w.heap.size:=(az.1 KE).1;have hne:Θ g≠tag:=by rw[hΘ g (by simp[Value.ownBlock])];exact hid
    exact .inr ⟨g,cap,cur,rfl,hb,(k.block g hlt hne).trans KE,rest⟩
  ·have:=hρ b hb;have:=(hu.free b (by omega)).1;omega
 ·intro id o hid hH;have hm:=hu.more id o hH;have hb0:∀ {bs:aP},(∀b∈bs,ρ b=id+1)->∀b∈bs,Θ b≠tag:=fun hρ b hb=>by
   have:=hρ b hb;have:=(hu.free b (by omega)).1;omega
  cases o with
  |tk rows=>
   obtain⟨v,bs,hk,hrd,hnd,hρ⟩:=hm;exact⟨v,bs,hn _ _ hk,hrd.keep fun b hb=>k.block b (hrd.lt b hb) (hb0 hρ b hb),hnd,hρ⟩
  |row kd e sz rows=>
   cases kd with
   |mv n=>
    obtain⟨v,cs,bs,hk,hown,qQ,hnd,hρ⟩:=hm;obtain⟨_,_,v2,_,_,hk2,_,_,hΘ,_⟩:=hs.ob id _ hH;rw[hk]at hk2;cases hk2;refine⟨v,cs,bs,hn _ _ hk,⟨hown.1,?_⟩,qQ.keep fun b hb=>k.block b (qQ.lt b hb) (hb0 hρ b hb),hnd,hρ⟩;rcases hown.2 with rO|⟨g,cap,cur,rfl,hb,KE,rest⟩
    ·exact .inl rO
    ·have hlt:g<w.heap.size:=(az.1 KE).1;have hne:Θ g≠tag:=by rw[hΘ g (by simp[Value.ownBlock])];exact hid
     exact .inr ⟨g,cap,cur,rfl,hb,(k.block g hlt hne).trans KE,rest⟩
   |_=>trivial
  |_=>trivial
theorem Gl.re{ρ ρ':Nat->Nat}{id:Nat}{o:Ob}(h:Gl w κ ρ id o)(hr:∀b,ρ b=id+1->ρ' b=id+1):Gl w κ ρ' id o:=by
 cases o with
 |tk rows=>
  obtain⟨v,bs,hk,hrd,hnd,hρ⟩:=h;exact⟨v,bs,hk,hrd,hnd,fun b hb=>hr b (hρ b hb)⟩
 |row kd e sz rows=>
  cases kd with
  |mv n=>
   obtain⟨v,cs,bs,hk,hown,qQ,hnd,hρ⟩:=h;exact⟨v,cs,bs,hk,hown,qQ,hnd,fun b hb=>hr b (hρ b hb)⟩
  |_=>trivial
 |_=>trivial
theorem dM.step(hs:dM Γ st κ Θ a w){H':bL}(k:gi w w' Θ Θ' tag)(hm:∀b,2<=Θ' b->wB Γ b)(hn:∀(j:Nat) v,κ j=some v->κ' j=some v)
 (hko:∀id,H'.length<=id->κ' id=none) (hk1:∀(id:Nat) u,κ' id=some u->u.oneCell'=true)
 (yA:∀(j:Nat) o,H'[j]?=some o->o=.gone\/(j+2≠tag/\st.H[j]?=some o)\/tL w' κ' Θ' j o) (hu:∃ρ,wh Γ H' κ' Θ' w' ρ):dM Γ ⟨st.σ,H'⟩ κ' Θ' a w':=by
 refine⟨hs.defers,hs.size,hko,hk1,?_,?_,k.own,hs.Sb k,hm,hs.NX k,hu⟩
 ·intro t;obtain⟨bs,hr,hz⟩:=hs.slot t;exact⟨bs,oq.stay k hn hr hz⟩
 ·intro j o hj;rcases yA j o hj with rfl|⟨hne,hj'⟩|h
  ·trivial
  ·exact tL.stay k hn hne (hs.ob j o hj')
  ·exact h
def vL(κ:Nat->Option Value)(id:Nat)(v:Option Value):Nat->Option Value:=fun i=>if i=id then v else κ i
theorem ji(κ:Nat->Option Value)(id:Nat)(v:Option Value):vL κ id v id=v:=by simp[vL]
theorem ug{κ:Nat->Option Value}{id:Nat}(h:κ id=none)(v:Option Value):∀(j:Nat) u,κ j=some u->vL κ id v j=some u:=by
 intro j u hj;unfold vL;rw[av (fun e=>by subst e;rw[h]at hj;cases hj)];exact hj
def Ob.QW:Ob->Bool
 | .row .uq _ _ _=>true
 | .row (.mv _) _ _ _=>true
 | .tk _=>true
 |_=>false
def Ob.ZZ:Ob->Bool
 | .row (.mv _) _ _ _=>true
 | .tk _=>true
 |_=>false
theorem Gl.vb{ρ:Nat->Nat}{id:Nat}{o:Ob}(h:o.ZZ=false):Gl w κ ρ id o:=by
 cases o with
 |tk rows=>simp[Ob.ZZ]at h
 |row kd e sz rows=>
  cases kd with
  |mv n=>simp[Ob.ZZ]at h
  |_=>trivial
 |_=>trivial
theorem Gl.plain{ρ:Nat->Nat}{id:Nat}{o:Ob}(h:o.QW=false):Gl w κ ρ id o:=by
 cases o with
 |tk rows=>simp[Ob.QW]at h
 |row kd e sz rows=>
  cases kd with
  |mv n=>simp[Ob.QW]at h
  |_=>trivial
 |_=>trivial
theorem dM.push(hs:dM Γ st κ Θ a w){v:Value}{o:Ob}(h1:v.oneCell'=true)(k:gi w w' Θ Θ' (st.H.length+2))(hm:∀b,2<=Θ' b->wB Γ b)
 (ho:tL w' (vL κ st.H.length (some v)) Θ' st.H.length o) (hq:o.QW=false):dM Γ ⟨st.σ,st.H++[o]⟩ (vL κ st.H.length (some v)) Θ' a w':=by
 have hn:=ug (hs.nB _ (bJ _)) (some v);have key:∀(j:Nat) x,(st.H++[o])[j]?=some x->(j=st.H.length/\x=o)\/(j+2≠st.H.length+2/\st.H[j]?=some x):=by
  intro j x hj;by_cases hlt:j<st.H.length
  ·rw[ai hlt]at hj;exact .inr ⟨by omega,hj⟩
  ·have hj':=(aC.1 hj).1;simp only[b8,aQ,bS]at hj';have e:j=st.H.length:=by omega
   subst e;rw[au (bJ _)]at hj;simp at hj;exact .inl ⟨rfl,hj.symm⟩
 obtain⟨ρ,hu⟩:=hs.qf;have qR:=hs.lf k hn hu;refine hs.step k hm hn ?_ ?_ ?_ ⟨ρ,qR.1,?_,?_⟩
 ·intro i hi;simp only[b8,aQ,bS]at hi;unfold vL;rw[av (by omega)];exact hs.nB i (by omega)
 ·intro i u hu;unfold vL at hu;split at hu
  ·cases hu;exact h1
  ·exact hs.mY i u hu
 ·intro j x hj;rcases key j x hj with⟨rfl,rfl⟩|h
  ·exact .inr (.inr ho)
  ·exact .inr (.inl h)
 ·intro id e sz rows hj;rcases key id _ hj with⟨rfl,rfl⟩|h
  ·simp[Ob.QW]at hq
  ·exact qR.2.1 id e sz rows h.1 h.2
 ·intro id x hj;rcases key id _ hj with⟨rfl,rfl⟩|h
  ·exact Gl.plain hq
  ·exact qR.2.2 id x h.1 h.2
theorem dM.change(hs:dM Γ st κ Θ a w){id:Nat}{o:Ob}(k:gi w w' Θ Θ' (id+2))(hm:∀b,2<=Θ' b->wB Γ b)(ho:tL w' κ Θ' id o)(hq:o.QW=false):
 dM Γ ⟨st.σ,st.H.set id o⟩ κ Θ' a w':=by
 have key:∀(j:Nat) x,(st.H.set id o)[j]?=some x->(j=id/\x=o)\/(j+2≠id+2/\st.H[j]?=some x):=by
  intro j x hj;by_cases e:id=j
  ·subst e;have hlt:id<st.H.length:=by
    have:=(aC.1 hj).1;simpa using this
   rw[cz hlt]at hj;cases hj;exact .inl ⟨rfl,rfl⟩
  ·rw[bq e]at hj;exact .inr ⟨by omega,hj⟩
 obtain⟨ρ,hu⟩:=hs.qf;have qR:=hs.lf k (fun _ _ h=>h) hu;refine hs.step k hm (fun _ _ h=>h) (fun i hi=>hs.nB i (by simpa using hi)) hs.mY ?_ ⟨ρ,qR.1,?_,?_⟩
 ·intro j x hj;rcases key j x hj with⟨rfl,rfl⟩|h
  ·exact .inr (.inr ho)
  ·exact .inr (.inl h)
 ·intro i e sz rows hj;rcases key i _ hj with⟨rfl,rfl⟩|h
  ·simp[Ob.QW]at hq
  ·exact qR.2.1 i e sz rows h.1 h.2
 ·intro i x hj;rcases key i _ hj with⟨rfl,rfl⟩|h
  ·exact Gl.plain hq
  ·exact qR.2.2 i x h.1 h.2
theorem dM.wQ(hs:dM Γ st κ Θ a w)(h:∀b,2<=Θ' b->2<=Θ b\/w.heap.size<=b):∀b,2<=Θ' b->wB Γ b:=by
 intro b hb;rcases h b hb with h|h
 ·exact hs.mine b h
 ·exact .inl (dA hs.base h)
theorem gi.refl(h:∀b,Θ b≠0->b<w.heap.size)(h2:2<=tag):gi w w Θ Θ tag:=⟨h2,rfl,rfl,rfl,bJ _,fun _ _ _=>rfl,fun _ _ _=>rfl,h⟩
theorem gi.VY(h:∀b,Θ b≠0->b<w.heap.size)(hb:Below w.heap.size w w')(h2:2<=tag):gi w w' Θ Θ tag:=
 ⟨h2,hb.os,hb.tape,hb.output,hb.size,fun b hlt _=>hb.block b hlt,fun _ _ _=>rfl,fun b hn=>cw (h b hn) hb.size⟩
theorem dM.grow(hs:dM Γ st κ Θ a w)(hb:Below w.heap.size w w'):dM Γ st κ Θ a w':=by
 have k:gi w w' Θ Θ (st.H.length+2):=gi.VY hs.own hb (by omega);obtain⟨ρ,hu⟩:=hs.qf;have qR:=hs.lf k (fun _ _ h=>h) hu;have hlt:∀(j:Nat) o,st.H[j]?=some o->j+2≠st.H.length+2:=fun j o h=>by
  have:=(aC.1 h).1;omega
 exact hs.step k hs.mine (fun _ _ h=>h) hs.nB hs.mY (fun j o h=>.inr (.inl ⟨hlt j o h,h⟩)) ⟨ρ,qR.1,fun id e sz rows h=>qR.2.1 id e sz rows (hlt _ _ h) h,fun id o h=>qR.2.2 id o (hlt _ _ h) h⟩
theorem dM.drew(hs:dM Γ st κ Θ a w):dM Γ st κ Θ a w.drew:=hs.grow ((Below.refl _ _).drew)
def kill(H:bL):aP->bL
 | []=>H
 |m::ms=>kill (H.set m .gone) ms
theorem ey(H:bL)(ms:aP):(kill H ms).length=H.length:=by
 induction ms generalizing H with
 |nil=>rfl
 |cons m ms ih=>simp[kill,ih]
theorem ld{H:bL}{ms:aP}{j:Nat}{o:Ob}(h:(kill H ms)[j]?=some o):o=.gone\/(j∉ms/\H[j]?=some o):=by
 induction ms generalizing H with
 |nil=>exact .inr ⟨by simp,h⟩
 |cons m ms ih=>
  rcases ih h with h|⟨h1,h2⟩
  ·exact .inl h
  ·by_cases e:m=j
   ·subst e;have hlt:=(aC.1 h2).1;rw[cz (by simpa using hlt)]at h2;cases h2;exact .inl rfl
   ·rw[bq e]at h2;exact .inr ⟨by simp[h1,oo e],h2⟩
def we(κ:Nat->Option Value)(Θ ρ:Nat->Nat)(w:World)(m:Nat)(k:RK)(rows:List aK):Prop:=
 ∃v bs,κ m=some v/\Rd w v (.sl rows) bs/\(∀b∈bs,Θ b=0)/\(k=.uq->bs.Nodup/\∀b∈bs,ρ b=m+1)
theorem uQ{e sz:Nat}{v:Value}{rows:List aK}{cs:bW}{bs:aP}(hrl:∀r∈rows,r.length=sz)(hown:w.ownsRow 0 e sz v rows.length cs)(qQ:jx w cs rows.flatten bs):
 Rd w v (.sl rows) (v.ownBlock.toList++bs):=by
 rcases hown.2 with⟨rfl,hn⟩|⟨g,cap,cur,rfl,_,hg,hnc,hcm,_,ht⟩
 ·have:rows=[]:=cI hn;subst this;cases qQ;exact .w8
 ·have hlt:g<w.heap.size:=(az.1 hg).1;refine .sl g 0 cap sz rows cs bs hlt hnc hcm hrl (fun j c hc=>?_) qQ;have:=hown.cells (g:=g) (by simp[Value.ownBlock]) j c hc;simpa[Addr.add_lit]using this
theorem dM.Yb(hs:dM Γ st κ Θ a w){ρ:Nat->Nat}(hu:wh Γ st.H κ Θ w ρ){m e sz:Nat}{k:RK}{rows:List aK}(hH:st.H[m]?=some (.row k e sz rows))(hk:k.Kj=true):
 ∃Θ' ρ',dM Γ ⟨st.σ,st.H.set m .gone⟩ κ Θ' a w/\wh Γ (st.H.set m .gone) κ Θ' w ρ'/\we κ Θ' ρ' w m k rows/\
  (∀b,Θ b=0->Θ' b=0)/\(∀b,ρ b≠0->ρ' b=ρ b):=by
 obtain⟨hsz,hrl,v,cs,bs,hkm,hown,qQ,hΘ,hz⟩:=hs.ob m _ hH;have vK:∀b∈bs,Θ b=0:=by cases k<;>first|exact hz|simp[RK.Kj]at hk
 let Θ':Nat->Nat:=fun b=>if Θ b=m+2 then 0 else Θ b
 let ρ':Nat->Nat:=fun b=>if some b=v.ownBlock then m+1 else ρ b
 have hk':gi w w Θ Θ' (m+2):=⟨by omega,rfl,rfl,rfl,bJ _,fun _ _ _=>rfl,fun b _ hne=>av hne,fun b hb=>hs.own b (fun h0=>hb (by simp only[Θ'];split<;>simp_all))⟩
 have hT0:∀b,Θ b=0->Θ' b=0:=fun b h=>by simp only[Θ'];split<;>omega
 have On:∀b,2<=Θ' b->wB Γ b:=fun b hb=>hs.mine b (by simp only[Θ']at hb;split at hb<;>omega)
 have Bv:∀g,v.ownBlock=some g->ρ g=0:=by
  intro g hg;cases h:ρ g with
  |zero=>rfl
  |succ n=>have:=(hu.free g (by omega)).1;rw[hΘ g hg]at this;omega
 have hρ:∀b,ρ b≠0->ρ' b=ρ b:=fun b hb=>av (fun h=>hb (Bv b h.symm))
 have key:∀(j:Nat) x,(st.H.set m .gone)[j]?=some x->x=.gone\/(j+2≠m+2/\st.H[j]?=some x):=by
  intro j x hj;rcases ld (ms:=[m]) hj with h|⟨h1,h2⟩
  ·exact .inl h
  ·exact .inr ⟨by simp at h1;omega,h2⟩
 have qR:=hs.lf hk' (fun _ _ h=>h) hu;have hU:wh Γ (st.H.set m .gone) κ Θ' w ρ':=by
  refine⟨fun b hb=>?_,fun id e sz rows h=>?_,fun id x h=>?_⟩
  ·by_cases hb':some b=v.ownBlock
   ·have e1:=hΘ b hb'.symm;refine⟨by simp only[Θ'];rw[bE e1],.inl (hs.mine b (by omega)),?_⟩;rcases hown.2 with⟨rfl,_⟩|⟨g,cap,cur,rfl,_,hg,_⟩
    ·simp[Value.ownBlock]at hb'
    ·simp[Value.ownBlock]at hb';subst hb';exact⟨_,_,hg⟩
   ·exact qR.1 b (by simp only[ρ']at hb;rwa[av hb']at hb)
  ·rcases key id _ h with h|⟨h1,h2⟩
   ·cases h
   ·obtain⟨v2,c2,b2,q1,q2,q3,q4,q5⟩:=qR.2.1 id e sz rows h1 h2;exact⟨v2,c2,b2,q1,q2,q3,q4,fun b hb=>by rw[hρ b (by rw[q5 b hb];omega)];exact q5 b hb⟩
  ·rcases key id _ h with h|⟨h1,h2⟩
   ·subst h;trivial
   ·exact(qR.2.2 id x h1 h2).re fun b hb=>(hρ b (by omega)).trans hb
 refine⟨Θ',ρ',?_,hU,?_,hT0,hρ⟩
 ·exact hs.step hk' On (fun _ _ h=>h) (fun i hi=>hs.nB i (by simpa using hi)) hs.mY (fun j x hj=>by
   rcases key j x hj with h|h
   ·exact .inl h
   ·exact .inr (.inl h)) ⟨ρ',hU⟩
 ·have plain:k≠ .uq->we κ Θ' ρ' w m k rows:=fun hne=>by
   refine⟨v,_,hkm,uQ hrl hown qQ,fun b hb=>?_,fun h=>absurd h hne⟩;rcases aV.1 hb with hb|hb
   ·simp only[jU]at hb;simp only[Θ'];rw[bE (hΘ b hb)]
   ·exact hT0 b (vK b hb)
  cases k with
  |cl=>simp[RK.Kj]at hk
  |sh=>exact plain (by simp)
  |mv n=>exact plain (by simp)
  |uq=>
   obtain⟨v2,c2,b2,q1,q2,q3,q4,q5⟩:=hu.rows m e sz rows hH;rw[hkm]at q1;cases q1;have hfr:∀b∈b2,ρ b≠0:=fun b hb=>by rw[q5 b hb];omega
   refine⟨v,_,hkm,uQ hrl q2 q3,fun b hb=>?_,fun _=>⟨?_,fun b hb=>?_⟩⟩
   ·rcases aV.1 hb with hb|hb
    ·simp only[jU]at hb;simp only[Θ'];rw[bE (hΘ b hb)]
    ·exact hT0 b (hu.free b (hfr b hb)).1
   ·rw[bB];refine⟨by cases v.ownBlock<;>simp,q4,fun x hx y hy e=>?_⟩;simp only[jU]at hx;subst e;exact hfr x hy (Bv x hx)
   ·rcases aV.1 hb with hb|hb
    ·simp only[jU]at hb;simp only[ρ'];rw[bE hb.symm]
    ·rw[hρ b (hfr b hb)];exact q5 b hb
theorem dM.a0x(hs:dM Γ st κ Θ a w){ρ:Nat->Nat}(hu:wh Γ st.H κ Θ w ρ){m:Nat}{rows:List aK}(hH:st.H[m]?=some (.tk rows)):
 dM Γ ⟨st.σ,st.H.set m .gone⟩ κ Θ a w/\wh Γ (st.H.set m .gone) κ Θ w ρ/\we κ Θ ρ w m .uq rows:=by
 have key:∀(j:Nat) x,(st.H.set m .gone)[j]?=some x->x=.gone\/(j≠m/\st.H[j]?=some x):=by
  intro j x hj;rcases ld (ms:=[m]) hj with h|⟨h1,h2⟩
  ·exact .inl h
  ·exact .inr ⟨by simpa using h1,h2⟩
 have hU:wh Γ (st.H.set m .gone) κ Θ w ρ:=by
  refine⟨hu.free,fun id e sz rows h=>?_,fun id x h=>?_⟩
  ·rcases key id _ h with h|⟨_,h2⟩
   ·cases h
   ·exact hu.rows id e sz rows h2
  ·rcases key id _ h with h|⟨_,h2⟩
   ·subst h;trivial
   ·exact hu.more id x h2
 obtain⟨v,bs,q1,q2,q3,q4⟩:=hu.more m _ hH;refine⟨⟨hs.defers,hs.size,fun i hi=>hs.nB i (by simpa using hi),hs.mY,hs.slot,fun id o h=>?_,hs.own,hs.old,hs.mine,hs.stays,ρ,hU⟩,hU,v,bs,q1,q2,fun b hb=>(hu.free b (by rw[q4 b hb];omega)).1,fun _=>⟨q3,q4⟩⟩;rcases key id _ h with h|⟨_,h2⟩
 ·subst h;trivial
 ·exact hs.ob id o h2
def Ob.GF:Ob->Option (RK×List aK)
 | .row k _ _ rows=>(match k with| .cl=>none|_=>some (k,rows))
 | .tk rows=>some (.uq,rows)
 |_=>none
theorem Ob.Tg{o:Ob}{k:RK}{rows:List aK}(h:o.GF=some (k,rows)):(∃e sz,o=.row k e sz rows/\k.Kj=true)\/(o=.tk rows/\k=.uq):=by
 cases o with
 |row k' e sz r=>
  cases k' with
  |cl=>simp[Ob.GF]at h
  |_=>simp only[Ob.GF,af,cG]at h;obtain⟨rfl,rfl⟩:=h;exact .inl ⟨e,sz,rfl,rfl⟩
 |tk r=>simp only[Ob.GF,af,cG]at h;obtain⟨rfl,rfl⟩:=h;exact .inr ⟨rfl,rfl⟩
 |_=>simp[Ob.GF]at h
theorem dM.a0w(hs:dM Γ st κ Θ a w){ρ:Nat->Nat}(hu:wh Γ st.H κ Θ w ρ){m:Nat}{o:Ob}{k:RK}{rows:List aK}(hH:st.H[m]?=some o)(ho:o.GF=some (k,rows)):
 ∃Θ' ρ',dM Γ ⟨st.σ,st.H.set m .gone⟩ κ Θ' a w/\wh Γ (st.H.set m .gone) κ Θ' w ρ'/\we κ Θ' ρ' w m k rows/\
  (∀b,Θ b=0->Θ' b=0)/\(∀b,ρ b≠0->ρ' b=ρ b):=by
 rcases Ob.Tg ho with⟨e,sz,rfl,hk⟩|⟨rfl,rfl⟩
 ·exact hs.Yb hu hH hk
 ·obtain⟨h1,h2,h3⟩:=hs.a0x hu hH;exact⟨Θ,ρ,h1,h2,h3,fun _ h=>h,fun _ _=>rfl⟩
theorem dM.MI:∀(ms:aP) {st:St} {Θ ρ:Nat->Nat},dM Γ st κ Θ a w->wh Γ st.H κ Θ w ρ->ms.Nodup->
 (∀m∈ms,∃o k rows,st.H[m]?=some o/\o.GF=some (k,rows))->
 ∃Θ' ρ',dM Γ ⟨st.σ,kill st.H ms⟩ κ Θ' a w/\wh Γ (kill st.H ms) κ Θ' w ρ'/\(∀m∈ms,∀o k rows,st.H[m]?=some o->o.GF=some (k,rows)->we κ Θ' ρ' w m k rows)/\
  (∀b,Θ b=0->Θ' b=0)/\(∀b,ρ b≠0->ρ' b=ρ b):=by
 intro ms
 induction ms with
 |nil=>intro st Θ ρ hs hu _ _;exact⟨Θ,ρ,hs,hu,by simp,fun _ h=>h,fun _ _=>rfl⟩
 |cons m ms ih=>
  intro st Θ ρ hs hu hnd hall;obtain⟨hnm,D9⟩:=di.1 hnd;obtain⟨o,k,rows,hH,hk⟩:=hall m (by simp);obtain⟨Θ1,ρ1,hs1,hu1,hm1,KG,Qm⟩:=hs.a0w hu hH hk;have KC:∀m'∈ms,(st.H.set m .gone)[m']?=st.H[m']?:=fun m' hm'=>bq (fun e:m=m'=>hnm (by rw[e];exact hm'))
  obtain⟨Θ2,ρ2,hs2,UJ,hm2,SA,V0⟩:=ih (st:=⟨st.σ,st.H.set m .gone⟩) hs1 hu1 D9 (fun m' hm'=>by
   obtain⟨o',k',dh,h1,h2⟩:=hall m' (by simp[hm']);exact⟨o',k',dh,(KC m' hm').trans h1,h2⟩)
  refine⟨Θ2,ρ2,hs2,UJ,?_,fun b h=>SA b (KG b h),fun b h=>(V0 b (by rw[Qm b h];exact h)).trans (Qm b h)⟩;intro m' hm' o' k' dh CJ ho';rcases bA.1 hm' with rfl|Rs
  ·rw[hH]at CJ;cases CJ;rw[hk]at ho';cases ho';obtain⟨v,bs,q1,q2,q3,q4⟩:=hm1;refine⟨v,bs,q1,q2,fun b hb=>SA b (q3 b hb),fun hq=>?_⟩;obtain⟨q5,q6⟩:=q4 hq;exact⟨q5,fun b hb=>by rw[V0 b (by rw[q6 b hb];omega)];exact q6 b hb⟩
  ·exact hm2 m' Rs o' k' dh ((KC m' Rs).trans CJ) ho'
theorem dM.F3:∀(ms:aP) {st:St} {Θ ρ:Nat->Nat},dM Γ st κ Θ a w->wh Γ st.H κ Θ w ρ->ms.Nodup->
 (∀m∈ms,∃k e sz rows,st.H[m]?=some (.row k e sz rows)/\k.Kj=true)->
 ∃Θ' ρ',dM Γ ⟨st.σ,kill st.H ms⟩ κ Θ' a w/\wh Γ (kill st.H ms) κ Θ' w ρ'/\(∀m∈ms,∀k e sz rows,st.H[m]?=some (.row k e sz rows)->we κ Θ' ρ' w m k rows)/\
  (∀b,Θ b=0->Θ' b=0)/\(∀b,ρ b≠0->ρ' b=ρ b):=by
 intro ms
 induction ms with
 |nil=>intro st Θ ρ hs hu _ _;exact⟨Θ,ρ,hs,hu,by simp,fun _ h=>h,fun _ _=>rfl⟩
 |cons m ms ih=>
  intro st Θ ρ hs hu hnd hall;obtain⟨hnm,D9⟩:=di.1 hnd;obtain⟨k,e,sz,rows,hH,hk⟩:=hall m (by simp);obtain⟨Θ1,ρ1,hs1,hu1,hm1,KG,Qm⟩:=hs.Yb hu hH hk;have KC:∀m'∈ms,(st.H.set m .gone)[m']?=st.H[m']?:=fun m' hm'=>bq (fun e:m=m'=>hnm (by rw[e];exact hm'))
  obtain⟨Θ2,ρ2,hs2,UJ,hm2,SA,V0⟩:=ih (st:=⟨st.σ,st.H.set m .gone⟩) hs1 hu1 D9 (fun m' hm'=>by
   obtain⟨k',e',sz',dh,h1,h2⟩:=hall m' (by simp[hm']);exact⟨k',e',sz',dh,(KC m' hm').trans h1,h2⟩)
  refine⟨Θ2,ρ2,hs2,UJ,?_,fun b h=>SA b (KG b h),fun b h=>(V0 b (by rw[Qm b h];exact h)).trans (Qm b h)⟩;intro m' hm' k' e' sz' dh CJ;rcases bA.1 hm' with rfl|Rs
  ·rw[hH]at CJ;cases CJ;obtain⟨v,bs,q1,q2,q3,q4⟩:=hm1;refine⟨v,bs,q1,q2,fun b hb=>SA b (q3 b hb),fun hq=>?_⟩;obtain⟨q5,q6⟩:=q4 hq;exact⟨q5,fun b hb=>by rw[V0 b (by rw[q6 b hb];omega)];exact q6 b hb⟩
  ·exact hm2 m' Rs k' e' sz' dh ((KC m' Rs).trans CJ)
end
end Go.Cx
namespace Go.Cx
open Go.RowKit
section
variable{P:Program}{Γ:sQ}{Q:Exit->St->Prop}{st:St}{κ:Nat->Option Value}{Θ:Nat->Nat}{a:Act}{w:World}{all:Array Oper}{rest:List Oper}
theorem UX{c:Operand}{x y:Code}{b:Bool}(hc:st.ev c=.bool b)(ht:b=true->AW P Γ x Q st)(hf:b=false->AW P Γ y Q st):AW P Γ (.cond c x y) Q st:=by
 intro κ Θ a w hs;obtain⟨bs,r,_⟩:=hs.ev c;rw[hc]at r;exact wp_cond_split r.tN (fun h=>ht h κ Θ a w hs) (fun h=>hf h κ Θ a w hs)
theorem HQ{o:Oper}{j s:Nat}{want b:Bool}(hg:o.guard=some (j,want))(hj:(all[j]?).bind (·.dst)=some s)(hb:lk st.σ s=.bool b)
 (hd:∀t,o.dst=some t->t<Γ.nt)
 (a3j:b=want->AO P Γ all ({o with guard:=none}::rest) Q st) (hno:b≠want->AO P Γ all rest Q (st.put o.dst (.iQ []))):AO P Γ all (o::rest) Q st:=by
 intro κ Θ a w hs;obtain⟨bs,r,_⟩:=hs.slot s;rw[hb]at r;have hv:=r.tN;have hlt:s<a.tmps.size:=by
  rcases dU s a.tmps.size with h|h
  ·exact h
  ·exfalso;rw[bu,ol h]at hv;simp[undef]at hv
 have hy:yielded all a.tmps j=some b:=by
  have h1:a.tmps[s]?=some (.bool b):=by
   rw[bu,cC hlt]at hv;rw[cC hlt];simpa using hv
  simp[yielded,hj,h1]
 by_cases e:b=want
 ·have:=a3j e κ Θ a w hs;unfold wpList at this⊢;have hw:Region.wanted o (yielded all a.tmps)=true:=by simp[Region.wanted,hg,hy,e]
  have hw':Region.wanted {o with guard:=none} (yielded all a.tmps)=true:=rfl;rw[bE hw];rw[bE hw']at this;exact this
 ·have hw:Region.wanted o (yielded all a.tmps)=false:=by simp[Region.wanted,hg,hy,e]
  unfold wpList;rw[hw,av (by simp)];refine hno e κ Θ _ w ?_;cases KA:o.dst with
  |none=>exact hs
  |some t=>exact hs.set (hd t KA) (.iQ [] [] [] .nil) (by simp)
theorem oq.Jd{w:World}{κ:Nat->Option Value}{v:Value}{bs:aP}(h:oq w κ v (.iQ []) bs):v=.tuple #[]:=by
 cases h with
 |v h=>cases h with|cell h=>cases h with|pure h=>cases h
 |iQ vs ds bs h=>cases h;rfl
theorem J2{o:Oper}{j s:Nat}{want:Bool}(hg:o.guard=some (j,want))(hj:(all[j]?).bind (·.dst)=some s)(hb:lk st.σ s=.iQ [])
 (hd:∀t,o.dst=some t->t<Γ.nt) (hno:AO P Γ all rest Q (st.put o.dst (.iQ []))):AO P Γ all (o::rest) Q st:=by
 intro κ Θ a w hs;obtain⟨bs,r,_⟩:=hs.slot s;rw[hb]at r;have hv:=r.Jd;have hy:yielded all a.tmps j=none:=by
  rcases dU s a.tmps.size with hlt|hlt
  ·have h1:a.tmps[s]?=some (.tuple #[]):=by
    rw[bu,cC hlt]at hv;rw[cC hlt];simpa using hv
   simp[yielded,hj,h1]
  ·simp[yielded,hj,ol hlt]
 have hw:Region.wanted o (yielded all a.tmps)=false:=by simp[Region.wanted,hg,hy]
 unfold wpList;rw[hw,av (by simp)];refine hno κ Θ _ w ?_;cases KA:o.dst with
 |none=>exact hs
 |some t=>exact hs.set (hd t KA) (.iQ [] [] [] .nil) (by simp)
theorem gi.alloc(hs:dM Γ st κ Θ a w)(o:Obj){tag:Nat}(h2:2<=tag):gi w (w.alloc o) Θ (fun b=>if b=w.heap.size then tag else Θ b) tag:=by
 refine⟨h2,rfl,rfl,rfl,by simp,fun b hb _=>Below.heap_alloc w o b hb,fun b hb _=>?_,fun b hb=>?_⟩
 ·rw[av (by omega)]
 ·by_cases e:b=w.heap.size
  ·subst e;simp
  ·rw[av e]at hb;have:=hs.own b hb;simp;omega
theorem dM.Sr(hs:dM Γ st κ Θ a w){cs:Array Value}{ds:aK}{bs:aP}(T:TypeId)(hr:eZ w κ cs.toList ds bs)(hz:∀b∈bs,Θ b=0):
 dM Γ ⟨st.σ,st.H++[.box ds]⟩ (vL κ st.H.length (some (.pointer (some ⟨w.heap.size,0,none⟩)))) (fun b=>if b=w.heap.size then st.H.length+2 else Θ b) a (w.alloc (.cells cs T)):=by
 have k:=gi.alloc hs (.cells cs T) (tag:=st.H.length+2) (by omega);refine hs.push rfl k (hs.wQ (fun b hb=>by by_cases e:b=w.heap.size<;>simp_all)) ?_ rfl;have hn:=ug (hs.nB _ (bJ _)) (some (Value.pointer (some ⟨w.heap.size,0,none⟩)));obtain⟨h1,h2⟩:=eZ.stay k hn hr hz;exact⟨w.heap.size,cs,T,by simp[vL],heap_alloc_new w _,by simp,bs,h1,h2⟩
theorem XJ{o:Oper}{T t:Nat}{x:Operand}{ds:aK}(hop:o.op=.box T x)(hd:o.dst=some t)(hg:o.guard=none)(ht:t<Γ.nt)
 (hc:(st.ev x).cellsOf=some ds) (h:AO P Γ all rest Q ⟨(t,.ptr st.H.length 0)::st.σ,st.H++[.box ds]⟩):AO P Γ all (o::rest) Q st:=by
 intro κ Θ a w hs;obtain⟨bs,r,hz⟩:=hs.ev x;have hcs:=yj hs.mY r hc;have hs':=hs.Sr T hcs hz;refine wpList_plain hg fun K hK=>?_
 unfold Oper.wp;have hrun:(execOp a.eval o).run P w=.ok (.value (.pointer (some ⟨w.heap.size,0,none⟩))) (w.alloc (.cells (a.eval x).cells T)):=by
  simp[execOp,hop,Instr.box,newVar,newRow]
 rw[hrun,Oper.upon_value,hd];refine hK _ _ (h _ _ _ _ (hs'.set (t:=t) (d:=.ptr st.H.length 0) (bs:=[]) ht ?_ (by simp)));exact(wO.ptr st.H.length 0 w.heap.size (by simp[vL])).LA
theorem Qs{o:Oper}{T t:Nat}{zs:aK}(hop:o.op=.alloc T)(hd:o.dst=some t)(hg:o.guard=none)(ht:t<Γ.nt)
 (hz:tz P T=some zs) (h:AO P Γ all rest Q ⟨(t,.ptr st.H.length 0)::st.σ,st.H++[.box zs]⟩):AO P Γ all (o::rest) Q st:=by
 intro κ Θ a w hs;obtain⟨i,z,hi,vK,hsz,hlen,hone,rfl⟩:=uY hz;have hs':=hs.Sr T (cs:=z.cells) (zC z.cells.toList hone) (by simp);refine wpList_plain hg fun K hK=>?_
 unfold Oper.wp;have hrun:(execOp a.eval o).run P w=.ok (.value (.pointer (some ⟨w.heap.size,0,none⟩))) (w.alloc (.cells z.cells T)):=by
  simp[execOp,hop,Instr.alloc,zeroValue,typeInfo,hi,vK,newVar,newRow]
 rw[hrun,Oper.upon_value,hd];refine hK _ _ (h _ _ _ _ (hs'.set (t:=t) (d:=.ptr st.H.length 0) (bs:=[]) ht ?_ (by simp)));exact(wO.ptr st.H.length 0 w.heap.size (by simp[vL])).LA
theorem gi.setRow(hs:dM Γ st κ Θ a w){g:Nat}{cs:Array Value}{tag:Nat}(h2:2<=tag)(hg:Θ g=tag):gi w (w.setRow g cs) Θ Θ tag:=by
 refine⟨h2,rfl,rfl,rfl,by simp,fun b _ hne=>setRow_other w g b cs (fun e=>hne (e▸hg)),fun b _ _=>rfl,fun b hb=>?_⟩;simpa using hs.own b hb
theorem C6{T g off:Nat}{v:Value}{cur:Array Value}{e:TypeId}(hg:w.heap[g]?=some (.cells cur e (0,0)))(hsz:v.cells.size=wS P T)(G2:∃i,P.info? T=some i)
 (hfit:off+v.cells.size<=cur.size) (hone:∀c∈v.cells.toList,c.oneCell'=true):
 (Instr.storeAt T (.pointer (some ⟨g,off,none⟩)) v).run P w=.ok () (w.setRow g (cur.toList.take off++v.cells.toList++cur.toList.drop (off+v.cells.toList.length)).toArray):=by
 have:=run_storeCells_at P g off e v.cells.toList 0 cur w hg (by simpa using hfit) hone;simp only[w9]at this;simp[Instr.storeAt,Instr.sureAddr,storeVar,sJ G2,hsz,this]
def L9(P:Program)(t:TypeId):Bool:=(P.info? t).isSome
theorem Jb{o:Oper}{T id off:Nat}{x y:Operand}{cells ds:aK}(hop:o.op=.store T x y)
 (hx:st.ev x=.ptr id off) {ob:Ob} (hH:st.H[id]?=some ob) (yA:ob.Pg=some cells) (hc:(st.ev y).cellsOf=some ds) (hT:L9 P T=true) (hl:ds.length=wS P T) (hfit:off+ds.length<=cells.length) (hs:dM Γ st κ Θ a w):
 ∃w',(execOp a.eval o).run P w=.ok .skip w'/\dM Γ ⟨st.σ,st.H.set id (ob.re (cells.take off++ds++cells.drop (off+ds.length)))⟩ κ Θ a w':=by
 obtain⟨b1,r1,_⟩:=hs.ev x;obtain⟨b2,r2,SA⟩:=hs.ev y;rw[hx]at r1;obtain⟨g,hk,hv⟩:=r1.wJ;obtain⟨g',cs,Tb,hk',UG,hΘ,bs,qQ,hz⟩:=(hs.ob id _ hH).cs yA;rw[hk]at hk';cases hk';have hcs:=yj hs.mY r2 hc;have hl1:=hcs.length;have zw:=qQ.length;have hsz:(a.eval y).cells.size=wS P T:=by rw[<-hl,<-hl1];simp
 have hst:=C6 (P:=P) (T:=T) (off:=off) UG hsz (dZ.1 hT) (by
  have:(a.eval y).cells.size=ds.length:=by rw[<-hl1];simp
  have h3:cs.size=cells.length:=by rw[<-zw];simp
  omega) hcs.one
 have k:=gi.setRow hs (g:=g) (cs:=(cs.toList.take off++(a.eval y).cells.toList++cs.toList.drop (off+(a.eval y).cells.toList.length)).toArray) (tag:=id+2) (by omega) hΘ;have hrun:(execOp a.eval o).run P w=.ok .skip (w.setRow g (cs.toList.take off++(a.eval y).cells.toList++cs.toList.drop (off+(a.eval y).cells.toList.length)).toArray):=by
  simp only[execOp,hop,hv];simp[hst]
 refine⟨_,hrun,hs.change k hs.mine (tL.a1C yA (hs.ob id _ hH) (fun _ h=>h) ?_) (by cases ob<;>rfl)⟩;have e:cells=cells.take off++((cells.drop off).take ds.length++(cells.drop off).drop ds.length):=by rw[bp,bp]
 rw[e]at qQ;obtain⟨v1,v2,c1,c2,I0,rfl,k1,k2⟩:=qQ.split;obtain⟨v3,v4,c3,c4,rfl,rfl,k3,k4⟩:=k2.split;have l1:v1.length=off:=by rw[k1.length];simp;omega
 have l3:v3.length=ds.length:=by rw[k3.length];simp;omega
 have e1:cs.toList.take off=v1:=by rw[I0];exact gZ l1
 have e4:cs.toList.drop (off+(a.eval y).cells.toList.length)=v4:=by
  rw[I0,<-fp,fD l1,hl1];exact fD l3
 have hnew:eZ w κ (v1++(a.eval y).cells.toList++v4) (cells.take off++ds++cells.drop (off+ds.length)) ((c1++b2)++c4):=by
  rw[fp]at k4;exact(k1.app hcs).app k4
 have Ii:∀b∈((c1++b2)++c4),Θ b=0:=by
  intro b hb;simp only[aV]at hb;rcases hb with(hb|hb)|hb
  ·exact hz b (by simp[hb])
  ·exact SA b hb
  ·exact hz b (by simp[hb])
 obtain⟨h1,h2⟩:=eZ.stay k (fun _ _ h=>h) hnew Ii;refine⟨g,_,Tb,hk,setRow_heap w g cs _ Tb _ UG,hΘ,_,?_,h2⟩;rw[e1,e4]at h1⊢;exact h1
theorem R5{o:Oper}{T id off:Nat}{x y:Operand}{cells ds:aK}(hop:o.op=.store T x y)(hd:o.dst=none)(hg:o.guard=none)
 (hx:st.ev x=.ptr id off) {ob:Ob} (hH:st.H[id]?=some ob) (yA:ob.Pg=some cells) (hc:(st.ev y).cellsOf=some ds) (hT:L9 P T=true) (hl:ds.length=wS P T) (hfit:off+ds.length<=cells.length)
 (h:AO P Γ all rest Q ⟨st.σ,st.H.set id (ob.re (cells.take off++ds++cells.drop (off+ds.length)))⟩):AO P Γ all (o::rest) Q st:=by
 intro κ Θ a w hs;obtain⟨w',hrun,hs'⟩:=Jb hop hx hH yA hc hT hl hfit hs;refine wpList_plain hg fun K hK=>?_
 unfold Oper.wp;rw[hrun,Oper.upon_skip,hd];exact hK _ _ (h _ _ _ _ hs')
end
def D.LK:D->Bool
 | .acc _=>false
 | .ptr _ _=>false
 | .op _ _ _ _=>false
 |_=>true
def Ts(P:Program)(t:TypeId):Nat:=P.bytesOf t
theorem JS{α:Type}{l:List α}{i:Nat}{x:α}(h:l[i]?=some x):∃p q,l=p++x::q/\p.length=i:=by
 have hlt:=(aC.1 h).1;have hx:=(aC.1 h).2;refine⟨l.take i,l.drop (i+1),?_,by simp;omega⟩;rw[<-hx,zL,bp]
theorem Bn{rows:List aK}{sz i off:Nat}{row ds:aK}(hrl:∀r∈rows,r.length=sz)(hr:rows[i]?=some row)(hfit:off+ds.length<=sz):
 (rows.set i (row.take off++ds++row.drop (off+ds.length))).flatten=rows.flatten.take (i*sz+off)++ds++rows.flatten.drop (i*sz+off+ds.length):=by
 obtain⟨p,q,rfl,rfl⟩:=JS hr;have hrow:row.length=sz:=hrl row (by simp);have hp:p.flatten.length=p.length*sz:=mL (fun r hr=>hrl r (by simp[hr]));rw[qF _ _ (bJ _),nN,List.set_cons_zero];simp only[jk,eW];rw[<-hp,List.take_length_add_append,ni,List.drop_length_add_append,List.take_append_of_le_length (by omega),List.drop_append_of_le_length (by omega)];simp only[dJ]
theorem IE(z:Array Value)(n:Nat):(madeCells z (n*z.size)).toList=(List.replicate n z.toList).flatten:=by
 induction n with
 |zero=>simp[madeCells]
 |succ n ih=>
  rw[List.replicate_succ',jk,<-ih];apply nM;intro j;by_cases hz:z.size=0
  ·have:z= #[]:=Array.size_eq_zero_iff.1 hz;subst this;simp[madeCells]
  ·by_cases h1:j<n*z.size
   ·rw[ai (by simpa[madeCells]using h1)];have h2:j<(n+1)*z.size:=by rw[jA];omega
    simp[madeCells,h1,h2]
   ·rw[au (by simpa[madeCells]using h1)];by_cases h2:j<(n+1)*z.size
    ·rw[jA,kf]at h2;have hm:j%z.size=j-n*z.size:=by
      have hmc:=zN z.size n;have e:j=(j-n*z.size)+z.size*n:=by omega
      conv=>lhs;rw[e]
      rw[Nat.add_mul_mod_self_left,Nat.mod_eq_of_lt (by omega)]
     have h3:j-n*z.size<z.size:=by omega
     have h2':j<(n+1)*z.size:=by rw[jA,kf];exact h2
     simp[madeCells,h2',hm,h3]
    ·rw[cB (by simp[madeCells];omega),cB];rw[jA,kf]at h2;simp[madeCells];omega
section
variable{P:Program}{Γ:sQ}{Q:Exit->St->Prop}{st:St}{κ:Nat->Option Value}{Θ:Nat->Nat}{a:Act}{w:World}{all:Array Oper}{rest:List Oper}
theorem eZ.pure{vs:bW}{ds:aK}{bs:aP}(h:eZ w κ vs ds bs)(hp:ds.all D.LK=true):jx w vs ds bs:=by
 induction ds generalizing vs bs with
 |nil=>cases h;exact .nil
 |cons d ds ih=>
  simp only[dX,aR]at hp;cases h with
  |cons v vs _ _ b1 b2 h1 h2 h3=>
   refine .cons _ _ _ _ _ _ h1 ?_ (ih h3 hp.2);cases h2 with
   |pure h=>exact h
   |acc=>simp[D.LK]at hp
   |ptr=>simp[D.LK]at hp
   |op=>simp[D.LK]at hp
theorem jx.rep{vs:bW}{ds:aK}(h:jx w vs ds [])(m:Nat):jx w (List.replicate m vs).flatten (List.replicate m ds).flatten []:=by
 induction m with
 |zero=>exact .nil
 |succ m ih=>
  simp only[List.replicate_succ,eW];have:=h.app ih;simpa using this
def D.DS(d:D):D:=match d with
 | .nil=>.sl []
 |d=>d
theorem Rd.soft{v:Value}{d:D}{bs:aP}(h:Rd w v d bs):Rd w v d.DS bs:=by
 cases h with
 |nil=>exact .w8
 |any=>exact .any _
 |int _ _ h=>exact .int _ _ h
 |bool=>exact .bool _
 |str _ h=>exact .str _ h
 |val=>exact .val _
 |w8=>exact .w8
 |mD a cap h=>exact .mD a cap h
 |sl b off cap sz rows cs bs h0 h1 h2 h3 h4 h5=>exact .sl b off cap sz rows cs bs h0 h1 h2 h3 h4 h5
 |agg cs ds bs h=>exact .agg cs ds bs h
 |ep b off cs row o bs h0 h4 h5=>exact .ep b off cs row o bs h0 h4 h5
 |Pv=>exact .Pv
 |Pw t u=>exact .Pw t u
theorem jx.soft{vs:bW}{ds:aK}{bs:aP}(h:jx w vs ds bs):jx w vs (ds.map D.DS) bs:=by
 induction ds generalizing vs bs with
 |nil=>cases h;exact .nil
 |cons d ds ih=>cases h with|cons v vs _ _ b1 b2 h1 h2 h3=>exact .cons _ _ _ _ _ _ h1 h2.soft (ih h3)
def D.flat:D->Bool
 | .any=>true
 | .nil=>true
 | .int _ _=>true
 | .bool _=>true
 | .str _=>true
 | .val _=>true
 |_=>false
def PY(H:bL)(d:D):Option (D×aP):=match d with
 | .acc m=>(match(H[m]?).bind Ob.GF with|some (_,rows)=>some (.sl rows,[m])|none=>none)
 | .ptr _ _=>none
 | .op _ _ _ _=>none
 |d=>some (d.DS,[])
def Fb(H:bL):aK->Option (aK×aP)
 | []=>some ([],[])
 |d::ds=>match PY H d,Fb H ds with|some (e,m),some (es,ms)=>some (e::es,m++ms)|_,_=>none
def PM(H:bL)(d:D):Bool:=match d with
 | .acc m=>(match(H[m]?).bind Ob.GF with|some (k,_)=>(match k with| .uq=>true|_=>false)|none=>false)
 |d=>d.flat
def wK(b:Bool):RK:=match b with|true=>.uq|false=>.sh
theorem Ob.MJ(u:Bool)(e:TypeId)(sz:Nat)(rows:List aK):(Ob.row (wK u) e sz rows).ZZ=false:=by cases u<;>rfl
theorem Rd.flat{v:Value}{d:D}{bs:aP}(h:Rd w v d bs)(hf:d.flat=true):bs=[]:=by
 cases h<;>first|rfl|simp[D.flat]at hf
theorem LR{H:bL}{d e:D}{m:aP}(h:PY H d=some (e,m)):
 (∃m0 o k rows,d=.acc m0/\H[m0]?=some o/\o.GF=some (k,rows)/\e=.sl rows/\m=[m0])\/(d.LK=true/\(∀i,d≠ .acc i)/\e=d.DS/\m=[]):=by
 cases d with
 |acc m0=>
  simp only[PY]at h;split at h
  ·rename_i k rows hH;simp only[af,cG]at h;obtain⟨rfl,rfl⟩:=h;obtain⟨o,hH,ho⟩:=l6.1 hH;exact .inl ⟨m0,o,k,rows,rfl,hH,ho,rfl,rfl⟩
  ·cases h
 |ptr i o=>simp[PY]at h
 |op i j s o=>simp[PY]at h
 |_=>simp only[PY,af,cG]at h;obtain⟨rfl,rfl⟩:=h;exact .inr ⟨rfl,by simp,rfl,rfl⟩
theorem LS{H:bL}:∀ {ds es:aK} {ms:aP},Fb H ds=some (es,ms)->∀m∈ms,∃o k rows,H[m]?=some o/\o.GF=some (k,rows):=by
 intro ds
 induction ds with
 |nil=>intro es ms h;simp only[Fb,af,cG]at h;obtain⟨rfl,rfl⟩:=h;simp
 |cons d ds ih=>
  intro es ms h;simp only[Fb]at h;split at h
  ·rename_i e m es' ms' h1 h2;simp only[af,cG]at h;obtain⟨rfl,rfl⟩:=h;intro x hx;rcases aV.1 hx with hx|hx
   ·rcases LR h1 with⟨m0,o,k,dh,rfl,hH,hk,rfl,rfl⟩|⟨_,_,_,rfl⟩
    ·simp at hx;subst hx;exact⟨o,k,_,hH,hk⟩
    ·simp at hx
   ·exact ih h2 x hx
  ·cases h
theorem Mu{H:bL}{ρ:Nat->Nat}:∀ {ds es:aK} {ms:aP} {vs:bW} {b0:aP},Fb H ds=some (es,ms)->ms.Nodup->eZ w κ vs ds b0->(∀b∈b0,Θ b=0)->
 (∀m∈ms,∀o k rows,H[m]?=some o->o.GF=some (k,rows)->we κ Θ ρ w m k rows)->
 ∃bs,jx w vs es bs/\(∀b∈bs,Θ b=0)/\(ds.all (PM H)=true->bs.Nodup/\∀b∈bs,∃m∈ms,ρ b=m+1):=by
 intro ds
 induction ds with
 |nil=>
  intro es ms vs b0 h _ hr _ _;simp only[Fb,af,cG]at h;obtain⟨rfl,rfl⟩:=h;cases hr;exact⟨[],.nil,by simp,by simp⟩
 |cons d ds ih=>
  intro es ms vs b0 h hnd hr hz hm;simp only[Fb]at h;split at h
  ·rename_i e m es' ms' h1 h2;simp only[af,cG]at h;obtain⟨rfl,rfl⟩:=h;obtain⟨n1,n2,n3⟩:=bB.1 hnd;cases hr with
   |cons v vs _ _ b1 b2 hv hc hcs=>
    obtain⟨UE,q1,q2,q3⟩:=ih h2 n2 hcs (fun b hb=>hz b (by simp[hb])) (fun x hx=>hm x (by simp[hx]));have one:∃WD,Rd w v e WD/\(∀b∈WD,Θ b=0)/\(PM H d=true->WD.Nodup/\∀b∈WD,∃x∈m,ρ b=x+1):=by
     rcases LR h1 with⟨m0,o,k,dh,rfl,hH,hk,rfl,rfl⟩|⟨hp,hna,rfl,rfl⟩
     ·obtain⟨v',bs,r1,r2,r3,r4⟩:=hm m0 (by simp) o k dh hH hk;cases hc with
      |pure hc=>cases hc
      |acc _ _ hkv=>
       rw[hkv]at r1;cases r1;refine⟨bs,r2,r3,fun hq=>?_⟩;simp only[PM,hH,aA,hk]at hq;split at hq
       ·obtain⟨r5,r6⟩:=r4 rfl;exact⟨r5,fun b hb=>⟨m0,by simp,r6 b hb⟩⟩
       ·cases hq
     ·have hrd:Rd w v d b1:=by
       cases hc with
       |pure hc=>exact hc
       |acc i _ _=>exact absurd rfl (hna i)
       |ptr i o _ _=>simp[D.LK]at hp
       |op i j s o _ _ _ _ _=>simp[D.LK]at hp
      refine⟨b1,hrd.soft,fun b hb=>hz b (by simp[hb]),fun hq=>?_⟩;have hf:d.flat=true:=by
       unfold PM at hq;split at hq
       ·exact absurd rfl (hna _)
       ·exact hq
      rw[hrd.flat hf];exact⟨by simp,by simp⟩
    obtain⟨WD,p1,p2,p3⟩:=one;refine⟨WD++UE,.cons _ _ _ _ _ _ hv p1 q1,fun b hb=>?_,fun hq=>?_⟩
    ·rcases aV.1 hb with hb|hb
     ·exact p2 b hb
     ·exact q2 b hb
    ·simp only[dX,aR]at hq;obtain⟨p4,p5⟩:=p3 hq.1;obtain⟨q4,q5⟩:=q3 hq.2;refine⟨bB.2 ⟨p4,q4,fun x hx y hy exy=>?_⟩,fun b hb=>?_⟩
     ·subst exy;obtain⟨m1,hm1,e1⟩:=p5 x hx;obtain⟨m2,hm2,e2⟩:=q5 x hy;exact n3 m1 hm1 m2 hm2 (by omega)
     ·rcases aV.1 hb with hb|hb
      ·obtain⟨x,hx,ex⟩:=p5 b hb;exact⟨x,by simp[hx],ex⟩
      ·obtain⟨x,hx,ex⟩:=q5 b hb;exact⟨x,by simp[hx],ex⟩
  ·cases h
theorem dM.put(hs:dM Γ st κ Θ a w){H':bL}{κ':Nat->Option Value}{Θ' ρ:Nat->Nat}{w':World}{id:Nat}{o:Ob}(ms:aP)
 (key:∀(j:Nat) x,H'[j]?=some x->(j=id/\x=o)\/(j≠id/\st.H[j]?=some x)) (hn:∀(j:Nat) v,κ j=some v->κ' j=some v)
 (hko:∀i,H'.length<=i->κ' i=none) (hk1:∀(i:Nat) u,κ' i=some u->u.oneCell'=true) (k:gi w w' Θ Θ' (id+2)) (hm:∀b,2<=Θ' b->wB Γ b) (ho:tL w' κ' Θ' id o)
 (hu:wh Γ st.H κ Θ w ρ) (Iu:∀m∈ms,∀x,m≠id->st.H[m]?=some x->x.QW=false)
 (hq:∀e sz rows,o=.row .uq e sz rows->∃v cs bs,κ' id=some v/\w'.ownsRow 0 e sz v rows.length cs/\jx w' cs rows.flatten bs/\bs.Nodup/\∀b∈bs,ρ b=id+1\/∃m∈ms,ρ b=m+1)
 (hmv:o.ZZ=false:=by first|rfl|exact Ob.MJ _ _ _ _):
 dM Γ ⟨st.σ,H'⟩ κ' Θ' a w':=by
 have qR:=hs.lf k hn hu;let ρ':Nat->Nat:=fun b=>if ms.any (fun m=>ρ b==m+1)then id+1 else ρ b
 have a3n:∀b,ρ' b≠0->ρ b≠0:=by
  intro b hb h0;simp only[ρ',h0]at hb;split at hb
  ·rename_i h;obtain⟨m,_,hm⟩:=cT.1 h;simp at hm
  ·exact hb rfl
 refine hs.step k hm hn hko hk1 ?_ ⟨ρ',fun b hb=>qR.1 b (a3n b hb),?_,?_⟩
 ·intro j x hj;rcases key j x hj with⟨rfl,rfl⟩|⟨h1,h2⟩
  ·exact .inr (.inr ho)
  ·exact .inr (.inl ⟨by omega,h2⟩)
 ·intro j e sz rows hj;rcases key j _ hj with⟨rfl,ho'⟩|⟨h1,h2⟩
  ·obtain⟨v,cs,bs,q1,q2,q3,q4,q5⟩:=hq e sz rows ho'.symm;refine⟨v,cs,bs,q1,q2,q3,q4,fun b hb=>?_⟩;simp only[ρ'];split
   ·rfl
   ·rename_i hno;rcases q5 b hb with h|⟨m,hm1,hm2⟩
    ·exact h
    ·exact absurd (cT.2 ⟨m,hm1,by simp[hm2]⟩) hno
  ·obtain⟨v,cs,bs,q1,q2,q3,q4,q5⟩:=qR.2.1 j e sz rows (by omega) h2;refine⟨v,cs,bs,q1,q2,q3,q4,fun b hb=>?_⟩;simp only[ρ'];rw[av]
   ·exact q5 b hb
   ·intro h;obtain⟨m,hm1,hm2⟩:=cT.1 h;simp only[q5 b hb,cO]at hm2;have:j=m:=by omega
    subst this;have:=Iu j hm1 _ h1 h2;simp[Ob.QW]at this
 ·intro j x hj;rcases key j _ hj with⟨rfl,rfl⟩|⟨h1,h2⟩
  ·exact Gl.vb hmv
  ·by_cases hx:x.QW=false
   ·exact Gl.plain hx
   ·refine(qR.2.2 j x (by omega) h2).re fun b hb=>?_
    simp only[ρ'];rw[av]
    ·exact hb
    ·intro h;obtain⟨m,hm1,hm2⟩:=cT.1 h;simp only[hb,cO]at hm2;have:j=m:=by omega
     subst this;exact hx (Iu j hm1 _ h1 h2)
theorem zD{H:bL}{o:Ob}:∀(j:Nat) x,(H++[o])[j]?=some x->(j=H.length/\x=o)\/(j≠H.length/\H[j]?=some x):=by
 intro j x hj;by_cases hlt:j<H.length
 ·rw[ai hlt]at hj;exact .inr ⟨by omega,hj⟩
 ·have hj':=(aC.1 hj).1;simp only[b8,aQ,bS]at hj';have e:j=H.length:=by omega
  subst e;rw[au (bJ _)]at hj;simp at hj;exact .inl ⟨rfl,hj.symm⟩
theorem wL{H:bL}{o:Ob}{id:Nat}:∀(j:Nat) x,(H.set id o)[j]?=some x->(j=id/\x=o)\/(j≠id/\H[j]?=some x):=by
 intro j x hj;by_cases e:id=j
 ·subst e;have hlt:id<H.length:=by
   have:=(aC.1 hj).1;simpa using this
  rw[cz hlt]at hj;cases hj;exact .inl ⟨rfl,rfl⟩
 ·rw[bq e]at hj;exact .inr ⟨fun h=>e h.symm,hj⟩
theorem dM.newRow(hs:dM Γ st κ Θ a w){ρ:Nat->Nat}(hu:wh Γ st.H κ Θ w ρ){u:Bool}{ms:aP}{e sz cap:Nat}{rows:List aK}{bs:aP}(cur:Array Value)(hsz:0<sz)(hrl:∀r∈rows,r.length=sz)
 (Hw:cur.size=cap*sz) (hn:rows.length<=cap) (hcap:cap<=maxLen) (hr:jx w (cur.toList.take (rows.length*sz)) rows.flatten bs) (hz:∀b∈bs,Θ b=0)
 (Iu:∀m∈ms,∀x,st.H[m]?=some x->x.QW=false) (hq:u=true->bs.Nodup/\∀b∈bs,∃m∈ms,ρ b=m+1):
 dM Γ ⟨st.σ,st.H++[.row (wK u) e sz rows]⟩ (vL κ st.H.length (some (.slice (some ⟨w.heap.size,0,none⟩) rows.length cap))) (fun b=>if b=w.heap.size then st.H.length+2 else Θ b) a (w.alloc (.cells cur e)):=by
 have k:=gi.alloc hs (.cells cur e) (tag:=st.H.length+2) (by omega);obtain⟨h1,h2⟩:=jx.over k hr hz;have hlen:(cur.toList.take (rows.length*sz)).length=rows.length*sz:=by
  have:rows.length*sz<=cap*sz:=dD _ hn;have h3:cur.toList.length=cap*sz:=by rw[<-Hw];simp
  rw[cD,h3,eS this]
 have hown:(w.alloc (.cells cur e)).ownsRow 0 e sz (.slice (some ⟨w.heap.size,0,none⟩) rows.length cap) rows.length (cur.toList.take (rows.length*sz)):=
  ⟨hlen,.inr ⟨w.heap.size,cap,cur,rfl,by omega,heap_alloc_new w _,hn,hcap,Hw,rfl⟩⟩
 refine hs.put ms zD (ug (hs.nB _ (bJ _)) _) ?_ ?_ k (hs.wQ (fun b hb=>by by_cases e:b=w.heap.size<;>simp_all)) ?_ hu (fun m hm x _=>Iu m hm x) ?_
 ·intro i hi;simp only[b8,aQ,bS]at hi;unfold vL;rw[av (by omega)];exact hs.nB i (by omega)
 ·intro i x hx;unfold vL at hx;split at hx
  ·cases hx;rfl
  ·exact hs.mY i x hx
 ·refine⟨hsz,hrl,_,_,bs,by simp[vL],hown,h1,?_,?_⟩
  ·intro g hg;simp only[Value.ownBlock,af]at hg;subst hg;simp
  ·cases u<;>exact h2
 ·intro e' sz' dh he;cases u with
  |false=>simp[wK]at he
  |true=>
   simp only[wK,Ob.row.injEq,pN]at he;obtain⟨rfl,rfl,rfl⟩:=he;obtain⟨q1,q2⟩:=hq rfl;exact⟨_,_,bs,by simp[vL],hown,h1,q1,fun b hb=>.inr (q2 b hb)⟩
theorem Jo{o:Oper}{T e sz t:Nat}{x y:Operand}{k k':IntKind}{n:Int}{zs:aK}(hop:o.op=.makeSlice T x y)(hd:o.dst=some t)(hg:o.guard=none)(ht:t<Γ.nt)
 (hT:CP P T=some (e,sz)) (hz:tz P e=some zs) (hsz:0<sz) (hx:st.ev x=.int k n) (hy:st.ev y=.int k' n) (h0:0<=n) (hroom:Ts P e*n.toNat<=281474976710656) (E5:n.toNat<=4611686018427387904)
 (h:AO P Γ all rest Q ⟨(t,.acc st.H.length)::st.σ,st.H++[.row .uq e sz (List.replicate n.toNat (zs.map D.DS))]⟩):AO P Γ all (o::rest) Q st:=by
 intro κ Θ a w hs;obtain⟨b1,r1,_⟩:=hs.ev x;obtain⟨b2,r2,_⟩:=hs.ev y;rw[hx]at r1;rw[hy]at r2;have e1:=r1.oC;have e2:=r2.oC;obtain⟨hu,_,Ev⟩:=mZ hT;obtain⟨i,z,hi,vK,KH,hlen,hone,rfl⟩:=uY hz;have zv:i.size=sz:=by rw[<-Ev];simp[wS,Program.cellsOf,hi]
 have hby:i.bytes=Ts P e:=by simp[Ts,Program.bytesOf,hi]
 obtain⟨m,rfl⟩:=oF h0;simp only[tH]at hroom E5 h;have hrun:=run_make (P:=P) w T e i z hu hi vK k k' m m (by omega) (by omega) (by rw[hby];have:=Int.ofNat_le.2 hroom;rw[Int.natCast_mul]at this;exact this) (by omega);simp only[tH]at hrun;rw[<-KH]at hrun;have Ru:=IE z.cells m;obtain⟨ρ,huq⟩:=hs.qf;have hs':=hs.newRow huq (u:=true) (ms:=[]) (e:=e) (sz:=sz) (cap:=m) (rows:=List.replicate m ((z.cells.toList.map D.Nf).map D.DS)) (bs:=[]) (madeCells z.cells (m*z.cells.size)) hsz
  (by intro r hr;rw[yF hr];simp[KH,zv]) (by rw[size_madeCells,KH,zv]) (by simp) (by unfold maxLen;omega)
  (by
   rw[AR,om (by simp[size_madeCells,KH,zv]),Ru];have hcell:=(zC (w:=w) (κ:=κ) z.cells.toList hone).pure (by
    rw[EE,aj];intro c _;simp only[Function.comp];unfold D.Nf;split<;>(try split)<;>rfl)
   exact hcell.soft.rep m) (by simp) (by simp) (by simp)
 refine wpList_plain hg fun K hK=>?_
 unfold Oper.wp;have M4:(execOp a.eval o).run P w=.ok (.value (.slice (some ⟨w.heap.size,0,none⟩) m m)) (w.alloc (.cells (madeCells z.cells (m*z.cells.size)) e)):=by
  simp only[execOp,hop,e1,e2];simp[hrun]
 rw[M4,Oper.upon_value,hd];simp only[AR]at hs';refine hK _ _ (h _ _ _ _ (hs'.set (t:=t) (d:=.acc st.H.length) (bs:=[]) ht ?_ (by simp)));exact(wO.acc st.H.length _ (by simp[vL])).LA
def qC(len sz:Nat):List (Nat×Nat):=(List.range len).map fun i=>(i*sz,sz)
def chunk(sz:Nat):Nat->aK->List aK
 |0,_=>[]
 |n+1,ds=>ds.take sz::chunk sz n (ds.drop sz)
theorem BC(sz:Nat):∀(n:Nat) (ds:aK),ds.length=n*sz->(chunk sz n ds).length=n/\(chunk sz n ds).flatten=ds/\∀r∈chunk sz n ds,r.length=sz:=by
 intro n
 induction n with
 |zero=>intro ds h;simp at h;subst h;simp[chunk]
 |succ n ih=>
  intro ds h;rw[jA,kf]at h;obtain⟨h1,h2,h3⟩:=ih (ds.drop sz) (by rw[rC];omega);refine⟨by simp[chunk,h1],by simp[chunk,h2],fun r hr=>?_⟩;rcases bA.1 hr with rfl|hr
  ·rw[cD];omega
  ·exact h3 r hr
theorem NC{len sz:Nat}:∀(parts:List (Nat×Value)) (cs arr:Array Value),Instr.fill ((qC len sz).toArray[·]?) cs parts=some arr->Instr.fill (fun i=>some (i*sz,sz)) cs parts=some arr:=by
 intro parts
 induction parts with
 |nil=>intro cs arr h;exact h
 |cons p parts ih=>
  intro cs arr h;obtain⟨i,v⟩:=p;simp only[Instr.fill]at h⊢;split at h
  ·cases h
  ·rename_i off size hp;have e:(off,size)=(i*sz,sz):=by
    simp only[qC,iM,bU]at hp;cases hr:(List.range len)[i]? with
    |none=>simp[hr]at hp
    |some j=>
     have hj:=(aC.1 hr)
     simp only[hr,cF,af]at hp;have:j=i:=by have:=hj.2;simp at this;omega
     rw[<-hp,this]
   cases e;split at h
   ·cases h
   ·rename_i hc;rw[av hc];exact ih _ _ h
theorem Kk{places:List (Nat×Nat)}:∀(ps:List (Nat×D)) (cells ds:aK),vD places cells ps=some ds->ds.length=cells.length:=by
 intro ps
 induction ps with
 |nil=>intro cells ds h;simp only[vD,af]at h;rw[h]
 |cons p ps ih=>
  intro cells ds h;obtain⟨i,d⟩:=p;simp only[vD]at h;split at h
  ·split at h
   ·rename_i hc;rw[ih _ _ h];simp;omega
   ·cases h
  ·cases h
theorem wk{o:Oper}{T e sz len:Nat}{parts:Array (Nat×Operand)}{zs ds:aK}(hop:o.op=.buildSlice T len parts)
 (hT:CP P T=some (e,sz)) (hz:tz P e=some zs) (hsz:0<sz) (hsmall:len*sz<=16777216)
 (hf:vD (qC len sz) (List.replicate len zs).flatten (parts.toList.map fun p=>(p.1,st.ev p.2))=some ds) (hs:dM Γ st κ Θ a w):
 ∃(arr:Array Value) (b0:aP),(execOp a.eval o).run P w=.ok (.value (.slice (some ⟨w.heap.size,0,none⟩) len len)) (w.alloc (.cells arr e))/\eZ w κ arr.toList ds b0/\(∀b∈b0,Θ b=0)/\arr.size=len*sz/\ds.length=len*sz:=by
 obtain⟨hu,_,Ev⟩:=mZ hT;obtain⟨i,z,hi,vK,KH,hlen,hone,rfl⟩:=uY hz;have zv:i.size=sz:=by rw[<-Ev];simp[wS,Program.cellsOf,hi]
 have Ru:=IE z.cells len;have hzero:eZ w κ (madeCells z.cells (len*z.cells.size)).toList (List.replicate len (z.cells.toList.map D.Nf)).flatten []:=by
  rw[Ru];have hcell:=(zC (w:=w) (κ:=κ) z.cells.toList hone).pure (by
   rw[EE,aj];intro c _;simp only[Function.comp];unfold D.Nf;split<;>(try split)<;>rfl)
  exact eZ.AN (hcell.rep len)
 obtain⟨arr,b0,a05,Ir,hb0⟩:=Oe hs parts.toList _ _ ds [] hzero (by simp) hf;have NI:=NC _ _ _ a05;have hdl:ds.length=len*sz:=by
  rw[Kk _ _ _ hf,mL (sz:=sz) (by intro r hr;rw[yF hr];simp[KH,zv])];simp
 have hal:arr.size=len*sz:=by have:=Ir.length;simp at this;omega
 refine⟨arr,b0,?_,Ir,hb0,hal,hdl⟩;simp only[execOp,hop];by_cases h0:len*i.size=0
 ·have hl0:len=0:=by
   rw[zv]at h0;rcases Nat.mul_eq_zero.1 h0 with h|h
   ·exact h
   ·omega
  subst hl0;have hma:madeCells z.cells (0*z.cells.size)= #[]:=by simp[madeCells]
  rw[hma]at NI;have hpe:(parts.map fun(x:Nat×Operand)=>(x.1,a.eval x.2)).toList=parts.toList.map fun p=>(p.1,a.eval p.2):=by simp
  have Xo:=NI;rw[<-hpe,<-zv]at Xo;simp at Xo;have hr0:Array.range 0= #[]:=rfl;simp[Instr.buildSlice,run_underlying hu,sizeOf,typeInfo,hi,newRow,hr0,Xo]
 ·have hpe:(parts.map fun(x:Nat×Operand)=>(x.1,a.eval x.2)).toList=parts.toList.map fun p=>(p.1,a.eval p.2):=by simp
  have:=run_buildSlice (P:=P) w T e len (parts.map fun(x:Nat×Operand)=>(x.1,a.eval x.2)) arr i z hu hi vK (by rw[zv];omega) h0 (by
   rw[hpe,zv];have e2:(Array.range (len*sz)).map (z.cells[· %z.cells.size]!)=madeCells z.cells (len*z.cells.size):=by unfold madeCells;rw[KH,zv]
   rw[e2];exact NI)
  simp[this]
theorem Il{o:Oper}{T e sz len t:Nat}{parts:Array (Nat×Operand)}{zs ds es:aK}{ms:aP}(hop:o.op=.buildSlice T len parts)(hd:o.dst=some t)(hg:o.guard=none)(ht:t<Γ.nt)
 (hT:CP P T=some (e,sz)) (hz:tz P e=some zs) (hsz:0<sz) (hsmall:len*sz<=16777216)
 (hf:vD (qC len sz) (List.replicate len zs).flatten (parts.toList.map fun p=>(p.1,st.ev p.2))=some ds) (habs:Fb st.H ds=some (es,ms)) (hnd:ms.Nodup)
 (h:AO P Γ all rest Q ⟨(t,.acc st.H.length)::st.σ,kill st.H ms++[.row (wK (ds.all (PM st.H))) e sz (chunk sz len es)]⟩):AO P Γ all (o::rest) Q st:=by
 intro κ Θ a w hs;obtain⟨arr,b0,hrun,Ir,hb0,hal,hdl⟩:=wk hop hT hz hsz hsmall hf hs;obtain⟨ρ,huq⟩:=hs.qf;obtain⟨Θ1,ρ1,hs1,hu1,hm1,KG,Qm⟩:=dM.MI ms hs huq hnd (LS habs);obtain⟨bs,q1,q2,q3⟩:=Mu (H:=st.H) (ρ:=ρ1) habs hnd Ir (fun b hb=>KG b (hb0 b hb)) hm1;have hel:es.length=len*sz:=by rw[<-q1.length,Ir.length,hdl]
 obtain⟨c1,c2,c3⟩:=BC sz len es hel;have hs':=hs1.newRow hu1 (u:=ds.all (PM st.H)) (ms:=ms) (e:=e) (sz:=sz) (cap:=len) (rows:=chunk sz len es) (bs:=bs) arr hsz c3 hal (by rw[c1];exact bJ _)
  (by unfold maxLen;have:len*1<=len*sz:=dR _ hsz;omega) (by rw[c1,c2,om (by simp[hal])];exact q1) q2
  (by
   intro m hm x hH;rcases ld hH with h|⟨h,_⟩
   ·subst h;rfl
   ·exact absurd hm h) q3
 refine wpList_plain hg fun K hK=>?_
 unfold Oper.wp;rw[hrun,Oper.upon_value,hd];rw[c1,ey]at hs';refine hK _ _ (h _ _ _ _ (hs'.set (t:=t) (d:=.acc st.H.length) (bs:=[]) ht ?_ (by simp)));exact(wO.acc st.H.length _ (by simp[vL])).LA
end
end Go.Cx
namespace Go.Cx
open Go.RowKit
section
variable{P:Program}{Γ:sQ}{Q:Exit->St->Prop}{st:St}{κ:Nat->Option Value}{Θ:Nat->Nat}{a:Act}{w:World}{all:Array Oper}{rest:List Oper}
theorem HA(w:World)(t ty e:TypeId)(i:TypeInfo)(ht:P.underlying t=some (.slice e))(hi:P.info? e=some i)(b:Option Addr)(n cap:Nat)(hn:n<=cap):
 (Builtin.append_ #[t,t] ty #[.slice b n cap,.slice none 0 0]).run P w=.ok (.slice b n cap) w:=by
 cases b<;>simp[Builtin.append_,run_underlying ht,sizeOf,typeInfo,hi,Builtin.lenOf,Builtin.firstCells,hn,storeCells]
structure R7(w:World)(Θ ρ:Nat->Nat)(e sz:Nat)(v:Value)(rows:List (List D))(u1:Bool)(i1:Nat)(bs:List Nat)(cs:List Value):Prop where
 rl:∀r∈rows,r.length=sz
 own:w.ownsRow 0 e sz v rows.length cs
 rd:jx w cs rows.flatten bs
 zero:∀b∈bs,Θ b=0
 top:∀g,v.ownBlock=some g->Θ g=i1+2
 uq:u1=true->bs.Nodup/\∀b∈bs,ρ b=i1+1
structure PW(w:World)(Θ ρ:Nat->Nat)(sz:Nat)(u:Value)(rows:List (List D))(u2:Bool)(i2:Nat)(bs:List Nat)(cs:List Value):Prop where
 rl:∀r∈rows,r.length=sz
 at_:(u=.slice none 0 0/\rows=[])\/∃ad c,u=.slice (some ad) rows.length c/\∀j x,cs[j]?=some x->w.cell? (ad.add j)=some x
 rd:jx w cs rows.flatten bs
 zero:∀b∈bs,Θ b=0
 uq:u2=true->bs.Nodup/\∀b∈bs,ρ b=i2+1
theorem Mx{T e sz i1 i2:Nat}{v u:Value}{rows fN:List aK}{u1 u2:Bool}{b1 b2:aP}{c1 c2:bW}{ρ:Nat->Nat}{zs:aK}{ty:TypeId}(hT:CP P T=some (e,sz))(hz:tz P e=some zs)(hsz:0<sz)
 (hS:R7 w Θ ρ e sz v rows u1 i1 b1 c1) (hX:PW w Θ ρ sz u fN u2 i2 b2 c2) (h63:rows.length+fN.length<=maxLen) (hby:(rows.length+fN.length)*Ts P e<=140737488355328):
 ∃v' w',(Builtin.append_ #[T,T] ty #[v,u]).run P w=.ok v' w'/\w'.ownsRow 0 e sz v' (rows++fN).length (c1++c2)/\w.grownBy w' v.ownBlock/\(v'.ownBlock=v.ownBlock\/v'.ownBlock=some w.heap.size)/\
  jx w (c1++c2) (rows++fN).flatten (b1++b2):=by
 obtain⟨hu,_,Ev⟩:=mZ hT;obtain⟨i,z,hi,vK,KH,hlen,hone,rfl⟩:=uY hz;have zv:i.size=sz:=by rw[<-Ev];simp[wS,Program.cellsOf,hi]
 have hib:i.bytes=Ts P e:=by simp[Ts,Program.bytesOf,hi]
 have hr:jx w (c1++c2) (rows++fN).flatten (b1++b2):=by rw[jk];exact hS.rd.app hX.rd
 have K9:c2.length=fN.length*sz:=by rw[hX.rd.length,mL hX.rl]
 rcases hX.at_ with⟨rfl,rfl⟩|⟨ad,c,rfl,hcell⟩
 ·have hc:c2=[]:=cI (by simpa using K9);subst hc;have hv:∃b n cap,v=.slice b n cap/\n<=cap:=by
   rcases hS.own.2 with⟨rfl,_⟩|⟨g,cap,cur,rfl,_,_,hn,_⟩
   ·exact⟨_,_,_,rfl,bJ _⟩
   ·exact⟨_,_,_,rfl,hn⟩
  obtain⟨b,n,cap,rfl,hn⟩:=hv;exact⟨_,w,HA w T ty e i hu hi b n cap hn,by simpa using hS.own,⟨rfl,rfl,rfl,bJ _,fun _ _ _=>rfl⟩,.inl rfl,hr⟩
 ·obtain⟨v',w',q1,q2,q3,_,q5⟩:=run_append_own_at (P:=P) w 0 T ty e i z sz (Ts P e) hu hi vK zv hib (by rw[KH,zv]) hsz v rows.length c1 hS.own ad fN.length c c2 K9 hcell hX.rd.one h63 hby (B5 _);exact⟨v',w',q1,by simpa using q2,q3,q5,hr⟩
theorem PS{o:Oper}{T e sz t:Nat}{s x:Operand}{rows fN:List aK}{zs:aK}{u:Bool}{ks:aP}(hop:o.op=.call {callee:=.builtin .append,args:= #[s,x],argTypes:= #[T,T]})
 (hd:o.dst=some t) (hg:o.guard=none) (ht:t<Γ.nt) (hT:CP P T=some (e,sz)) (hz:tz P e=some zs) (hsz:0<sz)
 (h63:rows.length+fN.length<=maxLen) (hby:(rows.length+fN.length)*Ts P e<=140737488355328)
 (hin:∀κ Θ a w ρ,dM Γ st κ Θ a w->wh Γ st.H κ Θ w ρ->∃u1 u2 i1 i2 b1 b2 c1 c2,R7 w Θ ρ e sz (a.eval s) rows u1 i1 b1 c1/\PW w Θ ρ sz (a.eval x) fN u2 i2 b2 c2/\
  (i1∈ks\/i1=st.H.length)/\(u=true->u1=true/\u2=true/\(b2=[]\/(i2∈ks/\i1≠i2))))
 (h:AO P Γ all rest Q ⟨(t,.acc st.H.length)::st.σ,kill st.H ks++[.row (wK u) e sz (rows++fN)]⟩):AO P Γ all (o::rest) Q st:=by
 intro κ Θ a w hs;obtain⟨ρ,hu⟩:=hs.qf;obtain⟨u1,u2,i1,i2,b1,b2,c1,c2,hS,hX,hi1,hq⟩:=hin κ Θ a w ρ hs hu;obtain⟨v',w',hrun,hown,ZU,Uu,hrd⟩:=Mx (P:=P) (ty:=o.type) hT hz hsz hS hX h63 hby;refine wpList_plain hg fun K hK=>?_
 have M4:(execOp a.eval o).run P w=.ok (.value v') w':=by
  simp only[execOp,hop,resolve,invoke,builtin,Sem.run_bind,Sem.run_pure,Result.andThen_ok,mN,bO,cA,hrun]
 unfold Oper.wp;rw[M4,Oper.upon_value,hd];let id:=st.H.length
 let Θ':Nat->Nat:=fun b=>if some b=v'.ownBlock then id+2 else Θ b
 have UK:∀g,v'.ownBlock=some g->Θ g=i1+2\/g=w.heap.size:=by
  intro g Pq;rcases Uu with h|h
  ·exact .inl (hS.top g (h▸Pq))
  ·rw[h]at Pq;cases Pq;exact .inr rfl
 have hnew:Θ w.heap.size=0:=by
  cases h0:Θ w.heap.size with
  |zero=>rfl
  |succ n=>exact absurd (hs.own w.heap.size (by omega)) (by omega)
 have k:gi w w' Θ Θ' (i1+2):=by
  refine⟨by omega,ZU.os,ZU.tape,ZU.output,ZU.size,fun b hb hne=>ZU.block b hb (fun e=>hne (hS.top b e.symm)),fun b hb hne=>?_,fun b hb=>?_⟩
  ·simp only[Θ'];rw[av];intro e;rcases UK b e.symm with h|h
   ·exact hne h
   ·omega
  ·simp only[Θ']at hb;split at hb
   ·rename_i e;exact(hown.lt b e.symm).2
   ·exact cw (hs.own b hb) ZU.size
 have hm:∀b,2<=Θ' b->wB Γ b:=by
  intro b hb;simp only[Θ']at hb;split at hb
  ·rename_i e;rcases UK b e.symm with h|h
   ·exact hs.mine b (by omega)
   ·exact .inl (by rw[h];exact hs.base)
  ·exact hs.mine b hb
 have hn:=ug (hs.nB id (bJ _)) (some v');have hv1:v'.oneCell'=true:=by
  rcases hown.2 with⟨rfl,_⟩|⟨g,cap,cur,rfl,_⟩<;>rfl
 have vK:∀b∈b1++b2,Θ b=0:=by
  intro b hb;rcases aV.1 hb with hb|hb
  ·exact hS.zero b hb
  ·exact hX.zero b hb
 obtain⟨Hz,Ii⟩:=jx.over k hrd vK;have hrl:∀r∈rows++fN,r.length=sz:=by
  intro r hr;rcases aV.1 hr with hr|hr
  ·exact hS.rl r hr
  ·exact hX.rl r hr
 have Bv:∀g,v'.ownBlock=some g->Θ' g=id+2:=fun g Pq=>by simp only[Θ'];rw[bE Pq.symm]
 have key:∀(j:Nat) y,(kill st.H ks++[.row (wK u) e sz (rows++fN)])[j]?=some y->(j=id/\y=.row (wK u) e sz (rows++fN))\/(j≠id/\(y=.gone\/(j∉ks/\st.H[j]?=some y))):=by
  intro j y hj;rcases zD j y hj with⟨h1,h2⟩|⟨h1,h2⟩
  ·rw[ey]at h1;exact .inl ⟨h1,h2⟩
  ·rw[ey]at h1;exact .inr ⟨h1,ld h2⟩
 have hne:∀(j:Nat) y,j∉ks->st.H[j]?=some y->j+2≠i1+2:=by
  intro j y hj hy;have:=(aC.1 hy).1;rcases hi1 with h|h
  ·intro e;exact hj (by
    have:j=i1:=by omega
    rw[this];exact h)
  ·omega
 have qR:=hs.lf k hn hu;let ρ':Nat->Nat:=fun b=>if u=true/\(b∈b1\/b∈b2)then id+1 else ρ b
 have hold:∀(j:Nat) y,j∉ks->st.H[j]?=some y->∀b,ρ b=j+1->ρ' b=j+1:=by
  intro j y hjk hy b hb;simp only[ρ'];rw[av]
  ·exact hb
  ·rintro⟨tj,hmem⟩;obtain⟨p1,p2,p3⟩:=hq tj;rcases hmem with h|h
   ·have:=(hS.uq p1).2 b h;exact hne j _ hjk hy (by omega)
   ·have:=(hX.uq p2).2 b h;rcases p3 with h0|⟨h0,_⟩
    ·rw[h0]at h;cases h
    ·have:j=i2:=by omega
     subst this;exact hjk h0
 have hU:wh Γ (kill st.H ks++[.row (wK u) e sz (rows++fN)]) (vL κ id (some v')) Θ' w' ρ':=by
  refine⟨fun b hb=>?_,fun j e' sz' dh hj=>?_,fun j x hj=>?_⟩
  ·simp only[ρ']at hb;split at hb
   ·rename_i hc;obtain⟨tj,hmem⟩:=hc;obtain⟨q1,q2,q3⟩:=hq tj;rcases hmem with h|h
    ·exact qR.1 b (by rw[(hS.uq q1).2 b h];omega)
    ·exact qR.1 b (by rw[(hX.uq q2).2 b h];omega)
   ·exact qR.1 b hb
  ·rcases key j _ hj with⟨rfl,hy⟩|⟨_,hy|⟨hjk,hy⟩⟩
   ·cases tj:u with
    |false=>rw[tj]at hy;simp[wK]at hy
    |true=>
     rw[tj]at hy;simp only[wK,Ob.row.injEq,pN]at hy;obtain⟨rfl,rfl,rfl⟩:=hy;obtain⟨q1,q2,q3⟩:=hq tj;refine⟨v',c1++c2,b1++b2,ji _ _ _,hown,Hz,?_,fun b hb=>?_⟩
     ·obtain⟨n1,r1⟩:=hS.uq q1;obtain⟨n2,r2⟩:=hX.uq q2;refine bB.2 ⟨n1,n2,fun y hy z hz hyz=>?_⟩;subst hyz;rcases q3 with h|⟨_,h⟩
      ·rw[h]at hz;cases hz
      ·have:=r1 y hy;have:=r2 y hz;omega
     ·simp only[ρ'];rw[bE ⟨tj,aV.1 hb⟩]
   ·cases hy
   ·obtain⟨v2,cs,bs,q1,q2,q3,q4,q5⟩:=qR.2.1 j e' sz' dh (hne j _ hjk hy) hy;exact⟨v2,cs,bs,q1,q2,q3,q4,fun b hb=>hold j _ hjk hy b (q5 b hb)⟩
  ·rcases key j _ hj with⟨rfl,hy⟩|⟨_,hy|⟨hjk,hy⟩⟩
   ·subst hy;exact Gl.vb (Ob.MJ _ _ _ _)
   ·subst hy;trivial
   ·exact(qR.2.2 j x (hne j _ hjk hy) hy).re fun b hb=>hold j _ hjk hy b hb
 have hs':dM Γ ⟨st.σ,kill st.H ks++[.row (wK u) e sz (rows++fN)]⟩ (vL κ id (some v')) Θ' a w':=by
  refine hs.step k hm hn ?_ ?_ ?_ ⟨ρ',hU⟩
  ·intro i hi;simp only[b8,aQ,bS,ey]at hi;unfold vL;rw[av (by omega)];exact hs.nB i (by omega)
  ·intro i y hy;unfold vL at hy;split at hy
   ·cases hy;exact hv1
   ·exact hs.mY i y hy
  ·intro j y hj;rcases key j y hj with⟨rfl,rfl⟩|⟨_,hy|⟨hjk,hy⟩⟩
   ·exact .inr (.inr ⟨hsz,hrl,v',_,_,ji _ _ _,hown,Hz,Bv,by cases u<;>exact Ii⟩)
   ·exact .inl hy
   ·exact .inr (.inl ⟨hne j y hjk hy,hy⟩)
 refine hK _ _ (h _ _ _ _ (hs'.set (t:=t) (d:=.acc id) (bs:=[]) ht ?_ (by simp)));exact(wO.acc id _ (ji _ _ _)).LA
def D.oX(rows:List aK):Bool:=rows.all fun r=>r.all D.flat
theorem jx.flat{vs:bW}{ds:aK}{bs:aP}(h:jx w vs ds bs)(hf:ds.all D.flat=true):bs=[]:=by
 induction ds generalizing vs bs with
 |nil=>cases h;rfl
 |cons d ds ih=>
  simp only[dX,aR]at hf;cases h with
  |cons v vs _ _ b1 b2 h1 h2 h3=>rw[h2.flat hf.1,ih h3 hf.2];rfl
theorem RF{e sz i1:Nat}{ρ:Nat->Nat}:R7 w Θ ρ e sz (.slice none 0 0) [] true i1 [] []:=
 ⟨by simp,World.ownsRow_nil w 0 e sz,.nil,by simp,by simp[Value.ownBlock],by simp⟩
theorem EL{ρ:Nat->Nat}(hs:dM Γ st κ Θ a w)(hu:wh Γ st.H κ Θ w ρ){id e sz:Nat}{k:RK}{rows:List aK}{v:Value}(hk:κ id=some v)(hH:st.H[id]?=some (.row k e sz rows))(ho:k.Kj=true):
 ∃bs cs,R7 w Θ ρ e sz v rows (match k with| .uq=>true|_=>false) id bs cs:=by
 obtain⟨_,hrl,v2,cs,bs,hk2,hown,qQ,hΘ,hz⟩:=hs.ob id _ hH;rw[hk]at hk2;cases hk2;cases k with
 |cl=>simp[RK.Kj]at ho
 |sh=>exact⟨bs,cs,hrl,hown,qQ,hz,hΘ,by simp⟩
 |mv n=>exact⟨bs,cs,hrl,hown,qQ,hz,hΘ,by simp⟩
 |uq=>
  obtain⟨v2,c2,b2,q1,q2,q3,q4,q5⟩:=hu.rows id e sz rows hH;rw[hk]at q1;cases q1;exact⟨b2,c2,hrl,q2,q3,fun b hb=>(hu.free b (by rw[q5 b hb];omega)).1,hΘ,fun _=>⟨q4,q5⟩⟩
theorem LW{ρ:Nat->Nat}(hs:dM Γ st κ Θ a w)(hu:wh Γ st.H κ Θ w ρ){id e sz:Nat}{k:RK}{rows:List aK}{v:Value}(hk:κ id=some v)(hH:st.H[id]?=some (.row k e sz rows))(ho:k.Kj=true):
 ∃bs cs,PW w Θ ρ sz v rows (match k with| .uq=>true|_=>false) id bs cs:=by
 obtain⟨bs,cs,h⟩:=EL hs hu hk hH ho;refine⟨bs,cs,h.rl,?_,h.rd,h.zero,h.uq⟩;rcases h.own.2 with⟨rfl,hn⟩|⟨g,cap,cur,rfl,_⟩
 ·exact .inl ⟨rfl,cI hn⟩
 ·exact .inr ⟨_,cap,rfl,h.own.cells (g:=g) (by simp[Value.ownBlock])⟩
theorem RG{sz i2:Nat}{ρ:Nat->Nat}:PW w Θ ρ sz (.slice none 0 0) [] true i2 [] []:=
 ⟨by simp,.inl ⟨rfl,rfl⟩,.nil,by simp,by simp⟩
theorem Ue{ρ:Nat->Nat}{v:Value}{rows:List aK}{bs:aP}{sz:Nat}(h:Rd w v (.sl rows) bs)(hz:∀b∈bs,Θ b=0)(hrl:∀r∈rows,r.length=sz)(i2:Nat)(fl:Bool)(hf:fl=true->D.oX rows=true):
 ∃b2 cs,PW w Θ ρ sz v rows fl i2 b2 cs/\(fl=true->b2=[]):=by
 cases h with
 |w8=>exact⟨[],[],⟨by simp,.inl ⟨rfl,rfl⟩,.nil,by simp,by simp⟩,by simp⟩
 |mD ad cap hc=>exact⟨[],[],⟨by simp,.inr ⟨ad,cap,rfl,by simp⟩,.nil,by simp,by simp⟩,by simp⟩
 |sl b off cap sz' _ cs bs' h0 h1 h2 h3 h4 h5=>
  have hfl:fl=true->bs'=[]:=fun e=>h5.flat (by
   have:=hf e;unfold D.oX at this;rw[aj]at this⊢;intro d hd;obtain⟨r,hr,EC⟩:=fG.1 hd;exact aj.1 (this r hr) d EC)
  refine⟨bs',cs,⟨hrl,.inr ⟨_,cap,rfl,fun j x hj=>?_⟩,h5,fun y hy=>hz y (by simp[hy]),fun e=>by rw[hfl e];simp⟩,hfl⟩;have:=h4 j x hj;simpa[Addr.add_lit]using this
end
end Go.Cx
namespace Go.Cx
open Go.RowKit
section
variable{P:Program}{Γ:sQ}{Q:Exit->St->Prop}{st:St}{κ:Nat->Option Value}{Θ:Nat->Nat}{a:Act}{w:World}{all:Array Oper}{rest:List Oper}
theorem fo{H:bL}{ms:aP}{j:Nat}(h:j∉ms):(kill H ms)[j]?=H[j]?:=by
 induction ms generalizing H with
 |nil=>rfl
 |cons m ms ih=>
  simp only[bA,B6]at h;simp only[kill];rw[ih h.2,bq (fun e=>h.1 e.symm)]
def RK.after(k:RK)(b:Bool):RK:=match k with
 | .uq=>wK b
 | .mv _=>.sh
 |k=>k
theorem RK.PZ(k:RK)(b:Bool)(e:TypeId)(sz:Nat)(rows:List aK):(Ob.row (k.after b) e sz rows).ZZ=false:=by cases k<;>cases b<;>rfl
theorem LL{o:Oper}{T id i sz off e:Nat}{k0:RK}{x y:Operand}{rows:List aK}{row ds es:aK}{ms:aP}(hop:o.op=.store T x y)(hd:o.dst=none)(hg:o.guard=none)
 (hx:st.ev x=.op id i sz off) (hH:st.H[id]?=some (.row k0 e sz rows)) (hk0:k0.Kj=true) (hrow:rows[i]?=some row) (hc:(st.ev y).cellsOf=some ds) (habs:Fb st.H ds=some (es,ms)) (hnd:ms.Nodup) (hid:id∉ms)
 (hT:L9 P T=true) (hl:ds.length=wS P T) (hfit:off+ds.length<=sz)
 (h:AO P Γ all rest Q ⟨st.σ,(kill st.H ms).set id (.row (k0.after (ds.all (PM st.H))) e sz (rows.set i (row.take off++es++row.drop (off+ds.length))))⟩):AO P Γ all (o::rest) Q st:=by
 intro κ Θ0 a w hs0;obtain⟨b1,r1,_⟩:=hs0.ev x;obtain⟨b20,r2,a3l⟩:=hs0.ev y;rw[hx]at r1;obtain⟨g,o0,len,cap,hk,hv⟩:=r1.C2;have hcv:=yj hs0.mY r2 hc;obtain⟨ρ0,Y3⟩:=hs0.qf;obtain⟨Θ,ρ,hs,hu,hm1,KG,Qm⟩:=dM.MI ms hs0 Y3 hnd (LS habs);obtain⟨b2,hcp,SA,ED⟩:=Mu (H:=st.H) (ρ:=ρ) habs hnd hcv (fun b hb=>KG b (a3l b hb)) hm1;have K7:(kill st.H ms)[id]?=some (.row k0 e sz rows):=by rw[fo hid];exact hH
 obtain⟨bs,cs,hA⟩:=EL hs hu hk K7 hk0;have hrl:=hA.rl;have hown:=hA.own;have UH:=A5 hown;subst UH;rw[cV]at hv;have qQ:=hA.rd;have hsz:0<sz:=by
  obtain⟨hsz,_⟩:=hs.ob id _ K7;exact hsz
 rcases hown.2 with⟨rO,_⟩|⟨g',cap2,cur,hkv,hb,KE,hnc,hcm,hcs,M5⟩
 ·cases rO
 ·cases hkv;have KJ:=hA.top g (by simp[Value.ownBlock]);have hl1:=hcv.length;have hle:es.length=ds.length:=by rw[<-hcp.length,hl1]
  have hilt:i<rows.length:=(aC.1 hrow).1;have Xp:(i+1)*sz<=rows.length*sz:=dD _ hilt;have a68:rows.length*sz<=cap*sz:=dD _ hnc;rw[jA,kf]at Xp;have Y2:(a.eval y).cells.size=wS P T:=by rw[<-hl,<-hl1];simp
  have a6I:(a.eval y).cells.size=ds.length:=by rw[<-hl1];simp
  have hst:=C6 (P:=P) (T:=T) (off:=i*sz+off) KE Y2 (dZ.1 hT) (by omega) hcv.one;have k:=gi.setRow hs (g:=g) (cs:=(cur.toList.take (i*sz+off)++(a.eval y).cells.toList++cur.toList.drop (i*sz+off+(a.eval y).cells.toList.length)).toArray) (tag:=id+2) (by omega) KJ;refine wpList_plain hg fun K hK=>?_
  unfold Oper.wp;have hrun:(execOp a.eval o).run P w=.ok .skip (w.setRow g (cur.toList.take (i*sz+off)++(a.eval y).cells.toList++cur.toList.drop (i*sz+off+(a.eval y).cells.toList.length)).toArray):=by
   simp only[execOp,hop,hv];simp[hst]
  rw[hrun,Oper.upon_skip,hd];have hfl:=mL hrl;have e0:rows.flatten=rows.flatten.take (i*sz+off)++((rows.flatten.drop (i*sz+off)).take ds.length++(rows.flatten.drop (i*sz+off)).drop ds.length):=by rw[bp,bp]
  rw[e0]at qQ;obtain⟨v1,v2,c1,c2,I0,Br,k1,k2⟩:=qQ.split;obtain⟨v3,v4,c3,c4,rfl,rfl,k3,k4⟩:=k2.split;have l1:v1.length=i*sz+off:=by rw[k1.length,cD];omega
  have l3:v3.length=ds.length:=by rw[k3.length,cD,rC];omega
  rw[fp]at k4;have hnew:=(k1.app hcp).app k4;have Ii:∀b∈((c1++b2)++c4),Θ b=0:=by
   intro b hb;simp only[aV]at hb;rcases hb with(hb|hb)|hb
   ·exact hA.zero b (by rw[Br];simp[hb])
   ·exact SA b hb
   ·exact hA.zero b (by rw[Br];simp[hb])
  obtain⟨n1,n2⟩:=jx.over k hnew Ii;have hfs:=Bn (ds:=es) (off:=off) hrl hrow (by omega);rw[hle]at hfs;rw[<-hfs]at n1;have Rj:cs.length=rows.length*sz:=hown.1;have a04:cur.toList=v1++(v3++(v4++cur.toList.drop (rows.length*sz))):=by
   have:cur.toList=cs++cur.toList.drop (rows.length*sz):=by rw[<-M5,bp]
   rw[I0]at this;simpa using this
  have t1:cur.toList.take (i*sz+off)=v1:=by rw[a04];exact gZ l1
  have t2:cur.toList.drop (i*sz+off+(a.eval y).cells.toList.length)=v4++cur.toList.drop (rows.length*sz):=by
   rw[hl1,<-fp]
   conv=>lhs;rw[a04]
   rw[fD l1,fD l3]
  have hl4:(v1++(a.eval y).cells.toList++v4).length=rows.length*sz:=by
   have:=Rj;rw[I0]at this;simp only[b8]at this⊢;omega
  have Et:(w.setRow g (cur.toList.take (i*sz+off)++(a.eval y).cells.toList++cur.toList.drop (i*sz+off+(a.eval y).cells.toList.length)).toArray).ownsRow 0 e sz (.slice (some ⟨g,0,none⟩) rows.length cap)
   (rows.set i (row.take off++es++row.drop (off+ds.length))).length (v1++(a.eval y).cells.toList++v4):=by
   refine⟨by simpa using hl4,.inr ⟨g,cap,_,by simp,hb,setRow_heap w g cur _ e _ KE,by simpa using hnc,hcm,?_,?_⟩⟩
   ·simp only[xj,b8,cD,rC,rq];omega
   ·rw[t1,t2];simp only[nD];rw[<-dJ];exact gZ hl4
  have Gz:∀r∈rows.set i (row.take off++es++row.drop (off+ds.length)),r.length=sz:=by
   intro r hr;rcases rV hr with hr|rfl
   ·exact hrl r hr
   ·have:=hrl row (aE hrow);simp;omega
  have Bv:∀g2,(Value.slice (some ⟨g,0,none⟩) rows.length cap).ownBlock=some g2->Θ g2=id+2:=by
   intro g2 hg2;simp only[Value.ownBlock,af]at hg2;subst hg2;exact KJ
  refine hK _ _ (h _ _ _ _ (hs.put ms wL (fun _ _ h=>h) (fun i hi=>hs.nB i (by simpa using hi)) hs.mY k hs.mine ?_ hu ?_ ?_ (RK.PZ _ _ _ _ _)))
  ·refine⟨hsz,Gz,_,_,_,hk,Et,n1,Bv,?_⟩;cases k0 with
   |cl=>simp[RK.Kj]at hk0
   |sh=>exact n2
   |mv n=>exact n2
   |uq=>simp only[RK.after];cases(ds.all (PM st.H))<;>exact n2
  ·intro m hm x _ CJ;rcases ld CJ with h|⟨h,_⟩
   ·subst h;rfl
   ·exact absurd hm h
  ·intro e' sz' dh he;cases k0 with
   |cl=>simp[RK.Kj]at hk0
   |sh=>simp[RK.after]at he
   |mv n=>simp[RK.after]at he
   |uq=>
    simp only[RK.after]at he;cases hq:ds.all (PM st.H)with
    |false=>rw[hq]at he;simp[wK]at he
    |true=>
     rw[hq]at he;simp only[wK,Ob.row.injEq,pN]at he;obtain⟨rfl,rfl,rfl⟩:=he;obtain⟨q1,q2⟩:=ED hq;obtain⟨p1,p2⟩:=hA.uq rfl;rw[Br]at p1 p2;obtain⟨m1,m2,m3⟩:=bB.1 p1;obtain⟨m4,m5,m6⟩:=bB.1 m2;refine⟨_,_,_,hk,Et,n1,?_,fun b hb=>?_⟩
     ·refine bB.2 ⟨bB.2 ⟨m1,q1,fun x hx y hy e=>?_⟩,m5,fun x hx y hy e=>?_⟩
      ·subst e;obtain⟨m,hm,he⟩:=q2 x hy;have:=p2 x (by simp[hx]);exact hid (by
        have:id=m:=by omega
        rw[this];exact hm)
      ·subst e;rcases aV.1 hx with hx|hx
       ·exact m3 x hx x (by simp[hy]) rfl
       ·obtain⟨m,hm,he⟩:=q2 x hx;have:=p2 x (by simp[hy]);exact hid (by
         have:id=m:=by omega
         rw[this];exact hm)
     ·simp only[aV]at hb;rcases hb with(hb|hb)|hb
      ·exact .inl (p2 b (by simp[hb]))
      ·exact .inr (q2 b hb)
      ·exact .inl (p2 b (by simp[hb]))
end
end Go.Cx
namespace Go.Cx
open Go.RowKit
inductive OH(w:World):List Value->List D->List Nat->Prop
 |nil:OH w [] [] []
 |cons (v:Value) (vs:bW) (d:D) (ds:aK) (b1 b2:aP):Rd w v d b1->OH w vs ds b2->OH w (v::vs) (d::ds) (b1++b2)
inductive CS(w:World):Value->D->List Nat->List Nat->List Nat->Prop
 |pure {v:Value} {d:D} {bs:aP}:Rd w v d bs->CS w v d bs [] []
 |fr (v:Value) (e sz:Nat) (rows:List aK) (cs:bW) (ns:aP):0<sz->(∀r∈rows,r.length=sz)->w.ownsRow 0 e sz v rows.length cs->jx w cs rows.flatten ns->v.oneCell'=true->
  CS w v (.fr e sz rows) [] v.ownBlock.toList (v.ownBlock.toList++ns)
inductive qk(w:World):List Value->List D->List Nat->List Nat->List Nat->Prop
 |nil:qk w [] [] [] [] []
 |cons (v:Value) (vs:bW) (d:D) (ds:aK) (b1 b2 t1 t2 u1 u2:aP):v.oneCell'=true->CS w v d b1 t1 u1->qk w vs ds b2 t2 u2->qk w (v::vs) (d::ds) (b1++b2) (t1++t2) (u1++u2)
inductive CT(w:World):Value->D->List Nat->List Nat->List Nat->Prop
 |cell {v:Value} {d:D} {bs ts us:aP}:CS w v d bs ts us->CT w v d bs ts us
 |agg (cs:bW) (ds:aK) (bs ts us:aP):qk w cs ds bs ts us->CT w (.agg cs.toArray) (.agg ds) bs ts us
inductive xk(w:World):List Value->List D->List Nat->List Nat->List Nat->Prop
 |nil:xk w [] [] [] [] []
 |cons (v:Value) (vs:bW) (d:D) (ds:aK) (b1 b2 t1 t2 u1 u2:aP):CT w v d b1 t1 u1->xk w vs ds b2 t2 u2->xk w (v::vs) (d::ds) (b1++b2) (t1++t2) (u1++u2)
inductive yH(w:World):Value->D->List Nat->List Nat->List Nat->Prop
 |v {v:Value} {d:D} {bs ts us:aP}:CT w v d bs ts us->yH w v d bs ts us
 |iQ (vs:bW) (ds:aK) (bs ts us:aP):xk w vs ds bs ts us->yH w (.tuple vs.toArray) (.iQ ds) bs ts us
def Good(P:Program)(f:FuncId)(ds:aK)(d:D):Prop:=
 (∃fn,P.funcs[f]?=some fn/\fn.body.isSome=true/\(fn.name== "runtime.NumGoroutine")=false)/\
 ∀(w:World) (Θ:Nat->Nat) (args:bW) (bs:aP),Io w (fun _=>False)->OH w args ds bs->(∀b∈bs,Θ b=0)->(∀b,Θ b≠0->b<w.heap.size)->(∀b,Θ b<=1)->
  Calls P f args.toArray w (fun e w'=>∃v bs' ts us,e=.returned v/\Below w.heap.size w w'/\yH w' v d bs' ts us/\(∀b∈bs',b<w.heap.size->Θ b=0)/\(∀b∈bs',b∉ts)/\us.Nodup/\
   (∀b∈us,w.heap.size<=b/\Wr w' b)/\∀b∈ts,b∈us)
def AM(n:Nat)(d:D):D×bL:=match d with
 | .fr e sz rows=>(.acc n,[.row .uq e sz rows])
 |d=>(d,[])
def kr(n:Nat):aK->aK×bL
 | []=>([],[])
 |d::ds=>((AM n d).1::(kr (n+(AM n d).2.length) ds).1,(AM n d).2++(kr (n+(AM n d).2.length) ds).2)
def zA(n:Nat)(d:D):D×bL:=match d with
 | .agg cs=>(.agg (kr n cs).1,(kr n cs).2)
 |d=>AM n d
def yS(n:Nat):aK->aK×bL
 | []=>([],[])
 |d::ds=>((zA n d).1::(yS (n+(zA n d).2.length) ds).1,(zA n d).2++(yS (n+(zA n d).2.length) ds).2)
def lY(n:Nat)(d:D):D×bL:=match d with
 | .iQ vs=>(.iQ (yS n vs).1,(yS n vs).2)
 |d=>zA n d
structure Fs where
 v:Value
 e:Nat
 sz:Nat
 rows:List aK
 cs:bW
 ns:aP
def Fs.ob(x:Fs):Ob:=.row .uq x.e x.sz x.rows
def Fs.ok(w:World)(x:Fs):Prop:=0<x.sz/\(∀r∈x.rows,r.length=x.sz)/\w.ownsRow 0 x.e x.sz x.v x.rows.length x.cs/\jx w x.cs x.rows.flatten x.ns/\x.v.oneCell'=true
def Fs.bl(x:Fs):aP:=x.v.ownBlock.toList++x.ns
def Fs.ts(x:Fs):aP:=x.v.ownBlock.toList
section
variable{P:Program}{Γ:sQ}{Q:Exit->St->Prop}{st:St}{κ κ':Nat->Option Value}{Θ Θ':Nat->Nat}{a:Act}{w w':World}{all:Array Oper}{rest:List Oper}
def Names(κ:Nat->Option Value)(n:Nat)(L:List Fs):Prop:=∀(i:Nat) x,L[i]?=some x->κ (n+i)=some x.v
theorem Names.left{n:Nat}{L1 L2:List Fs}(h:Names κ n (L1++L2)):Names κ n L1:=fun i x hx=>h i x (by
 rw[ai (aC.1 hx).1];exact hx)
theorem Names.right{n:Nat}{L1 L2:List Fs}(h:Names κ n (L1++L2)):Names κ (n+L1.length) L2:=fun i x hx=>by
 have:=h (L1.length+i) x (by rw[au (by omega)];simpa using hx);rw[<-this];congr 1;omega
theorem CS.inst{v:Value}{d:D}{bs ts us:aP}(h:CS w v d bs ts us)(n:Nat):
 ∃L:List Fs,L.map Fs.ob=(AM n d).2/\(∀x∈L,x.ok w)/\us=L.flatMap Fs.bl/\ts=L.flatMap Fs.ts/\∀κ,Names κ n L->wO w κ v (AM n d).1 bs:=by
 cases h with
 |pure h=>
  have e:AM n d=(d,[]):=by cases h<;>rfl
  rw[e];exact⟨[],rfl,by simp,rfl,rfl,fun κ _=>.pure h⟩
 |fr e sz rows cs ns h1 h2 h3 h4 h5=>
  refine⟨[⟨v,e,sz,rows,cs,ns⟩],rfl,?_,by simp[Fs.bl],by simp[Fs.ts],fun κ hk=>?_⟩
  ·intro x hx;simp at hx;subst hx;exact⟨h1,h2,h3,h4,h5⟩
  ·exact .acc n v (by simpa using hk 0 _ rfl)
theorem qk.inst{vs:bW}{ds:aK}{bs ts us:aP}(h:qk w vs ds bs ts us)(n:Nat):
 ∃L:List Fs,L.map Fs.ob=(kr n ds).2/\(∀x∈L,x.ok w)/\us=L.flatMap Fs.bl/\ts=L.flatMap Fs.ts/\∀κ,Names κ n L->eZ w κ vs (kr n ds).1 bs:=by
 induction h generalizing n with
 |nil=>exact⟨[],rfl,by simp,rfl,rfl,fun κ _=>.nil⟩
 |cons v vs d ds b1 b2 t1 t2 u1 u2 h1 h2 _ ih=>
  obtain⟨L1,q1,q2,q3,q4,q5⟩:=h2.inst n;obtain⟨L2,p1,p2,p3,p4,p5⟩:=ih (n+(AM n d).2.length);have hl:L1.length=(AM n d).2.length:=by rw[<-q1];simp
  refine⟨L1++L2,by simp[kr,q1,p1],?_,by simp[q3,p3],by simp[q4,p4],fun κ hk=>?_⟩
  ·intro x hx;rcases aV.1 hx with hx|hx
   ·exact q2 x hx
   ·exact p2 x hx
  ·refine .cons _ _ _ _ _ _ h1 (q5 κ hk.left) (p5 κ ?_);rw[<-hl];exact hk.right
theorem CT.inst{v:Value}{d:D}{bs ts us:aP}(h:CT w v d bs ts us)(n:Nat):
 ∃L:List Fs,L.map Fs.ob=(zA n d).2/\(∀x∈L,x.ok w)/\us=L.flatMap Fs.bl/\ts=L.flatMap Fs.ts/\∀κ,Names κ n L->HS w κ v (zA n d).1 bs:=by
 cases h with
 |cell h=>
  by_cases qe:∃ds,d=.agg ds
  ·obtain⟨ds,rfl⟩:=qe;cases h with
   |pure h=>
    cases h with
    |agg cs _ _ h=>
     have:∀(vs:bW) (es:aK) (b:aP),jx w vs es b->∀n,(kr n es).1=es/\(kr n es).2=[]:=by
      intro vs es
      induction es generalizing vs with
      |nil=>intro b _ n;exact⟨rfl,rfl⟩
      |cons e es ih=>
       intro b hh n;cases hh with
       |cons v vs _ _ b1 b2 _ h2 h3=>
        have e1:AM n e=(e,[]):=by cases h2<;>rfl
        have:=ih vs b2 h3 n;simp[kr,e1,this]
     obtain⟨e1,e2⟩:=this _ _ _ h n;refine⟨[],by simp[zA,e2],by simp,rfl,rfl,fun κ _=>?_⟩;simp only[zA,e1];exact .agg _ _ _ (eZ.AN h)
  ·have e:zA n d=AM n d:=by cases d<;>first|rfl|exact absurd ⟨_,rfl⟩ qe
   rw[e];obtain⟨L,q1,q2,q3,q4,q5⟩:=h.inst n;exact⟨L,q1,q2,q3,q4,fun κ hk=>.cell (q5 κ hk)⟩
 |agg cs ds bs ts us h=>
  obtain⟨L,q1,q2,q3,q4,q5⟩:=h.inst n;exact⟨L,q1,q2,q3,q4,fun κ hk=>.agg _ _ _ (q5 κ hk)⟩
theorem xk.inst{vs:bW}{ds:aK}{bs ts us:aP}(h:xk w vs ds bs ts us)(n:Nat):
 ∃L:List Fs,L.map Fs.ob=(yS n ds).2/\(∀x∈L,x.ok w)/\us=L.flatMap Fs.bl/\ts=L.flatMap Fs.ts/\∀κ,Names κ n L->zQ w κ vs (yS n ds).1 bs:=by
 induction h generalizing n with
 |nil=>exact⟨[],rfl,by simp,rfl,rfl,fun κ _=>.nil⟩
 |cons v vs d ds b1 b2 t1 t2 u1 u2 h2 _ ih=>
  obtain⟨L1,q1,q2,q3,q4,q5⟩:=h2.inst n;obtain⟨L2,p1,p2,p3,p4,p5⟩:=ih (n+(zA n d).2.length);have hl:L1.length=(zA n d).2.length:=by rw[<-q1];simp
  refine⟨L1++L2,by simp[yS,q1,p1],?_,by simp[q3,p3],by simp[q4,p4],fun κ hk=>?_⟩
  ·intro x hx;rcases aV.1 hx with hx|hx
   ·exact q2 x hx
   ·exact p2 x hx
  ·refine .cons _ _ _ _ _ _ (q5 κ hk.left) (p5 κ ?_);rw[<-hl];exact hk.right
theorem yH.inst{v:Value}{d:D}{bs ts us:aP}(h:yH w v d bs ts us)(n:Nat):
 ∃L:List Fs,L.map Fs.ob=(lY n d).2/\(∀x∈L,x.ok w)/\us=L.flatMap Fs.bl/\ts=L.flatMap Fs.ts/\∀κ,Names κ n L->oq w κ v (lY n d).1 bs:=by
 cases h with
 |v h=>
  have hnt:∀vs,d≠ .iQ vs:=by
   intro vs e;subst e;cases h with
   |cell h=>cases h with|pure h=>cases h
  have e:lY n d=zA n d:=by cases d<;>first|rfl|exact absurd rfl (hnt _)
  rw[e];obtain⟨L,q1,q2,q3,q4,q5⟩:=h.inst n;exact⟨L,q1,q2,q3,q4,fun κ hk=>.v (q5 κ hk)⟩
 |iQ vs ds bs ts us h=>
  obtain⟨L,q1,q2,q3,q4,q5⟩:=h.inst n;exact⟨L,q1,q2,q3,q4,fun κ hk=>.iQ _ _ _ (q5 κ hk)⟩
theorem LQ{v:Value}{d:D}{bs ts us:aP}(h:CS w v d bs ts us):∀b∈ts,Wr w b:=by
 cases h with
 |pure=>simp
 |fr e sz rows cs ns h1 h2 h3 h4 h5=>
  intro b hb;simp only[jU]at hb;rcases h3.2 with⟨rfl,_⟩|⟨g,cap,cur,rfl,_,hg,_⟩
  ·simp[Value.ownBlock]at hb
  ·simp[Value.ownBlock]at hb;subst hb;exact⟨_,_,hg⟩
theorem PX{vs:bW}{ds:aK}{bs ts us:aP}(h:qk w vs ds bs ts us):∀b∈ts,Wr w b:=by
 induction h with
 |nil=>simp
 |cons v vs d ds b1 b2 t1 t2 u1 u2 h1 h2 _ ih=>
  intro b hb;rcases aV.1 hb with hb|hb
  ·exact LQ h2 b hb
  ·exact ih b hb
theorem HU{v:Value}{d:D}{bs ts us:aP}(h:CT w v d bs ts us):∀b∈ts,Wr w b:=by
 cases h with
 |cell h=>exact LQ h
 |agg cs ds bs ts us h=>exact PX h
theorem FZ{vs:bW}{ds:aK}{bs ts us:aP}(h:xk w vs ds bs ts us):∀b∈ts,Wr w b:=by
 induction h with
 |nil=>simp
 |cons v vs d ds b1 b2 t1 t2 u1 u2 h2 _ ih=>
  intro b hb;rcases aV.1 hb with hb|hb
  ·exact HU h2 b hb
  ·exact ih b hb
theorem HT{v:Value}{d:D}{bs ts us:aP}(h:yH w v d bs ts us):∀b∈ts,Wr w b:=by
 cases h with
 |v h=>exact HU h
 |iQ vs ds bs ts us h=>exact FZ h
def ix{α:Type}(p:α->Bool):List α->Option Nat
 | []=>none
 |x::r=>if p x then some 0 else(ix p r).map (· +1)
theorem wI{α:Type}{p:α->Bool}:∀ {l:List α} {i:Nat},ix p l=some i->∃x,l[i]?=some x/\p x=true:=by
 intro l
 induction l with
 |nil=>intro i h;cases h
 |cons x r ih=>
  intro i h;simp only[ix]at h;split at h
  ·cases h;exact⟨x,rfl,by assumption⟩
  ·cases hr:ix p r with
   |none=>simp[hr]at h
   |some j=>simp[hr]at h;subst h;simpa using ih hr
theorem Bx{α:Type}{p:α->Bool}:∀ {l:List α} {i:Nat} {x:α},l[i]?=some x->p x=true->(∀(j:Nat) y,l[j]?=some y->p y=true->j=i)->ix p l=some i:=by
 intro l
 induction l with
 |nil=>intro i x h;simp at h
 |cons y r ih=>
  intro i x h hp hu;simp only[ix];split
  ·rename_i hy;rw[hu 0 y rfl hy]
  ·rename_i hy;cases i with
   |zero=>simp at h;subst h;exact absurd hp hy
   |succ i=>
    rw[ih (by simpa using h) hp (fun j z hz UI=>by have:=hu (j+1) z (by simpa using hz) UI;omega)];rfl
theorem tD{α:Type}{f:α->aP}:∀ {l:List α},(l.flatMap f).Nodup->∀(i j:Nat) x y b,l[i]?=some x->l[j]?=some y->b∈f x->b∈f y->i=j:=by
 intro l
 induction l with
 |nil=>intro _ i j x y b hi;simp at hi
 |cons z r ih=>
  intro hnd i j x y b hi hj yZ hby;simp only[eV]at hnd;obtain⟨n1,n2,n3⟩:=bB.1 hnd;cases i with
  |zero=>
   simp at hi;subst hi;cases j with
   |zero=>rfl
   |succ j=>
    simp at hj;exact absurd rfl (n3 b yZ b (bZ.2 ⟨y,aE hj,hby⟩))
  |succ i=>
   simp at hi;cases j with
   |zero=>
    simp at hj;subst hj;exact absurd rfl (n3 b hby b (bZ.2 ⟨x,aE hi,yZ⟩))
   |succ j=>simp at hj;rw[ih n2 i j x y b hi hj yZ hby]
theorem dM.JO(hs:dM Γ st κ Θ a w)(hb:Below w.heap.size w w')(L:List Fs)(hL:∀x∈L,x.ok w')(hnd:(L.flatMap Fs.bl).Nodup)(hfr:∀b∈L.flatMap Fs.bl,w.heap.size<=b/\Wr w' b)
 (n:Nat) (H':bL) (hfree:∀i,i<L.length->κ (n+i)=none) (hlen':st.H.length<=H'.length) (hin:n+L.length<=H'.length)
 (key:∀(j:Nat) y,H'[j]?=some y->(∃i x,j=n+i/\L[i]?=some x/\y=x.ob)\/((j<n\/n+L.length<=j)/\(y=.gone\/st.H[j]?=some y))):
 ∃κ' Θ',dM Γ ⟨st.σ,H'⟩ κ' Θ' a w'/\Names κ' n L/\(∀(j:Nat) v,κ j=some v->κ' j=some v)/\(∀b,b∉L.flatMap Fs.ts->Θ' b=Θ b)/\(∀j,(j<n\/n+L.length<=j)->κ' j=κ j):=by
 let κ':Nat->Option Value:=fun j=>if j<n\/n+L.length<=j then κ j else(L[j-n]?).map Fs.v
 let Θ':Nat->Nat:=fun b=>match ix (fun x:Fs=>x.v.ownBlock==some b) L with|some i=>n+i+2|none=>Θ b
 have hu1:∀(i j:Nat) x y b,L[i]?=some x->L[j]?=some y->b∈x.bl->b∈y.bl->i=j:=fun i j x y b=>tD hnd i j x y b
 have hts:∀(i:Nat) x b,L[i]?=some x->x.v.ownBlock=some b->Θ' b=n+i+2:=by
  intro i x b hi Qn;have:ix (fun x:Fs=>x.v.ownBlock==some b) L=some i:=Bx hi (by simp[Qn]) (fun j y hj hy=>by
   simp only[cO]at hy;exact hu1 j i y x b hj hi (by simp[Fs.bl,hy]) (by simp[Fs.bl,Qn]))
  simp only[Θ',this]
 have hno:∀b,b∉L.flatMap Fs.ts->Θ' b=Θ b:=by
  intro b hb';simp only[Θ'];cases h:ix (fun x:Fs=>x.v.ownBlock==some b) L with
  |none=>rfl
  |some i=>
   obtain⟨x,hx,hp⟩:=wI h;exact absurd (bZ.2 ⟨x,aE hx,by simp only[cO]at hp;simp[Fs.ts,hp]⟩) hb'
 have hsub:∀b,b∈L.flatMap Fs.ts->b∈L.flatMap Fs.bl:=by
  intro b h;obtain⟨x,hx,yZ⟩:=bZ.1 h;exact bZ.2 ⟨x,hx,by simp only[Fs.bl,Fs.ts]at yZ⊢;exact aV.2 (.inl yZ)⟩
 have hold:∀b,b<w.heap.size->Θ' b=Θ b:=fun b hlt=>hno b (fun h=>by have:=(hfr b (hsub b h)).1;omega)
 have hzero:∀b,w.heap.size<=b->Θ b=0:=fun b hge=>by
  cases h:Θ b with
  |zero=>rfl
  |succ m=>exact absurd (hs.own b (by omega)) (by omega)
 have hn:∀(j:Nat) v,κ j=some v->κ' j=some v:=by
  intro j v hj;have:j<n\/n+L.length<=j:=by
   rcases dU j n with h|h
   ·exact .inl h
   ·rcases dU j (n+L.length)with h2|h2
    ·have:=hfree (j-n) (by omega);rw[show n+(j-n)=j from by omega,hj]at this;cases this
    ·exact .inr h2
  simp only[κ'];rw[bE this];exact hj
 have si:Names κ' n L:=by
  intro i x hx;have hlt:=(aC.1 hx).1;simp only[κ'];rw[av (by omega),cq,hx];rfl
 have hTb:∀b,Θ' b≠0->Θ b≠0\/b∈L.flatMap Fs.bl:=by
  intro b h;by_cases hbt:b∈L.flatMap Fs.ts
  ·exact .inr (hsub b hbt)
  ·rw[hno b hbt]at h;exact .inl h
 have k:gi w w' Θ Θ' (H'.length+2):=by
  refine⟨by omega,hb.os,hb.tape,hb.output,hb.size,fun b hlt _=>hb.block b hlt,fun b hlt _=>hold b hlt,fun b h=>?_⟩;rcases hTb b h with h|h
  ·exact cw (hs.own b h) hb.size
  ·obtain⟨cs,T,hx⟩:=(hfr b h).2;exact(az.1 hx).1
 have hm:∀b,2<=Θ' b->wB Γ b:=by
  intro b h;by_cases hbt:b∈L.flatMap Fs.ts
  ·exact .inl (dA hs.base (hfr b (hsub b hbt)).1)
  ·rw[hno b hbt]at h;exact hs.mine b h
 obtain⟨ρ,hu⟩:=hs.qf;have qR:=hs.lf k hn hu;let ρ':Nat->Nat:=fun b=>match ix (fun x:Fs=>x.ns.contains b) L with|some i=>n+i+1|none=>ρ b
 have ZV:∀(i:Nat) x b,L[i]?=some x->b∈x.ns->ρ' b=n+i+1:=by
  intro i x b hi Qn;have:ix (fun x:Fs=>x.ns.contains b) L=some i:=Bx hi (by simpa using Qn) (fun j y hj hy=>by
   exact hu1 j i y x b hj hi (by simp only[Fs.bl];exact aV.2 (.inr (by simpa using hy))) (by simp only[Fs.bl];exact aV.2 (.inr Qn)))
  simp only[ρ',this]
 have vK:∀(i:Nat) x b,L[i]?=some x->b∈x.ns->Θ' b=0:=by
  intro i x b hi Qn;have hmem:b∈L.flatMap Fs.bl:=bZ.2 ⟨x,aE hi,by simp only[Fs.bl];exact aV.2 (.inr Qn)⟩;rw[hno b ?_]
  ·exact hzero b (hfr b hmem).1
  ·intro h;obtain⟨y,hy,hby⟩:=bZ.1 h;obtain⟨j,hj⟩:=dB hy;have:=hu1 j i y x b hj hi (by simp only[Fs.bl,Fs.ts]at hby⊢;exact aV.2 (.inl hby)) (by simp only[Fs.bl];exact aV.2 (.inr Qn));subst this;rw[hj]at hi;cases hi;have G3:x.bl.Nodup:=by
    have:∀(l:List Fs),(l.flatMap Fs.bl).Nodup->∀x∈l,x.bl.Nodup:=by
     intro l
     induction l with
     |nil=>intro _ x hx;cases hx
     |cons z r ih=>
      intro hnd x hx;simp only[eV]at hnd;obtain⟨n1,n2,_⟩:=bB.1 hnd;rcases bA.1 hx with rfl|hx
      ·exact n1
      ·exact ih n2 x hx
    exact this L hnd x hy
   simp only[Fs.bl]at G3;exact(bB.1 G3).2.2 b hby b Qn rfl
 have hlen:∀i,H'.length<=i->κ' i=none:=by
  intro i hi;simp only[κ'];rw[bE (by omega)];exact hs.nB i (by omega)
 have Hx:∀(j:Nat) y,H'[j]?=some y->j+2≠H'.length+2:=fun j y hj=>by
  have:=(aC.1 hj).1;omega
 refine⟨κ',Θ',?_,si,hn,hno,fun j hj=>bE hj⟩;have GQ:∀b,b<w.heap.size->ρ' b=ρ b:=by
  intro b hlt';simp only[ρ'];cases hi:ix (fun x:Fs=>x.ns.contains b) L with
  |none=>rfl
  |some i=>
   obtain⟨x,hx,hp⟩:=wI hi;have:=(hfr b (bZ.2 ⟨x,aE hx,by simp only[Fs.bl];exact aV.2 (.inr (by simpa using hp))⟩)).1;omega
 have WQ:∀b,ρ b≠0->b<w.heap.size:=fun b hb'=>by
  obtain⟨_,_,cs',T,hx⟩:=hu.free b hb';exact(az.1 hx).1
 refine hs.step k hm hn hlen ?_ ?_ ⟨ρ',?_,?_,?_⟩
 ·intro i u tj;simp only[κ']at tj;split at tj
  ·exact hs.mY i u tj
  ·cases hx:L[i-n]? with
   |none=>simp[hx]at tj
   |some x=>simp[hx]at tj;subst tj;exact(hL x (aE hx)).2.2.2.2
 ·intro j y hj;have hjl:=Hx j y hj;rcases key j y hj with⟨i,x,rfl,hx,rfl⟩|⟨hlt,hy|hy⟩
  ·obtain⟨q1,q2,q3,q4,_⟩:=hL x (aE hx);exact .inr (.inr ⟨q1,q2,x.v,x.cs,x.ns,si i x hx,q3,q4,fun g hg=>hts i x g hx hg,fun b hb'=>vK i x b hx hb'⟩)
  ·exact .inl hy
  ·exact .inr (.inl ⟨hjl,hy⟩)
 ·intro b hb';by_cases h:∃(i:Nat) (x:Fs),L[i]?=some x/\b∈x.ns
  ·obtain⟨i,x,hx,yZ⟩:=h;have hmem:b∈L.flatMap Fs.bl:=bZ.2 ⟨x,aE hx,by simp only[Fs.bl];exact aV.2 (.inr yZ)⟩;exact⟨vK i x b hx yZ,.inl (.inl (dA hs.base (hfr b hmem).1)),(hfr b hmem).2⟩
  ·have:ρ' b=ρ b:=by
    simp only[ρ'];cases hi:ix (fun x:Fs=>x.ns.contains b) L with
    |none=>rfl
    |some i=>
     obtain⟨x,hx,hp⟩:=wI hi;exact absurd ⟨i,x,hx,by simpa using hp⟩ h
   rw[this]at hb';exact qR.1 b hb'
 ·intro j e sz rows hj;have hjl:=Hx j _ hj;rcases key j _ hj with⟨i,x,rfl,hx,hy⟩|⟨hlt,hy|hy⟩
  ·simp only[Fs.ob,Ob.row.injEq,pN]at hy;obtain⟨rfl,rfl,rfl⟩:=hy;obtain⟨q1,q2,q3,q4,_⟩:=hL x (aE hx);have G3:x.ns.Nodup:=by
    have:∀(l:List Fs),(l.flatMap Fs.bl).Nodup->∀x∈l,x.bl.Nodup:=by
     intro l
     induction l with
     |nil=>intro _ x hx;cases hx
     |cons z r ih=>
      intro hnd x hx;simp only[eV]at hnd;obtain⟨n1,n2,_⟩:=bB.1 hnd;rcases bA.1 hx with rfl|hx
      ·exact n1
      ·exact ih n2 x hx
    exact(bB.1 (this L hnd x (aE hx))).2.1
   exact⟨x.v,x.cs,x.ns,si i x hx,q3,q4,G3,fun b hb'=>ZV i x b hx hb'⟩
  ·cases hy
  ·obtain⟨v,cs,bs,q1,q2,q3,q4,q5⟩:=qR.2.1 j e sz rows hjl hy;exact⟨v,cs,bs,q1,q2,q3,q4,fun b hb'=>(GQ b (WQ b (by rw[q5 b hb'];omega))).trans (q5 b hb')⟩
 ·intro j y hj;have hjl:=Hx j _ hj;rcases key j _ hj with⟨i,x,rfl,hx,hy⟩|⟨hlt,hy|hy⟩
  ·subst hy;exact Gl.vb rfl
  ·subst hy;trivial
  ·exact(qR.2.2 j y hjl hy).re fun b hb'=>(GQ b (WQ b (by omega))).trans hb'
theorem dM.VK(hs:dM Γ st κ Θ a w)(hb:Below w.heap.size w w')(L:List Fs)(hL:∀x∈L,x.ok w')(hnd:(L.flatMap Fs.bl).Nodup)(hfr:∀b∈L.flatMap Fs.bl,w.heap.size<=b/\Wr w' b):
 ∃κ' Θ',dM Γ ⟨st.σ,st.H++L.map Fs.ob⟩ κ' Θ' a w'/\Names κ' st.H.length L/\(∀(j:Nat) v,κ j=some v->κ' j=some v)/\(∀b,b∉L.flatMap Fs.ts->Θ' b=Θ b):=by
 obtain⟨κ',Θ',h1,h2,h3,h4,_⟩:=hs.JO hb L hL hnd hfr st.H.length (st.H++L.map Fs.ob) (fun i _=>hs.nB _ (by omega)) (by simp) (by simp) (by
  intro j y hj;by_cases hlt:j<st.H.length
  ·rw[ai hlt]at hj;exact .inr ⟨.inl hlt,.inr hj⟩
  ·rw[au (by omega),bU]at hj;cases hx:L[j-st.H.length]? with
   |none=>simp[hx]at hj
   |some x=>simp[hx]at hj;exact .inl ⟨j-st.H.length,x,by omega,hx,hj.symm⟩)
 exact⟨κ',Θ',h1,h2,h3,h4⟩
def Qo(H:bL)(d:D):Option (D×aP):=match d with
 | .acc m=>(match H[m]? with|some (.row _ _ _ rows)=>some (.sl rows,[m])|some (.tY _ rows _)=>some (.sl rows,[m])|some (.tk rows)=>some (.sl rows,[])|_=>none)
 | .ptr _ _=>none
 | .op _ _ _ _=>none
 |d=>some (d.DS,[])
def Mf(H:bL):aK->Option (aK×aP)
 | []=>some ([],[])
 |d::ds=>match Qo H d,Mf H ds with|some (e,m),some (es,ms)=>some (e::es,m++ms)|_,_=>none
def U2(H:bL)(d:D):Option (D×aP):=match d with
 | .agg cs=>(match Mf H cs with|some (es,ms)=>some (.agg es,ms)|none=>none)
 | .iQ _=>none
 |d=>Qo H d
def DD(H:bL):aK->Option (aK×aP)
 | []=>some ([],[])
 |d::ds=>match U2 H d,DD H ds with|some (e,m),some (es,ms)=>some (e::es,m++ms)|_,_=>none
def Seen(Θ:Nat->Nat)(ms:aP)(b:Nat):Prop:=Θ b=0\/∃m∈ms,Θ b=m+2
theorem Seen.mono{ms ns:aP}{b:Nat}(h:Seen Θ ms b)(hs:∀m∈ms,m∈ns):Seen Θ ns b:=by
 rcases h with h|⟨m,h1,h2⟩
 ·exact .inl h
 ·exact .inr ⟨m,hs m h1,h2⟩
theorem U1(hs:dM Γ st κ Θ a w){v:Value}{d e:D}{bs:aP}{ms:aP}(h:Qo st.H d=some (e,ms))(hr:wO w κ v d bs)(hz:∀b∈bs,Θ b=0):∃b',Rd w v e b'/\∀b∈b',Seen Θ ms b:=by
 cases hr with
 |pure hr=>
  have:Qo st.H d=some (d.DS,[]):=by cases hr<;>rfl
  rw[this]at h;cases h;exact⟨bs,hr.soft,fun b hb=>.inl (hz b hb)⟩
 |acc m _ hk=>
  simp only[Qo]at h;split at h
  ·rename_i k e' sz rows hH;cases h;obtain⟨_,hrl,v2,cs,b2,hk2,hown,qQ,hΘ,hd⟩:=hs.ob m _ hH;rw[hk]at hk2;cases hk2;refine⟨_,uQ hrl hown qQ,fun b hb=>?_⟩;rcases aV.1 hb with hb|hb
   ·simp only[jU]at hb;exact .inr ⟨m,by simp,hΘ b hb⟩
   ·cases k with
    |cl=>exact .inr ⟨m,by simp,(hd.2.1 b hb).1⟩
    |sh=>exact .inl (hd b hb)
    |uq=>exact .inl (hd b hb)
    |mv n=>exact .inl (hd b hb)
  ·rename_i sz rows u hH;cases h;obtain⟨_,_,v2,b2,hk2,hrd,_,Br⟩:=hs.ob m _ hH;rw[hk]at hk2;cases hk2;exact⟨b2,hrd,fun b hb=>.inr ⟨m,by simp,(Br b hb).1⟩⟩
  ·rename_i rows hH;cases h;obtain⟨v2,b2,hk2,hrd,SA⟩:=hs.ob m _ hH;rw[hk]at hk2;cases hk2;exact⟨b2,hrd,fun b hb=>.inl (SA b hb)⟩
  ·cases h
 |ptr=>simp[Qo]at h
 |op=>simp[Qo]at h
theorem Vx(hs:dM Γ st κ Θ a w):∀ {ds es:aK} {vs:bW} {bs ms:aP},Mf st.H ds=some (es,ms)->eZ w κ vs ds bs->(∀b∈bs,Θ b=0)->∃b',jx w vs es b'/\∀b∈b',Seen Θ ms b:=by
 intro ds
 induction ds with
 |nil=>
  intro es vs bs ms h hr _;simp only[Mf,af,cG]at h;obtain⟨rfl,rfl⟩:=h;cases hr;exact⟨[],.nil,by simp⟩
 |cons d ds ih=>
  intro es vs bs ms h hr hz;simp only[Mf]at h;split at h
  ·rename_i e m es' ms' h1 h2;cases h;cases hr with
   |cons v vs _ _ b1 b2 hv hc hcs=>
    obtain⟨c1,q1,q2⟩:=U1 hs h1 hc (fun b hb=>hz b (by simp[hb]));obtain⟨c2,p1,p2⟩:=ih h2 hcs (fun b hb=>hz b (by simp[hb]));refine⟨c1++c2,.cons _ _ _ _ _ _ hv q1 p1,fun b hb=>?_⟩;rcases aV.1 hb with hb|hb
    ·exact(q2 b hb).mono (fun m hm=>by simp[hm])
    ·exact(p2 b hb).mono (fun m hm=>by simp[hm])
  ·cases h
theorem ZD(hs:dM Γ st κ Θ a w){v:Value}{d e:D}{bs ms:aP}(h:U2 st.H d=some (e,ms))(hr:oq w κ v d bs)(hz:∀b∈bs,Θ b=0):∃b',Rd w v e b'/\∀b∈b',Seen Θ ms b:=by
 by_cases qe:∃ds,d=.agg ds
 ·obtain⟨ds,rfl⟩:=qe;obtain⟨cs,rfl,hcs⟩:=hr.CG;simp only[U2]at h;split at h
  ·rename_i es ms' h1;cases h;obtain⟨b',q1,q2⟩:=Vx hs h1 hcs hz;exact⟨b',.agg _ _ _ q1,q2⟩
  ·cases h
 ·have hc:wO w κ v d bs:=by
   cases hr with
   |v hr=>cases hr with
    |cell hr=>exact hr
    |agg=>exact absurd ⟨_,rfl⟩ qe
   |iQ=>simp[U2]at h
  have e1:U2 st.H d=Qo st.H d:=by
   cases d<;>first|rfl|exact absurd ⟨_,rfl⟩ qe|simp[U2]at h
  rw[e1]at h;exact U1 hs h hc hz
theorem HN(hs:dM Γ st κ Θ a w):∀ {xs:List Operand} {es:aK} {ms:aP},DD st.H (xs.map st.ev)=some (es,ms)->∃b',OH w (xs.map a.eval) es b'/\∀b∈b',Seen Θ ms b:=by
 intro xs
 induction xs with
 |nil=>
  intro es ms h;simp only[cA,DD,af,cG]at h;obtain⟨rfl,rfl⟩:=h;exact⟨[],.nil,by simp⟩
 |cons x xs ih=>
  intro es ms h;simp only[bO,DD]at h;split at h
  ·rename_i e m es' ms' h1 h2;cases h;obtain⟨b0,r0,z0⟩:=hs.ev x;obtain⟨c1,q1,q2⟩:=ZD hs h1 r0 z0;obtain⟨c2,p1,p2⟩:=ih h2;refine⟨c1++c2,.cons _ _ _ _ _ _ q1 p1,fun b hb=>?_⟩;rcases aV.1 hb with hb|hb
   ·exact(q2 b hb).mono (fun m hm=>by simp[hm])
   ·exact(p2 b hb).mono (fun m hm=>by simp[hm])
  ·cases h
def D.UN(d:D):D:=match d with
 | .fr _ _ rows=>.sl rows
 |d=>d
def D.UO(d:D):D:=match d with
 | .agg cs=>.agg (cs.map D.UN)
 |d=>d.UN
theorem qk.AN{w:World}:∀ {ds:aK} {vs:bW} {bs:aP},jx w vs ds bs->qk w vs ds bs [] []:=by
 intro ds
 induction ds with
 |nil=>intro vs bs h;cases h;exact .nil
 |cons d ds ih=>
  intro vs bs h;cases h with
  |cons v vs _ _ b1 b2 h1 h2 h3=>exact .cons _ _ _ _ _ _ [] [] [] [] h1 (.pure h2) (ih h3)
theorem CS.A7{w:World}{v:Value}{d:D}{bs ts us:aP}(h:CS w v d bs ts us):∃b,Rd w v d.UN b/\∀x∈b,x∈bs\/x∈us:=by
 cases h with
 |pure h=>
  have e:d.UN=d:=by cases h<;>rfl
  exact⟨_,e.symm▸h,fun x hx=>.inl hx⟩
 |fr e sz rows cs ns h1 h2 h3 h4 h5=>exact⟨_,uQ h2 h3 h4,fun x hx=>.inr hx⟩
theorem qk.A7{w:World}{vs:bW}{ds:aK}{bs ts us:aP}(h:qk w vs ds bs ts us):∃b,jx w vs (ds.map D.UN) b/\∀x∈b,x∈bs\/x∈us:=by
 induction h with
 |nil=>exact⟨_,.nil,by simp⟩
 |cons v vs d ds b1 b2 t1 t2 u1 u2 h1 h2 _ ih=>
  obtain⟨b,q,s⟩:=h2.A7;obtain⟨b',q',s'⟩:=ih;refine⟨_,.cons _ _ _ _ _ _ h1 q q',fun x hx=>?_⟩;rcases aV.1 hx with h|h
  ·rcases s x h with h|h<;>simp[h]
  ·rcases s' x h with h|h<;>simp[h]
theorem CT.A7{w:World}{v:Value}{d:D}{bs ts us:aP}(h:CT w v d bs ts us):∃b,Rd w v d.UO b/\∀x∈b,x∈bs\/x∈us:=by
 cases h with
 |cell h=>
  by_cases qe:∃ds,d=.agg ds
  ·obtain⟨ds,rfl⟩:=qe;cases h with
   |pure h=>cases h with
    |agg cs _ _ h=>
     obtain⟨b,q,s⟩:=(qk.AN h).A7;exact⟨_,.agg _ _ _ q,s⟩
  ·have e:d.UO=d.UN:=by cases d<;>first|rfl|exact absurd ⟨_,rfl⟩ qe
   rw[e];exact h.A7
 |agg cs ds bs ts us h=>
  obtain⟨b,q,s⟩:=h.A7;exact⟨_,.agg _ _ _ q,s⟩
def D.QC(d:D):Bool:=match d with
 | .fr _ _ _=>true
 |d=>d.flat
def D.MO(d:D):Bool:=match d with
 | .agg cs=>cs.all D.QC
 |d=>d.QC
def D.IQ(d:D):Bool:=match d with
 | .iQ vs=>vs.all D.MO
 |d=>d.MO
def D.Yf(d:D):Bool:=match d with
 | .iQ _=>false
 |d=>d.MO
theorem CS.own{v:Value}{d:D}{bs ts us:aP}(h:CS w v d bs ts us)(ho:d.QC=true):bs=[]:=by
 cases h with
 |pure h=>exact h.flat (by cases h<;>exact ho)
 |fr=>rfl
theorem qk.own{vs:bW}{ds:aK}{bs ts us:aP}(h:qk w vs ds bs ts us)(ho:ds.all D.QC=true):bs=[]:=by
 induction h with
 |nil=>rfl
 |cons v vs d ds b1 b2 t1 t2 u1 u2 h1 h2 _ ih=>
  simp only[dX,aR]at ho;rw[h2.own ho.1,ih ho.2];rfl
theorem CT.own{v:Value}{d:D}{bs ts us:aP}(h:CT w v d bs ts us)(ho:d.MO=true):bs=[]:=by
 cases h with
 |cell h=>
  by_cases qe:∃ds,d=.agg ds
  ·obtain⟨ds,rfl⟩:=qe;cases h with
   |pure h=>
    cases h with
    |agg cs _ _ h=>
     simp only[D.MO]at ho;have:∀(es:aK) (vs:bW) (b:aP),jx w vs es b->es.all D.QC=true->es.all D.flat=true:=by
      intro es
      induction es with
      |nil=>intros;rfl
      |cons e es ih=>
       intro vs b hh ho;simp only[dX,aR]at ho⊢;cases hh with
       |cons v vs _ _ b1 b2 _ h2 h3=>exact⟨by cases h2<;>exact ho.1,ih _ _ h3 ho.2⟩
     exact jx.flat h (this _ _ _ h ho)
  ·have e:d.MO=d.QC:=by cases d<;>first|rfl|exact absurd ⟨_,rfl⟩ qe
   exact h.own (e▸ho)
 |agg cs ds bs ts us h=>exact h.own ho
theorem xk.own{vs:bW}{ds:aK}{bs ts us:aP}(h:xk w vs ds bs ts us)(ho:ds.all D.MO=true):bs=[]:=by
 induction h with
 |nil=>rfl
 |cons v vs d ds b1 b2 t1 t2 u1 u2 h2 _ ih=>
  simp only[dX,aR]at ho;rw[h2.own ho.1,ih ho.2];rfl
theorem yH.own{v:Value}{d:D}{bs ts us:aP}(h:yH w v d bs ts us)(ho:d.IQ=true):bs=[]:=by
 cases h with
 |v h=>
  have hnt:∀vs,d≠ .iQ vs:=by
   intro vs e;subst e;cases h with
   |cell h=>cases h with|pure h=>cases h
  have e:d.IQ=d.MO:=by cases d<;>first|rfl|exact absurd rfl (hnt _)
  exact h.own (e▸ho)
 |iQ vs ds bs ts us h=>exact h.own ho
theorem tg{o:Oper}{f:FuncId}{xs:Array Operand}{ts:Array TypeId}(hop:o.op=.call {callee:=.value (.func f),args:=xs,argTypes:=ts})
 (hf:∃fn,P.funcs[f]?=some fn/\fn.body.isSome=true/\(fn.name== "runtime.NumGoroutine")=false):
 (execOp a.eval o).run P w=.ok (.enter f (xs.map a.eval)) w:=by
 obtain⟨fn,h1,h2,h3⟩:=hf;have h2':¬fn.body=none:=by intro hb;simp[hb]at h2
 simp only[cy,ne_eq]at h3;simp[execOp,hop,resolve,Deferred.ofValue,Act.eval,invoke,callFunc,h1,h2',h3]
theorem Lh{Q':Exit->Act->World->Prop}{K:Act->World->Prop}{o:Oper}{f t:Nat}{xs:Array Operand}{ts:Array TypeId}{ds:aK}{ms:aP}{d:D}(hs:dM Γ st κ Θ a w)
 (hop:o.op=.call {callee:=.value (.func f),args:=xs,argTypes:=ts}) (hd:o.dst=some t) (ht:t<Γ.nt) (hds:∃bs,OH w (xs.toList.map a.eval) ds bs/\∀b∈bs,Seen Θ ms b) (hsh:ms=[]\/d.IQ=true)
 (kq:Good P f ds d) (hK:∀κ' Θ' a' w',dM Γ ⟨(t,(lY st.H.length d).1)::st.σ,st.H++(lY st.H.length d).2⟩ κ' Θ' a' w'->K a' w'):o.wp P a w K Q':=by
 obtain⟨bs,hargs,hz⟩:=hds;let Θc:Nat->Nat:=fun b=>if Θ b=0\/ms.any (fun m=>Θ b==m+2)then 0 else 1
 have GP:∀b,Seen Θ ms b->Θc b=0:=by
  intro b h;simp only[Θc];rw[bE];rcases h with h|⟨m,h1,h2⟩
  ·exact .inl h
  ·exact .inr (cT.2 ⟨m,h1,by simp[h2]⟩)
 have hc:=kq.2 w Θc _ bs hs.Zd hargs (fun b hb=>GP b (hz b hb)) (fun b hb=>hs.own b (fun e=>hb (GP b (.inl e)))) (fun b=>by simp only[Θc];split<;>omega);unfold Oper.wp;rw[tg hop kq.1,Oper.upon_enter];have e:xs.map a.eval=(xs.toList.map a.eval).toArray:=by rw[<-fy,j8]
 rw[e];refine hc.mono ?_;rintro e w' ⟨v,bs',tb,ub,rfl,hb,hr,Ii,htb,hnd,hfr,hsub⟩;show K (a.put o.dst v) w';rw[hd];obtain⟨L,q1,q2,q3,q4,q5⟩:=hr.inst st.H.length;obtain⟨κ',Θ',hs',hnm,_,hno⟩:=hs.VK hb L q2 (q3▸hnd) (fun b hb'=>hfr b (q3▸hb'));rw[q1]at hs';refine hK κ' Θ' _ w' (hs'.set (t:=t) ht (q5 κ' hnm) fun b hb'=>?_);rw[hno b (q4▸htb b hb')];rcases hsh with Iu|hown
 ·by_cases hlt:b<w.heap.size
  ·have h0:=Ii b hb' hlt;simp only[Θc,Iu,EF]at h0;by_cases h1:Θ b=0
   ·exact h1
   ·simp[h1]at h0
  ·by_cases h0:Θ b=0
   ·exact h0
   ·exact absurd (hs.own b h0) hlt
 ·rw[hr.own hown]at hb';cases hb'
theorem Uh{Q':Exit->Act->World->Prop}{K:Act->World->Prop}{o:Oper}{f t:Nat}{xs:Array Operand}{ts:Array TypeId}{ds:aK}{ms:aP}{d:D}(hs:dM Γ st κ Θ a w)
 (hop:o.op=.call {callee:=.value (.func f),args:=xs,argTypes:=ts}) (hd:o.dst=some t) (ht:t<Γ.nt) (hds:DD st.H (xs.toList.map st.ev)=some (ds,ms)) (hsh:ms=[]\/d.IQ=true)
 (kq:Good P f ds d) (hK:∀κ' Θ' a' w',dM Γ ⟨(t,(lY st.H.length d).1)::st.σ,st.H++(lY st.H.length d).2⟩ κ' Θ' a' w'->K a' w'):o.wp P a w K Q':=
 Lh hs hop hd ht (HN hs hds) hsh kq hK
def GU(d:D):Bool:=match d with
 | .agg cs=>cs.all D.LK
 | .iQ _=>false
 |d=>d.LK
theorem Sa{v:Value}{d:D}{bs:aP}(hr:oq w κ v d bs)(h:GU d=true):Rd w v d bs:=by
 by_cases qe:∃ds,d=.agg ds
 ·obtain⟨ds,rfl⟩:=qe;obtain⟨cs,rfl,hcs⟩:=hr.CG;exact .agg _ _ _ (hcs.pure h)
 ·have hp:d.LK=true:=by
   cases d<;>first|exact h|exact absurd ⟨_,rfl⟩ qe|simp[GU]at h
  cases hr with
  |v hr=>cases hr with
   |cell hr=>cases hr with
    |pure hr=>exact hr
    |acc=>simp[D.LK]at hp
    |ptr=>simp[D.LK]at hp
    |op=>simp[D.LK]at hp
   |agg=>exact absurd ⟨_,rfl⟩ qe
  |iQ=>simp[GU]at h
theorem JP(hs:dM Γ st κ Θ a w):∀ {xs:List Operand},(xs.map st.ev).all GU=true->∃b',OH w (xs.map a.eval) (xs.map st.ev) b'/\∀b∈b',Seen Θ [] b:=by
 intro xs
 induction xs with
 |nil=>intro _;exact⟨[],.nil,by simp⟩
 |cons x xs ih=>
  intro h;simp only[bO,dX,aR]at h;obtain⟨b0,r0,z0⟩:=hs.ev x;obtain⟨c2,p1,p2⟩:=ih h.2;refine⟨b0++c2,.cons _ _ _ _ _ _ (Sa r0 h.1) p1,fun b hb=>?_⟩;rcases aV.1 hb with hb|hb
  ·exact .inl (z0 b hb)
  ·exact p2 b hb
theorem Qv{o:Oper}{f t:Nat}{xs:Array Operand}{ts:Array TypeId}{d:D}(hop:o.op=.call {callee:=.value (.func f),args:=xs,argTypes:=ts})(hd:o.dst=some t)(hg:o.guard=none)
 (ht:t<Γ.nt) (hk:(xs.toList.map st.ev).all GU=true) (kq:Good P f (xs.toList.map st.ev) d)
 (h:AO P Γ all rest Q ⟨(t,(lY st.H.length d).1)::st.σ,st.H++(lY st.H.length d).2⟩):AO P Γ all (o::rest) Q st:=by
 intro κ Θ a w hs;exact wpList_plain hg fun K hK=>Lh hs hop hd ht (JP hs hk) (.inl rfl) kq fun κ' Θ' a' w' hs'=>hK _ _ (h κ' Θ' a' w' hs')
theorem UR{o:Oper}{f t:Nat}{xs:Array Operand}{ts:Array TypeId}{ds:aK}{ms:aP}{d:D}(hop:o.op=.call {callee:=.value (.func f),args:=xs,argTypes:=ts})(hd:o.dst=some t)(hg:o.guard=none)
 (ht:t<Γ.nt) (hds:DD st.H (xs.toList.map st.ev)=some (ds,ms)) (hsh:ms=[]\/d.IQ=true) (kq:Good P f ds d)
 (h:AO P Γ all rest Q ⟨(t,(lY st.H.length d).1)::st.σ,st.H++(lY st.H.length d).2⟩):AO P Γ all (o::rest) Q st:=by
 intro κ Θ a w hs;exact wpList_plain hg fun K hK=>Uh hs hop hd ht hds hsh kq fun κ' Θ' a' w' hs'=>hK _ _ (h κ' Θ' a' w' hs')
def T9(P:Program)(st:St):ResultVar->Option D
 | .tmp t=>some (lk st.σ t)
 | .cell x T=>match xU P T,lk st.σ x with
  |some ag,.ptr id off=>(match(st.H[id]?).bind Ob.Pg with|some cells=>DO ag (wS P T) cells off|none=>none)
  |_,_=>none
def DP(P:Program)(st:St):List ResultVar->Option aK
 | []=>some []
 |r::rs=>match T9 P st r,DP P st rs with|some d,some ds=>some (d::ds)|_,_=>none
def TB(tmps:Array Value):ResultVar->Sem Value
 | .tmp t=>pure (tmps.getD t undef)
 | .cell a t=>do loadVar t (<-asAddr (tmps.getD a undef))
theorem results_eq(fn:Func)(tmps:Array Value):results fn tmps=(do let vs<-fn.results.mapM (TB tmps);pure (if h:vs.size=1 then vs[0]else .tuple vs)):=by
 unfold results
 congr 1
theorem TA(hs:dM Γ st κ Θ a w){r:ResultVar}{d:D}(h:T9 P st r=some d):
 ∃v bs,(TB a.tmps r).run P w=.ok v w/\oq w κ v d bs/\∀b∈bs,Θ b=0:=by
 cases r with
 |tmp t=>
  simp only[T9,af]at h;subst h;obtain⟨bs,hr,hz⟩:=hs.slot t;exact⟨_,bs,by simp[TB],hr,hz⟩
 |cell x T=>
  have hp:pv P st (.load T (.tmp x))=some d:=by
   simp only[T9]at h;split at h
   ·rename_i ag id off h1 h2;simp only[pv,h1,St.ev,h2];exact h
   ·cases h
  obtain⟨v,bs,hrun,hr,hz⟩:=IC (o:= {(default:Oper)with op:=.load T (.tmp x)}) hs rfl hp;refine⟨v,bs,?_,hr,hz⟩;simp only[execOp,Act.eval]at hrun;have a3R:∃b off,a.tmps.getD x undef=.pointer (some ⟨b,off,none⟩):=by
   simp only[T9]at h;split at h
   ·rename_i ag id off h1 h2;obtain⟨b0,r0,_⟩:=hs.slot x;rw[h2]at r0;obtain⟨g,_,hv⟩:=r0.wJ;exact⟨g,off,hv⟩
   ·cases h
  obtain⟨b,off,hv⟩:=a3R;simp only[TB,hv]at hrun⊢;simp only[Instr.loadAt,Instr.sureAddr,Sem.run_bind,Sem.run_pure,Result.andThen_ok]at hrun;simp only[asAddr,Sem.run_bind,Sem.run_pure,Result.andThen_ok];cases hl:(loadVar T ⟨b,off,none⟩).run P w with
  |ok u w1=>simp only[hl,Result.andThen_ok,Result.ok.injEq,Next.value.injEq]at hrun;rw[hrun.1,hrun.2]
  |halt u w1=>simp[hl]at hrun
theorem CK(hs:dM Γ st κ Θ a w):∀ {rs:List ResultVar} {ds:aK},DP P st rs=some ds->
 ∃(vs:bW) (bs:aP),(rs.mapM (TB a.tmps)).run P w=.ok vs w/\
  vs.length=rs.length/\ds.length=rs.length/\(∀(i:Nat) d,ds[i]?=some d->∃v b,vs[i]?=some v/\oq w κ v d b/\∀x∈b,x∈bs)/\∀b∈bs,Θ b=0:=by
 intro rs
 induction rs with
 |nil=>
  intro ds h;simp only[DP,af]at h;subst h;exact⟨[],[],by simp,rfl,rfl,by simp,by simp⟩
 |cons r rs ih=>
  intro ds h;simp only[DP]at h;split at h
  ·rename_i d ds' h1 h2;cases h;obtain⟨v,b,k1,k2,k3⟩:=TA hs h1;obtain⟨vs,bs,m1,m2,m3,m4,m5⟩:=ih h2;refine⟨v::vs,b++bs,?_,by simp[m2],by simp[m3],?_,?_⟩
   ·simp only[B4,Sem.run_bind,k1,Result.andThen_ok,m1,Sem.run_pure]
   ·intro i x hx;cases i with
    |zero=>simp at hx;subst hx;exact⟨v,b,by simp,k2,by intro y hy;simp[hy]⟩
    |succ i=>
     simp at hx;obtain⟨u,b',q1,q2,q3⟩:=m4 i x hx;exact⟨u,b',by simpa using q1,q2,fun y hy=>by simp[q3 y hy]⟩
   ·intro y hy;rcases aV.1 hy with hy|hy
    ·exact k3 y hy
    ·exact m5 y hy
  ·cases h
def GY:aK->D
 | [d]=>d
 |ds=>.iQ ds
def wi:Nat->aK->List (Nat×D)
 |_,[]=>[]
 |k,d::ds=>(k,d)::wi (k+1) ds
theorem F0:∀(ds:aK) (k t:Nat),lk (wi k ds) t=if t<k then .any else(ds[t-k]?).getD .any:=by
 intro ds
 induction ds with
 |nil=>intro k t;simp[wi,lk]
 |cons d ds ih=>
  intro k t;simp only[wi,lk];by_cases h:t=k
  ·subst h;simp
  ·rw[av h,ih];by_cases h1:t<k
   ·rw[bE (by omega),bE h1]
   ·rw[av (by omega),av h1];have:t-k=(t-(k+1))+1:=by omega
    rw[this,fF]
theorem OH.at{vs:bW}{ds:aK}{bs:aP}(h:OH w vs ds bs):vs.length=ds.length/\∀(i:Nat) d,ds[i]?=some d->∃v b,vs[i]?=some v/\Rd w v d b/\∀x∈b,x∈bs:=by
 induction ds generalizing vs bs with
 |nil=>cases h;exact⟨rfl,by simp⟩
 |cons e ds ih=>
  cases h with
  |cons v vs _ _ b1 b2 h2 h3=>
   obtain⟨l,hi⟩:=ih h3;refine⟨by simp[l],fun i d hd=>?_⟩;cases i with
   |zero=>simp at hd;subst hd;exact⟨v,b1,by simp,h2,by intro x hx;simp[hx]⟩
   |succ i=>
    simp at hd;obtain⟨u,b,k1,k3,k4⟩:=hi i d hd;exact⟨u,b,by simpa using k1,k3,fun x hx=>by simp[k4 x hx]⟩
def kj(d:D):Prop:=∃w v bs,Rd w v d bs
theorem jx.rdb{vs:bW}{ds:aK}{bs:aP}(h:jx w vs ds bs):∀d∈ds,kj d:=by
 intro d hd;obtain⟨i,hi,rfl⟩:=dY.1 hd;obtain⟨v,b,_,_,hr,_⟩:=h.at (aT hi);exact⟨w,v,b,hr⟩
theorem kj.agg{ds:aK}(h:kj (.agg ds)):∀d∈ds,kj d:=by
 obtain⟨w,v,bs,h⟩:=h;cases h with|agg cs _ _ hx=>exact hx.rdb
theorem kj.sl{rows:List aK}(h:kj (.sl rows)):rows.length<=maxLen/\∀r∈rows,∀d∈r,kj d:=by
 obtain⟨w,v,bs,h⟩:=h;cases h with
 |w8=>simp
 |mD=>simp
 |sl b off cap sz _ cs bs hb h1 h2 h3 h4 h5=>
  exact⟨by omega,fun r hr d hd=>h5.rdb d (fG.2 ⟨r,hr,hd⟩)⟩
theorem OH.rdb{vs:bW}{ds:aK}{bs:aP}(h:OH w vs ds bs):∀d∈ds,kj d:=by
 intro d hd;obtain⟨i,hi,rfl⟩:=dY.1 hd;obtain⟨v,b,_,hr,_⟩:=h.at.2 i _ (aT hi);exact⟨w,v,b,hr⟩
def Sv(z:Option (Nat×Nat))(d:D):D:=match d,z with
 | .nil,some (e,sz+1)=>.fr e (sz+1) []
 |d,_=>d.DS
def Az(H:bL)(z:Option (Nat×Nat))(d:D):Option (D×aP×aP):=match d with
 | .acc m=>(match H[m]? with|some (.row k e sz rows)=>(match k with| .uq=>some (.fr e sz rows,[],[m])| .sh=>some (.sl rows,[m],[])| .cl=>none| .mv _=>none)|_=>none)
 | .ptr _ _=>none
 | .op _ _ _ _=>none
 | .agg _=>none
 | .iQ _=>none
 |d=>some (Sv z d,[],[])
def Gd(H:bL):List (Option (Nat×Nat))->aK->Option (aK×aP×aP)
 |_,[]=>some ([],[],[])
 |zs,d::ds=>match Az H zs.head?.join d,Gd H zs.tail ds with|some (e,m,q),some (es,ms,qs)=>some (e::es,m++ms,q++qs)|_,_=>none
def No(H:bL)(zs:List (Option (Nat×Nat)))(d:D):Option (D×aP×aP):=match d with
 | .agg cs=>(match Gd H zs cs with|some (es,ms,qs)=>some (.agg es,ms,qs)|none=>none)
 |d=>Az H zs.head?.join d
def xR(H:bL):List (List (Option (Nat×Nat)))->aK->Option (aK×aP×aP)
 |_,[]=>some ([],[],[])
 |zs,d::ds=>match No H (zs.head?.getD []) d,xR H zs.tail ds with|some (e,m,q),some (es,ms,qs)=>some (e::es,m++ms,q++qs)|_,_=>none
def RC(P:Program)(fn:Func)(d:D)(e:Exit)(st:St):Prop:=
 (e=.ret\/e=.normal)/\∃nz ds es ms qs,DP P st fn.results.toList=some ds/\xR st.H nz ds=some (es,ms,qs)/\ms.Nodup/\qs.Nodup/\GY es=d
structure RP(Θ ρ:Nat->Nat)(qs bs ts us:List Nat):Prop where
 zero:∀b∈bs,Θ b=0
 top:∀b∈ts,(∃m∈qs,Θ b=m+2)/\b∈us
 mem:∀b∈us,b∈ts\/∃m∈qs,ρ b=m+1
 nd:us.Nodup
theorem RP.nil{ρ:Nat->Nat}{bs:aP}(h:∀b∈bs,Θ b=0):RP Θ ρ [] bs [] []:=⟨h,by simp,by simp,by simp⟩
theorem RP.app{ρ:Nat->Nat}{q1 q2 b1 b2 t1 t2 u1 u2:aP}(hf:∀b,ρ b≠0->Θ b=0)(hq:(q1++q2).Nodup)(h1:RP Θ ρ q1 b1 t1 u1)(h2:RP Θ ρ q2 b2 t2 u2):RP Θ ρ (q1++q2) (b1++b2) (t1++t2) (u1++u2):=by
 refine⟨fun b hb=>?_,fun b hb=>?_,fun b hb=>?_,bB.2 ⟨h1.nd,h2.nd,fun x hx y hy e=>?_⟩⟩
 ·rcases aV.1 hb with hb|hb
  ·exact h1.zero b hb
  ·exact h2.zero b hb
 ·rcases aV.1 hb with hb|hb
  ·obtain⟨⟨m,p,q⟩,r⟩:=h1.top b hb;exact⟨⟨m,by simp[p],q⟩,by simp[r]⟩
  ·obtain⟨⟨m,p,q⟩,r⟩:=h2.top b hb;exact⟨⟨m,by simp[p],q⟩,by simp[r]⟩
 ·rcases aV.1 hb with hb|hb
  ·rcases h1.mem b hb with h|⟨m,p,q⟩
   ·exact .inl (by simp[h])
   ·exact .inr ⟨m,by simp[p],q⟩
  ·rcases h2.mem b hb with h|⟨m,p,q⟩
   ·exact .inl (by simp[h])
   ·exact .inr ⟨m,by simp[p],q⟩
 ·subst e;have hd:=(bB.1 hq).2.2;rcases h1.mem x hx with hx|⟨m,p,q⟩
  ·obtain⟨⟨m,p,q⟩,_⟩:=h1.top x hx;rcases h2.mem x hy with hy|⟨m',p',q'⟩
   ·obtain⟨⟨m',p',q'⟩,_⟩:=h2.top x hy;exact hd m p m' p' (by omega)
   ·have:=hf x (by omega);omega
  ·rcases h2.mem x hy with hy|⟨m',p',q'⟩
   ·obtain⟨⟨m',p',q'⟩,_⟩:=h2.top x hy;have:=hf x (by omega);omega
   ·exact hd m p m' p' (by omega)
theorem ML(z:Option (Nat×Nat)){v:Value}{d:D}{b0:aP}(hr:Rd w v d b0):∃bs,CS w v (Sv z d) bs [] []/\∀b∈bs,b∈b0:=by
 unfold Sv;split
 ·rename_i e sz;cases hr;refine⟨[],?_,by simp⟩;have:=CS.fr (w:=w) (.slice none 0 0) e (sz+1) [] [] [] (Nat.succ_pos _) (by simp) (World.ownsRow_nil w 0 e (sz+1)) .nil rfl;simpa[Value.ownBlock]using this
 ·exact⟨b0,.pure hr.soft,fun _ h=>h⟩
section
variable{H:bL}{ρ:Nat->Nat}(hf:∀b,ρ b≠0->Θ b=0)
 (hq:∀m e sz rows,H[m]?=some (.row .uq e sz rows)->∃v cs ns,κ m=some v/\0<sz/\(∀r∈rows,r.length=sz)/\w.ownsRow 0 e sz v rows.length cs/\jx w cs rows.flatten ns/\ns.Nodup/\(∀b∈ns,ρ b=m+1)/\∀g,v.ownBlock=some g->Θ g=m+2)
include hf hq
theorem MS{z:Option (Nat×Nat)}{d e:D}{ms qs:aP}{v:Value}{b0:aP}(h:Az H z d=some (e,ms,qs))(hone:v.oneCell'=true)(hr:wO w κ v d b0)(hz:∀b∈b0,Θ b=0)
 (hm:∀m∈ms,∀k e sz rows,H[m]?=some (.row k e sz rows)->we κ Θ ρ w m k rows):∃bs ts us,CS w v e bs ts us/\RP Θ ρ qs bs ts us:=by
 cases hr with
 |pure hr=>
  have:Az H z d=some (Sv z d,[],[]):=by cases hr<;>first|rfl|simp[Az]at h
  rw[this]at h;cases h;obtain⟨bs,hb,Ii⟩:=ML z hr;exact⟨bs,[],[],hb,RP.nil (fun b hb'=>hz b (Ii b hb'))⟩
 |acc m _ hk=>
  simp only[Az]at h;split at h
  ·rename_i k e' sz rows hH;split at h
   ·cases h;obtain⟨v2,cs,ns,r1,r2,r3,r4,r5,r6,r7,r8⟩:=hq m _ _ _ hH;rw[hk]at r1;cases r1;refine⟨[],_,_,.fr v _ _ _ cs ns r2 r3 r4 r5 hone,by simp,fun b hb=>?_,fun b hb=>?_,?_⟩
    ·simp only[jU]at hb;exact⟨⟨m,by simp,r8 b hb⟩,by simp[hb]⟩
    ·rcases aV.1 hb with hb|hb
     ·exact .inl hb
     ·exact .inr ⟨m,by simp,r7 b hb⟩
    ·refine bB.2 ⟨by cases v.ownBlock<;>simp,r6,fun x hx y hy exy=>?_⟩;subst exy;simp only[jU]at hx;have h1:=r8 x hx;have h2:=hf x (by rw[r7 x hy];omega);omega
   ·cases h;obtain⟨v2,bs,r1,r2,r3,_⟩:=hm m (by simp) _ _ _ _ hH;rw[hk]at r1;cases r1;exact⟨bs,[],[],.pure r2,RP.nil r3⟩
   ·cases h
   ·cases h
  ·cases h
 |ptr=>simp[Az]at h
 |op=>simp[Az]at h
theorem QI:∀ {ds es:aK} {zs:List (Option (Nat×Nat))} {ms qs:aP} {vs:bW} {b0:aP},Gd H zs ds=some (es,ms,qs)->qs.Nodup->eZ w κ vs ds b0->(∀b∈b0,Θ b=0)->
 (∀m∈ms,∀k e sz rows,H[m]?=some (.row k e sz rows)->we κ Θ ρ w m k rows)->∃bs ts us,qk w vs es bs ts us/\RP Θ ρ qs bs ts us:=by
 intro ds
 induction ds with
 |nil=>
  intro es zs ms qs vs b0 h _ hr _ _;simp only[Gd,af,cG]at h;obtain⟨rfl,rfl,rfl⟩:=h;cases hr;exact⟨[],[],[],.nil,RP.nil (by simp)⟩
 |cons d ds ih=>
  intro es zs ms qs vs b0 h hnd hr hz hm;simp only[Gd]at h;split at h
  ·rename_i e m q es' ms' qs' h1 h2;cases h;cases hr with
   |cons v vs _ _ b1 b2 hv hc hcs=>
    obtain⟨c1,t1,u1,q1,q2⟩:=MS hf hq h1 hv hc (fun b hb=>hz b (by simp[hb])) (fun x hx=>hm x (by simp[hx]));obtain⟨c2,t2,u2,p1,p2⟩:=ih h2 (bB.1 hnd).2.1 hcs (fun b hb=>hz b (by simp[hb])) (fun x hx=>hm x (by simp[hx]));exact⟨_,_,_,.cons _ _ _ _ _ _ _ _ _ _ hv q1 p1,RP.app hf hnd q2 p2⟩
  ·cases h
theorem TC(hk1:∀(i:Nat) u,κ i=some u->u.oneCell'=true){zs:List (Option (Nat×Nat))}{d e:D}{ms qs:aP}{v:Value}{b0:aP}(h:No H zs d=some (e,ms,qs))(hnd:qs.Nodup)(hr:oq w κ v d b0)(hz:∀b∈b0,Θ b=0)
 (hm:∀m∈ms,∀k e sz rows,H[m]?=some (.row k e sz rows)->we κ Θ ρ w m k rows):∃bs ts us,CT w v e bs ts us/\RP Θ ρ qs bs ts us:=by
 by_cases qe:∃ds,d=.agg ds
 ·obtain⟨ds,rfl⟩:=qe;obtain⟨cs,rfl,hcs⟩:=hr.CG;simp only[No]at h;split at h
  ·rename_i es ms' qs' h1;cases h;obtain⟨bs,ts,us,q1,q2⟩:=QI hf hq h1 hnd hcs hz hm;exact⟨bs,ts,us,.agg _ _ _ _ _ q1,q2⟩
  ·cases h
 ·have e1:No H zs d=Az H zs.head?.join d:=by cases d<;>first|rfl|exact absurd ⟨_,rfl⟩ qe
  rw[e1]at h;have hc:wO w κ v d b0:=by
   cases hr with
   |v hr=>cases hr with
    |cell hr=>exact hr
    |agg=>exact absurd ⟨_,rfl⟩ qe
   |iQ=>simp[Az]at h
  cases hc with
  |pure hr=>
   have:Az H zs.head?.join d=some (Sv zs.head?.join d,[],[]):=by cases hr<;>first|rfl|simp[Az]at h
   rw[this]at h;cases h;obtain⟨bs,hb,Ii⟩:=ML zs.head?.join hr;exact⟨bs,[],[],.cell hb,RP.nil (fun b hb'=>hz b (Ii b hb'))⟩
  |acc m _ hk=>
   obtain⟨bs,ts,us,q1,q2⟩:=MS hf hq h (hk1 _ _ hk) (.acc m _ hk) (by simp) hm;exact⟨bs,ts,us,.cell q1,q2⟩
  |ptr=>simp[Az]at h
  |op=>simp[Az]at h
theorem zF(hk1:∀(i:Nat) u,κ i=some u->u.oneCell'=true):∀ {ds es:aK} {zs:List (List (Option (Nat×Nat)))} {ms qs:aP} {vs:bW},xR H zs ds=some (es,ms,qs)->qs.Nodup->vs.length=ds.length->
 (∀(i:Nat) d,ds[i]?=some d->∃v b,vs[i]?=some v/\oq w κ v d b/\∀x∈b,Θ x=0)->
 (∀m∈ms,∀k e sz rows,H[m]?=some (.row k e sz rows)->we κ Θ ρ w m k rows)->∃bs ts us,xk w vs es bs ts us/\RP Θ ρ qs bs ts us:=by
 intro ds
 induction ds with
 |nil=>
  intro es zs ms qs vs h _ hl _ _;simp only[xR,af,cG]at h;obtain⟨rfl,rfl,rfl⟩:=h;cases vs with
  |nil=>exact⟨[],[],[],.nil,RP.nil (by simp)⟩
  |cons=>simp at hl
 |cons d ds ih=>
  intro es zs ms qs vs h hnd hl hr hm;simp only[xR]at h;split at h
  ·rename_i e m q es' ms' qs' h1 h2;cases h;cases vs with
   |nil=>simp at hl
   |cons v vs=>
    obtain⟨v',b0,ZW,hr0,vK⟩:=hr 0 d rfl;simp at ZW;subst ZW;obtain⟨c1,t1,u1,q1,q2⟩:=TC hf hq hk1 h1 (bB.1 hnd).1 hr0 vK (fun x hx=>hm x (by simp[hx]));obtain⟨c2,t2,u2,p1,p2⟩:=ih h2 (bB.1 hnd).2.1 (by simpa using hl) (fun i d' EC=>by
     obtain⟨v',b,k1,k2⟩:=hr (i+1) d' (by simpa using EC);exact⟨v',b,by simpa using k1,k2⟩) (fun x hx=>hm x (by simp[hx]))
    exact⟨_,_,_,.cons _ _ _ _ _ _ _ _ _ _ q1 p1,RP.app hf hnd q2 p2⟩
  ·cases h
end
theorem IV{H:bL}{z:Option (Nat×Nat)}{d e:D}{ms qs:aP}(h:Az H z d=some (e,ms,qs)):(∀m∈ms,∃e sz rows,H[m]?=some (.row .sh e sz rows))/\∀m∈qs,∃e sz rows,H[m]?=some (.row .uq e sz rows):=by
 cases d with
 |acc m=>
  simp only[Az]at h;split at h
  ·rename_i k e' sz rows hH;split at h
   ·cases h;exact⟨by simp,fun m' hm'=>by simp at hm';subst hm';exact⟨_,_,_,hH⟩⟩
   ·cases h;exact⟨fun m' hm'=>by simp at hm';subst hm';exact⟨_,_,_,hH⟩,by simp⟩
   ·cases h
   ·cases h
  ·cases h
 |_=>simp[Az]at h<;>(try(obtain⟨_,rfl,rfl⟩:=h;simp))
theorem MT{H:bL}:∀ {ds es:aK} {zs:List (Option (Nat×Nat))} {ms qs:aP},Gd H zs ds=some (es,ms,qs)->(∀m∈ms,∃e sz rows,H[m]?=some (.row .sh e sz rows))/\∀m∈qs,∃e sz rows,H[m]?=some (.row .uq e sz rows):=by
 intro ds
 induction ds with
 |nil=>intro es zs ms qs h;simp only[Gd,af,cG]at h;obtain⟨rfl,rfl,rfl⟩:=h;simp
 |cons d ds ih=>
  intro es zs ms qs h;simp only[Gd]at h;split at h
  ·rename_i e m q es' ms' qs' h1 h2;cases h;have a1:=IV h1;have a2:=ih h2;refine⟨fun x hx=>?_,fun x hx=>?_⟩<;>rcases aV.1 hx with hx|hx
   ·exact a1.1 x hx
   ·exact a2.1 x hx
   ·exact a1.2 x hx
   ·exact a2.2 x hx
  ·cases h
theorem Np{H:bL}{zs:List (Option (Nat×Nat))}{d e:D}{ms qs:aP}(h:No H zs d=some (e,ms,qs)):(∀m∈ms,∃e sz rows,H[m]?=some (.row .sh e sz rows))/\∀m∈qs,∃e sz rows,H[m]?=some (.row .uq e sz rows):=by
 by_cases qe:∃ds,d=.agg ds
 ·obtain⟨ds,rfl⟩:=qe;simp only[No]at h;split at h
  ·rename_i es ms' qs' h1;cases h;exact MT h1
  ·cases h
 ·have e1:No H zs d=Az H zs.head?.join d:=by cases d<;>first|rfl|exact absurd ⟨_,rfl⟩ qe
  rw[e1]at h;exact IV h
theorem vE{H:bL}:∀ {ds es:aK} {zs:List (List (Option (Nat×Nat)))} {ms qs:aP},xR H zs ds=some (es,ms,qs)->(∀m∈ms,∃e sz rows,H[m]?=some (.row .sh e sz rows))/\∀m∈qs,∃e sz rows,H[m]?=some (.row .uq e sz rows):=by
 intro ds
 induction ds with
 |nil=>intro es zs ms qs h;simp only[xR,af,cG]at h;obtain⟨rfl,rfl,rfl⟩:=h;simp
 |cons d ds ih=>
  intro es zs ms qs h;simp only[xR]at h;split at h
  ·rename_i e m q es' ms' qs' h1 h2;cases h;have a1:=Np h1;have a2:=ih h2;refine⟨fun x hx=>?_,fun x hx=>?_⟩<;>rcases aV.1 hx with hx|hx
   ·exact a1.1 x hx
   ·exact a2.1 x hx
   ·exact a1.2 x hx
   ·exact a2.2 x hx
  ·cases h
theorem Good.of{f:FuncId}{fn:Func}{c:Code}{ds:aK}{d:D}(hf:P.funcs[f]?=some fn)(hb:fn.body=some c)(hn:(fn.name== "runtime.NumGoroutine")=false)
 (hl:ds.length<=fn.ntmps) (h:(∀d∈ds,kj d)->∀Γ:sQ,Γ.nt=fn.ntmps->AW P Γ c (RC P fn d) ⟨wi 0 ds,[]⟩):Good P f ds d:=by
 refine⟨⟨fn,hf,by simp[hb],hn⟩,?_⟩;intro w Θ args bs hvs hargs hz hown h1;obtain⟨hlen,Uu⟩:=hargs.at;refine calls_of_wp hf hb ?_;let Γ:sQ:=⟨w,Θ,fun _=>False,fn.ntmps,fun _=>False,hvs⟩
 have hs:dM Γ ⟨wi 0 ds,[]⟩ (fun _=>none) Θ {tmps:=args.toArray++Array.replicate (fn.ntmps-args.toArray.size) undef,defers:=[]} w:=by
  refine⟨rfl,?_,fun _ _=>rfl,by simp,?_,by simp,hown,fun b _ _=>⟨rfl,h1 b⟩,fun b hb=>by have:=h1 b;omega,⟨rfl,rfl,rfl,bJ _,fun _ _ _=>rfl⟩,⟨fun _=>0,by simp,by simp,by simp⟩⟩
  ·simp[Γ];omega
  ·intro t;rw[F0];simp only[vM,yf,wA];cases hd:ds[t]? with
   |none=>exact⟨[],.of (.any _),by simp⟩
   |some x=>
    obtain⟨v,b,k1,k2,k3⟩:=Uu t x hd;refine⟨b,?_,fun y hy=>hz y (k3 y hy)⟩;have hlt:t<args.length:=(aC.1 k1).1;have:(args.toArray++Array.replicate (fn.ntmps-args.toArray.size) undef).getD t undef=v:=by
     rw[bu,fE (by simpa using hlt)];simp[k1]
    rw[this];exact .of k2
 refine wp_mono (h hargs.rdb Γ rfl _ _ _ _ hs) ?_;rintro e a' w' ⟨Mp,κ0,Θ0,hs0,Bu,nz,WI,es,ms,qs,hres,WS,Iu,Gx,rfl⟩;obtain⟨ρ0,Y3⟩:=hs0.qf;have zx:=vE WS;obtain⟨Θ1,ρ1,hs1,hu1,hm1,KG,Qm⟩:=dM.F3 ms hs0 Y3 Iu (fun m hm=>by
  obtain⟨e,sz,rows,hH⟩:=zx.1 m hm;exact⟨_,e,sz,rows,hH,rfl⟩)
 obtain⟨vs,bs',m1,m2,m3,m4,m5⟩:=CK hs0 hres;have hq:∀m e sz rows,Mp.H[m]?=some (.row .uq e sz rows)->∃v cs ns,κ0 m=some v/\0<sz/\(∀r∈rows,r.length=sz)/\w'.ownsRow 0 e sz v rows.length cs/\jx w' cs rows.flatten ns/\ns.Nodup/\(∀b∈ns,ρ1 b=m+1)/\∀g,v.ownBlock=some g->Θ1 g=m+2:=by
  intro m e sz rows hH;have hnm:m∉ms:=fun hm=>by
   obtain⟨e',sz',dh,CJ⟩:=zx.1 m hm;rw[hH]at CJ;cases CJ
  have K7:(kill Mp.H ms)[m]?=some (.row .uq e sz rows):=by rw[fo hnm];exact hH
  obtain⟨v,cs,ns,r1,r2,r3,r4,r5⟩:=hu1.rows m e sz rows K7;obtain⟨p1,p2,v2,_,_,p3,_,_,p4,_⟩:=hs1.ob m _ K7;rw[r1]at p3;cases p3;exact⟨v,cs,ns,r1,p1,p2,r2,r3,r4,r5,p4⟩
 obtain⟨c,ts,us,Bt,xe⟩:=zF (w:=w') (vs:=vs) (fun b hb=>(hu1.free b hb).1) hq hs0.mY WS Gx (by omega) (fun i d hd=>by
  obtain⟨v,b,k1,k2,k3⟩:=m4 i d hd;exact⟨v,b,k1,k2,fun x hx=>KG x (m5 x (k3 x hx))⟩) hm1
 have KB:∃v,(results fn a'.tmps).run P w'=.ok v w'/\yH w' v (GY es) c ts us:=by
  have hrun:(results fn a'.tmps).run P w'=.ok (if h:vs.toArray.size=1 then vs.toArray[0]else .tuple vs.toArray) w':=by
   rw[results_eq,n9];simp[m1]
  cases Bt with
  |nil=>exact⟨.tuple #[],by simpa using hrun,.iQ [] [] [] [] [] .nil⟩
  |cons v vs d es b1 b2 t1 t2 u1 u2 hv sH=>
   cases sH with
   |nil=>
    simp only[eR];exact⟨v,by simpa using hrun,.v hv⟩
   |cons v2 vs d2 es b3 b4 t3 t4 u3 u4 JN sH=>exact⟨.tuple (v::v2::vs).toArray,by simpa using hrun,.iQ _ _ _ _ _ (.cons _ _ _ _ _ _ _ _ _ _ hv (.cons _ _ _ _ _ _ _ _ _ _ JN sH))⟩
 obtain⟨v,S0,M3⟩:=KB;have Ht:Below w.heap.size w w':=⟨hs1.stays.os,hs1.stays.tape,hs1.stays.output,hs1.stays.size,fun b hb=>hs1.stays.block b hb (fun h=>h)⟩
 have On:∀b,wB Γ b->w.heap.size<=b:=fun b h=>by
  rcases h with h|h
  ·exact h
  ·exact h.elim
 have hwr:∀b∈us,w.heap.size<=b/\Wr w' b:=by
  intro b hb';rcases xe.mem b hb' with h|⟨m,hm,hρ⟩
  ·obtain⟨⟨m,hm,hΘ⟩,_⟩:=xe.top b h;refine⟨On b (hs1.mine b (by omega)),?_⟩;obtain⟨e,sz,rows,hH⟩:=zx.2 m hm;have:=xe;exact HT M3 b h
  ·have:=hu1.free b (by omega);exact⟨this.2.1.elim (On b) False.elim,this.2.2⟩
 have post:a'.defers=[]/\∃v,(results fn a'.tmps).run P w'=.ok v w'/\∃u bs' ts us,Ending.returned v=.returned u/\Below w.heap.size w w'/\yH w' u (GY es) bs' ts us/\(∀b∈bs',b<w.heap.size->Θ b=0)/\(∀b∈bs',b∉ts)/\us.Nodup/\
  (∀b∈us,w.heap.size<=b/\Wr w' b)/\∀b∈ts,b∈us:=by
  refine⟨hs0.defers,v,S0,v,c,ts,us,rfl,Ht,M3,fun b hb' hlt=>?_,fun b hb' ht=>?_,xe.nd,hwr,fun b hb'=>(xe.top b hb').2⟩
  ·have he:Θ1 b=Θ b:=(hs1.old b hlt (fun h=>h)).1;rw[<-he];exact xe.zero b hb'
  ·obtain⟨⟨m,_,hΘ⟩,_⟩:=xe.top b ht;have:=xe.zero b hb';omega
 rcases Bu with rfl|rfl
 ·exact post
 ·exact post
end
end Go.Cx
