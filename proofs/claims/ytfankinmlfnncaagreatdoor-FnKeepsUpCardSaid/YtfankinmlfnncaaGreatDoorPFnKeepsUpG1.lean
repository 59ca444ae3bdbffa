/- The core of an abstract reading of Go's data: what a value shows in memory (D), which blocks it uses, and that this stays where those blocks stay. No condition; plain lemmas. -/
import Derived.WalkKit
import Derived.ProofKit
import Derived.Deep.LoopGhost
import Derived.MapKept
import Derived.Great.BuildSlice
import Derived.Maps.AppendAt
set_option linter.unusedVariables false
set_option linter.unusedSimpArgs false
namespace Go.Cx
open Go.RowKit
set_option linter.defProp false
def aA:=@Option.bind_some
def aE:=@List.mem_of_getElem?
def aF:=@cond_true
def aJ:=@List.getElem?_eq_some_iff
def aM:=@cond_false
def aR:=@Bool.and_eq_true
def aS:=@List.length_cons
def aZ:=@List.mem_append
def af:=@List.getElem?_eq_getElem
def ah:=@List.length_map
def aj:=@List.all_eq_true
def au:=@List.map_cons
def av:=@decide_eq_true
def ax:=@List.length_append
def ay:=@Option.some.injEq
def b9:=@if_neg
def bA:=@List.getElem?_append_left
def bB:=@decide_eq_false
def bC:=@decide_eq_true_eq
def bD:=@List.map_append
def bE:=@List.getElem?_append_right
def bJ:=@List.mem_cons
def bL:=@if_pos
def bN:=@Bool.not_true
def bO:=@Array.getElem?_eq_some_iff
def bU:=@Nat.le_refl
def bV:=@of_decide_eq_true
def bW:=@List.nodup_append
def bZ:=@List.map_drop
def bf:=@List.length_nil
def bg:=@List.map_nil
def bh:=@List.map_take
def bn:=@List.mem_of_mem_take
def bt:=@List.mem_map
def bu:=@List.mem_range
def bw:=@Bool.eq_iff_iff
def bz:=@Bool.not_false
def cA:=@List.mem_flatMap
def cE:=@List.length_take
def cF:=@List.getElem?_map
def cG:=@List.mem_singleton
def cI:=@List.mem_filterMap
def cJ:=@List.getElem?_set_ne
def cL:=@Array.getD_eq_getD_getElem?
def cO:=@List.take_append_drop
def cS:=@Nat.zero_add
def cU:=@List.getElem?_take
def cZ:=@beq_iff_eq
def cc:=@List.eq_nil_of_length_eq_zero
def cj:=@Array.getElem?_eq_getElem
def ck:=@List.flatMap_cons
def cq:=@Prod.mk.injEq
def cr:=@List.getElem?_eq_none
def cu:=@List.foldl_cons
def cv:=@Option.map_some
def cw:=@beq_eq_false_iff_ne
def cy:=@List.append_assoc
def dD:=@List.append_nil
def dJ:=@Nat.mul_le_mul_left
def dO:=@List.length_singleton
def dP:=@List.all_cons
def dR:=@List.getElem?_set_self
def dZ:=@List.nil_append
def di:=@Classical.byContradiction
def eC:=@Nat.lt_of_lt_of_le
def eD:=@Nat.le_trans
def eE:=@List.mem_of_mem_drop
def eG:=@List.any_eq_true
def eH:=@List.mem_reverse
def eL:=@Nat.add_sub_cancel_left
def eM:=@Bool.true_and
def ei:=@List.mem_iff_getElem
def er:=@Nat.mul_le_mul_right
def fF:=@Array.getElem?_append_left
def fG:=@List.getElem?_drop
def fN:=@Nat.lt_or_ge
def fY:=@List.mem_filter
def fZ:=@List.nodup_cons
def gR:=@List.getElem?_cons_succ
def gh:=@List.flatten_cons
def gi:=@List.getElem?_set
def iK:=@Nat.min_eq_left
def iO:=@List.getElem_mem
def iP:=@Option.isSome_iff_exists
def iq:=@List.filter_cons_of_neg
def ir:=@List.filter_cons_of_pos
def iy:=@List.drop_drop
def iz:=@List.getElem?_of_mem
def jP:=@List.drop_left'
def jQ:=@List.length_set
def jV:=@List.take_of_length_le
def jW:=@beq_self_eq_true
def jt:=@List.flatten_append
def kH:=@Int.toNat_natCast
def kI:=@Prod.mk.inj
def kN:=@List.getElem?_toArray
def kO:=@Nat.le_of_ble_eq_true
def kY:=@List.take_left'
def kZ:=@Option.some.inj
def kr:=@List.pairwise_cons
def lN:=@Array.toList_map
def lP:=@List.length_drop
def mQ:=@List.cons.inj
def mR:=@Nat.add_assoc
def mV:=@List.drop_eq_nil_of_le
def mW:=@List.ext_getElem?
def mX:=@List.getD_eq_getElem?_getD
def mY:=@Option.mem_toList
def nE:=@Array.toList_append
def nF:=@List.map_congr_left
def nS:=@Nat.add_mul
def nj:=@Array.mapM_eq_mapM_toList
def nk:=@List.drop_eq_getElem_cons
def nr:=@Array.getElem?_toList
def nu:=@List.length_filter_le
def nv:=@List.set_append_right
def oU:=@Bool.false_or
def oc:=@List.getLast?_concat
def p9:=@Bool.not_eq_true'
def pE:=@Int.eq_ofNat_of_zero_le
def pF:=@Option.bind_eq_some_iff
def pG:=@decide_eq_false_iff_not
def pR:=@Bool.or_eq_true
def qG:=@Nat.one_mul
def qP:=@List.mem_flatten
def qk:=@if_true
def qx:=@List.mem_or_eq_of_mem_set
def rH:=@Array.toArray_toList
def rI:=@List.map_map
def rJ:=@Nat.sub_self
def sC:=@List.length_erase_of_mem
def sY:=@Array.toList_inj
def sZ:=@Bool.and_false
def si:=@List.cons_append
def sj:=@List.map_toArray
def sn:=@true_and
def td:=@Array.getElem?_eq_none
def tg:=@Ne.symm
def uc:=@Bool.or_false
def ud:=@List.any_cons
def vO:=@List.take_take
def vP:=@Nat.pow_le_pow_right
def vQ:=@eq_iff_iff
def vl:=@Nat.add_zero
def vm:=@Option.getD_some
def wE:=@List.exists_mem_of_ne_nil
def wL:=@Array.length_toList
def wM:=@List.take_succ_cons
def wW:=@Bool.and_true
def wX:=@List.getElem?_take_of_lt
def x6:=@Nat.not_lt_zero
def xD:=@Array.all_eq_true'
def xE:=@List.filter_filter
def xF:=@Nat.lt_or_gt_of_ne
def xk:=@List.filter_congr
def xm:=@List.size_toArray
def xo:=@Nat.lt_trichotomy
def xp:=@Nat.pow_succ
def xq:=@Nat.sub_zero
def yY:=@Array.getElem?_modify
def yZ:=@List.concat_eq_append
def ya:=@List.eq_nil_or_concat
def yo:=@Bool.not_eq_true
def yp:=@List.eq_nil_iff_forall_not_mem
def yq:=@List.take_length
def zN:=@List.Pairwise.filter
def zO:=@if_false
def A5:=@Option.map_none
def AM:=@List.filterMap_cons
def B5:=@Array.getElem_append_right
def B6:=@Bool.false_eq_true
def B7:=@List.drop_zero
def B8:=@List.filter_append
def B9:=@Nat.add_sub_cancel
def C0:=@Array.getElem_append_left
def CA:=@List.any_eq_false
def CQ:=@List.eq_of_mem_replicate
def Cs:=@List.getElem?_cons_zero
def Ct:=@List.nodup_range
def Cu:=@Nat.le_mul_of_pos_right
def Dk:=@Int.le_of_lt
def Dl:=@Int.le_trans
def Dm:=@List.all_map
def Dn:=@List.drop_of_length_le
def Dp:=@List.getElem_cons_drop
def Dq:=@List.length_pos_of_mem
def Dr:=@Nat.mul_comm
def Ds:=@Nat.succ_mul
def Dt:=@Option.map_eq_some_iff
def Ea:=@Int.ediv_nonneg
def Eo:=@Bool.and_eq_false_iff
def Ep:=@List.length_replicate
def Er:=@List.pairwise_flatMap
def Es:=@List.singleton_append
def Et:=@UInt8.lt_iff_toNat_lt
def Fe:=@List.mapM_cons
def Ff:=@Nat.mul_le_mul
def Fg:=@Nat.zero_le
def Fh:=@decide_true
def Fi:=@not_or
def Ia:=@Nat.mul_assoc
def Jv:=@List.any_nil
abbrev Bytes:=List UInt8
inductive D where
 |any
 |nil
 |int (k:IntKind) (n:Int)
 |bool (b:Bool)
 |str (s:Bytes)
 |sl (rows:List (List D))
 |agg (cells:List D)
 |ff (vs:List D)
 |ep (row:List D) (off:Nat)
 |acc (id:Nat)
 |ptr (id off:Nat)
 |op (id i sz off:Nat)
 |val (v:Value)
 |fr (e:TypeId) (sz:Nat) (rows:List (List D))
 |pt (cells:List D)
 |ifc (b:Bool)
def qQ(k:IntKind)(n:Int):Prop:=k.min<=n/\n<=k.max
instance (k:IntKind) (n:Int):Decidable (qQ k n):=by unfold qQ;infer_instance
theorem qQ.wrap(k:IntKind)(n:Int):qQ k (k.wrap n):=by
 unfold qQ;cases k<;>simp[IntKind.min,IntKind.max,IntKind.wrap,IntKind.bits,IntKind.signed]<;>(try split)<;>omega
theorem qQ.i64{n:Int}:qQ .i64 n↔ -9223372036854775808<=n/\n<=9223372036854775807:=by
 simp[qQ,IntKind.min,IntKind.max,IntKind.bits,IntKind.signed]
theorem qQ.u8{n:Int}:qQ .u8 n↔0<=n/\n<=255:=by
 simp[qQ,IntKind.min,IntKind.max,IntKind.bits,IntKind.signed]
theorem qQ.zero(k:IntKind):qQ k 0:=by
 unfold qQ;cases k<;>simp[IntKind.min,IntKind.max,IntKind.bits,IntKind.signed]
theorem qQ.down{k:IntKind}{n m:Int}(h:qQ k n)(h0:0<=m)(h1:m<=n):qQ k m:=
 ⟨Dl (qQ.zero k).1 h0,Dl h1 h.2⟩
mutual
inductive Rd(w:World):Value->D->List Nat->Prop
 |any (v:Value):Rd w v .any []
 |nil:Rd w (.slice none 0 0) .nil []
 |int (k:IntKind) (n:Int):qQ k n->Rd w (.int k n) (.int k n) []
 |bool (b:Bool):Rd w (.bool b) (.bool b) []
 |str (s:ByteArray):s.size<=maxLen->Rd w (.string s) (.str s.data.toList) []
 |val (v:Value):Rd w v (.val v) []
 |zq:Rd w (.slice none 0 0) (.sl []) []
 |qn (a:Addr) (cap:Nat):cap<=maxLen->Rd w (.slice (some a) 0 cap) (.sl []) []
 |sl (b off cap sz:Nat) (rows:List (List D)) (cs:List Value) (bs:List Nat):b<w.heap.size->rows.length<=cap->cap<=maxLen->
  (∀r∈rows,r.length=sz)->(∀j c,cs[j]?=some c->w.cell? ⟨b,off+j,none⟩=some c)->p6 w cs rows.flatten bs->
  Rd w (.slice (some ⟨b,off,none⟩) rows.length cap) (.sl rows) (b::bs)
 |agg (cs:List Value) (ds:List D) (bs:List Nat):p6 w cs ds bs->Rd w (.agg cs.toArray) (.agg ds) bs
 |ep (b off:Nat) (cs:List Value) (row:List D) (o:Nat) (bs:List Nat):b<w.heap.size->(∀j c,cs[j]?=some c->w.cell? ⟨b,off+j,none⟩=some c)->
  p6 w cs row bs->Rd w (.pointer (some ⟨b,off+o,none⟩)) (.ep row o) (b::bs)
 |X8:Rd w .nilIface (.ifc false) []
 |X9 (t:TypeId) (v:Value):Rd w (.iface t v) (.ifc true) []
inductive p6(w:World):List Value->List D->List Nat->Prop
 |nil:p6 w [] [] []
 |cons (v:Value) (vs:List Value) (d:D) (ds:List D) (b1 b2:List Nat):v.oneCell'=true->Rd w v d b1->p6 w vs ds b2->p6 w (v::vs) (d::ds) (b1++b2)
end
section
variable{w w':World}
theorem Cy{b o:Nat}(h:w'.heap[b]?=w.heap[b]?):w'.cell? ⟨b,o,none⟩=w.cell? ⟨b,o,none⟩:=World.cell?_of_block (a:=⟨b,o,none⟩) h
theorem L9{b:Nat}(hb:b<w.heap.size)(h:w'.heap[b]?=w.heap[b]?):b<w'.heap.size:=by
 rw[cj hb]at h;exact(bO.1 h).1
theorem QC:
 (∀ {v d bs},Rd w v d bs->(∀b∈bs,w'.heap[b]?=w.heap[b]?)->Rd w' v d bs)/\
 (∀ {vs ds bs},p6 w vs ds bs->(∀b∈bs,w'.heap[b]?=w.heap[b]?)->p6 w' vs ds bs):=by
 have key:∀(m1:∀v d bs,Rd w v d bs->Prop) (m2:∀vs ds bs,p6 w vs ds bs->Prop),
  m1=(fun v d bs _=>(∀b∈bs,w'.heap[b]?=w.heap[b]?)->Rd w' v d bs)->m2=(fun vs ds bs _=>(∀b∈bs,w'.heap[b]?=w.heap[b]?)->p6 w' vs ds bs)->
  (∀v d bs h,m1 v d bs h)/\(∀vs ds bs h,m2 vs ds bs h):=by
  intro m1 m2 e1 e2;subst e1;subst e2;constructor
  all_goals intro v d bs h
  ·refine Rd.rec (motive_1:=fun v d bs _=>(∀b∈bs,w'.heap[b]?=w.heap[b]?)->Rd w' v d bs) (motive_2:=fun vs ds bs _=>(∀b∈bs,w'.heap[b]?=w.heap[b]?)->p6 w' vs ds bs) ?_ ?_ ?_ ?_ ?_ ?_ ?_ ?_ ?_ ?_ ?_ ?_ ?_ ?_ ?_ h
   ·intro v _;exact .any _
   ·intro _;exact .nil
   ·intro k n h _;exact .int _ _ h
   ·intro b _;exact .bool _
   ·intro s h _;exact .str _ h
   ·intro v _;exact .val _
   ·intro _;exact .zq
   ·intro a cap h _;exact .qn a cap h
   ·intro b off cap sz rows cs bs h0 h1 h2 h3 h4 _ ih hb;exact .sl b off cap sz rows cs bs (L9 h0 (hb b (by simp))) h1 h2 h3 (fun j c hc=>(Cy (hb b (by simp))).trans (h4 j c hc)) (ih (fun x hx=>hb x (by simp[hx])))
   ·intro cs ds bs _ ih hb;exact .agg cs ds bs (ih hb)
   ·intro b off cs row o bs h0 h4 _ ih hb;exact .ep b off cs row o bs (L9 h0 (hb b (by simp))) (fun j c hc=>(Cy (hb b (by simp))).trans (h4 j c hc)) (ih (fun x hx=>hb x (by simp[hx])))
   ·intro _;exact .X8
   ·intro t v _;exact .X9 t v
   ·intro _;exact .nil
   ·intro v vs d ds b1 b2 h1 _ _ ih1 ih2 hb;exact .cons v vs d ds b1 b2 h1 (ih1 (fun x hx=>hb x (by simp[hx]))) (ih2 (fun x hx=>hb x (by simp[hx])))
  ·refine p6.rec (motive_1:=fun v d bs _=>(∀b∈bs,w'.heap[b]?=w.heap[b]?)->Rd w' v d bs) (motive_2:=fun vs ds bs _=>(∀b∈bs,w'.heap[b]?=w.heap[b]?)->p6 w' vs ds bs) ?_ ?_ ?_ ?_ ?_ ?_ ?_ ?_ ?_ ?_ ?_ ?_ ?_ ?_ ?_ h
   ·intro v _;exact .any _
   ·intro _;exact .nil
   ·intro k n h _;exact .int _ _ h
   ·intro b _;exact .bool _
   ·intro s h _;exact .str _ h
   ·intro v _;exact .val _
   ·intro _;exact .zq
   ·intro a cap h _;exact .qn a cap h
   ·intro b off cap sz rows cs bs h0 h1 h2 h3 h4 _ ih hb;exact .sl b off cap sz rows cs bs (L9 h0 (hb b (by simp))) h1 h2 h3 (fun j c hc=>(Cy (hb b (by simp))).trans (h4 j c hc)) (ih (fun x hx=>hb x (by simp[hx])))
   ·intro cs ds bs _ ih hb;exact .agg cs ds bs (ih hb)
   ·intro b off cs row o bs h0 h4 _ ih hb;exact .ep b off cs row o bs (L9 h0 (hb b (by simp))) (fun j c hc=>(Cy (hb b (by simp))).trans (h4 j c hc)) (ih (fun x hx=>hb x (by simp[hx])))
   ·intro _;exact .X8
   ·intro t v _;exact .X9 t v
   ·intro _;exact .nil
   ·intro v vs d ds b1 b2 h1 _ _ ih1 ih2 hb;exact .cons v vs d ds b1 b2 h1 (ih1 (fun x hx=>hb x (by simp[hx]))) (ih2 (fun x hx=>hb x (by simp[hx])))
 obtain⟨k1,k2⟩:=key _ _ rfl rfl;exact⟨fun h=>k1 _ _ _ h,fun h=>k2 _ _ _ h⟩
theorem Rd.keep{v:Value}{d:D}{bs:List Nat}(h:Rd w v d bs)(hb:∀b∈bs,w'.heap[b]?=w.heap[b]?):Rd w' v d bs:=QC.1 h hb
theorem p6.keep{vs:List Value}{ds:List D}{bs:List Nat}(h:p6 w vs ds bs)(hb:∀b∈bs,w'.heap[b]?=w.heap[b]?):p6 w' vs ds bs:=QC.2 h hb
theorem Rd.lt{v:Value}{d:D}{bs:List Nat}(h:Rd w v d bs):∀b∈bs,b<w.heap.size:=by
 refine Rd.rec (motive_1:=fun v d bs _=>∀b∈bs,b<w.heap.size) (motive_2:=fun vs ds bs _=>∀b∈bs,b<w.heap.size) ?_ ?_ ?_ ?_ ?_ ?_ ?_ ?_ ?_ ?_ ?_ ?_ ?_ ?_ ?_ h
 case refine_9=>
  intro b off cap sz rows cs bs h0 h1 h2 h3 h4 _ ih x hx;rcases bJ.1 hx with rfl|hx
  ·exact h0
  ·exact ih x hx
 case refine_10=>intro cs ds bs _ ih;exact ih
 case refine_11=>
  intro b off cs row o bs h0 h4 _ ih x hx;rcases bJ.1 hx with rfl|hx
  ·exact h0
  ·exact ih x hx
 case refine_15=>
  intro v vs d ds b1 b2 h1 _ _ ih1 ih2 x hx;rcases aZ.1 hx with hx|hx
  ·exact ih1 x hx
  ·exact ih2 x hx
 all_goals intros;simp_all
theorem p6.lt{vs:List Value}{ds:List D}{bs:List Nat}(h:p6 w vs ds bs):∀b∈bs,b<w.heap.size:=by
 induction ds generalizing vs bs with
 |nil=>cases h;simp
 |cons d ds ih=>
  cases h with
  |cons v vs _ _ b1 b2 h1 h2 h3=>
   intro x hx;rcases aZ.1 hx with hx|hx
   ·exact h2.lt x hx
   ·exact ih h3 x hx
theorem p6.length{vs:List Value}{ds:List D}{bs:List Nat}(h:p6 w vs ds bs):vs.length=ds.length:=by
 induction ds generalizing vs bs with
 |nil=>cases h;rfl
 |cons d ds ih=>cases h with|cons v vs _ _ b1 b2 h1 h2 h3=>simp[ih h3]
theorem p6.one{vs:List Value}{ds:List D}{bs:List Nat}(h:p6 w vs ds bs):∀v∈vs,v.oneCell'=true:=by
 induction ds generalizing vs bs with
 |nil=>cases h;simp
 |cons d ds ih=>
  cases h with
  |cons v vs _ _ b1 b2 h1 h2 h3=>
   intro u hu;rcases bJ.1 hu with rfl|hu
   ·exact h1
   ·exact ih h3 u hu
theorem p6.app{vs us:List Value}{ds es:List D}{bs cs:List Nat}(h:p6 w vs ds bs)(k:p6 w us es cs):p6 w (vs++us) (ds++es) (bs++cs):=by
 induction ds generalizing vs bs with
 |nil=>cases h;simpa using k
 |cons d ds ih=>
  cases h with
  |cons v vs _ _ b1 b2 h1 h2 h3=>
   rw[cy];exact .cons _ _ _ _ _ _ h1 h2 (ih h3)
theorem p6.split{vs:List Value}{ds es:List D}{bs:List Nat}(h:p6 w vs (ds++es) bs):
 ∃v1 v2 b1 b2,vs=v1++v2/\bs=b1++b2/\p6 w v1 ds b1/\p6 w v2 es b2:=by
 induction ds generalizing vs bs with
 |nil=>exact⟨[],vs,[],bs,by simp,by simp,.nil,h⟩
 |cons d ds ih=>
  cases h with
  |cons v vs _ _ b1 b2 h1 h2 h3=>
   obtain⟨v1,v2,c1,c2,rfl,rfl,k1,k2⟩:=ih h3;exact⟨v::v1,v2,b1++c1,c2,by simp,by simp,.cons _ _ _ _ _ _ h1 h2 k1,k2⟩
theorem p6.mid{vs:List Value}{ds:List D}{bs:List Nat}(h:p6 w vs ds bs)(i n:Nat):
 ∃b,p6 w ((vs.drop i).take n) ((ds.drop i).take n) b/\∀x∈b,x∈bs:=by
 have e:ds=ds.take i++((ds.drop i).take n++(ds.drop i).drop n):=by rw[cO,cO]
 rw[e]at h;obtain⟨v1,v2,b1,b2,rfl,rfl,k1,k2⟩:=h.split;obtain⟨v3,v4,b3,b4,rfl,rfl,k3,k4⟩:=k2.split;refine⟨b3,?_,by intro x hx;simp[hx]⟩;have l1:=k1.length;have l3:=k3.length;by_cases hi:i<=ds.length
 ·have h1:v1.length=i:=by rw[l1];simp[hi]
  rw[jP h1];by_cases hn:n<=(ds.drop i).length
  ·have h3:v3.length=n:=by rw[l3,cE];omega
   rw[kY h3];exact k3
  ·have h4:v4.length=0:=by rw[k4.length];simp at hn⊢;omega
   have h4':v4=[]:=cc h4;subst h4';have h3:v3.length<=n:=by rw[l3,cE];omega
   simp only[dD];rw[jV h3];exact k3
 ·have h5:ds.drop i=[]:=mV (by omega);rw[h5]at k3 k4⊢;simp only[List.take_nil,List.drop_nil]at k3 k4⊢;cases k3;cases k4;have h1:v1.length<=i:=by rw[l1];simp;omega
  simp[Dn h1];exact .nil
theorem p6.at{vs:List Value}{ds:List D}{bs:List Nat}(h:p6 w vs ds bs){i:Nat}{d:D}(hd:ds[i]?=some d):
 ∃v b,vs[i]?=some v/\v.oneCell'=true/\Rd w v d b/\∀x∈b,x∈bs:=by
 induction ds generalizing vs bs i with
 |nil=>simp at hd
 |cons e ds ih=>
  cases h with
  |cons v vs _ _ b1 b2 h1 h2 h3=>
   cases i with
   |zero=>simp at hd;subst hd;exact⟨v,b1,by simp,h1,h2,by intro x hx;simp[hx]⟩
   |succ i=>
    simp at hd;obtain⟨u,b,k1,k2,k3,k4⟩:=ih h3 hd;exact⟨u,b,by simpa using k1,k2,k3,fun x hx=>by simp[k4 x hx]⟩
end
theorem qO{α:Type}{rows:List (List α)}{sz:Nat}(h:∀r∈rows,r.length=sz):rows.flatten.length=rows.length*sz:=by
 induction rows with
 |nil=>simp
 |cons r rows ih=>
  simp only[gh,ax,aS];rw[ih (fun x hx=>h x (by simp[hx])),h r (by simp),nS];omega
theorem Gi{α:Type}{rows:List (List α)}{sz:Nat}(h:∀r∈rows,r.length=sz){i:Nat}{r:List α}(hr:rows[i]?=some r):
 (rows.flatten.drop (i*sz)).take sz=r:=by
 induction rows generalizing i with
 |nil=>simp at hr
 |cons s rows ih=>
  have hs:=h s (by simp);cases i with
  |zero=>
   simp at hr;subst hr;simp only[Nat.zero_mul,B7,gh];exact kY hs
  |succ i=>
   simp only[gR]at hr;have:=ih (fun x hx=>h x (by simp[hx])) hr;rw[gh,nS,qG,Nat.add_comm,<-iy,jP hs];exact this
def Ms(e:TypeId):Option (Nat×Nat×TypeId×Nat):=if e=74 then some (8,7,77,2)else none
def vb(e:TypeId)(i:Nat):Option (TypeId×Nat):=match Ms e with
 |some (m,off,t)=>if i%m=off then some t else none
 |none=>none
def Wz(e:TypeId)(sz:Nat):Bool:=match Ms e with
 |some (m,_,_)=>m==sz
 |none=>true
theorem yy{e:TypeId}(h:Ms e=none)(i:Nat):vb e i=none:=by simp[vb,h]
theorem OH{e:TypeId}{sz:Nat}(h:Wz e sz=true)(i n:Nat):vb e (i+n*sz)=vb e i:=by
 unfold vb;unfold Wz at h;cases hf:Ms e with
 |none=>rfl
 |some x=>
  obtain⟨m,off,t⟩:=x;rw[hf]at h;have e1:m=sz:=by simpa using h
  subst e1;simp only[Nat.add_mul_mod_self_right]
section
variable{w w':World}
def Ib(w:World)(t:TypeId×Nat)(v:Value)(d:D)(bs:List Nat):Prop:=
 (d=.any/\bs=[])\/∃rows cs ns,d=.sl rows/\0<t.2/\(∀r∈rows,r.length=t.2)/\w.ownsRow 0 t.1 t.2 v rows.length cs/\p6 w cs rows.flatten ns/\bs=v.ownBlock.toList++ns
theorem LM{e:TypeId}{sz n:Nat}{v:Value}{cs:List Value}(h:w.ownsRow 0 e sz v n cs)(hb:∀g,v.ownBlock=some g->w'.heap[g]?=w.heap[g]?):w'.ownsRow 0 e sz v n cs:=by
 refine⟨h.1,?_⟩;rcases h.2 with hn|⟨g,cap,cur,rfl,h1,h2,rest⟩
 ·exact .inl hn
 ·exact .inr ⟨g,cap,cur,rfl,h1,(hb g (by simp[Value.ownBlock])).trans h2,rest⟩
theorem Ib.keep{t:TypeId×Nat}{v:Value}{d:D}{bs:List Nat}(h:Ib w t v d bs)(hb:∀b∈bs,w'.heap[b]?=w.heap[b]?):Ib w' t v d bs:=by
 rcases h with h|⟨rows,cs,ns,rfl,h1,h2,h3,h4,rfl⟩
 ·exact .inl h
 ·exact .inr ⟨rows,cs,ns,rfl,h1,h2,LM h3 (fun g hg=>hb g (by simp[hg])),h4.keep (fun b hx=>hb b (by simp[hx])),rfl⟩
inductive yS(w:World)(f:Nat->Option (TypeId×Nat)):Nat->List Value->List D->List Nat->Prop
 |nil (i:Nat):yS w f i [] [] []
 |cons (i:Nat) (v:Value) (vs:List Value) (d:D) (ds:List D) (b1 b2:List Nat):v.oneCell'=true->Rd w v d b1->(∀t,f i=some t->Ib w t v d b1)->yS w f (i+1) vs ds b2->yS w f i (v::vs) (d::ds) (b1++b2)
variable{f:Nat->Option (TypeId×Nat)}
theorem yS.rd{i:Nat}{vs:List Value}{ds:List D}{bs:List Nat}(h:yS w f i vs ds bs):p6 w vs ds bs:=by
 induction ds generalizing vs bs i with
 |nil=>cases h;exact .nil
 |cons d ds ih=>cases h with|cons _ v vs _ _ b1 b2 h1 h2 _ h3=>exact .cons _ _ _ _ _ _ h1 h2 (ih h3)
theorem yS.of{i:Nat}{vs:List Value}{ds:List D}{bs:List Nat}(h:p6 w vs ds bs)(hf:∀j,f j=none):yS w f i vs ds bs:=by
 induction ds generalizing vs bs i with
 |nil=>cases h;exact .nil _
 |cons d ds ih=>cases h with|cons v vs _ _ b1 b2 h1 h2 h3=>exact .cons _ _ _ _ _ _ _ h1 h2 (fun t ht=>by rw[hf]at ht;cases ht) (ih h3)
theorem yS.keep{i:Nat}{vs:List Value}{ds:List D}{bs:List Nat}(h:yS w f i vs ds bs)(hb:∀b∈bs,w'.heap[b]?=w.heap[b]?):yS w' f i vs ds bs:=by
 induction ds generalizing vs bs i with
 |nil=>cases h;exact .nil _
 |cons d ds ih=>
  cases h with
  |cons _ v vs _ _ b1 b2 h1 h2 h4 h3=>
   exact .cons _ _ _ _ _ _ _ h1 (h2.keep (fun b hx=>hb b (by simp[hx]))) (fun t ht=>(h4 t ht).keep (fun b hx=>hb b (by simp[hx]))) (ih h3 (fun b hx=>hb b (by simp[hx])))
theorem yS.lt{i:Nat}{vs:List Value}{ds:List D}{bs:List Nat}(h:yS w f i vs ds bs):∀b∈bs,b<w.heap.size:=h.rd.lt
theorem yS.length{i:Nat}{vs:List Value}{ds:List D}{bs:List Nat}(h:yS w f i vs ds bs):vs.length=ds.length:=h.rd.length
theorem yS.app{i:Nat}{vs us:List Value}{ds es:List D}{bs cs:List Nat}(h:yS w f i vs ds bs)(k:yS w f (i+ds.length) us es cs):yS w f i (vs++us) (ds++es) (bs++cs):=by
 induction ds generalizing vs bs i with
 |nil=>cases h;simpa using k
 |cons d ds ih=>
  cases h with
  |cons _ v vs _ _ b1 b2 h1 h2 h4 h3=>
   rw[cy];exact .cons _ _ _ _ _ _ _ h1 h2 h4 (ih h3 (by rw[aS]at k;rwa[show i+1+ds.length=i+(ds.length+1)by omega]))
theorem yS.split{i:Nat}{vs:List Value}{ds es:List D}{bs:List Nat}(h:yS w f i vs (ds++es) bs):
 ∃v1 v2 b1 b2,vs=v1++v2/\bs=b1++b2/\yS w f i v1 ds b1/\yS w f (i+ds.length) v2 es b2:=by
 induction ds generalizing vs bs i with
 |nil=>exact⟨[],vs,[],bs,by simp,by simp,.nil _,h⟩
 |cons d ds ih=>
  cases h with
  |cons _ v vs _ _ b1 b2 h1 h2 h4 h3=>
   obtain⟨v1,v2,c1,c2,rfl,rfl,k1,k2⟩:=ih h3;exact⟨v::v1,v2,b1++c1,c2,by simp,by simp,.cons _ _ _ _ _ _ _ h1 h2 h4 k1,by rw[aS];rwa[show i+(ds.length+1)=i+1+ds.length by omega]⟩
theorem yS.at_{i k:Nat}{vs:List Value}{ds:List D}{bs:List Nat}(h:yS w f i vs ds bs)(hf:∀j,f (k+j)=f (i+j)):yS w f k vs ds bs:=by
 induction ds generalizing vs bs i k with
 |nil=>cases h;exact .nil _
 |cons d ds ih=>
  cases h with
  |cons _ v vs _ _ b1 b2 h1 h2 h4 h3=>
   exact .cons _ _ _ _ _ _ _ h1 h2 (fun t ht=>h4 t ((hf 0).symm.trans ht)) (ih h3 fun j=>by rw[mR,mR];exact hf (1+j))
theorem yS.rows{e:TypeId}{sz i n:Nat}{vs:List Value}{ds:List D}{bs:List Nat}(hk:Wz e sz=true)(h:yS w (vb e) i vs ds bs):yS w (vb e) (i+n*sz) vs ds bs:=
 h.at_ fun j=>by rw[show i+n*sz+j=(i+j)+n*sz by omega];exact OH hk _ _
end
abbrev aH:=List Bytes
abbrev aQ:=List D
abbrev aa:=List Nat
abbrev bH:=List Int
abbrev bp:=List Value
def zw:List (Nat×(bp->Prop)):=[(3,fun cs:bp=>cs=[.int .u64 1,.int .u64 10,.int .u64 100,.int .u64 1000,.int .u64 10000,.int .u64 100000,.int .u64 1000000,.int .u64 10000000,.int .u64 100000000,.int .u64 1000000000,.int .u64 10000000000,.int .u64 100000000000,.int .u64 1000000000000,.int .u64 10000000000000,.int .u64 100000000000000,.int .u64 1000000000000000,.int .u64 10000000000000000,.int .u64 100000000000000000,.int .u64 1000000000000000000,.int .u64 10000000000000000000]),(1,fun cs:bp=>∃tp p,cs=[Value.iface tp p])]
def VsB(w:World)(B:Nat->Prop):Prop:=∀x∈zw,B x.1/\∃cs t z,w.heap[x.1]?=some (.cells cs t z)/\x.2 cs.toList
def Qn(w:World)(X:Nat->Prop):Prop:=∃B:Nat->Prop,VsB w B/\∀b,B b->b<w.heap.size/\¬X b
def Rr:List (Nat×aQ):=[]
def a3q(g:Nat)(ds:aQ):Prop:=∃p,(g,p)∈zw/\∀cs:bp,p cs->∀(o:Nat) d,ds[o]?=some d->∃v,cs[o]?=some v/\∀w,Rd w v d []
theorem V5:∀x∈Rr,a3q x.1 x.2:=by intro x hx;cases hx
def Wa(g o:Nat):Option D:=(Rr.find? fun x=>x.1==g).bind fun x=>x.2[o]?
theorem a1C{g o:Nat}{d:D}(h:Wa g o=some d):∃ds,a3q g ds/\ds[o]?=some d:=by
 unfold Wa at h;cases hf:Rr.find? fun x=>x.1==g with
 |none=>rw[hf]at h;cases h
 |some x=>
  rw[hf,aA]at h;have h1:=List.find?_some hf;have h2:=List.mem_of_find?_eq_some hf;have e:x.1=g:=by simpa using h1
  exact⟨x.2,by rw[<-e];exact V5 x h2,h⟩
theorem VsB.stays{w w':World}{B:Nat->Prop}(h:VsB w B)(hb:∀b,B b->w'.heap[b]?=w.heap[b]?):VsB w' B:=fun x hx=>by
 obtain⟨h1,cs,t,z,h2,h3⟩:=h x hx;exact⟨h1,cs,t,z,by rw[hb _ h1,h2],h3⟩
theorem Qn.cells{w:World}{X:Nat->Prop}(h:Qn w X){g:Nat}{p:bp->Prop}(hx:(g,p)∈zw):∃cs t z,w.heap[g]?=some (.cells cs t z)/\p cs.toList:=by
 obtain⟨B,h1,h2⟩:=h;exact(h1 _ hx).2
theorem Qn.var{P:Program}{w:World}{X:Nat->Prop}(h:Qn w X){g:Nat}{p:bp->Prop}{name:String}(hx:(g,p)∈zw)(hg:P.globalNamed name=some g):∃cs,w.var? P name=some cs/\p cs.toList:=by
 obtain⟨cs,t,z,h1,h2⟩:=h.cells hx;refine⟨cs,?_,h2⟩;unfold World.var?;rw[hg,aA,h1]
theorem Qn.a6K{P:Program}{w:World}(hs:∀x∈zw,∃name cs,P.globalNamed name=some x.1/\w.var? P name=some cs/\x.2 cs.toList):Qn w fun _=>False:=by
 refine⟨fun b=>b∈zw.map Prod.fst,fun x hx=>?_,fun b hb=>?_⟩
 ·obtain⟨name,cs,h1,h2,h3⟩:=hs x hx;unfold World.var? at h2;rw[h1,aA]at h2;refine⟨bt.2 ⟨x,hx,rfl⟩,?_⟩;split at h2
  ·rename_i cs' t z h4;cases h2;exact⟨_,t,z,h4,h3⟩
  ·cases h2
 ·obtain⟨x,hx,rfl⟩:=bt.1 hb;obtain⟨name,cs,h1,h2,h3⟩:=hs x hx;unfold World.var? at h2;rw[h1,aA]at h2;refine⟨?_,id⟩;split at h2
  ·rename_i cs' t z h4;exact(bO.1 h4).1
  ·cases h2
structure vn where
 W0:World
 Θ0:Nat->Nat
 X:Nat->Prop
 nt:Nat
 U:Nat->Prop
 vs:Qn W0 X
inductive RK where
 |sh
 |uq
 |cl
 |mv (n:Nat)
 |ho (p n:Nat)
def RK.RV:RK->Bool
 | .cl=>false
 |_=>true
def RK.ub:RK->Bool
 | .uq=>true
 | .ho _ _=>true
 |_=>false
def RK.hand:RK->Bool
 | .sh=>true
 | .uq=>true
 |_=>false
inductive Ob where
 |box (cells:aQ)
 |Bq (cells:aQ) (v:Value)
 |row (k:RK) (e:TypeId) (sz:Nat) (rows:List aQ)
 |Pf (sz:Nat) (rows:List aQ) (v:Option Value)
 |hole (sz:Nat) (rows:List aQ) (v:Option Value) (p n:Nat)
 |mp (kv:List (D×D))
 |tk (rows:List aQ)
 |tf (e:TypeId) (sz:Nat) (rows:List aQ)
 |gone
def Ob.VV:Ob->Option aQ
 | .box c=>some c
 | .Bq c _=>some c
 |_=>none
def Ob.re(o:Ob)(c:aQ):Ob:=match o with
 | .Bq _ v=>.Bq c v
 |_=>.box c
def WD(u:Value):Value:=match u with
 | .tuple ⟨[p,_]⟩=>p
 |u=>u
def Gs(u:Value):Option Value:=match u with
 | .tuple ⟨[_,c]⟩=>some c
 |_=>none
def Ob.Vt(o:Ob)(off:Nat):Bool:=match o with
 | .Bq cells _=> !(cells.length==3)||Nat.ble 1 off
 |_=>true
structure St where
 σ:List (Nat×D)
 H:List Ob
def lk:List (Nat×D)->Nat->D
 | [],_=>.any
 | (t,d)::r,n=>if n=t then d else lk r n
def D.TG:Value->D
 | .bool b=>.bool b
 | .int k n=>if qQ k n then .int k n else .val (.int k n)
 | .string s=>if s.size<=maxLen then .str s.data.toList else .val (.string s)
 | .slice none 0 0=>.nil
 |v=>.val v
def St.ev(st:St):Operand->D
 | .tmp t=>lk st.σ t
 | .const v=>D.TG v
 | .global g=>.val (.pointer (some ⟨g,0,none⟩))
 | .func f=>.val (.func (.func f) #[] #[])
def St.set(st:St)(t:Nat)(d:D):St:=⟨(t,d)::st.σ,st.H⟩
def St.put(st:St)(t:Option Nat)(d:D):St:=match t with|some t=>st.set t d|none=>st
inductive Aw(w:World)(κ:Nat->Option Value):Value->D->List Nat->Prop
 |pure {v:Value} {d:D} {bs:aa}:Rd w v d bs->Aw w κ v d bs
 |acc (id:Nat) (v:Value):κ id=some v->Aw w κ v (.acc id) []
 |ptr (id off b:Nat):κ id=some (.pointer (some ⟨b,0,none⟩))->Aw w κ (.pointer (some ⟨b,off,none⟩)) (.ptr id off) []
 |op (id i sz off b o0 len cap:Nat):κ id=some (.slice (some ⟨b,o0,none⟩) len cap)->Aw w κ (.pointer (some ⟨b,o0+(i*sz+off),none⟩)) (.op id i sz off) []
inductive fk(w:World)(κ:Nat->Option Value):List Value->List D->List Nat->Prop
 |nil:fk w κ [] [] []
 |cons (v:Value) (vs:bp) (d:D) (ds:aQ) (b1 b2:aa):v.oneCell'=true->Aw w κ v d b1->fk w κ vs ds b2->fk w κ (v::vs) (d::ds) (b1++b2)
inductive Nw(w:World)(κ:Nat->Option Value):Value->D->List Nat->Prop
 |cell {v:Value} {d:D} {bs:aa}:Aw w κ v d bs->Nw w κ v d bs
 |agg (cs:bp) (ds:aQ) (bs:aa):fk w κ cs ds bs->Nw w κ (.agg cs.toArray) (.agg ds) bs
inductive Dv(w:World)(κ:Nat->Option Value):List Value->List D->List Nat->Prop
 |nil:Dv w κ [] [] []
 |cons (v:Value) (vs:bp) (d:D) (ds:aQ) (b1 b2:aa):Nw w κ v d b1->Dv w κ vs ds b2->Dv w κ (v::vs) (d::ds) (b1++b2)
inductive ue(w:World)(κ:Nat->Option Value):Value->D->List Nat->Prop
 |v {v:Value} {d:D} {bs:aa}:Nw w κ v d bs->ue w κ v d bs
 |ff (vs:bp) (ds:aQ) (bs:aa):Dv w κ vs ds bs->ue w κ (.tuple vs.toArray) (.ff ds) bs
theorem ue.of{w:World}{κ:Nat->Option Value}{v:Value}{d:D}{bs:aa}(h:Rd w v d bs):ue w κ v d bs:=.v (.cell (.pure h))
def Wr(w:World)(b:Nat):Prop:=∃cs T,w.heap[b]?=some (.cells cs T (0,0))
def RdH(w:World)(κ:Nat->Option Value)(v:Value)(rows:List aQ)(p n:Nat)(bs:aa):Prop:=
 ∃b off cap cs ns,v=.slice (some ⟨b,off,none⟩) rows.length cap/\b<w.heap.size/\rows.length<=cap/\cap<=maxLen/\(∀j c,cs[j]?=some c->w.cell? ⟨b,off+j,none⟩=some c)/\p6 w cs rows.flatten ns/\bs=b::ns/\
  ∃c,cs[p]?=some c/\κ n=some c
def AN(w:World)(es:List MapEntry)(kv:List (D×D)):Prop:=
 es.length=kv.length/\∀(j:Nat) e p,es[j]?=some e->kv[j]?=some p->Rd w e.key p.1 []/\Rd w e.val p.2 []
theorem AN.stay{w w':World}{es:List MapEntry}{kv:List (D×D)}(h:AN w es kv):AN w' es kv:=
 ⟨h.1,fun j e p h1 h2=>⟨(h.2 j e p h1 h2).1.keep (by simp),(h.2 j e p h1 h2).2.keep (by simp)⟩⟩
def Kept(w:World)(κ:Nat->Option Value)(id:Nat)(u:Value):Prop:=
 ∀c,Gs u=some c->∀g cs T,κ id=some (.pointer (some ⟨g,0,none⟩))->w.heap[g]?=some (.cells cs T (0,0))->cs.size=3/\cs[0]?=some c
theorem Kept.same{w w':World}{κ κ':Nat->Option Value}{id id':Nat}{u:Value}{g:Nat}{cs:Array Value}{T:TypeId}(h:Kept w κ id u)(hk:κ id=some (.pointer (some ⟨g,0,none⟩)))(hg:w.heap[g]?=some (.cells cs T (0,0)))
 (hk':κ' id'=some (.pointer (some ⟨g,0,none⟩))) (hg':w'.heap[g]?=some (.cells cs T (0,0))):Kept w' κ' id' u:=by
 intro c hc g2 cs2 T2 h2 h3;rw[hk']at h2;cases h2;rw[hg']at h3;cases h3;exact h c hc g cs T hk hg
def yc(w:World)(κ:Nat->Option Value)(Θ:Nat->Nat)(id:Nat):Ob->Prop
 | .box cells=>∃g cs T,κ id=some (.pointer (some ⟨g,0,none⟩))/\w.heap[g]?=some (.cells cs T (0,0))/\Θ g=id+2/\
  ∃bs,fk w κ cs.toList cells bs/\∀b∈bs,Θ b=0
 | .Bq cells u=>(κ id=some (WD u)/\Kept w κ id u)/\∃g cs T,κ id=some (.pointer (some ⟨g,0,none⟩))/\w.heap[g]?=some (.cells cs T (0,0))/\Θ g=id+2/\
  ∃bs,fk w κ cs.toList cells bs/\∀b∈bs,Θ b=0
 | .row k e sz rows=>0<sz/\(∀r∈rows,r.length=sz)/\∃v cs bs,κ id=some v/\w.ownsRow 0 e sz v rows.length cs/\p6 w cs rows.flatten bs/\
  (∀g,v.ownBlock=some g->Θ g=id+2)/\
  (match k with
   | .cl=>bs.Nodup/\(∀b∈bs,Θ b=id+2/\Wr w b)/\(∀g,v.ownBlock=some g->g∉bs)/\yS w (vb e) 0 cs rows.flatten bs
   |_=>∀b∈bs,Θ b=0)
 | .Pf sz rows u=>(∀r∈rows,r.length=sz)/\(∀x,u=some x->κ id=some x)/\∃v bs,κ id=some v/\Rd w v (.sl rows) bs/\bs.Nodup/\∀b∈bs,Θ b=id+2/\Wr w b
 | .hole sz rows u p n=>(∀r∈rows,r.length=sz)/\(∀x,u=some x->κ id=some x)/\∃v bs,κ id=some v/\RdH w κ v rows p n bs/\bs.Nodup/\∀b∈bs,Θ b=id+2/\Wr w b
 | .mp kv=>∃g es clock,κ id=some (.map (some g))/\w.heap[g]?=some (.map es clock)/\Θ g=id+2/\AN w es.toList kv
 | .tk rows=>∃v bs,κ id=some v/\Rd w v (.sl rows) bs/\∀b∈bs,Θ b=0
 | .tf e sz rows=>∃v bs,κ id=some v/\Rd w v (.sl rows) bs/\∀b∈bs,Θ b=0
 | .gone=>True
def BB(Γ:vn)(b:Nat):Prop:=Γ.W0.heap.size<=b\/Γ.X b
def VE(Γ:vn)(b:Nat):Prop:=BB Γ b\/Γ.U b
theorem yc.cs{w:World}{κ:Nat->Option Value}{Θ:Nat->Nat}{id:Nat}{o:Ob}{cells:aQ}(hc:o.VV=some cells)(h:yc w κ Θ id o):
 ∃g cs T,κ id=some (.pointer (some ⟨g,0,none⟩))/\w.heap[g]?=some (.cells cs T (0,0))/\Θ g=id+2/\∃bs,fk w κ cs.toList cells bs/\∀b∈bs,Θ b=0:=by
 cases o<;>simp only[Ob.VV,reduceCtorEq,ay]at hc
 ·subst hc;exact h
 ·subst hc;exact h.2
theorem yc.a92{w w':World}{κ κ':Nat->Option Value}{Θ Θ':Nat->Nat}{id:Nat}{o:Ob}{cells cells':aQ}(hc:o.VV=some cells)(h:yc w κ Θ id o)(hk:∀v,κ id=some v->κ' id=some v)
 (hK:∀c u,o=.Bq c u->Kept w' κ' id u)
 (h':∃g cs T,κ' id=some (.pointer (some ⟨g,0,none⟩))/\w'.heap[g]?=some (.cells cs T (0,0))/\Θ' g=id+2/\∃bs,fk w' κ' cs.toList cells' bs/\∀b∈bs,Θ' b=0):yc w' κ' Θ' id (o.re cells'):=by
 cases o<;>simp only[Ob.VV,reduceCtorEq,ay]at hc
 ·exact h'
 ·exact⟨⟨hk _ h.1.1,hK _ _ rfl⟩,h'⟩
structure S8(Γ:vn)(w:World):Prop where
 os:w.os=Γ.W0.os
 tape:w.tape=Γ.W0.tape
 output:w.output=Γ.W0.output
 size:Γ.W0.heap.size<=w.heap.size
 block:∀b,b<Γ.W0.heap.size->¬Γ.X b->w.heap[b]?=Γ.W0.heap[b]?
def Nb(w:World)(κ:Nat->Option Value)(ρ:Nat->Nat)(id:Nat):Ob->Prop
 | .row (.mv n) e sz rows=>∃v cs bs,κ id=some v/\w.ownsRow 0 e sz v rows.length cs/\p6 w (cs.drop (n*sz)) (rows.drop n).flatten bs/\bs.Nodup/\∀b∈bs,ρ b=id+1
 | .row (.ho p n) e sz rows=>∃v cs bs,κ id=some v/\w.ownsRow 0 e sz v rows.length cs/\yS w (vb e) 0 cs rows.flatten bs/\bs.Nodup/\(∀b∈bs,ρ b=id+1)/\∃c,cs[p]?=some c/\κ n=some c
 | .tk rows=>∃v bs,κ id=some v/\Rd w v (.sl rows) bs/\bs.Nodup/\∀b∈bs,ρ b=id+1
 | .tf e sz rows=>∃v bs,κ id=some v/\Ib w (e,sz) v (.sl rows) bs/\(∀b∈bs,b<w.heap.size)/\bs.Nodup/\∀b∈bs,ρ b=id+1
 |_=>True
structure BE(Γ:vn)(H:List Ob)(κ:Nat->Option Value)(Θ:Nat->Nat)(w:World)(ρ:Nat->Nat):Prop where
 free:∀b,ρ b≠0->Θ b=0/\VE Γ b/\Wr w b
 rows:∀id e sz rows,H[id]?=some (.row .uq e sz rows)->∃v cs bs,κ id=some v/\w.ownsRow 0 e sz v rows.length cs/\yS w (vb e) 0 cs rows.flatten bs/\bs.Nodup/\∀b∈bs,ρ b=id+1
 more:∀id o,H[id]?=some o->Nb w κ ρ id o
structure eN(Γ:vn)(st:St)(κ:Nat->Option Value)(Θ:Nat->Nat)(a:Act)(w:World):Prop where
 defers:a.defers=[]
 size:a.tmps.size=Γ.nt
 tR:∀id,st.H.length<=id->κ id=none
 s9:∀(id:Nat) u,κ id=some u->u.oneCell'=true
 slot:∀t,∃bs,ue w κ (a.tmps.getD t undef) (lk st.σ t) bs/\∀b∈bs,Θ b=0
 ob:∀id o,st.H[id]?=some o->yc w κ Θ id o
 own:∀b,Θ b≠0->b<w.heap.size
 old:∀b,b<Γ.W0.heap.size->¬Γ.X b->Θ b=Γ.Θ0 b/\Θ b<=1
 mine:∀b,2<=Θ b->BB Γ b
 stays:S8 Γ w
 vG:∃ρ,BE Γ st.H κ Θ w ρ
theorem eN.vsb{Γ:vn}{st:St}{κ:Nat->Option Value}{Θ:Nat->Nat}{a:Act}{w:World}(h:eN Γ st κ Θ a w):∃B:Nat->Prop,VsB w B/\∀b,B b->b<Γ.W0.heap.size/\b<w.heap.size/\¬Γ.X b:=by
 obtain⟨B,h1,h2⟩:=Γ.vs;exact⟨B,h1.stays fun b hb=>h.stays.block b (h2 b hb).1 (h2 b hb).2,fun b hb=>⟨(h2 b hb).1,eC (h2 b hb).1 h.stays.size,(h2 b hb).2⟩⟩
theorem eN.vok{Γ:vn}{st:St}{κ:Nat->Option Value}{Θ:Nat->Nat}{a:Act}{w:World}(h:eN Γ st κ Θ a w):Qn w fun _=>False:=by
 obtain⟨B,h1,h2⟩:=h.vsb;exact⟨B,h1,fun b hb=>⟨(h2 b hb).2.1,id⟩⟩
def AW(P:Program)(Γ:vn)(c:Code)(Q:Exit->St->Prop)(st:St):Prop:=
 ∀κ Θ a w,eN Γ st κ Θ a w->c.wp P (fun e a' w'=>∃wz κ' Θ',eN Γ wz κ' Θ' a' w'/\Q e wz) a w
def AO(P:Program)(Γ:vn)(all:Array Oper)(ops:List Oper)(Q:Exit->St->Prop)(st:St):Prop:=
 ∀κ Θ a w,eN Γ st κ Θ a w->wpList P all (fun e a' w'=>∃wz κ' Θ',eN Γ wz κ' Θ' a' w'/\Q e wz) ops a w
section
variable{P:Program}{Γ:vn}{Q:Exit->St->Prop}{st:St}
theorem a1p(h:Q .normal st):AW P Γ .skip Q st:=fun _ _ _ _ hs=>wp_skip ⟨_,_,_,hs,h⟩
theorem a5G(h:Q .ret st):AW P Γ .ret Q st:=fun _ _ _ _ hs=>wp_ret ⟨_,_,_,hs,h⟩
theorem a1n{id:Nat}(h:Q (.exit id) st):AW P Γ (.exit id) Q st:=fun _ _ _ _ hs=>wp_exit ⟨_,_,_,hs,h⟩
def a15(next:St->Prop)(Q:Exit->St->Prop):Exit->St->Prop
 | .normal,st=>next st
 |e,st=>Q e st
def Qq(id:Nat)(Q:Exit->St->Prop):Exit->St->Prop
 | .exit id',st=>if id'=id then Q .normal st else Q (.exit id') st
 |e,st=>Q e st
theorem a5H{x y:Code}(h:AW P Γ x (a15 (AW P Γ y Q) Q) st):AW P Γ (.seq x y) Q st:=by
 intro κ Θ a w hs;refine wp_seq (wp_mono (h κ Θ a w hs) ?_);rintro e a' w' ⟨wz,κ',Θ',hs',hq⟩;cases e with
 |normal=>exact hq κ' Θ' a' w' hs'
 |exit id=>exact⟨_,_,_,hs',hq⟩
 |goto l=>exact⟨_,_,_,hs',hq⟩
 |ret=>exact⟨_,_,_,hs',hq⟩
 |panic c=>exact⟨_,_,_,hs',hq⟩
 |outgrown=>exact⟨_,_,_,hs',hq⟩
theorem YH{id:Nat}{c:Code}(h:AW P Γ c (Qq id Q) st):AW P Γ (.block id c) Q st:=by
 intro κ Θ a w hs;refine wp_block (wp_mono (h κ Θ a w hs) ?_);rintro e a' w' ⟨wz,κ',Θ',hs',hq⟩;cases e with
 |exit id'=>
  simp only[Exit.inBlock,Qq]at hq⊢;split
  ·rename_i he;rw[bL he]at hq;exact⟨_,_,_,hs',hq⟩
  ·rename_i he;rw[b9 he]at hq;exact⟨_,_,_,hs',hq⟩
 |normal=>exact⟨_,_,_,hs',hq⟩
 |goto l=>exact⟨_,_,_,hs',hq⟩
 |ret=>exact⟨_,_,_,hs',hq⟩
 |panic c=>exact⟨_,_,_,hs',hq⟩
 |outgrown=>exact⟨_,_,_,hs',hq⟩
theorem Wf{id:Nat}{l:List Oper}(h:AO P Γ l.toArray l Q st):AW P Γ (.region id l.toArray false) Q st:=
 fun κ Θ a w hs=>wp_region_lit (h κ Θ a w hs)
theorem a5E{all:Array Oper}(h:Q .normal st):AO P Γ all [] Q st:=fun _ _ _ _ hs=>wpList_nil ⟨_,_,_,hs,h⟩
end
section
variable{w:World}{κ:Nat->Option Value}{v:Value}{bs:aa}
theorem ue.uE{k:IntKind}{n:Int}(h:ue w κ v (.int k n) bs):v=.int k n:=by
 cases h with|v h=>cases h with|cell h=>cases h with|pure h=>cases h;rfl
theorem ue.OZ{k:IntKind}{n:Int}(h:ue w κ v (.int k n) bs):qQ k n:=by
 cases h with|v h=>cases h with|cell h=>cases h with|pure h=>cases h with|int _ _ hr=>exact hr
theorem ue.a11{s:Bytes}(h:ue w κ v (.str s) bs):s.length<=maxLen:=by
 cases h with|v h=>cases h with|cell h=>cases h with|pure h=>cases h with|str x hx=>simpa using hx
theorem ue.xz{b:Bool}(h:ue w κ v (.bool b) bs):v=.bool b:=by
 cases h with|v h=>cases h with|cell h=>cases h with|pure h=>cases h;rfl
theorem ue.wA{s:Bytes}(h:ue w κ v (.str s) bs):∃x:ByteArray,v=.string x/\x.data.toList=s:=by
 cases h with|v h=>cases h with|cell h=>cases h with|pure h=>cases h;exact⟨_,rfl,rfl⟩
theorem ue.WZ{u:Value}(h:ue w κ v (.val u) bs):v=u:=by
 cases h with|v h=>cases h with|cell h=>cases h with|pure h=>cases h;rfl
theorem ue.LG(h:ue w κ v .nil bs):v=.slice none 0 0:=by
 cases h with|v h=>cases h with|cell h=>cases h with|pure h=>cases h;rfl
theorem ue.Rl{rows:List aQ}(h:ue w κ v (.sl rows) bs):Rd w v (.sl rows) bs:=by
 cases h with|v h=>cases h with|cell h=>cases h with|pure h=>exact h
theorem ue.U5{row:aQ}{o:Nat}(h:ue w κ v (.ep row o) bs):Rd w v (.ep row o) bs:=by
 cases h with|v h=>cases h with|cell h=>cases h with|pure h=>exact h
theorem ue.zI{id:Nat}(h:ue w κ v (.acc id) bs):κ id=some v/\bs=[]:=by
 cases h with|v h=>cases h with|cell h=>cases h with|pure h=>cases h|acc _ _ hk=>exact⟨hk,rfl⟩
theorem ue.Aq{id off:Nat}(h:ue w κ v (.ptr id off) bs):∃b,κ id=some (.pointer (some ⟨b,0,none⟩))/\v=.pointer (some ⟨b,off,none⟩):=by
 cases h with|v h=>cases h with|cell h=>cases h with|pure h=>cases h|ptr _ _ b hk=>exact⟨b,hk,rfl⟩
theorem ue.Ow{id i sz off:Nat}(h:ue w κ v (.op id i sz off) bs):∃b o0 len cap,κ id=some (.slice (some ⟨b,o0,none⟩) len cap)/\v=.pointer (some ⟨b,o0+(i*sz+off),none⟩):=by
 cases h with|v h=>cases h with|cell h=>cases h with|pure h=>cases h|op _ _ _ _ b o0 len cap hk=>exact⟨b,o0,len,cap,hk,rfl⟩
theorem fk.Ei{vs:bp}{ds:aQ}(h:p6 w vs ds bs):fk w κ vs ds bs:=by
 induction ds generalizing vs bs with
 |nil=>cases h;exact .nil
 |cons d ds ih=>cases h with|cons v vs _ _ b1 b2 h1 h2 h3=>exact .cons _ _ _ _ _ _ h1 (.pure h2) (ih h3)
theorem Ap{w:World}{e sz b o0 len cap n:Nat}{cs:bp}(h:w.ownsRow 0 e sz (.slice (some ⟨b,o0,none⟩) len cap) n cs):o0=0:=by
 rcases h.2 with⟨h,_⟩|⟨g,cap,cur,h,_⟩
 ·cases h
 ·cases h;rfl
theorem ue.HG{ds:aQ}(h:ue w κ v (.agg ds) bs):∃cs:bp,v=.agg cs.toArray/\fk w κ cs ds bs:=by
 cases h with
 |v h=>
  cases h with
  |cell h=>cases h with|pure h=>cases h with|agg cs _ _ h=>exact⟨cs,rfl,fk.Ei h⟩
  |agg cs _ _ h=>exact⟨cs,rfl,h⟩
theorem fk.length{vs:bp}{ds:aQ}(h:fk w κ vs ds bs):vs.length=ds.length:=by
 induction ds generalizing vs bs with
 |nil=>cases h;rfl
 |cons d ds ih=>cases h with|cons v vs _ _ b1 b2 h1 h2 h3=>simp[ih h3]
theorem fk.one{vs:bp}{ds:aQ}(h:fk w κ vs ds bs):∀v∈vs,v.oneCell'=true:=by
 induction ds generalizing vs bs with
 |nil=>cases h;simp
 |cons d ds ih=>
  cases h with
  |cons v vs _ _ b1 b2 h1 h2 h3=>
   intro u hu;rcases bJ.1 hu with rfl|hu
   ·exact h1
   ·exact ih h3 u hu
theorem fk.app{vs us:bp}{ds es:aQ}{cs:aa}(h:fk w κ vs ds bs)(k:fk w κ us es cs):fk w κ (vs++us) (ds++es) (bs++cs):=by
 induction ds generalizing vs bs with
 |nil=>cases h;simpa using k
 |cons d ds ih=>
  cases h with
  |cons v vs _ _ b1 b2 h1 h2 h3=>
   rw[cy];exact .cons _ _ _ _ _ _ h1 h2 (ih h3)
theorem fk.split{vs:bp}{ds es:aQ}(h:fk w κ vs (ds++es) bs):
 ∃v1 v2 b1 b2,vs=v1++v2/\bs=b1++b2/\fk w κ v1 ds b1/\fk w κ v2 es b2:=by
 induction ds generalizing vs bs with
 |nil=>exact⟨[],vs,[],bs,by simp,by simp,.nil,h⟩
 |cons d ds ih=>
  cases h with
  |cons v vs _ _ b1 b2 h1 h2 h3=>
   obtain⟨v1,v2,c1,c2,rfl,rfl,k1,k2⟩:=ih h3;exact⟨v::v1,v2,b1++c1,c2,by simp,by simp,.cons _ _ _ _ _ _ h1 h2 k1,k2⟩
theorem fk.mid{vs:bp}{ds:aQ}(h:fk w κ vs ds bs)(i n:Nat)(hn:i+n<=ds.length):
 ∃b,fk w κ ((vs.drop i).take n) ((ds.drop i).take n) b/\∀x∈b,x∈bs:=by
 have e:ds=ds.take i++((ds.drop i).take n++(ds.drop i).drop n):=by rw[cO,cO]
 rw[e]at h;obtain⟨v1,v2,b1,b2,rfl,rfl,k1,k2⟩:=h.split;obtain⟨v3,v4,b3,b4,rfl,rfl,k3,k4⟩:=k2.split;refine⟨b3,?_,by intro x hx;simp[hx]⟩;have h1:v1.length=i:=by rw[k1.length];simp;omega
 have h3:v3.length=n:=by rw[k3.length];simp;omega
 rw[jP h1,kY h3];exact k3
theorem fk.at{vs:bp}{ds:aQ}(h:fk w κ vs ds bs){i:Nat}{d:D}(hd:ds[i]?=some d):
 ∃v b,vs[i]?=some v/\v.oneCell'=true/\Aw w κ v d b/\∀x∈b,x∈bs:=by
 induction ds generalizing vs bs i with
 |nil=>simp at hd
 |cons e ds ih=>
  cases h with
  |cons v vs _ _ b1 b2 h1 h2 h3=>
   cases i with
   |zero=>simp at hd;subst hd;exact⟨v,b1,by simp,h1,h2,by intro x hx;simp[hx]⟩
   |succ i=>
    simp at hd;obtain⟨u,b,k1,k2,k3,k4⟩:=ih h3 hd;exact⟨u,b,by simpa using k1,k2,k3,fun x hx=>by simp[k4 x hx]⟩
theorem Uc(v:Value):ue w κ v (D.TG v) []:=by
 unfold D.TG;split
 ·exact .of (.bool _)
 ·split
  ·rename_i h;exact .of (.int _ _ h)
  ·exact .of (.val _)
 ·split
  ·rename_i h;exact .of (.str _ h)
  ·exact .of (.val _)
 ·exact .of .nil
 ·exact .of (.val _)
end
section
variable{Γ:vn}{st:St}{κ:Nat->Option Value}{Θ:Nat->Nat}{a:Act}{w:World}
theorem eN.ev(h:eN Γ st κ Θ a w)(x:Operand):∃bs,ue w κ (a.eval x) (st.ev x) bs/\∀b∈bs,Θ b=0:=by
 cases x with
 |tmp t=>exact h.slot t
 |const v=>exact⟨[],Uc v,by simp⟩
 |global g=>exact⟨[],.of (.val _),by simp⟩
 |func f=>exact⟨[],.of (.val _),by simp⟩
theorem eN.set(h:eN Γ st κ Θ a w){t:Nat}{v:Value}{d:D}{bs:aa}(ht:t<Γ.nt)(hv:ue w κ v d bs)(hb:∀b∈bs,Θ b=0):
 eN Γ (st.set t d) κ Θ (a.put (some t) v) w:=by
 refine⟨h.defers,by simp[Act.put,h.size],h.tR,h.s9,?_,h.ob,h.own,h.old,h.mine,h.stays,h.vG⟩;intro u;show∃bs,ue w κ ((a.tmps.setIfInBounds t v).getD u undef) (if u=t then d else lk st.σ u) bs/\_;have hsz:=h.size;by_cases hu:u=t
 ·subst hu;rw[bL rfl];have:(a.tmps.setIfInBounds u v).getD u undef=v:=by
   simp[cL,hsz,ht]
  rw[this];exact⟨bs,hv,hb⟩
 ·rw[b9 hu];have:(a.tmps.setIfInBounds t v).getD u undef=a.tmps.getD u undef:=by
   simp[cL,tg hu]
  rw[this];exact h.slot u
end
abbrev bY:=List Ob
def Df(P:Program)(t:TypeId):Option Bool:=
 match P.underlying t with
 |some (.struct _)=>some true
 |some (.array _ _)=>some true
 |some _=>some false
 |none=>none
def C8(P:Program)(t:TypeId):Nat:=P.cellsOf t
def tfo(P:Program)(t f:Nat):Option Nat:=
 match P.underlying t with
 |some (.struct fs)=>(match fs[f]? with
  |some x=>if(P.info? x.type).isSome/\P.cellsOf x.type≠0 then some x.offset else none
  |none=>none)
 |_=>none
def tft(P:Program)(t f:Nat):Option (Nat×TypeId):=
 match P.underlying t with
 |some (.struct fs)=>(match fs[f]? with|some x=>some (x.offset,x.type)|none=>none)
 |_=>none
def LY(P:Program)(t:TypeId):Option (TypeId×Nat):=
 match P.underlying t with
 |some (.slice e)=>if(P.info? e).isSome then some (e,P.cellsOf e)else none
 |_=>none
def a6v(P:Program)(t:TypeId):Option (Nat×Nat):=
 match P.underlying t with
 |some (.array n e)=>if(P.info? e).isSome then some (P.cellsOf e,n)else none
 |_=>none
def Me(P:Program)(t:TypeId):Bool:=match P.underlying t with|some .string=>true|_=>false
def Uz(P:Program)(t:TypeId):Option IntKind:=match P.underlying t with|some (.int k)=>some k|_=>none
def a50(P:Program)(t:TypeId):Bool:=match P.underlying t with|some .bool=>true|_=>false
def WR(P:Program)(t:TypeId):Bool:=match P.underlying t with
 |some (.struct fs)=>match fs.toList with
  | [f,g]=>f.name != "_" &&g.name != "_" &&f.offset==0&&g.offset==1&&Me P f.type&&Me P g.type&& !P.stoodInHeld t&& !P.eqGuardType P.depth t
  |_=>false
 |_=>false
def peq(P:Program)(op:BinOp)(t:TypeId):D->D->Option D
 | .bool a,.bool b=>if a50 P t=true then match op with| .eql=>some (.bool (a==b))| .neq=>some (.bool (a != b))|_=>none else none
 | .agg [.str a,.str b],.agg [.str c,.str d]=>if WR P t=true then match op with| .eql=>some (.bool (a==c&&b==d))| .neq=>some (.bool (!(a==c&&b==d)))|_=>none else none
 |_,_=>none
def a6w(P:Program)(t:TypeId):Bool:=match P.underlying t with|some (.interface _)=>true|_=>false
def a6O(P:Program)(op:BinOp)(t:TypeId)(x:D)(y:Operand):Option D:=match x,y with
 | .ifc b,.const .nilIface=>(match a6w P t,op with|true,.eql=>some (.bool (!b))|true,.neq=>some (.bool b)|_,_=>none)
 |_,_=>none
def XU(op:BinOp):D->D->Option D
 | .int k a,.int k' b=>
  if k=k' then
   match op with
   | .add=>some (.int k (k.wrap (a+b)))
   | .sub=>some (.int k (k.wrap (a-b)))
   | .mul=>some (.int k (k.wrap (a*b)))
   | .quo=>if 0<=a/\0<b then some (.int k (a/b))else none
   | .rem=>if 0<=a/\0<b then some (.int k (a%b))else none
   | .eql=>some (.bool (a==b))
   | .neq=>some (.bool (a != b))
   | .lss=>some (.bool (a<b))
   | .leq=>some (.bool (a<=b))
   | .gtr=>some (.bool (a>b))
   | .geq=>some (.bool (a>=b))
   |_=>none
  else none
 | .str a,.str b=>
  match op with
  | .add=>if a.length+b.length<=maxLen then some (.str (a++b))else none
  | .eql=>some (.bool (a==b))
  | .neq=>some (.bool (!(a==b)))
  | .lss=>some (.bool (Op.bytesLess a b))
  | .leq=>some (.bool (Op.bytesLess a b||a==b))
  | .gtr=>some (.bool (!(Op.bytesLess a b||a==b)))
  | .geq=>some (.bool (!(Op.bytesLess a b)))
  |_=>none
 |_,_=>none
def Ip(ag:Bool)(n:Nat)(row:aQ)(off:Nat):Option D:=
 if ag then(if off+n<=row.length then some (.agg ((row.drop off).take n))else none)else row[off]?
def wT(len:Nat)(lo hi:Option D):Option (Nat×Nat):=
 match(match hi with|none=>some len|some (.int _ h)=>if 0<=h/\h.toNat<=len then some h.toNat else none|_=>none)with
 |none=>none
 |some h=>match(match lo with|none=>some 0|some (.int _ l)=>if 0<=l/\l.toNat<=h then some l.toNat else none|_=>none)with
  |none=>none
  |some l=>some (l,h)
def RE(a b:Int):Int:=if b<a then b else a
def a6N:D->D->Option D
 | .int k m,.int k' n=>if k=k' then some (.int k (RE m n))else none
 |_,_=>none
def a3B(P:Program)(st:St)(x:Operand)(t:TypeId):Option D:=
 match st.ev x with
 | .str s=>if Me P t then some (.int .i64 s.length)else none
 | .sl rows=>if(LY P t).isSome then some (.int .i64 rows.length)else none
 | .nil=>if(LY P t).isSome then some (.int .i64 0)else none
 | .acc id=>(match LY P t,st.H[id]? with|some _,some (.row _ _ _ rows)=>some (.int .i64 rows.length)|_,_=>none)
 |_=>none
def D.cellsOf:D->Option aQ
 | .agg ds=>some ds
 | .any=>none
 | .ff _=>none
 | .val v=>if v.oneCell' then some [.val v]else none
 |d=>some [d]
def tz(P:Program)(t:TypeId):Option aQ:=
 match P.info? t with
 |some i=>(match i.zero with
  |some z=>if z.cells.toList.all (fun c=>c.oneCell')&&z.cells.size==i.size then some (z.cells.toList.map D.TG)else none
  |none=>none)
 |none=>none
def WS(P:Program)(t:TypeId):Option (List (Nat×Nat)):=
 match P.underlying t with
 |some (.struct fs)=>fs.toList.mapM (fun f=>(P.info? f.type).map fun i=>(f.offset,i.size))
 |_=>none
def zm(places:List (Nat×Nat))(cells:aQ):List (Nat×D)->Option aQ
 | []=>some cells
 | (i,d)::rest=>match places[i]?,d.cellsOf with
  |some (off,sz),some ds=>if ds.length=sz/\off+sz<=cells.length then zm places (cells.take off++ds++cells.drop (off+sz)) rest else none
  |_,_=>none
def keq:D->D->Option Bool
 | .str a,.str b=>some (a==b)
 | .int k a,.int k' b=>if k=k' then some (a==b)else none
 |_,_=>none
def Jh:TypeDesc->D->Bool
 | .string,.str _=>true
 | .int k,.int k' _=>decide (k=k')
 |_,_=>false
def Gt(k:D):List (D×D)->Option (Option D)
 | []=>some none
 |p::r=>match keq k p.1 with|some true=>some (some p.2)|some false=>Gt k r|none=>none
def L8(k v:D):List (D×D)->Option (List (D×D))
 | []=>some [(k,v)]
 |p::r=>match keq k p.1 with|some true=>some ((k,v)::r)|some false=>(L8 k v r).map (p:: ·)|none=>none
def Xi(P:Program)(T:TypeId):Option (TypeDesc×D):=
 match P.underlying T with
 |some (.map kt et)=>(match P.underlying kt,P.info? et with
  |some d,some i=>(match i.zero with|some z=>if z.oneCell'=true then some (d,D.TG z)else none|none=>none)
  |_,_=>none)
 |_=>none
def plk(P:Program)(T:TypeId)(kv:List (D×D))(k:D)(ok:Bool):Option D:=
 match Xi P T with
 |some (kd,dz)=>(match Jh kd k,Gt k kv with
  |true,some (some d)=>some (bif ok then .ff [d,.bool true]else d)
  |true,some none=>some (bif ok then .ff [dz,.bool false]else dz)
  |_,_=>none)
 |none=>none
def Ie(k:IntKind)(a b:Int):Int:=k.wrap ((BitVec.ofInt k.bits a&&& BitVec.ofInt k.bits b).toNat)
def a7d(k:IntKind)(a b:Int):Int:=k.wrap ((BitVec.ofInt k.bits a|||BitVec.ofInt k.bits b).toNat)
def VP(k:IntKind)(a b:Int):Int:=k.wrap ((BitVec.ofInt k.bits a^^^BitVec.ofInt k.bits b).toNat)
def TW(k:IntKind)(a b:Int):Int:=a.fdiv (2^(min b.toNat k.bits))
def a6M(op:BinOp)(x y:D):Option D:=match x,y with
 | .int k a,.int k' b=>(match op with
  | .and=>if k=k' then some (.int k (Ie k a b))else none
  | .or=>if k=k' then some (.int k (a7d k a b))else none
  | .xor=>if k=k' then some (.int k (VP k a b))else none
  | .shr=>if 0<=b then some (.int k (TW k a b))else none
  |_=>none)
 |_,_=>none
theorem qQ.shr{k:IntKind}{a:Int}(h:qQ k a)(b:Int):qQ k (TW k a b):=by
 have hm:(0:Int)<2^(min b.toNat k.bits):=Int.pow_pos (by decide);unfold TW;rw[Int.fdiv_eq_ediv_of_nonneg _ (Dk hm)];generalize(2:Int)^(min b.toNat k.bits)=m at hm;have hz:=qQ.zero k;rcases Int.lt_or_le a 0 with h0|h0
 ·refine⟨Dl h.1 (Int.le_ediv_of_mul_le hm ?_),Dl (Dk (Int.ediv_lt_of_lt_mul (b:=0) hm (by omega))) hz.2⟩;have:a*m<=a*1:=Int.mul_le_mul_of_nonpos_left (Dk h0) (by omega);omega
 ·exact h.down (Ea h0 (Dk hm)) (Int.ediv_le_self m h0)
def pv(P:Program)(st:St):Op->Option D
 | .lookup T x i ok=>match st.ev x with
  | .acc id=>(match st.H[id]? with|some (.mp kv)=>plk P T kv (st.ev i) ok|_=>none)
  |_=>none
 | .build t parts=>match tz P t,WS P t with
  |some zs,some ps=>(zm ps zs (parts.toList.map fun p=>(p.1,st.ev p.2))).map D.agg
  |_,_=>none
 | .move x=>some (st.ev x)
 | .assign x=>some (st.ev x)
 | .pick c a b=>match st.ev c with| .bool t=>some (bif t then st.ev a else st.ev b)|_=>none
 | .binOp op t x y _=>match XU op (st.ev x) (st.ev y)with|some d=>some d|none=>(match peq P op t (st.ev x) (st.ev y)with|some d=>some d|none=>(match a6O P op t (st.ev x) y with|some d=>some d|none=>a6M op (st.ev x) (st.ev y)))
 | .nilCheck x=>match st.ev x with| .ptr i o=>some (.ptr i o)| .op i a b c=>some (.op i a b c)| .ep r o=>some (.ep r o)|_=>none
 | .unOp .not _ x=>match st.ev x with| .bool b=>some (.bool (!b))|_=>none
 | .unOp .neg _ x=>match st.ev x with| .int k n=>some (.int k (k.wrap (0-n)))|_=>none
 | .convert s d x=>match st.ev x,Uz P s,Uz P d with| .int _ n,some _,some k=>some (.int k (k.wrap n))|_,_,_=>none
 | .field t x f=>match tft P t f,st.ev x with
  |some (off,ft),.agg cells=>(match Df P ft with|some ag=>Ip ag (C8 P ft) cells off|none=>none)
  |_,_=>none
 | .fieldAddr t x f=>match tfo P t f,st.ev x with
  |some o,.ptr id off=>some (.ptr id (off+o))
  |some o,.ep row off=>some (.ep row (off+o))
  |some o,.op id i sz off=>some (.op id i sz (off+o))
  |_,_=>none
 | .indexAddr t x i=>match LY P t,st.ev x,st.ev i with
  |some (_,sz),.sl rows,.int _ n=>if 0<=n then(match rows[n.toNat]? with|some row=>if row.length=sz then some (.ep row 0)else none|none=>none)else none
  |some (_,sz),.acc id,.int _ n=>(match st.H[id]? with
   |some (.row _ _ sz' rows)=>if sz=sz'/\0<=n/\n.toNat<rows.length then some (.op id n.toNat sz 0)else none
   |_=>none)
  |_,.val (.pointer (some ⟨g,o,none⟩)),.int _ n=>(match a6v P t with
   |some (sz,len)=>if 0<=n/\n.toNat<len then some (.val (.pointer (some ⟨g,o+n.toNat*sz,none⟩)))else none
   |none=>none)
  |_,_,_=>none
 | .load t x=>match Df P t,st.ev x with
  |some ag,.ep row off=>Ip ag (C8 P t) row off
  |some ag,.ptr id off=>(match(st.H[id]?).bind Ob.VV with|some cells=>Ip ag (C8 P t) cells off|none=>none)
  |some ag,.op id i sz off=>(match st.H[id]? with
   |some (.row (.ho p n) _ sz' _)=>(match ag with|false=>if sz'=sz/\i*sz+off=p then some (.acc n)else none|true=>none)
   |some (.row k _ sz' rows)=>(match rows[i]? with|some row=>if sz'=sz/\k.RV=true/\off+(bif ag then C8 P t else 1)<=sz then Ip ag (C8 P t) row off else none|none=>none)
   |_=>none)
  |some ag,.val (.pointer (some ⟨g,o,none⟩))=>(match ag with|false=>Wa g o|true=>none)
  |_,_=>none
 | .extract x i=>match st.ev x with| .ff vs=>vs[i]? |_=>none
 | .index t x i=>match Me P t,st.ev x,st.ev i with
  |true,.str s,.int _ n=>if 0<=n then(match s[n.toNat]? with|some b=>some (.int .u8 b.toNat)|none=>none)else none
  |_,_,_=>none
 | .slice t x lo hi none=>match st.ev x with
  | .str s=>if Me P t then(match wT s.length (lo.map st.ev) (hi.map st.ev)with|some (l,h)=>some (.str ((s.take h).drop l))|none=>none)else none
  | .sl rows=>(match LY P t,wT rows.length (lo.map st.ev) (hi.map st.ev)with
   |some (_,sz),some (l,h)=>if(rows.all (fun r=>r.length==sz))then some (.sl ((rows.take h).drop l))else none
   |_,_=>none)
  |_=>none
 | .call c=>match c.callee,c.args.toList,c.argTypes.toList with
  | .builtin .len,[x],[t]=>a3B P st x t
  | .builtin .min,[x,y],[_,_]=>a6N (st.ev x) (st.ev y)
  |_,_,_=>none
 |_=>none
section
variable{P:Program}{Γ:vn}{st:St}{κ:Nat->Option Value}{Θ:Nat->Nat}{a:Act}{w:World}
def yb(P:Program)(κ:Nat->Option Value)(Θ:Nat->Nat)(a:Act)(w:World)(o:Oper)(d:D):Prop:=
 ∃v bs,(execOp a.eval o).run P w=.ok (.value v) w/\ue w κ v d bs/\∀b∈bs,Θ b=0
theorem Ub{n:Nat}(h:n<=maxLen):qQ .i64 (n:Int):=by
 rw[qQ.i64];unfold maxLen at h;omega
theorem dY{k:IntKind}{n:Int}(h:qQ k n):k.wrap n=n:=by
 unfold qQ at h;cases k<;>simp[IntKind.min,IntKind.max,IntKind.wrap,IntKind.bits,IntKind.signed]at h⊢ <;>(try split)<;>omega
theorem Ue{o:Oper}{op:BinOp}{t t':TypeId}{x y:Operand}{d:D}(hs:eN Γ st κ Θ a w)(ho:o.op=.binOp op t x y t')
 (h:XU op (st.ev x) (st.ev y)=some d):yb P κ Θ a w o d:=by
 obtain⟨b1,r1,_⟩:=hs.ev x;obtain⟨b2,r2,_⟩:=hs.ev y;generalize st.ev x=dx at*;generalize st.ev y=dy at*;unfold XU at h;split at h
 ·rename_i k p k' q;split at h
  ·rename_i hk;subst hk;have e1:=r1.uE;have e2:=r2.uE;cases op<;>simp only[ay,reduceCtorEq]at h
   case quo=>
    split at h
    ·rename_i hq;cases h;have hq0:q≠0:=by omega
     have hle:p/q<=p:=Int.ediv_le_self q hq.1;have h0:0<=p/q:=Ea hq.1 (by omega);have hin:=r1.OZ.down h0 hle;have hw:k.wrap (p.tdiv q)=p/q:=by
      rw[Int.tdiv_eq_ediv_of_nonneg hq.1];exact dY hin
     exact⟨_,[],by simp[execOp,ho,e1,e2,binOp,eqGuard,Op.intDiv,hq0,hw],.of (.int _ _ hin),by simp⟩
    ·cases h
   case rem=>
    split at h
    ·rename_i hq;cases h;have hq0:q≠0:=by omega
     have h0:0<=p%q:=Int.emod_nonneg p hq0;have hle:p%q<=p:=by
      have h1:=Int.emod_add_mul_ediv p q;have h2:0<=q*(p/q):=Int.mul_nonneg (by omega) (Ea hq.1 (by omega));omega
     have hin:=r1.OZ.down h0 hle;have hw:p.tmod q=p%q:=Int.tmod_eq_emod_of_nonneg hq.1;exact⟨_,[],by simp[execOp,ho,e1,e2,binOp,eqGuard,Op.intDiv,hq0,hw],.of (.int _ _ hin),by simp⟩
    ·cases h
   all_goals subst h
   all_goals first
    |exact⟨_,[],by simp[execOp,ho,e1,e2,binOp,eqGuard,Op.intArith],.of (.int _ _ (qQ.wrap _ _)),by simp⟩
    |exact⟨_,[],by simp[execOp,ho,e1,e2,binOp,eqGuard,Op.intCmp],.of (.bool _),by simp⟩
  ·cases h
 ·rename_i p q;obtain⟨u,e1,rfl⟩:=r1.wA;obtain⟨v,e2,rfl⟩:=r2.wA;cases op<;>simp only[ay,reduceCtorEq]at h
  case add=>
   split at h
   ·rename_i hl;cases h;have hsz:u.size+v.size<=9223372036854775807:=by
     simp only[wL,maxLen]at hl;exact hl
    refine⟨.string (u++v),[],?_,?_,by simp⟩
    ·simp[execOp,ho,e1,e2,binOp,eqGuard,run_string_add_sum w u v hsz]
    ·have:=Rd.str (w:=w) (u++v) (by rw[ByteArray.size_append'];unfold maxLen;omega);simp only[ByteArray.data_append,nE]at this;exact .of this
   ·cases h
  all_goals subst h
  all_goals exact⟨_,[],by simp[execOp,ho,e1,e2,binOp,eqGuard,Op.stringOp,ByteArray.toList_eq],.of (.bool _),by simp⟩
 ·cases h
theorem HO{t:TypeId}{b:Bool}(h:Df P t=some b)(w:World):(isAgg t).run P w=.ok b w:=by
 unfold Df at h;split at h<;>first
  | (rename_i hu;cases h;simp[isAgg,run_underlying hu])
  | (rename_i d _ _ hu;cases h;cases d<;>simp_all [isAgg,run_underlying hu])
  |cases h
theorem info_of_underlying{t:TypeId}{d:TypeDesc}(h:P.underlying t=some d):∃i,P.info? t=some i:=by
 unfold Program.underlying at h;cases hi:P.info? t with
 |none=>simp[hi]at h
 |some i=>exact⟨i,rfl⟩
theorem L5{t:TypeId}{b:Bool}(h:Df P t=some b):∃i,P.info? t=some i:=by
 unfold Df at h;split at h<;>first
  | (rename_i hu;exact info_of_underlying hu)
  |cases h
theorem yQ{t:TypeId}(h:∃i,P.info? t=some i)(w:World):(sizeOf t).run P w=.ok (C8 P t) w:=by
 obtain⟨i,hi⟩:=h;simp[sizeOf,typeInfo,hi,C8,Program.cellsOf]
theorem tT{t:TypeId}{ag:Bool}(ht:Df P t=some ag){b off o:Nat}{cs:bp}
 (hc:∀j c,cs[j]?=some c->w.cell? ⟨b,off+j,none⟩=some c):
 (ag=true->o+C8 P t<=cs.length->(Instr.loadAt t (.pointer (some ⟨b,off+o,none⟩))).run P w=.ok (.agg ((cs.drop o).take (C8 P t)).toArray) w)/\
 (ag=false->∀c,cs[o]?=some c->(Instr.loadAt t (.pointer (some ⟨b,off+o,none⟩))).run P w=.ok c w):=by
 constructor
 ·intro e hl;subst e;have hlen:((cs.drop o).take (C8 P t)).length=C8 P t:=by simp;omega
  have:=run_loadCells_list (P:=P) w ⟨b,off+o,none⟩ ((cs.drop o).take (C8 P t)) (by
   intro j v hj;rw[Addr.add_lit];rw[cU]at hj;split at hj
   ·rw[fG]at hj;rw[mR];exact hc _ _ hj
   ·cases hj)
  rw[hlen]at this;simp[Instr.loadAt,Instr.sureAddr,loadVar,HO ht,yQ (L5 ht),this]
 ·intro e c hj;subst e;have:=hc o c hj;simp[Instr.loadAt,Instr.sureAddr,loadVar,HO ht,this]
theorem Aw.S0{v:Value}{d:D}{bs:aa}(h:Aw w κ v d bs):ue w κ v d bs:=.v (.cell h)
theorem Oh{o:Oper}{t:TypeId}{x:Operand}{d:D}(hs:eN Γ st κ Θ a w)(ho:o.op=.load t x)
 (h:pv P st (.load t x)=some d):yb P κ Θ a w o d:=by
 obtain⟨b1,r1,z1⟩:=hs.ev x;simp only[pv]at h;split at h
 ·rename_i ag row off ht hx;rw[hx]at r1;have hrd:=r1.U5;generalize Y4:a.eval x=vx at hrd;cases hrd with
  |ep b base cs _ _ bs h0 hc vL=>
   have L:=tT (P:=P) (w:=w) ht (o:=off) hc;unfold Ip at h;split at h
   ·rename_i hag;split at h
    ·rename_i hl;cases h;have hl':off+C8 P t<=cs.length:=by rw[vL.length];exact hl
     obtain⟨b',hm,hsub⟩:=vL.mid off (C8 P t);exact⟨_,b',by simp only[execOp,ho,Y4];simp[L.1 hag hl'],.of (.agg _ _ _ hm),fun y hy=>z1 y (by simp[hsub y hy])⟩
    ·cases h
   ·rename_i hag;simp only[yo]at hag;obtain⟨v,b',hv,_,hr,hsub⟩:=vL.at h;exact⟨v,b',by simp only[execOp,ho,Y4];simp[L.2 hag v hv],.of hr,fun y hy=>z1 y (by simp[hsub y hy])⟩
 ·rename_i ag id off ht hx;rw[hx]at r1;obtain⟨g,hk,hv⟩:=r1.Aq;split at h
  ·rename_i cells hH;obtain⟨ob,hH,CK⟩:=pF.1 hH;obtain⟨g',cs,T,hk',hg,hΘ,bs,vL,hz⟩:=(hs.ob id _ hH).cs CK;rw[hk]at hk';cases hk';have hc:∀j c,cs.toList[j]?=some c->w.cell? ⟨g,0+j,none⟩=some c:=by
    intro j c hj;simp only[cS,World.cell?,hg];simpa using hj
   have L:=tT (P:=P) (w:=w) ht (o:=off) hc;simp only[cS]at L;unfold Ip at h;split at h
   ·rename_i hag;split at h
    ·rename_i hl;cases h;have hl':off+C8 P t<=cs.toList.length:=by rw[vL.length];exact hl
     obtain⟨b',hm,hsub⟩:=vL.mid off (C8 P t) hl;exact⟨_,b',by simp only[execOp,ho,hv];simp[L.1 hag hl'],.v (.agg _ _ _ hm),fun y hy=>hz y (hsub y hy)⟩
    ·cases h
   ·rename_i hag;simp only[yo]at hag;obtain⟨v,b',hv',_,hr,hsub⟩:=vL.at h;exact⟨v,b',by simp only[execOp,ho,hv];simp[L.2 hag v hv'],hr.S0,fun y hy=>hz y (hsub y hy)⟩
  ·cases h
 ·rename_i ag id i sz off ht hx;rw[hx]at r1;obtain⟨g,o0,len,cap,hk,hv⟩:=r1.Ow;split at h
  ·rename_i p n e sz' rows hH;split at h
   ·split at h
    ·rename_i Yt;obtain⟨rfl,rfl⟩:=Yt;cases h;obtain⟨ρ,hu⟩:=hs.vG;obtain⟨vk,cs,bs,Vn,hown,_,_,_,c,hc,hkc⟩:=hu.more id _ hH;rw[hk]at Vn;cases Vn;have Y3:=Ap hown;subst Y3;rw[cS]at hv;have hcells:∀j c,cs[j]?=some c->w.cell? ⟨g,0+j,none⟩=some c:=by
      intro j c hj;have:=hown.cells (g:=g) (by simp[Value.ownBlock]) j c hj;simpa[Addr.add_lit]using this
     have L:=tT (P:=P) (w:=w) ht (o:=i*sz'+off) hcells;simp only[cS]at L;exact⟨c,[],by simp only[execOp,ho,hv];simp[L.2 trivial c hc],(Aw.acc n c hkc).S0,by simp⟩
    ·cases h
   ·cases h
  ·rename_i k e sz' rows hnh hH;split at h
   ·rename_i row hrow;split at h
    ·rename_i Yt;obtain⟨rfl,hk0,hoff⟩:=Yt;obtain⟨hsz,hrl,vk,cs,bs,Vn,hown,vL,hΘ,hz⟩:=hs.ob id _ hH;have zy:∀b∈bs,Θ b=0:=by cases k<;>first|exact hz|simp[RK.RV]at hk0
     rw[hk]at Vn;cases Vn;have Y3:=Ap hown;subst Y3;rw[cS]at hv;have Vm:row.length=sz':=hrl row (aE hrow);have hcells:∀j c,cs[j]?=some c->w.cell? ⟨g,0+j,none⟩=some c:=by
      intro j c hj;have:=hown.cells (g:=g) (by simp[Value.ownBlock]) j c hj;simpa[Addr.add_lit]using this
     have L:=tT (P:=P) (w:=w) ht (o:=i*sz'+off) hcells;simp only[cS]at L;have aBb:=vL.length;have hmid:=Gi hrl hrow;have hlt:i<rows.length:=(aJ.1 hrow).1;have hfl:=qO hrl;have hle:(i+1)*sz'<=rows.length*sz':=er _ hlt;rw[nS,qG]at hle;unfold Ip at h;split at h
     ·rename_i hag;subst hag;simp only[aF]at hoff;split at h
      ·rename_i hl;cases h;have hl':i*sz'+off+C8 P t<=cs.length:=by rw[aBb,hfl];omega
       obtain⟨b',hm,hsub⟩:=vL.mid (i*sz'+off) (C8 P t);have e:(rows.flatten.drop (i*sz'+off)).take (C8 P t)=(row.drop off).take (C8 P t):=by
        rw[<-hmid,List.drop_take,vO,iy,iK (by omega)]
       rw[e]at hm;exact⟨_,b',by simp only[execOp,ho,hv];simp[L.1 rfl hl'],.of (.agg _ _ _ hm),fun y hy=>zy y (hsub y hy)⟩
      ·cases h
     ·rename_i hag;simp only[yo]at hag;subst hag;simp only[aM]at hoff;have e:rows.flatten[i*sz'+off]?=some d:=by
       rw[<-hmid,cU,bL (by omega),fG]at h;exact h
      obtain⟨v,b',hv',_,hr,hsub⟩:=vL.at e;exact⟨v,b',by simp only[execOp,ho,hv];simp[L.2 rfl v hv'],.of hr,fun y hy=>zy y (hsub y hy)⟩
    ·cases h
   ·cases h
  ·cases h
 ·rename_i ag g o' ht hx;rw[hx]at r1;have hv:=r1.WZ;split at h
  ·obtain⟨ds,⟨p,hp,hcs⟩,hd⟩:=a1C h;obtain⟨B,hB,_⟩:=hs.vsb;obtain⟨_,cs,T,z,hg,hpc⟩:=hB _ hp;obtain⟨v,Ik,hrd⟩:=hcs _ hpc _ _ hd;have hc:∀j c,cs.toList[j]?=some c->w.cell? ⟨g,0+j,none⟩=some c:=by
    intro j c hj;simp only[cS,World.cell?,hg];simpa using hj
   have L:=(tT (P:=P) (w:=w) ht (o:=o') hc).2 rfl v Ik;rw[cS]at L;exact⟨v,[],by simp only[execOp,ho,hv];simp[L],.of (hrd w),by simp⟩
  ·cases h
 ·cases h
theorem SZ{o:Oper}{t f:Nat}{x:Operand}{d:D}(hs:eN Γ st κ Θ a w)(ho:o.op=.field t x f)
 (h:pv P st (.field t x f)=some d):yb P κ Θ a w o d:=by
 obtain⟨b1,r1,z1⟩:=hs.ev x;simp only[pv]at h;split at h
 ·rename_i off ft cells ht hx;rw[hx]at r1;obtain⟨cs,hv,vL⟩:=r1.HG;unfold tft at ht;split at ht
  ·rename_i fs hu;split at ht
   ·rename_i fl hfl;cases ht;split at h
    ·rename_i ag hta;unfold Ip at h;split at h
     ·rename_i hag;subst hag;split at h
      ·rename_i hl;cases h;obtain⟨b',hm,hsub⟩:=vL.mid fl.offset (C8 P fl.type) hl;refine⟨.agg ((cs.drop fl.offset).take (C8 P fl.type)).toArray,b',?_,.v (.agg _ _ _ hm),fun y hy=>z1 y (hsub y hy)⟩;have e:cs.toArray.extract fl.offset (fl.offset+C8 P fl.type)=((cs.drop fl.offset).take (C8 P fl.type)).toArray:=by
        rw[List.extract_toArray,List.extract_eq_take_drop];congr 1;congr 1;omega
       simp only[execOp,ho,hv];simp[Instr.field,run_underlying hu,hfl,asAgg,part,HO hta,yQ (L5 hta),e]
      ·cases h
     ·rename_i hag;simp only[yo]at hag;subst hag;obtain⟨v,b',Ik,_,hr,hsub⟩:=vL.at h;refine⟨v,b',?_,.v (.cell hr),fun y hy=>z1 y (hsub y hy)⟩;simp only[execOp,ho,hv];simp[Instr.field,run_underlying hu,hfl,asAgg,part,HO hta,Ik]
    ·cases h
   ·cases ht
  ·cases ht
 ·cases h
theorem NP{o:Oper}{t f:Nat}{x:Operand}{d:D}(hs:eN Γ st κ Θ a w)(ho:o.op=.fieldAddr t x f)
 (h:pv P st (.fieldAddr t x f)=some d):yb P κ Θ a w o d:=by
 obtain⟨b1,r1,z1⟩:=hs.ev x;have hf:∀ {o':Nat},tfo P t f=some o'->∀(b off:Nat),(Instr.fieldAt t (.pointer (some ⟨b,off,none⟩)) f).run P w=.ok (.pointer (some ⟨b,off+o',none⟩)) w:=by
  intro o' h b off;unfold tfo at h;split at h
  ·rename_i fs hu;split at h
   ·rename_i fl hfl;split at h
    ·rename_i hc;cases h;obtain⟨i,hi⟩:=iP.1 hc.1;have hsz:=yQ (P:=P) ⟨i,hi⟩ w;have h0:C8 P fl.type≠0:=hc.2;simp[Instr.fieldAt,run_underlying hu,hfl,Instr.sureAddr,fieldPlace,hsz,h0,Addr.add_lit]
    ·cases h
   ·cases h
  ·cases h
 simp only[pv]at h;split at h
 ·rename_i o' id off ht hx;cases h;rw[hx]at r1;obtain⟨g,hk,hv⟩:=r1.Aq;exact⟨_,[],by simp only[execOp,ho,hv];simp[hf ht g off],(Aw.ptr id (off+o') g hk).S0,by simp⟩
 ·rename_i o' row off ht hx;cases h;rw[hx]at r1;have hrd:=r1.U5;generalize Y4:a.eval x=vx at hrd;cases hrd with
  |ep b base cs _ _ bs h0 hc vL=>
   refine⟨.pointer (some ⟨b,base+off+o',none⟩),b::bs,by simp only[execOp,ho,Y4];simp[hf ht b (base+off)],?_,z1⟩;rw[mR];exact .of (.ep b base cs row (off+o') bs h0 hc vL)
 ·rename_i o' id i sz off ht hx;cases h;rw[hx]at r1;obtain⟨g,o0,len,cap,hk,hv⟩:=r1.Ow;refine⟨.pointer (some ⟨g,o0+(i*sz+off)+o',none⟩),[],by simp only[execOp,ho,hv];simp[hf ht g (o0+(i*sz+off))],?_,by simp⟩;rw[mR,mR];exact(Aw.op id i sz (off+o') g o0 len cap hk).S0
 ·cases h
theorem tU{t e sz:Nat}(h:LY P t=some (e,sz)):P.underlying t=some (.slice e)/\(∃i,P.info? e=some i)/\C8 P e=sz:=by
 unfold LY at h;split at h
 ·rename_i e' hu;split at h
  ·rename_i hi;cases h;exact⟨hu,iP.1 hi,rfl⟩
  ·cases h
 ·cases h
theorem NU{o:Oper}{t:Nat}{x i:Operand}{d:D}(hs:eN Γ st κ Θ a w)(ho:o.op=.indexAddr t x i)
 (h:pv P st (.indexAddr t x i)=some d):yb P κ Θ a w o d:=by
 obtain⟨b1,r1,z1⟩:=hs.ev x;obtain⟨b2,r2,z2⟩:=hs.ev i;simp only[pv]at h;split at h
 ·rename_i e sz rows k n ht hx hi;rw[hx]at r1;rw[hi]at r2;have hn:=r2.uE;obtain⟨hu,OS,NS⟩:=tU ht;have hsz:=yQ (P:=P) OS w;split at h
  ·rename_i h0;split at h
   ·rename_i row hrow;split at h
    ·rename_i hlen;cases h;have hrd:=r1.Rl;have hlt:n.toNat<rows.length:=(aJ.1 hrow).1;generalize Y4:a.eval x=vx at hrd;cases hrd with
     |zq=>simp at hrow
     |qn=>simp at hrow
     |sl b off cap sz' _ cs bs hb hcap OT hrl hc vL=>
      have aBe:sz'=sz:=by rw[<-hrl row (aE hrow)];exact hlen
      subst aBe;obtain⟨b',hm,hsub⟩:=vL.mid (n.toNat*sz') sz';rw[Gi hrl hrow]at hm;have hn':0<=n/\n<(rows.length:Int):=⟨h0,by omega⟩
      refine⟨.pointer (some ⟨b,off+n.toNat*sz',none⟩),b::b',?_,?_,?_⟩
      ·simp only[execOp,ho,Y4,hn];simp[Instr.indexAt,asIntOf,run_underlying hu,hn',hsz,NS,Addr.add_lit]
      ·have aBc:∀j c,((cs.drop (n.toNat*sz')).take sz')[j]?=some c->w.cell? ⟨b,off+n.toNat*sz'+j,none⟩=some c:=by
        intro j c hj;rw[cU]at hj;split at hj
        ·rw[fG]at hj;rw[mR];exact hc _ _ hj
        ·cases hj
       exact .of (.ep b (off+n.toNat*sz') _ row 0 b' hb aBc hm)
      ·intro y hy;rcases bJ.1 hy with rfl|hy
       ·exact z1 _ (by simp)
       ·exact z1 _ (by simp[hsub y hy])
    ·cases h
   ·cases h
  ·cases h
 ·rename_i e sz id k n ht hx hi;rw[hx]at r1;rw[hi]at r2;have hn:=r2.uE;obtain⟨hv,_⟩:=r1.zI;obtain⟨hu,OS,NS⟩:=tU ht;have hsz:=yQ (P:=P) OS w;split at h
  ·rename_i dp e' sz' rows hH;split at h
   ·rename_i hc;cases h;obtain⟨rfl,h0,hlt⟩:=hc;obtain⟨a5o,hrl,vk,cs,bs,Vn,hown,vL,hΘ,hz⟩:=hs.ob id _ hH;rw[hv]at Vn;cases Vn;rcases hown.2 with⟨vz,zy⟩|⟨g,cap,cur,hkv,_⟩
    ·omega
    ·have hn':0<=n/\n<(rows.length:Int):=⟨h0,by omega⟩
     refine⟨_,[],?_,(Aw.op id n.toNat sz 0 g 0 _ _ (hkv▸hv)).S0,by simp⟩;simp only[execOp,ho,hn,hkv];simp[Instr.indexAt,asIntOf,run_underlying hu,hn',hsz,NS,Addr.add_lit]
   ·cases h
  ·cases h
 ·rename_i g o' kk n hx hi;rw[hx]at r1;rw[hi]at r2;have hn:=r2.uE;have hv:=r1.WZ;split at h
  ·rename_i sz len hT;split at h
   ·rename_i hc;cases h;obtain⟨h0,hlt⟩:=hc;unfold a6v at hT;split at hT
    ·rename_i len' e hu;split at hT
     ·rename_i OS;cases hT;have hsz:=yQ (P:=P) (iP.1 OS) w;have hn':0<=n/\n<(len:Int):=⟨h0,by omega⟩
      refine⟨_,[],?_,.of (.val _),by simp⟩;simp only[execOp,ho,hn,hv];simp[Instr.indexAt,Instr.sureAddr,asIntOf,run_underlying hu,hn',hsz,C8,Addr.add_lit]
     ·cases hT
    ·cases hT
   ·cases h
  ·cases h
 ·cases h
theorem XI{o:Oper}{t t':Nat}{x y:Operand}{d:D}(hs:eN Γ st κ Θ a w)(ho:o.op=.call {callee:=.builtin .min,args:= #[x,y],argTypes:= #[t,t']})
 (h:a6N (st.ev x) (st.ev y)=some d):yb P κ Θ a w o d:=by
 obtain⟨b1,r1,z1⟩:=hs.ev x;obtain⟨b2,r2,z2⟩:=hs.ev y;unfold a6N at h;split at h
 ·rename_i k m k' n hx hy;split at h
  ·rename_i hk;subst hk;cases h;rw[hx]at r1;rw[hy]at r2;have e1:=r1.uE;have e2:=r2.uE;refine⟨.int k (RE m n),[],?_,.of (.int _ _ ?_),by simp⟩
   ·simp only[execOp,ho,resolve,invoke,builtin,sj,au,bg,e1,e2];simp[Builtin.min_,Builtin.min2,RE]
   ·unfold RE;split
    ·exact r2.OZ
    ·exact r1.OZ
  ·cases h
 ·cases h
theorem XD{o:Oper}{t:Nat}{x:Operand}{d:D}(hs:eN Γ st κ Θ a w)(ho:o.op=.call {callee:=.builtin .len,args:= #[x],argTypes:= #[t]})
 (h:a3B P st x t=some d):yb P κ Θ a w o d:=by
 obtain⟨b1,r1,z1⟩:=hs.ev x;unfold a3B at h;split at h
 ·rename_i s hx;split at h
  ·rename_i ht;cases h;rw[hx]at r1;obtain⟨u,hv,rfl⟩:=r1.wA;have hu:P.underlying t=some .string:=by
    unfold Me at ht;split at ht
    ·assumption
    ·cases ht
   refine⟨.int .i64 (u.data.toList.length:Nat),[],?_,.of (.int _ _ (Ub r1.a11)),by simp⟩;simp only[execOp,ho,resolve,invoke,builtin,sj,au,bg,hv];simp[Builtin.len_,run_underlying hu,goInt]
  ·cases h
 ·rename_i rows hx;split at h
  ·rename_i ht;cases h;rw[hx]at r1;obtain⟨⟨e,sz⟩,ht⟩:=iP.1 ht;obtain⟨hu,_,_⟩:=tU ht;have hrd:=r1.Rl;generalize Y4:a.eval x=vx at hrd;have hlen:∃q c,vx=.slice q rows.length c:=by
    cases hrd with
    |zq=>exact⟨_,_,rfl⟩
    |qn=>exact⟨_,_,rfl⟩
    |sl=>exact⟨_,_,rfl⟩
   have OT:rows.length<=maxLen:=by
    cases hrd with
    |zq=>simp
    |qn=>simp
    |sl b off cap sz _ cs bs hb h1 h2=>omega
   obtain⟨q,c,rfl⟩:=hlen;refine⟨.int .i64 rows.length,[],?_,.of (.int _ _ (Ub OT)),by simp⟩;simp only[execOp,ho,resolve,invoke,builtin,sj,au,bg,Y4];simp[Builtin.len_,run_underlying hu,goInt]
  ·cases h
 ·rename_i hx;split at h
  ·rename_i ht;cases h;rw[hx]at r1;obtain⟨⟨e,sz⟩,ht⟩:=iP.1 ht;obtain⟨hu,_,_⟩:=tU ht;have hv:=r1.LG;refine⟨.int .i64 0,[],?_,.of (.int _ _ (qQ.zero _)),by simp⟩;simp only[execOp,ho,resolve,invoke,builtin,sj,au,bg,hv];simp[Builtin.len_,run_underlying hu,goInt]
  ·cases h
 ·rename_i id hx;split at h
  ·rename_i p dp e' sz' rows ht hH;cases h;rw[hx]at r1;obtain⟨hv,_⟩:=r1.zI;obtain⟨e,sz⟩:=p;obtain⟨hu,_,_⟩:=tU ht;obtain⟨a5o,hrl,vk,cs,bs,Vn,hown,vL,hΘ,hz⟩:=hs.ob id _ hH;rw[hv]at Vn;cases Vn;have hlen:∃q c,a.eval x=.slice q rows.length c:=by
    rcases hown.2 with⟨vz,zy⟩|⟨g,cap,cur,hkv,_⟩
    ·exact⟨none,0,by rw[vz,zy]⟩
    ·exact⟨_,_,hkv⟩
   have OT:rows.length<=maxLen:=by
    rcases hown.2 with⟨vz,zy⟩|⟨g,cap,cur,hkv,_,_,h1,h2,_⟩
    ·omega
    ·omega
   obtain⟨q,c,hk⟩:=hlen;refine⟨.int .i64 rows.length,[],?_,.of (.int _ _ (Ub OT)),by simp⟩;simp only[execOp,ho,resolve,invoke,builtin,sj,au,bg,hk];simp[Builtin.len_,run_underlying hu,goInt]
  ·cases h
 ·cases h
theorem Dv.at{vs:bp}{ds:aQ}{bs:aa}(h:Dv w κ vs ds bs){i:Nat}{d:D}(hd:ds[i]?=some d):
 ∃v b,vs[i]?=some v/\Nw w κ v d b/\∀x∈b,x∈bs:=by
 induction ds generalizing vs bs i with
 |nil=>simp at hd
 |cons e ds ih=>
  cases h with
  |cons v vs _ _ b1 b2 h2 h3=>
   cases i with
   |zero=>simp at hd;subst hd;exact⟨v,b1,by simp,h2,by intro x hx;simp[hx]⟩
   |succ i=>
    simp at hd;obtain⟨u,b,k1,k3,k4⟩:=ih h3 hd;exact⟨u,b,by simpa using k1,k3,fun x hx=>by simp[k4 x hx]⟩
theorem ue.a3h{v:Value}{ds:aQ}{bs:aa}(h:ue w κ v (.ff ds) bs):∃vs:bp,v=.tuple vs.toArray/\Dv w κ vs ds bs:=by
 cases h with
 |v h=>cases h with|cell h=>cases h with|pure h=>cases h
 |ff vs _ _ h=>exact⟨vs,rfl,h⟩
theorem PW{o:Oper}{i:Nat}{x:Operand}{d:D}(hs:eN Γ st κ Θ a w)(ho:o.op=.extract x i)
 (h:pv P st (.extract x i)=some d):yb P κ Θ a w o d:=by
 obtain⟨b1,r1,z1⟩:=hs.ev x;simp only[pv]at h;split at h
 ·rename_i vs hx;rw[hx]at r1;obtain⟨us,hv,hr⟩:=r1.a3h;obtain⟨v,b,k1,k2,k3⟩:=hr.at h;exact⟨v,b,by simp only[execOp,ho,hv];simp[Instr.extract,k1],.v k2,fun y hy=>z1 y (k3 y hy)⟩
 ·cases h
theorem zE{t:Nat}(ht:Me P t=true):P.underlying t=some .string:=by
 unfold Me at ht;split at ht
 ·assumption
 ·cases ht
theorem Ss{o:Oper}{t:Nat}{x i:Operand}{d:D}(hs:eN Γ st κ Θ a w)(ho:o.op=.index t x i)
 (h:pv P st (.index t x i)=some d):yb P κ Θ a w o d:=by
 obtain⟨b1,r1,z1⟩:=hs.ev x;obtain⟨b2,r2,z2⟩:=hs.ev i;simp only[pv]at h;split at h
 ·rename_i s k n ht hx hi;rw[hx]at r1;rw[hi]at r2;obtain⟨u,hv,rfl⟩:=r1.wA;have hn:=r2.uE;have hu:=zE ht;split at h
  ·rename_i h0;split at h
   ·rename_i b hb;cases h;have hlt:n.toNat<u.size:=by
     have:=(aJ.1 hb).1;simpa using this
    have OR:u[n.toNat]?=some b:=by
     have hb':u.data[n.toNat]?=some b:=by simpa using hb
     rw[getElem?_pos u n.toNat hlt];rw[bO]at hb';obtain⟨_,he⟩:=hb';rw[<-he];rfl
    refine⟨.int .u8 b.toNat,[],?_,.of (.int _ _ (qQ.u8.2 (by have:=b.toNat_lt;omega))),by simp⟩;simp only[execOp,ho,hv,hn];simp[Instr.index,asIntOf,run_underlying hu,h0,OR]
   ·cases h
  ·cases h
 ·cases h
theorem Rc{lo hi:Option Operand}{l h':Nat}{isSlice:Bool}{len cap:Nat}(hs:eN Γ st κ Θ a w)
 (hlc:len<=cap) (h:wT len (lo.map st.ev) (hi.map st.ev)=some (l,h')):
 (Instr.sliceBounds isSlice len cap (lo.map a.eval) (hi.map a.eval) none).run P w=.ok (l,h',cap) w/\l<=h'/\h'<=len:=by
 have hv:∀ {x:Operand} {k:IntKind} {n:Int},st.ev x=.int k n->a.eval x=.int k n:=by
  intro x k n hx;obtain⟨b,r,_⟩:=hs.ev x;rw[hx]at r;exact r.uE
 unfold wT at h;cases hi with
 |none=>
  simp only[A5]at h⊢;cases lo with
  |none=>
   simp only[A5,ay,cq]at h⊢;obtain⟨rfl,rfl⟩:=h;exact⟨by simp[Instr.sliceBounds],by omega,by omega⟩
  |some lo=>
   simp only[cv]at h⊢;cases hlo:st.ev lo<;>simp only[hlo,reduceCtorEq]at h;rename_i k n;split at h
   ·cases h
   ·rename_i l0 hm;split at hm
    ·rename_i hb;cases hm;cases h;have Qz:0<=n/\n<=(h':Int):=⟨hb.1,by omega⟩
     exact⟨by simp[Instr.sliceBounds,Instr.sliceBound,hv hlo,asIntOf,Qz],hb.2,by omega⟩
    ·cases hm
 |some hi=>
  simp only[cv]at h⊢;cases hhi:st.ev hi<;>simp only[hhi,reduceCtorEq]at h;rename_i k m;split at h
  ·cases h
  ·rename_i h0 hm;split at hm
   ·rename_i hb;cases hm;have Qz:0<=m/\m<=(cap:Int):=⟨hb.1,by omega⟩
    cases lo with
    |none=>
     simp only[A5,ay,cq]at h⊢;obtain⟨rfl,rfl⟩:=h;exact⟨by simp[Instr.sliceBounds,Instr.sliceBound,hv hhi,asIntOf,Qz],by omega,hb.2⟩
    |some lo=>
     simp only[cv]at h⊢;cases hlo:st.ev lo<;>simp only[hlo,reduceCtorEq]at h;rename_i k' n;split at h
     ·cases h
     ·rename_i l0 hm;split at hm
      ·rename_i Y1;cases hm;cases h;have hb3:0<=n/\n<=max m 0:=⟨Y1.1,by omega⟩
       exact⟨by simp[Instr.sliceBounds,Instr.sliceBound,hv hhi,hv hlo,asIntOf,Qz,hb3],Y1.2,hb.2⟩
      ·cases hm
   ·cases hm
theorem a0K{rows:List aQ}{sz l h':Nat}(hrl:∀r∈rows,r.length=sz)(h1:l<=h')(h2:h'<=rows.length):
 ((rows.take h').drop l).flatten=(rows.flatten.drop (l*sz)).take ((h'-l)*sz):=by
 have e:rows=(rows.take l)++(((rows.take h').drop l)++rows.drop h'):=by
  have hA:rows.take h'=(rows.take h').take l++(rows.take h').drop l:=(cO _ _).symm;have hB:(rows.take h').take l=rows.take l:=by rw[vO,iK h1]
  rw[hB]at hA;rw[<-cy,<-hA,cO]
 have l1:(rows.take l).flatten.length=l*sz:=by
  rw[qO (fun r hr=>hrl r (bn hr)),cE,iK (by omega)]
 have l2:((rows.take h').drop l).flatten.length=(h'-l)*sz:=by
  rw[qO (fun r hr=>hrl r (bn (eE hr))),lP,cE,iK (by omega)]
 have hf:rows.flatten=(rows.take l).flatten++(((rows.take h').drop l).flatten++(rows.drop h').flatten):=by
  rw[<-jt,<-jt,<-e]
 rw[hf,jP l1,kY l2]
theorem TX{o:Oper}{t:Nat}{x:Operand}{lo hi:Option Operand}{d:D}(hs:eN Γ st κ Θ a w)(ho:o.op=.slice t x lo hi none)
 (h:pv P st (.slice t x lo hi none)=some d):yb P κ Θ a w o d:=by
 obtain⟨b1,r1,z1⟩:=hs.ev x;simp only[pv]at h;split at h
 ·rename_i s hx;rw[hx]at r1;obtain⟨u,hv,rfl⟩:=r1.wA;split at h
  ·rename_i ht;have hu:=zE ht;split at h
   ·rename_i l h' hc;cases h;obtain⟨hr,hl,hh⟩:=Rc (P:=P) (isSlice:=false) (cap:=u.data.toList.length) hs (bU _) hc;have hsz:u.data.toList.length=u.size:=by simp
    rw[hsz]at hr;refine⟨.string (u.extract l h'),[],?_,?_,by simp⟩
    ·simp only[execOp,ho,hv];simp[Instr.sliceAt,Instr.slice,run_underlying hu,hr]
    ·have:=Rd.str (w:=w) (u.extract l h') (by
      have h1:=r1.a11;simp at h1⊢;omega)
     have e:(u.extract l h').data.toList=(u.data.toList.take h').drop l:=by
      simp[ByteArray.data_extract,List.drop_take]
     rw[e]at this;exact .of this
   ·cases h
  ·cases h
 ·rename_i rows hx;rw[hx]at r1;have hrd:=r1.Rl;split at h
  ·rename_i e sz l h' ht hc;split at h
   ·rename_i hall;cases h;obtain⟨hu,OS,NS⟩:=tU ht;have hsz:=yQ (P:=P) OS w;have hrl:∀r∈rows,r.length=sz:=by
     intro r hr;have:=aj.1 hall r hr;simpa using this
    generalize Y4:a.eval x=vx at hrd;have main:∀(q:Option Addr) (cap:Nat),vx=.slice q rows.length cap->rows.length<=cap->
     (execOp a.eval o).run P w=.ok (.value (.slice (if cap=l then q else q.map (·.add (l*sz))) (h'-l) (cap-l))) w/\l<=h'/\h'<=rows.length:=by
     intro q cap hq hcap;obtain⟨hr,hl,hh⟩:=Rc (P:=P) (isSlice:=true) (cap:=cap) hs hcap hc;refine⟨?_,hl,hh⟩;simp only[execOp,ho,Y4,hq];simp[Instr.sliceAt,Instr.slice,run_underlying hu,hr,hsz,NS]
    cases hrd with
    |zq=>
     obtain⟨hr,hl,hh⟩:=main none 0 rfl (by simp);simp only[bf]at hh;have e1:h'=0:=by omega
     have e2:l=0:=by omega
     subst e1;subst e2;exact⟨_,[],hr,by simpa using ue.of (κ:=κ) (Rd.zq (w:=w)),by simp⟩
    |qn ad cap hm=>
     obtain⟨hr,hl,hh⟩:=main (some ad) cap rfl (by simp);simp only[bf]at hh;have e1:h'=0:=by omega
     have e2:l=0:=by omega
     subst e1;subst e2;refine⟨_,[],hr,?_,by simp⟩;have:(if cap=0 then some ad else(some ad).map (·.add (0*sz)))=some ad:=by simp[Addr.add]
     rw[this];exact .of (by simpa using Rd.qn (w:=w) ad cap hm)
    |sl b off cap sz' _ cs bs hb hcap OT OV hcc vL=>
     obtain⟨hr,hl,hh⟩:=main (some ⟨b,off,none⟩) cap rfl hcap;by_cases he:h'=l
     ·subst he;refine⟨_,[],hr,?_,by simp⟩;have e1:(rows.take h').drop h'=[]:=by simp
      rw[e1,rJ];split
      ·exact .of (.qn _ _ (by omega))
      ·simp only[cv];exact .of (.qn _ _ (by omega))
     ·have hne:cap≠l:=by omega
      rw[b9 hne,cv,Addr.add_lit]at hr;obtain⟨b',hm,hsub⟩:=vL.mid (l*sz) ((h'-l)*sz);rw[<-a0K hrl hl hh]at hm;refine⟨_,b::b',hr,?_,?_⟩
      ·have hlen:((rows.take h').drop l).length=h'-l:=by simp;omega
       rw[<-hlen];refine .of (.sl b (off+l*sz) (cap-l) sz _ _ b' hb (by omega) (by omega) (fun r hr=>hrl r (bn (eE hr))) ?_ hm);intro j c hj;rw[cU]at hj;split at hj
       ·rw[fG]at hj;rw[mR];exact hcc _ _ hj
       ·cases hj
      ·intro y hy;rcases bJ.1 hy with rfl|hy
       ·exact z1 _ (by simp)
       ·exact z1 _ (by simp[hsub y hy])
   ·cases h
  ·cases h
 ·cases h
theorem QG{v:Value}(h:v.oneCell'=true):v.cells.toList=[v]:=by
 cases v<;>first|rfl|cases h
theorem Aw.one{v:Value}{d:D}{bs:aa}(h:Aw w κ v d bs)(hk:∀(id:Nat) u,κ id=some u->u.oneCell'=true)(hna:∀es,d≠ .agg es)(hc:d.cellsOf=some [d]):v.oneCell'=true:=by
 cases h with
 |pure h=>
  cases h<;>first
   |rfl
   | (exfalso;exact hna _ rfl)
   | (simp[D.cellsOf]at hc;done)
   | (simp only[D.cellsOf]at hc;split at hc<;>first|assumption|cases hc)
 |acc i v h=>exact hk i v h
 |ptr=>rfl
 |op=>rfl
theorem Fm{v:Value}{d:D}{bs:aa}{ds:aQ}(hk:∀(id:Nat) u,κ id=some u->u.oneCell'=true)(h:ue w κ v d bs)(hc:d.cellsOf=some ds):fk w κ v.cells.toList ds bs:=by
 have single:∀ {v d bs},Aw w κ v d bs->(∀es,d≠ .agg es)->d.cellsOf=some [d]->fk w κ v.cells.toList [d] bs:=by
  intro v d bs h hna hc;have h1:=h.one hk hna hc;rw[QG h1];have:=fk.cons v [] d [] bs [] h1 h .nil;simpa using this
 cases h with
 |ff=>simp[D.cellsOf]at hc
 |v h=>
  cases h with
  |agg cs _ _ h=>simp only[D.cellsOf,ay]at hc;subst hc;simpa[Value.cells]using h
  |cell h=>
   by_cases vK:∃es,d=.agg es
   ·obtain⟨es,rfl⟩:=vK;simp only[D.cellsOf,ay]at hc;subst hc;cases h with
    |pure h=>cases h with|agg cs _ _ h=>simpa[Value.cells]using fk.Ei (κ:=κ) h
   ·have e:ds=[d]:=by
     cases d<;>simp only[D.cellsOf,ay,reduceCtorEq]at hc<;>first
      |exact hc.symm
      | (exfalso;exact vK ⟨_,rfl⟩)
      | (split at hc<;>first| (simp at hc;exact hc.symm)|cases hc)
    subst e;exact single h (fun es he=>vK ⟨es,he⟩) hc
theorem zH{T:TypeId}{zs:aQ}(hz:tz P T=some zs):∃i z,P.info? T=some i/\i.zero=some z/\z.cells.size=i.size/\zs.length=i.size/\(∀c∈z.cells.toList,c.oneCell'=true)/\zs=z.cells.toList.map D.TG:=by
 unfold tz at hz;split at hz
 ·rename_i i hi;split at hz
  ·rename_i z Pd;split at hz
   ·rename_i hc;cases hz;simp only[aR,aj,cZ]at hc;exact⟨i,z,hi,Pd,hc.2,by simp[hc.2],hc.1,rfl⟩
   ·cases hz
  ·cases hz
 ·cases hz
theorem DZ(cs:bp)(h:∀c∈cs,c.oneCell'=true):fk w κ cs (cs.map D.TG) []:=by
 induction cs with
 |nil=>exact .nil
 |cons c cs ih=>
  have hrd:Rd w c (D.TG c) []:=by
   unfold D.TG;split
   ·exact .bool _
   ·split
    ·rename_i h;exact .int _ _ h
    ·exact .val _
   ·split
    ·rename_i h;exact .str _ h
    ·exact .val _
   ·exact .nil
   ·exact .val _
  have:=fk.cons (κ:=κ) c cs _ _ [] [] (h c (by simp)) (.pure hrd) (ih (fun x hx=>h x (by simp[hx])));simpa using this
theorem foldl_set(off:Nat):∀(vs:bp) (k:Nat) (cells:Array Value),off+k+vs.length<=cells.size->
 ((vs.zipIdx k).foldl (fun cs (x:Value×Nat)=>cs.setIfInBounds (off+x.2) x.1) cells).toList=cells.toList.take (off+k)++vs++cells.toList.drop (off+k+vs.length):=by
 intro vs
 induction vs with
 |nil=>intro k cells _;simp
 |cons v vs ih=>
  intro k cells h;simp only[aS]at h;rw[List.zipIdx_cons,cu,ih (k+1) _ (by simp;omega)];simp only[Array.toList_setIfInBounds,aS];have hlt:off+k<cells.toList.length:=by simp;omega
  rw[show off+(k+1)=off+k+1 from by omega,List.take_set,List.drop_set,bL (by omega)];rw[show off+k+1+vs.length=off+k+(vs.length+1)from by omega]
  congr 1
  rw[show v::vs=[v]++vs from rfl,<-cy]
  congr 1
  rw[List.take_succ_eq_append_getElem hlt,nv _ _ (by simp;omega)];have:(List.take (off+k) cells.toList).length=off+k:=by rw[cE];omega
  rw[this,rJ];rfl
theorem VZ(hs:eN Γ st κ Θ a w){places:List (Nat×Nat)}:∀(parts:List (Nat×Operand)) (cs:Array Value) (cells ds:aQ) (bs:aa),
 fk w κ cs.toList cells bs->(∀b∈bs,Θ b=0)->zm places cells (parts.map fun p=>(p.1,st.ev p.2))=some ds->
 ∃arr bs',Instr.fill (places.toArray[·]?) cs (parts.map fun p=>(p.1,a.eval p.2))=some arr/\fk w κ arr.toList ds bs'/\∀b∈bs',Θ b=0:=by
 intro parts
 induction parts with
 |nil=>
  intro cs cells ds bs hr hz hf;simp only[bg,zm,ay]at hf;subst hf;exact⟨cs,bs,rfl,hr,hz⟩
 |cons p parts ih=>
  intro cs cells ds bs hr hz hf
  ·obtain⟨i,x⟩:=p;obtain⟨b,hv,hb⟩:=hs.ev x;generalize hvv:a.eval x=v at hv;simp only[au,zm]at hf;split at hf
   ·rename_i off sz es hpl hes;split at hf
    ·rename_i hc;have hcs:=Fm hs.s9 hv hes;have hl1:=hcs.length;have DT:=hr.length;have e:cells=cells.take off++((cells.drop off).take sz++(cells.drop off).drop sz):=by rw[cO,cO]
     rw[e]at hr;obtain⟨v1,v2,c1,c2,NT,rfl,k1,k2⟩:=hr.split;obtain⟨v3,v4,c3,c4,rfl,rfl,k3,k4⟩:=k2.split;have l1:v1.length=off:=by rw[k1.length];simp;omega
     have l3:v3.length=sz:=by rw[k3.length];simp;omega
     have hvs:v.cells.size=sz:=by rw[<-hc.1,<-hl1];simp
     have hcl:cs.size=cells.length:=by rw[<-DT];simp
     have Yw:=foldl_set off v.cells.toList 0 cs (by simp;omega);simp only[vl,wL,hvs]at Yw;have e1:cs.toList.take off=v1:=by rw[NT];exact kY l1
     have e4:cs.toList.drop (off+sz)=v4:=by rw[NT,<-iy,jP l1];exact jP l3
     rw[e1,e4]at Yw;rw[iy]at k4;have hnew:=(k1.app hcs).app k4;obtain⟨arr,bs',h1,h2,h3⟩:=ih (v.cells.zipIdx.foldl (fun cs (x:Value×Nat)=>cs.setIfInBounds (off+x.2) x.1) cs) _ ds ((c1++b)++c4)
      (by rw[<-Array.foldl_toList,Array.toList_zipIdx,Yw];exact hnew)
      (by
       intro x hx;simp only[aZ]at hx;rcases hx with(hx|hx)|hx
       ·exact hz x (by simp[hx])
       ·exact hb x hx
       ·exact hz x (by simp[hx])) hf
     refine⟨arr,bs',?_,h2,h3⟩;simp only[au,Instr.fill,kN,hpl,hvv];rw[b9 (by simp;omega)];simpa using h1
    ·cases hf
   ·cases hf
theorem SL{o:Oper}{t:TypeId}{parts:Array (Nat×Operand)}{d:D}(hs:eN Γ st κ Θ a w)(ho:o.op=.build t parts)
 (h:pv P st (.build t parts)=some d):yb P κ Θ a w o d:=by
 simp only[pv]at h;split at h
 ·rename_i zs ps hz hp;cases hf:zm ps zs (parts.toList.map fun p=>(p.1,st.ev p.2))with
  |none=>simp[hf]at h
  |some ds=>
   simp only[hf,cv,ay]at h;subst h;obtain⟨i,z,hi,zy,hsz,hlen,hone,rfl⟩:=zH hz;obtain⟨arr,bs',h1,h2,h3⟩:=VZ hs parts.toList z.cells _ ds [] (DZ z.cells.toList hone) (by simp) hf;have hb:P.built t (parts.map fun(i,x)=>(i,a.eval x)).toList=some arr:=by
    unfold WS at hp;split at hp
    ·rename_i fs hu;unfold Program.built;simp only[hi,hu,zy,hp];rw[lN];exact h1
    ·cases hp
   refine⟨.agg arr,bs',?_,?_,h3⟩
   ·simp only[execOp,ho];simp[run_build w t _ arr hb]
   ·have:=Nw.agg (w:=w) (κ:=κ) arr.toList ds bs' h2;exact .v (by simpa using this)
 ·cases h
theorem run_equalIn_bool{t:TypeId}{a b:Bool}(h:P.underlying t=some .bool)(d:Nat):(Op.equalIn (d+1) t (.bool a) (.bool b)).run P w=.ok (a==b) w:=by
 simp[Op.equalIn,run_underlying h]
theorem El{t:TypeId}{a b:ByteArray}(h:P.underlying t=some .string)(d:Nat):(Op.equalIn (d+1) t (.string a) (.string b)).run P w=.ok (a==b) w:=by
 simp[Op.equalIn,run_underlying h]
theorem LU{t:TypeId}(h:Me P t=true){xs:Array Value}{off:Nat}{v:Value}(hx:xs[off]?=some v):(part t xs off).run P w=.ok v w:=by
 simp[part,isAgg,run_underlying (zE h),hx]
theorem Mc{t:TypeId}{a b c e:ByteArray}(h:WR P t=true)(d:Nat):(Op.equalIn (d+2) t (.agg #[.string a,.string b]) (.agg #[.string c,.string e])).run P w=.ok (a==c&&b==e) w:=by
 unfold WR at h;split at h
 ·rename_i fs hu;split at h
  ·rename_i f g hfs;simp only[aR,bne_iff_ne,ne_eq,cZ,p9]at h;obtain⟨⟨⟨⟨⟨⟨⟨h1,h2⟩,h3⟩,h4⟩,h5⟩,h6⟩,h7⟩,h8⟩:=h;have aB6:fs= #[f,g]:=by apply sY.mp;simpa using hfs
   subst aB6;have p1:=fun(xs:Array Value) (v:Value) (hx:xs[0]?=some v)=>LU (w:=w) h5 hx
   have p2:=fun(xs:Array Value) (v:Value) (hx:xs[1]?=some v)=>LU (w:=w) h6 hx
   have q1:=El (P:=P) (w:=w) (a:=a) (b:=c) (zE h5) d;have q2:=El (P:=P) (w:=w) (a:=b) (b:=e) (zE h6) d;rw[Op.equalIn];generalize(a==c)=r1 at q1⊢;generalize(b==e)=r2 at q2⊢;cases r1<;>cases r2<;>simp[run_underlying hu,h7,h1,h2,h3,h4,p1,p2,q1,q2]
  ·cases h
 ·cases h
theorem fk.WU{κ:Nat->Option Value}{cs:bp}{p q:Bytes}{bs:aa}(h:fk w κ cs [.str p,.str q] bs):∃u v:ByteArray,cs=[.string u,.string v]/\u.data.toList=p/\v.data.toList=q:=by
 cases h with
 |cons v1 vs _ _ b1 b2 _ h1 h2=>
  cases h2 with
  |cons v2 vs' _ _ b3 b4 _ h3 h4=>
   cases h4;obtain⟨u,rfl,hu⟩:=(ue.v (.cell h1):ue w κ _ _ _).wA;obtain⟨v,rfl,hv⟩:=(ue.v (.cell h3):ue w κ _ _ _).wA;exact⟨u,v,rfl,hu,hv⟩
theorem YS(u v:ByteArray):(u==v)=(u.data==v.data):=by cases u;cases v;rfl
theorem XV{o:Oper}{op:BinOp}{t t':TypeId}{x y:Operand}{d:D}(hs:eN Γ st κ Θ a w)(ho:o.op=.binOp op t x y t')
 (h:peq P op t (st.ev x) (st.ev y)=some d):yb P κ Θ a w o d:=by
 obtain⟨b1,r1,_⟩:=hs.ev x;obtain⟨b2,r2,_⟩:=hs.ev y;generalize st.ev x=dx at*;generalize st.ev y=dy at*;unfold peq at h;split at h
 ·rename_i p q;split at h
  ·rename_i hb;have hu:P.underlying t=some .bool:=by
    unfold a50 at hb;split at hb
    ·assumption
    ·cases hb
   have e1:=r1.xz;have e2:=r2.xz;have hq:=run_equalIn_bool (P:=P) (w:=w) (a:=p) (b:=q) hu 9999;have q':(Op.equal t (.bool p) (.bool q)).run P w=.ok (p==q) w:=hq;cases op<;>simp only[ay,reduceCtorEq]at h
   all_goals subst h
   all_goals exact⟨_,[],by(simp[execOp,ho,e1,e2,binOp,eqGuard,q'])<;>(cases p<;>cases q<;>rfl),.of (.bool _),by simp⟩
  ·cases h
 ·rename_i p1 p2 q1 q2;split at h
  ·rename_i hb;obtain⟨cs1,e1,k1⟩:=r1.HG;obtain⟨cs2,e2,k2⟩:=r2.HG;obtain⟨u1,u2,rfl,rfl,rfl⟩:=fk.WU k1;obtain⟨v1,v2,rfl,rfl,rfl⟩:=fk.WU k2;have hg:P.eqGuardType P.depth t=false:=by
    unfold WR at hb;split at hb
    ·split at hb
     ·simp only[aR,p9]at hb;exact hb.2
     ·cases hb
    ·cases hb
   have q:=Mc (P:=P) (w:=w) (a:=u1) (b:=u2) (c:=v1) (e:=v2) hb 9998;have q':(Op.equal t (.agg #[.string u1,.string u2]) (.agg #[.string v1,.string v2])).run P w=.ok (u1==v1&&u2==v2) w:=q;cases op<;>simp only[ay,reduceCtorEq]at h
   all_goals subst h
   all_goals exact⟨_,[],by(simp[execOp,ho,e1,e2,binOp,eqGuard,hg,q'])<;>(rw[YS,YS]),.of (.bool _),by simp⟩
  ·cases h
 ·cases h
theorem ue.a2n{v:Value}{b:Bool}{bs:aa}(h:ue w κ v (.ifc b) bs):(b=false/\v=.nilIface)\/(b=true/\∃t u,v=.iface t u):=by
 cases h with|v h=>cases h with|cell h=>cases h with|pure h=>cases h with
  |X8=>exact .inl ⟨rfl,rfl⟩
  |X9 t u=>exact .inr ⟨rfl,t,u,rfl⟩
theorem LS{t:TypeId}{ms:Array (String×TypeId)}(hu:P.underlying t=some (.interface ms)):(Op.equal t .nilIface .nilIface).run P w=.ok true w:=by
 unfold Op.equal Op.maxDepth;rw[Op.equalIn];simp[run_underlying hu]
theorem Ir{t:TypeId}{ms:Array (String×TypeId)}{t1:TypeId}{v1:Value}(hu:P.underlying t=some (.interface ms)):(Op.equal t (.iface t1 v1) .nilIface).run P w=.ok false w:=by
 unfold Op.equal Op.maxDepth;rw[Op.equalIn];simp[run_underlying hu]
theorem Uf{o:Oper}{op:BinOp}{t t':TypeId}{x y:Operand}{d:D}(hs:eN Γ st κ Θ a w)(ho:o.op=.binOp op t x y t')
 (h:a6M op (st.ev x) (st.ev y)=some d):yb P κ Θ a w o d:=by
 obtain⟨b1,r1,_⟩:=hs.ev x;obtain⟨b2,r2,_⟩:=hs.ev y;generalize st.ev x=dx at*;generalize st.ev y=dy at*;unfold a6M at h;split at h
 ·rename_i k p k' q;have e1:=r1.uE;have e2:=r2.uE;cases op<;>simp only[reduceCtorEq]at h
  case shr=>
   split at h
   ·rename_i hq;cases h;exact⟨_,[],by simp[execOp,ho,e1,e2,binOp,eqGuard,Op.shift,show¬q<0 by omega,TW],.of (.int _ _ (r1.OZ.shr q)),by simp⟩
   ·cases h
  all_goals
   split at h
   ·rename_i hk;subst hk;cases h;exact⟨_,[],by simp[execOp,ho,e1,e2,binOp,eqGuard,Op.intBits,Ie,a7d,VP],.of (.int _ _ (qQ.wrap _ _)),by simp⟩
   ·cases h
 ·cases h
theorem Ug{o:Oper}{op:BinOp}{t t':TypeId}{x y:Operand}{d:D}(hs:eN Γ st κ Θ a w)(ho:o.op=.binOp op t x y t')
 (h:a6O P op t (st.ev x) y=some d):yb P κ Θ a w o d:=by
 obtain⟨b1,r1,_⟩:=hs.ev x;generalize st.ev x=dx at*;unfold a6O at h;split at h
 ·rename_i b;have hy:a.eval (.const .nilIface)=.nilIface:=rfl;have hT:∀ {op'},a6w P t=true->op=op'->∃ms,P.underlying t=some (.interface ms):=by
   intro _ ht _;unfold a6w at ht;split at ht
   ·rename_i ms hu;exact⟨ms,hu⟩
   ·cases ht
  rcases r1.a2n with⟨rfl,hx⟩|⟨rfl,t1,v1,hx⟩
  ·split at h
   ·rename_i ht;cases h;obtain⟨ms,hu⟩:=hT ht rfl;exact⟨.bool true,[],by simp[execOp,ho,hx,hy,binOp,eqGuard_nil_constR,LS hu],.of (.bool _),by simp⟩
   ·rename_i ht;cases h;obtain⟨ms,hu⟩:=hT ht rfl;exact⟨.bool false,[],by simp[execOp,ho,hx,hy,binOp,eqGuard_nil_constR,LS hu],.of (.bool _),by simp⟩
   ·cases h
  ·split at h
   ·rename_i ht;cases h;obtain⟨ms,hu⟩:=hT ht rfl;exact⟨.bool false,[],by simp[execOp,ho,hx,hy,binOp,eqGuard,Ir hu],.of (.bool _),by simp⟩
   ·rename_i ht;cases h;obtain⟨ms,hu⟩:=hT ht rfl;exact⟨.bool true,[],by simp[execOp,ho,hx,hy,binOp,eqGuard,Ir hu],.of (.bool _),by simp⟩
   ·cases h
 ·cases h
theorem AN.cons{w:World}{e:MapEntry}{es:List MapEntry}{p:D×D}{kv:List (D×D)}(h:AN w (e::es) (p::kv)):Rd w e.key p.1 []/\Rd w e.val p.2 []/\AN w es kv:=
 ⟨(h.2 0 e p rfl rfl).1,(h.2 0 e p rfl rfl).2,by simpa using h.1,fun j e' p' h1 h2=>h.2 (j+1) e' p' (by simpa using h1) (by simpa using h2)⟩
theorem a3r{x y:ByteArray}:(x==y)=(x.data.toList==y.data.toList):=by
 rw[bw,MapKept.bytes_beq,cZ];constructor
 ·intro h;rw[h]
 ·intro h;obtain⟨a⟩:=x;obtain⟨b⟩:=y;simp only at h;rw[sY]at h;rw[h]
theorem No{w:World}{kd:TypeDesc}{k k':D}{u u':Value}{b:Bool}(PZ:Jh kd k=true)(hu:Rd w u k [])(zK:Rd w u' k' [])(h:keq k k'=some b):Instr.sameNow kd u u'=some b/\(b=true->u'=u):=by
 unfold keq at h;split at h
 ·rename_i s s';cases h;cases hu with
  |str x hx=>
   cases zK with
   |str y hy=>
    cases kd<;>simp[Jh]at PZ;refine⟨by simp only[Instr.sameNow];rw[a3r],fun e=>?_⟩;rw[<-a3r,MapKept.bytes_beq]at e;rw[e]
 ·rename_i k1 a k2 b';split at h
  ·rename_i e;subst e;cases h;cases hu with
   |int _ _ hx=>
    cases zK with
    |int _ _ hy=>
     cases kd<;>simp[Jh]at PZ;refine⟨by simp[Instr.sameNow],fun e=>?_⟩;have:a=b':=by simpa using e
     rw[this]
  ·cases h
 ·cases h
theorem a2r{w:World}{kd:TypeDesc}{k:D}{u:Value}(PZ:Jh kd k=true)(hu:Rd w u k []):∀ {es:List MapEntry} {kv:List (D×D)} {r:Option D} (i:Nat),AN w es kv->Gt k kv=some r->
 (r=none/\Instr.findNow kd u es i=some none)\/∃d v j,r=some d/\Instr.findNow kd u es i=some (some (j,v))/\Rd w v d []:=by
 intro es
 induction es with
 |nil=>
  intro kv r i hr h;cases kv with
  |nil=>cases h;exact .inl ⟨rfl,rfl⟩
  |cons p kv=>exact absurd hr.1 (by simp)
 |cons e es ih=>
  intro kv r i hr h;cases kv with
  |nil=>exact absurd hr.1 (by simp)
  |cons p kv=>
   obtain⟨r1,r2,r3⟩:=hr.cons;simp only[Gt]at h;split at h
   ·rename_i hq;cases h;exact .inr ⟨p.2,e.val,i,rfl,by simp[Instr.findNow,(No PZ hu r1 hq).1],r2⟩
   ·rename_i hq;have:=ih (i+1) r3 h;simpa[Instr.findNow,(No PZ hu r1 hq).1]using this
   ·cases h
theorem Su{w:World}{kd:TypeDesc}{k:D}{u:Value}(PZ:Jh kd k=true)(hu:Rd w u k []):MapKept.IsKey kd u:=by
 cases kd<;>cases k<;>simp[Jh]at PZ
 all_goals cases hu
 ·simp[MapKept.IsKey,PZ]
 ·simp[MapKept.IsKey]
theorem QD{w:World}{κ:Nat->Option Value}{kd:TypeDesc}{k:D}{u:Value}{bs:aa}(PZ:Jh kd k=true)(hu:ue w κ u k bs):Rd w u k []:=by
 cases kd<;>cases k<;>simp[Jh]at PZ
 all_goals cases hu with|v h=>cases h with|cell h=>cases h with|pure h=>cases h<;>(constructor;assumption)
theorem Rq{t:TypeId}{i:TypeInfo}(h:P.info? t=some i){w:World}:(typeInfo t).run P w=.ok i w:=by
 simp[typeInfo,h]
theorem PF{T:TypeId}{kd:TypeDesc}{dz:D}(h:Xi P T=some (kd,dz)):∃kt et z,P.underlying T=some (.map kt et)/\P.underlying kt=some kd/\dz=D.TG z/\∀w:World,(zeroValue et).run P w=.ok z w:=by
 unfold Xi at h;split at h
 ·rename_i kt et h1;split at h
  ·rename_i d i h2 h3;split at h
   ·rename_i z h4;split at h
    ·cases h;exact⟨kt,et,z,h1,h2,rfl,fun w=>by simp[zeroValue,Rq h3,h4]⟩
    ·cases h
   ·cases h
  ·cases h
 ·cases h
theorem RN{o:Oper}{T:Nat}{x i:Operand}{ok:Bool}{d:D}(hs:eN Γ st κ Θ a w)(ho:o.op=.lookup T x i ok)
 (h:pv P st (.lookup T x i ok)=some d):yb P κ Θ a w o d:=by
 simp only[pv]at h;split at h
 ·rename_i id hx;split at h
  ·rename_i kv hH;obtain⟨g,es,c,q1,q2,q3,q4⟩:=hs.ob id _ hH;obtain⟨bs,r,_⟩:=hs.ev x;rw[hx]at r;obtain⟨hk,_⟩:=r.zI;rw[q1]at hk;have Vp:a.eval x=.map (some g):=(kZ hk).symm;obtain⟨bi,ri,_⟩:=hs.ev i;unfold plk at h;split at h
   ·rename_i kd dz hT;obtain⟨kt,et,z,t1,t2,t3,t4⟩:=PF hT;have fin:∀(r:Option D),Jh kd (st.ev i)=true->Gt (st.ev i) kv=some r->d=(match r with|some d=>(bif ok then .ff [d,.bool true]else d)|none=>(bif ok then .ff [dz,.bool false]else dz))->yb P κ Θ a w o d:=by
     intro r PZ hf hd;have hu:=QD PZ ri;have hck:=MapKept.run_checkKey (P:=P) (w:=w) t2 (Su PZ hu) es.isEmpty 9999;rcases a2r PZ hu 0 q4 hf with⟨rfl,hn⟩|⟨d',v,j,rfl,hn,hv⟩
     ·have UD:=MapKept.run_findKey (P:=P) (w:=w) t2 hn;subst hd;cases ok with
      |false=>exact⟨z,[],by simp[execOp,ho,Vp,Instr.lookup,run_underlying t1,MapKept.run_getObj_map q2,hck,UD,t4],by rw[t3];exact Uc z,by simp⟩
      |true=>
       refine⟨.tuple #[z,.bool false],[],by simp[execOp,ho,Vp,Instr.lookup,run_underlying t1,MapKept.run_getObj_map q2,hck,UD,t4],?_,by simp⟩;have hz:Nw w κ z dz []:=by
        have:=Uc (w:=w) (κ:=κ) z;rw[<-t3]at this;cases this with
        |v h=>exact h
        |ff vs ds bs h=>exact absurd t3 (by simp[D.TG])
       exact .ff [z,.bool false] [dz,.bool false] [] (.cons _ _ _ _ [] [] hz (.cons _ _ _ _ [] [] (.cell (.pure (.bool _))) .nil))
     ·have UD:=MapKept.run_findKey (P:=P) (w:=w) t2 hn;subst hd;cases ok with
      |false=>exact⟨v,[],by simp[execOp,ho,Vp,Instr.lookup,run_underlying t1,MapKept.run_getObj_map q2,hck,UD],.of hv,by simp⟩
      |true=>
       refine⟨.tuple #[v,.bool true],[],by simp[execOp,ho,Vp,Instr.lookup,run_underlying t1,MapKept.run_getObj_map q2,hck,UD],?_,by simp⟩;exact .ff [v,.bool true] [d',.bool true] [] (.cons _ _ _ _ [] [] (.cell (.pure hv)) (.cons _ _ _ _ [] [] (.cell (.pure (.bool _))) .nil))
    split at h
    ·rename_i d' h1 h2;cases h;exact fin _ h1 h2 rfl
    ·rename_i h1 h2;cases h;exact fin _ h1 h2 rfl
    ·cases h
   ·cases h
  ·cases h
 ·cases h
theorem Rd.a5T{w:World}{v:Value}{row:aQ}{o:Nat}{bs:aa}(h:Rd w v (.ep row o) bs):∃q,v=.pointer (some q):=by
 cases h;exact⟨_,rfl⟩
theorem H8{o:Oper}{d:D}(hs:eN Γ st κ Θ a w)(h:pv P st o.op=some d):yb P κ Θ a w o d:=by
 cases ho:o.op
 all_goals rw[ho]at h
 case load t x=>exact Oh hs ho h
 case lookup t x i ok=>exact RN hs ho h
 case build t parts=>exact SL hs ho h
 case fieldAddr t x f=>exact NP hs ho h
 case field t x f=>exact SZ hs ho h
 case indexAddr t x i=>exact NU hs ho h
 case extract x i=>exact PW hs ho h
 case index t x i=>exact Ss hs ho h
 case binOp op t x y t'=>
  simp only[pv]at h;split at h
  ·rename_i e;cases h;exact Ue hs ho e
  ·split at h
   ·rename_i e;cases h;exact XV hs ho e
   ·split at h
    ·rename_i e;cases h;exact Ug hs ho e
    ·exact Uf hs ho h
 case nilCheck x=>
  simp only[pv]at h;obtain⟨b,r,z⟩:=hs.ev x;have hnn:∀q,a.eval x=.pointer (some q)->yb P κ Θ a w o (st.ev x):=fun q hq=>⟨_,b,by simp[execOp,ho,hq],hq▸r,z⟩
  split at h<;>rename_i hx<;>cases h<;>rw[hx]at r hnn
  ·obtain⟨g,_,hv⟩:=r.Aq;exact hnn _ hv
  ·obtain⟨_,_,_,_,_,hv⟩:=r.Ow;exact hnn _ hv
  ·obtain⟨_,hv⟩:=Rd.a5T r.U5;exact hnn _ hv
 case slice t x lo hi mx=>
  cases mx with
  |none=>exact TX hs ho h
  |some m=>simp[pv]at h
 case move x=>
  simp only[pv,ay]at h;subst h;obtain⟨b,r,z⟩:=hs.ev x;exact⟨_,b,by simp[execOp,ho],r,z⟩
 case assign x=>
  simp only[pv,ay]at h;subst h;obtain⟨b,r,z⟩:=hs.ev x;exact⟨_,b,by simp[execOp,ho],r,z⟩
 case pick c x y=>
  simp only[pv]at h;split at h
  ·rename_i t hc;cases h;obtain⟨b,r,z⟩:=hs.ev c;rw[hc]at r;have hv:=r.xz;cases t
   ·obtain⟨b,r,z⟩:=hs.ev y;exact⟨_,b,by simp[execOp,ho,hv,asBool],r,z⟩
   ·obtain⟨b,r,z⟩:=hs.ev x;exact⟨_,b,by simp[execOp,ho,hv,asBool],r,z⟩
  ·cases h
 case unOp op t x=>
  obtain⟨b,r,z⟩:=hs.ev x;cases op<;>simp only[pv,reduceCtorEq]at h
  case neg=>
   split at h
   ·rename_i k n hx;cases h;rw[hx]at r;have hv:=r.uE;exact⟨_,[],by simp[execOp,ho,hv,Op.unary,Op.intArith],.of (.int _ _ (qQ.wrap _ _)),by simp⟩
   ·cases h
  case not=>
   split at h
   ·rename_i bb hx;cases h;rw[hx]at r;have hv:=r.xz;exact⟨_,[],by simp[execOp,ho,hv,Op.unary],.of (.bool _),by simp⟩
   ·cases h
 case convert s d' x=>
  obtain⟨b,r,z⟩:=hs.ev x;simp only[pv]at h;split at h
  ·rename_i k0 n k1 k hx h1 h2;cases h;rw[hx]at r;have hv:=r.uE;have u1:P.underlying s=some (.int k1):=by
    unfold Uz at h1;split at h1
    ·cases h1;assumption
    ·cases h1
   have u2:P.underlying d'=some (.int k):=by
    unfold Uz at h2;split at h2
    ·cases h2;assumption
    ·cases h2
   exact⟨_,[],by simp[execOp,ho,hv,convert,run_underlying u1,run_underlying u2,Conv.intToInt],.of (.int _ _ (qQ.wrap _ _)),by simp⟩
  ·cases h
 case call c=>
  simp only[pv]at h;split at h
  ·rename_i x t h1 h2 h3;refine XD hs (x:=x) (t:=t) ?_ h;rw[ho];obtain⟨callee,args,argTypes⟩:=c;simp only at h1 h2 h3;subst h1;have e1:args= #[x]:=by cases args;simp_all
   have e2:argTypes= #[t]:=by cases argTypes;simp_all
   subst e1;subst e2;rfl
  ·rename_i x y t t' h1 h2 h3;refine XI hs (x:=x) (y:=y) (t:=t) (t':=t') ?_ h;rw[ho];obtain⟨callee,args,argTypes⟩:=c;simp only at h1 h2 h3;subst h1;have e1:args= #[x,y]:=by cases args;simp_all
   have e2:argTypes= #[t,t']:=by cases argTypes;simp_all
   subst e1;subst e2;rfl
  ·cases h
 all_goals simp[pv]at h
theorem a3p{Q:Exit->St->Prop}{all:Array Oper}{rest:List Oper}{o:Oper}{t:Nat}{d:D}(hd:o.dst=some t)(hg:o.guard=none)(ht:t<Γ.nt)
 (hv:pv P st o.op=some d) (h:AO P Γ all rest Q (st.set t d)):AO P Γ all (o::rest) Q st:=by
 intro κ Θ a w hs;obtain⟨v,bs,hr,hrd,hz⟩:=H8 hs hv;refine wpList_plain hg fun K hK=>?_
 unfold Oper.wp;rw[hr,Oper.upon_value,hd];exact hK _ _ (h κ Θ _ w (hs.set ht hrd hz))
end
structure jU(w w':World)(Θ Θ':Nat->Nat)(tag:Nat):Prop where
 two:2<=tag
 os:w'.os=w.os
 tape:w'.tape=w.tape
 output:w'.output=w.output
 size:w.heap.size<=w'.heap.size
 block:∀b,b<w.heap.size->Θ b≠tag->w'.heap[b]?=w.heap[b]?
 owner:∀b,b<w.heap.size->Θ b≠tag->Θ' b=Θ b
 own:∀b,Θ' b≠0->b<w'.heap.size
section
variable{w w':World}{κ κ':Nat->Option Value}{Θ Θ':Nat->Nat}{tag id:Nat}{r:D}
theorem jU.free(k:jU w w' Θ Θ' tag){b:Nat}(hb:b<w.heap.size)(hz:Θ b=0):Θ' b=0:=by
 have:=k.two;rw[k.owner b hb (by omega)];exact hz
theorem Rd.over{v:Value}{d:D}{bs:aa}(k:jU w w' Θ Θ' tag)(h:Rd w v d bs)(hz:∀b∈bs,Θ b=0):Rd w' v d bs/\∀b∈bs,Θ' b=0:=by
 have:=k.two;exact⟨h.keep fun b hb=>k.block b (h.lt b hb) (by rw[hz b hb];omega),fun b hb=>k.free (h.lt b hb) (hz b hb)⟩
theorem p6.over{vs:bp}{ds:aQ}{bs:aa}(k:jU w w' Θ Θ' tag)(h:p6 w vs ds bs)(hz:∀b∈bs,Θ b=0):p6 w' vs ds bs/\∀b∈bs,Θ' b=0:=by
 have:=k.two;exact⟨h.keep fun b hb=>k.block b (h.lt b hb) (by rw[hz b hb];omega),fun b hb=>k.free (h.lt b hb) (hz b hb)⟩
section
variable(hn:∀(j:Nat) v,κ j=some v->κ' j=some v)
include hn
end
theorem RdH.lt{v:Value}{rows:List aQ}{p n:Nat}{bs:aa}(h:RdH w κ v rows p n bs):∀b∈bs,b<w.heap.size:=by
 obtain⟨b,off,cap,cs,ns,rfl,h1,h2,h3,h4,h5,rfl,_⟩:=h;intro x hx;rcases bJ.1 hx with rfl|hx
 ·exact h1
 ·exact h5.lt x hx
section
variable(hn:∀(j:Nat) v,κ j=some v->κ' j=some v)
include hn
theorem RdH.stay{v:Value}{rows:List aQ}{p n:Nat}{bs:aa}(h:RdH w κ v rows p n bs)(hb:∀b∈bs,w'.heap[b]?=w.heap[b]?):RdH w' κ' v rows p n bs:=by
 obtain⟨b,off,cap,cs,ns,rfl,h1,h2,h3,h4,h5,rfl,c,h6,h7⟩:=h;exact⟨b,off,cap,cs,ns,rfl,L9 h1 (hb b (by simp)),h2,h3,fun j c hc=>(Cy (hb b (by simp))).trans (h4 j c hc),h5.keep (fun x hx=>hb x (by simp[hx])),rfl,c,h6,hn _ _ h7⟩
end
section
variable(k:jU w w' Θ Θ' tag)(hn:∀(j:Nat) v,κ j=some v->κ' j=some v)
include k hn
theorem Aw.stay{v:Value}{d:D}{bs:aa}(h:Aw w κ v d bs)(hz:∀b∈bs,Θ b=0):Aw w' κ' v d bs/\∀b∈bs,Θ' b=0:=by
 cases h with
 |pure h=>exact⟨.pure (Rd.over k h hz).1,(Rd.over k h hz).2⟩
 |acc i v hk=>exact⟨.acc i v (hn _ _ hk),by simp⟩
 |ptr i off b hk=>exact⟨.ptr i off b (hn _ _ hk),by simp⟩
 |op i j sz off b o0 len cap hk=>exact⟨.op i j sz off b o0 len cap (hn _ _ hk),by simp⟩
theorem fk.stay{vs:bp}{ds:aQ}{bs:aa}(h:fk w κ vs ds bs)(hz:∀b∈bs,Θ b=0):fk w' κ' vs ds bs/\∀b∈bs,Θ' b=0:=by
 induction ds generalizing vs bs with
 |nil=>cases h;exact⟨.nil,by simp⟩
 |cons d ds ih=>
  cases h with
  |cons v vs _ _ b1 b2 h1 h2 h3=>
   obtain⟨k1,k2⟩:=Aw.stay k hn h2 (fun b hb=>hz b (by simp[hb]));obtain⟨k3,k4⟩:=ih h3 (fun b hb=>hz b (by simp[hb]));refine⟨.cons _ _ _ _ _ _ h1 k1 k3,fun b hb=>?_⟩;rcases aZ.1 hb with hb|hb
   ·exact k2 b hb
   ·exact k4 b hb
theorem Nw.stay{v:Value}{d:D}{bs:aa}(h:Nw w κ v d bs)(hz:∀b∈bs,Θ b=0):Nw w' κ' v d bs/\∀b∈bs,Θ' b=0:=by
 cases h with
 |cell h=>exact⟨.cell (Aw.stay k hn h hz).1,(Aw.stay k hn h hz).2⟩
 |agg cs ds bs h=>exact⟨.agg _ _ _ (fk.stay k hn h hz).1,(fk.stay k hn h hz).2⟩
theorem Dv.stay{vs:bp}{ds:aQ}{bs:aa}(h:Dv w κ vs ds bs)(hz:∀b∈bs,Θ b=0):Dv w' κ' vs ds bs/\∀b∈bs,Θ' b=0:=by
 induction ds generalizing vs bs with
 |nil=>cases h;exact⟨.nil,by simp⟩
 |cons d ds ih=>
  cases h with
  |cons v vs _ _ b1 b2 h2 h3=>
   obtain⟨k1,k2⟩:=Nw.stay k hn h2 (fun b hb=>hz b (by simp[hb]));obtain⟨k3,k4⟩:=ih h3 (fun b hb=>hz b (by simp[hb]));refine⟨.cons _ _ _ _ _ _ k1 k3,fun b hb=>?_⟩;rcases aZ.1 hb with hb|hb
   ·exact k2 b hb
   ·exact k4 b hb
theorem ue.stay{v:Value}{d:D}{bs:aa}(h:ue w κ v d bs)(hz:∀b∈bs,Θ b=0):ue w' κ' v d bs/\∀b∈bs,Θ' b=0:=by
 cases h with
 |v h=>exact⟨.v (Nw.stay k hn h hz).1,(Nw.stay k hn h hz).2⟩
 |ff vs ds bs h=>exact⟨.ff _ _ _ (Dv.stay k hn h hz).1,(Dv.stay k hn h hz).2⟩
theorem yc.stay{j:Nat}{o:Ob}(hj:j+2≠tag)(h:yc w κ Θ j o):yc w' κ' Θ' j o:=by
 cases o with
 |gone=>trivial
 |tk rows=>
  obtain⟨v,bs,hk,hrd,hz⟩:=h;obtain⟨h1,h2⟩:=Rd.over k hrd hz;exact⟨v,bs,hn _ _ hk,h1,h2⟩
 |tf e sz rows=>
  obtain⟨v,bs,hk,hrd,hz⟩:=h;obtain⟨h1,h2⟩:=Rd.over k hrd hz;exact⟨v,bs,hn _ _ hk,h1,h2⟩
 |mp kv=>
  obtain⟨g,es,c,q1,q2,q3,q4⟩:=h;have hlt:g<w.heap.size:=(bO.1 q2).1;have hne:Θ g≠tag:=by rw[q3];exact hj
  exact⟨g,es,c,hn _ _ q1,(k.block g hlt hne).trans q2,by rw[k.owner g hlt hne];exact q3,q4.stay⟩
 |Pf sz rows u=>
  obtain⟨hrl,hux,v,bs,hk,hrd,hnd,Nk⟩:=h;have hsame:∀b∈bs,w'.heap[b]?=w.heap[b]?:=fun b hb=>k.block b (hrd.lt b hb) (by rw[(Nk b hb).1];exact hj)
  refine⟨hrl,fun x hx=>hn _ _ (hux x hx),v,bs,hn _ _ hk,hrd.keep hsame,hnd,fun b hb=>⟨?_,?_⟩⟩
  ·rw[k.owner b (hrd.lt b hb) (by rw[(Nk b hb).1];exact hj)];exact(Nk b hb).1
  ·obtain⟨x,T,hx⟩:=(Nk b hb).2;exact⟨x,T,(hsame b hb).trans hx⟩
 |hole sz rows u p n=>
  obtain⟨hrl,hux,v,bs,hk,hrd,hnd,Nk⟩:=h;have hsame:∀b∈bs,w'.heap[b]?=w.heap[b]?:=fun b hb=>k.block b (hrd.lt b hb) (by rw[(Nk b hb).1];exact hj)
  refine⟨hrl,fun x hx=>hn _ _ (hux x hx),v,bs,hn _ _ hk,RdH.stay hn hrd hsame,hnd,fun b hb=>⟨?_,?_⟩⟩
  ·rw[k.owner b (hrd.lt b hb) (by rw[(Nk b hb).1];exact hj)];exact(Nk b hb).1
  ·obtain⟨x,T,hx⟩:=(Nk b hb).2;exact⟨x,T,(hsame b hb).trans hx⟩
 |box cells=>
  obtain⟨g,cs,T,hk,hg,hΘ,bs,vL,hz⟩:=h;have hlt:g<w.heap.size:=(bO.1 hg).1;have hne:Θ g≠tag:=by rw[hΘ];exact hj
  obtain⟨h1,h2⟩:=fk.stay k hn vL hz;exact⟨g,cs,T,hn _ _ hk,(k.block g hlt hne).trans hg,(k.owner g hlt hne).trans hΘ,bs,h1,h2⟩
 |Bq cells u=>
  obtain⟨hu,g,cs,T,hk,hg,hΘ,bs,vL,hz⟩:=h;have hlt:g<w.heap.size:=(bO.1 hg).1;have hne:Θ g≠tag:=by rw[hΘ];exact hj
  obtain⟨h1,h2⟩:=fk.stay k hn vL hz;exact⟨⟨hn _ _ hu.1,hu.2.same hk hg (hn _ _ hk) ((k.block g hlt hne).trans hg)⟩,g,cs,T,hn _ _ hk,(k.block g hlt hne).trans hg,(k.owner g hlt hne).trans hΘ,bs,h1,h2⟩
 |row deep e sz rows=>
  obtain⟨hsz,hrl,v,cs,bs,hk,hown,vL,hΘ,hd⟩:=h;refine⟨hsz,hrl,v,cs,bs,hn _ _ hk,?_,?_,?_,?_⟩
  ·refine⟨hown.1,?_⟩;rcases hown.2 with vz|⟨g,cap,cur,rfl,hb,R2,rest⟩
   ·exact .inl vz
   ·have hlt:g<w.heap.size:=(bO.1 R2).1;have hne:Θ g≠tag:=by rw[hΘ g (by simp[Value.ownBlock])];exact hj
    exact .inr ⟨g,cap,cur,rfl,hb,(k.block g hlt hne).trans R2,rest⟩
  ·refine vL.keep fun b hb=>k.block b (vL.lt b hb) ?_
   have:=k.two;cases deep with
   |cl=>rw[(hd.2.1 b hb).1];exact hj
   |sh=>rw[hd b hb];omega
   |uq=>rw[hd b hb];omega
   |mv n=>rw[hd b hb];omega
   |ho p n=>rw[hd b hb];omega
  ·intro g hg;have hlt:=(hown.lt g hg).2;have e:=hΘ g hg;rw[k.owner g hlt (by rw[e];exact hj)];exact e
  ·cases deep with
   |cl=>
    refine⟨hd.1,fun b hb=>⟨?_,?_⟩,hd.2.2.1,hd.2.2.2.keep fun b hb=>k.block b (vL.lt b hb) (by rw[(hd.2.1 b hb).1];exact hj)⟩
    ·rw[k.owner b (vL.lt b hb) (by rw[(hd.2.1 b hb).1];exact hj)];exact(hd.2.1 b hb).1
    ·obtain⟨x,T,hx⟩:=(hd.2.1 b hb).2;exact⟨x,T,(k.block b (vL.lt b hb) (by rw[(hd.2.1 b hb).1];exact hj)).trans hx⟩
   |sh=>exact fun b hb=>k.free (vL.lt b hb) (hd b hb)
   |uq=>exact fun b hb=>k.free (vL.lt b hb) (hd b hb)
   |mv n=>exact fun b hb=>k.free (vL.lt b hb) (hd b hb)
   |ho p n=>exact fun b hb=>k.free (vL.lt b hb) (hd b hb)
end
end
section
variable{Γ:vn}{st:St}{κ κ':Nat->Option Value}{Θ Θ':Nat->Nat}{a:Act}{w w':World}{tag:Nat}
theorem eN.base(hs:eN Γ st κ Θ a w):Γ.W0.heap.size<=w.heap.size:=hs.stays.size
theorem eN.UX(hs:eN Γ st κ Θ a w)(k:jU w w' Θ Θ' tag):S8 Γ w':=by
 refine⟨k.os.trans hs.stays.os,k.tape.trans hs.stays.tape,k.output.trans hs.stays.output,eD hs.stays.size k.size,fun b hb hx=>?_⟩;have:=k.two;have h1:=(hs.old b hb hx).2;exact(k.block b (eC hb hs.base) (by omega)).trans (hs.stays.block b hb hx)
theorem eN.Zh(hs:eN Γ st κ Θ a w)(k:jU w w' Θ Θ' tag):∀b,b<Γ.W0.heap.size->¬Γ.X b->Θ' b=Γ.Θ0 b/\Θ' b<=1:=by
 intro b hb hx;have:=k.two;have h1:=hs.old b hb hx;rw[k.owner b (eC hb hs.base) (by omega)];exact h1
theorem eN.sA(hs:eN Γ st κ Θ a w)(k:jU w w' Θ Θ' tag)(hn:∀(j:Nat) v,κ j=some v->κ' j=some v){ρ:Nat->Nat}(hu:BE Γ st.H κ Θ w ρ):
 (∀b,ρ b≠0->Θ' b=0/\VE Γ b/\Wr w' b)/\(∀id e sz rows,id+2≠tag->st.H[id]?=some (.row .uq e sz rows)->
  ∃v cs bs,κ' id=some v/\w'.ownsRow 0 e sz v rows.length cs/\yS w' (vb e) 0 cs rows.flatten bs/\bs.Nodup/\∀b∈bs,ρ b=id+1)/\
  ∀id o,id+2≠tag->st.H[id]?=some o->Nb w' κ' ρ id o:=by
 have h2:=k.two;refine⟨?_,?_,?_⟩
 ·intro b hb;obtain⟨h0,hm,x,T,hx⟩:=hu.free b hb;have hlt:b<w.heap.size:=(bO.1 hx).1;exact⟨k.free hlt h0,hm,x,T,(k.block b hlt (by omega)).trans hx⟩
 ·intro id e sz rows hid hH;obtain⟨v,cs,bs,hk,hown,vL,hnd,hρ⟩:=hu.rows id e sz rows hH;obtain⟨_,_,v2,_,_,hk2,_,_,hΘ,_⟩:=hs.ob id _ hH;rw[hk]at hk2;cases hk2;refine⟨v,cs,bs,hn _ _ hk,⟨hown.1,?_⟩,vL.keep fun b hb=>k.block b (vL.lt b hb) ?_,hnd,hρ⟩
  ·rcases hown.2 with vz|⟨g,cap,cur,rfl,hb,R2,rest⟩
   ·exact .inl vz
   ·have hlt:g<w.heap.size:=(bO.1 R2).1;have hne:Θ g≠tag:=by rw[hΘ g (by simp[Value.ownBlock])];exact hid
    exact .inr ⟨g,cap,cur,rfl,hb,(k.block g hlt hne).trans R2,rest⟩
  ·have:=hρ b hb;have:=(hu.free b (by omega)).1;omega
 ·intro id o hid hH;have hm:=hu.more id o hH;have hb0:∀ {bs:aa},(∀b∈bs,ρ b=id+1)->∀b∈bs,Θ b≠tag:=fun hρ b hb=>by
   have:=hρ b hb;have:=(hu.free b (by omega)).1;omega
  cases o with
  |tk rows=>
   obtain⟨v,bs,hk,hrd,hnd,hρ⟩:=hm;exact⟨v,bs,hn _ _ hk,hrd.keep fun b hb=>k.block b (hrd.lt b hb) (hb0 hρ b hb),hnd,hρ⟩
  |tf e sz rows=>
   obtain⟨v,bs,hk,hrd,hlt,hnd,hρ⟩:=hm;exact⟨v,bs,hn _ _ hk,hrd.keep fun b hb=>k.block b (hlt b hb) (hb0 hρ b hb),fun b hb=>eC (hlt b hb) k.size,hnd,hρ⟩
  |row kd e sz rows=>
   cases kd with
   |mv n=>
    obtain⟨v,cs,bs,hk,hown,vL,hnd,hρ⟩:=hm;obtain⟨_,_,v2,_,_,hk2,_,_,hΘ,_⟩:=hs.ob id _ hH;rw[hk]at hk2;cases hk2;refine⟨v,cs,bs,hn _ _ hk,⟨hown.1,?_⟩,vL.keep fun b hb=>k.block b (vL.lt b hb) (hb0 hρ b hb),hnd,hρ⟩;rcases hown.2 with vz|⟨g,cap,cur,rfl,hb,R2,rest⟩
    ·exact .inl vz
    ·have hlt:g<w.heap.size:=(bO.1 R2).1;have hne:Θ g≠tag:=by rw[hΘ g (by simp[Value.ownBlock])];exact hid
     exact .inr ⟨g,cap,cur,rfl,hb,(k.block g hlt hne).trans R2,rest⟩
   |ho p n=>
    obtain⟨v,cs,bs,hk,hown,vL,hnd,hρ,c,hc,hkc⟩:=hm;obtain⟨_,_,v2,_,_,hk2,_,_,hΘ,_⟩:=hs.ob id _ hH;rw[hk]at hk2;cases hk2;exact⟨v,cs,bs,hn _ _ hk,LM hown (fun g hg=>k.block g (hown.lt g hg).2 (by rw[hΘ g hg];exact hid)),vL.keep fun b hb=>k.block b (vL.lt b hb) (hb0 hρ b hb),hnd,hρ,c,hc,hn _ _ hkc⟩
   |_=>trivial
  |_=>trivial
theorem Nb.re{ρ ρ':Nat->Nat}{id:Nat}{o:Ob}(h:Nb w κ ρ id o)(hr:∀b,ρ b=id+1->ρ' b=id+1):Nb w κ ρ' id o:=by
 cases o with
 |tk rows=>
  obtain⟨v,bs,hk,hrd,hnd,hρ⟩:=h;exact⟨v,bs,hk,hrd,hnd,fun b hb=>hr b (hρ b hb)⟩
 |tf e sz rows=>
  obtain⟨v,bs,hk,hrd,hlt,hnd,hρ⟩:=h;exact⟨v,bs,hk,hrd,hlt,hnd,fun b hb=>hr b (hρ b hb)⟩
 |row kd e sz rows=>
  cases kd with
  |mv n=>
   obtain⟨v,cs,bs,hk,hown,vL,hnd,hρ⟩:=h;exact⟨v,cs,bs,hk,hown,vL,hnd,fun b hb=>hr b (hρ b hb)⟩
  |ho p n=>
   obtain⟨v,cs,bs,hk,hown,vL,hnd,hρ,hc⟩:=h;exact⟨v,cs,bs,hk,hown,vL,hnd,fun b hb=>hr b (hρ b hb),hc⟩
  |_=>trivial
 |_=>trivial
theorem eN.step(hs:eN Γ st κ Θ a w){H':bY}(k:jU w w' Θ Θ' tag)(hm:∀b,2<=Θ' b->BB Γ b)(hn:∀(j:Nat) v,κ j=some v->κ' j=some v)
 (hko:∀id,H'.length<=id->κ' id=none) (hk1:∀(id:Nat) u,κ' id=some u->u.oneCell'=true)
 (CK:∀(j:Nat) o,H'[j]?=some o->o=.gone\/(j+2≠tag/\st.H[j]?=some o)\/yc w' κ' Θ' j o) (hu:∃ρ,BE Γ H' κ' Θ' w' ρ):eN Γ ⟨st.σ,H'⟩ κ' Θ' a w':=by
 refine⟨hs.defers,hs.size,hko,hk1,?_,?_,k.own,hs.Zh k,hm,hs.UX k,hu⟩
 ·intro t;obtain⟨bs,hr,hz⟩:=hs.slot t;exact⟨bs,ue.stay k hn hr hz⟩
 ·intro j o hj;rcases CK j o hj with rfl|⟨hne,hj'⟩|h
  ·trivial
  ·exact yc.stay k hn hne (hs.ob j o hj')
  ·exact h
def zz(κ:Nat->Option Value)(id:Nat)(v:Option Value):Nat->Option Value:=fun i=>if i=id then v else κ i
theorem nA(κ:Nat->Option Value)(id:Nat)(v:Option Value):zz κ id v id=v:=by simp[zz]
theorem zM{κ:Nat->Option Value}{id:Nat}(h:κ id=none)(v:Option Value):∀(j:Nat) u,κ j=some u->zz κ id v j=some u:=by
 intro j u hj;unfold zz;rw[b9 (fun e=>by subst e;rw[h]at hj;cases hj)];exact hj
def Ob.Xn:Ob->Bool
 | .row .uq _ _ _=>true
 | .row (.mv _) _ _ _=>true
 | .row (.ho _ _) _ _ _=>true
 | .tk _=>true
 | .tf _ _ _=>true
 |_=>false
def Ob.mvB:Ob->Bool
 | .row (.mv _) _ _ _=>true
 | .row (.ho _ _) _ _ _=>true
 | .tk _=>true
 | .tf _ _ _=>true
 |_=>false
theorem Nb.AI{ρ:Nat->Nat}{id:Nat}{o:Ob}(h:o.mvB=false):Nb w κ ρ id o:=by
 cases o with
 |tk rows=>simp[Ob.mvB]at h
 |tf e sz rows=>simp[Ob.mvB]at h
 |row kd e sz rows=>
  cases kd with
  |mv n=>simp[Ob.mvB]at h
  |ho p n=>simp[Ob.mvB]at h
  |_=>trivial
 |_=>trivial
theorem Nb.plain{ρ:Nat->Nat}{id:Nat}{o:Ob}(h:o.Xn=false):Nb w κ ρ id o:=by
 cases o with
 |tk rows=>simp[Ob.Xn]at h
 |tf e sz rows=>simp[Ob.Xn]at h
 |row kd e sz rows=>
  cases kd with
  |mv n=>simp[Ob.Xn]at h
  |ho p n=>simp[Ob.Xn]at h
  |_=>trivial
 |_=>trivial
theorem eN.push(hs:eN Γ st κ Θ a w){v:Value}{o:Ob}(h1:v.oneCell'=true)(k:jU w w' Θ Θ' (st.H.length+2))(hm:∀b,2<=Θ' b->BB Γ b)
 (ho:yc w' (zz κ st.H.length (some v)) Θ' st.H.length o) (hq:o.Xn=false):eN Γ ⟨st.σ,st.H++[o]⟩ (zz κ st.H.length (some v)) Θ' a w':=by
 have hn:=zM (hs.tR _ (bU _)) (some v);have key:∀(j:Nat) x,(st.H++[o])[j]?=some x->(j=st.H.length/\x=o)\/(j+2≠st.H.length+2/\st.H[j]?=some x):=by
  intro j x hj;by_cases hlt:j<st.H.length
  ·rw[bA hlt]at hj;exact .inr ⟨by omega,hj⟩
  ·have hj':=(aJ.1 hj).1;simp only[ax,aS,bf]at hj';have e:j=st.H.length:=by omega
   subst e;rw[bE (bU _)]at hj;simp at hj;exact .inl ⟨rfl,hj.symm⟩
 obtain⟨ρ,hu⟩:=hs.vG;have w5:=hs.sA k hn hu;refine hs.step k hm hn ?_ ?_ ?_ ⟨ρ,w5.1,?_,?_⟩
 ·intro i hi;simp only[ax,aS,bf]at hi;unfold zz;rw[b9 (by omega)];exact hs.tR i (by omega)
 ·intro i u hu;unfold zz at hu;split at hu
  ·cases hu;exact h1
  ·exact hs.s9 i u hu
 ·intro j x hj;rcases key j x hj with⟨rfl,rfl⟩|h
  ·exact .inr (.inr ho)
  ·exact .inr (.inl h)
 ·intro id e sz rows hj;rcases key id _ hj with⟨rfl,rfl⟩|h
  ·simp[Ob.Xn]at hq
  ·exact w5.2.1 id e sz rows h.1 h.2
 ·intro id x hj;rcases key id _ hj with⟨rfl,rfl⟩|h
  ·exact Nb.plain hq
  ·exact w5.2.2 id x h.1 h.2
theorem eN.change(hs:eN Γ st κ Θ a w){id:Nat}{o:Ob}(k:jU w w' Θ Θ' (id+2))(hm:∀b,2<=Θ' b->BB Γ b)(ho:yc w' κ Θ' id o)(hq:o.Xn=false):
 eN Γ ⟨st.σ,st.H.set id o⟩ κ Θ' a w':=by
 have key:∀(j:Nat) x,(st.H.set id o)[j]?=some x->(j=id/\x=o)\/(j+2≠id+2/\st.H[j]?=some x):=by
  intro j x hj;by_cases e:id=j
  ·subst e;have hlt:id<st.H.length:=by
    have:=(aJ.1 hj).1;simpa using this
   rw[dR hlt]at hj;cases hj;exact .inl ⟨rfl,rfl⟩
  ·rw[cJ e]at hj;exact .inr ⟨by omega,hj⟩
 obtain⟨ρ,hu⟩:=hs.vG;have w5:=hs.sA k (fun _ _ h=>h) hu;refine hs.step k hm (fun _ _ h=>h) (fun i hi=>hs.tR i (by simpa using hi)) hs.s9 ?_ ⟨ρ,w5.1,?_,?_⟩
 ·intro j x hj;rcases key j x hj with⟨rfl,rfl⟩|h
  ·exact .inr (.inr ho)
  ·exact .inr (.inl h)
 ·intro i e sz rows hj;rcases key i _ hj with⟨rfl,rfl⟩|h
  ·simp[Ob.Xn]at hq
  ·exact w5.2.1 i e sz rows h.1 h.2
 ·intro i x hj;rcases key i _ hj with⟨rfl,rfl⟩|h
  ·exact Nb.plain hq
  ·exact w5.2.2 i x h.1 h.2
theorem eN.B1(hs:eN Γ st κ Θ a w)(h:∀b,2<=Θ' b->2<=Θ b\/w.heap.size<=b):∀b,2<=Θ' b->BB Γ b:=by
 intro b hb;rcases h b hb with h|h
 ·exact hs.mine b h
 ·exact .inl (eD hs.base h)
theorem jU.refl(h:∀b,Θ b≠0->b<w.heap.size)(h2:2<=tag):jU w w Θ Θ tag:=⟨h2,rfl,rfl,rfl,bU _,fun _ _ _=>rfl,fun _ _ _=>rfl,h⟩
theorem jU.a3A(h:∀b,Θ b≠0->b<w.heap.size)(hb:Below w.heap.size w w')(h2:2<=tag):jU w w' Θ Θ tag:=
 ⟨h2,hb.os,hb.tape,hb.output,hb.size,fun b hlt _=>hb.block b hlt,fun _ _ _=>rfl,fun b hn=>eC (h b hn) hb.size⟩
theorem eN.grow(hs:eN Γ st κ Θ a w)(hb:Below w.heap.size w w'):eN Γ st κ Θ a w':=by
 have k:jU w w' Θ Θ (st.H.length+2):=jU.a3A hs.own hb (by omega);obtain⟨ρ,hu⟩:=hs.vG;have w5:=hs.sA k (fun _ _ h=>h) hu;have hlt:∀(j:Nat) o,st.H[j]?=some o->j+2≠st.H.length+2:=fun j o h=>by
  have:=(aJ.1 h).1;omega
 exact hs.step k hs.mine (fun _ _ h=>h) hs.tR hs.s9 (fun j o h=>.inr (.inl ⟨hlt j o h,h⟩)) ⟨ρ,w5.1,fun id e sz rows h=>w5.2.1 id e sz rows (hlt _ _ h) h,fun id o h=>w5.2.2 id o (hlt _ _ h) h⟩
theorem eN.drew(hs:eN Γ st κ Θ a w):eN Γ st κ Θ a w.drew:=hs.grow ((Below.refl _ _).drew)
def kill(H:bY):aa->bY
 | []=>H
 |m::ms=>kill (H.set m .gone) ms
theorem gx(H:bY)(ms:aa):(kill H ms).length=H.length:=by
 induction ms generalizing H with
 |nil=>rfl
 |cons m ms ih=>simp[kill,ih]
theorem pz{H:bY}{ms:aa}{j:Nat}{o:Ob}(h:(kill H ms)[j]?=some o):o=.gone\/(j∉ms/\H[j]?=some o):=by
 induction ms generalizing H with
 |nil=>exact .inr ⟨by simp,h⟩
 |cons m ms ih=>
  rcases ih h with h|⟨h1,h2⟩
  ·exact .inl h
  ·by_cases e:m=j
   ·subst e;have hlt:=(aJ.1 h2).1;rw[dR (by simpa using hlt)]at h2;cases h2;exact .inl rfl
   ·rw[cJ e]at h2;exact .inr ⟨by simp[h1,tg e],h2⟩
def A6(κ:Nat->Option Value)(Θ ρ:Nat->Nat)(w:World)(m:Nat)(k:RK)(rows:List aQ)(t:Option (TypeId×Nat):=none):Prop:=
 ∃v bs,κ m=some v/\Rd w v (.sl rows) bs/\(∀b∈bs,Θ b=0)/\(k=.uq->bs.Nodup/\∀b∈bs,ρ b=m+1)/\(∀t',t=some t'->Ib w t' v (.sl rows) bs)
def Ob.tOf:Ob->Option (TypeId×Nat)
 | .row _ e sz _=>some (e,sz)
 |_=>Option.none
theorem z8{e sz:Nat}{v:Value}{rows:List aQ}{cs:bp}{bs:aa}(hrl:∀r∈rows,r.length=sz)(hown:w.ownsRow 0 e sz v rows.length cs)(vL:p6 w cs rows.flatten bs):
 Rd w v (.sl rows) (v.ownBlock.toList++bs):=by
 rcases hown.2 with⟨rfl,hn⟩|⟨g,cap,cur,rfl,_,hg,hnc,hcm,_,ht⟩
 ·have:rows=[]:=cc hn;subst this;cases vL;exact .zq
 ·have hlt:g<w.heap.size:=(bO.1 hg).1;refine .sl g 0 cap sz rows cs bs hlt hnc hcm hrl (fun j c hc=>?_) vL;have:=hown.cells (g:=g) (by simp[Value.ownBlock]) j c hc;simpa[Addr.add_lit]using this
theorem eN.a6H(hs:eN Γ st κ Θ a w){ρ:Nat->Nat}(hu:BE Γ st.H κ Θ w ρ){m e sz:Nat}{k:RK}{rows:List aQ}(hH:st.H[m]?=some (.row k e sz rows))(hk:k.RV=true):
 ∃Θ' ρ',eN Γ ⟨st.σ,st.H.set m .gone⟩ κ Θ' a w/\BE Γ (st.H.set m .gone) κ Θ' w ρ'/\A6 κ Θ' ρ' w m k rows (some (e,sz))/\
  (∀b,Θ b=0->Θ' b=0)/\(∀b,ρ b≠0->ρ' b=ρ b):=by
 obtain⟨hsz,hrl,v,cs,bs,hkm,hown,vL,hΘ,hz⟩:=hs.ob m _ hH;have zy:∀b∈bs,Θ b=0:=by cases k<;>first|exact hz|simp[RK.RV]at hk
 let Θ':Nat->Nat:=fun b=>if Θ b=m+2 then 0 else Θ b
 let ρ':Nat->Nat:=fun b=>if some b=v.ownBlock then m+1 else ρ b
 have hk':jU w w Θ Θ' (m+2):=⟨by omega,rfl,rfl,rfl,bU _,fun _ _ _=>rfl,fun b _ hne=>b9 hne,fun b hb=>hs.own b (fun h0=>hb (by simp only[Θ'];split<;>simp_all))⟩
 have hT0:∀b,Θ b=0->Θ' b=0:=fun b h=>by simp only[Θ'];split<;>omega
 have Q8:∀b,2<=Θ' b->BB Γ b:=fun b hb=>hs.mine b (by simp only[Θ']at hb;split at hb<;>omega)
 have Gp:∀g,v.ownBlock=some g->ρ g=0:=by
  intro g hg;cases h:ρ g with
  |zero=>rfl
  |succ n=>have:=(hu.free g (by omega)).1;rw[hΘ g hg]at this;omega
 have hρ:∀b,ρ b≠0->ρ' b=ρ b:=fun b hb=>b9 (fun h=>hb (Gp b h.symm))
 have key:∀(j:Nat) x,(st.H.set m .gone)[j]?=some x->x=.gone\/(j+2≠m+2/\st.H[j]?=some x):=by
  intro j x hj;rcases pz (ms:=[m]) hj with h|⟨h1,h2⟩
  ·exact .inl h
  ·exact .inr ⟨by simp at h1;omega,h2⟩
 have w5:=hs.sA hk' (fun _ _ h=>h) hu;have hU:BE Γ (st.H.set m .gone) κ Θ' w ρ':=by
  refine⟨fun b hb=>?_,fun id e sz rows h=>?_,fun id x h=>?_⟩
  ·by_cases hb':some b=v.ownBlock
   ·have e1:=hΘ b hb'.symm;refine⟨by simp only[Θ'];rw[bL e1],.inl (hs.mine b (by omega)),?_⟩;rcases hown.2 with⟨rfl,_⟩|⟨g,cap,cur,rfl,_,hg,_⟩
    ·simp[Value.ownBlock]at hb'
    ·simp[Value.ownBlock]at hb';subst hb';exact⟨_,_,hg⟩
   ·exact w5.1 b (by simp only[ρ']at hb;rwa[b9 hb']at hb)
  ·rcases key id _ h with h|⟨h1,h2⟩
   ·cases h
   ·obtain⟨v2,c2,b2,q1,q2,q3,q4,q5⟩:=w5.2.1 id e sz rows h1 h2;exact⟨v2,c2,b2,q1,q2,q3,q4,fun b hb=>by rw[hρ b (by rw[q5 b hb];omega)];exact q5 b hb⟩
  ·rcases key id _ h with h|⟨h1,h2⟩
   ·subst h;trivial
   ·exact(w5.2.2 id x h1 h2).re fun b hb=>(hρ b (by omega)).trans hb
 refine⟨Θ',ρ',?_,hU,?_,hT0,hρ⟩
 ·exact hs.step hk' Q8 (fun _ _ h=>h) (fun i hi=>hs.tR i (by simpa using hi)) hs.s9 (fun j x hj=>by
   rcases key j x hj with h|h
   ·exact .inl h
   ·exact .inr (.inl h)) ⟨ρ',hU⟩
 ·have plain:k≠ .uq->A6 κ Θ' ρ' w m k rows (some (e,sz)):=fun hne=>by
   refine⟨v,_,hkm,z8 hrl hown vL,fun b hb=>?_,fun h=>absurd h hne,fun t ht=>by cases ht;exact .inr ⟨rows,cs,bs,rfl,hsz,hrl,hown,vL,rfl⟩⟩;rcases aZ.1 hb with hb|hb
   ·simp only[mY]at hb;simp only[Θ'];rw[bL (hΘ b hb)]
   ·exact hT0 b (zy b hb)
  cases k with
  |cl=>simp[RK.RV]at hk
  |sh=>exact plain (by simp)
  |mv n=>exact plain (by simp)
  |ho p n=>exact plain (by simp)
  |uq=>
   obtain⟨v2,c2,b2,q1,q2,q3,q4,q5⟩:=hu.rows m e sz rows hH;rw[hkm]at q1;cases q1;have hfr:∀b∈b2,ρ b≠0:=fun b hb=>by rw[q5 b hb];omega
   refine⟨v,_,hkm,z8 hrl q2 q3.rd,fun b hb=>?_,fun _=>⟨?_,fun b hb=>?_⟩,fun t ht=>by cases ht;exact .inr ⟨rows,c2,b2,rfl,hsz,hrl,q2,q3.rd,rfl⟩⟩
   ·rcases aZ.1 hb with hb|hb
    ·simp only[mY]at hb;simp only[Θ'];rw[bL (hΘ b hb)]
    ·exact hT0 b (hu.free b (hfr b hb)).1
   ·rw[bW];refine⟨by cases v.ownBlock<;>simp,q4,fun x hx y hy e=>?_⟩;simp only[mY]at hx;subst e;exact hfr x hy (Gp x hx)
   ·rcases aZ.1 hb with hb|hb
    ·simp only[mY]at hb;simp only[ρ'];rw[bL hb.symm]
    ·rw[hρ b (hfr b hb)];exact q5 b hb
theorem eN.a8m(hs:eN Γ st κ Θ a w){ρ:Nat->Nat}(hu:BE Γ st.H κ Θ w ρ){m:Nat}{rows:List aQ}(hH:st.H[m]?=some (.tk rows)):
 eN Γ ⟨st.σ,st.H.set m .gone⟩ κ Θ a w/\BE Γ (st.H.set m .gone) κ Θ w ρ/\A6 κ Θ ρ w m .uq rows:=by
 have key:∀(j:Nat) x,(st.H.set m .gone)[j]?=some x->x=.gone\/(j≠m/\st.H[j]?=some x):=by
  intro j x hj;rcases pz (ms:=[m]) hj with h|⟨h1,h2⟩
  ·exact .inl h
  ·exact .inr ⟨by simpa using h1,h2⟩
 have hU:BE Γ (st.H.set m .gone) κ Θ w ρ:=by
  refine⟨hu.free,fun id e sz rows h=>?_,fun id x h=>?_⟩
  ·rcases key id _ h with h|⟨_,h2⟩
   ·cases h
   ·exact hu.rows id e sz rows h2
  ·rcases key id _ h with h|⟨_,h2⟩
   ·subst h;trivial
   ·exact hu.more id x h2
 obtain⟨v,bs,q1,q2,q3,q4⟩:=hu.more m _ hH;refine⟨⟨hs.defers,hs.size,fun i hi=>hs.tR i (by simpa using hi),hs.s9,hs.slot,fun id o h=>?_,hs.own,hs.old,hs.mine,hs.stays,ρ,hU⟩,hU,v,bs,q1,q2,fun b hb=>(hu.free b (by rw[q4 b hb];omega)).1,fun _=>⟨q3,q4⟩,fun _ h=>by cases h⟩;rcases key id _ h with h|⟨_,h2⟩
 ·subst h;trivial
 ·exact hs.ob id o h2
def Ob.LW:Ob->Option (RK×List aQ)
 | .row k _ _ rows=>(match k with| .cl=>none|_=>some (k,rows))
 | .tk rows=>some (.uq,rows)
 |_=>none
theorem Ob.a0r{o:Ob}{k:RK}{rows:List aQ}(h:o.LW=some (k,rows)):(∃e sz,o=.row k e sz rows/\k.RV=true)\/(o=.tk rows/\k=.uq):=by
 cases o with
 |row k' e sz r=>
  cases k' with
  |cl=>simp[Ob.LW]at h
  |_=>simp only[Ob.LW,ay,cq]at h;obtain⟨rfl,rfl⟩:=h;exact .inl ⟨e,sz,rfl,rfl⟩
 |tk r=>simp only[Ob.LW,ay,cq]at h;obtain⟨rfl,rfl⟩:=h;exact .inr ⟨rfl,rfl⟩
 |_=>simp[Ob.LW]at h
theorem eN.a8l(hs:eN Γ st κ Θ a w){ρ:Nat->Nat}(hu:BE Γ st.H κ Θ w ρ){m:Nat}{o:Ob}{k:RK}{rows:List aQ}(hH:st.H[m]?=some o)(ho:o.LW=some (k,rows)):
 ∃Θ' ρ',eN Γ ⟨st.σ,st.H.set m .gone⟩ κ Θ' a w/\BE Γ (st.H.set m .gone) κ Θ' w ρ'/\A6 κ Θ' ρ' w m k rows o.tOf/\
  (∀b,Θ b=0->Θ' b=0)/\(∀b,ρ b≠0->ρ' b=ρ b):=by
 rcases Ob.a0r ho with⟨e,sz,rfl,hk⟩|⟨rfl,rfl⟩
 ·exact hs.a6H hu hH hk
 ·obtain⟨h1,h2,h3⟩:=hs.a8m hu hH;exact⟨Θ,ρ,h1,h2,h3,fun _ h=>h,fun _ _=>rfl⟩
theorem eN.T5:∀(ms:aa) {st:St} {Θ ρ:Nat->Nat},eN Γ st κ Θ a w->BE Γ st.H κ Θ w ρ->ms.Nodup->
 (∀m∈ms,∃o k rows,st.H[m]?=some o/\o.LW=some (k,rows))->
 ∃Θ' ρ',eN Γ ⟨st.σ,kill st.H ms⟩ κ Θ' a w/\BE Γ (kill st.H ms) κ Θ' w ρ'/\(∀m∈ms,∀o k rows,st.H[m]?=some o->o.LW=some (k,rows)->A6 κ Θ' ρ' w m k rows o.tOf)/\
  (∀b,Θ b=0->Θ' b=0)/\(∀b,ρ b≠0->ρ' b=ρ b):=by
 intro ms
 induction ms with
 |nil=>intro st Θ ρ hs hu _ _;exact⟨Θ,ρ,hs,hu,by simp,fun _ h=>h,fun _ _=>rfl⟩
 |cons m ms ih=>
  intro st Θ ρ hs hu hnd hall;obtain⟨hnm,R3⟩:=fZ.1 hnd;obtain⟨o,k,rows,hH,hk⟩:=hall m (by simp);obtain⟨Θ1,ρ1,hs1,hu1,hm1,Pe,X4⟩:=hs.a8l hu hH hk;have OR:∀m'∈ms,(st.H.set m .gone)[m']?=st.H[m']?:=fun m' hm'=>cJ (fun e:m=m'=>hnm (by rw[e];exact hm'))
  obtain⟨Θ2,ρ2,hs2,hu2,hm2,UR,hr2⟩:=ih (st:=⟨st.σ,st.H.set m .gone⟩) hs1 hu1 R3 (fun m' hm'=>by
   obtain⟨o',k',dw,h1,h2⟩:=hall m' (by simp[hm']);exact⟨o',k',dw,(OR m' hm').trans h1,h2⟩)
  refine⟨Θ2,ρ2,hs2,hu2,?_,fun b h=>UR b (Pe b h),fun b h=>(hr2 b (by rw[X4 b h];exact h)).trans (X4 b h)⟩;intro m' hm' o' k' dw FV ho';rcases bJ.1 hm' with rfl|Z2
  ·rw[hH]at FV;cases FV;rw[hk]at ho';cases ho';obtain⟨v,bs,q1,q2,q3,q4,q7⟩:=hm1;refine⟨v,bs,q1,q2,fun b hb=>UR b (q3 b hb),fun hq=>?_,fun _ h=>q7 _ h⟩;obtain⟨q5,q6⟩:=q4 hq;exact⟨q5,fun b hb=>by rw[hr2 b (by rw[q6 b hb];omega)];exact q6 b hb⟩
  ·exact hm2 m' Z2 o' k' dw ((OR m' Z2).trans FV) ho'
theorem eN.HM:∀(ms:aa) {st:St} {Θ ρ:Nat->Nat},eN Γ st κ Θ a w->BE Γ st.H κ Θ w ρ->ms.Nodup->
 (∀m∈ms,∃k e sz rows,st.H[m]?=some (.row k e sz rows)/\k.RV=true)->
 ∃Θ' ρ',eN Γ ⟨st.σ,kill st.H ms⟩ κ Θ' a w/\BE Γ (kill st.H ms) κ Θ' w ρ'/\(∀m∈ms,∀k e sz rows,st.H[m]?=some (.row k e sz rows)->A6 κ Θ' ρ' w m k rows)/\
  (∀b,Θ b=0->Θ' b=0)/\(∀b,ρ b≠0->ρ' b=ρ b):=by
 intro ms
 induction ms with
 |nil=>intro st Θ ρ hs hu _ _;exact⟨Θ,ρ,hs,hu,by simp,fun _ h=>h,fun _ _=>rfl⟩
 |cons m ms ih=>
  intro st Θ ρ hs hu hnd hall;obtain⟨hnm,R3⟩:=fZ.1 hnd;obtain⟨k,e,sz,rows,hH,hk⟩:=hall m (by simp);obtain⟨Θ1,ρ1,hs1,hu1,hm1,Pe,X4⟩:=hs.a6H hu hH hk;have OR:∀m'∈ms,(st.H.set m .gone)[m']?=st.H[m']?:=fun m' hm'=>cJ (fun e:m=m'=>hnm (by rw[e];exact hm'))
  obtain⟨Θ2,ρ2,hs2,hu2,hm2,UR,hr2⟩:=ih (st:=⟨st.σ,st.H.set m .gone⟩) hs1 hu1 R3 (fun m' hm'=>by
   obtain⟨k',e',sz',dw,h1,h2⟩:=hall m' (by simp[hm']);exact⟨k',e',sz',dw,(OR m' hm').trans h1,h2⟩)
  refine⟨Θ2,ρ2,hs2,hu2,?_,fun b h=>UR b (Pe b h),fun b h=>(hr2 b (by rw[X4 b h];exact h)).trans (X4 b h)⟩;intro m' hm' k' e' sz' dw FV;rcases bJ.1 hm' with rfl|Z2
  ·rw[hH]at FV;cases FV;obtain⟨v,bs,q1,q2,q3,q4,q7⟩:=hm1;refine⟨v,bs,q1,q2,fun b hb=>UR b (q3 b hb),fun hq=>?_,fun _ h=>by cases h⟩;obtain⟨q5,q6⟩:=q4 hq;exact⟨q5,fun b hb=>by rw[hr2 b (by rw[q6 b hb];omega)];exact q6 b hb⟩
  ·exact hm2 m' Z2 k' e' sz' dw ((OR m' Z2).trans FV)
end
section
variable{P:Program}{Γ:vn}{Q:Exit->St->Prop}{st:St}{κ:Nat->Option Value}{Θ:Nat->Nat}{a:Act}{w:World}{all:Array Oper}{rest:List Oper}
theorem a1l{c:Operand}{x y:Code}{b:Bool}(hc:st.ev c=.bool b)(ht:b=true->AW P Γ x Q st)(hf:b=false->AW P Γ y Q st):AW P Γ (.cond c x y) Q st:=by
 intro κ Θ a w hs;obtain⟨bs,r,_⟩:=hs.ev c;rw[hc]at r;exact wp_cond_split r.xz (fun h=>ht h κ Θ a w hs) (fun h=>hf h κ Θ a w hs)
theorem Nu{o:Oper}{j s:Nat}{want b:Bool}(hg:o.guard=some (j,want))(hj:(all[j]?).bind (·.dst)=some s)(hb:lk st.σ s=.bool b)
 (hd:∀t,o.dst=some t->t<Γ.nt)
 (aBo:b=want->AO P Γ all ({o with guard:=none}::rest) Q st) (hno:b≠want->AO P Γ all rest Q (st.put o.dst (.ff []))):AO P Γ all (o::rest) Q st:=by
 intro κ Θ a w hs;obtain⟨bs,r,_⟩:=hs.slot s;rw[hb]at r;have hv:=r.xz;have hlt:s<a.tmps.size:=by
  rcases fN s a.tmps.size with h|h
  ·exact h
  ·exfalso;rw[cL,td h]at hv;simp[undef]at hv
 have hy:yielded all a.tmps j=some b:=by
  have h1:a.tmps[s]?=some (.bool b):=by
   rw[cL,cj hlt]at hv;rw[cj hlt];simpa using hv
  simp[yielded,hj,h1]
 by_cases e:b=want
 ·have:=aBo e κ Θ a w hs;unfold wpList at this⊢;have hw:Region.wanted o (yielded all a.tmps)=true:=by simp[Region.wanted,hg,hy,e]
  have hw':Region.wanted {o with guard:=none} (yielded all a.tmps)=true:=rfl;rw[bL hw];rw[bL hw']at this;exact this
 ·have hw:Region.wanted o (yielded all a.tmps)=false:=by simp[Region.wanted,hg,hy,e]
  unfold wpList;rw[hw,b9 (by simp)];refine hno e κ Θ _ w ?_;cases R1:o.dst with
  |none=>exact hs
  |some t=>exact hs.set (hd t R1) (.ff [] [] [] .nil) (by simp)
theorem ue.QT{w:World}{κ:Nat->Option Value}{v:Value}{bs:aa}(h:ue w κ v (.ff []) bs):v=.tuple #[]:=by
 cases h with
 |v h=>cases h with|cell h=>cases h with|pure h=>cases h
 |ff vs ds bs h=>cases h;rfl
theorem Pn{o:Oper}{j s:Nat}{want:Bool}(hg:o.guard=some (j,want))(hj:(all[j]?).bind (·.dst)=some s)(hb:lk st.σ s=.ff [])
 (hd:∀t,o.dst=some t->t<Γ.nt) (hno:AO P Γ all rest Q (st.put o.dst (.ff []))):AO P Γ all (o::rest) Q st:=by
 intro κ Θ a w hs;obtain⟨bs,r,_⟩:=hs.slot s;rw[hb]at r;have hv:=r.QT;have hy:yielded all a.tmps j=none:=by
  rcases fN s a.tmps.size with hlt|hlt
  ·have h1:a.tmps[s]?=some (.tuple #[]):=by
    rw[cL,cj hlt]at hv;rw[cj hlt];simpa using hv
   simp[yielded,hj,h1]
  ·simp[yielded,hj,td hlt]
 have hw:Region.wanted o (yielded all a.tmps)=false:=by simp[Region.wanted,hg,hy]
 unfold wpList;rw[hw,b9 (by simp)];refine hno κ Θ _ w ?_;cases R1:o.dst with
 |none=>exact hs
 |some t=>exact hs.set (hd t R1) (.ff [] [] [] .nil) (by simp)
theorem jU.alloc(hs:eN Γ st κ Θ a w)(o:Obj){tag:Nat}(h2:2<=tag):jU w (w.alloc o) Θ (fun b=>if b=w.heap.size then tag else Θ b) tag:=by
 refine⟨h2,rfl,rfl,rfl,by simp,fun b hb _=>Below.heap_alloc w o b hb,fun b hb _=>?_,fun b hb=>?_⟩
 ·rw[b9 (by omega)]
 ·by_cases e:b=w.heap.size
  ·subst e;simp
  ·rw[b9 e]at hb;have:=hs.own b hb;simp;omega
theorem eN.Zz(hs:eN Γ st κ Θ a w){cs:Array Value}{ds:aQ}{bs:aa}(T:TypeId)(hr:fk w κ cs.toList ds bs)(hz:∀b∈bs,Θ b=0):
 eN Γ ⟨st.σ,st.H++[.box ds]⟩ (zz κ st.H.length (some (.pointer (some ⟨w.heap.size,0,none⟩)))) (fun b=>if b=w.heap.size then st.H.length+2 else Θ b) a (w.alloc (.cells cs T)):=by
 have k:=jU.alloc hs (.cells cs T) (tag:=st.H.length+2) (by omega);refine hs.push rfl k (hs.B1 (fun b hb=>by by_cases e:b=w.heap.size<;>simp_all)) ?_ rfl;have hn:=zM (hs.tR _ (bU _)) (some (Value.pointer (some ⟨w.heap.size,0,none⟩)));obtain⟨h1,h2⟩:=fk.stay k hn hr hz;exact⟨w.heap.size,cs,T,by simp[zz],heap_alloc_new w _,by simp,bs,h1,h2⟩
theorem a5D{o:Oper}{T t:Nat}{x:Operand}{ds:aQ}(hop:o.op=.box T x)(hd:o.dst=some t)(hg:o.guard=none)(ht:t<Γ.nt)
 (hc:(st.ev x).cellsOf=some ds) (h:AO P Γ all rest Q ⟨(t,.ptr st.H.length 0)::st.σ,st.H++[.box ds]⟩):AO P Γ all (o::rest) Q st:=by
 intro κ Θ a w hs;obtain⟨bs,r,hz⟩:=hs.ev x;have hcs:=Fm hs.s9 r hc;have hs':=hs.Zz T hcs hz;refine wpList_plain hg fun K hK=>?_
 unfold Oper.wp;have hrun:(execOp a.eval o).run P w=.ok (.value (.pointer (some ⟨w.heap.size,0,none⟩))) (w.alloc (.cells (a.eval x).cells T)):=by
  simp[execOp,hop,Instr.box,newVar,newRow]
 rw[hrun,Oper.upon_value,hd];refine hK _ _ (h _ _ _ _ (hs'.set (t:=t) (d:=.ptr st.H.length 0) (bs:=[]) ht ?_ (by simp)));exact(Aw.ptr st.H.length 0 w.heap.size (by simp[zz])).S0
theorem Y9{o:Oper}{T t:Nat}{zs:aQ}(hop:o.op=.alloc T)(hd:o.dst=some t)(hg:o.guard=none)(ht:t<Γ.nt)
 (hz:tz P T=some zs) (h:AO P Γ all rest Q ⟨(t,.ptr st.H.length 0)::st.σ,st.H++[.box zs]⟩):AO P Γ all (o::rest) Q st:=by
 intro κ Θ a w hs;obtain⟨i,z,hi,zy,hsz,hlen,hone,rfl⟩:=zH hz;have hs':=hs.Zz T (cs:=z.cells) (DZ z.cells.toList hone) (by simp);refine wpList_plain hg fun K hK=>?_
 unfold Oper.wp;have hrun:(execOp a.eval o).run P w=.ok (.value (.pointer (some ⟨w.heap.size,0,none⟩))) (w.alloc (.cells z.cells T)):=by
  simp[execOp,hop,Instr.alloc,zeroValue,typeInfo,hi,zy,newVar,newRow]
 rw[hrun,Oper.upon_value,hd];refine hK _ _ (h _ _ _ _ (hs'.set (t:=t) (d:=.ptr st.H.length 0) (bs:=[]) ht ?_ (by simp)));exact(Aw.ptr st.H.length 0 w.heap.size (by simp[zz])).S0
theorem jU.setRow(hs:eN Γ st κ Θ a w){g:Nat}{cs:Array Value}{tag:Nat}(h2:2<=tag)(hg:Θ g=tag):jU w (w.setRow g cs) Θ Θ tag:=by
 refine⟨h2,rfl,rfl,rfl,by simp,fun b _ hne=>setRow_other w g b cs (fun e=>hne (e▸hg)),fun b _ _=>rfl,fun b hb=>?_⟩;simpa using hs.own b hb
theorem NC{T g off:Nat}{v:Value}{cur:Array Value}{e:TypeId}(hg:w.heap[g]?=some (.cells cur e (0,0)))(hsz:v.cells.size=C8 P T)(OS:∃i,P.info? T=some i)
 (hfit:off+v.cells.size<=cur.size) (hone:∀c∈v.cells.toList,c.oneCell'=true):
 (Instr.storeAt T (.pointer (some ⟨g,off,none⟩)) v).run P w=.ok () (w.setRow g (cur.toList.take off++v.cells.toList++cur.toList.drop (off+v.cells.toList.length)).toArray):=by
 have:=run_storeCells_at P g off e v.cells.toList 0 cur w hg (by simpa using hfit) hone;simp only[vl]at this;simp[Instr.storeAt,Instr.sureAddr,storeVar,yQ OS,hsz,this]
def Uy(P:Program)(t:TypeId):Bool:=(P.info? t).isSome
theorem QN{o:Oper}{T id off:Nat}{x y:Operand}{cells ds:aQ}(hop:o.op=.store T x y)
 (hx:st.ev x=.ptr id off) {ob:Ob} (hH:st.H[id]?=some ob) (CK:ob.VV=some cells) (hc:(st.ev y).cellsOf=some ds) (hT:Uy P T=true) (hl:ds.length=C8 P T) (hfit:off+ds.length<=cells.length) (hkp:ob.Vt off=true) (hs:eN Γ st κ Θ a w):
 ∃w',(execOp a.eval o).run P w=.ok .skip w'/\eN Γ ⟨st.σ,st.H.set id (ob.re (cells.take off++ds++cells.drop (off+ds.length)))⟩ κ Θ a w':=by
 obtain⟨b1,r1,_⟩:=hs.ev x;obtain⟨b2,r2,UR⟩:=hs.ev y;rw[hx]at r1;obtain⟨g,hk,hv⟩:=r1.Aq;obtain⟨g',cs,Tb,hk',hgc,hΘ,bs,vL,hz⟩:=(hs.ob id _ hH).cs CK;rw[hk]at hk';cases hk';have hcs:=Fm hs.s9 r2 hc;have hl1:=hcs.length;have DT:=vL.length;have hsz:(a.eval y).cells.size=C8 P T:=by rw[<-hl,<-hl1];simp
 have hst:=NC (P:=P) (T:=T) (off:=off) hgc hsz (iP.1 hT) (by
  have:(a.eval y).cells.size=ds.length:=by rw[<-hl1];simp
  have h3:cs.size=cells.length:=by rw[<-DT];simp
  omega) hcs.one
 have k:=jU.setRow hs (g:=g) (cs:=(cs.toList.take off++(a.eval y).cells.toList++cs.toList.drop (off+(a.eval y).cells.toList.length)).toArray) (tag:=id+2) (by omega) hΘ;have hrun:(execOp a.eval o).run P w=.ok .skip (w.setRow g (cs.toList.take off++(a.eval y).cells.toList++cs.toList.drop (off+(a.eval y).cells.toList.length)).toArray):=by
  simp only[execOp,hop,hv];simp[hst]
 refine⟨_,hrun,hs.change k hs.mine (yc.a92 CK (hs.ob id _ hH) (fun _ h=>h) (fun c0 u0 e0=>?_) ?_) (by cases ob<;>rfl)⟩
 ·subst e0;intro c Yr g2 cs2 T2 hk2 Yx;rw[hk]at hk2;cases hk2;rw[setRow_heap w g cs _ Tb _ hgc]at Yx;cases Yx;obtain⟨z1,z2⟩:=(hs.ob id _ hH).1.2 c Yr g cs Tb hk hgc;simp only[Ob.VV,ay]at CK;subst CK;have h3:c0.length=3:=by rw[<-DT];simpa using z1
  have hoff:1<=off:=by
   simp only[Ob.Vt,h3,jW,bN,oU]at hkp;exact kO hkp
  have aDu:cs.toList.length=3:=by simpa using z1
  have hel:(a.eval y).cells.toList.length=ds.length:=hl1;refine⟨by simp only[xm,ax,cE,lP];omega,?_⟩;rw[kN,cy,bA (by rw[cE];omega),wX (by omega)];simpa using z2
 have e:cells=cells.take off++((cells.drop off).take ds.length++(cells.drop off).drop ds.length):=by rw[cO,cO]
 rw[e]at vL;obtain⟨v1,v2,c1,c2,NT,rfl,k1,k2⟩:=vL.split;obtain⟨v3,v4,c3,c4,rfl,rfl,k3,k4⟩:=k2.split;have l1:v1.length=off:=by rw[k1.length];simp;omega
 have l3:v3.length=ds.length:=by rw[k3.length];simp;omega
 have e1:cs.toList.take off=v1:=by rw[NT];exact kY l1
 have e4:cs.toList.drop (off+(a.eval y).cells.toList.length)=v4:=by
  rw[NT,<-iy,jP l1,hl1];exact jP l3
 have hnew:fk w κ (v1++(a.eval y).cells.toList++v4) (cells.take off++ds++cells.drop (off+ds.length)) ((c1++b2)++c4):=by
  rw[iy]at k4;exact(k1.app hcs).app k4
 have Pd:∀b∈((c1++b2)++c4),Θ b=0:=by
  intro b hb;simp only[aZ]at hb;rcases hb with(hb|hb)|hb
  ·exact hz b (by simp[hb])
  ·exact UR b hb
  ·exact hz b (by simp[hb])
 obtain⟨h1,h2⟩:=fk.stay k (fun _ _ h=>h) hnew Pd;refine⟨g,_,Tb,hk,setRow_heap w g cs _ Tb _ hgc,hΘ,_,?_,h2⟩;rw[e1,e4]at h1⊢;exact h1
theorem YG{o:Oper}{T id off:Nat}{x y:Operand}{cells ds:aQ}(hop:o.op=.store T x y)(hd:o.dst=none)(hg:o.guard=none)
 (hx:st.ev x=.ptr id off) {ob:Ob} (hH:st.H[id]?=some ob) (CK:ob.VV=some cells) (hc:(st.ev y).cellsOf=some ds) (hT:Uy P T=true) (hl:ds.length=C8 P T) (hfit:off+ds.length<=cells.length) (hkp:ob.Vt off=true)
 (h:AO P Γ all rest Q ⟨st.σ,st.H.set id (ob.re (cells.take off++ds++cells.drop (off+ds.length)))⟩):AO P Γ all (o::rest) Q st:=by
 intro κ Θ a w hs;obtain⟨w',hrun,hs'⟩:=QN hop hx hH CK hc hT hl hfit hkp hs;refine wpList_plain hg fun K hK=>?_
 unfold Oper.wp;rw[hrun,Oper.upon_skip,hd];exact hK _ _ (h _ _ _ _ hs')
end
def D.Sv:D->Bool
 | .acc _=>false
 | .ptr _ _=>false
 | .op _ _ _ _=>false
 |_=>true
def tby(P:Program)(t:TypeId):Nat:=P.bytesOf t
theorem MQ{α:Type}{l:List α}{i:Nat}{x:α}(h:l[i]?=some x):∃p q,l=p++x::q/\p.length=i:=by
 have hlt:=(aJ.1 h).1;have hx:=(aJ.1 h).2;refine⟨l.take i,l.drop (i+1),?_,by simp;omega⟩;rw[<-hx,Dp,cO]
theorem Mr{rows:List aQ}{sz i off:Nat}{row ds:aQ}(hrl:∀r∈rows,r.length=sz)(hr:rows[i]?=some row)(hfit:off+ds.length<=sz):
 (rows.set i (row.take off++ds++row.drop (off+ds.length))).flatten=rows.flatten.take (i*sz+off)++ds++rows.flatten.drop (i*sz+off+ds.length):=by
 obtain⟨p,q,rfl,rfl⟩:=MQ hr;have hrow:row.length=sz:=hrl row (by simp);have hp:p.flatten.length=p.length*sz:=qO (fun r hr=>hrl r (by simp[hr]));rw[nv _ _ (bU _),rJ,List.set_cons_zero];simp only[jt,gh];rw[<-hp,List.take_length_add_append,mR,List.drop_length_add_append,List.take_append_of_le_length (by omega),List.drop_append_of_le_length (by omega)];simp only[cy]
theorem Oj(z:Array Value)(n:Nat):(madeCells z (n*z.size)).toList=(List.replicate n z.toList).flatten:=by
 induction n with
 |zero=>simp[madeCells]
 |succ n ih=>
  rw[List.replicate_succ',jt,<-ih];apply mW;intro j;by_cases hz:z.size=0
  ·have:z= #[]:=Array.size_eq_zero_iff.1 hz;subst this;simp[madeCells]
  ·by_cases h1:j<n*z.size
   ·rw[bA (by simpa[madeCells]using h1)];have h2:j<(n+1)*z.size:=by rw[nS];omega
    simp[madeCells,h1,h2]
   ·rw[bE (by simpa[madeCells]using h1)];by_cases h2:j<(n+1)*z.size
    ·rw[nS,qG]at h2;have hm:j%z.size=j-n*z.size:=by
      have hmc:=Dr z.size n;have e:j=(j-n*z.size)+z.size*n:=by omega
      conv=>lhs;rw[e]
      rw[Nat.add_mul_mod_self_left,Nat.mod_eq_of_lt (by omega)]
     have h3:j-n*z.size<z.size:=by omega
     have h2':j<(n+1)*z.size:=by rw[nS,qG];exact h2
     simp[madeCells,h2',hm,h3]
    ·rw[cr (by simp[madeCells];omega),cr];rw[nS,qG]at h2;simp[madeCells];omega
section
variable{P:Program}{Γ:vn}{Q:Exit->St->Prop}{st:St}{κ:Nat->Option Value}{Θ:Nat->Nat}{a:Act}{w:World}{all:Array Oper}{rest:List Oper}
theorem fk.pure{vs:bp}{ds:aQ}{bs:aa}(h:fk w κ vs ds bs)(hp:ds.all D.Sv=true):p6 w vs ds bs:=by
 induction ds generalizing vs bs with
 |nil=>cases h;exact .nil
 |cons d ds ih=>
  simp only[dP,aR]at hp;cases h with
  |cons v vs _ _ b1 b2 h1 h2 h3=>
   refine .cons _ _ _ _ _ _ h1 ?_ (ih h3 hp.2);cases h2 with
   |pure h=>exact h
   |acc=>simp[D.Sv]at hp
   |ptr=>simp[D.Sv]at hp
   |op=>simp[D.Sv]at hp
theorem p6.rep{vs:bp}{ds:aQ}(h:p6 w vs ds [])(m:Nat):p6 w (List.replicate m vs).flatten (List.replicate m ds).flatten []:=by
 induction m with
 |zero=>exact .nil
 |succ m ih=>
  simp only[List.replicate_succ,gh];have:=h.app ih;simpa using this
def D.De(d:D):D:=match d with
 | .nil=>.sl []
 |d=>d
theorem Rd.soft{v:Value}{d:D}{bs:aa}(h:Rd w v d bs):Rd w v d.De bs:=by
 cases h with
 |nil=>exact .zq
 |any=>exact .any _
 |int _ _ h=>exact .int _ _ h
 |bool=>exact .bool _
 |str _ h=>exact .str _ h
 |val=>exact .val _
 |zq=>exact .zq
 |qn a cap h=>exact .qn a cap h
 |sl b off cap sz rows cs bs h0 h1 h2 h3 h4 h5=>exact .sl b off cap sz rows cs bs h0 h1 h2 h3 h4 h5
 |agg cs ds bs h=>exact .agg cs ds bs h
 |ep b off cs row o bs h0 h4 h5=>exact .ep b off cs row o bs h0 h4 h5
 |X8=>exact .X8
 |X9 t u=>exact .X9 t u
theorem p6.soft{vs:bp}{ds:aQ}{bs:aa}(h:p6 w vs ds bs):p6 w vs (ds.map D.De) bs:=by
 induction ds generalizing vs bs with
 |nil=>cases h;exact .nil
 |cons d ds ih=>cases h with|cons v vs _ _ b1 b2 h1 h2 h3=>exact .cons _ _ _ _ _ _ h1 h2.soft (ih h3)
def D.flat:D->Bool
 | .any=>true
 | .nil=>true
 | .int _ _=>true
 | .bool _=>true
 | .str _=>true
 | .val _=>true
 |_=>false
def Wh(H:bY)(d:D):Option (D×aa):=match d with
 | .acc m=>(match(H[m]?).bind Ob.LW with|some (_,rows)=>some (.sl rows,[m])|none=>none)
 | .ptr _ _=>none
 | .op _ _ _ _=>none
 |d=>some (d.De,[])
def Jz(H:bY):aQ->Option (aQ×aa)
 | []=>some ([],[])
 |d::ds=>match Wh H d,Jz H ds with|some (e,m),some (es,ms)=>some (e::es,m++ms)|_,_=>none
def uqC(H:bY)(d:D):Bool:=match d with
 | .acc m=>(match(H[m]?).bind Ob.LW with|some (k,_)=>(match k with| .uq=>true|_=>false)|none=>false)
 |d=>d.flat
def zB(b:Bool):RK:=match b with|true=>.uq|false=>.sh
def U7(H:bY)(t:Option (TypeId×Nat))(d:D):Bool:=match t with
 |none=>true
 |some t'=>(match d with
  | .acc m=>(match(H[m]?).bind Ob.tOf with|some t2=>t2.1==t'.1&&t2.2==t'.2|none=>false)
  | .nil=>Nat.blt 0 t'.2
  | .any=>true
  |_=>false)
def a2Q(H:bY)(f:Nat->Option (TypeId×Nat)):Nat->aQ->Bool
 |_,[]=>true
 |i,d::ds=>U7 H (f i) d&&a2Q H f (i+1) ds
def WX(e:Nat):Bool:=match Ms e with|none=>true|some _=>false
theorem Dg{e:Nat}(h:WX e=true):Ms e=none:=by
 unfold WX at h;split at h
 ·assumption
 ·cases h
def Xo(H:bY)(e i:Nat)(ds:aQ):Bool:=ds.all (uqC H)&&(match Ms e with|none=>true|some _=>a2Q H (vb e) i ds)
theorem Ob.T6(u:Bool)(e:TypeId)(sz:Nat)(rows:List aQ):(Ob.row (zB u) e sz rows).mvB=false:=by cases u<;>rfl
theorem Rd.flat{v:Value}{d:D}{bs:aa}(h:Rd w v d bs)(hf:d.flat=true):bs=[]:=by
 cases h<;>first|rfl|simp[D.flat]at hf
theorem S9{H:bY}{d e:D}{m:aa}(h:Wh H d=some (e,m)):
 (∃m0 o k rows,d=.acc m0/\H[m0]?=some o/\o.LW=some (k,rows)/\e=.sl rows/\m=[m0])\/(d.Sv=true/\(∀i,d≠ .acc i)/\e=d.De/\m=[]):=by
 cases d with
 |acc m0=>
  simp only[Wh]at h;split at h
  ·rename_i k rows hH;simp only[ay,cq]at h;obtain⟨rfl,rfl⟩:=h;obtain⟨o,hH,ho⟩:=pF.1 hH;exact .inl ⟨m0,o,k,rows,rfl,hH,ho,rfl,rfl⟩
  ·cases h
 |ptr i o=>simp[Wh]at h
 |op i j s o=>simp[Wh]at h
 |_=>simp only[Wh,ay,cq]at h;obtain⟨rfl,rfl⟩:=h;exact .inr ⟨rfl,by simp,rfl,rfl⟩
theorem SA{H:bY}:∀ {ds es:aQ} {ms:aa},Jz H ds=some (es,ms)->∀m∈ms,∃o k rows,H[m]?=some o/\o.LW=some (k,rows):=by
 intro ds
 induction ds with
 |nil=>intro es ms h;simp only[Jz,ay,cq]at h;obtain⟨rfl,rfl⟩:=h;simp
 |cons d ds ih=>
  intro es ms h;simp only[Jz]at h;split at h
  ·rename_i e m es' ms' h1 h2;simp only[ay,cq]at h;obtain⟨rfl,rfl⟩:=h;intro x hx;rcases aZ.1 hx with hx|hx
   ·rcases S9 h1 with⟨m0,o,k,dw,rfl,hH,hk,rfl,rfl⟩|⟨_,_,_,rfl⟩
    ·simp at hx;subst hx;exact⟨o,k,_,hH,hk⟩
    ·simp at hx
   ·exact ih h2 x hx
  ·cases h
theorem Yl{H:bY}{t':TypeId×Nat}{m:Nat}{o:Ob}(h:U7 H (some t') (.acc m)=true)(hH:H[m]?=some o):o.tOf=some t':=by
 simp only[U7,hH,aA]at h;split at h
 ·rename_i t2 e;rw[e];simp only[aR,cZ]at h;obtain⟨h1,h2⟩:=h;obtain⟨a1,a2⟩:=t2;obtain⟨c1,c2⟩:=t';simp only at h1 h2;rw[h1,h2]
 ·cases h
theorem a2P{H:bY}{t':TypeId×Nat}{d:D}{v:Value}{bs:aa}(h:U7 H (some t') d=true)(hna:∀i,d≠ .acc i)(hr:Rd w v d bs):Ib w t' v d.De bs:=by
 cases d with
 |acc i=>exact absurd rfl (hna i)
 |nil=>
  simp only[U7]at h;cases hr;exact .inr ⟨[],[],[],rfl,eC Nat.zero_lt_one (by simpa[Nat.blt]using h),by simp,World.ownsRow_nil w 0 _ _,.nil,by simp[Value.ownBlock]⟩
 |any=>cases hr;exact .inl ⟨rfl,rfl⟩
 |_=>simp[U7]at h
theorem a1s{H:bY}{ρ:Nat->Nat}{f:Nat->Option (TypeId×Nat)}:∀ {ds es:aQ} {ms:aa} {vs:bp} {b0:aa} (i:Nat),Jz H ds=some (es,ms)->ms.Nodup->fk w κ vs ds b0->(∀b∈b0,Θ b=0)->
 (∀m∈ms,∀o k rows,H[m]?=some o->o.LW=some (k,rows)->A6 κ Θ ρ w m k rows o.tOf)->
 ∃bs,p6 w vs es bs/\(∀b∈bs,Θ b=0)/\(ds.all (uqC H)=true->bs.Nodup/\∀b∈bs,∃m∈ms,ρ b=m+1)/\(a2Q H f i ds=true->yS w f i vs es bs):=by
 intro ds
 induction ds with
 |nil=>
  intro es ms vs b0 i h _ hr _ _;simp only[Jz,ay,cq]at h;obtain⟨rfl,rfl⟩:=h;cases hr;exact⟨[],.nil,by simp,by simp,fun _=>.nil _⟩
 |cons d ds ih=>
  intro es ms vs b0 i h hnd hr hz hm;simp only[Jz]at h;split at h
  ·rename_i e m es' ms' h1 h2;simp only[ay,cq]at h;obtain⟨rfl,rfl⟩:=h;obtain⟨n1,n2,n3⟩:=bW.1 hnd;cases hr with
   |cons v vs _ _ b1 b2 hv hc hcs=>
    obtain⟨bs2,q1,q2,q3,q7⟩:=ih (i+1) h2 n2 hcs (fun b hb=>hz b (by simp[hb])) (fun x hx=>hm x (by simp[hx]));have one:∃Xz,Rd w v e Xz/\(∀b∈Xz,Θ b=0)/\(uqC H d=true->Xz.Nodup/\∀b∈Xz,∃x∈m,ρ b=x+1)/\(∀t,f i=some t->U7 H (f i) d=true->Ib w t v e Xz):=by
     rcases S9 h1 with⟨m0,o,k,dw,rfl,hH,hk,rfl,rfl⟩|⟨hp,hna,rfl,rfl⟩
     ·obtain⟨v',bs,r1,r2,r3,r4,r7⟩:=hm m0 (by simp) o k dw hH hk;cases hc with
      |pure hc=>cases hc
      |acc _ _ hkv=>
       rw[hkv]at r1;cases r1;refine⟨bs,r2,r3,fun hq=>?_,fun t ht hf=>r7 t (Yl (by rwa[ht]at hf) hH)⟩;simp only[uqC,hH,aA,hk]at hq;split at hq
       ·obtain⟨r5,r6⟩:=r4 rfl;exact⟨r5,fun b hb=>⟨m0,by simp,r6 b hb⟩⟩
       ·cases hq
     ·have hrd:Rd w v d b1:=by
       cases hc with
       |pure hc=>exact hc
       |acc i _ _=>exact absurd rfl (hna i)
       |ptr i o _ _=>simp[D.Sv]at hp
       |op i j s o _ _ _ _ _=>simp[D.Sv]at hp
      refine⟨b1,hrd.soft,fun b hb=>hz b (by simp[hb]),fun hq=>?_,fun t ht hf=>a2P (by rwa[ht]at hf) hna hrd⟩;have hf:d.flat=true:=by
       unfold uqC at hq;split at hq
       ·exact absurd rfl (hna _)
       ·exact hq
      rw[hrd.flat hf];exact⟨by simp,by simp⟩
    obtain⟨Xz,p1,p2,p3,p7⟩:=one;refine⟨Xz++bs2,.cons _ _ _ _ _ _ hv p1 q1,fun b hb=>?_,fun hq=>?_,fun hf=>?_⟩
    ·rcases aZ.1 hb with hb|hb
     ·exact p2 b hb
     ·exact q2 b hb
    ·simp only[dP,aR]at hq;obtain⟨p4,p5⟩:=p3 hq.1;obtain⟨q4,q5⟩:=q3 hq.2;refine⟨bW.2 ⟨p4,q4,fun x hx y hy exy=>?_⟩,fun b hb=>?_⟩
     ·subst exy;obtain⟨m1,hm1,e1⟩:=p5 x hx;obtain⟨m2,hm2,e2⟩:=q5 x hy;exact n3 m1 hm1 m2 hm2 (by omega)
     ·rcases aZ.1 hb with hb|hb
      ·obtain⟨x,hx,ex⟩:=p5 b hb;exact⟨x,by simp[hx],ex⟩
      ·obtain⟨x,hx,ex⟩:=q5 b hb;exact⟨x,by simp[hx],ex⟩
    ·simp only[a2Q,aR]at hf;exact .cons _ _ _ _ _ _ _ hv p1 (fun t ht=>p7 t ht hf.1) (q7 hf.2)
  ·cases h
theorem Ts{H:bY}{ρ:Nat->Nat}{ds es:aQ}{ms:aa}{vs:bp}{b0:aa}(h:Jz H ds=some (es,ms))(hnd:ms.Nodup)(hr:fk w κ vs ds b0)(hz:∀b∈b0,Θ b=0)
 (hm:∀m∈ms,∀o k rows,H[m]?=some o->o.LW=some (k,rows)->A6 κ Θ ρ w m k rows o.tOf) (e i:Nat:=0):
 ∃bs,p6 w vs es bs/\(∀b∈bs,Θ b=0)/\(Xo H e i ds=true->bs.Nodup/\(∀b∈bs,∃m∈ms,ρ b=m+1)/\yS w (vb e) i vs es bs):=by
 obtain⟨bs,q1,q2,q3,q4⟩:=a1s (f:=vb e) i h hnd hr hz hm;refine⟨bs,q1,q2,fun hq=>?_⟩;simp only[Xo,aR]at hq;obtain⟨p1,p2⟩:=q3 hq.1;refine⟨p1,p2,?_⟩;have h2:=hq.2;split at h2
 ·rename_i hn;exact .of q1 (yy hn)
 ·exact q4 h2
theorem yS.over{w':World}{Θ':Nat->Nat}{tag i:Nat}{f:Nat->Option (TypeId×Nat)}{vs:bp}{ds:aQ}{bs:aa}(h:yS w f i vs ds bs)(k:jU w w' Θ Θ' tag)(hz:∀b∈bs,Θ b=0):yS w' f i vs ds bs:=by
 have:=k.two;exact h.keep fun b hb=>k.block b (h.lt b hb) (by rw[hz b hb];omega)
theorem eN.put(hs:eN Γ st κ Θ a w){H':bY}{κ':Nat->Option Value}{Θ' ρ:Nat->Nat}{w':World}{id:Nat}{o:Ob}(ms:aa)
 (key:∀(j:Nat) x,H'[j]?=some x->(j=id/\x=o)\/(j≠id/\st.H[j]?=some x)) (hn:∀(j:Nat) v,κ j=some v->κ' j=some v)
 (hko:∀i,H'.length<=i->κ' i=none) (hk1:∀(i:Nat) u,κ' i=some u->u.oneCell'=true) (k:jU w w' Θ Θ' (id+2)) (hm:∀b,2<=Θ' b->BB Γ b) (ho:yc w' κ' Θ' id o)
 (hu:BE Γ st.H κ Θ w ρ) (OU:∀m∈ms,∀x,m≠id->st.H[m]?=some x->x.Xn=false)
 (hq:∀e sz rows,o=.row .uq e sz rows->∃v cs bs,κ' id=some v/\w'.ownsRow 0 e sz v rows.length cs/\yS w' (vb e) 0 cs rows.flatten bs/\bs.Nodup/\∀b∈bs,ρ b=id+1\/∃m∈ms,ρ b=m+1)
 (hmv:o.mvB=false:=by first|rfl|exact Ob.T6 _ _ _ _):
 eN Γ ⟨st.σ,H'⟩ κ' Θ' a w':=by
 have w5:=hs.sA k hn hu;let ρ':Nat->Nat:=fun b=>if ms.any (fun m=>ρ b==m+1)then id+1 else ρ b
 have aBr:∀b,ρ' b≠0->ρ b≠0:=by
  intro b hb h0;simp only[ρ',h0]at hb;split at hb
  ·rename_i h;obtain⟨m,_,hm⟩:=eG.1 h;simp at hm
  ·exact hb rfl
 refine hs.step k hm hn hko hk1 ?_ ⟨ρ',fun b hb=>w5.1 b (aBr b hb),?_,?_⟩
 ·intro j x hj;rcases key j x hj with⟨rfl,rfl⟩|⟨h1,h2⟩
  ·exact .inr (.inr ho)
  ·exact .inr (.inl ⟨by omega,h2⟩)
 ·intro j e sz rows hj;rcases key j _ hj with⟨rfl,ho'⟩|⟨h1,h2⟩
  ·obtain⟨v,cs,bs,q1,q2,q3,q4,q5⟩:=hq e sz rows ho'.symm;refine⟨v,cs,bs,q1,q2,q3,q4,fun b hb=>?_⟩;simp only[ρ'];split
   ·rfl
   ·rename_i hno;rcases q5 b hb with h|⟨m,hm1,hm2⟩
    ·exact h
    ·exact absurd (eG.2 ⟨m,hm1,by simp[hm2]⟩) hno
  ·obtain⟨v,cs,bs,q1,q2,q3,q4,q5⟩:=w5.2.1 j e sz rows (by omega) h2;refine⟨v,cs,bs,q1,q2,q3,q4,fun b hb=>?_⟩;simp only[ρ'];rw[b9]
   ·exact q5 b hb
   ·intro h;obtain⟨m,hm1,hm2⟩:=eG.1 h;simp only[q5 b hb,cZ]at hm2;have:j=m:=by omega
    subst this;have:=OU j hm1 _ h1 h2;simp[Ob.Xn]at this
 ·intro j x hj;rcases key j _ hj with⟨rfl,rfl⟩|⟨h1,h2⟩
  ·exact Nb.AI hmv
  ·by_cases hx:x.Xn=false
   ·exact Nb.plain hx
   ·refine(w5.2.2 j x (by omega) h2).re fun b hb=>?_
    simp only[ρ'];rw[b9]
    ·exact hb
    ·intro h;obtain⟨m,hm1,hm2⟩:=eG.1 h;simp only[hb,cZ]at hm2;have:j=m:=by omega
     subst this;exact hx (OU j hm1 _ h1 h2)
theorem Da{H:bY}{o:Ob}:∀(j:Nat) x,(H++[o])[j]?=some x->(j=H.length/\x=o)\/(j≠H.length/\H[j]?=some x):=by
 intro j x hj;by_cases hlt:j<H.length
 ·rw[bA hlt]at hj;exact .inr ⟨by omega,hj⟩
 ·have hj':=(aJ.1 hj).1;simp only[ax,aS,bf]at hj';have e:j=H.length:=by omega
  subst e;rw[bE (bU _)]at hj;simp at hj;exact .inl ⟨rfl,hj.symm⟩
theorem HP{H:bY}{o:Ob}{id:Nat}:∀(j:Nat) x,(H.set id o)[j]?=some x->(j=id/\x=o)\/(j≠id/\H[j]?=some x):=by
 intro j x hj;by_cases e:id=j
 ·subst e;have hlt:id<H.length:=by
   have:=(aJ.1 hj).1;simpa using this
  rw[dR hlt]at hj;cases hj;exact .inl ⟨rfl,rfl⟩
 ·rw[cJ e]at hj;exact .inr ⟨fun h=>e h.symm,hj⟩
theorem eN.newRow(hs:eN Γ st κ Θ a w){ρ:Nat->Nat}(hu:BE Γ st.H κ Θ w ρ){u:Bool}{ms:aa}{e sz cap:Nat}{rows:List aQ}{bs:aa}(cur:Array Value)(hsz:0<sz)(hrl:∀r∈rows,r.length=sz)
 (UA:cur.size=cap*sz) (hn:rows.length<=cap) (hcap:cap<=maxLen) (hr:p6 w (cur.toList.take (rows.length*sz)) rows.flatten bs) (hz:∀b∈bs,Θ b=0)
 (OU:∀m∈ms,∀x,st.H[m]?=some x->x.Xn=false) (hq:u=true->bs.Nodup/\(∀b∈bs,∃m∈ms,ρ b=m+1)/\yS w (vb e) 0 (cur.toList.take (rows.length*sz)) rows.flatten bs):
 eN Γ ⟨st.σ,st.H++[.row (zB u) e sz rows]⟩ (zz κ st.H.length (some (.slice (some ⟨w.heap.size,0,none⟩) rows.length cap))) (fun b=>if b=w.heap.size then st.H.length+2 else Θ b) a (w.alloc (.cells cur e)):=by
 have k:=jU.alloc hs (.cells cur e) (tag:=st.H.length+2) (by omega);obtain⟨h1,h2⟩:=p6.over k hr hz;have hlen:(cur.toList.take (rows.length*sz)).length=rows.length*sz:=by
  have:rows.length*sz<=cap*sz:=er _ hn;have h3:cur.toList.length=cap*sz:=by rw[<-UA];simp
  rw[cE,h3,iK this]
 have hown:(w.alloc (.cells cur e)).ownsRow 0 e sz (.slice (some ⟨w.heap.size,0,none⟩) rows.length cap) rows.length (cur.toList.take (rows.length*sz)):=
  ⟨hlen,.inr ⟨w.heap.size,cap,cur,rfl,by omega,heap_alloc_new w _,hn,hcap,UA,rfl⟩⟩
 refine hs.put ms Da (zM (hs.tR _ (bU _)) _) ?_ ?_ k (hs.B1 (fun b hb=>by by_cases e:b=w.heap.size<;>simp_all)) ?_ hu (fun m hm x _=>OU m hm x) ?_
 ·intro i hi;simp only[ax,aS,bf]at hi;unfold zz;rw[b9 (by omega)];exact hs.tR i (by omega)
 ·intro i x hx;unfold zz at hx;split at hx
  ·cases hx;rfl
  ·exact hs.s9 i x hx
 ·refine⟨hsz,hrl,_,_,bs,by simp[zz],hown,h1,?_,?_⟩
  ·intro g hg;simp only[Value.ownBlock,ay]at hg;subst hg;simp
  ·cases u<;>exact h2
 ·intro e' sz' dw he;cases u with
  |false=>simp[zB]at he
  |true=>
   simp only[zB,Ob.row.injEq,sn]at he;obtain⟨rfl,rfl,rfl⟩:=he;obtain⟨q1,q2,q3⟩:=hq rfl;exact⟨_,_,bs,by simp[zz],hown,q3.over k hz,q1,fun b hb=>.inr (q2 b hb)⟩
theorem Qe{o:Oper}{T e sz t:Nat}{x y:Operand}{k k':IntKind}{n:Int}{zs:aQ}(hop:o.op=.makeSlice T x y)(hd:o.dst=some t)(hg:o.guard=none)(ht:t<Γ.nt)
 (hT:LY P T=some (e,sz)) (hz:tz P e=some zs) (hsz:0<sz) (hx:st.ev x=.int k n) (hy:st.ev y=.int k' n) (h0:0<=n) (hroom:tby P e*n.toNat<=281474976710656) (OT:n.toNat<=4611686018427387904)
 (h:AO P Γ all rest Q ⟨(t,.acc st.H.length)::st.σ,st.H++[.row (zB (WX e)) e sz (List.replicate n.toNat (zs.map D.De))]⟩):AO P Γ all (o::rest) Q st:=by
 intro κ Θ a w hs;obtain⟨b1,r1,_⟩:=hs.ev x;obtain⟨b2,r2,_⟩:=hs.ev y;rw[hx]at r1;rw[hy]at r2;have e1:=r1.uE;have e2:=r2.uE;obtain⟨hu,_,NS⟩:=tU hT;obtain⟨i,z,hi,zy,R7,hlen,hone,rfl⟩:=zH hz;have EO:i.size=sz:=by rw[<-NS];simp[C8,Program.cellsOf,hi]
 have hby:i.bytes=tby P e:=by simp[tby,Program.bytesOf,hi]
 obtain⟨m,rfl⟩:=pE h0;simp only[kH]at hroom OT h;have hrun:=run_make (P:=P) w T e i z hu hi zy k k' m m (by omega) (by omega) (by rw[hby];have:=Int.ofNat_le.2 hroom;rw[Int.natCast_mul]at this;exact this) (by omega);simp only[kH]at hrun;rw[<-R7]at hrun;have Z4:=Oj z.cells m;obtain⟨ρ,huq⟩:=hs.vG;have hrr:p6 w ((madeCells z.cells (m*z.cells.size)).toList.take ((List.replicate m ((z.cells.toList.map D.TG).map D.De)).length*sz)) (List.replicate m ((z.cells.toList.map D.TG).map D.De)).flatten []:=by
  rw[Ep,jV (by simp[size_madeCells,R7,EO]),Z4];have hcell:=(DZ (w:=w) (κ:=κ) z.cells.toList hone).pure (by
   rw[Dm,aj];intro c _;simp only[Function.comp];unfold D.TG;split<;>(try split)<;>rfl)
  exact hcell.soft.rep m
 have hs':=hs.newRow huq (u:=WX e) (ms:=[]) (e:=e) (sz:=sz) (cap:=m) (rows:=List.replicate m ((z.cells.toList.map D.TG).map D.De)) (bs:=[]) (madeCells z.cells (m*z.cells.size)) hsz
  (by intro r hr;rw[CQ hr];simp[R7,EO]) (by rw[size_madeCells,R7,EO]) (by simp) (by unfold maxLen;omega)
  hrr (by simp) (by simp) (fun hq=>⟨by simp,by simp,.of hrr (yy (Dg hq))⟩)
 refine wpList_plain hg fun K hK=>?_
 unfold Oper.wp;have Sn:(execOp a.eval o).run P w=.ok (.value (.slice (some ⟨w.heap.size,0,none⟩) m m)) (w.alloc (.cells (madeCells z.cells (m*z.cells.size)) e)):=by
  simp only[execOp,hop,e1,e2];simp[hrun]
 rw[Sn,Oper.upon_value,hd];simp only[Ep]at hs';refine hK _ _ (h _ _ _ _ (hs'.set (t:=t) (d:=.acc st.H.length) (bs:=[]) ht ?_ (by simp)));exact(Aw.acc st.H.length _ (by simp[zz])).S0
def um(len sz:Nat):List (Nat×Nat):=(List.range len).map fun i=>(i*sz,sz)
def chunk(sz:Nat):Nat->aQ->List aQ
 |0,_=>[]
 |n+1,ds=>ds.take sz::chunk sz n (ds.drop sz)
theorem Fo(sz:Nat):∀(n:Nat) (ds:aQ),ds.length=n*sz->(chunk sz n ds).length=n/\(chunk sz n ds).flatten=ds/\∀r∈chunk sz n ds,r.length=sz:=by
 intro n
 induction n with
 |zero=>intro ds h;simp at h;subst h;simp[chunk]
 |succ n ih=>
  intro ds h;rw[nS,qG]at h;obtain⟨h1,h2,h3⟩:=ih (ds.drop sz) (by rw[lP];omega);refine⟨by simp[chunk,h1],by simp[chunk,h2],fun r hr=>?_⟩;rcases bJ.1 hr with rfl|hr
  ·rw[cE];omega
  ·exact h3 r hr
theorem U6{len sz:Nat}:∀(parts:List (Nat×Value)) (cs arr:Array Value),Instr.fill ((um len sz).toArray[·]?) cs parts=some arr->Instr.fill (fun i=>some (i*sz,sz)) cs parts=some arr:=by
 intro parts
 induction parts with
 |nil=>intro cs arr h;exact h
 |cons p parts ih=>
  intro cs arr h;obtain⟨i,v⟩:=p;simp only[Instr.fill]at h⊢;split at h
  ·cases h
  ·rename_i off size hp;have e:(off,size)=(i*sz,sz):=by
    simp only[um,kN,cF]at hp;cases hr:(List.range len)[i]? with
    |none=>simp[hr]at hp
    |some j=>
     have hj:=(aJ.1 hr)
     simp only[hr,cv,ay]at hp;have:j=i:=by have:=hj.2;simp at this;omega
     rw[<-hp,this]
   cases e;split at h
   ·cases h
   ·rename_i hc;rw[b9 hc];exact ih _ _ h
theorem RX{places:List (Nat×Nat)}:∀(ps:List (Nat×D)) (cells ds:aQ),zm places cells ps=some ds->ds.length=cells.length:=by
 intro ps
 induction ps with
 |nil=>intro cells ds h;simp only[zm,ay]at h;rw[h]
 |cons p ps ih=>
  intro cells ds h;obtain⟨i,d⟩:=p;simp only[zm]at h;split at h
  ·split at h
   ·rename_i hc;rw[ih _ _ h];simp;omega
   ·cases h
  ·cases h
theorem BH{o:Oper}{T e sz len:Nat}{parts:Array (Nat×Operand)}{zs ds:aQ}(hop:o.op=.buildSlice T len parts)
 (hT:LY P T=some (e,sz)) (hz:tz P e=some zs) (hsz:0<sz) (hsmall:len*sz<=16777216)
 (hf:zm (um len sz) (List.replicate len zs).flatten (parts.toList.map fun p=>(p.1,st.ev p.2))=some ds) (hs:eN Γ st κ Θ a w):
 ∃(arr:Array Value) (b0:aa),(execOp a.eval o).run P w=.ok (.value (.slice (some ⟨w.heap.size,0,none⟩) len len)) (w.alloc (.cells arr e))/\fk w κ arr.toList ds b0/\(∀b∈b0,Θ b=0)/\arr.size=len*sz/\ds.length=len*sz:=by
 obtain⟨hu,_,NS⟩:=tU hT;obtain⟨i,z,hi,zy,R7,hlen,hone,rfl⟩:=zH hz;have EO:i.size=sz:=by rw[<-NS];simp[C8,Program.cellsOf,hi]
 have Z4:=Oj z.cells len;have hzero:fk w κ (madeCells z.cells (len*z.cells.size)).toList (List.replicate len (z.cells.toList.map D.TG)).flatten []:=by
  rw[Z4];have hcell:=(DZ (w:=w) (κ:=κ) z.cells.toList hone).pure (by
   rw[Dm,aj];intro c _;simp only[Function.comp];unfold D.TG;split<;>(try split)<;>rfl)
  exact fk.Ei (hcell.rep len)
 obtain⟨arr,b0,a7t,PX,hb0⟩:=VZ hs parts.toList _ _ ds [] hzero (by simp) hf;have UC:=U6 _ _ _ a7t;have hdl:ds.length=len*sz:=by
  rw[RX _ _ _ hf,qO (sz:=sz) (by intro r hr;rw[CQ hr];simp[R7,EO])];simp
 have hal:arr.size=len*sz:=by have:=PX.length;simp at this;omega
 refine⟨arr,b0,?_,PX,hb0,hal,hdl⟩;simp only[execOp,hop];by_cases h0:len*i.size=0
 ·have hl0:len=0:=by
   rw[EO]at h0;rcases Nat.mul_eq_zero.1 h0 with h|h
   ·exact h
   ·omega
  subst hl0;have hma:madeCells z.cells (0*z.cells.size)= #[]:=by simp[madeCells]
  rw[hma]at UC;have hpe:(parts.map fun(x:Nat×Operand)=>(x.1,a.eval x.2)).toList=parts.toList.map fun p=>(p.1,a.eval p.2):=by simp
  have Yv:=UC;rw[<-hpe,<-EO]at Yv;simp at Yv;have hr0:Array.range 0= #[]:=rfl;simp[Instr.buildSlice,run_underlying hu,sizeOf,typeInfo,hi,newRow,hr0,Yv]
 ·have hpe:(parts.map fun(x:Nat×Operand)=>(x.1,a.eval x.2)).toList=parts.toList.map fun p=>(p.1,a.eval p.2):=by simp
  have:=run_buildSlice (P:=P) w T e len (parts.map fun(x:Nat×Operand)=>(x.1,a.eval x.2)) arr i z hu hi zy (by rw[EO];omega) h0 (by
   rw[hpe,EO];have e2:(Array.range (len*sz)).map (z.cells[· %z.cells.size]!)=madeCells z.cells (len*z.cells.size):=by unfold madeCells;rw[R7,EO]
   rw[e2];exact UC)
  simp[this]
theorem PS{o:Oper}{T e sz len t:Nat}{parts:Array (Nat×Operand)}{zs ds es:aQ}{ms:aa}(hop:o.op=.buildSlice T len parts)(hd:o.dst=some t)(hg:o.guard=none)(ht:t<Γ.nt)
 (hT:LY P T=some (e,sz)) (hz:tz P e=some zs) (hsz:0<sz) (hsmall:len*sz<=16777216)
 (hf:zm (um len sz) (List.replicate len zs).flatten (parts.toList.map fun p=>(p.1,st.ev p.2))=some ds) (habs:Jz st.H ds=some (es,ms)) (hnd:ms.Nodup)
 (h:AO P Γ all rest Q ⟨(t,.acc st.H.length)::st.σ,kill st.H ms++[.row (zB (Xo st.H e 0 ds)) e sz (chunk sz len es)]⟩):AO P Γ all (o::rest) Q st:=by
 intro κ Θ a w hs;obtain⟨arr,b0,hrun,PX,hb0,hal,hdl⟩:=BH hop hT hz hsz hsmall hf hs;obtain⟨ρ,huq⟩:=hs.vG;obtain⟨Θ1,ρ1,hs1,hu1,hm1,Pe,X4⟩:=eN.T5 ms hs huq hnd (SA habs);obtain⟨bs,q1,q2,q3⟩:=Ts (H:=st.H) (ρ:=ρ1) habs hnd PX (fun b hb=>Pe b (hb0 b hb)) hm1 e 0;have hel:es.length=len*sz:=by rw[<-q1.length,PX.length,hdl]
 obtain⟨c1,c2,c3⟩:=Fo sz len es hel;have hs':=hs1.newRow hu1 (u:=Xo st.H e 0 ds) (ms:=ms) (e:=e) (sz:=sz) (cap:=len) (rows:=chunk sz len es) (bs:=bs) arr hsz c3 hal (by rw[c1];exact bU _)
  (by unfold maxLen;have:len*1<=len*sz:=dJ _ hsz;omega) (by rw[c1,c2,jV (by simp[hal])];exact q1) q2
  (by
   intro m hm x hH;rcases pz hH with h|⟨h,_⟩
   ·subst h;rfl
   ·exact absurd hm h) (fun hq=>⟨(q3 hq).1,(q3 hq).2.1,by rw[c1,c2,jV (by simp[hal])];exact(q3 hq).2.2⟩)
 refine wpList_plain hg fun K hK=>?_
 unfold Oper.wp;rw[hrun,Oper.upon_value,hd];rw[c1,gx]at hs';refine hK _ _ (h _ _ _ _ (hs'.set (t:=t) (d:=.acc st.H.length) (bs:=[]) ht ?_ (by simp)));exact(Aw.acc st.H.length _ (by simp[zz])).S0
end
section
variable{P:Program}{Γ:vn}{Q:Exit->St->Prop}{st:St}{κ:Nat->Option Value}{Θ:Nat->Nat}{a:Act}{w:World}{all:Array Oper}{rest:List Oper}
theorem NX(w:World)(t ty e:TypeId)(i:TypeInfo)(ht:P.underlying t=some (.slice e))(hi:P.info? e=some i)(b:Option Addr)(n cap:Nat)(hn:n<=cap):
 (Builtin.append_ #[t,t] ty #[.slice b n cap,.slice none 0 0]).run P w=.ok (.slice b n cap) w:=by
 cases b<;>simp[Builtin.append_,run_underlying ht,sizeOf,typeInfo,hi,Builtin.lenOf,Builtin.firstCells,hn,storeCells]
structure YI(w:World)(Θ ρ:Nat->Nat)(e sz:Nat)(v:Value)(rows:List (List D))(u1:Bool)(i1:Nat)(bs:List Nat)(cs:List Value):Prop where
 rl:∀r∈rows,r.length=sz
 own:w.ownsRow 0 e sz v rows.length cs
 rd:p6 w cs rows.flatten bs
 zero:∀b∈bs,Θ b=0
 top:∀g,v.ownBlock=some g->Θ g=i1+2
 uq:u1=true->bs.Nodup/\∀b∈bs,ρ b=i1+1
 ful:u1=true->yS w (vb e) 0 cs rows.flatten bs
structure Qh(w:World)(Θ ρ:Nat->Nat)(e sz:Nat)(u:Value)(rows:List (List D))(u2:Bool)(i2:Nat)(bs:List Nat)(cs:List Value):Prop where
 rl:∀r∈rows,r.length=sz
 at_:(u=.slice none 0 0/\rows=[])\/∃ad c,u=.slice (some ad) rows.length c/\∀j x,cs[j]?=some x->w.cell? (ad.add j)=some x
 rd:p6 w cs rows.flatten bs
 zero:∀b∈bs,Θ b=0
 uq:u2=true->bs.Nodup/\∀b∈bs,ρ b=i2+1
 ful:u2=true->yS w (vb e) 0 cs rows.flatten bs
theorem Tv{T e sz i1 i2:Nat}{v u:Value}{rows fT:List aQ}{u1 u2:Bool}{b1 b2:aa}{c1 c2:bp}{ρ:Nat->Nat}{zs:aQ}{ty:TypeId}(hT:LY P T=some (e,sz))(hz:tz P e=some zs)(hsz:0<sz)
 (hS:YI w Θ ρ e sz v rows u1 i1 b1 c1) (hX:Qh w Θ ρ e sz u fT u2 i2 b2 c2) (h63:rows.length+fT.length<=maxLen) (hby:(rows.length+fT.length)*tby P e<=140737488355328):
 ∃v' w',(Builtin.append_ #[T,T] ty #[v,u]).run P w=.ok v' w'/\w'.ownsRow 0 e sz v' (rows++fT).length (c1++c2)/\w.grownBy w' v.ownBlock/\(v'.ownBlock=v.ownBlock\/v'.ownBlock=some w.heap.size)/\
  p6 w (c1++c2) (rows++fT).flatten (b1++b2):=by
 obtain⟨hu,_,NS⟩:=tU hT;obtain⟨i,z,hi,zy,R7,hlen,hone,rfl⟩:=zH hz;have EO:i.size=sz:=by rw[<-NS];simp[C8,Program.cellsOf,hi]
 have hib:i.bytes=tby P e:=by simp[tby,Program.bytesOf,hi]
 have hr:p6 w (c1++c2) (rows++fT).flatten (b1++b2):=by rw[jt];exact hS.rd.app hX.rd
 have Bi:c2.length=fT.length*sz:=by rw[hX.rd.length,qO hX.rl]
 rcases hX.at_ with⟨rfl,rfl⟩|⟨ad,c,rfl,hcell⟩
 ·have hc:c2=[]:=cc (by simpa using Bi);subst hc;have hv:∃b n cap,v=.slice b n cap/\n<=cap:=by
   rcases hS.own.2 with⟨rfl,_⟩|⟨g,cap,cur,rfl,_,_,hn,_⟩
   ·exact⟨_,_,_,rfl,bU _⟩
   ·exact⟨_,_,_,rfl,hn⟩
  obtain⟨b,n,cap,rfl,hn⟩:=hv;exact⟨_,w,NX w T ty e i hu hi b n cap hn,by simpa using hS.own,⟨rfl,rfl,rfl,bU _,fun _ _ _=>rfl⟩,.inl rfl,hr⟩
 ·obtain⟨v',w',q1,q2,q3,_,q5⟩:=run_append_own_at (P:=P) w 0 T ty e i z sz (tby P e) hu hi zy EO hib (by rw[R7,EO]) hsz v rows.length c1 hS.own ad fT.length c c2 Bi hcell hX.rd.one h63 hby (Fg _);exact⟨v',w',q1,by simpa using q2,q3,q5,hr⟩
theorem Wd{o:Oper}{T e sz t:Nat}{s x:Operand}{rows fT:List aQ}{zs:aQ}{u:Bool}{ks:aa}(hop:o.op=.call {callee:=.builtin .append,args:= #[s,x],argTypes:= #[T,T]})
 (hd:o.dst=some t) (hg:o.guard=none) (ht:t<Γ.nt) (hT:LY P T=some (e,sz)) (hz:tz P e=some zs) (hsz:0<sz)
 (h63:rows.length+fT.length<=maxLen) (hby:(rows.length+fT.length)*tby P e<=140737488355328)
 (hin:∀κ Θ a w ρ,eN Γ st κ Θ a w->BE Γ st.H κ Θ w ρ->∃u1 u2 i1 i2 b1 b2 c1 c2,YI w Θ ρ e sz (a.eval s) rows u1 i1 b1 c1/\Qh w Θ ρ e sz (a.eval x) fT u2 i2 b2 c2/\
  (i1∈ks\/i1=st.H.length)/\(u=true->u1=true/\u2=true/\(b2=[]\/(i2∈ks/\i1≠i2))/\Wz e sz=true))
 (h:AO P Γ all rest Q ⟨(t,.acc st.H.length)::st.σ,kill st.H ks++[.row (zB u) e sz (rows++fT)]⟩):AO P Γ all (o::rest) Q st:=by
 intro κ Θ a w hs;obtain⟨ρ,hu⟩:=hs.vG;obtain⟨u1,u2,i1,i2,b1,b2,c1,c2,hS,hX,hi1,hq⟩:=hin κ Θ a w ρ hs hu;obtain⟨v',w',hrun,hown,hgr,Mt,hrd⟩:=Tv (P:=P) (ty:=o.type) hT hz hsz hS hX h63 hby;refine wpList_plain hg fun K hK=>?_
 have Sn:(execOp a.eval o).run P w=.ok (.value v') w':=by
  simp only[execOp,hop,resolve,invoke,builtin,Sem.run_bind,Sem.run_pure,Result.andThen_ok,sj,au,bg,hrun]
 unfold Oper.wp;rw[Sn,Oper.upon_value,hd];let id:=st.H.length
 let Θ':Nat->Nat:=fun b=>if some b=v'.ownBlock then id+2 else Θ b
 have hvt:∀g,v'.ownBlock=some g->Θ g=i1+2\/g=w.heap.size:=by
  intro g X2;rcases Mt with h|h
  ·exact .inl (hS.top g (h▸X2))
  ·rw[h]at X2;cases X2;exact .inr rfl
 have hnew:Θ w.heap.size=0:=by
  cases h0:Θ w.heap.size with
  |zero=>rfl
  |succ n=>exact absurd (hs.own w.heap.size (by omega)) (by omega)
 have k:jU w w' Θ Θ' (i1+2):=by
  refine⟨by omega,hgr.os,hgr.tape,hgr.output,hgr.size,fun b hb hne=>hgr.block b hb (fun e=>hne (hS.top b e.symm)),fun b hb hne=>?_,fun b hb=>?_⟩
  ·simp only[Θ'];rw[b9];intro e;rcases hvt b e.symm with h|h
   ·exact hne h
   ·omega
  ·simp only[Θ']at hb;split at hb
   ·rename_i e;exact(hown.lt b e.symm).2
   ·exact eC (hs.own b hb) hgr.size
 have hm:∀b,2<=Θ' b->BB Γ b:=by
  intro b hb;simp only[Θ']at hb;split at hb
  ·rename_i e;rcases hvt b e.symm with h|h
   ·exact hs.mine b (by omega)
   ·exact .inl (by rw[h];exact hs.base)
  ·exact hs.mine b hb
 have hn:=zM (hs.tR id (bU _)) (some v');have hv1:v'.oneCell'=true:=by
  rcases hown.2 with⟨rfl,_⟩|⟨g,cap,cur,rfl,_⟩<;>rfl
 have zy:∀b∈b1++b2,Θ b=0:=by
  intro b hb;rcases aZ.1 hb with hb|hb
  ·exact hS.zero b hb
  ·exact hX.zero b hb
 obtain⟨Pc,Pd⟩:=p6.over k hrd zy;have hrl:∀r∈rows++fT,r.length=sz:=by
  intro r hr;rcases aZ.1 hr with hr|hr
  ·exact hS.rl r hr
  ·exact hX.rl r hr
 have Gp:∀g,v'.ownBlock=some g->Θ' g=id+2:=fun g X2=>by simp only[Θ'];rw[bL X2.symm]
 have key:∀(j:Nat) y,(kill st.H ks++[.row (zB u) e sz (rows++fT)])[j]?=some y->(j=id/\y=.row (zB u) e sz (rows++fT))\/(j≠id/\(y=.gone\/(j∉ks/\st.H[j]?=some y))):=by
  intro j y hj;rcases Da j y hj with⟨h1,h2⟩|⟨h1,h2⟩
  ·rw[gx]at h1;exact .inl ⟨h1,h2⟩
  ·rw[gx]at h1;exact .inr ⟨h1,pz h2⟩
 have hne:∀(j:Nat) y,j∉ks->st.H[j]?=some y->j+2≠i1+2:=by
  intro j y hj hy;have:=(aJ.1 hy).1;rcases hi1 with h|h
  ·intro e;exact hj (by
    have:j=i1:=by omega
    rw[this];exact h)
  ·omega
 have w5:=hs.sA k hn hu;let ρ':Nat->Nat:=fun b=>if u=true/\(b∈b1\/b∈b2)then id+1 else ρ b
 have hold:∀(j:Nat) y,j∉ks->st.H[j]?=some y->∀b,ρ b=j+1->ρ' b=j+1:=by
  intro j y hjk hy b hb;simp only[ρ'];rw[b9]
  ·exact hb
  ·rintro⟨zK,hmem⟩;obtain⟨p1,p2,p3,_⟩:=hq zK;rcases hmem with h|h
   ·have:=(hS.uq p1).2 b h;exact hne j _ hjk hy (by omega)
   ·have:=(hX.uq p2).2 b h;rcases p3 with h0|⟨h0,_⟩
    ·rw[h0]at h;cases h
    ·have:j=i2:=by omega
     subst this;exact hjk h0
 have hU:BE Γ (kill st.H ks++[.row (zB u) e sz (rows++fT)]) (zz κ id (some v')) Θ' w' ρ':=by
  refine⟨fun b hb=>?_,fun j e' sz' dw hj=>?_,fun j x hj=>?_⟩
  ·simp only[ρ']at hb;split at hb
   ·rename_i hc;obtain⟨zK,hmem⟩:=hc;obtain⟨q1,q2,q3,_⟩:=hq zK;rcases hmem with h|h
    ·exact w5.1 b (by rw[(hS.uq q1).2 b h];omega)
    ·exact w5.1 b (by rw[(hX.uq q2).2 b h];omega)
   ·exact w5.1 b hb
  ·rcases key j _ hj with⟨rfl,hy⟩|⟨_,hy|⟨hjk,hy⟩⟩
   ·cases zK:u with
    |false=>rw[zK]at hy;simp[zB]at hy
    |true=>
     rw[zK]at hy;simp only[zB,Ob.row.injEq,sn]at hy;obtain⟨rfl,rfl,rfl⟩:=hy;obtain⟨q1,q2,q3,q8⟩:=hq zK;have hF:yS w (vb e') 0 (c1++c2) (rows++fT).flatten (b1++b2):=by
      rw[jt];refine(hS.ful q1).app ?_;rw[qO hS.rl];exact(hX.ful q2).rows q8
     refine⟨v',c1++c2,b1++b2,nA _ _ _,hown,hF.over k zy,?_,fun b hb=>?_⟩
     ·obtain⟨n1,r1⟩:=hS.uq q1;obtain⟨n2,r2⟩:=hX.uq q2;refine bW.2 ⟨n1,n2,fun y hy z hz hyz=>?_⟩;subst hyz;rcases q3 with h|⟨_,h⟩
      ·rw[h]at hz;cases hz
      ·have:=r1 y hy;have:=r2 y hz;omega
     ·simp only[ρ'];rw[bL ⟨zK,aZ.1 hb⟩]
   ·cases hy
   ·obtain⟨v2,cs,bs,q1,q2,q3,q4,q5⟩:=w5.2.1 j e' sz' dw (hne j _ hjk hy) hy;exact⟨v2,cs,bs,q1,q2,q3,q4,fun b hb=>hold j _ hjk hy b (q5 b hb)⟩
  ·rcases key j _ hj with⟨rfl,hy⟩|⟨_,hy|⟨hjk,hy⟩⟩
   ·subst hy;exact Nb.AI (Ob.T6 _ _ _ _)
   ·subst hy;trivial
   ·exact(w5.2.2 j x (hne j _ hjk hy) hy).re fun b hb=>hold j _ hjk hy b hb
 have hs':eN Γ ⟨st.σ,kill st.H ks++[.row (zB u) e sz (rows++fT)]⟩ (zz κ id (some v')) Θ' a w':=by
  refine hs.step k hm hn ?_ ?_ ?_ ⟨ρ',hU⟩
  ·intro i hi;simp only[ax,aS,bf,gx]at hi;unfold zz;rw[b9 (by omega)];exact hs.tR i (by omega)
  ·intro i y hy;unfold zz at hy;split at hy
   ·cases hy;exact hv1
   ·exact hs.s9 i y hy
  ·intro j y hj;rcases key j y hj with⟨rfl,rfl⟩|⟨_,hy|⟨hjk,hy⟩⟩
   ·exact .inr (.inr ⟨hsz,hrl,v',_,_,nA _ _ _,hown,Pc,Gp,by cases u<;>exact Pd⟩)
   ·exact .inl hy
   ·exact .inr (.inl ⟨hne j y hjk hy,hy⟩)
 refine hK _ _ (h _ _ _ _ (hs'.set (t:=t) (d:=.acc id) (bs:=[]) ht ?_ (by simp)));exact(Aw.acc id _ (nA _ _ _)).S0
def D.iN(rows:List aQ):Bool:=rows.all fun r=>r.all D.flat
theorem p6.flat{vs:bp}{ds:aQ}{bs:aa}(h:p6 w vs ds bs)(hf:ds.all D.flat=true):bs=[]:=by
 induction ds generalizing vs bs with
 |nil=>cases h;rfl
 |cons d ds ih=>
  simp only[dP,aR]at hf;cases h with
  |cons v vs _ _ b1 b2 h1 h2 h3=>rw[h2.flat hf.1,ih h3 hf.2];rfl
theorem YP{e sz i1:Nat}{ρ:Nat->Nat}:YI w Θ ρ e sz (.slice none 0 0) [] true i1 [] []:=
 ⟨by simp,World.ownsRow_nil w 0 e sz,.nil,by simp,by simp[Value.ownBlock],by simp,fun _=>.nil _⟩
theorem K3{ρ:Nat->Nat}(hs:eN Γ st κ Θ a w)(hu:BE Γ st.H κ Θ w ρ){id e sz:Nat}{k:RK}{rows:List aQ}{v:Value}(hk:κ id=some v)(hH:st.H[id]?=some (.row k e sz rows))(ho:k.RV=true):
 ∃bs cs,YI w Θ ρ e sz v rows k.ub id bs cs:=by
 obtain⟨_,hrl,v2,cs,bs,hk2,hown,vL,hΘ,hz⟩:=hs.ob id _ hH;rw[hk]at hk2;cases hk2;cases k with
 |cl=>simp[RK.RV]at ho
 |sh=>exact⟨bs,cs,hrl,hown,vL,hz,hΘ,by simp[RK.ub],by simp[RK.ub]⟩
 |mv n=>exact⟨bs,cs,hrl,hown,vL,hz,hΘ,by simp[RK.ub],by simp[RK.ub]⟩
 |ho p n=>
  obtain⟨v2,c2,b2,q1,q2,q3,q4,q5,_⟩:=hu.more id _ hH;rw[hk]at q1;cases q1;exact⟨b2,c2,hrl,q2,q3.rd,fun b hb=>(hu.free b (by rw[q5 b hb];omega)).1,hΘ,fun _=>⟨q4,q5⟩,fun _=>q3⟩
 |uq=>
  obtain⟨v2,c2,b2,q1,q2,q3,q4,q5⟩:=hu.rows id e sz rows hH;rw[hk]at q1;cases q1;exact⟨b2,c2,hrl,q2,q3.rd,fun b hb=>(hu.free b (by rw[q5 b hb];omega)).1,hΘ,fun _=>⟨q4,q5⟩,fun _=>q3⟩
theorem SD{ρ:Nat->Nat}(hs:eN Γ st κ Θ a w)(hu:BE Γ st.H κ Θ w ρ){id e sz:Nat}{k:RK}{rows:List aQ}{v:Value}(hk:κ id=some v)(hH:st.H[id]?=some (.row k e sz rows))(ho:k.RV=true):
 ∃bs cs,Qh w Θ ρ e sz v rows k.ub id bs cs:=by
 obtain⟨bs,cs,h⟩:=K3 hs hu hk hH ho;refine⟨bs,cs,h.rl,?_,h.rd,h.zero,h.uq,h.ful⟩;rcases h.own.2 with⟨rfl,hn⟩|⟨g,cap,cur,rfl,_⟩
 ·exact .inl ⟨rfl,cc hn⟩
 ·exact .inr ⟨_,cap,rfl,h.own.cells (g:=g) (by simp[Value.ownBlock])⟩
theorem Qh.sh{e e' sz:Nat}{ρ:Nat->Nat}{u:Value}{rows:List aQ}{i:Nat}{bs:aa}{cs:bp}(h:Qh w Θ ρ e' sz u rows false i bs cs):Qh w Θ ρ e sz u rows false i bs cs:=
 ⟨h.rl,h.at_,h.rd,h.zero,h.uq,by simp⟩
theorem YQ{e sz i2:Nat}{ρ:Nat->Nat}:Qh w Θ ρ e sz (.slice none 0 0) [] true i2 [] []:=
 ⟨by simp,.inl ⟨rfl,rfl⟩,.nil,by simp,by simp,fun _=>.nil _⟩
theorem a1v{ρ:Nat->Nat}{v:Value}{rows:List aQ}{bs:aa}{sz:Nat}(h:Rd w v (.sl rows) bs)(hz:∀b∈bs,Θ b=0)(hrl:∀r∈rows,r.length=sz)(i2:Nat)(fl:Bool)(hf:fl=true->D.iN rows=true)(e:Nat)(he:fl=true->Ms e=none):
 ∃b2 cs,Qh w Θ ρ e sz v rows fl i2 b2 cs/\(fl=true->b2=[]):=by
 cases h with
 |zq=>exact⟨[],[],⟨by simp,.inl ⟨rfl,rfl⟩,.nil,by simp,by simp,fun _=>.nil _⟩,by simp⟩
 |qn ad cap hc=>exact⟨[],[],⟨by simp,.inr ⟨ad,cap,rfl,by simp⟩,.nil,by simp,by simp,fun _=>.nil _⟩,by simp⟩
 |sl b off cap sz' _ cs bs' h0 h1 h2 h3 h4 h5=>
  have hfl:fl=true->bs'=[]:=fun e=>h5.flat (by
   have:=hf e;unfold D.iN at this;rw[aj]at this⊢;intro d hd;obtain⟨r,hr,OQ⟩:=qP.1 hd;exact aj.1 (this r hr) d OQ)
  refine⟨bs',cs,⟨hrl,.inr ⟨_,cap,rfl,fun j x hj=>?_⟩,h5,fun y hy=>hz y (by simp[hy]),fun e=>by rw[hfl e];simp,fun e=>.of h5 (yy (he e))⟩,hfl⟩;have:=h4 j x hj;simpa[Addr.add_lit]using this
end
section
variable{P:Program}{Γ:vn}{Q:Exit->St->Prop}{st:St}{κ:Nat->Option Value}{Θ:Nat->Nat}{a:Act}{w:World}{all:Array Oper}{rest:List Oper}
theorem kG{H:bY}{ms:aa}{j:Nat}(h:j∉ms):(kill H ms)[j]?=H[j]?:=by
 induction ms generalizing H with
 |nil=>rfl
 |cons m ms ih=>
  simp only[bJ,Fi]at h;simp only[kill];rw[ih h.2,cJ (fun e=>h.1 e.symm)]
def RK.after(k:RK)(b:Bool):RK:=match k with
 | .uq=>zB b
 | .mv _=>.sh
 | .ho _ _=>zB b
 |k=>k
theorem RK.Wi(k:RK)(b:Bool)(e:TypeId)(sz:Nat)(rows:List aQ):(Ob.row (k.after b) e sz rows).mvB=false:=by cases k<;>cases b<;>rfl
theorem S2{o:Oper}{T id i sz off e:Nat}{k0:RK}{x y:Operand}{rows:List aQ}{row ds es:aQ}{ms:aa}(hop:o.op=.store T x y)(hd:o.dst=none)(hg:o.guard=none)
 (hx:st.ev x=.op id i sz off) (hH:st.H[id]?=some (.row k0 e sz rows)) (hk0:k0.RV=true) (hrow:rows[i]?=some row) (hc:(st.ev y).cellsOf=some ds) (habs:Jz st.H ds=some (es,ms)) (hnd:ms.Nodup) (hid:id∉ms)
 (hT:Uy P T=true) (hl:ds.length=C8 P T) (hfit:off+ds.length<=sz)
 (h:AO P Γ all rest Q ⟨st.σ,(kill st.H ms).set id (.row (k0.after (Xo st.H e off ds&&Wz e sz)) e sz (rows.set i (row.take off++es++row.drop (off+ds.length))))⟩):AO P Γ all (o::rest) Q st:=by
 intro κ Θ0 a w hs0;obtain⟨b1,r1,_⟩:=hs0.ev x;obtain⟨b20,r2,aBq⟩:=hs0.ev y;rw[hx]at r1;obtain⟨g,o0,len,cap,hk,hv⟩:=r1.Ow;have hcv:=Fm hs0.s9 r2 hc;obtain⟨ρ0,hu0⟩:=hs0.vG;obtain⟨Θ,ρ,hs,hu,hm1,Pe,X4⟩:=eN.T5 ms hs0 hu0 hnd (SA habs);obtain⟨b2,hcp,UR,Ju⟩:=Ts (H:=st.H) (ρ:=ρ) habs hnd hcv (fun b hb=>Pe b (aBq b hb)) hm1 e off;have PO:(kill st.H ms)[id]?=some (.row k0 e sz rows):=by rw[kG hid];exact hH
 obtain⟨bs,cs,hA⟩:=K3 hs hu hk PO hk0;have hrl:=hA.rl;have hown:=hA.own;have Y3:=Ap hown;subst Y3;rw[cS]at hv;have vL:=hA.rd;have hsz:0<sz:=by
  obtain⟨hsz,_⟩:=hs.ob id _ PO;exact hsz
 rcases hown.2 with⟨vz,_⟩|⟨g',cap2,cur,hkv,hb,R2,hnc,hcm,hcs,Sq⟩
 ·cases vz
 ·cases hkv;have R9:=hA.top g (by simp[Value.ownBlock]);have hl1:=hcv.length;have hle:es.length=ds.length:=by rw[<-hcp.length,hl1]
  have hilt:i<rows.length:=(aJ.1 hrow).1;have aBC:(i+1)*sz<=rows.length*sz:=er _ hilt;have aEB:rows.length*sz<=cap*sz:=er _ hnc;rw[nS,qG]at aBC;have aBf:(a.eval y).cells.size=C8 P T:=by rw[<-hl,<-hl1];simp
  have aEN:(a.eval y).cells.size=ds.length:=by rw[<-hl1];simp
  have hst:=NC (P:=P) (T:=T) (off:=i*sz+off) R2 aBf (iP.1 hT) (by omega) hcv.one;have k:=jU.setRow hs (g:=g) (cs:=(cur.toList.take (i*sz+off)++(a.eval y).cells.toList++cur.toList.drop (i*sz+off+(a.eval y).cells.toList.length)).toArray) (tag:=id+2) (by omega) R9;refine wpList_plain hg fun K hK=>?_
  unfold Oper.wp;have hrun:(execOp a.eval o).run P w=.ok .skip (w.setRow g (cur.toList.take (i*sz+off)++(a.eval y).cells.toList++cur.toList.drop (i*sz+off+(a.eval y).cells.toList.length)).toArray):=by
   simp only[execOp,hop,hv];simp[hst]
  rw[hrun,Oper.upon_skip,hd];have hfl:=qO hrl;have e0:rows.flatten=rows.flatten.take (i*sz+off)++((rows.flatten.drop (i*sz+off)).take ds.length++(rows.flatten.drop (i*sz+off)).drop ds.length):=by rw[cO,cO]
  rw[e0]at vL;obtain⟨v1,v2,c1,c2,NT,Nk,k1,k2⟩:=vL.split;obtain⟨v3,v4,c3,c4,rfl,rfl,k3,k4⟩:=k2.split;have l1:v1.length=i*sz+off:=by rw[k1.length,cE];omega
  have l3:v3.length=ds.length:=by rw[k3.length,cE,lP];omega
  rw[iy]at k4;have hnew:=(k1.app hcp).app k4;have Pd:∀b∈((c1++b2)++c4),Θ b=0:=by
   intro b hb;simp only[aZ]at hb;rcases hb with(hb|hb)|hb
   ·exact hA.zero b (by rw[Nk];simp[hb])
   ·exact UR b hb
   ·exact hA.zero b (by rw[Nk];simp[hb])
  obtain⟨n1,n2⟩:=p6.over k hnew Pd;have hfs:=Mr (ds:=es) (off:=off) hrl hrow (by omega);rw[hle]at hfs;rw[<-hfs]at n1;have Ys:cs.length=rows.length*sz:=hown.1;have a7q:cur.toList=v1++(v3++(v4++cur.toList.drop (rows.length*sz))):=by
   have:cur.toList=cs++cur.toList.drop (rows.length*sz):=by rw[<-Sq,cO]
   rw[NT]at this;simpa using this
  have t1:cur.toList.take (i*sz+off)=v1:=by rw[a7q];exact kY l1
  have t2:cur.toList.drop (i*sz+off+(a.eval y).cells.toList.length)=v4++cur.toList.drop (rows.length*sz):=by
   rw[hl1,<-iy]
   conv=>lhs;rw[a7q]
   rw[jP l1,jP l3]
  have hl4:(v1++(a.eval y).cells.toList++v4).length=rows.length*sz:=by
   have:=Ys;rw[NT]at this;simp only[ax]at this⊢;omega
  have Eg:(w.setRow g (cur.toList.take (i*sz+off)++(a.eval y).cells.toList++cur.toList.drop (i*sz+off+(a.eval y).cells.toList.length)).toArray).ownsRow 0 e sz (.slice (some ⟨g,0,none⟩) rows.length cap)
   (rows.set i (row.take off++es++row.drop (off+ds.length))).length (v1++(a.eval y).cells.toList++v4):=by
   refine⟨by simpa using hl4,.inr ⟨g,cap,_,by simp,hb,setRow_heap w g cur _ e _ R2,by simpa using hnc,hcm,?_,?_⟩⟩
   ·simp only[xm,ax,cE,lP,wL];omega
   ·rw[t1,t2];simp only[jQ];rw[<-cy];exact kY hl4
  have OV:∀r∈rows.set i (row.take off++es++row.drop (off+ds.length)),r.length=sz:=by
   intro r hr;rcases qx hr with hr|rfl
   ·exact hrl r hr
   ·have:=hrl row (aE hrow);simp;omega
  have Gp:∀g2,(Value.slice (some ⟨g,0,none⟩) rows.length cap).ownBlock=some g2->Θ g2=id+2:=by
   intro g2 Yx;simp only[Value.ownBlock,ay]at Yx;subst Yx;exact R9
  refine hK _ _ (h _ _ _ _ (hs.put ms HP (fun _ _ h=>h) (fun i hi=>hs.tR i (by simpa using hi)) hs.s9 k hs.mine ?_ hu ?_ ?_ (RK.Wi _ _ _ _ _)))
  ·refine⟨hsz,OV,_,_,_,hk,Eg,n1,Gp,?_⟩;cases k0 with
   |cl=>simp[RK.RV]at hk0
   |sh=>exact n2
   |mv n=>exact n2
   |ho p n=>simp only[RK.after];cases(Xo st.H e off ds&&Wz e sz)<;>exact n2
   |uq=>simp only[RK.after];cases(Xo st.H e off ds&&Wz e sz)<;>exact n2
  ·intro m hm x _ FV;rcases pz FV with h|⟨h,_⟩
   ·subst h;rfl
   ·exact absurd hm h
  ·intro e' sz' dw he;cases k0
   case cl=>simp[RK.RV]at hk0
   case sh=>simp[RK.after]at he
   case mv n=>simp[RK.after]at he
   all_goals
    simp only[RK.after]at he;cases hq:(Xo st.H e off ds&&Wz e sz)with
    |false=>rw[hq]at he;simp[zB]at he
    |true=>
     rw[hq]at he;simp only[zB,Ob.row.injEq,sn]at he;obtain⟨rfl,rfl,rfl⟩:=he;rw[aR]at hq;obtain⟨q1,q2,q7⟩:=Ju hq.1;obtain⟨p1,p2⟩:=hA.uq rfl;have hA7:=hA.ful rfl;rw[e0]at hA7;obtain⟨x1,x2,y1,y2,ex,ey,s1,s2⟩:=hA7.split;obtain⟨x3,x4,y3,y4,rfl,rfl,s3,s4⟩:=s2.split;rw[NT]at ex;obtain⟨rfl,ex2⟩:=List.append_inj ex (by rw[s1.length,k1.length]);obtain⟨rfl,rfl⟩:=List.append_inj ex2 (by rw[s3.length,k3.length]);have t1':(rows.flatten.take (i*sz+off)).length=i*sz+off:=by rw[<-k1.length];exact l1
     have t3':((rows.flatten.drop (i*sz+off)).take ds.length).length=ds.length:=by rw[<-k3.length];exact l3
     rw[iy]at s4;have q8:=q7.rows (n:=i) hq.2;have hF:=(s1.app (by rw[t1'];rwa[show 0+(i*sz+off)=off+i*sz by omega])).app (us:=v4) (es:=rows.flatten.drop (i*sz+off+ds.length)) (cs:=y4) (by rw[ax,t1',hle];rwa[t1',t3',mR]at s4);rw[<-hfs]at hF;have hz7:∀b∈((y1++b2)++y4),Θ b=0:=by
      intro b hb;simp only[aZ]at hb;rcases hb with(hb|hb)|hb
      ·exact hA.zero b (by rw[ey];simp[hb])
      ·exact UR b hb
      ·exact hA.zero b (by rw[ey];simp[hb])
     refine⟨_,_,_,hk,Eg,hF.over k hz7,?_,fun b hb=>?_⟩
     all_goals rw[ey]at p1 p2
     all_goals obtain⟨m1,m2,m3⟩:=bW.1 p1
     all_goals obtain⟨m4,m5,m6⟩:=bW.1 m2
     ·refine bW.2 ⟨bW.2 ⟨m1,q1,fun x hx y hy e=>?_⟩,m5,fun x hx y hy e=>?_⟩
      ·subst e;obtain⟨m,hm,he⟩:=q2 x hy;have:=p2 x (by simp[hx]);exact hid (by
        have:id=m:=by omega
        rw[this];exact hm)
      ·subst e;rcases aZ.1 hx with hx|hx
       ·exact m3 x hx x (by simp[hy]) rfl
       ·obtain⟨m,hm,he⟩:=q2 x hx;have:=p2 x (by simp[hy]);exact hid (by
         have:id=m:=by omega
         rw[this];exact hm)
     ·simp only[aZ]at hb;rcases hb with(hb|hb)|hb
      ·exact .inl (p2 b (by simp[hb]))
      ·exact .inr (q2 b hb)
      ·exact .inl (p2 b (by simp[hb]))
end
end Go.Cx
