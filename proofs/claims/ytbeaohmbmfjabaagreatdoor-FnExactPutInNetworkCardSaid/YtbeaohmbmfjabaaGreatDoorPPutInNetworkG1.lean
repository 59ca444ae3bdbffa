/- The core of an abstract reading of Go's data: what a value shows in memory (D), which blocks it uses, and that this stays where those blocks stay. No condition; plain lemmas. -/
import Derived.WalkKit
import Derived.ProofKit
import Derived.Deep.LoopGhost
import Derived.MapKept
import Derived.Great.BuildSlice
import Derived.Maps.AppendAt
set_option linter.unusedVariables false
set_option linter.unusedSimpArgs false
namespace Go.Cx
open Go.RowKit
set_option linter.defProp false
def aA:=@Option.bind_some
def aC:=@List.mem_of_getElem?
def aH:=@List.getElem?_eq_some_iff
def aL:=@List.length_cons
def aW:=@cond_true
def aX:=@List.length_append
def aY:=@Bool.and_eq_true
def aZ:=@List.length_map
def af:=@cond_false
def ai:=@List.getElem?_eq_getElem
def ar:=@List.mem_append
def ax:=@Option.some.injEq
def b9:=@decide_eq_false
def bA:=@List.getElem?_append_left
def bB:=@List.all_eq_true
def bE:=@List.getElem?_append_right
def bG:=@if_neg
def bH:=@List.map_cons
def bI:=@decide_eq_true_eq
def bK:=@List.length_nil
def bL:=@Array.getElem?_eq_some_iff
def bM:=@List.mem_cons
def bN:=@List.nodup_append
def bP:=@Bool.not_true
def bQ:=@if_pos
def bR:=@Nat.le_refl
def bS:=@List.map_append
def bU:=@decide_eq_true
def bX:=@List.map_nil
def bY:=@List.append_assoc
def bZ:=@List.length_set
def bp:=@Bool.eq_iff_iff
def bq:=@List.mem_range
def bt:=@of_decide_eq_true
def c8:=@List.getElem?_map
def cC:=@List.take_append_drop
def cD:=@List.mem_flatMap
def cE:=@List.mem_filterMap
def cF:=@List.getElem?_set_ne
def cG:=@List.mem_of_mem_take
def cH:=@List.nil_append
def cI:=@List.mem_map
def cJ:=@List.getElem?_take
def cM:=@List.length_take
def cN:=@List.append_nil
def cO:=@Array.getD_eq_getD_getElem?
def cQ:=@Bool.not_false
def cR:=@Array.getElem?_eq_getElem
def cS:=@Nat.le_trans
def cU:=@Prod.mk.injEq
def cZ:=@Option.map_some
def cc:=@List.eq_nil_of_length_eq_zero
def cj:=@beq_iff_eq
def ck:=@List.getElem?_eq_none
def cm:=@List.getElem?_of_mem
def cq:=@Nat.zero_add
def cw:=@beq_self_eq_true
def dF:=@beq_eq_false_iff_ne
def dG:=@List.all_cons
def dJ:=@List.singleton_append
def dK:=@List.flatMap_cons
def dN:=@List.any_eq_true
def dO:=@List.cons_append
def dQ:=@List.getElem?_set_self
def dR:=@List.map_take
def dS:=@Nat.mul_le_mul_right
def dY:=@List.mem_flatten
def dZ:=@List.mem_reverse
def dh:=@Nat.add_sub_cancel_left
def dl:=@List.map_drop
def e9:=@List.foldl_cons
def eA:=@List.getElem?_drop
def eC:=@List.mem_singleton
def eD:=@Nat.lt_of_lt_of_le
def eN:=@Nat.mul_le_mul_left
def eO:=@Nat.lt_or_ge
def eP:=@List.mem_iff_getElem
def eR:=@Option.isSome_iff_exists
def eT:=@List.flatten_cons
def ed:=@List.getElem?_cons_succ
def fA:=@List.nodup_cons
def fB:=@Nat.min_eq_left
def fL:=@Bool.true_and
def fU:=@List.length_singleton
def fm:=@List.drop_left'
def fo:=@List.mem_filter
def fp:=@Array.getElem?_append_left
def gE:=@List.getElem?_set
def gF:=@bne_self_eq_false
def gI:=@List.mem_of_mem_drop
def gj:=@List.drop_drop
def j7:=@List.take_left'
def jA:=@Array.toList_map
def jP:=@Classical.byContradiction
def k8:=@List.pairwise_cons
def kV:=@Array.toArray_toList
def kW:=@Nat.add_mul
def kX:=@Prod.mk.inj
def lN:=@List.getD_eq_getElem?_getD
def lP:=@Option.mem_toList
def lq:=@Array.toList_append
def lz:=@List.flatten_append
def mB:=@List.map_congr_left
def mY:=@List.drop_eq_getElem_cons
def mc:=@List.getElem?_toArray
def me:=@List.set_append_right
def nj:=@List.getLast?_concat
def nk:=@Nat.one_mul
def o5:=@Int.eq_ofNat_of_zero_le
def o6:=@Int.toNat_natCast
def o7:=@List.ext_getElem?
def o8:=@Option.bind_eq_some_iff
def o9:=@decide_eq_false_iff_not
def oX:=@Bool.or_eq_true
def p6:=@List.drop_eq_nil_of_le
def p7:=@List.take_of_length_le
def p8:=@Nat.sub_self
def pJ:=@Bool.false_or
def pR:=@List.map_toArray
def qR:=@List.length_filter_le
def qY:=@Array.mapM_eq_mapM_toList
def qd:=@Option.some.inj
def qp:=@Bool.not_eq_true'
def qt:=@List.map_map
def rK:=@List.length_erase_of_mem
def rL:=@Nat.add_assoc
def s9:=@if_true
def sG:=@List.filter_cons_of_neg
def sH:=@List.filter_cons_of_pos
def sI:=@List.not_mem_nil
def tY:=@Array.getElem?_eq_none
def tZ:=@Ne.symm
def uj:=@Bool.and_true
def uk:=@Bool.or_false
def ul:=@List.any_cons
def vG:=@Array.getElem?_toList
def vf:=@List.take_take
def vg:=@Nat.pow_le_pow_right
def vh:=@true_and
def wS:=@Array.toList_inj
def wT:=@List.length_drop
def wh:=@List.exists_mem_of_ne_nil
def wq:=@Array.length_toList
def wu:=@List.take_succ_cons
def xe:=@Array.all_eq_true'
def xf:=@List.filter_filter
def xg:=@Nat.lt_or_gt_of_ne
def yQ:=@Bool.and_false
def yR:=@List.filter_congr
def yS:=@Nat.lt_trichotomy
def yT:=@Nat.pow_succ
def yp:=@Array.getElem?_modify
def yq:=@List.concat_eq_append
def yt:=@List.eq_nil_or_concat
def yu:=@Nat.le_of_ble_eq_true
def zI:=@Bool.not_eq_true
def zJ:=@List.eq_nil_iff_forall_not_mem
def zK:=@Option.getD_some
def zL:=@eq_iff_iff
def zY:=@List.cons.inj
def zg:=@List.Pairwise.filter
def AP:=@List.cons.injEq
def AQ:=@Nat.not_lt_zero
def AR:=@Option.map_none
def Ag:=@List.filterMap_cons
def Ah:=@List.replicate_succ
def B2:=@Nat.add_zero
def B3:=@Nat.sub_zero
def BS:=@Array.getElem_append_right
def BT:=@Bool.false_eq_true
def BU:=@Nat.add_sub_cancel
def CC:=@Array.getElem_append_left
def CD:=@List.mem_or_eq_of_mem_set
def CR:=@List.any_eq_false
def CS:=@List.size_toArray
def CT:=@decide_true
def Ch:=@List.eq_of_mem_replicate
def Ci:=@List.getElem?_take_of_lt
def DA:=@List.getElem?_cons_zero
def DB:=@List.getElem_mem
def DC:=@List.nodup_range
def DD:=@Nat.le_mul_of_pos_right
def DE:=@if_false
def Dy:=@Int.le_of_lt
def Dz:=@Int.le_trans
def E0:=@List.all_map
def E1:=@List.drop_of_length_le
def E2:=@List.getElem_cons_drop
def E3:=@List.length_pos_of_mem
def E4:=@Nat.mul_comm
def E5:=@Option.map_eq_some_iff
def Ew:=@Int.ediv_nonneg
def F5:=@Bool.and_eq_false_iff
def F6:=@Int.ediv_lt_of_lt_mul
def F7:=@List.length_replicate
def F8:=@List.pairwise_flatMap
def F9:=@UInt8.lt_iff_toNat_lt
def G2:=@List.drop_zero
def G3:=@List.mapM_cons
def G4:=@Nat.mul_le_mul
def G5:=@Nat.zero_le
def G6:=@or_false
def K3:=@Nat.mul_assoc
def KP:=@not_or
def MB:=@List.any_nil
def MC:=@Nat.succ_mul
abbrev Bytes:=List UInt8
inductive D where
 |any
 |nil
 |int (k:IntKind) (n:Int)
 |bool (b:Bool)
 |str (s:Bytes)
 |sl (rows:List (List D))
 |agg (cells:List D)
 |iF (vs:List D)
 |ep (row:List D) (off:Nat)
 |acc (id:Nat)
 |ptr (id off:Nat)
 |op (id i sz off:Nat)
 |val (v:Value)
 |fr (e:TypeId) (sz:Nat) (rows:List (List D))
 |pt (cells:List D)
 |ifc (b:Bool)
def tU(k:IntKind)(n:Int):Prop:=k.min<=n/\n<=k.max
instance (k:IntKind) (n:Int):Decidable (tU k n):=by unfold tU;infer_instance
theorem tU.wrap(k:IntKind)(n:Int):tU k (k.wrap n):=by
 unfold tU;cases k<;>simp[IntKind.min,IntKind.max,IntKind.wrap,IntKind.bits,IntKind.signed]<;>(try split)<;>omega
theorem tU.i64{n:Int}:tU .i64 n↔ -9223372036854775808<=n/\n<=9223372036854775807:=by
 simp[tU,IntKind.min,IntKind.max,IntKind.bits,IntKind.signed]
theorem tU.u8{n:Int}:tU .u8 n↔0<=n/\n<=255:=by
 simp[tU,IntKind.min,IntKind.max,IntKind.bits,IntKind.signed]
theorem tU.zero(k:IntKind):tU k 0:=by
 unfold tU;cases k<;>simp[IntKind.min,IntKind.max,IntKind.bits,IntKind.signed]
theorem tU.down{k:IntKind}{n m:Int}(h:tU k n)(h0:0<=m)(h1:m<=n):tU k m:=
 ⟨Dz (tU.zero k).1 h0,Dz h1 h.2⟩
mutual
inductive Rd(w:World):Value->D->List Nat->Prop
 |any (v:Value):Rd w v .any []
 |nil:Rd w (.slice none 0 0) .nil []
 |int (k:IntKind) (n:Int):tU k n->Rd w (.int k n) (.int k n) []
 |bool (b:Bool):Rd w (.bool b) (.bool b) []
 |str (s:ByteArray):s.size<=maxLen->Rd w (.string s) (.str s.data.toList) []
 |val (v:Value):Rd w v (.val v) []
 |B1:Rd w (.slice none 0 0) (.sl []) []
 |pH (a:Addr) (cap:Nat):cap<=maxLen->Rd w (.slice (some a) 0 cap) (.sl []) []
 |sl (b off cap sz:Nat) (rows:List (List D)) (cs:List Value) (bs:List Nat):b<w.heap.size->rows.length<=cap->cap<=maxLen->
  (∀r∈rows,r.length=sz)->(∀j c,cs[j]?=some c->w.cell? ⟨b,off+j,none⟩=some c)->mS w cs rows.flatten bs->
  Rd w (.slice (some ⟨b,off,none⟩) rows.length cap) (.sl rows) (b::bs)
 |agg (cs:List Value) (ds:List D) (bs:List Nat):mS w cs ds bs->Rd w (.agg cs.toArray) (.agg ds) bs
 |ep (b off:Nat) (cs:List Value) (row:List D) (o:Nat) (bs:List Nat):b<w.heap.size->(∀j c,cs[j]?=some c->w.cell? ⟨b,off+j,none⟩=some c)->
  mS w cs row bs->Rd w (.pointer (some ⟨b,off+o,none⟩)) (.ep row o) (b::bs)
 |ZS:Rd w .nilIface (.ifc false) []
 |ZT (t:TypeId) (v:Value):Rd w (.iface t v) (.ifc true) []
inductive mS(w:World):List Value->List D->List Nat->Prop
 |nil:mS w [] [] []
 |cons (v:Value) (vs:List Value) (d:D) (ds:List D) (b1 b2:List Nat):v.oneCell'=true->Rd w v d b1->mS w vs ds b2->mS w (v::vs) (d::ds) (b1++b2)
end
section
variable{w w':World}
theorem DJ{b o:Nat}(h:w'.heap[b]?=w.heap[b]?):w'.cell? ⟨b,o,none⟩=w.cell? ⟨b,o,none⟩:=World.cell?_of_block (a:=⟨b,o,none⟩) h
theorem NW{b:Nat}(hb:b<w.heap.size)(h:w'.heap[b]?=w.heap[b]?):b<w'.heap.size:=by
 rw[cR hb]at h;exact(bL.1 h).1
theorem SF:
 (∀ {v d bs},Rd w v d bs->(∀b∈bs,w'.heap[b]?=w.heap[b]?)->Rd w' v d bs)/\
 (∀ {vs ds bs},mS w vs ds bs->(∀b∈bs,w'.heap[b]?=w.heap[b]?)->mS w' vs ds bs):=by
 have key:∀(m1:∀v d bs,Rd w v d bs->Prop) (m2:∀vs ds bs,mS w vs ds bs->Prop),
  m1=(fun v d bs _=>(∀b∈bs,w'.heap[b]?=w.heap[b]?)->Rd w' v d bs)->m2=(fun vs ds bs _=>(∀b∈bs,w'.heap[b]?=w.heap[b]?)->mS w' vs ds bs)->
  (∀v d bs h,m1 v d bs h)/\(∀vs ds bs h,m2 vs ds bs h):=by
  intro m1 m2 e1 e2;subst e1;subst e2;constructor
  all_goals intro v d bs h
  ·refine Rd.rec (motive_1:=fun v d bs _=>(∀b∈bs,w'.heap[b]?=w.heap[b]?)->Rd w' v d bs) (motive_2:=fun vs ds bs _=>(∀b∈bs,w'.heap[b]?=w.heap[b]?)->mS w' vs ds bs) ?_ ?_ ?_ ?_ ?_ ?_ ?_ ?_ ?_ ?_ ?_ ?_ ?_ ?_ ?_ h
   ·intro v _;exact .any _
   ·intro _;exact .nil
   ·intro k n h _;exact .int _ _ h
   ·intro b _;exact .bool _
   ·intro s h _;exact .str _ h
   ·intro v _;exact .val _
   ·intro _;exact .B1
   ·intro a cap h _;exact .pH a cap h
   ·intro b off cap sz rows cs bs h0 h1 h2 h3 h4 _ ih hb;exact .sl b off cap sz rows cs bs (NW h0 (hb b (by simp))) h1 h2 h3 (fun j c hc=>(DJ (hb b (by simp))).trans (h4 j c hc)) (ih (fun x hx=>hb x (by simp[hx])))
   ·intro cs ds bs _ ih hb;exact .agg cs ds bs (ih hb)
   ·intro b off cs row o bs h0 h4 _ ih hb;exact .ep b off cs row o bs (NW h0 (hb b (by simp))) (fun j c hc=>(DJ (hb b (by simp))).trans (h4 j c hc)) (ih (fun x hx=>hb x (by simp[hx])))
   ·intro _;exact .ZS
   ·intro t v _;exact .ZT t v
   ·intro _;exact .nil
   ·intro v vs d ds b1 b2 h1 _ _ ih1 ih2 hb;exact .cons v vs d ds b1 b2 h1 (ih1 (fun x hx=>hb x (by simp[hx]))) (ih2 (fun x hx=>hb x (by simp[hx])))
  ·refine mS.rec (motive_1:=fun v d bs _=>(∀b∈bs,w'.heap[b]?=w.heap[b]?)->Rd w' v d bs) (motive_2:=fun vs ds bs _=>(∀b∈bs,w'.heap[b]?=w.heap[b]?)->mS w' vs ds bs) ?_ ?_ ?_ ?_ ?_ ?_ ?_ ?_ ?_ ?_ ?_ ?_ ?_ ?_ ?_ h
   ·intro v _;exact .any _
   ·intro _;exact .nil
   ·intro k n h _;exact .int _ _ h
   ·intro b _;exact .bool _
   ·intro s h _;exact .str _ h
   ·intro v _;exact .val _
   ·intro _;exact .B1
   ·intro a cap h _;exact .pH a cap h
   ·intro b off cap sz rows cs bs h0 h1 h2 h3 h4 _ ih hb;exact .sl b off cap sz rows cs bs (NW h0 (hb b (by simp))) h1 h2 h3 (fun j c hc=>(DJ (hb b (by simp))).trans (h4 j c hc)) (ih (fun x hx=>hb x (by simp[hx])))
   ·intro cs ds bs _ ih hb;exact .agg cs ds bs (ih hb)
   ·intro b off cs row o bs h0 h4 _ ih hb;exact .ep b off cs row o bs (NW h0 (hb b (by simp))) (fun j c hc=>(DJ (hb b (by simp))).trans (h4 j c hc)) (ih (fun x hx=>hb x (by simp[hx])))
   ·intro _;exact .ZS
   ·intro t v _;exact .ZT t v
   ·intro _;exact .nil
   ·intro v vs d ds b1 b2 h1 _ _ ih1 ih2 hb;exact .cons v vs d ds b1 b2 h1 (ih1 (fun x hx=>hb x (by simp[hx]))) (ih2 (fun x hx=>hb x (by simp[hx])))
 obtain⟨k1,k2⟩:=key _ _ rfl rfl;exact⟨fun h=>k1 _ _ _ h,fun h=>k2 _ _ _ h⟩
theorem Rd.keep{v:Value}{d:D}{bs:List Nat}(h:Rd w v d bs)(hb:∀b∈bs,w'.heap[b]?=w.heap[b]?):Rd w' v d bs:=SF.1 h hb
theorem mS.keep{vs:List Value}{ds:List D}{bs:List Nat}(h:mS w vs ds bs)(hb:∀b∈bs,w'.heap[b]?=w.heap[b]?):mS w' vs ds bs:=SF.2 h hb
theorem Rd.lt{v:Value}{d:D}{bs:List Nat}(h:Rd w v d bs):∀b∈bs,b<w.heap.size:=by
 refine Rd.rec (motive_1:=fun v d bs _=>∀b∈bs,b<w.heap.size) (motive_2:=fun vs ds bs _=>∀b∈bs,b<w.heap.size) ?_ ?_ ?_ ?_ ?_ ?_ ?_ ?_ ?_ ?_ ?_ ?_ ?_ ?_ ?_ h
 case refine_9=>
  intro b off cap sz rows cs bs h0 h1 h2 h3 h4 _ ih x hx;rcases bM.1 hx with rfl|hx
  ·exact h0
  ·exact ih x hx
 case refine_10=>intro cs ds bs _ ih;exact ih
 case refine_11=>
  intro b off cs row o bs h0 h4 _ ih x hx;rcases bM.1 hx with rfl|hx
  ·exact h0
  ·exact ih x hx
 case refine_15=>
  intro v vs d ds b1 b2 h1 _ _ ih1 ih2 x hx;rcases ar.1 hx with hx|hx
  ·exact ih1 x hx
  ·exact ih2 x hx
 all_goals intros;simp_all
theorem mS.lt{vs:List Value}{ds:List D}{bs:List Nat}(h:mS w vs ds bs):∀b∈bs,b<w.heap.size:=by
 induction ds generalizing vs bs with
 |nil=>cases h;simp
 |cons d ds ih=>
  cases h with
  |cons v vs _ _ b1 b2 h1 h2 h3=>
   intro x hx;rcases ar.1 hx with hx|hx
   ·exact h2.lt x hx
   ·exact ih h3 x hx
theorem mS.length{vs:List Value}{ds:List D}{bs:List Nat}(h:mS w vs ds bs):vs.length=ds.length:=by
 induction ds generalizing vs bs with
 |nil=>cases h;rfl
 |cons d ds ih=>cases h with|cons v vs _ _ b1 b2 h1 h2 h3=>simp[ih h3]
theorem mS.one{vs:List Value}{ds:List D}{bs:List Nat}(h:mS w vs ds bs):∀v∈vs,v.oneCell'=true:=by
 induction ds generalizing vs bs with
 |nil=>cases h;simp
 |cons d ds ih=>
  cases h with
  |cons v vs _ _ b1 b2 h1 h2 h3=>
   intro u hu;rcases bM.1 hu with rfl|hu
   ·exact h1
   ·exact ih h3 u hu
theorem mS.app{vs us:List Value}{ds es:List D}{bs cs:List Nat}(h:mS w vs ds bs)(k:mS w us es cs):mS w (vs++us) (ds++es) (bs++cs):=by
 induction ds generalizing vs bs with
 |nil=>cases h;simpa using k
 |cons d ds ih=>
  cases h with
  |cons v vs _ _ b1 b2 h1 h2 h3=>
   rw[bY];exact .cons _ _ _ _ _ _ h1 h2 (ih h3)
theorem mS.split{vs:List Value}{ds es:List D}{bs:List Nat}(h:mS w vs (ds++es) bs):
 ∃v1 v2 b1 b2,vs=v1++v2/\bs=b1++b2/\mS w v1 ds b1/\mS w v2 es b2:=by
 induction ds generalizing vs bs with
 |nil=>exact⟨[],vs,[],bs,by simp,by simp,.nil,h⟩
 |cons d ds ih=>
  cases h with
  |cons v vs _ _ b1 b2 h1 h2 h3=>
   obtain⟨v1,v2,c1,c2,rfl,rfl,k1,k2⟩:=ih h3;exact⟨v::v1,v2,b1++c1,c2,by simp,by simp,.cons _ _ _ _ _ _ h1 h2 k1,k2⟩
theorem mS.mid{vs:List Value}{ds:List D}{bs:List Nat}(h:mS w vs ds bs)(i n:Nat):
 ∃b,mS w ((vs.drop i).take n) ((ds.drop i).take n) b/\∀x∈b,x∈bs:=by
 have e:ds=ds.take i++((ds.drop i).take n++(ds.drop i).drop n):=by rw[cC,cC]
 rw[e]at h;obtain⟨v1,v2,b1,b2,rfl,rfl,k1,k2⟩:=h.split;obtain⟨v3,v4,b3,b4,rfl,rfl,k3,k4⟩:=k2.split;refine⟨b3,?_,by intro x hx;simp[hx]⟩;have l1:=k1.length;have l3:=k3.length;by_cases hi:i<=ds.length
 ·have h1:v1.length=i:=by rw[l1];simp[hi]
  rw[fm h1];by_cases hn:n<=(ds.drop i).length
  ·have h3:v3.length=n:=by rw[l3,cM];omega
   rw[j7 h3];exact k3
  ·have h4:v4.length=0:=by rw[k4.length];simp at hn⊢;omega
   have h4':v4=[]:=cc h4;subst h4';have h3:v3.length<=n:=by rw[l3,cM];omega
   simp only[cN];rw[p7 h3];exact k3
 ·have h5:ds.drop i=[]:=p6 (by omega);rw[h5]at k3 k4⊢;simp only[List.take_nil,List.drop_nil]at k3 k4⊢;cases k3;cases k4;have h1:v1.length<=i:=by rw[l1];simp;omega
  simp[E1 h1];exact .nil
theorem mS.at{vs:List Value}{ds:List D}{bs:List Nat}(h:mS w vs ds bs){i:Nat}{d:D}(hd:ds[i]?=some d):
 ∃v b,vs[i]?=some v/\v.oneCell'=true/\Rd w v d b/\∀x∈b,x∈bs:=by
 induction ds generalizing vs bs i with
 |nil=>simp at hd
 |cons e ds ih=>
  cases h with
  |cons v vs _ _ b1 b2 h1 h2 h3=>
   cases i with
   |zero=>simp at hd;subst hd;exact⟨v,b1,by simp,h1,h2,by intro x hx;simp[hx]⟩
   |succ i=>
    simp at hd;obtain⟨u,b,k1,k2,k3,k4⟩:=ih h3 hd;exact⟨u,b,by simpa using k1,k2,k3,fun x hx=>by simp[k4 x hx]⟩
end
theorem pO{α:Type}{rows:List (List α)}{sz:Nat}(h:∀r∈rows,r.length=sz):rows.flatten.length=rows.length*sz:=by
 induction rows with
 |nil=>simp
 |cons r rows ih=>
  simp only[eT,aX,aL];rw[ih (fun x hx=>h x (by simp[hx])),h r (by simp),kW];omega
theorem Hg{α:Type}{rows:List (List α)}{sz:Nat}(h:∀r∈rows,r.length=sz){i:Nat}{r:List α}(hr:rows[i]?=some r):
 (rows.flatten.drop (i*sz)).take sz=r:=by
 induction rows generalizing i with
 |nil=>simp at hr
 |cons s rows ih=>
  have hs:=h s (by simp);cases i with
  |zero=>
   simp at hr;subst hr;simp only[Nat.zero_mul,G2,eT];exact j7 hs
  |succ i=>
   simp only[ed]at hr;have:=ih (fun x hx=>h x (by simp[hx])) hr;rw[eT,kW,nk,Nat.add_comm,<-gj,fm hs];exact this
end Go.Cx
namespace Go.Cx
open Go.RowKit
abbrev aJ:=List Bytes
abbrev aS:=List D
abbrev aa:=List Nat
abbrev bJ:=List Int
abbrev br:=List Value
def AJ:List (Nat×(br->Prop)):=[(3,fun cs:br=>cs=[.int .u64 1,.int .u64 10,.int .u64 100,.int .u64 1000,.int .u64 10000,.int .u64 100000,.int .u64 1000000,.int .u64 10000000,.int .u64 100000000,.int .u64 1000000000,.int .u64 10000000000,.int .u64 100000000000,.int .u64 1000000000000,.int .u64 10000000000000,.int .u64 100000000000000,.int .u64 1000000000000000,.int .u64 10000000000000000,.int .u64 100000000000000000,.int .u64 1000000000000000000,.int .u64 10000000000000000000]),(1,fun cs:br=>∃tp p,cs=[Value.iface tp p])]
def VsB(w:World)(B:Nat->Prop):Prop:=∀x∈AJ,B x.1/\∃cs t z,w.heap[x.1]?=some (.cells cs t z)/\x.2 cs.toList
def Sp(w:World)(X:Nat->Prop):Prop:=∃B:Nat->Prop,VsB w B/\∀b,B b->b<w.heap.size/\¬X b
def Tz:List (Nat×aS):=[]
def a5X(g:Nat)(ds:aS):Prop:=∃p,(g,p)∈AJ/\∀cs:br,p cs->∀(o:Nat) d,ds[o]?=some d->∃v,cs[o]?=some v/\∀w,Rd w v d []
theorem Xg:∀x∈Tz,a5X x.1 x.2:=by intro x hx;cases hx
def Yq(g o:Nat):Option D:=(Tz.find? fun x=>x.1==g).bind fun x=>x.2[o]?
theorem a3O{g o:Nat}{d:D}(h:Yq g o=some d):∃ds,a5X g ds/\ds[o]?=some d:=by
 unfold Yq at h;cases hf:Tz.find? fun x=>x.1==g with
 |none=>rw[hf]at h;cases h
 |some x=>
  rw[hf,aA]at h;have h1:=List.find?_some hf;have h2:=List.mem_of_find?_eq_some hf;have e:x.1=g:=by simpa using h1
  exact⟨x.2,by rw[<-e];exact Xg x h2,h⟩
theorem VsB.stays{w w':World}{B:Nat->Prop}(h:VsB w B)(hb:∀b,B b->w'.heap[b]?=w.heap[b]?):VsB w' B:=fun x hx=>by
 obtain⟨h1,cs,t,z,h2,h3⟩:=h x hx;exact⟨h1,cs,t,z,by rw[hb _ h1,h2],h3⟩
theorem Sp.cells{w:World}{X:Nat->Prop}(h:Sp w X){g:Nat}{p:br->Prop}(hx:(g,p)∈AJ):∃cs t z,w.heap[g]?=some (.cells cs t z)/\p cs.toList:=by
 obtain⟨B,h1,h2⟩:=h;exact(h1 _ hx).2
theorem Sp.var{P:Program}{w:World}{X:Nat->Prop}(h:Sp w X){g:Nat}{p:br->Prop}{name:String}(hx:(g,p)∈AJ)(hg:P.globalNamed name=some g):∃cs,w.var? P name=some cs/\p cs.toList:=by
 obtain⟨cs,t,z,h1,h2⟩:=h.cells hx;refine⟨cs,?_,h2⟩;unfold World.var?;rw[hg,aA,h1]
theorem Sp.a7w{P:Program}{w:World}(hs:∀x∈AJ,∃name cs,P.globalNamed name=some x.1/\w.var? P name=some cs/\x.2 cs.toList):Sp w fun _=>False:=by
 refine⟨fun b=>b∈AJ.map Prod.fst,fun x hx=>?_,fun b hb=>?_⟩
 ·obtain⟨name,cs,h1,h2,h3⟩:=hs x hx;unfold World.var? at h2;rw[h1,aA]at h2;refine⟨cI.2 ⟨x,hx,rfl⟩,?_⟩;split at h2
  ·rename_i cs' t z h4;cases h2;exact⟨_,t,z,h4,h3⟩
  ·cases h2
 ·obtain⟨x,hx,rfl⟩:=cI.1 hb;obtain⟨name,cs,h1,h2,h3⟩:=hs x hx;unfold World.var? at h2;rw[h1,aA]at h2;refine⟨?_,id⟩;split at h2
  ·rename_i cs' t z h4;exact(bL.1 h4).1
  ·cases h2
end Go.Cx
namespace Go.Cx
open Go.RowKit
structure vY where
 W0:World
 Θ0:Nat->Nat
 X:Nat->Prop
 nt:Nat
 U:Nat->Prop
 vs:Sp W0 X
inductive RK where
 |sh
 |uq
 |cl
 |mv (n:Nat)
def RK.TY:RK->Bool
 | .cl=>false
 |_=>true
def RK.hand:RK->Bool
 | .sh=>true
 | .uq=>true
 |_=>false
inductive Ob where
 |box (cells:aS)
 |PW (cells:aS) (v:Value)
 |row (k:RK) (e:TypeId) (sz:Nat) (rows:List aS)
 |fD (sz:Nat) (rows:List aS) (v:Option Value)
 |hole (sz:Nat) (rows:List aS) (v:Option Value) (p n:Nat)
 |mp (kv:List (D×D))
 |tk (rows:List aS)
 |gone
def Ob.ZD:Ob->Option aS
 | .box c=>some c
 | .PW c _=>some c
 |_=>none
def Ob.re(o:Ob)(c:aS):Ob:=match o with
 | .PW _ v=>.PW c v
 |_=>.box c
structure St where
 σ:List (Nat×D)
 H:List Ob
def lk:List (Nat×D)->Nat->D
 | [],_=>.any
 | (t,d)::r,n=>if n=t then d else lk r n
def D.X6:Value->D
 | .bool b=>.bool b
 | .int k n=>if tU k n then .int k n else .val (.int k n)
 | .string s=>if s.size<=maxLen then .str s.data.toList else .val (.string s)
 | .slice none 0 0=>.nil
 |v=>.val v
def St.ev(st:St):Operand->D
 | .tmp t=>lk st.σ t
 | .const v=>D.X6 v
 | .global g=>.val (.pointer (some ⟨g,0,none⟩))
 | .func f=>.val (.func (.func f) #[] #[])
def St.set(st:St)(t:Nat)(d:D):St:=⟨(t,d)::st.σ,st.H⟩
def St.put(st:St)(t:Option Nat)(d:D):St:=match t with|some t=>st.set t d|none=>st
inductive BM(w:World)(κ:Nat->Option Value):Value->D->List Nat->Prop
 |pure {v:Value} {d:D} {bs:aa}:Rd w v d bs->BM w κ v d bs
 |acc (id:Nat) (v:Value):κ id=some v->BM w κ v (.acc id) []
 |ptr (id off b:Nat):κ id=some (.pointer (some ⟨b,0,none⟩))->BM w κ (.pointer (some ⟨b,off,none⟩)) (.ptr id off) []
 |op (id i sz off b o0 len cap:Nat):κ id=some (.slice (some ⟨b,o0,none⟩) len cap)->BM w κ (.pointer (some ⟨b,o0+(i*sz+off),none⟩)) (.op id i sz off) []
inductive fM(w:World)(κ:Nat->Option Value):List Value->List D->List Nat->Prop
 |nil:fM w κ [] [] []
 |cons (v:Value) (vs:br) (d:D) (ds:aS) (b1 b2:aa):v.oneCell'=true->BM w κ v d b1->fM w κ vs ds b2->fM w κ (v::vs) (d::ds) (b1++b2)
inductive Pz(w:World)(κ:Nat->Option Value):Value->D->List Nat->Prop
 |cell {v:Value} {d:D} {bs:aa}:BM w κ v d bs->Pz w κ v d bs
 |agg (cs:br) (ds:aS) (bs:aa):fM w κ cs ds bs->Pz w κ (.agg cs.toArray) (.agg ds) bs
inductive E8(w:World)(κ:Nat->Option Value):List Value->List D->List Nat->Prop
 |nil:E8 w κ [] [] []
 |cons (v:Value) (vs:br) (d:D) (ds:aS) (b1 b2:aa):Pz w κ v d b1->E8 w κ vs ds b2->E8 w κ (v::vs) (d::ds) (b1++b2)
inductive td(w:World)(κ:Nat->Option Value):Value->D->List Nat->Prop
 |v {v:Value} {d:D} {bs:aa}:Pz w κ v d bs->td w κ v d bs
 |iF (vs:br) (ds:aS) (bs:aa):E8 w κ vs ds bs->td w κ (.tuple vs.toArray) (.iF ds) bs
theorem td.of{w:World}{κ:Nat->Option Value}{v:Value}{d:D}{bs:aa}(h:Rd w v d bs):td w κ v d bs:=.v (.cell (.pure h))
def Wr(w:World)(b:Nat):Prop:=∃cs T,w.heap[b]?=some (.cells cs T (0,0))
def RdH(w:World)(κ:Nat->Option Value)(v:Value)(rows:List aS)(p n:Nat)(bs:aa):Prop:=
 ∃b off cap cs ns,v=.slice (some ⟨b,off,none⟩) rows.length cap/\b<w.heap.size/\rows.length<=cap/\cap<=maxLen/\(∀j c,cs[j]?=some c->w.cell? ⟨b,off+j,none⟩=some c)/\mS w cs rows.flatten ns/\bs=b::ns/\
  ∃c,cs[p]?=some c/\κ n=some c
def Ai(w:World)(es:List MapEntry)(kv:List (D×D)):Prop:=
 es.length=kv.length/\∀(j:Nat) e p,es[j]?=some e->kv[j]?=some p->Rd w e.key p.1 []/\Rd w e.val p.2 []
theorem Ai.stay{w w':World}{es:List MapEntry}{kv:List (D×D)}(h:Ai w es kv):Ai w' es kv:=
 ⟨h.1,fun j e p h1 h2=>⟨(h.2 j e p h1 h2).1.keep (by simp),(h.2 j e p h1 h2).2.keep (by simp)⟩⟩
def yV(w:World)(κ:Nat->Option Value)(Θ:Nat->Nat)(id:Nat):Ob->Prop
 | .box cells=>∃g cs T,κ id=some (.pointer (some ⟨g,0,none⟩))/\w.heap[g]?=some (.cells cs T (0,0))/\Θ g=id+2/\
  ∃bs,fM w κ cs.toList cells bs/\∀b∈bs,Θ b=0
 | .PW cells u=>κ id=some u/\∃g cs T,κ id=some (.pointer (some ⟨g,0,none⟩))/\w.heap[g]?=some (.cells cs T (0,0))/\Θ g=id+2/\
  ∃bs,fM w κ cs.toList cells bs/\∀b∈bs,Θ b=0
 | .row k e sz rows=>0<sz/\(∀r∈rows,r.length=sz)/\∃v cs bs,κ id=some v/\w.ownsRow 0 e sz v rows.length cs/\mS w cs rows.flatten bs/\
  (∀g,v.ownBlock=some g->Θ g=id+2)/\
  (match k with
   | .cl=>bs.Nodup/\(∀b∈bs,Θ b=id+2/\Wr w b)/\∀g,v.ownBlock=some g->g∉bs
   |_=>∀b∈bs,Θ b=0)
 | .fD sz rows u=>(∀r∈rows,r.length=sz)/\(∀x,u=some x->κ id=some x)/\∃v bs,κ id=some v/\Rd w v (.sl rows) bs/\bs.Nodup/\∀b∈bs,Θ b=id+2/\Wr w b
 | .hole sz rows u p n=>(∀r∈rows,r.length=sz)/\(∀x,u=some x->κ id=some x)/\∃v bs,κ id=some v/\RdH w κ v rows p n bs/\bs.Nodup/\∀b∈bs,Θ b=id+2/\Wr w b
 | .mp kv=>∃g es clock,κ id=some (.map (some g))/\w.heap[g]?=some (.map es clock)/\Θ g=id+2/\Ai w es.toList kv
 | .tk rows=>∃v bs,κ id=some v/\Rd w v (.sl rows) bs/\∀b∈bs,Θ b=0
 | .gone=>True
def Cj(Γ:vY)(b:Nat):Prop:=Γ.W0.heap.size<=b\/Γ.X b
def a0r(Γ:vY)(b:Nat):Prop:=Cj Γ b\/Γ.U b
theorem yV.cs{w:World}{κ:Nat->Option Value}{Θ:Nat->Nat}{id:Nat}{o:Ob}{cells:aS}(hc:o.ZD=some cells)(h:yV w κ Θ id o):
 ∃g cs T,κ id=some (.pointer (some ⟨g,0,none⟩))/\w.heap[g]?=some (.cells cs T (0,0))/\Θ g=id+2/\∃bs,fM w κ cs.toList cells bs/\∀b∈bs,Θ b=0:=by
 cases o<;>simp only[Ob.ZD,reduceCtorEq,ax]at hc
 ·subst hc;exact h
 ·subst hc;exact h.2
theorem yV.aAP{w w':World}{κ κ':Nat->Option Value}{Θ Θ':Nat->Nat}{id:Nat}{o:Ob}{cells cells':aS}(hc:o.ZD=some cells)(h:yV w κ Θ id o)(hk:∀v,κ id=some v->κ' id=some v)
 (h':∃g cs T,κ' id=some (.pointer (some ⟨g,0,none⟩))/\w'.heap[g]?=some (.cells cs T (0,0))/\Θ' g=id+2/\∃bs,fM w' κ' cs.toList cells' bs/\∀b∈bs,Θ' b=0):yV w' κ' Θ' id (o.re cells'):=by
 cases o<;>simp only[Ob.ZD,reduceCtorEq,ax]at hc
 ·exact h'
 ·exact⟨hk _ h.1,h'⟩
structure Xs(Γ:vY)(w:World):Prop where
 os:w.os=Γ.W0.os
 tape:w.tape=Γ.W0.tape
 output:w.output=Γ.W0.output
 size:Γ.W0.heap.size<=w.heap.size
 block:∀b,b<Γ.W0.heap.size->¬Γ.X b->w.heap[b]?=Γ.W0.heap[b]?
def PD(w:World)(κ:Nat->Option Value)(ρ:Nat->Nat)(id:Nat):Ob->Prop
 | .row (.mv n) e sz rows=>∃v cs bs,κ id=some v/\w.ownsRow 0 e sz v rows.length cs/\mS w (cs.drop (n*sz)) (rows.drop n).flatten bs/\bs.Nodup/\∀b∈bs,ρ b=id+1
 | .tk rows=>∃v bs,κ id=some v/\Rd w v (.sl rows) bs/\bs.Nodup/\∀b∈bs,ρ b=id+1
 |_=>True
structure CE(Γ:vY)(H:List Ob)(κ:Nat->Option Value)(Θ:Nat->Nat)(w:World)(ρ:Nat->Nat):Prop where
 free:∀b,ρ b≠0->Θ b=0/\a0r Γ b/\Wr w b
 rows:∀id e sz rows,H[id]?=some (.row .uq e sz rows)->∃v cs bs,κ id=some v/\w.ownsRow 0 e sz v rows.length cs/\mS w cs rows.flatten bs/\bs.Nodup/\∀b∈bs,ρ b=id+1
 more:∀id o,H[id]?=some o->PD w κ ρ id o
structure eM(Γ:vY)(st:St)(κ:Nat->Option Value)(Θ:Nat->Nat)(a:Act)(w:World):Prop where
 defers:a.defers=[]
 size:a.tmps.size=Γ.nt
 rI:∀id,st.H.length<=id->κ id=none
 qX:∀(id:Nat) u,κ id=some u->u.oneCell'=true
 slot:∀t,∃bs,td w κ (a.tmps.getD t undef) (lk st.σ t) bs/\∀b∈bs,Θ b=0
 ob:∀id o,st.H[id]?=some o->yV w κ Θ id o
 own:∀b,Θ b≠0->b<w.heap.size
 old:∀b,b<Γ.W0.heap.size->¬Γ.X b->Θ b=Γ.Θ0 b/\Θ b<=1
 mine:∀b,2<=Θ b->Cj Γ b
 stays:Xs Γ w
 wQ:∃ρ,CE Γ st.H κ Θ w ρ
theorem eM.vsb{Γ:vY}{st:St}{κ:Nat->Option Value}{Θ:Nat->Nat}{a:Act}{w:World}(h:eM Γ st κ Θ a w):∃B:Nat->Prop,VsB w B/\∀b,B b->b<Γ.W0.heap.size/\b<w.heap.size/\¬Γ.X b:=by
 obtain⟨B,h1,h2⟩:=Γ.vs;exact⟨B,h1.stays fun b hb=>h.stays.block b (h2 b hb).1 (h2 b hb).2,fun b hb=>⟨(h2 b hb).1,eD (h2 b hb).1 h.stays.size,(h2 b hb).2⟩⟩
theorem eM.vok{Γ:vY}{st:St}{κ:Nat->Option Value}{Θ:Nat->Nat}{a:Act}{w:World}(h:eM Γ st κ Θ a w):Sp w fun _=>False:=by
 obtain⟨B,h1,h2⟩:=h.vsb;exact⟨B,h1,fun b hb=>⟨(h2 b hb).2.1,id⟩⟩
def AW(P:Program)(Γ:vY)(c:Code)(Q:Exit->St->Prop)(st:St):Prop:=
 ∀κ Θ a w,eM Γ st κ Θ a w->c.wp P (fun e a' w'=>∃xZ κ' Θ',eM Γ xZ κ' Θ' a' w'/\Q e xZ) a w
def AO(P:Program)(Γ:vY)(all:Array Oper)(ops:List Oper)(Q:Exit->St->Prop)(st:St):Prop:=
 ∀κ Θ a w,eM Γ st κ Θ a w->wpList P all (fun e a' w'=>∃xZ κ' Θ',eM Γ xZ κ' Θ' a' w'/\Q e xZ) ops a w
section
variable{P:Program}{Γ:vY}{Q:Exit->St->Prop}{st:St}
theorem a41(h:Q .normal st):AW P Γ .skip Q st:=fun _ _ _ _ hs=>wp_skip ⟨_,_,_,hs,h⟩
theorem a6f(h:Q .ret st):AW P Γ .ret Q st:=fun _ _ _ _ hs=>wp_ret ⟨_,_,_,hs,h⟩
theorem a3z{id:Nat}(h:Q (.exit id) st):AW P Γ (.exit id) Q st:=fun _ _ _ _ hs=>wp_exit ⟨_,_,_,hs,h⟩
def a3I(next:St->Prop)(Q:Exit->St->Prop):Exit->St->Prop
 | .normal,st=>next st
 |e,st=>Q e st
def Su(id:Nat)(Q:Exit->St->Prop):Exit->St->Prop
 | .exit id',st=>if id'=id then Q .normal st else Q (.exit id') st
 |e,st=>Q e st
theorem a6g{x y:Code}(h:AW P Γ x (a3I (AW P Γ y Q) Q) st):AW P Γ (.seq x y) Q st:=by
 intro κ Θ a w hs;refine wp_seq (wp_mono (h κ Θ a w hs) ?_);rintro e a' w' ⟨xZ,κ',Θ',hs',hq⟩;cases e with
 |normal=>exact hq κ' Θ' a' w' hs'
 |exit id=>exact⟨_,_,_,hs',hq⟩
 |goto l=>exact⟨_,_,_,hs',hq⟩
 |ret=>exact⟨_,_,_,hs',hq⟩
 |panic c=>exact⟨_,_,_,hs',hq⟩
 |outgrown=>exact⟨_,_,_,hs',hq⟩
theorem a0o{id:Nat}{c:Code}(h:AW P Γ c (Su id Q) st):AW P Γ (.block id c) Q st:=by
 intro κ Θ a w hs;refine wp_block (wp_mono (h κ Θ a w hs) ?_);rintro e a' w' ⟨xZ,κ',Θ',hs',hq⟩;cases e with
 |exit id'=>
  simp only[Exit.inBlock,Su]at hq⊢;split
  ·rename_i he;rw[bQ he]at hq;exact⟨_,_,_,hs',hq⟩
  ·rename_i he;rw[bG he]at hq;exact⟨_,_,_,hs',hq⟩
 |normal=>exact⟨_,_,_,hs',hq⟩
 |goto l=>exact⟨_,_,_,hs',hq⟩
 |ret=>exact⟨_,_,_,hs',hq⟩
 |panic c=>exact⟨_,_,_,hs',hq⟩
 |outgrown=>exact⟨_,_,_,hs',hq⟩
theorem Yw{id:Nat}{l:List Oper}(h:AO P Γ l.toArray l Q st):AW P Γ (.region id l.toArray false) Q st:=
 fun κ Θ a w hs=>wp_region_lit (h κ Θ a w hs)
theorem a6d{all:Array Oper}(h:Q .normal st):AO P Γ all [] Q st:=fun _ _ _ _ hs=>wpList_nil ⟨_,_,_,hs,h⟩
end
section
variable{w:World}{κ:Nat->Option Value}{v:Value}{bs:aa}
theorem td.sF{k:IntKind}{n:Int}(h:td w κ v (.int k n) bs):v=.int k n:=by
 cases h with|v h=>cases h with|cell h=>cases h with|pure h=>cases h;rfl
theorem td.Qc{k:IntKind}{n:Int}(h:td w κ v (.int k n) bs):tU k n:=by
 cases h with|v h=>cases h with|cell h=>cases h with|pure h=>cases h with|int _ _ hr=>exact hr
theorem td.a3F{s:Bytes}(h:td w κ v (.str s) bs):s.length<=maxLen:=by
 cases h with|v h=>cases h with|cell h=>cases h with|pure h=>cases h with|str x hx=>simpa using hx
theorem td.yW{b:Bool}(h:td w κ v (.bool b) bs):v=.bool b:=by
 cases h with|v h=>cases h with|cell h=>cases h with|pure h=>cases h;rfl
theorem td.wZ{s:Bytes}(h:td w κ v (.str s) bs):∃x:ByteArray,v=.string x/\x.data.toList=s:=by
 cases h with|v h=>cases h with|cell h=>cases h with|pure h=>cases h;exact⟨_,rfl,rfl⟩
theorem td.Yp{u:Value}(h:td w κ v (.val u) bs):v=u:=by
 cases h with|v h=>cases h with|cell h=>cases h with|pure h=>cases h;rfl
theorem td.Nb(h:td w κ v .nil bs):v=.slice none 0 0:=by
 cases h with|v h=>cases h with|cell h=>cases h with|pure h=>cases h;rfl
theorem td.Tp{rows:List aS}(h:td w κ v (.sl rows) bs):Rd w v (.sl rows) bs:=by
 cases h with|v h=>cases h with|cell h=>cases h with|pure h=>exact h
theorem td.WN{row:aS}{o:Nat}(h:td w κ v (.ep row o) bs):Rd w v (.ep row o) bs:=by
 cases h with|v h=>cases h with|cell h=>cases h with|pure h=>exact h
theorem td.xa{id:Nat}(h:td w κ v (.acc id) bs):κ id=some v/\bs=[]:=by
 cases h with|v h=>cases h with|cell h=>cases h with|pure h=>cases h|acc _ _ hk=>exact⟨hk,rfl⟩
theorem td.Cb{id off:Nat}(h:td w κ v (.ptr id off) bs):∃b,κ id=some (.pointer (some ⟨b,0,none⟩))/\v=.pointer (some ⟨b,off,none⟩):=by
 cases h with|v h=>cases h with|cell h=>cases h with|pure h=>cases h|ptr _ _ b hk=>exact⟨b,hk,rfl⟩
theorem td.I0{id i sz off:Nat}(h:td w κ v (.op id i sz off) bs):∃b o0 len cap,κ id=some (.slice (some ⟨b,o0,none⟩) len cap)/\v=.pointer (some ⟨b,o0+(i*sz+off),none⟩):=by
 cases h with|v h=>cases h with|cell h=>cases h with|pure h=>cases h|op _ _ _ _ b o0 len cap hk=>exact⟨b,o0,len,cap,hk,rfl⟩
theorem fM.F0{vs:br}{ds:aS}(h:mS w vs ds bs):fM w κ vs ds bs:=by
 induction ds generalizing vs bs with
 |nil=>cases h;exact .nil
 |cons d ds ih=>cases h with|cons v vs _ _ b1 b2 h1 h2 h3=>exact .cons _ _ _ _ _ _ h1 (.pure h2) (ih h3)
theorem En{w:World}{e sz b o0 len cap n:Nat}{cs:br}(h:w.ownsRow 0 e sz (.slice (some ⟨b,o0,none⟩) len cap) n cs):o0=0:=by
 rcases h.2 with⟨h,_⟩|⟨g,cap,cur,h,_⟩
 ·cases h
 ·cases h;rfl
theorem td.IB{ds:aS}(h:td w κ v (.agg ds) bs):∃cs:br,v=.agg cs.toArray/\fM w κ cs ds bs:=by
 cases h with
 |v h=>
  cases h with
  |cell h=>cases h with|pure h=>cases h with|agg cs _ _ h=>exact⟨cs,rfl,fM.F0 h⟩
  |agg cs _ _ h=>exact⟨cs,rfl,h⟩
theorem fM.length{vs:br}{ds:aS}(h:fM w κ vs ds bs):vs.length=ds.length:=by
 induction ds generalizing vs bs with
 |nil=>cases h;rfl
 |cons d ds ih=>cases h with|cons v vs _ _ b1 b2 h1 h2 h3=>simp[ih h3]
theorem fM.one{vs:br}{ds:aS}(h:fM w κ vs ds bs):∀v∈vs,v.oneCell'=true:=by
 induction ds generalizing vs bs with
 |nil=>cases h;simp
 |cons d ds ih=>
  cases h with
  |cons v vs _ _ b1 b2 h1 h2 h3=>
   intro u hu;rcases bM.1 hu with rfl|hu
   ·exact h1
   ·exact ih h3 u hu
theorem fM.app{vs us:br}{ds es:aS}{cs:aa}(h:fM w κ vs ds bs)(k:fM w κ us es cs):fM w κ (vs++us) (ds++es) (bs++cs):=by
 induction ds generalizing vs bs with
 |nil=>cases h;simpa using k
 |cons d ds ih=>
  cases h with
  |cons v vs _ _ b1 b2 h1 h2 h3=>
   rw[bY];exact .cons _ _ _ _ _ _ h1 h2 (ih h3)
theorem fM.split{vs:br}{ds es:aS}(h:fM w κ vs (ds++es) bs):
 ∃v1 v2 b1 b2,vs=v1++v2/\bs=b1++b2/\fM w κ v1 ds b1/\fM w κ v2 es b2:=by
 induction ds generalizing vs bs with
 |nil=>exact⟨[],vs,[],bs,by simp,by simp,.nil,h⟩
 |cons d ds ih=>
  cases h with
  |cons v vs _ _ b1 b2 h1 h2 h3=>
   obtain⟨v1,v2,c1,c2,rfl,rfl,k1,k2⟩:=ih h3;exact⟨v::v1,v2,b1++c1,c2,by simp,by simp,.cons _ _ _ _ _ _ h1 h2 k1,k2⟩
theorem fM.mid{vs:br}{ds:aS}(h:fM w κ vs ds bs)(i n:Nat)(hn:i+n<=ds.length):
 ∃b,fM w κ ((vs.drop i).take n) ((ds.drop i).take n) b/\∀x∈b,x∈bs:=by
 have e:ds=ds.take i++((ds.drop i).take n++(ds.drop i).drop n):=by rw[cC,cC]
 rw[e]at h;obtain⟨v1,v2,b1,b2,rfl,rfl,k1,k2⟩:=h.split;obtain⟨v3,v4,b3,b4,rfl,rfl,k3,k4⟩:=k2.split;refine⟨b3,?_,by intro x hx;simp[hx]⟩;have h1:v1.length=i:=by rw[k1.length];simp;omega
 have h3:v3.length=n:=by rw[k3.length];simp;omega
 rw[fm h1,j7 h3];exact k3
theorem fM.at{vs:br}{ds:aS}(h:fM w κ vs ds bs){i:Nat}{d:D}(hd:ds[i]?=some d):
 ∃v b,vs[i]?=some v/\v.oneCell'=true/\BM w κ v d b/\∀x∈b,x∈bs:=by
 induction ds generalizing vs bs i with
 |nil=>simp at hd
 |cons e ds ih=>
  cases h with
  |cons v vs _ _ b1 b2 h1 h2 h3=>
   cases i with
   |zero=>simp at hd;subst hd;exact⟨v,b1,by simp,h1,h2,by intro x hx;simp[hx]⟩
   |succ i=>
    simp at hd;obtain⟨u,b,k1,k2,k3,k4⟩:=ih h3 hd;exact⟨u,b,by simpa using k1,k2,k3,fun x hx=>by simp[k4 x hx]⟩
theorem X7(v:Value):td w κ v (D.X6 v) []:=by
 unfold D.X6;split
 ·exact .of (.bool _)
 ·split
  ·rename_i h;exact .of (.int _ _ h)
  ·exact .of (.val _)
 ·split
  ·rename_i h;exact .of (.str _ h)
  ·exact .of (.val _)
 ·exact .of .nil
 ·exact .of (.val _)
end
section
variable{Γ:vY}{st:St}{κ:Nat->Option Value}{Θ:Nat->Nat}{a:Act}{w:World}
theorem eM.ev(h:eM Γ st κ Θ a w)(x:Operand):∃bs,td w κ (a.eval x) (st.ev x) bs/\∀b∈bs,Θ b=0:=by
 cases x with
 |tmp t=>exact h.slot t
 |const v=>exact⟨[],X7 v,by simp⟩
 |global g=>exact⟨[],.of (.val _),by simp⟩
 |func f=>exact⟨[],.of (.val _),by simp⟩
theorem eM.set(h:eM Γ st κ Θ a w){t:Nat}{v:Value}{d:D}{bs:aa}(ht:t<Γ.nt)(hv:td w κ v d bs)(hb:∀b∈bs,Θ b=0):
 eM Γ (st.set t d) κ Θ (a.put (some t) v) w:=by
 refine⟨h.defers,by simp[Act.put,h.size],h.rI,h.qX,?_,h.ob,h.own,h.old,h.mine,h.stays,h.wQ⟩;intro u;show∃bs,td w κ ((a.tmps.setIfInBounds t v).getD u undef) (if u=t then d else lk st.σ u) bs/\_;have hsz:=h.size;by_cases hu:u=t
 ·subst hu;rw[bQ rfl];have:(a.tmps.setIfInBounds u v).getD u undef=v:=by
   simp[cO,hsz,ht]
  rw[this];exact⟨bs,hv,hb⟩
 ·rw[bG hu];have:(a.tmps.setIfInBounds t v).getD u undef=a.tmps.getD u undef:=by
   simp[cO,tZ hu]
  rw[this];exact h.slot u
end
end Go.Cx
namespace Go.Cx
open Go.RowKit
abbrev bW:=List Ob
def C9(P:Program)(t:TypeId):Option Bool:=
 match P.underlying t with
 |some (.struct _)=>some true
 |some (.array _ _)=>some true
 |some _=>some false
 |none=>none
def BQ(P:Program)(t:TypeId):Nat:=P.cellsOf t
def tfo(P:Program)(t f:Nat):Option Nat:=
 match P.underlying t with
 |some (.struct fs)=>(match fs[f]? with
  |some x=>if(P.info? x.type).isSome/\P.cellsOf x.type≠0 then some x.offset else none
  |none=>none)
 |_=>none
def tft(P:Program)(t f:Nat):Option (Nat×TypeId):=
 match P.underlying t with
 |some (.struct fs)=>(match fs[f]? with|some x=>some (x.offset,x.type)|none=>none)
 |_=>none
def IM(P:Program)(t:TypeId):Option (TypeId×Nat):=
 match P.underlying t with
 |some (.slice e)=>if(P.info? e).isSome then some (e,P.cellsOf e)else none
 |_=>none
def a8T(P:Program)(t:TypeId):Option (Nat×Nat):=
 match P.underlying t with
 |some (.array n e)=>if(P.info? e).isSome then some (P.cellsOf e,n)else none
 |_=>none
def Of(P:Program)(t:TypeId):Bool:=match P.underlying t with|some .string=>true|_=>false
def XV(P:Program)(t:TypeId):Option IntKind:=match P.underlying t with|some (.int k)=>some k|_=>none
def a6U(P:Program)(t:TypeId):Bool:=match P.underlying t with|some .bool=>true|_=>false
def Yh(P:Program)(t:TypeId):Bool:=match P.underlying t with
 |some (.struct fs)=>match fs.toList with
  | [f,g]=>f.name != "_" &&g.name != "_" &&f.offset==0&&g.offset==1&&Of P f.type&&Of P g.type&& !P.stoodInHeld t&& !P.eqGuardType P.depth t
  |_=>false
 |_=>false
def peq(P:Program)(op:BinOp)(t:TypeId):D->D->Option D
 | .bool a,.bool b=>if a6U P t=true then match op with| .eql=>some (.bool (a==b))| .neq=>some (.bool (a != b))|_=>none else none
 | .agg [.str a,.str b],.agg [.str c,.str d]=>if Yh P t=true then match op with| .eql=>some (.bool (a==c&&b==d))| .neq=>some (.bool (!(a==c&&b==d)))|_=>none else none
 |_,_=>none
def a8U(P:Program)(t:TypeId):Bool:=match P.underlying t with|some (.interface _)=>true|_=>false
def a81(P:Program)(op:BinOp)(t:TypeId)(x:D)(y:Operand):Option D:=match x,y with
 | .ifc b,.const .nilIface=>(match a8U P t,op with|true,.eql=>some (.bool (!b))|true,.neq=>some (.bool b)|_,_=>none)
 |_,_=>none
def Zo(op:BinOp):D->D->Option D
 | .int k a,.int k' b=>
  if k=k' then
   match op with
   | .add=>some (.int k (k.wrap (a+b)))
   | .sub=>some (.int k (k.wrap (a-b)))
   | .mul=>some (.int k (k.wrap (a*b)))
   | .quo=>if 0<=a/\0<b then some (.int k (a/b))else none
   | .rem=>if 0<=a/\0<b then some (.int k (a%b))else none
   | .eql=>some (.bool (a==b))
   | .neq=>some (.bool (a != b))
   | .lss=>some (.bool (a<b))
   | .leq=>some (.bool (a<=b))
   | .gtr=>some (.bool (a>b))
   | .geq=>some (.bool (a>=b))
   |_=>none
  else none
 | .str a,.str b=>
  match op with
  | .add=>if a.length+b.length<=maxLen then some (.str (a++b))else none
  | .eql=>some (.bool (a==b))
  | .neq=>some (.bool (!(a==b)))
  | .lss=>some (.bool (Op.bytesLess a b))
  | .leq=>some (.bool (Op.bytesLess a b||a==b))
  | .gtr=>some (.bool (!(Op.bytesLess a b||a==b)))
  | .geq=>some (.bool (!(Op.bytesLess a b)))
  |_=>none
 |_,_=>none
def KF(ag:Bool)(n:Nat)(row:aS)(off:Nat):Option D:=
 if ag then(if off+n<=row.length then some (.agg ((row.drop off).take n))else none)else row[off]?
def PX(len:Nat)(lo hi:Option D):Option (Nat×Nat):=
 match(match hi with|none=>some len|some (.int _ h)=>if 0<=h/\h.toNat<=len then some h.toNat else none|_=>none)with
 |none=>none
 |some h=>match(match lo with|none=>some 0|some (.int _ l)=>if 0<=l/\l.toNat<=h then some l.toNat else none|_=>none)with
  |none=>none
  |some l=>some (l,h)
def a4b(a b:Int):Int:=if b<a then b else a
def a7z:D->D->Option D
 | .int k m,.int k' n=>if k=k' then some (.int k (a4b m n))else none
 |_,_=>none
def a55(P:Program)(st:St)(x:Operand)(t:TypeId):Option D:=
 match st.ev x with
 | .str s=>if Of P t then some (.int .i64 s.length)else none
 | .sl rows=>if(IM P t).isSome then some (.int .i64 rows.length)else none
 | .nil=>if(IM P t).isSome then some (.int .i64 0)else none
 | .acc id=>(match IM P t,st.H[id]? with|some _,some (.row _ _ _ rows)=>some (.int .i64 rows.length)|_,_=>none)
 |_=>none
def D.cellsOf:D->Option aS
 | .agg ds=>some ds
 | .any=>none
 | .iF _=>none
 | .val v=>if v.oneCell' then some [.val v]else none
 |d=>some [d]
def tz(P:Program)(t:TypeId):Option aS:=
 match P.info? t with
 |some i=>(match i.zero with
  |some z=>if z.cells.toList.all (fun c=>c.oneCell')&&z.cells.size==i.size then some (z.cells.toList.map D.X6)else none
  |none=>none)
 |none=>none
def Yi(P:Program)(t:TypeId):Option (List (Nat×Nat)):=
 match P.underlying t with
 |some (.struct fs)=>fs.toList.mapM (fun f=>(P.info? f.type).map fun i=>(f.offset,i.size))
 |_=>none
def AE(places:List (Nat×Nat))(cells:aS):List (Nat×D)->Option aS
 | []=>some cells
 | (i,d)::rest=>match places[i]?,d.cellsOf with
  |some (off,sz),some ds=>if ds.length=sz/\off+sz<=cells.length then AE places (cells.take off++ds++cells.drop (off+sz)) rest else none
  |_,_=>none
def keq:D->D->Option Bool
 | .str a,.str b=>some (a==b)
 | .int k a,.int k' b=>if k=k' then some (a==b)else none
 |_,_=>none
def Ls:TypeDesc->D->Bool
 | .string,.str _=>true
 | .int k,.int k' _=>decide (k=k')
 |_,_=>false
def Hs(k:D):List (D×D)->Option (Option D)
 | []=>some none
 |p::r=>match keq k p.1 with|some true=>some (some p.2)|some false=>Hs k r|none=>none
def NU(k v:D):List (D×D)->Option (List (D×D))
 | []=>some [(k,v)]
 |p::r=>match keq k p.1 with|some true=>some ((k,v)::r)|some false=>(NU k v r).map (p:: ·)|none=>none
def a08(P:Program)(T:TypeId):Option (TypeDesc×D):=
 match P.underlying T with
 |some (.map kt et)=>(match P.underlying kt,P.info? et with
  |some d,some i=>(match i.zero with|some z=>if z.oneCell'=true then some (d,D.X6 z)else none|none=>none)
  |_,_=>none)
 |_=>none
def plk(P:Program)(T:TypeId)(kv:List (D×D))(k:D)(ok:Bool):Option D:=
 match a08 P T with
 |some (kd,dz)=>(match Ls kd k,Hs k kv with
  |true,some (some d)=>some (bif ok then .iF [d,.bool true]else d)
  |true,some none=>some (bif ok then .iF [dz,.bool false]else dz)
  |_,_=>none)
 |none=>none
def a5Z(k:IntKind)(a b:Int):Int:=k.wrap ((BitVec.ofInt k.bits a&&& BitVec.ofInt k.bits b).toNat)
def a8x(k:IntKind)(a b:Int):Int:=k.wrap ((BitVec.ofInt k.bits a|||BitVec.ofInt k.bits b).toNat)
def a5b(k:IntKind)(a b:Int):Int:=k.wrap ((BitVec.ofInt k.bits a^^^BitVec.ofInt k.bits b).toNat)
def a5J(k:IntKind)(a b:Int):Int:=a.fdiv (2^(min b.toNat k.bits))
def a7y(op:BinOp)(x y:D):Option D:=match x,y with
 | .int k a,.int k' b=>(match op with
  | .and=>if k=k' then some (.int k (a5Z k a b))else none
  | .or=>if k=k' then some (.int k (a8x k a b))else none
  | .xor=>if k=k' then some (.int k (a5b k a b))else none
  | .shr=>if 0<=b then some (.int k (a5J k a b))else none
  |_=>none)
 |_,_=>none
theorem tU.shr{k:IntKind}{a:Int}(h:tU k a)(b:Int):tU k (a5J k a b):=by
 have hm:(0:Int)<2^(min b.toNat k.bits):=Int.pow_pos (by decide);unfold a5J;rw[Int.fdiv_eq_ediv_of_nonneg _ (Dy hm)];generalize(2:Int)^(min b.toNat k.bits)=m at hm;have hz:=tU.zero k;rcases Int.lt_or_le a 0 with h0|h0
 ·refine⟨Dz h.1 (Int.le_ediv_of_mul_le hm ?_),Dz (Dy (F6 (b:=0) hm (by omega))) hz.2⟩;have:a*m<=a*1:=Int.mul_le_mul_of_nonpos_left (Dy h0) (by omega);omega
 ·exact h.down (Ew h0 (Dy hm)) (Int.ediv_le_self m h0)
def pv(P:Program)(st:St):Op->Option D
 | .lookup T x i ok=>match st.ev x with
  | .acc id=>(match st.H[id]? with|some (.mp kv)=>plk P T kv (st.ev i) ok|_=>none)
  |_=>none
 | .build t parts=>match tz P t,Yi P t with
  |some zs,some ps=>(AE ps zs (parts.toList.map fun p=>(p.1,st.ev p.2))).map D.agg
  |_,_=>none
 | .move x=>some (st.ev x)
 | .assign x=>some (st.ev x)
 | .pick c a b=>match st.ev c with| .bool t=>some (bif t then st.ev a else st.ev b)|_=>none
 | .binOp op t x y _=>match Zo op (st.ev x) (st.ev y)with|some d=>some d|none=>(match peq P op t (st.ev x) (st.ev y)with|some d=>some d|none=>(match a81 P op t (st.ev x) y with|some d=>some d|none=>a7y op (st.ev x) (st.ev y)))
 | .nilCheck x=>match st.ev x with| .ptr i o=>some (.ptr i o)| .op i a b c=>some (.op i a b c)| .ep r o=>some (.ep r o)|_=>none
 | .unOp .not _ x=>match st.ev x with| .bool b=>some (.bool (!b))|_=>none
 | .unOp .neg _ x=>match st.ev x with| .int k n=>some (.int k (k.wrap (0-n)))|_=>none
 | .convert s d x=>match st.ev x,XV P s,XV P d with| .int _ n,some _,some k=>some (.int k (k.wrap n))|_,_,_=>none
 | .field t x f=>match tft P t f,st.ev x with
  |some (off,ft),.agg cells=>(match C9 P ft with|some ag=>KF ag (BQ P ft) cells off|none=>none)
  |_,_=>none
 | .fieldAddr t x f=>match tfo P t f,st.ev x with
  |some o,.ptr id off=>some (.ptr id (off+o))
  |some o,.ep row off=>some (.ep row (off+o))
  |some o,.op id i sz off=>some (.op id i sz (off+o))
  |_,_=>none
 | .indexAddr t x i=>match IM P t,st.ev x,st.ev i with
  |some (_,sz),.sl rows,.int _ n=>if 0<=n then(match rows[n.toNat]? with|some row=>if row.length=sz then some (.ep row 0)else none|none=>none)else none
  |some (_,sz),.acc id,.int _ n=>(match st.H[id]? with
   |some (.row _ _ sz' rows)=>if sz=sz'/\0<=n/\n.toNat<rows.length then some (.op id n.toNat sz 0)else none
   |_=>none)
  |_,.val (.pointer (some ⟨g,o,none⟩)),.int _ n=>(match a8T P t with
   |some (sz,len)=>if 0<=n/\n.toNat<len then some (.val (.pointer (some ⟨g,o+n.toNat*sz,none⟩)))else none
   |none=>none)
  |_,_,_=>none
 | .load t x=>match C9 P t,st.ev x with
  |some ag,.ep row off=>KF ag (BQ P t) row off
  |some ag,.ptr id off=>(match(st.H[id]?).bind Ob.ZD with|some cells=>KF ag (BQ P t) cells off|none=>none)
  |some ag,.op id i sz off=>(match st.H[id]? with
   |some (.row k _ sz' rows)=>(match rows[i]? with|some row=>if sz'=sz/\k.TY=true/\off+(bif ag then BQ P t else 1)<=sz then KF ag (BQ P t) row off else none|none=>none)
   |_=>none)
  |some ag,.val (.pointer (some ⟨g,o,none⟩))=>(match ag with|false=>Yq g o|true=>none)
  |_,_=>none
 | .extract x i=>match st.ev x with| .iF vs=>vs[i]? |_=>none
 | .index t x i=>match Of P t,st.ev x,st.ev i with
  |true,.str s,.int _ n=>if 0<=n then(match s[n.toNat]? with|some b=>some (.int .u8 b.toNat)|none=>none)else none
  |_,_,_=>none
 | .slice t x lo hi none=>match st.ev x with
  | .str s=>if Of P t then(match PX s.length (lo.map st.ev) (hi.map st.ev)with|some (l,h)=>some (.str ((s.take h).drop l))|none=>none)else none
  | .sl rows=>(match IM P t,PX rows.length (lo.map st.ev) (hi.map st.ev)with
   |some (_,sz),some (l,h)=>if(rows.all (fun r=>r.length==sz))then some (.sl ((rows.take h).drop l))else none
   |_,_=>none)
  |_=>none
 | .call c=>match c.callee,c.args.toList,c.argTypes.toList with
  | .builtin .len,[x],[t]=>a55 P st x t
  | .builtin .min,[x,y],[_,_]=>a7z (st.ev x) (st.ev y)
  |_,_,_=>none
 |_=>none
section
variable{P:Program}{Γ:vY}{st:St}{κ:Nat->Option Value}{Θ:Nat->Nat}{a:Act}{w:World}
def yw(P:Program)(κ:Nat->Option Value)(Θ:Nat->Nat)(a:Act)(w:World)(o:Oper)(d:D):Prop:=
 ∃v bs,(execOp a.eval o).run P w=.ok (.value v) w/\td w κ v d bs/\∀b∈bs,Θ b=0
theorem TU{n:Nat}(h:n<=maxLen):tU .i64 (n:Int):=by
 rw[tU.i64];unfold maxLen at h;omega
theorem gf{k:IntKind}{n:Int}(h:tU k n):k.wrap n=n:=by
 unfold tU at h;cases k<;>simp[IntKind.min,IntKind.max,IntKind.wrap,IntKind.bits,IntKind.signed]at h⊢ <;>(try split)<;>omega
theorem XA{o:Oper}{op:BinOp}{t t':TypeId}{x y:Operand}{d:D}(hs:eM Γ st κ Θ a w)(ho:o.op=.binOp op t x y t')
 (h:Zo op (st.ev x) (st.ev y)=some d):yw P κ Θ a w o d:=by
 obtain⟨b1,r1,_⟩:=hs.ev x;obtain⟨b2,r2,_⟩:=hs.ev y;generalize st.ev x=dx at*;generalize st.ev y=dy at*;unfold Zo at h;split at h
 ·rename_i k p k' q;split at h
  ·rename_i hk;subst hk;have e1:=r1.sF;have e2:=r2.sF;cases op<;>simp only[ax,reduceCtorEq]at h
   case quo=>
    split at h
    ·rename_i hq;cases h;have hq0:q≠0:=by omega
     have hle:p/q<=p:=Int.ediv_le_self q hq.1;have h0:0<=p/q:=Ew hq.1 (by omega);have hin:=r1.Qc.down h0 hle;have hw:k.wrap (p.tdiv q)=p/q:=by
      rw[Int.tdiv_eq_ediv_of_nonneg hq.1];exact gf hin
     exact⟨_,[],by simp[execOp,ho,e1,e2,binOp,eqGuard,Op.intDiv,hq0,hw],.of (.int _ _ hin),by simp⟩
    ·cases h
   case rem=>
    split at h
    ·rename_i hq;cases h;have hq0:q≠0:=by omega
     have h0:0<=p%q:=Int.emod_nonneg p hq0;have hle:p%q<=p:=by
      have h1:=Int.emod_add_mul_ediv p q;have h2:0<=q*(p/q):=Int.mul_nonneg (by omega) (Ew hq.1 (by omega));omega
     have hin:=r1.Qc.down h0 hle;have hw:p.tmod q=p%q:=Int.tmod_eq_emod_of_nonneg hq.1;exact⟨_,[],by simp[execOp,ho,e1,e2,binOp,eqGuard,Op.intDiv,hq0,hw],.of (.int _ _ hin),by simp⟩
    ·cases h
   all_goals subst h
   all_goals first
    |exact⟨_,[],by simp[execOp,ho,e1,e2,binOp,eqGuard,Op.intArith],.of (.int _ _ (tU.wrap _ _)),by simp⟩
    |exact⟨_,[],by simp[execOp,ho,e1,e2,binOp,eqGuard,Op.intCmp],.of (.bool _),by simp⟩
  ·cases h
 ·rename_i p q;obtain⟨u,e1,rfl⟩:=r1.wZ;obtain⟨v,e2,rfl⟩:=r2.wZ;cases op<;>simp only[ax,reduceCtorEq]at h
  case add=>
   split at h
   ·rename_i hl;cases h;have hsz:u.size+v.size<=9223372036854775807:=by
     simp only[wq,maxLen]at hl;exact hl
    refine⟨.string (u++v),[],?_,?_,by simp⟩
    ·simp[execOp,ho,e1,e2,binOp,eqGuard,run_string_add_sum w u v hsz]
    ·have:=Rd.str (w:=w) (u++v) (by rw[ByteArray.size_append'];unfold maxLen;omega);simp only[ByteArray.data_append,lq]at this;exact .of this
   ·cases h
  all_goals subst h
  all_goals exact⟨_,[],by simp[execOp,ho,e1,e2,binOp,eqGuard,Op.stringOp,ByteArray.toList_eq],.of (.bool _),by simp⟩
 ·cases h
theorem IJ{t:TypeId}{b:Bool}(h:C9 P t=some b)(w:World):(isAgg t).run P w=.ok b w:=by
 unfold C9 at h;split at h<;>first
  | (rename_i hu;cases h;simp[isAgg,run_underlying hu])
  | (rename_i d _ _ hu;cases h;cases d<;>simp_all [isAgg,run_underlying hu])
  |cases h
theorem info_of_underlying{t:TypeId}{d:TypeDesc}(h:P.underlying t=some d):∃i,P.info? t=some i:=by
 unfold Program.underlying at h;cases hi:P.info? t with
 |none=>simp[hi]at h
 |some i=>exact⟨i,rfl⟩
theorem NS{t:TypeId}{b:Bool}(h:C9 P t=some b):∃i,P.info? t=some i:=by
 unfold C9 at h;split at h<;>first
  | (rename_i hu;exact info_of_underlying hu)
  |cases h
theorem xY{t:TypeId}(h:∃i,P.info? t=some i)(w:World):(sizeOf t).run P w=.ok (BQ P t) w:=by
 obtain⟨i,hi⟩:=h;simp[sizeOf,typeInfo,hi,BQ,Program.cellsOf]
theorem qM{t:TypeId}{ag:Bool}(ht:C9 P t=some ag){b off o:Nat}{cs:br}
 (hc:∀j c,cs[j]?=some c->w.cell? ⟨b,off+j,none⟩=some c):
 (ag=true->o+BQ P t<=cs.length->(Instr.loadAt t (.pointer (some ⟨b,off+o,none⟩))).run P w=.ok (.agg ((cs.drop o).take (BQ P t)).toArray) w)/\
 (ag=false->∀c,cs[o]?=some c->(Instr.loadAt t (.pointer (some ⟨b,off+o,none⟩))).run P w=.ok c w):=by
 constructor
 ·intro e hl;subst e;have hlen:((cs.drop o).take (BQ P t)).length=BQ P t:=by simp;omega
  have:=run_loadCells_list (P:=P) w ⟨b,off+o,none⟩ ((cs.drop o).take (BQ P t)) (by
   intro j v hj;rw[Addr.add_lit];rw[cJ]at hj;split at hj
   ·rw[eA]at hj;rw[rL];exact hc _ _ hj
   ·cases hj)
  rw[hlen]at this;simp[Instr.loadAt,Instr.sureAddr,loadVar,IJ ht,xY (NS ht),this]
 ·intro e c hj;subst e;have:=hc o c hj;simp[Instr.loadAt,Instr.sureAddr,loadVar,IJ ht,this]
theorem BM.Tx{v:Value}{d:D}{bs:aa}(h:BM w κ v d bs):td w κ v d bs:=.v (.cell h)
theorem Qk{o:Oper}{t:TypeId}{x:Operand}{d:D}(hs:eM Γ st κ Θ a w)(ho:o.op=.load t x)
 (h:pv P st (.load t x)=some d):yw P κ Θ a w o d:=by
 obtain⟨b1,r1,z1⟩:=hs.ev x;simp only[pv]at h;split at h
 ·rename_i ag row off ht hx;rw[hx]at r1;have hrd:=r1.WN;generalize YL:a.eval x=vx at hrd;cases hrd with
  |ep b base cs _ _ bs h0 hc vU=>
   have L:=qM (P:=P) (w:=w) ht (o:=off) hc;unfold KF at h;split at h
   ·rename_i hag;split at h
    ·rename_i hl;cases h;have hl':off+BQ P t<=cs.length:=by rw[vU.length];exact hl
     obtain⟨b',hm,hsub⟩:=vU.mid off (BQ P t);exact⟨_,b',by simp only[execOp,ho,YL];simp[L.1 hag hl'],.of (.agg _ _ _ hm),fun y hy=>z1 y (by simp[hsub y hy])⟩
    ·cases h
   ·rename_i hag;simp only[zI]at hag;obtain⟨v,b',hv,_,hr,hsub⟩:=vU.at h;exact⟨v,b',by simp only[execOp,ho,YL];simp[L.2 hag v hv],.of hr,fun y hy=>z1 y (by simp[hsub y hy])⟩
 ·rename_i ag id off ht hx;rw[hx]at r1;obtain⟨g,hk,hv⟩:=r1.Cb;split at h
  ·rename_i cells hH;obtain⟨ob,hH,CB⟩:=o8.1 hH;obtain⟨g',cs,T,hk',hg,hΘ,bs,vU,hz⟩:=(hs.ob id _ hH).cs CB;rw[hk]at hk';cases hk';have hc:∀j c,cs.toList[j]?=some c->w.cell? ⟨g,0+j,none⟩=some c:=by
    intro j c hj;simp only[cq,World.cell?,hg];simpa using hj
   have L:=qM (P:=P) (w:=w) ht (o:=off) hc;simp only[cq]at L;unfold KF at h;split at h
   ·rename_i hag;split at h
    ·rename_i hl;cases h;have hl':off+BQ P t<=cs.toList.length:=by rw[vU.length];exact hl
     obtain⟨b',hm,hsub⟩:=vU.mid off (BQ P t) hl;exact⟨_,b',by simp only[execOp,ho,hv];simp[L.1 hag hl'],.v (.agg _ _ _ hm),fun y hy=>hz y (hsub y hy)⟩
    ·cases h
   ·rename_i hag;simp only[zI]at hag;obtain⟨v,b',hv',_,hr,hsub⟩:=vU.at h;exact⟨v,b',by simp only[execOp,ho,hv];simp[L.2 hag v hv'],hr.Tx,fun y hy=>hz y (hsub y hy)⟩
  ·cases h
 ·rename_i ag id i sz off ht hx;rw[hx]at r1;obtain⟨g,o0,len,cap,hk,hv⟩:=r1.I0;split at h
  ·rename_i k e sz' rows hH;split at h
   ·rename_i row hrow;split at h
    ·rename_i a9E;obtain⟨rfl,hk0,hoff⟩:=a9E;obtain⟨hsz,hrl,vk,cs,bs,YK,hown,vU,hΘ,hz⟩:=hs.ob id _ hH;have AK:∀b∈bs,Θ b=0:=by cases k<;>first|exact hz|simp[RK.TY]at hk0
     rw[hk]at YK;cases YK;have ho0:=En hown;subst ho0;rw[cq]at hv;have YJ:row.length=sz':=hrl row (aC hrow);have hcells:∀j c,cs[j]?=some c->w.cell? ⟨g,0+j,none⟩=some c:=by
      intro j c hj;have:=hown.cells (g:=g) (by simp[Value.ownBlock]) j c hj;simpa[Addr.add_lit]using this
     have L:=qM (P:=P) (w:=w) ht (o:=i*sz'+off) hcells;simp only[cq]at L;have aCe:=vU.length;have hmid:=Hg hrl hrow;have hlt:i<rows.length:=(aH.1 hrow).1;have hfl:=pO hrl;have hle:(i+1)*sz'<=rows.length*sz':=dS _ hlt;rw[kW,nk]at hle;unfold KF at h;split at h
     ·rename_i hag;subst hag;simp only[aW]at hoff;split at h
      ·rename_i hl;cases h;have hl':i*sz'+off+BQ P t<=cs.length:=by rw[aCe,hfl];omega
       obtain⟨b',hm,hsub⟩:=vU.mid (i*sz'+off) (BQ P t);have e:(rows.flatten.drop (i*sz'+off)).take (BQ P t)=(row.drop off).take (BQ P t):=by
        rw[<-hmid,List.drop_take,vf,gj,fB (by omega)]
       rw[e]at hm;exact⟨_,b',by simp only[execOp,ho,hv];simp[L.1 rfl hl'],.of (.agg _ _ _ hm),fun y hy=>AK y (hsub y hy)⟩
      ·cases h
     ·rename_i hag;simp only[zI]at hag;subst hag;simp only[af]at hoff;have e:rows.flatten[i*sz'+off]?=some d:=by
       rw[<-hmid,cJ,bQ (by omega),eA]at h;exact h
      obtain⟨v,b',hv',_,hr,hsub⟩:=vU.at e;exact⟨v,b',by simp only[execOp,ho,hv];simp[L.2 rfl v hv'],.of hr,fun y hy=>AK y (hsub y hy)⟩
    ·cases h
   ·cases h
  ·cases h
 ·rename_i ag g o' ht hx;rw[hx]at r1;have hv:=r1.Yp;split at h
  ·obtain⟨ds,⟨p,hp,hcs⟩,hd⟩:=a3O h;obtain⟨B,hB,_⟩:=hs.vsb;obtain⟨_,cs,T,z,hg,hpc⟩:=hB _ hp;obtain⟨v,Uw,hrd⟩:=hcs _ hpc _ _ hd;have hc:∀j c,cs.toList[j]?=some c->w.cell? ⟨g,0+j,none⟩=some c:=by
    intro j c hj;simp only[cq,World.cell?,hg];simpa using hj
   have L:=(qM (P:=P) (w:=w) ht (o:=o') hc).2 rfl v Uw;rw[cq]at L;exact⟨v,[],by simp only[execOp,ho,hv];simp[L],.of (hrd w),by simp⟩
  ·cases h
 ·cases h
theorem Uk{o:Oper}{t f:Nat}{x:Operand}{d:D}(hs:eM Γ st κ Θ a w)(ho:o.op=.field t x f)
 (h:pv P st (.field t x f)=some d):yw P κ Θ a w o d:=by
 obtain⟨b1,r1,z1⟩:=hs.ev x;simp only[pv]at h;split at h
 ·rename_i off ft cells ht hx;rw[hx]at r1;obtain⟨cs,hv,vU⟩:=r1.IB;unfold tft at ht;split at ht
  ·rename_i fs hu;split at ht
   ·rename_i fl hfl;cases ht;split at h
    ·rename_i ag hta;unfold KF at h;split at h
     ·rename_i hag;subst hag;split at h
      ·rename_i hl;cases h;obtain⟨b',hm,hsub⟩:=vU.mid fl.offset (BQ P fl.type) hl;refine⟨.agg ((cs.drop fl.offset).take (BQ P fl.type)).toArray,b',?_,.v (.agg _ _ _ hm),fun y hy=>z1 y (hsub y hy)⟩;have e:cs.toArray.extract fl.offset (fl.offset+BQ P fl.type)=((cs.drop fl.offset).take (BQ P fl.type)).toArray:=by
        rw[List.extract_toArray,List.extract_eq_take_drop];congr 1;congr 1;omega
       simp only[execOp,ho,hv];simp[Instr.field,run_underlying hu,hfl,asAgg,part,IJ hta,xY (NS hta),e]
      ·cases h
     ·rename_i hag;simp only[zI]at hag;subst hag;obtain⟨v,b',Uw,_,hr,hsub⟩:=vU.at h;refine⟨v,b',?_,.v (.cell hr),fun y hy=>z1 y (hsub y hy)⟩;simp only[execOp,ho,hv];simp[Instr.field,run_underlying hu,hfl,asAgg,part,IJ hta,Uw]
    ·cases h
   ·cases ht
  ·cases ht
 ·cases h
theorem PO{o:Oper}{t f:Nat}{x:Operand}{d:D}(hs:eM Γ st κ Θ a w)(ho:o.op=.fieldAddr t x f)
 (h:pv P st (.fieldAddr t x f)=some d):yw P κ Θ a w o d:=by
 obtain⟨b1,r1,z1⟩:=hs.ev x;have hf:∀ {o':Nat},tfo P t f=some o'->∀(b off:Nat),(Instr.fieldAt t (.pointer (some ⟨b,off,none⟩)) f).run P w=.ok (.pointer (some ⟨b,off+o',none⟩)) w:=by
  intro o' h b off;unfold tfo at h;split at h
  ·rename_i fs hu;split at h
   ·rename_i fl hfl;split at h
    ·rename_i hc;cases h;obtain⟨i,hi⟩:=eR.1 hc.1;have hsz:=xY (P:=P) ⟨i,hi⟩ w;have h0:BQ P fl.type≠0:=hc.2;simp[Instr.fieldAt,run_underlying hu,hfl,Instr.sureAddr,fieldPlace,hsz,h0,Addr.add_lit]
    ·cases h
   ·cases h
  ·cases h
 simp only[pv]at h;split at h
 ·rename_i o' id off ht hx;cases h;rw[hx]at r1;obtain⟨g,hk,hv⟩:=r1.Cb;exact⟨_,[],by simp only[execOp,ho,hv];simp[hf ht g off],(BM.ptr id (off+o') g hk).Tx,by simp⟩
 ·rename_i o' row off ht hx;cases h;rw[hx]at r1;have hrd:=r1.WN;generalize YL:a.eval x=vx at hrd;cases hrd with
  |ep b base cs _ _ bs h0 hc vU=>
   refine⟨.pointer (some ⟨b,base+off+o',none⟩),b::bs,by simp only[execOp,ho,YL];simp[hf ht b (base+off)],?_,z1⟩;rw[rL];exact .of (.ep b base cs row (off+o') bs h0 hc vU)
 ·rename_i o' id i sz off ht hx;cases h;rw[hx]at r1;obtain⟨g,o0,len,cap,hk,hv⟩:=r1.I0;refine⟨.pointer (some ⟨g,o0+(i*sz+off)+o',none⟩),[],by simp only[execOp,ho,hv];simp[hf ht g (o0+(i*sz+off))],?_,by simp⟩;rw[rL,rL];exact(BM.op id i sz (off+o') g o0 len cap hk).Tx
 ·cases h
theorem q8{t e sz:Nat}(h:IM P t=some (e,sz)):P.underlying t=some (.slice e)/\(∃i,P.info? e=some i)/\BQ P e=sz:=by
 unfold IM at h;split at h
 ·rename_i e' hu;split at h
  ·rename_i hi;cases h;exact⟨hu,eR.1 hi,rfl⟩
  ·cases h
 ·cases h
theorem PU{o:Oper}{t:Nat}{x i:Operand}{d:D}(hs:eM Γ st κ Θ a w)(ho:o.op=.indexAddr t x i)
 (h:pv P st (.indexAddr t x i)=some d):yw P κ Θ a w o d:=by
 obtain⟨b1,r1,z1⟩:=hs.ev x;obtain⟨b2,r2,z2⟩:=hs.ev i;simp only[pv]at h;split at h
 ·rename_i e sz rows k n ht hx hi;rw[hx]at r1;rw[hi]at r2;have hn:=r2.sF;obtain⟨hu,OT,NQ⟩:=q8 ht;have hsz:=xY (P:=P) OT w;split at h
  ·rename_i h0;split at h
   ·rename_i row hrow;split at h
    ·rename_i hlen;cases h;have hrd:=r1.Tp;have hlt:n.toNat<rows.length:=(aH.1 hrow).1;generalize YL:a.eval x=vx at hrd;cases hrd with
     |B1=>simp at hrow
     |pH=>simp at hrow
     |sl b off cap sz' _ cs bs hb hcap Cy hrl hc vU=>
      have aCh:sz'=sz:=by rw[<-hrl row (aC hrow)];exact hlen
      subst aCh;obtain⟨b',hm,hsub⟩:=vU.mid (n.toNat*sz') sz';rw[Hg hrl hrow]at hm;have hn':0<=n/\n<(rows.length:Int):=⟨h0,by omega⟩
      refine⟨.pointer (some ⟨b,off+n.toNat*sz',none⟩),b::b',?_,?_,?_⟩
      ·simp only[execOp,ho,YL,hn];simp[Instr.indexAt,asIntOf,run_underlying hu,hn',hsz,NQ,Addr.add_lit]
      ·have aCf:∀j c,((cs.drop (n.toNat*sz')).take sz')[j]?=some c->w.cell? ⟨b,off+n.toNat*sz'+j,none⟩=some c:=by
        intro j c hj;rw[cJ]at hj;split at hj
        ·rw[eA]at hj;rw[rL];exact hc _ _ hj
        ·cases hj
       exact .of (.ep b (off+n.toNat*sz') _ row 0 b' hb aCf hm)
      ·intro y hy;rcases bM.1 hy with rfl|hy
       ·exact z1 _ (by simp)
       ·exact z1 _ (by simp[hsub y hy])
    ·cases h
   ·cases h
  ·cases h
 ·rename_i e sz id k n ht hx hi;rw[hx]at r1;rw[hi]at r2;have hn:=r2.sF;obtain⟨hv,_⟩:=r1.xa;obtain⟨hu,OT,NQ⟩:=q8 ht;have hsz:=xY (P:=P) OT w;split at h
  ·rename_i dp e' sz' rows hH;split at h
   ·rename_i hc;cases h;obtain⟨rfl,h0,hlt⟩:=hc;obtain⟨a7I,hrl,vk,cs,bs,YK,hown,vU,hΘ,hz⟩:=hs.ob id _ hH;rw[hv]at YK;cases YK;rcases hown.2 with⟨ue,AK⟩|⟨g,cap,cur,hkv,_⟩
    ·omega
    ·have hn':0<=n/\n<(rows.length:Int):=⟨h0,by omega⟩
     refine⟨_,[],?_,(BM.op id n.toNat sz 0 g 0 _ _ (hkv▸hv)).Tx,by simp⟩;simp only[execOp,ho,hn,hkv];simp[Instr.indexAt,asIntOf,run_underlying hu,hn',hsz,NQ,Addr.add_lit]
   ·cases h
  ·cases h
 ·rename_i g o' kk n hx hi;rw[hx]at r1;rw[hi]at r2;have hn:=r2.sF;have hv:=r1.Yp;split at h
  ·rename_i sz len hT;split at h
   ·rename_i hc;cases h;obtain⟨h0,hlt⟩:=hc;unfold a8T at hT;split at hT
    ·rename_i len' e hu;split at hT
     ·rename_i OT;cases hT;have hsz:=xY (P:=P) (eR.1 OT) w;have hn':0<=n/\n<(len:Int):=⟨h0,by omega⟩
      refine⟨_,[],?_,.of (.val _),by simp⟩;simp only[execOp,ho,hn,hv];simp[Instr.indexAt,Instr.sureAddr,asIntOf,run_underlying hu,hn',hsz,BQ,Addr.add_lit]
     ·cases hT
    ·cases hT
   ·cases h
  ·cases h
 ·cases h
theorem Zc{o:Oper}{t t':Nat}{x y:Operand}{d:D}(hs:eM Γ st κ Θ a w)(ho:o.op=.call {callee:=.builtin .min,args:= #[x,y],argTypes:= #[t,t']})
 (h:a7z (st.ev x) (st.ev y)=some d):yw P κ Θ a w o d:=by
 obtain⟨b1,r1,z1⟩:=hs.ev x;obtain⟨b2,r2,z2⟩:=hs.ev y;unfold a7z at h;split at h
 ·rename_i k m k' n hx hy;split at h
  ·rename_i hk;subst hk;cases h;rw[hx]at r1;rw[hy]at r2;have e1:=r1.sF;have e2:=r2.sF;refine⟨.int k (a4b m n),[],?_,.of (.int _ _ ?_),by simp⟩
   ·simp only[execOp,ho,resolve,invoke,builtin,pR,bH,bX,e1,e2];simp[Builtin.min_,Builtin.min2,a4b]
   ·unfold a4b;split
    ·exact r2.Qc
    ·exact r1.Qc
  ·cases h
 ·cases h
theorem ZY{o:Oper}{t:Nat}{x:Operand}{d:D}(hs:eM Γ st κ Θ a w)(ho:o.op=.call {callee:=.builtin .len,args:= #[x],argTypes:= #[t]})
 (h:a55 P st x t=some d):yw P κ Θ a w o d:=by
 obtain⟨b1,r1,z1⟩:=hs.ev x;unfold a55 at h;split at h
 ·rename_i s hx;split at h
  ·rename_i ht;cases h;rw[hx]at r1;obtain⟨u,hv,rfl⟩:=r1.wZ;have hu:P.underlying t=some .string:=by
    unfold Of at ht;split at ht
    ·assumption
    ·cases ht
   refine⟨.int .i64 (u.data.toList.length:Nat),[],?_,.of (.int _ _ (TU r1.a3F)),by simp⟩;simp only[execOp,ho,resolve,invoke,builtin,pR,bH,bX,hv];simp[Builtin.len_,run_underlying hu,goInt]
  ·cases h
 ·rename_i rows hx;split at h
  ·rename_i ht;cases h;rw[hx]at r1;obtain⟨⟨e,sz⟩,ht⟩:=eR.1 ht;obtain⟨hu,_,_⟩:=q8 ht;have hrd:=r1.Tp;generalize YL:a.eval x=vx at hrd;have hlen:∃q c,vx=.slice q rows.length c:=by
    cases hrd with
    |B1=>exact⟨_,_,rfl⟩
    |pH=>exact⟨_,_,rfl⟩
    |sl=>exact⟨_,_,rfl⟩
   have Cy:rows.length<=maxLen:=by
    cases hrd with
    |B1=>simp
    |pH=>simp
    |sl b off cap sz _ cs bs hb h1 h2=>omega
   obtain⟨q,c,rfl⟩:=hlen;refine⟨.int .i64 rows.length,[],?_,.of (.int _ _ (TU Cy)),by simp⟩;simp only[execOp,ho,resolve,invoke,builtin,pR,bH,bX,YL];simp[Builtin.len_,run_underlying hu,goInt]
  ·cases h
 ·rename_i hx;split at h
  ·rename_i ht;cases h;rw[hx]at r1;obtain⟨⟨e,sz⟩,ht⟩:=eR.1 ht;obtain⟨hu,_,_⟩:=q8 ht;have hv:=r1.Nb;refine⟨.int .i64 0,[],?_,.of (.int _ _ (tU.zero _)),by simp⟩;simp only[execOp,ho,resolve,invoke,builtin,pR,bH,bX,hv];simp[Builtin.len_,run_underlying hu,goInt]
  ·cases h
 ·rename_i id hx;split at h
  ·rename_i p dp e' sz' rows ht hH;cases h;rw[hx]at r1;obtain⟨hv,_⟩:=r1.xa;obtain⟨e,sz⟩:=p;obtain⟨hu,_,_⟩:=q8 ht;obtain⟨a7I,hrl,vk,cs,bs,YK,hown,vU,hΘ,hz⟩:=hs.ob id _ hH;rw[hv]at YK;cases YK;have hlen:∃q c,a.eval x=.slice q rows.length c:=by
    rcases hown.2 with⟨ue,AK⟩|⟨g,cap,cur,hkv,_⟩
    ·exact⟨none,0,by rw[ue,AK]⟩
    ·exact⟨_,_,hkv⟩
   have Cy:rows.length<=maxLen:=by
    rcases hown.2 with⟨ue,AK⟩|⟨g,cap,cur,hkv,_,_,h1,h2,_⟩
    ·omega
    ·omega
   obtain⟨q,c,hk⟩:=hlen;refine⟨.int .i64 rows.length,[],?_,.of (.int _ _ (TU Cy)),by simp⟩;simp only[execOp,ho,resolve,invoke,builtin,pR,bH,bX,hk];simp[Builtin.len_,run_underlying hu,goInt]
  ·cases h
 ·cases h
theorem E8.at{vs:br}{ds:aS}{bs:aa}(h:E8 w κ vs ds bs){i:Nat}{d:D}(hd:ds[i]?=some d):
 ∃v b,vs[i]?=some v/\Pz w κ v d b/\∀x∈b,x∈bs:=by
 induction ds generalizing vs bs i with
 |nil=>simp at hd
 |cons e ds ih=>
  cases h with
  |cons v vs _ _ b1 b2 h2 h3=>
   cases i with
   |zero=>simp at hd;subst hd;exact⟨v,b1,by simp,h2,by intro x hx;simp[hx]⟩
   |succ i=>
    simp at hd;obtain⟨u,b,k1,k3,k4⟩:=ih h3 hd;exact⟨u,b,by simpa using k1,k3,fun x hx=>by simp[k4 x hx]⟩
theorem td.a5Q{v:Value}{ds:aS}{bs:aa}(h:td w κ v (.iF ds) bs):∃vs:br,v=.tuple vs.toArray/\E8 w κ vs ds bs:=by
 cases h with
 |v h=>cases h with|cell h=>cases h with|pure h=>cases h
 |iF vs _ _ h=>exact⟨vs,rfl,h⟩
theorem RX{o:Oper}{i:Nat}{x:Operand}{d:D}(hs:eM Γ st κ Θ a w)(ho:o.op=.extract x i)
 (h:pv P st (.extract x i)=some d):yw P κ Θ a w o d:=by
 obtain⟨b1,r1,z1⟩:=hs.ev x;simp only[pv]at h;split at h
 ·rename_i vs hx;rw[hx]at r1;obtain⟨us,hv,hr⟩:=r1.a5Q;obtain⟨v,b,k1,k2,k3⟩:=hr.at h;exact⟨v,b,by simp only[execOp,ho,hv];simp[Instr.extract,k1],.v k2,fun y hy=>z1 y (k3 y hy)⟩
 ·cases h
theorem zU{t:Nat}(ht:Of P t=true):P.underlying t=some .string:=by
 unfold Of at ht;split at ht
 ·assumption
 ·cases ht
theorem Uz{o:Oper}{t:Nat}{x i:Operand}{d:D}(hs:eM Γ st κ Θ a w)(ho:o.op=.index t x i)
 (h:pv P st (.index t x i)=some d):yw P κ Θ a w o d:=by
 obtain⟨b1,r1,z1⟩:=hs.ev x;obtain⟨b2,r2,z2⟩:=hs.ev i;simp only[pv]at h;split at h
 ·rename_i s k n ht hx hi;rw[hx]at r1;rw[hi]at r2;obtain⟨u,hv,rfl⟩:=r1.wZ;have hn:=r2.sF;have hu:=zU ht;split at h
  ·rename_i h0;split at h
   ·rename_i b hb;cases h;have hlt:n.toNat<u.size:=by
     have:=(aH.1 hb).1;simpa using this
    have T7:u[n.toNat]?=some b:=by
     have hb':u.data[n.toNat]?=some b:=by simpa using hb
     rw[getElem?_pos u n.toNat hlt];rw[bL]at hb';obtain⟨_,he⟩:=hb';rw[<-he];rfl
    refine⟨.int .u8 b.toNat,[],?_,.of (.int _ _ (tU.u8.2 (by have:=b.toNat_lt;omega))),by simp⟩;simp only[execOp,ho,hv,hn];simp[Instr.index,asIntOf,run_underlying hu,h0,T7]
   ·cases h
  ·cases h
 ·cases h
theorem Th{lo hi:Option Operand}{l h':Nat}{isSlice:Bool}{len cap:Nat}(hs:eM Γ st κ Θ a w)
 (hlc:len<=cap) (h:PX len (lo.map st.ev) (hi.map st.ev)=some (l,h')):
 (Instr.sliceBounds isSlice len cap (lo.map a.eval) (hi.map a.eval) none).run P w=.ok (l,h',cap) w/\l<=h'/\h'<=len:=by
 have hv:∀ {x:Operand} {k:IntKind} {n:Int},st.ev x=.int k n->a.eval x=.int k n:=by
  intro x k n hx;obtain⟨b,r,_⟩:=hs.ev x;rw[hx]at r;exact r.sF
 unfold PX at h;cases hi with
 |none=>
  simp only[AR]at h⊢;cases lo with
  |none=>
   simp only[AR,ax,cU]at h⊢;obtain⟨rfl,rfl⟩:=h;exact⟨by simp[Instr.sliceBounds],by omega,by omega⟩
  |some lo=>
   simp only[cZ]at h⊢;cases hlo:st.ev lo<;>simp only[hlo,reduceCtorEq]at h;rename_i k n;split at h
   ·cases h
   ·rename_i l0 hm;split at hm
    ·rename_i hb;cases hm;cases h;have YG:0<=n/\n<=(h':Int):=⟨hb.1,by omega⟩
     exact⟨by simp[Instr.sliceBounds,Instr.sliceBound,hv hlo,asIntOf,YG],hb.2,by omega⟩
    ·cases hm
 |some hi=>
  simp only[cZ]at h⊢;cases hhi:st.ev hi<;>simp only[hhi,reduceCtorEq]at h;rename_i k m;split at h
  ·cases h
  ·rename_i h0 hm;split at hm
   ·rename_i hb;cases hm;have YG:0<=m/\m<=(cap:Int):=⟨hb.1,by omega⟩
    cases lo with
    |none=>
     simp only[AR,ax,cU]at h⊢;obtain⟨rfl,rfl⟩:=h;exact⟨by simp[Instr.sliceBounds,Instr.sliceBound,hv hhi,asIntOf,YG],by omega,hb.2⟩
    |some lo=>
     simp only[cZ]at h⊢;cases hlo:st.ev lo<;>simp only[hlo,reduceCtorEq]at h;rename_i k' n;split at h
     ·cases h
     ·rename_i l0 hm;split at hm
      ·rename_i hbl;cases hm;cases h;have hb3:0<=n/\n<=max m 0:=⟨hbl.1,by omega⟩
       exact⟨by simp[Instr.sliceBounds,Instr.sliceBound,hv hhi,hv hlo,asIntOf,YG,hb3],hbl.2,hb.2⟩
      ·cases hm
   ·cases hm
theorem a2d{rows:List aS}{sz l h':Nat}(hrl:∀r∈rows,r.length=sz)(h1:l<=h')(h2:h'<=rows.length):
 ((rows.take h').drop l).flatten=(rows.flatten.drop (l*sz)).take ((h'-l)*sz):=by
 have e:rows=(rows.take l)++(((rows.take h').drop l)++rows.drop h'):=by
  have hA:rows.take h'=(rows.take h').take l++(rows.take h').drop l:=(cC _ _).symm;have hB:(rows.take h').take l=rows.take l:=by rw[vf,fB h1]
  rw[hB]at hA;rw[<-bY,<-hA,cC]
 have l1:(rows.take l).flatten.length=l*sz:=by
  rw[pO (fun r hr=>hrl r (cG hr)),cM,fB (by omega)]
 have l2:((rows.take h').drop l).flatten.length=(h'-l)*sz:=by
  rw[pO (fun r hr=>hrl r (cG (gI hr))),wT,cM,fB (by omega)]
 have hf:rows.flatten=(rows.take l).flatten++(((rows.take h').drop l).flatten++(rows.drop h').flatten):=by
  rw[<-lz,<-lz,<-e]
 rw[hf,fm l1,j7 l2]
theorem VU{o:Oper}{t:Nat}{x:Operand}{lo hi:Option Operand}{d:D}(hs:eM Γ st κ Θ a w)(ho:o.op=.slice t x lo hi none)
 (h:pv P st (.slice t x lo hi none)=some d):yw P κ Θ a w o d:=by
 obtain⟨b1,r1,z1⟩:=hs.ev x;simp only[pv]at h;split at h
 ·rename_i s hx;rw[hx]at r1;obtain⟨u,hv,rfl⟩:=r1.wZ;split at h
  ·rename_i ht;have hu:=zU ht;split at h
   ·rename_i l h' hc;cases h;obtain⟨hr,hl,hh⟩:=Th (P:=P) (isSlice:=false) (cap:=u.data.toList.length) hs (bR _) hc;have hsz:u.data.toList.length=u.size:=by simp
    rw[hsz]at hr;refine⟨.string (u.extract l h'),[],?_,?_,by simp⟩
    ·simp only[execOp,ho,hv];simp[Instr.sliceAt,Instr.slice,run_underlying hu,hr]
    ·have:=Rd.str (w:=w) (u.extract l h') (by
      have h1:=r1.a3F;simp at h1⊢;omega)
     have e:(u.extract l h').data.toList=(u.data.toList.take h').drop l:=by
      simp[ByteArray.data_extract,List.drop_take]
     rw[e]at this;exact .of this
   ·cases h
  ·cases h
 ·rename_i rows hx;rw[hx]at r1;have hrd:=r1.Tp;split at h
  ·rename_i e sz l h' ht hc;split at h
   ·rename_i hall;cases h;obtain⟨hu,OT,NQ⟩:=q8 ht;have hsz:=xY (P:=P) OT w;have hrl:∀r∈rows,r.length=sz:=by
     intro r hr;have:=bB.1 hall r hr;simpa using this
    generalize YL:a.eval x=vx at hrd;have main:∀(q:Option Addr) (cap:Nat),vx=.slice q rows.length cap->rows.length<=cap->
     (execOp a.eval o).run P w=.ok (.value (.slice (if cap=l then q else q.map (·.add (l*sz))) (h'-l) (cap-l))) w/\l<=h'/\h'<=rows.length:=by
     intro q cap hq hcap;obtain⟨hr,hl,hh⟩:=Th (P:=P) (isSlice:=true) (cap:=cap) hs hcap hc;refine⟨?_,hl,hh⟩;simp only[execOp,ho,YL,hq];simp[Instr.sliceAt,Instr.slice,run_underlying hu,hr,hsz,NQ]
    cases hrd with
    |B1=>
     obtain⟨hr,hl,hh⟩:=main none 0 rfl (by simp);simp only[bK]at hh;have e1:h'=0:=by omega
     have e2:l=0:=by omega
     subst e1;subst e2;exact⟨_,[],hr,by simpa using td.of (κ:=κ) (Rd.B1 (w:=w)),by simp⟩
    |pH ad cap hm=>
     obtain⟨hr,hl,hh⟩:=main (some ad) cap rfl (by simp);simp only[bK]at hh;have e1:h'=0:=by omega
     have e2:l=0:=by omega
     subst e1;subst e2;refine⟨_,[],hr,?_,by simp⟩;have:(if cap=0 then some ad else(some ad).map (·.add (0*sz)))=some ad:=by simp[Addr.add]
     rw[this];exact .of (by simpa using Rd.pH (w:=w) ad cap hm)
    |sl b off cap sz' _ cs bs hb hcap Cy PT hcc vU=>
     obtain⟨hr,hl,hh⟩:=main (some ⟨b,off,none⟩) cap rfl hcap;by_cases he:h'=l
     ·subst he;refine⟨_,[],hr,?_,by simp⟩;have e1:(rows.take h').drop h'=[]:=by simp
      rw[e1,p8];split
      ·exact .of (.pH _ _ (by omega))
      ·simp only[cZ];exact .of (.pH _ _ (by omega))
     ·have hne:cap≠l:=by omega
      rw[bG hne,cZ,Addr.add_lit]at hr;obtain⟨b',hm,hsub⟩:=vU.mid (l*sz) ((h'-l)*sz);rw[<-a2d hrl hl hh]at hm;refine⟨_,b::b',hr,?_,?_⟩
      ·have hlen:((rows.take h').drop l).length=h'-l:=by simp;omega
       rw[<-hlen];refine .of (.sl b (off+l*sz) (cap-l) sz _ _ b' hb (by omega) (by omega) (fun r hr=>hrl r (cG (gI hr))) ?_ hm);intro j c hj;rw[cJ]at hj;split at hj
       ·rw[eA]at hj;rw[rL];exact hcc _ _ hj
       ·cases hj
      ·intro y hy;rcases bM.1 hy with rfl|hy
       ·exact z1 _ (by simp)
       ·exact z1 _ (by simp[hsub y hy])
   ·cases h
  ·cases h
 ·cases h
theorem SN{v:Value}(h:v.oneCell'=true):v.cells.toList=[v]:=by
 cases v<;>first|rfl|cases h
theorem BM.one{v:Value}{d:D}{bs:aa}(h:BM w κ v d bs)(hk:∀(id:Nat) u,κ id=some u->u.oneCell'=true)(hna:∀es,d≠ .agg es)(hc:d.cellsOf=some [d]):v.oneCell'=true:=by
 cases h with
 |pure h=>
  cases h<;>first
   |rfl
   | (exfalso;exact hna _ rfl)
   | (simp[D.cellsOf]at hc;done)
   | (simp only[D.cellsOf]at hc;split at hc<;>first|assumption|cases hc)
 |acc i v h=>exact hk i v h
 |ptr=>rfl
 |op=>rfl
theorem DK{v:Value}{d:D}{bs:aa}{ds:aS}(hk:∀(id:Nat) u,κ id=some u->u.oneCell'=true)(h:td w κ v d bs)(hc:d.cellsOf=some ds):fM w κ v.cells.toList ds bs:=by
 have single:∀ {v d bs},BM w κ v d bs->(∀es,d≠ .agg es)->d.cellsOf=some [d]->fM w κ v.cells.toList [d] bs:=by
  intro v d bs h hna hc;have h1:=h.one hk hna hc;rw[SN h1];have:=fM.cons v [] d [] bs [] h1 h .nil;simpa using this
 cases h with
 |iF=>simp[D.cellsOf]at hc
 |v h=>
  cases h with
  |agg cs _ _ h=>simp only[D.cellsOf,ax]at hc;subst hc;simpa[Value.cells]using h
  |cell h=>
   by_cases ve:∃es,d=.agg es
   ·obtain⟨es,rfl⟩:=ve;simp only[D.cellsOf,ax]at hc;subst hc;cases h with
    |pure h=>cases h with|agg cs _ _ h=>simpa[Value.cells]using fM.F0 (κ:=κ) h
   ·have e:ds=[d]:=by
     cases d<;>simp only[D.cellsOf,ax,reduceCtorEq]at hc<;>first
      |exact hc.symm
      | (exfalso;exact ve ⟨_,rfl⟩)
      | (split at hc<;>first| (simp at hc;exact hc.symm)|cases hc)
    subst e;exact single h (fun es he=>ve ⟨es,he⟩) hc
theorem zX{T:TypeId}{zs:aS}(hz:tz P T=some zs):∃i z,P.info? T=some i/\i.zero=some z/\z.cells.size=i.size/\zs.length=i.size/\(∀c∈z.cells.toList,c.oneCell'=true)/\zs=z.cells.toList.map D.X6:=by
 unfold tz at hz;split at hz
 ·rename_i i hi;split at hz
  ·rename_i z RM;split at hz
   ·rename_i hc;cases hz;simp only[aY,bB,cj]at hc;exact⟨i,z,hi,RM,hc.2,by simp[hc.2],hc.1,rfl⟩
   ·cases hz
  ·cases hz
 ·cases hz
theorem Dq(cs:br)(h:∀c∈cs,c.oneCell'=true):fM w κ cs (cs.map D.X6) []:=by
 induction cs with
 |nil=>exact .nil
 |cons c cs ih=>
  have hrd:Rd w c (D.X6 c) []:=by
   unfold D.X6;split
   ·exact .bool _
   ·split
    ·rename_i h;exact .int _ _ h
    ·exact .val _
   ·split
    ·rename_i h;exact .str _ h
    ·exact .val _
   ·exact .nil
   ·exact .val _
  have:=fM.cons (κ:=κ) c cs _ _ [] [] (h c (by simp)) (.pure hrd) (ih (fun x hx=>h x (by simp[hx])));simpa using this
theorem foldl_set(off:Nat):∀(vs:br) (k:Nat) (cells:Array Value),off+k+vs.length<=cells.size->
 ((vs.zipIdx k).foldl (fun cs (x:Value×Nat)=>cs.setIfInBounds (off+x.2) x.1) cells).toList=cells.toList.take (off+k)++vs++cells.toList.drop (off+k+vs.length):=by
 intro vs
 induction vs with
 |nil=>intro k cells _;simp
 |cons v vs ih=>
  intro k cells h;simp only[aL]at h;rw[List.zipIdx_cons,e9,ih (k+1) _ (by simp;omega)];simp only[Array.toList_setIfInBounds,aL];have hlt:off+k<cells.toList.length:=by simp;omega
  rw[show off+(k+1)=off+k+1 from by omega,List.take_set,List.drop_set,bQ (by omega)];rw[show off+k+1+vs.length=off+k+(vs.length+1)from by omega]
  congr 1
  rw[show v::vs=[v]++vs from rfl,<-bY]
  congr 1
  rw[List.take_succ_eq_append_getElem hlt,me _ _ (by simp;omega)];have:(List.take (off+k) cells.toList).length=off+k:=by rw[cM];omega
  rw[this,p8];rfl
theorem Y8(hs:eM Γ st κ Θ a w){places:List (Nat×Nat)}:∀(parts:List (Nat×Operand)) (cs:Array Value) (cells ds:aS) (bs:aa),
 fM w κ cs.toList cells bs->(∀b∈bs,Θ b=0)->AE places cells (parts.map fun p=>(p.1,st.ev p.2))=some ds->
 ∃arr bs',Instr.fill (places.toArray[·]?) cs (parts.map fun p=>(p.1,a.eval p.2))=some arr/\fM w κ arr.toList ds bs'/\∀b∈bs',Θ b=0:=by
 intro parts
 induction parts with
 |nil=>
  intro cs cells ds bs hr hz hf;simp only[bX,AE,ax]at hf;subst hf;exact⟨cs,bs,rfl,hr,hz⟩
 |cons p parts ih=>
  intro cs cells ds bs hr hz hf
  ·obtain⟨i,x⟩:=p;obtain⟨b,hv,hb⟩:=hs.ev x;generalize hvv:a.eval x=v at hv;simp only[bH,AE]at hf;split at hf
   ·rename_i off sz es hpl hes;split at hf
    ·rename_i hc;have hcs:=DK hs.qX hv hes;have hl1:=hcs.length;have Ej:=hr.length;have e:cells=cells.take off++((cells.drop off).take sz++(cells.drop off).drop sz):=by rw[cC,cC]
     rw[e]at hr;obtain⟨v1,v2,c1,c2,QZ,rfl,k1,k2⟩:=hr.split;obtain⟨v3,v4,c3,c4,rfl,rfl,k3,k4⟩:=k2.split;have l1:v1.length=off:=by rw[k1.length];simp;omega
     have l3:v3.length=sz:=by rw[k3.length];simp;omega
     have hvs:v.cells.size=sz:=by rw[<-hc.1,<-hl1];simp
     have hcl:cs.size=cells.length:=by rw[<-Ej];simp
     have a1K:=foldl_set off v.cells.toList 0 cs (by simp;omega);simp only[B2,wq,hvs]at a1K;have e1:cs.toList.take off=v1:=by rw[QZ];exact j7 l1
     have e4:cs.toList.drop (off+sz)=v4:=by rw[QZ,<-gj,fm l1];exact fm l3
     rw[e1,e4]at a1K;rw[gj]at k4;have hnew:=(k1.app hcs).app k4;obtain⟨arr,bs',h1,h2,h3⟩:=ih (v.cells.zipIdx.foldl (fun cs (x:Value×Nat)=>cs.setIfInBounds (off+x.2) x.1) cs) _ ds ((c1++b)++c4)
      (by rw[<-Array.foldl_toList,Array.toList_zipIdx,a1K];exact hnew)
      (by
       intro x hx;simp only[ar]at hx;rcases hx with(hx|hx)|hx
       ·exact hz x (by simp[hx])
       ·exact hb x hx
       ·exact hz x (by simp[hx])) hf
     refine⟨arr,bs',?_,h2,h3⟩;simp only[bH,Instr.fill,mc,hpl,hvv];rw[bG (by simp;omega)];simpa using h1
    ·cases hf
   ·cases hf
theorem UX{o:Oper}{t:TypeId}{parts:Array (Nat×Operand)}{d:D}(hs:eM Γ st κ Θ a w)(ho:o.op=.build t parts)
 (h:pv P st (.build t parts)=some d):yw P κ Θ a w o d:=by
 simp only[pv]at h;split at h
 ·rename_i zs ps hz hp;cases hf:AE ps zs (parts.toList.map fun p=>(p.1,st.ev p.2))with
  |none=>simp[hf]at h
  |some ds=>
   simp only[hf,cZ,ax]at h;subst h;obtain⟨i,z,hi,AK,hsz,hlen,hone,rfl⟩:=zX hz;obtain⟨arr,bs',h1,h2,h3⟩:=Y8 hs parts.toList z.cells _ ds [] (Dq z.cells.toList hone) (by simp) hf;have hb:P.built t (parts.map fun(i,x)=>(i,a.eval x)).toList=some arr:=by
    unfold Yi at hp;split at hp
    ·rename_i fs hu;unfold Program.built;simp only[hi,hu,AK,hp];rw[jA];exact h1
    ·cases hp
   refine⟨.agg arr,bs',?_,?_,h3⟩
   ·simp only[execOp,ho];simp[run_build w t _ arr hb]
   ·have:=Pz.agg (w:=w) (κ:=κ) arr.toList ds bs' h2;exact .v (by simpa using this)
 ·cases h
theorem run_equalIn_bool{t:TypeId}{a b:Bool}(h:P.underlying t=some .bool)(d:Nat):(Op.equalIn (d+1) t (.bool a) (.bool b)).run P w=.ok (a==b) w:=by
 simp[Op.equalIn,run_underlying h]
theorem F3{t:TypeId}{a b:ByteArray}(h:P.underlying t=some .string)(d:Nat):(Op.equalIn (d+1) t (.string a) (.string b)).run P w=.ok (a==b) w:=by
 simp[Op.equalIn,run_underlying h]
theorem Nj{t:TypeId}(h:Of P t=true){xs:Array Value}{off:Nat}{v:Value}(hx:xs[off]?=some v):(part t xs off).run P w=.ok v w:=by
 simp[part,isAgg,run_underlying (zU h),hx]
theorem Oc{t:TypeId}{a b c e:ByteArray}(h:Yh P t=true)(d:Nat):(Op.equalIn (d+2) t (.agg #[.string a,.string b]) (.agg #[.string c,.string e])).run P w=.ok (a==c&&b==e) w:=by
 unfold Yh at h;split at h
 ·rename_i fs hu;split at h
  ·rename_i f g hfs;simp only[aY,bne_iff_ne,ne_eq,cj,qp]at h;obtain⟨⟨⟨⟨⟨⟨⟨h1,h2⟩,h3⟩,h4⟩,h5⟩,h6⟩,h7⟩,h8⟩:=h;have aCC:fs= #[f,g]:=by apply wS.mp;simpa using hfs
   subst aCC;have p1:=fun(xs:Array Value) (v:Value) (hx:xs[0]?=some v)=>Nj (w:=w) h5 hx
   have p2:=fun(xs:Array Value) (v:Value) (hx:xs[1]?=some v)=>Nj (w:=w) h6 hx
   have q1:=F3 (P:=P) (w:=w) (a:=a) (b:=c) (zU h5) d;have q2:=F3 (P:=P) (w:=w) (a:=b) (b:=e) (zU h6) d;rw[Op.equalIn];generalize(a==c)=r1 at q1⊢;generalize(b==e)=r2 at q2⊢;cases r1<;>cases r2<;>simp[run_underlying hu,h7,h1,h2,h3,h4,p1,p2,q1,q2]
  ·cases h
 ·cases h
theorem fM.Yk{κ:Nat->Option Value}{cs:br}{p q:Bytes}{bs:aa}(h:fM w κ cs [.str p,.str q] bs):∃u v:ByteArray,cs=[.string u,.string v]/\u.data.toList=p/\v.data.toList=q:=by
 cases h with
 |cons v1 vs _ _ b1 b2 _ h1 h2=>
  cases h2 with
  |cons v2 vs' _ _ b3 b4 _ h3 h4=>
   cases h4;obtain⟨u,rfl,hu⟩:=(td.v (.cell h1):td w κ _ _ _).wZ;obtain⟨v,rfl,hv⟩:=(td.v (.cell h3):td w κ _ _ _).wZ;exact⟨u,v,rfl,hu,hv⟩
theorem a0x(u v:ByteArray):(u==v)=(u.data==v.data):=by cases u;cases v;rfl
theorem Zp{o:Oper}{op:BinOp}{t t':TypeId}{x y:Operand}{d:D}(hs:eM Γ st κ Θ a w)(ho:o.op=.binOp op t x y t')
 (h:peq P op t (st.ev x) (st.ev y)=some d):yw P κ Θ a w o d:=by
 obtain⟨b1,r1,_⟩:=hs.ev x;obtain⟨b2,r2,_⟩:=hs.ev y;generalize st.ev x=dx at*;generalize st.ev y=dy at*;unfold peq at h;split at h
 ·rename_i p q;split at h
  ·rename_i hb;have hu:P.underlying t=some .bool:=by
    unfold a6U at hb;split at hb
    ·assumption
    ·cases hb
   have e1:=r1.yW;have e2:=r2.yW;have hq:=run_equalIn_bool (P:=P) (w:=w) (a:=p) (b:=q) hu 9999;have q':(Op.equal t (.bool p) (.bool q)).run P w=.ok (p==q) w:=hq;cases op<;>simp only[ax,reduceCtorEq]at h
   all_goals subst h
   all_goals exact⟨_,[],by(simp[execOp,ho,e1,e2,binOp,eqGuard,q'])<;>(cases p<;>cases q<;>rfl),.of (.bool _),by simp⟩
  ·cases h
 ·rename_i p1 p2 q1 q2;split at h
  ·rename_i hb;obtain⟨cs1,e1,k1⟩:=r1.IB;obtain⟨cs2,e2,k2⟩:=r2.IB;obtain⟨u1,u2,rfl,rfl,rfl⟩:=fM.Yk k1;obtain⟨v1,v2,rfl,rfl,rfl⟩:=fM.Yk k2;have hg:P.eqGuardType P.depth t=false:=by
    unfold Yh at hb;split at hb
    ·split at hb
     ·simp only[aY,qp]at hb;exact hb.2
     ·cases hb
    ·cases hb
   have q:=Oc (P:=P) (w:=w) (a:=u1) (b:=u2) (c:=v1) (e:=v2) hb 9998;have q':(Op.equal t (.agg #[.string u1,.string u2]) (.agg #[.string v1,.string v2])).run P w=.ok (u1==v1&&u2==v2) w:=q;cases op<;>simp only[ax,reduceCtorEq]at h
   all_goals subst h
   all_goals exact⟨_,[],by(simp[execOp,ho,e1,e2,binOp,eqGuard,hg,q'])<;>(rw[a0x,a0x]),.of (.bool _),by simp⟩
  ·cases h
 ·cases h
theorem td.a4k{v:Value}{b:Bool}{bs:aa}(h:td w κ v (.ifc b) bs):(b=false/\v=.nilIface)\/(b=true/\∃t u,v=.iface t u):=by
 cases h with|v h=>cases h with|cell h=>cases h with|pure h=>cases h with
  |ZS=>exact .inl ⟨rfl,rfl⟩
  |ZT t u=>exact .inr ⟨rfl,t,u,rfl⟩
theorem Ni{t:TypeId}{ms:Array (String×TypeId)}(hu:P.underlying t=some (.interface ms)):(Op.equal t .nilIface .nilIface).run P w=.ok true w:=by
 unfold Op.equal Op.maxDepth;rw[Op.equalIn];simp[run_underlying hu]
theorem KI{t:TypeId}{ms:Array (String×TypeId)}{t1:TypeId}{v1:Value}(hu:P.underlying t=some (.interface ms)):(Op.equal t (.iface t1 v1) .nilIface).run P w=.ok false w:=by
 unfold Op.equal Op.maxDepth;rw[Op.equalIn];simp[run_underlying hu]
theorem XB{o:Oper}{op:BinOp}{t t':TypeId}{x y:Operand}{d:D}(hs:eM Γ st κ Θ a w)(ho:o.op=.binOp op t x y t')
 (h:a7y op (st.ev x) (st.ev y)=some d):yw P κ Θ a w o d:=by
 obtain⟨b1,r1,_⟩:=hs.ev x;obtain⟨b2,r2,_⟩:=hs.ev y;generalize st.ev x=dx at*;generalize st.ev y=dy at*;unfold a7y at h;split at h
 ·rename_i k p k' q;have e1:=r1.sF;have e2:=r2.sF;cases op<;>simp only[reduceCtorEq]at h
  case shr=>
   split at h
   ·rename_i hq;cases h;exact⟨_,[],by simp[execOp,ho,e1,e2,binOp,eqGuard,Op.shift,show¬q<0 by omega,a5J],.of (.int _ _ (r1.Qc.shr q)),by simp⟩
   ·cases h
  all_goals
   split at h
   ·rename_i hk;subst hk;cases h;exact⟨_,[],by simp[execOp,ho,e1,e2,binOp,eqGuard,Op.intBits,a5Z,a8x,a5b],.of (.int _ _ (tU.wrap _ _)),by simp⟩
   ·cases h
 ·cases h
theorem XC{o:Oper}{op:BinOp}{t t':TypeId}{x y:Operand}{d:D}(hs:eM Γ st κ Θ a w)(ho:o.op=.binOp op t x y t')
 (h:a81 P op t (st.ev x) y=some d):yw P κ Θ a w o d:=by
 obtain⟨b1,r1,_⟩:=hs.ev x;generalize st.ev x=dx at*;unfold a81 at h;split at h
 ·rename_i b;have hy:a.eval (.const .nilIface)=.nilIface:=rfl;have hT:∀ {op'},a8U P t=true->op=op'->∃ms,P.underlying t=some (.interface ms):=by
   intro _ ht _;unfold a8U at ht;split at ht
   ·rename_i ms hu;exact⟨ms,hu⟩
   ·cases ht
  rcases r1.a4k with⟨rfl,hx⟩|⟨rfl,t1,v1,hx⟩
  ·split at h
   ·rename_i ht;cases h;obtain⟨ms,hu⟩:=hT ht rfl;exact⟨.bool true,[],by simp[execOp,ho,hx,hy,binOp,eqGuard_nil_constR,Ni hu],.of (.bool _),by simp⟩
   ·rename_i ht;cases h;obtain⟨ms,hu⟩:=hT ht rfl;exact⟨.bool false,[],by simp[execOp,ho,hx,hy,binOp,eqGuard_nil_constR,Ni hu],.of (.bool _),by simp⟩
   ·cases h
  ·split at h
   ·rename_i ht;cases h;obtain⟨ms,hu⟩:=hT ht rfl;exact⟨.bool false,[],by simp[execOp,ho,hx,hy,binOp,eqGuard,KI hu],.of (.bool _),by simp⟩
   ·rename_i ht;cases h;obtain⟨ms,hu⟩:=hT ht rfl;exact⟨.bool true,[],by simp[execOp,ho,hx,hy,binOp,eqGuard,KI hu],.of (.bool _),by simp⟩
   ·cases h
 ·cases h
theorem Ai.cons{w:World}{e:MapEntry}{es:List MapEntry}{p:D×D}{kv:List (D×D)}(h:Ai w (e::es) (p::kv)):Rd w e.key p.1 []/\Rd w e.val p.2 []/\Ai w es kv:=
 ⟨(h.2 0 e p rfl rfl).1,(h.2 0 e p rfl rfl).2,by simpa using h.1,fun j e' p' h1 h2=>h.2 (j+1) e' p' (by simpa using h1) (by simpa using h2)⟩
theorem a5Y{x y:ByteArray}:(x==y)=(x.data.toList==y.data.toList):=by
 rw[bp,MapKept.bytes_beq,cj];constructor
 ·intro h;rw[h]
 ·intro h;obtain⟨a⟩:=x;obtain⟨b⟩:=y;simp only at h;rw[wS]at h;rw[h]
theorem Pn{w:World}{kd:TypeDesc}{k k':D}{u u':Value}{b:Bool}(Ra:Ls kd k=true)(hu:Rd w u k [])(BF:Rd w u' k' [])(h:keq k k'=some b):Instr.sameNow kd u u'=some b/\(b=true->u'=u):=by
 unfold keq at h;split at h
 ·rename_i s s';cases h;cases hu with
  |str x hx=>
   cases BF with
   |str y hy=>
    cases kd<;>simp[Ls]at Ra;refine⟨by simp only[Instr.sameNow];rw[a5Y],fun e=>?_⟩;rw[<-a5Y,MapKept.bytes_beq]at e;rw[e]
 ·rename_i k1 a k2 b';split at h
  ·rename_i e;subst e;cases h;cases hu with
   |int _ _ hx=>
    cases BF with
    |int _ _ hy=>
     cases kd<;>simp[Ls]at Ra;refine⟨by simp[Instr.sameNow],fun e=>?_⟩;have:a=b':=by simpa using e
     rw[this]
  ·cases h
 ·cases h
theorem a4n{w:World}{kd:TypeDesc}{k:D}{u:Value}(Ra:Ls kd k=true)(hu:Rd w u k []):∀ {es:List MapEntry} {kv:List (D×D)} {r:Option D} (i:Nat),Ai w es kv->Hs k kv=some r->
 (r=none/\Instr.findNow kd u es i=some none)\/∃d v j,r=some d/\Instr.findNow kd u es i=some (some (j,v))/\Rd w v d []:=by
 intro es
 induction es with
 |nil=>
  intro kv r i hr h;cases kv with
  |nil=>cases h;exact .inl ⟨rfl,rfl⟩
  |cons p kv=>exact absurd hr.1 (by simp)
 |cons e es ih=>
  intro kv r i hr h;cases kv with
  |nil=>exact absurd hr.1 (by simp)
  |cons p kv=>
   obtain⟨r1,r2,r3⟩:=hr.cons;simp only[Hs]at h;split at h
   ·rename_i hq;cases h;exact .inr ⟨p.2,e.val,i,rfl,by simp[Instr.findNow,(Pn Ra hu r1 hq).1],r2⟩
   ·rename_i hq;have:=ih (i+1) r3 h;simpa[Instr.findNow,(Pn Ra hu r1 hq).1]using this
   ·cases h
theorem V1{w:World}{kd:TypeDesc}{k:D}{u:Value}(Ra:Ls kd k=true)(hu:Rd w u k []):MapKept.IsKey kd u:=by
 cases kd<;>cases k<;>simp[Ls]at Ra
 all_goals cases hu
 ·simp[MapKept.IsKey,Ra]
 ·simp[MapKept.IsKey]
theorem SG{w:World}{κ:Nat->Option Value}{kd:TypeDesc}{k:D}{u:Value}{bs:aa}(Ra:Ls kd k=true)(hu:td w κ u k bs):Rd w u k []:=by
 cases kd<;>cases k<;>simp[Ls]at Ra
 all_goals cases hu with|v h=>cases h with|cell h=>cases h with|pure h=>cases h<;>(constructor;assumption)
theorem Ty{t:TypeId}{i:TypeInfo}(h:P.info? t=some i){w:World}:(typeInfo t).run P w=.ok i w:=by
 simp[typeInfo,h]
theorem RE{T:TypeId}{kd:TypeDesc}{dz:D}(h:a08 P T=some (kd,dz)):∃kt et z,P.underlying T=some (.map kt et)/\P.underlying kt=some kd/\dz=D.X6 z/\∀w:World,(zeroValue et).run P w=.ok z w:=by
 unfold a08 at h;split at h
 ·rename_i kt et h1;split at h
  ·rename_i d i h2 h3;split at h
   ·rename_i z h4;split at h
    ·cases h;exact⟨kt,et,z,h1,h2,rfl,fun w=>by simp[zeroValue,Ty h3,h4]⟩
    ·cases h
   ·cases h
  ·cases h
 ·cases h
theorem TO{o:Oper}{T:Nat}{x i:Operand}{ok:Bool}{d:D}(hs:eM Γ st κ Θ a w)(ho:o.op=.lookup T x i ok)
 (h:pv P st (.lookup T x i ok)=some d):yw P κ Θ a w o d:=by
 simp only[pv]at h;split at h
 ·rename_i id hx;split at h
  ·rename_i kv hH;obtain⟨g,es,c,q1,q2,q3,q4⟩:=hs.ob id _ hH;obtain⟨bs,r,_⟩:=hs.ev x;rw[hx]at r;obtain⟨hk,_⟩:=r.xa;rw[q1]at hk;have hxv:a.eval x=.map (some g):=(qd hk).symm;obtain⟨bi,ri,_⟩:=hs.ev i;unfold plk at h;split at h
   ·rename_i kd dz hT;obtain⟨kt,et,z,t1,t2,t3,t4⟩:=RE hT;have fin:∀(r:Option D),Ls kd (st.ev i)=true->Hs (st.ev i) kv=some r->d=(match r with|some d=>(bif ok then .iF [d,.bool true]else d)|none=>(bif ok then .iF [dz,.bool false]else dz))->yw P κ Θ a w o d:=by
     intro r Ra hf hd;have hu:=SG Ra ri;have hck:=MapKept.run_checkKey (P:=P) (w:=w) t2 (V1 Ra hu) es.isEmpty 9999;rcases a4n Ra hu 0 q4 hf with⟨rfl,hn⟩|⟨d',v,j,rfl,hn,hv⟩
     ·have hfk:=MapKept.run_findKey (P:=P) (w:=w) t2 hn;subst hd;cases ok with
      |false=>exact⟨z,[],by simp[execOp,ho,hxv,Instr.lookup,run_underlying t1,MapKept.run_getObj_map q2,hck,hfk,t4],by rw[t3];exact X7 z,by simp⟩
      |true=>
       refine⟨.tuple #[z,.bool false],[],by simp[execOp,ho,hxv,Instr.lookup,run_underlying t1,MapKept.run_getObj_map q2,hck,hfk,t4],?_,by simp⟩;have hz:Pz w κ z dz []:=by
        have:=X7 (w:=w) (κ:=κ) z;rw[<-t3]at this;cases this with
        |v h=>exact h
        |iF vs ds bs h=>exact absurd t3 (by simp[D.X6])
       exact .iF [z,.bool false] [dz,.bool false] [] (.cons _ _ _ _ [] [] hz (.cons _ _ _ _ [] [] (.cell (.pure (.bool _))) .nil))
     ·have hfk:=MapKept.run_findKey (P:=P) (w:=w) t2 hn;subst hd;cases ok with
      |false=>exact⟨v,[],by simp[execOp,ho,hxv,Instr.lookup,run_underlying t1,MapKept.run_getObj_map q2,hck,hfk],.of hv,by simp⟩
      |true=>
       refine⟨.tuple #[v,.bool true],[],by simp[execOp,ho,hxv,Instr.lookup,run_underlying t1,MapKept.run_getObj_map q2,hck,hfk],?_,by simp⟩;exact .iF [v,.bool true] [d',.bool true] [] (.cons _ _ _ _ [] [] (.cell (.pure hv)) (.cons _ _ _ _ [] [] (.cell (.pure (.bool _))) .nil))
    split at h
    ·rename_i d' h1 h2;cases h;exact fin _ h1 h2 rfl
    ·rename_i h1 h2;cases h;exact fin _ h1 h2 rfl
    ·cases h
   ·cases h
  ·cases h
 ·cases h
theorem Rd.a6q{w:World}{v:Value}{row:aS}{o:Nat}{bs:aa}(h:Rd w v (.ep row o) bs):∃q,v=.pointer (some q):=by
 cases h;exact⟨_,rfl⟩
theorem I1{o:Oper}{d:D}(hs:eM Γ st κ Θ a w)(h:pv P st o.op=some d):yw P κ Θ a w o d:=by
 cases ho:o.op
 all_goals rw[ho]at h
 case load t x=>exact Qk hs ho h
 case lookup t x i ok=>exact TO hs ho h
 case build t parts=>exact UX hs ho h
 case fieldAddr t x f=>exact PO hs ho h
 case field t x f=>exact Uk hs ho h
 case indexAddr t x i=>exact PU hs ho h
 case extract x i=>exact RX hs ho h
 case index t x i=>exact Uz hs ho h
 case binOp op t x y t'=>
  simp only[pv]at h;split at h
  ·rename_i e;cases h;exact XA hs ho e
  ·split at h
   ·rename_i e;cases h;exact Zp hs ho e
   ·split at h
    ·rename_i e;cases h;exact XC hs ho e
    ·exact XB hs ho h
 case nilCheck x=>
  simp only[pv]at h;obtain⟨b,r,z⟩:=hs.ev x;have hnn:∀q,a.eval x=.pointer (some q)->yw P κ Θ a w o (st.ev x):=fun q hq=>⟨_,b,by simp[execOp,ho,hq],hq▸r,z⟩
  split at h<;>rename_i hx<;>cases h<;>rw[hx]at r hnn
  ·obtain⟨g,_,hv⟩:=r.Cb;exact hnn _ hv
  ·obtain⟨_,_,_,_,_,hv⟩:=r.I0;exact hnn _ hv
  ·obtain⟨_,hv⟩:=Rd.a6q r.WN;exact hnn _ hv
 case slice t x lo hi mx=>
  cases mx with
  |none=>exact VU hs ho h
  |some m=>simp[pv]at h
 case move x=>
  simp only[pv,ax]at h;subst h;obtain⟨b,r,z⟩:=hs.ev x;exact⟨_,b,by simp[execOp,ho],r,z⟩
 case assign x=>
  simp only[pv,ax]at h;subst h;obtain⟨b,r,z⟩:=hs.ev x;exact⟨_,b,by simp[execOp,ho],r,z⟩
 case pick c x y=>
  simp only[pv]at h;split at h
  ·rename_i t hc;cases h;obtain⟨b,r,z⟩:=hs.ev c;rw[hc]at r;have hv:=r.yW;cases t
   ·obtain⟨b,r,z⟩:=hs.ev y;exact⟨_,b,by simp[execOp,ho,hv,asBool],r,z⟩
   ·obtain⟨b,r,z⟩:=hs.ev x;exact⟨_,b,by simp[execOp,ho,hv,asBool],r,z⟩
  ·cases h
 case unOp op t x=>
  obtain⟨b,r,z⟩:=hs.ev x;cases op<;>simp only[pv,reduceCtorEq]at h
  case neg=>
   split at h
   ·rename_i k n hx;cases h;rw[hx]at r;have hv:=r.sF;exact⟨_,[],by simp[execOp,ho,hv,Op.unary,Op.intArith],.of (.int _ _ (tU.wrap _ _)),by simp⟩
   ·cases h
  case not=>
   split at h
   ·rename_i bb hx;cases h;rw[hx]at r;have hv:=r.yW;exact⟨_,[],by simp[execOp,ho,hv,Op.unary],.of (.bool _),by simp⟩
   ·cases h
 case convert s d' x=>
  obtain⟨b,r,z⟩:=hs.ev x;simp only[pv]at h;split at h
  ·rename_i k0 n k1 k hx h1 h2;cases h;rw[hx]at r;have hv:=r.sF;have u1:P.underlying s=some (.int k1):=by
    unfold XV at h1;split at h1
    ·cases h1;assumption
    ·cases h1
   have u2:P.underlying d'=some (.int k):=by
    unfold XV at h2;split at h2
    ·cases h2;assumption
    ·cases h2
   exact⟨_,[],by simp[execOp,ho,hv,convert,run_underlying u1,run_underlying u2,Conv.intToInt],.of (.int _ _ (tU.wrap _ _)),by simp⟩
  ·cases h
 case call c=>
  simp only[pv]at h;split at h
  ·rename_i x t h1 h2 h3;refine ZY hs (x:=x) (t:=t) ?_ h;rw[ho];obtain⟨callee,args,argTypes⟩:=c;simp only at h1 h2 h3;subst h1;have e1:args= #[x]:=by cases args;simp_all
   have e2:argTypes= #[t]:=by cases argTypes;simp_all
   subst e1;subst e2;rfl
  ·rename_i x y t t' h1 h2 h3;refine Zc hs (x:=x) (y:=y) (t:=t) (t':=t') ?_ h;rw[ho];obtain⟨callee,args,argTypes⟩:=c;simp only at h1 h2 h3;subst h1;have e1:args= #[x,y]:=by cases args;simp_all
   have e2:argTypes= #[t,t']:=by cases argTypes;simp_all
   subst e1;subst e2;rfl
  ·cases h
 all_goals simp[pv]at h
theorem a5V{Q:Exit->St->Prop}{all:Array Oper}{rest:List Oper}{o:Oper}{t:Nat}{d:D}(hd:o.dst=some t)(hg:o.guard=none)(ht:t<Γ.nt)
 (hv:pv P st o.op=some d) (h:AO P Γ all rest Q (st.set t d)):AO P Γ all (o::rest) Q st:=by
 intro κ Θ a w hs;obtain⟨v,bs,hr,hrd,hz⟩:=I1 hs hv;refine wpList_plain hg fun K hK=>?_
 unfold Oper.wp;rw[hr,Oper.upon_value,hd];exact hK _ _ (h κ Θ _ w (hs.set ht hrd hz))
end
end Go.Cx
namespace Go.Cx
open Go.RowKit
structure jQ(w w':World)(Θ Θ':Nat->Nat)(tag:Nat):Prop where
 two:2<=tag
 os:w'.os=w.os
 tape:w'.tape=w.tape
 output:w'.output=w.output
 size:w.heap.size<=w'.heap.size
 block:∀b,b<w.heap.size->Θ b≠tag->w'.heap[b]?=w.heap[b]?
 owner:∀b,b<w.heap.size->Θ b≠tag->Θ' b=Θ b
 own:∀b,Θ' b≠0->b<w'.heap.size
section
variable{w w':World}{κ κ':Nat->Option Value}{Θ Θ':Nat->Nat}{tag id:Nat}{r:D}
theorem jQ.free(k:jQ w w' Θ Θ' tag){b:Nat}(hb:b<w.heap.size)(hz:Θ b=0):Θ' b=0:=by
 have:=k.two;rw[k.owner b hb (by omega)];exact hz
theorem Rd.over{v:Value}{d:D}{bs:aa}(k:jQ w w' Θ Θ' tag)(h:Rd w v d bs)(hz:∀b∈bs,Θ b=0):Rd w' v d bs/\∀b∈bs,Θ' b=0:=by
 have:=k.two;exact⟨h.keep fun b hb=>k.block b (h.lt b hb) (by rw[hz b hb];omega),fun b hb=>k.free (h.lt b hb) (hz b hb)⟩
theorem mS.over{vs:br}{ds:aS}{bs:aa}(k:jQ w w' Θ Θ' tag)(h:mS w vs ds bs)(hz:∀b∈bs,Θ b=0):mS w' vs ds bs/\∀b∈bs,Θ' b=0:=by
 have:=k.two;exact⟨h.keep fun b hb=>k.block b (h.lt b hb) (by rw[hz b hb];omega),fun b hb=>k.free (h.lt b hb) (hz b hb)⟩
section
variable(hn:∀(j:Nat) v,κ j=some v->κ' j=some v)
include hn
end
theorem RdH.lt{v:Value}{rows:List aS}{p n:Nat}{bs:aa}(h:RdH w κ v rows p n bs):∀b∈bs,b<w.heap.size:=by
 obtain⟨b,off,cap,cs,ns,rfl,h1,h2,h3,h4,h5,rfl,_⟩:=h;intro x hx;rcases bM.1 hx with rfl|hx
 ·exact h1
 ·exact h5.lt x hx
section
variable(hn:∀(j:Nat) v,κ j=some v->κ' j=some v)
include hn
theorem RdH.stay{v:Value}{rows:List aS}{p n:Nat}{bs:aa}(h:RdH w κ v rows p n bs)(hb:∀b∈bs,w'.heap[b]?=w.heap[b]?):RdH w' κ' v rows p n bs:=by
 obtain⟨b,off,cap,cs,ns,rfl,h1,h2,h3,h4,h5,rfl,c,h6,h7⟩:=h;exact⟨b,off,cap,cs,ns,rfl,NW h1 (hb b (by simp)),h2,h3,fun j c hc=>(DJ (hb b (by simp))).trans (h4 j c hc),h5.keep (fun x hx=>hb x (by simp[hx])),rfl,c,h6,hn _ _ h7⟩
end
section
variable(k:jQ w w' Θ Θ' tag)(hn:∀(j:Nat) v,κ j=some v->κ' j=some v)
include k hn
theorem BM.stay{v:Value}{d:D}{bs:aa}(h:BM w κ v d bs)(hz:∀b∈bs,Θ b=0):BM w' κ' v d bs/\∀b∈bs,Θ' b=0:=by
 cases h with
 |pure h=>exact⟨.pure (Rd.over k h hz).1,(Rd.over k h hz).2⟩
 |acc i v hk=>exact⟨.acc i v (hn _ _ hk),by simp⟩
 |ptr i off b hk=>exact⟨.ptr i off b (hn _ _ hk),by simp⟩
 |op i j sz off b o0 len cap hk=>exact⟨.op i j sz off b o0 len cap (hn _ _ hk),by simp⟩
theorem fM.stay{vs:br}{ds:aS}{bs:aa}(h:fM w κ vs ds bs)(hz:∀b∈bs,Θ b=0):fM w' κ' vs ds bs/\∀b∈bs,Θ' b=0:=by
 induction ds generalizing vs bs with
 |nil=>cases h;exact⟨.nil,by simp⟩
 |cons d ds ih=>
  cases h with
  |cons v vs _ _ b1 b2 h1 h2 h3=>
   obtain⟨k1,k2⟩:=BM.stay k hn h2 (fun b hb=>hz b (by simp[hb]));obtain⟨k3,k4⟩:=ih h3 (fun b hb=>hz b (by simp[hb]));refine⟨.cons _ _ _ _ _ _ h1 k1 k3,fun b hb=>?_⟩;rcases ar.1 hb with hb|hb
   ·exact k2 b hb
   ·exact k4 b hb
theorem Pz.stay{v:Value}{d:D}{bs:aa}(h:Pz w κ v d bs)(hz:∀b∈bs,Θ b=0):Pz w' κ' v d bs/\∀b∈bs,Θ' b=0:=by
 cases h with
 |cell h=>exact⟨.cell (BM.stay k hn h hz).1,(BM.stay k hn h hz).2⟩
 |agg cs ds bs h=>exact⟨.agg _ _ _ (fM.stay k hn h hz).1,(fM.stay k hn h hz).2⟩
theorem E8.stay{vs:br}{ds:aS}{bs:aa}(h:E8 w κ vs ds bs)(hz:∀b∈bs,Θ b=0):E8 w' κ' vs ds bs/\∀b∈bs,Θ' b=0:=by
 induction ds generalizing vs bs with
 |nil=>cases h;exact⟨.nil,by simp⟩
 |cons d ds ih=>
  cases h with
  |cons v vs _ _ b1 b2 h2 h3=>
   obtain⟨k1,k2⟩:=Pz.stay k hn h2 (fun b hb=>hz b (by simp[hb]));obtain⟨k3,k4⟩:=ih h3 (fun b hb=>hz b (by simp[hb]));refine⟨.cons _ _ _ _ _ _ k1 k3,fun b hb=>?_⟩;rcases ar.1 hb with hb|hb
   ·exact k2 b hb
   ·exact k4 b hb
theorem td.stay{v:Value}{d:D}{bs:aa}(h:td w κ v d bs)(hz:∀b∈bs,Θ b=0):td w' κ' v d bs/\∀b∈bs,Θ' b=0:=by
 cases h with
 |v h=>exact⟨.v (Pz.stay k hn h hz).1,(Pz.stay k hn h hz).2⟩
 |iF vs ds bs h=>exact⟨.iF _ _ _ (E8.stay k hn h hz).1,(E8.stay k hn h hz).2⟩
theorem yV.stay{j:Nat}{o:Ob}(hj:j+2≠tag)(h:yV w κ Θ j o):yV w' κ' Θ' j o:=by
 cases o with
 |gone=>trivial
 |tk rows=>
  obtain⟨v,bs,hk,hrd,hz⟩:=h;obtain⟨h1,h2⟩:=Rd.over k hrd hz;exact⟨v,bs,hn _ _ hk,h1,h2⟩
 |mp kv=>
  obtain⟨g,es,c,q1,q2,q3,q4⟩:=h;have hlt:g<w.heap.size:=(bL.1 q2).1;have hne:Θ g≠tag:=by rw[q3];exact hj
  exact⟨g,es,c,hn _ _ q1,(k.block g hlt hne).trans q2,by rw[k.owner g hlt hne];exact q3,q4.stay⟩
 |fD sz rows u=>
  obtain⟨hrl,hux,v,bs,hk,hrd,hnd,Ho⟩:=h;have hsame:∀b∈bs,w'.heap[b]?=w.heap[b]?:=fun b hb=>k.block b (hrd.lt b hb) (by rw[(Ho b hb).1];exact hj)
  refine⟨hrl,fun x hx=>hn _ _ (hux x hx),v,bs,hn _ _ hk,hrd.keep hsame,hnd,fun b hb=>⟨?_,?_⟩⟩
  ·rw[k.owner b (hrd.lt b hb) (by rw[(Ho b hb).1];exact hj)];exact(Ho b hb).1
  ·obtain⟨x,T,hx⟩:=(Ho b hb).2;exact⟨x,T,(hsame b hb).trans hx⟩
 |hole sz rows u p n=>
  obtain⟨hrl,hux,v,bs,hk,hrd,hnd,Ho⟩:=h;have hsame:∀b∈bs,w'.heap[b]?=w.heap[b]?:=fun b hb=>k.block b (hrd.lt b hb) (by rw[(Ho b hb).1];exact hj)
  refine⟨hrl,fun x hx=>hn _ _ (hux x hx),v,bs,hn _ _ hk,RdH.stay hn hrd hsame,hnd,fun b hb=>⟨?_,?_⟩⟩
  ·rw[k.owner b (hrd.lt b hb) (by rw[(Ho b hb).1];exact hj)];exact(Ho b hb).1
  ·obtain⟨x,T,hx⟩:=(Ho b hb).2;exact⟨x,T,(hsame b hb).trans hx⟩
 |box cells=>
  obtain⟨g,cs,T,hk,hg,hΘ,bs,vU,hz⟩:=h;have hlt:g<w.heap.size:=(bL.1 hg).1;have hne:Θ g≠tag:=by rw[hΘ];exact hj
  obtain⟨h1,h2⟩:=fM.stay k hn vU hz;exact⟨g,cs,T,hn _ _ hk,(k.block g hlt hne).trans hg,(k.owner g hlt hne).trans hΘ,bs,h1,h2⟩
 |PW cells u=>
  obtain⟨hu,g,cs,T,hk,hg,hΘ,bs,vU,hz⟩:=h;have hlt:g<w.heap.size:=(bL.1 hg).1;have hne:Θ g≠tag:=by rw[hΘ];exact hj
  obtain⟨h1,h2⟩:=fM.stay k hn vU hz;exact⟨hn _ _ hu,g,cs,T,hn _ _ hk,(k.block g hlt hne).trans hg,(k.owner g hlt hne).trans hΘ,bs,h1,h2⟩
 |row deep e sz rows=>
  obtain⟨hsz,hrl,v,cs,bs,hk,hown,vU,hΘ,hd⟩:=h;refine⟨hsz,hrl,v,cs,bs,hn _ _ hk,?_,?_,?_,?_⟩
  ·refine⟨hown.1,?_⟩;rcases hown.2 with ue|⟨g,cap,cur,rfl,hb,T8,rest⟩
   ·exact .inl ue
   ·have hlt:g<w.heap.size:=(bL.1 T8).1;have hne:Θ g≠tag:=by rw[hΘ g (by simp[Value.ownBlock])];exact hj
    exact .inr ⟨g,cap,cur,rfl,hb,(k.block g hlt hne).trans T8,rest⟩
  ·refine vU.keep fun b hb=>k.block b (vU.lt b hb) ?_
   have:=k.two;cases deep with
   |cl=>rw[(hd.2.1 b hb).1];exact hj
   |sh=>rw[hd b hb];omega
   |uq=>rw[hd b hb];omega
   |mv n=>rw[hd b hb];omega
  ·intro g hg;have hlt:=(hown.lt g hg).2;have e:=hΘ g hg;rw[k.owner g hlt (by rw[e];exact hj)];exact e
  ·cases deep with
   |cl=>
    refine⟨hd.1,fun b hb=>⟨?_,?_⟩,hd.2.2⟩
    ·rw[k.owner b (vU.lt b hb) (by rw[(hd.2.1 b hb).1];exact hj)];exact(hd.2.1 b hb).1
    ·obtain⟨x,T,hx⟩:=(hd.2.1 b hb).2;exact⟨x,T,(k.block b (vU.lt b hb) (by rw[(hd.2.1 b hb).1];exact hj)).trans hx⟩
   |sh=>exact fun b hb=>k.free (vU.lt b hb) (hd b hb)
   |uq=>exact fun b hb=>k.free (vU.lt b hb) (hd b hb)
   |mv n=>exact fun b hb=>k.free (vU.lt b hb) (hd b hb)
end
end
section
variable{Γ:vY}{st:St}{κ κ':Nat->Option Value}{Θ Θ':Nat->Nat}{a:Act}{w w':World}{tag:Nat}
theorem eM.base(hs:eM Γ st κ Θ a w):Γ.W0.heap.size<=w.heap.size:=hs.stays.size
theorem eM.Ws(hs:eM Γ st κ Θ a w)(k:jQ w w' Θ Θ' tag):Xs Γ w':=by
 refine⟨k.os.trans hs.stays.os,k.tape.trans hs.stays.tape,k.output.trans hs.stays.output,cS hs.stays.size k.size,fun b hb hx=>?_⟩;have:=k.two;have h1:=(hs.old b hb hx).2;exact(k.block b (eD hb hs.base) (by omega)).trans (hs.stays.block b hb hx)
theorem eM.a23(hs:eM Γ st κ Θ a w)(k:jQ w w' Θ Θ' tag):∀b,b<Γ.W0.heap.size->¬Γ.X b->Θ' b=Γ.Θ0 b/\Θ' b<=1:=by
 intro b hb hx;have:=k.two;have h1:=hs.old b hb hx;rw[k.owner b (eD hb hs.base) (by omega)];exact h1
theorem eM.qO(hs:eM Γ st κ Θ a w)(k:jQ w w' Θ Θ' tag)(hn:∀(j:Nat) v,κ j=some v->κ' j=some v){ρ:Nat->Nat}(hu:CE Γ st.H κ Θ w ρ):
 (∀b,ρ b≠0->Θ' b=0/\a0r Γ b/\Wr w' b)/\(∀id e sz rows,id+2≠tag->st.H[id]?=some (.row .uq e sz rows)->
  ∃v cs bs,κ' id=some v/\w'.ownsRow 0 e sz v rows.length cs/\mS w' cs rows.flatten bs/\bs.Nodup/\∀b∈bs,ρ b=id+1)/\
  ∀id o,id+2≠tag->st.H[id]?=some o->PD w' κ' ρ id o:=by
 have h2:=k.two;refine⟨?_,?_,?_⟩
 ·intro b hb;obtain⟨h0,hm,x,T,hx⟩:=hu.free b hb;have hlt:b<w.heap.size:=(bL.1 hx).1;exact⟨k.free hlt h0,hm,x,T,(k.block b hlt (by omega)).trans hx⟩
 ·intro id e sz rows hid hH;obtain⟨v,cs,bs,hk,hown,vU,hnd,hρ⟩:=hu.rows id e sz rows hH;obtain⟨_,_,v2,_,_,hk2,_,_,hΘ,_⟩:=hs.ob id _ hH;rw[hk]at hk2;cases hk2;refine⟨v,cs,bs,hn _ _ hk,⟨hown.1,?_⟩,vU.keep fun b hb=>k.block b (vU.lt b hb) ?_,hnd,hρ⟩
  ·rcases hown.2 with ue|⟨g,cap,cur,rfl,hb,T8,rest⟩
   ·exact .inl ue
   ·have hlt:g<w.heap.size:=(bL.1 T8).1;have hne:Θ g≠tag:=by rw[hΘ g (by simp[Value.ownBlock])];exact hid
    exact .inr ⟨g,cap,cur,rfl,hb,(k.block g hlt hne).trans T8,rest⟩
  ·have:=hρ b hb;have:=(hu.free b (by omega)).1;omega
 ·intro id o hid hH;have hm:=hu.more id o hH;have hb0:∀ {bs:aa},(∀b∈bs,ρ b=id+1)->∀b∈bs,Θ b≠tag:=fun hρ b hb=>by
   have:=hρ b hb;have:=(hu.free b (by omega)).1;omega
  cases o with
  |tk rows=>
   obtain⟨v,bs,hk,hrd,hnd,hρ⟩:=hm;exact⟨v,bs,hn _ _ hk,hrd.keep fun b hb=>k.block b (hrd.lt b hb) (hb0 hρ b hb),hnd,hρ⟩
  |row kd e sz rows=>
   cases kd with
   |mv n=>
    obtain⟨v,cs,bs,hk,hown,vU,hnd,hρ⟩:=hm;obtain⟨_,_,v2,_,_,hk2,_,_,hΘ,_⟩:=hs.ob id _ hH;rw[hk]at hk2;cases hk2;refine⟨v,cs,bs,hn _ _ hk,⟨hown.1,?_⟩,vU.keep fun b hb=>k.block b (vU.lt b hb) (hb0 hρ b hb),hnd,hρ⟩;rcases hown.2 with ue|⟨g,cap,cur,rfl,hb,T8,rest⟩
    ·exact .inl ue
    ·have hlt:g<w.heap.size:=(bL.1 T8).1;have hne:Θ g≠tag:=by rw[hΘ g (by simp[Value.ownBlock])];exact hid
     exact .inr ⟨g,cap,cur,rfl,hb,(k.block g hlt hne).trans T8,rest⟩
   |_=>trivial
  |_=>trivial
theorem PD.re{ρ ρ':Nat->Nat}{id:Nat}{o:Ob}(h:PD w κ ρ id o)(hr:∀b,ρ b=id+1->ρ' b=id+1):PD w κ ρ' id o:=by
 cases o with
 |tk rows=>
  obtain⟨v,bs,hk,hrd,hnd,hρ⟩:=h;exact⟨v,bs,hk,hrd,hnd,fun b hb=>hr b (hρ b hb)⟩
 |row kd e sz rows=>
  cases kd with
  |mv n=>
   obtain⟨v,cs,bs,hk,hown,vU,hnd,hρ⟩:=h;exact⟨v,cs,bs,hk,hown,vU,hnd,fun b hb=>hr b (hρ b hb)⟩
  |_=>trivial
 |_=>trivial
theorem eM.step(hs:eM Γ st κ Θ a w){H':bW}(k:jQ w w' Θ Θ' tag)(hm:∀b,2<=Θ' b->Cj Γ b)(hn:∀(j:Nat) v,κ j=some v->κ' j=some v)
 (hko:∀id,H'.length<=id->κ' id=none) (hk1:∀(id:Nat) u,κ' id=some u->u.oneCell'=true)
 (CB:∀(j:Nat) o,H'[j]?=some o->o=.gone\/(j+2≠tag/\st.H[j]?=some o)\/yV w' κ' Θ' j o) (hu:∃ρ,CE Γ H' κ' Θ' w' ρ):eM Γ ⟨st.σ,H'⟩ κ' Θ' a w':=by
 refine⟨hs.defers,hs.size,hko,hk1,?_,?_,k.own,hs.a23 k,hm,hs.Ws k,hu⟩
 ·intro t;obtain⟨bs,hr,hz⟩:=hs.slot t;exact⟨bs,td.stay k hn hr hz⟩
 ·intro j o hj;rcases CB j o hj with rfl|⟨hne,hj'⟩|h
  ·trivial
  ·exact yV.stay k hn hne (hs.ob j o hj')
  ·exact h
def AN(κ:Nat->Option Value)(id:Nat)(v:Option Value):Nat->Option Value:=fun i=>if i=id then v else κ i
theorem lg(κ:Nat->Option Value)(id:Nat)(v:Option Value):AN κ id v id=v:=by simp[AN]
theorem zf{κ:Nat->Option Value}{id:Nat}(h:κ id=none)(v:Option Value):∀(j:Nat) u,κ j=some u->AN κ id v j=some u:=by
 intro j u hj;unfold AN;rw[bG (fun e=>by subst e;rw[h]at hj;cases hj)];exact hj
def Ob.uqB:Ob->Bool
 | .row .uq _ _ _=>true
 | .row (.mv _) _ _ _=>true
 | .tk _=>true
 |_=>false
def Ob.mvB:Ob->Bool
 | .row (.mv _) _ _ _=>true
 | .tk _=>true
 |_=>false
theorem PD.Ac{ρ:Nat->Nat}{id:Nat}{o:Ob}(h:o.mvB=false):PD w κ ρ id o:=by
 cases o with
 |tk rows=>simp[Ob.mvB]at h
 |row kd e sz rows=>
  cases kd with
  |mv n=>simp[Ob.mvB]at h
  |_=>trivial
 |_=>trivial
theorem PD.plain{ρ:Nat->Nat}{id:Nat}{o:Ob}(h:o.uqB=false):PD w κ ρ id o:=by
 cases o with
 |tk rows=>simp[Ob.uqB]at h
 |row kd e sz rows=>
  cases kd with
  |mv n=>simp[Ob.uqB]at h
  |_=>trivial
 |_=>trivial
theorem eM.push(hs:eM Γ st κ Θ a w){v:Value}{o:Ob}(h1:v.oneCell'=true)(k:jQ w w' Θ Θ' (st.H.length+2))(hm:∀b,2<=Θ' b->Cj Γ b)
 (ho:yV w' (AN κ st.H.length (some v)) Θ' st.H.length o) (hq:o.uqB=false):eM Γ ⟨st.σ,st.H++[o]⟩ (AN κ st.H.length (some v)) Θ' a w':=by
 have hn:=zf (hs.rI _ (bR _)) (some v);have key:∀(j:Nat) x,(st.H++[o])[j]?=some x->(j=st.H.length/\x=o)\/(j+2≠st.H.length+2/\st.H[j]?=some x):=by
  intro j x hj;by_cases hlt:j<st.H.length
  ·rw[bA hlt]at hj;exact .inr ⟨by omega,hj⟩
  ·have hj':=(aH.1 hj).1;simp only[aX,aL,bK]at hj';have e:j=st.H.length:=by omega
   subst e;rw[bE (bR _)]at hj;simp at hj;exact .inl ⟨rfl,hj.symm⟩
 obtain⟨ρ,hu⟩:=hs.wQ;have wm:=hs.qO k hn hu;refine hs.step k hm hn ?_ ?_ ?_ ⟨ρ,wm.1,?_,?_⟩
 ·intro i hi;simp only[aX,aL,bK]at hi;unfold AN;rw[bG (by omega)];exact hs.rI i (by omega)
 ·intro i u hu;unfold AN at hu;split at hu
  ·cases hu;exact h1
  ·exact hs.qX i u hu
 ·intro j x hj;rcases key j x hj with⟨rfl,rfl⟩|h
  ·exact .inr (.inr ho)
  ·exact .inr (.inl h)
 ·intro id e sz rows hj;rcases key id _ hj with⟨rfl,rfl⟩|h
  ·simp[Ob.uqB]at hq
  ·exact wm.2.1 id e sz rows h.1 h.2
 ·intro id x hj;rcases key id _ hj with⟨rfl,rfl⟩|h
  ·exact PD.plain hq
  ·exact wm.2.2 id x h.1 h.2
theorem eM.change(hs:eM Γ st κ Θ a w){id:Nat}{o:Ob}(k:jQ w w' Θ Θ' (id+2))(hm:∀b,2<=Θ' b->Cj Γ b)(ho:yV w' κ Θ' id o)(hq:o.uqB=false):
 eM Γ ⟨st.σ,st.H.set id o⟩ κ Θ' a w':=by
 have key:∀(j:Nat) x,(st.H.set id o)[j]?=some x->(j=id/\x=o)\/(j+2≠id+2/\st.H[j]?=some x):=by
  intro j x hj;by_cases e:id=j
  ·subst e;have hlt:id<st.H.length:=by
    have:=(aH.1 hj).1;simpa using this
   rw[dQ hlt]at hj;cases hj;exact .inl ⟨rfl,rfl⟩
  ·rw[cF e]at hj;exact .inr ⟨by omega,hj⟩
 obtain⟨ρ,hu⟩:=hs.wQ;have wm:=hs.qO k (fun _ _ h=>h) hu;refine hs.step k hm (fun _ _ h=>h) (fun i hi=>hs.rI i (by simpa using hi)) hs.qX ?_ ⟨ρ,wm.1,?_,?_⟩
 ·intro j x hj;rcases key j x hj with⟨rfl,rfl⟩|h
  ·exact .inr (.inr ho)
  ·exact .inr (.inl h)
 ·intro i e sz rows hj;rcases key i _ hj with⟨rfl,rfl⟩|h
  ·simp[Ob.uqB]at hq
  ·exact wm.2.1 i e sz rows h.1 h.2
 ·intro i x hj;rcases key i _ hj with⟨rfl,rfl⟩|h
  ·exact PD.plain hq
  ·exact wm.2.2 i x h.1 h.2
theorem eM.BO(hs:eM Γ st κ Θ a w)(h:∀b,2<=Θ' b->2<=Θ b\/w.heap.size<=b):∀b,2<=Θ' b->Cj Γ b:=by
 intro b hb;rcases h b hb with h|h
 ·exact hs.mine b h
 ·exact .inl (cS hs.base h)
theorem jQ.refl(h:∀b,Θ b≠0->b<w.heap.size)(h2:2<=tag):jQ w w Θ Θ tag:=⟨h2,rfl,rfl,rfl,bR _,fun _ _ _=>rfl,fun _ _ _=>rfl,h⟩
theorem jQ.a54(h:∀b,Θ b≠0->b<w.heap.size)(hb:Below w.heap.size w w')(h2:2<=tag):jQ w w' Θ Θ tag:=
 ⟨h2,hb.os,hb.tape,hb.output,hb.size,fun b hlt _=>hb.block b hlt,fun _ _ _=>rfl,fun b hn=>eD (h b hn) hb.size⟩
theorem eM.grow(hs:eM Γ st κ Θ a w)(hb:Below w.heap.size w w'):eM Γ st κ Θ a w':=by
 have k:jQ w w' Θ Θ (st.H.length+2):=jQ.a54 hs.own hb (by omega);obtain⟨ρ,hu⟩:=hs.wQ;have wm:=hs.qO k (fun _ _ h=>h) hu;have hlt:∀(j:Nat) o,st.H[j]?=some o->j+2≠st.H.length+2:=fun j o h=>by
  have:=(aH.1 h).1;omega
 exact hs.step k hs.mine (fun _ _ h=>h) hs.rI hs.qX (fun j o h=>.inr (.inl ⟨hlt j o h,h⟩)) ⟨ρ,wm.1,fun id e sz rows h=>wm.2.1 id e sz rows (hlt _ _ h) h,fun id o h=>wm.2.2 id o (hlt _ _ h) h⟩
theorem eM.drew(hs:eM Γ st κ Θ a w):eM Γ st κ Θ a w.drew:=hs.grow ((Below.refl _ _).drew)
def kill(H:bW):aa->bW
 | []=>H
 |m::ms=>kill (H.set m .gone) ms
theorem iD(H:bW)(ms:aa):(kill H ms).length=H.length:=by
 induction ms generalizing H with
 |nil=>rfl
 |cons m ms ih=>simp[kill,ih]
theorem uf{H:bW}{ms:aa}{j:Nat}{o:Ob}(h:(kill H ms)[j]?=some o):o=.gone\/(j∉ms/\H[j]?=some o):=by
 induction ms generalizing H with
 |nil=>exact .inr ⟨by simp,h⟩
 |cons m ms ih=>
  rcases ih h with h|⟨h1,h2⟩
  ·exact .inl h
  ·by_cases e:m=j
   ·subst e;have hlt:=(aH.1 h2).1;rw[dQ (by simpa using hlt)]at h2;cases h2;exact .inl rfl
   ·rw[cF e]at h2;exact .inr ⟨by simp[h1,tZ e],h2⟩
def BX(κ:Nat->Option Value)(Θ ρ:Nat->Nat)(w:World)(m:Nat)(k:RK)(rows:List aS):Prop:=
 ∃v bs,κ m=some v/\Rd w v (.sl rows) bs/\(∀b∈bs,Θ b=0)/\(k=.uq->bs.Nodup/\∀b∈bs,ρ b=m+1)
theorem yA{e sz:Nat}{v:Value}{rows:List aS}{cs:br}{bs:aa}(hrl:∀r∈rows,r.length=sz)(hown:w.ownsRow 0 e sz v rows.length cs)(vU:mS w cs rows.flatten bs):
 Rd w v (.sl rows) (v.ownBlock.toList++bs):=by
 rcases hown.2 with⟨rfl,hn⟩|⟨g,cap,cur,rfl,_,hg,hnc,hcm,_,ht⟩
 ·have:rows=[]:=cc hn;subst this;cases vU;exact .B1
 ·have hlt:g<w.heap.size:=(bL.1 hg).1;refine .sl g 0 cap sz rows cs bs hlt hnc hcm hrl (fun j c hc=>?_) vU;have:=hown.cells (g:=g) (by simp[Value.ownBlock]) j c hc;simpa[Addr.add_lit]using this
theorem eM.a7t(hs:eM Γ st κ Θ a w){ρ:Nat->Nat}(hu:CE Γ st.H κ Θ w ρ){m e sz:Nat}{k:RK}{rows:List aS}(hH:st.H[m]?=some (.row k e sz rows))(hk:k.TY=true):
 ∃Θ' ρ',eM Γ ⟨st.σ,st.H.set m .gone⟩ κ Θ' a w/\CE Γ (st.H.set m .gone) κ Θ' w ρ'/\BX κ Θ' ρ' w m k rows/\
  (∀b,Θ b=0->Θ' b=0)/\(∀b,ρ b≠0->ρ' b=ρ b):=by
 obtain⟨hsz,hrl,v,cs,bs,hkm,hown,vU,hΘ,hz⟩:=hs.ob m _ hH;have AK:∀b∈bs,Θ b=0:=by cases k<;>first|exact hz|simp[RK.TY]at hk
 let Θ':Nat->Nat:=fun b=>if Θ b=m+2 then 0 else Θ b
 let ρ':Nat->Nat:=fun b=>if some b=v.ownBlock then m+1 else ρ b
 have hk':jQ w w Θ Θ' (m+2):=⟨by omega,rfl,rfl,rfl,bR _,fun _ _ _=>rfl,fun b _ hne=>bG hne,fun b hb=>hs.own b (fun h0=>hb (by simp only[Θ'];split<;>simp_all))⟩
 have hT0:∀b,Θ b=0->Θ' b=0:=fun b h=>by simp only[Θ'];split<;>omega
 have Ot:∀b,2<=Θ' b->Cj Γ b:=fun b hb=>hs.mine b (by simp only[Θ']at hb;split at hb<;>omega)
 have Hr:∀g,v.ownBlock=some g->ρ g=0:=by
  intro g hg;cases h:ρ g with
  |zero=>rfl
  |succ n=>have:=(hu.free g (by omega)).1;rw[hΘ g hg]at this;omega
 have hρ:∀b,ρ b≠0->ρ' b=ρ b:=fun b hb=>bG (fun h=>hb (Hr b h.symm))
 have key:∀(j:Nat) x,(st.H.set m .gone)[j]?=some x->x=.gone\/(j+2≠m+2/\st.H[j]?=some x):=by
  intro j x hj;rcases uf (ms:=[m]) hj with h|⟨h1,h2⟩
  ·exact .inl h
  ·exact .inr ⟨by simp at h1;omega,h2⟩
 have wm:=hs.qO hk' (fun _ _ h=>h) hu;have hU:CE Γ (st.H.set m .gone) κ Θ' w ρ':=by
  refine⟨fun b hb=>?_,fun id e sz rows h=>?_,fun id x h=>?_⟩
  ·by_cases hb':some b=v.ownBlock
   ·have e1:=hΘ b hb'.symm;refine⟨by simp only[Θ'];rw[bQ e1],.inl (hs.mine b (by omega)),?_⟩;rcases hown.2 with⟨rfl,_⟩|⟨g,cap,cur,rfl,_,hg,_⟩
    ·simp[Value.ownBlock]at hb'
    ·simp[Value.ownBlock]at hb';subst hb';exact⟨_,_,hg⟩
   ·exact wm.1 b (by simp only[ρ']at hb;rwa[bG hb']at hb)
  ·rcases key id _ h with h|⟨h1,h2⟩
   ·cases h
   ·obtain⟨v2,c2,b2,q1,q2,q3,q4,q5⟩:=wm.2.1 id e sz rows h1 h2;exact⟨v2,c2,b2,q1,q2,q3,q4,fun b hb=>by rw[hρ b (by rw[q5 b hb];omega)];exact q5 b hb⟩
  ·rcases key id _ h with h|⟨h1,h2⟩
   ·subst h;trivial
   ·exact(wm.2.2 id x h1 h2).re fun b hb=>(hρ b (by omega)).trans hb
 refine⟨Θ',ρ',?_,hU,?_,hT0,hρ⟩
 ·exact hs.step hk' Ot (fun _ _ h=>h) (fun i hi=>hs.rI i (by simpa using hi)) hs.qX (fun j x hj=>by
   rcases key j x hj with h|h
   ·exact .inl h
   ·exact .inr (.inl h)) ⟨ρ',hU⟩
 ·have plain:k≠ .uq->BX κ Θ' ρ' w m k rows:=fun hne=>by
   refine⟨v,_,hkm,yA hrl hown vU,fun b hb=>?_,fun h=>absurd h hne⟩;rcases ar.1 hb with hb|hb
   ·simp only[lP]at hb;simp only[Θ'];rw[bQ (hΘ b hb)]
   ·exact hT0 b (AK b hb)
  cases k with
  |cl=>simp[RK.TY]at hk
  |sh=>exact plain (by simp)
  |mv n=>exact plain (by simp)
  |uq=>
   obtain⟨v2,c2,b2,q1,q2,q3,q4,q5⟩:=hu.rows m e sz rows hH;rw[hkm]at q1;cases q1;have hfr:∀b∈b2,ρ b≠0:=fun b hb=>by rw[q5 b hb];omega
   refine⟨v,_,hkm,yA hrl q2 q3,fun b hb=>?_,fun _=>⟨?_,fun b hb=>?_⟩⟩
   ·rcases ar.1 hb with hb|hb
    ·simp only[lP]at hb;simp only[Θ'];rw[bQ (hΘ b hb)]
    ·exact hT0 b (hu.free b (hfr b hb)).1
   ·rw[bN];refine⟨by cases v.ownBlock<;>simp,q4,fun x hx y hy e=>?_⟩;simp only[lP]at hx;subst e;exact hfr x hy (Hr x hx)
   ·rcases ar.1 hb with hb|hb
    ·simp only[lP]at hb;simp only[ρ'];rw[bQ hb.symm]
    ·rw[hρ b (hfr b hb)];exact q5 b hb
theorem eM.aAC(hs:eM Γ st κ Θ a w){ρ:Nat->Nat}(hu:CE Γ st.H κ Θ w ρ){m:Nat}{rows:List aS}(hH:st.H[m]?=some (.tk rows)):
 eM Γ ⟨st.σ,st.H.set m .gone⟩ κ Θ a w/\CE Γ (st.H.set m .gone) κ Θ w ρ/\BX κ Θ ρ w m .uq rows:=by
 have key:∀(j:Nat) x,(st.H.set m .gone)[j]?=some x->x=.gone\/(j≠m/\st.H[j]?=some x):=by
  intro j x hj;rcases uf (ms:=[m]) hj with h|⟨h1,h2⟩
  ·exact .inl h
  ·exact .inr ⟨by simpa using h1,h2⟩
 have hU:CE Γ (st.H.set m .gone) κ Θ w ρ:=by
  refine⟨hu.free,fun id e sz rows h=>?_,fun id x h=>?_⟩
  ·rcases key id _ h with h|⟨_,h2⟩
   ·cases h
   ·exact hu.rows id e sz rows h2
  ·rcases key id _ h with h|⟨_,h2⟩
   ·subst h;trivial
   ·exact hu.more id x h2
 obtain⟨v,bs,q1,q2,q3,q4⟩:=hu.more m _ hH;refine⟨⟨hs.defers,hs.size,fun i hi=>hs.rI i (by simpa using hi),hs.qX,hs.slot,fun id o h=>?_,hs.own,hs.old,hs.mine,hs.stays,ρ,hU⟩,hU,v,bs,q1,q2,fun b hb=>(hu.free b (by rw[q4 b hb];omega)).1,fun _=>⟨q3,q4⟩⟩;rcases key id _ h with h|⟨_,h2⟩
 ·subst h;trivial
 ·exact hs.ob id o h2
def Ob.Oe:Ob->Option (RK×List aS)
 | .row k _ _ rows=>(match k with| .cl=>none|_=>some (k,rows))
 | .tk rows=>some (.uq,rows)
 |_=>none
theorem Ob.a35{o:Ob}{k:RK}{rows:List aS}(h:o.Oe=some (k,rows)):(∃e sz,o=.row k e sz rows/\k.TY=true)\/(o=.tk rows/\k=.uq):=by
 cases o with
 |row k' e sz r=>
  cases k' with
  |cl=>simp[Ob.Oe]at h
  |_=>simp only[Ob.Oe,ax,cU]at h;obtain⟨rfl,rfl⟩:=h;exact .inl ⟨e,sz,rfl,rfl⟩
 |tk r=>simp only[Ob.Oe,ax,cU]at h;obtain⟨rfl,rfl⟩:=h;exact .inr ⟨rfl,rfl⟩
 |_=>simp[Ob.Oe]at h
theorem eM.aAB(hs:eM Γ st κ Θ a w){ρ:Nat->Nat}(hu:CE Γ st.H κ Θ w ρ){m:Nat}{o:Ob}{k:RK}{rows:List aS}(hH:st.H[m]?=some o)(ho:o.Oe=some (k,rows)):
 ∃Θ' ρ',eM Γ ⟨st.σ,st.H.set m .gone⟩ κ Θ' a w/\CE Γ (st.H.set m .gone) κ Θ' w ρ'/\BX κ Θ' ρ' w m k rows/\
  (∀b,Θ b=0->Θ' b=0)/\(∀b,ρ b≠0->ρ' b=ρ b):=by
 rcases Ob.a35 ho with⟨e,sz,rfl,hk⟩|⟨rfl,rfl⟩
 ·exact hs.a7t hu hH hk
 ·obtain⟨h1,h2,h3⟩:=hs.aAC hu hH;exact⟨Θ,ρ,h1,h2,h3,fun _ h=>h,fun _ _=>rfl⟩
theorem eM.VB:∀(ms:aa) {st:St} {Θ ρ:Nat->Nat},eM Γ st κ Θ a w->CE Γ st.H κ Θ w ρ->ms.Nodup->
 (∀m∈ms,∃o k rows,st.H[m]?=some o/\o.Oe=some (k,rows))->
 ∃Θ' ρ',eM Γ ⟨st.σ,kill st.H ms⟩ κ Θ' a w/\CE Γ (kill st.H ms) κ Θ' w ρ'/\(∀m∈ms,∀o k rows,st.H[m]?=some o->o.Oe=some (k,rows)->BX κ Θ' ρ' w m k rows)/\
  (∀b,Θ b=0->Θ' b=0)/\(∀b,ρ b≠0->ρ' b=ρ b):=by
 intro ms
 induction ms with
 |nil=>intro st Θ ρ hs hu _ _;exact⟨Θ,ρ,hs,hu,by simp,fun _ h=>h,fun _ _=>rfl⟩
 |cons m ms ih=>
  intro st Θ ρ hs hu hnd hall;obtain⟨hnm,Jv⟩:=fA.1 hnd;obtain⟨o,k,rows,hH,hk⟩:=hall m (by simp);obtain⟨Θ1,ρ1,hs1,hu1,hm1,Ux,ZQ⟩:=hs.aAB hu hH hk;have T7:∀m'∈ms,(st.H.set m .gone)[m']?=st.H[m']?:=fun m' hm'=>cF (fun e:m=m'=>hnm (by rw[e];exact hm'))
  obtain⟨Θ2,ρ2,hs2,hu2,hm2,hz2,hr2⟩:=ih (st:=⟨st.σ,st.H.set m .gone⟩) hs1 hu1 Jv (fun m' hm'=>by
   obtain⟨o',k',dM,h1,h2⟩:=hall m' (by simp[hm']);exact⟨o',k',dM,(T7 m' hm').trans h1,h2⟩)
  refine⟨Θ2,ρ2,hs2,hu2,?_,fun b h=>hz2 b (Ux b h),fun b h=>(hr2 b (by rw[ZQ b h];exact h)).trans (ZQ b h)⟩;intro m' hm' o' k' dM Lp ho';rcases bM.1 hm' with rfl|a1Q
  ·rw[hH]at Lp;cases Lp;rw[hk]at ho';cases ho';obtain⟨v,bs,q1,q2,q3,q4⟩:=hm1;refine⟨v,bs,q1,q2,fun b hb=>hz2 b (q3 b hb),fun hq=>?_⟩;obtain⟨q5,q6⟩:=q4 hq;exact⟨q5,fun b hb=>by rw[hr2 b (by rw[q6 b hb];omega)];exact q6 b hb⟩
  ·exact hm2 m' a1Q o' k' dM ((T7 m' a1Q).trans Lp) ho'
theorem eM.Po:∀(ms:aa) {st:St} {Θ ρ:Nat->Nat},eM Γ st κ Θ a w->CE Γ st.H κ Θ w ρ->ms.Nodup->
 (∀m∈ms,∃k e sz rows,st.H[m]?=some (.row k e sz rows)/\k.TY=true)->
 ∃Θ' ρ',eM Γ ⟨st.σ,kill st.H ms⟩ κ Θ' a w/\CE Γ (kill st.H ms) κ Θ' w ρ'/\(∀m∈ms,∀k e sz rows,st.H[m]?=some (.row k e sz rows)->BX κ Θ' ρ' w m k rows)/\
  (∀b,Θ b=0->Θ' b=0)/\(∀b,ρ b≠0->ρ' b=ρ b):=by
 intro ms
 induction ms with
 |nil=>intro st Θ ρ hs hu _ _;exact⟨Θ,ρ,hs,hu,by simp,fun _ h=>h,fun _ _=>rfl⟩
 |cons m ms ih=>
  intro st Θ ρ hs hu hnd hall;obtain⟨hnm,Jv⟩:=fA.1 hnd;obtain⟨k,e,sz,rows,hH,hk⟩:=hall m (by simp);obtain⟨Θ1,ρ1,hs1,hu1,hm1,Ux,ZQ⟩:=hs.a7t hu hH hk;have T7:∀m'∈ms,(st.H.set m .gone)[m']?=st.H[m']?:=fun m' hm'=>cF (fun e:m=m'=>hnm (by rw[e];exact hm'))
  obtain⟨Θ2,ρ2,hs2,hu2,hm2,hz2,hr2⟩:=ih (st:=⟨st.σ,st.H.set m .gone⟩) hs1 hu1 Jv (fun m' hm'=>by
   obtain⟨k',e',sz',dM,h1,h2⟩:=hall m' (by simp[hm']);exact⟨k',e',sz',dM,(T7 m' hm').trans h1,h2⟩)
  refine⟨Θ2,ρ2,hs2,hu2,?_,fun b h=>hz2 b (Ux b h),fun b h=>(hr2 b (by rw[ZQ b h];exact h)).trans (ZQ b h)⟩;intro m' hm' k' e' sz' dM Lp;rcases bM.1 hm' with rfl|a1Q
  ·rw[hH]at Lp;cases Lp;obtain⟨v,bs,q1,q2,q3,q4⟩:=hm1;refine⟨v,bs,q1,q2,fun b hb=>hz2 b (q3 b hb),fun hq=>?_⟩;obtain⟨q5,q6⟩:=q4 hq;exact⟨q5,fun b hb=>by rw[hr2 b (by rw[q6 b hb];omega)];exact q6 b hb⟩
  ·exact hm2 m' a1Q k' e' sz' dM ((T7 m' a1Q).trans Lp)
end
end Go.Cx
namespace Go.Cx
open Go.RowKit
section
variable{P:Program}{Γ:vY}{Q:Exit->St->Prop}{st:St}{κ:Nat->Option Value}{Θ:Nat->Nat}{a:Act}{w:World}{all:Array Oper}{rest:List Oper}
theorem a3x{c:Operand}{x y:Code}{b:Bool}(hc:st.ev c=.bool b)(ht:b=true->AW P Γ x Q st)(hf:b=false->AW P Γ y Q st):AW P Γ (.cond c x y) Q st:=by
 intro κ Θ a w hs;obtain⟨bs,r,_⟩:=hs.ev c;rw[hc]at r;exact wp_cond_split r.yW (fun h=>ht h κ Θ a w hs) (fun h=>hf h κ Θ a w hs)
theorem Pw{o:Oper}{j s:Nat}{want b:Bool}(hg:o.guard=some (j,want))(hj:(all[j]?).bind (·.dst)=some s)(hb:lk st.σ s=.bool b)
 (hd:∀t,o.dst=some t->t<Γ.nt)
 (aCq:b=want->AO P Γ all ({o with guard:=none}::rest) Q st) (hno:b≠want->AO P Γ all rest Q (st.put o.dst (.iF []))):AO P Γ all (o::rest) Q st:=by
 intro κ Θ a w hs;obtain⟨bs,r,_⟩:=hs.slot s;rw[hb]at r;have hv:=r.yW;have hlt:s<a.tmps.size:=by
  rcases eO s a.tmps.size with h|h
  ·exact h
  ·exfalso;rw[cO,tY h]at hv;simp[undef]at hv
 have hy:yielded all a.tmps j=some b:=by
  have h1:a.tmps[s]?=some (.bool b):=by
   rw[cO,cR hlt]at hv;rw[cR hlt];simpa using hv
  simp[yielded,hj,h1]
 by_cases e:b=want
 ·have:=aCq e κ Θ a w hs;unfold wpList at this⊢;have hw:Region.wanted o (yielded all a.tmps)=true:=by simp[Region.wanted,hg,hy,e]
  have hw':Region.wanted {o with guard:=none} (yielded all a.tmps)=true:=rfl;rw[bQ hw];rw[bQ hw']at this;exact this
 ·have hw:Region.wanted o (yielded all a.tmps)=false:=by simp[Region.wanted,hg,hy,e]
  unfold wpList;rw[hw,bG (by simp)];refine hno e κ Θ _ w ?_;cases T6:o.dst with
  |none=>exact hs
  |some t=>exact hs.set (hd t T6) (.iF [] [] [] .nil) (by simp)
theorem td.SZ{w:World}{κ:Nat->Option Value}{v:Value}{bs:aa}(h:td w κ v (.iF []) bs):v=.tuple #[]:=by
 cases h with
 |v h=>cases h with|cell h=>cases h with|pure h=>cases h
 |iF vs ds bs h=>cases h;rfl
theorem Rk{o:Oper}{j s:Nat}{want:Bool}(hg:o.guard=some (j,want))(hj:(all[j]?).bind (·.dst)=some s)(hb:lk st.σ s=.iF [])
 (hd:∀t,o.dst=some t->t<Γ.nt) (hno:AO P Γ all rest Q (st.put o.dst (.iF []))):AO P Γ all (o::rest) Q st:=by
 intro κ Θ a w hs;obtain⟨bs,r,_⟩:=hs.slot s;rw[hb]at r;have hv:=r.SZ;have hy:yielded all a.tmps j=none:=by
  rcases eO s a.tmps.size with hlt|hlt
  ·have h1:a.tmps[s]?=some (.tuple #[]):=by
    rw[cO,cR hlt]at hv;rw[cR hlt];simpa using hv
   simp[yielded,hj,h1]
  ·simp[yielded,hj,tY hlt]
 have hw:Region.wanted o (yielded all a.tmps)=false:=by simp[Region.wanted,hg,hy]
 unfold wpList;rw[hw,bG (by simp)];refine hno κ Θ _ w ?_;cases T6:o.dst with
 |none=>exact hs
 |some t=>exact hs.set (hd t T6) (.iF [] [] [] .nil) (by simp)
theorem jQ.alloc(hs:eM Γ st κ Θ a w)(o:Obj){tag:Nat}(h2:2<=tag):jQ w (w.alloc o) Θ (fun b=>if b=w.heap.size then tag else Θ b) tag:=by
 refine⟨h2,rfl,rfl,rfl,by simp,fun b hb _=>Below.heap_alloc w o b hb,fun b hb _=>?_,fun b hb=>?_⟩
 ·rw[bG (by omega)]
 ·by_cases e:b=w.heap.size
  ·subst e;simp
  ·rw[bG e]at hb;have:=hs.own b hb;simp;omega
theorem eM.a2J(hs:eM Γ st κ Θ a w){cs:Array Value}{ds:aS}{bs:aa}(T:TypeId)(hr:fM w κ cs.toList ds bs)(hz:∀b∈bs,Θ b=0):
 eM Γ ⟨st.σ,st.H++[.box ds]⟩ (AN κ st.H.length (some (.pointer (some ⟨w.heap.size,0,none⟩)))) (fun b=>if b=w.heap.size then st.H.length+2 else Θ b) a (w.alloc (.cells cs T)):=by
 have k:=jQ.alloc hs (.cells cs T) (tag:=st.H.length+2) (by omega);refine hs.push rfl k (hs.BO (fun b hb=>by by_cases e:b=w.heap.size<;>simp_all)) ?_ rfl;have hn:=zf (hs.rI _ (bR _)) (some (Value.pointer (some ⟨w.heap.size,0,none⟩)));obtain⟨h1,h2⟩:=fM.stay k hn hr hz;exact⟨w.heap.size,cs,T,by simp[AN],heap_alloc_new w _,by simp,bs,h1,h2⟩
theorem a6b{o:Oper}{T t:Nat}{x:Operand}{ds:aS}(hop:o.op=.box T x)(hd:o.dst=some t)(hg:o.guard=none)(ht:t<Γ.nt)
 (hc:(st.ev x).cellsOf=some ds) (h:AO P Γ all rest Q ⟨(t,.ptr st.H.length 0)::st.σ,st.H++[.box ds]⟩):AO P Γ all (o::rest) Q st:=by
 intro κ Θ a w hs;obtain⟨bs,r,hz⟩:=hs.ev x;have hcs:=DK hs.qX r hc;have hs':=hs.a2J T hcs hz;refine wpList_plain hg fun K hK=>?_
 unfold Oper.wp;have hrun:(execOp a.eval o).run P w=.ok (.value (.pointer (some ⟨w.heap.size,0,none⟩))) (w.alloc (.cells (a.eval x).cells T)):=by
  simp[execOp,hop,Instr.box,newVar,newRow]
 rw[hrun,Oper.upon_value,hd];refine hK _ _ (h _ _ _ _ (hs'.set (t:=t) (d:=.ptr st.H.length 0) (bs:=[]) ht ?_ (by simp)));exact(BM.ptr st.H.length 0 w.heap.size (by simp[AN])).Tx
theorem a0c{o:Oper}{T t:Nat}{zs:aS}(hop:o.op=.alloc T)(hd:o.dst=some t)(hg:o.guard=none)(ht:t<Γ.nt)
 (hz:tz P T=some zs) (h:AO P Γ all rest Q ⟨(t,.ptr st.H.length 0)::st.σ,st.H++[.box zs]⟩):AO P Γ all (o::rest) Q st:=by
 intro κ Θ a w hs;obtain⟨i,z,hi,AK,hsz,hlen,hone,rfl⟩:=zX hz;have hs':=hs.a2J T (cs:=z.cells) (Dq z.cells.toList hone) (by simp);refine wpList_plain hg fun K hK=>?_
 unfold Oper.wp;have hrun:(execOp a.eval o).run P w=.ok (.value (.pointer (some ⟨w.heap.size,0,none⟩))) (w.alloc (.cells z.cells T)):=by
  simp[execOp,hop,Instr.alloc,zeroValue,typeInfo,hi,AK,newVar,newRow]
 rw[hrun,Oper.upon_value,hd];refine hK _ _ (h _ _ _ _ (hs'.set (t:=t) (d:=.ptr st.H.length 0) (bs:=[]) ht ?_ (by simp)));exact(BM.ptr st.H.length 0 w.heap.size (by simp[AN])).Tx
theorem jQ.setRow(hs:eM Γ st κ Θ a w){g:Nat}{cs:Array Value}{tag:Nat}(h2:2<=tag)(hg:Θ g=tag):jQ w (w.setRow g cs) Θ Θ tag:=by
 refine⟨h2,rfl,rfl,rfl,by simp,fun b _ hne=>setRow_other w g b cs (fun e=>hne (e▸hg)),fun b _ _=>rfl,fun b hb=>?_⟩;simpa using hs.own b hb
theorem I2{T g off:Nat}{v:Value}{cur:Array Value}{e:TypeId}(hg:w.heap[g]?=some (.cells cur e (0,0)))(hsz:v.cells.size=BQ P T)(OT:∃i,P.info? T=some i)
 (hfit:off+v.cells.size<=cur.size) (hone:∀c∈v.cells.toList,c.oneCell'=true):
 (Instr.storeAt T (.pointer (some ⟨g,off,none⟩)) v).run P w=.ok () (w.setRow g (cur.toList.take off++v.cells.toList++cur.toList.drop (off+v.cells.toList.length)).toArray):=by
 have:=run_storeCells_at P g off e v.cells.toList 0 cur w hg (by simpa using hfit) hone;simp only[B2]at this;simp[Instr.storeAt,Instr.sureAddr,storeVar,xY OT,hsz,this]
def Tu(P:Program)(t:TypeId):Bool:=(P.info? t).isSome
theorem SQ{o:Oper}{T id off:Nat}{x y:Operand}{cells ds:aS}(hop:o.op=.store T x y)
 (hx:st.ev x=.ptr id off) {ob:Ob} (hH:st.H[id]?=some ob) (CB:ob.ZD=some cells) (hc:(st.ev y).cellsOf=some ds) (hT:Tu P T=true) (hl:ds.length=BQ P T) (hfit:off+ds.length<=cells.length) (hs:eM Γ st κ Θ a w):
 ∃w',(execOp a.eval o).run P w=.ok .skip w'/\eM Γ ⟨st.σ,st.H.set id (ob.re (cells.take off++ds++cells.drop (off+ds.length)))⟩ κ Θ a w':=by
 obtain⟨b1,r1,_⟩:=hs.ev x;obtain⟨b2,r2,hz2⟩:=hs.ev y;rw[hx]at r1;obtain⟨g,hk,hv⟩:=r1.Cb;obtain⟨g',cs,Tb,hk',hgc,hΘ,bs,vU,hz⟩:=(hs.ob id _ hH).cs CB;rw[hk]at hk';cases hk';have hcs:=DK hs.qX r2 hc;have hl1:=hcs.length;have Ej:=vU.length;have hsz:(a.eval y).cells.size=BQ P T:=by rw[<-hl,<-hl1];simp
 have hst:=I2 (P:=P) (T:=T) (off:=off) hgc hsz (eR.1 hT) (by
  have:(a.eval y).cells.size=ds.length:=by rw[<-hl1];simp
  have h3:cs.size=cells.length:=by rw[<-Ej];simp
  omega) hcs.one
 have k:=jQ.setRow hs (g:=g) (cs:=(cs.toList.take off++(a.eval y).cells.toList++cs.toList.drop (off+(a.eval y).cells.toList.length)).toArray) (tag:=id+2) (by omega) hΘ;have hrun:(execOp a.eval o).run P w=.ok .skip (w.setRow g (cs.toList.take off++(a.eval y).cells.toList++cs.toList.drop (off+(a.eval y).cells.toList.length)).toArray):=by
  simp only[execOp,hop,hv];simp[hst]
 refine⟨_,hrun,hs.change k hs.mine (yV.aAP CB (hs.ob id _ hH) (fun _ h=>h) ?_) (by cases ob<;>rfl)⟩;have e:cells=cells.take off++((cells.drop off).take ds.length++(cells.drop off).drop ds.length):=by rw[cC,cC]
 rw[e]at vU;obtain⟨v1,v2,c1,c2,QZ,rfl,k1,k2⟩:=vU.split;obtain⟨v3,v4,c3,c4,rfl,rfl,k3,k4⟩:=k2.split;have l1:v1.length=off:=by rw[k1.length];simp;omega
 have l3:v3.length=ds.length:=by rw[k3.length];simp;omega
 have e1:cs.toList.take off=v1:=by rw[QZ];exact j7 l1
 have e4:cs.toList.drop (off+(a.eval y).cells.toList.length)=v4:=by
  rw[QZ,<-gj,fm l1,hl1];exact fm l3
 have hnew:fM w κ (v1++(a.eval y).cells.toList++v4) (cells.take off++ds++cells.drop (off+ds.length)) ((c1++b2)++c4):=by
  rw[gj]at k4;exact(k1.app hcs).app k4
 have RM:∀b∈((c1++b2)++c4),Θ b=0:=by
  intro b hb;simp only[ar]at hb;rcases hb with(hb|hb)|hb
  ·exact hz b (by simp[hb])
  ·exact hz2 b hb
  ·exact hz b (by simp[hb])
 obtain⟨h1,h2⟩:=fM.stay k (fun _ _ h=>h) hnew RM;refine⟨g,_,Tb,hk,setRow_heap w g cs _ Tb _ hgc,hΘ,_,?_,h2⟩;rw[e1,e4]at h1⊢;exact h1
theorem a0n{o:Oper}{T id off:Nat}{x y:Operand}{cells ds:aS}(hop:o.op=.store T x y)(hd:o.dst=none)(hg:o.guard=none)
 (hx:st.ev x=.ptr id off) {ob:Ob} (hH:st.H[id]?=some ob) (CB:ob.ZD=some cells) (hc:(st.ev y).cellsOf=some ds) (hT:Tu P T=true) (hl:ds.length=BQ P T) (hfit:off+ds.length<=cells.length)
 (h:AO P Γ all rest Q ⟨st.σ,st.H.set id (ob.re (cells.take off++ds++cells.drop (off+ds.length)))⟩):AO P Γ all (o::rest) Q st:=by
 intro κ Θ a w hs;obtain⟨w',hrun,hs'⟩:=SQ hop hx hH CB hc hT hl hfit hs;refine wpList_plain hg fun K hK=>?_
 unfold Oper.wp;rw[hrun,Oper.upon_skip,hd];exact hK _ _ (h _ _ _ _ hs')
end
def D.U9:D->Bool
 | .acc _=>false
 | .ptr _ _=>false
 | .op _ _ _ _=>false
 |_=>true
def tby(P:Program)(t:TypeId):Nat:=P.bytesOf t
theorem SI{α:Type}{l:List α}{i:Nat}{x:α}(h:l[i]?=some x):∃p q,l=p++x::q/\p.length=i:=by
 have hlt:=(aH.1 h).1;have hx:=(aH.1 h).2;refine⟨l.take i,l.drop (i+1),?_,by simp;omega⟩;rw[<-hx,E2,cC]
theorem Hh{rows:List aS}{sz i off:Nat}{row ds:aS}(hrl:∀r∈rows,r.length=sz)(hr:rows[i]?=some row)(hfit:off+ds.length<=sz):
 (rows.set i (row.take off++ds++row.drop (off+ds.length))).flatten=rows.flatten.take (i*sz+off)++ds++rows.flatten.drop (i*sz+off+ds.length):=by
 obtain⟨p,q,rfl,rfl⟩:=SI hr;have hrow:row.length=sz:=hrl row (by simp);have hp:p.flatten.length=p.length*sz:=pO (fun r hr=>hrl r (by simp[hr]));rw[me _ _ (bR _),p8,List.set_cons_zero];simp only[lz,eT];rw[<-hp,List.take_length_add_append,rL,List.drop_length_add_append,List.take_append_of_le_length (by omega),List.drop_append_of_le_length (by omega)];simp only[bY]
theorem Qm(z:Array Value)(n:Nat):(madeCells z (n*z.size)).toList=(List.replicate n z.toList).flatten:=by
 induction n with
 |zero=>simp[madeCells]
 |succ n ih=>
  rw[List.replicate_succ',lz,<-ih];apply o7;intro j;by_cases hz:z.size=0
  ·have:z= #[]:=Array.size_eq_zero_iff.1 hz;subst this;simp[madeCells]
  ·by_cases h1:j<n*z.size
   ·rw[bA (by simpa[madeCells]using h1)];have h2:j<(n+1)*z.size:=by rw[kW];omega
    simp[madeCells,h1,h2]
   ·rw[bE (by simpa[madeCells]using h1)];by_cases h2:j<(n+1)*z.size
    ·rw[kW,nk]at h2;have hm:j%z.size=j-n*z.size:=by
      have hmc:=E4 z.size n;have e:j=(j-n*z.size)+z.size*n:=by omega
      conv=>lhs;rw[e]
      rw[Nat.add_mul_mod_self_left,Nat.mod_eq_of_lt (by omega)]
     have h3:j-n*z.size<z.size:=by omega
     have h2':j<(n+1)*z.size:=by rw[kW,nk];exact h2
     simp[madeCells,h2',hm,h3]
    ·rw[ck (by simp[madeCells];omega),ck];rw[kW,nk]at h2;simp[madeCells];omega
section
variable{P:Program}{Γ:vY}{Q:Exit->St->Prop}{st:St}{κ:Nat->Option Value}{Θ:Nat->Nat}{a:Act}{w:World}{all:Array Oper}{rest:List Oper}
theorem fM.pure{vs:br}{ds:aS}{bs:aa}(h:fM w κ vs ds bs)(hp:ds.all D.U9=true):mS w vs ds bs:=by
 induction ds generalizing vs bs with
 |nil=>cases h;exact .nil
 |cons d ds ih=>
  simp only[dG,aY]at hp;cases h with
  |cons v vs _ _ b1 b2 h1 h2 h3=>
   refine .cons _ _ _ _ _ _ h1 ?_ (ih h3 hp.2);cases h2 with
   |pure h=>exact h
   |acc=>simp[D.U9]at hp
   |ptr=>simp[D.U9]at hp
   |op=>simp[D.U9]at hp
theorem mS.rep{vs:br}{ds:aS}(h:mS w vs ds [])(m:Nat):mS w (List.replicate m vs).flatten (List.replicate m ds).flatten []:=by
 induction m with
 |zero=>exact .nil
 |succ m ih=>
  simp only[Ah,eT];have:=h.app ih;simpa using this
def D.KJ(d:D):D:=match d with
 | .nil=>.sl []
 |d=>d
theorem Rd.soft{v:Value}{d:D}{bs:aa}(h:Rd w v d bs):Rd w v d.KJ bs:=by
 cases h with
 |nil=>exact .B1
 |any=>exact .any _
 |int _ _ h=>exact .int _ _ h
 |bool=>exact .bool _
 |str _ h=>exact .str _ h
 |val=>exact .val _
 |B1=>exact .B1
 |pH a cap h=>exact .pH a cap h
 |sl b off cap sz rows cs bs h0 h1 h2 h3 h4 h5=>exact .sl b off cap sz rows cs bs h0 h1 h2 h3 h4 h5
 |agg cs ds bs h=>exact .agg cs ds bs h
 |ep b off cs row o bs h0 h4 h5=>exact .ep b off cs row o bs h0 h4 h5
 |ZS=>exact .ZS
 |ZT t u=>exact .ZT t u
theorem mS.soft{vs:br}{ds:aS}{bs:aa}(h:mS w vs ds bs):mS w vs (ds.map D.KJ) bs:=by
 induction ds generalizing vs bs with
 |nil=>cases h;exact .nil
 |cons d ds ih=>cases h with|cons v vs _ _ b1 b2 h1 h2 h3=>exact .cons _ _ _ _ _ _ h1 h2.soft (ih h3)
def D.flat:D->Bool
 | .any=>true
 | .nil=>true
 | .int _ _=>true
 | .bool _=>true
 | .str _=>true
 | .val _=>true
 |_=>false
def Z1(H:bW)(d:D):Option (D×aa):=match d with
 | .acc m=>(match(H[m]?).bind Ob.Oe with|some (_,rows)=>some (.sl rows,[m])|none=>none)
 | .ptr _ _=>none
 | .op _ _ _ _=>none
 |d=>some (d.KJ,[])
def O3(H:bW):aS->Option (aS×aa)
 | []=>some ([],[])
 |d::ds=>match Z1 H d,O3 H ds with|some (e,m),some (es,ms)=>some (e::es,m++ms)|_,_=>none
def Yn(H:bW)(d:D):Bool:=match d with
 | .acc m=>(match(H[m]?).bind Ob.Oe with|some (k,_)=>(match k with| .uq=>true|_=>false)|none=>false)
 |d=>d.flat
def BH(b:Bool):RK:=match b with|true=>.uq|false=>.sh
theorem Ob.VE(u:Bool)(e:TypeId)(sz:Nat)(rows:List aS):(Ob.row (BH u) e sz rows).mvB=false:=by cases u<;>rfl
theorem Rd.flat{v:Value}{d:D}{bs:aa}(h:Rd w v d bs)(hf:d.flat=true):bs=[]:=by
 cases h<;>first|rfl|simp[D.flat]at hf
theorem UJ{H:bW}{d e:D}{m:aa}(h:Z1 H d=some (e,m)):
 (∃m0 o k rows,d=.acc m0/\H[m0]?=some o/\o.Oe=some (k,rows)/\e=.sl rows/\m=[m0])\/(d.U9=true/\(∀i,d≠ .acc i)/\e=d.KJ/\m=[]):=by
 cases d with
 |acc m0=>
  simp only[Z1]at h;split at h
  ·rename_i k rows hH;simp only[ax,cU]at h;obtain⟨rfl,rfl⟩:=h;obtain⟨o,hH,ho⟩:=o8.1 hH;exact .inl ⟨m0,o,k,rows,rfl,hH,ho,rfl,rfl⟩
  ·cases h
 |ptr i o=>simp[Z1]at h
 |op i j s o=>simp[Z1]at h
 |_=>simp only[Z1,ax,cU]at h;obtain⟨rfl,rfl⟩:=h;exact .inr ⟨rfl,by simp,rfl,rfl⟩
theorem UK{H:bW}:∀ {ds es:aS} {ms:aa},O3 H ds=some (es,ms)->∀m∈ms,∃o k rows,H[m]?=some o/\o.Oe=some (k,rows):=by
 intro ds
 induction ds with
 |nil=>intro es ms h;simp only[O3,ax,cU]at h;obtain⟨rfl,rfl⟩:=h;simp
 |cons d ds ih=>
  intro es ms h;simp only[O3]at h;split at h
  ·rename_i e m es' ms' h1 h2;simp only[ax,cU]at h;obtain⟨rfl,rfl⟩:=h;intro x hx;rcases ar.1 hx with hx|hx
   ·rcases UJ h1 with⟨m0,o,k,dM,rfl,hH,hk,rfl,rfl⟩|⟨_,_,_,rfl⟩
    ·simp at hx;subst hx;exact⟨o,k,_,hH,hk⟩
    ·simp at hx
   ·exact ih h2 x hx
  ·cases h
theorem W8{H:bW}{ρ:Nat->Nat}:∀ {ds es:aS} {ms:aa} {vs:br} {b0:aa},O3 H ds=some (es,ms)->ms.Nodup->fM w κ vs ds b0->(∀b∈b0,Θ b=0)->
 (∀m∈ms,∀o k rows,H[m]?=some o->o.Oe=some (k,rows)->BX κ Θ ρ w m k rows)->
 ∃bs,mS w vs es bs/\(∀b∈bs,Θ b=0)/\(ds.all (Yn H)=true->bs.Nodup/\∀b∈bs,∃m∈ms,ρ b=m+1):=by
 intro ds
 induction ds with
 |nil=>
  intro es ms vs b0 h _ hr _ _;simp only[O3,ax,cU]at h;obtain⟨rfl,rfl⟩:=h;cases hr;exact⟨[],.nil,by simp,by simp⟩
 |cons d ds ih=>
  intro es ms vs b0 h hnd hr hz hm;simp only[O3]at h;split at h
  ·rename_i e m es' ms' h1 h2;simp only[ax,cU]at h;obtain⟨rfl,rfl⟩:=h;obtain⟨n1,n2,n3⟩:=bN.1 hnd;cases hr with
   |cons v vs _ _ b1 b2 hv hc hcs=>
    obtain⟨bs2,q1,q2,q3⟩:=ih h2 n2 hcs (fun b hb=>hz b (by simp[hb])) (fun x hx=>hm x (by simp[hx]));have one:∃bs1,Rd w v e bs1/\(∀b∈bs1,Θ b=0)/\(Yn H d=true->bs1.Nodup/\∀b∈bs1,∃x∈m,ρ b=x+1):=by
     rcases UJ h1 with⟨m0,o,k,dM,rfl,hH,hk,rfl,rfl⟩|⟨hp,hna,rfl,rfl⟩
     ·obtain⟨v',bs,r1,r2,r3,r4⟩:=hm m0 (by simp) o k dM hH hk;cases hc with
      |pure hc=>cases hc
      |acc _ _ hkv=>
       rw[hkv]at r1;cases r1;refine⟨bs,r2,r3,fun hq=>?_⟩;simp only[Yn,hH,aA,hk]at hq;split at hq
       ·obtain⟨r5,r6⟩:=r4 rfl;exact⟨r5,fun b hb=>⟨m0,by simp,r6 b hb⟩⟩
       ·cases hq
     ·have hrd:Rd w v d b1:=by
       cases hc with
       |pure hc=>exact hc
       |acc i _ _=>exact absurd rfl (hna i)
       |ptr i o _ _=>simp[D.U9]at hp
       |op i j s o _ _ _ _ _=>simp[D.U9]at hp
      refine⟨b1,hrd.soft,fun b hb=>hz b (by simp[hb]),fun hq=>?_⟩;have hf:d.flat=true:=by
       unfold Yn at hq;split at hq
       ·exact absurd rfl (hna _)
       ·exact hq
      rw[hrd.flat hf];exact⟨by simp,by simp⟩
    obtain⟨bs1,p1,p2,p3⟩:=one;refine⟨bs1++bs2,.cons _ _ _ _ _ _ hv p1 q1,fun b hb=>?_,fun hq=>?_⟩
    ·rcases ar.1 hb with hb|hb
     ·exact p2 b hb
     ·exact q2 b hb
    ·simp only[dG,aY]at hq;obtain⟨p4,p5⟩:=p3 hq.1;obtain⟨q4,q5⟩:=q3 hq.2;refine⟨bN.2 ⟨p4,q4,fun x hx y hy exy=>?_⟩,fun b hb=>?_⟩
     ·subst exy;obtain⟨m1,hm1,e1⟩:=p5 x hx;obtain⟨m2,hm2,e2⟩:=q5 x hy;exact n3 m1 hm1 m2 hm2 (by omega)
     ·rcases ar.1 hb with hb|hb
      ·obtain⟨x,hx,ex⟩:=p5 b hb;exact⟨x,by simp[hx],ex⟩
      ·obtain⟨x,hx,ex⟩:=q5 b hb;exact⟨x,by simp[hx],ex⟩
  ·cases h
theorem eM.put(hs:eM Γ st κ Θ a w){H':bW}{κ':Nat->Option Value}{Θ' ρ:Nat->Nat}{w':World}{id:Nat}{o:Ob}(ms:aa)
 (key:∀(j:Nat) x,H'[j]?=some x->(j=id/\x=o)\/(j≠id/\st.H[j]?=some x)) (hn:∀(j:Nat) v,κ j=some v->κ' j=some v)
 (hko:∀i,H'.length<=i->κ' i=none) (hk1:∀(i:Nat) u,κ' i=some u->u.oneCell'=true) (k:jQ w w' Θ Θ' (id+2)) (hm:∀b,2<=Θ' b->Cj Γ b) (ho:yV w' κ' Θ' id o)
 (hu:CE Γ st.H κ Θ w ρ) (T9:∀m∈ms,∀x,m≠id->st.H[m]?=some x->x.uqB=false)
 (hq:∀e sz rows,o=.row .uq e sz rows->∃v cs bs,κ' id=some v/\w'.ownsRow 0 e sz v rows.length cs/\mS w' cs rows.flatten bs/\bs.Nodup/\∀b∈bs,ρ b=id+1\/∃m∈ms,ρ b=m+1)
 (hmv:o.mvB=false:=by first|rfl|exact Ob.VE _ _ _ _):
 eM Γ ⟨st.σ,H'⟩ κ' Θ' a w':=by
 have wm:=hs.qO k hn hu;let ρ':Nat->Nat:=fun b=>if ms.any (fun m=>ρ b==m+1)then id+1 else ρ b
 have aCt:∀b,ρ' b≠0->ρ b≠0:=by
  intro b hb h0;simp only[ρ',h0]at hb;split at hb
  ·rename_i h;obtain⟨m,_,hm⟩:=dN.1 h;simp at hm
  ·exact hb rfl
 refine hs.step k hm hn hko hk1 ?_ ⟨ρ',fun b hb=>wm.1 b (aCt b hb),?_,?_⟩
 ·intro j x hj;rcases key j x hj with⟨rfl,rfl⟩|⟨h1,h2⟩
  ·exact .inr (.inr ho)
  ·exact .inr (.inl ⟨by omega,h2⟩)
 ·intro j e sz rows hj;rcases key j _ hj with⟨rfl,ho'⟩|⟨h1,h2⟩
  ·obtain⟨v,cs,bs,q1,q2,q3,q4,q5⟩:=hq e sz rows ho'.symm;refine⟨v,cs,bs,q1,q2,q3,q4,fun b hb=>?_⟩;simp only[ρ'];split
   ·rfl
   ·rename_i hno;rcases q5 b hb with h|⟨m,hm1,hm2⟩
    ·exact h
    ·exact absurd (dN.2 ⟨m,hm1,by simp[hm2]⟩) hno
  ·obtain⟨v,cs,bs,q1,q2,q3,q4,q5⟩:=wm.2.1 j e sz rows (by omega) h2;refine⟨v,cs,bs,q1,q2,q3,q4,fun b hb=>?_⟩;simp only[ρ'];rw[bG]
   ·exact q5 b hb
   ·intro h;obtain⟨m,hm1,hm2⟩:=dN.1 h;simp only[q5 b hb,cj]at hm2;have:j=m:=by omega
    subst this;have:=T9 j hm1 _ h1 h2;simp[Ob.uqB]at this
 ·intro j x hj;rcases key j _ hj with⟨rfl,rfl⟩|⟨h1,h2⟩
  ·exact PD.Ac hmv
  ·by_cases hx:x.uqB=false
   ·exact PD.plain hx
   ·refine(wm.2.2 j x (by omega) h2).re fun b hb=>?_
    simp only[ρ'];rw[bG]
    ·exact hb
    ·intro h;obtain⟨m,hm1,hm2⟩:=dN.1 h;simp only[hb,cj]at hm2;have:j=m:=by omega
     subst this;exact hx (T9 j hm1 _ h1 h2)
theorem Ds{H:bW}{o:Ob}:∀(j:Nat) x,(H++[o])[j]?=some x->(j=H.length/\x=o)\/(j≠H.length/\H[j]?=some x):=by
 intro j x hj;by_cases hlt:j<H.length
 ·rw[bA hlt]at hj;exact .inr ⟨by omega,hj⟩
 ·have hj':=(aH.1 hj).1;simp only[aX,aL,bK]at hj';have e:j=H.length:=by omega
  subst e;rw[bE (bR _)]at hj;simp at hj;exact .inl ⟨rfl,hj.symm⟩
theorem BI{H:bW}{o:Ob}{id:Nat}:∀(j:Nat) x,(H.set id o)[j]?=some x->(j=id/\x=o)\/(j≠id/\H[j]?=some x):=by
 intro j x hj;by_cases e:id=j
 ·subst e;have hlt:id<H.length:=by
   have:=(aH.1 hj).1;simpa using this
  rw[dQ hlt]at hj;cases hj;exact .inl ⟨rfl,rfl⟩
 ·rw[cF e]at hj;exact .inr ⟨fun h=>e h.symm,hj⟩
theorem eM.newRow(hs:eM Γ st κ Θ a w){ρ:Nat->Nat}(hu:CE Γ st.H κ Θ w ρ){u:Bool}{ms:aa}{e sz cap:Nat}{rows:List aS}{bs:aa}(cur:Array Value)(hsz:0<sz)(hrl:∀r∈rows,r.length=sz)
 (QU:cur.size=cap*sz) (hn:rows.length<=cap) (hcap:cap<=maxLen) (hr:mS w (cur.toList.take (rows.length*sz)) rows.flatten bs) (hz:∀b∈bs,Θ b=0)
 (T9:∀m∈ms,∀x,st.H[m]?=some x->x.uqB=false) (hq:u=true->bs.Nodup/\∀b∈bs,∃m∈ms,ρ b=m+1):
 eM Γ ⟨st.σ,st.H++[.row (BH u) e sz rows]⟩ (AN κ st.H.length (some (.slice (some ⟨w.heap.size,0,none⟩) rows.length cap))) (fun b=>if b=w.heap.size then st.H.length+2 else Θ b) a (w.alloc (.cells cur e)):=by
 have k:=jQ.alloc hs (.cells cur e) (tag:=st.H.length+2) (by omega);obtain⟨h1,h2⟩:=mS.over k hr hz;have hlen:(cur.toList.take (rows.length*sz)).length=rows.length*sz:=by
  have:rows.length*sz<=cap*sz:=dS _ hn;have h3:cur.toList.length=cap*sz:=by rw[<-QU];simp
  rw[cM,h3,fB this]
 have hown:(w.alloc (.cells cur e)).ownsRow 0 e sz (.slice (some ⟨w.heap.size,0,none⟩) rows.length cap) rows.length (cur.toList.take (rows.length*sz)):=
  ⟨hlen,.inr ⟨w.heap.size,cap,cur,rfl,by omega,heap_alloc_new w _,hn,hcap,QU,rfl⟩⟩
 refine hs.put ms Ds (zf (hs.rI _ (bR _)) _) ?_ ?_ k (hs.BO (fun b hb=>by by_cases e:b=w.heap.size<;>simp_all)) ?_ hu (fun m hm x _=>T9 m hm x) ?_
 ·intro i hi;simp only[aX,aL,bK]at hi;unfold AN;rw[bG (by omega)];exact hs.rI i (by omega)
 ·intro i x hx;unfold AN at hx;split at hx
  ·cases hx;rfl
  ·exact hs.qX i x hx
 ·refine⟨hsz,hrl,_,_,bs,by simp[AN],hown,h1,?_,?_⟩
  ·intro g hg;simp only[Value.ownBlock,ax]at hg;subst hg;simp
  ·cases u<;>exact h2
 ·intro e' sz' dM he;cases u with
  |false=>simp[BH]at he
  |true=>
   simp only[BH,Ob.row.injEq,vh]at he;obtain⟨rfl,rfl,rfl⟩:=he;obtain⟨q1,q2⟩:=hq rfl;exact⟨_,_,bs,by simp[AN],hown,h1,q1,fun b hb=>.inr (q2 b hb)⟩
theorem Si{o:Oper}{T e sz t:Nat}{x y:Operand}{k k':IntKind}{n:Int}{zs:aS}(hop:o.op=.makeSlice T x y)(hd:o.dst=some t)(hg:o.guard=none)(ht:t<Γ.nt)
 (hT:IM P T=some (e,sz)) (hz:tz P e=some zs) (hsz:0<sz) (hx:st.ev x=.int k n) (hy:st.ev y=.int k' n) (h0:0<=n) (hroom:tby P e*n.toNat<=281474976710656) (Cy:n.toNat<=4611686018427387904)
 (h:AO P Γ all rest Q ⟨(t,.acc st.H.length)::st.σ,st.H++[.row .uq e sz (List.replicate n.toNat (zs.map D.KJ))]⟩):AO P Γ all (o::rest) Q st:=by
 intro κ Θ a w hs;obtain⟨b1,r1,_⟩:=hs.ev x;obtain⟨b2,r2,_⟩:=hs.ev y;rw[hx]at r1;rw[hy]at r2;have e1:=r1.sF;have e2:=r2.sF;obtain⟨hu,_,NQ⟩:=q8 hT;obtain⟨i,z,hi,AK,TC,hlen,hone,rfl⟩:=zX hz;have Ei:i.size=sz:=by rw[<-NQ];simp[BQ,Program.cellsOf,hi]
 have hby:i.bytes=tby P e:=by simp[tby,Program.bytesOf,hi]
 obtain⟨m,rfl⟩:=o5 h0;simp only[o6]at hroom Cy h;have hrun:=run_make (P:=P) w T e i z hu hi AK k k' m m (by omega) (by omega) (by rw[hby];have:=Int.ofNat_le.2 hroom;rw[Int.natCast_mul]at this;exact this) (by omega);simp only[o6]at hrun;rw[<-TC]at hrun;have a1R:=Qm z.cells m;obtain⟨ρ,huq⟩:=hs.wQ;have hs':=hs.newRow huq (u:=true) (ms:=[]) (e:=e) (sz:=sz) (cap:=m) (rows:=List.replicate m ((z.cells.toList.map D.X6).map D.KJ)) (bs:=[]) (madeCells z.cells (m*z.cells.size)) hsz
  (by intro r hr;rw[Ch hr];simp[TC,Ei]) (by rw[size_madeCells,TC,Ei]) (by simp) (by unfold maxLen;omega)
  (by
   rw[F7,p7 (by simp[size_madeCells,TC,Ei]),a1R];have hcell:=(Dq (w:=w) (κ:=κ) z.cells.toList hone).pure (by
    rw[E0,bB];intro c _;simp only[Function.comp];unfold D.X6;split<;>(try split)<;>rfl)
   exact hcell.soft.rep m) (by simp) (by simp) (by simp)
 refine wpList_plain hg fun K hK=>?_
 unfold Oper.wp;have Ut:(execOp a.eval o).run P w=.ok (.value (.slice (some ⟨w.heap.size,0,none⟩) m m)) (w.alloc (.cells (madeCells z.cells (m*z.cells.size)) e)):=by
  simp only[execOp,hop,e1,e2];simp[hrun]
 rw[Ut,Oper.upon_value,hd];simp only[F7]at hs';refine hK _ _ (h _ _ _ _ (hs'.set (t:=t) (d:=.acc st.H.length) (bs:=[]) ht ?_ (by simp)));exact(BM.acc st.H.length _ (by simp[AN])).Tx
def vF(len sz:Nat):List (Nat×Nat):=(List.range len).map fun i=>(i*sz,sz)
def chunk(sz:Nat):Nat->aS->List aS
 |0,_=>[]
 |n+1,ds=>ds.take sz::chunk sz n (ds.drop sz)
theorem GC(sz:Nat):∀(n:Nat) (ds:aS),ds.length=n*sz->(chunk sz n ds).length=n/\(chunk sz n ds).flatten=ds/\∀r∈chunk sz n ds,r.length=sz:=by
 intro n
 induction n with
 |zero=>intro ds h;simp at h;subst h;simp[chunk]
 |succ n ih=>
  intro ds h;rw[kW,nk]at h;obtain⟨h1,h2,h3⟩:=ih (ds.drop sz) (by rw[wT];omega);refine⟨by simp[chunk,h1],by simp[chunk,h2],fun r hr=>?_⟩;rcases bM.1 hr with rfl|hr
  ·rw[cM];omega
  ·exact h3 r hr
theorem WW{len sz:Nat}:∀(parts:List (Nat×Value)) (cs arr:Array Value),Instr.fill ((vF len sz).toArray[·]?) cs parts=some arr->Instr.fill (fun i=>some (i*sz,sz)) cs parts=some arr:=by
 intro parts
 induction parts with
 |nil=>intro cs arr h;exact h
 |cons p parts ih=>
  intro cs arr h;obtain⟨i,v⟩:=p;simp only[Instr.fill]at h⊢;split at h
  ·cases h
  ·rename_i off size hp;have e:(off,size)=(i*sz,sz):=by
    simp only[vF,mc,c8]at hp;cases hr:(List.range len)[i]? with
    |none=>simp[hr]at hp
    |some j=>
     have hj:=(aH.1 hr)
     simp only[hr,cZ,ax]at hp;have:j=i:=by have:=hj.2;simp at this;omega
     rw[<-hp,this]
   cases e;split at h
   ·cases h
   ·rename_i hc;rw[bG hc];exact ih _ _ h
theorem TZ{places:List (Nat×Nat)}:∀(ps:List (Nat×D)) (cells ds:aS),AE places cells ps=some ds->ds.length=cells.length:=by
 intro ps
 induction ps with
 |nil=>intro cells ds h;simp only[AE,ax]at h;rw[h]
 |cons p ps ih=>
  intro cells ds h;obtain⟨i,d⟩:=p;simp only[AE]at h;split at h
  ·split at h
   ·rename_i hc;rw[ih _ _ h];simp;omega
   ·cases h
  ·cases h
theorem Bc{o:Oper}{T e sz len:Nat}{parts:Array (Nat×Operand)}{zs ds:aS}(hop:o.op=.buildSlice T len parts)
 (hT:IM P T=some (e,sz)) (hz:tz P e=some zs) (hsz:0<sz) (hsmall:len*sz<=16777216)
 (hf:AE (vF len sz) (List.replicate len zs).flatten (parts.toList.map fun p=>(p.1,st.ev p.2))=some ds) (hs:eM Γ st κ Θ a w):
 ∃(arr:Array Value) (b0:aa),(execOp a.eval o).run P w=.ok (.value (.slice (some ⟨w.heap.size,0,none⟩) len len)) (w.alloc (.cells arr e))/\fM w κ arr.toList ds b0/\(∀b∈b0,Θ b=0)/\arr.size=len*sz/\ds.length=len*sz:=by
 obtain⟨hu,_,NQ⟩:=q8 hT;obtain⟨i,z,hi,AK,TC,hlen,hone,rfl⟩:=zX hz;have Ei:i.size=sz:=by rw[<-NQ];simp[BQ,Program.cellsOf,hi]
 have a1R:=Qm z.cells len;have hzero:fM w κ (madeCells z.cells (len*z.cells.size)).toList (List.replicate len (z.cells.toList.map D.X6)).flatten []:=by
  rw[a1R];have hcell:=(Dq (w:=w) (κ:=κ) z.cells.toList hone).pure (by
   rw[E0,bB];intro c _;simp only[Function.comp];unfold D.X6;split<;>(try split)<;>rfl)
  exact fM.F0 (hcell.rep len)
 obtain⟨arr,b0,a9I,RY,hb0⟩:=Y8 hs parts.toList _ _ ds [] hzero (by simp) hf;have We:=WW _ _ _ a9I;have hdl:ds.length=len*sz:=by
  rw[TZ _ _ _ hf,pO (sz:=sz) (by intro r hr;rw[Ch hr];simp[TC,Ei])];simp
 have hal:arr.size=len*sz:=by have:=RY.length;simp at this;omega
 refine⟨arr,b0,?_,RY,hb0,hal,hdl⟩;simp only[execOp,hop];by_cases h0:len*i.size=0
 ·have hl0:len=0:=by
   rw[Ei]at h0;rcases Nat.mul_eq_zero.1 h0 with h|h
   ·exact h
   ·omega
  subst hl0;have hma:madeCells z.cells (0*z.cells.size)= #[]:=by simp[madeCells]
  rw[hma]at We;have hpe:(parts.map fun(x:Nat×Operand)=>(x.1,a.eval x.2)).toList=parts.toList.map fun p=>(p.1,a.eval p.2):=by simp
  have hf2:=We;rw[<-hpe,<-Ei]at hf2;simp at hf2;have hr0:Array.range 0= #[]:=rfl;simp[Instr.buildSlice,run_underlying hu,sizeOf,typeInfo,hi,newRow,hr0,hf2]
 ·have hpe:(parts.map fun(x:Nat×Operand)=>(x.1,a.eval x.2)).toList=parts.toList.map fun p=>(p.1,a.eval p.2):=by simp
  have:=run_buildSlice (P:=P) w T e len (parts.map fun(x:Nat×Operand)=>(x.1,a.eval x.2)) arr i z hu hi AK (by rw[Ei];omega) h0 (by
   rw[hpe,Ei];have e2:(Array.range (len*sz)).map (z.cells[· %z.cells.size]!)=madeCells z.cells (len*z.cells.size):=by unfold madeCells;rw[TC,Ei]
   rw[e2];exact We)
  simp[this]
theorem RO{o:Oper}{T e sz len t:Nat}{parts:Array (Nat×Operand)}{zs ds es:aS}{ms:aa}(hop:o.op=.buildSlice T len parts)(hd:o.dst=some t)(hg:o.guard=none)(ht:t<Γ.nt)
 (hT:IM P T=some (e,sz)) (hz:tz P e=some zs) (hsz:0<sz) (hsmall:len*sz<=16777216)
 (hf:AE (vF len sz) (List.replicate len zs).flatten (parts.toList.map fun p=>(p.1,st.ev p.2))=some ds) (habs:O3 st.H ds=some (es,ms)) (hnd:ms.Nodup)
 (h:AO P Γ all rest Q ⟨(t,.acc st.H.length)::st.σ,kill st.H ms++[.row (BH (ds.all (Yn st.H))) e sz (chunk sz len es)]⟩):AO P Γ all (o::rest) Q st:=by
 intro κ Θ a w hs;obtain⟨arr,b0,hrun,RY,hb0,hal,hdl⟩:=Bc hop hT hz hsz hsmall hf hs;obtain⟨ρ,huq⟩:=hs.wQ;obtain⟨Θ1,ρ1,hs1,hu1,hm1,Ux,ZQ⟩:=eM.VB ms hs huq hnd (UK habs);obtain⟨bs,q1,q2,q3⟩:=W8 (H:=st.H) (ρ:=ρ1) habs hnd RY (fun b hb=>Ux b (hb0 b hb)) hm1;have hel:es.length=len*sz:=by rw[<-q1.length,RY.length,hdl]
 obtain⟨c1,c2,c3⟩:=GC sz len es hel;have hs':=hs1.newRow hu1 (u:=ds.all (Yn st.H)) (ms:=ms) (e:=e) (sz:=sz) (cap:=len) (rows:=chunk sz len es) (bs:=bs) arr hsz c3 hal (by rw[c1];exact bR _)
  (by unfold maxLen;have:len*1<=len*sz:=eN _ hsz;omega) (by rw[c1,c2,p7 (by simp[hal])];exact q1) q2
  (by
   intro m hm x hH;rcases uf hH with h|⟨h,_⟩
   ·subst h;rfl
   ·exact absurd hm h) q3
 refine wpList_plain hg fun K hK=>?_
 unfold Oper.wp;rw[hrun,Oper.upon_value,hd];rw[c1,iD]at hs';refine hK _ _ (h _ _ _ _ (hs'.set (t:=t) (d:=.acc st.H.length) (bs:=[]) ht ?_ (by simp)));exact(BM.acc st.H.length _ (by simp[AN])).Tx
end
end Go.Cx
namespace Go.Cx
open Go.RowKit
section
variable{P:Program}{Γ:vY}{Q:Exit->St->Prop}{st:St}{κ:Nat->Option Value}{Θ:Nat->Nat}{a:Act}{w:World}{all:Array Oper}{rest:List Oper}
theorem Pa(w:World)(t ty e:TypeId)(i:TypeInfo)(ht:P.underlying t=some (.slice e))(hi:P.info? e=some i)(b:Option Addr)(n cap:Nat)(hn:n<=cap):
 (Builtin.append_ #[t,t] ty #[.slice b n cap,.slice none 0 0]).run P w=.ok (.slice b n cap) w:=by
 cases b<;>simp[Builtin.append_,run_underlying ht,sizeOf,typeInfo,hi,Builtin.lenOf,Builtin.firstCells,hn,storeCells]
structure a0p(w:World)(Θ ρ:Nat->Nat)(e sz:Nat)(v:Value)(rows:List (List D))(u1:Bool)(i1:Nat)(bs:List Nat)(cs:List Value):Prop where
 rl:∀r∈rows,r.length=sz
 own:w.ownsRow 0 e sz v rows.length cs
 rd:mS w cs rows.flatten bs
 zero:∀b∈bs,Θ b=0
 top:∀g,v.ownBlock=some g->Θ g=i1+2
 uq:u1=true->bs.Nodup/\∀b∈bs,ρ b=i1+1
structure Yx(w:World)(Θ ρ:Nat->Nat)(sz:Nat)(u:Value)(rows:List (List D))(u2:Bool)(i2:Nat)(bs:List Nat)(cs:List Value):Prop where
 rl:∀r∈rows,r.length=sz
 at_:(u=.slice none 0 0/\rows=[])\/∃ad c,u=.slice (some ad) rows.length c/\∀j x,cs[j]?=some x->w.cell? (ad.add j)=some x
 rd:mS w cs rows.flatten bs
 zero:∀b∈bs,Θ b=0
 uq:u2=true->bs.Nodup/\∀b∈bs,ρ b=i2+1
theorem WC{T e sz i1 i2:Nat}{v u:Value}{rows fc:List aS}{u1 u2:Bool}{b1 b2:aa}{c1 c2:br}{ρ:Nat->Nat}{zs:aS}{ty:TypeId}(hT:IM P T=some (e,sz))(hz:tz P e=some zs)(hsz:0<sz)
 (hS:a0p w Θ ρ e sz v rows u1 i1 b1 c1) (hX:Yx w Θ ρ sz u fc u2 i2 b2 c2) (h63:rows.length+fc.length<=maxLen) (hby:(rows.length+fc.length)*tby P e<=140737488355328):
 ∃v' w',(Builtin.append_ #[T,T] ty #[v,u]).run P w=.ok v' w'/\w'.ownsRow 0 e sz v' (rows++fc).length (c1++c2)/\w.grownBy w' v.ownBlock/\(v'.ownBlock=v.ownBlock\/v'.ownBlock=some w.heap.size)/\
  mS w (c1++c2) (rows++fc).flatten (b1++b2):=by
 obtain⟨hu,_,NQ⟩:=q8 hT;obtain⟨i,z,hi,AK,TC,hlen,hone,rfl⟩:=zX hz;have Ei:i.size=sz:=by rw[<-NQ];simp[BQ,Program.cellsOf,hi]
 have hib:i.bytes=tby P e:=by simp[tby,Program.bytesOf,hi]
 have hr:mS w (c1++c2) (rows++fc).flatten (b1++b2):=by rw[lz];exact hS.rd.app hX.rd
 have hc2:c2.length=fc.length*sz:=by rw[hX.rd.length,pO hX.rl]
 rcases hX.at_ with⟨rfl,rfl⟩|⟨ad,c,rfl,hcell⟩
 ·have hc:c2=[]:=cc (by simpa using hc2);subst hc;have hv:∃b n cap,v=.slice b n cap/\n<=cap:=by
   rcases hS.own.2 with⟨rfl,_⟩|⟨g,cap,cur,rfl,_,_,hn,_⟩
   ·exact⟨_,_,_,rfl,bR _⟩
   ·exact⟨_,_,_,rfl,hn⟩
  obtain⟨b,n,cap,rfl,hn⟩:=hv;exact⟨_,w,Pa w T ty e i hu hi b n cap hn,by simpa using hS.own,⟨rfl,rfl,rfl,bR _,fun _ _ _=>rfl⟩,.inl rfl,hr⟩
 ·obtain⟨v',w',q1,q2,q3,_,q5⟩:=run_append_own_at (P:=P) w 0 T ty e i z sz (tby P e) hu hi AK Ei hib (by rw[TC,Ei]) hsz v rows.length c1 hS.own ad fc.length c c2 hc2 hcell hX.rd.one h63 hby (G5 _);exact⟨v',w',q1,by simpa using q2,q3,q5,hr⟩
theorem Yt{o:Oper}{T e sz t:Nat}{s x:Operand}{rows fc:List aS}{zs:aS}{u:Bool}{ks:aa}(hop:o.op=.call {callee:=.builtin .append,args:= #[s,x],argTypes:= #[T,T]})
 (hd:o.dst=some t) (hg:o.guard=none) (ht:t<Γ.nt) (hT:IM P T=some (e,sz)) (hz:tz P e=some zs) (hsz:0<sz)
 (h63:rows.length+fc.length<=maxLen) (hby:(rows.length+fc.length)*tby P e<=140737488355328)
 (hin:∀κ Θ a w ρ,eM Γ st κ Θ a w->CE Γ st.H κ Θ w ρ->∃u1 u2 i1 i2 b1 b2 c1 c2,a0p w Θ ρ e sz (a.eval s) rows u1 i1 b1 c1/\Yx w Θ ρ sz (a.eval x) fc u2 i2 b2 c2/\
  (i1∈ks\/i1=st.H.length)/\(u=true->u1=true/\u2=true/\(b2=[]\/(i2∈ks/\i1≠i2))))
 (h:AO P Γ all rest Q ⟨(t,.acc st.H.length)::st.σ,kill st.H ks++[.row (BH u) e sz (rows++fc)]⟩):AO P Γ all (o::rest) Q st:=by
 intro κ Θ a w hs;obtain⟨ρ,hu⟩:=hs.wQ;obtain⟨u1,u2,i1,i2,b1,b2,c1,c2,hS,hX,hi1,hq⟩:=hin κ Θ a w ρ hs hu;obtain⟨v',w',hrun,hown,hgr,hat,hrd⟩:=WC (P:=P) (ty:=o.type) hT hz hsz hS hX h63 hby;refine wpList_plain hg fun K hK=>?_
 have Ut:(execOp a.eval o).run P w=.ok (.value v') w':=by
  simp only[execOp,hop,resolve,invoke,builtin,Sem.run_bind,Sem.run_pure,Result.andThen_ok,pR,bH,bX,hrun]
 unfold Oper.wp;rw[Ut,Oper.upon_value,hd];let id:=st.H.length
 let Θ':Nat->Nat:=fun b=>if some b=v'.ownBlock then id+2 else Θ b
 have hvt:∀g,v'.ownBlock=some g->Θ g=i1+2\/g=w.heap.size:=by
  intro g ZO;rcases hat with h|h
  ·exact .inl (hS.top g (h▸ZO))
  ·rw[h]at ZO;cases ZO;exact .inr rfl
 have hnew:Θ w.heap.size=0:=by
  cases h0:Θ w.heap.size with
  |zero=>rfl
  |succ n=>exact absurd (hs.own w.heap.size (by omega)) (by omega)
 have k:jQ w w' Θ Θ' (i1+2):=by
  refine⟨by omega,hgr.os,hgr.tape,hgr.output,hgr.size,fun b hb hne=>hgr.block b hb (fun e=>hne (hS.top b e.symm)),fun b hb hne=>?_,fun b hb=>?_⟩
  ·simp only[Θ'];rw[bG];intro e;rcases hvt b e.symm with h|h
   ·exact hne h
   ·omega
  ·simp only[Θ']at hb;split at hb
   ·rename_i e;exact(hown.lt b e.symm).2
   ·exact eD (hs.own b hb) hgr.size
 have hm:∀b,2<=Θ' b->Cj Γ b:=by
  intro b hb;simp only[Θ']at hb;split at hb
  ·rename_i e;rcases hvt b e.symm with h|h
   ·exact hs.mine b (by omega)
   ·exact .inl (by rw[h];exact hs.base)
  ·exact hs.mine b hb
 have hn:=zf (hs.rI id (bR _)) (some v');have hv1:v'.oneCell'=true:=by
  rcases hown.2 with⟨rfl,_⟩|⟨g,cap,cur,rfl,_⟩<;>rfl
 have AK:∀b∈b1++b2,Θ b=0:=by
  intro b hb;rcases ar.1 hb with hb|hb
  ·exact hS.zero b hb
  ·exact hX.zero b hb
 obtain⟨QY,RM⟩:=mS.over k hrd AK;have hrl:∀r∈rows++fc,r.length=sz:=by
  intro r hr;rcases ar.1 hr with hr|hr
  ·exact hS.rl r hr
  ·exact hX.rl r hr
 have Hr:∀g,v'.ownBlock=some g->Θ' g=id+2:=fun g ZO=>by simp only[Θ'];rw[bQ ZO.symm]
 have key:∀(j:Nat) y,(kill st.H ks++[.row (BH u) e sz (rows++fc)])[j]?=some y->(j=id/\y=.row (BH u) e sz (rows++fc))\/(j≠id/\(y=.gone\/(j∉ks/\st.H[j]?=some y))):=by
  intro j y hj;rcases Ds j y hj with⟨h1,h2⟩|⟨h1,h2⟩
  ·rw[iD]at h1;exact .inl ⟨h1,h2⟩
  ·rw[iD]at h1;exact .inr ⟨h1,uf h2⟩
 have hne:∀(j:Nat) y,j∉ks->st.H[j]?=some y->j+2≠i1+2:=by
  intro j y hj hy;have:=(aH.1 hy).1;rcases hi1 with h|h
  ·intro e;exact hj (by
    have:j=i1:=by omega
    rw[this];exact h)
  ·omega
 have wm:=hs.qO k hn hu;let ρ':Nat->Nat:=fun b=>if u=true/\(b∈b1\/b∈b2)then id+1 else ρ b
 have hold:∀(j:Nat) y,j∉ks->st.H[j]?=some y->∀b,ρ b=j+1->ρ' b=j+1:=by
  intro j y hjk hy b hb;simp only[ρ'];rw[bG]
  ·exact hb
  ·rintro⟨BF,hmem⟩;obtain⟨p1,p2,p3⟩:=hq BF;rcases hmem with h|h
   ·have:=(hS.uq p1).2 b h;exact hne j _ hjk hy (by omega)
   ·have:=(hX.uq p2).2 b h;rcases p3 with h0|⟨h0,_⟩
    ·rw[h0]at h;cases h
    ·have:j=i2:=by omega
     subst this;exact hjk h0
 have hU:CE Γ (kill st.H ks++[.row (BH u) e sz (rows++fc)]) (AN κ id (some v')) Θ' w' ρ':=by
  refine⟨fun b hb=>?_,fun j e' sz' dM hj=>?_,fun j x hj=>?_⟩
  ·simp only[ρ']at hb;split at hb
   ·rename_i hc;obtain⟨BF,hmem⟩:=hc;obtain⟨q1,q2,q3⟩:=hq BF;rcases hmem with h|h
    ·exact wm.1 b (by rw[(hS.uq q1).2 b h];omega)
    ·exact wm.1 b (by rw[(hX.uq q2).2 b h];omega)
   ·exact wm.1 b hb
  ·rcases key j _ hj with⟨rfl,hy⟩|⟨_,hy|⟨hjk,hy⟩⟩
   ·cases BF:u with
    |false=>rw[BF]at hy;simp[BH]at hy
    |true=>
     rw[BF]at hy;simp only[BH,Ob.row.injEq,vh]at hy;obtain⟨rfl,rfl,rfl⟩:=hy;obtain⟨q1,q2,q3⟩:=hq BF;refine⟨v',c1++c2,b1++b2,lg _ _ _,hown,QY,?_,fun b hb=>?_⟩
     ·obtain⟨n1,r1⟩:=hS.uq q1;obtain⟨n2,r2⟩:=hX.uq q2;refine bN.2 ⟨n1,n2,fun y hy z hz hyz=>?_⟩;subst hyz;rcases q3 with h|⟨_,h⟩
      ·rw[h]at hz;cases hz
      ·have:=r1 y hy;have:=r2 y hz;omega
     ·simp only[ρ'];rw[bQ ⟨BF,ar.1 hb⟩]
   ·cases hy
   ·obtain⟨v2,cs,bs,q1,q2,q3,q4,q5⟩:=wm.2.1 j e' sz' dM (hne j _ hjk hy) hy;exact⟨v2,cs,bs,q1,q2,q3,q4,fun b hb=>hold j _ hjk hy b (q5 b hb)⟩
  ·rcases key j _ hj with⟨rfl,hy⟩|⟨_,hy|⟨hjk,hy⟩⟩
   ·subst hy;exact PD.Ac (Ob.VE _ _ _ _)
   ·subst hy;trivial
   ·exact(wm.2.2 j x (hne j _ hjk hy) hy).re fun b hb=>hold j _ hjk hy b hb
 have hs':eM Γ ⟨st.σ,kill st.H ks++[.row (BH u) e sz (rows++fc)]⟩ (AN κ id (some v')) Θ' a w':=by
  refine hs.step k hm hn ?_ ?_ ?_ ⟨ρ',hU⟩
  ·intro i hi;simp only[aX,aL,bK,iD]at hi;unfold AN;rw[bG (by omega)];exact hs.rI i (by omega)
  ·intro i y hy;unfold AN at hy;split at hy
   ·cases hy;exact hv1
   ·exact hs.qX i y hy
  ·intro j y hj;rcases key j y hj with⟨rfl,rfl⟩|⟨_,hy|⟨hjk,hy⟩⟩
   ·exact .inr (.inr ⟨hsz,hrl,v',_,_,lg _ _ _,hown,QY,Hr,by cases u<;>exact RM⟩)
   ·exact .inl hy
   ·exact .inr (.inl ⟨hne j y hjk hy,hy⟩)
 refine hK _ _ (h _ _ _ _ (hs'.set (t:=t) (d:=.acc id) (bs:=[]) ht ?_ (by simp)));exact(BM.acc id _ (lg _ _ _)).Tx
def D.nv(rows:List aS):Bool:=rows.all fun r=>r.all D.flat
theorem mS.flat{vs:br}{ds:aS}{bs:aa}(h:mS w vs ds bs)(hf:ds.all D.flat=true):bs=[]:=by
 induction ds generalizing vs bs with
 |nil=>cases h;rfl
 |cons d ds ih=>
  simp only[dG,aY]at hf;cases h with
  |cons v vs _ _ b1 b2 h1 h2 h3=>rw[h2.flat hf.1,ih h3 hf.2];rfl
theorem a0v{e sz i1:Nat}{ρ:Nat->Nat}:a0p w Θ ρ e sz (.slice none 0 0) [] true i1 [] []:=
 ⟨by simp,World.ownsRow_nil w 0 e sz,.nil,by simp,by simp[Value.ownBlock],by simp⟩
theorem MK{ρ:Nat->Nat}(hs:eM Γ st κ Θ a w)(hu:CE Γ st.H κ Θ w ρ){id e sz:Nat}{k:RK}{rows:List aS}{v:Value}(hk:κ id=some v)(hH:st.H[id]?=some (.row k e sz rows))(ho:k.TY=true):
 ∃bs cs,a0p w Θ ρ e sz v rows (match k with| .uq=>true|_=>false) id bs cs:=by
 obtain⟨_,hrl,v2,cs,bs,hk2,hown,vU,hΘ,hz⟩:=hs.ob id _ hH;rw[hk]at hk2;cases hk2;cases k with
 |cl=>simp[RK.TY]at ho
 |sh=>exact⟨bs,cs,hrl,hown,vU,hz,hΘ,by simp⟩
 |mv n=>exact⟨bs,cs,hrl,hown,vU,hz,hΘ,by simp⟩
 |uq=>
  obtain⟨v2,c2,b2,q1,q2,q3,q4,q5⟩:=hu.rows id e sz rows hH;rw[hk]at q1;cases q1;exact⟨b2,c2,hrl,q2,q3,fun b hb=>(hu.free b (by rw[q5 b hb];omega)).1,hΘ,fun _=>⟨q4,q5⟩⟩
theorem UN{ρ:Nat->Nat}(hs:eM Γ st κ Θ a w)(hu:CE Γ st.H κ Θ w ρ){id e sz:Nat}{k:RK}{rows:List aS}{v:Value}(hk:κ id=some v)(hH:st.H[id]?=some (.row k e sz rows))(ho:k.TY=true):
 ∃bs cs,Yx w Θ ρ sz v rows (match k with| .uq=>true|_=>false) id bs cs:=by
 obtain⟨bs,cs,h⟩:=MK hs hu hk hH ho;refine⟨bs,cs,h.rl,?_,h.rd,h.zero,h.uq⟩;rcases h.own.2 with⟨rfl,hn⟩|⟨g,cap,cur,rfl,_⟩
 ·exact .inl ⟨rfl,cc hn⟩
 ·exact .inr ⟨_,cap,rfl,h.own.cells (g:=g) (by simp[Value.ownBlock])⟩
theorem a0w{sz i2:Nat}{ρ:Nat->Nat}:Yx w Θ ρ sz (.slice none 0 0) [] true i2 [] []:=
 ⟨by simp,.inl ⟨rfl,rfl⟩,.nil,by simp,by simp⟩
theorem a44{ρ:Nat->Nat}{v:Value}{rows:List aS}{bs:aa}{sz:Nat}(h:Rd w v (.sl rows) bs)(hz:∀b∈bs,Θ b=0)(hrl:∀r∈rows,r.length=sz)(i2:Nat)(fl:Bool)(hf:fl=true->D.nv rows=true):
 ∃b2 cs,Yx w Θ ρ sz v rows fl i2 b2 cs/\(fl=true->b2=[]):=by
 cases h with
 |B1=>exact⟨[],[],⟨by simp,.inl ⟨rfl,rfl⟩,.nil,by simp,by simp⟩,by simp⟩
 |pH ad cap hc=>exact⟨[],[],⟨by simp,.inr ⟨ad,cap,rfl,by simp⟩,.nil,by simp,by simp⟩,by simp⟩
 |sl b off cap sz' _ cs bs' h0 h1 h2 h3 h4 h5=>
  have hfl:fl=true->bs'=[]:=fun e=>h5.flat (by
   have:=hf e;unfold D.nv at this;rw[bB]at this⊢;intro d hd;obtain⟨r,hr,M8⟩:=dY.1 hd;exact bB.1 (this r hr) d M8)
  refine⟨bs',cs,⟨hrl,.inr ⟨_,cap,rfl,fun j x hj=>?_⟩,h5,fun y hy=>hz y (by simp[hy]),fun e=>by rw[hfl e];simp⟩,hfl⟩;have:=h4 j x hj;simpa[Addr.add_lit]using this
end
end Go.Cx
namespace Go.Cx
open Go.RowKit
section
variable{P:Program}{Γ:vY}{Q:Exit->St->Prop}{st:St}{κ:Nat->Option Value}{Θ:Nat->Nat}{a:Act}{w:World}{all:Array Oper}{rest:List Oper}
theorem jl{H:bW}{ms:aa}{j:Nat}(h:j∉ms):(kill H ms)[j]?=H[j]?:=by
 induction ms generalizing H with
 |nil=>rfl
 |cons m ms ih=>
  simp only[bM,KP]at h;simp only[kill];rw[ih h.2,cF (fun e=>h.1 e.symm)]
def RK.after(k:RK)(b:Bool):RK:=match k with
 | .uq=>BH b
 | .mv _=>.sh
 |k=>k
theorem RK.Z2(k:RK)(b:Bool)(e:TypeId)(sz:Nat)(rows:List aS):(Ob.row (k.after b) e sz rows).mvB=false:=by cases k<;>cases b<;>rfl
theorem UA{o:Oper}{T id i sz off e:Nat}{k0:RK}{x y:Operand}{rows:List aS}{row ds es:aS}{ms:aa}(hop:o.op=.store T x y)(hd:o.dst=none)(hg:o.guard=none)
 (hx:st.ev x=.op id i sz off) (hH:st.H[id]?=some (.row k0 e sz rows)) (hk0:k0.TY=true) (hrow:rows[i]?=some row) (hc:(st.ev y).cellsOf=some ds) (habs:O3 st.H ds=some (es,ms)) (hnd:ms.Nodup) (hid:id∉ms)
 (hT:Tu P T=true) (hl:ds.length=BQ P T) (hfit:off+ds.length<=sz)
 (h:AO P Γ all rest Q ⟨st.σ,(kill st.H ms).set id (.row (k0.after (ds.all (Yn st.H))) e sz (rows.set i (row.take off++es++row.drop (off+ds.length))))⟩):AO P Γ all (o::rest) Q st:=by
 intro κ Θ0 a w hs0;obtain⟨b1,r1,_⟩:=hs0.ev x;obtain⟨b20,r2,aCr⟩:=hs0.ev y;rw[hx]at r1;obtain⟨g,o0,len,cap,hk,hv⟩:=r1.I0;have hcv:=DK hs0.qX r2 hc;obtain⟨ρ0,hu0⟩:=hs0.wQ;obtain⟨Θ,ρ,hs,hu,hm1,Ux,ZQ⟩:=eM.VB ms hs0 hu0 hnd (UK habs);obtain⟨b2,hcp,hz2,M9⟩:=W8 (H:=st.H) (ρ:=ρ) habs hnd hcv (fun b hb=>Ux b (aCr b hb)) hm1;have Vo:(kill st.H ms)[id]?=some (.row k0 e sz rows):=by rw[jl hid];exact hH
 obtain⟨bs,cs,hA⟩:=MK hs hu hk Vo hk0;have hrl:=hA.rl;have hown:=hA.own;have ho0:=En hown;subst ho0;rw[cq]at hv;have vU:=hA.rd;have hsz:0<sz:=by
  obtain⟨hsz,_⟩:=hs.ob id _ Vo;exact hsz
 rcases hown.2 with⟨ue,_⟩|⟨g',cap2,cur,hkv,hb,T8,hnc,hcm,hcs,Uv⟩
 ·cases ue
 ·cases hkv;have TD:=hA.top g (by simp[Value.ownBlock]);have hl1:=hcv.length;have hle:es.length=ds.length:=by rw[<-hcp.length,hl1]
  have hilt:i<rows.length:=(aH.1 hrow).1;have a73:(i+1)*sz<=rows.length*sz:=dS _ hilt;have aEv:rows.length*sz<=cap*sz:=dS _ hnc;rw[kW,nk]at a73;have a7J:(a.eval y).cells.size=BQ P T:=by rw[<-hl,<-hl1];simp
  have aF3:(a.eval y).cells.size=ds.length:=by rw[<-hl1];simp
  have hst:=I2 (P:=P) (T:=T) (off:=i*sz+off) T8 a7J (eR.1 hT) (by omega) hcv.one;have k:=jQ.setRow hs (g:=g) (cs:=(cur.toList.take (i*sz+off)++(a.eval y).cells.toList++cur.toList.drop (i*sz+off+(a.eval y).cells.toList.length)).toArray) (tag:=id+2) (by omega) TD;refine wpList_plain hg fun K hK=>?_
  unfold Oper.wp;have hrun:(execOp a.eval o).run P w=.ok .skip (w.setRow g (cur.toList.take (i*sz+off)++(a.eval y).cells.toList++cur.toList.drop (i*sz+off+(a.eval y).cells.toList.length)).toArray):=by
   simp only[execOp,hop,hv];simp[hst]
  rw[hrun,Oper.upon_skip,hd];have hfl:=pO hrl;have e0:rows.flatten=rows.flatten.take (i*sz+off)++((rows.flatten.drop (i*sz+off)).take ds.length++(rows.flatten.drop (i*sz+off)).drop ds.length):=by rw[cC,cC]
  rw[e0]at vU;obtain⟨v1,v2,c1,c2,QZ,Ho,k1,k2⟩:=vU.split;obtain⟨v3,v4,c3,c4,rfl,rfl,k3,k4⟩:=k2.split;have l1:v1.length=i*sz+off:=by rw[k1.length,cM];omega
  have l3:v3.length=ds.length:=by rw[k3.length,cM,wT];omega
  rw[gj]at k4;have hnew:=(k1.app hcp).app k4;have RM:∀b∈((c1++b2)++c4),Θ b=0:=by
   intro b hb;simp only[ar]at hb;rcases hb with(hb|hb)|hb
   ·exact hA.zero b (by rw[Ho];simp[hb])
   ·exact hz2 b hb
   ·exact hA.zero b (by rw[Ho];simp[hb])
  obtain⟨n1,n2⟩:=mS.over k hnew RM;have hfs:=Hh (ds:=es) (off:=off) hrl hrow (by omega);rw[hle]at hfs;rw[<-hfs]at n1;have a1H:cs.length=rows.length*sz:=hown.1;have a9G:cur.toList=v1++(v3++(v4++cur.toList.drop (rows.length*sz))):=by
   have:cur.toList=cs++cur.toList.drop (rows.length*sz):=by rw[<-Uv,cC]
   rw[QZ]at this;simpa using this
  have t1:cur.toList.take (i*sz+off)=v1:=by rw[a9G];exact j7 l1
  have t2:cur.toList.drop (i*sz+off+(a.eval y).cells.toList.length)=v4++cur.toList.drop (rows.length*sz):=by
   rw[hl1,<-gj]
   conv=>lhs;rw[a9G]
   rw[fm l1,fm l3]
  have hl4:(v1++(a.eval y).cells.toList++v4).length=rows.length*sz:=by
   have:=a1H;rw[QZ]at this;simp only[aX]at this⊢;omega
  have NN:(w.setRow g (cur.toList.take (i*sz+off)++(a.eval y).cells.toList++cur.toList.drop (i*sz+off+(a.eval y).cells.toList.length)).toArray).ownsRow 0 e sz (.slice (some ⟨g,0,none⟩) rows.length cap)
   (rows.set i (row.take off++es++row.drop (off+ds.length))).length (v1++(a.eval y).cells.toList++v4):=by
   refine⟨by simpa using hl4,.inr ⟨g,cap,_,by simp,hb,setRow_heap w g cur _ e _ T8,by simpa using hnc,hcm,?_,?_⟩⟩
   ·simp only[CS,aX,cM,wT,wq];omega
   ·rw[t1,t2];simp only[bZ];rw[<-bY];exact j7 hl4
  have PT:∀r∈rows.set i (row.take off++es++row.drop (off+ds.length)),r.length=sz:=by
   intro r hr;rcases CD hr with hr|rfl
   ·exact hrl r hr
   ·have:=hrl row (aC hrow);simp;omega
  have Hr:∀g2,(Value.slice (some ⟨g,0,none⟩) rows.length cap).ownBlock=some g2->Θ g2=id+2:=by
   intro g2 hg2;simp only[Value.ownBlock,ax]at hg2;subst hg2;exact TD
  refine hK _ _ (h _ _ _ _ (hs.put ms BI (fun _ _ h=>h) (fun i hi=>hs.rI i (by simpa using hi)) hs.qX k hs.mine ?_ hu ?_ ?_ (RK.Z2 _ _ _ _ _)))
  ·refine⟨hsz,PT,_,_,_,hk,NN,n1,Hr,?_⟩;cases k0 with
   |cl=>simp[RK.TY]at hk0
   |sh=>exact n2
   |mv n=>exact n2
   |uq=>simp only[RK.after];cases(ds.all (Yn st.H))<;>exact n2
  ·intro m hm x _ Lp;rcases uf Lp with h|⟨h,_⟩
   ·subst h;rfl
   ·exact absurd hm h
  ·intro e' sz' dM he;cases k0 with
   |cl=>simp[RK.TY]at hk0
   |sh=>simp[RK.after]at he
   |mv n=>simp[RK.after]at he
   |uq=>
    simp only[RK.after]at he;cases hq:ds.all (Yn st.H)with
    |false=>rw[hq]at he;simp[BH]at he
    |true=>
     rw[hq]at he;simp only[BH,Ob.row.injEq,vh]at he;obtain⟨rfl,rfl,rfl⟩:=he;obtain⟨q1,q2⟩:=M9 hq;obtain⟨p1,p2⟩:=hA.uq rfl;rw[Ho]at p1 p2;obtain⟨m1,m2,m3⟩:=bN.1 p1;obtain⟨m4,m5,m6⟩:=bN.1 m2;refine⟨_,_,_,hk,NN,n1,?_,fun b hb=>?_⟩
     ·refine bN.2 ⟨bN.2 ⟨m1,q1,fun x hx y hy e=>?_⟩,m5,fun x hx y hy e=>?_⟩
      ·subst e;obtain⟨m,hm,he⟩:=q2 x hy;have:=p2 x (by simp[hx]);exact hid (by
        have:id=m:=by omega
        rw[this];exact hm)
      ·subst e;rcases ar.1 hx with hx|hx
       ·exact m3 x hx x (by simp[hy]) rfl
       ·obtain⟨m,hm,he⟩:=q2 x hx;have:=p2 x (by simp[hy]);exact hid (by
         have:id=m:=by omega
         rw[this];exact hm)
     ·simp only[ar]at hb;rcases hb with(hb|hb)|hb
      ·exact .inl (p2 b (by simp[hb]))
      ·exact .inr (q2 b hb)
      ·exact .inl (p2 b (by simp[hb]))
end
end Go.Cx
namespace Go.Cx
open Go.RowKit
inductive Xq(w:World):List Value->List D->List Nat->Prop
 |nil:Xq w [] [] []
 |cons (v:Value) (vs:br) (d:D) (ds:aS) (b1 b2:aa):Rd w v d b1->Xq w vs ds b2->Xq w (v::vs) (d::ds) (b1++b2)
inductive IN(w:World):Value->D->List Nat->List Nat->List Nat->Prop
 |pure {v:Value} {d:D} {bs:aa}:Rd w v d bs->IN w v d bs [] []
 |fr (v:Value) (e sz:Nat) (rows:List aS) (cs:br) (ns:aa):0<sz->(∀r∈rows,r.length=sz)->w.ownsRow 0 e sz v rows.length cs->mS w cs rows.flatten ns->v.oneCell'=true->
  IN w v (.fr e sz rows) [] v.ownBlock.toList (v.ownBlock.toList++ns)
inductive vl(w:World):List Value->List D->List Nat->List Nat->List Nat->Prop
 |nil:vl w [] [] [] [] []
 |cons (v:Value) (vs:br) (d:D) (ds:aS) (b1 b2 t1 t2 u1 u2:aa):v.oneCell'=true->IN w v d b1 t1 u1->vl w vs ds b2 t2 u2->vl w (v::vs) (d::ds) (b1++b2) (t1++t2) (u1++u2)
inductive IP(w:World):Value->D->List Nat->List Nat->List Nat->Prop
 |cell {v:Value} {d:D} {bs ts us:aa}:IN w v d bs ts us->IP w v d bs ts us
 |agg (cs:br) (ds:aS) (bs ts us:aa):vl w cs ds bs ts us->IP w (.agg cs.toArray) (.agg ds) bs ts us
inductive DF(w:World):List Value->List D->List Nat->List Nat->List Nat->Prop
 |nil:DF w [] [] [] [] []
 |cons (v:Value) (vs:br) (d:D) (ds:aS) (b1 b2 t1 t2 u1 u2:aa):IP w v d b1 t1 u1->DF w vs ds b2 t2 u2->DF w (v::vs) (d::ds) (b1++b2) (t1++t2) (u1++u2)
inductive E9(w:World):Value->D->List Nat->List Nat->List Nat->Prop
 |v {v:Value} {d:D} {bs ts us:aa}:IP w v d bs ts us->E9 w v d bs ts us
 |iF (vs:br) (ds:aS) (bs ts us:aa):DF w vs ds bs ts us->E9 w (.tuple vs.toArray) (.iF ds) bs ts us
def Good(P:Program)(f:FuncId)(ds:aS)(d:D):Prop:=
 (∃fn,P.funcs[f]?=some fn/\fn.body.isSome=true/\(fn.name== "runtime.NumGoroutine")=false)/\
 ∀(w:World) (Θ:Nat->Nat) (args:br) (bs:aa),Sp w (fun _=>False)->Xq w args ds bs->(∀b∈bs,Θ b=0)->(∀b,Θ b≠0->b<w.heap.size)->(∀b,Θ b<=1)->
  Calls P f args.toArray w (fun e w'=>∃v bs' ts us,e=.returned v/\Below w.heap.size w w'/\E9 w' v d bs' ts us/\(∀b∈bs',b<w.heap.size->Θ b=0)/\(∀b∈bs',b∉ts)/\us.Nodup/\
   (∀b∈us,w.heap.size<=b/\Wr w' b)/\∀b∈ts,b∈us)
def Ez(n:Nat)(d:D):D×bW:=match d with
 | .fr e sz rows=>(.acc n,[.row .uq e sz rows])
 |d=>(d,[])
def nw(n:Nat):aS->aS×bW
 | []=>([],[])
 |d::ds=>((Ez n d).1::(nw (n+(Ez n d).2.length) ds).1,(Ez n d).2++(nw (n+(Ez n d).2.length) ds).2)
def Dm(n:Nat)(d:D):D×bW:=match d with
 | .agg cs=>(.agg (nw n cs).1,(nw n cs).2)
 |d=>Ez n d
def Ek(n:Nat):aS->aS×bW
 | []=>([],[])
 |d::ds=>((Dm n d).1::(Ek (n+(Dm n d).2.length) ds).1,(Dm n d).2++(Ek (n+(Dm n d).2.length) ds).2)
def rH(n:Nat)(d:D):D×bW:=match d with
 | .iF vs=>(.iF (Ek n vs).1,(Ek n vs).2)
 |d=>Dm n d
structure Fs where
 v:Value
 e:Nat
 sz:Nat
 rows:List aS
 cs:br
 ns:aa
def Fs.ob(x:Fs):Ob:=.row .uq x.e x.sz x.rows
def Fs.ok(w:World)(x:Fs):Prop:=0<x.sz/\(∀r∈x.rows,r.length=x.sz)/\w.ownsRow 0 x.e x.sz x.v x.rows.length x.cs/\mS w x.cs x.rows.flatten x.ns/\x.v.oneCell'=true
def Fs.bl(x:Fs):aa:=x.v.ownBlock.toList++x.ns
def Fs.ts(x:Fs):aa:=x.v.ownBlock.toList
section
variable{P:Program}{Γ:vY}{Q:Exit->St->Prop}{st:St}{κ κ':Nat->Option Value}{Θ Θ':Nat->Nat}{a:Act}{w w':World}{all:Array Oper}{rest:List Oper}
def Names(κ:Nat->Option Value)(n:Nat)(L:List Fs):Prop:=∀(i:Nat) x,L[i]?=some x->κ (n+i)=some x.v
theorem Names.left{n:Nat}{L1 L2:List Fs}(h:Names κ n (L1++L2)):Names κ n L1:=fun i x hx=>h i x (by
 rw[bA (aH.1 hx).1];exact hx)
theorem Names.right{n:Nat}{L1 L2:List Fs}(h:Names κ n (L1++L2)):Names κ (n+L1.length) L2:=fun i x hx=>by
 have:=h (L1.length+i) x (by rw[bE (by omega)];simpa using hx);rw[<-this];congr 1;omega
theorem IN.inst{v:Value}{d:D}{bs ts us:aa}(h:IN w v d bs ts us)(n:Nat):
 ∃L:List Fs,L.map Fs.ob=(Ez n d).2/\(∀x∈L,x.ok w)/\us=L.flatMap Fs.bl/\ts=L.flatMap Fs.ts/\∀κ,Names κ n L->BM w κ v (Ez n d).1 bs:=by
 cases h with
 |pure h=>
  have e:Ez n d=(d,[]):=by cases h<;>rfl
  rw[e];exact⟨[],rfl,by simp,rfl,rfl,fun κ _=>.pure h⟩
 |fr e sz rows cs ns h1 h2 h3 h4 h5=>
  refine⟨[⟨v,e,sz,rows,cs,ns⟩],rfl,?_,by simp[Fs.bl],by simp[Fs.ts],fun κ hk=>?_⟩
  ·intro x hx;simp at hx;subst hx;exact⟨h1,h2,h3,h4,h5⟩
  ·exact .acc n v (by simpa using hk 0 _ rfl)
theorem vl.inst{vs:br}{ds:aS}{bs ts us:aa}(h:vl w vs ds bs ts us)(n:Nat):
 ∃L:List Fs,L.map Fs.ob=(nw n ds).2/\(∀x∈L,x.ok w)/\us=L.flatMap Fs.bl/\ts=L.flatMap Fs.ts/\∀κ,Names κ n L->fM w κ vs (nw n ds).1 bs:=by
 induction h generalizing n with
 |nil=>exact⟨[],rfl,by simp,rfl,rfl,fun κ _=>.nil⟩
 |cons v vs d ds b1 b2 t1 t2 u1 u2 h1 h2 _ ih=>
  obtain⟨L1,q1,q2,q3,q4,q5⟩:=h2.inst n;obtain⟨L2,p1,p2,p3,p4,p5⟩:=ih (n+(Ez n d).2.length);have hl:L1.length=(Ez n d).2.length:=by rw[<-q1];simp
  refine⟨L1++L2,by simp[nw,q1,p1],?_,by simp[q3,p3],by simp[q4,p4],fun κ hk=>?_⟩
  ·intro x hx;rcases ar.1 hx with hx|hx
   ·exact q2 x hx
   ·exact p2 x hx
  ·refine .cons _ _ _ _ _ _ h1 (q5 κ hk.left) (p5 κ ?_);rw[<-hl];exact hk.right
theorem IP.inst{v:Value}{d:D}{bs ts us:aa}(h:IP w v d bs ts us)(n:Nat):
 ∃L:List Fs,L.map Fs.ob=(Dm n d).2/\(∀x∈L,x.ok w)/\us=L.flatMap Fs.bl/\ts=L.flatMap Fs.ts/\∀κ,Names κ n L->Pz w κ v (Dm n d).1 bs:=by
 cases h with
 |cell h=>
  by_cases ve:∃ds,d=.agg ds
  ·obtain⟨ds,rfl⟩:=ve;cases h with
   |pure h=>
    cases h with
    |agg cs _ _ h=>
     have:∀(vs:br) (es:aS) (b:aa),mS w vs es b->∀n,(nw n es).1=es/\(nw n es).2=[]:=by
      intro vs es
      induction es generalizing vs with
      |nil=>intro b _ n;exact⟨rfl,rfl⟩
      |cons e es ih=>
       intro b hh n;cases hh with
       |cons v vs _ _ b1 b2 _ h2 h3=>
        have e1:Ez n e=(e,[]):=by cases h2<;>rfl
        have:=ih vs b2 h3 n;simp[nw,e1,this]
     obtain⟨e1,e2⟩:=this _ _ _ h n;refine⟨[],by simp[Dm,e2],by simp,rfl,rfl,fun κ _=>?_⟩;simp only[Dm,e1];exact .agg _ _ _ (fM.F0 h)
  ·have e:Dm n d=Ez n d:=by cases d<;>first|rfl|exact absurd ⟨_,rfl⟩ ve
   rw[e];obtain⟨L,q1,q2,q3,q4,q5⟩:=h.inst n;exact⟨L,q1,q2,q3,q4,fun κ hk=>.cell (q5 κ hk)⟩
 |agg cs ds bs ts us h=>
  obtain⟨L,q1,q2,q3,q4,q5⟩:=h.inst n;exact⟨L,q1,q2,q3,q4,fun κ hk=>.agg _ _ _ (q5 κ hk)⟩
theorem DF.inst{vs:br}{ds:aS}{bs ts us:aa}(h:DF w vs ds bs ts us)(n:Nat):
 ∃L:List Fs,L.map Fs.ob=(Ek n ds).2/\(∀x∈L,x.ok w)/\us=L.flatMap Fs.bl/\ts=L.flatMap Fs.ts/\∀κ,Names κ n L->E8 w κ vs (Ek n ds).1 bs:=by
 induction h generalizing n with
 |nil=>exact⟨[],rfl,by simp,rfl,rfl,fun κ _=>.nil⟩
 |cons v vs d ds b1 b2 t1 t2 u1 u2 h2 _ ih=>
  obtain⟨L1,q1,q2,q3,q4,q5⟩:=h2.inst n;obtain⟨L2,p1,p2,p3,p4,p5⟩:=ih (n+(Dm n d).2.length);have hl:L1.length=(Dm n d).2.length:=by rw[<-q1];simp
  refine⟨L1++L2,by simp[Ek,q1,p1],?_,by simp[q3,p3],by simp[q4,p4],fun κ hk=>?_⟩
  ·intro x hx;rcases ar.1 hx with hx|hx
   ·exact q2 x hx
   ·exact p2 x hx
  ·refine .cons _ _ _ _ _ _ (q5 κ hk.left) (p5 κ ?_);rw[<-hl];exact hk.right
theorem E9.inst{v:Value}{d:D}{bs ts us:aa}(h:E9 w v d bs ts us)(n:Nat):
 ∃L:List Fs,L.map Fs.ob=(rH n d).2/\(∀x∈L,x.ok w)/\us=L.flatMap Fs.bl/\ts=L.flatMap Fs.ts/\∀κ,Names κ n L->td w κ v (rH n d).1 bs:=by
 cases h with
 |v h=>
  have hnt:∀vs,d≠ .iF vs:=by
   intro vs e;subst e;cases h with
   |cell h=>cases h with|pure h=>cases h
  have e:rH n d=Dm n d:=by cases d<;>first|rfl|exact absurd rfl (hnt _)
  rw[e];obtain⟨L,q1,q2,q3,q4,q5⟩:=h.inst n;exact⟨L,q1,q2,q3,q4,fun κ hk=>.v (q5 κ hk)⟩
 |iF vs ds bs ts us h=>
  obtain⟨L,q1,q2,q3,q4,q5⟩:=h.inst n;exact⟨L,q1,q2,q3,q4,fun κ hk=>.iF _ _ _ (q5 κ hk)⟩
theorem UE{v:Value}{d:D}{bs ts us:aa}(h:IN w v d bs ts us):∀b∈ts,Wr w b:=by
 cases h with
 |pure=>simp
 |fr e sz rows cs ns h1 h2 h3 h4 h5=>
  intro b hb;simp only[lP]at hb;rcases h3.2 with⟨rfl,_⟩|⟨g,cap,cur,rfl,_,hg,_⟩
  ·simp[Value.ownBlock]at hb
  ·simp[Value.ownBlock]at hb;subst hb;exact⟨_,_,hg⟩
theorem Yz{vs:br}{ds:aS}{bs ts us:aa}(h:vl w vs ds bs ts us):∀b∈ts,Wr w b:=by
 induction h with
 |nil=>simp
 |cons v vs d ds b1 b2 t1 t2 u1 u2 h1 h2 _ ih=>
  intro b hb;rcases ar.1 hb with hb|hb
  ·exact UE h2 b hb
  ·exact ih b hb
theorem Q0{v:Value}{d:D}{bs ts us:aa}(h:IP w v d bs ts us):∀b∈ts,Wr w b:=by
 cases h with
 |cell h=>exact UE h
 |agg cs ds bs ts us h=>exact Yz h
theorem Rn{vs:br}{ds:aS}{bs ts us:aa}(h:DF w vs ds bs ts us):∀b∈ts,Wr w b:=by
 induction h with
 |nil=>simp
 |cons v vs d ds b1 b2 t1 t2 u1 u2 h2 _ ih=>
  intro b hb;rcases ar.1 hb with hb|hb
  ·exact Q0 h2 b hb
  ·exact ih b hb
theorem UF{v:Value}{d:D}{bs ts us:aa}(h:E9 w v d bs ts us):∀b∈ts,Wr w b:=by
 cases h with
 |v h=>exact Q0 h
 |iF vs ds bs ts us h=>exact Rn h
def ix{α:Type}(p:α->Bool):List α->Option Nat
 | []=>none
 |x::r=>if p x then some 0 else(ix p r).map (· +1)
theorem ze{α:Type}{p:α->Bool}:∀ {l:List α} {i:Nat},ix p l=some i->∃x,l[i]?=some x/\p x=true:=by
 intro l
 induction l with
 |nil=>intro i h;cases h
 |cons x r ih=>
  intro i h;simp only[ix]at h;split at h
  ·cases h;exact⟨x,rfl,by assumption⟩
  ·cases hr:ix p r with
   |none=>simp[hr]at h
   |some j=>simp[hr]at h;subst h;simpa using ih hr
theorem El{α:Type}{p:α->Bool}:∀ {l:List α} {i:Nat} {x:α},l[i]?=some x->p x=true->(∀(j:Nat) y,l[j]?=some y->p y=true->j=i)->ix p l=some i:=by
 intro l
 induction l with
 |nil=>intro i x h;simp at h
 |cons y r ih=>
  intro i x h hp hu;simp only[ix];split
  ·rename_i hy;rw[hu 0 y rfl hy]
  ·rename_i hy;cases i with
   |zero=>simp at h;subst h;exact absurd hp hy
   |succ i=>
    rw[ih (by simpa using h) hp (fun j z hz hpz=>by have:=hu (j+1) z (by simpa using hz) hpz;omega)];rfl
theorem yK{α:Type}{f:α->aa}:∀ {l:List α},(l.flatMap f).Nodup->∀(i j:Nat) x y b,l[i]?=some x->l[j]?=some y->b∈f x->b∈f y->i=j:=by
 intro l
 induction l with
 |nil=>intro _ i j x y b hi;simp at hi
 |cons z r ih=>
  intro hnd i j x y b hi hj Hp hby;simp only[dK]at hnd;obtain⟨n1,n2,n3⟩:=bN.1 hnd;cases i with
  |zero=>
   simp at hi;subst hi;cases j with
   |zero=>rfl
   |succ j=>
    simp at hj;exact absurd rfl (n3 b Hp b (cD.2 ⟨y,aC hj,hby⟩))
  |succ i=>
   simp at hi;cases j with
   |zero=>
    simp at hj;subst hj;exact absurd rfl (n3 b hby b (cD.2 ⟨x,aC hi,Hp⟩))
   |succ j=>simp at hj;rw[ih n2 i j x y b hi hj Hp hby]
theorem eM.SD(hs:eM Γ st κ Θ a w)(hb:Below w.heap.size w w')(L:List Fs)(hL:∀x∈L,x.ok w')(hnd:(L.flatMap Fs.bl).Nodup)(hfr:∀b∈L.flatMap Fs.bl,w.heap.size<=b/\Wr w' b)
 (n:Nat) (H':bW) (hfree:∀i,i<L.length->κ (n+i)=none) (hlen':st.H.length<=H'.length) (hin:n+L.length<=H'.length)
 (key:∀(j:Nat) y,H'[j]?=some y->(∃i x,j=n+i/\L[i]?=some x/\y=x.ob)\/((j<n\/n+L.length<=j)/\(y=.gone\/st.H[j]?=some y))):
 ∃κ' Θ',eM Γ ⟨st.σ,H'⟩ κ' Θ' a w'/\Names κ' n L/\(∀(j:Nat) v,κ j=some v->κ' j=some v)/\(∀b,b∉L.flatMap Fs.ts->Θ' b=Θ b)/\(∀j,(j<n\/n+L.length<=j)->κ' j=κ j):=by
 let κ':Nat->Option Value:=fun j=>if j<n\/n+L.length<=j then κ j else(L[j-n]?).map Fs.v
 let Θ':Nat->Nat:=fun b=>match ix (fun x:Fs=>x.v.ownBlock==some b) L with|some i=>n+i+2|none=>Θ b
 have hu1:∀(i j:Nat) x y b,L[i]?=some x->L[j]?=some y->b∈x.bl->b∈y.bl->i=j:=fun i j x y b=>yK hnd i j x y b
 have hts:∀(i:Nat) x b,L[i]?=some x->x.v.ownBlock=some b->Θ' b=n+i+2:=by
  intro i x b hi hxb;have:ix (fun x:Fs=>x.v.ownBlock==some b) L=some i:=El hi (by simp[hxb]) (fun j y hj hy=>by
   simp only[cj]at hy;exact hu1 j i y x b hj hi (by simp[Fs.bl,hy]) (by simp[Fs.bl,hxb]))
  simp only[Θ',this]
 have hno:∀b,b∉L.flatMap Fs.ts->Θ' b=Θ b:=by
  intro b hb';simp only[Θ'];cases h:ix (fun x:Fs=>x.v.ownBlock==some b) L with
  |none=>rfl
  |some i=>
   obtain⟨x,hx,hp⟩:=ze h;exact absurd (cD.2 ⟨x,aC hx,by simp only[cj]at hp;simp[Fs.ts,hp]⟩) hb'
 have hsub:∀b,b∈L.flatMap Fs.ts->b∈L.flatMap Fs.bl:=by
  intro b h;obtain⟨x,hx,Hp⟩:=cD.1 h;exact cD.2 ⟨x,hx,by simp only[Fs.bl,Fs.ts]at Hp⊢;exact ar.2 (.inl Hp)⟩
 have hold:∀b,b<w.heap.size->Θ' b=Θ b:=fun b hlt=>hno b (fun h=>by have:=(hfr b (hsub b h)).1;omega)
 have hzero:∀b,w.heap.size<=b->Θ b=0:=fun b hge=>by
  cases h:Θ b with
  |zero=>rfl
  |succ m=>exact absurd (hs.own b (by omega)) (by omega)
 have hn:∀(j:Nat) v,κ j=some v->κ' j=some v:=by
  intro j v hj;have:j<n\/n+L.length<=j:=by
   rcases eO j n with h|h
   ·exact .inl h
   ·rcases eO j (n+L.length)with h2|h2
    ·have:=hfree (j-n) (by omega);rw[show n+(j-n)=j from by omega,hj]at this;cases this
    ·exact .inr h2
  simp only[κ'];rw[bQ this];exact hj
 have C1:Names κ' n L:=by
  intro i x hx;have hlt:=(aH.1 hx).1;simp only[κ'];rw[bG (by omega),dh,hx];rfl
 have hTb:∀b,Θ' b≠0->Θ b≠0\/b∈L.flatMap Fs.bl:=by
  intro b h;by_cases hbt:b∈L.flatMap Fs.ts
  ·exact .inr (hsub b hbt)
  ·rw[hno b hbt]at h;exact .inl h
 have k:jQ w w' Θ Θ' (H'.length+2):=by
  refine⟨by omega,hb.os,hb.tape,hb.output,hb.size,fun b hlt _=>hb.block b hlt,fun b hlt _=>hold b hlt,fun b h=>?_⟩;rcases hTb b h with h|h
  ·exact eD (hs.own b h) hb.size
  ·obtain⟨cs,T,hx⟩:=(hfr b h).2;exact(bL.1 hx).1
 have hm:∀b,2<=Θ' b->Cj Γ b:=by
  intro b h;by_cases hbt:b∈L.flatMap Fs.ts
  ·exact .inl (cS hs.base (hfr b (hsub b hbt)).1)
  ·rw[hno b hbt]at h;exact hs.mine b h
 obtain⟨ρ,hu⟩:=hs.wQ;have wm:=hs.qO k hn hu;let ρ':Nat->Nat:=fun b=>match ix (fun x:Fs=>x.ns.contains b) L with|some i=>n+i+1|none=>ρ b
 have hns:∀(i:Nat) x b,L[i]?=some x->b∈x.ns->ρ' b=n+i+1:=by
  intro i x b hi hxb;have:ix (fun x:Fs=>x.ns.contains b) L=some i:=El hi (by simpa using hxb) (fun j y hj hy=>by
   exact hu1 j i y x b hj hi (by simp only[Fs.bl];exact ar.2 (.inr (by simpa using hy))) (by simp only[Fs.bl];exact ar.2 (.inr hxb)))
  simp only[ρ',this]
 have AK:∀(i:Nat) x b,L[i]?=some x->b∈x.ns->Θ' b=0:=by
  intro i x b hi hxb;have hmem:b∈L.flatMap Fs.bl:=cD.2 ⟨x,aC hi,by simp only[Fs.bl];exact ar.2 (.inr hxb)⟩;rw[hno b ?_]
  ·exact hzero b (hfr b hmem).1
  ·intro h;obtain⟨y,hy,hby⟩:=cD.1 h;obtain⟨j,hj⟩:=cm hy;have:=hu1 j i y x b hj hi (by simp only[Fs.bl,Fs.ts]at hby⊢;exact ar.2 (.inl hby)) (by simp only[Fs.bl];exact ar.2 (.inr hxb));subst this;rw[hj]at hi;cases hi;have OV:x.bl.Nodup:=by
    have:∀(l:List Fs),(l.flatMap Fs.bl).Nodup->∀x∈l,x.bl.Nodup:=by
     intro l
     induction l with
     |nil=>intro _ x hx;cases hx
     |cons z r ih=>
      intro hnd x hx;simp only[dK]at hnd;obtain⟨n1,n2,_⟩:=bN.1 hnd;rcases bM.1 hx with rfl|hx
      ·exact n1
      ·exact ih n2 x hx
    exact this L hnd x hy
   simp only[Fs.bl]at OV;exact(bN.1 OV).2.2 b hby b hxb rfl
 have hlen:∀i,H'.length<=i->κ' i=none:=by
  intro i hi;simp only[κ'];rw[bQ (by omega)];exact hs.rI i (by omega)
 have QV:∀(j:Nat) y,H'[j]?=some y->j+2≠H'.length+2:=fun j y hj=>by
  have:=(aH.1 hj).1;omega
 refine⟨κ',Θ',?_,C1,hn,hno,fun j hj=>bQ hj⟩;have Uu:∀b,b<w.heap.size->ρ' b=ρ b:=by
  intro b hlt';simp only[ρ'];cases hi:ix (fun x:Fs=>x.ns.contains b) L with
  |none=>rfl
  |some i=>
   obtain⟨x,hx,hp⟩:=ze hi;have:=(hfr b (cD.2 ⟨x,aC hx,by simp only[Fs.bl];exact ar.2 (.inr (by simpa using hp))⟩)).1;omega
 have a5l:∀b,ρ b≠0->b<w.heap.size:=fun b hb'=>by
  obtain⟨_,_,cs',T,hx⟩:=hu.free b hb';exact(bL.1 hx).1
 refine hs.step k hm hn hlen ?_ ?_ ⟨ρ',?_,?_,?_⟩
 ·intro i u BF;simp only[κ']at BF;split at BF
  ·exact hs.qX i u BF
  ·cases hx:L[i-n]? with
   |none=>simp[hx]at BF
   |some x=>simp[hx]at BF;subst BF;exact(hL x (aC hx)).2.2.2.2
 ·intro j y hj;have hjl:=QV j y hj;rcases key j y hj with⟨i,x,rfl,hx,rfl⟩|⟨hlt,hy|hy⟩
  ·obtain⟨q1,q2,q3,q4,_⟩:=hL x (aC hx);exact .inr (.inr ⟨q1,q2,x.v,x.cs,x.ns,C1 i x hx,q3,q4,fun g hg=>hts i x g hx hg,fun b hb'=>AK i x b hx hb'⟩)
  ·exact .inl hy
  ·exact .inr (.inl ⟨hjl,hy⟩)
 ·intro b hb';by_cases h:∃(i:Nat) (x:Fs),L[i]?=some x/\b∈x.ns
  ·obtain⟨i,x,hx,Hp⟩:=h;have hmem:b∈L.flatMap Fs.bl:=cD.2 ⟨x,aC hx,by simp only[Fs.bl];exact ar.2 (.inr Hp)⟩;exact⟨AK i x b hx Hp,.inl (.inl (cS hs.base (hfr b hmem).1)),(hfr b hmem).2⟩
  ·have:ρ' b=ρ b:=by
    simp only[ρ'];cases hi:ix (fun x:Fs=>x.ns.contains b) L with
    |none=>rfl
    |some i=>
     obtain⟨x,hx,hp⟩:=ze hi;exact absurd ⟨i,x,hx,by simpa using hp⟩ h
   rw[this]at hb';exact wm.1 b hb'
 ·intro j e sz rows hj;have hjl:=QV j _ hj;rcases key j _ hj with⟨i,x,rfl,hx,hy⟩|⟨hlt,hy|hy⟩
  ·simp only[Fs.ob,Ob.row.injEq,vh]at hy;obtain⟨rfl,rfl,rfl⟩:=hy;obtain⟨q1,q2,q3,q4,_⟩:=hL x (aC hx);have OV:x.ns.Nodup:=by
    have:∀(l:List Fs),(l.flatMap Fs.bl).Nodup->∀x∈l,x.bl.Nodup:=by
     intro l
     induction l with
     |nil=>intro _ x hx;cases hx
     |cons z r ih=>
      intro hnd x hx;simp only[dK]at hnd;obtain⟨n1,n2,_⟩:=bN.1 hnd;rcases bM.1 hx with rfl|hx
      ·exact n1
      ·exact ih n2 x hx
    exact(bN.1 (this L hnd x (aC hx))).2.1
   exact⟨x.v,x.cs,x.ns,C1 i x hx,q3,q4,OV,fun b hb'=>hns i x b hx hb'⟩
  ·cases hy
  ·obtain⟨v,cs,bs,q1,q2,q3,q4,q5⟩:=wm.2.1 j e sz rows hjl hy;exact⟨v,cs,bs,q1,q2,q3,q4,fun b hb'=>(Uu b (a5l b (by rw[q5 b hb'];omega))).trans (q5 b hb')⟩
 ·intro j y hj;have hjl:=QV j _ hj;rcases key j _ hj with⟨i,x,rfl,hx,hy⟩|⟨hlt,hy|hy⟩
  ·subst hy;exact PD.Ac rfl
  ·subst hy;trivial
  ·exact(wm.2.2 j y hjl hy).re fun b hb'=>(Uu b (a5l b (by omega))).trans hb'
theorem eM.a4l(hs:eM Γ st κ Θ a w)(hb:Below w.heap.size w w')(L:List Fs)(hL:∀x∈L,x.ok w')(hnd:(L.flatMap Fs.bl).Nodup)(hfr:∀b∈L.flatMap Fs.bl,w.heap.size<=b/\Wr w' b):
 ∃κ' Θ',eM Γ ⟨st.σ,st.H++L.map Fs.ob⟩ κ' Θ' a w'/\Names κ' st.H.length L/\(∀(j:Nat) v,κ j=some v->κ' j=some v)/\(∀b,b∉L.flatMap Fs.ts->Θ' b=Θ b):=by
 obtain⟨κ',Θ',h1,h2,h3,h4,_⟩:=hs.SD hb L hL hnd hfr st.H.length (st.H++L.map Fs.ob) (fun i _=>hs.rI _ (by omega)) (by simp) (by simp) (by
  intro j y hj;by_cases hlt:j<st.H.length
  ·rw[bA hlt]at hj;exact .inr ⟨.inl hlt,.inr hj⟩
  ·rw[bE (by omega),c8]at hj;cases hx:L[j-st.H.length]? with
   |none=>simp[hx]at hj
   |some x=>simp[hx]at hj;exact .inl ⟨j-st.H.length,x,by omega,hx,hj.symm⟩)
 exact⟨κ',Θ',h1,h2,h3,h4⟩
def vwC(H:bW)(d:D):Option (D×aa):=match d with
 | .acc m=>(match H[m]? with|some (.row _ _ _ rows)=>some (.sl rows,[m])|some (.fD _ rows _)=>some (.sl rows,[m])|some (.tk rows)=>some (.sl rows,[])|_=>none)
 | .ptr _ _=>none
 | .op _ _ _ _=>none
 |d=>some (d.KJ,[])
def Vi(H:bW):aS->Option (aS×aa)
 | []=>some ([],[])
 |d::ds=>match vwC H d,Vi H ds with|some (e,m),some (es,ms)=>some (e::es,m++ms)|_,_=>none
def vwV(H:bW)(d:D):Option (D×aa):=match d with
 | .agg cs=>(match Vi H cs with|some (es,ms)=>some (.agg es,ms)|none=>none)
 | .iF _=>none
 |d=>vwC H d
def M6(H:bW):aS->Option (aS×aa)
 | []=>some ([],[])
 |d::ds=>match vwV H d,M6 H ds with|some (e,m),some (es,ms)=>some (e::es,m++ms)|_,_=>none
def Seen(Θ:Nat->Nat)(ms:aa)(b:Nat):Prop:=Θ b=0\/∃m∈ms,Θ b=m+2
theorem Seen.mono{ms ns:aa}{b:Nat}(h:Seen Θ ms b)(hs:∀m∈ms,m∈ns):Seen Θ ns b:=by
 rcases h with h|⟨m,h1,h2⟩
 ·exact .inl h
 ·exact .inr ⟨m,hs m h1,h2⟩
theorem a3Q(hs:eM Γ st κ Θ a w){v:Value}{d e:D}{bs:aa}{ms:aa}(h:vwC st.H d=some (e,ms))(hr:BM w κ v d bs)(hz:∀b∈bs,Θ b=0):∃b',Rd w v e b'/\∀b∈b',Seen Θ ms b:=by
 cases hr with
 |pure hr=>
  have:vwC st.H d=some (d.KJ,[]):=by cases hr<;>rfl
  rw[this]at h;cases h;exact⟨bs,hr.soft,fun b hb=>.inl (hz b hb)⟩
 |acc m _ hk=>
  simp only[vwC]at h;split at h
  ·rename_i k e' sz rows hH;cases h;obtain⟨_,hrl,v2,cs,b2,hk2,hown,vU,hΘ,hd⟩:=hs.ob m _ hH;rw[hk]at hk2;cases hk2;refine⟨_,yA hrl hown vU,fun b hb=>?_⟩;rcases ar.1 hb with hb|hb
   ·simp only[lP]at hb;exact .inr ⟨m,by simp,hΘ b hb⟩
   ·cases k with
    |cl=>exact .inr ⟨m,by simp,(hd.2.1 b hb).1⟩
    |sh=>exact .inl (hd b hb)
    |uq=>exact .inl (hd b hb)
    |mv n=>exact .inl (hd b hb)
  ·rename_i sz rows u hH;cases h;obtain⟨_,_,v2,b2,hk2,hrd,_,Ho⟩:=hs.ob m _ hH;rw[hk]at hk2;cases hk2;exact⟨b2,hrd,fun b hb=>.inr ⟨m,by simp,(Ho b hb).1⟩⟩
  ·rename_i rows hH;cases h;obtain⟨v2,b2,hk2,hrd,hz2⟩:=hs.ob m _ hH;rw[hk]at hk2;cases hk2;exact⟨b2,hrd,fun b hb=>.inl (hz2 b hb)⟩
  ·cases h
 |ptr=>simp[vwC]at h
 |op=>simp[vwC]at h
theorem a5S(hs:eM Γ st κ Θ a w):∀ {ds es:aS} {vs:br} {bs ms:aa},Vi st.H ds=some (es,ms)->fM w κ vs ds bs->(∀b∈bs,Θ b=0)->∃b',mS w vs es b'/\∀b∈b',Seen Θ ms b:=by
 intro ds
 induction ds with
 |nil=>
  intro es vs bs ms h hr _;simp only[Vi,ax,cU]at h;obtain⟨rfl,rfl⟩:=h;cases hr;exact⟨[],.nil,by simp⟩
 |cons d ds ih=>
  intro es vs bs ms h hr hz;simp only[Vi]at h;split at h
  ·rename_i e m es' ms' h1 h2;cases h;cases hr with
   |cons v vs _ _ b1 b2 hv hc hcs=>
    obtain⟨c1,q1,q2⟩:=a3Q hs h1 hc (fun b hb=>hz b (by simp[hb]));obtain⟨c2,p1,p2⟩:=ih h2 hcs (fun b hb=>hz b (by simp[hb]));refine⟨c1++c2,.cons _ _ _ _ _ _ hv q1 p1,fun b hb=>?_⟩;rcases ar.1 hb with hb|hb
    ·exact(q2 b hb).mono (fun m hm=>by simp[hm])
    ·exact(p2 b hb).mono (fun m hm=>by simp[hm])
  ·cases h
theorem a8V(hs:eM Γ st κ Θ a w){v:Value}{d e:D}{bs ms:aa}(h:vwV st.H d=some (e,ms))(hr:td w κ v d bs)(hz:∀b∈bs,Θ b=0):∃b',Rd w v e b'/\∀b∈b',Seen Θ ms b:=by
 by_cases ve:∃ds,d=.agg ds
 ·obtain⟨ds,rfl⟩:=ve;obtain⟨cs,rfl,hcs⟩:=hr.IB;simp only[vwV]at h;split at h
  ·rename_i es ms' h1;cases h;obtain⟨b',q1,q2⟩:=a5S hs h1 hcs hz;exact⟨b',.agg _ _ _ q1,q2⟩
  ·cases h
 ·have hc:BM w κ v d bs:=by
   cases hr with
   |v hr=>cases hr with
    |cell hr=>exact hr
    |agg=>exact absurd ⟨_,rfl⟩ ve
   |iF=>simp[vwV]at h
  have e1:vwV st.H d=vwC st.H d:=by
   cases d<;>first|rfl|exact absurd ⟨_,rfl⟩ ve|simp[vwV]at h
  rw[e1]at h;exact a3Q hs h hc hz
theorem Pt(hs:eM Γ st κ Θ a w):∀ {xs:List Operand} {es:aS} {ms:aa},M6 st.H (xs.map st.ev)=some (es,ms)->∃b',Xq w (xs.map a.eval) es b'/\∀b∈b',Seen Θ ms b:=by
 intro xs
 induction xs with
 |nil=>
  intro es ms h;simp only[bX,M6,ax,cU]at h;obtain⟨rfl,rfl⟩:=h;exact⟨[],.nil,by simp⟩
 |cons x xs ih=>
  intro es ms h;simp only[bH,M6]at h;split at h
  ·rename_i e m es' ms' h1 h2;cases h;obtain⟨b0,r0,z0⟩:=hs.ev x;obtain⟨c1,q1,q2⟩:=a8V hs h1 r0 z0;obtain⟨c2,p1,p2⟩:=ih h2;refine⟨c1++c2,.cons _ _ _ _ _ _ q1 p1,fun b hb=>?_⟩;rcases ar.1 hb with hb|hb
   ·exact(q2 b hb).mono (fun m hm=>by simp[hm])
   ·exact(p2 b hb).mono (fun m hm=>by simp[hm])
  ·cases h
def D.shC(d:D):D:=match d with
 | .fr _ _ rows=>.sl rows
 |d=>d
def D.shV(d:D):D:=match d with
 | .agg cs=>.agg (cs.map D.shC)
 |d=>d.shC
theorem vl.F0{w:World}:∀ {ds:aS} {vs:br} {bs:aa},mS w vs ds bs->vl w vs ds bs [] []:=by
 intro ds
 induction ds with
 |nil=>intro vs bs h;cases h;exact .nil
 |cons d ds ih=>
  intro vs bs h;cases h with
  |cons v vs _ _ b1 b2 h1 h2 h3=>exact .cons _ _ _ _ _ _ [] [] [] [] h1 (.pure h2) (ih h3)
theorem IN.Eo{w:World}{v:Value}{d:D}{bs ts us:aa}(h:IN w v d bs ts us):∃b,Rd w v d.shC b/\∀x∈b,x∈bs\/x∈us:=by
 cases h with
 |pure h=>
  have e:d.shC=d:=by cases h<;>rfl
  exact⟨_,e.symm▸h,fun x hx=>.inl hx⟩
 |fr e sz rows cs ns h1 h2 h3 h4 h5=>exact⟨_,yA h2 h3 h4,fun x hx=>.inr hx⟩
theorem vl.Eo{w:World}{vs:br}{ds:aS}{bs ts us:aa}(h:vl w vs ds bs ts us):∃b,mS w vs (ds.map D.shC) b/\∀x∈b,x∈bs\/x∈us:=by
 induction h with
 |nil=>exact⟨_,.nil,by simp⟩
 |cons v vs d ds b1 b2 t1 t2 u1 u2 h1 h2 _ ih=>
  obtain⟨b,q,s⟩:=h2.Eo;obtain⟨b',q',s'⟩:=ih;refine⟨_,.cons _ _ _ _ _ _ h1 q q',fun x hx=>?_⟩;rcases ar.1 hx with h|h
  ·rcases s x h with h|h<;>simp[h]
  ·rcases s' x h with h|h<;>simp[h]
theorem IP.Eo{w:World}{v:Value}{d:D}{bs ts us:aa}(h:IP w v d bs ts us):∃b,Rd w v d.shV b/\∀x∈b,x∈bs\/x∈us:=by
 cases h with
 |cell h=>
  by_cases ve:∃ds,d=.agg ds
  ·obtain⟨ds,rfl⟩:=ve;cases h with
   |pure h=>cases h with
    |agg cs _ _ h=>
     obtain⟨b,q,s⟩:=(vl.F0 h).Eo;exact⟨_,.agg _ _ _ q,s⟩
  ·have e:d.shV=d.shC:=by cases d<;>first|rfl|exact absurd ⟨_,rfl⟩ ve
   rw[e];exact h.Eo
 |agg cs ds bs ts us h=>
  obtain⟨b,q,s⟩:=h.Eo;exact⟨_,.agg _ _ _ q,s⟩
def D.Zn(d:D):Bool:=match d with
 | .fr _ _ _=>true
 |d=>d.flat
def D.VI(d:D):Bool:=match d with
 | .agg cs=>cs.all D.Zn
 |d=>d.Zn
def D.Qy(d:D):Bool:=match d with
 | .iF vs=>vs.all D.VI
 |d=>d.VI
def D.a7x(d:D):Bool:=match d with
 | .iF _=>false
 |d=>d.VI
theorem IN.own{v:Value}{d:D}{bs ts us:aa}(h:IN w v d bs ts us)(ho:d.Zn=true):bs=[]:=by
 cases h with
 |pure h=>exact h.flat (by cases h<;>exact ho)
 |fr=>rfl
theorem vl.own{vs:br}{ds:aS}{bs ts us:aa}(h:vl w vs ds bs ts us)(ho:ds.all D.Zn=true):bs=[]:=by
 induction h with
 |nil=>rfl
 |cons v vs d ds b1 b2 t1 t2 u1 u2 h1 h2 _ ih=>
  simp only[dG,aY]at ho;rw[h2.own ho.1,ih ho.2];rfl
theorem IP.own{v:Value}{d:D}{bs ts us:aa}(h:IP w v d bs ts us)(ho:d.VI=true):bs=[]:=by
 cases h with
 |cell h=>
  by_cases ve:∃ds,d=.agg ds
  ·obtain⟨ds,rfl⟩:=ve;cases h with
   |pure h=>
    cases h with
    |agg cs _ _ h=>
     simp only[D.VI]at ho;have:∀(es:aS) (vs:br) (b:aa),mS w vs es b->es.all D.Zn=true->es.all D.flat=true:=by
      intro es
      induction es with
      |nil=>intros;rfl
      |cons e es ih=>
       intro vs b hh ho;simp only[dG,aY]at ho⊢;cases hh with
       |cons v vs _ _ b1 b2 _ h2 h3=>exact⟨by cases h2<;>exact ho.1,ih _ _ h3 ho.2⟩
     exact mS.flat h (this _ _ _ h ho)
  ·have e:d.VI=d.Zn:=by cases d<;>first|rfl|exact absurd ⟨_,rfl⟩ ve
   exact h.own (e▸ho)
 |agg cs ds bs ts us h=>exact h.own ho
theorem DF.own{vs:br}{ds:aS}{bs ts us:aa}(h:DF w vs ds bs ts us)(ho:ds.all D.VI=true):bs=[]:=by
 induction h with
 |nil=>rfl
 |cons v vs d ds b1 b2 t1 t2 u1 u2 h2 _ ih=>
  simp only[dG,aY]at ho;rw[h2.own ho.1,ih ho.2];rfl
theorem E9.own{v:Value}{d:D}{bs ts us:aa}(h:E9 w v d bs ts us)(ho:d.Qy=true):bs=[]:=by
 cases h with
 |v h=>
  have hnt:∀vs,d≠ .iF vs:=by
   intro vs e;subst e;cases h with
   |cell h=>cases h with|pure h=>cases h
  have e:d.Qy=d.VI:=by cases d<;>first|rfl|exact absurd rfl (hnt _)
  exact h.own (e▸ho)
 |iF vs ds bs ts us h=>exact h.own ho
theorem AG{o:Oper}{f:FuncId}{xs:Array Operand}{ts:Array TypeId}(hop:o.op=.call {callee:=.value (.func f),args:=xs,argTypes:=ts})
 (hf:∃fn,P.funcs[f]?=some fn/\fn.body.isSome=true/\(fn.name== "runtime.NumGoroutine")=false):
 (execOp a.eval o).run P w=.ok (.enter f (xs.map a.eval)) w:=by
 obtain⟨fn,h1,h2,h3⟩:=hf;have h2':¬fn.body=none:=by intro hb;simp[hb]at h2
 simp only[dF,ne_eq]at h3;simp[execOp,hop,resolve,Deferred.ofValue,Act.eval,invoke,callFunc,h1,h2',h3]
theorem UZ{Q':Exit->Act->World->Prop}{K:Act->World->Prop}{o:Oper}{f t:Nat}{xs:Array Operand}{ts:Array TypeId}{ds:aS}{ms:aa}{d:D}(hs:eM Γ st κ Θ a w)
 (hop:o.op=.call {callee:=.value (.func f),args:=xs,argTypes:=ts}) (hd:o.dst=some t) (ht:t<Γ.nt) (hds:∃bs,Xq w (xs.toList.map a.eval) ds bs/\∀b∈bs,Seen Θ ms b) (hsh:ms=[]\/d.Qy=true)
 (pP:Good P f ds d) (hK:∀κ' Θ' a' w',eM Γ ⟨(t,(rH st.H.length d).1)::st.σ,st.H++(rH st.H.length d).2⟩ κ' Θ' a' w'->K a' w'):o.wp P a w K Q':=by
 obtain⟨bs,hargs,hz⟩:=hds;let Θc:Nat->Nat:=fun b=>if Θ b=0\/ms.any (fun m=>Θ b==m+2)then 0 else 1
 have Ov:∀b,Seen Θ ms b->Θc b=0:=by
  intro b h;simp only[Θc];rw[bQ];rcases h with h|⟨m,h1,h2⟩
  ·exact .inl h
  ·exact .inr (dN.2 ⟨m,h1,by simp[h2]⟩)
 have hc:=pP.2 w Θc _ bs hs.vok hargs (fun b hb=>Ov b (hz b hb)) (fun b hb=>hs.own b (fun e=>hb (Ov b (.inl e)))) (fun b=>by simp only[Θc];split<;>omega);unfold Oper.wp;rw[AG hop pP.1,Oper.upon_enter];have e:xs.map a.eval=(xs.toList.map a.eval).toArray:=by rw[<-jA,kV]
 rw[e];refine hc.mono ?_;rintro e w' ⟨v,bs',tb,ub,rfl,hb,hr,RM,htb,hnd,hfr,hsub⟩;show K (a.put o.dst v) w';rw[hd];obtain⟨L,q1,q2,q3,q4,q5⟩:=hr.inst st.H.length;obtain⟨κ',Θ',hs',hnm,_,hno⟩:=hs.a4l hb L q2 (q3▸hnd) (fun b hb'=>hfr b (q3▸hb'));rw[q1]at hs';refine hK κ' Θ' _ w' (hs'.set (t:=t) ht (q5 κ' hnm) fun b hb'=>?_);rw[hno b (q4▸htb b hb')];rcases hsh with T9|hown
 ·by_cases hlt:b<w.heap.size
  ·have h0:=RM b hb' hlt;simp only[Θc,T9,MB]at h0;by_cases h1:Θ b=0
   ·exact h1
   ·simp[h1]at h0
  ·by_cases h0:Θ b=0
   ·exact h0
   ·exact absurd (hs.own b h0) hlt
 ·rw[hr.own hown]at hb';cases hb'
theorem a48{Q':Exit->Act->World->Prop}{K:Act->World->Prop}{o:Oper}{f t:Nat}{xs:Array Operand}{ts:Array TypeId}{ds:aS}{ms:aa}{d:D}(hs:eM Γ st κ Θ a w)
 (hop:o.op=.call {callee:=.value (.func f),args:=xs,argTypes:=ts}) (hd:o.dst=some t) (ht:t<Γ.nt) (hds:M6 st.H (xs.toList.map st.ev)=some (ds,ms)) (hsh:ms=[]\/d.Qy=true)
 (pP:Good P f ds d) (hK:∀κ' Θ' a' w',eM Γ ⟨(t,(rH st.H.length d).1)::st.σ,st.H++(rH st.H.length d).2⟩ κ' Θ' a' w'->K a' w'):o.wp P a w K Q':=
 UZ hs hop hd ht (Pt hs hds) hsh pP hK
def Ox(d:D):Bool:=match d with
 | .agg cs=>cs.all D.U9
 | .iF _=>false
 |d=>d.U9
theorem a22{v:Value}{d:D}{bs:aa}(hr:td w κ v d bs)(h:Ox d=true):Rd w v d bs:=by
 by_cases ve:∃ds,d=.agg ds
 ·obtain⟨ds,rfl⟩:=ve;obtain⟨cs,rfl,hcs⟩:=hr.IB;exact .agg _ _ _ (hcs.pure h)
 ·have hp:d.U9=true:=by
   cases d<;>first|exact h|exact absurd ⟨_,rfl⟩ ve|simp[Ox]at h
  cases hr with
  |v hr=>cases hr with
   |cell hr=>cases hr with
    |pure hr=>exact hr
    |acc=>simp[D.U9]at hp
    |ptr=>simp[D.U9]at hp
    |op=>simp[D.U9]at hp
   |agg=>exact absurd ⟨_,rfl⟩ ve
  |iF=>simp[Ox]at h
theorem SE(hs:eM Γ st κ Θ a w):∀ {xs:List Operand},(xs.map st.ev).all Ox=true->∃b',Xq w (xs.map a.eval) (xs.map st.ev) b'/\∀b∈b',Seen Θ [] b:=by
 intro xs
 induction xs with
 |nil=>intro _;exact⟨[],.nil,by simp⟩
 |cons x xs ih=>
  intro h;simp only[bH,dG,aY]at h;obtain⟨b0,r0,z0⟩:=hs.ev x;obtain⟨c2,p1,p2⟩:=ih h.2;refine⟨b0++c2,.cons _ _ _ _ _ _ (a22 r0 h.1) p1,fun b hb=>?_⟩;rcases ar.1 hb with hb|hb
  ·exact .inl (z0 b hb)
  ·exact p2 b hb
theorem a0e{o:Oper}{f t:Nat}{xs:Array Operand}{ts:Array TypeId}{d:D}(hop:o.op=.call {callee:=.value (.func f),args:=xs,argTypes:=ts})(hd:o.dst=some t)(hg:o.guard=none)
 (ht:t<Γ.nt) (hk:(xs.toList.map st.ev).all Ox=true) (pP:Good P f (xs.toList.map st.ev) d)
 (h:AO P Γ all rest Q ⟨(t,(rH st.H.length d).1)::st.σ,st.H++(rH st.H.length d).2⟩):AO P Γ all (o::rest) Q st:=by
 intro κ Θ a w hs;exact wpList_plain hg fun K hK=>UZ hs hop hd ht (SE hs hk) (.inl rfl) pP fun κ' Θ' a' w' hs'=>hK _ _ (h κ' Θ' a' w' hs')
theorem a3s{o:Oper}{f t:Nat}{xs:Array Operand}{ts:Array TypeId}{ds:aS}{ms:aa}{d:D}(hop:o.op=.call {callee:=.value (.func f),args:=xs,argTypes:=ts})(hd:o.dst=some t)(hg:o.guard=none)
 (ht:t<Γ.nt) (hds:M6 st.H (xs.toList.map st.ev)=some (ds,ms)) (hsh:ms=[]\/d.Qy=true) (pP:Good P f ds d)
 (h:AO P Γ all rest Q ⟨(t,(rH st.H.length d).1)::st.σ,st.H++(rH st.H.length d).2⟩):AO P Γ all (o::rest) Q st:=by
 intro κ Θ a w hs;exact wpList_plain hg fun K hK=>a48 hs hop hd ht hds hsh pP fun κ' Θ' a' w' hs'=>hK _ _ (h κ' Θ' a' w' hs')
def a2X(P:Program)(st:St):ResultVar->Option D
 | .tmp t=>some (lk st.σ t)
 | .cell x T=>match C9 P T,lk st.σ x with
  |some ag,.ptr id off=>(match(st.H[id]?).bind Ob.ZD with|some cells=>KF ag (BQ P T) cells off|none=>none)
  |_,_=>none
def F1(P:Program)(st:St):List ResultVar->Option aS
 | []=>some []
 |r::rs=>match a2X P st r,F1 P st rs with|some d,some ds=>some (d::ds)|_,_=>none
def a2Z(tmps:Array Value):ResultVar->Sem Value
 | .tmp t=>pure (tmps.getD t undef)
 | .cell a t=>do loadVar t (<-asAddr (tmps.getD a undef))
theorem results_eq(fn:Func)(tmps:Array Value):results fn tmps=(do let vs<-fn.results.mapM (a2Z tmps);pure (if h:vs.size=1 then vs[0]else .tuple vs)):=by
 unfold results
 congr 1
theorem a2Y(hs:eM Γ st κ Θ a w){r:ResultVar}{d:D}(h:a2X P st r=some d):
 ∃v bs,(a2Z a.tmps r).run P w=.ok v w/\td w κ v d bs/\∀b∈bs,Θ b=0:=by
 cases r with
 |tmp t=>
  simp only[a2X,ax]at h;subst h;obtain⟨bs,hr,hz⟩:=hs.slot t;exact⟨_,bs,by simp[a2Z],hr,hz⟩
 |cell x T=>
  have hp:pv P st (.load T (.tmp x))=some d:=by
   simp only[a2X]at h;split at h
   ·rename_i ag id off h1 h2;simp only[pv,h1,St.ev,h2];exact h
   ·cases h
  obtain⟨v,bs,hrun,hr,hz⟩:=Qk (o:= {(default:Oper)with op:=.load T (.tmp x)}) hs rfl hp;refine⟨v,bs,?_,hr,hz⟩;simp only[execOp,Act.eval]at hrun;have aCY:∃b off,a.tmps.getD x undef=.pointer (some ⟨b,off,none⟩):=by
   simp only[a2X]at h;split at h
   ·rename_i ag id off h1 h2;obtain⟨b0,r0,_⟩:=hs.slot x;rw[h2]at r0;obtain⟨g,_,hv⟩:=r0.Cb;exact⟨g,off,hv⟩
   ·cases h
  obtain⟨b,off,hv⟩:=aCY;simp only[a2Z,hv]at hrun⊢;simp only[Instr.loadAt,Instr.sureAddr,Sem.run_bind,Sem.run_pure,Result.andThen_ok]at hrun;simp only[asAddr,Sem.run_bind,Sem.run_pure,Result.andThen_ok];cases hl:(loadVar T ⟨b,off,none⟩).run P w with
  |ok u w1=>simp only[hl,Result.andThen_ok,Result.ok.injEq,Next.value.injEq]at hrun;rw[hrun.1,hrun.2]
  |halt u w1=>simp[hl]at hrun
theorem IG(hs:eM Γ st κ Θ a w):∀ {rs:List ResultVar} {ds:aS},F1 P st rs=some ds->
 ∃(vs:br) (bs:aa),(rs.mapM (a2Z a.tmps)).run P w=.ok vs w/\
  vs.length=rs.length/\ds.length=rs.length/\(∀(i:Nat) d,ds[i]?=some d->∃v b,vs[i]?=some v/\td w κ v d b/\∀x∈b,x∈bs)/\∀b∈bs,Θ b=0:=by
 intro rs
 induction rs with
 |nil=>
  intro ds h;simp only[F1,ax]at h;subst h;exact⟨[],[],by simp,rfl,rfl,by simp,by simp⟩
 |cons r rs ih=>
  intro ds h;simp only[F1]at h;split at h
  ·rename_i d ds' h1 h2;cases h;obtain⟨v,b,k1,k2,k3⟩:=a2Y hs h1;obtain⟨vs,bs,m1,m2,m3,m4,m5⟩:=ih h2;refine⟨v::vs,b++bs,?_,by simp[m2],by simp[m3],?_,?_⟩
   ·simp only[G3,Sem.run_bind,k1,Result.andThen_ok,m1,Sem.run_pure]
   ·intro i x hx;cases i with
    |zero=>simp at hx;subst hx;exact⟨v,b,by simp,k2,by intro y hy;simp[hy]⟩
    |succ i=>
     simp at hx;obtain⟨u,b',q1,q2,q3⟩:=m4 i x hx;exact⟨u,b',by simpa using q1,q2,fun y hy=>by simp[q3 y hy]⟩
   ·intro y hy;rcases ar.1 hy with hy|hy
    ·exact k3 y hy
    ·exact m5 y hy
  ·cases h
def C5:aS->D
 | [d]=>d
 |ds=>.iF ds
def CV:Nat->aS->List (Nat×D)
 |_,[]=>[]
 |k,d::ds=>(k,d)::CV (k+1) ds
theorem NV:∀(ds:aS) (k t:Nat),lk (CV k ds) t=if t<k then .any else(ds[t-k]?).getD .any:=by
 intro ds
 induction ds with
 |nil=>intro k t;simp[CV,lk]
 |cons d ds ih=>
  intro k t;simp only[CV,lk];by_cases h:t=k
  ·subst h;simp
  ·rw[bG h,ih];by_cases h1:t<k
   ·rw[bQ (by omega),bQ h1]
   ·rw[bG (by omega),bG h1];have:t-k=(t-(k+1))+1:=by omega
    rw[this,ed]
theorem Xq.at{vs:br}{ds:aS}{bs:aa}(h:Xq w vs ds bs):vs.length=ds.length/\∀(i:Nat) d,ds[i]?=some d->∃v b,vs[i]?=some v/\Rd w v d b/\∀x∈b,x∈bs:=by
 induction ds generalizing vs bs with
 |nil=>cases h;exact⟨rfl,by simp⟩
 |cons e ds ih=>
  cases h with
  |cons v vs _ _ b1 b2 h2 h3=>
   obtain⟨l,hi⟩:=ih h3;refine⟨by simp[l],fun i d hd=>?_⟩;cases i with
   |zero=>simp at hd;subst hd;exact⟨v,b1,by simp,h2,by intro x hx;simp[hx]⟩
   |succ i=>
    simp at hd;obtain⟨u,b,k1,k3,k4⟩:=hi i d hd;exact⟨u,b,by simpa using k1,k3,fun x hx=>by simp[k4 x hx]⟩
def dU(d:D):Prop:=∃w v bs,Rd w v d bs
theorem dU.str{s:Bytes}(h:dU (.str s)):s.length<=maxLen:=by
 obtain⟨w,v,bs,h⟩:=h;cases h with|str x hx=>simpa using hx
theorem mS.rdb{vs:br}{ds:aS}{bs:aa}(h:mS w vs ds bs):∀d∈ds,dU d:=by
 intro d hd;obtain⟨i,hi,rfl⟩:=eP.1 hd;obtain⟨v,b,_,_,hr,_⟩:=h.at (ai hi);exact⟨w,v,b,hr⟩
theorem dU.agg{ds:aS}(h:dU (.agg ds)):∀d∈ds,dU d:=by
 obtain⟨w,v,bs,h⟩:=h;cases h with|agg cs _ _ hx=>exact hx.rdb
theorem dU.sl{rows:List aS}(h:dU (.sl rows)):rows.length<=maxLen/\∀r∈rows,∀d∈r,dU d:=by
 obtain⟨w,v,bs,h⟩:=h;cases h with
 |B1=>simp
 |pH=>simp
 |sl b off cap sz _ cs bs hb h1 h2 h3 h4 h5=>
  exact⟨by omega,fun r hr d hd=>h5.rdb d (dY.2 ⟨r,hr,hd⟩)⟩
theorem Xq.rdb{vs:br}{ds:aS}{bs:aa}(h:Xq w vs ds bs):∀d∈ds,dU d:=by
 intro d hd;obtain⟨i,hi,rfl⟩:=eP.1 hd;obtain⟨v,b,_,hr,_⟩:=h.at.2 i _ (ai hi);exact⟨w,v,b,hr⟩
def a2N(z:Option (Nat×Nat))(d:D):D:=match d,z with
 | .nil,some (e,sz+1)=>.fr e (sz+1) []
 |d,_=>d.KJ
def Fy(H:bW)(z:Option (Nat×Nat))(d:D):Option (D×aa×aa):=match d with
 | .acc m=>(match H[m]? with|some (.row k e sz rows)=>(match k with| .uq=>some (.fr e sz rows,[],[m])| .sh=>some (.sl rows,[m],[])| .cl=>none| .mv _=>none)|_=>none)
 | .ptr _ _=>none
 | .op _ _ _ _=>none
 | .agg _=>none
 | .iF _=>none
 |d=>some (a2N z d,[],[])
def P6(H:bW):List (Option (Nat×Nat))->aS->Option (aS×aa×aa)
 |_,[]=>some ([],[],[])
 |zs,d::ds=>match Fy H zs.head?.join d,P6 H zs.tail ds with|some (e,m,q),some (es,ms,qs)=>some (e::es,m++ms,q++qs)|_,_=>none
def XE(H:bW)(zs:List (Option (Nat×Nat)))(d:D):Option (D×aa×aa):=match d with
 | .agg cs=>(match P6 H zs cs with|some (es,ms,qs)=>some (.agg es,ms,qs)|none=>none)
 |d=>Fy H zs.head?.join d
def Du(H:bW):List (List (Option (Nat×Nat)))->aS->Option (aS×aa×aa)
 |_,[]=>some ([],[],[])
 |zs,d::ds=>match XE H (zs.head?.getD []) d,Du H zs.tail ds with|some (e,m,q),some (es,ms,qs)=>some (e::es,m++ms,q++qs)|_,_=>none
def Vx(P:Program)(fn:Func)(d:D)(e:Exit)(st:St):Prop:=
 (e=.ret\/e=.normal)/\∃nz ds es ms qs,F1 P st fn.results.toList=some ds/\Du st.H nz ds=some (es,ms,qs)/\ms.Nodup/\qs.Nodup/\C5 es=d
structure RP(Θ ρ:Nat->Nat)(qs bs ts us:List Nat):Prop where
 zero:∀b∈bs,Θ b=0
 top:∀b∈ts,(∃m∈qs,Θ b=m+2)/\b∈us
 mem:∀b∈us,b∈ts\/∃m∈qs,ρ b=m+1
 nd:us.Nodup
theorem RP.nil{ρ:Nat->Nat}{bs:aa}(h:∀b∈bs,Θ b=0):RP Θ ρ [] bs [] []:=⟨h,by simp,by simp,by simp⟩
theorem RP.app{ρ:Nat->Nat}{q1 q2 b1 b2 t1 t2 u1 u2:aa}(hf:∀b,ρ b≠0->Θ b=0)(hq:(q1++q2).Nodup)(h1:RP Θ ρ q1 b1 t1 u1)(h2:RP Θ ρ q2 b2 t2 u2):RP Θ ρ (q1++q2) (b1++b2) (t1++t2) (u1++u2):=by
 refine⟨fun b hb=>?_,fun b hb=>?_,fun b hb=>?_,bN.2 ⟨h1.nd,h2.nd,fun x hx y hy e=>?_⟩⟩
 ·rcases ar.1 hb with hb|hb
  ·exact h1.zero b hb
  ·exact h2.zero b hb
 ·rcases ar.1 hb with hb|hb
  ·obtain⟨⟨m,p,q⟩,r⟩:=h1.top b hb;exact⟨⟨m,by simp[p],q⟩,by simp[r]⟩
  ·obtain⟨⟨m,p,q⟩,r⟩:=h2.top b hb;exact⟨⟨m,by simp[p],q⟩,by simp[r]⟩
 ·rcases ar.1 hb with hb|hb
  ·rcases h1.mem b hb with h|⟨m,p,q⟩
   ·exact .inl (by simp[h])
   ·exact .inr ⟨m,by simp[p],q⟩
  ·rcases h2.mem b hb with h|⟨m,p,q⟩
   ·exact .inl (by simp[h])
   ·exact .inr ⟨m,by simp[p],q⟩
 ·subst e;have hd:=(bN.1 hq).2.2;rcases h1.mem x hx with hx|⟨m,p,q⟩
  ·obtain⟨⟨m,p,q⟩,_⟩:=h1.top x hx;rcases h2.mem x hy with hy|⟨m',p',q'⟩
   ·obtain⟨⟨m',p',q'⟩,_⟩:=h2.top x hy;exact hd m p m' p' (by omega)
   ·have:=hf x (by omega);omega
  ·rcases h2.mem x hy with hy|⟨m',p',q'⟩
   ·obtain⟨⟨m',p',q'⟩,_⟩:=h2.top x hy;have:=hf x (by omega);omega
   ·exact hd m p m' p' (by omega)
theorem VG(z:Option (Nat×Nat)){v:Value}{d:D}{b0:aa}(hr:Rd w v d b0):∃bs,IN w v (a2N z d) bs [] []/\∀b∈bs,b∈b0:=by
 unfold a2N;split
 ·rename_i e sz;cases hr;refine⟨[],?_,by simp⟩;have:=IN.fr (w:=w) (.slice none 0 0) e (sz+1) [] [] [] (Nat.succ_pos _) (by simp) (World.ownsRow_nil w 0 e (sz+1)) .nil rfl;simpa[Value.ownBlock]using this
 ·exact⟨b0,.pure hr.soft,fun _ h=>h⟩
section
variable{H:bW}{ρ:Nat->Nat}(hf:∀b,ρ b≠0->Θ b=0)
 (hq:∀m e sz rows,H[m]?=some (.row .uq e sz rows)->∃v cs ns,κ m=some v/\0<sz/\(∀r∈rows,r.length=sz)/\w.ownsRow 0 e sz v rows.length cs/\mS w cs rows.flatten ns/\ns.Nodup/\(∀b∈ns,ρ b=m+1)/\∀g,v.ownBlock=some g->Θ g=m+2)
include hf hq
theorem VM{z:Option (Nat×Nat)}{d e:D}{ms qs:aa}{v:Value}{b0:aa}(h:Fy H z d=some (e,ms,qs))(hone:v.oneCell'=true)(hr:BM w κ v d b0)(hz:∀b∈b0,Θ b=0)
 (hm:∀m∈ms,∀k e sz rows,H[m]?=some (.row k e sz rows)->BX κ Θ ρ w m k rows):∃bs ts us,IN w v e bs ts us/\RP Θ ρ qs bs ts us:=by
 cases hr with
 |pure hr=>
  have:Fy H z d=some (a2N z d,[],[]):=by cases hr<;>first|rfl|simp[Fy]at h
  rw[this]at h;cases h;obtain⟨bs,hb,RM⟩:=VG z hr;exact⟨bs,[],[],hb,RP.nil (fun b hb'=>hz b (RM b hb'))⟩
 |acc m _ hk=>
  simp only[Fy]at h;split at h
  ·rename_i k e' sz rows hH;split at h
   ·cases h;obtain⟨v2,cs,ns,r1,r2,r3,r4,r5,r6,r7,r8⟩:=hq m _ _ _ hH;rw[hk]at r1;cases r1;refine⟨[],_,_,.fr v _ _ _ cs ns r2 r3 r4 r5 hone,by simp,fun b hb=>?_,fun b hb=>?_,?_⟩
    ·simp only[lP]at hb;exact⟨⟨m,by simp,r8 b hb⟩,by simp[hb]⟩
    ·rcases ar.1 hb with hb|hb
     ·exact .inl hb
     ·exact .inr ⟨m,by simp,r7 b hb⟩
    ·refine bN.2 ⟨by cases v.ownBlock<;>simp,r6,fun x hx y hy exy=>?_⟩;subst exy;simp only[lP]at hx;have h1:=r8 x hx;have h2:=hf x (by rw[r7 x hy];omega);omega
   ·cases h;obtain⟨v2,bs,r1,r2,r3,_⟩:=hm m (by simp) _ _ _ _ hH;rw[hk]at r1;cases r1;exact⟨bs,[],[],.pure r2,RP.nil r3⟩
   ·cases h
   ·cases h
  ·cases h
 |ptr=>simp[Fy]at h
 |op=>simp[Fy]at h
theorem Zu:∀ {ds es:aS} {zs:List (Option (Nat×Nat))} {ms qs:aa} {vs:br} {b0:aa},P6 H zs ds=some (es,ms,qs)->qs.Nodup->fM w κ vs ds b0->(∀b∈b0,Θ b=0)->
 (∀m∈ms,∀k e sz rows,H[m]?=some (.row k e sz rows)->BX κ Θ ρ w m k rows)->∃bs ts us,vl w vs es bs ts us/\RP Θ ρ qs bs ts us:=by
 intro ds
 induction ds with
 |nil=>
  intro es zs ms qs vs b0 h _ hr _ _;simp only[P6,ax,cU]at h;obtain⟨rfl,rfl,rfl⟩:=h;cases hr;exact⟨[],[],[],.nil,RP.nil (by simp)⟩
 |cons d ds ih=>
  intro es zs ms qs vs b0 h hnd hr hz hm;simp only[P6]at h;split at h
  ·rename_i e m q es' ms' qs' h1 h2;cases h;cases hr with
   |cons v vs _ _ b1 b2 hv hc hcs=>
    obtain⟨c1,t1,u1,q1,q2⟩:=VM hf hq h1 hv hc (fun b hb=>hz b (by simp[hb])) (fun x hx=>hm x (by simp[hx]));obtain⟨c2,t2,u2,p1,p2⟩:=ih h2 (bN.1 hnd).2.1 hcs (fun b hb=>hz b (by simp[hb])) (fun x hx=>hm x (by simp[hx]));exact⟨_,_,_,.cons _ _ _ _ _ _ _ _ _ _ hv q1 p1,RP.app hf hnd q2 p2⟩
  ·cases h
theorem a2b(hk1:∀(i:Nat) u,κ i=some u->u.oneCell'=true){zs:List (Option (Nat×Nat))}{d e:D}{ms qs:aa}{v:Value}{b0:aa}(h:XE H zs d=some (e,ms,qs))(hnd:qs.Nodup)(hr:td w κ v d b0)(hz:∀b∈b0,Θ b=0)
 (hm:∀m∈ms,∀k e sz rows,H[m]?=some (.row k e sz rows)->BX κ Θ ρ w m k rows):∃bs ts us,IP w v e bs ts us/\RP Θ ρ qs bs ts us:=by
 by_cases ve:∃ds,d=.agg ds
 ·obtain⟨ds,rfl⟩:=ve;obtain⟨cs,rfl,hcs⟩:=hr.IB;simp only[XE]at h;split at h
  ·rename_i es ms' qs' h1;cases h;obtain⟨bs,ts,us,q1,q2⟩:=Zu hf hq h1 hnd hcs hz hm;exact⟨bs,ts,us,.agg _ _ _ _ _ q1,q2⟩
  ·cases h
 ·have e1:XE H zs d=Fy H zs.head?.join d:=by cases d<;>first|rfl|exact absurd ⟨_,rfl⟩ ve
  rw[e1]at h;have hc:BM w κ v d b0:=by
   cases hr with
   |v hr=>cases hr with
    |cell hr=>exact hr
    |agg=>exact absurd ⟨_,rfl⟩ ve
   |iF=>simp[Fy]at h
  cases hc with
  |pure hr=>
   have:Fy H zs.head?.join d=some (a2N zs.head?.join d,[],[]):=by cases hr<;>first|rfl|simp[Fy]at h
   rw[this]at h;cases h;obtain⟨bs,hb,RM⟩:=VG zs.head?.join hr;exact⟨bs,[],[],.cell hb,RP.nil (fun b hb'=>hz b (RM b hb'))⟩
  |acc m _ hk=>
   obtain⟨bs,ts,us,q1,q2⟩:=VM hf hq h (hk1 _ _ hk) (.acc m _ hk) (by simp) hm;exact⟨bs,ts,us,.cell q1,q2⟩
  |ptr=>simp[Fy]at h
  |op=>simp[Fy]at h
theorem II(hk1:∀(i:Nat) u,κ i=some u->u.oneCell'=true):∀ {ds es:aS} {zs:List (List (Option (Nat×Nat)))} {ms qs:aa} {vs:br},Du H zs ds=some (es,ms,qs)->qs.Nodup->vs.length=ds.length->
 (∀(i:Nat) d,ds[i]?=some d->∃v b,vs[i]?=some v/\td w κ v d b/\∀x∈b,Θ x=0)->
 (∀m∈ms,∀k e sz rows,H[m]?=some (.row k e sz rows)->BX κ Θ ρ w m k rows)->∃bs ts us,DF w vs es bs ts us/\RP Θ ρ qs bs ts us:=by
 intro ds
 induction ds with
 |nil=>
  intro es zs ms qs vs h _ hl _ _;simp only[Du,ax,cU]at h;obtain⟨rfl,rfl,rfl⟩:=h;cases vs with
  |nil=>exact⟨[],[],[],.nil,RP.nil (by simp)⟩
  |cons=>simp at hl
 |cons d ds ih=>
  intro es zs ms qs vs h hnd hl hr hm;simp only[Du]at h;split at h
  ·rename_i e m q es' ms' qs' h1 h2;cases h;cases vs with
   |nil=>simp at hl
   |cons v vs=>
    obtain⟨v',b0,hv',hr0,AK⟩:=hr 0 d rfl;simp at hv';subst hv';obtain⟨c1,t1,u1,q1,q2⟩:=a2b hf hq hk1 h1 (bN.1 hnd).1 hr0 AK (fun x hx=>hm x (by simp[hx]));obtain⟨c2,t2,u2,p1,p2⟩:=ih h2 (bN.1 hnd).2.1 (by simpa using hl) (fun i d' M8=>by
     obtain⟨v',b,k1,k2⟩:=hr (i+1) d' (by simpa using M8);exact⟨v',b,by simpa using k1,k2⟩) (fun x hx=>hm x (by simp[hx]))
    exact⟨_,_,_,.cons _ _ _ _ _ _ _ _ _ _ q1 p1,RP.app hf hnd q2 p2⟩
  ·cases h
end
theorem R6{H:bW}{z:Option (Nat×Nat)}{d e:D}{ms qs:aa}(h:Fy H z d=some (e,ms,qs)):(∀m∈ms,∃e sz rows,H[m]?=some (.row .sh e sz rows))/\∀m∈qs,∃e sz rows,H[m]?=some (.row .uq e sz rows):=by
 cases d with
 |acc m=>
  simp only[Fy]at h;split at h
  ·rename_i k e' sz rows hH;split at h
   ·cases h;exact⟨by simp,fun m' hm'=>by simp at hm';subst hm';exact⟨_,_,_,hH⟩⟩
   ·cases h;exact⟨fun m' hm'=>by simp at hm';subst hm';exact⟨_,_,_,hH⟩,by simp⟩
   ·cases h
   ·cases h
  ·cases h
 |_=>simp[Fy]at h<;>(try(obtain⟨_,rfl,rfl⟩:=h;simp))
theorem VN{H:bW}:∀ {ds es:aS} {zs:List (Option (Nat×Nat))} {ms qs:aa},P6 H zs ds=some (es,ms,qs)->(∀m∈ms,∃e sz rows,H[m]?=some (.row .sh e sz rows))/\∀m∈qs,∃e sz rows,H[m]?=some (.row .uq e sz rows):=by
 intro ds
 induction ds with
 |nil=>intro es zs ms qs h;simp only[P6,ax,cU]at h;obtain⟨rfl,rfl,rfl⟩:=h;simp
 |cons d ds ih=>
  intro es zs ms qs h;simp only[P6]at h;split at h
  ·rename_i e m q es' ms' qs' h1 h2;cases h;have a1:=R6 h1;have a2:=ih h2;refine⟨fun x hx=>?_,fun x hx=>?_⟩<;>rcases ar.1 hx with hx|hx
   ·exact a1.1 x hx
   ·exact a2.1 x hx
   ·exact a1.2 x hx
   ·exact a2.2 x hx
  ·cases h
theorem XF{H:bW}{zs:List (Option (Nat×Nat))}{d e:D}{ms qs:aa}(h:XE H zs d=some (e,ms,qs)):(∀m∈ms,∃e sz rows,H[m]?=some (.row .sh e sz rows))/\∀m∈qs,∃e sz rows,H[m]?=some (.row .uq e sz rows):=by
 by_cases ve:∃ds,d=.agg ds
 ·obtain⟨ds,rfl⟩:=ve;simp only[XE]at h;split at h
  ·rename_i es ms' qs' h1;cases h;exact VN h1
  ·cases h
 ·have e1:XE H zs d=Fy H zs.head?.join d:=by cases d<;>first|rfl|exact absurd ⟨_,rfl⟩ ve
  rw[e1]at h;exact R6 h
theorem Cc{H:bW}:∀ {ds es:aS} {zs:List (List (Option (Nat×Nat)))} {ms qs:aa},Du H zs ds=some (es,ms,qs)->(∀m∈ms,∃e sz rows,H[m]?=some (.row .sh e sz rows))/\∀m∈qs,∃e sz rows,H[m]?=some (.row .uq e sz rows):=by
 intro ds
 induction ds with
 |nil=>intro es zs ms qs h;simp only[Du,ax,cU]at h;obtain⟨rfl,rfl,rfl⟩:=h;simp
 |cons d ds ih=>
  intro es zs ms qs h;simp only[Du]at h;split at h
  ·rename_i e m q es' ms' qs' h1 h2;cases h;have a1:=XF h1;have a2:=ih h2;refine⟨fun x hx=>?_,fun x hx=>?_⟩<;>rcases ar.1 hx with hx|hx
   ·exact a1.1 x hx
   ·exact a2.1 x hx
   ·exact a1.2 x hx
   ·exact a2.2 x hx
  ·cases h
theorem Good.of{f:FuncId}{fn:Func}{c:Code}{ds:aS}{d:D}(hf:P.funcs[f]?=some fn)(hb:fn.body=some c)(hn:(fn.name== "runtime.NumGoroutine")=false)
 (hl:ds.length<=fn.ntmps) (h:(∀d∈ds,dU d)->∀Γ:vY,Γ.nt=fn.ntmps->AW P Γ c (Vx P fn d) ⟨CV 0 ds,[]⟩):Good P f ds d:=by
 refine⟨⟨fn,hf,by simp[hb],hn⟩,?_⟩;intro w Θ args bs hvs hargs hz hown h1;obtain⟨hlen,hat⟩:=hargs.at;refine calls_of_wp hf hb ?_;let Γ:vY:=⟨w,Θ,fun _=>False,fn.ntmps,fun _=>False,hvs⟩
 have hs:eM Γ ⟨CV 0 ds,[]⟩ (fun _=>none) Θ {tmps:=args.toArray++Array.replicate (fn.ntmps-args.toArray.size) undef,defers:=[]} w:=by
  refine⟨rfl,?_,fun _ _=>rfl,by simp,?_,by simp,hown,fun b _ _=>⟨rfl,h1 b⟩,fun b hb=>by have:=h1 b;omega,⟨rfl,rfl,rfl,bR _,fun _ _ _=>rfl⟩,⟨fun _=>0,by simp,by simp,by simp⟩⟩
  ·simp[Γ];omega
  ·intro t;rw[NV];simp only[AQ,DE,B3];cases hd:ds[t]? with
   |none=>exact⟨[],.of (.any _),by simp⟩
   |some x=>
    obtain⟨v,b,k1,k2,k3⟩:=hat t x hd;refine⟨b,?_,fun y hy=>hz y (k3 y hy)⟩;have hlt:t<args.length:=(aH.1 k1).1;have:(args.toArray++Array.replicate (fn.ntmps-args.toArray.size) undef).getD t undef=v:=by
     rw[cO,fp (by simpa using hlt)];simp[k1]
    rw[this];exact .of k2
 refine wp_mono (h hargs.rdb Γ rfl _ _ _ _ hs) ?_;rintro e a' w' ⟨Vs,κ0,Θ0,hs0,NO,nz,ds0,es,ms,qs,hres,hrv,T9,QX,rfl⟩;obtain⟨ρ0,hu0⟩:=hs0.wQ;have Ju:=Cc hrv;obtain⟨Θ1,ρ1,hs1,hu1,hm1,Ux,ZQ⟩:=eM.Po ms hs0 hu0 T9 (fun m hm=>by
  obtain⟨e,sz,rows,hH⟩:=Ju.1 m hm;exact⟨_,e,sz,rows,hH,rfl⟩)
 obtain⟨vs,bs',m1,m2,m3,m4,m5⟩:=IG hs0 hres;have hq:∀m e sz rows,Vs.H[m]?=some (.row .uq e sz rows)->∃v cs ns,κ0 m=some v/\0<sz/\(∀r∈rows,r.length=sz)/\w'.ownsRow 0 e sz v rows.length cs/\mS w' cs rows.flatten ns/\ns.Nodup/\(∀b∈ns,ρ1 b=m+1)/\∀g,v.ownBlock=some g->Θ1 g=m+2:=by
  intro m e sz rows hH;have hnm:m∉ms:=fun hm=>by
   obtain⟨e',sz',dM,Lp⟩:=Ju.1 m hm;rw[hH]at Lp;cases Lp
  have Vo:(kill Vs.H ms)[m]?=some (.row .uq e sz rows):=by rw[jl hnm];exact hH
  obtain⟨v,cs,ns,r1,r2,r3,r4,r5⟩:=hu1.rows m e sz rows Vo;obtain⟨p1,p2,v2,_,_,p3,_,_,p4,_⟩:=hs1.ob m _ Vo;rw[r1]at p3;cases p3;exact⟨v,cs,ns,r1,p1,p2,r2,r3,r4,r5,p4⟩
 obtain⟨c,ts,us,Ou,NP⟩:=II (w:=w') (vs:=vs) (fun b hb=>(hu1.free b hb).1) hq hs0.qX hrv QX (by omega) (fun i d hd=>by
  obtain⟨v,b,k1,k2,k3⟩:=m4 i d hd;exact⟨v,b,k1,k2,fun x hx=>Ux x (m5 x (k3 x hx))⟩) hm1
 have OS:∃v,(results fn a'.tmps).run P w'=.ok v w'/\E9 w' v (C5 es) c ts us:=by
  have hrun:(results fn a'.tmps).run P w'=.ok (if h:vs.toArray.size=1 then vs.toArray[0]else .tuple vs.toArray) w':=by
   rw[results_eq,qY];simp[m1]
  cases Ou with
  |nil=>exact⟨.tuple #[],by simpa using hrun,.iF [] [] [] [] [] .nil⟩
  |cons v vs d es b1 b2 t1 t2 u1 u2 hv xW=>
   cases xW with
   |nil=>
    simp only[cN];exact⟨v,by simpa using hrun,.v hv⟩
   |cons v2 vs d2 es b3 b4 t3 t4 u3 u4 Uw xW=>exact⟨.tuple (v::v2::vs).toArray,by simpa using hrun,.iF _ _ _ _ _ (.cons _ _ _ _ _ _ _ _ _ _ hv (.cons _ _ _ _ _ _ _ _ _ _ Uw xW))⟩
 obtain⟨v,a1V,Wl⟩:=OS;have WZ:Below w.heap.size w w':=⟨hs1.stays.os,hs1.stays.tape,hs1.stays.output,hs1.stays.size,fun b hb=>hs1.stays.block b hb (fun h=>h)⟩
 have Ot:∀b,Cj Γ b->w.heap.size<=b:=fun b h=>by
  rcases h with h|h
  ·exact h
  ·exact h.elim
 have hwr:∀b∈us,w.heap.size<=b/\Wr w' b:=by
  intro b hb';rcases NP.mem b hb' with h|⟨m,hm,hρ⟩
  ·obtain⟨⟨m,hm,hΘ⟩,_⟩:=NP.top b h;refine⟨Ot b (hs1.mine b (by omega)),?_⟩;obtain⟨e,sz,rows,hH⟩:=Ju.2 m hm;have:=NP;exact UF Wl b h
  ·have:=hu1.free b (by omega);exact⟨this.2.1.elim (Ot b) False.elim,this.2.2⟩
 have post:a'.defers=[]/\∃v,(results fn a'.tmps).run P w'=.ok v w'/\∃u bs' ts us,Ending.returned v=.returned u/\Below w.heap.size w w'/\E9 w' u (C5 es) bs' ts us/\(∀b∈bs',b<w.heap.size->Θ b=0)/\(∀b∈bs',b∉ts)/\us.Nodup/\
  (∀b∈us,w.heap.size<=b/\Wr w' b)/\∀b∈ts,b∈us:=by
  refine⟨hs0.defers,v,a1V,v,c,ts,us,rfl,WZ,Wl,fun b hb' hlt=>?_,fun b hb' ht=>?_,NP.nd,hwr,fun b hb'=>(NP.top b hb').2⟩
  ·have he:Θ1 b=Θ b:=(hs1.old b hlt (fun h=>h)).1;rw[<-he];exact NP.zero b hb'
  ·obtain⟨⟨m,_,hΘ⟩,_⟩:=NP.top b ht;have:=NP.zero b hb';omega
 rcases NO with rfl|rfl
 ·exact post
 ·exact post
end
end Go.Cx
